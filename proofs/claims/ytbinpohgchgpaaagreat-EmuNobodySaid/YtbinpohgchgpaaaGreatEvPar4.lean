/- A region that draws its order: the theorem. -/
import Derived.Test.YtbinpohgchgpaaaGreatEvPar3
namespace Go.Ev

/-- How a frame goes on from a call that it makes. -/
def Runs (P : Program) (m bs : Nat) (φ : Phi) (H : AH) (w : World) (fr : Frame) (cs : List Frame) (r : Res) : Prop :=
  ∃ φ' w', WR φ' bs r.H w' ∧ Ext m φ H φ' r.H ∧ Keep bs w w' ∧ match r.e with
    | .ret v => ∃ v', VR φ' v v' ∧ Steps P (lone fr cs w) (lone (fr.finish v') cs w')
    | .pan c => ∃ c', CR φ' c c' ∧ Steps P (lone fr cs w) (lone (fr.raise c') cs w')

/-- Every operation that is carried out comes to what was reckoned. -/
def OpsOk (P : Program) (call : Caller) (b : Frame) (ops : Array Oper) (k : List Item) (cs : List Frame) (bs : Nat) : Prop :=
  ∀ (a : Act) (i : Nat) (rest : List Nat) (o : Oper) (φ : Phi) (H : AH) (w : World) (m : Nat) (out : Out) (r : Res), m ≤ H.next → bs ≤ w.heap.size → ops[i]? = some o → Region.wanted o (yielded ops a.tmps) = true → WR φ bs H w →
    o.semAt b.roundOf a.eval = execOp a.eval o → OutR P m bs φ H w (execOp a.eval o) out → doCall P call H none out = some r → Runs P m bs φ H w (b.atR a (.inRegion ops (i :: rest) :: k)) cs r

theorem steady_spec {P : Program} {ops : Array Oper} {ms : List Nat} {bt cur : Tr AV} {H : AH} : ∀ {l : List Nat}, steady P ops ms bt cur H l = true → ∀ j ∈ l, ∃ o b, ops[j]? = some o ∧ wantedA ops o cur.get = some b ∧
    (b = true → ∃ v, readA P (avalE (envAt ops ms bt cur j)) H o.op = some v ∧ ∀ d, o.dst = some d → cur.get d = some v)
  | [], _, j, hj => by cases hj
  | x :: l, h, j, hj => by
    simp only [steady, Bool.and_eq_true] at h
    obtain ⟨h1, h2⟩ := h
    rcases List.mem_cons.1 hj with rfl | hj
    · split at h1
      · cases h1
      · rename_i o ho
        split at h1
        · cases h1
        · rename_i hw
          exact ⟨o, false, ho, hw, fun h => by cases h⟩
        · rename_i hw
          split at h1
          · rename_i v d hv hd
            refine ⟨o, true, ho, hw, fun _ => ⟨v, hv, fun d' hd' => ?_⟩⟩
            rw [hd] at hd'
            cases hd'
            cases hc : cur.get d with
            | none => rw [hc] at h1; cases h1
            | some y => rw [hc] at h1; simp only [Option.any_some] at h1; rw [beqA_eq h1]
          · rename_i v hv hd
            refine ⟨o, true, ho, hw, fun _ => ⟨v, hv, fun d' hd' => ?_⟩⟩
            rw [hd] at hd'
            cases hd'
          · cases h1
    · exact steady_spec h2 j hj

theorem eraseAll_get (t : Tr AV) : ∀ (l : List Tmp) (i : Nat) (a : AV), (eraseAll t l).get i = some a → i ∉ l ∧ t.get i = some a := by
  intro l
  induction l generalizing t with
  | nil => intro i a h; exact ⟨(fun h => by cases h), h⟩
  | cons d l ih =>
    intro i a h
    obtain ⟨h1, h2⟩ := ih _ i a h
    rw [Tr.get_erase] at h2
    split at h2
    · cases h2
    · rename_i hne
      refine ⟨fun hm => ?_, h2⟩
      rcases List.mem_cons.1 hm with rfl | hm
      · exact hne rfl
      · exact h1 hm

section
variable {P : Program} {call : Caller} {ops : Array Oper} {ms : List Nat} {bt cur cur' : Tr AV} {nt bs m : Nat} {idOf : Nat → Option Nat} {Dc Da : List Nat} {H H' : AH} {φ φ' : Phi} {w w' : World} {a : Act} {b : Frame} {k : List Item} {cs : List Frame}

/-- What a region comes to. -/
def ParOk (P : Program) (ops : Array Oper) (bt : Tr AV) (nt bs m : Nat) (φ : Phi) (H : AH) (w : World) (b : Frame) (k : List Item) (cs : List Frame) (cl : List Nat) (a : Act) : ParR → Prop
  | .fin t H' => ∃ φ' w' a', Steps P (lone (b.atR a (.inRegion ops cl :: k)) cs w) (lone (b.atR a' (.inRegion ops [] :: k)) cs w') ∧ a'.defers = a.defers ∧ TR φ' t nt a'.tmps ∧ WR φ' bs H' w' ∧ Ext m φ H φ' H' ∧ Keep bs w w'
  | .pan c H' => ∃ φ' w' a' cl' c', Steps P (lone (b.atR a (.inRegion ops cl :: k)) cs w) (lone ((b.atR a' (.inRegion ops cl' :: k)).raise c') cs w') ∧ a'.defers = a.defers ∧ TR φ' (eraseAll bt (dstsOf ops)) nt a'.tmps ∧ WR φ' bs H' w' ∧ Ext m φ H φ' H' ∧ Keep bs w w' ∧ CR φ' c c'
  | .stuck _ => True

theorem ParOk.step {cl cl' : List Nat} {a a' : Act} {w w' : World} {r : ParR} (hs : Steps P (lone (b.atR a (.inRegion ops cl :: k)) cs w) (lone (b.atR a' (.inRegion ops cl' :: k)) cs w')) (hd : a'.defers = a.defers)
    (he : Ext m φ H φ' H') (hk : Keep bs w w') (h : ParOk P ops bt nt bs m φ' H' w' b k cs cl' a' r) : ParOk P ops bt nt bs m φ H w b k cs cl a r := by
  cases r with
  | fin t H1 =>
    obtain ⟨φ1, w1, a1, g1, g2, g3, g4, g5, g6⟩ := h
    exact ⟨φ1, w1, a1, hs.trans g1, g2.trans hd, g3, g4, he.trans g5, hk.trans g6⟩
  | pan c H1 =>
    obtain ⟨φ1, w1, a1, cl1, c1, g1, g2, g3, g4, g5, g6, g7⟩ := h
    exact ⟨φ1, w1, a1, cl1, c1, hs.trans g1, g2.trans hd, g3, g4, he.trans g5, hk.trans g6, g7⟩
  | stuck s => trivial

/-- An operation that is not light: both go together. -/
theorem PInv.together (good : Good ops ms) (hop : OpsOk P call b ops k cs bs) (h : PInv P ops ms bt nt bs m idOf Dc Da cur H φ w a.tmps) {c : Nat} {o : Oper} (ho : ops[c]? = some o) (hi : c ∉ Da)
    (hneeds : ∀ j, Needs ms c j → j ∈ Dc) (hcl : Closed ms Da) (hsub : ∀ j ∈ Dc, j ∈ Da) (hl : isLight o.op = false) (hwant : wantedA ops o cur.get = some true) (rest : List Nat) :
    match parStep P call ops ms bt Da c nt cur H o with
    | .go cur' H' => ∃ φ' w' a', Steps P (lone (b.atR a (.inRegion ops (c :: rest) :: k)) cs w) (lone (b.atR a' (.inRegion ops rest :: k)) cs w') ∧ a'.defers = a.defers ∧
        PInv P ops ms bt nt bs m idOf (c :: Dc) (c :: Da) cur' H' φ' w' a'.tmps ∧ Ext m φ H φ' H' ∧ Keep bs w w'
    | .pan ch H' => ParOk P ops bt nt bs m φ H w b k cs (c :: rest) a (.pan ch H')
    | .stuck _ => True := by
  have hda : dstAt ops c = o.dst := by unfold dstAt; rw [ho]; rfl
  have hwc := h.guard good ho hneeds hwant
  have hneedsA : ∀ j, Needs ms c j → j ∈ Da := fun j hj => hsub j (hneeds j hj)
  have hrel : Rel φ (aval cur) a.eval o.op.operands.toList := by
    intro x hx y hy
    have hae : ∀ x, aval cur x = avalE cur.get x := fun x => by cases x <;> rfl
    rw [hae] at hy
    refine avalE_rel (l := o.op.operands.toList) (fun t ht z hz => h.tr t z (.inr ⟨fun j hj hjd => ?_, hz⟩)) x hx y hy
    have htt : t ∈ tmpsOf o := List.mem_filterMap.2 ⟨.tmp t, ht, rfl⟩
    rcases good.pair c j o t ho htt hjd with rfl | hh | hh
    · exact hi hj.1
    · exact hj.2 (hneeds j hh)
    · exact hi (hcl j hj.1 c hh)
  simp only [isLight, Bool.or_eq_false_iff] at hl
  unfold parStep
  rw [hwant]
  simp only [cond_true, hl.1, hl.2, cond_false]
  unfold parHeavy
  cases hout : heavy P (aval cur) H o.op with
  | none => trivial
  | some out =>
    simp only
    cases hres : doCall P call H none out with
    | none => trivial
    | some r =>
      have hnd : ∀ c, o.op ≠ .defer c := by
        intro cc hcc
        rw [hcc] at hout
        simp only [heavy, hDefer] at hout
        split at hout
        · split at hout
          · rename_i fn first captured l _ _
            cases hy : isYield fn with
            | true => rw [hy] at hout; cases hout
            | false =>
              rw [hy] at hout
              cases hout
              simp [doCall] at hres
          · cases hout
        · cases hout
      have hsound := heavy_sound (P := P) (m := H.next) h.wr h.hb (Nat.le_refl _) hrel hout
      obtain ⟨φ', w', g1, g2, g3, g4⟩ := hop a c rest o φ H w H.next out r (Nat.le_refl _) h.hb ho hwc h.wr (semAt_of _ _ hnd) hsound hres
      obtain ⟨e, up, H1⟩ := r
      simp only at g1 g2 g3 g4
      cases e with
      | pan ch =>
        simp only [parRes]
        obtain ⟨c', hc, hsteps⟩ := g4
        refine ⟨φ', w', a, c :: rest, c', hsteps, rfl, ⟨h.size, fun i x hx => ?_⟩, g1, g2.mono h.hm, g3, hc⟩
        obtain ⟨hx1, hx2⟩ := eraseAll_get bt (dstsOf ops) i x hx
        have hnd : ∀ j, dstAt ops j ≠ some i := by
          intro j hj
          obtain ⟨o', ho', hd'⟩ := dstAt_some hj
          exact hx1 (List.mem_filterMap.2 ⟨o', Array.mem_toList_iff.2 (Array.mem_of_getElem? ho'), hd'⟩)
        obtain ⟨v, q1, q2⟩ := h.tr i x (.inr ⟨fun j _ => hnd j, by rw [h.un i fun j _ => hnd j]; exact hx2⟩)
        exact ⟨v, q1, q2.mono g2.1⟩
      | ret v =>
        simp only [parRes]
        cases hset : setDst nt cur o.dst v with
        | none => trivial
        | some cur' =>
          simp only
          cases hst : steady P ops ms bt cur' H1 (again ops ms Da c) with
          | false => trivial
          | true =>
            simp only [cond_true]
            obtain ⟨v', hv, hsteps⟩ := g4
            rw [finish_op ho] at hsteps
            obtain ⟨s1, s2⟩ := setDst_spec ho hset
            refine ⟨φ', w', a.put o.dst v', hsteps, put_defers, ?_, g2.mono h.hm, g3⟩
            refine ⟨g1, Nat.le_trans h.hb g3.1, Nat.le_trans h.hm g2.2.1, by rw [put_size]; exact h.size, ?_, ?_, fun j id hj => Nat.lt_of_lt_of_le (h.ids j id hj) g2.2.1, h.inj, ?_⟩
            · intro t x hx
              by_cases htd : o.dst = some t
              · have hd := s1 t htd
                rcases hx with ⟨j, hj, hjd, _⟩ | ⟨_, hx⟩
                · have := good.one j c t hjd hd.2.2
                  subst this
                  exact (hj.2 (List.mem_cons_self ..)).elim
                · rw [hd.2.1] at hx
                  cases hx
                  rw [htd]
                  exact ⟨v', put_tmps (by rw [h.size]; exact hd.1), hv⟩
              · rw [put_other htd]
                have hview : View ops bt cur Dc Da t x := by
                  rcases hx with ⟨j, hj, hjd, hb⟩ | ⟨hno, hx⟩
                  · rcases List.mem_cons.1 hj.1 with rfl | hj1
                    · exact (hj.2 (List.mem_cons_self ..)).elim
                    · exact .inl ⟨j, ⟨hj1, fun hd => hj.2 (List.mem_cons_of_mem _ hd)⟩, hjd, hb⟩
                  · refine .inr ⟨fun j hj hjd => ?_, by rw [← s2 t (by rw [hda]; exact htd)]; exact hx⟩
                    refine hno j ⟨List.mem_cons_of_mem _ hj.1, fun hd => ?_⟩ hjd
                    rcases List.mem_cons.1 hd with rfl | hd
                    · exact hi hj.1
                    · exact hj.2 hd
                obtain ⟨u, q1, q2⟩ := h.tr t x hview
                exact ⟨u, q1, q2.mono g2.1⟩
            · intro t ht
              rw [s2 t (ht c (List.mem_cons_self ..))]
              exact h.un t fun j hj => ht j (List.mem_cons_of_mem _ hj)
            · intro j hj
              have hjc : j ≠ c := fun e => hj.2 (e ▸ List.mem_cons_self ..)
              have hjDa : j ∈ Da := by
                rcases List.mem_cons.1 hj.1 with e | hd
                · exact (hjc e).elim
                · exact hd
              have hjDc : j ∉ Dc := fun hd => hj.2 (List.mem_cons_of_mem _ hd)
              obtain ⟨o', b', v'', p1, p2, p3, p4⟩ := h.pend j ⟨hjDa, hjDc⟩
              have hw' : wantedA ops o' cur'.get = wantedA ops o' cur.get := wantedA_keep good p1 (fun d h => h) hi (hcl j hjDa) s2
              have hdj : ∀ d, o'.dst = some d → cur'.get d = cur.get d := by
                intro d hd
                refine s2 d fun hd' => ?_
                have : dstAt ops j = some d := by unfold dstAt; rw [p1]; exact hd
                exact hjc (good.one j c d this hd')
              have p5 := p4.keep (cur' := cur') (fun d h => h) hi (hcl j hjDa) s2
              rcases p5 with ⟨rfl, rfl⟩ | ⟨rfl, q, ρ, e, r⟩ | ⟨rfl, ρ, ob, g, id, e, q1, q2, q3, q4, q5, q6⟩
              · exact ⟨o', false, _, p1, by rw [hw']; exact p2, fun d hd => ⟨(p3 d hd).1, by rw [hdj d hd]; exact (p3 d hd).2⟩, .inl ⟨rfl, rfl⟩⟩
              · have hag : j ∈ again ops ms Da c := by
                  refine List.mem_filter.2 ⟨hjDa, ?_⟩
                  rw [p1]
                  simp only [Option.any_some, q, Bool.true_and, Bool.not_eq_true']
                  exact Bool.eq_false_iff.2 fun hh => hjDc (hneeds j (needs_any.1 hh))
                obtain ⟨o2, b2, t1, t2, t3⟩ := steady_spec hst j hag
                rw [p1] at t1
                cases t1
                rw [hw', p2] at t2
                cases t2
                obtain ⟨v2, t4, t5⟩ := t3 rfl
                exact ⟨o', true, v2, p1, by rw [hw']; exact p2, fun d hd => ⟨(p3 d hd).1, t5 d hd⟩, .inr (.inl ⟨rfl, q, _, fun _ _ => rfl, t4⟩)⟩
              · obtain ⟨u1, u2⟩ := g2.2.2 id (h.ids j id q3) q5
                exact ⟨o', true, v'', p1, by rw [hw']; exact p2, fun d hd => ⟨(p3 d hd).1, by rw [hdj d hd]; exact (p3 d hd).2⟩, .inr (.inr ⟨rfl, ρ, ob, g, id, e, q1, q2, q3, q4, u1, by rw [u2]; exact q6⟩)⟩

/-- Light operations ahead of the one in hand. -/
theorem adv_many (good : Good ops ms) : ∀ (pre : List Nat) {post : List Nat} {c : Nat} {Da : List Nat} {idOf : Nat → Option Nat} {cur : Tr AV} {H : AH}, PInv P ops ms bt nt bs m idOf Dc Da cur H φ w a.tmps → Closed ms Da → (∀ j ∈ Dc, j ∈ Da) →
    Topo ms Da (pre ++ c :: post) → (∀ i ∈ pre, (ops[i]?).any (isLight ·.op) = true) →
    (∃ s, parLoop P call ops ms bt nt (pre ++ c :: post) Da cur H = .stuck s) ∨
    ∃ idOf' Da' cur' H', PInv P ops ms bt nt bs m idOf' Dc Da' cur' H' φ w a.tmps ∧ parLoop P call ops ms bt nt (pre ++ c :: post) Da cur H = parLoop P call ops ms bt nt (c :: post) Da' cur' H' ∧ Ext m φ H φ H' ∧
      Closed ms Da' ∧ (∀ j ∈ Dc, j ∈ Da') ∧ Topo ms Da' (c :: post) ∧ (∀ j, j ∈ Da' ↔ j ∈ Da ∨ j ∈ pre)
  | [], post, c, Da, idOf, cur, H, h, hcl, hsub, ht, hl => .inr ⟨idOf, Da, cur, H, h, rfl, Ext.refl _ _ _, hcl, hsub, ht, by simp⟩
  | i :: pre, post, c, Da, idOf, cur, H, h, hcl, hsub, ht, hl => by
    obtain ⟨t1, t2, t3⟩ := ht
    have hli := hl i (List.mem_cons_self ..)
    cases ho : ops[i]? with
    | none => rw [ho] at hli; cases hli
    | some o =>
      rw [ho] at hli
      simp only [Option.any_some] at hli
      simp only [List.cons_append, parLoop, ho]
      cases hs : parStep P call ops ms bt Da i nt cur H o with
      | stuck s => exact .inl ⟨s, rfl⟩
      | pan ch H1 =>
        exfalso
        unfold parStep at hs
        split at hs
        · cases hs
        · rename_i b hb
          cases b with
          | false =>
            simp only [cond_false, parPut] at hs
            split at hs <;> cases hs
          | true =>
            simp only [cond_true] at hs
            cases hr : isRead o.op with
            | true =>
              rw [hr] at hs
              simp only [cond_true, parRead] at hs
              split at hs
              · simp only [parPut] at hs
                split at hs <;> cases hs
              · cases hs
            | false =>
              rw [hr] at hs
              simp only [cond_false] at hs
              have : isMake o.op = true := by simpa [isLight, hr] using hli
              rw [this] at hs
              simp only [cond_true] at hs
              cases hmd : made P (aval cur) o.op with
              | none => rw [hmd] at hs; simp [parMake] at hs
              | some r =>
                obtain ⟨ob, g⟩ := r
                obtain ⟨hh, n⟩ := H
                rw [hmd] at hs
                simp only [parMake, parPut] at hs
                split at hs <;> cases hs
      | go cur' H' =>
        obtain ⟨idOf', g1, g2⟩ := h.adv good ho t2 t1 hcl hsub (.inl hli) hs
        rcases adv_many good pre (post := post) (c := c) g1 (hcl.cons t1) (fun j hj => List.mem_cons_of_mem _ (hsub j hj)) t3 (fun j hj => hl j (List.mem_cons_of_mem _ hj)) with ⟨s, hs⟩ | ⟨idOf2, Da2, cur2, H2, q1, q2, q3, q4, q5, q6, q7⟩
        · exact .inl ⟨s, hs⟩
        · refine .inr ⟨idOf2, Da2, cur2, H2, q1, q2, g2.trans q3, q4, q5, q6, fun j => ?_⟩
          rw [q7]
          simp only [List.mem_cons]
          constructor
          · rintro ((h | h) | h)
            · exact .inr (.inl h)
            · exact .inl h
            · exact .inr (.inr h)
          · rintro (h | h | h)
            · exact .inl (.inr h)
            · exact .inl (.inl h)
            · exact .inr h

theorem par_main (good : Good ops ms) (hop : OpsOk P call b ops k cs bs) : ∀ (cl : List Nat) {rest Da Dc : List Nat} {last : Option Nat} {idOf : Nat → Option Nat} {cur : Tr AV} {H : AH} {φ : Phi} {w : World} {a : Act},
    Topo ms Dc cl → Closed ms Dc → Topo ms Da rest → Closed ms Da → (∀ j ∈ Dc, j ∈ Da) → (∀ j ∈ cl, j ∈ Da ∨ j ∈ rest) → (∀ j ∈ rest, j ∈ cl) → (∀ j ∈ Da, j ∈ Dc ∨ j ∈ cl) → okOrder ops ms last rest = true →
    PInv P ops ms bt nt bs m idOf Dc Da cur H φ w a.tmps → ParOk P ops bt nt bs m φ H w b k cs cl a (parLoop P call ops ms bt nt rest Da cur H)
  | [], rest, Da, Dc, last, idOf, cur, H, φ, w, a, ht, hc, hta, hca, hsub, h1, h2, h3, hok, h => by
    have : rest = [] := List.eq_nil_iff_forall_not_mem.2 fun j hj => by cases h2 j hj
    subst this
    refine ⟨φ, w, a, Steps.refl P _, rfl, ⟨h.size, fun i x hx => h.tr i x (.inr ⟨fun j hj => ?_, hx⟩)⟩, h.wr, Ext.refl _ _ _, Keep.refl _ _⟩
    rcases h3 j hj.1 with hd | hd
    · exact (hj.2 hd).elim
    · cases hd
  | c :: cl, rest, Da, Dc, last, idOf, cur, H, φ, w, a, ht, hc, hta, hca, hsub, h1, h2, h3, hok, h => by
    obtain ⟨t1, t2, t3⟩ := ht
    -- the machine catches up by one
    have catchUp : ∀ {rest Da : List Nat} {last : Option Nat} {idOf : Nat → Option Nat} {cur : Tr AV} {H : AH}, c ∈ Da → Topo ms Da rest → Closed ms Da → (∀ j ∈ Dc, j ∈ Da) → (∀ j ∈ c :: cl, j ∈ Da ∨ j ∈ rest) → (∀ j ∈ rest, j ∈ c :: cl) → (∀ j ∈ Da, j ∈ Dc ∨ j ∈ c :: cl) → okOrder ops ms last rest = true →
        PInv P ops ms bt nt bs m idOf Dc Da cur H φ w a.tmps → ParOk P ops bt nt bs m φ H w b k cs (c :: cl) a (parLoop P call ops ms bt nt rest Da cur H) := by
      intro rest Da last idOf cur H hcDa hta hca hsub h1 h2 h3 hok h
      obtain ⟨φ', w', a', s1, s2, s3, s4, s5⟩ := h.exec good ⟨hcDa, t2⟩ t1 hc
      refine ParOk.step (.one (s1 b k cs cl)) s2 s4 s5 ?_
      refine par_main good hop cl t3 (hc.cons t1) hta hca (fun j hj => ?_) (fun j hj => h1 j (List.mem_cons_of_mem _ hj)) (fun j hj => ?_) (fun j hj => ?_) hok s3
      · rcases List.mem_cons.1 hj with rfl | hj
        · exact hcDa
        · exact hsub j hj
      · rcases List.mem_cons.1 (h2 j hj) with rfl | hj'
        · exact (hta.not_mem hj hcDa).elim
        · exact hj'
      · rcases h3 j hj with hd | hd
        · exact .inl (List.mem_cons_of_mem _ hd)
        · rcases List.mem_cons.1 hd with rfl | hd
          · exact .inl (List.mem_cons_self ..)
          · exact .inr hd
    by_cases hcDa : c ∈ Da
    · exact catchUp hcDa hta hca hsub h1 h2 h3 hok h
    · have hcr : c ∈ rest := (h1 c (List.mem_cons_self ..)).resolve_left hcDa
      obtain ⟨pre, post, rfl⟩ := List.append_of_mem hcr
      have hpre : ∀ i ∈ pre, (ops[i]?).any (isLight ·.op) = true := by
        rcases okOrder_pre pre post c last hok with ⟨e, he, hn⟩ | ⟨_, hh⟩
        · have := hsub e (t1 e hn)
          exact (hta.not_mem (List.mem_append_left _ he) this).elim
        · exact hh
      rcases adv_many (call := call) good pre (post := post) (c := c) h hca hsub hta hpre with ⟨s, hs⟩ | ⟨idOf2, Da2, cur2, H2, q1, q2, q3, q4, q5, q6, q7⟩
      · rw [hs]; trivial
      · rw [q2]
        refine ParOk.step (Steps.refl P _) rfl q3 (Keep.refl _ _) ?_
        obtain ⟨u1, u2, u3⟩ := q6
        obtain ⟨last2, hok2⟩ := okOrder_tail pre (c :: post) last hok
        have hok3 : ∃ last3, okOrder ops ms last3 post = true := okOrder_tail [c] post last2 hok2
        have m1 : ∀ j ∈ c :: cl, j ∈ c :: Da2 ∨ j ∈ post := by
          intro j hj
          rcases h1 j hj with hh | hh
          · exact .inl (List.mem_cons_of_mem _ ((q7 j).2 (.inl hh)))
          · rcases List.mem_append.1 hh with hh | hh
            · exact .inl (List.mem_cons_of_mem _ ((q7 j).2 (.inr hh)))
            · rcases List.mem_cons.1 hh with rfl | hh
              · exact .inl (List.mem_cons_self ..)
              · exact .inr hh
        have m2 : ∀ j ∈ post, j ∈ c :: cl := fun j hj => h2 j (List.mem_append_right _ (List.mem_cons_of_mem _ hj))
        have m3 : ∀ j ∈ c :: Da2, j ∈ Dc ∨ j ∈ c :: cl := by
          intro j hj
          rcases List.mem_cons.1 hj with rfl | hj
          · exact .inr (List.mem_cons_self ..)
          · rcases (q7 j).1 hj with hh | hh
            · exact h3 j hh
            · exact .inr (h2 j (List.mem_append_left _ hh))
        simp only [parLoop]
        cases ho : ops[c]? with
        | none => trivial
        | some o =>
          simp only
          obtain ⟨last3, hok3⟩ := hok3
          by_cases hlight : isLight o.op = true ∨ wantedA ops o cur2.get = some false
          · cases hs : parStep P call ops ms bt Da2 c nt cur2 H2 o with
            | stuck s => trivial
            | pan ch H3 =>
              exfalso
              unfold parStep at hs
              split at hs
              · cases hs
              · rename_i bb hb
                cases bb with
                | false =>
                  simp only [cond_false, parPut] at hs
                  split at hs <;> cases hs
                | true =>
                  have hlight : isLight o.op = true := hlight.resolve_right (by rw [hb]; simp)
                  simp only [cond_true] at hs
                  cases hr : isRead o.op with
                  | true =>
                    rw [hr] at hs
                    simp only [cond_true, parRead] at hs
                    split at hs
                    · simp only [parPut] at hs
                      split at hs <;> cases hs
                    · cases hs
                  | false =>
                    rw [hr] at hs
                    simp only [cond_false] at hs
                    have : isMake o.op = true := by simpa [isLight, hr] using hlight
                    rw [this] at hs
                    simp only [cond_true] at hs
                    cases hmd : made P (aval cur2) o.op with
                    | none => rw [hmd] at hs; simp [parMake] at hs
                    | some r =>
                      obtain ⟨ob, g⟩ := r
                      obtain ⟨hh, n⟩ := H2
                      rw [hmd] at hs
                      simp only [parMake, parPut] at hs
                      split at hs <;> cases hs
            | go cur3 H3 =>
              simp only
              obtain ⟨idOf3, g1, g2⟩ := q1.adv good ho u2 u1 q4 q5 hlight hs
              refine ParOk.step (Steps.refl P _) rfl g2 (Keep.refl _ _) ?_
              exact catchUp (List.mem_cons_self ..) u3 (q4.cons u1) (fun j hj => List.mem_cons_of_mem _ (q5 j hj)) m1 m2 m3 hok3 g1
          · cases hw : wantedA ops o cur2.get with
            | none =>
              have : parStep P call ops ms bt Da2 c nt cur2 H2 o = .stuck "guard" := by unfold parStep; rw [hw]
              rw [this]; trivial
            | some bb =>
              have hbt : bb = true := by
                cases bb with
                | true => rfl
                | false => exact (hlight (.inr hw)).elim
              subst hbt
              have hnl : isLight o.op = false := Bool.eq_false_iff.2 fun hh => hlight (.inl hh)
              have hhv := q1.together (call := call) good hop ho u2 t1 q4 q5 hnl hw cl
              cases hs : parStep P call ops ms bt Da2 c nt cur2 H2 o with
              | stuck s => trivial
              | pan ch H3 => rw [hs] at hhv; exact hhv
              | go cur3 H3 =>
                rw [hs] at hhv
                obtain ⟨φ', w', a', s1, s2, s3, s4, s5⟩ := hhv
                refine ParOk.step s1 s2 s4 s5 ?_
                refine par_main good hop cl t3 (hc.cons t1) u3 (q4.cons u1) (fun j hj => ?_) (fun j hj => m1 j (List.mem_cons_of_mem _ hj)) (fun j hj => ?_) (fun j hj => ?_) hok3 s3
                · rcases List.mem_cons.1 hj with rfl | hj
                  · exact List.mem_cons_self ..
                  · exact List.mem_cons_of_mem _ (q5 j hj)
                · rcases List.mem_cons.1 (m2 j hj) with rfl | hj'
                  · exact (u3.not_mem hj (List.mem_cons_self ..)).elim
                  · exact hj'
                · rcases m3 j hj with hd | hd
                  · exact .inl (List.mem_cons_of_mem _ hd)
                  · rcases List.mem_cons.1 hd with rfl | hd
                    · exact .inl (List.mem_cons_self ..)
                    · exact .inr hd

/-- The theorem: whatever order is drawn. -/
theorem par_sound {pl : Plan} (hpl : plan ops = some pl) (hmix : P.follows .mixedOrders = true) (hop : OpsOk P call b ops k cs bs) (t : Nat) (hw : WR φ bs H w) (hb : bs ≤ w.heap.size) (hm : m ≤ H.next) (ht : TR φ bt nt a.tmps) :
    ParOk P ops bt nt bs m φ H w b k cs (Region.schedule (P.follows .mixedOrders) ops t) a (parLoop P call ops pl.ms bt nt pl.order [] bt H) := by
  obtain ⟨h1, h2, h3, h4, good⟩ := plan_spec hpl
  obtain ⟨g1, g2, g3⟩ := schedule_topo hmix h1 t
  refine par_main good hop _ (idOf := fun _ => none) g1 (Closed.nil _) h2 (Closed.nil _) (fun _ h => h) (fun j hj => .inr ((h3 j).1 (g3 j hj))) (fun j hj => g2 j ((h3 j).2 hj)) (fun j hj => by cases hj) h4 ?_
  refine ⟨hw, hb, hm, ht.1, fun t x hx => ?_, fun _ _ => rfl, (fun _ _ h => by cases h), (fun _ _ _ h => by cases h), (fun j hj => by cases hj.1)⟩
  rcases hx with ⟨j, hj, _⟩ | ⟨_, hx⟩
  · cases hj.1
  · exact ht.2 t x hx
end
end Go.Ev
