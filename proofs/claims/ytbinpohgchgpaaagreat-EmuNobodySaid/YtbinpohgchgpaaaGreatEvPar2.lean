/- A region that draws its order: the invariant. -/
import Derived.Test.YtbinpohgchgpaaaGreatEvPar1
namespace Go.Ev

def CR (φ : Phi) : Chain → List PanicEntry → Prop
  | [], l => l = []
  | (v, r) :: c, l => ∃ v' l', l = { v := v', recovered := r } :: l' ∧ VR φ v v' ∧ CR φ c l'

def Pending (Dc Da : List Nat) (j : Nat) : Prop := j ∈ Da ∧ j ∉ Dc

/-- What a slot stands for. -/
def View (ops : Array Oper) (bt cur : Tr AV) (Dc Da : List Nat) (t : Tmp) (a : AV) : Prop :=
  (∃ j, Pending Dc Da j ∧ dstAt ops j = some t ∧ bt.get t = some a) ∨ ((∀ j, Pending Dc Da j → dstAt ops j ≠ some t) ∧ cur.get t = some a)

def EnvEq (ops : Array Oper) (ms : List Nat) (bt cur : Tr AV) (j : Nat) (o : Oper) (ρ : Operand → Option AV) : Prop :=
  ∀ x ∈ o.op.operands.toList, ρ x = avalE (envAt ops ms bt cur j) x

def PendV (P : Program) (ops : Array Oper) (ms : List Nat) (bt cur : Tr AV) (H : AH) (φ : Phi) (m : Nat) (idOf : Nat → Option Nat) (j : Nat) (o : Oper) (b : Bool) (v : AV) : Prop :=
  (b = false ∧ v = .undef) ∨
  (b = true ∧ isRead o.op = true ∧ ∃ ρ, EnvEq ops ms bt cur j o ρ ∧ readA P ρ H o.op = some v) ∨
  (b = true ∧ ∃ ρ ob g id, EnvEq ops ms bt cur j o ρ ∧ made P ρ o.op = some (ob, g) ∧ v = g id ∧ idOf j = some id ∧ m ≤ id ∧ φ id = none ∧ H.obj id = some ob)

structure PInv (P : Program) (ops : Array Oper) (ms : List Nat) (bt : Tr AV) (nt bs m : Nat) (idOf : Nat → Option Nat) (Dc Da : List Nat) (cur : Tr AV) (H : AH) (φ : Phi) (w : World) (tmps : Array Value) : Prop where
  wr : WR φ bs H w
  hb : bs ≤ w.heap.size
  hm : m ≤ H.next
  size : tmps.size = nt
  tr : ∀ t a, View ops bt cur Dc Da t a → ∃ v, tmps[t]? = some v ∧ VR φ a v
  un : ∀ t, (∀ j ∈ Da, dstAt ops j ≠ some t) → cur.get t = bt.get t
  ids : ∀ j id, idOf j = some id → id < H.next
  inj : ∀ j j' id, idOf j = some id → idOf j' = some id → j = j'
  pend : ∀ j, Pending Dc Da j → ∃ o b v, ops[j]? = some o ∧ wantedA ops o cur.get = some b ∧ (∀ d, o.dst = some d → d < nt ∧ cur.get d = some v) ∧ PendV P ops ms bt cur H φ m idOf j o b v

section
variable {P : Program} {call : Caller} {ops : Array Oper} {ms : List Nat} {bt cur cur' : Tr AV} {nt bs m : Nat} {idOf : Nat → Option Nat} {Dc Da : List Nat} {H H' : AH} {φ φ' : Phi} {w : World} {tmps : Array Value}

theorem envAt_late {i : Nat} {t : Tmp} (h : ∃ j, dstAt ops j = some t ∧ ¬ Needs ms i j) : envAt ops ms bt cur i t = bt.get t := by
  unfold envAt; rw [late_spec.2 h]; rfl
theorem envAt_now {i : Nat} {t : Tmp} (h : ¬ ∃ j, dstAt ops j = some t ∧ ¬ Needs ms i j) : envAt ops ms bt cur i t = cur.get t := by
  unfold envAt
  rw [Bool.eq_false_iff.2 fun hl => h (late_spec.1 hl)]; rfl

/-- Other slots, other writers. -/
theorem envAt_keep {j i : Nat} {s : Option Tmp} (hdst : ∀ d, s = some d → dstAt ops i = some d) (hi : i ∉ Da) (hn : ∀ k, Needs ms j k → k ∈ Da)
    (hk : ∀ t, s ≠ some t → cur'.get t = cur.get t) : envAt ops ms bt cur' j = envAt ops ms bt cur j := by
  funext t
  by_cases hl : ∃ k, dstAt ops k = some t ∧ ¬ Needs ms j k
  · rw [envAt_late hl, envAt_late hl]
  · rw [envAt_now hl, envAt_now hl]
    refine hk t fun hs => ?_
    have hd := hdst t hs
    exact hi (hn i (Classical.byContradiction fun h => hl ⟨i, hd, h⟩))

theorem wantedA_keep (good : Good ops ms) {j i : Nat} {o : Oper} {s : Option Tmp} (ho : ops[j]? = some o) (hdst : ∀ d, s = some d → dstAt ops i = some d) (hi : i ∉ Da) (hn : ∀ k, Needs ms j k → k ∈ Da)
    (hk : ∀ t, s ≠ some t → cur'.get t = cur.get t) : wantedA ops o cur'.get = wantedA ops o cur.get := by
  unfold wantedA
  split
  · rfl
  · rename_i g want hg
    have hgd := hn g (good.guard j o g want ho hg)
    split
    · rfl
    · rename_i d hd
      have : cur'.get d = cur.get d := hk d fun hs => by
        have := good.one g i d hd (hdst d hs)
        subst this
        exact hi hgd
      rw [this]

theorem setDst_spec {o : Oper} {i : Nat} {v : AV} (ho : ops[i]? = some o) (h : setDst nt cur o.dst v = some cur') :
    (∀ d, o.dst = some d → d < nt ∧ cur'.get d = some v ∧ dstAt ops i = some d) ∧ (∀ t, dstAt ops i ≠ some t → cur'.get t = cur.get t) := by
  have hda : dstAt ops i = o.dst := by unfold dstAt; rw [ho]; rfl
  rw [hda]
  cases hd : o.dst with
  | none => rw [hd] at h; cases h; exact ⟨(fun d h => by cases h), fun _ _ => rfl⟩
  | some d =>
    rw [hd] at h
    simp only [setDst] at h
    obtain ⟨h1, h2⟩ := bif_some h
    cases h2
    refine ⟨?_, ?_⟩
    · intro d' hd'
      cases hd'
      exact ⟨Nat.le_of_ble_eq_true h1, by rw [Tr.get_set]; simp, rfl⟩
    · intro t ht
      rw [Tr.get_set, if_neg]
      intro e
      exact ht (by rw [e])

theorem PendV.keep {j i : Nat} {o : Oper} {s : Option Tmp} {b : Bool} {v : AV} (h : PendV P ops ms bt cur H φ m idOf j o b v) (hdst : ∀ d, s = some d → dstAt ops i = some d) (hi : i ∉ Da) (hn : ∀ k, Needs ms j k → k ∈ Da)
    (hk : ∀ t, s ≠ some t → cur'.get t = cur.get t) : PendV P ops ms bt cur' H φ m idOf j o b v := by
  unfold PendV EnvEq at h ⊢
  rw [envAt_keep hdst hi hn hk]
  exact h

/-- The plan's side goes on by an operation that is light or not wanted. -/
theorem PInv.adv (good : Good ops ms) (h : PInv P ops ms bt nt bs m idOf Dc Da cur H φ w tmps) {i : Nat} {o : Oper} (ho : ops[i]? = some o) (hi : i ∉ Da) (hneeds : ∀ j, Needs ms i j → j ∈ Da)
    (hcl : Closed ms Da) (hsub : ∀ j ∈ Dc, j ∈ Da) (hl : isLight o.op = true ∨ wantedA ops o cur.get = some false) (hs : parStep P call ops ms bt Da i nt cur H o = .go cur' H') :
    ∃ idOf', PInv P ops ms bt nt bs m idOf' Dc (i :: Da) cur' H' φ w tmps ∧ Ext m φ H φ H' := by
  have hiDc : i ∉ Dc := fun hd => hi (hsub i hd)
  -- what the operation saw
  have hseen : ∀ t ∈ tmpsOf o, cur.get t = envAt ops ms bt cur i t := by
    intro t ht
    by_cases hl : ∃ k, dstAt ops k = some t ∧ ¬ Needs ms i k
    · rw [envAt_late hl]
      obtain ⟨k, hk, hnk⟩ := hl
      have hkDa : k ∉ Da := by
        intro hkd
        rcases good.pair i k o t ho ht hk with rfl | hh | hh
        · exact hi hkd
        · exact hnk hh
        · exact hi (hcl k hkd i hh)
      exact h.un t fun j hj hd => by
        have := good.one j k t hd hk
        subst this
        exact hkDa hj
    · rw [envAt_now hl]
  have henv : ∀ cur'', (∀ t, dstAt ops i ≠ some t → cur''.get t = cur.get t) → EnvEq ops ms bt cur'' i o (aval cur) := by
    intro cur'' hk x hx
    rw [envAt_keep (fun d h => h) hi hneeds hk]
    cases x with
    | tmp t => exact hseen t (List.mem_filterMap.2 ⟨.tmp t, hx, rfl⟩)
    | const c => rfl
    | global g => rfl
    | func f => rfl
  -- the rest of the invariant
  have key : ∀ (v : AV) (H1 : AH) (idOf' : Nat → Option Nat) (b : Bool), setDst nt cur o.dst v = some cur' → wantedA ops o cur.get = some b → WR φ bs H1 w → H.next ≤ H1.next →
      (∀ j id, idOf' j = some id → id < H1.next) → (∀ j j' id, idOf' j = some id → idOf' j' = some id → j = j') → (∀ j, j ≠ i → idOf' j = idOf j) →
      (∀ id ob, H.obj id = some ob → H1.obj id = some ob) →
      PendV P ops ms bt cur' H1 φ m idOf' i o b v → PInv P ops ms bt nt bs m idOf' Dc (i :: Da) cur' H1 φ w tmps := by
    intro v H1 idOf' b hset hwant hwr hnx hids hinj hsame hmono hpv
    obtain ⟨g1, g2⟩ := setDst_spec ho hset
    refine ⟨hwr, h.hb, Nat.le_trans h.hm hnx, h.size, ?_, ?_, hids, hinj, ?_⟩
    · intro t a hv
      refine h.tr t a ?_
      rcases hv with ⟨j, ⟨hj1, hj2⟩, hd, hb⟩ | ⟨hno, hc⟩
      · rcases List.mem_cons.1 hj1 with rfl | hj1
        · refine .inr ⟨fun k hk hkd => ?_, ?_⟩
          · have := good.one k j t hkd hd
            subst this
            exact hi hk.1
          · rw [h.un t fun k hk hkd => ?_]
            · exact hb
            · have := good.one k j t hkd hd
              subst this
              exact hi hk
        · exact .inl ⟨j, ⟨hj1, hj2⟩, hd, hb⟩
      · refine .inr ⟨fun k hk => hno k ⟨List.mem_cons_of_mem _ hk.1, hk.2⟩, ?_⟩
        rw [← g2 t (hno i ⟨List.mem_cons_self .., hiDc⟩)]
        exact hc
    · intro t ht
      rw [g2 t (ht i (List.mem_cons_self ..))]
      exact h.un t fun j hj => ht j (List.mem_cons_of_mem _ hj)
    · intro j ⟨hj1, hj2⟩
      rcases List.mem_cons.1 hj1 with rfl | hj1
      · exact ⟨o, b, v, ho, by rw [wantedA_keep good ho (fun d h => h) hi hneeds g2]; exact hwant, fun d hd => ⟨(g1 d hd).1, (g1 d hd).2.1⟩, hpv⟩
      · have hji : j ≠ i := fun e => hi (e ▸ hj1)
        obtain ⟨o', b', v', p1, p2, p3, p4⟩ := h.pend j ⟨hj1, hj2⟩
        refine ⟨o', b', v', p1, by rw [wantedA_keep good p1 (fun d h => h) hi (hcl j hj1) g2]; exact p2, fun d hd => ⟨(p3 d hd).1, ?_⟩, ?_⟩
        · rw [g2 d fun hd' => ?_]
          · exact (p3 d hd).2
          · have : dstAt ops j = some d := by unfold dstAt; rw [p1]; exact hd
            exact hji (good.one j i d this hd')
        · have p5 := p4.keep (cur' := cur') (fun d h => h) hi (hcl j hj1) g2
          rcases p5 with p | ⟨p, q, ρ, e, r⟩ | ⟨p, ρ, ob, g, id, e, q1, q2, q3, q4, q5, q6⟩
          · exact .inl p
          · exact .inr (.inl ⟨p, q, ρ, e, readA_mono hmono r⟩)
          · exact .inr (.inr ⟨p, ρ, ob, g, id, e, q1, q2, by rw [hsame j hji]; exact q3, q4, q5, hmono _ _ q6⟩)
  unfold parStep at hs
  split at hs
  · cases hs
  · rename_i b hwant
    cases b with
    | false =>
      simp only [cond_false, parPut] at hs
      split at hs
      · rename_i t hset
        cases hs
        exact ⟨idOf, key .undef H idOf false hset hwant h.wr (Nat.le_refl _) h.ids h.inj (fun _ _ => rfl) (fun _ _ h => h) (.inl ⟨rfl, rfl⟩), Ext.refl _ _ _⟩
      · cases hs
    | true =>
      simp only [cond_true] at hs
      cases hr : isRead o.op with
      | true =>
        rw [hr] at hs
        simp only [cond_true, parRead] at hs
        split at hs
        · rename_i v hv
          simp only [parPut] at hs
          split at hs
          · rename_i t hset
            cases hs
            exact ⟨idOf, key v H idOf true hset hwant h.wr (Nat.le_refl _) h.ids h.inj (fun _ _ => rfl) (fun _ _ h => h) (.inr (.inl ⟨rfl, hr, aval cur, henv _ (setDst_spec ho hset).2, hv⟩)), Ext.refl _ _ _⟩
          · cases hs
        · cases hs
      | false =>
        rw [hr] at hs
        simp only [cond_false] at hs
        cases hmk : isMake o.op with
        | false =>
          rcases hl with hl | hl
          · simp [isLight, hr, hmk] at hl
          · rw [hwant] at hl; cases hl
        | true =>
          rw [hmk] at hs
          simp only [cond_true] at hs
          cases hmd : made P (aval cur) o.op with
          | none => rw [hmd] at hs; simp [parMake] at hs
          | some r =>
            obtain ⟨ob, g⟩ := r
            obtain ⟨hh, n⟩ := H
            rw [hmd] at hs
            simp only [parMake, parPut] at hs
            split at hs
            · rename_i t hset
              cases hs
              have hfresh := h.wr.fresh (Nat.le_refl _)
              refine ⟨fun j => if j = i then some n else idOf j, ?_, Ext.new h.hm ob⟩
              refine key (g n) _ _ true hset hwant (h.wr.new ob) (by rw [next_new]; exact Nat.le_succ _) ?_ ?_ (fun j hj => if_neg hj) ?_ ?_
              · intro j id hj
                rw [next_new]
                split at hj
                · cases hj; exact Nat.lt_succ_self _
                · exact Nat.lt_succ_of_lt (h.ids j id hj)
              · intro j j' id hj hj'
                split at hj <;> split at hj'
                · rename_i e1 e2; rw [e1, e2]
                · cases hj; have := h.ids _ _ hj'; exact absurd this (Nat.lt_irrefl _)
                · cases hj'; have := h.ids _ _ hj; exact absurd this (Nat.lt_irrefl _)
                · exact h.inj j j' id hj hj'
              · intro id ob' hob
                rw [obj_new, if_neg]
                · exact hob
                · intro e
                  have := h.wr.nx id ob' hob
                  rw [e] at this
                  exact Nat.lt_irrefl _ this
              · exact .inr (.inr ⟨rfl, aval cur, ob, g, n, henv _ (setDst_spec ho hset).2, hmd, rfl, if_pos rfl, h.hm, hfresh, by rw [obj_new, if_pos rfl]⟩)
            · cases hs
end
end Go.Ev
