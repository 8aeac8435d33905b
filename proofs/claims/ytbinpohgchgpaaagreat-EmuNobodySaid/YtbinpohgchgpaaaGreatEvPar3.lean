/- A region that draws its order: a step of the machine. -/
import Derived.Test.YtbinpohgchgpaaaGreatEvPar2
namespace Go.Ev

section
variable {P : Program} {call : Caller} {ops : Array Oper} {ms : List Nat} {bt cur cur' : Tr AV} {nt bs m : Nat} {idOf : Nat → Option Nat} {Dc Da : List Nat} {H H' : AH} {φ φ' : Phi} {w w' : World} {a : Act}

/-- What the machine's guard says. -/
theorem wanted_of {o : Oper} {b : Bool} (h : wantedA ops o cur.get = some b) (hv : ∀ g want d x, o.guard = some (g, want) → dstAt ops g = some d → cur.get d = some x → ∃ v, a.tmps[d]? = some v ∧ VR φ x v) :
    Region.wanted o (yielded ops a.tmps) = b := by
  unfold wantedA at h
  unfold Region.wanted
  split at h
  · rename_i hg
    cases h
    rw [hg]
  · rename_i g want hg
    rw [hg]
    simp only
    split at h
    · cases h
    · rename_i d hd
      have hy : yielded ops a.tmps g = (match a.tmps[d]? with | some (.bool b) => some b | _ => none) := by
        unfold yielded
        rw [hd]
        rfl
      rw [hy]
      split at h
      · rename_i x hx
        cases h
        obtain ⟨v, h1, h2⟩ := hv g want d _ hg hd hx
        simp only [VR] at h2
        subst h2
        rw [h1]
        cases x <;> cases want <;> rfl
      · rename_i hx
        cases h
        obtain ⟨v, h1, h2⟩ := hv g want d _ hg hd hx
        obtain ⟨l, rfl, _⟩ := h2
        rw [h1]
        rfl
      · cases h

theorem avalE_rel {get : Tmp → Option AV} {l : List Operand} (h : ∀ t, .tmp t ∈ l → ∀ x, get t = some x → ∃ v, a.tmps[t]? = some v ∧ VR φ x v) : Rel φ (avalE get) a.eval l := by
  intro x hx v hv
  cases x with
  | tmp i =>
    obtain ⟨v', h1, h2⟩ := h i hx v hv
    show VR φ v (a.tmps.getD i undef)
    rw [Array.getD_eq_getD_getElem?, h1]
    exact h2
  | const c => exact conv_sound hv
  | global g => cases hv; rfl
  | func f => cases hv; exact ⟨#[], #[], rfl, rfl, VRs_nil, VRs_nil⟩

theorem put_tmps {d : Tmp} {v : Value} (h : d < a.tmps.size) : (a.put (some d) v).tmps[d]? = some v := by
  show (a.tmps.setIfInBounds d v)[d]? = some v
  rw [Array.getElem?_setIfInBounds, if_pos rfl, if_pos h]
theorem put_other {s : Option Tmp} {t : Tmp} {v : Value} (h : s ≠ some t) : (a.put s v).tmps[t]? = a.tmps[t]? := by
  cases s with
  | none => rfl
  | some d =>
    show (a.tmps.setIfInBounds d v)[t]? = _
    rw [Array.getElem?_setIfInBounds, if_neg (fun e => h (by rw [e]))]
theorem put_size {s : Option Tmp} {v : Value} : (a.put s v).tmps.size = a.tmps.size := by
  cases s with
  | none => rfl
  | some d => exact Array.size_setIfInBounds ..
theorem put_defers {s : Option Tmp} {v : Value} : (a.put s v).defers = a.defers := by cases s <;> rfl

/-- A guard's slot is written by now. -/
theorem PInv.guard (good : Good ops ms) (h : PInv P ops ms bt nt bs m idOf Dc Da cur H φ w a.tmps) {c : Nat} {o : Oper} (ho : ops[c]? = some o) (hneeds : ∀ j, Needs ms c j → j ∈ Dc) {b : Bool} (hw : wantedA ops o cur.get = some b) :
    Region.wanted o (yielded ops a.tmps) = b := by
  refine wanted_of hw fun g want d x hg hd hx => h.tr d x (.inr ⟨fun j hj hjd => ?_, hx⟩)
  have := good.one g j d hd hjd
  subst this
  exact hj.2 (hneeds _ (good.guard c o _ want ho hg))

/-- The machine carries out what the plan has carried out before. -/
theorem PInv.exec (good : Good ops ms) (h : PInv P ops ms bt nt bs m idOf Dc Da cur H φ w a.tmps) {c : Nat} (hp : Pending Dc Da c) (hneeds : ∀ j, Needs ms c j → j ∈ Dc) (hcl : Closed ms Dc) :
    ∃ φ' w' a', (∀ (b : Frame) (k : List Item) (cs : List Frame) (rest : List Nat), step P (lone (b.atR a (.inRegion ops (c :: rest) :: k)) cs w) = .next (lone (b.atR a' (.inRegion ops rest :: k)) cs w')) ∧ a'.defers = a.defers ∧
      PInv P ops ms bt nt bs m idOf (c :: Dc) Da cur H φ' w' a'.tmps ∧ Ext m φ H φ' H ∧ Keep bs w w' := by
  obtain ⟨o, b, v, ho, hwant, hdst, hpv⟩ := h.pend c hp
  have hda : dstAt ops c = o.dst := by unfold dstAt; rw [ho]; rfl
  have hwc := h.guard good ho hneeds hwant
  -- what it sees
  have hrel : ∀ ρ, EnvEq ops ms bt cur c o ρ → Rel φ ρ a.eval o.op.operands.toList := by
    intro ρ he x hx y hy
    rw [he x hx] at hy
    refine avalE_rel (l := o.op.operands.toList) (fun t ht z hz => h.tr t z ?_) x hx y hy
    have htt : t ∈ tmpsOf o := List.mem_filterMap.2 ⟨.tmp t, ht, rfl⟩
    by_cases hl : ∃ k, dstAt ops k = some t ∧ ¬ Needs ms c k
    · rw [envAt_late hl] at hz
      obtain ⟨k, hk, hnk⟩ := hl
      by_cases hkp : Pending Dc Da k
      · exact .inl ⟨k, hkp, hk, hz⟩
      · have hkDc : k ∉ Dc := by
          intro hkd
          rcases good.pair c k o t ho htt hk with rfl | hh | hh
          · exact hp.2 hkd
          · exact hnk hh
          · exact hp.2 (hcl k hkd c hh)
        refine .inr ⟨fun j hj hd => ?_, ?_⟩
        · have := good.one j k t hd hk
          subst this
          exact hkp hj
        · rw [h.un t fun j hj hd => ?_]
          · exact hz
          · have := good.one j k t hd hk
            subst this
            exact hkp ⟨hj, hkDc⟩
    · rw [envAt_now hl] at hz
      refine .inr ⟨fun j hj hd => ?_, hz⟩
      exact hj.2 (hneeds j (Classical.byContradiction fun hn => hl ⟨j, hd, hn⟩))
  -- afterwards
  have key : ∀ (φ' : Phi) (w' : World) (v' : Value), WR φ' bs H w' → Ext m φ H φ' H → Keep bs w w' → VR φ' v v' →
      (∀ j id, j ≠ c → idOf j = some id → φ id = none → φ' id = none) → PInv P ops ms bt nt bs m idOf (c :: Dc) Da cur H φ' w' (a.put o.dst v').tmps := by
    intro φ' w' v' hwr hext hk hv hids
    refine ⟨hwr, Nat.le_trans h.hb hk.1, h.hm, by rw [put_size]; exact h.size, ?_, h.un, h.ids, h.inj, ?_⟩
    · intro t x hx
      by_cases htd : o.dst = some t
      · have hd := hdst t htd
        have hnp : ¬ ∃ j, Pending (c :: Dc) Da j ∧ dstAt ops j = some t := by
          rintro ⟨j, hj, hjd⟩
          have := good.one j c t hjd (by rw [hda]; exact htd)
          subst this
          exact hj.2 (List.mem_cons_self ..)
        rcases hx with ⟨j, hj, hjd, _⟩ | ⟨_, hx⟩
        · exact (hnp ⟨j, hj, hjd⟩).elim
        · rw [hd.2] at hx
          cases hx
          rw [htd]
          exact ⟨v', put_tmps (by rw [h.size]; exact hd.1), hv⟩
      · rw [put_other htd]
        have : View ops bt cur Dc Da t x := by
          rcases hx with ⟨j, hj, hjd, hb⟩ | ⟨hno, hx⟩
          · exact .inl ⟨j, ⟨hj.1, fun hd => hj.2 (List.mem_cons_of_mem _ hd)⟩, hjd, hb⟩
          · refine .inr ⟨fun j hj hjd => ?_, hx⟩
            by_cases hjc : j = c
            · subst hjc; exact htd (by rw [← hda]; exact hjd)
            · refine hno j ⟨hj.1, fun hd => ?_⟩ hjd
              rcases List.mem_cons.1 hd with e | hd
              · exact hjc e
              · exact hj.2 hd
        obtain ⟨u, h1, h2⟩ := h.tr t x this
        exact ⟨u, h1, h2.mono hext.1⟩
    · intro j hj
      have hjc : j ≠ c := fun e => hj.2 (e ▸ List.mem_cons_self ..)
      obtain ⟨o', b', v'', p1, p2, p3, p4⟩ := h.pend j ⟨hj.1, fun hd => hj.2 (List.mem_cons_of_mem _ hd)⟩
      refine ⟨o', b', v'', p1, p2, p3, ?_⟩
      rcases p4 with p | p | ⟨p, ρ, ob, g, id, e, q1, q2, q3, q4, q5, q6⟩
      · exact .inl p
      · exact .inr (.inl p)
      · exact .inr (.inr ⟨p, ρ, ob, g, id, e, q1, q2, q3, q4, hids j id hjc q3 q5, q6⟩)
  rcases hpv with ⟨rfl, rfl⟩ | ⟨rfl, hr, ρ, henv, hread⟩ | ⟨rfl, ρ, ob, g, id, henv, hmade, rfl, hid, hmid, hnone, hob⟩
  · refine ⟨φ, w, a.put o.dst undef, fun b k cs rest => ?_, put_defers, key φ w undef h.wr (Ext.refl _ _ _) (Keep.refl _ _) (undef_VR φ) (fun _ _ _ _ h => h), Ext.refl _ _ _, Keep.refl _ _⟩
    have := stepR_op_skip (P := P) (b := b) (a := a) (k := k) (cs := cs) (w := w) (ops := ops) (i := c) (rest := rest) (by simp [ho, hwc])
    simpa [ho] using this
  · obtain ⟨v', h1, h2⟩ := read_sound h.wr (hrel ρ henv) hread
    exact ⟨φ, w, a.put o.dst v', fun b k cs rest => step_op_value ho hwc (.inl (by rw [semAt_of _ _ (read_not_defer hr)]; exact h1)), put_defers, key φ w v' h.wr (Ext.refl _ _ _) (Keep.refl _ _) h2 (fun _ _ _ _ h => h), Ext.refl _ _ _, Keep.refl _ _⟩
  · obtain ⟨o', n, f, h1, h2, h3, h4⟩ := made_sound (hrel ρ henv) hmade
    have hle := bindAt_le (e := ⟨w.heap.size, 0, n⟩) hnone
    have hext : Ext m φ H (bindAt φ id ⟨w.heap.size, 0, n⟩) H := ⟨hle, Nat.le_refl _, fun i hi hn => ⟨by
      unfold bindAt; rw [if_neg (by omega)]; exact hn, rfl⟩⟩
    have hk := Keep.alloc h.hb o'
    refine ⟨bindAt φ id ⟨w.heap.size, 0, n⟩, w.alloc o', a.put o.dst (f w.heap.size), fun b k cs rest => step_op_value ho hwc (.inl (by rw [semAt_of _ _ (made_not_defer hmade)]; exact h1 w)), put_defers, ?_, hext, hk⟩
    refine key _ _ _ (h.wr.bind_new hnone hob h.hb h2) hext hk (h3 _ id _ (bindAt_same ..)) ?_
    intro j id' hj hjid hn
    unfold bindAt
    rw [if_neg]
    · exact hn
    · intro e
      subst e
      exact hj (h.inj j c _ hjid hid)
end
end Go.Ev
