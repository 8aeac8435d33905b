/- Reads that come again, and the steps of an operation. -/
import Derived.Test.YtbinpohgchgpaaaGreatEvPlan
import Derived.RangeFuncLeaves
namespace Go.Ev

section
variable {P : Program} {ρ : Operand → Option AV} {H H' : AH}

theorem cells_mono (hm : ∀ id ob, H.obj id = some ob → H'.obj id = some ob) {id : Nat} {vs : List AV} (h : H.cells id = some vs) : H'.cells id = some vs := by
  unfold AH.cells at h ⊢
  split at h
  · rename_i ho
    rw [hm _ _ ho]
    exact h
  · rename_i ho
    rw [hm _ _ ho]
    exact h
  · cases h

theorem bagOf_mono (hm : ∀ id ob, H.obj id = some ob → H'.obj id = some ob) {m : AV} {es : List (AV × AV)} (h : bagOf H m = some es) : entriesOf H' m = none ∧ bagOf H' m = some es := by
  unfold bagOf at h ⊢
  unfold entriesOf
  split at h
  · split at h
    · rename_i ho
      simp only [hm _ _ ho]
      exact ⟨trivial, h⟩
    · cases h
  · cases h
theorem entriesOf_mono (hm : ∀ id ob, H.obj id = some ob → H'.obj id = some ob) {m : AV} {es : List (AV × AV × Nat)} (h : entriesOf H m = some es) : entriesOf H' m = some es := by
  unfold entriesOf at h ⊢
  cases m <;> simp only at h ⊢ <;> try (cases h; done)
  case mapNil => exact h
  case map id =>
    split at h
    · rename_i ho
      rw [hm _ _ ho]
      exact h
    · cases h

theorem lenA_mono (hm : ∀ id ob, H.obj id = some ob → H'.obj id = some ob) {x : AV} {n : Nat} (h : lenA H x = some n) : lenA H' x = some n := by
  unfold lenA at h ⊢
  cases x <;> simp only at h ⊢ <;> try (first | exact h | cases h; done)
  case map id =>
    split at h
    · rename_i ho
      rw [hm _ _ ho]
      exact h
    · cases h

theorem readA_mono (hm : ∀ id ob, H.obj id = some ob → H'.obj id = some ob) {op : Op} {v : AV} (h : readA P ρ H op = some v) : readA P ρ H' op = some v := by
  cases op <;> simp only [readA] at h ⊢ <;> try (first | exact h | cases h; done)
  case load t a =>
    unfold lLoad at h ⊢
    split at h
    · unfold loadA at h ⊢
      split at h
      · cases h
      · rename_i hc
        rw [cells_mono hm hc]
        exact h
    · cases h
  case slice t x lo hi mx =>
    unfold lSlice at h ⊢
    split at h
    · split at h
      · exact h
      · exact h
      · exact h
      · split at h
        · rename_i hs hc
          simp only [hs, cells_mono hm hc]
          exact h
        · cases h
      · cases h
    · cases h
  case lookup t x k ok =>
    unfold lLookup at h ⊢
    split at h
    · unfold lookA at h ⊢
      obtain ⟨h1, h⟩ := bif_some h
      rw [h1]
      simp only [cond_true]
      split at h
      · rename_i he
        rw [entriesOf_mono hm he]
        exact h
      · split at h
        · rename_i he
          obtain ⟨e1, e2⟩ := bagOf_mono hm he
          rw [e1, e2]
          exact h
        · cases h
    · cases h
  case call c =>
    obtain ⟨callee, args, argTypes⟩ := c
    cases callee <;> simp only at h ⊢ <;> try (cases h; done)
    unfold lCall at h ⊢
    split at h
    · unfold lBuiltin at h ⊢
      split at h
      · unfold lLen at h ⊢
        split at h
        · exact h
        · obtain ⟨h1, h⟩ := bif_some h
          rw [h1]
          simp only [cond_true]
          cases hl : lenA H _ with
          | none => rw [hl] at h; cases h
          | some n => rw [lenA_mono hm hl]; rw [hl] at h; exact h
        · cases h
      · exact h
      · exact h
      · exact h
      · cases h
    · cases h
end

mutual
theorem beqA_eq : ∀ {a b : AV}, beqA a b = true → a = b
  | .bool a, b, h => by cases b <;> simp [beqA] at h; rw [h]
  | .int j a, b, h => by cases b <;> simp [beqA] at h; rw [h.1, h.2]
  | .str a, b, h => by
    cases b <;> simp only [beqA] at h <;> try (cases h; done)
    rw [eqNats_eq, decide_eq_true_eq] at h; rw [h]
  | .ptr a o, b, h => by
    cases b <;> simp only [beqA, Bool.and_eq_true] at h <;> try (cases h; done)
    rw [Nat.eq_of_beq_eq_true h.1, Nat.eq_of_beq_eq_true h.2]
  | .ptrNil, b, h => by cases b <;> first | rfl | (simp only [beqA] at h; cases h)
  | .slice a1 a2 a3 a4 a5 a6, b, h => by
    cases b <;> simp only [beqA, Bool.and_eq_true, beq_iff_eq] at h <;> try (cases h; done)
    obtain ⟨⟨⟨⟨⟨h1, h2⟩, h3⟩, h4⟩, h5⟩, h6⟩ := h
    rw [Nat.eq_of_beq_eq_true h1, Nat.eq_of_beq_eq_true h2, Nat.eq_of_beq_eq_true h3, Nat.eq_of_beq_eq_true h4, Nat.eq_of_beq_eq_true h5, h6]
  | .sliceNil, b, h => by cases b <;> first | rfl | (simp only [beqA] at h; cases h)
  | .map a, b, h => by
    cases b <;> simp only [beqA] at h <;> try (cases h; done)
    rw [Nat.eq_of_beq_eq_true h]
  | .mapNil, b, h => by cases b <;> first | rfl | (simp only [beqA] at h; cases h)
  | .func f l c, b, h => by
    cases b <;> simp only [beqA, Bool.and_eq_true, decide_eq_true_eq] at h <;> try (cases h; done)
    obtain ⟨⟨h1, h2⟩, h3⟩ := h
    rw [h1, beqAs_eq h2, beqAs_eq h3]
  | .yield a, b, h => by
    cases b <;> simp only [beqA] at h <;> try (cases h; done)
    rw [Nat.eq_of_beq_eq_true h]
  | .nilFunc, b, h => by cases b <;> first | rfl | (simp only [beqA] at h; cases h)
  | .iface t v, b, h => by
    cases b <;> simp only [beqA, Bool.and_eq_true] at h <;> try (cases h; done)
    rw [Nat.eq_of_beq_eq_true h.1, beqA_eq h.2]
  | .nilIface, b, h => by cases b <;> first | rfl | (simp only [beqA] at h; cases h)
  | .agg l, b, h => by
    cases b <;> simp only [beqA] at h <;> try (cases h; done)
    rw [beqAs_eq h]
  | .tuple l, b, h => by
    cases b <;> simp only [beqA] at h <;> try (cases h; done)
    rw [beqAs_eq h]
  | .glob a, b, h => by
    cases b <;> simp only [beqA] at h <;> try (cases h; done)
    rw [Nat.eq_of_beq_eq_true h]
theorem beqAs_eq : ∀ {l m : List AV}, beqAs l m = true → l = m
  | [], [], _ => rfl
  | [], _ :: _, h => by simp [beqAs] at h
  | _ :: _, [], h => by simp [beqAs] at h
  | a :: l, b :: m, h => by
    simp only [beqAs, Bool.and_eq_true] at h
    rw [beqA_eq h.1, beqAs_eq h.2]
end

/-! ### Steps -/
section
variable {P : Program} {b : Frame} {a : Act} {k : List Item} {cs : List Frame} {w : World} {ops : Array Oper}

theorem semAt_of {o : Oper} (ro : Option Nat) (ρ : Operand → Value) (h : ∀ c, o.op ≠ .defer c) : o.semAt ro ρ = execOp ρ o := Oper.semAt_eq ro ρ o h

theorem read_not_defer {op : Op} (h : isRead op = true) (c : Call) : op ≠ .defer c := by rintro rfl; cases h
theorem made_not_defer {ρ : Operand → Option AV} {op : Op} {r : AObj × (Nat → AV)} (h : made P ρ op = some r) (c : Call) : op ≠ .defer c := by rintro rfl; cases h

theorem finish_op {i : Nat} {rest : List Nat} {o : Oper} (ho : ops[i]? = some o) (v : Value) :
    (b.atR a (.inRegion ops (i :: rest) :: k)).finish v = b.atR (a.put o.dst v) (.inRegion ops rest :: k) := by
  rw [Frame.finish_atR, ho]; rfl

theorem step_op_value {i : Nat} {rest : List Nat} {o : Oper} (ho : ops[i]? = some o) (hw : Region.wanted o (yielded ops a.tmps) = true) {v : Value} {w' : World}
    (hr : (o.semAt b.roundOf a.eval).run P w = .ok (.value v) w' ∨ ((o.semAt b.roundOf a.eval).run P w = .ok .skip w' ∧ v = undef)) :
    step P (lone (b.atR a (.inRegion ops (i :: rest) :: k)) cs w) = .next (lone (b.atR (a.put o.dst v) (.inRegion ops rest :: k)) cs w') := by
  have hg := stepGR_op (P := P) (b := b) (k := k) (cs := cs) (w := w) (rest := rest) ho hw
  refine step_lone_go ?_
  rw [hg, ← finish_op ho]
  rcases hr with hr | ⟨hr, rfl⟩ <;> simp [stepG.apply, hr]

theorem step_op_enter {i : Nat} {rest : List Nat} {o : Oper} (ho : ops[i]? = some o) (hw : Region.wanted o (yielded ops a.tmps) = true) {f : FuncId} {args : Array Value} {w' : World}
    (hr : (o.semAt b.roundOf a.eval).run P w = .ok (.enter f args) w') :
    step P (lone (b.atR a (.inRegion ops (i :: rest) :: k)) cs w) = .next (lone (Frame.enter P f args .normal) (b.atR a (.inRegion ops (i :: rest) :: k) :: cs) w') := by
  have hg := stepGR_op (P := P) (b := b) (k := k) (cs := cs) (w := w) (rest := rest) ho hw
  exact step_lone_go (by rw [hg]; simp [stepG.apply, hr, Frame.atR])

theorem step_op_round {i : Nat} {rest : List Nat} {o : Oper} (ho : ops[i]? = some o) (hw : Region.wanted o (yielded ops a.tmps) = true) {l f : Nat} {tmps : Array Value} {assign body : Code} {w' : World}
    (hr : (o.semAt b.roundOf a.eval).run P w = .ok (.round l f tmps assign body) w') :
    step P (lone (b.atR a (.inRegion ops (i :: rest) :: k)) cs w) = .next (lone (Frame.round l f tmps assign body .normal) (b.atR a (.inRegion ops (i :: rest) :: k) :: cs) w') := by
  have hg := stepGR_op (P := P) (b := b) (k := k) (cs := cs) (w := w) (rest := rest) ho hw
  exact step_lone_go (by rw [hg]; simp [stepG.apply, hr, Frame.atR])

theorem step_op_panic {i : Nat} {rest : List Nat} {o : Oper} (ho : ops[i]? = some o) (hw : Region.wanted o (yielded ops a.tmps) = true) {v : Value} {w' : World}
    (hr : (o.semAt b.roundOf a.eval).run P w = .halt (.panic v) w') :
    step P (lone (b.atR a (.inRegion ops (i :: rest) :: k)) cs w) = .next (lone ((b.atR a (.inRegion ops (i :: rest) :: k)).raise [{ v, recovered := false }]) cs w') := by
  have hg := stepGR_op (P := P) (b := b) (k := k) (cs := cs) (w := w) (rest := rest) ho hw
  refine step_lone_go ?_
  rw [hg]; simp [stepG.apply, hr]

theorem step_op_defer {i : Nat} {rest : List Nat} {o : Oper} (ho : ops[i]? = some o) (hw : Region.wanted o (yielded ops a.tmps) = true) {d : Deferred} {w' : World}
    (hr : (o.semAt b.roundOf a.eval).run P w = .ok (.defer d) w') :
    step P (lone (b.atR a (.inRegion ops (i :: rest) :: k)) cs w) = .next (lone (b.atR ({ a with defers := d :: a.defers }.put o.dst undef) (.inRegion ops rest :: k)) cs w') := by
  have hg := stepGR_op (P := P) (b := b) (k := k) (cs := cs) (w := w) (rest := rest) ho hw
  refine step_lone_go ?_
  have : ({ b.atR a (.inRegion ops (i :: rest) :: k) with defers := d :: a.defers } : Frame).finish undef =
      b.atR ({ a with defers := d :: a.defers }.put o.dst undef) (.inRegion ops rest :: k) := by
    have := Frame.finish_atR b { a with defers := d :: a.defers } ops i rest k undef
    rw [ho] at this; exact this
  rw [hg]; simp only [stepG.apply, Sem.runT_eq, hr, GStep.bare_after]
  exact congrArg (fun fr => GStep.go { frame := fr, callers := cs, status := .running, dying := none } w') this
end

/-! ### Slots -/

theorem TR.put {φ : Phi} {t t' : Tr AV} {nt : Nat} {a : Act} {dst : Option Tmp} {x : AV} {v : Value} (h : TR φ t nt a.tmps) (hs : setDst nt t dst x = some t') (hv : VR φ x v) : TR φ t' nt (a.put dst v).tmps := by
  cases dst with
  | none => cases hs; exact h
  | some d =>
    simp only [setDst] at hs
    obtain ⟨h1, h2⟩ := bif_some hs
    cases h2
    have hd : d < nt := Nat.le_of_ble_eq_true h1
    refine ⟨by show (a.tmps.setIfInBounds d v).size = nt; rw [Array.size_setIfInBounds]; exact h.1, fun i x' hx => ?_⟩
    show ∃ v', (a.tmps.setIfInBounds d v)[i]? = some v' ∧ _
    rw [Array.getElem?_setIfInBounds]
    by_cases hi : d = i
    · subst hi
      rw [Tr.get_set] at hx
      simp at hx
      subst hx
      rw [if_pos rfl, if_pos (by rw [h.1]; exact hd)]
      exact ⟨v, rfl, hv⟩
    · rw [Tr.get_set] at hx
      rw [if_neg hi]
      exact h.2 i x' (by simpa [hi, Ne.symm hi] using hx)

theorem TR.rel {φ : Phi} {t : Tr AV} {nt : Nat} {a : Act} (h : TR φ t nt a.tmps) (l : List Operand) : Rel φ (aval t) a.eval l := by
  intro x _ v hx
  cases x with
  | tmp i =>
    obtain ⟨v', h1, h2⟩ := h.2 i v hx
    show VR φ v (a.tmps.getD i undef)
    rw [Array.getD_eq_getD_getElem?, h1]
    exact h2
  | const c => exact conv_sound hx
  | global g => cases hx; rfl
  | func f => cases hx; exact ⟨#[], #[], rfl, rfl, VRs_nil, VRs_nil⟩

end Go.Ev
