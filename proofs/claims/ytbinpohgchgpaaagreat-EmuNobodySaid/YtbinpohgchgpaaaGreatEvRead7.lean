/- Operations that only read: maps, assertions. -/
import Derived.Test.YtbinpohgchgpaaaGreatEvRead6
import Derived.RangeFuncOwn
namespace Go.Ev

section
variable {P : Program} {φ : Phi} {base : Nat} {H : AH} {w : World} {ρ : Operand → Option AV} {ev : Operand → Value}

theorem foldMM_sound {mx : Bool} : ∀ {l : List AV} {a r : AV} {va : Value} {vs : List Value}, VR φ a va → VRs φ l vs → foldMM mx a l = some r →
    ∃ v, (vs.foldlM (if mx then Builtin.max2 else Builtin.min2) va : Sem Value).run P w = .ok v w ∧ VR φ r v
  | [], a, r, va, vs, ha, hl, h => by
    simp only [VRs] at hl; subst hl
    simp [foldMM] at h; subst h
    exact ⟨va, by simp, ha⟩
  | b :: l, a, r, va, vs, ha, hl, h => by
    simp only [VRs] at hl
    obtain ⟨vb, vs, rfl, hb, hl⟩ := hl
    cases a <;> cases b <;> simp only [foldMM] at h <;> try (cases h; done)
    rename_i k x k' y
    simp only [VR] at ha hb
    subst ha hb
    obtain ⟨v, h1, h2⟩ := foldMM_sound (va := Value.int k (bif mx then (if y > x then y else x) else (if y < x then y else x))) (by simp only [VR]) hl h
    refine ⟨v, ?_, h2⟩
    rw [List.foldlM_cons, Sem.run_bind]
    cases mx
    · have e : (Builtin.min2 (.int k x) (.int k' y)).run P w = .ok (.int k (if y < x then y else x)) w := rfl
      simp only [Bool.false_eq_true, if_false, cond_false] at h1 ⊢
      rw [e]; exact h1
    · have e : (Builtin.max2 (.int k x) (.int k' y)).run P w = .ok (.int k (if y > x then y else x)) w := rfl
      simp only [if_true, cond_true] at h1 ⊢
      rw [e]; exact h1

theorem toV_sound {a : AV} {v v' : Value} (h : toV a = some v) (ha : VR φ a v') : v' = v := by
  unfold toV at h
  split at h <;> first | (cases h; simpa [VR] using ha) | cases h

theorem elemPtr_sound {id off n i : Nat} {elem : TypeId} {v : AV} (h : elemPtr P id off n elem i = some v) : ∃ s, (∀ w, (sizeOf elem).run P w = .ok s w) ∧ i < n ∧ v = .ptr id (off + i * s) := by
  unfold elemPtr at h
  split at h
  · rename_i s hs
    obtain ⟨hb, h⟩ := bif_some h
    cases h
    exact ⟨s, sizeT_run hs, by have := Nat.le_of_ble_eq_true hb; omega, rfl⟩
  · cases h

theorem assertA_sound {asserted xT : TypeId} {ok : Bool} {x v : AV} {vx : Value} {d : TypeDesc} (hu : P.underlying asserted = some d) (hd : ∀ ms, d ≠ .interface ms) (h : assertA P asserted ok x = some v) (hx : VR φ x vx) (w : World) :
    ∃ v', (Instr.typeAssert vx xT asserted ok).run P w = .ok v' w ∧ VR φ v v' := by
  unfold assertA at h
  have hz : ∀ {z : AV}, zeroT P asserted = some z → ∃ vz, VR φ z vz ∧ ∀ w, (zeroValue asserted).run P w = .ok vz w := fun hz => zeroT_sound hz
  split at h
  · rename_i t a
    obtain ⟨va, rfl, hva⟩ := hx
    cases hb : Nat.beq t asserted
    · rw [hb] at h
      simp only [cond_false] at h
      have hne : t ≠ asserted := by intro e; subst e; simp at hb
      obtain ⟨hok, h⟩ := bif_some h
      subst hok
      obtain ⟨z, hzz, rfl⟩ := opt2 h
      obtain ⟨vz, h1, h2⟩ := hz hzz
      refine ⟨.tuple #[vz, .bool false], ?_, ⟨_, rfl, VRs_cons.2 ⟨h1, VRs_one (by simp [VR])⟩⟩⟩
      cases d <;> first
        | (exact absurd rfl (hd _))
        | simp [Instr.typeAssert, run_underlying hu w, hne, h2]
    · rw [hb] at h
      simp only [cond_true] at h
      cases h
      have he : t = asserted := Nat.eq_of_beq_eq_true hb
      cases ok
      · refine ⟨va, ?_, hva⟩
        cases d <;> first
          | (exact absurd rfl (hd _))
          | simp [Instr.typeAssert, run_underlying hu w, he]
      · refine ⟨.tuple #[va, .bool true], ?_, ⟨_, rfl, VRs_cons.2 ⟨hva, VRs_one (by simp [VR])⟩⟩⟩
        cases d <;> first
          | (exact absurd rfl (hd _))
          | simp [Instr.typeAssert, run_underlying hu w, he]
  · simp only [VR] at hx
    subst hx
    obtain ⟨hok, h⟩ := bif_some h
    subst hok
    obtain ⟨z, hzz, rfl⟩ := opt2 h
    obtain ⟨vz, h1, h2⟩ := hz hzz
    refine ⟨.tuple #[vz, .bool false], ?_, ⟨_, rfl, VRs_cons.2 ⟨h1, VRs_one (by simp [VR])⟩⟩⟩
    cases d <;> first
      | (exact absurd rfl (hd _))
      | simp [Instr.typeAssert, run_underlying hu w, h2]
  · cases h

theorem getObj_at {r : Nat} {o : Obj} (h : w.heap[r]? = some o) (hc : o.isCells = false) : (getObj r).run P w = .ok o w := by
  cases o <;> simp [Obj.isCells] at hc <;> simp [getObj, Sem.run, h]

theorem setObj_at {r : Nat} {o o' : Obj} (h : w.heap[r]? = some o) (hc : o.isCells = false) : (setObj r o').run P w = .ok () { w with heap := w.heap.setIfInBounds r o' } := by
  cases o <;> simp [Obj.isCells] at hc <;> simp [setObj, Sem.run, h]

theorem entriesOf_sound (hw : WR φ base H w) {m : AV} {vm : Value} {es : List (AV × AV × Nat)} (h : entriesOf H m = some es) (hm : VR φ m vm) :
    ∃ es' : Array MapEntry, ERs φ es es'.toList ∧ ((vm = .map none ∧ es' = #[]) ∨ ∃ r clock, vm = .map (some r) ∧ w.heap[r]? = some (.map es' clock)) := by
  unfold entriesOf at h
  split at h
  · cases h
    simp only [VR] at hm; subst hm
    exact ⟨#[], by simp [ERs], .inl ⟨rfl, rfl⟩⟩
  · split at h
    · rename_i clock ho
      cases h
      obtain ⟨e, he, rfl⟩ := hm
      obtain ⟨o, h1, es', rfl, h2⟩ := hw.here _ _ e ho he
      exact ⟨es', h2, .inr ⟨_, _, rfl, h1⟩⟩
    · cases h
  · cases h

/-- A lookup whose parts are known. -/
theorem lookup_run {t kt elem : TypeId} {vm vk : Value} {es' : Array MapEntry} {ok : Bool} {r : Option (Nat × Value)} (hu : P.underlying t = some (.map kt elem))
    (hm : (vm = .map none ∧ es' = #[]) ∨ ∃ r clock, vm = .map (some r) ∧ w.heap[r]? = some (.map es' clock))
    (hck : (Instr.checkKey es'.isEmpty 10000 kt vk).run P w = .ok () w) (hf : (Instr.findKey kt vk es'.toList).run P w = .ok r w) {v : Value} {b : Bool}
    (hr : (∃ i, r = some (i, v) ∧ b = true) ∨ (r = none ∧ (zeroValue elem).run P w = .ok v w ∧ b = false)) :
    (Instr.lookup t vm vk ok).run P w = .ok (if ok then .tuple #[v, .bool b] else v) w := by
  unfold Instr.lookup
  rcases hm with ⟨rfl, rfl⟩ | ⟨r0, clock, rfl, hg⟩
  · simp only [Sem.run_bind, run_underlying hu w, Result.andThen_ok, Sem.run_pure, hck, hf]
    rcases hr with ⟨i, rfl, rfl⟩ | ⟨rfl, hz, rfl⟩
    · simp
    · simp [hz]
  · simp only [Sem.run_bind, run_underlying hu w, Result.andThen_ok, Sem.run_pure, getObj_at (P := P) hg rfl, hck, hf]
    rcases hr with ⟨i, rfl, rfl⟩ | ⟨rfl, hz, rfl⟩
    · simp
    · simp [hz]

theorem okOr_sound {ok b : Bool} {a : AV} {v : Value} (h : VR φ a v) : VR φ (okOr ok a b) (if ok then .tuple #[v, .bool b] else v) := by
  cases ok
  · simpa [okOr] using h
  · exact ⟨_, rfl, VRs_cons.2 ⟨h, VRs_one (by simp [VR])⟩⟩

theorem findBag_perm {eq : AV → AV → Option Bool} {k : AV} : ∀ {es es2 : List (AV × AV)}, es.Perm es2 → ∀ {r : Option AV}, findBag eq k es = some r → findBag eq k es2 = some r := by
  intro es es2 h
  induction h with
  | nil => intro r h; exact h
  | cons x h ih =>
    obtain ⟨x, v⟩ := x
    intro r hr
    simp only [findBag] at hr ⊢
    split at hr
    · rename_i h1 h2
      rw [h1, ih h2]; exact hr
    · rename_i r' h1 h2
      rw [h1, ih h2]; exact hr
    · cases hr
  | swap x y l =>
    obtain ⟨x, v⟩ := x
    obtain ⟨y, u⟩ := y
    intro r hr
    simp only [findBag] at hr ⊢
    cases hx : eq k x with
    | none => rw [hx] at hr; cases hy : eq k y <;> rw [hy] at hr <;> simp at hr
    | some bx =>
      cases hy : eq k y with
      | none => rw [hx, hy] at hr; cases bx <;> simp at hr
      | some bY =>
        rw [hx, hy] at hr
        cases hf : findBag eq k l with
        | none => rw [hf] at hr; cases bx <;> cases bY <;> simp at hr
        | some q => rw [hf] at hr; cases bx <;> cases bY <;> cases q <;> simp at hr ⊢ <;> exact hr
  | trans h1 h2 ih1 ih2 => intro r hr; exact ih2 (ih1 hr)

theorem findBag_findA {eq : AV → AV → Option Bool} {k : AV} : ∀ {l : List (AV × AV × Nat)} {r : Option AV}, findBag eq k (l.map fun x => (x.1, x.2.1)) = some r → ∀ i,
    (r = none → findA eq k l i = some none) ∧ (∀ v, r = some v → ∃ j b, findA eq k l i = some (some (j, v, b)))
  | [], r, h, i => by
    simp [findBag] at h
    subst h
    exact ⟨fun _ => rfl, (fun v h => by cases h)⟩
  | (x, v, b) :: l, r, h, i => by
    simp only [List.map_cons, findBag] at h
    split at h
    · rename_i h1 h2
      cases h
      refine ⟨(fun h => by cases h), fun u hu => ?_⟩
      cases hu
      exact ⟨i, b, by simp only [findA, h1]⟩
    · rename_i r' h1 h2
      cases h
      have := findBag_findA h2 (i + 1)
      refine ⟨fun h => ?_, fun u hu => ?_⟩
      · simp only [findA, h1]; exact this.1 h
      · obtain ⟨j, c, hh⟩ := this.2 u hu
        exact ⟨j, c, by simp only [findA, h1]; exact hh⟩
    · cases h

theorem bagOf_sound (hw : WR φ base H w) {m : AV} {vm : Value} {es : List (AV × AV)} (h : bagOf H m = some es) (hm : VR φ m vm) :
    ∃ (l : List (AV × AV × Nat)) (es' : Array MapEntry), (l.map fun x => (x.1, x.2.1)).Perm es ∧ ERs φ l es'.toList ∧ ((vm = .map none ∧ es' = #[]) ∨ ∃ r clock, vm = .map (some r) ∧ w.heap[r]? = some (.map es' clock)) := by
  unfold bagOf at h
  split at h
  · rename_i id
    split at h
    · rename_i es0 ho
      cases h
      obtain ⟨e, he, rfl⟩ := hm
      obtain ⟨o, hg, l, es', clock, rfl, hp, hl⟩ := hw.here id _ e ho he
      exact ⟨l, es', hp, hl, .inr ⟨_, _, rfl, hg⟩⟩
    · cases h
  · cases h

/-- A lookup in related entries. -/
theorem lookIn_sound {kt elem t : TypeId} {key v : AV} {vm vk : Value} {ok : Bool} {es : List (AV × AV × Nat)} {es' : Array MapEntry} (hu : P.underlying t = some (.map kt elem)) (hp : plainKey P kt key = true)
    (he : ERs φ es es'.toList) (hrun : (vm = .map none ∧ es' = #[]) ∨ ∃ r clock, vm = .map (some r) ∧ w.heap[r]? = some (.map es' clock))
    (h : (match findA (eqA P 100 kt) key es 0 with
      | some (some (_, v, _)) => some (okOr ok v true)
      | some none => (zeroT P elem).map (okOr ok · false)
      | none => none) = some v) (hk : VR φ key vk) : ∃ v', (Instr.lookup t vm vk ok).run P w = .ok v' w ∧ VR φ v v' := by
  have hkd : ∃ d, P.underlying kt = some d := by
    cases hkt : P.underlying kt with
    | none => simp [plainKey, hkt] at hp
    | some d => exact ⟨d, rfl⟩
  obtain ⟨d, hd⟩ := hkd
  have hck := checkKey_sound (φ := φ) hp hk es'.isEmpty 9998 w
  split at h
  · rename_i i x b hf
    cases h
    obtain ⟨r', h1, h2⟩ := find_sound hd hk he hf w
    obtain ⟨me, k, rfl, e3, e4, e5, e6⟩ := h2.at
    exact ⟨_, lookup_run hu hrun hck h1 (.inl ⟨i, rfl, rfl⟩), okOr_sound e5⟩
  · rename_i hf
    obtain ⟨z, hz, rfl⟩ := opt2 h
    obtain ⟨vz, hz1, hz2⟩ := zeroT_sound (φ := φ) hz
    obtain ⟨r', h1, h2⟩ := find_sound hd hk he hf w
    simp only [FindR] at h2
    subst h2
    exact ⟨_, lookup_run hu hrun hck h1 (.inr ⟨rfl, hz2 w, rfl⟩), okOr_sound hz1⟩
  · cases h

theorem lookA_sound (hw : WR φ base H w) {kt elem t : TypeId} {m key v : AV} {vm vk : Value} {ok : Bool} (hu : P.underlying t = some (.map kt elem)) (h : lookA P H kt elem m key ok = some v) (hm : VR φ m vm) (hk : VR φ key vk) :
    ∃ v', (Instr.lookup t vm vk ok).run P w = .ok v' w ∧ VR φ v v' := by
  unfold lookA at h
  obtain ⟨hp, h⟩ := bif_some h
  split at h
  · rename_i es hes
    obtain ⟨es', he, hrun⟩ := entriesOf_sound hw hes hm
    exact lookIn_sound hu hp he hrun h hk
  · split at h
    · rename_i es hes
      obtain ⟨l, es', hperm, he, hrun⟩ := bagOf_sound hw hes hm
      refine lookIn_sound hu hp he hrun ?_ hk
      unfold lookBag at h
      split at h
      · rename_i x hf
        obtain ⟨j, b, hh⟩ := (findBag_findA (findBag_perm hperm.symm hf) 0).2 _ rfl
        rw [hh]; exact h
      · rename_i hf
        have hh := (findBag_findA (findBag_perm hperm.symm hf) 0).1 rfl
        rw [hh]; exact h
      · cases h
    · cases h
end
end Go.Ev
