/- Operations that make memory. -/
import Derived.Test.YtbinpohgchgpaaaGreatEvRead8
namespace Go.Ev

section
variable {P : Program} {φ : Phi} {ρ : Operand → Option AV} {ev : Operand → Value}

theorem replic_length (z : List AV) (n : Nat) : (replic z n).length = n * z.length := by
  induction n with
  | zero => simp [replic]
  | succ n ih => simp [replic, ih, Nat.succ_mul]; omega

theorem replic_get (z : List AV) : ∀ (n i : Nat), i < n * z.length → (replic z n)[i]? = z[i % z.length]?
  | 0, i, h => by simp at h
  | n + 1, i, h => by
    simp only [replic]
    by_cases h1 : i < z.length
    · rw [List.getElem?_append_left h1, Nat.mod_eq_of_lt h1]
    · have h2 : z.length ≤ i := by omega
      rw [List.getElem?_append_right h2, replic_get z n (i - z.length) (by rw [Nat.succ_mul] at h; omega), ← Nat.mod_eq_sub_mod h2]

/-- Copies of a zero value. -/
theorem replic_one {z : List AV} (h : z.all AV.one = true) : ∀ n, (replic z n).all AV.one = true
  | 0 => rfl
  | n + 1 => by
    show (z ++ replic z n).all AV.one = true
    rw [List.all_append, h, replic_one h n]
    rfl

theorem replic_rel {z : List AV} {zs : Array Value} (hz : VRs φ z zs.toList) (n : Nat) : VRs φ (replic z n) ((Array.range (n * zs.size)).map (zs[· % zs.size]!)).toList := by
  have hl : z.length = zs.size := by have := hz.length; simpa using this
  refine VRs_of (by simp [replic_length, hl]) ?_
  intro i a v h1 h2
  have hi : i < n * zs.size := by
    rcases Nat.lt_or_ge i (n * zs.size) with h | h
    · exact h
    · rw [List.getElem?_eq_none (by rw [replic_length, hl]; exact h)] at h1; cases h1
  rw [replic_get z n i (by rw [hl]; exact hi), hl] at h1
  obtain ⟨x, h3, h4⟩ := hz.get h1
  have hs : i % zs.size < zs.size := Nat.mod_lt _ (by rcases Nat.eq_zero_or_pos zs.size with h | h; · rw [h] at hi; simp at hi
                                                      · exact h)
  simp only [Array.toList_map, Array.toList_range, List.getElem?_map, List.getElem?_range hi, Option.map_some, Option.some.injEq] at h2
  subst h2
  have : zs[i % zs.size]! = x := by
    rw [getElem!_pos zs _ hs]
    have h5 : zs[i % zs.size]? = some x := by simpa using h3
    rw [getElem?_pos zs _ hs] at h5
    exact Option.some.inj h5
  rw [this]; exact h4

theorem alloc_run {o : Obj} (w : World) : (newObj o).run P w = .ok w.heap.size (w.alloc o) := rfl

/-- What is said of an operation that makes memory. -/
def MadeR (P : Program) (φ : Phi) (s : Sem Next) (ob : AObj) (g : Nat → AV) : Prop :=
  ∃ (o' : Obj) (n : Nat) (f : Nat → Value), (∀ w, s.run P w = .ok (.value (f w.heap.size)) (w.alloc o')) ∧ (∀ ψ b, PLe φ ψ → OR ψ ob ⟨b, 0, n⟩ o') ∧
    (∀ (ψ : Phi) id b, ψ id = some ⟨b, 0, n⟩ → VR ψ (g id) (f b)) ∧ ob.live = true

theorem cellsOf_some {g g' : Nat → AV} {cs : List AV} {elem : TypeId} {ob : AObj} (h : cellsOf g cs elem = some (ob, g')) : cs.all AV.one = true ∧ ob = .cells cs elem ∧ g' = g := by
  unfold cellsOf at h
  obtain ⟨h1, h2⟩ := bif_some h
  cases h2
  exact ⟨h1, rfl, rfl⟩

theorem cells_OR {cs : List AV} {vs : Array Value} {elem el : TypeId} (h : VRs φ cs vs.toList) (h1 : cs.all AV.one = true) : ∀ ψ b, PLe φ ψ → OR ψ (.cells cs elem) ⟨b, 0, vs.size⟩ (.cells vs el (0, 0)) := by
  intro ψ b hle
  refine ⟨vs, el, rfl, rfl, ?_, ?_, h1⟩
  · have := h.length; simp at this ⊢; omega
  · have hl := h.length
    simp only [List.drop_zero]
    rw [hl, List.take_length]
    exact VRs.mono hle _ _ h

theorem rowOf_live (z : List AV) (c : Nat) (elem : TypeId) : (rowOf z c elem).live = true := by
  unfold rowOf
  cases Nat.ble c 64 <;> rfl
theorem rowOf_OR {ψ : Phi} {z : List AV} {c : Nat} {elem : TypeId} {e : PE} {o : Obj} (h : OR ψ (.cells (replic z c) elem) e o) : OR ψ (rowOf z c elem) e o := by
  unfold rowOf
  cases Nat.ble c 64 <;> exact h

theorem atPtr_VR (ψ : Phi) (id b n : Nat) (h : ψ id = some ⟨b, 0, n⟩) : VR ψ (atPtr id) (.pointer (some ⟨b, 0, none⟩)) := by
  simp only [atPtr, VR]
  exact ⟨_, h, rfl⟩

theorem atSl_VR (ψ : Phi) (id b n len cap sz : Nat) (h : ψ id = some ⟨b, 0, n⟩) (hn : n = cap * sz) (hl : len ≤ cap) : VR ψ (atSl len cap sz id) (.slice (some ⟨b, 0, none⟩) len cap) := by
  simp only [atSl, VR]
  exact ⟨_, 0, cap, h, rfl, .inr rfl, hl, fun _ => rfl, by simp [hn]⟩

theorem execV' {s : Sem Value} {v : Value} {w w' : World} (h : s.run P w = .ok v w') : (do pure (.value (← s)) : Sem Next).run P w = .ok (.value v) w' := by
  simp [h]

theorem range0 (f : Nat → Value) : (Array.range 0).map f = #[] := by
  apply Array.ext
  · simp
  · intro i h1 h2; simp at h2

theorem made_sound {o : Oper} {ob : AObj} {g : Nat → AV} (hr : Rel φ ρ ev o.op.operands.toList) (h : made P ρ o.op = some (ob, g)) : MadeR P φ (execOp ev o) ob g := by
  cases o with
  | mk dst op type pos after guard =>
  simp only at hr h
  cases op <;> simp only [made] at h <;> try (cases h; done)
  case alloc e =>
    unfold lAlloc at h
    split at h
    · rename_i z hz
      obtain ⟨vz, h1, h2⟩ := zeroT_sound (φ := φ) hz
      obtain ⟨h3, rfl, rfl⟩ := cellsOf_some h
      refine ⟨.cells vz.cells e (0, 0), vz.cells.size, fun b => .pointer (some ⟨b, 0, none⟩), fun w => ?_, cells_OR (AV.cells_rel h1) h3, fun ψ id b hh => atPtr_VR ψ id b _ hh, rfl⟩
      simp only [execOp]
      refine execV' ?_
      simp [Instr.alloc, h2 w, newVar, newRow]
    · cases h
  case box e x =>
    unfold lBox at h
    split at h
    · rename_i a ha
      obtain ⟨h3, rfl, rfl⟩ := cellsOf_some h
      have h1 := hr x (by simp [Op.operands]) _ ha
      refine ⟨.cells (ev x).cells e (0, 0), (ev x).cells.size, fun b => .pointer (some ⟨b, 0, none⟩), fun w => ?_, cells_OR (AV.cells_rel h1) h3, fun ψ id b hh => atPtr_VR ψ id b _ hh, rfl⟩
      simp only [execOp]
      refine execV' ?_
      simp [Instr.box, newVar, newRow]
    · cases h
  case buildSlice t len parts =>
    unfold lBuildSlice at h
    split at h
    · rename_i elem ps hu hp
      split at h
      · rename_i s z hs hz
        obtain ⟨vz, h1, h2⟩ := zeroT_sound (φ := φ) hz
        unfold buildSl at h
        obtain ⟨hb, h⟩ := bif_some h
        simp only [Bool.and_eq_true, Nat.ble_eq] at hb
        obtain ⟨hb1, hb2⟩ := hb
        have hzl : z.cells.length = s := Nat.eq_of_beq_eq_true hb2
        split at h
        · rename_i cs hf
          obtain ⟨h3, rfl, rfl⟩ := cellsOf_some h
          have hzr := AV.cells_rel h1
          have hzs : vz.cells.size = s := by have := hzr.length; simp at this; omega
          have hps := aparts_sound (ev := ev) (hr.sub (l' := parts.toList.map (·.2)) (fun x hx => by simpa [Op.operands] using hx)) hp
          obtain ⟨r', h4, h5⟩ := fillA_sound hps (replic_rel hzr len) hf
          have hlen : cs.length = len * s := by
            have : ∀ (ps : List (Nat × AV)) (c c' : List AV), fillA (fun i => some (i * s, s)) c ps = some c' → c'.length = c.length := by
              intro ps
              induction ps with
              | nil => intro c c' h; simp only [fillA] at h; cases h; rfl
              | cons p ps ih =>
                intro c c' h
                obtain ⟨i, v⟩ := p
                simp only [fillA] at h
                obtain ⟨_, h⟩ := bif_some h
                split at h
                · cases h
                · rename_i c1 hp1
                  obtain ⟨hle, rfl⟩ := putSeg_some hp1
                  rw [ih _ _ h]
                  simp; omega
            rw [this _ _ _ hf, replic_length, hzl]
          have hr' : r'.size = len * s := by have := h5.length; simp at this; omega
          refine ⟨.cells r' elem (0, 0), r'.size, fun b => .slice (some ⟨b, 0, none⟩) len len, fun w => ?_, cells_OR h5 h3, fun ψ id b hh => atSl_VR ψ id b _ len len s hh hr' (Nat.le_refl _), rfl⟩
          simp only [execOp]
          refine execV' ?_
          have hle : ¬ (len * s > 2 ^ 24) := by omega
          have hfill : Instr.fill (fun i => some (i * s, s)) ((Array.range (len * s)).map (fun x => (if len * s = 0 then #[] else vz.cells)[x % (if len * s = 0 then #[] else vz.cells).size]!)) (parts.map fun x => (x.1, ev x.2)).toList = some r' := by
            rw [hzs] at h4
            by_cases h0 : len * s = 0
            · simp only [h0, if_true] at h4 ⊢
              rw [range0] at h4 ⊢
              simpa using h4
            · simp only [h0, if_false]
              rw [hzs]
              simpa using h4
          by_cases h0 : len * s = 0
          · simp only [h0, if_true] at hfill
            rw [range0] at hfill
            simp only [Instr.buildSlice, Sem.run_bind, run_underlying hu w, Result.andThen_ok, sizeT_run hs w, if_neg hle, if_pos h0, Sem.run_pure]
            simp only [h0, range0, hfill, newRow, Sem.run_bind, alloc_run, Result.andThen_ok, Sem.run_pure]
          · simp only [h0, if_false] at hfill
            simp only [Instr.buildSlice, Sem.run_bind, run_underlying hu w, Result.andThen_ok, sizeT_run hs w, if_neg hle, if_neg h0, h2 w, Sem.run_pure, hfill, newRow, alloc_run]
        · cases h
      · cases h
    · cases h
  case makeMap t r =>
    unfold lMakeMap at h
    have key : ∀ e : TypeId × TypeId, P.underlying t = some (.map e.1 e.2) → (r.map ev = none ∨ ∃ k n, r.map ev = some (.int k n)) → ob = .map [] 0 ∧ g = .map → MadeR P φ (execOp ev { dst, op := .makeMap t r, type, pos, after, guard }) ob g := by
      intro e hu hv ⟨h1, h2⟩
      subst h1 h2
      refine ⟨.map #[] 0, 0, fun b => .map (some b), fun w => ?_, fun ψ b _ => ⟨#[], rfl, by simp [ERs]⟩, fun ψ id b hh => by simp only [VR]; exact ⟨_, hh, rfl⟩, rfl⟩
      simp only [execOp]
      refine execV' ?_
      rcases hv with hv | ⟨k, n, hv⟩
      · simp [Instr.makeMap, hv]
      · simp [Instr.makeMap, hv, run_underlying hu w, asInt, asIntOf]
    split at h
    · rename_i a b hu hr'
      cases h
      rcases optR_of (hr.sub (l' := r.toList) (fun y hy => by cases r <;> simp at hy; subst hy; simp [Op.operands])) hr' with ⟨_, h⟩ | ⟨_, _, e, _⟩
      · exact key (a, b) hu (.inl h) ⟨rfl, rfl⟩
      · cases e
    · rename_i a b k n hu hr'
      cases h
      rcases optR_of (hr.sub (l' := r.toList) (fun y hy => by cases r <;> simp at hy; subst hy; simp [Op.operands])) hr' with ⟨e, _⟩ | ⟨x, v, e, hv, hx⟩
      · cases e
      · cases e
        simp only [VR] at hx
        exact key (a, b) hu (.inr ⟨k, n, by rw [hv, hx]⟩) ⟨rfl, rfl⟩
    · cases h
  case makeSlice t len cap =>
    unfold lMakeSlice at h
    split at h
    · rename_i elem l c hu hl hc
      have hl' := hr len (by simp [Op.operands]) _ hl
      have hc' := hr cap (by simp [Op.operands]) _ hc
      simp only [VR] at hl' hc'
      split at h
      · rename_i s z by_ hs hz hby
        obtain ⟨vz, h1, h2⟩ := zeroT_sound (φ := φ) hz
        unfold makeSl at h
        obtain ⟨hb, h⟩ := bif_some h
        simp only [Bool.and_eq_true, Nat.ble_eq] at hb
        obtain ⟨⟨⟨⟨⟨b1, b2⟩, b3⟩, b4⟩, b5⟩, b6⟩ := hb
        have hzl : z.cells.length = s := Nat.eq_of_beq_eq_true b5
        have h3 : (replic z.cells c).all AV.one = true := replic_one b6 c
        simp only [Option.some.injEq, Prod.mk.injEq] at h
        obtain ⟨rfl, rfl⟩ := h
        have hzr := AV.cells_rel h1
        have hzs : vz.cells.size = s := by have := hzr.length; simp at this; omega
        have h5 := replic_rel hzr c
        rw [hzs] at h5
        refine ⟨.cells ((Array.range (c * s)).map (vz.cells[· % s]!)) elem (0, 0), c * s, fun b => .slice (some ⟨b, 0, none⟩) l c, fun w => ?_, ?_, fun ψ id b hh => atSl_VR ψ id b _ l c s hh rfl b1, rowOf_live _ _ _⟩
        · simp only [execOp]
          refine execV' ?_
          obtain ⟨ti, hti, htb⟩ := bytesT_run hby w
          have hwl : IntKind.i64.wrap (l : Int) = l := IntWalk.i64_in _ (by omega)
          have hwc : IntKind.i64.wrap (c : Int) = c := IntWalk.i64_in _ (by omega)
          have hmul : (by_ : Int) * c ≤ 2 ^ 48 := by
            have : by_ * c ≤ 65536 * 65536 := Nat.mul_le_mul b3 b2
            have h' : ((by_ * c : Nat) : Int) ≤ ((65536 * 65536 : Nat) : Int) := by exact_mod_cast this
            simp only [Int.natCast_mul] at h'
            omega
          have t1 : ¬ ((c : Int) < 0 ∨ ti.bytes * (c : Int) > 2 ^ 48) := by rw [htb]; omega
          have t2 : ¬ ((l : Int) < 0) := by omega
          have t3 : ¬ ((l : Int) > c) := by omega
          have t4 : ¬ (((((c : Int) < 0) ∨ 281474976710656 < (ti.bytes : Int) * (c : Int)) ∨ (l : Int) < 0) ∨ c < l) := by omega
          by_cases h0 : c * s = 0
          · simp [Instr.makeSlice, run_underlying hu w, hl', hc', asInt, asIntOf, hti, hwl, hwc, sizeT_run hs w, h0, newRow]
            rw [if_neg t4, range0, range0]
          · simp [Instr.makeSlice, run_underlying hu w, hl', hc', asInt, asIntOf, hti, hwl, hwc, sizeT_run hs w, h0, newRow]
            rw [if_neg t4]
            simp [h2 w, hzs]
        · have := cells_OR (el := elem) (elem := elem) h5 h3
          intro ψ b hle
          refine rowOf_OR ?_
          simpa using this ψ b hle
      · cases h
    · cases h
end
end Go.Ev
