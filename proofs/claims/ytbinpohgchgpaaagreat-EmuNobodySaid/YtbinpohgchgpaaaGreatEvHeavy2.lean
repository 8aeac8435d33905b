/- Operations that are not light: the theorem. -/
import Derived.Test.YtbinpohgchgpaaaGreatEvAppend3
namespace Go.Ev

section
variable {P : Program} {φ : Phi} {base m : Nat} {H : AH} {w : World} {ρ : Operand → Option AV} {ev : Operand → Value}

theorem elemsA_first (hw : WR φ base H w) {sz n : Nat} {l : List AV} {x : AV} {vx : Value} (h : elemsA H sz x = some (n, l)) (hx : VR φ x vx) {k : Nat} (hk : k ≤ n) :
    ∃ cs : Array Value, VRs φ (l.take (k * sz)) cs.toList ∧ (Builtin.firstCells sz k vx).run P w = .ok cs w := by
  unfold elemsA at h
  split at h
  · cases h
    simp only [VR] at hx; subst hx
    exact ⟨#[], by simp [VRs], by simp [Builtin.firstCells]⟩
  · rename_i id off len cap s ex
    obtain ⟨hb, h⟩ := bif_some h
    have hs : s = sz := Nat.eq_of_beq_eq_true hb
    subst hs
    split at h
    · rename_i vs hvs
      obtain ⟨r, hr, h⟩ := opt2 h
      cases h
      obtain ⟨rfl, hlen⟩ := seg_some hr
      obtain ⟨e, y, c, he, rfl, hy, hlc, hex, hroom⟩ := hx
      obtain ⟨cs, el, hg, hsz, hle, hv, h1⟩ := hw.cells hvs he
      have hks : k * s ≤ n * s := Nat.mul_le_mul_right s hk
      by_cases h0 : k * s = 0
      · refine ⟨#[], ?_, ?_⟩
        · rw [h0]; simp [VRs]
        · simp [Builtin.firstCells, h0, loadCells, loadCellsFrom]
      · have hk0 : k ≠ 0 := by rintro rfl; simp at h0
        have hy' : y = e.o + off := by rcases hy with h | h <;> omega
        subst hy'
        have hin : off + n * s ≤ vs.length := by simp at hlen; omega
        refine ⟨((cs.toList.drop (e.o + off)).take (k * s)).toArray, ?_, ?_⟩
        · rw [List.take_take, Nat.min_eq_left hks]
          have h2 := (hv.drop off).take (k * s)
          have e2 : (((cs.toList.drop e.o).take vs.length).drop off).take (k * s) = (cs.toList.drop (e.o + off)).take (k * s) := by
            rw [List.drop_take, List.drop_drop, List.take_take]
            congr 1; omega
          rw [e2] at h2
          simpa using h2
        · have := run_loadCells_at (P := P) (w := w) (n := k * s) (o := e.o + off) hg (by omega)
          simp [Builtin.firstCells, this]
    · cases h
  · rename_i s
    obtain ⟨hb, h⟩ := bif_some h
    have hs : sz = 1 := Nat.eq_of_beq_eq_true hb
    subst hs
    cases h
    obtain ⟨b, rfl, rfl⟩ := hx
    refine ⟨(b.extract 0 k).data.map fun c => .int .u8 c.toNat, ?_, by simp [Builtin.firstCells]⟩
    rw [toNats_length] at hk
    refine VRs_of ?_ ?_
    · simp [toNats]
    · intro i a v h1 h2
      have hi : i < k := by
        rcases Nat.lt_or_ge i k with h | h
        · exact h
        · rw [List.getElem?_eq_none (by simp; omega)] at h1; cases h1
      rw [List.getElem?_take_of_lt (by omega)] at h1
      simp only [toNats, List.getElem?_map] at h1
      simp only [ByteArray.data_extract, Array.toList_map, Array.toList_extract, List.getElem?_map, List.extract_eq_take_drop, List.drop_zero, Nat.sub_zero, List.getElem?_take_of_lt hi] at h2
      cases hq : b.data.toList[i]? with
      | none => simp [hq] at h1
      | some u =>
        simp only [hq, Option.map_some, Option.some.injEq] at h1 h2
        subst h1 h2
        simp [VR]
  · cases h

theorem copyA_sound (hw : WR φ base H w) {ts : Array TypeId} {T : TypeId} {vs : Array Value} {d x v : AV} {vd vx : Value} {H' : AH}
    (v0 : vs[0]? = some vd) (v1 : vs[1]? = some vx) (hd : VR φ d vd) (hx : VR φ x vx) (h : copyA P H ts d x = some (v, H')) :
    ValR P m base φ H w (do pure (.value (← Builtin.copy_ ts T vs)) : Sem Next) v H' := by
  unfold copyA at h
  cases ht : ts[0]? with
  | none => simp [ht] at h
  | some t =>
    simp only [ht, Option.bind_some] at h
    split at h
    · rename_i elem hu
      split at h
      · rename_i sz hs
        split at h
        · rename_i n l hel
          cases h
          simp only [VR] at hd
          subst hd
          obtain ⟨cs, h1, h2⟩ := elemsA_first (P := P) hw hel hx (k := Nat.min n 0) (by simp)
          obtain ⟨_, _, _, hlen, _⟩ := elemsA_sound (P := P) hw hel hx
          refine ValR.of (w' := w) (v' := goInt 0) ?_ (goIntA_sound 0) hw (Ext.refl _ _ _) (Keep.refl _ _)
          simp only [Builtin.copy_, ht, v0, v1, Sem.run_bind, run_underlying hu w, Result.andThen_ok, hlen w, sizeT_run hs w, h2, Sem.run_pure]
          simp
        · rename_i id off len cap sz' ex n l hel
          obtain ⟨hb, hq⟩ := bif_some h
          clear h
          rw [Bool.and_eq_true] at hb
          obtain ⟨hb, hones⟩ := hb
          have hs' : sz = sz' := Nat.eq_of_beq_eq_true hb
          subst hs'
          obtain ⟨e, y, c, he, rfl, hy, hlc, hex, hroom⟩ := hd
          unfold copyTo at hq
          split at hq
          · rename_i cells el0 ho
            split at hq
            · rename_i r hp
              cases hq
              obtain ⟨cs, h1, h2⟩ := elemsA_first (P := P) hw hel hx (k := Nat.min n len) (Nat.min_le_left _ _)
              obtain ⟨cs0, g1, g2, hlen, _⟩ := elemsA_sound (P := P) hw hel hx
              obtain ⟨w', b1, b2, b3⟩ := hw.write (P := P) ho rfl (fun o h => h) he hp h1 hones
              refine ValR.of (w' := w') (v' := goInt (Nat.min n len)) ?_ (goIntA_sound _) b2 (Ext.put he _) b3
              have hst : (storeCells ⟨e.b, y, none⟩ cs.toList).run P w = .ok () w' := by
                by_cases h0 : Nat.min n len = 0
                · have : cs.toList = [] := by rw [h0] at h1; simpa [VRs] using h1
                  rw [this] at b1 ⊢
                  exact b1
                · have : len ≠ 0 := by rintro rfl; simp at h0
                  have hy' : y = e.o + off := by rcases hy with h | h <;> omega
                  rw [hy']; exact b1
              simp only [Builtin.copy_, ht, v0, v1, Sem.run_bind, run_underlying hu w, Result.andThen_ok, hlen w, sizeT_run hs w, h2, hst, Sem.run_pure]
            · cases hq
          · rename_i z nn el0 ho
            split at hq
            · rename_i r hp
              cases hq
              obtain ⟨cs, h1, h2⟩ := elemsA_first (P := P) hw hel hx (k := Nat.min n len) (Nat.min_le_left _ _)
              obtain ⟨cs0, g1, g2, hlen, _⟩ := elemsA_sound (P := P) hw hel hx
              obtain ⟨w', b1, b2, b3⟩ := hw.write (P := P) (vs := replic z nn) (el := el0) ho rfl (fun o h => h) he hp h1 hones
              refine ValR.of (w' := w') (v' := goInt (Nat.min n len)) ?_ (goIntA_sound _) b2 (Ext.put he _) b3
              have hst : (storeCells ⟨e.b, y, none⟩ cs.toList).run P w = .ok () w' := by
                by_cases h0 : Nat.min n len = 0
                · have : cs.toList = [] := by rw [h0] at h1; simpa [VRs] using h1
                  rw [this] at b1 ⊢
                  exact b1
                · have : len ≠ 0 := by rintro rfl; simp at h0
                  have hy' : y = e.o + off := by rcases hy with h | h <;> omega
                  rw [hy']; exact b1
              simp only [Builtin.copy_, ht, v0, v1, Sem.run_bind, run_underlying hu w, Result.andThen_ok, hlen w, sizeT_run hs w, h2, hst, Sem.run_pure]
            · cases hq
          · cases hq
        · cases h
      · cases h
    · cases h
end
end Go.Ev
