/- append and copy: what they come to. -/
import Derived.Test.YtbinpohgchgpaaaGreatEvAppend2
namespace Go.Ev

section
variable {P : Program} {φ : Phi} {base m : Nat} {H : AH} {w : World} {ρ : Operand → Option AV} {ev : Operand → Value}

/-- A new row that holds the elements, and behind them a spare room. -/
theorem spare_OR {l : List AV} {all spare : Array Value} {elem el : TypeId} {n : Nat} (h : VRs φ l all.toList) (h1 : l.all AV.one = true) (hn : all.size + spare.size = n) :
    ∀ ψ b, PLe φ ψ → OR ψ (.cells l elem) ⟨b, 0, n⟩ (.cells (all ++ spare) el (0, 0)) := by
  intro ψ b hle
  have hl := h.length
  refine ⟨_, el, rfl, by simp; omega, by simp at hl ⊢; omega, ?_, h1⟩
  have : ((all ++ spare).toList.drop 0).take l.length = all.toList := by
    simp only [List.drop_zero, Array.toList_append]
    rw [hl, List.take_left']
    rfl
  rw [this]
  exact VRs.mono hle _ _ h

theorem zeroCells_size (z : Array Value) (n : Nat) : (Builtin.zeroCells z n).size = n * z.size := by simp [Builtin.zeroCells]

theorem appendTo_sound (hw : WR φ base H w) (hb : base ≤ w.heap.size) (hm : m ≤ H.next) {ts : Array TypeId} {T t elem : TypeId} {vs : Array Value} {s v : AV} {vs0 vx : Value} {sz n by_ : Nat} {l : List AV} {H' : AH} {z : AV} {vz : Value}
    (ht : ts[0]? = some t) (hu : P.underlying t = some (.slice elem)) (v0 : vs[0]? = some vs0) (v1 : vs[1]? = some vx) (hs : sizeT P elem = some sz) (hby : bytesT P elem = some by_) (hbb : by_ ≤ 65536)
    (hz : VR φ z vz) (hzr : ∀ w, (zeroValue elem).run P w = .ok vz w) (hzl : z.cells.length = sz) (htk : TakenR P φ w ts elem sz n l vx) (hv : VR φ s vs0) (h : appendTo H elem sz s n l = some (v, H')) :
    ValR P m base φ H w (do pure (.value (← Builtin.append_ ts T vs)) : Sem Next) v H' := by
  have hzs : vz.cells.size = sz := by have := (AV.cells_rel hz).length; simp at this; omega
  have hdrew : WR φ base H w.drew := hw.same_heap rfl
  unfold appendTo at h
  split at h
  · simp only [VR] at hv
    subst hv
    cases n with
    | zero =>
      cases h
      obtain ⟨cs, h1, h2, h3⟩ := append_room (P := P) (T := T) ht hu v0 v1 hs hby hbb htk (Nat.le_refl _)
      exact ValR.of (h3 w rfl) (by simp [VR]) hw (Ext.refl _ _ _) (Keep.refl _ _)
    | succ k =>
      obtain ⟨hc, h⟩ := bif_some h
      cases h
      simp only [Bool.and_eq_true, Nat.ble_eq] at hc
      obtain ⟨cs, newCap, hle, h1, h2, h3⟩ := append_full (P := P) (T := T) (old := #[]) (a := none) (len := 0) (c := 0) ht hu v0 v1 hs hby hbb htk (by omega) (by omega) hzr (fun w' _ => by simp [Builtin.firstCells]) rfl
      have hcs : cs.size = (k + 1) * sz := by have := h1.length; simp at this; omega
      have hsize : (#[] ++ cs).size + (Builtin.zeroCells vz.cells (newCap - (0 + (k + 1)))).size = newCap * sz := by
        rw [zeroCells_size, hzs]
        have h6 : (k + 1) * sz + (newCap - (0 + (k + 1))) * sz = newCap * sz := by rw [← Nat.add_mul]; congr 1; omega
        rw [Array.size_append, hcs]
        simp only [List.size_toArray, List.length_nil]
        omega
      obtain ⟨a1, a2, a3⟩ := hdrew.make (m := m) (show base ≤ w.drew.heap.size from hb) (spare_OR (elem := elem) (el := elem) (by simpa using h1) hc.2 hsize) hm
      refine ValR.of h3 ?_ a1 a2 ((Keep.same_heap (base := base) (w' := w.drew) rfl).trans a3)
      simp only [VR]
      refine ⟨_, 0, newCap, bindAt_same _ _ _, by rw [Nat.zero_add]; rfl, .inr rfl, by omega, (fun h => by cases h), ?_⟩
      show 0 + 0 + newCap * sz ≤ newCap * sz
      omega
  · rename_i id off len cap sz' ex
    obtain ⟨hc, h⟩ := bif_some h
    simp only [Bool.and_eq_true, Nat.ble_eq] at hc
    have hsz' : sz = sz' := Nat.eq_of_beq_eq_true hc.1
    subst hsz'
    have hv0 := hv
    obtain ⟨e, y, c, he, rfl, hy, hlc, hex, hroom⟩ := hv
    cases n with
    | zero =>
      cases h
      obtain ⟨cs, h1, h2, h3⟩ := append_room (P := P) (T := T) ht hu v0 v1 hs hby hbb htk (by omega)
      have hcs : cs.toList = [] := by have := h1.length; rw [h2] at this; simpa using this.symm
      refine ValR.of (h3 w (by rw [hcs]; rfl)) hv0 hw (Ext.refl _ _ _) (Keep.refl _ _)
    | succ k =>
      simp only at h
      unfold growA at h
      split at h
      · rename_i cells el0 ho
        split at h
        · rename_i old hold
          obtain ⟨hones, h⟩ := bif_some h
          obtain ⟨o, hg, cs0, el', rfl, hsz, hle, hvs, _⟩ := hw.here id _ e ho he
          obtain ⟨hold1, hold2⟩ := seg_some hold
          by_cases hr : len + (k + 1) ≤ c
          · -- there is room
            have hcond : (ex && Nat.ble (cap + 1) (len + (k + 1))) = false := by
              cases ex
              · rfl
              · have := hex rfl
                simp only [Bool.true_and]
                rw [Bool.eq_false_iff, Ne, Nat.ble_eq]
                omega
            rw [hcond] at h
            simp only [cond_false] at h
            cases h
            have hy' : y = e.o + off := by rcases hy with h | h <;> omega
            subst hy'
            obtain ⟨cs, h1, h2, h3⟩ := append_room (P := P) (T := T) ht hu v0 v1 hs hby hbb htk hr
            obtain ⟨w', b1, b2, b3, b4⟩ := grow_here (P := P) (elem := elem) hw hm ho he hold h1 h2 hones hroom hr
            have h4 := h3 w' (by simp only [add_addr]; exact b1)
            refine ValR.of h4 ?_ b2 b3 b4
            simp only [VR]
            exact ⟨_, e.o + off, c, bindAt_same _ _ _, rfl, .inr rfl, hr, (fun h => by cases h), by simp only [Nat.add_zero]; exact hroom⟩
          · -- there is none
            have hfirst : ∃ old' : Array Value, VRs φ old old'.toList ∧ ∀ w', w'.heap = w.heap → (Builtin.firstCells sz len (.slice (some ⟨e.b, y, none⟩) len c)).run P w' = .ok old' w' := by
              by_cases h0 : len * sz = 0
              · refine ⟨#[], ?_, fun w' _ => by simp [Builtin.firstCells, h0, loadCells, loadCellsFrom]⟩
                have : old = [] := by rw [h0] at hold2; exact List.eq_nil_of_length_eq_zero hold2
                rw [this]; exact VRs_nil
              · have hlen0 : len ≠ 0 := by rintro rfl; simp at h0
                have hy' : y = e.o + off := by rcases hy with h | h <;> omega
                subst hy'
                have hin : off + len * sz ≤ cells.length := by rw [hold1] at hold2; simp at hold2; omega
                refine ⟨((cs0.toList.drop (e.o + off)).take (len * sz)).toArray, ?_, fun w' hh => ?_⟩
                · have h2 := (hvs.drop off).take (len * sz)
                  have e2 : (((cs0.toList.drop e.o).take cells.length).drop off).take (len * sz) = (cs0.toList.drop (e.o + off)).take (len * sz) := by
                    rw [List.drop_take, List.drop_drop, List.take_take]
                    congr 1; omega
                  rw [e2] at h2
                  rw [hold1]
                  simpa using h2
                · have := run_loadCells_at (P := P) (w := w') (n := len * sz) (o := e.o + off) (by rw [hh]; exact hg) (by omega)
                  simp [Builtin.firstCells, this]
            obtain ⟨old', o1, o2⟩ := hfirst
            obtain ⟨cs, newCap, hnle, h1, h2, h3⟩ := append_full (P := P) (T := T) ht hu v0 v1 hs hby hbb htk (by omega) hc.2 hzr o2 rfl
            have hcs : cs.size = (k + 1) * sz := by have := h1.length; simp at this; omega
            have hos : old'.size = len * sz := by have := o1.length; simp at this; omega
            have hsize : (old' ++ cs).size + (Builtin.zeroCells vz.cells (newCap - (len + (k + 1)))).size = newCap * sz := by
              rw [zeroCells_size, hzs]
              have h6 : len * sz + (k + 1) * sz + (newCap - (len + (k + 1))) * sz = newCap * sz := by rw [← Nat.add_mul, ← Nat.add_mul]; congr 1; omega
              rw [Array.size_append, hcs, hos]
              omega
            have hall : VRs φ (old ++ l) (old' ++ cs).toList := by rw [Array.toList_append]; exact o1.append h1
            have fin : ∀ H1 : AH, WR φ base H1 w.drew → H1.next = H.next → Ext m φ H φ H1 →
                ValR P m base φ H w (do pure (.value (← Builtin.append_ ts T vs)) : Sem Next) (.slice H.next 0 (len + (k + 1)) (len + (k + 1)) sz false) (AH.new H1 (.cells (old ++ l) elem)) := by
              intro H1 hw1 hn1 hext
              obtain ⟨a1, a2, a3⟩ := hw1.make (m := m) (show base ≤ w.drew.heap.size from hb) (spare_OR (elem := elem) (el := elem) hall hones hsize) (by omega)
              refine ValR.of h3 ?_ a1 (hext.trans a2) ((Keep.same_heap (base := base) (w' := w.drew) rfl).trans a3)
              simp only [VR]
              rw [hn1]
              refine ⟨_, 0, newCap, bindAt_same _ _ _, rfl, .inr rfl, hnle, (fun h => by cases h), ?_⟩
              show 0 + 0 + newCap * sz ≤ newCap * sz
              omega
            cases hcnd : (ex && Nat.ble (cap + 1) (len + (k + 1)))
            · rw [hcnd] at h
              simp only [cond_false] at h
              cases h
              exact fin _ (hdrew.kill ho) (next_put _ _ _) (Ext.put he _)
            · rw [hcnd] at h
              simp only [cond_true] at h
              cases h
              exact fin _ hdrew rfl (Ext.refl _ _ _)
        · cases h
      · cases h
  · cases h

theorem appendA_sound (hw : WR φ base H w) (hb : base ≤ w.heap.size) (hm : m ≤ H.next) {ts : Array TypeId} {T : TypeId} {vs : Array Value} {s x v : AV} {vs0 vx : Value} {H' : AH}
    (v0 : vs[0]? = some vs0) (v1 : vs[1]? = some vx) (hv : VR φ s vs0) (hx : VR φ x vx) (h : appendA P H ts s x = some (v, H')) :
    ValR P m base φ H w (do pure (.value (← Builtin.append_ ts T vs)) : Sem Next) v H' := by
  unfold appendA at h
  cases ht : ts[0]? with
  | none => simp [ht] at h
  | some t =>
    simp only [ht, Option.bind_some] at h
    split at h
    · rename_i elem hu
      split at h
      · rename_i sz by_ hs hby
        obtain ⟨hc, h⟩ := bif_some h
        simp only [Bool.and_eq_true, Nat.ble_eq] at hc
        obtain ⟨hbb, hz⟩ := hc
        split at h
        · rename_i n l htk
          cases hzz : zeroT P elem with
          | none => simp [hzz] at hz
          | some z =>
            simp only [hzz, Option.any_some] at hz
            obtain ⟨vz, z1, z2⟩ := zeroT_sound (φ := φ) hzz
            exact appendTo_sound hw hb hm ht hu v0 v1 hs hby hbb z1 z2 (Nat.eq_of_beq_eq_true hz) (takenA_sound hw htk hx) hv h
        · cases h
      · cases h
    · cases h
end
end Go.Ev
