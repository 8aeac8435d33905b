/- Operations that only read: building, arithmetic, slices. -/
import Derived.Test.YtbinpohgchgpaaaGreatEvRead2
namespace Go.Ev

section
variable {P : Program} {φ : Phi} {base : Nat} {H : AH} {w : World}

/-! Aggregates. -/
theorem foldl_put (l : List Value) : ∀ (k off : Nat) (cs : Array Value), off + k + l.length ≤ cs.size →
    ((l.zipIdx k).foldl (fun cs (c, j) => cs.setIfInBounds (off + j) c) cs).toList = cs.toList.take (off + k) ++ (l ++ cs.toList.drop (off + k + l.length)) := by
  induction l with
  | nil => intro k off cs h; simp
  | cons v l ih =>
    intro k off cs h
    simp only [List.length_cons] at h
    rw [List.zipIdx_cons, List.foldl_cons, ih (k + 1) off _ (by simp; omega)]
    apply List.ext_getElem?
    intro i
    simp only [Array.toList_setIfInBounds, List.getElem?_append, List.length_take, List.length_set, Array.length_toList, List.getElem?_take, List.getElem?_set, List.getElem?_drop, List.length_cons]
    by_cases h1 : i < off + k
    · have h2 : i < off + (k + 1) := by omega
      have h3 : ¬ (off + k = i) := by omega
      simp [h1, h2, h3, show min (off + (k + 1)) cs.size = off + (k + 1) by omega, show min (off + k) cs.size = off + k by omega]
    · by_cases h2 : i = off + k
      · subst h2
        simp [show min (off + (k + 1)) cs.size = off + (k + 1) by omega, show min (off + k) cs.size = off + k by omega, show off + k < off + (k + 1) by omega, show off + k < cs.size by omega]
      · have h3 : ¬ i < off + (k + 1) := by omega
        obtain ⟨j, rfl⟩ : ∃ j, i = off + k + 1 + j := ⟨i - (off + k + 1), by omega⟩
        simp only [show min (off + (k + 1)) cs.size = off + (k + 1) by omega, show min (off + k) cs.size = off + k by omega, if_neg h1, if_neg h3]
        have e1 : off + k + 1 + j - (off + (k + 1)) = j := by omega
        have e2 : off + k + 1 + j - (off + k) = j + 1 := by omega
        rw [e1, e2]
        simp only [List.getElem?_cons_succ]
        by_cases h4 : j < l.length
        · simp [h4]
        · simp only [if_neg h4, show ¬ (j + 1 < l.length + 1) by omega, if_false]
          have e3 : off + (k + 1) + l.length + (j - l.length) = off + k + (l.length + 1) + (j + 1 - (l.length + 1)) := by omega
          rw [e3]
          simp
          intro e
          omega

theorem hasLen_eq : ∀ (n : Nat) (l : List AV), hasLen n l = Nat.ble n l.length
  | 0, _ => rfl
  | _ + 1, [] => rfl
  | n + 1, _ :: l => (hasLen_eq n l).trans rfl

theorem putSeg_some {l cs r : List AV} {off : Nat} (h : putSeg l off cs = some r) : off + cs.length ≤ l.length ∧ r = l.take off ++ (cs ++ l.drop (off + cs.length)) := by
  unfold putSeg at h
  rw [hasLen_eq] at h
  cases hb : Nat.ble (off + cs.length) l.length
  · rw [hb] at h; cases h
  · rw [hb] at h; cases h; exact ⟨Nat.le_of_ble_eq_true hb, rfl⟩

theorem VRs.put {l cs : List AV} {l' cs' : List Value} {off : Nat} (hl : VRs φ l l') (hc : VRs φ cs cs') : VRs φ (l.take off ++ (cs ++ l.drop (off + cs.length))) (l'.take off ++ (cs' ++ l'.drop (off + cs'.length))) := by
  rw [← hc.length]
  exact (hl.take off).append (hc.append (hl.drop _))

def PartsR (φ : Phi) (ps : List (Nat × AV)) (ps' : List (Nat × Value)) : Prop := ps.map (·.1) = ps'.map (·.1) ∧ VRs φ (ps.map (·.2)) (ps'.map (·.2))

theorem aparts_sound {ρ : Operand → Option AV} {ev : Operand → Value} : ∀ {l : List (Nat × Operand)} {ps : List (Nat × AV)}, Rel φ ρ ev (l.map (·.2)) → aparts ρ l = some ps → PartsR φ ps (l.map fun p => (p.1, ev p.2))
  | [], ps, _, h => by simp [aparts] at h; subst h; exact ⟨rfl, VRs_nil⟩
  | (i, x) :: l, ps, hr, h => by
    simp only [aparts] at h
    split at h
    · cases h
    · rename_i a ha
      split at h
      · cases h
      · rename_i as has
        cases h
        have h1 := aparts_sound (l := l) (hr.sub (fun y hy => by simp only [List.map_cons, List.mem_cons]; exact .inr hy)) has
        exact ⟨by simp [h1.1], VRs_cons.2 ⟨hr x (by simp) a ha, h1.2⟩⟩

theorem fillA_sound {pl : Nat → Option (Nat × Nat)} : ∀ {ps : List (Nat × AV)} {ps' : List (Nat × Value)} {cs r : List AV} {cs' : Array Value}, PartsR φ ps ps' → VRs φ cs cs'.toList → fillA pl cs ps = some r →
    ∃ r', Instr.fill pl cs' ps' = some r' ∧ VRs φ r r'.toList
  | [], ps', cs, r, cs', hp, hc, h => by
    have : ps' = [] := by have := hp.1; simpa using this.symm
    subst this
    simp only [fillA] at h
    cases h
    exact ⟨cs', rfl, hc⟩
  | (i, v) :: ps, [], _, _, _, hp, _, _ => by have := hp.1; simp at this
  | (i, v) :: ps, (i', v') :: ps', cs, r, cs', hp, hc, h => by
    obtain ⟨h1, h2⟩ := hp
    simp only [List.map_cons, List.cons.injEq] at h1
    obtain ⟨rfl, h1⟩ := h1
    simp only [List.map_cons] at h2
    obtain ⟨hv, h2⟩ := VRs_cons.1 h2
    simp only [fillA] at h
    split at h
    · cases h
    · rename_i off size hpl
      cases hb : Nat.beq v.cells.length size
      · rw [hb] at h; cases h
      · rw [hb] at h
        simp only [cond_true] at h
        have hsz : v.cells.length = size := Nat.eq_of_beq_eq_true hb
        split at h
        · cases h
        · rename_i cs1 hp1
          obtain ⟨hle, rfl⟩ := putSeg_some hp1
          have hcv := AV.cells_rel hv
          have hl1 := hcv.length
          have hl2 := hc.length
          have hfold := foldl_put v'.cells.toList 0 off cs' (by simp at hl1 hl2 ⊢; omega)
          simp only [Nat.add_zero] at hfold
          have hput := VRs.put (off := off) hc hcv
          obtain ⟨r', h3, h4⟩ := fillA_sound (ps := ps) (ps' := ps') (cs' := v'.cells.zipIdx.foldl (fun cs (c, j) => cs.setIfInBounds (off + j) c) cs') ⟨h1, h2⟩ (by
            rw [← Array.foldl_toList, Array.toList_zipIdx, hfold]; exact hput) h
          refine ⟨r', ?_, h4⟩
          simp only [Instr.fill, hpl]
          have hc1 : ¬ (v'.cells.size ≠ size) := by simp at hl1; omega
          have hc2 : ¬ (off + v'.cells.size > cs'.size) := by simp at hl1 hl2; omega
          simpa [hc1, hc2] using h3

theorem placesT_sound {fields : Array Field} {pl : List (Nat × Nat)} (h : placesT P fields = some pl) (w : World) :
    (fields.mapM fun f => do pure (f.offset, ← sizeOf f.type) : Sem _).run P w = .ok pl.toArray w := by
  rw [Array.mapM_eq_mapM_toList, Sem.run_map]
  unfold placesT at h
  have : ∀ (fs : List Field) (pl : List (Nat × Nat)), (fs.mapM fun f => (sizeT P f.type).map fun s => (f.offset, s)) = some pl → ((fs.mapM fun f => do pure (f.offset, ← sizeOf f.type) : Sem _)).run P w = .ok pl w := by
    intro fs
    induction fs with
    | nil => intro pl h; simp at h; subst h; simp
    | cons f fs ih =>
      intro pl h
      rw [List.mapM_cons] at h ⊢
      cases hs : sizeT P f.type with
      | none => simp [hs] at h
      | some s =>
        simp only [hs, Option.map_some, Option.bind_eq_bind, Option.bind_some] at h
        cases hm : (fs.mapM fun f => (sizeT P f.type).map fun s => (f.offset, s)) with
        | none => simp [hm] at h
        | some pl' =>
          simp [hm] at h
          subst h
          have := ih _ hm
          simp [sizeT_run hs w] at this ⊢
          simp [this]
  rw [this _ _ h]
  rfl

end
end Go.Ev
