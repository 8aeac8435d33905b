/- Iterators. -/
import Derived.Test.YtbinpohgchgpaaaGreatEvMaps2
import Derived.Laws.RangeString
namespace Go.Ev

section
variable {P : Program} {φ : Phi} {base m : Nat} {H : AH} {w : World} {ρ : Operand → Option AV} {ev : Operand → Value}

theorem ERs.filter (q : Nat → Bool) : ∀ {es : List (AV × AV × Nat)} {ms : List MapEntry}, ERs φ es ms → ERs φ (es.filter fun e => q e.2.2) (ms.filter fun x => q x.born)
  | [], _, h => by simp only [ERs] at h; subst h; simp [ERs]
  | (k, v, b) :: es, _, h => by
    simp only [ERs] at h
    obtain ⟨x, ms, rfl, h1, h2, h3, h4⟩ := h
    have ih := ERs.filter q h4
    by_cases hq : q b = true
    · rw [List.filter_cons_of_pos (by simpa using hq), List.filter_cons_of_pos (by simpa [h3] using hq)]
      exact ⟨x, _, rfl, h1, h2, h3, ih⟩
    · rw [List.filter_cons_of_neg (by simpa using hq), List.filter_cons_of_neg (by simpa [h3] using hq)]
      exact ih

theorem ERs.all (q : Nat → Bool) : ∀ {es : List (AV × AV × Nat)} {ms : List MapEntry}, ERs φ es ms → ms.all (fun x => q x.born) = es.all (fun e => q e.2.2)
  | [], _, h => by simp only [ERs] at h; subst h; simp
  | (k, v, b) :: es, _, h => by
    simp only [ERs] at h
    obtain ⟨x, ms, rfl, h1, h2, h3, h4⟩ := h
    simp only [List.all_cons, ERs.all q h4, h3]

theorem next_over {it : Value} {T : TypeId} (h : (Instr.next it false T).run P w = .ok (.tuple #[.bool false]) w) (hw : WR φ base H w) : ValR P m base φ H w (do pure (.value (← Instr.next it false T)) : Sem Next) (.tuple [.bool false]) H :=
  ValR.of h ⟨_, rfl, VRs_one (by simp [VR])⟩ hw (Ext.refl _ _ _) (Keep.refl _ _)

theorem seen_contains (seen : List Nat) (b : Nat) : seen.toArray.contains b = seen.any (Nat.beq b) := by
  rw [Bool.eq_iff_iff]
  simp only [List.contains_toArray, List.contains_iff_mem, List.any_eq_true]
  constructor
  · intro h; exact ⟨b, h, by simp⟩
  · rintro ⟨x, h1, h2⟩
    have := Nat.eq_of_beq_eq_true h2
    subst this; exact h1

theorem nextMap_sound (hw : WR φ base H w) {r mm since last clock : Nat} {seen : List Nat} {es : List (AV × AV × Nat)} {er em : PE} {out : Out} {T : TypeId}
    (h : nextMap H r mm since seen last es clock = some out) (hr : H.obj r = some (.mapIter (some mm) since seen last)) (her : φ r = some er) (ho : H.obj mm = some (.map es clock)) (hem : φ mm = some em) :
    ∃ v H', out = .val v H' ∧ ValR P m base φ H w (do pure (.value (← Instr.next (.pointer (some ⟨er.b, 0, none⟩)) false T)) : Sem Next) v H' := by
  obtain ⟨o, hg, m', rfl, her0, hm'⟩ := hw.here r _ er hr her
  obtain ⟨e', he', rfl⟩ := hm'
  rw [hem] at he'; cases he'
  obtain ⟨o2, hg2, es', rfl, hes⟩ := hw.here mm _ em ho hem
  have h1 := getObj_at (P := P) hg rfl
  have h2 := getObj_at (P := P) hg2 rfl
  unfold nextMap at h
  cases hc : (!seen.isEmpty && !es.isEmpty && es.all (fun e => Nat.ble last e.2.2))
  case true => rw [hc] at h; cases h
  rw [hc] at h
  simp only [cond_false] at h
  have hcond : (!seen.toArray.isEmpty && !es'.isEmpty && es'.all (fun x => decide (x.born ≥ last))) = false := by
    have e1 : seen.toArray.isEmpty = seen.isEmpty := by cases seen <;> rfl
    have e2 : es'.isEmpty = es.isEmpty := by
      have := hes.length
      cases es <;> cases es' <;> rename_i l <;> cases l <;> simp at this ⊢
    have e3 : es'.all (fun x => decide (x.born ≥ last)) = es.all (fun e => Nat.ble last e.2.2) := by
      rw [← hes.all (fun b => Nat.ble last b), ← Array.all_toList]
      congr 1
      funext x
      rw [Bool.eq_iff_iff]; simp
    rw [e1, e2, e3]; exact hc
  have hleft : ERs φ (es.filter fun e => !seen.any (Nat.beq e.2.2)) (es'.filter fun e => !seen.toArray.contains e.born).toList := by
    have := hes.filter (fun b => !seen.any (Nat.beq b))
    rw [Array.toList_filter]
    have e : (fun (e : MapEntry) => !seen.toArray.contains e.born) = (fun (x : MapEntry) => (fun b => !seen.any (Nat.beq b)) x.born) := by
      funext x; simp only [seen_contains]
    rw [e]; exact this
  generalize es.filter (fun e => !seen.any (Nat.beq e.2.2)) = left at h hleft
  generalize hL : es'.filter (fun e => !seen.toArray.contains e.born) = left' at hleft
  split at h
  · simp only [over] at h
    cases h
    simp only [ERs] at hleft
    have hl0 : left' = #[] := by cases left'; simpa using hleft
    subst hl0
    refine ⟨_, _, rfl, next_over ?_ hw⟩
    have hf : (Question.mapNext 1).forced = true := rfl
    simp only [Instr.next, Sem.run_bind, h1, Result.andThen_ok, h2, hcond, hL]
    simp [hf]
  · rename_i e
    obtain ⟨hb, h⟩ := bif_some h
    cases h
    obtain ⟨k, v, b⟩ := e
    simp only [ERs] at hleft
    obtain ⟨x, ms, hx, a1, a2, a3, rfl⟩ := hleft
    have hl1 : left' = #[x] := by cases left'; simpa using hx
    subst hl1
    have hlt : b < since := by have := Nat.le_of_ble_eq_true hb; simp at this; omega
    obtain ⟨w', b1, b2, b3⟩ := hw.setMap (P := P) (ob' := .mapIter (some mm) since (seen ++ [b]) clock) (o' := .mapIter (some em.b) since (seen ++ [b]).toArray clock) hr rfl her hg rfl
      ⟨some em.b, rfl, her0, em, hem, rfl⟩
    refine ⟨_, _, rfl, ValR.of (v' := .tuple #[.bool true, x.key, x.val]) ?_ (triple_VR (by simp [VR]) a1 a2) b2 (Ext.put her _) b3⟩
    have hf : (Question.mapNext 1).forced = true := rfl
    have hxb : x.born < since := by rw [a3]; exact hlt
    have o1 : (#[x] : Array MapEntry).filter (fun e => decide (e.born < since)) = #[x] := by simp [hxb]
    have o2 : (#[x] : Array MapEntry).filter (fun e => decide (e.born ≥ since)) = #[] := by simp; omega
    simp only [Instr.next, Sem.run_bind, h1, Result.andThen_ok, h2, hcond, hL, o1, o2]
    simp [hf]
    rw [a3, b1]
    rfl
  · cases h

theorem hNext_sound (hw : WR φ base H w) {it : Operand} {isString : Bool} {out : Out} {T : TypeId} (hr : ∀ a, ρ it = some a → VR φ a (ev it)) (h : hNext ρ H it isString = some out) :
    ∃ v H', out = .val v H' ∧ ValR P m base φ H w (do pure (.value (← Instr.next (ev it) isString T)) : Sem Next) v H' := by
  unfold hNext at h
  split at h
  · rename_i r hx
    obtain ⟨e, he, hv⟩ := hr _ hx
    unfold nextA at h
    split at h
    · rename_i s pos ho
      obtain ⟨o, hg, b, rfl, rfl, h0⟩ := hw.here r _ e ho he
      have h1 := getObj_at (P := P) hg rfl
      rw [h0] at hv
      unfold nextStr at h
      split at h
      · rename_i hn
        simp only [over] at h
        cases h
        have hlt : ¬ pos < b.size := by
          intro hlt
          rw [List.getElem?_eq_none_iff, toNats_length] at hn; omega
        refine ⟨_, _, rfl, ValR.of (v' := .tuple #[.bool false]) ?_ ⟨_, rfl, VRs_one (by simp [VR])⟩ hw (Ext.refl _ _ _) (Keep.refl _ _)⟩
        simp [Instr.next, hv, h1, hlt]
      · rename_i c hc
        obtain ⟨hb, h⟩ := bif_some h
        cases h
        have hlt : pos < b.size := by
          rcases Nat.lt_or_ge pos b.size with h | h
          · exact h
          · rw [List.getElem?_eq_none (by rw [toNats_length]; exact h)] at hc; cases hc
        have hcb : (b[pos]'hlt).toNat = c := by
          simp only [toNats, List.getElem?_map] at hc
          have hl : pos < b.data.toList.length := by simpa using hlt
          rw [List.getElem?_eq_getElem hl] at hc
          simp only [Option.map_some, Option.some.injEq] at hc
          exact hc
        have hd := decode_ascii b pos hlt (by have := Nat.le_of_ble_eq_true hb; omega)
        obtain ⟨w', b1, b2, b3⟩ := hw.setMap (P := P) (ob' := .strIter (toNats b) (pos + 1)) (o' := .stringIter b (pos + 1)) ho rfl he hg rfl ⟨b, rfl, rfl, h0⟩
        refine ⟨_, _, rfl, ValR.of (v' := .tuple #[.bool true, goInt pos, .int .i32 c]) ?_ (triple_VR (by simp [VR]) (goIntA_sound pos) (by simp [VR])) b2 (Ext.put he _) b3⟩
        rw [hcb] at hd
        simp [Instr.next, hv, h1, hlt, hd, b1]
    · rename_i since seen last ho
      obtain ⟨o, hg, m', rfl, h0, rfl⟩ := hw.here r _ e ho he
      have h1 := getObj_at (P := P) hg rfl
      rw [h0] at hv
      simp only [over] at h
      cases h
      refine ⟨_, _, rfl, ?_⟩
      rw [hv]
      exact next_over (by simp [Instr.next, h1]) hw
    · rename_i mm since seen last ho
      split at h
      · rename_i es clock ho2
        obtain ⟨o, hg, m', rfl, h0, em, hem, _⟩ := hw.here r _ e ho he
        rw [hv, h0]
        exact nextMap_sound hw h ho he ho2 hem
      · cases h
    · cases h
  · cases h

theorem hEntry_sound (hw : WR φ base H w) {it : Operand} {out : Out} (hr : ∀ a, ρ it = some a → VR φ a (ev it)) (h : hEntry ρ H it = some out) :
    ∃ v H', out = .val v H' ∧ ValR P m base φ H w (do pure (.value (← Instr.entry (ev it))) : Sem Next) v H' := by
  unfold hEntry at h
  split at h
  · rename_i r hx
    obtain ⟨e, he, hv⟩ := hr _ hx
    split at h
    · rename_i mm since seen stepped ho
      obtain ⟨o, hg, m', rfl, h0, em, hem, rfl⟩ := hw.here r _ e ho he
      rw [h0] at hv
      have h1 := getObj_at (P := P) hg rfl
      unfold entryAt at h
      split at h
      · rename_i stamp es clock hs ho2
        obtain ⟨o2, hg2, es', rfl, hes⟩ := hw.here mm _ em ho2 hem
        have h2 := getObj_at (P := P) hg2 rfl
        obtain ⟨hb, h⟩ := bif_some h
        have hc : clock = stepped := Nat.eq_of_beq_eq_true hb
        split at h
        · rename_i x hx
          cases h
          have key : ∀ {es : List (AV × AV × Nat)} {ms : List MapEntry}, ERs φ es ms → es.find? (fun e => Nat.beq e.2.2 stamp) = some x → ∃ y, ms.find? (fun y => y.born == stamp) = some y ∧ VR φ x.1 y.key ∧ VR φ x.2.1 y.val := by
            intro es
            induction es with
            | nil => intro ms _ h; simp at h
            | cons p es ih =>
              obtain ⟨k, v, b⟩ := p
              intro ms hes h
              simp only [ERs] at hes
              obtain ⟨y, ms, rfl, a1, a2, a3, a4⟩ := hes
              rw [List.find?_cons] at h
              cases hq : Nat.beq b stamp
              · rw [hq] at h
                obtain ⟨z, b1, b2⟩ := ih a4 h
                refine ⟨z, ?_, b2⟩
                rw [List.find?_cons]
                have : (y.born == stamp) = false := by rw [a3]; rw [Tr.nbeq] at hq; simpa using hq
                rw [this]; exact b1
              · rw [hq] at h
                cases h
                refine ⟨y, ?_, a1, a2⟩
                rw [List.find?_cons]
                have : (y.born == stamp) = true := by rw [a3]; have := Nat.eq_of_beq_eq_true hq; simp [this]
                rw [this]
          obtain ⟨y, b1, b2, b3⟩ := key hes hx
          have b1' : es'.find? (fun y => y.born == stamp) = some y := by cases es'; simpa using b1
          refine ⟨_, _, rfl, ValR.of (v' := .tuple #[y.key, y.val]) ?_ (pair_VR b2 b3) hw (Ext.refl _ _ _) (Keep.refl _ _)⟩
          have hs' : seen.toArray.back? = some stamp := by simpa using hs
          subst hc
          simp [Instr.entry, hv, h1, hs', h2, b1']
        · cases h
      · cases h
    · cases h
  · cases h
end
end Go.Ev
