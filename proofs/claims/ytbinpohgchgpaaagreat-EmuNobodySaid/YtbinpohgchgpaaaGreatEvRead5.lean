/- Operations that only read: slices, maps, addresses. -/
import Derived.Test.YtbinpohgchgpaaaGreatEvRead4
namespace Go.Ev

section
variable {P : Program} {φ : Phi} {base : Nat} {H : AH} {w : World}

theorem opt2 {α β : Type} {r : Option α} {f : α → β} {v : β} (h : r.map f = some v) : ∃ a, r = some a ∧ f a = v := by
  cases r with
  | none => cases h
  | some a => cases h; exact ⟨a, rfl, rfl⟩


theorem natOf_sound {a : AV} {n : Nat} {v : Value} (h : natOf a = some n) (ha : VR φ a v) : ∃ k, v = .int k (n : Int) := by
  unfold natOf at h
  split at h
  · cases h; simp only [VR] at ha; exact ⟨_, ha⟩
  · cases h

theorem goIntA_sound (n : Nat) : VR φ (goIntA n) (goInt n) := by simp [goIntA, goInt, VR]

/-- An operand that need not be there. -/
def OptR (φ : Phi) (a : Option AV) (v : Option Value) : Prop := (a = none ∧ v = none) ∨ (∃ x y, a = some x ∧ v = some y ∧ VR φ x y)

/-- A bound of a slice expression. -/
theorem sliceBound_ok {v : Value} {k : IntKind} {n y : Nat} {c : BoundsCode} (hv : v = .int k (n : Int)) (h : n ≤ y) (w : World) : (Instr.sliceBound v y c).run P w = .ok n w := by
  subst hv
  have : (0 : Int) ≤ n ∧ (n : Int) ≤ y := ⟨by omega, by omega⟩
  simp [Instr.sliceBound, asIntOf, h]

theorem optBound_ok {a : Option AV} {v : Option Value} {n d y : Nat} {c : BoundsCode} (h : (match a with | some x => natOf x | none => some d) = some n) (hr : OptR φ a v) (hle : n ≤ y) (w : World) :
    (match v with | some x => Instr.sliceBound x y c | none => pure d : Sem Nat).run P w = .ok n w := by
  rcases hr with ⟨rfl, rfl⟩ | ⟨x, y, rfl, rfl, hxy⟩
  · simp at h; subst h; simp
  · obtain ⟨k, rfl⟩ := natOf_sound h hxy
    exact sliceBound_ok rfl hle w

theorem sliceBounds2 {isSlice : Bool} {lo hi : Option AV} {lo' hi' : Option Value} {l h len cap : Nat} (e1 : (match hi with | some v => natOf v | none => some len) = some h)
    (e2 : (match lo with | some v => natOf v | none => some 0) = some l) (hl : OptR φ lo lo') (hh : OptR φ hi hi') (h1 : h ≤ cap) (h2 : l ≤ h) (w : World) :
    (Instr.sliceBounds isSlice len cap lo' hi' none).run P w = .ok (l, h, cap) w := by
  have hlo := fun w => optBound_ok (P := P) (c := .sliceB) e2 hl h2 w
  have hhi := fun w => optBound_ok (P := P) (c := if isSlice then .sliceAcap else .sliceAlen) e1 hh h1 w
  simp only [Instr.sliceBounds]
  cases hi' <;> cases lo' <;> simp at hlo hhi ⊢ <;> simp [hlo, hhi]

theorem sliceBounds3 {isSlice : Bool} {m' : Value} {lo : Option AV} {ma : AV} {lo' : Option Value} {h' : Value} {ha : AV} {l h m len cap : Nat} (e0 : natOf ma = some m) (hm : VR φ ma m')
    (e1 : natOf ha = some h) (hh : VR φ ha h')
    (e2 : (match lo with | some v => natOf v | none => some 0) = some l) (hl : OptR φ lo lo') (h0 : m ≤ cap) (h1 : h ≤ m) (h2 : l ≤ h) (w : World) :
    (Instr.sliceBounds isSlice len cap lo' (some h') (some m')).run P w = .ok (l, h, m) w := by
  have hlo := fun w => optBound_ok (P := P) (c := .slice3C) e2 hl h2 w
  obtain ⟨k, rfl⟩ := natOf_sound e0 hm
  obtain ⟨k', rfl⟩ := natOf_sound e1 hh
  have b0 := fun w => sliceBound_ok (P := P) (v := .int k (m : Int)) (c := if isSlice then .slice3Acap else .slice3Alen) rfl h0 w
  have b1 := fun w => sliceBound_ok (P := P) (v := .int k' (h : Int)) (c := .slice3B) rfl h1 w
  simp only [Instr.sliceBounds]
  cases lo' <;> simp at hlo ⊢ <;> simp [hlo, b0, b1]

theorem sliceStr_sound {b : ByteArray} {lo hi : Option AV} {lo' hi' : Option Value} {v : AV} (h : sliceStr (toNats b) lo hi = some v)
    (hl : OptR φ lo lo') (hh : OptR φ hi hi') (w : World) :
    ∃ l h', (Instr.sliceBounds false b.size b.size lo' hi' none).run P w = .ok (l, h', b.size) w ∧ VR φ v (.string (b.extract l h')) := by
  unfold sliceStr at h
  split at h
  · rename_i h' l e1 e2
    obtain ⟨hb, h⟩ := bif_some h
    cases h
    simp only [Bool.and_eq_true, Nat.ble_eq] at hb
    rw [toNats_length] at hb e1
    refine ⟨l, h', sliceBounds2 e1 e2 hl hh hb.1 hb.2 w, ⟨_, rfl, ?_⟩⟩
    simp only [toNats, ByteArray.data_extract, Array.toList_extract, List.map_take, List.map_drop]
    rw [List.drop_take]
  · cases h

theorem optR_of {ρ : Operand → Option AV} {ev : Operand → Value} {x : Option Operand} {r : Option AV} (hr : Rel φ ρ ev x.toList) (h : optA ρ x = some r) : OptR φ r (x.map ev) := optA_sound hr h

theorem add_addr (b o n : Nat) : (⟨b, o, none⟩ : Addr).add n = ⟨b, o + n, none⟩ := by unfold Addr.add; split <;> simp_all

/-- A slice of a slice: what the model's slice expression makes of it. -/
theorem sliceSl_sound {id off len cap sz x : Nat} {ex : Bool} {lo hi mx : Option AV} {lo' hi' mx' : Option Value} {v : AV} {e : PE} {c : Nat} (h : sliceSl id off len cap sz ex lo hi mx = some v)
    (he : φ id = some e) (hx : c = 0 ∨ x = e.o + off) (hlen : len ≤ c) (hex : ex = true → c = cap) (hroom : e.o + off + c * sz ≤ e.n)
    (hl : OptR φ lo lo') (hh : OptR φ hi hi') (hm : OptR φ mx mx') (w : World) (isSlice : Bool) :
    ∃ l h' m, (Instr.sliceBounds isSlice len c lo' hi' mx').run P w = .ok (l, h', m) w ∧
      VR φ v (.slice (if m = l then some ⟨e.b, x, none⟩ else some ((⟨e.b, x, none⟩ : Addr).add (l * sz))) (h' - l) (m - l)) := by
  have key : ∀ {l h m : Nat} {ex' : Bool} {cap' : Nat}, l ≤ h → h ≤ m → m ≤ c → (ex' = true → m - l = cap') →
      VR φ (.slice id (off + l * sz) (h - l) cap' sz ex') (.slice (if m = l then some ⟨e.b, x, none⟩ else some ((⟨e.b, x, none⟩ : Addr).add (l * sz))) (h - l) (m - l)) := by
    intro l h m ex' cap' h1 h2 h3 h4
    simp only [VR]
    have hr : e.o + (off + l * sz) + (m - l) * sz ≤ e.n := by
      have e1 : l * sz + (m - l) * sz = m * sz := by rw [← Nat.add_mul]; congr 1; omega
      have e2 : m * sz ≤ c * sz := Nat.mul_le_mul_right sz h3
      omega
    by_cases hml : m = l
    · exact ⟨e, x, m - l, he, by rw [if_pos hml], .inl (by omega), by omega, h4, hr⟩
    · refine ⟨e, x + l * sz, m - l, he, by rw [if_neg hml, add_addr], .inr ?_, by omega, h4, hr⟩
      rcases hx with hx | hx <;> omega
  unfold sliceSl at h
  split at h
  · rcases hm with ⟨_, rfl⟩ | ⟨_, _, e1, _⟩
    case inr => cases e1
    split at h
    · rename_i h' l e1 e2
      obtain ⟨hb, h⟩ := bif_some h
      cases h
      simp only [Bool.and_eq_true, Nat.ble_eq] at hb
      have hc : h' ≤ c := by
        have := hb.1
        cases ex
        · simp at this; omega
        · simp at this; rw [hex rfl]; exact this
      refine ⟨l, h', c, sliceBounds2 e1 e2 hl hh hc hb.2 w, key hb.2 hc (Nat.le_refl _) (fun e => by rw [hex e])⟩
    · cases h
  · rename_i m
    rcases hm with ⟨e1, _⟩ | ⟨ma, mv, e1, rfl, hmv⟩
    case inl => cases e1
    cases e1
    split at h
    · rename_i m' h' l e0 e1 e2
      obtain ⟨hb, h⟩ := bif_some h
      cases h
      simp only [Bool.and_eq_true, Nat.ble_eq] at hb
      have hc : m' ≤ c := by
        have := hb.1.1
        cases ex
        · simp at this; omega
        · simp at this; rw [hex rfl]; exact this
      rcases hh with ⟨rfl, rfl⟩ | ⟨ha, hv, rfl, rfl, hav⟩
      · cases e1
      · exact ⟨l, h', m', sliceBounds3 e0 hmv e1 hav e2 hl hc hb.1.2 hb.2 w, key hb.2 hb.1.2 hc (fun _ => rfl)⟩
    · cases h

theorem ERs.length : ∀ {es : List (AV × AV × Nat)} {ms : List MapEntry}, ERs φ es ms → es.length = ms.length
  | [], _, h => by simp only [ERs] at h; subst h; rfl
  | (k, v, b) :: es, _, h => by
    simp only [ERs] at h
    obtain ⟨m, ms, rfl, _, _, _, h⟩ := h
    simp [ERs.length h]

theorem lenA_sound (hw : WR φ base H w) {x : AV} {v : Value} {n : Nat} {d : TypeDesc} {t : TypeId} {ts : Array TypeId} {T : TypeId} {vs : Array Value} (hx : VR φ x v) (h : lenA H x = some n) (hu : P.underlying t = some d)
    (hfit : lenFits d x = true) (h0 : ts[0]? = some t) (h1 : vs[0]? = some v) :
    (Builtin.len_ ts T vs).run P w = .ok (goInt n) w := by
  cases x <;> simp only [lenA] at h
  case str s =>
    cases h
    obtain ⟨b, rfl, rfl⟩ := hx
    cases d <;> simp [lenFits] at hfit
    simp [Builtin.len_, h0, h1, run_underlying hu w, toNats_length]
  case slice =>
    cases h
    obtain ⟨e, y, c, _, rfl, _⟩ := hx
    cases d <;> simp [lenFits] at hfit
    simp [Builtin.len_, h0, h1, run_underlying hu w]
  case sliceNil =>
    cases h
    simp only [VR] at hx; subst hx
    cases d <;> simp [lenFits] at hfit
    simp [Builtin.len_, h0, h1, run_underlying hu w]
  case mapNil =>
    cases h
    simp only [VR] at hx; subst hx
    cases d <;> simp [lenFits] at hfit
    simp [Builtin.len_, h0, h1, run_underlying hu w]
  case map id =>
    split at h
    · rename_i es clock ho
      cases h
      obtain ⟨e, he, rfl⟩ := hx
      obtain ⟨o, h3, es', rfl, h2⟩ := hw.here _ _ e ho he
      cases d <;> simp [lenFits] at hfit
      have := h2.length
      simp [Builtin.len_, h0, h1, run_underlying hu w, getObj, Sem.run, h3, this]
    · cases h
  all_goals cases h
end
end Go.Ev
