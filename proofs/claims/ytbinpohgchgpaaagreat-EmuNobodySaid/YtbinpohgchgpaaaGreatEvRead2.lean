/- Operations that only read: each against the model. -/
import Derived.Test.YtbinpohgchgpaaaGreatEvRead
namespace Go.Ev

/-! Strings. -/
theorem eqNats_eq : ∀ (l m : List Nat), eqNats l m = decide (l = m)
  | [], [] => by simp [eqNats]
  | [], _ :: _ => by simp [eqNats]
  | _ :: _, [] => by simp [eqNats]
  | a :: l, b :: m => by
    rw [eqNats, Tr.nbeq, Tr.bif_dec, eqNats_eq l m]
    by_cases h : a = b <;> simp [h]

theorem toNats_inj {a b : ByteArray} (h : toNats a = toNats b) : a = b := by
  obtain ⟨⟨x⟩⟩ := a
  obtain ⟨⟨y⟩⟩ := b
  simp only [toNats] at h
  have : x = y := List.map_inj_right (fun u v e => UInt8.toNat_inj.1 e) |>.1 h
  rw [this]

theorem toNats_length (b : ByteArray) : (toNats b).length = b.size := by simp [toNats]

theorem toNats_append (a b : ByteArray) : toNats (a ++ b) = toNats a ++ toNats b := by
  simp [toNats]

theorem toNats_lt (b : ByteArray) : ∀ x ∈ toNats b, x < 256 := by
  intro x hx
  simp only [toNats, List.mem_map] at hx
  obtain ⟨u, _, rfl⟩ := hx
  exact u.toNat_lt

theorem toList_beq (a b : ByteArray) : (a.toList == b.toList) = decide (toNats a = toNats b) := by
  rw [ByteArray.toList_eq, ByteArray.toList_eq]
  by_cases h : toNats a = toNats b
  · have := toNats_inj h
    subst this
    simp
  · have : a.data ≠ b.data := fun e => h (by simp only [toNats, e])
    simp [h, this]

theorem lessNats_eq : ∀ (l m : List UInt8), Op.bytesLess l m = lessNats (l.map UInt8.toNat) (m.map UInt8.toNat)
  | l, [] => by cases l <;> simp [Op.bytesLess, lessNats]
  | [], _ :: _ => by simp [Op.bytesLess, lessNats]
  | a :: l, b :: m => by
    simp only [Op.bytesLess, List.map_cons, lessNats]
    rw [lessNats_eq l m]
    have h1 : Nat.ble (a.toNat + 1) b.toNat = decide (a < b) := by
      rw [Bool.eq_iff_iff]; simp [UInt8.lt_iff_toNat_lt]; omega
    have h2 : Nat.beq a.toNat b.toNat = decide (a = b) := by rw [Tr.nbeq]; simp [UInt8.toNat_inj]
    rw [h1, h2]
    by_cases h : a < b
    · simp [h]
    · by_cases e : a = b <;> simp [h, e]

theorem bytesLess_eq (a b : ByteArray) : Op.bytesLess a.toList b.toList = lessNats (toNats a) (toNats b) := by
  rw [ByteArray.toList_eq, ByteArray.toList_eq, lessNats_eq]; rfl

section
variable {P : Program} {φ : Phi} {base : Nat} {H : AH} {w : World}

theorem cmpStr_sound {op : BinOp} {a b : ByteArray} {v : AV} (h : cmpStr op (toNats a) (toNats b) = some v) (w : World) :
    ∃ v', (Op.stringOp op a b).run P w = .ok v' w ∧ VR φ v v' := by
  unfold cmpStr at h
  split at h
  · cases hb : Nat.ble ((toNats a).length + (toNats b).length) 1000000
    · rw [hb] at h; cases h
    · rw [hb] at h
      cases h
      refine ⟨.string (a ++ b), ?_, ⟨_, rfl, toNats_append a b⟩⟩
      have hle := Nat.le_of_ble_eq_true hb
      rw [toNats_length, toNats_length] at hle
      have : ¬ (((a.size + b.size : Nat) : Int) > IntKind.i64.max) := by
        have : IntKind.i64.max = 9223372036854775807 := by rfl
        rw [this]; omega
      simp only [Op.stringOp, if_neg this, Sem.run_pure]
  all_goals first
    | (cases h
       refine ⟨_, rfl, ?_⟩
       simp only [VR, bytesLess_eq, toList_beq, eqNats_eq]
       try simp
       done)
    | (cases h; done)

/-! Tokens of which only so much is known. -/
theorem hasStr_ne {ne : List (List Nat)} {s l : List Nat} (h : hasStr ne l = true) (hs : ∀ c ∈ ne, s ≠ c) : s ≠ l := by
  unfold hasStr at h
  obtain ⟨c, hc, he⟩ := List.any_eq_true.1 h
  rw [eqNats_eq] at he
  have := of_decide_eq_true he
  subst this
  exact hs _ hc
theorem below_ne {lo : Option Int} {m n : Int} (h : isBelow lo n = true) (hl : ∀ l, lo = some l → l ≤ m) : n < m := by
  cases lo with
  | none => cases h
  | some l => have := hl l rfl; have h' : n < l := of_decide_eq_true h; omega
theorem above_ne {hi : Option Int} {m n : Int} (h : isAbove hi n = true) (hl : ∀ l, hi = some l → m ≤ l) : m < n := by
  cases hi with
  | none => cases h
  | some l => have := hl l rfl; have h' : l < n := of_decide_eq_true h; omega
theorem far_ne {lo hi : Option Int} {ne : List Int} {m n : Int} (h : (isBelow lo n || isAbove hi n || ne.contains n) = true) (hne : ∀ c ∈ ne, m ≠ c) (hlo : ∀ l, lo = some l → l ≤ m) (hhi : ∀ l, hi = some l → m ≤ l) : m ≠ n := by
  simp only [Bool.or_eq_true] at h
  rcases h with (h | h) | h
  · have := below_ne h hlo; omega
  · have := above_ne h hhi; omega
  · exact hne n (by simpa using h)

/-! Equality. -/
set_option maxHeartbeats 1000000 in
theorem eqA_sound : ∀ (d : Nat) (t : TypeId) (x y : AV) (r : Bool) (vx vy : Value), eqA P d t x y = some r → VR φ x vx → VR φ y vy → ∀ (D : Nat), d ≤ D → ∀ w, (Op.equalIn D t vx vy).run P w = .ok r w := by
  intro d
  induction d with
  | zero => intro t x y r vx vy h; simp [eqA] at h
  | succ d ih =>
    intro t x y r vx vy h hx hy D hD w
    obtain ⟨D, rfl⟩ : ∃ D', D = D' + 1 := ⟨D - 1, by omega⟩
    simp only [eqA] at h
    split at h
    case h_24 =>
      rename_i fields xs ys hu
      obtain ⟨xs', rfl, hxs⟩ := hx
      obtain ⟨ys', rfl, hys⟩ := hy
      cases hst : P.stoodInHeld t
      case true => rw [hst] at h; cases h
      rw [hst] at h
      simp only [cond_false] at h
      have hf : P.fieldsOf t = fields := by simp [Program.fieldsOf, hu]
      rw [run_equalIn_struct w D t xs' ys' (by rw [hf]; exact hu) hst, hf]
      generalize fields.toList = fs at h
      clear hu hf
      induction fs generalizing w with
      | nil => simp [eqA.eqFields] at h; subst h; simp [Op.eqFields]
      | cons f fs ihf =>
        simp only [eqA.eqFields] at h
        split at h
        · cases h
        · rename_i hn
          split at h
          · rename_i a b ha hb
            obtain ⟨va, h1, h2⟩ := partA_sound hxs ha w
            obtain ⟨vb, h3, h4⟩ := partA_sound hys hb w
            simp only [Op.eqFields]
            rw [if_pos hn]
            simp only [Sem.run_bind, h1, h3, Result.andThen_ok]
            split at h
            · rename_i he
              rw [ih _ _ _ _ _ _ he h2 h4 D (by omega) w]
              simp only [Result.andThen_ok]
              exact ihf w h
            · rename_i he
              rw [ih _ _ _ _ _ _ he h2 h4 D (by omega) w]
              cases h
              simp
            · cases h
          · cases h
    case h_23 =>
      rename_i ms tx va ty vb hu
      obtain ⟨va', rfl, h1⟩ := hx
      obtain ⟨vb', rfl, h2⟩ := hy
      cases hb : Nat.beq tx ty
      · rw [hb] at h
        cases h
        have : tx ≠ ty := by intro e; subst e; simp at hb
        simp [Op.equalIn, run_underlying hu w, this]
      · rw [hb] at h
        have : tx = ty := Nat.eq_of_beq_eq_true hb
        subst this
        simp only [cond_true] at h
        split at h
        · rename_i i hi
          cases hc : i.comparable
          · rw [hc] at h; cases h
          · rw [hc] at h
            simp only [cond_true] at h
            simp [Op.equalIn, run_underlying hu w, run_typeInfo w hi, hc, ih _ _ _ _ _ _ h h1 h2 D (by omega) w]
        · cases h
    all_goals
      try (cases h; done)
    all_goals
      simp only [VR] at hx hy
    all_goals rename_i hu
    case h_2 =>
      subst hx hy
      split at h
      · rename_i hk; subst hk; cases h; simp [Op.equalIn, run_underlying hu w]
      · cases h
    case h_3 =>
      obtain ⟨a, rfl, rfl⟩ := hx
      obtain ⟨b, rfl, rfl⟩ := hy
      cases h
      rw [run_equalIn_string w D t a b hu, toList_beq, eqNats_eq]
    case h_4 =>
      obtain ⟨⟨a, rfl, rfl⟩, hne⟩ := hx
      obtain ⟨b, rfl, rfl⟩ := hy
      obtain ⟨hb, h⟩ := bif_some h
      cases h
      rw [run_equalIn_string w D t a b hu, toList_beq]
      simp [hasStr_ne hb hne]
    case h_5 =>
      obtain ⟨a, rfl, rfl⟩ := hx
      obtain ⟨⟨b, rfl, rfl⟩, hne⟩ := hy
      obtain ⟨hb, h⟩ := bif_some h
      cases h
      rw [run_equalIn_string w D t a b hu, toList_beq]
      simp [Ne.symm (hasStr_ne hb hne)]
    case h_6 =>
      obtain ⟨rfl, h1, h2, h3⟩ := hx
      subst hy
      split at h
      · rename_i hk
        subst hk
        obtain ⟨hb, h⟩ := bif_some h
        cases h
        simp [Op.equalIn, run_underlying hu w, far_ne hb h1 h2 h3]
      · cases h
    case h_7 =>
      obtain ⟨rfl, h1, h2, h3⟩ := hy
      subst hx
      split at h
      · rename_i hk
        subst hk
        obtain ⟨hb, h⟩ := bif_some h
        cases h
        simp [Op.equalIn, run_underlying hu w, Ne.symm (far_ne hb h1 h2 h3)]
      · cases h
    all_goals cases h
    all_goals first
      | (subst hx hy; simp [Op.equalIn, run_underlying hu w]; done)
      | (obtain ⟨_, _, rfl⟩ := hx; subst hy; simp [Op.equalIn, run_underlying hu w]; done)
      | (obtain ⟨_, _, rfl⟩ := hy; subst hx; simp [Op.equalIn, run_underlying hu w]; done)
      | (obtain ⟨_, _, _, rfl, _⟩ := hx; subst hy; simp [Op.equalIn, run_underlying hu w]; done)
      | (obtain ⟨_, _, _, rfl, _⟩ := hy; subst hx; simp [Op.equalIn, run_underlying hu w]; done)
      | (obtain ⟨_, _, _, _, rfl, _⟩ := hx; subst hy; simp [Op.equalIn, run_underlying hu w]; done)
      | (obtain ⟨_, _, _, _, rfl, _⟩ := hy; subst hx; simp [Op.equalIn, run_underlying hu w]; done)
      | (obtain ⟨_, _, rfl, _⟩ := hx; subst hy; simp [Op.equalIn, run_underlying hu w]; done)
      | (obtain ⟨_, _, rfl, _⟩ := hy; subst hx; simp [Op.equalIn, run_underlying hu w]; done)
      | (obtain ⟨_, rfl, _⟩ := hx; subst hy; simp [Op.equalIn, run_underlying hu w]; done)
      | (obtain ⟨_, rfl, _⟩ := hy; subst hx; simp [Op.equalIn, run_underlying hu w]; done)
end
end Go.Ev
