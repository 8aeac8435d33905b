/- Maps: how a key is found. -/
import Derived.Test.YtbinpohgchgpaaaGreatEvRead5
import Derived.MapKept
namespace Go.Ev

section
variable {P : Program} {φ : Phi} {base : Nat} {H : AH} {w : World} {ρ : Operand → Option AV} {ev : Operand → Value}

/-- What the search for a key comes to. -/
def FindR (φ : Phi) (es : List (AV × AV × Nat)) (ms : List MapEntry) (i : Nat) : Option (Nat × AV × Nat) → Option (Nat × Value) → Prop
  | none, r' => r' = none
  | some (j, v, b), r' => ∃ m k, r' = some (j, m.val) ∧ i ≤ j ∧ es[j - i]? = some (k, v, b) ∧ ms[j - i]? = some m ∧ VR φ v m.val ∧ m.born = b

theorem ERs.find {eq : AV → AV → Option Bool} {k : AV} {T : TypeId} {vk : Value} (heq : ∀ y vy r, eq k y = some r → VR φ y vy → ∀ w, (Op.equal T vk vy).run P w = .ok r w) :
    ∀ {es : List (AV × AV × Nat)} {ms : List MapEntry} {i : Nat} {r : Option (Nat × AV × Nat)}, ERs φ es ms → findA eq k es i = some r → ∀ w,
      ∃ r', (Instr.findAsking T vk ms i).run P w = .ok r' w ∧ FindR φ es ms i r r'
  | [], ms, i, r, he, h, w => by
    simp only [ERs] at he; subst he
    simp only [findA] at h; cases h
    exact ⟨none, by simp [Instr.findAsking], rfl⟩
  | (x, v, b) :: es, ms, i, r, he, h, w => by
    simp only [ERs] at he
    obtain ⟨m, ms, rfl, hk, hv, hb, he⟩ := he
    simp only [findA] at h
    split at h
    · rename_i hq
      cases h
      refine ⟨some (i, m.val), ?_, m, x, rfl, Nat.le_refl _, by simp, by simp, hv, hb⟩
      simp [Instr.findAsking, heq x m.key true hq hk w]
    · rename_i hq
      obtain ⟨r', h1, h2⟩ := ERs.find heq he h w
      refine ⟨r', ?_, ?_⟩
      · simp [Instr.findAsking, heq x m.key false hq hk w, h1]
      · cases r with
        | none => exact h2
        | some r =>
          obtain ⟨j, v', b'⟩ := r
          obtain ⟨m', k', e1, e2, e3, e4, e6, e5⟩ := h2
          have : j - i = (j - (i + 1)) + 1 := by omega
          exact ⟨m', k', e1, by omega, by rw [this, List.getElem?_cons_succ]; exact e3, by rw [this, List.getElem?_cons_succ]; exact e4, e6, e5⟩
    · cases h

theorem sameNow_run {d : TypeDesc} {k y : Value} {b : Bool} {T : TypeId} (hd : P.underlying T = some d) (h : Instr.sameNow d k y = some b) (w : World) : (Op.equal T k y).run P w = .ok b w := by
  unfold Instr.sameNow at h
  split at h
  · split at h
    · rename_i e; subst e; cases h; exact run_equalIn_int w 9999 T _ _ _ _ hd
    · cases h
  · cases h
    rename_i a b
    have := run_equalIn_string w 9999 T a b hd
    rw [← beq_toListBytes] at this
    exact this
  · cases h; exact run_equalIn_bool w 9999 T _ _ hd
  · cases h

theorem findNow_run {d : TypeDesc} {k : Value} {T : TypeId} (hd : P.underlying T = some d) (w : World) : ∀ {ms : List MapEntry} {i : Nat} {r : Option (Nat × Value)}, Instr.findNow d k ms i = some r → (Instr.findAsking T k ms i).run P w = .ok r w
  | [], i, r, h => by simp [Instr.findNow] at h; subst h; simp [Instr.findAsking]
  | m :: ms, i, r, h => by
    simp only [Instr.findNow] at h
    split at h
    · rename_i hs; cases h; simp [Instr.findAsking, sameNow_run hd hs w]
    · rename_i hs; simp [Instr.findAsking, sameNow_run hd hs w, findNow_run hd w h]
    · cases h

theorem findKey_run {d : TypeDesc} {k : Value} {T : TypeId} (hd : P.underlying T = some d) {ms : List MapEntry} {r : Option (Nat × Value)} {w : World} (h : (Instr.findAsking T k ms).run P w = .ok r w) : (Instr.findKey T k ms).run P w = .ok r w := by
  simp only [Instr.findKey, Sem.run_bind, run_underlying hd w, Result.andThen_ok]
  cases hn : Instr.findNow d k ms 0 with
  | none => simp [h]
  | some r' =>
    have := findNow_run (P := P) hd w hn
    rw [this] at h
    cases h
    simp

/-- The search for a key in related entries. -/
theorem find_sound {kt : TypeId} {k : AV} {vk : Value} {d : TypeDesc} (hd : P.underlying kt = some d) (hk : VR φ k vk) {es : List (AV × AV × Nat)} {ms : List MapEntry} (he : ERs φ es ms)
    {r : Option (Nat × AV × Nat)} (h : findA (eqA P 100 kt) k es 0 = some r) (w : World) : ∃ r', (Instr.findKey kt vk ms).run P w = .ok r' w ∧ FindR φ es ms 0 r r' := by
  obtain ⟨r', h1, h2⟩ := ERs.find (P := P) (eq := eqA P 100 kt) (T := kt) (vk := vk) (fun y vy r hq hy w => eqA_sound 100 kt k y r vk vy hq hk hy Op.maxDepth (by simp [Op.maxDepth]) w) he h w
  exact ⟨r', findKey_run hd h1, h2⟩

theorem plainKey_cell {d : TypeDesc} {t : TypeId} {a : AV} {v : Value} (hu : P.underlying t = some d) (h : plainAt d a = true) (ha : VR φ a v) (em : Bool) (n : Nat) (w : World) :
    (Instr.checkKey em (n + 1) t v).run P w = .ok () w := by
  cases d <;> cases a <;> simp [plainAt] at h
  all_goals
    simp only [VR] at ha
  all_goals first
    | (subst ha; simp [Instr.checkKey, run_underlying hu w]; done)
    | (obtain ⟨rfl, _⟩ := ha; simp [Instr.checkKey, run_underlying hu w]; done)
    | (obtain ⟨⟨_, rfl, _⟩, _⟩ := ha; simp [Instr.checkKey, run_underlying hu w]; done)
    | (obtain ⟨_, rfl, _⟩ := ha; simp [Instr.checkKey, run_underlying hu w])

theorem plainField_sound {cs : List AV} {cs' : Array Value} {f : Field} (hcs : VRs φ cs cs'.toList) (h : plainField P cs f = true) (em : Bool) (n : Nat) (w : World) :
    ∃ x, (part f.type cs' f.offset).run P w = .ok x w ∧ (Instr.checkKey em (n + 1) f.type x).run P w = .ok () w := by
  unfold plainField at h
  split at h
  · rename_i d a e1 e2
    obtain ⟨x, e3, e4⟩ := hcs.get e2
    have e5 : cs'[f.offset]? = some x := by simpa using e3
    refine ⟨x, ?_, plainKey_cell (P := P) (φ := φ) e1 h e4 em n w⟩
    cases d <;> cases a <;> simp [plainAt] at h <;> simp [part, isAgg, run_underlying e1 w, e5]
  · cases h

theorem checkKey_sound {t : TypeId} {k : AV} {v : Value} (h : plainKey P t k = true) (hk : VR φ k v) (em : Bool) (n : Nat) (w : World) : (Instr.checkKey em (n + 2) t v).run P w = .ok () w := by
  unfold plainKey at h
  split at h
  · rename_i fields cs hu
    obtain ⟨cs', rfl, hcs⟩ := hk
    rw [Instr.checkKey]
    simp only [Sem.run_bind, run_underlying hu w, Result.andThen_ok]
    rw [← Array.forIn_toList]
    generalize fields.toList = fs at h
    clear hu
    induction fs with
    | nil => simp
    | cons f fs ih =>
      simp only [List.all_cons, Bool.and_eq_true] at h
      obtain ⟨h1, h2⟩ := h
      obtain ⟨x, e6, e7⟩ := plainField_sound hcs h1 em n w
      simp only [List.forIn_cons, Sem.run_bind, Sem.run_ite]
      split
      · simp only [e6, Result.andThen_ok, e7, Sem.run_pure]
        exact ih h2
      · simp only [Sem.run_pure, Result.andThen_ok]
        exact ih h2
  · rename_i hu _
    exact plainKey_cell (P := P) hu h hk em (n + 1) w
  · cases h

theorem FindR.at {es : List (AV × AV × Nat)} {ms : List MapEntry} {j : Nat} {v : AV} {b : Nat} {r' : Option (Nat × Value)} (h : FindR φ es ms 0 (some (j, v, b)) r') :
    ∃ m k, r' = some (j, m.val) ∧ es[j]? = some (k, v, b) ∧ ms[j]? = some m ∧ VR φ v m.val ∧ m.born = b := by
  obtain ⟨m, k, e1, _, e3, e4, e5, e6⟩ := h
  exact ⟨m, k, e1, by simpa using e3, by simpa using e4, e5, e6⟩

end
end Go.Ev
