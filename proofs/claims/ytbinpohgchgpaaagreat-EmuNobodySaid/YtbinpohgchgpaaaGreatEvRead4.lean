/- Operations that only read: all of them. -/
import Derived.Test.YtbinpohgchgpaaaGreatEvRead3
namespace Go.Ev

section
variable {P : Program} {φ : Phi} {base : Nat} {H : AH} {w : World}

theorem ofV_sound {v : Value} {a : AV} (h : ofV v = some a) : VR φ a v := by
  unfold ofV at h
  split at h <;> first | (cases h; simp [VR]; done) | cases h

theorem eqlA_sound {op : BinOp} {t : TypeId} {a b v : AV} {va vb : Value} (ha : VR φ a va) (hb : VR φ b vb) (h : eqlA P op t a b = some v) (w : World) :
    ∃ r, (Op.equal t va vb).run P w = .ok r w ∧ ((op = .eql ∧ v = .bool r) ∨ (op = .neq ∧ v = .bool (!r))) := by
  unfold eqlA at h
  split at h
  · cases he : eqA P 100 t a b with
    | none => simp [he] at h
    | some r =>
      simp [he] at h
      exact ⟨r, eqA_sound 100 t a b r va vb he ha hb Op.maxDepth (by simp [Op.maxDepth]) w, .inl ⟨rfl, h.symm⟩⟩
  · cases he : eqA P 100 t a b with
    | none => simp [he] at h
    | some r =>
      simp [he] at h
      exact ⟨r, eqA_sound 100 t a b r va vb he ha hb Op.maxDepth (by simp [Op.maxDepth]) w, .inr ⟨rfl, h.symm⟩⟩
  · cases h

/-- The two forms of a pointer, a slice and so on. -/
inductive Form : Nat → Value → Prop
  | bool (b : Bool) : Form 0 (.bool b)
  | ptr (a : Option Addr) : Form 1 (.pointer a)
  | slice (a : Option Addr) (n c : Nat) : Form 2 (.slice a n c)
  | map (a : Option Nat) : Form 3 (.map a)
  | func (fn : Fn) (f c : Array Value) : Form 4 (.func fn f c)
  | nilFunc : Form 4 .nilFunc
  | iface (t : TypeId) (v : Value) : Form 5 (.iface t v)
  | nilIface : Form 5 .nilIface
  | agg (cs : Array Value) : Form 6 (.agg cs)

theorem form_of {a : AV} {v : Value} (h : VR φ a v) (hk : kindA a ≠ 9) : Form (kindA a) v := by
  cases a <;> simp only [VR] at h
  all_goals first
    | (subst h; constructor; done)
    | (obtain ⟨_, _, rfl⟩ := h; constructor; done)
    | (obtain ⟨_, rfl, _⟩ := h; constructor; done)
    | (obtain ⟨_, _, rfl, _⟩ := h; constructor; done)
    | (obtain ⟨_, _, _, rfl, _⟩ := h; constructor; done)
    | (obtain ⟨_, _, _, _, rfl, _⟩ := h; constructor; done)
    | (exact absurd rfl hk)

theorem eqGuard_ok {op : BinOp} {t : TypeId} {x y : Operand} {a b : AV} {va vb : Value} (ha : VR φ a va) (hb : VR φ b vb)
    (hk : kindA a = kindA b) (h9 : kindA a ≠ 9) (hg : guardOk P t x y a b = true) (w : World) :
    (eqGuard op t x y va vb).run P w = .ok () w := by
  have fa := form_of ha h9
  have fb := form_of hb (hk ▸ h9)
  have h9b : kindA b ≠ 9 := hk ▸ h9
  rw [← hk] at fb
  generalize kindA a = n at fa fb
  cases fa <;> cases fb
  case nilIface.nilIface =>
    have ea : a = .nilIface := by cases a <;> simp [VR] at ha <;> first | rfl | exact absurd rfl h9
    have eb : b = .nilIface := by cases b <;> simp [VR] at hb <;> first | rfl | exact absurd rfl h9b
    subst ea eb
    cases op <;> cases x <;> cases y <;> simp [guardOk, isConstA] at hg <;> simp [eqGuard]
  case agg.agg =>
    have ea : ∃ l, a = .agg l := by cases a <;> simp [VR] at ha <;> first | exact ⟨_, rfl⟩ | exact absurd rfl h9
    have eb : ∃ l, b = .agg l := by cases b <;> simp [VR] at hb <;> first | exact ⟨_, rfl⟩ | exact absurd rfl h9b
    obtain ⟨l, rfl⟩ := ea
    obtain ⟨m, rfl⟩ := eb
    exact run_eqGuard_agg w op t x y _ _ (by simpa [guardOk] using hg)
  all_goals cases op <;> simp [eqGuard]

theorem binOp_eql {op : BinOp} {t : TypeId} {a b v : AV} {va vb : Value} (ha : VR φ a va) (hb : VR φ b vb)
    (hk : kindA a = kindA b) (h9 : kindA a ≠ 9) {r : Bool} (w : World) (hr : (Op.equal t va vb).run P w = .ok r w) (hv : (op = .eql ∧ v = .bool r) ∨ (op = .neq ∧ v = .bool (!r))) :
    (Go.binOp op t va vb).run P w = .ok (match op with | .eql => .bool r | _ => .bool (!r)) w ∧ VR φ v (match op with | .eql => .bool r | _ => .bool (!r)) := by
  have fa := form_of ha h9
  have fb := form_of hb (hk ▸ h9)
  rw [← hk] at fb
  generalize kindA a = n at fa fb
  rcases hv with ⟨rfl, rfl⟩ | ⟨rfl, rfl⟩
  · refine ⟨?_, by simp [VR]⟩
    cases fa <;> cases fb <;> simp only [Go.binOp] <;> simp [hr]
  · refine ⟨?_, by simp [VR]⟩
    cases fa <;> cases fb <;> simp only [Go.binOp] <;> simp [hr]

theorem side_sound {op : BinOp} {up : Bool} {k : IntKind} {m n : Int} {t : TypeId} {x y : Operand} {v : AV} {w : World} (hmn : m ≠ n) (hu : up = true → n < m) (hd : up = false → m < n) (h : sideA op up = some v) :
    ∃ v', (do eqGuard op t x y (.int k m) (.int k n); Go.binOp op t (.int k m) (.int k n) : Sem Value).run P w = .ok v' w ∧ VR φ v v' := by
  unfold sideA at h
  cases up with
  | true =>
    have := hu rfl
    have h1 : ¬ m < n := by omega
    have h2 : ¬ m ≤ n := by omega
    have h3 : n ≤ m := by omega
    split at h <;> first
      | (cases h; done)
      | (injection h with h; subst h; refine ⟨_, ?_, show VR φ (AV.bool _) (Value.bool _) from rfl⟩; simp [eqGuard, Go.binOp, Op.intCmp, hmn, this, h1, h2, h3])
  | false =>
    have := hd rfl
    have h1 : ¬ n < m := by omega
    have h2 : ¬ n ≤ m := by omega
    have h3 : m ≤ n := by omega
    split at h <;> first
      | (cases h; done)
      | (injection h with h; subst h; refine ⟨_, ?_, show VR φ (AV.bool _) (Value.bool _) from rfl⟩; simp [eqGuard, Go.binOp, Op.intCmp, hmn, this, h1, h2, h3])

theorem diff_sound {op : BinOp} {a b : ByteArray} {t : TypeId} {x y : Operand} {v : AV} {w : World} (hne : toNats a ≠ toNats b) (h : neA op = some v) :
    ∃ v', (do eqGuard op t x y (.string a) (.string b); Go.binOp op t (.string a) (.string b) : Sem Value).run P w = .ok v' w ∧ VR φ v v' := by
  have hg : (eqGuard op t x y (.string a) (.string b)).run P w = .ok () w := by cases op <;> simp [eqGuard]
  have hb : (a.toList == b.toList) = false := by rw [toList_beq]; simp [hne]
  have hs : Go.binOp op t (.string a) (.string b) = Op.stringOp op a b := by cases op <;> rfl
  unfold neA at h
  split at h
  · cases h; exact ⟨.bool false, by simp only [Sem.run_bind, hg, Result.andThen_ok, hs]; simp [Op.stringOp, hb], by simp [VR]⟩
  · cases h; exact ⟨.bool true, by simp only [Sem.run_bind, hg, Result.andThen_ok, hs]; simp [Op.stringOp, hb], by simp [VR]⟩
  · cases h

theorem binA_sound {op : BinOp} {t : TypeId} {x y : Operand} {a b v : AV} {va vb : Value} (ha : VR φ a va) (hb : VR φ b vb) (h : binA P op t x y a b = some v) (w : World) :
    ∃ v', (do eqGuard op t x y va vb; Go.binOp op t va vb : Sem Value).run P w = .ok v' w ∧ VR φ v v' := by
  unfold binA at h
  split at h
  · rename_i k m k' n
    simp only [VR] at ha hb
    subst ha hb
    cases hp : pureRun P (Go.binOp op t (.int k m) (.int k' n)) with
    | none => simp [hp] at h
    | some v' =>
      simp only [hp, Option.bind_some] at h
      refine ⟨v', ?_, ofV_sound h⟩
      have hg : (eqGuard op t x y (.int k m) (.int k' n)).run P w = .ok () w := by cases op <;> simp [eqGuard]
      simp [hg, pureRun_run hp w]
  · rename_i l m
    obtain ⟨s, rfl, rfl⟩ := ha
    obtain ⟨s', rfl, rfl⟩ := hb
    obtain ⟨v', h1, h2⟩ := cmpStr_sound (P := P) (φ := φ) h w
    refine ⟨v', ?_, h2⟩
    have hg : (eqGuard op t x y (.string s) (.string s')).run P w = .ok () w := by cases op <;> simp [eqGuard]
    simp only [Sem.run_bind, hg, Result.andThen_ok]
    have : Go.binOp op t (.string s) (.string s') = Op.stringOp op s s' := by cases op <;> rfl
    rw [this, h1]
  · rename_i k m ne lo hi k' n
    simp only [VR] at ha hb
    obtain ⟨rfl, hne, hlo, hhi⟩ := ha
    subst hb
    by_cases hk : k = k'
    · subst hk
      rw [if_pos rfl] at h
      unfold opqiA at h
      cases h1 : isBelow lo n
      · rw [h1] at h
        cases h2 : isAbove hi n
        · rw [h2] at h
          cases hc : ne.contains n
          · rw [hc] at h; cases h
          · rw [hc] at h
            simp only [cond_true, cond_false] at h
            have hmn : m ≠ n := hne n (by simpa using hc)
            unfold neA at h
            split at h
            · cases h
              exact ⟨.bool false, by simp [eqGuard, Go.binOp, Op.intCmp, hmn], by simp [VR]⟩
            · cases h
              exact ⟨.bool true, by simp [eqGuard, Go.binOp, Op.intCmp, hmn], by simp [VR]⟩
            · cases h
        · rw [h2] at h
          simp only [cond_true, cond_false] at h
          have hlt := above_ne h2 hhi
          exact side_sound (w := w) (by omega) (fun h => by cases h) (fun _ => hlt) h
      · rw [h1] at h
        simp only [cond_true] at h
        have hlt := below_ne h1 hlo
        exact side_sound (w := w) (by omega) (fun _ => hlt) (fun h => by cases h) h
    · rw [if_neg hk] at h; cases h
  · rename_i s ne l
    obtain ⟨⟨a, rfl, rfl⟩, hne⟩ := ha
    obtain ⟨b, rfl, rfl⟩ := hb
    obtain ⟨hb, h⟩ := bif_some h
    exact diff_sound (w := w) (hasStr_ne hb hne) h
  · rename_i l s ne
    obtain ⟨a, rfl, rfl⟩ := ha
    obtain ⟨⟨b, rfl, rfl⟩, hne⟩ := hb
    obtain ⟨hb, h⟩ := bif_some h
    exact diff_sound (w := w) (Ne.symm (hasStr_ne hb hne)) h
  · cases hc : Nat.beq (kindA a) (kindA b) && !Nat.beq (kindA a) 9 && guardOk P t x y a b
    · rw [hc] at h; cases h
    · rw [hc] at h
      simp only [cond_true] at h
      simp only [Bool.and_eq_true, Bool.not_eq_true'] at hc
      obtain ⟨⟨h1, h2⟩, h3⟩ := hc
      have hk : kindA a = kindA b := Nat.eq_of_beq_eq_true h1
      have h9 : kindA a ≠ 9 := by intro e; rw [e] at h2; simp at h2
      obtain ⟨r, hr, hv⟩ := eqlA_sound (P := P) ha hb h w
      have := binOp_eql (P := P) ha hb hk h9 w hr hv
      exact ⟨_, by simp only [Sem.run_bind, eqGuard_ok (P := P) ha hb hk h9 h3 w, Result.andThen_ok]; exact this.1, this.2⟩
end
end Go.Ev
