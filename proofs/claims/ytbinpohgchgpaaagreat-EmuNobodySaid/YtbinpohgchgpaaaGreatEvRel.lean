/- What abstract values, objects and heaps stand for in the model's world. -/
import Derived.Test.YtbinpohgchgpaaaGreatEv
import Derived.WalkKit
import Derived.Defers
import Derived.ChangeKeysEq
import Derived.Laws.CopyRow
import Derived.Laws.Rows
namespace Go.Ev

namespace Tr
variable {α : Type}
theorem get_nil (n : Nat) : (Tr.nil : Tr α).get n = none := rfl
theorem nbeq (a b : Nat) : Nat.beq a b = decide (a = b) := by
  cases h : Nat.beq a b
  · have : a ≠ b := by intro e; subst e; simp at h
    simp [this]
  · have : a = b := Nat.eq_of_beq_eq_true h
    simp [this]
theorem bif_dec {β : Type} (p : Prop) [Decidable p] (x y : β) : (bif decide p then x else y) = if p then x else y := by
  by_cases h : p <;> simp [h]
theorem brec {β : Type} (c : Bool) (x y : β) : @Bool.rec (fun _ => β) y x c = bif c then x else y := by cases c <;> rfl
/-- One level of a trie. -/
theorem get_node (v : Option α) (l r : Tr α) (n : Nat) :
    (Tr.node v l r).get n = if n = 0 then v else if n % 2 = 1 then l.get (n / 2) else r.get (n / 2 - 1) := by
  have h : (Tr.node v l r).get n = @Bool.rec (fun _ => Option α) (@Bool.rec (fun _ => Option α) (r.get (Nat.sub (Nat.div n 2) 1)) (l.get (Nat.div n 2)) (Nat.beq (Nat.mod n 2) 1)) (v) (Nat.beq n 0) := rfl
  rw [h, brec, brec]
  simp only [nbeq, bif_dec]; rfl
theorem set_node (v : Option α) (l r : Tr α) (n : Nat) (a : α) :
    (Tr.node v l r).set n a = if n = 0 then .node (some a) l r else if n % 2 = 1 then .node v (l.set (n / 2) a) r else .node v l (r.set (n / 2 - 1) a) := by
  have h : (Tr.node v l r).set n a = @Bool.rec (fun _ => Tr α) (@Bool.rec (fun _ => Tr α) (Tr.node v l (r.set (Nat.sub (Nat.div n 2) 1) a)) (Tr.node v (l.set (Nat.div n 2) a) r) (Nat.beq (Nat.mod n 2) 1)) (Tr.node (some a) l r) (Nat.beq n 0) := rfl
  rw [h, brec, brec]
  simp only [nbeq, bif_dec]; rfl
theorem erase_node (v : Option α) (l r : Tr α) (n : Nat) :
    (Tr.node v l r).erase n = if n = 0 then .node none l r else if n % 2 = 1 then .node v (l.erase (n / 2)) r else .node v l (r.erase (n / 2 - 1)) := by
  have h : (Tr.node v l r).erase n = @Bool.rec (fun _ => Tr α) (@Bool.rec (fun _ => Tr α) (Tr.node v l (r.erase (Nat.sub (Nat.div n 2) 1))) (Tr.node v (l.erase (Nat.div n 2)) r) (Nat.beq (Nat.mod n 2) 1)) (Tr.node none l r) (Nat.beq n 0) := rfl
  rw [h, brec, brec]
  simp only [nbeq, bif_dec]; rfl
theorem single_zero (n : Nat) (a : α) : single 0 n a = .node (some a) .nil .nil := rfl
theorem single_succ (f n : Nat) (a : α) :
    single (f + 1) n a = if n = 0 then .node (some a) .nil .nil else if n % 2 = 1 then .node none (single f (n / 2) a) .nil else .node none .nil (single f (n / 2 - 1) a) := by
  have h : single (f + 1) n a = @Bool.rec (fun _ => Tr α) (@Bool.rec (fun _ => Tr α) (Tr.node none .nil (single f (Nat.sub (Nat.div n 2) 1) a)) (Tr.node none (single f (Nat.div n 2) a) .nil) (Nat.beq (Nat.mod n 2) 1)) (Tr.node (some a) .nil .nil) (Nat.beq n 0) := rfl
  rw [h, brec, brec]
  simp only [nbeq, bif_dec]; rfl
theorem get_single : ∀ (f n m : Nat) (a : α), n ≤ f → (single f n a).get m = if m = n then some a else none
  | 0, n, m, a, h => by
    have : n = 0 := by omega
    subst this
    rw [single_zero, get_node]
    simp [get_nil]
  | f + 1, n, m, a, h => by
    rw [single_succ]
    by_cases h0 : n = 0
    · subst h0
      rw [if_pos rfl, get_node]
      simp [get_nil]
    · rw [if_neg h0]
      by_cases h1 : n % 2 = 1
      · rw [if_pos h1, get_node, get_single f _ _ a (by omega), get_nil]
        by_cases m0 : m = 0
        · subst m0
          rw [if_pos rfl, if_neg (fun e => h0 e.symm)]
        · rw [if_neg m0]
          by_cases m1 : m % 2 = 1
          · rw [if_pos m1]
            by_cases e : m = n
            · subst e; simp
            · rw [if_neg e, if_neg (by omega)]
          · rw [if_neg m1, if_neg (by rintro rfl; exact m1 h1)]
      · rw [if_neg h1, get_node, get_single f _ _ a (by omega), get_nil]
        by_cases m0 : m = 0
        · subst m0
          rw [if_pos rfl, if_neg (fun e => h0 e.symm)]
        · rw [if_neg m0]
          by_cases m1 : m % 2 = 1
          · rw [if_pos m1, if_neg (by rintro rfl; exact h1 m1)]
          · rw [if_neg m1]
            by_cases e : m = n
            · subst e; simp
            · rw [if_neg e, if_neg (by omega)]

theorem get_set (t : Tr α) (n m : Nat) (a : α) : (t.set n a).get m = if m = n then some a else t.get m := by
  induction t generalizing n m with
  | nil => show (single n n a).get m = _; rw [get_nil, get_single n n m a (Nat.le_refl _)]
  | node v l r ihl ihr =>
    rw [set_node, get_node v l r m]
    by_cases h0 : n = 0
    · subst h0
      rw [if_pos rfl, get_node]
      by_cases m0 : m = 0
      · rw [if_pos m0, if_pos m0]
      · rw [if_neg m0, if_neg m0, if_neg m0]
    · rw [if_neg h0]
      by_cases h1 : n % 2 = 1
      · rw [if_pos h1, get_node, ihl]
        by_cases m0 : m = 0
        · rw [if_pos m0, if_pos m0, if_neg (by omega)]
        · rw [if_neg m0, if_neg m0]
          by_cases m1 : m % 2 = 1
          · rw [if_pos m1, if_pos m1]
            by_cases e : m = n
            · rw [if_pos (by rw [e]), if_pos e]
            · rw [if_neg (by omega), if_neg e]
          · rw [if_neg m1, if_neg m1, if_neg (by rintro rfl; exact m1 h1)]
      · rw [if_neg h1, get_node, ihr]
        by_cases m0 : m = 0
        · rw [if_pos m0, if_pos m0, if_neg (by omega)]
        · rw [if_neg m0, if_neg m0]
          by_cases m1 : m % 2 = 1
          · rw [if_pos m1, if_pos m1, if_neg (by rintro rfl; exact h1 m1)]
          · rw [if_neg m1, if_neg m1]
            by_cases e : m = n
            · rw [if_pos (by rw [e]), if_pos e]
            · rw [if_neg (by omega), if_neg e]

theorem get_erase (t : Tr α) (n m : Nat) : (t.erase n).get m = if m = n then none else t.get m := by
  induction t generalizing n m with
  | nil => show (Tr.nil : Tr α).get m = _; simp [get_nil]
  | node v l r ihl ihr =>
    rw [erase_node, get_node v l r m]
    by_cases h0 : n = 0
    · subst h0
      rw [if_pos rfl, get_node]
      by_cases m0 : m = 0
      · rw [if_pos m0, if_pos m0]
      · rw [if_neg m0, if_neg m0, if_neg m0]
    · rw [if_neg h0]
      by_cases h1 : n % 2 = 1
      · rw [if_pos h1, get_node, ihl]
        by_cases m0 : m = 0
        · rw [if_pos m0, if_pos m0, if_neg (by omega)]
        · rw [if_neg m0, if_neg m0]
          by_cases m1 : m % 2 = 1
          · rw [if_pos m1, if_pos m1]
            by_cases e : m = n
            · rw [if_pos (by rw [e]), if_pos e]
            · rw [if_neg (by omega), if_neg e]
          · rw [if_neg m1, if_neg m1, if_neg (by rintro rfl; exact m1 h1)]
      · rw [if_neg h1, get_node, ihr]
        by_cases m0 : m = 0
        · rw [if_pos m0, if_pos m0, if_neg (by omega)]
        · rw [if_neg m0, if_neg m0]
          by_cases m1 : m % 2 = 1
          · rw [if_pos m1, if_pos m1, if_neg (by rintro rfl; exact h1 m1)]
          · rw [if_neg m1, if_neg m1]
            by_cases e : m = n
            · rw [if_pos (by rw [e]), if_pos e]
            · rw [if_neg (by omega), if_neg e]

theorem get_ofList (l : List α) : ∀ (n : Nat) (t : Tr α) (m : Nat), (ofList l n t).get m = if n ≤ m ∧ m < n + l.length then l[m - n]? else t.get m := by
  induction l with
  | nil => intro n t m; have : ¬ (n ≤ m ∧ m < n + 0) := by omega
           simp [ofList]; omega
  | cons a l ih =>
    intro n t m
    rw [ofList, ih, get_set]
    by_cases h : n + 1 ≤ m ∧ m < n + 1 + l.length
    · have h2 : n ≤ m ∧ m < n + (a :: l).length := by simp; omega
      rw [if_pos h, if_pos h2]
      have : m - n = (m - (n + 1)) + 1 := by omega
      rw [this, List.getElem?_cons_succ]
    · rw [if_neg h]
      by_cases e : m = n
      · subst e; simp
      · have h2 : ¬ (n ≤ m ∧ m < n + (a :: l).length) := by simp; omega
        rw [if_neg h2, if_neg e]
end Tr

/-- Where an abstract object lies: its block, where in the block it begins, how many cells the block has. -/
structure PE where
  b : Nat
  o : Nat
  n : Nat

abbrev Phi := Nat → Option PE

theorem bif_some {α : Type} {c : Bool} {x : Option α} {v : α} (h : (bif c then x else none) = some v) : c = true ∧ x = some v := by
  cases c
  · cases h
  · exact ⟨rfl, h⟩

/-- A value that is kept, and never looked into. -/
def Opq (u : Value) : Prop := u.cells = #[u] ∧ u.oneCell' = true

mutual
/-- What an abstract value stands for. -/
def VR (φ : Phi) : AV → Value → Prop
  | .bool b, v => v = .bool b
  | .int k n, v => v = .int k n
  | .str s, v => ∃ b : ByteArray, v = .string b ∧ toNats b = s
  | .ptr id off, v => ∃ e, φ id = some e ∧ v = .pointer (some ⟨e.b, e.o + off, none⟩)
  | .ptrNil, v => v = .pointer none
  | .slice id off len cap sz ex, v => ∃ e x c, φ id = some e ∧ v = .slice (some ⟨e.b, x, none⟩) len c ∧ (c = 0 ∨ x = e.o + off) ∧ len ≤ c ∧ (ex = true → c = cap) ∧ e.o + off + c * sz ≤ e.n
  | .sliceNil, v => v = .slice none 0 0
  | .map id, v => ∃ e, φ id = some e ∧ v = .map (some e.b)
  | .mapNil, v => v = .map none
  | .func fn f c, v => ∃ f' c' : Array Value, v = .func fn f' c' ∧ isYield fn = false ∧ VRs φ f f'.toList ∧ VRs φ c c'.toList
  | .yield l, v => ∃ e, φ l = some e ∧ v = .func (.yield e.b) #[] #[]
  | .nilFunc, v => v = .nilFunc
  | .iface t a, v => ∃ v', v = .iface t v' ∧ VR φ a v'
  | .nilIface, v => v = .nilIface
  | .agg cs, v => ∃ cs' : Array Value, v = .agg cs' ∧ VRs φ cs cs'.toList
  | .tuple cs, v => ∃ cs' : Array Value, v = .tuple cs' ∧ VRs φ cs cs'.toList
  | .glob g, v => v = .pointer (some ⟨g, 0, none⟩)
  | .opq u, v => v = u ∧ Opq u
  | .opqi k n ne lo hi, v => v = .int k n ∧ (∀ c ∈ ne, n ≠ c) ∧ (∀ l, lo = some l → l ≤ n) ∧ (∀ h, hi = some h → n ≤ h)
  | .opqs s ne, v => (∃ b : ByteArray, v = .string b ∧ toNats b = s) ∧ ∀ c ∈ ne, s ≠ c
def VRs (φ : Phi) : List AV → List Value → Prop
  | [], l => l = []
  | a :: as, l => ∃ v vs, l = v :: vs ∧ VR φ a v ∧ VRs φ as vs
end

def PLe (φ ψ : Phi) : Prop := ∀ id e, φ id = some e → ψ id = some e
theorem PLe.refl (φ : Phi) : PLe φ φ := fun _ _ h => h
theorem PLe.trans {φ ψ χ : Phi} (h : PLe φ ψ) (h' : PLe ψ χ) : PLe φ χ := fun id e hh => h' id e (h id e hh)

mutual
theorem VR.mono {φ ψ : Phi} (h : PLe φ ψ) : ∀ (a : AV) (v : Value), VR φ a v → VR ψ a v
  | .bool _, _, h1 => by simpa [VR] using h1
  | .int _ _, _, h1 => by simpa [VR] using h1
  | .str _, _, h1 => by simpa [VR] using h1
  | .ptr _ _, _, h1 => by simp only [VR] at h1 ⊢; obtain ⟨e, h2, h3⟩ := h1; exact ⟨e, h _ _ h2, h3⟩
  | .ptrNil, _, h1 => by simpa [VR] using h1
  | .slice .., _, h1 => by simp only [VR] at h1 ⊢; obtain ⟨e, x, c, h2, h3⟩ := h1; exact ⟨e, x, c, h _ _ h2, h3⟩
  | .sliceNil, _, h1 => by simpa [VR] using h1
  | .map _, _, h1 => by simp only [VR] at h1 ⊢; obtain ⟨e, h2, h3⟩ := h1; exact ⟨e, h _ _ h2, h3⟩
  | .mapNil, _, h1 => by simpa [VR] using h1
  | .func _ f c, _, h1 => by
    simp only [VR] at h1 ⊢
    obtain ⟨f', c', e, hy, h2, h3⟩ := h1
    exact ⟨f', c', e, hy, VRs.mono h f _ h2, VRs.mono h c _ h3⟩
  | .yield _, _, h1 => by simp only [VR] at h1 ⊢; obtain ⟨e, h2, h3⟩ := h1; exact ⟨e, h _ _ h2, h3⟩
  | .nilFunc, _, h1 => by simpa [VR] using h1
  | .iface _ a, _, h1 => by simp only [VR] at h1 ⊢; obtain ⟨v', e, h2⟩ := h1; exact ⟨v', e, VR.mono h a _ h2⟩
  | .nilIface, _, h1 => by simpa [VR] using h1
  | .agg cs, _, h1 => by simp only [VR] at h1 ⊢; obtain ⟨v', e, h2⟩ := h1; exact ⟨v', e, VRs.mono h cs _ h2⟩
  | .tuple cs, _, h1 => by simp only [VR] at h1 ⊢; obtain ⟨v', e, h2⟩ := h1; exact ⟨v', e, VRs.mono h cs _ h2⟩
  | .glob _, _, h1 => by simpa [VR] using h1
  | .opq _, _, h1 => by simpa [VR] using h1
  | .opqi .., _, h1 => by simp only [VR] at h1 ⊢; exact h1
  | .opqs .., _, h1 => by simp only [VR] at h1 ⊢; exact h1
theorem VRs.mono {φ ψ : Phi} (h : PLe φ ψ) : ∀ (as : List AV) (vs : List Value), VRs φ as vs → VRs ψ as vs
  | [], _, h1 => by simpa [VRs] using h1
  | a :: as, _, h1 => by
    simp only [VRs] at h1 ⊢
    obtain ⟨v, vs, e, h2, h3⟩ := h1
    exact ⟨v, vs, e, VR.mono h a v h2, VRs.mono h as vs h3⟩
end

section lists
variable {φ : Phi}
theorem VRs_nil : VRs φ [] [] := by simp [VRs]
theorem VRs_cons {a : AV} {v : Value} {as : List AV} {vs : List Value} : VRs φ (a :: as) (v :: vs) ↔ VR φ a v ∧ VRs φ as vs := by
  simp only [VRs]
  constructor
  · rintro ⟨v', vs', e, h1, h2⟩; cases e; exact ⟨h1, h2⟩
  · rintro ⟨h1, h2⟩; exact ⟨v, vs, rfl, h1, h2⟩
theorem VRs.length : ∀ {as : List AV} {vs : List Value}, VRs φ as vs → as.length = vs.length
  | [], vs, h => by simp only [VRs] at h; subst h; rfl
  | a :: as, vs, h => by
    simp only [VRs] at h
    obtain ⟨v, vs', rfl, _, h2⟩ := h
    simp [VRs.length h2]
theorem VRs.get : ∀ {as : List AV} {vs : List Value}, VRs φ as vs → ∀ {i : Nat} {a : AV}, as[i]? = some a → ∃ v, vs[i]? = some v ∧ VR φ a v
  | [], _, _, i, a, hi => by simp at hi
  | b :: as, vs, h, i, a, hi => by
    simp only [VRs] at h
    obtain ⟨v, vs', rfl, h1, h2⟩ := h
    cases i with
    | zero => simp at hi; subst hi; exact ⟨v, by simp, h1⟩
    | succ i => simp only [List.getElem?_cons_succ] at hi ⊢; exact VRs.get h2 hi
theorem VRs.take : ∀ {as : List AV} {vs : List Value}, VRs φ as vs → ∀ n, VRs φ (as.take n) (vs.take n)
  | [], _, h, n => by simp only [VRs] at h; subst h; simp [VRs]
  | a :: as, vs, h, n => by
    simp only [VRs] at h
    obtain ⟨v, vs', rfl, h1, h2⟩ := h
    cases n with
    | zero => simp [VRs]
    | succ n => simp only [List.take_succ_cons]; exact VRs_cons.2 ⟨h1, VRs.take h2 n⟩
theorem VRs.drop : ∀ {as : List AV} {vs : List Value}, VRs φ as vs → ∀ n, VRs φ (as.drop n) (vs.drop n)
  | [], _, h, n => by simp only [VRs] at h; subst h; simp [VRs]
  | a :: as, vs, h, n => by
    simp only [VRs] at h
    obtain ⟨v, vs', rfl, h1, h2⟩ := h
    cases n with
    | zero => exact VRs_cons.2 ⟨h1, h2⟩
    | succ n => simp only [List.drop_succ_cons]; exact VRs.drop h2 n
theorem VRs.append : ∀ {as bs : List AV} {vs ws : List Value}, VRs φ as vs → VRs φ bs ws → VRs φ (as ++ bs) (vs ++ ws)
  | [], _, vs, _, h, h' => by simp only [VRs] at h; subst h; simpa using h'
  | a :: as, _, vs, _, h, h' => by
    simp only [VRs] at h
    obtain ⟨v, vs', rfl, h1, h2⟩ := h
    simp only [List.cons_append]
    exact VRs_cons.2 ⟨h1, VRs.append h2 h'⟩
theorem VRs_one {a : AV} {v : Value} (h : VR φ a v) : VRs φ [a] [v] := VRs_cons.2 ⟨h, VRs_nil⟩
theorem VRs_of {as : List AV} {vs : List Value} (hl : as.length = vs.length) (h : ∀ (i : Nat) (a : AV) (v : Value), as[i]? = some a → vs[i]? = some v → VR φ a v) : VRs φ as vs := by
  induction as generalizing vs with
  | nil => cases vs with
    | nil => exact VRs_nil
    | cons => simp at hl
  | cons a as ih => cases vs with
    | nil => simp at hl
    | cons v vs => exact VRs_cons.2 ⟨h 0 a v rfl rfl, ih (by simpa using hl) (fun i a v h1 h2 => h (i + 1) a v (by simpa using h1) (by simpa using h2))⟩
end lists

theorem AV.cells_rel {φ : Phi} {a : AV} {v : Value} (h : VR φ a v) : VRs φ a.cells v.cells.toList := by
  cases a <;> simp only [AV.cells]
  case agg cs => simp only [VR] at h; obtain ⟨cs', rfl, h⟩ := h; exact h
  case opq u => have h' := h; simp only [VR] at h; obtain ⟨rfl, h1, _⟩ := h; rw [h1]; exact VRs_one h'
  case opqi k n ne lo hi => have h' := h; simp only [VR] at h; obtain ⟨rfl, _⟩ := h; exact VRs_one h'
  case opqs s ne => have h' := h; simp only [VR] at h; obtain ⟨⟨b, rfl, _⟩, _⟩ := h; exact VRs_one h'
  all_goals
    have h' := h
    simp only [VR] at h
    first
      | (subst h; exact VRs_one h')
      | (obtain ⟨_, _, rfl⟩ := h; exact VRs_one h')
      | (obtain ⟨_, rfl, _⟩ := h; exact VRs_one h')
      | (obtain ⟨_, _, _, rfl, _⟩ := h; exact VRs_one h')
      | (obtain ⟨_, _, _, _, rfl, _⟩ := h; exact VRs_one h')
      | (obtain ⟨_, _, rfl, _⟩ := h; exact VRs_one h')

theorem AV.one_rel {φ : Phi} {a : AV} {v : Value} (h : VR φ a v) : v.oneCell' = a.one := by
  cases a <;> simp only [VR] at h
  case opq u => obtain ⟨rfl, _, h2⟩ := h; exact h2
  case opqi k n ne lo hi => obtain ⟨rfl, _⟩ := h; rfl
  case opqs s ne => obtain ⟨⟨b, rfl, _⟩, _⟩ := h; rfl
  all_goals first
    | (subst h; rfl)
    | (obtain ⟨_, _, rfl⟩ := h; rfl)
    | (obtain ⟨_, rfl, _⟩ := h; rfl)
    | (obtain ⟨_, _, _, rfl, _⟩ := h; rfl)
    | (obtain ⟨_, _, rfl, _⟩ := h; rfl)
    | (obtain ⟨_, _, _, _, rfl, _⟩ := h; rfl)

theorem AV.ones_rel {φ : Phi} {as : List AV} {vs : List Value} (h : VRs φ as vs) (h1 : as.all AV.one = true) : ∀ v ∈ vs, v.oneCell' = true := by
  induction as generalizing vs with
  | nil => simp only [VRs] at h; subst h; simp
  | cons a as ih =>
    simp only [VRs] at h
    obtain ⟨v, vs', rfl, h2, h3⟩ := h
    simp only [List.all_cons, Bool.and_eq_true] at h1
    intro x hx
    rcases List.mem_cons.1 hx with rfl | hx
    · rw [AV.one_rel h2]; exact h1.1
    · exact ih h3 h1.2 x hx

/-! Literals. -/
theorem conv1_sound {φ : Phi} {v : Value} {a : AV} (h : conv1 v = some a) : VR φ a v := by
  unfold conv1 at h
  split at h <;> first
    | (cases h; done)
    | (injection h with h; subst h; simp [VR]; done)
    | skip
  rename_i fn f c
  cases hy : isYield fn <;> cases hf : f.isEmpty <;> cases hc : c.isEmpty <;> simp [hy, hf, hc] at h
  subst h
  have h1 : f = #[] := Array.isEmpty_iff.1 hf
  have h2 : c = #[] := Array.isEmpty_iff.1 hc
  subst h1 h2
  exact ⟨#[], #[], rfl, hy, VRs_nil, VRs_nil⟩

theorem convs_sound {φ : Phi} : ∀ {vs : List Value} {as : List AV}, convs vs = some as → VRs φ as vs
  | [], as, h => by simp [convs] at h; subst h; exact VRs_nil
  | v :: vs, as, h => by
    simp only [convs] at h
    split at h
    · cases h
    · rename_i a ha
      split at h
      · cases h
      · rename_i as' has
        cases h
        exact VRs_cons.2 ⟨conv1_sound ha, convs_sound has⟩

theorem conv_sound {φ : Phi} {v : Value} {a : AV} (h : conv v = some a) : VR φ a v := by
  unfold conv at h
  split at h
  · rename_i cs
    cases hc : convs cs.toList with
    | none => simp [hc] at h
    | some as => simp [hc] at h; subst h; exact ⟨cs, rfl, convs_sound hc⟩
  · rename_i cs
    cases hc : cs.isEmpty <;> simp [hc] at h
    subst h
    have : cs = #[] := Array.isEmpty_iff.1 hc
    subst this
    exact ⟨#[], rfl, VRs_nil⟩
  · exact conv1_sound h

theorem zeroT_sound {φ : Phi} {P : Program} {t : TypeId} {z : AV} (h : zeroT P t = some z) : ∃ v, VR φ z v ∧ ∀ w, (zeroValue t).run P w = .ok v w := by
  unfold zeroT at h
  cases hi : P.info? t with
  | none => simp [hi] at h
  | some i =>
    simp only [hi, Option.bind_some] at h
    cases hz : i.zero with
    | none => simp [hz] at h
    | some v =>
      simp only [hz, Option.bind_some] at h
      exact ⟨v, conv_sound h, fun w => by simp [zeroValue, run_typeInfo w hi, hz]⟩

theorem sizeT_run {P : Program} {t : TypeId} {n : Nat} (h : sizeT P t = some n) (w : World) : (sizeOf t).run P w = .ok n w := by
  unfold sizeT at h
  cases hi : P.info? t with
  | none => simp [hi] at h
  | some i => simp [hi] at h; simp [sizeOf, run_typeInfo w hi, h]

theorem bytesT_run {P : Program} {t : TypeId} {n : Nat} (h : bytesT P t = some n) (w : World) : ∃ i, (typeInfo t).run P w = .ok i w ∧ i.bytes = n := by
  unfold bytesT at h
  cases hi : P.info? t with
  | none => simp [hi] at h
  | some i => simp [hi] at h; exact ⟨i, run_typeInfo w hi, h⟩

theorem isAggT_run {P : Program} {t : TypeId} {b : Bool} (h : isAggT P t = some b) (w : World) : (isAgg t).run P w = .ok b w := by
  unfold isAggT at h
  cases hu : P.underlying t with
  | none => simp [hu] at h
  | some d => cases d <;> simp [hu] at h <;> subst h <;> simp [isAgg, run_underlying hu w]

theorem pureRun_run {α : Type} {P : Program} : ∀ {s : Sem α} {a : α}, pureRun P s = some a → ∀ w, s.run P w = .ok a w
  | .pure a, b, h, w => by simp [pureRun] at h; subst h; rfl
  | .program k, b, h, w => by simp only [pureRun] at h; simp only [Sem.run]; exact pureRun_run h w
  | .load .., _, h, _ | .store .., _, h, _ | .new .., _, h, _ | .shape .., _, h, _ | .freeze .., _, h, _ | .frozen .., _, h, _ | .getObj .., _, h, _
  | .setObj .., _, h, _ | .choose .., _, h, _ | .sys .., _, h, _ | .mark .., _, h, _ | .halt .., _, h, _ => by simp [pureRun] at h

end Go.Ev
