/- How the heap's relation is carried over a change. -/
import Derived.Test.YtbinpohgchgpaaaGreatEvMake
namespace Go.Ev

section
variable {φ : Phi} {base : Nat} {H : AH} {w : World}

@[simp] theorem obj_put (H : AH) (id id' : Nat) (o : AObj) : (H.put id o).obj id' = if id' = id then some o else H.obj id' := by
  cases H; simp [AH.put, AH.obj, Tr.get_set]
@[simp] theorem next_put (H : AH) (id : Nat) (o : AObj) : (H.put id o).next = H.next := by cases H; rfl
@[simp] theorem obj_new (H : AH) (id' : Nat) (o : AObj) : (H.new o).obj id' = if id' = H.next then some o else H.obj id' := by
  cases H; simp [AH.new, AH.obj, Tr.get_set]
@[simp] theorem next_new (H : AH) (o : AObj) : (H.new o).next = H.next + 1 := by cases H; rfl

theorem ERs.mono {φ ψ : Phi} (h : PLe φ ψ) : ∀ {es : List (AV × AV × Nat)} {ms : List MapEntry}, ERs φ es ms → ERs ψ es ms
  | [], _, h1 => by simpa [ERs] using h1
  | (k, v, b) :: es, _, h1 => by
    simp only [ERs] at h1 ⊢
    obtain ⟨m, ms, rfl, h2, h3, h4, h5⟩ := h1
    exact ⟨m, ms, rfl, VR.mono h _ _ h2, VR.mono h _ _ h3, h4, ERs.mono h h5⟩

theorem DR.mono {φ ψ : Phi} (h : PLe φ ψ) {a : ADef} {d : Deferred} (h1 : DR φ a d) : DR ψ a d := by
  cases a with
  | call fn cap args =>
    obtain ⟨c', a', e, hy, h2, h3⟩ := h1
    exact ⟨c', a', e, hy, VRs.mono h _ _ h2, VRs.mono h _ _ h3⟩
  | collected r =>
    obtain ⟨e, h2, h3⟩ := h1
    exact ⟨e, h _ _ h2, h3⟩

theorem DRs.mono {φ ψ : Phi} (h : PLe φ ψ) : ∀ {as : List ADef} {ds : List Deferred}, DRs φ as ds → DRs ψ as ds
  | [], _, h1 => by simpa [DRs] using h1
  | a :: as, _, h1 => by
    simp only [DRs] at h1 ⊢
    obtain ⟨d, ds, rfl, h2, h3⟩ := h1
    exact ⟨d, ds, rfl, h2.mono h, DRs.mono h h3⟩

theorem TR.mono {φ ψ : Phi} (h : PLe φ ψ) {t : Tr AV} {nt : Nat} {tmps : Array Value} (h1 : TR φ t nt tmps) : TR ψ t nt tmps :=
  ⟨h1.1, fun i a hi => let ⟨v, h2, h3⟩ := h1.2 i a hi; ⟨v, h2, VR.mono h _ _ h3⟩⟩

theorem OR.mono {φ ψ : Phi} (h : PLe φ ψ) {ob : AObj} {e : PE} {o : Obj} (h1 : OR φ ob e o) : OR ψ ob e o := by
  cases ob with
  | cells vs elem =>
    obtain ⟨cs, el, rfl, h2, h3, h4, h5⟩ := h1
    exact ⟨cs, el, rfl, h2, h3, VRs.mono h _ _ h4, h5⟩
  | map es clock => obtain ⟨es', rfl, h2⟩ := h1; exact ⟨es', rfl, h2.mono h⟩
  | strIter s pos => exact h1
  | mapIter m since seen stepped =>
    obtain ⟨m', rfl, h0, h2⟩ := h1
    refine ⟨m', rfl, h0, ?_⟩
    cases m with
    | none => exact h2
    | some id => obtain ⟨e, h3, h4⟩ := h2; exact ⟨e, h _ _ h3, h4⟩
  | loop st p fn tmps nt ps a b d =>
    obtain ⟨tmps', ed, rfl, h2, h3⟩ := h1
    exact ⟨tmps', ed, rfl, h _ _ h2, h3.mono h⟩
  | deferred ds =>
    cases ds with
    | none => exact h1
    | some l => obtain ⟨l', rfl, h2⟩ := h1; exact ⟨l', rfl, h2.mono h⟩
  | dead vs => trivial
  | rep z n elem =>
    obtain ⟨cs, el, rfl, h2, h3, h4, h5⟩ := h1
    exact ⟨cs, el, rfl, h2, h3, VRs.mono h _ _ h4, h5⟩
  | bag es => obtain ⟨l, es', c, rfl, h2, h3⟩ := h1; exact ⟨l, es', c, rfl, h2, h3.mono h⟩

/-- The identifiers below m that stand for nothing do so still, and their objects are as they were. -/
def Ext (m : Nat) (φ : Phi) (H : AH) (ψ : Phi) (H' : AH) : Prop :=
  PLe φ ψ ∧ H.next ≤ H'.next ∧ ∀ id, id < m → φ id = none → ψ id = none ∧ H'.obj id = H.obj id

theorem Ext.refl (m : Nat) (φ : Phi) (H : AH) : Ext m φ H φ H := ⟨PLe.refl φ, Nat.le_refl _, fun _ _ h => ⟨h, rfl⟩⟩
theorem Ext.trans {m : Nat} {φ ψ χ : Phi} {H H' H'' : AH} (h : Ext m φ H ψ H') (h' : Ext m ψ H' χ H'') : Ext m φ H χ H'' :=
  ⟨h.1.trans h'.1, Nat.le_trans h.2.1 h'.2.1, fun id hm hn => let ⟨h1, h2⟩ := h.2.2 id hm hn; let ⟨h3, h4⟩ := h'.2.2 id hm h1; ⟨h3, h4.trans h2⟩⟩
theorem Ext.mono {m n : Nat} {φ ψ : Phi} {H H' : AH} (h : Ext n φ H ψ H') (hm : m ≤ n) : Ext m φ H ψ H' :=
  ⟨h.1, h.2.1, fun id hi hn => h.2.2 id (Nat.lt_of_lt_of_le hi hm) hn⟩

/-- The blocks below the base are as they were. -/
def Streams (w w' : World) : Prop := w'.os = w.os ∧ w'.tape = w.tape ∧ w'.output = w.output
theorem Streams.refl (w : World) : Streams w w := ⟨rfl, rfl, rfl⟩
theorem Streams.trans {w w' w'' : World} (h : Streams w w') (h' : Streams w' w'') : Streams w w'' := ⟨h'.1.trans h.1, h'.2.1.trans h.2.1, h'.2.2.trans h.2.2⟩
def Keep (base : Nat) (w w' : World) : Prop := w.heap.size ≤ w'.heap.size ∧ (∀ b, b < base → w'.heap[b]? = w.heap[b]?) ∧ Streams w w'
theorem Keep.refl (base : Nat) (w : World) : Keep base w w := ⟨Nat.le_refl _, fun _ _ => rfl, Streams.refl w⟩
theorem Keep.trans {base : Nat} {w w' w'' : World} (h : Keep base w w') (h' : Keep base w' w'') : Keep base w w'' :=
  ⟨Nat.le_trans h.1 h'.1, fun b hb => (h'.2.1 b hb).trans (h.2.1 b hb), h.2.2.trans h'.2.2⟩

theorem alloc_size (w : World) (o : Obj) : (w.alloc o).heap.size = w.heap.size + 1 := by
  show (w.heap.push o).size = _; simp
theorem alloc_old (w : World) (o : Obj) {b : Nat} (h : b < w.heap.size) : (w.alloc o).heap[b]? = w.heap[b]? := by
  show (w.heap.push o)[b]? = _; simp [Array.getElem?_push, Nat.ne_of_lt h]
theorem alloc_here (w : World) (o : Obj) : (w.alloc o).heap[w.heap.size]? = some o := by
  show (w.heap.push o)[w.heap.size]? = _; simp

/-- A new identifier. -/
def bindAt (φ : Phi) (id : Nat) (e : PE) : Phi := fun i => if i = id then some e else φ i
theorem bindAt_same (φ : Phi) (id : Nat) (e : PE) : bindAt φ id e id = some e := by simp [bindAt]
theorem bindAt_le {φ : Phi} {id : Nat} {e : PE} (h : φ id = none) : PLe φ (bindAt φ id e) := by
  intro i e' hi
  by_cases hii : i = id
  · subst hii; rw [h] at hi; cases hi
  · simp [bindAt, hii, hi]

theorem WR.fresh (hw : WR φ base H w) {id : Nat} (h : H.next ≤ id) : φ id = none := by
  cases he : φ id with
  | none => rfl
  | some e => have := (hw.lt id e he).2.2; omega

/-- An object that lies in H without standing for anything yet: it is made in the world now. -/
theorem WR.bind_new (hw : WR φ base H w) {id n : Nat} {ob : AObj} {o' : Obj} (hid : φ id = none) (ho : H.obj id = some ob) (hb : base ≤ w.heap.size)
    (hor : ∀ ψ b, PLe φ ψ → OR ψ ob ⟨b, 0, n⟩ o') :
    WR (bindAt φ id ⟨w.heap.size, 0, n⟩) base H (w.alloc o') := by
  have hsz : (w.alloc o').heap.size = w.heap.size + 1 := alloc_size _ _
  have hold : ∀ b, b < w.heap.size → (w.alloc o').heap[b]? = w.heap[b]? := fun b hb => alloc_old _ _ hb
  have hnew : (w.alloc o').heap[w.heap.size]? = some o' := alloc_here _ _
  have hle := bindAt_le (e := ⟨w.heap.size, 0, n⟩) hid
  refine ⟨?_, ?_, ?_, hw.nx⟩
  · intro i ob' e h1 h2
    by_cases hi : i = id
    · subst hi
      rw [bindAt_same] at h2; cases h2
      rw [ho] at h1; cases h1
      exact ⟨o', hnew, hor _ _ hle⟩
    · simp only [bindAt, if_neg hi] at h2
      obtain ⟨o, h3, h4⟩ := hw.here i ob' e h1 h2
      exact ⟨o, by rw [hold _ (hw.lt i e h2).1]; exact h3, h4.mono hle⟩
  · intro i i' ob1 ob2 e e' h1 l1 h2 h3 l2 h4 he
    by_cases hi : i = id <;> by_cases hi' : i' = id
    · rw [hi, hi']
    · simp only [bindAt, if_neg hi'] at h4
      subst hi
      rw [bindAt_same] at h2; cases h2
      have := (hw.lt i' e' h4).1
      simp only at he; omega
    · simp only [bindAt, if_neg hi] at h2
      subst hi'
      rw [bindAt_same] at h4; cases h4
      have := (hw.lt i e h2).1
      simp only at he; omega
    · simp only [bindAt, if_neg hi] at h2
      simp only [bindAt, if_neg hi'] at h4
      exact hw.inj i i' ob1 ob2 e e' h1 l1 h2 h3 l2 h4 he
  · intro i e h2
    by_cases hi : i = id
    · subst hi
      rw [bindAt_same] at h2; cases h2
      exact ⟨by rw [hsz]; exact Nat.lt_succ_self _, hb, hw.nx _ _ ho⟩
    · simp only [bindAt, if_neg hi] at h2
      have := hw.lt i e h2
      exact ⟨by rw [hsz]; omega, this.2⟩

/-- A new object, not yet in the world. -/
theorem WR.new (hw : WR φ base H w) (ob : AObj) : WR φ base (H.new ob) w := by
  have hf := hw.fresh (Nat.le_refl H.next)
  have hne : ∀ {id e}, φ id = some e → id ≠ H.next := fun h e => by rw [e, hf] at h; cases h
  refine ⟨?_, ?_, ?_, ?_⟩
  · intro i ob' e h1 h2
    rw [obj_new, if_neg (hne h2)] at h1
    exact hw.here i ob' e h1 h2
  · intro i i' ob1 ob2 e e' h1 l1 h2 h3 l2 h4 he
    rw [obj_new, if_neg (hne h2)] at h1
    rw [obj_new, if_neg (hne h4)] at h3
    exact hw.inj i i' ob1 ob2 e e' h1 l1 h2 h3 l2 h4 he
  · intro i e h
    have := hw.lt i e h
    exact ⟨this.1, this.2.1, by rw [next_new]; omega⟩
  · intro i ob' h
    rw [obj_new] at h
    rw [next_new]
    split at h
    · omega
    · have := hw.nx _ _ h; omega

theorem Ext.new {m : Nat} (hm : m ≤ H.next) (ob : AObj) : Ext m φ H φ (H.new ob) :=
  ⟨PLe.refl φ, by rw [next_new]; omega, fun id hi hn => ⟨hn, by rw [obj_new, if_neg (by omega)]⟩⟩

theorem Keep.alloc {base : Nat} {w : World} (hb : base ≤ w.heap.size) (o : Obj) : Keep base w (w.alloc o) :=
  ⟨by rw [alloc_size]; omega, fun b h => alloc_old _ _ (by omega), rfl, rfl, rfl⟩

/-- An object's block is written, and nothing else. -/
theorem WR.put (hw : WR φ base H w) {id : Nat} {ob ob' : AObj} {e : PE} {w' : World} (ho : H.obj id = some ob) (hl : ob.live = true) (he : φ id = some e)
    (hsz : w'.heap.size = w.heap.size) (hoth : ∀ b, b ≠ e.b → w'.heap[b]? = w.heap[b]?) (hnew : ∃ o', w'.heap[e.b]? = some o' ∧ OR φ ob' e o') : WR φ base (H.put id ob') w' := by
  refine ⟨?_, ?_, ?_, ?_⟩
  · intro i ob1 e1 h1 h2
    rw [obj_put] at h1
    by_cases hi : i = id
    · subst hi
      rw [if_pos rfl] at h1; cases h1
      rw [he] at h2; cases h2
      exact hnew
    · rw [if_neg hi] at h1
      by_cases hl1 : ob1.live = true
      · obtain ⟨o, h3, h4⟩ := hw.here i ob1 e1 h1 h2
        have hb : e1.b ≠ e.b := fun h => hi (hw.inj i id ob1 ob e1 e h1 hl1 h2 ho hl he h)
        exact ⟨o, by rw [hoth _ hb]; exact h3, h4⟩
      · cases ob1 <;> simp [AObj.live] at hl1
        have h5 := (hw.lt i e1 h2).1
        refine ⟨w'.heap[e1.b]'(by rw [hsz]; exact h5), by simp [hsz, h5], trivial⟩
  · intro i i' ob1 ob2 e1 e2 h1 l1 h2 h3 l2 h4 hb
    rw [obj_put] at h1 h3
    by_cases hi : i = id <;> by_cases hi' : i' = id
    · rw [hi, hi']
    · subst hi
      rw [if_neg hi'] at h3
      exact hw.inj i i' ob ob2 e1 e2 ho hl h2 h3 l2 h4 hb
    · subst hi'
      rw [if_neg hi] at h1
      exact hw.inj i i' ob1 ob e1 e2 h1 l1 h2 ho hl h4 hb
    · rw [if_neg hi] at h1
      rw [if_neg hi'] at h3
      exact hw.inj i i' ob1 ob2 e1 e2 h1 l1 h2 h3 l2 h4 hb
  · intro i e1 h
    have := hw.lt i e1 h
    exact ⟨by rw [hsz]; exact this.1, this.2.1, by rw [next_put]; exact this.2.2⟩
  · intro i ob1 h
    rw [obj_put] at h
    rw [next_put]
    split at h
    · rename_i e; subst e; exact hw.nx _ _ ho
    · exact hw.nx _ _ h

theorem Ext.put {m id : Nat} {e : PE} (he : φ id = some e) (ob : AObj) : Ext m φ H φ (H.put id ob) :=
  ⟨PLe.refl φ, by rw [next_put]; omega, fun i _ hn => ⟨hn, by rw [obj_put, if_neg (fun h => by subst h; rw [he] at hn; cases hn)]⟩⟩

theorem Keep.of_put (hw : WR φ base H w) {id : Nat} {e : PE} {w' : World} (he : φ id = some e) (hsz : w'.heap.size = w.heap.size) (hoth : ∀ b, b ≠ e.b → w'.heap[b]? = w.heap[b]?) (hs : Streams w w' := by exact ⟨rfl, rfl, rfl⟩) : Keep base w w' :=
  ⟨by omega, fun b hb => hoth b (by have := (hw.lt id e he).2.1; omega), hs⟩

/-- A world that differs in its draws alone. -/
theorem WR.same_heap (hw : WR φ base H w) {w' : World} (h : w'.heap = w.heap) : WR φ base H w' :=
  ⟨fun i ob e h1 h2 => by rw [h]; exact hw.here i ob e h1 h2, hw.inj, fun i e h1 => by rw [h]; exact hw.lt i e h1, hw.nx⟩
theorem Keep.same_heap {w' : World} (h : w'.heap = w.heap) (hs : Streams w w' := by exact ⟨rfl, rfl, rfl⟩) : Keep base w w' := ⟨by rw [h]; exact Nat.le_refl _, fun b _ => by rw [h], hs⟩

/-- An object dies. -/
theorem WR.kill (hw : WR φ base H w) {id : Nat} {ob : AObj} {vs : List AV} (ho : H.obj id = some ob) : WR φ base (H.put id (.dead vs)) w := by
  refine ⟨?_, ?_, ?_, ?_⟩
  · intro i ob1 e1 h1 h2
    rw [obj_put] at h1
    by_cases hi : i = id
    · subst hi
      rw [if_pos rfl] at h1; cases h1
      have h5 := (hw.lt i e1 h2).1
      exact ⟨w.heap[e1.b], by simp [h5], trivial⟩
    · rw [if_neg hi] at h1
      exact hw.here i ob1 e1 h1 h2
  · intro i i' ob1 ob2 e1 e2 h1 l1 h2 h3 l2 h4 hb
    rw [obj_put] at h1 h3
    by_cases hi : i = id
    · subst hi; rw [if_pos rfl] at h1; cases h1; simp [AObj.live] at l1
    · by_cases hi' : i' = id
      · subst hi'; rw [if_pos rfl] at h3; cases h3; simp [AObj.live] at l2
      · rw [if_neg hi] at h1
        rw [if_neg hi'] at h3
        exact hw.inj i i' ob1 ob2 e1 e2 h1 l1 h2 h3 l2 h4 hb
  · intro i e1 h
    have := hw.lt i e1 h
    exact ⟨this.1, this.2.1, by rw [next_put]; exact this.2.2⟩
  · intro i ob1 h
    rw [obj_put] at h
    rw [next_put]
    split at h
    · rename_i e; subst e; exact hw.nx _ _ ho
    · exact hw.nx _ _ h
end
end Go.Ev
