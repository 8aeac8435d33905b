/- The order of a region that draws it: what the plan and what the draw keep to. -/
import Derived.Test.YtbinpohgchgpaaaGreatEvH3
namespace Go.Ev

theorem hasBit_eq (m i : Nat) : hasBit m i = m.testBit i := by
  unfold hasBit
  rw [Nat.testBit]
  show Nat.beq ((m >>> i) &&& 1) 1 = _
  rw [Nat.and_comm 1]
  have h : (m >>> i) &&& 1 = 0 ∨ (m >>> i) &&& 1 = 1 := by
    rw [Nat.and_one_is_mod]; omega
  rcases h with h | h <;> rw [h] <;> rfl

theorem hasBit_lor (a b i : Nat) : hasBit (Nat.lor a b) i = (hasBit a i || hasBit b i) := by
  rw [hasBit_eq, hasBit_eq, hasBit_eq]
  exact Nat.testBit_or a b i

theorem hasBit_pow (j i : Nat) : hasBit (Nat.pow 2 j) i = decide (j = i) := by
  rw [hasBit_eq]
  show (2 ^ j).testBit i = _
  rw [Nat.testBit_two_pow]

theorem hasBit_zero (i : Nat) : hasBit 0 i = false := by rw [hasBit_eq, Nat.zero_testBit]

def Needs (ms : List Nat) (i j : Nat) : Prop := ∃ m, ms[i]? = some m ∧ hasBit m j = true

theorem needs_any {ms : List Nat} {i j : Nat} : (ms[i]?).any (hasBit · j) = true ↔ Needs ms i j := by
  unfold Needs
  cases h : ms[i]? <;> simp

def Topo (ms : List Nat) : List Nat → List Nat → Prop
  | _, [] => True
  | done, i :: l => (∀ j, Needs ms i j → j ∈ done) ∧ i ∉ done ∧ Topo ms (i :: done) l

/-- What has been carried out is closed. -/
def Closed (ms : List Nat) (done : List Nat) : Prop := ∀ i ∈ done, ∀ j, Needs ms i j → j ∈ done

theorem Closed.cons {ms : List Nat} {done : List Nat} {i : Nat} (h : Closed ms done) (hi : ∀ j, Needs ms i j → j ∈ done) : Closed ms (i :: done) := by
  intro k hk j hj
  rcases List.mem_cons.1 hk with rfl | hk
  · exact List.mem_cons_of_mem _ (hi j hj)
  · exact List.mem_cons_of_mem _ (h k hk j hj)

theorem Closed.nil (ms : List Nat) : Closed ms [] := by intro i hi; cases hi

theorem Topo.not_mem {ms : List Nat} : ∀ {l done : List Nat} {i : Nat}, Topo ms done l → i ∈ l → i ∉ done
  | [], _, _, _, h => by cases h
  | x :: l, done, i, ⟨_, h2, h3⟩, h => by
    rcases List.mem_cons.1 h with rfl | h
    · exact h2
    · exact fun hd => h3.not_mem h (List.mem_cons_of_mem _ hd)

/-! ### The masks -/

def maskStep (acc : List Nat) (s : Option Nat) (e : Edge) : Option Nat :=
  match s with
  | none => none
  | some s => bif Region.binds .any e then (match acc[e.on]? with
      | some n => some (Nat.lor (Nat.lor s (Nat.pow 2 e.on)) n)
      | none => none) else some s

theorem maskStep_none (acc : List Nat) : ∀ es : List Edge, es.foldl (maskStep acc) none = none
  | [] => rfl
  | e :: es => by simp only [List.foldl_cons]; exact maskStep_none acc es

theorem maskStep_spec (acc : List Nat) : ∀ (es : List Edge) (s m : Nat), es.foldl (maskStep acc) (some s) = some m →
    (∀ e ∈ es, Region.binds .any e = true → e.on < acc.length) ∧
    (∀ j, hasBit m j = true → hasBit s j = true ∨ ∃ e ∈ es, Region.binds .any e = true ∧ (e.on = j ∨ ∃ n, acc[e.on]? = some n ∧ hasBit n j = true))
  | [], s, m, h => by
    cases h
    exact ⟨(fun _ h => by cases h), fun j hj => .inl hj⟩
  | e :: es, s, m, h => by
    simp only [List.foldl_cons] at h
    cases hb : Region.binds .any e with
    | false =>
      simp only [maskStep, hb, cond_false] at h
      obtain ⟨h1, h2⟩ := maskStep_spec acc es s m h
      refine ⟨fun e' he' hb' => ?_, fun j hj => ?_⟩
      · rcases List.mem_cons.1 he' with rfl | he'
        · rw [hb] at hb'; cases hb'
        · exact h1 e' he' hb'
      · rcases h2 j hj with h | ⟨e', he', h⟩
        · exact .inl h
        · exact .inr ⟨e', List.mem_cons_of_mem _ he', h⟩
    | true =>
      simp only [maskStep, hb, cond_true] at h
      cases ha : acc[e.on]? with
      | none => rw [ha] at h; simp only at h; rw [maskStep_none] at h; cases h
      | some n =>
        rw [ha] at h
        simp only at h
        obtain ⟨h1, h2⟩ := maskStep_spec acc es _ m h
        refine ⟨fun e' he' hb' => ?_, fun j hj => ?_⟩
        · rcases List.mem_cons.1 he' with rfl | he'
          · exact (List.getElem?_eq_some_iff.1 ha).1
          · exact h1 e' he' hb'
        · rcases h2 j hj with h | ⟨e', he', h⟩
          · rw [hasBit_lor, hasBit_lor, hasBit_pow] at h
            simp only [Bool.or_eq_true, decide_eq_true_eq] at h
            rcases h with (h | h) | h
            · exact .inl h
            · exact .inr ⟨e, List.mem_cons_self .., hb, .inl h⟩
            · exact .inr ⟨e, List.mem_cons_self .., hb, .inr ⟨n, ha, h⟩⟩
          · exact .inr ⟨e', List.mem_cons_of_mem _ he', h⟩

theorem masks_spec : ∀ (l : List Oper) (acc ms : List Nat), masks l acc = some ms →
    (∃ t, ms = acc ++ t ∧ t.length = l.length) ∧
    ∀ i o, l[i]? = some o → (∀ e ∈ o.after.toList, Region.binds .any e = true → e.on < acc.length + i) ∧
      ∀ j, Needs ms (acc.length + i) j → ∃ e ∈ o.after.toList, Region.binds .any e = true ∧ (e.on = j ∨ Needs ms e.on j)
  | [], acc, ms, h => by
    cases h
    exact ⟨⟨[], by simp, rfl⟩, fun i o h => by simp at h⟩
  | o :: l, acc, ms, h => by
    unfold masks at h
    change (match o.after.toList.foldl (maskStep acc) (some 0) with | none => none | some m => masks l (acc ++ [m])) = some ms at h
    cases hm : o.after.toList.foldl (maskStep acc) (some 0) with
    | none => rw [hm] at h; cases h
    | some m =>
      rw [hm] at h
      simp only at h
      obtain ⟨⟨t, rfl, ht⟩, h2⟩ := masks_spec l (acc ++ [m]) ms h
      obtain ⟨g1, g2⟩ := maskStep_spec acc _ 0 m hm
      refine ⟨⟨m :: t, by simp, by simp [ht]⟩, fun i o' ho' => ?_⟩
      cases i with
      | zero =>
        cases ho'
        refine ⟨by simpa using g1, fun j hj => ?_⟩
        obtain ⟨m', hm', hb⟩ := hj
        have : m' = m := by
          simp at hm'
          exact hm'.symm
        subst this
        rcases g2 j hb with h | ⟨e, he, hbind, h⟩
        · rw [hasBit_zero] at h; cases h
        · refine ⟨e, he, hbind, h.imp_right ?_⟩
          rintro ⟨n, hn, hn2⟩
          have hlt := (List.getElem?_eq_some_iff.1 hn).1
          exact ⟨n, by rw [List.append_assoc, List.getElem?_append_left hlt]; exact hn, hn2⟩
      | succ i =>
        have := h2 i o' (by simpa using ho')
        have he : acc.length + (i + 1) = (acc ++ [m]).length + i := by simp; omega
        rw [he]
        exact this

/-! ### The draw -/

theorem pigeon : ∀ {l l' : List Nat}, l.Nodup → (∀ x ∈ l, x ∈ l') → l.length ≤ l'.length
  | [], _, _, _ => Nat.zero_le _
  | a :: l, l', hn, hs => by
    obtain ⟨h1, h2⟩ := List.nodup_cons.1 hn
    have ha := hs a (List.mem_cons_self ..)
    have := pigeon (l' := l'.erase a) h2 (fun x hx => by
      have hne : x ≠ a := fun e => h1 (e ▸ hx)
      exact (List.mem_erase_of_ne hne).2 (hs x (List.mem_cons_of_mem _ hx)))
    rw [List.length_erase_of_mem ha] at this
    have hp : 0 < l'.length := List.length_pos_of_mem ha
    simp only [List.length_cons]
    omega

section
variable {ops : Array Oper} {ms : List Nat}

def Listed (ops : Array Oper) (listed : Array Bool) (done : List Nat) : Prop :=
  listed.size = ops.size ∧ ∀ i, i < ops.size → listed[i]? = some (decide (i ∈ done))

theorem Listed.getD {listed : Array Bool} {done : List Nat} (h : Listed ops listed done) {i : Nat} (hi : i < ops.size) (b : Bool) : listed.getD i b = decide (i ∈ done) := by
  rw [Array.getD_eq_getD_getElem?, h.2 i hi]; rfl

theorem go_topo (hms : masks ops.toList [] = some ms) : ∀ (fuel t : Nat) (listed : Array Bool) (done : List Nat), Listed ops listed done → Closed ms done → (∀ i ∈ done, i < ops.size) → done.Nodup → done.length + fuel = ops.size →
    Topo ms done (Region.linearise.go .any ops fuel t listed []) ∧ (∀ i, i < ops.size → i ∈ done ∨ i ∈ Region.linearise.go .any ops fuel t listed []) ∧ (∀ i ∈ Region.linearise.go .any ops fuel t listed [], i < ops.size)
  | 0, t, listed, done, hL, hc, hlt, hn, hlen => by
    simp only [Region.linearise.go, List.reverse_nil]
    refine ⟨trivial, fun i hi => .inl ?_, fun _ h => by cases h⟩
    refine Decidable.byContradiction fun hni => ?_
    have := pigeon (l := i :: done) (l' := List.range ops.size) (List.nodup_cons.2 ⟨hni, hn⟩) (fun x hx => by
      rcases List.mem_cons.1 hx with rfl | hx
      · exact List.mem_range.2 hi
      · exact List.mem_range.2 (hlt x hx))
    simp at this
    omega
  | fuel + 1, t, listed, done, hL, hc, hlt, hn, hlen => by
    have hspec := (masks_spec ops.toList [] ms hms).2
    have hready : ∀ i, i ∈ Region.ready .any ops listed ↔ i < ops.size ∧ i ∉ done ∧ ∃ o, ops[i]? = some o ∧ ∀ e ∈ o.after.toList, Region.binds .any e = true → e.on ∈ done := by
      intro i
      simp only [Region.ready, List.mem_filter, List.mem_range]
      refine and_congr_right fun hi => ?_
      rw [hL.getD hi]
      have ho : ops[i]? = some ops[i] := Array.getElem?_eq_getElem hi
      rw [ho]
      simp only [Option.map_some, Option.getD_some, Bool.and_eq_true, Bool.not_eq_true', decide_eq_false_iff_not, Option.some.injEq, exists_eq_left']
      refine and_congr_right fun _ => ?_
      rw [← Array.all_toList, List.all_eq_true]
      refine forall_congr' fun e => forall_congr' fun he => ?_
      cases hb : Region.binds .any e with
      | false => simp
      | true =>
        have hon := (hspec i ops[i] (by rw [Array.getElem?_toList]; exact ho)).1 e he hb
        simp only [List.length_nil, Nat.zero_add] at hon
        rw [hL.getD (Nat.lt_trans hon hi)]
        simp
    simp only [Region.linearise.go]
    change Topo ms done (match (Region.ready .any ops listed)[t % (Region.ready .any ops listed).length]? with
      | some i => Region.linearise.go .any ops fuel (t / (Region.ready .any ops listed).length) (listed.setIfInBounds i true) [i]
      | none => [].reverse) ∧ (∀ i, i < ops.size → i ∈ done ∨ i ∈ (match (Region.ready .any ops listed)[t % (Region.ready .any ops listed).length]? with
      | some i => Region.linearise.go .any ops fuel (t / (Region.ready .any ops listed).length) (listed.setIfInBounds i true) [i]
      | none => [].reverse)) ∧ (∀ i ∈ (match (Region.ready .any ops listed)[t % (Region.ready .any ops listed).length]? with
      | some i => Region.linearise.go .any ops fuel (t / (Region.ready .any ops listed).length) (listed.setIfInBounds i true) [i]
      | none => [].reverse), i < ops.size)
    cases hi : (Region.ready .any ops listed)[t % (Region.ready .any ops listed).length]? with
    | none =>
      have hnil : Region.ready .any ops listed = [] := by
        cases hr : Region.ready .any ops listed with
        | nil => rfl
        | cons x xs =>
          rw [hr] at hi
          have hlt : t % (x :: xs).length < (x :: xs).length := Nat.mod_lt _ (by simp)
          simp at hi
          simp at hlt
          omega
      refine ⟨trivial, fun i hi => .inl ?_, fun _ h => by cases h⟩
      induction i using Nat.strongRecOn with
      | ind i ih =>
        refine Decidable.byContradiction fun hni => ?_
        have ho : ops[i]? = some ops[i] := Array.getElem?_eq_getElem hi
        have : i ∈ Region.ready .any ops listed := (hready i).2 ⟨hi, hni, _, ho, fun e he hb => by
          have hon := (hspec i ops[i] (by rw [Array.getElem?_toList]; exact ho)).1 e he hb
          simp only [List.length_nil, Nat.zero_add] at hon
          exact ih e.on hon (Nat.lt_trans hon hi)⟩
        rw [hnil] at this
        cases this
    | some i =>
      simp only []
      rw [linearise_go_acc, List.reverse_singleton, List.singleton_append]
      obtain ⟨hi1, hi2, o, ho, hi3⟩ := (hready i).1 (List.mem_of_getElem? hi)
      have hneeds : ∀ j, Needs ms i j → j ∈ done := by
        intro j hj
        have := (hspec i o (by rw [Array.getElem?_toList]; exact ho)).2 j (by simpa using hj)
        obtain ⟨e, he, hb, h⟩ := this
        have hon := hi3 e he hb
        rcases h with rfl | h
        · exact hon
        · exact hc _ hon _ h
      have hL' : Listed ops (listed.setIfInBounds i true) (i :: done) := by
        refine ⟨by simp [hL.1], fun k hk => ?_⟩
        rw [Array.getElem?_setIfInBounds]
        by_cases hki : i = k
        · subst hki
          simp [hL.1, hi1]
        · rw [if_neg hki, hL.2 k hk]
          have : k ≠ i := fun e => hki e.symm
          simp [this]
      obtain ⟨h1, h2, h3⟩ := go_topo hms fuel (t / (Region.ready .any ops listed).length) (listed.setIfInBounds i true) (i :: done) hL' (hc.cons hneeds)
        (fun x hx => by rcases List.mem_cons.1 hx with rfl | hx; exact hi1; exact hlt x hx) (List.nodup_cons.2 ⟨hi2, hn⟩) (by simp; omega)
      refine ⟨⟨hneeds, hi2, h1⟩, fun k hk => ?_, fun k hk => ?_⟩
      · rcases h2 k hk with h | h
        · rcases List.mem_cons.1 h with rfl | h
          · exact .inr (List.mem_cons_self ..)
          · exact .inl h
        · exact .inr (List.mem_cons_of_mem _ h)
      · rcases List.mem_cons.1 hk with rfl | hk
        · exact hi1
        · exact h3 k hk

theorem schedule_topo {P : Program} (hm : P.follows .mixedOrders = true) (hms : masks ops.toList [] = some ms) (t : Nat) :
    Topo ms [] (Region.schedule (P.follows .mixedOrders) ops t) ∧ (∀ i, i < ops.size → i ∈ Region.schedule (P.follows .mixedOrders) ops t) ∧ (∀ i ∈ Region.schedule (P.follows .mixedOrders) ops t, i < ops.size) := by
  have he : Region.schedule (P.follows .mixedOrders) ops t = Region.linearise.go .any ops ops.size t (Array.replicate ops.size false) [] := by
    simp [Region.schedule, hm, Region.linearise]
  rw [he]
  obtain ⟨h1, h2, h3⟩ := go_topo hms ops.size t (Array.replicate ops.size false) [] ⟨by simp, fun i hi => by simp [hi]⟩ (Closed.nil ms) (fun _ h => by cases h) List.nodup_nil (by simp)
  exact ⟨h1, fun i hi => by simpa using h2 i hi, h3⟩

/-! ### The plan's own order -/

theorem asap_topo : ∀ (f got : Nat) (left done l : List Nat), asap ops ms f got left = some l → (∀ j, hasBit got j = true → j ∈ done) → (∀ i ∈ left, i ∉ done) →
    Topo ms done l ∧ (∀ i ∈ left, i ∈ l) ∧ ∀ i ∈ l, i ∈ left
  | 0, got, left, done, l, h, hg, hl => by
    simp only [asap] at h
    obtain ⟨h1, h2⟩ := bif_some h
    cases h2
    rw [List.isEmpty_iff] at h1
    subst h1
    exact ⟨trivial, (fun _ h => by cases h), (fun _ h => by cases h)⟩
  | f + 1, got, left, done, l, h, hg, hl => by
    simp only [asap] at h
    have key : ∀ i, i ∈ left → (match ms[i]? with | some m => Nat.beq (Nat.lor m got) got | none => false) = true →
        (asap ops ms f (Nat.lor got (Nat.pow 2 i)) (left.filter fun j => !Nat.beq i j)).map (i :: ·) = some l →
        Topo ms done l ∧ (∀ i ∈ left, i ∈ l) ∧ ∀ i ∈ l, i ∈ left := by
      intro i hi hr h
      cases hm : ms[i]? with
      | none => rw [hm] at hr; cases hr
      | some m =>
        rw [hm] at hr
        simp only at hr
        have hr := Nat.eq_of_beq_eq_true hr
        cases ha : asap ops ms f (Nat.lor got (Nat.pow 2 i)) (left.filter fun j => !Nat.beq i j) with
        | none => rw [ha] at h; cases h
        | some l' =>
          rw [ha] at h
          cases h
          obtain ⟨h1, h2, h3⟩ := asap_topo f _ _ (i :: done) l' ha (fun j hj => by
            rw [hasBit_lor, hasBit_pow] at hj
            simp only [Bool.or_eq_true, decide_eq_true_eq] at hj
            rcases hj with h | h
            · exact List.mem_cons_of_mem _ (hg j h)
            · exact h ▸ List.mem_cons_self ..) (fun k hk => by
            obtain ⟨hk1, hk2⟩ := List.mem_filter.1 hk
            intro hd
            rcases List.mem_cons.1 hd with rfl | hd
            · simp at hk2
            · exact hl k hk1 hd)
          refine ⟨⟨?_, hl i hi, h1⟩, ?_, ?_⟩
          · rintro j ⟨m', hm', hb⟩
            rw [hm] at hm'
            cases hm'
            refine hg j ?_
            rw [← hr, hasBit_lor, hb]; rfl
          · intro k hk
            by_cases hki : k = i
            · exact hki ▸ List.mem_cons_self ..
            · refine List.mem_cons_of_mem _ (h2 k (List.mem_filter.2 ⟨hk, ?_⟩))
              simp only [Bool.not_eq_true']
              exact Bool.eq_false_iff.2 fun h => hki (Nat.eq_of_beq_eq_true h).symm
          · intro k hk
            rcases List.mem_cons.1 hk with rfl | hk
            · exact hi
            · exact (List.mem_filter.1 (h3 k hk)).1
    split at h
    · obtain ⟨h1, h2⟩ := bif_some h
      cases h2
      rw [List.isEmpty_iff] at h1
      subst h1
      exact ⟨trivial, (fun _ h => by cases h), (fun _ h => by cases h)⟩
    · rename_i i hp
      split at hp
      · rename_i i' hf
        cases hp
        have := List.find?_some hf
        simp only [Bool.and_eq_true] at this
        exact key i (List.mem_of_find?_eq_some hf) this.1 h
      · exact key i (List.mem_of_find?_eq_some hp) (by have := List.find?_some hp; exact this) h

/-- The non-light operations come in the same order everywhere. -/
theorem okOrder_pre : ∀ (pre post : List Nat) (c : Nat) (last : Option Nat), okOrder ops ms last (pre ++ c :: post) = true →
    (∃ e ∈ pre, Needs ms c e) ∨ ((∀ e, last = some e → Needs ms c e) ∧ ∀ i ∈ pre, (ops[i]?).any (isLight ·.op) = true)
  | [], post, c, last, h => by
    simp only [List.nil_append, okOrder, Bool.and_eq_true] at h
    refine .inr ⟨?_, fun _ h => by cases h⟩
    rintro e rfl
    exact needs_any.1 h.1
  | i :: pre, post, c, last, h => by
    simp only [List.cons_append, okOrder, Bool.and_eq_true] at h
    obtain ⟨h1, h2⟩ := h
    cases hl : (ops[i]?).any (isLight ·.op) with
    | true =>
      rw [hl] at h2
      simp only [cond_true] at h2
      rcases okOrder_pre pre post c last h2 with ⟨e, he, h⟩ | ⟨h, h'⟩
      · exact .inl ⟨e, List.mem_cons_of_mem _ he, h⟩
      · refine .inr ⟨h, fun k hk => ?_⟩
        rcases List.mem_cons.1 hk with rfl | hk
        · exact hl
        · exact h' k hk
    | false =>
      rw [hl] at h2
      simp only [cond_false] at h2
      rcases okOrder_pre pre post c (some i) h2 with ⟨e, he, h⟩ | ⟨h, h'⟩
      · exact .inl ⟨e, List.mem_cons_of_mem _ he, h⟩
      · exact .inl ⟨i, List.mem_cons_self .., h i rfl⟩

theorem okOrder_tail : ∀ (pre post : List Nat) (last : Option Nat), okOrder ops ms last (pre ++ post) = true → ∃ last', okOrder ops ms last' post = true
  | [], post, last, h => ⟨last, h⟩
  | i :: pre, post, last, h => by
    simp only [List.cons_append, okOrder, Bool.and_eq_true] at h
    exact okOrder_tail pre post _ h.2

/-! ### Slots -/

def dstAt (ops : Array Oper) (j : Nat) : Option Tmp := (ops[j]?).bind (·.dst)

theorem nodupNat_writers : ∀ {l : List Oper} {i j : Nat} {o o' : Oper} {t : Tmp}, nodupNat (l.filterMap (·.dst)) = true → l[i]? = some o → l[j]? = some o' → o.dst = some t → o'.dst = some t → i = j
  | [], i, j, o, o', t, _, h, _, _, _ => by simp at h
  | x :: l, i, j, o, o', t, hn, hi, hj, ho, ho' => by
    have hmem : ∀ {k : Nat} {o : Oper}, l[k]? = some o → o.dst = some t → t ∈ l.filterMap (·.dst) := fun hk hd => List.mem_filterMap.2 ⟨_, List.mem_of_getElem? hk, hd⟩
    have hno : x.dst = some t → t ∈ l.filterMap (·.dst) → False := by
      intro hd hm
      rw [List.filterMap_cons, hd] at hn
      simp only [nodupNat, Bool.and_eq_true, Bool.not_eq_true'] at hn
      have := hn.1
      rw [List.any_eq_false] at this
      exact this t hm (by simp)
    have htl : nodupNat (l.filterMap (·.dst)) = true := by
      rw [List.filterMap_cons] at hn
      cases hd : x.dst with
      | none => rw [hd] at hn; exact hn
      | some d =>
        rw [hd] at hn
        simp only [nodupNat, Bool.and_eq_true] at hn
        exact hn.2
    cases i with
    | zero =>
      cases hi
      cases j with
      | zero => rfl
      | succ j => exact (hno ho (hmem (by simpa using hj) ho')).elim
    | succ i =>
      cases j with
      | zero => cases hj; exact (hno ho' (hmem (by simpa using hi) ho)).elim
      | succ j => exact congrArg (· + 1) (nodupNat_writers htl (by simpa using hi) (by simpa using hj) ho ho')

structure Good (ops : Array Oper) (ms : List Nat) : Prop where
  one : ∀ i j t, dstAt ops i = some t → dstAt ops j = some t → i = j
  pair : ∀ i j o t, ops[i]? = some o → t ∈ tmpsOf o → dstAt ops j = some t → i = j ∨ Needs ms i j ∨ Needs ms j i
  guard : ∀ i o g b, ops[i]? = some o → o.guard = some (g, b) → Needs ms i g

theorem okGuards_spec : ∀ {l : List (Oper × Nat)}, okGuards ms l = true → ∀ o i g b, (o, i) ∈ l → o.guard = some (g, b) → Needs ms i g
  | [], _, o, i, g, b, h, _ => by cases h
  | (o', i') :: l, hk, o, i, g, b, h, hg => by
    simp only [okGuards, Bool.and_eq_true] at hk
    rcases List.mem_cons.1 h with he | h
    · cases he
      rw [hg] at hk
      exact needs_any.1 hk.1
    · exact okGuards_spec hk.2 o i g b h hg

theorem mem_zip {i : Nat} {o : Oper} (h : ops[i]? = some o) : (o, i) ∈ ops.toList.zipIdx := by
  rw [List.mem_zipIdx_iff_getElem?]
  simpa using h

theorem dstAt_some {j : Nat} {t : Tmp} (h : dstAt ops j = some t) : ∃ o, ops[j]? = some o ∧ o.dst = some t := by
  unfold dstAt at h
  cases ho : ops[j]? with
  | none => rw [ho] at h; cases h
  | some o => rw [ho] at h; exact ⟨o, rfl, h⟩

theorem Good.of (h : okTmps ops ms = true) (hg : okGuards ms ops.toList.zipIdx = true) : Good ops ms := by
  unfold okTmps at h
  simp only [Bool.and_eq_true] at h
  obtain ⟨h1, h2⟩ := h
  rw [List.all_eq_true] at h2
  refine ⟨?_, ?_, ?_⟩
  · intro i j t hi hj
    obtain ⟨o, ho, hd⟩ := dstAt_some hi
    obtain ⟨o', ho', hd'⟩ := dstAt_some hj
    exact nodupNat_writers h1 (by rw [Array.getElem?_toList]; exact ho) (by rw [Array.getElem?_toList]; exact ho') hd hd'
  · intro i j o t ho ht hj
    obtain ⟨o', ho', hd'⟩ := dstAt_some hj
    have h3 := h2 _ (mem_zip ho)
    simp only [List.all_eq_true] at h3
    have h4 := h3 _ (mem_zip ho')
    simp only [hd', Bool.or_eq_true, Bool.not_eq_true', needs_any] at h4
    rcases h4 with ((h | h) | h) | h
    · exact .inl (Nat.eq_of_beq_eq_true h)
    · rw [List.any_eq_false] at h
      exact (h t (List.mem_append_left _ ht) (by simp)).elim
    · exact .inr (.inl h)
    · exact .inr (.inr h)
  · intro i o g b ho hgd
    exact okGuards_spec hg o i g b (mem_zip ho) hgd

theorem plan_spec {pl : Plan} (h : plan ops = some pl) :
    masks ops.toList [] = some pl.ms ∧ Topo pl.ms [] pl.order ∧ (∀ i, i < ops.size ↔ i ∈ pl.order) ∧ okOrder ops pl.ms none pl.order = true ∧ Good ops pl.ms := by
  unfold plan at h
  split at h
  · cases h
  · rename_i ms hms
    split at h
    · cases h
    · rename_i l hl
      obtain ⟨h1, h2⟩ := bif_some h
      cases h2
      simp only [Bool.and_eq_true] at h1
      obtain ⟨g1, g2, g3⟩ := asap_topo ops.size 0 (List.range ops.size) [] l hl (fun j hj => by rw [hasBit_zero] at hj; cases hj) (fun _ _ h => by cases h)
      exact ⟨hms, g1, fun i => ⟨fun hi => g2 i (List.mem_range.2 hi), fun hi => List.mem_range.1 (g3 i hi)⟩, h1.1.1, Good.of h1.1.2 h1.2⟩

theorem late_spec {i : Nat} {t : Tmp} : late ops ms i t = true ↔ ∃ j, dstAt ops j = some t ∧ ¬ Needs ms i j := by
  unfold late
  rw [List.any_eq_true]
  constructor
  · rintro ⟨⟨o, j⟩, hm, h⟩
    rw [List.mem_zipIdx_iff_getElem?] at hm
    simp only [Bool.and_eq_true, Bool.not_eq_true'] at h
    refine ⟨j, ?_, fun hn => ?_⟩
    · have ho : ops[j]? = some o := by simpa using hm
      unfold dstAt
      rw [ho]
      cases hd : o.dst with
      | none => rw [hd] at h; simp at h
      | some d => rw [hd] at h; simp only at h; show o.dst = some t; rw [hd]; exact congrArg some (Nat.eq_of_beq_eq_true h.1)
    · rw [← needs_any] at hn; rw [hn] at h; exact absurd h.2 (by simp)
  · rintro ⟨j, hj, hn⟩
    obtain ⟨o, ho, hd⟩ := dstAt_some hj
    refine ⟨(o, j), mem_zip ho, ?_⟩
    simp only [hd, Bool.and_eq_true, Bool.not_eq_true']
    exact ⟨by simp, Bool.eq_false_iff.2 fun h => hn (needs_any.1 h)⟩
end
end Go.Ev
