/- append: the theorem. -/
import Derived.Test.YtbinpohgchgpaaaGreatEvAppend
namespace Go.Ev

section
variable {P : Program} {φ : Phi} {base m : Nat} {H : AH} {w : World} {ρ : Operand → Option AV} {ev : Operand → Value}

/-- An append where there is room. -/
theorem append_room {ts : Array TypeId} {T t elem : TypeId} {vs : Array Value} {x : Value} {a : Option Addr} {len c sz n by_ : Nat} {l : List AV} (ht : ts[0]? = some t) (hu : P.underlying t = some (.slice elem))
    (v0 : vs[0]? = some (.slice a len c)) (v1 : vs[1]? = some x) (hs : sizeT P elem = some sz) (hby : bytesT P elem = some by_) (hb : by_ ≤ 65536) (htk : TakenR P φ w ts elem sz n l x) (hroom : len + n ≤ c) :
    ∃ cs : Array Value, VRs φ l cs.toList ∧ l.length = n * sz ∧ ∀ w', (match a with | some a => storeCells (a.add (len * sz)) cs.toList | none => pure () : Sem Unit).run P w = .ok () w' →
      (Builtin.append_ ts T vs).run P w = .ok (.slice a (len + n) c) w' := by
  obtain ⟨xt, d, cs, t1, tu, h1, h2, h3⟩ := htk
  refine ⟨cs, h1, h2, fun w' hst => ?_⟩
  unfold Builtin.append_
  simp only [ht, v0, v1, Sem.run_bind, run_underlying hu w, Result.andThen_ok, sizeT_run hs w, t1, run_underlying tu w]
  rcases h3 with ⟨hd, hn, hc⟩ | ⟨hd, rfl, hn, hc⟩
  · have hc' := hc w rfl
    have hz : ∀ (α : Type) (f : Bool → α), (f (match d with | .int _ => true | _ => false)) = f false := by
      intro α f; cases d <;> first | rfl | (simp [isIntD] at hd)
    split
    · simp [isIntD] at hd
    · simp only [Sem.run_pure, Result.andThen_ok, Bool.false_eq_true, if_false, Sem.run_bind, hn w, if_pos hroom, Bool.not_false, if_true, hc']
      cases a with
      | none =>
        simp only [Sem.run_pure, Result.ok.injEq, true_and] at hst
        subst hst
        rfl
      | some a => simp only [Sem.run_bind, hst, Result.andThen_ok, Sem.run_pure]
  · have hc' := hc w
    have hwn : IntKind.i64.wrap (n : Int) = n := IntWalk.i64_in _ (by omega)
    obtain ⟨ti, hti, htb⟩ := bytesT_run hby w
    have hmul : (n : Int) * by_ ≤ 2 ^ 48 := by
      have : n * by_ ≤ 65536 * 65536 := Nat.mul_le_mul hn hb
      have h' : ((n * by_ : Nat) : Int) ≤ ((65536 * 65536 : Nat) : Int) := by exact_mod_cast this
      simp only [Int.natCast_mul] at h'
      omega
    have q1 : ¬ ((n : Int) < 0) := by omega
    have q2 : ¬ ((n : Int) * (ti.bytes : Int) > 2 ^ 48) := by rw [htb]; omega
    split
    · simp only [Sem.run_pure, Result.andThen_ok, if_true, Sem.run_bind, asInt, asIntOf, hwn, if_neg q1, hti, if_neg q2, Int.toNat_natCast, if_pos hroom, Bool.not_true, Bool.false_eq_true, if_false, hc']
      cases a with
      | none =>
        simp only [Sem.run_pure, Result.ok.injEq, true_and] at hst
        subst hst
        rfl
      | some a => simp only [Sem.run_bind, hst, Result.andThen_ok, Sem.run_pure]
    · rename_i hni
      cases d <;> first | (exact absurd rfl (hni _)) | (simp [isIntD] at hd)

/-- An append where there is none: a new row. -/
theorem append_full {ts : Array TypeId} {T t elem : TypeId} {vs : Array Value} {x : Value} {a : Option Addr} {len c sz n by_ : Nat} {l : List AV} {old zs : Array Value} (ht : ts[0]? = some t) (hu : P.underlying t = some (.slice elem))
    (v0 : vs[0]? = some (.slice a len c)) (v1 : vs[1]? = some x) (hs : sizeT P elem = some sz) (hby : bytesT P elem = some by_) (hb : by_ ≤ 65536) (htk : TakenR P φ w ts elem sz n l x) (hroom : c < len + n) (hmax : len + n ≤ 65536)
    {vz : Value} (hz : ∀ w, (zeroValue elem).run P w = .ok vz w) (hold : ∀ w', w'.heap = w.heap → (Builtin.firstCells sz len (.slice a len c)).run P w' = .ok old w') (hzs : zs = vz.cells) :
    ∃ (cs : Array Value) (newCap : Nat), len + n ≤ newCap ∧ VRs φ l cs.toList ∧ l.length = n * sz ∧
      (Builtin.append_ ts T vs).run P w = .ok (.slice (some ⟨w.heap.size, 0, none⟩) (len + n) newCap) (w.drew.alloc (.cells (old ++ cs ++ Builtin.zeroCells zs (newCap - (len + n))) elem (0, 0))) := by
  obtain ⟨xt, d, cs, t1, tu, h1, h2, h3⟩ := htk
  subst hzs
  refine ⟨cs, (Question.appendCap (len + n) c elem).cut (w.tape w.drawn (.appendCap (len + n) c elem)), ?_, h1, h2, ?_⟩
  · simp only [Question.cut]; omega
  have hno : ¬ (len + n ≤ c) := by omega
  obtain ⟨ti, hti, htb⟩ := bytesT_run hby w
  have hbig : ¬ (((len + n : Nat) : Int) > IntKind.i64.max) := by
    have : IntKind.i64.max = 9223372036854775807 := by rfl
    rw [this]; omega
  have hcap : ¬ (Builtin.nextslicecap (len + n) c * ti.bytes > 2 ^ 48) := by
    have h4 := nextcap_le hroom
    have h5 : Builtin.nextslicecap (len + n) c * ti.bytes ≤ 200000 * 65536 := Nat.mul_le_mul (by omega) (by omega)
    omega
  have hti' : ∀ w', (typeInfo elem).run P w' = .ok ti w' := by
    intro w'
    cases hq : P.info? elem with
    | none => simp [bytesT, hq] at hby
    | some i =>
      have := run_typeInfo w hq
      rw [hti] at this; cases this
      exact run_typeInfo w' hq
  have hforced : (Question.appendCap (len + n) c elem).forced = false := rfl
  have hold' := hold w.drew rfl
  unfold Builtin.append_
  simp only [ht, v0, v1, Sem.run_bind, run_underlying hu w, Result.andThen_ok, sizeT_run hs w, t1, run_underlying tu w]
  rcases h3 with ⟨hd, hn, hc⟩ | ⟨hd, rfl, hn, hc⟩
  · have hc' := hc w.drew rfl
    split
    · simp [isIntD] at hd
    · simp only [Sem.run_pure, Result.andThen_ok, Bool.false_eq_true, if_false, Sem.run_bind, hn w, if_neg hno, Bool.not_false, if_true]
      simp only [hti', Result.andThen_ok]
      rw [if_neg (fun h => hbig h.1)]
      simp only [Sem.run_bind, hti', Result.andThen_ok, if_neg hcap, run_choose_drew, hforced, Bool.false_eq_true, if_false, run_askRoom, hold', hc', hz, newRow, alloc_run, Sem.run_pure]
      rfl
  · have hc' := hc w.drew
    have hwn : IntKind.i64.wrap (n : Int) = n := IntWalk.i64_in _ (by omega)
    have hmul : (n : Int) * by_ ≤ 2 ^ 48 := by
      have : n * by_ ≤ 65536 * 65536 := Nat.mul_le_mul hn hb
      have h' : ((n * by_ : Nat) : Int) ≤ ((65536 * 65536 : Nat) : Int) := by exact_mod_cast this
      simp only [Int.natCast_mul] at h'
      omega
    have q1 : ¬ ((n : Int) < 0) := by omega
    have q2 : ¬ ((n : Int) * (ti.bytes : Int) > 2 ^ 48) := by rw [htb]; omega
    split
    · simp only [Sem.run_pure, Result.andThen_ok, if_true, Sem.run_bind, asInt, asIntOf, hwn, if_neg q1, hti, if_neg q2, Int.toNat_natCast, if_neg hno, Bool.not_true, Bool.false_eq_true, if_false]
      rw [if_neg (fun h => hbig h.1)]
      simp only [Sem.run_bind, hti', Result.andThen_ok, if_neg hcap, run_choose_drew, hforced, Bool.false_eq_true, if_false, run_askRoom, hold', hc', hz, newRow, alloc_run, Sem.run_pure]
      rfl
    · rename_i hni
      cases d <;> first | (exact absurd rfl (hni _)) | (simp [isIntD] at hd)
end
end Go.Ev
