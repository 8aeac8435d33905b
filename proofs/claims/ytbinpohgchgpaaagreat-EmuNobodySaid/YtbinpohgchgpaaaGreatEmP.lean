/- 'EmuNobody' returns true for all arguments: joined. -/
import Derived.Test.YtbinpohgchgpaaaGreatEmL
import Derived.Test.YtbinpohgchgpaaaGreatEmF
namespace Go.Ev
open Go.Proofs Go.ChangeShapes Go.WideShapes Go.ChangeAt Go.RowKit

theorem cell_opq {P : Program} {w : World} {r : Reach} {base : Nat} {t : TypeId} {v : Value} (h : Cell.okWide P w r base t v) : Opq v := by
  cases v <;> first
    | exact ⟨rfl, rfl⟩
    | (exfalso
       unfold Cell.okWide at h
       split at h <;> first
         | (rename_i h1 h2; cases h2; done)
         | (unfold Cell.ok at h
            split at h <;> first
              | (rename_i h1 h2; cases h2; done)
              | exact h))

theorem Keep.below {w w' : World} (h : Keep w.heap.size w w') : Below w.heap.size w w' :=
  ⟨h.2.2.1, h.2.2.2.1, h.2.2.2.2, h.1, h.2.1⟩

theorem empty_WR (w : World) : WR (fun _ => none) w.heap.size ⟨.nil, 0⟩ w :=
  ⟨(fun i ob e h => by cases h), (fun i _ ob _ e _ h => by cases h), (fun i e h => by cases h), (fun i ob h => by cases h)⟩

theorem size28 : Tryz.prog.cellsOf 28 = 9 := by kernel_rfl

set_option maxRecDepth 100000 in
/-- A block: so many cells. -/
theorem open_block {W : World} {base : Nat} {v : Value} (h : Value.okWide Tryz.prog W .any base 28 v) :
    ∃ (c1 c2 c3 c4 c5 c6 c7 c8 c9 : Value), v = .agg #[c1, c2, c3, c4, c5, c6, c7, c8, c9] ∧ Opq c1 ∧ Opq c2 ∧ Opq c3 ∧ Opq c4 ∧ Opq c5 ∧ Opq c6 ∧ Opq c7 ∧ Opq c8 ∧ Opq c9 := by
  unfold Value.okWide at h
  rw [Tryz.underlying28] at h
  obtain ⟨cs, rfl, hsz, ts, hts, _, hall⟩ := h
  rw [size28] at hsz
  have hq : ∀ (i : Nat) (v : Value), cs[i]? = some v → Opq v := fun i v hv => by
    obtain ⟨u, _, hu⟩ := hall i v hv
    exact cell_opq hu
  obtain ⟨l⟩ := cs
  match l, hsz with
  | [a1, a2, a3, a4, a5, a6, a7, a8, a9], _ => exact ⟨a1, a2, a3, a4, a5, a6, a7, a8, a9, rfl, hq 0 _ rfl, hq 1 _ rfl, hq 2 _ rfl, hq 3 _ rfl, hq 4 _ rfl, hq 5 _ rfl, hq 6 _ rfl, hq 7 _ rfl, hq 8 _ rfl⟩

/-- The law's function, called in any world. -/
theorem nobody_calls (n k : Int) (c1 c2 c3 c4 c5 c6 c7 c8 c9 : Value) (h1 : Opq c1) (h2 : Opq c2) (h3 : Opq c3) (h4 : Opq c4) (h5 : Opq c5) (h6 : Opq c6) (h7 : Opq c7) (h8 : Opq c8) (h9 : Opq c9) (w : World) :
    Calls Tryz.prog 3 #[.int .i64 n, .agg #[c1, c2, c3, c4, c5, c6, c7, c8, c9], .int .i64 k] w fun e w' => e = .returned (.bool true) ∧ Below w.heap.size w w' := by
  have hr : VRs (fun _ => none) [.opq c1, .opq c2, .opq c3, .opq c4, .opq c5, .opq c6, .opq c7, .opq c8, .opq c9] [c1, c2, c3, c4, c5, c6, c7, c8, c9] := VRs_cons.2 ⟨⟨rfl, h1⟩, VRs_cons.2 ⟨⟨rfl, h2⟩, VRs_cons.2 ⟨⟨rfl, h3⟩, VRs_cons.2 ⟨⟨rfl, h4⟩, VRs_cons.2 ⟨⟨rfl, h5⟩, VRs_cons.2 ⟨⟨rfl, h6⟩, VRs_cons.2 ⟨⟨rfl, h7⟩, VRs_cons.2 ⟨⟨rfl, h8⟩, VRs_cons.2 ⟨⟨rfl, h9⟩, VRs_nil⟩⟩⟩⟩⟩⟩⟩⟩⟩
  have key : ∀ a : AV, VR (fun _ => none) a (.int .i64 n) → isTrueR (evalF Tryz.prog knownLaw 1000000 3 (lawArgs a c1 c2 c3 c4 c5 c6 c7 c8 c9 (.int .i64 k)) ⟨.nil, 0⟩) = true →
      Calls Tryz.prog 3 #[.int .i64 n, .agg #[c1, c2, c3, c4, c5, c6, c7, c8, c9], .int .i64 k] w fun e w' => e = .returned (.bool true) ∧ Below w.heap.size w w' := by
    intro a ha hrun
    obtain ⟨up, H, h⟩ := isTrueR_some hrun
    rw [evalF_eq] at h
    have hargs : VRs (fun _ => none) (lawArgs a c1 c2 c3 c4 c5 c6 c7 c8 c9 (.int .i64 k)) (#[Value.int .i64 n, .agg #[c1, c2, c3, c4, c5, c6, c7, c8, c9], .int .i64 k] : Array Value).toList :=
      VRs_cons.2 ⟨ha, VRs_cons.2 ⟨⟨_, rfl, hr⟩, VRs_cons.2 ⟨⟨rfl, rfl, rfl⟩, VRs_nil⟩⟩⟩
    refine (eval_calls mixed knownLaw_ok h hargs (empty_WR w) (Nat.le_refl _)).mono fun e w' ⟨φ', he, _, _, hk⟩ => ?_
    obtain ⟨v', rfl, hv⟩ := he
    simp only [VR] at hv
    subst hv
    exact ⟨rfl, hk.below⟩
  by_cases h1 : n ≤ 0
  · exact key (.opqi .i64 n [] none (some 0)) ⟨rfl, by simp, by simp, by simpa using h1⟩ (runLow n c1 c2 c3 c4 c5 c6 c7 c8 c9 _)
  by_cases h2 : n = 1
  · subst h2; exact key (.int .i64 1) rfl (runOne c1 c2 c3 c4 c5 c6 c7 c8 c9 _)
  by_cases h3 : n ≤ 1048575
  · exact key (.opqi .i64 n [] (some 2) (some 1048575)) ⟨rfl, by simp, by simp; omega, by simpa using h3⟩ (runMid n c1 c2 c3 c4 c5 c6 c7 c8 c9 _)
  by_cases h4 : n = 1048576
  · subst h4; exact key (.int .i64 1048576) rfl (runTop c1 c2 c3 c4 c5 c6 c7 c8 c9 _)
  exact key (.opqi .i64 n [] (some 1048577) none) ⟨rfl, by simp, by simp; omega, by simp⟩ (runHigh n c1 c2 c3 c4 c5 c6 c7 c8 c9 _)
end Go.Ev

namespace Go.Proofs.YtbinpohgchgpaaaGreat
open Go.ChangeShapes Go.WideShapes Go.ChangeAt Go.RowKit

theorem Tryz.own : ownKnob Tryz.prog.godebug = none := by kernel_rfl

set_option maxRecDepth 100000 in
theorem emuNobody_lifted (os : Os) (started : os.Started) (H : Type) (enc : TypeId × Value → H) :
    ReturnsInHanded {} Tryz.checked os 3 .any (Rows.emuNobodySpec.pre6 enc Tryz.prog Tryz.f3 Rows.emuNobodyRow.domain false) (Rows.emuNobodySpec.post enc Tryz.prog Tryz.f3 false true false false) := by
  refine returnsInHanded_of_change (C := Tryz.checked) Tryz.own started (by as_aux_lemma => kernel_rfl) Tryz.func3
    (ChangeSpec.witness6 (enc := enc) (C := Tryz.checked) false ⟨#[], #[.int .i64 0, .agg #[.int .i64 0, .string ⟨#[]⟩, .int .i64 0, .int .i64 0, .int .i64 0, .int .i64 0, .string ⟨#[]⟩, .int .i64 0, .slice none 0 0], .int .i64 0], []⟩ 8 (by as_aux_lemma => kernel_rfl) (by as_aux_lemma => kernel_rfl) (by as_aux_lemma => kernel_rfl) (by as_aux_lemma => kernel_rfl)) ?_
  intro W base args ds gs before hval0 hW hcnd _
  have hval : ∀ (j : Nat) t v, Tryz.f3.params[j]? = some t → args[j]? = some v → Value.okWide Tryz.prog W .any base t v := hval0
  have hW' := hW
  obtain ⟨p, q, hA0, hV, rfl, hfz, hnd⟩ := hW
  have hA : DataW.TrodAll enc Tryz.prog W 0 (fun _ => true) true Tryz.f3.params.toList args.toList ds p := hA0
  rw [Tryz.params3] at hA hval
  obtain ⟨v0, v1, v2, d0, d1, d2, p0, p1, p2, rfl, rfl, rfl, h0, h1, h2⟩ := trodAll_three hA
  obtain ⟨rfl, rfl⟩ := trodVars_none hV
  have ok0 := hval 0 3 v0 rfl rfl
  have ok1 := hval 1 28 v1 rfl rfl
  have ok2 := hval 2 3 v2 rfl rfl
  clear hA0 hval0
  simp only [List.append_nil, List.append_assoc] at hW'
  have hlt : ∀ x ∈ p0 ++ (p1 ++ p2), x.block < W.heap.size := fun x hx => by simpa using hW'.lt x hx
  have g0 : ∀ (W' : World), Below W.heap.size W W' → DataW.Trod enc Tryz.prog W' 0 (fun b => decide (b < W.heap.size)) true 3 v0 d0 p0 :=
    fun W' hn => Below.trod Tryz.laidOut (by as_aux_lemma => kernel_rfl) (of_decide_eq_true (by as_aux_lemma => kernel_rfl)) h0 hn (fun x hx => hlt x (by simp [hx]))
  have g1 : ∀ (W' : World), Below W.heap.size W W' → DataW.Trod enc Tryz.prog W' 0 (fun b => decide (b < W.heap.size)) true 28 v1 d1 p1 :=
    fun W' hn => Below.trod Tryz.laidOut (by as_aux_lemma => kernel_rfl) (of_decide_eq_true (by as_aux_lemma => kernel_rfl)) h1 hn (fun x hx => hlt x (by simp [hx]))
  have g2 : ∀ (W' : World), Below W.heap.size W W' → DataW.Trod enc Tryz.prog W' 0 (fun b => decide (b < W.heap.size)) true 3 v2 d2 p2 :=
    fun W' hn => Below.trod Tryz.laidOut (by as_aux_lemma => kernel_rfl) (of_decide_eq_true (by as_aux_lemma => kernel_rfl)) h2 hn (fun x hx => hlt x (by simp [hx]))
  obtain ⟨n, rfl⟩ := okWide_int Tryz.underlying3 ok0
  obtain ⟨k, rfl⟩ := okWide_int Tryz.underlying3 ok2
  obtain ⟨c1, c2, c3, c4, c5, c6, c7, c8, c9, rfl, o1, o2, o3, o4, o5, o6, o7, o8, o9⟩ := Go.Ev.open_block ok1
  refine (Go.Ev.nobody_calls n k c1 c2 c3 c4 c5 c6 c7 c8 c9 o1 o2 o3 o4 o5 o6 o7 o8 o9 W).mono fun e W' ⟨he, hw⟩ => ?_
  subst he
  exact ⟨_, rfl, ⟨_, _, _, [], _, [], hW', trodAll_mk1 (shut_bool Tryz.underlying4 true), trodAll_mk3 (g0 _ hw) (g1 _ hw) (g2 _ hw), rfl, hw.frame _, fun h => by cases h⟩⟩

end Go.Proofs.YtbinpohgchgpaaaGreat
