/- 'AreaNone' returns true for every call: joined. -/
import Derived.Test.YtfbmaehpieocpaaGreatAN2
import Derived.ProofKit
namespace Go.Ev
open Go.Proofs Go.ChangeShapes Go.WideShapes Go.ChangeAt Go.RowKit

theorem Keep.below {w w' : World} (h : Keep w.heap.size w w') : Below w.heap.size w w' :=
  ⟨h.2.2.1, h.2.2.2.1, h.2.2.2.2, h.1, h.2.1⟩

theorem ct53 : ∃ ts, Tryz.prog.cellTypes Tryz.prog.depth 53 = some ts ∧ ts.length = 12 ∧ ts[0]? = some 3 := by
  have h : (Tryz.prog.cellTypes Tryz.prog.depth 53).map (fun l => (l.length, l[0]?)) = some (12, some 3) := by kernel_rfl
  cases hc : Tryz.prog.cellTypes Tryz.prog.depth 53 with
  | none => rw [hc] at h; cases h
  | some ts =>
    rw [hc] at h
    simp only [Option.map_some, Option.some.injEq, Prod.mk.injEq] at h
    exact ⟨ts, rfl, h.1, h.2⟩

theorem size53 : Tryz.prog.cellsOf 53 = 12 := by kernel_rfl

theorem empty_WR (w : World) : WR (fun _ => none) w.heap.size ⟨.nil, 0⟩ w :=
  ⟨(fun i ob e h => by cases h), (fun i _ ob _ e _ h => by cases h), (fun i e h => by cases h), (fun i ob h => by cases h)⟩

set_option maxRecDepth 100000 in
/-- An Act: a number, and eleven cells more. -/
theorem open_act {W : World} {base : Nat} {v : Value} (h : Value.okWide Tryz.prog W .any base 53 v) :
    ∃ (n : Int) (c1 c2 c3 c4 c5 c6 c7 c8 c9 c10 c11 : Value), v = .agg #[.int .i64 n, c1, c2, c3, c4, c5, c6, c7, c8, c9, c10, c11] ∧ Opq c1 ∧ Opq c2 ∧ Opq c3 ∧ Opq c4 ∧ Opq c5 ∧ Opq c6 ∧ Opq c7 ∧ Opq c8 ∧ Opq c9 ∧ Opq c10 ∧ Opq c11 := by
  unfold Value.okWide at h
  rw [Tryz.underlying53] at h
  obtain ⟨cs, rfl, hsz, ts, hts, _, hall⟩ := h
  obtain ⟨ts', h1, h2, h3⟩ := ct53
  rw [h1] at hts
  obtain rfl := Option.some.inj hts
  rw [size53] at hsz
  have hq : ∀ (i : Nat) (v : Value), cs[i]? = some v → Opq v := fun i v hv => by
    obtain ⟨u, _, hu⟩ := hall i v hv
    exact cell_opq hu
  obtain ⟨l⟩ := cs
  match l, hsz with
  | [a0, a1, a2, a3, a4, a5, a6, a7, a8, a9, a10, a11], _ =>
    obtain ⟨u, hu, hc⟩ := hall 0 a0 rfl
    rw [h2] at hu
    rw [h3] at hu
    obtain rfl := Option.some.inj hu
    have hv : Value.okWide Tryz.prog W .any base 3 a0 := by
      unfold Value.okWide
      rw [Tryz.underlying3]
      exact hc
    obtain ⟨n, rfl, _⟩ := okWide_int Tryz.underlying3 hv
    exact ⟨n, a1, a2, a3, a4, a5, a6, a7, a8, a9, a10, a11, rfl, hq 1 _ rfl, hq 2 _ rfl, hq 3 _ rfl, hq 4 _ rfl, hq 5 _ rfl, hq 6 _ rfl, hq 7 _ rfl, hq 8 _ rfl, hq 9 _ rfl, hq 10 _ rfl, hq 11 _ rfl⟩

/-- The law's function, called in any world. -/
theorem none_calls (n : Int) (c1 c2 c3 c4 c5 c6 c7 c8 c9 c10 c11 : Value) (h1 : Opq c1) (h2 : Opq c2) (h3 : Opq c3) (h4 : Opq c4) (h5 : Opq c5) (h6 : Opq c6) (h7 : Opq c7) (h8 : Opq c8) (h9 : Opq c9) (h10 : Opq c10) (h11 : Opq c11) (w : World) :
    Calls Tryz.prog 5 #[.agg #[.int .i64 n, c1, c2, c3, c4, c5, c6, c7, c8, c9, c10, c11]] w fun e w' => e = .returned (.bool true) ∧ Below w.heap.size w w' := by
  have hr : VRs (fun _ => none) [.opq c1, .opq c2, .opq c3, .opq c4, .opq c5, .opq c6, .opq c7, .opq c8, .opq c9, .opq c10, .opq c11] [c1, c2, c3, c4, c5, c6, c7, c8, c9, c10, c11] := VRs_cons.2 ⟨⟨rfl, h1⟩, VRs_cons.2 ⟨⟨rfl, h2⟩, VRs_cons.2 ⟨⟨rfl, h3⟩, VRs_cons.2 ⟨⟨rfl, h4⟩, VRs_cons.2 ⟨⟨rfl, h5⟩, VRs_cons.2 ⟨⟨rfl, h6⟩, VRs_cons.2 ⟨⟨rfl, h7⟩, VRs_cons.2 ⟨⟨rfl, h8⟩, VRs_cons.2 ⟨⟨rfl, h9⟩, VRs_cons.2 ⟨⟨rfl, h10⟩, VRs_cons.2 ⟨⟨rfl, h11⟩, VRs_nil⟩⟩⟩⟩⟩⟩⟩⟩⟩⟩⟩
  have key : ∀ a : AV, VR (fun _ => none) a (.int .i64 n) → isTrueR (eval Tryz.prog 1000000 5 (actOf a c1 c2 c3 c4 c5 c6 c7 c8 c9 c10 c11) ⟨.nil, 0⟩) = true →
      Calls Tryz.prog 5 #[.agg #[.int .i64 n, c1, c2, c3, c4, c5, c6, c7, c8, c9, c10, c11]] w fun e w' => e = .returned (.bool true) ∧ Below w.heap.size w w' := by
    intro a ha hrun
    obtain ⟨up, H, h⟩ := isTrueR_some hrun
    have hargs : VRs (fun _ => none) (actOf a c1 c2 c3 c4 c5 c6 c7 c8 c9 c10 c11) (#[Value.agg #[.int .i64 n, c1, c2, c3, c4, c5, c6, c7, c8, c9, c10, c11]] : Array Value).toList :=
      ⟨_, _, rfl, ⟨_, rfl, VRs_cons.2 ⟨ha, hr⟩⟩, rfl⟩
    refine (eval_calls mixed h hargs (empty_WR w) (Nat.le_refl _)).mono fun e w' ⟨φ', he, _, _, hk⟩ => ?_
    obtain ⟨v', rfl, hv⟩ := he
    simp only [VR] at hv
    subst hv
    exact ⟨rfl, hk.below⟩
  by_cases e0 : n = 0
  · subst e0; exact key (.int .i64 0) rfl (run0 c1 c2 c3 c4 c5 c6 c7 c8 c9 c10 c11)
  by_cases e1 : n = 1
  · subst e1; exact key (.int .i64 1) rfl (run1 c1 c2 c3 c4 c5 c6 c7 c8 c9 c10 c11)
  by_cases e2 : n = 2
  · subst e2; exact key (.int .i64 2) rfl (run2 c1 c2 c3 c4 c5 c6 c7 c8 c9 c10 c11)
  by_cases e3 : n = 3
  · subst e3; exact key (.int .i64 3) rfl (run3 c1 c2 c3 c4 c5 c6 c7 c8 c9 c10 c11)
  by_cases e4 : n = 4
  · subst e4; exact key (.int .i64 4) rfl (run4 c1 c2 c3 c4 c5 c6 c7 c8 c9 c10 c11)
  by_cases e5 : n = 5
  · subst e5; exact key (.int .i64 5) rfl (run5 c1 c2 c3 c4 c5 c6 c7 c8 c9 c10 c11)
  by_cases e6 : n = 6
  · subst e6; exact key (.int .i64 6) rfl (run6 c1 c2 c3 c4 c5 c6 c7 c8 c9 c10 c11)
  exact key (.opqi .i64 n [0, 1, 2, 3, 4, 5, 6]) ⟨rfl, by simp; exact ⟨e0, e1, e2, e3, e4, e5, e6⟩⟩ (runOther n c1 c2 c3 c4 c5 c6 c7 c8 c9 c10 c11)
end Go.Ev
