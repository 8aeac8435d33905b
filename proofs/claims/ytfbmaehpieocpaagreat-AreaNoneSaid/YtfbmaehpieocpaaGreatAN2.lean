/- The runs of the law's function: one for each call that an Act can name, one for all others. -/
import Derived.Test.YtfbmaehpieocpaaGreatAN1
namespace Go.Ev
open Go.Proofs

/-- The argument's cells behind the first one: kept, never looked into. -/
abbrev actOf (a : AV) (c1 c2 c3 c4 c5 c6 c7 c8 c9 c10 c11 : Value) : List AV := [.agg [a, .opq c1, .opq c2, .opq c3, .opq c4, .opq c5, .opq c6, .opq c7, .opq c8, .opq c9, .opq c10, .opq c11]]

set_option maxRecDepth 100000 in
theorem run0 (c1 c2 c3 c4 c5 c6 c7 c8 c9 c10 c11 : Value) : isTrueR (eval Tryz.prog 1000000 5 (actOf (.int .i64 0) c1 c2 c3 c4 c5 c6 c7 c8 c9 c10 c11) ⟨.nil, 0⟩) = true := by kernel_rfl

set_option maxRecDepth 100000 in
theorem run1 (c1 c2 c3 c4 c5 c6 c7 c8 c9 c10 c11 : Value) : isTrueR (eval Tryz.prog 1000000 5 (actOf (.int .i64 1) c1 c2 c3 c4 c5 c6 c7 c8 c9 c10 c11) ⟨.nil, 0⟩) = true := by kernel_rfl

set_option maxRecDepth 100000 in
theorem run2 (c1 c2 c3 c4 c5 c6 c7 c8 c9 c10 c11 : Value) : isTrueR (eval Tryz.prog 1000000 5 (actOf (.int .i64 2) c1 c2 c3 c4 c5 c6 c7 c8 c9 c10 c11) ⟨.nil, 0⟩) = true := by kernel_rfl

set_option maxRecDepth 100000 in
theorem run3 (c1 c2 c3 c4 c5 c6 c7 c8 c9 c10 c11 : Value) : isTrueR (eval Tryz.prog 1000000 5 (actOf (.int .i64 3) c1 c2 c3 c4 c5 c6 c7 c8 c9 c10 c11) ⟨.nil, 0⟩) = true := by kernel_rfl

set_option maxRecDepth 100000 in
theorem run4 (c1 c2 c3 c4 c5 c6 c7 c8 c9 c10 c11 : Value) : isTrueR (eval Tryz.prog 1000000 5 (actOf (.int .i64 4) c1 c2 c3 c4 c5 c6 c7 c8 c9 c10 c11) ⟨.nil, 0⟩) = true := by kernel_rfl

set_option maxRecDepth 100000 in
theorem run5 (c1 c2 c3 c4 c5 c6 c7 c8 c9 c10 c11 : Value) : isTrueR (eval Tryz.prog 1000000 5 (actOf (.int .i64 5) c1 c2 c3 c4 c5 c6 c7 c8 c9 c10 c11) ⟨.nil, 0⟩) = true := by kernel_rfl

set_option maxRecDepth 100000 in
theorem run6 (c1 c2 c3 c4 c5 c6 c7 c8 c9 c10 c11 : Value) : isTrueR (eval Tryz.prog 1000000 5 (actOf (.int .i64 6) c1 c2 c3 c4 c5 c6 c7 c8 c9 c10 c11) ⟨.nil, 0⟩) = true := by kernel_rfl

set_option maxRecDepth 100000 in
theorem runOther (n : Int) (c1 c2 c3 c4 c5 c6 c7 c8 c9 c10 c11 : Value) : isTrueR (eval Tryz.prog 1000000 5 (actOf (.opqi .i64 n [0, 1, 2, 3, 4, 5, 6]) c1 c2 c3 c4 c5 c6 c7 c8 c9 c10 c11) ⟨.nil, 0⟩) = true := by kernel_rfl

end Go.Ev
