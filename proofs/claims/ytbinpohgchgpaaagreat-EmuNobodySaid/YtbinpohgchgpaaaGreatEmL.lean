/- The runs of the law's function, for each range of its first argument. -/
import Derived.Test.YtbinpohgchgpaaaGreatEmA
namespace Go.Ev
open Go.Proofs
set_option maxRecDepth 100000

/-- The arguments: a number, a block whose cells are kept and never looked into, a number that is never looked into. -/
abbrev lawArgs (a : AV) (c1 c2 c3 c4 c5 c6 c7 c8 c9 k : Value) : List AV := [a, .agg [.opq c1, .opq c2, .opq c3, .opq c4, .opq c5, .opq c6, .opq c7, .opq c8, .opq c9], .opq k]

theorem runLow (n : Int) (c1 c2 c3 c4 c5 c6 c7 c8 c9 k : Value) : isTrueR (evalF Tryz.prog knownLaw 1000000 3 (lawArgs (.opqi .i64 n [] none (some 0)) c1 c2 c3 c4 c5 c6 c7 c8 c9 k) ⟨.nil, 0⟩) = true := by kernel_rfl
theorem runOne (c1 c2 c3 c4 c5 c6 c7 c8 c9 k : Value) : isTrueR (evalF Tryz.prog knownLaw 1000000 3 (lawArgs (.int .i64 1) c1 c2 c3 c4 c5 c6 c7 c8 c9 k) ⟨.nil, 0⟩) = true := by kernel_rfl
theorem runMid (n : Int) (c1 c2 c3 c4 c5 c6 c7 c8 c9 k : Value) : isTrueR (evalF Tryz.prog knownLaw 1000000 3 (lawArgs (.opqi .i64 n [] (some 2) (some 1048575)) c1 c2 c3 c4 c5 c6 c7 c8 c9 k) ⟨.nil, 0⟩) = true := by kernel_rfl
theorem runTop (c1 c2 c3 c4 c5 c6 c7 c8 c9 k : Value) : isTrueR (evalF Tryz.prog knownLaw 1000000 3 (lawArgs (.int .i64 1048576) c1 c2 c3 c4 c5 c6 c7 c8 c9 k) ⟨.nil, 0⟩) = true := by kernel_rfl
theorem runHigh (n : Int) (c1 c2 c3 c4 c5 c6 c7 c8 c9 k : Value) : isTrueR (evalF Tryz.prog knownLaw 1000000 3 (lawArgs (.opqi .i64 n [] (some 1048577) none) c1 c2 c3 c4 c5 c6 c7 c8 c9 k) ⟨.nil, 0⟩) = true := by kernel_rfl

end Go.Ev
