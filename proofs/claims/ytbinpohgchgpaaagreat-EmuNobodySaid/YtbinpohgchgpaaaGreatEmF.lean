/- The row's closed facts, in parts: each a theorem of its own, so that the kernel gives its memory back. -/
import Derived.Test.YtbinpohgchgpaaaGreatRows
import Derived.ProofKit
namespace Go.Proofs.YtbinpohgchgpaaaGreat
open Go.ChangeShapes Go.WideShapes Go.ChangeAt Go.RowKit

theorem Tryz.laidOut : laidOutB Tryz.prog = true := by kernel_rfl
theorem fact1 : Rows.emuNobodyRow.wf (OpenSpec.ofChange Rows.emuNobodySpec) = true := by kernel_rfl
theorem fact2 : mapsRowed Tryz.prog = true := by kernel_rfl
theorem fact3 : (Rows.emuNobodyRow.inPlace == Tryz.prog.inPlace 3) = true := by kernel_rfl
theorem fact4 : (Rows.emuNobodyRow.unfollowed == Tryz.prog.unfollowed 3) = true := by kernel_rfl
theorem fact5 : (Rows.emuNobodyRow.recurses == Tryz.prog.recurses 3) = true := by kernel_rfl
theorem fact6 : (Rows.emuNobodyRow.named == Tryz.prog.varsNamed 3) = true := by kernel_rfl
theorem fact7 : (Rows.emuNobodyRow.plainKeys == Tryz.prog.plainKeys) = true := by kernel_rfl
theorem fact8 : Tryz.prog.stopsHeard = true := by kernel_rfl
theorem fact9 : Tryz.prog.mayEnter = true := by kernel_rfl

theorem facts : joinedFacts Tryz.prog 3 Tryz.f3 Rows.emuNobodySpec Rows.emuNobodyRow = true := by
  unfold joinedFacts
  rw [Tryz.laidOut, fact1, fact2, fact3, fact4, fact5, fact6, fact7, fact8, fact9]
  kernel_rfl
end Go.Proofs.YtbinpohgchgpaaaGreat
