/- 'hornbeamlaw36.EmuNobody' returns true for all arguments, and they read afterwards as they read before. The row's own cells are its only conditions. -/
import Derived.Test.YtbinpohgchgpaaaGreatEmP
namespace Go.Proofs.YtbinpohgchgpaaaGreat
open Go.ChangeShapes Go.WideShapes Go.ChangeAt Go.RowKit

theorem emuNobody_holds : Rows.EmuNobodySaid :=
  OpenClaim.holds_of_wide 3 Tryz.f3 rfl rfl rfl rfl rfl rfl rfl ⟨rfl, rfl, rfl, rfl, rfl⟩ rfl rfl rfl rfl rfl (by kernel_rfl) Tryz.func3 facts
    (of_decide_eq_true (by kernel_rfl)) (by unfold Func.isWrapper; rw [if_neg (by decide +kernel)]; exact ⟨rfl, rfl⟩)
    (fun os started H enc _ => emuNobody_lifted os started H enc)
#print axioms emuNobody_holds
end Go.Proofs.YtbinpohgchgpaaaGreat
