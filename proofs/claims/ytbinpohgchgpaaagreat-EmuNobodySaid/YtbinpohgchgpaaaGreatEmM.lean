/- The program's word on orders of evaluation. -/
import Derived.Test.YtbinpohgchgpaaaGreatEmE
import Derived.Test.YtbinpohgchgpaaaGreatProg
import Derived.KernelRfl
namespace Go.Ev
open Go.Proofs
theorem mixed : Tryz.prog.follows .mixedOrders = true := by kernel_rfl
end Go.Ev
