/- Part of a proof of ClauseCompiles. -/
import Derived.Test.YtanclcoobcaemaaGreatA4
import Derived.Test.YtanclcoobcaemaaGreatProg
import Derived.KernelRfl
set_option linter.all false
set_option linter.unusedSectionVars false
namespace Go.Cl
open Go.Ev Go.Proofs
variable[Ro]
def agN:Option gh->Bool
 |some ⟨.gy (.aA b),none,_⟩=>b
 |_=>false
set_option maxRecDepth 1000000 in
theorem aim:agN (SB Tryz.prog ad6 1000000 6 [] ⟨.gB,0⟩)=true:=by kernel_rfl
end Go.Cl
