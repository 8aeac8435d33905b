/- Part of a proof of ClauseValid. -/
import Derived.Test.YtanclcoobcaemaaGreatVA4
import Derived.Test.YtanclcoobcaemaaGreatProg
import Derived.KernelRfl
set_option linter.all false
set_option linter.unusedSectionVars false
namespace Go.Cl
open Go.Ev Go.Proofs
def ag6:Option fM->Bool
 |some ⟨.fQ (.ai b),none,_⟩=>b
 |_=>false
set_option maxRecDepth 1000000 in
theorem aiB:ag6 (RA Tryz.prog adK 1000000 6 [] ⟨.fL,0⟩)=true:=by kernel_rfl
end Go.Cl
