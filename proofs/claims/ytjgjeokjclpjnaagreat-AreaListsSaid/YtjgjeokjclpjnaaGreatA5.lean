/- Part of a proof of AreaLists. -/
import Derived.Test.YtjgjeokjclpjnaaGreatA4
import Derived.Test.YtjgjeokjclpjnaaGreatProg
import Derived.KernelRfl
set_option linter.all false
set_option linter.unusedSectionVars false
namespace Go.Cl
open Go.Ev Go.Proofs
def ama:Option lJ->Bool
 |some ⟨.gk (.ao b),none,⟨_,_,none⟩⟩=>b
 |_=>false
set_option maxRecDepth 1000000 in
theorem aqR:ama (eval Tryz.prog Mx 1000000 9 [] ⟨.gZ,0,none⟩)=true:=by kernel_rfl
end Go.Cl
