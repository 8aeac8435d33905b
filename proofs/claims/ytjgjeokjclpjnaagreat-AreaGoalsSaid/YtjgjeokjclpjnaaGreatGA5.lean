/- Part of a proof of AreaGoals. -/
import Derived.Test.YtjgjeokjclpjnaaGreatGA4
import Derived.Test.YtjgjeokjclpjnaaGreatProg
import Derived.KernelRfl
set_option linter.all false
set_option linter.unusedSectionVars false
namespace Go.Cl
open Go.Ev Go.Proofs
def aoc:Option l6->Bool
 |some ⟨.gG (.au b),none,⟨_,_,none⟩⟩=>b
 |_=>false
set_option maxRecDepth 1000000 in
theorem atj:aoc (eval Tryz.prog Ny 1000000 9 [] ⟨.il,0,none⟩)=true:=by kernel_rfl
end Go.Cl
