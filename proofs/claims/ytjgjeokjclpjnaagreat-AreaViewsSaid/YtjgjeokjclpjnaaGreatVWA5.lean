/- Part of a proof of AreaViews. -/
import Derived.Test.YtjgjeokjclpjnaaGreatVWA4
import Derived.Test.YtjgjeokjclpjnaaGreatProg
import Derived.KernelRfl
set_option linter.all false
set_option linter.unusedSectionVars false
namespace Go.Cl
open Go.Ev Go.Proofs
def auz:Option mL->Bool
 |some ⟨.gJ (.ai b),none,⟨_,_,none⟩⟩=>b
 |_=>false
set_option maxRecDepth 1000000 in
theorem aAP:auz (eval Tryz.prog RQ 1000000 9 [] ⟨.iq,0,none⟩)=true:=by kernel_rfl
end Go.Cl
