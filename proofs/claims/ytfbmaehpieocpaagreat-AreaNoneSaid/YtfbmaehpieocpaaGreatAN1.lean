/- A struct argument of plain data, opened into its cells; the runs of the law's function over them. -/
import Derived.Test.YtfbmaehpieocpaaGreatEvRun
import Derived.Test.YtfbmaehpieocpaaGreatRows
import Derived.KernelRfl
namespace Go.Ev
open Go.Proofs

theorem cell_opq {P : Program} {w : World} {r : Reach} {base : Nat} {t : TypeId} {v : Value} (h : Cell.okWide P w r base t v) : Opq v := by
  cases v <;> first
    | exact ⟨rfl, rfl⟩
    | (exfalso
       unfold Cell.okWide at h
       split at h <;> first
         | (rename_i h1 h2; cases h2; done)
         | (unfold Cell.ok at h
            split at h <;> first
              | (rename_i h1 h2; cases h2; done)
              | exact h))

def isTrueR : Option Res → Bool
  | some ⟨.ret (.bool b), _, _⟩ => b
  | _ => false

theorem isTrueR_some : ∀ {r : Option Res}, isTrueR r = true → ∃ up H, r = some ⟨.ret (.bool true), up, H⟩
  | some ⟨.ret (.bool true), up, H⟩, _ => ⟨up, H, rfl⟩
  | some ⟨.ret (.bool false), up, H⟩, h => by cases h

theorem mixed : Tryz.prog.follows .mixedOrders = true := by kernel_rfl

end Go.Ev
