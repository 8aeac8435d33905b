/-
  NARROWER THAN 'FOR EVERY INPUT', by the rows' own cells (each row's printed sentence says how): AreaLists: loops · AreaViews: loops · AreaGoals: loops.
  DERIVED. THE GIVEN ROWS OF THIS SEAT. 3 by the template 'for every input the law returns true; each argument reads behind the call as it read before'; 0 by the template 'total and deterministic' (their statements: YtjgjeokjclpjnaaGreatTotals.lean).
  GIVEN WITH THE SEED: the statements are not yours to turn. If you find one false, say at which input.
  Laid BY PROGRAM, IN A SANDBOX (cutbox-rows.mjs): the forced cells as the released guide's own fill.sh prints them over the translation 75da994a1ae99c1e… (all of the seat's roots in one cut). By AI agents, Wed Nov 11 2026. No macro, syntax, notation, axiom, sorry.
-/
import Derived.Test.YtjgjeokjclpjnaaGreatChecked
import GoSem.Claim
import GoSem.ClaimJoined
import GoSem.ClaimMapViews
import Derived.JoinedTies
import Derived.KernelRfl
namespace Go.Proofs.YtjgjeokjclpjnaaGreat
/- THE CELL 'sum', in the pinned program and in every row, IS THE sha256 OF THE DUMP (.gsa) THAT YtjgjeokjclpjnaaGreatProg.lean LOADS. Nothing in Lean hashes anything: it is a label: what it is worth is what the hold of that sum in a sandbox is worth. -/
noncomputable def Tryz.pinned : Pinned := { name := "ytjgjeokjclpjnaagreat", sum := "75da994a1ae99c1e9dc29cf23eda237fb48eebe2dcb85b3aaaea97960884d77a", checked := Tryz.checked }
namespace Rows
def none {H : Type} : Left H := { results := [], args := [] }

/-- 'hornbeamlaw37.AreaLists': WHATEVER THE INPUT: true; the input reads as it did. -/
def areaListsSpec : ChangeSpec := { name := "areaLists", fn := fun _ => fun
  | [d1, d2] => { results := [.lit (.bool true)], args := [d1, d2] }
  | _ => none }
def areaListsRow : OpenClaim := { program := "ytjgjeokjclpjnaagreat", sum := "75da994a1ae99c1e9dc29cf23eda237fb48eebe2dcb85b3aaaea97960884d77a", func := "hornbeam/hornbeamlaw37.AreaLists", spec := "areaLists", unfollowed := true, recurses := true, loops := true, plainKeys := false, apart := false }
def AreaListsSaid : Prop := areaListsRow.holds Tryz.pinned (OpenSpec.ofChange areaListsSpec)

/-- ITS FALSE NEIGHBOUR: 'it returns false'. Refute it at one input. -/
def areaListsWrong : ChangeSpec := { name := "areaLists", fn := fun _ => fun
  | [d1, d2] => { results := [.lit (.bool false)], args := [d1, d2] }
  | _ => none }
def AreaListsWrongFalsely : Prop := areaListsRow.holds Tryz.pinned (OpenSpec.ofChange areaListsWrong)

/-- 'hornbeamlaw37.AreaViews': WHATEVER THE INPUT: true; the input reads as it did. -/
def areaViewsSpec : ChangeSpec := { name := "areaViews", fn := fun _ => fun
  | [d1, d2, d3] => { results := [.lit (.bool true)], args := [d1, d2, d3] }
  | _ => none }
def areaViewsRow : OpenClaim := { program := "ytjgjeokjclpjnaagreat", sum := "75da994a1ae99c1e9dc29cf23eda237fb48eebe2dcb85b3aaaea97960884d77a", func := "hornbeam/hornbeamlaw37.AreaViews", spec := "areaViews", unfollowed := true, recurses := true, loops := true, plainKeys := false, apart := false }
def AreaViewsSaid : Prop := areaViewsRow.holds Tryz.pinned (OpenSpec.ofChange areaViewsSpec)

/-- ITS FALSE NEIGHBOUR: 'it returns false'. Refute it at one input. -/
def areaViewsWrong : ChangeSpec := { name := "areaViews", fn := fun _ => fun
  | [d1, d2, d3] => { results := [.lit (.bool false)], args := [d1, d2, d3] }
  | _ => none }
def AreaViewsWrongFalsely : Prop := areaViewsRow.holds Tryz.pinned (OpenSpec.ofChange areaViewsWrong)

/-- 'hornbeamlaw37.AreaGoals': WHATEVER THE INPUT: true; the input reads as it did. -/
def areaGoalsSpec : ChangeSpec := { name := "areaGoals", fn := fun _ => fun
  | [d1, d2, d3] => { results := [.lit (.bool true)], args := [d1, d2, d3] }
  | _ => none }
def areaGoalsRow : OpenClaim := { program := "ytjgjeokjclpjnaagreat", sum := "75da994a1ae99c1e9dc29cf23eda237fb48eebe2dcb85b3aaaea97960884d77a", func := "hornbeam/hornbeamlaw37.AreaGoals", spec := "areaGoals", unfollowed := true, recurses := true, loops := true, plainKeys := false, apart := false }
def AreaGoalsSaid : Prop := areaGoalsRow.holds Tryz.pinned (OpenSpec.ofChange areaGoalsSpec)

/-- ITS FALSE NEIGHBOUR: 'it returns false'. Refute it at one input. -/
def areaGoalsWrong : ChangeSpec := { name := "areaGoals", fn := fun _ => fun
  | [d1, d2, d3] => { results := [.lit (.bool false)], args := [d1, d2, d3] }
  | _ => none }
def AreaGoalsWrongFalsely : Prop := areaGoalsRow.holds Tryz.pinned (OpenSpec.ofChange areaGoalsWrong)

/- THE SECOND FORM. 'bulk': how many values and letters a reading holds, each counted each time it is reached (what is shared counts as often as it is met; a slice's spare places count too). A statement '..UptoSaid' is the law's where the arguments, and the package variables that the reading takes, are together of bulk at most 1048576: NARROWER than '..Said'. Prove '..Said' where nothing that the law and all that it calls make is longer than what came in: it says more and counts as full. Else prove '..UptoSaid'. A law counts once. -/
mutual
def uptoBulk {H : Type} : DataW H → Nat
  | .lit (.string bytes) => bytes.length + 1
  | .lit _ => 1
  | .nil => 1
  | .ptr d => uptoBulk d + 1
  | .slice elems spare => uptoBulkAll elems + uptoBulkAll spare + 1
  | .agg parts => uptoBulkAll parts + 1
  | .iface _ d => uptoBulk d + 1
  | .map entries => uptoBulkEntries entries + 1
  | .held _ => 1
def uptoBulkAll {H : Type} : List (DataW H) → Nat
  | [] => 0
  | d :: r => uptoBulk d + uptoBulkAll r
def uptoBulkEntries {H : Type} : List (Lit × DataW H) → Nat
  | [] => 0
  | x :: r => uptoBulkEntry x + uptoBulkEntries r
def uptoBulkEntry {H : Type} : Lit × DataW H → Nat
  | (.string bytes, d) => bytes.length + uptoBulk d + 1
  | (_, d) => uptoBulk d + 1
 end
def uptoSmall : (H : Type) → List (DataW H) → Bool := fun _ ds => decide (uptoBulkAll ds ≤ 1048576)
def OpenSpec.upto (s : _root_.Go.ChangeSpec) : _root_.Go.OpenSpec := { _root_.Go.OpenSpec.ofChange s with cond := some uptoSmall }

/-- 'hornbeamlaw37.AreaLists', WHERE WHAT IT READS IS OF BULK AT MOST 1048576: true; the input reads as it did. -/
def areaListsUptoRow : OpenClaim := { program := "ytjgjeokjclpjnaagreat", sum := "75da994a1ae99c1e9dc29cf23eda237fb48eebe2dcb85b3aaaea97960884d77a", func := "hornbeam/hornbeamlaw37.AreaLists", spec := "areaLists", unfollowed := true, recurses := true, loops := true, plainKeys := false, apart := false, narrowed := true }
def AreaListsUptoSaid : Prop := areaListsUptoRow.holds Tryz.pinned (OpenSpec.upto areaListsSpec)

/-- 'hornbeamlaw37.AreaViews', WHERE WHAT IT READS IS OF BULK AT MOST 1048576: true; the input reads as it did. -/
def areaViewsUptoRow : OpenClaim := { program := "ytjgjeokjclpjnaagreat", sum := "75da994a1ae99c1e9dc29cf23eda237fb48eebe2dcb85b3aaaea97960884d77a", func := "hornbeam/hornbeamlaw37.AreaViews", spec := "areaViews", unfollowed := true, recurses := true, loops := true, plainKeys := false, apart := false, narrowed := true }
def AreaViewsUptoSaid : Prop := areaViewsUptoRow.holds Tryz.pinned (OpenSpec.upto areaViewsSpec)

/-- 'hornbeamlaw37.AreaGoals', WHERE WHAT IT READS IS OF BULK AT MOST 1048576: true; the input reads as it did. -/
def areaGoalsUptoRow : OpenClaim := { program := "ytjgjeokjclpjnaagreat", sum := "75da994a1ae99c1e9dc29cf23eda237fb48eebe2dcb85b3aaaea97960884d77a", func := "hornbeam/hornbeamlaw37.AreaGoals", spec := "areaGoals", unfollowed := true, recurses := true, loops := true, plainKeys := false, apart := false, narrowed := true }
def AreaGoalsUptoSaid : Prop := areaGoalsUptoRow.holds Tryz.pinned (OpenSpec.upto areaGoalsSpec)

end Rows
end Go.Proofs.YtjgjeokjclpjnaaGreat
