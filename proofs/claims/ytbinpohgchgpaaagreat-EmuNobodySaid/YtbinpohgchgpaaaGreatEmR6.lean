/- Runs of calls that are known. -/
import Derived.Test.YtbinpohgchgpaaaGreatEmM
import Derived.Test.YtbinpohgchgpaaaGreatProg
import Derived.KernelRfl
namespace Go.Ev
open Go.Proofs
noncomputable section
set_option maxRecDepth 100000

def known13 : Known := noneKnown
theorem ok13 : ent13.ok = true := by kernel_rfl
theorem run13 : explEntry Tryz.prog known13 ent13 1000000 (rhoOf fix13 bag13) = true := by kernel_rfl
theorem entry13_ok : KnownOK Tryz.prog (entryK ent13) := entry_expl mixed (K := known13) (noneKnown_ok) ok13 run13

def known14 : Known := entryK ent13
theorem ok14 : ent14.ok = true := by kernel_rfl
theorem run14 : explEntry Tryz.prog known14 ent14 1000000 (rhoOf fix14 bag14) = true := by kernel_rfl
theorem entry14_ok : KnownOK Tryz.prog (entryK ent14) := entry_expl mixed (K := known14) (entry13_ok) ok14 run14
end
end Go.Ev
