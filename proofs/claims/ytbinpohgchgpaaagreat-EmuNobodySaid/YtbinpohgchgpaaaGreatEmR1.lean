/- Runs of calls that are known. -/
import Derived.Test.YtbinpohgchgpaaaGreatEmM
import Derived.Test.YtbinpohgchgpaaaGreatProg
import Derived.KernelRfl
namespace Go.Ev
open Go.Proofs
noncomputable section
set_option maxRecDepth 100000

def known0 : Known := noneKnown
theorem ok0 : ent0.ok = true := by kernel_rfl
theorem run0 : explEntry Tryz.prog known0 ent0 1000000 (rhoOf fix0 bag0) = true := by kernel_rfl
theorem entry0_ok : KnownOK Tryz.prog (entryK ent0) := entry_expl mixed (K := known0) (noneKnown_ok) ok0 run0

def known1 : Known := noneKnown
theorem ok1 : ent1.ok = true := by kernel_rfl
theorem run1 : explEntry Tryz.prog known1 ent1 1000000 (rhoOf fix1 bag1) = true := by kernel_rfl
theorem entry1_ok : KnownOK Tryz.prog (entryK ent1) := entry_expl mixed (K := known1) (noneKnown_ok) ok1 run1

def known2 : Known := noneKnown
theorem ok2 : ent2.ok = true := by kernel_rfl
theorem run2 : explEntry Tryz.prog known2 ent2 1000000 (rhoOf fix2 bag2) = true := by kernel_rfl
theorem entry2_ok : KnownOK Tryz.prog (entryK ent2) := entry_expl mixed (K := known2) (noneKnown_ok) ok2 run2
end
end Go.Ev
