/- Runs of calls that are known. -/
import Derived.Test.YtbinpohgchgpaaaGreatEmM
import Derived.Test.YtbinpohgchgpaaaGreatProg
import Derived.KernelRfl
namespace Go.Ev
open Go.Proofs
noncomputable section
set_option maxRecDepth 100000

def known3 : Known := noneKnown
theorem ok3 : ent3.ok = true := by kernel_rfl
theorem run3 : explEntry Tryz.prog known3 ent3 1000000 (rhoOf fix3 bag3) = true := by kernel_rfl
theorem entry3_ok : KnownOK Tryz.prog (entryK ent3) := entry_expl mixed (K := known3) (noneKnown_ok) ok3 run3

def known4 : Known := noneKnown
theorem ok4 : ent4.ok = true := by kernel_rfl
theorem run4 : explEntry Tryz.prog known4 ent4 1000000 (rhoOf fix4 bag4) = true := by kernel_rfl
theorem entry4_ok : KnownOK Tryz.prog (entryK ent4) := entry_expl mixed (K := known4) (noneKnown_ok) ok4 run4

def known5 : Known := noneKnown
theorem ok5 : ent5.ok = true := by kernel_rfl
theorem run5 : explEntry Tryz.prog known5 ent5 1000000 (rhoOf fix5 bag5) = true := by kernel_rfl
theorem entry5_ok : KnownOK Tryz.prog (entryK ent5) := entry_expl mixed (K := known5) (noneKnown_ok) ok5 run5
end
end Go.Ev
