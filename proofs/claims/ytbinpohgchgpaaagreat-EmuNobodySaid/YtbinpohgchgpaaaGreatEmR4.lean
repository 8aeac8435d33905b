/- Runs of calls that are known. -/
import Derived.Test.YtbinpohgchgpaaaGreatEmM
import Derived.Test.YtbinpohgchgpaaaGreatProg
import Derived.KernelRfl
namespace Go.Ev
open Go.Proofs
noncomputable section
set_option maxRecDepth 100000

def known7 : Known := noneKnown
theorem ok7 : ent7.ok = true := by kernel_rfl
theorem run7 : explEntry Tryz.prog known7 ent7 1000000 (rhoOf fix7 bag7) = true := by kernel_rfl
theorem entry7_ok : KnownOK Tryz.prog (entryK ent7) := entry_expl mixed (K := known7) (noneKnown_ok) ok7 run7

def known8 : Known := entryK ent7
theorem ok8 : ent8.ok = true := by kernel_rfl
theorem run8 : explEntry Tryz.prog known8 ent8 1000000 (rhoOf fix8 bag8) = true := by kernel_rfl
theorem entry8_ok : KnownOK Tryz.prog (entryK ent8) := entry_expl mixed (K := known8) (entry7_ok) ok8 run8

def known9 : Known := noneKnown
theorem ok9 : ent9.ok = true := by kernel_rfl
theorem run9 : explEntry Tryz.prog known9 ent9 1000000 (rhoOf fix9 bag9) = true := by kernel_rfl
theorem entry9_ok : KnownOK Tryz.prog (entryK ent9) := entry_expl mixed (K := known9) (noneKnown_ok) ok9 run9
end
end Go.Ev
