/- Runs of calls that are known. -/
import Derived.Test.YtbinpohgchgpaaaGreatEmR4
import Derived.Test.YtbinpohgchgpaaaGreatProg
import Derived.KernelRfl
namespace Go.Ev
open Go.Proofs
noncomputable section
set_option maxRecDepth 100000

def known10 : Known := entryK ent9
theorem ok10 : ent10.ok = true := by kernel_rfl
theorem run10 : explEntry Tryz.prog known10 ent10 1000000 (rhoOf fix10 bag10) = true := by kernel_rfl
theorem entry10_ok : KnownOK Tryz.prog (entryK ent10) := entry_expl mixed (K := known10) (entry9_ok) ok10 run10

def known11 : Known := noneKnown
theorem ok11 : ent11.ok = true := by kernel_rfl
theorem run11 : explEntry Tryz.prog known11 ent11 1000000 (rhoOf fix11 bag11) = true := by kernel_rfl
theorem entry11_ok : KnownOK Tryz.prog (entryK ent11) := entry_expl mixed (K := known11) (noneKnown_ok) ok11 run11

def known12 : Known := entryK ent11
theorem ok12 : ent12.ok = true := by kernel_rfl
theorem run12 : explEntry Tryz.prog known12 ent12 1000000 (rhoOf fix12 bag12) = true := by kernel_rfl
theorem entry12_ok : KnownOK Tryz.prog (entryK ent12) := entry_expl mixed (K := known12) (entry11_ok) ok12 run12
end
end Go.Ev
