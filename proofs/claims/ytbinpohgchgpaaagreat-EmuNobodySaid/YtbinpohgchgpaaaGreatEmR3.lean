/- Runs of calls that are known. -/
import Derived.Test.YtbinpohgchgpaaaGreatEmR1
import Derived.Test.YtbinpohgchgpaaaGreatEmR2
import Derived.Test.YtbinpohgchgpaaaGreatProg
import Derived.KernelRfl
namespace Go.Ev
open Go.Proofs
noncomputable section
set_option maxRecDepth 100000

def known6 : Known := orK (entryK ent0) (orK (entryK ent1) (orK (entryK ent2) (orK (entryK ent3) (orK (entryK ent4) (entryK ent5)))))
theorem ok6 : ent6.ok = true := by kernel_rfl
theorem run6 : explEntry Tryz.prog known6 ent6 1000000 (rhoOf fix6 bag6) = true := by kernel_rfl
theorem entry6_ok : KnownOK Tryz.prog (entryK ent6) := entry_expl mixed (K := known6) (orK_ok entry0_ok (orK_ok entry1_ok (orK_ok entry2_ok (orK_ok entry3_ok (orK_ok entry4_ok (entry5_ok)))))) ok6 run6
end
end Go.Ev
