/- The chapter's examples: 'awake' returns true in every world, and keeps the world's blocks. -/
import Derived.Test.YtbinpohgchgpaaaGreatEmR3
import Derived.Test.YtbinpohgchgpaaaGreatEmR4
import Derived.Test.YtbinpohgchgpaaaGreatEmR5
import Derived.Test.YtbinpohgchgpaaaGreatEmR6
namespace Go.Ev
open Go.Proofs
noncomputable section
set_option maxRecDepth 100000

def isTrueR : Option Res → Bool
  | some ⟨.ret (.bool b), _, _⟩ => b
  | _ => false

theorem isTrueR_some : ∀ {r : Option Res}, isTrueR r = true → ∃ up H, r = some ⟨.ret (.bool true), up, H⟩
  | some ⟨.ret (.bool true), up, H⟩, _ => ⟨up, H, rfl⟩
  | some ⟨.ret (.bool false), up, H⟩, h => by cases h

def knownAwake : Known := orK (entryK ent6) (orK (entryK ent8) (orK (entryK ent10) (orK (entryK ent12) (entryK ent14))))
theorem knownAwake_ok : KnownOK Tryz.prog knownAwake := orK_ok entry6_ok (orK_ok entry8_ok (orK_ok entry10_ok (orK_ok entry12_ok entry14_ok)))
theorem runAwake : isTrueR (evalF Tryz.prog knownAwake 1000000 28 [] ⟨.nil, 0⟩) = true := by kernel_rfl

theorem awake_calls (w : World) : Calls Tryz.prog 28 #[] w fun e w' => e = .returned (.bool true) ∧ Keep w.heap.size w w' := by
  obtain ⟨up, H, h⟩ := isTrueR_some runAwake
  rw [evalF_eq] at h
  exact eval_closed mixed knownAwake_ok h
#print axioms awake_calls

def knownLaw : Known := closedK 28 true
theorem knownLaw_ok : KnownOK Tryz.prog knownLaw := closedK_ok awake_calls
end
end Go.Ev
