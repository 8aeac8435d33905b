/- Entries by runs; what is known of a call in any memory. -/
import Derived.Test.YtbinpohgchgpaaaGreatEvKnown
import Derived.Test.YtbinpohgchgpaaaGreatEvFast
set_option linter.unusedVariables false
namespace Go.Ev
noncomputable section

section
variable {P : Program} {φ : Phi}
theorem enter_rel {f : FuncId} {args : List AV} {args' : Array Value} {fr : AFrame} (he : enterA P f args none = some fr) (ha : VRs φ args args'.toList) :
    FRel φ fr (Frame.enter P f args' .normal) ∧ fr.up = none ∧ fr.round = none := by
  unfold enterA at he
  split at he
  · rename_i fn hfn
    split at he
    · rename_i c hbody
      obtain ⟨hle, he⟩ := bif_some he
      have hle := Nat.le_of_ble_eq_true hle
      cases he
      have hlen : args'.size ≤ fn.ntmps := by
        have := ha.length
        simp at this
        omega
      refine ⟨?_, rfl, rfl⟩
      let b : Frame := { (default : Frame) with fn := f, kind := .normal, roundOf := none }
      refine ⟨b, { tmps := args' ++ Array.replicate (fn.ntmps - args'.size) undef, defers := [] }, [.code c], ?_, ⟨rfl, ⟨?_, ?_⟩, rfl, rfl, rfl, fun _ => rfl⟩, ⟨_, _, rfl, rfl, rfl⟩⟩
      · simp [Frame.enter, Frame.atR, hfn, hbody, b]
      · simp; omega
      · intro i x hx
        rw [Tr.get_ofList] at hx
        split at hx
        · rename_i hi
          simp only [Nat.sub_zero] at hx
          obtain ⟨v, h1, h2⟩ := ha.get hx
          refine ⟨v, ?_, h2⟩
          rw [Array.getElem?_append_left]
          · simpa using h1
          · have := (List.getElem?_eq_some_iff.1 h1).1
            simpa using this
        · cases hx
    · cases he
  · cases he
end

/-- The entry's call, run: every end is the entry's. -/
def explEntry (P : Program) (K : Known) (E : Entry) (n : Nat) (rho : Res → List (List (Nat × Nat))) : Bool :=
  match enterA P E.f E.args none with
  | some fr => expl P ⟨runF n P K, K⟩ (okRes E rho) n fr E.H0
  | none => false

theorem entry_expl {P : Program} (hmix : P.follows .mixedOrders = true) {K : Known} (hK : KnownOK P K) {E : Entry} (hE : E.ok = true) {n : Nat} {rho : Res → List (List (Nat × Nat))} (h : explEntry P K E n rho = true) : KnownOK P (entryK E) := by
  refine entryK_ok hE ?_
  intro φ w m bs args' cs ha hw hb hm
  unfold explEntry at h
  split at h
  · rename_i fr he
    obtain ⟨h1, h2, h3⟩ := enter_rel he ha
    rw [runF_eq] at h
    obtain ⟨r, hq, hr⟩ := expl_sound hmix ⟨run_sound hmix hK n, hK⟩ n fr E.H0 h φ w m bs _ cs hw hb hm h1 (by rw [h2]; trivial)
    rw [h2, h3] at hr
    unfold okRes at hq
    obtain ⟨ρ, _, h4⟩ := List.any_eq_true.1 hq
    simp only [Bool.and_eq_true] at h4
    exact ⟨r, ρ, h4.1, h4.2, hr⟩
  · cases h

/-- A call that returns a bool in any world, and keeps the world's blocks. -/
def closedK (f0 : FuncId) (b : Bool) : Known := fun f args H =>
  bif Nat.beq f f0 && args.isEmpty then some (.bool b, H) else none

theorem closedK_ok {P : Program} {f0 : FuncId} {b : Bool} (h : ∀ w, Calls P f0 #[] w fun e w' => e = .returned (.bool b) ∧ Keep w.heap.size w w') : KnownOK P (closedK f0 b) := by
  intro f args H v H' hk φ w m bs args' cs ha hw hb hm
  unfold closedK at hk
  obtain ⟨h1, hk⟩ := bif_some hk
  simp only [Bool.and_eq_true, List.isEmpty_iff] at h1
  cases hk
  obtain ⟨e1, rfl⟩ := h1
  have e1 := Nat.eq_of_beq_eq_true e1
  subst e1
  have ha0 : args' = #[] := by
    simp only [VRs] at ha
    cases args'
    simpa using ha
  subst ha0
  obtain ⟨e, w', fr, ⟨rfl, hkeep⟩, hs, hl, hfn⟩ := h w cs
  refine ⟨φ, w', ⟨?_, hw.inj, ?_, hw.nx⟩, Ext.refl _ _ _, ⟨hkeep.1, fun b hb' => hkeep.2.1 b (by omega), hkeep.2.2⟩, fr, _, ⟨_, rfl, rfl⟩, hs, hfn, hl⟩
  · intro i ob e h1 h2
    obtain ⟨o, h3, h4⟩ := hw.here i ob e h1 h2
    exact ⟨o, by rw [hkeep.2.1 _ (hw.lt i e h2).1]; exact h3, h4⟩
  · intro i e h2
    obtain ⟨g1, g2, g3⟩ := hw.lt i e h2
    exact ⟨Nat.lt_of_lt_of_le g1 hkeep.1, g2, g3⟩
end
end Go.Ev
