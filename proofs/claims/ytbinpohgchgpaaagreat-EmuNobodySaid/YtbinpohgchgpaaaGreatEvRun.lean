/- The evaluator is right. -/
import Derived.Test.YtbinpohgchgpaaaGreatEvStep5
set_option linter.unusedVariables false
namespace Go.Ev

section
variable {P : Program}

theorem step_sound (hmix : P.follows .mixedOrders = true) {call : Caller} (hc : CallerOK P call) (fr : AFrame) (H : AH) (φ : Phi) (w : World) (m bs : Nat) (cfr : Frame) (cs : List Frame) (hw : WR φ bs H w) (hb : bs ≤ w.heap.size) (hm : m ≤ H.next)
    (hf : FRel φ fr cfr) (hu : UpR φ fr.up cs) : StepOk P m bs φ H w fr cfr cs (stepA P call fr H) := by
  obtain ⟨fn, tmps, nt, todo, defers, mode, up, round⟩ := fr
  cases mode with
  | run =>
    obtain ⟨b, a, items, rfl, h1, h2⟩ := hf
    exact stepRun_ok hmix hc rfl h1 hw hb hm hu h2
  | returning =>
    obtain ⟨h1, h2⟩ := hf
    exact stepOut_ok hc (by simp) h1 h2 hw hb hm hu
  | panicking c =>
    obtain ⟨h1, h2⟩ := hf
    exact stepOut_ok hc (by simp) h1 h2 hw hb hm hu

/-- Steps first. -/
theorem RunOk.after {m bs : Nat} {φ φ' : Phi} {H H' : AH} {w w' : World} {cfr cfr' : Frame} {cs cs2 : List Frame} {r : Res} {up up' : Option AMode} {round : Option Nat} (hs : Steps P (lone cfr cs w) (lone cfr' cs2 w')) (hcs : CsStep up cs cs2) (hup : up'.isSome = up.isSome)
    (he : Ext m φ H φ' H') (hk : Keep bs w w') (hfn : cfr'.fn = cfr.fn) (h : RunOk P m bs φ' H' w' cfr' cs2 r up' round) : RunOk P m bs φ H w cfr cs r up round := by
  obtain ⟨φ1, w1, h1, h2, h3, h4⟩ := h
  refine ⟨φ1, w1, h1, he.trans h2, hk.trans h3, ?_⟩
  cases up with
  | none =>
    cases up' with
    | some u => cases hup
    | none =>
      have hcs : cs2 = cs := hcs
      subst hcs
      cases round with
      | none =>
        obtain ⟨c1, e1, g1, g2, g3, g4⟩ := h4
        exact ⟨c1, e1, g1, hs.trans g2, g3, g4.trans hfn⟩
      | some l =>
        intro c cs' hcc
        have := h4 c cs' hcc
        obtain ⟨e, upr, H1⟩ := r
        cases e with
        | ret v => obtain ⟨v', g1, g2⟩ := this; exact ⟨v', g1, hs.trans g2⟩
        | pan ch => obtain ⟨v', g1, g2⟩ := this; exact ⟨v', g1, hs.trans g2⟩
  | some u =>
    cases up' with
    | none => cases hup
    | some u' =>
      obtain ⟨c, cs', u2, rfl, rfl⟩ := hcs
      obtain ⟨c1, cs1, uA, u3, cfr1, e1, g1, g2, g3, g4, g5, g6, g7⟩ := h4
      cases g1
      exact ⟨c, cs', uA, u3, cfr1, e1, rfl, g2, g3, g4, hs.trans g5, g6, g7⟩

theorem run_sound (hmix : P.follows .mixedOrders = true) {K : Known} (hK : KnownOK P K) : ∀ n, CallOK P (run P K n)
  | 0 => by intro fr H r h; cases h
  | n + 1 => by
    intro fr H r h φ w m bs cfr cs hw hb hm hf hu
    have hstep := step_sound hmix (call := ⟨run P K n, K⟩) ⟨run_sound hmix hK n, hK⟩ fr H φ w m bs cfr cs hw hb hm hf hu
    simp only [run] at h
    cases hs : stepA P ⟨run P K n, K⟩ fr H with
    | stuck s => rw [hs] at h; cases h
    | done r' =>
      rw [hs] at h hstep
      cases h
      exact hstep
    | go fr' H' =>
      rw [hs] at h hstep
      obtain ⟨φ', w', cfr', cs2, g1, g2, g3, g4, g5, g6, g7, g8, g9, g10⟩ := hstep
      have := run_sound hmix hK n fr' H' r h φ' w' m bs cfr' cs2 g7 (Nat.le_trans hb g9.1) (Nat.le_trans hm g8.2.1) g2 g3
      rw [g5] at this
      exact RunOk.after g1 g4 g6 g8 g9 g10 this

/-- A call that the evaluator carries out. -/
theorem eval_calls (hmix : P.follows .mixedOrders = true) {K : Known} (hK : KnownOK P K) {n : Nat} {f : FuncId} {args : List AV} {args' : Array Value} {H : AH} {r : Res} {φ : Phi} {bs : Nat} {w : World} (h : eval P K n f args H = some r) (ha : VRs φ args args'.toList) (hw : WR φ bs H w) (hb : bs ≤ w.heap.size) :
    Calls P f args' w fun e w' => ∃ φ', ER φ' r.e e ∧ WR φ' bs r.H w' ∧ PLe φ φ' ∧ Keep bs w w' := by
  intro cs
  obtain ⟨φ', w', h1, h2, h3, cfr', e', h4, h5, h6, h7⟩ := enter_go (m := 0) (cs := cs) (run_sound hmix hK n) h ha hw hb (Nat.zero_le _) trivial (kind := .normal) rfl
  refine ⟨e', w', cfr', ⟨φ', h4, h1, h2.1, h3⟩, ?_, h7, h6⟩
  cases e' with
  | outgrown =>
    obtain ⟨re, _, _⟩ := r
    cases re with
    | ret v => obtain ⟨v', h, _⟩ := h4; cases h
    | pan c => obtain ⟨v', h, _⟩ := h4; cases h
  | returned v => exact h5
  | panicked c => exact h5

/-- From no memory of its own. -/
theorem noneKnown_ok : KnownOK P noneKnown := by
  intro f args H v H' h
  cases h

theorem eval_closed (hmix : P.follows .mixedOrders = true) {K : Known} (hK : KnownOK P K) {n : Nat} {f : FuncId} {b : Bool} {up : Option AMode} {H : AH} {w : World} (h : eval P K n f [] ⟨.nil, 0⟩ = some ⟨.ret (.bool b), up, H⟩) :
    Calls P f #[] w fun e w' => e = .returned (.bool b) ∧ Keep w.heap.size w w' := by
  have hw : WR (fun _ => none) w.heap.size ⟨.nil, 0⟩ w := ⟨(fun i ob e h => by cases h), (fun i _ ob _ e _ h => by cases h), (fun i e h => by cases h), (fun i ob h => by cases h)⟩
  intro cs
  obtain ⟨e, w', fr, ⟨φ', ⟨v', rfl, hv⟩, _, _, hk⟩, h2⟩ := eval_calls hmix hK h (args' := #[]) (φ := fun _ => none) rfl hw (Nat.le_refl _) cs
  simp only [VR] at hv
  subst hv
  exact ⟨_, w', fr, ⟨rfl, hk⟩, h2⟩
end
end Go.Ev
