/- Operations that are not light: the theorem. -/
import Derived.Test.YtbinpohgchgpaaaGreatEvH1
namespace Go.Ev

section
variable {P : Program} {φ : Phi} {base m : Nat} {H : AH} {w : World} {ρ : Operand → Option AV} {ev : Operand → Value}

theorem hBuiltin_sound {o : Oper} {b : Builtin} {args : Array Operand} {argTypes : Array TypeId} {out : Out} {l : List AV}
    (ho : o.op = .call { callee := .builtin b, args, argTypes }) (hw : WR φ base H w) (hb : base ≤ w.heap.size) (hm : m ≤ H.next) (hvs : VRs φ l (args.map ev).toList) (h : hBuiltin P H b l argTypes = some out) :
    OutR P m base φ H w (execOp ev o) out := by
  have hrun : ∀ s : Sem Next, (∀ consts, builtin b argTypes o.type consts (args.map ev) = s) → (execOp ev o).run P w = s.run P w := by
    intro s hs
    obtain ⟨d, op, ty, p, af, gu⟩ := o
    cases ho
    have e1 : execOp ev { dst := d, op := .call { callee := .builtin b, args, argTypes }, type := ty, pos := p, after := af, guard := gu } = (do let d ← resolve ev { callee := .builtin b, args, argTypes } ty; invoke d.target d.args : Sem Next) := rfl
    have e2 : resolve ev { callee := .builtin b, args, argTypes } ty = (pure { target := .builtin b argTypes ty (args.map fun | .const _ => true | _ => false), args := args.map ev } : Sem Deferred) := rfl
    rw [e1, e2, Sem.run_bind, Sem.run_pure, Result.andThen_ok]
    rw [← hs (args.map fun | .const _ => true | _ => false)]
    rfl
  have lift : ∀ (s : Sem Next) v H', (∀ consts, builtin b argTypes o.type consts (args.map ev) = s) → ValR P m base φ H w s v H' → OutR P m base φ H w (execOp ev o) (.val v H') := by
    intro s v H' hs ⟨φ', w', v', h1, h2⟩
    exact ⟨φ', w', v', by rw [hrun s hs]; exact h1, h2⟩
  unfold hBuiltin at h
  split at h
  · rename_i s x
    simp only [VRs] at hvs
    obtain ⟨v0, r1, e1, hv0, v1, r2, rfl, hv1, rfl⟩ := hvs
    have g0 : (args.map ev)[0]? = some v0 := by rw [← Array.getElem?_toList, e1]; rfl
    have g1 : (args.map ev)[1]? = some v1 := by rw [← Array.getElem?_toList, e1]; rfl
    cases ha : appendA P H argTypes s x with
    | none => simp [ha, outR] at h
    | some r =>
      obtain ⟨v, H'⟩ := r
      simp only [ha, outR] at h
      cases h
      exact lift _ _ _ (fun _ => rfl) (appendA_sound (P := P) (m := m) (T := o.type) hw hb hm g0 g1 hv0 hv1 ha)
  · rename_i s x
    simp only [VRs] at hvs
    obtain ⟨v0, r1, e1, hv0, v1, r2, rfl, hv1, rfl⟩ := hvs
    have g0 : (args.map ev)[0]? = some v0 := by rw [← Array.getElem?_toList, e1]; rfl
    have g1 : (args.map ev)[1]? = some v1 := by rw [← Array.getElem?_toList, e1]; rfl
    cases ha : copyA P H argTypes s x with
    | none => simp [ha, outR] at h
    | some r =>
      obtain ⟨v, H'⟩ := r
      simp only [ha, outR] at h
      cases h
      exact lift _ _ _ (fun _ => rfl) (copyA_sound (P := P) (m := m) (T := o.type) hw g0 g1 hv0 hv1 ha)
  · cases h
    simp only [OutR]
    rw [hrun (pure .recover) (fun _ => rfl)]
    rfl
  · rename_i id k
    simp only [VRs] at hvs
    obtain ⟨v0, r1, e1, hv0, v1, r2, rfl, hv1, rfl⟩ := hvs
    obtain ⟨e, he, rfl⟩ := hv0
    obtain ⟨v, H', rfl, h1⟩ := deleteA_sound (P := P) (m := m) (T := o.type) hw h he hv1 e1
    exact lift _ _ _ (fun _ => rfl) h1
  · cases h

end
end Go.Ev
