/- Operations that are not light: the theorem. -/
import Derived.Test.YtbinpohgchgpaaaGreatEvHeavy3
namespace Go.Ev

section
variable {P : Program} {φ : Phi} {base m : Nat} {H : AH} {w : World} {ρ : Operand → Option AV} {ev : Operand → Value}

theorem hInvoke_sound {o : Oper} {r : Operand} {name : String} {args : Array Operand} {argTypes : Array TypeId} {out : Out}
    (ho : o.op = .call { callee := .invoke r name, args, argTypes }) (hr : Rel φ ρ ev (r :: args.toList)) (h : hInvoke P ρ r name args = some out) :
    OutR P m base φ H w (execOp ev o) out := by
  unfold hInvoke at h
  split at h
  · rename_i t v l e1 e2
    split at h
    · rename_i f v' hmeth
      have hargs := avals_sound (hr.sub (l' := args.toList) (fun x hx => List.mem_cons_of_mem _ hx)) e2
      obtain ⟨vv, hv, hvv⟩ := hr r (List.mem_cons_self ..) _ e1
      obtain ⟨rfl, hrun⟩ := methodA_sound hmeth hvv (P.types.size + Made.depth - 1) w
      have hd : 1 ≤ Made.depth := by decide
      have hfu : P.types.size + Made.depth - 1 + 1 = P.types.size + Made.depth := by omega
      rw [hfu] at hrun
      have hcall := callA_sound (P := P) (m := m) (base := base) (H := H) (φ := φ) (vf := .func (.func f) #[] #[]) (vargs := #[vv] ++ args.map ev) h ⟨#[], #[], rfl, rfl, VRs_nil, VRs_nil⟩ (by
        rw [Array.toList_append]
        exact VRs_cons.2 ⟨hvv, by simpa using hargs⟩)
      have h0 := hcall.1 w
      have hext : (#[ev r] ++ args.map ev).extract 1 (#[ev r] ++ args.map ev).size = args.map ev := by
        apply Array.ext'
        simp
        exact List.take_of_length_le (by simp)
      have e0 : (execOp ev o).run P w = (do let d ← Deferred.ofValue (.func (.func f) #[] #[]) (#[vv] ++ args.map ev); invoke d.target d.args : Sem Next).run P w := by
        have g0 : (#[ev r] ++ args.map ev)[0]? = some (ev r) := by rw [← Array.getElem?_toList, Array.toList_append]; rfl
        have ge : (execOp ev o).run P w = (callMethod (ev r) name (args.map ev)).run P w := by
          obtain ⟨d, op, ty, p, af, gu⟩ := o
          cases ho
          have e1 : execOp ev { dst := d, op := .call { callee := .invoke r name, args, argTypes }, type := ty, pos := p, after := af, guard := gu } = (do let d ← resolve ev { callee := .invoke r name, args, argTypes } ty; invoke d.target d.args : Sem Next) := rfl
          have e2 : resolve ev { callee := .invoke r name, args, argTypes } ty = (pure { target := .fn (.method name) #[], args := #[ev r] ++ args.map ev } : Sem Deferred) := rfl
          rw [e1, e2, Sem.run_bind, Sem.run_pure, Result.andThen_ok]
          simp only [invoke, g0, hext]
        rw [ge, hv]
        have e3 : (callMethod (.iface t vv) name (args.map ev)).run P w = (callFunc f (#[vv] ++ args.map ev)).run P w := by
          simp only [callMethod, Sem.run_bind, run_program, Result.andThen_ok, hrun]
        rw [e3]
        simp only [Deferred.ofValue, Sem.run_bind, Sem.run_pure, Result.andThen_ok, invoke]
        simp
      rcases hcall.2 with ⟨g, l', rfl⟩ | ⟨g, l', rfl⟩
      · obtain ⟨args', a1, a2⟩ := h0
        exact ⟨args', by rw [e0]; exact a1, a2⟩
      · obtain ⟨e, args', a0, a1, a2⟩ := h0
        exact ⟨e, args', a0, by rw [e0]; exact a1, a2⟩
    · cases h
  · cases h

end
end Go.Ev
