/- Operations that are not light: the theorem. -/
import Derived.Test.YtbinpohgchgpaaaGreatEvHeavy2
namespace Go.Ev

section
variable {P : Program} {φ : Phi} {base m : Nat} {H : AH} {w : World} {ρ : Operand → Option AV} {ev : Operand → Value}

theorem callFunc_run {g : FuncId} {fn : Func} {args : Array Value} (hf : P.funcs[g]? = some fn) (hb : fn.body.isSome = true) (hn : (fn.name == "runtime.NumGoroutine") = false) (w : World) :
    (callFunc g args).run P w = .ok (.enter g args) w := by
  have h1 : ¬ (fn.body.isNone = true) := by cases h : fn.body <;> simp [h] at hb ⊢
  have h2 : ¬ ((fn.name == "runtime.NumGoroutine") = true) := by rw [hn]; simp
  simp only [callFunc, Sem.run_bind, run_program, Result.andThen_ok, hf, if_neg h2, if_neg h1, Sem.run_pure]

theorem callA_sound {f : AV} {args : List AV} {vf : Value} {vargs : Array Value} {out : Out} (h : callA P f args = some out) (hf : VR φ f vf) (ha : VRs φ args vargs.toList) :
    (∀ w, OutR P m base φ H w (do let d ← Deferred.ofValue vf vargs; invoke d.target d.args : Sem Next) out) ∧ ((∃ g l, out = .enter g l) ∨ ∃ r l, out = .round r l) := by
  unfold callA at h
  split at h
  · rename_i g first captured
    obtain ⟨f', c', rfl, hy, h1, h2⟩ := hf
    split at h
    · rename_i fn hfn
      obtain ⟨hb, h⟩ := bif_some h
      cases h
      simp only [Bool.and_eq_true, Bool.not_eq_true'] at hb
      refine ⟨fun w => ⟨f' ++ vargs ++ c', ?_, ?_⟩, .inl ⟨_, _, rfl⟩⟩
      · simp [Deferred.ofValue, invoke, callFunc_run hfn hb.1 hb.2 w]
      · rw [Array.toList_append, Array.toList_append]
        exact (h1.append ha).append h2
    · cases h
  · rename_i l
    cases h
    obtain ⟨e, he, rfl⟩ := hf
    refine ⟨fun w => ⟨e, vargs, he, ?_, ha⟩, .inr ⟨_, _, rfl⟩⟩
    simp [Deferred.ofValue, invoke]
  · cases h

theorem methodA_sound {t : TypeId} {v v' : AV} {f : FuncId} {vv : Value} {name : String} (h : methodA P t v name = some (f, v')) (hv : VR φ v vv) (n : Nat) (w : World) :
    v' = v ∧ (method (n + 1) t vv name).run P w = .ok (f, vv) w := by
  unfold methodA at h
  split at h
  · rename_i i hi
    split at h
    · rename_i mt hm
      unfold recvA at h
      have hpath : ∀ {c : Bool} {f0 : FuncId}, (bif mt.path.isEmpty then some (f0, v) else none) = some (f, v') → mt.path = #[] ∧ f0 = f ∧ v' = v := by
        intro c f0 h
        obtain ⟨h1, h2⟩ := bif_some h
        cases h2
        exact ⟨Array.isEmpty_iff.1 h1, rfl, rfl⟩
      split at h
      · rename_i f0 el hfn hu
        obtain ⟨h1, rfl, rfl⟩ := hpath (c := true) h
        exact ⟨rfl, by simp [method, run_typeInfo w hi, hm, h1, follow, hfn, receiverAt, run_underlying hu w, Place.get]⟩
      · cases h
      · rename_i f0 d hnp hfn hu
        obtain ⟨h1, rfl, rfl⟩ := hpath (c := true) h
        refine ⟨rfl, ?_⟩
        simp only [method, Sem.run_bind, run_typeInfo w hi, Result.andThen_ok, hm, h1, follow, hfn, Sem.run_pure]
        simp only [receiverAt, Sem.run_bind, run_underlying hu w, Result.andThen_ok]
        cases d <;> first
          | (exact absurd rfl (hnp _))
          | simp [Place.get]
      · cases h
    · cases h
  · cases h

end
end Go.Ev
