/- Operations that are not light: the theorem. -/
import Derived.Test.YtbinpohgchgpaaaGreatEvH2
namespace Go.Ev

section
variable {P : Program} {φ : Phi} {base m : Nat} {H : AH} {w : World} {ρ : Operand → Option AV} {ev : Operand → Value}

theorem heavy_sound {o : Oper} {out : Out} (hw : WR φ base H w) (hb : base ≤ w.heap.size) (hm : m ≤ H.next) (hr : Rel φ ρ ev o.op.operands.toList) (h : heavy P ρ H o.op = some out) : OutR P m base φ H w (execOp ev o) out := by
  cases o with
  | mk dst op type pos after guard =>
  simp only at hr h
  cases op <;> simp only [heavy] at h <;> try (cases h; done)
  case store t a x =>
    unfold hStore at h
    split at h
    · rename_i id off v ha hx
      obtain ⟨e, he, hv⟩ := hr a (by simp [Op.operands]) _ ha
      cases hs : storeA P H t id off v with
      | none => simp [hs, outV] at h
      | some H' =>
        simp only [hs, outV] at h
        cases h
        obtain ⟨w', h1, h2, h3, h4⟩ := storeA_sound (P := P) hw hs he (hr x (by simp [Op.operands]) _ hx)
        simp only [OutR, execOp]
        exact ValR.skip (by simp [Instr.storeAt, Instr.sureAddr, hv, h1]) h2 (h4 m) h3
    · cases h
  case mapUpdate t mm k x =>
    unfold hMapUpdate at h
    split at h
    · rename_i am ak av e1 e2 e3
      cases hs : mapUpdateA P H t am ak av with
      | none => simp [hs, outV] at h
      | some H' =>
        simp only [hs, outV] at h
        cases h
        obtain ⟨w', h1, h2, h3, h4⟩ := mapUpdateA_sound (P := P) hw hs (hr mm (by simp [Op.operands]) _ e1) (hr k (by simp [Op.operands]) _ e2) (hr x (by simp [Op.operands]) _ e3)
        simp only [OutR, execOp]
        exact ValR.skip h1 h2 (h4 m) h3
    · cases h
  case insert t mm k x =>
    unfold hMapUpdate at h
    split at h
    · rename_i am ak av e1 e2 e3
      cases hs : mapUpdateA P H t am ak av with
      | none => simp [hs, outV] at h
      | some H' =>
        simp only [hs, outV] at h
        cases h
        obtain ⟨w', h1, h2, h3, h4⟩ := mapUpdateA_sound (P := P) hw hs (hr mm (by simp [Op.operands]) _ e1) (hr k (by simp [Op.operands]) _ e2) (hr x (by simp [Op.operands]) _ e3)
        simp only [OutR, execOp]
        exact ValR.skip h1 h2 (h4 m) h3
    · cases h
  case mapEntry t mm k =>
    unfold hMapEntry at h
    split at h
    · rename_i kt elem id key hu e1 e2
      obtain ⟨e, he, hv⟩ := hr mm (by simp [Op.operands]) _ e1
      obtain ⟨v, H', rfl, h1⟩ := entryA_sound (P := P) (m := m) hw hu h he (hr k (by simp [Op.operands]) _ e2)
      simp only [OutR, execOp, hv]
      exact h1
    · cases h
  case entryStore t mm s x =>
    unfold hEntryStore at h
    split at h
    · rename_i id k born v e1 e2 e3
      obtain ⟨e, he, hv⟩ := hr mm (by simp [Op.operands]) _ e1
      have hs := hr s (by simp [Op.operands]) _ e2
      simp only [VR] at hs
      obtain ⟨H', rfl, h1⟩ := entryStoreA_sound (P := P) (m := m) (t := t) (k := k) hw h he (hr x (by simp [Op.operands]) _ e3)
      simp only [OutR, execOp, hv, hs]
      exact h1
    · cases h
  case range t x =>
    obtain ⟨v, H', rfl, h1⟩ := hRange_sound (P := P) (m := m) hw hb hm (fun a ha => hr x (by simp [Op.operands]) a ha) h
    simp only [OutR, execOp]
    exact h1
  case next it isString =>
    obtain ⟨v, H', rfl, h1⟩ := hNext_sound (P := P) (m := m) (T := type) hw (fun a ha => hr it (by simp [Op.operands]) a ha) h
    simp only [OutR, execOp]
    exact h1
  case entry it =>
    obtain ⟨v, H', rfl, h1⟩ := hEntry_sound (P := P) (m := m) hw (fun a ha => hr it (by simp [Op.operands]) a ha) h
    simp only [OutR, execOp]
    exact h1
  case panic x =>
    unfold hPanic at h
    split at h
    · rename_i t a hx
      cases h
      have hv := hr x (by simp [Op.operands]) _ hx
      have hv' := hv
      obtain ⟨va, e, _⟩ := hv'
      simp only [OutR, execOp]
      exact ⟨ev x, by simp [Instr.panic, e], hv⟩
    · cases h
  case defer c =>
    unfold hDefer at h
    obtain ⟨callee, args, argTypes⟩ := c
    cases callee <;> simp only at h <;> try (cases h; done)
    rename_i f
    split at h
    · rename_i fn first captured l e1 e2
      cases hy : isYield fn
      case true => rw [hy] at h; cases h
      rw [hy] at h
      simp only [cond_false] at h
      cases h
      have hargs := avals_sound (hr.sub (l' := args.toList) (fun x hx => by simp [Op.operands, Call.operands]; exact .inr (by simpa using hx))) e2
      obtain ⟨f', c', hv, _, h1, h2⟩ := hr f (by simp [Op.operands, Call.operands]) _ e1
      simp only [OutR, execOp]
      refine ⟨{ target := .fn fn c', args := f' ++ args.map ev }, by simp [resolve, hv, Deferred.ofValue], c', f' ++ args.map ev, rfl, hy, h2, ?_⟩
      rw [Array.toList_append]
      exact h1.append (by simpa using hargs)
    · cases h
  case call c =>
    unfold hCall at h
    obtain ⟨callee, args, argTypes⟩ := c
    cases callee <;> simp only at h
    case value f =>
      unfold hValue at h
      split at h
      · rename_i g l e1 e2
        have hargs := avals_sound (hr.sub (l' := args.toList) (fun x hx => by simp [Op.operands, Call.operands]; exact .inr (by simpa using hx))) e2
        have := (callA_sound (P := P) (m := m) (base := base) (H := H) (vargs := args.map ev) h (hr f (by simp [Op.operands, Call.operands]) _ e1) (by simpa using hargs)).1 w
        simpa only [execOp, resolve] using this
      · cases h
    case invoke r name =>
      exact hInvoke_sound rfl (hr.sub (l' := r :: args.toList) (fun x hx => by simp [Op.operands, Call.operands]; simpa using hx)) h
    case builtin b =>
      split at h
      · rename_i l hl
        have hargs := avals_sound (hr.sub (l' := args.toList) (fun x hx => by simp [Op.operands, Call.operands]; simpa using hx)) hl
        exact hBuiltin_sound rfl hw hb hm (by simpa using hargs) h
      · cases h
end
end Go.Ev
