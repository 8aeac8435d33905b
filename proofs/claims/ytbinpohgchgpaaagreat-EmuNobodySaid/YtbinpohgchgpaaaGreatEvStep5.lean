/- Steps on the way out. -/
import Derived.Test.YtbinpohgchgpaaaGreatEvStep4
set_option linter.unusedVariables false
namespace Go.Ev

section
variable {P : Program} {call : Caller} {bs m : Nat} {H H' : AH} {φ φ' : Phi} {w w' : World} {fr fr' : AFrame} {cfr : Frame} {cs : List Frame}

def oneResult (tmps : Array Value) : ResultVar → Sem Value
  | .tmp t => pure (tmps.getD t undef)
  | .cell a t => do loadVar t (← asAddr (tmps.getD a undef))

theorem results_list {nt : Nat} {t : Tr AV} {tmps : Array Value} (hw : WR φ bs H w) (ht : TR φ t nt tmps) : ∀ (l : List ResultVar) (vs : List AV), resultsA P H t l = some vs → ∃ vs', (l.mapM (oneResult tmps)).run P w = .ok vs' w ∧ VRs φ vs vs'
  | [], vs, h => by
    cases h
    exact ⟨[], rfl, rfl⟩
  | .tmp i :: l, vs, h => by
    simp only [resultsA] at h
    split at h
    · rename_i v hv
      cases hr : resultsA P H t l with
      | none => rw [hr] at h; cases h
      | some vs1 =>
        rw [hr] at h
        cases h
        obtain ⟨vs', h1, h2⟩ := results_list hw ht l vs1 hr
        obtain ⟨v', h3, h4⟩ := ht.2 i v hv
        refine ⟨v' :: vs', ?_, v', vs', rfl, h4, h2⟩
        have e : tmps.getD i undef = v' := by rw [Array.getD_eq_getD_getElem?, h3]; rfl
        rw [List.mapM_cons]
        simp only [oneResult, Sem.run_bind, Sem.run_pure, Result.andThen_ok, h1, e]
    · cases h
  | .cell i ty :: l, vs, h => by
    simp only [resultsA] at h
    split at h
    · rename_i id off hp
      split at h
      · rename_i v hv
        cases hr : resultsA P H t l with
        | none => rw [hr] at h; cases h
        | some vs1 =>
          rw [hr] at h
          cases h
          obtain ⟨vs', h1, h2⟩ := results_list hw ht l vs1 hr
          obtain ⟨vp, h3, e, he, h4⟩ := ht.2 i _ hp
          obtain ⟨v', h5, h6⟩ := loadA_sound hw hv he
          refine ⟨v' :: vs', ?_, v', vs', rfl, h6, h2⟩
          have e1 : tmps.getD i undef = .pointer (some ⟨e.b, e.o + off, none⟩) := by rw [Array.getD_eq_getD_getElem?, h3, ← h4]; rfl
          rw [List.mapM_cons]
          simp only [oneResult, Sem.run_bind, e1, asAddr, Sem.run_pure, Result.andThen_ok, h5, h1]
      · cases h
    · cases h

theorem results_sound {nt : Nat} {t : Tr AV} {tmps : Array Value} (hw : WR φ bs H w) (ht : TR φ t nt tmps) {fn : Func} {vs : List AV} (h : resultsA P H t fn.results.toList = some vs) : ∃ v', (results fn tmps).run P w = .ok v' w ∧ VR φ (tupleA vs) v' := by
  obtain ⟨vs', h1, h2⟩ := results_list hw ht _ vs h
  have e : results fn tmps = (do let vs ← fn.results.mapM (oneResult tmps); pure (if h : vs.size = 1 then vs[0] else .tuple vs)) := by
    unfold results
    rfl
  rw [e, Array.mapM_eq_mapM_toList]
  simp only [map_eq_pure_bind, bind_assoc, pure_bind, Sem.run_bind, h1, Result.andThen_ok, Sem.run_pure]
  refine ⟨_, rfl, ?_⟩
  cases vs with
  | nil =>
    simp only [VRs] at h2
    subst h2
    exact ⟨#[], rfl, rfl⟩
  | cons v vs =>
    obtain ⟨v', vs2, rfl, hv, hvs⟩ := h2
    cases vs with
    | nil =>
      simp only [VRs] at hvs
      subst hvs
      exact hv
    | cons v2 vs =>
      obtain ⟨v2', vs3, rfl, hv2, hvs3⟩ := hvs
      exact ⟨(v' :: v2' :: vs3).toArray, by simp, v', v2' :: vs3, rfl, hv, v2', vs3, rfl, hv2, hvs3⟩

theorem CR.no_goexit : ∀ {c : Chain} {l : List PanicEntry}, CR φ c l → l.dropWhile (!·.goexit) = []
  | [], l, h => by cases h; rfl
  | (v, r) :: c, l, h => by
    obtain ⟨v', l', rfl, _, h2⟩ := h
    simp only [List.dropWhile_cons]
    exact h2.no_goexit

theorem settle_MR {u : AMode} {fm : FrameMode} (h : MR φ u fm) : MR φ (settleA u) (settle fm) := by
  cases u with
  | run => cases h; rfl
  | returning => cases h; rfl
  | panicking c =>
    obtain ⟨c', rfl, hc⟩ := h
    cases c with
    | nil => cases hc; exact ⟨[], rfl, rfl⟩
    | cons x c =>
      obtain ⟨v, r⟩ := x
      obtain ⟨v', l', rfl, h1, h2⟩ := hc
      cases r with
      | true =>
        show settle _ = _
        simp only [settle, h2.no_goexit]
      | false => exact ⟨_, rfl, v', l', rfl, h1, h2⟩

theorem CR.append : ∀ {c : Chain} {l : List PanicEntry} {c' : Chain} {l' : List PanicEntry}, CR φ c l → CR φ c' l' → CR φ (c ++ c') (l ++ l')
  | [], l, c', l', h, h' => by cases h; exact h'
  | (v, r) :: c, l, c', l', h, h' => by
    obtain ⟨v', l1, rfl, h1, h2⟩ := h
    exact ⟨v', l1 ++ l', rfl, h1, CR.append h2 h'⟩

theorem raised_MR {u : AMode} {fm : FrameMode} {c : Chain} {c' : List PanicEntry} (h : MR φ u fm) (hc : CR φ c c') : MR φ (raiseA u c) (raised fm c') := by
  cases u with
  | run => cases h; exact ⟨c', rfl, hc⟩
  | returning => cases h; exact ⟨c', rfl, hc⟩
  | panicking o =>
    obtain ⟨o', rfl, ho⟩ := h
    exact ⟨_, rfl, hc.append ho⟩

theorem out_go {u : AMode} (hu' : u ≠ .run) {fn : Nat} {tmps : Tr AV} {nt : Nat} {todo : List AItem} {ds : List ADef} {up : Option AMode} {round : Option Nat} {a : Act} (hs : Steps P (lone cfr cs w) (lone { cfr with defers := a.defers, mode := a.tmps.size |> fun _ => cfr.mode } cs w')) : True := trivial

/-- On the way out: another mode, another list of deferred calls. -/
theorem FRel.out {fn : Nat} {tmps : Tr AV} {nt : Nat} {todo todo' : List AItem} {defers ds : List ADef} {mode u : AMode} {up : Option AMode} {round : Option Nat} (hf : FR φ ⟨fn, tmps, nt, todo, defers, mode, up, round⟩ cfr ⟨cfr.tmps, cfr.defers⟩) {ds' : List Deferred} {fm : FrameMode}
    (hd : DRs φ ds ds') (hm : MR φ u fm) (hu : u ≠ .run) : FRel φ ⟨fn, tmps, nt, todo', ds, u, up, round⟩ { cfr with defers := ds', mode := fm } := by
  have : FR φ ⟨fn, tmps, nt, todo', ds, u, up, round⟩ { cfr with defers := ds', mode := fm } ⟨cfr.tmps, ds'⟩ := ⟨hf.fn, hf.tr, hd, hf.round, hf.kind, hf.alone⟩
  cases u with
  | run => exact (hu rfl).elim
  | returning => exact ⟨this, hm⟩
  | panicking c => exact ⟨this, hm⟩

theorem stepOut_ok (hc : CallerOK P call) (hout : fr.mode ≠ .run) (hf : FR φ fr cfr ⟨cfr.tmps, cfr.defers⟩) (hmode : MR φ fr.mode cfr.mode) (hw : WR φ bs H w) (hb : bs ≤ w.heap.size) (hm : m ≤ H.next) (hu : UpR φ fr.up cs) :
    StepOk P m bs φ H w fr cfr cs (stepOut P call fr H) := by
  obtain ⟨fn, tmps, nt, todo, defers, mode, up, round⟩ := fr
  simp only at hmode hu
  have hcm : cfr.mode ≠ .run := by
    intro e
    cases mode with
    | run => exact hout rfl
    | returning => rw [e] at hmode; cases hmode
    | panicking c => obtain ⟨c', h1, _⟩ := hmode; rw [e] at h1; cases h1
  simp only [stepOut]
  cases defers with
  | nil =>
    have hnil : cfr.defers = [] := hf.dr
    simp only [outDone]
    have fin : ∀ (e : Ended) (e' : Ending), ER φ e e' → (cfr.kind = .normal → cfr.leaving P w e') → cfr.going P w e' →
        (∀ c cs', cs = c :: cs' → cfr.kind = .normal → match e with | .ret v => ∃ v', VR φ v v' ∧ Steps P (lone cfr cs w) (lone (c.finish v') cs' w) | .pan ch => ∃ ch', CR φ ch ch' ∧ Steps P (lone cfr cs w) (lone (c.raise ch') cs' w)) →
        RunOk P m bs φ H w cfr cs ⟨e, up, H⟩ up round := by
      intro e e' her hlv hgo hrd
      refine ⟨φ, w, hw, Ext.refl _ _ _, Keep.refl _ _, ?_⟩
      cases up with
      | none =>
        have hk : cfr.kind = .normal := hf.kind
        cases round with
        | none => exact ⟨cfr, e', her, Steps.refl P _, hlv hk, rfl⟩
        | some l => exact fun c cs' h => hrd c cs' h hk
      | some u =>
        obtain ⟨c, cs', rfl, hmr⟩ := hu
        exact ⟨c, cs', u, c.mode, cfr, e', rfl, rfl, hmr, her, Steps.refl P _, hf.kind, hgo⟩
    cases mode with
    | run => trivial
    | panicking ch =>
      simp only
      cases hfn : (P.funcs[fn]?).isSome with
      | false => trivial
      | true =>
        simp only [cond_true]
        obtain ⟨fnn, hfnn⟩ := Option.isSome_iff_exists.1 hfn
        obtain ⟨ch', h1, h2⟩ := hmode
        have hfn' : cfr.fn = fn := hf.fn
        have hlv : cfr.leaving P w (.panicked ch') := ⟨h1, hnil, fnn, by rw [hfn']; exact hfnn⟩
        refine fin (.pan ch) (.panicked ch') ⟨ch', rfl, h2⟩ (fun _ => hlv) ⟨h1, hnil, fnn, by rw [hfn']; exact hfnn⟩ (fun c cs' hcs _ => ?_)
        subst hcs
        exact ⟨ch', h2, .one (step_leave_panicked hlv)⟩
    | returning =>
      simp only
      cases hfnn : P.funcs[fn]? with
      | none => trivial
      | some fnn =>
        simp only
        cases hr : resultsA P H tmps fnn.results.toList with
        | none => trivial
        | some vs =>
          simp only
          obtain ⟨v', h1, h2⟩ := results_sound (P := P) hw hf.tr hr
          have hfn' : cfr.fn = fn := hf.fn
          have hlv : cfr.kind = .normal → cfr.leaving P w (.returned v') := fun hk => ⟨hmode, hnil, hk, fnn, by rw [hfn']; exact hfnn, h1⟩
          refine fin (.ret (tupleA vs)) (.returned v') ⟨v', rfl, h2⟩ hlv ⟨hmode, hnil, fnn, by rw [hfn']; exact hfnn, h1⟩ (fun c cs' hcs hk => ?_)
          subst hcs
          exact ⟨v', h2, .one (step_leave_returned (hlv hk))⟩
  | cons d ds =>
    obtain ⟨d', ds', hds, hd, hdr⟩ := hf.dr
    simp only at hds
    cases d with
    | collected r =>
      obtain ⟨e, he, rfl⟩ := hd
      simp only
      split
      · rename_i hob
        obtain ⟨o, hg, l', rfl, hl'⟩ := hw.here r _ e hob he
        simp only [DRs] at hl'
        subst hl'
        have hlt := (hw.lt r e he).1
        have hk := run_takeDeferred (P := P) hg
        have hstep := step_collected (cs := cs) hcm hds rfl hk
        refine ⟨φ, w.putObj e.b (.deferred none), { cfr with defers := ds' }, cs, .one hstep, ?_, hu, CsStep.refl hu, rfl, rfl, ?_, Ext.put he _, ?_, rfl⟩
        · exact FRel.out hf hdr hmode hout
        · exact hw.put hob rfl he World.putObj_size (fun b hb => World.putObj_heap_other hb) ⟨_, World.putObj_heap_same hlt, rfl⟩
        · exact Keep.of_put hw he World.putObj_size (fun b hb => World.putObj_heap_other hb)
      · trivial
    | call f captured args =>
      obtain ⟨cap', args', rfl, hy, hcap, hargs⟩ := hd
      simp only
      cases hca : callA P (.func f [] captured) args with
      | none => trivial
      | some out =>
        have hcs := (callA_sound (P := P) (m := m) (base := bs) (H := H) (φ := φ) (vf := .func f #[] cap') (vargs := args') hca ?_ hargs).1 w
        · cases out with
          | enter g l =>
            simp only [enterOnly, Option.bind_some]
            cases hres : doCall P call H (some mode) (.enter g l) with
            | none => trivial
            | some r =>
              obtain ⟨largs, h1, h2⟩ := hcs
              have hinv : (invoke (.fn f cap') args').run P w = .ok (.enter g largs) w := by
                have e1 : (do let d ← Deferred.ofValue (.func f #[] cap') args'; invoke d.target d.args : Sem Next) = invoke (.fn f cap') args' := by
                  simp [Deferred.ofValue]
                rw [← e1]; exact h1
              have hstep := step_defer (cs := cs) hcm hds rfl hinv
              have hrk := enter_run (m := m) (cs := { cfr with defers := ds' } :: cs) hc hres h2 hw hb hm (up := some mode) ⟨_, _, rfl, hmode⟩ (kind := .deferred) rfl
              obtain ⟨φ1, w1, q1, q2, q3, c, cs', uA, u', cfr1, e1, hcc, hup, hmr, her, hsteps, hkd, hgo⟩ := hrk
              cases hcc
              obtain ⟨ee, upp, H1⟩ := r
              simp only at hup
              subst hup
              have hf1 := hf.mono q2.1
              have hdr1 := hdr.mono q2.1
              have hmid : ∀ (u2 : AMode) (fm2 : FrameMode), MR φ1 u2 fm2 → step P (lone cfr1 ({ { cfr with defers := ds' } with mode := u' } :: cs) w1) = .next (lone { { { cfr with defers := ds' } with mode := u' } with mode := fm2 } cs w1) →
                  StepOk P m bs φ H w ⟨fn, tmps, nt, todo, .call f captured args :: ds, mode, up, round⟩ cfr cs (outMode ⟨fn, tmps, nt, todo, .call f captured args :: ds, mode, up, round⟩ ds u2 H1) := by
                intro u2 fm2 hm2 hst
                have hgo2 : u2 ≠ .run → StepOk P m bs φ H w ⟨fn, tmps, nt, todo, .call f captured args :: ds, mode, up, round⟩ cfr cs (.go ⟨fn, tmps, nt, todo, ds, u2, up, round⟩ H1) := fun hne =>
                  ⟨φ1, w1, { cfr with defers := ds', mode := fm2 }, cs, .head hstep (hsteps.trans (.one hst)), FRel.out hf1 hdr1 hm2 hne, hu.mono q2.1, CsStep.refl hu, rfl, rfl, q1, q2, q3, rfl⟩
                cases u2 with
                | run => trivial
                | returning => exact hgo2 (by simp)
                | panicking cc => exact hgo2 (by simp)
              cases ee with
              | ret v =>
                obtain ⟨v', rfl, hv⟩ := her
                simp only [outRes]
                exact hmid _ _ (settle_MR hmr) (step_going_returned hkd hgo)
              | pan ch =>
                obtain ⟨ch', rfl, hv⟩ := her
                simp only [outRes]
                exact hmid _ _ (raised_MR hmr hv) (step_going_panicked hgo)
          | _ => trivial
        · cases f <;> first
            | exact ⟨#[], cap', rfl, hy, rfl, hcap⟩
            | (cases hy; done)
end
end Go.Ev
