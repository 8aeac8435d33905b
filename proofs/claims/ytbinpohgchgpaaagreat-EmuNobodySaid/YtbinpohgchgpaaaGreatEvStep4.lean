/- Steps: regions, ranges over functions, code. -/
import Derived.Test.YtbinpohgchgpaaaGreatEvStep3
set_option linter.unusedVariables false
namespace Go.Ev

section
variable {P : Program} {call : Caller} {bs m : Nat} {H H' : AH} {φ φ' : Phi} {w w' : World} {fr fr' : AFrame} {b : Frame} {a a' : Act} {todo todo' : List Item} {cs : List Frame}

theorem stepR_scope {c : Code} {k : List Item} : step P (lone (b.atR a (.code (.scope c) :: k)) cs w) = .next (lone (b.atR a (.code c :: .inScope c :: k)) cs w) :=
  step_lone_go (by simp [stepG, stepG.exec, Frame.atR])
theorem stepR_inScope {c : Code} {k : List Item} : step P (lone (b.atR a (.inScope c :: k)) cs w) = .next (lone (b.atR a k) cs w) :=
  step_lone_go (by simp [stepG, stepG.exec, Frame.atR])

theorem region_ok (hmix : P.follows .mixedOrders = true) (hc : CallerOK P call) (hrun : fr.mode = .run) (hf : FR φ fr b a) (hw : WR φ bs H w) (hb : bs ≤ w.heap.size) (hm : m ≤ H.next) (hu : UpR φ fr.up cs) {id : Nat} {ops : Array Oper} {draw : Bool} {k : List AItem} {ks : List Item}
    (hi : IRs φ k ks) : StepOk P m bs φ H w fr (b.atR a (.code (.region id ops draw) :: ks)) cs (stepRegion P call fr H ops draw k) := by
  cases draw with
  | false =>
    simp only [stepRegion, cond_false]
    refine to_ok hrun (.one stepR_region) rfl hf ⟨_, _, rfl, ⟨?_, rfl⟩, hi⟩ hw hu
    rw [Array.length_toList, List.range_eq_range']
  | true =>
    obtain ⟨fn, tmps, nt, td, defers, mode, up, round⟩ := fr
    cases hrun
    simp only [stepRegion, cond_true]
    cases hpl : plan ops with
    | none => trivial
    | some pl =>
      simp only
      have hw' : WR φ bs H { w with drawn := w.drawn + 1 } := hw.same_heap rfl
      have h0 := stepR_region_draw (P := P) (b := b) (a := a) (k := ks) (cs := cs) (w := w) (ops := ops) (id := id)
      have hpar := par_sound (call := call) (k := ks) hpl hmix (ops_ok (bs := bs) hc b ops ks cs) (w.tape w.drawn (.order b.fn id)) hw' hb hm hf.tr
      have hk0 : Keep bs w { w with drawn := w.drawn + 1 } := Keep.same_heap rfl
      generalize parLoop P call ops pl.ms tmps nt pl.order [] tmps H = r at hpar
      cases r with
      | stuck s => trivial
      | fin t H1 =>
        obtain ⟨φ1, w1, a1, g1, g2, g3, g4, g5, g6⟩ := hpar
        simp only [parDone]
        have hf1 := hf.mono g5.1
        exact go_ok (.head h0 (g1.trans (.one stepR_region_end))) ⟨hf.fn, g3, by rw [g2]; exact hf1.dr, hf1.round, hf.kind, hf.alone⟩ rfl (hi.mono g5.1) g4 g5 (hk0.trans g6) rfl rfl hu
      | pan c H1 =>
        obtain ⟨φ1, w1, a1, cl1, c1, g1, g2, g3, g4, g5, g6, g7⟩ := hpar
        simp only [parDone]
        exact raise_ok (fr := ⟨fn, tmps, nt, td, defers, .run, up, round⟩) (k := k) rfl (.head h0 g1) g2 g3 hf g7 g4 g5 (hk0.trans g6) hu

theorem DRs.append : ∀ {as : List ADef} {ds : List Deferred} {as' : List ADef} {ds' : List Deferred}, DRs φ as ds → DRs φ as' ds' → DRs φ (as ++ as') (ds ++ ds')
  | [], ds, as', ds', h, h' => by cases h; exact h'
  | x :: as, ds, as', ds', h, h' => by
    obtain ⟨d, ds1, rfl, h1, h2⟩ := h
    exact ⟨d, ds1 ++ ds', rfl, h1, DRs.append h2 h'⟩

/-- A range over a function: the loop's record is made, the function called. -/
theorem range_tail (hc : CallerOK P call) (hrun : fr.mode = .run) (hf : FR φ fr b a) (hu : UpR φ fr.up cs) {f : Operand} {params : Array Tmp} {assign body : Code} {k : List AItem} {ks : List Item} (hi : IRs φ k ks)
    {φ1 : Phi} {h : Tr AObj} {n : Nat} {w1 : World} {d : Nat} {ed : PE} {mark : List ADef} {mark' : List Deferred} (hw1 : WR φ1 bs ⟨h, n⟩ w1) (he1 : Ext m φ H φ1 ⟨h, n⟩) (hk1 : Keep bs w w1) (hb1 : bs ≤ w1.heap.size) (hm1 : m ≤ n) (hd : φ1 d = some ed) (hmark : DRs φ1 mark mark')
    (hel : (Instr.enterLoop b.fn a.tmps params assign body b.roundOf).run P w = .ok (w1.heap.size, mark') (w1.alloc (.loop { state := .ready, pending := none, fn := b.fn, tmps := a.tmps, params, assign, body, defers := ed.b }))) :
    StepOk P m bs φ H w fr (b.atR a (.code (.rangeFunc f params assign body) :: ks)) cs (enterLoopA P call fr f params assign body k (some (d, mark, ⟨h, n⟩))) := by
  obtain ⟨fn, tmps, nt, td, defers, mode, up, round⟩ := fr
  cases hrun
  simp only [enterLoopA]
  have hf1 := hf.mono he1.1
  have hfn : b.fn = fn := hf.fn
  obtain ⟨g1, g2, g3⟩ := hw1.make (m := m) (n := 0) (ob := .loop .ready none fn tmps nt params.toList assign body d) (o' := .loop { state := .ready, pending := none, fn := b.fn, tmps := a.tmps, params, assign, body, defers := ed.b }) hb1
    (fun ψ bb hψ => ⟨a.tmps, ed, by simp [hfn], hψ _ _ hd, hf1.tr.mono hψ⟩) hm1
  have hf2 := hf1.mono g2.1
  have he2 := he1.trans g2
  have hnext : (AH.mk h n).next = n := rfl
  rw [hnext] at g1 g2 hf2 he2
  have hyv : VR (bindAt φ1 n ⟨w1.heap.size, 0, 0⟩) (.yield n) (.func (.yield w1.heap.size) #[] #[]) := ⟨_, bindAt_same .., rfl⟩
  cases hr : (aval tmps f).bind fun g => (enterOnly (callA P g [.yield n])).bind (doCall P call (AH.new ⟨h, n⟩ (.loop .ready none fn tmps nt params.toList assign body d)) none) with
  | none => trivial
  | some r =>
    cases hg : aval tmps f with
    | none => rw [hg] at hr; cases hr
    | some g =>
      rw [hg] at hr
      simp only [Option.bind_some] at hr
      cases hca : callA P g [.yield n] with
      | none => rw [hca] at hr; cases hr
      | some out =>
        rw [hca] at hr
        have hgv := TR.rel hf2.tr [f] f (by simp) g hg
        have hcs := (callA_sound (P := P) (m := m) (base := bs) (H := AH.new ⟨h, n⟩ (.loop .ready none fn tmps nt params.toList assign body d)) (vargs := #[.func (.yield w1.heap.size) #[] #[]]) hca hgv ⟨_, _, rfl, hyv, rfl⟩).1
          (w1.alloc (.loop { state := .ready, pending := none, fn := b.fn, tmps := a.tmps, params, assign, body, defers := ed.b }))
        cases out with
        | enter g' args =>
          simp only [enterOnly, Option.bind_some] at hr
          obtain ⟨args', h1, h2⟩ := hcs
          rw [Sem.run_bind] at h1
          cases hdv : (Deferred.ofValue (a.eval f) #[.func (.yield w1.heap.size) #[] #[]]).run P (w1.alloc (.loop { state := .ready, pending := none, fn := b.fn, tmps := a.tmps, params, assign, body, defers := ed.b })) with
          | halt x w2 => rw [hdv] at h1; cases h1
          | ok d2 w2 =>
            rw [hdv] at h1
            simp only [Result.andThen_ok] at h1
            have hstep := stepR_rangeFunc (P := P) (b := b) (a := a) (k := ks) (cs := cs) (w := w) (g := f) hel (d := d2) (w₁' := w2) (by
              have hk : a.eval (.const (.func (.yield w1.heap.size) #[] #[])) = .func (.yield w1.heap.size) #[] #[] := rfl
              simpa [resolve, rangeCall, hk] using hdv) h1
            have hrk := enter_run (cs := b.atR { a with defers := mark' ++ a.defers } (.inRangeFunc w1.heap.size :: ks) :: cs) (m := m) hc hr h2 g1 (Nat.le_trans hb1 g3.1) (Nat.le_trans hm1 g2.2.1) trivial (kind := .normal) rfl
            obtain ⟨φ3, w3, q1, q2, q3, q4⟩ := runOk_runs hrk (.one hstep) (hk1.trans g3)
            have hf3 := hf2.mono q2.1
            have he3 := he2.trans q2
            have hn3 : φ3 n = some ⟨w1.heap.size, 0, 0⟩ := q2.1 _ _ (bindAt_same ..)
            have hmk3 : DRs φ3 (mark ++ defers) (mark' ++ a.defers) := ((hmark.mono g2.1).mono q2.1).append hf3.dr
            obtain ⟨e, up', H3⟩ := r
            cases e with
            | ret v =>
              obtain ⟨v', hv, hsteps⟩ := q4
              rw [finish_atR_inRangeFunc] at hsteps
              exact go_ok hsteps ⟨hf.fn, hf3.tr, hmk3, hf3.round, hf.kind, hf.alone⟩ rfl ⟨_, _, rfl, ⟨_, hn3, rfl⟩, hi.mono he3.1⟩ q1 he3 q3 rfl rfl hu
            | pan c =>
              obtain ⟨c', hcr, hsteps⟩ := q4
              exact ⟨φ3, w3, _, cs, hsteps, ⟨⟨hf.fn, hf3.tr, hmk3, hf3.round, hf.kind, hf.alone⟩, ⟨c', rfl, hcr⟩⟩, hu.mono he3.1, CsStep.refl hu, rfl, rfl, q1, he3, q3, rfl⟩
        | _ => cases hr

theorem rangeFunc_ok (hc : CallerOK P call) (hrun : fr.mode = .run) (hf : FR φ fr b a) (hw : WR φ bs H w) (hb : bs ≤ w.heap.size) (hm : m ≤ H.next) (hu : UpR φ fr.up cs) {f : Operand} {params : Array Tmp} {assign body : Code} {k : List AItem} {ks : List Item}
    (hi : IRs φ k ks) : StepOk P m bs φ H w fr (b.atR a (.code (.rangeFunc f params assign body) :: ks)) cs (stepRangeFunc P call fr H f params assign body k) := by
  obtain ⟨fn, tmps, nt, td, defers, mode, up, round⟩ := fr
  cases hrun
  simp only [stepRangeFunc]
  cases round with
  | none =>
    obtain ⟨h, n⟩ := H
    simp only [loopMark]
    obtain ⟨g1, g2, g3⟩ := hw.make (m := m) (n := 0) (ob := .deferred (some [])) (o' := .deferred (some [])) hb (fun ψ bb hψ => ⟨[], rfl, rfl⟩) hm
    have hro : b.roundOf = none := hf.round
    have hel := run_enterLoop_outer (P := P) (w := w) b.fn a.tmps params assign body
    rw [← hro] at hel
    have hsz : (w.alloc (.deferred (some []))).heap.size = w.heap.size + 1 := alloc_size _ _
    rw [← hsz] at hel
    exact range_tail hc rfl hf hu hi g1 g2 g3 (Nat.le_trans hb g3.1) (Nat.le_trans hm g2.2.1) (bindAt_same ..) ⟨_, _, rfl, ⟨_, bindAt_same .., rfl⟩, rfl⟩ hel
  | some l =>
    obtain ⟨e, he, hro⟩ := hf.round
    simp only [loopMark]
    cases hob : H.obj l with
    | none => trivial
    | some ob =>
      cases ob with
      | loop st p lf lt ln ps x y d =>
        simp only
        obtain ⟨o, hg, tmps', ed, rfl, hd, ht⟩ := hw.here l _ e hob he
        obtain ⟨h, n⟩ := H
        refine range_tail hc rfl hf hu hi hw (Ext.refl _ _ _) (Keep.refl _ _) hb hm hd (mark' := []) rfl ?_
        rw [hro]
        unfold Instr.enterLoop
        simp only [Sem.run_bind, run_getLoop hg, run_newObj_alloc, Result.andThen, Sem.run_pure]
      | _ => trivial

/-- Code. -/
theorem code_ok (hmix : P.follows .mixedOrders = true) (hc : CallerOK P call) (hrun : fr.mode = .run) (hf : FR φ fr b a) (hw : WR φ bs H w) (hb : bs ≤ w.heap.size) (hm : m ≤ H.next) (hu : UpR φ fr.up cs) {c : Code} {k : List AItem} {ks : List Item}
    (hi : IRs φ k ks) : StepOk P m bs φ H w fr (b.atR a (.code c :: ks)) cs (stepCode P call fr H k c) := by
  cases c with
  | ret => exact leave_ret hrun hf hw hu
  | skip => exact to_ok hrun (.one stepR_skip) rfl hf hi hw hu
  | label l => exact to_ok hrun (.one stepR_label) rfl hf hi hw hu
  | seq x y => exact to_ok hrun (.one stepR_seq) rfl hf ⟨_, _, rfl, rfl, _, _, rfl, rfl, hi⟩ hw hu
  | cond c thn els =>
    simp only [stepCode]
    cases hv : aval fr.tmps c with
    | none => trivial
    | some v =>
      cases v with
      | bool t =>
        have := TR.rel hf.tr [c] c (by simp) _ hv
        simp only [VR] at this
        refine to_ok hrun (.one (stepR_cond this)) rfl hf ⟨_, _, rfl, ?_, hi⟩ hw hu
        cases t <;> rfl
      | _ => trivial
  | block id body => exact to_ok hrun (.one stepR_block) rfl hf ⟨_, _, rfl, rfl, _, _, rfl, rfl, hi⟩ hw hu
  | loop body => exact to_ok hrun (.one stepR_loop) rfl hf ⟨_, _, rfl, rfl, _, _, rfl, rfl, hi⟩ hw hu
  | scope body => exact to_ok hrun (.one stepR_scope) rfl hf ⟨_, _, rfl, rfl, _, _, rfl, rfl, hi⟩ hw hu
  | exit id =>
    have := exit_some (id := id) hi
    simp only [stepCode]
    cases hx : exitToA id k with
    | none =>
      rw [hx] at this
      exact leave_exit hrun hf hw hu this
    | some k' =>
      rw [hx] at this
      obtain ⟨ys', h1, h2⟩ := this
      exact to_ok hrun (.one (stepR_exit h1)) rfl hf h2 hw hu
  | goto l =>
    have := goto_some (l := l) hi
    simp only [stepCode]
    cases hx : gotoInA l k with
    | none =>
      rw [hx] at this
      exact leave_goto hrun hf hw hu this
    | some k' =>
      rw [hx] at this
      obtain ⟨ys', h1, h2⟩ := this
      exact to_ok hrun (.one (stepR_goto h1)) rfl hf h2 hw hu
  | region id ops draw => exact region_ok hmix hc hrun hf hw hb hm hu hi
  | rangeFunc f params assign body => exact rangeFunc_ok hc hrun hf hw hb hm hu hi
  | refuse why => trivial

/-- A frame that runs. -/
theorem stepRun_ok (hmix : P.follows .mixedOrders = true) (hc : CallerOK P call) (hrun : fr.mode = .run) (hf : FR φ fr b a) (hw : WR φ bs H w) (hb : bs ≤ w.heap.size) (hm : m ≤ H.next) (hu : UpR φ fr.up cs) (hi : IRs φ fr.todo todo) :
    StepOk P m bs φ H w fr (b.atR a todo) cs (stepRun P call fr H) := by
  obtain ⟨fn, tmps, nt, td, defers, mode, up, round⟩ := fr
  cases td with
  | nil =>
    cases hi
    exact leave_end hrun hf hw hu
  | cons x k =>
    obtain ⟨y, ks, rfl, h1, h2⟩ := hi
    simp only [stepRun]
    cases x with
    | code c => cases h1; exact code_ok hmix hc hrun hf hw hb hm hu h2
    | inBlock id => cases h1; exact to_ok hrun (.one stepR_inBlock) rfl hf h2 hw hu
    | inScope c => cases h1; exact to_ok hrun (.one stepR_inScope) rfl hf h2 hw hu
    | inLoop c => cases h1; exact to_ok hrun (.one stepR_inLoop) rfl hf ⟨_, _, rfl, rfl, _, _, rfl, rfl, h2⟩ hw hu
    | inRangeFunc l => trivial
    | endRangeFunc l => obtain ⟨e, he, rfl⟩ := h1; exact endRange_ok hrun hf hw hu he h2
    | beginRound => cases h1; exact beginRound_ok hrun hf hw hu h2
    | seq ops i l =>
      obtain ⟨rfl, hdrop⟩ := h1
      cases l with
      | nil => exact to_ok hrun (.one stepR_region_end) rfl hf h2 hw hu
      | cons o rest => exact seq_ok hc hrun hf hw hb hm hu hdrop h2
end
end Go.Ev
