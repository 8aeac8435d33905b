/- Steps of a frame: what changes no memory but a loop's record. -/
import Derived.Test.YtbinpohgchgpaaaGreatEvStep1
set_option linter.unusedVariables false
namespace Go.Ev

theorem CR.mono {φ ψ : Phi} (h : PLe φ ψ) : ∀ {c : Chain} {l : List PanicEntry}, CR φ c l → CR ψ c l
  | [], _, hc => hc
  | (v, r) :: c, l, hc => by
    obtain ⟨v', l', rfl, h1, h2⟩ := hc
    exact ⟨v', l', rfl, VR.mono h _ _ h1, CR.mono h h2⟩

theorem MR.mono {φ ψ : Phi} (h : PLe φ ψ) {m : AMode} {fm : FrameMode} (hm : MR φ m fm) : MR ψ m fm := by
  cases m with
  | run => exact hm
  | returning => exact hm
  | panicking c => obtain ⟨c', h1, h2⟩ := hm; exact ⟨c', h1, h2.mono h⟩

theorem IR.mono {φ ψ : Phi} (h : PLe φ ψ) {x : AItem} {y : Item} (hx : IR φ x y) : IR ψ x y := by
  cases x <;> first
    | exact hx
    | (obtain ⟨e, h1, h2⟩ := hx; exact ⟨e, h _ _ h1, h2⟩)

theorem IRs.mono {φ ψ : Phi} (h : PLe φ ψ) : ∀ {xs : List AItem} {ys : List Item}, IRs φ xs ys → IRs ψ xs ys
  | [], _, hx => hx
  | x :: xs, ys, hx => by
    obtain ⟨y, ys', rfl, h1, h2⟩ := hx
    exact ⟨y, ys', rfl, h1.mono h, IRs.mono h h2⟩

theorem RR.mono {φ ψ : Phi} (h : PLe φ ψ) {r r' : Option Nat} (hr : RR φ r r') : RR ψ r r' := by
  cases r with
  | none => exact hr
  | some l => obtain ⟨e, h1, h2⟩ := hr; exact ⟨e, h _ _ h1, h2⟩

theorem FR.mono {φ ψ : Phi} (h : PLe φ ψ) {fr : AFrame} {b : Frame} {a : Act} (hf : FR φ fr b a) : FR ψ fr b a :=
  ⟨hf.fn, hf.tr.mono h, hf.dr.mono h, hf.round.mono h, hf.kind, hf.alone⟩

theorem UpR.mono {φ ψ : Phi} (h : PLe φ ψ) {up : Option AMode} {cs : List Frame} (hu : UpR φ up cs) : UpR ψ up cs := by
  cases up with
  | none => trivial
  | some u => obtain ⟨c, cs', h1, h2⟩ := hu; exact ⟨c, cs', h1, h2.mono h⟩

/-- The callers: as they were, but for the mode of the one that a deferred call was made by. -/
def CsStep (up : Option AMode) (cs cs2 : List Frame) : Prop :=
  match up with
  | none => cs2 = cs
  | some _ => ∃ c cs' u, cs = c :: cs' ∧ cs2 = { c with mode := u } :: cs'

theorem CsStep.refl {φ : Phi} {up : Option AMode} {cs : List Frame} (h : UpR φ up cs) : CsStep up cs cs := by
  cases up with
  | none => rfl
  | some u => obtain ⟨c, cs', rfl, _⟩ := h; exact ⟨c, cs', c.mode, rfl, rfl⟩

def StepOk (P : Program) (m bs : Nat) (φ : Phi) (H : AH) (w : World) (fr : AFrame) (cfr : Frame) (cs : List Frame) : StepR → Prop
  | .go fr' H' => ∃ φ' w' cfr' cs2, Steps P (lone cfr cs w) (lone cfr' cs2 w') ∧ FRel φ' fr' cfr' ∧ UpR φ' fr'.up cs2 ∧ CsStep fr.up cs cs2 ∧ fr'.round = fr.round ∧ fr'.up.isSome = fr.up.isSome ∧
      WR φ' bs H' w' ∧ Ext m φ H φ' H' ∧ Keep bs w w' ∧ cfr'.fn = cfr.fn
  | .done r => RunOk P m bs φ H w cfr cs r fr.up fr.round
  | .stuck _ => True

section
variable {P : Program} {call : Caller} {bs m : Nat} {H H' : AH} {φ φ' : Phi} {w w' : World} {fr fr' : AFrame} {b : Frame} {a a' : Act} {todo todo' : List Item} {cs : List Frame}

theorem go_ok (hs : Steps P (lone (b.atR a todo) cs w) (lone (b.atR a' todo') cs w')) (hf : FR φ' fr' b a') (hr : fr'.mode = .run) (hi : IRs φ' fr'.todo todo') (hw : WR φ' bs H' w') (he : Ext m φ H φ' H') (hk : Keep bs w w')
    (hup : fr'.up = fr.up) (hro : fr'.round = fr.round) (hu : UpR φ fr.up cs) : StepOk P m bs φ H w fr (b.atR a todo) cs (.go fr' H') := by
  refine ⟨φ', w', b.atR a' todo', cs, hs, ?_, ?_, CsStep.refl hu, hro, by rw [hup], hw, he, hk, rfl⟩
  · unfold FRel
    rw [hr]
    exact ⟨b, a', todo', rfl, hf, hi⟩
  · rw [hup]; exact hu.mono he.1

/-- On with another list. -/
theorem to_ok {k : List AItem} (hrun : fr.mode = .run) (hs : Steps P (lone (b.atR a todo) cs w) (lone (b.atR a todo') cs w')) (hw' : w'.heap = w.heap) (hf : FR φ fr b a) (hi : IRs φ k todo') (hw : WR φ bs H w) (hu : UpR φ fr.up cs) (hst : Streams w w' := by exact ⟨rfl, rfl, rfl⟩) :
    StepOk P m bs φ H w fr (b.atR a todo) cs (to fr H k) := by
  obtain ⟨fn, tmps, nt, td, defers, mode, up, round⟩ := fr
  exact go_ok hs ⟨hf.fn, hf.tr, hf.dr, hf.round, hf.kind, hf.alone⟩ hrun hi (hw.same_heap hw') (Ext.refl _ _ _) (Keep.same_heap hw' hst) rfl rfl hu

theorem IRs.tail {x : AItem} {xs : List AItem} {ys : List Item} (h : IRs φ (x :: xs) ys) : ∃ y ys', ys = y :: ys' ∧ IR φ x y ∧ IRs φ xs ys' := h

theorem findLabel_same : ∀ (c : Code) (l : Nat), findLabel c l = findLabel c l := fun _ _ => rfl

theorem exit_some : ∀ {k : List AItem} {ys : List Item} {id : Nat}, IRs φ k ys → match exitToA id k with | some k' => ∃ ys', exitTo id ys = some ys' ∧ IRs φ k' ys' | none => exitTo id ys = none
  | [], ys, id, h => by cases h; rfl
  | x :: k, ys, id, h => by
    obtain ⟨y, ys', rfl, h1, h2⟩ := h
    have ih := exit_some (id := id) h2
    cases x with
    | inBlock id' =>
      cases h1
      simp only [exitToA, exitTo]
      by_cases he : (id' == id) = true
      · rw [if_pos he, if_pos he]; exact ⟨_, rfl, h2⟩
      · rw [if_neg he, if_neg he]; exact ih
    | code c => cases h1; exact ih
    | inLoop c => cases h1; exact ih
    | inScope c => cases h1; exact ih
    | inRangeFunc l => obtain ⟨e, _, rfl⟩ := h1; exact ih
    | endRangeFunc l => obtain ⟨e, _, rfl⟩ := h1; exact ih
    | beginRound => cases h1; exact ih
    | seq ops i l => obtain ⟨rfl, _⟩ := h1; exact ih

theorem goto_some : ∀ {k : List AItem} {ys : List Item} {l : Nat}, IRs φ k ys → match gotoInA l k with | some k' => ∃ ys', gotoIn l ys = some ys' ∧ IRs φ k' ys' | none => gotoIn l ys = none
  | [], ys, id, h => by cases h; rfl
  | x :: k, ys, id, h => by
    obtain ⟨y, ys', rfl, h1, h2⟩ := h
    have ih := goto_some (l := id) h2
    cases x with
    | inScope c =>
      cases h1
      simp only [gotoInA, gotoIn]
      cases hl : findLabel c id with
      | some rest => exact ⟨_, rfl, _, _, rfl, rfl, _, _, rfl, rfl, h2⟩
      | none => exact ih
    | code c => cases h1; exact ih
    | inLoop c => cases h1; exact ih
    | inBlock c => cases h1; exact ih
    | inRangeFunc l => obtain ⟨e, _, rfl⟩ := h1; exact ih
    | endRangeFunc l => obtain ⟨e, _, rfl⟩ := h1; exact ih
    | beginRound => cases h1; exact ih
    | seq ops i l => obtain ⟨rfl, _⟩ := h1; exact ih

/-- A loop's record is written. -/
theorem WR.loop (hw : WR φ bs H w) {l d : Nat} {st st' : LoopState} {p p' : Option Code} {fn : Nat} {tmps : Tr AV} {nt : Nat} {ps : List Tmp} {x y : Code} {e : PE} (he : φ l = some e) (ho : H.obj l = some (.loop st p fn tmps nt ps x y d)) :
    ∃ r : Loop, w.heap[e.b]? = some (.loop r) ∧ r.state = st ∧ r.pending = p ∧ WR φ bs (H.put l (.loop st' p' fn tmps nt ps x y d)) (w.putObj e.b (.loop { r with state := st', pending := p' })) ∧ Keep bs w (w.putObj e.b (.loop { r with state := st', pending := p' })) := by
  obtain ⟨o, hg, tmps', ed, rfl, hd, ht⟩ := hw.here l _ e ho he
  have hlt := (hw.lt l e he).1
  refine ⟨_, hg, rfl, rfl, ?_, ?_⟩
  · exact hw.put ho rfl he World.putObj_size (fun b hb => World.putObj_heap_other hb) ⟨_, World.putObj_heap_same hlt, tmps', ed, rfl, hd, ht⟩
  · exact Keep.of_put hw he World.putObj_size (fun b hb => World.putObj_heap_other hb)

/-- A frame is left. -/
theorem leave_ok (hrun : fr.mode = .run) (hf : FR φ fr b a) (hw : WR φ bs H w) (hu : UpR φ fr.up cs) {jump : Option Code}
    (h1 : b.roundOf = none → (jump = none ∨ jump = some .ret) → step P (lone (b.atR a todo) cs w) = .next (lone { b.atR a todo with mode := .returning } cs w))
    (h2 : ∀ l c cs' v w', cs = c :: cs' → b.roundOf = some l → b.kind = .normal → (Instr.endRound l jump).run P w = .ok v w' → step P (lone (b.atR a todo) (c :: cs') w) = .next (lone (c.finish v) cs' w')) :
    StepOk P m bs φ H w fr (b.atR a todo) cs (leaveA fr H jump) := by
  obtain ⟨fn, tmps, nt, td, defers, mode, up, round⟩ := fr
  cases hrun
  cases round with
  | none =>
    have hro : b.roundOf = none := hf.round
    have key : (jump = none ∨ jump = some .ret) → StepOk P m bs φ H w ⟨fn, tmps, nt, td, defers, .run, up, none⟩ (b.atR a todo) cs (.go ⟨fn, tmps, nt, td, defers, .returning, up, none⟩ H) := by
      intro hj
      refine ⟨φ, w, { b.atR a todo with mode := .returning }, cs, .one (h1 hro hj), ⟨⟨hf.fn, hf.tr, hf.dr, hf.round, hf.kind, hf.alone⟩, rfl⟩, hu, CsStep.refl hu, rfl, rfl, hw, Ext.refl _ _ _, Keep.refl _ _, rfl⟩
    simp only [leaveA]
    split
    · exact key (.inl rfl)
    · exact key (.inr rfl)
    · trivial
  | some l =>
    obtain ⟨e, he, hro⟩ := hf.round
    simp only [leaveA, leaveRound]
    split
    · rename_i st p lf lt ln ps x y d hob
      have hup : up = none := by
        cases up with
        | none => rfl
        | some u => have := hf.alone rfl; cases this
      subst hup
      have hst : (if jump.isNone then LoopState.ready else .done) = (bif jump.isNone then .ready else .done) := by cases jump <;> rfl
      obtain ⟨r, hg, _, _, hw2, hk2⟩ := hw.loop (st' := bif jump.isNone then .ready else .done) (p' := jump) he hob
      refine ⟨φ, _, hw2, Ext.put he _, hk2, ?_⟩
      intro c cs' hcs
      have hr := run_endRound (P := P) jump hg
      rw [hst] at hr
      subst hcs
      exact ⟨_, rfl, .one (h2 e.b c cs' _ _ rfl hro hf.kind hr)⟩
    · trivial

theorem leave_end (hrun : fr.mode = .run) (hf : FR φ fr b a) (hw : WR φ bs H w) (hu : UpR φ fr.up cs) : StepOk P m bs φ H w fr (b.atR a []) cs (leaveA fr H none) :=
  leave_ok hrun hf hw hu (fun hb _ => stepR_end hb) (fun l c cs' v w' _ hro hk hr => stepR_round_end hro hk hr)

theorem leave_ret (hrun : fr.mode = .run) (hf : FR φ fr b a) (hw : WR φ bs H w) (hu : UpR φ fr.up cs) {k : List Item} : StepOk P m bs φ H w fr (b.atR a (.code .ret :: k)) cs (leaveA fr H (some .ret)) :=
  leave_ok hrun hf hw hu (fun hb _ => stepR_ret hb) (fun l c cs' v w' _ hro hk hr => stepR_round_ret hro hk hr)

theorem leave_exit (hrun : fr.mode = .run) (hf : FR φ fr b a) (hw : WR φ bs H w) (hu : UpR φ fr.up cs) {k : List Item} {id : Nat} (hx : exitTo id k = none) : StepOk P m bs φ H w fr (b.atR a (.code (.exit id) :: k)) cs (leaveA fr H (some (.exit id))) :=
  leave_ok hrun hf hw hu (fun _ h => by rcases h with h | h <;> cases h) (fun l c cs' v w' _ hro hk hr => stepR_round_exit hro hk hx hr)

theorem leave_goto (hrun : fr.mode = .run) (hf : FR φ fr b a) (hw : WR φ bs H w) (hu : UpR φ fr.up cs) {k : List Item} {id : Nat} (hx : gotoIn id k = none) : StepOk P m bs φ H w fr (b.atR a (.code (.goto id) :: k)) cs (leaveA fr H (some (.goto id))) :=
  leave_ok hrun hf hw hu (fun _ h => by rcases h with h | h <;> cases h) (fun l c cs' v w' _ hro hk hr => stepR_round_goto hro hk hx hr)

theorem beginRound_ok (hrun : fr.mode = .run) (hf : FR φ fr b a) (hw : WR φ bs H w) (hu : UpR φ fr.up cs) {k : List AItem} {ks : List Item} (hi : IRs φ k ks) : StepOk P m bs φ H w fr (b.atR a (.beginRound :: ks)) cs (stepBeginRound fr H k) := by
  obtain ⟨fn, tmps, nt, td, defers, mode, up, round⟩ := fr
  cases hrun
  cases round with
  | none => trivial
  | some l =>
    obtain ⟨e, he, hro⟩ := hf.round
    simp only [stepBeginRound]
    split
    · rename_i p lf lt ln ps x y d hob
      obtain ⟨r, hg, hst, hp, hw2, hk2⟩ := hw.loop (st' := .busy) (p' := p) he hob
      have hr := run_beginRound (P := P) hg hst
      have e2 : ({ r with state := .busy, pending := p } : Loop) = { r with state := .busy } := by rw [← hp]
      rw [e2] at hw2 hk2
      exact go_ok (.one (stepR_beginRound hro hr)) ⟨hf.fn, hf.tr, hf.dr, hf.round, hf.kind, hf.alone⟩ rfl hi hw2 (Ext.put he _) hk2 rfl rfl hu
    · trivial

theorem endRange_ok (hrun : fr.mode = .run) (hf : FR φ fr b a) (hw : WR φ bs H w) (hu : UpR φ fr.up cs) {l : Nat} {e : PE} (he : φ l = some e) {k : List AItem} {ks : List Item} (hi : IRs φ k ks) : StepOk P m bs φ H w fr (b.atR a (.endRangeFunc e.b :: ks)) cs (stepEndRange fr H l k) := by
  have key : ∀ (st : LoopState) p lf lt ln ps x y d, H.obj l = some (.loop st p lf lt ln ps x y d) → st ≠ .busy → StepOk P m bs φ H w fr (b.atR a (.endRangeFunc e.b :: ks)) cs (to fr (H.put l (.loop .exhausted p lf lt ln ps x y d)) (pendingA p k)) := by
    intro st p lf lt ln ps x y d hob hst
    obtain ⟨r, hg, hst', hp, hw2, hk2⟩ := hw.loop (st' := .exhausted) (p' := p) he hob
    have hr := run_endLoop (P := P) hg (by rw [hst']; exact hst)
    rw [hp] at hr
    obtain ⟨fn, tmps, nt, td, defers, mode, up, round⟩ := fr
    cases hrun
    refine go_ok (.one (stepR_endRangeFunc hr)) ⟨hf.fn, hf.tr, hf.dr, hf.round, hf.kind, hf.alone⟩ rfl ?_ hw2 (Ext.put he _) hk2 rfl rfl hu
    cases p with
    | none => exact hi
    | some c => exact ⟨_, _, rfl, rfl, hi⟩
  unfold stepEndRange
  split
  · rename_i hob; exact key _ _ _ _ _ _ _ _ _ hob (by simp)
  · rename_i hob; exact key _ _ _ _ _ _ _ _ _ hob (by simp)
  · trivial
end
end Go.Ev
