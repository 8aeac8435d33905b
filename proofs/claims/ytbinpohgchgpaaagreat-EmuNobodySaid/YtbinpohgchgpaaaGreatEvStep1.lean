/- Calls. -/
import Derived.Test.YtbinpohgchgpaaaGreatEvPar4
import Derived.RangeFuncRecord
namespace Go.Ev

def MR (φ : Phi) : AMode → FrameMode → Prop
  | .run, m => m = .run
  | .returning, m => m = .returning
  | .panicking c, m => ∃ c', m = .panicking c' ∧ CR φ c c'

def IR (φ : Phi) : AItem → Item → Prop
  | .code c, x => x = .code c
  | .inBlock id, x => x = .inBlock id
  | .inLoop b, x => x = .inLoop b
  | .inScope b, x => x = .inScope b
  | .inRangeFunc l, x => ∃ e, φ l = some e ∧ x = .inRangeFunc e.b
  | .endRangeFunc l, x => ∃ e, φ l = some e ∧ x = .endRangeFunc e.b
  | .beginRound, x => x = .beginRound
  | .seq ops i rest, x => x = .inRegion ops (List.range' i rest.length) ∧ rest = ops.toList.drop i

def IRs (φ : Phi) : List AItem → List Item → Prop
  | [], l => l = []
  | x :: xs, l => ∃ y ys, l = y :: ys ∧ IR φ x y ∧ IRs φ xs ys

def RR (φ : Phi) : Option Nat → Option Nat → Prop
  | none, r => r = none
  | some l, r => ∃ e, φ l = some e ∧ r = some e.b

def KR : Option AMode → CallKind → Prop
  | none, k => k = .normal
  | some _, k => k = .deferred

structure FR (φ : Phi) (fr : AFrame) (b : Frame) (a : Act) : Prop where
  fn : b.fn = fr.fn
  tr : TR φ fr.tmps fr.nt a.tmps
  dr : DRs φ fr.defers a.defers
  round : RR φ fr.round b.roundOf
  kind : KR fr.up b.kind
  alone : fr.up.isSome = true → fr.round = none

def FRel (φ : Phi) (fr : AFrame) (cfr : Frame) : Prop :=
  match fr.mode with
  | .run => ∃ (b : Frame) (a : Act) (todo : List Item), cfr = b.atR a todo ∧ FR φ fr b a ∧ IRs φ fr.todo todo
  | m => FR φ fr cfr ⟨cfr.tmps, cfr.defers⟩ ∧ MR φ m cfr.mode

def UpR (φ : Phi) (up : Option AMode) (cs : List Frame) : Prop :=
  match up with
  | none => True
  | some u => ∃ c cs', cs = c :: cs' ∧ MR φ u c.mode

def ER (φ : Phi) : Ended → Ending → Prop
  | .ret v, e => ∃ v', e = .returned v' ∧ VR φ v v'
  | .pan c, e => ∃ c', e = .panicked c' ∧ CR φ c c'

/-- How a call ends in the machine. -/
def EndOk (P : Program) (φ' : Phi) (w : World) (w' : World) (cfr : Frame) (cs : List Frame) (r : Res) : Option AMode → Option Nat → Prop
  | none, none => ∃ cfr' e', ER φ' r.e e' ∧ Steps P (lone cfr cs w) (lone cfr' cs w') ∧ cfr'.leaving P w' e' ∧ cfr'.fn = cfr.fn
  | some _, _ => ∃ c cs' uA u' cfr' e', cs = c :: cs' ∧ r.up = some uA ∧ MR φ' uA u' ∧ ER φ' r.e e' ∧ Steps P (lone cfr cs w) (lone cfr' ({ c with mode := u' } :: cs') w') ∧ cfr'.kind = .deferred ∧ cfr'.going P w' e'
  | none, some _ => ∀ c cs', cs = c :: cs' → match r.e with
    | .ret v => ∃ v', VR φ' v v' ∧ Steps P (lone cfr cs w) (lone (c.finish v') cs' w')
    | .pan ch => ∃ ch', CR φ' ch ch' ∧ Steps P (lone cfr cs w) (lone (c.raise ch') cs' w')

def RunOk (P : Program) (m bs : Nat) (φ : Phi) (H : AH) (w : World) (cfr : Frame) (cs : List Frame) (r : Res) (up : Option AMode) (round : Option Nat) : Prop :=
  ∃ φ' w', WR φ' bs r.H w' ∧ Ext m φ H φ' r.H ∧ Keep bs w w' ∧ EndOk P φ' w w' cfr cs r up round

def CallOK (P : Program) (call : AFrame → AH → Option Res) : Prop :=
  ∀ (fr : AFrame) (H : AH) (r : Res), call fr H = some r → ∀ (φ : Phi) (w : World) (m bs : Nat) (cfr : Frame) (cs : List Frame), WR φ bs H w → bs ≤ w.heap.size → m ≤ H.next → FRel φ fr cfr → UpR φ fr.up cs → RunOk P m bs φ H w cfr cs r fr.up fr.round

/-- What is known of calls holds of them. -/
def KnownOK (P : Program) (K : Known) : Prop :=
  ∀ (f : FuncId) (args : List AV) (H : AH) (v : AV) (H' : AH), K f args H = some (v, H') → ∀ (φ : Phi) (w : World) (m bs : Nat) (args' : Array Value) (cs : List Frame), VRs φ args args'.toList → WR φ bs H w → bs ≤ w.heap.size → m ≤ H.next →
    RunOk P m bs φ H w (Frame.enter P f args' .normal) cs ⟨.ret v, none, H'⟩ none none

structure CallerOK (P : Program) (call : Caller) : Prop where
  go : CallOK P call.go
  known : KnownOK P call.known

section
variable {P : Program} {call : Caller} {bs m : Nat} {H : AH} {φ : Phi} {w : World}

/-- A function is entered. -/
theorem enter_go {go : AFrame → AH → Option Res} (hc : CallOK P go) {f : FuncId} {args : List AV} {args' : Array Value} {up : Option AMode} {r : Res} (h : (enterA P f args up).bind (go · H) = some r) (ha : VRs φ args args'.toList) (hw : WR φ bs H w) (hb : bs ≤ w.heap.size) (hm : m ≤ H.next)
    {cs : List Frame} (hu : UpR φ up cs) {kind : CallKind} (hk : KR up kind) : RunOk P m bs φ H w (Frame.enter P f args' kind) cs r up none := by
  cases he : enterA P f args up with
  | none => rw [he] at h; cases h
  | some fr =>
    rw [he] at h
    simp only [Option.bind_some] at h
    unfold enterA at he
    split at he
    · rename_i fn hfn
      split at he
      · rename_i c hbody
        obtain ⟨hle, he⟩ := bif_some he
        have hle := Nat.le_of_ble_eq_true hle
        cases he
        have hlen : args'.size ≤ fn.ntmps := by
          have := ha.length
          simp at this
          omega
        refine hc _ H r h φ w m bs _ cs hw hb hm ?_ hu
        let b : Frame := { (default : Frame) with fn := f, kind := kind, roundOf := none }
        refine ⟨b, { tmps := args' ++ Array.replicate (fn.ntmps - args'.size) undef, defers := [] }, [.code c], ?_, ⟨rfl, ⟨?_, ?_⟩, rfl, rfl, hk, fun _ => rfl⟩, ⟨_, _, rfl, rfl, rfl⟩⟩
        · simp [Frame.enter, Frame.atR, hfn, hbody, b]
        · simp; omega
        · intro i x hx
          rw [Tr.get_ofList] at hx
          split at hx
          · rename_i hi
            simp only [Nat.sub_zero] at hx
            obtain ⟨v, h1, h2⟩ := ha.get hx
            refine ⟨v, ?_, h2⟩
            rw [Array.getElem?_append_left]
            · simpa using h1
            · have := (List.getElem?_eq_some_iff.1 h1).1
              simpa using this
          · cases hx
      · cases he
    · cases he

theorem enter_run (hc : CallerOK P call) {f : FuncId} {args : List AV} {args' : Array Value} {up : Option AMode} {r : Res} (h : enterCall P call f args up H = some r) (ha : VRs φ args args'.toList) (hw : WR φ bs H w) (hb : bs ≤ w.heap.size) (hm : m ≤ H.next)
    {cs : List Frame} (hu : UpR φ up cs) {kind : CallKind} (hk : KR up kind) : RunOk P m bs φ H w (Frame.enter P f args' kind) cs r up none := by
  unfold enterCall at h
  split at h
  · rename_i v H' hkn
    cases h
    have hk' : kind = .normal := hk
    subst hk'
    exact hc.known f args H v H' hkn φ w m bs args' cs ha hw hb hm
  · exact enter_go hc.go h ha hw hb hm hu hk

theorem foldl_none (nt : Nat) : ∀ l : List (Tmp × AV), l.foldl (fun t (p, a) => t.bind fun t => setDst nt t (some p) a) none = none
  | [] => rfl
  | _ :: l => by simp only [List.foldl_cons]; exact foldl_none nt l

theorem fold_TR {nt : Nat} : ∀ (ps : List Tmp) (as : List AV) (vs : List Value) {t t' : Tr AV} {tmps : Array Value}, VRs φ as vs → TR φ t nt tmps →
    (ps.zip as).foldl (fun t (p, a) => t.bind fun t => setDst nt t (some p) a) (some t) = some t' → TR φ t' nt ((ps.zip vs).foldl (fun tmps (t, a) => tmps.setIfInBounds t a) tmps)
  | [], as, vs, t, t', tmps, _, ht, h => by simp at h; subst h; simpa using ht
  | p :: ps, [], vs, t, t', tmps, ha, ht, h => by
    simp only [VRs] at ha
    subst ha
    simp at h
    subst h
    simpa using ht
  | p :: ps, a :: as, vs, t, t', tmps, ha, ht, h => by
    obtain ⟨v, vs', rfl, hv, hvs⟩ := ha
    simp only [List.zip_cons_cons, List.foldl_cons, Option.bind_some] at h ⊢
    cases hs : setDst nt t (some p) a with
    | none => rw [hs, foldl_none] at h; cases h
    | some t1 =>
      rw [hs] at h
      have := TR.put (a := ⟨tmps, []⟩) ht hs hv
      exact fold_TR ps as vs' hvs this h

/-- A round of a loop's body. -/
theorem round_run (hc : CallerOK P call) {l : Nat} {ob : AObj} {e : PE} {args : List AV} {args' : Array Value} {r : Res} (hob : H.obj l = some ob) (h : (roundFrame ob l args).bind (call.go · H) = some r) (he : φ l = some e) (ha : VRs φ args args'.toList)
    (hw : WR φ bs H w) (hb : bs ≤ w.heap.size) (hm : m ≤ H.next) (cs : List Frame) :
    ∃ f tmps assign body, (Instr.yield e.b args').run P w = .ok (.round e.b f tmps assign body) w ∧ RunOk P m bs φ H w (Frame.round e.b f tmps assign body .normal) cs r none (some l) := by
  unfold roundFrame at h
  split at h
  · rename_i st p fn tmps nt params assign body d
    cases hlen : Nat.beq args.length params.length with
    | false => rw [hlen] at h; cases h
    | true =>
      rw [hlen] at h
      simp only [cond_true] at h
      have hlen := Nat.eq_of_beq_eq_true hlen
      obtain ⟨o, hg, tmps', ed, rfl, hd, ht⟩ := hw.here l _ e hob he
      split at h
      · rename_i t' hfold
        simp only [Option.bind_some] at h
        have hsz : args'.size = params.length := by
          have := ha.length
          simp at this
          omega
        refine ⟨fn, (params.toArray.zip args').foldl (fun tmps (t, a) => tmps.setIfInBounds t a) tmps', assign, body, ?_, ?_⟩
        · exact run_yield hg (by simpa using hsz)
        · refine hc.go _ H r h φ w m bs _ cs hw hb hm ?_ trivial
          let b : Frame := { (default : Frame) with fn := fn, kind := .normal, roundOf := some e.b }
          refine ⟨b, { tmps := (params.toArray.zip args').foldl (fun tmps (t, a) => tmps.setIfInBounds t a) tmps', defers := [] }, [.code assign, .beginRound, .code body], ?_, ⟨rfl, ?_, rfl, ⟨e, he, rfl⟩, rfl, fun h => by cases h⟩, ⟨_, _, rfl, rfl, _, _, rfl, rfl, _, _, rfl, rfl, rfl⟩⟩
          · simp [Frame.round, Frame.atR, b]
          · have := fold_TR params args args'.toList ha ht hfold
            have e1 : (params.toArray.zip args').foldl (fun tmps (t, a) => tmps.setIfInBounds t a) tmps' = (params.zip args'.toList).foldl (fun tmps (t, a) => tmps.setIfInBounds t a) tmps' := by
              rw [← Array.foldl_toList, Array.toList_zip]
            rw [show (({ tmps := (params.toArray.zip args').foldl (fun tmps (t, a) => tmps.setIfInBounds t a) tmps', defers := [] } : Act)).tmps = _ from e1]
            exact this
      · cases h
  · cases h

theorem runOk_runs {fr : Frame} {c₀ c : Frame} {cs : List Frame} {w₀ : World} {r : Res} {round : Option Nat} (h : RunOk P m bs φ H w fr (c :: cs) r none round) (hs : Steps P (lone c₀ cs w₀) (lone fr (c :: cs) w)) (hk : Keep bs w₀ w) :
    ∃ φ' w', WR φ' bs r.H w' ∧ Ext m φ H φ' r.H ∧ Keep bs w₀ w' ∧ match r.e with
    | .ret v => ∃ v', VR φ' v v' ∧ Steps P (lone c₀ cs w₀) (lone (c.finish v') cs w')
    | .pan ch => ∃ c', CR φ' ch c' ∧ Steps P (lone c₀ cs w₀) (lone (c.raise c') cs w') := by
  obtain ⟨φ', w', h1, h2, h3, h4⟩ := h
  refine ⟨φ', w', h1, h2, hk.trans h3, ?_⟩
  cases round with
  | none =>
    obtain ⟨cfr', e', he, hst, hl, _⟩ := h4
    obtain ⟨e, up, H1⟩ := r
    cases e with
    | ret v =>
      obtain ⟨v', rfl, hv⟩ := he
      exact ⟨v', hv, hs.trans (hst.trans (.one (step_leave_returned hl)))⟩
    | pan ch =>
      obtain ⟨c', rfl, hv⟩ := he
      exact ⟨c', hv, hs.trans (hst.trans (.one (step_leave_panicked hl)))⟩
  | some l =>
    have := h4 c cs rfl
    obtain ⟨e, up, H1⟩ := r
    cases e with
    | ret v => obtain ⟨v', hv, hst⟩ := this; exact ⟨v', hv, hs.trans hst⟩
    | pan ch => obtain ⟨v', hv, hst⟩ := this; exact ⟨v', hv, hs.trans hst⟩

theorem ops_ok (hc : CallerOK P call) (b : Frame) (ops : Array Oper) (k : List Item) (cs : List Frame) : OpsOk P call b ops k cs bs := by
  intro a i rest o φ H w m out r hm hb ho hwant hw hsem hout hres
  cases out with
  | val v H' =>
    cases hres
    obtain ⟨φ', w', v', h1, h2, h3, h4, h5⟩ := hout
    refine ⟨φ', w', h3, h4, h5, v', h2, ?_⟩
    rw [finish_op ho]
    exact .one (step_op_value ho hwant (by rw [hsem]; exact h1))
  | enter f args =>
    obtain ⟨args', h1, h2⟩ := hout
    have := enter_run (cs := b.atR a (.inRegion ops (i :: rest) :: k) :: cs) hc hres h2 hw hb hm trivial (kind := .normal) rfl
    exact runOk_runs this (.one (step_op_enter ho hwant (by rw [hsem]; exact h1))) (Keep.refl _ _)
  | round l args =>
    obtain ⟨e, args', h0, h1, h2⟩ := hout
    simp only [doCall] at hres
    split at hres
    · rename_i ob hob
      obtain ⟨f, tmps, assign, body, g1, g2⟩ := round_run (m := m) hc hob hres h0 h2 hw hb hm (b.atR a (.inRegion ops (i :: rest) :: k) :: cs)
      exact runOk_runs g2 (.one (step_op_round ho hwant (by rw [hsem, h1]; exact g1))) (Keep.refl _ _)
    · cases hres
  | defer d => cases hres
  | panic v => cases hres
  | recover => cases hres
end
end Go.Ev
