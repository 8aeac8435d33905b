/- The evaluator's loop once more, with its branches laid out for the kernel: the same function. -/
import Derived.Test.YtbinpohgchgpaaaGreatEv
namespace Go.Ev
noncomputable section

def avalF (tmps : Tr AV) (x : Operand) : Option AV :=
  @Operand.rec (fun _ => Tr AV → Option AV) (fun t tmps => Tr.get tmps t) (fun v _ => conv v) (fun g _ => some (.glob g)) (fun f _ => some (.func (.func f) [] [])) x tmps
theorem avalF_eq : avalF = aval := by funext t x; cases x <;> rfl

abbrev RdT := Program → (Operand → Option AV) → AH → Option AV
def readNo : RdT := fun _ _ _ => none
def readF (op : Op) : RdT :=
  @Op.rec (fun _ => RdT)
    (fun x _ ρ _ => ρ x) -- move
    (fun x _ ρ _ => ρ x) -- assign
    (fun c a b _ ρ _ => lPick ρ c a b)
    (fun _ => readNo) -- alloc
    (fun _ _ => readNo) -- box
    (fun t parts P ρ _ => lBuild P ρ t parts)
    (fun _ _ _ => readNo) -- buildSlice
    (fun _ _ _ _ => readNo) -- insert
    (fun t a P ρ H => lLoad P ρ H t a)
    (fun _ _ _ => readNo) -- store
    (fun _ => readNo) (fun _ => readNo) -- ready waits
    (fun x _ ρ _ => lNilCheck ρ x)
    (fun op t x y _ P ρ _ => lBin P ρ op t x y)
    (fun op _ x P ρ _ => lUn P ρ op x)
    (fun src dst x P ρ _ => lConvert P ρ src dst x)
    (fun _ _ => readNo) -- sliceToArrayPointer
    (fun t x P ρ _ => lMakeInterface P ρ t x)
    (fun fn first captured _ ρ _ => lMakeFunc ρ fn first captured)
    (fun _ _ => readNo) -- makeMap
    (fun _ _ => readNo) -- makeChan
    (fun _ _ _ => readNo) -- makeSlice
    (fun t x lo hi mx P ρ H => lSlice P ρ H t x lo hi mx)
    (fun s x f P ρ _ => lFieldAddr P ρ s x f)
    (fun t x f P ρ _ => lField P ρ t x f)
    (fun t x i P ρ _ => lIndexAddr P ρ t x i)
    (fun t x i P ρ _ => lIndex P ρ t x i)
    (fun t x k ok P ρ H => lLookup P ρ H t x k ok)
    (fun _ _ _ _ => readNo) -- mapUpdate
    (fun _ _ _ => readNo) -- mapEntry
    (fun _ _ _ _ => readNo) -- entryStore
    (fun _ _ => readNo) -- range
    (fun _ _ => readNo) -- next
    (fun _ => readNo) -- entry
    (fun x _ asserted ok P ρ _ => lTypeAssert P ρ x asserted ok)
    (fun x i _ ρ _ => lExtract ρ x i)
    (fun c P ρ H => readA P ρ H (.call c))
    (fun _ => readNo) -- go
    (fun _ => readNo) -- defer
    (fun _ => readNo) -- panic
    (fun _ _ => readNo) -- send
    (fun _ _ _ => readNo) -- recv
    (fun _ _ => readNo) -- select
    op
theorem readF_eq (op : Op) (P : Program) (ρ : Operand → Option AV) (H : AH) : readF op P ρ H = readA P ρ H op := by
  cases op <;> rfl

abbrev HvT := Program → (Operand → Option AV) → AH → Option Out
def heavyNo : HvT := fun _ _ _ => none
def heavyF (op : Op) : HvT :=
  @Op.rec (fun _ => HvT)
    (fun _ => heavyNo) (fun _ => heavyNo) (fun _ _ _ => heavyNo) (fun _ => heavyNo) (fun _ _ => heavyNo) (fun _ _ => heavyNo) (fun _ _ _ => heavyNo)
    (fun t m k x P ρ H => hMapUpdate P ρ H t m k x) -- insert
    (fun _ _ => heavyNo) -- load
    (fun t a x P ρ H => hStore P ρ H t a x)
    (fun _ => heavyNo) (fun _ => heavyNo) (fun _ => heavyNo) (fun _ _ _ _ _ => heavyNo) (fun _ _ _ => heavyNo) (fun _ _ _ => heavyNo) (fun _ _ => heavyNo) (fun _ _ => heavyNo) (fun _ _ _ => heavyNo)
    (fun _ _ => heavyNo) (fun _ _ => heavyNo) (fun _ _ _ => heavyNo) (fun _ _ _ _ _ => heavyNo) (fun _ _ _ => heavyNo) (fun _ _ _ => heavyNo) (fun _ _ _ => heavyNo) (fun _ _ _ => heavyNo) (fun _ _ _ _ => heavyNo)
    (fun t m k x P ρ H => hMapUpdate P ρ H t m k x) -- mapUpdate
    (fun t m k P ρ H => hMapEntry P ρ H t m k)
    (fun _ m s x _ ρ H => hEntryStore ρ H m s x)
    (fun t x P ρ H => hRange P ρ H t x)
    (fun it isString _ ρ H => hNext ρ H it isString)
    (fun it _ ρ H => hEntry ρ H it)
    (fun _ _ _ _ => heavyNo) (fun _ _ => heavyNo)
    (fun c P ρ H => hCall P ρ H c)
    (fun _ => heavyNo)
    (fun c _ ρ _ => hDefer ρ c)
    (fun x _ ρ _ => hPanic ρ x)
    (fun _ _ => heavyNo) (fun _ _ _ => heavyNo) (fun _ _ => heavyNo)
    op
theorem heavyF_eq (op : Op) (P : Program) (ρ : Operand → Option AV) (H : AH) : heavyF op P ρ H = heavy P ρ H op := by
  cases op <;> rfl

/-! A value goes into its slot. -/
abbrev SeqT := Nat → Tr AV → Nat → List ADef → AMode → Option AMode → Option Nat → List AItem → AV → AH → StepR
def onSeqNo : SeqT := fun fn tmps nt defers mode up round todo _ H => .go ⟨fn, tmps, nt, todo, defers, mode, up, round⟩ H
def onSeqSet (d : Tmp) : SeqT := fun fn tmps nt defers mode up round todo v H => .go ⟨fn, tmps.set d v, nt, todo, defers, mode, up, round⟩ H
def onSeqStuck (_ : Tmp) : SeqT := fun _ _ _ _ _ _ _ _ _ _ => .stuck "dst"
def onSeqYes (d : Tmp) : SeqT := fun fn tmps nt => @Bool.rec (fun _ => Tmp → SeqT) onSeqStuck onSeqSet (Nat.ble (Nat.succ d) nt) d fn tmps nt
def onSeq1 : Nat → Tr AV → Nat → List AItem → List ADef → AMode → Option AMode → Option Nat → Oper → List AItem → AV → AH → StepR :=
  fun fn tmps nt _ defers mode up round o todo v H => @Option.rec Tmp (fun _ => SeqT) onSeqNo onSeqYes (Oper.dst o) fn tmps nt defers mode up round todo v H
def onSeqF (fr : AFrame) (o : Oper) (todo : List AItem) (v : AV) (H : AH) : StepR :=
  @AFrame.rec (fun _ => Oper → List AItem → AV → AH → StepR) onSeq1 fr o todo v H
theorem onSeqF_eq (fr : AFrame) (o : Oper) (todo : List AItem) (v : AV) (H : AH) : onSeqF fr o todo v H = onSeq fr o todo v H := by
  obtain ⟨fn, tmps, nt, td, defers, mode, up, round⟩ := fr
  show @Option.rec Tmp (fun _ => SeqT) onSeqNo onSeqYes (Oper.dst o) fn tmps nt defers mode up round todo v H = _
  unfold onSeq setDst
  cases o.dst with
  | none => rfl
  | some d =>
    show @Bool.rec (fun _ => Tmp → SeqT) onSeqStuck onSeqSet (Nat.ble (d + 1) nt) d fn tmps nt defers mode up round todo v H =
      (match (bif Nat.ble (d + 1) nt then some (tmps.set d v) else none) with
        | some t => StepR.go ⟨fn, t, nt, todo, defers, mode, up, round⟩ H
        | none => .stuck "dst")
    cases Nat.ble (d + 1) nt <;> rfl

def seqReadNo : AFrame → Oper → List AItem → AH → StepR := fun _ _ _ _ => .stuck "read"
def seqReadYes : AV → AFrame → Oper → List AItem → AH → StepR := fun v fr o todo H => onSeqF fr o todo v H
def seqReadF (r : Option AV) (fr : AFrame) (o : Oper) (todo : List AItem) (H : AH) : StepR :=
  @Option.rec AV (fun _ => AFrame → Oper → List AItem → AH → StepR) seqReadNo seqReadYes r fr o todo H
theorem seqReadF_eq (r : Option AV) (fr : AFrame) (o : Oper) (todo : List AItem) (H : AH) : seqReadF r fr o todo H = seqRead fr o todo H r := by
  cases r with
  | none => rfl
  | some v => exact onSeqF_eq fr o todo v H

/-! An operation in its turn. -/
abbrev OpT := Program → Caller → AFrame → AH → Array Oper → Nat → Oper → List Oper → List AItem → StepR
def opRead : OpT := fun P _ fr H ops i o rest k => seqReadF (readF (Oper.op o) P (avalF (AFrame.tmps fr)) H) fr o (.seq ops (Nat.succ i) rest :: k) H
def opMake : OpT := fun P _ fr H ops i o rest k => seqMake fr o (.seq ops (Nat.succ i) rest :: k) H (made P (avalF (AFrame.tmps fr)) (Oper.op o))
def opHeavy : OpT := fun P call fr H ops i o rest k => seqHeavy P call fr o (.seq ops (Nat.succ i) rest :: k) H (heavyF (Oper.op o) P (avalF (AFrame.tmps fr)) H)
def opMakeOr : OpT := fun P call fr H ops i o => @Bool.rec (fun _ => OpT) opHeavy opMake (isMake (Oper.op o)) P call fr H ops i o
def opWanted : OpT := fun P call fr H ops i o => @Bool.rec (fun _ => OpT) opMakeOr opRead (isRead (Oper.op o)) P call fr H ops i o
def opPass : OpT := fun _ _ fr H ops i o rest k => onSeqF fr o (.seq ops (Nat.succ i) rest :: k) .undef H
def opGuard : OpT := fun _ _ _ _ _ _ _ _ _ => .stuck "guard"
def opIf (b : Bool) : OpT := @Bool.rec (fun _ => OpT) opPass opWanted b
def opAsk : OpT := fun P call fr H ops i o => @Option.rec Bool (fun _ => OpT) opGuard opIf (wantedA ops o (Tr.get (AFrame.tmps fr))) P call fr H ops i o
def opGuarded (_ : Nat × Bool) : OpT := opAsk
def stepSeqF : OpT := fun P call fr H ops i o => @Option.rec (Nat × Bool) (fun _ => OpT) opWanted opGuarded (Oper.guard o) P call fr H ops i o

theorem opWanted_eq (P : Program) (call : Caller) (fr : AFrame) (H : AH) (ops : Array Oper) (i : Nat) (o : Oper) (rest : List Oper) (k : List AItem) :
    opWanted P call fr H ops i o rest k = (bif isRead o.op then seqRead fr o (.seq ops (Nat.succ i) rest :: k) H (readA P (aval fr.tmps) H o.op)
        else bif isMake o.op then seqMake fr o (.seq ops (Nat.succ i) rest :: k) H (made P (aval fr.tmps) o.op)
        else seqHeavy P call fr o (.seq ops (Nat.succ i) rest :: k) H (heavy P (aval fr.tmps) H o.op)) := by
  unfold opWanted
  cases isRead o.op with
  | true => show seqReadF _ _ _ _ _ = _; rw [seqReadF_eq, readF_eq, avalF_eq]; rfl
  | false =>
    show opMakeOr _ _ _ _ _ _ _ _ _ = _
    unfold opMakeOr
    cases isMake o.op with
    | true => show seqMake _ _ _ _ _ = _; rw [avalF_eq]; rfl
    | false => show seqHeavy _ _ _ _ _ _ _ = _; rw [heavyF_eq, avalF_eq]; rfl

theorem stepSeqF_eq (P : Program) (call : Caller) (fr : AFrame) (H : AH) (ops : Array Oper) (i : Nat) (o : Oper) (rest : List Oper) (k : List AItem) :
    stepSeqF P call fr H ops i o rest k = stepSeq P call fr H ops i o rest k := by
  obtain ⟨fn, tmps, nt, td, defers, mode, up, round⟩ := fr
  unfold stepSeq
  have key : ∀ (w : Option Bool), @Option.rec Bool (fun _ => OpT) opGuard opIf w P call ⟨fn, tmps, nt, td, defers, mode, up, round⟩ H ops i o rest k = (match w with
      | none => .stuck "guard"
      | some b => bif b then
          bif isRead o.op then seqRead ⟨fn, tmps, nt, td, defers, mode, up, round⟩ o (.seq ops (Nat.succ i) rest :: k) H (readA P (aval tmps) H o.op)
          else bif isMake o.op then seqMake ⟨fn, tmps, nt, td, defers, mode, up, round⟩ o (.seq ops (Nat.succ i) rest :: k) H (made P (aval tmps) o.op)
          else seqHeavy P call ⟨fn, tmps, nt, td, defers, mode, up, round⟩ o (.seq ops (Nat.succ i) rest :: k) H (heavy P (aval tmps) H o.op)
        else onSeq ⟨fn, tmps, nt, td, defers, mode, up, round⟩ o (.seq ops (Nat.succ i) rest :: k) .undef H) := by
    intro w
    cases w with
    | none => rfl
    | some b =>
      cases b with
      | true => exact opWanted_eq P call _ H ops i o rest k
      | false => exact onSeqF_eq ⟨fn, tmps, nt, td, defers, mode, up, round⟩ o _ _ _
  have hk : stepSeqF P call ⟨fn, tmps, nt, td, defers, mode, up, round⟩ H ops i o rest k =
      @Option.rec Bool (fun _ => OpT) opGuard opIf (wantedA ops o tmps.get) P call ⟨fn, tmps, nt, td, defers, mode, up, round⟩ H ops i o rest k := by
    unfold stepSeqF
    cases hg : o.guard with
    | none =>
      have hw : wantedA ops o tmps.get = some true := by unfold wantedA; rw [hg]
      rw [hw]
      rfl
    | some g => rfl
  rw [hk]
  exact key _

/-! Code. -/
def toF1 : Nat → Tr AV → Nat → List AItem → List ADef → AMode → Option AMode → Option Nat → AH → List AItem → StepR :=
  fun fn tmps nt _ defers mode up round H k => .go ⟨fn, tmps, nt, k, defers, mode, up, round⟩ H
def toF (fr : AFrame) (H : AH) (k : List AItem) : StepR := @AFrame.rec (fun _ => AH → List AItem → StepR) toF1 fr H k
theorem toF_eq (fr : AFrame) (H : AH) (k : List AItem) : toF fr H k = to fr H k := by cases fr; rfl

abbrev CdT := Program → Caller → AFrame → AH → List AItem → StepR
def cSkip : CdT := fun _ _ fr H k => toF fr H k
def cRegion (_ : Nat) (ops : Array Oper) (draw : Bool) : CdT :=
  @Bool.rec (fun _ => Array Oper → CdT) (fun ops _ _ fr H k => toF fr H (.seq ops 0 (Array.toList ops) :: k)) (fun ops P call fr H k => stepRegion P call fr H ops true k) draw ops
def stepCodeF (c : Code) : CdT :=
  @Code.rec (fun _ => CdT)
    cSkip
    cRegion
    (fun a b _ _ _ _ fr H k => toF fr H (.code a :: .code b :: k))
    (fun c thn els _ _ _ _ fr H k => stepCond fr H thn els k (avalF (AFrame.tmps fr) c))
    (fun id body _ _ _ fr H k => toF fr H (.code body :: .inBlock id :: k))
    (fun body _ _ _ fr H k => toF fr H (.code body :: .inLoop body :: k))
    (fun f params assign body _ _ P call fr H k => stepRangeFunc P call fr H f params assign body k)
    (fun id _ _ fr H k => stepJump fr H (.exit id) (exitToA id k))
    (fun body _ _ _ fr H k => toF fr H (.code body :: .inScope body :: k))
    (fun _ => cSkip)
    (fun l _ _ fr H k => stepJump fr H (.goto l) (gotoInA l k))
    (fun _ _ fr H _ => leaveA fr H (some .ret))
    (fun _ _ _ _ _ _ => .stuck "refuse")
    c
theorem stepCodeF_eq (c : Code) (P : Program) (call : Caller) (fr : AFrame) (H : AH) (k : List AItem) : stepCodeF c P call fr H k = stepCode P call fr H k c := by
  cases c <;> first
    | exact toF_eq _ _ _
    | (show stepCond _ _ _ _ _ _ = _; rw [avalF_eq]; rfl)
    | rfl
    | skip
  case region id ops draw =>
    cases draw
    · exact toF_eq _ _ _
    · rfl

def iSeqNil : Program → Caller → AFrame → AH → Array Oper → Nat → List AItem → StepR := fun _ _ fr H _ _ k => toF fr H k
def iSeqCons (o : Oper) (rest : List Oper) (_ : Program → Caller → AFrame → AH → Array Oper → Nat → List AItem → StepR) : Program → Caller → AFrame → AH → Array Oper → Nat → List AItem → StepR :=
  fun P call fr H ops i k => stepSeqF P call fr H ops i o rest k
def iSeq (ops : Array Oper) (i : Nat) (l : List Oper) : CdT := fun P call fr H k =>
  @List.rec Oper (fun _ => Program → Caller → AFrame → AH → Array Oper → Nat → List AItem → StepR) iSeqNil iSeqCons l P call fr H ops i k
def stepItemF (x : AItem) : CdT :=
  @AItem.rec (fun _ => CdT)
    stepCodeF
    (fun _ => cSkip)
    (fun body _ _ fr H k => toF fr H (.code body :: .inLoop body :: k))
    (fun _ => cSkip)
    (fun _ _ _ _ _ _ => .stuck "inRangeFunc")
    (fun l _ _ fr H k => stepEndRange fr H l k)
    (fun _ _ fr H k => stepBeginRound fr H k)
    iSeq
    x
theorem stepItemF_eq (x : AItem) (P : Program) (call : Caller) (fr : AFrame) (H : AH) (k : List AItem) : stepItemF x P call fr H k = stepItem P call fr H k x := by
  cases x <;> first
    | exact stepCodeF_eq _ _ _ _ _ _
    | exact toF_eq _ _ _
    | rfl
    | skip
  case seq ops i l =>
    cases l with
    | nil => exact toF_eq _ _ _
    | cons o rest => exact stepSeqF_eq _ _ _ _ _ _ _ _ _

def rNil : Program → Caller → AFrame → AH → StepR := fun _ _ fr H => leaveA fr H none
def rCons (x : AItem) (k : List AItem) (_ : Program → Caller → AFrame → AH → StepR) : Program → Caller → AFrame → AH → StepR := fun P call fr H => stepItemF x P call fr H k
def mRun : Program → Caller → AFrame → AH → StepR := fun P call fr H =>
  @List.rec AItem (fun _ => Program → Caller → AFrame → AH → StepR) rNil rCons (AFrame.todo fr) P call fr H
def mOut : Program → Caller → AFrame → AH → StepR := stepOut
def mOutC (_ : Chain) : Program → Caller → AFrame → AH → StepR := stepOut
def stepAF (P : Program) (call : Caller) (fr : AFrame) (H : AH) : StepR :=
  @AMode.rec (fun _ => Program → Caller → AFrame → AH → StepR) mRun mOut mOutC (AFrame.mode fr) P call fr H
theorem stepAF_eq (P : Program) (call : Caller) (fr : AFrame) (H : AH) : stepAF P call fr H = stepA P call fr H := by
  obtain ⟨fn, tmps, nt, td, defers, mode, up, round⟩ := fr
  cases mode with
  | run =>
    cases td with
    | nil => rfl
    | cons x k => exact stepItemF_eq x P call _ H k
  | returning => rfl
  | panicking c => rfl

abbrev GoT := AFrame → AH → Option Res
def runGo (fr : AFrame) (H : AH) : GoT → Option Res := fun c => c fr H
def runDone (r : Res) : GoT → Option Res := fun _ => some r
def runStuck (_ : String) : GoT → Option Res := fun _ => none
def runS (_ : Nat) (c : Program → Known → GoT) : Program → Known → GoT := fun P K fr H =>
  @StepR.rec (fun _ => GoT → Option Res) runGo runDone runStuck (stepAF P ⟨c P K, K⟩ fr H) (c P K)
def runF (n : Nat) : Program → Known → GoT := @Nat.rec (fun _ => Program → Known → GoT) (fun _ _ _ _ => none) runS n
theorem runF_eq (P : Program) (K : Known) : ∀ n, runF n P K = run P K n
  | 0 => rfl
  | n + 1 => by
    have ih := runF_eq P K n
    funext fr H
    show @StepR.rec (fun _ => GoT → Option Res) runGo runDone runStuck (stepAF P ⟨runF n P K, K⟩ fr H) (runF n P K) = _
    rw [stepAF_eq, ih]
    show _ = match stepA P ⟨run P K n, K⟩ fr H with
      | .go fr' H' => run P K n fr' H'
      | .done r => some r
      | .stuck _ => none
    cases stepA P ⟨run P K n, K⟩ fr H <;> rfl

def evalF (P : Program) (K : Known) (n : Nat) (f : FuncId) (args : List AV) (H : AH) : Option Res := (enterA P f args none).bind fun fr => runF n P K fr H
theorem evalF_eq (P : Program) (K : Known) (n : Nat) (f : FuncId) (args : List AV) (H : AH) : evalF P K n f args H = eval P K n f args H := by
  unfold evalF eval
  rw [runF_eq]

end
end Go.Ev
