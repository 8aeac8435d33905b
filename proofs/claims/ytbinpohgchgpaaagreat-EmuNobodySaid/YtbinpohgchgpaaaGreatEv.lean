/- A deterministic abstract machine over the model's code: its definitions. -/
import GoSem.Step
namespace Go.Ev
noncomputable section

/-- A trie keyed by numbers. -/
inductive Tr (α : Type) where
  | nil
  | node (v : Option α) (l r : Tr α)

namespace Tr
variable {α : Type}
/-- if-then-else on a Bool. -/
abbrev br {β : Type} (c : Bool) (x y : β) : β := @Bool.rec (fun _ => β) y x c
def get (t : Tr α) : Nat → Option α :=
  @Tr.rec α (fun _ => Nat → Option α) (fun _ => none)
    (fun v _ _ gl gr n => @Bool.rec (fun _ => Option α) (@Bool.rec (fun _ => Option α) (gr (Nat.sub (Nat.div n 2) 1)) (gl (Nat.div n 2)) (Nat.beq (Nat.mod n 2) 1)) v (Nat.beq n 0)) t
def single (f : Nat) : Nat → α → Tr α :=
  @Nat.rec (fun _ => Nat → α → Tr α) (fun _ a => .node (some a) .nil .nil)
    (fun _ sg n a => @Bool.rec (fun _ => Tr α) (@Bool.rec (fun _ => Tr α) (.node none .nil (sg (Nat.sub (Nat.div n 2) 1) a)) (.node none (sg (Nat.div n 2) a) .nil) (Nat.beq (Nat.mod n 2) 1)) (.node (some a) .nil .nil) (Nat.beq n 0)) f
def set (t : Tr α) : Nat → α → Tr α :=
  @Tr.rec α (fun _ => Nat → α → Tr α) (fun n a => single n n a)
    (fun v l r sl sr n a => @Bool.rec (fun _ => Tr α) (@Bool.rec (fun _ => Tr α) (.node v l (sr (Nat.sub (Nat.div n 2) 1) a)) (.node v (sl (Nat.div n 2) a) r) (Nat.beq (Nat.mod n 2) 1)) (.node (some a) l r) (Nat.beq n 0)) t
def erase (t : Tr α) : Nat → Tr α :=
  @Tr.rec α (fun _ => Nat → Tr α) (fun _ => .nil)
    (fun v l r el er n => @Bool.rec (fun _ => Tr α) (@Bool.rec (fun _ => Tr α) (.node v l (er (Nat.sub (Nat.div n 2) 1))) (.node v (el (Nat.div n 2)) r) (Nat.beq (Nat.mod n 2) 1)) (.node none l r) (Nat.beq n 0)) t
def ofList : List α → Nat → Tr α → Tr α
  | [], _, t => t
  | a :: l, n, t => ofList l (n + 1) (t.set n a)
end Tr

/-- Abstract values. -/
inductive AV where
  | bool (b : Bool)
  | int (k : IntKind) (n : Int)
  | str (s : List Nat)
  | ptr (id off : Nat)
  | ptrNil
  | slice (id off len cap sz : Nat) (ex : Bool)
  | sliceNil
  | map (id : Nat)
  | mapNil
  | func (fn : Fn) (first captured : List AV)
  | yield (l : Nat)
  | nilFunc
  | iface (t : TypeId) (v : AV)
  | nilIface
  | agg (cs : List AV)
  | tuple (vs : List AV)
  | glob (g : Nat)
  | opq (v : Value)
  | opqi (k : IntKind) (n : Int) (ne : List Int) (lo hi : Option Int)
  | opqs (s : List Nat) (ne : List (List Nat))
  deriving Inhabited

def toNats (b : ByteArray) : List Nat := b.data.toList.map UInt8.toNat

def isYield : Fn → Bool
  | .yield _ => true
  | _ => false

/-- A literal without addresses. -/
def conv1 : Value → Option AV
  | .bool b => some (.bool b)
  | .int k n => some (.int k n)
  | .string s => some (.str (toNats s))
  | .pointer none => some .ptrNil
  | .slice none 0 0 => some .sliceNil
  | .map none => some .mapNil
  | .func fn f c => bif isYield fn || !f.isEmpty || !c.isEmpty then none else some (.func fn [] [])
  | .nilFunc => some .nilFunc
  | .nilIface => some .nilIface
  | _ => none

def convs : List Value → Option (List AV)
  | [] => some []
  | v :: l => match conv1 v with
    | none => none
    | some a => match convs l with
      | none => none
      | some as => some (a :: as)

def conv : Value → Option AV
  | .agg cs => (convs cs.toList).map .agg
  | .tuple cs => bif cs.isEmpty then some (.tuple []) else none
  | v => conv1 v

def AV.one : AV → Bool
  | .agg _ | .tuple _ => false
  | _ => true

def AV.cells : AV → List AV
  | .agg cs => cs
  | v => [v]

def AV.undef : AV := .tuple []

def eqNats : List Nat → List Nat → Bool
  | [], [] => true
  | a :: l, b :: m => bif Nat.beq a b then eqNats l m else false
  | _, _ => false
def lessNats : List Nat → List Nat → Bool
  | _, [] => false
  | [], _ :: _ => true
  | a :: x, b :: y => bif Nat.ble (a + 1) b then true else bif Nat.beq a b then lessNats x y else false

/-- Deferred calls. -/
inductive ADef where
  | call (fn : Fn) (captured args : List AV)
  | collected (r : Nat)

/-- Abstract objects. -/
inductive AObj where
  | cells (vs : List AV) (elem : TypeId)
  | map (es : List (AV × AV × Nat)) (clock : Nat)
  | strIter (s : List Nat) (pos : Nat)
  | mapIter (m : Option Nat) (since : Nat) (seen : List Nat) (stepped : Nat)
  | loop (state : LoopState) (pending : Option Code) (fn : Nat) (tmps : Tr AV) (nt : Nat) (params : List Tmp) (assign body : Code) (defers : Nat)
  | deferred (calls : Option (List ADef))
  | dead (vs : List AV)
  | bag (es : List (AV × AV))
  | rep (z : List AV) (n : Nat) (elem : TypeId)

structure AH where
  h : Tr AObj
  next : Nat

def AH.new : AH → AObj → AH
  | ⟨h, n⟩, o => ⟨h.set n o, Nat.succ n⟩
def AH.put : AH → Nat → AObj → AH
  | ⟨h, n⟩, id, o => ⟨h.set id o, n⟩
def AH.obj : AH → Nat → Option AObj
  | ⟨h, _⟩, id => h.get id
def replic (z : List AV) (n : Nat) : List AV :=
  match n with
  | 0 => []
  | n + 1 => z ++ replic z n

def AH.cells (H : AH) (id : Nat) : Option (List AV) :=
  match H.obj id with
  | some (.cells vs _) => some vs
  | some (.rep z n _) => some (replic z n)
  | _ => none

/-- What an operand stands for. -/
def aval (tmps : Tr AV) : Operand → Option AV
  | .tmp t => tmps.get t
  | .const v => conv v
  | .global g => some (.glob g)
  | .func f => some (.func (.func f) [] [])

def avals (ρ : Operand → Option AV) : List Operand → Option (List AV)
  | [] => some []
  | x :: l => match ρ x with
    | none => none
    | some a => match avals ρ l with
      | none => none
      | some as => some (a :: as)

def aparts (ρ : Operand → Option AV) : List (Nat × Operand) → Option (List (Nat × AV))
  | [] => some []
  | (i, x) :: l => match ρ x with
    | none => none
    | some a => match aparts ρ l with
      | none => none
      | some as => some ((i, a) :: as)

section types
variable (P : Program)
def isAggT (t : TypeId) : Option Bool :=
  match P.underlying t with
  | some (.struct _) | some (.array _ _) => some true
  | some _ => some false
  | none => none
def sizeT (t : TypeId) : Option Nat := (P.info? t).map (·.size)
def bytesT (t : TypeId) : Option Nat := (P.info? t).map (·.bytes)
def zeroT (t : TypeId) : Option AV := ((P.info? t).bind (·.zero)).bind conv
/-- The places of a struct's fields. -/
def placesT (fields : Array Field) : Option (List (Nat × Nat)) :=
  fields.toList.mapM fun f => (sizeT P f.type).map fun s => (f.offset, s)
end types

/-- A sum that runs without memory. -/
def pureRun {α : Type} (P : Program) : Sem α → Option α
  | .pure a => some a
  | .program k => pureRun P (k P)
  | _ => none

def toV : AV → Option Value
  | .bool b => some (.bool b)
  | .int k n => some (.int k n)
  | _ => none

def ofV : Value → Option AV
  | .bool b => some (.bool b)
  | .int k n => some (.int k n)
  | _ => none

/-- A segment of a list. -/
def seg (l : List AV) (off n : Nat) : Option (List AV) :=
  let r := (l.drop off).take n
  bif Nat.beq r.length n then some r else none

/-- Does a list have at least so many elements? -/
def hasLen (n : Nat) : List AV → Bool :=
  @Nat.rec (fun _ => List AV → Bool) (fun _ => true) (fun _ r l => @List.rec AV (fun _ => (List AV → Bool) → Bool) (fun _ => false) (fun _ t _ r => r t) l r) n
def putSeg (l : List AV) (off : Nat) (cs : List AV) : Option (List AV) :=
  bif hasLen (off + cs.length) l then some (l.take off ++ (cs ++ l.drop (off + cs.length))) else none

def fillA (place : Nat → Option (Nat × Nat)) (cells : List AV) : List (Nat × AV) → Option (List AV)
  | [] => some cells
  | (i, v) :: rest =>
    match place i with
    | none => none
    | some (off, size) =>
      bif Nat.beq v.cells.length size then
        match putSeg cells off v.cells with
        | none => none
        | some cells' => fillA place cells' rest
      else none

def partA (P : Program) (t : TypeId) (cs : List AV) (off : Nat) : Option AV :=
  match isAggT P t with
  | some true => match sizeT P t with
    | some s => (seg cs off s).map .agg
    | none => none
  | some false => cs[off]?
  | none => none

def isBelow (lo : Option Int) (n : Int) : Bool :=
  match lo with
  | some l => decide (n < l)
  | none => false
def isAbove (hi : Option Int) (n : Int) : Bool :=
  match hi with
  | some h => decide (h < n)
  | none => false
def hasStr (ne : List (List Nat)) (s : List Nat) : Bool := ne.any (eqNats s)

/-- Equality, where it does not look at memory. -/
def eqA (P : Program) : Nat → TypeId → AV → AV → Option Bool
  | 0, _, _, _ => none
  | d + 1, t, x, y =>
    match P.underlying t, x, y with
    | some .bool, .bool a, .bool b => some (a == b)
    | some (.int _), .int k a, .int k' b => if k = k' then some (a == b) else none
    | some .string, .str a, .str b => some (eqNats a b)
    | some .string, .opqs _ ne, .str b => bif hasStr ne b then some false else none
    | some .string, .str b, .opqs _ ne => bif hasStr ne b then some false else none
    | some (.int _), .opqi k _ ne lo hi, .int k' b => if k = k' then bif isBelow lo b || isAbove hi b || ne.contains b then some false else none else none
    | some (.int _), .int k' b, .opqi k _ ne lo hi => if k = k' then bif isBelow lo b || isAbove hi b || ne.contains b then some false else none else none
    | some (.pointer _), .ptrNil, .ptrNil => some true
    | some (.pointer _), .ptrNil, .ptr _ _ => some false
    | some (.pointer _), .ptr _ _, .ptrNil => some false
    | some (.slice _), .sliceNil, .sliceNil => some true
    | some (.slice _), .sliceNil, .slice .. => some false
    | some (.slice _), .slice .., .sliceNil => some false
    | some (.map _ _), .mapNil, .mapNil => some true
    | some (.map _ _), .mapNil, .map _ => some false
    | some (.map _ _), .map _, .mapNil => some false
    | some (.func _ _ _), .nilFunc, .nilFunc => some true
    | some (.func _ _ _), .nilFunc, .func _ _ _ => some false
    | some (.func _ _ _), .func _ _ _, .nilFunc => some false
    | some (.interface _), .nilIface, .nilIface => some true
    | some (.interface _), .nilIface, .iface _ _ => some false
    | some (.interface _), .iface _ _, .nilIface => some false
    | some (.interface _), .iface tx vx, .iface ty vy =>
      bif Nat.beq tx ty then
        match P.info? tx with
        | some i => bif i.comparable then eqA P d tx vx vy else none
        | none => none
      else some false
    | some (.struct fields), .agg xs, .agg ys =>
      bif P.stoodInHeld t then none else eqFields P d fields.toList xs ys (eqA P d)
    | _, _, _ => none
where
  eqFields (P : Program) (d : Nat) : List Field → List AV → List AV → (TypeId → AV → AV → Option Bool) → Option Bool
  | [], _, _, _ => some true
  | f :: fs, xs, ys, eq =>
    if f.name = "_" then none else
    match partA P f.type xs f.offset, partA P f.type ys f.offset with
    | some a, some b => match eq f.type a b with
      | some true => eqFields P d fs xs ys eq
      | some false => some false
      | none => none
    | _, _ => none

def isConstA : Operand → Bool
  | .const _ => true
  | _ => false

def cmpStr (op : BinOp) (x y : List Nat) : Option AV :=
  match op with
  | .add => bif Nat.ble (x.length + y.length) 1000000 then some (.str (x ++ y)) else none
  | .eql => some (.bool (eqNats x y))
  | .neq => some (.bool (!eqNats x y))
  | .lss => some (.bool (lessNats x y))
  | .leq => some (.bool (lessNats x y || eqNats x y))
  | .gtr => some (.bool (!(lessNats x y || eqNats x y)))
  | .geq => some (.bool (!lessNats x y))
  | _ => none

def kindA : AV → Nat
  | .bool _ => 0
  | .ptr .. | .ptrNil => 1
  | .slice .. | .sliceNil => 2
  | .map _ | .mapNil => 3
  | .func .. | .nilFunc => 4
  | .iface .. | .nilIface => 5
  | .agg _ => 6
  | _ => 9
def guardOk (P : Program) (t : TypeId) (x y : Operand) : AV → AV → Bool
  | .nilIface, .nilIface => isConstA x || isConstA y
  | .agg _, .agg _ => !P.eqGuardType P.depth t
  | _, _ => true
def eqlA (P : Program) (op : BinOp) (t : TypeId) (a b : AV) : Option AV :=
  match op with
  | .eql => (eqA P 100 t a b).map .bool
  | .neq => (eqA P 100 t a b).map fun r => .bool (!r)
  | _ => none
/-- Two values that are known to differ. -/
def neA : BinOp → Option AV
  | .eql => some (.bool false)
  | .neq => some (.bool true)
  | _ => none
/-- A number of which bounds are known, held against a literal: 'up' says that it is the greater one. -/
def sideA (op : BinOp) (up : Bool) : Option AV :=
  match op with
  | .eql => some (.bool false)
  | .neq => some (.bool true)
  | .lss => some (.bool (!up))
  | .leq => some (.bool (!up))
  | .gtr => some (.bool up)
  | .geq => some (.bool up)
  | _ => none
def opqiA (op : BinOp) (ne : List Int) (lo hi : Option Int) (n : Int) : Option AV :=
  bif isBelow lo n then sideA op true else bif isAbove hi n then sideA op false else bif ne.contains n then neA op else none
def binA (P : Program) (op : BinOp) (t : TypeId) (x y : Operand) (a b : AV) : Option AV :=
  match a, b with
  | .int k m, .int k' n => (pureRun P (Go.binOp op t (.int k m) (.int k' n))).bind ofV
  | .str l, .str m => cmpStr op l m
  | .opqi k _ ne lo hi, .int k' n => if k = k' then opqiA op ne lo hi n else none
  | .opqs _ ne, .str l => bif hasStr ne l then neA op else none
  | .str l, .opqs _ ne => bif hasStr ne l then neA op else none
  | a, b => bif Nat.beq (kindA a) (kindA b) && !Nat.beq (kindA a) 9 && guardOk P t x y a b then eqlA P op t a b else none

def natOf : AV → Option Nat
  | .int _ (.ofNat n) => some n
  | _ => none

def goIntA (n : Nat) : AV := .int .i64 (.ofNat n)

/-- Which entry of a map has a key. -/
def findA (eq : AV → AV → Option Bool) (k : AV) : List (AV × AV × Nat) → Nat → Option (Option (Nat × AV × Nat))
  | [], _ => some none
  | (x, v, b) :: es, i => match eq k x with
    | some true => some (some (i, v, b))
    | some false => findA eq k es (i + 1)
    | none => none

def plainAt : TypeDesc → AV → Bool
  | .int _, .int _ _ | .string, .str _ | .bool, .bool _ => true
  | .int _, .opqi .. | .string, .opqs .. => true
  | _, _ => false
def plainField (P : Program) (cs : List AV) (f : Field) : Bool :=
  match P.underlying f.type, cs[f.offset]? with
  | some d, some a => plainAt d a
  | _, _ => false
/-- A key that is made of numbers, strings and bools. -/
def plainKey (P : Program) (t : TypeId) (k : AV) : Bool :=
  match P.underlying t, k with
  | some (.struct fields), .agg cs => fields.toList.all (plainField P cs)
  | some d, a => plainAt d a
  | none, _ => false

def loadA (P : Program) (H : AH) (t : TypeId) (id off : Nat) : Option AV :=
  match H.cells id with
  | none => none
  | some vs => partA P t vs off

def lenA (H : AH) : AV → Option Nat
  | .str s => some s.length
  | .slice _ _ len _ _ _ => some len
  | .sliceNil => some 0
  | .mapNil => some 0
  | .map id => match H.obj id with
    | some (.map es _) => some es.length
    | _ => none
  | _ => none

def sliceStr (s : List Nat) (lo hi : Option AV) : Option AV :=
  match (match hi with | some v => natOf v | none => some s.length), (match lo with | some v => natOf v | none => some 0) with
  | some h, some l => bif Nat.ble h s.length && Nat.ble l h then some (.str ((s.take h).drop l)) else none
  | _, _ => none

def sliceSl (id off len cap sz : Nat) (ex : Bool) (lo hi mx : Option AV) : Option AV :=
  match mx with
  | none =>
    match (match hi with | some v => natOf v | none => some len), (match lo with | some v => natOf v | none => some 0) with
    | some h, some l =>
      bif Nat.ble h (bif ex then cap else len) && Nat.ble l h then some (.slice id (off + l * sz) (h - l) (cap - l) sz ex) else none
    | _, _ => none
  | some m =>
    match natOf m, (match hi with | some v => natOf v | none => none), (match lo with | some v => natOf v | none => some 0) with
    | some m, some h, some l =>
      bif Nat.ble m (bif ex then cap else len) && Nat.ble h m && Nat.ble l h then some (.slice id (off + l * sz) (h - l) (m - l) sz true) else none
    | _, _, _ => none

def optA (ρ : Operand → Option AV) : Option Operand → Option (Option AV)
  | none => some none
  | some x => (ρ x).map some

def foldMM (mx : Bool) : AV → List AV → Option AV
  | a, [] => some a
  | .int k x, .int _ y :: l => foldMM mx (.int k (bif mx then (if y > x then y else x) else (if y < x then y else x))) l
  | _, _ => none

/-! Operations that only read or make memory: one function each. -/
section lights
variable (P : Program) (ρ : Operand → Option AV) (H : AH)
/-- New memory: the object, and the value that an address gives. -/
def cellsOf (g : Nat → AV) (cs : List AV) (elem : TypeId) : Option (AObj × (Nat → AV)) :=
  bif cs.all AV.one then some (.cells cs elem, g) else none
def atPtr (id : Nat) : AV := .ptr id 0
def atSl (len cap sz id : Nat) : AV := .slice id 0 len cap sz true
def lPick (c a b : Operand) : Option AV :=
  match ρ c with
  | some (.bool t) => bif t then ρ a else ρ b
  | _ => none
def lAlloc (e : TypeId) : Option (AObj × (Nat → AV)) :=
  match zeroT P e with
  | some z => cellsOf atPtr z.cells e
  | none => none
def lBox (e : TypeId) (x : Operand) : Option (AObj × (Nat → AV)) :=
  match ρ x with
  | some v => cellsOf atPtr v.cells e
  | none => none
def buildS (z : AV) (fields : Array Field) (ps : List (Nat × AV)) : Option AV :=
  match placesT P fields with
  | some pl => (fillA (pl[·]?) z.cells ps).map .agg
  | none => none
def buildR (z : AV) (elem : TypeId) (ps : List (Nat × AV)) : Option AV :=
  match sizeT P elem with
  | some s => (fillA (fun i => some (i * s, s)) z.cells ps).map .agg
  | none => none
def lBuild (t : TypeId) (parts : Array (Nat × Operand)) : Option AV :=
  match zeroT P t, P.underlying t, aparts ρ parts.toList with
  | some z, some (.struct fields), some ps => buildS P z fields ps
  | some z, some (.array _ elem), some ps => buildR P z elem ps
  | _, _, _ => none
def buildSl (elem : TypeId) (len : Nat) (ps : List (Nat × AV)) (s : Nat) (z : AV) : Option (AObj × (Nat → AV)) :=
  bif Nat.ble (len * s) 65536 && Nat.beq z.cells.length s then
    match fillA (fun i => some (i * s, s)) (replic z.cells len) ps with
    | some cs => cellsOf (atSl len len s) cs elem
    | none => none
  else none
def lBuildSlice (t : TypeId) (len : Nat) (parts : Array (Nat × Operand)) : Option (AObj × (Nat → AV)) :=
  match P.underlying t, aparts ρ parts.toList with
  | some (.slice elem), some ps => match sizeT P elem, zeroT P elem with
    | some s, some z => buildSl elem len ps s z
    | _, _ => none
  | _, _ => none
def lLoad (t : TypeId) (a : Operand) : Option AV :=
  match ρ a with
  | some (.ptr id off) => loadA P H t id off
  | _ => none
def lNilCheck (x : Operand) : Option AV :=
  match ρ x with
  | some (.ptr id off) => some (.ptr id off)
  | some (.func (.func f) l c) => some (.func (.func f) l c)
  | some (.iface t v) => some (.iface t v)
  | _ => none
def lBin (op : BinOp) (t : TypeId) (x y : Operand) : Option AV :=
  match ρ x, ρ y with
  | some a, some b => binA P op t x y a b
  | _, _ => none
def lUn (op : UnOp) (x : Operand) : Option AV :=
  match ρ x with
  | some a => (toV a).bind fun v => (pureRun P (Op.unary op v)).bind ofV
  | none => none
def lConvert (src dst : TypeId) (x : Operand) : Option AV :=
  match P.underlying src, P.underlying dst, ρ x with
  | some (.int _), some (.int k), some (.int _ n) => some (.int k (k.wrap n))
  | some .string, some .string, some (.str s) => some (.str s)
  | _, _, _ => none
def lMakeInterface (t : TypeId) (x : Operand) : Option AV :=
  match P.underlying t, ρ x with
  | some (.interface _), _ => none
  | some _, some v => some (.iface t v)
  | _, _ => none
def lMakeFunc (fn : Fn) (first captured : Array Operand) : Option AV :=
  match avals ρ first.toList, avals ρ captured.toList with
  | some f, some c => bif isYield fn then none else some (.func fn f c)
  | _, _ => none
def lMakeMap (t : TypeId) (r : Option Operand) : Option (AObj × (Nat → AV)) :=
  match P.underlying t, optA ρ r with
  | some (.map _ _), some none | some (.map _ _), some (some (.int _ _)) => some (.map [] 0, .map)
  | _, _ => none
/-- A row of so many equal elements. -/
def rowOf (z : List AV) (c : Nat) (elem : TypeId) : AObj := bif Nat.ble c 64 then .cells (replic z c) elem else .rep z c elem
def makeSl (elem : TypeId) (l c : Nat) (s : Nat) (z : AV) (by_ : Nat) : Option (AObj × (Nat → AV)) :=
  bif Nat.ble l c && Nat.ble c 65536 && Nat.ble by_ 65536 && Nat.ble s 65536 && Nat.beq z.cells.length s && z.cells.all AV.one then
    some (rowOf z.cells c elem, atSl l c s)
  else none
def lMakeSlice (t : TypeId) (len cap : Operand) : Option (AObj × (Nat → AV)) :=
  match P.underlying t, ρ len, ρ cap with
  | some (.slice elem), some (.int .i64 (.ofNat l)), some (.int .i64 (.ofNat c)) => match sizeT P elem, zeroT P elem, bytesT P elem with
    | some s, some z, some by_ => makeSl elem l c s z by_
    | _, _, _ => none
  | _, _, _ => none
def zeroBound : Option AV → Bool
  | none => true
  | some v => (natOf v).any (Nat.beq 0)
def lSlice (t : TypeId) (x : Operand) (lo hi mx : Option Operand) : Option AV :=
  match optA ρ lo, optA ρ hi, optA ρ mx with
  | some l, some h, some m => match P.underlying t, ρ x with
    | some .string, some (.str s) => bif m.isNone then sliceStr s l h else none
    | some (.slice elem), some (.slice id off len cap sz ex) => bif (sizeT P elem).any (Nat.beq sz) then sliceSl id off len cap sz ex l h m else none
    | some (.slice elem), some .sliceNil => bif zeroBound l && zeroBound h && zeroBound m && (m.isNone || h.isSome) && (sizeT P elem).isSome then some .sliceNil else none
    | some (.array n elem), some (.ptr id off) => match sizeT P elem, H.cells id with
      | some sz, some vs => bif Nat.ble (off + n * sz) vs.length then sliceSl id off n n sz true l h m else none
      | _, _ => none
    | _, _ => none
  | _, _, _ => none
def fieldPtr (id off : Nat) (fields : Array Field) (f : Nat) : Option AV :=
  match fields[f]? with
  | some fd => match sizeT P fd.type with
    | some (_ + 1) => some (.ptr id (off + fd.offset))
    | _ => none
  | none => none
def lFieldAddr (s : TypeId) (x : Operand) (f : Nat) : Option AV :=
  match P.underlying s, ρ x with
  | some (.struct fields), some (.ptr id off) => fieldPtr P id off fields f
  | _, _ => none
def fieldOf (cs : List AV) (fields : Array Field) (f : Nat) : Option AV :=
  match fields[f]? with
  | some fd => partA P fd.type cs fd.offset
  | none => none
def lField (t : TypeId) (x : Operand) (f : Nat) : Option AV :=
  match P.underlying t, ρ x with
  | some (.struct fields), some (.agg cs) => fieldOf P cs fields f
  | _, _ => none
def elemPtr (id off n : Nat) (elem : TypeId) (i : Nat) : Option AV :=
  match sizeT P elem with
  | some s => bif Nat.ble (i + 1) n then some (.ptr id (off + i * s)) else none
  | none => none
def lIndexAddr (t : TypeId) (x i : Operand) : Option AV :=
  match P.underlying t, ρ x, ρ i with
  | some (.array n elem), some (.ptr id off), some (.int _ (.ofNat i)) => elemPtr P id off n elem i
  | some (.slice elem), some (.slice id off len _ _ _), some (.int _ (.ofNat i)) => elemPtr P id off len elem i
  | _, _, _ => none
def elemOfA (cs : List AV) (n : Nat) (elem : TypeId) (i : Nat) : Option AV :=
  match sizeT P elem with
  | some s => bif Nat.ble (i + 1) n then partA P elem cs (i * s) else none
  | none => none
def byteAt (s : List Nat) (i : Nat) : Option AV :=
  match s[i]? with
  | some b => some (.int .u8 (.ofNat b))
  | none => none
def lIndex (t : TypeId) (x i : Operand) : Option AV :=
  match P.underlying t, ρ x, ρ i with
  | some (.array n elem), some (.agg cs), some (.int _ (.ofNat i)) => elemOfA P cs n elem i
  | some .string, some (.str s), some (.int _ (.ofNat i)) => byteAt s i
  | _, _, _ => none
def entriesOf (m : AV) : Option (List (AV × AV × Nat)) :=
  match m with
  | .mapNil => some []
  | .map id => match H.obj id with
    | some (.map es _) => some es
    | _ => none
  | _ => none
def okOr (ok : Bool) (v : AV) (b : Bool) : AV := bif ok then .tuple [v, .bool b] else v
def bagOf (m : AV) : Option (List (AV × AV)) :=
  match m with
  | .map id => match H.obj id with
    | some (.bag es) => some es
    | _ => none
  | _ => none
/-- The one entry that has a key: every entry is looked at. -/
def findBag (eq : AV → AV → Option Bool) (k : AV) : List (AV × AV) → Option (Option AV)
  | [] => some none
  | (x, v) :: es => match eq k x, findBag eq k es with
    | some true, some none => some (some v)
    | some false, some r => some r
    | _, _ => none
def lookBag (kt elem : TypeId) (es : List (AV × AV)) (key : AV) (ok : Bool) : Option AV :=
  match findBag (eqA P 100 kt) key es with
  | some (some v) => some (okOr ok v true)
  | some none => (zeroT P elem).map (okOr ok · false)
  | none => none
def lookA (kt elem : TypeId) (m key : AV) (ok : Bool) : Option AV :=
  bif plainKey P kt key then
    match entriesOf H m with
    | some es => match findA (eqA P 100 kt) key es 0 with
      | some (some (_, v, _)) => some (okOr ok v true)
      | some none => (zeroT P elem).map (okOr ok · false)
      | none => none
    | none => match bagOf H m with
      | some es => lookBag P kt elem es key ok
      | none => none
  else none
def lLookup (t : TypeId) (x k : Operand) (ok : Bool) : Option AV :=
  match P.underlying t, ρ x, ρ k with
  | some (.map kt elem), some m, some key => lookA P H kt elem m key ok
  | _, _, _ => none
def assertA (asserted : TypeId) (ok : Bool) (x : AV) : Option AV :=
  match x with
  | .iface t v =>
    bif Nat.beq t asserted then some (okOr ok v true)
    else bif ok then (zeroT P asserted).map (okOr true · false) else none
  | .nilIface => bif ok then (zeroT P asserted).map (okOr true · false) else none
  | _ => none
def lTypeAssert (x : Operand) (asserted : TypeId) (ok : Bool) : Option AV :=
  match P.underlying asserted, ρ x with
  | some (.interface _), _ => none
  | some _, some v => assertA P asserted ok v
  | _, _ => none
def lExtract (x : Operand) (i : Nat) : Option AV :=
  match ρ x with
  | some (.tuple vs) => vs[i]?
  | _ => none
def lenFits : TypeDesc → AV → Bool
  | .string, .str _ | .slice _, .slice .. | .slice _, .sliceNil | .map _ _, .map _ | .map _ _, .mapNil => true
  | _, _ => false
def lLen (argTypes : Array TypeId) (x : AV) : Option AV :=
  match argTypes[0]?.bind P.underlying with
  | some (.array n _) => some (goIntA n)
  | some d => bif lenFits d x then (lenA H x).map goIntA else none
  | none => none
def lCap (argTypes : Array TypeId) (x : AV) : Option AV :=
  match argTypes[0]?.bind P.underlying, x with
  | some (.slice _), .slice _ _ _ c _ true => some (goIntA c)
  | some (.slice _), .sliceNil => some (goIntA 0)
  | _, _ => none
def lBuiltin (b : Builtin) (args : List AV) (argTypes : Array TypeId) : Option AV :=
  match b, args with
  | .len, [x] => lLen P H argTypes x
  | .cap, [x] => lCap P argTypes x
  | .max, a :: l => foldMM true a l
  | .min, a :: l => foldMM false a l
  | _, _ => none
def lCall (b : Builtin) (args : Array Operand) (argTypes : Array TypeId) : Option AV :=
  match avals ρ args.toList with
  | some l => lBuiltin P H b l argTypes
  | none => none

/-- Operations that only read. -/
def readA : Op → Option AV
  | .move x => ρ x
  | .assign x => ρ x
  | .pick c a b => lPick ρ c a b
  | .build t parts => lBuild P ρ t parts
  | .load t a => lLoad P ρ H t a
  | .nilCheck x => lNilCheck ρ x
  | .binOp op t x y _ => lBin P ρ op t x y
  | .unOp op _ x => lUn P ρ op x
  | .convert src dst x => lConvert P ρ src dst x
  | .makeInterface t x => lMakeInterface P ρ t x
  | .makeFunc fn first captured => lMakeFunc ρ fn first captured
  | .slice t x lo hi mx => lSlice P ρ H t x lo hi mx
  | .fieldAddr s x f => lFieldAddr P ρ s x f
  | .field t x f => lField P ρ t x f
  | .indexAddr t x i => lIndexAddr P ρ t x i
  | .index t x i => lIndex P ρ t x i
  | .lookup t x k ok => lLookup P ρ H t x k ok
  | .typeAssert x _ asserted ok => lTypeAssert P ρ x asserted ok
  | .extract x i => lExtract ρ x i
  | .call { callee := .builtin b, args, argTypes } => lCall P ρ H b args argTypes
  | _ => none

/-- Operations that make memory and read none. -/
def made : Op → Option (AObj × (Nat → AV))
  | .alloc e => lAlloc P e
  | .box e x => lBox ρ e x
  | .buildSlice t len parts => lBuildSlice P ρ t len parts
  | .makeMap t r => lMakeMap P ρ t r
  | .makeSlice t len cap => lMakeSlice P ρ t len cap
  | _ => none
end lights

def isRead : Op → Bool
  | .move _ | .assign _ | .pick .. | .build .. | .load .. | .nilCheck _ | .binOp .. | .unOp .. | .convert ..
  | .makeInterface .. | .makeFunc .. | .slice .. | .fieldAddr .. | .field .. | .indexAddr .. | .index .. | .lookup ..
  | .typeAssert .. | .extract .. => true
  | .call { callee := .builtin b, .. } => match b with
    | .len | .cap | .min | .max => true
    | _ => false
  | _ => false

def isMake : Op → Bool
  | .alloc _ | .box .. | .buildSlice .. | .makeMap .. | .makeSlice .. => true
  | _ => false

def isLight (o : Op) : Bool := isRead o || isMake o

/-- What an operation that is not light comes to. -/
inductive Out where
  | val (v : AV) (H : AH)
  | enter (f : FuncId) (args : List AV)
  | round (l : Nat) (args : List AV)
  | defer (d : ADef)
  | panic (v : AV)
  | recover

def storeA (P : Program) (H : AH) (t : TypeId) (id off : Nat) (v : AV) : Option AH :=
  match H.obj id, sizeT P t with
  | some (.cells vs e), some s =>
    bif Nat.beq v.cells.length s && v.cells.all AV.one then
      (putSeg vs off v.cells).map fun vs' => H.put id (.cells vs' e)
    else none
  | some (.rep z n e), some s =>
    bif Nat.beq v.cells.length s && v.cells.all AV.one then
      (putSeg (replic z n) off v.cells).map fun vs' => H.put id (.cells vs' e)
    else none
  | _, _ => none

def setEntry (es : List (AV × AV × Nat)) (i : Nat) (f : AV × AV × Nat → AV × AV × Nat) : List (AV × AV × Nat) :=
  match es, i with
  | [], _ => []
  | e :: es, 0 => f e :: es
  | e :: es, i + 1 => e :: setEntry es i f

def eraseEntry (es : List (AV × AV × Nat)) (i : Nat) : List (AV × AV × Nat) :=
  match es, i with
  | [], _ => []
  | _ :: es, 0 => es
  | e :: es, i + 1 => e :: eraseEntry es i

def eqFlat1 : AV → AV → Bool
  | .int j a, .int k b => decide (j = k) && decide (a = b)
  | .str a, .str b => eqNats a b
  | .bool a, .bool b => a == b
  | _, _ => false
def eqFlats : List AV → List AV → Bool
  | [], [] => true
  | a :: l, b :: m => eqFlat1 a b && eqFlats l m
  | _, _ => false
/-- The same key, made of numbers, strings and bools. -/
def eqFlat : AV → AV → Bool
  | .agg a, .agg b => eqFlats a b
  | a, b => eqFlat1 a b
def sameKey (es : List (AV × AV × Nat)) (i : Nat) (k : AV) : Bool :=
  match es[i]? with
  | some (x, _, _) => eqFlat x k
  | none => false

def mapUpdateA (P : Program) (H : AH) (t : TypeId) (m k v : AV) : Option AH :=
  match P.underlying t, m with
  | some (.map kt _), .map id => match H.obj id with
    | some (.map es clock) =>
      bif plainKey P kt k then
        match findA (eqA P 100 kt) k es 0 with
        | some (some (i, _, _)) => bif sameKey es i k then some (H.put id (.map (setEntry es i fun e => (k, v, e.2.2)) clock)) else none
        | some none => some (H.put id (.map (es ++ [(k, v, clock)]) (clock + 1)))
        | none => none
      else none
    | _ => none
  | _, _ => none

/-- The elements that append takes. -/
def elemsA (H : AH) (sz : Nat) : AV → Option (Nat × List AV)
  | .sliceNil => some (0, [])
  | .slice id off len _ s _ => bif Nat.beq s sz then
      match H.cells id with
      | some vs => (seg vs off (len * sz)).map (len, ·)
      | none => none
    else none
  | .str s => bif Nat.beq sz 1 then some (s.length, s.map fun b => .int .u8 (.ofNat b)) else none
  | _ => none

/-- What append takes as its second argument: how many elements, and their cells. -/
def takenA (P : Program) (H : AH) (argTypes : Array TypeId) (elem : TypeId) (sz : Nat) (x : AV) : Option (Nat × List AV) :=
  match argTypes[1]?.bind P.underlying with
  | some (.int _) => match x, zeroT P elem with
    | .int .i64 (.ofNat n), some z => bif Nat.ble n 65536 && Nat.beq z.cells.length sz then some (n, replic z.cells n) else none
    | _, _ => none
  | some _ => elemsA H sz x
  | none => none

/-- An append to a slice that has elements or room: a new identifier; the old one dies unless there surely was no room. -/
def growA (H : AH) (elem : TypeId) (id off len cap sz n : Nat) (ex : Bool) (l : List AV) : Option (AV × AH) :=
  match H.obj id with
  | some (.cells vs _) => match seg vs off (len * sz) with
    | some old =>
      bif (old ++ l).all AV.one then
        some (.slice H.next 0 (len + n) (len + n) sz false, AH.new (bif ex && Nat.ble (cap + 1) (len + n) then H else H.put id (.dead [])) (.cells (old ++ l) elem))
      else none
    | none => none
  | _ => none

def appendTo (H : AH) (elem : TypeId) (sz : Nat) (s : AV) (n : Nat) (l : List AV) : Option (AV × AH) :=
  match s with
  | .sliceNil => match n with
    | 0 => some (.sliceNil, H)
    | _ + 1 => bif Nat.ble n 65536 && l.all AV.one then some (.slice H.next 0 n n sz false, AH.new H (.cells l elem)) else none
  | .slice id off len cap sz' ex => bif Nat.beq sz sz' && Nat.ble (len + n) 65536 then
      match n with
      | 0 => some (.slice id off len cap sz' ex, H)
      | _ + 1 => growA H elem id off len cap sz n ex l
    else none
  | _ => none

def appendA (P : Program) (H : AH) (argTypes : Array TypeId) (s x : AV) : Option (AV × AH) :=
  match argTypes[0]?.bind P.underlying with
  | some (.slice elem) => match sizeT P elem, bytesT P elem with
    | some sz, some by_ =>
      bif Nat.ble by_ 65536 && (zeroT P elem).any (fun z => Nat.beq z.cells.length sz) then
        match takenA P H argTypes elem sz x with
        | some (n, l) => appendTo H elem sz s n l
        | none => none
      else none
    | _, _ => none
  | _ => none

def copyTo (H : AH) (id off k : Nat) (l : List AV) : Option (AV × AH) :=
  match H.obj id with
  | some (.cells vs e) => match putSeg vs off l with
    | some vs' => some (goIntA k, H.put id (.cells vs' e))
    | none => none
  | some (.rep z n e) => match putSeg (replic z n) off l with
    | some vs' => some (goIntA k, H.put id (.cells vs' e))
    | none => none
  | _ => none
def copyA (P : Program) (H : AH) (argTypes : Array TypeId) (d x : AV) : Option (AV × AH) :=
  match argTypes[0]?.bind P.underlying with
  | some (.slice elem) => match sizeT P elem with
    | some sz => match d, elemsA H sz x with
      | .sliceNil, some (_, _) => some (goIntA 0, H)
      | .slice id off len _ sz' _, some (n, l) =>
        bif Nat.beq sz sz' && (l.take (Nat.min n len * sz)).all AV.one then copyTo H id off (Nat.min n len) (l.take (Nat.min n len * sz)) else none
      | _, _ => none
    | none => none
  | _ => none

def callA (P : Program) (f : AV) (args : List AV) : Option Out :=
  match f with
  | .func (.func g) first captured => match P.funcs[g]? with
    | some fn => bif fn.body.isSome && !(fn.name == "runtime.NumGoroutine") then some (.enter g (first ++ args ++ captured)) else none
    | none => none
  | .yield l => some (.round l args)
  | _ => none

/-- The receiver of a method called on an interface value, where no field lies between. -/
def recvA (P : Program) (t : TypeId) (v : AV) (m : Method) : Option (FuncId × AV) :=
  match m.func, P.underlying t with
  | some (f, true), some (.pointer _) => bif m.path.isEmpty then some (f, v) else none
  | some (_, _), some (.pointer _) => none
  | some (f, false), some _ => bif m.path.isEmpty then some (f, v) else none
  | _, _ => none
def methodA (P : Program) (t : TypeId) (v : AV) (name : String) : Option (FuncId × AV) :=
  match P.info? t with
  | some i => match i.methods.find? (·.name == name) with
    | some m => recvA P t v m
    | none => none
  | none => none

/-! The others: one function each. -/
section heavies
variable (P : Program) (ρ : Operand → Option AV) (H : AH)
def outV (v : AV) : Option AH → Option Out
  | some H => some (.val v H)
  | none => none
def hStore (t : TypeId) (a x : Operand) : Option Out :=
  match ρ a, ρ x with
  | some (.ptr id off), some v => outV .undef (storeA P H t id off v)
  | _, _ => none
def hMapUpdate (t : TypeId) (m k x : Operand) : Option Out :=
  match ρ m, ρ k, ρ x with
  | some m, some k, some v => outV .undef (mapUpdateA P H t m k v)
  | _, _, _ => none
def entryA (kt elem : TypeId) (id : Nat) (key : AV) : Option Out :=
  match H.obj id with
  | some (.map es clock) =>
    bif plainKey P kt key then
      match findA (eqA P 100 kt) key es 0 with
      | some (some (i, v, b)) => bif sameKey es i key then some (.val (.tuple [v, goIntA b]) (H.put id (.map (setEntry es i fun e => (key, e.2)) clock))) else none
      | some none => match zeroT P elem with
        | some z => some (.val (.tuple [z, goIntA clock]) (H.put id (.map (es ++ [(key, z, clock)]) (clock + 1))))
        | none => none
      | none => none
    else none
  | _ => none
def hMapEntry (t : TypeId) (m k : Operand) : Option Out :=
  match P.underlying t, ρ m, ρ k with
  | some (.map kt elem), some (.map id), some key => entryA P H kt elem id key
  | _, _, _ => none
def entryStoreA (id born : Nat) (v : AV) : Option Out :=
  match H.obj id with
  | some (.map es clock) => match es.findIdx? (fun e => Nat.beq e.2.2 born) with
    | some i => some (.val .undef (H.put id (.map (setEntry es i fun e => (e.1, v, e.2.2)) clock)))
    | none => none
  | _ => none
def hEntryStore (m s x : Operand) : Option Out :=
  match ρ m, ρ s, ρ x with
  | some (.map id), some (.int _ (.ofNat born)), some v => entryStoreA H id born v
  | _, _, _ => none
def rangeMap (m : Nat) : Option Out :=
  match H.obj m with
  | some (.map _ clock) => some (.val (.ptr H.next 0) (H.new (.mapIter (some m) clock [] clock)))
  | _ => none
def hRange (t : TypeId) (x : Operand) : Option Out :=
  match P.underlying t, ρ x with
  | some .string, some (.str s) => some (.val (.ptr H.next 0) (H.new (.strIter s 0)))
  | some (.map _ _), some .mapNil => some (.val (.ptr H.next 0) (H.new (.mapIter none 0 [] 0)))
  | some (.map _ _), some (.map m) => rangeMap H m
  | _, _ => none
def over (H : AH) : Option Out := some (.val (.tuple [.bool false]) H)
def nextStr (r : Nat) (s : List Nat) (pos : Nat) : Option Out :=
  match s[pos]? with
  | none => over H
  | some b => bif Nat.ble (b + 1) 128 then some (.val (.tuple [.bool true, goIntA pos, .int .i32 (.ofNat b)]) (H.put r (.strIter s (pos + 1)))) else none
def nextMap (r m since : Nat) (seen : List Nat) (last : Nat) (es : List (AV × AV × Nat)) (clock : Nat) : Option Out :=
  bif !seen.isEmpty && !es.isEmpty && es.all (fun e => Nat.ble last e.2.2) then none else
  match es.filter fun e => !seen.any (Nat.beq e.2.2) with
  | [] => over H
  | [e] => bif Nat.ble (e.2.2 + 1) since then
      some (.val (.tuple [.bool true, e.1, e.2.1]) (H.put r (.mapIter (some m) since (seen ++ [e.2.2]) clock)))
    else none
  | _ => none
def nextA (r : Nat) (isString : Bool) : Option Out :=
  match H.obj r, isString with
  | some (.strIter s pos), true => nextStr H r s pos
  | some (.mapIter none _ _ _), false => over H
  | some (.mapIter (some m) since seen last), false => match H.obj m with
    | some (.map es clock) => nextMap H r m since seen last es clock
    | _ => none
  | _, _ => none
def hNext (it : Operand) (isString : Bool) : Option Out :=
  match ρ it with
  | some (.ptr r 0) => nextA H r isString
  | _ => none
def entryAt (m stepped : Nat) (seen : List Nat) : Option Out :=
  match seen.getLast?, H.obj m with
  | some stamp, some (.map es clock) =>
    bif Nat.beq clock stepped then
      match es.find? (fun e => Nat.beq e.2.2 stamp) with
      | some e => some (.val (.tuple [e.1, e.2.1]) H)
      | none => none
    else none
  | _, _ => none
def hEntry (it : Operand) : Option Out :=
  match ρ it with
  | some (.ptr r 0) => match H.obj r with
    | some (.mapIter (some m) _ seen stepped) => entryAt H m stepped seen
    | _ => none
  | _ => none
def outR : Option (AV × AH) → Option Out
  | some (v, H) => some (.val v H)
  | none => none
def deleteA (argTypes : Array TypeId) (id : Nat) (k : AV) : Option Out :=
  match argTypes[0]?.bind P.underlying, H.obj id with
  | some (.map kt _), some (.map es clock) =>
    bif plainKey P kt k then
      match findA (eqA P 100 kt) k es 0 with
      | some (some (i, _, _)) => some (.val .undef (H.put id (.map (eraseEntry es i) clock)))
      | some none => some (.val .undef H)
      | none => none
    else none
  | _, _ => none
def hBuiltin (b : Builtin) (args : List AV) (argTypes : Array TypeId) : Option Out :=
  match b, args with
  | .append, [s, x] => outR (appendA P H argTypes s x)
  | .copy, [d, x] => outR (copyA P H argTypes d x)
  | .recover, [] => some .recover
  | .delete, [.map id, k] => deleteA P H argTypes id k
  | _, _ => none
def hValue (f : Operand) (args : Array Operand) : Option Out :=
  match ρ f, avals ρ args.toList with
  | some g, some l => callA P g l
  | _, _ => none
def hInvoke (r : Operand) (name : String) (args : Array Operand) : Option Out :=
  match ρ r, avals ρ args.toList with
  | some (.iface t v), some l => match methodA P t v name with
    | some (f, v) => callA P (.func (.func f) [] []) (v :: l)
    | none => none
  | _, _ => none
def hCall (c : Call) : Option Out :=
  match c.callee with
  | .value f => hValue P ρ f c.args
  | .builtin b => match avals ρ c.args.toList with
    | some l => hBuiltin P H b l c.argTypes
    | none => none
  | .invoke r name => hInvoke P ρ r name c.args
def hDefer (c : Call) : Option Out :=
  match c.callee with
  | .value f => match ρ f, avals ρ c.args.toList with
    | some (.func fn first captured), some l => bif isYield fn then none else some (.defer (.call fn captured (first ++ l)))
    | _, _ => none
  | _ => none
def hPanic (x : Operand) : Option Out :=
  match ρ x with
  | some (.iface t v) => some (.panic (.iface t v))
  | _ => none

def heavy : Op → Option Out
  | .store t a x => hStore P ρ H t a x
  | .mapUpdate t m k x => hMapUpdate P ρ H t m k x
  | .insert t m k x => hMapUpdate P ρ H t m k x
  | .mapEntry t m k => hMapEntry P ρ H t m k
  | .entryStore _ m s x => hEntryStore ρ H m s x
  | .range t x => hRange P ρ H t x
  | .next it isString => hNext ρ H it isString
  | .entry it => hEntry ρ H it
  | .call c => hCall P ρ H c
  | .defer c => hDefer ρ c
  | .panic x => hPanic ρ x
  | _ => none
end heavies

/-- What a frame is at. -/
inductive AItem where
  | code (c : Code)
  | inBlock (id : Nat)
  | inLoop (body : Code)
  | inScope (body : Code)
  | inRangeFunc (l : Nat)
  | endRangeFunc (l : Nat)
  | beginRound
  | seq (ops : Array Oper) (i : Nat) (rest : List Oper)

/-- Panics under way: the value, and whether it has been recovered. -/
abbrev Chain := List (AV × Bool)

inductive AMode where
  | run
  | returning
  | panicking (c : Chain)

/-- up: of a deferred call the mode of the frame that makes it. -/
structure AFrame where
  fn : Nat
  tmps : Tr AV
  nt : Nat
  todo : List AItem
  defers : List ADef
  mode : AMode
  up : Option AMode
  round : Option Nat

inductive Ended where
  | ret (v : AV)
  | pan (c : Chain)

/-- How a call ends. -/
structure Res where
  e : Ended
  up : Option AMode
  H : AH

def exitToA (id : Nat) : List AItem → Option (List AItem)
  | .inBlock id' :: k => if id' == id then some k else exitToA id k
  | _ :: k => exitToA id k
  | [] => none

def gotoInA (l : Nat) : List AItem → Option (List AItem)
  | .inScope body :: k =>
    match findLabel body l with
    | some rest => some (.code rest :: .inScope body :: k)
    | none => gotoInA l k
  | _ :: k => gotoInA l k
  | [] => none

/-- Is an operation wanted: its guard. none: unknown. -/
def wantedA (ops : Array Oper) (o : Oper) (get : Tmp → Option AV) : Option Bool :=
  match o.guard with
  | none => some true
  | some (j, want) => match (ops[j]?).bind (·.dst) with
    | none => none
    | some d => match get d with
      | some (.bool b) => some (b == want)
      | some (.tuple []) => some false
      | _ => none

/-- The operations that must precede each one, as the bits of a number. -/
def masks : List Oper → List Nat → Option (List Nat)
  | [], acc => some acc
  | o :: l, acc =>
    let m := o.after.toList.foldl (fun s e => match s with
      | none => none
      | some s => bif Region.binds .any e then (match acc[e.on]? with
          | some n => some (Nat.lor (Nat.lor s (Nat.pow 2 e.on)) n)
          | none => none) else some s) (some 0)
    match m with
    | none => none
    | some m => masks l (acc ++ [m])

def hasBit (m i : Nat) : Bool := Nat.beq (Nat.land (Nat.shiftRight m i) 1) 1

/-- Light operations first, as soon as they may; then the next other one. -/
def asap (ops : Array Oper) (ms : List Nat) : Nat → Nat → List Nat → Option (List Nat)
  | 0, _, left => bif left.isEmpty then some [] else none
  | f + 1, got, left =>
    let ready (i : Nat) : Bool := match ms[i]? with | some m => Nat.beq (Nat.lor m got) got | none => false
    let pick := match left.find? (fun i => ready i && ((ops[i]?).any (isLight ·.op))) with
      | some i => some i
      | none => left.find? ready
    match pick with
    | none => bif left.isEmpty then some [] else none
    | some i => (asap ops ms f (Nat.lor got (Nat.pow 2 i)) (left.filter fun j => !Nat.beq i j)).map (i :: ·)

def dstsOf (ops : Array Oper) : List Tmp := ops.toList.filterMap (·.dst)

def nodupNat : List Nat → Bool
  | [] => true
  | a :: l => !l.any (Nat.beq a) && nodupNat l

/-- The static conditions on an order. -/
def okOrder (ops : Array Oper) (ms : List Nat) (last : Option Nat) : List Nat → Bool
  | [] => true
  | i :: l =>
    (match last with | none => true | some e => (ms[i]?).any (hasBit · e)) &&
    okOrder ops ms (bif (ops[i]?).any (isLight ·.op) then last else some i) l

def tmpsOf (o : Oper) : List Tmp := o.op.operands.toList.filterMap fun | .tmp t => some t | _ => none

/-- Whoever reads or writes what another one writes is ordered with it. -/
def okTmps (ops : Array Oper) (ms : List Nat) : Bool :=
  let l := ops.toList.zipIdx
  nodupNat (dstsOf ops) &&
  l.all fun (o, i) => l.all fun (o', j) => match o'.dst with
    | none => true
    | some d => Nat.beq i j || !((tmpsOf o ++ o.dst.toList).any (Nat.beq d)) || (ms[i]?).any (hasBit · j) || (ms[j]?).any (hasBit · i)

/-- A guard's operation precedes. -/
def okGuards (ms : List Nat) : List (Oper × Nat) → Bool
  | [] => true
  | (o, i) :: l => (match o.guard with | none => true | some (j, _) => (ms[i]?).any (hasBit · j)) && okGuards ms l

structure Plan where
  ms : List Nat
  order : List Nat

def plan (ops : Array Oper) : Option Plan :=
  match masks ops.toList [] with
  | none => none
  | some ms => match asap ops ms ops.size 0 (List.range ops.size) with
    | none => none
    | some l => bif okOrder ops ms none l && okTmps ops ms && okGuards ms ops.toList.zipIdx then some ⟨ms, l⟩ else none

/-- Which reads that have been carried out may still come behind 'i'. -/
def again (ops : Array Oper) (ms : List Nat) (done : List Nat) (i : Nat) : List Nat :=
  done.filter fun j => ((ops[j]?).any (isRead ·.op)) && !((ms[i]?).any (hasBit · j))

/-- Is 't' written by an operation that need not precede 'i'? -/
def late (ops : Array Oper) (ms : List Nat) (i : Nat) (t : Tmp) : Bool :=
  ops.toList.zipIdx.any fun (o, j) => (match o.dst with | some d => Nat.beq d t | none => false) && !((ms[i]?).any (hasBit · j))

def envAt (ops : Array Oper) (ms : List Nat) (base cur : Tr AV) (i : Nat) : Tmp → Option AV := fun t =>
  bif late ops ms i t then base.get t else cur.get t

def avalE (get : Tmp → Option AV) : Operand → Option AV
  | .tmp t => get t
  | .const v => conv v
  | .global g => some (.glob g)
  | .func f => some (.func (.func f) [] [])

mutual
def beqA : AV → AV → Bool
  | .bool a, .bool b => a == b
  | .int j a, .int k b => j == k && a == b
  | .str a, .str b => eqNats a b
  | .ptr a b, .ptr c d => Nat.beq a c && Nat.beq b d
  | .ptrNil, .ptrNil => true
  | .slice a b c d e f, .slice a' b' c' d' e' f' => Nat.beq a a' && Nat.beq b b' && Nat.beq c c' && Nat.beq d d' && Nat.beq e e' && f == f'
  | .sliceNil, .sliceNil => true
  | .map a, .map b => Nat.beq a b
  | .mapNil, .mapNil => true
  | .func f a b, .func g c d => decide (f = g) && beqAs a c && beqAs b d
  | .yield a, .yield b => Nat.beq a b
  | .nilFunc, .nilFunc => true
  | .iface t v, .iface u w => Nat.beq t u && beqA v w
  | .nilIface, .nilIface => true
  | .agg a, .agg b => beqAs a b
  | .tuple a, .tuple b => beqAs a b
  | .glob a, .glob b => Nat.beq a b
  | _, _ => false
def beqAs : List AV → List AV → Bool
  | [], [] => true
  | a :: l, b :: m => beqA a b && beqAs l m
  | _, _ => false
end

/-- The reads that may come again give what they gave. -/
def steady (P : Program) (ops : Array Oper) (ms : List Nat) (base cur : Tr AV) (H : AH) : List Nat → Bool
  | [] => true
  | j :: l =>
    (match ops[j]? with
     | none => false
     | some o => match wantedA ops o cur.get with
       | none => false
       | some false => true
       | some true => match readA P (avalE (envAt ops ms base cur j)) H o.op, o.dst with
         | some v, some d => (cur.get d).any (beqA v)
         | some _, none => true
         | none, _ => false) &&
    steady P ops ms base cur H l

inductive StepR where
  | go (fr : AFrame) (H : AH)
  | done (r : Res)
  | stuck (why : String)

def raiseA (m : AMode) (c : Chain) : AMode :=
  match m with
  | .panicking old => .panicking (c ++ old)
  | _ => .panicking c

def settleA (m : AMode) : AMode :=
  match m with
  | .panicking ((_, true) :: _) => .returning
  | m => m

def setDst (nt : Nat) (tmps : Tr AV) (dst : Option Tmp) (v : AV) : Option (Tr AV) :=
  match dst with
  | none => some tmps
  | some d => bif Nat.ble (d + 1) nt then some (tmps.set d v) else none

def enterA (P : Program) (f : FuncId) (args : List AV) (up : Option AMode) : Option AFrame :=
  match P.funcs[f]? with
  | some fn => match fn.body with
    | some c => bif Nat.ble args.length fn.ntmps then
        some { fn := f, tmps := Tr.ofList args 0 .nil, nt := fn.ntmps, todo := [.code c], defers := [], mode := .run, up, round := none }
      else none
    | none => none
  | none => none

def resultsA (P : Program) (H : AH) (tmps : Tr AV) : List ResultVar → Option (List AV)
  | [] => some []
  | .tmp t :: l => match tmps.get t with
    | some v => (resultsA P H tmps l).map (v :: ·)
    | none => none
  | .cell a t :: l => match tmps.get a with
    | some (.ptr id off) => match loadA P H t id off with
      | some v => (resultsA P H tmps l).map (v :: ·)
      | none => none
    | _ => none

def tupleA : List AV → AV
  | [v] => v
  | l => .tuple l

def roundFrame (o : AObj) (l : Nat) (args : List AV) : Option AFrame :=
  match o with
  | .loop _ _ fn tmps nt params assign body _ =>
    bif Nat.beq args.length params.length then
      match (params.zip args).foldl (fun t (p, a) => t.bind fun t => setDst nt t (some p) a) (some tmps) with
      | some tmps' => some { fn, tmps := tmps', nt, todo := [.code assign, .beginRound, .code body], defers := [], mode := .run, up := none, round := some l }
      | none => none
    else none
  | _ => none

/-- A frame is left: by its end, or by a jump. -/
def leaveRound (H : AH) (l : Nat) (jump : Option Code) : StepR :=
  match H.obj l with
  | some (.loop _ _ fn tmps nt ps a b d) =>
    .done { e := .ret (.bool jump.isNone), up := none, H := H.put l (.loop (bif jump.isNone then .ready else .done) jump fn tmps nt ps a b d) }
  | _ => .stuck "endRound"
def leaveA : AFrame → AH → Option Code → StepR
  | ⟨fn, tmps, nt, todo, defers, _, up, round⟩, H, jump =>
    match round with
    | none => match jump with
      | none | some .ret => .go ⟨fn, tmps, nt, todo, defers, .returning, up, none⟩ H
      | _ => .stuck "leave"
    | some l => leaveRound H l jump

/-- A function is called, no loop's body. -/
def enterOnly : Option Out → Option Out
  | some (.enter f args) => some (.enter f args)
  | _ => none

/-- How calls are carried out: by a run of their own, or by what is known of them. -/
structure Caller where
  go : AFrame → AH → Option Res
  known : FuncId → List AV → AH → Option (AV × AH)

def enterCall (P : Program) (call : Caller) (f : FuncId) (args : List AV) (up : Option AMode) (H : AH) : Option Res :=
  match up, call.known f args H with
  | none, some (v, H') => some ⟨.ret v, none, H'⟩
  | _, _ => (enterA P f args up).bind (call.go · H)

section machine
variable (P : Program) (call : Caller)

/-- A call of a function or of a loop's body. -/
def doCall (H : AH) (up : Option AMode) : Out → Option Res
  | .val v H => some { e := .ret v, up, H }
  | .enter f args => enterCall P call f args up H
  | .round l args => match H.obj l with
    | some o => (roundFrame o l args).bind (call.go · H)
    | none => none
  | _ => none

/-- A value goes into its slot, and on. -/
def onSeq (fr : AFrame) (o : Oper) (todo : List AItem) (v : AV) (H : AH) : StepR :=
  match fr with
  | ⟨fn, tmps, nt, _, defers, mode, up, round⟩ => match setDst nt tmps o.dst v with
    | some t => .go ⟨fn, t, nt, todo, defers, mode, up, round⟩ H
    | none => .stuck "dst"

def raiseFr : AFrame → Chain → AFrame
  | ⟨fn, tmps, nt, todo, defers, mode, up, round⟩, c => ⟨fn, tmps, nt, todo, defers, raiseA mode c, up, round⟩

def seqRes (fr : AFrame) (o : Oper) (todo : List AItem) (r : Option Res) : StepR :=
  match r with
  | some ⟨.ret v, _, H⟩ => onSeq fr o todo v H
  | some ⟨.pan c, _, H⟩ => .go (raiseFr fr c) H
  | none => .stuck "call"

def seqDefer (fr : AFrame) (o : Oper) (todo : List AItem) (d : ADef) (H : AH) : StepR :=
  match fr with
  | ⟨fn, tmps, nt, _, defers, mode, up, none⟩ => match setDst nt tmps o.dst .undef with
    | some t => .go ⟨fn, t, nt, todo, d :: defers, mode, up, none⟩ H
    | none => .stuck "dst"
  | _ => .stuck "defer"

def seqRecover (fr : AFrame) (o : Oper) (todo : List AItem) (H : AH) : StepR :=
  match fr with
  | ⟨fn, tmps, nt, _, defers, mode, some (.panicking ((v, false) :: older)), none⟩ => match setDst nt tmps o.dst v with
    | some t => .go ⟨fn, t, nt, todo, defers, mode, some (.panicking ((v, true) :: older)), none⟩ H
    | none => .stuck "dst"
  | ⟨fn, tmps, nt, _, defers, mode, up, none⟩ => match setDst nt tmps o.dst .nilIface with
    | some t => .go ⟨fn, t, nt, todo, defers, mode, up, none⟩ H
    | none => .stuck "dst"
  | _ => .stuck "recover"

def seqHeavy (fr : AFrame) (o : Oper) (todo : List AItem) (H : AH) (out : Option Out) : StepR :=
  match out with
  | none => .stuck "heavy"
  | some (.defer d) => seqDefer fr o todo d H
  | some (.panic v) => .go (raiseFr fr [(v, false)]) H
  | some .recover => seqRecover fr o todo H
  | some out => seqRes fr o todo (doCall P call H none out)

def seqRead (fr : AFrame) (o : Oper) (todo : List AItem) (H : AH) (r : Option AV) : StepR :=
  match r with
  | some v => onSeq fr o todo v H
  | none => .stuck "read"

def seqMake (fr : AFrame) (o : Oper) (todo : List AItem) (H : AH) (r : Option (AObj × (Nat → AV))) : StepR :=
  match r, H with
  | some (ob, g), ⟨h, n⟩ => onSeq fr o todo (g n) (AH.new ⟨h, n⟩ ob)
  | none, _ => .stuck "make"

def stepSeq (fr : AFrame) (H : AH) (ops : Array Oper) (i : Nat) (o : Oper) (rest : List Oper) (k : List AItem) : StepR :=
  match fr with
  | ⟨fn, tmps, nt, todo, defers, mode, up, round⟩ =>
    match wantedA ops o tmps.get with
    | none => .stuck "guard"
    | some b =>
      bif b then
        bif isRead o.op then seqRead ⟨fn, tmps, nt, todo, defers, mode, up, round⟩ o (.seq ops (Nat.succ i) rest :: k) H (readA P (aval tmps) H o.op)
        else bif isMake o.op then seqMake ⟨fn, tmps, nt, todo, defers, mode, up, round⟩ o (.seq ops (Nat.succ i) rest :: k) H (made P (aval tmps) o.op)
        else seqHeavy P call ⟨fn, tmps, nt, todo, defers, mode, up, round⟩ o (.seq ops (Nat.succ i) rest :: k) H (heavy P (aval tmps) H o.op)
      else onSeq ⟨fn, tmps, nt, todo, defers, mode, up, round⟩ o (.seq ops (Nat.succ i) rest :: k) .undef H

/-- How a region ends that draws its order. -/
inductive ParR where
  | fin (tmps : Tr AV) (H : AH)
  | pan (c : Chain) (H : AH)
  | stuck (why : String)

/-- What a step of such a region comes to: the slots, the heap. -/
inductive ParS where
  | go (tmps : Tr AV) (H : AH)
  | pan (c : Chain) (H : AH)
  | stuck (why : String)

def parPut (nt : Nat) (tmps : Tr AV) (o : Oper) (v : AV) (H : AH) : ParS :=
  match setDst nt tmps o.dst v with
  | some t => .go t H
  | none => .stuck "dst"

def parRead (nt : Nat) (tmps : Tr AV) (o : Oper) (H : AH) (r : Option AV) : ParS :=
  match r with
  | some v => parPut nt tmps o v H
  | none => .stuck "read"

def parMake (nt : Nat) (tmps : Tr AV) (o : Oper) (H : AH) (r : Option (AObj × (Nat → AV))) : ParS :=
  match r, H with
  | some (ob, g), ⟨h, n⟩ => parPut nt tmps o (g n) (AH.new ⟨h, n⟩ ob)
  | none, _ => .stuck "make"

/-- Behind an operation that is not light the reads that may come again must give what they gave. -/
def parRes (ops : Array Oper) (ms : List Nat) (base : Tr AV) (ag : List Nat) (nt : Nat) (tmps : Tr AV) (o : Oper) (r : Option Res) : ParS :=
  match r with
  | some ⟨.ret v, _, H⟩ => match setDst nt tmps o.dst v with
    | some t => bif steady P ops ms base t H ag then .go t H else .stuck "steady"
    | none => .stuck "dst"
  | some ⟨.pan c, _, H⟩ => .pan c H
  | none => .stuck "call"

def parHeavy (ops : Array Oper) (ms : List Nat) (base : Tr AV) (ag : List Nat) (nt : Nat) (tmps : Tr AV) (o : Oper) (H : AH) (out : Option Out) : ParS :=
  match out with
  | some out => parRes P ops ms base ag nt tmps o (doCall P call H none out)
  | none => .stuck "heavy"

def parStep (ops : Array Oper) (ms : List Nat) (base : Tr AV) (done : List Nat) (i : Nat) (nt : Nat) (tmps : Tr AV) (H : AH) (o : Oper) : ParS :=
  match wantedA ops o tmps.get with
  | none => .stuck "guard"
  | some b =>
    bif b then
      bif isRead o.op then parRead nt tmps o H (readA P (aval tmps) H o.op)
      else bif isMake o.op then parMake nt tmps o H (made P (aval tmps) o.op)
      else parHeavy P call ops ms base (again ops ms done i) nt tmps o H (heavy P (aval tmps) H o.op)
    else parPut nt tmps o .undef H

def parLoop (ops : Array Oper) (ms : List Nat) (base : Tr AV) (nt : Nat) : List Nat → List Nat → Tr AV → AH → ParR
  | [], _, tmps, H => .fin tmps H
  | i :: rest, done, tmps, H => match ops[i]? with
    | none => .stuck "order"
    | some o => match parStep P call ops ms base done i nt tmps H o with
      | .go t H' => parLoop ops ms base nt rest (i :: done) t H'
      | .pan c H' => .pan c H'
      | .stuck w => .stuck w

/-- The slots that a region does not write. -/
def eraseAll (t : Tr AV) : List Tmp → Tr AV
  | [] => t
  | d :: l => eraseAll (t.erase d) l

def parDone (fr : AFrame) (ops : Array Oper) (k : List AItem) (r : ParR) : StepR :=
  match fr, r with
  | ⟨fn, _, nt, _, defers, mode, up, round⟩, .fin t H => .go ⟨fn, t, nt, k, defers, mode, up, round⟩ H
  | ⟨fn, tmps, nt, _, defers, mode, up, round⟩, .pan c H => .go ⟨fn, eraseAll tmps (dstsOf ops), nt, k, defers, raiseA mode c, up, round⟩ H
  | _, .stuck w => .stuck w

/-- On with another list of what is to do. -/
def to (fr : AFrame) (H : AH) (k : List AItem) : StepR :=
  match fr with
  | ⟨fn, tmps, nt, _, defers, mode, up, round⟩ => .go ⟨fn, tmps, nt, k, defers, mode, up, round⟩ H

def stepCond (fr : AFrame) (H : AH) (thn els : Code) (k : List AItem) (c : Option AV) : StepR :=
  match c with
  | some (.bool b) => to fr H (.code (bif b then thn else els) :: k)
  | _ => .stuck "cond"

def stepJump (fr : AFrame) (H : AH) (j : Code) (k : Option (List AItem)) : StepR :=
  match k with
  | some k => to fr H k
  | none => leaveA fr H (some j)

def stepRegion (fr : AFrame) (H : AH) (ops : Array Oper) (draw : Bool) (k : List AItem) : StepR :=
  bif draw then match fr, plan ops with
    | ⟨fn, tmps, nt, todo, defers, mode, up, round⟩, some pl =>
      parDone ⟨fn, tmps, nt, todo, defers, mode, up, round⟩ ops k (parLoop P call ops pl.ms tmps nt pl.order [] tmps H)
    | _, none => .stuck "plan"
  else to fr H (.seq ops 0 ops.toList :: k)

/-- Where the rounds' deferred calls go: the block, the mark, the heap. -/
def loopMark (H : AH) (round : Option Nat) : Option (Nat × List ADef × AH) :=
  match round with
  | some l => match H.obj l with
    | some (.loop _ _ _ _ _ _ _ _ d) => some (d, [], H)
    | _ => none
  | none => match H with
    | ⟨h, n⟩ => some (n, [.collected n], AH.new ⟨h, n⟩ (.deferred (some [])))

def rangeRes (fr : AFrame) (l : Nat) (mark : List ADef) (k : List AItem) (r : Option Res) : StepR :=
  match fr, r with
  | ⟨fn, tmps, nt, _, defers, mode, up, round⟩, some ⟨.ret _, _, H⟩ => .go ⟨fn, tmps, nt, .endRangeFunc l :: k, mark ++ defers, mode, up, round⟩ H
  | ⟨fn, tmps, nt, _, defers, mode, up, round⟩, some ⟨.pan c, _, H⟩ => .go ⟨fn, tmps, nt, .inRangeFunc l :: k, mark ++ defers, raiseA mode c, up, round⟩ H
  | _, none => .stuck "rangeFunc call"

def enterLoopA (fr : AFrame) (f : Operand) (params : Array Tmp) (assign body : Code) (k : List AItem) : Option (Nat × List ADef × AH) → StepR
  | none => .stuck "rangeFunc"
  | some (d, mark, ⟨h, n⟩) => match fr with
    | ⟨fn, tmps, nt, todo, defers, mode, up, round⟩ =>
      rangeRes ⟨fn, tmps, nt, todo, defers, mode, up, round⟩ n mark k
        ((aval tmps f).bind fun g => (enterOnly (callA P g [.yield n])).bind (doCall P call (AH.new ⟨h, n⟩ (.loop .ready none fn tmps nt params.toList assign body d)) none))

def stepRangeFunc (fr : AFrame) (H : AH) (f : Operand) (params : Array Tmp) (assign body : Code) (k : List AItem) : StepR :=
  match fr with
  | ⟨fn, tmps, nt, todo, defers, mode, up, round⟩ => enterLoopA P call ⟨fn, tmps, nt, todo, defers, mode, up, round⟩ f params assign body k (loopMark H round)

def stepBeginRound (fr : AFrame) (H : AH) (k : List AItem) : StepR :=
  match fr with
  | ⟨fn, tmps, nt, _, defers, mode, up, some l⟩ => match H.obj l with
    | some (.loop .ready p lf lt ln ps a b d) => .go ⟨fn, tmps, nt, k, defers, mode, up, some l⟩ (H.put l (.loop .busy p lf lt ln ps a b d))
    | _ => .stuck "beginRound"
  | _ => .stuck "beginRound"

def pendingA (p : Option Code) (k : List AItem) : List AItem :=
  match p with
  | some c => .code c :: k
  | none => k

def stepEndRange (fr : AFrame) (H : AH) (l : Nat) (k : List AItem) : StepR :=
  match H.obj l with
  | some (.loop .ready p fn tmps nt ps a b d) => to fr (H.put l (.loop .exhausted p fn tmps nt ps a b d)) (pendingA p k)
  | some (.loop .done p fn tmps nt ps a b d) => to fr (H.put l (.loop .exhausted p fn tmps nt ps a b d)) (pendingA p k)
  | _ => .stuck "endLoop"

def stepCode (fr : AFrame) (H : AH) (k : List AItem) : Code → StepR
  | .ret => leaveA fr H (some .ret)
  | .skip => to fr H k
  | .label _ => to fr H k
  | .seq a b => to fr H (.code a :: .code b :: k)
  | .cond c thn els => stepCond fr H thn els k (aval fr.tmps c)
  | .block id body => to fr H (.code body :: .inBlock id :: k)
  | .loop body => to fr H (.code body :: .inLoop body :: k)
  | .scope body => to fr H (.code body :: .inScope body :: k)
  | .exit id => stepJump fr H (.exit id) (exitToA id k)
  | .goto l => stepJump fr H (.goto l) (gotoInA l k)
  | .region _ ops draw => stepRegion P call fr H ops draw k
  | .rangeFunc f params assign body => stepRangeFunc P call fr H f params assign body k
  | .refuse _ => .stuck "refuse"

def stepItem (fr : AFrame) (H : AH) (k : List AItem) : AItem → StepR
  | .code c => stepCode P call fr H k c
  | .inBlock _ => to fr H k
  | .inScope _ => to fr H k
  | .inLoop body => to fr H (.code body :: .inLoop body :: k)
  | .seq ops i l => match l with
    | [] => to fr H k
    | o :: rest => stepSeq P call fr H ops i o rest k
  | .beginRound => stepBeginRound fr H k
  | .endRangeFunc l => stepEndRange fr H l k
  | .inRangeFunc _ => .stuck "inRangeFunc"

def stepRun (fr : AFrame) (H : AH) : StepR :=
  match fr with
  | ⟨fn, tmps, nt, [], defers, mode, up, round⟩ => leaveA ⟨fn, tmps, nt, [], defers, mode, up, round⟩ H none
  | ⟨fn, tmps, nt, x :: k, defers, mode, up, round⟩ => stepItem P call ⟨fn, tmps, nt, x :: k, defers, mode, up, round⟩ H k x

/-- On the way out, in another mode. -/
def outMode (fr : AFrame) (ds : List ADef) (u : AMode) (H : AH) : StepR :=
  match u, fr with
  | .run, _ => .stuck "run"
  | u, ⟨fn, tmps, nt, todo, _, _, up, round⟩ => .go ⟨fn, tmps, nt, todo, ds, u, up, round⟩ H

def outRes (fr : AFrame) (ds : List ADef) (r : Option Res) : StepR :=
  match fr, r with
  | fr, some ⟨.ret _, some u, H⟩ => outMode fr ds (settleA u) H
  | fr, some ⟨.pan c, some u, H⟩ => outMode fr ds (raiseA u c) H
  | _, _ => .stuck "deferred call"

def outDone (fr : AFrame) (H : AH) : StepR :=
  match fr with
  | ⟨fn, tmps, _, _, _, mode, up, _⟩ => match mode with
    | .run => .stuck "run"
    | .panicking c => bif (P.funcs[fn]?).isSome then .done ⟨.pan c, up, H⟩ else .stuck "no function"
    | .returning => match P.funcs[fn]? with
      | some f => match resultsA P H tmps f.results.toList with
        | some l => .done ⟨.ret (tupleA l), up, H⟩
        | none => .stuck "results"
      | none => .stuck "no function"

def stepOut (fr : AFrame) (H : AH) : StepR :=
  match fr with
  | ⟨fn, tmps, nt, todo, defers, mode, up, round⟩ => match defers with
    | .collected r :: ds => match H.obj r with
      | some (.deferred (some [])) => .go ⟨fn, tmps, nt, todo, ds, mode, up, round⟩ (H.put r (.deferred none))
      | _ => .stuck "collected"
    | .call f captured args :: ds => outRes ⟨fn, tmps, nt, todo, defers, mode, up, round⟩ ds ((enterOnly (callA P (.func f [] captured) args)).bind (doCall P call H (some mode)))
    | [] => outDone P ⟨fn, tmps, nt, todo, defers, mode, up, round⟩ H

def stepA (fr : AFrame) (H : AH) : StepR :=
  match fr with
  | ⟨fn, tmps, nt, todo, defers, mode, up, round⟩ => match mode with
    | .run => stepRun P call ⟨fn, tmps, nt, todo, defers, .run, up, round⟩ H
    | m => stepOut P call ⟨fn, tmps, nt, todo, defers, m, up, round⟩ H
end machine

abbrev Known := FuncId → List AV → AH → Option (AV × AH)
def noneKnown : Known := fun _ _ _ => none

def run (P : Program) (K : Known) : Nat → AFrame → AH → Option Res
  | 0, _, _ => none
  | n + 1, fr, H => match stepA P ⟨run P K n, K⟩ fr H with
    | .go fr' H' => run P K n fr' H'
    | .done r => some r
    | .stuck _ => none

/-- A call, from memory of its own. -/
def eval (P : Program) (K : Known) (n : Nat) (f : FuncId) (args : List AV) (H : AH) : Option Res := (enterA P f args none).bind fun fr => run P K n fr H

end
end Go.Ev
