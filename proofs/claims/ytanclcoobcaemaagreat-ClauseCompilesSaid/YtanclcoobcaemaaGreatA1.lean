/- The evaluator: definitions, reads. -/
import GoSem.Step
import Derived.WalkKit
import Derived.Defers
import Derived.ChangeKeysEq
import Derived.Laws.CopyRow
import Derived.Laws.Rows
import Derived.MapKept
import Derived.RangeFuncOwn
set_option linter.all false
set_option linter.unusedSectionVars false
namespace Go.Ev
abbrev LI:=List Int
abbrev LN:=List Nat
abbrev LP:=List (Int×Int)
abbrev bj:= @List.length_append
abbrev bR:= @List.length_cons
abbrev cI:= @List.length_nil
abbrev az:= @if_neg
abbrev aN:= @if_pos
abbrev cy:= @Bool.and_eq_true
abbrev dV:= @List.drop_eq_nil_of_le
abbrev dk:= @Option.some.inj
abbrev eI:= @Nat.eq_of_beq_eq_true
abbrev eE:= @List.mem_cons_of_mem
abbrev dW:= @of_decide_eq_true
abbrev eJ:= @of_decide_eq_false
abbrev eP:= @List.mem_cons_self
abbrev ss:= @List.mem_cons
abbrev fX:= @Int.ofNat_eq_natCast
abbrev jN:= @List.getElem?_eq_getElem
abbrev gz:= @List.append_nil
abbrev iy:= @List.append_assoc
abbrev eh:= @Nat.le_refl
abbrev iK:= @decide_eq_true_eq
abbrev ml:= @Classical.byContradiction
abbrev fD:= @Nat.zero_add
abbrev iz:= @Nat.lt_succ_self
abbrev hI:= @List.drop_zero
abbrev ik:= @List.foldl_cons
abbrev fM:= @Int.le_refl
abbrev ko:= @List.mem_singleton
abbrev jf:= @Bool.true_and
abbrev xB:= @List.getElem?_append_right
abbrev uI:= @List.take_append_drop
abbrev v7:= @List.drop_left
abbrev xC:= @List.getElem_mem
abbrev nu:= @Option.some.injEq
abbrev mQ:= @List.cons_append
abbrev pS:= @List.nil_append
noncomputable section
inductive Tr(α:Type)where
 |gB
 |gm (v:Option α) (l r:Tr α)
namespace Tr
variable{α:Type}
abbrev br{β:Type}(c:Bool)(x y:β):β:= @Bool.rec (fun _=>β) y x c
def cb(t:Tr α):Nat->Option α:=
 @Tr.rec α (fun _=>Nat->Option α) (fun _=>none)
  (fun v _ _ gl gr n=> @Bool.rec (fun _=>Option α) (@Bool.rec (fun _=>Option α) (gr (Nat.sub (Nat.div n 2) 1)) (gl (Nat.div n 2)) (Nat.beq (Nat.mod n 2) 1)) v (Nat.beq n 0)) t
def iM(f:Nat):Nat->α->Tr α:=
 @Nat.rec (fun _=>Nat->α->Tr α) (fun _ a=>.gm (some a) .gB .gB)
  (fun _ sg n a=> @Bool.rec (fun _=>Tr α) (@Bool.rec (fun _=>Tr α) (.gm none .gB (sg (Nat.sub (Nat.div n 2) 1) a)) (.gm none (sg (Nat.div n 2) a) .gB) (Nat.beq (Nat.mod n 2) 1)) (.gm (some a) .gB .gB) (Nat.beq n 0)) f
def iY(t:Tr α):Nat->α->Tr α:=
 @Tr.rec α (fun _=>Nat->α->Tr α) (fun n a=>iM n n a)
  (fun v l r sl sr n a=> @Bool.rec (fun _=>Tr α) (@Bool.rec (fun _=>Tr α) (.gm v l (sr (Nat.sub (Nat.div n 2) 1) a)) (.gm v (sl (Nat.div n 2) a) r) (Nat.beq (Nat.mod n 2) 1)) (.gm (some a) l r) (Nat.beq n 0)) t
def ze(t:Tr α):Nat->Tr α:=
 @Tr.rec α (fun _=>Nat->Tr α) (fun _=>.gB)
  (fun v l r el er n=> @Bool.rec (fun _=>Tr α) (@Bool.rec (fun _=>Tr α) (.gm v l (er (Nat.sub (Nat.div n 2) 1))) (.gm v (el (Nat.div n 2)) r) (Nat.beq (Nat.mod n 2) 1)) (.gm none l r) (Nat.beq n 0)) t
def Aw:List α->Nat->Tr α->Tr α
 |[],_,t=>t
 |a::l,n,t=>Aw l (n+1) (t.iY n a)
end Tr
inductive AV where
 |aA (b:Bool)
 |cM (k:IntKind) (n:Int)
 |aa (s:LN)
 |ad (id off:Nat)
 |pd
 |bB (id off len cap sz:Nat) (ex:Bool)
 |bg
 |aS (id:Nat)
 |nF
 |b9 (fn:Fn) (first kv:List AV)
 |gJ (l:Nat)
 |qA
 |e_ (t:TypeId) (v:AV)
 |my
 |aj (cs:List AV)
 |aO (vs:List AV)
 |vo (g:Nat)
 |Cx (v:Value)
 |vZ (k:IntKind) (n:Int) (ne:LI) (lo hi:Option Int)
 |uD (s:LN) (ne:List LN)
 |aB (cs:List AV) (len sz:Nat)
 |qw (cs:List AV)
 |ae (id len sz:Nat)
 deriving Inhabited
def gV(b:ByteArray):LN:=b.data.toList.map UInt8.toNat
def uo:Fn->Bool
 |.yield _=>true
 |_=>false
def KX:Value->Option AV
 |.bool b=>some (.aA b)
 |.int k n=>some (.cM k n)
 |.string s=>some (.aa (gV s))
 |.pointer none=>some .pd
 |.slice none 0 0=>some .bg
 |.map none=>some .nF
 |.func fn f c=>bif uo fn|| !f.isEmpty|| !c.isEmpty then none else some (.b9 fn [] [])
 |.nilFunc=>some .qA
 |.nilIface=>some .my
 |_=>none
abbrev LV:=List AV
def DM:List Value->Option LV
 |[]=>some []
 |v::l=>match KX v with
  |none=>none
  |some a=>match DM l with
   |none=>none
   |some as=>some (a::as)
def Dn:Value->Option AV
 |.agg cs=>(DM cs.toList).map .aj
 |.tuple cs=>bif cs.isEmpty then some (.aO [])else none
 |v=>KX v
def AV.ec:AV->Bool
 |.aj _|.aO _=>false
 |_=>true
def AV.eB:AV->LV
 |.aj cs=>cs
 |v=>[v]
def AV.lU:AV:=.aO []
mutual
def je:AV->Bool
 |.ad .. |.bB .. |.aS _|.gJ _|.ae .. =>false
 |.b9 _ f c=>yR f&&yR c
 |.e_ _ v=>je v
 |.aj cs=>yR cs
 |.aO cs=>yR cs
 |_=>true
def yR:LV->Bool
 |[]=>true
 |a::l=>je a&&yR l
end
def dF:LN->LN->Bool
 |[],[]=>true
 |a::l,b::m=>bif Nat.beq a b then dF l m else false
 |_,_=>false
def xq:LN->LN->Bool
 |_,[]=>false
 |[],_::_=>true
 |a::x,b::y=>bif Nat.ble (a+1) b then true else bif Nat.beq a b then xq x y else false
inductive iZ where
 |xP (fn:Fn) (kv args:LV)
 |nP (r:Nat)
inductive bc where
 |ay (vs:LV) (elem:TypeId)
 |bM (es:List (AV×AV×Nat)) (db:Nat) (p:Bool)
 |rB (s:LN) (pos:Nat)
 |sI (m:Option Nat) (og:Nat) (iL:LN) (y8:Nat)
 |gG (state:LoopState) (pending:Option Code) (fn:Nat) (tmps:Tr AV) (nt:Nat) (params:List Tmp) (assign body:Code) (defers:Nat)
 |oP (sO:Option (List iZ))
 |bJ (vs:LV)
 |Rn (es:List (AV×AV))
 |v8 (z:LV) (n:Nat) (elem:TypeId)
 |c9 (vs:LV) (elem:TypeId)
 |aL (vs:LV) (elem:TypeId)
structure AH where
 h:Tr bc
 bW:Nat
def AH.iN:AH->bc->AH
 |⟨h,n⟩,o=>⟨h.iY n o,Nat.succ n⟩
def AH.dS:AH->Nat->bc->AH
 |⟨h,n⟩,id,o=>⟨h.iY id o,n⟩
def AH.bD:AH->Nat->Option bc
 |⟨h,_⟩,id=>h.cb id
def jq(z:LV)(n:Nat):LV:=
 match n with
 |0=>[]
 |n+1=>z++jq z n
def AH.oo(H:AH)(id:Nat):Option LV:=
 match H.bD id with
 |some (.ay vs _)=>some vs
 |some (.v8 z n _)=>some (jq z n)
 |some (.c9 vs _)=>some vs
 |some (.aL vs _)=>some vs
 |_=>none
def iD(tmps:Tr AV):Operand->Option AV
 |.tmp t=>tmps.cb t
 |.const v=>Dn v
 |.global g=>some (.vo g)
 |.func f=>some (.b9 (.func f) [] [])
def tR(ρ:Operand->Option AV):List Operand->Option LV
 |[]=>some []
 |x::l=>match ρ x with
  |none=>none
  |some a=>match tR ρ l with
   |none=>none
   |some as=>some (a::as)
def DE(ρ:Operand->Option AV):List (Nat×Operand)->Option (List (Nat×AV))
 |[]=>some []
 |(i,x)::l=>match ρ x with
  |none=>none
  |some a=>match DE ρ l with
   |none=>none
   |some as=>some ((i,a)::as)
section types
variable(P:Program)
def Aa(t:TypeId):Option Bool:=
 match P.underlying t with
 |some (.struct _)|some (.array _ _)=>some true
 |some _=>some false
 |none=>none
def dH(t:TypeId):Option Nat:=(P.info? t).map (·.size)
def u9(t:TypeId):Option Nat:=(P.info? t).map (·.bytes)
def kM(t:TypeId):Option AV:=((P.info? t).bind (·.zero)).bind Dn
def aeQ:TypeDesc->Bool
 |.int _|.string|.bool=>true
 |_=>false
def aeR(t:TypeId):Bool:=
 match P.underlying t with
 |some (.struct gL)=>gL.toList.all fun f=>(P.underlying f.type).any aeQ
 |some d=>aeQ d
 |none=>false
def Wq(gL:Array Field):Option (List (Nat×Nat)):=
 gL.toList.mapM fun f=>(dH P f.type).map fun s=>(f.offset,s)
end types
def yT{α:Type}(P:Program):Sem α->Option α
 |.pure a=>some a
 |.program k=>yT P (k P)
 |_=>none
def OU:AV->Option Value
 |.aA b=>some (.bool b)
 |.cM k n=>some (.int k n)
 |_=>none
def NB:Value->Option AV
 |.bool b=>some (.aA b)
 |.int k n=>some (.cM k n)
 |_=>none
def ph(l:LV)(off n:Nat):Option LV:=
 let r:=(l.drop off).take n
 bif Nat.beq r.length n then some r else none
def ab5(n:Nat):LV->Bool:=
 @Nat.rec (fun _=>LV->Bool) (fun _=>true) (fun _ r l=> @List.rec AV (fun _=>(LV->Bool)->Bool) (fun _=>false) (fun _ t _ r=>r t) l r) n
def sq(l:LV)(off:Nat)(cs:LV):Option LV:=
 bif ab5 (off+cs.length) l then some (l.take off++(cs++l.drop (off+cs.length)))else none
def wS(IN:Nat->Option (Nat×Nat))(cells:LV):List (Nat×AV)->Option LV
 |[]=>some cells
 |(i,v)::rest=>
  match IN i with
  |none=>none
  |some (off,size)=>
   bif Nat.beq v.eB.length size then
    match sq cells off v.eB with
    |none=>none
    |some aiG=>wS IN aiG rest
   else none
def bA(P:Program)(t:TypeId)(cs:LV)(off:Nat):Option AV:=
 match Aa P t with
 |some true=>match dH P t with
  |some s=>(ph cs off s).map .aj
  |none=>none
 |some false=>cs[off]?
 |none=>none
def Fk(lo:Option Int)(n:Int):Bool:=
 match lo with
 |some l=>decide (n<l)
 |none=>false
def Fj(hi:Option Int)(n:Int):Bool:=
 match hi with
 |some h=>decide (h<n)
 |none=>false
def EI(ne:List LN)(s:LN):Bool:=ne.any (dF s)
def iQ(P:Program):Nat->TypeId->AV->AV->Option Bool
 |0,_,_,_=>none
 |d+1,t,x,y=>
  match P.underlying t,x,y with
  |some .bool,.aA a,.aA b=>some (a==b)
  |some (.int _),.cM k a,.cM k' b=>if k=k' then some (a==b)else none
  |some .string,.aa a,.aa b=>some (dF a b)
  |some .string,.uD _ ne,.aa b=>bif EI ne b then some false else none
  |some .string,.aa b,.uD _ ne=>bif EI ne b then some false else none
  |some (.int _),.vZ k _ ne lo hi,.cM k' b=>if k=k' then bif Fk lo b||Fj hi b||ne.contains b then some false else none else none
  |some (.int _),.cM k' b,.vZ k _ ne lo hi=>if k=k' then bif Fk lo b||Fj hi b||ne.contains b then some false else none else none
  |some (.pointer _),.pd,.pd=>some true
  |some (.pointer _),.pd,.ad _ _=>some false
  |some (.pointer _),.ad _ _,.pd=>some false
  |some (.slice _),.bg,.bg=>some true
  |some (.slice _),.bg,.bB .. =>some false
  |some (.slice _),.bB ..,.bg=>some false
  |some (.map _ _),.nF,.nF=>some true
  |some (.map _ _),.nF,.aS _=>some false
  |some (.map _ _),.aS _,.nF=>some false
  |some (.func _ _ _),.qA,.qA=>some true
  |some (.func _ _ _),.qA,.b9 _ _ _=>some false
  |some (.func _ _ _),.b9 _ _ _,.qA=>some false
  |some (.interface _),.my,.my=>some true
  |some (.interface _),.my,.e_ _ _=>some false
  |some (.interface _),.e_ _ _,.my=>some false
  |some (.interface _),.e_ tx vx,.e_ ty vy=>
   bif Nat.beq tx ty then
    match P.info? tx with
    |some i=>bif i.comparable then iQ P d tx vx vy else none
    |none=>none
   else some false
  |some (.struct gL),.aj xs,.aj ys=>
   bif P.stoodInHeld t then none else A6 P d gL.toList xs ys (iQ P d)
  |_,_,_=>none
where
 A6 (P:Program) (d:Nat):List Field->LV->LV->(TypeId->AV->AV->Option Bool)->Option Bool
 |[],_,_,_=>some true
 |f::fs,xs,ys,eq=>
  if f.name= "_" then none else
  match bA P f.type xs f.offset,bA P f.type ys f.offset with
  |some a,some b=>match eq f.type a b with
   |some true=>A6 P d fs xs ys eq
   |some false=>some false
   |none=>none
  |_,_=>none
def sc:Operand->Bool
 |.const _=>true
 |_=>false
def RE(op:BinOp)(x y:LN):Option AV:=
 match op with
 |.add=>bif Nat.ble (x.length+y.length) 1000000 then some (.aa (x++y))else none
 |.eql=>some (.aA (dF x y))
 |.neq=>some (.aA (!dF x y))
 |.lss=>some (.aA (xq x y))
 |.leq=>some (.aA (xq x y||dF x y))
 |.gtr=>some (.aA (!(xq x y||dF x y)))
 |.geq=>some (.aA (!xq x y))
 |_=>none
def nE:AV->Nat
 |.aA _=>0
 |.ad .. |.pd=>1
 |.bB .. |.bg=>2
 |.aS _|.nF=>3
 |.b9 .. |.qA=>4
 |.e_ .. |.my=>5
 |.aj _=>6
 |_=>9
def Et(P:Program)(t:TypeId)(x y:Operand):AV->AV->Bool
 |.my,.my=>sc x||sc y
 |.aj _,.aj _=> !P.eqGuardType P.depth t
 |_,_=>true
def Eh(P:Program)(op:BinOp)(t:TypeId)(a b:AV):Option AV:=
 match op with
 |.eql=>(iQ P 100 t a b).map .aA
 |.neq=>(iQ P 100 t a b).map fun r=>.aA (!r)
 |_=>none
def FC:BinOp->Option AV
 |.eql=>some (.aA false)
 |.neq=>some (.aA true)
 |_=>none
def Od(op:BinOp)(up:Bool):Option AV:=
 match op with
 |.eql=>some (.aA false)
 |.neq=>some (.aA true)
 |.lss=>some (.aA (!up))
 |.leq=>some (.aA (!up))
 |.gtr=>some (.aA up)
 |.geq=>some (.aA up)
 |_=>none
def aeu(op:BinOp)(ne:LI)(lo hi:Option Int)(n:Int):Option AV:=
 bif Fk lo n then Od op true else bif Fj hi n then Od op false else bif ne.contains n then FC op else none
def KK(P:Program)(op:BinOp)(t:TypeId)(x y:Operand)(a b:AV):Option AV:=
 match a,b with
 |.cM k m,.cM k' n=>(yT P (Go.binOp op t (.int k m) (.int k' n))).bind NB
 |.aa l,.aa m=>RE op l m
 |.vZ k _ ne lo hi,.cM k' n=>if k=k' then aeu op ne lo hi n else none
 |.uD _ ne,.aa l=>bif EI ne l then FC op else none
 |.aa l,.uD _ ne=>bif EI ne l then FC op else none
 |a,b=>bif Nat.beq (nE a) (nE b)&& !Nat.beq (nE a) 9&&Et P t x y a b then Eh P op t a b else none
def nG:AV->Option Nat
 |.cM _ (.ofNat n)=>some n
 |_=>none
def rT(n:Nat):AV:=.cM .i64 (.ofNat n)
def mE(eq:AV->AV->Option Bool)(k:AV):List (AV×AV×Nat)->Nat->Option (Option (Nat×AV×Nat))
 |[],_=>some none
 |(x,v,b)::es,i=>match eq k x with
  |some true=>some (some (i,v,b))
  |some false=>mE eq k es (i+1)
  |none=>none
def IS:TypeDesc->AV->Bool
 |.int _,.cM _ _|.string,.aa _|.bool,.aA _=>true
 |.int _,.vZ .. |.string,.uD .. =>true
 |_,_=>false
def Wr(P:Program)(cs:LV)(f:Field):Bool:=
 match P.underlying f.type,cs[f.offset]? with
 |some d,some a=>IS d a
 |_,_=>false
def ru(P:Program)(t:TypeId)(k:AV):Bool:=
 match P.underlying t,k with
 |some (.struct gL),.aj cs=>gL.toList.all (Wr P cs)
 |some d,a=>IS d a
 |none,_=>false
def se(P:Program)(H:AH)(t:TypeId)(id off:Nat):Option AV:=
 match H.oo id with
 |none=>none
 |some vs=>bA P t vs off
def Cj(H:AH):AV->Option Nat
 |.aa s=>some s.length
 |.bB _ _ len _ _ _=>some len
 |.aB _ len _=>some len
 |.ae _ len _=>some len
 |.bg=>some 0
 |.nF=>some 0
 |.aS id=>match H.bD id with
  |some (.bM es _ _)=>some es.length
  |_=>none
 |_=>none
def Og(s:LN)(lo hi:Option AV):Option AV:=
 match(match hi with|some v=>nG v|none=>some s.length),(match lo with|some v=>nG v|none=>some 0)with
 |some h,some l=>bif Nat.ble h s.length&&Nat.ble l h then some (.aa ((s.take h).drop l))else none
 |_,_=>none
def GY(ex:Bool)(lo:Option AV)(cap l:Nat):Nat:= @Bool.rec (fun _=>Nat) (match lo with|none=>cap|some _=>0) (cap-l) ex
def CN(id off len cap sz:Nat)(ex:Bool)(lo hi mx:Option AV):Option AV:=
 match mx with
 |none=>
  match(match hi with|some v=>nG v|none=>some len),(match lo with|some v=>nG v|none=>some 0)with
  |some h,some l=>
   bif Nat.ble h (bif ex then cap else len)&&Nat.ble l h then some (.bB id (off+l*sz) (h-l) (GY ex lo cap l) sz ex)else none
  |_,_=>none
 |some m=>
  match nG m,(match hi with|some v=>nG v|none=>none),(match lo with|some v=>nG v|none=>some 0)with
  |some m,some h,some l=>
   bif Nat.ble m (bif ex then cap else len)&&Nat.ble h m&&Nat.ble l h then some (.bB id (off+l*sz) (h-l) (m-l) sz true)else none
  |_,_,_=>none
def Ja(cs:LV)(len sz:Nat)(lo hi mx:Option AV):Option AV:=
 match mx with
 |none=>
  match(match hi with|some v=>nG v|none=>some len),(match lo with|some v=>nG v|none=>some 0)with
  |some h,some l=>bif Nat.ble h len&&Nat.ble l h then some (.aB ((cs.drop (l*sz)).take ((h-l)*sz)) (h-l) sz)else none
  |_,_=>none
 |some _=>none
def qn(ρ:Operand->Option AV):Option Operand->Option (Option AV)
 |none=>some none
 |some x=>(ρ x).map some
def Eo(mx:Bool):AV->LV->Option AV
 |a,[]=>some a
 |.cM k x,.cM _ y::l=>Eo mx (.cM k (bif mx then(if y>x then y else x)else(if y<x then y else x))) l
 |_,_=>none
section am1
variable(P:Program)(ρ:Operand->Option AV)(H:AH)
def A5(g:Nat->AV)(cs:LV)(elem:TypeId):Option (bc×(Nat->AV)):=
 bif cs.all AV.ec then some (.ay cs elem,g)else none
def KG(id:Nat):AV:=.ad id 0
def Bd(len cap sz id:Nat):AV:=.bB id 0 len cap sz true
def M3(c a b:Operand):Option AV:=
 match ρ c with
 |some (.aA t)=>bif t then ρ a else ρ b
 |_=>none
def U9(e:TypeId):Option (bc×(Nat->AV)):=
 match kM P e with
 |some z=>A5 KG z.eB e
 |none=>none
def U_(e:TypeId)(x:Operand):Option (bc×(Nat->AV)):=
 match ρ x with
 |some v=>A5 KG v.eB e
 |none=>none
def Ru(z:AV)(gL:Array Field)(ps:List (Nat×AV)):Option AV:=
 match Wq P gL with
 |some pl=>(wS (pl[·]?) z.eB ps).map .aj
 |none=>none
def Rt(z:AV)(elem:TypeId)(ps:List (Nat×AV)):Option AV:=
 match dH P elem with
 |some s=>(wS (fun i=>some (i*s,s)) z.eB ps).map .aj
 |none=>none
def MY(t:TypeId)(kH:Array (Nat×Operand)):Option AV:=
 match kM P t,P.underlying t,DE ρ kH.toList with
 |some z,some (.struct gL),some ps=>Ru P z gL ps
 |some z,some (.array _ elem),some ps=>Rt P z elem ps
 |_,_,_=>none
def Rv(elem:TypeId)(len:Nat)(ps:List (Nat×AV))(s:Nat)(z:AV):Option (bc×(Nat->AV)):=
 bif Nat.ble (len*s) 65536&&Nat.beq z.eB.length s then
  match wS (fun i=>some (i*s,s)) (jq z.eB len) ps with
  |some cs=>A5 (Bd len len s) cs elem
  |none=>none
 else none
def Va(t:TypeId)(len:Nat)(kH:Array (Nat×Operand)):Option (bc×(Nat->AV)):=
 match P.underlying t,DE ρ kH.toList with
 |some (.slice elem),some ps=>match dH P elem,kM P elem with
  |some s,some z=>Rv elem len ps s z
  |_,_=>none
 |_,_=>none
def Iw(t:TypeId)(a:Operand):Option AV:=
 match ρ a with
 |some (.ad id off)=>se P H t id off
 |some (.qw cs)=>bA P t cs 0
 |_=>none
def Vk(x:Operand):Option AV:=
 match ρ x with
 |some (.ad id off)=>some (.ad id off)
 |some (.qw cs)=>some (.qw cs)
 |some (.b9 (.func f) l c)=>some (.b9 (.func f) l c)
 |some (.e_ t v)=>some (.e_ t v)
 |_=>none
def MX(op:BinOp)(t:TypeId)(x y:Operand):Option AV:=
 match ρ x,ρ y with
 |some a,some b=>KK P op t x y a b
 |_,_=>none
def Vm(op:UnOp)(x:Operand):Option AV:=
 match ρ x with
 |some a=>(OU a).bind fun v=>(yT P (Op.unary op v)).bind NB
 |none=>none
def Vc(oN dst:TypeId)(x:Operand):Option AV:=
 match P.underlying oN,P.underlying dst,ρ x with
 |some (.int _),some (.int k),some (.cM _ n)=>some (.cM k (k.wrap n))
 |some .string,some .string,some (.aa s)=>some (.aa s)
 |_,_,_=>none
def Vi(t:TypeId)(x:Operand):Option AV:=
 match P.underlying t,ρ x with
 |some (.interface _),_=>none
 |some _,some v=>some (.e_ t v)
 |_,_=>none
def Vh(fn:Fn)(first kv:Array Operand):Option AV:=
 match tR ρ first.toList,tR ρ kv.toList with
 |some f,some c=>bif uo fn then none else some (.b9 fn f c)
 |_,_=>none
def Vj(t:TypeId)(r:Option Operand):Option (bc×(Nat->AV)):=
 match P.underlying t,qn ρ r with
 |some (.map k e),some none|some (.map k e),some (some (.cM _ _))=>some (.bM [] 0 (aeR P k&&aeR P e),.aS)
 |_,_=>none
def CK(z:LV)(c:Nat)(elem:TypeId):bc:=bif Nat.ble c 64 then .ay (jq z c) elem else .v8 z c elem
def W4(z:LV)(c:Nat)(elem:TypeId):bc:=.c9 (jq z c) elem
def Ng(elem:TypeId)(l c:Nat)(s:Nat)(z:AV)(h_:Nat):Option (bc×(Nat->AV)):=
 bif Nat.ble l c&&Nat.ble c 65536&&Nat.ble h_ 65536&&Nat.ble s 65536&&Nat.beq z.eB.length s&&z.eB.all AV.ec&&z.eB.all je then
  some (W4 z.eB c elem,Bd l c s)
 else none
def VE(elem:TypeId)(l c:Nat)(s:Nat)(z:AV)(h_:Nat):Option (bc×(Nat->AV)):=
 bif Nat.ble l c&&Nat.ble c 65536&&Nat.ble h_ 65536&&Nat.ble s 65536&&Nat.beq z.eB.length s&&z.eB.all AV.ec then
  some (CK z.eB c elem,Bd l c s)
 else none
def M0(t:TypeId)(len cap:Operand):Option (bc×(Nat->AV)):=
 match P.underlying t,ρ len,ρ cap with
 |some (.slice elem),some (.cM .i64 (.ofNat l)),some (.cM .i64 (.ofNat c))=>match dH P elem,kM P elem,u9 P elem with
  |some s,some z,some h_=>bif sc cap then VE elem l c s z h_ else Ng elem l c s z h_
  |_,_,_=>none
 |_,_,_=>none
def JO:Option AV->Bool
 |none=>true
 |some v=>(nG v).any (Nat.beq 0)
def yJ(t:TypeId)(x:Operand)(lo hi mx:Option Operand):Option AV:=
 match qn ρ lo,qn ρ hi,qn ρ mx with
 |some l,some h,some m=>match P.underlying t,ρ x with
  |some .string,some (.aa s)=>bif m.isNone then Og s l h else none
  |some (.slice elem),some (.bB id off len cap sz ex)=>bif (dH P elem).any (Nat.beq sz)then CN id off len cap sz ex l h m else none
  |some (.slice elem),some (.aB cs len sz)=>bif (dH P elem).any (Nat.beq sz)then Ja cs len sz l h m else none
  |some (.slice elem),some (.ae id len sz)=>bif (dH P elem).any (Nat.beq sz)&&Nat.ble 1 len&&m.isNone then CN id 0 len 1 sz false l h none else none
  |some (.slice elem),some .bg=>bif JO l&&JO h&&JO m&&(m.isNone||h.isSome)&&(dH P elem).isSome then some .bg else none
  |some (.array n elem),some (.ad id off)=>match dH P elem,H.oo id with
   |some sz,some vs=>bif Nat.ble (off+n*sz) vs.length then CN id off n n sz true l h m else none
   |_,_=>none
  |_,_=>none
 |_,_,_=>none
def abg(id off:Nat)(gL:Array Field)(f:Nat):Option AV:=
 match gL[f]? with
 |some fd=>match dH P fd.type with
  |some (_+1)=>some (.ad id (off+fd.offset))
  |_=>none
 |none=>none
def abh(cs:LV)(gL:Array Field)(f:Nat):Option AV:=
 match gL[f]? with
 |some fd=>match dH P fd.type with
  |some (_+1)=>bif Nat.ble fd.offset cs.length then some (.qw (cs.drop fd.offset))else none
  |_=>none
 |none=>none
def Vf(s:TypeId)(x:Operand)(f:Nat):Option AV:=
 match P.underlying s,ρ x with
 |some (.struct gL),some (.ad id off)=>abg P id off gL f
 |some (.struct gL),some (.qw cs)=>abh P cs gL f
 |_,_=>none
def abf(cs:LV)(gL:Array Field)(f:Nat):Option AV:=
 match gL[f]? with
 |some fd=>bA P fd.type cs fd.offset
 |none=>none
def Ve(t:TypeId)(x:Operand)(f:Nat):Option AV:=
 match P.underlying t,ρ x with
 |some (.struct gL),some (.aj cs)=>abf P cs gL f
 |_,_=>none
def zx(id off n:Nat)(elem:TypeId)(i:Nat):Option AV:=
 match dH P elem with
 |some s=>bif Nat.ble (i+1) n then some (.ad id (off+i*s))else none
 |none=>none
def K5(cs:LV)(len sz:Nat)(elem:TypeId)(i:Nat):Option AV:=
 match dH P elem with
 |some s=>bif Nat.beq s sz&&Nat.ble (i+1) len then some (.qw ((cs.drop (i*s)).take s))else none
 |none=>none
def Iv(t:TypeId)(x i:Operand):Option AV:=
 match P.underlying t,ρ x,ρ i with
 |some (.array n elem),some (.ad id off),some (.cM _ (.ofNat i))=>zx P id off n elem i
 |some (.slice elem),some (.bB id off len _ _ _),some (.cM _ (.ofNat i))=>zx P id off len elem i
 |some (.slice elem),some (.aB cs len sz),some (.cM _ (.ofNat i))=>K5 P cs len sz elem i
 |some (.slice elem),some (.ae id len sz),some (.cM _ (.ofNat i))=>bif (dH P elem).any (Nat.beq sz)then zx P id 0 len elem i else none
 |_,_,_=>none
def Sb(cs:LV)(n:Nat)(elem:TypeId)(i:Nat):Option AV:=
 match dH P elem with
 |some s=>bif Nat.ble (i+1) n then bA P elem cs (i*s)else none
 |none=>none
def Rz(s:LN)(i:Nat):Option AV:=
 match s[i]? with
 |some b=>some (.cM .u8 (.ofNat b))
 |none=>none
def Iu(t:TypeId)(x i:Operand):Option AV:=
 match P.underlying t,ρ x,ρ i with
 |some (.array n elem),some (.aj cs),some (.cM _ (.ofNat i))=>Sb P cs n elem i
 |some .string,some (.aa s),some (.cM _ (.ofNat i))=>Rz s i
 |_,_,_=>none
def wQ(m:AV):Option (List (AV×AV×Nat)):=
 match m with
 |.nF=>some []
 |.aS id=>match H.bD id with
  |some (.bM es _ _)=>some es
  |_=>none
 |_=>none
def qm(ok:Bool)(v:AV)(b:Bool):AV:=bif ok then .aO [v,.aA b]else v
def DJ(m:AV):Option (List (AV×AV)):=
 match m with
 |.aS id=>match H.bD id with
  |some (.Rn es)=>some es
  |_=>none
 |_=>none
def wT(eq:AV->AV->Option Bool)(k:AV):List (AV×AV)->Option (Option AV)
 |[]=>some none
 |(x,v)::es=>match eq k x,wT eq k es with
  |some true,some none=>some (some v)
  |some false,some r=>some r
  |_,_=>none
def adx(kt elem:TypeId)(es:List (AV×AV))(key:AV)(ok:Bool):Option AV:=
 match wT (iQ P 100 kt) key es with
 |some (some v)=>some (qm ok v true)
 |some none=>(kM P elem).map (qm ok · false)
 |none=>none
def Fs(kt elem:TypeId)(m key:AV)(ok:Bool):Option AV:=
 bif ru P kt key then
  match wQ H m with
  |some es=>match mE (iQ P 100 kt) key es 0 with
   |some (some (_,v,_))=>some (qm ok v true)
   |some none=>(kM P elem).map (qm ok · false)
   |none=>none
  |none=>match DJ H m with
   |some es=>adx P kt elem es key ok
   |none=>none
 else none
def Fq(t:TypeId)(x k:Operand)(ok:Bool):Option AV:=
 match P.underlying t,ρ x,ρ k with
 |some (.map kt elem),some m,some key=>Fs P H kt elem m key ok
 |_,_,_=>none
def Rg(nT:TypeId)(ok:Bool)(x:AV):Option AV:=
 match x with
 |.e_ t v=>
  bif Nat.beq t nT then some (qm ok v true)
  else bif ok then(kM P nT).map (qm true · false)else none
 |.my=>bif ok then(kM P nT).map (qm true · false)else none
 |_=>none
def Vl(x:Operand)(nT:TypeId)(ok:Bool):Option AV:=
 match P.underlying nT,ρ x with
 |some (.interface _),_=>none
 |some _,some v=>Rg P nT ok v
 |_,_=>none
def Vd(x:Operand)(i:Nat):Option AV:=
 match ρ x with
 |some (.aO vs)=>vs[i]?
 |_=>none
def yK:TypeDesc->AV->Bool
 |.string,.aa _|.slice _,.bB .. |.slice _,.aB .. |.slice _,.ae .. |.slice _,.bg|.map _ _,.aS _|.map _ _,.nF=>true
 |_,_=>false
def Vg(argTypes:Array TypeId)(x:AV):Option AV:=
 match argTypes[0]?.bind P.underlying with
 |some (.array n _)=>some (rT n)
 |some d=>bif yK d x then(Cj H x).map rT else none
 |none=>none
def ac9(argTypes:Array TypeId)(x:AV):Option AV:=
 match argTypes[0]?.bind P.underlying,x with
 |some (.slice _),.bB _ _ _ c _ true=>some (rT c)
 |some (.slice _),.bg=>some (rT 0)
 |_,_=>none
def MZ(b:Builtin)(args:LV)(argTypes:Array TypeId):Option AV:=
 match b,args with
 |.len,[x]=>Vg P H argTypes x
 |.cap,[x]=>ac9 P argTypes x
 |.max,a::l=>Eo true a l
 |.min,a::l=>Eo false a l
 |_,_=>none
def Vb(b:Builtin)(args:Array Operand)(argTypes:Array TypeId):Option AV:=
 match tR ρ args.toList with
 |some l=>MZ P H b l argTypes
 |none=>none
def gg:Op->Option AV
 |.move x=>ρ x
 |.assign x=>ρ x
 |.pick c a b=>M3 ρ c a b
 |.build t kH=>MY P ρ t kH
 |.load t a=>Iw P ρ H t a
 |.nilCheck x=>Vk ρ x
 |.binOp op t x y _=>MX P ρ op t x y
 |.unOp op _ x=>Vm P ρ op x
 |.convert oN dst x=>Vc P ρ oN dst x
 |.makeInterface t x=>Vi P ρ t x
 |.makeFunc fn first kv=>Vh ρ fn first kv
 |.slice t x lo hi mx=>yJ P ρ H t x lo hi mx
 |.fieldAddr s x f=>Vf P ρ s x f
 |.field t x f=>Ve P ρ t x f
 |.indexAddr t x i=>Iv P ρ t x i
 |.index t x i=>Iu P ρ t x i
 |.lookup t x k ok=>Fq P ρ H t x k ok
 |.typeAssert x _ nT ok=>Vl P ρ x nT ok
 |.extract x i=>Vd ρ x i
 |.call {callee:=.builtin b,args,argTypes}=>Vb P ρ H b args argTypes
 |_=>none
def n8:Op->Option (bc×(Nat->AV))
 |.alloc e=>U9 P e
 |.box e x=>U_ ρ e x
 |.buildSlice t len kH=>Va P ρ t len kH
 |.makeMap t r=>Vj P ρ t r
 |.makeSlice t len cap=>M0 P ρ t len cap
 |_=>none
end am1
def n7:Op->Bool
 |.move _|.assign _|.pick .. |.build .. |.load .. |.nilCheck _|.binOp .. |.unOp .. |.convert ..
 |.makeInterface .. |.makeFunc .. |.slice .. |.fieldAddr .. |.field .. |.indexAddr .. |.index .. |.lookup ..
 |.typeAssert .. |.extract .. =>true
 |.call {callee:=.builtin b,..}=>match b with
  |.len|.cap|.min|.max=>true
  |_=>false
 |_=>false
def qg:Op->Bool
 |.alloc _|.box .. |.buildSlice .. |.makeMap .. |.makeSlice .. =>true
 |_=>false
def o9(o:Op):Bool:=n7 o||qg o
inductive fU where
 |iC (v:AV) (H:AH)
 |qB (f:FuncId) (args:LV)
 |uW (l:Nat) (args:LV)
 |xR (d:iZ)
 |xS (v:AV)
 |xU
def FZ(P:Program)(H:AH)(t:TypeId)(id off:Nat)(v:AV):Option AH:=
 match H.bD id,dH P t with
 |some (.ay vs e),some s=>
  bif Nat.beq v.eB.length s&&v.eB.all AV.ec then
   (sq vs off v.eB).map fun eT=>H.dS id (.ay eT e)
  else none
 |some (.v8 z n e),some s=>
  bif Nat.beq v.eB.length s&&v.eB.all AV.ec then
   (sq (jq z n) off v.eB).map fun eT=>H.dS id (.ay eT e)
  else none
 |some (.c9 vs e),some s=>
  bif Nat.beq v.eB.length s&&v.eB.all AV.ec&&v.eB.all je then
   (sq vs off v.eB).map fun eT=>H.dS id (.c9 eT e)
  else none
 |some (.aL vs e),some s=>
  bif Nat.beq v.eB.length s&&v.eB.all AV.ec&&v.eB.all je then
   (sq vs off v.eB).map fun eT=>H.dS id (.aL eT e)
  else none
 |_,_=>none
def pT(es:List (AV×AV×Nat))(i:Nat)(f:AV×AV×Nat->AV×AV×Nat):List (AV×AV×Nat):=
 match es,i with
 |[],_=>[]
 |e::es,0=>f e::es
 |e::es,i+1=>e::pT es i f
def zA(es:List (AV×AV×Nat))(i:Nat):List (AV×AV×Nat):=
 match es,i with
 |[],_=>[]
 |_::es,0=>es
 |e::es,i+1=>e::zA es i
def Hp:AV->AV->Bool
 |.cM j a,.cM k b=>decide (j=k)&&decide (a=b)
 |.aa a,.aa b=>dF a b
 |.aA a,.aA b=>a==b
 |_,_=>false
def Eg:LV->LV->Bool
 |[],[]=>true
 |a::l,b::m=>Hp a b&&Eg l m
 |_,_=>false
def Lg:AV->AV->Bool
 |.aj a,.aj b=>Eg a b
 |a,b=>Hp a b
def yY(es:List (AV×AV×Nat))(i:Nat)(k:AV):Bool:=
 match es[i]? with
 |some (x,_,_)=>Lg x k
 |none=>false
def wU(p:Bool)(k v:AV):Bool:=bif p then je k&&je v else true
def Fy(P:Program)(H:AH)(t:TypeId)(m k v:AV):Option AH:=
 match P.underlying t,m with
 |some (.map kt _),.aS id=>match H.bD id with
  |some (.bM es db p)=>
   bif ru P kt k&&wU p k v then
    match mE (iQ P 100 kt) k es 0 with
    |some (some (i,_,_))=>bif yY es i k then some (H.dS id (.bM (pT es i fun e=>(k,v,e.2.2)) db p))else none
    |some none=>some (H.dS id (.bM (es++[(k,v,db)]) (db+1) p))
    |none=>none
   else none
  |_=>none
 |_,_=>none
def tX(H:AH)(sz:Nat):AV->Option (Nat×LV)
 |.bg=>some (0,[])
 |.bB id off len _ s _=>bif Nat.beq s sz then
   match H.oo id with
   |some vs=>(ph vs off (len*sz)).map (len,·)
   |none=>none
  else none
 |.aa s=>bif Nat.beq sz 1 then some (s.length,s.map fun b=>.cM .u8 (.ofNat b))else none
 |.aB cs len s=>bif Nat.beq s sz then some (len,cs)else none
 |.ae id len s=>bif Nat.beq s sz then
   match H.bD id with
   |some (.aL vs _)=>bif Nat.beq vs.length (len*sz)then some (len,vs)else none
   |_=>none
  else none
 |_=>none
def JB(P:Program)(H:AH)(argTypes:Array TypeId)(elem:TypeId)(sz:Nat)(x:AV):Option (Nat×LV):=
 match argTypes[1]?.bind P.underlying with
 |some (.int _)=>match x,kM P elem with
  |.cM .i64 (.ofNat n),some z=>bif Nat.ble n 65536&&Nat.beq z.eB.length sz then some (n,jq z.eB n)else none
  |_,_=>none
 |some _=>tX H sz x
 |none=>none
def LA(H:AH)(elem:TypeId)(id off len cap sz n:Nat)(ex:Bool)(l:LV):Option (AV×AH):=
 match H.bD id with
 |some (.ay vs _)=>match ph vs off (len*sz)with
  |some old=>
   bif (old++l).all AV.ec then
    some (.bB H.bW 0 (len+n) 1 sz false,AH.iN (bif ex&&Nat.ble (cap+1) (len+n)then H else H.dS id (.bJ [])) (.ay (old++l) elem))
   else none
  |none=>none
 |some (.c9 vs _)=>match ph vs off (len*sz)with
  |some old=>
   bif l.all AV.ec&&l.all je then
    some (.bB H.bW 0 (len+n) 1 sz false,AH.iN (bif ex&&Nat.ble (cap+1) (len+n)then H else H.dS id (.bJ [])) (.c9 (old++l) elem))
   else none
  |none=>none
 |some (.aL vs _)=>match ph vs off (len*sz)with
  |some old=>
   bif l.all AV.ec&&l.all je then
    some (.bB H.bW 0 (len+n) 1 sz false,AH.iN (bif ex&&Nat.ble (cap+1) (len+n)then H else H.dS id (.bJ [])) (.aL (old++l) elem))
   else none
  |none=>none
 |_=>none
def S2(H:AH)(elem:TypeId)(id len sz n:Nat)(l:LV):Option (AV×AH):=
 match H.bD id with
 |some (.aL vs _)=>bif Nat.beq vs.length (len*sz)&&l.all AV.ec&&l.all je then some (.ae H.bW (len+n) sz,AH.iN (H.dS id (.bJ [])) (.aL (vs++l) elem))else none
 |_=>none
def rM(H:AH)(elem:TypeId)(sz:Nat)(s:AV)(n:Nat)(l:LV):Option (AV×AH):=
 match s with
 |.bg=>match n with
  |0=>some (.bg,H)
  |_+1=>bif Nat.ble n 65536&&l.all AV.ec then some (.bB H.bW 0 n 1 sz false,AH.iN H (.ay l elem))else none
 |.bB id off len cap mr ex=>bif Nat.beq sz mr&&Nat.ble (len+n) 65536 then
   match n with
   |0=>some (.bB id off len cap mr ex,H)
   |_+1=>LA H elem id off len cap sz n ex l
  else none
 |.ae id len mr=>bif Nat.beq sz mr&&Nat.ble (len+n) 65536 then
   match n with
   |0=>some (.ae id len mr,H)
   |_+1=>S2 H elem id len sz n l
  else none
 |_=>none
def DF(P:Program)(H:AH)(argTypes:Array TypeId)(s x:AV):Option (AV×AH):=
 match argTypes[0]?.bind P.underlying with
 |some (.slice elem)=>match dH P elem,u9 P elem with
  |some sz,some h_=>
   bif Nat.ble h_ 65536&&(kM P elem).any (fun z=>Nat.beq z.eB.length sz)then
    match JB P H argTypes elem sz x with
    |some (n,l)=>rM H elem sz s n l
    |none=>none
   else none
  |_,_=>none
 |_=>none
def aav(H:AH)(id off k:Nat)(l:LV):Option (AV×AH):=
 match H.bD id with
 |some (.ay vs e)=>match sq vs off l with
  |some eT=>some (rT k,H.dS id (.ay eT e))
  |none=>none
 |some (.v8 z n e)=>match sq (jq z n) off l with
  |some eT=>some (rT k,H.dS id (.ay eT e))
  |none=>none
 |some (.c9 vs e)=>match sq vs off l with
  |some eT=>bif l.all je then some (rT k,H.dS id (.c9 eT e))else none
  |none=>none
 |_=>none
def KY(P:Program)(H:AH)(argTypes:Array TypeId)(d x:AV):Option (AV×AH):=
 match argTypes[0]?.bind P.underlying with
 |some (.slice elem)=>match dH P elem with
  |some sz=>match d,tX H sz x with
   |.bg,some (_,_)=>some (rT 0,H)
   |.bB id off len _ mr _,some (n,l)=>
    bif Nat.beq sz mr&&(l.take (Nat.min n len*sz)).all AV.ec then aav H id off (Nat.min n len) (l.take (Nat.min n len*sz))else none
   |_,_=>none
  |none=>none
 |_=>none
def wF(P:Program)(f:AV)(args:LV):Option fU:=
 match f with
 |.b9 (.func g) first kv=>match P.funcs[g]? with
  |some fn=>bif fn.body.isSome&& !(fn.name== "runtime.NumGoroutine")then some (.qB g (first++args++kv))else none
  |none=>none
 |.gJ l=>some (.uW l args)
 |_=>none
def aff(P:Program)(H:AH)(t:TypeId)(v:AV)(m:Method):Option (FuncId×AV):=
 match m.func,P.underlying t with
 |some (f,true),some (.pointer _)=>bif m.path.isEmpty then some (f,v)else none
 |some (f,false),some (.pointer el)=>bif m.path.isEmpty then(match v with
   |.ad id off=>match se P H el id off with|some v2=>some (f,v2)|none=>none
   |_=>none)else none
 |some (f,false),some _=>bif m.path.isEmpty then some (f,v)else none
 |_,_=>none
def VJ(P:Program)(H:AH)(t:TypeId)(v:AV)(name:String):Option (FuncId×AV):=
 match P.info? t with
 |some i=>match i.methods.find? (·.name==name)with
  |some m=>aff P H t v m
  |none=>none
 |none=>none
section als
variable(P:Program)(ρ:Operand->Option AV)(H:AH)
def uG(v:AV):Option AH->Option fU
 |some H=>some (.iC v H)
 |none=>none
def EG(t:TypeId)(a x:Operand):Option fU:=
 match ρ a,ρ x with
 |some (.ad id off),some v=>uG .lU (FZ P H t id off v)
 |_,_=>none
def zK(t:TypeId)(m k x:Operand):Option fU:=
 match ρ m,ρ k,ρ x with
 |some m,some k,some v=>uG .lU (Fy P H t m k v)
 |_,_,_=>none
def Lc(kt elem:TypeId)(id:Nat)(key:AV):Option fU:=
 match H.bD id with
 |some (.bM es db p)=>
  bif ru P kt key then
   match mE (iQ P 100 kt) key es 0 with
   |some (some (i,v,b))=>bif yY es i key&&wU p key .pd then some (.iC (.aO [v,rT b]) (H.dS id (.bM (pT es i fun e=>(key,e.2)) db p)))else none
   |some none=>match kM P elem with
    |some z=>bif wU p key z then some (.iC (.aO [z,rT db]) (H.dS id (.bM (es++[(key,z,db)]) (db+1) p)))else none
    |none=>none
   |none=>none
  else none
 |_=>none
def HK(t:TypeId)(m k:Operand):Option fU:=
 match P.underlying t,ρ m,ρ k with
 |some (.map kt elem),some (.aS id),some key=>Lc P H kt elem id key
 |_,_,_=>none
def Ld(id born:Nat)(v:AV):Option fU:=
 match H.bD id with
 |some (.bM es db p)=>match es.findIdx? (fun e=>Nat.beq e.2.2 born)with
  |some i=>bif wU p .pd v then some (.iC .lU (H.dS id (.bM (pT es i fun e=>(e.1,v,e.2.2)) db p)))else none
  |none=>none
 |_=>none
def HJ(m s x:Operand):Option fU:=
 match ρ m,ρ s,ρ x with
 |some (.aS id),some (.cM _ (.ofNat born)),some v=>Ld H id born v
 |_,_,_=>none
def ae4(m:Nat):Option fU:=
 match H.bD m with
 |some (.bM _ db _)=>some (.iC (.ad H.bW 0) (H.iN (.sI (some m) db [] db)))
 |_=>none
def HM(t:TypeId)(x:Operand):Option fU:=
 match P.underlying t,ρ x with
 |some .string,some (.aa s)=>some (.iC (.ad H.bW 0) (H.iN (.rB s 0)))
 |some (.map _ _),some .nF=>some (.iC (.ad H.bW 0) (H.iN (.sI none 0 [] 0)))
 |some (.map _ _),some (.aS m)=>ae4 H m
 |_,_=>none
def FJ(H:AH):Option fU:=some (.iC (.aO [.aA false]) H)
def adW(r:Nat)(s:LN)(pos:Nat):Option fU:=
 match s[pos]? with
 |none=>FJ H
 |some b=>bif Nat.ble (b+1) 128 then some (.iC (.aO [.aA true,rT pos,.cM .i32 (.ofNat b)]) (H.dS r (.rB s (pos+1))))else none
def VO(r m og:Nat)(iL:LN)(last:Nat)(es:List (AV×AV×Nat))(db:Nat):Option fU:=
 bif !iL.isEmpty&& !es.isEmpty&&es.all (fun e=>Nat.ble last e.2.2)then none else
 match es.filter fun e=> !iL.any (Nat.beq e.2.2)with
 |[]=>FJ H
 |[e]=>bif Nat.ble (e.2.2+1) og then
   some (.iC (.aO [.aA true,e.1,e.2.1]) (H.dS r (.sI (some m) og (iL++[e.2.2]) db)))
  else none
 |_=>none
def adV(r:Nat)(tg:Bool):Option fU:=
 match H.bD r,tg with
 |some (.rB s pos),true=>adW H r s pos
 |some (.sI none _ _ _),false=>FJ H
 |some (.sI (some m) og iL last),false=>match H.bD m with
  |some (.bM es db _)=>VO H r m og iL last es db
  |_=>none
 |_,_=>none
def HL(it:Operand)(tg:Bool):Option fU:=
 match ρ it with
 |some (.ad r 0)=>adV H r tg
 |_=>none
def aa3(m y8:Nat)(iL:LN):Option fU:=
 match iL.getLast?,H.bD m with
 |some y6,some (.bM es db _)=>
  bif Nat.beq db y8 then
   match es.find? (fun e=>Nat.beq e.2.2 y6)with
   |some e=>some (.iC (.aO [e.1,e.2.1]) H)
   |none=>none
  else none
 |_,_=>none
def LL(it:Operand):Option fU:=
 match ρ it with
 |some (.ad r 0)=>match H.bD r with
  |some (.sI (some m) _ iL y8)=>aa3 H m y8 iL
  |_=>none
 |_=>none
def Cy:Option (AV×AH)->Option fU
 |some (v,H)=>some (.iC v H)
 |none=>none
def DQ(argTypes:Array TypeId)(id:Nat)(k:AV):Option fU:=
 match argTypes[0]?.bind P.underlying,H.bD id with
 |some (.map kt _),some (.bM es db p)=>
  bif ru P kt k then
   match mE (iQ P 100 kt) k es 0 with
   |some (some (i,_,_))=>some (.iC .lU (H.dS id (.bM (zA es i) db p)))
   |some none=>some (.iC .lU H)
   |none=>none
  else none
 |_,_=>none
def Ez(b:Builtin)(args:LV)(argTypes:Array TypeId):Option fU:=
 match b,args with
 |.append,[s,x]=>Cy (DF P H argTypes s x)
 |.copy,[d,x]=>Cy (KY P H argTypes d x)
 |.recover,[]=>some .xU
 |.delete,[.aS id,k]=>DQ P H argTypes id k
 |_,_=>none
def Tk(f:Operand)(args:Array Operand):Option fU:=
 match ρ f,tR ρ args.toList with
 |some g,some l=>wF P g l
 |_,_=>none
def LM(r:Operand)(name:String)(args:Array Operand):Option fU:=
 match ρ r,tR ρ args.toList with
 |some (.e_ t v),some l=>match VJ P H t v name with
  |some (f,v)=>wF P (.b9 (.func f) [] []) (v::l)
  |none=>none
 |_,_=>none
def LK(c:Call):Option fU:=
 match c.callee with
 |.value f=>Tk P ρ f c.args
 |.builtin b=>match tR ρ c.args.toList with
  |some l=>Ez P H b l c.argTypes
  |none=>none
 |.invoke r name=>LM P ρ H r name c.args
def BH(c:Call):Option fU:=
 match c.callee with
 |.value f=>match ρ f,tR ρ c.args.toList with
  |some (.b9 fn first kv),some l=>bif uo fn then none else some (.xR (.xP fn kv (first++l)))
  |_,_=>none
 |_=>none
def Th(x:Operand):Option fU:=
 match ρ x with
 |some (.e_ t v)=>some (.xS (.e_ t v))
 |_=>none
def oz:Op->Option fU
 |.store t a x=>EG P ρ H t a x
 |.mapUpdate t m k x=>zK P ρ H t m k x
 |.insert t m k x=>zK P ρ H t m k x
 |.mapEntry t m k=>HK P ρ H t m k
 |.entryStore _ m s x=>HJ ρ H m s x
 |.range t x=>HM P ρ H t x
 |.next it tg=>HL ρ H it tg
 |.entry it=>LL ρ H it
 |.call c=>LK P ρ H c
 |.defer c=>BH ρ c
 |.panic x=>Th ρ x
 |_=>none
end als
inductive cg where
 |f_ (c:Code)
 |tK (id:Nat)
 |pz (body:Code)
 |sH (body:Code)
 |A1 (l:Nat)
 |zb (l:Nat)
 |xQ
 |jT (ops:Array Oper) (i:Nat) (rest:List Oper)
abbrev rH:=List (AV×Bool)
inductive iq where
 |fO
 |pA
 |oq (c:rH)
structure cZ where
 fn:Nat
 py:Tr AV
 nt:Nat
 A0:List cg
 JP:List iZ
 lS:iq
 up:Option iq
 px:Option Nat
inductive P_ where
 |gy (v:AV)
 |iT (c:rH)
structure gh where
 e:P_
 up:Option iq
 H:AH
def zC(id:Nat):List cg->Option (List cg)
 |.tK jH::k=>if jH==id then some k else zC id k
 |_::k=>zC id k
 |[]=>none
def Br(l:Nat):List cg->Option (List cg)
 |.sH body::k=>
  match findLabel body l with
  |some rest=>some (.f_ rest::.sH body::k)
  |none=>Br l k
 |_::k=>Br l k
 |[]=>none
def kL(ops:Array Oper)(o:Oper)(get:Tmp->Option AV):Option Bool:=
 match o.guard with
 |none=>some true
 |some (j,pw)=>match(ops[j]?).bind (·.dst)with
  |none=>none
  |some d=>match get d with
   |some (.aA b)=>some (b==pw)
   |some (.aO [])=>some false
   |_=>none
def Aq:List Oper->LN->Option LN
 |[],gK=>some gK
 |o::l,gK=>
  let m:=o.after.toList.foldl (fun s e=>match s with
   |none=>none
   |some s=>bif Region.binds .any e then(match gK[e.on]? with
     |some n=>some (Nat.lor (Nat.lor s (Nat.pow 2 e.on)) n)
     |none=>none)else some s) (some 0)
  match m with
  |none=>none
  |some m=>Aq l (gK++[m])
def oy(m i:Nat):Bool:=Nat.beq (Nat.land (Nat.shiftRight m i) 1) 1
def Bc(ops:Array Oper)(ms:LN):Nat->Nat->LN->Option LN
 |0,_,left=>bif left.isEmpty then some []else none
 |f+1,ua,left=>
  let ready (i:Nat):Bool:=match ms[i]? with|some m=>Nat.beq (Nat.lor m ua) ua|none=>false
  let pick:=match left.find? (fun i=>ready i&&((ops[i]?).any (o9 ·.op)))with
   |some i=>some i
   |none=>left.find? ready
  match pick with
  |none=>bif left.isEmpty then some []else none
  |some i=>(Bc ops ms f (Nat.lor ua (Nat.pow 2 i)) (left.filter fun j=> !Nat.beq i j)).map (i:: ·)
def K4(ops:Array Oper):List Tmp:=ops.toList.filterMap (·.dst)
def vV:LN->Bool
 |[]=>true
 |a::l=> !l.any (Nat.beq a)&&vV l
def uC(ops:Array Oper)(ms:LN)(last:Option Nat):LN->Bool
 |[]=>true
 |i::l=>
  (match last with|none=>true|some e=>(ms[i]?).any (oy · e))&&
  uC ops ms (bif (ops[i]?).any (o9 ·.op)then last else some i) l
def JC(o:Oper):List Tmp:=o.op.operands.toList.filterMap fun|.tmp t=>some t|_=>none
def V7(ops:Array Oper)(ms:LN):Bool:=
 let l:=ops.toList.zipIdx
 vV (K4 ops)&&
 l.all fun(o,i)=>l.all fun(o',j)=>match o'.dst with
  |none=>true
  |some d=>Nat.beq i j|| !((JC o++o.dst.toList).any (Nat.beq d))||(ms[i]?).any (oy · j)||(ms[j]?).any (oy · i)
def IH(ms:LN):List (Oper×Nat)->Bool
 |[]=>true
 |(o,i)::l=>(match o.guard with|none=>true|some (j,_)=>(ms[i]?).any (oy · j))&&IH ms l
structure Qo where
 ms:LN
 A4:LN
def FM(ops:Array Oper):Option Qo:=
 match Aq ops.toList []with
 |none=>none
 |some ms=>match Bc ops ms ops.size 0 (List.range ops.size)with
  |none=>none
  |some l=>bif uC ops ms none l&&V7 ops ms&&IH ms ops.toList.zipIdx then some ⟨ms,l⟩else none
def MP:Op->Bool
 |.move _|.assign _|.pick .. |.build .. |.nilCheck _|.binOp .. |.unOp .. |.convert .. |.makeInterface .. |.makeFunc .. |.fieldAddr .. |.field .. |.indexAddr .. |.index .. |.typeAssert .. |.extract .. =>true
 |_=>false
def KA(ops:Array Oper)(ms:LN)(done:LN)(i:Nat):LN:=
 done.filter fun j=>((ops[j]?).any (fun o=>n7 o.op&& !MP o.op))&& !((ms[i]?).any (oy · j))
def Vs(ops:Array Oper)(ms:LN)(i:Nat)(t:Tmp):Bool:=
 ops.toList.zipIdx.any fun(o,j)=>(match o.dst with|some d=>Nat.beq d t|none=>false)&& !((ms[i]?).any (oy · j))
def vi(ops:Array Oper)(ms:LN)(base cur:Tr AV)(i:Nat):Tmp->Option AV:=fun t=>
 bif Vs ops ms i t then base.cb t else cur.cb t
def DH(get:Tmp->Option AV):Operand->Option AV
 |.tmp t=>get t
 |.const v=>Dn v
 |.global g=>some (.vo g)
 |.func f=>some (.b9 (.func f) [] [])
mutual
def mZ:AV->AV->Bool
 |.aA a,.aA b=>a==b
 |.cM j a,.cM k b=>j==k&&a==b
 |.aa a,.aa b=>dF a b
 |.ad a b,.ad c d=>Nat.beq a c&&Nat.beq b d
 |.pd,.pd=>true
 |.bB a b c d e f,.bB a' b' c' d' e' f'=>Nat.beq a a'&&Nat.beq b b'&&Nat.beq c c'&&Nat.beq d d'&&Nat.beq e e'&&f==f'
 |.bg,.bg=>true
 |.aS a,.aS b=>Nat.beq a b
 |.nF,.nF=>true
 |.b9 f a b,.b9 g c d=>decide (f=g)&&yc a c&&yc b d
 |.gJ a,.gJ b=>Nat.beq a b
 |.qA,.qA=>true
 |.e_ t v,.e_ u w=>Nat.beq t u&&mZ v w
 |.my,.my=>true
 |.aj a,.aj b=>yc a b
 |.aO a,.aO b=>yc a b
 |.vo a,.vo b=>Nat.beq a b
 |_,_=>false
def yc:LV->LV->Bool
 |[],[]=>true
 |a::l,b::m=>mZ a b&&yc l m
 |_,_=>false
end
def I6(v x:AV):Bool:=or (mZ v x) (@decide (v=x) (Classical.propDecidable _))
def CQ(P:Program)(ops:Array Oper)(ms:LN)(base cur:Tr AV)(H:AH):LN->Bool
 |[]=>true
 |j::l=>
  (match ops[j]? with
   |none=>false
   |some o=>match kL ops o cur.cb with
    |none=>false
    |some false=>true
    |some true=>match gg P (DH (vi ops ms base cur j)) H o.op,o.dst with
     |some v,some d=>(cur.cb d).any (I6 v)
     |some _,none=>true
     |none,_=>false)&&
  CQ P ops ms base cur H l
inductive eU where
 |go (fr:cZ) (H:AH)
 |xV (r:gh)
 |ey (XT:String)
def FN(m:iq)(c:rH):iq:=
 match m with
 |.oq old=>.oq (c++old)
 |_=>.oq c
def age(m:iq):iq:=
 match m with
 |.oq ((_,true)::_)=>.pA
 |m=>m
def mT(nt:Nat)(tmps:Tr AV)(dst:Option Tmp)(v:AV):Option (Tr AV):=
 match dst with
 |none=>some tmps
 |some d=>bif Nat.ble (d+1) nt then some (tmps.iY d v)else none
def Ed(P:Program)(f:FuncId)(args:LV)(up:Option iq):Option cZ:=
 match P.funcs[f]? with
 |some fn=>match fn.body with
  |some c=>bif Nat.ble args.length fn.ntmps then
    some {fn:=f,py:=Tr.Aw args 0 .gB,nt:=fn.ntmps,A0:=[.f_ c],JP:=[],lS:=.fO,up,px:=none}
   else none
  |none=>none
 |none=>none
def rz(P:Program)(H:AH)(tmps:Tr AV):List ResultVar->Option LV
 |[]=>some []
 |.tmp t::l=>match tmps.cb t with
  |some v=>(rz P H tmps l).map (v:: ·)
  |none=>none
 |.cell a t::l=>match tmps.cb a with
  |some (.ad id off)=>match se P H t id off with
   |some v=>(rz P H tmps l).map (v:: ·)
   |none=>none
  |_=>none
def y':LV->AV
 |[v]=>v
 |l=>.aO l
def yU(o:bc)(l:Nat)(args:LV):Option cZ:=
 match o with
 |.gG _ _ fn tmps nt params assign body _=>
  bif Nat.beq args.length params.length then
   match(params.zip args).foldl (fun t (p,a)=>t.bind fun t=>mT nt t (some p) a) (some tmps)with
   |some nL=>some {fn,py:=nL,nt,A0:=[.f_ assign,.xQ,.f_ body],JP:=[],lS:=.fO,up:=none,px:=some l}
   |none=>none
  else none
 |_=>none
def Vt(H:AH)(l:Nat)(oE:Option Code):eU:=
 match H.bD l with
 |some (.gG _ _ fn tmps nt ps a b d)=>
  .xV {e:=.gy (.aA oE.isNone),up:=none,H:=H.dS l (.gG (bif oE.isNone then .ready else .done) oE fn tmps nt ps a b d)}
 |_=>.ey "endRound"
def ri:cZ->AH->Option Code->eU
 |⟨fn,tmps,nt,todo,defers,_,up,round⟩,H,oE=>
  match round with
  |none=>match oE with
   |none|some .ret=>.go ⟨fn,tmps,nt,todo,defers,.pA,up,none⟩ H
   |_=>.ey "leave"
  |some l=>Vt H l oE
def Ee:Option fU->Option fU
 |some (.qB f args)=>some (.qB f args)
 |_=>none
structure iO where
 go:cZ->AH->Option gh
 dh:FuncId->LV->AH->Option (AV×AH)
def La(P:Program)(call:iO)(f:FuncId)(args:LV)(up:Option iq)(H:AH):Option gh:=
 match up,call.dh f args H with
 |none,some (v,H')=>some ⟨.gy v,none,H'⟩
 |_,_=>(Ed P f args up).bind (call.go · H)
section anf
variable(P:Program)(call:iO)
def ny(H:AH)(up:Option iq):fU->Option gh
 |.iC v H=>some {e:=.gy v,up,H}
 |.qB f args=>La P call f args up H
 |.uW l args=>match H.bD l with
  |some o=>(yU o l args).bind (call.go · H)
  |none=>none
 |_=>none
def rp(fr:cZ)(o:Oper)(todo:List cg)(v:AV)(H:AH):eU:=
 match fr with
 |⟨fn,tmps,nt,_,defers,mode,up,round⟩=>match mT nt tmps o.dst v with
  |some t=>.go ⟨fn,t,nt,todo,defers,mode,up,round⟩ H
  |none=>.ey "dst"
def ae3:cZ->rH->cZ
 |⟨fn,tmps,nt,todo,defers,mode,up,round⟩,c=>⟨fn,tmps,nt,todo,defers,FN mode c,up,round⟩
def FV(fr:cZ)(o:Oper)(todo:List cg)(r:Option gh):eU:=
 match r with
 |some ⟨.gy v,_,H⟩=>rp fr o todo v H
 |some ⟨.iT c,_,H⟩=>.go (ae3 fr c) H
 |none=>.ey "call"
def aga(fr:cZ)(o:Oper)(todo:List cg)(d:iZ)(H:AH):eU:=
 match fr with
 |⟨fn,tmps,nt,_,defers,mode,up,none⟩=>match mT nt tmps o.dst .lU with
  |some t=>.go ⟨fn,t,nt,todo,d::defers,mode,up,none⟩ H
  |none=>.ey "dst"
 |_=>.ey "defer"
def agb(fr:cZ)(o:Oper)(todo:List cg)(H:AH):eU:=
 match fr with
 |⟨fn,tmps,nt,_,defers,mode,some (.oq ((v,false)::FI)),none⟩=>match mT nt tmps o.dst v with
  |some t=>.go ⟨fn,t,nt,todo,defers,mode,some (.oq ((v,true)::FI)),none⟩ H
  |none=>.ey "dst"
 |⟨fn,tmps,nt,_,defers,mode,up,none⟩=>match mT nt tmps o.dst .my with
  |some t=>.go ⟨fn,t,nt,todo,defers,mode,up,none⟩ H
  |none=>.ey "dst"
 |_=>.ey "recover"
def xE(fr:cZ)(o:Oper)(todo:List cg)(H:AH)(aU:Option fU):eU:=
 match aU with
 |none=>.ey "heavy"
 |some (.xR d)=>aga fr o todo d H
 |some (.xS v)=>.go (ae3 fr [(v,false)]) H
 |some .xU=>agb fr o todo H
 |some aU=>FV fr o todo (ny P call H none aU)
def FU(fr:cZ)(o:Oper)(todo:List cg)(H:AH)(r:Option AV):eU:=
 match r with
 |some v=>rp fr o todo v H
 |none=>.ey "read"
def CL(fr:cZ)(o:Oper)(todo:List cg)(H:AH)(r:Option (bc×(Nat->AV))):eU:=
 match r,H with
 |some (ob,g),⟨h,n⟩=>rp fr o todo (g n) (AH.iN ⟨h,n⟩ ob)
 |none,_=>.ey "make"
def y7(fr:cZ)(H:AH)(ops:Array Oper)(i:Nat)(o:Oper)(rest:List Oper)(k:List cg):eU:=
 match fr with
 |⟨fn,tmps,nt,todo,defers,mode,up,round⟩=>
  match kL ops o tmps.cb with
  |none=>.ey "guard"
  |some b=>
   bif b then
    bif n7 o.op then FU ⟨fn,tmps,nt,todo,defers,mode,up,round⟩ o (.jT ops (Nat.succ i) rest::k) H (gg P (iD tmps) H o.op)
    else bif qg o.op then CL ⟨fn,tmps,nt,todo,defers,mode,up,round⟩ o (.jT ops (Nat.succ i) rest::k) H (n8 P (iD tmps) o.op)
    else xE P call ⟨fn,tmps,nt,todo,defers,mode,up,round⟩ o (.jT ops (Nat.succ i) rest::k) H (oz P (iD tmps) H o.op)
   else rp ⟨fn,tmps,nt,todo,defers,mode,up,round⟩ o (.jT ops (Nat.succ i) rest::k) .lU H
inductive Kj where
 |aw (tmps:Tr AV) (H:AH)
 |iT (c:rH) (H:AH)
 |ey (XT:String)
inductive Dx where
 |go (tmps:Tr AV) (H:AH)
 |iT (c:rH) (H:AH)
 |ey (XT:String)
def rq(nt:Nat)(tmps:Tr AV)(o:Oper)(v:AV)(H:AH):Dx:=
 match mT nt tmps o.dst v with
 |some t=>.go t H
 |none=>.ey "dst"
def IL(nt:Nat)(tmps:Tr AV)(o:Oper)(H:AH)(r:Option AV):Dx:=
 match r with
 |some v=>rq nt tmps o v H
 |none=>.ey "read"
def Az(nt:Nat)(tmps:Tr AV)(o:Oper)(H:AH)(r:Option (bc×(Nat->AV))):Dx:=
 match r,H with
 |some (ob,g),⟨h,n⟩=>rq nt tmps o (g n) (AH.iN ⟨h,n⟩ ob)
 |none,_=>.ey "make"
def NN(ops:Array Oper)(ms:LN)(base:Tr AV)(ag:LN)(nt:Nat)(tmps:Tr AV)(o:Oper)(r:Option gh):Dx:=
 match r with
 |some ⟨.gy v,_,H⟩=>match mT nt tmps o.dst v with
  |some t=>bif CQ P ops ms base t H ag then .go t H else .ey "steady"
  |none=>.ey "dst"
 |some ⟨.iT c,_,H⟩=>.iT c H
 |none=>.ey "call"
def Wk(ops:Array Oper)(ms:LN)(base:Tr AV)(ag:LN)(nt:Nat)(tmps:Tr AV)(o:Oper)(H:AH)(aU:Option fU):Dx:=
 match aU with
 |some aU=>NN P ops ms base ag nt tmps o (ny P call H none aU)
 |none=>.ey "heavy"
def pc(ops:Array Oper)(ms:LN)(base:Tr AV)(done:LN)(i:Nat)(nt:Nat)(tmps:Tr AV)(H:AH)(o:Oper):Dx:=
 match kL ops o tmps.cb with
 |none=>.ey "guard"
 |some b=>
  bif b then
   bif n7 o.op then IL nt tmps o H (gg P (iD tmps) H o.op)
   else bif qg o.op then Az nt tmps o H (n8 P (iD tmps) o.op)
   else Wk P call ops ms base (KA ops ms done i) nt tmps o H (oz P (iD tmps) H o.op)
  else rq nt tmps o .lU H
def sm(ops:Array Oper)(ms:LN)(base:Tr AV)(nt:Nat):LN->LN->Tr AV->AH->Kj
 |[],_,tmps,H=>.aw tmps H
 |i::rest,done,tmps,H=>match ops[i]? with
  |none=>.ey "order"
  |some o=>match pc P call ops ms base done i nt tmps H o with
   |.go t H'=>sm ops ms base nt rest (i::done) t H'
   |.iT c H'=>.iT c H'
   |.ey w=>.ey w
def Li(t:Tr AV):List Tmp->Tr AV
 |[]=>t
 |d::l=>Li (t.ze d) l
def NM(fr:cZ)(ops:Array Oper)(k:List cg)(r:Kj):eU:=
 match fr,r with
 |⟨fn,_,nt,_,defers,mode,up,round⟩,.aw t H=>.go ⟨fn,t,nt,k,defers,mode,up,round⟩ H
 |⟨fn,tmps,nt,_,defers,mode,up,round⟩,.iT c H=>.go ⟨fn,Li tmps (K4 ops),nt,k,defers,FN mode c,up,round⟩ H
 |_,.ey w=>.ey w
def to(fr:cZ)(H:AH)(k:List cg):eU:=
 match fr with
 |⟨fn,tmps,nt,_,defers,mode,up,round⟩=>.go ⟨fn,tmps,nt,k,defers,mode,up,round⟩ H
def Jf(fr:cZ)(H:AH)(Gb DV:Code)(k:List cg)(c:Option AV):eU:=
 match c with
 |some (.aA b)=>to fr H (.f_ (bif b then Gb else DV)::k)
 |_=>.ey "cond"
def Jh(fr:cZ)(H:AH)(j:Code)(k:Option (List cg)):eU:=
 match k with
 |some k=>to fr H k
 |none=>ri fr H (some j)
def FY(fr:cZ)(H:AH)(ops:Array Oper)(pZ:Bool)(k:List cg):eU:=
 bif pZ then match fr,FM ops with
  |⟨fn,tmps,nt,todo,defers,mode,up,round⟩,some pl=>
   NM ⟨fn,tmps,nt,todo,defers,mode,up,round⟩ ops k (sm P call ops pl.ms tmps nt pl.A4 [] tmps H)
  |_,none=>.ey "plan"
 else to fr H (.jT ops 0 ops.toList::k)
def Nc(H:AH)(round:Option Nat):Option (Nat×List iZ×AH):=
 match round with
 |some l=>match H.bD l with
  |some (.gG _ _ _ _ _ _ _ _ d)=>some (d,[],H)
  |_=>none
 |none=>match H with
  |⟨h,n⟩=>some (n,[.nP n],AH.iN ⟨h,n⟩ (.oP (some [])))
def ae5(fr:cZ)(l:Nat)(mark:List iZ)(k:List cg)(r:Option gh):eU:=
 match fr,r with
 |⟨fn,tmps,nt,_,defers,mode,up,round⟩,some ⟨.gy _,_,H⟩=>.go ⟨fn,tmps,nt,.zb l::k,mark++defers,mode,up,round⟩ H
 |⟨fn,tmps,nt,_,defers,mode,up,round⟩,some ⟨.iT c,_,H⟩=>.go ⟨fn,tmps,nt,.A1 l::k,mark++defers,FN mode c,up,round⟩ H
 |_,none=>.ey "rangeFunc call"
def Lb(fr:cZ)(f:Operand)(params:Array Tmp)(assign body:Code)(k:List cg):Option (Nat×List iZ×AH)->eU
 |none=>.ey "rangeFunc"
 |some (d,mark,⟨h,n⟩)=>match fr with
  |⟨fn,tmps,nt,todo,defers,mode,up,round⟩=>
   ae5 ⟨fn,tmps,nt,todo,defers,mode,up,round⟩ n mark k
    ((iD tmps f).bind fun g=>(Ee (wF P g [.gJ n])).bind (ny P call (AH.iN ⟨h,n⟩ (.gG .ready none fn tmps nt params.toList assign body d)) none))
def Ji(fr:cZ)(H:AH)(f:Operand)(params:Array Tmp)(assign body:Code)(k:List cg):eU:=
 match fr with
 |⟨fn,tmps,nt,todo,defers,mode,up,round⟩=>Lb P call ⟨fn,tmps,nt,todo,defers,mode,up,round⟩ f params assign body k (Nc H round)
def Je(fr:cZ)(H:AH)(k:List cg):eU:=
 match fr with
 |⟨fn,tmps,nt,_,defers,mode,up,some l⟩=>match H.bD l with
  |some (.gG .ready p lf lt ln ps a b d)=>.go ⟨fn,tmps,nt,k,defers,mode,up,some l⟩ (H.dS l (.gG .busy p lf lt ln ps a b d))
  |_=>.ey "beginRound"
 |_=>.ey "beginRound"
def NQ(p:Option Code)(k:List cg):List cg:=
 match p with
 |some c=>.f_ c::k
 |none=>k
def Jg(fr:cZ)(H:AH)(l:Nat)(k:List cg):eU:=
 match H.bD l with
 |some (.gG .ready p fn tmps nt ps a b d)=>to fr (H.dS l (.gG .exhausted p fn tmps nt ps a b d)) (NQ p k)
 |some (.gG .done p fn tmps nt ps a b d)=>to fr (H.dS l (.gG .exhausted p fn tmps nt ps a b d)) (NQ p k)
 |_=>.ey "endLoop"
def wc(fr:cZ)(H:AH)(k:List cg):Code->eU
 |.ret=>ri fr H (some .ret)
 |.skip=>to fr H k
 |.label _=>to fr H k
 |.seq a b=>to fr H (.f_ a::.f_ b::k)
 |.cond c Gb DV=>Jf fr H Gb DV k (iD fr.py c)
 |.block id body=>to fr H (.f_ body::.tK id::k)
 |.loop body=>to fr H (.f_ body::.pz body::k)
 |.scope body=>to fr H (.f_ body::.sH body::k)
 |.exit id=>Jh fr H (.exit id) (zC id k)
 |.goto l=>Jh fr H (.goto l) (Br l k)
 |.region _ ops pZ=>FY P call fr H ops pZ k
 |.rangeFunc f params assign body=>Ji P call fr H f params assign body k
 |.refuse _=>.ey "refuse"
def tA(fr:cZ)(H:AH)(k:List cg):cg->eU
 |.f_ c=>wc P call fr H k c
 |.tK _=>to fr H k
 |.sH _=>to fr H k
 |.pz body=>to fr H (.f_ body::.pz body::k)
 |.jT ops i l=>match l with
  |[]=>to fr H k
  |o::rest=>y7 P call fr H ops i o rest k
 |.xQ=>Je fr H k
 |.zb l=>Jg fr H l k
 |.A1 _=>.ey "inRangeFunc"
def sx(fr:cZ)(H:AH):eU:=
 match fr with
 |⟨fn,tmps,nt,[],defers,mode,up,round⟩=>ri ⟨fn,tmps,nt,[],defers,mode,up,round⟩ H none
 |⟨fn,tmps,nt,x::k,defers,mode,up,round⟩=>tA P call ⟨fn,tmps,nt,x::k,defers,mode,up,round⟩ H k x
def We(fr:cZ)(ds:List iZ)(u:iq)(H:AH):eU:=
 match u,fr with
 |.fO,_=>.ey "run"
 |u,⟨fn,tmps,nt,todo,_,_,up,round⟩=>.go ⟨fn,tmps,nt,todo,ds,u,up,round⟩ H
def Wf(fr:cZ)(ds:List iZ)(r:Option gh):eU:=
 match fr,r with
 |fr,some ⟨.gy _,some u,H⟩=>We fr ds (age u) H
 |fr,some ⟨.iT c,some u,H⟩=>We fr ds (FN u c) H
 |_,_=>.ey "deferred call"
def NL(fr:cZ)(H:AH):eU:=
 match fr with
 |⟨fn,tmps,_,_,_,mode,up,_⟩=>match mode with
  |.fO=>.ey "run"
  |.oq c=>bif (P.funcs[fn]?).isSome then .xV ⟨.iT c,up,H⟩else .ey "no function"
  |.pA=>match P.funcs[fn]? with
   |some f=>match rz P H tmps f.results.toList with
    |some l=>.xV ⟨.gy (y' l),up,H⟩
    |none=>.ey "results"
   |none=>.ey "no function"
def AL(fr:cZ)(H:AH):eU:=
 match fr with
 |⟨fn,tmps,nt,todo,defers,mode,up,round⟩=>match defers with
  |.nP r::ds=>match H.bD r with
   |some (.oP (some []))=>.go ⟨fn,tmps,nt,todo,ds,mode,up,round⟩ (H.dS r (.oP none))
   |_=>.ey "collected"
  |.xP f kv args::ds=>Wf ⟨fn,tmps,nt,todo,defers,mode,up,round⟩ ds ((Ee (wF P (.b9 f [] kv) args)).bind (ny P call H (some mode)))
  |[]=>NL P ⟨fn,tmps,nt,todo,defers,mode,up,round⟩ H
def mn(fr:cZ)(H:AH):eU:=
 match fr with
 |⟨fn,tmps,nt,todo,defers,mode,up,round⟩=>match mode with
  |.fO=>sx P call ⟨fn,tmps,nt,todo,defers,.fO,up,round⟩ H
  |m=>AL P call ⟨fn,tmps,nt,todo,defers,m,up,round⟩ H
end anf
abbrev qH:=FuncId->LV->AH->Option (AV×AH)
def ad6:qH:=fun _ _ _=>none
def uY(P:Program)(K:qH):Nat->cZ->AH->Option gh
 |0,_,_=>none
 |n+1,fr,H=>match mn P ⟨uY P K n,K⟩ fr H with
  |.go fr' H'=>uY P K n fr' H'
  |.xV r=>some r
  |.ey _=>none
def eval(P:Program)(K:qH)(n:Nat)(f:FuncId)(args:LV)(H:AH):Option gh:=(Ed P f args none).bind fun fr=>uY P K n fr H
end
namespace Tr
variable{α:Type}
theorem Es(n:Nat):(Tr.gB:Tr α).cb n=none:=rfl
theorem vT(a b:Nat):Nat.beq a b=decide (a=b):=by
 cases h:Nat.beq a b
 ·have:a≠b:=by intro e;subst e;simp at h
  simp[this]
 ·have:a=b:=eI h;simp[this]
theorem GW{β:Type}(p:Prop)[Decidable p](x y:β):(bif decide p then x else y)=if p then x else y:=by by_cases h:p<;>simp[h]
theorem zq{β:Type}(c:Bool)(x y:β): @Bool.rec (fun _=>β) y x c=bif c then x else y:=by cases c<;>rfl
theorem o4(v:Option α)(l r:Tr α)(n:Nat):
 (Tr.gm v l r).cb n=if n=0 then v else if n%2=1 then l.cb (n / 2)else r.cb (n / 2-1):=by
 have h:(Tr.gm v l r).cb n= @Bool.rec (fun _=>Option α) (@Bool.rec (fun _=>Option α) (r.cb (Nat.sub (Nat.div n 2) 1)) (l.cb (Nat.div n 2)) (Nat.beq (Nat.mod n 2) 1)) (v) (Nat.beq n 0):=rfl;rw[h,zq,zq];simp only[vT,GW];rfl
theorem agd(v:Option α)(l r:Tr α)(n:Nat)(a:α):
 (Tr.gm v l r).iY n a=if n=0 then .gm (some a) l r else if n%2=1 then .gm v (l.iY (n / 2) a) r else .gm v l (r.iY (n / 2-1) a):=by
 have h:(Tr.gm v l r).iY n a= @Bool.rec (fun _=>Tr α) (@Bool.rec (fun _=>Tr α) (Tr.gm v l (r.iY (Nat.sub (Nat.div n 2) 1) a)) (Tr.gm v (l.iY (Nat.div n 2) a) r) (Nat.beq (Nat.mod n 2) 1)) (Tr.gm (some a) l r) (Nat.beq n 0):=rfl;rw[h,zq,zq];simp only[vT,GW];rfl
theorem ajS(v:Option α)(l r:Tr α)(n:Nat):
 (Tr.gm v l r).ze n=if n=0 then .gm none l r else if n%2=1 then .gm v (l.ze (n / 2)) r else .gm v l (r.ze (n / 2-1)):=by
 have h:(Tr.gm v l r).ze n= @Bool.rec (fun _=>Tr α) (@Bool.rec (fun _=>Tr α) (Tr.gm v l (r.ze (Nat.sub (Nat.div n 2) 1))) (Tr.gm v (l.ze (Nat.div n 2)) r) (Nat.beq (Nat.mod n 2) 1)) (Tr.gm none l r) (Nat.beq n 0):=rfl;rw[h,zq,zq];simp only[vT,GW];rfl
theorem au1(n:Nat)(a:α):iM 0 n a=.gm (some a) .gB .gB:=rfl
theorem au0(f n:Nat)(a:α):
 iM (f+1) n a=if n=0 then .gm (some a) .gB .gB else if n%2=1 then .gm none (iM f (n / 2) a) .gB else .gm none .gB (iM f (n / 2-1) a):=by
 have h:iM (f+1) n a= @Bool.rec (fun _=>Tr α) (@Bool.rec (fun _=>Tr α) (Tr.gm none .gB (iM f (Nat.sub (Nat.div n 2) 1) a)) (Tr.gm none (iM f (Nat.div n 2) a) .gB) (Nat.beq (Nat.mod n 2) 1)) (Tr.gm (some a) .gB .gB) (Nat.beq n 0):=rfl;rw[h,zq,zq];simp only[vT,GW];rfl
theorem SU:∀(f n m:Nat) (a:α),n<=f->(iM f n a).cb m=if m=n then some a else none
 |0,n,m,a,h=>by
  have:n=0:=by omega
  subst this;rw[au1,o4];simp[Es]
 |f+1,n,m,a,h=>by
  rw[au0];by_cases h0:n=0
  ·subst h0;rw[aN rfl,o4];simp[Es]
  ·rw[az h0];by_cases h1:n%2=1
   ·rw[aN h1,o4,SU f _ _ a (by omega),Es];by_cases m0:m=0
    ·subst m0;rw[aN rfl,az (fun e=>h0 e.symm)]
    ·rw[az m0];by_cases m1:m%2=1
     ·rw[aN m1];by_cases e:m=n
      ·subst e;simp
      ·rw[az e,az (by omega)]
     ·rw[az m1,az (by rintro rfl;exact m1 h1)]
   ·rw[az h1,o4,SU f _ _ a (by omega),Es];by_cases m0:m=0
    ·subst m0;rw[aN rfl,az (fun e=>h0 e.symm)]
    ·rw[az m0];by_cases m1:m%2=1
     ·rw[aN m1,az (by rintro rfl;exact h1 m1)]
     ·rw[az m1];by_cases e:m=n
      ·subst e;simp
      ·rw[az e,az (by omega)]
theorem lB(t:Tr α)(n m:Nat)(a:α):(t.iY n a).cb m=if m=n then some a else t.cb m:=by
 induction t generalizing n m with
 |gB=>show(iM n n a).cb m=_;rw[Es,SU n n m a (eh _)]
 |gm v l r Is It=>
  rw[agd,o4 v l r m];by_cases h0:n=0
  ·subst h0;rw[aN rfl,o4];by_cases m0:m=0
   ·rw[aN m0,aN m0]
   ·rw[az m0,az m0,az m0]
  ·rw[az h0];by_cases h1:n%2=1
   ·rw[aN h1,o4,Is];by_cases m0:m=0
    ·rw[aN m0,aN m0,az (by omega)]
    ·rw[az m0,az m0];by_cases m1:m%2=1
     ·rw[aN m1,aN m1];by_cases e:m=n
      ·rw[aN (by rw[e]),aN e]
      ·rw[az (by omega),az e]
     ·rw[az m1,az m1,az (by rintro rfl;exact m1 h1)]
   ·rw[az h1,o4,It];by_cases m0:m=0
    ·rw[aN m0,aN m0,az (by omega)]
    ·rw[az m0,az m0];by_cases m1:m%2=1
     ·rw[aN m1,aN m1,az (by rintro rfl;exact h1 m1)]
     ·rw[az m1,az m1];by_cases e:m=n
      ·rw[aN (by rw[e]),aN e]
      ·rw[az (by omega),az e]
theorem akD(t:Tr α)(n m:Nat):(t.ze n).cb m=if m=n then none else t.cb m:=by
 induction t generalizing n m with
 |gB=>show(Tr.gB:Tr α).cb m=_;simp[Es]
 |gm v l r Is It=>
  rw[ajS,o4 v l r m];by_cases h0:n=0
  ·subst h0;rw[aN rfl,o4];by_cases m0:m=0
   ·rw[aN m0,aN m0]
   ·rw[az m0,az m0,az m0]
  ·rw[az h0];by_cases h1:n%2=1
   ·rw[aN h1,o4,Is];by_cases m0:m=0
    ·rw[aN m0,aN m0,az (by omega)]
    ·rw[az m0,az m0];by_cases m1:m%2=1
     ·rw[aN m1,aN m1];by_cases e:m=n
      ·rw[aN (by rw[e]),aN e]
      ·rw[az (by omega),az e]
     ·rw[az m1,az m1,az (by rintro rfl;exact m1 h1)]
   ·rw[az h1,o4,It];by_cases m0:m=0
    ·rw[aN m0,aN m0,az (by omega)]
    ·rw[az m0,az m0];by_cases m1:m%2=1
     ·rw[aN m1,aN m1,az (by rintro rfl;exact h1 m1)]
     ·rw[az m1,az m1];by_cases e:m=n
      ·rw[aN (by rw[e]),aN e]
      ·rw[az (by omega),az e]
theorem abK(l:List α):∀(n:Nat) (t:Tr α) (m:Nat),(Aw l n t).cb m=if n<=m∧m<n+l.length then l[m-n]? else t.cb m:=by
 induction l with
 |nil=>intro n t m;have:¬(n<=m∧m<n+0):=by omega
       simp[Aw];omega
 |cons a l ih=>
  intro n t m;rw[Aw,ih,lB];by_cases h:n+1<=m∧m<n+1+l.length
  ·have h2:n<=m∧m<n+(a::l).length:=by simp;omega
   rw[aN h,aN h2];have:m-n=(m-(n+1))+1:=by omega
   rw[this,List.getElem?_cons_succ]
  ·rw[az h];by_cases e:m=n
   ·subst e;simp
   ·have h2:¬(n<=m∧m<n+(a::l).length):=by simp;omega
    rw[az h2,az e]
end Tr
structure PE where
 b:Nat
 o:Nat
 n:Nat
abbrev bu:=Nat->Option PE
def gU:bu:=fun _=>none
class Ro where
 ro:Nat->Option Obj
variable[Ro]
theorem di{α:Type}{c:Bool}{x:Option α}{v:α}(h:(bif c then x else none)=some v):c=true∧x=some v:=by
 cases c
 ·cases h
 ·exact⟨rfl,h⟩
def Opq(u:Value):Prop:=u.cells= #[u]∧u.oneCell'=true
mutual
def VR(φ:bu):AV->Value->Prop
 |.aA b,v=>v=.bool b
 |.cM k n,v=>v=.int k n
 |.aa s,v=>∃b:ByteArray,v=.string b∧gV b=s
 |.ad id off,v=>∃e,φ id=some e∧v=.pointer (some ⟨e.b,e.o+off,none⟩)
 |.pd,v=>v=.pointer none
 |.bB id off len cap sz ex,v=>∃e x c,φ id=some e∧v=.slice (some ⟨e.b,x,none⟩) len c∧(c=0∨x=e.o+off)∧len<=c∧(ex=true->c=cap)∧e.o+off+c*sz<=e.n
 |.bg,v=>v=.slice none 0 0
 |.aS id,v=>∃e,φ id=some e∧v=.map (some e.b)
 |.nF,v=>v=.map none
 |.b9 fn f c,v=>∃f' c':Array Value,v=.func fn f' c'∧uo fn=false∧bm φ f f'.toList∧bm φ c c'.toList
 |.gJ l,v=>∃e,φ l=some e∧v=.func (.yield e.b) #[] #[]
 |.qA,v=>v=.nilFunc
 |.e_ t a,v=>∃v',v=.iface t v'∧VR φ a v'
 |.my,v=>v=.nilIface
 |.aj cs,v=>∃cs':Array Value,v=.agg cs'∧bm φ cs cs'.toList
 |.aO cs,v=>∃cs':Array Value,v=.tuple cs'∧bm φ cs cs'.toList
 |.vo g,v=>v=.pointer (some ⟨g,0,none⟩)
 |.Cx u,v=>v=u∧Opq u
 |.vZ k n ne lo hi,v=>v=.int k n∧(∀c∈ne,n≠c)∧(∀l,lo=some l->l<=n)∧(∀h,hi=some h->n<=h)
 |.uD s ne,v=>(∃b:ByteArray,v=.string b∧gV b=s)∧∀c∈ne,s≠c
 |.aB cs len sz,v=>∃(a:Option Addr) (c:Nat),v=.slice a len c∧cs.length=len*sz∧(len=0∨
   ∃b x,∃(fV:Array Value) (el:TypeId) (fz:Nat×Nat),a=some ⟨b,x,none⟩∧len<=c∧Ro.ro b=some (.cells fV el fz)∧x+cs.length<=fV.size∧bm gU cs ((fV.toList.drop x).take cs.length))
 |.qw cs,v=>∃b x,∃(fV:Array Value) (el:TypeId) (fz:Nat×Nat),v=.pointer (some ⟨b,x,none⟩)∧Ro.ro b=some (.cells fV el fz)∧x+cs.length<=fV.size∧bm gU cs ((fV.toList.drop x).take cs.length)
 |.ae id len sz,v=>(len=0∧v=.slice none 0 0)∨∃e x c,φ id=some e∧v=.slice (some ⟨e.b,x,none⟩) len c∧(c=0∨x=e.o)∧len<=c∧e.o+c*sz<=e.n
def bm(φ:bu):LV->List Value->Prop
 |[],l=>l=[]
 |a::as,l=>∃v vs,l=v::vs∧VR φ a v∧bm φ as vs
end
def fq(φ ψ:bu):Prop:=∀id e,φ id=some e->ψ id=some e
theorem fq.tL(φ:bu):fq φ φ:=fun _ _ h=>h
theorem fq.trans{φ ψ χ:bu}(h:fq φ ψ)(h':fq ψ χ):fq φ χ:=fun id e hh=>h' id e (h id e hh)
mutual
theorem VR.qC{φ ψ:bu}(h:fq φ ψ):∀(a:AV) (v:Value),VR φ a v->VR ψ a v
 |.aA _,_,h1=>by simpa[VR]using h1
 |.cM _ _,_,h1=>by simpa[VR]using h1
 |.aa _,_,h1=>by simpa[VR]using h1
 |.ad _ _,_,h1=>by simp only[VR]at h1⊢;obtain⟨e,h2,h3⟩:=h1;exact⟨e,h _ _ h2,h3⟩
 |.pd,_,h1=>by simpa[VR]using h1
 |.bB ..,_,h1=>by simp only[VR]at h1⊢;obtain⟨e,x,c,h2,h3⟩:=h1;exact⟨e,x,c,h _ _ h2,h3⟩
 |.bg,_,h1=>by simpa[VR]using h1
 |.aS _,_,h1=>by simp only[VR]at h1⊢;obtain⟨e,h2,h3⟩:=h1;exact⟨e,h _ _ h2,h3⟩
 |.nF,_,h1=>by simpa[VR]using h1
 |.b9 _ f c,_,h1=>by simp only[VR]at h1⊢;obtain⟨f',c',e,hy,h2,h3⟩:=h1;exact⟨f',c',e,hy,bm.pW h f _ h2,bm.pW h c _ h3⟩
 |.gJ _,_,h1=>by simp only[VR]at h1⊢;obtain⟨e,h2,h3⟩:=h1;exact⟨e,h _ _ h2,h3⟩
 |.qA,_,h1=>by simpa[VR]using h1
 |.e_ _ a,_,h1=>by simp only[VR]at h1⊢;obtain⟨v',e,h2⟩:=h1;exact⟨v',e,VR.qC h a _ h2⟩
 |.my,_,h1=>by simpa[VR]using h1
 |.aj cs,_,h1=>by simp only[VR]at h1⊢;obtain⟨v',e,h2⟩:=h1;exact⟨v',e,bm.pW h cs _ h2⟩
 |.aO cs,_,h1=>by simp only[VR]at h1⊢;obtain⟨v',e,h2⟩:=h1;exact⟨v',e,bm.pW h cs _ h2⟩
 |.vo _,_,h1=>by simpa[VR]using h1
 |.Cx _,_,h1=>by simpa[VR]using h1
 |.vZ ..,_,h1=>by simp only[VR]at h1⊢;exact h1
 |.uD ..,_,h1=>by simp only[VR]at h1⊢;exact h1
 |.aB cs _ _,_,h1=>by simp only[VR]at h1⊢;obtain⟨a,c,e,hl,h2⟩:=h1;refine⟨a,c,e,hl,?_⟩;exact h2
 |.qw cs,_,h1=>by simp only[VR]at h1⊢;exact h1
 |.ae ..,_,h1=>by
  simp only[VR]at h1⊢;rcases h1 with h1|⟨e,x,c,h2,h3⟩
  ·exact .inl h1
  ·exact .inr ⟨e,x,c,h _ _ h2,h3⟩
theorem bm.pW{φ ψ:bu}(h:fq φ ψ):∀(as:LV) (vs:List Value),bm φ as vs->bm ψ as vs
 |[],_,h1=>by simpa[bm]using h1
 |a::as,_,h1=>by simp only[bm]at h1⊢;obtain⟨v,vs,e,h2,h3⟩:=h1;exact⟨v,vs,e,VR.qC h a v h2,bm.pW h as vs h3⟩
end
theorem fq.gU(φ:bu):fq gU φ:=fun _ _ h=>by cases h
mutual
theorem VR.pure{φ ψ:bu}:∀(a:AV) (v:Value),je a=true->VR φ a v->VR ψ a v
 |.aA _,_,_,h1=>by simpa[VR]using h1
 |.cM _ _,_,_,h1=>by simpa[VR]using h1
 |.aa _,_,_,h1=>by simpa[VR]using h1
 |.ad _ _,_,hp,_=>by cases hp
 |.pd,_,_,h1=>by simpa[VR]using h1
 |.bB ..,_,hp,_=>by cases hp
 |.bg,_,_,h1=>by simpa[VR]using h1
 |.aS _,_,hp,_=>by cases hp
 |.nF,_,_,h1=>by simpa[VR]using h1
 |.b9 _ f c,_,hp,h1=>by simp only[je,cy]at hp;simp only[VR]at h1⊢;obtain⟨f',c',e,hy,h2,h3⟩:=h1;exact⟨f',c',e,hy,bm.sJ f _ hp.1 h2,bm.sJ c _ hp.2 h3⟩
 |.gJ _,_,hp,_=>by cases hp
 |.qA,_,_,h1=>by simpa[VR]using h1
 |.e_ _ a,_,hp,h1=>by simp only[je]at hp;simp only[VR]at h1⊢;obtain⟨v',e,h2⟩:=h1;exact⟨v',e,VR.pure a _ hp h2⟩
 |.my,_,_,h1=>by simpa[VR]using h1
 |.aj cs,_,hp,h1=>by simp only[je]at hp;simp only[VR]at h1⊢;obtain⟨v',e,h2⟩:=h1;exact⟨v',e,bm.sJ cs _ hp h2⟩
 |.aO cs,_,hp,h1=>by simp only[je]at hp;simp only[VR]at h1⊢;obtain⟨v',e,h2⟩:=h1;exact⟨v',e,bm.sJ cs _ hp h2⟩
 |.vo _,_,_,h1=>by simpa[VR]using h1
 |.Cx _,_,_,h1=>by simpa[VR]using h1
 |.vZ ..,_,_,h1=>by simp only[VR]at h1⊢;exact h1
 |.uD ..,_,_,h1=>by simp only[VR]at h1⊢;exact h1
 |.aB ..,_,_,h1=>by simp only[VR]at h1⊢;exact h1
 |.qw _,_,_,h1=>by simp only[VR]at h1⊢;exact h1
 |.ae ..,_,hp,_=>by cases hp
theorem bm.sJ{φ ψ:bu}:∀(as:LV) (vs:List Value),yR as=true->bm φ as vs->bm ψ as vs
 |[],_,_,h1=>by simpa[bm]using h1
 |a::as,_,hp,h1=>by simp only[yR,cy]at hp;simp only[bm]at h1⊢;obtain⟨v,vs,e,h2,h3⟩:=h1;exact⟨v,vs,e,VR.pure a v hp.1 h2,bm.sJ as vs hp.2 h3⟩
end
theorem yS:∀(l:LV),yR l=l.all je
 |[]=>rfl
 |a::l=>by simp[yR,yS l]
section am3
variable{φ:bu}
theorem lX:bm φ [] []:=by simp[bm]
theorem pE{a:AV}{v:Value}{as:LV}{vs:List Value}:bm φ (a::as) (v::vs)↔VR φ a v∧bm φ as vs:=by
 simp only[bm];constructor
 ·rintro⟨v',eT,e,h1,h2⟩;cases e;exact⟨h1,h2⟩
 ·rintro⟨h1,h2⟩;exact⟨v,vs,rfl,h1,h2⟩
theorem bm.ka:∀{as:LV} {vs:List Value},bm φ as vs->as.length=vs.length
 |[],vs,h=>by simp only[bm]at h;subst h;rfl
 |a::as,vs,h=>by simp only[bm]at h;obtain⟨v,eT,rfl,_,h2⟩:=h;simp[bm.ka h2]
theorem bm.get:∀{as:LV} {vs:List Value},bm φ as vs->∀{i:Nat} {a:AV},as[i]? =some a->∃v,vs[i]? =some v∧VR φ a v
 |[],_,_,i,a,hi=>by simp at hi
 |b::as,vs,h,i,a,hi=>by
  simp only[bm]at h;obtain⟨v,eT,rfl,h1,h2⟩:=h;cases i with
  |zero=>simp at hi;subst hi;exact⟨v,by simp,h1⟩
  |succ i=>simp only[List.getElem?_cons_succ]at hi⊢;exact bm.get h2 hi
theorem bm.sK:∀{as:LV} {vs:List Value},bm φ as vs->∀n,bm φ (as.take n) (vs.take n)
 |[],_,h,n=>by simp only[bm]at h;subst h;simp[bm]
 |a::as,vs,h,n=>by
  simp only[bm]at h;obtain⟨v,eT,rfl,h1,h2⟩:=h;cases n with
  |zero=>simp[bm]
  |succ n=>simp only[List.take_succ_cons];exact pE.2 ⟨h1,bm.sK h2 n⟩
theorem bm.uX:∀{as:LV} {vs:List Value},bm φ as vs->∀n,bm φ (as.drop n) (vs.drop n)
 |[],_,h,n=>by simp only[bm]at h;subst h;simp[bm]
 |a::as,vs,h,n=>by
  simp only[bm]at h;obtain⟨v,eT,rfl,h1,h2⟩:=h;cases n with
  |zero=>exact pE.2 ⟨h1,h2⟩
  |succ n=>simp only[List.drop_succ_cons];exact bm.uX h2 n
theorem bm.xW:∀{as bs:LV} {vs ws:List Value},bm φ as vs->bm φ bs ws->bm φ (as++bs) (vs++ws)
 |[],_,vs,_,h,h'=>by simp only[bm]at h;subst h;simpa using h'
 |a::as,_,vs,_,h,h'=>by simp only[bm]at h;obtain⟨v,eT,rfl,h1,h2⟩:=h;simp only[mQ];exact pE.2 ⟨h1,bm.xW h2 h'⟩
theorem nS{a:AV}{v:Value}(h:VR φ a v):bm φ [a] [v]:=pE.2 ⟨h,lX⟩
theorem QZ{as:LV}{vs:List Value}(hl:as.length=vs.length)(h:∀(i:Nat) (a:AV) (v:Value),as[i]? =some a->vs[i]? =some v->VR φ a v):bm φ as vs:=by
 induction as generalizing vs with
 |nil=>cases vs with
  |nil=>exact lX
  |cons=>simp at hl
 |cons a as ih=>cases vs with
  |nil=>simp at hl
  |cons v vs=>exact pE.2 ⟨h 0 a v rfl rfl,ih (by simpa using hl) (fun i a v h1 h2=>h (i+1) a v (by simpa using h1) (by simpa using h2))⟩
end am3
theorem AV.sP{φ:bu}{a:AV}{v:Value}(h:VR φ a v):bm φ a.eB v.cells.toList:=by
 cases a<;>simp only[AV.eB];case aj cs=>simp only[VR]at h;obtain⟨cs',rfl,h⟩:=h;exact h
 case Cx u=>have h':=h;simp only[VR]at h;obtain⟨rfl,h1,_⟩:=h;rw[h1];exact nS h'
 case vZ k n ne lo hi=>have h':=h;simp only[VR]at h;obtain⟨rfl,_⟩:=h;exact nS h'
 case uD s ne=>have h':=h;simp only[VR]at h;obtain⟨⟨b,rfl,_⟩,_⟩:=h;exact nS h'
 case aB=>have h':=h;simp only[VR]at h;obtain⟨a,c,rfl,_⟩:=h;exact nS h'
 case qw=>have h':=h;simp only[VR]at h;obtain⟨b,x,fV,el,fz,rfl,_⟩:=h;exact nS h'
 case ae=>have h':=h;simp only[VR]at h;rcases h with⟨_,rfl⟩|⟨e,x,c,_,rfl,_⟩<;>exact nS h'
 all_goals
  have h':=h;simp only[VR]at h;first
   |(subst h;exact nS h')
   |(obtain⟨_,_,rfl⟩:=h;exact nS h')
   |(obtain⟨_,rfl,_⟩:=h;exact nS h')
   |(obtain⟨_,_,_,rfl,_⟩:=h;exact nS h')
   |(obtain⟨_,_,_,_,rfl,_⟩:=h;exact nS h')
   |(obtain⟨_,_,rfl,_⟩:=h;exact nS h')
theorem AV.an1{φ:bu}{a:AV}{v:Value}(h:VR φ a v):v.oneCell'=a.ec:=by
 cases a<;>simp only[VR]at h;case Cx u=>obtain⟨rfl,_,h2⟩:=h;exact h2
 case vZ k n ne lo hi=>obtain⟨rfl,_⟩:=h;rfl
 case uD s ne=>obtain⟨⟨b,rfl,_⟩,_⟩:=h;rfl
 case aB=>obtain⟨a,c,rfl,_⟩:=h;rfl
 case qw=>obtain⟨b,x,fV,el,fz,rfl,_⟩:=h;rfl
 case ae=>rcases h with⟨_,rfl⟩|⟨e,x,c,_,rfl,_⟩<;>rfl
 all_goals first
  |(subst h;rfl)
  |(obtain⟨_,_,rfl⟩:=h;rfl)
  |(obtain⟨_,rfl,_⟩:=h;rfl)
  |(obtain⟨_,_,_,rfl,_⟩:=h;rfl)
  |(obtain⟨_,_,rfl,_⟩:=h;rfl)
  |(obtain⟨_,_,_,_,rfl,_⟩:=h;rfl)
theorem AV.aes{φ:bu}{as:LV}{vs:List Value}(h:bm φ as vs)(h1:as.all AV.ec=true):∀v∈vs,v.oneCell'=true:=by
 induction as generalizing vs with
 |nil=>simp only[bm]at h;subst h;simp
 |cons a as ih=>
  simp only[bm]at h;obtain⟨v,eT,rfl,h2,h3⟩:=h;simp only[List.all_cons,cy]at h1;intro x hx;rcases List.mem_cons.1 hx with rfl|hx
  ·rw[AV.an1 h2];exact h1.1
  ·exact ih h3 h1.2 x hx
theorem aat{φ:bu}{v:Value}{a:AV}(h:KX v=some a):VR φ a v:=by
 unfold KX at h;split at h<;>first
  |(cases h;done)
  |(injection h with h;subst h;simp[VR];done)
  |skip
 rename_i fn f c;cases hy:uo fn<;>cases hf:f.isEmpty<;>cases hc:c.isEmpty<;>simp[hy,hf,hc]at h;subst h;have h1:f= #[]:=Array.isEmpty_iff.1 hf;have h2:c= #[]:=Array.isEmpty_iff.1 hc;subst h1 h2;exact⟨#[],#[],rfl,hy,lX,lX⟩
theorem aau{φ:bu}:∀{vs:List Value} {as:LV},DM vs=some as->bm φ as vs
 |[],as,h=>by simp[DM]at h;subst h;exact lX
 |v::vs,as,h=>by
  simp only[DM]at h;split at h
  ·cases h
  ·rename_i a ha;split at h
   ·cases h
   ·rename_i pG BN;cases h;exact pE.2 ⟨aat ha,aau BN⟩
theorem RK{φ:bu}{v:Value}{a:AV}(h:Dn v=some a):VR φ a v:=by
 unfold Dn at h;split at h
 ·rename_i cs;cases hc:DM cs.toList with
  |none=>simp[hc]at h
  |some as=>simp[hc]at h;subst h;exact⟨cs,rfl,aau hc⟩
 ·rename_i cs;cases hc:cs.isEmpty<;>simp[hc]at h;subst h;have:cs= #[]:=Array.isEmpty_iff.1 hc;subst this;exact⟨#[],rfl,lX⟩
 ·exact aat h
theorem xN{φ:bu}{P:Program}{t:TypeId}{z:AV}(h:kM P t=some z):∃v,VR φ z v∧∀w,(zeroValue t).run P w=.ok v w:=by
 unfold kM at h;cases hi:P.info? t with
 |none=>simp[hi]at h
 |some i=>
  simp only[hi,Option.bind_some]at h;cases hz:i.zero with
  |none=>simp[hz]at h
  |some v=>simp only[hz,Option.bind_some]at h;exact⟨v,RK h,fun w=>by simp[zeroValue,run_typeInfo w hi,hz]⟩
theorem jy{P:Program}{t:TypeId}{n:Nat}(h:dH P t=some n)(w:World):(sizeOf t).run P w=.ok n w:=by
 unfold dH at h;cases hi:P.info? t with
 |none=>simp[hi]at h
 |some i=>simp[hi]at h;simp[sizeOf,run_typeInfo w hi,h]
theorem RA{P:Program}{t:TypeId}{n:Nat}(h:u9 P t=some n)(w:World):∃i,(typeInfo t).run P w=.ok i w∧i.bytes=n:=by
 unfold u9 at h;cases hi:P.info? t with
 |none=>simp[hi]at h
 |some i=>simp[hi]at h;exact⟨i,run_typeInfo w hi,h⟩
theorem Ce{P:Program}{t:TypeId}{b:Bool}(h:Aa P t=some b)(w:World):(isAgg t).run P w=.ok b w:=by
 unfold Aa at h;cases hu:P.underlying t with
 |none=>simp[hu]at h
 |some d=>cases d<;>simp[hu]at h<;>subst h<;>simp[isAgg,run_underlying hu w]
theorem Wx{α:Type}{P:Program}:∀{s:Sem α} {a:α},yT P s=some a->∀w,s.run P w=.ok a w
 |.pure a,b,h,w=>by simp[yT]at h;subst h;rfl
 |.program k,b,h,w=>by simp only[yT]at h;simp only[Sem.run];exact Wx h w
 |.load ..,_,h,_|.store ..,_,h,_|.new ..,_,h,_|.shape ..,_,h,_|.freeze ..,_,h,_|.frozen ..,_,h,_|.getObj ..,_,h,_
 |.setObj ..,_,h,_|.choose ..,_,h,_|.sys ..,_,h,_|.mark ..,_,h,_|.halt ..,_,h,_=>by simp[yT]at h
end Go.Ev
namespace Go.Ev
variable[Ro]
def dx(φ:bu):List (AV×AV×Nat)->List MapEntry->Prop
 |[],l=>l=[]
 |(k,v,b)::es,l=>∃m ms,l=m::ms∧VR φ k m.key∧VR φ v m.val∧m.born=b∧dx φ es ms
def DR(φ:bu):iZ->Deferred->Prop
 |.xP fn cap args,d=>∃tU args':Array Value,d={target:=.fn fn tU,args:=args'}∧uo fn=false∧bm φ cap tU.toList∧bm φ args args'.toList
 |.nP r,d=>∃e,φ r=some e∧d={target:=.collected e.b,args:= #[]}
def nw(φ:bu):List iZ->List Deferred->Prop
 |[],l=>l=[]
 |a::as,l=>∃d ds,l=d::ds∧DR φ a d∧nw φ as ds
def TR(φ:bu)(t:Tr AV)(nt:Nat)(tmps:Array Value):Prop:=
 tmps.size=nt∧∀i a,t.cb i=some a->∃v,tmps[i]? =some v∧VR φ a v
def OR(φ:bu):bc->PE->Obj->Prop
 |.ay vs _,e,o=>∃cs el,o=.cells cs el (0,0)∧cs.size=e.n∧e.o+vs.length<=e.n∧bm φ vs ((cs.toList.drop e.o).take vs.length)∧vs.all AV.ec=true
 |.bM es db p,_,o=>∃bQ:Array MapEntry,o=.map bQ db∧dx φ es bQ.toList∧(p=true->dx gU es bQ.toList)
 |.rB s pos,e,o=>∃b,o=.stringIter b pos∧gV b=s∧e.o=0
 |.sI m og iL y8,e,o=>∃m',o=.mapIter m' og iL.toArray y8∧e.o=0∧(match m with|none=>m'=none|some id=>∃e,φ id=some e∧m'=some e.b)
 |.gG st p fn tmps nt ps a b d,_,o=>∃nL ed,o=.loop {state:=st,pending:=p,fn,tmps:=nL,params:=ps.toArray,assign:=a,body:=b,defers:=ed.b}∧φ d=some ed∧TR φ tmps nt nL
 |.oP ds,_,o=>(match ds with|none=>o=.deferred none|some l=>∃l',o=.deferred (some l')∧nw φ l l')
 |.bJ _,_,_=>True
 |.v8 z n _,e,o=>∃cs el,o=.cells cs el (0,0)∧cs.size=e.n∧e.o+(jq z n).length<=e.n∧bm φ (jq z n) ((cs.toList.drop e.o).take (jq z n).length)∧(jq z n).all AV.ec=true
 |.c9 vs _,e,o=>∃cs el,o=.cells cs el (0,0)∧cs.size=e.n∧e.o+vs.length<=e.n∧bm gU vs ((cs.toList.drop e.o).take vs.length)∧vs.all AV.ec=true
 |.aL vs _,e,o=>∃cs el,o=.cells cs el (0,0)∧cs.size=e.n∧e.o+vs.length<=e.n∧bm gU vs ((cs.toList.drop e.o).take vs.length)∧vs.all AV.ec=true
 |.Rn es,_,o=>∃(l:List (AV×AV×Nat)) (bQ:Array MapEntry) (db:Nat),o=.map bQ db∧(l.map fun x=>(x.1,x.2.1)).Perm es∧dx φ l bQ.toList
def bc.aE:bc->Bool
 |.bJ _=>false
 |_=>true
abbrev ez:=Nat->Prop
def gQ(base:ez)(w:World):Prop:=∀b,base b->b<w.heap.size
def FH(w:World):ez:=fun b=>b<w.heap.size
theorem gQ.old(w:World):gQ (FH w) w:=fun _ h=>h
theorem gQ.Dl{base:ez}{w w':World}(h:gQ base w)(de:w.heap.size<=w'.heap.size):gQ base w':=fun b hb=>Nat.lt_of_lt_of_le (h b hb) de
structure WR(φ:bu)(base:ez)(H:AH)(w:World):Prop where
 fP:∀id ob e,H.bD id=some ob->φ id=some e->∃o,w.heap[e.b]? =some o∧OR φ ob e o
 lW:∀id jH ob cp e e',H.bD id=some ob->ob.aE=true->φ id=some e->H.bD jH=some cp->cp.aE=true->φ jH=some e'->e.b=e'.b->id=jH
 lt:∀id e,φ id=some e->e.b<w.heap.size∧¬base e.b∧id<H.bW
 nx:∀id ob,H.bD id=some ob->id<H.bW
 ro:∀b o,Ro.ro b=some o->base b∧w.heap[b]? =some o
def mX(φ:bu)(ρ:Operand->Option AV)(ev:Operand->Value)(l:List Operand):Prop:=∀x∈l,∀a,ρ x=some a->VR φ a (ev x)
theorem mX.of{φ:bu}{ρ:Operand->Option AV}{ev:Operand->Value}{l:List Operand}(h:mX φ ρ ev l){x:Operand}(hx:x∈l){a:AV}(ha:ρ x=some a):VR φ a (ev x):=h x hx a ha
theorem mX.ot{φ:bu}{ρ:Operand->Option AV}{ev:Operand->Value}{l l':List Operand}(h:mX φ ρ ev l)(hs:∀x∈l',x∈l):mX φ ρ ev l':=fun x hx=>h x (hs x hx)
theorem zo{φ:bu}{ρ:Operand->Option AV}{ev:Operand->Value}:∀{l:List Operand} {as:LV},mX φ ρ ev l->tR ρ l=some as->bm φ as (l.map ev)
 |[],as,_,h=>by simp[tR]at h;subst h;exact lX
 |x::l,as,hr,h=>by
  simp only[tR]at h;split at h
  ·cases h
  ·rename_i a ha;split at h
   ·cases h
   ·rename_i pG BN;cases h;exact pE.2 ⟨hr x (by simp) a ha,zo (hr.ot (fun y hy=>by simp[hy])) BN⟩
theorem aoc{φ:bu}{ρ:Operand->Option AV}{ev:Operand->Value}{x:Option Operand}{r:Option AV}(hr:mX φ ρ ev x.toList)(h:qn ρ x=some r):
 (r=none∧x.map ev=none)∨(∃a v,r=some a∧x.map ev=some v∧VR φ a v):=by
 cases x with
 |none=>simp[qn]at h;subst h;exact .inl ⟨rfl,rfl⟩
 |some x=>
  simp only[qn]at h;cases hx:ρ x with
  |none=>simp[hx]at h
  |some a=>simp[hx]at h;subst h;exact .inr ⟨a,ev x,rfl,rfl,hr x (by simp) a hx⟩
section FP
variable{P:Program}{φ:bu}{base:ez}{H:AH}{w:World}
theorem WR.Dm(hw:WR φ base H w){id:Nat}{vs:LV}{e:PE}(h:H.oo id=some vs)(he:φ id=some e):
 ∃cs el,w.heap[e.b]? =some (.cells cs el (0,0))∧cs.size=e.n∧e.o+vs.length<=e.n∧bm φ vs ((cs.toList.drop e.o).take vs.length)∧vs.all AV.ec=true:=by
 unfold AH.oo at h;split at h
 ·rename_i ho;cases h;obtain⟨o,h1,h2⟩:=hw.fP id _ e ho he;obtain⟨cs,el,rfl,h3⟩:=h2;exact⟨cs,el,h1,h3⟩
 ·rename_i ho;cases h;obtain⟨o,h1,h2⟩:=hw.fP id _ e ho he;obtain⟨cs,el,rfl,h3⟩:=h2;exact⟨cs,el,h1,h3⟩
 ·rename_i ho;cases h;obtain⟨o,h1,h2⟩:=hw.fP id _ e ho he;obtain⟨cs,el,rfl,h3,h4,h5,h6⟩:=h2;exact⟨cs,el,h1,h3,h4,bm.pW (fq.gU φ) _ _ h5,h6⟩
 ·rename_i ho;cases h;obtain⟨o,h1,h2⟩:=hw.fP id _ e ho he;obtain⟨cs,el,rfl,h3,h4,h5,h6⟩:=h2;exact⟨cs,el,h1,h3,h4,bm.pW (fq.gU φ) _ _ h5,h6⟩
 ·cases h
theorem yZ{l r:LV}{off n:Nat}(h:ph l off n=some r):r=(l.drop off).take n∧r.length=n:=by
 unfold ph at h;simp only at h;cases hb:Nat.beq ((l.drop off).take n).length n
 ·rw[hb]at h;cases h
 ·rw[hb]at h;cases h;exact⟨rfl,eI hb⟩
theorem VF{r:Option LV}{v:AV}(h:r.map AV.aj=some v):∃l,r=some l∧v=.aj l:=by
 cases r with
 |none=>cases h
 |some l=>cases h;exact⟨l,rfl,rfl⟩
theorem NO{t:TypeId}{cs:LV}{cs':Array Value}{off:Nat}{v:AV}(hc:bm φ cs cs'.toList)(h:bA P t cs off=some v)(w:World):
 ∃v',(part t cs' off).run P w=.ok v' w∧VR φ v v':=by
 unfold bA at h;split at h
 ·rename_i ha;split at h
  ·rename_i s hs;obtain⟨l,hl,rfl⟩:=VF h;obtain⟨rfl,bH⟩:=yZ hl;refine⟨.agg (cs'.extract off (off+s)),?_,?_⟩
   ·simp[part,Ce ha w,jy hs w]
   ·refine⟨_,rfl,?_⟩;have:=(hc.uX off).sK s;have e:(cs'.extract off (off+s)).toList=(cs'.toList.drop off).take s:=by simp
    rw[e];exact this
  ·cases h
 ·rename_i ha;obtain⟨v',h1,h2⟩:=hc.get h;refine⟨v',?_,h2⟩;have h3:cs'[off]? =some v':=by simpa using h1
  simp[part,Ce ha w,h3]
 ·cases h
theorem yX{b o n:Nat}{cs:Array Value}{el:TypeId}{fz:Nat×Nat}(hg:w.heap[b]? =some (.cells cs el fz))(h:o+n<=cs.size):
 (loadCells ⟨b,o,none⟩ n).run P w=.ok ((cs.toList.drop o).take n).toArray w:=by
 have hl:((cs.toList.drop o).take n).length=n:=by simp;omega
 have:=run_loadCells_list (P:=P) w ⟨b,o,none⟩ ((cs.toList.drop o).take n) (fun j v hv=>by
  have alb:(⟨b,o,none⟩:Addr).add j=⟨b,o+j,none⟩:=by unfold Addr.add;split<;>simp_all
  rw[alb,cell_of_row w b (o+j) cs el fz hg];have hj:j<n:=by
   rcases Nat.lt_or_ge j n with h1|h1
   ·exact h1
   ·rw[List.getElem?_eq_none (by simp;omega)]at hv;cases hv
  rw[List.getElem?_take_of_lt hj,List.getElem?_drop]at hv;simpa using hv)
 rwa[hl]at this
theorem VC(hw:WR φ base H w){t:TypeId}{id off:Nat}{v:AV}{e:PE}(h:se P H t id off=some v)(he:φ id=some e):
 ∃v',(loadVar t ⟨e.b,e.o+off,none⟩).run P w=.ok v' w∧VR φ v v':=by
 unfold se at h;split at h
 ·cases h
 ·rename_i vs jc;obtain⟨cs,el,hg,cW,de,hv,h1⟩:=hw.Dm jc he;unfold bA at h;split at h
  ·rename_i ha;split at h
   ·rename_i s hs;obtain⟨l,hl,rfl⟩:=VF h;obtain⟨rfl,bH⟩:=yZ hl;by_cases hs0:s=0
    ·subst hs0;refine⟨.agg #[],?_,?_⟩
     ·simp[loadVar,Ce ha w,jy hs w,loadCells,loadCellsFrom]
     ·refine⟨#[],rfl,?_⟩;simp[bm]
    ·have oA:off+s<=vs.length:=by simp at bH;omega
     refine⟨.agg ((cs.toList.drop (e.o+off)).take s).toArray,?_,?_⟩
     ·simp[loadVar,Ce ha w,jy hs w,yX (P:=P) hg (show e.o+off+s<=cs.size by omega)]
     ·refine⟨_,rfl,?_⟩;have h2:=(hv.uX off).sK s;have e2:(((cs.toList.drop e.o).take vs.length).drop off).take s=(cs.toList.drop (e.o+off)).take s:=by rw[List.drop_take,List.drop_drop,List.take_take];congr 1;omega
      rw[e2]at h2;simpa using h2
   ·cases h
  ·rename_i ha;obtain⟨v',h2,h3⟩:=hv.get h;have an:off<vs.length:=by
    rcases Nat.lt_or_ge off vs.length with h|h'
    ·exact h
    ·rw[List.getElem?_eq_none h']at h;cases h
   rw[List.getElem?_take_of_lt an,List.getElem?_drop]at h2;refine⟨v',?_,h3⟩;have EN:w.cell? ⟨e.b,e.o+off,none⟩=some v':=by rw[cell_of_row w e.b (e.o+off) cs el (0,0) hg];simpa using h2
   simp[loadVar,Ce ha w,EN]
  ·cases h
theorem am7{t:TypeId}{cs:LV}{b x:Nat}{fV:Array Value}{el:TypeId}{fz:Nat×Nat}{v:AV}(h:bA P t cs 0=some v)(hg:w.heap[b]? =some (.cells fV el fz))
 (cW:x+cs.length<=fV.size) (hc:bm φ cs ((fV.toList.drop x).take cs.length)):∃v',(loadVar t ⟨b,x,none⟩).run P w=.ok v' w∧VR φ v v':=by
 unfold bA at h;split at h
 ·rename_i ha;split at h
  ·rename_i s hs;obtain⟨l,hl,rfl⟩:=VF h;obtain⟨rfl,bH⟩:=yZ hl;have oA:s<=cs.length:=by simp at bH;omega
   refine⟨.agg ((fV.toList.drop x).take s).toArray,?_,?_⟩
   ·simp[loadVar,Ce ha w,jy hs w,yX (P:=P) hg (show x+s<=fV.size by omega)]
   ·refine⟨_,rfl,?_⟩;have h2:=hc.sK s;rw[List.take_take,Nat.min_eq_left oA]at h2;simpa using h2
  ·cases h
 ·rename_i ha;obtain⟨v',h2,h3⟩:=hc.get h;have an:0<cs.length:=by
   rcases Nat.lt_or_ge 0 cs.length with h|h'
   ·exact h
   ·rw[List.getElem?_eq_none h']at h;cases h
  rw[List.getElem?_take_of_lt an,List.getElem?_drop]at h2;refine⟨v',?_,h3⟩;have EN:w.cell? ⟨b,x,none⟩=some v':=by rw[cell_of_row w b x fV el fz hg];simpa using h2
  simp[loadVar,Ce ha w,EN]
 ·cases h
end FP
theorem lA:∀(l m:LN),dF l m=decide (l=m)
 |[],[]=>by simp[dF]
 |[],_::_=>by simp[dF]
 |_::_,[]=>by simp[dF]
 |a::l,b::m=>by rw[dF,Tr.vT,Tr.GW,lA l m];by_cases h:a=b<;>simp[h]
theorem XF{a b:ByteArray}(h:gV a=gV b):a=b:=by obtain⟨⟨x⟩⟩:=a;obtain⟨⟨y⟩⟩:=b;simp only[gV]at h;have:x=y:=List.map_inj_right (fun u v e=>UInt8.toNat_inj.1 e)|>.1 h;rw[this]
theorem uP(b:ByteArray):(gV b).length=b.size:=by simp[gV]
theorem avA(a b:ByteArray):gV (a++b)=gV a++gV b:=by simp[gV]
theorem axH(b:ByteArray):∀x∈gV b,x<256:=by intro x hx;simp only[gV,List.mem_map]at hx;obtain⟨u,_,rfl⟩:=hx;exact u.toNat_lt
theorem JD(a b:ByteArray):(a.toList==b.toList)=decide (gV a=gV b):=by
 rw[ByteArray.toList_eq,ByteArray.toList_eq];by_cases h:gV a=gV b
 ·have:=XF h;subst this;simp
 ·have:a.data≠b.data:=fun e=>h (by simp only[gV,e])
  simp[h,this]
theorem adi:∀(l m:List UInt8),Op.bytesLess l m=xq (l.map UInt8.toNat) (m.map UInt8.toNat)
 |l,[]=>by cases l<;>simp[Op.bytesLess,xq]
 |[],_::_=>by simp[Op.bytesLess,xq]
 |a::l,b::m=>by
  simp only[Op.bytesLess,List.map_cons,xq];rw[adi l m];have h1:Nat.ble (a.toNat+1) b.toNat=decide (a<b):=by rw[Bool.eq_iff_iff];simp[UInt8.lt_iff_toNat_lt];omega
  have h2:Nat.beq a.toNat b.toNat=decide (a=b):=by rw[Tr.vT];simp[UInt8.toNat_inj]
  rw[h1,h2];by_cases h:a<b
  ·simp[h]
  ·by_cases e:a=b<;>simp[h,e]
theorem aiB(a b:ByteArray):Op.bytesLess a.toList b.toList=xq (gV a) (gV b):=by rw[ByteArray.toList_eq,ByteArray.toList_eq,adi];rfl
section
variable{P:Program}{φ:bu}{base:ez}{H:AH}{w:World}
theorem aiQ{op:BinOp}{a b:ByteArray}{v:AV}(h:RE op (gV a) (gV b)=some v)(w:World):
 ∃v',(Op.stringOp op a b).run P w=.ok v' w∧VR φ v v':=by
 unfold RE at h;split at h
 ·cases hb:Nat.ble ((gV a).length+(gV b).length) 1000000
  ·rw[hb]at h;cases h
  ·rw[hb]at h;cases h;refine⟨.string (a++b),?_,⟨_,rfl,avA a b⟩⟩;have de:=Nat.le_of_ble_eq_true hb;rw[uP,uP]at de;have:¬(((a.size+b.size:Nat):Int)>IntKind.i64.max):=by
    have:IntKind.i64.max=9223372036854775807:=by rfl
    rw[this];omega
   simp only[Op.stringOp,az this,Sem.run_pure]
 all_goals first
  |(cases h
    refine⟨_,rfl,?_⟩;simp only[VR,aiB,JD,lA];try simp
    done)
  |(cases h;done)
theorem LW{ne:List LN}{s l:LN}(h:EI ne l=true)(hs:∀c∈ne,s≠c):s≠l:=by unfold EI at h;obtain⟨c,hc,he⟩:=List.any_eq_true.1 h;rw[lA]at he;have:=dW he;subst this;exact hs _ hc
theorem Z6{lo:Option Int}{m n:Int}(h:Fk lo n=true)(hl:∀l,lo=some l->l<=m):n<m:=by
 cases lo with
 |none=>cases h
 |some l=>have:=hl l rfl;have h':n<l:=dW h;omega
theorem ZB{hi:Option Int}{m n:Int}(h:Fj hi n=true)(hl:∀l,hi=some l->m<=l):m<n:=by
 cases hi with
 |none=>cases h
 |some l=>have:=hl l rfl;have h':l<n:=dW h;omega
theorem abe{lo hi:Option Int}{ne:LI}{m n:Int}(h:(Fk lo n||Fj hi n||ne.contains n)=true)(c6:∀c∈ne,m≠c)(jb:∀l,lo=some l->l<=m)(l_:∀l,hi=some l->m<=l):m≠n:=by
 simp only[Bool.or_eq_true]at h;rcases h with(h|h)|h
 ·have:=Z6 h jb;omega
 ·have:=ZB h l_;omega
 ·exact c6 n (by simpa using h)
set_option maxHeartbeats 1000000 in
theorem Sx:∀(d:Nat) (t:TypeId) (x y:AV) (r:Bool) (vx vy:Value),iQ P d t x y=some r->VR φ x vx->VR φ y vy->∀(D:Nat),d<=D->∀w,(Op.equalIn D t vx vy).run P w=.ok r w:=by
 intro d;induction d with
 |zero=>intro t x y r vx vy h;simp[iQ]at h
 |succ d ih=>
  intro t x y r vx vy h hx hy D hD w;obtain⟨D,rfl⟩:∃D',D=D'+1:=⟨D-1,by omega⟩;simp only[iQ]at h;split at h;case h_24=>
   rename_i gL xs ys hu;obtain⟨xs',rfl,US⟩:=hx;obtain⟨qz,rfl,hys⟩:=hy;cases gM:P.stoodInHeld t;case true=>rw[gM]at h;cases h
   rw[gM]at h;simp only[cond_false]at h;have hf:P.fieldsOf t=gL:=by simp[Program.fieldsOf,hu]
   rw[run_equalIn_struct w D t xs' qz (by rw[hf];exact hu) gM,hf];generalize gL.toList=fs at h;clear hu hf;induction fs generalizing w with
   |nil=>simp[iQ.A6]at h;subst h;simp[Op.eqFields]
   |cons f fs ihf=>
    simp only[iQ.A6]at h;split at h
    ·cases h
    ·rename_i hn;split at h
     ·rename_i a b ha hb;obtain⟨va,h1,h2⟩:=NO US ha w;obtain⟨vb,h3,h4⟩:=NO hys hb w;simp only[Op.eqFields];rw[aN hn];simp only[Sem.run_bind,h1,h3,Result.andThen_ok];split at h
      ·rename_i he;rw[ih _ _ _ _ _ _ he h2 h4 D (by omega) w];simp only[Result.andThen_ok];exact ihf w h
      ·rename_i he;rw[ih _ _ _ _ _ _ he h2 h4 D (by omega) w];cases h;simp
      ·cases h
     ·cases h
  case h_23=>
   rename_i ms tx va ty vb hu;obtain⟨va',rfl,h1⟩:=hx;obtain⟨vb',rfl,h2⟩:=hy;cases hb:Nat.beq tx ty
   ·rw[hb]at h;cases h;have:tx≠ty:=by intro e;subst e;simp at hb
    simp[Op.equalIn,run_underlying hu w,this]
   ·rw[hb]at h;have:tx=ty:=eI hb;subst this;simp only[cond_true]at h;split at h
    ·rename_i i hi;cases hc:i.comparable
     ·rw[hc]at h;cases h
     ·rw[hc]at h;simp only[cond_true]at h;simp[Op.equalIn,run_underlying hu w,run_typeInfo w hi,hc,ih _ _ _ _ _ _ h h1 h2 D (by omega) w]
    ·cases h
  all_goals
   try (cases h;done)
  all_goals
   simp only[VR]at hx hy
  all_goals rename_i hu
  case h_2=>
   subst hx hy;split at h
   ·rename_i hk;subst hk;cases h;simp[Op.equalIn,run_underlying hu w]
   ·cases h
  case h_3=>obtain⟨a,rfl,rfl⟩:=hx;obtain⟨b,rfl,rfl⟩:=hy;cases h;rw[run_equalIn_string w D t a b hu,JD,lA]
  case h_4=>obtain⟨⟨a,rfl,rfl⟩,c6⟩:=hx;obtain⟨b,rfl,rfl⟩:=hy;obtain⟨hb,h⟩:=di h;cases h;rw[run_equalIn_string w D t a b hu,JD];simp[LW hb c6]
  case h_5=>obtain⟨a,rfl,rfl⟩:=hx;obtain⟨⟨b,rfl,rfl⟩,c6⟩:=hy;obtain⟨hb,h⟩:=di h;cases h;rw[run_equalIn_string w D t a b hu,JD];simp[Ne.symm (LW hb c6)]
  case h_6=>
   obtain⟨rfl,h1,h2,h3⟩:=hx;subst hy;split at h
   ·rename_i hk;subst hk;obtain⟨hb,h⟩:=di h;cases h;simp[Op.equalIn,run_underlying hu w,abe hb h1 h2 h3]
   ·cases h
  case h_7=>
   obtain⟨rfl,h1,h2,h3⟩:=hy;subst hx;split at h
   ·rename_i hk;subst hk;obtain⟨hb,h⟩:=di h;cases h;simp[Op.equalIn,run_underlying hu w,Ne.symm (abe hb h1 h2 h3)]
   ·cases h
  all_goals cases h
  all_goals first
   |(subst hx hy;simp[Op.equalIn,run_underlying hu w];done)
   |(obtain⟨_,_,rfl⟩:=hx;subst hy;simp[Op.equalIn,run_underlying hu w];done)
   |(obtain⟨_,_,rfl⟩:=hy;subst hx;simp[Op.equalIn,run_underlying hu w];done)
   |(obtain⟨_,_,_,rfl,_⟩:=hx;subst hy;simp[Op.equalIn,run_underlying hu w];done)
   |(obtain⟨_,_,_,rfl,_⟩:=hy;subst hx;simp[Op.equalIn,run_underlying hu w];done)
   |(obtain⟨_,_,_,_,rfl,_⟩:=hx;subst hy;simp[Op.equalIn,run_underlying hu w];done)
   |(obtain⟨_,_,_,_,rfl,_⟩:=hy;subst hx;simp[Op.equalIn,run_underlying hu w];done)
   |(obtain⟨_,_,rfl,_⟩:=hx;subst hy;simp[Op.equalIn,run_underlying hu w];done)
   |(obtain⟨_,_,rfl,_⟩:=hy;subst hx;simp[Op.equalIn,run_underlying hu w];done)
   |(obtain⟨_,rfl,_⟩:=hx;subst hy;simp[Op.equalIn,run_underlying hu w];done)
   |(obtain⟨_,rfl,_⟩:=hy;subst hx;simp[Op.equalIn,run_underlying hu w];done)
end
section
variable{P:Program}{φ:bu}{base:ez}{H:AH}{w:World}
theorem akr(l:List Value):∀(k off:Nat) (cs:Array Value),off+k+l.length<=cs.size->
 ((l.zipIdx k).foldl (fun cs (c,j)=>cs.setIfInBounds (off+j) c) cs).toList=cs.toList.take (off+k)++(l++cs.toList.drop (off+k+l.length)):=by
 induction l with
 |nil=>intro k off cs h;simp
 |cons v l ih=>
  intro k off cs h;simp only[bR]at h;rw[List.zipIdx_cons,ik,ih (k+1) off _ (by simp;omega)];apply List.ext_getElem?;intro i;simp only[Array.toList_setIfInBounds,List.getElem?_append,List.length_take,List.length_set,Array.length_toList,List.getElem?_take,List.getElem?_set,List.getElem?_drop,bR];by_cases h1:i<off+k
  ·have h2:i<off+(k+1):=by omega
   have h3:¬(off+k=i):=by omega
   simp[h1,h2,h3,show min (off+(k+1)) cs.size=off+(k+1)by omega,show min (off+k) cs.size=off+k by omega]
  ·by_cases h2:i=off+k
   ·subst h2;simp[show min (off+(k+1)) cs.size=off+(k+1)by omega,show min (off+k) cs.size=off+k by omega,show off+k<off+(k+1)by omega,show off+k<cs.size by omega]
   ·have h3:¬i<off+(k+1):=by omega
    obtain⟨j,rfl⟩:∃j,i=off+k+1+j:=⟨i-(off+k+1),by omega⟩;simp only[show min (off+(k+1)) cs.size=off+(k+1)by omega,show min (off+k) cs.size=off+k by omega,az h1,az h3];have e1:off+k+1+j-(off+(k+1))=j:=by omega
    have e2:off+k+1+j-(off+k)=j+1:=by omega
    rw[e1,e2];simp only[List.getElem?_cons_succ];by_cases h4:j<l.length
    ·simp[h4]
    ·simp only[az h4,show¬(j+1<l.length+1)by omega,if_false];have e3:off+(k+1)+l.length+(j-l.length)=off+k+(l.length+1)+(j+1-(l.length+1)):=by omega
     rw[e3];simp;intro e;omega
theorem Tw:∀(n:Nat) (l:LV),ab5 n l=Nat.ble n l.length
 |0,_=>rfl
 |_+1,[]=>rfl
 |n+1,_::l=>(Tw n l).trans rfl
theorem WA{l cs r:LV}{off:Nat}(h:sq l off cs=some r):off+cs.length<=l.length∧r=l.take off++(cs++l.drop (off+cs.length)):=by
 unfold sq at h;rw[Tw]at h;cases hb:Nat.ble (off+cs.length) l.length
 ·rw[hb]at h;cases h
 ·rw[hb]at h;cases h;exact⟨Nat.le_of_ble_eq_true hb,rfl⟩
theorem bm.put{l cs:LV}{l' cs':List Value}{off:Nat}(hl:bm φ l l')(hc:bm φ cs cs'):bm φ (l.take off++(cs++l.drop (off+cs.length))) (l'.take off++(cs'++l'.drop (off+cs'.length))):=by rw[←hc.ka];exact(hl.sK off).xW (hc.xW (hl.uX _))
def Kk(φ:bu)(ps:List (Nat×AV))(ry:List (Nat×Value)):Prop:=ps.map (·.1)=ry.map (·.1)∧bm φ (ps.map (·.2)) (ry.map (·.2))
theorem KD{ρ:Operand->Option AV}{ev:Operand->Value}:∀{l:List (Nat×Operand)} {ps:List (Nat×AV)},mX φ ρ ev (l.map (·.2))->DE ρ l=some ps->Kk φ ps (l.map fun p=>(p.1,ev p.2))
 |[],ps,_,h=>by simp[DE]at h;subst h;exact⟨rfl,lX⟩
 |(i,x)::l,ps,hr,h=>by
  simp only[DE]at h;split at h
  ·cases h
  ·rename_i a ha;split at h
   ·cases h
   ·rename_i as BN;cases h;have h1:=KD (l:=l) (hr.ot (fun y hy=>by simp only[List.map_cons,ss];exact .inr hy)) BN;exact⟨by simp[h1.1],pE.2 ⟨hr x (by simp) a ha,h1.2⟩⟩
theorem Lj{pl:Nat->Option (Nat×Nat)}:∀{ps:List (Nat×AV)} {ry:List (Nat×Value)} {cs r:LV} {cs':Array Value},Kk φ ps ry->bm φ cs cs'.toList->wS pl cs ps=some r->
 ∃r',Instr.fill pl cs' ry=some r'∧bm φ r r'.toList
 |[],ry,cs,r,cs',hp,hc,h=>by
  have:ry=[]:=by have:=hp.1;simpa using this.symm
  subst this;simp only[wS]at h;cases h;exact⟨cs',rfl,hc⟩
 |(i,v)::ps,[],_,_,_,hp,_,_=>by have:=hp.1;simp at this
 |(i,v)::ps,(i',v')::ry,cs,r,cs',hp,hc,h=>by
  obtain⟨h1,h2⟩:=hp;simp only[List.map_cons,List.cons.injEq]at h1;obtain⟨rfl,h1⟩:=h1;simp only[List.map_cons]at h2;obtain⟨hv,h2⟩:=pE.1 h2;simp only[wS]at h;split at h
  ·cases h
  ·rename_i off size jG;cases hb:Nat.beq v.eB.length size
   ·rw[hb]at h;cases h
   ·rw[hb]at h;simp only[cond_true]at h;have cW:v.eB.length=size:=eI hb;split at h
    ·cases h
    ·rename_i cs1 Ul;obtain⟨de,rfl⟩:=WA Ul;have hcv:=AV.sP hv;have mK:=hcv.ka;have ki:=hc.ka;have Ma:=akr v'.cells.toList 0 off cs' (by simp at mK ki⊢;omega);simp only[Nat.add_zero]at Ma;have al1:=bm.put (off:=off) hc hcv;obtain⟨r',h3,h4⟩:=Lj (ps:=ps) (ry:=ry) (cs':=v'.cells.zipIdx.foldl (fun cs (c,j)=>cs.setIfInBounds (off+j) c) cs') ⟨h1,h2⟩ (by rw[←Array.foldl_toList,Array.toList_zipIdx,Ma];exact al1) h;refine⟨r',?_,h4⟩;simp only[Instr.fill,jG];have L0:¬(v'.cells.size≠size):=by simp at mK;omega
     have hc2:¬(off+v'.cells.size>cs'.size):=by simp at mK ki;omega
     simpa[L0,hc2]using h3
theorem aov{gL:Array Field}{pl:List (Nat×Nat)}(h:Wq P gL=some pl)(w:World):
 (gL.mapM fun f=>do pure (f.offset,←sizeOf f.type):Sem _).run P w=.ok pl.toArray w:=by
 rw[Array.mapM_eq_mapM_toList,Sem.run_map];unfold Wq at h;have:∀(fs:List Field) (pl:List (Nat×Nat)),(fs.mapM fun f=>(dH P f.type).map fun s=>(f.offset,s))=some pl->((fs.mapM fun f=>do pure (f.offset,←sizeOf f.type):Sem _)).run P w=.ok pl w:=by
  intro fs;induction fs with
  |nil=>intro pl h;simp at h;subst h;simp
  |cons f fs ih=>
   intro pl h;rw[List.mapM_cons]at h⊢;cases hs:dH P f.type with
   |none=>simp[hs]at h
   |some s=>
    simp only[hs,Option.map_some,Option.bind_eq_bind,Option.bind_some]at h;cases hm:(fs.mapM fun f=>(dH P f.type).map fun s=>(f.offset,s))with
    |none=>simp[hm]at h
    |some pl'=>simp[hm]at h;subst h;have:=ih _ hm;simp[jy hs w]at this⊢;simp[this]
 rw[this _ _ h];rfl
end
section
variable{P:Program}{φ:bu}{base:ez}{H:AH}{w:World}
theorem aek{v:Value}{a:AV}(h:NB v=some a):VR φ a v:=by unfold NB at h;split at h<;>first|(cases h;simp[VR];done)|cases h
theorem ajQ{op:BinOp}{t:TypeId}{a b v:AV}{va vb:Value}(ha:VR φ a va)(hb:VR φ b vb)(h:Eh P op t a b=some v)(w:World):
 ∃r,(Op.equal t va vb).run P w=.ok r w∧((op=.eql∧v=.aA r)∨(op=.neq∧v=.aA (!r))):=by
 unfold Eh at h;split at h
 ·cases he:iQ P 100 t a b with
  |none=>simp[he]at h
  |some r=>simp[he]at h;exact⟨r,Sx 100 t a b r va vb he ha hb Op.maxDepth (by simp[Op.maxDepth]) w,.inl ⟨rfl,h.symm⟩⟩
 ·cases he:iQ P 100 t a b with
  |none=>simp[he]at h
  |some r=>simp[he]at h;exact⟨r,Sx 100 t a b r va vb he ha hb Op.maxDepth (by simp[Op.maxDepth]) w,.inr ⟨rfl,h.symm⟩⟩
 ·cases h
inductive wz:Nat->Value->Prop
 |bool (b:Bool):wz 0 (.bool b)
 |ad (a:Option Addr):wz 1 (.pointer a)
 |slice (a:Option Addr) (n c:Nat):wz 2 (.slice a n c)
 |map (a:Option Nat):wz 3 (.map a)
 |func (fn:Fn) (f c:Array Value):wz 4 (.func fn f c)
 |nilFunc:wz 4 .nilFunc
 |iface (t:TypeId) (v:Value):wz 5 (.iface t v)
 |nilIface:wz 5 .nilIface
 |agg (cs:Array Value):wz 6 (.agg cs)
theorem Lq{a:AV}{v:Value}(h:VR φ a v)(hk:nE a≠9):wz (nE a) v:=by
 cases a<;>simp only[VR]at h;all_goals first
  |(subst h;constructor;done)
  |(obtain⟨_,_,rfl⟩:=h;constructor;done)
  |(obtain⟨_,rfl,_⟩:=h;constructor;done)
  |(obtain⟨_,_,rfl,_⟩:=h;constructor;done)
  |(obtain⟨_,_,_,rfl,_⟩:=h;constructor;done)
  |(obtain⟨_,_,_,_,rfl,_⟩:=h;constructor;done)
  |(exact absurd rfl hk)
theorem ajP{op:BinOp}{t:TypeId}{x y:Operand}{a b:AV}{va vb:Value}(ha:VR φ a va)(hb:VR φ b vb)
 (hk:nE a=nE b) (h9:nE a≠9) (hg:Et P t x y a b=true) (w:World):
 (eqGuard op t x y va vb).run P w=.ok () w:=by
 have fa:=Lq ha h9;have fb:=Lq hb (hk▸h9);have h9b:nE b≠9:=hk▸h9;rw[←hk]at fb;generalize nE a=n at fa fb;cases fa<;>cases fb;case nilIface.nilIface=>
  have ea:a=.my:=by cases a<;>simp[VR]at ha<;>first|rfl|exact absurd rfl h9
  have eb:b=.my:=by cases b<;>simp[VR]at hb<;>first|rfl|exact absurd rfl h9b
  subst ea eb;cases op<;>cases x<;>cases y<;>simp[Et,sc]at hg<;>simp[eqGuard]
 case agg.agg=>
  have ea:∃l,a=.aj l:=by cases a<;>simp[VR]at ha<;>first|exact⟨_,rfl⟩|exact absurd rfl h9
  have eb:∃l,b=.aj l:=by cases b<;>simp[VR]at hb<;>first|exact⟨_,rfl⟩|exact absurd rfl h9b
  obtain⟨l,rfl⟩:=ea;obtain⟨m,rfl⟩:=eb;exact run_eqGuard_agg w op t x y _ _ (by simpa[Et]using hg)
 all_goals cases op<;>simp[eqGuard]
theorem aiv{op:BinOp}{t:TypeId}{a b v:AV}{va vb:Value}(ha:VR φ a va)(hb:VR φ b vb)
 (hk:nE a=nE b) (h9:nE a≠9) {r:Bool} (w:World) (hr:(Op.equal t va vb).run P w=.ok r w) (hv:(op=.eql∧v=.aA r)∨(op=.neq∧v=.aA (!r))):
 (Go.binOp op t va vb).run P w=.ok (match op with|.eql=>.bool r|_=>.bool (!r)) w∧VR φ v (match op with|.eql=>.bool r|_=>.bool (!r)):=by
 have fa:=Lq ha h9;have fb:=Lq hb (hk▸h9);rw[←hk]at fb;generalize nE a=n at fa fb;rcases hv with⟨rfl,rfl⟩|⟨rfl,rfl⟩
 ·refine⟨?_,by simp[VR]⟩;cases fa<;>cases fb<;>simp only[Go.binOp]<;>simp[hr]
 ·refine⟨?_,by simp[VR]⟩;cases fa<;>cases fb<;>simp only[Go.binOp]<;>simp[hr]
theorem agl{op:BinOp}{up:Bool}{k:IntKind}{m n:Int}{t:TypeId}{x y:Operand}{v:AV}{w:World}(BY:m≠n)(hu:up=true->n<m)(hd:up=false->m<n)(h:Od op up=some v):
 ∃v',(do eqGuard op t x y (.int k m) (.int k n);Go.binOp op t (.int k m) (.int k n):Sem Value).run P w=.ok v' w∧VR φ v v':=by
 unfold Od at h;cases up with
 |true=>
  have:=hu rfl;have h1:¬m<n:=by omega
  have h2:¬m<=n:=by omega
  have h3:n<=m:=by omega
  split at h<;>first
   |(cases h;done)
   |(injection h with h;subst h;refine⟨_,?_,show VR φ (AV.aA _) (Value.bool _)from rfl⟩;simp[eqGuard,Go.binOp,Op.intCmp,BY,this,h1,h2,h3])
 |false=>
  have:=hd rfl;have h1:¬n<m:=by omega
  have h2:¬n<=m:=by omega
  have h3:m<=n:=by omega
  split at h<;>first
   |(cases h;done)
   |(injection h with h;subst h;refine⟨_,?_,show VR φ (AV.aA _) (Value.bool _)from rfl⟩;simp[eqGuard,Go.binOp,Op.intCmp,BY,this,h1,h2,h3])
theorem aaB{op:BinOp}{a b:ByteArray}{t:TypeId}{x y:Operand}{v:AV}{w:World}(c6:gV a≠gV b)(h:FC op=some v):
 ∃v',(do eqGuard op t x y (.string a) (.string b);Go.binOp op t (.string a) (.string b):Sem Value).run P w=.ok v' w∧VR φ v v':=by
 have hg:(eqGuard op t x y (.string a) (.string b)).run P w=.ok () w:=by cases op<;>simp[eqGuard]
 have hb:(a.toList==b.toList)=false:=by rw[JD];simp[c6]
 have hs:Go.binOp op t (.string a) (.string b)=Op.stringOp op a b:=by cases op<;>rfl
 unfold FC at h;split at h
 ·cases h;exact⟨.bool false,by simp only[Sem.run_bind,hg,Result.andThen_ok,hs];simp[Op.stringOp,hb],by simp[VR]⟩
 ·cases h;exact⟨.bool true,by simp only[Sem.run_bind,hg,Result.andThen_ok,hs];simp[Op.stringOp,hb],by simp[VR]⟩
 ·cases h
theorem aiu{op:BinOp}{t:TypeId}{x y:Operand}{a b v:AV}{va vb:Value}(ha:VR φ a va)(hb:VR φ b vb)(h:KK P op t x y a b=some v)(w:World):
 ∃v',(do eqGuard op t x y va vb;Go.binOp op t va vb:Sem Value).run P w=.ok v' w∧VR φ v v':=by
 unfold KK at h;split at h
 ·rename_i k m k' n;simp only[VR]at ha hb;subst ha hb;cases hp:yT P (Go.binOp op t (.int k m) (.int k' n))with
  |none=>simp[hp]at h
  |some v'=>
   simp only[hp,Option.bind_some]at h;refine⟨v',?_,aek h⟩;have hg:(eqGuard op t x y (.int k m) (.int k' n)).run P w=.ok () w:=by cases op<;>simp[eqGuard]
   simp[hg,Wx hp w]
 ·rename_i l m;obtain⟨s,rfl,rfl⟩:=ha;obtain⟨s',rfl,rfl⟩:=hb;obtain⟨v',h1,h2⟩:=aiQ (P:=P) (φ:=φ) h w;refine⟨v',?_,h2⟩;have hg:(eqGuard op t x y (.string s) (.string s')).run P w=.ok () w:=by cases op<;>simp[eqGuard]
  simp only[Sem.run_bind,hg,Result.andThen_ok];have:Go.binOp op t (.string s) (.string s')=Op.stringOp op s s':=by cases op<;>rfl
  rw[this,h1]
 ·rename_i k m ne lo hi k' n;simp only[VR]at ha hb;obtain⟨rfl,c6,jb,l_⟩:=ha;subst hb;by_cases hk:k=k'
  ·subst hk;rw[aN rfl]at h;unfold aeu at h;cases h1:Fk lo n
   ·rw[h1]at h;cases h2:Fj hi n
    ·rw[h2]at h;cases hc:ne.contains n
     ·rw[hc]at h;cases h
     ·rw[hc]at h;simp only[cond_true,cond_false]at h;have BY:m≠n:=c6 n (by simpa using hc);unfold FC at h;split at h
      ·cases h;exact⟨.bool false,by simp[eqGuard,Go.binOp,Op.intCmp,BY],by simp[VR]⟩
      ·cases h;exact⟨.bool true,by simp[eqGuard,Go.binOp,Op.intCmp,BY],by simp[VR]⟩
      ·cases h
    ·rw[h2]at h;simp only[cond_true,cond_false]at h;have an:=ZB h2 l_;exact agl (w:=w) (by omega) (fun h=>by cases h) (fun _=>an) h
   ·rw[h1]at h;simp only[cond_true]at h;have an:=Z6 h1 jb;exact agl (w:=w) (by omega) (fun _=>an) (fun h=>by cases h) h
  ·rw[az hk]at h;cases h
 ·rename_i s ne l;obtain⟨⟨a,rfl,rfl⟩,c6⟩:=ha;obtain⟨b,rfl,rfl⟩:=hb;obtain⟨hb,h⟩:=di h;exact aaB (w:=w) (LW hb c6) h
 ·rename_i l s ne;obtain⟨a,rfl,rfl⟩:=ha;obtain⟨⟨b,rfl,rfl⟩,c6⟩:=hb;obtain⟨hb,h⟩:=di h;exact aaB (w:=w) (Ne.symm (LW hb c6)) h
 ·cases hc:Nat.beq (nE a) (nE b)&& !Nat.beq (nE a) 9&&Et P t x y a b
  ·rw[hc]at h;cases h
  ·rw[hc]at h;simp only[cond_true]at h;simp only[cy,Bool.not_eq_true']at hc;obtain⟨⟨h1,h2⟩,h3⟩:=hc;have hk:nE a=nE b:=eI h1;have h9:nE a≠9:=by intro e;rw[e]at h2;simp at h2
   obtain⟨r,hr,hv⟩:=ajQ (P:=P) ha hb h w;have:=aiv (P:=P) ha hb hk h9 w hr hv;exact⟨_,by simp only[Sem.run_bind,ajP (P:=P) ha hb hk h9 h3 w,Result.andThen_ok];exact this.1,this.2⟩
end
section
variable{P:Program}{φ:bu}{base:ez}{H:AH}{w:World}
theorem uE{α β:Type}{r:Option α}{f:α->β}{v:β}(h:r.map f=some v):∃a,r=some a∧f a=v:=by
 cases r with
 |none=>cases h
 |some a=>cases h;exact⟨a,rfl,rfl⟩
theorem VL{a:AV}{n:Nat}{v:Value}(h:nG a=some n)(ha:VR φ a v):∃k,v=.int k (n:Int):=by
 unfold nG at h;split at h
 ·cases h;simp only[VR]at ha;exact⟨_,ha⟩
 ·cases h
theorem vq(n:Nat):VR φ (rT n) (goInt n):=by simp[rT,goInt,VR]
def sL(φ:bu)(a:Option AV)(v:Option Value):Prop:=(a=none∧v=none)∨(∃x y,a=some x∧v=some y∧VR φ x y)
theorem Xg{v:Value}{k:IntKind}{n y:Nat}{c:BoundsCode}(hv:v=.int k (n:Int))(h:n<=y)(w:World):(Instr.sliceBound v y c).run P w=.ok n w:=by subst hv;have:(0:Int)<=n∧(n:Int)<=y:=⟨by omega,by omega⟩;simp[Instr.sliceBound,asIntOf,h]
theorem Wc{a:Option AV}{v:Option Value}{n d y:Nat}{c:BoundsCode}(h:(match a with|some x=>nG x|none=>some d)=some n)(hr:sL φ a v)(de:n<=y)(w:World):
 (match v with|some x=>Instr.sliceBound x y c|none=>pure d:Sem Nat).run P w=.ok n w:=by
 rcases hr with⟨rfl,rfl⟩|⟨x,y,rfl,rfl,Io⟩
 ·simp at h;subst h;simp
 ·obtain⟨k,rfl⟩:=VL h Io;exact Xg rfl de w
theorem Of{Cg:Bool}{lo hi:Option AV}{qi eW:Option Value}{l h len cap:Nat}(e1:(match hi with|some v=>nG v|none=>some len)=some h)
 (e2:(match lo with|some v=>nG v|none=>some 0)=some l) (hl:sL φ lo qi) (hh:sL φ hi eW) (h1:h<=cap) (h2:l<=h) (w:World):
 (Instr.sliceBounds Cg len cap qi eW none).run P w=.ok (l,h,cap) w:=by
 have jb:=fun w=>Wc (P:=P) (c:=.sliceB) e2 hl h2 w
 have l_:=fun w=>Wc (P:=P) (c:=if Cg then .sliceAcap else .sliceAlen) e1 hh h1 w
 simp only[Instr.sliceBounds];cases eW<;>cases qi<;>simp at jb l_⊢<;>simp[jb,l_]
theorem agq{Cg:Bool}{m':Value}{lo:Option AV}{ma:AV}{qi:Option Value}{h':Value}{ha:AV}{l h m len cap:Nat}(e0:nG ma=some m)(hm:VR φ ma m')
 (e1:nG ha=some h) (hh:VR φ ha h')
 (e2:(match lo with|some v=>nG v|none=>some 0)=some l) (hl:sL φ lo qi) (h0:m<=cap) (h1:h<=m) (h2:l<=h) (w:World):
 (Instr.sliceBounds Cg len cap qi (some h') (some m')).run P w=.ok (l,h,m) w:=by
 have jb:=fun w=>Wc (P:=P) (c:=.slice3C) e2 hl h2 w
 obtain⟨k,rfl⟩:=VL e0 hm;obtain⟨k',rfl⟩:=VL e1 hh;have b0:=fun w=>Xg (P:=P) (v:=.int k (m:Int)) (c:=if Cg then .slice3Acap else .slice3Alen) rfl h0 w
 have b1:=fun w=>Xg (P:=P) (v:=.int k' (h:Int)) (c:=.slice3B) rfl h1 w
 simp only[Instr.sliceBounds];cases qi<;>simp at jb⊢<;>simp[jb,b0,b1]
theorem au2{b:ByteArray}{lo hi:Option AV}{qi eW:Option Value}{v:AV}(h:Og (gV b) lo hi=some v)
 (hl:sL φ lo qi) (hh:sL φ hi eW) (w:World):
 ∃l h',(Instr.sliceBounds false b.size b.size qi eW none).run P w=.ok (l,h',b.size) w∧VR φ v (.string (b.extract l h')):=by
 unfold Og at h;split at h
 ·rename_i h' l e1 e2;obtain⟨hb,h⟩:=di h;cases h;simp only[cy,Nat.ble_eq]at hb;rw[uP]at hb e1;refine⟨l,h',Of e1 e2 hl hh hb.1 hb.2 w,⟨_,rfl,?_⟩⟩;simp only[gV,ByteArray.data_extract,Array.toList_extract,List.map_take,List.map_drop];rw[List.drop_take]
 ·cases h
theorem IK{ρ:Operand->Option AV}{ev:Operand->Value}{x:Option Operand}{r:Option AV}(hr:mX φ ρ ev x.toList)(h:qn ρ x=some r):sL φ r (x.map ev):=aoc hr h
theorem ya(b o n:Nat):(⟨b,o,none⟩:Addr).add n=⟨b,o+n,none⟩:=by unfold Addr.add;split<;>simp_all
theorem Xh{id off len cap sz x:Nat}{ex:Bool}{lo hi mx:Option AV}{qi eW IB:Option Value}{v:AV}{e:PE}{c:Nat}(h:CN id off len cap sz ex lo hi mx=some v)
 (he:φ id=some e) (hx:c=0∨x=e.o+off) (bH:len<=c) (qT:ex=true->c=cap) (jv:e.o+off+c*sz<=e.n)
 (hl:sL φ lo qi) (hh:sL φ hi eW) (hm:sL φ mx IB) (w:World) (Cg:Bool):
 ∃l h' m,(Instr.sliceBounds Cg len c qi eW IB).run P w=.ok (l,h',m) w∧
  VR φ v (.slice (if m=l then some ⟨e.b,x,none⟩else some ((⟨e.b,x,none⟩:Addr).add (l*sz))) (h'-l) (m-l)):=by
 have key:∀{l h m:Nat} {SC:Bool} {tU:Nat},l<=h->h<=m->m<=c->(SC=true->m-l=tU)->
  VR φ (.bB id (off+l*sz) (h-l) tU sz SC) (.slice (if m=l then some ⟨e.b,x,none⟩else some ((⟨e.b,x,none⟩:Addr).add (l*sz))) (h-l) (m-l)):=by
  intro l h m SC tU h1 h2 h3 h4;simp only[VR];have hr:e.o+(off+l*sz)+(m-l)*sz<=e.n:=by
   have e1:l*sz+(m-l)*sz=m*sz:=by rw[←Nat.add_mul];congr 1;omega
   have e2:m*sz<=c*sz:=Nat.mul_le_mul_right sz h3;omega
  by_cases vK:m=l
  ·exact⟨e,x,m-l,he,by rw[aN vK],.inl (by omega),by omega,h4,hr⟩
  ·refine⟨e,x+l*sz,m-l,he,by rw[az vK,ya],.inr ?_,by omega,h4,hr⟩;rcases hx with hx|hx<;>omega
 unfold CN at h;split at h
 ·rcases hm with⟨_,rfl⟩|⟨_,_,e1,_⟩
  case inr=>cases e1
  split at h
  ·rename_i h' l e1 e2;obtain⟨hb,h⟩:=di h;cases h;simp only[cy,Nat.ble_eq]at hb;have hc:h'<=c:=by
    have:=hb.1;cases ex
    ·simp at this;omega
    ·simp at this;rw[qT rfl];exact this
   refine⟨l,h',c,Of e1 e2 hl hh hc hb.2 w,key hb.2 hc (eh _) (fun e=>by subst e;rw[qT rfl];rfl)⟩
  ·cases h
 ·rename_i m;rcases hm with⟨e1,_⟩|⟨ma,mv,e1,rfl,E_⟩
  case inl=>cases e1
  cases e1;split at h
  ·rename_i m' h' l e0 e1 e2;obtain⟨hb,h⟩:=di h;cases h;simp only[cy,Nat.ble_eq]at hb;have hc:m'<=c:=by
    have:=hb.1.1;cases ex
    ·simp at this;omega
    ·simp at this;rw[qT rfl];exact this
   rcases hh with⟨rfl,rfl⟩|⟨ha,hv,rfl,rfl,hav⟩
   ·cases e1
   ·exact⟨l,h',m',agq e0 E_ e1 hav e2 hl hc hb.1.2 hb.2 w,key hb.2 hb.1.2 hc (fun _=>rfl)⟩
  ·cases h
theorem au3{len sz c:Nat}{cs:LV}{a:Option Addr}{lo hi mx:Option AV}{qi eW IB:Option Value}{v:AV}(h:Ja cs len sz lo hi mx=some v)
 (hx:VR φ (.aB cs len sz) (.slice a len c)) (hl:sL φ lo qi) (hh:sL φ hi eW) (hm:sL φ mx IB) (w:World):
 ∃l h' m,(Instr.sliceBounds true len c qi eW IB).run P w=.ok (l,h',m) w∧VR φ v (.slice (if m=l then a else a.map (·.add (l*sz))) (h'-l) (m-l)):=by
 unfold Ja at h;split at h
 ·rcases hm with⟨_,rfl⟩|⟨_,_,e1,_⟩
  case inr=>cases e1
  split at h
  ·rename_i h' l e1 e2;obtain⟨hb,h⟩:=di h;cases h;simp only[cy,Nat.ble_eq]at hb;simp only[VR]at hx;obtain⟨a',c',e,bH,hd⟩:=hx;cases e;have hc:h'<=c:=by rcases hd with hd|⟨_,_,_,_,_,_,hd,_⟩<;>omega
   refine⟨l,h',c,Of e1 e2 hl hh hc hb.2 w,?_⟩;have m1:(h'-l)*sz+l*sz=h'*sz:=by rw[←Nat.add_mul];congr 1;omega
   have m2:h'*sz<=len*sz:=Nat.mul_le_mul_right sz hb.1;have EX:((cs.drop (l*sz)).take ((h'-l)*sz)).length=(h'-l)*sz:=by simp;omega
   simp only[VR];refine⟨_,_,rfl,EX,?_⟩;by_cases h0:h'-l=0
   ·exact .inl h0
   ·right;rcases hd with hd|⟨b,x,fV,el,fz,rfl,nD,gF,cW,hv⟩
    ·omega
    ·refine⟨b,x+l*sz,fV,el,fz,?_,by omega,gF,by rw[EX];omega,?_⟩
     ·rw[az (by omega)];simp[ya]
     ·rw[EX];have h2:=(hv.uX (l*sz)).sK ((h'-l)*sz);have e3:(((fV.toList.drop x).take cs.length).drop (l*sz)).take ((h'-l)*sz)=(fV.toList.drop (x+l*sz)).take ((h'-l)*sz):=by rw[List.drop_take,List.drop_drop,List.take_take];congr 1;omega
      rw[e3]at h2;exact h2
  ·cases h
 ·cases h
theorem dx.Pe:∀{es:List (AV×AV×Nat)} {ms:List MapEntry},dx φ es ms->es.length=ms.length
 |[],_,h=>by simp only[dx]at h;subst h;rfl
 |(k,v,b)::es,_,h=>by simp only[dx]at h;obtain⟨m,ms,rfl,_,_,_,h⟩:=h;simp[dx.Pe h]
theorem amY(hw:WR φ base H w){x:AV}{v:Value}{n:Nat}{d:TypeDesc}{t:TypeId}{ts:Array TypeId}{T:TypeId}{vs:Array Value}(hx:VR φ x v)(h:Cj H x=some n)(hu:P.underlying t=some d)
 (kA:yK d x=true) (h0:ts[0]? =some t) (h1:vs[0]? =some v):
 (Builtin.len_ ts T vs).run P w=.ok (goInt n) w:=by
 cases x<;>simp only[Cj]at h;case aa s=>cases h;obtain⟨b,rfl,rfl⟩:=hx;cases d<;>simp[yK]at kA;simp[Builtin.len_,h0,h1,run_underlying hu w,uP]
 case bB=>cases h;obtain⟨e,y,c,_,rfl,_⟩:=hx;cases d<;>simp[yK]at kA;simp[Builtin.len_,h0,h1,run_underlying hu w]
 case aB=>cases h;obtain⟨a,c,rfl,_⟩:=hx;cases d<;>simp[yK]at kA;simp[Builtin.len_,h0,h1,run_underlying hu w]
 case ae=>cases h;cases d<;>simp[yK]at kA;rcases hx with⟨rfl,rfl⟩|⟨e,x,c,_,rfl,_⟩<;>simp[Builtin.len_,h0,h1,run_underlying hu w]
 case bg=>cases h;simp only[VR]at hx;subst hx;cases d<;>simp[yK]at kA;simp[Builtin.len_,h0,h1,run_underlying hu w]
 case nF=>cases h;simp only[VR]at hx;subst hx;cases d<;>simp[yK]at kA;simp[Builtin.len_,h0,h1,run_underlying hu w]
 case aS id=>
  split at h
  ·rename_i es db p ho;cases h;obtain⟨e,he,rfl⟩:=hx;obtain⟨o,h3,bQ,rfl,h2,_⟩:=hw.fP _ _ e ho he;cases d<;>simp[yK]at kA;have:=h2.Pe;simp[Builtin.len_,h0,h1,run_underlying hu w,getObj,Sem.run,h3,this]
  ·cases h
 all_goals cases h
end
section
variable{P:Program}{φ:bu}{base:ez}{H:AH}{w:World}{ρ:Operand->Option AV}{ev:Operand->Value}
def zg(φ:bu)(es:List (AV×AV×Nat))(ms:List MapEntry)(i:Nat):Option (Nat×AV×Nat)->Option (Nat×Value)->Prop
 |none,r'=>r'=none
 |some (j,v,b),r'=>∃m k,r'=some (j,m.val)∧i<=j∧es[j-i]? =some (k,v,b)∧ms[j-i]? =some m∧VR φ v m.val∧m.born=b
theorem dx.abl{eq:AV->AV->Option Bool}{k:AV}{T:TypeId}{vk:Value}(ES:∀y vy r,eq k y=some r->VR φ y vy->∀w,(Op.equal T vk vy).run P w=.ok r w):
 ∀{es:List (AV×AV×Nat)} {ms:List MapEntry} {i:Nat} {r:Option (Nat×AV×Nat)},dx φ es ms->mE eq k es i=some r->∀w,
  ∃r',(Instr.findAsking T vk ms i).run P w=.ok r' w∧zg φ es ms i r r'
 |[],ms,i,r,he,h,w=>by simp only[dx]at he;subst he;simp only[mE]at h;cases h;exact⟨none,by simp[Instr.findAsking],rfl⟩
 |(x,v,b)::es,ms,i,r,he,h,w=>by
  simp only[dx]at he;obtain⟨m,ms,rfl,hk,hv,hb,he⟩:=he;simp only[mE]at h;split at h
  ·rename_i hq;cases h;refine⟨some (i,m.val),?_,m,x,rfl,eh _,by simp,by simp,hv,hb⟩;simp[Instr.findAsking,ES x m.key true hq hk w]
  ·rename_i hq;obtain⟨r',h1,h2⟩:=dx.abl ES he h w;refine⟨r',?_,?_⟩
   ·simp[Instr.findAsking,ES x m.key false hq hk w,h1]
   ·cases r with
    |none=>exact h2
    |some r=>
     obtain⟨j,v',b'⟩:=r;obtain⟨m',k',e1,e2,e3,e4,e6,e5⟩:=h2;have:j-i=(j-(i+1))+1:=by omega
     exact⟨m',k',e1,by omega,by rw[this,List.getElem?_cons_succ];exact e3,by rw[this,List.getElem?_cons_succ];exact e4,e6,e5⟩
  ·cases h
theorem af7{d:TypeDesc}{k y:Value}{b:Bool}{T:TypeId}(hd:P.underlying T=some d)(h:Instr.sameNow d k y=some b)(w:World):(Op.equal T k y).run P w=.ok b w:=by
 unfold Instr.sameNow at h;split at h
 ·split at h
  ·rename_i e;subst e;cases h;exact run_equalIn_int w 9999 T _ _ _ _ hd
  ·cases h
 ·cases h;rename_i a b;have:=run_equalIn_string w 9999 T a b hd;rw[←beq_toListBytes]at this;exact this
 ·cases h;exact run_equalIn_bool w 9999 T _ _ hd
 ·cases h
theorem abo{d:TypeDesc}{k:Value}{T:TypeId}(hd:P.underlying T=some d)(w:World):∀{ms:List MapEntry} {i:Nat} {r:Option (Nat×Value)},Instr.findNow d k ms i=some r->(Instr.findAsking T k ms i).run P w=.ok r w
 |[],i,r,h=>by simp[Instr.findNow]at h;subst h;simp[Instr.findAsking]
 |m::ms,i,r,h=>by
  simp only[Instr.findNow]at h;split at h
  ·rename_i hs;cases h;simp[Instr.findAsking,af7 hd hs w]
  ·rename_i hs;simp[Instr.findAsking,af7 hd hs w,abo hd w h]
  ·cases h
theorem akn{d:TypeDesc}{k:Value}{T:TypeId}(hd:P.underlying T=some d){ms:List MapEntry}{r:Option (Nat×Value)}{w:World}(h:(Instr.findAsking T k ms).run P w=.ok r w):(Instr.findKey T k ms).run P w=.ok r w:=by
 simp only[Instr.findKey,Sem.run_bind,run_underlying hd w,Result.andThen_ok];cases hn:Instr.findNow d k ms 0 with
 |none=>simp[h]
 |some r'=>have:=abo (P:=P) hd w hn;rw[this]at h;cases h;simp
theorem zG{kt:TypeId}{k:AV}{vk:Value}{d:TypeDesc}(hd:P.underlying kt=some d)(hk:VR φ k vk){es:List (AV×AV×Nat)}{ms:List MapEntry}(he:dx φ es ms)
 {r:Option (Nat×AV×Nat)} (h:mE (iQ P 100 kt) k es 0=some r) (w:World):∃r',(Instr.findKey kt vk ms).run P w=.ok r' w∧zg φ es ms 0 r r':=by
 obtain⟨r',h1,h2⟩:=dx.abl (P:=P) (eq:=iQ P 100 kt) (T:=kt) (vk:=vk) (fun y vy r hq hy w=>Sx 100 kt k y r vk vy hq hk hy Op.maxDepth (by simp[Op.maxDepth]) w) he h w;exact⟨r',akn hd h1,h2⟩
theorem aeI{d:TypeDesc}{t:TypeId}{a:AV}{v:Value}(hu:P.underlying t=some d)(h:IS d a=true)(ha:VR φ a v)(em:Bool)(n:Nat)(w:World):
 (Instr.checkKey em (n+1) t v).run P w=.ok () w:=by
 cases d<;>cases a<;>simp[IS]at h;all_goals
  simp only[VR]at ha
 all_goals first
  |(subst ha;simp[Instr.checkKey,run_underlying hu w];done)
  |(obtain⟨rfl,_⟩:=ha;simp[Instr.checkKey,run_underlying hu w];done)
  |(obtain⟨⟨_,rfl,_⟩,_⟩:=ha;simp[Instr.checkKey,run_underlying hu w];done)
  |(obtain⟨_,rfl,_⟩:=ha;simp[Instr.checkKey,run_underlying hu w])
theorem aow{cs:LV}{cs':Array Value}{f:Field}(iu:bm φ cs cs'.toList)(h:Wr P cs f=true)(em:Bool)(n:Nat)(w:World):
 ∃x,(part f.type cs' f.offset).run P w=.ok x w∧(Instr.checkKey em (n+1) f.type x).run P w=.ok () w:=by
 unfold Wr at h;split at h
 ·rename_i d a e1 e2;obtain⟨x,e3,e4⟩:=iu.get e2;have e5:cs'[f.offset]? =some x:=by simpa using e3
  refine⟨x,?_,aeI (P:=P) (φ:=φ) e1 h e4 em n w⟩;cases d<;>cases a<;>simp[IS]at h<;>simp[part,isAgg,run_underlying e1 w,e5]
 ·cases h
theorem KS{t:TypeId}{k:AV}{v:Value}(h:ru P t k=true)(hk:VR φ k v)(em:Bool)(n:Nat)(w:World):(Instr.checkKey em (n+2) t v).run P w=.ok () w:=by
 unfold ru at h;split at h
 ·rename_i gL cs hu;obtain⟨cs',rfl,iu⟩:=hk;rw[Instr.checkKey];simp only[Sem.run_bind,run_underlying hu w,Result.andThen_ok];rw[←Array.forIn_toList];generalize gL.toList=fs at h;clear hu;induction fs with
  |nil=>simp
  |cons f fs ih=>
   simp only[List.all_cons,cy]at h;obtain⟨h1,h2⟩:=h;obtain⟨x,e6,e7⟩:=aow iu h1 em n w;simp only[List.forIn_cons,Sem.run_bind,Sem.run_ite];split
   ·simp only[e6,Result.andThen_ok,e7,Sem.run_pure];exact ih h2
   ·simp only[Sem.run_pure,Result.andThen_ok];exact ih h2
 ·rename_i hu _;exact aeI (P:=P) hu h hk em (n+1) w
 ·cases h
theorem zg.at{es:List (AV×AV×Nat)}{ms:List MapEntry}{j:Nat}{v:AV}{b:Nat}{r':Option (Nat×Value)}(h:zg φ es ms 0 (some (j,v,b)) r'):
 ∃m k,r'=some (j,m.val)∧es[j]? =some (k,v,b)∧ms[j]? =some m∧VR φ v m.val∧m.born=b:=by
 obtain⟨m,k,e1,_,e3,e4,e5,e6⟩:=h;exact⟨m,k,e1,by simpa using e3,by simpa using e4,e5,e6⟩
end
section
variable{P:Program}{φ:bu}{base:ez}{H:AH}{w:World}{ρ:Operand->Option AV}{ev:Operand->Value}
theorem SN{mx:Bool}:∀{l:LV} {a r:AV} {va:Value} {vs:List Value},VR φ a va->bm φ l vs->Eo mx a l=some r->
 ∃v,(vs.foldlM (if mx then Builtin.max2 else Builtin.min2) va:Sem Value).run P w=.ok v w∧VR φ r v
 |[],a,r,va,vs,ha,hl,h=>by simp only[bm]at hl;subst hl;simp[Eo]at h;subst h;exact⟨va,by simp,ha⟩
 |b::l,a,r,va,vs,ha,hl,h=>by
  simp only[bm]at hl;obtain⟨vb,vs,rfl,hb,hl⟩:=hl;cases a<;>cases b<;>simp only[Eo]at h<;>try (cases h;done)
  rename_i k x k' y;simp only[VR]at ha hb;subst ha hb;obtain⟨v,h1,h2⟩:=SN (va:=Value.int k (bif mx then(if y>x then y else x)else(if y<x then y else x))) (by simp only[VR]) hl h;refine⟨v,?_,h2⟩;rw[List.foldlM_cons,Sem.run_bind];cases mx
  ·have e:(Builtin.min2 (.int k x) (.int k' y)).run P w=.ok (.int k (if y<x then y else x)) w:=rfl;simp only[Bool.false_eq_true,if_false,cond_false]at h1⊢;rw[e];exact h1
  ·have e:(Builtin.max2 (.int k x) (.int k' y)).run P w=.ok (.int k (if y>x then y else x)) w:=rfl;simp only[if_true,cond_true]at h1⊢;rw[e];exact h1
theorem avB{a:AV}{v v':Value}(h:OU a=some v)(ha:VR φ a v'):v'=v:=by unfold OU at h;split at h<;>first|(cases h;simpa[VR]using ha)|cases h
theorem Sc{id off n i:Nat}{elem:TypeId}{v:AV}(h:zx P id off n elem i=some v):∃s,(∀w,(sizeOf elem).run P w=.ok s w)∧i<n∧v=.ad id (off+i*s):=by
 unfold zx at h;split at h
 ·rename_i s hs;obtain⟨hb,h⟩:=di h;cases h;exact⟨s,jy hs,by have:=Nat.le_of_ble_eq_true hb;omega,rfl⟩
 ·cases h
theorem ajl{cs:LV}{len sz i:Nat}{elem:TypeId}{v:AV}(h:K5 P cs len sz elem i=some v):(∀w,(sizeOf elem).run P w=.ok sz w)∧i<len∧v=.qw ((cs.drop (i*sz)).take sz):=by
 unfold K5 at h;split at h
 ·rename_i s hs;obtain⟨hb,h⟩:=di h;cases h;simp only[cy,Nat.ble_eq]at hb;have:=eI hb.1;subst this;exact⟨jy hs,by omega,rfl⟩
 ·cases h
theorem aif{nT xT:TypeId}{ok:Bool}{x v:AV}{vx:Value}{d:TypeDesc}(hu:P.underlying nT=some d)(hd:∀ms,d≠.interface ms)(h:Rg P nT ok x=some v)(hx:VR φ x vx)(w:World):
 ∃v',(Instr.typeAssert vx xT nT ok).run P w=.ok v' w∧VR φ v v':=by
 unfold Rg at h;have hz:∀{z:AV},kM P nT=some z->∃vz,VR φ z vz∧∀w,(zeroValue nT).run P w=.ok vz w:=fun hz=>xN hz
 split at h
 ·rename_i t a;obtain⟨va,rfl,sa⟩:=hx;cases hb:Nat.beq t nT
  ·rw[hb]at h;simp only[cond_false]at h;have c6:t≠nT:=by intro e;subst e;simp at hb
   obtain⟨bq,h⟩:=di h;subst bq;obtain⟨z,Cd,rfl⟩:=uE h;obtain⟨vz,h1,h2⟩:=hz Cd;refine⟨.tuple #[vz,.bool false],?_,⟨_,rfl,pE.2 ⟨h1,nS (by simp[VR])⟩⟩⟩;cases d<;>first
    |(exact absurd rfl (hd _))
    |simp[Instr.typeAssert,run_underlying hu w,c6,h2]
  ·rw[hb]at h;simp only[cond_true]at h;cases h;have he:t=nT:=eI hb;cases ok
   ·refine⟨va,?_,sa⟩;cases d<;>first
     |(exact absurd rfl (hd _))
     |simp[Instr.typeAssert,run_underlying hu w,he]
   ·refine⟨.tuple #[va,.bool true],?_,⟨_,rfl,pE.2 ⟨sa,nS (by simp[VR])⟩⟩⟩;cases d<;>first
     |(exact absurd rfl (hd _))
     |simp[Instr.typeAssert,run_underlying hu w,he]
 ·simp only[VR]at hx;subst hx;obtain⟨bq,h⟩:=di h;subst bq;obtain⟨z,Cd,rfl⟩:=uE h;obtain⟨vz,h1,h2⟩:=hz Cd;refine⟨.tuple #[vz,.bool false],?_,⟨_,rfl,pE.2 ⟨h1,nS (by simp[VR])⟩⟩⟩;cases d<;>first
   |(exact absurd rfl (hd _))
   |simp[Instr.typeAssert,run_underlying hu w,h2]
 ·cases h
theorem qN{r:Nat}{o:Obj}(h:w.heap[r]? =some o)(hc:o.isCells=false):(getObj r).run P w=.ok o w:=by cases o<;>simp[Obj.isCells]at hc<;>simp[getObj,Sem.run,h]
theorem agc{r:Nat}{o o':Obj}(h:w.heap[r]? =some o)(hc:o.isCells=false):(setObj r o').run P w=.ok () {w with heap:=w.heap.setIfInBounds r o'}:=by cases o<;>simp[Obj.isCells]at hc<;>simp[setObj,Sem.run,h]
theorem ajL(hw:WR φ base H w){m:AV}{vm:Value}{es:List (AV×AV×Nat)}(h:wQ H m=some es)(hm:VR φ m vm):
 ∃bQ:Array MapEntry,dx φ es bQ.toList∧((vm=.map none∧bQ= #[])∨∃r db,vm=.map (some r)∧w.heap[r]? =some (.map bQ db)):=by
 unfold wQ at h;split at h
 ·cases h;simp only[VR]at hm;subst hm;exact⟨#[],by simp[dx],.inl ⟨rfl,rfl⟩⟩
 ·split at h
  ·rename_i db p ho;cases h;obtain⟨e,he,rfl⟩:=hm;obtain⟨o,h1,bQ,rfl,h2,_⟩:=hw.fP _ _ e ho he;exact⟨bQ,h2,.inr ⟨_,_,rfl,h1⟩⟩
  ·cases h
 ·cases h
theorem adB{t kt elem:TypeId}{vm vk:Value}{bQ:Array MapEntry}{ok:Bool}{r:Option (Nat×Value)}(hu:P.underlying t=some (.map kt elem))
 (hm:(vm=.map none∧bQ= #[])∨∃r db,vm=.map (some r)∧w.heap[r]? =some (.map bQ db))
 (r5:(Instr.checkKey bQ.isEmpty 10000 kt vk).run P w=.ok () w) (hf:(Instr.findKey kt vk bQ.toList).run P w=.ok r w) {v:Value} {b:Bool}
 (hr:(∃i,r=some (i,v)∧b=true)∨(r=none∧(zeroValue elem).run P w=.ok v w∧b=false)):
 (Instr.lookup t vm vk ok).run P w=.ok (if ok then .tuple #[v,.bool b]else v) w:=by
 unfold Instr.lookup;rcases hm with⟨rfl,rfl⟩|⟨r0,db,rfl,hg⟩
 ·simp only[Sem.run_bind,run_underlying hu w,Result.andThen_ok,Sem.run_pure,r5,hf];rcases hr with⟨i,rfl,rfl⟩|⟨rfl,hz,rfl⟩
  ·simp
  ·simp[hz]
 ·simp only[Sem.run_bind,run_underlying hu w,Result.andThen_ok,Sem.run_pure,qN (P:=P) hg rfl,r5,hf];rcases hr with⟨i,rfl,rfl⟩|⟨rfl,hz,rfl⟩
  ·simp
  ·simp[hz]
theorem aem{ok b:Bool}{a:AV}{v:Value}(h:VR φ a v):VR φ (qm ok a b) (if ok then .tuple #[v,.bool b]else v):=by
 cases ok
 ·simpa[qm]using h
 ·exact⟨_,rfl,pE.2 ⟨h,nS (by simp[VR])⟩⟩
theorem abm{eq:AV->AV->Option Bool}{k:AV}:∀{es SA:List (AV×AV)},es.Perm SA->∀{r:Option AV},wT eq k es=some r->wT eq k SA=some r:=by
 intro es SA h;induction h with
 |nil=>intro r h;exact h
 |cons x h ih=>
  obtain⟨x,v⟩:=x;intro r hr;simp only[wT]at hr⊢;split at hr
  ·rename_i h1 h2;rw[h1,ih h2];exact hr
  ·rename_i r' h1 h2;rw[h1,ih h2];exact hr
  ·cases hr
 |swap x y l=>
  obtain⟨x,v⟩:=x;obtain⟨y,u⟩:=y;intro r hr;simp only[wT]at hr⊢;cases hx:eq k x with
  |none=>rw[hx]at hr;cases hy:eq k y<;>rw[hy]at hr<;>simp at hr
  |some bx=>
   cases hy:eq k y with
   |none=>rw[hx,hy]at hr;cases bx<;>simp at hr
   |some bY=>
    rw[hx,hy]at hr;cases hf:wT eq k l with
    |none=>rw[hf]at hr;cases bx<;>cases bY<;>simp at hr
    |some q=>rw[hf]at hr;cases bx<;>cases bY<;>cases q<;>simp at hr⊢<;>exact hr
 |trans h1 h2 ih1 MM=>intro r hr;exact MM (ih1 hr)
theorem SG{eq:AV->AV->Option Bool}{k:AV}:∀{l:List (AV×AV×Nat)} {r:Option AV},wT eq k (l.map fun x=>(x.1,x.2.1))=some r->∀i,
 (r=none->mE eq k l i=some none)∧(∀v,r=some v->∃j b,mE eq k l i=some (some (j,v,b)))
 |[],r,h,i=>by simp[wT]at h;subst h;exact⟨fun _=>rfl,(fun v h=>by cases h)⟩
 |(x,v,b)::l,r,h,i=>by
  simp only[List.map_cons,wT]at h;split at h
  ·rename_i h1 h2;cases h;refine⟨(fun h=>by cases h),fun u hu=>?_⟩;cases hu;exact⟨i,b,by simp only[mE,h1]⟩
  ·rename_i r' h1 h2;cases h;have:=SG h2 (i+1);refine⟨fun h=>?_,fun u hu=>?_⟩
   ·simp only[mE,h1];exact this.1 h
   ·obtain⟨j,c,hh⟩:=this.2 u hu;exact⟨j,c,by simp only[mE,h1];exact hh⟩
  ·cases h
theorem aip(hw:WR φ base H w){m:AV}{vm:Value}{es:List (AV×AV)}(h:DJ H m=some es)(hm:VR φ m vm):
 ∃(l:List (AV×AV×Nat)) (bQ:Array MapEntry),(l.map fun x=>(x.1,x.2.1)).Perm es∧dx φ l bQ.toList∧((vm=.map none∧bQ= #[])∨∃r db,vm=.map (some r)∧w.heap[r]? =some (.map bQ db)):=by
 unfold DJ at h;split at h
 ·rename_i id;split at h
  ·rename_i es0 ho;cases h;obtain⟨e,he,rfl⟩:=hm;obtain⟨o,hg,l,bQ,db,rfl,hp,hl⟩:=hw.fP id _ e ho he;exact⟨l,bQ,hp,hl,.inr ⟨_,_,rfl,hg⟩⟩
  ·cases h
 ·cases h
theorem ady{kt elem t:TypeId}{key v:AV}{vm vk:Value}{ok:Bool}{es:List (AV×AV×Nat)}{bQ:Array MapEntry}(hu:P.underlying t=some (.map kt elem))(hp:ru P kt key=true)
 (he:dx φ es bQ.toList) (dU:(vm=.map none∧bQ= #[])∨∃r db,vm=.map (some r)∧w.heap[r]? =some (.map bQ db))
 (h:(match mE (iQ P 100 kt) key es 0 with
   |some (some (_,v,_))=>some (qm ok v true)
   |some none=>(kM P elem).map (qm ok · false)
   |none=>none)=some v) (hk:VR φ key vk):∃v',(Instr.lookup t vm vk ok).run P w=.ok v' w∧VR φ v v':=by
 have s_:∃d,P.underlying kt=some d:=by
  cases T5:P.underlying kt with
  |none=>simp[ru,T5]at hp
  |some d=>exact⟨d,rfl⟩
 obtain⟨d,hd⟩:=s_;have r5:=KS (φ:=φ) hp hk bQ.isEmpty 9998 w;split at h
 ·rename_i i x b hf;cases h;obtain⟨r',h1,h2⟩:=zG hd hk he hf w;obtain⟨me,k,rfl,e3,e4,e5,e6⟩:=h2.at;exact⟨_,adB hu dU r5 h1 (.inl ⟨i,rfl,rfl⟩),aem e5⟩
 ·rename_i hf;obtain⟨z,hz,rfl⟩:=uE h;obtain⟨vz,Ip,UU⟩:=xN (φ:=φ) hz;obtain⟨r',h1,h2⟩:=zG hd hk he hf w;simp only[zg]at h2;subst h2;exact⟨_,adB hu dU r5 h1 (.inr ⟨rfl,UU w,rfl⟩),aem Ip⟩
 ·cases h
theorem am8(hw:WR φ base H w){kt elem t:TypeId}{m key v:AV}{vm vk:Value}{ok:Bool}(hu:P.underlying t=some (.map kt elem))(h:Fs P H kt elem m key ok=some v)(hm:VR φ m vm)(hk:VR φ key vk):
 ∃v',(Instr.lookup t vm vk ok).run P w=.ok v' w∧VR φ v v':=by
 unfold Fs at h;obtain⟨hp,h⟩:=di h;split at h
 ·rename_i es jE;obtain⟨bQ,he,dU⟩:=ajL hw jE hm;exact ady hu hp he dU h hk
 ·split at h
  ·rename_i es jE;obtain⟨l,bQ,qb,he,dU⟩:=aip hw jE hm;refine ady hu hp he dU ?_ hk;unfold adx at h;split at h
   ·rename_i x hf;obtain⟨j,b,hh⟩:=(SG (abm qb.symm hf) 0).2 _ rfl;rw[hh];exact h
   ·rename_i hf;have hh:=(SG (abm qb.symm hf) 0).1 rfl;rw[hh];exact h
   ·cases h
  ·cases h
end
section
variable{P:Program}{φ:bu}{base:ez}{H:AH}{w:World}{ρ:Operand->Option AV}{ev:Operand->Value}
theorem na{s:Sem Value}{v:Value}(h:s.run P w=.ok v w):(do pure (.value (←s)):Sem Next).run P w=.ok (.value v) w:=by simp[h]
theorem axC{kH:Array (Nat×Operand)}{l:List Operand}(hr:mX φ ρ ev l)(hs:∀x∈(kH.toList.map (·.2)),x∈l):mX φ ρ ev (kH.toList.map (·.2)):=hr.ot hs
theorem aiA{t:TypeId}{gL:Array Field}{z v:AV}{vz:Value}{ps:List (Nat×AV)}{kH:Array (Nat×Value)}(hu:P.underlying t=some (.struct gL))(hz:VR φ z vz)(nj:(zeroValue t).run P w=.ok vz w)
 (hp:Kk φ ps kH.toList) (h:Ru P z gL ps=some v):∃v',(Instr.build t kH).run P w=.ok v' w∧VR φ v v':=by
 unfold Ru at h;split at h
 ·rename_i pl jG;obtain⟨cs,hf,rfl⟩:=uE h;obtain⟨r',h1,h2⟩:=Lj hp (AV.sP hz) hf;refine⟨.agg r',?_,⟨_,rfl,h2⟩⟩;have h3:=aov jG w;have h4:(fun(x:Nat)=>(pl.toArray)[x]?)=(fun(x:Nat)=>pl[x]?):=by funext x;simp
  simp only[Instr.build,Sem.run_bind,nj,Result.andThen_ok,run_underlying hu w,h3,h4,h1,Sem.run_pure]
 ·cases h
theorem aiz{t elem:TypeId}{n:Nat}{z v:AV}{vz:Value}{ps:List (Nat×AV)}{kH:Array (Nat×Value)}(hu:P.underlying t=some (.array n elem))(hz:VR φ z vz)(nj:(zeroValue t).run P w=.ok vz w)
 (hp:Kk φ ps kH.toList) (h:Rt P z elem ps=some v):∃v',(Instr.build t kH).run P w=.ok v' w∧VR φ v v':=by
 unfold Rt at h;split at h
 ·rename_i s hs;obtain⟨cs,hf,rfl⟩:=uE h;obtain⟨r',h1,h2⟩:=Lj hp (AV.sP hz) hf;refine⟨.agg r',?_,⟨_,rfl,h2⟩⟩;simp only[Instr.build,Sem.run_bind,nj,Result.andThen_ok,run_underlying hu w,jy hs w,h1,Sem.run_pure]
 ·cases h
theorem amF{t:TypeId}{kH:Array (Nat×Operand)}{v:AV}(hr:mX φ ρ ev (kH.toList.map (·.2)))(h:MY P ρ t kH=some v):
 ∃v',(Instr.build t (kH.map fun(i,x)=>(i,ev x))).run P w=.ok v' w∧VR φ v v':=by
 unfold MY at h;split at h
 ·rename_i z gL ps e1 e2 e3;obtain⟨vz,h1,h2⟩:=xN (φ:=φ) e1;exact aiA e2 h1 (h2 w) (by have:=KD hr e3;simpa using this) h
 ·rename_i z n elem ps e1 e2 e3;obtain⟨vz,h1,h2⟩:=xN (φ:=φ) e1;exact aiz e2 h1 (h2 w) (by have:=KD hr e3;simpa using this) h
 ·cases h
theorem X5{a:Option AV}(h:JO a=true):(match a with|some v=>nG v|none=>some 0)=some 0:=by
 cases a with
 |none=>rfl
 |some v=>
  simp only[JO]at h;cases hn:nG v with
  |none=>simp[hn]at h
  |some n=>simp only[hn,Option.any_some]at h;have:=eI h;simp[hn,←this]
theorem amH(hw:WR φ base H w){t:TypeId}{x:Operand}{lo hi mx:Option Operand}{v:AV}(hr:mX φ ρ ev ((#[x]++lo.toArray++hi.toArray++mx.toArray).toList))(h:yJ P ρ H t x lo hi mx=some v):
 ∃v',(Instr.sliceAt t (ev x) (lo.map ev) (hi.map ev) (mx.map ev)).run P w=.ok v' w∧VR φ v v':=by
 unfold yJ at h;split at h
 ·rename_i l hh m e1 e2 e3;have r1:=IK (hr.ot (l':=lo.toList) (fun y hy=>by cases lo<;>simp at hy;subst hy;simp)) e1;have r2:=IK (hr.ot (l':=hi.toList) (fun y hy=>by cases hi<;>simp at hy;subst hy;simp)) e2;have r3:=IK (hr.ot (l':=mx.toList) (fun y hy=>by cases mx<;>simp at hy;subst hy;simp)) e3;have rx:∀a,ρ x=some a->VR φ a (ev x):=hr x (by simp);split at h
  ·rename_i s hu hx;obtain⟨b,hb,rfl⟩:=rx _ hx;obtain⟨hm,h⟩:=di h;have vH:m=none:=by cases m<;>simp at hm⊢
   subst vH;have vL:mx.map ev=none:=by rcases r3 with⟨_,h⟩|⟨_,_,e,_⟩;exact h;cases e
   obtain⟨l',h',h1,h2⟩:=au2 (P:=P) h r1 r2 w;refine⟨_,?_,h2⟩;simp[Instr.sliceAt,Instr.slice,run_underlying hu w,hb,vL,h1]
  ·rename_i elem id off len cap sz ex hu hx;obtain⟨hs,h⟩:=di h;obtain⟨e,y,c,he,hv,hy,bH,qT,jv⟩:=rx _ hx;obtain⟨l',h',m',h1,h2⟩:=Xh (P:=P) h he hy bH qT jv r1 r2 r3 w true;have cW:dH P elem=some sz:=by
    cases hq:dH P elem with
    |none=>simp[hq]at hs
    |some s=>simp[hq]at hs;rw[hs]
   refine⟨_,?_,h2⟩;by_cases vK:m'=l'
   ·simp[Instr.sliceAt,Instr.slice,run_underlying hu w,hv,h1,jy cW w,vK]
   ·simp[Instr.sliceAt,Instr.slice,run_underlying hu w,hv,h1,jy cW w,vK]
  ·rename_i elem cs len sz hu hx;obtain⟨hs,h⟩:=di h;have UM:=rx _ hx;have acO:=UM;simp only[VR]at acO;obtain⟨a,c,hv,_⟩:=acO;rw[hv]at UM;obtain⟨l',h',m',h1,h2⟩:=au3 (P:=P) h UM r1 r2 r3 w;have cW:dH P elem=some sz:=by
    cases hq:dH P elem with
    |none=>simp[hq]at hs
    |some s=>simp[hq]at hs;rw[hs]
   refine⟨_,?_,h2⟩;simp[Instr.sliceAt,Instr.slice,run_underlying hu w,hv,h1,jy cW w]
  ·rename_i elem id len sz hu hx;obtain⟨hs,hq⟩:=di h;clear h;simp only[cy]at hs;obtain⟨⟨hs,HB⟩,BY⟩:=hs;have HB:=Nat.le_of_ble_eq_true HB;have vH:m=none:=by cases m<;>simp at BY⊢
   subst vH;have cW:dH P elem=some sz:=by
    cases hq:dH P elem with
    |none=>simp[hq]at hs
    |some s=>simp[hq]at hs;rw[hs]
   rcases rx _ hx with⟨h0,_⟩|⟨e,y,c,he,hv,hy,nD,jv⟩
   ·omega
   ·obtain⟨l',h',m',h1,h2⟩:=Xh (P:=P) (off:=0) (ex:=false) (cap:=1) hq he (by simpa using hy) nD (fun h=>by cases h) (by simpa using jv) r1 r2 r3 w true;refine⟨_,?_,h2⟩;by_cases vK:m'=l'
    ·simp[Instr.sliceAt,Instr.slice,run_underlying hu w,hv,h1,jy cW w,vK]
    ·simp[Instr.sliceAt,Instr.slice,run_underlying hu w,hv,h1,jy cW w,vK]
  ·rename_i elem hu hx;have hv:=rx _ hx;simp only[VR]at hv;obtain⟨hz,h⟩:=di h;cases h;simp only[cy]at hz;obtain⟨⟨⟨⟨z1,z2⟩,z3⟩,z4⟩,z5⟩:=hz;obtain⟨sz,cW⟩:=Option.isSome_iff_exists.1 z5;refine⟨.slice none 0 0,?_,by simp[VR]⟩;have b1:=X5 z1;have b2:=X5 z2;have key:(Instr.sliceBounds true 0 0 (lo.map ev) (hi.map ev) (mx.map ev)).run P w=.ok (0,0,0) w:=by
    cases m with
    |none=>
     have vL:mx.map ev=none:=by rcases r3 with⟨_,h⟩|⟨_,_,e,_⟩;exact h;cases e
     rw[vL];exact Of b2 b1 r1 r2 (eh _) (eh _) w
    |some ma=>
     cases hh with
     |none=>simp at z4
     |some ha=>
      rcases r3 with⟨e,_⟩|⟨ma',mv,e,E_,hma⟩
      ·cases e
      ·cases e;rcases r2 with⟨e,_⟩|⟨ha',MF,e,EU,hha⟩
       ·cases e
       ·cases e;rw[E_,EU];exact agq (X5 z3) hma b2 hha b1 r1 (eh _) (eh _) (eh _) w
   simp[Instr.sliceAt,Instr.slice,run_underlying hu w,hv,key,jy cW w]
  ·rename_i n elem id off hu hx;obtain⟨e,he,hv⟩:=rx _ hx;split at h
   ·rename_i sz vs hs jc;obtain⟨hb,h⟩:=di h;obtain⟨cs,el,hg,cW,de,_,_⟩:=hw.Dm jc he;have jv:e.o+off+n*sz<=e.n:=by have:=Nat.le_of_ble_eq_true hb;omega
    obtain⟨l',h',m',h1,h2⟩:=Xh (P:=P) h he (.inr rfl) (eh n) (fun _=>rfl) jv r1 r2 r3 w false;refine⟨_,?_,h2⟩;by_cases vK:m'=l'
    ·simp[Instr.sliceAt,Instr.sureAddr,run_underlying hu w,hv,h1,jy hs w,vK]
    ·simp[Instr.sliceAt,Instr.sureAddr,run_underlying hu w,hv,h1,jy hs w,vK]
   ·cases h
  ·cases h
 ·cases h
theorem amG(hw:WR φ base H w){b:Builtin}{args:LV}{argTypes:Array TypeId}{T:TypeId}{vs:Array Value}{v:AV}(hv:bm φ args vs.toList)(h:MZ P H b args argTypes=some v):
 ∃v',(∀Ha,(builtin b argTypes T Ha vs).run P w=.ok (.value v') w)∧VR φ v v':=by
 unfold MZ at h;split at h
 ·rename_i x;simp only[bm]at hv;obtain⟨vx,rest,e,hx,rfl⟩:=hv;have h0:vs[0]? =some vx:=by rw[←Array.getElem?_toList,e];rfl
  unfold Vg at h;split at h
  ·rename_i n elem hu;cases h;cases ht:argTypes[0]? with
   |none=>simp[ht]at hu
   |some t=>simp only[ht,Option.bind_some]at hu;exact⟨goInt n,fun _=>by simp[builtin,Builtin.len_,ht,h0,run_underlying hu w],vq n⟩
  ·rename_i d _ hu;obtain⟨hf,h⟩:=di h;obtain⟨n,hn,rfl⟩:=uE h;cases ht:argTypes[0]? with
   |none=>simp[ht]at hu
   |some t=>simp only[ht,Option.bind_some]at hu;exact⟨goInt n,fun _=>by simp[builtin,amY (P:=P) (T:=T) hw hx hn hu hf ht h0],vq n⟩
  ·cases h
 ·rename_i x;simp only[bm]at hv;obtain⟨vx,rest,e,hx,rfl⟩:=hv;have h0:vs[0]? =some vx:=by rw[←Array.getElem?_toList,e];rfl
  unfold ac9 at h;split at h
  ·rename_i elem id off len c sz hu;cases h;obtain⟨e',y,c',he,rfl,hy,bH,qT,jv⟩:=hx;cases ht:argTypes[0]? with
   |none=>simp[ht]at hu
   |some t=>simp only[ht,Option.bind_some]at hu;exact⟨goInt c',fun _=>by simp[builtin,Builtin.cap_,ht,h0,run_underlying hu w],by rw[qT rfl];exact vq c⟩
  ·rename_i elem hu;cases h;simp only[VR]at hx;subst hx;cases ht:argTypes[0]? with
   |none=>simp[ht]at hu
   |some t=>simp only[ht,Option.bind_some]at hu;exact⟨goInt 0,fun _=>by simp[builtin,Builtin.cap_,ht,h0,run_underlying hu w],vq 0⟩
  ·cases h
 ·rename_i a l;simp only[bm]at hv;obtain⟨va,rest,e,ha,hl⟩:=hv;obtain⟨v',h1,h2⟩:=SN (P:=P) (w:=w) ha hl h;refine⟨v',fun _=>?_,h2⟩;simp only[if_true]at h1;simp[builtin,Builtin.max_,e,h1]
 ·rename_i a l;simp only[bm]at hv;obtain⟨va,rest,e,ha,hl⟩:=hv;obtain⟨v',h1,h2⟩:=SN (P:=P) (w:=w) ha hl h;refine⟨v',fun _=>?_,h2⟩;simp only[Bool.false_eq_true,if_false]at h1;simp[builtin,Builtin.min_,e,h1]
 ·cases h
theorem afd{o:Oper}{v:AV}(hw:WR φ base H w)(hr:mX φ ρ ev o.op.operands.toList)(h:gg P ρ H o.op=some v):
 ∃v',(execOp ev o).run P w=.ok (.value v') w∧VR φ v v':=by
 cases o with
 |mk dst op type pos after guard=>
 simp only at hr h;cases op<;>simp only[gg]at h<;>try (cases h;done)
 case move x=>exact⟨ev x,by simp[execOp],hr x (by simp[Op.operands]) v h⟩
 case assign x=>exact⟨ev x,by simp[execOp],hr x (by simp[Op.operands]) v h⟩
 case pick c a b=>
  unfold M3 at h;split at h
  ·rename_i t hc;have h1:=hr c (by simp[Op.operands]) _ hc;simp only[VR]at h1;cases t
   ·simp only[cond_false]at h;exact⟨ev b,by simp[execOp,h1,asBool],hr b (by simp[Op.operands]) v h⟩
   ·simp only[cond_true]at h;exact⟨ev a,by simp[execOp,h1,asBool],hr a (by simp[Op.operands]) v h⟩
  ·cases h
 case build t kH=>obtain⟨v',h1,h2⟩:=amF (ev:=ev) (w:=w) (hr.ot (fun x hx=>by simpa[Op.operands]using hx)) h;exact⟨v',by simp only[execOp];exact na h1,h2⟩
 case load t a=>
  unfold Iw at h;split at h
  ·rename_i id off ha;obtain⟨e,he,hv⟩:=hr a (by simp[Op.operands]) _ ha;obtain⟨v',h1,h2⟩:=VC hw h he;exact⟨v',by simp only[execOp];exact na (by simp[Instr.loadAt,Instr.sureAddr,hv,h1]),h2⟩
  ·rename_i cs ha;obtain⟨b,x,fV,el,fz,hv,gF,cW,hc⟩:=hr a (by simp[Op.operands]) _ ha;obtain⟨v',h1,h2⟩:=am7 (P:=P) (w:=w) h (hw.ro _ _ gF).2 cW hc;have h2:=VR.qC (fq.gU φ) _ _ h2;exact⟨v',by simp only[execOp];exact na (by simp[Instr.loadAt,Instr.sureAddr,hv,h1]),h2⟩
  ·cases h
 case nilCheck x=>
  unfold Vk at h;split at h
  ·rename_i id off hx;cases h;have h0:=hr x (by simp[Op.operands]) _ hx;obtain⟨e,he,hv⟩:=h0;exact⟨ev x,by simp[execOp,hv],e,he,hv⟩
  ·rename_i cs hx;cases h;have h0:=hr x (by simp[Op.operands]) _ hx;have h1:=h0;obtain⟨b,y,fV,el,fz,hv,_⟩:=h0;exact⟨ev x,by simp[execOp,hv],h1⟩
  ·rename_i f l c hx;cases h;have h0:=hr x (by simp[Op.operands]) _ hx;have h1:=h0;obtain⟨f',c',hv,_⟩:=h0;exact⟨ev x,by simp[execOp,hv],h1⟩
  ·rename_i t a hx;cases h;have h0:=hr x (by simp[Op.operands]) _ hx;have h1:=h0;obtain⟨a',hv,_⟩:=h0;exact⟨ev x,by simp[execOp,hv],h1⟩
  ·cases h
 case binOp op t x y yt=>
  unfold MX at h;split at h
  ·rename_i a b ha hb;obtain⟨v',h1,h2⟩:=aiu (P:=P) (hr x (by simp[Op.operands]) _ ha) (hr y (by simp[Op.operands]) _ hb) h w;exact⟨v',by simp only[execOp];exact na h1,h2⟩
  ·cases h
 case unOp op t x=>
  unfold Vm at h;split at h
  ·rename_i a ha;cases hv:OU a with
   |none=>simp[hv]at h
   |some va=>
    simp only[hv,Option.bind_some]at h;have h0:=avB hv (hr x (by simp[Op.operands]) _ ha);cases hp:yT P (Op.unary op va)with
    |none=>simp[hp]at h
    |some v'=>simp only[hp,Option.bind_some]at h;exact⟨v',by simp only[execOp];exact na (by rw[h0];exact Wx hp w),aek h⟩
  ·cases h
 case convert oN dst x=>
  unfold Vc at h;split at h
  ·rename_i k0 k k1 n h1 h2 h3;cases h;have h0:=hr x (by simp[Op.operands]) _ h3;simp only[VR]at h0;exact⟨.int k (k.wrap n),by simp only[execOp];exact na (by simp[convert,run_underlying h1 w,run_underlying h2 w,h0,Conv.intToInt]),by simp[VR]⟩
  ·rename_i s h1 h2 h3;cases h;have h0:=hr x (by simp[Op.operands]) _ h3;obtain⟨b,hb,e⟩:=h0;exact⟨.string b,by simp only[execOp];exact na (by simp[convert,run_underlying h1 w,run_underlying h2 w,hb]),b,rfl,e⟩
  ·cases h
 case makeInterface t x=>
  unfold Vi at h;split at h
  ·cases h
  ·rename_i d a r8 hu ha;cases h;refine⟨.iface t (ev x),?_,_,rfl,hr x (by simp[Op.operands]) _ ha⟩;simp only[execOp];refine na ?_;simp only[Instr.makeInterface,Sem.run_bind,run_underlying hu w,Result.andThen_ok];cases d<;>first
    |rfl
    |(exact absurd rfl (r8 _))
  ·cases h
 case makeFunc fn first kv=>
  unfold Vh at h;split at h
  ·rename_i f c hf hc;cases hy:uo fn
   ·rw[hy]at h;cases h;refine⟨.func fn (first.map ev) (kv.map ev),by simp only[execOp];exact na (by simp[Instr.makeFunc]),_,_,rfl,hy,?_,?_⟩
    ·have:=zo (hr.ot (l':=first.toList) (fun x hx=>by simp only[Op.operands,Array.toList_append,List.mem_append];exact .inl hx)) hf;simpa using this
    ·have:=zo (hr.ot (l':=kv.toList) (fun x hx=>by simp only[Op.operands,Array.toList_append,List.mem_append];exact .inr hx)) hc;simpa using this
   ·rw[hy]at h;cases h
  ·cases h
 case slice t x lo hi mx=>obtain⟨v',h1,h2⟩:=amH (P:=P) hw (hr.ot (fun y hy=>by simpa[Op.operands]using hy)) h;exact⟨v',by simp only[execOp];exact na h1,h2⟩
 case fieldAddr s x f=>
  unfold Vf at h;split at h
  ·rename_i gL id off hu hx;obtain⟨e,he,hv⟩:=hr x (by simp[Op.operands]) _ hx;unfold abg at h;split at h
   ·rename_i fd BR;split at h
    ·rename_i sz cW;cases h;refine⟨.pointer (some ⟨e.b,e.o+(off+fd.offset),none⟩),?_,e,he,rfl⟩;simp only[execOp];refine na ?_;simp only[Instr.fieldAt,Sem.run_bind,run_underlying hu w,Result.andThen_ok,BR,Instr.sureAddr,hv,Sem.run_pure,fieldPlace,jy cW w];simp[ya,Nat.add_assoc]
    ·cases h
   ·cases h
  ·rename_i gL cs hu hx;obtain⟨b,y,fV,el,fz,hv,gF,MC,hc⟩:=hr x (by simp[Op.operands]) _ hx;unfold abh at h;split at h
   ·rename_i fd BR;split at h
    ·rename_i sz cW;obtain⟨hb,h⟩:=di h;have hb:=Nat.le_of_ble_eq_true hb;cases h;refine⟨.pointer (some ⟨b,y+fd.offset,none⟩),?_,b,y+fd.offset,fV,el,fz,rfl,gF,by simp;omega,?_⟩
     ·simp only[execOp];refine na ?_;simp only[Instr.fieldAt,Sem.run_bind,run_underlying hu w,Result.andThen_ok,BR,Instr.sureAddr,hv,Sem.run_pure,fieldPlace,jy cW w];simp[ya]
     ·have h2:=hc.uX fd.offset;rw[List.drop_take,List.drop_drop]at h2;simpa using h2
    ·cases h
   ·cases h
  ·cases h
 case field t x f=>
  unfold Ve at h;split at h
  ·rename_i gL cs hu hx;obtain⟨cs',hv,hc⟩:=hr x (by simp[Op.operands]) _ hx;unfold abf at h;split at h
   ·rename_i fd BR;obtain⟨v',h1,h2⟩:=NO hc h w;exact⟨v',by simp only[execOp];exact na (by simp[Instr.field,run_underlying hu w,BR,hv,asAgg,h1]),h2⟩
   ·cases h
  ·cases h
 case indexAddr t x i=>
  unfold Iv at h;split at h
  ·rename_i n elem id off k j hu hx hi;obtain⟨e,he,hv⟩:=hr x (by simp[Op.operands]) _ hx;have eW:=hr i (by simp[Op.operands]) _ hi;simp only[VR]at eW;obtain⟨s,hs,an,rfl⟩:=Sc h;refine⟨.pointer (some ⟨e.b,e.o+(off+j*s),none⟩),?_,e,he,rfl⟩;simp only[execOp];refine na ?_;simp[Instr.indexAt,eW,asIntOf,run_underlying hu w,Instr.sureAddr,hv,an,hs,ya,Nat.add_assoc]
  ·rename_i elem id off len cap sz ex k j hu hx hi;obtain⟨e,y,c,he,hv,hy,bH,qT,jv⟩:=hr x (by simp[Op.operands]) _ hx;have eW:=hr i (by simp[Op.operands]) _ hi;simp only[VR]at eW;obtain⟨s,hs,an,rfl⟩:=Sc h;have mL:y=e.o+off:=by rcases hy with h|h<;>omega
   subst mL;refine⟨.pointer (some ⟨e.b,e.o+(off+j*s),none⟩),?_,e,he,rfl⟩;simp only[execOp];refine na ?_;simp[Instr.indexAt,eW,asIntOf,run_underlying hu w,hv,an,hs,ya,Nat.add_assoc]
  ·rename_i elem cs len sz k j hu hx hi;obtain⟨a,c,hv,bH,hd⟩:=hr x (by simp[Op.operands]) _ hx;have eW:=hr i (by simp[Op.operands]) _ hi;simp only[VR]at eW;obtain⟨hs,an,rfl⟩:=ajl h;rcases hd with hd|⟨b,y,fV,el,fz,rfl,nD,gF,cW,hc⟩
   ·omega
   ·have m1:j*sz+sz<=len*sz:=by have:=Nat.mul_le_mul_right sz (show j+1<=len by omega);rw[Nat.add_mul]at this;omega
    have ki:((cs.drop (j*sz)).take sz).length=sz:=by simp;omega
    refine⟨.pointer (some ⟨b,y+j*sz,none⟩),?_,b,y+j*sz,fV,el,fz,rfl,gF,by rw[ki];omega,?_⟩
    ·simp only[execOp];refine na ?_;simp[Instr.indexAt,eW,asIntOf,run_underlying hu w,hv,an,hs,ya]
    ·rw[ki];have h2:=(hc.uX (j*sz)).sK sz;have e3:(((fV.toList.drop y).take cs.length).drop (j*sz)).take sz=(fV.toList.drop (y+j*sz)).take sz:=by rw[List.drop_take,List.drop_drop,List.take_take];congr 1;omega
     rw[e3]at h2;exact h2
  ·rename_i elem id len sz k j hu hx hi;obtain⟨hz,h⟩:=di h;have eW:=hr i (by simp[Op.operands]) _ hi;simp only[VR]at eW;obtain⟨s,hs,an,rfl⟩:=Sc h;rcases hr x (by simp[Op.operands]) _ hx with⟨h0,_⟩|⟨e,y,c,he,hv,hy,nD,jv⟩
   ·omega
   ·have mL:y=e.o:=by rcases hy with h|h<;>omega
    subst mL;refine⟨.pointer (some ⟨e.b,e.o+(0+j*s),none⟩),?_,e,he,rfl⟩;simp only[execOp];refine na ?_;simp[Instr.indexAt,eW,asIntOf,run_underlying hu w,hv,an,hs,ya]
  ·cases h
 case index t x i=>
  unfold Iu at h;split at h
  ·rename_i n elem cs k j hu hx hi;obtain⟨cs',hv,hc⟩:=hr x (by simp[Op.operands]) _ hx;have eW:=hr i (by simp[Op.operands]) _ hi;simp only[VR]at eW;unfold Sb at h;split at h
   ·rename_i s hs;obtain⟨hb,h⟩:=di h;obtain⟨v',h1,h2⟩:=NO hc h w;have an:j<n:=by have:=Nat.le_of_ble_eq_true hb;omega
    exact⟨v',by simp only[execOp];exact na (by simp[Instr.index,eW,asIntOf,run_underlying hu w,hv,an,jy hs w,h1]),h2⟩
   ·cases h
  ·rename_i s k j hu hx hi;obtain⟨b,hv,rfl⟩:=hr x (by simp[Op.operands]) _ hx;have eW:=hr i (by simp[Op.operands]) _ hi;simp only[VR]at eW;unfold Rz at h;split at h
   ·rename_i c hc;cases h;have hj:∃u,b[j]? =some u∧u.toNat=c:=by
     simp only[gV,List.getElem?_map]at hc;cases hq:b.data.toList[j]? with
     |none=>simp[hq]at hc
     |some u=>
      simp only[hq,Option.map_some,nu]at hc;refine⟨u,?_,hc⟩;obtain⟨an,Ih⟩:=List.getElem?_eq_some_iff.1 hq;have alK:j<b.size:=by simpa using an
      rw[getElem?_pos b j alK];simp only[←Ih];rfl
    obtain⟨u,UD,hu2⟩:=hj;exact⟨.int .u8 u.toNat,by simp only[execOp];exact na (by simp[Instr.index,eW,asIntOf,run_underlying hu w,hv,UD]),by simp[VR,hu2]⟩
   ·cases h
  ·cases h
 case lookup t x k ok=>
  unfold Fq at h;split at h
  ·rename_i kt elem m key hu hx hk;obtain⟨v',h1,h2⟩:=am8 (P:=P) hw hu h (hr x (by simp[Op.operands]) _ hx) (hr k (by simp[Op.operands]) _ hk);exact⟨v',by simp only[execOp];exact na h1,h2⟩
  ·cases h
 case typeAssert x xt nT ok=>
  unfold Vl at h;split at h
  ·cases h
  ·rename_i d a r8 hu hx;obtain⟨v',h1,h2⟩:=aif (P:=P) (xT:=xt) hu (fun ms e=>r8 ms e) h (hr x (by simp[Op.operands]) _ hx) w;exact⟨v',by simp only[execOp];exact na h1,h2⟩
  ·cases h
 case extract x i=>
  unfold Vd at h;split at h
  ·rename_i vs hx;obtain⟨eT,hv,jc⟩:=hr x (by simp[Op.operands]) _ hx;obtain⟨v',h1,h2⟩:=jc.get h;have h3:eT[i]? =some v':=by simpa using h1
   exact⟨v',by simp only[execOp];exact na (by simp[Instr.extract,hv,h3]),h2⟩
  ·cases h
 case call c=>
  obtain⟨callee,args,argTypes⟩:=c;cases callee<;>simp only at h<;>try (cases h;done)
  rename_i b;unfold Vb at h;split at h
  ·rename_i l hl;have jc:=zo (hr.ot (l':=args.toList) (fun x hx=>by simp[Op.operands,Call.operands];simpa using hx)) hl;obtain⟨v',h1,h2⟩:=amG (P:=P) (T:=type) hw (vs:=args.map ev) (by simpa using jc) h;refine⟨v',?_,h2⟩;simp only[execOp,resolve,Sem.run_bind,Sem.run_pure,Result.andThen_ok,invoke];exact h1 _
  ·cases h
end
end Go.Ev
