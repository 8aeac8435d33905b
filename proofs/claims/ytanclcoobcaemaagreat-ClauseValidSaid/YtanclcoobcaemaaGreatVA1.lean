/- The evaluator: definitions, reads. -/
import GoSem.Step
import Derived.WalkKit
import Derived.Defers
import Derived.ChangeKeysEq
import Derived.Laws.CopyRow
import Derived.Laws.Rows
import Derived.MapKept
import Derived.RangeFuncOwn
set_option linter.all false
set_option linter.unusedSectionVars false
namespace Go.Ev
abbrev LI:=List Int
abbrev LN:=List Nat
abbrev LP:=List (Int×Int)
abbrev bI:= @List.length_append
abbrev dv:= @List.length_cons
abbrev fk:= @List.length_nil
abbrev aB:= @if_neg
abbrev aY:= @if_pos
abbrev cW:= @Bool.and_eq_true
abbrev eT:= @List.drop_eq_nil_of_le
abbrev dz:= @Option.some.inj
abbrev eu:= @Nat.eq_of_beq_eq_true
abbrev fF:= @List.mem_cons_of_mem
abbrev gh:= @of_decide_eq_true
abbrev iF:= @of_decide_eq_false
abbrev gi:= @List.mem_cons_self
abbrev sy:= @List.mem_cons
abbrev k_:= @Int.ofNat_eq_natCast
abbrev jn:= @List.getElem?_eq_getElem
abbrev lh:= @List.append_nil
abbrev nG:= @List.append_assoc
abbrev fB:= @Nat.le_refl
abbrev mf:= @decide_eq_true_eq
abbrev tL:= @Classical.byContradiction
abbrev jI:= @Nat.zero_add
abbrev lR:= @Nat.lt_succ_self
abbrev jB:= @List.drop_zero
abbrev iy:= @List.foldl_cons
abbrev u4:= @Int.le_refl
abbrev nH:= @List.mem_singleton
abbrev iG:= @Bool.true_and
abbrev Iy:= @List.getElem?_append_right
abbrev yc:= @List.take_append_drop
abbrev qbe:= @List.drop_left
abbrev Fs:= @List.getElem_mem
abbrev p9:= @Option.some.injEq
abbrev sA:= @List.cons_append
abbrev BX:= @List.nil_append
noncomputable section
inductive Tr(α:Type)where
 |fL
 |fP (v:Option α) (l r:Tr α)
namespace Tr
variable{α:Type}
abbrev br{β:Type}(c:Bool)(x y:β):β:= @Bool.rec (fun _=>β) y x c
def bV(t:Tr α):Nat->Option α:=
 @Tr.rec α (fun _=>Nat->Option α) (fun _=>none)
  (fun v _ _ gl gr n=> @Bool.rec (fun _=>Option α) (@Bool.rec (fun _=>Option α) (gr (Nat.sub (Nat.div n 2) 1)) (gl (Nat.div n 2)) (Nat.beq (Nat.mod n 2) 1)) v (Nat.beq n 0)) t
def wB(f:Nat):Nat->α->Tr α:=
 @Nat.rec (fun _=>Nat->α->Tr α) (fun _ a=>.fP (some a) .fL .fL)
  (fun _ sg n a=> @Bool.rec (fun _=>Tr α) (@Bool.rec (fun _=>Tr α) (.fP none .fL (sg (Nat.sub (Nat.div n 2) 1) a)) (.fP none (sg (Nat.div n 2) a) .fL) (Nat.beq (Nat.mod n 2) 1)) (.fP (some a) .fL .fL) (Nat.beq n 0)) f
def iz(t:Tr α):Nat->α->Tr α:=
 @Tr.rec α (fun _=>Nat->α->Tr α) (fun n a=>wB n n a)
  (fun v l r sl sr n a=> @Bool.rec (fun _=>Tr α) (@Bool.rec (fun _=>Tr α) (.fP v l (sr (Nat.sub (Nat.div n 2) 1) a)) (.fP v (sl (Nat.div n 2) a) r) (Nat.beq (Nat.mod n 2) 1)) (.fP (some a) l r) (Nat.beq n 0)) t
def yA(t:Tr α):Nat->Tr α:=
 @Tr.rec α (fun _=>Nat->Tr α) (fun _=>.fL)
  (fun v l r el er n=> @Bool.rec (fun _=>Tr α) (@Bool.rec (fun _=>Tr α) (.fP v l (er (Nat.sub (Nat.div n 2) 1))) (.fP v (el (Nat.div n 2)) r) (Nat.beq (Nat.mod n 2) 1)) (.fP none l r) (Nat.beq n 0)) t
def zG:List α->Nat->Tr α->Tr α
 |[],_,t=>t
 |a::l,n,t=>zG l (n+1) (t.iz n a)
end Tr
inductive AV where
 |ai (b:Bool)
 |ck (k:IntKind) (n:Int)
 |aa (s:LN)
 |ab (id off:Nat)
 |om
 |bE (id off len cap sz:Nat) (ex:Bool)
 |bB
 |aH (id:Nat)
 |mF
 |bR (fn:Fn) (first j9:List AV)
 |gd (l:Nat)
 |pC
 |eK (t:TypeId) (v:AV)
 |ly
 |au (cs:List AV)
 |aJ (vs:List AV)
 |tc (g:Nat)
 |zJ (v:Value)
 |tH (k:IntKind) (n:Int) (ne:LI) (lo hi:Option Int)
 |su (s:LN) (ne:List LN)
 |ax (cs:List AV) (len sz:Nat)
 |oU (cs:List AV)
 |ad (id len sz:Nat)
 deriving Inhabited
def fo(b:ByteArray):LN:=b.data.toList.map UInt8.toNat
def tB:Fn->Bool
 |.yield _=>true
 |_=>false
def Ko:Value->Option AV
 |.bool b=>some (.ai b)
 |.int k n=>some (.ck k n)
 |.string s=>some (.aa (fo s))
 |.pointer none=>some .om
 |.slice none 0 0=>some .bB
 |.map none=>some .mF
 |.func fn f c=>bif tB fn|| !f.isEmpty|| !c.isEmpty then none else some (.bR fn [] [])
 |.nilFunc=>some .pC
 |.nilIface=>some .ly
 |_=>none
abbrev LV:=List AV
def Dk:List Value->Option LV
 |[]=>some []
 |v::l=>match Ko v with
  |none=>none
  |some a=>match Dk l with
   |none=>none
   |some as=>some (a::as)
def CG:Value->Option AV
 |.agg cs=>(Dk cs.toList).map .au
 |.tuple cs=>bif cs.isEmpty then some (.aJ [])else none
 |v=>Ko v
def AV.dR:AV->Bool
 |.au _|.aJ _=>false
 |_=>true
def AV.ek:AV->LV
 |.au cs=>cs
 |v=>[v]
def AV.lz:AV:=.aJ []
mutual
def iD:AV->Bool
 |.ab .. |.bE .. |.aH _|.gd _|.ad .. =>false
 |.bR _ f c=>wv f&&wv c
 |.eK _ v=>iD v
 |.au cs=>wv cs
 |.aJ cs=>wv cs
 |_=>true
def wv:LV->Bool
 |[]=>true
 |a::l=>iD a&&wv l
end
def dh:LN->LN->Bool
 |[],[]=>true
 |a::l,b::m=>bif Nat.beq a b then dh l m else false
 |_,_=>false
def wg:LN->LN->Bool
 |_,[]=>false
 |[],_::_=>true
 |a::x,b::y=>bif Nat.ble (a+1) b then true else bif Nat.beq a b then wg x y else false
inductive ir where
 |wK (fn:Fn) (j9 args:LV)
 |ng (r:Nat)
inductive aZ where
 |aw (vs:LV) (elem:TypeId)
 |bC (es:List (AV×AV×Nat)) (cT:Nat) (p:Bool)
 |qN (s:LN) (pos:Nat)
 |rY (m:Option Nat) (nK:Nat) (im:LN) (yo:Nat)
 |gb (state:LoopState) (pending:Option Code) (fn:Nat) (tmps:Tr AV) (nt:Nat) (params:List Tmp) (assign body:Code) (defers:Nat)
 |ot (axJ:Option (List ir))
 |b9 (vs:LV)
 |Qx (es:List (AV×AV))
 |u7 (z:LV) (n:Nat) (elem:TypeId)
 |eh (vs:LV) (elem:TypeId)
 |aF (vs:LV) (elem:TypeId)
structure AH where
 h:Tr aZ
 bL:Nat
def AH.iq:AH->aZ->AH
 |⟨h,n⟩,o=>⟨h.iz n o,Nat.succ n⟩
def AH.dL:AH->Nat->aZ->AH
 |⟨h,n⟩,id,o=>⟨h.iz id o,n⟩
def AH.bu:AH->Nat->Option aZ
 |⟨h,_⟩,id=>h.bV id
def iU(z:LV)(n:Nat):LV:=
 match n with
 |0=>[]
 |n+1=>z++iU z n
def AH.nP(H:AH)(id:Nat):Option LV:=
 match H.bu id with
 |some (.aw vs _)=>some vs
 |some (.u7 z n _)=>some (iU z n)
 |some (.eh vs _)=>some vs
 |some (.aF vs _)=>some vs
 |_=>none
def ia(tmps:Tr AV):Operand->Option AV
 |.tmp t=>tmps.bV t
 |.const v=>CG v
 |.global g=>some (.tc g)
 |.func f=>some (.bR (.func f) [] [])
def sZ(ρ:Operand->Option AV):List Operand->Option LV
 |[]=>some []
 |x::l=>match ρ x with
  |none=>none
  |some a=>match sZ ρ l with
   |none=>none
   |some as=>some (a::as)
def Db(ρ:Operand->Option AV):List (Nat×Operand)->Option (List (Nat×AV))
 |[]=>some []
 |(i,x)::l=>match ρ x with
  |none=>none
  |some a=>match Db ρ l with
   |none=>none
   |some as=>some ((i,a)::as)
section types
variable(P:Program)
def zq(t:TypeId):Option Bool:=
 match P.underlying t with
 |some (.struct _)|some (.array _ _)=>some true
 |some _=>some false
 |none=>none
def dw(t:TypeId):Option Nat:=(P.info? t).map (·.size)
def uu(t:TypeId):Option Nat:=(P.info? t).map (·.bytes)
def ku(t:TypeId):Option AV:=((P.info? t).bind (·.zero)).bind CG
def aez:TypeDesc->Bool
 |.int _|.string|.bool=>true
 |_=>false
def aeA(t:TypeId):Bool:=
 match P.underlying t with
 |some (.struct gn)=>gn.toList.all fun f=>(P.underlying f.type).any aez
 |some d=>aez d
 |none=>false
def Va(gn:Array Field):Option (List (Nat×Nat)):=
 gn.toList.mapM fun f=>(dw P f.type).map fun s=>(f.offset,s)
end types
def yb{α:Type}(P:Program):Sem α->Option α
 |.pure a=>some a
 |.program k=>yb P (k P)
 |_=>none
def Oh:AV->Option Value
 |.ai b=>some (.bool b)
 |.ck k n=>some (.int k n)
 |_=>none
def M0:Value->Option AV
 |.bool b=>some (.ai b)
 |.int k n=>some (.ck k n)
 |_=>none
def oN(l:LV)(off n:Nat):Option LV:=
 let r:=(l.drop off).take n
 bif Nat.beq r.length n then some r else none
def abB(n:Nat):LV->Bool:=
 @Nat.rec (fun _=>LV->Bool) (fun _=>true) (fun _ r l=> @List.rec AV (fun _=>(LV->Bool)->Bool) (fun _=>false) (fun _ t _ r=>r t) l r) n
def rK(l:LV)(off:Nat)(cs:LV):Option LV:=
 bif abB (off+cs.length) l then some (l.take off++(cs++l.drop (off+cs.length)))else none
def vM(Fl:Nat->Option (Nat×Nat))(cells:LV):List (Nat×AV)->Option LV
 |[]=>some cells
 |(i,v)::rest=>
  match Fl i with
  |none=>none
  |some (off,size)=>
   bif Nat.beq v.ek.length size then
    match rK cells off v.ek with
    |none=>none
    |some aiW=>vM Fl aiW rest
   else none
def bQ(P:Program)(t:TypeId)(cs:LV)(off:Nat):Option AV:=
 match zq P t with
 |some true=>match dw P t with
  |some s=>(oN cs off s).map .au
  |none=>none
 |some false=>cs[off]?
 |none=>none
def EJ(lo:Option Int)(n:Int):Bool:=
 match lo with
 |some l=>decide (n<l)
 |none=>false
def EI(hi:Option Int)(n:Int):Bool:=
 match hi with
 |some h=>decide (h<n)
 |none=>false
def Ee(ne:List LN)(s:LN):Bool:=ne.any (dh s)
def ie(P:Program):Nat->TypeId->AV->AV->Option Bool
 |0,_,_,_=>none
 |d+1,t,x,y=>
  match P.underlying t,x,y with
  |some .bool,.ai a,.ai b=>some (a==b)
  |some (.int _),.ck k a,.ck k' b=>if k=k' then some (a==b)else none
  |some .string,.aa a,.aa b=>some (dh a b)
  |some .string,.su _ ne,.aa b=>bif Ee ne b then some false else none
  |some .string,.aa b,.su _ ne=>bif Ee ne b then some false else none
  |some (.int _),.tH k _ ne lo hi,.ck k' b=>if k=k' then bif EJ lo b||EI hi b||ne.contains b then some false else none else none
  |some (.int _),.ck k' b,.tH k _ ne lo hi=>if k=k' then bif EJ lo b||EI hi b||ne.contains b then some false else none else none
  |some (.pointer _),.om,.om=>some true
  |some (.pointer _),.om,.ab _ _=>some false
  |some (.pointer _),.ab _ _,.om=>some false
  |some (.slice _),.bB,.bB=>some true
  |some (.slice _),.bB,.bE .. =>some false
  |some (.slice _),.bE ..,.bB=>some false
  |some (.map _ _),.mF,.mF=>some true
  |some (.map _ _),.mF,.aH _=>some false
  |some (.map _ _),.aH _,.mF=>some false
  |some (.func _ _ _),.pC,.pC=>some true
  |some (.func _ _ _),.pC,.bR _ _ _=>some false
  |some (.func _ _ _),.bR _ _ _,.pC=>some false
  |some (.interface _),.ly,.ly=>some true
  |some (.interface _),.ly,.eK _ _=>some false
  |some (.interface _),.eK _ _,.ly=>some false
  |some (.interface _),.eK tx vx,.eK ty vy=>
   bif Nat.beq tx ty then
    match P.info? tx with
    |some i=>bif i.comparable then ie P d tx vx vy else none
    |none=>none
   else some false
  |some (.struct gn),.au xs,.au ys=>
   bif P.stoodInHeld t then none else At P d gn.toList xs ys (ie P d)
  |_,_,_=>none
where
 At (P:Program) (d:Nat):List Field->LV->LV->(TypeId->AV->AV->Option Bool)->Option Bool
 |[],_,_,_=>some true
 |f::fs,xs,ys,eq=>
  if f.name= "_" then none else
  match bQ P f.type xs f.offset,bQ P f.type ys f.offset with
  |some a,some b=>match eq f.type a b with
   |some true=>At P d fs xs ys eq
   |some false=>some false
   |none=>none
  |_,_=>none
def rA:Operand->Bool
 |.const _=>true
 |_=>false
def QS(op:BinOp)(x y:LN):Option AV:=
 match op with
 |.add=>bif Nat.ble (x.length+y.length) 1000000 then some (.aa (x++y))else none
 |.eql=>some (.ai (dh x y))
 |.neq=>some (.ai (!dh x y))
 |.lss=>some (.ai (wg x y))
 |.leq=>some (.ai (wg x y||dh x y))
 |.gtr=>some (.ai (!(wg x y||dh x y)))
 |.geq=>some (.ai (!wg x y))
 |_=>none
def mW:AV->Nat
 |.ai _=>0
 |.ab .. |.om=>1
 |.bE .. |.bB=>2
 |.aH _|.mF=>3
 |.bR .. |.pC=>4
 |.eK .. |.ly=>5
 |.au _=>6
 |_=>9
def DT(P:Program)(t:TypeId)(x y:Operand):AV->AV->Bool
 |.ly,.ly=>rA x||rA y
 |.au _,.au _=> !P.eqGuardType P.depth t
 |_,_=>true
def DI(P:Program)(op:BinOp)(t:TypeId)(a b:AV):Option AV:=
 match op with
 |.eql=>(ie P 100 t a b).map .ai
 |.neq=>(ie P 100 t a b).map fun r=>.ai (!r)
 |_=>none
def Fa:BinOp->Option AV
 |.eql=>some (.ai false)
 |.neq=>some (.ai true)
 |_=>none
def NM(op:BinOp)(up:Bool):Option AV:=
 match op with
 |.eql=>some (.ai false)
 |.neq=>some (.ai true)
 |.lss=>some (.ai (!up))
 |.leq=>some (.ai (!up))
 |.gtr=>some (.ai up)
 |.geq=>some (.ai up)
 |_=>none
def aeg(op:BinOp)(ne:LI)(lo hi:Option Int)(n:Int):Option AV:=
 bif EJ lo n then NM op true else bif EI hi n then NM op false else bif ne.contains n then Fa op else none
def Kd(P:Program)(op:BinOp)(t:TypeId)(x y:Operand)(a b:AV):Option AV:=
 match a,b with
 |.ck k m,.ck k' n=>(yb P (Go.binOp op t (.int k m) (.int k' n))).bind M0
 |.aa l,.aa m=>QS op l m
 |.tH k _ ne lo hi,.ck k' n=>if k=k' then aeg op ne lo hi n else none
 |.su _ ne,.aa l=>bif Ee ne l then Fa op else none
 |.aa l,.su _ ne=>bif Ee ne l then Fa op else none
 |a,b=>bif Nat.beq (mW a) (mW b)&& !Nat.beq (mW a) 9&&DT P t x y a b then DI P op t a b else none
def mY:AV->Option Nat
 |.ck _ (.ofNat n)=>some n
 |_=>none
def q_(n:Nat):AV:=.ck .i64 (.ofNat n)
def kY(eq:AV->AV->Option Bool)(k:AV):List (AV×AV×Nat)->Nat->Option (Option (Nat×AV×Nat))
 |[],_=>some none
 |(x,v,b)::es,i=>match eq k x with
  |some true=>some (some (i,v,b))
  |some false=>kY eq k es (i+1)
  |none=>none
def Iw:TypeDesc->AV->Bool
 |.int _,.ck _ _|.string,.aa _|.bool,.ai _=>true
 |.int _,.tH .. |.string,.su .. =>true
 |_,_=>false
def Vb(P:Program)(cs:LV)(f:Field):Bool:=
 match P.underlying f.type,cs[f.offset]? with
 |some d,some a=>Iw d a
 |_,_=>false
def qK(P:Program)(t:TypeId)(k:AV):Bool:=
 match P.underlying t,k with
 |some (.struct gn),.au cs=>gn.toList.all (Vb P cs)
 |some d,a=>Iw d a
 |none,_=>false
def rB(P:Program)(H:AH)(t:TypeId)(id off:Nat):Option AV:=
 match H.nP id with
 |none=>none
 |some vs=>bQ P t vs off
def BD(H:AH):AV->Option Nat
 |.aa s=>some s.length
 |.bE _ _ len _ _ _=>some len
 |.ax _ len _=>some len
 |.ad _ len _=>some len
 |.bB=>some 0
 |.mF=>some 0
 |.aH id=>match H.bu id with
  |some (.bC es _ _)=>some es.length
  |_=>none
 |_=>none
def NP(s:LN)(lo hi:Option AV):Option AV:=
 match(match hi with|some v=>mY v|none=>some s.length),(match lo with|some v=>mY v|none=>some 0)with
 |some h,some l=>bif Nat.ble h s.length&&Nat.ble l h then some (.aa ((s.take h).drop l))else none
 |_,_=>none
def GC(ex:Bool)(lo:Option AV)(cap l:Nat):Nat:= @Bool.rec (fun _=>Nat) (match lo with|none=>cap|some _=>0) (cap-l) ex
def Ci(id off len cap sz:Nat)(ex:Bool)(lo hi mx:Option AV):Option AV:=
 match mx with
 |none=>
  match(match hi with|some v=>mY v|none=>some len),(match lo with|some v=>mY v|none=>some 0)with
  |some h,some l=>
   bif Nat.ble h (bif ex then cap else len)&&Nat.ble l h then some (.bE id (off+l*sz) (h-l) (GC ex lo cap l) sz ex)else none
  |_,_=>none
 |some m=>
  match mY m,(match hi with|some v=>mY v|none=>none),(match lo with|some v=>mY v|none=>some 0)with
  |some m,some h,some l=>
   bif Nat.ble m (bif ex then cap else len)&&Nat.ble h m&&Nat.ble l h then some (.bE id (off+l*sz) (h-l) (m-l) sz true)else none
  |_,_,_=>none
def IM(cs:LV)(len sz:Nat)(lo hi mx:Option AV):Option AV:=
 match mx with
 |none=>
  match(match hi with|some v=>mY v|none=>some len),(match lo with|some v=>mY v|none=>some 0)with
  |some h,some l=>bif Nat.ble h len&&Nat.ble l h then some (.ax ((cs.drop (l*sz)).take ((h-l)*sz)) (h-l) sz)else none
  |_,_=>none
 |some _=>none
def p8(ρ:Operand->Option AV):Option Operand->Option (Option AV)
 |none=>some none
 |some x=>(ρ x).map some
def DN(mx:Bool):AV->LV->Option AV
 |a,[]=>some a
 |.ck k x,.ck _ y::l=>DN mx (.ck k (bif mx then(if y>x then y else x)else(if y<x then y else x))) l
 |_,_=>none
section anj
variable(P:Program)(ρ:Operand->Option AV)(H:AH)
def As(g:Nat->AV)(cs:LV)(elem:TypeId):Option (aZ×(Nat->AV)):=
 bif cs.all AV.dR then some (.aw cs elem,g)else none
def J'(id:Nat):AV:=.ab id 0
def AD(len cap sz id:Nat):AV:=.bE id 0 len cap sz true
def Mm(c a b:Operand):Option AV:=
 match ρ c with
 |some (.ai t)=>bif t then ρ a else ρ b
 |_=>none
def T7(e:TypeId):Option (aZ×(Nat->AV)):=
 match ku P e with
 |some z=>As J' z.ek e
 |none=>none
def T8(e:TypeId)(x:Operand):Option (aZ×(Nat->AV)):=
 match ρ x with
 |some v=>As J' v.ek e
 |none=>none
def QF(z:AV)(gn:Array Field)(ps:List (Nat×AV)):Option AV:=
 match Va P gn with
 |some pl=>(vM (pl[·]?) z.ek ps).map .au
 |none=>none
def QE(z:AV)(elem:TypeId)(ps:List (Nat×AV)):Option AV:=
 match dw P elem with
 |some s=>(vM (fun i=>some (i*s,s)) z.ek ps).map .au
 |none=>none
def Mj(t:TypeId)(kj:Array (Nat×Operand)):Option AV:=
 match ku P t,P.underlying t,Db ρ kj.toList with
 |some z,some (.struct gn),some ps=>QF P z gn ps
 |some z,some (.array _ elem),some ps=>QE P z elem ps
 |_,_,_=>none
def QG(elem:TypeId)(len:Nat)(ps:List (Nat×AV))(s:Nat)(z:AV):Option (aZ×(Nat->AV)):=
 bif Nat.ble (len*s) 65536&&Nat.beq z.ek.length s then
  match vM (fun i=>some (i*s,s)) (iU z.ek len) ps with
  |some cs=>As (AD len len s) cs elem
  |none=>none
 else none
def T9(t:TypeId)(len:Nat)(kj:Array (Nat×Operand)):Option (aZ×(Nat->AV)):=
 match P.underlying t,Db ρ kj.toList with
 |some (.slice elem),some ps=>match dw P elem,ku P elem with
  |some s,some z=>QG elem len ps s z
  |_,_=>none
 |_,_=>none
def H_(t:TypeId)(a:Operand):Option AV:=
 match ρ a with
 |some (.ab id off)=>rB P H t id off
 |some (.oU cs)=>bQ P t cs 0
 |_=>none
def Uh(x:Operand):Option AV:=
 match ρ x with
 |some (.ab id off)=>some (.ab id off)
 |some (.oU cs)=>some (.oU cs)
 |some (.bR (.func f) l c)=>some (.bR (.func f) l c)
 |some (.eK t v)=>some (.eK t v)
 |_=>none
def Mi(op:BinOp)(t:TypeId)(x y:Operand):Option AV:=
 match ρ x,ρ y with
 |some a,some b=>Kd P op t x y a b
 |_,_=>none
def Uj(op:UnOp)(x:Operand):Option AV:=
 match ρ x with
 |some a=>(Oh a).bind fun v=>(yb P (Op.unary op v)).bind M0
 |none=>none
def T'(lv dst:TypeId)(x:Operand):Option AV:=
 match P.underlying lv,P.underlying dst,ρ x with
 |some (.int _),some (.int k),some (.ck _ n)=>some (.ck k (k.wrap n))
 |some .string,some .string,some (.aa s)=>some (.aa s)
 |_,_,_=>none
def Uf(t:TypeId)(x:Operand):Option AV:=
 match P.underlying t,ρ x with
 |some (.interface _),_=>none
 |some _,some v=>some (.eK t v)
 |_,_=>none
def Ue(fn:Fn)(first j9:Array Operand):Option AV:=
 match sZ ρ first.toList,sZ ρ j9.toList with
 |some f,some c=>bif tB fn then none else some (.bR fn f c)
 |_,_=>none
def Ug(t:TypeId)(r:Option Operand):Option (aZ×(Nat->AV)):=
 match P.underlying t,p8 ρ r with
 |some (.map k e),some none|some (.map k e),some (some (.ck _ _))=>some (.bC [] 0 (aeA P k&&aeA P e),.aH)
 |_,_=>none
def Cc(z:LV)(c:Nat)(elem:TypeId):aZ:=bif Nat.ble c 64 then .aw (iU z c) elem else .u7 z c elem
def VO(z:LV)(c:Nat)(elem:TypeId):aZ:=.eh (iU z c) elem
def MH(elem:TypeId)(l c:Nat)(s:Nat)(z:AV)(gK:Nat):Option (aZ×(Nat->AV)):=
 bif Nat.ble l c&&Nat.ble c 65536&&Nat.ble gK 65536&&Nat.ble s 65536&&Nat.beq z.ek.length s&&z.ek.all AV.dR&&z.ek.all iD then
  some (VO z.ek c elem,AD l c s)
 else none
def Uu(elem:TypeId)(l c:Nat)(s:Nat)(z:AV)(gK:Nat):Option (aZ×(Nat->AV)):=
 bif Nat.ble l c&&Nat.ble c 65536&&Nat.ble gK 65536&&Nat.ble s 65536&&Nat.beq z.ek.length s&&z.ek.all AV.dR then
  some (Cc z.ek c elem,AD l c s)
 else none
def Ml(t:TypeId)(len cap:Operand):Option (aZ×(Nat->AV)):=
 match P.underlying t,ρ len,ρ cap with
 |some (.slice elem),some (.ck .i64 (.ofNat l)),some (.ck .i64 (.ofNat c))=>match dw P elem,ku P elem,uu P elem with
  |some s,some z,some gK=>bif rA cap then Uu elem l c s z gK else MH elem l c s z gK
  |_,_,_=>none
 |_,_,_=>none
def Jm:Option AV->Bool
 |none=>true
 |some v=>(mY v).any (Nat.beq 0)
def xR(t:TypeId)(x:Operand)(lo hi mx:Option Operand):Option AV:=
 match p8 ρ lo,p8 ρ hi,p8 ρ mx with
 |some l,some h,some m=>match P.underlying t,ρ x with
  |some .string,some (.aa s)=>bif m.isNone then NP s l h else none
  |some (.slice elem),some (.bE id off len cap sz ex)=>bif (dw P elem).any (Nat.beq sz)then Ci id off len cap sz ex l h m else none
  |some (.slice elem),some (.ax cs len sz)=>bif (dw P elem).any (Nat.beq sz)then IM cs len sz l h m else none
  |some (.slice elem),some (.ad id len sz)=>bif (dw P elem).any (Nat.beq sz)&&Nat.ble 1 len&&m.isNone then Ci id 0 len 1 sz false l h none else none
  |some (.slice elem),some .bB=>bif Jm l&&Jm h&&Jm m&&(m.isNone||h.isSome)&&(dw P elem).isSome then some .bB else none
  |some (.array n elem),some (.ab id off)=>match dw P elem,H.nP id with
   |some sz,some vs=>bif Nat.ble (off+n*sz) vs.length then Ci id off n n sz true l h m else none
   |_,_=>none
  |_,_=>none
 |_,_,_=>none
def aaN(id off:Nat)(gn:Array Field)(f:Nat):Option AV:=
 match gn[f]? with
 |some fd=>match dw P fd.type with
  |some (_+1)=>some (.ab id (off+fd.offset))
  |_=>none
 |none=>none
def aaO(cs:LV)(gn:Array Field)(f:Nat):Option AV:=
 match gn[f]? with
 |some fd=>match dw P fd.type with
  |some (_+1)=>bif Nat.ble fd.offset cs.length then some (.oU (cs.drop fd.offset))else none
  |_=>none
 |none=>none
def Uc(s:TypeId)(x:Operand)(f:Nat):Option AV:=
 match P.underlying s,ρ x with
 |some (.struct gn),some (.ab id off)=>aaN P id off gn f
 |some (.struct gn),some (.oU cs)=>aaO P cs gn f
 |_,_=>none
def aaM(cs:LV)(gn:Array Field)(f:Nat):Option AV:=
 match gn[f]? with
 |some fd=>bQ P fd.type cs fd.offset
 |none=>none
def Ub(t:TypeId)(x:Operand)(f:Nat):Option AV:=
 match P.underlying t,ρ x with
 |some (.struct gn),some (.au cs)=>aaM P cs gn f
 |_,_=>none
def yX(id off n:Nat)(elem:TypeId)(i:Nat):Option AV:=
 match dw P elem with
 |some s=>bif Nat.ble (i+1) n then some (.ab id (off+i*s))else none
 |none=>none
def Kx(cs:LV)(len sz:Nat)(elem:TypeId)(i:Nat):Option AV:=
 match dw P elem with
 |some s=>bif Nat.beq s sz&&Nat.ble (i+1) len then some (.oU ((cs.drop (i*s)).take s))else none
 |none=>none
def H9(t:TypeId)(x i:Operand):Option AV:=
 match P.underlying t,ρ x,ρ i with
 |some (.array n elem),some (.ab id off),some (.ck _ (.ofNat i))=>yX P id off n elem i
 |some (.slice elem),some (.bE id off len _ _ _),some (.ck _ (.ofNat i))=>yX P id off len elem i
 |some (.slice elem),some (.ax cs len sz),some (.ck _ (.ofNat i))=>Kx P cs len sz elem i
 |some (.slice elem),some (.ad id len sz),some (.ck _ (.ofNat i))=>bif (dw P elem).any (Nat.beq sz)then yX P id 0 len elem i else none
 |_,_,_=>none
def Rd(cs:LV)(n:Nat)(elem:TypeId)(i:Nat):Option AV:=
 match dw P elem with
 |some s=>bif Nat.ble (i+1) n then bQ P elem cs (i*s)else none
 |none=>none
def QL(s:LN)(i:Nat):Option AV:=
 match s[i]? with
 |some b=>some (.ck .u8 (.ofNat b))
 |none=>none
def H8(t:TypeId)(x i:Operand):Option AV:=
 match P.underlying t,ρ x,ρ i with
 |some (.array n elem),some (.au cs),some (.ck _ (.ofNat i))=>Rd P cs n elem i
 |some .string,some (.aa s),some (.ck _ (.ofNat i))=>QL s i
 |_,_,_=>none
def vK(m:AV):Option (List (AV×AV×Nat)):=
 match m with
 |.mF=>some []
 |.aH id=>match H.bu id with
  |some (.bC es _ _)=>some es
  |_=>none
 |_=>none
def p7(ok:Bool)(v:AV)(b:Bool):AV:=bif ok then .aJ [v,.ai b]else v
def Dh(m:AV):Option (List (AV×AV)):=
 match m with
 |.aH id=>match H.bu id with
  |some (.Qx es)=>some es
  |_=>none
 |_=>none
def vN(eq:AV->AV->Option Bool)(k:AV):List (AV×AV)->Option (Option AV)
 |[]=>some none
 |(x,v)::es=>match eq k x,vN eq k es with
  |some true,some none=>some (some v)
  |some false,some r=>some r
  |_,_=>none
def ada(kt elem:TypeId)(es:List (AV×AV))(key:AV)(ok:Bool):Option AV:=
 match vN (ie P 100 kt) key es with
 |some (some v)=>some (p7 ok v true)
 |some none=>(ku P elem).map (p7 ok · false)
 |none=>none
def EU(kt elem:TypeId)(m key:AV)(ok:Bool):Option AV:=
 bif qK P kt key then
  match vK H m with
  |some es=>match kY (ie P 100 kt) key es 0 with
   |some (some (_,v,_))=>some (p7 ok v true)
   |some none=>(ku P elem).map (p7 ok · false)
   |none=>none
  |none=>match Dh H m with
   |some es=>ada P kt elem es key ok
   |none=>none
 else none
def ET(t:TypeId)(x k:Operand)(ok:Bool):Option AV:=
 match P.underlying t,ρ x,ρ k with
 |some (.map kt elem),some m,some key=>EU P H kt elem m key ok
 |_,_,_=>none
def Qr(np:TypeId)(ok:Bool)(x:AV):Option AV:=
 match x with
 |.eK t v=>
  bif Nat.beq t np then some (p7 ok v true)
  else bif ok then(ku P np).map (p7 true · false)else none
 |.ly=>bif ok then(ku P np).map (p7 true · false)else none
 |_=>none
def Ui(x:Operand)(np:TypeId)(ok:Bool):Option AV:=
 match P.underlying np,ρ x with
 |some (.interface _),_=>none
 |some _,some v=>Qr P np ok v
 |_,_=>none
def Ua(x:Operand)(i:Nat):Option AV:=
 match ρ x with
 |some (.aJ vs)=>vs[i]?
 |_=>none
def xS:TypeDesc->AV->Bool
 |.string,.aa _|.slice _,.bE .. |.slice _,.ax .. |.slice _,.ad .. |.slice _,.bB|.map _ _,.aH _|.map _ _,.mF=>true
 |_,_=>false
def Ud(argTypes:Array TypeId)(x:AV):Option AV:=
 match argTypes[0]?.bind P.underlying with
 |some (.array n _)=>some (q_ n)
 |some d=>bif xS d x then(BD H x).map q_ else none
 |none=>none
def acR(argTypes:Array TypeId)(x:AV):Option AV:=
 match argTypes[0]?.bind P.underlying,x with
 |some (.slice _),.bE _ _ _ c _ true=>some (q_ c)
 |some (.slice _),.bB=>some (q_ 0)
 |_,_=>none
def Mk(b:Builtin)(args:LV)(argTypes:Array TypeId):Option AV:=
 match b,args with
 |.len,[x]=>Ud P H argTypes x
 |.cap,[x]=>acR P argTypes x
 |.max,a::l=>DN true a l
 |.min,a::l=>DN false a l
 |_,_=>none
def T_(b:Builtin)(args:Array Operand)(argTypes:Array TypeId):Option AV:=
 match sZ ρ args.toList with
 |some l=>Mk P H b l argTypes
 |none=>none
def fK:Op->Option AV
 |.move x=>ρ x
 |.assign x=>ρ x
 |.pick c a b=>Mm ρ c a b
 |.build t kj=>Mj P ρ t kj
 |.load t a=>H_ P ρ H t a
 |.nilCheck x=>Uh ρ x
 |.binOp op t x y _=>Mi P ρ op t x y
 |.unOp op _ x=>Uj P ρ op x
 |.convert lv dst x=>T' P ρ lv dst x
 |.makeInterface t x=>Uf P ρ t x
 |.makeFunc fn first j9=>Ue ρ fn first j9
 |.slice t x lo hi mx=>xR P ρ H t x lo hi mx
 |.fieldAddr s x f=>Uc P ρ s x f
 |.field t x f=>Ub P ρ t x f
 |.indexAddr t x i=>H9 P ρ t x i
 |.index t x i=>H8 P ρ t x i
 |.lookup t x k ok=>ET P ρ H t x k ok
 |.typeAssert x _ np ok=>Ui P ρ x np ok
 |.extract x i=>Ua ρ x i
 |.call {callee:=.builtin b,args,argTypes}=>T_ P ρ H b args argTypes
 |_=>none
def nD:Op->Option (aZ×(Nat->AV))
 |.alloc e=>T7 P e
 |.box e x=>T8 ρ e x
 |.buildSlice t len kj=>T9 P ρ t len kj
 |.makeMap t r=>Ug P ρ t r
 |.makeSlice t len cap=>Ml P ρ t len cap
 |_=>none
end anj
def nA:Op->Bool
 |.move _|.assign _|.pick .. |.build .. |.load .. |.nilCheck _|.binOp .. |.unOp .. |.convert ..
 |.makeInterface .. |.makeFunc .. |.slice .. |.fieldAddr .. |.field .. |.indexAddr .. |.index .. |.lookup ..
 |.typeAssert .. |.extract .. =>true
 |.call {callee:=.builtin b,..}=>match b with
  |.len|.cap|.min|.max=>true
  |_=>false
 |_=>false
def pW:Op->Bool
 |.alloc _|.box .. |.buildSlice .. |.makeMap .. |.makeSlice .. =>true
 |_=>false
def oJ(o:Op):Bool:=nA o||pW o
inductive fC where
 |hZ (v:AV) (H:AH)
 |qi (f:FuncId) (args:LV)
 |ue (l:Nat) (args:LV)
 |wM (d:ir)
 |wN (v:AV)
 |wP
def FE(P:Program)(H:AH)(t:TypeId)(id off:Nat)(v:AV):Option AH:=
 match H.bu id,dw P t with
 |some (.aw vs e),some s=>
  bif Nat.beq v.ek.length s&&v.ek.all AV.dR then
   (rK vs off v.ek).map fun eV=>H.dL id (.aw eV e)
  else none
 |some (.u7 z n e),some s=>
  bif Nat.beq v.ek.length s&&v.ek.all AV.dR then
   (rK (iU z n) off v.ek).map fun eV=>H.dL id (.aw eV e)
  else none
 |some (.eh vs e),some s=>
  bif Nat.beq v.ek.length s&&v.ek.all AV.dR&&v.ek.all iD then
   (rK vs off v.ek).map fun eV=>H.dL id (.eh eV e)
  else none
 |some (.aF vs e),some s=>
  bif Nat.beq v.ek.length s&&v.ek.all AV.dR&&v.ek.all iD then
   (rK vs off v.ek).map fun eV=>H.dL id (.aF eV e)
  else none
 |_,_=>none
def nJ(es:List (AV×AV×Nat))(i:Nat)(f:AV×AV×Nat->AV×AV×Nat):List (AV×AV×Nat):=
 match es,i with
 |[],_=>[]
 |e::es,0=>f e::es
 |e::es,i+1=>e::nJ es i f
def uD(es:List (AV×AV×Nat))(i:Nat):List (AV×AV×Nat):=
 match es,i with
 |[],_=>[]
 |_::es,0=>es
 |e::es,i+1=>e::uD es i
def DG:AV->AV->Bool
 |.ck j a,.ck k b=>decide (j=k)&&decide (a=b)
 |.aa a,.aa b=>dh a b
 |.ai a,.ai b=>a==b
 |_,_=>false
def DH:LV->LV->Bool
 |[],[]=>true
 |a::l,b::m=>DG a b&&DH l m
 |_,_=>false
def GU:AV->AV->Bool
 |.au a,.au b=>DH a b
 |a,b=>DG a b
def tM(es:List (AV×AV×Nat))(i:Nat)(k:AV):Bool:=
 match es[i]? with
 |some (x,_,_)=>GU x k
 |none=>false
def vO(p:Bool)(k v:AV):Bool:=bif p then iD k&&iD v else true
def EZ(P:Program)(H:AH)(t:TypeId)(m k v:AV):Option AH:=
 match P.underlying t,m with
 |some (.map kt _),.aH id=>match H.bu id with
  |some (.bC es cT p)=>
   bif qK P kt k&&vO p k v then
    match kY (ie P 100 kt) k es 0 with
    |some (some (i,_,_))=>bif tM es i k then some (H.dL id (.bC (nJ es i fun e=>(k,v,e.2.2)) cT p))else none
    |some none=>some (H.dL id (.bC (es++[(k,v,cT)]) (cT+1) p))
    |none=>none
   else none
  |_=>none
 |_,_=>none
def ta(H:AH)(sz:Nat):AV->Option (Nat×LV)
 |.bB=>some (0,[])
 |.bE id off len _ s _=>bif Nat.beq s sz then
   match H.nP id with
   |some vs=>(oN vs off (len*sz)).map (len,·)
   |none=>none
  else none
 |.aa s=>bif Nat.beq sz 1 then some (s.length,s.map fun b=>.ck .u8 (.ofNat b))else none
 |.ax cs len s=>bif Nat.beq s sz then some (len,cs)else none
 |.ad id len s=>bif Nat.beq s sz then
   match H.bu id with
   |some (.aF vs _)=>bif Nat.beq vs.length (len*sz)then some (len,vs)else none
   |_=>none
  else none
 |_=>none
def Ja(P:Program)(H:AH)(argTypes:Array TypeId)(elem:TypeId)(sz:Nat)(x:AV):Option (Nat×LV):=
 match argTypes[1]?.bind P.underlying with
 |some (.int _)=>match x,ku P elem with
  |.ck .i64 (.ofNat n),some z=>bif Nat.ble n 65536&&Nat.beq z.ek.length sz then some (n,iU z.ek n)else none
  |_,_=>none
 |some _=>ta H sz x
 |none=>none
def Lc(H:AH)(elem:TypeId)(id off len cap sz n:Nat)(ex:Bool)(l:LV):Option (AV×AH):=
 match H.bu id with
 |some (.aw vs _)=>match oN vs off (len*sz)with
  |some old=>
   bif (old++l).all AV.dR then
    some (.bE H.bL 0 (len+n) 1 sz false,AH.iq (bif ex&&Nat.ble (cap+1) (len+n)then H else H.dL id (.b9 [])) (.aw (old++l) elem))
   else none
  |none=>none
 |some (.eh vs _)=>match oN vs off (len*sz)with
  |some old=>
   bif l.all AV.dR&&l.all iD then
    some (.bE H.bL 0 (len+n) 1 sz false,AH.iq (bif ex&&Nat.ble (cap+1) (len+n)then H else H.dL id (.b9 [])) (.eh (old++l) elem))
   else none
  |none=>none
 |some (.aF vs _)=>match oN vs off (len*sz)with
  |some old=>
   bif l.all AV.dR&&l.all iD then
    some (.bE H.bL 0 (len+n) 1 sz false,AH.iq (bif ex&&Nat.ble (cap+1) (len+n)then H else H.dL id (.b9 [])) (.aF (old++l) elem))
   else none
  |none=>none
 |_=>none
def RQ(H:AH)(elem:TypeId)(id len sz n:Nat)(l:LV):Option (AV×AH):=
 match H.bu id with
 |some (.aF vs _)=>bif Nat.beq vs.length (len*sz)&&l.all AV.dR&&l.all iD then some (.ad H.bL (len+n) sz,AH.iq (H.dL id (.b9 [])) (.aF (vs++l) elem))else none
 |_=>none
def qU(H:AH)(elem:TypeId)(sz:Nat)(s:AV)(n:Nat)(l:LV):Option (AV×AH):=
 match s with
 |.bB=>match n with
  |0=>some (.bB,H)
  |_+1=>bif Nat.ble n 65536&&l.all AV.dR then some (.bE H.bL 0 n 1 sz false,AH.iq H (.aw l elem))else none
 |.bE id off len cap lU ex=>bif Nat.beq sz lU&&Nat.ble (len+n) 65536 then
   match n with
   |0=>some (.bE id off len cap lU ex,H)
   |_+1=>Lc H elem id off len cap sz n ex l
  else none
 |.ad id len lU=>bif Nat.beq sz lU&&Nat.ble (len+n) 65536 then
   match n with
   |0=>some (.ad id len lU,H)
   |_+1=>RQ H elem id len sz n l
  else none
 |_=>none
def Dd(P:Program)(H:AH)(argTypes:Array TypeId)(s x:AV):Option (AV×AH):=
 match argTypes[0]?.bind P.underlying with
 |some (.slice elem)=>match dw P elem,uu P elem with
  |some sz,some gK=>
   bif Nat.ble gK 65536&&(ku P elem).any (fun z=>Nat.beq z.ek.length sz)then
    match Ja P H argTypes elem sz x with
    |some (n,l)=>qU H elem sz s n l
    |none=>none
   else none
  |_,_=>none
 |_=>none
def ZW(H:AH)(id off k:Nat)(l:LV):Option (AV×AH):=
 match H.bu id with
 |some (.aw vs e)=>match rK vs off l with
  |some eV=>some (q_ k,H.dL id (.aw eV e))
  |none=>none
 |some (.u7 z n e)=>match rK (iU z n) off l with
  |some eV=>some (q_ k,H.dL id (.aw eV e))
  |none=>none
 |some (.eh vs e)=>match rK vs off l with
  |some eV=>bif l.all iD then some (q_ k,H.dL id (.eh eV e))else none
  |none=>none
 |_=>none
def Kp(P:Program)(H:AH)(argTypes:Array TypeId)(d x:AV):Option (AV×AH):=
 match argTypes[0]?.bind P.underlying with
 |some (.slice elem)=>match dw P elem with
  |some sz=>match d,ta H sz x with
   |.bB,some (_,_)=>some (q_ 0,H)
   |.bE id off len _ lU _,some (n,l)=>
    bif Nat.beq sz lU&&(l.take (Nat.min n len*sz)).all AV.dR then ZW H id off (Nat.min n len) (l.take (Nat.min n len*sz))else none
   |_,_=>none
  |none=>none
 |_=>none
def vE(P:Program)(f:AV)(args:LV):Option fC:=
 match f with
 |.bR (.func g) first j9=>match P.funcs[g]? with
  |some fn=>bif fn.body.isSome&& !(fn.name== "runtime.NumGoroutine")then some (.qi g (first++args++j9))else none
  |none=>none
 |.gd l=>some (.ue l args)
 |_=>none
def aeV(P:Program)(H:AH)(t:TypeId)(v:AV)(m:Method):Option (FuncId×AV):=
 match m.func,P.underlying t with
 |some (f,true),some (.pointer _)=>bif m.path.isEmpty then some (f,v)else none
 |some (f,false),some (.pointer el)=>bif m.path.isEmpty then(match v with
   |.ab id off=>match rB P H el id off with|some v2=>some (f,v2)|none=>none
   |_=>none)else none
 |some (f,false),some _=>bif m.path.isEmpty then some (f,v)else none
 |_,_=>none
def Ux(P:Program)(H:AH)(t:TypeId)(v:AV)(name:String):Option (FuncId×AV):=
 match P.info? t with
 |some i=>match i.methods.find? (·.name==name)with
  |some m=>aeV P H t v m
  |none=>none
 |none=>none
section alN
variable(P:Program)(ρ:Operand->Option AV)(H:AH)
def tK(v:AV):Option AH->Option fC
 |some H=>some (.hZ v H)
 |none=>none
def Ec(t:TypeId)(a x:Operand):Option fC:=
 match ρ a,ρ x with
 |some (.ab id off),some v=>tK .lz (FE P H t id off v)
 |_,_=>none
def zc(t:TypeId)(m k x:Operand):Option fC:=
 match ρ m,ρ k,ρ x with
 |some m,some k,some v=>tK .lz (EZ P H t m k v)
 |_,_,_=>none
def KN(kt elem:TypeId)(id:Nat)(key:AV):Option fC:=
 match H.bu id with
 |some (.bC es cT p)=>
  bif qK P kt key then
   match kY (ie P 100 kt) key es 0 with
   |some (some (i,v,b))=>bif tM es i key&&vO p key .om then some (.hZ (.aJ [v,q_ b]) (H.dL id (.bC (nJ es i fun e=>(key,e.2)) cT p)))else none
   |some none=>match ku P elem with
    |some z=>bif vO p key z then some (.hZ (.aJ [z,q_ cT]) (H.dL id (.bC (es++[(key,z,cT)]) (cT+1) p)))else none
    |none=>none
   |none=>none
  else none
 |_=>none
def Hm(t:TypeId)(m k:Operand):Option fC:=
 match P.underlying t,ρ m,ρ k with
 |some (.map kt elem),some (.aH id),some key=>KN P H kt elem id key
 |_,_,_=>none
def KO(id born:Nat)(v:AV):Option fC:=
 match H.bu id with
 |some (.bC es cT p)=>match es.findIdx? (fun e=>Nat.beq e.2.2 born)with
  |some i=>bif vO p .om v then some (.hZ .lz (H.dL id (.bC (nJ es i fun e=>(e.1,v,e.2.2)) cT p)))else none
  |none=>none
 |_=>none
def Hl(m s x:Operand):Option fC:=
 match ρ m,ρ s,ρ x with
 |some (.aH id),some (.ck _ (.ofNat born)),some v=>KO H id born v
 |_,_,_=>none
def aeK(m:Nat):Option fC:=
 match H.bu m with
 |some (.bC _ cT _)=>some (.hZ (.ab H.bL 0) (H.iq (.rY (some m) cT [] cT)))
 |_=>none
def Ho(t:TypeId)(x:Operand):Option fC:=
 match P.underlying t,ρ x with
 |some .string,some (.aa s)=>some (.hZ (.ab H.bL 0) (H.iq (.qN s 0)))
 |some (.map _ _),some .mF=>some (.hZ (.ab H.bL 0) (H.iq (.rY none 0 [] 0)))
 |some (.map _ _),some (.aH m)=>aeK H m
 |_,_=>none
def Fi(H:AH):Option fC:=some (.hZ (.aJ [.ai false]) H)
def adA(r:Nat)(s:LN)(pos:Nat):Option fC:=
 match s[pos]? with
 |none=>Fi H
 |some b=>bif Nat.ble (b+1) 128 then some (.hZ (.aJ [.ai true,q_ pos,.ck .i32 (.ofNat b)]) (H.dL r (.qN s (pos+1))))else none
def UC(r m nK:Nat)(im:LN)(last:Nat)(es:List (AV×AV×Nat))(cT:Nat):Option fC:=
 bif !im.isEmpty&& !es.isEmpty&&es.all (fun e=>Nat.ble last e.2.2)then none else
 match es.filter fun e=> !im.any (Nat.beq e.2.2)with
 |[]=>Fi H
 |[e]=>bif Nat.ble (e.2.2+1) nK then
   some (.hZ (.aJ [.ai true,e.1,e.2.1]) (H.dL r (.rY (some m) nK (im++[e.2.2]) cT)))
  else none
 |_=>none
def adz(r:Nat)(sk:Bool):Option fC:=
 match H.bu r,sk with
 |some (.qN s pos),true=>adA H r s pos
 |some (.rY none _ _ _),false=>Fi H
 |some (.rY (some m) nK im last),false=>match H.bu m with
  |some (.bC es cT _)=>UC H r m nK im last es cT
  |_=>none
 |_,_=>none
def Hn(it:Operand)(sk:Bool):Option fC:=
 match ρ it with
 |some (.ab r 0)=>adz H r sk
 |_=>none
def aaA(m yo:Nat)(im:LN):Option fC:=
 match im.getLast?,H.bu m with
 |some yk,some (.bC es cT _)=>
  bif Nat.beq cT yo then
   match es.find? (fun e=>Nat.beq e.2.2 yk)with
   |some e=>some (.hZ (.aJ [e.1,e.2.1]) H)
   |none=>none
  else none
 |_,_=>none
def Lo(it:Operand):Option fC:=
 match ρ it with
 |some (.ab r 0)=>match H.bu r with
  |some (.rY (some m) _ im yo)=>aaA H m yo im
  |_=>none
 |_=>none
def BP:Option (AV×AH)->Option fC
 |some (v,H)=>some (.hZ v H)
 |none=>none
def Dm(argTypes:Array TypeId)(id:Nat)(k:AV):Option fC:=
 match argTypes[0]?.bind P.underlying,H.bu id with
 |some (.map kt _),some (.bC es cT p)=>
  bif qK P kt k then
   match kY (ie P 100 kt) k es 0 with
   |some (some (i,_,_))=>some (.hZ .lz (H.dL id (.bC (uD es i) cT p)))
   |some none=>some (.hZ .lz H)
   |none=>none
  else none
 |_,_=>none
def DY(b:Builtin)(args:LV)(argTypes:Array TypeId):Option fC:=
 match b,args with
 |.append,[s,x]=>BP (Dd P H argTypes s x)
 |.copy,[d,x]=>BP (Kp P H argTypes d x)
 |.recover,[]=>some .wP
 |.delete,[.aH id,k]=>Dm P H argTypes id k
 |_,_=>none
def Se(f:Operand)(args:Array Operand):Option fC:=
 match ρ f,sZ ρ args.toList with
 |some g,some l=>vE P g l
 |_,_=>none
def Lp(r:Operand)(name:String)(args:Array Operand):Option fC:=
 match ρ r,sZ ρ args.toList with
 |some (.eK t v),some l=>match Ux P H t v name with
  |some (f,v)=>vE P (.bR (.func f) [] []) (v::l)
  |none=>none
 |_,_=>none
def Lm(c:Call):Option fC:=
 match c.callee with
 |.value f=>Se P ρ f c.args
 |.builtin b=>match sZ ρ c.args.toList with
  |some l=>DY P H b l c.argTypes
  |none=>none
 |.invoke r name=>Lp P ρ H r name c.args
def A5(c:Call):Option fC:=
 match c.callee with
 |.value f=>match ρ f,sZ ρ c.args.toList with
  |some (.bR fn first j9),some l=>bif tB fn then none else some (.wM (.wK fn j9 (first++l)))
  |_,_=>none
 |_=>none
def Sc(x:Operand):Option fC:=
 match ρ x with
 |some (.eK t v)=>some (.wN (.eK t v))
 |_=>none
def nY:Op->Option fC
 |.store t a x=>Ec P ρ H t a x
 |.mapUpdate t m k x=>zc P ρ H t m k x
 |.insert t m k x=>zc P ρ H t m k x
 |.mapEntry t m k=>Hm P ρ H t m k
 |.entryStore _ m s x=>Hl ρ H m s x
 |.range t x=>Ho P ρ H t x
 |.next it sk=>Hn ρ H it sk
 |.entry it=>Lo ρ H it
 |.call c=>Lm P ρ H c
 |.defer c=>A5 ρ c
 |.panic x=>Sc ρ x
 |_=>none
end alN
inductive b_ where
 |fG (c:Code)
 |sT (id:Nat)
 |o3 (body:Code)
 |rX (body:Code)
 |An (l:Nat)
 |yx (l:Nat)
 |wL
 |jr (ops:Array Oper) (i:Nat) (rest:List Oper)
abbrev qS:=List (AV×Bool)
inductive gX where
 |fy
 |o4
 |nQ (c:qS)
structure cN where
 fn:Nat
 o0:Tr AV
 nt:Nat
 Am:List b_
 Jn:List ir
 lx:gX
 up:Option gX
 oZ:Option Nat
inductive Pn where
 |fQ (v:AV)
 |iw (c:qS)
structure fM where
 e:Pn
 up:Option gX
 H:AH
def y5(id:Nat):List b_->Option (List b_)
 |.sT iC::k=>if iC==id then some k else y5 id k
 |_::k=>y5 id k
 |[]=>none
def AR(l:Nat):List b_->Option (List b_)
 |.rX body::k=>
  match findLabel body l with
  |some rest=>some (.fG rest::.rX body::k)
  |none=>AR l k
 |_::k=>AR l k
 |[]=>none
def kr(ops:Array Oper)(o:Oper)(get:Tmp->Option AV):Option Bool:=
 match o.guard with
 |none=>some true
 |some (j,oV)=>match(ops[j]?).bind (·.dst)with
  |none=>none
  |some d=>match get d with
   |some (.ai b)=>some (b==oV)
   |some (.aJ [])=>some false
   |_=>none
def zD:List Oper->LN->Option LN
 |[],gj=>some gj
 |o::l,gj=>
  let m:=o.after.toList.foldl (fun s e=>match s with
   |none=>none
   |some s=>bif Region.binds .any e then(match gj[e.on]? with
     |some n=>some (Nat.lor (Nat.lor s (Nat.pow 2 e.on)) n)
     |none=>none)else some s) (some 0)
  match m with
  |none=>none
  |some m=>zD l (gj++[m])
def nV(m i:Nat):Bool:=Nat.beq (Nat.land (Nat.shiftRight m i) 1) 1
def AB(ops:Array Oper)(ms:LN):Nat->Nat->LN->Option LN
 |0,_,left=>bif left.isEmpty then some []else none
 |f+1,te,left=>
  let ready (i:Nat):Bool:=match ms[i]? with|some m=>Nat.beq (Nat.lor m te) te|none=>false
  let pick:=match left.find? (fun i=>ready i&&((ops[i]?).any (oJ ·.op)))with
   |some i=>some i
   |none=>left.find? ready
  match pick with
  |none=>bif left.isEmpty then some []else none
  |some i=>(AB ops ms f (Nat.lor te (Nat.pow 2 i)) (left.filter fun j=> !Nat.beq i j)).map (i:: ·)
def Kw(ops:Array Oper):List Tmp:=ops.toList.filterMap (·.dst)
def u0:LN->Bool
 |[]=>true
 |a::l=> !l.any (Nat.beq a)&&u0 l
def tG(ops:Array Oper)(ms:LN)(last:Option Nat):LN->Bool
 |[]=>true
 |i::l=>
  (match last with|none=>true|some e=>(ms[i]?).any (nV · e))&&
  tG ops ms (bif (ops[i]?).any (oJ ·.op)then last else some i) l
def Jb(o:Oper):List Tmp:=o.op.operands.toList.filterMap fun|.tmp t=>some t|_=>none
def UT(ops:Array Oper)(ms:LN):Bool:=
 let l:=ops.toList.zipIdx
 u0 (Kw ops)&&
 l.all fun(o,i)=>l.all fun(o',j)=>match o'.dst with
  |none=>true
  |some d=>Nat.beq i j|| !((Jb o++o.dst.toList).any (Nat.beq d))||(ms[i]?).any (nV · j)||(ms[j]?).any (nV · i)
def Ip(ms:LN):List (Oper×Nat)->Bool
 |[]=>true
 |(o,i)::l=>(match o.guard with|none=>true|some (j,_)=>(ms[i]?).any (nV · j))&&Ip ms l
structure PF where
 ms:LN
 Ar:LN
def Fm(ops:Array Oper):Option PF:=
 match zD ops.toList []with
 |none=>none
 |some ms=>match AB ops ms ops.size 0 (List.range ops.size)with
  |none=>none
  |some l=>bif tG ops ms none l&&UT ops ms&&Ip ms ops.toList.zipIdx then some ⟨ms,l⟩else none
def Mc:Op->Bool
 |.move _|.assign _|.pick .. |.build .. |.nilCheck _|.binOp .. |.unOp .. |.convert .. |.makeInterface .. |.makeFunc .. |.fieldAddr .. |.field .. |.indexAddr .. |.index .. |.typeAssert .. |.extract .. =>true
 |_=>false
def J4(ops:Array Oper)(ms:LN)(done:LN)(i:Nat):LN:=
 done.filter fun j=>((ops[j]?).any (fun o=>nA o.op&& !Mc o.op))&& !((ms[i]?).any (nV · j))
def Un(ops:Array Oper)(ms:LN)(i:Nat)(t:Tmp):Bool:=
 ops.toList.zipIdx.any fun(o,j)=>(match o.dst with|some d=>Nat.beq d t|none=>false)&& !((ms[i]?).any (nV · j))
def uC(ops:Array Oper)(ms:LN)(base cur:Tr AV)(i:Nat):Tmp->Option AV:=fun t=>
 bif Un ops ms i t then base.bV t else cur.bV t
def Df(get:Tmp->Option AV):Operand->Option AV
 |.tmp t=>get t
 |.const v=>CG v
 |.global g=>some (.tc g)
 |.func f=>some (.bR (.func f) [] [])
mutual
def mu:AV->AV->Bool
 |.ai a,.ai b=>a==b
 |.ck j a,.ck k b=>j==k&&a==b
 |.aa a,.aa b=>dh a b
 |.ab a b,.ab c d=>Nat.beq a c&&Nat.beq b d
 |.om,.om=>true
 |.bE a b c d e f,.bE a' b' c' d' e' f'=>Nat.beq a a'&&Nat.beq b b'&&Nat.beq c c'&&Nat.beq d d'&&Nat.beq e e'&&f==f'
 |.bB,.bB=>true
 |.aH a,.aH b=>Nat.beq a b
 |.mF,.mF=>true
 |.bR f a b,.bR g c d=>decide (f=g)&&w_ a c&&w_ b d
 |.gd a,.gd b=>Nat.beq a b
 |.pC,.pC=>true
 |.eK t v,.eK u w=>Nat.beq t u&&mu v w
 |.ly,.ly=>true
 |.au a,.au b=>w_ a b
 |.aJ a,.aJ b=>w_ a b
 |.tc a,.tc b=>Nat.beq a b
 |_,_=>false
def w_:LV->LV->Bool
 |[],[]=>true
 |a::l,b::m=>mu a b&&w_ l m
 |_,_=>false
end
def IG(v x:AV):Bool:=or (mu v x) (@decide (v=x) (Classical.propDecidable _))
def Cj(P:Program)(ops:Array Oper)(ms:LN)(base cur:Tr AV)(H:AH):LN->Bool
 |[]=>true
 |j::l=>
  (match ops[j]? with
   |none=>false
   |some o=>match kr ops o cur.bV with
    |none=>false
    |some false=>true
    |some true=>match fK P (Df (uC ops ms base cur j)) H o.op,o.dst with
     |some v,some d=>(cur.bV d).any (IG v)
     |some _,none=>true
     |none,_=>false)&&
  Cj P ops ms base cur H l
inductive eM where
 |go (fr:cN) (H:AH)
 |wQ (r:fM)
 |dY (W9:String)
def Ft(m:gX)(c:qS):gX:=
 match m with
 |.nQ old=>.nQ (c++old)
 |_=>.nQ c
def af7(m:gX):gX:=
 match m with
 |.nQ ((_,true)::_)=>.o4
 |m=>m
def mh(nt:Nat)(tmps:Tr AV)(dst:Option Tmp)(v:AV):Option (Tr AV):=
 match dst with
 |none=>some tmps
 |some d=>bif Nat.ble (d+1) nt then some (tmps.iz d v)else none
def DE(P:Program)(f:FuncId)(args:LV)(up:Option gX):Option cN:=
 match P.funcs[f]? with
 |some fn=>match fn.body with
  |some c=>bif Nat.ble args.length fn.ntmps then
    some {fn:=f,o0:=Tr.zG args 0 .fL,nt:=fn.ntmps,Am:=[.fG c],Jn:=[],lx:=.fy,up,oZ:=none}
   else none
  |none=>none
 |none=>none
def qM(P:Program)(H:AH)(tmps:Tr AV):List ResultVar->Option LV
 |[]=>some []
 |.tmp t::l=>match tmps.bV t with
  |some v=>(qM P H tmps l).map (v:: ·)
  |none=>none
 |.cell a t::l=>match tmps.bV a with
  |some (.ab id off)=>match rB P H t id off with
   |some v=>(qM P H tmps l).map (v:: ·)
   |none=>none
  |_=>none
def yr:LV->AV
 |[v]=>v
 |l=>.aJ l
def yd(o:aZ)(l:Nat)(args:LV):Option cN:=
 match o with
 |.gb _ _ fn tmps nt params assign body _=>
  bif Nat.beq args.length params.length then
   match(params.zip args).foldl (fun t (p,a)=>t.bind fun t=>mh nt t (some p) a) (some tmps)with
   |some nc=>some {fn,o0:=nc,nt,Am:=[.fG assign,.wL,.fG body],Jn:=[],lx:=.fy,up:=none,oZ:=some l}
   |none=>none
  else none
 |_=>none
def Uo(H:AH)(l:Nat)(oe:Option Code):eM:=
 match H.bu l with
 |some (.gb _ _ fn tmps nt ps a b d)=>
  .wQ {e:=.fQ (.ai oe.isNone),up:=none,H:=H.dL l (.gb (bif oe.isNone then .ready else .done) oe fn tmps nt ps a b d)}
 |_=>.dY "endRound"
def qF:cN->AH->Option Code->eM
 |⟨fn,tmps,nt,todo,defers,_,up,round⟩,H,oe=>
  match round with
  |none=>match oe with
   |none|some .ret=>.go ⟨fn,tmps,nt,todo,defers,.o4,up,none⟩ H
   |_=>.dY "leave"
  |some l=>Uo H l oe
def DF:Option fC->Option fC
 |some (.qi f args)=>some (.qi f args)
 |_=>none
structure iu where
 go:cN->AH->Option fM
 du:FuncId->LV->AH->Option (AV×AH)
def KL(P:Program)(call:iu)(f:FuncId)(args:LV)(up:Option gX)(H:AH):Option fM:=
 match up,call.du f args H with
 |none,some (v,H')=>some ⟨.fQ v,none,H'⟩
 |_,_=>(DE P f args up).bind (call.go · H)
section anx
variable(P:Program)(call:iu)
def mO(H:AH)(up:Option gX):fC->Option fM
 |.hZ v H=>some {e:=.fQ v,up,H}
 |.qi f args=>KL P call f args up H
 |.ue l args=>match H.bu l with
  |some o=>(yd o l args).bind (call.go · H)
  |none=>none
 |_=>none
def qI(fr:cN)(o:Oper)(todo:List b_)(v:AV)(H:AH):eM:=
 match fr with
 |⟨fn,tmps,nt,_,defers,mode,up,round⟩=>match mh nt tmps o.dst v with
  |some t=>.go ⟨fn,t,nt,todo,defers,mode,up,round⟩ H
  |none=>.dY "dst"
def aeJ:cN->qS->cN
 |⟨fn,tmps,nt,todo,defers,mode,up,round⟩,c=>⟨fn,tmps,nt,todo,defers,Ft mode c,up,round⟩
def FA(fr:cN)(o:Oper)(todo:List b_)(r:Option fM):eM:=
 match r with
 |some ⟨.fQ v,_,H⟩=>qI fr o todo v H
 |some ⟨.iw c,_,H⟩=>.go (aeJ fr c) H
 |none=>.dY "call"
def af3(fr:cN)(o:Oper)(todo:List b_)(d:ir)(H:AH):eM:=
 match fr with
 |⟨fn,tmps,nt,_,defers,mode,up,none⟩=>match mh nt tmps o.dst .lz with
  |some t=>.go ⟨fn,t,nt,todo,d::defers,mode,up,none⟩ H
  |none=>.dY "dst"
 |_=>.dY "defer"
def af4(fr:cN)(o:Oper)(todo:List b_)(H:AH):eM:=
 match fr with
 |⟨fn,tmps,nt,_,defers,mode,some (.nQ ((v,false)::Fh)),none⟩=>match mh nt tmps o.dst v with
  |some t=>.go ⟨fn,t,nt,todo,defers,mode,some (.nQ ((v,true)::Fh)),none⟩ H
  |none=>.dY "dst"
 |⟨fn,tmps,nt,_,defers,mode,up,none⟩=>match mh nt tmps o.dst .ly with
  |some t=>.go ⟨fn,t,nt,todo,defers,mode,up,none⟩ H
  |none=>.dY "dst"
 |_=>.dY "recover"
def wA(fr:cN)(o:Oper)(todo:List b_)(H:AH)(aN:Option fC):eM:=
 match aN with
 |none=>.dY "heavy"
 |some (.wM d)=>af3 fr o todo d H
 |some (.wN v)=>.go (aeJ fr [(v,false)]) H
 |some .wP=>af4 fr o todo H
 |some aN=>FA fr o todo (mO P call H none aN)
def Fz(fr:cN)(o:Oper)(todo:List b_)(H:AH)(r:Option AV):eM:=
 match r with
 |some v=>qI fr o todo v H
 |none=>.dY "read"
def Cg(fr:cN)(o:Oper)(todo:List b_)(H:AH)(r:Option (aZ×(Nat->AV))):eM:=
 match r,H with
 |some (ob,g),⟨h,n⟩=>qI fr o todo (g n) (AH.iq ⟨h,n⟩ ob)
 |none,_=>.dY "make"
def ym(fr:cN)(H:AH)(ops:Array Oper)(i:Nat)(o:Oper)(rest:List Oper)(k:List b_):eM:=
 match fr with
 |⟨fn,tmps,nt,todo,defers,mode,up,round⟩=>
  match kr ops o tmps.bV with
  |none=>.dY "guard"
  |some b=>
   bif b then
    bif nA o.op then Fz ⟨fn,tmps,nt,todo,defers,mode,up,round⟩ o (.jr ops (Nat.succ i) rest::k) H (fK P (ia tmps) H o.op)
    else bif pW o.op then Cg ⟨fn,tmps,nt,todo,defers,mode,up,round⟩ o (.jr ops (Nat.succ i) rest::k) H (nD P (ia tmps) o.op)
    else wA P call ⟨fn,tmps,nt,todo,defers,mode,up,round⟩ o (.jr ops (Nat.succ i) rest::k) H (nY P (ia tmps) H o.op)
   else qI ⟨fn,tmps,nt,todo,defers,mode,up,round⟩ o (.jr ops (Nat.succ i) rest::k) .lz H
inductive JR where
 |az (tmps:Tr AV) (H:AH)
 |iw (c:qS) (H:AH)
 |dY (W9:String)
inductive CU where
 |go (tmps:Tr AV) (H:AH)
 |iw (c:qS) (H:AH)
 |dY (W9:String)
def qJ(nt:Nat)(tmps:Tr AV)(o:Oper)(v:AV)(H:AH):CU:=
 match mh nt tmps o.dst v with
 |some t=>.go t H
 |none=>.dY "dst"
def It(nt:Nat)(tmps:Tr AV)(o:Oper)(H:AH)(r:Option AV):CU:=
 match r with
 |some v=>qJ nt tmps o v H
 |none=>.dY "read"
def zK(nt:Nat)(tmps:Tr AV)(o:Oper)(H:AH)(r:Option (aZ×(Nat->AV))):CU:=
 match r,H with
 |some (ob,g),⟨h,n⟩=>qJ nt tmps o (g n) (AH.iq ⟨h,n⟩ ob)
 |none,_=>.dY "make"
def Nf(ops:Array Oper)(ms:LN)(base:Tr AV)(ag:LN)(nt:Nat)(tmps:Tr AV)(o:Oper)(r:Option fM):CU:=
 match r with
 |some ⟨.fQ v,_,H⟩=>match mh nt tmps o.dst v with
  |some t=>bif Cj P ops ms base t H ag then .go t H else .dY "steady"
  |none=>.dY "dst"
 |some ⟨.iw c,_,H⟩=>.iw c H
 |none=>.dY "call"
def U6(ops:Array Oper)(ms:LN)(base:Tr AV)(ag:LN)(nt:Nat)(tmps:Tr AV)(o:Oper)(H:AH)(aN:Option fC):CU:=
 match aN with
 |some aN=>Nf P ops ms base ag nt tmps o (mO P call H none aN)
 |none=>.dY "heavy"
def oM(ops:Array Oper)(ms:LN)(base:Tr AV)(done:LN)(i:Nat)(nt:Nat)(tmps:Tr AV)(H:AH)(o:Oper):CU:=
 match kr ops o tmps.bV with
 |none=>.dY "guard"
 |some b=>
  bif b then
   bif nA o.op then It nt tmps o H (fK P (ia tmps) H o.op)
   else bif pW o.op then zK nt tmps o H (nD P (ia tmps) o.op)
   else U6 P call ops ms base (J4 ops ms done i) nt tmps o H (nY P (ia tmps) H o.op)
  else qJ nt tmps o .lz H
def rJ(ops:Array Oper)(ms:LN)(base:Tr AV)(nt:Nat):LN->LN->Tr AV->AH->JR
 |[],_,tmps,H=>.az tmps H
 |i::rest,done,tmps,H=>match ops[i]? with
  |none=>.dY "order"
  |some o=>match oM P call ops ms base done i nt tmps H o with
   |.go t H'=>rJ ops ms base nt rest (i::done) t H'
   |.iw c H'=>.iw c H'
   |.dY w=>.dY w
def KV(t:Tr AV):List Tmp->Tr AV
 |[]=>t
 |d::l=>KV (t.yA d) l
def Nd(fr:cN)(ops:Array Oper)(k:List b_)(r:JR):eM:=
 match fr,r with
 |⟨fn,_,nt,_,defers,mode,up,round⟩,.az t H=>.go ⟨fn,t,nt,k,defers,mode,up,round⟩ H
 |⟨fn,tmps,nt,_,defers,mode,up,round⟩,.iw c H=>.go ⟨fn,KV tmps (Kw ops),nt,k,defers,Ft mode c,up,round⟩ H
 |_,.dY w=>.dY w
def to(fr:cN)(H:AH)(k:List b_):eM:=
 match fr with
 |⟨fn,tmps,nt,_,defers,mode,up,round⟩=>.go ⟨fn,tmps,nt,k,defers,mode,up,round⟩ H
def IT(fr:cN)(H:AH)(FP Ds:Code)(k:List b_)(c:Option AV):eM:=
 match c with
 |some (.ai b)=>to fr H (.fG (bif b then FP else Ds)::k)
 |_=>.dY "cond"
def IV(fr:cN)(H:AH)(j:Code)(k:Option (List b_)):eM:=
 match k with
 |some k=>to fr H k
 |none=>qF fr H (some j)
def FC(fr:cN)(H:AH)(ops:Array Oper)(pK:Bool)(k:List b_):eM:=
 bif pK then match fr,Fm ops with
  |⟨fn,tmps,nt,todo,defers,mode,up,round⟩,some pl=>
   Nd ⟨fn,tmps,nt,todo,defers,mode,up,round⟩ ops k (rJ P call ops pl.ms tmps nt pl.Ar [] tmps H)
  |_,none=>.dY "plan"
 else to fr H (.jr ops 0 ops.toList::k)
def Mx(H:AH)(round:Option Nat):Option (Nat×List ir×AH):=
 match round with
 |some l=>match H.bu l with
  |some (.gb _ _ _ _ _ _ _ _ d)=>some (d,[],H)
  |_=>none
 |none=>match H with
  |⟨h,n⟩=>some (n,[.ng n],AH.iq ⟨h,n⟩ (.ot (some [])))
def aeL(fr:cN)(l:Nat)(mark:List ir)(k:List b_)(r:Option fM):eM:=
 match fr,r with
 |⟨fn,tmps,nt,_,defers,mode,up,round⟩,some ⟨.fQ _,_,H⟩=>.go ⟨fn,tmps,nt,.yx l::k,mark++defers,mode,up,round⟩ H
 |⟨fn,tmps,nt,_,defers,mode,up,round⟩,some ⟨.iw c,_,H⟩=>.go ⟨fn,tmps,nt,.An l::k,mark++defers,Ft mode c,up,round⟩ H
 |_,none=>.dY "rangeFunc call"
def KM(fr:cN)(f:Operand)(params:Array Tmp)(assign body:Code)(k:List b_):Option (Nat×List ir×AH)->eM
 |none=>.dY "rangeFunc"
 |some (d,mark,⟨h,n⟩)=>match fr with
  |⟨fn,tmps,nt,todo,defers,mode,up,round⟩=>
   aeL ⟨fn,tmps,nt,todo,defers,mode,up,round⟩ n mark k
    ((ia tmps f).bind fun g=>(DF (vE P g [.gd n])).bind (mO P call (AH.iq ⟨h,n⟩ (.gb .ready none fn tmps nt params.toList assign body d)) none))
def IW(fr:cN)(H:AH)(f:Operand)(params:Array Tmp)(assign body:Code)(k:List b_):eM:=
 match fr with
 |⟨fn,tmps,nt,todo,defers,mode,up,round⟩=>KM P call ⟨fn,tmps,nt,todo,defers,mode,up,round⟩ f params assign body k (Mx H round)
def IS(fr:cN)(H:AH)(k:List b_):eM:=
 match fr with
 |⟨fn,tmps,nt,_,defers,mode,up,some l⟩=>match H.bu l with
  |some (.gb .ready p lf lt ln ps a b d)=>.go ⟨fn,tmps,nt,k,defers,mode,up,some l⟩ (H.dL l (.gb .busy p lf lt ln ps a b d))
  |_=>.dY "beginRound"
 |_=>.dY "beginRound"
def Ni(p:Option Code)(k:List b_):List b_:=
 match p with
 |some c=>.fG c::k
 |none=>k
def IU(fr:cN)(H:AH)(l:Nat)(k:List b_):eM:=
 match H.bu l with
 |some (.gb .ready p fn tmps nt ps a b d)=>to fr (H.dL l (.gb .exhausted p fn tmps nt ps a b d)) (Ni p k)
 |some (.gb .done p fn tmps nt ps a b d)=>to fr (H.dL l (.gb .exhausted p fn tmps nt ps a b d)) (Ni p k)
 |_=>.dY "endLoop"
def u_(fr:cN)(H:AH)(k:List b_):Code->eM
 |.ret=>qF fr H (some .ret)
 |.skip=>to fr H k
 |.label _=>to fr H k
 |.seq a b=>to fr H (.fG a::.fG b::k)
 |.cond c FP Ds=>IT fr H FP Ds k (ia fr.o0 c)
 |.block id body=>to fr H (.fG body::.sT id::k)
 |.loop body=>to fr H (.fG body::.o3 body::k)
 |.scope body=>to fr H (.fG body::.rX body::k)
 |.exit id=>IV fr H (.exit id) (y5 id k)
 |.goto l=>IV fr H (.goto l) (AR l k)
 |.region _ ops pK=>FC P call fr H ops pK k
 |.rangeFunc f params assign body=>IW P call fr H f params assign body k
 |.refuse _=>.dY "refuse"
def sJ(fr:cN)(H:AH)(k:List b_):b_->eM
 |.fG c=>u_ P call fr H k c
 |.sT _=>to fr H k
 |.rX _=>to fr H k
 |.o3 body=>to fr H (.fG body::.o3 body::k)
 |.jr ops i l=>match l with
  |[]=>to fr H k
  |o::rest=>ym P call fr H ops i o rest k
 |.wL=>IS fr H k
 |.yx l=>IU fr H l k
 |.An _=>.dY "inRangeFunc"
def rQ(fr:cN)(H:AH):eM:=
 match fr with
 |⟨fn,tmps,nt,[],defers,mode,up,round⟩=>qF ⟨fn,tmps,nt,[],defers,mode,up,round⟩ H none
 |⟨fn,tmps,nt,x::k,defers,mode,up,round⟩=>sJ P call ⟨fn,tmps,nt,x::k,defers,mode,up,round⟩ H k x
def U2(fr:cN)(ds:List ir)(u:gX)(H:AH):eM:=
 match u,fr with
 |.fy,_=>.dY "run"
 |u,⟨fn,tmps,nt,todo,_,_,up,round⟩=>.go ⟨fn,tmps,nt,todo,ds,u,up,round⟩ H
def U3(fr:cN)(ds:List ir)(r:Option fM):eM:=
 match fr,r with
 |fr,some ⟨.fQ _,some u,H⟩=>U2 fr ds (af7 u) H
 |fr,some ⟨.iw c,some u,H⟩=>U2 fr ds (Ft u c) H
 |_,_=>.dY "deferred call"
def Na(fr:cN)(H:AH):eM:=
 match fr with
 |⟨fn,tmps,_,_,_,mode,up,_⟩=>match mode with
  |.fy=>.dY "run"
  |.nQ c=>bif (P.funcs[fn]?).isSome then .wQ ⟨.iw c,up,H⟩else .dY "no function"
  |.o4=>match P.funcs[fn]? with
   |some f=>match qM P H tmps f.results.toList with
    |some l=>.wQ ⟨.fQ (yr l),up,H⟩
    |none=>.dY "results"
   |none=>.dY "no function"
def zX(fr:cN)(H:AH):eM:=
 match fr with
 |⟨fn,tmps,nt,todo,defers,mode,up,round⟩=>match defers with
  |.ng r::ds=>match H.bu r with
   |some (.ot (some []))=>.go ⟨fn,tmps,nt,todo,ds,mode,up,round⟩ (H.dL r (.ot none))
   |_=>.dY "collected"
  |.wK f j9 args::ds=>U3 ⟨fn,tmps,nt,todo,defers,mode,up,round⟩ ds ((DF (vE P (.bR f [] j9) args)).bind (mO P call H (some mode)))
  |[]=>Na P ⟨fn,tmps,nt,todo,defers,mode,up,round⟩ H
def jo(fr:cN)(H:AH):eM:=
 match fr with
 |⟨fn,tmps,nt,todo,defers,mode,up,round⟩=>match mode with
  |.fy=>rQ P call ⟨fn,tmps,nt,todo,defers,.fy,up,round⟩ H
  |m=>zX P call ⟨fn,tmps,nt,todo,defers,m,up,round⟩ H
end anx
abbrev qk:=FuncId->LV->AH->Option (AV×AH)
def adK:qk:=fun _ _ _=>none
def ug(P:Program)(K:qk):Nat->cN->AH->Option fM
 |0,_,_=>none
 |n+1,fr,H=>match jo P ⟨ug P K n,K⟩ fr H with
  |.go fr' H'=>ug P K n fr' H'
  |.wQ r=>some r
  |.dY _=>none
def eval(P:Program)(K:qk)(n:Nat)(f:FuncId)(args:LV)(H:AH):Option fM:=(DE P f args none).bind fun fr=>ug P K n fr H
end
namespace Tr
variable{α:Type}
theorem DS(n:Nat):(Tr.fL:Tr α).bV n=none:=rfl
theorem uZ(a b:Nat):Nat.beq a b=decide (a=b):=by
 cases h:Nat.beq a b
 ·have:a≠b:=by intro e;subst e;simp at h
  simp[this]
 ·have:a=b:=eu h;simp[this]
theorem Gz{β:Type}(p:Prop)[Decidable p](x y:β):(bif decide p then x else y)=if p then x else y:=by by_cases h:p<;>simp[h]
theorem yN{β:Type}(c:Bool)(x y:β): @Bool.rec (fun _=>β) y x c=bif c then x else y:=by cases c<;>rfl
theorem oD(v:Option α)(l r:Tr α)(n:Nat):
 (Tr.fP v l r).bV n=if n=0 then v else if n%2=1 then l.bV (n / 2)else r.bV (n / 2-1):=by
 have h:(Tr.fP v l r).bV n= @Bool.rec (fun _=>Option α) (@Bool.rec (fun _=>Option α) (r.bV (Nat.sub (Nat.div n 2) 1)) (l.bV (Nat.div n 2)) (Nat.beq (Nat.mod n 2) 1)) (v) (Nat.beq n 0):=rfl;rw[h,yN,yN];simp only[uZ,Gz];rfl
theorem af6(v:Option α)(l r:Tr α)(n:Nat)(a:α):
 (Tr.fP v l r).iz n a=if n=0 then .fP (some a) l r else if n%2=1 then .fP v (l.iz (n / 2) a) r else .fP v l (r.iz (n / 2-1) a):=by
 have h:(Tr.fP v l r).iz n a= @Bool.rec (fun _=>Tr α) (@Bool.rec (fun _=>Tr α) (Tr.fP v l (r.iz (Nat.sub (Nat.div n 2) 1) a)) (Tr.fP v (l.iz (Nat.div n 2) a) r) (Nat.beq (Nat.mod n 2) 1)) (Tr.fP (some a) l r) (Nat.beq n 0):=rfl;rw[h,yN,yN];simp only[uZ,Gz];rfl
theorem akg(v:Option α)(l r:Tr α)(n:Nat):
 (Tr.fP v l r).yA n=if n=0 then .fP none l r else if n%2=1 then .fP v (l.yA (n / 2)) r else .fP v l (r.yA (n / 2-1)):=by
 have h:(Tr.fP v l r).yA n= @Bool.rec (fun _=>Tr α) (@Bool.rec (fun _=>Tr α) (Tr.fP v l (r.yA (Nat.sub (Nat.div n 2) 1))) (Tr.fP v (l.yA (Nat.div n 2)) r) (Nat.beq (Nat.mod n 2) 1)) (Tr.fP none l r) (Nat.beq n 0):=rfl;rw[h,yN,yN];simp only[uZ,Gz];rfl
theorem avj(n:Nat)(a:α):wB 0 n a=.fP (some a) .fL .fL:=rfl
theorem avi(f n:Nat)(a:α):
 wB (f+1) n a=if n=0 then .fP (some a) .fL .fL else if n%2=1 then .fP none (wB f (n / 2) a) .fL else .fP none .fL (wB f (n / 2-1) a):=by
 have h:wB (f+1) n a= @Bool.rec (fun _=>Tr α) (@Bool.rec (fun _=>Tr α) (Tr.fP none .fL (wB f (Nat.sub (Nat.div n 2) 1) a)) (Tr.fP none (wB f (Nat.div n 2) a) .fL) (Nat.beq (Nat.mod n 2) 1)) (Tr.fP (some a) .fL .fL) (Nat.beq n 0):=rfl;rw[h,yN,yN];simp only[uZ,Gz];rfl
theorem RP:∀(f n m:Nat) (a:α),n<=f->(wB f n a).bV m=if m=n then some a else none
 |0,n,m,a,h=>by
  have:n=0:=by omega
  subst this;rw[avj,oD];simp[DS]
 |f+1,n,m,a,h=>by
  rw[avi];by_cases h0:n=0
  ·subst h0;rw[aY rfl,oD];simp[DS]
  ·rw[aB h0];by_cases h1:n%2=1
   ·rw[aY h1,oD,RP f _ _ a (by omega),DS];by_cases m0:m=0
    ·subst m0;rw[aY rfl,aB (fun e=>h0 e.symm)]
    ·rw[aB m0];by_cases m1:m%2=1
     ·rw[aY m1];by_cases e:m=n
      ·subst e;simp
      ·rw[aB e,aB (by omega)]
     ·rw[aB m1,aB (by rintro rfl;exact m1 h1)]
   ·rw[aB h1,oD,RP f _ _ a (by omega),DS];by_cases m0:m=0
    ·subst m0;rw[aY rfl,aB (fun e=>h0 e.symm)]
    ·rw[aB m0];by_cases m1:m%2=1
     ·rw[aY m1,aB (by rintro rfl;exact h1 m1)]
     ·rw[aB m1];by_cases e:m=n
      ·subst e;simp
      ·rw[aB e,aB (by omega)]
theorem kZ(t:Tr α)(n m:Nat)(a:α):(t.iz n a).bV m=if m=n then some a else t.bV m:=by
 induction t generalizing n m with
 |fL=>show(wB n n a).bV m=_;rw[DS,RP n n m a (fB _)]
 |fP v l r H6 H7=>
  rw[af6,oD v l r m];by_cases h0:n=0
  ·subst h0;rw[aY rfl,oD];by_cases m0:m=0
   ·rw[aY m0,aY m0]
   ·rw[aB m0,aB m0,aB m0]
  ·rw[aB h0];by_cases h1:n%2=1
   ·rw[aY h1,oD,H6];by_cases m0:m=0
    ·rw[aY m0,aY m0,aB (by omega)]
    ·rw[aB m0,aB m0];by_cases m1:m%2=1
     ·rw[aY m1,aY m1];by_cases e:m=n
      ·rw[aY (by rw[e]),aY e]
      ·rw[aB (by omega),aB e]
     ·rw[aB m1,aB m1,aB (by rintro rfl;exact m1 h1)]
   ·rw[aB h1,oD,H7];by_cases m0:m=0
    ·rw[aY m0,aY m0,aB (by omega)]
    ·rw[aB m0,aB m0];by_cases m1:m%2=1
     ·rw[aY m1,aY m1,aB (by rintro rfl;exact h1 m1)]
     ·rw[aB m1,aB m1];by_cases e:m=n
      ·rw[aY (by rw[e]),aY e]
      ·rw[aB (by omega),aB e]
theorem akZ(t:Tr α)(n m:Nat):(t.yA n).bV m=if m=n then none else t.bV m:=by
 induction t generalizing n m with
 |fL=>show(Tr.fL:Tr α).bV m=_;simp[DS]
 |fP v l r H6 H7=>
  rw[akg,oD v l r m];by_cases h0:n=0
  ·subst h0;rw[aY rfl,oD];by_cases m0:m=0
   ·rw[aY m0,aY m0]
   ·rw[aB m0,aB m0,aB m0]
  ·rw[aB h0];by_cases h1:n%2=1
   ·rw[aY h1,oD,H6];by_cases m0:m=0
    ·rw[aY m0,aY m0,aB (by omega)]
    ·rw[aB m0,aB m0];by_cases m1:m%2=1
     ·rw[aY m1,aY m1];by_cases e:m=n
      ·rw[aY (by rw[e]),aY e]
      ·rw[aB (by omega),aB e]
     ·rw[aB m1,aB m1,aB (by rintro rfl;exact m1 h1)]
   ·rw[aB h1,oD,H7];by_cases m0:m=0
    ·rw[aY m0,aY m0,aB (by omega)]
    ·rw[aB m0,aB m0];by_cases m1:m%2=1
     ·rw[aY m1,aY m1,aB (by rintro rfl;exact h1 m1)]
     ·rw[aB m1,aB m1];by_cases e:m=n
      ·rw[aY (by rw[e]),aY e]
      ·rw[aB (by omega),aB e]
theorem abd(l:List α):∀(n:Nat) (t:Tr α) (m:Nat),(zG l n t).bV m=if n<=m∧m<n+l.length then l[m-n]? else t.bV m:=by
 induction l with
 |nil=>intro n t m;have:¬(n<=m∧m<n+0):=by omega
       simp[zG];omega
 |cons a l ih=>
  intro n t m;rw[zG,ih,kZ];by_cases h:n+1<=m∧m<n+1+l.length
  ·have h2:n<=m∧m<n+(a::l).length:=by simp;omega
   rw[aY h,aY h2];have:m-n=(m-(n+1))+1:=by omega
   rw[this,List.getElem?_cons_succ]
  ·rw[aB h];by_cases e:m=n
   ·subst e;simp
   ·have h2:¬(n<=m∧m<n+(a::l).length):=by simp;omega
    rw[aB h2,aB e]
end Tr
structure PE where
 b:Nat
 o:Nat
 n:Nat
structure bf where
 f:Nat->Option PE
 ro:Nat->Option Obj
instance:CoeFun bf (fun _=>Nat->Option PE):=⟨bf.f⟩
def bf.pu(φ:bf):bf:=⟨fun _=>none,φ.ro⟩
theorem c6{α:Type}{c:Bool}{x:Option α}{v:α}(h:(bif c then x else none)=some v):c=true∧x=some v:=by
 cases c
 ·cases h
 ·exact⟨rfl,h⟩
def Opq(u:Value):Prop:=u.cells= #[u]∧u.oneCell'=true
mutual
def VR(φ:bf):AV->Value->Prop
 |.ai b,v=>v=.bool b
 |.ck k n,v=>v=.int k n
 |.aa s,v=>∃b:ByteArray,v=.string b∧fo b=s
 |.ab id off,v=>∃e,φ id=some e∧v=.pointer (some ⟨e.b,e.o+off,none⟩)
 |.om,v=>v=.pointer none
 |.bE id off len cap sz ex,v=>∃e x c,φ id=some e∧v=.slice (some ⟨e.b,x,none⟩) len c∧(c=0∨x=e.o+off)∧len<=c∧(ex=true->c=cap)∧e.o+off+c*sz<=e.n
 |.bB,v=>v=.slice none 0 0
 |.aH id,v=>∃e,φ id=some e∧v=.map (some e.b)
 |.mF,v=>v=.map none
 |.bR fn f c,v=>∃f' c':Array Value,v=.func fn f' c'∧tB fn=false∧bc φ f f'.toList∧bc φ c c'.toList
 |.gd l,v=>∃e,φ l=some e∧v=.func (.yield e.b) #[] #[]
 |.pC,v=>v=.nilFunc
 |.eK t a,v=>∃v',v=.iface t v'∧VR φ a v'
 |.ly,v=>v=.nilIface
 |.au cs,v=>∃cs':Array Value,v=.agg cs'∧bc φ cs cs'.toList
 |.aJ cs,v=>∃cs':Array Value,v=.tuple cs'∧bc φ cs cs'.toList
 |.tc g,v=>v=.pointer (some ⟨g,0,none⟩)
 |.zJ u,v=>v=u∧Opq u
 |.tH k n ne lo hi,v=>v=.int k n∧(∀c∈ne,n≠c)∧(∀l,lo=some l->l<=n)∧(∀h,hi=some h->n<=h)
 |.su s ne,v=>(∃b:ByteArray,v=.string b∧fo b=s)∧∀c∈ne,s≠c
 |.ax cs len sz,v=>∃(a:Option Addr) (c:Nat),v=.slice a len c∧cs.length=len*sz∧(len=0∨
   ∃b x,∃(eC:Array Value) (el:TypeId) (fz:Nat×Nat),a=some ⟨b,x,none⟩∧len<=c∧φ.ro b=some (.cells eC el fz)∧x+cs.length<=eC.size∧bc φ.pu cs ((eC.toList.drop x).take cs.length))
 |.oU cs,v=>∃b x,∃(eC:Array Value) (el:TypeId) (fz:Nat×Nat),v=.pointer (some ⟨b,x,none⟩)∧φ.ro b=some (.cells eC el fz)∧x+cs.length<=eC.size∧bc φ.pu cs ((eC.toList.drop x).take cs.length)
 |.ad id len sz,v=>(len=0∧v=.slice none 0 0)∨∃e x c,φ id=some e∧v=.slice (some ⟨e.b,x,none⟩) len c∧(c=0∨x=e.o)∧len<=c∧e.o+c*sz<=e.n
def bc(φ:bf):LV->List Value->Prop
 |[],l=>l=[]
 |a::as,l=>∃v vs,l=v::vs∧VR φ a v∧bc φ as vs
end
structure eg(φ ψ:bf):Prop where
 f:∀id e,φ id=some e->ψ id=some e
 ro:∀b o,φ.ro b=some o->ψ.ro b=some o
instance{φ ψ:bf}:CoeFun (eg φ ψ) (fun _=>∀id e,φ id=some e->ψ id=some e):=⟨eg.f⟩
theorem eg.sU(φ:bf):eg φ φ:=⟨fun _ _ h=>h,fun _ _ h=>h⟩
theorem eg.trans{φ ψ χ:bf}(h:eg φ ψ)(h':eg ψ χ):eg φ χ:=⟨fun id e hh=>h' id e (h id e hh),fun b o hh=>h'.ro b o (h.ro b o hh)⟩
theorem eg.pu{φ ψ:bf}(h:eg φ ψ):eg φ.pu ψ.pu:=⟨fun _ _ h=>(by cases h),h.ro⟩
mutual
theorem VR.gW{φ ψ:bf}(h:eg φ ψ):∀(a:AV) (v:Value),VR φ a v->VR ψ a v
 |.ai _,_,h1=>by simpa[VR]using h1
 |.ck _ _,_,h1=>by simpa[VR]using h1
 |.aa _,_,h1=>by simpa[VR]using h1
 |.ab _ _,_,h1=>by simp only[VR]at h1⊢;obtain⟨e,h2,h3⟩:=h1;exact⟨e,h _ _ h2,h3⟩
 |.om,_,h1=>by simpa[VR]using h1
 |.bE ..,_,h1=>by simp only[VR]at h1⊢;obtain⟨e,x,c,h2,h3⟩:=h1;exact⟨e,x,c,h _ _ h2,h3⟩
 |.bB,_,h1=>by simpa[VR]using h1
 |.aH _,_,h1=>by simp only[VR]at h1⊢;obtain⟨e,h2,h3⟩:=h1;exact⟨e,h _ _ h2,h3⟩
 |.mF,_,h1=>by simpa[VR]using h1
 |.bR _ f c,_,h1=>by simp only[VR]at h1⊢;obtain⟨f',c',e,hy,h2,h3⟩:=h1;exact⟨f',c',e,hy,bc.kQ h f _ h2,bc.kQ h c _ h3⟩
 |.gd _,_,h1=>by simp only[VR]at h1⊢;obtain⟨e,h2,h3⟩:=h1;exact⟨e,h _ _ h2,h3⟩
 |.pC,_,h1=>by simpa[VR]using h1
 |.eK _ a,_,h1=>by simp only[VR]at h1⊢;obtain⟨v',e,h2⟩:=h1;exact⟨v',e,VR.gW h a _ h2⟩
 |.ly,_,h1=>by simpa[VR]using h1
 |.au cs,_,h1=>by simp only[VR]at h1⊢;obtain⟨v',e,h2⟩:=h1;exact⟨v',e,bc.kQ h cs _ h2⟩
 |.aJ cs,_,h1=>by simp only[VR]at h1⊢;obtain⟨v',e,h2⟩:=h1;exact⟨v',e,bc.kQ h cs _ h2⟩
 |.tc _,_,h1=>by simpa[VR]using h1
 |.zJ _,_,h1=>by simpa[VR]using h1
 |.tH ..,_,h1=>by simp only[VR]at h1⊢;exact h1
 |.su ..,_,h1=>by simp only[VR]at h1⊢;exact h1
 |.ax cs _ _,_,h1=>by
  simp only[VR]at h1⊢;obtain⟨a,c,e,hl,h2⟩:=h1;refine⟨a,c,e,hl,?_⟩;rcases h2 with h2|⟨b,x,eC,el,fz,h2,h3,h4,h5,h6⟩
  ·exact .inl h2
  ·exact .inr ⟨b,x,eC,el,fz,h2,h3,h.ro _ _ h4,h5,bc.kQ h.pu cs _ h6⟩
 |.oU cs,_,h1=>by simp only[VR]at h1⊢;obtain⟨b,x,eC,el,fz,h3,h4,h5,h6⟩:=h1;exact⟨b,x,eC,el,fz,h3,h.ro _ _ h4,h5,bc.kQ h.pu cs _ h6⟩
 |.ad ..,_,h1=>by
  simp only[VR]at h1⊢;rcases h1 with h1|⟨e,x,c,h2,h3⟩
  ·exact .inl h1
  ·exact .inr ⟨e,x,c,h _ _ h2,h3⟩
theorem bc.kQ{φ ψ:bf}(h:eg φ ψ):∀(as:LV) (vs:List Value),bc φ as vs->bc ψ as vs
 |[],_,h1=>by simpa[bc]using h1
 |a::as,_,h1=>by simp only[bc]at h1⊢;obtain⟨v,vs,e,h2,h3⟩:=h1;exact⟨v,vs,e,VR.gW h a v h2,bc.kQ h as vs h3⟩
end
theorem eg.BT(φ:bf):eg φ.pu φ:=⟨fun _ _ h=>(by cases h),fun _ _ h=>h⟩
mutual
theorem VR.wx{φ ψ:bf}(hr:∀b o,φ.ro b=some o->ψ.ro b=some o):∀(a:AV) (v:Value),iD a=true->VR φ a v->VR ψ a v
 |.ai _,_,_,h1=>by simpa[VR]using h1
 |.ck _ _,_,_,h1=>by simpa[VR]using h1
 |.aa _,_,_,h1=>by simpa[VR]using h1
 |.ab _ _,_,hp,_=>by cases hp
 |.om,_,_,h1=>by simpa[VR]using h1
 |.bE ..,_,hp,_=>by cases hp
 |.bB,_,_,h1=>by simpa[VR]using h1
 |.aH _,_,hp,_=>by cases hp
 |.mF,_,_,h1=>by simpa[VR]using h1
 |.bR _ f c,_,hp,h1=>by simp only[iD,cW]at hp;simp only[VR]at h1⊢;obtain⟨f',c',e,hy,h2,h3⟩:=h1;exact⟨f',c',e,hy,bc.wx hr f _ hp.1 h2,bc.wx hr c _ hp.2 h3⟩
 |.gd _,_,hp,_=>by cases hp
 |.pC,_,_,h1=>by simpa[VR]using h1
 |.eK _ a,_,hp,h1=>by simp only[iD]at hp;simp only[VR]at h1⊢;obtain⟨v',e,h2⟩:=h1;exact⟨v',e,VR.wx hr a _ hp h2⟩
 |.ly,_,_,h1=>by simpa[VR]using h1
 |.au cs,_,hp,h1=>by simp only[iD]at hp;simp only[VR]at h1⊢;obtain⟨v',e,h2⟩:=h1;exact⟨v',e,bc.wx hr cs _ hp h2⟩
 |.aJ cs,_,hp,h1=>by simp only[iD]at hp;simp only[VR]at h1⊢;obtain⟨v',e,h2⟩:=h1;exact⟨v',e,bc.wx hr cs _ hp h2⟩
 |.tc _,_,_,h1=>by simpa[VR]using h1
 |.zJ _,_,_,h1=>by simpa[VR]using h1
 |.tH ..,_,_,h1=>by simp only[VR]at h1⊢;exact h1
 |.su ..,_,_,h1=>by simp only[VR]at h1⊢;exact h1
 |.ax cs _ _,v,_,h1=>VR.gW (ψ:=ψ) ⟨fun _ _ h=>(by cases h),hr⟩ (.ax cs _ _) v (φ:=φ.pu) (by simp only[VR]at h1⊢;exact h1)
 |.oU cs,v,_,h1=>VR.gW (ψ:=ψ) ⟨fun _ _ h=>(by cases h),hr⟩ (.oU cs) v (φ:=φ.pu) (by simp only[VR]at h1⊢;exact h1)
 |.ad ..,_,hp,_=>by cases hp
theorem bc.wx{φ ψ:bf}(hr:∀b o,φ.ro b=some o->ψ.ro b=some o):∀(as:LV) (vs:List Value),wv as=true->bc φ as vs->bc ψ as vs
 |[],_,_,h1=>by simpa[bc]using h1
 |a::as,_,hp,h1=>by simp only[wv,cW]at hp;simp only[bc]at h1⊢;obtain⟨v,vs,e,h2,h3⟩:=h1;exact⟨v,vs,e,VR.wx hr a v hp.1 h2,bc.wx hr as vs hp.2 h3⟩
end
theorem VR.pure{φ ψ:bf}(a:AV)(v:Value)(hp:iD a=true)(h:VR φ a v)(hr:∀b o,φ.ro b=some o->ψ.ro b=some o:=by exact fun _ _ h=>h):VR ψ a v:=VR.wx hr a v hp h
theorem bc.yB{φ ψ:bf}(as:LV)(vs:List Value)(hp:wv as=true)(h:bc φ as vs)(hr:∀b o,φ.ro b=some o->ψ.ro b=some o:=by exact fun _ _ h=>h):bc ψ as vs:=bc.wx hr as vs hp h
theorem ya:∀(l:LV),wv l=l.all iD
 |[]=>rfl
 |a::l=>by simp[wv,ya l]
section anl
variable{φ:bf}
theorem nj:bc φ [] []:=by simp[bc]
theorem o8{a:AV}{v:Value}{as:LV}{vs:List Value}:bc φ (a::as) (v::vs)↔VR φ a v∧bc φ as vs:=by
 simp only[bc];constructor
 ·rintro⟨v',eV,e,h1,h2⟩;cases e;exact⟨h1,h2⟩
 ·rintro⟨h1,h2⟩;exact⟨v,vs,rfl,h1,h2⟩
theorem bc.jM:∀{as:LV} {vs:List Value},bc φ as vs->as.length=vs.length
 |[],vs,h=>by simp only[bc]at h;subst h;rfl
 |a::as,vs,h=>by simp only[bc]at h;obtain⟨v,eV,rfl,_,h2⟩:=h;simp[bc.jM h2]
theorem bc.get:∀{as:LV} {vs:List Value},bc φ as vs->∀{i:Nat} {a:AV},as[i]? =some a->∃v,vs[i]? =some v∧VR φ a v
 |[],_,_,i,a,hi=>by simp at hi
 |b::as,vs,h,i,a,hi=>by
  simp only[bc]at h;obtain⟨v,eV,rfl,h1,h2⟩:=h;cases i with
  |zero=>simp at hi;subst hi;exact⟨v,by simp,h1⟩
  |succ i=>simp only[List.getElem?_cons_succ]at hi⊢;exact bc.get h2 hi
theorem bc.rZ:∀{as:LV} {vs:List Value},bc φ as vs->∀n,bc φ (as.take n) (vs.take n)
 |[],_,h,n=>by simp only[bc]at h;subst h;simp[bc]
 |a::as,vs,h,n=>by
  simp only[bc]at h;obtain⟨v,eV,rfl,h1,h2⟩:=h;cases n with
  |zero=>simp[bc]
  |succ n=>simp only[List.take_succ_cons];exact o8.2 ⟨h1,bc.rZ h2 n⟩
theorem bc.uf:∀{as:LV} {vs:List Value},bc φ as vs->∀n,bc φ (as.drop n) (vs.drop n)
 |[],_,h,n=>by simp only[bc]at h;subst h;simp[bc]
 |a::as,vs,h,n=>by
  simp only[bc]at h;obtain⟨v,eV,rfl,h1,h2⟩:=h;cases n with
  |zero=>exact o8.2 ⟨h1,h2⟩
  |succ n=>simp only[List.drop_succ_cons];exact bc.uf h2 n
theorem bc.wR:∀{as bs:LV} {vs ws:List Value},bc φ as vs->bc φ bs ws->bc φ (as++bs) (vs++ws)
 |[],_,vs,_,h,h'=>by simp only[bc]at h;subst h;simpa using h'
 |a::as,_,vs,_,h,h'=>by simp only[bc]at h;obtain⟨v,eV,rfl,h1,h2⟩:=h;simp only[sA];exact o8.2 ⟨h1,bc.wR h2 h'⟩
theorem nk{a:AV}{v:Value}(h:VR φ a v):bc φ [a] [v]:=o8.2 ⟨h,nj⟩
theorem P6{as:LV}{vs:List Value}(hl:as.length=vs.length)(h:∀(i:Nat) (a:AV) (v:Value),as[i]? =some a->vs[i]? =some v->VR φ a v):bc φ as vs:=by
 induction as generalizing vs with
 |nil=>cases vs with
  |nil=>exact nj
  |cons=>simp at hl
 |cons a as ih=>cases vs with
  |nil=>simp at hl
  |cons v vs=>exact o8.2 ⟨h 0 a v rfl rfl,ih (by simpa using hl) (fun i a v h1 h2=>h (i+1) a v (by simpa using h1) (by simpa using h2))⟩
end anl
theorem AV.r8{φ:bf}{a:AV}{v:Value}(h:VR φ a v):bc φ a.ek v.cells.toList:=by
 cases a<;>simp only[AV.ek];case au cs=>simp only[VR]at h;obtain⟨cs',rfl,h⟩:=h;exact h
 case zJ u=>have h':=h;simp only[VR]at h;obtain⟨rfl,h1,_⟩:=h;rw[h1];exact nk h'
 case tH k n ne lo hi=>have h':=h;simp only[VR]at h;obtain⟨rfl,_⟩:=h;exact nk h'
 case su s ne=>have h':=h;simp only[VR]at h;obtain⟨⟨b,rfl,_⟩,_⟩:=h;exact nk h'
 case ax=>have h':=h;simp only[VR]at h;obtain⟨a,c,rfl,_⟩:=h;exact nk h'
 case oU=>have h':=h;simp only[VR]at h;obtain⟨b,x,eC,el,fz,rfl,_⟩:=h;exact nk h'
 case ad=>have h':=h;simp only[VR]at h;rcases h with⟨_,rfl⟩|⟨e,x,c,_,rfl,_⟩<;>exact nk h'
 all_goals
  have h':=h;simp only[VR]at h;first
   |(subst h;exact nk h')
   |(obtain⟨_,_,rfl⟩:=h;exact nk h')
   |(obtain⟨_,rfl,_⟩:=h;exact nk h')
   |(obtain⟨_,_,_,rfl,_⟩:=h;exact nk h')
   |(obtain⟨_,_,_,_,rfl,_⟩:=h;exact nk h')
   |(obtain⟨_,_,rfl,_⟩:=h;exact nk h')
theorem AV.aoi{φ:bf}{a:AV}{v:Value}(h:VR φ a v):v.oneCell'=a.dR:=by
 cases a<;>simp only[VR]at h;case zJ u=>obtain⟨rfl,_,h2⟩:=h;exact h2
 case tH k n ne lo hi=>obtain⟨rfl,_⟩:=h;rfl
 case su s ne=>obtain⟨⟨b,rfl,_⟩,_⟩:=h;rfl
 case ax=>obtain⟨a,c,rfl,_⟩:=h;rfl
 case oU=>obtain⟨b,x,eC,el,fz,rfl,_⟩:=h;rfl
 case ad=>rcases h with⟨_,rfl⟩|⟨e,x,c,_,rfl,_⟩<;>rfl
 all_goals first
  |(subst h;rfl)
  |(obtain⟨_,_,rfl⟩:=h;rfl)
  |(obtain⟨_,rfl,_⟩:=h;rfl)
  |(obtain⟨_,_,_,rfl,_⟩:=h;rfl)
  |(obtain⟨_,_,rfl,_⟩:=h;rfl)
  |(obtain⟨_,_,_,_,rfl,_⟩:=h;rfl)
theorem AV.aee{φ:bf}{as:LV}{vs:List Value}(h:bc φ as vs)(h1:as.all AV.dR=true):∀v∈vs,v.oneCell'=true:=by
 induction as generalizing vs with
 |nil=>simp only[bc]at h;subst h;simp
 |cons a as ih=>
  simp only[bc]at h;obtain⟨v,eV,rfl,h2,h3⟩:=h;simp only[List.all_cons,cW]at h1;intro x hx;rcases List.mem_cons.1 hx with rfl|hx
  ·rw[AV.aoi h2];exact h1.1
  ·exact ih h3 h1.2 x hx
theorem ZU{φ:bf}{v:Value}{a:AV}(h:Ko v=some a):VR φ a v:=by
 unfold Ko at h;split at h<;>first
  |(cases h;done)
  |(injection h with h;subst h;simp[VR];done)
  |skip
 rename_i fn f c;cases hy:tB fn<;>cases hf:f.isEmpty<;>cases hc:c.isEmpty<;>simp[hy,hf,hc]at h;subst h;have h1:f= #[]:=Array.isEmpty_iff.1 hf;have h2:c= #[]:=Array.isEmpty_iff.1 hc;subst h1 h2;exact⟨#[],#[],rfl,hy,nj,nj⟩
theorem ZV{φ:bf}:∀{vs:List Value} {as:LV},Dk vs=some as->bc φ as vs
 |[],as,h=>by simp[Dk]at h;subst h;exact nj
 |v::vs,as,h=>by
  simp only[Dk]at h;split at h
  ·cases h
  ·rename_i a ha;split at h
   ·cases h
   ·rename_i o_ Ht;cases h;exact o8.2 ⟨ZU ha,ZV Ht⟩
theorem QZ{φ:bf}{v:Value}{a:AV}(h:CG v=some a):VR φ a v:=by
 unfold CG at h;split at h
 ·rename_i cs;cases hc:Dk cs.toList with
  |none=>simp[hc]at h
  |some as=>simp[hc]at h;subst h;exact⟨cs,rfl,ZV hc⟩
 ·rename_i cs;cases hc:cs.isEmpty<;>simp[hc]at h;subst h;have:cs= #[]:=Array.isEmpty_iff.1 hc;subst this;exact⟨#[],rfl,nj⟩
 ·exact ZU h
theorem wJ{φ:bf}{P:Program}{t:TypeId}{z:AV}(h:ku P t=some z):∃v,VR φ z v∧∀w,(zeroValue t).run P w=.ok v w:=by
 unfold ku at h;cases hi:P.info? t with
 |none=>simp[hi]at h
 |some i=>
  simp only[hi,Option.bind_some]at h;cases hz:i.zero with
  |none=>simp[hz]at h
  |some v=>simp only[hz,Option.bind_some]at h;exact⟨v,QZ h,fun w=>by simp[zeroValue,run_typeInfo w hi,hz]⟩
theorem iV{P:Program}{t:TypeId}{n:Nat}(h:dw P t=some n)(w:World):(sizeOf t).run P w=.ok n w:=by
 unfold dw at h;cases hi:P.info? t with
 |none=>simp[hi]at h
 |some i=>simp[hi]at h;simp[sizeOf,run_typeInfo w hi,h]
theorem QM{P:Program}{t:TypeId}{n:Nat}(h:uu P t=some n)(w:World):∃i,(typeInfo t).run P w=.ok i w∧i.bytes=n:=by
 unfold uu at h;cases hi:P.info? t with
 |none=>simp[hi]at h
 |some i=>simp[hi]at h;exact⟨i,run_typeInfo w hi,h⟩
theorem Bx{P:Program}{t:TypeId}{b:Bool}(h:zq P t=some b)(w:World):(isAgg t).run P w=.ok b w:=by
 unfold zq at h;cases hu:P.underlying t with
 |none=>simp[hu]at h
 |some d=>cases d<;>simp[hu]at h<;>subst h<;>simp[isAgg,run_underlying hu w]
theorem Vf{α:Type}{P:Program}:∀{s:Sem α} {a:α},yb P s=some a->∀w,s.run P w=.ok a w
 |.pure a,b,h,w=>by simp[yb]at h;subst h;rfl
 |.program k,b,h,w=>by simp only[yb]at h;simp only[Sem.run];exact Vf h w
 |.load ..,_,h,_|.store ..,_,h,_|.new ..,_,h,_|.shape ..,_,h,_|.freeze ..,_,h,_|.frozen ..,_,h,_|.getObj ..,_,h,_
 |.setObj ..,_,h,_|.choose ..,_,h,_|.sys ..,_,h,_|.mark ..,_,h,_|.halt ..,_,h,_=>by simp[yb]at h
def dk(φ:bf):List (AV×AV×Nat)->List MapEntry->Prop
 |[],l=>l=[]
 |(k,v,b)::es,l=>∃m ms,l=m::ms∧VR φ k m.key∧VR φ v m.val∧m.born=b∧dk φ es ms
def DR(φ:bf):ir->Deferred->Prop
 |.wK fn cap args,d=>∃s7 args':Array Value,d={target:=.fn fn s7,args:=args'}∧tB fn=false∧bc φ cap s7.toList∧bc φ args args'.toList
 |.ng r,d=>∃e,φ r=some e∧d={target:=.collected e.b,args:= #[]}
def mK(φ:bf):List ir->List Deferred->Prop
 |[],l=>l=[]
 |a::as,l=>∃d ds,l=d::ds∧DR φ a d∧mK φ as ds
def TR(φ:bf)(t:Tr AV)(nt:Nat)(tmps:Array Value):Prop:=
 tmps.size=nt∧∀i a,t.bV i=some a->∃v,tmps[i]? =some v∧VR φ a v
def OR(φ:bf):aZ->PE->Obj->Prop
 |.aw vs _,e,o=>∃cs el,o=.cells cs el (0,0)∧cs.size=e.n∧e.o+vs.length<=e.n∧bc φ vs ((cs.toList.drop e.o).take vs.length)∧vs.all AV.dR=true
 |.bC es cT p,_,o=>∃bw:Array MapEntry,o=.map bw cT∧dk φ es bw.toList∧(p=true->dk φ.pu es bw.toList)
 |.qN s pos,e,o=>∃b,o=.stringIter b pos∧fo b=s∧e.o=0
 |.rY m nK im yo,e,o=>∃m',o=.mapIter m' nK im.toArray yo∧e.o=0∧(match m with|none=>m'=none|some id=>∃e,φ id=some e∧m'=some e.b)
 |.gb st p fn tmps nt ps a b d,_,o=>∃nc ed,o=.loop {state:=st,pending:=p,fn,tmps:=nc,params:=ps.toArray,assign:=a,body:=b,defers:=ed.b}∧φ d=some ed∧TR φ tmps nt nc
 |.ot ds,_,o=>(match ds with|none=>o=.deferred none|some l=>∃l',o=.deferred (some l')∧mK φ l l')
 |.b9 _,_,_=>True
 |.u7 z n _,e,o=>∃cs el,o=.cells cs el (0,0)∧cs.size=e.n∧e.o+(iU z n).length<=e.n∧bc φ (iU z n) ((cs.toList.drop e.o).take (iU z n).length)∧(iU z n).all AV.dR=true
 |.eh vs _,e,o=>∃cs el,o=.cells cs el (0,0)∧cs.size=e.n∧e.o+vs.length<=e.n∧bc φ.pu vs ((cs.toList.drop e.o).take vs.length)∧vs.all AV.dR=true
 |.aF vs _,e,o=>∃cs el,o=.cells cs el (0,0)∧cs.size=e.n∧e.o+vs.length<=e.n∧bc φ.pu vs ((cs.toList.drop e.o).take vs.length)∧vs.all AV.dR=true
 |.Qx es,_,o=>∃(l:List (AV×AV×Nat)) (bw:Array MapEntry) (cT:Nat),o=.map bw cT∧(l.map fun x=>(x.1,x.2.1)).Perm es∧dk φ l bw.toList
theorem Yv{φ χ:bf}(h:eg φ χ){vs:LV}{el ic:TypeId}{e:PE}{o:Obj}(ho:OR φ.pu (.aw vs el) e o):OR χ (.eh vs ic) e o:=
 let⟨cs,jT,h1,h2,h3,h4,h5⟩:=ho
 ⟨cs,jT,h1,h2,h3,bc.kQ h.pu _ _ h4,h5⟩
theorem PD{φ χ:bf}(h:eg φ χ){vs:LV}{el ic:TypeId}{e:PE}{o:Obj}(ho:OR φ.pu (.aw vs el) e o):OR χ (.aF vs ic) e o:=
 let⟨cs,jT,h1,h2,h3,h4,h5⟩:=ho
 ⟨cs,jT,h1,h2,h3,bc.kQ h.pu _ _ h4,h5⟩
def aZ.aU:aZ->Bool
 |.b9 _=>false
 |_=>true
abbrev dX:=Nat->Prop
def gA(base:dX)(w:World):Prop:=∀b,base b->b<w.heap.size
def M6(w:World):dX:=fun b=>b<w.heap.size
theorem gA.old(w:World):gA (M6 w) w:=fun _ h=>h
theorem gA.CB{base:dX}{w w':World}(h:gA base w)(cI:w.heap.size<=w'.heap.size):gA base w':=fun b hb=>Nat.lt_of_lt_of_le (h b hb) cI
structure WR(φ:bf)(base:dX)(H:AH)(w:World):Prop where
 ey:∀id ob e,H.bu id=some ob->φ id=some e->∃o,w.heap[e.b]? =some o∧OR φ ob e o
 kx:∀id iC ob bW e e',H.bu id=some ob->ob.aU=true->φ id=some e->H.bu iC=some bW->bW.aU=true->φ iC=some e'->e.b=e'.b->id=iC
 lt:∀id e,φ id=some e->e.b<w.heap.size∧¬base e.b∧id<H.bL
 nx:∀id ob,H.bu id=some ob->id<H.bL
 ro:∀b o,φ.ro b=some o->(¬base b∧w.heap[b]? =some o)∧∀id ob e,H.bu id=some ob->ob.aU=true->φ id=some e->e.b≠b
theorem WR.sE{φ aW:bf}{base:dX}{H H':AH}{w w':World}(hw:WR φ base H w)(hr:aW.ro=φ.ro)(hh:∀b o,φ.ro b=some o->w'.heap[b]? =w.heap[b]?)
 (hs:∀id ob e,H'.bu id=some ob->ob.aU=true->aW id=some e->(∃j ec e0,H.bu j=some ec∧ec.aU=true∧φ j=some e0∧e0.b=e.b)∨w.heap.size<=e.b):
 ∀b o,aW.ro b=some o->(¬base b∧w'.heap[b]? =some o)∧∀id ob e,H'.bu id=some ob->ob.aU=true->aW id=some e->e.b≠b:=by
 intro b o hb;rw[hr]at hb;obtain⟨⟨h1,h2⟩,h3⟩:=hw.ro b o hb;refine⟨⟨h1,(hh b o hb).trans h2⟩,fun id ob e k1 k2 k3 iR=>?_⟩;rcases hs id ob e k1 k2 k3 with⟨j,ec,e0,q1,q2,q3,q4⟩|q
 ·exact h3 j ec e0 q1 q2 q3 (q4.trans iR)
 ·have:=(Array.getElem?_eq_some_iff.1 h2).1;omega
theorem WR.apC{φ:bf}{base:dX}{H:AH}{w:World}(hw:WR φ base H w){b:Nat}{o:Obj}(h:φ.ro b=some o):b<w.heap.size:=(Array.getElem?_eq_some_iff.1 (hw.ro b o h).1.2).1
def mr(φ:bf)(ρ:Operand->Option AV)(ev:Operand->Value)(l:List Operand):Prop:=∀x∈l,∀a,ρ x=some a->VR φ a (ev x)
theorem mr.of{φ:bf}{ρ:Operand->Option AV}{ev:Operand->Value}{l:List Operand}(h:mr φ ρ ev l){x:Operand}(hx:x∈l){a:AV}(ha:ρ x=some a):VR φ a (ev x):=h x hx a ha
theorem mr.nR{φ:bf}{ρ:Operand->Option AV}{ev:Operand->Value}{l l':List Operand}(h:mr φ ρ ev l)(hs:∀x∈l',x∈l):mr φ ρ ev l':=fun x hx=>h x (hs x hx)
theorem yL{φ:bf}{ρ:Operand->Option AV}{ev:Operand->Value}:∀{l:List Operand} {as:LV},mr φ ρ ev l->sZ ρ l=some as->bc φ as (l.map ev)
 |[],as,_,h=>by simp[sZ]at h;subst h;exact nj
 |x::l,as,hr,h=>by
  simp only[sZ]at h;split at h
  ·cases h
  ·rename_i a ha;split at h
   ·cases h
   ·rename_i o_ Ht;cases h;exact o8.2 ⟨hr x (by simp) a ha,yL (hr.nR (fun y hy=>by simp[hy])) Ht⟩
theorem aou{φ:bf}{ρ:Operand->Option AV}{ev:Operand->Value}{x:Option Operand}{r:Option AV}(hr:mr φ ρ ev x.toList)(h:p8 ρ x=some r):
 (r=none∧x.map ev=none)∨(∃a v,r=some a∧x.map ev=some v∧VR φ a v):=by
 cases x with
 |none=>simp[p8]at h;subst h;exact .inl ⟨rfl,rfl⟩
 |some x=>
  simp only[p8]at h;cases hx:ρ x with
  |none=>simp[hx]at h
  |some a=>simp[hx]at h;subst h;exact .inr ⟨a,ev x,rfl,rfl,hr x (by simp) a hx⟩
section Fv
variable{P:Program}{φ:bf}{base:dX}{H:AH}{w:World}
theorem WR.CE(hw:WR φ base H w){id:Nat}{vs:LV}{e:PE}(h:H.nP id=some vs)(he:φ id=some e):
 ∃cs el,w.heap[e.b]? =some (.cells cs el (0,0))∧cs.size=e.n∧e.o+vs.length<=e.n∧bc φ vs ((cs.toList.drop e.o).take vs.length)∧vs.all AV.dR=true:=by
 unfold AH.nP at h;split at h
 ·rename_i ho;cases h;obtain⟨o,h1,h2⟩:=hw.ey id _ e ho he;obtain⟨cs,el,rfl,h3⟩:=h2;exact⟨cs,el,h1,h3⟩
 ·rename_i ho;cases h;obtain⟨o,h1,h2⟩:=hw.ey id _ e ho he;obtain⟨cs,el,rfl,h3⟩:=h2;exact⟨cs,el,h1,h3⟩
 ·rename_i ho;cases h;obtain⟨o,h1,h2⟩:=hw.ey id _ e ho he;obtain⟨cs,el,rfl,h3,h4,h5,h6⟩:=h2;exact⟨cs,el,h1,h3,h4,bc.kQ (eg.BT φ) _ _ h5,h6⟩
 ·rename_i ho;cases h;obtain⟨o,h1,h2⟩:=hw.ey id _ e ho he;obtain⟨cs,el,rfl,h3,h4,h5,h6⟩:=h2;exact⟨cs,el,h1,h3,h4,bc.kQ (eg.BT φ) _ _ h5,h6⟩
 ·cases h
theorem yg{l r:LV}{off n:Nat}(h:oN l off n=some r):r=(l.drop off).take n∧r.length=n:=by
 unfold oN at h;simp only at h;cases hb:Nat.beq ((l.drop off).take n).length n
 ·rw[hb]at h;cases h
 ·rw[hb]at h;cases h;exact⟨rfl,eu hb⟩
theorem Uv{r:Option LV}{v:AV}(h:r.map AV.au=some v):∃l,r=some l∧v=.au l:=by
 cases r with
 |none=>cases h
 |some l=>cases h;exact⟨l,rfl,rfl⟩
theorem Ng{t:TypeId}{cs:LV}{cs':Array Value}{off:Nat}{v:AV}(hc:bc φ cs cs'.toList)(h:bQ P t cs off=some v)(w:World):
 ∃v',(part t cs' off).run P w=.ok v' w∧VR φ v v':=by
 unfold bQ at h;split at h
 ·rename_i ha;split at h
  ·rename_i s hs;obtain⟨l,hl,rfl⟩:=Uv h;obtain⟨rfl,bF⟩:=yg hl;refine⟨.agg (cs'.extract off (off+s)),?_,?_⟩
   ·simp[part,Bx ha w,iV hs w]
   ·refine⟨_,rfl,?_⟩;have:=(hc.uf off).rZ s;have e:(cs'.extract off (off+s)).toList=(cs'.toList.drop off).take s:=by simp
    rw[e];exact this
  ·cases h
 ·rename_i ha;obtain⟨v',h1,h2⟩:=hc.get h;refine⟨v',?_,h2⟩;have h3:cs'[off]? =some v':=by simpa using h1
  simp[part,Bx ha w,h3]
 ·cases h
theorem ye{b o n:Nat}{cs:Array Value}{el:TypeId}{fz:Nat×Nat}(hg:w.heap[b]? =some (.cells cs el fz))(h:o+n<=cs.size):
 (loadCells ⟨b,o,none⟩ n).run P w=.ok ((cs.toList.drop o).take n).toArray w:=by
 have hl:((cs.toList.drop o).take n).length=n:=by simp;omega
 have:=run_loadCells_list (P:=P) w ⟨b,o,none⟩ ((cs.toList.drop o).take n) (fun j v hv=>by
  have alr:(⟨b,o,none⟩:Addr).add j=⟨b,o+j,none⟩:=by unfold Addr.add;split<;>simp_all
  rw[alr,cell_of_row w b (o+j) cs el fz hg];have hj:j<n:=by
   rcases Nat.lt_or_ge j n with h1|h1
   ·exact h1
   ·rw[List.getElem?_eq_none (by simp;omega)]at hv;cases hv
  rw[List.getElem?_take_of_lt hj,List.getElem?_drop]at hv;simpa using hv)
 rwa[hl]at this
theorem Us(hw:WR φ base H w){t:TypeId}{id off:Nat}{v:AV}{e:PE}(h:rB P H t id off=some v)(he:φ id=some e):
 ∃v',(loadVar t ⟨e.b,e.o+off,none⟩).run P w=.ok v' w∧VR φ v v':=by
 unfold rB at h;split at h
 ·cases h
 ·rename_i vs iB;obtain⟨cs,el,hg,cJ,cI,hv,h1⟩:=hw.CE iB he;unfold bQ at h;split at h
  ·rename_i ha;split at h
   ·rename_i s hs;obtain⟨l,hl,rfl⟩:=Uv h;obtain⟨rfl,bF⟩:=yg hl;by_cases hs0:s=0
    ·subst hs0;refine⟨.agg #[],?_,?_⟩
     ·simp[loadVar,Bx ha w,iV hs w,loadCells,loadCellsFrom]
     ·refine⟨#[],rfl,?_⟩;simp[bc]
    ·have kc:off+s<=vs.length:=by simp at bF;omega
     refine⟨.agg ((cs.toList.drop (e.o+off)).take s).toArray,?_,?_⟩
     ·simp[loadVar,Bx ha w,iV hs w,ye (P:=P) hg (show e.o+off+s<=cs.size by omega)]
     ·refine⟨_,rfl,?_⟩;have h2:=(hv.uf off).rZ s;have e2:(((cs.toList.drop e.o).take vs.length).drop off).take s=(cs.toList.drop (e.o+off)).take s:=by rw[List.drop_take,List.drop_drop,List.take_take];congr 1;omega
      rw[e2]at h2;simpa using h2
   ·cases h
  ·rename_i ha;obtain⟨v',h2,h3⟩:=hv.get h;have aj:off<vs.length:=by
    rcases Nat.lt_or_ge off vs.length with h|h'
    ·exact h
    ·rw[List.getElem?_eq_none h']at h;cases h
   rw[List.getElem?_take_of_lt aj,List.getElem?_drop]at h2;refine⟨v',?_,h3⟩;have Eh:w.cell? ⟨e.b,e.o+off,none⟩=some v':=by rw[cell_of_row w e.b (e.o+off) cs el (0,0) hg];simpa using h2
   simp[loadVar,Bx ha w,Eh]
  ·cases h
theorem anq{t:TypeId}{cs:LV}{b x:Nat}{eC:Array Value}{el:TypeId}{fz:Nat×Nat}{v:AV}(h:bQ P t cs 0=some v)(hg:w.heap[b]? =some (.cells eC el fz))
 (cJ:x+cs.length<=eC.size) (hc:bc φ cs ((eC.toList.drop x).take cs.length)):∃v',(loadVar t ⟨b,x,none⟩).run P w=.ok v' w∧VR φ v v':=by
 unfold bQ at h;split at h
 ·rename_i ha;split at h
  ·rename_i s hs;obtain⟨l,hl,rfl⟩:=Uv h;obtain⟨rfl,bF⟩:=yg hl;have kc:s<=cs.length:=by simp at bF;omega
   refine⟨.agg ((eC.toList.drop x).take s).toArray,?_,?_⟩
   ·simp[loadVar,Bx ha w,iV hs w,ye (P:=P) hg (show x+s<=eC.size by omega)]
   ·refine⟨_,rfl,?_⟩;have h2:=hc.rZ s;rw[List.take_take,Nat.min_eq_left kc]at h2;simpa using h2
  ·cases h
 ·rename_i ha;obtain⟨v',h2,h3⟩:=hc.get h;have aj:0<cs.length:=by
   rcases Nat.lt_or_ge 0 cs.length with h|h'
   ·exact h
   ·rw[List.getElem?_eq_none h']at h;cases h
  rw[List.getElem?_take_of_lt aj,List.getElem?_drop]at h2;refine⟨v',?_,h3⟩;have Eh:w.cell? ⟨b,x,none⟩=some v':=by rw[cell_of_row w b x eC el fz hg];simpa using h2
  simp[loadVar,Bx ha w,Eh]
 ·cases h
end Fv
theorem kD:∀(l m:LN),dh l m=decide (l=m)
 |[],[]=>by simp[dh]
 |[],_::_=>by simp[dh]
 |_::_,[]=>by simp[dh]
 |a::l,b::m=>by rw[dh,Tr.uZ,Tr.Gz,kD l m];by_cases h:a=b<;>simp[h]
theorem WM{a b:ByteArray}(h:fo a=fo b):a=b:=by obtain⟨⟨x⟩⟩:=a;obtain⟨⟨y⟩⟩:=b;simp only[fo]at h;have:x=y:=List.map_inj_right (fun u v e=>UInt8.toNat_inj.1 e)|>.1 h;rw[this]
theorem tS(b:ByteArray):(fo b).length=b.size:=by simp[fo]
theorem av6(a b:ByteArray):fo (a++b)=fo a++fo b:=by simp[fo]
theorem ayg(b:ByteArray):∀x∈fo b,x<256:=by intro x hx;simp only[fo,List.mem_map]at hx;obtain⟨u,_,rfl⟩:=hx;exact u.toNat_lt
theorem Jc(a b:ByteArray):(a.toList==b.toList)=decide (fo a=fo b):=by
 rw[ByteArray.toList_eq,ByteArray.toList_eq];by_cases h:fo a=fo b
 ·have:=WM h;subst this;simp
 ·have:a.data≠b.data:=fun e=>h (by simp only[fo,e])
  simp[h,this]
theorem acZ:∀(l m:List UInt8),Op.bytesLess l m=wg (l.map UInt8.toNat) (m.map UInt8.toNat)
 |l,[]=>by cases l<;>simp[Op.bytesLess,wg]
 |[],_::_=>by simp[Op.bytesLess,wg]
 |a::l,b::m=>by
  simp only[Op.bytesLess,List.map_cons,wg];rw[acZ l m];have h1:Nat.ble (a.toNat+1) b.toNat=decide (a<b):=by rw[Bool.eq_iff_iff];simp[UInt8.lt_iff_toNat_lt];omega
  have h2:Nat.beq a.toNat b.toNat=decide (a=b):=by rw[Tr.uZ];simp[UInt8.toNat_inj]
  rw[h1,h2];by_cases h:a<b
  ·simp[h]
  ·by_cases e:a=b<;>simp[h,e]
theorem aiQ(a b:ByteArray):Op.bytesLess a.toList b.toList=wg (fo a) (fo b):=by rw[ByteArray.toList_eq,ByteArray.toList_eq,acZ];rfl
section
variable{P:Program}{φ:bf}{base:dX}{H:AH}{w:World}
theorem ai8{op:BinOp}{a b:ByteArray}{v:AV}(h:QS op (fo a) (fo b)=some v)(w:World):
 ∃v',(Op.stringOp op a b).run P w=.ok v' w∧VR φ v v':=by
 unfold QS at h;split at h
 ·cases hb:Nat.ble ((fo a).length+(fo b).length) 1000000
  ·rw[hb]at h;cases h
  ·rw[hb]at h;cases h;refine⟨.string (a++b),?_,⟨_,rfl,av6 a b⟩⟩;have cI:=Nat.le_of_ble_eq_true hb;rw[tS,tS]at cI;have:¬(((a.size+b.size:Nat):Int)>IntKind.i64.max):=by
    have:IntKind.i64.max=9223372036854775807:=by rfl
    rw[this];omega
   simp only[Op.stringOp,aB this,Sem.run_pure]
 all_goals first
  |(cases h
    refine⟨_,rfl,?_⟩;simp only[VR,aiQ,Jc,kD];try simp
    done)
  |(cases h;done)
theorem Ly{ne:List LN}{s l:LN}(h:Ee ne l=true)(hs:∀c∈ne,s≠c):s≠l:=by unfold Ee at h;obtain⟨c,hc,he⟩:=List.any_eq_true.1 h;rw[kD]at he;have:=gh he;subst this;exact hs _ hc
theorem Zu{lo:Option Int}{m n:Int}(h:EJ lo n=true)(hl:∀l,lo=some l->l<=m):n<m:=by
 cases lo with
 |none=>cases h
 |some l=>have:=hl l rfl;have h':n<l:=gh h;omega
theorem YZ{hi:Option Int}{m n:Int}(h:EI hi n=true)(hl:∀l,hi=some l->m<=l):m<n:=by
 cases hi with
 |none=>cases h
 |some l=>have:=hl l rfl;have h':l<n:=gh h;omega
theorem aaL{lo hi:Option Int}{ne:LI}{m n:Int}(h:(EJ lo n||EI hi n||ne.contains n)=true)(di:∀c∈ne,m≠c)(ke:∀l,lo=some l->l<=m)(lK:∀l,hi=some l->m<=l):m≠n:=by
 simp only[Bool.or_eq_true]at h;rcases h with(h|h)|h
 ·have:=Zu h ke;omega
 ·have:=YZ h lK;omega
 ·exact di n (by simpa using h)
set_option maxHeartbeats 1000000 in
theorem Rx:∀(d:Nat) (t:TypeId) (x y:AV) (r:Bool) (vx vy:Value),ie P d t x y=some r->VR φ x vx->VR φ y vy->∀(D:Nat),d<=D->∀w,(Op.equalIn D t vx vy).run P w=.ok r w:=by
 intro d;induction d with
 |zero=>intro t x y r vx vy h;simp[ie]at h
 |succ d ih=>
  intro t x y r vx vy h hx hy D hD w;obtain⟨D,rfl⟩:∃D',D=D'+1:=⟨D-1,by omega⟩;simp only[ie]at h;split at h;case h_24=>
   rename_i gn xs ys hu;obtain⟨xs',rfl,TQ⟩:=hx;obtain⟨qg,rfl,hys⟩:=hy;cases gC:P.stoodInHeld t;case true=>rw[gC]at h;cases h
   rw[gC]at h;simp only[cond_false]at h;have hf:P.fieldsOf t=gn:=by simp[Program.fieldsOf,hu]
   rw[run_equalIn_struct w D t xs' qg (by rw[hf];exact hu) gC,hf];generalize gn.toList=fs at h;clear hu hf;induction fs generalizing w with
   |nil=>simp[ie.At]at h;subst h;simp[Op.eqFields]
   |cons f fs ihf=>
    simp only[ie.At]at h;split at h
    ·cases h
    ·rename_i hn;split at h
     ·rename_i a b ha hb;obtain⟨va,h1,h2⟩:=Ng TQ ha w;obtain⟨vb,h3,h4⟩:=Ng hys hb w;simp only[Op.eqFields];rw[aY hn];simp only[Sem.run_bind,h1,h3,Result.andThen_ok];split at h
      ·rename_i he;rw[ih _ _ _ _ _ _ he h2 h4 D (by omega) w];simp only[Result.andThen_ok];exact ihf w h
      ·rename_i he;rw[ih _ _ _ _ _ _ he h2 h4 D (by omega) w];cases h;simp
      ·cases h
     ·cases h
  case h_23=>
   rename_i ms tx va ty vb hu;obtain⟨va',rfl,h1⟩:=hx;obtain⟨vb',rfl,h2⟩:=hy;cases hb:Nat.beq tx ty
   ·rw[hb]at h;cases h;have:tx≠ty:=by intro e;subst e;simp at hb
    simp[Op.equalIn,run_underlying hu w,this]
   ·rw[hb]at h;have:tx=ty:=eu hb;subst this;simp only[cond_true]at h;split at h
    ·rename_i i hi;cases hc:i.comparable
     ·rw[hc]at h;cases h
     ·rw[hc]at h;simp only[cond_true]at h;simp[Op.equalIn,run_underlying hu w,run_typeInfo w hi,hc,ih _ _ _ _ _ _ h h1 h2 D (by omega) w]
    ·cases h
  all_goals
   try (cases h;done)
  all_goals
   simp only[VR]at hx hy
  all_goals rename_i hu
  case h_2=>
   subst hx hy;split at h
   ·rename_i hk;subst hk;cases h;simp[Op.equalIn,run_underlying hu w]
   ·cases h
  case h_3=>obtain⟨a,rfl,rfl⟩:=hx;obtain⟨b,rfl,rfl⟩:=hy;cases h;rw[run_equalIn_string w D t a b hu,Jc,kD]
  case h_4=>obtain⟨⟨a,rfl,rfl⟩,di⟩:=hx;obtain⟨b,rfl,rfl⟩:=hy;obtain⟨hb,h⟩:=c6 h;cases h;rw[run_equalIn_string w D t a b hu,Jc];simp[Ly hb di]
  case h_5=>obtain⟨a,rfl,rfl⟩:=hx;obtain⟨⟨b,rfl,rfl⟩,di⟩:=hy;obtain⟨hb,h⟩:=c6 h;cases h;rw[run_equalIn_string w D t a b hu,Jc];simp[Ne.symm (Ly hb di)]
  case h_6=>
   obtain⟨rfl,h1,h2,h3⟩:=hx;subst hy;split at h
   ·rename_i hk;subst hk;obtain⟨hb,h⟩:=c6 h;cases h;simp[Op.equalIn,run_underlying hu w,aaL hb h1 h2 h3]
   ·cases h
  case h_7=>
   obtain⟨rfl,h1,h2,h3⟩:=hy;subst hx;split at h
   ·rename_i hk;subst hk;obtain⟨hb,h⟩:=c6 h;cases h;simp[Op.equalIn,run_underlying hu w,Ne.symm (aaL hb h1 h2 h3)]
   ·cases h
  all_goals cases h
  all_goals first
   |(subst hx hy;simp[Op.equalIn,run_underlying hu w];done)
   |(obtain⟨_,_,rfl⟩:=hx;subst hy;simp[Op.equalIn,run_underlying hu w];done)
   |(obtain⟨_,_,rfl⟩:=hy;subst hx;simp[Op.equalIn,run_underlying hu w];done)
   |(obtain⟨_,_,_,rfl,_⟩:=hx;subst hy;simp[Op.equalIn,run_underlying hu w];done)
   |(obtain⟨_,_,_,rfl,_⟩:=hy;subst hx;simp[Op.equalIn,run_underlying hu w];done)
   |(obtain⟨_,_,_,_,rfl,_⟩:=hx;subst hy;simp[Op.equalIn,run_underlying hu w];done)
   |(obtain⟨_,_,_,_,rfl,_⟩:=hy;subst hx;simp[Op.equalIn,run_underlying hu w];done)
   |(obtain⟨_,_,rfl,_⟩:=hx;subst hy;simp[Op.equalIn,run_underlying hu w];done)
   |(obtain⟨_,_,rfl,_⟩:=hy;subst hx;simp[Op.equalIn,run_underlying hu w];done)
   |(obtain⟨_,rfl,_⟩:=hx;subst hy;simp[Op.equalIn,run_underlying hu w];done)
   |(obtain⟨_,rfl,_⟩:=hy;subst hx;simp[Op.equalIn,run_underlying hu w];done)
end
section
variable{P:Program}{φ:bf}{base:dX}{H:AH}{w:World}
theorem akR(l:List Value):∀(k off:Nat) (cs:Array Value),off+k+l.length<=cs.size->
 ((l.zipIdx k).foldl (fun cs (c,j)=>cs.setIfInBounds (off+j) c) cs).toList=cs.toList.take (off+k)++(l++cs.toList.drop (off+k+l.length)):=by
 induction l with
 |nil=>intro k off cs h;simp
 |cons v l ih=>
  intro k off cs h;simp only[dv]at h;rw[List.zipIdx_cons,iy,ih (k+1) off _ (by simp;omega)];apply List.ext_getElem?;intro i;simp only[Array.toList_setIfInBounds,List.getElem?_append,List.length_take,List.length_set,Array.length_toList,List.getElem?_take,List.getElem?_set,List.getElem?_drop,dv];by_cases h1:i<off+k
  ·have h2:i<off+(k+1):=by omega
   have h3:¬(off+k=i):=by omega
   simp[h1,h2,h3,show min (off+(k+1)) cs.size=off+(k+1)by omega,show min (off+k) cs.size=off+k by omega]
  ·by_cases h2:i=off+k
   ·subst h2;simp[show min (off+(k+1)) cs.size=off+(k+1)by omega,show min (off+k) cs.size=off+k by omega,show off+k<off+(k+1)by omega,show off+k<cs.size by omega]
   ·have h3:¬i<off+(k+1):=by omega
    obtain⟨j,rfl⟩:∃j,i=off+k+1+j:=⟨i-(off+k+1),by omega⟩;simp only[show min (off+(k+1)) cs.size=off+(k+1)by omega,show min (off+k) cs.size=off+k by omega,aB h1,aB h3];have e1:off+k+1+j-(off+(k+1))=j:=by omega
    have e2:off+k+1+j-(off+k)=j+1:=by omega
    rw[e1,e2];simp only[List.getElem?_cons_succ];by_cases h4:j<l.length
    ·simp[h4]
    ·simp only[aB h4,show¬(j+1<l.length+1)by omega,if_false];have e3:off+(k+1)+l.length+(j-l.length)=off+k+(l.length+1)+(j+1-(l.length+1)):=by omega
     rw[e3];simp;intro e;omega
theorem So:∀(n:Nat) (l:LV),abB n l=Nat.ble n l.length
 |0,_=>rfl
 |_+1,[]=>rfl
 |n+1,_::l=>(So n l).trans rfl
theorem Vi{l cs r:LV}{off:Nat}(h:rK l off cs=some r):off+cs.length<=l.length∧r=l.take off++(cs++l.drop (off+cs.length)):=by
 unfold rK at h;rw[So]at h;cases hb:Nat.ble (off+cs.length) l.length
 ·rw[hb]at h;cases h
 ·rw[hb]at h;cases h;exact⟨Nat.le_of_ble_eq_true hb,rfl⟩
theorem bc.put{l cs:LV}{l' cs':List Value}{off:Nat}(hl:bc φ l l')(hc:bc φ cs cs'):bc φ (l.take off++(cs++l.drop (off+cs.length))) (l'.take off++(cs'++l'.drop (off+cs'.length))):=by rw[←hc.jM];exact(hl.rZ off).wR (hc.wR (hl.uf _))
def JS(φ:bf)(ps:List (Nat×AV))(qL:List (Nat×Value)):Prop:=ps.map (·.1)=qL.map (·.1)∧bc φ (ps.map (·.2)) (qL.map (·.2))
theorem J8{ρ:Operand->Option AV}{ev:Operand->Value}:∀{l:List (Nat×Operand)} {ps:List (Nat×AV)},mr φ ρ ev (l.map (·.2))->Db ρ l=some ps->JS φ ps (l.map fun p=>(p.1,ev p.2))
 |[],ps,_,h=>by simp[Db]at h;subst h;exact⟨rfl,nj⟩
 |(i,x)::l,ps,hr,h=>by
  simp only[Db]at h;split at h
  ·cases h
  ·rename_i a ha;split at h
   ·cases h
   ·rename_i as Ht;cases h;have h1:=J8 (l:=l) (hr.nR (fun y hy=>by simp only[List.map_cons,sy];exact .inr hy)) Ht;exact⟨by simp[h1.1],o8.2 ⟨hr x (by simp) a ha,h1.2⟩⟩
theorem KX{pl:Nat->Option (Nat×Nat)}:∀{ps:List (Nat×AV)} {qL:List (Nat×Value)} {cs r:LV} {cs':Array Value},JS φ ps qL->bc φ cs cs'.toList->vM pl cs ps=some r->
 ∃r',Instr.fill pl cs' qL=some r'∧bc φ r r'.toList
 |[],qL,cs,r,cs',hp,hc,h=>by
  have:qL=[]:=by have:=hp.1;simpa using this.symm
  subst this;simp only[vM]at h;cases h;exact⟨cs',rfl,hc⟩
 |(i,v)::ps,[],_,_,_,hp,_,_=>by have:=hp.1;simp at this
 |(i,v)::ps,(i',v')::qL,cs,r,cs',hp,hc,h=>by
  obtain⟨h1,h2⟩:=hp;simp only[List.map_cons,List.cons.injEq]at h1;obtain⟨rfl,h1⟩:=h1;simp only[List.map_cons]at h2;obtain⟨hv,h2⟩:=o8.1 h2;simp only[vM]at h;split at h
  ·cases h
  ·rename_i off size kH;cases hb:Nat.beq v.ek.length size
   ·rw[hb]at h;cases h
   ·rw[hb]at h;simp only[cond_true]at h;have cJ:v.ek.length=size:=eu hb;split at h
    ·cases h
    ·rename_i Q1 Ez;obtain⟨cI,rfl⟩:=Vi Ez;have hcv:=AV.r8 hv;have pQ:=hcv.jM;have jy:=hc.jM;have LL:=akR v'.cells.toList 0 off cs' (by simp at pQ jy⊢;omega);simp only[Nat.add_zero]at LL;have Tj:=bc.put (off:=off) hc hcv;obtain⟨r',h3,h4⟩:=KX (ps:=ps) (qL:=qL) (cs':=v'.cells.zipIdx.foldl (fun cs (c,j)=>cs.setIfInBounds (off+j) c) cs') ⟨h1,h2⟩ (by rw[←Array.foldl_toList,Array.toList_zipIdx,LL];exact Tj) h;refine⟨r',?_,h4⟩;simp only[Instr.fill,kH];have LB:¬(v'.cells.size≠size):=by simp at pQ;omega
     have hc2:¬(off+v'.cells.size>cs'.size):=by simp at pQ jy;omega
     simpa[LB,hc2]using h3
theorem aoM{gn:Array Field}{pl:List (Nat×Nat)}(h:Va P gn=some pl)(w:World):
 (gn.mapM fun f=>do pure (f.offset,←sizeOf f.type):Sem _).run P w=.ok pl.toArray w:=by
 rw[Array.mapM_eq_mapM_toList,Sem.run_map];unfold Va at h;have:∀(fs:List Field) (pl:List (Nat×Nat)),(fs.mapM fun f=>(dw P f.type).map fun s=>(f.offset,s))=some pl->((fs.mapM fun f=>do pure (f.offset,←sizeOf f.type):Sem _)).run P w=.ok pl w:=by
  intro fs;induction fs with
  |nil=>intro pl h;simp at h;subst h;simp
  |cons f fs ih=>
   intro pl h;rw[List.mapM_cons]at h⊢;cases hs:dw P f.type with
   |none=>simp[hs]at h
   |some s=>
    simp only[hs,Option.map_some,Option.bind_eq_bind,Option.bind_some]at h;cases hm:(fs.mapM fun f=>(dw P f.type).map fun s=>(f.offset,s))with
    |none=>simp[hm]at h
    |some pl'=>simp[hm]at h;subst h;have:=ih _ hm;simp[iV hs w]at this⊢;simp[this]
 rw[this _ _ h];rfl
end
section
variable{P:Program}{φ:bf}{base:dX}{H:AH}{w:World}
theorem ad3{v:Value}{a:AV}(h:M0 v=some a):VR φ a v:=by unfold M0 at h;split at h<;>first|(cases h;simp[VR];done)|cases h
theorem ake{op:BinOp}{t:TypeId}{a b v:AV}{va vb:Value}(ha:VR φ a va)(hb:VR φ b vb)(h:DI P op t a b=some v)(w:World):
 ∃r,(Op.equal t va vb).run P w=.ok r w∧((op=.eql∧v=.ai r)∨(op=.neq∧v=.ai (!r))):=by
 unfold DI at h;split at h
 ·cases he:ie P 100 t a b with
  |none=>simp[he]at h
  |some r=>simp[he]at h;exact⟨r,Rx 100 t a b r va vb he ha hb Op.maxDepth (by simp[Op.maxDepth]) w,.inl ⟨rfl,h.symm⟩⟩
 ·cases he:ie P 100 t a b with
  |none=>simp[he]at h
  |some r=>simp[he]at h;exact⟨r,Rx 100 t a b r va vb he ha hb Op.maxDepth (by simp[Op.maxDepth]) w,.inr ⟨rfl,h.symm⟩⟩
 ·cases h
inductive vr:Nat->Value->Prop
 |bool (b:Bool):vr 0 (.bool b)
 |ab (a:Option Addr):vr 1 (.pointer a)
 |slice (a:Option Addr) (n c:Nat):vr 2 (.slice a n c)
 |map (a:Option Nat):vr 3 (.map a)
 |func (fn:Fn) (f c:Array Value):vr 4 (.func fn f c)
 |nilFunc:vr 4 .nilFunc
 |iface (t:TypeId) (v:Value):vr 5 (.iface t v)
 |nilIface:vr 5 .nilIface
 |agg (cs:Array Value):vr 6 (.agg cs)
theorem K6{a:AV}{v:Value}(h:VR φ a v)(hk:mW a≠9):vr (mW a) v:=by
 cases a<;>simp only[VR]at h;all_goals first
  |(subst h;constructor;done)
  |(obtain⟨_,_,rfl⟩:=h;constructor;done)
  |(obtain⟨_,rfl,_⟩:=h;constructor;done)
  |(obtain⟨_,_,rfl,_⟩:=h;constructor;done)
  |(obtain⟨_,_,_,rfl,_⟩:=h;constructor;done)
  |(obtain⟨_,_,_,_,rfl,_⟩:=h;constructor;done)
  |(exact absurd rfl hk)
theorem akd{op:BinOp}{t:TypeId}{x y:Operand}{a b:AV}{va vb:Value}(ha:VR φ a va)(hb:VR φ b vb)
 (hk:mW a=mW b) (h9:mW a≠9) (hg:DT P t x y a b=true) (w:World):
 (eqGuard op t x y va vb).run P w=.ok () w:=by
 have fa:=K6 ha h9;have fb:=K6 hb (hk▸h9);have h9b:mW b≠9:=hk▸h9;rw[←hk]at fb;generalize mW a=n at fa fb;cases fa<;>cases fb;case nilIface.nilIface=>
  have ea:a=.ly:=by cases a<;>simp[VR]at ha<;>first|rfl|exact absurd rfl h9
  have eb:b=.ly:=by cases b<;>simp[VR]at hb<;>first|rfl|exact absurd rfl h9b
  subst ea eb;cases op<;>cases x<;>cases y<;>simp[DT,rA]at hg<;>simp[eqGuard]
 case agg.agg=>
  have ea:∃l,a=.au l:=by cases a<;>simp[VR]at ha<;>first|exact⟨_,rfl⟩|exact absurd rfl h9
  have eb:∃l,b=.au l:=by cases b<;>simp[VR]at hb<;>first|exact⟨_,rfl⟩|exact absurd rfl h9b
  obtain⟨l,rfl⟩:=ea;obtain⟨m,rfl⟩:=eb;exact run_eqGuard_agg w op t x y _ _ (by simpa[DT]using hg)
 all_goals cases op<;>simp[eqGuard]
theorem aiK{op:BinOp}{t:TypeId}{a b v:AV}{va vb:Value}(ha:VR φ a va)(hb:VR φ b vb)
 (hk:mW a=mW b) (h9:mW a≠9) {r:Bool} (w:World) (hr:(Op.equal t va vb).run P w=.ok r w) (hv:(op=.eql∧v=.ai r)∨(op=.neq∧v=.ai (!r))):
 (Go.binOp op t va vb).run P w=.ok (match op with|.eql=>.bool r|_=>.bool (!r)) w∧VR φ v (match op with|.eql=>.bool r|_=>.bool (!r)):=by
 have fa:=K6 ha h9;have fb:=K6 hb (hk▸h9);rw[←hk]at fb;generalize mW a=n at fa fb;rcases hv with⟨rfl,rfl⟩|⟨rfl,rfl⟩
 ·refine⟨?_,by simp[VR]⟩;cases fa<;>cases fb<;>simp only[Go.binOp]<;>simp[hr]
 ·refine⟨?_,by simp[VR]⟩;cases fa<;>cases fb<;>simp only[Go.binOp]<;>simp[hr]
theorem agA{op:BinOp}{up:Bool}{k:IntKind}{m n:Int}{t:TypeId}{x y:Operand}{v:AV}{w:World}(Bl:m≠n)(hu:up=true->n<m)(hd:up=false->m<n)(h:NM op up=some v):
 ∃v',(do eqGuard op t x y (.int k m) (.int k n);Go.binOp op t (.int k m) (.int k n):Sem Value).run P w=.ok v' w∧VR φ v v':=by
 unfold NM at h;cases up with
 |true=>
  have:=hu rfl;have h1:¬m<n:=by omega
  have h2:¬m<=n:=by omega
  have h3:n<=m:=by omega
  split at h<;>first
   |(cases h;done)
   |(injection h with h;subst h;refine⟨_,?_,show VR φ (AV.ai _) (Value.bool _)from rfl⟩;simp[eqGuard,Go.binOp,Op.intCmp,Bl,this,h1,h2,h3])
 |false=>
  have:=hd rfl;have h1:¬n<m:=by omega
  have h2:¬n<=m:=by omega
  have h3:m<=n:=by omega
  split at h<;>first
   |(cases h;done)
   |(injection h with h;subst h;refine⟨_,?_,show VR φ (AV.ai _) (Value.bool _)from rfl⟩;simp[eqGuard,Go.binOp,Op.intCmp,Bl,this,h1,h2,h3])
theorem Z8{op:BinOp}{a b:ByteArray}{t:TypeId}{x y:Operand}{v:AV}{w:World}(di:fo a≠fo b)(h:Fa op=some v):
 ∃v',(do eqGuard op t x y (.string a) (.string b);Go.binOp op t (.string a) (.string b):Sem Value).run P w=.ok v' w∧VR φ v v':=by
 have hg:(eqGuard op t x y (.string a) (.string b)).run P w=.ok () w:=by cases op<;>simp[eqGuard]
 have hb:(a.toList==b.toList)=false:=by rw[Jc];simp[di]
 have hs:Go.binOp op t (.string a) (.string b)=Op.stringOp op a b:=by cases op<;>rfl
 unfold Fa at h;split at h
 ·cases h;exact⟨.bool false,by simp only[Sem.run_bind,hg,Result.andThen_ok,hs];simp[Op.stringOp,hb],by simp[VR]⟩
 ·cases h;exact⟨.bool true,by simp only[Sem.run_bind,hg,Result.andThen_ok,hs];simp[Op.stringOp,hb],by simp[VR]⟩
 ·cases h
theorem aiJ{op:BinOp}{t:TypeId}{x y:Operand}{a b v:AV}{va vb:Value}(ha:VR φ a va)(hb:VR φ b vb)(h:Kd P op t x y a b=some v)(w:World):
 ∃v',(do eqGuard op t x y va vb;Go.binOp op t va vb:Sem Value).run P w=.ok v' w∧VR φ v v':=by
 unfold Kd at h;split at h
 ·rename_i k m k' n;simp only[VR]at ha hb;subst ha hb;cases hp:yb P (Go.binOp op t (.int k m) (.int k' n))with
  |none=>simp[hp]at h
  |some v'=>
   simp only[hp,Option.bind_some]at h;refine⟨v',?_,ad3 h⟩;have hg:(eqGuard op t x y (.int k m) (.int k' n)).run P w=.ok () w:=by cases op<;>simp[eqGuard]
   simp[hg,Vf hp w]
 ·rename_i l m;obtain⟨s,rfl,rfl⟩:=ha;obtain⟨s',rfl,rfl⟩:=hb;obtain⟨v',h1,h2⟩:=ai8 (P:=P) (φ:=φ) h w;refine⟨v',?_,h2⟩;have hg:(eqGuard op t x y (.string s) (.string s')).run P w=.ok () w:=by cases op<;>simp[eqGuard]
  simp only[Sem.run_bind,hg,Result.andThen_ok];have:Go.binOp op t (.string s) (.string s')=Op.stringOp op s s':=by cases op<;>rfl
  rw[this,h1]
 ·rename_i k m ne lo hi k' n;simp only[VR]at ha hb;obtain⟨rfl,di,ke,lK⟩:=ha;subst hb;by_cases hk:k=k'
  ·subst hk;rw[aY rfl]at h;unfold aeg at h;cases h1:EJ lo n
   ·rw[h1]at h;cases h2:EI hi n
    ·rw[h2]at h;cases hc:ne.contains n
     ·rw[hc]at h;cases h
     ·rw[hc]at h;simp only[cond_true,cond_false]at h;have Bl:m≠n:=di n (by simpa using hc);unfold Fa at h;split at h
      ·cases h;exact⟨.bool false,by simp[eqGuard,Go.binOp,Op.intCmp,Bl],by simp[VR]⟩
      ·cases h;exact⟨.bool true,by simp[eqGuard,Go.binOp,Op.intCmp,Bl],by simp[VR]⟩
      ·cases h
    ·rw[h2]at h;simp only[cond_true,cond_false]at h;have aj:=YZ h2 lK;exact agA (w:=w) (by omega) (fun h=>by cases h) (fun _=>aj) h
   ·rw[h1]at h;simp only[cond_true]at h;have aj:=Zu h1 ke;exact agA (w:=w) (by omega) (fun _=>aj) (fun h=>by cases h) h
  ·rw[aB hk]at h;cases h
 ·rename_i s ne l;obtain⟨⟨a,rfl,rfl⟩,di⟩:=ha;obtain⟨b,rfl,rfl⟩:=hb;obtain⟨hb,h⟩:=c6 h;exact Z8 (w:=w) (Ly hb di) h
 ·rename_i l s ne;obtain⟨a,rfl,rfl⟩:=ha;obtain⟨⟨b,rfl,rfl⟩,di⟩:=hb;obtain⟨hb,h⟩:=c6 h;exact Z8 (w:=w) (Ne.symm (Ly hb di)) h
 ·cases hc:Nat.beq (mW a) (mW b)&& !Nat.beq (mW a) 9&&DT P t x y a b
  ·rw[hc]at h;cases h
  ·rw[hc]at h;simp only[cond_true]at h;simp only[cW,Bool.not_eq_true']at hc;obtain⟨⟨h1,h2⟩,h3⟩:=hc;have hk:mW a=mW b:=eu h1;have h9:mW a≠9:=by intro e;rw[e]at h2;simp at h2
   obtain⟨r,hr,hv⟩:=ake (P:=P) ha hb h w;have:=aiK (P:=P) ha hb hk h9 w hr hv;exact⟨_,by simp only[Sem.run_bind,akd (P:=P) ha hb hk h9 h3 w,Result.andThen_ok];exact this.1,this.2⟩
end
section
variable{P:Program}{φ:bf}{base:dX}{H:AH}{w:World}
theorem tI{α β:Type}{r:Option α}{f:α->β}{v:β}(h:r.map f=some v):∃a,r=some a∧f a=v:=by
 cases r with
 |none=>cases h
 |some a=>cases h;exact⟨a,rfl,rfl⟩
theorem Uz{a:AV}{n:Nat}{v:Value}(h:mY a=some n)(ha:VR φ a v):∃k,v=.int k (n:Int):=by
 unfold mY at h;split at h
 ·cases h;simp only[VR]at ha;exact⟨_,ha⟩
 ·cases h
theorem uF(n:Nat):VR φ (q_ n) (goInt n):=by simp[q_,goInt,VR]
def r4(φ:bf)(a:Option AV)(v:Option Value):Prop:=(a=none∧v=none)∨(∃x y,a=some x∧v=some y∧VR φ x y)
theorem Wk{v:Value}{k:IntKind}{n y:Nat}{c:BoundsCode}(hv:v=.int k (n:Int))(h:n<=y)(w:World):(Instr.sliceBound v y c).run P w=.ok n w:=by subst hv;have:(0:Int)<=n∧(n:Int)<=y:=⟨by omega,by omega⟩;simp[Instr.sliceBound,asIntOf,h]
theorem U0{a:Option AV}{v:Option Value}{n d y:Nat}{c:BoundsCode}(h:(match a with|some x=>mY x|none=>some d)=some n)(hr:r4 φ a v)(cI:n<=y)(w:World):
 (match v with|some x=>Instr.sliceBound x y c|none=>pure d:Sem Nat).run P w=.ok n w:=by
 rcases hr with⟨rfl,rfl⟩|⟨x,y,rfl,rfl,HZ⟩
 ·simp at h;subst h;simp
 ·obtain⟨k,rfl⟩:=Uz h HZ;exact Wk rfl cI w
theorem NO{BA:Bool}{lo hi:Option AV}{pX eO:Option Value}{l h len cap:Nat}(e1:(match hi with|some v=>mY v|none=>some len)=some h)
 (e2:(match lo with|some v=>mY v|none=>some 0)=some l) (hl:r4 φ lo pX) (hh:r4 φ hi eO) (h1:h<=cap) (h2:l<=h) (w:World):
 (Instr.sliceBounds BA len cap pX eO none).run P w=.ok (l,h,cap) w:=by
 have ke:=fun w=>U0 (P:=P) (c:=.sliceB) e2 hl h2 w
 have lK:=fun w=>U0 (P:=P) (c:=if BA then .sliceAcap else .sliceAlen) e1 hh h1 w
 simp only[Instr.sliceBounds];cases eO<;>cases pX<;>simp at ke lK⊢<;>simp[ke,lK]
theorem agB{BA:Bool}{m':Value}{lo:Option AV}{ma:AV}{pX:Option Value}{h':Value}{ha:AV}{l h m len cap:Nat}(e0:mY ma=some m)(hm:VR φ ma m')
 (e1:mY ha=some h) (hh:VR φ ha h')
 (e2:(match lo with|some v=>mY v|none=>some 0)=some l) (hl:r4 φ lo pX) (h0:m<=cap) (h1:h<=m) (h2:l<=h) (w:World):
 (Instr.sliceBounds BA len cap pX (some h') (some m')).run P w=.ok (l,h,m) w:=by
 have ke:=fun w=>U0 (P:=P) (c:=.slice3C) e2 hl h2 w
 obtain⟨k,rfl⟩:=Uz e0 hm;obtain⟨k',rfl⟩:=Uz e1 hh;have b0:=fun w=>Wk (P:=P) (v:=.int k (m:Int)) (c:=if BA then .slice3Acap else .slice3Alen) rfl h0 w
 have b1:=fun w=>Wk (P:=P) (v:=.int k' (h:Int)) (c:=.slice3B) rfl h1 w
 simp only[Instr.sliceBounds];cases pX<;>simp at ke⊢<;>simp[ke,b0,b1]
theorem avl{b:ByteArray}{lo hi:Option AV}{pX eO:Option Value}{v:AV}(h:NP (fo b) lo hi=some v)
 (hl:r4 φ lo pX) (hh:r4 φ hi eO) (w:World):
 ∃l h',(Instr.sliceBounds false b.size b.size pX eO none).run P w=.ok (l,h',b.size) w∧VR φ v (.string (b.extract l h')):=by
 unfold NP at h;split at h
 ·rename_i h' l e1 e2;obtain⟨hb,h⟩:=c6 h;cases h;simp only[cW,Nat.ble_eq]at hb;rw[tS]at hb e1;refine⟨l,h',NO e1 e2 hl hh hb.1 hb.2 w,⟨_,rfl,?_⟩⟩;simp only[fo,ByteArray.data_extract,Array.toList_extract,List.map_take,List.map_drop];rw[List.drop_take]
 ·cases h
theorem Is{ρ:Operand->Option AV}{ev:Operand->Value}{x:Option Operand}{r:Option AV}(hr:mr φ ρ ev x.toList)(h:p8 ρ x=some r):r4 φ r (x.map ev):=aou hr h
theorem wW(b o n:Nat):(⟨b,o,none⟩:Addr).add n=⟨b,o+n,none⟩:=by unfold Addr.add;split<;>simp_all
theorem Wl{id off len cap sz x:Nat}{ex:Bool}{lo hi mx:Option AV}{pX eO Ii:Option Value}{v:AV}{e:PE}{c:Nat}(h:Ci id off len cap sz ex lo hi mx=some v)
 (he:φ id=some e) (hx:c=0∨x=e.o+off) (bF:len<=c) (nZ:ex=true->c=cap) (jz:e.o+off+c*sz<=e.n)
 (hl:r4 φ lo pX) (hh:r4 φ hi eO) (hm:r4 φ mx Ii) (w:World) (BA:Bool):
 ∃l h' m,(Instr.sliceBounds BA len c pX eO Ii).run P w=.ok (l,h',m) w∧
  VR φ v (.slice (if m=l then some ⟨e.b,x,none⟩else some ((⟨e.b,x,none⟩:Addr).add (l*sz))) (h'-l) (m-l)):=by
 have key:∀{l h m:Nat} {RB:Bool} {s7:Nat},l<=h->h<=m->m<=c->(RB=true->m-l=s7)->
  VR φ (.bE id (off+l*sz) (h-l) s7 sz RB) (.slice (if m=l then some ⟨e.b,x,none⟩else some ((⟨e.b,x,none⟩:Addr).add (l*sz))) (h-l) (m-l)):=by
  intro l h m RB s7 h1 h2 h3 h4;simp only[VR];have hr:e.o+(off+l*sz)+(m-l)*sz<=e.n:=by
   have e1:l*sz+(m-l)*sz=m*sz:=by rw[←Nat.add_mul];congr 1;omega
   have e2:m*sz<=c*sz:=Nat.mul_le_mul_right sz h3;omega
  by_cases uR:m=l
  ·exact⟨e,x,m-l,he,by rw[aY uR],.inl (by omega),by omega,h4,hr⟩
  ·refine⟨e,x+l*sz,m-l,he,by rw[aB uR,wW],.inr ?_,by omega,h4,hr⟩;rcases hx with hx|hx<;>omega
 unfold Ci at h;split at h
 ·rcases hm with⟨_,rfl⟩|⟨_,_,e1,_⟩
  case inr=>cases e1
  split at h
  ·rename_i h' l e1 e2;obtain⟨hb,h⟩:=c6 h;cases h;simp only[cW,Nat.ble_eq]at hb;have hc:h'<=c:=by
    have:=hb.1;cases ex
    ·simp at this;omega
    ·simp at this;rw[nZ rfl];exact this
   refine⟨l,h',c,NO e1 e2 hl hh hc hb.2 w,key hb.2 hc (fB _) (fun e=>by subst e;rw[nZ rfl];rfl)⟩
  ·cases h
 ·rename_i m;rcases hm with⟨e1,_⟩|⟨ma,mv,e1,rfl,Eu⟩
  case inl=>cases e1
  cases e1;split at h
  ·rename_i m' h' l e0 e1 e2;obtain⟨hb,h⟩:=c6 h;cases h;simp only[cW,Nat.ble_eq]at hb;have hc:m'<=c:=by
    have:=hb.1.1;cases ex
    ·simp at this;omega
    ·simp at this;rw[nZ rfl];exact this
   rcases hh with⟨rfl,rfl⟩|⟨ha,hv,rfl,rfl,hav⟩
   ·cases e1
   ·exact⟨l,h',m',agB e0 Eu e1 hav e2 hl hc hb.1.2 hb.2 w,key hb.2 hb.1.2 hc (fun _=>rfl)⟩
  ·cases h
theorem avm{len sz c:Nat}{cs:LV}{a:Option Addr}{lo hi mx:Option AV}{pX eO Ii:Option Value}{v:AV}(h:IM cs len sz lo hi mx=some v)
 (hx:VR φ (.ax cs len sz) (.slice a len c)) (hl:r4 φ lo pX) (hh:r4 φ hi eO) (hm:r4 φ mx Ii) (w:World):
 ∃l h' m,(Instr.sliceBounds true len c pX eO Ii).run P w=.ok (l,h',m) w∧VR φ v (.slice (if m=l then a else a.map (·.add (l*sz))) (h'-l) (m-l)):=by
 unfold IM at h;split at h
 ·rcases hm with⟨_,rfl⟩|⟨_,_,e1,_⟩
  case inr=>cases e1
  split at h
  ·rename_i h' l e1 e2;obtain⟨hb,h⟩:=c6 h;cases h;simp only[cW,Nat.ble_eq]at hb;simp only[VR]at hx;obtain⟨a',c',e,bF,hd⟩:=hx;cases e;have hc:h'<=c:=by rcases hd with hd|⟨_,_,_,_,_,_,hd,_⟩<;>omega
   refine⟨l,h',c,NO e1 e2 hl hh hc hb.2 w,?_⟩;have m1:(h'-l)*sz+l*sz=h'*sz:=by rw[←Nat.add_mul];congr 1;omega
   have m2:h'*sz<=len*sz:=Nat.mul_le_mul_right sz hb.1;have Ep:((cs.drop (l*sz)).take ((h'-l)*sz)).length=(h'-l)*sz:=by simp;omega
   simp only[VR];refine⟨_,_,rfl,Ep,?_⟩;by_cases h0:h'-l=0
   ·exact .inl h0
   ·right;rcases hd with hd|⟨b,x,eC,el,fz,rfl,mS,fE,cJ,hv⟩
    ·omega
    ·refine⟨b,x+l*sz,eC,el,fz,?_,by omega,fE,by rw[Ep];omega,?_⟩
     ·rw[aB (by omega)];simp[wW]
     ·rw[Ep];have h2:=(hv.uf (l*sz)).rZ ((h'-l)*sz);have e3:(((eC.toList.drop x).take cs.length).drop (l*sz)).take ((h'-l)*sz)=(eC.toList.drop (x+l*sz)).take ((h'-l)*sz):=by rw[List.drop_take,List.drop_drop,List.take_take];congr 1;omega
      rw[e3]at h2;exact h2
  ·cases h
 ·cases h
theorem dk.OC:∀{es:List (AV×AV×Nat)} {ms:List MapEntry},dk φ es ms->es.length=ms.length
 |[],_,h=>by simp only[dk]at h;subst h;rfl
 |(k,v,b)::es,_,h=>by simp only[dk]at h;obtain⟨m,ms,rfl,_,_,_,h⟩:=h;simp[dk.OC h]
theorem ang(hw:WR φ base H w){x:AV}{v:Value}{n:Nat}{d:TypeDesc}{t:TypeId}{ts:Array TypeId}{T:TypeId}{vs:Array Value}(hx:VR φ x v)(h:BD H x=some n)(hu:P.underlying t=some d)
 (kb:xS d x=true) (h0:ts[0]? =some t) (h1:vs[0]? =some v):
 (Builtin.len_ ts T vs).run P w=.ok (goInt n) w:=by
 cases x<;>simp only[BD]at h;case aa s=>cases h;obtain⟨b,rfl,rfl⟩:=hx;cases d<;>simp[xS]at kb;simp[Builtin.len_,h0,h1,run_underlying hu w,tS]
 case bE=>cases h;obtain⟨e,y,c,_,rfl,_⟩:=hx;cases d<;>simp[xS]at kb;simp[Builtin.len_,h0,h1,run_underlying hu w]
 case ax=>cases h;obtain⟨a,c,rfl,_⟩:=hx;cases d<;>simp[xS]at kb;simp[Builtin.len_,h0,h1,run_underlying hu w]
 case ad=>cases h;cases d<;>simp[xS]at kb;rcases hx with⟨rfl,rfl⟩|⟨e,x,c,_,rfl,_⟩<;>simp[Builtin.len_,h0,h1,run_underlying hu w]
 case bB=>cases h;simp only[VR]at hx;subst hx;cases d<;>simp[xS]at kb;simp[Builtin.len_,h0,h1,run_underlying hu w]
 case mF=>cases h;simp only[VR]at hx;subst hx;cases d<;>simp[xS]at kb;simp[Builtin.len_,h0,h1,run_underlying hu w]
 case aH id=>
  split at h
  ·rename_i es cT p ho;cases h;obtain⟨e,he,rfl⟩:=hx;obtain⟨o,h3,bw,rfl,h2,_⟩:=hw.ey _ _ e ho he;cases d<;>simp[xS]at kb;have:=h2.OC;simp[Builtin.len_,h0,h1,run_underlying hu w,getObj,Sem.run,h3,this]
  ·cases h
 all_goals cases h
end
section
variable{P:Program}{φ:bf}{base:dX}{H:AH}{w:World}{ρ:Operand->Option AV}{ev:Operand->Value}
def yE(φ:bf)(es:List (AV×AV×Nat))(ms:List MapEntry)(i:Nat):Option (Nat×AV×Nat)->Option (Nat×Value)->Prop
 |none,r'=>r'=none
 |some (j,v,b),r'=>∃m k,r'=some (j,m.val)∧i<=j∧es[j-i]? =some (k,v,b)∧ms[j-i]? =some m∧VR φ v m.val∧m.born=b
theorem dk.aaS{eq:AV->AV->Option Bool}{k:AV}{T:TypeId}{vk:Value}(SG:∀y vy r,eq k y=some r->VR φ y vy->∀w,(Op.equal T vk vy).run P w=.ok r w):
 ∀{es:List (AV×AV×Nat)} {ms:List MapEntry} {i:Nat} {r:Option (Nat×AV×Nat)},dk φ es ms->kY eq k es i=some r->∀w,
  ∃r',(Instr.findAsking T vk ms i).run P w=.ok r' w∧yE φ es ms i r r'
 |[],ms,i,r,he,h,w=>by simp only[dk]at he;subst he;simp only[kY]at h;cases h;exact⟨none,by simp[Instr.findAsking],rfl⟩
 |(x,v,b)::es,ms,i,r,he,h,w=>by
  simp only[dk]at he;obtain⟨m,ms,rfl,hk,hv,hb,he⟩:=he;simp only[kY]at h;split at h
  ·rename_i hq;cases h;refine⟨some (i,m.val),?_,m,x,rfl,fB _,by simp,by simp,hv,hb⟩;simp[Instr.findAsking,SG x m.key true hq hk w]
  ·rename_i hq;obtain⟨r',h1,h2⟩:=dk.aaS SG he h w;refine⟨r',?_,?_⟩
   ·simp[Instr.findAsking,SG x m.key false hq hk w,h1]
   ·cases r with
    |none=>exact h2
    |some r=>
     obtain⟨j,v',b'⟩:=r;obtain⟨m',k',e1,e2,e3,e4,e6,e5⟩:=h2;have:j-i=(j-(i+1))+1:=by omega
     exact⟨m',k',e1,by omega,by rw[this,List.getElem?_cons_succ];exact e3,by rw[this,List.getElem?_cons_succ];exact e4,e6,e5⟩
  ·cases h
theorem afY{d:TypeDesc}{k y:Value}{b:Bool}{T:TypeId}(hd:P.underlying T=some d)(h:Instr.sameNow d k y=some b)(w:World):(Op.equal T k y).run P w=.ok b w:=by
 unfold Instr.sameNow at h;split at h
 ·split at h
  ·rename_i e;subst e;cases h;exact run_equalIn_int w 9999 T _ _ _ _ hd
  ·cases h
 ·cases h;rename_i a b;have:=run_equalIn_string w 9999 T a b hd;rw[←beq_toListBytes]at this;exact this
 ·cases h;exact run_equalIn_bool w 9999 T _ _ hd
 ·cases h
theorem aaV{d:TypeDesc}{k:Value}{T:TypeId}(hd:P.underlying T=some d)(w:World):∀{ms:List MapEntry} {i:Nat} {r:Option (Nat×Value)},Instr.findNow d k ms i=some r->(Instr.findAsking T k ms i).run P w=.ok r w
 |[],i,r,h=>by simp[Instr.findNow]at h;subst h;simp[Instr.findAsking]
 |m::ms,i,r,h=>by
  simp only[Instr.findNow]at h;split at h
  ·rename_i hs;cases h;simp[Instr.findAsking,afY hd hs w]
  ·rename_i hs;simp[Instr.findAsking,afY hd hs w,aaV hd w h]
  ·cases h
theorem akN{d:TypeDesc}{k:Value}{T:TypeId}(hd:P.underlying T=some d){ms:List MapEntry}{r:Option (Nat×Value)}{w:World}(h:(Instr.findAsking T k ms).run P w=.ok r w):(Instr.findKey T k ms).run P w=.ok r w:=by
 simp only[Instr.findKey,Sem.run_bind,run_underlying hd w,Result.andThen_ok];cases hn:Instr.findNow d k ms 0 with
 |none=>simp[h]
 |some r'=>have:=aaV (P:=P) hd w hn;rw[this]at h;cases h;simp
theorem y9{kt:TypeId}{k:AV}{vk:Value}{d:TypeDesc}(hd:P.underlying kt=some d)(hk:VR φ k vk){es:List (AV×AV×Nat)}{ms:List MapEntry}(he:dk φ es ms)
 {r:Option (Nat×AV×Nat)} (h:kY (ie P 100 kt) k es 0=some r) (w:World):∃r',(Instr.findKey kt vk ms).run P w=.ok r' w∧yE φ es ms 0 r r':=by
 obtain⟨r',h1,h2⟩:=dk.aaS (P:=P) (eq:=ie P 100 kt) (T:=kt) (vk:=vk) (fun y vy r hq hy w=>Rx 100 kt k y r vk vy hq hk hy Op.maxDepth (by simp[Op.maxDepth]) w) he h w;exact⟨r',akN hd h1,h2⟩
theorem aet{d:TypeDesc}{t:TypeId}{a:AV}{v:Value}(hu:P.underlying t=some d)(h:Iw d a=true)(ha:VR φ a v)(em:Bool)(n:Nat)(w:World):
 (Instr.checkKey em (n+1) t v).run P w=.ok () w:=by
 cases d<;>cases a<;>simp[Iw]at h;all_goals
  simp only[VR]at ha
 all_goals first
  |(subst ha;simp[Instr.checkKey,run_underlying hu w];done)
  |(obtain⟨rfl,_⟩:=ha;simp[Instr.checkKey,run_underlying hu w];done)
  |(obtain⟨⟨_,rfl,_⟩,_⟩:=ha;simp[Instr.checkKey,run_underlying hu w];done)
  |(obtain⟨_,rfl,_⟩:=ha;simp[Instr.checkKey,run_underlying hu w])
theorem aoN{cs:LV}{cs':Array Value}{f:Field}(gY:bc φ cs cs'.toList)(h:Vb P cs f=true)(em:Bool)(n:Nat)(w:World):
 ∃x,(part f.type cs' f.offset).run P w=.ok x w∧(Instr.checkKey em (n+1) f.type x).run P w=.ok () w:=by
 unfold Vb at h;split at h
 ·rename_i d a e1 e2;obtain⟨x,e3,e4⟩:=gY.get e2;have e5:cs'[f.offset]? =some x:=by simpa using e3
  refine⟨x,?_,aet (P:=P) (φ:=φ) e1 h e4 em n w⟩;cases d<;>cases a<;>simp[Iw]at h<;>simp[part,isAgg,run_underlying e1 w,e5]
 ·cases h
theorem Kj{t:TypeId}{k:AV}{v:Value}(h:qK P t k=true)(hk:VR φ k v)(em:Bool)(n:Nat)(w:World):(Instr.checkKey em (n+2) t v).run P w=.ok () w:=by
 unfold qK at h;split at h
 ·rename_i gn cs hu;obtain⟨cs',rfl,gY⟩:=hk;rw[Instr.checkKey];simp only[Sem.run_bind,run_underlying hu w,Result.andThen_ok];rw[←Array.forIn_toList];generalize gn.toList=fs at h;clear hu;induction fs with
  |nil=>simp
  |cons f fs ih=>
   simp only[List.all_cons,cW]at h;obtain⟨h1,h2⟩:=h;obtain⟨x,e6,e7⟩:=aoN gY h1 em n w;simp only[List.forIn_cons,Sem.run_bind,Sem.run_ite];split
   ·simp only[e6,Result.andThen_ok,e7,Sem.run_pure];exact ih h2
   ·simp only[Sem.run_pure,Result.andThen_ok];exact ih h2
 ·rename_i hu _;exact aet (P:=P) hu h hk em (n+1) w
 ·cases h
theorem yE.at{es:List (AV×AV×Nat)}{ms:List MapEntry}{j:Nat}{v:AV}{b:Nat}{r':Option (Nat×Value)}(h:yE φ es ms 0 (some (j,v,b)) r'):
 ∃m k,r'=some (j,m.val)∧es[j]? =some (k,v,b)∧ms[j]? =some m∧VR φ v m.val∧m.born=b:=by
 obtain⟨m,k,e1,_,e3,e4,e5,e6⟩:=h;exact⟨m,k,e1,by simpa using e3,by simpa using e4,e5,e6⟩
end
section
variable{P:Program}{φ:bf}{base:dX}{H:AH}{w:World}{ρ:Operand->Option AV}{ev:Operand->Value}
theorem RH{mx:Bool}:∀{l:LV} {a r:AV} {va:Value} {vs:List Value},VR φ a va->bc φ l vs->DN mx a l=some r->
 ∃v,(vs.foldlM (if mx then Builtin.max2 else Builtin.min2) va:Sem Value).run P w=.ok v w∧VR φ r v
 |[],a,r,va,vs,ha,hl,h=>by simp only[bc]at hl;subst hl;simp[DN]at h;subst h;exact⟨va,by simp,ha⟩
 |b::l,a,r,va,vs,ha,hl,h=>by
  simp only[bc]at hl;obtain⟨vb,vs,rfl,hb,hl⟩:=hl;cases a<;>cases b<;>simp only[DN]at h<;>try (cases h;done)
  rename_i k x k' y;simp only[VR]at ha hb;subst ha hb;obtain⟨v,h1,h2⟩:=RH (va:=Value.int k (bif mx then(if y>x then y else x)else(if y<x then y else x))) (by simp only[VR]) hl h;refine⟨v,?_,h2⟩;rw[List.foldlM_cons,Sem.run_bind];cases mx
  ·have e:(Builtin.min2 (.int k x) (.int k' y)).run P w=.ok (.int k (if y<x then y else x)) w:=rfl;simp only[Bool.false_eq_true,if_false,cond_false]at h1⊢;rw[e];exact h1
  ·have e:(Builtin.max2 (.int k x) (.int k' y)).run P w=.ok (.int k (if y>x then y else x)) w:=rfl;simp only[if_true,cond_true]at h1⊢;rw[e];exact h1
theorem av7{a:AV}{v v':Value}(h:Oh a=some v)(ha:VR φ a v'):v'=v:=by unfold Oh at h;split at h<;>first|(cases h;simpa[VR]using ha)|cases h
theorem Re{id off n i:Nat}{elem:TypeId}{v:AV}(h:yX P id off n elem i=some v):∃s,(∀w,(sizeOf elem).run P w=.ok s w)∧i<n∧v=.ab id (off+i*s):=by
 unfold yX at h;split at h
 ·rename_i s hs;obtain⟨hb,h⟩:=c6 h;cases h;exact⟨s,iV hs,by have:=Nat.le_of_ble_eq_true hb;omega,rfl⟩
 ·cases h
theorem ajH{cs:LV}{len sz i:Nat}{elem:TypeId}{v:AV}(h:Kx P cs len sz elem i=some v):(∀w,(sizeOf elem).run P w=.ok sz w)∧i<len∧v=.oU ((cs.drop (i*sz)).take sz):=by
 unfold Kx at h;split at h
 ·rename_i s hs;obtain⟨hb,h⟩:=c6 h;cases h;simp only[cW,Nat.ble_eq]at hb;have:=eu hb.1;subst this;exact⟨iV hs,by omega,rfl⟩
 ·cases h
theorem aiv{np xT:TypeId}{ok:Bool}{x v:AV}{vx:Value}{d:TypeDesc}(hu:P.underlying np=some d)(hd:∀ms,d≠.interface ms)(h:Qr P np ok x=some v)(hx:VR φ x vx)(w:World):
 ∃v',(Instr.typeAssert vx xT np ok).run P w=.ok v' w∧VR φ v v':=by
 unfold Qr at h;have hz:∀{z:AV},ku P np=some z->∃vz,VR φ z vz∧∀w,(zeroValue np).run P w=.ok vz w:=fun hz=>wJ hz
 split at h
 ·rename_i t a;obtain⟨va,rfl,EF⟩:=hx;cases hb:Nat.beq t np
  ·rw[hb]at h;simp only[cond_false]at h;have di:t≠np:=by intro e;subst e;simp at hb
   obtain⟨bn,h⟩:=c6 h;subst bn;obtain⟨z,Bw,rfl⟩:=tI h;obtain⟨vz,h1,h2⟩:=hz Bw;refine⟨.tuple #[vz,.bool false],?_,⟨_,rfl,o8.2 ⟨h1,nk (by simp[VR])⟩⟩⟩;cases d<;>first
    |(exact absurd rfl (hd _))
    |simp[Instr.typeAssert,run_underlying hu w,di,h2]
  ·rw[hb]at h;simp only[cond_true]at h;cases h;have he:t=np:=eu hb;cases ok
   ·refine⟨va,?_,EF⟩;cases d<;>first
     |(exact absurd rfl (hd _))
     |simp[Instr.typeAssert,run_underlying hu w,he]
   ·refine⟨.tuple #[va,.bool true],?_,⟨_,rfl,o8.2 ⟨EF,nk (by simp[VR])⟩⟩⟩;cases d<;>first
     |(exact absurd rfl (hd _))
     |simp[Instr.typeAssert,run_underlying hu w,he]
 ·simp only[VR]at hx;subst hx;obtain⟨bn,h⟩:=c6 h;subst bn;obtain⟨z,Bw,rfl⟩:=tI h;obtain⟨vz,h1,h2⟩:=hz Bw;refine⟨.tuple #[vz,.bool false],?_,⟨_,rfl,o8.2 ⟨h1,nk (by simp[VR])⟩⟩⟩;cases d<;>first
   |(exact absurd rfl (hd _))
   |simp[Instr.typeAssert,run_underlying hu w,h2]
 ·cases h
theorem qq{r:Nat}{o:Obj}(h:w.heap[r]? =some o)(hc:o.isCells=false):(getObj r).run P w=.ok o w:=by cases o<;>simp[Obj.isCells]at hc<;>simp[getObj,Sem.run,h]
theorem af5{r:Nat}{o o':Obj}(h:w.heap[r]? =some o)(hc:o.isCells=false):(setObj r o').run P w=.ok () {w with heap:=w.heap.setIfInBounds r o'}:=by cases o<;>simp[Obj.isCells]at hc<;>simp[setObj,Sem.run,h]
theorem aj9(hw:WR φ base H w){m:AV}{vm:Value}{es:List (AV×AV×Nat)}(h:vK H m=some es)(hm:VR φ m vm):
 ∃bw:Array MapEntry,dk φ es bw.toList∧((vm=.map none∧bw= #[])∨∃r cT,vm=.map (some r)∧w.heap[r]? =some (.map bw cT)):=by
 unfold vK at h;split at h
 ·cases h;simp only[VR]at hm;subst hm;exact⟨#[],by simp[dk],.inl ⟨rfl,rfl⟩⟩
 ·split at h
  ·rename_i cT p ho;cases h;obtain⟨e,he,rfl⟩:=hm;obtain⟨o,h1,bw,rfl,h2,_⟩:=hw.ey _ _ e ho he;exact⟨bw,h2,.inr ⟨_,_,rfl,h1⟩⟩
  ·cases h
 ·cases h
theorem adg{t kt elem:TypeId}{vm vk:Value}{bw:Array MapEntry}{ok:Bool}{r:Option (Nat×Value)}(hu:P.underlying t=some (.map kt elem))
 (hm:(vm=.map none∧bw= #[])∨∃r cT,vm=.map (some r)∧w.heap[r]? =some (.map bw cT))
 (pP:(Instr.checkKey bw.isEmpty 10000 kt vk).run P w=.ok () w) (hf:(Instr.findKey kt vk bw.toList).run P w=.ok r w) {v:Value} {b:Bool}
 (hr:(∃i,r=some (i,v)∧b=true)∨(r=none∧(zeroValue elem).run P w=.ok v w∧b=false)):
 (Instr.lookup t vm vk ok).run P w=.ok (if ok then .tuple #[v,.bool b]else v) w:=by
 unfold Instr.lookup;rcases hm with⟨rfl,rfl⟩|⟨r0,cT,rfl,hg⟩
 ·simp only[Sem.run_bind,run_underlying hu w,Result.andThen_ok,Sem.run_pure,pP,hf];rcases hr with⟨i,rfl,rfl⟩|⟨rfl,hz,rfl⟩
  ·simp
  ·simp[hz]
 ·simp only[Sem.run_bind,run_underlying hu w,Result.andThen_ok,Sem.run_pure,qq (P:=P) hg rfl,pP,hf];rcases hr with⟨i,rfl,rfl⟩|⟨rfl,hz,rfl⟩
  ·simp
  ·simp[hz]
theorem ad8{ok b:Bool}{a:AV}{v:Value}(h:VR φ a v):VR φ (p7 ok a b) (if ok then .tuple #[v,.bool b]else v):=by
 cases ok
 ·simpa[p7]using h
 ·exact⟨_,rfl,o8.2 ⟨h,nk (by simp[VR])⟩⟩
theorem aaT{eq:AV->AV->Option Bool}{k:AV}:∀{es Rz:List (AV×AV)},es.Perm Rz->∀{r:Option AV},vN eq k es=some r->vN eq k Rz=some r:=by
 intro es Rz h;induction h with
 |nil=>intro r h;exact h
 |cons x h ih=>
  obtain⟨x,v⟩:=x;intro r hr;simp only[vN]at hr⊢;split at hr
  ·rename_i h1 h2;rw[h1,ih h2];exact hr
  ·rename_i r' h1 h2;rw[h1,ih h2];exact hr
  ·cases hr
 |swap x y l=>
  obtain⟨x,v⟩:=x;obtain⟨y,u⟩:=y;intro r hr;simp only[vN]at hr⊢;cases hx:eq k x with
  |none=>rw[hx]at hr;cases hy:eq k y<;>rw[hy]at hr<;>simp at hr
  |some bx=>
   cases hy:eq k y with
   |none=>rw[hx,hy]at hr;cases bx<;>simp at hr
   |some bY=>
    rw[hx,hy]at hr;cases hf:vN eq k l with
    |none=>rw[hf]at hr;cases bx<;>cases bY<;>simp at hr
    |some q=>rw[hf]at hr;cases bx<;>cases bY<;>cases q<;>simp at hr⊢<;>exact hr
 |trans h1 h2 EG EH=>intro r hr;exact EH (EG hr)
theorem RE{eq:AV->AV->Option Bool}{k:AV}:∀{l:List (AV×AV×Nat)} {r:Option AV},vN eq k (l.map fun x=>(x.1,x.2.1))=some r->∀i,
 (r=none->kY eq k l i=some none)∧(∀v,r=some v->∃j b,kY eq k l i=some (some (j,v,b)))
 |[],r,h,i=>by simp[vN]at h;subst h;exact⟨fun _=>rfl,(fun v h=>by cases h)⟩
 |(x,v,b)::l,r,h,i=>by
  simp only[List.map_cons,vN]at h;split at h
  ·rename_i h1 h2;cases h;refine⟨(fun h=>by cases h),fun u hu=>?_⟩;cases hu;exact⟨i,b,by simp only[kY,h1]⟩
  ·rename_i r' h1 h2;cases h;have:=RE h2 (i+1);refine⟨fun h=>?_,fun u hu=>?_⟩
   ·simp only[kY,h1];exact this.1 h
   ·obtain⟨j,c,hh⟩:=this.2 u hu;exact⟨j,c,by simp only[kY,h1];exact hh⟩
  ·cases h
theorem aiD(hw:WR φ base H w){m:AV}{vm:Value}{es:List (AV×AV)}(h:Dh H m=some es)(hm:VR φ m vm):
 ∃(l:List (AV×AV×Nat)) (bw:Array MapEntry),(l.map fun x=>(x.1,x.2.1)).Perm es∧dk φ l bw.toList∧((vm=.map none∧bw= #[])∨∃r cT,vm=.map (some r)∧w.heap[r]? =some (.map bw cT)):=by
 unfold Dh at h;split at h
 ·rename_i id;split at h
  ·rename_i es0 ho;cases h;obtain⟨e,he,rfl⟩:=hm;obtain⟨o,hg,l,bw,cT,rfl,hp,hl⟩:=hw.ey id _ e ho he;exact⟨l,bw,hp,hl,.inr ⟨_,_,rfl,hg⟩⟩
  ·cases h
 ·cases h
theorem adb{kt elem t:TypeId}{key v:AV}{vm vk:Value}{ok:Bool}{es:List (AV×AV×Nat)}{bw:Array MapEntry}(hu:P.underlying t=some (.map kt elem))(hp:qK P kt key=true)
 (he:dk φ es bw.toList) (dK:(vm=.map none∧bw= #[])∨∃r cT,vm=.map (some r)∧w.heap[r]? =some (.map bw cT))
 (h:(match kY (ie P 100 kt) key es 0 with
   |some (some (_,v,_))=>some (p7 ok v true)
   |some none=>(ku P elem).map (p7 ok · false)
   |none=>none)=some v) (hk:VR φ key vk):∃v',(Instr.lookup t vm vk ok).run P w=.ok v' w∧VR φ v v':=by
 have si:∃d,P.underlying kt=some d:=by
  cases SZ:P.underlying kt with
  |none=>simp[qK,SZ]at hp
  |some d=>exact⟨d,rfl⟩
 obtain⟨d,hd⟩:=si;have pP:=Kj (φ:=φ) hp hk bw.isEmpty 9998 w;split at h
 ·rename_i i x b hf;cases h;obtain⟨r',h1,h2⟩:=y9 hd hk he hf w;obtain⟨me,k,rfl,e3,e4,e5,e6⟩:=h2.at;exact⟨_,adg hu dK pP h1 (.inl ⟨i,rfl,rfl⟩),ad8 e5⟩
 ·rename_i hf;obtain⟨z,hz,rfl⟩:=tI h;obtain⟨vz,H4,TT⟩:=wJ (φ:=φ) hz;obtain⟨r',h1,h2⟩:=y9 hd hk he hf w;simp only[yE]at h2;subst h2;exact⟨_,adg hu dK pP h1 (.inr ⟨rfl,TT w,rfl⟩),ad8 H4⟩
 ·cases h
theorem anr(hw:WR φ base H w){kt elem t:TypeId}{m key v:AV}{vm vk:Value}{ok:Bool}(hu:P.underlying t=some (.map kt elem))(h:EU P H kt elem m key ok=some v)(hm:VR φ m vm)(hk:VR φ key vk):
 ∃v',(Instr.lookup t vm vk ok).run P w=.ok v' w∧VR φ v v':=by
 unfold EU at h;obtain⟨hp,h⟩:=c6 h;split at h
 ·rename_i es i_;obtain⟨bw,he,dK⟩:=aj9 hw i_ hm;exact adb hu hp he dK h hk
 ·split at h
  ·rename_i es i_;obtain⟨l,bw,HM,he,dK⟩:=aiD hw i_ hm;refine adb hu hp he dK ?_ hk;unfold ada at h;split at h
   ·rename_i x hf;obtain⟨j,b,hh⟩:=(RE (aaT HM.symm hf) 0).2 _ rfl;rw[hh];exact h
   ·rename_i hf;have hh:=(RE (aaT HM.symm hf) 0).1 rfl;rw[hh];exact h
   ·cases h
  ·cases h
end
section
variable{P:Program}{φ:bf}{base:dX}{H:AH}{w:World}{ρ:Operand->Option AV}{ev:Operand->Value}
theorem mz{s:Sem Value}{v:Value}(h:s.run P w=.ok v w):(do pure (.value (←s)):Sem Next).run P w=.ok (.value v) w:=by simp[h]
theorem ayd{kj:Array (Nat×Operand)}{l:List Operand}(hr:mr φ ρ ev l)(hs:∀x∈(kj.toList.map (·.2)),x∈l):mr φ ρ ev (kj.toList.map (·.2)):=hr.nR hs
theorem aiP{t:TypeId}{gn:Array Field}{z v:AV}{vz:Value}{ps:List (Nat×AV)}{kj:Array (Nat×Value)}(hu:P.underlying t=some (.struct gn))(hz:VR φ z vz)(mE:(zeroValue t).run P w=.ok vz w)
 (hp:JS φ ps kj.toList) (h:QF P z gn ps=some v):∃v',(Instr.build t kj).run P w=.ok v' w∧VR φ v v':=by
 unfold QF at h;split at h
 ·rename_i pl kH;obtain⟨cs,hf,rfl⟩:=tI h;obtain⟨r',h1,h2⟩:=KX hp (AV.r8 hz) hf;refine⟨.agg r',?_,⟨_,rfl,h2⟩⟩;have h3:=aoM kH w;have h4:(fun(x:Nat)=>(pl.toArray)[x]?)=(fun(x:Nat)=>pl[x]?):=by funext x;simp
  simp only[Instr.build,Sem.run_bind,mE,Result.andThen_ok,run_underlying hu w,h3,h4,h1,Sem.run_pure]
 ·cases h
theorem aiO{t elem:TypeId}{n:Nat}{z v:AV}{vz:Value}{ps:List (Nat×AV)}{kj:Array (Nat×Value)}(hu:P.underlying t=some (.array n elem))(hz:VR φ z vz)(mE:(zeroValue t).run P w=.ok vz w)
 (hp:JS φ ps kj.toList) (h:QE P z elem ps=some v):∃v',(Instr.build t kj).run P w=.ok v' w∧VR φ v v':=by
 unfold QE at h;split at h
 ·rename_i s hs;obtain⟨cs,hf,rfl⟩:=tI h;obtain⟨r',h1,h2⟩:=KX hp (AV.r8 hz) hf;refine⟨.agg r',?_,⟨_,rfl,h2⟩⟩;simp only[Instr.build,Sem.run_bind,mE,Result.andThen_ok,run_underlying hu w,iV hs w,h1,Sem.run_pure]
 ·cases h
theorem amY{t:TypeId}{kj:Array (Nat×Operand)}{v:AV}(hr:mr φ ρ ev (kj.toList.map (·.2)))(h:Mj P ρ t kj=some v):
 ∃v',(Instr.build t (kj.map fun(i,x)=>(i,ev x))).run P w=.ok v' w∧VR φ v v':=by
 unfold Mj at h;split at h
 ·rename_i z gn ps e1 e2 e3;obtain⟨vz,h1,h2⟩:=wJ (φ:=φ) e1;exact aiP e2 h1 (h2 w) (by have:=J8 hr e3;simpa using this) h
 ·rename_i z n elem ps e1 e2 e3;obtain⟨vz,h1,h2⟩:=wJ (φ:=φ) e1;exact aiO e2 h1 (h2 w) (by have:=J8 hr e3;simpa using this) h
 ·cases h
theorem Xm{a:Option AV}(h:Jm a=true):(match a with|some v=>mY v|none=>some 0)=some 0:=by
 cases a with
 |none=>rfl
 |some v=>
  simp only[Jm]at h;cases hn:mY v with
  |none=>simp[hn]at h
  |some n=>simp only[hn,Option.any_some]at h;have:=eu h;simp[hn,←this]
theorem am0(hw:WR φ base H w){t:TypeId}{x:Operand}{lo hi mx:Option Operand}{v:AV}(hr:mr φ ρ ev ((#[x]++lo.toArray++hi.toArray++mx.toArray).toList))(h:xR P ρ H t x lo hi mx=some v):
 ∃v',(Instr.sliceAt t (ev x) (lo.map ev) (hi.map ev) (mx.map ev)).run P w=.ok v' w∧VR φ v v':=by
 unfold xR at h;split at h
 ·rename_i l hh m e1 e2 e3;have r1:=Is (hr.nR (l':=lo.toList) (fun y hy=>by cases lo<;>simp at hy;subst hy;simp)) e1;have r2:=Is (hr.nR (l':=hi.toList) (fun y hy=>by cases hi<;>simp at hy;subst hy;simp)) e2;have r3:=Is (hr.nR (l':=mx.toList) (fun y hy=>by cases mx<;>simp at hy;subst hy;simp)) e3;have rx:∀a,ρ x=some a->VR φ a (ev x):=hr x (by simp);split at h
  ·rename_i s hu hx;obtain⟨b,hb,rfl⟩:=rx _ hx;obtain⟨hm,h⟩:=c6 h;have rp:m=none:=by cases m<;>simp at hm⊢
   subst rp;have uS:mx.map ev=none:=by rcases r3 with⟨_,h⟩|⟨_,_,e,_⟩;exact h;cases e
   obtain⟨l',h',h1,h2⟩:=avl (P:=P) h r1 r2 w;refine⟨_,?_,h2⟩;simp[Instr.sliceAt,Instr.slice,run_underlying hu w,hb,uS,h1]
  ·rename_i elem id off len cap sz ex hu hx;obtain⟨hs,h⟩:=c6 h;obtain⟨e,y,c,he,hv,hy,bF,nZ,jz⟩:=rx _ hx;obtain⟨l',h',m',h1,h2⟩:=Wl (P:=P) h he hy bF nZ jz r1 r2 r3 w true;have cJ:dw P elem=some sz:=by
    cases hq:dw P elem with
    |none=>simp[hq]at hs
    |some s=>simp[hq]at hs;rw[hs]
   refine⟨_,?_,h2⟩;by_cases uR:m'=l'
   ·simp[Instr.sliceAt,Instr.slice,run_underlying hu w,hv,h1,iV cJ w,uR]
   ·simp[Instr.sliceAt,Instr.slice,run_underlying hu w,hv,h1,iV cJ w,uR]
  ·rename_i elem cs len sz hu hx;obtain⟨hs,h⟩:=c6 h;have TL:=rx _ hx;have acj:=TL;simp only[VR]at acj;obtain⟨a,c,hv,_⟩:=acj;rw[hv]at TL;obtain⟨l',h',m',h1,h2⟩:=avm (P:=P) h TL r1 r2 r3 w;have cJ:dw P elem=some sz:=by
    cases hq:dw P elem with
    |none=>simp[hq]at hs
    |some s=>simp[hq]at hs;rw[hs]
   refine⟨_,?_,h2⟩;simp[Instr.sliceAt,Instr.slice,run_underlying hu w,hv,h1,iV cJ w]
  ·rename_i elem id len sz hu hx;obtain⟨hs,hq⟩:=c6 h;clear h;simp only[cW]at hs;obtain⟨⟨hs,Hd⟩,Bl⟩:=hs;have Hd:=Nat.le_of_ble_eq_true Hd;have rp:m=none:=by cases m<;>simp at Bl⊢
   subst rp;have cJ:dw P elem=some sz:=by
    cases hq:dw P elem with
    |none=>simp[hq]at hs
    |some s=>simp[hq]at hs;rw[hs]
   rcases rx _ hx with⟨h0,_⟩|⟨e,y,c,he,hv,hy,mS,jz⟩
   ·omega
   ·obtain⟨l',h',m',h1,h2⟩:=Wl (P:=P) (off:=0) (ex:=false) (cap:=1) hq he (by simpa using hy) mS (fun h=>by cases h) (by simpa using jz) r1 r2 r3 w true;refine⟨_,?_,h2⟩;by_cases uR:m'=l'
    ·simp[Instr.sliceAt,Instr.slice,run_underlying hu w,hv,h1,iV cJ w,uR]
    ·simp[Instr.sliceAt,Instr.slice,run_underlying hu w,hv,h1,iV cJ w,uR]
  ·rename_i elem hu hx;have hv:=rx _ hx;simp only[VR]at hv;obtain⟨hz,h⟩:=c6 h;cases h;simp only[cW]at hz;obtain⟨⟨⟨⟨z1,z2⟩,z3⟩,z4⟩,z5⟩:=hz;obtain⟨sz,cJ⟩:=Option.isSome_iff_exists.1 z5;refine⟨.slice none 0 0,?_,by simp[VR]⟩;have b1:=Xm z1;have b2:=Xm z2;have key:(Instr.sliceBounds true 0 0 (lo.map ev) (hi.map ev) (mx.map ev)).run P w=.ok (0,0,0) w:=by
    cases m with
    |none=>
     have uS:mx.map ev=none:=by rcases r3 with⟨_,h⟩|⟨_,_,e,_⟩;exact h;cases e
     rw[uS];exact NO b2 b1 r1 r2 (fB _) (fB _) w
    |some ma=>
     cases hh with
     |none=>simp at z4
     |some ha=>
      rcases r3 with⟨e,_⟩|⟨ma',mv,e,Eu,hma⟩
      ·cases e
      ·cases e;rcases r2 with⟨e,_⟩|⟨Lt,hv',e,El,hha⟩
       ·cases e
       ·cases e;rw[Eu,El];exact agB (Xm z3) hma b2 hha b1 r1 (fB _) (fB _) (fB _) w
   simp[Instr.sliceAt,Instr.slice,run_underlying hu w,hv,key,iV cJ w]
  ·rename_i n elem id off hu hx;obtain⟨e,he,hv⟩:=rx _ hx;split at h
   ·rename_i sz vs hs iB;obtain⟨hb,h⟩:=c6 h;obtain⟨cs,el,hg,cJ,cI,_,_⟩:=hw.CE iB he;have jz:e.o+off+n*sz<=e.n:=by have:=Nat.le_of_ble_eq_true hb;omega
    obtain⟨l',h',m',h1,h2⟩:=Wl (P:=P) h he (.inr rfl) (fB n) (fun _=>rfl) jz r1 r2 r3 w false;refine⟨_,?_,h2⟩;by_cases uR:m'=l'
    ·simp[Instr.sliceAt,Instr.sureAddr,run_underlying hu w,hv,h1,iV hs w,uR]
    ·simp[Instr.sliceAt,Instr.sureAddr,run_underlying hu w,hv,h1,iV hs w,uR]
   ·cases h
  ·cases h
 ·cases h
theorem amZ(hw:WR φ base H w){b:Builtin}{args:LV}{argTypes:Array TypeId}{T:TypeId}{vs:Array Value}{v:AV}(hv:bc φ args vs.toList)(h:Mk P H b args argTypes=some v):
 ∃v',(∀GH,(builtin b argTypes T GH vs).run P w=.ok (.value v') w)∧VR φ v v':=by
 unfold Mk at h;split at h
 ·rename_i x;simp only[bc]at hv;obtain⟨vx,rest,e,hx,rfl⟩:=hv;have h0:vs[0]? =some vx:=by rw[←Array.getElem?_toList,e];rfl
  unfold Ud at h;split at h
  ·rename_i n elem hu;cases h;cases ht:argTypes[0]? with
   |none=>simp[ht]at hu
   |some t=>simp only[ht,Option.bind_some]at hu;exact⟨goInt n,fun _=>by simp[builtin,Builtin.len_,ht,h0,run_underlying hu w],uF n⟩
  ·rename_i d _ hu;obtain⟨hf,h⟩:=c6 h;obtain⟨n,hn,rfl⟩:=tI h;cases ht:argTypes[0]? with
   |none=>simp[ht]at hu
   |some t=>simp only[ht,Option.bind_some]at hu;exact⟨goInt n,fun _=>by simp[builtin,ang (P:=P) (T:=T) hw hx hn hu hf ht h0],uF n⟩
  ·cases h
 ·rename_i x;simp only[bc]at hv;obtain⟨vx,rest,e,hx,rfl⟩:=hv;have h0:vs[0]? =some vx:=by rw[←Array.getElem?_toList,e];rfl
  unfold acR at h;split at h
  ·rename_i elem id off len c sz hu;cases h;obtain⟨e',y,c',he,rfl,hy,bF,nZ,jz⟩:=hx;cases ht:argTypes[0]? with
   |none=>simp[ht]at hu
   |some t=>simp only[ht,Option.bind_some]at hu;exact⟨goInt c',fun _=>by simp[builtin,Builtin.cap_,ht,h0,run_underlying hu w],by rw[nZ rfl];exact uF c⟩
  ·rename_i elem hu;cases h;simp only[VR]at hx;subst hx;cases ht:argTypes[0]? with
   |none=>simp[ht]at hu
   |some t=>simp only[ht,Option.bind_some]at hu;exact⟨goInt 0,fun _=>by simp[builtin,Builtin.cap_,ht,h0,run_underlying hu w],uF 0⟩
  ·cases h
 ·rename_i a l;simp only[bc]at hv;obtain⟨va,rest,e,ha,hl⟩:=hv;obtain⟨v',h1,h2⟩:=RH (P:=P) (w:=w) ha hl h;refine⟨v',fun _=>?_,h2⟩;simp only[if_true]at h1;simp[builtin,Builtin.max_,e,h1]
 ·rename_i a l;simp only[bc]at hv;obtain⟨va,rest,e,ha,hl⟩:=hv;obtain⟨v',h1,h2⟩:=RH (P:=P) (w:=w) ha hl h;refine⟨v',fun _=>?_,h2⟩;simp only[Bool.false_eq_true,if_false]at h1;simp[builtin,Builtin.min_,e,h1]
 ·cases h
theorem aeT{o:Oper}{v:AV}(hw:WR φ base H w)(hr:mr φ ρ ev o.op.operands.toList)(h:fK P ρ H o.op=some v):
 ∃v',(execOp ev o).run P w=.ok (.value v') w∧VR φ v v':=by
 cases o with
 |mk dst op type pos after guard=>
 simp only at hr h;cases op<;>simp only[fK]at h<;>try (cases h;done)
 case move x=>exact⟨ev x,by simp[execOp],hr x (by simp[Op.operands]) v h⟩
 case assign x=>exact⟨ev x,by simp[execOp],hr x (by simp[Op.operands]) v h⟩
 case pick c a b=>
  unfold Mm at h;split at h
  ·rename_i t hc;have h1:=hr c (by simp[Op.operands]) _ hc;simp only[VR]at h1;cases t
   ·simp only[cond_false]at h;exact⟨ev b,by simp[execOp,h1,asBool],hr b (by simp[Op.operands]) v h⟩
   ·simp only[cond_true]at h;exact⟨ev a,by simp[execOp,h1,asBool],hr a (by simp[Op.operands]) v h⟩
  ·cases h
 case build t kj=>obtain⟨v',h1,h2⟩:=amY (ev:=ev) (w:=w) (hr.nR (fun x hx=>by simpa[Op.operands]using hx)) h;exact⟨v',by simp only[execOp];exact mz h1,h2⟩
 case load t a=>
  unfold H_ at h;split at h
  ·rename_i id off ha;obtain⟨e,he,hv⟩:=hr a (by simp[Op.operands]) _ ha;obtain⟨v',h1,h2⟩:=Us hw h he;exact⟨v',by simp only[execOp];exact mz (by simp[Instr.loadAt,Instr.sureAddr,hv,h1]),h2⟩
  ·rename_i cs ha;obtain⟨b,x,eC,el,fz,hv,fE,cJ,hc⟩:=hr a (by simp[Op.operands]) _ ha;obtain⟨v',h1,h2⟩:=anq (P:=P) (w:=w) h (hw.ro _ _ fE).1.2 cJ hc;have h2:=VR.gW (eg.BT φ) _ _ h2;exact⟨v',by simp only[execOp];exact mz (by simp[Instr.loadAt,Instr.sureAddr,hv,h1]),h2⟩
  ·cases h
 case nilCheck x=>
  unfold Uh at h;split at h
  ·rename_i id off hx;cases h;have h0:=hr x (by simp[Op.operands]) _ hx;obtain⟨e,he,hv⟩:=h0;exact⟨ev x,by simp[execOp,hv],e,he,hv⟩
  ·rename_i cs hx;cases h;have h0:=hr x (by simp[Op.operands]) _ hx;have h1:=h0;obtain⟨b,y,eC,el,fz,hv,_⟩:=h0;exact⟨ev x,by simp[execOp,hv],h1⟩
  ·rename_i f l c hx;cases h;have h0:=hr x (by simp[Op.operands]) _ hx;have h1:=h0;obtain⟨f',c',hv,_⟩:=h0;exact⟨ev x,by simp[execOp,hv],h1⟩
  ·rename_i t a hx;cases h;have h0:=hr x (by simp[Op.operands]) _ hx;have h1:=h0;obtain⟨a',hv,_⟩:=h0;exact⟨ev x,by simp[execOp,hv],h1⟩
  ·cases h
 case binOp op t x y yt=>
  unfold Mi at h;split at h
  ·rename_i a b ha hb;obtain⟨v',h1,h2⟩:=aiJ (P:=P) (hr x (by simp[Op.operands]) _ ha) (hr y (by simp[Op.operands]) _ hb) h w;exact⟨v',by simp only[execOp];exact mz h1,h2⟩
  ·cases h
 case unOp op t x=>
  unfold Uj at h;split at h
  ·rename_i a ha;cases hv:Oh a with
   |none=>simp[hv]at h
   |some va=>
    simp only[hv,Option.bind_some]at h;have h0:=av7 hv (hr x (by simp[Op.operands]) _ ha);cases hp:yb P (Op.unary op va)with
    |none=>simp[hp]at h
    |some v'=>simp only[hp,Option.bind_some]at h;exact⟨v',by simp only[execOp];exact mz (by rw[h0];exact Vf hp w),ad3 h⟩
  ·cases h
 case convert lv dst x=>
  unfold T' at h;split at h
  ·rename_i k0 k k1 n h1 h2 h3;cases h;have h0:=hr x (by simp[Op.operands]) _ h3;simp only[VR]at h0;exact⟨.int k (k.wrap n),by simp only[execOp];exact mz (by simp[convert,run_underlying h1 w,run_underlying h2 w,h0,Conv.intToInt]),by simp[VR]⟩
  ·rename_i s h1 h2 h3;cases h;have h0:=hr x (by simp[Op.operands]) _ h3;obtain⟨b,hb,e⟩:=h0;exact⟨.string b,by simp only[execOp];exact mz (by simp[convert,run_underlying h1 w,run_underlying h2 w,hb]),b,rfl,e⟩
  ·cases h
 case makeInterface t x=>
  unfold Uf at h;split at h
  ·cases h
  ·rename_i d a rq hu ha;cases h;refine⟨.iface t (ev x),?_,_,rfl,hr x (by simp[Op.operands]) _ ha⟩;simp only[execOp];refine mz ?_;simp only[Instr.makeInterface,Sem.run_bind,run_underlying hu w,Result.andThen_ok];cases d<;>first
    |rfl
    |(exact absurd rfl (rq _))
  ·cases h
 case makeFunc fn first j9=>
  unfold Ue at h;split at h
  ·rename_i f c hf hc;cases hy:tB fn
   ·rw[hy]at h;cases h;refine⟨.func fn (first.map ev) (j9.map ev),by simp only[execOp];exact mz (by simp[Instr.makeFunc]),_,_,rfl,hy,?_,?_⟩
    ·have:=yL (hr.nR (l':=first.toList) (fun x hx=>by simp only[Op.operands,Array.toList_append,List.mem_append];exact .inl hx)) hf;simpa using this
    ·have:=yL (hr.nR (l':=j9.toList) (fun x hx=>by simp only[Op.operands,Array.toList_append,List.mem_append];exact .inr hx)) hc;simpa using this
   ·rw[hy]at h;cases h
  ·cases h
 case slice t x lo hi mx=>obtain⟨v',h1,h2⟩:=am0 (P:=P) hw (hr.nR (fun y hy=>by simpa[Op.operands]using hy)) h;exact⟨v',by simp only[execOp];exact mz h1,h2⟩
 case fieldAddr s x f=>
  unfold Uc at h;split at h
  ·rename_i gn id off hu hx;obtain⟨e,he,hv⟩:=hr x (by simp[Op.operands]) _ hx;unfold aaN at h;split at h
   ·rename_i fd Bc;split at h
    ·rename_i sz cJ;cases h;refine⟨.pointer (some ⟨e.b,e.o+(off+fd.offset),none⟩),?_,e,he,rfl⟩;simp only[execOp];refine mz ?_;simp only[Instr.fieldAt,Sem.run_bind,run_underlying hu w,Result.andThen_ok,Bc,Instr.sureAddr,hv,Sem.run_pure,fieldPlace,iV cJ w];simp[wW,Nat.add_assoc]
    ·cases h
   ·cases h
  ·rename_i gn cs hu hx;obtain⟨b,y,eC,el,fz,hv,fE,L4,hc⟩:=hr x (by simp[Op.operands]) _ hx;unfold aaO at h;split at h
   ·rename_i fd Bc;split at h
    ·rename_i sz cJ;obtain⟨hb,h⟩:=c6 h;have hb:=Nat.le_of_ble_eq_true hb;cases h;refine⟨.pointer (some ⟨b,y+fd.offset,none⟩),?_,b,y+fd.offset,eC,el,fz,rfl,fE,by simp;omega,?_⟩
     ·simp only[execOp];refine mz ?_;simp only[Instr.fieldAt,Sem.run_bind,run_underlying hu w,Result.andThen_ok,Bc,Instr.sureAddr,hv,Sem.run_pure,fieldPlace,iV cJ w];simp[wW]
     ·have h2:=hc.uf fd.offset;rw[List.drop_take,List.drop_drop]at h2;simpa using h2
    ·cases h
   ·cases h
  ·cases h
 case field t x f=>
  unfold Ub at h;split at h
  ·rename_i gn cs hu hx;obtain⟨cs',hv,hc⟩:=hr x (by simp[Op.operands]) _ hx;unfold aaM at h;split at h
   ·rename_i fd Bc;obtain⟨v',h1,h2⟩:=Ng hc h w;exact⟨v',by simp only[execOp];exact mz (by simp[Instr.field,run_underlying hu w,Bc,hv,asAgg,h1]),h2⟩
   ·cases h
  ·cases h
 case indexAddr t x i=>
  unfold H9 at h;split at h
  ·rename_i n elem id off k j hu hx hi;obtain⟨e,he,hv⟩:=hr x (by simp[Op.operands]) _ hx;have eO:=hr i (by simp[Op.operands]) _ hi;simp only[VR]at eO;obtain⟨s,hs,aj,rfl⟩:=Re h;refine⟨.pointer (some ⟨e.b,e.o+(off+j*s),none⟩),?_,e,he,rfl⟩;simp only[execOp];refine mz ?_;simp[Instr.indexAt,eO,asIntOf,run_underlying hu w,Instr.sureAddr,hv,aj,hs,wW,Nat.add_assoc]
  ·rename_i elem id off len cap sz ex k j hu hx hi;obtain⟨e,y,c,he,hv,hy,bF,nZ,jz⟩:=hr x (by simp[Op.operands]) _ hx;have eO:=hr i (by simp[Op.operands]) _ hi;simp only[VR]at eO;obtain⟨s,hs,aj,rfl⟩:=Re h;have l8:y=e.o+off:=by rcases hy with h|h<;>omega
   subst l8;refine⟨.pointer (some ⟨e.b,e.o+(off+j*s),none⟩),?_,e,he,rfl⟩;simp only[execOp];refine mz ?_;simp[Instr.indexAt,eO,asIntOf,run_underlying hu w,hv,aj,hs,wW,Nat.add_assoc]
  ·rename_i elem cs len sz k j hu hx hi;obtain⟨a,c,hv,bF,hd⟩:=hr x (by simp[Op.operands]) _ hx;have eO:=hr i (by simp[Op.operands]) _ hi;simp only[VR]at eO;obtain⟨hs,aj,rfl⟩:=ajH h;rcases hd with hd|⟨b,y,eC,el,fz,rfl,mS,fE,cJ,hc⟩
   ·omega
   ·have m1:j*sz+sz<=len*sz:=by have:=Nat.mul_le_mul_right sz (show j+1<=len by omega);rw[Nat.add_mul]at this;omega
    have jy:((cs.drop (j*sz)).take sz).length=sz:=by simp;omega
    refine⟨.pointer (some ⟨b,y+j*sz,none⟩),?_,b,y+j*sz,eC,el,fz,rfl,fE,by rw[jy];omega,?_⟩
    ·simp only[execOp];refine mz ?_;simp[Instr.indexAt,eO,asIntOf,run_underlying hu w,hv,aj,hs,wW]
    ·rw[jy];have h2:=(hc.uf (j*sz)).rZ sz;have e3:(((eC.toList.drop y).take cs.length).drop (j*sz)).take sz=(eC.toList.drop (y+j*sz)).take sz:=by rw[List.drop_take,List.drop_drop,List.take_take];congr 1;omega
     rw[e3]at h2;exact h2
  ·rename_i elem id len sz k j hu hx hi;obtain⟨hz,h⟩:=c6 h;have eO:=hr i (by simp[Op.operands]) _ hi;simp only[VR]at eO;obtain⟨s,hs,aj,rfl⟩:=Re h;rcases hr x (by simp[Op.operands]) _ hx with⟨h0,_⟩|⟨e,y,c,he,hv,hy,mS,jz⟩
   ·omega
   ·have l8:y=e.o:=by rcases hy with h|h<;>omega
    subst l8;refine⟨.pointer (some ⟨e.b,e.o+(0+j*s),none⟩),?_,e,he,rfl⟩;simp only[execOp];refine mz ?_;simp[Instr.indexAt,eO,asIntOf,run_underlying hu w,hv,aj,hs,wW]
  ·cases h
 case index t x i=>
  unfold H8 at h;split at h
  ·rename_i n elem cs k j hu hx hi;obtain⟨cs',hv,hc⟩:=hr x (by simp[Op.operands]) _ hx;have eO:=hr i (by simp[Op.operands]) _ hi;simp only[VR]at eO;unfold Rd at h;split at h
   ·rename_i s hs;obtain⟨hb,h⟩:=c6 h;obtain⟨v',h1,h2⟩:=Ng hc h w;have aj:j<n:=by have:=Nat.le_of_ble_eq_true hb;omega
    exact⟨v',by simp only[execOp];exact mz (by simp[Instr.index,eO,asIntOf,run_underlying hu w,hv,aj,iV hs w,h1]),h2⟩
   ·cases h
  ·rename_i s k j hu hx hi;obtain⟨b,hv,rfl⟩:=hr x (by simp[Op.operands]) _ hx;have eO:=hr i (by simp[Op.operands]) _ hi;simp only[VR]at eO;unfold QL at h;split at h
   ·rename_i c hc;cases h;have hj:∃u,b[j]? =some u∧u.toNat=c:=by
     simp only[fo,List.getElem?_map]at hc;cases hq:b.data.toList[j]? with
     |none=>simp[hq]at hc
     |some u=>
      simp only[hq,Option.map_some,p9]at hc;refine⟨u,?_,hc⟩;obtain⟨aj,HS⟩:=List.getElem?_eq_some_iff.1 hq;have al8:j<b.size:=by simpa using aj
      rw[getElem?_pos b j al8];simp only[←HS];rfl
    obtain⟨u,TB,hu2⟩:=hj;exact⟨.int .u8 u.toNat,by simp only[execOp];exact mz (by simp[Instr.index,eO,asIntOf,run_underlying hu w,hv,TB]),by simp[VR,hu2]⟩
   ·cases h
  ·cases h
 case lookup t x k ok=>
  unfold ET at h;split at h
  ·rename_i kt elem m key hu hx hk;obtain⟨v',h1,h2⟩:=anr (P:=P) hw hu h (hr x (by simp[Op.operands]) _ hx) (hr k (by simp[Op.operands]) _ hk);exact⟨v',by simp only[execOp];exact mz h1,h2⟩
  ·cases h
 case typeAssert x xt np ok=>
  unfold Ui at h;split at h
  ·cases h
  ·rename_i d a rq hu hx;obtain⟨v',h1,h2⟩:=aiv (P:=P) (xT:=xt) hu (fun ms e=>rq ms e) h (hr x (by simp[Op.operands]) _ hx) w;exact⟨v',by simp only[execOp];exact mz h1,h2⟩
  ·cases h
 case extract x i=>
  unfold Ua at h;split at h
  ·rename_i vs hx;obtain⟨eV,hv,iB⟩:=hr x (by simp[Op.operands]) _ hx;obtain⟨v',h1,h2⟩:=iB.get h;have h3:eV[i]? =some v':=by simpa using h1
   exact⟨v',by simp only[execOp];exact mz (by simp[Instr.extract,hv,h3]),h2⟩
  ·cases h
 case call c=>
  obtain⟨callee,args,argTypes⟩:=c;cases callee<;>simp only at h<;>try (cases h;done)
  rename_i b;unfold T_ at h;split at h
  ·rename_i l hl;have iB:=yL (hr.nR (l':=args.toList) (fun x hx=>by simp[Op.operands,Call.operands];simpa using hx)) hl;obtain⟨v',h1,h2⟩:=amZ (P:=P) (T:=type) hw (vs:=args.map ev) (by simpa using iB) h;refine⟨v',?_,h2⟩;simp only[execOp,resolve,Sem.run_bind,Sem.run_pure,Result.andThen_ok,invoke];exact h1 _
  ·cases h
end
end Go.Ev
