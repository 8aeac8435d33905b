/- The evaluator: definitions, reads. -/
import GoSem.Step
import Derived.WalkKit
import Derived.Defers
import Derived.ChangeKeysEq
import Derived.Laws.CopyRow
import Derived.Laws.Rows
import Derived.MapKept
import Derived.RangeFuncOwn
set_option linter.all false
set_option linter.unusedSectionVars false
namespace Go.Ev
noncomputable section
abbrev LI:=List Int
abbrev LN:=List Nat
abbrev LP:=List (Int×Int)
abbrev aE:= @Int.ofNat
abbrev jn:= @List.cons.injEq
abbrev mJ:= @List.eq_nil_of_length_eq_zero
abbrev gR:= @List.map_cons
abbrev ia:= @List.mem_append
abbrev mK:= @List.getD_cons_zero
abbrev gq:= @Nat.zero_le
abbrev ph:= @Nat.le_of_ble_eq_true
abbrev lZ:= @List.all_eq_true
abbrev qC:= @Option.map_some
abbrev qD:= @Option.bind_some
abbrev rB:= @List.getD_cons_succ
abbrev l4:= @List.append_inj
abbrev sb:= @List.length_eq_zero_iff
abbrev kZ:= @Bool.and_self
abbrev og:= @List.length_map
abbrev xh:= @List.getElem?_take_of_lt
abbrev vN:= @List.length_take
abbrev kF:= @Nat.le_trans
abbrev k7:= @Nat.beq_refl
abbrev vO:= @Array.getElem?_toList
abbrev qE:= @Bool.eq_false_iff
abbrev Ax:= @Array.getElem?_eq_getElem
abbrev tf:= @List.getElem?_drop
abbrev uv:= @List.getElem?_map
abbrev Ay:= @List.getElem?_eq_none
abbrev nJ:= @List.mem_map
abbrev qF:= @List.map_append
abbrev yT:= @Bool.not_eq_true'
abbrev sc:= @List.all_append
abbrev rC:= @Bool.eq_iff_iff
abbrev vP:= @List.mem_map_of_mem
abbrev qcp:= @List.not_mem_nil
abbrev vQ:= @List.filter_cons
abbrev xj:= @List.pairwise_append
abbrev oI:= @Nat.mul_one
abbrev uw:= @List.nodup_cons
abbrev vR:= @List.take_add_one
abbrev Cz:= @List.getElem_cons_succ
abbrev Az:= @List.take_take
abbrev tg:= @Bool.false_and
abbrev vT:= @List.take_length
abbrev Fs:= @List.flatten_cons
abbrev Sd:= @List.getElem?_cons_succ
abbrev I0:= @List.filter_append
abbrev xk:= @List.drop_drop
abbrev yU:= @Option.any_some
abbrev vU:= @List.mem_filter
abbrev CA:= @Option.map_eq_some_iff
abbrev CB:= @List.take_of_length_le
abbrev CC:= @Array.toList_append
abbrev ux:= @Nat.ble_eq
abbrev xm:= @List.take_left'
abbrev I1:= @Bool.false_eq_true
abbrev Se:= @Nat.mul_le_mul_right
abbrev CE:= @List.mem_of_mem_take
abbrev I2:= @List.drop_length_add_append
abbrev xp:= @Nat.add_mul
abbrev MS:= @Array.getElem?_eq_some_iff
abbrev qdq:= @List.getElem_cons_zero
abbrev yV:= @List.drop_take
abbrev Ft:= @List.getElem?_take
abbrev MT:= @List.flatten_nil
abbrev Fu:= @List.mem_of_mem_drop
abbrev CG:= @Decidable.not_not
abbrev MU:= @Nat.min_eq_left
abbrev MV:= @Array.getD_eq_getD_getElem?
abbrev I3:= @Nat.add_zero
abbrev yW:= @Bool.and_true
abbrev CH:= @Nat.zero_lt_succ
abbrev qeb:= @List.length_drop
abbrev Fv:= @List.pairwise_cons
abbrev MW:= @List.getElem?_eq_some_iff
abbrev I4:= @List.mem_of_getElem?
abbrev I5:= @List.mem_append_left
abbrev Fx:= @Nat.lt_succ_of_lt
abbrev qeh:= @List.flatMap_cons
abbrev qei:= @List.take_succ_cons
abbrev CI:= @List.nodup_nil
abbrev I6:= @Nat.eq_zero_or_pos
abbrev qel:= @Nat.zero_mul
abbrev Sf:= @Array.getElem?_setIfInBounds
abbrev Sg:= @Bool.or_eq_true
abbrev I7:= @Prod.mk.injEq
abbrev I8:= @List.foldl_append
abbrev Sh:= @Option.getD_some
abbrev Fy:= @Nat.lt_or_ge
abbrev qes:= @List.flatten_append
abbrev qet:= @List.drop_succ_cons
abbrev Si:= @Option.isSome_iff_exists
abbrev Fz:= @Nat.add_assoc
abbrev MX:= @Nat.lt_of_lt_of_le
abbrev MY:= @List.mem_filterMap
abbrev Sj:= @List.filter_eq_nil_iff
abbrev Sk:= @List.ext_getElem?
abbrev MZ:= @Array.isEmpty_iff
abbrev I9:= @List.mem_range
abbrev Sl:= @List.foldl_nil
abbrev I_:= @Bool.and_false
abbrev cI:= @List.length_append
abbrev ej:= @List.length_cons
abbrev gW:= @List.length_nil
abbrev az:= @if_neg
abbrev aO:= @if_pos
abbrev dk:= @Bool.and_eq_true
abbrev gQ:= @List.drop_eq_nil_of_le
abbrev dw:= @Option.some.inj
abbrev dG:= @Nat.eq_of_beq_eq_true
abbrev dZ:= @List.mem_cons_of_mem
abbrev dQ:= @of_decide_eq_true
abbrev ez:= @of_decide_eq_false
abbrev dJ:= @List.mem_cons_self
abbrev dm:= @List.mem_cons
abbrev sa:= @Int.ofNat_eq_natCast
abbrev ir:= @List.getElem?_eq_getElem
abbrev jm:= @List.append_nil
abbrev j7:= @List.append_assoc
abbrev cM:= @Nat.le_refl
abbrev Cx:= @decide_eq_true_eq
abbrev qau:= @Classical.byContradiction
abbrev ki:= @Nat.zero_add
abbrev lY:= @Nat.lt_succ_self
abbrev xf:= @List.drop_zero
abbrev rz:= @List.foldl_cons
abbrev Aw:= @Int.le_refl
abbrev oe:= @List.mem_singleton
abbrev rA:= @Bool.true_and
abbrev MQ:= @List.getElem?_append_right
abbrev xg:= @List.take_append_drop
abbrev qbe:= @List.drop_left
abbrev pW:= @List.getElem_mem
abbrev pg:= @Option.some.injEq
abbrev oH:= @List.cons_append
abbrev Cy:= @List.nil_append
section
inductive Tr(α:Type)where
 |gZ
 |fU (v:Option α) (l r:Tr α)
namespace Tr
variable{α:Type}
def bT(t:Tr α):Nat->Option α:=
 @Tr.rec α (λ_=>Nat->Option α) (λ_=>none)
  (λv _ _ gl gr n=> @Bool.rec (λ_=>Option α) (@Bool.rec (λ_=>Option α) (gr (Nat.sub (Nat.div n 2) 1)) (gl (Nat.div n 2)) (Nat.beq (Nat.mod n 2) 1)) v (Nat.beq n 0)) t
def vY(f:Nat):Nat->α->Tr α:=
 @Nat.rec (λ_=>Nat->α->Tr α) (λ_ a=>.fU (some a) .gZ .gZ)
  (λ_ sg n a=> @Bool.rec (λ_=>Tr α) (@Bool.rec (λ_=>Tr α) (.fU none .gZ (sg (Nat.sub (Nat.div n 2) 1) a)) (.fU none (sg (Nat.div n 2) a) .gZ) (Nat.beq (Nat.mod n 2) 1)) (.fU (some a) .gZ .gZ) (Nat.beq n 0)) f
def fV(t:Tr α):Nat->α->Tr α:=
 @Tr.rec α (λ_=>Nat->α->Tr α) (λn a=>vY n n a)
  (λv l r sl sr n a=> @Bool.rec (λ_=>Tr α) (@Bool.rec (λ_=>Tr α) (.fU v l (sr (Nat.sub (Nat.div n 2) 1) a)) (.fU v (sl (Nat.div n 2) a) r) (Nat.beq (Nat.mod n 2) 1)) (.fU (some a) l r) (Nat.beq n 0)) t
def AR(t:Tr α):Nat->Tr α:=
 @Tr.rec α (λ_=>Nat->Tr α) (λ_=>.gZ)
  (λv l r el er n=> @Bool.rec (λ_=>Tr α) (@Bool.rec (λ_=>Tr α) (.fU v l (er (Nat.sub (Nat.div n 2) 1))) (.fU v (el (Nat.div n 2)) r) (Nat.beq (Nat.mod n 2) 1)) (.fU none l r) (Nat.beq n 0)) t
def Cm:List α->Nat->Tr α->Tr α
 |[],_,t=>t
 |a::l,n,t=>Cm l (n+1) (t.fV n a)
end Tr
inductive AV where
 |ao (b:Bool)
 |bU (k:IntKind) (n:Int)
 |ab (s:LN)
 |aa (id off:Nat)
 |kE
 |bq (id off len cap sz:Nat) (ex:Bool)
 |aJ
 |aA (id:Nat)
 |mF
 |ba (fn:Fn) (first lu:List AV)
 |gz (l:Nat)
 |p_
 |dT (t:TypeId) (v:AV)
 |lq
 |ah (cs:List AV)
 |aC (vs:List AV)
 |uW (g:Nat)
 |ad (cs:List AV) (len sz:Nat)
 |pw (cs:List AV)
 |ai (id len sz:Nat)
 |gX (n off:Nat)
 |fF (n len sz:Nat)
 |qS
 |dH (v:AV)
 deriving Inhabited
def du(b:ByteArray):LN:=b.data.toList.map UInt8.toNat
def vq:Fn->Bool
 |.yield _=>true
 |_=>false
def O':Value->Option AV
 |.bool b=>some (.ao b)
 |.int k n=>some (.bU k n)
 |.string s=>some (.ab (du s))
 |.pointer none=>some .kE
 |.slice none 0 0=>some .aJ
 |.map none=>some .mF
 |.func fn f c=>bif vq fn|| !f.isEmpty|| !c.isEmpty then none else some (.ba fn [] [])
 |.nilFunc=>some .p_
 |.nilIface=>some .lq
 |_=>none
abbrev LV:=List AV
def GJ:List Value->Option LV
 |[]=>some []
 |v::l=>match O' v with
  |none=>none
  |some a=>match GJ l with
   |none=>none
   |some as=>some (a::as)
def JD:Value->Option AV
 |.agg cs=>(GJ cs.toList).map .ah
 |.tuple cs=>bif cs.isEmpty then some (.aC [])else none
 |v=>O' v
def AV.cX:AV->Bool
 |.ah _|.aC _=>false
 |_=>true
def AV.dK:AV->LV
 |.ah cs=>cs
 |v=>[v]
def AV.lI:AV:=.aC []
mutual
def eG:AV->Bool
 |.aa .. |.bq .. |.aA _|.gz _|.ai .. =>false
 |.ba _ f c=>yR f&&yR c
 |.dT _ v=>eG v
 |.ah cs=>yR cs
 |.aC cs=>yR cs
 |_=>true
def yR:LV->Bool
 |[]=>true
 |a::l=>eG a&&yR l
end
def bW:LN->LN->Bool
 |[],[]=>true
 |a::l,b::m=>bif Nat.beq a b then bW l m else false
 |_,_=>false
def kg:LN->LN->Bool
 |_,[]=>false
 |[],_::_=>true
 |a::x,b::y=>bif Nat.ble (a+1) b then true else bif Nat.beq a b then kg x y else false
inductive pD where
 |uF (fn:Fn) (lu args:LV)
 |oo (r:Nat)
inductive bk where
 |aj (vs:LV) (elem:TypeId)
 |bm (es:List (AV×AV×Nat)) (clock:Nat) (p:Bool)
 |tp (s:LN) (pos:Nat)
 |je (m:Option Nat) (since:Nat) (bE:LN) (CT:Nat)
 |gK (state:LoopState) (pending:Option Code) (fn:Nat) (tmps:Tr AV) (nt:Nat) (params:List Tmp) (assign body:Code) (defers:Nat)
 |pB (V6:Option (List pD))
 |bc (vs:LV)
 |dR (vs:LV) (elem:TypeId)
 |ay (vs:LV) (elem:TypeId)
structure XH where
 g:Nat->Option bk
 n:Nat
structure AH where
 h:Tr bk
 bx:Nat
 x:Option XH
def AH.eD:AH->bk->AH
 |⟨h,n,x⟩,o=>⟨h.fV n o,Nat.succ n,x⟩
def AH.cQ:AH->Nat->bk->AH
 |⟨h,n,x⟩,id,o=>⟨h.fV id o,n,x⟩
def AH.bf:AH->Nat->Option bk
 |⟨h,_,_⟩,id=>h.bT id
def XH.set(X:XH)(n:Nat)(o:Option bk):XH:=⟨λi=>bif Nat.beq i n then o else X.g i,X.n⟩
def AH.hJ:AH->Nat->Option bk
 |⟨_,_,some X⟩,n=>X.g n
 |_,_=>none
def AH.nM:AH->Nat->Option bk->AH
 |⟨h,k,some X⟩,n,o=>⟨h,k,some (X.set n o)⟩
 |H,_,_=>H
def AH.Ny:AH->bk->Option (Nat×AH)
 |⟨h,k,some X⟩,o=>some (X.n,⟨h,k,some ⟨(X.set X.n (some o)).g,X.n+1⟩⟩)
 |_,_=>none
def j9(z:LV)(n:Nat):LV:=
 match n with
 |0=>[]
 |n+1=>z++j9 z n
def AH.p9(H:AH)(id:Nat):Option LV:=
 match H.bf id with
 |some (.aj vs _)=>some vs
 |some (.dR vs _)=>some vs
 |some (.ay vs _)=>some vs
 |_=>none
def iw(tmps:Tr AV):Operand->Option AV
 |.tmp t=>tmps.bT t
 |.const v=>JD v
 |.global g=>some (.uW g)
 |.func f=>some (.ba (.func f) [] [])
def uN(ρ:Operand->Option AV):List Operand->Option LV
 |[]=>some []
 |x::l=>match ρ x with
  |none=>none
  |some a=>match uN ρ l with
   |none=>none
   |some as=>some (a::as)
def Gu(ρ:Operand->Option AV):List (Nat×Operand)->Option (List (Nat×AV))
 |[]=>some []
 |(i,x)::l=>match ρ x with
  |none=>none
  |some a=>match Gu ρ l with
   |none=>none
   |some as=>some ((i,a)::as)
section types
variable(P:Program)
def BY(t:TypeId):Option Bool:=
 match P.underlying t with
 |some (.struct _)|some (.array _ _)=>some true
 |some _=>some false
 |none=>none
def cU(t:TypeId):Option Nat:=(P.info? t).map (·.size)
def tI(t:TypeId):Option Nat:=(P.info? t).map (·.bytes)
def jZ(t:TypeId):Option AV:=((P.info? t).bind (·.zero)).bind JD
def aj9:TypeDesc->Bool
 |.int _|.string|.bool=>true
 |_=>false
def aka(t:TypeId):Bool:=
 match P.underlying t with
 |some (.struct fQ)=>fQ.toList.all λf=>(P.underlying f.type).any aj9
 |some d=>aj9 d
 |none=>false
def aj0(fQ:Array Field):Option (List (Nat×Nat)):=
 fQ.toList.mapM λf=>(cU P f.type).map λs=>(f.offset,s)
end types
def Av{α:Type}(P:Program):Sem α->Option α
 |.pure a=>some a
 |.program k=>Av P (k P)
 |_=>none
def S9:AV->Option Value
 |.ao b=>some (.bool b)
 |.bU k n=>some (.int k n)
 |_=>none
def RJ:Value->Option AV
 |.bool b=>some (.ao b)
 |.int k n=>some (.bU k n)
 |_=>none
def oi(l:LV)(off n:Nat):Option LV:=
 let r:=(l.drop off).take n
 bif Nat.beq r.length n then some r else none
def ag2(n:Nat):LV->Bool:=
 @Nat.rec (λ_=>LV->Bool) (λ_=>true) (λ_ r l=> @List.rec AV (λ_=>(LV->Bool)->Bool) (λ_=>false) (λ_ t _ r=>r t) l r) n
def xe(l:LV)(off:Nat)(cs:LV):Option LV:=
 bif ag2 (off+cs.length) l then some (l.take off++(cs++l.drop (off+cs.length)))else none
def zN(IW:Nat->Option (Nat×Nat))(cells:LV):List (Nat×AV)->Option LV
 |[]=>some cells
 |(i,v)::rest=>
  match IW i with
  |none=>none
  |some (off,size)=>
   bif Nat.beq v.dK.length size then
    match xe cells off v.dK with
    |none=>none
    |some aoU=>zN IW aoU rest
   else none
def cw(P:Program)(t:TypeId)(cs:LV)(off:Nat):Option AV:=
 match BY P t with
 |some true=>match cU P t with
  |some s=>(oi cs off s).map .ah
  |none=>none
 |some false=>cs[off]?
 |none=>none
def yO(len:Nat):Option Bool:=bif Nat.beq len 0 then none else some false
def ik(P:Program):Nat->TypeId->AV->AV->Option Bool
 |0,_,_,_=>none
 |d+1,t,x,y=>
  match P.underlying t,x,y with
  |some .bool,.ao a,.ao b=>some (a==b)
  |some (.int _),.bU k a,.bU k' b=>if k=k' then some (a==b)else none
  |some .string,.ab a,.ab b=>some (bW a b)
  |some (.pointer _),.kE,.kE=>some true
  |some (.pointer _),.kE,.aa _ _=>some false
  |some (.pointer _),.aa _ _,.kE=>some false
  |some (.pointer _),.kE,.gX _ _=>some false
  |some (.pointer _),.gX _ _,.kE=>some false
  |some (.slice _),.aJ,.aJ=>some true
  |some (.slice _),.aJ,.bq .. =>some false
  |some (.slice _),.bq ..,.aJ=>some false
  |some (.map _ _),.mF,.mF=>some true
  |some (.map _ _),.mF,.aA _=>some false
  |some (.map _ _),.aA _,.mF=>some false
  |some (.func _ _ _),.p_,.p_=>some true
  |some (.func _ _ _),.p_,.ba _ _ _=>some false
  |some (.func _ _ _),.ba _ _ _,.p_=>some false
  |some (.interface _),.lq,.lq=>some true
  |some (.interface _),.lq,.dT _ _=>some false
  |some (.interface _),.dT _ _,.lq=>some false
  |some (.interface _),.dT tx vx,.dT ty vy=>
   bif Nat.beq tx ty then
    match P.info? tx with
    |some i=>bif i.comparable then ik P d tx vx vy else none
    |none=>none
   else some false
  |some (.struct fQ),.ah xs,.ah ys=>
   bif P.stoodInHeld t then none else Dr P d fQ.toList xs ys (ik P d)
  |some (.slice _),.aJ,.ad _ len _=>yO len
  |some (.slice _),.ad _ len _,.aJ=>yO len
  |some (.slice _),.aJ,.ai _ len _=>yO len
  |some (.slice _),.ai _ len _,.aJ=>yO len
  |some (.slice _),.aJ,.fF _ len _=>some (Nat.beq len 0)
  |some (.slice _),.fF _ len _,.aJ=>some (Nat.beq len 0)
  |_,_,_=>none
where
 Dr (P:Program) (d:Nat):List Field->LV->LV->(TypeId->AV->AV->Option Bool)->Option Bool
 |[],_,_,_=>some true
 |f::fs,xs,ys,eq=>
  if f.name= "_" then none else
  match cw P f.type xs f.offset,cw P f.type ys f.offset with
  |some a,some b=>match eq f.type a b with
   |some true=>Dr P d fs xs ys eq
   |some false=>some false
   |none=>none
  |_,_=>none
def s7:Operand->Bool
 |.const _=>true
 |_=>false
def Wb(op:BinOp)(x y:LN):Option AV:=
 match op with
 |.add=>bif Nat.ble (x.length+y.length) 1000000 then some (.ab (x++y))else none
 |.eql=>some (.ao (bW x y))
 |.neq=>some (.ao (!bW x y))
 |.lss=>some (.ao (kg x y))
 |.leq=>some (.ao (kg x y||bW x y))
 |.gtr=>some (.ao (!(kg x y||bW x y)))
 |.geq=>some (.ao (!kg x y))
 |_=>none
def oB:AV->Nat
 |.ao _=>0
 |.aa .. |.kE|.gX .. =>1
 |.bq .. |.aJ|.ad .. |.ai .. |.fF .. =>2
 |.aA _|.mF=>3
 |.ba .. |.p_=>4
 |.dT .. |.lq=>5
 |.ah _=>6
 |_=>9
def Bz(P:Program)(t:TypeId)(x y:Operand):AV->AV->Bool
 |.lq,.lq=>s7 x||s7 y
 |.ah _,.ah _=> !P.eqGuardType P.depth t
 |_,_=>true
def Bi(P:Program)(op:BinOp)(t:TypeId)(a b:AV):Option AV:=
 match op with
 |.eql=>(ik P 100 t a b).map .ao
 |.neq=>(ik P 100 t a b).map λr=>.ao (!r)
 |_=>none
def GD(P:Program)(op:BinOp)(t:TypeId)(x y:Operand)(a b:AV):Option AV:=
 match a,b with
 |.bU k m,.bU k' n=>(Av P (Go.binOp op t (.int k m) (.int k' n))).bind RJ
 |.ab l,.ab m=>Wb op l m
 |a,b=>bif Nat.beq (oB a) (oB b)&& !Nat.beq (oB a) 9&&Bz P t x y a b then Bi P op t a b else none
def n8:AV->Option Nat
 |.bU _ (.ofNat n)=>some n
 |_=>none
def uX(n:Nat):AV:=.bU .i64 (.ofNat n)
def ou(eq:AV->AV->Option Bool)(k:AV):List (AV×AV×Nat)->Nat->Option (Option (Nat×AV×Nat))
 |[],_=>some none
 |(x,v,b)::es,i=>match eq k x with
  |some true=>some (some (i,v,b))
  |some false=>ou eq k es (i+1)
  |none=>none
def MM:TypeDesc->AV->Bool
 |.int _,.bU _ _|.string,.ab _|.bool,.ao _=>true
 |_,_=>false
def aau(P:Program)(cs:LV)(f:Field):Bool:=
 match P.underlying f.type,cs[f.offset]? with
 |some d,some a=>MM d a
 |_,_=>false
def r9(P:Program)(t:TypeId)(k:AV):Bool:=
 match P.underlying t,k with
 |some (.struct fQ),.ah cs=>fQ.toList.all (aau P cs)
 |some d,a=>MM d a
 |none,_=>false
def s9(P:Program)(H:AH)(t:TypeId)(id off:Nat):Option AV:=
 match H.p9 id with
 |none=>none
 |some vs=>cw P t vs off
def x_:Option bk->Option LV
 |some (.aj vs _)=>some vs
 |some (.ay vs _)=>some vs
 |_=>none
def Ma(P:Program)(H:AH)(t:TypeId)(n off:Nat):Option AV:=
 match x_ (H.hJ n)with
 |none=>none
 |some vs=>cw P t vs off
def E'(H:AH):AV->Option Nat
 |.ab s=>some s.length
 |.bq _ _ len _ _ _=>some len
 |.ad _ len _=>some len
 |.ai _ len _=>some len
 |.fF _ len _=>some len
 |.qS=>some 0
 |.aJ=>some 0
 |.mF=>some 0
 |.aA id=>match H.bf id with
  |some (.bm es _ _)=>some es.length
  |_=>none
 |_=>none
def SD(s:LN)(lo hi:Option AV):Option AV:=
 match(match hi with|some v=>n8 v|none=>some s.length),(match lo with|some v=>n8 v|none=>some 0)with
 |some h,some l=>bif Nat.ble h s.length&&Nat.ble l h then some (.ab ((s.take h).drop l))else none
 |_,_=>none
def Kt(ex:Bool)(lo:Option AV)(cap l:Nat):Nat:= @Bool.rec (λ_=>Nat) (match lo with|none=>cap|some _=>0) (cap-l) ex
def FH(id off len cap sz:Nat)(ex:Bool)(lo hi mx:Option AV):Option AV:=
 match mx with
 |none=>
  match(match hi with|some v=>n8 v|none=>some len),(match lo with|some v=>n8 v|none=>some 0)with
  |some h,some l=>
   bif Nat.ble h (bif ex then cap else len)&&Nat.ble l h then some (.bq id (off+l*sz) (h-l) (Kt ex lo cap l) sz ex)else none
  |_,_=>none
 |some m=>
  match n8 m,(match hi with|some v=>n8 v|none=>none),(match lo with|some v=>n8 v|none=>some 0)with
  |some m,some h,some l=>
   bif Nat.ble m (bif ex then cap else len)&&Nat.ble h m&&Nat.ble l h then some (.bq id (off+l*sz) (h-l) (m-l) sz true)else none
  |_,_,_=>none
def SE(cs:LV)(len sz:Nat)(lo hi mx:Option AV):Option AV:=
 match mx with
 |none=>
  match(match hi with|some v=>n8 v|none=>some len),(match lo with|some v=>n8 v|none=>some 0)with
  |some h,some l=>bif Nat.ble h len&&Nat.ble l h then some (.ad ((cs.drop (l*sz)).take ((h-l)*sz)) (h-l) sz)else none
  |_,_=>none
 |some _=>none
def rp(ρ:Operand->Option AV):Option Operand->Option (Option AV)
 |none=>some none
 |some x=>(ρ x).map some
def Hk(mx:Bool):AV->LV->Option AV
 |a,[]=>some a
 |.bU k x,.bU _ y::l=>Hk mx (.bU k (bif mx then(if y>x then y else x)else(if y<x then y else x))) l
 |_,_=>none
section at7
variable(P:Program)(ρ:Operand->Option AV)(H:AH)
def JC(g:Nat->AV)(cs:LV)(elem:TypeId):Option (bk×(Nat->AV)):=
 bif cs.all AV.cX then some (.aj cs elem,g)else none
def VI(id:Nat):AV:=.aa id 0
def Gy(len cap sz id:Nat):AV:=.bq id 0 len cap sz true
def Zr(c a b:Operand):Option AV:=
 match ρ c with
 |some (.ao t)=>bif t then ρ a else ρ b
 |_=>none
def Zk(e:TypeId):Option (bk×(Nat->AV)):=
 match jZ P e with
 |some z=>JC VI z.dK e
 |none=>none
def Zl(e:TypeId)(x:Operand):Option (bk×(Nat->AV)):=
 match ρ x with
 |some v=>JC VI v.dK e
 |none=>none
def VY(z:AV)(fQ:Array Field)(ps:List (Nat×AV)):Option AV:=
 match aj0 P fQ with
 |some pl=>(zN (pl[·]?) z.dK ps).map .ah
 |none=>none
def VX(z:AV)(elem:TypeId)(ps:List (Nat×AV)):Option AV:=
 match cU P elem with
 |some s=>(zN (λi=>some (i*s,s)) z.dK ps).map .ah
 |none=>none
def Zm(t:TypeId)(n_:Array (Nat×Operand)):Option AV:=
 match jZ P t,P.underlying t,Gu ρ n_.toList with
 |some z,some (.struct fQ),some ps=>VY P z fQ ps
 |some z,some (.array _ elem),some ps=>VX P z elem ps
 |_,_,_=>none
def VZ(elem:TypeId)(len:Nat)(ps:List (Nat×AV))(s:Nat)(z:AV):Option (bk×(Nat->AV)):=
 bif Nat.ble (len*s) 4194304&&Nat.beq z.dK.length s then
  match zN (λi=>some (i*s,s)) (j9 z.dK len) ps with
  |some cs=>JC (Gy len len s) cs elem
  |none=>none
 else none
def Zn(t:TypeId)(len:Nat)(n_:Array (Nat×Operand)):Option (bk×(Nat->AV)):=
 match P.underlying t,Gu ρ n_.toList with
 |some (.slice elem),some ps=>match cU P elem,jZ P elem with
  |some s,some z=>VZ elem len ps s z
  |_,_=>none
 |_,_=>none
def Q9(t:TypeId)(a:Operand):Option AV:=
 match ρ a with
 |some (.aa id off)=>s9 P H t id off
 |some (.pw cs)=>cw P t cs 0
 |some (.gX n off)=>Ma P H t n off
 |_=>none
def aio(x:Operand):Option AV:=
 match ρ x with
 |some (.aa id off)=>some (.aa id off)
 |some (.pw cs)=>some (.pw cs)
 |some (.gX n off)=>some (.gX n off)
 |some (.ba (.func f) l c)=>some (.ba (.func f) l c)
 |some (.dT t v)=>some (.dT t v)
 |_=>none
def L2(op:BinOp)(t:TypeId)(x y:Operand):Option AV:=
 match ρ x,ρ y with
 |some a,some b=>GD P op t x y a b
 |_,_=>none
def lUn(op:UnOp)(x:Operand):Option AV:=
 match ρ x with
 |some a=>(S9 a).bind λv=>(Av P (Op.unary op v)).bind RJ
 |none=>none
def aii(l6 dst:TypeId)(x:Operand):Option AV:=
 match P.underlying l6,P.underlying dst,ρ x with
 |some (.int _),some (.int k),some (.bU _ n)=>some (.bU k (k.wrap n))
 |some .string,some .string,some (.ab s)=>some (.ab s)
 |_,_,_=>none
def ain(t:TypeId)(x:Operand):Option AV:=
 match P.underlying t,ρ x with
 |some (.interface _),_=>none
 |some _,some v=>some (.dT t v)
 |_,_=>none
def aim(fn:Fn)(first lu:Array Operand):Option AV:=
 match uN ρ first.toList,uN ρ lu.toList with
 |some f,some c=>bif vq fn then none else some (.ba fn f c)
 |_,_=>none
def Zq(t:TypeId)(r:Option Operand):Option (bk×(Nat->AV)):=
 match P.underlying t,rp ρ r with
 |some (.map k e),some none|some (.map k e),some (some (.bU _ _))=>some (.bm [] 0 (aka P k&&aka P e),.aA)
 |_,_=>none
def aaY(z:LV)(c:Nat)(elem:TypeId):bk:=.dR (j9 z c) elem
def ZL(elem:TypeId)(l c:Nat)(s:Nat)(z:AV)(fX:Nat):Option (bk×(Nat->AV)):=
 bif Nat.ble l c&&Nat.ble c 4194304&&Nat.ble fX 4194304&&Nat.ble s 4194304&&Nat.beq z.dK.length s&&z.dK.all AV.cX&&z.dK.all eG then
  some (aaY z.dK c elem,Gy l c s)
 else none
def aiT(elem:TypeId)(l c:Nat)(s:Nat)(z:AV)(fX:Nat):Option (bk×(Nat->AV)):=
 bif Nat.ble l c&&Nat.ble c 4194304&&Nat.ble fX 4194304&&Nat.ble s 4194304&&Nat.beq z.dK.length s&&z.dK.all AV.cX then
  some (.aj (j9 z.dK c) elem,Gy l c s)
 else none
def Q_(t:TypeId)(len cap:Operand):Option (bk×(Nat->AV)):=
 match P.underlying t,ρ len,ρ cap with
 |some (.slice elem),some (.bU .i64 (.ofNat l)),some (.bU .i64 (.ofNat c))=>match cU P elem,jZ P elem,tI P elem with
  |some s,some z,some fX=>bif s7 cap then aiT elem l c s z fX else ZL elem l c s z fX
  |_,_,_=>none
 |_,_,_=>none
def Di:Option AV->Bool
 |none=>true
 |some v=>(n8 v).any (Nat.beq 0)
def Ca(t:TypeId)(x:Operand)(lo hi mx:Option Operand):Option AV:=
 match rp ρ lo,rp ρ hi,rp ρ mx with
 |some l,some h,some m=>match P.underlying t,ρ x with
  |some .string,some (.ab s)=>bif m.isNone then SD s l h else none
  |some (.slice elem),some (.bq id off len cap sz ex)=>bif (cU P elem).any (Nat.beq sz)then FH id off len cap sz ex l h m else none
  |some (.slice elem),some (.ad cs len sz)=>bif (cU P elem).any (Nat.beq sz)then SE cs len sz l h m else none
  |some (.slice elem),some (.ai id len sz)=>bif (cU P elem).any (Nat.beq sz)&&Nat.ble 1 len&&m.isNone then FH id 0 len 1 sz false l h none else none
  |some (.slice elem),some (.fF _ _ _)=>bif Di l&&Di h&&Di m&&m.isSome&&h.isSome&&(cU P elem).isSome then some .qS else none
  |some (.slice elem),some .aJ=>bif Di l&&Di h&&Di m&&(m.isNone||h.isSome)&&(cU P elem).isSome then some .aJ else none
  |some (.array n elem),some (.aa id off)=>match cU P elem,H.p9 id with
   |some sz,some vs=>bif Nat.ble (off+n*sz) vs.length then FH id off n n sz true l h m else none
   |_,_=>none
  |_,_=>none
 |_,_,_=>none
def afV(id off:Nat)(fQ:Array Field)(f:Nat):Option AV:=
 match fQ[f]? with
 |some fd=>match cU P fd.type with
  |some (_+1)=>some (.aa id (off+fd.offset))
  |_=>none
 |none=>none
def afW(cs:LV)(fQ:Array Field)(f:Nat):Option AV:=
 match fQ[f]? with
 |some fd=>match cU P fd.type with
  |some (_+1)=>bif Nat.ble fd.offset cs.length then some (.pw (cs.drop fd.offset))else none
  |_=>none
 |none=>none
def afY(n off:Nat)(fQ:Array Field)(f:Nat):Option AV:=
 match fQ[f]? with
 |some fd=>match cU P fd.type with
  |some (_+1)=>some (.gX n (off+fd.offset))
  |_=>none
 |none=>none
def ail(s:TypeId)(x:Operand)(f:Nat):Option AV:=
 match P.underlying s,ρ x with
 |some (.struct fQ),some (.aa id off)=>afV P id off fQ f
 |some (.struct fQ),some (.pw cs)=>afW P cs fQ f
 |some (.struct fQ),some (.gX n off)=>afY P n off fQ f
 |_,_=>none
def afU(cs:LV)(fQ:Array Field)(f:Nat):Option AV:=
 match fQ[f]? with
 |some fd=>cw P fd.type cs fd.offset
 |none=>none
def aik(t:TypeId)(x:Operand)(f:Nat):Option AV:=
 match P.underlying t,ρ x with
 |some (.struct fQ),some (.ah cs)=>afU P cs fQ f
 |_,_=>none
def Ba(id off n:Nat)(elem:TypeId)(i:Nat):Option AV:=
 match cU P elem with
 |some s=>bif Nat.ble (i+1) n then some (.aa id (off+i*s))else none
 |none=>none
def Pj(cs:LV)(len sz:Nat)(elem:TypeId)(i:Nat):Option AV:=
 match cU P elem with
 |some s=>bif Nat.beq s sz&&Nat.ble (i+1) len then some (.pw ((cs.drop (i*s)).take s))else none
 |none=>none
def L3(t:TypeId)(x i:Operand):Option AV:=
 match P.underlying t,ρ x,ρ i with
 |some (.array n elem),some (.aa id off),some (.bU _ (.ofNat i))=>Ba P id off n elem i
 |some (.slice elem),some (.bq id off len _ _ _),some (.bU _ (.ofNat i))=>Ba P id off len elem i
 |some (.slice elem),some (.ad cs len sz),some (.bU _ (.ofNat i))=>Pj P cs len sz elem i
 |some (.slice elem),some (.ai id len sz),some (.bU _ (.ofNat i))=>bif (cU P elem).any (Nat.beq sz)then Ba P id 0 len elem i else none
 |_,_,_=>none
def Wz(cs:LV)(n:Nat)(elem:TypeId)(i:Nat):Option AV:=
 match cU P elem with
 |some s=>bif Nat.ble (i+1) n then cw P elem cs (i*s)else none
 |none=>none
def V4(s:LN)(i:Nat):Option AV:=
 match s[i]? with
 |some b=>some (.bU .u8 (.ofNat b))
 |none=>none
def Q8(t:TypeId)(x i:Operand):Option AV:=
 match P.underlying t,ρ x,ρ i with
 |some (.array n elem),some (.ah cs),some (.bU _ (.ofNat i))=>Wz P cs n elem i
 |some .string,some (.ab s),some (.bU _ (.ofNat i))=>V4 s i
 |_,_,_=>none
def Bg(m:AV):Option (List (AV×AV×Nat)):=
 match m with
 |.mF=>some []
 |.aA id=>match H.bf id with
  |some (.bm es _ _)=>some es
  |_=>none
 |_=>none
def mG(ok:Bool)(v:AV)(b:Bool):AV:=bif ok then .aC [v,.ao b]else v
def Mb(kt elem:TypeId)(m key:AV)(ok:Bool):Option AV:=
 bif r9 P kt key then
  match Bg H m with
  |some es=>match ou (ik P 100 kt) key es 0 with
   |some (some (_,v,_))=>some (mG ok v true)
   |some none=>(jZ P elem).map (mG ok · false)
   |none=>none
  |none=>none
 else none
def Fk(s:Nat):AV->AV
 |.aJ=>.fF 0 0 s
 |v=>v
def kX(elem:TypeId)(ok:Bool)(v:AV):AV:=
 match H.x with
 |none=>v
 |some _=>match P.underlying elem with
  |some (.slice e)=>match cU P e with
   |some s=>bif ok then(match v with|.aC [a,b]=>.aC [Fk s a,b]|v=>v)else Fk s v
   |none=>v
  |_=>v
def L4(t:TypeId)(x k:Operand)(ok:Bool):Option AV:=
 match P.underlying t,ρ x,ρ k with
 |some (.map kt elem),some m,some key=>(Mb P H kt elem m key ok).map (kX P H elem ok)
 |_,_,_=>none
def VG(qi:TypeId)(ok:Bool)(x:AV):Option AV:=
 match x with
 |.dT t v=>
  bif Nat.beq t qi then some (mG ok v true)
  else bif ok then(jZ P qi).map (mG true · false)else none
 |.lq=>bif ok then(jZ P qi).map (mG true · false)else none
 |_=>none
def aip(x:Operand)(qi:TypeId)(ok:Bool):Option AV:=
 match P.underlying qi,ρ x with
 |some (.interface _),_=>none
 |some _,some v=>VG P qi ok v
 |_,_=>none
def aij(x:Operand)(i:Nat):Option AV:=
 match ρ x with
 |some (.aC vs)=>vs[i]?
 |_=>none
def wV:TypeDesc->AV->Bool
 |.string,.ab _|.slice _,.bq .. |.slice _,.ad .. |.slice _,.ai .. |.slice _,.fF .. |.slice _,.qS|.slice _,.aJ|.map _ _,.aA _|.map _ _,.mF=>true
 |_,_=>false
def Zp(argTypes:Array TypeId)(x:AV):Option AV:=
 match argTypes[0]?.bind P.underlying with
 |some (.array n _)=>some (uX n)
 |some d=>bif wV d x then(E' H x).map uX else none
 |none=>none
def aih(argTypes:Array TypeId)(x:AV):Option AV:=
 match argTypes[0]?.bind P.underlying,x with
 |some (.slice _),.bq _ _ _ c _ true=>some (uX c)
 |some (.slice _),.aJ=>some (uX 0)
 |_,_=>none
def Q7(b:Builtin)(args:LV)(argTypes:Array TypeId):Option AV:=
 match b,args with
 |.len,[x]=>Zp P H argTypes x
 |.cap,[x]=>aih P argTypes x
 |.max,a::l=>Hk true a l
 |.min,a::l=>Hk false a l
 |_,_=>none
def Zo(b:Builtin)(args:Array Operand)(argTypes:Array TypeId):Option AV:=
 match uN ρ args.toList with
 |some l=>Q7 P H b l argTypes
 |none=>none
def fL:Op->Option AV
 |.move x=>ρ x
 |.assign x=>ρ x
 |.pick c a b=>Zr ρ c a b
 |.build t n_=>Zm P ρ t n_
 |.load t a=>Q9 P ρ H t a
 |.nilCheck x=>aio ρ x
 |.binOp op t x y _=>L2 P ρ op t x y
 |.unOp op _ x=>lUn P ρ op x
 |.convert l6 dst x=>aii P ρ l6 dst x
 |.makeInterface t x=>ain P ρ t x
 |.makeFunc fn first lu=>aim ρ fn first lu
 |.slice t x lo hi mx=>Ca P ρ H t x lo hi mx
 |.fieldAddr s x f=>ail P ρ s x f
 |.field t x f=>aik P ρ t x f
 |.indexAddr t x i=>L3 P ρ t x i
 |.index t x i=>Q8 P ρ t x i
 |.lookup t x k ok=>L4 P ρ H t x k ok
 |.typeAssert x _ qi ok=>aip P ρ x qi ok
 |.extract x i=>aij ρ x i
 |.call {callee:=.builtin b,args,argTypes}=>Zo P ρ H b args argTypes
 |_=>none
def qy:Op->Option (bk×(Nat->AV))
 |.alloc e=>Zk P e
 |.box e x=>Zl ρ e x
 |.buildSlice t len n_=>Zn P ρ t len n_
 |.makeMap t r=>Zq P ρ t r
 |.makeSlice t len cap=>Q_ P ρ t len cap
 |_=>none
end at7
def o0:Op->Bool
 |.move _|.assign _|.pick .. |.build .. |.load .. |.nilCheck _|.binOp .. |.unOp .. |.convert ..
 |.makeInterface .. |.makeFunc .. |.slice .. |.fieldAddr .. |.field .. |.indexAddr .. |.index .. |.lookup ..
 |.typeAssert .. |.extract .. =>true
 |.call {callee:=.builtin b,..}=>match b with
  |.len|.cap|.min|.max=>true
  |_=>false
 |_=>false
def r6:Op->Bool
 |.alloc _|.box .. |.buildSlice .. |.makeMap .. |.makeSlice .. =>true
 |_=>false
def rb(o:Op):Bool:=o0 o||r6 o
inductive iM where
 |gE (v:AV) (H:AH)
 |qc (f:FuncId) (args:LV)
 |uJ (l:Nat) (args:LV)
 |wg (d:pD)
 |uI (v:AV)
 |wh
def Ng(P:Program)(H:AH)(t:TypeId)(n off:Nat)(v:AV):Option AH:=
 match H.hJ n,cU P t with
 |some (.aj vs e),some s=>
  bif Nat.beq v.dK.length s&&v.dK.all AV.cX&&v.dK.all eG then
   (xe vs off v.dK).map λep=>H.nM n (some (.aj ep e))
  else none
 |_,_=>none
def Jg(P:Program)(H:AH)(t:TypeId)(id off:Nat)(v:AV):Option AH:=
 match H.bf id,cU P t with
 |some (.aj vs e),some s=>
  bif Nat.beq v.dK.length s&&v.dK.all AV.cX then
   (xe vs off v.dK).map λep=>H.cQ id (.aj ep e)
  else none
 |some (.dR vs e),some s=>
  bif Nat.beq v.dK.length s&&v.dK.all AV.cX&&v.dK.all eG then
   (xe vs off v.dK).map λep=>H.cQ id (.dR ep e)
  else none
 |some (.ay vs e),some s=>
  bif Nat.beq v.dK.length s&&v.dK.all AV.cX&&v.dK.all eG then
   (xe vs off v.dK).map λep=>H.cQ id (.ay ep e)
  else none
 |_,_=>none
def pn(es:List (AV×AV×Nat))(i:Nat)(f:AV×AV×Nat->AV×AV×Nat):List (AV×AV×Nat):=
 match es,i with
 |[],_=>[]
 |e::es,0=>f e::es
 |e::es,i+1=>e::pn es i f
def DX(es:List (AV×AV×Nat))(i:Nat):List (AV×AV×Nat):=
 match es,i with
 |[],_=>[]
 |_::es,0=>es
 |e::es,i+1=>e::DX es i
def Hb:AV->AV->Bool
 |.bU j a,.bU k b=>decide (j=k)&&decide (a=b)
 |.ab a,.ab b=>bW a b
 |.ao a,.ao b=>a==b
 |_,_=>false
def DW:LV->LV->Bool
 |[],[]=>true
 |a::l,b::m=>Hb a b&&DW l m
 |_,_=>false
def Ha:AV->AV->Bool
 |.ah a,.ah b=>DW a b
 |a,b=>Hb a b
def xy(es:List (AV×AV×Nat))(i:Nat)(k:AV):Bool:=
 match es[i]? with
 |some (x,_,_)=>Ha x k
 |none=>false
def uU(p:Bool)(k v:AV):Bool:=bif p then eG k&&eG v else true
def IC(P:Program)(H:AH)(t:TypeId)(m k v:AV):Option AH:=
 match P.underlying t,m with
 |some (.map kt _),.aA id=>match H.bf id with
  |some (.bm es clock p)=>
   bif r9 P kt k&&uU p k v then
    match ou (ik P 100 kt) k es 0 with
    |some (some (i,_,_))=>bif xy es i k then some (H.cQ id (.bm (pn es i λe=>(k,v,e.2.2)) clock p))else none
    |some none=>some (H.cQ id (.bm (es++[(k,v,clock)]) (clock+1) p))
    |none=>none
   else none
  |_=>none
 |_,_=>none
def wu(H:AH)(sz:Nat):AV->Option (Nat×LV)
 |.aJ=>some (0,[])
 |.qS=>some (0,[])
 |.fF id len s=>bif Nat.beq s sz then
   match len with
   |0=>some (0,[])
   |_+1=>match H.hJ id with
    |some (.ay vs _)=>bif Nat.beq vs.length (len*sz)then some (len,vs)else none
    |_=>none
  else none
 |.bq id off len _ s _=>bif Nat.beq s sz then
   match H.p9 id with
   |some vs=>(oi vs off (len*sz)).map (len,·)
   |none=>none
  else none
 |.ab s=>bif Nat.beq sz 1 then some (s.length,s.map λb=>.bU .u8 (.ofNat b))else none
 |.ad cs len s=>bif Nat.beq s sz then some (len,cs)else none
 |.ai id len s=>bif Nat.beq s sz then
   match H.bf id with
   |some (.ay vs _)=>bif Nat.beq vs.length (len*sz)then some (len,vs)else none
   |_=>none
  else none
 |_=>none
def FP(P:Program)(H:AH)(argTypes:Array TypeId)(elem:TypeId)(sz:Nat)(x:AV):Option (Nat×LV):=
 match argTypes[1]?.bind P.underlying with
 |some (.int _)=>match x,jZ P elem with
  |.bU .i64 (.ofNat n),some z=>bif Nat.ble n 4194304&&Nat.beq z.dK.length sz then some (n,j9 z.dK n)else none
  |_,_=>none
 |some _=>wu H sz x
 |none=>none
def Eb(H:AH)(elem:TypeId)(id off len cap sz n:Nat)(ex:Bool)(l:LV):Option (AV×AH):=
 match H.bf id with
 |some (.aj vs _)=>match oi vs off (len*sz)with
  |some old=>
   bif (old++l).all AV.cX then
    some (.bq H.bx 0 (len+n) 1 sz false,AH.eD (bif ex&&Nat.ble (cap+1) (len+n)then H else H.cQ id (.bc [])) (.aj (old++l) elem))
   else none
  |none=>none
 |some (.dR vs _)=>match oi vs off (len*sz)with
  |some old=>
   bif l.all AV.cX&&l.all eG then
    some (.bq H.bx 0 (len+n) 1 sz false,AH.eD (bif ex&&Nat.ble (cap+1) (len+n)then H else H.cQ id (.bc [])) (.dR (old++l) elem))
   else none
  |none=>none
 |some (.ay vs _)=>match oi vs off (len*sz)with
  |some old=>
   bif l.all AV.cX&&l.all eG then
    some (.bq H.bx 0 (len+n) 1 sz false,AH.eD (bif ex&&Nat.ble (cap+1) (len+n)then H else H.cQ id (.bc [])) (.ay (old++l) elem))
   else none
  |none=>none
 |_=>none
def u4(H:AH)(elem:TypeId)(id len sz n:Nat)(l:LV):Option (AV×AH):=
 match H.bf id with
 |some (.ay vs _)=>bif Nat.beq vs.length (len*sz)&&l.all AV.cX&&l.all eG then some (.ai H.bx (len+n) sz,AH.eD (H.cQ id (.bc [])) (.ay (vs++l) elem))else none
 |_=>none
def QX(H:AH)(n:Nat):Option (Nat×AH):=
 match H.hJ n with
 |some (.ay vs el)=>some (H.bx,AH.eD (H.nM n none) (.ay vs el))
 |_=>none
def PI(H:AH)(id:Nat):Option (Nat×AH):=
 match H.bf id with
 |some (.ay vs el)=>AH.Ny (H.cQ id (.bc [])) (.ay vs el)
 |some (.aj vs el)=>bif vs.all eG then AH.Ny (H.cQ id (.bc [])) (.aj vs el)else none
 |_=>none
def Fm(sz:Nat)(r:Option (AV×AH)):Option (AV×AH):=
 match r with
 |some (.ai id len _,H)=>(PI H id).map λp=>(.fF p.1 len sz,p.2)
 |_=>none
def Hq(H:AH)(elem:TypeId)(id len sz n:Nat)(l:LV):Option (AV×AH):=
 match len with
 |0=>Fm sz (u4 (H.eD (.ay [] elem)) elem H.bx 0 sz n l)
 |len+1=>match QX H id with
  |some (i,H0)=>Fm sz (u4 H0 elem i (len+1) sz n l)
  |none=>none
def mi(H:AH)(elem:TypeId)(sz:Nat)(s:AV)(n:Nat)(l:LV):Option (AV×AH):=
 match s with
 |.qS=>match n with
  |0=>some (.qS,H)
  |_+1=>bif Nat.ble n 4194304&&l.all AV.cX then some (.bq H.bx 0 n 1 sz false,AH.eD H (.aj l elem))else none
 |.fF id len gI=>bif Nat.beq sz gI&&Nat.ble (len+n) 4194304 then
   match n with
   |0=>some (.fF id len gI,H)
   |_+1=>Hq H elem id len sz n l
  else none
 |.aJ=>match n with
  |0=>some (.aJ,H)
  |_+1=>bif Nat.ble n 4194304&&l.all AV.cX then some (.bq H.bx 0 n 1 sz false,AH.eD H (.aj l elem))else none
 |.bq id off len cap gI ex=>bif Nat.beq sz gI&&Nat.ble (len+n) 4194304 then
   match n with
   |0=>some (.bq id off len cap gI ex,H)
   |_+1=>Eb H elem id off len cap sz n ex l
  else none
 |.ai id len gI=>bif Nat.beq sz gI&&Nat.ble (len+n) 4194304 then
   match n with
   |0=>some (.ai id len gI,H)
   |_+1=>u4 H elem id len sz n l
  else none
 |_=>none
def LY:AV->Bool
 |.ad .. |.ai .. |.fF .. |.bU .. =>true
 |_=>false
def yl(v:AV)(H:AH):AH:=
 match v with
 |.bq id _ _ _ _ _=>match H.bf id with
  |some (.aj vs e)=>bif vs.all eG then H.cQ id (.ay vs e)else H
  |_=>H
 |_=>H
def Gv(P:Program)(H:AH)(argTypes:Array TypeId)(s x:AV):Option (AV×AH):=
 match argTypes[0]?.bind P.underlying with
 |some (.slice elem)=>match cU P elem,tI P elem with
  |some sz,some fX=>
   bif Nat.ble fX 4194304&&(jZ P elem).any (λz=>Nat.beq z.dK.length sz)then
    match FP P H argTypes elem sz x with
    |some (n,l)=>match mi H elem sz s n l with
     |some (v,H')=>some (v,bif LY x&& !Nat.beq n 0 then yl v H' else H')
     |none=>none
    |none=>none
   else none
  |_,_=>none
 |_=>none
def x9(P:Program)(f:AV)(args:LV):Option iM:=
 match f with
 |.ba (.func g) first lu=>match P.funcs[g]? with
  |some fn=>bif fn.body.isSome&& !(fn.name== "runtime.NumGoroutine")then some (.qc g (first++args++lu))else none
  |none=>none
 |.gz l=>some (.uJ l args)
 |_=>none
def akq(P:Program)(H:AH)(t:TypeId)(v:AV)(m:Method):Option (FuncId×AV):=
 match m.func,P.underlying t with
 |some (f,true),some (.pointer _)=>bif m.path.isEmpty then some (f,v)else none
 |some (f,false),some (.pointer el)=>bif m.path.isEmpty then(match v with
   |.aa id off=>match s9 P H el id off with|some v2=>some (f,v2)|none=>none
   |_=>none)else none
 |some (f,false),some _=>bif m.path.isEmpty then some (f,v)else none
 |_,_=>none
def ZQ(P:Program)(H:AH)(t:TypeId)(v:AV)(name:String):Option (FuncId×AV):=
 match P.info? t with
 |some i=>match i.methods.find? (·.name==name)with
  |some m=>akq P H t v m
  |none=>none
 |none=>none
section asl
variable(P:Program)(ρ:Operand->Option AV)(H:AH)
def rq(v:AV):Option AH->Option iM
 |some H=>some (.gE v H)
 |none=>none
def HD(t:TypeId)(a x:Operand):Option iM:=
 match ρ a,ρ x with
 |some (.aa id off),some v=>rq .lI (Jg P H t id off v)
 |some (.gX n off),some v=>rq .lI (Ng P H t n off v)
 |_,_=>none
def HB(t:TypeId)(m k x:Operand):Option iM:=
 match ρ m,ρ k,ρ x with
 |some m,some k,some v=>rq .lI (IC P H t m k v)
 |_,_,_=>none
def PB(kt elem:TypeId)(id:Nat)(key:AV):Option iM:=
 match H.bf id with
 |some (.bm es clock p)=>
  bif r9 P kt key then
   match ou (ik P 100 kt) key es 0 with
   |some (some (i,v,b))=>bif xy es i key&&uU p key .kE then some (.gE (.aC [kX P H elem false v,uX b]) (H.cQ id (.bm (pn es i λe=>(key,e.2)) clock p)))else none
   |some none=>match jZ P elem with
    |some z=>bif uU p key z then some (.gE (.aC [kX P H elem false z,uX clock]) (H.cQ id (.bm (es++[(key,z,clock)]) (clock+1) p)))else none
    |none=>none
   |none=>none
  else none
 |_=>none
def Li(t:TypeId)(m k:Operand):Option iM:=
 match P.underlying t,ρ m,ρ k with
 |some (.map kt elem),some (.aA id),some key=>PB P H kt elem id key
 |_,_,_=>none
def PC(id born:Nat)(v:AV):Option iM:=
 match H.bf id with
 |some (.bm es clock p)=>match es.findIdx? (λe=>Nat.beq e.2.2 born)with
  |some i=>bif uU p .kE v then some (.gE .lI (H.cQ id (.bm (pn es i λe=>(e.1,v,e.2.2)) clock p)))else none
  |none=>none
 |_=>none
def Qi(m s x:Operand):Option iM:=
 match ρ m,ρ s,ρ x with
 |some (.aA id),some (.bU _ (.ofNat born)),some v=>PC H id born v
 |_,_,_=>none
def akh(m:Nat):Option iM:=
 match H.bf m with
 |some (.bm _ clock _)=>some (.gE (.aa H.bx 0) (H.eD (.je (some m) clock [] clock)))
 |_=>none
def Qk(t:TypeId)(x:Operand):Option iM:=
 match P.underlying t,ρ x with
 |some .string,some (.ab s)=>some (.gE (.aa H.bx 0) (H.eD (.tp s 0)))
 |some (.map _ _),some .mF=>some (.gE (.aa H.bx 0) (H.eD (.je none 0 [] 0)))
 |some (.map _ _),some (.aA m)=>akh H m
 |_,_=>none
def MI(H:AH):Option iM:=some (.gE (.aC [.ao false]) H)
def ajg(r:Nat)(s:LN)(pos:Nat):Option iM:=
 match s[pos]? with
 |none=>MI H
 |some b=>bif Nat.ble (b+1) 128 then some (.gE (.aC [.ao true,uX pos,.bU .i32 (.ofNat b)]) (H.cQ r (.tp s (pos+1))))else none
def IJ(r m since:Nat)(bE:LN)(last:Nat)(es:List (AV×AV×Nat))(clock:Nat):Option iM:=
 bif !bE.isEmpty&& !es.isEmpty&&es.all (λe=>Nat.ble last e.2.2)then none else
 match es.filter λe=> !bE.any (Nat.beq e.2.2)with
 |[]=>MI H
 |[e]=>bif Nat.ble (e.2.2+1) since then
   some (.gE (.aC [.ao true,e.1,e.2.1]) (H.cQ r (.je (some m) since (bE++[e.2.2]) clock)))
  else none
 |_=>none
def ZV(r:Nat)(wT:Bool):Option iM:=
 match H.bf r,wT with
 |some (.tp s pos),true=>ajg H r s pos
 |some (.je none _ _ _),false=>MI H
 |some (.je (some m) since bE last),false=>match H.bf m with
  |some (.bm es clock _)=>IJ H r m since bE last es clock
  |_=>none
 |_,_=>none
def HC(it:Operand)(wT:Bool):Option iM:=
 match ρ it with
 |some (.aa r 0)=>ZV H r wT
 |_=>none
def WU(m CT:Nat)(bE:LN):Option iM:=
 match bE.getLast?,H.bf m with
 |some AG,some (.bm es clock _)=>
  bif Nat.beq clock CT then
   match es.find? (λe=>Nat.beq e.2.2 AG)with
   |some e=>some (.gE (.aC [e.1,e.2.1]) H)
   |none=>none
  else none
 |_,_=>none
def Ek(it:Operand):Option iM:=
 match ρ it with
 |some (.aa r 0)=>match H.bf r with
  |some (.je (some m) _ bE CT)=>WU H m CT bE
  |_=>none
 |_=>none
def RV:Option (AV×AH)->Option iM
 |some (v,H)=>some (.gE v H)
 |none=>none
def GM(argTypes:Array TypeId)(id:Nat)(k:AV):Option iM:=
 match argTypes[0]?.bind P.underlying,H.bf id with
 |some (.map kt _),some (.bm es clock p)=>
  bif r9 P kt k then
   match ou (ik P 100 kt) k es 0 with
   |some (some (i,_,_))=>some (.gE .lI (H.cQ id (.bm (DX es i) clock p)))
   |some none=>some (.gE .lI H)
   |none=>none
  else none
 |_,_=>none
def Hw(b:Builtin)(args:LV)(argTypes:Array TypeId):Option iM:=
 match b,args with
 |.append,[s,x]=>RV (Gv P H argTypes s x)
 |.recover,[]=>some .wh
 |.delete,[.aA id,k]=>GM P H argTypes id k
 |_,_=>none
def XE(f:Operand)(args:Array Operand):Option iM:=
 match ρ f,uN ρ args.toList with
 |some g,some l=>x9 P g l
 |_,_=>none
def Qj(r:Operand)(name:String)(args:Array Operand):Option iM:=
 match ρ r,uN ρ args.toList with
 |some (.dT t v),some l=>match ZQ P H t v name with
  |some (f,v)=>x9 P (.ba (.func f) [] []) (v::l)
  |none=>none
 |_,_=>none
def Xu(c:Call):Option iM:=
 match c.callee with
 |.value f=>XE P ρ f c.args
 |.builtin b=>match uN ρ c.args.toList with
  |some l=>Hw P H b l c.argTypes
  |none=>none
 |.invoke r name=>Qj P ρ H r name c.args
def Hz(c:Call):Option iM:=
 match c.callee with
 |.value f=>match ρ f,uN ρ c.args.toList with
  |some (.ba fn first lu),some l=>bif vq fn then none else some (.wg (.uF fn lu (first++l)))
  |_,_=>none
 |_=>none
def XA(x:Operand):Option iM:=
 match ρ x with
 |some (.dT t v)=>some (.uI (.dT t v))
 |_=>none
def nu:Op->Option iM
 |.store t a x=>HD P ρ H t a x
 |.mapUpdate t m k x=>HB P ρ H t m k x
 |.insert t m k x=>HB P ρ H t m k x
 |.mapEntry t m k=>Li P ρ H t m k
 |.entryStore _ m s x=>Qi ρ H m s x
 |.range t x=>Qk P ρ H t x
 |.next it wT=>HC ρ H it wT
 |.entry it=>Ek ρ H it
 |.call c=>Xu P ρ H c
 |.defer c=>Hz ρ c
 |.panic x=>XA ρ x
 |_=>none
end asl
inductive dP where
 |gy (c:Code)
 |uG (id:Nat)
 |qK (body:Code)
 |tB (body:Code)
 |Dk (l:Nat)
 |AQ (l:Nat)
 |zi
 |gY (ops:Array Oper) (i:Nat) (rest:List Oper)
abbrev Ds:=List (AV×Bool)
inductive pE where
 |gj
 |iX
 |ll (c:Ds)
structure fN where
 fn:Nat
 zh:Tr AV
 nt:Nat
 F5:List dP
 NA:List pD
 mc:pE
 up:Option pE
 p8:Option Nat
inductive NT where
 |gk (v:AV)
 |dH (c:Ds)
def ju:AV->NT
 |.dH x=>.dH [(x,false)]
 |v=>.gk v
structure lJ where
 e:NT
 up:Option pE
 H:AH
def DZ(id:Nat):List dP->Option (List dP)
 |.uG g_::k=>if g_==id then some k else DZ id k
 |_::k=>DZ id k
 |[]=>none
def Hp(l:Nat):List dP->Option (List dP)
 |.tB body::k=>
  match findLabel body l with
  |some rest=>some (.gy rest::.tB body::k)
  |none=>Hp l k
 |_::k=>Hp l k
 |[]=>none
def mN(ops:Array Oper)(o:Oper)(get:Tmp->Option AV):Option Bool:=
 match o.guard with
 |none=>some true
 |some (j,py)=>match(ops[j]?).bind (·.dst)with
  |none=>none
  |some d=>match get d with
   |some (.ao b)=>some (b==py)
   |some (.aC [])=>some false
   |_=>none
def Fh:List Oper->LN->Option LN
 |[],gM=>some gM
 |o::l,gM=>
  let m:=o.after.toList.foldl (λs e=>match s with
   |none=>none
   |some s=>bif Region.binds .any e then(match gM[e.on]? with
     |some n=>some (Nat.lor (Nat.lor s (Nat.pow 2 e.on)) n)
     |none=>none)else some s) (some 0)
  match m with
  |none=>none
  |some m=>Fh l (gM++[m])
def pN(m i:Nat):Bool:=Nat.beq (Nat.land (Nat.shiftRight m i) 1) 1
def Gx(ops:Array Oper)(ms:LN):Nat->Nat->LN->Option LN
 |0,_,left=>bif left.isEmpty then some []else none
 |f+1,u0,left=>
  let ready (i:Nat):Bool:=match ms[i]? with|some m=>Nat.beq (Nat.lor m u0) u0|none=>false
  let pick:=match left.find? (λi=>ready i&&((ops[i]?).any (rb ·.op)))with
   |some i=>some i
   |none=>left.find? ready
  match pick with
  |none=>bif left.isEmpty then some []else none
  |some i=>(Gx ops ms f (Nat.lor u0 (Nat.pow 2 i)) (left.filter λj=> !Nat.beq i j)).map (i:: ·)
def GQ(ops:Array Oper):List Tmp:=ops.toList.filterMap (·.dst)
def wY:LN->Bool
 |[]=>true
 |a::l=> !l.any (Nat.beq a)&&wY l
def wZ(ops:Array Oper)(ms:LN)(last:Option Nat):LN->Bool
 |[]=>true
 |i::l=>
  (match last with|none=>true|some e=>(ms[i]?).any (pN · e))&&
  wZ ops ms (bif (ops[i]?).any (rb ·.op)then last else some i) l
def No(o:Oper):List Tmp:=o.op.operands.toList.filterMap λ|.tmp t=>some t|_=>none
def aaf(ops:Array Oper)(ms:LN):Bool:=
 let l:=ops.toList.zipIdx
 wY (GQ ops)&&
 l.all λ(o,i)=>l.all λ(o',j)=>match o'.dst with
  |none=>true
  |some d=>Nat.beq i j|| !((No o++o.dst.toList).any (Nat.beq d))||(ms[i]?).any (pN · j)||(ms[j]?).any (pN · i)
def MC(ms:LN):List (Oper×Nat)->Bool
 |[]=>true
 |(o,i)::l=>(match o.guard with|none=>true|some (j,_)=>(ms[i]?).any (pN · j))&&MC ms l
structure ant where
 ms:LN
 Dp:LN
def IX(ops:Array Oper):Option ant:=
 match Fh ops.toList []with
 |none=>none
 |some ms=>match Gx ops ms ops.size 0 (List.range ops.size)with
  |none=>none
  |some l=>bif wZ ops ms none l&&aaf ops ms&&MC ms ops.toList.zipIdx then some ⟨ms,l⟩else none
def Q1:Op->Bool
 |.move _|.assign _|.pick .. |.build .. |.nilCheck _|.binOp .. |.unOp .. |.convert .. |.makeInterface .. |.makeFunc .. |.fieldAddr .. |.field .. |.indexAddr .. |.index .. |.typeAssert .. |.extract .. =>true
 |_=>false
def OI(ops:Array Oper)(ms:LN)(done:LN)(i:Nat):LN:=
 done.filter λj=>((ops[j]?).any (λo=>o0 o.op&& !Q1 o.op))&& !((ms[i]?).any (pN · j))
def Zt(ops:Array Oper)(ms:LN)(i:Nat)(t:Tmp):Bool:=
 ops.toList.zipIdx.any λ(o,j)=>(match o.dst with|some d=>Nat.beq d t|none=>false)&& !((ms[i]?).any (pN · j))
def wy(ops:Array Oper)(ms:LN)(base cur:Tr AV)(i:Nat):Tmp->Option AV:=λt=>
 bif Zt ops ms i t then base.bT t else cur.bT t
def Gz(get:Tmp->Option AV):Operand->Option AV
 |.tmp t=>get t
 |.const v=>JD v
 |.global g=>some (.uW g)
 |.func f=>some (.ba (.func f) [] [])
mutual
def mW:AV->AV->Bool
 |.ao a,.ao b=>a==b
 |.bU j a,.bU k b=>j==k&&a==b
 |.ab a,.ab b=>bW a b
 |.aa a b,.aa c d=>Nat.beq a c&&Nat.beq b d
 |.kE,.kE=>true
 |.bq a b c d e f,.bq a' b' c' d' e' f'=>Nat.beq a a'&&Nat.beq b b'&&Nat.beq c c'&&Nat.beq d d'&&Nat.beq e e'&&f==f'
 |.aJ,.aJ=>true
 |.aA a,.aA b=>Nat.beq a b
 |.mF,.mF=>true
 |.ba f a b,.ba g c d=>decide (f=g)&&zw a c&&zw b d
 |.gz a,.gz b=>Nat.beq a b
 |.p_,.p_=>true
 |.dT t v,.dT u w=>Nat.beq t u&&mW v w
 |.lq,.lq=>true
 |.ah a,.ah b=>zw a b
 |.aC a,.aC b=>zw a b
 |.uW a,.uW b=>Nat.beq a b
 |_,_=>false
def zw:LV->LV->Bool
 |[],[]=>true
 |a::l,b::m=>mW a b&&zw l m
 |_,_=>false
end
def Sy(v x:AV):Bool:=or (mW v x) (@decide (v=x) (Classical.propDecidable _))
def FK(P:Program)(ops:Array Oper)(ms:LN)(base cur:Tr AV)(H:AH):LN->Bool
 |[]=>true
 |j::l=>
  (match ops[j]? with
   |none=>false
   |some o=>match mN ops o cur.bT with
    |none=>false
    |some false=>true
    |some true=>match fL P (Gz (wy ops ms base cur j)) H o.op,o.dst with
     |some v,some d=>(cur.bT d).any (Sy v)
     |some _,none=>true
     |none,_=>false)&&
  FK P ops ms base cur H l
inductive jR where
 |go (fr:fN) (H:AH)
 |zl (r:lJ)
 |eI (why:String)
def xq(m:pE)(c:Ds):pE:=
 match m with
 |.ll old=>.ll (c++old)
 |_=>.ll c
def alh(m:pE):pE:=
 match m with
 |.ll ((_,true)::_)=>.iX
 |m=>m
def oK(nt:Nat)(tmps:Tr AV)(dst:Option Tmp)(v:AV):Option (Tr AV):=
 match dst with
 |none=>some tmps
 |some d=>bif Nat.ble (d+1) nt then some (tmps.fV d v)else none
def KK(P:Program)(f:FuncId)(args:LV)(up:Option pE):Option fN:=
 match P.funcs[f]? with
 |some fn=>match fn.body with
  |some c=>bif Nat.ble args.length fn.ntmps then
    some {fn:=f,zh:=Tr.Cm args 0 .gZ,nt:=fn.ntmps,F5:=[.gy c],NA:=[],mc:=.gj,up,p8:=none}
   else none
  |none=>none
 |none=>none
def sd(P:Program)(H:AH)(tmps:Tr AV):List ResultVar->Option LV
 |[]=>some []
 |.tmp t::l=>match tmps.bT t with
  |some v=>(sd P H tmps l).map (v:: ·)
  |none=>none
 |.cell a t::l=>match tmps.bT a with
  |some (.aa id off)=>match s9 P H t id off with
   |some v=>(sd P H tmps l).map (v:: ·)
   |none=>none
  |_=>none
def AM:LV->AV
 |[v]=>v
 |l=>.aC l
def AA(o:bk)(l:Nat)(args:LV):Option fN:=
 match o with
 |.gK _ _ fn tmps nt params assign body _=>
  bif Nat.beq args.length params.length then
   match(params.zip args).foldl (λt (p,a)=>t.bind λt=>oK nt t (some p) a) (some tmps)with
   |some oM=>some {fn,zh:=oM,nt,F5:=[.gy assign,.zi,.gy body],NA:=[],mc:=.gj,up:=none,p8:=some l}
   |none=>none
  else none
 |_=>none
def Zu(H:AH)(l:Nat)(o5:Option Code):jR:=
 match H.bf l with
 |some (.gK _ _ fn tmps nt ps a b d)=>
  .zl {e:=.gk (.ao o5.isNone),up:=none,H:=H.cQ l (.gK (bif o5.isNone then .ready else .done) o5 fn tmps nt ps a b d)}
 |_=>.eI "endRound"
def uo:fN->AH->Option Code->jR
 |⟨fn,tmps,nt,todo,defers,_,up,round⟩,H,o5=>
  match round with
  |none=>match o5 with
   |none|some .ret=>.go ⟨fn,tmps,nt,todo,defers,.iX,up,none⟩ H
   |_=>.eI "leave"
  |some l=>Zu H l o5
def KM:Option iM->Option iM
 |some (.qc f args)=>some (.qc f args)
 |_=>none
structure rO where
 go:fN->AH->Option lJ
 eV:FuncId->LV->AH->Option (AV×AH)
def KL(P:Program)(call:rO)(f:FuncId)(args:LV)(up:Option pE)(H:AH):Option lJ:=
 match up,call.eV f args H with
 |none,some (v,H')=>some ⟨ju v,none,H'⟩
 |_,_=>(KK P f args up).bind (call.go · H)
section aul
variable(P:Program)(call:rO)
def kA(H:AH)(up:Option pE):iM->Option lJ
 |.gE v H=>some {e:=.gk v,up,H}
 |.qc f args=>KL P call f args up H
 |.uJ l args=>match H.bf l with
  |some o=>(AA o l args).bind (call.go · H)
  |none=>none
 |_=>none
def rn(fr:fN)(o:Oper)(todo:List dP)(v:AV)(H:AH):jR:=
 match fr with
 |⟨fn,tmps,nt,_,defers,mode,up,round⟩=>match oK nt tmps o.dst v with
  |some t=>.go ⟨fn,t,nt,todo,defers,mode,up,round⟩ H
  |none=>.eI "dst"
def I':fN->Ds->fN
 |⟨fn,tmps,nt,todo,defers,mode,up,round⟩,c=>⟨fn,tmps,nt,todo,defers,xq mode c,up,round⟩
def y4(fr:fN)(o:Oper)(todo:List dP)(r:Option lJ):jR:=
 match r with
 |some ⟨.gk v,_,H⟩=>rn fr o todo v H
 |some ⟨.dH c,_,H⟩=>.go (I' fr c) H
 |none=>.eI "call"
def alc(fr:fN)(o:Oper)(todo:List dP)(d:pD)(H:AH):jR:=
 match fr with
 |⟨fn,tmps,nt,_,defers,mode,up,none⟩=>match oK nt tmps o.dst .lI with
  |some t=>.go ⟨fn,t,nt,todo,d::defers,mode,up,none⟩ H
  |none=>.eI "dst"
 |_=>.eI "defer"
def ald(fr:fN)(o:Oper)(todo:List dP)(H:AH):jR:=
 match fr with
 |⟨fn,tmps,nt,_,defers,mode,some (.ll ((v,false)::IT)),none⟩=>match oK nt tmps o.dst v with
  |some t=>.go ⟨fn,t,nt,todo,defers,mode,some (.ll ((v,true)::IT)),none⟩ H
  |none=>.eI "dst"
 |⟨fn,tmps,nt,_,defers,mode,up,none⟩=>match oK nt tmps o.dst .lq with
  |some t=>.go ⟨fn,t,nt,todo,defers,mode,up,none⟩ H
  |none=>.eI "dst"
 |_=>.eI "recover"
def xA(fr:fN)(o:Oper)(todo:List dP)(H:AH)(aK:Option iM):jR:=
 match aK with
 |none=>.eI "heavy"
 |some (.wg d)=>alc fr o todo d H
 |some (.uI v)=>.go (I' fr [(v,false)]) H
 |some .wh=>ald fr o todo H
 |some aK=>y4 fr o todo (kA P call H none aK)
def aa7(fr:fN)(o:Oper)(todo:List dP)(H:AH)(r:Option AV):jR:=
 match r with
 |some v=>rn fr o todo v H
 |none=>.eI "read"
def aa6(fr:fN)(o:Oper)(todo:List dP)(H:AH)(r:Option (bk×(Nat->AV))):jR:=
 match r,H with
 |some (ob,g),⟨h,n,x⟩=>rn fr o todo (g n) (AH.eD ⟨h,n,x⟩ ob)
 |none,_=>.eI "make"
def y6(fr:fN)(H:AH)(ops:Array Oper)(i:Nat)(o:Oper)(rest:List Oper)(k:List dP):jR:=
 match fr with
 |⟨fn,tmps,nt,todo,defers,mode,up,round⟩=>
  match mN ops o tmps.bT with
  |none=>.eI "guard"
  |some b=>
   bif b then
    bif o0 o.op then aa7 ⟨fn,tmps,nt,todo,defers,mode,up,round⟩ o (.gY ops (Nat.succ i) rest::k) H (fL P (iw tmps) H o.op)
    else bif r6 o.op then aa6 ⟨fn,tmps,nt,todo,defers,mode,up,round⟩ o (.gY ops (Nat.succ i) rest::k) H (qy P (iw tmps) o.op)
    else xA P call ⟨fn,tmps,nt,todo,defers,mode,up,round⟩ o (.gY ops (Nat.succ i) rest::k) H (nu P (iw tmps) H o.op)
   else rn ⟨fn,tmps,nt,todo,defers,mode,up,round⟩ o (.gY ops (Nat.succ i) rest::k) .lI H
inductive Oz where
 |aH (tmps:Tr AV) (H:AH)
 |dH (c:Ds) (H:AH)
 |eI (why:String)
inductive Gl where
 |go (tmps:Tr AV) (H:AH)
 |dH (c:Ds) (H:AH)
 |eI (why:String)
def r8(nt:Nat)(tmps:Tr AV)(o:Oper)(v:AV)(H:AH):Gl:=
 match oK nt tmps o.dst v with
 |some t=>.go t H
 |none=>.eI "dst"
def MJ(nt:Nat)(tmps:Tr AV)(o:Oper)(H:AH)(r:Option AV):Gl:=
 match r with
 |some v=>r8 nt tmps o v H
 |none=>.eI "read"
def Cp(nt:Nat)(tmps:Tr AV)(o:Oper)(H:AH)(r:Option (bk×(Nat->AV))):Gl:=
 match r,H with
 |some (ob,g),⟨h,n,x⟩=>r8 nt tmps o (g n) (AH.eD ⟨h,n,x⟩ ob)
 |none,_=>.eI "make"
def RX(ops:Array Oper)(ms:LN)(base:Tr AV)(ag:LN)(nt:Nat)(tmps:Tr AV)(o:Oper)(r:Option lJ):Gl:=
 match r with
 |some ⟨.gk v,_,H⟩=>match oK nt tmps o.dst v with
  |some t=>bif FK P ops ms base t H ag then .go t H else .eI "steady"
  |none=>.eI "dst"
 |some ⟨.dH c,_,H⟩=>.dH c H
 |none=>.eI "call"
def RW(ops:Array Oper)(ms:LN)(base:Tr AV)(ag:LN)(nt:Nat)(tmps:Tr AV)(o:Oper)(H:AH)(aK:Option iM):Gl:=
 match aK with
 |some aK=>RX P ops ms base ag nt tmps o (kA P call H none aK)
 |none=>.eI "heavy"
def pc(ops:Array Oper)(ms:LN)(base:Tr AV)(done:LN)(i:Nat)(nt:Nat)(tmps:Tr AV)(H:AH)(o:Oper):Gl:=
 match mN ops o tmps.bT with
 |none=>.eI "guard"
 |some b=>
  bif b then
   bif o0 o.op then MJ nt tmps o H (fL P (iw tmps) H o.op)
   else bif r6 o.op then Cp nt tmps o H (qy P (iw tmps) o.op)
   else RW P call ops ms base (OI ops ms done i) nt tmps o H (nu P (iw tmps) H o.op)
  else r8 nt tmps o .lI H
def te(ops:Array Oper)(ms:LN)(base:Tr AV)(nt:Nat):LN->LN->Tr AV->AH->Oz
 |[],_,tmps,H=>.aH tmps H
 |i::rest,done,tmps,H=>match ops[i]? with
  |none=>.eI "order"
  |some o=>match pc P call ops ms base done i nt tmps H o with
   |.go t H'=>te ops ms base nt rest (i::done) t H'
   |.dH c H'=>.dH c H'
   |.eI w=>.eI w
def Hd(t:Tr AV):List Tmp->Tr AV
 |[]=>t
 |d::l=>Hd (t.AR d) l
def aaq(fr:fN)(ops:Array Oper)(k:List dP)(r:Oz):jR:=
 match fr,r with
 |⟨fn,_,nt,_,defers,mode,up,round⟩,.aH t H=>.go ⟨fn,t,nt,k,defers,mode,up,round⟩ H
 |⟨fn,tmps,nt,_,defers,mode,up,round⟩,.dH c H=>.go ⟨fn,Hd tmps (GQ ops),nt,k,defers,xq mode c,up,round⟩ H
 |_,.eI w=>.eI w
def to(fr:fN)(H:AH)(k:List dP):jR:=
 match fr with
 |⟨fn,tmps,nt,_,defers,mode,up,round⟩=>.go ⟨fn,tmps,nt,k,defers,mode,up,round⟩ H
def abm(fr:fN)(H:AH)(S8 Pk:Code)(k:List dP)(c:Option AV):jR:=
 match c with
 |some (.ao b)=>to fr H (.gy (bif b then S8 else Pk)::k)
 |_=>.eI "cond"
def abn(fr:fN)(H:AH)(j:Code)(k:Option (List dP)):jR:=
 match k with
 |some k=>to fr H k
 |none=>uo fr H (some j)
def Nf(fr:fN)(H:AH)(ops:Array Oper)(qT:Bool)(k:List dP):jR:=
 bif qT then match fr,IX ops with
  |⟨fn,tmps,nt,todo,defers,mode,up,round⟩,some pl=>
   aaq ⟨fn,tmps,nt,todo,defers,mode,up,round⟩ ops k (te P call ops pl.ms tmps nt pl.Dp [] tmps H)
  |_,none=>.eI "plan"
 else to fr H (.gY ops 0 ops.toList::k)
def ZD(H:AH)(round:Option Nat):Option (Nat×List pD×AH):=
 match round with
 |some l=>match H.bf l with
  |some (.gK _ _ _ _ _ _ _ _ d)=>some (d,[],H)
  |_=>none
 |none=>match H with
  |⟨h,n,x⟩=>some (n,[.oo n],AH.eD ⟨h,n,x⟩ (.pB (some [])))
def aki(fr:fN)(l:Nat)(mark:List pD)(k:List dP)(r:Option lJ):jR:=
 match fr,r with
 |⟨fn,tmps,nt,_,defers,mode,up,round⟩,some ⟨.gk _,_,H⟩=>.go ⟨fn,tmps,nt,.AQ l::k,mark++defers,mode,up,round⟩ H
 |⟨fn,tmps,nt,_,defers,mode,up,round⟩,some ⟨.dH c,_,H⟩=>.go ⟨fn,tmps,nt,.Dk l::k,mark++defers,xq mode c,up,round⟩ H
 |_,none=>.eI "rangeFunc call"
def PA(fr:fN)(f:Operand)(params:Array Tmp)(assign body:Code)(k:List dP):Option (Nat×List pD×AH)->jR
 |none=>.eI "rangeFunc"
 |some (d,mark,⟨h,n,x⟩)=>match fr with
  |⟨fn,tmps,nt,todo,defers,mode,up,round⟩=>
   aki ⟨fn,tmps,nt,todo,defers,mode,up,round⟩ n mark k
    ((iw tmps f).bind λg=>(KM (x9 P g [.gz n])).bind (kA P call (AH.eD ⟨h,n,x⟩ (.gK .ready none fn tmps nt params.toList assign body d)) none))
def SL(fr:fN)(H:AH)(f:Operand)(params:Array Tmp)(assign body:Code)(k:List dP):jR:=
 match fr with
 |⟨fn,tmps,nt,todo,defers,mode,up,round⟩=>PA P call ⟨fn,tmps,nt,todo,defers,mode,up,round⟩ f params assign body k (ZD H round)
def SI(fr:fN)(H:AH)(k:List dP):jR:=
 match fr with
 |⟨fn,tmps,nt,_,defers,mode,up,some l⟩=>match H.bf l with
  |some (.gK .ready p lf lt ln ps a b d)=>.go ⟨fn,tmps,nt,k,defers,mode,up,some l⟩ (H.cQ l (.gK .busy p lf lt ln ps a b d))
  |_=>.eI "beginRound"
 |_=>.eI "beginRound"
def R3(p:Option Code)(k:List dP):List dP:=
 match p with
 |some c=>.gy c::k
 |none=>k
def SJ(fr:fN)(H:AH)(l:Nat)(k:List dP):jR:=
 match H.bf l with
 |some (.gK .ready p fn tmps nt ps a b d)=>to fr (H.cQ l (.gK .exhausted p fn tmps nt ps a b d)) (R3 p k)
 |some (.gK .done p fn tmps nt ps a b d)=>to fr (H.cQ l (.gK .exhausted p fn tmps nt ps a b d)) (R3 p k)
 |_=>.eI "endLoop"
def xD(fr:fN)(H:AH)(k:List dP):Code->jR
 |.ret=>uo fr H (some .ret)
 |.skip=>to fr H k
 |.label _=>to fr H k
 |.seq a b=>to fr H (.gy a::.gy b::k)
 |.cond c S8 Pk=>abm fr H S8 Pk k (iw fr.zh c)
 |.block id body=>to fr H (.gy body::.uG id::k)
 |.loop body=>to fr H (.gy body::.qK body::k)
 |.scope body=>to fr H (.gy body::.tB body::k)
 |.exit id=>abn fr H (.exit id) (DZ id k)
 |.goto l=>abn fr H (.goto l) (Hp l k)
 |.region _ ops qT=>Nf P call fr H ops qT k
 |.rangeFunc f params assign body=>SL P call fr H f params assign body k
 |.refuse _=>.eI "refuse"
def rG(fr:fN)(H:AH)(k:List dP):dP->jR
 |.gy c=>xD P call fr H k c
 |.uG _=>to fr H k
 |.tB _=>to fr H k
 |.qK body=>to fr H (.gy body::.qK body::k)
 |.gY ops i l=>match l with
  |[]=>to fr H k
  |o::rest=>y6 P call fr H ops i o rest k
 |.zi=>SI fr H k
 |.AQ l=>SJ fr H l k
 |.Dk _=>.eI "inRangeFunc"
def qH(fr:fN)(H:AH):jR:=
 match fr with
 |⟨fn,tmps,nt,[],defers,mode,up,round⟩=>uo ⟨fn,tmps,nt,[],defers,mode,up,round⟩ H none
 |⟨fn,tmps,nt,x::k,defers,mode,up,round⟩=>rG P call ⟨fn,tmps,nt,x::k,defers,mode,up,round⟩ H k x
def aam(fr:fN)(ds:List pD)(u:pE)(H:AH):jR:=
 match u,fr with
 |.gj,_=>.eI "run"
 |u,⟨fn,tmps,nt,todo,_,_,up,round⟩=>.go ⟨fn,tmps,nt,todo,ds,u,up,round⟩ H
def ave(fr:fN)(ds:List pD)(r:Option lJ):jR:=
 match fr,r with
 |fr,some ⟨.gk _,some u,H⟩=>aam fr ds (alh u) H
 |fr,some ⟨.dH c,some u,H⟩=>aam fr ds (xq u c) H
 |_,_=>.eI "deferred call"
def IU(fr:fN)(H:AH):jR:=
 match fr with
 |⟨fn,tmps,_,_,_,mode,up,_⟩=>match mode with
  |.gj=>.eI "run"
  |.ll c=>bif (P.funcs[fn]?).isSome then .zl ⟨.dH c,up,H⟩else .eI "no function"
  |.iX=>match P.funcs[fn]? with
   |some f=>match sd P H tmps f.results.toList with
    |some l=>.zl ⟨.gk (AM l),up,H⟩
    |none=>.eI "results"
   |none=>.eI "no function"
def CS(fr:fN)(H:AH):jR:=
 match fr with
 |⟨fn,tmps,nt,todo,defers,mode,up,round⟩=>match defers with
  |.oo r::ds=>match H.bf r with
   |some (.pB (some []))=>.go ⟨fn,tmps,nt,todo,ds,mode,up,round⟩ (H.cQ r (.pB none))
   |_=>.eI "collected"
  |.uF f lu args::ds=>ave ⟨fn,tmps,nt,todo,defers,mode,up,round⟩ ds ((KM (x9 P (.ba f [] lu) args)).bind (kA P call H (some mode)))
  |[]=>IU P ⟨fn,tmps,nt,todo,defers,mode,up,round⟩ H
def jY(fr:fN)(H:AH):jR:=
 match fr with
 |⟨fn,tmps,nt,todo,defers,mode,up,round⟩=>match mode with
  |.gj=>qH P call ⟨fn,tmps,nt,todo,defers,.gj,up,round⟩ H
  |m=>CS P call ⟨fn,tmps,nt,todo,defers,m,up,round⟩ H
end aul
abbrev J6:=FuncId->LV->AH->Option (AV×AH)
def Mx:J6:=λ_ _ _=>none
def run(P:Program)(K:J6):Nat->fN->AH->Option lJ
 |0,_,_=>none
 |n+1,fr,H=>match jY P ⟨run P K n,K⟩ fr H with
  |.go fr' H'=>run P K n fr' H'
  |.zl r=>some r
  |.eI _=>none
def eval(P:Program)(K:J6)(n:Nat)(f:FuncId)(args:LV)(H:AH):Option lJ:=(KK P f args none).bind λfr=>run P K n fr H
end
namespace Tr
variable{α:Type}
theorem Hn(n):(Tr.gZ:Tr α).bT n=none:=rfl
theorem s_(a b):Nat.beq a b=decide (a=b):=by
 cases h:Nat.beq a b
 .have:a≠b:=by intro e;subst e;simp at h
  simp[this]
 .have:=dG h;simp[this]
theorem A0{β:Type}(p)[Decidable p](x y:β):(bif decide p then x else y)=if p then x else y:=by by_cases h:p<;>simp[h]
theorem A3{β:Type}(c x y): @Bool.rec (λ_=>β) y x c=bif c then x else y:=by cases c<;>rfl
theorem pL(v)(l r:Tr α)(n):
 (Tr.fU v l r).bT n=if n=0 then v else if n%2=1 then l.bT (n / 2)else r.bT (n / 2-1):=by
 have h:(Tr.fU v l r).bT n= @Bool.rec (λ_=>Option α) (@Bool.rec (λ_=>Option α) (r.bT (Nat.sub (Nat.div n 2) 1)) (l.bT (Nat.div n 2)) (Nat.beq (Nat.mod n 2) 1)) (v) (Nat.beq n 0):=rfl;rw[h,A3,A3];simp only[s_,A0];rfl
theorem xB(v l r n)(a:α):
 (Tr.fU v l r).fV n a=if n=0 then .fU (some a) l r else if n%2=1 then .fU v (l.fV (n / 2) a) r else .fU v l (r.fV (n / 2-1) a):=by
 have h:(Tr.fU v l r).fV n a= @Bool.rec (λ_=>Tr α) (@Bool.rec (λ_=>Tr α) (Tr.fU v l (r.fV (Nat.sub (Nat.div n 2) 1) a)) (Tr.fU v (l.fV (Nat.div n 2) a) r) (Nat.beq (Nat.mod n 2) 1)) (Tr.fU (some a) l r) (Nat.beq n 0):=rfl;rw[h,A3,A3];simp only[s_,A0];rfl
theorem aqO(v)(l r:Tr α)(n):
 (Tr.fU v l r).AR n=if n=0 then .fU none l r else if n%2=1 then .fU v (l.AR (n / 2)) r else .fU v l (r.AR (n / 2-1)):=by
 have h:(Tr.fU v l r).AR n= @Bool.rec (λ_=>Tr α) (@Bool.rec (λ_=>Tr α) (Tr.fU v l (r.AR (Nat.sub (Nat.div n 2) 1))) (Tr.fU v (l.AR (Nat.div n 2)) r) (Nat.beq (Nat.mod n 2) 1)) (Tr.fU none l r) (Nat.beq n 0):=rfl;rw[h,A3,A3];simp only[s_,A0];rfl
theorem abe(n)(a:α):vY 0 n a=.fU (some a) .gZ .gZ:=rfl
theorem abd(f n)(a:α):
 vY (f+1) n a=if n=0 then .fU (some a) .gZ .gZ else if n%2=1 then .fU none (vY f (n / 2) a) .gZ else .fU none .gZ (vY f (n / 2-1) a):=by
 have h:vY (f+1) n a= @Bool.rec (λ_=>Tr α) (@Bool.rec (λ_=>Tr α) (Tr.fU none .gZ (vY f (Nat.sub (Nat.div n 2) 1) a)) (Tr.fU none (vY f (Nat.div n 2) a) .gZ) (Nat.beq (Nat.mod n 2) 1)) (Tr.fU (some a) .gZ .gZ) (Nat.beq n 0):=rfl;rw[h,A3,A3];simp only[s_,A0];rfl
theorem W_:∀(f n m) (a:α),n<=f->(vY f n a).bT m=if m=n then some a else none
 |0,n,m,a,h=>by
  have:n=0:=by omega
  subst this;rw[abe,pL];simp[Hn]
 |f+1,n,m,a,h=>by
  rw[abd];by_cases h0:n=0
  .subst h0;rw[aO rfl,pL];simp[Hn]
  .rw[az h0];by_cases h1:n%2=1
   .rw[aO h1,pL,W_ f _ _ a (by omega),Hn];by_cases m0:m=0
    .subst m0;rw[aO rfl,az (λe=>h0 e.symm)]
    .rw[az m0];by_cases m1:m%2=1
     .rw[aO m1];by_cases e:m=n
      .subst e;simp
      .rw[az e,az (by omega)]
     .rw[az m1,az (by rintro rfl;exact m1 h1)]
   .rw[az h1,pL,W_ f _ _ a (by omega),Hn];by_cases m0:m=0
    .subst m0;rw[aO rfl,az (λe=>h0 e.symm)]
    .rw[az m0];by_cases m1:m%2=1
     .rw[aO m1,az (by rintro rfl;exact h1 m1)]
     .rw[az m1];by_cases e:m=n
      .subst e;simp
      .rw[az e,az (by omega)]
theorem kD(t:Tr α)(n m a):(t.fV n a).bT m=if m=n then some a else t.bT m:=by
 induction t generalizing n m with
 |gZ=>show(vY n n a).bT m=_;rw[Hn,W_ n n m a (cM _)]
 |fU v l r EV EW=>
  rw[xB,pL v l r m];by_cases h0:n=0
  .subst h0;rw[aO rfl,pL];by_cases m0:m=0
   .rw[aO m0,aO m0]
   .rw[az m0,az m0,az m0]
  .rw[az h0];by_cases h1:n%2=1
   .rw[aO h1,pL,EV];by_cases m0:m=0
    .rw[aO m0,aO m0,az (by omega)]
    .rw[az m0,az m0];by_cases m1:m%2=1
     .rw[aO m1,aO m1];by_cases e:m=n
      .rw[aO (by rw[e]),aO e]
      .rw[az (by omega),az e]
     .rw[az m1,az m1,az (by rintro rfl;exact m1 h1)]
   .rw[az h1,pL,EW];by_cases m0:m=0
    .rw[aO m0,aO m0,az (by omega)]
    .rw[az m0,az m0];by_cases m1:m%2=1
     .rw[aO m1,aO m1,az (by rintro rfl;exact h1 m1)]
     .rw[az m1,az m1];by_cases e:m=n
      .rw[aO (by rw[e]),aO e]
      .rw[az (by omega),az e]
theorem arf(t:Tr α)(n m):(t.AR n).bT m=if m=n then none else t.bT m:=by
 induction t generalizing n m with
 |gZ=>show(Tr.gZ:Tr α).bT m=_;simp[Hn]
 |fU v l r EV EW=>
  rw[aqO,pL v l r m];by_cases h0:n=0
  .subst h0;rw[aO rfl,pL];by_cases m0:m=0
   .rw[aO m0,aO m0]
   .rw[az m0,az m0,az m0]
  .rw[az h0];by_cases h1:n%2=1
   .rw[aO h1,pL,EV];by_cases m0:m=0
    .rw[aO m0,aO m0,az (by omega)]
    .rw[az m0,az m0];by_cases m1:m%2=1
     .rw[aO m1,aO m1];by_cases e:m=n
      .rw[aO (by rw[e]),aO e]
      .rw[az (by omega),az e]
     .rw[az m1,az m1,az (by rintro rfl;exact m1 h1)]
   .rw[az h1,pL,EW];by_cases m0:m=0
    .rw[aO m0,aO m0,az (by omega)]
    .rw[az m0,az m0];by_cases m1:m%2=1
     .rw[aO m1,aO m1,az (by rintro rfl;exact h1 m1)]
     .rw[az m1,az m1];by_cases e:m=n
      .rw[aO (by rw[e]),aO e]
      .rw[az (by omega),az e]
theorem agw(l):∀(n) (t:Tr α) (m),(Cm l n t).bT m=if n<=m/\m<n+l.length then l[m-n]? else t.bT m:=by
 induction l with
 |nil=>intro n t m;have:¬(n<=m/\m<n+0):=by omega
       simp[Cm];omega
 |cons a l ih=>
  intro n t m;rw[Cm,ih,kD];by_cases h:n+1<=m/\m<n+1+l.length
  .have h2:n<=m/\m<n+(a::l).length:=by simp;omega
   rw[aO h,aO h2];have:m-n=(m-(n+1))+1:=by omega
   rw[this,Sd]
  .rw[az h];by_cases e:m=n
   .subst e;simp
   .have h2:¬(n<=m/\m<n+(a::l).length):=by simp;omega
    rw[az h2,az e]
end Tr
structure PE where
 b:Nat
 o:Nat
 n:Nat
structure cj where
 f:Nat->Option PE
 ro:Nat->Option Obj
 xs:Nat->Option PE
instance:CoeFun cj (λ_=>Nat->Option PE):=⟨cj.f⟩
def cj.pu(φ:cj):cj:=⟨λ_=>none,φ.ro,φ.xs⟩
theorem dn{α:Type}{c x}{v:α}(h:(bif c then x else none)=some v):c=true/\x=some v:=by
 cases c
 .cases h
 .exact⟨rfl,h⟩
mutual
def VR(φ:cj):AV->Value->Prop
 |.ao b,v=>v=.bool b
 |.bU k n,v=>v=.int k n
 |.ab s,v=>∃b:ByteArray,v=.string b/\du b=s
 |.aa id off,v=>∃e,φ id=some e/\v=.pointer (some ⟨e.b,e.o+off,none⟩)
 |.kE,v=>v=.pointer none
 |.bq id off len cap sz ex,v=>∃e x c,φ id=some e/\v=.slice (some ⟨e.b,x,none⟩) len c/\(c=0\/x=e.o+off)/\len<=c/\(ex=true->c=cap)/\e.o+off+c*sz<=e.n
 |.aJ,v=>v=.slice none 0 0
 |.aA id,v=>∃e,φ id=some e/\v=.map (some e.b)
 |.mF,v=>v=.map none
 |.ba fn f c,v=>∃f' c':Array Value,v=.func fn f' c'/\vq fn=false/\bp φ f f'.toList/\bp φ c c'.toList
 |.gz l,v=>∃e,φ l=some e/\v=.func (.yield e.b) #[] #[]
 |.p_,v=>v=.nilFunc
 |.dT t a,v=>∃v',v=.iface t v'/\VR φ a v'
 |.lq,v=>v=.nilIface
 |.ah cs,v=>∃cs':Array Value,v=.agg cs'/\bp φ cs cs'.toList
 |.aC cs,v=>∃cs':Array Value,v=.tuple cs'/\bp φ cs cs'.toList
 |.uW g,v=>v=.pointer (some ⟨g,0,none⟩)
 |.ad cs len sz,v=>∃(a:Option Addr) (c:Nat),v=.slice a len c/\cs.length=len*sz/\(len=0\/
   ∃b x,∃(eA:Array Value) (el:TypeId) (fz:Nat×Nat),a=some ⟨b,x,none⟩/\len<=c/\φ.ro b=some (.cells eA el fz)/\x+cs.length<=eA.size/\bp φ.pu cs ((eA.toList.drop x).take cs.length))
 |.pw cs,v=>∃b x,∃(eA:Array Value) (el:TypeId) (fz:Nat×Nat),v=.pointer (some ⟨b,x,none⟩)/\φ.ro b=some (.cells eA el fz)/\x+cs.length<=eA.size/\bp φ.pu cs ((eA.toList.drop x).take cs.length)
 |.gX n off,v=>∃e,φ.xs n=some e/\v=.pointer (some ⟨e.b,e.o+off,none⟩)
 |.fF n len sz,v=>(len=0/\v=.slice none 0 0)\/∃e x c,φ.xs n=some e/\v=.slice (some ⟨e.b,x,none⟩) len c/\(c=0\/x=e.o)/\len<=c/\e.o+c*sz<=e.n/\len≠0
 |.qS,v=>∃a:Option Addr,v=.slice a 0 0
 |.dH _,_=>False
 |.ai id len sz,v=>(len=0/\v=.slice none 0 0)\/∃e x c,φ id=some e/\v=.slice (some ⟨e.b,x,none⟩) len c/\(c=0\/x=e.o)/\len<=c/\e.o+c*sz<=e.n
def bp(φ:cj):LV->List Value->Prop
 |[],l=>l=[]
 |a::as,l=>∃v vs,l=v::vs/\VR φ a v/\bp φ as vs
end
structure dv(φ ψ:cj):Prop where
 f:∀id e,φ id=some e->ψ id=some e
 ro:∀b o,φ.ro b=some o->ψ.ro b=some o
 xs:∀n e,φ.xs n=some e->ψ.xs n=some e
instance{φ ψ:cj}:CoeFun (dv φ ψ) (λ_=>∀id e,φ id=some e->ψ id=some e):=⟨dv.f⟩
theorem dv.refl(φ):dv φ φ:=⟨λ_ _ h=>h,λ_ _ h=>h,λ_ _ h=>h⟩
theorem dv.Jz{φ ψ χ}(h:dv φ ψ)(h':dv ψ χ):dv φ χ:=⟨λid e hh=>h' id e (h id e hh),λb o hh=>h'.ro b o (h.ro b o hh),λn e hh=>h'.xs n e (h.xs n e hh)⟩
theorem dv.pu{φ ψ}(h:dv φ ψ):dv φ.pu ψ.pu:=⟨λ_ _ h=>(by cases h),h.ro,h.xs⟩
mutual
theorem VR.ef{φ ψ:cj}(h:dv φ ψ):∀(a:AV) (v:Value),VR φ a v->VR ψ a v
 |.ao _,_,h1=>by simpa[VR]using h1
 |.bU _ _,_,h1=>by simpa[VR]using h1
 |.ab _,_,h1=>by simpa[VR]using h1
 |.aa _ _,_,h1=>by simp only[VR]at h1⊢;obtain⟨e,h2,h3⟩:=h1;exact⟨e,h _ _ h2,h3⟩
 |.kE,_,h1=>by simpa[VR]using h1
 |.bq ..,_,h1=>by simp only[VR]at h1⊢;obtain⟨e,x,c,h2,h3⟩:=h1;exact⟨e,x,c,h _ _ h2,h3⟩
 |.aJ,_,h1=>by simpa[VR]using h1
 |.aA _,_,h1=>by simp only[VR]at h1⊢;obtain⟨e,h2,h3⟩:=h1;exact⟨e,h _ _ h2,h3⟩
 |.mF,_,h1=>by simpa[VR]using h1
 |.ba _ f c,_,h1=>by simp only[VR]at h1⊢;obtain⟨f',c',e,hy,h2,h3⟩:=h1;exact⟨f',c',e,hy,bp.kI h f _ h2,bp.kI h c _ h3⟩
 |.gz _,_,h1=>by simp only[VR]at h1⊢;obtain⟨e,h2,h3⟩:=h1;exact⟨e,h _ _ h2,h3⟩
 |.p_,_,h1=>by simpa[VR]using h1
 |.dT _ a,_,h1=>by simp only[VR]at h1⊢;obtain⟨v',e,h2⟩:=h1;exact⟨v',e,VR.ef h a _ h2⟩
 |.lq,_,h1=>by simpa[VR]using h1
 |.ah cs,_,h1=>by simp only[VR]at h1⊢;obtain⟨v',e,h2⟩:=h1;exact⟨v',e,bp.kI h cs _ h2⟩
 |.aC cs,_,h1=>by simp only[VR]at h1⊢;obtain⟨v',e,h2⟩:=h1;exact⟨v',e,bp.kI h cs _ h2⟩
 |.uW _,_,h1=>by simpa[VR]using h1
 |.ad cs _ _,_,h1=>by
  simp only[VR]at h1⊢;obtain⟨a,c,e,hl,h2⟩:=h1;refine⟨a,c,e,hl,?_⟩;rcases h2 with h2|⟨b,x,eA,el,fz,h2,h3,h4,h5,h6⟩
  .exact .inl h2
  .exact .inr ⟨b,x,eA,el,fz,h2,h3,h.ro _ _ h4,h5,bp.kI h.pu cs _ h6⟩
 |.pw cs,_,h1=>by simp only[VR]at h1⊢;obtain⟨b,x,eA,el,fz,h3,h4,h5,h6⟩:=h1;exact⟨b,x,eA,el,fz,h3,h.ro _ _ h4,h5,bp.kI h.pu cs _ h6⟩
 |.ai ..,_,h1=>by
  simp only[VR]at h1⊢;rcases h1 with h1|⟨e,x,c,h2,h3⟩
  .exact .inl h1
  .exact .inr ⟨e,x,c,h _ _ h2,h3⟩
 |.gX ..,_,h1=>by simp only[VR]at h1⊢;obtain⟨e,h2,h3⟩:=h1;exact⟨e,h.xs _ _ h2,h3⟩
 |.fF ..,_,h1=>by
  simp only[VR]at h1⊢;rcases h1 with h1|⟨e,x,c,h2,h3⟩
  .exact .inl h1
  .exact .inr ⟨e,x,c,h.xs _ _ h2,h3⟩
 |.qS,_,h1=>by simpa[VR]using h1
 |.dH _,_,h1=>by simp[VR]at h1
theorem bp.kI{φ ψ:cj}(h:dv φ ψ):∀(as:LV) (vs:List Value),bp φ as vs->bp ψ as vs
 |[],_,h1=>by simpa[bp]using h1
 |a::as,_,h1=>by simp only[bp]at h1⊢;obtain⟨v,vs,e,h2,h3⟩:=h1;exact⟨v,vs,e,VR.ef h a v h2,bp.kI h as vs h3⟩
end
theorem dv.vJ(φ):dv φ.pu φ:=⟨λ_ _ h=>(by cases h),λ_ _ h=>h,λ_ _ h=>h⟩
mutual
theorem VR.yS{φ ψ:cj}(hr:dv φ.pu ψ.pu):∀(a:AV) (v:Value),eG a=true->VR φ a v->VR ψ a v
 |.ao _,_,_,h1=>by simpa[VR]using h1
 |.bU _ _,_,_,h1=>by simpa[VR]using h1
 |.ab _,_,_,h1=>by simpa[VR]using h1
 |.aa _ _,_,hp,_=>by cases hp
 |.kE,_,_,h1=>by simpa[VR]using h1
 |.bq ..,_,hp,_=>by cases hp
 |.aJ,_,_,h1=>by simpa[VR]using h1
 |.aA _,_,hp,_=>by cases hp
 |.mF,_,_,h1=>by simpa[VR]using h1
 |.ba _ f c,_,hp,h1=>by simp only[eG,dk]at hp;simp only[VR]at h1⊢;obtain⟨f',c',e,hy,h2,h3⟩:=h1;exact⟨f',c',e,hy,bp.yS hr f _ hp.1 h2,bp.yS hr c _ hp.2 h3⟩
 |.gz _,_,hp,_=>by cases hp
 |.p_,_,_,h1=>by simpa[VR]using h1
 |.dT _ a,_,hp,h1=>by simp only[eG]at hp;simp only[VR]at h1⊢;obtain⟨v',e,h2⟩:=h1;exact⟨v',e,VR.yS hr a _ hp h2⟩
 |.lq,_,_,h1=>by simpa[VR]using h1
 |.ah cs,_,hp,h1=>by simp only[eG]at hp;simp only[VR]at h1⊢;obtain⟨v',e,h2⟩:=h1;exact⟨v',e,bp.yS hr cs _ hp h2⟩
 |.aC cs,_,hp,h1=>by simp only[eG]at hp;simp only[VR]at h1⊢;obtain⟨v',e,h2⟩:=h1;exact⟨v',e,bp.yS hr cs _ hp h2⟩
 |.uW _,_,_,h1=>by simpa[VR]using h1
 |.ad cs _ _,v,_,h1=>VR.ef (ψ:=ψ) (hr.Jz (dv.vJ ψ)) (.ad cs _ _) v (φ:=φ.pu) (by simp only[VR]at h1⊢;exact h1)
 |.pw cs,v,_,h1=>VR.ef (ψ:=ψ) (hr.Jz (dv.vJ ψ)) (.pw cs) v (φ:=φ.pu) (by simp only[VR]at h1⊢;exact h1)
 |.gX n o,v,_,h1=>VR.ef (ψ:=ψ) (hr.Jz (dv.vJ ψ)) (.gX n o) v (φ:=φ.pu) (by simp only[VR]at h1⊢;exact h1)
 |.fF n l s,v,_,h1=>VR.ef (ψ:=ψ) (hr.Jz (dv.vJ ψ)) (.fF n l s) v (φ:=φ.pu) (by simp only[VR]at h1⊢;exact h1)
 |.qS,_,_,h1=>by simpa[VR]using h1
 |.dH _,_,_,h1=>by simp[VR]at h1
 |.ai ..,_,hp,_=>by cases hp
theorem bp.yS{φ ψ:cj}(hr:dv φ.pu ψ.pu):∀(as:LV) (vs:List Value),yR as=true->bp φ as vs->bp ψ as vs
 |[],_,_,h1=>by simpa[bp]using h1
 |a::as,_,hp,h1=>by simp only[yR,dk]at hp;simp only[bp]at h1⊢;obtain⟨v,vs,e,h2,h3⟩:=h1;exact⟨v,vs,e,VR.yS hr a v hp.1 h2,bp.yS hr as vs hp.2 h3⟩
end
theorem VR.Dq{φ ψ}(a v)(hp:eG a=true)(h:VR φ a v)(hr:dv φ.pu ψ.pu:=by exact dv.refl _):VR ψ a v:=VR.yS hr a v hp h
theorem bp.wj{φ ψ}(as vs)(hp:yR as=true)(h:bp φ as vs)(hr:dv φ.pu ψ.pu:=by exact dv.refl _):bp ψ as vs:=bp.yS hr as vs hp h
theorem vL:∀l,yR l=l.all eG
 |[]=>rfl
 |a::l=>by simp[yR,vL l]
section aua
variable{φ:cj}
theorem lK:bp φ [] []:=by simp[bp]
theorem qg{a v as vs}:bp φ (a::as) (v::vs)↔VR φ a v/\bp φ as vs:=by
 constructor
 .rintro⟨v',ep,e,h1,h2⟩;cases e;exact⟨h1,h2⟩
 .rintro⟨h1,h2⟩;exact⟨v,vs,rfl,h1,h2⟩
theorem bp.jf:∀{as vs},bp φ as vs->as.length=vs.length
 |[],vs,h=>by simp only[bp]at h;subst h;rfl
 |a::as,vs,h=>by obtain⟨v,ep,rfl,_,h2⟩:=h;simp[bp.jf h2]
theorem bp.get:∀{as vs},bp φ as vs->∀{i:Nat} {a},as[i]? =some a->∃v,vs[i]? =some v/\VR φ a v
 |[],_,_,i,a,hi=>by simp at hi
 |b::as,vs,h,i,a,hi=>by
  obtain⟨v,ep,rfl,h1,h2⟩:=h;cases i with
  |zero=>simp at hi;subst hi;exact⟨v,by simp,h1⟩
  |succ i=>simp at hi⊢;exact bp.get h2 hi
theorem bp.xN:∀{as vs},bp φ as vs->∀n,bp φ (as.take n) (vs.take n)
 |[],_,h,n=>by simp only[bp]at h;subst h;simp[bp]
 |a::as,vs,h,n=>by
  obtain⟨v,ep,rfl,h1,h2⟩:=h;cases n with
  |zero=>simp[bp]
  |succ n=>simp;exact qg.2 ⟨h1,bp.xN h2 n⟩
theorem bp.xM:∀{as vs},bp φ as vs->∀n,bp φ (as.drop n) (vs.drop n)
 |[],_,h,n=>by simp only[bp]at h;subst h;simp[bp]
 |a::as,vs,h,n=>by
  obtain⟨v,ep,rfl,h1,h2⟩:=h;cases n with
  |zero=>exact qg.2 ⟨h1,h2⟩
  |succ n=>simp;exact bp.xM h2 n
theorem bp.wi:∀{as bs vs ws},bp φ as vs->bp φ bs ws->bp φ (as++bs) (vs++ws)
 |[],_,vs,_,h,h'=>by simp only[bp]at h;subst h;simpa using h'
 |a::as,_,vs,_,h,h'=>by obtain⟨v,ep,rfl,h1,h2⟩:=h;simp;exact qg.2 ⟨h1,bp.wi h2 h'⟩
theorem oP{a v}(h:VR φ a v):bp φ [a] [v]:=qg.2 ⟨h,lK⟩
theorem adD{as vs}(hl:as.length=vs.length)(h:∀(i:Nat) (a v),as[i]? =some a->vs[i]? =some v->VR φ a v):bp φ as vs:=by
 induction as generalizing vs with
 |nil=>cases vs with
  |nil=>exact lK
  |cons=>simp at hl
 |cons a as ih=>cases vs with
  |nil=>simp at hl
  |cons v vs=>exact qg.2 ⟨h 0 a v rfl rfl,ih (by simpa using hl) (λi a v h1 h2=>h (i+1) a v (by simpa using h1) (by simpa using h2))⟩
end aua
theorem AV.sA{φ a v}(h:VR φ a v):bp φ a.dK v.cells.toList:=by
 cases a<;>simp only[AV.dK];case ah cs=>simp only[VR]at h;obtain⟨cs',rfl,h⟩:=h;exact h
 case ad=>have h':=h;obtain⟨a,c,rfl,_⟩:=h;exact oP h'
 case pw=>have h':=h;obtain⟨b,x,eA,el,fz,rfl,_⟩:=h;exact oP h'
 case ai=>have h':=h;rcases h with⟨_,rfl⟩|⟨e,x,c,_,rfl,_⟩<;>exact oP h'
 case fF=>have h':=h;rcases h with⟨_,rfl⟩|⟨e,x,c,_,rfl,_⟩<;>exact oP h'
 case qS=>have h':=h;obtain⟨a,rfl⟩:=h;exact oP h'
 case dH=>exact h.elim
 all_goals
  have h':=h;first
   |(subst h;exact oP h')
   |(obtain⟨_,_,rfl⟩:=h;exact oP h')
   |(obtain⟨_,rfl,_⟩:=h;exact oP h')
   |(obtain⟨_,_,_,rfl,_⟩:=h;exact oP h')
   |(obtain⟨_,_,_,_,rfl,_⟩:=h;exact oP h')
   |(obtain⟨_,_,rfl,_⟩:=h;exact oP h')
theorem AV.au7{φ a v}(h:VR φ a v):v.oneCell'=a.cX:=by
 cases a<;>simp only[VR]at h;case ad=>obtain⟨a,c,rfl,_⟩:=h;rfl
 case pw=>obtain⟨b,x,eA,el,fz,rfl,_⟩:=h;rfl
 case ai=>rcases h with⟨_,rfl⟩|⟨e,x,c,_,rfl,_⟩<;>rfl
 case fF=>rcases h with⟨_,rfl⟩|⟨e,x,c,_,rfl,_⟩<;>rfl
 case qS=>obtain⟨a,rfl⟩:=h;rfl
 all_goals first
  |(subst h;rfl)
  |(obtain⟨_,_,rfl⟩:=h;rfl)
  |(obtain⟨_,rfl,_⟩:=h;rfl)
  |(obtain⟨_,_,_,rfl,_⟩:=h;rfl)
  |(obtain⟨_,_,rfl,_⟩:=h;rfl)
  |(obtain⟨_,_,_,_,rfl,_⟩:=h;rfl)
theorem AV.aah{φ as vs}(h:bp φ as vs)(h1:as.all AV.cX=true):∀v∈vs,v.oneCell'=true:=by
 induction as generalizing vs with
 |nil=>simp only[bp]at h;subst h;simp
 |cons a as ih=>
  obtain⟨v,ep,rfl,h2,h3⟩:=h;simp only[List.all_cons,dk]at h1;intro x hx;rcases dm.1 hx with rfl|hx
  .rw[AV.au7 h2];exact h1.1
  .exact ih h3 h1.2 x hx
theorem aeK{φ v a}(h:O' v=some a):VR φ a v:=by
 unfold O' at h;split at h<;>first
  |(cases h;done)
  |(injection h with h;subst h;simp[VR];done)
  |skip
 rename_i fn f c;cases hy:vq fn<;>cases hf:f.isEmpty<;>cases hc:c.isEmpty<;>simp[hy,hf,hc]at h;subst h;have h1:=MZ.1 hf;have h2:=MZ.1 hc;subst h1 h2;exact⟨#[],#[],rfl,hy,lK,lK⟩
theorem aeL{φ}:∀{vs as},GJ vs=some as->bp φ as vs
 |[],as,h=>by simp[GJ]at h;subst h;exact lK
 |v::vs,as,h=>by
  simp only[GJ]at h;split at h
  .cases h
  next a ha=>
   split at h
   .cases h
   next qh Ll=>cases h;exact qg.2 ⟨aeK ha,aeL Ll⟩
theorem Wh{φ v a}(h:JD v=some a):VR φ a v:=by
 unfold JD at h;split at h;next cs=>
  cases hc:GJ cs.toList with
  |none=>simp[hc]at h
  |some as=>simp[hc]at h;subst h;exact⟨cs,rfl,aeL hc⟩
 next cs=>cases hc:cs.isEmpty<;>simp[hc]at h;subst h;have:=MZ.1 hc;subst this;exact⟨#[],rfl,lK⟩
 .exact aeK h
theorem zg{φ P t z}(h:jZ P t=some z):∃v,VR φ z v/\∀w,(zeroValue t).run P w=.ok v w:=by
 unfold jZ at h;cases hi:P.info? t with
 |none=>simp[hi]at h
 |some i=>
  simp only[hi,qD]at h;cases hz:i.zero with
  |none=>simp[hz]at h
  |some v=>simp only[hz,qD]at h;exact⟨v,Wh h,λw=>by simp[zeroValue,run_typeInfo w hi,hz]⟩
theorem jE{P t n}(h:cU P t=some n)(w):(sizeOf t).run P w=.ok n w:=by
 unfold cU at h;cases hi:P.info? t with
 |none=>simp[hi]at h
 |some i=>simp[hi]at h;simp[sizeOf,run_typeInfo w hi,h]
theorem V5{P t n}(h:tI P t=some n)(w):∃i,(typeInfo t).run P w=.ok i w/\i.bytes=n:=by
 unfold tI at h;cases hi:P.info? t with
 |none=>simp[hi]at h
 |some i=>simp[hi]at h;exact⟨i,run_typeInfo w hi,h⟩
theorem EY{P t b}(h:BY P t=some b)(w):(isAgg t).run P w=.ok b w:=by
 unfold BY at h;cases hu:P.underlying t with
 |none=>simp[hu]at h
 |some d=>cases d<;>simp[hu]at h<;>subst h<;>simp[isAgg,run_underlying hu w]
theorem aax{α P}:∀{s} {a:α},Av P s=some a->∀w,s.run P w=.ok a w
 |.pure a,b,h,w=>by simp[Av]at h;subst h;rfl
 |.program k,b,h,w=>by simp only[Av]at h;simp only[Sem.run];exact aax h w
 |.load ..,_,h,_|.store ..,_,h,_|.new ..,_,h,_|.shape ..,_,h,_|.freeze ..,_,h,_|.frozen ..,_,h,_|.getObj ..,_,h,_
 |.setObj ..,_,h,_|.choose ..,_,h,_|.sys ..,_,h,_|.mark ..,_,h,_|.halt ..,_,h,_=>by simp[Av]at h
def dI(φ:cj):List (AV×AV×Nat)->List MapEntry->Prop
 |[],l=>l=[]
 |(k,v,b)::es,l=>∃m ms,l=m::ms/\VR φ k m.key/\VR φ v m.val/\m.born=b/\dI φ es ms
def DR(φ:cj):pD->Deferred->Prop
 |.uF fn cap args,d=>∃uQ args':Array Value,d={target:=.fn fn uQ,args:=args'}/\vq fn=false/\bp φ cap uQ.toList/\bp φ args args'.toList
 |.oo r,d=>∃e,φ r=some e/\d={target:=.collected e.b,args:= #[]}
def pF(φ:cj):List pD->List Deferred->Prop
 |[],l=>l=[]
 |a::as,l=>∃d ds,l=d::ds/\DR φ a d/\pF φ as ds
def TR(φ:cj)(t:Tr AV)(nt:Nat)(tmps:Array Value):Prop:=
 tmps.size=nt/\∀i a,t.bT i=some a->∃v,tmps[i]? =some v/\VR φ a v
def OR(φ:cj):bk->PE->Obj->Prop
 |.aj vs _,e,o=>∃cs el,o=.cells cs el (0,0)/\cs.size=e.n/\e.o+vs.length<=e.n/\bp φ vs ((cs.toList.drop e.o).take vs.length)/\vs.all AV.cX=true
 |.bm es clock p,_,o=>∃bF:Array MapEntry,o=.map bF clock/\dI φ es bF.toList/\(p=true->dI φ.pu es bF.toList)
 |.tp s pos,e,o=>∃b,o=.stringIter b pos/\du b=s/\e.o=0
 |.je m since bE CT,e,o=>∃m',o=.mapIter m' since bE.toArray CT/\e.o=0/\(match m with|none=>m'=none|some id=>∃e,φ id=some e/\m'=some e.b)
 |.gK st p fn tmps nt ps a b d,_,o=>∃oM ed,o=.loop {state:=st,pending:=p,fn,tmps:=oM,params:=ps.toArray,assign:=a,body:=b,defers:=ed.b}/\φ d=some ed/\TR φ tmps nt oM
 |.pB ds,_,o=>(match ds with|none=>o=.deferred none|some l=>∃l',o=.deferred (some l')/\pF φ l l')
 |.bc _,_,_=>True
 |.dR vs _,e,o=>∃cs el,o=.cells cs el (0,0)/\cs.size=e.n/\e.o+vs.length<=e.n/\bp φ.pu vs ((cs.toList.drop e.o).take vs.length)/\vs.all AV.cX=true
 |.ay vs _,e,o=>∃cs el,o=.cells cs el (0,0)/\cs.size=e.n/\e.o+vs.length<=e.n/\bp φ.pu vs ((cs.toList.drop e.o).take vs.length)/\vs.all AV.cX=true
theorem adj{φ χ}(h:dv φ χ){vs el gO e o}(ho:OR φ.pu (.aj vs el) e o):OR χ (.dR vs gO) e o:=
 let⟨cs,kB,h1,h2,h3,h4,h5⟩:=ho
 ⟨cs,kB,h1,h2,h3,bp.kI h.pu _ _ h4,h5⟩
theorem U2{φ χ}(h:dv φ χ){vs el gO e o}(ho:OR φ.pu (.aj vs el) e o):OR χ (.ay vs gO) e o:=
 let⟨cs,kB,h1,h2,h3,h4,h5⟩:=ho
 ⟨cs,kB,h1,h2,h3,bp.kI h.pu _ _ h4,h5⟩
def bk.aR:bk->Bool
 |.bc _=>false
 |_=>true
abbrev fv:=Nat->Prop
def hQ(base:fv)(w:World):Prop:=∀b,base b->b<w.heap.size
def auZ(w:World):fv:=λb=>b<w.heap.size
theorem hQ.Dm{base w w'}(h:hQ base w)(cu:w.heap.size<=w'.heap.size):hQ base w':=λb hb=>MX (h b hb) cu
def J5(φ:cj)(H:AH)(b:Nat):Prop:=(∃o,φ.ro b=some o)\/∃n ob e,H.hJ n=some ob/\φ.xs n=some e/\e.b=b
structure WX(φ:cj)(base:fv)(H:AH)(w:World):Prop where
 ro:∀b o,φ.ro b=some o->(¬base b/\w.heap[b]? =some o)/\∀id ob e,H.bf id=some ob->ob.aR=true->φ id=some e->e.b≠b
 xo:∀n ob,H.hJ n=some ob->∃e o,φ.xs n=some e/\(¬base e.b/\w.heap[e.b]? =some o)/\OR φ.pu ob e o/\φ.ro e.b=none/\∀id dp e1,H.bf id=some dp->dp.aR=true->φ id=some e1->e1.b≠e.b
 xi:∀n n' ob bB e e',H.hJ n=some ob->H.hJ n'=some bB->φ.xs n=some e->φ.xs n'=some e'->e.b=e'.b->n=n'
 xl:∀X,H.x=some X->∀n e,φ.xs n=some e->n<X.n
structure WR(φ:cj)(base:fv)(H:AH)(w:World):Prop where
 ew:∀id ob e,H.bf id=some ob->φ id=some e->∃o,w.heap[e.b]? =some o/\OR φ ob e o
 jg:∀id g_ ob bB e e',H.bf id=some ob->ob.aR=true->φ id=some e->H.bf g_=some bB->bB.aR=true->φ g_=some e'->e.b=e'.b->id=g_
 lt:∀id e,φ id=some e->e.b<w.heap.size/\¬base e.b/\id<H.bx
 nx:∀id ob,H.bf id=some ob->id<H.bx
 wx:WX φ base H w
theorem WR.ro{φ base H w}(hw:WR φ base H w):∀b o,φ.ro b=some o->(¬base b/\w.heap[b]? =some o)/\∀id ob e,H.bf id=some ob->ob.aR=true->φ id=some e->e.b≠b:=hw.wx.ro
theorem tw{H H':AH}(h:H'.x=H.x)(n):H'.hJ n=H.hJ n:=by have⟨a,b,c⟩:=H;have⟨a',b',c'⟩:=H';subst h;cases c'<;>rfl
theorem WR.Zg{φ base H w}(hw:WR φ base H w){b}(h:J5 φ H b){id ob e}(h1:H.bf id=some ob)(h2:ob.aR=true)(h3:φ id=some e):e.b≠b:=by
 rcases h with⟨o,h⟩|⟨n,bB,e',k1,k2,rfl⟩
 .exact(hw.wx.ro b o h).2 id ob e h1 h2 h3
 .have⟨e2,o,q1,q2,q3,q4,q5⟩:=hw.wx.xo n bB k1;rw[k2]at q1;cases q1;exact q5 id ob e h1 h2 h3
theorem WR.aid{φ base H w}(hw:WR φ base H w){b}(h:J5 φ H b):b<w.heap.size:=by
 rcases h with⟨o,h⟩|⟨n,bB,e',k1,k2,rfl⟩
 .exact(MS.1 (hw.wx.ro b o h).1.2).1
 .have⟨e2,o,q1,q2,_⟩:=hw.wx.xo n bB k1;rw[k2]at q1;cases q1;exact(MS.1 q2.2).1
theorem WR.se{φ aQ base H H' w w'}(hw:WR φ base H w)(hr:aQ.ro=φ.ro)(hx:aQ.xs=φ.xs)(hX:H'.x=H.x)(hh:∀b,J5 φ H b->w'.heap[b]? =w.heap[b]?)(hs:∀id ob e,H'.bf id=some ob->ob.aR=true->aQ id=some e->(∃j dV e0,H.bf j=some dV/\dV.aR=true/\φ j=some e0/\e0.b=e.b)\/w.heap.size<=e.b):
 WX aQ base H' w':=by
 have hpu:aQ.pu=φ.pu:=by unfold cj.pu;rw[hr,hx]
 have cE:∀b,J5 φ H b->∀id ob e,H'.bf id=some ob->ob.aR=true->aQ id=some e->e.b≠b:=by
  intro b hb id ob e k1 k2 k3 fp;rcases hs id ob e k1 k2 k3 with⟨j,dV,e0,q1,q2,q3,q4⟩|q
  .exact hw.Zg hb q1 q2 q3 (q4.trans fp)
  .have:=hw.aid hb;omega
 refine⟨λb o hb=>?_,λn ob h=>?_,λn n' ob bB e e' h1 h2 h3 h4=>?_,λX h n e h1=>?_⟩
 .rw[hr]at hb;have⟨⟨h1,h2⟩,h3⟩:=hw.ro b o hb;exact⟨⟨h1,(hh b (.inl ⟨o,hb⟩)).trans h2⟩,cE b (.inl ⟨o,hb⟩)⟩
 .rw[tw hX]at h;have⟨e,o,q1,q2,q3,q4,q5⟩:=hw.wx.xo n ob h;have hk:J5 φ H e.b:=.inr ⟨n,ob,e,h,q1,rfl⟩;refine⟨e,o,by rw[hx];exact q1,⟨q2.1,(hh _ hk).trans q2.2⟩,by rw[hpu];exact q3,by rw[hr];exact q4,cE _ hk⟩
 .rw[tw hX]at h1 h2;rw[hx]at h3 h4;exact hw.wx.xi n n' ob bB e e' h1 h2 h3 h4
 .rw[hX]at h;rw[hx]at h1;exact hw.wx.xl X h n e h1
def nP(φ:cj)(ρ:Operand->Option AV)(ev:Operand->Value)(l:List Operand):Prop:=∀x∈l,∀a,ρ x=some a->VR φ a (ev x)
theorem nP.of{φ ρ ev l}(h:nP φ ρ ev l){x}(hx:x∈l){a}(ha:ρ x=some a):VR φ a (ev x):=h x hx a ha
theorem nP.pC{φ ρ ev l l'}(h:nP φ ρ ev l)(hs:∀x∈l',x∈l):nP φ ρ ev l':=λx hx=>h x (hs x hx)
theorem AZ{φ ρ ev}:∀{l as},nP φ ρ ev l->uN ρ l=some as->bp φ as (l.map ev)
 |[],as,_,h=>by simp[uN]at h;subst h;exact lK
 |x::l,as,hr,h=>by
  simp only[uN]at h;split at h
  .cases h
  next a ha=>
   split at h
   .cases h
   next qh Ll=>cases h;exact qg.2 ⟨hr x (by simp) a ha,AZ (hr.pC (λy hy=>by simp[hy])) Ll⟩
theorem avc{φ ρ ev x r}(hr:nP φ ρ ev x.toList)(h:rp ρ x=some r):
 (r=none/\x.map ev=none)\/(∃a v,r=some a/\x.map ev=some v/\VR φ a v):=by
 cases x with
 |none=>simp[rp]at h;subst h;exact .inl ⟨rfl,rfl⟩
 |some x=>
  simp only[rp]at h;cases hx:ρ x with
  |none=>simp[hx]at h
  |some a=>simp[hx]at h;subst h;exact .inr ⟨a,ev x,rfl,rfl,hr x (by simp) a hx⟩
section avZ
variable{P:Program}{φ:cj}{base:fv}{H:AH}{w:World}
theorem WR.NB(hw:WR φ base H w){id vs e}(h:H.p9 id=some vs)(he:φ id=some e):
 ∃cs el,w.heap[e.b]? =some (.cells cs el (0,0))/\cs.size=e.n/\e.o+vs.length<=e.n/\bp φ vs ((cs.toList.drop e.o).take vs.length)/\vs.all AV.cX=true:=by
 unfold AH.p9 at h;split at h;next ho=>cases h;have⟨o,h1,h2⟩:=hw.ew id _ e ho he;obtain⟨cs,el,rfl,h3⟩:=h2;exact⟨cs,el,h1,h3⟩
 next ho=>cases h;have⟨o,h1,h2⟩:=hw.ew id _ e ho he;obtain⟨cs,el,rfl,h3,h4,h5,h6⟩:=h2;exact⟨cs,el,h1,h3,h4,bp.kI (dv.vJ φ) _ _ h5,h6⟩
 next ho=>cases h;have⟨o,h1,h2⟩:=hw.ew id _ e ho he;obtain⟨cs,el,rfl,h3,h4,h5,h6⟩:=h2;exact⟨cs,el,h1,h3,h4,bp.kI (dv.vJ φ) _ _ h5,h6⟩
 .cases h
theorem CN{l r off n}(h:oi l off n=some r):r=(l.drop off).take n/\r.length=n:=by
 unfold oi at h;simp only at h;cases hb:Nat.beq ((l.drop off).take n).length n
 .rw[hb]at h;cases h
 .rw[hb]at h;cases h;exact⟨rfl,dG hb⟩
theorem ZM{r v}(h:r.map AV.ah=some v):∃l,r=some l/\v=.ah l:=by
 cases r with
 |none=>cases h
 |some l=>cases h;exact⟨l,rfl,rfl⟩
theorem RZ{t cs cs' off v}(hc:bp φ cs cs'.toList)(h:cw P t cs off=some v)(w):
 ∃v',(part t cs' off).run P w=.ok v' w/\VR φ v v':=by
 unfold cw at h;split at h;next ha=>
  split at h;next s hs=>
   obtain⟨l,hl,rfl⟩:=ZM h;obtain⟨rfl,bS⟩:=CN hl;refine⟨.agg (cs'.extract off (off+s)),?_,?_⟩
   .simp[part,EY ha w,jE hs w]
   .refine⟨_,rfl,?_⟩;have:=(hc.xM off).xN s;have e:(cs'.extract off (off+s)).toList=(cs'.toList.drop off).take s:=by simp
    rw[e];exact this
  .cases h
 next ha=>
  have⟨v',h1,h2⟩:=hc.get h;refine⟨v',?_,h2⟩;have h3:cs'[off]? =some v':=by simpa using h1
  simp[part,EY ha w,h3]
 .cases h
theorem FC{b o n cs el fz}(hg:w.heap[b]? =some (.cells cs el fz))(h:o+n<=cs.size):
 (loadCells ⟨b,o,none⟩ n).run P w=.ok ((cs.toList.drop o).take n).toArray w:=by
 have hl:((cs.toList.drop o).take n).length=n:=by simp;omega
 have:=run_loadCells_list (P:=P) w ⟨b,o,none⟩ ((cs.toList.drop o).take n) (λj v hv=>by
  have Lj:(⟨b,o,none⟩:Addr).add j=⟨b,o+j,none⟩:=by unfold Addr.add;split<;>simp_all
  rw[Lj,cell_of_row w b (o+j) cs el fz hg];have hj:j<n:=by
   rcases Fy j n with h1|h1
   .exact h1
   .rw[Ay (by simp;omega)]at hv;cases hv
  rw[xh hj,tf]at hv;simpa using hv)
 rwa[hl]at this
theorem aiC{t vs cs el off v}{e:PE}(hg:w.heap[e.b]? =some (.cells cs el (0,0)))(cv:cs.size=e.n)(cu:e.o+vs.length<=e.n)(hv:bp φ vs ((cs.toList.drop e.o).take vs.length))(h:cw P t vs off=some v):
 ∃v',(loadVar t ⟨e.b,e.o+off,none⟩).run P w=.ok v' w/\VR φ v v':=by
 unfold cw at h;split at h;next ha=>
  split at h;next s hs=>
   obtain⟨l,hl,rfl⟩:=ZM h;obtain⟨rfl,bS⟩:=CN hl;by_cases hs0:s=0
   .subst hs0;refine⟨.agg #[],?_,?_⟩
    .simp[loadVar,EY ha w,jE hs w,loadCells,loadCellsFrom]
    .refine⟨#[],rfl,?_⟩;simp[bp]
   .have iK:off+s<=vs.length:=by simp at bS;omega
    refine⟨.agg ((cs.toList.drop (e.o+off)).take s).toArray,?_,?_⟩
    .simp[loadVar,EY ha w,jE hs w,FC hg (show e.o+off+s<=cs.size by omega)]
    .refine⟨_,rfl,?_⟩;have h2:=(hv.xM off).xN s;have e2:(((cs.toList.drop e.o).take vs.length).drop off).take s=(cs.toList.drop (e.o+off)).take s:=by rw[yV,xk,Az];congr 1;omega
     rw[e2]at h2;simpa using h2
  .cases h
 next ha=>
  have⟨v',h2,h3⟩:=hv.get h;have ax:off<vs.length:=by
   rcases Fy off vs.length with h|h'
   .exact h
   .rw[Ay h']at h;cases h
  rw[xh ax,tf]at h2;refine⟨v',?_,h3⟩;have HK:w.cell? ⟨e.b,e.o+off,none⟩=some v':=by rw[cell_of_row w e.b (e.o+off) cs el (0,0) hg];simpa using h2
  simp[loadVar,EY ha w,HK]
 .cases h
theorem ZA(hw:WR φ base H w){t id off v e}(h:s9 P H t id off=some v)(he:φ id=some e):
 ∃v',(loadVar t ⟨e.b,e.o+off,none⟩).run P w=.ok v' w/\VR φ v v':=by
 unfold s9 at h;split at h
 .cases h
 next vs jA=>have⟨cs,el,hg,cv,cu,hv,h1⟩:=hw.NB jA he;exact aiC hg cv cu hv h
theorem WR.x_(hw:WR φ base H w){n vs e}(h:x_ (H.hJ n)=some vs)(he:φ.xs n=some e):
 ∃cs el,w.heap[e.b]? =some (.cells cs el (0,0))/\cs.size=e.n/\e.o+vs.length<=e.n/\bp φ.pu vs ((cs.toList.drop e.o).take vs.length)/\vs.all AV.cX=true:=by
 unfold Go.Ev.x_ at h;split at h;next ho=>cases h;have⟨e',o,h1,h2,h3,_⟩:=hw.wx.xo n _ ho;rw[he]at h1;cases h1;obtain⟨cs,el,rfl,h4,h5,h6,h7⟩:=h3;exact⟨cs,el,h2.2,h4,h5,h6,h7⟩
 next ho=>cases h;have⟨e',o,h1,h2,h3,_⟩:=hw.wx.xo n _ ho;rw[he]at h1;cases h1;obtain⟨cs,el,rfl,h4,h5,h6,h7⟩:=h3;exact⟨cs,el,h2.2,h4,h5,h6,h7⟩
 .cases h
theorem auf(hw:WR φ base H w){t n off v e}(h:Ma P H t n off=some v)(he:φ.xs n=some e):
 ∃v',(loadVar t ⟨e.b,e.o+off,none⟩).run P w=.ok v' w/\VR φ v v':=by
 unfold Ma at h;split at h
 .cases h
 next vs jA=>have⟨cs,el,hg,cv,cu,hv,h1⟩:=hw.x_ jA he;exact aiC hg cv cu (bp.kI (dv.vJ φ) _ _ hv) h
theorem aue{t cs b x eA el fz v}(h:cw P t cs 0=some v)(hg:w.heap[b]? =some (.cells eA el fz))(cv:x+cs.length<=eA.size)(hc:bp φ cs ((eA.toList.drop x).take cs.length)):∃v',(loadVar t ⟨b,x,none⟩).run P w=.ok v' w/\VR φ v v':=by
 unfold cw at h;split at h;next ha=>
  split at h;next s hs=>
   obtain⟨l,hl,rfl⟩:=ZM h;obtain⟨rfl,bS⟩:=CN hl;have iK:s<=cs.length:=by simp at bS;omega
   refine⟨.agg ((eA.toList.drop x).take s).toArray,?_,?_⟩
   .simp[loadVar,EY ha w,jE hs w,FC hg (show x+s<=eA.size by omega)]
   .refine⟨_,rfl,?_⟩;have h2:=hc.xN s;rw[Az,MU iK]at h2;simpa using h2
  .cases h
 next ha=>
  have⟨v',h2,h3⟩:=hc.get h;have ax:0<cs.length:=by
   rcases Fy 0 cs.length with h|h'
   .exact h
   .rw[Ay h']at h;cases h
  rw[xh ax,tf]at h2;refine⟨v',?_,h3⟩;have HK:w.cell? ⟨b,x,none⟩=some v':=by rw[cell_of_row w b x eA el fz hg];simpa using h2
  simp[loadVar,EY ha w,HK]
 .cases h
end avZ
theorem mu:∀l m,bW l m=decide (l=m)
 |[],[]=>by simp[bW]
 |[],_::_=>by simp[bW]
 |_::_,[]=>by simp[bW]
 |a::l,b::m=>by rw[bW,Tr.s_,Tr.A0,mu l m];by_cases h:a=b<;>simp[h]
theorem abC{a b}(h:du a=du b):a=b:=by obtain⟨⟨x⟩⟩:=a;obtain⟨⟨y⟩⟩:=b;simp only[du]at h;have:x=y:=List.map_inj_right (λu v e=>UInt8.toNat_inj.1 e)|>.1 h;rw[this]
theorem y7(b):(du b).length=b.size:=by simp[du]
theorem aCs(a b):du (a++b)=du a++du b:=by simp[du]
theorem al7(a b):(a.toList==b.toList)=decide (du a=du b):=by
 rw[ByteArray.toList_eq,ByteArray.toList_eq];by_cases h:du a=du b
 .have:=abC h;subst this;simp
 .have:a.data≠b.data:=λe=>h (by simp only[du,e])
  simp[h,this]
theorem aiv:∀l m,Op.bytesLess l m=kg (l.map UInt8.toNat) (m.map UInt8.toNat)
 |l,[]=>by cases l<;>simp[Op.bytesLess,kg]
 |[],_::_=>by simp[Op.bytesLess,kg]
 |a::l,b::m=>by
  simp only[Op.bytesLess,gR,kg];rw[aiv l m];have h1:Nat.ble (a.toNat+1) b.toNat=decide (a<b):=by rw[rC];simp[UInt8.lt_iff_toNat_lt];omega
  have h2:Nat.beq a.toNat b.toNat=decide (a=b):=by rw[Tr.s_];simp[UInt8.toNat_inj]
  rw[h1,h2];by_cases h:a<b
  .simp[h]
  .by_cases e:a=b<;>simp[h,e]
theorem aoP(a b):Op.bytesLess a.toList b.toList=kg (du a) (du b):=by rw[ByteArray.toList_eq,ByteArray.toList_eq,aiv];rfl
section
variable{P:Program}{φ:cj}{base:fv}{H:AH}{w:World}
theorem ao9{op a b v}(h:Wb op (du a) (du b)=some v)(w):
 ∃v',(Op.stringOp op a b).run P w=.ok v' w/\VR φ v v':=by
 unfold Wb at h;split at h
 .cases hb:Nat.ble ((du a).length+(du b).length) 1000000
  .rw[hb]at h;cases h
  .rw[hb]at h;cases h;refine⟨.string (a++b),?_,⟨_,rfl,aCs a b⟩⟩;have cu:=ph hb;rw[y7,y7]at cu;have:¬(((a.size+b.size:Nat):Int)>IntKind.i64.max):=by
    have:IntKind.i64.max=9223372036854775807:=by rfl
    rw[this];omega
   simp only[Op.stringOp,az this,Sem.run_pure]
 all_goals first
  |(cases h
    refine⟨_,rfl,?_⟩;simp only[VR,aoP,al7,mu];try simp
    done)
  |(cases h;done)
set_option maxHeartbeats 1000000 in
theorem RG{len r}(h:yO len=some r):len≠0/\r=false:=by
 unfold yO at h;cases hb:Nat.beq len 0 with
 |true=>rw[hb]at h;cases h
 |false=>rw[hb]at h;cases h;exact⟨(λe=>by rw[e]at hb;cases hb),rfl⟩
set_option maxHeartbeats 1000000 in
theorem WW:∀d t x y r vx vy,ik P d t x y=some r->VR φ x vx->VR φ y vy->∀D,d<=D->∀w,(Op.equalIn D t vx vy).run P w=.ok r w:=by
 intro d;induction d with
 |zero=>intro t x y r vx vy h;simp[ik]at h
 |succ d ih=>
  intro t x y r vx vy h hx hy D hD w;obtain⟨D,rfl⟩:∃D',D=D'+1:=⟨D-1,by omega⟩;simp only[ik]at h;split at h;case h_22=>
   rename_i fQ xs ys hu;obtain⟨xs',rfl,LU⟩:=hx;obtain⟨rK,rfl,hys⟩:=hy;cases fJ:P.stoodInHeld t;case true=>rw[fJ]at h;cases h
   rw[fJ]at h;simp only[cond_false]at h;have hf:P.fieldsOf t=fQ:=by simp[Program.fieldsOf,hu]
   rw[run_equalIn_struct w D t xs' rK (by rw[hf];exact hu) fJ,hf];generalize fQ.toList=fs at h;clear hu hf;induction fs generalizing w with
   |nil=>simp[ik.Dr]at h;subst h;simp[Op.eqFields]
   |cons f fs ihf=>
    simp only[ik.Dr]at h;split at h
    .cases h
    next hn=>
     split at h;next a b ha hb=>
      obtain⟨va,h1,h2⟩:=RZ LU ha w;obtain⟨vb,h3,h4⟩:=RZ hys hb w;simp only[Op.eqFields];rw[aO hn];simp only[Sem.run_bind,h1,h3,Result.andThen_ok];split at h;next he=>rw[ih _ _ _ _ _ _ he h2 h4 D (by omega) w];simp only[Result.andThen_ok];exact ihf w h
      next he=>rw[ih _ _ _ _ _ _ he h2 h4 D (by omega) w];cases h;simp
      .cases h
     .cases h
  case h_21=>
   rename_i ms tx va ty vb hu;obtain⟨va',rfl,h1⟩:=hx;obtain⟨vb',rfl,h2⟩:=hy;cases hb:Nat.beq tx ty
   .rw[hb]at h;cases h;have:tx≠ty:=by intro e;subst e;simp at hb
    simp[Op.equalIn,run_underlying hu w,this]
   .rw[hb]at h;have:tx=ty:=dG hb;subst this;simp only[cond_true]at h;split at h;next i hi=>
     cases hc:i.comparable
     .rw[hc]at h;cases h
     .rw[hc]at h;simp only[cond_true]at h;simp[Op.equalIn,run_underlying hu w,run_typeInfo w hi,hc,ih _ _ _ _ _ _ h h1 h2 D (by omega) w]
    .cases h
  all_goals
   try (cases h;done)
  all_goals
   simp only[VR]at hx hy
  all_goals rename_i hu
  case h_2=>
   subst hx hy;split at h;next hk=>subst hk;cases h;simp[Op.equalIn,run_underlying hu w]
   .cases h
  case h_3=>obtain⟨a,rfl,rfl⟩:=hx;obtain⟨b,rfl,rfl⟩:=hy;cases h;rw[run_equalIn_string w D t a b hu,al7,mu]
  case h_23=>
   subst hx;obtain⟨a,c,rfl,_,h4⟩:=hy;obtain⟨h0,rfl⟩:=RG h;rcases h4 with h4|⟨b,x,_,_,_,rfl,_⟩
   .exact absurd h4 h0
   .simp[Op.equalIn,run_underlying hu w]
  case h_24=>
   subst hy;obtain⟨a,c,rfl,_,h4⟩:=hx;obtain⟨h0,rfl⟩:=RG h;rcases h4 with h4|⟨b,x,_,_,_,rfl,_⟩
   .exact absurd h4 h0
   .simp[Op.equalIn,run_underlying hu w]
  case h_25=>
   subst hx;obtain⟨h0,rfl⟩:=RG h;rcases hy with⟨h4,_⟩|⟨e,x,c,_,rfl,_⟩
   .exact absurd h4 h0
   .simp[Op.equalIn,run_underlying hu w]
  case h_26=>
   subst hy;obtain⟨h0,rfl⟩:=RG h;rcases hx with⟨h4,_⟩|⟨e,x,c,_,rfl,_⟩
   .exact absurd h4 h0
   .simp[Op.equalIn,run_underlying hu w]
  case h_27=>
   subst hx;rcases hy with⟨rfl,rfl⟩|⟨e,x,c,_,rfl,_,_,_,h5⟩
   .cases h;simp[Op.equalIn,run_underlying hu w]
   .rw[show Nat.beq _ 0=false from by rw[qE,Ne,Nat.beq_eq];exact h5]at h;cases h;simp[Op.equalIn,run_underlying hu w]
  case h_28=>
   subst hy;rcases hx with⟨rfl,rfl⟩|⟨e,x,c,_,rfl,_,_,_,h5⟩
   .cases h;simp[Op.equalIn,run_underlying hu w]
   .rw[show Nat.beq _ 0=false from by rw[qE,Ne,Nat.beq_eq];exact h5]at h;cases h;simp[Op.equalIn,run_underlying hu w]
  all_goals cases h
  all_goals first
   |(subst hx hy;simp[Op.equalIn,run_underlying hu w];done)
   |(obtain⟨_,_,rfl⟩:=hx;subst hy;simp[Op.equalIn,run_underlying hu w];done)
   |(obtain⟨_,_,rfl⟩:=hy;subst hx;simp[Op.equalIn,run_underlying hu w];done)
   |(obtain⟨_,_,_,rfl,_⟩:=hx;subst hy;simp[Op.equalIn,run_underlying hu w];done)
   |(obtain⟨_,_,_,rfl,_⟩:=hy;subst hx;simp[Op.equalIn,run_underlying hu w];done)
   |(obtain⟨_,_,_,_,rfl,_⟩:=hx;subst hy;simp[Op.equalIn,run_underlying hu w];done)
   |(obtain⟨_,_,_,_,rfl,_⟩:=hy;subst hx;simp[Op.equalIn,run_underlying hu w];done)
   |(obtain⟨_,_,rfl,_⟩:=hx;subst hy;simp[Op.equalIn,run_underlying hu w];done)
   |(obtain⟨_,_,rfl,_⟩:=hy;subst hx;simp[Op.equalIn,run_underlying hu w];done)
   |(obtain⟨_,rfl,_⟩:=hx;subst hy;simp[Op.equalIn,run_underlying hu w];done)
   |(obtain⟨_,rfl,_⟩:=hy;subst hx;simp[Op.equalIn,run_underlying hu w];done)
end
section
variable{P:Program}{φ:cj}{base:fv}{H:AH}{w:World}
theorem aq6(l):∀(k off) (cs:Array Value),off+k+l.length<=cs.size->
 ((l.zipIdx k).foldl (λcs (c,j)=>cs.setIfInBounds (off+j) c) cs).toList=cs.toList.take (off+k)++(l++cs.toList.drop (off+k+l.length)):=by
 induction l with
 |nil=>intro k off cs h;simp
 |cons v l ih=>
  intro k off cs h;simp at h;rw[List.zipIdx_cons,rz,ih (k+1) off _ (by simp;omega)];apply Sk;intro i;simp only[Array.toList_setIfInBounds,List.getElem?_append,vN,List.length_set,Array.length_toList,Ft,List.getElem?_set,tf,ej];by_cases h1:i<off+k
  .have h2:i<off+(k+1):=by omega
   have h3:¬(off+k=i):=by omega
   simp[h1,h2,h3,show min (off+(k+1)) cs.size=off+(k+1)by omega,show min (off+k) cs.size=off+k by omega]
  .by_cases h2:i=off+k
   .subst h2;simp[show min (off+(k+1)) cs.size=off+(k+1)by omega,show min (off+k) cs.size=off+k by omega,show off+k<off+(k+1)by omega,show off+k<cs.size by omega]
   .have h3:¬i<off+(k+1):=by omega
    obtain⟨j,rfl⟩:∃j,i=off+k+1+j:=⟨i-(off+k+1),by omega⟩;simp only[show min (off+(k+1)) cs.size=off+(k+1)by omega,show min (off+k) cs.size=off+k by omega,az h1,az h3];have e1:off+k+1+j-(off+(k+1))=j:=by omega
    have e2:off+k+1+j-(off+k)=j+1:=by omega
    rw[e1,e2];simp;by_cases h4:j<l.length
    .simp[h4]
    .simp only[az h4,show¬(j+1<l.length+1)by omega,if_false];have e3:off+(k+1)+l.length+(j-l.length)=off+k+(l.length+1)+(j+1-(l.length+1)):=by omega
     rw[e3];simp;intro e;omega
theorem XP:∀n l,ag2 n l=Nat.ble n l.length
 |0,_=>rfl
 |_+1,[]=>rfl
 |n+1,_::l=>(XP n l).trans rfl
theorem Sc{l cs r off}(h:xe l off cs=some r):off+cs.length<=l.length/\r=l.take off++(cs++l.drop (off+cs.length)):=by
 unfold xe at h;rw[XP]at h;cases hb:Nat.ble (off+cs.length) l.length
 .rw[hb]at h;cases h
 .rw[hb]at h;cases h;exact⟨ph hb,rfl⟩
theorem bp.put{l cs l' cs' off}(hl:bp φ l l')(hc:bp φ cs cs'):bp φ (l.take off++(cs++l.drop (off+cs.length))) (l'.take off++(cs'++l'.drop (off+cs'.length))):=by rw[<-hc.jf];exact(hl.xN off).wi (hc.wi (hl.xM _))
def OA(φ:cj)(ps:List (Nat×AV))(r_:List (Nat×Value)):Prop:=ps.map (·.1)=r_.map (·.1)/\bp φ (ps.map (·.2)) (r_.map (·.2))
theorem OO{ρ ev}:∀{l ps},nP φ ρ ev (l.map (·.2))->Gu ρ l=some ps->OA φ ps (l.map λp=>(p.1,ev p.2))
 |[],ps,_,h=>by simp[Gu]at h;subst h;exact⟨rfl,lK⟩
 |(i,x)::l,ps,hr,h=>by
  simp only[Gu]at h;split at h
  .cases h
  next a ha=>
   split at h
   .cases h
   next as Ll=>cases h;have h1:=OO (hr.pC (λy hy=>by simp only[gR,dm];exact .inr hy)) Ll;exact⟨by simp[h1.1],qg.2 ⟨hr x (by simp) a ha,h1.2⟩⟩
theorem PM{pl}:∀{ps r_ cs r cs'},OA φ ps r_->bp φ cs cs'.toList->zN pl cs ps=some r->
 ∃r',Instr.fill pl cs' r_=some r'/\bp φ r r'.toList
 |[],r_,cs,r,cs',hp,hc,h=>by
  have:r_=[]:=by have:=hp.1;simpa using this.symm
  subst this;cases h;exact⟨cs',rfl,hc⟩
 |(i,v)::ps,[],_,_,_,hp,_,_=>by have:=hp.1;simp at this
 |(i,v)::ps,(i',v')::r_,cs,r,cs',hp,hc,h=>by
  have⟨h1,h2⟩:=hp;simp at h1;obtain⟨rfl,h1⟩:=h1;simp at h2;have⟨hv,h2⟩:=qg.1 h2;simp only[zN]at h;split at h
  .cases h
  next off size kP=>
   cases hb:Nat.beq v.dK.length size
   .rw[hb]at h;cases h
   .rw[hb]at h;simp at h;have cv:=dG hb;split at h
    .cases h
    next zA LD=>
     obtain⟨cu,rfl⟩:=Sc LD;have hcv:=AV.sA hv;have mB:=hcv.jf;have h_:=hc.jf;have Qz:=aq6 v'.cells.toList 0 off cs' (by simp at mB h_⊢;omega);simp at Qz;have Yx:=bp.put (off:=off) hc hcv;have⟨r',h3,h4⟩:=PM (cs':=v'.cells.zipIdx.foldl (λcs (c,j)=>cs.setIfInBounds (off+j) c) cs') ⟨h1,h2⟩ (by rw[<-Array.foldl_toList,Array.toList_zipIdx,Qz];exact Yx) h;refine⟨r',?_,h4⟩;simp only[Instr.fill,kP];have Qt:¬(v'.cells.size≠size):=by simp at mB;omega
     have qs:¬(off+v'.cells.size>cs'.size):=by simp at mB h_;omega
     simpa[Qt,qs]using h3
theorem avs{fQ pl}(h:aj0 P fQ=some pl)(w):
 (fQ.mapM λf=>do pure (f.offset,<-sizeOf f.type):Sem _).run P w=.ok pl.toArray w:=by
 rw[Array.mapM_eq_mapM_toList,Sem.run_map];have:∀(fs:List Field) (pl:List (Nat×Nat)),(fs.mapM λf=>(cU P f.type).map λs=>(f.offset,s))=some pl->((fs.mapM λf=>do pure (f.offset,<-sizeOf f.type):Sem _)).run P w=.ok pl w:=by
  intro fs;induction fs with
  |nil=>intro pl h;simp at h;subst h;simp
  |cons f fs ih=>
   intro pl h;rw[List.mapM_cons]at h⊢;cases hs:cU P f.type with
   |none=>simp[hs]at h
   |some s=>
    simp only[hs,qC,Option.bind_eq_bind,qD]at h;cases hm:(fs.mapM λf=>(cU P f.type).map λs=>(f.offset,s))with
    |none=>simp[hm]at h
    |some pl'=>simp[hm]at h;subst h;have:=ih _ hm;simp[jE hs w]at this⊢;simp[this]
 rw[this _ _ h];rfl
end
section
variable{P:Program}{φ:cj}{base:fv}{H:AH}{w:World}
theorem ajG{v a}(h:RJ v=some a):VR φ a v:=by unfold RJ at h;split at h<;>first|(cases h;simp[VR];done)|cases h
theorem aqM{op t a b v va vb}(ha:VR φ a va)(hb:VR φ b vb)(h:Bi P op t a b=some v)(w):
 ∃r,(Op.equal t va vb).run P w=.ok r w/\((op=.eql/\v=.ao r)\/(op=.neq/\v=.ao (!r))):=by
 unfold Bi at h;split at h
 .cases he:ik P 100 t a b with
  |none=>simp[he]at h
  |some r=>simp[he]at h;exact⟨r,WW 100 t a b r va vb he ha hb Op.maxDepth (by simp[Op.maxDepth]) w,.inl ⟨rfl,h.symm⟩⟩
 .cases he:ik P 100 t a b with
  |none=>simp[he]at h
  |some r=>simp[he]at h;exact⟨r,WW 100 t a b r va vb he ha hb Op.maxDepth (by simp[Op.maxDepth]) w,.inr ⟨rfl,h.symm⟩⟩
 .cases h
inductive xR:Nat->Value->Prop
 |bool (b:Bool):xR 0 (.bool b)
 |aa (a:Option Addr):xR 1 (.pointer a)
 |slice (a:Option Addr) (n c:Nat):xR 2 (.slice a n c)
 |map (a:Option Nat):xR 3 (.map a)
 |func (fn:Fn) (f c:Array Value):xR 4 (.func fn f c)
 |nilFunc:xR 4 .nilFunc
 |iface (t:TypeId) (v:Value):xR 5 (.iface t v)
 |nilIface:xR 5 .nilIface
 |agg (cs:Array Value):xR 6 (.agg cs)
theorem PX{a v}(h:VR φ a v)(hk:oB a≠9):xR (oB a) v:=by
 cases a<;>simp only[VR]at h;all_goals first
  |(subst h;constructor;done)
  |(obtain⟨_,_,rfl⟩:=h;constructor;done)
  |(obtain⟨_,rfl,_⟩:=h;constructor;done)
  |(obtain⟨_,_,rfl,_⟩:=h;constructor;done)
  |(obtain⟨_,_,_,rfl,_⟩:=h;constructor;done)
  |(obtain⟨_,_,_,_,rfl,_⟩:=h;constructor;done)
  |(exact absurd rfl hk)
  |(rcases h with⟨_,rfl⟩|⟨_,_,_,_,rfl,_⟩<;>constructor)
theorem aqK{op t x y a b va vb}(ha:VR φ a va)(hb:VR φ b vb)(hk:oB a=oB b)(h9:oB a≠9)(hg:Bz P t x y a b=true)(w):
 (eqGuard op t x y va vb).run P w=.ok () w:=by
 have fa:=PX ha h9;have fb:=PX hb (hk▸h9);have h9b:=hk▸h9;rw[<-hk]at fb;generalize oB a=n at fa fb;cases fa<;>cases fb;case nilIface.nilIface=>
  have ea:a=.lq:=by cases a<;>simp[VR]at ha<;>first|rfl|exact absurd rfl h9
  have eb:b=.lq:=by cases b<;>simp[VR]at hb<;>first|rfl|exact absurd rfl h9b
  subst ea eb;cases op<;>cases x<;>cases y<;>simp[Bz,s7]at hg<;>simp[eqGuard]
 case agg.agg=>
  have ea:∃l,a=.ah l:=by cases a<;>simp[VR]at ha<;>first|exact⟨_,rfl⟩|exact absurd rfl h9
  have eb:∃l,b=.ah l:=by cases b<;>simp[VR]at hb<;>first|exact⟨_,rfl⟩|exact absurd rfl h9b
  obtain⟨l,rfl⟩:=ea;obtain⟨m,rfl⟩:=eb;exact run_eqGuard_agg w op t x y _ _ (by simpa[Bz]using hg)
 all_goals cases op<;>simp[eqGuard]
theorem aoz{op t a b v va vb}(ha:VR φ a va)(hb:VR φ b vb)(hk:oB a=oB b)(h9:oB a≠9){r}(w)(hr:(Op.equal t va vb).run P w=.ok r w)(hv:(op=.eql/\v=.ao r)\/(op=.neq/\v=.ao (!r))):
 (Go.binOp op t va vb).run P w=.ok (match op with|.eql=>.bool r|_=>.bool (!r)) w/\VR φ v (match op with|.eql=>.bool r|_=>.bool (!r)):=by
 have fa:=PX ha h9;have fb:=PX hb (hk▸h9);rw[<-hk]at fb;generalize oB a=n at fa fb;rcases hv with⟨rfl,rfl⟩|⟨rfl,rfl⟩
 .refine⟨?_,by simp[VR]⟩;cases fa<;>cases fb<;>simp only[Go.binOp]<;>simp[hr]
 .refine⟨?_,by simp[VR]⟩;cases fa<;>cases fb<;>simp only[Go.binOp]<;>simp[hr]
theorem aoy{op t x y a b v va vb}(ha:VR φ a va)(hb:VR φ b vb)(h:GD P op t x y a b=some v)(w):
 ∃v',(do eqGuard op t x y va vb;Go.binOp op t va vb:Sem Value).run P w=.ok v' w/\VR φ v v':=by
 unfold GD at h;split at h;next k m k' n=>
  subst ha hb;cases hp:Av P (Go.binOp op t (.int k m) (.int k' n))with
  |none=>simp[hp]at h
  |some v'=>
   simp only[hp,qD]at h;refine⟨v',?_,ajG h⟩;have hg:(eqGuard op t x y (.int k m) (.int k' n)).run P w=.ok () w:=by cases op<;>simp[eqGuard]
   simp[hg,aax hp w]
 next l m=>
  obtain⟨s,rfl,rfl⟩:=ha;obtain⟨s',rfl,rfl⟩:=hb;have⟨v',h1,h2⟩:=ao9 (P:=P) (φ:=φ) h w;refine⟨v',?_,h2⟩;have hg:(eqGuard op t x y (.string s) (.string s')).run P w=.ok () w:=by cases op<;>simp[eqGuard]
  simp only[Sem.run_bind,hg,Result.andThen_ok];have:Go.binOp op t (.string s) (.string s')=Op.stringOp op s s':=by cases op<;>rfl
  rw[this,h1]
 .cases hc:Nat.beq (oB a) (oB b)&& !Nat.beq (oB a) 9&&Bz P t x y a b
  .rw[hc]at h;cases h
  .rw[hc]at h;simp at h;simp only[dk,yT]at hc;have⟨⟨h1,h2⟩,h3⟩:=hc;have hk:=dG h1;have h9:oB a≠9:=by intro e;rw[e]at h2;simp at h2
   have⟨r,hr,hv⟩:=aqM ha hb h w;have:=aoz ha hb hk h9 w hr hv;exact⟨_,by simp only[Sem.run_bind,aqK ha hb hk h9 h3 w,Result.andThen_ok];exact this.1,this.2⟩
end
section
variable{P:Program}{φ:cj}{base:fv}{H:AH}{w:World}
theorem tb{α β:Type}{r}{f:α->β}{v}(h:r.map f=some v):∃a,r=some a/\f a=v:=by
 cases r with
 |none=>cases h
 |some a=>cases h;exact⟨a,rfl,rfl⟩
theorem ZS{a n v}(h:n8 a=some n)(ha:VR φ a v):∃k,v=.int k (n:Int):=by
 unfold n8 at h;split at h
 .cases h;simp at ha;exact⟨_,ha⟩
 .cases h
theorem D_(n):VR φ (uX n) (goInt n):=by simp[uX,goInt,VR]
def tF(φ:cj)(a:Option AV)(v:Option Value):Prop:=(a=none/\v=none)\/(∃x y,a=some x/\v=some y/\VR φ x y)
theorem abf{v k n y c}(hv:v=.int k (n:Int))(h:n<=y)(w):(Instr.sliceBound v y c).run P w=.ok n w:=by subst hv;simp[Instr.sliceBound,asIntOf,h]
theorem aak{a v}{n d y:Nat}{c:BoundsCode}(h:(match a with|some x=>n8 x|none=>some d)=some n)(hr:tF φ a v)(cu:n<=y)(w:World):
 (match v with|some x=>Instr.sliceBound x y c|none=>pure d:Sem Nat).run P w=.ok n w:=by
 rcases hr with⟨rfl,rfl⟩|⟨x,y,rfl,rfl,Aj⟩
 .simp at h;subst h;simp
 .obtain⟨k,rfl⟩:=ZS h Aj;exact abf rfl cu w
theorem SC{EZ lo hi ri ei l h len cap}(e1:(match hi with|some v=>n8 v|none=>some len)=some h)(e2:(match lo with|some v=>n8 v|none=>some 0)=some l)(hl:tF φ lo ri)(hh:tF φ hi ei)(h1:h<=cap)(h2:l<=h)(w):
 (Instr.sliceBounds EZ len cap ri ei none).run P w=.ok (l,h,cap) w:=by
 have nX:=λw=>aak (P:=P) (c:=.sliceB) e2 hl h2 w
 have pQ:=λw=>aak (P:=P) (c:=if EZ then .sliceAcap else .sliceAlen) e1 hh h1 w
 simp only[Instr.sliceBounds];cases ei<;>cases ri<;>simp at nX pQ⊢<;>simp[nX,pQ]
theorem abg{EZ m' lo ma ri h' ha l h m len cap}(e0:n8 ma=some m)(hm:VR φ ma m')(e1:n8 ha=some h)(hh:VR φ ha h')(e2:(match lo with|some v=>n8 v|none=>some 0)=some l)(hl:tF φ lo ri)(h0:m<=cap)(h1:h<=m)(h2:l<=h)(w):
 (Instr.sliceBounds EZ len cap ri (some h') (some m')).run P w=.ok (l,h,m) w:=by
 have nX:=λw=>aak (P:=P) (c:=.slice3C) e2 hl h2 w
 obtain⟨k,rfl⟩:=ZS e0 hm;obtain⟨k',rfl⟩:=ZS e1 hh;have b0:=λw=>abf (P:=P) (v:=.int k (m:Int)) (c:=if EZ then .slice3Acap else .slice3Alen) rfl h0 w
 have b1:=λw=>abf (P:=P) (v:=.int k' (h:Int)) (c:=.slice3B) rfl h1 w
 simp only[Instr.sliceBounds];cases ri<;>simp at nX⊢<;>simp[nX,b0,b1]
theorem azF{b lo hi ri ei v}(h:SD (du b) lo hi=some v)(hl:tF φ lo ri)(hh:tF φ hi ei)(w):
 ∃l h',(Instr.sliceBounds false b.size b.size ri ei none).run P w=.ok (l,h',b.size) w/\VR φ v (.string (b.extract l h')):=by
 unfold SD at h;split at h;next h' l e1 e2=>have⟨hb,h⟩:=dn h;cases h;simp at hb;rw[y7]at hb e1;refine⟨l,h',SC e1 e2 hl hh hb.1 hb.2 w,⟨_,rfl,?_⟩⟩;simp only[du,ByteArray.data_extract,Array.toList_extract,List.map_take,List.map_drop];rw[yV]
 .cases h
theorem MH{ρ ev x r}(hr:nP φ ρ ev x.toList)(h:rp ρ x=some r):tF φ r (x.map ev):=avc hr h
theorem xX(b o n):(⟨b,o,none⟩:Addr).add n=⟨b,o+n,none⟩:=by unfold Addr.add;split<;>simp_all
theorem abh{id off len cap sz x ex lo hi mx ri ei Mq v e c}(h:FH id off len cap sz ex lo hi mx=some v)(he:φ id=some e)(hx:c=0\/x=e.o+off)(bS:len<=c)(wH:ex=true->c=cap)(jI:e.o+off+c*sz<=e.n)(hl:tF φ lo ri)(hh:tF φ hi ei)(hm:tF φ mx Mq)(w EZ):
 ∃l h' m,(Instr.sliceBounds EZ len c ri ei Mq).run P w=.ok (l,h',m) w/\
  VR φ v (.slice (if m=l then some ⟨e.b,x,none⟩else some ((⟨e.b,x,none⟩:Addr).add (l*sz))) (h'-l) (m-l)):=by
 have key:∀{l h m:Nat} {WY:Bool} {uQ:Nat},l<=h->h<=m->m<=c->(WY=true->m-l=uQ)->
  VR φ (.bq id (off+l*sz) (h-l) uQ sz WY) (.slice (if m=l then some ⟨e.b,x,none⟩else some ((⟨e.b,x,none⟩:Addr).add (l*sz))) (h-l) (m-l)):=by
  intro l h m WY uQ h1 h2 h3 h4;have hr:e.o+(off+l*sz)+(m-l)*sz<=e.n:=by
   have e1:l*sz+(m-l)*sz=m*sz:=by rw[<-xp];congr 1;omega
   have e2:=Se sz h3;omega
  by_cases wL:m=l
  .exact⟨e,x,m-l,he,by rw[aO wL],.inl (by omega),by omega,h4,hr⟩
  .refine⟨e,x+l*sz,m-l,he,by rw[az wL,xX],.inr ?_,by omega,h4,hr⟩;rcases hx with hx|hx<;>omega
 unfold FH at h;split at h
 .rcases hm with⟨_,rfl⟩|⟨_,_,e1,_⟩
  case inr=>cases e1
  split at h;next h' l e1 e2=>
   have⟨hb,h⟩:=dn h;cases h;simp at hb;have hc:h'<=c:=by
    have:=hb.1;cases ex
    .simp at this;omega
    .rw[wH rfl];exact this
   refine⟨l,h',c,SC e1 e2 hl hh hc hb.2 w,key hb.2 hc (cM _) (λe=>by subst e;rw[wH rfl];rfl)⟩
  .cases h
 next m=>
  rcases hm with⟨e1,_⟩|⟨ma,mv,e1,rfl,BO⟩
  case inl=>cases e1
  cases e1;split at h;next m' h' l e0 e1 e2=>
   have⟨hb,h⟩:=dn h;cases h;simp at hb;have hc:m'<=c:=by
    have:=hb.1.1;cases ex
    .simp at this;omega
    .rw[wH rfl];exact this
   rcases hh with⟨rfl,rfl⟩|⟨ha,hv,rfl,rfl,hav⟩
   .cases e1
   .exact⟨l,h',m',abg e0 BO e1 hav e2 hl hc hb.1.2 hb.2 w,key hb.2 hb.1.2 hc (λ_=>rfl)⟩
  .cases h
theorem azG{len sz c cs a lo hi mx ri ei Mq v}(h:SE cs len sz lo hi mx=some v)(hx:VR φ (.ad cs len sz) (.slice a len c))(hl:tF φ lo ri)(hh:tF φ hi ei)(hm:tF φ mx Mq)(w):
 ∃l h' m,(Instr.sliceBounds true len c ri ei Mq).run P w=.ok (l,h',m) w/\VR φ v (.slice (if m=l then a else a.map (·.add (l*sz))) (h'-l) (m-l)):=by
 unfold SE at h;split at h
 .rcases hm with⟨_,rfl⟩|⟨_,_,e1,_⟩
  case inr=>cases e1
  split at h;next h' l e1 e2=>
   have⟨hb,h⟩:=dn h;cases h;simp at hb;have⟨a',c',e,bS,hd⟩:=hx;cases e;have hc:h'<=c:=by rcases hd with hd|⟨_,_,_,_,_,_,hd,_⟩<;>omega
   refine⟨l,h',c,SC e1 e2 hl hh hc hb.2 w,?_⟩;have m1:(h'-l)*sz+l*sz=h'*sz:=by rw[<-xp];congr 1;omega
   have m2:=Se sz hb.1;have H5:((cs.drop (l*sz)).take ((h'-l)*sz)).length=(h'-l)*sz:=by simp;omega
   refine⟨_,_,rfl,H5,?_⟩;by_cases h0:h'-l=0
   .exact .inl h0
   .right;rcases hd with hd|⟨b,x,eA,el,fz,rfl,nW,fS,cv,hv⟩
    .omega
    .refine⟨b,x+l*sz,eA,el,fz,?_,by omega,fS,by rw[H5];omega,?_⟩
     .rw[az (by omega)];simp[xX]
     .rw[H5];have h2:=(hv.xM (l*sz)).xN ((h'-l)*sz);have e3:(((eA.toList.drop x).take cs.length).drop (l*sz)).take ((h'-l)*sz)=(eA.toList.drop (x+l*sz)).take ((h'-l)*sz):=by rw[yV,xk,Az];congr 1;omega
      rw[e3]at h2;exact h2
  .cases h
 .cases h
theorem dI.Jx:∀{es ms},dI φ es ms->es.length=ms.length
 |[],_,h=>by simp only[dI]at h;subst h;rfl
 |(k,v,b)::es,_,h=>by obtain⟨m,ms,rfl,_,_,_,h⟩:=h;simp[dI.Jx h]
theorem at3(hw:WR φ base H w){x v n d t ts T vs}(hx:VR φ x v)(h:E' H x=some n)(hu:P.underlying t=some d)(j4:wV d x=true)(h0:ts[0]? =some t)(h1:vs[0]? =some v):
 (Builtin.len_ ts T vs).run P w=.ok (goInt n) w:=by
 cases x<;>simp only[E']at h;case ab s=>cases h;obtain⟨b,rfl,rfl⟩:=hx;cases d<;>simp[wV]at j4;simp[Builtin.len_,h0,h1,run_underlying hu w,y7]
 case bq=>cases h;obtain⟨e,y,c,_,rfl,_⟩:=hx;cases d<;>simp[wV]at j4;simp[Builtin.len_,h0,h1,run_underlying hu w]
 case ad=>cases h;obtain⟨a,c,rfl,_⟩:=hx;cases d<;>simp[wV]at j4;simp[Builtin.len_,h0,h1,run_underlying hu w]
 case ai=>cases h;cases d<;>simp[wV]at j4;rcases hx with⟨rfl,rfl⟩|⟨e,x,c,_,rfl,_⟩<;>simp[Builtin.len_,h0,h1,run_underlying hu w]
 case fF=>cases h;cases d<;>simp[wV]at j4;rcases hx with⟨rfl,rfl⟩|⟨e,x,c,_,rfl,_⟩<;>simp[Builtin.len_,h0,h1,run_underlying hu w]
 case qS=>cases h;obtain⟨a,rfl⟩:=hx;cases d<;>simp[wV]at j4;simp[Builtin.len_,h0,h1,run_underlying hu w]
 case aJ=>cases h;simp only[VR]at hx;subst hx;cases d<;>simp[wV]at j4;simp[Builtin.len_,h0,h1,run_underlying hu w]
 case mF=>cases h;simp only[VR]at hx;subst hx;cases d<;>simp[wV]at j4;simp[Builtin.len_,h0,h1,run_underlying hu w]
 case aA id=>
  split at h;next es clock p ho=>cases h;obtain⟨e,he,rfl⟩:=hx;obtain⟨o,h3,bF,rfl,h2,_⟩:=hw.ew _ _ e ho he;cases d<;>simp[wV]at j4;have:=h2.Jx;simp[Builtin.len_,h0,h1,run_underlying hu w,getObj,Sem.run,h3,this]
  .cases h
 all_goals cases h
end
section
variable{P:Program}{φ:cj}{base:fv}{H:AH}{w:World}{ρ:Operand->Option AV}{ev:Operand->Value}
def NV(φ:cj)(es:List (AV×AV×Nat))(ms:List MapEntry)(i:Nat):Option (Nat×AV×Nat)->Option (Nat×Value)->Prop
 |none,r'=>r'=none
 |some (j,v,b),r'=>∃m k,r'=some (j,m.val)/\i<=j/\es[j-i]? =some (k,v,b)/\ms[j-i]? =some m/\VR φ v m.val/\m.born=b
theorem dI.af1{eq k T vk}(XZ:∀y vy r,eq k y=some r->VR φ y vy->∀w,(Op.equal T vk vy).run P w=.ok r w):
 ∀{es ms i r},dI φ es ms->ou eq k es i=some r->∀w,
  ∃r',(Instr.findAsking T vk ms i).run P w=.ok r' w/\NV φ es ms i r r'
 |[],ms,i,r,he,h,w=>by simp only[dI]at he;subst he;simp only[ou]at h;cases h;exact⟨none,by simp[Instr.findAsking],rfl⟩
 |(x,v,b)::es,ms,i,r,he,h,w=>by
  obtain⟨m,ms,rfl,hk,hv,hb,he⟩:=he;simp only[ou]at h;split at h;next hq=>cases h;refine⟨some (i,m.val),?_,m,x,rfl,cM _,by simp,by simp,hv,hb⟩;simp[Instr.findAsking,XZ x m.key true hq hk w]
  next hq=>
   have⟨r',h1,h2⟩:=dI.af1 XZ he h w;refine⟨r',?_,?_⟩
   .simp[Instr.findAsking,XZ x m.key false hq hk w,h1]
   .cases r with
    |none=>exact h2
    |some r=>
     have⟨j,v',b'⟩:=r;have⟨m',k',e1,e2,e3,e4,e6,e5⟩:=h2;have:j-i=(j-(i+1))+1:=by omega
     exact⟨m',k',e1,by omega,by rw[this,Sd];exact e3,by rw[this,Sd];exact e4,e6,e5⟩
  .cases h
theorem ak7{d k y b T}(hd:P.underlying T=some d)(h:Instr.sameNow d k y=some b)(w):(Op.equal T k y).run P w=.ok b w:=by
 unfold Instr.sameNow at h;split at h
 .split at h;next e=>subst e;cases h;exact run_equalIn_int w 9999 T _ _ _ _ hd
  .cases h
 .cases h;rename_i a b;have:=run_equalIn_string w 9999 T a b hd;rw[<-beq_toListBytes]at this;exact this
 .cases h;exact run_equalIn_bool w 9999 T _ _ hd
 .cases h
theorem af3{d k T}(hd:P.underlying T=some d)(w):∀{ms i r},Instr.findNow d k ms i=some r->(Instr.findAsking T k ms i).run P w=.ok r w
 |[],i,r,h=>by simp[Instr.findNow]at h;subst h;simp[Instr.findAsking]
 |m::ms,i,r,h=>by
  simp only[Instr.findNow]at h;split at h;next hs=>cases h;simp[Instr.findAsking,ak7 hd hs w]
  next hs=>simp[Instr.findAsking,ak7 hd hs w,af3 hd w h]
  .cases h
theorem aqV{d k T}(hd:P.underlying T=some d){ms r w}(h:(Instr.findAsking T k ms).run P w=.ok r w):(Instr.findKey T k ms).run P w=.ok r w:=by
 simp only[Instr.findKey,Sem.run_bind,run_underlying hd w,Result.andThen_ok];cases hn:Instr.findNow d k ms 0 with
 |none=>simp[h]
 |some r'=>have:=af3 hd w hn;rw[this]at h;cases h;simp
theorem Bo{kt k vk d}(hd:P.underlying kt=some d)(hk:VR φ k vk){es ms}(he:dI φ es ms){r}(h:ou (ik P 100 kt) k es 0=some r)(w):∃r',(Instr.findKey kt vk ms).run P w=.ok r' w/\NV φ es ms 0 r r':=by have⟨r',h1,h2⟩:=dI.af1 (λy vy r hq hy w=>WW 100 kt k y r vk vy hq hk hy Op.maxDepth (by simp[Op.maxDepth]) w) he h w;exact⟨r',aqV hd h1,h2⟩
theorem aj1{d t a v}(hu:P.underlying t=some d)(h:MM d a=true)(ha:VR φ a v)(em n w):
 (Instr.checkKey em (n+1) t v).run P w=.ok () w:=by
 cases d<;>cases a<;>simp[MM]at h;all_goals
 all_goals first
  |(subst ha;simp[Instr.checkKey,run_underlying hu w];done)
  |(obtain⟨rfl,_⟩:=ha;simp[Instr.checkKey,run_underlying hu w];done)
  |(obtain⟨⟨_,rfl,_⟩,_⟩:=ha;simp[Instr.checkKey,run_underlying hu w];done)
  |(obtain⟨_,rfl,_⟩:=ha;simp[Instr.checkKey,run_underlying hu w])
theorem avt{cs cs' f}(gC:bp φ cs cs'.toList)(h:aau P cs f=true)(em n w):
 ∃x,(part f.type cs' f.offset).run P w=.ok x w/\(Instr.checkKey em (n+1) f.type x).run P w=.ok () w:=by
 unfold aau at h;split at h;next d a e1 e2=>
  have⟨x,e3,e4⟩:=gC.get e2;have e5:cs'[f.offset]? =some x:=by simpa using e3
  refine⟨x,?_,aj1 e1 h e4 em n w⟩;cases d<;>cases a<;>simp[MM]at h<;>simp[part,isAgg,run_underlying e1 w,e5]
 .cases h
theorem O8{t k v}(h:r9 P t k=true)(hk:VR φ k v)(em n w):(Instr.checkKey em (n+2) t v).run P w=.ok () w:=by
 unfold r9 at h;split at h;next fQ cs hu=>
  obtain⟨cs',rfl,gC⟩:=hk;rw[Instr.checkKey];simp only[Sem.run_bind,run_underlying hu w,Result.andThen_ok];rw[<-Array.forIn_toList];generalize fQ.toList=fs at h;induction fs with
  |nil=>simp
  |cons f fs ih=>
   simp only[List.all_cons,dk]at h;have⟨h1,h2⟩:=h;have⟨x,e6,e7⟩:=avt gC h1 em n w;simp only[List.forIn_cons,Sem.run_bind,Sem.run_ite];split
   .simp only[e6,Result.andThen_ok,e7,Sem.run_pure];exact ih h2
   .simp only[Sem.run_pure,Result.andThen_ok];exact ih h2
 next hu _=>exact aj1 hu h hk em (n+1) w
 .cases h
theorem NV.at{es ms j v b r'}(h:NV φ es ms 0 (some (j,v,b)) r'):
 ∃m k,r'=some (j,m.val)/\es[j]? =some (k,v,b)/\ms[j]? =some m/\VR φ v m.val/\m.born=b:=by
 have⟨m,k,e1,_,e3,e4,e5,e6⟩:=h;exact⟨m,k,e1,by simpa using e3,by simpa using e4,e5,e6⟩
end
section
variable{P:Program}{φ:cj}{base:fv}{H:AH}{w:World}{ρ:Operand->Option AV}{ev:Operand->Value}
theorem W5{mx}:∀{l a r va vs},VR φ a va->bp φ l vs->Hk mx a l=some r->
 ∃v,(vs.foldlM (if mx then Builtin.max2 else Builtin.min2) va:Sem Value).run P w=.ok v w/\VR φ r v
 |[],a,r,va,vs,ha,hl,h=>by simp only[bp]at hl;subst hl;simp[Hk]at h;subst h;exact⟨va,by simp,ha⟩
 |b::l,a,r,va,vs,ha,hl,h=>by
  obtain⟨vb,vs,rfl,hb,hl⟩:=hl;cases a<;>cases b<;>simp only[Hk]at h<;>try (cases h;done)
  rename_i k x k' y;subst ha hb;have⟨v,h1,h2⟩:=W5 (va:=Value.int k (bif mx then(if y>x then y else x)else(if y<x then y else x))) (by simp only[VR]) hl h;refine⟨v,?_,h2⟩;rw[List.foldlM_cons,Sem.run_bind];cases mx
  .have e:(Builtin.min2 (.int k x) (.int k' y)).run P w=.ok (.int k (if y<x then y else x)) w:=rfl;simp at h1⊢;rw[e];exact h1
  .have e:(Builtin.max2 (.int k x) (.int k' y)).run P w=.ok (.int k (if y>x then y else x)) w:=rfl;simp at h1⊢;rw[e];exact h1
theorem aCt{a v v'}(h:S9 a=some v)(ha:VR φ a v'):v'=v:=by unfold S9 at h;split at h<;>first|(cases h;simpa[VR]using ha)|cases h
theorem WA{id off n i elem v}(h:Ba P id off n elem i=some v):∃s,(∀w,(sizeOf elem).run P w=.ok s w)/\i<n/\v=.aa id (off+i*s):=by
 unfold Ba at h;split at h;next s hs=>have⟨hb,h⟩:=dn h;cases h;exact⟨s,jE hs,by have:=ph hb;omega,rfl⟩
 .cases h
theorem ap7{cs len sz i elem v}(h:Pj P cs len sz elem i=some v):(∀w,(sizeOf elem).run P w=.ok sz w)/\i<len/\v=.pw ((cs.drop (i*sz)).take sz):=by
 unfold Pj at h;split at h;next s hs=>have⟨hb,h⟩:=dn h;cases h;simp only[dk,ux]at hb;have:=dG hb.1;subst this;exact⟨jE hs,by omega,rfl⟩
 .cases h
theorem aom{qi xT ok x v vx d}(hu:P.underlying qi=some d)(hd:∀ms,d≠.interface ms)(h:VG P qi ok x=some v)(hx:VR φ x vx)(w):
 ∃v',(Instr.typeAssert vx xT qi ok).run P w=.ok v' w/\VR φ v v':=by
 unfold VG at h;have hz:∀{z:AV},jZ P qi=some z->∃vz,VR φ z vz/\∀w,(zeroValue qi).run P w=.ok vz w:=λhz=>zg hz
 split at h;next t a=>
  obtain⟨va,rfl,hva⟩:=hx;cases hb:Nat.beq t qi
  .rw[hb]at h;simp only[cond_false]at h;have cE:t≠qi:=by intro e;subst e;simp at hb
   have⟨a_,h⟩:=dn h;subst a_;obtain⟨z,Ak,rfl⟩:=tb h;have⟨vz,h1,h2⟩:=hz Ak;refine⟨.tuple #[vz,.bool false],?_,⟨_,rfl,qg.2 ⟨h1,oP (by simp[VR])⟩⟩⟩;cases d<;>first
    |(exact absurd rfl (hd _))
    |simp[Instr.typeAssert,run_underlying hu w,cE,h2]
  .rw[hb]at h;simp at h;cases h;have he:=dG hb;cases ok
   .refine⟨va,?_,hva⟩;cases d<;>first
     |(exact absurd rfl (hd _))
     |simp[Instr.typeAssert,run_underlying hu w,he]
   .refine⟨.tuple #[va,.bool true],?_,⟨_,rfl,qg.2 ⟨hva,oP (by simp[VR])⟩⟩⟩;cases d<;>first
     |(exact absurd rfl (hd _))
     |simp[Instr.typeAssert,run_underlying hu w,he]
 .simp only[VR]at hx;subst hx;have⟨a_,h⟩:=dn h;subst a_;obtain⟨z,Ak,rfl⟩:=tb h;have⟨vz,h1,h2⟩:=hz Ak;refine⟨.tuple #[vz,.bool false],?_,⟨_,rfl,qg.2 ⟨h1,oP (by simp[VR])⟩⟩⟩;cases d<;>first
   |(exact absurd rfl (hd _))
   |simp[Instr.typeAssert,run_underlying hu w,h2]
 .cases h
theorem qq{r o}(h:w.heap[r]? =some o)(hc:o.isCells=false):(getObj r).run P w=.ok o w:=by cases o<;>simp[Obj.isCells]at hc<;>simp[getObj,Sem.run,h]
theorem alg{r o o'}(h:w.heap[r]? =some o)(hc:o.isCells=false):(setObj r o').run P w=.ok () {w with heap:=w.heap.setIfInBounds r o'}:=by cases o<;>simp[Obj.isCells]at hc<;>simp[setObj,Sem.run,h]
theorem aqF(hw:WR φ base H w){m vm es}(h:Bg H m=some es)(hm:VR φ m vm):
 ∃bF:Array MapEntry,dI φ es bF.toList/\((vm=.map none/\bF= #[])\/∃r clock,vm=.map (some r)/\w.heap[r]? =some (.map bF clock)):=by
 unfold Bg at h;split at h
 .cases h;simp only[VR]at hm;subst hm;exact⟨#[],by simp[dI],.inl ⟨rfl,rfl⟩⟩
 .split at h;next clock p ho=>cases h;obtain⟨e,he,rfl⟩:=hm;obtain⟨o,h1,bF,rfl,h2,_⟩:=hw.ew _ _ e ho he;exact⟨bF,h2,.inr ⟨_,_,rfl,h1⟩⟩
  .cases h
 .cases h
theorem aiJ{t kt elem vm vk bF ok r}(hu:P.underlying t=some (.map kt elem))(hm:(vm=.map none/\bF= #[])\/∃r clock,vm=.map (some r)/\w.heap[r]? =some (.map bF clock))(sQ:(Instr.checkKey bF.isEmpty 10000 kt vk).run P w=.ok () w)(hf:(Instr.findKey kt vk bF.toList).run P w=.ok r w){v b}(hr:(∃i,r=some (i,v)/\b=true)\/(r=none/\(zeroValue elem).run P w=.ok v w/\b=false)):
 (Instr.lookup t vm vk ok).run P w=.ok (if ok then .tuple #[v,.bool b]else v) w:=by
 unfold Instr.lookup;rcases hm with⟨rfl,rfl⟩|⟨r0,clock,rfl,hg⟩
 .simp only[Sem.run_bind,run_underlying hu w,Result.andThen_ok,Sem.run_pure,sQ,hf];rcases hr with⟨i,rfl,rfl⟩|⟨rfl,hz,rfl⟩
  .simp
  .simp[hz]
 .simp only[Sem.run_bind,run_underlying hu w,Result.andThen_ok,Sem.run_pure,qq hg rfl,sQ,hf];rcases hr with⟨i,rfl,rfl⟩|⟨rfl,hz,rfl⟩
  .simp
  .simp[hz]
theorem ajK{ok b a v}(h:VR φ a v):VR φ (mG ok a b) (if ok then .tuple #[v,.bool b]else v):=by
 cases ok
 .simpa[mG]using h
 .exact⟨_,rfl,qg.2 ⟨h,oP (by simp[VR])⟩⟩
theorem aui{kt elem t key v vm vk ok es bF}(hu:P.underlying t=some (.map kt elem))(hp:r9 P kt key=true)(he:dI φ es bF.toList)(dN:(vm=.map none/\bF= #[])\/∃r clock,vm=.map (some r)/\w.heap[r]? =some (.map bF clock))(h:(match ou (ik P 100 kt) key es 0 with
 |some (some (_,v,_))=>some (mG ok v true)
 |some none=>(jZ P elem).map (mG ok · false)
 |none=>none)=some v) (hk:VR φ key vk):∃v',(Instr.lookup t vm vk ok).run P w=.ok v' w/\VR φ v v':=by
 have uc:∃d,P.underlying kt=some d:=by
  cases Yh:P.underlying kt with
  |none=>simp[r9,Yh]at hp
  |some d=>exact⟨d,rfl⟩
 have⟨d,hd⟩:=uc;have sQ:=O8 hp hk bF.isEmpty 9998 w;split at h;next i x b hf=>cases h;have⟨r',h1,h2⟩:=Bo hd hk he hf w;obtain⟨me,k,rfl,e3,e4,e5,e6⟩:=h2.at;exact⟨_,aiJ hu dN sQ h1 (.inl ⟨i,rfl,rfl⟩),ajK e5⟩
 next hf=>obtain⟨z,hz,rfl⟩:=tb h;have⟨vz,LW,Y0⟩:=zg (φ:=φ) hz;have⟨r',h1,h2⟩:=Bo hd hk he hf w;subst h2;exact⟨_,aiJ hu dN sQ h1 (.inr ⟨rfl,Y0 w,rfl⟩),ajK LW⟩
 .cases h
theorem aug(hw:WR φ base H w){kt elem t m key v vm vk ok}(hu:P.underlying t=some (.map kt elem))(h:Mb P H kt elem m key ok=some v)(hm:VR φ m vm)(hk:VR φ key vk):
 ∃v',(Instr.lookup t vm vk ok).run P w=.ok v' w/\VR φ v v':=by
 have⟨hp,h⟩:=dn h;split at h;next es jk=>have⟨bF,he,dN⟩:=aqF hw jk hm;exact aui hu hp he dN h hk
 .cases h
theorem aju{s v v'}(h:VR φ v v'):VR φ (Fk s v) v':=by
 unfold Fk;split
 .simp only[VR]at h⊢;exact .inl ⟨trivial,h⟩
 .exact h
theorem Z4{elem ok v v'}(h:VR φ v v'):VR φ (kX P H elem ok v) v':=by
 unfold kX;split
 .exact h
 .split
  .split
   .cases ok
    .exact aju h
    .simp;split
     .obtain⟨cs',rfl,hc⟩:=h;have⟨x,l,e,h1,h2⟩:=hc;exact⟨cs',rfl,x,l,e,aju h1,h2⟩
     .exact h
   .exact h
  .exact h
end
section
variable{P:Program}{φ:cj}{base:fv}{H:AH}{w:World}{ρ:Operand->Option AV}{ev:Operand->Value}
theorem lP{s v}(h:s.run P w=.ok v w):(do pure (.value (<-s)):Sem Next).run P w=.ok (.value v) w:=by simp[h]
theorem aoN{t fQ z v vz ps n_}(hu:P.underlying t=some (.struct fQ))(hz:VR φ z vz)(kf:(zeroValue t).run P w=.ok vz w)(hp:OA φ ps n_.toList)(h:VY P z fQ ps=some v):∃v',(Instr.build t n_).run P w=.ok v' w/\VR φ v v':=by
 unfold VY at h;split at h;next pl kP=>
  obtain⟨cs,hf,rfl⟩:=tb h;have⟨r',h1,h2⟩:=PM hp (AV.sA hz) hf;refine⟨.agg r',?_,⟨_,rfl,h2⟩⟩;have h3:=avs kP w;have h4:(λ(x:Nat)=>(pl.toArray)[x]?)=(λx=>pl[x]?):=by funext x;simp
  simp only[Instr.build,Sem.run_bind,kf,Result.andThen_ok,run_underlying hu w,h3,h4,h1,Sem.run_pure]
 .cases h
theorem aoM{t elem n z v vz ps n_}(hu:P.underlying t=some (.array n elem))(hz:VR φ z vz)(kf:(zeroValue t).run P w=.ok vz w)(hp:OA φ ps n_.toList)(h:VX P z elem ps=some v):∃v',(Instr.build t n_).run P w=.ok v' w/\VR φ v v':=by
 unfold VX at h;split at h;next s hs=>obtain⟨cs,hf,rfl⟩:=tb h;have⟨r',h1,h2⟩:=PM hp (AV.sA hz) hf;refine⟨.agg r',?_,⟨_,rfl,h2⟩⟩;simp only[Instr.build,Sem.run_bind,kf,Result.andThen_ok,run_underlying hu w,jE hs w,h1,Sem.run_pure]
 .cases h
theorem atI{t n_ v}(hr:nP φ ρ ev (n_.toList.map (·.2)))(h:Zm P ρ t n_=some v):
 ∃v',(Instr.build t (n_.map λ(i,x)=>(i,ev x))).run P w=.ok v' w/\VR φ v v':=by
 unfold Zm at h;split at h;next z fQ ps e1 e2 e3=>have⟨vz,h1,h2⟩:=zg (φ:=φ) e1;exact aoN e2 h1 (h2 w) (by have:=OO hr e3;simpa using this) h
 next z n elem ps e1 e2 e3=>have⟨vz,h1,h2⟩:=zg (φ:=φ) e1;exact aoM e2 h1 (h2 w) (by have:=OO hr e3;simpa using this) h
 .cases h
theorem Ju{a}(h:Di a=true):(match a with|some v=>n8 v|none=>some 0)=some 0:=by
 cases a with
 |none=>rfl
 |some v=>
  simp only[Di]at h;cases hn:n8 v with
  |none=>simp[hn]at h
  |some n=>simp only[hn,yU]at h;have:=dG h;simp[hn,<-this]
theorem atK(hw:WR φ base H w){t x lo hi mx v}(hr:nP φ ρ ev ((#[x]++lo.toArray++hi.toArray++mx.toArray).toList))(h:Ca P ρ H t x lo hi mx=some v):
 ∃v',(Instr.sliceAt t (ev x) (lo.map ev) (hi.map ev) (mx.map ev)).run P w=.ok v' w/\VR φ v v':=by
 unfold Ca at h;split at h;next l hh m e1 e2 e3=>
  have r1:=MH (hr.pC (l':=lo.toList) (λy hy=>by cases lo<;>simp at hy;subst hy;simp)) e1;have r2:=MH (hr.pC (l':=hi.toList) (λy hy=>by cases hi<;>simp at hy;subst hy;simp)) e2;have r3:=MH (hr.pC (l':=mx.toList) (λy hy=>by cases mx<;>simp at hy;subst hy;simp)) e3;have rx:=hr x (by simp);split at h;next s hu hx=>
   obtain⟨b,hb,rfl⟩:=rx _ hx;obtain⟨hm,h⟩:=dn h;have ud:m=none:=by cases m<;>simp at hm⊢
   subst ud;have wM:mx.map ev=none:=by rcases r3 with⟨_,h⟩|⟨_,_,e,_⟩;exact h;cases e
   obtain⟨l',h',h1,h2⟩:=azF (P:=P) h r1 r2 w;refine⟨_,?_,h2⟩;simp[Instr.sliceAt,Instr.slice,run_underlying hu w,hb,wM,h1]
  next elem id off len cap sz ex hu hx=>
   obtain⟨hs,h⟩:=dn h;obtain⟨e,y,c,he,hv,hy,bS,wH,jI⟩:=rx _ hx;obtain⟨l',h',m',h1,h2⟩:=abh (P:=P) h he hy bS wH jI r1 r2 r3 w true;have cv:cU P elem=some sz:=by
    cases hq:cU P elem with
    |none=>simp[hq]at hs
    |some s=>simp[hq]at hs;rw[hs]
   refine⟨_,?_,h2⟩;by_cases wL:m'=l'
   .simp[Instr.sliceAt,Instr.slice,run_underlying hu w,hv,h1,jE cv w,wL]
   .simp[Instr.sliceAt,Instr.slice,run_underlying hu w,hv,h1,jE cv w,wL]
  next elem cs len sz hu hx=>
   obtain⟨hs,h⟩:=dn h;have YT:=rx _ hx;have ahG:=YT;simp only[VR]at ahG;obtain⟨a,c,hv,_⟩:=ahG;rw[hv]at YT;obtain⟨l',h',m',h1,h2⟩:=azG (P:=P) h YT r1 r2 r3 w;have cv:cU P elem=some sz:=by
    cases hq:cU P elem with
    |none=>simp[hq]at hs
    |some s=>simp[hq]at hs;rw[hs]
   refine⟨_,?_,h2⟩;simp[Instr.sliceAt,Instr.slice,run_underlying hu w,hv,h1,jE cv w]
  next elem id len sz hu hx=>
   obtain⟨hs,hq⟩:=dn h;clear h;simp only[dk]at hs;obtain⟨⟨hs,K_⟩,hmn⟩:=hs;have K_:=ph K_;have ud:m=none:=by cases m<;>simp at hmn⊢
   subst ud;have cv:cU P elem=some sz:=by
    cases hq:cU P elem with
    |none=>simp[hq]at hs
    |some s=>simp[hq]at hs;rw[hs]
   rcases rx _ hx with⟨h0,_⟩|⟨e,y,c,he,hv,hy,nW,jI⟩
   .omega
   .obtain⟨l',h',m',h1,h2⟩:=abh (P:=P) hq he (by simpa using hy) nW (λh=>by cases h) (by simpa using jI) r1 r2 r3 w true;refine⟨_,?_,h2⟩;by_cases wL:m'=l'
    .simp[Instr.sliceAt,Instr.slice,run_underlying hu w,hv,h1,jE cv w,wL]
    .simp[Instr.sliceAt,Instr.slice,run_underlying hu w,hv,h1,jE cv w,wL]
  next elem xn aE0 xsz hu hx=>
   have hv:=rx _ hx;simp only[VR]at hv;obtain⟨hz,hq⟩:=dn h;clear h;cases hq;simp only[dk]at hz;obtain⟨⟨⟨⟨⟨z1,z2⟩,z3⟩,z4⟩,z5⟩,z6⟩:=hz;obtain⟨sz,cv⟩:=Si.1 z6;have b1:=Ju z1;have b2:=Ju z2;have key:∀L C:Nat,(Instr.sliceBounds true L C (lo.map ev) (hi.map ev) (mx.map ev)).run P w=.ok (0,0,0) w:=by
    intro L C;cases m with
    |none=>cases z4
    |some ma=>
     cases hh with
     |none=>cases z5
     |some ha=>
      rcases r3 with⟨e,_⟩|⟨ma',mv,e,BO,Yk⟩
      .cases e
      .cases e;rcases r2 with⟨e,_⟩|⟨Ep,Ij,e,BK,X7⟩
       .cases e
       .cases e;rw[BO,BK];exact abg (Ju z3) Yk b2 X7 b1 r1 (gq _) (cM _) (cM _) w
   rcases hv with⟨_,hv⟩|⟨e,x,c,_,hv,_⟩
   .exact⟨.slice none 0 0,by simp[Instr.sliceAt,Instr.slice,run_underlying hu w,hv,key,jE cv w],by simp[VR]⟩
   .exact⟨.slice (some ⟨e.b,x,none⟩) 0 0,by simp[Instr.sliceAt,Instr.slice,run_underlying hu w,hv,key,jE cv w],by simp[VR]⟩
  next elem hu hx=>
   have hv:=rx _ hx;simp only[VR]at hv;obtain⟨hz,h⟩:=dn h;cases h;simp at hz;have⟨⟨⟨⟨z1,z2⟩,z3⟩,z4⟩,z5⟩:=hz;have⟨sz,cv⟩:=Si.1 z5;refine⟨.slice none 0 0,?_,by simp[VR]⟩;have b1:=Ju z1;have b2:=Ju z2;have key:(Instr.sliceBounds true 0 0 (lo.map ev) (hi.map ev) (mx.map ev)).run P w=.ok (0,0,0) w:=by
    cases m with
    |none=>
     have wM:mx.map ev=none:=by rcases r3 with⟨_,h⟩|⟨_,_,e,_⟩;exact h;cases e
     rw[wM];exact SC b2 b1 r1 r2 (cM _) (cM _) w
    |some ma=>
     cases hh with
     |none=>simp at z4
     |some ha=>
      rcases r3 with⟨e,_⟩|⟨ma',mv,e,BO,Yk⟩
      .cases e
      .cases e;rcases r2 with⟨e,_⟩|⟨Ep,Ij,e,BK,X7⟩
       .cases e
       .cases e;rw[BO,BK];exact abg (Ju z3) Yk b2 X7 b1 r1 (cM _) (cM _) (cM _) w
   simp[Instr.sliceAt,Instr.slice,run_underlying hu w,hv,key,jE cv w]
  next n elem id off hu hx=>
   have⟨e,he,hv⟩:=rx _ hx;split at h;next sz vs hs jA=>
    have⟨hb,h⟩:=dn h;have⟨cs,el,hg,cv,cu,_,_⟩:=hw.NB jA he;have jI:e.o+off+n*sz<=e.n:=by have:=ph hb;omega
    have⟨l',h',m',h1,h2⟩:=abh (P:=P) h he (.inr rfl) (cM n) (λ_=>rfl) jI r1 r2 r3 w false;refine⟨_,?_,h2⟩;by_cases wL:m'=l'
    .simp[Instr.sliceAt,Instr.sureAddr,run_underlying hu w,hv,h1,jE hs w,wL]
    .simp[Instr.sliceAt,Instr.sureAddr,run_underlying hu w,hv,h1,jE hs w,wL]
   .cases h
  .cases h
 .cases h
theorem atJ(hw:WR φ base H w){b args argTypes T vs v}(hv:bp φ args vs.toList)(h:Q7 P H b args argTypes=some v):
 ∃v',(∀Ky,(builtin b argTypes T Ky vs).run P w=.ok (.value v') w)/\VR φ v v':=by
 unfold Q7 at h;split at h;next x=>
  obtain⟨vx,rest,e,hx,rfl⟩:=hv;have h0:vs[0]? =some vx:=by rw[<-vO,e];rfl
  unfold Zp at h;split at h;next n elem hu=>
   cases h;cases ht:argTypes[0]? with
   |none=>simp[ht]at hu
   |some t=>simp only[ht,qD]at hu;exact⟨goInt n,λ_=>by simp[builtin,Builtin.len_,ht,h0,run_underlying hu w],D_ n⟩
  next d _ hu=>
   have⟨hf,h⟩:=dn h;obtain⟨n,hn,rfl⟩:=tb h;cases ht:argTypes[0]? with
   |none=>simp[ht]at hu
   |some t=>simp only[ht,qD]at hu;exact⟨goInt n,λ_=>by simp[builtin,at3 hw hx hn hu hf ht h0],D_ n⟩
  .cases h
 next x=>
  obtain⟨vx,rest,e,hx,rfl⟩:=hv;have h0:vs[0]? =some vx:=by rw[<-vO,e];rfl
  unfold aih at h;split at h;next elem id off len c sz hu=>
   cases h;obtain⟨e',y,c',he,rfl,hy,bS,wH,jI⟩:=hx;cases ht:argTypes[0]? with
   |none=>simp[ht]at hu
   |some t=>simp only[ht,qD]at hu;exact⟨goInt c',λ_=>by simp[builtin,Builtin.cap_,ht,h0,run_underlying hu w],by rw[wH rfl];exact D_ c⟩
  next elem hu=>
   cases h;subst hx;cases ht:argTypes[0]? with
   |none=>simp[ht]at hu
   |some t=>simp only[ht,qD]at hu;exact⟨goInt 0,λ_=>by simp[builtin,Builtin.cap_,ht,h0,run_underlying hu w],D_ 0⟩
  .cases h
 next a l=>have⟨va,rest,e,ha,hl⟩:=hv;have⟨v',h1,h2⟩:=W5 (P:=P) (w:=w) ha hl h;refine⟨v',λ_=>?_,h2⟩;simp at h1;simp[builtin,Builtin.max_,e,h1]
 next a l=>have⟨va,rest,e,ha,hl⟩:=hv;have⟨v',h1,h2⟩:=W5 (P:=P) (w:=w) ha hl h;refine⟨v',λ_=>?_,h2⟩;simp at h1;simp[builtin,Builtin.min_,e,h1]
 .cases h
theorem ako{o v}(hw:WR φ base H w)(hr:nP φ ρ ev o.op.operands.toList)(h:fL P ρ H o.op=some v):
 ∃v',(execOp ev o).run P w=.ok (.value v') w/\VR φ v v':=by
 cases o with
 |mk dst op type pos after guard=>
 simp only at hr h;cases op<;>simp only[fL]at h<;>try (cases h;done)
 case move x=>exact⟨ev x,by simp[execOp],hr x (by simp[Op.operands]) v h⟩
 case assign x=>exact⟨ev x,by simp[execOp],hr x (by simp[Op.operands]) v h⟩
 case pick c a b=>
  unfold Zr at h;split at h;next t hc=>
   have h1:=hr c (by simp[Op.operands]) _ hc;simp only[VR]at h1;cases t
   .simp only[cond_false]at h;exact⟨ev b,by simp[execOp,h1,asBool],hr b (by simp[Op.operands]) v h⟩
   .simp only[cond_true]at h;exact⟨ev a,by simp[execOp,h1,asBool],hr a (by simp[Op.operands]) v h⟩
  .cases h
 case build t n_=>obtain⟨v',h1,h2⟩:=atI (ev:=ev) (w:=w) (hr.pC (λx hx=>by simpa[Op.operands]using hx)) h;exact⟨v',by simp only[execOp];exact lP h1,h2⟩
 case load t a=>
  unfold Q9 at h;split at h;next id off ha=>obtain⟨e,he,hv⟩:=hr a (by simp[Op.operands]) _ ha;obtain⟨v',h1,h2⟩:=ZA hw h he;exact⟨v',by simp only[execOp];exact lP (by simp[Instr.loadAt,Instr.sureAddr,hv,h1]),h2⟩
  next cs ha=>obtain⟨b,x,eA,el,fz,hv,fS,cv,hc⟩:=hr a (by simp[Op.operands]) _ ha;obtain⟨v',h1,h2⟩:=aue (P:=P) (w:=w) h (hw.ro _ _ fS).1.2 cv hc;have h2:=VR.ef (dv.vJ φ) _ _ h2;exact⟨v',by simp only[execOp];exact lP (by simp[Instr.loadAt,Instr.sureAddr,hv,h1]),h2⟩
  next n off ha=>obtain⟨e,he,hv⟩:=hr a (by simp[Op.operands]) _ ha;obtain⟨v',h1,h2⟩:=auf hw h he;exact⟨v',by simp only[execOp];exact lP (by simp[Instr.loadAt,Instr.sureAddr,hv,h1]),h2⟩
  .cases h
 case nilCheck x=>
  unfold aio at h;split at h;next id off hx=>cases h;have h0:=hr x (by simp[Op.operands]) _ hx;obtain⟨e,he,hv⟩:=h0;exact⟨ev x,by simp[execOp,hv],e,he,hv⟩
  next cs hx=>cases h;have h0:=hr x (by simp[Op.operands]) _ hx;have h1:=h0;obtain⟨b,y,eA,el,fz,hv,_⟩:=h0;exact⟨ev x,by simp[execOp,hv],h1⟩
  next n off hx=>cases h;have h0:=hr x (by simp[Op.operands]) _ hx;obtain⟨e,he,hv⟩:=h0;exact⟨ev x,by simp[execOp,hv],e,he,hv⟩
  next f l c hx=>cases h;have h0:=hr x (by simp[Op.operands]) _ hx;have h1:=h0;obtain⟨f',c',hv,_⟩:=h0;exact⟨ev x,by simp[execOp,hv],h1⟩
  next t a hx=>cases h;have h0:=hr x (by simp[Op.operands]) _ hx;have h1:=h0;obtain⟨a',hv,_⟩:=h0;exact⟨ev x,by simp[execOp,hv],h1⟩
  .cases h
 case binOp op t x y yt=>
  unfold L2 at h;split at h;next a b ha hb=>obtain⟨v',h1,h2⟩:=aoy (P:=P) (hr x (by simp[Op.operands]) _ ha) (hr y (by simp[Op.operands]) _ hb) h w;exact⟨v',by simp only[execOp];exact lP h1,h2⟩
  .cases h
 case unOp op t x=>
  unfold lUn at h;split at h;next a ha=>
   cases hv:S9 a with
   |none=>simp[hv]at h
   |some va=>
    simp only[hv,qD]at h;have h0:=aCt hv (hr x (by simp[Op.operands]) _ ha);cases hp:Av P (Op.unary op va)with
    |none=>simp[hp]at h
    |some v'=>simp only[hp,qD]at h;exact⟨v',by simp only[execOp];exact lP (by rw[h0];exact aax hp w),ajG h⟩
  .cases h
 case convert l6 dst x=>
  unfold aii at h;split at h;next k0 k k1 n h1 h2 h3=>cases h;have h0:=hr x (by simp[Op.operands]) _ h3;simp only[VR]at h0;exact⟨.int k (k.wrap n),by simp only[execOp];exact lP (by simp[convert,run_underlying h1 w,run_underlying h2 w,h0,Conv.intToInt]),by simp[VR]⟩
  next s h1 h2 h3=>cases h;have h0:=hr x (by simp[Op.operands]) _ h3;obtain⟨b,hb,e⟩:=h0;exact⟨.string b,by simp only[execOp];exact lP (by simp[convert,run_underlying h1 w,run_underlying h2 w,hb]),b,rfl,e⟩
  .cases h
 case makeInterface t x=>
  unfold ain at h;split at h
  .cases h
  next d a sV hu ha=>
   cases h;refine⟨.iface t (ev x),?_,_,rfl,hr x (by simp[Op.operands]) _ ha⟩;simp only[execOp];refine lP ?_;simp only[Instr.makeInterface,Sem.run_bind,run_underlying hu w,Result.andThen_ok];cases d<;>first
    |rfl
    |(exact absurd rfl (sV _))
  .cases h
 case makeFunc fn first lu=>
  unfold aim at h;split at h;next f c hf hc=>
   cases hy:vq fn
   .rw[hy]at h;cases h;refine⟨.func fn (first.map ev) (lu.map ev),by simp only[execOp];exact lP (by simp[Instr.makeFunc]),_,_,rfl,hy,?_,?_⟩
    .have:=AZ (hr.pC (l':=first.toList) (λx hx=>by simp only[Op.operands,CC,ia];exact .inl hx)) hf;simpa using this
    .have:=AZ (hr.pC (l':=lu.toList) (λx hx=>by simp only[Op.operands,CC,ia];exact .inr hx)) hc;simpa using this
   .rw[hy]at h;cases h
  .cases h
 case slice t x lo hi mx=>obtain⟨v',h1,h2⟩:=atK (P:=P) hw (hr.pC (λy hy=>by simpa[Op.operands]using hy)) h;exact⟨v',by simp only[execOp];exact lP h1,h2⟩
 case fieldAddr s x f=>
  unfold ail at h;split at h;next fQ id off hu hx=>
   obtain⟨e,he,hv⟩:=hr x (by simp[Op.operands]) _ hx;unfold afV at h;split at h;next fd zX=>
    split at h;next sz cv=>cases h;refine⟨.pointer (some ⟨e.b,e.o+(off+fd.offset),none⟩),?_,e,he,rfl⟩;simp only[execOp];refine lP ?_;simp only[Instr.fieldAt,Sem.run_bind,run_underlying hu w,Result.andThen_ok,zX,Instr.sureAddr,hv,Sem.run_pure,fieldPlace,jE cv w];simp[xX,Fz]
    .cases h
   .cases h
  next fQ cs hu hx=>
   obtain⟨b,y,eA,el,fz,hv,fS,Ih,hc⟩:=hr x (by simp[Op.operands]) _ hx;unfold afW at h;split at h;next fd zX=>
    split at h;next sz cv=>
     obtain⟨hb,h⟩:=dn h;have hb:=ph hb;cases h;refine⟨.pointer (some ⟨b,y+fd.offset,none⟩),?_,b,y+fd.offset,eA,el,fz,rfl,fS,by simp;omega,?_⟩
     .simp only[execOp];refine lP ?_;simp only[Instr.fieldAt,Sem.run_bind,run_underlying hu w,Result.andThen_ok,zX,Instr.sureAddr,hv,Sem.run_pure,fieldPlace,jE cv w];simp[xX]
     .have h2:=hc.xM fd.offset;rw[yV,xk]at h2;simpa using h2
    .cases h
   .cases h
  next fQ n off hu hx=>
   obtain⟨e,he,hv⟩:=hr x (by simp[Op.operands]) _ hx;unfold afY at h;split at h;next fd zX=>
    split at h;next sz cv=>cases h;refine⟨.pointer (some ⟨e.b,e.o+(off+fd.offset),none⟩),?_,e,he,rfl⟩;simp only[execOp];refine lP ?_;simp only[Instr.fieldAt,Sem.run_bind,run_underlying hu w,Result.andThen_ok,zX,Instr.sureAddr,hv,Sem.run_pure,fieldPlace,jE cv w];simp[xX,Fz]
    .cases h
   .cases h
  .cases h
 case field t x f=>
  unfold aik at h;split at h;next fQ cs hu hx=>
   obtain⟨cs',hv,hc⟩:=hr x (by simp[Op.operands]) _ hx;unfold afU at h;split at h;next fd zX=>obtain⟨v',h1,h2⟩:=RZ hc h w;exact⟨v',by simp only[execOp];exact lP (by simp[Instr.field,run_underlying hu w,zX,hv,asAgg,h1]),h2⟩
   .cases h
  .cases h
 case indexAddr t x i=>
  unfold L3 at h;split at h;next n elem id off k j hu hx hi=>obtain⟨e,he,hv⟩:=hr x (by simp[Op.operands]) _ hx;have ei:=hr i (by simp[Op.operands]) _ hi;simp only[VR]at ei;obtain⟨s,hs,ax,rfl⟩:=WA h;refine⟨.pointer (some ⟨e.b,e.o+(off+j*s),none⟩),?_,e,he,rfl⟩;simp only[execOp];refine lP ?_;simp[Instr.indexAt,ei,asIntOf,run_underlying hu w,Instr.sureAddr,hv,ax,hs,xX,Fz]
  next elem id off len cap sz ex k j hu hx hi=>
   obtain⟨e,y,c,he,hv,hy,bS,wH,jI⟩:=hr x (by simp[Op.operands]) _ hx;have ei:=hr i (by simp[Op.operands]) _ hi;simp only[VR]at ei;obtain⟨s,hs,ax,rfl⟩:=WA h;have rY:y=e.o+off:=by rcases hy with h|h<;>omega
   subst rY;refine⟨.pointer (some ⟨e.b,e.o+(off+j*s),none⟩),?_,e,he,rfl⟩;simp only[execOp];refine lP ?_;simp[Instr.indexAt,ei,asIntOf,run_underlying hu w,hv,ax,hs,xX,Fz]
  next elem cs len sz k j hu hx hi=>
   obtain⟨a,c,hv,bS,hd⟩:=hr x (by simp[Op.operands]) _ hx;have ei:=hr i (by simp[Op.operands]) _ hi;simp only[VR]at ei;obtain⟨hs,ax,rfl⟩:=ap7 h;rcases hd with hd|⟨b,y,eA,el,fz,rfl,nW,fS,cv,hc⟩
   .omega
   .have m1:j*sz+sz<=len*sz:=by have:=Se sz (show j+1<=len by omega);rw[xp]at this;omega
    have h_:((cs.drop (j*sz)).take sz).length=sz:=by simp;omega
    refine⟨.pointer (some ⟨b,y+j*sz,none⟩),?_,b,y+j*sz,eA,el,fz,rfl,fS,by rw[h_];omega,?_⟩
    .simp only[execOp];refine lP ?_;simp[Instr.indexAt,ei,asIntOf,run_underlying hu w,hv,ax,hs,xX]
    .rw[h_];have h2:=(hc.xM (j*sz)).xN sz;have e3:(((eA.toList.drop y).take cs.length).drop (j*sz)).take sz=(eA.toList.drop (y+j*sz)).take sz:=by rw[yV,xk,Az];congr 1;omega
     rw[e3]at h2;exact h2
  next elem id len sz k j hu hx hi=>
   obtain⟨hz,h⟩:=dn h;have ei:=hr i (by simp[Op.operands]) _ hi;simp only[VR]at ei;obtain⟨s,hs,ax,rfl⟩:=WA h;rcases hr x (by simp[Op.operands]) _ hx with⟨h0,_⟩|⟨e,y,c,he,hv,hy,nW,jI⟩
   .omega
   .have rY:y=e.o:=by rcases hy with h|h<;>omega
    subst rY;refine⟨.pointer (some ⟨e.b,e.o+(0+j*s),none⟩),?_,e,he,rfl⟩;simp only[execOp];refine lP ?_;simp[Instr.indexAt,ei,asIntOf,run_underlying hu w,hv,ax,hs,xX]
  .cases h
 case index t x i=>
  unfold Q8 at h;split at h;next n elem cs k j hu hx hi=>
   obtain⟨cs',hv,hc⟩:=hr x (by simp[Op.operands]) _ hx;have ei:=hr i (by simp[Op.operands]) _ hi;simp only[VR]at ei;unfold Wz at h;split at h;next s hs=>
    obtain⟨hb,h⟩:=dn h;obtain⟨v',h1,h2⟩:=RZ hc h w;have ax:j<n:=by have:=ph hb;omega
    exact⟨v',by simp only[execOp];exact lP (by simp[Instr.index,ei,asIntOf,run_underlying hu w,hv,ax,jE hs w,h1]),h2⟩
   .cases h
  next s k j hu hx hi=>
   obtain⟨b,hv,rfl⟩:=hr x (by simp[Op.operands]) _ hx;have ei:=hr i (by simp[Op.operands]) _ hi;simp only[VR]at ei;unfold V4 at h;split at h;next c hc=>
    cases h;have hj:∃u,b[j]? =some u/\u.toNat=c:=by
     simp only[du,uv]at hc;cases hq:b.data.toList[j]? with
     |none=>simp[hq]at hc
     |some u=>
      simp only[hq,qC,pg]at hc;refine⟨u,?_,hc⟩;obtain⟨ax,BT⟩:=MW.1 hq;have asz:j<b.size:=by simpa using ax
      rw[getElem?_pos b j asz];simp only[<-BT];rfl
    obtain⟨u,YJ,hu2⟩:=hj;exact⟨.int .u8 u.toNat,by simp only[execOp];exact lP (by simp[Instr.index,ei,asIntOf,run_underlying hu w,hv,YJ]),by simp[VR,hu2]⟩
   .cases h
  .cases h
 case lookup t x k ok=>
  unfold L4 at h;split at h;next kt elem m key hu hx hk=>obtain⟨v0,h0,rfl⟩:=tb h;obtain⟨v',h1,h2⟩:=aug (P:=P) hw hu h0 (hr x (by simp[Op.operands]) _ hx) (hr k (by simp[Op.operands]) _ hk);have h2:=Z4 (P:=P) (H:=H) (elem:=elem) (ok:=ok) h2;exact⟨v',by simp only[execOp];exact lP h1,h2⟩
  .cases h
 case typeAssert x xt qi ok=>
  unfold aip at h;split at h
  .cases h
  next d a sV hu hx=>have⟨v',h1,h2⟩:=aom (xT:=xt) hu (λms e=>sV ms e) h (hr x (by simp[Op.operands]) _ hx) w;exact⟨v',by simp only[execOp];exact lP h1,h2⟩
  .cases h
 case extract x i=>
  unfold aij at h;split at h;next vs hx=>
   have⟨ep,hv,jA⟩:=hr x (by simp[Op.operands]) _ hx;have⟨v',h1,h2⟩:=jA.get h;have h3:ep[i]? =some v':=by simpa using h1
   exact⟨v',by simp only[execOp];exact lP (by simp[Instr.extract,hv,h3]),h2⟩
  .cases h
 case call c=>
  have⟨callee,args,argTypes⟩:=c;cases callee<;>simp only at h<;>try (cases h;done)
  rename_i b;unfold Zo at h;split at h;next l hl=>have jA:=AZ (hr.pC (λx hx=>by simp[Op.operands,Call.operands];simpa using hx)) hl;have⟨v',h1,h2⟩:=atJ (T:=type) hw (vs:=args.map ev) (by simpa using jA) h;refine⟨v',?_,h2⟩;exact h1 _
  .cases h
end
end
end Go.Ev
