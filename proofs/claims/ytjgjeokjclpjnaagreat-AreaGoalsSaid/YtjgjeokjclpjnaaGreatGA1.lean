/- The evaluator: definitions, reads. -/
import GoSem.Step
import Derived.WalkKit
import Derived.Defers
import Derived.ChangeKeysEq
import Derived.Laws.CopyRow
import Derived.Laws.Rows
import Derived.MapKept
import Derived.RangeFuncOwn
set_option linter.all false
set_option linter.unusedSectionVars false
namespace Go.Ev
noncomputable section
abbrev LI:=List Int
abbrev LN:=List Nat
abbrev LP:=List (Int×Int)
abbrev aP:= @Int.ofNat
abbrev iL:= @List.cons.injEq
abbrev mo:= @List.eq_nil_of_length_eq_zero
abbrev gZ:= @List.map_cons
abbrev iW:= @List.mem_append
abbrev mY:= @List.getD_cons_zero
abbrev fu:= @Nat.zero_le
abbrev pE:= @Nat.le_of_ble_eq_true
abbrev mq:= @List.all_eq_true
abbrev r9:= @Option.map_some
abbrev ri:= @Option.bind_some
abbrev r_:= @List.getD_cons_succ
abbrev mr:= @List.append_inj
abbrev sX:= @List.length_eq_zero_iff
abbrev lB:= @Bool.and_self
abbrev qo:= @List.length_map
abbrev yf:= @List.getElem?_take_of_lt
abbrev wJ:= @List.length_take
abbrev kQ:= @Nat.le_trans
abbrev lC:= @Nat.beq_refl
abbrev wK:= @Array.getElem?_toList
abbrev rj:= @Bool.eq_false_iff
abbrev Bn:= @Array.getElem?_eq_getElem
abbrev vj:= @List.getElem?_drop
abbrev sa:= @List.getElem?_map
abbrev Bo:= @List.getElem?_eq_none
abbrev sb:= @List.mem_map
abbrev qp:= @List.map_append
abbrev zL:= @Bool.not_eq_true'
abbrev sY:= @List.all_append
abbrev sc:= @Bool.eq_iff_iff
abbrev Bp:= @List.mem_map_of_mem
abbrev ug:= @List.filter_cons
abbrev yg:= @List.pairwise_append
abbrev mu:= @Nat.mul_one
abbrev wL:= @List.nodup_cons
abbrev sd:= @List.take_add_one
abbrev DI:= @List.getElem_cons_succ
abbrev Bq:= @List.take_take
abbrev sZ:= @Bool.false_and
abbrev s6:= @List.take_length
abbrev JO:= @List.flatten_cons
abbrev TC:= @List.getElem?_cons_succ
abbrev JP:= @List.filter_append
abbrev wM:= @List.drop_drop
abbrev zM:= @Option.any_some
abbrev zN:= @List.mem_filter
abbrev DJ:= @Option.map_eq_some_iff
abbrev Br:= @List.take_of_length_le
abbrev DK:= @Array.toList_append
abbrev vl:= @Nat.ble_eq
abbrev yh:= @List.take_left'
abbrev JQ:= @Bool.false_eq_true
abbrev TD:= @Nat.mul_le_mul_right
abbrev Gh:= @List.mem_of_mem_take
abbrev JR:= @List.drop_length_add_append
abbrev yi:= @Nat.add_mul
abbrev NS:= @Array.getElem?_eq_some_iff
abbrev qdq:= @List.getElem_cons_zero
abbrev zO:= @List.drop_take
abbrev JS:= @List.getElem?_take
abbrev NT:= @List.flatten_nil
abbrev JT:= @List.mem_of_mem_drop
abbrev yj:= @Decidable.not_not
abbrev NU:= @Nat.min_eq_left
abbrev NV:= @Array.getD_eq_getD_getElem?
abbrev Gi:= @Nat.add_zero
abbrev Bt:= @Bool.and_true
abbrev DL:= @Nat.zero_lt_succ
abbrev qeb:= @List.length_drop
abbrev Gj:= @List.pairwise_cons
abbrev NW:= @List.getElem?_eq_some_iff
abbrev JU:= @List.mem_of_getElem?
abbrev TE:= @List.mem_append_left
abbrev DM:= @Nat.lt_succ_of_lt
abbrev qeh:= @List.flatMap_cons
abbrev qei:= @List.take_succ_cons
abbrev zP:= @List.nodup_nil
abbrev JV:= @Nat.eq_zero_or_pos
abbrev qel:= @Nat.zero_mul
abbrev TF:= @Array.getElem?_setIfInBounds
abbrev TG:= @Bool.or_eq_true
abbrev JW:= @Prod.mk.injEq
abbrev DN:= @List.foldl_append
abbrev TH:= @Option.getD_some
abbrev Gk:= @Nat.lt_or_ge
abbrev qes:= @List.flatten_append
abbrev qeu:= @Option.isSome_iff_exists
abbrev Gl:= @Nat.add_assoc
abbrev JX:= @Nat.lt_of_lt_of_le
abbrev NX:= @List.mem_filterMap
abbrev TI:= @List.filter_eq_nil_iff
abbrev TJ:= @List.ext_getElem?
abbrev NY:= @Array.isEmpty_iff
abbrev JY:= @List.mem_range
abbrev NZ:= @List.foldl_nil
abbrev Gm:= @Bool.and_false
abbrev cL:= @List.length_append
abbrev ei:= @List.length_cons
abbrev gY:= @List.length_nil
abbrev az:= @if_neg
abbrev aL:= @if_pos
abbrev dc:= @Bool.and_eq_true
abbrev gR:= @List.drop_eq_nil_of_le
abbrev de:= @Option.some.inj
abbrev dw:= @Nat.eq_of_beq_eq_true
abbrev en:= @List.mem_cons_of_mem
abbrev dX:= @of_decide_eq_true
abbrev eB:= @of_decide_eq_false
abbrev dY:= @List.mem_cons_self
abbrev dK:= @List.mem_cons
abbrev r6:= @Int.ofNat_eq_natCast
abbrev gS:= @List.getElem?_eq_getElem
abbrev jH:= @List.append_nil
abbrev km:= @List.append_assoc
abbrev cE:= @Nat.le_refl
abbrev DG:= @decide_eq_true_eq
abbrev qau:= @Classical.byContradiction
abbrev kD:= @Nat.zero_add
abbrev lA:= @Nat.lt_succ_self
abbrev ye:= @List.drop_zero
abbrev sV:= @List.foldl_cons
abbrev DH:= @Int.le_refl
abbrev pD:= @List.mem_singleton
abbrev r7:= @Bool.true_and
abbrev JN:= @List.getElem?_append_right
abbrev wH:= @List.take_append_drop
abbrev qbe:= @List.drop_left
abbrev r8:= @List.getElem_mem
abbrev nX:= @Option.some.injEq
abbrev oC:= @List.cons_append
abbrev zK:= @List.nil_append
section
inductive Tr(α:Type)where
 |il
 |gy (v:Option α) (l r:Tr α)
namespace Tr
variable{α:Type}
def bZ(t:Tr α):Nat->Option α:=
 @Tr.rec α (λ_=>Nat->Option α) (λ_=>none)
  (λv _ _ gl gr n=> @Bool.rec (λ_=>Option α) (@Bool.rec (λ_=>Option α) (gr (Nat.sub (Nat.div n 2) 1)) (gl (Nat.div n 2)) (Nat.beq (Nat.mod n 2) 1)) v (Nat.beq n 0)) t
def wS(f:Nat):Nat->α->Tr α:=
 @Nat.rec (λ_=>Nat->α->Tr α) (λ_ a=>.gy (some a) .il .il)
  (λ_ sg n a=> @Bool.rec (λ_=>Tr α) (@Bool.rec (λ_=>Tr α) (.gy none .il (sg (Nat.sub (Nat.div n 2) 1) a)) (.gy none (sg (Nat.div n 2) a) .il) (Nat.beq (Nat.mod n 2) 1)) (.gy (some a) .il .il) (Nat.beq n 0)) f
def gz(t:Tr α):Nat->α->Tr α:=
 @Tr.rec α (λ_=>Nat->α->Tr α) (λn a=>wS n n a)
  (λv l r sl sr n a=> @Bool.rec (λ_=>Tr α) (@Bool.rec (λ_=>Tr α) (.gy v l (sr (Nat.sub (Nat.div n 2) 1) a)) (.gy v (sl (Nat.div n 2) a) r) (Nat.beq (Nat.mod n 2) 1)) (.gy (some a) l r) (Nat.beq n 0)) t
def BK(t:Tr α):Nat->Tr α:=
 @Tr.rec α (λ_=>Nat->Tr α) (λ_=>.il)
  (λv l r el er n=> @Bool.rec (λ_=>Tr α) (@Bool.rec (λ_=>Tr α) (.gy v l (er (Nat.sub (Nat.div n 2) 1))) (.gy v (el (Nat.div n 2)) r) (Nat.beq (Nat.mod n 2) 1)) (.gy none l r) (Nat.beq n 0)) t
def Dw:List α->Nat->Tr α->Tr α
 |[],_,t=>t
 |a::l,n,t=>Dw l (n+1) (t.gz n a)
end Tr
inductive AV where
 |au (b:Bool)
 |bV (k:IntKind) (n:Int)
 |ad (s:LN)
 |aa (id off:Nat)
 |kP
 |bw (id off len cap sz:Nat) (ex:Bool)
 |aM
 |aB (id:Nat)
 |mW
 |bn (fn:Fn) (first lM:List AV)
 |gN (l:Nat)
 |qz
 |ec (t:TypeId) (v:AV)
 |lJ
 |ai (cs:List AV)
 |aC (vs:List AV)
 |vV (g:Nat)
 |ah (cs:List AV) (len sz:Nat)
 |pK (cs:List AV)
 |aj (id len sz:Nat)
 |fw (n off:Nat)
 |fE (n len sz:Nat)
 |rC
 |dN (v:AV)
 deriving Inhabited
def dL(b:ByteArray):LN:=b.data.toList.map UInt8.toNat
def wq:Fn->Bool
 |.yield _=>true
 |_=>false
def Qp:Value->Option AV
 |.bool b=>some (.au b)
 |.int k n=>some (.bV k n)
 |.string s=>some (.ad (dL s))
 |.pointer none=>some .kP
 |.slice none 0 0=>some .aM
 |.map none=>some .mW
 |.func fn f c=>bif wq fn|| !f.isEmpty|| !c.isEmpty then none else some (.bn fn [] [])
 |.nilFunc=>some .qz
 |.nilIface=>some .lJ
 |_=>none
abbrev LV:=List AV
def HM:List Value->Option LV
 |[]=>some []
 |v::l=>match Qp v with
  |none=>none
  |some a=>match HM l with
   |none=>none
   |some as=>some (a::as)
def Kt:Value->Option AV
 |.agg cs=>(HM cs.toList).map .ai
 |.tuple cs=>bif cs.isEmpty then some (.aC [])else none
 |v=>Qp v
def AV.cY:AV->Bool
 |.ai _|.aC _=>false
 |_=>true
def AV.dQ:AV->LV
 |.ai cs=>cs
 |v=>[v]
def AV.l5:AV:=.aC []
mutual
def eR:AV->Bool
 |.aa .. |.bw .. |.aB _|.gN _|.aj .. =>false
 |.bn _ f c=>zI f&&zI c
 |.ec _ v=>eR v
 |.ai cs=>zI cs
 |.aC cs=>zI cs
 |_=>true
def zI:LV->Bool
 |[]=>true
 |a::l=>eR a&&zI l
end
def cb:LN->LN->Bool
 |[],[]=>true
 |a::l,b::m=>bif Nat.beq a b then cb l m else false
 |_,_=>false
def kB:LN->LN->Bool
 |_,[]=>false
 |[],_::_=>true
 |a::x,b::y=>bif Nat.ble (a+1) b then true else bif Nat.beq a b then kB x y else false
inductive pR where
 |vu (fn:Fn) (lM args:LV)
 |oH (r:Nat)
inductive bf where
 |al (vs:LV) (elem:TypeId)
 |aY (es:List (AV×AV×Nat)) (clock:Nat) (p:Bool)
 |uk (s:LN) (pos:Nat)
 |jg (m:Option Nat) (since:Nat) (bK:LN) (DW:Nat)
 |hQ (state:LoopState) (pending:Option Code) (fn:Nat) (tmps:Tr AV) (nt:Nat) (params:List Tmp) (assign body:Code) (defers:Nat)
 |pP (Qk:Option (List pR))
 |bm (vs:LV)
 |dU (vs:LV) (elem:TypeId)
 |aA (vs:LV) (elem:TypeId)
structure XH where
 g:Nat->Option bf
 n:Nat
structure AH where
 h:Tr bf
 bx:Nat
 x:Option XH
def AH.eN:AH->bf->AH
 |⟨h,n,x⟩,o=>⟨h.gz n o,Nat.succ n,x⟩
def AH.cV:AH->Nat->bf->AH
 |⟨h,n,x⟩,id,o=>⟨h.gz id o,n,x⟩
def AH.bc:AH->Nat->Option bf
 |⟨h,_,_⟩,id=>h.bZ id
def XH.set(X:XH)(n:Nat)(o:Option bf):XH:=⟨λi=>bif Nat.beq i n then o else X.g i,X.n⟩
def AH.gT:AH->Nat->Option bf
 |⟨_,_,some X⟩,n=>X.g n
 |_,_=>none
def AH.n9:AH->Nat->Option bf->AH
 |⟨h,k,some X⟩,n,o=>⟨h,k,some (X.set n o)⟩
 |H,_,_=>H
def AH.OV:AH->bf->Option (Nat×AH)
 |⟨h,k,some X⟩,o=>some (X.n,⟨h,k,some ⟨(X.set X.n (some o)).g,X.n+1⟩⟩)
 |_,_=>none
def kR(z:LV)(n:Nat):LV:=
 match n with
 |0=>[]
 |n+1=>z++kR z n
def AH.qy(H:AH)(id:Nat):Option LV:=
 match H.bc id with
 |some (.al vs _)=>some vs
 |some (.dU vs _)=>some vs
 |some (.aA vs _)=>some vs
 |_=>none
def iG(tmps:Tr AV):Operand->Option AV
 |.tmp t=>tmps.bZ t
 |.const v=>Kt v
 |.global g=>some (.vV g)
 |.func f=>some (.bn (.func f) [] [])
def vK(ρ:Operand->Option AV):List Operand->Option LV
 |[]=>some []
 |x::l=>match ρ x with
  |none=>none
  |some a=>match vK ρ l with
   |none=>none
   |some as=>some (a::as)
def Hw(ρ:Operand->Option AV):List (Nat×Operand)->Option (List (Nat×AV))
 |[]=>some []
 |(i,x)::l=>match ρ x with
  |none=>none
  |some a=>match Hw ρ l with
   |none=>none
   |some as=>some ((i,a)::as)
section types
variable(P:Program)
def De(t:TypeId):Option Bool:=
 match P.underlying t with
 |some (.struct _)|some (.array _ _)=>some true
 |some _=>some false
 |none=>none
def cW(t:TypeId):Option Nat:=(P.info? t).map (·.size)
def uG(t:TypeId):Option Nat:=(P.info? t).map (·.bytes)
def kb(t:TypeId):Option AV:=((P.info? t).bind (·.zero)).bind Kt
def al8:TypeDesc->Bool
 |.int _|.string|.bool=>true
 |_=>false
def al9(t:TypeId):Bool:=
 match P.underlying t with
 |some (.struct gp)=>gp.toList.all λf=>(P.underlying f.type).any al8
 |some d=>al8 d
 |none=>false
def alW(gp:Array Field):Option (List (Nat×Nat)):=
 gp.toList.mapM λf=>(cW P f.type).map λs=>(f.offset,s)
end types
def Bm{α:Type}(P:Program):Sem α->Option α
 |.pure a=>some a
 |.program k=>Bm P (k P)
 |_=>none
def UY:AV->Option Value
 |.au b=>some (.bool b)
 |.bV k n=>some (.int k n)
 |_=>none
def Tc:Value->Option AV
 |.bool b=>some (.au b)
 |.int k n=>some (.bV k n)
 |_=>none
def oE(l:LV)(off n:Nat):Option LV:=
 let r:=(l.drop off).take n
 bif Nat.beq r.length n then some r else none
def aiZ(n:Nat):LV->Bool:=
 @Nat.rec (λ_=>LV->Bool) (λ_=>true) (λ_ r l=> @List.rec AV (λ_=>(LV->Bool)->Bool) (λ_=>false) (λ_ t _ r=>r t) l r) n
def yd(l:LV)(off:Nat)(cs:LV):Option LV:=
 bif aiZ (off+cs.length) l then some (l.take off++(cs++l.drop (off+cs.length)))else none
def AM(JK:Nat->Option (Nat×Nat))(cells:LV):List (Nat×AV)->Option LV
 |[]=>some cells
 |(i,v)::rest=>
  match JK i with
  |none=>none
  |some (off,size)=>
   bif Nat.beq v.dQ.length size then
    match yd cells off v.dQ with
    |none=>none
    |some ara=>AM JK ara rest
   else none
def cz(P:Program)(t:TypeId)(cs:LV)(off:Nat):Option AV:=
 match De P t with
 |some true=>match cW P t with
  |some s=>(oE cs off s).map .ai
  |none=>none
 |some false=>cs[off]?
 |none=>none
def zE(len:Nat):Option Bool:=bif Nat.beq len 0 then none else some false
def iB(P:Program):Nat->TypeId->AV->AV->Option Bool
 |0,_,_,_=>none
 |d+1,t,x,y=>
  match P.underlying t,x,y with
  |some .bool,.au a,.au b=>some (a==b)
  |some (.int _),.bV k a,.bV k' b=>if k=k' then some (a==b)else none
  |some .string,.ad a,.ad b=>some (cb a b)
  |some (.pointer _),.kP,.kP=>some true
  |some (.pointer _),.kP,.aa _ _=>some false
  |some (.pointer _),.aa _ _,.kP=>some false
  |some (.pointer _),.kP,.fw _ _=>some false
  |some (.pointer _),.fw _ _,.kP=>some false
  |some (.slice _),.aM,.aM=>some true
  |some (.slice _),.aM,.bw .. =>some false
  |some (.slice _),.bw ..,.aM=>some false
  |some (.map _ _),.mW,.mW=>some true
  |some (.map _ _),.mW,.aB _=>some false
  |some (.map _ _),.aB _,.mW=>some false
  |some (.func _ _ _),.qz,.qz=>some true
  |some (.func _ _ _),.qz,.bn _ _ _=>some false
  |some (.func _ _ _),.bn _ _ _,.qz=>some false
  |some (.interface _),.lJ,.lJ=>some true
  |some (.interface _),.lJ,.ec _ _=>some false
  |some (.interface _),.ec _ _,.lJ=>some false
  |some (.interface _),.ec tx vx,.ec ty vy=>
   bif Nat.beq tx ty then
    match P.info? tx with
    |some i=>bif i.comparable then iB P d tx vx vy else none
    |none=>none
   else some false
  |some (.struct gp),.ai xs,.ai ys=>
   bif P.stoodInHeld t then none else Et P d gp.toList xs ys (iB P d)
  |some (.slice _),.aM,.ah _ len _=>zE len
  |some (.slice _),.ah _ len _,.aM=>zE len
  |some (.slice _),.aM,.aj _ len _=>zE len
  |some (.slice _),.aj _ len _,.aM=>zE len
  |some (.slice _),.aM,.fE _ len _=>some (Nat.beq len 0)
  |some (.slice _),.fE _ len _,.aM=>some (Nat.beq len 0)
  |_,_,_=>none
where
 Et (P:Program) (d:Nat):List Field->LV->LV->(TypeId->AV->AV->Option Bool)->Option Bool
 |[],_,_,_=>some true
 |f::fs,xs,ys,eq=>
  if f.name= "_" then none else
  match cz P f.type xs f.offset,cz P f.type ys f.offset with
  |some a,some b=>match eq f.type a b with
   |some true=>Et P d fs xs ys eq
   |some false=>some false
   |none=>none
  |_,_=>none
def tX:Operand->Bool
 |.const _=>true
 |_=>false
def Yg(op:BinOp)(x y:LN):Option AV:=
 match op with
 |.add=>bif Nat.ble (x.length+y.length) 1000000 then some (.ad (x++y))else none
 |.eql=>some (.au (cb x y))
 |.neq=>some (.au (!cb x y))
 |.lss=>some (.au (kB x y))
 |.leq=>some (.au (kB x y||cb x y))
 |.gtr=>some (.au (!(kB x y||cb x y)))
 |.geq=>some (.au (!kB x y))
 |_=>none
def oQ:AV->Nat
 |.au _=>0
 |.aa .. |.kP|.fw .. =>1
 |.bw .. |.aM|.ah .. |.aj .. |.fE .. =>2
 |.aB _|.mW=>3
 |.bn .. |.qz=>4
 |.ec .. |.lJ=>5
 |.ai _=>6
 |_=>9
def Cy(P:Program)(t:TypeId)(x y:Operand):AV->AV->Bool
 |.lJ,.lJ=>tX x||tX y
 |.ai _,.ai _=> !P.eqGuardType P.depth t
 |_,_=>true
def Ci(P:Program)(op:BinOp)(t:TypeId)(a b:AV):Option AV:=
 match op with
 |.eql=>(iB P 100 t a b).map .au
 |.neq=>(iB P 100 t a b).map λr=>.au (!r)
 |_=>none
def HD(P:Program)(op:BinOp)(t:TypeId)(x y:Operand)(a b:AV):Option AV:=
 match a,b with
 |.bV k m,.bV k' n=>(Bm P (Go.binOp op t (.int k m) (.int k' n))).bind Tc
 |.ad l,.ad m=>Yg op l m
 |a,b=>bif Nat.beq (oQ a) (oQ b)&& !Nat.beq (oQ a) 9&&Cy P t x y a b then Ci P op t a b else none
def oz:AV->Option Nat
 |.bV _ (.ofNat n)=>some n
 |_=>none
def vW(n:Nat):AV:=.bV .i64 (.ofNat n)
def oJ(eq:AV->AV->Option Bool)(k:AV):List (AV×AV×Nat)->Nat->Option (Option (Nat×AV×Nat))
 |[],_=>some none
 |(x,v,b)::es,i=>match eq k x with
  |some true=>some (some (i,v,b))
  |some false=>oJ eq k es (i+1)
  |none=>none
def NO:TypeDesc->AV->Bool
 |.int _,.bV _ _|.string,.ad _|.bool,.au _=>true
 |_,_=>false
def ab2(P:Program)(cs:LV)(f:Field):Bool:=
 match P.underlying f.type,cs[f.offset]? with
 |some d,some a=>NO d a
 |_,_=>false
def sT(P:Program)(t:TypeId)(k:AV):Bool:=
 match P.underlying t,k with
 |some (.struct gp),.ai cs=>gp.toList.all (ab2 P cs)
 |some d,a=>NO d a
 |none,_=>false
def t_(P:Program)(H:AH)(t:TypeId)(id off:Nat):Option AV:=
 match H.qy id with
 |none=>none
 |some vs=>cz P t vs off
def yQ:Option bf->Option LV
 |some (.al vs _)=>some vs
 |some (.aA vs _)=>some vs
 |_=>none
def pt(P:Program)(H:AH)(t:TypeId)(n off:Nat):Option AV:=
 match yQ (H.gT n)with
 |none=>none
 |some vs=>cz P t vs off
def F4(H:AH):AV->Option Nat
 |.ad s=>some s.length
 |.bw _ _ len _ _ _=>some len
 |.ah _ len _=>some len
 |.aj _ len _=>some len
 |.fE _ len _=>some len
 |.rC=>some 0
 |.aM=>some 0
 |.mW=>some 0
 |.aB id=>match H.bc id with
  |some (.aY es _ _)=>some es.length
  |_=>none
 |_=>none
def T8(s:LN)(lo hi:Option AV):Option AV:=
 match(match hi with|some v=>oz v|none=>some s.length),(match lo with|some v=>oz v|none=>some 0)with
 |some h,some l=>bif Nat.ble h s.length&&Nat.ble l h then some (.ad ((s.take h).drop l))else none
 |_,_=>none
def Ly(ex:Bool)(lo:Option AV)(cap l:Nat):Nat:= @Bool.rec (λ_=>Nat) (match lo with|none=>cap|some _=>0) (cap-l) ex
def Gu(id off len cap sz:Nat)(ex:Bool)(lo hi mx:Option AV):Option AV:=
 match mx with
 |none=>
  match(match hi with|some v=>oz v|none=>some len),(match lo with|some v=>oz v|none=>some 0)with
  |some h,some l=>
   bif Nat.ble h (bif ex then cap else len)&&Nat.ble l h then some (.bw id (off+l*sz) (h-l) (Ly ex lo cap l) sz ex)else none
  |_,_=>none
 |some m=>
  match oz m,(match hi with|some v=>oz v|none=>none),(match lo with|some v=>oz v|none=>some 0)with
  |some m,some h,some l=>
   bif Nat.ble m (bif ex then cap else len)&&Nat.ble h m&&Nat.ble l h then some (.bw id (off+l*sz) (h-l) (m-l) sz true)else none
  |_,_,_=>none
def T9(cs:LV)(len sz:Nat)(lo hi mx:Option AV):Option AV:=
 match mx with
 |none=>
  match(match hi with|some v=>oz v|none=>some len),(match lo with|some v=>oz v|none=>some 0)with
  |some h,some l=>bif Nat.ble h len&&Nat.ble l h then some (.ah ((cs.drop (l*sz)).take ((h-l)*sz)) (h-l) sz)else none
  |_,_=>none
 |some _=>none
def rX(ρ:Operand->Option AV):Option Operand->Option (Option AV)
 |none=>some none
 |some x=>(ρ x).map some
def Iq(mx:Bool):AV->LV->Option AV
 |a,[]=>some a
 |.bV k x,.bV _ y::l=>Iq mx (.bV k (bif mx then(if y>x then y else x)else(if y<x then y else x))) l
 |_,_=>none
section awH
variable(P:Program)(ρ:Operand->Option AV)(H:AH)
def Kr(g:Nat->AV)(cs:LV)(elem:TypeId):Option (bf×(Nat->AV)):=
 bif cs.all AV.cY then some (.al cs elem,g)else none
def XL(id:Nat):AV:=.aa id 0
def Hz(len cap sz id:Nat):AV:=.bw id 0 len cap sz true
def aa0(c a b:Operand):Option AV:=
 match ρ c with
 |some (.au t)=>bif t then ρ a else ρ b
 |_=>none
def aaT(e:TypeId):Option (bf×(Nat->AV)):=
 match kb P e with
 |some z=>Kr XL z.dQ e
 |none=>none
def aaU(e:TypeId)(x:Operand):Option (bf×(Nat->AV)):=
 match ρ x with
 |some v=>Kr XL v.dQ e
 |none=>none
def XZ(z:AV)(gp:Array Field)(ps:List (Nat×AV)):Option AV:=
 match alW P gp with
 |some pl=>(AM (pl[·]?) z.dQ ps).map .ai
 |none=>none
def XY(z:AV)(elem:TypeId)(ps:List (Nat×AV)):Option AV:=
 match cW P elem with
 |some s=>(AM (λi=>some (i*s,s)) z.dQ ps).map .ai
 |none=>none
def aaV(t:TypeId)(oB:Array (Nat×Operand)):Option AV:=
 match kb P t,P.underlying t,Hw ρ oB.toList with
 |some z,some (.struct gp),some ps=>XZ P z gp ps
 |some z,some (.array _ elem),some ps=>XY P z elem ps
 |_,_,_=>none
def X3(elem:TypeId)(len:Nat)(ps:List (Nat×AV))(s:Nat)(z:AV):Option (bf×(Nat->AV)):=
 bif Nat.ble (len*s) 4194304&&Nat.beq z.dQ.length s then
  match AM (λi=>some (i*s,s)) (kR z.dQ len) ps with
  |some cs=>Kr (Hz len len s) cs elem
  |none=>none
 else none
def aaW(t:TypeId)(len:Nat)(oB:Array (Nat×Operand)):Option (bf×(Nat->AV)):=
 match P.underlying t,Hw ρ oB.toList with
 |some (.slice elem),some ps=>match cW P elem,kb P elem with
  |some s,some z=>X3 elem len ps s z
  |_,_=>none
 |_,_=>none
def SA(t:TypeId)(a:Operand):Option AV:=
 match ρ a with
 |some (.aa id off)=>t_ P H t id off
 |some (.pK cs)=>cz P t cs 0
 |some (.fw n off)=>pt P H t n off
 |_=>none
def akl(x:Operand):Option AV:=
 match ρ x with
 |some (.aa id off)=>some (.aa id off)
 |some (.pK cs)=>some (.pK cs)
 |some (.fw n off)=>some (.fw n off)
 |some (.bn (.func f) l c)=>some (.bn (.func f) l c)
 |some (.ec t v)=>some (.ec t v)
 |_=>none
def M6(op:BinOp)(t:TypeId)(x y:Operand):Option AV:=
 match ρ x,ρ y with
 |some a,some b=>HD P op t x y a b
 |_,_=>none
def lUn(op:UnOp)(x:Operand):Option AV:=
 match ρ x with
 |some a=>(UY a).bind λv=>(Bm P (Op.unary op v)).bind Tc
 |none=>none
def akf(my dst:TypeId)(x:Operand):Option AV:=
 match P.underlying my,P.underlying dst,ρ x with
 |some (.int _),some (.int k),some (.bV _ n)=>some (.bV k (k.wrap n))
 |some .string,some .string,some (.ad s)=>some (.ad s)
 |_,_,_=>none
def akk(t:TypeId)(x:Operand):Option AV:=
 match P.underlying t,ρ x with
 |some (.interface _),_=>none
 |some _,some v=>some (.ec t v)
 |_,_=>none
def akj(fn:Fn)(first lM:Array Operand):Option AV:=
 match vK ρ first.toList,vK ρ lM.toList with
 |some f,some c=>bif wq fn then none else some (.bn fn f c)
 |_,_=>none
def aaZ(t:TypeId)(r:Option Operand):Option (bf×(Nat->AV)):=
 match P.underlying t,rX ρ r with
 |some (.map k e),some none|some (.map k e),some (some (.bV _ _))=>some (.aY [] 0 (al9 P k&&al9 P e),.aB)
 |_,_=>none
def acA(z:LV)(c:Nat)(elem:TypeId):bf:=.dU (kR z c) elem
def abj(elem:TypeId)(l c:Nat)(s:Nat)(z:AV)(gB:Nat):Option (bf×(Nat->AV)):=
 bif Nat.ble l c&&Nat.ble c 4194304&&Nat.ble gB 4194304&&Nat.ble s 4194304&&Nat.beq z.dQ.length s&&z.dQ.all AV.cY&&z.dQ.all eR then
  some (acA z.dQ c elem,Hz l c s)
 else none
def akW(elem:TypeId)(l c:Nat)(s:Nat)(z:AV)(gB:Nat):Option (bf×(Nat->AV)):=
 bif Nat.ble l c&&Nat.ble c 4194304&&Nat.ble gB 4194304&&Nat.ble s 4194304&&Nat.beq z.dQ.length s&&z.dQ.all AV.cY then
  some (.al (kR z.dQ c) elem,Hz l c s)
 else none
def SB(t:TypeId)(len cap:Operand):Option (bf×(Nat->AV)):=
 match P.underlying t,ρ len,ρ cap with
 |some (.slice elem),some (.bV .i64 (.ofNat l)),some (.bV .i64 (.ofNat c))=>match cW P elem,kb P elem,uG P elem with
  |some s,some z,some gB=>bif tX cap then akW elem l c s z gB else abj elem l c s z gB
  |_,_,_=>none
 |_,_,_=>none
def Ej:Option AV->Bool
 |none=>true
 |some v=>(oz v).any (Nat.beq 0)
def Dk(t:TypeId)(x:Operand)(lo hi mx:Option Operand):Option AV:=
 match rX ρ lo,rX ρ hi,rX ρ mx with
 |some l,some h,some m=>match P.underlying t,ρ x with
  |some .string,some (.ad s)=>bif m.isNone then T8 s l h else none
  |some (.slice elem),some (.bw id off len cap sz ex)=>bif (cW P elem).any (Nat.beq sz)then Gu id off len cap sz ex l h m else none
  |some (.slice elem),some (.ah cs len sz)=>bif (cW P elem).any (Nat.beq sz)then T9 cs len sz l h m else none
  |some (.slice elem),some (.aj id len sz)=>bif (cW P elem).any (Nat.beq sz)&&Nat.ble 1 len&&m.isNone then Gu id 0 len 1 sz false l h none else none
  |some (.slice elem),some (.fE _ _ _)=>bif Ej l&&Ej h&&Ej m&&m.isSome&&h.isSome&&(cW P elem).isSome then some .rC else none
  |some (.slice elem),some .aM=>bif Ej l&&Ej h&&Ej m&&(m.isNone||h.isSome)&&(cW P elem).isSome then some .aM else none
  |some (.array n elem),some (.aa id off)=>match cW P elem,H.qy id with
   |some sz,some vs=>bif Nat.ble (off+n*sz) vs.length then Gu id off n n sz true l h m else none
   |_,_=>none
  |_,_=>none
 |_,_,_=>none
def ahO(id off:Nat)(gp:Array Field)(f:Nat):Option AV:=
 match gp[f]? with
 |some fd=>match cW P fd.type with
  |some (_+1)=>some (.aa id (off+fd.offset))
  |_=>none
 |none=>none
def ahP(cs:LV)(gp:Array Field)(f:Nat):Option AV:=
 match gp[f]? with
 |some fd=>match cW P fd.type with
  |some (_+1)=>bif Nat.ble fd.offset cs.length then some (.pK (cs.drop fd.offset))else none
  |_=>none
 |none=>none
def ahQ(n off:Nat)(gp:Array Field)(f:Nat):Option AV:=
 match gp[f]? with
 |some fd=>match cW P fd.type with
  |some (_+1)=>some (.fw n (off+fd.offset))
  |_=>none
 |none=>none
def aki(s:TypeId)(x:Operand)(f:Nat):Option AV:=
 match P.underlying s,ρ x with
 |some (.struct gp),some (.aa id off)=>ahO P id off gp f
 |some (.struct gp),some (.pK cs)=>ahP P cs gp f
 |some (.struct gp),some (.fw n off)=>ahQ P n off gp f
 |_,_=>none
def ahN(cs:LV)(gp:Array Field)(f:Nat):Option AV:=
 match gp[f]? with
 |some fd=>cz P fd.type cs fd.offset
 |none=>none
def akh(t:TypeId)(x:Operand)(f:Nat):Option AV:=
 match P.underlying t,ρ x with
 |some (.struct gp),some (.ai cs)=>ahN P cs gp f
 |_,_=>none
def Ca(id off n:Nat)(elem:TypeId)(i:Nat):Option AV:=
 match cW P elem with
 |some s=>bif Nat.ble (i+1) n then some (.aa id (off+i*s))else none
 |none=>none
def Qz(cs:LV)(len sz:Nat)(elem:TypeId)(i:Nat):Option AV:=
 match cW P elem with
 |some s=>bif Nat.beq s sz&&Nat.ble (i+1) len then some (.pK ((cs.drop (i*s)).take s))else none
 |none=>none
def M7(t:TypeId)(x i:Operand):Option AV:=
 match P.underlying t,ρ x,ρ i with
 |some (.array n elem),some (.aa id off),some (.bV _ (.ofNat i))=>Ca P id off n elem i
 |some (.slice elem),some (.bw id off len _ _ _),some (.bV _ (.ofNat i))=>Ca P id off len elem i
 |some (.slice elem),some (.ah cs len sz),some (.bV _ (.ofNat i))=>Qz P cs len sz elem i
 |some (.slice elem),some (.aj id len sz),some (.bV _ (.ofNat i))=>bif (cW P elem).any (Nat.beq sz)then Ca P id 0 len elem i else none
 |_,_,_=>none
def YG(cs:LV)(n:Nat)(elem:TypeId)(i:Nat):Option AV:=
 match cW P elem with
 |some s=>bif Nat.ble (i+1) n then cz P elem cs (i*s)else none
 |none=>none
def X8(s:LN)(i:Nat):Option AV:=
 match s[i]? with
 |some b=>some (.bV .u8 (.ofNat b))
 |none=>none
def Sz(t:TypeId)(x i:Operand):Option AV:=
 match P.underlying t,ρ x,ρ i with
 |some (.array n elem),some (.ai cs),some (.bV _ (.ofNat i))=>YG P cs n elem i
 |some .string,some (.ad s),some (.bV _ (.ofNat i))=>X8 s i
 |_,_,_=>none
def Cg(m:AV):Option (List (AV×AV×Nat)):=
 match m with
 |.mW=>some []
 |.aB id=>match H.bc id with
  |some (.aY es _ _)=>some es
  |_=>none
 |_=>none
def mX(ok:Bool)(v:AV)(b:Bool):AV:=bif ok then .aC [v,.au b]else v
def Nd(kt elem:TypeId)(m key:AV)(ok:Bool):Option AV:=
 bif sT P kt key then
  match Cg H m with
  |some es=>match oJ (iB P 100 kt) key es 0 with
   |some (some (_,v,_))=>some (mX ok v true)
   |some none=>(kb P elem).map (mX ok · false)
   |none=>none
  |none=>none
 else none
def Gc(s:Nat):AV->AV
 |.aM=>.fE 0 0 s
 |v=>v
def lv(elem:TypeId)(ok:Bool)(v:AV):AV:=
 match H.x with
 |none=>v
 |some _=>match P.underlying elem with
  |some (.slice e)=>match cW P e with
   |some s=>bif ok then(match v with|.aC [a,b]=>.aC [Gc s a,b]|v=>v)else Gc s v
   |none=>v
  |_=>v
def M8(t:TypeId)(x k:Operand)(ok:Bool):Option AV:=
 match P.underlying t,ρ x,ρ k with
 |some (.map kt elem),some m,some key=>(Nd P H kt elem m key ok).map (lv P H elem ok)
 |_,_,_=>none
def XJ(qJ:TypeId)(ok:Bool)(x:AV):Option AV:=
 match x with
 |.ec t v=>
  bif Nat.beq t qJ then some (mX ok v true)
  else bif ok then(kb P qJ).map (mX true · false)else none
 |.lJ=>bif ok then(kb P qJ).map (mX true · false)else none
 |_=>none
def akm(x:Operand)(qJ:TypeId)(ok:Bool):Option AV:=
 match P.underlying qJ,ρ x with
 |some (.interface _),_=>none
 |some _,some v=>XJ P qJ ok v
 |_,_=>none
def akg(x:Operand)(i:Nat):Option AV:=
 match ρ x with
 |some (.aC vs)=>vs[i]?
 |_=>none
def xY:TypeDesc->AV->Bool
 |.string,.ad _|.slice _,.bw .. |.slice _,.ah .. |.slice _,.aj .. |.slice _,.fE .. |.slice _,.rC|.slice _,.aM|.map _ _,.aB _|.map _ _,.mW=>true
 |_,_=>false
def aaY(argTypes:Array TypeId)(x:AV):Option AV:=
 match argTypes[0]?.bind P.underlying with
 |some (.array n _)=>some (vW n)
 |some d=>bif xY d x then(F4 H x).map vW else none
 |none=>none
def ake(argTypes:Array TypeId)(x:AV):Option AV:=
 match argTypes[0]?.bind P.underlying,x with
 |some (.slice _),.bw _ _ _ c _ true=>some (vW c)
 |some (.slice _),.aM=>some (vW 0)
 |_,_=>none
def Sy(b:Builtin)(args:LV)(argTypes:Array TypeId):Option AV:=
 match b,args with
 |.len,[x]=>aaY P H argTypes x
 |.cap,[x]=>ake P argTypes x
 |.max,a::l=>Iq true a l
 |.min,a::l=>Iq false a l
 |_,_=>none
def aaX(b:Builtin)(args:Array Operand)(argTypes:Array TypeId):Option AV:=
 match vK ρ args.toList with
 |some l=>Sy P H b l argTypes
 |none=>none
def f_:Op->Option AV
 |.move x=>ρ x
 |.assign x=>ρ x
 |.pick c a b=>aa0 ρ c a b
 |.build t oB=>aaV P ρ t oB
 |.load t a=>SA P ρ H t a
 |.nilCheck x=>akl ρ x
 |.binOp op t x y _=>M6 P ρ op t x y
 |.unOp op _ x=>lUn P ρ op x
 |.convert my dst x=>akf P ρ my dst x
 |.makeInterface t x=>akk P ρ t x
 |.makeFunc fn first lM=>akj ρ fn first lM
 |.slice t x lo hi mx=>Dk P ρ H t x lo hi mx
 |.fieldAddr s x f=>aki P ρ s x f
 |.field t x f=>akh P ρ t x f
 |.indexAddr t x i=>M7 P ρ t x i
 |.index t x i=>Sz P ρ t x i
 |.lookup t x k ok=>M8 P ρ H t x k ok
 |.typeAssert x _ qJ ok=>akm P ρ x qJ ok
 |.extract x i=>akg ρ x i
 |.call {callee:=.builtin b,args,argTypes}=>aaX P ρ H b args argTypes
 |_=>none
def rb:Op->Option (bf×(Nat->AV))
 |.alloc e=>aaT P e
 |.box e x=>aaU ρ e x
 |.buildSlice t len oB=>aaW P ρ t len oB
 |.makeMap t r=>aaZ P ρ t r
 |.makeSlice t len cap=>SB P ρ t len cap
 |_=>none
end awH
def pq:Op->Bool
 |.move _|.assign _|.pick .. |.build .. |.load .. |.nilCheck _|.binOp .. |.unOp .. |.convert ..
 |.makeInterface .. |.makeFunc .. |.slice .. |.fieldAddr .. |.field .. |.indexAddr .. |.index .. |.lookup ..
 |.typeAssert .. |.extract .. =>true
 |.call {callee:=.builtin b,..}=>match b with
  |.len|.cap|.min|.max=>true
  |_=>false
 |_=>false
def sO:Op->Bool
 |.alloc _|.box .. |.buildSlice .. |.makeMap .. |.makeSlice .. =>true
 |_=>false
def rN(o:Op):Bool:=pq o||sO o
inductive iT where
 |gU (v:AV) (H:AH)
 |qA (f:FuncId) (args:LV)
 |vD (l:Nat) (args:LV)
 |xd (d:pR)
 |vC (v:AV)
 |xe
def Oq(P:Program)(H:AH)(t:TypeId)(n off:Nat)(v:AV):Option AH:=
 match H.gT n,cW P t with
 |some (.al vs e),some s=>
  bif Nat.beq v.dQ.length s&&v.dQ.all AV.cY&&v.dQ.all eR then
   (yd vs off v.dQ).map λeF=>H.n9 n (some (.al eF e))
  else none
 |_,_=>none
def J5(P:Program)(H:AH)(t:TypeId)(id off:Nat)(v:AV):Option AH:=
 match H.bc id,cW P t with
 |some (.al vs e),some s=>
  bif Nat.beq v.dQ.length s&&v.dQ.all AV.cY then
   (yd vs off v.dQ).map λeF=>H.cV id (.al eF e)
  else none
 |some (.dU vs e),some s=>
  bif Nat.beq v.dQ.length s&&v.dQ.all AV.cY&&v.dQ.all eR then
   (yd vs off v.dQ).map λeF=>H.cV id (.dU eF e)
  else none
 |some (.aA vs e),some s=>
  bif Nat.beq v.dQ.length s&&v.dQ.all AV.cY&&v.dQ.all eR then
   (yd vs off v.dQ).map λeF=>H.cV id (.aA eF e)
  else none
 |_,_=>none
def pH(es:List (AV×AV×Nat))(i:Nat)(f:AV×AV×Nat->AV×AV×Nat):List (AV×AV×Nat):=
 match es,i with
 |[],_=>[]
 |e::es,0=>f e::es
 |e::es,i+1=>e::pH es i f
def AL(es:List (AV×AV×Nat))(i:Nat):List (AV×AV×Nat):=
 match es,i with
 |[],_=>[]
 |_::es,0=>es
 |e::es,i+1=>e::AL es i
def Ic:AV->AV->Bool
 |.bV j a,.bV k b=>decide (j=k)&&decide (a=b)
 |.ad a,.ad b=>cb a b
 |.au a,.au b=>a==b
 |_,_=>false
def Fa:LV->LV->Bool
 |[],[]=>true
 |a::l,b::m=>Ic a b&&Fa l m
 |_,_=>false
def Ib:AV->AV->Bool
 |.ai a,.ai b=>Fa a b
 |a,b=>Ic a b
def yo(es:List (AV×AV×Nat))(i:Nat)(k:AV):Bool:=
 match es[i]? with
 |some (x,_,_)=>Ib x k
 |none=>false
def vT(p:Bool)(k v:AV):Bool:=bif p then eR k&&eR v else true
def Jr(P:Program)(H:AH)(t:TypeId)(m k v:AV):Option AH:=
 match P.underlying t,m with
 |some (.map kt _),.aB id=>match H.bc id with
  |some (.aY es clock p)=>
   bif sT P kt k&&vT p k v then
    match oJ (iB P 100 kt) k es 0 with
    |some (some (i,_,_))=>bif yo es i k then some (H.cV id (.aY (pH es i λe=>(k,v,e.2.2)) clock p))else none
    |some none=>some (H.cV id (.aY (es++[(k,v,clock)]) (clock+1) p))
    |none=>none
   else none
  |_=>none
 |_,_=>none
def xr(H:AH)(sz:Nat):AV->Option (Nat×LV)
 |.aM=>some (0,[])
 |.rC=>some (0,[])
 |.fE id len s=>bif Nat.beq s sz then
   match len with
   |0=>some (0,[])
   |_+1=>match H.gT id with
    |some (.aA vs _)=>bif Nat.beq vs.length (len*sz)then some (len,vs)else none
    |_=>none
  else none
 |.bw id off len _ s _=>bif Nat.beq s sz then
   match H.qy id with
   |some vs=>(oE vs off (len*sz)).map (len,·)
   |none=>none
  else none
 |.ad s=>bif Nat.beq sz 1 then some (s.length,s.map λb=>.bV .u8 (.ofNat b))else none
 |.ah cs len s=>bif Nat.beq s sz then some (len,cs)else none
 |.aj id len s=>bif Nat.beq s sz then
   match H.bc id with
   |some (.aA vs _)=>bif Nat.beq vs.length (len*sz)then some (len,vs)else none
   |_=>none
  else none
 |_=>none
def GH(P:Program)(H:AH)(argTypes:Array TypeId)(elem:TypeId)(sz:Nat)(x:AV):Option (Nat×LV):=
 match argTypes[1]?.bind P.underlying with
 |some (.int _)=>match x,kb P elem with
  |.bV .i64 (.ofNat n),some z=>bif Nat.ble n 4194304&&Nat.beq z.dQ.length sz then some (n,kR z.dQ n)else none
  |_,_=>none
 |some _=>xr H sz x
 |none=>none
def Fh(H:AH)(elem:TypeId)(id off len cap sz n:Nat)(ex:Bool)(l:LV):Option (AV×AH):=
 match H.bc id with
 |some (.al vs _)=>match oE vs off (len*sz)with
  |some old=>
   bif (old++l).all AV.cY then
    some (.bw H.bx 0 (len+n) 1 sz false,AH.eN (bif ex&&Nat.ble (cap+1) (len+n)then H else H.cV id (.bm [])) (.al (old++l) elem))
   else none
  |none=>none
 |some (.dU vs _)=>match oE vs off (len*sz)with
  |some old=>
   bif l.all AV.cY&&l.all eR then
    some (.bw H.bx 0 (len+n) 1 sz false,AH.eN (bif ex&&Nat.ble (cap+1) (len+n)then H else H.cV id (.bm [])) (.dU (old++l) elem))
   else none
  |none=>none
 |some (.aA vs _)=>match oE vs off (len*sz)with
  |some old=>
   bif l.all AV.cY&&l.all eR then
    some (.bw H.bx 0 (len+n) 1 sz false,AH.eN (bif ex&&Nat.ble (cap+1) (len+n)then H else H.cV id (.bm [])) (.aA (old++l) elem))
   else none
  |none=>none
 |_=>none
def v5(H:AH)(elem:TypeId)(id len sz n:Nat)(l:LV):Option (AV×AH):=
 match H.bc id with
 |some (.aA vs _)=>bif Nat.beq vs.length (len*sz)&&l.all AV.cY&&l.all eR then some (.aj H.bx (len+n) sz,AH.eN (H.cV id (.bm [])) (.aA (vs++l) elem))else none
 |_=>none
def Sn(H:AH)(n:Nat):Option (Nat×AH):=
 match H.gT n with
 |some (.aA vs el)=>some (H.bx,AH.eN (H.n9 n none) (.aA vs el))
 |_=>none
def QZ(H:AH)(id:Nat):Option (Nat×AH):=
 match H.bc id with
 |some (.aA vs el)=>AH.OV (H.cV id (.bm [])) (.aA vs el)
 |some (.al vs el)=>bif vs.all eR then AH.OV (H.cV id (.bm [])) (.al vs el)else none
 |_=>none
def Ge(sz:Nat)(r:Option (AV×AH)):Option (AV×AH):=
 match r with
 |some (.aj id len _,H)=>(QZ H id).map λp=>(.fE p.1 len sz,p.2)
 |_=>none
def Iw(H:AH)(elem:TypeId)(id len sz n:Nat)(l:LV):Option (AV×AH):=
 match len with
 |0=>Ge sz (v5 (H.eN (.aA [] elem)) elem H.bx 0 sz n l)
 |len+1=>match Sn H id with
  |some (i,H0)=>Ge sz (v5 H0 elem i (len+1) sz n l)
  |none=>none
def mJ(H:AH)(elem:TypeId)(sz:Nat)(s:AV)(n:Nat)(l:LV):Option (AV×AH):=
 match s with
 |.rC=>match n with
  |0=>some (.rC,H)
  |_+1=>bif Nat.ble n 4194304&&l.all AV.cY then some (.bw H.bx 0 n 1 sz false,AH.eN H (.al l elem))else none
 |.fE id len g_=>bif Nat.beq sz g_&&Nat.ble (len+n) 4194304 then
   match n with
   |0=>some (.fE id len g_,H)
   |_+1=>Iw H elem id len sz n l
  else none
 |.aM=>match n with
  |0=>some (.aM,H)
  |_+1=>bif Nat.ble n 4194304&&l.all AV.cY then some (.bw H.bx 0 n 1 sz false,AH.eN H (.al l elem))else none
 |.bw id off len cap g_ ex=>bif Nat.beq sz g_&&Nat.ble (len+n) 4194304 then
   match n with
   |0=>some (.bw id off len cap g_ ex,H)
   |_+1=>Fh H elem id off len cap sz n ex l
  else none
 |.aj id len g_=>bif Nat.beq sz g_&&Nat.ble (len+n) 4194304 then
   match n with
   |0=>some (.aj id len g_,H)
   |_+1=>v5 H elem id len sz n l
  else none
 |_=>none
def M3:AV->Bool
 |.ah .. |.aj .. |.fE .. |.bV .. =>true
 |_=>false
def y'(v:AV)(H:AH):AH:=
 match v with
 |.bw id _ _ _ _ _=>match H.bc id with
  |some (.al vs e)=>bif vs.all eR then H.cV id (.aA vs e)else H
  |_=>H
 |_=>H
def Hx(P:Program)(H:AH)(argTypes:Array TypeId)(s x:AV):Option (AV×AH):=
 match argTypes[0]?.bind P.underlying with
 |some (.slice elem)=>match cW P elem,uG P elem with
  |some sz,some gB=>
   bif Nat.ble gB 4194304&&(kb P elem).any (λz=>Nat.beq z.dQ.length sz)then
    match GH P H argTypes elem sz x with
    |some (n,l)=>match mJ H elem sz s n l with
     |some (v,H')=>some (v,bif M3 x&& !Nat.beq n 0 then y' v H' else H')
     |none=>none
    |none=>none
   else none
  |_,_=>none
 |_=>none
def yP(P:Program)(f:AV)(args:LV):Option iT:=
 match f with
 |.bn (.func g) first lM=>match P.funcs[g]? with
  |some fn=>bif fn.body.isSome&& !(fn.name== "runtime.NumGoroutine")then some (.qA g (first++args++lM))else none
  |none=>none
 |.gN l=>some (.vD l args)
 |_=>none
def amo(P:Program)(H:AH)(t:TypeId)(v:AV)(m:Method):Option (FuncId×AV):=
 match m.func,P.underlying t with
 |some (f,true),some (.pointer _)=>bif m.path.isEmpty then some (f,v)else none
 |some (f,false),some (.pointer el)=>bif m.path.isEmpty then(match v with
   |.aa id off=>match t_ P H el id off with|some v2=>some (f,v2)|none=>none
   |_=>none)else none
 |some (f,false),some _=>bif m.path.isEmpty then some (f,v)else none
 |_,_=>none
def abo(P:Program)(H:AH)(t:TypeId)(v:AV)(name:String):Option (FuncId×AV):=
 match P.info? t with
 |some i=>match i.methods.find? (·.name==name)with
  |some m=>amo P H t v m
  |none=>none
 |none=>none
section auT
variable(P:Program)(ρ:Operand->Option AV)(H:AH)
def rY(v:AV):Option AH->Option iT
 |some H=>some (.gU v H)
 |none=>none
def II(t:TypeId)(a x:Operand):Option iT:=
 match ρ a,ρ x with
 |some (.aa id off),some v=>rY .l5 (J5 P H t id off v)
 |some (.fw n off),some v=>rY .l5 (Oq P H t n off v)
 |_,_=>none
def IG(t:TypeId)(m k x:Operand):Option iT:=
 match ρ m,ρ k,ρ x with
 |some m,some k,some v=>rY .l5 (Jr P H t m k v)
 |_,_,_=>none
def QR(kt elem:TypeId)(id:Nat)(key:AV):Option iT:=
 match H.bc id with
 |some (.aY es clock p)=>
  bif sT P kt key then
   match oJ (iB P 100 kt) key es 0 with
   |some (some (i,v,b))=>bif yo es i key&&vT p key .kP then some (.gU (.aC [lv P H elem false v,vW b]) (H.cV id (.aY (pH es i λe=>(key,e.2)) clock p)))else none
   |some none=>match kb P elem with
    |some z=>bif vT p key z then some (.gU (.aC [lv P H elem false z,vW clock]) (H.cV id (.aY (es++[(key,z,clock)]) (clock+1) p)))else none
    |none=>none
   |none=>none
  else none
 |_=>none
def Mn(t:TypeId)(m k:Operand):Option iT:=
 match P.underlying t,ρ m,ρ k with
 |some (.map kt elem),some (.aB id),some key=>QR P H kt elem id key
 |_,_,_=>none
def QS(id born:Nat)(v:AV):Option iT:=
 match H.bc id with
 |some (.aY es clock p)=>match es.findIdx? (λe=>Nat.beq e.2.2 born)with
  |some i=>bif vT p .kP v then some (.gU .l5 (H.cV id (.aY (pH es i λe=>(e.1,v,e.2.2)) clock p)))else none
  |none=>none
 |_=>none
def Rz(m s x:Operand):Option iT:=
 match ρ m,ρ s,ρ x with
 |some (.aB id),some (.bV _ (.ofNat born)),some v=>QS H id born v
 |_,_,_=>none
def amf(m:Nat):Option iT:=
 match H.bc m with
 |some (.aY _ clock _)=>some (.gU (.aa H.bx 0) (H.eN (.jg (some m) clock [] clock)))
 |_=>none
def RF(t:TypeId)(x:Operand):Option iT:=
 match P.underlying t,ρ x with
 |some .string,some (.ad s)=>some (.gU (.aa H.bx 0) (H.eN (.uk s 0)))
 |some (.map _ _),some .mW=>some (.gU (.aa H.bx 0) (H.eN (.jg none 0 [] 0)))
 |some (.map _ _),some (.aB m)=>amf H m
 |_,_=>none
def NJ(H:AH):Option iT:=some (.gU (.aC [.au false]) H)
def alf(r:Nat)(s:LN)(pos:Nat):Option iT:=
 match s[pos]? with
 |none=>NJ H
 |some b=>bif Nat.ble (b+1) 128 then some (.gU (.aC [.au true,vW pos,.bV .i32 (.ofNat b)]) (H.cV r (.uk s (pos+1))))else none
def Jx(r m since:Nat)(bK:LN)(last:Nat)(es:List (AV×AV×Nat))(clock:Nat):Option iT:=
 bif !bK.isEmpty&& !es.isEmpty&&es.all (λe=>Nat.ble last e.2.2)then none else
 match es.filter λe=> !bK.any (Nat.beq e.2.2)with
 |[]=>NJ H
 |[e]=>bif Nat.ble (e.2.2+1) since then
   some (.gU (.aC [.au true,e.1,e.2.1]) (H.cV r (.jg (some m) since (bK++[e.2.2]) clock)))
  else none
 |_=>none
def abu(r:Nat)(xW:Bool):Option iT:=
 match H.bc r,xW with
 |some (.uk s pos),true=>alf H r s pos
 |some (.jg none _ _ _),false=>NJ H
 |some (.jg (some m) since bK last),false=>match H.bc m with
  |some (.aY es clock _)=>Jx H r m since bK last es clock
  |_=>none
 |_,_=>none
def IH(it:Operand)(xW:Bool):Option iT:=
 match ρ it with
 |some (.aa r 0)=>abu H r xW
 |_=>none
def YX(m DW:Nat)(bK:LN):Option iT:=
 match bK.getLast?,H.bc m with
 |some Bz,some (.aY es clock _)=>
  bif Nat.beq clock DW then
   match es.find? (λe=>Nat.beq e.2.2 Bz)with
   |some e=>some (.gU (.aC [e.1,e.2.1]) H)
   |none=>none
  else none
 |_,_=>none
def Fs(it:Operand):Option iT:=
 match ρ it with
 |some (.aa r 0)=>match H.bc r with
  |some (.jg (some m) _ bK DW)=>YX H m DW bK
  |_=>none
 |_=>none
def Tm:Option (AV×AH)->Option iT
 |some (v,H)=>some (.gU v H)
 |none=>none
def HR(argTypes:Array TypeId)(id:Nat)(k:AV):Option iT:=
 match argTypes[0]?.bind P.underlying,H.bc id with
 |some (.map kt _),some (.aY es clock p)=>
  bif sT P kt k then
   match oJ (iB P 100 kt) k es 0 with
   |some (some (i,_,_))=>some (.gU .l5 (H.cV id (.aY (AL es i) clock p)))
   |some none=>some (.gU .l5 H)
   |none=>none
  else none
 |_,_=>none
def IB(b:Builtin)(args:LV)(argTypes:Array TypeId):Option iT:=
 match b,args with
 |.append,[s,x]=>Tm (Hx P H argTypes s x)
 |.recover,[]=>some .xe
 |.delete,[.aB id,k]=>HR P H argTypes id k
 |_,_=>none
def ZS(f:Operand)(args:Array Operand):Option iT:=
 match ρ f,vK ρ args.toList with
 |some g,some l=>yP P g l
 |_,_=>none
def RB(r:Operand)(name:String)(args:Array Operand):Option iT:=
 match ρ r,vK ρ args.toList with
 |some (.ec t v),some l=>match abo P H t v name with
  |some (f,v)=>yP P (.bn (.func f) [] []) (v::l)
  |none=>none
 |_,_=>none
def ZE(c:Call):Option iT:=
 match c.callee with
 |.value f=>ZS P ρ f c.args
 |.builtin b=>match vK ρ c.args.toList with
  |some l=>IB P H b l c.argTypes
  |none=>none
 |.invoke r name=>RB P ρ H r name c.args
def IE(c:Call):Option iT:=
 match c.callee with
 |.value f=>match ρ f,vK ρ c.args.toList with
  |some (.bn fn first lM),some l=>bif wq fn then none else some (.xd (.vu fn lM (first++l)))
  |_,_=>none
 |_=>none
def ZP(x:Operand):Option iT:=
 match ρ x with
 |some (.ec t v)=>some (.vC (.ec t v))
 |_=>none
def nM:Op->Option iT
 |.store t a x=>II P ρ H t a x
 |.mapUpdate t m k x=>IG P ρ H t m k x
 |.insert t m k x=>IG P ρ H t m k x
 |.mapEntry t m k=>Mn P ρ H t m k
 |.entryStore _ m s x=>Rz ρ H m s x
 |.range t x=>RF P ρ H t x
 |.next it xW=>IH ρ H it xW
 |.entry it=>Fs ρ H it
 |.call c=>ZE P ρ H c
 |.defer c=>IE ρ c
 |.panic x=>ZP ρ x
 |_=>none
end auT
inductive dZ where
 |gM (c:Code)
 |vw (id:Nat)
 |rq (body:Code)
 |uz (body:Code)
 |Ek (l:Nat)
 |BJ (l:Nat)
 |Ai
 |ik (ops:Array Oper) (i:Nat) (rest:List Oper)
abbrev Eu:=List (AV×Bool)
inductive pS where
 |gF
 |i_
 |lI (c:Eu)
structure gg where
 fn:Nat
 Ah:Tr AV
 nt:Nat
 GV:List dZ
 OX:List pR
 mE:pS
 up:Option pS
 qx:Option Nat
inductive Pd where
 |gG (v:AV)
 |dN (c:Eu)
def jx:AV->Pd
 |.dN x=>.dN [(x,false)]
 |v=>.gG v
structure l6 where
 e:Pd
 up:Option pS
 H:AH
def Fc(id:Nat):List dZ->Option (List dZ)
 |.vw iq::k=>if iq==id then some k else Fc id k
 |_::k=>Fc id k
 |[]=>none
def Iv(l:Nat):List dZ->Option (List dZ)
 |.uz body::k=>
  match findLabel body l with
  |some rest=>some (.gM rest::.uz body::k)
  |none=>Iv l k
 |_::k=>Iv l k
 |[]=>none
def nj(ops:Array Oper)(o:Oper)(get:Tmp->Option AV):Option Bool:=
 match o.guard with
 |none=>some true
 |some (j,pL)=>match(ops[j]?).bind (·.dst)with
  |none=>none
  |some d=>match get d with
   |some (.au b)=>some (b==pL)
   |some (.aC [])=>some false
   |_=>none
def F_:List Oper->LN->Option LN
 |[],gV=>some gV
 |o::l,gV=>
  let m:=o.after.toList.foldl (λs e=>match s with
   |none=>none
   |some s=>bif Region.binds .any e then(match gV[e.on]? with
     |some n=>some (Nat.lor (Nat.lor s (Nat.pow 2 e.on)) n)
     |none=>none)else some s) (some 0)
  match m with
  |none=>none
  |some m=>F_ l (gV++[m])
def qe(m i:Nat):Bool:=Nat.beq (Nat.land (Nat.shiftRight m i) 1) 1
def Hy(ops:Array Oper)(ms:LN):Nat->Nat->LN->Option LN
 |0,_,left=>bif left.isEmpty then some []else none
 |f+1,vZ,left=>
  let ready (i:Nat):Bool:=match ms[i]? with|some m=>Nat.beq (Nat.lor m vZ) vZ|none=>false
  let pick:=match left.find? (λi=>ready i&&((ops[i]?).any (rN ·.op)))with
   |some i=>some i
   |none=>left.find? ready
  match pick with
  |none=>bif left.isEmpty then some []else none
  |some i=>(Hy ops ms f (Nat.lor vZ (Nat.pow 2 i)) (left.filter λj=> !Nat.beq i j)).map (i:: ·)
def HV(ops:Array Oper):List Tmp:=ops.toList.filterMap (·.dst)
def x_:LN->Bool
 |[]=>true
 |a::l=> !l.any (Nat.beq a)&&x_ l
def ya(ops:Array Oper)(ms:LN)(last:Option Nat):LN->Bool
 |[]=>true
 |i::l=>
  (match last with|none=>true|some e=>(ms[i]?).any (qe · e))&&
  ya ops ms (bif (ops[i]?).any (rN ·.op)then last else some i) l
def OJ(o:Oper):List Tmp:=o.op.operands.toList.filterMap λ|.tmp t=>some t|_=>none
def abJ(ops:Array Oper)(ms:LN):Bool:=
 let l:=ops.toList.zipIdx
 x_ (HV ops)&&
 l.all λ(o,i)=>l.all λ(o',j)=>match o'.dst with
  |none=>true
  |some d=>Nat.beq i j|| !((OJ o++o.dst.toList).any (Nat.beq d))||(ms[i]?).any (qe · j)||(ms[j]?).any (qe · i)
def NC(ms:LN):List (Oper×Nat)->Bool
 |[]=>true
 |(o,i)::l=>(match o.guard with|none=>true|some (j,_)=>(ms[i]?).any (qe · j))&&NC ms l
structure apB where
 ms:LN
 Er:LN
def JL(ops:Array Oper):Option apB:=
 match F_ ops.toList []with
 |none=>none
 |some ms=>match Hy ops ms ops.size 0 (List.range ops.size)with
  |none=>none
  |some l=>bif ya ops ms none l&&abJ ops ms&&NC ms ops.toList.zipIdx then some ⟨ms,l⟩else none
def Ss:Op->Bool
 |.move _|.assign _|.pick .. |.build .. |.nilCheck _|.binOp .. |.unOp .. |.convert .. |.makeInterface .. |.makeFunc .. |.fieldAddr .. |.field .. |.indexAddr .. |.index .. |.typeAssert .. |.extract .. =>true
 |_=>false
def PV(ops:Array Oper)(ms:LN)(done:LN)(i:Nat):LN:=
 done.filter λj=>((ops[j]?).any (λo=>pq o.op&& !Ss o.op))&& !((ms[i]?).any (qe · j))
def aa2(ops:Array Oper)(ms:LN)(i:Nat)(t:Tmp):Bool:=
 ops.toList.zipIdx.any λ(o,j)=>(match o.dst with|some d=>Nat.beq d t|none=>false)&& !((ms[i]?).any (qe · j))
def xw(ops:Array Oper)(ms:LN)(base cur:Tr AV)(i:Nat):Tmp->Option AV:=λt=>
 bif aa2 ops ms i t then base.bZ t else cur.bZ t
def HA(get:Tmp->Option AV):Operand->Option AV
 |.tmp t=>get t
 |.const v=>Kt v
 |.global g=>some (.vV g)
 |.func f=>some (.bn (.func f) [] [])
mutual
def nE:AV->AV->Bool
 |.au a,.au b=>a==b
 |.bV j a,.bV k b=>j==k&&a==b
 |.ad a,.ad b=>cb a b
 |.aa a b,.aa c d=>Nat.beq a c&&Nat.beq b d
 |.kP,.kP=>true
 |.bw a b c d e f,.bw a' b' c' d' e' f'=>Nat.beq a a'&&Nat.beq b b'&&Nat.beq c c'&&Nat.beq d d'&&Nat.beq e e'&&f==f'
 |.aM,.aM=>true
 |.aB a,.aB b=>Nat.beq a b
 |.mW,.mW=>true
 |.bn f a b,.bn g c d=>decide (f=g)&&Ax a c&&Ax b d
 |.gN a,.gN b=>Nat.beq a b
 |.qz,.qz=>true
 |.ec t v,.ec u w=>Nat.beq t u&&nE v w
 |.lJ,.lJ=>true
 |.ai a,.ai b=>Ax a b
 |.aC a,.aC b=>Ax a b
 |.vV a,.vV b=>Nat.beq a b
 |_,_=>false
def Ax:LV->LV->Bool
 |[],[]=>true
 |a::l,b::m=>nE a b&&Ax l m
 |_,_=>false
end
def TW(v x:AV):Bool:=or (nE v x) (@decide (v=x) (Classical.propDecidable _))
def Gz(P:Program)(ops:Array Oper)(ms:LN)(base cur:Tr AV)(H:AH):LN->Bool
 |[]=>true
 |j::l=>
  (match ops[j]? with
   |none=>false
   |some o=>match nj ops o cur.bZ with
    |none=>false
    |some false=>true
    |some true=>match f_ P (HA (xw ops ms base cur j)) H o.op,o.dst with
     |some v,some d=>(cur.bZ d).any (TW v)
     |some _,none=>true
     |none,_=>false)&&
  Gz P ops ms base cur H l
inductive j0 where
 |go (fr:gg) (H:AH)
 |Am (r:l6)
 |eV (why:String)
def yk(m:pS)(c:Eu):pS:=
 match m with
 |.lI old=>.lI (c++old)
 |_=>.lI c
def ang(m:pS):pS:=
 match m with
 |.lI ((_,true)::_)=>.i_
 |m=>m
def oY(nt:Nat)(tmps:Tr AV)(dst:Option Tmp)(v:AV):Option (Tr AV):=
 match dst with
 |none=>some tmps
 |some d=>bif Nat.ble (d+1) nt then some (tmps.gz d v)else none
def LW(P:Program)(f:FuncId)(args:LV)(up:Option pS):Option gg:=
 match P.funcs[f]? with
 |some fn=>match fn.body with
  |some c=>bif Nat.ble args.length fn.ntmps then
    some {fn:=f,Ah:=Tr.Dw args 0 .il,nt:=fn.ntmps,GV:=[.gM c],OX:=[],mE:=.gF,up,qx:=none}
   else none
  |none=>none
 |none=>none
def s7(P:Program)(H:AH)(tmps:Tr AV):List ResultVar->Option LV
 |[]=>some []
 |.tmp t::l=>match tmps.bZ t with
  |some v=>(s7 P H tmps l).map (v:: ·)
  |none=>none
 |.cell a t::l=>match tmps.bZ a with
  |some (.aa id off)=>match t_ P H t id off with
   |some v=>(s7 P H tmps l).map (v:: ·)
   |none=>none
  |_=>none
def BF:LV->AV
 |[v]=>v
 |l=>.aC l
def Bu(o:bf)(l:Nat)(args:LV):Option gg:=
 match o with
 |.hQ _ _ fn tmps nt params assign body _=>
  bif Nat.beq args.length params.length then
   match(params.zip args).foldl (λt (p,a)=>t.bind λt=>oY nt t (some p) a) (some tmps)with
   |some o5=>some {fn,Ah:=o5,nt,GV:=[.gM assign,.Ai,.gM body],OX:=[],mE:=.gF,up:=none,qx:=some l}
   |none=>none
  else none
 |_=>none
def aa3(H:AH)(l:Nat)(pr:Option Code):j0:=
 match H.bc l with
 |some (.hQ _ _ fn tmps nt ps a b d)=>
  .Am {e:=.gG (.au pr.isNone),up:=none,H:=H.cV l (.hQ (bif pr.isNone then .ready else .done) pr fn tmps nt ps a b d)}
 |_=>.eV "endRound"
def u9:gg->AH->Option Code->j0
 |⟨fn,tmps,nt,todo,defers,_,up,round⟩,H,pr=>
  match round with
  |none=>match pr with
   |none|some .ret=>.go ⟨fn,tmps,nt,todo,defers,.i_,up,none⟩ H
   |_=>.eV "leave"
  |some l=>aa3 H l pr
def LY:Option iT->Option iT
 |some (.qA f args)=>some (.qA f args)
 |_=>none
structure sA where
 go:gg->AH->Option l6
 fq:FuncId->LV->AH->Option (AV×AH)
def LX(P:Program)(call:sA)(f:FuncId)(args:LV)(up:Option pS)(H:AH):Option l6:=
 match up,call.fq f args H with
 |none,some (v,H')=>some ⟨jx v,none,H'⟩
 |_,_=>(LW P f args up).bind (call.go · H)
section awV
variable(P:Program)(call:sA)
def kK(H:AH)(up:Option pS):iT->Option l6
 |.gU v H=>some {e:=.gG v,up,H}
 |.qA f args=>LX P call f args up H
 |.vD l args=>match H.bc l with
  |some o=>(Bu o l args).bind (call.go · H)
  |none=>none
 |_=>none
def rW(fr:gg)(o:Oper)(todo:List dZ)(v:AV)(H:AH):j0:=
 match fr with
 |⟨fn,tmps,nt,_,defers,mode,up,round⟩=>match oY nt tmps o.dst v with
  |some t=>.go ⟨fn,t,nt,todo,defers,mode,up,round⟩ H
  |none=>.eV "dst"
def JZ:gg->Eu->gg
 |⟨fn,tmps,nt,todo,defers,mode,up,round⟩,c=>⟨fn,tmps,nt,todo,defers,yk mode c,up,round⟩
def zU(fr:gg)(o:Oper)(todo:List dZ)(r:Option l6):j0:=
 match r with
 |some ⟨.gG v,_,H⟩=>rW fr o todo v H
 |some ⟨.dN c,_,H⟩=>.go (JZ fr c) H
 |none=>.eV "call"
def ana(fr:gg)(o:Oper)(todo:List dZ)(d:pR)(H:AH):j0:=
 match fr with
 |⟨fn,tmps,nt,_,defers,mode,up,none⟩=>match oY nt tmps o.dst .l5 with
  |some t=>.go ⟨fn,t,nt,todo,d::defers,mode,up,none⟩ H
  |none=>.eV "dst"
 |_=>.eV "defer"
def anb(fr:gg)(o:Oper)(todo:List dZ)(H:AH):j0:=
 match fr with
 |⟨fn,tmps,nt,_,defers,mode,some (.lI ((v,false)::JH)),none⟩=>match oY nt tmps o.dst v with
  |some t=>.go ⟨fn,t,nt,todo,defers,mode,some (.lI ((v,true)::JH)),none⟩ H
  |none=>.eV "dst"
 |⟨fn,tmps,nt,_,defers,mode,up,none⟩=>match oY nt tmps o.dst .lJ with
  |some t=>.go ⟨fn,t,nt,todo,defers,mode,up,none⟩ H
  |none=>.eV "dst"
 |_=>.eV "recover"
def yq(fr:gg)(o:Oper)(todo:List dZ)(H:AH)(aK:Option iT):j0:=
 match aK with
 |none=>.eV "heavy"
 |some (.xd d)=>ana fr o todo d H
 |some (.vC v)=>.go (JZ fr [(v,false)]) H
 |some .xe=>anb fr o todo H
 |some aK=>zU fr o todo (kK P call H none aK)
def acJ(fr:gg)(o:Oper)(todo:List dZ)(H:AH)(r:Option AV):j0:=
 match r with
 |some v=>rW fr o todo v H
 |none=>.eV "read"
def acI(fr:gg)(o:Oper)(todo:List dZ)(H:AH)(r:Option (bf×(Nat->AV))):j0:=
 match r,H with
 |some (ob,g),⟨h,n,x⟩=>rW fr o todo (g n) (AH.eN ⟨h,n,x⟩ ob)
 |none,_=>.eV "make"
def zW(fr:gg)(H:AH)(ops:Array Oper)(i:Nat)(o:Oper)(rest:List Oper)(k:List dZ):j0:=
 match fr with
 |⟨fn,tmps,nt,todo,defers,mode,up,round⟩=>
  match nj ops o tmps.bZ with
  |none=>.eV "guard"
  |some b=>
   bif b then
    bif pq o.op then acJ ⟨fn,tmps,nt,todo,defers,mode,up,round⟩ o (.ik ops (Nat.succ i) rest::k) H (f_ P (iG tmps) H o.op)
    else bif sO o.op then acI ⟨fn,tmps,nt,todo,defers,mode,up,round⟩ o (.ik ops (Nat.succ i) rest::k) H (rb P (iG tmps) o.op)
    else yq P call ⟨fn,tmps,nt,todo,defers,mode,up,round⟩ o (.ik ops (Nat.succ i) rest::k) H (nM P (iG tmps) H o.op)
   else rW ⟨fn,tmps,nt,todo,defers,mode,up,round⟩ o (.ik ops (Nat.succ i) rest::k) .l5 H
inductive PH where
 |aI (tmps:Tr AV) (H:AH)
 |dN (c:Eu) (H:AH)
 |eV (why:String)
inductive Hn where
 |go (tmps:Tr AV) (H:AH)
 |dN (c:Eu) (H:AH)
 |eV (why:String)
def sS(nt:Nat)(tmps:Tr AV)(o:Oper)(v:AV)(H:AH):Hn:=
 match oY nt tmps o.dst v with
 |some t=>.go t H
 |none=>.eV "dst"
def NL(nt:Nat)(tmps:Tr AV)(o:Oper)(H:AH)(r:Option AV):Hn:=
 match r with
 |some v=>sS nt tmps o v H
 |none=>.eV "read"
def Dz(nt:Nat)(tmps:Tr AV)(o:Oper)(H:AH)(r:Option (bf×(Nat->AV))):Hn:=
 match r,H with
 |some (ob,g),⟨h,n,x⟩=>sS nt tmps o (g n) (AH.eN ⟨h,n,x⟩ ob)
 |none,_=>.eV "make"
def Tp(ops:Array Oper)(ms:LN)(base:Tr AV)(ag:LN)(nt:Nat)(tmps:Tr AV)(o:Oper)(r:Option l6):Hn:=
 match r with
 |some ⟨.gG v,_,H⟩=>match oY nt tmps o.dst v with
  |some t=>bif Gz P ops ms base t H ag then .go t H else .eV "steady"
  |none=>.eV "dst"
 |some ⟨.dN c,_,H⟩=>.dN c H
 |none=>.eV "call"
def To(ops:Array Oper)(ms:LN)(base:Tr AV)(ag:LN)(nt:Nat)(tmps:Tr AV)(o:Oper)(H:AH)(aK:Option iT):Hn:=
 match aK with
 |some aK=>Tp P ops ms base ag nt tmps o (kK P call H none aK)
 |none=>.eV "heavy"
def pA(ops:Array Oper)(ms:LN)(base:Tr AV)(done:LN)(i:Nat)(nt:Nat)(tmps:Tr AV)(H:AH)(o:Oper):Hn:=
 match nj ops o tmps.bZ with
 |none=>.eV "guard"
 |some b=>
  bif b then
   bif pq o.op then NL nt tmps o H (f_ P (iG tmps) H o.op)
   else bif sO o.op then Dz nt tmps o H (rb P (iG tmps) o.op)
   else To P call ops ms base (PV ops ms done i) nt tmps o H (nM P (iG tmps) H o.op)
  else sS nt tmps o .l5 H
def ue(ops:Array Oper)(ms:LN)(base:Tr AV)(nt:Nat):LN->LN->Tr AV->AH->PH
 |[],_,tmps,H=>.aI tmps H
 |i::rest,done,tmps,H=>match ops[i]? with
  |none=>.eV "order"
  |some o=>match pA P call ops ms base done i nt tmps H o with
   |.go t H'=>ue ops ms base nt rest (i::done) t H'
   |.dN c H'=>.dN c H'
   |.eV w=>.eV w
def Ig(t:Tr AV):List Tmp->Tr AV
 |[]=>t
 |d::l=>Ig (t.BK d) l
def abX(fr:gg)(ops:Array Oper)(k:List dZ)(r:PH):j0:=
 match fr,r with
 |⟨fn,_,nt,_,defers,mode,up,round⟩,.aI t H=>.go ⟨fn,t,nt,k,defers,mode,up,round⟩ H
 |⟨fn,tmps,nt,_,defers,mode,up,round⟩,.dN c H=>.go ⟨fn,Ig tmps (HV ops),nt,k,defers,yk mode c,up,round⟩ H
 |_,.eV w=>.eV w
def to(fr:gg)(H:AH)(k:List dZ):j0:=
 match fr with
 |⟨fn,tmps,nt,_,defers,mode,up,round⟩=>.go ⟨fn,tmps,nt,k,defers,mode,up,round⟩ H
def acZ(fr:gg)(H:AH)(UX QA:Code)(k:List dZ)(c:Option AV):j0:=
 match c with
 |some (.au b)=>to fr H (.gM (bif b then UX else QA)::k)
 |_=>.eV "cond"
def ac0(fr:gg)(H:AH)(j:Code)(k:Option (List dZ)):j0:=
 match k with
 |some k=>to fr H k
 |none=>u9 fr H (some j)
def Oo(fr:gg)(H:AH)(ops:Array Oper)(rD:Bool)(k:List dZ):j0:=
 bif rD then match fr,JL ops with
  |⟨fn,tmps,nt,todo,defers,mode,up,round⟩,some pl=>
   abX ⟨fn,tmps,nt,todo,defers,mode,up,round⟩ ops k (ue P call ops pl.ms tmps nt pl.Er [] tmps H)
  |_,none=>.eV "plan"
 else to fr H (.ik ops 0 ops.toList::k)
def abb(H:AH)(round:Option Nat):Option (Nat×List pR×AH):=
 match round with
 |some l=>match H.bc l with
  |some (.hQ _ _ _ _ _ _ _ _ d)=>some (d,[],H)
  |_=>none
 |none=>match H with
  |⟨h,n,x⟩=>some (n,[.oH n],AH.eN ⟨h,n,x⟩ (.pP (some [])))
def amg(fr:gg)(l:Nat)(mark:List pR)(k:List dZ)(r:Option l6):j0:=
 match fr,r with
 |⟨fn,tmps,nt,_,defers,mode,up,round⟩,some ⟨.gG _,_,H⟩=>.go ⟨fn,tmps,nt,.BJ l::k,mark++defers,mode,up,round⟩ H
 |⟨fn,tmps,nt,_,defers,mode,up,round⟩,some ⟨.dN c,_,H⟩=>.go ⟨fn,tmps,nt,.Ek l::k,mark++defers,yk mode c,up,round⟩ H
 |_,none=>.eV "rangeFunc call"
def QQ(fr:gg)(f:Operand)(params:Array Tmp)(assign body:Code)(k:List dZ):Option (Nat×List pR×AH)->j0
 |none=>.eV "rangeFunc"
 |some (d,mark,⟨h,n,x⟩)=>match fr with
  |⟨fn,tmps,nt,todo,defers,mode,up,round⟩=>
   amg ⟨fn,tmps,nt,todo,defers,mode,up,round⟩ n mark k
    ((iG tmps f).bind λg=>(LY (yP P g [.gN n])).bind (kK P call (AH.eN ⟨h,n,x⟩ (.hQ .ready none fn tmps nt params.toList assign body d)) none))
def Ue(fr:gg)(H:AH)(f:Operand)(params:Array Tmp)(assign body:Code)(k:List dZ):j0:=
 match fr with
 |⟨fn,tmps,nt,todo,defers,mode,up,round⟩=>QQ P call ⟨fn,tmps,nt,todo,defers,mode,up,round⟩ f params assign body k (abb H round)
def Ub(fr:gg)(H:AH)(k:List dZ):j0:=
 match fr with
 |⟨fn,tmps,nt,_,defers,mode,up,some l⟩=>match H.bc l with
  |some (.hQ .ready p lf lt ln ps a b d)=>.go ⟨fn,tmps,nt,k,defers,mode,up,some l⟩ (H.cV l (.hQ .busy p lf lt ln ps a b d))
  |_=>.eV "beginRound"
 |_=>.eV "beginRound"
def Tv(p:Option Code)(k:List dZ):List dZ:=
 match p with
 |some c=>.gM c::k
 |none=>k
def Uc(fr:gg)(H:AH)(l:Nat)(k:List dZ):j0:=
 match H.bc l with
 |some (.hQ .ready p fn tmps nt ps a b d)=>to fr (H.cV l (.hQ .exhausted p fn tmps nt ps a b d)) (Tv p k)
 |some (.hQ .done p fn tmps nt ps a b d)=>to fr (H.cV l (.hQ .exhausted p fn tmps nt ps a b d)) (Tv p k)
 |_=>.eV "endLoop"
def yv(fr:gg)(H:AH)(k:List dZ):Code->j0
 |.ret=>u9 fr H (some .ret)
 |.skip=>to fr H k
 |.label _=>to fr H k
 |.seq a b=>to fr H (.gM a::.gM b::k)
 |.cond c UX QA=>acZ fr H UX QA k (iG fr.Ah c)
 |.block id body=>to fr H (.gM body::.vw id::k)
 |.loop body=>to fr H (.gM body::.rq body::k)
 |.scope body=>to fr H (.gM body::.uz body::k)
 |.exit id=>ac0 fr H (.exit id) (Fc id k)
 |.goto l=>ac0 fr H (.goto l) (Iv l k)
 |.region _ ops rD=>Oo P call fr H ops rD k
 |.rangeFunc f params assign body=>Ue P call fr H f params assign body k
 |.refuse _=>.eV "refuse"
def sk(fr:gg)(H:AH)(k:List dZ):dZ->j0
 |.gM c=>yv P call fr H k c
 |.vw _=>to fr H k
 |.uz _=>to fr H k
 |.rq body=>to fr H (.gM body::.rq body::k)
 |.ik ops i l=>match l with
  |[]=>to fr H k
  |o::rest=>zW P call fr H ops i o rest k
 |.Ai=>Ub fr H k
 |.BJ l=>Uc fr H l k
 |.Ek _=>.eV "inRangeFunc"
def rl(fr:gg)(H:AH):j0:=
 match fr with
 |⟨fn,tmps,nt,[],defers,mode,up,round⟩=>u9 ⟨fn,tmps,nt,[],defers,mode,up,round⟩ H none
 |⟨fn,tmps,nt,x::k,defers,mode,up,round⟩=>sk P call ⟨fn,tmps,nt,x::k,defers,mode,up,round⟩ H k x
def abS(fr:gg)(ds:List pR)(u:pS)(H:AH):j0:=
 match u,fr with
 |.gF,_=>.eV "run"
 |u,⟨fn,tmps,nt,todo,_,_,up,round⟩=>.go ⟨fn,tmps,nt,todo,ds,u,up,round⟩ H
def axN(fr:gg)(ds:List pR)(r:Option l6):j0:=
 match fr,r with
 |fr,some ⟨.gG _,some u,H⟩=>abS fr ds (ang u) H
 |fr,some ⟨.dN c,some u,H⟩=>abS fr ds (yk u c) H
 |_,_=>.eV "deferred call"
def JI(fr:gg)(H:AH):j0:=
 match fr with
 |⟨fn,tmps,_,_,_,mode,up,_⟩=>match mode with
  |.gF=>.eV "run"
  |.lI c=>bif (P.funcs[fn]?).isSome then .Am ⟨.dN c,up,H⟩else .eV "no function"
  |.i_=>match P.funcs[fn]? with
   |some f=>match s7 P H tmps f.results.toList with
    |some l=>.Am ⟨.gG (BF l),up,H⟩
    |none=>.eV "results"
   |none=>.eV "no function"
def DV(fr:gg)(H:AH):j0:=
 match fr with
 |⟨fn,tmps,nt,todo,defers,mode,up,round⟩=>match defers with
  |.oH r::ds=>match H.bc r with
   |some (.pP (some []))=>.go ⟨fn,tmps,nt,todo,ds,mode,up,round⟩ (H.cV r (.pP none))
   |_=>.eV "collected"
  |.vu f lM args::ds=>axN ⟨fn,tmps,nt,todo,defers,mode,up,round⟩ ds ((LY (yP P (.bn f [] lM) args)).bind (kK P call H (some mode)))
  |[]=>JI P ⟨fn,tmps,nt,todo,defers,mode,up,round⟩ H
def j_(fr:gg)(H:AH):j0:=
 match fr with
 |⟨fn,tmps,nt,todo,defers,mode,up,round⟩=>match mode with
  |.gF=>rl P call ⟨fn,tmps,nt,todo,defers,.gF,up,round⟩ H
  |m=>DV P call ⟨fn,tmps,nt,todo,defers,m,up,round⟩ H
end awV
abbrev KY:=FuncId->LV->AH->Option (AV×AH)
def Ny:KY:=λ_ _ _=>none
def run(P:Program)(K:KY):Nat->gg->AH->Option l6
 |0,_,_=>none
 |n+1,fr,H=>match j_ P ⟨run P K n,K⟩ fr H with
  |.go fr' H'=>run P K n fr' H'
  |.Am r=>some r
  |.eV _=>none
def eval(P:Program)(K:KY)(n:Nat)(f:FuncId)(args:LV)(H:AH):Option l6:=(LW P f args none).bind λfr=>run P K n fr H
end
namespace Tr
variable{α:Type}
theorem It(n):(Tr.il:Tr α).bZ n=none:=rfl
theorem ua(a b):Nat.beq a b=decide (a=b):=by
 cases h:Nat.beq a b
 .have:a≠b:=by intro e;subst e;simp at h
  simp[this]
 .have:=dw h;simp[this]
theorem BT{β:Type}(p)[Decidable p](x y:β):(bif decide p then x else y)=if p then x else y:=by by_cases h:p<;>simp[h]
theorem BW{β:Type}(c x y): @Bool.rec (λ_=>β) y x c=bif c then x else y:=by cases c<;>rfl
theorem p9(v)(l r:Tr α)(n):
 (Tr.gy v l r).bZ n=if n=0 then v else if n%2=1 then l.bZ (n / 2)else r.bZ (n / 2-1):=by
 have h:(Tr.gy v l r).bZ n= @Bool.rec (λ_=>Option α) (@Bool.rec (λ_=>Option α) (r.bZ (Nat.sub (Nat.div n 2) 1)) (l.bZ (Nat.div n 2)) (Nat.beq (Nat.mod n 2) 1)) (v) (Nat.beq n 0):=rfl;rw[h,BW,BW];simp only[ua,BT];rfl
theorem yr(v l r n)(a:α):
 (Tr.gy v l r).gz n a=if n=0 then .gy (some a) l r else if n%2=1 then .gy v (l.gz (n / 2) a) r else .gy v l (r.gz (n / 2-1) a):=by
 have h:(Tr.gy v l r).gz n a= @Bool.rec (λ_=>Tr α) (@Bool.rec (λ_=>Tr α) (Tr.gy v l (r.gz (Nat.sub (Nat.div n 2) 1) a)) (Tr.gy v (l.gz (Nat.div n 2) a) r) (Nat.beq (Nat.mod n 2) 1)) (Tr.gy (some a) l r) (Nat.beq n 0):=rfl;rw[h,BW,BW];simp only[ua,BT];rfl
theorem atg(v)(l r:Tr α)(n):
 (Tr.gy v l r).BK n=if n=0 then .gy none l r else if n%2=1 then .gy v (l.BK (n / 2)) r else .gy v l (r.BK (n / 2-1)):=by
 have h:(Tr.gy v l r).BK n= @Bool.rec (λ_=>Tr α) (@Bool.rec (λ_=>Tr α) (Tr.gy v l (r.BK (Nat.sub (Nat.div n 2) 1))) (Tr.gy v (l.BK (Nat.div n 2)) r) (Nat.beq (Nat.mod n 2) 1)) (Tr.gy none l r) (Nat.beq n 0):=rfl;rw[h,BW,BW];simp only[ua,BT];rfl
theorem acR(n)(a:α):wS 0 n a=.gy (some a) .il .il:=rfl
theorem acQ(f n)(a:α):
 wS (f+1) n a=if n=0 then .gy (some a) .il .il else if n%2=1 then .gy none (wS f (n / 2) a) .il else .gy none .il (wS f (n / 2-1) a):=by
 have h:wS (f+1) n a= @Bool.rec (λ_=>Tr α) (@Bool.rec (λ_=>Tr α) (Tr.gy none .il (wS f (Nat.sub (Nat.div n 2) 1) a)) (Tr.gy none (wS f (Nat.div n 2) a) .il) (Nat.beq (Nat.mod n 2) 1)) (Tr.gy (some a) .il .il) (Nat.beq n 0):=rfl;rw[h,BW,BW];simp only[ua,BT];rfl
theorem Zj:∀(f n m) (a:α),n<=f->(wS f n a).bZ m=if m=n then some a else none
 |0,n,m,a,h=>by
  have:n=0:=by omega
  subst this;rw[acR,p9];simp[It]
 |f+1,n,m,a,h=>by
  rw[acQ];by_cases h0:n=0
  .subst h0;rw[aL rfl,p9];simp[It]
  .rw[az h0];by_cases h1:n%2=1
   .rw[aL h1,p9,Zj f _ _ a (by omega),It];by_cases m0:m=0
    .subst m0;rw[aL rfl,az (λe=>h0 e.symm)]
    .rw[az m0];by_cases m1:m%2=1
     .rw[aL m1];by_cases e:m=n
      .subst e;simp
      .rw[az e,az (by omega)]
     .rw[az m1,az (by rintro rfl;exact m1 h1)]
   .rw[az h1,p9,Zj f _ _ a (by omega),It];by_cases m0:m=0
    .subst m0;rw[aL rfl,az (λe=>h0 e.symm)]
    .rw[az m0];by_cases m1:m%2=1
     .rw[aL m1,az (by rintro rfl;exact h1 m1)]
     .rw[az m1];by_cases e:m=n
      .subst e;simp
      .rw[az e,az (by omega)]
theorem kM(t:Tr α)(n m a):(t.gz n a).bZ m=if m=n then some a else t.bZ m:=by
 induction t generalizing n m with
 |il=>show(wS n n a).bZ m=_;rw[It,Zj n n m a (cE _)]
 |gy v l r FX FY=>
  rw[yr,p9 v l r m];by_cases h0:n=0
  .subst h0;rw[aL rfl,p9];by_cases m0:m=0
   .rw[aL m0,aL m0]
   .rw[az m0,az m0,az m0]
  .rw[az h0];by_cases h1:n%2=1
   .rw[aL h1,p9,FX];by_cases m0:m=0
    .rw[aL m0,aL m0,az (by omega)]
    .rw[az m0,az m0];by_cases m1:m%2=1
     .rw[aL m1,aL m1];by_cases e:m=n
      .rw[aL (by rw[e]),aL e]
      .rw[az (by omega),az e]
     .rw[az m1,az m1,az (by rintro rfl;exact m1 h1)]
   .rw[az h1,p9,FY];by_cases m0:m=0
    .rw[aL m0,aL m0,az (by omega)]
    .rw[az m0,az m0];by_cases m1:m%2=1
     .rw[aL m1,aL m1,az (by rintro rfl;exact h1 m1)]
     .rw[az m1,az m1];by_cases e:m=n
      .rw[aL (by rw[e]),aL e]
      .rw[az (by omega),az e]
theorem atL(t:Tr α)(n m):(t.BK n).bZ m=if m=n then none else t.bZ m:=by
 induction t generalizing n m with
 |il=>show(Tr.il:Tr α).bZ m=_;simp[It]
 |gy v l r FX FY=>
  rw[atg,p9 v l r m];by_cases h0:n=0
  .subst h0;rw[aL rfl,p9];by_cases m0:m=0
   .rw[aL m0,aL m0]
   .rw[az m0,az m0,az m0]
  .rw[az h0];by_cases h1:n%2=1
   .rw[aL h1,p9,FX];by_cases m0:m=0
    .rw[aL m0,aL m0,az (by omega)]
    .rw[az m0,az m0];by_cases m1:m%2=1
     .rw[aL m1,aL m1];by_cases e:m=n
      .rw[aL (by rw[e]),aL e]
      .rw[az (by omega),az e]
     .rw[az m1,az m1,az (by rintro rfl;exact m1 h1)]
   .rw[az h1,p9,FY];by_cases m0:m=0
    .rw[aL m0,aL m0,az (by omega)]
    .rw[az m0,az m0];by_cases m1:m%2=1
     .rw[aL m1,aL m1,az (by rintro rfl;exact h1 m1)]
     .rw[az m1,az m1];by_cases e:m=n
      .rw[aL (by rw[e]),aL e]
      .rw[az (by omega),az e]
theorem aim(l):∀(n) (t:Tr α) (m),(Dw l n t).bZ m=if n<=m/\m<n+l.length then l[m-n]? else t.bZ m:=by
 induction l with
 |nil=>intro n t m;have:¬(n<=m/\m<n+0):=by omega
       simp[Dw];omega
 |cons a l ih=>
  intro n t m;rw[Dw,ih,kM];by_cases h:n+1<=m/\m<n+1+l.length
  .have h2:n<=m/\m<n+(a::l).length:=by simp;omega
   rw[aL h,aL h2];have:m-n=(m-(n+1))+1:=by omega
   rw[this,TC]
  .rw[az h];by_cases e:m=n
   .subst e;simp
   .have h2:¬(n<=m/\m<n+(a::l).length):=by simp;omega
    rw[az h2,az e]
end Tr
structure PE where
 b:Nat
 o:Nat
 n:Nat
structure cn where
 f:Nat->Option PE
 ro:Nat->Option Obj
 xs:Nat->Option PE
instance:CoeFun cn (λ_=>Nat->Option PE):=⟨cn.f⟩
def cn.pu(φ:cn):cn:=⟨λ_=>none,φ.ro,φ.xs⟩
theorem dj{α:Type}{c x}{v:α}(h:(bif c then x else none)=some v):c=true/\x=some v:=by
 cases c
 .cases h
 .exact⟨rfl,h⟩
mutual
def VR(φ:cn):AV->Value->Prop
 |.au b,v=>v=.bool b
 |.bV k n,v=>v=.int k n
 |.ad s,v=>∃b:ByteArray,v=.string b/\dL b=s
 |.aa id off,v=>∃e,φ id=some e/\v=.pointer (some ⟨e.b,e.o+off,none⟩)
 |.kP,v=>v=.pointer none
 |.bw id off len cap sz ex,v=>∃e x c,φ id=some e/\v=.slice (some ⟨e.b,x,none⟩) len c/\(c=0\/x=e.o+off)/\len<=c/\(ex=true->c=cap)/\e.o+off+c*sz<=e.n
 |.aM,v=>v=.slice none 0 0
 |.aB id,v=>∃e,φ id=some e/\v=.map (some e.b)
 |.mW,v=>v=.map none
 |.bn fn f c,v=>∃f' c':Array Value,v=.func fn f' c'/\wq fn=false/\br φ f f'.toList/\br φ c c'.toList
 |.gN l,v=>∃e,φ l=some e/\v=.func (.yield e.b) #[] #[]
 |.qz,v=>v=.nilFunc
 |.ec t a,v=>∃v',v=.iface t v'/\VR φ a v'
 |.lJ,v=>v=.nilIface
 |.ai cs,v=>∃cs':Array Value,v=.agg cs'/\br φ cs cs'.toList
 |.aC cs,v=>∃cs':Array Value,v=.tuple cs'/\br φ cs cs'.toList
 |.vV g,v=>v=.pointer (some ⟨g,0,none⟩)
 |.ah cs len sz,v=>∃(a:Option Addr) (c:Nat),v=.slice a len c/\cs.length=len*sz/\(len=0\/
   ∃b x,∃(eK:Array Value) (el:TypeId) (fz:Nat×Nat),a=some ⟨b,x,none⟩/\len<=c/\φ.ro b=some (.cells eK el fz)/\x+cs.length<=eK.size/\br φ.pu cs ((eK.toList.drop x).take cs.length))
 |.pK cs,v=>∃b x,∃(eK:Array Value) (el:TypeId) (fz:Nat×Nat),v=.pointer (some ⟨b,x,none⟩)/\φ.ro b=some (.cells eK el fz)/\x+cs.length<=eK.size/\br φ.pu cs ((eK.toList.drop x).take cs.length)
 |.fw n off,v=>∃e,φ.xs n=some e/\v=.pointer (some ⟨e.b,e.o+off,none⟩)
 |.fE n len sz,v=>(len=0/\v=.slice none 0 0)\/∃e x c,φ.xs n=some e/\v=.slice (some ⟨e.b,x,none⟩) len c/\(c=0\/x=e.o)/\len<=c/\e.o+c*sz<=e.n/\len≠0
 |.rC,v=>∃a:Option Addr,v=.slice a 0 0
 |.dN _,_=>False
 |.aj id len sz,v=>(len=0/\v=.slice none 0 0)\/∃e x c,φ id=some e/\v=.slice (some ⟨e.b,x,none⟩) len c/\(c=0\/x=e.o)/\len<=c/\e.o+c*sz<=e.n
def br(φ:cn):LV->List Value->Prop
 |[],l=>l=[]
 |a::as,l=>∃v vs,l=v::vs/\VR φ a v/\br φ as vs
end
structure dE(φ ψ:cn):Prop where
 f:∀id e,φ id=some e->ψ id=some e
 ro:∀b o,φ.ro b=some o->ψ.ro b=some o
 xs:∀n e,φ.xs n=some e->ψ.xs n=some e
instance{φ ψ:cn}:CoeFun (dE φ ψ) (λ_=>∀id e,φ id=some e->ψ id=some e):=⟨dE.f⟩
theorem dE.refl(φ):dE φ φ:=⟨λ_ _ h=>h,λ_ _ h=>h,λ_ _ h=>h⟩
theorem dE.Ko{φ ψ χ}(h:dE φ ψ)(h':dE ψ χ):dE φ χ:=⟨λid e hh=>h' id e (h id e hh),λb o hh=>h'.ro b o (h.ro b o hh),λn e hh=>h'.xs n e (h.xs n e hh)⟩
theorem dE.pu{φ ψ}(h:dE φ ψ):dE φ.pu ψ.pu:=⟨λ_ _ h=>(by cases h),h.ro,h.xs⟩
mutual
theorem VR.ez{φ ψ:cn}(h:dE φ ψ):∀(a:AV) (v:Value),VR φ a v->VR ψ a v
 |.au _,_,h1=>by simpa[VR]using h1
 |.bV _ _,_,h1=>by simpa[VR]using h1
 |.ad _,_,h1=>by simpa[VR]using h1
 |.aa _ _,_,h1=>by simp only[VR]at h1⊢;obtain⟨e,h2,h3⟩:=h1;exact⟨e,h _ _ h2,h3⟩
 |.kP,_,h1=>by simpa[VR]using h1
 |.bw ..,_,h1=>by simp only[VR]at h1⊢;obtain⟨e,x,c,h2,h3⟩:=h1;exact⟨e,x,c,h _ _ h2,h3⟩
 |.aM,_,h1=>by simpa[VR]using h1
 |.aB _,_,h1=>by simp only[VR]at h1⊢;obtain⟨e,h2,h3⟩:=h1;exact⟨e,h _ _ h2,h3⟩
 |.mW,_,h1=>by simpa[VR]using h1
 |.bn _ f c,_,h1=>by simp only[VR]at h1⊢;obtain⟨f',c',e,hy,h2,h3⟩:=h1;exact⟨f',c',e,hy,br.kW h f _ h2,br.kW h c _ h3⟩
 |.gN _,_,h1=>by simp only[VR]at h1⊢;obtain⟨e,h2,h3⟩:=h1;exact⟨e,h _ _ h2,h3⟩
 |.qz,_,h1=>by simpa[VR]using h1
 |.ec _ a,_,h1=>by simp only[VR]at h1⊢;obtain⟨v',e,h2⟩:=h1;exact⟨v',e,VR.ez h a _ h2⟩
 |.lJ,_,h1=>by simpa[VR]using h1
 |.ai cs,_,h1=>by simp only[VR]at h1⊢;obtain⟨v',e,h2⟩:=h1;exact⟨v',e,br.kW h cs _ h2⟩
 |.aC cs,_,h1=>by simp only[VR]at h1⊢;obtain⟨v',e,h2⟩:=h1;exact⟨v',e,br.kW h cs _ h2⟩
 |.vV _,_,h1=>by simpa[VR]using h1
 |.ah cs _ _,_,h1=>by
  simp only[VR]at h1⊢;obtain⟨a,c,e,hl,h2⟩:=h1;refine⟨a,c,e,hl,?_⟩;rcases h2 with h2|⟨b,x,eK,el,fz,h2,h3,h4,h5,h6⟩
  .exact .inl h2
  .exact .inr ⟨b,x,eK,el,fz,h2,h3,h.ro _ _ h4,h5,br.kW h.pu cs _ h6⟩
 |.pK cs,_,h1=>by simp only[VR]at h1⊢;obtain⟨b,x,eK,el,fz,h3,h4,h5,h6⟩:=h1;exact⟨b,x,eK,el,fz,h3,h.ro _ _ h4,h5,br.kW h.pu cs _ h6⟩
 |.aj ..,_,h1=>by
  simp only[VR]at h1⊢;rcases h1 with h1|⟨e,x,c,h2,h3⟩
  .exact .inl h1
  .exact .inr ⟨e,x,c,h _ _ h2,h3⟩
 |.fw ..,_,h1=>by simp only[VR]at h1⊢;obtain⟨e,h2,h3⟩:=h1;exact⟨e,h.xs _ _ h2,h3⟩
 |.fE ..,_,h1=>by
  simp only[VR]at h1⊢;rcases h1 with h1|⟨e,x,c,h2,h3⟩
  .exact .inl h1
  .exact .inr ⟨e,x,c,h.xs _ _ h2,h3⟩
 |.rC,_,h1=>by simpa[VR]using h1
 |.dN _,_,h1=>by simp[VR]at h1
theorem br.kW{φ ψ:cn}(h:dE φ ψ):∀(as:LV) (vs:List Value),br φ as vs->br ψ as vs
 |[],_,h1=>by simpa[br]using h1
 |a::as,_,h1=>by simp only[br]at h1⊢;obtain⟨v,vs,e,h2,h3⟩:=h1;exact⟨v,vs,e,VR.ez h a v h2,br.kW h as vs h3⟩
end
theorem dE.wD(φ):dE φ.pu φ:=⟨λ_ _ h=>(by cases h),λ_ _ h=>h,λ_ _ h=>h⟩
mutual
theorem VR.zJ{φ ψ:cn}(hr:dE φ.pu ψ.pu):∀(a:AV) (v:Value),eR a=true->VR φ a v->VR ψ a v
 |.au _,_,_,h1=>by simpa[VR]using h1
 |.bV _ _,_,_,h1=>by simpa[VR]using h1
 |.ad _,_,_,h1=>by simpa[VR]using h1
 |.aa _ _,_,hp,_=>by cases hp
 |.kP,_,_,h1=>by simpa[VR]using h1
 |.bw ..,_,hp,_=>by cases hp
 |.aM,_,_,h1=>by simpa[VR]using h1
 |.aB _,_,hp,_=>by cases hp
 |.mW,_,_,h1=>by simpa[VR]using h1
 |.bn _ f c,_,hp,h1=>by simp only[eR,dc]at hp;simp only[VR]at h1⊢;obtain⟨f',c',e,hy,h2,h3⟩:=h1;exact⟨f',c',e,hy,br.zJ hr f _ hp.1 h2,br.zJ hr c _ hp.2 h3⟩
 |.gN _,_,hp,_=>by cases hp
 |.qz,_,_,h1=>by simpa[VR]using h1
 |.ec _ a,_,hp,h1=>by simp only[eR]at hp;simp only[VR]at h1⊢;obtain⟨v',e,h2⟩:=h1;exact⟨v',e,VR.zJ hr a _ hp h2⟩
 |.lJ,_,_,h1=>by simpa[VR]using h1
 |.ai cs,_,hp,h1=>by simp only[eR]at hp;simp only[VR]at h1⊢;obtain⟨v',e,h2⟩:=h1;exact⟨v',e,br.zJ hr cs _ hp h2⟩
 |.aC cs,_,hp,h1=>by simp only[eR]at hp;simp only[VR]at h1⊢;obtain⟨v',e,h2⟩:=h1;exact⟨v',e,br.zJ hr cs _ hp h2⟩
 |.vV _,_,_,h1=>by simpa[VR]using h1
 |.ah cs _ _,v,_,h1=>VR.ez (ψ:=ψ) (hr.Ko (dE.wD ψ)) (.ah cs _ _) v (φ:=φ.pu) (by simp only[VR]at h1⊢;exact h1)
 |.pK cs,v,_,h1=>VR.ez (ψ:=ψ) (hr.Ko (dE.wD ψ)) (.pK cs) v (φ:=φ.pu) (by simp only[VR]at h1⊢;exact h1)
 |.fw n o,v,_,h1=>VR.ez (ψ:=ψ) (hr.Ko (dE.wD ψ)) (.fw n o) v (φ:=φ.pu) (by simp only[VR]at h1⊢;exact h1)
 |.fE n l s,v,_,h1=>VR.ez (ψ:=ψ) (hr.Ko (dE.wD ψ)) (.fE n l s) v (φ:=φ.pu) (by simp only[VR]at h1⊢;exact h1)
 |.rC,_,_,h1=>by simpa[VR]using h1
 |.dN _,_,_,h1=>by simp[VR]at h1
 |.aj ..,_,hp,_=>by cases hp
theorem br.zJ{φ ψ:cn}(hr:dE φ.pu ψ.pu):∀(as:LV) (vs:List Value),zI as=true->br φ as vs->br ψ as vs
 |[],_,_,h1=>by simpa[br]using h1
 |a::as,_,hp,h1=>by simp only[zI,dc]at hp;simp only[br]at h1⊢;obtain⟨v,vs,e,h2,h3⟩:=h1;exact⟨v,vs,e,VR.zJ hr a v hp.1 h2,br.zJ hr as vs hp.2 h3⟩
end
theorem VR.Es{φ ψ}(a v)(hp:eR a=true)(h:VR φ a v)(hr:dE φ.pu ψ.pu:=by exact dE.refl _):VR ψ a v:=VR.zJ hr a v hp h
theorem br.xg{φ ψ}(as vs)(hp:zI as=true)(h:br φ as vs)(hr:dE φ.pu ψ.pu:=by exact dE.refl _):br ψ as vs:=br.zJ hr as vs hp h
theorem wF:∀l,zI l=l.all eR
 |[]=>rfl
 |a::l=>by simp[zI,wF l]
section awK
variable{φ:cn}
theorem l8:br φ [] []:=by simp[br]
theorem qH{a v as vs}:br φ (a::as) (v::vs)↔VR φ a v/\br φ as vs:=by
 constructor
 .rintro⟨v',eF,e,h1,h2⟩;cases e;exact⟨h1,h2⟩
 .rintro⟨h1,h2⟩;exact⟨v,vs,rfl,h1,h2⟩
theorem br.jh:∀{as vs},br φ as vs->as.length=vs.length
 |[],vs,h=>by simp only[br]at h;subst h;rfl
 |a::as,vs,h=>by obtain⟨v,eF,rfl,_,h2⟩:=h;simp[br.jh h2]
theorem br.get:∀{as vs},br φ as vs->∀{i:Nat} {a},as[i]? =some a->∃v,vs[i]? =some v/\VR φ a v
 |[],_,_,i,a,hi=>by simp at hi
 |b::as,vs,h,i,a,hi=>by
  obtain⟨v,eF,rfl,h1,h2⟩:=h;cases i with
  |zero=>simp at hi;subst hi;exact⟨v,by simp,h1⟩
  |succ i=>simp at hi⊢;exact br.get h2 hi
theorem br.yE:∀{as vs},br φ as vs->∀n,br φ (as.take n) (vs.take n)
 |[],_,h,n=>by simp only[br]at h;subst h;simp[br]
 |a::as,vs,h,n=>by
  obtain⟨v,eF,rfl,h1,h2⟩:=h;cases n with
  |zero=>simp[br]
  |succ n=>simp;exact qH.2 ⟨h1,br.yE h2 n⟩
theorem br.yD:∀{as vs},br φ as vs->∀n,br φ (as.drop n) (vs.drop n)
 |[],_,h,n=>by simp only[br]at h;subst h;simp[br]
 |a::as,vs,h,n=>by
  obtain⟨v,eF,rfl,h1,h2⟩:=h;cases n with
  |zero=>exact qH.2 ⟨h1,h2⟩
  |succ n=>simp;exact br.yD h2 n
theorem br.xf:∀{as bs vs ws},br φ as vs->br φ bs ws->br φ (as++bs) (vs++ws)
 |[],_,vs,_,h,h'=>by simp only[br]at h;subst h;simpa using h'
 |a::as,_,vs,_,h,h'=>by obtain⟨v,eF,rfl,h1,h2⟩:=h;simp;exact qH.2 ⟨h1,br.xf h2 h'⟩
theorem pa{a v}(h:VR φ a v):br φ [a] [v]:=qH.2 ⟨h,l8⟩
theorem afs{as vs}(hl:as.length=vs.length)(h:∀(i:Nat) (a v),as[i]? =some a->vs[i]? =some v->VR φ a v):br φ as vs:=by
 induction as generalizing vs with
 |nil=>cases vs with
  |nil=>exact l8
  |cons=>simp at hl
 |cons a as ih=>cases vs with
  |nil=>simp at hl
  |cons v vs=>exact qH.2 ⟨h 0 a v rfl rfl,ih (by simpa using hl) (λi a v h1 h2=>h (i+1) a v (by simpa using h1) (by simpa using h2))⟩
end awK
theorem AV.tv{φ a v}(h:VR φ a v):br φ a.dQ v.cells.toList:=by
 cases a<;>simp only[AV.dQ];case ai cs=>simp only[VR]at h;obtain⟨cs',rfl,h⟩:=h;exact h
 case ah=>have h':=h;obtain⟨a,c,rfl,_⟩:=h;exact pa h'
 case pK=>have h':=h;obtain⟨b,x,eK,el,fz,rfl,_⟩:=h;exact pa h'
 case aj=>have h':=h;rcases h with⟨_,rfl⟩|⟨e,x,c,_,rfl,_⟩<;>exact pa h'
 case fE=>have h':=h;rcases h with⟨_,rfl⟩|⟨e,x,c,_,rfl,_⟩<;>exact pa h'
 case rC=>have h':=h;obtain⟨a,rfl⟩:=h;exact pa h'
 case dN=>exact h.elim
 all_goals
  have h':=h;first
   |(subst h;exact pa h')
   |(obtain⟨_,_,rfl⟩:=h;exact pa h')
   |(obtain⟨_,rfl,_⟩:=h;exact pa h')
   |(obtain⟨_,_,_,rfl,_⟩:=h;exact pa h')
   |(obtain⟨_,_,_,_,rfl,_⟩:=h;exact pa h')
   |(obtain⟨_,_,rfl,_⟩:=h;exact pa h')
theorem AV.axG{φ a v}(h:VR φ a v):v.oneCell'=a.cY:=by
 cases a<;>simp only[VR]at h;case ah=>obtain⟨a,c,rfl,_⟩:=h;rfl
 case pK=>obtain⟨b,x,eK,el,fz,rfl,_⟩:=h;rfl
 case aj=>rcases h with⟨_,rfl⟩|⟨e,x,c,_,rfl,_⟩<;>rfl
 case fE=>rcases h with⟨_,rfl⟩|⟨e,x,c,_,rfl,_⟩<;>rfl
 case rC=>obtain⟨a,rfl⟩:=h;rfl
 all_goals first
  |(subst h;rfl)
  |(obtain⟨_,_,rfl⟩:=h;rfl)
  |(obtain⟨_,rfl,_⟩:=h;rfl)
  |(obtain⟨_,_,_,rfl,_⟩:=h;rfl)
  |(obtain⟨_,_,rfl,_⟩:=h;rfl)
  |(obtain⟨_,_,_,_,rfl,_⟩:=h;rfl)
theorem AV.abM{φ as vs}(h:br φ as vs)(h1:as.all AV.cY=true):∀v∈vs,v.oneCell'=true:=by
 induction as generalizing vs with
 |nil=>simp only[br]at h;subst h;simp
 |cons a as ih=>
  obtain⟨v,eF,rfl,h2,h3⟩:=h;simp only[List.all_cons,dc]at h1;intro x hx;rcases dK.1 hx with rfl|hx
  .rw[AV.axG h2];exact h1.1
  .exact ih h3 h1.2 x hx
theorem agz{φ v a}(h:Qp v=some a):VR φ a v:=by
 unfold Qp at h;split at h<;>first
  |(cases h;done)
  |(injection h with h;subst h;simp[VR];done)
  |skip
 rename_i fn f c;cases hy:wq fn<;>cases hf:f.isEmpty<;>cases hc:c.isEmpty<;>simp[hy,hf,hc]at h;subst h;have h1:=NY.1 hf;have h2:=NY.1 hc;subst h1 h2;exact⟨#[],#[],rfl,hy,l8,l8⟩
theorem agA{φ}:∀{vs as},HM vs=some as->br φ as vs
 |[],as,h=>by simp[HM]at h;subst h;exact l8
 |v::vs,as,h=>by
  simp only[HM]at h;split at h
  .cases h
  next a ha=>
   split at h
   .cases h
   next qI Mq=>cases h;exact qH.2 ⟨agz ha,agA Mq⟩
theorem Yq{φ v a}(h:Kt v=some a):VR φ a v:=by
 unfold Kt at h;split at h;next cs=>
  cases hc:HM cs.toList with
  |none=>simp[hc]at h
  |some as=>simp[hc]at h;subst h;exact⟨cs,rfl,agA hc⟩
 next cs=>cases hc:cs.isEmpty<;>simp[hc]at h;subst h;have:=NY.1 hc;subst this;exact⟨#[],rfl,l8⟩
 .exact agz h
theorem Ag{φ P t z}(h:kb P t=some z):∃v,VR φ z v/\∀w,(zeroValue t).run P w=.ok v w:=by
 unfold kb at h;cases hi:P.info? t with
 |none=>simp[hi]at h
 |some i=>
  simp only[hi,ri]at h;cases hz:i.zero with
  |none=>simp[hz]at h
  |some v=>simp only[hz,ri]at h;exact⟨v,Yq h,λw=>by simp[zeroValue,run_typeInfo w hi,hz]⟩
theorem jI{P t n}(h:cW P t=some n)(w):(sizeOf t).run P w=.ok n w:=by
 unfold cW at h;cases hi:P.info? t with
 |none=>simp[hi]at h
 |some i=>simp[hi]at h;simp[sizeOf,run_typeInfo w hi,h]
theorem X9{P t n}(h:uG P t=some n)(w):∃i,(typeInfo t).run P w=.ok i w/\i.bytes=n:=by
 unfold uG at h;cases hi:P.info? t with
 |none=>simp[hi]at h
 |some i=>simp[hi]at h;exact⟨i,run_typeInfo w hi,h⟩
theorem F0{P t b}(h:De P t=some b)(w):(isAgg t).run P w=.ok b w:=by
 unfold De at h;cases hu:P.underlying t with
 |none=>simp[hu]at h
 |some d=>cases d<;>simp[hu]at h<;>subst h<;>simp[isAgg,run_underlying hu w]
theorem ab5{α P}:∀{s} {a:α},Bm P s=some a->∀w,s.run P w=.ok a w
 |.pure a,b,h,w=>by simp[Bm]at h;subst h;rfl
 |.program k,b,h,w=>by simp only[Bm]at h;simp only[Sem.run];exact ab5 h w
 |.load ..,_,h,_|.store ..,_,h,_|.new ..,_,h,_|.shape ..,_,h,_|.freeze ..,_,h,_|.frozen ..,_,h,_|.getObj ..,_,h,_
 |.setObj ..,_,h,_|.choose ..,_,h,_|.sys ..,_,h,_|.mark ..,_,h,_|.halt ..,_,h,_=>by simp[Bm]at h
def dP(φ:cn):List (AV×AV×Nat)->List MapEntry->Prop
 |[],l=>l=[]
 |(k,v,b)::es,l=>∃m ms,l=m::ms/\VR φ k m.key/\VR φ v m.val/\m.born=b/\dP φ es ms
def DR(φ:cn):pR->Deferred->Prop
 |.vu fn cap args,d=>∃vN args':Array Value,d={target:=.fn fn vN,args:=args'}/\wq fn=false/\br φ cap vN.toList/\br φ args args'.toList
 |.oH r,d=>∃e,φ r=some e/\d={target:=.collected e.b,args:= #[]}
def pU(φ:cn):List pR->List Deferred->Prop
 |[],l=>l=[]
 |a::as,l=>∃d ds,l=d::ds/\DR φ a d/\pU φ as ds
def TR(φ:cn)(t:Tr AV)(nt:Nat)(tmps:Array Value):Prop:=
 tmps.size=nt/\∀i a,t.bZ i=some a->∃v,tmps[i]? =some v/\VR φ a v
def OR(φ:cn):bf->PE->Obj->Prop
 |.al vs _,e,o=>∃cs el,o=.cells cs el (0,0)/\cs.size=e.n/\e.o+vs.length<=e.n/\br φ vs ((cs.toList.drop e.o).take vs.length)/\vs.all AV.cY=true
 |.aY es clock p,_,o=>∃bJ:Array MapEntry,o=.map bJ clock/\dP φ es bJ.toList/\(p=true->dP φ.pu es bJ.toList)
 |.uk s pos,e,o=>∃b,o=.stringIter b pos/\dL b=s/\e.o=0
 |.jg m since bK DW,e,o=>∃m',o=.mapIter m' since bK.toArray DW/\e.o=0/\(match m with|none=>m'=none|some id=>∃e,φ id=some e/\m'=some e.b)
 |.hQ st p fn tmps nt ps a b d,_,o=>∃o5 ed,o=.loop {state:=st,pending:=p,fn,tmps:=o5,params:=ps.toArray,assign:=a,body:=b,defers:=ed.b}/\φ d=some ed/\TR φ tmps nt o5
 |.pP ds,_,o=>(match ds with|none=>o=.deferred none|some l=>∃l',o=.deferred (some l')/\pU φ l l')
 |.bm _,_,_=>True
 |.dU vs _,e,o=>∃cs el,o=.cells cs el (0,0)/\cs.size=e.n/\e.o+vs.length<=e.n/\br φ.pu vs ((cs.toList.drop e.o).take vs.length)/\vs.all AV.cY=true
 |.aA vs _,e,o=>∃cs el,o=.cells cs el (0,0)/\cs.size=e.n/\e.o+vs.length<=e.n/\br φ.pu vs ((cs.toList.drop e.o).take vs.length)/\vs.all AV.cY=true
theorem ae4{φ χ}(h:dE φ χ){vs el h_ e o}(ho:OR φ.pu (.al vs el) e o):OR χ (.dU vs h_) e o:=
 let⟨cs,kL,h1,h2,h3,h4,h5⟩:=ho
 ⟨cs,kL,h1,h2,h3,br.kW h.pu _ _ h4,h5⟩
theorem WS{φ χ}(h:dE φ χ){vs el h_ e o}(ho:OR φ.pu (.al vs el) e o):OR χ (.aA vs h_) e o:=
 let⟨cs,kL,h1,h2,h3,h4,h5⟩:=ho
 ⟨cs,kL,h1,h2,h3,br.kW h.pu _ _ h4,h5⟩
def bf.aR:bf->Bool
 |.bm _=>false
 |_=>true
abbrev fN:=Nat->Prop
def iv(base:fN)(w:World):Prop:=∀b,base b->b<w.heap.size
def axy(w:World):fN:=λb=>b<w.heap.size
theorem iv.Eo{base w w'}(h:iv base w)(cA:w.heap.size<=w'.heap.size):iv base w':=λb hb=>JX (h b hb) cA
def KX(φ:cn)(H:AH)(b:Nat):Prop:=(∃o,φ.ro b=some o)\/∃n ob e,H.gT n=some ob/\φ.xs n=some e/\e.b=b
structure WX(φ:cn)(base:fN)(H:AH)(w:World):Prop where
 ro:∀b o,φ.ro b=some o->(¬base b/\w.heap[b]? =some o)/\∀id ob e,H.bc id=some ob->ob.aR=true->φ id=some e->e.b≠b
 xo:∀n ob,H.gT n=some ob->∃e o,φ.xs n=some e/\(¬base e.b/\w.heap[e.b]? =some o)/\OR φ.pu ob e o/\φ.ro e.b=none/\∀id dn e1,H.bc id=some dn->dn.aR=true->φ id=some e1->e1.b≠e.b
 xi:∀n n' ob bE e e',H.gT n=some ob->H.gT n'=some bE->φ.xs n=some e->φ.xs n'=some e'->e.b=e'.b->n=n'
 xl:∀X,H.x=some X->∀n e,φ.xs n=some e->n<X.n
structure WR(φ:cn)(base:fN)(H:AH)(w:World):Prop where
 eI:∀id ob e,H.bc id=some ob->φ id=some e->∃o,w.heap[e.b]? =some o/\OR φ ob e o
 ji:∀id iq ob bE e e',H.bc id=some ob->ob.aR=true->φ id=some e->H.bc iq=some bE->bE.aR=true->φ iq=some e'->e.b=e'.b->id=iq
 lt:∀id e,φ id=some e->e.b<w.heap.size/\¬base e.b/\id<H.bx
 nx:∀id ob,H.bc id=some ob->id<H.bx
 wx:WX φ base H w
theorem WR.ro{φ base H w}(hw:WR φ base H w):∀b o,φ.ro b=some o->(¬base b/\w.heap[b]? =some o)/\∀id ob e,H.bc id=some ob->ob.aR=true->φ id=some e->e.b≠b:=hw.wx.ro
theorem ux{H H':AH}(h:H'.x=H.x)(n):H'.gT n=H.gT n:=by have⟨a,b,c⟩:=H;have⟨a',b',c'⟩:=H';subst h;cases c'<;>rfl
theorem WR.aaP{φ base H w}(hw:WR φ base H w){b}(h:KX φ H b){id ob e}(h1:H.bc id=some ob)(h2:ob.aR=true)(h3:φ id=some e):e.b≠b:=by
 rcases h with⟨o,h⟩|⟨n,bE,e',k1,k2,rfl⟩
 .exact(hw.wx.ro b o h).2 id ob e h1 h2 h3
 .have⟨e2,o,q1,q2,q3,q4,q5⟩:=hw.wx.xo n bE k1;rw[k2]at q1;cases q1;exact q5 id ob e h1 h2 h3
theorem WR.akb{φ base H w}(hw:WR φ base H w){b}(h:KX φ H b):b<w.heap.size:=by
 rcases h with⟨o,h⟩|⟨n,bE,e',k1,k2,rfl⟩
 .exact(NS.1 (hw.wx.ro b o h).1.2).1
 .have⟨e2,o,q1,q2,_⟩:=hw.wx.xo n bE k1;rw[k2]at q1;cases q1;exact(NS.1 q2.2).1
theorem WR.s8{φ aQ base H H' w w'}(hw:WR φ base H w)(hr:aQ.ro=φ.ro)(hx:aQ.xs=φ.xs)(hX:H'.x=H.x)(hh:∀b,KX φ H b->w'.heap[b]? =w.heap[b]?)(hs:∀id ob e,H'.bc id=some ob->ob.aR=true->aQ id=some e->(∃j ef e0,H.bc j=some ef/\ef.aR=true/\φ j=some e0/\e0.b=e.b)\/w.heap.size<=e.b):
 WX aQ base H' w':=by
 have hpu:aQ.pu=φ.pu:=by unfold cn.pu;rw[hr,hx]
 have cK:∀b,KX φ H b->∀id ob e,H'.bc id=some ob->ob.aR=true->aQ id=some e->e.b≠b:=by
  intro b hb id ob e k1 k2 k3 fI;rcases hs id ob e k1 k2 k3 with⟨j,ef,e0,q1,q2,q3,q4⟩|q
  .exact hw.aaP hb q1 q2 q3 (q4.trans fI)
  .have:=hw.akb hb;omega
 refine⟨λb o hb=>?_,λn ob h=>?_,λn n' ob bE e e' h1 h2 h3 h4=>?_,λX h n e h1=>?_⟩
 .rw[hr]at hb;have⟨⟨h1,h2⟩,h3⟩:=hw.ro b o hb;exact⟨⟨h1,(hh b (.inl ⟨o,hb⟩)).trans h2⟩,cK b (.inl ⟨o,hb⟩)⟩
 .rw[ux hX]at h;have⟨e,o,q1,q2,q3,q4,q5⟩:=hw.wx.xo n ob h;have hk:KX φ H e.b:=.inr ⟨n,ob,e,h,q1,rfl⟩;refine⟨e,o,by rw[hx];exact q1,⟨q2.1,(hh _ hk).trans q2.2⟩,by rw[hpu];exact q3,by rw[hr];exact q4,cK _ hk⟩
 .rw[ux hX]at h1 h2;rw[hx]at h3 h4;exact hw.wx.xi n n' ob bE e e' h1 h2 h3 h4
 .rw[hX]at h;rw[hx]at h1;exact hw.wx.xl X h n e h1
def n_(φ:cn)(ρ:Operand->Option AV)(ev:Operand->Value)(l:List Operand):Prop:=∀x∈l,∀a,ρ x=some a->VR φ a (ev x)
theorem n_.of{φ ρ ev l}(h:n_ φ ρ ev l){x}(hx:x∈l){a}(ha:ρ x=some a):VR φ a (ev x):=h x hx a ha
theorem n_.pQ{φ ρ ev l l'}(h:n_ φ ρ ev l)(hs:∀x∈l',x∈l):n_ φ ρ ev l':=λx hx=>h x (hs x hx)
theorem BR{φ ρ ev}:∀{l as},n_ φ ρ ev l->vK ρ l=some as->br φ as (l.map ev)
 |[],as,_,h=>by simp[vK]at h;subst h;exact l8
 |x::l,as,hr,h=>by
  simp only[vK]at h;split at h
  .cases h
  next a ha=>
   split at h
   .cases h
   next qI Mq=>cases h;exact qH.2 ⟨hr x (by simp) a ha,BR (hr.pQ (λy hy=>by simp[hy])) Mq⟩
theorem axL{φ ρ ev x r}(hr:n_ φ ρ ev x.toList)(h:rX ρ x=some r):
 (r=none/\x.map ev=none)\/(∃a v,r=some a/\x.map ev=some v/\VR φ a v):=by
 cases x with
 |none=>simp[rX]at h;subst h;exact .inl ⟨rfl,rfl⟩
 |some x=>
  simp only[rX]at h;cases hx:ρ x with
  |none=>simp[hx]at h
  |some a=>simp[hx]at h;subst h;exact .inr ⟨a,ev x,rfl,rfl,hr x (by simp) a hx⟩
section ayw
variable{P:Program}{φ:cn}{base:fN}{H:AH}{w:World}
theorem WR.OY(hw:WR φ base H w){id vs e}(h:H.qy id=some vs)(he:φ id=some e):
 ∃cs el,w.heap[e.b]? =some (.cells cs el (0,0))/\cs.size=e.n/\e.o+vs.length<=e.n/\br φ vs ((cs.toList.drop e.o).take vs.length)/\vs.all AV.cY=true:=by
 unfold AH.qy at h;split at h;next ho=>cases h;have⟨o,h1,h2⟩:=hw.eI id _ e ho he;obtain⟨cs,el,rfl,h3⟩:=h2;exact⟨cs,el,h1,h3⟩
 next ho=>cases h;have⟨o,h1,h2⟩:=hw.eI id _ e ho he;obtain⟨cs,el,rfl,h3,h4,h5,h6⟩:=h2;exact⟨cs,el,h1,h3,h4,br.kW (dE.wD φ) _ _ h5,h6⟩
 next ho=>cases h;have⟨o,h1,h2⟩:=hw.eI id _ e ho he;obtain⟨cs,el,rfl,h3,h4,h5,h6⟩:=h2;exact⟨cs,el,h1,h3,h4,br.kW (dE.wD φ) _ _ h5,h6⟩
 .cases h
theorem DS{l r off n}(h:oE l off n=some r):r=(l.drop off).take n/\r.length=n:=by
 unfold oE at h;simp only at h;cases hb:Nat.beq ((l.drop off).take n).length n
 .rw[hb]at h;cases h
 .rw[hb]at h;cases h;exact⟨rfl,dw hb⟩
theorem abk{r v}(h:r.map AV.ai=some v):∃l,r=some l/\v=.ai l:=by
 cases r with
 |none=>cases h
 |some l=>cases h;exact⟨l,rfl,rfl⟩
theorem Tt{t cs cs' off v}(hc:br φ cs cs'.toList)(h:cz P t cs off=some v)(w):
 ∃v',(part t cs' off).run P w=.ok v' w/\VR φ v v':=by
 unfold cz at h;split at h;next ha=>
  split at h;next s hs=>
   obtain⟨l,hl,rfl⟩:=abk h;obtain⟨rfl,bS⟩:=DS hl;refine⟨.agg (cs'.extract off (off+s)),?_,?_⟩
   .simp[part,F0 ha w,jI hs w]
   .refine⟨_,rfl,?_⟩;have:=(hc.yD off).yE s;have e:(cs'.extract off (off+s)).toList=(cs'.toList.drop off).take s:=by simp
    rw[e];exact this
  .cases h
 next ha=>
  have⟨v',h1,h2⟩:=hc.get h;refine⟨v',?_,h2⟩;have h3:cs'[off]? =some v':=by simpa using h1
  simp[part,F0 ha w,h3]
 .cases h
theorem Gq{b o n cs el fz}(hg:w.heap[b]? =some (.cells cs el fz))(h:o+n<=cs.size):
 (loadCells ⟨b,o,none⟩ n).run P w=.ok ((cs.toList.drop o).take n).toArray w:=by
 have hl:((cs.toList.drop o).take n).length=n:=by simp;omega
 have:=run_loadCells_list (P:=P) w ⟨b,o,none⟩ ((cs.toList.drop o).take n) (λj v hv=>by
  have auB:(⟨b,o,none⟩:Addr).add j=⟨b,o+j,none⟩:=by unfold Addr.add;split<;>simp_all
  rw[auB,cell_of_row w b (o+j) cs el fz hg];have hj:j<n:=by
   rcases Gk j n with h1|h1
   .exact h1
   .rw[Bo (by simp;omega)]at hv;cases hv
  rw[yf hj,vj]at hv;simpa using hv)
 rwa[hl]at this
theorem akA{t vs cs el off v}{e:PE}(hg:w.heap[e.b]? =some (.cells cs el (0,0)))(cx:cs.size=e.n)(cA:e.o+vs.length<=e.n)(hv:br φ vs ((cs.toList.drop e.o).take vs.length))(h:cz P t vs off=some v):
 ∃v',(loadVar t ⟨e.b,e.o+off,none⟩).run P w=.ok v' w/\VR φ v v':=by
 unfold cz at h;split at h;next ha=>
  split at h;next s hs=>
   obtain⟨l,hl,rfl⟩:=abk h;obtain⟨rfl,bS⟩:=DS hl;by_cases hs0:s=0
   .subst hs0;refine⟨.agg #[],?_,?_⟩
    .simp[loadVar,F0 ha w,jI hs w,loadCells,loadCellsFrom]
    .refine⟨#[],rfl,?_⟩;simp[br]
   .have jd:off+s<=vs.length:=by simp at bS;omega
    refine⟨.agg ((cs.toList.drop (e.o+off)).take s).toArray,?_,?_⟩
    .simp[loadVar,F0 ha w,jI hs w,Gq hg (show e.o+off+s<=cs.size by omega)]
    .refine⟨_,rfl,?_⟩;have h2:=(hv.yD off).yE s;have e2:(((cs.toList.drop e.o).take vs.length).drop off).take s=(cs.toList.drop (e.o+off)).take s:=by rw[zO,wM,Bq];congr 1;omega
     rw[e2]at h2;simpa using h2
  .cases h
 next ha=>
  have⟨v',h2,h3⟩:=hv.get h;have ay:off<vs.length:=by
   rcases Gk off vs.length with h|h'
   .exact h
   .rw[Bo h']at h;cases h
  rw[yf ay,vj]at h2;refine⟨v',?_,h3⟩;have IQ:w.cell? ⟨e.b,e.o+off,none⟩=some v':=by rw[cell_of_row w e.b (e.o+off) cs el (0,0) hg];simpa using h2
  simp[loadVar,F0 ha w,IQ]
 .cases h
theorem aa9(hw:WR φ base H w){t id off v e}(h:t_ P H t id off=some v)(he:φ id=some e):
 ∃v',(loadVar t ⟨e.b,e.o+off,none⟩).run P w=.ok v' w/\VR φ v v':=by
 unfold t_ at h;split at h
 .cases h
 next vs jC=>have⟨cs,el,hg,cx,cA,hv,h1⟩:=hw.OY jC he;exact akA hg cx cA hv h
theorem WR.yQ(hw:WR φ base H w){n vs e}(h:yQ (H.gT n)=some vs)(he:φ.xs n=some e):
 ∃cs el,w.heap[e.b]? =some (.cells cs el (0,0))/\cs.size=e.n/\e.o+vs.length<=e.n/\br φ.pu vs ((cs.toList.drop e.o).take vs.length)/\vs.all AV.cY=true:=by
 unfold Go.Ev.yQ at h;split at h;next ho=>cases h;have⟨e',o,h1,h2,h3,_⟩:=hw.wx.xo n _ ho;rw[he]at h1;cases h1;obtain⟨cs,el,rfl,h4,h5,h6,h7⟩:=h3;exact⟨cs,el,h2.2,h4,h5,h6,h7⟩
 next ho=>cases h;have⟨e',o,h1,h2,h3,_⟩:=hw.wx.xo n _ ho;rw[he]at h1;cases h1;obtain⟨cs,el,rfl,h4,h5,h6,h7⟩:=h3;exact⟨cs,el,h2.2,h4,h5,h6,h7⟩
 .cases h
theorem awP(hw:WR φ base H w){t n off v e}(h:pt P H t n off=some v)(he:φ.xs n=some e):
 ∃v',(loadVar t ⟨e.b,e.o+off,none⟩).run P w=.ok v' w/\VR φ v v':=by
 unfold pt at h;split at h
 .cases h
 next vs jC=>have⟨cs,el,hg,cx,cA,hv,h1⟩:=hw.yQ jC he;exact akA hg cx cA (br.kW (dE.wD φ) _ _ hv) h
theorem awO{t cs b x eK el fz v}(h:cz P t cs 0=some v)(hg:w.heap[b]? =some (.cells eK el fz))(cx:x+cs.length<=eK.size)(hc:br φ cs ((eK.toList.drop x).take cs.length)):∃v',(loadVar t ⟨b,x,none⟩).run P w=.ok v' w/\VR φ v v':=by
 unfold cz at h;split at h;next ha=>
  split at h;next s hs=>
   obtain⟨l,hl,rfl⟩:=abk h;obtain⟨rfl,bS⟩:=DS hl;have jd:s<=cs.length:=by simp at bS;omega
   refine⟨.agg ((eK.toList.drop x).take s).toArray,?_,?_⟩
   .simp[loadVar,F0 ha w,jI hs w,Gq hg (show x+s<=eK.size by omega)]
   .refine⟨_,rfl,?_⟩;have h2:=hc.yE s;rw[Bq,NU jd]at h2;simpa using h2
  .cases h
 next ha=>
  have⟨v',h2,h3⟩:=hc.get h;have ay:0<cs.length:=by
   rcases Gk 0 cs.length with h|h'
   .exact h
   .rw[Bo h']at h;cases h
  rw[yf ay,vj]at h2;refine⟨v',?_,h3⟩;have IQ:w.cell? ⟨b,x,none⟩=some v':=by rw[cell_of_row w b x eK el fz hg];simpa using h2
  simp[loadVar,F0 ha w,IQ]
 .cases h
end ayw
theorem om:∀l m,cb l m=decide (l=m)
 |[],[]=>by simp[cb]
 |[],_::_=>by simp[cb]
 |_::_,[]=>by simp[cb]
 |a::l,b::m=>by rw[cb,Tr.ua,Tr.BT,om l m];by_cases h:a=b<;>simp[h]
theorem ads{a b}(h:dL a=dL b):a=b:=by obtain⟨⟨x⟩⟩:=a;obtain⟨⟨y⟩⟩:=b;simp only[dL]at h;have:x=y:=List.map_inj_right (λu v e=>UInt8.toNat_inj.1 e)|>.1 h;rw[this]
theorem zY(b):(dL b).length=b.size:=by simp[dL]
theorem aFp(a b):dL (a++b)=dL a++dL b:=by simp[dL]
theorem an8(a b):(a.toList==b.toList)=decide (dL a=dL b):=by
 rw[ByteArray.toList_eq,ByteArray.toList_eq];by_cases h:dL a=dL b
 .have:=ads h;subst this;simp
 .have:a.data≠b.data:=λe=>h (by simp only[dL,e])
  simp[h,this]
theorem akt:∀l m,Op.bytesLess l m=kB (l.map UInt8.toNat) (m.map UInt8.toNat)
 |l,[]=>by cases l<;>simp[Op.bytesLess,kB]
 |[],_::_=>by simp[Op.bytesLess,kB]
 |a::l,b::m=>by
  simp only[Op.bytesLess,gZ,kB];rw[akt l m];have h1:Nat.ble (a.toNat+1) b.toNat=decide (a<b):=by rw[sc];simp[UInt8.lt_iff_toNat_lt];omega
  have h2:Nat.beq a.toNat b.toNat=decide (a=b):=by rw[Tr.ua];simp[UInt8.toNat_inj]
  rw[h1,h2];by_cases h:a<b
  .simp[h]
  .by_cases e:a=b<;>simp[h,e]
theorem aq0(a b):Op.bytesLess a.toList b.toList=kB (dL a) (dL b):=by rw[ByteArray.toList_eq,ByteArray.toList_eq,akt];rfl
section
variable{P:Program}{φ:cn}{base:fN}{H:AH}{w:World}
theorem ars{op a b v}(h:Yg op (dL a) (dL b)=some v)(w):
 ∃v',(Op.stringOp op a b).run P w=.ok v' w/\VR φ v v':=by
 unfold Yg at h;split at h
 .cases hb:Nat.ble ((dL a).length+(dL b).length) 1000000
  .rw[hb]at h;cases h
  .rw[hb]at h;cases h;refine⟨.string (a++b),?_,⟨_,rfl,aFp a b⟩⟩;have cA:=pE hb;rw[zY,zY]at cA;have:¬(((a.size+b.size:Nat):Int)>IntKind.i64.max):=by
    have:IntKind.i64.max=9223372036854775807:=by rfl
    rw[this];omega
   simp only[Op.stringOp,az this,Sem.run_pure]
 all_goals first
  |(cases h
    refine⟨_,rfl,?_⟩;simp only[VR,aq0,an8,om];try simp
    done)
  |(cases h;done)
set_option maxHeartbeats 1000000 in
theorem S'{len r}(h:zE len=some r):len≠0/\r=false:=by
 unfold zE at h;cases hb:Nat.beq len 0 with
 |true=>rw[hb]at h;cases h
 |false=>rw[hb]at h;cases h;exact⟨(λe=>by rw[e]at hb;cases hb),rfl⟩
set_option maxHeartbeats 1000000 in
theorem YZ:∀d t x y r vx vy,iB P d t x y=some r->VR φ x vx->VR φ y vy->∀D,d<=D->∀w,(Op.equalIn D t vx vy).run P w=.ok r w:=by
 intro d;induction d with
 |zero=>intro t x y r vx vy h;simp[iB]at h
 |succ d ih=>
  intro t x y r vx vy h hx hy D hD w;obtain⟨D,rfl⟩:∃D',D=D'+1:=⟨D-1,by omega⟩;simp only[iB]at h;split at h;case h_22=>
   rename_i gp xs ys hu;obtain⟨xs',rfl,MY⟩:=hx;obtain⟨su,rfl,hys⟩:=hy;cases gK:P.stoodInHeld t;case true=>rw[gK]at h;cases h
   rw[gK]at h;simp only[cond_false]at h;have hf:P.fieldsOf t=gp:=by simp[Program.fieldsOf,hu]
   rw[run_equalIn_struct w D t xs' su (by rw[hf];exact hu) gK,hf];generalize gp.toList=fs at h;clear hu hf;induction fs generalizing w with
   |nil=>simp[iB.Et]at h;subst h;simp[Op.eqFields]
   |cons f fs ihf=>
    simp only[iB.Et]at h;split at h
    .cases h
    next hn=>
     split at h;next a b ha hb=>
      obtain⟨va,h1,h2⟩:=Tt MY ha w;obtain⟨vb,h3,h4⟩:=Tt hys hb w;simp only[Op.eqFields];rw[aL hn];simp only[Sem.run_bind,h1,h3,Result.andThen_ok];split at h;next he=>rw[ih _ _ _ _ _ _ he h2 h4 D (by omega) w];simp only[Result.andThen_ok];exact ihf w h
      next he=>rw[ih _ _ _ _ _ _ he h2 h4 D (by omega) w];cases h;simp
      .cases h
     .cases h
  case h_21=>
   rename_i ms tx va ty vb hu;obtain⟨va',rfl,h1⟩:=hx;obtain⟨vb',rfl,h2⟩:=hy;cases hb:Nat.beq tx ty
   .rw[hb]at h;cases h;have:tx≠ty:=by intro e;subst e;simp at hb
    simp[Op.equalIn,run_underlying hu w,this]
   .rw[hb]at h;have:tx=ty:=dw hb;subst this;simp only[cond_true]at h;split at h;next i hi=>
     cases hc:i.comparable
     .rw[hc]at h;cases h
     .rw[hc]at h;simp only[cond_true]at h;simp[Op.equalIn,run_underlying hu w,run_typeInfo w hi,hc,ih _ _ _ _ _ _ h h1 h2 D (by omega) w]
    .cases h
  all_goals
   try (cases h;done)
  all_goals
   simp only[VR]at hx hy
  all_goals rename_i hu
  case h_2=>
   subst hx hy;split at h;next hk=>subst hk;cases h;simp[Op.equalIn,run_underlying hu w]
   .cases h
  case h_3=>obtain⟨a,rfl,rfl⟩:=hx;obtain⟨b,rfl,rfl⟩:=hy;cases h;rw[run_equalIn_string w D t a b hu,an8,om]
  case h_23=>
   subst hx;obtain⟨a,c,rfl,_,h4⟩:=hy;obtain⟨h0,rfl⟩:=S' h;rcases h4 with h4|⟨b,x,_,_,_,rfl,_⟩
   .exact absurd h4 h0
   .simp[Op.equalIn,run_underlying hu w]
  case h_24=>
   subst hy;obtain⟨a,c,rfl,_,h4⟩:=hx;obtain⟨h0,rfl⟩:=S' h;rcases h4 with h4|⟨b,x,_,_,_,rfl,_⟩
   .exact absurd h4 h0
   .simp[Op.equalIn,run_underlying hu w]
  case h_25=>
   subst hx;obtain⟨h0,rfl⟩:=S' h;rcases hy with⟨h4,_⟩|⟨e,x,c,_,rfl,_⟩
   .exact absurd h4 h0
   .simp[Op.equalIn,run_underlying hu w]
  case h_26=>
   subst hy;obtain⟨h0,rfl⟩:=S' h;rcases hx with⟨h4,_⟩|⟨e,x,c,_,rfl,_⟩
   .exact absurd h4 h0
   .simp[Op.equalIn,run_underlying hu w]
  case h_27=>
   subst hx;rcases hy with⟨rfl,rfl⟩|⟨e,x,c,_,rfl,_,_,_,h5⟩
   .cases h;simp[Op.equalIn,run_underlying hu w]
   .rw[show Nat.beq _ 0=false from by rw[rj,Ne,Nat.beq_eq];exact h5]at h;cases h;simp[Op.equalIn,run_underlying hu w]
  case h_28=>
   subst hy;rcases hx with⟨rfl,rfl⟩|⟨e,x,c,_,rfl,_,_,_,h5⟩
   .cases h;simp[Op.equalIn,run_underlying hu w]
   .rw[show Nat.beq _ 0=false from by rw[rj,Ne,Nat.beq_eq];exact h5]at h;cases h;simp[Op.equalIn,run_underlying hu w]
  all_goals cases h
  all_goals first
   |(subst hx hy;simp[Op.equalIn,run_underlying hu w];done)
   |(obtain⟨_,_,rfl⟩:=hx;subst hy;simp[Op.equalIn,run_underlying hu w];done)
   |(obtain⟨_,_,rfl⟩:=hy;subst hx;simp[Op.equalIn,run_underlying hu w];done)
   |(obtain⟨_,_,_,rfl,_⟩:=hx;subst hy;simp[Op.equalIn,run_underlying hu w];done)
   |(obtain⟨_,_,_,rfl,_⟩:=hy;subst hx;simp[Op.equalIn,run_underlying hu w];done)
   |(obtain⟨_,_,_,_,rfl,_⟩:=hx;subst hy;simp[Op.equalIn,run_underlying hu w];done)
   |(obtain⟨_,_,_,_,rfl,_⟩:=hy;subst hx;simp[Op.equalIn,run_underlying hu w];done)
   |(obtain⟨_,_,rfl,_⟩:=hx;subst hy;simp[Op.equalIn,run_underlying hu w];done)
   |(obtain⟨_,_,rfl,_⟩:=hy;subst hx;simp[Op.equalIn,run_underlying hu w];done)
   |(obtain⟨_,rfl,_⟩:=hx;subst hy;simp[Op.equalIn,run_underlying hu w];done)
   |(obtain⟨_,rfl,_⟩:=hy;subst hx;simp[Op.equalIn,run_underlying hu w];done)
end
section
variable{P:Program}{φ:cn}{base:fN}{H:AH}{w:World}
theorem atz(l):∀(k off) (cs:Array Value),off+k+l.length<=cs.size->
 ((l.zipIdx k).foldl (λcs (c,j)=>cs.setIfInBounds (off+j) c) cs).toList=cs.toList.take (off+k)++(l++cs.toList.drop (off+k+l.length)):=by
 induction l with
 |nil=>intro k off cs h;simp
 |cons v l ih=>
  intro k off cs h;simp at h;rw[List.zipIdx_cons,sV,ih (k+1) off _ (by simp;omega)];apply TJ;intro i;simp only[Array.toList_setIfInBounds,List.getElem?_append,wJ,List.length_set,Array.length_toList,JS,List.getElem?_set,vj,ei];by_cases h1:i<off+k
  .have h2:i<off+(k+1):=by omega
   have h3:¬(off+k=i):=by omega
   simp[h1,h2,h3,show min (off+(k+1)) cs.size=off+(k+1)by omega,show min (off+k) cs.size=off+k by omega]
  .by_cases h2:i=off+k
   .subst h2;simp[show min (off+(k+1)) cs.size=off+(k+1)by omega,show min (off+k) cs.size=off+k by omega,show off+k<off+(k+1)by omega,show off+k<cs.size by omega]
   .have h3:¬i<off+(k+1):=by omega
    obtain⟨j,rfl⟩:∃j,i=off+k+1+j:=⟨i-(off+k+1),by omega⟩;simp only[show min (off+(k+1)) cs.size=off+(k+1)by omega,show min (off+k) cs.size=off+k by omega,az h1,az h3];have e1:off+k+1+j-(off+(k+1))=j:=by omega
    have e2:off+k+1+j-(off+k)=j+1:=by omega
    rw[e1,e2];simp;by_cases h4:j<l.length
    .simp[h4]
    .simp only[az h4,show¬(j+1<l.length+1)by omega,if_false];have e3:off+(k+1)+l.length+(j-l.length)=off+k+(l.length+1)+(j+1-(l.length+1)):=by omega
     rw[e3];simp;intro e;omega
theorem Z2:∀n l,aiZ n l=Nat.ble n l.length
 |0,_=>rfl
 |_+1,[]=>rfl
 |n+1,_::l=>(Z2 n l).trans rfl
theorem TB{l cs r off}(h:yd l off cs=some r):off+cs.length<=l.length/\r=l.take off++(cs++l.drop (off+cs.length)):=by
 unfold yd at h;rw[Z2]at h;cases hb:Nat.ble (off+cs.length) l.length
 .rw[hb]at h;cases h
 .rw[hb]at h;cases h;exact⟨pE hb,rfl⟩
theorem br.put{l cs l' cs' off}(hl:br φ l l')(hc:br φ cs cs'):br φ (l.take off++(cs++l.drop (off+cs.length))) (l'.take off++(cs'++l'.drop (off+cs'.length))):=by rw[<-hc.jh];exact(hl.yE off).xf (hc.xf (hl.yD _))
def PI(φ:cn)(ps:List (Nat×AV))(sU:List (Nat×Value)):Prop:=ps.map (·.1)=sU.map (·.1)/\br φ (ps.map (·.2)) (sU.map (·.2))
theorem P0{ρ ev}:∀{l ps},n_ φ ρ ev (l.map (·.2))->Hw ρ l=some ps->PI φ ps (l.map λp=>(p.1,ev p.2))
 |[],ps,_,h=>by simp[Hw]at h;subst h;exact⟨rfl,l8⟩
 |(i,x)::l,ps,hr,h=>by
  simp only[Hw]at h;split at h
  .cases h
  next a ha=>
   split at h
   .cases h
   next as Mq=>cases h;have h1:=P0 (hr.pQ (λy hy=>by simp only[gZ,dK];exact .inr hy)) Mq;exact⟨by simp[h1.1],qH.2 ⟨hr x (by simp) a ha,h1.2⟩⟩
theorem Ra{pl}:∀{ps sU cs r cs'},PI φ ps sU->br φ cs cs'.toList->AM pl cs ps=some r->
 ∃r',Instr.fill pl cs' sU=some r'/\br φ r r'.toList
 |[],sU,cs,r,cs',hp,hc,h=>by
  have:sU=[]:=by have:=hp.1;simpa using this.symm
  subst this;cases h;exact⟨cs',rfl,hc⟩
 |(i,v)::ps,[],_,_,_,hp,_,_=>by have:=hp.1;simp at this
 |(i,v)::ps,(i',v')::sU,cs,r,cs',hp,hc,h=>by
  have⟨h1,h2⟩:=hp;simp at h1;obtain⟨rfl,h1⟩:=h1;simp at h2;have⟨hv,h2⟩:=qH.1 h2;simp only[AM]at h;split at h
  .cases h
  next off size mi=>
   cases hb:Nat.beq v.dQ.length size
   .rw[hb]at h;cases h
   .rw[hb]at h;simp at h;have cx:=dw hb;split at h
    .cases h
    next AA MN=>
     obtain⟨cA,rfl⟩:=TB MN;have hcv:=AV.tv hv;have mS:=hcv.jh;have iH:=hc.jh;have RV:=atz v'.cells.toList 0 off cs' (by simp at mS iH⊢;omega);simp at RV;have aao:=br.put (off:=off) hc hcv;have⟨r',h3,h4⟩:=Ra (cs':=v'.cells.zipIdx.foldl (λcs (c,j)=>cs.setIfInBounds (off+j) c) cs') ⟨h1,h2⟩ (by rw[<-Array.foldl_toList,Array.toList_zipIdx,RV];exact aao) h;refine⟨r',?_,h4⟩;simp only[Instr.fill,mi];have RP:¬(v'.cells.size≠size):=by simp at mS;omega
     have qV:¬(off+v'.cells.size>cs'.size):=by simp at mS iH;omega
     simpa[RP,qV]using h3
theorem ax0{gp pl}(h:alW P gp=some pl)(w):
 (gp.mapM λf=>do pure (f.offset,<-sizeOf f.type):Sem _).run P w=.ok pl.toArray w:=by
 rw[Array.mapM_eq_mapM_toList,Sem.run_map];have:∀(fs:List Field) (pl:List (Nat×Nat)),(fs.mapM λf=>(cW P f.type).map λs=>(f.offset,s))=some pl->((fs.mapM λf=>do pure (f.offset,<-sizeOf f.type):Sem _)).run P w=.ok pl w:=by
  intro fs;induction fs with
  |nil=>intro pl h;simp at h;subst h;simp
  |cons f fs ih=>
   intro pl h;rw[List.mapM_cons]at h⊢;cases hs:cW P f.type with
   |none=>simp[hs]at h
   |some s=>
    simp only[hs,r9,Option.bind_eq_bind,ri]at h;cases hm:(fs.mapM λf=>(cW P f.type).map λs=>(f.offset,s))with
    |none=>simp[hm]at h
    |some pl'=>simp[hm]at h;subst h;have:=ih _ hm;simp[jI hs w]at this⊢;simp[this]
 rw[this _ _ h];rfl
end
section
variable{P:Program}{φ:cn}{base:fN}{H:AH}{w:World}
theorem alG{v a}(h:Tc v=some a):VR φ a v:=by unfold Tc at h;split at h<;>first|(cases h;simp[VR];done)|cases h
theorem ate{op t a b v va vb}(ha:VR φ a va)(hb:VR φ b vb)(h:Ci P op t a b=some v)(w):
 ∃r,(Op.equal t va vb).run P w=.ok r w/\((op=.eql/\v=.au r)\/(op=.neq/\v=.au (!r))):=by
 unfold Ci at h;split at h
 .cases he:iB P 100 t a b with
  |none=>simp[he]at h
  |some r=>simp[he]at h;exact⟨r,YZ 100 t a b r va vb he ha hb Op.maxDepth (by simp[Op.maxDepth]) w,.inl ⟨rfl,h.symm⟩⟩
 .cases he:iB P 100 t a b with
  |none=>simp[he]at h
  |some r=>simp[he]at h;exact⟨r,YZ 100 t a b r va vb he ha hb Op.maxDepth (by simp[Op.maxDepth]) w,.inr ⟨rfl,h.symm⟩⟩
 .cases h
inductive yH:Nat->Value->Prop
 |bool (b:Bool):yH 0 (.bool b)
 |aa (a:Option Addr):yH 1 (.pointer a)
 |slice (a:Option Addr) (n c:Nat):yH 2 (.slice a n c)
 |map (a:Option Nat):yH 3 (.map a)
 |func (fn:Fn) (f c:Array Value):yH 4 (.func fn f c)
 |nilFunc:yH 4 .nilFunc
 |iface (t:TypeId) (v:Value):yH 5 (.iface t v)
 |nilIface:yH 5 .nilIface
 |agg (cs:Array Value):yH 6 (.agg cs)
theorem Rf{a v}(h:VR φ a v)(hk:oQ a≠9):yH (oQ a) v:=by
 cases a<;>simp only[VR]at h;all_goals first
  |(subst h;constructor;done)
  |(obtain⟨_,_,rfl⟩:=h;constructor;done)
  |(obtain⟨_,rfl,_⟩:=h;constructor;done)
  |(obtain⟨_,_,rfl,_⟩:=h;constructor;done)
  |(obtain⟨_,_,_,rfl,_⟩:=h;constructor;done)
  |(obtain⟨_,_,_,_,rfl,_⟩:=h;constructor;done)
  |(exact absurd rfl hk)
  |(rcases h with⟨_,rfl⟩|⟨_,_,_,_,rfl,_⟩<;>constructor)
theorem atc{op t x y a b va vb}(ha:VR φ a va)(hb:VR φ b vb)(hk:oQ a=oQ b)(h9:oQ a≠9)(hg:Cy P t x y a b=true)(w):
 (eqGuard op t x y va vb).run P w=.ok () w:=by
 have fa:=Rf ha h9;have fb:=Rf hb (hk▸h9);have h9b:=hk▸h9;rw[<-hk]at fb;generalize oQ a=n at fa fb;cases fa<;>cases fb;case nilIface.nilIface=>
  have ea:a=.lJ:=by cases a<;>simp[VR]at ha<;>first|rfl|exact absurd rfl h9
  have eb:b=.lJ:=by cases b<;>simp[VR]at hb<;>first|rfl|exact absurd rfl h9b
  subst ea eb;cases op<;>cases x<;>cases y<;>simp[Cy,tX]at hg<;>simp[eqGuard]
 case agg.agg=>
  have ea:∃l,a=.ai l:=by cases a<;>simp[VR]at ha<;>first|exact⟨_,rfl⟩|exact absurd rfl h9
  have eb:∃l,b=.ai l:=by cases b<;>simp[VR]at hb<;>first|exact⟨_,rfl⟩|exact absurd rfl h9b
  obtain⟨l,rfl⟩:=ea;obtain⟨m,rfl⟩:=eb;exact run_eqGuard_agg w op t x y _ _ (by simpa[Cy]using hg)
 all_goals cases op<;>simp[eqGuard]
theorem aqJ{op t a b v va vb}(ha:VR φ a va)(hb:VR φ b vb)(hk:oQ a=oQ b)(h9:oQ a≠9){r}(w)(hr:(Op.equal t va vb).run P w=.ok r w)(hv:(op=.eql/\v=.au r)\/(op=.neq/\v=.au (!r))):
 (Go.binOp op t va vb).run P w=.ok (match op with|.eql=>.bool r|_=>.bool (!r)) w/\VR φ v (match op with|.eql=>.bool r|_=>.bool (!r)):=by
 have fa:=Rf ha h9;have fb:=Rf hb (hk▸h9);rw[<-hk]at fb;generalize oQ a=n at fa fb;rcases hv with⟨rfl,rfl⟩|⟨rfl,rfl⟩
 .refine⟨?_,by simp[VR]⟩;cases fa<;>cases fb<;>simp only[Go.binOp]<;>simp[hr]
 .refine⟨?_,by simp[VR]⟩;cases fa<;>cases fb<;>simp only[Go.binOp]<;>simp[hr]
theorem aqI{op t x y a b v va vb}(ha:VR φ a va)(hb:VR φ b vb)(h:HD P op t x y a b=some v)(w):
 ∃v',(do eqGuard op t x y va vb;Go.binOp op t va vb:Sem Value).run P w=.ok v' w/\VR φ v v':=by
 unfold HD at h;split at h;next k m k' n=>
  subst ha hb;cases hp:Bm P (Go.binOp op t (.int k m) (.int k' n))with
  |none=>simp[hp]at h
  |some v'=>
   simp only[hp,ri]at h;refine⟨v',?_,alG h⟩;have hg:(eqGuard op t x y (.int k m) (.int k' n)).run P w=.ok () w:=by cases op<;>simp[eqGuard]
   simp[hg,ab5 hp w]
 next l m=>
  obtain⟨s,rfl,rfl⟩:=ha;obtain⟨s',rfl,rfl⟩:=hb;have⟨v',h1,h2⟩:=ars (P:=P) (φ:=φ) h w;refine⟨v',?_,h2⟩;have hg:(eqGuard op t x y (.string s) (.string s')).run P w=.ok () w:=by cases op<;>simp[eqGuard]
  simp only[Sem.run_bind,hg,Result.andThen_ok];have:Go.binOp op t (.string s) (.string s')=Op.stringOp op s s':=by cases op<;>rfl
  rw[this,h1]
 .cases hc:Nat.beq (oQ a) (oQ b)&& !Nat.beq (oQ a) 9&&Cy P t x y a b
  .rw[hc]at h;cases h
  .rw[hc]at h;simp at h;simp only[dc,zL]at hc;have⟨⟨h1,h2⟩,h3⟩:=hc;have hk:=dw h1;have h9:oQ a≠9:=by intro e;rw[e]at h2;simp at h2
   have⟨r,hr,hv⟩:=ate ha hb h w;have:=aqJ ha hb hk h9 w hr hv;exact⟨_,by simp only[Sem.run_bind,atc ha hb hk h9 h3 w,Result.andThen_ok];exact this.1,this.2⟩
end
section
variable{P:Program}{φ:cn}{base:fN}{H:AH}{w:World}
theorem ud{α β:Type}{r}{f:α->β}{v}(h:r.map f=some v):∃a,r=some a/\f a=v:=by
 cases r with
 |none=>cases h
 |some a=>cases h;exact⟨a,rfl,rfl⟩
theorem abr{a n v}(h:oz a=some n)(ha:VR φ a v):∃k,v=.int k (n:Int):=by
 unfold oz at h;split at h
 .cases h;simp at ha;exact⟨_,ha⟩
 .cases h
theorem Ff(n):VR φ (vW n) (goInt n):=by simp[vW,goInt,VR]
def uD(φ:cn)(a:Option AV)(v:Option Value):Prop:=(a=none/\v=none)\/(∃x y,a=some x/\v=some y/\VR φ x y)
theorem acS{v k n y c}(hv:v=.int k (n:Int))(h:n<=y)(w):(Instr.sliceBound v y c).run P w=.ok n w:=by subst hv;simp[Instr.sliceBound,asIntOf,h]
theorem abQ{a v}{n d y:Nat}{c:BoundsCode}(h:(match a with|some x=>oz x|none=>some d)=some n)(hr:uD φ a v)(cA:n<=y)(w:World):
 (match v with|some x=>Instr.sliceBound x y c|none=>pure d:Sem Nat).run P w=.ok n w:=by
 rcases hr with⟨rfl,rfl⟩|⟨x,y,rfl,rfl,Ba⟩
 .simp at h;subst h;simp
 .obtain⟨k,rfl⟩:=abr h Ba;exact acS rfl cA w
theorem T7{F1 lo hi rR eD l h len cap}(e1:(match hi with|some v=>oz v|none=>some len)=some h)(e2:(match lo with|some v=>oz v|none=>some 0)=some l)(hl:uD φ lo rR)(hh:uD φ hi eD)(h1:h<=cap)(h2:l<=h)(w):
 (Instr.sliceBounds F1 len cap rR eD none).run P w=.ok (l,h,cap) w:=by
 have ou:=λw=>abQ (P:=P) (c:=.sliceB) e2 hl h2 w
 have qf:=λw=>abQ (P:=P) (c:=if F1 then .sliceAcap else .sliceAlen) e1 hh h1 w
 simp only[Instr.sliceBounds];cases eD<;>cases rR<;>simp at ou qf⊢<;>simp[ou,qf]
theorem acT{F1 m' lo ma rR h' ha l h m len cap}(e0:oz ma=some m)(hm:VR φ ma m')(e1:oz ha=some h)(hh:VR φ ha h')(e2:(match lo with|some v=>oz v|none=>some 0)=some l)(hl:uD φ lo rR)(h0:m<=cap)(h1:h<=m)(h2:l<=h)(w):
 (Instr.sliceBounds F1 len cap rR (some h') (some m')).run P w=.ok (l,h,m) w:=by
 have ou:=λw=>abQ (P:=P) (c:=.slice3C) e2 hl h2 w
 obtain⟨k,rfl⟩:=abr e0 hm;obtain⟨k',rfl⟩:=abr e1 hh;have b0:=λw=>acS (P:=P) (v:=.int k (m:Int)) (c:=if F1 then .slice3Acap else .slice3Alen) rfl h0 w
 have b1:=λw=>acS (P:=P) (v:=.int k' (h:Int)) (c:=.slice3B) rfl h1 w
 simp only[Instr.sliceBounds];cases rR<;>simp at ou⊢<;>simp[ou,b0,b1]
theorem aCv{b lo hi rR eD v}(h:T8 (dL b) lo hi=some v)(hl:uD φ lo rR)(hh:uD φ hi eD)(w):
 ∃l h',(Instr.sliceBounds false b.size b.size rR eD none).run P w=.ok (l,h',b.size) w/\VR φ v (.string (b.extract l h')):=by
 unfold T8 at h;split at h;next h' l e1 e2=>have⟨hb,h⟩:=dj h;cases h;simp at hb;rw[zY]at hb e1;refine⟨l,h',T7 e1 e2 hl hh hb.1 hb.2 w,⟨_,rfl,?_⟩⟩;simp only[dL,ByteArray.data_extract,Array.toList_extract,List.map_take,List.map_drop];rw[zO]
 .cases h
theorem NI{ρ ev x r}(hr:n_ φ ρ ev x.toList)(h:rX ρ x=some r):uD φ r (x.map ev):=axL hr h
theorem yL(b o n):(⟨b,o,none⟩:Addr).add n=⟨b,o+n,none⟩:=by unfold Addr.add;split<;>simp_all
theorem acU{id off len cap sz x ex lo hi mx rR eD Nu v e c}(h:Gu id off len cap sz ex lo hi mx=some v)(he:φ id=some e)(hx:c=0\/x=e.o+off)(bS:len<=c)(xH:ex=true->c=cap)(jQ:e.o+off+c*sz<=e.n)(hl:uD φ lo rR)(hh:uD φ hi eD)(hm:uD φ mx Nu)(w F1):
 ∃l h' m,(Instr.sliceBounds F1 len c rR eD Nu).run P w=.ok (l,h',m) w/\
  VR φ v (.slice (if m=l then some ⟨e.b,x,none⟩else some ((⟨e.b,x,none⟩:Addr).add (l*sz))) (h'-l) (m-l)):=by
 have key:∀{l h m:Nat} {Y0:Bool} {vN:Nat},l<=h->h<=m->m<=c->(Y0=true->m-l=vN)->
  VR φ (.bw id (off+l*sz) (h-l) vN sz Y0) (.slice (if m=l then some ⟨e.b,x,none⟩else some ((⟨e.b,x,none⟩:Addr).add (l*sz))) (h-l) (m-l)):=by
  intro l h m Y0 vN h1 h2 h3 h4;have hr:e.o+(off+l*sz)+(m-l)*sz<=e.n:=by
   have e1:l*sz+(m-l)*sz=m*sz:=by rw[<-yi];congr 1;omega
   have e2:=TD sz h3;omega
  by_cases xL:m=l
  .exact⟨e,x,m-l,he,by rw[aL xL],.inl (by omega),by omega,h4,hr⟩
  .refine⟨e,x+l*sz,m-l,he,by rw[az xL,yL],.inr ?_,by omega,h4,hr⟩;rcases hx with hx|hx<;>omega
 unfold Gu at h;split at h
 .rcases hm with⟨_,rfl⟩|⟨_,_,e1,_⟩
  case inr=>cases e1
  split at h;next h' l e1 e2=>
   have⟨hb,h⟩:=dj h;cases h;simp at hb;have hc:h'<=c:=by
    have:=hb.1;cases ex
    .simp at this;omega
    .rw[xH rfl];exact this
   refine⟨l,h',c,T7 e1 e2 hl hh hc hb.2 w,key hb.2 hc (cE _) (λe=>by subst e;rw[xH rfl];rfl)⟩
  .cases h
 next m=>
  rcases hm with⟨e1,_⟩|⟨ma,mv,e1,rfl,CQ⟩
  case inl=>cases e1
  cases e1;split at h;next m' h' l e0 e1 e2=>
   have⟨hb,h⟩:=dj h;cases h;simp at hb;have hc:m'<=c:=by
    have:=hb.1.1;cases ex
    .simp at this;omega
    .rw[xH rfl];exact this
   rcases hh with⟨rfl,rfl⟩|⟨ha,hv,rfl,rfl,hav⟩
   .cases e1
   .exact⟨l,h',m',acT e0 CQ e1 hav e2 hl hc hb.1.2 hb.2 w,key hb.2 hb.1.2 hc (λ_=>rfl)⟩
  .cases h
theorem aCw{len sz c cs a lo hi mx rR eD Nu v}(h:T9 cs len sz lo hi mx=some v)(hx:VR φ (.ah cs len sz) (.slice a len c))(hl:uD φ lo rR)(hh:uD φ hi eD)(hm:uD φ mx Nu)(w):
 ∃l h' m,(Instr.sliceBounds true len c rR eD Nu).run P w=.ok (l,h',m) w/\VR φ v (.slice (if m=l then a else a.map (·.add (l*sz))) (h'-l) (m-l)):=by
 unfold T9 at h;split at h
 .rcases hm with⟨_,rfl⟩|⟨_,_,e1,_⟩
  case inr=>cases e1
  split at h;next h' l e1 e2=>
   have⟨hb,h⟩:=dj h;cases h;simp at hb;have⟨a',c',e,bS,hd⟩:=hx;cases e;have hc:h'<=c:=by rcases hd with hd|⟨_,_,_,_,_,_,hd,_⟩<;>omega
   refine⟨l,h',c,T7 e1 e2 hl hh hc hb.2 w,?_⟩;have m1:(h'-l)*sz+l*sz=h'*sz:=by rw[<-yi];congr 1;omega
   have m2:=TD sz hb.1;have I1:((cs.drop (l*sz)).take ((h'-l)*sz)).length=(h'-l)*sz:=by simp;omega
   refine⟨_,_,rfl,I1,?_⟩;by_cases h0:h'-l=0
   .exact .inl h0
   .right;rcases hd with hd|⟨b,x,eK,el,fz,rfl,ot,gw,cx,hv⟩
    .omega
    .refine⟨b,x+l*sz,eK,el,fz,?_,by omega,gw,by rw[I1];omega,?_⟩
     .rw[az (by omega)];simp[yL]
     .rw[I1];have h2:=(hv.yD (l*sz)).yE ((h'-l)*sz);have e3:(((eK.toList.drop x).take cs.length).drop (l*sz)).take ((h'-l)*sz)=(eK.toList.drop (x+l*sz)).take ((h'-l)*sz):=by rw[zO,wM,Bq];congr 1;omega
      rw[e3]at h2;exact h2
  .cases h
 .cases h
theorem dP.Km:∀{es ms},dP φ es ms->es.length=ms.length
 |[],_,h=>by simp only[dP]at h;subst h;rfl
 |(k,v,b)::es,_,h=>by obtain⟨m,ms,rfl,_,_,_,h⟩:=h;simp[dP.Km h]
theorem awC(hw:WR φ base H w){x v n d t ts T vs}(hx:VR φ x v)(h:F4 H x=some n)(hu:P.underlying t=some d)(kg:xY d x=true)(h0:ts[0]? =some t)(h1:vs[0]? =some v):
 (Builtin.len_ ts T vs).run P w=.ok (goInt n) w:=by
 cases x<;>simp only[F4]at h;case ad s=>cases h;obtain⟨b,rfl,rfl⟩:=hx;cases d<;>simp[xY]at kg;simp[Builtin.len_,h0,h1,run_underlying hu w,zY]
 case bw=>cases h;obtain⟨e,y,c,_,rfl,_⟩:=hx;cases d<;>simp[xY]at kg;simp[Builtin.len_,h0,h1,run_underlying hu w]
 case ah=>cases h;obtain⟨a,c,rfl,_⟩:=hx;cases d<;>simp[xY]at kg;simp[Builtin.len_,h0,h1,run_underlying hu w]
 case aj=>cases h;cases d<;>simp[xY]at kg;rcases hx with⟨rfl,rfl⟩|⟨e,x,c,_,rfl,_⟩<;>simp[Builtin.len_,h0,h1,run_underlying hu w]
 case fE=>cases h;cases d<;>simp[xY]at kg;rcases hx with⟨rfl,rfl⟩|⟨e,x,c,_,rfl,_⟩<;>simp[Builtin.len_,h0,h1,run_underlying hu w]
 case rC=>cases h;obtain⟨a,rfl⟩:=hx;cases d<;>simp[xY]at kg;simp[Builtin.len_,h0,h1,run_underlying hu w]
 case aM=>cases h;simp only[VR]at hx;subst hx;cases d<;>simp[xY]at kg;simp[Builtin.len_,h0,h1,run_underlying hu w]
 case mW=>cases h;simp only[VR]at hx;subst hx;cases d<;>simp[xY]at kg;simp[Builtin.len_,h0,h1,run_underlying hu w]
 case aB id=>
  split at h;next es clock p ho=>cases h;obtain⟨e,he,rfl⟩:=hx;obtain⟨o,h3,bJ,rfl,h2,_⟩:=hw.eI _ _ e ho he;cases d<;>simp[xY]at kg;have:=h2.Km;simp[Builtin.len_,h0,h1,run_underlying hu w,getObj,Sem.run,h3,this]
  .cases h
 all_goals cases h
end
section
variable{P:Program}{φ:cn}{base:fN}{H:AH}{w:World}{ρ:Operand->Option AV}{ev:Operand->Value}
def Pf(φ:cn)(es:List (AV×AV×Nat))(ms:List MapEntry)(i:Nat):Option (Nat×AV×Nat)->Option (Nat×Value)->Prop
 |none,r'=>r'=none
 |some (j,v,b),r'=>∃m k,r'=some (j,m.val)/\i<=j/\es[j-i]? =some (k,v,b)/\ms[j-i]? =some m/\VR φ v m.val/\m.born=b
theorem dP.ahT{eq k T vk}(Z':∀y vy r,eq k y=some r->VR φ y vy->∀w,(Op.equal T vk vy).run P w=.ok r w):
 ∀{es ms i r},dP φ es ms->oJ eq k es i=some r->∀w,
  ∃r',(Instr.findAsking T vk ms i).run P w=.ok r' w/\Pf φ es ms i r r'
 |[],ms,i,r,he,h,w=>by simp only[dP]at he;subst he;simp only[oJ]at h;cases h;exact⟨none,by simp[Instr.findAsking],rfl⟩
 |(x,v,b)::es,ms,i,r,he,h,w=>by
  obtain⟨m,ms,rfl,hk,hv,hb,he⟩:=he;simp only[oJ]at h;split at h;next hq=>cases h;refine⟨some (i,m.val),?_,m,x,rfl,cE _,by simp,by simp,hv,hb⟩;simp[Instr.findAsking,Z' x m.key true hq hk w]
  next hq=>
   have⟨r',h1,h2⟩:=dP.ahT Z' he h w;refine⟨r',?_,?_⟩
   .simp[Instr.findAsking,Z' x m.key false hq hk w,h1]
   .cases r with
    |none=>exact h2
    |some r=>
     have⟨j,v',b'⟩:=r;have⟨m',k',e1,e2,e3,e4,e6,e5⟩:=h2;have:j-i=(j-(i+1))+1:=by omega
     exact⟨m',k',e1,by omega,by rw[this,TC];exact e3,by rw[this,TC];exact e4,e6,e5⟩
  .cases h
theorem am4{d k y b T}(hd:P.underlying T=some d)(h:Instr.sameNow d k y=some b)(w):(Op.equal T k y).run P w=.ok b w:=by
 unfold Instr.sameNow at h;split at h
 .split at h;next e=>subst e;cases h;exact run_equalIn_int w 9999 T _ _ _ _ hd
  .cases h
 .cases h;rename_i a b;have:=run_equalIn_string w 9999 T a b hd;rw[<-beq_toListBytes]at this;exact this
 .cases h;exact run_equalIn_bool w 9999 T _ _ hd
 .cases h
theorem ahV{d k T}(hd:P.underlying T=some d)(w):∀{ms i r},Instr.findNow d k ms i=some r->(Instr.findAsking T k ms i).run P w=.ok r w
 |[],i,r,h=>by simp[Instr.findNow]at h;subst h;simp[Instr.findAsking]
 |m::ms,i,r,h=>by
  simp only[Instr.findNow]at h;split at h;next hs=>cases h;simp[Instr.findAsking,am4 hd hs w]
  next hs=>simp[Instr.findAsking,am4 hd hs w,ahV hd w h]
  .cases h
theorem ato{d k T}(hd:P.underlying T=some d){ms r w}(h:(Instr.findAsking T k ms).run P w=.ok r w):(Instr.findKey T k ms).run P w=.ok r w:=by
 simp only[Instr.findKey,Sem.run_bind,run_underlying hd w,Result.andThen_ok];cases hn:Instr.findNow d k ms 0 with
 |none=>simp[h]
 |some r'=>have:=ahV hd w hn;rw[this]at h;cases h;simp
theorem Cp{kt k vk d}(hd:P.underlying kt=some d)(hk:VR φ k vk){es ms}(he:dP φ es ms){r}(h:oJ (iB P 100 kt) k es 0=some r)(w):∃r',(Instr.findKey kt vk ms).run P w=.ok r' w/\Pf φ es ms 0 r r':=by have⟨r',h1,h2⟩:=dP.ahT (λy vy r hq hy w=>YZ 100 kt k y r vk vy hq hk hy Op.maxDepth (by simp[Op.maxDepth]) w) he h w;exact⟨r',ato hd h1,h2⟩
theorem alY{d t a v}(hu:P.underlying t=some d)(h:NO d a=true)(ha:VR φ a v)(em n w):
 (Instr.checkKey em (n+1) t v).run P w=.ok () w:=by
 cases d<;>cases a<;>simp[NO]at h;all_goals
 all_goals first
  |(subst ha;simp[Instr.checkKey,run_underlying hu w];done)
  |(obtain⟨rfl,_⟩:=ha;simp[Instr.checkKey,run_underlying hu w];done)
  |(obtain⟨⟨_,rfl,_⟩,_⟩:=ha;simp[Instr.checkKey,run_underlying hu w];done)
  |(obtain⟨_,rfl,_⟩:=ha;simp[Instr.checkKey,run_underlying hu w])
theorem ax1{cs cs' f}(gQ:br φ cs cs'.toList)(h:ab2 P cs f=true)(em n w):
 ∃x,(part f.type cs' f.offset).run P w=.ok x w/\(Instr.checkKey em (n+1) f.type x).run P w=.ok () w:=by
 unfold ab2 at h;split at h;next d a e1 e2=>
  have⟨x,e3,e4⟩:=gQ.get e2;have e5:cs'[f.offset]? =some x:=by simpa using e3
  refine⟨x,?_,alY e1 h e4 em n w⟩;cases d<;>cases a<;>simp[NO]at h<;>simp[part,isAgg,run_underlying e1 w,e5]
 .cases h
theorem Ql{t k v}(h:sT P t k=true)(hk:VR φ k v)(em n w):(Instr.checkKey em (n+2) t v).run P w=.ok () w:=by
 unfold sT at h;split at h;next gp cs hu=>
  obtain⟨cs',rfl,gQ⟩:=hk;rw[Instr.checkKey];simp only[Sem.run_bind,run_underlying hu w,Result.andThen_ok];rw[<-Array.forIn_toList];generalize gp.toList=fs at h;induction fs with
  |nil=>simp
  |cons f fs ih=>
   simp only[List.all_cons,dc]at h;have⟨h1,h2⟩:=h;have⟨x,e6,e7⟩:=ax1 gQ h1 em n w;simp only[List.forIn_cons,Sem.run_bind,Sem.run_ite];split
   .simp only[e6,Result.andThen_ok,e7,Sem.run_pure];exact ih h2
   .simp only[Sem.run_pure,Result.andThen_ok];exact ih h2
 next hu _=>exact alY hu h hk em (n+1) w
 .cases h
theorem Pf.at{es ms j v b r'}(h:Pf φ es ms 0 (some (j,v,b)) r'):
 ∃m k,r'=some (j,m.val)/\es[j]? =some (k,v,b)/\ms[j]? =some m/\VR φ v m.val/\m.born=b:=by
 have⟨m,k,e1,_,e3,e4,e5,e6⟩:=h;exact⟨m,k,e1,by simpa using e3,by simpa using e4,e5,e6⟩
end
section
variable{P:Program}{φ:cn}{base:fN}{H:AH}{w:World}{ρ:Operand->Option AV}{ev:Operand->Value}
theorem Zb{mx}:∀{l a r va vs},VR φ a va->br φ l vs->Iq mx a l=some r->
 ∃v,(vs.foldlM (if mx then Builtin.max2 else Builtin.min2) va:Sem Value).run P w=.ok v w/\VR φ r v
 |[],a,r,va,vs,ha,hl,h=>by simp only[br]at hl;subst hl;simp[Iq]at h;subst h;exact⟨va,by simp,ha⟩
 |b::l,a,r,va,vs,ha,hl,h=>by
  obtain⟨vb,vs,rfl,hb,hl⟩:=hl;cases a<;>cases b<;>simp only[Iq]at h<;>try (cases h;done)
  rename_i k x k' y;subst ha hb;have⟨v,h1,h2⟩:=Zb (va:=Value.int k (bif mx then(if y>x then y else x)else(if y<x then y else x))) (by simp only[VR]) hl h;refine⟨v,?_,h2⟩;rw[List.foldlM_cons,Sem.run_bind];cases mx
  .have e:(Builtin.min2 (.int k x) (.int k' y)).run P w=.ok (.int k (if y<x then y else x)) w:=rfl;simp at h1⊢;rw[e];exact h1
  .have e:(Builtin.max2 (.int k x) (.int k' y)).run P w=.ok (.int k (if y>x then y else x)) w:=rfl;simp at h1⊢;rw[e];exact h1
theorem aFq{a v v'}(h:UY a=some v)(ha:VR φ a v'):v'=v:=by unfold UY at h;split at h<;>first|(cases h;simpa[VR]using ha)|cases h
theorem YH{id off n i elem v}(h:Ca P id off n elem i=some v):∃s,(∀w,(sizeOf elem).run P w=.ok s w)/\i<n/\v=.aa id (off+i*s):=by
 unfold Ca at h;split at h;next s hs=>have⟨hb,h⟩:=dj h;cases h;exact⟨s,jI hs,by have:=pE hb;omega,rfl⟩
 .cases h
theorem asw{cs len sz i elem v}(h:Qz P cs len sz elem i=some v):(∀w,(sizeOf elem).run P w=.ok sz w)/\i<len/\v=.pK ((cs.drop (i*sz)).take sz):=by
 unfold Qz at h;split at h;next s hs=>have⟨hb,h⟩:=dj h;cases h;simp only[dc,vl]at hb;have:=dw hb.1;subst this;exact⟨jI hs,by omega,rfl⟩
 .cases h
theorem aqw{qJ xT ok x v vx d}(hu:P.underlying qJ=some d)(hd:∀ms,d≠.interface ms)(h:XJ P qJ ok x=some v)(hx:VR φ x vx)(w):
 ∃v',(Instr.typeAssert vx xT qJ ok).run P w=.ok v' w/\VR φ v v':=by
 unfold XJ at h;have hz:∀{z:AV},kb P qJ=some z->∃vz,VR φ z vz/\∀w,(zeroValue qJ).run P w=.ok vz w:=λhz=>Ag hz
 split at h;next t a=>
  obtain⟨va,rfl,hva⟩:=hx;cases hb:Nat.beq t qJ
  .rw[hb]at h;simp only[cond_false]at h;have cK:t≠qJ:=by intro e;subst e;simp at hb
   have⟨aZ,h⟩:=dj h;subst aZ;obtain⟨z,Bb,rfl⟩:=ud h;have⟨vz,h1,h2⟩:=hz Bb;refine⟨.tuple #[vz,.bool false],?_,⟨_,rfl,qH.2 ⟨h1,pa (by simp[VR])⟩⟩⟩;cases d<;>first
    |(exact absurd rfl (hd _))
    |simp[Instr.typeAssert,run_underlying hu w,cK,h2]
  .rw[hb]at h;simp at h;cases h;have he:=dw hb;cases ok
   .refine⟨va,?_,hva⟩;cases d<;>first
     |(exact absurd rfl (hd _))
     |simp[Instr.typeAssert,run_underlying hu w,he]
   .refine⟨.tuple #[va,.bool true],?_,⟨_,rfl,qH.2 ⟨hva,pa (by simp[VR])⟩⟩⟩;cases d<;>first
     |(exact absurd rfl (hd _))
     |simp[Instr.typeAssert,run_underlying hu w,he]
 .simp only[VR]at hx;subst hx;have⟨aZ,h⟩:=dj h;subst aZ;obtain⟨z,Bb,rfl⟩:=ud h;have⟨vz,h1,h2⟩:=hz Bb;refine⟨.tuple #[vz,.bool false],?_,⟨_,rfl,qH.2 ⟨h1,pa (by simp[VR])⟩⟩⟩;cases d<;>first
   |(exact absurd rfl (hd _))
   |simp[Instr.typeAssert,run_underlying hu w,h2]
 .cases h
theorem qT{r o}(h:w.heap[r]? =some o)(hc:o.isCells=false):(getObj r).run P w=.ok o w:=by cases o<;>simp[Obj.isCells]at hc<;>simp[getObj,Sem.run,h]
theorem anf{r o o'}(h:w.heap[r]? =some o)(hc:o.isCells=false):(setObj r o').run P w=.ok () {w with heap:=w.heap.setIfInBounds r o'}:=by cases o<;>simp[Obj.isCells]at hc<;>simp[setObj,Sem.run,h]
theorem as7(hw:WR φ base H w){m vm es}(h:Cg H m=some es)(hm:VR φ m vm):
 ∃bJ:Array MapEntry,dP φ es bJ.toList/\((vm=.map none/\bJ= #[])\/∃r clock,vm=.map (some r)/\w.heap[r]? =some (.map bJ clock)):=by
 unfold Cg at h;split at h
 .cases h;simp only[VR]at hm;subst hm;exact⟨#[],by simp[dP],.inl ⟨rfl,rfl⟩⟩
 .split at h;next clock p ho=>cases h;obtain⟨e,he,rfl⟩:=hm;obtain⟨o,h1,bJ,rfl,h2,_⟩:=hw.eI _ _ e ho he;exact⟨bJ,h2,.inr ⟨_,_,rfl,h1⟩⟩
  .cases h
 .cases h
theorem akH{t kt elem vm vk bJ ok r}(hu:P.underlying t=some (.map kt elem))(hm:(vm=.map none/\bJ= #[])\/∃r clock,vm=.map (some r)/\w.heap[r]? =some (.map bJ clock))(tM:(Instr.checkKey bJ.isEmpty 10000 kt vk).run P w=.ok () w)(hf:(Instr.findKey kt vk bJ.toList).run P w=.ok r w){v b}(hr:(∃i,r=some (i,v)/\b=true)\/(r=none/\(zeroValue elem).run P w=.ok v w/\b=false)):
 (Instr.lookup t vm vk ok).run P w=.ok (if ok then .tuple #[v,.bool b]else v) w:=by
 unfold Instr.lookup;rcases hm with⟨rfl,rfl⟩|⟨r0,clock,rfl,hg⟩
 .simp only[Sem.run_bind,run_underlying hu w,Result.andThen_ok,Sem.run_pure,tM,hf];rcases hr with⟨i,rfl,rfl⟩|⟨rfl,hz,rfl⟩
  .simp
  .simp[hz]
 .simp only[Sem.run_bind,run_underlying hu w,Result.andThen_ok,Sem.run_pure,qT hg rfl,tM,hf];rcases hr with⟨i,rfl,rfl⟩|⟨rfl,hz,rfl⟩
  .simp
  .simp[hz]
theorem alK{ok b a v}(h:VR φ a v):VR φ (mX ok a b) (if ok then .tuple #[v,.bool b]else v):=by
 cases ok
 .simpa[mX]using h
 .exact⟨_,rfl,qH.2 ⟨h,pa (by simp[VR])⟩⟩
theorem awS{kt elem t key v vm vk ok es bJ}(hu:P.underlying t=some (.map kt elem))(hp:sT P kt key=true)(he:dP φ es bJ.toList)(dW:(vm=.map none/\bJ= #[])\/∃r clock,vm=.map (some r)/\w.heap[r]? =some (.map bJ clock))(h:(match oJ (iB P 100 kt) key es 0 with
 |some (some (_,v,_))=>some (mX ok v true)
 |some none=>(kb P elem).map (mX ok · false)
 |none=>none)=some v) (hk:VR φ key vk):∃v',(Instr.lookup t vm vk ok).run P w=.ok v' w/\VR φ v v':=by
 have uV:∃d,P.underlying kt=some d:=by
  cases hkt:P.underlying kt with
  |none=>simp[sT,hkt]at hp
  |some d=>exact⟨d,rfl⟩
 have⟨d,hd⟩:=uV;have tM:=Ql hp hk bJ.isEmpty 9998 w;split at h;next i x b hf=>cases h;have⟨r',h1,h2⟩:=Cp hd hk he hf w;obtain⟨me,k,rfl,e3,e4,e5,e6⟩:=h2.at;exact⟨_,akH hu dW tM h1 (.inl ⟨i,rfl,rfl⟩),alK e5⟩
 next hf=>obtain⟨z,hz,rfl⟩:=ud h;have⟨vz,MZ,hz2⟩:=Ag (φ:=φ) hz;have⟨r',h1,h2⟩:=Cp hd hk he hf w;subst h2;exact⟨_,akH hu dW tM h1 (.inr ⟨rfl,hz2 w,rfl⟩),alK MZ⟩
 .cases h
theorem awQ(hw:WR φ base H w){kt elem t m key v vm vk ok}(hu:P.underlying t=some (.map kt elem))(h:Nd P H kt elem m key ok=some v)(hm:VR φ m vm)(hk:VR φ key vk):
 ∃v',(Instr.lookup t vm vk ok).run P w=.ok v' w/\VR φ v v':=by
 have⟨hp,h⟩:=dj h;split at h;next es jm=>have⟨bJ,he,dW⟩:=as7 hw jm hm;exact awS hu hp he dW h hk
 .cases h
theorem alu{s v v'}(h:VR φ v v'):VR φ (Gc s v) v':=by
 unfold Gc;split
 .simp only[VR]at h⊢;exact .inl ⟨trivial,h⟩
 .exact h
theorem abB{elem ok v v'}(h:VR φ v v'):VR φ (lv P H elem ok v) v':=by
 unfold lv;split
 .exact h
 .split
  .split
   .cases ok
    .exact alu h
    .simp;split
     .obtain⟨cs',rfl,hc⟩:=h;have⟨x,l,e,h1,h2⟩:=hc;exact⟨cs',rfl,x,l,e,alu h1,h2⟩
     .exact h
   .exact h
  .exact h
end
section
variable{P:Program}{φ:cn}{base:fN}{H:AH}{w:World}{ρ:Operand->Option AV}{ev:Operand->Value}
theorem mc{s v}(h:s.run P w=.ok v w):(do pure (.value (<-s)):Sem Next).run P w=.ok (.value v) w:=by simp[h]
theorem aqY{t gp z v vz ps oB}(hu:P.underlying t=some (.struct gp))(hz:VR φ z vz)(kz:(zeroValue t).run P w=.ok vz w)(hp:PI φ ps oB.toList)(h:XZ P z gp ps=some v):∃v',(Instr.build t oB).run P w=.ok v' w/\VR φ v v':=by
 unfold XZ at h;split at h;next pl mi=>
  obtain⟨cs,hf,rfl⟩:=ud h;have⟨r',h1,h2⟩:=Ra hp (AV.tv hz) hf;refine⟨.agg r',?_,⟨_,rfl,h2⟩⟩;have h3:=ax0 mi w;have h4:(λ(x:Nat)=>(pl.toArray)[x]?)=(λx=>pl[x]?):=by funext x;simp
  simp only[Instr.build,Sem.run_bind,kz,Result.andThen_ok,run_underlying hu w,h3,h4,h1,Sem.run_pure]
 .cases h
theorem aqX{t elem n z v vz ps oB}(hu:P.underlying t=some (.array n elem))(hz:VR φ z vz)(kz:(zeroValue t).run P w=.ok vz w)(hp:PI φ ps oB.toList)(h:XY P z elem ps=some v):∃v',(Instr.build t oB).run P w=.ok v' w/\VR φ v v':=by
 unfold XY at h;split at h;next s hs=>obtain⟨cs,hf,rfl⟩:=ud h;have⟨r',h1,h2⟩:=Ra hp (AV.tv hz) hf;refine⟨.agg r',?_,⟨_,rfl,h2⟩⟩;simp only[Instr.build,Sem.run_bind,kz,Result.andThen_ok,run_underlying hu w,jI hs w,h1,Sem.run_pure]
 .cases h
theorem awf{t oB v}(hr:n_ φ ρ ev (oB.toList.map (·.2)))(h:aaV P ρ t oB=some v):
 ∃v',(Instr.build t (oB.map λ(i,x)=>(i,ev x))).run P w=.ok v' w/\VR φ v v':=by
 unfold aaV at h;split at h;next z gp ps e1 e2 e3=>have⟨vz,h1,h2⟩:=Ag (φ:=φ) e1;exact aqY e2 h1 (h2 w) (by have:=P0 hr e3;simpa using this) h
 next z n elem ps e1 e2 e3=>have⟨vz,h1,h2⟩:=Ag (φ:=φ) e1;exact aqX e2 h1 (h2 w) (by have:=P0 hr e3;simpa using this) h
 .cases h
theorem Kj{a}(h:Ej a=true):(match a with|some v=>oz v|none=>some 0)=some 0:=by
 cases a with
 |none=>rfl
 |some v=>
  simp only[Ej]at h;cases hn:oz v with
  |none=>simp[hn]at h
  |some n=>simp only[hn,zM]at h;have:=dw h;simp[hn,<-this]
theorem awh(hw:WR φ base H w){t x lo hi mx v}(hr:n_ φ ρ ev ((#[x]++lo.toArray++hi.toArray++mx.toArray).toList))(h:Dk P ρ H t x lo hi mx=some v):
 ∃v',(Instr.sliceAt t (ev x) (lo.map ev) (hi.map ev) (mx.map ev)).run P w=.ok v' w/\VR φ v v':=by
 unfold Dk at h;split at h;next l hh m e1 e2 e3=>
  have r1:=NI (hr.pQ (l':=lo.toList) (λy hy=>by cases lo<;>simp at hy;subst hy;simp)) e1;have r2:=NI (hr.pQ (l':=hi.toList) (λy hy=>by cases hi<;>simp at hy;subst hy;simp)) e2;have r3:=NI (hr.pQ (l':=mx.toList) (λy hy=>by cases mx<;>simp at hy;subst hy;simp)) e3;have rx:=hr x (by simp);split at h;next s hu hx=>
   obtain⟨b,hb,rfl⟩:=rx _ hx;obtain⟨hm,h⟩:=dj h;have uW:m=none:=by cases m<;>simp at hm⊢
   subst uW;have xM:mx.map ev=none:=by rcases r3 with⟨_,h⟩|⟨_,_,e,_⟩;exact h;cases e
   obtain⟨l',h',h1,h2⟩:=aCv (P:=P) h r1 r2 w;refine⟨_,?_,h2⟩;simp[Instr.sliceAt,Instr.slice,run_underlying hu w,hb,xM,h1]
  next elem id off len cap sz ex hu hx=>
   obtain⟨hs,h⟩:=dj h;obtain⟨e,y,c,he,hv,hy,bS,xH,jQ⟩:=rx _ hx;obtain⟨l',h',m',h1,h2⟩:=acU (P:=P) h he hy bS xH jQ r1 r2 r3 w true;have cx:cW P elem=some sz:=by
    cases hq:cW P elem with
    |none=>simp[hq]at hs
    |some s=>simp[hq]at hs;rw[hs]
   refine⟨_,?_,h2⟩;by_cases xL:m'=l'
   .simp[Instr.sliceAt,Instr.slice,run_underlying hu w,hv,h1,jI cx w,xL]
   .simp[Instr.sliceAt,Instr.slice,run_underlying hu w,hv,h1,jI cx w,xL]
  next elem cs len sz hu hx=>
   obtain⟨hs,h⟩:=dj h;have hvr:=rx _ hx;have ajE:=hvr;simp only[VR]at ajE;obtain⟨a,c,hv,_⟩:=ajE;rw[hv]at hvr;obtain⟨l',h',m',h1,h2⟩:=aCw (P:=P) h hvr r1 r2 r3 w;have cx:cW P elem=some sz:=by
    cases hq:cW P elem with
    |none=>simp[hq]at hs
    |some s=>simp[hq]at hs;rw[hs]
   refine⟨_,?_,h2⟩;simp[Instr.sliceAt,Instr.slice,run_underlying hu w,hv,h1,jI cx w]
  next elem id len sz hu hx=>
   obtain⟨hs,hq⟩:=dj h;clear h;simp only[dc]at hs;obtain⟨⟨hs,Mc⟩,hmn⟩:=hs;have Mc:=pE Mc;have uW:m=none:=by cases m<;>simp at hmn⊢
   subst uW;have cx:cW P elem=some sz:=by
    cases hq:cW P elem with
    |none=>simp[hq]at hs
    |some s=>simp[hq]at hs;rw[hs]
   rcases rx _ hx with⟨h0,_⟩|⟨e,y,c,he,hv,hy,ot,jQ⟩
   .omega
   .obtain⟨l',h',m',h1,h2⟩:=acU (P:=P) hq he (by simpa using hy) ot (λh=>by cases h) (by simpa using jQ) r1 r2 r3 w true;refine⟨_,?_,h2⟩;by_cases xL:m'=l'
    .simp[Instr.sliceAt,Instr.slice,run_underlying hu w,hv,h1,jI cx w,xL]
    .simp[Instr.sliceAt,Instr.slice,run_underlying hu w,hv,h1,jI cx w,xL]
  next elem xn aHU xsz hu hx=>
   have hv:=rx _ hx;simp only[VR]at hv;obtain⟨hz,hq⟩:=dj h;clear h;cases hq;simp only[dc]at hz;obtain⟨⟨⟨⟨⟨z1,z2⟩,z3⟩,z4⟩,z5⟩,z6⟩:=hz;obtain⟨sz,cx⟩:=qeu.1 z6;have b1:=Kj z1;have b2:=Kj z2;have key:∀L C:Nat,(Instr.sliceBounds true L C (lo.map ev) (hi.map ev) (mx.map ev)).run P w=.ok (0,0,0) w:=by
    intro L C;cases m with
    |none=>cases z4
    |some ma=>
     cases hh with
     |none=>cases z5
     |some ha=>
      rcases r3 with⟨e,_⟩|⟨ma',mv,e,CQ,hma⟩
      .cases e
      .cases e;rcases r2 with⟨e,_⟩|⟨Fy,I',e,CL,hha⟩
       .cases e
       .cases e;rw[CQ,CL];exact acT (Kj z3) hma b2 hha b1 r1 (fu _) (cE _) (cE _) w
   rcases hv with⟨_,hv⟩|⟨e,x,c,_,hv,_⟩
   .exact⟨.slice none 0 0,by simp[Instr.sliceAt,Instr.slice,run_underlying hu w,hv,key,jI cx w],by simp[VR]⟩
   .exact⟨.slice (some ⟨e.b,x,none⟩) 0 0,by simp[Instr.sliceAt,Instr.slice,run_underlying hu w,hv,key,jI cx w],by simp[VR]⟩
  next elem hu hx=>
   have hv:=rx _ hx;simp only[VR]at hv;obtain⟨hz,h⟩:=dj h;cases h;simp at hz;have⟨⟨⟨⟨z1,z2⟩,z3⟩,z4⟩,z5⟩:=hz;have⟨sz,cx⟩:=qeu.1 z5;refine⟨.slice none 0 0,?_,by simp[VR]⟩;have b1:=Kj z1;have b2:=Kj z2;have key:(Instr.sliceBounds true 0 0 (lo.map ev) (hi.map ev) (mx.map ev)).run P w=.ok (0,0,0) w:=by
    cases m with
    |none=>
     have xM:mx.map ev=none:=by rcases r3 with⟨_,h⟩|⟨_,_,e,_⟩;exact h;cases e
     rw[xM];exact T7 b2 b1 r1 r2 (cE _) (cE _) w
    |some ma=>
     cases hh with
     |none=>simp at z4
     |some ha=>
      rcases r3 with⟨e,_⟩|⟨ma',mv,e,CQ,hma⟩
      .cases e
      .cases e;rcases r2 with⟨e,_⟩|⟨Fy,I',e,CL,hha⟩
       .cases e
       .cases e;rw[CQ,CL];exact acT (Kj z3) hma b2 hha b1 r1 (cE _) (cE _) (cE _) w
   simp[Instr.sliceAt,Instr.slice,run_underlying hu w,hv,key,jI cx w]
  next n elem id off hu hx=>
   have⟨e,he,hv⟩:=rx _ hx;split at h;next sz vs hs jC=>
    have⟨hb,h⟩:=dj h;have⟨cs,el,hg,cx,cA,_,_⟩:=hw.OY jC he;have jQ:e.o+off+n*sz<=e.n:=by have:=pE hb;omega
    have⟨l',h',m',h1,h2⟩:=acU (P:=P) h he (.inr rfl) (cE n) (λ_=>rfl) jQ r1 r2 r3 w false;refine⟨_,?_,h2⟩;by_cases xL:m'=l'
    .simp[Instr.sliceAt,Instr.sureAddr,run_underlying hu w,hv,h1,jI hs w,xL]
    .simp[Instr.sliceAt,Instr.sureAddr,run_underlying hu w,hv,h1,jI hs w,xL]
   .cases h
  .cases h
 .cases h
theorem awg(hw:WR φ base H w){b args argTypes T vs v}(hv:br φ args vs.toList)(h:Sy P H b args argTypes=some v):
 ∃v',(∀LB,(builtin b argTypes T LB vs).run P w=.ok (.value v') w)/\VR φ v v':=by
 unfold Sy at h;split at h;next x=>
  obtain⟨vx,rest,e,hx,rfl⟩:=hv;have h0:vs[0]? =some vx:=by rw[<-wK,e];rfl
  unfold aaY at h;split at h;next n elem hu=>
   cases h;cases ht:argTypes[0]? with
   |none=>simp[ht]at hu
   |some t=>simp only[ht,ri]at hu;exact⟨goInt n,λ_=>by simp[builtin,Builtin.len_,ht,h0,run_underlying hu w],Ff n⟩
  next d _ hu=>
   have⟨hf,h⟩:=dj h;obtain⟨n,hn,rfl⟩:=ud h;cases ht:argTypes[0]? with
   |none=>simp[ht]at hu
   |some t=>simp only[ht,ri]at hu;exact⟨goInt n,λ_=>by simp[builtin,awC hw hx hn hu hf ht h0],Ff n⟩
  .cases h
 next x=>
  obtain⟨vx,rest,e,hx,rfl⟩:=hv;have h0:vs[0]? =some vx:=by rw[<-wK,e];rfl
  unfold ake at h;split at h;next elem id off len c sz hu=>
   cases h;obtain⟨e',y,c',he,rfl,hy,bS,xH,jQ⟩:=hx;cases ht:argTypes[0]? with
   |none=>simp[ht]at hu
   |some t=>simp only[ht,ri]at hu;exact⟨goInt c',λ_=>by simp[builtin,Builtin.cap_,ht,h0,run_underlying hu w],by rw[xH rfl];exact Ff c⟩
  next elem hu=>
   cases h;subst hx;cases ht:argTypes[0]? with
   |none=>simp[ht]at hu
   |some t=>simp only[ht,ri]at hu;exact⟨goInt 0,λ_=>by simp[builtin,Builtin.cap_,ht,h0,run_underlying hu w],Ff 0⟩
  .cases h
 next a l=>have⟨va,rest,e,ha,hl⟩:=hv;have⟨v',h1,h2⟩:=Zb (P:=P) (w:=w) ha hl h;refine⟨v',λ_=>?_,h2⟩;simp at h1;simp[builtin,Builtin.max_,e,h1]
 next a l=>have⟨va,rest,e,ha,hl⟩:=hv;have⟨v',h1,h2⟩:=Zb (P:=P) (w:=w) ha hl h;refine⟨v',λ_=>?_,h2⟩;simp at h1;simp[builtin,Builtin.min_,e,h1]
 .cases h
theorem amm{o v}(hw:WR φ base H w)(hr:n_ φ ρ ev o.op.operands.toList)(h:f_ P ρ H o.op=some v):
 ∃v',(execOp ev o).run P w=.ok (.value v') w/\VR φ v v':=by
 cases o with
 |mk dst op type pos after guard=>
 simp only at hr h;cases op<;>simp only[f_]at h<;>try (cases h;done)
 case move x=>exact⟨ev x,by simp[execOp],hr x (by simp[Op.operands]) v h⟩
 case assign x=>exact⟨ev x,by simp[execOp],hr x (by simp[Op.operands]) v h⟩
 case pick c a b=>
  unfold aa0 at h;split at h;next t hc=>
   have h1:=hr c (by simp[Op.operands]) _ hc;simp only[VR]at h1;cases t
   .simp only[cond_false]at h;exact⟨ev b,by simp[execOp,h1,asBool],hr b (by simp[Op.operands]) v h⟩
   .simp only[cond_true]at h;exact⟨ev a,by simp[execOp,h1,asBool],hr a (by simp[Op.operands]) v h⟩
  .cases h
 case build t oB=>obtain⟨v',h1,h2⟩:=awf (ev:=ev) (w:=w) (hr.pQ (λx hx=>by simpa[Op.operands]using hx)) h;exact⟨v',by simp only[execOp];exact mc h1,h2⟩
 case load t a=>
  unfold SA at h;split at h;next id off ha=>obtain⟨e,he,hv⟩:=hr a (by simp[Op.operands]) _ ha;obtain⟨v',h1,h2⟩:=aa9 hw h he;exact⟨v',by simp only[execOp];exact mc (by simp[Instr.loadAt,Instr.sureAddr,hv,h1]),h2⟩
  next cs ha=>obtain⟨b,x,eK,el,fz,hv,gw,cx,hc⟩:=hr a (by simp[Op.operands]) _ ha;obtain⟨v',h1,h2⟩:=awO (P:=P) (w:=w) h (hw.ro _ _ gw).1.2 cx hc;have h2:=VR.ez (dE.wD φ) _ _ h2;exact⟨v',by simp only[execOp];exact mc (by simp[Instr.loadAt,Instr.sureAddr,hv,h1]),h2⟩
  next n off ha=>obtain⟨e,he,hv⟩:=hr a (by simp[Op.operands]) _ ha;obtain⟨v',h1,h2⟩:=awP hw h he;exact⟨v',by simp only[execOp];exact mc (by simp[Instr.loadAt,Instr.sureAddr,hv,h1]),h2⟩
  .cases h
 case nilCheck x=>
  unfold akl at h;split at h;next id off hx=>cases h;have h0:=hr x (by simp[Op.operands]) _ hx;obtain⟨e,he,hv⟩:=h0;exact⟨ev x,by simp[execOp,hv],e,he,hv⟩
  next cs hx=>cases h;have h0:=hr x (by simp[Op.operands]) _ hx;have h1:=h0;obtain⟨b,y,eK,el,fz,hv,_⟩:=h0;exact⟨ev x,by simp[execOp,hv],h1⟩
  next n off hx=>cases h;have h0:=hr x (by simp[Op.operands]) _ hx;obtain⟨e,he,hv⟩:=h0;exact⟨ev x,by simp[execOp,hv],e,he,hv⟩
  next f l c hx=>cases h;have h0:=hr x (by simp[Op.operands]) _ hx;have h1:=h0;obtain⟨f',c',hv,_⟩:=h0;exact⟨ev x,by simp[execOp,hv],h1⟩
  next t a hx=>cases h;have h0:=hr x (by simp[Op.operands]) _ hx;have h1:=h0;obtain⟨a',hv,_⟩:=h0;exact⟨ev x,by simp[execOp,hv],h1⟩
  .cases h
 case binOp op t x y yt=>
  unfold M6 at h;split at h;next a b ha hb=>obtain⟨v',h1,h2⟩:=aqI (P:=P) (hr x (by simp[Op.operands]) _ ha) (hr y (by simp[Op.operands]) _ hb) h w;exact⟨v',by simp only[execOp];exact mc h1,h2⟩
  .cases h
 case unOp op t x=>
  unfold lUn at h;split at h;next a ha=>
   cases hv:UY a with
   |none=>simp[hv]at h
   |some va=>
    simp only[hv,ri]at h;have h0:=aFq hv (hr x (by simp[Op.operands]) _ ha);cases hp:Bm P (Op.unary op va)with
    |none=>simp[hp]at h
    |some v'=>simp only[hp,ri]at h;exact⟨v',by simp only[execOp];exact mc (by rw[h0];exact ab5 hp w),alG h⟩
  .cases h
 case convert my dst x=>
  unfold akf at h;split at h;next k0 k k1 n h1 h2 h3=>cases h;have h0:=hr x (by simp[Op.operands]) _ h3;simp only[VR]at h0;exact⟨.int k (k.wrap n),by simp only[execOp];exact mc (by simp[convert,run_underlying h1 w,run_underlying h2 w,h0,Conv.intToInt]),by simp[VR]⟩
  next s h1 h2 h3=>cases h;have h0:=hr x (by simp[Op.operands]) _ h3;obtain⟨b,hb,e⟩:=h0;exact⟨.string b,by simp only[execOp];exact mc (by simp[convert,run_underlying h1 w,run_underlying h2 w,hb]),b,rfl,e⟩
  .cases h
 case makeInterface t x=>
  unfold akk at h;split at h
  .cases h
  next d a tR hu ha=>
   cases h;refine⟨.iface t (ev x),?_,_,rfl,hr x (by simp[Op.operands]) _ ha⟩;simp only[execOp];refine mc ?_;simp only[Instr.makeInterface,Sem.run_bind,run_underlying hu w,Result.andThen_ok];cases d<;>first
    |rfl
    |(exact absurd rfl (tR _))
  .cases h
 case makeFunc fn first lM=>
  unfold akj at h;split at h;next f c hf hc=>
   cases hy:wq fn
   .rw[hy]at h;cases h;refine⟨.func fn (first.map ev) (lM.map ev),by simp only[execOp];exact mc (by simp[Instr.makeFunc]),_,_,rfl,hy,?_,?_⟩
    .have:=BR (hr.pQ (l':=first.toList) (λx hx=>by simp only[Op.operands,DK,iW];exact .inl hx)) hf;simpa using this
    .have:=BR (hr.pQ (l':=lM.toList) (λx hx=>by simp only[Op.operands,DK,iW];exact .inr hx)) hc;simpa using this
   .rw[hy]at h;cases h
  .cases h
 case slice t x lo hi mx=>obtain⟨v',h1,h2⟩:=awh (P:=P) hw (hr.pQ (λy hy=>by simpa[Op.operands]using hy)) h;exact⟨v',by simp only[execOp];exact mc h1,h2⟩
 case fieldAddr s x f=>
  unfold aki at h;split at h;next gp id off hu hx=>
   obtain⟨e,he,hv⟩:=hr x (by simp[Op.operands]) _ hx;unfold ahO at h;split at h;next fd A1=>
    split at h;next sz cx=>cases h;refine⟨.pointer (some ⟨e.b,e.o+(off+fd.offset),none⟩),?_,e,he,rfl⟩;simp only[execOp];refine mc ?_;simp only[Instr.fieldAt,Sem.run_bind,run_underlying hu w,Result.andThen_ok,A1,Instr.sureAddr,hv,Sem.run_pure,fieldPlace,jI cx w];simp[yL,Gl]
    .cases h
   .cases h
  next gp cs hu hx=>
   obtain⟨b,y,eK,el,fz,hv,gw,I8,hc⟩:=hr x (by simp[Op.operands]) _ hx;unfold ahP at h;split at h;next fd A1=>
    split at h;next sz cx=>
     obtain⟨hb,h⟩:=dj h;have hb:=pE hb;cases h;refine⟨.pointer (some ⟨b,y+fd.offset,none⟩),?_,b,y+fd.offset,eK,el,fz,rfl,gw,by simp;omega,?_⟩
     .simp only[execOp];refine mc ?_;simp only[Instr.fieldAt,Sem.run_bind,run_underlying hu w,Result.andThen_ok,A1,Instr.sureAddr,hv,Sem.run_pure,fieldPlace,jI cx w];simp[yL]
     .have h2:=hc.yD fd.offset;rw[zO,wM]at h2;simpa using h2
    .cases h
   .cases h
  next gp n off hu hx=>
   obtain⟨e,he,hv⟩:=hr x (by simp[Op.operands]) _ hx;unfold ahQ at h;split at h;next fd A1=>
    split at h;next sz cx=>cases h;refine⟨.pointer (some ⟨e.b,e.o+(off+fd.offset),none⟩),?_,e,he,rfl⟩;simp only[execOp];refine mc ?_;simp only[Instr.fieldAt,Sem.run_bind,run_underlying hu w,Result.andThen_ok,A1,Instr.sureAddr,hv,Sem.run_pure,fieldPlace,jI cx w];simp[yL,Gl]
    .cases h
   .cases h
  .cases h
 case field t x f=>
  unfold akh at h;split at h;next gp cs hu hx=>
   obtain⟨cs',hv,hc⟩:=hr x (by simp[Op.operands]) _ hx;unfold ahN at h;split at h;next fd A1=>obtain⟨v',h1,h2⟩:=Tt hc h w;exact⟨v',by simp only[execOp];exact mc (by simp[Instr.field,run_underlying hu w,A1,hv,asAgg,h1]),h2⟩
   .cases h
  .cases h
 case indexAddr t x i=>
  unfold M7 at h;split at h;next n elem id off k j hu hx hi=>obtain⟨e,he,hv⟩:=hr x (by simp[Op.operands]) _ hx;have eD:=hr i (by simp[Op.operands]) _ hi;simp only[VR]at eD;obtain⟨s,hs,ay,rfl⟩:=YH h;refine⟨.pointer (some ⟨e.b,e.o+(off+j*s),none⟩),?_,e,he,rfl⟩;simp only[execOp];refine mc ?_;simp[Instr.indexAt,eD,asIntOf,run_underlying hu w,Instr.sureAddr,hv,ay,hs,yL,Gl]
  next elem id off len cap sz ex k j hu hx hi=>
   obtain⟨e,y,c,he,hv,hy,bS,xH,jQ⟩:=hr x (by simp[Op.operands]) _ hx;have eD:=hr i (by simp[Op.operands]) _ hi;simp only[VR]at eD;obtain⟨s,hs,ay,rfl⟩:=YH h;have sL:y=e.o+off:=by rcases hy with h|h<;>omega
   subst sL;refine⟨.pointer (some ⟨e.b,e.o+(off+j*s),none⟩),?_,e,he,rfl⟩;simp only[execOp];refine mc ?_;simp[Instr.indexAt,eD,asIntOf,run_underlying hu w,hv,ay,hs,yL,Gl]
  next elem cs len sz k j hu hx hi=>
   obtain⟨a,c,hv,bS,hd⟩:=hr x (by simp[Op.operands]) _ hx;have eD:=hr i (by simp[Op.operands]) _ hi;simp only[VR]at eD;obtain⟨hs,ay,rfl⟩:=asw h;rcases hd with hd|⟨b,y,eK,el,fz,rfl,ot,gw,cx,hc⟩
   .omega
   .have m1:j*sz+sz<=len*sz:=by have:=TD sz (show j+1<=len by omega);rw[yi]at this;omega
    have iH:((cs.drop (j*sz)).take sz).length=sz:=by simp;omega
    refine⟨.pointer (some ⟨b,y+j*sz,none⟩),?_,b,y+j*sz,eK,el,fz,rfl,gw,by rw[iH];omega,?_⟩
    .simp only[execOp];refine mc ?_;simp[Instr.indexAt,eD,asIntOf,run_underlying hu w,hv,ay,hs,yL]
    .rw[iH];have h2:=(hc.yD (j*sz)).yE sz;have e3:(((eK.toList.drop y).take cs.length).drop (j*sz)).take sz=(eK.toList.drop (y+j*sz)).take sz:=by rw[zO,wM,Bq];congr 1;omega
     rw[e3]at h2;exact h2
  next elem id len sz k j hu hx hi=>
   obtain⟨hz,h⟩:=dj h;have eD:=hr i (by simp[Op.operands]) _ hi;simp only[VR]at eD;obtain⟨s,hs,ay,rfl⟩:=YH h;rcases hr x (by simp[Op.operands]) _ hx with⟨h0,_⟩|⟨e,y,c,he,hv,hy,ot,jQ⟩
   .omega
   .have sL:y=e.o:=by rcases hy with h|h<;>omega
    subst sL;refine⟨.pointer (some ⟨e.b,e.o+(0+j*s),none⟩),?_,e,he,rfl⟩;simp only[execOp];refine mc ?_;simp[Instr.indexAt,eD,asIntOf,run_underlying hu w,hv,ay,hs,yL]
  .cases h
 case index t x i=>
  unfold Sz at h;split at h;next n elem cs k j hu hx hi=>
   obtain⟨cs',hv,hc⟩:=hr x (by simp[Op.operands]) _ hx;have eD:=hr i (by simp[Op.operands]) _ hi;simp only[VR]at eD;unfold YG at h;split at h;next s hs=>
    obtain⟨hb,h⟩:=dj h;obtain⟨v',h1,h2⟩:=Tt hc h w;have ay:j<n:=by have:=pE hb;omega
    exact⟨v',by simp only[execOp];exact mc (by simp[Instr.index,eD,asIntOf,run_underlying hu w,hv,ay,jI hs w,h1]),h2⟩
   .cases h
  next s k j hu hx hi=>
   obtain⟨b,hv,rfl⟩:=hr x (by simp[Op.operands]) _ hx;have eD:=hr i (by simp[Op.operands]) _ hi;simp only[VR]at eD;unfold X8 at h;split at h;next c hc=>
    cases h;have hj:∃u,b[j]? =some u/\u.toNat=c:=by
     simp only[dL,sa]at hc;cases hq:b.data.toList[j]? with
     |none=>simp[hq]at hc
     |some u=>
      simp only[hq,r9,nX]at hc;refine⟨u,?_,hc⟩;obtain⟨ay,CX⟩:=NW.1 hq;have au8:j<b.size:=by simpa using ay
      rw[getElem?_pos b j au8];simp only[<-CX];rfl
    obtain⟨u,hu1,hu2⟩:=hj;exact⟨.int .u8 u.toNat,by simp only[execOp];exact mc (by simp[Instr.index,eD,asIntOf,run_underlying hu w,hv,hu1]),by simp[VR,hu2]⟩
   .cases h
  .cases h
 case lookup t x k ok=>
  unfold M8 at h;split at h;next kt elem m key hu hx hk=>obtain⟨v0,h0,rfl⟩:=ud h;obtain⟨v',h1,h2⟩:=awQ (P:=P) hw hu h0 (hr x (by simp[Op.operands]) _ hx) (hr k (by simp[Op.operands]) _ hk);have h2:=abB (P:=P) (H:=H) (elem:=elem) (ok:=ok) h2;exact⟨v',by simp only[execOp];exact mc h1,h2⟩
  .cases h
 case typeAssert x xt qJ ok=>
  unfold akm at h;split at h
  .cases h
  next d a tR hu hx=>have⟨v',h1,h2⟩:=aqw (xT:=xt) hu (λms e=>tR ms e) h (hr x (by simp[Op.operands]) _ hx) w;exact⟨v',by simp only[execOp];exact mc h1,h2⟩
  .cases h
 case extract x i=>
  unfold akg at h;split at h;next vs hx=>
   have⟨eF,hv,jC⟩:=hr x (by simp[Op.operands]) _ hx;have⟨v',h1,h2⟩:=jC.get h;have h3:eF[i]? =some v':=by simpa using h1
   exact⟨v',by simp only[execOp];exact mc (by simp[Instr.extract,hv,h3]),h2⟩
  .cases h
 case call c=>
  have⟨callee,args,argTypes⟩:=c;cases callee<;>simp only at h<;>try (cases h;done)
  rename_i b;unfold aaX at h;split at h;next l hl=>have jC:=BR (hr.pQ (λx hx=>by simp[Op.operands,Call.operands];simpa using hx)) hl;have⟨v',h1,h2⟩:=awg (T:=type) hw (vs:=args.map ev) (by simpa using jC) h;refine⟨v',?_,h2⟩;exact h1 _
  .cases h
end
end
end Go.Ev
