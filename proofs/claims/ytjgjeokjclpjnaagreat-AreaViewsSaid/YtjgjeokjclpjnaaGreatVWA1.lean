/- The evaluator: definitions, reads. -/
import GoSem.Step
import Derived.WalkKit
import Derived.Defers
import Derived.ChangeKeysEq
import Derived.Laws.CopyRow
import Derived.Laws.Rows
import Derived.MapKept
import Derived.RangeFuncOwn
set_option linter.all false
set_option linter.unusedSectionVars false
namespace Go.Ev
noncomputable section
theorem aA{F D}{a:F}{b:D}:a=a/\b=b:=⟨rfl,rfl⟩
theorem da{F}{a:F}:a=a/\True:=⟨rfl,trivial⟩
abbrev LI:=List Int
abbrev LN:=List Nat
abbrev LP:=List (Int×Int)
abbrev a_:= @Int.ofNat
abbrev fG:= @List.cons.injEq
abbrev mE:= @List.eq_nil_of_length_eq_zero
abbrev e9:= @List.map_cons
abbrev iK:= @List.mem_append
abbrev n6:= @List.getD_cons_zero
abbrev eh:= @Nat.zero_le
abbrev qA:= @Nat.le_of_ble_eq_true
abbrev oC:= @List.all_eq_true
abbrev uL:= @Option.map_some
abbrev sH:= @Option.bind_some
abbrev tY:= @List.getD_cons_succ
abbrev lO:= @List.append_inj
abbrev uM:= @List.length_eq_zero_iff
abbrev mg:= @Bool.and_self
abbrev oD:= @List.length_map
abbrev Ab:= @List.getElem?_take_of_lt
abbrev rH:= @List.length_take
abbrev lz:= @Nat.le_trans
abbrev j4:= @Nat.beq_refl
abbrev yU:= @Array.getElem?_toList
abbrev sI:= @Bool.eq_false_iff
abbrev DQ:= @Array.getElem?_eq_getElem
abbrev vR:= @List.getElem?_drop
abbrev sJ:= @List.getElem?_map
abbrev Sf:= @List.getElem?_eq_none
abbrev vT:= @List.mem_map
abbrev lP:= @List.map_append
abbrev yV:= @Bool.not_eq_true'
abbrev sK:= @List.all_append
abbrev sL:= @Bool.eq_iff_iff
abbrev rI:= @List.mem_map_of_mem
abbrev qcp:= @List.not_mem_nil
abbrev xy:= @List.filter_cons
abbrev Ac:= @List.pairwise_append
abbrev n7:= @Nat.mul_one
abbrev uN:= @List.nodup_cons
abbrev qB:= @List.take_add_one
abbrev DS:= @List.getElem_cons_succ
abbrev Gq:= @List.take_take
abbrev tZ:= @Bool.false_and
abbrev pX:= @List.take_length
abbrev Ng:= @List.flatten_cons
abbrev qda:= @List.getElem?_cons_succ
abbrev Gr:= @List.filter_append
abbrev Ad:= @List.drop_drop
abbrev BM:= @Option.any_some
abbrev xz:= @List.mem_filter
abbrev Gs:= @Option.map_eq_some_iff
abbrev BN:= @List.take_of_length_le
abbrev DT:= @Array.toList_append
abbrev vU:= @Nat.ble_eq
abbrev xA:= @List.take_left'
abbrev Nh:= @Bool.false_eq_true
abbrev Sg:= @Nat.mul_le_mul_right
abbrev Jp:= @List.mem_of_mem_take
abbrev Ni:= @List.drop_length_add_append
abbrev yW:= @Nat.add_mul
abbrev Sh:= @Array.getElem?_eq_some_iff
abbrev qdq:= @List.getElem_cons_zero
abbrev BO:= @List.drop_take
abbrev Jq:= @List.getElem?_take
abbrev Si:= @List.flatten_nil
abbrev Nj:= @List.mem_of_mem_drop
abbrev Gt:= @Decidable.not_not
abbrev YZ:= @Nat.min_eq_left
abbrev Sj:= @Array.getD_eq_getD_getElem?
abbrev Gu:= @Nat.add_zero
abbrev DU:= @Bool.and_true
abbrev Gv:= @Nat.zero_lt_succ
abbrev qeb:= @List.length_drop
abbrev Jr:= @List.pairwise_cons
abbrev qed:= @List.getElem?_eq_some_iff
abbrev Nk:= @List.mem_of_getElem?
abbrev DV:= @List.mem_append_left
abbrev Gx:= @Nat.lt_succ_of_lt
abbrev Sk:= @List.flatMap_cons
abbrev qei:= @List.take_succ_cons
abbrev DW:= @List.nodup_nil
abbrev Sl:= @Nat.eq_zero_or_pos
abbrev qel:= @Nat.zero_mul
abbrev qem:= @Array.getElem?_setIfInBounds
abbrev Sm:= @Bool.or_eq_true
abbrev Js:= @Prod.mk.injEq
abbrev Gy:= @List.foldl_append
abbrev Y0:= @Option.getD_some
abbrev qer:= @Nat.lt_or_ge
abbrev qes:= @List.flatten_append
abbrev qet:= @List.drop_succ_cons
abbrev qeu:= @Option.isSome_iff_exists
abbrev DX:= @Nat.add_assoc
abbrev Nl:= @Nat.lt_of_lt_of_le
abbrev Sn:= @List.mem_filterMap
abbrev Jt:= @List.filter_eq_nil_iff
abbrev Y3:= @List.ext_getElem?
abbrev So:= @Array.isEmpty_iff
abbrev Nm:= @List.mem_range
abbrev Nn:= @List.foldl_nil
abbrev DY:= @Bool.and_false
abbrev cj:= @List.length_append
abbrev dJ:= @List.length_cons
abbrev gH:= @List.length_nil
abbrev aw:= @if_neg
abbrev aP:= @if_pos
abbrev cT:= @Bool.and_eq_true
abbrev gf:= @List.drop_eq_nil_of_le
abbrev cW:= @Option.some.inj
abbrev dN:= @Nat.eq_of_beq_eq_true
abbrev dZ:= @List.mem_cons_of_mem
abbrev cP:= @of_decide_eq_true
abbrev c9:= @of_decide_eq_false
abbrev dk:= @List.mem_cons_self
abbrev dU:= @List.mem_cons
abbrev jr:= @Int.ofNat_eq_natCast
abbrev gg:= @List.getElem?_eq_getElem
abbrev jt:= @List.append_nil
abbrev jE:= @List.append_assoc
abbrev ct:= @Nat.le_refl
abbrev DP:= @decide_eq_true_eq
abbrev qau:= @Classical.byContradiction
abbrev lx:= @Nat.zero_add
abbrev kr:= @Nat.lt_succ_self
abbrev xw:= @List.drop_zero
abbrev qz:= @List.foldl_cons
abbrev Gp:= @Int.le_refl
abbrev vQ:= @List.mem_singleton
abbrev pW:= @Bool.true_and
abbrev Se:= @List.getElem?_append_right
abbrev uK:= @List.take_append_drop
abbrev qbe:= @List.drop_left
abbrev k7:= @List.getElem_mem
abbrev lN:= @Option.some.injEq
abbrev j3:= @List.cons_append
abbrev rG:= @List.nil_append
section
inductive Tr(F:Type)where
 |iq
 |gB (v:Option F) (l r:Tr F)
namespace Tr
variable{F:Type}
def bL(t:Tr F):Nat->Option F:=
 @Tr.rec F (λ_=>Nat->Option F) (λ_=>none)
  (λv _ _ gl gr n=> @Bool.rec (λ_=>Option F) (@Bool.rec (λ_=>Option F) (gr (Nat.sub (Nat.div n 2) 1)) (gl (Nat.div n 2)) (Nat.beq (Nat.mod n 2) 1)) v (Nat.beq n 0)) t
def y5(f:Nat):Nat->F->Tr F:=
 @Nat.rec (λ_=>Nat->F->Tr F) (λ_ a=>.gB (some a) .iq .iq)
  (λ_ sg n a=> @Bool.rec (λ_=>Tr F) (@Bool.rec (λ_=>Tr F) (.gB none .iq (sg (Nat.sub (Nat.div n 2) 1) a)) (.gB none (sg (Nat.div n 2) a) .iq) (Nat.beq (Nat.mod n 2) 1)) (.gB (some a) .iq .iq) (Nat.beq n 0)) f
def fB(t:Tr F):Nat->F->Tr F:=
 @Tr.rec F (λ_=>Nat->F->Tr F) (λn a=>y5 n n a)
  (λv l r sl sr n a=> @Bool.rec (λ_=>Tr F) (@Bool.rec (λ_=>Tr F) (.gB v l (sr (Nat.sub (Nat.div n 2) 1) a)) (.gB v (sl (Nat.div n 2) a) r) (Nat.beq (Nat.mod n 2) 1)) (.gB (some a) l r) (Nat.beq n 0)) t
def EA(t:Tr F):Nat->Tr F:=
 @Tr.rec F (λ_=>Nat->Tr F) (λ_=>.iq)
  (λv l r el er n=> @Bool.rec (λ_=>Tr F) (@Bool.rec (λ_=>Tr F) (.gB v l (er (Nat.sub (Nat.div n 2) 1))) (.gB v (el (Nat.div n 2)) r) (Nat.beq (Nat.mod n 2) 1)) (.gB none l r) (Nat.beq n 0)) t
def Gf:List F->Nat->Tr F->Tr F
 |[],_,t=>t
 |a::l,n,t=>Gf l (n+1) (t.fB n a)
end Tr
inductive AV where
 |ai (b:Bool)
 |bD (k:IntKind) (n:Int)
 |ao (s:LN)
 |aa (id off:Nat)
 |kZ
 |bK (id off len cap sz:Nat) (ex:Bool)
 |aM
 |aS (id:Nat)
 |oz
 |cw (fn:Fn) (first mw:List AV)
 |ib (l:Nat)
 |rV
 |ep (t:TypeId) (v:AV)
 |ml
 |aj (cs:List AV)
 |aL (vs:List AV)
 |yk (g:Nat)
 |aq (cs:List AV) (len sz:Nat)
 |qI (cs:List AV)
 |ad (id len sz:Nat)
 |ei (n off:Nat)
 |gV (n len sz:Nat)
 |tb
 |xG (cs:List AV) (len sz:Nat)
 |dI (v:AV)
 deriving Inhabited
def fg(b:ByteArray):LN:=b.data.toList.map UInt8.toNat
def yJ:Fn->Bool
 |.yield _=>true
 |_=>false
def Vn:Value->Option AV
 |.bool b=>some (.ai b)
 |.int k n=>some (.bD k n)
 |.string s=>some (.ao (fg s))
 |.pointer none=>some .kZ
 |.slice none 0 0=>some .aM
 |.map none=>some .oz
 |.func fn f c=>bif yJ fn|| !f.isEmpty|| !c.isEmpty then none else some (.cw fn [] [])
 |.nilFunc=>some .rV
 |.nilIface=>some .ml
 |_=>none
abbrev LV:=List AV
def Lf:List Value->Option LV
 |[]=>some []
 |v::l=>match Vn v with
  |none=>none
  |some a=>match Lf l with
   |none=>none
   |some as=>some (a::as)
def ON:Value->Option AV
 |.agg cs=>(Lf cs.toList).map .aj
 |.tuple cs=>bif cs.isEmpty then some (.aL [])else none
 |v=>Vn v
def AV.dH:AV->Bool
 |.aj _|.aL _=>false
 |_=>true
def AV.dO:AV->LV
 |.aj cs=>cs
 |v=>[v]
def AV.mK:AV:=.aL []
mutual
def f_:AV->Bool
 |.aa .. |.bK .. |.aS _|.ib _|.ad .. =>false
 |.cw _ f c=>BK f&&BK c
 |.ep _ v=>f_ v
 |.aj cs=>BK cs
 |.aL cs=>BK cs
 |_=>true
def BK:LV->Bool
 |[]=>true
 |a::l=>f_ a&&BK l
end
def bO:LN->LN->Bool
 |[],[]=>true
 |a::l,b::m=>bif Nat.beq a b then bO l m else false
 |_,_=>false
def ki:LN->LN->Bool
 |_,[]=>false
 |[],_::_=>true
 |a::x,b::y=>bif Nat.ble (a+1) b then true else bif Nat.beq a b then ki x y else false
inductive qT where
 |xN (fn:Fn) (mw args:LV)
 |pr (r:Nat)
inductive aO where
 |ah (vs:LV) (elem:TypeId)
 |bI (es:List (AV×AV×Nat)) (clock:Nat) (p:Bool)
 |vZ (s:LN) (pos:Nat)
 |iZ (m:Option Nat) (since:Nat) (seen:LN) (GM:Nat)
 |gX (state:LoopState) (pending:Option Code) (fn:Nat) (tmps:Tr AV) (nt:Nat) (params:List Tmp) (assign body:Code) (defers:Nat)
 |qR (alo:Option (List qT))
 |bg (vs:LV)
 |dE (vs:LV) (elem:TypeId)
 |au (vs:LV) (elem:TypeId)
structure XH where
 g:Nat->Option aO
 n:Nat
structure AH where
 h:Tr aO
 br:Nat
 x:Option XH
def AH.eH:AH->aO->AH
 |⟨h,n,x⟩,o=>⟨h.fB n o,Nat.succ n,x⟩
def AH.cE:AH->Nat->aO->AH
 |⟨h,n,x⟩,id,o=>⟨h.fB id o,n,x⟩
def AH.aR:AH->Nat->Option aO
 |⟨h,_,_⟩,id=>h.bL id
def XH.set(X:XH)(n:Nat)(o:Option aO):XH:=⟨λi=>bif Nat.beq i n then o else X.g i,X.n⟩
def AH.gO:AH->Nat->Option aO
 |⟨_,_,some X⟩,n=>X.g n
 |_,_=>none
def AH.oH:AH->Nat->Option aO->AH
 |⟨h,k,some X⟩,n,o=>⟨h,k,some (X.set n o)⟩
 |H,_,_=>H
def AH.S6:AH->aO->Option (Nat×AH)
 |⟨h,k,some X⟩,o=>some (X.n,⟨h,k,some ⟨(X.set X.n (some o)).g,X.n+1⟩⟩)
 |_,_=>none
def lA(z:LV)(n:Nat):LV:=
 match n with
 |0=>[]
 |n+1=>z++lA z n
def AH.rU(H:AH)(id:Nat):Option LV:=
 match H.aR id with
 |some (.ah vs _)=>some vs
 |some (.dE vs _)=>some vs
 |some (.au vs _)=>some vs
 |_=>none
def iC(tmps:Tr AV):Operand->Option AV
 |.tmp t=>tmps.bL t
 |.const v=>ON v
 |.global g=>some (.yk g)
 |.func f=>some (.cw (.func f) [] [])
def x_(O:Operand->Option AV):List Operand->Option LV
 |[]=>some []
 |x::l=>match O x with
  |none=>none
  |some a=>match x_ O l with
   |none=>none
   |some as=>some (a::as)
def KS(O:Operand->Option AV):List (Nat×Operand)->Option (List (Nat×AV))
 |[]=>some []
 |(i,x)::l=>match O x with
  |none=>none
  |some a=>match KS O l with
   |none=>none
   |some as=>some ((i,a)::as)
section types
variable(P:Program)
def F3(t:TypeId):Option Bool:=
 match P.underlying t with
 |some (.struct _)|some (.array _ _)=>some true
 |some _=>some false
 |none=>none
def cy(t:TypeId):Option Nat:=(P.info? t).map (·.size)
def wC(t:TypeId):Option Nat:=(P.info? t).map (·.bytes)
def kA(t:TypeId):Option AV:=((P.info? t).bind (·.zero)).bind ON
def ash:TypeDesc->Bool
 |.int _|.string|.bool=>true
 |_=>false
def asi(t:TypeId):Bool:=
 match P.underlying t with
 |some (.struct gz)=>gz.toList.all λf=>(P.underlying f.type).any ash
 |some d=>ash d
 |none=>false
def ar5(gz:Array Field):Option (List (Nat×Nat)):=
 gz.toList.mapM λf=>(cy P f.type).map λs=>(f.offset,s)
end types
def DO{F:Type}(P:Program):Sem F->Option F
 |.pure a=>some a
 |.program k=>DO P (k P)
 |_=>none
def ZR:AV->Option Value
 |.ai b=>some (.bool b)
 |.bD k n=>some (.int k n)
 |_=>none
def YD:Value->Option AV
 |.bool b=>some (.ai b)
 |.int k n=>some (.bD k n)
 |_=>none
def qD(l:LV)(off n:Nat):Option LV:=
 let r:=(l.drop off).take n
 bif Nat.beq r.length n then some r else none
def aoF(n:Nat):LV->Bool:=
 @Nat.rec (λ_=>LV->Bool) (λ_=>true) (λ_ r l=> @List.rec AV (λ_=>(LV->Bool)->Bool) (λ_=>false) (λ_ t _ r=>r t) l r) n
def Aa(l:LV)(off:Nat)(cs:LV):Option LV:=
 bif aoF (off+cs.length) l then some (l.take off++(cs++l.drop (off+cs.length)))else none
def Dd(Nc:Nat->Option (Nat×Nat))(cells:LV):List (Nat×AV)->Option LV
 |[]=>some cells
 |(i,v)::rest=>
  match Nc i with
  |none=>none
  |some (off,size)=>
   bif Nat.beq v.dO.length size then
    match Aa cells off v.dO with
    |none=>none
    |some ayL=>Dd Nc ayL rest
   else none
def fi(P:Program)(t:TypeId)(cs:LV)(off:Nat):Option AV:=
 match F3 P t with
 |some true=>match cy P t with
  |some s=>(qD cs off s).map .aj
  |none=>none
 |some false=>cs[off]?
 |none=>none
def BI(len:Nat):Option Bool:=bif Nat.beq len 0 then none else some false
def iP(P:Program):Nat->TypeId->AV->AV->Option Bool
 |0,_,_,_=>none
 |d+1,t,x,y=>
  match P.underlying t,x,y with
  |some .bool,.ai a,.ai b=>some (a==b)
  |some (.int _),.bD k a,.bD k' b=>if k=k' then some (a==b)else none
  |some .string,.ao a,.ao b=>some (bO a b)
  |some (.pointer _),.kZ,.kZ=>some true
  |some (.pointer _),.kZ,.aa _ _=>some false
  |some (.pointer _),.aa _ _,.kZ=>some false
  |some (.pointer _),.kZ,.ei _ _=>some false
  |some (.pointer _),.ei _ _,.kZ=>some false
  |some (.slice _),.aM,.aM=>some true
  |some (.slice _),.aM,.bK .. =>some false
  |some (.slice _),.bK ..,.aM=>some false
  |some (.map _ _),.oz,.oz=>some true
  |some (.map _ _),.oz,.aS _=>some false
  |some (.map _ _),.aS _,.oz=>some false
  |some (.func _ _ _),.rV,.rV=>some true
  |some (.func _ _ _),.rV,.cw _ _ _=>some false
  |some (.func _ _ _),.cw _ _ _,.rV=>some false
  |some (.interface _),.ml,.ml=>some true
  |some (.interface _),.ml,.ep _ _=>some false
  |some (.interface _),.ep _ _,.ml=>some false
  |some (.interface _),.ep tx vx,.ep ty vy=>
   bif Nat.beq tx ty then
    match P.info? tx with
    |some i=>bif i.comparable then iP P d tx vx vy else none
    |none=>none
   else some false
  |some (.struct gz),.aj xs,.aj ys=>
   bif P.stoodInHeld t then none else Hv P d gz.toList xs ys (iP P d)
  |some (.slice _),.aM,.aq _ len _=>BI len
  |some (.slice _),.aq _ len _,.aM=>BI len
  |some (.slice _),.aM,.ad _ len _=>BI len
  |some (.slice _),.ad _ len _,.aM=>BI len
  |some (.slice _),.aM,.gV _ len _=>some (Nat.beq len 0)
  |some (.slice _),.gV _ len _,.aM=>some (Nat.beq len 0)
  |_,_,_=>none
where
 Hv (P:Program) (d:Nat):List Field->LV->LV->(TypeId->AV->AV->Option Bool)->Option Bool
 |[],_,_,_=>some true
 |f::fs,xs,ys,eq=>
  if f.name= "_" then none else
  match fi P f.type xs f.offset,fi P f.type ys f.offset with
  |some a,some b=>match eq f.type a b with
   |some true=>Hv P d fs xs ys eq
   |some false=>some false
   |none=>none
  |_,_=>none
def vF:Operand->Bool
 |.const _=>true
 |_=>false
def acz(op:BinOp)(x y:LN):Option AV:=
 match op with
 |.add=>bif Nat.ble (x.length+y.length) 1000000 then some (.ao (x++y))else none
 |.eql=>some (.ai (bO x y))
 |.neq=>some (.ai (!bO x y))
 |.lss=>some (.ai (ki x y))
 |.leq=>some (.ai (ki x y||bO x y))
 |.gtr=>some (.ai (!(ki x y||bO x y)))
 |.geq=>some (.ai (!ki x y))
 |_=>none
def pP:AV->Nat
 |.ai _=>0
 |.aa .. |.kZ|.ei .. =>1
 |.bK .. |.aM|.aq .. |.ad .. |.gV .. =>2
 |.aS _|.oz=>3
 |.cw .. |.rV=>4
 |.ep .. |.ml=>5
 |.aj _=>6
 |_=>9
def FA(P:Program)(t:TypeId)(x y:Operand):AV->AV->Bool
 |.ml,.ml=>vF x||vF y
 |.aj _,.aj _=> !P.eqGuardType P.depth t
 |_,_=>true
def Fh(P:Program)(op:BinOp)(t:TypeId)(a b:AV):Option AV:=
 match op with
 |.eql=>(iP P 100 t a b).map .ai
 |.neq=>(iP P 100 t a b).map λr=>.ai (!r)
 |_=>none
def KZ(P:Program)(op:BinOp)(t:TypeId)(x y:Operand)(a b:AV):Option AV:=
 match a,b with
 |.bD k m,.bD k' n=>(DO P (Go.binOp op t (.int k m) (.int k' n))).bind YD
 |.ao l,.ao m=>acz op l m
 |a,b=>bif Nat.beq (pP a) (pP b)&& !Nat.beq (pP a) 9&&FA P t x y a b then Fh P op t a b else none
def nX:AV->Option Nat
 |.bD _ (.ofNat n)=>some n
 |_=>none
def yl(n:Nat):AV:=.bD .i64 (.ofNat n)
def pD(eq:AV->AV->Option Bool)(k:AV):List (AV×AV×Nat)->Nat->Option (Option (Nat×AV×Nat))
 |[],_=>some none
 |(x,v,b)::es,i=>match eq k x with
  |some true=>some (some (i,v,b))
  |some false=>pD eq k es (i+1)
  |none=>none
def R4:TypeDesc->AV->Bool
 |.int _,.bD _ _|.string,.ao _|.bool,.ai _=>true
 |_,_=>false
def af0(P:Program)(cs:LV)(f:Field):Bool:=
 match P.underlying f.type,cs[f.offset]? with
 |some d,some a=>R4 d a
 |_,_=>false
def uI(P:Program)(t:TypeId)(k:AV):Bool:=
 match P.underlying t,k with
 |some (.struct gz),.aj cs=>gz.toList.all (af0 P cs)
 |some d,a=>R4 d a
 |none,_=>false
def vJ(P:Program)(H:AH)(t:TypeId)(id off:Nat):Option AV:=
 match H.rU id with
 |none=>none
 |some vs=>fi P t vs off
def AX:Option aO->Option LV
 |some (.ah vs _)=>some vs
 |some (.au vs _)=>some vs
 |_=>none
def tJ(P:Program)(H:AH)(t:TypeId)(n off:Nat):Option AV:=
 match AX (H.gO n)with
 |none=>none
 |some vs=>fi P t vs off
def I4(H:AH):AV->Option Nat
 |.ao s=>some s.length
 |.bK _ _ len _ _ _=>some len
 |.aq _ len _=>some len
 |.ad _ len _=>some len
 |.gV _ len _=>some len
 |.tb=>some 0
 |.aM=>some 0
 |.oz=>some 0
 |.aS id=>match H.aR id with
  |some (.bI es _ _)=>some es.length
  |_=>none
 |_=>none
def Zl(s:LN)(lo hi:Option AV):Option AV:=
 match(match hi with|some v=>nX v|none=>some s.length),(match lo with|some v=>nX v|none=>some 0)with
 |some h,some l=>bif Nat.ble h s.length&&Nat.ble l h then some (.ao ((s.take h).drop l))else none
 |_,_=>none
def PJ(ex:Bool)(lo:Option AV)(cap l:Nat):Nat:= @Bool.rec (λ_=>Nat) (match lo with|none=>cap|some _=>0) (cap-l) ex
def Jz(id off len cap sz:Nat)(ex:Bool)(lo hi mx:Option AV):Option AV:=
 match mx with
 |none=>
  match(match hi with|some v=>nX v|none=>some len),(match lo with|some v=>nX v|none=>some 0)with
  |some h,some l=>
   bif Nat.ble h (bif ex then cap else len)&&Nat.ble l h then some (.bK id (off+l*sz) (h-l) (PJ ex lo cap l) sz ex)else none
  |_,_=>none
 |some m=>
  match nX m,(match hi with|some v=>nX v|none=>none),(match lo with|some v=>nX v|none=>some 0)with
  |some m,some h,some l=>
   bif Nat.ble m (bif ex then cap else len)&&Nat.ble h m&&Nat.ble l h then some (.bK id (off+l*sz) (h-l) (m-l) sz true)else none
  |_,_,_=>none
def SB(cs:LV)(len sz:Nat)(lo hi mx:Option AV):Option AV:=
 match mx with
 |none=>
  match(match hi with|some v=>nX v|none=>some len),(match lo with|some v=>nX v|none=>some 0)with
  |some h,some l=>bif Nat.ble h len&&Nat.ble l h then some (.aq ((cs.drop (l*sz)).take ((h-l)*sz)) (h-l) sz)else none
  |_,_=>none
 |some m=>
  match nX m,(match hi with|some v=>nX v|none=>none),lo with
  |some m,some h,none=>bif Nat.beq m h&&Nat.ble h len then some (.xG (cs.take (h*sz)) h sz)else none
  |_,_,_=>none
def qx(O:Operand->Option AV):Option Operand->Option (Option AV)
 |none=>some none
 |some x=>(O x).map some
def LM(mx:Bool):AV->LV->Option AV
 |a,[]=>some a
 |.bD k x,.bD _ y::l=>LM mx (.bD k (bif mx then(if y>x then y else x)else(if y<x then y else x))) l
 |_,_=>none
section aD8
variable(P:Program)(O:Operand->Option AV)(H:AH)
def OM(g:Nat->AV)(cs:LV)(elem:TypeId):Option (aO×(Nat->AV)):=
 bif cs.all AV.dH then some (.ah cs elem,g)else none
def acb(id:Nat):AV:=.aa id 0
def KV(len cap sz id:Nat):AV:=.bK id 0 len cap sz true
def aeR(c a b:Operand):Option AV:=
 match O c with
 |some (.ai t)=>bif t then O a else O b
 |_=>none
def aeK(e:TypeId):Option (aO×(Nat->AV)):=
 match kA P e with
 |some z=>OM acb z.dO e
 |none=>none
def aeL(e:TypeId)(x:Operand):Option (aO×(Nat->AV)):=
 match O x with
 |some v=>OM acb v.dO e
 |none=>none
def acm(z:AV)(gz:Array Field)(ps:List (Nat×AV)):Option AV:=
 match ar5 P gz with
 |some pl=>(Dd (pl[·]?) z.dO ps).map .aj
 |none=>none
def ack(z:AV)(elem:TypeId)(ps:List (Nat×AV)):Option AV:=
 match cy P elem with
 |some s=>(Dd (λi=>some (i*s,s)) z.dO ps).map .aj
 |none=>none
def aeM(t:TypeId)(pb:Array (Nat×Operand)):Option AV:=
 match kA P t,P.underlying t,KS O pb.toList with
 |some z,some (.struct gz),some ps=>acm P z gz ps
 |some z,some (.array _ elem),some ps=>ack P z elem ps
 |_,_,_=>none
def acn(elem:TypeId)(len:Nat)(ps:List (Nat×AV))(s:Nat)(z:AV):Option (aO×(Nat->AV)):=
 bif Nat.ble (len*s) 4194304&&Nat.beq z.dO.length s then
  match Dd (λi=>some (i*s,s)) (lA z.dO len) ps with
  |some cs=>OM (KV len len s) cs elem
  |none=>none
 else none
def aeN(t:TypeId)(len:Nat)(pb:Array (Nat×Operand)):Option (aO×(Nat->AV)):=
 match P.underlying t,KS O pb.toList with
 |some (.slice elem),some ps=>match cy P elem,kA P elem with
  |some s,some z=>acn elem len ps s z
  |_,_=>none
 |_,_=>none
def XQ(t:TypeId)(a:Operand):Option AV:=
 match O a with
 |some (.aa id off)=>vJ P H t id off
 |some (.qI cs)=>fi P t cs 0
 |some (.ei n off)=>tJ P H t n off
 |_=>none
def ap6(x:Operand):Option AV:=
 match O x with
 |some (.aa id off)=>some (.aa id off)
 |some (.qI cs)=>some (.qI cs)
 |some (.ei n off)=>some (.ei n off)
 |some (.cw (.func f) l c)=>some (.cw (.func f) l c)
 |some (.ep t v)=>some (.ep t v)
 |_=>none
def Rn(op:BinOp)(t:TypeId)(x y:Operand):Option AV:=
 match O x,O y with
 |some a,some b=>KZ P op t x y a b
 |_,_=>none
def lUn(op:UnOp)(x:Operand):Option AV:=
 match O x with
 |some a=>(ZR a).bind λv=>(DO P (Op.unary op v)).bind YD
 |none=>none
def apZ(nA dst:TypeId)(x:Operand):Option AV:=
 match P.underlying nA,P.underlying dst,O x with
 |some (.int _),some (.int k),some (.bD _ n)=>some (.bD k (k.wrap n))
 |some .string,some .string,some (.ao s)=>some (.ao s)
 |_,_,_=>none
def ap5(t:TypeId)(x:Operand):Option AV:=
 match P.underlying t,O x with
 |some (.interface _),_=>none
 |some _,some v=>some (.ep t v)
 |_,_=>none
def ap4(fn:Fn)(first mw:Array Operand):Option AV:=
 match x_ O first.toList,x_ O mw.toList with
 |some f,some c=>bif yJ fn then none else some (.cw fn f c)
 |_,_=>none
def aeQ(t:TypeId)(r:Option Operand):Option (aO×(Nat->AV)):=
 match P.underlying t,qx O r with
 |some (.map k e),some none|some (.map k e),some (some (.bD _ _))=>some (.bI [] 0 (asi P k&&asi P e),.aS)
 |_,_=>none
def agv(z:LV)(c:Nat)(elem:TypeId):aO:=.dE (lA z c) elem
def afi(elem:TypeId)(l c:Nat)(s:Nat)(z:AV)(gE:Nat):Option (aO×(Nat->AV)):=
 bif Nat.ble l c&&Nat.ble c 4194304&&Nat.ble gE 4194304&&Nat.ble s 4194304&&Nat.beq z.dO.length s&&z.dO.all AV.dH&&z.dO.all f_ then
  some (agv z.dO c elem,KV l c s)
 else none
def aqR(elem:TypeId)(l c:Nat)(s:Nat)(z:AV)(gE:Nat):Option (aO×(Nat->AV)):=
 bif Nat.ble l c&&Nat.ble c 4194304&&Nat.ble gE 4194304&&Nat.ble s 4194304&&Nat.beq z.dO.length s&&z.dO.all AV.dH then
  some (.ah (lA z.dO c) elem,KV l c s)
 else none
def XR(t:TypeId)(len cap:Operand):Option (aO×(Nat->AV)):=
 match P.underlying t,O len,O cap with
 |some (.slice elem),some (.bD .i64 (.ofNat l)),some (.bD .i64 (.ofNat c))=>match cy P elem,kA P elem,wC P elem with
  |some s,some z,some gE=>bif vF cap then aqR elem l c s z gE else afi elem l c s z gE
  |_,_,_=>none
 |_,_,_=>none
def G0:Option AV->Bool
 |none=>true
 |some v=>(nX v).any (Nat.beq 0)
def DK(t:TypeId)(x:Operand)(lo hi mx:Option Operand):Option AV:=
 match qx O lo,qx O hi,qx O mx with
 |some l,some h,some m=>match P.underlying t,O x with
  |some .string,some (.ao s)=>bif m.isNone then Zl s l h else none
  |some (.slice elem),some (.bK id off len cap sz ex)=>bif (cy P elem).any (Nat.beq sz)then Jz id off len cap sz ex l h m else none
  |some (.slice elem),some (.aq cs len sz)=>bif (cy P elem).any (Nat.beq sz)then SB cs len sz l h m else none
  |some (.slice elem),some (.ad id len sz)=>bif (cy P elem).any (Nat.beq sz)&&Nat.ble 1 len&&m.isNone then Jz id 0 len 1 sz false l h none else none
  |some (.slice elem),some (.gV _ _ _)=>bif G0 l&&G0 h&&G0 m&&m.isSome&&h.isSome&&(cy P elem).isSome then some .tb else none
  |some (.slice elem),some .aM=>bif G0 l&&G0 h&&G0 m&&(m.isNone||h.isSome)&&(cy P elem).isSome then some .aM else none
  |some (.array n elem),some (.aa id off)=>match cy P elem,H.rU id with
   |some sz,some vs=>bif Nat.ble (off+n*sz) vs.length then Jz id off n n sz true l h m else none
   |_,_=>none
  |_,_=>none
 |_,_,_=>none
def anp(id off:Nat)(gz:Array Field)(f:Nat):Option AV:=
 match gz[f]? with
 |some fd=>match cy P fd.type with
  |some (_+1)=>some (.aa id (off+fd.offset))
  |_=>none
 |none=>none
def anq(cs:LV)(gz:Array Field)(f:Nat):Option AV:=
 match gz[f]? with
 |some fd=>match cy P fd.type with
  |some (_+1)=>bif Nat.ble fd.offset cs.length then some (.qI (cs.drop fd.offset))else none
  |_=>none
 |none=>none
def anr(n off:Nat)(gz:Array Field)(f:Nat):Option AV:=
 match gz[f]? with
 |some fd=>match cy P fd.type with
  |some (_+1)=>some (.ei n (off+fd.offset))
  |_=>none
 |none=>none
def ap3(s:TypeId)(x:Operand)(f:Nat):Option AV:=
 match P.underlying s,O x with
 |some (.struct gz),some (.aa id off)=>anp P id off gz f
 |some (.struct gz),some (.qI cs)=>anq P cs gz f
 |some (.struct gz),some (.ei n off)=>anr P n off gz f
 |_,_=>none
def ano(cs:LV)(gz:Array Field)(f:Nat):Option AV:=
 match gz[f]? with
 |some fd=>fi P fd.type cs fd.offset
 |none=>none
def ap2(t:TypeId)(x:Operand)(f:Nat):Option AV:=
 match P.underlying t,O x with
 |some (.struct gz),some (.aj cs)=>ano P cs gz f
 |_,_=>none
def E'(id off n:Nat)(elem:TypeId)(i:Nat):Option AV:=
 match cy P elem with
 |some s=>bif Nat.ble (i+1) n then some (.aa id (off+i*s))else none
 |none=>none
def VB(cs:LV)(len sz:Nat)(elem:TypeId)(i:Nat):Option AV:=
 match cy P elem with
 |some s=>bif Nat.beq s sz&&Nat.ble (i+1) len then some (.qI ((cs.drop (i*s)).take s))else none
 |none=>none
def Ro(t:TypeId)(x i:Operand):Option AV:=
 match P.underlying t,O x,O i with
 |some (.array n elem),some (.aa id off),some (.bD _ (.ofNat i))=>E' P id off n elem i
 |some (.slice elem),some (.bK id off len _ _ _),some (.bD _ (.ofNat i))=>E' P id off len elem i
 |some (.slice elem),some (.aq cs len sz),some (.bD _ (.ofNat i))=>VB P cs len sz elem i
 |some (.slice elem),some (.ad id len sz),some (.bD _ (.ofNat i))=>bif (cy P elem).any (Nat.beq sz)then E' P id 0 len elem i else none
 |_,_,_=>none
def acU(cs:LV)(n:Nat)(elem:TypeId)(i:Nat):Option AV:=
 match cy P elem with
 |some s=>bif Nat.ble (i+1) n then fi P elem cs (i*s)else none
 |none=>none
def acr(s:LN)(i:Nat):Option AV:=
 match s[i]? with
 |some b=>some (.bD .u8 (.ofNat b))
 |none=>none
def XP(t:TypeId)(x i:Operand):Option AV:=
 match P.underlying t,O x,O i with
 |some (.array n elem),some (.aj cs),some (.bD _ (.ofNat i))=>acU P cs n elem i
 |some .string,some (.ao s),some (.bD _ (.ofNat i))=>acr s i
 |_,_,_=>none
def Ff(m:AV):Option (List (AV×AV×Nat)):=
 match m with
 |.oz=>some []
 |.aS id=>match H.aR id with
  |some (.bI es _ _)=>some es
  |_=>none
 |_=>none
def n5(ok:Bool)(v:AV)(b:Bool):AV:=bif ok then .aL [v,.ai b]else v
def Rt(kt elem:TypeId)(m key:AV)(ok:Bool):Option AV:=
 bif uI P kt key then
  match Ff H m with
  |some es=>match pD (iP P 100 kt) key es 0 with
   |some (some (_,v,_))=>some (n5 ok v true)
   |some none=>(kA P elem).map (n5 ok · false)
   |none=>none
  |none=>none
 else none
def Jg(s:Nat):AV->AV
 |.aM=>.gV 0 0 s
 |v=>v
def mc(elem:TypeId)(ok:Bool)(v:AV):AV:=
 match H.x with
 |none=>v
 |some _=>match P.underlying elem with
  |some (.slice e)=>match cy P e with
   |some s=>bif ok then(match v with|.aL [a,b]=>.aL [Jg s a,b]|v=>v)else Jg s v
   |none=>v
  |_=>v
def Rp(t:TypeId)(x k:Operand)(ok:Bool):Option AV:=
 match P.underlying t,O x,O k with
 |some (.map kt elem),some m,some key=>(Rt P H kt elem m key ok).map (mc P H elem ok)
 |_,_,_=>none
def ab9(sb:TypeId)(ok:Bool)(x:AV):Option AV:=
 match x with
 |.ep t v=>
  bif Nat.beq t sb then some (n5 ok v true)
  else bif ok then(kA P sb).map (n5 true · false)else none
 |.ml=>bif ok then(kA P sb).map (n5 true · false)else none
 |_=>none
def ap7(x:Operand)(sb:TypeId)(ok:Bool):Option AV:=
 match P.underlying sb,O x with
 |some (.interface _),_=>none
 |some _,some v=>ab9 P sb ok v
 |_,_=>none
def ap1(x:Operand)(i:Nat):Option AV:=
 match O x with
 |some (.aL vs)=>vs[i]?
 |_=>none
def zS:TypeDesc->AV->Bool
 |.string,.ao _|.slice _,.bK .. |.slice _,.aq .. |.slice _,.ad .. |.slice _,.gV .. |.slice _,.tb|.slice _,.aM|.map _ _,.aS _|.map _ _,.oz=>true
 |_,_=>false
def aeP(argTypes:Array TypeId)(x:AV):Option AV:=
 match argTypes[0]?.bind P.underlying with
 |some (.array n _)=>some (yl n)
 |some d=>bif zS d x then(I4 H x).map yl else none
 |none=>none
def apY(argTypes:Array TypeId)(x:AV):Option AV:=
 match argTypes[0]?.bind P.underlying,x with
 |some (.slice _),.bK _ _ _ c _ true=>some (yl c)
 |some (.slice _),.aM=>some (yl 0)
 |_,_=>none
def XO(b:Builtin)(args:LV)(argTypes:Array TypeId):Option AV:=
 match b,args with
 |.len,[x]=>aeP P H argTypes x
 |.cap,[x]=>apY P argTypes x
 |.max,a::l=>LM true a l
 |.min,a::l=>LM false a l
 |_,_=>none
def aeO(b:Builtin)(args:Array Operand)(argTypes:Array TypeId):Option AV:=
 match x_ O args.toList with
 |some l=>XO P H b l argTypes
 |none=>none
def gh:Op->Option AV
 |.move x=>O x
 |.assign x=>O x
 |.pick c a b=>aeR O c a b
 |.build t pb=>aeM P O t pb
 |.load t a=>XQ P O H t a
 |.nilCheck x=>ap6 O x
 |.binOp op t x y _=>Rn P O op t x y
 |.unOp op _ x=>lUn P O op x
 |.convert nA dst x=>apZ P O nA dst x
 |.makeInterface t x=>ap5 P O t x
 |.makeFunc fn first mw=>ap4 O fn first mw
 |.slice t x lo hi mx=>DK P O H t x lo hi mx
 |.fieldAddr s x f=>ap3 P O s x f
 |.field t x f=>ap2 P O t x f
 |.indexAddr t x i=>Ro P O t x i
 |.index t x i=>XP P O t x i
 |.lookup t x k ok=>Rp P O H t x k ok
 |.typeAssert x _ sb ok=>ap7 P O x sb ok
 |.extract x i=>ap1 O x i
 |.call {callee:=.builtin b,args,argTypes}=>aeO P O H b args argTypes
 |_=>none
def sD:Op->Option (aO×(Nat->AV))
 |.alloc e=>aeK P e
 |.box e x=>aeL O e x
 |.buildSlice t len pb=>aeN P O t len pb
 |.makeMap t r=>aeQ P O t r
 |.makeSlice t len cap=>XR P O t len cap
 |_=>none
end aD8
def qp:Op->Bool
 |.move _|.assign _|.pick .. |.build .. |.load .. |.nilCheck _|.binOp .. |.unOp .. |.convert ..
 |.makeInterface .. |.makeFunc .. |.slice .. |.fieldAddr .. |.field .. |.indexAddr .. |.index .. |.lookup ..
 |.typeAssert .. |.extract .. =>true
 |.call {callee:=.builtin b,..}=>match b with
  |.len|.cap|.min|.max=>true
  |_=>false
 |_=>false
def uD:Op->Bool
 |.alloc _|.box .. |.buildSlice .. |.makeMap .. |.makeSlice .. =>true
 |_=>false
def tG(o:Op):Bool:=qp o||uD o
inductive jf where
 |gQ (v:AV) (H:AH)
 |rW (f:FuncId) (args:LV)
 |xR (l:Nat) (args:LV)
 |zh (d:qT)
 |xQ (v:AV)
 |zi
def SJ(P:Program)(H:AH)(t:TypeId)(n off:Nat)(v:AV):Option AH:=
 match H.gO n,cy P t with
 |some (.ah vs e),some s=>
  bif Nat.beq v.dO.length s&&v.dO.all AV.dH&&v.dO.all f_ then
   (Aa vs off v.dO).map λeA=>H.oH n (some (.ah eA e))
  else none
 |_,_=>none
def Nu(P:Program)(H:AH)(t:TypeId)(id off:Nat)(v:AV):Option AH:=
 match H.aR id,cy P t with
 |some (.ah vs e),some s=>
  bif Nat.beq v.dO.length s&&v.dO.all AV.dH then
   (Aa vs off v.dO).map λeA=>H.cE id (.ah eA e)
  else none
 |some (.dE vs e),some s=>
  bif Nat.beq v.dO.length s&&v.dO.all AV.dH&&v.dO.all f_ then
   (Aa vs off v.dO).map λeA=>H.cE id (.dE eA e)
  else none
 |some (.au vs e),some s=>
  bif Nat.beq v.dO.length s&&v.dO.all AV.dH&&v.dO.all f_ then
   (Aa vs off v.dO).map λeA=>H.cE id (.au eA e)
  else none
 |_,_=>none
def qF(es:List (AV×AV×Nat))(i:Nat)(f:AV×AV×Nat->AV×AV×Nat):List (AV×AV×Nat):=
 match es,i with
 |[],_=>[]
 |e::es,0=>f e::es
 |e::es,i+1=>e::qF es i f
def C'(es:List (AV×AV×Nat))(i:Nat):List (AV×AV×Nat):=
 match es,i with
 |[],_=>[]
 |_::es,0=>es
 |e::es,i+1=>e::C' es i
def Lz:AV->AV->Bool
 |.bD j a,.bD k b=>decide (j=k)&&decide (a=b)
 |.ao a,.ao b=>bO a b
 |.ai a,.ai b=>a==b
 |_,_=>false
def Ie:LV->LV->Bool
 |[],[]=>true
 |a::l,b::m=>Lz a b&&Ie l m
 |_,_=>false
def Ly:AV->AV->Bool
 |.aj a,.aj b=>Ie a b
 |a,b=>Lz a b
def Aj(es:List (AV×AV×Nat))(i:Nat)(k:AV):Bool:=
 match es[i]? with
 |some (x,_,_)=>Ly x k
 |none=>false
def yi(p:Bool)(k v:AV):Bool:=bif p then f_ k&&f_ v else true
def MT(P:Program)(H:AH)(t:TypeId)(m k v:AV):Option AH:=
 match P.underlying t,m with
 |some (.map kt _),.aS id=>match H.aR id with
  |some (.bI es clock p)=>
   bif uI P kt k&&yi p k v then
    match pD (iP P 100 kt) k es 0 with
    |some (some (i,_,_))=>bif Aj es i k then some (H.cE id (.bI (qF es i λe=>(k,v,e.2.2)) clock p))else none
    |some none=>some (H.cE id (.bI (es++[(k,v,clock)]) (clock+1) p))
    |none=>none
   else none
  |_=>none
 |_,_=>none
def zt(H:AH)(sz:Nat):AV->Option (Nat×LV)
 |.aM=>some (0,[])
 |.tb=>some (0,[])
 |.gV id len s=>bif Nat.beq s sz then
   match len with
   |0=>some (0,[])
   |_+1=>match H.gO id with
    |some (.au vs _)=>bif Nat.beq vs.length (len*sz)then some (len,vs)else none
    |_=>none
  else none
 |.bK id off len _ s _=>bif Nat.beq s sz then
   match H.rU id with
   |some vs=>(qD vs off (len*sz)).map (len,·)
   |none=>none
  else none
 |.ao s=>bif Nat.beq sz 1 then some (s.length,s.map λb=>.bD .u8 (.ofNat b))else none
 |.aq cs len s=>bif Nat.beq s sz then some (len,cs)else none
 |.ad id len s=>bif Nat.beq s sz then
   match H.aR id with
   |some (.au vs _)=>bif Nat.beq vs.length (len*sz)then some (len,vs)else none
   |_=>none
  else none
 |_=>none
def JK(P:Program)(H:AH)(argTypes:Array TypeId)(elem:TypeId)(sz:Nat)(x:AV):Option (Nat×LV):=
 match argTypes[1]?.bind P.underlying with
 |some (.int _)=>match x,kA P elem with
  |.bD .i64 (.ofNat n),some z=>bif Nat.ble n 4194304&&Nat.beq z.dO.length sz then some (n,lA z.dO n)else none
  |_,_=>none
 |some _=>zt H sz x
 |none=>none
def Ip(H:AH)(elem:TypeId)(id off len cap sz n:Nat)(ex:Bool)(l:LV):Option (AV×AH):=
 match H.aR id with
 |some (.ah vs _)=>match qD vs off (len*sz)with
  |some old=>
   bif (old++l).all AV.dH then
    some (.bK H.br 0 (len+n) 1 sz false,AH.eH (bif ex&&Nat.ble (cap+1) (len+n)then H else H.cE id (.bg [])) (.ah (old++l) elem))
   else none
  |none=>none
 |some (.dE vs _)=>match qD vs off (len*sz)with
  |some old=>
   bif l.all AV.dH&&l.all f_ then
    some (.bK H.br 0 (len+n) 1 sz false,AH.eH (bif ex&&Nat.ble (cap+1) (len+n)then H else H.cE id (.bg [])) (.dE (old++l) elem))
   else none
  |none=>none
 |some (.au vs _)=>match qD vs off (len*sz)with
  |some old=>
   bif l.all AV.dH&&l.all f_ then
    some (.bK H.br 0 (len+n) 1 sz false,AH.eH (bif ex&&Nat.ble (cap+1) (len+n)then H else H.cE id (.bg [])) (.au (old++l) elem))
   else none
  |none=>none
 |_=>none
def yo(H:AH)(elem:TypeId)(id len sz n:Nat)(l:LV):Option (AV×AH):=
 match H.aR id with
 |some (.au vs _)=>bif Nat.beq vs.length (len*sz)&&l.all AV.dH&&l.all f_ then some (.ad H.br (len+n) sz,AH.eH (H.cE id (.bg [])) (.au (vs++l) elem))else none
 |_=>none
def Xy(H:AH)(n:Nat):Option (Nat×AH):=
 match H.gO n with
 |some (.au vs el)=>some (H.br,AH.eH (H.oH n none) (.au vs el))
 |_=>none
def V3(H:AH)(id:Nat):Option (Nat×AH):=
 match H.aR id with
 |some (.au vs el)=>AH.S6 (H.cE id (.bg [])) (.au vs el)
 |some (.ah vs el)=>bif vs.all f_ then AH.S6 (H.cE id (.bg [])) (.ah vs el)else none
 |_=>none
def Jl(sz:Nat)(r:Option (AV×AH)):Option (AV×AH):=
 match r with
 |some (.ad id len _,H)=>(V3 H id).map λp=>(.gV p.1 len sz,p.2)
 |_=>none
def LZ(H:AH)(elem:TypeId)(id len sz n:Nat)(l:LV):Option (AV×AH):=
 match len with
 |0=>Jl sz (yo (H.eH (.au [] elem)) elem H.br 0 sz n l)
 |len+1=>match Xy H id with
  |some (i,H0)=>Jl sz (yo H0 elem i (len+1) sz n l)
  |none=>none
def mM(H:AH)(elem:TypeId)(sz:Nat)(s:AV)(n:Nat)(l:LV):Option (AV×AH):=
 match s with
 |.xG cs len gk=>bif Nat.beq sz gk&&Nat.ble (len+n) 4194304&&l.all f_ then some (.aq (cs++l) (len+n) sz,H)else none
 |.tb=>match n with
  |0=>some (.tb,H)
  |_+1=>bif Nat.ble n 4194304&&l.all AV.dH then some (.bK H.br 0 n 1 sz false,AH.eH H (.ah l elem))else none
 |.gV id len gk=>bif Nat.beq sz gk&&Nat.ble (len+n) 4194304 then
   match n with
   |0=>some (.gV id len gk,H)
   |_+1=>LZ H elem id len sz n l
  else none
 |.aM=>match n with
  |0=>some (.aM,H)
  |_+1=>bif Nat.ble n 4194304&&l.all AV.dH then some (.bK H.br 0 n 1 sz false,AH.eH H (.ah l elem))else none
 |.bK id off len cap gk ex=>bif Nat.beq sz gk&&Nat.ble (len+n) 4194304 then
   match n with
   |0=>some (.bK id off len cap gk ex,H)
   |_+1=>Ip H elem id off len cap sz n ex l
  else none
 |.ad id len gk=>bif Nat.beq sz gk&&Nat.ble (len+n) 4194304 then
   match n with
   |0=>some (.ad id len gk,H)
   |_+1=>yo H elem id len sz n l
  else none
 |_=>none
def Rl:AV->Bool
 |.aq .. |.ad .. |.gV .. |.bD .. =>true
 |_=>false
def zB(v:AV)(H:AH):AH:=
 match v with
 |.bK id _ _ _ _ _=>match H.aR id with
  |some (.ah vs e)=>bif vs.all f_ then H.cE id (.au vs e)else H
  |_=>H
 |_=>H
def KT(P:Program)(H:AH)(argTypes:Array TypeId)(s x:AV):Option (AV×AH):=
 match argTypes[0]?.bind P.underlying with
 |some (.slice elem)=>match cy P elem,wC P elem with
  |some sz,some gE=>
   bif Nat.ble gE 4194304&&(kA P elem).any (λz=>Nat.beq z.dO.length sz)then
    match JK P H argTypes elem sz x with
    |some (n,l)=>match mM H elem sz s n l with
     |some (v,H')=>some (v,bif Rl x&& !Nat.beq n 0 then zB v H' else H')
     |none=>none
    |none=>none
   else none
  |_,_=>none
 |_=>none
def AW(P:Program)(f:AV)(args:LV):Option jf:=
 match f with
 |.cw (.func g) first mw=>match P.funcs[g]? with
  |some fn=>bif fn.body.isSome&& !(fn.name== "runtime.NumGoroutine")then some (.rW g (first++args++mw))else none
  |none=>none
 |.ib l=>some (.xR l args)
 |_=>none
def asz(P:Program)(H:AH)(t:TypeId)(v:AV)(m:Method):Option (FuncId×AV):=
 match m.func,P.underlying t with
 |some (f,true),some (.pointer _)=>bif m.path.isEmpty then some (f,v)else none
 |some (f,false),some (.pointer el)=>bif m.path.isEmpty then(match v with
   |.aa id off=>match vJ P H el id off with|some v2=>some (f,v2)|none=>none
   |_=>none)else none
 |some (f,false),some _=>bif m.path.isEmpty then some (f,v)else none
 |_,_=>none
def afo(P:Program)(H:AH)(t:TypeId)(v:AV)(name:String):Option (FuncId×AV):=
 match P.info? t with
 |some i=>match i.methods.find? (·.name==name)with
  |some m=>asz P H t v m
  |none=>none
 |none=>none
section aCp
variable(P:Program)(O:Operand->Option AV)(H:AH)
def tV(v:AV):Option AH->Option jf
 |some H=>some (.gQ v H)
 |none=>none
def L_(t:TypeId)(a x:Operand):Option jf:=
 match O a,O x with
 |some (.aa id off),some v=>tV .mK (Nu P H t id off v)
 |some (.ei n off),some v=>tV .mK (SJ P H t n off v)
 |_,_=>none
def L8(t:TypeId)(m k x:Operand):Option jf:=
 match O m,O k,O x with
 |some m,some k,some v=>tV .mK (MT P H t m k v)
 |_,_,_=>none
def VV(kt elem:TypeId)(id:Nat)(key:AV):Option jf:=
 match H.aR id with
 |some (.bI es clock p)=>
  bif uI P kt key then
   match pD (iP P 100 kt) key es 0 with
   |some (some (i,v,b))=>bif Aj es i key&&yi p key .kZ then some (.gQ (.aL [mc P H elem false v,yl b]) (H.cE id (.bI (qF es i λe=>(key,e.2)) clock p)))else none
   |some none=>match kA P elem with
    |some z=>bif yi p key z then some (.gQ (.aL [mc P H elem false z,yl clock]) (H.cE id (.bI (es++[(key,z,clock)]) (clock+1) p)))else none
    |none=>none
   |none=>none
  else none
 |_=>none
def QB(t:TypeId)(m k:Operand):Option jf:=
 match P.underlying t,O m,O k with
 |some (.map kt elem),some (.aS id),some key=>VV P H kt elem id key
 |_,_,_=>none
def VX(id born:Nat)(v:AV):Option jf:=
 match H.aR id with
 |some (.bI es clock p)=>match es.findIdx? (λe=>Nat.beq e.2.2 born)with
  |some i=>bif yi p .kZ v then some (.gQ .mK (H.cE id (.bI (qF es i λe=>(e.1,v,e.2.2)) clock p)))else none
  |none=>none
 |_=>none
def WH(m s x:Operand):Option jf:=
 match O m,O s,O x with
 |some (.aS id),some (.bD _ (.ofNat born)),some v=>VX H id born v
 |_,_,_=>none
def asq(m:Nat):Option jf:=
 match H.aR m with
 |some (.bI _ clock _)=>some (.gQ (.aa H.br 0) (H.eH (.iZ (some m) clock [] clock)))
 |_=>none
def WN(t:TypeId)(x:Operand):Option jf:=
 match P.underlying t,O x with
 |some .string,some (.ao s)=>some (.gQ (.aa H.br 0) (H.eH (.vZ s 0)))
 |some (.map _ _),some .oz=>some (.gQ (.aa H.br 0) (H.eH (.iZ none 0 [] 0)))
 |some (.map _ _),some (.aS m)=>asq H m
 |_,_=>none
def RZ(H:AH):Option jf:=some (.gQ (.aL [.ai false]) H)
def ara(r:Nat)(s:LN)(pos:Nat):Option jf:=
 match s[pos]? with
 |none=>RZ H
 |some b=>bif Nat.ble (b+1) 128 then some (.gQ (.aL [.ai true,yl pos,.bD .i32 (.ofNat b)]) (H.cE r (.vZ s (pos+1))))else none
def MY(r m since:Nat)(seen:LN)(last:Nat)(es:List (AV×AV×Nat))(clock:Nat):Option jf:=
 bif !seen.isEmpty&& !es.isEmpty&&es.all (λe=>Nat.ble last e.2.2)then none else
 match es.filter λe=> !seen.any (Nat.beq e.2.2)with
 |[]=>RZ H
 |[e]=>bif Nat.ble (e.2.2+1) since then
   some (.gQ (.aL [.ai true,e.1,e.2.1]) (H.cE r (.iZ (some m) since (seen++[e.2.2]) clock)))
  else none
 |_=>none
def afu(r:Nat)(zR:Bool):Option jf:=
 match H.aR r,zR with
 |some (.vZ s pos),true=>ara H r s pos
 |some (.iZ none _ _ _),false=>RZ H
 |some (.iZ (some m) since seen last),false=>match H.aR m with
  |some (.bI es clock _)=>MY H r m since seen last es clock
  |_=>none
 |_,_=>none
def L9(it:Operand)(zR:Bool):Option jf:=
 match O it with
 |some (.aa r 0)=>afu H r zR
 |_=>none
def VW(m GM:Nat)(seen:LN):Option jf:=
 match seen.getLast?,H.aR m with
 |some GJ,some (.bI es clock _)=>
  bif Nat.beq clock GM then
   match es.find? (λe=>Nat.beq e.2.2 GJ)with
   |some e=>some (.gQ (.aL [e.1,e.2.1]) H)
   |none=>none
  else none
 |_,_=>none
def Di(it:Operand):Option jf:=
 match O it with
 |some (.aa r 0)=>match H.aR r with
  |some (.iZ (some m) _ seen GM)=>VW H m GM seen
  |_=>none
 |_=>none
def YM:Option (AV×AH)->Option jf
 |some (v,H)=>some (.gQ v H)
 |none=>none
def Li(argTypes:Array TypeId)(id:Nat)(k:AV):Option jf:=
 match argTypes[0]?.bind P.underlying,H.aR id with
 |some (.map kt _),some (.bI es clock p)=>
  bif uI P kt k then
   match pD (iP P 100 kt) k es 0 with
   |some (some (i,_,_))=>some (.gQ .mK (H.cE id (.bI (C' es i) clock p)))
   |some none=>some (.gQ .mK H)
   |none=>none
  else none
 |_,_=>none
def L5(b:Builtin)(args:LV)(argTypes:Array TypeId):Option jf:=
 match b,args with
 |.append,[s,x]=>YM (KT P H argTypes s x)
 |.recover,[]=>some .zi
 |.delete,[.aS id,k]=>Li P H argTypes id k
 |_,_=>none
def adQ(f:Operand)(args:Array Operand):Option jf:=
 match O f,x_ O args.toList with
 |some g,some l=>AW P g l
 |_,_=>none
def WI(r:Operand)(name:String)(args:Array Operand):Option jf:=
 match O r,x_ O args.toList with
 |some (.ep t v),some l=>match afo P H t v name with
  |some (f,v)=>AW P (.cw (.func f) [] []) (v::l)
  |none=>none
 |_,_=>none
def adM(c:Call):Option jf:=
 match c.callee with
 |.value f=>adQ P O f c.args
 |.builtin b=>match x_ O c.args.toList with
  |some l=>L5 P H b l c.argTypes
  |none=>none
 |.invoke r name=>WI P O H r name c.args
def L6(c:Call):Option jf:=
 match c.callee with
 |.value f=>match O f,x_ O c.args.toList with
  |some (.cw fn first mw),some l=>bif yJ fn then none else some (.zh (.xN fn mw (first++l)))
  |_,_=>none
 |_=>none
def adN(x:Operand):Option jf:=
 match O x with
 |some (.ep t v)=>some (.xQ (.ep t v))
 |_=>none
def ot:Op->Option jf
 |.store t a x=>L_ P O H t a x
 |.mapUpdate t m k x=>L8 P O H t m k x
 |.insert t m k x=>L8 P O H t m k x
 |.mapEntry t m k=>QB P O H t m k
 |.entryStore _ m s x=>WH O H m s x
 |.range t x=>WN P O H t x
 |.next it zR=>L9 O H it zR
 |.entry it=>Di O H it
 |.call c=>adM P O H c
 |.defer c=>L6 O c
 |.panic x=>adN O x
 |_=>none
end aCp
inductive dQ where
 |gP (c:Code)
 |xO (id:Nat)
 |sY (body:Code)
 |wo (body:Code)
 |Hp (l:Nat)
 |Ez (l:Nat)
 |Cz
 |gW (ops:Array Oper) (i:Nat) (rest:List Oper)
abbrev Hw:=List (AV×Bool)
inductive qU where
 |gI
 |jR
 |mj (c:Hw)
structure gw where
 fn:Nat
 Cy:Tr AV
 nt:Nat
 Ke:List dQ
 TH:List qT
 nI:qU
 up:Option qU
 rT:Option Nat
inductive T8 where
 |gJ (v:AV)
 |dI (c:Hw)
def jX:AV->T8
 |.dI x=>.dI [(x,false)]
 |v=>.gJ v
structure mL where
 e:T8
 up:Option qU
 H:AH
def Ih(id:Nat):List dQ->Option (List dQ)
 |.xO ij::k=>if ij==id then some k else Ih id k
 |_::k=>Ih id k
 |[]=>none
def LY(l:Nat):List dQ->Option (List dQ)
 |.wo body::k=>
  match findLabel body l with
  |some rest=>some (.gP rest::.wo body::k)
  |none=>LY l k
 |_::k=>LY l k
 |[]=>none
def n_(ops:Array Oper)(o:Oper)(get:Tmp->Option AV):Option Bool:=
 match o.guard with
 |none=>some true
 |some (j,rO)=>match(ops[j]?).bind (·.dst)with
  |none=>none
  |some d=>match get d with
   |some (.ai b)=>some (b==rO)
   |some (.aL [])=>some false
   |_=>none
def Jb:List Oper->LN->Option LN
 |[],ef=>some ef
 |o::l,ef=>
  let m:=o.after.toList.foldl (λs e=>match s with
   |none=>none
   |some s=>bif Region.binds .any e then(match ef[e.on]? with
     |some n=>some (Nat.lor (Nat.lor s (Nat.pow 2 e.on)) n)
     |none=>none)else some s) (some 0)
  match m with
  |none=>none
  |some m=>Jb l (ef++[m])
def rn(m i:Nat):Bool:=Nat.beq (Nat.land (Nat.shiftRight m i) 1) 1
def KU(ops:Array Oper)(ms:LN):Nat->Nat->LN->Option LN
 |0,_,left=>bif left.isEmpty then some []else none
 |f+1,yn,left=>
  let ready (i:Nat):Bool:=match ms[i]? with|some m=>Nat.beq (Nat.lor m yn) yn|none=>false
  let pick:=match left.find? (λi=>ready i&&((ops[i]?).any (tG ·.op)))with
   |some i=>some i
   |none=>left.find? ready
  match pick with
  |none=>bif left.isEmpty then some []else none
  |some i=>(KU ops ms f (Nat.lor yn (Nat.pow 2 i)) (left.filter λj=> !Nat.beq i j)).map (i:: ·)
def Lk(ops:Array Oper):List Tmp:=ops.toList.filterMap (·.dst)
def zX:LN->Bool
 |[]=>true
 |a::l=> !l.any (Nat.beq a)&&zX l
def zY(ops:Array Oper)(ms:LN)(last:Option Nat):LN->Bool
 |[]=>true
 |i::l=>
  (match last with|none=>true|some e=>(ms[i]?).any (rn · e))&&
  zY ops ms (bif (ops[i]?).any (tG ·.op)then last else some i) l
def SU(o:Oper):List Tmp:=o.op.operands.toList.filterMap λ|.tmp t=>some t|_=>none
def afK(ops:Array Oper)(ms:LN):Bool:=
 let l:=ops.toList.zipIdx
 zX (Lk ops)&&
 l.all λ(o,i)=>l.all λ(o',j)=>match o'.dst with
  |none=>true
  |some d=>Nat.beq i j|| !((SU o++o.dst.toList).any (Nat.beq d))||(ms[i]?).any (rn · j)||(ms[j]?).any (rn · i)
def RT(ms:LN):List (Oper×Nat)->Bool
 |[]=>true
 |(o,i)::l=>(match o.guard with|none=>true|some (j,_)=>(ms[i]?).any (rn · j))&&RT ms l
structure aw2 where
 ms:LN
 Hu:LN
def Nd(ops:Array Oper):Option aw2:=
 match Jb ops.toList []with
 |none=>none
 |some ms=>match KU ops ms ops.size 0 (List.range ops.size)with
  |none=>none
  |some l=>bif zY ops ms none l&&afK ops ms&&RT ms ops.toList.zipIdx then some ⟨ms,l⟩else none
def XE:Op->Bool
 |.move _|.assign _|.pick .. |.build .. |.nilCheck _|.binOp .. |.unOp .. |.convert .. |.makeInterface .. |.makeFunc .. |.fieldAddr .. |.field .. |.indexAddr .. |.index .. |.typeAssert .. |.extract .. =>true
 |_=>false
def UR(ops:Array Oper)(ms:LN)(done:LN)(i:Nat):LN:=
 done.filter λj=>((ops[j]?).any (λo=>qp o.op&& !XE o.op))&& !((ms[i]?).any (rn · j))
def aeS(ops:Array Oper)(ms:LN)(i:Nat)(t:Tmp):Bool:=
 ops.toList.zipIdx.any λ(o,j)=>(match o.dst with|some d=>Nat.beq d t|none=>false)&& !((ms[i]?).any (rn · j))
def zv(ops:Array Oper)(ms:LN)(base cur:Tr AV)(i:Nat):Tmp->Option AV:=λt=>
 bif aeS ops ms i t then base.bL t else cur.bL t
def KW(get:Tmp->Option AV):Operand->Option AV
 |.tmp t=>get t
 |.const v=>ON v
 |.global g=>some (.yk g)
 |.func f=>some (.cw (.func f) [] [])
mutual
def om:AV->AV->Bool
 |.ai a,.ai b=>a==b
 |.bD j a,.bD k b=>j==k&&a==b
 |.ao a,.ao b=>bO a b
 |.aa a b,.aa c d=>Nat.beq a c&&Nat.beq b d
 |.kZ,.kZ=>true
 |.bK a b c d e f,.bK a' b' c' d' e' f'=>Nat.beq a a'&&Nat.beq b b'&&Nat.beq c c'&&Nat.beq d d'&&Nat.beq e e'&&f==f'
 |.aM,.aM=>true
 |.aS a,.aS b=>Nat.beq a b
 |.oz,.oz=>true
 |.cw f a b,.cw g c d=>decide (f=g)&&CU a c&&CU b d
 |.ib a,.ib b=>Nat.beq a b
 |.rV,.rV=>true
 |.ep t v,.ep u w=>Nat.beq t u&&om v w
 |.ml,.ml=>true
 |.aj a,.aj b=>CU a b
 |.aL a,.aL b=>CU a b
 |.yk a,.yk b=>Nat.beq a b
 |_,_=>false
def CU:LV->LV->Bool
 |[],[]=>true
 |a::l,b::m=>om a b&&CU l m
 |_,_=>false
end
def Ze(v x:AV):Bool:=or (om v x) (@decide (v=x) (Classical.propDecidable _))
def JC(P:Program)(ops:Array Oper)(ms:LN)(base cur:Tr AV)(H:AH):LN->Bool
 |[]=>true
 |j::l=>
  (match ops[j]? with
   |none=>false
   |some o=>match n_ ops o cur.bL with
    |none=>false
    |some false=>true
    |some true=>match gh P (KW (zv ops ms base cur j)) H o.op,o.dst with
     |some v,some d=>(cur.bL d).any (Ze v)
     |some _,none=>true
     |none,_=>false)&&
  JC P ops ms base cur H l
inductive kF where
 |go (fr:gw) (H:AH)
 |CC (r:mL)
 |eO (why:String)
def Ae(m:qU)(c:Hw):qU:=
 match m with
 |.mj old=>.mj (c++old)
 |_=>.mj c
def ats(m:qU):qU:=
 match m with
 |.mj ((_,true)::_)=>.jR
 |m=>m
def pZ(nt:Nat)(tmps:Tr AV)(dst:Option Tmp)(v:AV):Option (Tr AV):=
 match dst with
 |none=>some tmps
 |some d=>bif Nat.ble (d+1) nt then some (tmps.fB d v)else none
def P8(P:Program)(f:FuncId)(args:LV)(up:Option qU):Option gw:=
 match P.funcs[f]? with
 |some fn=>match fn.body with
  |some c=>bif Nat.ble args.length fn.ntmps then
    some {fn:=f,Cy:=Tr.Gf args 0 .iq,nt:=fn.ntmps,Ke:=[.gP c],TH:=[],nI:=.gI,up,rT:=none}
   else none
  |none=>none
 |none=>none
def uO(P:Program)(H:AH)(tmps:Tr AV):List ResultVar->Option LV
 |[]=>some []
 |.tmp t::l=>match tmps.bL t with
  |some v=>(uO P H tmps l).map (v:: ·)
  |none=>none
 |.cell a t::l=>match tmps.bL a with
  |some (.aa id off)=>match vJ P H t id off with
   |some v=>(uO P H tmps l).map (v:: ·)
   |none=>none
  |_=>none
def Ee:LV->AV
 |[v]=>v
 |l=>.aL l
def D0(o:aO)(l:Nat)(args:LV):Option gw:=
 match o with
 |.gX _ _ fn tmps nt params assign body _=>
  bif Nat.beq args.length params.length then
   match(params.zip args).foldl (λt (p,a)=>t.bind λt=>pZ nt t (some p) a) (some tmps)with
   |some qG=>some {fn,Cy:=qG,nt,Ke:=[.gP assign,.Cz,.gP body],TH:=[],nI:=.gI,up:=none,rT:=some l}
   |none=>none
  else none
 |_=>none
def aeV(H:AH)(l:Nat)(qs:Option Code):kF:=
 match H.aR l with
 |some (.gX _ _ fn tmps nt ps a b d)=>
  .CC {e:=.gJ (.ai qs.isNone),up:=none,H:=H.cE l (.gX (bif qs.isNone then .ready else .done) qs fn tmps nt ps a b d)}
 |_=>.eO "endRound"
def xh:gw->AH->Option Code->kF
 |⟨fn,tmps,nt,todo,defers,_,up,round⟩,H,qs=>
  match round with
  |none=>match qs with
   |none|some .ret=>.go ⟨fn,tmps,nt,todo,defers,.jR,up,none⟩ H
   |_=>.eO "leave"
  |some l=>aeV H l qs
def P_:Option jf->Option jf
 |some (.rW f args)=>some (.rW f args)
 |_=>none
structure uo where
 go:gw->AH->Option mL
 gU:FuncId->LV->AH->Option (AV×AH)
def P9(P:Program)(call:uo)(f:FuncId)(args:LV)(up:Option qU)(H:AH):Option mL:=
 match up,call.gU f args H with
 |none,some (v,H')=>some ⟨jX v,none,H'⟩
 |_,_=>(P8 P f args up).bind (call.go · H)
section aEl
variable(P:Program)(call:uo)
def lI(H:AH)(up:Option qU):jf->Option mL
 |.gQ v H=>some {e:=.gJ v,up,H}
 |.rW f args=>P9 P call f args up H
 |.xR l args=>match H.aR l with
  |some o=>(D0 o l args).bind (call.go · H)
  |none=>none
 |_=>none
def tS(fr:gw)(o:Oper)(todo:List dQ)(v:AV)(H:AH):kF:=
 match fr with
 |⟨fn,tmps,nt,_,defers,mode,up,round⟩=>match pZ nt tmps o.dst v with
  |some t=>.go ⟨fn,t,nt,todo,defers,mode,up,round⟩ H
  |none=>.eO "dst"
def No:gw->Hw->gw
 |⟨fn,tmps,nt,todo,defers,mode,up,round⟩,c=>⟨fn,tmps,nt,todo,defers,Ae mode c,up,round⟩
def BT(fr:gw)(o:Oper)(todo:List dQ)(r:Option mL):kF:=
 match r with
 |some ⟨.gJ v,_,H⟩=>tS fr o todo v H
 |some ⟨.dI c,_,H⟩=>.go (No fr c) H
 |none=>.eO "call"
def atn(fr:gw)(o:Oper)(todo:List dQ)(d:qT)(H:AH):kF:=
 match fr with
 |⟨fn,tmps,nt,_,defers,mode,up,none⟩=>match pZ nt tmps o.dst .mK with
  |some t=>.go ⟨fn,t,nt,todo,d::defers,mode,up,none⟩ H
  |none=>.eO "dst"
 |_=>.eO "defer"
def ato(fr:gw)(o:Oper)(todo:List dQ)(H:AH):kF:=
 match fr with
 |⟨fn,tmps,nt,_,defers,mode,some (.mj ((v,false)::M9)),none⟩=>match pZ nt tmps o.dst v with
  |some t=>.go ⟨fn,t,nt,todo,defers,mode,some (.mj ((v,true)::M9)),none⟩ H
  |none=>.eO "dst"
 |⟨fn,tmps,nt,_,defers,mode,up,none⟩=>match pZ nt tmps o.dst .ml with
  |some t=>.go ⟨fn,t,nt,todo,defers,mode,up,none⟩ H
  |none=>.eO "dst"
 |_=>.eO "recover"
def Ak(fr:gw)(o:Oper)(todo:List dQ)(H:AH)(aD:Option jf):kF:=
 match aD with
 |none=>.eO "heavy"
 |some (.zh d)=>atn fr o todo d H
 |some (.xQ v)=>.go (No fr [(v,false)]) H
 |some .zi=>ato fr o todo H
 |some aD=>BT fr o todo (lI P call H none aD)
def agE(fr:gw)(o:Oper)(todo:List dQ)(H:AH)(r:Option AV):kF:=
 match r with
 |some v=>tS fr o todo v H
 |none=>.eO "read"
def agD(fr:gw)(o:Oper)(todo:List dQ)(H:AH)(r:Option (aO×(Nat->AV))):kF:=
 match r,H with
 |some (ob,g),⟨h,n,x⟩=>tS fr o todo (g n) (AH.eH ⟨h,n,x⟩ ob)
 |none,_=>.eO "make"
def BV(fr:gw)(H:AH)(ops:Array Oper)(i:Nat)(o:Oper)(rest:List Oper)(k:List dQ):kF:=
 match fr with
 |⟨fn,tmps,nt,todo,defers,mode,up,round⟩=>
  match n_ ops o tmps.bL with
  |none=>.eO "guard"
  |some b=>
   bif b then
    bif qp o.op then agE ⟨fn,tmps,nt,todo,defers,mode,up,round⟩ o (.gW ops (Nat.succ i) rest::k) H (gh P (iC tmps) H o.op)
    else bif uD o.op then agD ⟨fn,tmps,nt,todo,defers,mode,up,round⟩ o (.gW ops (Nat.succ i) rest::k) H (sD P (iC tmps) o.op)
    else Ak P call ⟨fn,tmps,nt,todo,defers,mode,up,round⟩ o (.gW ops (Nat.succ i) rest::k) H (ot P (iC tmps) H o.op)
   else tS ⟨fn,tmps,nt,todo,defers,mode,up,round⟩ o (.gW ops (Nat.succ i) rest::k) .mK H
inductive Uy where
 |aC (tmps:Tr AV) (H:AH)
 |dI (c:Hw) (H:AH)
 |eO (why:String)
inductive Kz where
 |go (tmps:Tr AV) (H:AH)
 |dI (c:Hw) (H:AH)
 |eO (why:String)
def uH(nt:Nat)(tmps:Tr AV)(o:Oper)(v:AV)(H:AH):Kz:=
 match pZ nt tmps o.dst v with
 |some t=>.go t H
 |none=>.eO "dst"
def R0(nt:Nat)(tmps:Tr AV)(o:Oper)(H:AH)(r:Option AV):Kz:=
 match r with
 |some v=>uH nt tmps o v H
 |none=>.eO "read"
def Gi(nt:Nat)(tmps:Tr AV)(o:Oper)(H:AH)(r:Option (aO×(Nat->AV))):Kz:=
 match r,H with
 |some (ob,g),⟨h,n,x⟩=>uH nt tmps o (g n) (AH.eH ⟨h,n,x⟩ ob)
 |none,_=>.eO "make"
def YP(ops:Array Oper)(ms:LN)(base:Tr AV)(ag:LN)(nt:Nat)(tmps:Tr AV)(o:Oper)(r:Option mL):Kz:=
 match r with
 |some ⟨.gJ v,_,H⟩=>match pZ nt tmps o.dst v with
  |some t=>bif JC P ops ms base t H ag then .go t H else .eO "steady"
  |none=>.eO "dst"
 |some ⟨.dI c,_,H⟩=>.dI c H
 |none=>.eO "call"
def YO(ops:Array Oper)(ms:LN)(base:Tr AV)(ag:LN)(nt:Nat)(tmps:Tr AV)(o:Oper)(H:AH)(aD:Option jf):Kz:=
 match aD with
 |some aD=>YP P ops ms base ag nt tmps o (lI P call H none aD)
 |none=>.eO "heavy"
def qy(ops:Array Oper)(ms:LN)(base:Tr AV)(done:LN)(i:Nat)(nt:Nat)(tmps:Tr AV)(H:AH)(o:Oper):Kz:=
 match n_ ops o tmps.bL with
 |none=>.eO "guard"
 |some b=>
  bif b then
   bif qp o.op then R0 nt tmps o H (gh P (iC tmps) H o.op)
   else bif uD o.op then Gi nt tmps o H (sD P (iC tmps) o.op)
   else YO P call ops ms base (UR ops ms done i) nt tmps o H (ot P (iC tmps) H o.op)
  else uH nt tmps o .mK H
def vO(ops:Array Oper)(ms:LN)(base:Tr AV)(nt:Nat):LN->LN->Tr AV->AH->Uy
 |[],_,tmps,H=>.aC tmps H
 |i::rest,done,tmps,H=>match ops[i]? with
  |none=>.eO "order"
  |some o=>match qy P call ops ms base done i nt tmps H o with
   |.go t H'=>vO ops ms base nt rest (i::done) t H'
   |.dI c H'=>.dI c H'
   |.eO w=>.eO w
def LC(t:Tr AV):List Tmp->Tr AV
 |[]=>t
 |d::l=>LC (t.EA d) l
def afV(fr:gw)(ops:Array Oper)(k:List dQ)(r:Uy):kF:=
 match fr,r with
 |⟨fn,_,nt,_,defers,mode,up,round⟩,.aC t H=>.go ⟨fn,t,nt,k,defers,mode,up,round⟩ H
 |⟨fn,tmps,nt,_,defers,mode,up,round⟩,.dI c H=>.go ⟨fn,LC tmps (Lk ops),nt,k,defers,Ae mode c,up,round⟩ H
 |_,.eO w=>.eO w
def to(fr:gw)(H:AH)(k:List dQ):kF:=
 match fr with
 |⟨fn,tmps,nt,_,defers,mode,up,round⟩=>.go ⟨fn,tmps,nt,k,defers,mode,up,round⟩ H
def agU(fr:gw)(H:AH)(ZQ VC:Code)(k:List dQ)(c:Option AV):kF:=
 match c with
 |some (.ai b)=>to fr H (.gP (bif b then ZQ else VC)::k)
 |_=>.eO "cond"
def agV(fr:gw)(H:AH)(j:Code)(k:Option (List dQ)):kF:=
 match k with
 |some k=>to fr H k
 |none=>xh fr H (some j)
def SI(fr:gw)(H:AH)(ops:Array Oper)(te:Bool)(k:List dQ):kF:=
 bif te then match fr,Nd ops with
  |⟨fn,tmps,nt,todo,defers,mode,up,round⟩,some pl=>
   afV ⟨fn,tmps,nt,todo,defers,mode,up,round⟩ ops k (vO P call ops pl.ms tmps nt pl.Hu [] tmps H)
  |_,none=>.eO "plan"
 else to fr H (.gW ops 0 ops.toList::k)
def ae5(H:AH)(round:Option Nat):Option (Nat×List qT×AH):=
 match round with
 |some l=>match H.aR l with
  |some (.gX _ _ _ _ _ _ _ _ d)=>some (d,[],H)
  |_=>none
 |none=>match H with
  |⟨h,n,x⟩=>some (n,[.pr n],AH.eH ⟨h,n,x⟩ (.qR (some [])))
def asr(fr:gw)(l:Nat)(mark:List qT)(k:List dQ)(r:Option mL):kF:=
 match fr,r with
 |⟨fn,tmps,nt,_,defers,mode,up,round⟩,some ⟨.gJ _,_,H⟩=>.go ⟨fn,tmps,nt,.Ez l::k,mark++defers,mode,up,round⟩ H
 |⟨fn,tmps,nt,_,defers,mode,up,round⟩,some ⟨.dI c,_,H⟩=>.go ⟨fn,tmps,nt,.Hp l::k,mark++defers,Ae mode c,up,round⟩ H
 |_,none=>.eO "rangeFunc call"
def VU(fr:gw)(f:Operand)(params:Array Tmp)(assign body:Code)(k:List dQ):Option (Nat×List qT×AH)->kF
 |none=>.eO "rangeFunc"
 |some (d,mark,⟨h,n,x⟩)=>match fr with
  |⟨fn,tmps,nt,todo,defers,mode,up,round⟩=>
   asr ⟨fn,tmps,nt,todo,defers,mode,up,round⟩ n mark k
    ((iC tmps f).bind λg=>(P_ (AW P g [.ib n])).bind (lI P call (AH.eH ⟨h,n,x⟩ (.gX .ready none fn tmps nt params.toList assign body d)) none))
def Zw(fr:gw)(H:AH)(f:Operand)(params:Array Tmp)(assign body:Code)(k:List dQ):kF:=
 match fr with
 |⟨fn,tmps,nt,todo,defers,mode,up,round⟩=>VU P call ⟨fn,tmps,nt,todo,defers,mode,up,round⟩ f params assign body k (ae5 H round)
def Zt(fr:gw)(H:AH)(k:List dQ):kF:=
 match fr with
 |⟨fn,tmps,nt,_,defers,mode,up,some l⟩=>match H.aR l with
  |some (.gX .ready p lf lt ln ps a b d)=>.go ⟨fn,tmps,nt,k,defers,mode,up,some l⟩ (H.cE l (.gX .busy p lf lt ln ps a b d))
  |_=>.eO "beginRound"
 |_=>.eO "beginRound"
def YT(p:Option Code)(k:List dQ):List dQ:=
 match p with
 |some c=>.gP c::k
 |none=>k
def Zu(fr:gw)(H:AH)(l:Nat)(k:List dQ):kF:=
 match H.aR l with
 |some (.gX .ready p fn tmps nt ps a b d)=>to fr (H.cE l (.gX .exhausted p fn tmps nt ps a b d)) (YT p k)
 |some (.gX .done p fn tmps nt ps a b d)=>to fr (H.cE l (.gX .exhausted p fn tmps nt ps a b d)) (YT p k)
 |_=>.eO "endLoop"
def Ao(fr:gw)(H:AH)(k:List dQ):Code->kF
 |.ret=>xh fr H (some .ret)
 |.skip=>to fr H k
 |.label _=>to fr H k
 |.seq a b=>to fr H (.gP a::.gP b::k)
 |.cond c ZQ VC=>agU fr H ZQ VC k (iC fr.Cy c)
 |.block id body=>to fr H (.gP body::.xO id::k)
 |.loop body=>to fr H (.gP body::.sY body::k)
 |.scope body=>to fr H (.gP body::.wo body::k)
 |.exit id=>agV fr H (.exit id) (Ih id k)
 |.goto l=>agV fr H (.goto l) (LY l k)
 |.region _ ops te=>SI P call fr H ops te k
 |.rangeFunc f params assign body=>Zw P call fr H f params assign body k
 |.refuse _=>.eO "refuse"
def ub(fr:gw)(H:AH)(k:List dQ):dQ->kF
 |.gP c=>Ao P call fr H k c
 |.xO _=>to fr H k
 |.wo _=>to fr H k
 |.sY body=>to fr H (.gP body::.sY body::k)
 |.gW ops i l=>match l with
  |[]=>to fr H k
  |o::rest=>BV P call fr H ops i o rest k
 |.Cz=>Zt fr H k
 |.Ez l=>Zu fr H l k
 |.Hp _=>.eO "inRangeFunc"
def sP(fr:gw)(H:AH):kF:=
 match fr with
 |⟨fn,tmps,nt,[],defers,mode,up,round⟩=>xh ⟨fn,tmps,nt,[],defers,mode,up,round⟩ H none
 |⟨fn,tmps,nt,x::k,defers,mode,up,round⟩=>ub P call ⟨fn,tmps,nt,x::k,defers,mode,up,round⟩ H k x
def afR(fr:gw)(ds:List qT)(u:qU)(H:AH):kF:=
 match u,fr with
 |.gI,_=>.eO "run"
 |u,⟨fn,tmps,nt,todo,_,_,up,round⟩=>.go ⟨fn,tmps,nt,todo,ds,u,up,round⟩ H
def aFe(fr:gw)(ds:List qT)(r:Option mL):kF:=
 match fr,r with
 |fr,some ⟨.gJ _,some u,H⟩=>afR fr ds (ats u) H
 |fr,some ⟨.dI c,some u,H⟩=>afR fr ds (Ae u c) H
 |_,_=>.eO "deferred call"
def M_(fr:gw)(H:AH):kF:=
 match fr with
 |⟨fn,tmps,_,_,_,mode,up,_⟩=>match mode with
  |.gI=>.eO "run"
  |.mj c=>bif (P.funcs[fn]?).isSome then .CC ⟨.dI c,up,H⟩else .eO "no function"
  |.jR=>match P.funcs[fn]? with
   |some f=>match uO P H tmps f.results.toList with
    |some l=>.CC ⟨.gJ (Ee l),up,H⟩
    |none=>.eO "results"
   |none=>.eO "no function"
def GL(fr:gw)(H:AH):kF:=
 match fr with
 |⟨fn,tmps,nt,todo,defers,mode,up,round⟩=>match defers with
  |.pr r::ds=>match H.aR r with
   |some (.qR (some []))=>.go ⟨fn,tmps,nt,todo,ds,mode,up,round⟩ (H.cE r (.qR none))
   |_=>.eO "collected"
  |.xN f mw args::ds=>aFe ⟨fn,tmps,nt,todo,defers,mode,up,round⟩ ds ((P_ (AW P (.cw f [] mw) args)).bind (lI P call H (some mode)))
  |[]=>M_ P ⟨fn,tmps,nt,todo,defers,mode,up,round⟩ H
def kN(fr:gw)(H:AH):kF:=
 match fr with
 |⟨fn,tmps,nt,todo,defers,mode,up,round⟩=>match mode with
  |.gI=>sP P call ⟨fn,tmps,nt,todo,defers,.gI,up,round⟩ H
  |m=>GL P call ⟨fn,tmps,nt,todo,defers,m,up,round⟩ H
end aEl
abbrev Ph:=FuncId->LV->AH->Option (AV×AH)
def RQ:Ph:=λ_ _ _=>none
def run(P:Program)(K:Ph):Nat->gw->AH->Option mL
 |0,_,_=>none
 |n+1,fr,H=>match kN P ⟨run P K n,K⟩ fr H with
  |.go fr' H'=>run P K n fr' H'
  |.CC r=>some r
  |.eO _=>none
def eval(P:Program)(K:Ph)(n:Nat)(f:FuncId)(args:LV)(H:AH):Option mL:=(P8 P f args none).bind λfr=>run P K n fr H
end
namespace Tr
variable{F:Type}
theorem LW(n):(Tr.iq:Tr F).bL n=none:=rfl
theorem xp(a b):Nat.beq a b=decide (a=b):=by
 cases h:Nat.beq a b
 .have:a≠b:=by intro e;subst e;simp at h
  simp[this]
 .simp_all
theorem EM{D:Type}(p)[Decidable p](x y:D):(bif decide p then x else y)=if p then x else y:=by by_cases h:p<;>simp[h]
theorem EP{D:Type}(c x y): @Bool.rec (λ_=>D) y x c=bif c then x else y:=by cases c<;>rfl
theorem rj(v)(l r:Tr F)(n):
 (Tr.gB v l r).bL n=if n=0 then v else if n%2=1 then l.bL (n / 2)else r.bL (n / 2-1):=by
 have h:(Tr.gB v l r).bL n= @Bool.rec (λ_=>Option F) (@Bool.rec (λ_=>Option F) (r.bL (Nat.sub (Nat.div n 2) 1)) (l.bL (Nat.div n 2)) (Nat.beq (Nat.mod n 2) 1)) (v) (Nat.beq n 0):=rfl;rw[h,EP,EP];simp only[xp,EM];rfl
theorem Am(v l r n)(a:F):
 (Tr.gB v l r).fB n a=if n=0 then .gB (some a) l r else if n%2=1 then .gB v (l.fB (n / 2) a) r else .gB v l (r.fB (n / 2-1) a):=by
 have h:(Tr.gB v l r).fB n a= @Bool.rec (λ_=>Tr F) (@Bool.rec (λ_=>Tr F) (Tr.gB v l (r.fB (Nat.sub (Nat.div n 2) 1) a)) (Tr.gB v (l.fB (Nat.div n 2) a) r) (Nat.beq (Nat.mod n 2) 1)) (Tr.gB (some a) l r) (Nat.beq n 0):=rfl;rw[h,EP,EP];simp only[xp,EM];rfl
theorem aAM(v)(l r:Tr F)(n):
 (Tr.gB v l r).EA n=if n=0 then .gB none l r else if n%2=1 then .gB v (l.EA (n / 2)) r else .gB v l (r.EA (n / 2-1)):=by
 have h:(Tr.gB v l r).EA n= @Bool.rec (λ_=>Tr F) (@Bool.rec (λ_=>Tr F) (Tr.gB v l (r.EA (Nat.sub (Nat.div n 2) 1))) (Tr.gB v (l.EA (Nat.div n 2)) r) (Nat.beq (Nat.mod n 2) 1)) (Tr.gB none l r) (Nat.beq n 0):=rfl;rw[h,EP,EP];simp only[xp,EM];rfl
theorem agL(n)(a:F):y5 0 n a=.gB (some a) .iq .iq:=rfl
theorem agK(f n)(a:F):
 y5 (f+1) n a=if n=0 then .gB (some a) .iq .iq else if n%2=1 then .gB none (y5 f (n / 2) a) .iq else .gB none .iq (y5 f (n / 2-1) a):=by
 have h:y5 (f+1) n a= @Bool.rec (λ_=>Tr F) (@Bool.rec (λ_=>Tr F) (Tr.gB none .iq (y5 f (Nat.sub (Nat.div n 2) 1) a)) (Tr.gB none (y5 f (Nat.div n 2) a) .iq) (Nat.beq (Nat.mod n 2) 1)) (Tr.gB (some a) .iq .iq) (Nat.beq n 0):=rfl;rw[h,EP,EP];simp only[xp,EM];rfl
theorem adw:∀(f n m) (a:F),n<=f->(y5 f n a).bL m=if m=n then some a else none
 |0,n,m,a,h=>by
  have:n=0:=by omega
  subst this;rw[agL,rj];simp[LW]
 |f+1,n,m,a,h=>by
  rw[agK];by_cases h0:n=0
  .subst h0;rw[aP rfl,rj];simp[LW]
  .rw[aw h0];by_cases h1:n%2=1
   .rw[aP h1,rj,adw f _ _ a (by omega),LW]
    grind
   .rw[aw h1,rj,adw f _ _ a (by omega),LW]
    grind
theorem lL(t:Tr F)(n m a):(t.fB n a).bL m=if m=n then some a else t.bL m:=by
 induction t generalizing n m with
 |iq=>show(y5 n n a).bL m=_;rw[LW,adw n n m a (ct _)]
 |gB v l r IV IW=>
  rw[Am,rj v l r m];by_cases h0:n=0
  .subst h0;rw[aP rfl,rj]
   grind
  .rw[aw h0];by_cases h1:n%2=1
   .rw[aP h1,rj,IV]
    grind
   .rw[aw h1,rj,IW]
    grind
theorem aBg(t:Tr F)(n m):(t.EA n).bL m=if m=n then none else t.bL m:=by
 induction t generalizing n m with
 |iq=>show(Tr.iq:Tr F).bL m=_;simp[LW]
 |gB v l r IV IW=>
  rw[aAM,rj v l r m];by_cases h0:n=0
  .subst h0;rw[aP rfl,rj]
   grind
  .rw[aw h0];by_cases h1:n%2=1
   .rw[aP h1,rj,IV]
    grind
   .rw[aw h1,rj,IW]
    grind
theorem anY(l):∀(n) (t:Tr F) (m),(Gf l n t).bL m=if n<=m/\m<n+l.length then l[m-n]? else t.bL m:=by
 induction l with
 |nil=>intro n t m;have:¬(n<=m/\m<n+0):=by omega
       simp[Gf];omega
 |cons a l ih=>
  intro n t m;rw[Gf,ih,lL]
  grind
end Tr
structure PE where
 b:Nat
 o:Nat
 n:Nat
structure bZ where
 f:Nat->Option PE
 ro:Nat->Option Obj
 xs:Nat->Option PE
instance:CoeFun bZ (λ_=>Nat->Option PE):=⟨bZ.f⟩
def bZ.pu(I:bZ):bZ:=⟨λ_=>none,I.ro,I.xs⟩
theorem di{F:Type}{c x}{v:F}(h:(bif c then x else none)=some v):c=true/\x=some v:=by
 grind
mutual
def VR(I:bZ):AV->Value->Prop
 |.ai b,v=>v=.bool b
 |.bD k n,v=>v=.int k n
 |.ao s,v=>∃b:ByteArray,v=.string b/\fg b=s
 |.aa id off,v=>∃e,I id=some e/\v=.pointer (some ⟨e.b,e.o+off,none⟩)
 |.kZ,v=>v=.pointer none
 |.bK id off len cap sz ex,v=>∃e x c,I id=some e/\v=.slice (some ⟨e.b,x,none⟩) len c/\(c=0\/x=e.o+off)/\len<=c/\(ex=true->c=cap)/\e.o+off+c*sz<=e.n
 |.aM,v=>v=.slice none 0 0
 |.aS id,v=>∃e,I id=some e/\v=.map (some e.b)
 |.oz,v=>v=.map none
 |.cw fn f c,v=>∃f' c':Array Value,v=.func fn f' c'/\yJ fn=false/\bf I f f'.toList/\bf I c c'.toList
 |.ib l,v=>∃e,I l=some e/\v=.func (.yield e.b) #[] #[]
 |.rV,v=>v=.nilFunc
 |.ep t a,v=>∃v',v=.iface t v'/\VR I a v'
 |.ml,v=>v=.nilIface
 |.aj cs,v=>∃cs':Array Value,v=.agg cs'/\bf I cs cs'.toList
 |.aL cs,v=>∃cs':Array Value,v=.tuple cs'/\bf I cs cs'.toList
 |.yk g,v=>v=.pointer (some ⟨g,0,none⟩)
 |.aq cs len sz,v=>∃(a:Option Addr) (c:Nat),v=.slice a len c/\cs.length=len*sz/\(len=0\/
   ∃b x,∃(dL:Array Value) (el:TypeId) (fz:Nat×Nat),a=some ⟨b,x,none⟩/\len<=c/\I.ro b=some (.cells dL el fz)/\x+cs.length<=dL.size/\bf I.pu cs ((dL.toList.drop x).take cs.length))
 |.qI cs,v=>∃b x,∃(dL:Array Value) (el:TypeId) (fz:Nat×Nat),v=.pointer (some ⟨b,x,none⟩)/\I.ro b=some (.cells dL el fz)/\x+cs.length<=dL.size/\bf I.pu cs ((dL.toList.drop x).take cs.length)
 |.ei n off,v=>∃e,I.xs n=some e/\v=.pointer (some ⟨e.b,e.o+off,none⟩)
 |.gV n len sz,v=>(len=0/\v=.slice none 0 0)\/∃e x c,I.xs n=some e/\v=.slice (some ⟨e.b,x,none⟩) len c/\(c=0\/x=e.o)/\len<=c/\e.o+c*sz<=e.n/\len≠0
 |.tb,v=>∃a:Option Addr,v=.slice a 0 0
 |.xG cs len sz,v=>∃(a:Option Addr),v=.slice a len len/\cs.length=len*sz/\(len=0\/
   ∃b x,∃(dL:Array Value) (el:TypeId) (fz:Nat×Nat),a=some ⟨b,x,none⟩/\I.ro b=some (.cells dL el fz)/\x+cs.length<=dL.size/\bf I.pu cs ((dL.toList.drop x).take cs.length))
 |.dI _,_=>False
 |.ad id len sz,v=>(len=0/\v=.slice none 0 0)\/∃e x c,I id=some e/\v=.slice (some ⟨e.b,x,none⟩) len c/\(c=0\/x=e.o)/\len<=c/\e.o+c*sz<=e.n
def bf(I:bZ):LV->List Value->Prop
 |[],l=>l=[]
 |a::as,l=>∃v vs,l=v::vs/\VR I a v/\bf I as vs
end
structure dp(I E:bZ):Prop where
 f:∀id e,I id=some e->E id=some e
 ro:∀b o,I.ro b=some o->E.ro b=some o
 xs:∀n e,I.xs n=some e->E.xs n=some e
instance{I E:bZ}:CoeFun (dp I E) (λ_=>∀id e,I id=some e->E id=some e):=⟨dp.f⟩
theorem dp.refl(I):dp I I:=⟨λ_ _ h=>h,λ_ _ h=>h,λ_ _ h=>h⟩
theorem dp.Kj{I E K}(h:dp I E)(h':dp E K):dp I K:=⟨λid e hh=>h' id e (h id e hh),λb o hh=>h'.ro b o (h.ro b o hh),λn e hh=>h'.xs n e (h.xs n e hh)⟩
theorem dp.pu{I E}(h:dp I E):dp I.pu E.pu:=⟨λ_ _ h=>(by cases h),h.ro,h.xs⟩
mutual
theorem VR.d_{I E:bZ}(h:dp I E):∀(a:AV) (v:Value),VR I a v->VR E a v
 |.ai _,_,h1=>by simpa[VR]using h1
 |.bD _ _,_,h1=>by simpa[VR]using h1
 |.ao _,_,h1=>by simpa[VR]using h1
 |.aa _ _,_,h1=>by simp only[VR]at h1⊢;obtain⟨e,h2,h3⟩:=h1;exact⟨e,h _ _ h2,h3⟩
 |.kZ,_,h1=>by simpa[VR]using h1
 |.bK ..,_,h1=>by simp only[VR]at h1⊢;obtain⟨e,x,c,h2,h3⟩:=h1;exact⟨e,x,c,h _ _ h2,h3⟩
 |.aM,_,h1=>by simpa[VR]using h1
 |.aS _,_,h1=>by simp only[VR]at h1⊢;obtain⟨e,h2,h3⟩:=h1;exact⟨e,h _ _ h2,h3⟩
 |.oz,_,h1=>by simpa[VR]using h1
 |.cw _ f c,_,h1=>by simp only[VR]at h1⊢;obtain⟨f',c',e,hy,h2,h3⟩:=h1;exact⟨f',c',e,hy,bf.ll h f _ h2,bf.ll h c _ h3⟩
 |.ib _,_,h1=>by simp only[VR]at h1⊢;obtain⟨e,h2,h3⟩:=h1;exact⟨e,h _ _ h2,h3⟩
 |.rV,_,h1=>by simpa[VR]using h1
 |.ep _ a,_,h1=>by simp only[VR]at h1⊢;obtain⟨v',e,h2⟩:=h1;exact⟨v',e,VR.d_ h a _ h2⟩
 |.ml,_,h1=>by simpa[VR]using h1
 |.aj cs,_,h1=>by simp only[VR]at h1⊢;obtain⟨v',e,h2⟩:=h1;exact⟨v',e,bf.ll h cs _ h2⟩
 |.aL cs,_,h1=>by simp only[VR]at h1⊢;obtain⟨v',e,h2⟩:=h1;exact⟨v',e,bf.ll h cs _ h2⟩
 |.yk _,_,h1=>by simpa[VR]using h1
 |.aq cs _ _,_,h1=>by
  simp only[VR]at h1⊢;obtain⟨a,c,e,hl,h2⟩:=h1;refine⟨a,c,e,hl,?_⟩;rcases h2 with h2|⟨b,x,dL,el,fz,h2,h3,h4,h5,h6⟩
  .exact .inl h2
  .exact .inr ⟨b,x,dL,el,fz,h2,h3,h.ro _ _ h4,h5,bf.ll h.pu cs _ h6⟩
 |.qI cs,_,h1=>by simp only[VR]at h1⊢;obtain⟨b,x,dL,el,fz,h3,h4,h5,h6⟩:=h1;exact⟨b,x,dL,el,fz,h3,h.ro _ _ h4,h5,bf.ll h.pu cs _ h6⟩
 |.ad ..,_,h1=>by
  simp only[VR]at h1⊢;rcases h1 with h1|⟨e,x,c,h2,h3⟩
  .exact .inl h1
  .exact .inr ⟨e,x,c,h _ _ h2,h3⟩
 |.ei ..,_,h1=>by simp only[VR]at h1⊢;obtain⟨e,h2,h3⟩:=h1;exact⟨e,h.xs _ _ h2,h3⟩
 |.gV ..,_,h1=>by
  simp only[VR]at h1⊢;rcases h1 with h1|⟨e,x,c,h2,h3⟩
  .exact .inl h1
  .exact .inr ⟨e,x,c,h.xs _ _ h2,h3⟩
 |.tb,_,h1=>by simpa[VR]using h1
 |.xG cs _ _,_,h1=>by
  simp only[VR]at h1⊢;obtain⟨a,e,hl,h2⟩:=h1;refine⟨a,e,hl,?_⟩;rcases h2 with h2|⟨b,x,dL,el,fz,h2,h4,h5,h6⟩
  .exact .inl h2
  .exact .inr ⟨b,x,dL,el,fz,h2,h.ro _ _ h4,h5,bf.ll h.pu cs _ h6⟩
 |.dI _,_,h1=>by simp[VR]at h1
theorem bf.ll{I E:bZ}(h:dp I E):∀(as:LV) (vs:List Value),bf I as vs->bf E as vs
 |[],_,h1=>by simpa[bf]using h1
 |a::as,_,h1=>by simp only[bf]at h1⊢;obtain⟨v,vs,e,h2,h3⟩:=h1;exact⟨v,vs,e,VR.d_ h a v h2,bf.ll h as vs h3⟩
end
theorem dp.xr(I):dp I.pu I:=⟨λ_ _ h=>(by cases h),λ_ _ h=>h,λ_ _ h=>h⟩
mutual
theorem VR.BL{I E:bZ}(hr:dp I.pu E.pu):∀(a:AV) (v:Value),f_ a=true->VR I a v->VR E a v
 |.ai _,_,_,h1=>by simpa[VR]using h1
 |.bD _ _,_,_,h1=>by simpa[VR]using h1
 |.ao _,_,_,h1=>by simpa[VR]using h1
 |.aa _ _,_,hp,_=>by cases hp
 |.kZ,_,_,h1=>by simpa[VR]using h1
 |.bK ..,_,hp,_=>by cases hp
 |.aM,_,_,h1=>by simpa[VR]using h1
 |.aS _,_,hp,_=>by cases hp
 |.oz,_,_,h1=>by simpa[VR]using h1
 |.cw _ f c,_,hp,h1=>by simp only[f_,cT]at hp;simp only[VR]at h1⊢;obtain⟨f',c',e,hy,h2,h3⟩:=h1;exact⟨f',c',e,hy,bf.BL hr f _ hp.1 h2,bf.BL hr c _ hp.2 h3⟩
 |.ib _,_,hp,_=>by cases hp
 |.rV,_,_,h1=>by simpa[VR]using h1
 |.ep _ a,_,hp,h1=>by simp only[f_]at hp;simp only[VR]at h1⊢;obtain⟨v',e,h2⟩:=h1;exact⟨v',e,VR.BL hr a _ hp h2⟩
 |.ml,_,_,h1=>by simpa[VR]using h1
 |.aj cs,_,hp,h1=>by simp only[f_]at hp;simp only[VR]at h1⊢;obtain⟨v',e,h2⟩:=h1;exact⟨v',e,bf.BL hr cs _ hp h2⟩
 |.aL cs,_,hp,h1=>by simp only[f_]at hp;simp only[VR]at h1⊢;obtain⟨v',e,h2⟩:=h1;exact⟨v',e,bf.BL hr cs _ hp h2⟩
 |.yk _,_,_,h1=>by simpa[VR]using h1
 |.aq cs _ _,v,_,h1=>VR.d_ (E:=E) (hr.Kj (dp.xr E)) (.aq cs _ _) v (I:=I.pu) (by simp only[VR]at h1⊢;exact h1)
 |.qI cs,v,_,h1=>VR.d_ (E:=E) (hr.Kj (dp.xr E)) (.qI cs) v (I:=I.pu) (by simp only[VR]at h1⊢;exact h1)
 |.ei n o,v,_,h1=>VR.d_ (E:=E) (hr.Kj (dp.xr E)) (.ei n o) v (I:=I.pu) (by simp only[VR]at h1⊢;exact h1)
 |.gV n l s,v,_,h1=>VR.d_ (E:=E) (hr.Kj (dp.xr E)) (.gV n l s) v (I:=I.pu) (by simp only[VR]at h1⊢;exact h1)
 |.tb,_,_,h1=>by simpa[VR]using h1
 |.xG cs _ _,v,_,h1=>VR.d_ (E:=E) (hr.Kj (dp.xr E)) (.xG cs _ _) v (I:=I.pu) (by simp only[VR]at h1⊢;exact h1)
 |.dI _,_,_,h1=>by simp[VR]at h1
 |.ad ..,_,hp,_=>by cases hp
theorem bf.BL{I E:bZ}(hr:dp I.pu E.pu):∀(as:LV) (vs:List Value),BK as=true->bf I as vs->bf E as vs
 |[],_,_,h1=>by simpa[bf]using h1
 |a::as,_,hp,h1=>by simp only[BK,cT]at hp;simp only[bf]at h1⊢;obtain⟨v,vs,e,h2,h3⟩:=h1;exact⟨v,vs,e,VR.BL hr a v hp.1 h2,bf.BL hr as vs hp.2 h3⟩
end
theorem VR.EB{I E}(a v)(hp:f_ a=true)(h:VR I a v)(hr:dp I.pu E.pu:=by exact dp.refl _):VR E a v:=VR.BL hr a v hp h
theorem bf.xU{I E}(as vs)(hp:BK as=true)(h:bf I as vs)(hr:dp I.pu E.pu:=by exact dp.refl _):bf E as vs:=bf.BL hr as vs hp h
theorem xu:∀l,BK l=l.all f_
 |[]=>rfl
 |a::l=>by simp[BK,xu l]
section aEa
variable{I:bZ}
theorem mq:bf I [] []:=by simp[bf]
theorem r_{a v as vs}:bf I (a::as) (v::vs)↔VR I a v/\bf I as vs:=by
 constructor
 .rintro⟨v',eA,e,h1,h2⟩;cases e;exact⟨h1,h2⟩
 .rintro⟨h1,h2⟩;exact⟨v,vs,rfl,h1,h2⟩
theorem bf.je:∀{as vs},bf I as vs->as.length=vs.length
 |[],vs,h=>by simp only[bf]at h;subst h;rfl
 |a::as,vs,h=>by obtain⟨v,eA,rfl,_,h2⟩:=h;simp[bf.je h2]
theorem bf.get:∀{as vs},bf I as vs->∀{i:Nat} {a},as[i]? =some a->∃v,vs[i]? =some v/\VR I a v
 |[],_,_,i,a,hi=>by simp at hi
 |b::as,vs,h,i,a,hi=>by
  obtain⟨v,eA,rfl,h1,h2⟩:=h;cases i with
  |zero=>grind
  |succ i=>simp at hi⊢;exact bf.get h2 hi
theorem bf.zj:∀{as vs},bf I as vs->∀n,bf I (as.take n) (vs.take n)
 |[],_,h,n=>by simp only[bf]at h;subst h;simp[bf]
 |a::as,vs,h,n=>by
  obtain⟨v,eA,rfl,h1,h2⟩:=h;cases n with
  |zero=>simp[bf]
  |succ n=>simp;exact r_.2 ⟨h1,bf.zj h2 n⟩
theorem bf.AJ:∀{as vs},bf I as vs->∀n,bf I (as.drop n) (vs.drop n)
 |[],_,h,n=>by simp only[bf]at h;subst h;simp[bf]
 |a::as,vs,h,n=>by
  obtain⟨v,eA,rfl,h1,h2⟩:=h;cases n with
  |zero=>exact r_.2 ⟨h1,h2⟩
  |succ n=>simp;exact bf.AJ h2 n
theorem bf.xS:∀{as bs vs ws},bf I as vs->bf I bs ws->bf I (as++bs) (vs++ws)
 |[],_,vs,_,h,h'=>by simp only[bf]at h;subst h;simpa using h'
 |a::as,_,vs,_,h,h'=>by obtain⟨v,eA,rfl,h1,h2⟩:=h;simp;exact r_.2 ⟨h1,bf.xS h2 h'⟩
theorem pt{a v}(h:VR I a v):bf I [a] [v]:=r_.2 ⟨h,mq⟩
theorem akk{as vs}(hl:as.length=vs.length)(h:∀(i:Nat) (a v),as[i]? =some a->vs[i]? =some v->VR I a v):bf I as vs:=by
 induction as generalizing vs with
 |nil=>cases vs with
  |nil=>exact mq
  |cons=>simp at hl
 |cons a as ih=>cases vs with
  |nil=>simp at hl
  |cons v vs=>exact r_.2 ⟨h 0 a v rfl rfl,ih (by simpa using hl) (λi a v h1 h2=>h (i+1) a v (by simpa using h1) (by simpa using h2))⟩
end aEa
theorem AV.vh{I a v}(h:VR I a v):bf I a.dO v.cells.toList:=by
 cases a<;>simp only[AV.dO];case aj cs=>simp only[VR]at h;obtain⟨cs',rfl,h⟩:=h;exact h
 case aq=>have h':=h;obtain⟨a,c,rfl,_⟩:=h;exact pt h'
 case qI=>have h':=h;obtain⟨b,x,dL,el,fz,rfl,_⟩:=h;exact pt h'
 case ad=>have h':=h;rcases h with⟨_,rfl⟩|⟨e,x,c,_,rfl,_⟩<;>exact pt h'
 case gV=>have h':=h;rcases h with⟨_,rfl⟩|⟨e,x,c,_,rfl,_⟩<;>exact pt h'
 case tb=>have h':=h;obtain⟨a,rfl⟩:=h;exact pt h'
 case xG=>have h':=h;obtain⟨a,rfl,_⟩:=h;exact pt h'
 case dI=>exact h.elim
 all_goals
  have h':=h;first
   |(subst h;exact pt h')
   |(obtain⟨_,_,rfl⟩:=h;exact pt h')
   |(obtain⟨_,rfl,_⟩:=h;exact pt h')
   |(obtain⟨_,_,_,rfl,_⟩:=h;exact pt h')
   |(obtain⟨_,_,_,_,rfl,_⟩:=h;exact pt h')
   |(obtain⟨_,_,rfl,_⟩:=h;exact pt h')
theorem AV.aE7{I a v}(h:VR I a v):v.oneCell'=a.dH:=by
 cases a<;>simp only[VR]at h;case aq=>obtain⟨a,c,rfl,_⟩:=h;rfl
 case qI=>obtain⟨b,x,dL,el,fz,rfl,_⟩:=h;rfl
 case ad=>rcases h with⟨_,rfl⟩|⟨e,x,c,_,rfl,_⟩<;>rfl
 case gV=>rcases h with⟨_,rfl⟩|⟨e,x,c,_,rfl,_⟩<;>rfl
 case tb=>obtain⟨a,rfl⟩:=h;rfl
 case xG=>obtain⟨a,rfl,_⟩:=h;rfl
 all_goals first
  |(subst h;rfl)
  |(obtain⟨_,_,rfl⟩:=h;rfl)
  |(obtain⟨_,rfl,_⟩:=h;rfl)
  |(obtain⟨_,_,_,rfl,_⟩:=h;rfl)
  |(obtain⟨_,_,rfl,_⟩:=h;rfl)
  |(obtain⟨_,_,_,_,rfl,_⟩:=h;rfl)
theorem AV.afM{I as vs}(h:bf I as vs)(h1:as.all AV.dH=true):∀v∈vs,v.oneCell'=true:=by
 induction as generalizing vs with
 |nil=>simp only[bf]at h;subst h;simp
 |cons a as ih=>
  obtain⟨v,eA,rfl,h2,h3⟩:=h;simp only[List.all_cons,cT]at h1;intro x hx;rcases dU.1 hx with rfl|hx
  .rw[AV.aE7 h2];exact h1.1
  .exact ih h3 h1.2 x hx
theorem alV{I v a}(h:Vn v=some a):VR I a v:=by
 unfold Vn at h;split at h<;>first
  |(cases h;done)
  |(injection h with h;subst h;simp[VR];done)
  |skip
 rename_i fn f c;cases hy:yJ fn<;>cases hf:f.isEmpty<;>cases hc:c.isEmpty<;>simp[hy,hf,hc]at h;subst h;have h1:=So.1 hf;have h2:=So.1 hc;subst h1 h2;exact⟨#[],#[],rfl,hy,mq,mq⟩
theorem alW{I}:∀{vs as},Lf vs=some as->bf I as vs
 |[],as,h=>by simp[Lf]at h;subst h;exact mq
 |v::vs,as,h=>by
  simp only[Lf]at h;split at h
  .cases h
  next a ha=>
   split at h
   .cases h
   next sa QD=>cases h;exact r_.2 ⟨alV ha,alW QD⟩
theorem acH{I v a}(h:ON v=some a):VR I a v:=by
 unfold ON at h;split at h;next cs=>
  cases hc:Lf cs.toList with
  |none=>simp[hc]at h
  |some as=>simp[hc]at h;subst h;exact⟨cs,rfl,alW hc⟩
 next cs=>cases hc:cs.isEmpty<;>simp[hc]at h;subst h;have:=So.1 hc;subst this;exact⟨#[],rfl,mq⟩
 .exact alV h
theorem Ch{I P t z}(h:kA P t=some z):∃v,VR I z v/\∀w,(zeroValue t).run P w=.ok v w:=by
 unfold kA at h;cases hi:P.info? t with
 |none=>simp[hi]at h
 |some i=>
  simp only[hi,sH]at h;cases hz:i.zero with
  |none=>simp[hz]at h
  |some v=>simp only[hz,sH]at h;exact⟨v,acH h,λw=>by simp[zeroValue,run_typeInfo w hi,hz]⟩
theorem j6{P t n}(h:cy P t=some n)(w):(sizeOf t).run P w=.ok n w:=by
 unfold cy at h;cases hi:P.info? t with
 |none=>simp[hi]at h
 |some i=>simp[hi]at h;simp[sizeOf,run_typeInfo w hi,h]
theorem acs{P t n}(h:wC P t=some n)(w):∃i,(typeInfo t).run P w=.ok i w/\i.bytes=n:=by
 unfold wC at h;cases hi:P.info? t with
 |none=>simp[hi]at h
 |some i=>simp[hi]at h;exact⟨i,run_typeInfo w hi,h⟩
theorem IY{P t b}(h:F3 P t=some b)(w):(isAgg t).run P w=.ok b w:=by
 unfold F3 at h;cases hu:P.underlying t with
 |none=>simp[hu]at h
 |some d=>cases d<;>simp[hu]at h<;>subst h<;>simp[isAgg,run_underlying hu w]
theorem af3{F P}:∀{s} {a:F},DO P s=some a->∀w,s.run P w=.ok a w
 |.pure a,b,h,w=>by simp[DO]at h;subst h;rfl
 |.program k,b,h,w=>by simp only[DO]at h;simp only[Sem.run];exact af3 h w
 |.load ..,_,h,_|.store ..,_,h,_|.new ..,_,h,_|.shape ..,_,h,_|.freeze ..,_,h,_|.frozen ..,_,h,_|.getObj ..,_,h,_
 |.setObj ..,_,h,_|.choose ..,_,h,_|.sys ..,_,h,_|.mark ..,_,h,_|.halt ..,_,h,_=>by simp[DO]at h
def dK(I:bZ):List (AV×AV×Nat)->List MapEntry->Prop
 |[],l=>l=[]
 |(k,v,b)::es,l=>∃m ms,l=m::ms/\VR I k m.key/\VR I v m.val/\m.born=b/\dK I es ms
def DR(I:bZ):qT->Deferred->Prop
 |.xN fn cap args,d=>∃yd args':Array Value,d={target:=.fn fn yd,args:=args'}/\yJ fn=false/\bf I cap yd.toList/\bf I args args'.toList
 |.pr r,d=>∃e,I r=some e/\d={target:=.collected e.b,args:= #[]}
def qV(I:bZ):List qT->List Deferred->Prop
 |[],l=>l=[]
 |a::as,l=>∃d ds,l=d::ds/\DR I a d/\qV I as ds
def TR(I:bZ)(t:Tr AV)(nt:Nat)(tmps:Array Value):Prop:=
 tmps.size=nt/\∀i a,t.bL i=some a->∃v,tmps[i]? =some v/\VR I a v
def OR(I:bZ):aO->PE->Obj->Prop
 |.ah vs _,e,o=>∃cs el,o=.cells cs el (0,0)/\cs.size=e.n/\e.o+vs.length<=e.n/\bf I vs ((cs.toList.drop e.o).take vs.length)/\vs.all AV.dH=true
 |.bI es clock p,_,o=>∃bF:Array MapEntry,o=.map bF clock/\dK I es bF.toList/\(p=true->dK I.pu es bF.toList)
 |.vZ s pos,e,o=>∃b,o=.stringIter b pos/\fg b=s/\e.o=0
 |.iZ m since seen GM,e,o=>∃m',o=.mapIter m' since seen.toArray GM/\e.o=0/\(match m with|none=>m'=none|some id=>∃e,I id=some e/\m'=some e.b)
 |.gX st p fn tmps nt ps a b d,_,o=>∃qG ed,o=.loop {state:=st,pending:=p,fn,tmps:=qG,params:=ps.toArray,assign:=a,body:=b,defers:=ed.b}/\I d=some ed/\TR I tmps nt qG
 |.qR ds,_,o=>(match ds with|none=>o=.deferred none|some l=>∃l',o=.deferred (some l')/\qV I l l')
 |.bg _,_,_=>True
 |.dE vs _,e,o=>∃cs el,o=.cells cs el (0,0)/\cs.size=e.n/\e.o+vs.length<=e.n/\bf I.pu vs ((cs.toList.drop e.o).take vs.length)/\vs.all AV.dH=true
 |.au vs _,e,o=>∃cs el,o=.cells cs el (0,0)/\cs.size=e.n/\e.o+vs.length<=e.n/\bf I.pu vs ((cs.toList.drop e.o).take vs.length)/\vs.all AV.dH=true
theorem ajZ{I K}(h:dp I K){vs el hJ e o}(ho:OR I.pu (.ah vs el) e o):OR K (.dE vs hJ) e o:=
 let⟨cs,lJ,h1,h2,h3,h4,h5⟩:=ho
 ⟨cs,lJ,h1,h2,h3,bf.ll h.pu _ _ h4,h5⟩
theorem abu{I K}(h:dp I K){vs el hJ e o}(ho:OR I.pu (.ah vs el) e o):OR K (.au vs hJ) e o:=
 let⟨cs,lJ,h1,h2,h3,h4,h5⟩:=ho
 ⟨cs,lJ,h1,h2,h3,bf.ll h.pu _ _ h4,h5⟩
def aO.aQ:aO->Bool
 |.bg _=>false
 |_=>true
abbrev fM:=Nat->Prop
def gY(base:fM)(w:World):Prop:=∀b,base b->b<w.heap.size
def aEZ(w:World):fM:=λb=>b<w.heap.size
theorem gY.Hr{base w w'}(h:gY base w)(cr:w.heap.size<=w'.heap.size):gY base w':=λb hb=>Nl (h b hb) cr
def Pg(I:bZ)(H:AH)(b:Nat):Prop:=(∃o,I.ro b=some o)\/∃n ob e,H.gO n=some ob/\I.xs n=some e/\e.b=b
structure WX(I:bZ)(base:fM)(H:AH)(w:World):Prop where
 ro:∀b o,I.ro b=some o->(¬base b/\w.heap[b]? =some o)/\∀id ob e,H.aR id=some ob->ob.aQ=true->I id=some e->e.b≠b
 xo:∀n ob,H.gO n=some ob->∃e o,I.xs n=some e/\(¬base e.b/\w.heap[e.b]? =some o)/\OR I.pu ob e o/\I.ro e.b=none/\∀id dz e1,H.aR id=some dz->dz.aQ=true->I id=some e1->e1.b≠e.b
 xi:∀n n' ob bu e e',H.gO n=some ob->H.gO n'=some bu->I.xs n=some e->I.xs n'=some e'->e.b=e'.b->n=n'
 xl:∀X,H.x=some X->∀n e,I.xs n=some e->n<X.n
structure WR(I:bZ)(base:fM)(H:AH)(w:World):Prop where
 ey:∀id ob e,H.aR id=some ob->I id=some e->∃o,w.heap[e.b]? =some o/\OR I ob e o
 jx:∀id ij ob bu e e',H.aR id=some ob->ob.aQ=true->I id=some e->H.aR ij=some bu->bu.aQ=true->I ij=some e'->e.b=e'.b->id=ij
 lt:∀id e,I id=some e->e.b<w.heap.size/\¬base e.b/\id<H.br
 nx:∀id ob,H.aR id=some ob->id<H.br
 wx:WX I base H w
theorem WR.ro{I base H w}(hw:WR I base H w):∀b o,I.ro b=some o->(¬base b/\w.heap[b]? =some o)/\∀id ob e,H.aR id=some ob->ob.aQ=true->I id=some e->e.b≠b:=hw.wx.ro
theorem wa{H H':AH}(h:H'.x=H.x)(n):H'.gO n=H.gO n:=by have⟨a,b,c⟩:=H;have⟨a',b',c'⟩:=H';subst h;cases c'<;>rfl
theorem WR.aeG{I base H w}(hw:WR I base H w){b}(h:Pg I H b){id ob e}(h1:H.aR id=some ob)(h2:ob.aQ=true)(h3:I id=some e):e.b≠b:=by
 rcases h with⟨o,h⟩|⟨n,bu,e',k1,k2,rfl⟩
 .exact(hw.wx.ro b o h).2 id ob e h1 h2 h3
 .have⟨e2,o,q1,q2,q3,q4,q5⟩:=hw.wx.xo n bu k1
  grind
theorem WR.apU{I base H w}(hw:WR I base H w){b}(h:Pg I H b):b<w.heap.size:=by
 rcases h with⟨o,h⟩|⟨n,bu,e',k1,k2,rfl⟩
 .exact(Sh.1 (hw.wx.ro b o h).1.2).1
 .have⟨e2,o,q1,q2,_⟩:=hw.wx.xo n bu k1
  grind
theorem WR.uP{I aK base H H' w w'}(hw:WR I base H w)(hr:aK.ro=I.ro)(hx:aK.xs=I.xs)(hX:H'.x=H.x)(hh:∀b,Pg I H b->w'.heap[b]? =w.heap[b]?)(hs:∀id ob e,H'.aR id=some ob->ob.aQ=true->aK id=some e->(∃j dW e0,H.aR j=some dW/\dW.aQ=true/\I j=some e0/\e0.b=e.b)\/w.heap.size<=e.b):
 WX aK base H' w':=by
 have hpu:aK.pu=I.pu:=by unfold bZ.pu;rw[hr,hx]
 have cx:∀b,Pg I H b->∀id ob e,H'.aR id=some ob->ob.aQ=true->aK id=some e->e.b≠b:=by
  intro b hb id ob e k1 k2 k3 fo;rcases hs id ob e k1 k2 k3 with⟨j,dW,e0,q1,q2,q3,q4⟩|q
  .exact hw.aeG hb q1 q2 q3 (q4.trans fo)
  .have:=hw.apU hb;omega
 refine⟨λb o hb=>?_,λn ob h=>?_,λn n' ob bu e e' h1 h2 h3 h4=>?_,λX h n e h1=>?_⟩
 .rw[hr]at hb;have⟨⟨h1,h2⟩,h3⟩:=hw.ro b o hb;exact⟨⟨h1,(hh b (.inl ⟨o,hb⟩)).trans h2⟩,cx b (.inl ⟨o,hb⟩)⟩
 .rw[wa hX]at h;have⟨e,o,q1,q2,q3,q4,q5⟩:=hw.wx.xo n ob h;have hk:Pg I H e.b:=.inr ⟨n,ob,e,h,q1,rfl⟩
  grind
 .rw[wa hX]at h1 h2;rw[hx]at h3 h4;exact hw.wx.xi n n' ob bu e e' h1 h2 h3 h4
 .rw[hX]at h;rw[hx]at h1;exact hw.wx.xl X h n e h1
def oN(I:bZ)(O:Operand->Option AV)(ev:Operand->Value)(l:List Operand):Prop:=∀x∈l,∀a,O x=some a->VR I a (ev x)
theorem oN.of{I O ev l}(h:oN I O ev l){x}(hx:x∈l){a}(ha:O x=some a):VR I a (ev x):=h x hx a ha
theorem oN.qS{I O ev l l'}(h:oN I O ev l)(hs:∀x∈l',x∈l):oN I O ev l':=λx hx=>h x (hs x hx)
theorem EL{I O ev}:∀{l as},oN I O ev l->x_ O l=some as->bf I as (l.map ev)
 |[],as,_,h=>by simp[x_]at h;subst h;exact mq
 |x::l,as,hr,h=>by
  simp only[x_]at h;split at h
  .cases h
  next a ha=>
   split at h
   .cases h
   next sa QD=>cases h;exact r_.2 ⟨hr x (by simp) a ha,EL (hr.qS (λy hy=>by simp[hy])) QD⟩
theorem aFc{I O ev x r}(hr:oN I O ev x.toList)(h:qx O x=some r):
 (r=none/\x.map ev=none)\/(∃a v,r=some a/\x.map ev=some v/\VR I a v):=by
 cases x with
 |none=>simp[qx]at h;grind
 |some x=>
  simp only[qx]at h;cases hx:O x with
  |none=>simp[hx]at h
  |some a=>simp[hx]at h;subst h;exact .inr ⟨a,ev x,rfl,rfl,hr x (by simp) a hx⟩
section aFX
variable{P:Program}{I:bZ}{base:fM}{H:AH}{w:World}
theorem WR.TI(hw:WR I base H w){id vs e}(h:H.rU id=some vs)(he:I id=some e):
 ∃cs el,w.heap[e.b]? =some (.cells cs el (0,0))/\cs.size=e.n/\e.o+vs.length<=e.n/\bf I vs ((cs.toList.drop e.o).take vs.length)/\vs.all AV.dH=true:=by
 unfold AH.rU at h;split at h;next ho=>cases h;have⟨o,h1,h2⟩:=hw.ey id _ e ho he;obtain⟨cs,el,rfl,h3⟩:=h2;exact⟨cs,el,h1,h3⟩
 next ho=>cases h;have⟨o,h1,h2⟩:=hw.ey id _ e ho he;obtain⟨cs,el,rfl,h3,h4,h5,h6⟩:=h2;exact⟨cs,el,h1,h3,h4,bf.ll (dp.xr I) _ _ h5,h6⟩
 next ho=>cases h;have⟨o,h1,h2⟩:=hw.ey id _ e ho he;obtain⟨cs,el,rfl,h3,h4,h5,h6⟩:=h2;exact⟨cs,el,h1,h3,h4,bf.ll (dp.xr I) _ _ h5,h6⟩
 .cases h
theorem GF{l r off n}(h:qD l off n=some r):r=(l.drop off).take n/\r.length=n:=by
 unfold qD at h;simp only at h;cases hb:Nat.beq ((l.drop off).take n).length n
 .rw[hb]at h;cases h
 .rw[hb]at h;simp_all
theorem afj{r v}(h:r.map AV.aj=some v):∃l,r=some l/\v=.aj l:=by
 cases r with
 |none=>cases h
 |some l=>cases h;exact⟨l,rfl,rfl⟩
theorem YR{t cs cs' off v}(hc:bf I cs cs'.toList)(h:fi P t cs off=some v)(w):
 ∃v',(part t cs' off).run P w=.ok v' w/\VR I v v':=by
 unfold fi at h;split at h;next ha=>
  split at h;next s hs=>
   obtain⟨l,hl,rfl⟩:=afj h;obtain⟨rfl,bB⟩:=GF hl;refine⟨.agg (cs'.extract off (off+s)),?_,?_⟩
   .simp[part,IY ha w,j6 hs w]
   .refine⟨_,rfl,?_⟩;have:=(hc.AJ off).zj s;simp_all
  .cases h
 next ha=>
  have⟨v',h1,h2⟩:=hc.get h;refine⟨v',?_,h2⟩;have h3:cs'[off]? =some v':=by simpa using h1
  simp[part,IY ha w,h3]
 .cases h
theorem GD{b o n cs el fz}(hg:w.heap[b]? =some (.cells cs el fz))(h:o+n<=cs.size):
 (loadCells ⟨b,o,none⟩ n).run P w=.ok ((cs.toList.drop o).take n).toArray w:=by
 have hl:((cs.toList.drop o).take n).length=n:=by simp;omega
 have:=run_loadCells_list (P:=P) w ⟨b,o,none⟩ ((cs.toList.drop o).take n) (λj v hv=>by
  have aB4:(⟨b,o,none⟩:Addr).add j=⟨b,o+j,none⟩:=by unfold Addr.add;split<;>simp_all
  rw[aB4,cell_of_row w b (o+j) cs el fz hg];have hj:j<n:=by
   grind
  rw[Ab hj,vR]at hv;simpa using hv)
 rwa[hl]at this
theorem aql{t vs cs el off v}{e:PE}(hg:w.heap[e.b]? =some (.cells cs el (0,0)))(ca:cs.size=e.n)(cr:e.o+vs.length<=e.n)(hv:bf I vs ((cs.toList.drop e.o).take vs.length))(h:fi P t vs off=some v):
 ∃v',(loadVar t ⟨e.b,e.o+off,none⟩).run P w=.ok v' w/\VR I v v':=by
 unfold fi at h;split at h;next ha=>
  split at h;next s hs=>
   obtain⟨l,hl,rfl⟩:=afj h;obtain⟨rfl,bB⟩:=GF hl;by_cases Dz:s=0
   .subst Dz;refine⟨.agg #[],?_,?_⟩
    .simp[loadVar,IY ha w,j6 hs w,loadCells,loadCellsFrom]
    .refine⟨#[],rfl,?_⟩;simp[bf]
   .have fX:off+s<=vs.length:=by simp at bB;omega
    refine⟨.agg ((cs.toList.drop (e.o+off)).take s).toArray,?_,?_⟩
    .simp[loadVar,IY ha w,j6 hs w,GD hg (show e.o+off+s<=cs.size by omega)]
    .refine⟨_,rfl,?_⟩;have h2:=(hv.AJ off).zj s;have e2:(((cs.toList.drop e.o).take vs.length).drop off).take s=(cs.toList.drop (e.o+off)).take s:=by rw[BO,Ad,Gq];congr 1;omega
     grind
  .cases h
 next ha=>
  have⟨v',h2,h3⟩:=hv.get h;have ae:off<vs.length:=by
   grind
  rw[Ab ae,vR]at h2;refine⟨v',?_,h3⟩;have Mh:w.cell? ⟨e.b,e.o+off,none⟩=some v':=by rw[cell_of_row w e.b (e.o+off) cs el (0,0) hg];simpa using h2
  simp[loadVar,IY ha w,Mh]
 .cases h
theorem ae2(hw:WR I base H w){t id off v e}(h:vJ P H t id off=some v)(he:I id=some e):
 ∃v',(loadVar t ⟨e.b,e.o+off,none⟩).run P w=.ok v' w/\VR I v v':=by
 unfold vJ at h;split at h
 .cases h
 next vs jd=>have⟨cs,el,hg,ca,cr,hv,h1⟩:=hw.TI jd he;exact aql hg ca cr hv h
theorem WR.AX(hw:WR I base H w){n vs e}(h:AX (H.gO n)=some vs)(he:I.xs n=some e):
 ∃cs el,w.heap[e.b]? =some (.cells cs el (0,0))/\cs.size=e.n/\e.o+vs.length<=e.n/\bf I.pu vs ((cs.toList.drop e.o).take vs.length)/\vs.all AV.dH=true:=by
 unfold Go.Ev.AX at h;split at h;next ho=>
  cases h;have⟨e',o,h1,h2,h3,_⟩:=hw.wx.xo n _ ho;rw[he]at h1;cases h1;obtain⟨cs,el,rfl,h4,h5,h6,h7⟩:=h3
  grind
 next ho=>cases h;have⟨e',o,h1,h2,h3,_⟩:=hw.wx.xo n _ ho;rw[he]at h1;cases h1;obtain⟨cs,el,rfl,h4,h5,h6,h7⟩:=h3;exact⟨cs,el,h2.2,h4,h5,h6,h7⟩
 .cases h
theorem aEf(hw:WR I base H w){t n off v e}(h:tJ P H t n off=some v)(he:I.xs n=some e):
 ∃v',(loadVar t ⟨e.b,e.o+off,none⟩).run P w=.ok v' w/\VR I v v':=by
 unfold tJ at h;split at h
 .cases h
 next vs jd=>have⟨cs,el,hg,ca,cr,hv,h1⟩:=hw.AX jd he;exact aql hg ca cr (bf.ll (dp.xr I) _ _ hv) h
theorem aEe{t cs b x dL el fz v}(h:fi P t cs 0=some v)(hg:w.heap[b]? =some (.cells dL el fz))(ca:x+cs.length<=dL.size)(hc:bf I cs ((dL.toList.drop x).take cs.length)):∃v',(loadVar t ⟨b,x,none⟩).run P w=.ok v' w/\VR I v v':=by
 unfold fi at h;split at h;next ha=>
  split at h;next s hs=>
   obtain⟨l,hl,rfl⟩:=afj h;obtain⟨rfl,bB⟩:=GF hl;have fX:s<=cs.length:=by simp at bB;omega
   refine⟨.agg ((dL.toList.drop x).take s).toArray,?_,?_⟩
   .simp[loadVar,IY ha w,j6 hs w,GD hg (show x+s<=dL.size by omega)]
   .refine⟨_,rfl,?_⟩;have h2:=hc.zj s
    grind
  .cases h
 next ha=>
  have⟨v',h2,h3⟩:=hc.get h;have ae:0<cs.length:=by
   grind
  rw[Ab ae,vR]at h2;refine⟨v',?_,h3⟩;have Mh:w.cell? ⟨b,x,none⟩=some v':=by rw[cell_of_row w b x dL el fz hg];simpa using h2
  simp[loadVar,IY ha w,Mh]
 .cases h
end aFX
theorem pB:∀l m,bO l m=decide (l=m)
 |[],[]=>by simp[bO]
 |[],_::_=>by simp[bO]
 |_::_,[]=>by simp[bO]
 |a::l,b::m=>by
  rw[bO,Tr.xp,Tr.EM,pB l m]
  grind
theorem aha{a b}(h:fg a=fg b):a=b:=by obtain⟨⟨x⟩⟩:=a;obtain⟨⟨y⟩⟩:=b;simp only[fg]at h;have:x=y:=List.map_inj_right (λu v e=>UInt8.toNat_inj.1 e)|>.1 h;rw[this]
theorem BW(b):(fg b).length=b.size:=by simp[fg]
theorem aNk(a b):fg (a++b)=fg a++fg b:=by simp[fg]
theorem auu(a b):(a.toList==b.toList)=decide (fg a=fg b):=by
 rw[ByteArray.toList_eq,ByteArray.toList_eq];by_cases h:fg a=fg b
 .have:=aha h;subst this;simp
 .have:a.data≠b.data:=λe=>h (by simp only[fg,e])
  simp[h,this]
theorem aqd:∀l m,Op.bytesLess l m=ki (l.map UInt8.toNat) (m.map UInt8.toNat)
 |l,[]=>by cases l<;>simp[Op.bytesLess,ki]
 |[],_::_=>by simp[Op.bytesLess,ki]
 |a::l,b::m=>by
  simp only[Op.bytesLess,e9,ki];rw[aqd l m];have h1:Nat.ble (a.toNat+1) b.toNat=decide (a<b):=by rw[sL];simp[UInt8.lt_iff_toNat_lt];omega
  have h2:Nat.beq a.toNat b.toNat=decide (a=b):=by rw[Tr.xp];simp[UInt8.toNat_inj]
  grind
theorem ayx(a b):Op.bytesLess a.toList b.toList=ki (fg a) (fg b):=by rw[ByteArray.toList_eq,ByteArray.toList_eq,aqd];rfl
section
variable{P:Program}{I:bZ}{base:fM}{H:AH}{w:World}
theorem ayY{op a b v}(h:acz op (fg a) (fg b)=some v)(w):
 ∃v',(Op.stringOp op a b).run P w=.ok v' w/\VR I v v':=by
 unfold acz at h;split at h
 .cases hb:Nat.ble ((fg a).length+(fg b).length) 1000000
  .rw[hb]at h;cases h
  .rw[hb]at h;cases h;refine⟨.string (a++b),?_,⟨_,rfl,aNk a b⟩⟩;have cr:=qA hb;rw[BW,BW]at cr;have:¬(((a.size+b.size:Nat):Int)>IntKind.i64.max):=by
    have:IntKind.i64.max=9223372036854775807:=by rfl
    rw[this];omega
   simp only[Op.stringOp,aw this,Sem.run_pure]
 all_goals first
  |(cases h
    refine⟨_,rfl,?_⟩;simp only[VR,ayx,auu,pB];try simp
    done)
  |(cases h;done)
set_option maxHeartbeats 1000000 in
theorem Yy{len r}(h:BI len=some r):len≠0/\r=false:=by
 unfold BI at h;cases hb:Nat.beq len 0 with
 |true=>rw[hb]at h;cases h
 |false=>rw[hb]at h;cases h;exact⟨(λe=>by rw[e]at hb;cases hb),rfl⟩
set_option maxHeartbeats 1000000 in
theorem adg:∀d t x y r vx vy,iP P d t x y=some r->VR I x vx->VR I y vy->∀D,d<=D->∀w,(Op.equalIn D t vx vy).run P w=.ok r w:=by
 intro d;induction d with
 |zero=>intro t x y r vx vy h;simp[iP]at h
 |succ d ih=>
  intro t x y r vx vy h hx hy D hD w;obtain⟨D,rfl⟩:∃D',D=D'+1:=⟨D-1,by omega⟩;simp only[iP]at h;split at h;case h_22=>
   rename_i gz xs ys hu;obtain⟨xs',rfl,Xv⟩:=hx;obtain⟨uh,rfl,hys⟩:=hy;cases fw:P.stoodInHeld t;case true=>rw[fw]at h;cases h
   rw[fw]at h;simp only[cond_false]at h;have hf:P.fieldsOf t=gz:=by simp[Program.fieldsOf,hu]
   rw[run_equalIn_struct w D t xs' uh (by rw[hf];exact hu) fw,hf];generalize gz.toList=fs at h;clear hu hf;induction fs generalizing w with
   |nil=>simp[iP.Hv]at h;subst h;simp[Op.eqFields]
   |cons f fs ihf=>
    simp only[iP.Hv]at h;split at h
    .cases h
    next hn=>
     split at h;next a b ha hb=>
      obtain⟨va,h1,h2⟩:=YR Xv ha w;obtain⟨vb,h3,h4⟩:=YR hys hb w;simp only[Op.eqFields];rw[aP hn];simp only[Sem.run_bind,h1,h3,Result.andThen_ok];split at h;next he=>rw[ih _ _ _ _ _ _ he h2 h4 D (by omega) w];simp only[Result.andThen_ok];exact ihf w h
      next he=>rw[ih _ _ _ _ _ _ he h2 h4 D (by omega) w];cases h;simp
      .cases h
     .cases h
  case h_21=>
   rename_i ms tx va ty vb hu;obtain⟨va',rfl,h1⟩:=hx;obtain⟨vb',rfl,h2⟩:=hy;cases hb:Nat.beq tx ty
   .rw[hb]at h;cases h;have:tx≠ty:=by intro e;subst e;simp at hb
    simp[Op.equalIn,run_underlying hu w,this]
   .rw[hb]at h;have:tx=ty:=dN hb;subst this;simp only[cond_true]at h;split at h;next i hi=>
     cases hc:i.comparable
     .rw[hc]at h;cases h
     .rw[hc]at h;simp only[cond_true]at h;simp[Op.equalIn,run_underlying hu w,run_typeInfo w hi,hc,ih _ _ _ _ _ _ h h1 h2 D (by omega) w]
    .cases h
  all_goals
   try (cases h;done)
  all_goals
   simp only[VR]at hx hy
  all_goals rename_i hu
  case h_2=>
   subst hx hy;split at h;next hk=>subst hk;cases h;simp[Op.equalIn,run_underlying hu w]
   .cases h
  case h_3=>obtain⟨a,rfl,rfl⟩:=hx;obtain⟨b,rfl,rfl⟩:=hy;cases h;rw[run_equalIn_string w D t a b hu,auu,pB]
  case h_23=>
   subst hx;obtain⟨a,c,rfl,_,h4⟩:=hy;obtain⟨h0,rfl⟩:=Yy h;rcases h4 with h4|⟨b,x,_,_,_,rfl,_⟩
   .exact absurd h4 h0
   .simp[Op.equalIn,run_underlying hu w]
  case h_24=>
   subst hy;obtain⟨a,c,rfl,_,h4⟩:=hx;obtain⟨h0,rfl⟩:=Yy h;rcases h4 with h4|⟨b,x,_,_,_,rfl,_⟩
   .exact absurd h4 h0
   .simp[Op.equalIn,run_underlying hu w]
  case h_25=>
   subst hx;obtain⟨h0,rfl⟩:=Yy h;rcases hy with⟨h4,_⟩|⟨e,x,c,_,rfl,_⟩
   .exact absurd h4 h0
   .simp[Op.equalIn,run_underlying hu w]
  case h_26=>
   subst hy;obtain⟨h0,rfl⟩:=Yy h;rcases hx with⟨h4,_⟩|⟨e,x,c,_,rfl,_⟩
   .exact absurd h4 h0
   .simp[Op.equalIn,run_underlying hu w]
  case h_27=>
   subst hx;rcases hy with⟨rfl,rfl⟩|⟨e,x,c,_,rfl,_,_,_,h5⟩
   .cases h;simp[Op.equalIn,run_underlying hu w]
   .rw[show Nat.beq _ 0=false from by rw[sI,Ne,Nat.beq_eq];exact h5]at h;cases h;simp[Op.equalIn,run_underlying hu w]
  case h_28=>
   subst hy;rcases hx with⟨rfl,rfl⟩|⟨e,x,c,_,rfl,_,_,_,h5⟩
   .cases h;simp[Op.equalIn,run_underlying hu w]
   .rw[show Nat.beq _ 0=false from by rw[sI,Ne,Nat.beq_eq];exact h5]at h;cases h;simp[Op.equalIn,run_underlying hu w]
  all_goals cases h
  all_goals first
   |(subst hx hy;simp[Op.equalIn,run_underlying hu w];done)
   |(obtain⟨_,_,rfl⟩:=hx;subst hy;simp[Op.equalIn,run_underlying hu w];done)
   |(obtain⟨_,_,rfl⟩:=hy;subst hx;simp[Op.equalIn,run_underlying hu w];done)
   |(obtain⟨_,_,_,rfl,_⟩:=hx;subst hy;simp[Op.equalIn,run_underlying hu w];done)
   |(obtain⟨_,_,_,rfl,_⟩:=hy;subst hx;simp[Op.equalIn,run_underlying hu w];done)
   |(obtain⟨_,_,_,_,rfl,_⟩:=hx;subst hy;simp[Op.equalIn,run_underlying hu w];done)
   |(obtain⟨_,_,_,_,rfl,_⟩:=hy;subst hx;simp[Op.equalIn,run_underlying hu w];done)
   |(obtain⟨_,_,rfl,_⟩:=hx;subst hy;simp[Op.equalIn,run_underlying hu w];done)
   |(obtain⟨_,_,rfl,_⟩:=hy;subst hx;simp[Op.equalIn,run_underlying hu w];done)
   |(obtain⟨_,rfl,_⟩:=hx;subst hy;simp[Op.equalIn,run_underlying hu w];done)
   |(obtain⟨_,rfl,_⟩:=hy;subst hx;simp[Op.equalIn,run_underlying hu w];done)
end
section
variable{P:Program}{I:bZ}{base:fM}{H:AH}{w:World}
theorem aA7(l):∀(k off) (cs:Array Value),off+k+l.length<=cs.size->
 ((l.zipIdx k).foldl (λcs (c,j)=>cs.setIfInBounds (off+j) c) cs).toList=cs.toList.take (off+k)++(l++cs.toList.drop (off+k+l.length)):=by
 induction l with
 |nil=>intro k off cs h;simp
 |cons v l ih=>
  intro k off cs h;simp at h;rw[List.zipIdx_cons,qz,ih (k+1) off _ (by simp;omega)];apply Y3;intro i;simp only[Array.toList_setIfInBounds,List.getElem?_append,rH,List.length_set,Array.length_toList,Jq,List.getElem?_set,vR,dJ];by_cases h1:i<off+k
  .have h2:i<off+(k+1):=by omega
   have h3:¬(off+k=i):=by omega
   simp[h1,h2,h3,show min (off+(k+1)) cs.size=off+(k+1)by omega,show min (off+k) cs.size=off+k by omega]
  .by_cases h2:i=off+k
   .subst h2;simp[show min (off+(k+1)) cs.size=off+(k+1)by omega,show min (off+k) cs.size=off+k by omega,show off+k<off+(k+1)by omega,show off+k<cs.size by omega]
   .have h3:¬i<off+(k+1):=by omega
    obtain⟨j,rfl⟩:∃j,i=off+k+1+j:=⟨i-(off+k+1),by omega⟩;simp only[show min (off+(k+1)) cs.size=off+(k+1)by omega,show min (off+k) cs.size=off+k by omega,aw h1,aw h3];have e1:off+k+1+j-(off+(k+1))=j:=by omega
    have e2:off+k+1+j-(off+k)=j+1:=by omega
    rw[e1,e2];simp;by_cases h4:j<l.length
    .simp[h4]
    .simp only[aw h4,show¬(j+1<l.length+1)by omega,if_false];have e3:off+(k+1)+l.length+(j-l.length)=off+k+(l.length+1)+(j+1-(l.length+1)):=by omega
     rw[e3];simp;intro e;omega
theorem adU:∀n l,aoF n l=Nat.ble n l.length
 |0,_=>rfl
 |_+1,[]=>rfl
 |n+1,_::l=>(adU n l).trans rfl
theorem YY{l cs r off}(h:Aa l off cs=some r):off+cs.length<=l.length/\r=l.take off++(cs++l.drop (off+cs.length)):=by
 unfold Aa at h;rw[adU]at h;cases hb:Nat.ble (off+cs.length) l.length
 .rw[hb]at h;cases h
 .simp_all
theorem bf.put{l cs l' cs' off}(hl:bf I l l')(hc:bf I cs cs'):bf I (l.take off++(cs++l.drop (off+cs.length))) (l'.take off++(cs'++l'.drop (off+cs'.length))):=by rw[<-hc.je];exact(hl.zj off).xS (hc.xS (hl.AJ _))
def Uz(I:bZ)(ps:List (Nat×AV))(uJ:List (Nat×Value)):Prop:=ps.map (·.1)=uJ.map (·.1)/\bf I (ps.map (·.2)) (uJ.map (·.2))
theorem UX{O ev}:∀{l ps},oN I O ev (l.map (·.2))->KS O l=some ps->Uz I ps (l.map λp=>(p.1,ev p.2))
 |[],ps,_,h=>by simp[KS]at h;subst h;exact⟨rfl,mq⟩
 |(i,x)::l,ps,hr,h=>by
  simp only[KS]at h;split at h
  .cases h
  next a ha=>
   split at h
   .cases h
   next as QD=>cases h;have h1:=UX (hr.qS (λy hy=>by grind)) QD;exact⟨by simp[h1.1],r_.2 ⟨hr x (by simp) a ha,h1.2⟩⟩
theorem V5{pl}:∀{ps uJ cs r cs'},Uz I ps uJ->bf I cs cs'.toList->Dd pl cs ps=some r->
 ∃r',Instr.fill pl cs' uJ=some r'/\bf I r r'.toList
 |[],uJ,cs,r,cs',hp,hc,h=>by
  have:uJ=[]:=by have:=hp.1;simpa using this.symm
  subst this;cases h;exact⟨cs',rfl,hc⟩
 |(i,v)::ps,[],_,_,_,hp,_,_=>by have:=hp.1;simp at this
 |(i,v)::ps,(i',v')::uJ,cs,r,cs',hp,hc,h=>by
  have⟨h1,h2⟩:=hp;simp at h1;obtain⟨rfl,h1⟩:=h1;simp at h2;have⟨hv,h2⟩:=r_.1 h2;simp only[Dd]at h;split at h
  .cases h
  next off size kL=>
   cases hb:Nat.beq v.dO.length size
   .rw[hb]at h;cases h
   .rw[hb]at h;simp at h;have ca:=dN hb;split at h
    .cases h
    next re Q6=>
     obtain⟨cr,rfl⟩:=YY Q6;have hcv:=AV.vh hv;have pM:=hcv.je;have gM:=hc.je;have W7:=aA7 v'.cells.toList 0 off cs' (by simp at pM gM⊢;omega);simp at W7;have IJ:=bf.put (off:=off) hc hcv;have⟨r',h3,h4⟩:=V5 (cs':=v'.cells.zipIdx.foldl (λcs (c,j)=>cs.setIfInBounds (off+j) c) cs') ⟨h1,h2⟩ (by rw[<-Array.foldl_toList,Array.toList_zipIdx,W7];exact IJ) h;refine⟨r',?_,h4⟩;simp only[Instr.fill,kL]
     grind
theorem aFq{gz pl}(h:ar5 P gz=some pl)(w):
 (gz.mapM λf=>do pure (f.offset,<-sizeOf f.type):Sem _).run P w=.ok pl.toArray w:=by
 rw[Array.mapM_eq_mapM_toList,Sem.run_map];have:∀(fs:List Field) (pl:List (Nat×Nat)),(fs.mapM λf=>(cy P f.type).map λs=>(f.offset,s))=some pl->((fs.mapM λf=>do pure (f.offset,<-sizeOf f.type):Sem _)).run P w=.ok pl w:=by
  intro fs;induction fs with
  |nil=>simp_all
  |cons f fs ih=>
   intro pl h;rw[List.mapM_cons]at h⊢;cases hs:cy P f.type with
   |none=>simp[hs]at h
   |some s=>
    simp only[hs,uL,Option.bind_eq_bind,sH]at h;cases hm:(fs.mapM λf=>(cy P f.type).map λs=>(f.offset,s))with
    |none=>simp[hm]at h
    |some pl'=>simp[hm]at h;subst h;have:=ih _ hm;simp[j6 hs w]at this⊢;simp[this]
 rw[this _ _ h];rfl
end
section
variable{P:Program}{I:bZ}{base:fM}{H:AH}{w:World}
theorem arI{v a}(h:YD v=some a):VR I a v:=by unfold YD at h;split at h<;>first|(cases h;simp[VR];done)|cases h
theorem aAI{op t a b v va vb}(ha:VR I a va)(hb:VR I b vb)(h:Fh P op t a b=some v)(w):
 ∃r,(Op.equal t va vb).run P w=.ok r w/\((op=.eql/\v=.ai r)\/(op=.neq/\v=.ai (!r))):=by
 unfold Fh at h;split at h
 .cases he:iP P 100 t a b with
  |none=>simp[he]at h
  |some r=>simp[he]at h;exact⟨r,adg 100 t a b r va vb he ha hb Op.maxDepth (by simp[Op.maxDepth]) w,.inl ⟨rfl,h.symm⟩⟩
 .cases he:iP P 100 t a b with
  |none=>simp[he]at h
  |some r=>simp[he]at h;exact⟨r,adg 100 t a b r va vb he ha hb Op.maxDepth (by simp[Op.maxDepth]) w,.inr ⟨rfl,h.symm⟩⟩
 .cases h
inductive AL:Nat->Value->Prop
 |bool (b:Bool):AL 0 (.bool b)
 |aa (a:Option Addr):AL 1 (.pointer a)
 |slice (a:Option Addr) (n c:Nat):AL 2 (.slice a n c)
 |map (a:Option Nat):AL 3 (.map a)
 |func (fn:Fn) (f c:Array Value):AL 4 (.func fn f c)
 |nilFunc:AL 4 .nilFunc
 |iface (t:TypeId) (v:Value):AL 5 (.iface t v)
 |nilIface:AL 5 .nilIface
 |agg (cs:Array Value):AL 6 (.agg cs)
theorem Wa{a v}(h:VR I a v)(hk:pP a≠9):AL (pP a) v:=by
 cases a<;>simp only[VR]at h;all_goals first
  |(subst h;constructor;done)
  |(obtain⟨_,_,rfl⟩:=h;constructor;done)
  |(obtain⟨_,rfl,_⟩:=h;constructor;done)
  |(obtain⟨_,_,rfl,_⟩:=h;constructor;done)
  |(obtain⟨_,_,_,rfl,_⟩:=h;constructor;done)
  |(obtain⟨_,_,_,_,rfl,_⟩:=h;constructor;done)
  |(exact absurd rfl hk)
  |(rcases h with⟨_,rfl⟩|⟨_,_,_,_,rfl,_⟩<;>constructor)
theorem aAG{op t x y a b va vb}(ha:VR I a va)(hb:VR I b vb)(hk:pP a=pP b)(h9:pP a≠9)(hg:FA P t x y a b=true)(w):
 (eqGuard op t x y va vb).run P w=.ok () w:=by
 have fa:=Wa ha h9;have fb:=Wa hb (hk▸h9);have h9b:=hk▸h9;rw[<-hk]at fb;generalize pP a=n at fa fb;cases fa<;>cases fb;case nilIface.nilIface=>
  have ea:a=.ml:=by cases a<;>simp[VR]at ha<;>first|rfl|exact absurd rfl h9
  have eb:b=.ml:=by cases b<;>simp[VR]at hb<;>first|rfl|exact absurd rfl h9b
  subst ea eb;cases op<;>cases x<;>cases y<;>simp[FA,vF]at hg<;>simp[eqGuard]
 case agg.agg=>
  have ea:∃l,a=.aj l:=by cases a<;>simp[VR]at ha<;>first|exact⟨_,rfl⟩|exact absurd rfl h9
  have eb:∃l,b=.aj l:=by cases b<;>simp[VR]at hb<;>first|exact⟨_,rfl⟩|exact absurd rfl h9b
  obtain⟨l,rfl⟩:=ea;obtain⟨m,rfl⟩:=eb;exact run_eqGuard_agg w op t x y _ _ (by simpa[FA]using hg)
 all_goals cases op<;>simp[eqGuard]
theorem aye{op t a b v va vb}(ha:VR I a va)(hb:VR I b vb)(hk:pP a=pP b)(h9:pP a≠9){r}(w)(hr:(Op.equal t va vb).run P w=.ok r w)(hv:(op=.eql/\v=.ai r)\/(op=.neq/\v=.ai (!r))):
 (Go.binOp op t va vb).run P w=.ok (match op with|.eql=>.bool r|_=>.bool (!r)) w/\VR I v (match op with|.eql=>.bool r|_=>.bool (!r)):=by
 have fa:=Wa ha h9;have fb:=Wa hb (hk▸h9);rw[<-hk]at fb;generalize pP a=n at fa fb;rcases hv with⟨rfl,rfl⟩|⟨rfl,rfl⟩
 .refine⟨?_,by simp[VR]⟩;cases fa<;>cases fb<;>simp only[Go.binOp]<;>simp[hr]
 .refine⟨?_,by simp[VR]⟩;cases fa<;>cases fb<;>simp only[Go.binOp]<;>simp[hr]
theorem ayd{op t x y a b v va vb}(ha:VR I a va)(hb:VR I b vb)(h:KZ P op t x y a b=some v)(w):
 ∃v',(do eqGuard op t x y va vb;Go.binOp op t va vb:Sem Value).run P w=.ok v' w/\VR I v v':=by
 unfold KZ at h;split at h;next k m k' n=>
  subst ha hb;cases hp:DO P (Go.binOp op t (.int k m) (.int k' n))with
  |none=>simp[hp]at h
  |some v'=>
   simp only[hp,sH]at h;refine⟨v',?_,arI h⟩;have hg:(eqGuard op t x y (.int k m) (.int k' n)).run P w=.ok () w:=by cases op<;>simp[eqGuard]
   simp[hg,af3 hp w]
 next l m=>
  obtain⟨s,rfl,rfl⟩:=ha;obtain⟨s',rfl,rfl⟩:=hb;have⟨v',h1,h2⟩:=ayY (P:=P) (I:=I) h w;refine⟨v',?_,h2⟩;have hg:(eqGuard op t x y (.string s) (.string s')).run P w=.ok () w:=by cases op<;>simp[eqGuard]
  simp only[Sem.run_bind,hg,Result.andThen_ok];have:Go.binOp op t (.string s) (.string s')=Op.stringOp op s s':=by cases op<;>rfl
  rw[this,h1]
 .cases hc:Nat.beq (pP a) (pP b)&& !Nat.beq (pP a) 9&&FA P t x y a b
  .rw[hc]at h;cases h
  .rw[hc]at h;simp at h;simp only[cT,yV]at hc;have⟨⟨h1,h2⟩,h3⟩:=hc;have hk:=dN h1;have h9:pP a≠9:=by intro e;rw[e]at h2;simp at h2
   have⟨r,hr,hv⟩:=aAI ha hb h w;have:=aye ha hb hk h9 w hr hv;exact⟨_,by simp only[Sem.run_bind,aAG ha hb hk h9 h3 w,Result.andThen_ok];exact this.1,this.2⟩
end
section
variable{P:Program}{I:bZ}{base:fM}{H:AH}{w:World}
theorem vN{F D:Type}{r}{f:F->D}{v}(h:r.map f=some v):∃a,r=some a/\f a=v:=by simp_all
theorem afs{a n v}(h:nX a=some n)(ha:VR I a v):∃k,v=.int k (n:Int):=by
 unfold nX at h;split at h
 .cases h;simp at ha;exact⟨_,ha⟩
 .cases h
theorem Im(n):VR I (yl n) (goInt n):=by simp[yl,goInt,VR]
def wz(I:bZ)(a:Option AV)(v:Option Value):Prop:=(a=none/\v=none)\/(∃x y,a=some x/\v=some y/\VR I x y)
theorem agM{v k n y c}(hv:v=.int k (n:Int))(h:n<=y)(w):(Instr.sliceBound v y c).run P w=.ok n w:=by subst hv;simp[Instr.sliceBound,asIntOf,h]
theorem afP{a v}{n d y:Nat}{c:BoundsCode}(h:(match a with|some x=>nX x|none=>some d)=some n)(hr:wz I a v)(cr:n<=y)(w:World):
 (match v with|some x=>Instr.sliceBound x y c|none=>pure d:Sem Nat).run P w=.ok n w:=by
 rcases hr with⟨rfl,rfl⟩|⟨x,y,rfl,rfl,DE⟩
 .simp at h;subst h;simp
 .obtain⟨k,rfl⟩:=afs h DE;exact agM rfl cr w
theorem Zj{IZ lo hi tI en l h len cap}(e1:(match hi with|some v=>nX v|none=>some len)=some h)(e2:(match lo with|some v=>nX v|none=>some 0)=some l)(hl:wz I lo tI)(hh:wz I hi en)(h1:h<=cap)(h2:l<=h)(w):
 (Instr.sliceBounds IZ len cap tI en none).run P w=.ok (l,h,cap) w:=by
 have nU:=λw=>afP (P:=P) (c:=.sliceB) e2 hl h2 w
 have ru:=λw=>afP (P:=P) (c:=if IZ then .sliceAcap else .sliceAlen) e1 hh h1 w
 simp only[Instr.sliceBounds];cases en<;>cases tI<;>simp at nU ru⊢<;>simp[nU,ru]
theorem Zk{IZ m' lo ma tI h' ha l h m len cap}(e0:nX ma=some m)(hm:VR I ma m')(e1:nX ha=some h)(hh:VR I ha h')(e2:(match lo with|some v=>nX v|none=>some 0)=some l)(hl:wz I lo tI)(h0:m<=cap)(h1:h<=m)(h2:l<=h)(w):
 (Instr.sliceBounds IZ len cap tI (some h') (some m')).run P w=.ok (l,h,m) w:=by
 have nU:=λw=>afP (P:=P) (c:=.slice3C) e2 hl h2 w
 obtain⟨k,rfl⟩:=afs e0 hm;obtain⟨k',rfl⟩:=afs e1 hh;have b0:=λw=>agM (P:=P) (v:=.int k (m:Int)) (c:=if IZ then .slice3Acap else .slice3Alen) rfl h0 w
 have b1:=λw=>agM (P:=P) (v:=.int k' (h:Int)) (c:=.slice3B) rfl h1 w
 simp only[Instr.sliceBounds];cases tI<;>simp at nU⊢<;>simp[nU,b0,b1]
theorem aJE{b lo hi tI en v}(h:Zl (fg b) lo hi=some v)(hl:wz I lo tI)(hh:wz I hi en)(w):
 ∃l h',(Instr.sliceBounds false b.size b.size tI en none).run P w=.ok (l,h',b.size) w/\VR I v (.string (b.extract l h')):=by
 unfold Zl at h;split at h;next h' l e1 e2=>have⟨hb,h⟩:=di h;cases h;simp at hb;rw[BW]at hb e1;refine⟨l,h',Zj e1 e2 hl hh hb.1 hb.2 w,⟨_,rfl,?_⟩⟩;simp only[fg,ByteArray.data_extract,Array.toList_extract,List.map_take,List.map_drop];rw[BO]
 .cases h
theorem RY{O ev x r}(hr:oN I O ev x.toList)(h:qx O x=some r):wz I r (x.map ev):=aFc hr h
theorem zp(b o n):(⟨b,o,none⟩:Addr).add n=⟨b,o+n,none⟩:=by unfold Addr.add;split<;>simp_all
theorem agN{id off len cap sz x ex lo hi mx tI en RK v e c}(h:Jz id off len cap sz ex lo hi mx=some v)(he:I id=some e)(hx:c=0\/x=e.o+off)(bB:len<=c)(Dm:ex=true->c=cap)(kh:e.o+off+c*sz<=e.n)(hl:wz I lo tI)(hh:wz I hi en)(hm:wz I mx RK)(w IZ):
 ∃l h' m,(Instr.sliceBounds IZ len c tI en RK).run P w=.ok (l,h',m) w/\
  VR I v (.slice (if m=l then some ⟨e.b,x,none⟩else some ((⟨e.b,x,none⟩:Addr).add (l*sz))) (h'-l) (m-l)):=by
 have key:∀{l h m:Nat} {ex':Bool} {yd:Nat},l<=h->h<=m->m<=c->(ex'=true->m-l=yd)->
  VR I (.bK id (off+l*sz) (h-l) yd sz ex') (.slice (if m=l then some ⟨e.b,x,none⟩else some ((⟨e.b,x,none⟩:Addr).add (l*sz))) (h-l) (m-l)):=by
  intro l h m ex' yd h1 h2 h3 h4;have hr:e.o+(off+l*sz)+(m-l)*sz<=e.n:=by
   have e1:l*sz+(m-l)*sz=m*sz:=by rw[<-yW];congr 1;omega
   have e2:=Sg sz h3;omega
  by_cases zM:m=l
  .exact⟨e,x,m-l,he,by rw[aP zM],.inl (by omega),by omega,h4,hr⟩
  .refine⟨e,x+l*sz,m-l,he,by rw[aw zM,zp],.inr ?_,by omega,h4,hr⟩;rcases hx with hx|hx<;>omega
 unfold Jz at h;split at h
 .rcases hm with⟨_,rfl⟩|⟨_,_,e1,_⟩
  case inr=>cases e1
  split at h;next h' l e1 e2=>
   have⟨hb,h⟩:=di h;cases h;simp at hb;have hc:h'<=c:=by
    grind
   refine⟨l,h',c,Zj e1 e2 hl hh hc hb.2 w,key hb.2 hc (ct _) (λe=>by subst e;rw[Dm rfl];rfl)⟩
  .cases h
 next m=>
  rcases hm with⟨e1,_⟩|⟨ma,mv,e1,rfl,Bt⟩
  case inl=>cases e1
  cases e1;split at h;next m' h' l e0 e1 e2=>
   have⟨hb,h⟩:=di h;cases h;simp at hb;have hc:m'<=c:=by
    grind
   rcases hh with⟨rfl,rfl⟩|⟨ha,hv,rfl,rfl,hav⟩
   .cases e1
   .exact⟨l,h',m',Zk e0 Bt e1 hav e2 hl hc hb.1.2 hb.2 w,key hb.2 hb.1.2 hc (λ_=>rfl)⟩
  .cases h
theorem aJF{len sz c cs a lo hi mx tI en RK v}(h:SB cs len sz lo hi mx=some v)(hx:VR I (.aq cs len sz) (.slice a len c))(hl:wz I lo tI)(hh:wz I hi en)(hm:wz I mx RK)(w):
 ∃l h' m,(Instr.sliceBounds true len c tI en RK).run P w=.ok (l,h',m) w/\VR I v (.slice (if m=l then a else a.map (·.add (l*sz))) (h'-l) (m-l)):=by
 unfold SB at h;split at h
 .rcases hm with⟨_,rfl⟩|⟨_,_,e1,_⟩
  case inr=>cases e1
  split at h;next h' l e1 e2=>
   have⟨hb,h⟩:=di h;cases h;simp at hb;have⟨a',c',e,bB,hd⟩:=hx;cases e;have hc:h'<=c:=by rcases hd with hd|⟨_,_,_,_,_,_,hd,_⟩<;>omega
   refine⟨l,h',c,Zj e1 e2 hl hh hc hb.2 w,?_⟩;have m1:(h'-l)*sz+l*sz=h'*sz:=by rw[<-yW];congr 1;omega
   have m2:=Sg sz hb.1;have Bq:((cs.drop (l*sz)).take ((h'-l)*sz)).length=(h'-l)*sz:=by simp;omega
   refine⟨_,_,rfl,Bq,?_⟩;by_cases h0:h'-l=0
   .exact .inl h0
   .right;rcases hd with hd|⟨b,x,dL,el,fz,rfl,ou,fY,ca,hv⟩
    .omega
    .refine⟨b,x+l*sz,dL,el,fz,?_,by omega,fY,by rw[Bq];omega,?_⟩
     .rw[aw (by omega)];simp[zp]
     .rw[Bq];have h2:=(hv.AJ (l*sz)).zj ((h'-l)*sz);have e3:(((dL.toList.drop x).take cs.length).drop (l*sz)).take ((h'-l)*sz)=(dL.toList.drop (x+l*sz)).take ((h'-l)*sz):=by rw[BO,Ad,Gq];congr 1;omega
      rw[e3]at h2;exact h2
  .cases h
 next m=>
  rcases hm with⟨e1,_⟩|⟨ma,mv,e1,rfl,Bt⟩
  case inl=>cases e1
  cases e1;split at h;next m' h' e0 e1=>
   have⟨hb,h⟩:=di h;cases h;simp at hb;obtain⟨rfl,ie⟩:=hb;have⟨a',c',e,bB,hd⟩:=hx;cases e;have hc:m'<=c:=by rcases hd with hd|⟨_,_,_,_,_,_,hd,_⟩<;>omega
   rcases hh with⟨rfl,rfl⟩|⟨ha,hv,rfl,rfl,hav⟩
   .cases e1
   .refine⟨0,m',m',Zk e0 Bt e1 hav rfl hl hc (ct _) (eh _) w,?_⟩;have m2:=Sg sz ie;have Bq:(cs.take (m'*sz)).length=m'*sz:=by simp;omega
    refine⟨_,rfl,Bq,?_⟩;by_cases h0:m'=0
    .exact .inl h0
    .right;rcases hd with hd|⟨b,x,dL,el,fz,rfl,ou,fY,ca,hv⟩
     .omega
     .refine⟨b,x,dL,el,fz,?_,fY,by rw[Bq];omega,?_⟩
      .rw[aw h0];simp[zp]
      .rw[Bq];have h2:=hv.zj (m'*sz);have e3:((dL.toList.drop x).take cs.length).take (m'*sz)=(dL.toList.drop x).take (m'*sz):=by rw[List.take_take];congr 1;omega
       rw[e3]at h2;exact h2
  .cases h
theorem dK.OH:∀{es ms},dK I es ms->es.length=ms.length
 |[],_,h=>by simp only[dK]at h;subst h;rfl
 |(k,v,b)::es,_,h=>by obtain⟨m,ms,rfl,_,_,_,h⟩:=h;simp[dK.OH h]
theorem aD4(hw:WR I base H w){x v n d t ts T vs}(hx:VR I x v)(h:I4 H x=some n)(hu:P.underlying t=some d)(kV:zS d x=true)(h0:ts[0]? =some t)(h1:vs[0]? =some v):
 (Builtin.len_ ts T vs).run P w=.ok (goInt n) w:=by
 cases x<;>simp only[I4]at h;case ao s=>cases h;obtain⟨b,rfl,rfl⟩:=hx;cases d<;>simp[zS]at kV;simp[Builtin.len_,h0,h1,run_underlying hu w,BW]
 case bK=>cases h;obtain⟨e,y,c,_,rfl,_⟩:=hx;cases d<;>simp[zS]at kV;simp[Builtin.len_,h0,h1,run_underlying hu w]
 case aq=>cases h;obtain⟨a,c,rfl,_⟩:=hx;cases d<;>simp[zS]at kV;simp[Builtin.len_,h0,h1,run_underlying hu w]
 case ad=>cases h;cases d<;>simp[zS]at kV;rcases hx with⟨rfl,rfl⟩|⟨e,x,c,_,rfl,_⟩<;>simp[Builtin.len_,h0,h1,run_underlying hu w]
 case gV=>cases h;cases d<;>simp[zS]at kV;rcases hx with⟨rfl,rfl⟩|⟨e,x,c,_,rfl,_⟩<;>simp[Builtin.len_,h0,h1,run_underlying hu w]
 case tb=>cases h;obtain⟨a,rfl⟩:=hx;cases d<;>simp[zS]at kV;simp[Builtin.len_,h0,h1,run_underlying hu w]
 case aM=>cases h;simp only[VR]at hx;subst hx;cases d<;>simp[zS]at kV;simp[Builtin.len_,h0,h1,run_underlying hu w]
 case oz=>cases h;simp only[VR]at hx;subst hx;cases d<;>simp[zS]at kV;simp[Builtin.len_,h0,h1,run_underlying hu w]
 case aS id=>
  split at h;next es clock p ho=>cases h;obtain⟨e,he,rfl⟩:=hx;obtain⟨o,h3,bF,rfl,h2,_⟩:=hw.ey _ _ e ho he;cases d<;>simp[zS]at kV;have:=h2.OH;simp[Builtin.len_,h0,h1,run_underlying hu w,getObj,Sem.run,h3,this]
  .cases h
 all_goals cases h
end
section
variable{P:Program}{I:bZ}{base:fM}{H:AH}{w:World}{O:Operand->Option AV}{ev:Operand->Value}
def T9(I:bZ)(es:List (AV×AV×Nat))(ms:List MapEntry)(i:Nat):Option (Nat×AV×Nat)->Option (Nat×Value)->Prop
 |none,r'=>r'=none
 |some (j,v,b),r'=>∃m k,r'=some (j,m.val)/\i<=j/\es[j-i]? =some (k,v,b)/\ms[j-i]? =some m/\VR I v m.val/\m.born=b
theorem dK.anu{eq k T vk}(heq:∀y vy r,eq k y=some r->VR I y vy->∀w,(Op.equal T vk vy).run P w=.ok r w):
 ∀{es ms i r},dK I es ms->pD eq k es i=some r->∀w,
  ∃r',(Instr.findAsking T vk ms i).run P w=.ok r' w/\T9 I es ms i r r'
 |[],ms,i,r,he,h,w=>by simp only[dK]at he;subst he;simp only[pD]at h;cases h;exact⟨none,by simp[Instr.findAsking],rfl⟩
 |(x,v,b)::es,ms,i,r,he,h,w=>by
  obtain⟨m,ms,rfl,hk,hv,hb,he⟩:=he;simp only[pD]at h;split at h;next hq=>cases h;refine⟨some (i,m.val),?_,m,x,rfl,ct _,by simp,by simp,hv,hb⟩;simp[Instr.findAsking,heq x m.key true hq hk w]
  next hq=>
   have⟨r',h1,h2⟩:=dK.anu heq he h w;refine⟨r',?_,?_⟩
   .simp[Instr.findAsking,heq x m.key false hq hk w,h1]
   .cases r with
    |none=>exact h2
    |some r=>
     have⟨j,v',b'⟩:=r;have⟨m',k',e1,e2,e3,e4,e6,e5⟩:=h2;have:j-i=(j-(i+1))+1:=by omega
     exact⟨m',k',e1,by omega,by rw[this,qda];exact e3,by rw[this,qda];exact e4,e6,e5⟩
  .cases h
theorem ati{d k y b T}(hd:P.underlying T=some d)(h:Instr.sameNow d k y=some b)(w):(Op.equal T k y).run P w=.ok b w:=by
 unfold Instr.sameNow at h;split at h
 .split at h;next e=>subst e;cases h;exact run_equalIn_int w 9999 T _ _ _ _ hd
  .cases h
 .cases h;rename_i a b;have:=run_equalIn_string w 9999 T a b hd;rw[<-beq_toListBytes]at this;exact this
 .cases h;exact run_equalIn_bool w 9999 T _ _ hd
 .cases h
theorem anw{d k T}(hd:P.underlying T=some d)(w):∀{ms i r},Instr.findNow d k ms i=some r->(Instr.findAsking T k ms i).run P w=.ok r w
 |[],i,r,h=>by simp[Instr.findNow]at h;subst h;simp[Instr.findAsking]
 |m::ms,i,r,h=>by
  simp only[Instr.findNow]at h;split at h;next hs=>cases h;simp[Instr.findAsking,ati hd hs w]
  next hs=>simp[Instr.findAsking,ati hd hs w,anw hd w h]
  .cases h
theorem aAT{d k T}(hd:P.underlying T=some d){ms r w}(h:(Instr.findAsking T k ms).run P w=.ok r w):(Instr.findKey T k ms).run P w=.ok r w:=by
 simp only[Instr.findKey,Sem.run_bind,run_underlying hd w,Result.andThen_ok];cases hn:Instr.findNow d k ms 0 with
 |none=>simp[h]
 |some r'=>have:=anw hd w hn;rw[this]at h;cases h;simp
theorem Fo{kt k vk d}(hd:P.underlying kt=some d)(hk:VR I k vk){es ms}(he:dK I es ms){r}(h:pD (iP P 100 kt) k es 0=some r)(w):∃r',(Instr.findKey kt vk ms).run P w=.ok r' w/\T9 I es ms 0 r r':=by have⟨r',h1,h2⟩:=dK.anu (λy vy r hq hy w=>adg 100 kt k y r vk vy hq hk hy Op.maxDepth (by simp[Op.maxDepth]) w) he h w;exact⟨r',aAT hd h1,h2⟩
theorem ar6{d t a v}(hu:P.underlying t=some d)(h:R4 d a=true)(ha:VR I a v)(em n w):
 (Instr.checkKey em (n+1) t v).run P w=.ok () w:=by
 cases d<;>cases a<;>simp[R4]at h;all_goals
 all_goals first
  |(subst ha;simp[Instr.checkKey,run_underlying hu w];done)
  |(obtain⟨rfl,_⟩:=ha;simp[Instr.checkKey,run_underlying hu w];done)
  |(obtain⟨⟨_,rfl,_⟩,_⟩:=ha;simp[Instr.checkKey,run_underlying hu w];done)
  |(obtain⟨_,rfl,_⟩:=ha;simp[Instr.checkKey,run_underlying hu w])
theorem aFr{cs cs' f}(gA:bf I cs cs'.toList)(h:af0 P cs f=true)(em n w):
 ∃x,(part f.type cs' f.offset).run P w=.ok x w/\(Instr.checkKey em (n+1) f.type x).run P w=.ok () w:=by
 unfold af0 at h;split at h;next d a e1 e2=>
  have⟨x,e3,e4⟩:=gA.get e2;have e5:cs'[f.offset]? =some x:=by simpa using e3
  refine⟨x,?_,ar6 e1 h e4 em n w⟩;cases d<;>cases a<;>simp[R4]at h<;>simp[part,isAgg,run_underlying e1 w,e5]
 .cases h
theorem Vi{t k v}(h:uI P t k=true)(hk:VR I k v)(em n w):(Instr.checkKey em (n+2) t v).run P w=.ok () w:=by
 unfold uI at h;split at h;next gz cs hu=>
  obtain⟨cs',rfl,gA⟩:=hk;rw[Instr.checkKey];simp only[Sem.run_bind,run_underlying hu w,Result.andThen_ok];rw[<-Array.forIn_toList];generalize gz.toList=fs at h;induction fs with
  |nil=>simp
  |cons f fs ih=>
   simp only[List.all_cons,cT]at h;have⟨h1,h2⟩:=h;have⟨x,e6,e7⟩:=aFr gA h1 em n w;simp only[List.forIn_cons,Sem.run_bind,Sem.run_ite];split
   .simp only[e6,Result.andThen_ok,e7,Sem.run_pure];exact ih h2
   .simp only[Sem.run_pure,Result.andThen_ok];exact ih h2
 next hu _=>exact ar6 hu h hk em (n+1) w
 .cases h
theorem T9.at{es ms j v b r'}(h:T9 I es ms 0 (some (j,v,b)) r'):
 ∃m k,r'=some (j,m.val)/\es[j]? =some (k,v,b)/\ms[j]? =some m/\VR I v m.val/\m.born=b:=by
 have⟨m,k,e1,_,e3,e4,e5,e6⟩:=h;exact⟨m,k,e1,by simpa using e3,by simpa using e4,e5,e6⟩
end
section
variable{P:Program}{I:bZ}{base:fM}{H:AH}{w:World}{O:Operand->Option AV}{ev:Operand->Value}
theorem adm{mx}:∀{l a r va vs},VR I a va->bf I l vs->LM mx a l=some r->
 ∃v,(vs.foldlM (if mx then Builtin.max2 else Builtin.min2) va:Sem Value).run P w=.ok v w/\VR I r v
 |[],a,r,va,vs,ha,hl,h=>by simp only[bf]at hl;subst hl;simp[LM]at h;subst h;exact⟨va,by simp,ha⟩
 |b::l,a,r,va,vs,ha,hl,h=>by
  obtain⟨vb,vs,rfl,hb,hl⟩:=hl;cases a<;>cases b<;>simp only[LM]at h<;>try (cases h;done)
  rename_i k x k' y;subst ha hb;have⟨v,h1,h2⟩:=adm (va:=Value.int k (bif mx then(if y>x then y else x)else(if y<x then y else x))) (by simp only[VR]) hl h;refine⟨v,?_,h2⟩;rw[List.foldlM_cons,Sem.run_bind];cases mx
  .have e:(Builtin.min2 (.int k x) (.int k' y)).run P w=.ok (.int k (if y<x then y else x)) w:=rfl;simp at h1⊢;rw[e];exact h1
  .have e:(Builtin.max2 (.int k x) (.int k' y)).run P w=.ok (.int k (if y>x then y else x)) w:=rfl;simp_all
theorem aNl{a v v'}(h:ZR a=some v)(ha:VR I a v'):v'=v:=by unfold ZR at h;split at h<;>first|(cases h;simpa[VR]using ha)|cases h
theorem acV{id off n i elem v}(h:E' P id off n elem i=some v):∃s,(∀w,(sizeOf elem).run P w=.ok s w)/\i<n/\v=.aa id (off+i*s):=by
 unfold E' at h;split at h;next s hs=>have⟨hb,h⟩:=di h;cases h;exact⟨s,j6 hs,by have:=qA hb;omega,rfl⟩
 .cases h
theorem az2{cs len sz i elem v}(h:VB P cs len sz elem i=some v):(∀w,(sizeOf elem).run P w=.ok sz w)/\i<len/\v=.qI ((cs.drop (i*sz)).take sz):=by
 unfold VB at h;split at h;next s hs=>have⟨hb,h⟩:=di h;cases h;simp only[cT,vU]at hb;have:=dN hb.1;subst this;exact⟨j6 hs,by omega,rfl⟩
 .cases h
theorem ax0{sb xT ok x v vx d}(hu:P.underlying sb=some d)(hd:∀ms,d≠.interface ms)(h:ab9 P sb ok x=some v)(hx:VR I x vx)(w):
 ∃v',(Instr.typeAssert vx xT sb ok).run P w=.ok v' w/\VR I v v':=by
 unfold ab9 at h;have hz:∀{z:AV},kA P sb=some z->∃vz,VR I z vz/\∀w,(zeroValue sb).run P w=.ok vz w:=λhz=>Ch hz
 split at h;next t a=>
  obtain⟨va,rfl,F0⟩:=hx;cases hb:Nat.beq t sb
  .rw[hb]at h;simp only[cond_false]at h;have cx:t≠sb:=by intro e;subst e;simp at hb
   have⟨aN,h⟩:=di h;subst aN;obtain⟨z,DF,rfl⟩:=vN h;have⟨vz,h1,h2⟩:=hz DF;refine⟨.tuple #[vz,.bool false],?_,⟨_,rfl,r_.2 ⟨h1,pt (by simp[VR])⟩⟩⟩;cases d<;>first
    |(exact absurd rfl (hd _))
    |simp[Instr.typeAssert,run_underlying hu w,cx,h2]
  .rw[hb]at h;simp at h;cases h;have he:=dN hb;cases ok
   .refine⟨va,?_,F0⟩;cases d<;>first
     |(exact absurd rfl (hd _))
     |simp[Instr.typeAssert,run_underlying hu w,he]
   .refine⟨.tuple #[va,.bool true],?_,⟨_,rfl,r_.2 ⟨F0,pt (by simp[VR])⟩⟩⟩;cases d<;>first
     |(exact absurd rfl (hd _))
     |simp[Instr.typeAssert,run_underlying hu w,he]
 .simp only[VR]at hx;subst hx;have⟨aN,h⟩:=di h;subst aN;obtain⟨z,DF,rfl⟩:=vN h;have⟨vz,h1,h2⟩:=hz DF;refine⟨.tuple #[vz,.bool false],?_,⟨_,rfl,r_.2 ⟨h1,pt (by simp[VR])⟩⟩⟩;cases d<;>first
   |(exact absurd rfl (hd _))
   |simp[Instr.typeAssert,run_underlying hu w,h2]
 .cases h
theorem so{r o}(h:w.heap[r]? =some o)(hc:o.isCells=false):(getObj r).run P w=.ok o w:=by cases o<;>simp[Obj.isCells]at hc<;>simp[getObj,Sem.run,h]
theorem atr{r o o'}(h:w.heap[r]? =some o)(hc:o.isCells=false):(setObj r o').run P w=.ok () {w with heap:=w.heap.setIfInBounds r o'}:=by cases o<;>simp[Obj.isCells]at hc<;>simp[setObj,Sem.run,h]
theorem aAB(hw:WR I base H w){m vm es}(h:Ff H m=some es)(hm:VR I m vm):
 ∃bF:Array MapEntry,dK I es bF.toList/\((vm=.map none/\bF= #[])\/∃r clock,vm=.map (some r)/\w.heap[r]? =some (.map bF clock)):=by
 unfold Ff at h;split at h
 .cases h;simp only[VR]at hm;subst hm;exact⟨#[],by simp[dK],.inl aA⟩
 .split at h;next clock p ho=>
   cases h;obtain⟨e,he,rfl⟩:=hm;obtain⟨o,h1,bF,rfl,h2,_⟩:=hw.ey _ _ e ho he
   grind
  .cases h
 .cases h
theorem aqt{t kt elem vm vk bF ok r}(hu:P.underlying t=some (.map kt elem))(hm:(vm=.map none/\bF= #[])\/∃r clock,vm=.map (some r)/\w.heap[r]? =some (.map bF clock))(rq:(Instr.checkKey bF.isEmpty 10000 kt vk).run P w=.ok () w)(hf:(Instr.findKey kt vk bF.toList).run P w=.ok r w){v b}(hr:(∃i,r=some (i,v)/\b=true)\/(r=none/\(zeroValue elem).run P w=.ok v w/\b=false)):
 (Instr.lookup t vm vk ok).run P w=.ok (if ok then .tuple #[v,.bool b]else v) w:=by
 unfold Instr.lookup;rcases hm with⟨rfl,rfl⟩|⟨r0,clock,rfl,hg⟩
 .simp only[Sem.run_bind,run_underlying hu w,Result.andThen_ok,Sem.run_pure,rq,hf];rcases hr with⟨i,rfl,rfl⟩|⟨rfl,hz,rfl⟩
  .simp
  .simp[hz]
 .simp only[Sem.run_bind,run_underlying hu w,Result.andThen_ok,Sem.run_pure,so hg rfl,rq,hf];rcases hr with⟨i,rfl,rfl⟩|⟨rfl,hz,rfl⟩
  .simp
  .simp[hz]
theorem arN{ok b a v}(h:VR I a v):VR I (n5 ok a b) (if ok then .tuple #[v,.bool b]else v):=by
 cases ok
 .simpa[n5]using h
 .exact⟨_,rfl,r_.2 ⟨h,pt (by simp[VR])⟩⟩
theorem aEi{kt elem t key v vm vk ok es bF}(hu:P.underlying t=some (.map kt elem))(hp:uI P kt key=true)(he:dK I es bF.toList)(dP:(vm=.map none/\bF= #[])\/∃r clock,vm=.map (some r)/\w.heap[r]? =some (.map bF clock))(h:(match pD (iP P 100 kt) key es 0 with
 |some (some (_,v,_))=>some (n5 ok v true)
 |some none=>(kA P elem).map (n5 ok · false)
 |none=>none)=some v) (hk:VR I key vk):∃v',(Instr.lookup t vm vk ok).run P w=.ok v' w/\VR I v v':=by
 have wU:∃d,P.underlying kt=some d:=by
  cases hkt:P.underlying kt with
  |none=>simp[uI,hkt]at hp
  |some d=>exact⟨d,rfl⟩
 have⟨d,hd⟩:=wU;have rq:=Vi hp hk bF.isEmpty 9998 w;split at h;next i x b hf=>cases h;have⟨r',h1,h2⟩:=Fo hd hk he hf w;obtain⟨me,k,rfl,e3,e4,e5,e6⟩:=h2.at;exact⟨_,aqt hu dP rq h1 (.inl ⟨i,rfl,rfl⟩),arN e5⟩
 next hf=>obtain⟨z,hz,rfl⟩:=vN h;have⟨vz,Ri,hz2⟩:=Ch (I:=I) hz;have⟨r',h1,h2⟩:=Fo hd hk he hf w;subst h2;exact⟨_,aqt hu dP rq h1 (.inr ⟨rfl,hz2 w,rfl⟩),arN Ri⟩
 .cases h
theorem aEg(hw:WR I base H w){kt elem t m key v vm vk ok}(hu:P.underlying t=some (.map kt elem))(h:Rt P H kt elem m key ok=some v)(hm:VR I m vm)(hk:VR I key vk):
 ∃v',(Instr.lookup t vm vk ok).run P w=.ok v' w/\VR I v v':=by
 have⟨hp,h⟩:=di h;split at h;next es jM=>have⟨bF,he,dP⟩:=aAB hw jM hm;exact aEi hu hp he dP h hk
 .cases h
theorem art{s v v'}(h:VR I v v'):VR I (Jg s v) v':=by
 unfold Jg;split
 .simp only[VR]at h⊢;exact .inl ⟨trivial,h⟩
 .exact h
theorem afB{elem ok v v'}(h:VR I v v'):VR I (mc P H elem ok v) v':=by
 unfold mc;split
 .exact h
 .split
  .split
   .cases ok
    .exact art h
    .simp;split
     .obtain⟨cs',rfl,hc⟩:=h;have⟨x,l,e,h1,h2⟩:=hc;exact⟨cs',rfl,x,l,e,art h1,h2⟩
     .exact h
   .exact h
  .exact h
end
section
variable{P:Program}{I:bZ}{base:fM}{H:AH}{w:World}{O:Operand->Option AV}{ev:Operand->Value}
theorem mW{s v}(h:s.run P w=.ok v w):(do pure (.value (<-s)):Sem Next).run P w=.ok (.value v) w:=by simp[h]
theorem ayv{t gz z v vz ps pb}(hu:P.underlying t=some (.struct gz))(hz:VR I z vz)(kX:(zeroValue t).run P w=.ok vz w)(hp:Uz I ps pb.toList)(h:acm P z gz ps=some v):∃v',(Instr.build t pb).run P w=.ok v' w/\VR I v v':=by
 unfold acm at h;split at h;next pl kL=>
  obtain⟨cs,hf,rfl⟩:=vN h;have⟨r',h1,h2⟩:=V5 hp (AV.vh hz) hf;refine⟨.agg r',?_,⟨_,rfl,h2⟩⟩;have h3:=aFq kL w;have h4:(λ(x:Nat)=>(pl.toArray)[x]?)=(λx=>pl[x]?):=by funext x;simp
  simp only[Instr.build,Sem.run_bind,kX,Result.andThen_ok,run_underlying hu w,h3,h4,h1,Sem.run_pure]
 .cases h
theorem ayu{t elem n z v vz ps pb}(hu:P.underlying t=some (.array n elem))(hz:VR I z vz)(kX:(zeroValue t).run P w=.ok vz w)(hp:Uz I ps pb.toList)(h:ack P z elem ps=some v):∃v',(Instr.build t pb).run P w=.ok v' w/\VR I v v':=by
 unfold ack at h;split at h;next s hs=>obtain⟨cs,hf,rfl⟩:=vN h;have⟨r',h1,h2⟩:=V5 hp (AV.vh hz) hf;refine⟨.agg r',?_,⟨_,rfl,h2⟩⟩;simp only[Instr.build,Sem.run_bind,kX,Result.andThen_ok,run_underlying hu w,j6 hs w,h1,Sem.run_pure]
 .cases h
theorem aDE{t pb v}(hr:oN I O ev (pb.toList.map (·.2)))(h:aeM P O t pb=some v):
 ∃v',(Instr.build t (pb.map λ(i,x)=>(i,ev x))).run P w=.ok v' w/\VR I v v':=by
 unfold aeM at h;split at h;next z gz ps e1 e2 e3=>have⟨vz,h1,h2⟩:=Ch (I:=I) e1;exact ayv e2 h1 (h2 w) (by have:=UX hr e3;simpa using this) h
 next z n elem ps e1 e2 e3=>have⟨vz,h1,h2⟩:=Ch (I:=I) e1;exact ayu e2 h1 (h2 w) (by have:=UX hr e3;simpa using this) h
 .cases h
theorem NM{a}(h:G0 a=true):(match a with|some v=>nX v|none=>some 0)=some 0:=by
 cases a with
 |none=>rfl
 |some v=>
  simp only[G0]at h;cases hn:nX v with
  |none=>simp[hn]at h
  |some n=>simp_all
theorem aDG(hw:WR I base H w){t x lo hi mx v}(hr:oN I O ev ((#[x]++lo.toArray++hi.toArray++mx.toArray).toList))(h:DK P O H t x lo hi mx=some v):
 ∃v',(Instr.sliceAt t (ev x) (lo.map ev) (hi.map ev) (mx.map ev)).run P w=.ok v' w/\VR I v v':=by
 unfold DK at h;split at h;next l hh m e1 e2 e3=>
  have r1:=RY (hr.qS (l':=lo.toList) (λy hy=>by cases lo<;>simp at hy;subst hy;simp)) e1;have r2:=RY (hr.qS (l':=hi.toList) (λy hy=>by cases hi<;>simp at hy;subst hy;simp)) e2;have r3:=RY (hr.qS (l':=mx.toList) (λy hy=>by cases mx<;>simp at hy;subst hy;simp)) e3;have rx:=hr x (by simp);split at h;next s hu hx=>
   obtain⟨b,hb,rfl⟩:=rx _ hx;obtain⟨hm,h⟩:=di h;have zL:m=none:=by cases m<;>simp at hm⊢
   subst zL;have Dt:mx.map ev=none:=by rcases r3 with⟨_,h⟩|⟨_,_,e,_⟩;exact h;cases e
   obtain⟨l',h',h1,h2⟩:=aJE (P:=P) h r1 r2 w;refine⟨_,?_,h2⟩;simp[Instr.sliceAt,Instr.slice,run_underlying hu w,hb,Dt,h1]
  next elem id off len cap sz ex hu hx=>
   obtain⟨hs,h⟩:=di h;obtain⟨e,y,c,he,hv,hy,bB,Dm,kh⟩:=rx _ hx;obtain⟨l',h',m',h1,h2⟩:=agN (P:=P) h he hy bB Dm kh r1 r2 r3 w true;have ca:cy P elem=some sz:=by
    cases hq:cy P elem with
    |none=>simp[hq]at hs
    |some s=>simp[hq]at hs;rw[hs]
   refine⟨_,?_,h2⟩;by_cases zM:m'=l'
   .simp[Instr.sliceAt,Instr.slice,run_underlying hu w,hv,h1,j6 ca w,zM]
   .simp[Instr.sliceAt,Instr.slice,run_underlying hu w,hv,h1,j6 ca w,zM]
  next elem cs len sz hu hx=>
   obtain⟨hs,h⟩:=di h;have hvr:=rx _ hx;have apl:=hvr;simp only[VR]at apl;obtain⟨a,c,hv,_⟩:=apl;rw[hv]at hvr;obtain⟨l',h',m',h1,h2⟩:=aJF (P:=P) h hvr r1 r2 r3 w;have ca:cy P elem=some sz:=by
    cases hq:cy P elem with
    |none=>simp[hq]at hs
    |some s=>simp[hq]at hs;rw[hs]
   refine⟨_,?_,h2⟩;simp[Instr.sliceAt,Instr.slice,run_underlying hu w,hv,h1,j6 ca w]
  next elem id len sz hu hx=>
   obtain⟨hs,hq⟩:=di h;clear h;simp only[cT]at hs;obtain⟨⟨hs,Qn⟩,hmn⟩:=hs;have Qn:=qA Qn;have zL:m=none:=by cases m<;>simp at hmn⊢
   subst zL;have ca:cy P elem=some sz:=by
    cases hq:cy P elem with
    |none=>simp[hq]at hs
    |some s=>simp[hq]at hs;rw[hs]
   rcases rx _ hx with⟨h0,_⟩|⟨e,y,c,he,hv,hy,ou,kh⟩
   .omega
   .obtain⟨l',h',m',h1,h2⟩:=agN (P:=P) hq he (by simpa using hy) ou (λh=>by cases h) (by simpa using kh) r1 r2 r3 w true;refine⟨_,?_,h2⟩;by_cases zM:m'=l'
    .simp[Instr.sliceAt,Instr.slice,run_underlying hu w,hv,h1,j6 ca w,zM]
    .simp[Instr.sliceAt,Instr.slice,run_underlying hu w,hv,h1,j6 ca w,zM]
  next elem xn aQd xsz hu hx=>
   have hv:=rx _ hx;simp only[VR]at hv;obtain⟨hz,hq⟩:=di h;clear h;cases hq;simp only[cT]at hz;obtain⟨⟨⟨⟨⟨z1,z2⟩,z3⟩,z4⟩,z5⟩,z6⟩:=hz;obtain⟨sz,ca⟩:=qeu.1 z6;have b1:=NM z1;have b2:=NM z2;have key:∀L C:Nat,(Instr.sliceBounds true L C (lo.map ev) (hi.map ev) (mx.map ev)).run P w=.ok (0,0,0) w:=by
    intro L C;cases m with
    |none=>cases z4
    |some ma=>
     cases hh with
     |none=>cases z5
     |some ha=>
      rcases r3 with⟨e,_⟩|⟨ma',mv,e,Bt,hma⟩
      .cases e
      .cases e;rcases r2 with⟨e,_⟩|⟨Ix,DD,e,FL,hha⟩
       .cases e
       .cases e;rw[Bt,FL];exact Zk (NM z3) hma b2 hha b1 r1 (eh _) (ct _) (ct _) w
   rcases hv with⟨_,hv⟩|⟨e,x,c,_,hv,_⟩
   .exact⟨.slice none 0 0,by simp[Instr.sliceAt,Instr.slice,run_underlying hu w,hv,key,j6 ca w],by simp[VR]⟩
   .exact⟨.slice (some ⟨e.b,x,none⟩) 0 0,by simp[Instr.sliceAt,Instr.slice,run_underlying hu w,hv,key,j6 ca w],by simp[VR]⟩
  next elem hu hx=>
   have hv:=rx _ hx;simp only[VR]at hv;obtain⟨hz,h⟩:=di h;cases h;simp at hz;have⟨⟨⟨⟨z1,z2⟩,z3⟩,z4⟩,z5⟩:=hz;have⟨sz,ca⟩:=qeu.1 z5;refine⟨.slice none 0 0,?_,by simp[VR]⟩;have b1:=NM z1;have b2:=NM z2;have key:(Instr.sliceBounds true 0 0 (lo.map ev) (hi.map ev) (mx.map ev)).run P w=.ok (0,0,0) w:=by
    cases m with
    |none=>
     have Dt:mx.map ev=none:=by rcases r3 with⟨_,h⟩|⟨_,_,e,_⟩;exact h;cases e
     rw[Dt];exact Zj b2 b1 r1 r2 (ct _) (ct _) w
    |some ma=>
     cases hh with
     |none=>simp at z4
     |some ha=>
      rcases r3 with⟨e,_⟩|⟨ma',mv,e,Bt,hma⟩
      .cases e
      .cases e;rcases r2 with⟨e,_⟩|⟨Ix,DD,e,FL,hha⟩
       .cases e
       .cases e;rw[Bt,FL];exact Zk (NM z3) hma b2 hha b1 r1 (ct _) (ct _) (ct _) w
   simp[Instr.sliceAt,Instr.slice,run_underlying hu w,hv,key,j6 ca w]
  next n elem id off hu hx=>
   have⟨e,he,hv⟩:=rx _ hx;split at h;next sz vs hs jd=>
    have⟨hb,h⟩:=di h;have⟨cs,el,hg,ca,cr,_,_⟩:=hw.TI jd he;have kh:e.o+off+n*sz<=e.n:=by have:=qA hb;omega
    have⟨l',h',m',h1,h2⟩:=agN (P:=P) h he (.inr rfl) (ct n) (λ_=>rfl) kh r1 r2 r3 w false;refine⟨_,?_,h2⟩;by_cases zM:m'=l'
    .simp[Instr.sliceAt,Instr.sureAddr,run_underlying hu w,hv,h1,j6 hs w,zM]
    .simp[Instr.sliceAt,Instr.sureAddr,run_underlying hu w,hv,h1,j6 hs w,zM]
   .cases h
  .cases h
 .cases h
theorem aDF(hw:WR I base H w){b args argTypes T vs v}(hv:bf I args vs.toList)(h:XO P H b args argTypes=some v):
 ∃v',(∀PR,(builtin b argTypes T PR vs).run P w=.ok (.value v') w)/\VR I v v':=by
 unfold XO at h;split at h;next x=>
  obtain⟨vx,rest,e,hx,rfl⟩:=hv;have h0:vs[0]? =some vx:=by rw[<-yU,e];rfl
  unfold aeP at h;split at h;next n elem hu=>
   cases h;cases ht:argTypes[0]? with
   |none=>simp[ht]at hu
   |some t=>simp only[ht,sH]at hu;exact⟨goInt n,λ_=>by simp[builtin,Builtin.len_,ht,h0,run_underlying hu w],Im n⟩
  next d _ hu=>
   have⟨hf,h⟩:=di h;obtain⟨n,hn,rfl⟩:=vN h;cases ht:argTypes[0]? with
   |none=>simp[ht]at hu
   |some t=>simp only[ht,sH]at hu;exact⟨goInt n,λ_=>by simp[builtin,aD4 hw hx hn hu hf ht h0],Im n⟩
  .cases h
 next x=>
  obtain⟨vx,rest,e,hx,rfl⟩:=hv;have h0:vs[0]? =some vx:=by rw[<-yU,e];rfl
  unfold apY at h;split at h;next elem id off len c sz hu=>
   cases h;obtain⟨e',y,c',he,rfl,hy,bB,Dm,kh⟩:=hx;cases ht:argTypes[0]? with
   |none=>simp[ht]at hu
   |some t=>simp only[ht,sH]at hu;exact⟨goInt c',λ_=>by simp[builtin,Builtin.cap_,ht,h0,run_underlying hu w],by rw[Dm rfl];exact Im c⟩
  next elem hu=>
   cases h;subst hx;cases ht:argTypes[0]? with
   |none=>simp[ht]at hu
   |some t=>simp only[ht,sH]at hu;exact⟨goInt 0,λ_=>by simp[builtin,Builtin.cap_,ht,h0,run_underlying hu w],Im 0⟩
  .cases h
 next a l=>have⟨va,rest,e,ha,hl⟩:=hv;have⟨v',h1,h2⟩:=adm (P:=P) (w:=w) ha hl h;refine⟨v',λ_=>?_,h2⟩;simp at h1;simp[builtin,Builtin.max_,e,h1]
 next a l=>have⟨va,rest,e,ha,hl⟩:=hv;have⟨v',h1,h2⟩:=adm (P:=P) (w:=w) ha hl h;refine⟨v',λ_=>?_,h2⟩;simp at h1;simp[builtin,Builtin.min_,e,h1]
 .cases h
theorem asx{o v}(hw:WR I base H w)(hr:oN I O ev o.op.operands.toList)(h:gh P O H o.op=some v):
 ∃v',(execOp ev o).run P w=.ok (.value v') w/\VR I v v':=by
 cases o with
 |mk dst op type pos after guard=>
 simp only at hr h;cases op<;>simp only[gh]at h<;>try (cases h;done)
 case move x=>exact⟨ev x,by simp[execOp],hr x (by simp[Op.operands]) v h⟩
 case assign x=>exact⟨ev x,by simp[execOp],hr x (by simp[Op.operands]) v h⟩
 case pick c a b=>
  unfold aeR at h;split at h;next t hc=>
   have h1:=hr c (by simp[Op.operands]) _ hc;simp only[VR]at h1;cases t
   .simp only[cond_false]at h;exact⟨ev b,by simp[execOp,h1,asBool],hr b (by simp[Op.operands]) v h⟩
   .simp only[cond_true]at h;exact⟨ev a,by simp[execOp,h1,asBool],hr a (by simp[Op.operands]) v h⟩
  .cases h
 case build t pb=>obtain⟨v',h1,h2⟩:=aDE (ev:=ev) (w:=w) (hr.qS (λx hx=>by simpa[Op.operands]using hx)) h;exact⟨v',by simp only[execOp];exact mW h1,h2⟩
 case load t a=>
  unfold XQ at h;split at h;next id off ha=>obtain⟨e,he,hv⟩:=hr a (by simp[Op.operands]) _ ha;obtain⟨v',h1,h2⟩:=ae2 hw h he;exact⟨v',by simp only[execOp];exact mW (by simp[Instr.loadAt,Instr.sureAddr,hv,h1]),h2⟩
  next cs ha=>obtain⟨b,x,dL,el,fz,hv,fY,ca,hc⟩:=hr a (by simp[Op.operands]) _ ha;obtain⟨v',h1,h2⟩:=aEe (P:=P) (w:=w) h (hw.ro _ _ fY).1.2 ca hc;have h2:=VR.d_ (dp.xr I) _ _ h2;exact⟨v',by simp only[execOp];exact mW (by simp[Instr.loadAt,Instr.sureAddr,hv,h1]),h2⟩
  next n off ha=>obtain⟨e,he,hv⟩:=hr a (by simp[Op.operands]) _ ha;obtain⟨v',h1,h2⟩:=aEf hw h he;exact⟨v',by simp only[execOp];exact mW (by simp[Instr.loadAt,Instr.sureAddr,hv,h1]),h2⟩
  .cases h
 case nilCheck x=>
  unfold ap6 at h;split at h;next id off hx=>cases h;have h0:=hr x (by simp[Op.operands]) _ hx;obtain⟨e,he,hv⟩:=h0;exact⟨ev x,by simp[execOp,hv],e,he,hv⟩
  next cs hx=>cases h;have h0:=hr x (by simp[Op.operands]) _ hx;have h1:=h0;obtain⟨b,y,dL,el,fz,hv,_⟩:=h0;exact⟨ev x,by simp[execOp,hv],h1⟩
  next n off hx=>cases h;have h0:=hr x (by simp[Op.operands]) _ hx;obtain⟨e,he,hv⟩:=h0;exact⟨ev x,by simp[execOp,hv],e,he,hv⟩
  next f l c hx=>cases h;have h0:=hr x (by simp[Op.operands]) _ hx;have h1:=h0;obtain⟨f',c',hv,_⟩:=h0;exact⟨ev x,by simp[execOp,hv],h1⟩
  next t a hx=>cases h;have h0:=hr x (by simp[Op.operands]) _ hx;have h1:=h0;obtain⟨a',hv,_⟩:=h0;exact⟨ev x,by simp[execOp,hv],h1⟩
  .cases h
 case binOp op t x y yt=>
  unfold Rn at h;split at h;next a b ha hb=>obtain⟨v',h1,h2⟩:=ayd (P:=P) (hr x (by simp[Op.operands]) _ ha) (hr y (by simp[Op.operands]) _ hb) h w;exact⟨v',by simp only[execOp];exact mW h1,h2⟩
  .cases h
 case unOp op t x=>
  unfold lUn at h;split at h;next a ha=>
   cases hv:ZR a with
   |none=>simp[hv]at h
   |some va=>
    simp only[hv,sH]at h;have h0:=aNl hv (hr x (by simp[Op.operands]) _ ha);cases hp:DO P (Op.unary op va)with
    |none=>simp[hp]at h
    |some v'=>simp only[hp,sH]at h;exact⟨v',by simp only[execOp];exact mW (by rw[h0];exact af3 hp w),arI h⟩
  .cases h
 case convert nA dst x=>
  unfold apZ at h;split at h;next k0 k k1 n h1 h2 h3=>cases h;have h0:=hr x (by simp[Op.operands]) _ h3;simp only[VR]at h0;exact⟨.int k (k.wrap n),by simp only[execOp];exact mW (by simp[convert,run_underlying h1 w,run_underlying h2 w,h0,Conv.intToInt]),by simp[VR]⟩
  next s h1 h2 h3=>cases h;have h0:=hr x (by simp[Op.operands]) _ h3;obtain⟨b,hb,e⟩:=h0;exact⟨.string b,by simp only[execOp];exact mW (by simp[convert,run_underlying h1 w,run_underlying h2 w,hb]),b,rfl,e⟩
  .cases h
 case makeInterface t x=>
  unfold ap5 at h;split at h
  .cases h
  next d a vD hu ha=>
   cases h;refine⟨.iface t (ev x),?_,_,rfl,hr x (by simp[Op.operands]) _ ha⟩;simp only[execOp];refine mW ?_;simp only[Instr.makeInterface,Sem.run_bind,run_underlying hu w,Result.andThen_ok];cases d<;>first
    |rfl
    |(exact absurd rfl (vD _))
  .cases h
 case makeFunc fn first mw=>
  unfold ap4 at h;split at h;next f c hf hc=>
   cases hy:yJ fn
   .rw[hy]at h;cases h;refine⟨.func fn (first.map ev) (mw.map ev),by simp only[execOp];exact mW (by simp[Instr.makeFunc]),_,_,rfl,hy,?_,?_⟩
    .have:=EL (hr.qS (l':=first.toList) (λx hx=>by simp only[Op.operands,DT,iK];exact .inl hx)) hf;simpa using this
    .have:=EL (hr.qS (l':=mw.toList) (λx hx=>by simp only[Op.operands,DT,iK];exact .inr hx)) hc;simpa using this
   .rw[hy]at h;cases h
  .cases h
 case slice t x lo hi mx=>obtain⟨v',h1,h2⟩:=aDG (P:=P) hw (hr.qS (λy hy=>by simpa[Op.operands]using hy)) h;exact⟨v',by simp only[execOp];exact mW h1,h2⟩
 case fieldAddr s x f=>
  unfold ap3 at h;split at h;next gz id off hu hx=>
   obtain⟨e,he,hv⟩:=hr x (by simp[Op.operands]) _ hx;unfold anp at h;split at h;next fd Dn=>
    split at h;next sz ca=>cases h;refine⟨.pointer (some ⟨e.b,e.o+(off+fd.offset),none⟩),?_,e,he,rfl⟩;simp only[execOp];refine mW ?_;simp only[Instr.fieldAt,Sem.run_bind,run_underlying hu w,Result.andThen_ok,Dn,Instr.sureAddr,hv,Sem.run_pure,fieldPlace,j6 ca w];simp[zp,DX]
    .cases h
   .cases h
  next gz cs hu hx=>
   obtain⟨b,y,dL,el,fz,hv,fY,FX,hc⟩:=hr x (by simp[Op.operands]) _ hx;unfold anq at h;split at h;next fd Dn=>
    split at h;next sz ca=>
     obtain⟨hb,h⟩:=di h;have hb:=qA hb;cases h;refine⟨.pointer (some ⟨b,y+fd.offset,none⟩),?_,b,y+fd.offset,dL,el,fz,rfl,fY,by simp;omega,?_⟩
     .simp only[execOp];refine mW ?_;simp only[Instr.fieldAt,Sem.run_bind,run_underlying hu w,Result.andThen_ok,Dn,Instr.sureAddr,hv,Sem.run_pure,fieldPlace,j6 ca w];simp[zp]
     .have h2:=hc.AJ fd.offset;rw[BO,Ad]at h2;simpa using h2
    .cases h
   .cases h
  next gz n off hu hx=>
   obtain⟨e,he,hv⟩:=hr x (by simp[Op.operands]) _ hx;unfold anr at h;split at h;next fd Dn=>
    split at h;next sz ca=>cases h;refine⟨.pointer (some ⟨e.b,e.o+(off+fd.offset),none⟩),?_,e,he,rfl⟩;simp only[execOp];refine mW ?_;simp only[Instr.fieldAt,Sem.run_bind,run_underlying hu w,Result.andThen_ok,Dn,Instr.sureAddr,hv,Sem.run_pure,fieldPlace,j6 ca w];simp[zp,DX]
    .cases h
   .cases h
  .cases h
 case field t x f=>
  unfold ap2 at h;split at h;next gz cs hu hx=>
   obtain⟨cs',hv,hc⟩:=hr x (by simp[Op.operands]) _ hx;unfold ano at h;split at h;next fd Dn=>obtain⟨v',h1,h2⟩:=YR hc h w;exact⟨v',by simp only[execOp];exact mW (by simp[Instr.field,run_underlying hu w,Dn,hv,asAgg,h1]),h2⟩
   .cases h
  .cases h
 case indexAddr t x i=>
  unfold Ro at h;split at h;next n elem id off k j hu hx hi=>obtain⟨e,he,hv⟩:=hr x (by simp[Op.operands]) _ hx;have en:=hr i (by simp[Op.operands]) _ hi;simp only[VR]at en;obtain⟨s,hs,ae,rfl⟩:=acV h;refine⟨.pointer (some ⟨e.b,e.o+(off+j*s),none⟩),?_,e,he,rfl⟩;simp only[execOp];refine mW ?_;simp[Instr.indexAt,en,asIntOf,run_underlying hu w,Instr.sureAddr,hv,ae,hs,zp,DX]
  next elem id off len cap sz ex k j hu hx hi=>
   obtain⟨e,y,c,he,hv,hy,bB,Dm,kh⟩:=hr x (by simp[Op.operands]) _ hx;have en:=hr i (by simp[Op.operands]) _ hi;simp only[VR]at en;obtain⟨s,hs,ae,rfl⟩:=acV h;have uB:y=e.o+off:=by rcases hy with h|h<;>omega
   subst uB;refine⟨.pointer (some ⟨e.b,e.o+(off+j*s),none⟩),?_,e,he,rfl⟩;simp only[execOp];refine mW ?_;simp[Instr.indexAt,en,asIntOf,run_underlying hu w,hv,ae,hs,zp,DX]
  next elem cs len sz k j hu hx hi=>
   obtain⟨a,c,hv,bB,hd⟩:=hr x (by simp[Op.operands]) _ hx;have en:=hr i (by simp[Op.operands]) _ hi;simp only[VR]at en;obtain⟨hs,ae,rfl⟩:=az2 h;rcases hd with hd|⟨b,y,dL,el,fz,rfl,ou,fY,ca,hc⟩
   .omega
   .have m1:j*sz+sz<=len*sz:=by have:=Sg sz (show j+1<=len by omega);rw[yW]at this;omega
    have gM:((cs.drop (j*sz)).take sz).length=sz:=by simp;omega
    refine⟨.pointer (some ⟨b,y+j*sz,none⟩),?_,b,y+j*sz,dL,el,fz,rfl,fY,by rw[gM];omega,?_⟩
    .simp only[execOp];refine mW ?_;simp[Instr.indexAt,en,asIntOf,run_underlying hu w,hv,ae,hs,zp]
    .rw[gM];have h2:=(hc.AJ (j*sz)).zj sz;have e3:(((dL.toList.drop y).take cs.length).drop (j*sz)).take sz=(dL.toList.drop (y+j*sz)).take sz:=by rw[BO,Ad,Gq];congr 1;omega
     rw[e3]at h2;exact h2
  next elem id len sz k j hu hx hi=>
   obtain⟨hz,h⟩:=di h;have en:=hr i (by simp[Op.operands]) _ hi;simp only[VR]at en;obtain⟨s,hs,ae,rfl⟩:=acV h;rcases hr x (by simp[Op.operands]) _ hx with⟨h0,_⟩|⟨e,y,c,he,hv,hy,ou,kh⟩
   .omega
   .have uB:y=e.o:=by rcases hy with h|h<;>omega
    subst uB;refine⟨.pointer (some ⟨e.b,e.o+(0+j*s),none⟩),?_,e,he,rfl⟩;simp only[execOp];refine mW ?_;simp[Instr.indexAt,en,asIntOf,run_underlying hu w,hv,ae,hs,zp]
  .cases h
 case index t x i=>
  unfold XP at h;split at h;next n elem cs k j hu hx hi=>
   obtain⟨cs',hv,hc⟩:=hr x (by simp[Op.operands]) _ hx;have en:=hr i (by simp[Op.operands]) _ hi;simp only[VR]at en;unfold acU at h;split at h;next s hs=>
    obtain⟨hb,h⟩:=di h;obtain⟨v',h1,h2⟩:=YR hc h w;have ae:j<n:=by have:=qA hb;omega
    exact⟨v',by simp only[execOp];exact mW (by simp[Instr.index,en,asIntOf,run_underlying hu w,hv,ae,j6 hs w,h1]),h2⟩
   .cases h
  next s k j hu hx hi=>
   obtain⟨b,hv,rfl⟩:=hr x (by simp[Op.operands]) _ hx;have en:=hr i (by simp[Op.operands]) _ hi;simp only[VR]at en;unfold acr at h;split at h;next c hc=>
    cases h;have hj:∃u,b[j]? =some u/\u.toNat=c:=by
     simp only[fg,sJ]at hc;cases hq:b.data.toList[j]? with
     |none=>simp[hq]at hc
     |some u=>
      simp only[hq,uL,lN]at hc;refine⟨u,?_,hc⟩;obtain⟨ae,FV⟩:=qed.1 hq;have aCC:j<b.size:=by simpa using ae
      rw[getElem?_pos b j aCC];simp only[<-FV];rfl
    obtain⟨u,hu1,hu2⟩:=hj;exact⟨.int .u8 u.toNat,by simp only[execOp];exact mW (by simp[Instr.index,en,asIntOf,run_underlying hu w,hv,hu1]),by simp[VR,hu2]⟩
   .cases h
  .cases h
 case lookup t x k ok=>
  unfold Rp at h;split at h;next kt elem m key hu hx hk=>obtain⟨v0,h0,rfl⟩:=vN h;obtain⟨v',h1,h2⟩:=aEg (P:=P) hw hu h0 (hr x (by simp[Op.operands]) _ hx) (hr k (by simp[Op.operands]) _ hk);have h2:=afB (P:=P) (H:=H) (elem:=elem) (ok:=ok) h2;exact⟨v',by simp only[execOp];exact mW h1,h2⟩
  .cases h
 case typeAssert x xt sb ok=>
  unfold ap7 at h;split at h
  .cases h
  next d a vD hu hx=>have⟨v',h1,h2⟩:=ax0 (xT:=xt) hu (λms e=>vD ms e) h (hr x (by simp[Op.operands]) _ hx) w;exact⟨v',by simp only[execOp];exact mW h1,h2⟩
  .cases h
 case extract x i=>
  unfold ap1 at h;split at h;next vs hx=>
   have⟨eA,hv,jd⟩:=hr x (by simp[Op.operands]) _ hx;have⟨v',h1,h2⟩:=jd.get h;have h3:eA[i]? =some v':=by simpa using h1
   exact⟨v',by simp only[execOp];exact mW (by simp[Instr.extract,hv,h3]),h2⟩
  .cases h
 case call c=>
  have⟨callee,args,argTypes⟩:=c;cases callee<;>simp only at h<;>try (cases h;done)
  rename_i b;unfold aeO at h;split at h;next l hl=>have jd:=EL (hr.qS (λx hx=>by simp[Op.operands,Call.operands];simpa using hx)) hl;have⟨v',h1,h2⟩:=aDF (T:=type) hw (vs:=args.map ev) (by simpa using jd) h;refine⟨v',?_,h2⟩;exact h1 _
  .cases h
end
end
end Go.Ev
