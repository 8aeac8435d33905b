/- Part of a proof of AreaGoals. -/
import Derived.Test.YtjgjeokjclpjnaaGreatGA3
import Derived.KernelRfl
set_option linter.all false
set_option linter.unusedSectionVars false
namespace Go.Ev
noncomputable section
section
def iK:List (Nat×Nat)->Nat->Option Nat
 |[],_=>none
 |(o,n)::l,a=>bif Nat.beq o a then some n else iK l a
def zG:List (Nat×Nat)->Nat->Option Nat
 |[],_=>none
 |(o,n)::l,c=>bif Nat.beq n c then some o else zG l c
mutual
def wo:AV->LN
 |.aa id _=>[id]
 |.bw id _ _ _ _ _=>[id]
 |.aB id=>[id]
 |.gN id=>[id]
 |.aj id _ _=>[id]
 |.bn _ f c=>Dd f++Dd c
 |.ec _ v=>wo v
 |.ai cs=>Dd cs
 |.aC cs=>Dd cs
 |.dN a=>wo a
 |_=>[]
def Dd:LV->LN
 |[]=>[]
 |a::l=>wo a++Dd l
end
def ajN:List (AV×AV×Nat)->LN
 |[]=>[]
 |(k,v,_)::l=>wo k++wo v++ajN l
def aaE:Tr AV->LN
 |.il=>[]
 |.gy v l r=>(match v with|some a=>wo a|none=>[])++aaE l++aaE r
def xS:bf->LN
 |.al vs _=>Dd vs
 |.hQ _ _ _ t _ _ _ _ d=>d::aaE t
 |.aY es _ p=>bif p then[]else ajN es
 |.jg m _ _ _=>(match m with|some id=>[id]|none=>[])
 |_=>[]
section DP
variable(r:Nat->Option Nat)
mutual
def eM:AV->Option AV
 |.aa id off=>match r id with|some c=>some (.aa c off)|none=>none
 |.bw id off len cap sz ex=>match r id with
  |some c=>match ex,cap with
   |false,1=>(match off with|0=>some (.aj c len sz)|_+1=>some (.bw c off len cap sz ex))
   |_,_=>some (.bw c off len cap sz ex)
  |none=>none
 |.aB id=>match r id with|some c=>some (.aB c)|none=>none
 |.gN id=>match r id with|some c=>some (.gN c)|none=>none
 |.aj id len sz=>match r id with|some c=>some (.aj c len sz)|none=>none
 |.bn fn f c=>match nY f,nY c with|some f',some c'=>some (.bn fn f' c')|_,_=>none
 |.ec t v=>match eM v with|some v'=>some (.ec t v')|none=>none
 |.ai cs=>match nY cs with|some l=>some (.ai l)|none=>none
 |.aC cs=>match nY cs with|some l=>some (.aC l)|none=>none
 |.dN a=>match eM a with|some b=>some (.dN b)|none=>none
 |a=>some a
def nY:LV->Option LV
 |[]=>some []
 |a::l=>match eM a with
  |some a'=>match nY l with
   |some l'=>some (a'::l')
   |none=>none
  |none=>none
end
def TM:List (AV×AV×Nat)->Option (List (AV×AV×Nat))
 |[]=>some []
 |(k,v,b)::l=>match eM r k,eM r v,TM l with
  |some k',some v',some l'=>some ((k',v',b)::l')
  |_,_,_=>none
def Oc:Tr AV->Option (Tr AV)
 |.il=>some .il
 |.gy v a b=>match Oc a,Oc b with
  |some a',some b'=>(match v with
   |none=>some (.gy none a' b')
   |some x=>match eM r x with|some x'=>some (.gy (some x') a' b')|none=>none)
  |_,_=>none
def lX:bf->Option bf
 |.hQ st p fn t nt ps a b d=>match Oc r t,r d with
  |some t',some d'=>some (.hQ st p fn t' nt ps a b d')
  |_,_=>none
 |.al vs e=>match nY r vs with|some l=>some (.al l e)|none=>none
 |.aY es c p=>bif p then some (.aY es c p)else match TM r es with|some l=>some (.aY l c p)|none=>none
 |.dU vs e=>some (.dU vs e)
 |.aA vs e=>some (.aA vs e)
 |.bm _=>some (.bm [])
 |.uk s p=>some (.uk s p)
 |.jg m since bK st=>(match m with
  |some id=>(match r id with|some iq=>some (.jg (some iq) since bK st)|none=>none)
  |none=>some (.jg none since bK st))
 |.pP ds=>(match ds with|none=>some (.pP none)|some []=>some (.pP (some []))|_=>none)
end DP
def alB(H:AH)(id:Nat):LN:=
 match H.bc id with
 |some o=>xS o
 |none=>[]
def TL(H:AH)(m0:Nat):Nat->LN->List (Nat×Nat)->Nat->List (Nat×Nat)×Nat
 |0,_,ps,n=>(ps,n)
 |_+1,[],ps,n=>(ps,n)
 |f+1,id::q,ps,n=>match iK ps id with
  |some _=>TL H m0 f q ps n
  |none=>bif Nat.ble (id+1) m0 then TL H m0 f (q++alB H id) (ps++[(id,id)]) n
   else TL H m0 f (q++alB H id) (ps++[(id,n)]) (Nat.succ n)
def Ee(r:Nat->Option Nat)(H:AH):List (Nat×Nat)->Tr bf->Option (Tr bf)
 |[],t=>some t
 |(o,n)::l,t=>match H.bc o with
  |none=>Ee r H l t
  |some ob=>match lX r ob with
   |some bE=>Ee r H l (t.gz n bE)
   |none=>none
def abH(ps:List (Nat×Nat))(n:Nat):Bool:=
 x_ (ps.map (·.1))&&x_ (ps.map (·.2))&&ps.all λp=>Nat.ble (p.2+1) n
def av6(ps:List (Nat×Nat))(m0:Nat):Bool:=
 (List.range m0).all λi=>match zG ps i with|some j=>Nat.beq i j|none=>false
structure Vw where
 ps:List (Nat×Nat)
 H:AH
def mB(m0:Nat)(mw:LN)(H:AH):Option Vw:=
 match TL H m0 1000 (List.range m0++mw) [] m0 with
 |(ps,n)=>bif abH ps n&&av6 ps m0 then
    match Ee (iK ps) H ps .il with
    |some t=>some ⟨ps,⟨t,n,H.x⟩⟩
    |none=>none
  else none
def Gv(tmps:Tr AV):LN->LN
 |[]=>[]
 |s::l=>match tmps.bZ s with
  |some a=>wo a++Gv tmps l
  |none=>Gv tmps l
def rn(r:Nat->Option Nat)(tmps:Tr AV):LN->Option (Tr AV)
 |[]=>some .il
 |s::l=>match rn r tmps l with
  |none=>none
  |some t=>match tmps.bZ s with
   |some a=>match eM r a with
    |some a'=>some (t.gz s a')
    |none=>none
   |none=>some t
abbrev G':=FuncId->LV->AH->Option (Prop×AV×AH)
inductive Sp:Type 1 where
 |yU (x:Prop×AV×AH)
 |ex (W:Type) (g:W->Prop×AV×AH) (u:∀w w',(g w).1->(g w').1->(g w).2=(g w').2)
 |Q0 (W:Bool->Type) (g:(b:Bool)->W b->Prop×AV×AH) (u:∀b w b' w',(g b w).1->(g b' w').1->(g b w).2=(g b' w').2)
abbrev bp:=FuncId->LV->AH->Option Sp
def tz:Sp->Option (Prop×AV×AH)
 |.yU x=>some x
 |.ex W g _=> @dite _ (∃w,(g w).1) (Classical.propDecidable _) (λh=>some (g h.choose)) (λ_=>none)
 |.Q0 W g _=> @dite _ (∃p:(b:Bool)×W b,(g p.1 p.2).1) (Classical.propDecidable _) (λh=>some (g h.choose.1 h.choose.2)) (λ_=>none)
def pc(S:bp):G':=λf args H=>
 match S f args H with
 |some sp=>tz sp
 |none=>none
def yN(ps:List (Nat×Nat))(k next:Nat)(i:Nat):Option Nat:=
 bif Nat.ble (i+1) k then zG ps i else some (next+(i-k))
def Aw(r:Nat->Option Nat)(Hs:AH):List (Nat×Nat)->Tr bf->Option (Tr bf)
 |[],t=>some t
 |(o,n)::l,t=>match Hs.bc n with
  |none=>Aw r Hs l (t.gz o (.bm []))
  |some ob=>match lX r ob with
   |some bE=>Aw r Hs l (t.gz o bE)
   |none=>none
def HB(r:Nat->Option Nat)(Hs:AH)(k next:Nat):Nat->Tr bf->Option (Tr bf)
 |0,t=>some t
 |j+1,t=>match HB r Hs k next j t with
  |none=>none
  |some t'=>match Hs.bc (k+j)with
   |none=>some t'
   |some ob=>match lX r ob with
    |some bE=>some (t'.gz (next+j) bE)
    |none=>none
def aHQ:Option bf->Bool
 |some (.aA ..)=>true
 |_=>false
mutual
def lh:AV->LN
 |.aa id _=>[id]
 |.bw id _ _ _ _ _=>[id]
 |.aB id=>[id]
 |.gN id=>[id]
 |.bn _ f c=>tL f++tL c
 |.ec _ v=>lh v
 |.ai cs=>tL cs
 |.aC cs=>tL cs
 |_=>[]
def tL:LV->LN
 |[]=>[]
 |a::l=>lh a++tL l
end
def Mp:Tr AV->LN
 |.il=>[]
 |.gy v l r=>(match v with|some a=>lh a|none=>[])++Mp l++Mp r
def aiW:Option bf->LN
 |some (.al vs _)=>tL vs
 |some (.hQ _ _ _ t _ _ _ _ d)=>d::Mp t
 |_=>[]
def JC(H:AH):LN->List (Nat×Nat)->Bool
 |_,[]=>true
 |hd,(o,_)::l=>match H.bc o with
  |some (.aA ..)=>JC H hd l
  |some (.bm _)=>false
  |none=>false
  |ob=>bif hd.any (Nat.beq o)then JC H (hd++aiW ob) l else false
structure VS where
 bh:Prop
 v:AV
 H:AH
def u_(ps:List (Nat×Nat))(k:Nat)(H:AH)(xb:Bool):Prop×AV×AH->Option VS
 |(p,v,Hs)=>match Hs,H with
  |⟨hs,ns,xs⟩,⟨h,next,x⟩=>
   bif Nat.ble k ns then
    match eM (yN ps k next) v,Aw (yN ps k next) ⟨hs,ns,xs⟩ ps h with
    |some v',some t=>match HB (yN ps k next) ⟨hs,ns,xs⟩ k next (ns-k) t with
     |some t'=>some ⟨p,v',⟨t',next+(ns-k),bif xb then xs else x⟩⟩
     |none=>none
    |_,_=>none
   else none
def Nb(S:G')(f:FuncId)(args:LV)(H:AH):Option VS:=
 match mB 0 (Dd args) H with
 |none=>none
 |some ⟨ps,⟨t,n,x⟩⟩=>bif JC H (tL args) ps then
   match nY (iK ps) args with
   |some args'=>match S f args' ⟨t,n,none⟩with
    |some wN=>u_ ps n H false wN
    |none=>match x with
     |none=>none
     |some X=>match S f args' ⟨t,n,some X⟩with
      |some wN=>u_ ps n H true wN
      |none=>none
   |none=>none
  else none
def aa5(S:bp)(f:FuncId)(args:LV)(H:AH):Option (List (Nat×Nat)×Nat×Bool×Sp):=
 match mB 0 (Dd args) H with
 |none=>none
 |some ⟨ps,⟨t,n,x⟩⟩=>bif JC H (tL args) ps then
   match nY (iK ps) args with
   |some args'=>match S f args' ⟨t,n,none⟩with
    |some sp=>some (ps,n,false,sp)
    |none=>match x with
     |none=>none
     |some X=>match S f args' ⟨t,n,some X⟩with
      |some sp=>some (ps,n,true,sp)
      |none=>none
   |none=>none
  else none
section axH
variable(P:Program)
def vR:Nat->List TypeId->LV->(LV->Prop)->Prop
 |0,_,_,_=>False
 |_+1,[],gV,k=>k gV.reverse
 |d+1,t::ts,gV,k=>match P.underlying t with
  |some (.struct gp)=>vR d (gp.toList.map (·.type)++ts) gV k
  |some (.int kd)=>∃n:Int,vR d ts (.bV kd n::gV) k
  |some .bool=>∃b:Bool,vR d ts (.au b::gV) k
  |some .string=>∃s:LN,vR d ts (.ad s::gV) k
  |some (.slice e)=>match cW P e with
   |some sz=>∃(cs:LV) (len:Nat),vR d ts (.ah cs len sz::gV) k
   |none=>False
  |some (.pointer _)=>∃(n off:Nat),vR d ts (.fw n off::gV) k
  |_=>∃a:AV,vR d ts (a::gV) k
def Fb(t:TypeId)(k:AV->Prop):Prop:=
 match De P t with
 |some true=>vR P 100 [t] [] λcs=>k (.ai cs)
 |some false=>vR P 100 [t] [] λcs=>match cs with|[a]=>k a|_=>False
 |none=>False
def ahJ(t:TypeId)(k:LV->Prop):Prop:=vR P 100 [t] [] k
end axH
def aw(b:Bool)(A B:Prop):Prop:= @Bool.rec (λ_=>Prop) B A b
def wC(o:Option AV)(k:AV->Prop):Prop:=
 match o with
 |some v=>k v
 |none=>False
def eZ(P:Program)(kt e:TypeId)(es:List (AV×AV×Nat))(key:AV):Option (AV×Bool):=
 match oJ (iB P 100 kt) key es 0 with
 |some (some (_,v,_))=>some (v,true)
 |some none=>(kb P e).map (·,false)
 |none=>none
def j9(P:Program)(kt:TypeId)(es:List (AV×AV×Nat))(clock:Nat)(k v:AV):Option (List (AV×AV×Nat)×Nat):=
 match oJ (iB P 100 kt) k es 0 with
 |some (some (i,_,_))=>bif yo es i k then some (pH es i λe=>(k,v,e.2.2),clock)else none
 |some none=>some (es++[(k,v,clock)],clock+1)
 |none=>none
def Ct(P:Program)(kt elem:TypeId)(es:List (AV×AV×Nat))(clock:Nat)(p:Bool)(key:AV):Option (AV×Nat×List (AV×AV×Nat)×Nat):=
 match oJ (iB P 100 kt) key es 0 with
 |some (some (i,v,b))=>bif yo es i key&&vT p key .kP then some (v,b,pH es i λe=>(key,e.2),clock)else none
 |some none=>match kb P elem with
  |some z=>bif vT p key z then some (z,clock,es++[(key,z,clock)],clock+1)else none
  |none=>none
 |none=>none
def DD(es:List (AV×AV×Nat))(born:Nat)(v:AV):Option (List (AV×AV×Nat)):=
 match es.findIdx? (λe=>Nat.beq e.2.2 born)with
 |some i=>some (pH es i λe=>(e.1,v,e.2.2))
 |none=>none
def LD(P:Program)(kt:TypeId)(es:List (AV×AV×Nat))(k:AV):Option (List (AV×AV×Nat)):=
 match oJ (iB P 100 kt) k es 0 with
 |some (some (i,_,_))=>some (AL es i)
 |some none=>some es
 |none=>none
def ahB:TypeDesc->AV->AV->Option Bool
 |.int _,.bV j a,.bV k b=>if j=k then some (a==b)else none
 |.string,.ad a,.ad b=>some (cb a b)
 |.bool,.au a,.au b=>some (a==b)
 |_,_,_=>none
def Ch(P:Program):List Field->Nat->LV->LV->Option Bool
 |[],_,[],[]=>some true
 |f::fs,i,a::l,b::m=>bif (f.name != "_")&&Nat.beq f.offset i then
   match P.underlying f.type with
   |some td=>match ahB td a b,Ch P fs (i+1) l m with
    |some x,some y=>some (x&&y)
    |_,_=>none
   |none=>none
  else none
 |_,_,_,_=>none
def QW(P:Program)(t:TypeId)(cs ds:LV):Option Bool:=
 match P.underlying t with
 |some (.struct gp)=>bif P.stoodInHeld t||P.eqGuardType P.depth t then none else Ch P gp.toList 0 cs ds
 |_=>none
section avh
variable(P:Program)(ρ:Operand->Option AV)(H:AH)
def Sq:Option bf->Option LV
 |some (.dU vs _)=>some vs
 |some (.aA vs _)=>some vs
 |_=>none
def acg(t:TypeId)(a:Operand)(k:AV->Prop):Prop:=
 match ρ a with
 |some (.aa id off)=>match Sq (H.bc id)with
  |some vs=>Fb P t λv=>cz P t vs off=some v/\k v
  |none=>wC (t_ P H t id off) k
 |some (.pK cs)=>wC (cz P t cs 0) k
 |some (.fw n off)=>Fb P t λv=>pt P H t n off=some v/\k v
 |_=>False
def XF(n:Int)(k:Nat->Prop):Prop:=∃i:Nat,n=(i:Int)/\k i
def Gb(x:Operand)(k:Nat->Prop):Prop:=
 match ρ x with
 |some (.bV _ n)=>bif tX x then(match n with|.ofNat i=>k i|_=>False)else XF n k
 |_=>False
def isCells:Option bf->Option LV
 |some (.al vs _)=>some vs
 |_=>none
def Zg(id off sz:Nat)(n:Int)(k:AV->Prop):Nat->Nat->Prop
 |_,0=>True
 |j,c+1=>(n=(j:Int)->k (.aa id (off+j*sz)))/\Zg id off sz n k (Nat.succ j) c
def acf(t:TypeId)(x i:Operand)(k:AV->Prop):Prop:=
 match P.underlying t with
 |some (.slice e)=>match ρ x with
  |some (.ah cs len sz)=>bif (cW P e).any (Nat.beq sz)then Gb ρ i λi=>i<len/\ahJ P e λdU=>(cs.drop (i*sz)).take sz=dU/\k (.pK dU)else False
  |some (.aj id len sz)=>bif (cW P e).any (Nat.beq sz)then Gb ρ i λi=>i<len/\k (.aa id (i*sz))else False
  |some (.bw id off len _ sz _)=>match isCells (H.bc id)with
   |some _=>wC (f_ P ρ H (.indexAddr t x i)) k
   |none=>bif (cW P e).any (Nat.beq sz)then Gb ρ i λi=>i<len/\k (.aa id (off+i*sz))else False
  |_=>False
 |some (.array c e)=>bif tX i then wC (f_ P ρ H (.indexAddr t x i)) k else
  match ρ x,ρ i with
  |some (.aa id off),some (.bV _ n)=>match cW P e with
   |some sz=>(0<=n/\n<(c:Int))/\Zg id off sz n k 0 c
   |none=>False
  |_,_=>False
 |_=>wC (f_ P ρ H (.indexAddr t x i)) k
def Zf(P:Program)(e:TypeId)(sz:Nat)(cs:LV)(n:Int)(k:AV->Prop):Nat->Nat->Prop
 |_,0=>True
 |j,c+1=>(n=(j:Int)->wC (cz P e cs (j*sz)) k)/\Zf P e sz cs n k (Nat.succ j) c
def ace(t:TypeId)(x i:Operand)(k:AV->Prop):Prop:=
 match ρ x,ρ i with
 |some (.ai cs),some (.bV _ n)=>bif tX i then wC (f_ P ρ H (.index t x i)) k else
  match P.underlying t with
  |some (.array c e)=>match cW P e with
   |some sz=>(0<=n/\n<(c:Int))/\Zf P e sz cs n k 0 c
   |none=>False
  |_=>False
 |some (.ad s),some (.bV _ _)=>match P.underlying t with
  |some .string=>Gb ρ i λi=>∃b:Nat,s[i]? =some b/\k (.bV .u8 (.ofNat b))
  |_=>False
 |_,_=>False
def Dp(P:Program)(kt e:TypeId)(sz:Nat)(es:List (AV×AV×Nat))(key:AV):Option (Nat×Nat×Bool):=
 match eZ P kt e es key with
 |some (.fE n len s,b)=>bif Nat.beq s sz then some (n,len,b)else none
 |some (.aM,b)=>some (0,0,b)
 |_=>none
def amj(P:Program)(kt e:TypeId)(es:List (AV×AV×Nat))(key:AV)(ok:Bool)(k:AV->Prop):Prop:=
 match P.underlying e with
 |some (.slice e')=>match cW P e' with
  |some sz=>∃(n len:Nat) (b:Bool),Dp P kt e sz es key=some (n,len,b)/\k (mX ok (.fE n len sz) b)
  |none=>False
 |some (.pointer _)=>∃c:Bool,aw c (∃b:Bool,eZ P kt e es key=some (.kP,b)/\k (mX ok .kP b)) (∃(n off:Nat) (b:Bool),eZ P kt e es key=some (.fw n off,b)/\k (mX ok (.fw n off) b))
 |_=>Fb P e λv=>∃b:Bool,eZ P kt e es key=some (v,b)/\k (mX ok v b)
def ach(t:TypeId)(x key:Operand)(ok:Bool)(k:AV->Prop):Prop:=
 match P.underlying t,ρ x,ρ key with
 |some (.map kt e),some (.aB id),some key=>match H.bc id with
  |some (.aY es _ _)=>bif sT P kt key then(match H.x with|none=>Fb P e λv=>∃b:Bool,eZ P kt e es key=some (v,b)/\k (mX ok v b)|some _=>amj P kt e es key ok k)else False
  |_=>False
 |some (.map kt e),some .mW,some key=>bif sT P kt key then wC (((kb P e).map (mX ok · false)).map (lv P H e ok)) k else False
 |_,_,_=>False
def Az(o:Option Operand)(d:Nat)(k:Nat->Prop):Prop:=
 match o with
 |none=>k d
 |some x=>Gb ρ x k
def Lx(ex:Bool)(lo:Option Operand)(cap l:Nat):Nat:= @Bool.rec (λ_=>Nat) (match lo with|none=>cap|some _=>0) (cap-l) ex
def acj(t:TypeId)(x:Operand)(lo hi mx:Option Operand)(k:AV->Prop):Prop:=
 match ρ x with
 |some (.ah cs len sz)=>bif mx.isNone&&(match P.underlying t with|some (.slice e)=>(cW P e).any (Nat.beq sz)|_=>false)then
   Az ρ lo 0 λl=>Az ρ hi len λh=>(l<=h/\h<=len)/\k (.ah ((cs.drop (l*sz)).take ((h-l)*sz)) (h-l) sz)else False
 |some (.bw id off len cap sz ex)=>bif mx.isNone&&(match P.underlying t with|some (.slice e)=>(cW P e).any (Nat.beq sz)|_=>false)then
   Az ρ lo 0 λl=>Az ρ hi len λh=>(l<=h/\h<=(bif ex then cap else len))/\k (.bw id (off+l*sz) (h-l) (Lx ex lo cap l) sz ex)else False
 |some (.aj id len sz)=>bif mx.isNone&&(match P.underlying t with|some (.slice e)=>(cW P e).any (Nat.beq sz)|_=>false)then
   1<=len/\Az ρ lo 0 λl=>Az ρ hi len λh=>(l<=h/\h<=len)/\k (.bw id (0+l*sz) (h-l) (Lx false lo 1 l) sz false)else False
 |some (.ad s)=>bif mx.isNone&&(match P.underlying t with|some .string=>true|_=>false)then
   Az ρ lo 0 λl=>Az ρ hi s.length λh=>(l<=h/\h<=s.length)/\k (.ad ((s.take h).drop l))else False
 |_=>wC (f_ P ρ H (.slice t x lo hi mx)) k
def aci(c a b:Operand)(k:AV->Prop):Prop:=
 match ρ c,ρ a,ρ b with
 |some (.au t),some (.au x),some (.au y)=>k (.au (bif t then x else y))
 |some (.au t),some x,some y=>aw t (k x) (k y)
 |_,_,_=>False
def S2(op:BinOp)(t:TypeId)(len:Nat)(k:AV->Prop):Prop:=
 match P.underlying t with
 |some (.slice _)=>len≠0/\(match op with|.eql=>k (.au false)|.neq=>k (.au true)|_=>False)
 |_=>False
def acd(op:BinOp)(t:TypeId)(x y:Operand)(yt:TypeId)(k:AV->Prop):Prop:=
 match ρ x,ρ y with
 |some (.ai cs),some (.ai ds)=>match QW P t cs ds,op with
  |some b,.eql=>k (.au b)
  |some b,.neq=>k (.au (!b))
  |_,_=>False
 |some (.ah _ len _),some .aM=>S2 P op t len k
 |some (.aj _ len _),some .aM=>S2 P op t len k
 |_,_=>wC (f_ P ρ H (.binOp op t x y yt)) k
def rd(op:Op)(k:AV->Prop):Prop:=
 match op with
 |.load t a=>acg P ρ H t a k
 |.indexAddr t x i=>acf P ρ H t x i k
 |.index t x i=>ace P ρ H t x i k
 |.lookup t x key ok=>ach P ρ H t x key ok k
 |.slice t x lo hi mx=>acj P ρ H t x lo hi mx k
 |.pick c a b=>aci ρ c a b k
 |.binOp op t x y yt=>acd P ρ H op t x y yt k
 |op=>wC (f_ P ρ H op) k
def Ns(o:Option (bf×(Nat->AV)))(k:AV->AH->Prop):Prop:=
 match o,H with
 |some (ob,g),⟨h,n,x⟩=>k (g n) (AH.eN ⟨h,n,x⟩ ob)
 |none,_=>False
def am5:Operand->Operand->Bool
 |.tmp a,.tmp b=>Nat.beq a b
 |_,_=>false
def mkS(elem:TypeId)(c:Nat)(s:Nat)(z:AV)(gB:Nat)(k:AV->AH->Prop):Prop:=
 bif Nat.ble gB 4194304&&Nat.ble s 4194304&&Nat.beq z.dQ.length s&&z.dQ.all AV.cY&&z.dQ.all eR then
  c<=4194304/\Ns H (some (acA z.dQ c elem,Hz c c s)) k
 else False
def ak2(t:TypeId)(len cap:Operand)(k:AV->AH->Prop):Prop:=
 bif tX cap then Ns H (rb P ρ (.makeSlice t len cap)) k else
 bif am5 len cap then
  match P.underlying t,ρ cap with
  |some (.slice elem),some (.bV .i64 n)=>match cW P elem,kb P elem,uG P elem with
   |some s,some z,some gB=>XF n λc=>mkS H elem c s z gB k
   |_,_,_=>False
  |_,_=>False
 else False
def mk(op:Op)(k:AV->AH->Prop):Prop:=
 match op with
 |.makeSlice t len cap=>ak2 P ρ H t len cap k
 |op=>Ns H (rb P ρ op) k
def gE(vs:LV)(off:Nat)(cs:LV):LV:=vs.take off++(cs++vs.drop (off+cs.length))
def C0(o:Option iT)(k:AV->AH->Prop):Prop:=
 match o with
 |some (.gU v H)=>k v H
 |_=>False
def aaD(t:TypeId)(a x:Operand)(k:AV->AH->Prop):Prop:=
 match ρ a,ρ x with
 |some (.aa id off),some v=>match H.bc id,cW P t with
  |some (.dU vs e),some s=>bif Nat.beq v.dQ.length s&&v.dQ.all AV.cY&&v.dQ.all eR then off+v.dQ.length<=vs.length/\k .l5 (H.cV id (.dU (gE vs off v.dQ) e))else False
  |some (.aA vs e),some s=>bif Nat.beq v.dQ.length s&&v.dQ.all AV.cY&&v.dQ.all eR then off+v.dQ.length<=vs.length/\k .l5 (H.cV id (.aA (gE vs off v.dQ) e))else False
  |_,_=>C0 (II P ρ H t a x) k
 |some (.fw n off),some v=>match cW P t with
  |some s=>bif Nat.beq v.dQ.length s&&v.dQ.all AV.cY&&v.dQ.all eR then∃(vs:LV) (e:TypeId),H.gT n=some (.al vs e)/\off+v.dQ.length<=vs.length/\k .l5 (H.n9 n (some (.al (gE vs off v.dQ) e)))else False
  |none=>False
 |_,_=>False
def Sk(t:TypeId)(m key x:Operand)(k:AV->AH->Prop):Prop:=
 match P.underlying t,ρ m,ρ key,ρ x with
 |some (.map kt _),some (.aB id),some key,some v=>match H.bc id with
  |some (.aY es clock p)=>bif sT P kt key&&vT p key v then
    ∃(bJ:List (AV×AV×Nat)) (c':Nat),j9 P kt es clock key v=some (bJ,c')/\k .l5 (H.cV id (.aY bJ c' p))else False
  |_=>False
 |_,_,_,_=>False
def E'(P:Program)(kt e:TypeId)(sz:Nat)(es:List (AV×AV×Nat))(clock:Nat)(p:Bool)(key:AV):Option (Nat×Nat×Nat×List (AV×AV×Nat)×Nat):=
 match Ct P kt e es clock p key with
 |some (.fE n len s,b,bJ,c')=>bif Nat.beq s sz then some (n,len,b,bJ,c')else none
 |some (.aM,b,bJ,c')=>some (0,0,b,bJ,c')
 |_=>none
def ajA(kt e:TypeId)(es:List (AV×AV×Nat))(clock:Nat)(p:Bool)(key:AV)(id:Nat)(k:AV->AH->Prop):Prop:=
 match P.underlying e with
 |some (.slice e')=>match cW P e' with
  |some sz=>∃(n len b:Nat) (bJ:List (AV×AV×Nat)) (c':Nat),E' P kt e sz es clock p key=some (n,len,b,bJ,c')/\k (.aC [.fE n len sz,vW b]) (H.cV id (.aY bJ c' p))
  |none=>False
 |_=>False
def avz(it:Operand)(k:AV->AH->Prop):Prop:=
 ∃(n:Int) (v:AV),Fs ρ H it=some (.gU (.aC [.bV .i64 n,v]) H)/\k (.aC [.bV .i64 n,v]) H
def aaz(t:TypeId)(m key:Operand)(k:AV->AH->Prop):Prop:=
 match P.underlying t,ρ m,ρ key with
 |some (.map kt e),some (.aB id),some key=>match H.bc id with
  |some (.aY es clock p)=>bif sT P kt key then
    (match H.x with
    |none=>Fb P e λv=>∃(b:Nat) (bJ:List (AV×AV×Nat)) (c':Nat),Ct P kt e es clock p key=some (v,b,bJ,c')/\k (.aC [v,vW b]) (H.cV id (.aY bJ c' p))
    |some _=>ajA P H kt e es clock p key id k)else False
  |_=>False
 |_,_,_=>False
def aaA(m s x:Operand)(k:AV->AH->Prop):Prop:=
 match ρ m,ρ s,ρ x with
 |some (.aB id),some (.bV _ (.ofNat b)),some v=>match H.bc id with
  |some (.aY es clock p)=>bif vT p .kP v then
    ∃bJ:List (AV×AV×Nat),DD es b v=some bJ/\k .l5 (H.cV id (.aY bJ clock p))else False
  |_=>False
 |_,_,_=>False
def aay(argTypes:Array TypeId)(id:Nat)(key:AV)(k:AV->AH->Prop):Prop:=
 match argTypes[0]?.bind P.underlying,H.bc id with
 |some (.map kt _),some (.aY es clock p)=>bif sT P kt key then
   ∃bJ:List (AV×AV×Nat),LD P kt es key=some bJ/\k .l5 (H.cV id (.aY bJ clock p))else False
 |_,_=>False
def GP(H:AH)(id len sz:Nat)(vs:LV):Prop:=(len=0/\vs=[])\/(len≠0/\∃el,H.gT id=some (.aA vs el)/\vs.length=len*sz)
def aoR(H:AH)(id len:Nat)(vs:LV)(elem:TypeId)(k:Nat->AH->Prop):Prop:=
 match H with
 |⟨h,m,some ⟨g,c⟩⟩=>k c ⟨(h.gz m (.bm [])).gz (Nat.succ m) (.bm []),Nat.succ (Nat.succ m),some ⟨λi=>bif Nat.beq i c then some (.aA vs elem)else bif Nat.beq i id&& !Nat.beq len 0 then none else g i,c+1⟩⟩
 |_=>False
def adr(sz:Nat)(x:AV)(k:Nat->LV->Prop):Prop:=
 match x with
 |.ah cs len s=>bif Nat.beq s sz then k len cs else False
 |.aj id len s=>bif Nat.beq s sz then match H.bc id with
   |some (.aA vs _)=>vs.length=len*sz/\k len vs
   |_=>False
  else False
 |.fE id len s=>bif Nat.beq s sz then∃vs:LV,GP H id len sz vs/\k len vs else False
 |.bw id off len cap s ex=>match Sq (H.bc id)with
  |some vs=>bif Nat.beq s sz then off+len*sz<=vs.length/\k len ((vs.drop off).take (len*sz))else False
  |none=>match xr H sz (.bw id off len cap s ex)with
   |some (n,l)=>k n l
   |none=>False
 |x=>match xr H sz x with
  |some (n,l)=>k n l
  |none=>False
def Dx(l:LV):Prop:=l.all AV.cY=true/\l.all eR=true
def Au(elem:TypeId)(sz:Nat)(s:AV)(n:Nat)(l:LV)(k:AV->AH->Prop):Prop:=
 match s with
 |.aj id len g_=>bif Nat.beq sz g_ then match H.bc id with
   |some (.aA vs _)=>(vs.length=len*sz/\len+n<=4194304/\Dx l)/\k (.aj H.bx (len+n) sz) (AH.eN (H.cV id (.bm [])) (.aA (vs++l) elem))
   |_=>False
  else False
 |.bw id off len cap g_ ex=>bif Nat.beq sz g_ then match H.bc id with
   |some (.dU vs _)=>(off+len*sz<=vs.length/\len+n<=4194304/\Dx l/\ex=false)/\k (.bw H.bx 0 (len+n) 1 sz false) (AH.eN (H.cV id (.bm [])) (.dU ((vs.drop off).take (len*sz)++l) elem))
   |some (.aA vs _)=>(off+len*sz<=vs.length/\len+n<=4194304/\Dx l/\ex=false)/\k (.bw H.bx 0 (len+n) 1 sz false) (AH.eN (H.cV id (.bm [])) (.aA ((vs.drop off).take (len*sz)++l) elem))
   |_=>match mJ H elem sz (.bw id off len cap g_ ex) n l with
    |some (v,H')=>k v H'
    |none=>False
  else False
 |.fE id len g_=>bif Nat.beq sz g_ then(len+n<=4194304/\Dx l)/\∃vs:LV,GP H id len sz vs/\aoR H id len (vs++l) elem (λnm H'=>k (.fE nm (len+n) sz) H')else False
 |s=>match mJ H elem sz s n l with
  |some (v,H')=>k v H'
  |none=>False
def aa7(x:AV):Bool:=
 match x with
 |.bw _ _ _ _ _ true=>true
 |.aM=>true
 |_=>false
def Lp(sz:Nat)(s:AV)(k:Prop):Prop:=
 match s with
 |.aM=>k
 |.bw _ _ len _ g_ _=>bif Nat.beq sz g_ then len<=4194304/\k else False
 |.aj _ len g_=>bif Nat.beq sz g_ then len<=4194304/\k else False
 |.fE _ len g_=>bif Nat.beq sz g_ then len<=4194304/\k else False
 |.rC=>k
 |_=>False
def Xz(elem:TypeId)(sz:Nat)(s:AV)(n:Nat)(l:LV)(k:AV->AH->Prop):Prop:=
 match s with
 |.aM=>(n<=4194304/\Dx l)/\k (.bw H.bx 0 n 1 sz false) (AH.eN H (.aA l elem))
 |.bw id off len cap g_ ex=>match H.bc id with
  |some (.al vs _)=>bif Nat.beq sz g_ then(off+len*sz<=vs.length/\len+n<=4194304/\Dx l/\Dx vs/\ex=true/\cap<=len)/\k (.bw H.bx 0 (len+n) 1 sz false) (AH.eN H (.aA ((vs.drop off).take (len*sz)++l) elem))else False
  |some (.dU _ _)=>Au H elem sz (.bw id off len cap g_ ex) n l k
  |some (.aA _ _)=>Au H elem sz (.bw id off len cap g_ ex) n l k
  |_=>False
 |.aj id len g_=>Au H elem sz (.aj id len g_) n l k
 |.fE id len g_=>Au H elem sz (.fE id len g_) n l k
 |_=>False
def PZ(elem:TypeId)(sz:Nat)(s:AV)(Nc dU:Bool)(n:Nat)(l:LV)(k:AV->AH->Prop):Prop:=
 bif Nc then(match n with|0=>Lp sz s (k s H)|_+1=>Au H elem sz s n l k)
 else(n=0->Lp sz s (k s H))/\(1<=n->bif dU then Xz H elem sz s n l k else Au H elem sz s n l k)
def aaJ:Option TypeDesc->Bool
 |some (.slice _)=>true
 |_=>false
def an7(P:Program)(elem:TypeId)(sz gB:Nat)(t:Option TypeDesc)(x:AV)(k:Nat->LV->Prop):Prop:=
 match t,x,kb P elem with
 |some (.int _),.bV .i64 n,some z=>bif Nat.ble gB 4194304&&Nat.beq z.dQ.length sz then XF n λc=>c<=4194304/\k c (kR z.dQ c)else False
 |_,_,_=>False
def aaw(argTypes:Array TypeId)(s x:AV)(k:AV->AH->Prop):Prop:=
 match argTypes[0]?.bind P.underlying with
 |some (.slice elem)=>match cW P elem,uG P elem with
  |some sz,some gB=>bif Nat.ble gB 4194304&&(kb P elem).any (λz=>Nat.beq z.dQ.length sz)&&aaJ (argTypes[1]?.bind P.underlying)then
    adr H sz x λn l=>PZ H elem sz s (aa7 x) (M3 x) n l k
   else an7 P elem sz gB (argTypes[1]?.bind P.underlying) x λn l=>PZ H elem sz s false true n l k
  |_,_=>False
 |_=>False
def aax(b:Builtin)(args:LV)(argTypes:Array TypeId)(k:AV->AH->Prop):Prop:=
 match b,args with
 |.append,[s,x]=>aaw P H argTypes s x k
 |.delete,[.aB id,key]=>aay P H argTypes id key k
 |b,args=>C0 (IB P H b args argTypes) k
variable(S:bp)
def FU(r:Option VS)(k kp:AV->AH->Prop):Prop:=
 match r with
 |some ⟨p,.dN v,H'⟩=>p/\kp v H'
 |some ⟨p,v,H'⟩=>p/\k v H'
 |none=>False
def Ja(f:FuncId)(args:LV)(k kp:AV->AH->Prop):Prop:=
 match aa5 S f args H with
 |some (ps,n,xb,.yU x)=>FU (u_ ps n H xb x) k kp
 |some (ps,n,xb,.ex W g _)=>∃w:W,FU (u_ ps n H xb (g w)) k kp
 |some (ps,n,xb,.Q0 W g _)=>∃b:Bool,@Bool.rec (λ_=>Prop) (∃w:W false,FU (u_ ps n H xb (g false w)) k kp) (∃w:W true,FU (u_ ps n H xb (g true w)) k kp) b
 |none=>False
def Df(f:FuncId):Bool:=Nat.beq f 999999
def aaC(l:Nat)(args:LV)(k:AV->AH->Prop):Prop:=
 match H.bc l,args with
 |some (.hQ st pe fn tmps nt params assign body d),[a]=>match params with
  |[p]=>match Bu (.hQ st pe fn tmps nt params assign body d) l [a]with
   |some _=>Ja H S 999999 [.gN l,a] k λ_ _=>False
   |none=>False
  |_=>False
 |_,_=>False
def Sj(o:Option iT)(k kp:AV->AH->Prop):Prop:=
 match o with
 |some (.qA f args)=>bif Df f then False else Ja H S f args k kp
 |some (.vD l args)=>aaC H S l args k
 |_=>False
def ajx(c:Call)(k kp:AV->AH->Prop):Prop:=
 match c.callee with
 |.value f=>Sj H S (ZS P ρ f c.args) k kp
 |.builtin b=>match vK ρ c.args.toList with
  |some l=>aax P H b l c.argTypes k
  |none=>False
 |.invoke r name=>Sj H S (RB P ρ H r name c.args) k kp
def hv(op:Op)(k kp:AV->AH->Prop):Prop:=
 match op with
 |.store t a x=>aaD P ρ H t a x k
 |.mapUpdate t m key x=>Sk P ρ H t m key x k
 |.insert t m key x=>Sk P ρ H t m key x k
 |.mapEntry t m key=>aaz P ρ H t m key k
 |.entryStore _ m s x=>aaA ρ H m s x k
 |.call c=>ajx P ρ H S c k kp
 |.range t x=>C0 (RF P ρ H t x) k
 |.next it xW=>C0 (IH ρ H it xW) k
 |.entry it=>avz ρ H it k
 |_=>False
end avh
def NH(P:Program)(S:bp)(ρ:Operand->Option AV)(H:AH)(op:Op)(k kp:AV->AH->Prop):Prop:=
 bif pq op then rd P ρ H op (λv=>k v H)
 else bif sO op then mk P ρ H op k
 else hv P ρ H S op k kp
def EW(nt:Nat)(tmps:Tr AV)(o:Oper)(v:AV)(k:Tr AV->Prop):Prop:=
 match oY nt tmps o.dst v with
 |some t=>k t
 |none=>False
def Rq(ops:Array Oper)(o:Oper)(tmps:Tr AV)(yB no:Tr AV->Prop):Prop:=
 match o.guard with
 |none=>yB tmps
 |some (j,pL)=>match(ops[j]?).bind (·.dst)with
  |none=>False
  |some d=>match tmps.bZ d with
   |some (.au b)=>aw b (bif pL then yB (tmps.gz d (.au true))else no (tmps.gz d (.au true))) (bif pL then no (tmps.gz d (.au false))else yB (tmps.gz d (.au false)))
   |some (.aC [])=>no tmps
   |_=>False
section par
variable(P:Program)(S:bp)
def On(ops:Array Oper)(ms:LN)(base cur:Tr AV)(H:AH):LN->Prop->Prop
 |[],k=>k
 |j::l,k=>match ops[j]? with
  |none=>False
  |some o=>match nj ops o cur.bZ with
   |none=>False
   |some false=>On ops ms base cur H l k
   |some true=>match o.dst with
    |none=>False
    |some d=>match cur.bZ d with
     |none=>False
     |some v=>f_ P (HA (xw ops ms base cur j)) H o.op=some v/\On ops ms base cur H l k
def Gf(ops:Array Oper)(ms:LN)(base:Tr AV)(nt:Nat)(kp:AV->AH->Prop):LN->LN->Tr AV->AH->(Tr AV->AH->Prop)->Prop
 |[],_,tmps,H,k=>k tmps H
 |i::rest,done,tmps,H,k=>match ops[i]? with
  |none=>False
  |some o=>Rq ops o tmps
   (λtmps=>bif rN o.op then NH P S (iG tmps) H o.op (λv H'=>EW nt tmps o v λt=>Gf ops ms base nt kp rest (i::done) t H' k) kp
     else NH P S (iG tmps) H o.op (λv H'=>EW nt tmps o v λt=>On P ops ms base t H' (PV ops ms done i) (Gf ops ms base nt kp rest (i::done) t H' k)) kp)
   (λtmps=>EW nt tmps o .l5 λt=>Gf ops ms base nt kp rest (i::done) t H k)
end par
def AN:Code->Option Nat
 |.region id _ _=>some id
 |.seq a b=>match AN a with|some i=>some i|none=>AN b
 |.cond _ a b=>match AN a with|some i=>some i|none=>AN b
 |.block _ b=>AN b
 |.loop b=>AN b
 |.scope b=>AN b
 |_=>none
section oE
variable(P:Program)(S:bp)(fn nt m0:Nat)(aR:Nat->LN)(L:Tr AV->AH->List dZ->Prop)(Q:AV->AH->Prop)(ret:Bool->Tr AV->AH->Prop)(dN:AV->Tr AV->AH->Prop)(rd:Option Nat)
def NP:dZ->Bool
 |.Ek _=>false
 |.BJ _=>false
 |_=>true
def lx:List dZ->Bool
 |[]=>true
 |x::l=>NP x&&lx l
def P4(body:Code)(k:List dZ)(tmps:Tr AV)(H:AH):Prop:=
 match AN body with
 |none=>False
 |some i=>match mB m0 (Gv tmps (aR i)) H with
  |some ⟨ps,H2⟩=>match rn (iK ps) tmps (aR i)with
   |some t=>bif lx k then L t H2 (.gM body::.rq body::k)else False
   |none=>False
  |none=>False
def pX(tmps:Tr AV)(H:AH):Prop:=
 match P.funcs[fn]? with
 |some f=>match s7 P H tmps f.results.toList with
  |some l=>match mB m0 (wo (BF l)) H with
   |some ⟨ps,H2⟩=>match eM (iK ps) (BF l)with
    |some v=>Q v H2
    |none=>False
   |none=>False
  |none=>False
 |none=>False
def P7(todo:List dZ)(tmps:Tr AV)(H:AH):Prop:=
 match mB m0 (Gv tmps (aR 999998)) H with
 |some ⟨ps,H2⟩=>match rn (iK ps) tmps (aR 999998)with
  |some t=>bif lx todo then L t H2 todo else False
  |none=>False
 |none=>False
def P5(x:AV)(_:Tr AV)(H:AH):Prop:=
 match mB m0 (wo x) H with
 |some ⟨ps,H2⟩=>match eM (iK ps) x with
  |some y=>Q (.dN y) H2
  |none=>False
 |none=>False
def XM(LR:Tr AV->AH->Prop)(tmps:Tr AV)(H:AH):Prop:=
 match mB m0 (Gv tmps (aR 999996)) H with
 |some ⟨ps,H2⟩=>match rn (iK ps) tmps (aR 999996)with
  |some t=>LR t H2
  |none=>False
 |none=>False
def XK(LP:AV->Tr AV->AH->Prop)(x:AV)(tmps:Tr AV)(H:AH):Prop:=
 match mB m0 (wo x++Gv tmps (aR 999996)) H with
 |some ⟨ps,H2⟩=>match eM (iK ps) x,rn (iK ps) tmps (aR 999996)with
  |some y,some t=>LP y t H2
  |_,_=>False
 |none=>False
def afV(c:Code)(k:List dZ)(tmps:Tr AV)(H:AH):Prop:=
 match mB m0 (Gv tmps (aR 999999)) H with
 |some ⟨ps,H2⟩=>match rn (iK ps) tmps (aR 999999)with
  |some t=>bif lx k then L t H2 (.gM c::k)else False
  |none=>False
 |none=>False
def P6(d:Nat)(tmps:Tr AV)(H:AH):Prop:=
 match H.bc d with
 |some (.pP (some []))=>pX P fn m0 Q tmps (H.cV d (.bm []))
 |_=>False
def XN(l:Nat)(b:Bool)(tmps:Tr AV)(H:AH):Prop:=
 bif b then False else
 match H.bc l with
 |some (.hQ _ _ fn tm nt ps a bd d)=>match mB m0 [] (H.cV l (.hQ .ready none fn tm nt ps a bd d))with
  |some ⟨_,H2⟩=>Q (.au true) H2
  |none=>False
 |_=>False
def av2:LN->Bool
 |[x]=>Nat.beq x 1000000
 |_=>false
def U2(body:Code):Bool:=
 match AN body with
 |some i=>av2 (aR i)
 |none=>false
def aaK:Op->Bool
 |.defer .. =>true
 |.next _ false=> !(aR 999998).isEmpty
 |.call c=>(match c.callee with|.value (.func f)=>(aR 999997).any (Nat.beq (2000000+f))|.builtin .append=>(aR 999997).any (Nat.beq 3000000)|_=>false)
 |_=>false
def aaL(id:Nat):Bool:=(aR 999995).any (Nat.beq (2000000+id))
def alR(tmps:Tr AV):Op->Option AV
 |.panic x=>match iG tmps x with
  |some (.ec t v)=>some (.ec t v)
  |_=>none
 |_=>none
def aj1:Op->Bool
 |.panic _=>true
 |_=>false
def lF:Nat->Tr AV->List dZ->AH->Prop
 |0,_,_,_=>False
 |n+1,tmps,todo,H=>match todo with
  |[]=>ret false tmps H
  |.vw _::k=>lF n tmps k H
  |.uz _::k=>lF n tmps k H
  |.Ai::k=>match rd with
   |some l=>match H.bc l with
    |some (.hQ .ready p lf lt ln ps a b d)=>lF n tmps k (H.cV l (.hQ .busy p lf lt ln ps a b d))
    |_=>False
   |none=>False
  |.rq body::k=>bif U2 aR body then lF n tmps (.gM body::.rq body::k) H else P4 m0 aR L body k tmps H
  |.ik ops i l::k=>match l with
   |[]=>lF n tmps k H
   |o::rest=>Rq ops o tmps
    (λtmps=>bif aj1 o.op then(match alR tmps o.op with|some v=>dN v tmps H|none=>False)
      else bif aaK aR o.op then P7 m0 aR L (.ik ops i (o::rest)::k) tmps H
      else NH P S (iG tmps) H o.op (λv H'=>EW nt tmps o v λt=>lF n t (.ik ops (Nat.succ i) rest::k) H') (λx H'=>dN x tmps H'))
    (λtmps=>EW nt tmps o .l5 λt=>lF n t (.ik ops (Nat.succ i) rest::k) H)
  |.gM c::k=>match c with
   |.ret=>ret true tmps H
   |.skip=>lF n tmps k H
   |.label _=>lF n tmps k H
   |.seq a b=>lF n tmps (.gM a::.gM b::k) H
   |.cond c a b=>match iG tmps c with
    |some (.au t)=>aw t (lF n tmps (.gM a::k) H) (lF n tmps (.gM b::k) H)
    |_=>False
   |.block id body=>lF n tmps (.gM body::.vw id::k) H
   |.scope body=>lF n tmps (.gM body::.uz body::k) H
   |.loop body=>bif U2 aR body then lF n tmps (.gM body::.rq body::k) H else P4 m0 aR L body k tmps H
   |.exit id=>match Fc id k with
    |some k'=>lF n tmps k' H
    |none=>False
   |.region id ops rD=>bif aaL aR id then P7 m0 aR L (.gM (.region id ops rD)::k) tmps H else bif rD then
     match JL ops with
     |some pl=>Gf P S ops pl.ms tmps nt (λx H'=>dN x (Ig tmps (HV ops)) H') pl.Er [] tmps H λt H'=>lF n t k H'
     |none=>False
    else lF n tmps (.ik ops 0 ops.toList::k) H
   |.rangeFunc f ps a b=>afV m0 aR L (.rangeFunc f ps a b) k tmps H
   |_=>False
  |_=>False
end oE
def bC(P:Program)(S:bp)(aR:Nat->LN)(L:Tr AV->AH->List dZ->Prop)(Q:AV->AH->Prop)(n:Nat)(f:FuncId)(args:LV)(H:AH):Prop:=
 match P.funcs[f]? with
 |some fn=>match fn.body with
  |some c=>bif Nat.ble args.length fn.ntmps&& !(fn.name== "runtime.NumGoroutine")then lF P S fn.ntmps H.bx aR L (λ_=>pX P f H.bx Q) (P5 H.bx Q) none n (Tr.Dw args 0 .il) [.gM c] H else False
  |none=>False
 |none=>False
def cg(P:Program)(S:bp)(aR:Nat->LN)(L:Tr AV->AH->List dZ->Prop)(Q:AV->AH->Prop)(n:Nat)(f m0:Nat)(tmps:Tr AV)(todo:List dZ)(H:AH):Prop:=
 match P.funcs[f]? with
 |some fn=>lF P S fn.ntmps m0 aR L (λ_=>pX P f m0 Q) (P5 m0 Q) none n tmps todo H
 |none=>False
def Oh(P:Program)(S:bp)(aR:Nat->LN)(L:Tr AV->AH->List dZ->Prop)(Q:AV->AH->Prop)(n:Nat)(f m0 d:Nat)(tmps:Tr AV)(todo:List dZ)(H:AH):Prop:=
 match P.funcs[f]? with
 |some fn=>lF P S fn.ntmps m0 aR L (λ_=>P6 P f m0 Q d) (λ_ _ _=>False) none n tmps todo H
 |none=>False
def J2(P:Program)(S:bp)(aR:Nat->LN)(L:Tr AV->AH->List dZ->Prop)(LR:Tr AV->AH->Prop)(LP:AV->Tr AV->AH->Prop)(n:Nat)(f m0:Nat)(tmps:Tr AV)(todo:List dZ)(H:AH):Prop:=
 match P.funcs[f]? with
 |some fn=>lF P S fn.ntmps m0 aR L (λ_=>XM m0 aR LR) (XK m0 aR LP) none n tmps todo H
 |none=>False
def acG(P:Program)(S:bp)(aR:Nat->LN)(L:Tr AV->AH->List dZ->Prop)(Q:AV->AH->Prop)(n:Nat)(l:Nat)(a:AV)(H:AH):Prop:=
 match H.bc l with
 |some o=>match Bu o l [a]with
  |some fr=>lF P S fr.nt H.bx aR L (XN H.bx Q l) (λ_ _ _=>False) (some l) n fr.Ah fr.GV H
  |none=>False
 |none=>False
def CK:Code->List dZ->List (List dZ)
 |.loop body,k=>(.gM body::.rq body::k)::CK body (.rq body::k)
 |.seq a b,k=>CK a (.gM b::k)++CK b k
 |.cond _ a b,k=>CK a k++CK b k
 |.block id b,k=>CK b (.vw id::k)
 |.scope b,k=>CK b (.uz b::k)
 |_,_=>[]
def DO:Code->List dZ->List (List dZ)
 |.rangeFunc f ps a b,k=>[.gM (.rangeFunc f ps a b)::k]
 |.loop body,k=>DO body (.rq body::k)
 |.seq a b,k=>DO a (.gM b::k)++DO b k
 |.cond _ a b,k=>DO a k++DO b k
 |.block id b,k=>DO b (.vw id::k)
 |.scope b,k=>DO b (.uz b::k)
 |_,_=>[]
def Oa(P:Program)(f j:Nat):List dZ:=
 match P.funcs[f]? with
 |some fn=>match fn.body with
  |some c=>((DO c [])[j]?).getD []
  |none=>[]
 |none=>[]
def ax(P:Program)(f j:Nat):List dZ:=
 match P.funcs[f]? with
 |some fn=>match fn.body with
  |some c=>((CK c [])[j]?).getD []
  |none=>[]
 |none=>[]
def ac2(aR:Nat->LN)(ops:Array Oper)(k:List dZ):Nat->List Oper->List (List dZ)
 |_,[]=>[]
 |i,o::l=>bif aaK aR o.op then(.ik ops i (o::l)::k)::ac2 aR ops k (Nat.succ i) l else ac2 aR ops k (Nat.succ i) l
def DY(aR:Nat->LN):Code->List dZ->List (List dZ)
 |.region id ops rD,k=>(bif aaL aR id then[.gM (.region id ops rD)::k]else[])++(bif rD then[]else ac2 aR ops k 0 ops.toList)
 |.loop body,k=>DY aR body (.rq body::k)
 |.seq a b,k=>DY aR a (.gM b::k)++DY aR b k
 |.cond _ a b,k=>DY aR a k++DY aR b k
 |.block id b,k=>DY aR b (.vw id::k)
 |.scope b,k=>DY aR b (.uz b::k)
 |_,_=>[]
def cM(P:Program)(aR:Nat->LN)(f j:Nat):List dZ:=
 match P.funcs[f]? with
 |some fn=>match fn.body with
  |some c=>((DY aR c [])[j]?).getD []
  |none=>[]
 |none=>[]
def bg:List (Nat×AV)->Tr AV
 |[]=>.il
 |(s,a)::l=>(bg l).gz s a
def SU:List (Nat×bf)->Tr bf
 |[]=>.il
 |(s,a)::l=>(SU l).gz s a
def eA(x:Option XH)(l:List (Nat×bf))(n:Nat):AH:=⟨SU l,n,x⟩
abbrev aq:List (Nat×bf)->Nat->AH:=eA none
abbrev bU(g:Nat->Option bf)(m:Nat):List (Nat×bf)->Nat->AH:=eA (some ⟨g,m⟩)
end
theorem abt:∀{ps a c},iK ps a=some c->(a,c)∈ps
 |[],_,_,h=>by cases h
 |(o,n)::l,a,c,h=>by
  simp only[iK]at h;cases hb:Nat.beq o a
  .rw[hb]at h;exact en _ (abt h)
  .rw[hb]at h;cases h;have:=dw hb;subst this;exact dY ..
theorem JG:∀{ps a c},zG ps c=some a->(a,c)∈ps
 |[],_,_,h=>by cases h
 |(o,n)::l,a,c,h=>by
  simp only[zG]at h;cases hb:Nat.beq n c
  .rw[hb]at h;exact en _ (JG h)
  .rw[hb]at h;cases h;have:=dw hb;subst this;exact dY ..
theorem abz:∀{l},x_ l=true↔l.Nodup
 |[]=>by simp[x_]
 |a::l=>by
  simp only[x_,dc,zL,wL,abz];have:l.any (Nat.beq a)=false↔a∉l:=by
   rw[<-Bool.not_eq_true,List.any_eq_true];constructor
   .intro h hm;exact h ⟨a,hm,by simp⟩
   .rintro h ⟨x,hx,he⟩;exact h (by rw[dw he];exact hx)
  rw[this]
theorem ND:∀{ps a c},(ps.map (·.2)).Nodup->(a,c)∈ps->zG ps c=some a
 |[],_,_,_,h=>by cases h
 |(o,n)::l,a,c,hn,h=>by
  simp only[gZ,wL]at hn;simp only[zG];rcases dK.1 h with h|h
  .cases h;simp
  .have:n≠c:=by rintro rfl;exact hn.1 (Bp h)
   rw[Tr.ua];simp only[this,decide_false,cond_false];exact ND hn.2 h
theorem S1:∀{ps a c},(ps.map (·.1)).Nodup->(a,c)∈ps->iK ps a=some c
 |[],_,_,_,h=>by cases h
 |(o,n)::l,a,c,hn,h=>by
  simp only[gZ,wL]at hn;simp only[iK];rcases dK.1 h with h|h
  .cases h;simp
  .have:o≠a:=by rintro rfl;exact hn.1 (Bp h)
   rw[Tr.ua];simp only[this,decide_false,cond_false];exact S1 hn.2 h
theorem Nr:∀{ps:List (Nat×Nat)} {a b c},(ps.map (·.2)).Nodup->(a,c)∈ps->(b,c)∈ps->a=b:=by intro ps a b c hn h1 h2;have e1:=ND hn h1;have e2:=ND hn h2;rw[e1]at e2;cases e2;rfl
theorem awY:∀{ps:List (Nat×Nat)} {a b c},(ps.map (·.1)).Nodup->(c,a)∈ps->(c,b)∈ps->a=b:=by intro ps a b c hn h1 h2;have e1:=S1 hn h1;have e2:=S1 hn h2;rw[e1]at e2;cases e2;rfl
section
variable{r:Nat->Option Nat}{φ ψ:cn}
structure tj(r:Nat->Option Nat)(φ ψ:cn):Prop where
 f:∀a c,r a=some c->ψ c=φ a
 ro:∀b o,φ.ro b=some o->ψ.ro b=some o
 xs:∀n e,φ.xs n=some e->ψ.xs n=some e
instance{r:Nat->Option Nat}{φ ψ:cn}:CoeFun (tj r φ ψ) (λ_=>∀a c,r a=some c->ψ c=φ a):=⟨tj.f⟩
theorem tj.pu{r φ ψ}(h:tj r φ ψ):dE φ.pu ψ.pu:=⟨λ_ _ h=>(by cases h),h.ro,h.xs⟩
mutual
theorem se(hr:tj r φ ψ):∀{a a':AV} {v:Value},eM r a=some a'->VR φ a v->VR ψ a' v
 |.au _,a',v,h,hv=>by cases h;simpa[VR]using hv
 |.bV _ _,a',v,h,hv=>by cases h;simpa[VR]using hv
 |.ad _,a',v,h,hv=>by cases h;simpa[VR]using hv
 |.aa id off,a',v,h,hv=>by
  simp only[eM]at h;split at h;next c hc=>cases h;obtain⟨e,h1,h2⟩:=hv;exact⟨e,by rw[hr _ _ hc];exact h1,h2⟩
  .cases h
 |.kP,a',v,h,hv=>by cases h;simpa[VR]using hv
 |.bw id off len cap sz ex,a',v,h,hv=>by
  simp only[eM]at h;split at h;next c hc=>
   obtain⟨e,x,c',h1,h2,h3,h4,h5,h6⟩:=hv;split at h
   .split at h
    .cases h;exact .inr ⟨e,x,c',by rw[hr _ _ hc];exact h1,h2,by simpa using h3,h4,by simpa using h6⟩
    .cases h;exact⟨e,x,c',by rw[hr _ _ hc];exact h1,h2,h3,h4,h5,h6⟩
   .cases h;exact⟨e,x,c',by rw[hr _ _ hc];exact h1,h2,h3,h4,h5,h6⟩
  .cases h
 |.aM,a',v,h,hv=>by cases h;simpa[VR]using hv
 |.aB id,a',v,h,hv=>by
  simp only[eM]at h;split at h;next c hc=>cases h;obtain⟨e,h1,h2⟩:=hv;exact⟨e,by rw[hr _ _ hc];exact h1,h2⟩
  .cases h
 |.mW,a',v,h,hv=>by cases h;simpa[VR]using hv
 |.bn fn f c,a',v,h,hv=>by
  simp only[eM]at h;split at h;next f' c' hf hc=>cases h;obtain⟨f1,c1,h1,hy,h2,h3⟩:=hv;exact⟨f1,c1,h1,hy,Gp hr hf h2,Gp hr hc h3⟩
  .cases h
 |.gN id,a',v,h,hv=>by
  simp only[eM]at h;split at h;next c hc=>cases h;obtain⟨e,h1,h2⟩:=hv;exact⟨e,by rw[hr _ _ hc];exact h1,h2⟩
  .cases h
 |.qz,a',v,h,hv=>by cases h;simpa[VR]using hv
 |.ec t a,a',v,h,hv=>by
  simp only[eM]at h;split at h;next c hc=>cases h;obtain⟨v',h1,h2⟩:=hv;exact⟨v',h1,se hr hc h2⟩
  .cases h
 |.lJ,a',v,h,hv=>by cases h;simpa[VR]using hv
 |.ai cs,a',v,h,hv=>by
  simp only[eM]at h;split at h;next c hc=>cases h;obtain⟨v',h1,h2⟩:=hv;exact⟨v',h1,Gp hr hc h2⟩
  .cases h
 |.aC cs,a',v,h,hv=>by
  simp only[eM]at h;split at h;next c hc=>cases h;obtain⟨v',h1,h2⟩:=hv;exact⟨v',h1,Gp hr hc h2⟩
  .cases h
 |.vV _,a',v,h,hv=>by cases h;simpa[VR]using hv
 |.ah ..,a',v,h,hv=>by cases h;exact VR.Es _ _ rfl hv hr.pu
 |.pK _,a',v,h,hv=>by cases h;exact VR.Es _ _ rfl hv hr.pu
 |.fw ..,a',v,h,hv=>by cases h;exact VR.Es _ _ rfl hv hr.pu
 |.fE ..,a',v,h,hv=>by cases h;exact VR.Es _ _ rfl hv hr.pu
 |.rC,a',v,h,hv=>by cases h;exact VR.Es _ _ rfl hv hr.pu
 |.dN _,a',v,h,hv=>hv.elim
 |.aj id len sz,a',v,h,hv=>by
  simp only[eM]at h;split at h;next c hc=>
   cases h;rcases hv with hv|⟨e,x,c',h1,h2⟩
   .exact .inl hv
   .exact .inr ⟨e,x,c',by rw[hr _ _ hc];exact h1,h2⟩
  .cases h
theorem Gp(hr:tj r φ ψ):∀{as qI:LV} {vs:List Value},nY r as=some qI->br φ as vs->br ψ qI vs
 |[],qI,vs,h,hv=>by cases h;simpa[br]using hv
 |a::as,qI,vs,h,hv=>by
  simp only[nY]at h;split at h;next a' ha=>
   split at h;next l' hl=>cases h;obtain⟨v,eF,rfl,h1,h2⟩:=hv;exact⟨v,eF,rfl,se hr ha h1,Gp hr hl h2⟩
   .cases h
  .cases h
end
theorem ayC{a a'}(h:eM r a=some a'):a'.cY=a.cY:=by
 cases a<;>simp only[eM]at h<;>first
  |(cases h;rfl)
  |(split at h
    .first
      |(cases h;rfl)
      |(split at h<;>cases h<;>rfl)
      |(split at h
        .split at h<;>cases h<;>rfl
        .cases h;rfl)
    .cases h)
theorem ams:∀{as qI},nY r as=some qI->qI.length=as.length/\qI.all AV.cY=as.all AV.cY
 |[],qI,h=>by cases h;exact⟨rfl,rfl⟩
 |a::as,qI,h=>by
  simp only[nY]at h;split at h;next a' ha=>
   split at h;next l' hl=>cases h;have⟨h1,h2⟩:=ams hl;exact⟨by simp[h1],by simp[ayC ha,h2]⟩
   .cases h
  .cases h
theorem amt(hr:tj r φ ψ):∀{es bJ ms},TM r es=some bJ->dP φ es ms->dP ψ bJ ms
 |[],bJ,ms,h,he=>by cases h;simpa[dP]using he
 |(k,v,b)::es,bJ,ms,h,he=>by
  simp only[TM]at h;split at h;next k' v' l' h1 h2 h3=>cases h;obtain⟨m,SW,rfl,a1,a2,a3,a4⟩:=he;exact⟨m,SW,rfl,se hr h1 a1,se hr h2 a2,a3,amt hr h3 a4⟩
  .cases h
theorem TN:∀{t t' i a'},Oc r t=some t'->t'.bZ i=some a'->∃a,t.bZ i=some a/\eM r a=some a'
 |.il,t',i,a',h,hg=>by cases h;cases hg
 |.gy v a b,t',i,a',h,hg=>by
  simp only[Oc]at h;split at h;next x y hx hy=>
   have aI:∀v':Option AV,(∀z,v'=some z->∃z0,v=some z0/\eM r z0=some z)->(Tr.gy v' x y).bZ i=some a'->∃a0,(Tr.gy v a b).bZ i=some a0/\eM r a0=some a':=by
    intro v' hv hg;rw[Tr.p9]at hg;rw[Tr.p9];split at hg;next h0=>rw[aL h0];exact hv _ hg
    next h0=>
     rw[az h0];split at hg;next h1=>rw[aL h1];exact TN hx hg
     next h1=>rw[az h1];exact TN hy hg
   split at h
   .cases h;exact aI none (λz hz=>by cases hz) hg
   next z0=>
    split at h;next z hz=>cases h;exact aI (some z) (λw hw=>by cases hw;exact⟨z0,rfl,hz⟩) hg
    .cases h
  .cases h
theorem acq(hr:tj r φ ψ){ob bE e o}(h:lX r ob=some bE)(ho:OR φ ob e o):OR ψ bE e o:=by
 cases ob<;>simp only[lX]at h<;>try (cases h;done)
 case al vs el=>
  split at h;next l hl=>cases h;obtain⟨cs,h_,rfl,h1,h2,h3,h4⟩:=ho;have⟨a1,a2⟩:=ams hl;exact⟨cs,h_,rfl,h1,by rw[a1];exact h2,by rw[a1];exact Gp hr hl h3,by rw[a2];exact h4⟩
  .cases h
 case aY es c p=>
  obtain⟨bJ,rfl,h2,h3⟩:=ho;cases p with
  |true=>cases h;exact⟨bJ,rfl,((h3 rfl).GZ hr.pu).GZ (dE.wD _),λ_=>(h3 rfl).GZ hr.pu⟩
  |false=>
   simp at h;split at h;next l hl=>cases h;exact⟨bJ,rfl,amt hr hl h2,λh=>by cases h⟩
   .cases h
 case hQ st p fn t nt ps a b d=>
  split at h;next t' d' ht hd=>cases h;obtain⟨o5,ed,rfl,h1,h2⟩:=ho;refine⟨o5,ed,rfl,(hr d d' hd).trans h1,h2.1,λi x hx=>?_⟩;have⟨x0,g1,g2⟩:=TN ht hx;have⟨v,g3,g4⟩:=h2.2 i x0 g1;exact⟨v,g3,se hr g2 g4⟩
  .cases h
 case bm=>cases h;trivial
 case dU=>cases h;obtain⟨cs,el,rfl,h2,h3,h4,h5⟩:=ho;exact⟨cs,el,rfl,h2,h3,br.kW hr.pu _ _ h4,h5⟩
 case aA=>cases h;obtain⟨cs,el,rfl,h2,h3,h4,h5⟩:=ho;exact⟨cs,el,rfl,h2,h3,br.kW hr.pu _ _ h4,h5⟩
 case uk=>cases h;exact ho
 case jg m since bK st=>
  obtain⟨m',rfl,h1,h2⟩:=ho;split at h;next id=>
   split at h;next iq dv=>cases h;have⟨e2,h3,h4⟩:=h2;exact⟨m',rfl,h1,e2,by rw[hr id iq dv];exact h3,h4⟩
   .cases h
  .cases h;exact⟨m',rfl,h1,h2⟩
 case pP ds=>
  split at h
  .cases h;exact ho
  .cases h;have⟨l',h1,h2⟩:=ho;cases h2;exact⟨[],h1,rfl⟩
  .cases h
theorem Ob{ob bE}(h:lX r ob=some bE):bE.aR=ob.aR:=by
 cases ob<;>simp only[lX]at h<;>try (cases h;done)
 case al vs el=>split at h<;>cases h;rfl
 case hQ st p fn t nt ps a b d=>split at h<;>cases h;rfl
 case aY es c p=>
  cases p with
  |true=>cases h;rfl
  |false=>simp at h;split at h<;>cases h;rfl
 case bm=>cases h;rfl
 case dU=>cases h;rfl
 case aA=>cases h;rfl
 case uk=>cases h;rfl
 case jg m since bK st=>split at h<;>(try split at h)<;>cases h<;>rfl
 case pP ds=>split at h<;>cases h<;>rfl
end
theorem U9{r H}:∀{ps t t' i bE},Ee r H ps t=some t'->t'.bZ i=some bE->
 (∃o ob,(o,i)∈ps/\H.bc o=some ob/\lX r ob=some bE)\/t.bZ i=some bE
 |[],t,t',i,bE,h,hg=>by cases h;exact .inr hg
 |(o,n)::l,t,t',i,bE,h,hg=>by
  simp only[Ee]at h;split at h;next ho=>
   rcases U9 h hg with⟨o2,ob,h1,h2⟩|h1
   .exact .inl ⟨o2,ob,en _ h1,h2⟩
   .exact .inr h1
  next ob ho=>
   split at h;next dn ave=>
    rcases U9 h hg with⟨o2,ie,h1,h2⟩|h1
    .exact .inl ⟨o2,ie,en _ h1,h2⟩
    .rw[Tr.kM]at h1;by_cases hi:i=n
     .subst hi;rw[aL rfl]at h1;cases h1;exact .inl ⟨o,ob,dY ..,ho,ave⟩
     .rw[az hi]at h1;exact .inr h1
   .cases h
def jf(ps:List (Nat×Nat))(φ:cn):cn:=⟨λc=>(zG ps c).bind φ.f,φ.ro,φ.xs⟩
structure K0(ps:List (Nat×Nat))(n:Nat):Prop where
 n1:(ps.map (·.1)).Nodup
 n2:(ps.map (·.2)).Nodup
 lt:∀p∈ps,p.2<n
theorem axw{ps n}(h:abH ps n=true):K0 ps n:=by unfold abH at h;simp only[dc]at h;exact⟨abz.1 h.1.1,abz.1 h.1.2,λp hp=>by have:=mq.1 h.2 p hp;exact pE this⟩
theorem yc{ps n}(h:K0 ps n)(φ):tj (iK ps) φ (jf ps φ):=by refine⟨λa c hac=>?_,λ_ _ h=>h,λ_ _ h=>h⟩;have:=ND h.n2 (abt hac);simp[jf,this]
theorem JJ{ps φ c e}(h:jf ps φ c=some e):∃a,(a,c)∈ps/\φ a=some e:=by
 unfold jf at h;cases ho:zG ps c with
 |none=>simp[ho]at h
 |some a=>simp[ho]at h;exact⟨a,JG ho,h⟩
theorem WR.tb{φ base H w}(hw:WR φ base H w){ps n t}(hp:K0 ps n)(h:Ee (iK ps) H ps .il=some t):
 WR (jf ps φ) base ⟨t,n,H.x⟩ w:=by
 have jA:∀{i ob},(⟨t,n,H.x⟩:AH).bc i=some ob->∃o ef,(o,i)∈ps/\H.bc o=some ef/\lX (iK ps) ef=some ob:=by
  intro i ob hi;rcases U9 h hi with h1|h1
  .exact h1
  .cases h1
 refine⟨?_,?_,?_,?_,hw.s8 rfl rfl rfl (λ_ _=>rfl) λi ob e h1 l1 h2=>.inl ?_⟩
 .intro i ob e h1 h2;have⟨o,ef,g1,g2,g3⟩:=jA h1;have⟨a,g4,g5⟩:=JJ h2;have:=Nr hp.n2 g1 g4;subst this;have⟨o',g6,g7⟩:=hw.eI _ _ e g2 g5;exact⟨o',g6,acq (yc hp φ) g3 g7⟩
 .intro i j ob bE e e' h1 l1 h2 h3 l2 h4 hb;have⟨o,ef,g1,g2,g3⟩:=jA h1;have⟨a,g4,g5⟩:=JJ h2;have⟨o2,ie,k1,k2,k3⟩:=jA h3;have⟨a2,k4,k5⟩:=JJ h4;have e1:=Nr hp.n2 g1 g4;have e2:=Nr hp.n2 k1 k4;subst e1 e2;have:=hw.ji _ _ ef ie e e' g2 (by rw[<-Ob g3];exact l1) g5 k2 (by rw[<-Ob k3];exact l2) k5 hb;subst this;exact awY hp.n1 g1 k1
 .intro i e h2;have⟨a,g4,g5⟩:=JJ h2;have⟨a1,a2,_⟩:=hw.lt a e g5;exact⟨a1,a2,hp.lt _ g4⟩
 .intro i ob h1;have⟨o,ef,g1,_⟩:=jA h1;exact hp.lt _ g1
 .have⟨o,ef,g1,g2,g3⟩:=jA h1;have⟨a,g4,g5⟩:=JJ h2;have:=Nr hp.n2 g1 g4;subst this;exact⟨_,ef,e,g2,by rw[<-Ob g3];exact l1,g5,rfl⟩
theorem BI{m0 mw H H2 ps}(h:mB m0 mw H=some ⟨ps,H2⟩):
 ∃t n,H2=⟨t,n,H.x⟩/\K0 ps n/\Ee (iK ps) H ps .il=some t/\(∀i,i<m0->zG ps i=some i):=by
 unfold mB at h;split at h;rename_i sU n _;have⟨hc,h⟩:=dj h;simp at hc;split at h;next t ht=>
  cases h;refine⟨t,n,rfl,axw hc.1,ht,λi hi=>?_⟩;have:=mq.1 hc.2 i (by simpa using hi);split at this;next j hj=>rw[hj,<-dw this]
  .cases this
 .cases h
theorem OQ{r tmps}:∀{l t s a'},rn r tmps l=some t->t.bZ s=some a'->∃a,tmps.bZ s=some a/\eM r a=some a'
 |[],t,s,a',h,hg=>by cases h;cases hg
 |x::l,t,s,a',h,hg=>by
  simp only[rn]at h;split at h
  .cases h
  next t1 h1=>
   split at h;next a ha=>
    split at h;next b hb=>
     cases h;rw[Tr.kM]at hg;by_cases hs:s=x
     .subst hs;rw[aL rfl]at hg;cases hg;exact⟨a,ha,hb⟩
     .rw[az hs]at hg;exact OQ h1 hg
    .cases h
   .cases h;exact OQ h1 hg
structure jj(m:Nat)(φ ψ:cn):Prop where
 f:∀id,id<m->ψ id=φ id
 ro:∀b o,φ.ro b=some o->ψ.ro b=some o
 xs:∀n e,φ.xs n=some e->ψ.xs n=some e
instance{m:Nat}{φ ψ:cn}:CoeFun (jj m φ ψ) (λ_=>∀id,id<m->ψ id=φ id):=⟨jj.f⟩
theorem jj.rr{m φ ψ χ}(h:jj m φ ψ)(h':jj m ψ χ):jj m φ χ:=⟨λid hi=>(h' id hi).trans (h id hi),λb o hb=>h'.ro b o (h.ro b o hb),λn e hn=>h'.xs n e (h.xs n e hn)⟩
theorem jj.Aj(m φ):jj m φ φ:=⟨λ_ _=>rfl,λ_ _ h=>h,λ_ _ h=>h⟩
theorem jj.mono{m n φ ψ}(h:jj n φ ψ)(hm:m<=n):jj m φ ψ:=⟨λid hi=>h id (JX hi hm),h.ro,h.xs⟩
theorem WR.noX{φ base t n x w}(hw:WR φ base ⟨t,n,x⟩ w):WR φ base ⟨t,n,none⟩ w:=
 ⟨hw.eI,hw.ji,hw.lt,hw.nx,⟨hw.wx.ro,(λn ob h=>by cases h),(λn n' ob bE e e' h=>by cases h),(λX h=>by cases h)⟩⟩
section
variable{P:Program}{ρ:Operand->Option AV}{H:AH}
theorem yb{o k}(h:wC o k):∃v,o=some v/\k v:=by
 cases o with
 |none=>cases h
 |some v=>exact⟨v,rfl,h⟩
theorem iA{c A}(h:bif c then A else False):c=true/\A:=by
 cases c
 .cases h
 .exact⟨rfl,h⟩
theorem y6:∀(d ts gV) {k},vR P d ts gV k->∃cs,k cs
 |0,_,_,_,h=>by cases h
 |d+1,[],gV,k,h=>⟨_,h⟩
 |d+1,t::ts,gV,k,h=>by
  simp only[vR]at h;split at h
  .exact y6 d _ _ h
  .have⟨n,h⟩:=h;exact y6 d _ _ h
  .have⟨n,h⟩:=h;exact y6 d _ _ h
  .have⟨n,h⟩:=h;exact y6 d _ _ h
  .split at h
   .have⟨cs,len,h⟩:=h;exact y6 d _ _ h
   .cases h
  .have⟨n,off,h⟩:=h;exact y6 d _ _ h
  .have⟨n,h⟩:=h;exact y6 d _ _ h
theorem L0{t k}(h:Fb P t k):∃v,k v:=by
 unfold Fb at h;split at h
 .have⟨cs,h⟩:=y6 _ _ _ h;exact⟨_,h⟩
 .have⟨cs,h⟩:=y6 _ _ _ h;split at h
  .exact⟨_,h⟩
  .cases h
 .cases h
theorem ath{t k}(h:ahJ P t k):∃v,k v:=y6 _ _ _ h
theorem Nv{x k}(h:Gb ρ x k):∃(kd:IntKind) (i:Nat),ρ x=some (.bV kd (.ofNat i))/\k i:=by
 unfold Gb at h;split at h;next kd n hx=>
  cases hc:tX x
  .rw[hc]at h;obtain⟨i,rfl,h⟩:=h;exact⟨kd,i,hx,h⟩
  .rw[hc]at h;simp at h;split at h;next i=>exact⟨kd,i,hx,h⟩
   .cases h
 .cases h
def HE(a:Option AV)(d:Nat):Option Nat:=
 match a with
 |some v=>oz v
 |none=>some d
theorem BV{o d k}(h:Az ρ o d k):
 ∃a i,rX ρ o=some a/\HE a d=some i/\k i:=by
 cases o with
 |none=>exact⟨none,d,rfl,rfl,h⟩
 |some x=>have⟨kd,i,h1,h2⟩:=Nv h;exact⟨some (.bV kd (.ofNat i)),i,by simp[rX,h1],rfl,h2⟩
theorem PX{o s}(h:o.any (Nat.beq s)=true):o=some s:=by
 cases o with
 |none=>cases h
 |some x=>simp only[zM]at h;rw[dw h]
theorem ajZ{id vs}(h:Sq (H.bc id)=some vs):H.qy id=some vs:=by
 unfold Sq at h;unfold AH.qy;split at h;next ho=>cases h;rw[ho]
 next ho=>cases h;rw[ho]
 .cases h
theorem ayo{t a k}(h:acg P ρ H t a k):∃v,f_ P ρ H (.load t a)=some v/\k v:=by
 unfold acg at h;simp only[f_,SA];split at h;next id off ha=>
  rw[ha];split at h;next vs jC=>have⟨v,h1,h2⟩:=L0 h;exact⟨v,by simp only[t_,ajZ jC,h1],h2⟩
  .exact yb h
 next cs ha=>rw[ha];exact yb h
 next n off ha=>rw[ha];exact L0 h
 .cases h
theorem fU{a b}(h:a<=b):Nat.ble a b=true:=by rw[vl];exact h
theorem aif{id off sz k}:∀{c j} {i:Nat},Zg id off sz (i:Int) k j c->j<=i->i<j+c->k (.aa id (off+i*sz))
 |0,j,i,_,h1,h2=>by omega
 |c+1,j,i,h,h1,h2=>by
  by_cases hi:i=j
  .subst hi;exact h.1 rfl
  .exact aif h.2 (by simp;omega) (by simp;omega)
theorem aym{t x i k}(h:acf P ρ H t x i k):∃v,f_ P ρ H (.indexAddr t x i)=some v/\k v:=by
 unfold acf at h;split at h;next e hu=>
  simp only[f_,M7,hu];split at h;next cs len sz hx=>have⟨hs,h⟩:=iA h;have⟨kd,j,hi,h⟩:=Nv h;have⟨ay,h⟩:=h;have⟨dU,h1,h2⟩:=ath h;rw[hx,hi];refine⟨_,?_,h2⟩;have hs:=PX hs;simp only[Qz,hs,lC,fU (show j+1<=len from ay),lB,cond_true,h1]
  next id len sz hx=>have⟨hs,h⟩:=iA h;have⟨kd,j,hi,h⟩:=Nv h;have⟨ay,h⟩:=h;rw[hx,hi];refine⟨_,?_,h⟩;have A9:=PX hs;simp only[A9,zM,lC,cond_true,Ca,fU (show j+1<=len from ay),kD]
  next id off len cap sz ex hx=>
   split at h
   .have:=yb h;simp only[f_,M7,hu]at this;exact this
   have⟨hs,h⟩:=iA h;have⟨kd,j,hi,h⟩:=Nv h;have⟨ay,h⟩:=h;rw[hx,hi];refine⟨_,?_,h⟩;have A9:=PX hs;simp only[cond_true,Ca,A9,fU (show j+1<=len from ay)]
  .cases h
 next c e hu=>
  cases hc:tX i
  .rw[hc]at h;simp at h;split at h;next id off kd n hx hi=>
    split at h;next sz hs=>have⟨⟨h0,h1⟩,h⟩:=h;obtain⟨j,rfl⟩:=Int.eq_ofNat_of_zero_le h0;have eD:=hi;refine⟨_,?_,aif h (fu _) (by omega)⟩;simp only[f_,M7,hu,hx,eD,Ca,hs,fU (show j+1<=c by omega),cond_true]
    .cases h
   .cases h
  .rw[hc]at h;exact yb h
 .exact yb h
theorem aie{e sz cs k}:∀{c j} {i:Nat},Zf P e sz cs (i:Int) k j c->j<=i->i<j+c->∃v,cz P e cs (i*sz)=some v/\k v
 |0,j,i,_,h1,h2=>by omega
 |c+1,j,i,h,h1,h2=>by
  by_cases hi:i=j
  .subst hi;exact yb (h.1 rfl)
  .exact aie h.2 (by simp;omega) (by simp;omega)
theorem ayn{t x i k}(h:ace P ρ H t x i k):∃v,f_ P ρ H (.index t x i)=some v/\k v:=by
 unfold ace at h;split at h;next cs kd n hx hi=>
  cases hc:tX i
  .rw[hc]at h;simp at h;split at h;next c e hu=>
    split at h;next sz hs=>have⟨⟨h0,h1⟩,h⟩:=h;obtain⟨j,rfl⟩:=Int.eq_ofNat_of_zero_le h0;have⟨v,h2,h3⟩:=aie h (fu _) (by omega);refine⟨v,?_,h3⟩;have eD:=hi;simp only[f_,Sz,hu,hx,eD,YG,hs,fU (show j+1<=c by omega),cond_true,h2]
    .cases h
   .cases h
  .rw[hc]at h;exact yb h
 next s kd n hx hi=>
  split at h;next hu=>have⟨kd',j,eD,b,h1,h2⟩:=Nv h;refine⟨_,?_,h2⟩;simp only[f_,Sz,hu,hx,eD,X8,h1]
  .cases h
 .cases h
theorem awR{kt e es key v b ok}(h:eZ P kt e es key=some (v,b)):
 (match oJ (iB P 100 kt) key es 0 with
   |some (some (_,v,_))=>some (mX ok v true)
   |some none=>(kb P e).map (mX ok · false)
   |none=>none)=some (mX ok v b):=by
 unfold eZ at h;split at h;next i v' b' hf=>cases h;first|rfl|rw[hf]
 next hf=>
  try rw[hf]
  cases hz:kb P e with
  |none=>simp[hz]at h
  |some z=>simp[hz]at h⊢;obtain⟨rfl,rfl⟩:=h;rfl
 .cases h
theorem ayp{t x key ok k}(h:ach P ρ H t x key ok k):∃v,f_ P ρ H (.lookup t x key ok)=some v/\k v:=by
 unfold ach at h;split at h;next kt e id ky hu hx hk=>
  split at h;next es c p ho=>
   have⟨hp,h⟩:=iA h;have go:∀{v:AV} {b:Bool},eZ P kt e es ky=some (v,b)->f_ P ρ H (.lookup t x key ok)=some (lv P H e ok (mX ok v b)):=by intro v b h1;simp only[f_,M8,hu,hx,hk,Nd,hp,cond_true,Cg,ho];exact congrArg (Option.map (lv P H e ok)) (awR h1)
   split at h;next hX=>
    have⟨v,b,h1,h2⟩:=L0 h;refine⟨_,go h1,?_⟩;have:lv P H e ok (mX ok v b)=mX ok v b:=by unfold lv;rw[hX]
    rw[this];exact h2
   next X hX=>
    unfold amj at h;split at h;next e' he=>
     split at h;next sz cx=>
      have⟨n,len,b,h1,h2⟩:=h;have key:∀v,lv P H e ok (mX ok v b)=mX ok (Gc sz v) b:=by intro v;unfold lv;rw[hX];simp only[he,cx];cases ok<;>rfl
      unfold Dp at h1;split at h1;next n' cG s b' hl=>have⟨hs,h1⟩:=dj h1;cases h1;have hs:=dw hs;subst hs;exact⟨_,go hl,by rw[key];exact h2⟩
      next b' hl=>cases h1;exact⟨_,go hl,by rw[key];exact h2⟩
      .cases h1
     .cases h
    next e' he=>
     have key:∀v,lv P H e ok v=v:=by intro v;unfold lv;rw[hX];simp only[he]
     have⟨c,h⟩:=h;cases c
     .have⟨n,off,b,h1,h2⟩:=h;exact⟨_,go h1,by rw[key];exact h2⟩
     .have⟨b,h1,h2⟩:=h;exact⟨_,go h1,by rw[key];exact h2⟩
    next hn1 CT=>
     have key:∀v,lv P H e ok v=v:=by intro v;unfold lv;rw[hX];simp only
     have⟨v,b,h1,h2⟩:=L0 h;exact⟨_,go h1,by rw[key];exact h2⟩
  .cases h
 next kt e ky hu hx hk=>have⟨hp,h⟩:=iA h;have⟨v,h1,h2⟩:=yb h;refine⟨v,?_,h2⟩;simp only[f_,M8,hu,hx,hk,Nd,hp,cond_true,Cg,oJ];exact h1
 .cases h
theorem acV{t sz}(h:(match P.underlying t with|some (.slice e)=>(cW P e).any (Nat.beq sz)|_=>false)=true):∃e,P.underlying t=some (.slice e)/\cW P e=some sz:=by
 split at h;next e hu=>exact⟨e,hu,PX h⟩
 .cases h
theorem aFb{t}(h:(match P.underlying t with|some .string=>true|_=>false)=true):P.underlying t=some .string:=by
 split at h
 .assumption
 .cases h
theorem anq{id off len cap sz ex lo hi l h}(e2:HE lo 0=some l)(e1:HE hi len=some h)(h1:l<=h)(h2:h<=bif ex then cap else len):Gu id off len cap sz ex lo hi none=some (.bw id (off+l*sz) (h-l) (Ly ex lo cap l) sz ex):=by
 unfold Gu;cases lo<;>cases hi<;>simp only[HE]at e1 e2⊢<;>first
  |(cases e1;cases e2;simp[fU h1,fU h2];done)
  |(cases e1;simp[e2,fU h1,fU h2];done)
  |(cases e2;simp[e1,fU h1,fU h2];done)
  |(simp[e1,e2,fU h1,fU h2];done)
theorem age{lo a}(h:rX ρ lo=some a)(ex cap l):Lx ex lo cap l=Ly ex a cap l:=by
 cases lo with
 |none=>cases h;rfl
 |some x=>
  simp only[rX]at h;cases hx:ρ x with
  |none=>rw[hx]at h;cases h
  |some v=>rw[hx]at h;cases h;rfl
theorem ays{t x lo hi mx k}(h:acj P ρ H t x lo hi mx k):∃v,f_ P ρ H (.slice t x lo hi mx)=some v/\k v:=by
 unfold acj at h;split at h;next cs len sz hx=>
  have⟨hc,hq⟩:=iA h;simp at hc;have⟨e,hu,hs⟩:=acV hc.2;have xM:mx=none:=by cases mx<;>simp at hc⊢
  subst xM;have⟨a,l,h1,h2,hq⟩:=BV hq;have⟨b,h',h3,h4,hq⟩:=BV hq;have⟨⟨g1,g2⟩,hq⟩:=hq;refine⟨_,?_,hq⟩;simp only[f_,Dk,h1,h3,hu,hx,hs,show rX ρ none=some none from rfl,zM,lC,cond_true];unfold T9;cases a<;>cases b<;>simp only[HE]at h2 h4⊢<;>first
   |(cases h2;cases h4;simp[fU g1,fU g2];done)
   |(cases h2;simp[h4,fU g1,fU g2];done)
   |(cases h4;simp[h2,fU g1,fU g2];done)
   |(simp[h2,h4,fU g1,fU g2];done)
 next id off len cap sz ex hx=>
  have⟨hc,hq⟩:=iA h;simp at hc;have⟨e,hu,hs⟩:=acV hc.2;have xM:mx=none:=by cases mx<;>simp at hc⊢
  subst xM;have⟨a,l,h1,h2,hq⟩:=BV hq;have⟨b,h',h3,h4,hq⟩:=BV hq;have⟨⟨g1,g2⟩,hq⟩:=hq;refine⟨_,?_,hq⟩;simp only[f_,Dk,h1,h3,hu,hx,hs,show rX ρ none=some none from rfl,zM,lC,cond_true];have hc:Lx ex lo cap l=Ly ex a cap l:=age h1 _ _ _;rw[hc];exact anq h2 h4 g1 g2
 next id len sz hx=>
  have⟨hc,hq⟩:=iA h;simp at hc;have⟨e,hu,hs⟩:=acV hc.2;have xM:mx=none:=by cases mx<;>simp at hc⊢
  subst xM;have⟨mS,hq⟩:=hq;have⟨a,l,h1,h2,hq⟩:=BV hq;have⟨b,h',h3,h4,hq⟩:=BV hq;have⟨⟨g1,g2⟩,hq⟩:=hq;refine⟨_,?_,hq⟩;simp only[f_,Dk,h1,h3,hu,hx,hs,zM,lC,show rX ρ none=some none from rfl,Option.isNone_none,fU mS,lB,cond_true];have hc:Lx false lo 1 l=Ly false a 1 l:=age h1 _ _ _;rw[hc];exact anq h2 h4 g1 g2
 next s hx=>
  have⟨hc,hq⟩:=iA h;simp at hc;have hu:=aFb hc.2;have xM:mx=none:=by cases mx<;>simp at hc⊢
  subst xM;have⟨a,l,h1,h2,hq⟩:=BV hq;have⟨b,h',h3,h4,hq⟩:=BV hq;have⟨⟨g1,g2⟩,hq⟩:=hq;refine⟨_,?_,hq⟩;simp only[f_,Dk,h1,h3,hu,hx,show rX ρ none=some none from rfl,Option.isNone_none,cond_true];unfold T8;cases a<;>cases b<;>simp only[HE]at h2 h4⊢<;>first
   |(cases h2;cases h4;simp[fU g1,fU g2];done)
   |(cases h2;simp[h4,fU g1,fU g2];done)
   |(cases h4;simp[h2,fU g1,fU g2];done)
   |(simp[h2,h4,fU g1,fU g2];done)
 .exact yb h
theorem aqV{b A B}(h:aw b A B)(hb:b=true):A:=by subst hb;exact h
theorem aqT{b A B}(h:aw b A B)(hb:b=false):B:=by subst hb;exact h
theorem aqU{b A B}:aw b A B↔(b=true->A)/\(b=false->B):=by
 cases b
 .exact⟨λh=>⟨(λh=>by cases h),λ_=>h⟩,λh=>h.2 rfl⟩
 .exact⟨λh=>⟨λ_=>h,(λh=>by cases h)⟩,λh=>h.1 rfl⟩
theorem aD{b A B}(h1:b=true->A)(h2:b=false->B):aw b A B:=aqU.2 ⟨h1,h2⟩
theorem ayr{c a b k}(h:aci ρ c a b k):∃v,f_ P ρ H (.pick c a b)=some v/\k v:=by
 unfold aci at h;cases hc:ρ c with
 |none=>simp only[hc]at h
 |some vc=>
  cases ha:ρ a with
  |none=>cases vc<;>simp only[hc,ha]at h
  |some va=>
   cases hb:ρ b with
   |none=>cases vc<;>simp only[hc,ha,hb]at h
   |some vb=>
    cases vc<;>simp only[hc,ha,hb]at h<;>try (cases h;done)
    rename_i t;have key:∀v,(bif t then va else vb)=v->f_ P ρ H (.pick c a b)=some v:=by
     intro v hv;simp only[f_,aa0,hc];cases t
     .simp at hv⊢;rw[hb,hv]
     .simp at hv⊢;rw[ha,hv]
    by_cases h2:∃x y,va=.au x/\vb=.au y
    .obtain⟨x,y,rfl,rfl⟩:=h2;refine⟨_,key _ ?_,h⟩;cases t<;>rfl
    .
     have h3:aw t (k va) (k vb):=by
      cases va<;>cases vb<;>first
       |exact h
       |exact absurd ⟨_,_,rfl,rfl⟩ h2
     cases t
     .exact⟨_,key _ rfl,h3⟩
     .exact⟨_,key _ rfl,h3⟩
theorem ahF:∀{fs i cs ds xs ys b} (d' d),Ch P fs i cs ds=some b->xs.drop i=cs->ys.drop i=ds->
 iB.Et P d' fs xs ys (iB P (d+1))=some b
 |[],i,cs,ds,xs,ys,b,d',d,he,hx,hy=>by
  cases cs with
  |nil=>cases ds with
   |nil=>simpa[Ch,iB.Et]using he
   |cons=>simp[Ch]at he
  |cons=>simp[Ch]at he
 |f::fs,i,cs,ds,xs,ys,b,d',d,he,hx,hy=>by
  cases cs with
  |nil=>simp[Ch]at he
  |cons c cs=>
   cases ds with
   |nil=>simp[Ch]at he
   |cons dd ds=>
    have⟨mh,he⟩:=dj he;simp only[dc]at mh;have⟨hn,ho⟩:=mh;have ho:=dw ho;split at he;next td hu=>
     split at he;next x y h1 h2=>
      cases he;have avm:xs[i]? =some c:=by have:=congrArg (·[0]?) hx;simpa using this
      have avn:ys[i]? =some dd:=by have:=congrArg (·[0]?) hy;simpa using this
      have ZY:De P f.type=some false/\iB P (d+1) f.type c dd=some x:=by
       unfold ahB at h1;split at h1
       .split at h1;next hk=>subst hk;cases h1;exact⟨by simp[De,hu],by simp[iB,hu]⟩
        .cases h1
       .cases h1;exact⟨by simp[De,hu],by simp[iB,hu]⟩
       .cases h1;exact⟨by simp[De,hu],by simp[iB,hu]⟩
       .cases h1
      have cK:f.name≠ "_" :=by simpa using hn
      have hpx:cz P f.type xs f.offset=some c:=by simp only[cz,ZY.1,ho,avm]
      have hpy:cz P f.type ys f.offset=some dd:=by simp only[cz,ZY.1,ho,avn]
      simp only[iB.Et,az cK,hpx,hpy,ZY.2];have hx':xs.drop (i+1)=cs:=by have:=congrArg (List.drop 1) hx;simpa[Nat.add_comm]using this
      have sL:ys.drop (i+1)=ds:=by have:=congrArg (List.drop 1) hy;simpa[Nat.add_comm]using this
      have ih:=ahF d' d h2 hx' sL;cases x
      .simp
      .simpa using ih
     .cases he
    .cases he
theorem QX{t cs ds b}(h:QW P t cs ds=some b):iB P 100 t (.ai cs) (.ai ds)=some b/\P.eqGuardType P.depth t=false:=by
 unfold QW at h;split at h;next gp hu=>
  cases hc:(P.stoodInHeld t||P.eqGuardType P.depth t)
  .rw[hc]at h;simp at h;simp at hc;refine⟨?_,hc.2⟩;rw[iB]
   .simp only[hc.1,cond_false];exact ahF 99 98 h rfl rfl
   .exact hu
  .rw[hc]at h;cases h
 .cases h
theorem alh{op t len k o}(h:S2 P op t len k)(ho:∀el,P.underlying t=some (.slice el)->len≠0->match op with|.eql=>o=some (.au false)|.neq=>o=some (.au true)|_=>True):∃v,o=some v/\k v:=by
 unfold S2 at h;split at h;next el hu=>have⟨h0,h⟩:=h;have:=ho el hu h0;cases op<;>first|exact h.elim|exact⟨_,this,h⟩
 .cases h
theorem ayl{op t x y yt k}(h:acd P ρ H op t x y yt k):∃v,f_ P ρ H (.binOp op t x y yt)=some v/\k v:=by
 unfold acd at h;split at h;next cs ds hx hy=>
  have key:∀{b:Bool} {v:AV},QW P t cs ds=some b->Ci P op t (.ai cs) (.ai ds)=some v->f_ P ρ H (.binOp op t x y yt)=some v:=by intro b v hb hv;have⟨h1,h2⟩:=QX hb;simp only[f_,M6,hx,hy,HD,oQ,Cy,h2,lC,Bool.not_false,Bt];exact hv
  split at h;next b hb=>exact⟨_,key hb (by simp[Ci,(QX hb).1]),h⟩
  next b hb=>exact⟨_,key hb (by simp[Ci,(QX hb).1]),h⟩
  .cases h
 next cs len sz hx hy=>
  refine alh h λel hu h0=>?_
  have e:zE len=some false:=by unfold zE;rw[show Nat.beq len 0=false from by rw[rj,Ne,Nat.beq_eq];exact h0];rfl
  cases op<;>simp[f_,M6,hx,hy,HD,oQ,Cy,Ci,iB,hu,e]<;>rfl
 next id len sz hx hy=>
  refine alh h λel hu h0=>?_
  have e:zE len=some false:=by unfold zE;rw[show Nat.beq len 0=false from by rw[rj,Ne,Nat.beq_eq];exact h0];rfl
  cases op<;>simp[f_,M6,hx,hy,HD,oQ,Cy,Ci,iB,hu,e]<;>rfl
 .exact yb h
theorem ayu{op k}(h:rd P ρ H op k):∃v,f_ P ρ H op=some v/\k v:=by
 unfold rd at h;split at h
 .exact ayo h
 .exact aym h
 .exact ayn h
 .exact ayp h
 .exact ays h
 .exact ayr h
 .exact ayl h
 .exact yb h
theorem abp{o k}(h:Ns H o k):∃ob g,o=some (ob,g)/\k (g H.bx) (H.eN ob):=by
 unfold Ns at h;split at h;next ob g hh n xx=>exact⟨ob,g,rfl,h⟩
 .cases h
theorem aw5{op k}(h:mk P ρ H op k):∃ob g,rb P ρ op=some (ob,g)/\k (g H.bx) (H.eN ob):=by
 unfold mk at h;split at h;next t len cap=>
  unfold ak2 at h;cases hk:tX cap
  .rw[hk]at h;have⟨hs,h⟩:=iA h;have ot:len=cap:=by cases len<;>cases cap<;>simp[am5]at hs;rw[hs]
   subst ot;split at h;next elem n hu hc=>
    split at h;next s z gB h1 h2 h3=>obtain⟨c,rfl,h⟩:=h;have⟨hb,h⟩:=iA h;have⟨cA,h⟩:=h;have⟨ob,g,h4,h5⟩:=abp h;refine⟨ob,g,?_,h5⟩;simp only[dc]at hb;have⟨⟨⟨⟨b1,b2⟩,b3⟩,b4⟩,b5⟩:=hb;have uR:=hc;simp only[rb,SB,hu,uR,h1,h2,h3,hk,cond_false,abj,fU (cE c),fU cA,b1,b2,b3,b4,b5,lB,cond_true];exact h4
    .cases h
   .cases h
  .rw[hk]at h;exact abp h
 .exact abp h
end
section
def Dj(S:G'):KY:=λf args H=>
 match Nb S f args H with
 |some ⟨p,v,H'⟩=> @ite _ p (Classical.propDecidable p) (some (v,H')) none
 |none=>none
def Rn(S:G')(fr:gg)(H:AH):Option l6:=
 match fr.qx with
 |some l=>match H.bc l with
  |some (.hQ st pe fn tmps nt params assign body d)=>match params with
   |[p]=>match fr.Ah.bZ p with
    |some a=> @dite _ (Bu (.hQ st pe fn tmps nt params assign body d) l [a]=some fr) (Classical.propDecidable _)
      (λ_=>match Dj S 999999 [.gN l,a] H with|some (v,H')=>some ⟨jx v,none,H'⟩|none=>none) (λ_=>none)
    |none=>none
   |_=>none
  |_=>none
 |none=>none
def kZ(S:bp):sA:=⟨Rn (pc S),λf args H=>bif Df f then none else Dj (pc S) f args H⟩
theorem Tr.acK{α}{t:Tr α}:∀{n a},t.bZ n=some a->t.gz n a=t:=by
 induction t with
 |il=>intro n a h;cases h
 |gy v l r FX FY=>
  intro n a h;rw[Tr.p9]at h;rw[Tr.yr];by_cases h0:n=0
  .rw[aL h0]at h⊢;rw[h]
  .rw[az h0]at h⊢;by_cases h1:n%2=1
   .rw[aL h1]at h⊢;rw[FX h]
   .rw[az h1]at h⊢;rw[FY h]
section
variable{P:Program}{ρ:Operand->Option AV}{H:AH}{S:bp}
def He(P:Program)(S:bp)(ρ:Operand->Option AV)(H:AH)(op:Op)(v:AV)(H':AH):Prop:=
 ∃aK up,nM P ρ H op=some aK/\kK P (kZ S) H none aK=some ⟨.gG v,up,H'⟩
def V4(P:Program)(S:bp)(ρ:Operand->Option AV)(H:AH)(op:Op)(x:AV)(H':AH):Prop:=
 ∃aK up,nM P ρ H op=some aK/\kK P (kZ S) H none aK=some ⟨.dN [(x,false)],up,H'⟩
theorem He.vA{op v H'}(h:nM P ρ H op=some (.gU v H')):He P S ρ H op v H':=⟨_,none,h,rfl⟩
theorem ajD{o k}(h:C0 o k):∃v H',o=some (.gU v H')/\k v H':=by
 unfold C0 at h;split at h
 .exact⟨_,_,rfl,h⟩
 .cases h
theorem ab9{vs cs off}(h:off+cs.length<=vs.length):yd vs off cs=some (gE vs off cs):=by unfold yd;rw[Z2,fU h];rfl
theorem avD{t a x k}(h:aaD P ρ H t a x k):∃v H',He P S ρ H (.store t a x) v H'/\k v H':=by
 unfold aaD at h;split at h;next id off v ha hx=>
  split at h;next vs e s ho hs=>have⟨hc,h⟩:=iA h;have⟨hl,h⟩:=h;exact⟨_,_,.vA (by simp only[nM,II,ha,hx,J5,ho,hs,hc,cond_true,ab9 hl,r9,rY]),h⟩
  next vs e s ho hs=>have⟨hc,h⟩:=iA h;have⟨hl,h⟩:=h;exact⟨_,_,.vA (by simp only[nM,II,ha,hx,J5,ho,hs,hc,cond_true,ab9 hl,r9,rY]),h⟩
  .have⟨v,H',h1,h2⟩:=ajD h;exact⟨v,H',.vA h1,h2⟩
 next n off v ha hx=>
  split at h;next s hs=>have⟨hc,h⟩:=iA h;have⟨vs,e,ho,hl,h⟩:=h;exact⟨_,_,.vA (by simp only[nM,II,ha,hx,Oq,ho,hs,hc,cond_true,ab9 hl,r9,rY]),h⟩
  .cases h
 .cases h
theorem ajC{t m key x k}(h:Sk P ρ H t m key x k):∃v H',IG P ρ H t m key x=some (.gU v H')/\k v H':=by
 unfold Sk at h;split at h;next kt e id ky v hu hm hk hx=>
  split at h;next es c p ho=>
   have⟨hp,h⟩:=iA h;have⟨bJ,c',h1,h2⟩:=h;refine⟨_,_,?_,h2⟩;simp only[IG,hm,hk,hx,Jr,hu,ho,hp,cond_true];unfold j9 at h1;split at h1;next i a b hf=>have⟨hs,h1⟩:=dj h1;cases h1;simp only[hf,hs,cond_true,rY]
   next hf=>cases h1;simp only[hf,rY]
   .cases h1
  .cases h
 .cases h
theorem avB{t m key k}(h:aaz P ρ H t m key k):∃v H',Mn P ρ H t m key=some (.gU v H')/\k v H':=by
 unfold aaz at h;split at h;next kt e id ky hu hm hk=>
  split at h;next es c p ho=>
   have⟨hp,h⟩:=iA h;have key:∀{v:AV} {b:Nat} {bJ:List (AV×AV×Nat)} {c':Nat},Ct P kt e es c p ky=some (v,b,bJ,c')->Mn P ρ H t m key=some (.gU (.aC [lv P H e false v,vW b]) (H.cV id (.aY bJ c' p))):=by
    intro v b bJ c' h1;simp only[Mn,hu,hm,hk,QR,ho,hp,cond_true];unfold Ct at h1;split at h1;next i a b' hf=>have⟨hs,h1⟩:=dj h1;cases h1;simp only[hf,hs,cond_true]
    next hf=>
     split at h1;next z hz=>have⟨hs,h1⟩:=dj h1;cases h1;simp only[hf,hz,hs,cond_true]
     .cases h1
    .cases h1
   split at h;next hx=>
    have⟨v,h⟩:=L0 h;have⟨b,bJ,c',h1,h2⟩:=h;have hn:lv P H e false v=v:=by unfold lv;rw[hx]
    exact⟨_,_,by rw[key h1,hn],h2⟩
   next X hx=>
    unfold ajA at h;split at h;next e' he=>
     split at h;next sz cx=>
      have⟨n,len,b,bJ,c',h1,h2⟩:=h;unfold E' at h1;split at h1;next n' cG s b' Ih c2 hg=>
       have⟨hs,h1⟩:=dj h1;cases h1;have:=dw hs;subst this;have hn:∀a b c,lv P H e false (.fE a b c)=.fE a b c:=by intro a b c;unfold lv;rw[hx];simp only[he,cx,cond_false,Gc]
       exact⟨_,_,by rw[key hg,hn],h2⟩
      next b' Ih c2 hg=>
       cases h1;have hn:lv P H e false .aM=.fE 0 0 sz:=by unfold lv;rw[hx];simp only[he,cx,cond_false,Gc]
       exact⟨_,_,by rw[key hg,hn],h2⟩
      .cases h1
     .cases h
    .cases h
  .cases h
 .cases h
theorem avA{m s x k}(h:aaA ρ H m s x k):∃v H',Rz ρ H m s x=some (.gU v H')/\k v H':=by
 unfold aaA at h;split at h;next id kd b v hm hs hx=>
  split at h;next es c p ho=>
   have⟨hp,h⟩:=iA h;have⟨bJ,h1,h2⟩:=h;refine⟨_,_,?_,h2⟩;simp only[Rz,hm,hs,hx,QS,ho];unfold DD at h1;split at h1;next i hi=>cases h1;simp only[hi,hp,cond_true]
   .cases h1
  .cases h
 .cases h
theorem avy{ts id key k}(h:aay P H ts id key k):∃v H',HR P H ts id key=some (.gU v H')/\k v H':=by
 unfold aay at h;split at h;next kt e es c p hu ho=>
  have⟨hp,h⟩:=iA h;have⟨bJ,h1,h2⟩:=h;unfold LD at h1;split at h1;next i a b hf=>cases h1;exact⟨_,_,by simp only[HR,hu,ho,hp,cond_true,hf],h2⟩
  next hf=>
   cases h1;refine⟨.l5,H,by simp only[HR,hu,ho,hp,cond_true,hf],?_⟩;have:H.cV id (.aY es c p)=H:=by
    cases H with
    |mk h n=>simp only[AH.cV,AH.mk.injEq,and_true];exact Tr.acK ho
   rw[this]at h2;exact h2
  .cases h1
 .cases h
theorem Tr.acP{α}:∀(f n) (a b:α),n<=f->(Tr.wS f n a).gz n b=Tr.wS f n b
 |0,n,a,b,h=>by
  have:n=0:=by omega
  subst this;rw[Tr.acR,Tr.yr,aL rfl,Tr.acR]
 |f+1,n,a,b,h=>by
  rw[Tr.acQ,Tr.acQ];by_cases h0:n=0
  .subst h0;rw[aL rfl,aL rfl,Tr.yr,aL rfl]
  .rw[az h0,az h0];by_cases h1:n%2=1
   .rw[aL h1,aL h1,Tr.yr,az h0,aL h1,Tr.acP f _ a b (by omega)]
   .rw[az h1,az h1,Tr.yr,az h0,az h1,Tr.acP f _ a b (by omega)]
theorem Tr.acL{α}{t:Tr α}:∀{n a b},(t.gz n a).gz n b=t.gz n b:=by
 induction t with
 |il=>intro n a b;exact Tr.acP n n a b (cE n)
 |gy v l r FX FY=>
  intro n a b;rw[Tr.yr,Tr.yr];by_cases h0:n=0
  .subst h0;rw[aL rfl,aL rfl,Tr.yr,aL rfl]
  .rw[az h0,az h0];by_cases h1:n%2=1
   .rw[aL h1,aL h1,Tr.yr,az h0,aL h1,FX]
   .rw[az h1,az h1,Tr.yr,az h0,az h1,FY]
theorem aiD{elem id len sz n l vs k}(hl:Dx l)(hv:GP H id len sz vs)(h:aoR H id len (vs++l) elem k):∃nm H',Iw H elem id len sz n l=some (.fE nm (len+n) sz,H')/\k nm H':=by
 have⟨hh,m,x⟩:=H;cases x with
 |none=>cases h
 |some X=>
  have⟨g,c⟩:=X;refine⟨_,_,?_,h⟩;rcases hv with⟨rfl,rfl⟩|⟨h0,el,ho,bS⟩
  .have e1:(AH.eN ⟨hh,m,some ⟨g,c⟩⟩ (.aA [] elem)).bc m=some (.aA [] elem):=by rw[ml,aL rfl]
   simp only[Iw,v5,e1,qel,gY,lC,hl.1,hl.2,lB,cond_true,Ge,QZ,ml,rU,nW];simp only[AH.eN,AH.cV,AH.OV,Tr.acL,XH.set,zK,Bool.not_true,Gm,cond_false,kD];rfl
  .obtain⟨len,rfl⟩:∃j,len=j+1:=⟨len-1,by omega⟩;have hi:Sn ⟨hh,m,some ⟨g,c⟩⟩ id=some (m,AH.eN (AH.n9 ⟨hh,m,some ⟨g,c⟩⟩ id none) (.aA vs el)):=by unfold Sn;rw[ho]
   have e1:(AH.eN (AH.n9 ⟨hh,m,some ⟨g,c⟩⟩ id none) (.aA vs el)).bc m=some (.aA vs el):=by rw[ml,Ds,aL rfl]
   simp only[Iw,hi,v5,e1,bS,lC,hl.1,hl.2,lB,cond_true,Ge,QZ,ml,rU,nW];simp only[AH.eN,AH.cV,AH.OV,AH.n9,Tr.acL,XH.set];have hb:(!Nat.beq (len+1) 0)=true:=rfl;simp only[hb,Bt];rfl
theorem aFn{sz x k}(h:adr H sz x k):∃n l,xr H sz x=some (n,l)/\k n l:=by
 unfold adr at h;split at h;next cs len s=>have⟨hs,h⟩:=iA h;exact⟨_,_,by simp only[xr,hs,cond_true],h⟩
 next id len s=>
  have⟨hs,h⟩:=iA h;split at h;next vs el ho=>have⟨hl,h⟩:=h;exact⟨_,_,by simp only[xr,hs,cond_true,ho,hl,lC],h⟩
  .cases h
 next id len s=>
  have⟨hs,vs,hv,h⟩:=iA h;refine⟨len,vs,?_,h⟩;rcases hv with⟨rfl,rfl⟩|⟨h0,el,ho,hl⟩
  .simp only[xr,hs,cond_true]
  .obtain⟨j,rfl⟩:∃j,len=j+1:=⟨len-1,by omega⟩;simp only[xr,hs,cond_true,ho,hl,lC]
 next id off len cap s ex=>
  split at h;next vs jC=>
   have⟨hs,h⟩:=iA h;have⟨hl,h⟩:=h;refine⟨_,_,?_,h⟩;have bS:((vs.drop off).take (len*sz)).length=len*sz:=by simp;omega
   simp only[xr,hs,cond_true,ajZ jC,oE,bS,lC,r9]
  .split at h;next n l he=>exact⟨n,l,he,h⟩
   .cases h
 .split at h;next n l he=>exact⟨n,l,he,h⟩
  .cases h
theorem aqd{elem sz n s l k}(hn:1<=n)(h:Au H elem sz s n l k):∃v H',mJ H elem sz s n l=some (v,H')/\k v H':=by
 obtain⟨m,rfl⟩:∃m,n=m+1:=⟨n-1,by omega⟩;unfold Au at h;split at h;next id len g_=>
  have⟨hs,h⟩:=iA h;split at h;next vs el ho=>have⟨⟨h1,h2,h3,h4⟩,h⟩:=h;exact⟨_,_,by simp only[mJ,hs,fU h2,lB,cond_true,v5,ho,h1,lC,h3,h4],h⟩
  .cases h
 next id off len cap g_ ex=>
  have⟨hs,hq⟩:=iA h;split at hq;next vs el ho=>
   obtain⟨⟨h1,h2,⟨h3,h4⟩,h5⟩,hq⟩:=hq;subst h5;refine⟨_,_,?_,hq⟩;have bS:((vs.drop off).take (len*sz)).length=len*sz:=by simp;omega
   simp only[mJ,hs,fU h2,lB,cond_true,Fh,ho,oE,bS,lC,h3,h4,sZ,cond_false]
  next vs el ho=>
   obtain⟨⟨h1,h2,⟨h3,h4⟩,h5⟩,hq⟩:=hq;subst h5;refine⟨_,_,?_,hq⟩;have bS:((vs.drop off).take (len*sz)).length=len*sz:=by simp;omega
   simp only[mJ,hs,fU h2,lB,cond_true,Fh,ho,oE,bS,lC,h3,h4,sZ,cond_false]
  .split at hq
   .exact⟨_,_,by assumption,hq⟩
   .cases hq
 next id len g_=>have⟨hs,⟨h1,h2⟩,vs,h3,h4⟩:=iA h;have⟨nm,H',h5,h6⟩:=aiD (n:=m+1) h2 h3 h4;exact⟨_,H',by simp only[mJ,hs,fU h1,lB,cond_true,h5],h6⟩
 .split at h
  .exact⟨_,_,by assumption,h⟩
  .cases h
def alm(v:AV)(H:AH):Prop:=match v with|.bw id _ _ _ _ _=>∀vs e,H.bc id≠some (.al vs e)|_=>True
theorem aiA{v}(h:alm v H):y' v H=H:=by
 unfold y';split
 .split;next ho=>exact absurd ho (h _ _)
  .rfl
 .rfl
theorem aiz{H l elem n sz}(h:l.all eR=true):y' (.bw H.bx 0 n 1 sz false) (AH.eN H (.al l elem))=AH.eN H (.aA l elem):=by
 have⟨t,m,x⟩:=H;have:(AH.eN ⟨t,m,x⟩ (.al l elem)).bc m=some (.al l elem):=by show(t.gz m _).bZ m=_;rw[Tr.kM];exact aL rfl
 simp only[y',this,h,cond_true];simp only[AH.eN,AH.cV,Tr.acL]
theorem aln{H o n sz}(h:∀vs e,o≠.al vs e):alm (.bw H.bx 0 n 1 sz false) (AH.eN H o):=by
 have⟨t,m,x⟩:=H;intro vs e ho;have:(AH.eN ⟨t,m,x⟩ o).bc m=some o:=by show(t.gz m _).bZ m=_;rw[Tr.kM];exact aL rfl
 rw[show(AH.mk t m x).bx=m from rfl,this]at ho;exact h vs e (de ho)
theorem aqc{elem sz n s l k}(hn:1<=n)(h:Xz H elem sz s n l k):∃v H',mJ H elem sz s n l=some (v,H')/\k v (y' v H'):=by
 obtain⟨m,rfl⟩:∃m,n=m+1:=⟨n-1,by omega⟩;unfold Xz at h;split at h
 .have⟨⟨h1,h2,h3⟩,h⟩:=h;exact⟨.bw H.bx 0 (m+1) 1 sz false,AH.eN H (.al l elem),by simp only[mJ,fU h1,h2,lB,cond_true],by rw[aiz h3];exact h⟩
 next id off len cap g_ ex=>
  split at h;next vs el ho=>
   have⟨hs,hq⟩:=iA h;obtain⟨⟨h1,h2,⟨h3,h3p⟩,⟨h4,h4p⟩,rfl,h5⟩,hk⟩:=hq;have bS:((vs.drop off).take (len*sz)).length=len*sz:=by simp;omega
   have sub:∀p:AV->Bool,vs.all p=true->((vs.drop off).take (len*sz)).all p=true:=by intro p h4;rw[mq]at h4⊢;exact λx hx=>h4 x (JT (Gh hx))
   have CH:Nat.ble (cap+1) (len+(m+1))=true:=fU (by omega);refine⟨.bw H.bx 0 (len+(m+1)) 1 sz false,AH.eN H (.al ((vs.drop off).take (len*sz)++l) elem),?_,?_⟩
   .simp only[mJ,hs,fU h2,lB,cond_true,Fh,ho,oE,bS,lC,sY,sub _ h4,h3,CH]
   .rw[aiz (by rw[sY,sub _ h4p,h3p];rfl)];exact hk
  next vs el ho=>
   have⟨hs,hq⟩:=iA h;rw[ho]at hq;have⟨⟨h1,h2,⟨h3,h4⟩,h5⟩,hk⟩:=hq;subst h5;have bS:((vs.drop off).take (len*sz)).length=len*sz:=by simp;omega
   refine⟨.bw H.bx 0 (len+(m+1)) 1 sz false,AH.eN (H.cV id (.bm [])) (.dU ((vs.drop off).take (len*sz)++l) elem),by simp only[mJ,hs,fU h2,lB,cond_true,Fh,ho,oE,bS,lC,h3,h4,sZ,cond_false],?_⟩;have e:=aiA (aln (H:=H.cV id (.bm [])) (o:=.dU ((vs.drop off).take (len*sz)++l) elem) (n:=len+(m+1)) (sz:=sz) (λ_ _ e=>by cases e));rw[nW]at e;rw[e];exact hk
  next vs el ho=>
   have⟨hs,hq⟩:=iA h;rw[ho]at hq;have⟨⟨h1,h2,⟨h3,h4⟩,h5⟩,hk⟩:=hq;subst h5;have bS:((vs.drop off).take (len*sz)).length=len*sz:=by simp;omega
   refine⟨.bw H.bx 0 (len+(m+1)) 1 sz false,AH.eN (H.cV id (.bm [])) (.aA ((vs.drop off).take (len*sz)++l) elem),by simp only[mJ,hs,fU h2,lB,cond_true,Fh,ho,oE,bS,lC,h3,h4,sZ,cond_false],?_⟩;have e:=aiA (aln (H:=H.cV id (.bm [])) (o:=.aA ((vs.drop off).take (len*sz)++l) elem) (n:=len+(m+1)) (sz:=sz) (λ_ _ e=>by cases e));rw[nW]at e;rw[e];exact hk
  .cases h
 next id len g_=>
  have⟨hs,hq⟩:=iA h;split at hq;next vs el ho=>have⟨⟨h1,h2,h3,h4⟩,hq⟩:=hq;exact⟨.aj H.bx (len+(m+1)) sz,AH.eN (H.cV id (.bm [])) (.aA (vs++l) elem),by simp only[mJ,hs,fU h2,lB,cond_true,v5,ho,h1,lC,h3,h4],hq⟩
  .cases hq
 next id len g_=>have⟨hs,⟨h1,h2⟩,vs,h3,h4⟩:=iA h;have⟨nm,H',h5,h6⟩:=aiD (n:=m+1) h2 h3 h4;exact⟨.fE nm (len+(m+1)) sz,H',by simp only[mJ,hs,fU h1,lB,cond_true,h5],h6⟩
 .cases h
theorem afD{elem sz s l A}(h:Lp sz s A):mJ H elem sz s 0 l=some (s,H)/\A:=by
 unfold Lp at h;split at h
 .exact⟨rfl,h⟩
 .have⟨hs,hl,h⟩:=iA h;exact⟨by simp only[mJ,hs,Gi,fU hl,lB,cond_true],h⟩
 .have⟨hs,hl,h⟩:=iA h;exact⟨by simp only[mJ,hs,Gi,fU hl,lB,cond_true],h⟩
 .have⟨hs,hl,h⟩:=iA h;exact⟨by simp only[mJ,hs,Gi,fU hl,lB,cond_true],h⟩
 .exact⟨rfl,h⟩
 .cases h
theorem afF{elem sz n s Nc dU l k}(hlr:Nc=true->dU=false)(h:PZ H elem sz s Nc dU n l k):∃v H',mJ H elem sz s n l=some (v,H')/\k v (bif dU&& !Nat.beq n 0 then y' v H' else H'):=by
 unfold PZ at h;have key:dU=false->(n=0->Lp sz s (k s H))->(1<=n->Au H elem sz s n l k)->∃v H',mJ H elem sz s n l=some (v,H')/\k v (bif dU&& !Nat.beq n 0 then y' v H' else H'):=by
  intro hr h0 h1;rw[hr];rcases JV n with hn|hn
  .subst hn;have⟨a,b⟩:=afD (H:=H) (elem:=elem) (l:=l) (h0 rfl);exact⟨_,_,a,b⟩
  .exact aqd hn (h1 hn)
 cases Nc
 .have⟨h0,h1⟩:=h;cases dU
  .exact key rfl h0 h1
  .rcases JV n with hn|hn
   .subst hn;have⟨a,b⟩:=afD (H:=H) (elem:=elem) (l:=l) (h0 rfl);exact⟨_,_,a,b⟩
   .have⟨v,H',a,b⟩:=aqc hn (h1 hn);have:Nat.beq n 0=false:=by rw[rj,Ne,Nat.beq_eq];omega
    exact⟨v,H',a,by rw[this];exact b⟩
 .have hr:=hlr rfl;simp at h;split at h
  .exact key hr (λ_=>h) (λh=>by omega)
  .exact key hr (λh=>by omega) (λ_=>h)
theorem awL(x)(h:aa7 x=true):M3 x=false:=by unfold aa7 at h;split at h<;>first|rfl|cases h
theorem avw{ts s x k}(h:aaw P H ts s x k):∃v H',Hx P H ts s x=some (v,H')/\k v H':=by
 unfold aaw at h;unfold Hx;split at h;next elem hu=>
  rw[hu];simp only;split at h;next sz gB hs jl=>
   rw[hs,jl];simp only;cases jN:Nat.ble gB 4194304&&(kb P elem).any (λz=>Nat.beq z.dQ.length sz)&&aaJ (ts[1]?.bind P.underlying)with
   |false=>
    rw[jN]at h;simp at h;unfold an7 at h;split at h;next kd n z ht hz=>
     have⟨hb,h⟩:=iA h;simp only[dc]at hb;obtain⟨i,rfl,hi,h⟩:=h;have⟨v,H',h6,h7⟩:=afF (by intro h;cases h) h;have jB:GH P H ts elem sz (.bV .i64 (i:Int))=some (i,kR z.dQ i):=by unfold GH;rw[ht];simp only[hz,hb.2,Nat.ble_eq_true_of_le hi,lB,cond_true]
     exact⟨v,_,by simp only[hz,zM,hb.1,hb.2,lB,cond_true,jB,h6,M3],h7⟩
    .cases h
   |true=>
   rw[jN]at h;simp at h;have hc:=jN;simp only[dc]at hc;have⟨⟨h1,h2⟩,h3⟩:=hc;rw[h1,h2];have⟨n,l,h4,h5⟩:=aFn h;have jB:GH P H ts elem sz x=some (n,l):=by
    unfold GH;unfold aaJ at h3;split at h3;next e hu1=>rw[hu1];exact h4
    .cases h3
   have⟨v,H',h6,h7⟩:=afF (awL x) h5;exact⟨v,_,by simp only[lB,cond_true,jB,h6],h7⟩
  .cases h
 .cases h
theorem avx{b args ts k}(h:aax P H b args ts k):∃v H',IB P H b args ts=some (.gU v H')/\k v H':=by
 unfold aax at h;split at h
 .have⟨v,H',h1,h2⟩:=avw h;exact⟨v,H',by simp only[IB,h1,Tm],h2⟩
 .have⟨v,H',h1,h2⟩:=avy h;exact⟨v,H',h1,h2⟩
 .exact ajD h
theorem Lu{α:Type 1}{b o}{a:α}(h:(bif b then o else none)=some a):b=true/\o=some a:=by
 cases b
 .cases h
 .exact⟨rfl,h⟩
theorem aa6{f args ps n xb sp x}(h:aa5 S f args H=some (ps,n,xb,sp))(hx:tz sp=some x):Nb (pc S) f args H=u_ ps n H xb x:=by
 unfold aa5 at h;unfold Nb;split at h
 .cases h
 next sU t' n' x' hv=>
  have⟨hm,h⟩:=Lu h;simp only[hm,cond_true];split at h;next args' ha=>
   split at h;next By hs=>
    cases h;have:pc S f args' ⟨t',n,none⟩=some x:=by unfold pc;rw[hs];exact hx
    rw[this]
   next hs=>
    have h0:pc S f args' ⟨t',n',none⟩=none:=by unfold pc;rw[hs]
    rw[h0];split at h
    .cases h
    .split at h;next By A9=>
      cases h;have:∀X,S f args' ⟨t',n,some X⟩=some sp->pc S f args' ⟨t',n,some X⟩=some x:=by intro X hX;unfold pc;rw[hX];exact hx
      rw[this _ A9]
     .cases h
  .cases h
theorem SD{ps n xb p p' q x v H'}(h:u_ ps n H xb (p,x)=some ⟨q,v,H'⟩):q=p/\u_ ps n H xb (p',x)=some ⟨p',v,H'⟩:=by
 have⟨v0,⟨hs,ns,xs⟩⟩:=x;have⟨h0,next,x0⟩:=H;simp only[u_]at h⊢;have⟨hb,h⟩:=dj h;rw[hb];split at h;next v1 t1 FT Sh=>
  split at h;next t2 I9=>cases h;exact⟨rfl,rfl⟩
  .cases h
 .cases h
theorem aaS{S f args p v H'}(h:Nb S f args H=some ⟨p,v,H'⟩)(hp:p):Dj S f args H=some (v,H'):=by unfold Dj;rw[h];exact aL hp
def alS(k kp:AV->AH->Prop)(v:AV)(H':AH):Prop:=(jx v=.gG v/\k v H')\/∃x,v=.dN x/\kp x H'
theorem aaB{r k kp}(h:FU r k kp):∃p v H',r=some ⟨p,v,H'⟩/\p/\alS k kp v H':=by
 unfold FU at h;split at h
 .exact⟨_,_,_,rfl,h.1,.inr ⟨_,rfl,h.2⟩⟩
 next p v H' hn=>
  refine⟨_,_,_,rfl,h.1,.inl ⟨?_,h.2⟩⟩;cases v<;>first
   |rfl
   |exact(hn _ rfl).elim
 .cases h
theorem ajy{f args k kp}(h:Ja H S f args k kp):∃v H',Dj (pc S) f args H=some (v,H')/\alS k kp v H':=by
 unfold Ja at h;split at h;next ps n x hl=>have⟨p,v,H',ho,h⟩:=aaB h;exact⟨v,H',aaS ((aa6 hl rfl).trans ho) h.1,h.2⟩
 next ps n W g u hl=>
  have⟨w,h⟩:=h;have⟨p,v,H',ho,h⟩:=aaB h
  .have he:∃p0 x0,g w=(p0,x0):=⟨_,_,rfl⟩;have⟨p0,x0,he⟩:=he;rw[he]at ho;have hp:=(SD (p':=p0) ho).1;subst hp;have hw:∃w,(g w).1:=⟨w,by rw[he];exact h.1⟩;have hd:tz (.ex W g u)=some (g hw.choose):=dif_pos hw;have h2:=hw.choose_spec;have h3:=u _ w h2 (by rw[he];exact h.1);have xG:g hw.choose=((g hw.choose).1,x0):=Prod.ext rfl (by rw[h3,he]);have h4:=(SD (p':=(g hw.choose).1) ho).2;rw[<-xG]at h4;exact⟨v,H',aaS ((aa6 hl hd).trans h4) h2,h.2⟩
 next ps n xb W g u hl=>
  have h:∃b:Bool,∃w:W b,FU (u_ ps n H xb (g b w)) k kp:=by
   have⟨b,h⟩:=h;cases b
   .have⟨w,h⟩:=h;exact⟨false,w,h⟩
   .have⟨w,h⟩:=h;exact⟨true,w,h⟩
  have⟨b,w,h⟩:=h;have⟨p,v,H',ho,h⟩:=aaB h
  .have he:∃p0 x0,g b w=(p0,x0):=⟨_,_,rfl⟩;have⟨p0,x0,he⟩:=he;rw[he]at ho;have hp:=(SD (p':=p0) ho).1;subst hp;have hw:∃p:(b:Bool)×W b,(g p.1 p.2).1:=⟨⟨b,w⟩,by show(g b w).1;rw[he];exact h.1⟩;have hd:tz (.Q0 W g u)=some (g hw.choose.1 hw.choose.2):=dif_pos hw;have h2:=hw.choose_spec;have h3:=u _ _ b w h2 (by rw[he];exact h.1);have xG:g hw.choose.1 hw.choose.2=((g hw.choose.1 hw.choose.2).1,x0):=Prod.ext rfl (by rw[h3,he]);have h4:=(SD (p':=(g hw.choose.1 hw.choose.2).1) ho).2;rw[<-xG]at h4;exact⟨v,H',aaS ((aa6 hl hd).trans h4) h2,h.2⟩
 .cases h
theorem ajz{f args k kp}(hf:Df f=false)(h:Ja H S f args k kp):(∃v H',kK P (kZ S) H none (.qA f args)=some ⟨.gG v,none,H'⟩/\k v H')\/∃x H',kK P (kZ S) H none (.qA f args)=some ⟨.dN [(x,false)],none,H'⟩/\kp x H':=by
 obtain⟨v,H',h1,⟨he,h2⟩|⟨x,rfl,h2⟩⟩:=ajy h
 .exact .inl ⟨v,H',by simp only[kK,LX,kZ,hf,cond_false,h1,he],h2⟩
 .exact .inr ⟨x,H',by simp only[kK,LX,kZ,hf,cond_false,h1,jx],h2⟩
theorem TU{st pe fn nt l d p tmps assign body a fr}(h:Bu (.hQ st pe fn tmps nt [p] assign body d) l [a]=some fr):
 fr=⟨fn,tmps.gz p a,nt,[.gM assign,.Ai,.gM body],[],.gF,none,some l⟩/\p+1<=nt:=by
 simp only[Bu,ei,gY]at h;have⟨_,h⟩:=dj h;simp only[List.zip_cons_cons,List.zip_nil_right,sV,NZ,ri,oY]at h;cases hb:Nat.ble (p+1) nt with
 |false=>simp[hb]at h
 |true=>simp only[hb,cond_true]at h;cases h;exact⟨rfl,pE hb⟩
theorem avC{l args k}(h:aaC H S l args k):∃v H',kK P (kZ S) H none (.vD l args)=some ⟨.gG v,none,H'⟩/\k v H':=by
 unfold aaC at h;split at h;next st pe fn tmps nt params assign body d a ho=>
  split at h;next p=>
   split at h;next fr iR=>
    obtain⟨v,H',h1,⟨ph,h2⟩|⟨x,_,h2⟩⟩:=ajy h
    rotate_left
    .exact h2.elim
    have hg:fr.Ah.bZ p=some a/\fr.qx=some l:=by obtain⟨rfl,_⟩:=TU iR;exact⟨by simp[Tr.kM],rfl⟩
    refine⟨v,H',?_,h2⟩;simp only[kK,ho,iR,ri,kZ,Rn,hg.2,hg.1,h1,dite_true,ph]
   .cases h
  .cases h
 .cases h
theorem ajB{o k kp}(h:Sj H S o k kp):(∃aK v H',o=some aK/\kK P (kZ S) H none aK=some ⟨.gG v,none,H'⟩/\k v H')\/∃aK x H',o=some aK/\kK P (kZ S) H none aK=some ⟨.dN [(x,false)],none,H'⟩/\kp x H':=by
 unfold Sj at h;split at h;next f args=>
  cases hf:Df f with
  |true=>rw[hf]at h;cases h
  |false=>
   rw[hf]at h;rcases ajz hf h with⟨v,H',h1,h2⟩|⟨v,H',h1,h2⟩
   .exact .inl ⟨_,v,H',rfl,h1,h2⟩
   .exact .inr ⟨_,v,H',rfl,h1,h2⟩
 .have⟨v,H',h1,h2⟩:=avC (P:=P) h;exact .inl ⟨_,v,H',rfl,h1,h2⟩
 .cases h
theorem avE{op k kp}(h:hv P ρ H S op k kp):(∃v H',He P S ρ H op v H'/\k v H')\/∃x H',V4 P S ρ H op x H'/\kp x H':=by
 unfold hv at h;split at h
 .exact .inl (avD h)
 .have⟨v,H',h1,h2⟩:=ajC h;exact .inl ⟨v,H',.vA h1,h2⟩
 .have⟨v,H',h1,h2⟩:=ajC h;exact .inl ⟨v,H',.vA h1,h2⟩
 .have⟨v,H',h1,h2⟩:=avB h;exact .inl ⟨v,H',.vA h1,h2⟩
 .have⟨v,H',h1,h2⟩:=avA h;exact .inl ⟨v,H',.vA h1,h2⟩
 next c=>
  unfold ajx at h;have⟨callee,args,ts⟩:=c;cases callee with
  |value f=>
   rcases ajB h with⟨aK,v,H',h1,h2,h3⟩|⟨aK,v,H',h1,h2,h3⟩
   .exact .inl ⟨v,H',⟨aK,none,h1,h2⟩,h3⟩
   .exact .inr ⟨v,H',⟨aK,none,h1,h2⟩,h3⟩
  |invoke r name=>
   rcases ajB h with⟨aK,v,H',h1,h2,h3⟩|⟨aK,v,H',h1,h2,h3⟩
   .exact .inl ⟨v,H',⟨aK,none,h1,h2⟩,h3⟩
   .exact .inr ⟨v,H',⟨aK,none,h1,h2⟩,h3⟩
  |builtin b=>
   simp only at h;split at h;next l hl=>have⟨v,H',h1,h2⟩:=avx h;exact .inl ⟨v,H',.vA (by simp only[nM,ZE,hl,h1]),h2⟩
   .cases h
 .unfold C0 at h;split at h;next v H' ho=>exact .inl ⟨v,H',.vA ho,h⟩
  .cases h
 .unfold C0 at h;split at h;next v H' ho=>exact .inl ⟨v,H',.vA ho,h⟩
  .cases h
 .have⟨n,v,h1,h2⟩:=h;exact .inl ⟨_,_,.vA h1,h2⟩
 .cases h
end
end
section
section
variable{P:Program}{S:bp}{ρ:Operand->Option AV}{H:AH}
theorem aiJ{ops o tmps yB no}(h:Rq ops o tmps yB no):(nj ops o tmps.bZ=some true/\yB tmps)\/(nj ops o tmps.bZ=some false/\no tmps):=by
 unfold Rq at h;unfold nj;split at h;next hg=>rw[hg];exact .inl ⟨rfl,h⟩
 next j pL hg=>
  rw[hg];simp only;split at h
  .cases h
  next d hd=>
   rw[hd];simp only;split at h;next b hb=>
    rw[hb];cases b
    .have h:=aqT h rfl;rw[Tr.acK hb]at h;cases pL
     .simp at h;exact .inl ⟨rfl,h⟩
     .simp at h;exact .inr ⟨rfl,h⟩
    .have h:=aqV h rfl;rw[Tr.acK hb]at h;cases pL
     .simp at h;exact .inr ⟨rfl,h⟩
     .simp at h;exact .inl ⟨rfl,h⟩
   next hb=>rw[hb];exact .inr ⟨rfl,h⟩
   .cases h
theorem B'{nt tmps o v k}(h:EW nt tmps o v k):∃t,oY nt tmps o.dst v=some t/\k t:=by
 unfold EW at h;split at h
 .exact⟨_,by assumption,h⟩
 .cases h
theorem abN{op k kp}(h:NH P S ρ H op k kp):
 (pq op=true/\∃v,f_ P ρ H op=some v/\k v H)\/(pq op=false/\sO op=true/\∃ob g,rb P ρ op=some (ob,g)/\k (g H.bx) (H.eN ob))\/
   (pq op=false/\sO op=false/\∃v H',He P S ρ H op v H'/\k v H')\/(pq op=false/\sO op=false/\∃x H',V4 P S ρ H op x H'/\kp x H'):=by
 unfold NH at h;cases h1:pq op
 .rw[h1]at h;simp at h;cases h2:sO op
  .rw[h2]at h;rcases avE h with h|h
   .exact .inr (.inr (.inl ⟨rfl,rfl,h⟩))
   .exact .inr (.inr (.inr ⟨rfl,rfl,h⟩))
  .rw[h2]at h;exact .inr (.inl ⟨rfl,rfl,aw5 h⟩)
 .rw[h1]at h;exact .inl ⟨rfl,ayu h⟩
theorem aBY(v):TW v v=true:=by unfold TW;have: @decide (v=v) (Classical.propDecidable _)=true:= @decide_eq_true _ (Classical.propDecidable _) rfl;rw[this];cases nE v v<;>rfl
theorem acY{ops ms base cur}:∀{l k},On P ops ms base cur H l k->Gz P ops ms base cur H l=true/\k
 |[],k,h=>⟨rfl,h⟩
 |j::l,k,h=>by
  simp only[On]at h;simp only[Gz];split at h
  .cases h
  next o ho=>
   rw[ho];simp only;split at h
   .cases h
   next hw=>rw[hw];have⟨h1,h2⟩:=acY h;exact⟨by simp[h1],h2⟩
   next hw=>
    rw[hw];split at h
    .cases h
    next d hd=>
     split at h
     .cases h
     next v hv=>have⟨hr,h⟩:=h;have⟨h1,h2⟩:=acY h;refine⟨?_,h2⟩;rw[hr,hd];simp only[hv,zM,aBY,h1,lB]
theorem ai4{op v H'}(h:He P S ρ H op v H'):∃aK up,nM P ρ H op=some aK/\kK P (kZ S) H none aK=some ⟨.gG v,up,H'⟩/\(∀d,aK≠.xd d)/\(∀v,aK≠.vC v)/\aK≠.xe:=by
 have⟨aK,up,h1,h2⟩:=h;refine⟨aK,up,h1,h2,?_,?_,?_⟩
 .rintro d rfl;cases h2
 .rintro v rfl;cases h2
 .rintro rfl;cases h2
theorem ai5{op v H'}(h:V4 P S ρ H op v H'):∃aK up,nM P ρ H op=some aK/\kK P (kZ S) H none aK=some ⟨.dN [(v,false)],up,H'⟩/\(∀d,aK≠.xd d)/\(∀v,aK≠.vC v)/\aK≠.xe:=by
 have⟨aK,up,h1,h2⟩:=h;refine⟨aK,up,h1,h2,?_,?_,?_⟩
 .rintro d rfl;cases h2
 .rintro v rfl;cases h2
 .rintro rfl;cases h2
def ae5(k:Tr AV->AH->Prop)(kp:AV->AH->Prop)(r:PH):Prop:=(∃t H',r=.aI t H'/\k t H')\/∃x H',r=.dN [(x,false)] H'/\kp x H'
theorem abY{ops ms base nt kp}:∀{l done tmps H k},Gf P S ops ms base nt kp l done tmps H k->
 ae5 k kp (ue P (kZ S) ops ms base nt l done tmps H)
 |[],done,tmps,H,k,h=>.inl ⟨tmps,H,rfl,h⟩
 |i::rest,done,tmps,H,k,h=>by
  simp only[Gf]at h;simp only[ue];split at h
  .cases h
  next o ho=>
   rw[ho];rcases aiJ h with⟨hw,h⟩|⟨hw,h⟩
   .have go:∀{v:AV} {H':AH} {t:Tr AV},pA P (kZ S) ops ms base done i nt tmps H o=.go t H'->Gf P S ops ms base nt kp rest (i::done) t H' k->
     ae5 k kp (match pA P (kZ S) ops ms base done i nt tmps H o with|.go t H'=>ue P (kZ S) ops ms base nt rest (i::done) t H'|.dN c H'=>.dN c H'|.eV w=>.eV w):=by
     intro v H' t h1 h2;rw[h1];exact abY h2
    have zm:rN o.op=(pq o.op||sO o.op):=rfl;cases hl:rN o.op
    .rw[hl]at h;simp at h;rw[zm,Bool.or_eq_false_iff]at hl;rcases abN h with⟨h1,_⟩|⟨_,h1,_⟩|⟨h1,h2,v,H',h3,h4⟩|⟨h1,h2,x,H',h3,h4⟩
     .rw[hl.1]at h1;cases h1
     .rw[hl.2]at h1;cases h1
     .have⟨t,h5,h6⟩:=B' h4;have⟨h7,h8⟩:=acY h6;have⟨aK,up,h9,Cz,_⟩:=ai4 h3;refine go (v:=v) ?_ h8;simp only[pA,hw,cond_true,h1,h2,cond_false,h9,To,Cz,Tp,h5,h7]
     .have⟨aK,up,h9,Cz,_⟩:=ai5 h3;refine .inr ⟨x,H',?_,h4⟩;simp only[pA,hw,cond_true,h1,h2,cond_false,h9,To,Cz,Tp]
    .rw[hl]at h;simp at h;rcases abN h with⟨h1,v,h2,h3⟩|⟨h1,h2,ob,g,h3,h4⟩|⟨h1,h2,_⟩|⟨h1,h2,_⟩
     .have⟨t,h5,h6⟩:=B' h3;refine go (v:=v) ?_ h6;simp only[pA,hw,cond_true,h1,h2,NL,sS,h5]
     .have⟨t,h5,h6⟩:=B' h4;refine go (v:=g H.bx) ?_ h6;cases H with
      |mk hh n=>simp only[pA,hw,cond_true,h1,h2,cond_false,h3,Dz,sS];have CB:=h5;rw[CB]
     .rw[zm,h1,h2]at hl;cases hl
     .rw[zm,h1,h2]at hl;cases hl
   .have⟨t,h5,h6⟩:=B' h;simp only[pA,hw,cond_false,sS,h5];exact abY h6
end
def fS(ds:List pR)(rd:Option Nat)(fn nt:Nat)(tmps:Tr AV)(todo:List dZ):gg:=⟨fn,tmps,nt,todo,ds,.gF,none,rd⟩
abbrev pf:Nat->Nat->Tr AV->List dZ->gg:=fS [] none
def SK(m0:Nat):LV->Prop
 |[]=>True
 |.aa id _::l=>id<m0/\SK m0 l
 |_=>False
def pd(m0:Nat):List pR->Prop
 |[]=>True
 |.oH d::l=>d<m0/\pd m0 l
 |.vu _ cap args::l=>SK m0 cap/\SK m0 args/\pd m0 l
def TK(m0:Nat):Option Nat->Prop
 |none=>True
 |some l=>l<m0
theorem B_(m0):pd m0 []:=trivial
theorem ayq(m0):TK m0 none:=trivial
theorem abc{φ ψ m0}(h:jj m0 φ ψ):∀{a l},SK m0 a->br φ a l->br ψ a l
 |[],_,_,hv=>hv
 |.aa id off::a,l,hl,hv=>by obtain⟨x,l',rfl,h1,h2⟩:=hv;refine⟨x,l',rfl,?_,abc h hl.2 h2⟩;have⟨e,h3,h4⟩:=h1;exact⟨e,(h id hl.1).trans h3,h4⟩
theorem BL{φ ψ m0}(h:jj m0 φ ψ):∀{ds l},pd m0 ds->pU φ ds l->pU ψ ds l
 |[],_,_,hd=>hd
 |.oH d::ds,_,hl,hd=>by obtain⟨x,l',rfl,h1,h2⟩:=hd;refine⟨x,l',rfl,?_,BL h hl.2 h2⟩;have⟨e,h3,h4⟩:=h1;exact⟨e,(h d hl.1).trans h3,h4⟩
 |.vu fn cap args::ds,_,hl,hd=>by obtain⟨x,l',rfl,h1,h2⟩:=hd;refine⟨x,l',rfl,?_,BL h hl.2.2 h2⟩;have⟨c,a,h3,hy,h4,h5⟩:=h1;exact⟨c,a,h3,hy,abc h hl.1 h4,abc h hl.2.1 h5⟩
theorem apL{φ ψ m0}(h:jj m0 φ ψ):∀{rd r},TK m0 rd->RR φ rd r->RR ψ rd r
 |none,_,_,hr=>hr
 |some l,_,hl,hr=>by have⟨e,h1,h2⟩:=hr;exact⟨e,(h l hl).trans h1,h2⟩
section
variable{P:Program}{S:bp}
def V3(rd:Option Nat)(P:Program)(H:AH)(m0:Nat)(bs:fN)(φ:cn)(w:World)(cv:Frame)(cs:List Frame)(r:l6):Prop:=
 ∃aQ w',WR aQ bs r.H w'/\jj m0 φ aQ/\(cZ bs w w'/\nB φ H aQ r.H)/\pV P aQ w w' cv cs r none rd
abbrev aev:=V3 none
def cj(P:Program)(m0:Nat)(fr:gg)(H:AH)(Q:l6->Prop):Prop:=
 ∃r,Q r/\∀(φ:cn) (w:World) (bs:fN) (cv:Frame) (cs:List Frame),m0<=H.bx->WR φ bs H w->iv bs w->uC φ fr cv->V3 fr.qx P H m0 bs φ w cv cs r
theorem cI.low{m φ ψ H H'}(h:cI m φ H ψ H'){id}(hi:id<m):ψ id=φ id:=by
 cases hp:φ id with
 |none=>exact(h.2.2.1 id hi hp).1
 |some e=>exact h.1 id e hp
theorem cI.ag{m φ ψ H H'}(h:cI m φ H ψ H'):jj m φ ψ:=⟨λ_ hi=>h.low hi,h.1.ro,h.1.xs⟩
theorem pV.after{φ w w1 w' cv EM cs r rd}(hs:Steps P (lone cv cs w) (lone EM cs w1))(jz:EM.fn=cv.fn)(h:pV P φ w1 w' EM cs r none rd):pV P φ w w' cv cs r none rd:=by
 cases rd with
 |none=>have⟨c,e,g1,g2,g3,g4⟩:=h;exact⟨c,e,g1,hs.trans g2,g3,g4.trans jz⟩
 |some l=>
  intro c cs' hc;have:=h c cs' hc;have⟨e,up,H⟩:=r;cases e with
  |gG v=>have⟨v',g1,g2⟩:=this;exact⟨v',g1,hs.trans g2⟩
  |dN ch=>have⟨v',g1,g2⟩:=this;exact⟨v',g1,hs.trans g2⟩
theorem cj.ja{m0 fr fr' H H' Q}(cU:P.follows .mixedOrders=true){call}(hc:mG P call)(hu:fr.up=none)(h:j_ P call fr H=.go fr' H')(ht:cj P m0 fr' H' Q):cj P m0 fr H Q:=by have⟨r,hq,hr⟩:=ht;refine⟨r,hq,λφ w bs cv cs hm hw hb hf=>?_⟩;have hs:=ac1 cU hc fr H φ w m0 bs cv cs hw hb hm hf (by rw[hu];trivial);rw[h]at hs;have⟨aQ,w',j7,pb,g1,g2,g3,g4,g5,g6,g7,g8,g9,L3⟩:=hs;rw[hu]at g4;have gQ:=g4;subst gQ;have⟨jW,w1,k1,k2,k3,k4⟩:=hr aQ w' bs j7 pb (kQ hm g8.2.1) g7 (hb.Eo g9.1) g2;rw[g5]at k4;exact⟨jW,w1,k1,g8.ag.rr k2,⟨g9.tf k3.1,g8.2.2.2.qB k3.2⟩,pV.after g1 L3 k4⟩
theorem cj.Kp{m0 fr H r Q}(cU:P.follows .mixedOrders=true){call}(hc:mG P call)(hu:fr.up=none)(h:j_ P call fr H=.Am r)(hq:Q r):cj P m0 fr H Q:=by refine⟨r,hq,λφ w bs cv cs hm hw hb hf=>?_⟩;have hs:=ac1 cU hc fr H φ w m0 bs cv cs hw hb hm hf (by rw[hu];trivial);rw[h]at hs;have⟨aQ,w',g1,g2,g3,g4⟩:=hs;rw[hu]at g4;exact⟨aQ,w',g1,g2.ag,⟨g3,g2.2.2.2⟩,g4⟩
theorem cj.TT{m0 fr H Q Q'}(h:cj P m0 fr H Q)(hw:∀r,Q r->∃r',Q' r'/\∀(φ aQ:cn) (w w' bs cv cs),WR aQ bs r.H w'->pV P aQ w w' cv cs r none fr.qx->∃ψ,WR ψ bs r'.H w'/\(jj m0 aQ ψ/\nB aQ r.H ψ r'.H)/\pV P ψ w w' cv cs r' none fr.qx):cj P m0 fr H Q':=by have⟨r,hq,hr⟩:=h;have⟨r',CX,h2⟩:=hw r hq;refine⟨r',CX,λφ w bs cv cs hm wk hb hf=>?_⟩;have⟨aQ,w',g1,g2,g3,g4⟩:=hr φ w bs cv cs hm wk hb hf;have⟨ψ,k1,k2,k3⟩:=h2 φ aQ w w' bs cv cs g1 g4;exact⟨ψ,w',k1,g2.rr k2.1,⟨g3.1,g3.2.qB k2.2⟩,k3⟩
theorem ab3{φ ψ}:∀{l xs},lx l=true->jZ φ l xs->jZ ψ l xs
 |[],_,_,h=>h
 |x::l,xs,hp,h=>by
  simp only[lx,dc]at hp;obtain⟨y,ys,rfl,h1,h2⟩:=h;refine⟨y,ys,rfl,?_,ab3 hp.2 h2⟩;cases x<;>first
   |exact h1
   |(simp[NP]at hp)
theorem cj.Kg{ds rd m0 fn nt tmps t todo H H2 Q mw l ps}(hp:lx todo=true)(hv:mB m0 mw H=some ⟨ps,H2⟩)(ht:rn (iK ps) tmps l=some t)(h:cj P m0 (fS ds rd fn nt t todo) H2 Q)(gC:pd m0 ds)(uZ:TK m0 rd):cj P m0 (fS ds rd fn nt tmps todo) H Q:=by
 have⟨r,hq,hr⟩:=h;obtain⟨tt,n,rfl,aZ,jA,jn⟩:=BI hv;refine⟨r,hq,λφ w bs cv cs hm hw hb hf=>?_⟩;have uX:jj m0 φ (jf ps φ):=by refine⟨λid hi=>?_,λ_ _ h=>h,λ_ _ h=>h⟩;simp[jf,jn id hi]
 have hn:m0<=n:=by
  rcases JV m0 with h0|h0
  .omega
  .have:=aZ.lt _ (JG (jn (m0-1) (by omega)));simp only at this;omega
 have⟨aQ,w',g1,g2,g3,g4⟩:=hr (jf ps φ) w bs cv cs hn (hw.tb aZ jA) hb (by
  obtain⟨b,a,Je,rfl,iR,hi⟩:=hf;refine⟨b,a,Je,rfl,⟨iR.fn,⟨iR.tr.1,?_⟩,BL uX gC iR.dr,apL uX uZ iR.jY,iR.kF,λh=>by cases h⟩,ab3 hp hi⟩
  .intro s a' Fy;have⟨a0,h1,h2⟩:=OQ ht Fy;have⟨v,h3,h4⟩:=iR.tr.2 s a0 h1;exact⟨v,h3,se (yc aZ φ) h2 h4⟩)
 exact⟨aQ,w',g1,uX.rr g2,⟨g3.1,(nB.of rfl rfl:nB φ H (jf ps φ) ⟨tt,n,H.x⟩).qB g3.2⟩,g4⟩
theorem cj.aF7{ds m0 fn nt tmps t todo pJ H H2 Q mw l ps}(hv:mB m0 mw H=some ⟨ps,H2⟩)(ht:rn (iK ps) tmps l=some t)(h:cj P m0 ⟨fn,t,nt,pJ,ds,.i_,none,none⟩ H2 Q)(gC:pd m0 ds):cj P m0 ⟨fn,tmps,nt,todo,ds,.i_,none,none⟩ H Q:=by
 have⟨r,hq,hr⟩:=h;obtain⟨tt,n,rfl,aZ,jA,jn⟩:=BI hv;refine⟨r,hq,λφ w bs cv cs hm hw hb hf=>?_⟩;have uX:jj m0 φ (jf ps φ):=⟨λid hi=>by simp[jf,jn id hi],λ_ _ h=>h,λ_ _ h=>h⟩;have hn:m0<=n:=by
  rcases JV m0 with h0|h0
  .omega
  .have:=aZ.lt _ (JG (jn (m0-1) (by omega)));simp only at this;omega
 have⟨aQ,w',g1,g2,g3,g4⟩:=hr (jf ps φ) w bs cv cs hn (hw.tb aZ jA) hb (by have⟨iR,wg⟩:=hf;refine⟨⟨iR.fn,⟨iR.tr.1,?_⟩,BL uX gC iR.dr,iR.jY,iR.kF,λh=>by cases h⟩,wg⟩;intro s a' Fy;have⟨a0,h1,h2⟩:=OQ ht Fy;have⟨v,h3,h4⟩:=iR.tr.2 s a0 h1;exact⟨v,h3,se (yc aZ φ) h2 h4⟩);exact⟨aQ,w',g1,uX.rr g2,⟨g3.1,(nB.of rfl rfl:nB φ H (jf ps φ) ⟨tt,n,H.x⟩).qB g3.2⟩,g4⟩
theorem cj.aF6{ds m0 fn nt tmps t todo pJ H H2 Q mw l ps x y}(hv:mB m0 mw H=some ⟨ps,H2⟩)(hx:eM (iK ps) x=some y)(ht:rn (iK ps) tmps l=some t)(h:cj P m0 ⟨fn,t,nt,pJ,ds,.lI [(y,false)],none,none⟩ H2 Q)(gC:pd m0 ds):cj P m0 ⟨fn,tmps,nt,todo,ds,.lI [(x,false)],none,none⟩ H Q:=by
 have⟨r,hq,hr⟩:=h;obtain⟨tt,n,rfl,aZ,jA,jn⟩:=BI hv;refine⟨r,hq,λφ w bs cv cs hm hw hb hf=>?_⟩;have uX:jj m0 φ (jf ps φ):=⟨λid hi=>by simp[jf,jn id hi],λ_ _ h=>h,λ_ _ h=>h⟩;have hn:m0<=n:=by
  rcases JV m0 with h0|h0
  .omega
  .have:=aZ.lt _ (JG (jn (m0-1) (by omega)));simp only at this;omega
 have⟨aQ,w',g1,g2,g3,g4⟩:=hr (jf ps φ) w bs cv cs hn (hw.tb aZ jA) hb (by
  have⟨iR,wg⟩:=hf;refine⟨⟨iR.fn,⟨iR.tr.1,λs a' Fy=>?_⟩,BL uX gC iR.dr,iR.jY,iR.kF,λh=>by cases h⟩,?_⟩
  .have⟨a0,h1,h2⟩:=OQ ht Fy;have⟨v,h3,h4⟩:=iR.tr.2 s a0 h1;exact⟨v,h3,se (yc aZ φ) h2 h4⟩
  have⟨c',k1,v',l',k2,k3,k4⟩:=wg;exact⟨c',k1,v',l',k2,se (yc aZ φ) hx k3,k4⟩)
 exact⟨aQ,w',g1,uX.rr g2,⟨g3.1,(nB.of rfl rfl:nB φ H (jf ps φ) ⟨tt,n,H.x⟩).qB g3.2⟩,g4⟩
theorem cj.tb{m0 fn nt tmps t todo H H2 Q mw l ps}(hp:lx todo=true)(hv:mB m0 mw H=some ⟨ps,H2⟩)(ht:rn (iK ps) tmps l=some t)(h:cj P m0 (pf fn nt t todo) H2 Q):cj P m0 (pf fn nt tmps todo) H Q:=
 cj.Kg hp hv ht h (B_ _) (ayq _)
theorem ER.ret{φ v e}(h:ER φ (.gG v) e):ER φ (jx v) e:=by
 cases v<;>first
  |exact h
  |(have⟨_,_,h⟩:=h;exact h.elim)
theorem pV.ret{φ w w' cv cs v H}(h:pV P φ w w' cv cs ⟨.gG v,none,H⟩ none none):pV P φ w w' cv cs ⟨jx v,none,H⟩ none none:=by have⟨c,e,h1,h2⟩:=h;exact⟨c,e,h1.ret,h2⟩
theorem pV.DP{r jW kV w w' cv cs v v' H H' rd}(hr:tj r jW kV)(hv:eM r v=some v')(h:pV P jW w w' cv cs ⟨jx v,none,H⟩ none rd):pV P kV w w' cv cs ⟨jx v',none,H'⟩ none rd:=by
 have key:(∃x x',v=.dN x/\v'=.dN x'/\eM r x=some x')\/(jx v=.gG v/\jx v'=.gG v'):=by
  cases v<;>simp only[eM]at hv;case dN x=>
   left;split at hv;next b hb=>cases hv;exact⟨x,b,rfl,rfl,hb⟩
   .cases hv
  all_goals right
  all_goals first
   |(cases hv;exact⟨rfl,rfl⟩)
   |(split at hv
     .first
      |(cases hv;exact⟨rfl,rfl⟩)
      |(split at hv
        .split at hv<;>(cases hv;exact⟨rfl,rfl⟩)
        .cases hv;exact⟨rfl,rfl⟩)
     .cases hv)
 rcases key with⟨x,x',rfl,rfl,hx⟩|⟨h1,h2⟩
 .cases rd with
  |none=>obtain⟨j7,e',⟨c',rfl,y,l',rfl,k1,k2⟩,k3⟩:=h;exact⟨j7,_,⟨_,rfl,y,l',rfl,se hr hx k1,k2⟩,k3⟩
  |some l=>intro c cs' jN;obtain⟨c',⟨y,l',rfl,k1,k2⟩,k3⟩:=h c cs' jN;exact⟨_,⟨y,l',rfl,se hr hx k1,k2⟩,k3⟩
 .rw[h1]at h;rw[h2];cases rd with
  |none=>obtain⟨j7,e',⟨v0,rfl,k1⟩,k2⟩:=h;exact⟨j7,_,⟨v0,rfl,se hr hv k1⟩,k2⟩
  |some l=>intro c cs' jN;have⟨v0,k1,k2⟩:=h c cs' jN;exact⟨v0,se hr hv k1,k2⟩
def qq(Q:AV->AH->Prop)(r:l6):Prop:=∃v,r.e=jx v/\r.up=none/\Q v r.H
def KZ(P:Program)(S:bp)(ds:List pR)(rd:Option Nat)(fn nt m0:Nat)(Q:l6->Prop)(ret:Bool->Tr AV->AH->Prop):Prop:=
 ∀(b:Bool) (tmps:Tr AV) (todo:List dZ) (H:AH),ret b tmps H->j_ P (kZ S) (fS ds rd fn nt tmps todo) H=u9 (fS ds rd fn nt tmps todo) H (bif b then some .ret else none)->cj P m0 (fS ds rd fn nt tmps todo) H Q
theorem aa4{ds fn nt tmps todo H}(b):u9 (fS ds none fn nt tmps todo) H (bif b then some .ret else none)=.go ⟨fn,tmps,nt,todo,ds,.i_,none,none⟩ H:=by cases b<;>rfl
theorem acu{fn nt m0:Nat}{Q H fr l}(uZ:fr.qx=none)(h:match mB m0 (wo (BF l)) H with
 |some ⟨ps,H2⟩=>match eM (iK ps) (BF l)with
  |some v=>Q v H2
  |none=>False
 |none=>False) {H0} (ht:cj P m0 fr H0 (λr=>r=⟨.gG (BF l),none,H⟩)):cj P m0 fr H0 (qq Q):=by
 split at h;next ps H2 hv=>
  split at h;next v hr=>refine cj.TT ht ?_;rintro r rfl;refine⟨⟨jx v,none,H2⟩,⟨v,rfl,rfl,h⟩,?_⟩;intro φ aQ w w' bs cv cs hw he;obtain⟨tt,n,rfl,aZ,jA,jn⟩:=BI hv;refine⟨jf ps aQ,hw.tb aZ jA,⟨⟨λid hi=>by simp[jf,jn id hi],λ_ _ h=>h,λ_ _ h=>h⟩,.of rfl rfl⟩,?_⟩;rw[uZ]at he⊢;exact he.ret.DP (yc aZ aQ) hr
  .cases h
 .cases h
theorem afY(cU:P.follows .mixedOrders=true)(hc:mG P (kZ S)){fn nt m0 Q}:KZ P S [] none fn nt m0 (qq Q) (λ_=>pX P fn m0 Q):=by
 intro b tmps todo H h hs;rw[aa4]at hs;unfold pX at h;split at h;next f hf=>
  split at h;next l hl=>refine acu (fn:=fn) (nt:=nt) rfl h ?_;refine cj.ja cU hc rfl hs (cj.Kp cU hc rfl ?_ rfl);simp only[j_,DV,JI,hf,hl]
  .cases h
 .cases h
theorem afT(cU:P.follows .mixedOrders=true)(hc:mG P (kZ S)){fn nt m0}(jz:(P.funcs[fn]?).isSome=true){Q x H tmps}(h:P5 m0 Q x tmps H)(todo):cj P m0 ⟨fn,tmps,nt,todo,[],.lI [(x,false)],none,none⟩ H (qq Q):=by
 unfold P5 at h;split at h;next ps H2 hv=>
  split at h;next v hr=>
   refine cj.TT (cj.Kp (r:=⟨jx (.dN x),none,H⟩) cU hc rfl ?_ rfl) ?_
   .simp only[j_,DV,JI,jz,cond_true,jx]
   .rintro r rfl;refine⟨⟨jx (.dN v),none,H2⟩,⟨_,rfl,rfl,h⟩,?_⟩;intro φ aQ w w' bs cv cs hw he;obtain⟨tt,n,rfl,aZ,jA,jn⟩:=BI hv;refine⟨jf ps aQ,hw.tb aZ jA,⟨⟨λid hi=>by simp[jf,jn id hi],λ_ _ h=>h,λ_ _ h=>h⟩,.of rfl rfl⟩,?_⟩;exact he.DP (yc aZ aQ) (by simp only[eM,hr])
  .cases h
 .cases h
def WT(P:Program)(ds:List pR)(rd:Option Nat)(fn nt m0:Nat)(Q:l6->Prop)(dN:AV->Tr AV->AH->Prop):Prop:=
 ∀(x:AV) (H:AH) (tmps:Tr AV) (todo:List dZ),dN x tmps H->cj P m0 ⟨fn,tmps,nt,todo,ds,.lI [(x,false)],none,rd⟩ H Q
theorem abW{ds rd fn nt m0 Q}:WT P ds rd fn nt m0 Q (λ_ _ _=>False):=λ_ _ _ _ h=>h.elim
theorem awN{t id off d H x}(hd:id≠d):t_ P (H.cV d x) t id off=t_ P H t id off:=by
 have:(H.cV d x).bc id=H.bc id:=by show(H.h.gz d x).bZ id=H.h.bZ id;rw[Tr.kM,az hd]
 have:(H.cV d x).qy id=H.qy id:=by unfold AH.qy;rw[this]
 unfold t_;rw[this]
theorem awM{t off d}{H:AH}:t_ P (H.cV d (.bm [])) t d off=none:=by
 have:(H.cV d (.bm [])).bc d=some (.bm []):=by show(H.h.gz d _).bZ d=_;rw[Tr.kM,aL rfl]
 have:(H.cV d (.bm [])).qy d=none:=by unfold AH.qy;rw[this]
 unfold t_;rw[this]
theorem acr{d}{H:AH}{tmps x}:∀{rs l},s7 P (H.cV d (.bm [])) tmps rs=some l->s7 P (H.cV d x) tmps rs=some l
 |[],l,h=>h
 |.tmp t::rs,l,h=>by
  simp only[s7]at h⊢;cases ht:tmps.bZ t with
  |none=>rw[ht]at h;cases h
  |some v=>rw[ht]at h;obtain⟨l',h1,rfl⟩:=DJ.1 h;rw[acr h1];rfl
 |.cell a t::rs,l,h=>by
  simp only[s7]at h⊢;cases ht:tmps.bZ a with
  |none=>rw[ht]at h;cases h
  |some v=>
   rw[ht]at h;cases v<;>simp only at h⊢<;>try (cases h;done)
   rename_i id off;by_cases hd:id=d
   .subst hd;rw[awM]at h;cases h
   .rw[awN hd]at h⊢;cases hv:t_ P H t id off with
    |none=>rw[hv]at h;cases h
    |some v=>rw[hv]at h;obtain⟨l',h1,rfl⟩:=DJ.1 h;rw[acr h1];rfl
theorem WR.Re{φ bs}{H:AH}{w d x}(hd:d<H.bx)(hw:WR φ bs (H.cV d x) w):WR φ bs (H.cV d (.bm [])) w:=by
 have hg:∀{y:bf} {id:Nat},(H.cV d y).bc id=if id=d then some y else H.bc id:=fun{y id}=>Tr.kM H.h d id y
 refine⟨?_,?_,hw.lt,?_,hw.s8 rfl rfl (by rw[yz,yz]) (λ_ _=>rfl) λid ob e h1 l1 h2=>.inl ?_⟩
 .intro id ob e h1 h2;rw[hg]at h1;by_cases hi:id=d
  .rw[aL hi]at h1;cases h1;have:=(hw.lt id e h2).1;exact⟨w.heap[e.b],Bn _,trivial⟩
  .rw[az hi]at h1;exact hw.eI id ob e (by rw[hg,az hi];exact h1) h2
 .intro id iq ob bE e e' h1 l1 h2 h3 l2 h4 hb;rw[hg]at h1 h3;by_cases hi:id=d
  .rw[aL hi]at h1;cases h1;cases l1
  .by_cases hj:iq=d
   .rw[aL hj]at h3;cases h3;cases l2
   .rw[az hi]at h1;rw[az hj]at h3;exact hw.ji id iq ob bE e e' (by rw[hg,az hi];exact h1) l1 h2 (by rw[hg,az hj];exact h3) l2 h4 hb
 .intro id ob h1;by_cases hi:id=d
  .rw[hi];exact hd
  .rw[hg,az hi]at h1;exact hw.nx id ob (by rw[hg,az hi];exact h1)
 .rw[hg]at h1;by_cases hi:id=d
  .rw[aL hi]at h1;cases h1;cases l1
  .rw[az hi]at h1;exact⟨id,ob,e,by rw[hg,az hi];exact h1,l1,h2,rfl⟩
theorem afW(cU:P.follows .mixedOrders=true)(hc:mG P (kZ S)){fn nt m0 d Q}(hd:d<m0):KZ P S [.oH d] none fn nt m0 (qq Q) (λ_=>P6 P fn m0 Q d):=by
 intro b tmps todo H h hs;rw[aa4]at hs;simp only[P6]at h;split at h;next ho=>
  unfold pX at h;split at h;next f hf=>
   split at h;next l hl=>
    refine acu (fn:=fn) (nt:=nt) rfl h ?_;refine cj.ja cU hc rfl hs ?_;refine cj.ja (fr':=⟨fn,tmps,nt,todo,[],.i_,none,none⟩) (H':=H.cV d (.pP none)) cU hc rfl ?_ ?_
    .simp only[j_,DV,ho]
    .refine cj.TT (cj.Kp (Q:=λr=>r=⟨.gG (BF l),none,H.cV d (.pP none)⟩) cU hc rfl ?_ rfl) ?_
     .simp only[j_,DV,JI,hf,acr hl]
     .rintro r rfl;refine⟨_,rfl,λφ aQ w w' bs cv cs hw he=>⟨aQ,?_,⟨jj.Aj _ _,.of (by show(H.cV d _).x=(H.cV d _).x;rw[yz,yz]) rfl⟩,he⟩⟩;refine WR.Re ?_ hw;by_cases hn:d<H.bx
      .exact hn
      .exact absurd (hw.nx d (.pP none) (by show(H.h.gz d _).bZ d=_;rw[Tr.kM,aL rfl])) hn
   .cases h
  .cases h
 .cases h
theorem aqB(cU:P.follows .mixedOrders=true)(hc:mG P (kZ S)){fn nt m0 l Q}:KZ P S [] (some l) fn nt m0 (qq Q) (XN m0 Q l):=by
 intro b tmps todo H h hs;cases b with
 |true=>cases h
 |false=>
  simp only[XN,cond_false]at h;split at h;next st p lf tm ln ps a bd d ho=>
   split at h;next sU H2 hv=>
    have A9:j_ P (kZ S) (fS [] (some l) fn nt tmps todo) H=.Am ⟨.gG (.au true),none,H.cV l (.hQ .ready none lf tm ln ps a bd d)⟩:=by rw[hs];simp only[fS,u9,aa3,cond_false,ho,Option.isNone_none,cond_true]
    refine cj.TT (cj.Kp cU hc rfl A9 rfl) ?_;rintro r rfl;refine⟨⟨.gG (.au true),none,H2⟩,⟨_,rfl,rfl,h⟩,?_⟩;intro φ aQ w w' bs cv cs hw he;obtain⟨tt,n,rfl,aZ,jA,jn⟩:=BI hv;refine⟨jf sU aQ,hw.tb aZ jA,⟨⟨λid hi=>by simp[jf,jn id hi],λ_ _ h=>h,λ_ _ h=>h⟩,.of rfl rfl⟩,?_⟩;intro c cs' jN;have⟨v',g1,g2⟩:=he c cs' jN;exact⟨v',g1,g2⟩
   .cases h
  .cases h
theorem Gt(cU:P.follows .mixedOrders=true)(hc:mG P (kZ S)){ds rd fn nt m0 aR L ret Q}(gC:pd m0 ds)(uZ:TK m0 rd)(aar:KZ P S ds rd fn nt m0 Q ret){dN}(Sc:WT P ds rd fn nt m0 Q dN)(hL:∀t H todo,L t H todo->cj P m0 (fS ds rd fn nt t todo) H Q):∀(n) {tmps todo H},lF P S nt m0 aR L ret dN rd n tmps todo H->cj P m0 (fS ds rd fn nt tmps todo) H Q
 |0,_,_,_,h=>by cases h
 |n+1,tmps,todo,H,h=>by
  have ih:=fun{tmps:Tr AV} {todo:List dZ} {H:AH}=>Gt cU hc (aR:=aR) gC uZ aar Sc hL n (tmps:=tmps) (todo:=todo) (H:=H)
  have loop:∀{body:Code} {k:List dZ},P4 m0 aR L body k tmps H->cj P m0 (fS ds rd fn nt tmps (.gM body::.rq body::k)) H Q:=by
   intro body k h;unfold P4 at h;split at h
   .cases h
   .split at h;next i _ ps H2 hv=>
     split at h;next t ht=>obtain⟨hp,h⟩:=iA h;exact cj.Kg (by simp[lx,NP,hp]) hv ht (hL _ _ _ h) gC uZ
     .cases h
    .cases h
  simp only[lF]at h;split at h
  .exact aar false tmps [] H h rfl
  .exact cj.ja cU hc rfl rfl (ih h)
  .exact cj.ja cU hc rfl rfl (ih h)
  next k=>
   split at h;next l=>
    split at h;next p lf lt ln ps a b d ho=>refine cj.ja cU hc rfl ?_ (ih h);simp only[fS,j_,rl,sk,Ub,ho]
    .cases h
   .cases h
  next body k=>
   cases hb:U2 aR body
   .rw[hb]at h;exact cj.ja cU hc rfl rfl (loop h)
   .rw[hb]at h;exact cj.ja cU hc rfl rfl (ih h)
  next ops i l k=>
   split at h
   .exact cj.ja cU hc rfl rfl (ih h)
   next o rest=>
    rcases aiJ h with⟨hw,h⟩|⟨hw,h⟩
    .cases IX:aj1 o.op with
     |true=>
      rw[IX]at h;simp only[cond_true]at h;split at h;next v uY=>
       refine cj.ja cU hc rfl ?_ (Sc _ _ tmps (.ik ops i (o::rest)::k) h);unfold alR at uY;split at uY;next x nR=>
        split at uY;next t v0 u5=>
         cases uY;have e1:pq o.op=false:=by rw[nR];rfl
         have e2:sO o.op=false:=by rw[nR];rfl
         have e3:nM P (iG tmps) H o.op=some (.vC (.ec t v0)):=by rw[nR];simp only[nM,ZP,u5]
         simp only[fS,j_,rl,sk,zW,hw,cond_true,e1,e2,cond_false,e3,yq,JZ,yk]
        .cases uY
       .cases uY
      .cases h
     |false=>
     rw[IX]at h;simp only[cond_false]at h;cases gK:aaK aR o.op with
     |true=>
      rw[gK]at h;simp only[cond_true]at h;unfold P7 at h;split at h;next sU H2 hv=>
       split at h;next t ht=>obtain⟨hp,h⟩:=iA h;exact cj.Kg hp hv ht (hL _ _ _ h) gC uZ
       .cases h
      .cases h
     |false=>
     rw[gK]at h;simp only[cond_false]at h;rcases abN h with⟨h1,v,h2,h3⟩|⟨h1,h2,ob,g,h3,h4⟩|⟨h1,h2,v,H',h3,h4⟩|⟨h1,h2,v,H',h3,h4⟩
     .obtain⟨t,h5,h6⟩:=B' h3;refine cj.ja cU hc rfl ?_ (ih h6);simp only[fS,j_,rl,sk,zW,hw,cond_true,h1,h2,acJ,rW,h5]
     .obtain⟨t,h5,h6⟩:=B' h4;refine cj.ja cU hc rfl ?_ (ih h6);cases H with
      |mk hh nn=>have CB:=h5;simp only[fS,j_,rl,sk,zW,hw,cond_true,h1,h2,cond_false,h3,acI,rW,CB]
     .have⟨t,h5,h6⟩:=B' h4;have⟨aK,up,h7,h8,n1,n2,n3⟩:=ai4 h3;refine cj.ja cU hc rfl ?_ (ih h6);simp only[fS,j_,rl,sk,zW,hw,cond_true,h1,h2,cond_false,h7];cases aK with
      |xd d=>exact absurd rfl (n1 d)
      |vC v=>exact absurd rfl (n2 v)
      |xe=>exact absurd rfl n3
      |gU v0 H0=>simp only[yq,h8,zU,rW,h5]
      |qA f as=>simp only[yq,h8,zU,rW,h5]
      |vD f as=>simp only[yq,h8,zU,rW,h5]
     .have⟨aK,up,h7,h8,n1,n2,n3⟩:=ai5 h3;refine cj.ja cU hc rfl ?_ (Sc _ _ tmps (.ik ops i (o::rest)::k) h4);simp only[fS,j_,rl,sk,zW,hw,cond_true,h1,h2,cond_false,h7];cases aK with
      |xd d=>exact absurd rfl (n1 d)
      |vC v=>exact absurd rfl (n2 v)
      |xe=>exact absurd rfl n3
      |gU v0 H0=>simp only[yq,h8,zU,JZ,yk]
      |qA f as=>simp only[yq,h8,zU,JZ,yk]
      |vD f as=>simp only[yq,h8,zU,JZ,yk]
    .have⟨t,h5,h6⟩:=B' h;refine cj.ja cU hc rfl ?_ (ih h6);simp only[fS,j_,rl,sk,zW,hw,cond_false,rW,h5]
  next c k=>
   split at h
   .exact aar true tmps _ H h rfl
   .exact cj.ja cU hc rfl rfl (ih h)
   .exact cj.ja cU hc rfl rfl (ih h)
   .exact cj.ja cU hc rfl rfl (ih h)
   next c a b=>
    split at h;next t ht=>
     cases t
     .refine cj.ja cU hc rfl ?_ (ih h);simp only[fS,j_,rl,sk,yv,acZ,ht,to,cond_false]
     .refine cj.ja cU hc rfl ?_ (ih h);simp only[fS,j_,rl,sk,yv,acZ,ht,to,cond_true]
    .cases h
   .exact cj.ja cU hc rfl rfl (ih h)
   .exact cj.ja cU hc rfl rfl (ih h)
   next body=>
    cases hb:U2 aR body
    .rw[hb]at h;exact cj.ja cU hc rfl rfl (loop h)
    .rw[hb]at h;exact cj.ja cU hc rfl rfl (ih h)
   .split at h;next k' hk=>refine cj.ja cU hc rfl ?_ (ih h);simp only[fS,j_,rl,sk,yv,hk,ac0,to]
    .cases h
   next id ops rD=>
    cases hsr:aaL aR id with
    |true=>
     rw[hsr]at h;simp at h;unfold P7 at h;split at h;next sU H2 hv=>
      split at h;next t ht=>have⟨hp,h⟩:=iA h;exact cj.Kg hp hv ht (hL _ _ _ h) gC uZ
      .cases h
     .cases h
    |false=>
    rw[hsr]at h;simp at h;cases rD
    .exact cj.ja cU hc rfl rfl (ih h)
    .simp at h;split at h;next pl mi=>
      rcases abY h with⟨t,H',h1,h2⟩|⟨x,H',h1,h2⟩
      .refine cj.ja cU hc rfl ?_ (ih h2);simp only[fS,j_,rl,sk,yv,Oo,cond_true,mi,h1,abX]
      .refine cj.ja cU hc rfl ?_ (Sc _ _ (Ig tmps (HV ops)) k h2);simp only[fS,j_,rl,sk,yv,Oo,cond_true,mi,h1,abX,yk]
     .cases h
   next f ps a b=>
    unfold afV at h;split at h;next sU H2 hv=>
     split at h;next t ht=>have⟨hp,h⟩:=iA h;exact cj.Kg (by simp[lx,NP,hp]) hv ht (hL _ _ _ h) gC uZ
     .cases h
    .cases h
   .cases h
  .cases h
end
end
section
section
variable{φ:cn}
mutual
theorem RL:∀{a:AV} {v:Value},VR φ a v->∀id∈lh a,∃e,φ id=some e
 |.au _,_,_,_,h=>by simp[lh]at h
 |.bV _ _,_,_,_,h=>by simp[lh]at h
 |.ad _,_,_,_,h=>by simp[lh]at h
 |.aa i _,_,hv,id,h=>by simp[lh]at h;subst h;obtain⟨e,h1,_⟩:=hv;exact⟨e,h1⟩
 |.kP,_,_,_,h=>by simp[lh]at h
 |.bw i _ _ _ _ _,_,hv,id,h=>by simp[lh]at h;subst h;obtain⟨e,x,c,h1,_⟩:=hv;exact⟨e,h1⟩
 |.aM,_,_,_,h=>by simp[lh]at h
 |.aB i,_,hv,id,h=>by simp[lh]at h;subst h;obtain⟨e,h1,_⟩:=hv;exact⟨e,h1⟩
 |.mW,_,_,_,h=>by simp[lh]at h
 |.bn _ f c,_,hv,id,h=>by
  simp only[lh,iW]at h;obtain⟨f',c',_,_,h1,h2⟩:=hv;rcases h with h|h
  .exact Fz h1 id h
  .exact Fz h2 id h
 |.gN i,_,hv,id,h=>by simp[lh]at h;subst h;obtain⟨e,h1,_⟩:=hv;exact⟨e,h1⟩
 |.qz,_,_,_,h=>by simp[lh]at h
 |.ec _ a,_,hv,id,h=>by simp only[lh]at h;obtain⟨v',_,h1⟩:=hv;exact RL h1 id h
 |.lJ,_,_,_,h=>by simp[lh]at h
 |.ai cs,_,hv,id,h=>by simp only[lh]at h;obtain⟨v',_,h1⟩:=hv;exact Fz h1 id h
 |.aC cs,_,hv,id,h=>by simp only[lh]at h;obtain⟨v',_,h1⟩:=hv;exact Fz h1 id h
 |.vV _,_,_,_,h=>by simp[lh]at h
 |.ah ..,_,_,_,h=>by simp[lh]at h
 |.pK _,_,_,_,h=>by simp[lh]at h
 |.aj ..,_,_,_,h=>by simp[lh]at h
theorem Fz:∀{as:LV} {vs:List Value},br φ as vs->∀id∈tL as,∃e,φ id=some e
 |[],_,_,_,h=>by simp[tL]at h
 |a::as,_,hv,id,h=>by
  simp only[tL,iW]at h;obtain⟨v,eF,rfl,h1,h2⟩:=hv;rcases h with h|h
  .exact RL h1 id h
  .exact Fz h2 id h
end
theorem Z1:∀{t x},x∈Mp t->∃i a,t.bZ i=some a/\x∈lh a
 |.il,x,h=>by cases h
 |.gy v l r,x,h=>by
  simp only[Mp,iW]at h;rcases h with(h|h)|h
  .cases v with
   |none=>cases h
   |some a=>exact⟨0,a,by rw[Tr.p9,aL rfl],h⟩
  .have⟨i,a,h1,h2⟩:=Z1 h;refine⟨2*i+1,a,?_,h2⟩;rw[Tr.p9,az (by omega),aL (by omega)];have:(2*i+1)/ 2=i:=by omega
   rw[this];exact h1
  .have⟨i,a,h1,h2⟩:=Z1 h;refine⟨2*i+2,a,?_,h2⟩;rw[Tr.p9,az (by omega),az (by omega)];have:(2*i+2)/ 2-1=i:=by omega
   rw[this];exact h1
theorem abE{bs H w}(hw:WR φ bs H w):∀{ps hd},JC H hd ps=true->(∀id∈hd,∃e,φ id=some e)->
 ∀p∈ps,∃ob,H.bc p.1=some ob/\ob.aR=true/\((∃e,φ p.1=some e)\/∃vs el,ob=.aA vs el)
 |[],_,_,_,p,hp=>by cases hp
 |(o,n)::l,hd,h,hh,p,hp=>by
  simp only[JC]at h;split at h;next vs el ho=>
   rcases dK.1 hp with rfl|hp
   .exact⟨_,ho,rfl,.inr ⟨vs,el,rfl⟩⟩
   .exact abE hw h hh p hp
  .cases h
  .cases h
  next n1 n2 n3=>
   cases eU:H.bc o with
   |none=>exact absurd eU n3
   |some ob=>
    have hl:ob.aR=true:=by cases ob<;>first|rfl|exact absurd eU (n2 _)
    cases ZZ:hd.any (Nat.beq o)
    .rw[ZZ]at h;cases h
    .rw[ZZ]at h;simp at h;have⟨x,hx,oO⟩:=List.any_eq_true.1 ZZ;have:=dw oO;subst this;have⟨e,he⟩:=hh _ hx;rcases dK.1 hp with rfl|hp
     .exact⟨ob,eU,hl,.inl ⟨e,he⟩⟩
     .refine abE hw h ?_ p hp;intro id dv;rcases iW.1 dv with dv|dv
      .exact hh id dv
      .rw[eU]at dv;have⟨o',_,tS⟩:=hw.eI _ _ e eU he;cases ob<;>simp only[aiW]at dv<;>try (simp at dv;done)
       .obtain⟨cs,el,rfl,_,_,hv,_⟩:=tS;exact Fz hv id dv
       .obtain⟨o5,ed,rfl,hd,u4⟩:=tS;rcases dK.1 dv with rfl|dv
        .exact⟨ed,hd⟩
        .have⟨i,a,h1,h2⟩:=Z1 dv;have⟨v,_,h4⟩:=u4.2 i a h1;exact RL h4 id h2
end
theorem XS{r Hs}:∀{ps t t' id bE},(ps.map (·.1)).Nodup->Aw r Hs ps t=some t'->t'.bZ id=some bE->
 (∃n,(id,n)∈ps/\((∃ob,Hs.bc n=some ob/\lX r ob=some bE)\/bE=.bm []))\/((∀n,(id,n)∉ps)/\t.bZ id=some bE)
 |[],t,t',id,bE,_,h,hg=>by cases h;exact .inr ⟨(λ_ h=>by cases h),hg⟩
 |(o,n)::l,t,t',id,bE,hn,h,hg=>by
  simp at hn;have aI:∀x,Aw r Hs l (t.gz o x)=some t'->((∃ob,Hs.bc n=some ob/\lX r ob=some x)\/x=.bm [])->
   (∃n',(id,n')∈(o,n)::l/\((∃ob,Hs.bc n'=some ob/\lX r ob=some bE)\/bE=.bm []))\/((∀n',(id,n')∉(o,n)::l)/\t.bZ id=some bE):=by
   intro x hx Sg;rcases XS hn.2 hx hg with⟨n',h1,h2⟩|⟨h1,h2⟩
   .exact .inl ⟨n',en _ h1,h2⟩
   .rw[Tr.kM]at h2;by_cases hi:id=o
    .subst hi;rw[aL rfl]at h2;cases h2;exact .inl ⟨n,dY ..,Sg⟩
    .rw[az hi]at h2;refine .inr ⟨λn' hm=>?_,h2⟩;rcases dK.1 hm with hm|hm
     .cases hm;exact hi rfl
     .exact h1 n' hm
  simp only[Aw]at h;split at h
  .exact aI _ h (.inr rfl)
  next ob ho=>
   split at h;next dn h1=>exact aI _ h (.inl ⟨ob,ho,h1⟩)
   .cases h
theorem af2{r Hs}:∀{ps t t' id},Aw r Hs ps t=some t'->(∀n,(id,n)∉ps)->t'.bZ id=t.bZ id
 |[],t,t',id,h,_=>by cases h;rfl
 |(o,n)::l,t,t',id,h,hn=>by
  have cK:id≠o:=by rintro rfl;exact hn n (dY ..)
  have aI:∀x,Aw r Hs l (t.gz o x)=some t'->t'.bZ id=t.bZ id:=by intro x hx;rw[af2 hx (λn' hm=>hn n' (en _ hm)),Tr.kM,az cK]
  simp only[Aw]at h;split at h
  .exact aI _ h
  .split at h
   .exact aI _ h
   .cases h
theorem XQ{r Hs k next}:∀{j t t' id bE},HB r Hs k next j t=some t'->t'.bZ id=some bE->
 (∃i ob,i<j/\id=next+i/\Hs.bc (k+i)=some ob/\lX r ob=some bE)\/t.bZ id=some bE
 |0,t,t',id,bE,h,hg=>by cases h;exact .inr hg
 |j+1,t,t',id,bE,h,hg=>by
  simp only[HB]at h;split at h
  .cases h
  next t1 h1=>
   have rest:∀{t2:Tr bf},t2=t1->t2.bZ id=some bE->(∃i ob,i<j+1/\id=next+i/\Hs.bc (k+i)=some ob/\lX r ob=some bE)\/t.bZ id=some bE:=by
    rintro t2 rfl hg;rcases XQ h1 hg with⟨i,ob,a,b⟩|h2
    .exact .inl ⟨i,ob,by omega,b⟩
    .exact .inr h2
   split at h
   .cases h;exact rest rfl hg
   next ob ho=>
    split at h;next dn hr=>
     cases h;rw[Tr.kM]at hg;by_cases hi:id=next+j
     .rw[aL hi]at hg;cases hg;exact .inl ⟨j,ob,by omega,hi,ho,hr⟩
     .rw[az hi]at hg;exact rest rfl hg
    .cases h
theorem XR{r Hs k next}:∀{j t t' id},HB r Hs k next j t=some t'->id<next->t'.bZ id=t.bZ id
 |0,t,t',id,h,_=>by cases h;rfl
 |j+1,t,t',id,h,hi=>by
  simp only[HB]at h;split at h
  .cases h
  next t1 h1=>
   split at h
   .cases h;exact XR h1 hi
   .split at h
    .cases h;rw[Tr.kM,az (by omega)];exact XR h1 hi
    .cases h
theorem WR.amy{φ bs vL H w}(hw:WR φ bs H w)(h1:∀i e,φ i=some e->¬vL e.b)(h2:∀b o,φ.ro b=some o->¬vL b)(h3:∀n ob e,H.gT n=some ob->φ.xs n=some e->¬vL e.b):WR φ vL H w:=
 ⟨hw.eI,hw.ji,λi e h=>let⟨a,_,c⟩:=hw.lt i e h;⟨a,h1 i e h,c⟩,hw.nx,⟨λb o h=>⟨⟨h2 b o h,(hw.ro b o h).1.2⟩,(hw.ro b o h).2⟩,λn ob h=>let⟨e,o,a,b,c⟩:=hw.wx.xo n ob h;⟨e,o,a,⟨h3 n ob e h a,b.2⟩,c⟩,hw.wx.xi,hw.wx.xl⟩⟩
def aej(P:Program)(S:G'):Prop:=
 ∀(f:FuncId) (args:LV) (H:AH) (p:Prop) (v:AV) (H':AH),f≠999999->S f args H=some (p,v,H')->p->
  ∀(φ:cn) (w:World) (bs:fN) (args':Array Value) (cs:List Frame),br φ args args'.toList->WR φ bs H w->iv bs w->aev P H H.bx bs φ w (Frame.enter P f args' .normal) cs ⟨jx v,none,H'⟩
theorem aky{S f args H v H'}(hk:Dj S f args H=some (v,H')){φ w m bs}(auC:∀id∈tL args,∃e,φ id=some e)(hw:WR φ bs H w)(hb:iv bs w)(hm:m<=H.bx){E:cn->World->AV->Prop}(hE:∀r jW kV v v' w',tj r jW kV->eM r v=some v'->E jW w' v->E kV w' v')(hS:∀ps t n xc Av p vs Hs,K0 ps n->Ee (iK ps) H ps .il=some t->nY (iK ps) args=some Av->S f Av ⟨t,n,xc⟩=some (p,vs,Hs)->p->
 ∀qL:fN,WR (jf ps φ) qL ⟨t,n,xc⟩ w->iv qL w->∃aQ w',WR aQ qL Hs w'/\jj n (jf ps φ) aQ/\(cZ qL w w'/\nB (jf ps φ) ⟨t,n,xc⟩ aQ Hs)/\E aQ w' vs):
 ∃aQ w',WR aQ bs H' w'/\cI m φ H aQ H'/\cZ bs w w'/\E aQ w' v:=by
 unfold Dj at hk;split at hk;next p v0 H0 hl=>
  by_cases hp:p
  .rw[aL hp]at hk;cases hk;unfold Nb at hl;split at hl
   .cases hl
   next ps t n xv hv=>
    obtain⟨aag,hl⟩:=dj hl;split at hl;next Av mP=>
     have hxv:xv=H.x:=by obtain⟨_,_,hH,_⟩:=BI hv;cases hH;rfl
     have iH:∃(xb:Bool) (xc:Option XH) (wN:Prop×AV×AH),((xb=false/\xc=none)\/(xb=true/\xc=H.x))/\S f Av ⟨t,n,xc⟩=some wN/\u_ ps n H xb wN=some ⟨p,v,H'⟩:=by
      split at hl;next wN jP=>exact⟨false,none,wN,.inl ⟨rfl,rfl⟩,jP,hl⟩
      .split at hl
       .cases hl
       .split at hl;next wN jP=>exact⟨true,_,wN,.inr ⟨rfl,hxv⟩,jP,hl⟩
        .cases hl
     clear hl;by_cases auL:True
     .obtain⟨xb,xc,wN,MX,jP,hl⟩:=iH;obtain⟨p1,vs,⟨hs,ns,xs⟩⟩:=wN;obtain⟨h,next,x⟩:=H;simp only[u_]at hl;obtain⟨cA,hl⟩:=dj hl;have cA:=pE cA;split at hl;next v1 t1 FT Sh=>
       split at hl;next t2 I9=>
        cases hl;obtain⟨tt,nn,hH,aZ,jA,_⟩:=BI hv;cases hH;have R4:=abE hw aag auC;have MT:=yc aZ φ;have uX:∀{i e},jf ps φ i=some e->∃a,(a,i)∈ps/\φ a=some e:=λh=>JJ h
        have ajF:=hw.tb aZ jA;let XB:Nat->Prop:=λb=>∃n ob e,(⟨h,next,x⟩:AH).gT n=some ob/\φ.xs n=some e/\e.b=b
        let qL:fN:=λb=>(b<w.heap.size/\φ.ro b=none/\(xb=true->¬XB b))/\∀i e,jf ps φ i=some e->b≠e.b
        have auz:∀{id ob e},(⟨h,next,x⟩:AH).bc id=some ob->ob.aR=true->φ id=some e->¬XB e.b:=by rintro id ob e h1 h2 h3 ⟨nn,ie,e2,k1,k2,k3⟩;obtain⟨e4,o4,r1,_,_,_,r5⟩:=hw.wx.xo nn ie k1;rw[k2]at r1;cases r1;exact r5 id ob e h1 h2 h3 k3.symm
        have Mu:∀b,bs b->qL b:=by
         intro b fI;refine⟨⟨hb b fI,?_,?_⟩,λi e hi he=>?_⟩
         .cases gw:φ.ro b with
          |none=>rfl
          |some o=>exact absurd fI (hw.ro b o gw).1.1
         .rintro _ ⟨nn,ie,e2,k1,k2,rfl⟩;obtain⟨e4,o4,r1,r2,_⟩:=hw.wx.xo nn ie k1;rw[k2]at r1;cases r1;exact r2.1 fI
         obtain⟨a,_,h2⟩:=uX hi;exact(hw.lt a e h2).2.1 (he▸fI)
        have MW:WR (jf ps φ) qL ⟨t,n,xc⟩ w:=by
         have gw:∀b o,(jf ps φ).ro b=some o->¬qL b:=λb o ho fI=>by have ho:φ.ro b=some o:=ho;rw[fI.1.2.1]at ho;cases ho
         rcases MX with⟨_,rfl⟩|⟨rfl,rfl⟩
         .exact ajF.noX.amy (λi e hi fI=>fI.2 i e hi rfl) gw (λn ob e h=>by cases h)
         .exact ajF.amy (λi e hi fI=>fI.2 i e hi rfl) gw (λn' ob e h1 h2 fI=>fI.1.2.2 rfl ⟨n',ob,e,by rw[<-h1];exact ux (H:=⟨t,n,xc⟩) (H':=⟨h,next,xc⟩) rfl n',h2,rfl⟩)
        obtain⟨uy,w',g1,g2,⟨g3,gx⟩,g4⟩:=hS ps t n xc Av p vs ⟨hs,ns,xs⟩ aZ jA mP jP hp qL MW (λb fI=>fI.1.1);have g2:=g2;let aQ:cn:=⟨λid=>if id<next then φ id else uy (n+(id-next)),uy.ro,uy.xs⟩
        have jn:∀{id},id<next->aQ id=φ id:=λhi=>aL hi
        have FK:∀{o i},(o,i)∈ps->o<next/\i<n/\uy i=φ o:=by intro o i A5;obtain⟨ob,h1,_⟩:=R4 _ A5;refine⟨hw.nx o ob h1,aZ.lt _ A5,?_⟩;rw[g2 i (aZ.lt _ A5)];exact MT o i (S1 aZ.n1 A5)
        have RN:tj (yN ps n next) uy aQ:=by
         refine⟨λi c hc=>?_,λ_ _ h=>h,λ_ _ h=>h⟩;unfold yN at hc;cases mQ:Nat.ble (i+1) n
         .rw[mQ]at hc;simp only[cond_false,nX]at hc;subst hc;have tR:n<=i:=by
           rcases Gk i n with h1|h1
           .rw[fU (show i+1<=n from h1)]at mQ;cases mQ
           .exact h1
          show(if _ then _ else _)=_;rw[az (by omega)];congr 1;omega
         .rw[mQ]at hc;simp only[cond_true]at hc;obtain⟨h1,_,h3⟩:=FK (JG hc);rw[jn h1,h3]
        have Sg:∀{id bE},(⟨t2,next+(ns-n),bif xb then xs else x⟩:AH).bc id=some bE->
         (∃j ob,yN ps n next j=some id/\(⟨hs,ns,xs⟩:AH).bc j=some ob/\lX (yN ps n next) ob=some bE)\/(id<next/\bE=.bm [])\/(id<next/\(∀n,(id,n)∉ps)/\(⟨h,next,x⟩:AH).bc id=some bE):=by
         intro id bE ho;rcases XQ I9 ho with⟨i,ob,a1,a2,a3,a4⟩|h1
         .refine .inl ⟨n+i,ob,?_,a3,a4⟩;unfold yN;have:Nat.ble (n+i+1) n=false:=by rw[rj,Ne,vl];omega
          rw[this,a2];simp
         .rcases XS aZ.n1 Sh h1 with⟨n',a1,⟨ob,a2,a3⟩|a2⟩|⟨a1,a2⟩
          .refine .inl ⟨n',ob,?_,a2,a3⟩;unfold yN;rw[fU (show n'+1<=n from aZ.lt _ a1)];exact ND aZ.n2 a1
          .exact .inr (.inl ⟨(FK a1).1,a2⟩)
          .exact .inr (.inr ⟨hw.nx id bE a2,a1,a2⟩)
        have eJ:∀{id ob e},(∀n,(id,n)∉ps)->(⟨h,next,x⟩:AH).bc id=some ob->ob.aR=true->φ id=some e->qL e.b:=by
         intro id ob e h1 h2 h3 h4;refine⟨⟨(hw.lt id e h4).1,?_,λ_=>auz h2 h3 h4⟩,λi e2 hi he=>?_⟩
         .cases gw:φ.ro e.b with
          |none=>rfl
          |some o=>exact absurd rfl ((hw.ro _ o gw).2 id ob e h2 h3 h4)
         obtain⟨a,k1,k2⟩:=uX hi;obtain⟨ie,k3,k4,_⟩:=R4 _ k1;have:=hw.ji id a ob ie e e2 h2 h3 h4 k3 k4 k2 he;subst this;exact h1 i k1
        have aam:dE φ aQ:=⟨λid e h1=>by rw[jn (hw.lt id e h1).2.2];exact h1,g2.ro,g2.xs⟩;have jd:∀{id bE e},(⟨t2,next+(ns-n),bif xb then xs else x⟩:AH).bc id=some bE->bE.aR=true->aQ id=some e->
         (∃j ob,yN ps n next j=some id/\(⟨hs,ns,xs⟩:AH).bc j=some ob/\ob.aR=true/\uy j=some e)\/(id<next/\(⟨h,next,x⟩:AH).bc id=some bE/\φ id=some e/\qL e.b):=by
         intro id bE e h1 l1 h2;rcases Sg h1 with⟨j,ob,a1,a2,a3⟩|⟨a1,a2⟩|⟨a1,a2,a3⟩
         .exact .inl ⟨j,ob,a1,a2,by rw[<-Ob a3];exact l1,by rw[<-RN j id a1];exact h2⟩
         .subst a2;cases l1
         .rw[jn a1]at h2;exact .inr ⟨a1,a3,h2,eJ a2 a3 l1 h2⟩
        have cx:=g3.1;refine⟨aQ,w',⟨?_,?_,?_,?_,?_⟩,⟨aam,by show next<=next+(ns-n);omega,?_,?_⟩,⟨cx,λb fI=>g3.2.1 b (Mu b fI),g3.2.2⟩,?_⟩
        .intro id bE e h1 h2;rcases Sg h1 with⟨j,ob,a1,a2,a3⟩|⟨a1,a2⟩|⟨a1,a2,a3⟩
         .have h3:uy j=some e:=by rw[<-RN j id a1];exact h2
          obtain⟨o,k1,k2⟩:=g1.eI j ob e a2 h3;exact⟨o,k1,acq RN a3 k2⟩
         .subst a2;rw[jn a1]at h2;have:=(hw.lt id e h2).1;exact⟨w'.heap[e.b]'(by omega),Bn _,trivial⟩
         .rw[jn a1]at h2;by_cases tO:bE.aR=true
          .have⟨o,k1,k2⟩:=hw.eI id bE e a3 h2;exact⟨o,(g3.2.1 _ (eJ a2 a3 tO h2)).trans k1,k2.tg aam⟩
          .cases bE<;>simp[bf.aR]at tO;have:=(hw.lt id e h2).1;exact⟨w'.heap[e.b]'(by omega),Bn _,trivial⟩
        .intro id iq dn ie e e' h1 l1 h2 h3 l2 h4 oO;rcases jd h1 l1 h2 with⟨j,ob,a1,a2,a3,a4⟩|⟨a1,a2,a3,a4⟩<;>rcases jd h3 l2 h4 with⟨j',bE,b1,b2,b3,b4⟩|⟨b1,b2,b3,b4⟩
         .have:=g1.ji j j' ob bE e e' a2 a3 a4 b2 b3 b4 oO;subst this;rw[a1]at b1;cases b1;rfl
         .exact absurd (oO▸b4) (g1.lt j e a4).2.1
         .exact absurd (oO▸a4) (g1.lt j' e' b4).2.1
         .exact hw.ji id iq dn ie e e' a2 l1 a3 b2 l2 b3 oO
        .intro id e h2;by_cases hi:id<next
         .rw[jn hi]at h2;have⟨k1,k2,_⟩:=hw.lt id e h2;exact⟨by omega,k2,by show id<next+(ns-n);omega⟩
         .have h3:uy (n+(id-next))=some e:=by rw[<-h2];exact(az hi).symm
          have⟨k1,k2,k3⟩:=g1.lt _ e h3;refine⟨k1,λfI=>k2 (Mu _ fI),?_⟩;have k3:n+(id-next)<ns:=k3;show id<next+(ns-n)
          omega
        .intro id bE h1;show id<next+(ns-n)
         rcases XQ I9 h1 with⟨i,ob,a1,a2,_⟩|h2
         .omega
         .rcases XS aZ.n1 Sh h2 with⟨n',a1,_⟩|⟨_,a2⟩
          .have:=(FK a1).1;omega
          .have:=hw.nx id bE a2;have:id<next:=this
           omega
        .have cK:∀b,¬qL b->(∀j ob e,(⟨hs,ns,xs⟩:AH).bc j=some ob->ob.aR=true->uy j=some e->e.b≠b)->∀id ob e,(⟨t2,next+(ns-n),bif xb then xs else x⟩:AH).bc id=some ob->ob.aR=true->aQ id=some e->e.b≠b:=by
          intro b k1 k3 id ob e h1 l1 h2 oO;rcases jd h1 l1 h2 with⟨j,ob,a1,a2,a3,a4⟩|⟨a1,a2,a3,a4⟩
          .exact k3 j ob e a2 a3 a4 oO
          .exact k1 (oO▸a4)
         have auA:xb=false->∀nn ob e,(⟨h,next,x⟩:AH).gT nn=some ob->φ.xs nn=some e->qL e.b:=by intro hxb nn ob e k1 k2;have⟨e4,o4,r1,r2,r3,r4,r5⟩:=hw.wx.xo nn ob k1;rw[k2]at r1;cases r1;refine⟨⟨(NS.1 r2.2).1,r4,λhx=>by rw[hxb]at hx;cases hx⟩,λi e2 hi he=>?_⟩;have⟨a,q1,q2⟩:=uX hi;have⟨ie,q3,q4,_⟩:=R4 _ q1;exact r5 a ie e2 q3 q4 q2 he.symm
         refine⟨?_,?_,?_,?_⟩
         .intro b o gw;have⟨⟨k1,k2⟩,k3⟩:=g1.ro b o gw;exact⟨⟨λfI=>k1 (Mu b fI),k2⟩,cK b k1 k3⟩
         .intro nn ob ho;rcases MX with⟨rfl,rfl⟩|⟨rfl,rfl⟩
          .have ho:(⟨h,next,x⟩:AH).gT nn=some ob:=by rw[<-ux (H:=⟨h,next,x⟩) (H':=⟨t2,next+(ns-n),x⟩) rfl];exact ho
           have⟨e,o,r1,r2,r3,r4,r5⟩:=hw.wx.xo nn ob ho;have oO:=auA rfl nn ob e ho r1;refine⟨e,o,g2.xs _ _ r1,⟨r2.1,(g3.2.1 _ oO).trans r2.2⟩,r3.tg aam.pu,?_,?_⟩
           .cases hq:uy.ro e.b with
            |none=>rfl
            |some o'=>exact absurd oO (g1.ro _ o' hq).1.1
           .intro id dn e1 h1 l1 h2 mQ;rcases jd h1 l1 h2 with⟨j,ob,a1,a2,a3,a4⟩|⟨a1,a2,a3,a4⟩
            .exact(g1.lt j e1 a4).2.1 (mQ▸oO)
            .exact r5 id dn e1 a2 l1 a3 mQ
          .have ho:(⟨hs,ns,xs⟩:AH).gT nn=some ob:=by rw[<-ux (H:=⟨hs,ns,xs⟩) (H':=⟨t2,next+(ns-n),xs⟩) rfl];exact ho
           have⟨e,o,r1,r2,r3,r4,r5⟩:=g1.wx.xo nn ob ho;exact⟨e,o,r1,⟨λfI=>r2.1 (Mu _ fI),r2.2⟩,r3,r4,cK _ r2.1 r5⟩
         .intro nn Nx ob bE e e' h1 h2 h3 h4 oO;rcases MX with⟨rfl,rfl⟩|⟨rfl,rfl⟩
          .have h1:(⟨h,next,x⟩:AH).gT nn=some ob:=by rw[<-ux (H:=⟨h,next,x⟩) (H':=⟨t2,next+(ns-n),x⟩) rfl];exact h1
           have h2:(⟨h,next,x⟩:AH).gT Nx=some bE:=by rw[<-ux (H:=⟨h,next,x⟩) (H':=⟨t2,next+(ns-n),x⟩) rfl];exact h2
           have⟨e0,_,r1,_⟩:=hw.wx.xo nn ob h1;have⟨e0',_,r1',_⟩:=hw.wx.xo Nx bE h2;have h3:=h3;have h4:=h4;rw[g2.xs _ _ r1]at h3;cases h3;rw[g2.xs _ _ r1']at h4;cases h4;exact hw.wx.xi nn Nx ob bE _ _ h1 h2 r1 r1' oO
          .have h1:(⟨hs,ns,xs⟩:AH).gT nn=some ob:=by rw[<-ux (H:=⟨hs,ns,xs⟩) (H':=⟨t2,next+(ns-n),xs⟩) rfl];exact h1
           have h2:(⟨hs,ns,xs⟩:AH).gT Nx=some bE:=by rw[<-ux (H:=⟨hs,ns,xs⟩) (H':=⟨t2,next+(ns-n),xs⟩) rfl];exact h2
           exact g1.wx.xi nn Nx ob bE e e' h1 h2 h3 h4 oO
         .intro X hX nn e h1;rcases MX with⟨rfl,rfl⟩|⟨rfl,rfl⟩
          .exact hw.wx.xl X hX nn e (gx.2 (gx.1.2 rfl) nn e h1)
          .exact g1.wx.xl X hX nn e h1
        .intro id hi hn;have hi:=JX hi hm;refine⟨by rw[jn hi];exact hn,?_⟩;by_cases jd:∃n,(id,n)∈ps
         .have⟨n',jd⟩:=jd;obtain⟨ob,k1,_,⟨e,k2⟩|⟨vs,el,rfl⟩⟩:=R4 _ jd
          .rw[hn]at k2;cases k2
          .exact .inr ⟨vs,el,k1⟩
         .left;show t2.bZ id=h.bZ id;rw[XR I9 hi,af2 Sh (λn' hm=>jd ⟨n',hm⟩)]
        .rcases MX with⟨rfl,rfl⟩|⟨rfl,rfl⟩
         .exact⟨Iff.rfl,λ_ nn e h1=>gx.2 (gx.1.2 rfl) nn e h1⟩
         .exact gx
        .exact hE _ _ _ _ _ _ RN FT g4
       .cases hl
      .cases hl
     .exact absurd trivial auL
    .cases hl
  .rw[az hp]at hk;cases hk
 .cases hk
def BO(P:Program)(l:Nat)(a:AV)(H:AH)(v:AV)(H':AH):Prop:=
 ∃st pe fn tmps nt p assign body d fr,H.bc l=some (.hQ st pe fn tmps nt [p] assign body d)/\Bu (.hQ st pe fn tmps nt [p] assign body d) l [a]=some fr/\
  ∀(φ:cn) (w:World) (bs:fN) (cv:Frame) (cs:List Frame),WR φ bs H w->iv bs w->uC φ fr cv->V3 (some l) P H H.bx bs φ w cv cs ⟨jx v,none,H'⟩
def afk(P:Program)(S:G'):Prop:=
 ∀(args:LV) (H:AH) (p:Prop) (v:AV) (H':AH),S 999999 args H=some (p,v,H')->p->∃l a,args=[.gN l,a]/\BO P l a H v H'
theorem av8{P S}(hS:aej P S):PC P (λf args H=>bif Df f then none else Dj S f args H):=by
 intro f args H v H' hk φ w m bs args' cs ha hw hb hm;cases hf:Df f with
 |true=>simp only[hf,cond_true]at hk;cases hk
 |false=>
  simp only[hf,cond_false]at hk;have cK:f≠999999:=by rintro rfl;cases hf
  have⟨aQ,w',g1,g2,g3,g4⟩:=aky hk (E:=λaQ w' v=>pV P aQ w w' (Frame.enter P f args' .normal) cs ⟨jx v,none,H'⟩ none none) (λid dv=>Fz ha id dv) hw hb hm
   (by exact λr jW kV v v' w' hr hv h=>h.DP hr hv)
   (by intro ps t n xc Av p vs Hs aZ jA mP jP hp qL MW jn;have⟨uy,w',g1,g2,g3,g4⟩:=hS f Av ⟨t,n,xc⟩ p vs Hs cK jP hp (jf ps φ) w qL args' cs (Gp (yc aZ φ) mP ha) MW jn;exact⟨uy,w',g1,g2,g3,g4⟩)
  exact⟨aQ,w',g1,g2,g3,g4⟩
theorem atZ{P S}(hS:afk P S):Pa P (Rn S):=by
 intro fr H r kO φ w m bs cv cs hw hb hm hf hu;unfold Rn at kO;split at kO;next l hl=>
  split at kO;next st pe fn tmps nt params assign body d ho=>
   split at kO;next p=>
    split at kO;next a ha=>
     split at kO;next iR=>
      have⟨aab,hpn⟩:=TU iR;split at kO;next v H' hk=>
       cases kO;subst aab;obtain⟨b,ac,Je,rfl,A2,hi⟩:=hf;have aag:∀id∈tL [.gN l,a],∃e,φ id=some e:=by
        intro id dv;simp only[tL,lh,jH,iW,pD]at dv;rcases dv with rfl|dv
        .have⟨e,h1,_⟩:=A2.jY;exact⟨e,h1⟩
        .have⟨x,_,h4⟩:=A2.tr.2 p a ha;exact RL h4 id dv
       have⟨aQ,w',g1,g2,g3,g4⟩:=aky hk (E:=λaQ w' v=>pV P aQ w w' (b.atR ac Je) cs ⟨jx v,none,H'⟩ none (some l)) aag hw hb hm
        (by exact λr jW kV v v' w' hr hv he=>he.DP hr hv)
        (by
          intro ps t n xc Av p' vs Hs aZ jA mP jP hp qL MW jn;have⟨l',a',auD,uZ⟩:=hS Av ⟨t,n,xc⟩ p' vs Hs jP hp;have⟨jT,pe',fn',o5,nt',p1,aqx,aqS,d',fr',q1,q2,q3⟩:=uZ;subst auD;simp only[nY,eM]at mP;cases I3:iK ps l with
          |none=>rw[I3]at mP;cases mP
          |some l1=>
           rw[I3]at mP;cases CU:eM (iK ps) a with
           |none=>rw[CU]at mP;cases mP
           |some a1=>
            rw[CU]at mP;simp at mP;obtain⟨rfl,rfl⟩:=mP;have avf:∃o ob,(o,l1)∈ps/\H.bc o=some ob/\lX (iK ps) ob=some (.hQ jT pe' fn' o5 nt' [p1] aqx aqS d'):=by
             rcases U9 jA q1 with h1|h1
             .exact h1
             .cases h1
            have⟨o,ob,k1,k2,k3⟩:=avf;have:=Nr aZ.n2 k1 (abt I3);subst this;rw[ho]at k2;cases k2;simp only[lX]at k3;split at k3;next t2 d2 I9 hd2=>
             cases k3;have⟨auY,_⟩:=TU q2;subst auY;have MT:=yc aZ φ;have⟨uy,w',g1,g2,g3,g4⟩:=q3 (jf ps φ) w qL (b.atR ac Je) cs MW jn (by
              refine⟨b,ac,Je,rfl,⟨A2.fn,⟨A2.tr.1,λi x hx=>?_⟩,A2.dr,?_,A2.kF,λh=>by cases h⟩,ab3 rfl hi⟩
              .have hx:=hx;rw[Tr.kM]at hx;by_cases IX:i=p
               .subst IX;rw[aL rfl]at hx;cases hx;have⟨v0,h3,h4⟩:=A2.tr.2 i a (by show(tmps.gz i a).bZ i=_;rw[Tr.kM,aL rfl]);exact⟨v0,h3,se MT CU h4⟩
               .rw[az IX]at hx;have⟨x0,h1,h2⟩:=TN I9 hx;have⟨v0,h3,h4⟩:=A2.tr.2 i x0 (by show(tmps.gz p a).bZ i=_;rw[Tr.kM,az IX];exact h1);exact⟨v0,h3,se MT h2 h4⟩
              .have⟨e,h1,h2⟩:=A2.jY;exact⟨e,(MT _ l1 I3).trans h1,h2⟩)
             exact⟨uy,w',g1,g2,g3,g4⟩
            .cases k3)
       exact⟨aQ,w',g1,g2,g3,g4⟩
      .cases kO
     .cases kO
    .cases kO
   .cases kO
  .cases kO
 .cases kO
def aS(P:Program)(S:bp):Prop:=aej P (pc S)/\afk P (pc S)
theorem pZ{P S}(hS:aS P S):mG P (kZ S):=⟨atZ hS.2,av8 hS.1⟩
end
section
def bX(P:Program)(f:FuncId)(args:LV)(H:AH)(v:AV)(H':AH):Prop:=
 ∀(φ:cn) (w:World) (bs:fN) (args':Array Value) (cs:List Frame),br φ args args'.toList->WR φ bs H w->iv bs w->aev P H H.bx bs φ w (Frame.enter P f args' .normal) cs ⟨jx v,none,H'⟩
def fJ(v:AV)(H:AH):AV->AH->Prop:=λv' H'=>v'=v/\H'=H
section
variable{P:Program}{S:bp}
theorem as5{f fn c args H v H1}(hf:P.funcs[f]? =some fn)(hb:fn.body=some c)(bS:args.length<=fn.ntmps)(h:cj P H.bx (pf f fn.ntmps (Tr.Dw args 0 .il) [.gM c]) H (qq (fJ v H1))):bX P f args H v H1:=by
 intro φ w bs args' cs ha hw jn;obtain⟨r,⟨v',he,hu,rfl,hH⟩,hr⟩:=h;have A8:r=⟨jx v',none,H1⟩:=by have⟨e,u,h⟩:=r;simp only at he hu hH;rw[he,hu,hH]
 subst A8;refine hr φ w bs _ cs (cE _) hw jn ?_;have I1:args'.size<=fn.ntmps:=by have:=ha.jh;simp at this;omega
 let b:Frame:={(default:Frame)with fn:=f,kind:=.normal,roundOf:=none}
 refine⟨b,{tmps:=args'++Array.replicate (fn.ntmps-args'.size) undef,defers:=[]},[.code c],?_,⟨rfl,⟨?_,?_⟩,rfl,rfl,rfl,λ_=>rfl⟩,⟨_,_,rfl,rfl,rfl⟩⟩
 .simp[Frame.enter,Frame.atR,hf,hb,b]
 .show _=fn.ntmps;simp;omega
 .intro i x hx;have hx:(Tr.Dw args 0 .il).bZ i=some x:=hx;rw[Tr.aim]at hx;split at hx;next hi=>
   simp at hx;have⟨v,h1,h2⟩:=ha.get hx;refine⟨v,?_,h2⟩;rw[Array.getElem?_append_left]
   .simpa using h1
   .have:=(NW.1 h1).1;simpa using this
  .cases hx
def iw(ds:List pR)(P:Program)(f nt m0:Nat)(v:AV)(H1:AH):Tr AV->AH->List dZ->Prop:=λt H todo=>cj P m0 (fS ds none f nt t todo) H (qq (fJ v H1))
abbrev bu:Program->Nat->Nat->Nat->AV->AH->Tr AV->AH->List dZ->Prop:=iw []
theorem asZ(cU:P.follows .mixedOrders=true)(hS:aS P S){aR n f nt args H v H1}(mU:(P.funcs[f]?).map (·.ntmps)=some nt)(h:bC P S aR (bu P f nt H.bx v H1) (fJ v H1) n f args H):bX P f args H v H1:=by
 unfold bC at h;split at h;next fn jz=>
  rw[jz]at mU;simp at mU;subst mU;split at h;next c hc=>have⟨hb,h⟩:=iA h;simp only[dc]at hb;exact as5 jz hc (pE hb.1) (Gt (ds:=[]) (rd:=none) cU (pZ hS) trivial trivial (afY cU (pZ hS)) (λx H t k h=>afT cU (pZ hS) (by rw[jz];rfl) h k) (λ_ _ _ h=>h) n h)
  .cases h
 .cases h
theorem auQ(cU:P.follows .mixedOrders=true)(hS:aS P S){aR n f nt m0 t todo H v H1}(mU:(P.funcs[f]?).map (·.ntmps)=some nt)(h:cg P S aR (bu P f nt m0 v H1) (fJ v H1) n f m0 t todo H):bu P f nt m0 v H1 t H todo:=by
 unfold cg at h;split at h;next fn jz=>rw[jz]at mU;simp at mU;subst mU;exact Gt (ds:=[]) (rd:=none) cU (pZ hS) trivial trivial (afY cU (pZ hS)) (λx H t k h=>afT cU (pZ hS) (by rw[jz];rfl) h k) (λ_ _ _ h=>h) n h
 .cases h
theorem Z8(cU:P.follows .mixedOrders=true)(hS:aS P S){aR n f nt m0 d t todo H v H1}(hd:d<m0)(mU:(P.funcs[f]?).map (·.ntmps)=some nt)(h:Oh P S aR (iw [.oH d] P f nt m0 v H1) (fJ v H1) n f m0 d t todo H):iw [.oH d] P f nt m0 v H1 t H todo:=by
 unfold Oh at h;split at h;next fn jz=>rw[jz]at mU;simp at mU;subst mU;exact Gt (ds:=[.oH d]) (rd:=none) cU (pZ hS) ⟨hd,trivial⟩ trivial (afW cU (pZ hS) hd) abW (λ_ _ _ h=>h) n h
 .cases h
theorem amG(cU:P.follows .mixedOrders=true)(hS:aS P S){aR n l a H v H1 st pe fn nt p d tmps assign body}(ho:H.bc l=some (.hQ st pe fn tmps nt [p] assign body d))(hl:l<H.bx)(h:acG P S aR (λ_ _ _=>False) (fJ v H1) n l a H):BO P l a H v H1:=by
 unfold acG at h;rw[ho]at h;simp only at h;split at h;next fr iR=>
  refine⟨st,pe,fn,tmps,nt,p,assign,body,d,fr,ho,iR,λφ w bs cv cs hw hb hf=>?_⟩;have⟨aab,_⟩:=TU iR;subst aab;have hT:cj P H.bx (fS [] (some l) fn nt (tmps.gz p a) [.gM assign,.Ai,.gM body]) H (qq (fJ v H1)):=
   Gt (ds:=[]) (rd:=some l) cU (pZ hS) trivial hl (aqB cU (pZ hS)) abW (λ_ _ _ h=>h.elim) n h
  obtain⟨r,⟨v',he,hu,rfl,hH⟩,hr⟩:=hT;have A8:r=⟨jx v',none,H1⟩:=by have⟨e,u,h⟩:=r;simp only at he hu hH;rw[he,hu,hH]
  subst A8;exact hr φ w bs cv cs (cE _) hw hb hf
 .cases h
theorem cj.abd{m0 m1 fr H Q}(h01:m0<=m1)(h1:m1<=H.bx)(h:cj P m1 fr H Q):cj P m0 fr H Q:=by have⟨r,hq,hr⟩:=h;refine⟨r,hq,λφ w bs cv cs hm hw hb hf=>?_⟩;have⟨aQ,w',g1,g2,g3,g4⟩:=hr φ w bs cv cs h1 hw hb hf;exact⟨aQ,w',g1,g2.mono h01,g3,g4⟩
theorem cj.Re{m0 d fr}{H:AH}{x Q}(hd:d<H.bx)(h:cj P m0 fr (H.cV d (.bm [])) Q):cj P m0 fr (H.cV d x) Q:=by have⟨r,hq,hr⟩:=h;exact⟨r,hq,λφ w bs cv cs hm hw hb hf=>hr φ w bs cv cs hm (hw.Re hd) hb hf⟩
def acH(P:Program)(S:bp)(aR:Nat->LN)(L:Tr AV->AH->List dZ->Prop)(Q:AV->AH->Prop)(k9:Nat)(f:Nat)(t:Tr AV)(todo:List dZ)(H:AH):Prop:=
 match P.funcs[f]? with
 |some fn=>match todo with
  |.gM (.rangeFunc g params assign body)::k=>match H with
   |⟨h,n,x⟩=>match iG t g with
    |some gv=>match yP P gv [.gN (Nat.succ n)]with
     |some (.qA c args)=>bif Df c then False else
       Ja (AH.eN (AH.eN ⟨h,n,x⟩ (.pP (some []))) (.hQ .ready none f t fn.ntmps params.toList assign body n)) S c args (λ_ H2=>
        match H2.bc (Nat.succ n)with
        |some (.hQ .ready none _ _ _ _ _ _ _)=>Nat.succ n<H2.bx/\lF P S fn.ntmps (Nat.succ n) aR L (λ_=>P6 P f (Nat.succ n) Q n) (λ_ _ _=>False) none k9 t k (H2.cV (Nat.succ n) (.bm []))
        |_=>False) (λ_ _=>False)
     |_=>False
    |none=>False
  |_=>False
 |none=>False
theorem auP(cU:P.follows .mixedOrders=true)(hS:aS P S){aR n f nt m0 t todo H v H1}(hm:m0<=H.bx)(mU:(P.funcs[f]?).map (·.ntmps)=some nt)(h:acH P S aR (iw [.oH H.bx] P f nt (Nat.succ H.bx) v H1) (fJ v H1) n f t todo H):bu P f nt m0 v H1 t H todo:=by
 unfold acH at h;split at h;next fn jz=>
  rw[jz]at mU;simp at mU;subst mU;split at h;next g params assign body k=>
   have⟨hh,nn,xx⟩:=H;simp only at h;split at h;next gv hg=>
    split at h;next c args hc=>
     cases hr:Df c with
     |true=>rw[hr]at h;cases h
     |false=>
      rw[hr]at h;simp at h;rcases ajz hr h with⟨rv,H2,h1,h2⟩|⟨_,_,_,h2⟩
      rotate_left
      .exact h2.elim
      split at h2;next lf lt ln lp la lb ld ho=>
       have⟨ay,h2⟩:=h2;have RQ:=pZ hS;refine cj.ja (fr':=fS [.oH nn] none f fn.ntmps t (.BJ (Nat.succ nn)::k)) (H':=H2) cU RQ rfl ?_ ?_
       .simp only[fS,j_,rl,sk,yv,Ue,abb,AH.eN,QQ,hg,ri,hc,LY,amg];have L_:=h1;simp only[AH.eN]at L_;rw[L_];rfl
       .refine cj.ja (fr':=fS [.oH nn] none f fn.ntmps t k) (H':=H2.cV (Nat.succ nn) (.hQ .exhausted none lf lt ln lp la lb ld)) cU RQ rfl ?_ ?_
        .simp only[fS,j_,rl,sk,Uc,ho,to,Tv]
        .refine cj.Re ay (cj.abd (Nat.le_succ_of_le hm) (Nat.le_of_lt ay) ?_);exact Gt (ds:=[.oH nn]) (rd:=none) cU RQ ⟨lA nn,trivial⟩ trivial (afW cU RQ (lA nn)) abW (λ_ _ _ h=>h) n h2
      .cases h2
    .cases h
   .cases h
  .cases h
 .cases h
theorem dF{ds f nt m0 v H1}{α:Type}(μ:α->Nat)(T:α->Tr AV)(M:α->AH)(todo)(I:α->Prop)(kh:∀a,I a->(∀b,I b->μ b<μ a->iw ds P f nt m0 v H1 (T b) (M b) todo)->iw ds P f nt m0 v H1 (T a) (M a) todo):∀a,I a->iw ds P f nt m0 v H1 (T a) (M a) todo:=by
 intro a;generalize hn:μ a=n;induction n using Nat.strongRecOn generalizing a with
 |_ n ih=>intro ha;exact kh a ha (λb hb ay=>ih (μ b) (by omega) b rfl hb)
def abx:bp:=λ_ _ _=>none
theorem alp:aS P abx:=by
 constructor
 .intro f args H p v H' _ h;cases h
 .intro args H p v H' h;cases h
def bR(f0:FuncId)(s:LV->AH->Option Sp)(S:bp):bp:=λf args H=>
 bif Nat.beq f f0 then s args H else S f args H
theorem xp{f0 s}(hS:aS P S)(h:∀args H sp p v H',s args H=some sp->tz sp=some (p,v,H')->p->bX P f0 args H v H')(cK:f0≠999999:=by first|assumption|decide):aS P (bR f0 s S):=by
 constructor
 .intro f args H p v H' hf hs hp;unfold pc bR at hs;cases hb:Nat.beq f f0
  .rw[hb]at hs;exact hS.1 f args H p v H' hf hs hp
  .rw[hb]at hs;have:=dw hb;subst this;simp at hs;split at hs;next sp h1=>exact h args H sp p v H' h1 hs hp
   .cases hs
 .intro args H p v H' hs hp;unfold pc bR at hs;have hb:Nat.beq 999999 f0=false:=by
   cases hb:Nat.beq 999999 f0 with
   |false=>rfl
   |true=>exact absurd (dw hb).symm cK
  rw[hb]at hs;exact hS.2 args H p v H' hs hp
theorem ap5{s}(hS:aS P S)(h:∀args H sp p v H',s args H=some sp->tz sp=some (p,v,H')->p->∃l a,args=[.gN l,a]/\BO P l a H v H'):aS P (bR 999999 s S):=by
 constructor
 .intro f args H p v H' hf hs hp;unfold pc bR at hs;have hb:Nat.beq f 999999=false:=by
   cases hb:Nat.beq f 999999 with
   |false=>rfl
   |true=>exact absurd (dw hb) hf
  rw[hb]at hs;exact hS.1 f args H p v H' hf hs hp
 .intro args H p v H' hs hp;unfold pc bR at hs;have hb:Nat.beq 999999 999999=true:=rfl;rw[hb]at hs;simp at hs;split at hs;next sp h1=>exact h args H sp p v H' h1 hs hp
  .cases hs
def YA(s:LV->AH->Option (Prop×AV×AH)):LV->AH->Option Sp:=λargs H=>
 match s args H with
 |some x=>some (.yU x)
 |none=>none
def fk(f0:FuncId)(s:LV->AH->Option (Prop×AV×AH))(S:bp):bp:=bR f0 (YA s) S
theorem EH{f0 s}(hS:aS P S)(h:∀args H p v H',s args H=some (p,v,H')->p->bX P f0 args H v H')(cK:f0≠999999:=by first|assumption|decide):aS P (fk f0 s S):=by
 refine xp hS λargs H sp p v H' h1 h2 hp=>?_
 unfold YA at h1;split at h1;next x hx=>cases h1;cases h2;exact h _ _ _ _ _ hx hp
 .cases h1
theorem acm{f0}{sN:Nat->LV->AH->Option (Prop×AV×AH)}(hS:aS P S)(h0:∀args H p v H',sN 0 args H=some (p,v,H')->¬p)(kh:∀N,aS P (fk f0 (sN N) S)->∀args H p v H',sN (N+1) args H=some (p,v,H')->p->bX P f0 args H v H')(cK:f0≠999999:=by first|assumption|decide):∀N,aS P (fk f0 (sN N) S)
 |0=>EH hS (λargs H p v H' h hp=>absurd hp (h0 args H p v H' h))
 |N+1=>EH hS (kh N (acm (cK:=cK) hS h0 kh N))
structure cq(W:Type)where
 bh:W->LV->AH->Prop
 v:W->AV
 aK:W->AH
def cq.ck{W:Type}(e:cq W):Prop:=∀w w' args H,e.bh w args H->e.bh w' args H->(e.v w,e.aK w)=(e.v w',e.aK w')
def bW{W:Type}(e:cq W)(h:e.ck)(ok:LV->AH->Bool):LV->AH->Option Sp:=λargs H=>
 bif ok args H then some (.ex W (λw=>(e.bh w args H,e.v w,e.aK w)) (λw w' h1 h2=>h w w' args H h1 h2))else none
theorem cu{f0 W}{e:cq W}{h1 ok}(hS:aS P S)(h:∀w args H,e.bh w args H->bX P f0 args H (e.v w) (e.aK w))(cK:f0≠999999:=by first|assumption|decide):aS P (bR f0 (bW e h1 ok) S):=by
 refine xp hS λargs H sp p v H' hs hd hp=>?_
 have⟨_,hs⟩:=Lu hs;cases hs;simp only[tz]at hd;by_cases hw:∃w,e.bh w args H
 .rw[dif_pos hw]at hd;cases hd;exact h _ _ _ hp
 .rw[dif_neg hw]at hd;cases hd
structure xj(W:Bool->Type)where
 bh:(b:Bool)->W b->LV->AH->Prop
 v:(b:Bool)->W b->AV
 aK:(b:Bool)->W b->AH
def xj.ck{W:Bool->Type}(e:xj W):Prop:=∀b w b' w' args H,e.bh b w args H->e.bh b' w' args H->(e.v b w,e.aK b w)=(e.v b' w',e.aK b' w')
def Ij{W:Bool->Type}(e:xj W)(h:e.ck):LV->AH->Option Sp:=λargs H=>
 some (.Q0 W (λb w=>(e.bh b w args H,e.v b w,e.aK b w)) (λb w b' w' h1 h2=>h b w b' w' args H h1 h2))
theorem Xt{f0 W}{e:xj W}{h1}(hS:aS P S)(h:∀b w args H,e.bh b w args H->bX P f0 args H (e.v b w) (e.aK b w))(cK:f0≠999999:=by first|assumption|decide):aS P (bR f0 (Ij e h1) S):=by
 refine xp hS λargs H sp p v H' hs hd hp=>?_
 cases hs;simp only[tz]at hd;by_cases hw:∃p:(b:Bool)×W b,e.bh p.1 p.2 args H
 .rw[dif_pos hw]at hd;cases hd;exact h _ _ _ _ hp
 .rw[dif_neg hw]at hd;cases hd
theorem amn{f0 W}{e:Nat->xj W}{h1:∀N,(e N).ck}(hS:aS P S)(h0:∀b w args H,¬(e 0).bh b w args H)(kh:∀N,aS P (bR f0 (Ij (e N) (h1 N)) S)->∀b w args H,(e (N+1)).bh b w args H->bX P f0 args H ((e (N+1)).v b w) ((e (N+1)).aK b w))(cK:f0≠999999:=by first|assumption|decide):∀N,aS P (bR f0 (Ij (e N) (h1 N)) S)
 |0=>Xt hS (λb w args H hp=>absurd hp (h0 b w args H))
 |N+1=>Xt hS (kh N (amn (cK:=cK) hS h0 kh N))
theorem ap4{W}{e:cq W}{h1 ok}(hS:aS P S)(h:∀w args H,e.bh w args H->∃l a,args=[.gN l,a]/\BO P l a H (e.v w) (e.aK w)):aS P (bR 999999 (bW e h1 ok) S):=by
 refine ap5 hS λargs H sp p v H' hs hd hp=>?_
 have⟨_,hs⟩:=Lu hs;cases hs;simp only[tz]at hd;by_cases hw:∃w,e.bh w args H
 .rw[dif_pos hw]at hd;cases hd;exact h _ _ _ hp
 .rw[dif_neg hw]at hd;cases hd
theorem yl{f0 W}{e:Nat->cq W}{h1:∀N,(e N).ck}{ok}(hS:aS P S)(h0:∀w args H,¬(e 0).bh w args H)(kh:∀N,aS P (bR f0 (bW (e N) (h1 N) ok) S)->∀w args H,(e (N+1)).bh w args H->bX P f0 args H ((e (N+1)).v w) ((e (N+1)).aK w))(cK:f0≠999999:=by first|assumption|decide):∀N,aS P (bR f0 (bW (e N) (h1 N) ok) S)
 |0=>cu hS (λw args H hp=>absurd hp (h0 w args H))
 |N+1=>cu hS (kh N (yl (cK:=cK) hS h0 kh N))
end
end
end
end Go.Ev
namespace Go.Ev
noncomputable section
variable{xx:Option XH}
def lu(g n:Nat)(i:Nat):Option Nat:=if i=g then some n else if i=n then none else some i
def Ju(g n:Nat)(φ:cn):cn:=⟨λi=>if i=n then φ g else φ i,φ.ro,φ.xs⟩
structure Mv(H H1:AH)(g:Nat):Prop where
 aA:∃vs el,H.bc g=some (.aA vs el)/\H1.bc H.bx=some (.aA vs el)
 bm:H1.bc g=some (.bm [])
 next:H1.bx=H.bx+1
 abR:∀id bE,id≠g->id≠H.bx->H1.bc id=some bE->∃ob,H.bc id=some ob/\lX (lu g H.bx) ob=some bE
 x:H1.x=H.x
theorem Mv.wr{φ bs H H1 g w}(hm:Mv H H1 g)(hw:WR φ bs H w):
 WR (Ju g H.bx φ) bs H1 w/\tj (lu g H.bx) φ (Ju g H.bx φ):=by
 have⟨vs,el,hg,hn⟩:=hm.aA;have FG:=hw.nx _ _ hg;have hr:tj (lu g H.bx) φ (Ju g H.bx φ):=by
  refine⟨λa c h=>?_,λ_ _ h=>h,λ_ _ h=>h⟩;unfold lu at h;split at h;next ZX=>cases h;subst ZX;exact aL rfl
  .split at h
   .cases h
   next h1 h2=>cases h;exact az h2
 have my:∀{id ob e},H1.bc id=some ob->ob.aR=true->(if id=H.bx then φ g else φ id)=some e->
  ∃j ef,H.bc j=some ef/\ef.aR=true/\φ j=some e/\id=(if j=g then H.bx else j):=by
  intro id ob e ho hl he;by_cases h1:id=H.bx
  .rw[aL h1]at he;exact⟨g,_,hg,rfl,he,by rw[aL rfl,h1]⟩
  .rw[az h1]at he;by_cases h2:id=g
   .subst h2;rw[hm.bm]at ho;cases ho;cases hl
   .have⟨ef,h3,h4⟩:=hm.abR id ob h2 h1 ho;exact⟨id,ef,h3,by rw[<-Ob h4];exact hl,he,by rw[az h2]⟩
 refine⟨⟨?_,?_,?_,?_,hw.s8 rfl rfl hm.x (λ_ _=>rfl) λid ob e h1 l1 h2=>.inl ?_⟩,hr⟩
 .intro id ob e ho CJ;have he:(if id=H.bx then φ g else φ id)=some e:=CJ;by_cases h1:id=H.bx
  .subst h1;rw[aL rfl]at he;rw[hn]at ho;cases ho;have⟨o,k1,k2⟩:=hw.eI g _ e hg he;exact⟨o,k1,k2⟩
  .rw[az h1]at he;by_cases h2:id=g
   .subst h2;rw[hm.bm]at ho;cases ho;have:=(hw.lt id e he).1;exact⟨w.heap[e.b]'this,Bn _,trivial⟩
   .have⟨ef,h3,h4⟩:=hm.abR id ob h2 h1 ho;have⟨o,k1,k2⟩:=hw.eI id ef e h3 he;exact⟨o,k1,acq hr h4 k2⟩
 .intro id iq ob bE e e' h1 l1 h2 h3 l2 h4 hb;obtain⟨j,o,a1,a2,a3,rfl⟩:=my h1 l1 h2;obtain⟨j',o',b1,b2,b3,rfl⟩:=my h3 l2 h4;have:=hw.ji j j' o o' e e' a1 a2 a3 b1 b2 b3 hb;rw[this]
 .intro id e CJ;have he:(if id=H.bx then φ g else φ id)=some e:=CJ;rw[hm.next];by_cases h1:id=H.bx
  .rw[aL h1]at he;have:=hw.lt g e he;exact⟨this.1,this.2.1,by omega⟩
  .rw[az h1]at he;have:=hw.lt id e he;exact⟨this.1,this.2.1,by omega⟩
 .intro id ob ho;rw[hm.next];by_cases h1:id=H.bx
  .omega
  .by_cases h2:id=g
   .omega
   .have⟨ef,h3,_⟩:=hm.abR id ob h2 h1 ho;have:=hw.nx id ef h3;omega
 .have⟨j,ef,a1,a2,a3,_⟩:=my h1 l1 h2;exact⟨j,ef,e,a1,a2,a3,rfl⟩
theorem E_{P f args H0 H H1 v v1 g}(h:bX P f args H0 v H)(hm:Mv H H1 g)(hv:eM (lu g H.bx) v=some v1)(hn:H0.bx<=H.bx):bX P f args H0 v1 H1:=by
 intro φ w bs args' cs ha hw hl;have⟨aQ,w',g1,g2,g3,g4⟩:=h φ w bs args' cs ha hw hl;have:=hm.wr g1;refine⟨_,w',this.1,g2.rr ⟨λid dv=>az (show¬id=H.bx by omega),λ_ _ h=>h,λ_ _ h=>h⟩,⟨g3.1,g3.2.qB (.of hm.x rfl)⟩,?_⟩
 .exact g4.DP this.2 hv
def cR:List (Nat×bf)->Nat->Option bf
 |[],_=>none
 |(s,a)::l,i=>if i=s then some a else cR l i
theorem ak1:∀l i,(SU l).bZ i=cR l i
 |[],i=>rfl
 |(s,a)::l,i=>by
  simp only[SU,cR];by_cases h:i=s
  .subst h;rw[aL rfl,Tr.kM];simp
  .rw[az h,<-ak1 l i,Tr.kM];simp[h]
theorem ey(l n i):(eA xx l n).bc i=cR l i:=ak1 l i
end
end Go.Ev
namespace Go.Ev
noncomputable section
variable{xx:Option XH}
theorem Pp{φ ψ}:∀{l m},lx l=true->jZ φ l m->jZ ψ l m
 |[],m,_,h=>h
 |x::l,m,hp,h=>by simp only[lx,dc]at hp;obtain⟨y,ys,rfl,h1,h2⟩:=h;refine⟨y,ys,rfl,?_,Pp hp.2 h2⟩;cases x<;>first|exact h1|(simp[NP]at hp)
theorem Z9{ds P f nt m0 v H1 H H' t t' todo g}(h:iw ds P f nt m0 v H1 t' H' todo)(hm:Mv H H' g)(hp:lx todo=true)(ht:∀i a',t'.bZ i=some a'->∃a,t.bZ i=some a/\eM (lu g H.bx) a=some a')(gC:pd m0 ds):iw ds P f nt m0 v H1 t H todo:=by
 have⟨r,hq,hr⟩:=h;refine⟨r,hq,λφ w bs cv cs cA hw hl hf=>?_⟩;have CQ:=hm.wr hw;have jn:jj m0 φ (Ju g H.bx φ):=⟨λid dv=>az (show¬id=H.bx by omega),λ_ _ h=>h,λ_ _ h=>h⟩;have mR:uC (Ju g H.bx φ) (fS ds none f nt t' todo) cv:=by
  have⟨b,a,OL,e1,e2,e3⟩:=hf;refine⟨b,a,OL,e1,⟨e2.fn,⟨e2.tr.1,λi a' ha=>?_⟩,?_,e2.jY,e2.kF,e2.pW⟩,Pp hp e3⟩
  .have⟨a0,h1,h2⟩:=ht i a' ha;have⟨x,h3,h4⟩:=e2.tr.2 i a0 h1;exact⟨x,h3,se CQ.2 h2 h4⟩
  .exact BL jn gC e2.dr
 have⟨aQ,w',g1,g2,g3,g4⟩:=hr _ w bs cv cs (by rw[hm.next];omega) CQ.1 hl mR;exact⟨aQ,w',g1,jn.rr g2,⟨g3.1,(nB.of hm.x rfl).qB g3.2⟩,g4⟩
theorem uT{P f nt m0 v H1 H H' t t' todo g}(h:bu P f nt m0 v H1 t' H' todo)(hm:Mv H H' g)(ht:∀i a',t'.bZ i=some a'->∃a,t.bZ i=some a/\eM (lu g H.bx) a=some a')(hp:lx todo=true:=by kernel_rfl):bu P f nt m0 v H1 t H todo:=
 Z9 h hm hp ht (B_ _)
end
end Go.Ev
namespace Go.Ev
noncomputable section
variable{xx:Option XH}
def SY(g n:Nat):List (Nat×bf)->Option (List (Nat×bf))
 |[]=>some []
 |(s,a)::l=>match SY g n l with
  |none=>none
  |some l'=>if s=g then some ((s,.bm [])::l')else match lX (lu g n) a with
   |some a'=>some ((s,a')::l')
   |none=>none
theorem ak6{g n}:∀{l l'},SY g n l=some l'->
 (∀id,id≠g->(cR l id=none->cR l' id=none)/\∀bE,cR l' id=some bE->∃ob,cR l id=some ob/\lX (lu g n) ob=some bE)/\∀x,cR l g=some x->cR l' g=some (.bm [])
 |[],l',h=>by cases h;exact⟨λid _=>⟨λ_=>rfl,λbE h=>by cases h⟩,λx h=>by cases h⟩
 |(s,a)::l,l',h=>by
  simp only[SY]at h;split at h
  .cases h
  next l1 h1=>
   have⟨k1,k2⟩:=ak6 h1;split at h;next hs=>cases h;subst hs;refine⟨λid dv=>?_,λx _=>by simp[cR]⟩;simp only[cR,az dv];exact k1 id dv
   next hs=>
    split at h;next a' ha=>
     cases h;refine⟨λid dv=>?_,λx hx=>?_⟩
     .simp only[cR];by_cases hi:id=s
      .subst hi;simp only[if_true];exact⟨λh=>(by cases h),λbE h=>(by cases h;exact⟨a,rfl,ha⟩)⟩
      .simp only[az hi];exact k1 id dv
     .simp only[cR]at hx⊢;have:¬g=s:=λe=>hs e.symm
      rw[az this]at hx⊢;exact k2 x hx
    .cases h
theorem F5:∀l m i,cR (l++m) i=(match cR l i with|some x=>some x|none=>cR m i)
 |[],m,i=>rfl
 |(s,a)::l,m,i=>by
  simp only[oC,cR];split
  .rfl
  .exact F5 l m i
theorem qk{g n l l' vs el}(h:SY g n l=some l')(hg:cR l g=some (.aA vs el))(hn:cR l n=none):
 Mv (eA xx l n) (eA xx (l'++[(n,.aA vs el)]) (n+1)) g:=by
 have⟨k1,k2⟩:=ak6 h;have FG:n≠g:=by rintro rfl;rw[hg]at hn;cases hn
 refine⟨⟨vs,el,by rw[ey];exact hg,?_⟩,?_,rfl,?_,rfl⟩
 .show(eA xx _ _).bc n=_;rw[ey,F5,(k1 n FG).1 hn];simp[cR]
 .rw[ey,F5,k2 _ hg]
 .intro id bE h1 h2 h3;have h2:id≠n:=h2;rw[ey,F5]at h3;rw[ey];cases hl:cR l' id with
  |none=>rw[hl]at h3;simp[cR,h2]at h3
  |some x=>rw[hl]at h3;cases h3;exact(k1 id h1).2 _ hl
end
end Go.Ev
namespace Go.Ev
noncomputable section
variable{xx:Option XH}
def zw:List (Nat×AV)->Nat->Option AV
 |[],_=>none
 |(s,a)::l,i=>if i=s then some a else zw l i
theorem nU:∀l i,(bg l).bZ i=zw l i
 |[],i=>rfl
 |(s,a)::l,i=>by
  simp only[bg,zw];by_cases h:i=s
  .subst h;rw[aL rfl,Tr.kM];simp
  .rw[az h,<-nU l i,Tr.kM];simp[h]
theorem wz{l g n i a}(hi:(bg l).bZ i=some a)(h:∀x∈l,eM (lu g n) x.2=some x.2):eM (lu g n) a=some a:=by
 rw[nU]at hi;induction l with
 |nil=>cases hi
 |cons x l ih=>
  have⟨s,b⟩:=x;simp only[zw]at hi;split at hi
  .cases hi;exact h (s,a) (by simp)
  .exact ih hi (λy hy=>h y (by simp[hy]))
end
end Go.Ev
namespace Go.Ev
noncomputable section
variable{xx:Option XH}
def lL(m0:Nat)(H H':AH)(R:cn->cn->Prop):Prop:=
 H.bx<=H'.bx/\∀φ bs w,m0<=H.bx->WR φ bs H w->∃aQ,WR aQ bs H' w/\(jj m0 φ aQ/\nB φ H aQ H')/\R φ aQ
theorem MB{ds P f nt m0 v H1 H H' t t' todo R}(h:iw ds P f nt m0 v H1 t' H' todo)(hm:lL m0 H H' R)(hp:lx todo=true)(ht:∀φ aQ,R φ aQ->∀i a',t'.bZ i=some a'->∃a,t.bZ i=some a/\∀x,VR φ a x->VR aQ a' x)(gC:pd m0 ds):iw ds P f nt m0 v H1 t H todo:=by
 have⟨r,hq,hr⟩:=h;refine⟨r,hq,λφ w bs cv cs cA hw hl hf=>?_⟩;have⟨hn,hm⟩:=hm;have⟨kV,k1,k2,k3⟩:=hm φ bs w cA hw;have mR:uC kV (fS ds none f nt t' todo) cv:=by
  have⟨b,a,OL,e1,e2,e3⟩:=hf;refine⟨b,a,OL,e1,⟨e2.fn,⟨e2.tr.1,λi a' ha=>?_⟩,?_,e2.jY,e2.kF,e2.pW⟩,Pp hp e3⟩
  .have⟨a0,h1,h2⟩:=ht φ kV k3 i a' ha;have⟨x,h3,h4⟩:=e2.tr.2 i a0 h1;exact⟨x,h3,h2 x h4⟩
  .exact BL k2.1 gC e2.dr
 have⟨aQ,w',g1,g2,g3,g4⟩:=hr kV w bs cv cs (by omega) k1 hl mR;exact⟨aQ,w',g1,k2.1.rr g2,⟨g3.1,k2.2.qB g3.2⟩,g4⟩
theorem ai3{P f nt m0 v H1 H H' t t' todo R}(h:bu P f nt m0 v H1 t' H' todo)(hm:lL m0 H H' R)(hp:lx todo=true)(ht:∀φ aQ,R φ aQ->∀i a',t'.bZ i=some a'->∃a,t.bZ i=some a/\∀x,VR φ a x->VR aQ a' x):bu P f nt m0 v H1 t H todo:=
 MB h hm hp ht (B_ _)
theorem Cf{P f args H0 H H1 v v1 R}(h:bX P f args H0 v H)(hm:lL H0.bx H H1 R)(cA:H0.bx<=H.bx)(hv:∀φ aQ,R φ aQ->∀x,VR φ v x->VR aQ v1 x)(qh:jx v=.gG v:=by rfl):bX P f args H0 v1 H1:=by intro φ w bs args' cs ha hw hl;have⟨aQ,w',g1,g2,g3,g4⟩:=h φ w bs args' cs ha hw hl;have⟨hn,hm⟩:=hm;have⟨kV,k1,k2,k3⟩:=hm aQ bs w' cA g1;refine⟨kV,w',k1,g2.rr k2.1,⟨g3.1,g3.2.qB k2.2⟩,?_⟩;rw[qh]at g4;obtain⟨j7,e',⟨v',rfl,j1⟩,j2⟩:=g4;exact pV.ret ⟨j7,_,⟨v',rfl,hv _ _ k3 _ j1⟩,j2⟩
theorem lR{P f args H0 H H2 v v2 ps}(h:bX P f args H0 v H)(hv:mB H0.bx (wo v) H=some ⟨ps,H2⟩:=by kernel_rfl)(hr:eM (iK ps) v=some v2:=by kernel_rfl):bX P f args H0 v2 H2:=by intro φ w bs args' cs ha hw hl;have⟨aQ,w',g1,g2,g3,g4⟩:=h φ w bs args' cs ha hw hl;obtain⟨tt,n,rfl,aZ,jA,jn⟩:=BI hv;exact⟨jf ps aQ,w',g1.tb aZ jA,g2.rr ⟨λid dv=>by simp[jf,jn id dv],λ_ _ h=>h,λ_ _ h=>h⟩,⟨g3.1,g3.2.qB (.of rfl rfl)⟩,g4.DP (yc aZ aQ) hr⟩
theorem afr{φ}:∀{k vs l},br φ vs l->br φ (vs.drop k) (l.drop k)
 |0,_,_,h=>h
 |k+1,[],l,h=>by cases h;simp[br]
 |k+1,a::vs,l,h=>by obtain⟨v,l',rfl,_,h2⟩:=h;exact afr (k:=k) h2
theorem afu{φ}:∀{k vs l},br φ vs l->br φ (vs.take k) (l.take k)
 |0,_,_,h=>by simp[br]
 |k+1,[],l,h=>by cases h;simp[br]
 |k+1,a::vs,l,h=>by obtain⟨v,l',rfl,h1,h2⟩:=h;exact⟨v,l'.take k,rfl,h1,afu h2⟩
def LF(g k n:Nat):AV->Option AV
 |.bw id off len cap sz ex=>if id=g then(if off=k/\ex=false then some (.aj n len sz)else none)else some (.bw id off len cap sz ex)
 |.aa id off=>if id=g then none else some (.aa id off)
 |.aj id len sz=>if id=g then none else some (.aj id len sz)
 |a=>some a
def HU(g k n:Nat):LV->Option LV
 |[]=>some []
 |a::l=>match LF g k n a,HU g k n l with
  |some a',some l'=>some (a'::l')
  |_,_=>none
def EV(g k n:Nat):bf->Option bf
 |.al vs e=>match HU g k n vs with|some l=>some (.al l e)|none=>none
 |o=>some o
def Qw(g k n:Nat):List (Nat×bf)->Option (List (Nat×bf))
 |[]=>some []
 |(s,a)::l=>match Qw g k n l with
  |none=>none
  |some l'=>if s=g then some ((s,.bm [])::l')else match EV g k n a with
   |some a'=>some ((s,a')::l')
   |none=>none
def AD(g k n:Nat)(φ:cn):cn:=⟨λi=>if i=n then(φ g).map (λe=>⟨e.b,e.o+k,e.n⟩)else φ i,φ.ro,φ.xs⟩
theorem AE(g k n φ i):AD g k n φ i=if i=n then(φ g).map (λe=>⟨e.b,e.o+k,e.n⟩)else φ i:=rfl
theorem YB{g k n φ}(h:φ n=none):dE φ (AD g k n φ):=by refine⟨λid e he=>?_,λ_ _ h=>h,λ_ _ h=>h⟩;rw[AE];rw[az (by rintro rfl;rw[h]at he;cases he)];exact he
theorem ar9{g k n φ}(h:φ n=none){a a' v}(ha:LF g k n a=some a')(hv:VR φ a v):VR (AD g k n φ) a' v:=by
 have hp:=YB (g:=g) (k:=k) h;unfold LF at ha;split at ha
 .split at ha;next hg=>
   subst hg;split at ha;next hk=>obtain⟨rfl,rfl⟩:=hk;cases ha;have⟨e,x,c,h1,h2,h3,h4,h5,h6⟩:=hv;refine .inr ⟨⟨e.b,e.o+_,e.n⟩,x,c,?_,h2,h3,h4,h6⟩;rw[AE];rw[aL rfl,h1];rfl
   .cases ha
  .cases ha;exact VR.ez hp _ _ hv
 .split at ha
  .cases ha
  .cases ha;exact VR.ez hp _ _ hv
 .split at ha
  .cases ha
  .cases ha;exact VR.ez hp _ _ hv
 .cases ha;exact VR.ez hp _ _ hv
theorem agU{g k n φ}(h:φ n=none):∀{l l' vs},HU g k n l=some l'->br φ l vs->br (AD g k n φ) l' vs
 |[],l',vs,h1,h2=>by cases h1;exact h2
 |a::l,l',vs,h1,h2=>by
  simp only[HU]at h1;split at h1;next a1 l1 e1 e2=>cases h1;obtain⟨v,eF,rfl,k1,k2⟩:=h2;exact⟨v,eF,rfl,ar9 h e1 k1,agU h e2 k2⟩
  .cases h1
theorem ar8{g k n a a'}(ha:LF g k n a=some a'):a'.cY=a.cY:=by
 unfold LF at ha;split at ha
 .split at ha
  .split at ha
   .cases ha;rfl
   .cases ha
  .cases ha;rfl
 .split at ha
  .cases ha
  .cases ha;rfl
 .split at ha
  .cases ha
  .cases ha;rfl
 .cases ha;rfl
theorem agT{g k n}:∀{l l'},HU g k n l=some l'->l'.length=l.length/\l'.all AV.cY=l.all AV.cY
 |[],l',h=>by cases h;exact⟨rfl,rfl⟩
 |a::l,l',h=>by
  simp only[HU]at h;split at h;next a1 l1 e1 e2=>cases h;have:=agT e2;exact⟨by simp[this.1],by simp[this.2,ar8 e1]⟩
  .cases h
theorem asb{g k n φ}(h:φ n=none){ob bE e o}(ho:EV g k n ob=some bE)(hr:OR φ ob e o):OR (AD g k n φ) bE e o:=by
 unfold EV at ho;split at ho
 .split at ho;next l hl=>cases ho;have⟨cs,el,h1,h2,h3,h4,h5⟩:=hr;have iH:=agT hl;exact⟨cs,el,h1,h2,by rw[iH.1];exact h3,by rw[iH.1];exact agU h hl h4,by rw[iH.2];exact h5⟩
  .cases ho
 .cases ho;exact OR.tg (YB h) hr
theorem asa{g k n ob bE}(ho:EV g k n ob=some bE):bE.aR=ob.aR:=by
 unfold EV at ho;split at ho
 .split at ho
  .cases ho;rfl
  .cases ho
 .cases ho;rfl
theorem agV{g k n}:∀{l l'},Qw g k n l=some l'->
 (∀id,id≠g->(cR l id=none->cR l' id=none)/\∀bE,cR l' id=some bE->∃ob,cR l id=some ob/\EV g k n ob=some bE)/\∀x,cR l g=some x->cR l' g=some (.bm [])
 |[],l',h=>by cases h;exact⟨λid _=>⟨λ_=>rfl,λbE h=>by cases h⟩,λx h=>by cases h⟩
 |(s,a)::l,l',h=>by
  simp only[Qw]at h;split at h
  .cases h
  next l1 h1=>
   have⟨k1,k2⟩:=agV h1;split at h;next hs=>cases h;subst hs;refine⟨λid dv=>?_,λx _=>by simp[cR]⟩;simp only[cR,az dv];exact k1 id dv
   next hs=>
    split at h;next a' ha=>
     cases h;refine⟨λid dv=>?_,λx hx=>?_⟩
     .simp only[cR];by_cases hi:id=s
      .subst hi;simp only[if_true];exact⟨λh=>(by cases h),λbE h=>(by cases h;exact⟨a,rfl,ha⟩)⟩
      .simp only[az hi];exact k1 id dv
     .simp only[cR]at hx⊢;have:¬g=s:=λe=>hs e.symm
      rw[az this]at hx⊢;exact k2 x hx
    .cases h
theorem aw4{m0 g k n l l' vs el}(h:Qw g k n l=some l')(hg:cR l g=some (.aA vs el))(hn:cR l n=none)(hk:k<=vs.length):
 lL m0 (eA xx l n) (eA xx (l'++[(n,.aA (vs.drop k) el)]) (n+1)) (λφ aQ=>φ n=none/\aQ=AD g k n φ):=by
 have⟨k1,k2⟩:=agV h;refine⟨Nat.le_succ n,λφ bs w cA hw=>?_⟩;have cA:m0<=n:=cA;have ajG:φ n=none:=by
  cases hp:φ n with
  |none=>rfl
  |some e=>have:=(hw.lt n e hp).2.2;exact absurd this (Nat.lt_irrefl n)
 have FG:n≠g:=by rintro rfl;rw[hg]at hn;cases hn
 have dn:∀id,(eA xx (l'++[(n,.aA (vs.drop k) el)]) (n+1)).bc id=(match cR l' id with|some x=>some x|none=>if id=n then some (.aA (vs.drop k) el)else none):=by intro id;rw[ey,F5];rfl
 have my:∀{id ob},(eA xx (l'++[(n,.aA (vs.drop k) el)]) (n+1)).bc id=some ob->(id=g/\ob=.bm [])\/(id=n/\ob=.aA (vs.drop k) el)\/(id≠g/\id≠n/\∃ef,cR l id=some ef/\EV g k n ef=some ob):=by
  intro id ob ho;rw[dn]at ho;by_cases h1:id=g
  .subst h1;rw[k2 _ hg]at ho;cases ho;exact .inl ⟨rfl,rfl⟩
  .by_cases h2:id=n
   .subst h2;rw[(k1 id h1).1 hn]at ho;simp at ho;exact .inr (.inl ⟨rfl,ho.symm⟩)
   .cases hl:cR l' id with
    |none=>rw[hl]at ho;simp[h2]at ho
    |some x=>rw[hl]at ho;cases ho;exact .inr (.inr ⟨h1,h2,(k1 id h1).2 _ hl⟩)
 have jA:∀id,(eA xx l n).bc id=cR l id:=ey l n;have JK:∀{id ob e},(eA xx (l'++[(n,.aA (vs.drop k) el)]) (n+1)).bc id=some ob->ob.aR=true->AD g k n φ id=some e->
  ∃j ef e0,(eA xx l n).bc j=some ef/\ef.aR=true/\φ j=some e0/\e0.b=e.b/\id=(if j=g then n else j):=by
  intro id ob e ho hl he;rcases my ho with⟨h1,h2⟩|⟨h1,h2⟩|⟨h1,h2,ef,h3,h4⟩
  .subst h2;cases hl
  .subst h1;rw[AE]at he;rw[aL rfl]at he;have⟨e0,h5,h6⟩:=DJ.1 he;exact⟨g,_,e0,(jA g).trans hg,rfl,h5,by rw[<-h6],by rw[aL rfl]⟩
  .rw[AE]at he;rw[az h2]at he;exact⟨id,ef,e,(jA id).trans h3,by rw[<-asa h4];exact hl,he,rfl,by rw[az h1]⟩
 refine⟨AD g k n φ,⟨?_,?_,?_,?_,hw.s8 rfl rfl rfl (λ_ _=>rfl) λid ob e h1 l1 h2=>.inl ?_⟩,⟨⟨λid dv=>?_,λ_ _ h=>h,λ_ _ h=>h⟩,.of rfl rfl⟩,ajG,rfl⟩
 .intro id ob e ho he;rcases my ho with⟨h1,h2⟩|⟨h1,h2⟩|⟨h1,h2,ef,h3,h4⟩
  .subst h2;have hb:e.b<w.heap.size:=by
    rw[AE]at he;split at he
    .have⟨e0,h5,h6⟩:=DJ.1 he;rw[<-h6];exact(hw.lt _ e0 h5).1
    .exact(hw.lt _ e he).1
   exact⟨w.heap[e.b]'hb,Bn hb,trivial⟩
  .subst h1 h2;rw[AE]at he;rw[aL rfl]at he;obtain⟨e0,h5,rfl⟩:=DJ.1 he;obtain⟨o,j1,cs,h_,rfl,cx,aji,jC,za⟩:=hw.eI g _ e0 ((jA g).trans hg) h5;refine⟨_,j1,cs,h_,rfl,cx,?_,?_,?_⟩
   .simp;omega
   .have:=afr (k:=k) jC;rw[zO,wM]at this;show br φ.pu _ _;simpa using this
   .rw[mq]at za⊢;exact λx hx=>za x (JT hx)
  .rw[AE]at he;rw[az h2]at he;have⟨o,j1,j2⟩:=hw.eI id ef e ((jA id).trans h3) he;exact⟨o,j1,asb ajG h4 j2⟩
 .intro id iq ob bE e e' h1 l1 h2 h3 l2 h4 hb;obtain⟨j,o,e0,a1,a2,a3,a4,rfl⟩:=JK h1 l1 h2;obtain⟨j',o',e0',b1,b2,b3,b4,rfl⟩:=JK h3 l2 h4;have:=hw.ji j j' o o' e0 e0' a1 a2 a3 b1 b2 b3 (by rw[a4,b4,hb]);rw[this]
 .intro id e he;rw[AE]at he;split at he;next h1=>obtain⟨e0,h5,rfl⟩:=DJ.1 he;have:=hw.lt _ e0 h5;exact⟨this.1,this.2.1,by subst h1;exact lA _⟩
  .have:=hw.lt _ e he;exact⟨this.1,this.2.1,DM this.2.2⟩
 .intro id ob ho;rcases my ho with⟨h1,h2⟩|⟨h1,h2⟩|⟨h1,h2,ef,h3,h4⟩
  .subst h1;exact DM (hw.nx id _ ((jA id).trans hg))
  .subst h1;exact lA _
  .exact DM (hw.nx id _ ((jA id).trans h3))
 .have⟨j,o,e0,a1,a2,a3,a4,_⟩:=JK h1 l1 h2;exact⟨j,o,e0,a1,a2,a3,a4⟩
 .rw[AE];rw[az (by omega)]
end
end Go.Ev
namespace Go.Ev
noncomputable section
variable{xx:Option XH}
def wZ(g:Nat):AV->AV
 |.bw id off len cap sz ex=>bif Nat.beq id g&&Nat.beq off 0 then .aj id len sz else .bw id off len cap sz ex
 |a=>a
def GL(g:Nat):LV->LV
 |[]=>[]
 |a::l=>wZ g a::GL g l
def GM(g:Nat):bf->bf
 |.al vs e=>.al (GL g vs) e
 |o=>o
def Ad(g:Nat)(new:bf):List (Nat×bf)->List (Nat×bf)
 |[]=>[]
 |(s,a)::l=>(s,bif Nat.beq s g then new else GM g a)::Ad g new l
theorem adF{g φ a v}(hv:VR φ a v):VR φ (wZ g a) v:=by
 unfold wZ;split;next id off len cap sz ex=>
  cases hc:Nat.beq id g&&Nat.beq off 0
  .exact hv
  .simp only[dc]at hc;have h0:=dw hc.2;subst h0;simp;have⟨e,x,c,h1,h2,h3,h4,h5,h6⟩:=hv;exact .inr ⟨e,x,c,h1,h2,h3,h4,h6⟩
 .exact hv
theorem aGo(g a):(wZ g a).cY=a.cY:=by
 unfold wZ;split;next id off len cap sz ex=>cases hc:Nat.beq id g&&Nat.beq off 0<;>rfl
 .rfl
theorem aoO{g φ}:∀{l vs},br φ l vs->br φ (GL g l) vs
 |[],_,h=>h
 |a::l,_,h=>by obtain⟨v,eF,rfl,k1,k2⟩:=h;exact⟨v,eF,rfl,adF k1,aoO k2⟩
theorem aoN(g):∀l:LV,(GL g l).length=l.length/\(GL g l).all AV.cY=l.all AV.cY
 |[]=>⟨rfl,rfl⟩
 |a::l=>by have:=aoN g l;exact⟨by simp[GL,this.1],by simp[GL,this.2,aGo]⟩
theorem aGp{g φ ob e o}(h:OR φ ob e o):OR φ (GM g ob) e o:=by
 unfold GM;split;next vs kL=>have⟨cs,el,h1,h2,h3,h4,h5⟩:=h;have iH:=aoN g vs;exact⟨cs,el,h1,h2,by rw[iH.1];exact h3,by rw[iH.1];exact aoO h4,by rw[iH.2];exact h5⟩
 .exact h
theorem aoP(g ob):(GM g ob).aR=ob.aR:=by unfold GM;split<;>rfl
theorem Kh{g new}:∀{l id bE},cR (Ad g new l) id=some bE->∃ob,cR l id=some ob/\((id=g/\bE=new)\/bE=GM g ob)
 |[],id,bE,h=>by cases h
 |(s,a)::l,id,bE,h=>by
  simp only[Ad,cR]at h⊢;by_cases hi:id=s
  .subst hi;rw[aL rfl]at h⊢;cases h;refine⟨a,rfl,?_⟩;cases hb:Nat.beq id g
   .exact .inr rfl
   .exact .inl ⟨dw hb,rfl⟩
  .rw[az hi]at h⊢;exact Kh h
theorem Nt{m0 g n l old new}(hg:cR l g=some old)(ho:∀φ e o,OR φ old e o->OR φ new e o)(mT:old.aR=true):
 lL m0 (eA xx l n) (eA xx (Ad g new l) n) (λφ aQ=>aQ=φ):=by
 refine⟨cE n,λφ bs w cA hw=>⟨φ,⟨?_,?_,?_,?_,hw.s8 rfl rfl rfl (λ_ _=>rfl) λid ob e h1 l1 h2=>.inl ?_⟩,⟨jj.Aj _ _,.of rfl rfl⟩,rfl⟩⟩
 .intro id ob e h1 h2;rw[ey]at h1;have⟨ef,h3,h4⟩:=Kh h1;have⟨o,h5,h6⟩:=hw.eI id ef e (by rw[ey];exact h3) h2;refine⟨o,h5,?_⟩;rcases h4 with⟨rfl,rfl⟩|rfl
  .rw[hg]at h3;cases h3;exact ho _ _ _ h6
  .exact aGp h6
 .intro id iq ob bE e e' h1 l1 h2 h3 l2 h4 hb;rw[ey]at h1 h3;have⟨o1,k1,k2⟩:=Kh h1;have⟨o2,k3,k4⟩:=Kh h3;have aR:∀{id ob ef},cR l id=some ef->((id=g/\ob=new)\/ob=GM g ef)->ob.aR=true->ef.aR=true:=by
   intro id ob ef q1 q2 q3;rcases q2 with⟨rfl,rfl⟩|rfl
   .rw[hg]at q1;cases q1;exact mT
   .rwa[aoP]at q3
  exact hw.ji id iq o1 o2 e e' (by rw[ey];exact k1) (aR k1 k2 l1) h2 (by rw[ey];exact k3) (aR k3 k4 l2) h4 hb
 .exact hw.lt
 .intro id ob h1;rw[ey]at h1;have⟨o1,k1,_⟩:=Kh h1;exact hw.nx id o1 (by rw[ey];exact k1)
 .rw[ey]at h1;have⟨o1,k1,k2⟩:=Kh h1;refine⟨id,o1,e,by rw[ey];exact k1,?_,h2,rfl⟩;rcases k2 with⟨rfl,rfl⟩|rfl
  .rw[hg]at k1;cases k1;exact mT
  .rwa[aoP]at l1
theorem sB{φ vs el h_}(hp:vs.all eR=true){e o}(h:OR φ (.al vs el) e o):OR φ (.aA vs h_) e o:=by have⟨cs,kL,h1,h2,h3,h4,h5⟩:=h;exact⟨cs,kL,h1,h2,h3,br.xg _ _ (by rw[wF];exact hp) h4,h5⟩
theorem ae3{φ vs el h_}(k){e o}(h:OR φ (.aA vs el) e o):OR φ (.aA (vs.take k) h_) e o:=by
 have⟨cs,kL,h1,h2,h3,h4,h5⟩:=h;refine⟨cs,kL,h1,h2,?_,?_,?_⟩
 .simp;omega
 .have:=afu (k:=k) h4;rw[Bq]at this;simpa using this
 .rw[mq]at h5⊢;exact λx hx=>h5 x (Gh hx)
end
end Go.Ev
namespace Go.Ev
noncomputable section
variable{xx:Option XH}
theorem ak3{g i a'}:∀{l},(bg (l.map λx=>(x.1,wZ g x.2))).bZ i=some a'->∃a,(bg l).bZ i=some a/\a'=wZ g a
 |[],h=>by rw[nU]at h;cases h
 |(s,b)::l,h=>by
  rw[nU]at h;rw[nU];simp only[gZ,zw]at h⊢;by_cases hs:i=s
  .rw[aL hs]at h⊢;cases h;exact⟨b,rfl,rfl⟩
  .rw[az hs]at h⊢;rw[<-nU]at h⊢;exact ak3 h
theorem auR{ds P f nt m0 g n v H1 T l old new todo}(h:iw ds P f nt m0 v H1 (bg (T.map λx=>(x.1,wZ g x.2))) (eA xx (Ad g new l) n) todo)(hg:cR l g=some old)(ho:∀φ e o,OR φ old e o->OR φ new e o)(mT:old.aR=true)(hp:lx todo=true)(gC:pd m0 ds):
 iw ds P f nt m0 v H1 (bg T) (eA xx l n) todo:=by
 refine MB (gC:=gC) h (Nt hg ho mT) hp (λφ aQ hR i a' hi=>?_);subst hR;obtain⟨a,h1,rfl⟩:=ak3 hi;exact⟨a,h1,λx hx=>adF hx⟩
theorem zi{P f nt m0 g n v H1 T l old new todo}(h:bu P f nt m0 v H1 (bg (T.map λx=>(x.1,wZ g x.2))) (eA xx (Ad g new l) n) todo)(hg:cR l g=some old)(ho:∀φ e o,OR φ old e o->OR φ new e o)(mT:old.aR=true)(hp:lx todo=true:=by kernel_rfl):
 bu P f nt m0 v H1 (bg T) (eA xx l n) todo:=
 auR h hg ho mT hp (B_ _)
theorem Ia{P f args H0 v g n l old new}(h:bX P f args H0 v (eA xx l n))(hg:cR l g=some old)(ho:∀φ e o,OR φ old e o->OR φ new e o)(mT:old.aR=true)(cA:H0.bx<=n)(qh:jx v=.gG v:=by rfl):
 bX P f args H0 (wZ g v) (eA xx (Ad g new l) n):=
 Cf h (Nt hg ho mT) cA (λφ aQ hR x hx=>by subst hR;exact adF hx) qh
theorem F'{m0 n l}(ob)(hn:cR l n=none):lL m0 (eA xx l n) (eA xx (l++[(n,ob)]) (n+1)) (λφ aQ=>aQ=φ):=by
 refine⟨Nat.le_succ n,λφ bs w cA hw=>⟨φ,⟨?_,?_,?_,?_,hw.s8 rfl rfl rfl (λ_ _=>rfl) λid ob9 e h1 l1 h2=>.inl ?_⟩,⟨jj.Aj _ _,.of rfl rfl⟩,rfl⟩⟩;all_goals
  have hφ:φ n=none:=by
   cases hp:φ n with
   |none=>rfl
   |some e=>exact absurd (hw.lt n e hp).2.2 (Nat.lt_irrefl n)
 all_goals
  have eU:∀{id bE e},(eA xx (l++[(n,ob)]) (n+1)).bc id=some bE->φ id=some e->(eA xx l n).bc id=some bE:=by
   intro id bE e h1 h2;rw[ey,F5]at h1;rw[ey];cases hl:cR l id with
   |some x=>rw[hl]at h1;exact h1
   |none=>
    rw[hl]at h1;simp only[cR]at h1;split at h1;next dv=>rw[dv,hφ]at h2;cases h2
    .cases h1
 .intro id bE e h1 h2;exact hw.eI id bE e (eU h1 h2) h2
 .intro id iq o o' e e' h1 l1 h2 h3 l2 h4 hb;exact hw.ji id iq o o' e e' (eU h1 h2) l1 h2 (eU h3 h4) l2 h4 hb
 .intro id e h1;have:=hw.lt id e h1;exact⟨this.1,this.2.1,DM this.2.2⟩
 .intro id bE h1;rw[ey,F5]at h1;cases hl:cR l id with
  |some x=>exact DM (hw.nx id x (by rw[ey];exact hl))
  |none=>
   rw[hl]at h1;simp only[cR]at h1;split at h1;next dv=>rw[dv];exact lA n
   .cases h1
 .exact⟨id,ob9,e,eU h1 h2,l1,h2,rfl⟩
theorem qG{φ i sz x}(h:VR φ .aM x):VR φ (.aj i 0 sz) x:=by simp only[VR]at h⊢;exact .inl ⟨trivial,h⟩
theorem QO{P f args H0 n sz l t}(h:bX P f args H0 .aM (eA xx l n))(hn:cR l n=none)(cA:H0.bx<=n):
 bX P f args H0 (.aj n 0 sz) (eA xx (l++[(n,.aA [] t)]) (n+1)):=
 Cf h (F' _ hn) cA (λφ aQ hR x hx=>by subst hR;exact qG hx)
def Jy(n sz:Nat)(zV:LN):List (Nat×AV)->List (Nat×AV)
 |[]=>[]
 |(s,a)::l=>(s,match a with|.aM=>bif zV.any (Nat.beq s)then .aj n 0 sz else .aM|a=>a)::Jy n sz zV l
theorem ali{n sz i zV a'}:∀{l},(bg (Jy n sz zV l)).bZ i=some a'->∃a,(bg l).bZ i=some a/\∀φ x,VR φ a x->VR φ a' x
 |[],h=>by rw[nU]at h;cases h
 |(s,b)::l,h=>by
  rw[nU]at h;rw[nU];simp only[Jy,zw]at h⊢;by_cases hs:i=s
  .rw[aL hs]at h⊢;refine⟨b,rfl,λφ x hx=>?_⟩;split at h
   .cases hc:zV.any (Nat.beq s)
    .rw[hc]at h;cases h;exact hx
    .rw[hc]at h;cases h;exact qG hx
   .cases h;exact hx
  .rw[az hs]at h⊢;rw[<-nU]at h⊢;exact ali h
theorem auN{ds P f nt m0 n v H1 T l todo}(sz t zV)(h:iw ds P f nt m0 v H1 (bg (Jy n sz zV T)) (eA xx (l++[(n,.aA [] t)]) (n+1)) todo)(hn:cR l n=none)(hp:lx todo=true)(gC:pd m0 ds):
 iw ds P f nt m0 v H1 (bg T) (eA xx l n) todo:=by
 refine MB (gC:=gC) h (F' _ hn) hp (λφ aQ hR i a' hi=>?_);subst hR;have⟨a,h1,h2⟩:=ali hi;exact⟨a,h1,λx hx=>h2 _ x hx⟩
theorem AY{P f nt m0 n v H1 T l todo}(sz t zV)(h:bu P f nt m0 v H1 (bg (Jy n sz zV T)) (eA xx (l++[(n,.aA [] t)]) (n+1)) todo)(hn:cR l n=none)(hp:lx todo=true:=by kernel_rfl):
 bu P f nt m0 v H1 (bg T) (eA xx l n) todo:=
 auN sz t zV h hn hp (B_ _)
theorem IT{ds P f nt m0 v H1 H H' t todo}(h:iw ds P f nt m0 v H1 t H' todo)(hm:lL m0 H H' (λφ aQ=>aQ=φ))(hp:lx todo=true)(gC:pd m0 ds):iw ds P f nt m0 v H1 t H todo:=
 MB (gC:=gC) h hm hp (λφ aQ hR i a' hi=>by subst hR;exact⟨a',hi,λx hx=>hx⟩)
theorem rJ{P f nt m0 v H1 H H' t todo}(h:bu P f nt m0 v H1 t H' todo)(hm:lL m0 H H' (λφ aQ=>aQ=φ))(hp:lx todo=true:=by kernel_rfl):bu P f nt m0 v H1 t H todo:=
 IT h hm hp (B_ _)
theorem ayJ{P l a H0 H H1 v v1 R}(h:BO P l a H0 v H)(hm:lL H0.bx H H1 R)(cA:H0.bx<=H.bx)(hv:∀φ aQ,R φ aQ->∀x,VR φ v x->VR aQ v1 x)(qh:jx v=.gG v:=by rfl)(avd:jx v1=.gG v1:=by rfl):BO P l a H0 v1 H1:=by have⟨st,pe,fn,tmps,nt,p,assign,body,d,fr,h1,h2,h3⟩:=h;refine⟨st,pe,fn,tmps,nt,p,assign,body,d,fr,h1,h2,λφ w bs cv cs hw hl hf=>?_⟩;have⟨aQ,w',g1,g2,g3,g4⟩:=h3 φ w bs cv cs hw hl hf;have⟨hn,hm⟩:=hm;have⟨kV,k1,k2,k3⟩:=hm aQ bs w' cA g1;refine⟨kV,w',k1,g2.rr k2.1,⟨g3.1,g3.2.qB k2.2⟩,?_⟩;rw[qh]at g4;rw[avd];intro c cs' jN;have⟨v',j1,j2⟩:=g4 c cs' jN;exact⟨v',hv _ _ k3 _ j1,j2⟩
theorem axh{m0 g H H1}(hm:Mv H H1 g):lL m0 H H1 (λφ aQ=>aQ=Ju g H.bx φ):=
 ⟨by rw[hm.next];omega,λφ bs w cA hw=>⟨_,(hm.wr hw).1,⟨⟨λid dv=>az (show¬id=H.bx by omega),λ_ _ h=>h,λ_ _ h=>h⟩,.of hm.x rfl⟩,rfl⟩⟩
theorem ayK{P l a H0 H H1 b g}(h:BO P l a H0 (.au b) H)(hm:Mv H H1 g)(hn:H0.bx<=H.bx):BO P l a H0 (.au b) H1:=
 ayJ h (axh hm) hn (λφ aQ _ x hx=>by simpa[VR]using hx)
def abw(n sz:Nat):LV->LV
 |[]=>[]
 |.aM::l=>.aj n 0 sz::abw n sz l
 |a::l=>a::abw n sz l
theorem zC{φ n sz}:∀{l vs},br φ l vs->br φ (abw n sz l) vs
 |[],vs,h=>h
 |a::l,vs,h=>by
  obtain⟨v,eF,rfl,h1,h2⟩:=h;have:=zC (n:=n) (sz:=sz) h2;cases a<;>first
   |exact⟨v,eF,rfl,qG h1,this⟩
   |exact⟨v,eF,rfl,h1,this⟩
end
end Go.Ev
namespace Go.Ev
noncomputable section
section
variable{xx:Option XH}
def KC(g:Nat)(vs:List AV)(φ aQ:cn):Prop:=
 dE φ aQ/\∀e,φ g=some e->∃(eK:Array Value) (el:TypeId) (fz:Nat×Nat),aQ.ro e.b=some (.cells eK el fz)/\e.o+vs.length<=eK.size/\br aQ.pu vs ((eK.toList.drop e.o).take vs.length)
mutual
def fX(g:Nat)(vs:List AV):AV->AV
 |.aj id len sz=>bif Nat.beq id g&&Nat.beq vs.length (len*sz)then .ah vs len sz else .aj id len sz
 |.bw id off len cap sz ex=>bif Nat.beq id g&&Nat.beq off 0&&Nat.beq vs.length (len*sz)then .ah vs len sz else .bw id off len cap sz ex
 |.ai cs=>.ai (p8 g vs cs)
 |.aC cs=>.aC (p8 g vs cs)
 |a=>a
def p8(g:Nat)(vs:List AV):List AV->List AV
 |[]=>[]
 |a::l=>fX g vs a::p8 g vs l
end
mutual
theorem Zh{g:Nat}{vs:List AV}{φ aQ:cn}(h:KC g vs φ aQ):∀{a:AV} {v:Value},VR φ a v->VR aQ (fX g vs a) v
 |.aj id len sz,v,hv=>by
  simp only[fX];cases hc:Nat.beq id g&&Nat.beq vs.length (len*sz)
  .exact VR.ez h.1 _ _ hv
  .simp only[dc]at hc;have h1:=dw hc.1;have h2:=dw hc.2;subst h1;simp only[cond_true,VR];simp only[VR]at hv;rcases hv with⟨rfl,rfl⟩|⟨e,x,c,h3,rfl,h4,h5,h6⟩
   .exact⟨none,0,rfl,h2,.inl rfl⟩
   .refine⟨_,c,rfl,h2,?_⟩;by_cases h0:len=0
    .exact .inl h0
    .right;obtain⟨eK,el,fz,k1,k2,k3⟩:=h.2 e h3;have hx:x=e.o:=by
      rcases h4 with h4|h4
      .omega
      .exact h4
     subst hx;exact⟨e.b,e.o,eK,el,fz,rfl,h5,k1,k2,k3⟩
 |.ai cs,v,hv=>by simp only[fX,VR]at hv⊢;obtain⟨cs',h1,h2⟩:=hv;exact⟨cs',h1,Rh h h2⟩
 |.aC cs,v,hv=>by simp only[fX,VR]at hv⊢;obtain⟨cs',h1,h2⟩:=hv;exact⟨cs',h1,Rh h h2⟩
 |.au _,v,hv=>VR.ez h.1 _ _ hv
 |.bV _ _,v,hv=>VR.ez h.1 _ _ hv
 |.ad _,v,hv=>VR.ez h.1 _ _ hv
 |.aa _ _,v,hv=>VR.ez h.1 _ _ hv
 |.kP,v,hv=>VR.ez h.1 _ _ hv
 |.bw id off len cap sz ex,v,hv=>by
  simp only[fX];cases hc:Nat.beq id g&&Nat.beq off 0&&Nat.beq vs.length (len*sz)
  .exact VR.ez h.1 _ _ hv
  .simp only[dc]at hc;have h1:=dw hc.1.1;have h0:=dw hc.1.2;have h2:=dw hc.2;subst h1;subst h0;simp only[cond_true,VR];simp only[VR]at hv;obtain⟨e,x,c,h3,rfl,h4,h5,_,h6⟩:=hv;refine⟨_,c,rfl,h2,?_⟩;by_cases h0:len=0
   .exact .inl h0
   .right;obtain⟨eK,el,fz,k1,k2,k3⟩:=h.2 e h3;have hx:x=e.o:=by
     rcases h4 with h4|h4
     .omega
     .exact h4
    subst hx;exact⟨e.b,e.o,eK,el,fz,rfl,h5,k1,k2,k3⟩
 |.aM,v,hv=>VR.ez h.1 _ _ hv
 |.aB _,v,hv=>VR.ez h.1 _ _ hv
 |.mW,v,hv=>VR.ez h.1 _ _ hv
 |.bn ..,v,hv=>VR.ez h.1 _ _ hv
 |.gN _,v,hv=>VR.ez h.1 _ _ hv
 |.qz,v,hv=>VR.ez h.1 _ _ hv
 |.ec ..,v,hv=>VR.ez h.1 _ _ hv
 |.lJ,v,hv=>VR.ez h.1 _ _ hv
 |.vV _,v,hv=>VR.ez h.1 _ _ hv
 |.ah ..,v,hv=>VR.ez h.1 _ _ hv
 |.pK _,v,hv=>VR.ez h.1 _ _ hv
 |.fw ..,v,hv=>VR.ez h.1 _ _ hv
 |.fE ..,v,hv=>VR.ez h.1 _ _ hv
 |.rC,v,hv=>VR.ez h.1 _ _ hv
 |.dN _,v,hv=>VR.ez h.1 _ _ hv
theorem Rh{g:Nat}{vs:List AV}{φ aQ:cn}(h:KC g vs φ aQ):∀{l:List AV} {m:List Value},br φ l m->br aQ (p8 g vs l) m
 |[],m,hv=>by simpa[br,p8]using hv
 |a::l,m,hv=>by simp only[br,p8]at hv⊢;obtain⟨v,m',h1,h2,h3⟩:=hv;exact⟨v,m',h1,Zh h h2,Rh h h3⟩
end
theorem atB(g vs a):(fX g vs a).cY=a.cY:=by
 cases a<;>try rfl
 next id off len cap sz ex=>simp only[fX];cases Nat.beq id g&&Nat.beq off 0&&Nat.beq vs.length (len*sz)<;>rfl
 rename_i id len sz;simp only[fX];cases Nat.beq id g&&Nat.beq vs.length (len*sz)<;>rfl
theorem aij(g vs):∀l:List AV,(p8 g vs l).length=l.length/\(p8 g vs l).all AV.cY=l.all AV.cY
 |[]=>⟨rfl,rfl⟩
 |a::l=>by have:=aij g vs l;exact⟨by simp[p8,this.1],by simp[p8,this.2,atB]⟩
def Ir(g:Nat)(vs:List AV):bf->bf
 |.al cs e=>.al (p8 g vs cs) e
 |o=>o
def tE(g:Nat)(vs:List AV):List (Nat×bf)->List (Nat×bf)
 |[]=>[]
 |(s,a)::l=>(s,bif Nat.beq s g then .bm []else Ir g vs a)::tE g vs l
theorem atD{g vs φ aQ}(h:KC g vs φ aQ){ob e o}(ho:OR φ ob e o):OR aQ (Ir g vs ob) e o:=by
 unfold Ir;split;next cs kL=>have⟨cs',el,h1,h2,h3,h4,h5⟩:=ho;have hl:=aij g vs cs;exact⟨cs',el,h1,h2,by rw[hl.1];exact h3,by rw[hl.1];exact Rh h h4,by rw[hl.2];exact h5⟩
 .exact ho.tg h.1
theorem atC(g vs ob):(Ir g vs ob).aR=ob.aR:=by unfold Ir;split<;>rfl
theorem Ri{g vs}:∀{l id bE},cR (tE g vs l) id=some bE->∃ob,cR l id=some ob/\((id=g/\bE=.bm [])\/(id≠g/\bE=Ir g vs ob))
 |[],id,bE,h=>by cases h
 |(s,a)::l,id,bE,h=>by
  simp only[tE,cR]at h⊢;by_cases hi:id=s
  .subst hi;rw[aL rfl]at h⊢;cases h;refine⟨a,rfl,?_⟩;cases hb:Nat.beq id g
   .exact .inr ⟨(λe=>by rw[e,lC]at hb;cases hb),rfl⟩
   .exact .inl ⟨dw hb,rfl⟩
  .rw[az hi]at h⊢;exact Ri h
theorem ak4{m0 g n l vs el}(hg:cR l g=some (.aA vs el)):lL m0 (eA xx l n) (eA xx (tE g vs l) n) (KC g vs):=by
 refine⟨cE n,λφ bs w cA hw=>?_⟩;have eU:∀id,(eA xx l n).bc id=cR l id:=ey l n;let aQ:cn:=⟨φ.f,λb=>match φ g with|none=>φ.ro b|some e=>if b=e.b then w.heap[b]? else φ.ro b,φ.xs⟩
 have mi:dE φ aQ:=by
  refine⟨λ_ _ h=>h,λb o h=>?_,λ_ _ h=>h⟩;show(match φ g with|none=>φ.ro b|some e=>if b=e.b then w.heap[b]? else φ.ro b)=some o;split
  .exact h
  .split
   .exact(hw.ro b o h).1.2
   .exact h
 have gw:∀e,φ g=some e->aQ.ro e.b=w.heap[e.b]? :=by intro e he;show(match φ g with|none=>φ.ro e.b|some e2=>if e.b=e2.b then w.heap[e.b]? else φ.ro e.b)=_;rw[he];exact aL rfl
 have hR:KC g vs φ aQ:=by refine⟨mi,λe he=>?_⟩;obtain⟨o,h1,cs,h_,rfl,h2,h3,h4,h5⟩:=hw.eI g _ e ((eU g).trans hg) he;exact⟨cs,h_,(0,0),(gw e he).trans h1,by omega,br.kW mi.pu _ _ h4⟩
 have my:∀{id ob},(eA xx (tE g vs l) n).bc id=some ob->ob.aR=true->∃ef,(eA xx l n).bc id=some ef/\ef.aR=true/\id≠g:=by
  intro id ob h1 h2;rw[ey]at h1;obtain⟨ef,h3,⟨h4,h5⟩|⟨h4,h5⟩⟩:=Ri h1
  .subst h5;cases h2
  .subst h5;exact⟨ef,(eU id).trans h3,by rwa[atC]at h2,h4⟩
 have FV:∀n',(eA xx (tE g vs l) n).gT n'=(eA xx l n).gT n':=ux rfl;refine⟨aQ,⟨?_,?_,hw.lt,?_,⟨?_,?_,λa b c d e f h1 h2=>hw.wx.xi a b c d e f ((FV a).symm.trans h1) ((FV b).symm.trans h2),hw.wx.xl⟩⟩,⟨⟨λ_ _=>rfl,mi.ro,mi.xs⟩,.of rfl rfl⟩,hR⟩
 .intro id ob e h1 h2;rw[ey]at h1;obtain⟨ef,h3,⟨h4,h5⟩|⟨h4,h5⟩⟩:=Ri h1
  .subst h5;have hb:=(hw.lt id e h2).1;exact⟨w.heap[e.b]'hb,Bn hb,trivial⟩
  .subst h5;have⟨o,k1,k2⟩:=hw.eI id ef e ((eU id).trans h3) h2;exact⟨o,k1,atD hR k2⟩
 .intro id iq ob bE e e' h1 l1 h2 h3 l2 h4 hb;have⟨o1,k1,k2,_⟩:=my h1 l1;have⟨o2,k3,k4,_⟩:=my h3 l2;exact hw.ji id iq o1 o2 e e' k1 k2 h2 k3 k4 h4 hb
 .intro id ob h1;rw[ey]at h1;have⟨ef,h3,_⟩:=Ri h1;exact hw.nx id ef ((eU id).trans h3)
 .intro b o hb;have auH:φ.ro b=some o\/∃e,φ g=some e/\b=e.b/\w.heap[b]? =some o:=by
   have hb:(match φ g with|none=>φ.ro b|some e=>if b=e.b then w.heap[b]? else φ.ro b)=some o:=hb;cases he:φ g with
   |none=>rw[he]at hb;exact .inl hb
   |some e=>
    rw[he]at hb;simp only at hb;split at hb;next oO=>exact .inr ⟨e,rfl,oO,hb⟩
    .exact .inl hb
  rcases auH with hc|⟨e,he,rfl,hc⟩
  .have⟨k1,k2⟩:=hw.ro b o hc;refine⟨k1,λid ob e h1 l1 h2=>?_⟩;have⟨o1,q1,q2,_⟩:=my h1 l1;exact k2 id o1 e q1 q2 h2
  .refine⟨⟨(hw.lt g e he).2.1,hc⟩,λid ob e' h1 l1 h2 oO=>?_⟩;have⟨o1,q1,q2,q3⟩:=my h1 l1;exact q3 (hw.ji id g o1 _ e' e q1 q2 h2 ((eU g).trans hg) rfl he oO)
 .intro nn ob h1;have⟨e,o,r1,r2,r3,r4,r5⟩:=hw.wx.xo nn ob ((FV nn).symm.trans h1);refine⟨e,o,r1,r2,r3.tg mi.pu,?_,λid ob e' h1 l1 h2=>?_⟩
  .show(match φ g with|none=>φ.ro e.b|some e2=>if e.b=e2.b then w.heap[e.b]? else φ.ro e.b)=none;cases he:φ g with
   |none=>exact r4
   |some e2=>simp only;rw[az (λh=>r5 g _ e2 ((eU g).trans hg) rfl he h.symm)];exact r4
  .have⟨o1,q1,q2,_⟩:=my h1 l1;exact r5 id o1 e' q1 q2 h2
theorem sG{P f args H0 v g n l vs el}(h:bX P f args H0 v (eA xx l n))(hg:cR l g=some (.aA vs el))(cA:H0.bx<=n)(qh:jx v=.gG v:=by rfl):
 bX P f args H0 (fX g vs v) (eA xx (tE g vs l) n):=
 Cf h (ak4 hg) cA (λφ aQ hR x hx=>Zh hR hx) qh
def Cr(g:Nat)(vs:List AV):List (Nat×AV)->List (Nat×AV)
 |[]=>[]
 |(s,a)::l=>(s,fX g vs a)::Cr g vs l
theorem aik{g vs i a'}:∀{l},(bg (Cr g vs l)).bZ i=some a'->∃a,(bg l).bZ i=some a/\a'=fX g vs a
 |[],h=>by rw[nU]at h;cases h
 |(s,b)::l,h=>by
  rw[nU]at h;rw[nU];simp only[Cr,zw]at h⊢;by_cases hs:i=s
  .rw[aL hs]at h⊢;cases h;exact⟨b,rfl,rfl⟩
  .rw[az hs]at h⊢;rw[<-nU]at h⊢;exact aik h
theorem auM{ds P f nt m0 g n v H1 T l vs el todo}(h:iw ds P f nt m0 v H1 (bg (Cr g vs T)) (eA xx (tE g vs l) n) todo)(hg:cR l g=some (.aA vs el))(hp:lx todo=true)(gC:pd m0 ds):iw ds P f nt m0 v H1 (bg T) (eA xx l n) todo:=by refine MB (gC:=gC) h (ak4 hg) hp (λφ aQ hR i a' hi=>?_);obtain⟨a,h1,rfl⟩:=aik hi;exact⟨a,h1,λx hx=>Zh hR hx⟩
theorem FF{P f nt m0 g n v H1 T l vs el todo}(h:bu P f nt m0 v H1 (bg (Cr g vs T)) (eA xx (tE g vs l) n) todo)(hg:cR l g=some (.aA vs el))(hp:lx todo=true:=by kernel_rfl):bu P f nt m0 v H1 (bg T) (eA xx l n) todo:=
 auM h hg hp (B_ _)
theorem AZ{P f nt m0 v H1 H H2 tmps t todo mw ls ps}(h:bu P f nt m0 v H1 t H2 todo)(hp:lx todo=true:=by kernel_rfl)(hv:mB m0 mw H=some ⟨ps,H2⟩:=by kernel_rfl)(ht:rn (iK ps) tmps ls=some t:=by kernel_rfl):bu P f nt m0 v H1 tmps H todo:=cj.tb hp hv ht h
end
section
theorem WR.conv{φ bs H H' w}(hw:WR φ bs H w)(hn:H'.bx=H.bx)(hx:H'.x=H.x)(ho:∀id bE,H'.bc id=some bE->∃ob,H.bc id=some ob/\(bE.aR=true->ob.aR=true)/\∀e o,φ id=some e->OR φ ob e o->OR φ bE e o):WR φ bs H' w:=by
 refine⟨λid ob e h1 h2=>?_,λid iq ob bE e e' h1 l1 h2 h3 l2 h4 hb=>?_,λid e h=>?_,λid ob h=>?_,hw.s8 rfl rfl hx (λ_ _=>rfl) λid ob e h1 l1 h2=>.inl ?_⟩
 .have⟨ef,g1,_,g3⟩:=ho id ob h1;have⟨o,g4,g5⟩:=hw.eI id ef e g1 h2;exact⟨o,g4,g3 e o h2 g5⟩
 .have⟨o1,g1,g2,_⟩:=ho id ob h1;have⟨o2,k1,k2,_⟩:=ho iq bE h3;exact hw.ji id iq o1 o2 e e' g1 (g2 l1) h2 k1 (k2 l2) h4 hb
 .rw[hn];exact hw.lt id e h
 .have⟨ef,g1,_⟩:=ho id ob h;rw[hn];exact hw.nx id ef g1
 .have⟨ef,g1,g2,_⟩:=ho id ob h1;exact⟨id,ef,e,g1,g2 l1,h2,rfl⟩
mutual
def Eh(g c:Nat):AV->AV
 |.aa id off=>bif Nat.beq id g then .fw c off else .aa id off
 |.ai cs=>.ai (yA g c cs)
 |.aC cs=>.aC (yA g c cs)
 |a=>a
def yA(g c:Nat):List AV->List AV
 |[]=>[]
 |a::l=>Eh g c a::yA g c l
end
def Hu(g c:Nat)(φ aQ:cn):Prop:=dE φ aQ/\∀e,φ g=some e->aQ.xs c=some e
mutual
theorem aoV{g c:Nat}{φ aQ:cn}(h:Hu g c φ aQ):∀{a:AV} {v:Value},VR φ a v->VR aQ (Eh g c a) v
 |.aa id off,v,hv=>by
  simp only[Eh];cases hb:Nat.beq id g
  .exact VR.ez h.1 _ _ hv
  .have:id=g:=dw hb;subst this;obtain⟨e,h1,h2⟩:=hv;exact⟨e,h.2 e h1,h2⟩
 |.ai cs,v,hv=>by obtain⟨cs',rfl,h1⟩:=hv;exact⟨cs',rfl,Vb h h1⟩
 |.aC cs,v,hv=>by obtain⟨cs',rfl,h1⟩:=hv;exact⟨cs',rfl,Vb h h1⟩
 |.au _,v,hv=>VR.ez h.1 _ _ hv
 |.bV ..,v,hv=>VR.ez h.1 _ _ hv
 |.ad _,v,hv=>VR.ez h.1 _ _ hv
 |.kP,v,hv=>VR.ez h.1 _ _ hv
 |.bw ..,v,hv=>VR.ez h.1 _ _ hv
 |.aM,v,hv=>VR.ez h.1 _ _ hv
 |.aB _,v,hv=>VR.ez h.1 _ _ hv
 |.mW,v,hv=>VR.ez h.1 _ _ hv
 |.bn ..,v,hv=>VR.ez h.1 _ _ hv
 |.gN _,v,hv=>VR.ez h.1 _ _ hv
 |.qz,v,hv=>VR.ez h.1 _ _ hv
 |.ec ..,v,hv=>VR.ez h.1 _ _ hv
 |.lJ,v,hv=>VR.ez h.1 _ _ hv
 |.vV _,v,hv=>VR.ez h.1 _ _ hv
 |.ah ..,v,hv=>VR.ez h.1 _ _ hv
 |.pK _,v,hv=>VR.ez h.1 _ _ hv
 |.aj ..,v,hv=>VR.ez h.1 _ _ hv
 |.fw ..,v,hv=>VR.ez h.1 _ _ hv
 |.fE ..,v,hv=>VR.ez h.1 _ _ hv
 |.rC,v,hv=>VR.ez h.1 _ _ hv
 |.dN _,v,hv=>VR.ez h.1 _ _ hv
theorem Vb{g c:Nat}{φ aQ:cn}(h:Hu g c φ aQ):∀{l:List AV} {m:List Value},br φ l m->br aQ (yA g c l) m
 |[],m,hv=>by simpa[br,yA]using hv
 |a::l,m,hv=>by simp only[br,yA]at hv⊢;obtain⟨v,m',h1,h2,h3⟩:=hv;exact⟨v,m',h1,aoV h h2,Vb h h3⟩
end
theorem aGA(g c a):(Eh g c a).cY=a.cY:=by
 cases a<;>try rfl
 rename_i id off;simp only[Eh];cases Nat.beq id g<;>rfl
theorem aoW(g c):∀l:List AV,(yA g c l).length=l.length/\(yA g c l).all AV.cY=l.all AV.cY
 |[]=>⟨rfl,rfl⟩
 |a::l=>by have:=aoW g c l;exact⟨by simp[yA,this.1],by simp[yA,this.2,aGA]⟩
def Ki(g c:Nat):bf->bf
 |.al cs e=>.al (yA g c cs) e
 |o=>o
def GO(g c:Nat):List (Nat×bf)->List (Nat×bf)
 |[]=>[]
 |(s,a)::l=>(s,bif Nat.beq s g then .bm []else Ki g c a)::GO g c l
theorem aGC{g c φ aQ}(h:Hu g c φ aQ){ob e o}(ho:OR φ ob e o):OR aQ (Ki g c ob) e o:=by
 unfold Ki;split;next cs kL=>have⟨cs',el,h1,h2,h3,h4,h5⟩:=ho;have hl:=aoW g c cs;exact⟨cs',el,h1,h2,by rw[hl.1];exact h3,by rw[hl.1];exact Vb h h4,by rw[hl.2];exact h5⟩
 .exact ho.tg h.1
theorem aGB(g c ob):(Ki g c ob).aR=ob.aR:=by unfold Ki;split<;>rfl
theorem aoX{g c}:∀{l id bE},cR (GO g c l) id=some bE->∃ob,cR l id=some ob/\((id=g/\bE=.bm [])\/(id≠g/\bE=Ki g c ob))
 |[],id,bE,h=>by cases h
 |(s,a)::l,id,bE,h=>by
  simp only[GO,cR]at h⊢;by_cases hi:id=s
  .subst hi;rw[aL rfl]at h⊢;cases h;refine⟨a,rfl,?_⟩;cases hb:Nat.beq id g
   .exact .inr ⟨(λe=>by rw[e,lC]at hb;cases hb),rfl⟩
   .exact .inl ⟨dw hb,rfl⟩
  .rw[az hi]at h⊢;exact aoX h
def w_(X:Nat->Option bf)(c:Nat)(ob:bf):Nat->Option bf:=λi=>bif Nat.beq i c then some ob else X i
theorem aGu{φ bs w X c g n l vs el e}(m0)(hg:cR l g=some (.al vs el))(hp:vs.all eR=true)(hw:WR φ bs (bU X c l n) w)(he:φ g=some e):∃aQ,WR aQ bs (bU (w_ X c (.al vs el)) (c+1) (GO g c l) n) w/\(jj m0 φ aQ/\nB φ (bU X c l n) aQ (bU (w_ X c (.al vs el)) (c+1) (GO g c l) n))/\Hu g c φ aQ:=by
 have eU:∀id,(bU X c l n).bc id=cR l id:=ey l n;have⟨aQ,h1,h2,h3⟩:=hw.Vi ((eU g).trans hg) rfl he (λ⟨cs,h_,a,b,d,f,h⟩=>⟨cs,h_,a,b,d,br.xg _ _ (by rw[wF];exact hp) f,h⟩) rfl (m:=m0);have hR:Hu g c φ aQ:=⟨h3.1,λe' iC=>by rw[he]at iC;cases iC;exact h1⟩;have hR':Hu g c aQ aQ:=⟨dE.refl _,λe' iC=>by rw[h3.1 g e he]at iC;cases iC;exact h1⟩;refine⟨aQ,h2.conv rfl rfl λid bE ho=>?_,⟨h3.ag,⟨by constructor<;>(intro h;cases h),λh=>by cases h⟩⟩,hR⟩;have ho:cR (GO g c l) id=some bE:=by rw[<-ho];exact(ey _ n id).symm
 obtain⟨ob,k1,⟨k2,rfl⟩|⟨k2,rfl⟩⟩:=aoX ho
 .refine⟨.bm [],?_,λh=>h,λ_ _ _ h=>h⟩;show((bU X c l n).cV g (.bm [])).bc id=_;rw[oV,aL k2]
 .refine⟨ob,?_,λh=>by rwa[aGB]at h,λe' o _ h=>aGC hR' h⟩;show((bU X c l n).cV g (.bm [])).bc id=_;rw[oV,az k2];exact(eU id).trans k1
theorem auS{ds P f nt m0 v H1 t t' todo X c g n l vs el s off}(h:iw ds P f nt m0 v H1 t' (bU (w_ X c (.al vs el)) (c+1) (GO g c l) n) todo)(hg:cR l g=some (.al vs el))(hp:vs.all eR=true)(hs:t.bZ s=some (.aa g off))(hi:lx todo=true)(ht:∀i a',t'.bZ i=some a'->∃a,t.bZ i=some a/\a'=Eh g c a)(gC:pd m0 ds):iw ds P f nt m0 v H1 t (bU X c l n) todo:=by
 have⟨r,hq,hr⟩:=h;refine⟨r,hq,λφ w bs cv cs cA hw hl hf=>?_⟩;have⟨b,a,OL,e1,e2,e3⟩:=hf;have⟨x,h3,e,he,_⟩:=e2.tr.2 s _ hs;have⟨kV,k1,k2,k3⟩:=aGu m0 hg hp hw he;have mR:uC kV (fS ds none f nt t' todo) cv:=by
  refine⟨b,a,OL,e1,⟨e2.fn,⟨e2.tr.1,λi a' ha=>?_⟩,?_,e2.jY,e2.kF,e2.pW⟩,Pp hi e3⟩
  .obtain⟨a0,h1,rfl⟩:=ht i a' ha;have⟨x,h3,h4⟩:=e2.tr.2 i a0 h1;exact⟨x,h3,aoV k3 h4⟩
  .exact BL k2.1 gC e2.dr
 have⟨aQ,w',g1,g2,g3,g4⟩:=hr kV w bs cv cs cA k1 hl mR;exact⟨aQ,w',g1,k2.1.rr g2,⟨g3.1,k2.2.qB g3.2⟩,g4⟩
theorem SV{m0 g n c l l'}(hg:cR l g=some (.aY [] c false))(hl:∀id,cR l' id=if id=g then some (.aY [] c true)else cR l id){xx}:
 lL m0 (eA xx l n) (eA xx l' n) (λφ aQ=>aQ=φ):=by
 refine⟨cE n,λφ bs w cA hw=>⟨φ,hw.conv rfl rfl λid bE ho=>?_,⟨jj.Aj _ _,.of rfl rfl⟩,rfl⟩⟩;rw[ey,hl]at ho;rw[ey];by_cases hi:id=g
 .rw[aL hi]at ho;cases ho;subst hi;exact⟨_,hg,λ_=>rfl,λe o _ ⟨es,h1,h2,_⟩=>⟨es,h1,h2,λ_=>h2⟩⟩
 .rw[az hi]at ho;exact⟨bE,ho,λh=>h,λ_ _ _ h=>h⟩
end
section
variable{P:Program}{S:bp}
def vX(P:Program)(call:sA):Nat->gg->AH->j0
 |0,fr,H=>.go fr H
 |n+1,fr,H=>match j_ P call fr H with
  |.go fr' H'=>vX P call n fr' H'
  |r=>r
theorem cj.Cv{m0 call}(cU:P.follows .mixedOrders=true)(hc:mG P call){Q}:∀{n fr fr' H H'},(∀i xA H2,i<n->vX P call i fr H=.go xA H2->xA.up=none)->vX P call n fr H=.go fr' H'->cj P m0 fr' H' Q->cj P m0 fr H Q
 |0,fr,fr',H,H',_,h,ht=>by cases h;exact ht
 |n+1,fr,fr',H,H',hu,h,ht=>by
  simp only[vX]at h;split at h;next fr1 H1 hs=>refine cj.ja cU hc (hu 0 fr H (by omega) rfl) hs (cj.Cv cU hc (λi xA H2 hi h2=>hu (i+1) xA H2 (by omega) (by simp only[vX,hs];exact h2)) h ht)
  next hn=>
   cases hr:j_ P call fr H with
   |go a b=>exact absurd hr (hn a b)
   |Am r=>rw[hr]at h;cases h
   |eV w=>rw[hr]at h;cases h
theorem aqA{ds fn nt m0 aR LR Q}(cU:P.follows .mixedOrders=true)(hc:mG P (kZ S))(gC:pd m0 ds)(ZI:∀t H,LR t H->cj P m0 ⟨fn,t,nt,[],ds,.i_,none,none⟩ H Q):KZ P S ds none fn nt m0 Q (λ_=>XM m0 aR LR):=by
 intro b tmps todo H h hs;rw[aa4]at hs;unfold XM at h;split at h;next ps H2 hv=>
  split at h;next t ht=>exact cj.ja cU hc rfl hs (cj.aF7 hv ht (ZI _ _ h) gC)
  .cases h
 .cases h
theorem aqz{ds fn nt m0 aR LP Q}(gC:pd m0 ds)(ZH:∀x t H,LP x t H->cj P m0 ⟨fn,t,nt,[],ds,.lI [(x,false)],none,none⟩ H Q):WT P ds none fn nt m0 Q (XK m0 aR LP):=by
 intro x H tmps todo h;unfold XK at h;split at h;next ps H2 hv=>
  split at h;next y t hy ht=>exact cj.aF6 hv hy ht (ZH _ _ _ h) gC
  .cases h
 .cases h
theorem Mz(cU:P.follows .mixedOrders=true)(hS:aS P S){ds aR n f nt m0 t todo H Q LR LP}(gC:pd m0 ds)(mU:(P.funcs[f]?).map (·.ntmps)=some nt)(ZI:∀t H,LR t H->cj P m0 ⟨f,t,nt,[],ds,.i_,none,none⟩ H Q)(ZH:∀x t H,LP x t H->cj P m0 ⟨f,t,nt,[],ds,.lI [(x,false)],none,none⟩ H Q)(h:J2 P S aR (λt H todo=>cj P m0 (fS ds none f nt t todo) H Q) LR LP n f m0 t todo H):cj P m0 (fS ds none f nt t todo) H Q:=by
 unfold J2 at h;split at h;next fn jz=>rw[jz]at mU;simp at mU;subst mU;exact Gt (rd:=none) cU (pZ hS) gC trivial (aqA cU (pZ hS) gC ZI) (aqz gC ZH) (λ_ _ _ h=>h) n h
 .cases h
theorem cj.pX(cU:P.follows .mixedOrders=true)(hc:mG P (kZ S)){fn nt m0 Q tmps todo H}(h:pX P fn m0 Q tmps H):cj P m0 ⟨fn,tmps,nt,todo,[],.i_,none,none⟩ H (qq Q):=by
 unfold Ev.pX at h;split at h;next f hf=>
  split at h;next l hl=>refine acu (fn:=fn) (nt:=nt) rfl h ?_;refine cj.Kp cU hc rfl ?_ rfl;simp only[j_,DV,JI,hf,hl]
  .cases h
 .cases h
def HC:List dZ->List dZ
 |.ik ops i (_::l)::k=>.ik ops (Nat.succ i) l::k
 |t=>t
def Cj(P:Program)(n:Nat):sA:=⟨run P Ny n,Ny⟩
theorem Ck(cU:P.follows .mixedOrders=true)(n):mG P (Cj P n):=⟨TV cU abA n,abA⟩
end
section
section
variable{P:Program}{φ:cn}{base:fN}{m:Nat}{H:AH}{w:World}{ρ:Operand->Option AV}{ev:Operand->Value}
theorem dP.nth:∀{es ms},dP φ es ms->∀{i:Nat} {x},ms[i]? =some x->∃e,es[i]? =some e/\VR φ e.1 x.key/\VR φ e.2.1 x.val/\x.born=e.2.2
 |[],_,h,i,x,hi=>by simp only[dP]at h;subst h;simp at hi
 |(k,v,b)::es,_,h,i,x,hi=>by
  obtain⟨y,ms,rfl,h1,h2,h3,h4⟩:=h;cases i with
  |zero=>simp at hi;subst hi;exact⟨_,rfl,h1,h2,h3⟩
  |succ i=>exact dP.nth h4 hi
theorem axk(hw:WR φ base H w){r mm since last clock bK es er em T}(hr:H.bc r=some (.jg (some mm) since bK last))(uU:φ r=some er){p}(ho:H.bc mm=some (.aY es clock p))(qX:φ mm=some em)(hc:(!bK.isEmpty&& !es.isEmpty&&es.all (λe=>Nat.ble last e.2.2))=false)(h2l:2<=(es.filter λe=> !bK.any (Nat.beq e.2.2)).length)(v_:(es.filter λe=> !bK.any (Nat.beq e.2.2)).all (λe=>Nat.ble (e.2.2+1) since)=true):
 ∃e∈es.filter (λe=> !bK.any (Nat.beq e.2.2)),
  fc P m base φ H w (do pure (.value (<-Instr.next (.pointer (some ⟨er.b,0,none⟩)) false T)):Sem Next) (.aC [.au true,e.1,e.2.1]) (H.cV r (.jg (some mm) since (bK++[e.2.2]) clock)):=by
 obtain⟨o,hg,m',rfl,aaa,uW⟩:=hw.eI r _ er hr uU;obtain⟨e',iC,rfl⟩:=uW;rw[qX]at iC;cases iC;obtain⟨o2,tN,bJ,rfl,jm,-⟩:=hw.eI mm _ em ho qX;have h1:=qT (P:=P) hg rfl;have h2:=qT (P:=P) tN rfl;have xF:(!bK.toArray.isEmpty&& !bJ.isEmpty&&bJ.all (λx=>decide (x.born>=last)))=false:=by
  have e1:bK.toArray.isEmpty=bK.isEmpty:=by cases bK<;>rfl
  have e2:bJ.isEmpty=es.isEmpty:=by have:=jm.Km;cases es<;>cases bJ<;>rename_i l<;>cases l<;>simp at this⊢
  have e3:bJ.all (λx=>decide (x.born>=last))=es.all (λe=>Nat.ble last e.2.2):=by rw[<-jm.all (λb=>Nat.ble last b),<-Array.all_toList];congr 1;funext x;rw[sc];simp
  rw[e1,e2,e3];exact hc
 have xJ:dP φ (es.filter λe=> !bK.any (Nat.beq e.2.2)) (bJ.filter λe=> !bK.toArray.contains e.born).toList:=by
  have:=jm.Vh (λb=> !bK.any (Nat.beq b));rw[Array.toList_filter];have e:(λ(e:MapEntry)=> !bK.toArray.contains e.born)=(λx=>(λb=> !bK.any (Nat.beq b)) x.born):=by simp only[am7]
  rw[e];exact this
 generalize es.filter (λe=> !bK.any (Nat.beq e.2.2))=left at h2l v_ xJ⊢;generalize hL:bJ.filter (λe=> !bK.toArray.contains e.born)=lr at xJ;have bS:left.length=lr.size:=by have:=xJ.Km;simpa using this
 have ai2:∀x∈lr.toList,x.born<since:=by intro x hx;have⟨i,hi⟩:=List.getElem?_of_mem hx;have⟨e,h3,_,_,h4⟩:=dP.nth xJ hi;have:=mq.1 v_ e (JU h3);have:=pE this;omega
 have o1:lr.filter (λe=>decide (e.born<since))=lr:=by rw[Array.filter_eq_self];intro x hx;simpa using ai2 x (by simpa using hx)
 have o2:lr.filter (λe=>decide (e.born>=since))= #[]:=by rw[Array.filter_eq_empty_iff];intro x hx;have:=ai2 x (by simpa using hx);simp;omega
 have ay:w.tape w.drawn (.mapNext lr.size)%lr.size<lr.size:=Nat.mod_lt _ (by omega);generalize hj:w.tape w.drawn (.mapNext lr.size)%lr.size=j at ay;have hx:lr.toList[j]? =some lr[j]:=by simp[ay]
 have⟨e,h3,h4,h5,h6⟩:=dP.nth xJ hx;have hwd:WR φ base H w.drew:=hw.sj rfl;have⟨w',b1,b2,b3⟩:=hwd.Bx (P:=P) (bE:=.jg (some mm) since (bK++[e.2.2]) clock) hr rfl uU hg rfl
  ⟨some em.b,rfl,aaa,em,qX,rfl⟩
 refine⟨e,JU h3,fc.of (v':=.tuple #[.bool true,lr[j].key,lr[j].val]) ?_ (adt (by simp[VR]) h4 h5) b2 (cI.o8 uU _) ((cZ.sj rfl).tf b3)⟩;have hf:(Question.mapNext lr.size).forced=false:=by show decide (lr.size<=1)=false;simp;omega
 have cK:lr≠ #[]:=by intro h0;subst h0;simp at ay
 have XP:(setObj er.b (.mapIter (some em.b) since (bK++[lr[j].born]).toArray clock)).run P w.drew=.ok () w':=by rw[<-b1,h6]
 simp only[Instr.next,Sem.run_bind,h1,Result.andThen_ok,h2,xF,hL,o1,o2];simp[cK,hf,ay,Question.cut,hj];rw[XP];rfl
end
variable{P:Program}
def rQ(es:List (AV×AV×Nat))(bK:LN):List (AV×AV×Nat):=es.filter λe=> !bK.any (Nat.beq e.2.2)
theorem axm(cU:P.follows .mixedOrders=true){ds m0 f nt d r mm since last clock i bK es p t ops o rest k it H H1 v}(nR:o.op=.next it false)(hg:o.guard=none)(hd:o.dst=some d)(hdn:Nat.ble (d+1) nt=true)(hx:iG t it=some (.aa r 0))(hr:H.bc r=some (.jg (some mm) since bK last))(ho:H.bc mm=some (.aY es clock p))(hc:(!bK.isEmpty&& !es.isEmpty&&es.all (λe=>Nat.ble last e.2.2))=false)(gK:∀e∈es,e.2.2<since)(h0:rQ es bK=[]->iw ds P f nt m0 v H1 (t.gz d (.aC [.au false])) H (.ik ops (Nat.succ i) rest::k))(h1:∀e∈rQ es bK,iw ds P f nt m0 v H1 (t.gz d (.aC [.au true,e.1,e.2.1])) (H.cV r (.jg (some mm) since (bK++[e.2.2]) clock)) (.ik ops (Nat.succ i) rest::k)):
 iw ds P f nt m0 v H1 t H (.ik ops i (o::rest)::k):=by
 have FA:=Ck cU 0;have anY:∀{x:AV} {H2:AH},Jx H r mm since bK last es clock=some (.gU x H2)->j_ P ⟨λ_ _=>none,Ny⟩ (fS ds none f nt t (.ik ops i (o::rest)::k)) H=.go (fS ds none f nt (t.gz d x) (.ik ops (Nat.succ i) rest::k)) H2:=by
  intro x H2 hn;have CT:IH (iG t) H it false=some (.gU x H2):=by simp only[IH,hx,abu,hr,ho,hn]
  simp only[fS,j_,rl,sk,zW,nj,hg,nR,pq,sO,nM,CT,cond_true,cond_false,yq,kK,zU,rW,oY,hd,hdn]
 have MU:∀e∈rQ es bK,Nat.ble (e.2.2+1) since=true:=λe he=>Nat.ble_eq_true_of_le (gK e (zN.1 he).1)
 cases hl:rQ es bK with
 |nil=>refine cj.ja cU FA rfl (anY ?_) (h0 hl);unfold rQ at hl;simp only[Jx,hc,cond_false,hl,NJ]
 |cons e l=>
  cases l with
  |nil=>
   have he:e∈rQ es bK:=by rw[hl];exact dY ..
   refine cj.ja cU FA rfl (anY ?_) (h1 e he);have h2:=MU e he;unfold rQ at hl;simp only[Jx,hc,cond_false,hl,h2,cond_true]
  |cons e2 l=>
   have he:e∈rQ es bK:=by rw[hl];exact dY ..
   have⟨r0,hq0,hr0⟩:=h1 e he;refine⟨r0,hq0,λφ w bs cv cs hm hw hb hf=>?_⟩;have avv:∀{a b:l6},qq (fJ v H1) a->qq (fJ v H1) b->a=b:=by rintro⟨a1,a2,a3⟩ ⟨b1,b2,b3⟩ ⟨v1,q1,q2,q3,q4⟩ ⟨v2,q5,q6,q7,q8⟩;simp only at q1 q2 q4 q5 q6 q8;subst q3 q7;rw[q1,q2,q4,q5,q6,q8]
   obtain⟨b,a,todo,rfl,hf,h2⟩:=hf;obtain⟨y,ks,rfl,⟨rfl,FC⟩,h4⟩:=h2;have⟨hoo,aaq⟩:=anc FC;have u4:=hf.tr;have A3:jZ φ (.ik ops (Nat.succ i) rest::k) (.inRegion ops (List.range' (i+1) rest.length)::ks):=⟨_,_,rfl,⟨rfl,aaq⟩,h4⟩;have u0:n_ φ (iG t) a.eval o.op.operands.toList:=TR.vq u4 _;have⟨e3,FE,hv⟩:=u0.of (by rw[nR];simp[Op.operands]) hx;obtain⟨o3,hg3,m',rfl,h00,em,qX,_⟩:=hw.eI r _ e3 hr FE;have pn:Region.wanted o (yielded ops a.tmps)=true:=adE (by simp only[nj,hg]) λg pL d x _ _ hx=>u4.2 d x hx
   have⟨x,zq,aQ,w',v',g1,g2,g3,g4,g5⟩:=axk (P:=P) (m:=m0) (T:=o.type) hw hr FE ho qX hc (by show 2<=(rQ es bK).length;rw[hl];simp) (mq.2 MU);have⟨r1,FL,qi⟩:=h1 x zq;have:=avv hq0 FL;subst this;rw[show(o::rest).length=rest.length+1 from rfl,List.range'_succ];have hso:kH P m0 bs φ H w (fS ds none f nt t (.ik ops i (o::rest)::k)) (b.atR a (.inRegion ops (i::List.range' (i+1) rest.length)::ks)) cs (rW (fS ds none f nt t (.ik ops i (o::rest)::k)) o (.ik ops (Nat.succ i) rest::k) (.aC [.au true,x.1,x.2.1]) (H.cV r (.jg (some mm) since (bK++[x.2.2]) clock))):=by
    refine NF rfl (.one (J4 hoo pn ?_)) (hf.Ak g4.1) g2 (A3.Kn g4.1) g3 g4 g5 trivial;rw[zT _ _ (by rw[nR];intro c hcx;cases hcx)];have ph:a.eval it=.pointer (some ⟨e3.b,0,none⟩):=by rw[hv,h00]
    rw[<-ph]at g1;have hx':execOp a.eval o=(do pure (.value (<-Instr.next (a.eval it) false o.type)):Sem Next):=by simp only[execOp,nR]
    rw[hx'];exact g1
   have kO:rW (fS ds none f nt t (.ik ops i (o::rest)::k)) o (.ik ops (Nat.succ i) rest::k) (.aC [.au true,x.1,x.2.1]) (H.cV r (.jg (some mm) since (bK++[x.2.2]) clock))=.go (fS ds none f nt (t.gz d (.aC [.au true,x.1,x.2.1])) (.ik ops (Nat.succ i) rest::k)) (H.cV r (.jg (some mm) since (bK++[x.2.2]) clock)):=by simp only[rW,fS,oY,hd,hdn,cond_true]
   rw[kO]at hso;have⟨aQ,w',j7,pb,g1,g2,g3,g4,g5,g6,g7,g8,g9,L3⟩:=hso;have gQ:=g4;subst gQ;have⟨jW,w1,k1,k2,k3,k4⟩:=qi aQ w' bs j7 pb (kQ hm g8.2.1) g7 (hb.Eo g9.1) g2;exact⟨jW,w1,k1,g8.ag.rr k2,⟨g9.tf k3.1,g8.2.2.2.qB k3.2⟩,pV.after g1 L3 k4⟩
end
end
end Go.Ev
