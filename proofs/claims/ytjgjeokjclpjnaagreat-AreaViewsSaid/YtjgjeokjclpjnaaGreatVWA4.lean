/- Part of a proof of AreaViews. -/
import Derived.Test.YtjgjeokjclpjnaaGreatVWA3
import Derived.KernelRfl
set_option linter.all false
set_option linter.unusedSectionVars false
namespace Go.Ev
noncomputable section
section
def iX:List (Nat×Nat)->Nat->Option Nat
 |[],_=>none
 |(o,n)::l,a=>bif Nat.beq o a then some n else iX l a
def BJ:List (Nat×Nat)->Nat->Option Nat
 |[],_=>none
 |(o,n)::l,c=>bif Nat.beq n c then some o else BJ l c
mutual
def yH:AV->LN
 |.aa id _=>[id]
 |.bK id _ _ _ _ _=>[id]
 |.aS id=>[id]
 |.ib id=>[id]
 |.ad id _ _=>[id]
 |.cw _ f c=>F2 f++F2 c
 |.ep _ v=>yH v
 |.aj cs=>F2 cs
 |.aL cs=>F2 cs
 |.dI a=>yH a
 |_=>[]
def F2:LV->LN
 |[]=>[]
 |a::l=>yH a++F2 l
end
def apx:List (AV×AV×Nat)->LN
 |[]=>[]
 |(k,v,_)::l=>yH k++yH v++apx l
def aes:Tr AV->LN
 |.iq=>[]
 |.gB v l r=>(match v with|some a=>yH a|none=>[])++aes l++aes r
def IU:aO->LN
 |.ah vs _=>F2 vs
 |.gX _ _ _ t _ _ _ _ d=>d::aes t
 |.bI es _ p=>bif p then[]else apx es
 |.iZ m _ _ _=>(match m with|some id=>[id]|none=>[])
 |_=>[]
section GA
variable(r:Nat->Option Nat)
mutual
def eF:AV->Option AV
 |.aa id off=>match r id with|some c=>some (.aa c off)|none=>none
 |.bK id off len cap sz ex=>match r id with
  |some c=>match ex,cap with
   |false,1=>(match off with|0=>some (.ad c len sz)|_+1=>some (.bK c off len cap sz ex))
   |_,_=>some (.bK c off len cap sz ex)
  |none=>none
 |.aS id=>match r id with|some c=>some (.aS c)|none=>none
 |.ib id=>match r id with|some c=>some (.ib c)|none=>none
 |.ad id len sz=>match r id with|some c=>some (.ad c len sz)|none=>none
 |.cw fn f c=>match k8 f,k8 c with|some f',some c'=>some (.cw fn f' c')|_,_=>none
 |.ep t v=>match eF v with|some v'=>some (.ep t v')|none=>none
 |.aj cs=>match k8 cs with|some l=>some (.aj l)|none=>none
 |.aL cs=>match k8 cs with|some l=>some (.aL l)|none=>none
 |.dI a=>match eF a with|some b=>some (.dI b)|none=>none
 |a=>some a
def k8:LV->Option LV
 |[]=>some []
 |a::l=>match eF a with
  |some a'=>match k8 l with
   |some l'=>some (a'::l')
   |none=>none
  |none=>none
end
def Y7:List (AV×AV×Nat)->Option (List (AV×AV×Nat))
 |[]=>some []
 |(k,v,b)::l=>match eF r k,eF r v,Y7 l with
  |some k',some v',some l'=>some ((k',v',b)::l')
  |_,_,_=>none
def Su:Tr AV->Option (Tr AV)
 |.iq=>some .iq
 |.gB v a b=>match Su a,Su b with
  |some a',some b'=>(match v with
   |none=>some (.gB none a' b')
   |some x=>match eF r x with|some x'=>some (.gB (some x') a' b')|none=>none)
  |_,_=>none
def mF:aO->Option aO
 |.gX st p fn t nt ps a b d=>match Su r t,r d with
  |some t',some d'=>some (.gX st p fn t' nt ps a b d')
  |_,_=>none
 |.ah vs e=>match k8 r vs with|some l=>some (.ah l e)|none=>none
 |.bI es c p=>bif p then some (.bI es c p)else match Y7 r es with|some l=>some (.bI l c p)|none=>none
 |.dE vs e=>some (.dE vs e)
 |.au vs e=>some (.au vs e)
 |.bg _=>some (.bg [])
 |.vZ s p=>some (.vZ s p)
 |.iZ m since seen st=>(match m with
  |some id=>(match r id with|some ij=>some (.iZ (some ij) since seen st)|none=>none)
  |none=>some (.iZ none since seen st))
 |.qR ds=>(match ds with|none=>some (.qR none)|some []=>some (.qR (some []))|_=>none)
end GA
def arD(H:AH)(id:Nat):LN:=
 match H.aR id with
 |some o=>IU o
 |none=>[]
def Y5(H:AH)(m0:Nat):Nat->LN->List (Nat×Nat)->Nat->List (Nat×Nat)×Nat
 |0,_,ps,n=>(ps,n)
 |_+1,[],ps,n=>(ps,n)
 |f+1,id::q,ps,n=>match iX ps id with
  |some _=>Y5 H m0 f q ps n
  |none=>bif Nat.ble (id+1) m0 then Y5 H m0 f (q++arD H id) (ps++[(id,id)]) n
   else Y5 H m0 f (q++arD H id) (ps++[(id,n)]) (Nat.succ n)
def GV(r:Nat->Option Nat)(H:AH):List (Nat×Nat)->Tr aO->Option (Tr aO)
 |[],t=>some t
 |(o,n)::l,t=>match H.aR o with
  |none=>GV r H l t
  |some ob=>match mF r ob with
   |some bu=>GV r H l (t.fB n bu)
   |none=>none
def afI(ps:List (Nat×Nat))(n:Nat):Bool:=
 zX (ps.map (·.1))&&zX (ps.map (·.2))&&ps.all λp=>Nat.ble (p.2+1) n
def aDt(ps:List (Nat×Nat))(m0:Nat):Bool:=
 (List.range m0).all λi=>match BJ ps i with|some j=>Nat.beq i j|none=>false
structure Vw where
 ps:List (Nat×Nat)
 H:AH
def nD(m0:Nat)(mG:LN)(H:AH):Option Vw:=
 match Y5 H m0 1000 (List.range m0++mG) [] m0 with
 |(ps,n)=>bif afI ps n&&aDt ps m0 then
    match GV (iX ps) H ps .iq with
    |some t=>some ⟨ps,⟨t,n,H.x⟩⟩
    |none=>none
  else none
def JA(tmps:Tr AV):LN->LN
 |[]=>[]
 |s::l=>match tmps.bL s with
  |some a=>yH a++JA tmps l
  |none=>JA tmps l
def sT(r:Nat->Option Nat)(tmps:Tr AV):LN->Option (Tr AV)
 |[]=>some .iq
 |s::l=>match sT r tmps l with
  |none=>none
  |some t=>match tmps.bL s with
   |some a=>match eF r a with
    |some a'=>some (t.fB s a')
    |none=>none
   |none=>some t
abbrev Kl:=FuncId->LV->AH->Option (Prop×AV×AH)
inductive Sp:Type 1 where
 |A1 (x:Prop×AV×AH)
 |ex (W:Type) (g:W->Prop×AV×AH) (u:∀w w',(g w).1->(g w').1->(g w).2=(g w').2)
 |V4 (W:Bool->Type) (g:(b:Bool)->W b->Prop×AV×AH) (u:∀b w b' w',(g b w).1->(g b' w').1->(g b w).2=(g b' w').2)
abbrev aX:=FuncId->LV->AH->Option Sp
def sh:Sp->Option (Prop×AV×AH)
 |.A1 x=>some x
 |.ex W g _=> @dite _ (∃w,(g w).1) (Classical.propDecidable _) (λh=>some (g h.choose)) (λ_=>none)
 |.V4 W g _=> @dite _ (∃p:(b:Bool)×W b,(g p.1 p.2).1) (Classical.propDecidable _) (λh=>some (g h.choose.1 h.choose.2)) (λ_=>none)
def oP(S:aX):Kl:=λf args H=>
 match S f args H with
 |some sp=>sh sp
 |none=>none
def AS(ps:List (Nat×Nat))(k next:Nat)(i:Nat):Option Nat:=
 bif Nat.ble (i+1) k then BJ ps i else some (next+(i-k))
def CT(r:Nat->Option Nat)(Hs:AH):List (Nat×Nat)->Tr aO->Option (Tr aO)
 |[],t=>some t
 |(o,n)::l,t=>match Hs.aR n with
  |none=>CT r Hs l (t.fB o (.bg []))
  |some ob=>match mF r ob with
   |some bu=>CT r Hs l (t.fB o bu)
   |none=>none
def KX(r:Nat->Option Nat)(Hs:AH)(k next:Nat):Nat->Tr aO->Option (Tr aO)
 |0,t=>some t
 |j+1,t=>match KX r Hs k next j t with
  |none=>none
  |some t'=>match Hs.aR (k+j)with
   |none=>some t'
   |some ob=>match mF r ob with
    |some bu=>some (t'.fB (next+j) bu)
    |none=>none
def aP5:Option aO->Bool
 |some (.au ..)=>true
 |_=>false
mutual
def l4:AV->LN
 |.aa id _=>[id]
 |.bK id _ _ _ _ _=>[id]
 |.aS id=>[id]
 |.ib id=>[id]
 |.cw _ f c=>vu f++vu c
 |.ep _ v=>l4 v
 |.aj cs=>vu cs
 |.aL cs=>vu cs
 |_=>[]
def vu:LV->LN
 |[]=>[]
 |a::l=>l4 a++vu l
end
def QC:Tr AV->LN
 |.iq=>[]
 |.gB v l r=>(match v with|some a=>l4 a|none=>[])++QC l++QC r
def aoC:Option aO->LN
 |some (.ah vs _)=>vu vs
 |some (.gX _ _ _ t _ _ _ _ d)=>d::QC t
 |_=>[]
def M5(H:AH):LN->List (Nat×Nat)->Bool
 |_,[]=>true
 |hd,(o,_)::l=>match H.aR o with
  |some (.au ..)=>M5 H hd l
  |some (.bg _)=>false
  |none=>false
  |ob=>bif hd.any (Nat.beq o)then M5 H (hd++aoC ob) l else false
structure aa8 where
 aI:Prop
 v:AV
 H:AH
def xj(ps:List (Nat×Nat))(k:Nat)(H:AH)(xb:Bool):Prop×AV×AH->Option aa8
 |(p,v,Hs)=>match Hs,H with
  |⟨hs,ns,xs⟩,⟨h,next,x⟩=>
   bif Nat.ble k ns then
    match eF (AS ps k next) v,CT (AS ps k next) ⟨hs,ns,xs⟩ ps h with
    |some v',some t=>match KX (AS ps k next) ⟨hs,ns,xs⟩ k next (ns-k) t with
     |some t'=>some ⟨p,v',⟨t',next+(ns-k),bif xb then xs else x⟩⟩
     |none=>none
    |_,_=>none
   else none
def Rs(S:Kl)(f:FuncId)(args:LV)(H:AH):Option aa8:=
 match nD 0 (F2 args) H with
 |none=>none
 |some ⟨ps,⟨t,n,x⟩⟩=>bif M5 H (vu args) ps then
   match k8 (iX ps) args with
   |some args'=>match S f args' ⟨t,n,none⟩with
    |some yX=>xj ps n H false yX
    |none=>match x with
     |none=>none
     |some X=>match S f args' ⟨t,n,some X⟩with
      |some yX=>xj ps n H true yX
      |none=>none
   |none=>none
  else none
def aeY(S:aX)(f:FuncId)(args:LV)(H:AH):Option (List (Nat×Nat)×Nat×Bool×Sp):=
 match nD 0 (F2 args) H with
 |none=>none
 |some ⟨ps,⟨t,n,x⟩⟩=>bif M5 H (vu args) ps then
   match k8 (iX ps) args with
   |some args'=>match S f args' ⟨t,n,none⟩with
    |some sp=>some (ps,n,false,sp)
    |none=>match x with
     |none=>none
     |some X=>match S f args' ⟨t,n,some X⟩with
      |some sp=>some (ps,n,true,sp)
      |none=>none
   |none=>none
  else none
section aE8
variable(P:Program)
def yh:Nat->List TypeId->LV->(LV->Prop)->Prop
 |0,_,_,_=>False
 |_+1,[],ef,k=>k ef.reverse
 |d+1,t::ts,ef,k=>match P.underlying t with
  |some (.struct gz)=>yh d (gz.toList.map (·.type)++ts) ef k
  |some (.int kd)=>∃n:Int,yh d ts (.bD kd n::ef) k
  |some .bool=>∃b:Bool,yh d ts (.ai b::ef) k
  |some .string=>∃s:LN,yh d ts (.ao s::ef) k
  |some (.slice e)=>match cy P e with
   |some sz=>∃(cs:LV) (len:Nat),yh d ts (.aq cs len sz::ef) k
   |none=>False
  |some (.pointer _)=>∃(n off:Nat),yh d ts (.ei n off::ef) k
  |_=>∃a:AV,yh d ts (a::ef) k
def Ig(t:TypeId)(k:AV->Prop):Prop:=
 match F3 P t with
 |some true=>yh P 100 [t] [] λcs=>k (.aj cs)
 |some false=>yh P 100 [t] [] λcs=>match cs with|[a]=>k a|_=>False
 |none=>False
def anl(t:TypeId)(k:LV->Prop):Prop:=yh P 100 [t] [] k
end aE8
def aZ(b:Bool)(A B:Prop):Prop:= @Bool.rec (λ_=>Prop) B A b
def yQ(o:Option AV)(k:AV->Prop):Prop:=
 match o with
 |some v=>k v
 |none=>False
def lu(P:Program)(kt e:TypeId)(es:List (AV×AV×Nat))(key:AV):Option (AV×Bool):=
 match pD (iP P 100 kt) key es 0 with
 |some (some (_,v,_))=>some (v,true)
 |some none=>(kA P e).map (·,false)
 |none=>none
def y4(P:Program)(kt:TypeId)(es:List (AV×AV×Nat))(clock:Nat)(k v:AV):Option (List (AV×AV×Nat)×Nat):=
 match pD (iP P 100 kt) k es 0 with
 |some (some (i,_,_))=>bif Aj es i k then some (qF es i λe=>(k,v,e.2.2),clock)else none
 |some none=>some (es++[(k,v,clock)],clock+1)
 |none=>none
def Fu(P:Program)(kt elem:TypeId)(es:List (AV×AV×Nat))(clock:Nat)(p:Bool)(key:AV):Option (AV×Nat×List (AV×AV×Nat)×Nat):=
 match pD (iP P 100 kt) key es 0 with
 |some (some (i,v,b))=>bif Aj es i key&&yi p key .kZ then some (v,b,qF es i λe=>(key,e.2),clock)else none
 |some none=>match kA P elem with
  |some z=>bif yi p key z then some (z,clock,es++[(key,z,clock)],clock+1)else none
  |none=>none
 |none=>none
def Gl(es:List (AV×AV×Nat))(born:Nat)(v:AV):Option (List (AV×AV×Nat)):=
 match es.findIdx? (λe=>Nat.beq e.2.2 born)with
 |some i=>some (qF es i λe=>(e.1,v,e.2.2))
 |none=>none
def CV(P:Program)(kt:TypeId)(es:List (AV×AV×Nat))(k:AV):Option (List (AV×AV×Nat)):=
 match pD (iP P 100 kt) k es 0 with
 |some (some (i,_,_))=>some (C' es i)
 |some none=>some es
 |none=>none
def ana:TypeDesc->AV->AV->Option Bool
 |.int _,.bD j a,.bD k b=>if j=k then some (a==b)else none
 |.string,.ao a,.ao b=>some (bO a b)
 |.bool,.ai a,.ai b=>some (a==b)
 |_,_,_=>none
def Fg(P:Program):List Field->Nat->LV->LV->Option Bool
 |[],_,[],[]=>some true
 |f::fs,i,a::l,b::m=>bif (f.name != "_")&&Nat.beq f.offset i then
   match P.underlying f.type with
   |some td=>match ana td a b,Fg P fs (i+1) l m with
    |some x,some y=>some (x&&y)
    |_,_=>none
   |none=>none
  else none
 |_,_,_,_=>none
def V0(P:Program)(t:TypeId)(cs ds:LV):Option Bool:=
 match P.underlying t with
 |some (.struct gz)=>bif P.stoodInHeld t||P.eqGuardType P.depth t then none else Fg P gz.toList 0 cs ds
 |_=>none
section aCK
variable(P:Program)(O:Operand->Option AV)(H:AH)
def XA:Option aO->Option LV
 |some (.dE vs _)=>some vs
 |some (.au vs _)=>some vs
 |_=>none
def agd(t:TypeId)(a:Operand)(k:AV->Prop):Prop:=
 match O a with
 |some (.aa id off)=>match XA (H.aR id)with
  |some vs=>Ig P t λv=>fi P t vs off=some v/\k v
  |none=>yQ (vJ P H t id off) k
 |some (.qI cs)=>yQ (fi P t cs 0) k
 |some (.ei n off)=>Ig P t λv=>tJ P H t n off=some v/\k v
 |_=>False
def ab7(n:Int)(k:Nat->Prop):Prop:=∃i:Nat,n=(i:Int)/\k i
def Jf(x:Operand)(k:Nat->Prop):Prop:=
 match O x with
 |some (.bD _ n)=>bif vF x then(match n with|.ofNat i=>k i|_=>False)else ab7 n k
 |_=>False
def isCells:Option aO->Option LV
 |some (.ah vs _)=>some vs
 |_=>none
def ads(id off sz:Nat)(n:Int)(k:AV->Prop):Nat->Nat->Prop
 |_,0=>True
 |j,c+1=>(n=(j:Int)->k (.aa id (off+j*sz)))/\ads id off sz n k (Nat.succ j) c
def agc(t:TypeId)(x i:Operand)(k:AV->Prop):Prop:=
 match P.underlying t with
 |some (.slice e)=>match O x with
  |some (.aq cs len sz)=>bif (cy P e).any (Nat.beq sz)then Jf O i λi=>i<len/\anl P e λdE=>(cs.drop (i*sz)).take sz=dE/\k (.qI dE)else False
  |some (.ad id len sz)=>bif (cy P e).any (Nat.beq sz)then Jf O i λi=>i<len/\k (.aa id (i*sz))else False
  |some (.bK id off len _ sz _)=>match isCells (H.aR id)with
   |some _=>yQ (gh P O H (.indexAddr t x i)) k
   |none=>bif (cy P e).any (Nat.beq sz)then Jf O i λi=>i<len/\k (.aa id (off+i*sz))else False
  |_=>False
 |some (.array c e)=>bif vF i then yQ (gh P O H (.indexAddr t x i)) k else
  match O x,O i with
  |some (.aa id off),some (.bD _ n)=>match cy P e with
   |some sz=>(0<=n/\n<(c:Int))/\ads id off sz n k 0 c
   |none=>False
  |_,_=>False
 |_=>yQ (gh P O H (.indexAddr t x i)) k
def adr(P:Program)(e:TypeId)(sz:Nat)(cs:LV)(n:Int)(k:AV->Prop):Nat->Nat->Prop
 |_,0=>True
 |j,c+1=>(n=(j:Int)->yQ (fi P e cs (j*sz)) k)/\adr P e sz cs n k (Nat.succ j) c
def agb(t:TypeId)(x i:Operand)(k:AV->Prop):Prop:=
 match O x,O i with
 |some (.aj cs),some (.bD _ n)=>bif vF i then yQ (gh P O H (.index t x i)) k else
  match P.underlying t with
  |some (.array c e)=>match cy P e with
   |some sz=>(0<=n/\n<(c:Int))/\adr P e sz cs n k 0 c
   |none=>False
  |_=>False
 |some (.ao s),some (.bD _ _)=>match P.underlying t with
  |some .string=>Jf O i λi=>∃b:Nat,s[i]? =some b/\k (.bD .u8 (.ofNat b))
  |_=>False
 |_,_=>False
def aqp(P:Program)(kt e:TypeId)(sz:Nat)(es:List (AV×AV×Nat))(key:AV):Option (Nat×Nat×Bool):=
 match lu P kt e es key with
 |some (.gV n len s,b)=>bif Nat.beq s sz then some (n,len,b)else none
 |some (.aM,b)=>some (0,0,b)
 |_=>none
def asu(P:Program)(kt e:TypeId)(es:List (AV×AV×Nat))(key:AV)(ok:Bool)(k:AV->Prop):Prop:=
 match P.underlying e with
 |some (.slice e')=>match cy P e' with
  |some sz=>∃(n len:Nat) (b:Bool),aqp P kt e sz es key=some (n,len,b)/\k (n5 ok (.gV n len sz) b)
  |none=>False
 |some (.pointer _)=>∃c:Bool,aZ c (∃b:Bool,lu P kt e es key=some (.kZ,b)/\k (n5 ok .kZ b)) (∃(n off:Nat) (b:Bool),lu P kt e es key=some (.ei n off,b)/\k (n5 ok (.ei n off) b))
 |_=>Ig P e λv=>∃b:Bool,lu P kt e es key=some (v,b)/\k (n5 ok v b)
def age(t:TypeId)(x key:Operand)(ok:Bool)(k:AV->Prop):Prop:=
 match P.underlying t,O x,O key with
 |some (.map kt e),some (.aS id),some key=>match H.aR id with
  |some (.bI es _ _)=>bif uI P kt key then(match H.x with|none=>Ig P e λv=>∃b:Bool,lu P kt e es key=some (v,b)/\k (n5 ok v b)|some _=>asu P kt e es key ok k)else False
  |_=>False
 |some (.map kt e),some .oz,some key=>bif uI P kt key then yQ (((kA P e).map (n5 ok · false)).map (mc P H e ok)) k else False
 |_,_,_=>False
def zr(o:Option Operand)(d:Nat)(k:Nat->Prop):Prop:=
 match o with
 |none=>k d
 |some x=>Jf O x k
def PI(ex:Bool)(lo:Option Operand)(cap l:Nat):Nat:= @Bool.rec (λ_=>Nat) (match lo with|none=>cap|some _=>0) (cap-l) ex
def agh(t:TypeId)(x:Operand)(lo hi mx:Option Operand)(k:AV->Prop):Prop:=
 match O x with
 |some (.aq cs len sz)=>match mx with
  |none=>bif (match P.underlying t with|some (.slice e)=>(cy P e).any (Nat.beq sz)|_=>false)then
   zr O lo 0 λl=>zr O hi len λh=>(l<=h/\h<=len)/\k (.aq ((cs.drop (l*sz)).take ((h-l)*sz)) (h-l) sz)else False
  |some mx=>bif lo.isNone&&hi.isSome&&(match P.underlying t with|some (.slice e)=>(cy P e).any (Nat.beq sz)|_=>false)then
   zr O (some mx) 0 λm=>zr O hi 0 λh=>(m=h/\h<=len)/\k (.xG (cs.take (h*sz)) h sz)else False
 |some (.bK id off len cap sz ex)=>bif mx.isNone&&(match P.underlying t with|some (.slice e)=>(cy P e).any (Nat.beq sz)|_=>false)then
   zr O lo 0 λl=>zr O hi len λh=>(l<=h/\h<=(bif ex then cap else len))/\k (.bK id (off+l*sz) (h-l) (PI ex lo cap l) sz ex)else False
 |some (.ad id len sz)=>bif mx.isNone&&(match P.underlying t with|some (.slice e)=>(cy P e).any (Nat.beq sz)|_=>false)then
   1<=len/\zr O lo 0 λl=>zr O hi len λh=>(l<=h/\h<=len)/\k (.bK id (0+l*sz) (h-l) (PI false lo 1 l) sz false)else False
 |some (.ao s)=>bif mx.isNone&&(match P.underlying t with|some .string=>true|_=>false)then
   zr O lo 0 λl=>zr O hi s.length λh=>(l<=h/\h<=s.length)/\k (.ao ((s.take h).drop l))else False
 |_=>yQ (gh P O H (.slice t x lo hi mx)) k
def agf(c a b:Operand)(k:AV->Prop):Prop:=
 match O c,O a,O b with
 |some (.ai t),some (.ai x),some (.ai y)=>k (.ai (bif t then x else y))
 |some (.ai t),some x,some y=>aZ t (k x) (k y)
 |_,_,_=>False
def Yr(op:BinOp)(t:TypeId)(len:Nat)(k:AV->Prop):Prop:=
 match P.underlying t with
 |some (.slice _)=>len≠0/\(match op with|.eql=>k (.ai false)|.neq=>k (.ai true)|_=>False)
 |_=>False
def aga(op:BinOp)(t:TypeId)(x y:Operand)(yt:TypeId)(k:AV->Prop):Prop:=
 match O x,O y with
 |some (.aj cs),some (.aj ds)=>match V0 P t cs ds,op with
  |some b,.eql=>k (.ai b)
  |some b,.neq=>k (.ai (!b))
  |_,_=>False
 |some (.aq _ len _),some .aM=>Yr P op t len k
 |some (.ad _ len _),some .aM=>Yr P op t len k
 |_,_=>yQ (gh P O H (.binOp op t x y yt)) k
def rd(op:Op)(k:AV->Prop):Prop:=
 match op with
 |.load t a=>agd P O H t a k
 |.indexAddr t x i=>agc P O H t x i k
 |.index t x i=>agb P O H t x i k
 |.lookup t x key ok=>age P O H t x key ok k
 |.slice t x lo hi mx=>agh P O H t x lo hi mx k
 |.pick c a b=>agf O c a b k
 |.binOp op t x y yt=>aga P O H op t x y yt k
 |op=>yQ (gh P O H op) k
def RG(o:Option (aO×(Nat->AV)))(k:AV->AH->Prop):Prop:=
 match o,H with
 |some (ob,g),⟨h,n,x⟩=>k (g n) (AH.eH ⟨h,n,x⟩ ob)
 |none,_=>False
def atj:Operand->Operand->Bool
 |.tmp a,.tmp b=>Nat.beq a b
 |_,_=>false
def mkS(elem:TypeId)(c:Nat)(s:Nat)(z:AV)(gE:Nat)(k:AV->AH->Prop):Prop:=
 bif Nat.ble gE 4194304&&Nat.ble s 4194304&&Nat.beq z.dO.length s&&z.dO.all AV.dH&&z.dO.all f_ then
  c<=4194304/\RG H (some (agv z.dO c elem,KV c c s)) k
 else False
def aqY(t:TypeId)(len cap:Operand)(k:AV->AH->Prop):Prop:=
 bif vF cap then RG H (sD P O (.makeSlice t len cap)) k else
 bif atj len cap then
  match P.underlying t,O cap with
  |some (.slice elem),some (.bD .i64 n)=>match cy P elem,kA P elem,wC P elem with
   |some s,some z,some gE=>ab7 n λc=>mkS H elem c s z gE k
   |_,_,_=>False
  |_,_=>False
 else False
def mk(op:Op)(k:AV->AH->Prop):Prop:=
 match op with
 |.makeSlice t len cap=>aqY P O H t len cap k
 |op=>RG H (sD P O op) k
def iJ(vs:LV)(off:Nat)(cs:LV):LV:=vs.take off++(cs++vs.drop (off+cs.length))
def FZ(o:Option jf)(k:AV->AH->Prop):Prop:=
 match o with
 |some (.gQ v H)=>k v H
 |_=>False
def aeq(t:TypeId)(a x:Operand)(k:AV->AH->Prop):Prop:=
 match O a,O x with
 |some (.aa id off),some v=>match H.aR id,cy P t with
  |some (.dE vs e),some s=>bif Nat.beq v.dO.length s&&v.dO.all AV.dH&&v.dO.all f_ then off+v.dO.length<=vs.length/\k .mK (H.cE id (.dE (iJ vs off v.dO) e))else False
  |some (.au vs e),some s=>bif Nat.beq v.dO.length s&&v.dO.all AV.dH&&v.dO.all f_ then off+v.dO.length<=vs.length/\k .mK (H.cE id (.au (iJ vs off v.dO) e))else False
  |_,_=>FZ (L_ P O H t a x) k
 |some (.ei n off),some v=>match cy P t with
  |some s=>bif Nat.beq v.dO.length s&&v.dO.all AV.dH&&v.dO.all f_ then∃(vs:LV) (e:TypeId),H.gO n=some (.ah vs e)/\off+v.dO.length<=vs.length/\k .mK (H.oH n (some (.ah (iJ vs off v.dO) e)))else False
  |none=>False
 |_,_=>False
def Xt(t:TypeId)(m key x:Operand)(k:AV->AH->Prop):Prop:=
 match P.underlying t,O m,O key,O x with
 |some (.map kt _),some (.aS id),some key,some v=>match H.aR id with
  |some (.bI es clock p)=>bif uI P kt key&&yi p key v then
    ∃(bF:List (AV×AV×Nat)) (c':Nat),y4 P kt es clock key v=some (bF,c')/\k .mK (H.cE id (.bI bF c' p))else False
  |_=>False
 |_,_,_,_=>False
def Ic(P:Program)(kt e:TypeId)(sz:Nat)(es:List (AV×AV×Nat))(clock:Nat)(p:Bool)(key:AV):Option (Nat×Nat×Nat×List (AV×AV×Nat)×Nat):=
 match Fu P kt e es clock p key with
 |some (.gV n len s,b,bF,c')=>bif Nat.beq s sz then some (n,len,b,bF,c')else none
 |some (.aM,b,bF,c')=>some (0,0,b,bF,c')
 |_=>none
def aph(kt e:TypeId)(es:List (AV×AV×Nat))(clock:Nat)(p:Bool)(key:AV)(id:Nat)(k:AV->AH->Prop):Prop:=
 match P.underlying e with
 |some (.slice e')=>match cy P e' with
  |some sz=>∃(n len b:Nat) (bF:List (AV×AV×Nat)) (c':Nat),Ic P kt e sz es clock p key=some (n,len,b,bF,c')/\k (.aL [.gV n len sz,yl b]) (H.cE id (.bI bF c' p))
  |none=>False
 |_=>False
def aCZ(it:Operand)(k:AV->AH->Prop):Prop:=
 ∃(n:Int) (v:AV),Di O H it=some (.gQ (.aL [.bD .i64 n,v]) H)/\k (.aL [.bD .i64 n,v]) H
def aem(t:TypeId)(m key:Operand)(k:AV->AH->Prop):Prop:=
 match P.underlying t,O m,O key with
 |some (.map kt e),some (.aS id),some key=>match H.aR id with
  |some (.bI es clock p)=>bif uI P kt key then
    (match H.x with
    |none=>Ig P e λv=>∃(b:Nat) (bF:List (AV×AV×Nat)) (c':Nat),Fu P kt e es clock p key=some (v,b,bF,c')/\k (.aL [v,yl b]) (H.cE id (.bI bF c' p))
    |some _=>aph P H kt e es clock p key id k)else False
  |_=>False
 |_,_,_=>False
def aen(m s x:Operand)(k:AV->AH->Prop):Prop:=
 match O m,O s,O x with
 |some (.aS id),some (.bD _ (.ofNat b)),some v=>match H.aR id with
  |some (.bI es clock p)=>bif yi p .kZ v then
    ∃bF:List (AV×AV×Nat),Gl es b v=some bF/\k .mK (H.cE id (.bI bF clock p))else False
  |_=>False
 |_,_,_=>False
def ael(argTypes:Array TypeId)(id:Nat)(key:AV)(k:AV->AH->Prop):Prop:=
 match argTypes[0]?.bind P.underlying,H.aR id with
 |some (.map kt _),some (.bI es clock p)=>bif uI P kt key then
   ∃bF:List (AV×AV×Nat),CV P kt es key=some bF/\k .mK (H.cE id (.bI bF clock p))else False
 |_,_=>False
def NL(H:AH)(id len sz:Nat)(vs:LV):Prop:=(len=0/\vs=[])\/(len≠0/\∃el,H.gO id=some (.au vs el)/\vs.length=len*sz)
def avg(H:AH)(id len:Nat)(vs:LV)(elem:TypeId)(k:Nat->AH->Prop):Prop:=
 match H with
 |⟨h,m,some ⟨g,c⟩⟩=>k c ⟨(h.fB m (.bg [])).fB (Nat.succ m) (.bg []),Nat.succ (Nat.succ m),some ⟨λi=>bif Nat.beq i c then some (.au vs elem)else bif Nat.beq i id&& !Nat.beq len 0 then none else g i,c+1⟩⟩
 |_=>False
def ag9(sz:Nat)(x:AV)(k:Nat->LV->Prop):Prop:=
 match x with
 |.aq cs len s=>bif Nat.beq s sz then k len cs else False
 |.ad id len s=>bif Nat.beq s sz then match H.aR id with
   |some (.au vs _)=>vs.length=len*sz/\k len vs
   |_=>False
  else False
 |.gV id len s=>bif Nat.beq s sz then∃vs:LV,NL H id len sz vs/\k len vs else False
 |.bK id off len cap s ex=>match XA (H.aR id)with
  |some vs=>bif Nat.beq s sz then off+len*sz<=vs.length/\k len ((vs.drop off).take (len*sz))else False
  |none=>match zt H sz (.bK id off len cap s ex)with
   |some (n,l)=>k n l
   |none=>False
 |x=>match zt H sz x with
  |some (n,l)=>k n l
  |none=>False
def Gg(l:LV):Prop:=l.all AV.dH=true/\l.all f_=true
def CO(elem:TypeId)(sz:Nat)(s:AV)(n:Nat)(l:LV)(k:AV->AH->Prop):Prop:=
 match s with
 |.ad id len gk=>bif Nat.beq sz gk then match H.aR id with
   |some (.au vs _)=>(vs.length=len*sz/\len+n<=4194304/\Gg l)/\k (.ad H.br (len+n) sz) (AH.eH (H.cE id (.bg [])) (.au (vs++l) elem))
   |_=>False
  else False
 |.bK id off len cap gk ex=>bif Nat.beq sz gk then match H.aR id with
   |some (.dE vs _)=>(off+len*sz<=vs.length/\len+n<=4194304/\Gg l/\ex=false)/\k (.bK H.br 0 (len+n) 1 sz false) (AH.eH (H.cE id (.bg [])) (.dE ((vs.drop off).take (len*sz)++l) elem))
   |some (.au vs _)=>(off+len*sz<=vs.length/\len+n<=4194304/\Gg l/\ex=false)/\k (.bK H.br 0 (len+n) 1 sz false) (AH.eH (H.cE id (.bg [])) (.au ((vs.drop off).take (len*sz)++l) elem))
   |_=>match mM H elem sz (.bK id off len cap gk ex) n l with
    |some (v,H')=>k v H'
    |none=>False
  else False
 |.gV id len gk=>bif Nat.beq sz gk then(len+n<=4194304/\Gg l)/\∃vs:LV,NL H id len sz vs/\avg H id len (vs++l) elem (λnm H'=>k (.gV nm (len+n) sz) H')else False
 |s=>match mM H elem sz s n l with
  |some (v,H')=>k v H'
  |none=>False
def ae0(x:AV):Bool:=
 match x with
 |.bK _ _ _ _ _ true=>true
 |.aM=>true
 |_=>false
def Px(sz:Nat)(s:AV)(k:Prop):Prop:=
 match s with
 |.aM=>k
 |.bK _ _ len _ gk _=>bif Nat.beq sz gk then len<=4194304/\k else False
 |.ad _ len gk=>bif Nat.beq sz gk then len<=4194304/\k else False
 |.gV _ len gk=>bif Nat.beq sz gk then len<=4194304/\k else False
 |.tb=>k
 |_=>False
def ab2(elem:TypeId)(sz:Nat)(s:AV)(n:Nat)(l:LV)(k:AV->AH->Prop):Prop:=
 match s with
 |.aM=>(n<=4194304/\Gg l)/\k (.bK H.br 0 n 1 sz false) (AH.eH H (.au l elem))
 |.bK id off len cap gk ex=>match H.aR id with
  |some (.ah vs _)=>bif Nat.beq sz gk then(off+len*sz<=vs.length/\len+n<=4194304/\Gg l/\Gg vs/\ex=true/\cap<=len)/\k (.bK H.br 0 (len+n) 1 sz false) (AH.eH H (.au ((vs.drop off).take (len*sz)++l) elem))else False
  |some (.dE _ _)=>CO H elem sz (.bK id off len cap gk ex) n l k
  |some (.au _ _)=>CO H elem sz (.bK id off len cap gk ex) n l k
  |_=>False
 |.ad id len gk=>CO H elem sz (.ad id len gk) n l k
 |.gV id len gk=>CO H elem sz (.gV id len gk) n l k
 |_=>False
def UW(elem:TypeId)(sz:Nat)(s:AV)(BA dE:Bool)(n:Nat)(l:LV)(k:AV->AH->Prop):Prop:=
 bif BA then(match n with|0=>Px sz s (k s H)|_+1=>CO H elem sz s n l k)
 else(n=0->Px sz s (k s H))/\(1<=n->bif dE then ab2 H elem sz s n l k else CO H elem sz s n l k)
def ab3(elem:TypeId)(sz:Nat)(s:AV)(BA dE:Bool)(n:Nat)(l:LV)(k:AV->AH->Prop):Prop:=
 match s with
 |.xG cs len gk=>bif Nat.beq sz gk then(len+n<=4194304/\l.all f_=true)/\k (.aq (cs++l) (len+n) sz) H else False
 |s=>UW H elem sz s BA dE n l k
def aex:Option TypeDesc->Bool
 |some (.slice _)=>true
 |_=>false
def aut(P:Program)(elem:TypeId)(sz gE:Nat)(t:Option TypeDesc)(x:AV)(k:Nat->LV->Prop):Prop:=
 match t,x,kA P elem with
 |some (.int _),.bD .i64 n,some z=>bif Nat.ble gE 4194304&&Nat.beq z.dO.length sz then ab7 n λc=>c<=4194304/\k c (lA z.dO c)else False
 |_,_,_=>False
def aej(argTypes:Array TypeId)(s x:AV)(k:AV->AH->Prop):Prop:=
 match argTypes[0]?.bind P.underlying with
 |some (.slice elem)=>match cy P elem,wC P elem with
  |some sz,some gE=>bif Nat.ble gE 4194304&&(kA P elem).any (λz=>Nat.beq z.dO.length sz)&&aex (argTypes[1]?.bind P.underlying)then
    ag9 H sz x λn l=>ab3 H elem sz s (ae0 x) (Rl x) n l k
   else aut P elem sz gE (argTypes[1]?.bind P.underlying) x λn l=>UW H elem sz s false true n l k
  |_,_=>False
 |_=>False
def aek(b:Builtin)(args:LV)(argTypes:Array TypeId)(k:AV->AH->Prop):Prop:=
 match b,args with
 |.append,[s,x]=>aej P H argTypes s x k
 |.delete,[.aS id,key]=>ael P H argTypes id key k
 |b,args=>FZ (L5 P H b args argTypes) k
variable(S:aX)
def IQ(r:Option aa8)(k kp:AV->AH->Prop):Prop:=
 match r with
 |some ⟨p,.dI v,H'⟩=>p/\kp v H'
 |some ⟨p,v,H'⟩=>p/\k v H'
 |none=>False
def MH(f:FuncId)(args:LV)(k kp:AV->AH->Prop):Prop:=
 match aeY S f args H with
 |some (ps,n,xb,.A1 x)=>IQ (xj ps n H xb x) k kp
 |some (ps,n,xb,.ex W g _)=>∃w:W,IQ (xj ps n H xb (g w)) k kp
 |some (ps,n,xb,.V4 W g _)=>∃b:Bool,@Bool.rec (λ_=>Prop) (∃w:W false,IQ (xj ps n H xb (g false w)) k kp) (∃w:W true,IQ (xj ps n H xb (g true w)) k kp) b
 |none=>False
def F4(f:FuncId):Bool:=Nat.beq f 999999
def aep(l:Nat)(args:LV)(k:AV->AH->Prop):Prop:=
 match H.aR l,args with
 |some (.gX st pe fn tmps nt params assign body d),[a]=>match params with
  |[p]=>match D0 (.gX st pe fn tmps nt params assign body d) l [a]with
   |some _=>MH H S 999999 [.ib l,a] k λ_ _=>False
   |none=>False
  |_=>False
 |_,_=>False
def Xs(o:Option jf)(k kp:AV->AH->Prop):Prop:=
 match o with
 |some (.rW f args)=>bif F4 f then False else MH H S f args k kp
 |some (.xR l args)=>aep H S l args k
 |_=>False
def ape(c:Call)(k kp:AV->AH->Prop):Prop:=
 match c.callee with
 |.value f=>Xs H S (adQ P O f c.args) k kp
 |.builtin b=>match x_ O c.args.toList with
  |some l=>aek P H b l c.argTypes k
  |none=>False
 |.invoke r name=>Xs H S (WI P O H r name c.args) k kp
def hv(op:Op)(k kp:AV->AH->Prop):Prop:=
 match op with
 |.store t a x=>aeq P O H t a x k
 |.mapUpdate t m key x=>Xt P O H t m key x k
 |.insert t m key x=>Xt P O H t m key x k
 |.mapEntry t m key=>aem P O H t m key k
 |.entryStore _ m s x=>aen O H m s x k
 |.call c=>ape P O H S c k kp
 |.range t x=>FZ (WN P O H t x) k
 |.next it zR=>FZ (L9 O H it zR) k
 |.entry it=>aCZ O H it k
 |_=>False
end aCK
def RX(P:Program)(S:aX)(O:Operand->Option AV)(H:AH)(op:Op)(k kp:AV->AH->Prop):Prop:=
 bif qp op then rd P O H op (λv=>k v H)
 else bif uD op then mk P O H op k
 else hv P O H S op k kp
def HY(nt:Nat)(tmps:Tr AV)(o:Oper)(v:AV)(k:Tr AV->Prop):Prop:=
 match pZ nt tmps o.dst v with
 |some t=>k t
 |none=>False
def Wp(ops:Array Oper)(o:Oper)(tmps:Tr AV)(wb no:Tr AV->Prop):Prop:=
 match o.guard with
 |none=>wb tmps
 |some (j,rO)=>match(ops[j]?).bind (·.dst)with
  |none=>False
  |some d=>match tmps.bL d with
   |some (.ai b)=>aZ b (bif rO then wb (tmps.fB d (.ai true))else no (tmps.fB d (.ai true))) (bif rO then no (tmps.fB d (.ai false))else wb (tmps.fB d (.ai false)))
   |some (.aL [])=>no tmps
   |_=>False
section par
variable(P:Program)(S:aX)
def SH(ops:Array Oper)(ms:LN)(base cur:Tr AV)(H:AH):LN->Prop->Prop
 |[],k=>k
 |j::l,k=>match ops[j]? with
  |none=>False
  |some o=>match n_ ops o cur.bL with
   |none=>False
   |some false=>SH ops ms base cur H l k
   |some true=>match o.dst with
    |none=>False
    |some d=>match cur.bL d with
     |none=>False
     |some v=>gh P (KW (zv ops ms base cur j)) H o.op=some v/\SH ops ms base cur H l k
def Jm(ops:Array Oper)(ms:LN)(base:Tr AV)(nt:Nat)(kp:AV->AH->Prop):LN->LN->Tr AV->AH->(Tr AV->AH->Prop)->Prop
 |[],_,tmps,H,k=>k tmps H
 |i::rest,done,tmps,H,k=>match ops[i]? with
  |none=>False
  |some o=>Wp ops o tmps
   (λtmps=>bif tG o.op then RX P S (iC tmps) H o.op (λv H'=>HY nt tmps o v λt=>Jm ops ms base nt kp rest (i::done) t H' k) kp
     else RX P S (iC tmps) H o.op (λv H'=>HY nt tmps o v λt=>SH P ops ms base t H' (UR ops ms done i) (Jm ops ms base nt kp rest (i::done) t H' k)) kp)
   (λtmps=>HY nt tmps o .mK λt=>Jm ops ms base nt kp rest (i::done) t H k)
end par
def De:Code->Option Nat
 |.region id _ _=>some id
 |.seq a b=>match De a with|some i=>some i|none=>De b
 |.cond _ a b=>match De a with|some i=>some i|none=>De b
 |.block _ b=>De b
 |.loop b=>De b
 |.scope b=>De b
 |_=>none
section qD
variable(P:Program)(S:aX)(fn nt m0:Nat)(aQ:Nat->LN)(L:Tr AV->AH->List dQ->Prop)(Q:AV->AH->Prop)(ret:Bool->Tr AV->AH->Prop)(dI:AV->Tr AV->AH->Prop)(rd:Option Nat)
def R5:dQ->Bool
 |.Hp _=>false
 |.Ez _=>false
 |_=>true
def mf:List dQ->Bool
 |[]=>true
 |x::l=>R5 x&&mf l
def UY(body:Code)(k:List dQ)(tmps:Tr AV)(H:AH):Prop:=
 match De body with
 |none=>False
 |some i=>match nD m0 (JA tmps (aQ i)) H with
  |some ⟨ps,H2⟩=>match sT (iX ps) tmps (aQ i)with
   |some t=>bif mf k then L t H2 (.gP body::.sY body::k)else False
   |none=>False
  |none=>False
def qZ(tmps:Tr AV)(H:AH):Prop:=
 match P.funcs[fn]? with
 |some f=>match uO P H tmps f.results.toList with
  |some l=>match nD m0 (yH (Ee l)) H with
   |some ⟨ps,H2⟩=>match eF (iX ps) (Ee l)with
    |some v=>Q v H2
    |none=>False
   |none=>False
  |none=>False
 |none=>False
def U2(todo:List dQ)(tmps:Tr AV)(H:AH):Prop:=
 match nD m0 (JA tmps (aQ 999998)) H with
 |some ⟨ps,H2⟩=>match sT (iX ps) tmps (aQ 999998)with
  |some t=>bif mf todo then L t H2 todo else False
  |none=>False
 |none=>False
def UZ(x:AV)(_:Tr AV)(H:AH):Prop:=
 match nD m0 (yH x) H with
 |some ⟨ps,H2⟩=>match eF (iX ps) x with
  |some y=>Q (.dI y) H2
  |none=>False
 |none=>False
def acd(LR:Tr AV->AH->Prop)(tmps:Tr AV)(H:AH):Prop:=
 match nD m0 (JA tmps (aQ 999996)) H with
 |some ⟨ps,H2⟩=>match sT (iX ps) tmps (aQ 999996)with
  |some t=>LR t H2
  |none=>False
 |none=>False
def aca(LP:AV->Tr AV->AH->Prop)(x:AV)(tmps:Tr AV)(H:AH):Prop:=
 match nD m0 (yH x++JA tmps (aQ 999996)) H with
 |some ⟨ps,H2⟩=>match eF (iX ps) x,sT (iX ps) tmps (aQ 999996)with
  |some y,some t=>LP y t H2
  |_,_=>False
 |none=>False
def ak4(c:Code)(k:List dQ)(tmps:Tr AV)(H:AH):Prop:=
 match nD m0 (JA tmps (aQ 999999)) H with
 |some ⟨ps,H2⟩=>match sT (iX ps) tmps (aQ 999999)with
  |some t=>bif mf k then L t H2 (.gP c::k)else False
  |none=>False
 |none=>False
def U0(d:Nat)(tmps:Tr AV)(H:AH):Prop:=
 match H.aR d with
 |some (.qR (some []))=>qZ P fn m0 Q tmps (H.cE d (.bg []))
 |_=>False
def ace(l:Nat)(b:Bool)(tmps:Tr AV)(H:AH):Prop:=
 bif b then False else
 match H.aR l with
 |some (.gX _ _ fn tm nt ps a bd d)=>match nD m0 [] (H.cE l (.gX .ready none fn tm nt ps a bd d))with
  |some ⟨_,H2⟩=>Q (.ai true) H2
  |none=>False
 |_=>False
def aDn:LN->Bool
 |[x]=>Nat.beq x 1000000
 |_=>false
def ZT(body:Code):Bool:=
 match De body with
 |some i=>aDn (aQ i)
 |none=>false
def aey:Op->Bool
 |.defer .. =>true
 |.next _ false=> !(aQ 999998).isEmpty
 |.call c=>(match c.callee with|.value (.func f)=>(aQ 999997).any (Nat.beq (2000000+f))|.builtin .append=>(aQ 999997).any (Nat.beq 3000000)|_=>false)
 |_=>false
def aez(id:Nat):Bool:=(aQ 999995).any (Nat.beq (2000000+id))
def arX(tmps:Tr AV):Op->Option AV
 |.panic x=>match iC tmps x with
  |some (.ep t v)=>some (.ep t v)
  |_=>none
 |_=>none
def apM:Op->Bool
 |.panic _=>true
 |_=>false
def mh:Nat->Tr AV->List dQ->AH->Prop
 |0,_,_,_=>False
 |n+1,tmps,todo,H=>match todo with
  |[]=>ret false tmps H
  |.xO _::k=>mh n tmps k H
  |.wo _::k=>mh n tmps k H
  |.Cz::k=>match rd with
   |some l=>match H.aR l with
    |some (.gX .ready p lf lt ln ps a b d)=>mh n tmps k (H.cE l (.gX .busy p lf lt ln ps a b d))
    |_=>False
   |none=>False
  |.sY body::k=>bif ZT aQ body then mh n tmps (.gP body::.sY body::k) H else UY m0 aQ L body k tmps H
  |.gW ops i l::k=>match l with
   |[]=>mh n tmps k H
   |o::rest=>Wp ops o tmps
    (λtmps=>bif apM o.op then(match arX tmps o.op with|some v=>dI v tmps H|none=>False)
      else bif aey aQ o.op then U2 m0 aQ L (.gW ops i (o::rest)::k) tmps H
      else RX P S (iC tmps) H o.op (λv H'=>HY nt tmps o v λt=>mh n t (.gW ops (Nat.succ i) rest::k) H') (λx H'=>dI x tmps H'))
    (λtmps=>HY nt tmps o .mK λt=>mh n t (.gW ops (Nat.succ i) rest::k) H)
  |.gP c::k=>match c with
   |.ret=>ret true tmps H
   |.skip=>mh n tmps k H
   |.label _=>mh n tmps k H
   |.seq a b=>mh n tmps (.gP a::.gP b::k) H
   |.cond c a b=>match iC tmps c with
    |some (.ai t)=>aZ t (mh n tmps (.gP a::k) H) (mh n tmps (.gP b::k) H)
    |_=>False
   |.block id body=>mh n tmps (.gP body::.xO id::k) H
   |.scope body=>mh n tmps (.gP body::.wo body::k) H
   |.loop body=>bif ZT aQ body then mh n tmps (.gP body::.sY body::k) H else UY m0 aQ L body k tmps H
   |.exit id=>match Ih id k with
    |some k'=>mh n tmps k' H
    |none=>False
   |.region id ops te=>bif aez aQ id then U2 m0 aQ L (.gP (.region id ops te)::k) tmps H else bif te then
     match Nd ops with
     |some pl=>Jm P S ops pl.ms tmps nt (λx H'=>dI x (LC tmps (Lk ops)) H') pl.Hu [] tmps H λt H'=>mh n t k H'
     |none=>False
    else mh n tmps (.gW ops 0 ops.toList::k) H
   |.rangeFunc f ps a b=>ak4 m0 aQ L (.rangeFunc f ps a b) k tmps H
   |_=>False
  |_=>False
end qD
def qE(P:Program)(S:aX)(aQ:Nat->LN)(L:Tr AV->AH->List dQ->Prop)(Q:AV->AH->Prop)(n:Nat)(f:FuncId)(args:LV)(H:AH):Prop:=
 match P.funcs[f]? with
 |some fn=>match fn.body with
  |some c=>bif Nat.ble args.length fn.ntmps&& !(fn.name== "runtime.NumGoroutine")then mh P S fn.ntmps H.br aQ L (λ_=>qZ P f H.br Q) (UZ H.br Q) none n (Tr.Gf args 0 .iq) [.gP c] H else False
  |none=>False
 |none=>False
def pY(P:Program)(S:aX)(aQ:Nat->LN)(L:Tr AV->AH->List dQ->Prop)(Q:AV->AH->Prop)(n:Nat)(f m0:Nat)(tmps:Tr AV)(todo:List dQ)(H:AH):Prop:=
 match P.funcs[f]? with
 |some fn=>mh P S fn.ntmps m0 aQ L (λ_=>qZ P f m0 Q) (UZ m0 Q) none n tmps todo H
 |none=>False
def agC(P:Program)(S:aX)(aQ:Nat->LN)(L:Tr AV->AH->List dQ->Prop)(Q:AV->AH->Prop)(n:Nat)(f m0 d:Nat)(tmps:Tr AV)(todo:List dQ)(H:AH):Prop:=
 match P.funcs[f]? with
 |some fn=>mh P S fn.ntmps m0 aQ L (λ_=>U0 P f m0 Q d) (λ_ _ _=>False) none n tmps todo H
 |none=>False
def Nq(P:Program)(S:aX)(aQ:Nat->LN)(L:Tr AV->AH->List dQ->Prop)(LR:Tr AV->AH->Prop)(LP:AV->Tr AV->AH->Prop)(n:Nat)(f m0:Nat)(tmps:Tr AV)(todo:List dQ)(H:AH):Prop:=
 match P.funcs[f]? with
 |some fn=>mh P S fn.ntmps m0 aQ L (λ_=>acd m0 aQ LR) (aca m0 aQ LP) none n tmps todo H
 |none=>False
def agA(P:Program)(S:aX)(aQ:Nat->LN)(L:Tr AV->AH->List dQ->Prop)(Q:AV->AH->Prop)(n:Nat)(l:Nat)(a:AV)(H:AH):Prop:=
 match H.aR l with
 |some o=>match D0 o l [a]with
  |some fr=>mh P S fr.nt H.br aQ L (ace H.br Q l) (λ_ _ _=>False) (some l) n fr.Cy fr.Ke H
  |none=>False
 |none=>False
def FK:Code->List dQ->List (List dQ)
 |.loop body,k=>(.gP body::.sY body::k)::FK body (.sY body::k)
 |.seq a b,k=>FK a (.gP b::k)++FK b k
 |.cond _ a b,k=>FK a k++FK b k
 |.block id b,k=>FK b (.xO id::k)
 |.scope b,k=>FK b (.wo b::k)
 |_,_=>[]
def Gz:Code->List dQ->List (List dQ)
 |.rangeFunc f ps a b,k=>[.gP (.rangeFunc f ps a b)::k]
 |.loop body,k=>Gz body (.sY body::k)
 |.seq a b,k=>Gz a (.gP b::k)++Gz b k
 |.cond _ a b,k=>Gz a k++Gz b k
 |.block id b,k=>Gz b (.xO id::k)
 |.scope b,k=>Gz b (.wo b::k)
 |_,_=>[]
def Ss(P:Program)(f j:Nat):List dQ:=
 match P.funcs[f]? with
 |some fn=>match fn.body with
  |some c=>((Gz c [])[j]?).getD []
  |none=>[]
 |none=>[]
def aB(P:Program)(f j:Nat):List dQ:=
 match P.funcs[f]? with
 |some fn=>match fn.body with
  |some c=>((FK c [])[j]?).getD []
  |none=>[]
 |none=>[]
def agX(aQ:Nat->LN)(ops:Array Oper)(k:List dQ):Nat->List Oper->List (List dQ)
 |_,[]=>[]
 |i,o::l=>bif aey aQ o.op then(.gW ops i (o::l)::k)::agX aQ ops k (Nat.succ i) l else agX aQ ops k (Nat.succ i) l
def GP(aQ:Nat->LN):Code->List dQ->List (List dQ)
 |.region id ops te,k=>(bif aez aQ id then[.gP (.region id ops te)::k]else[])++(bif te then[]else agX aQ ops k 0 ops.toList)
 |.loop body,k=>GP aQ body (.sY body::k)
 |.seq a b,k=>GP aQ a (.gP b::k)++GP aQ b k
 |.cond _ a b,k=>GP aQ a k++GP aQ b k
 |.block id b,k=>GP aQ b (.xO id::k)
 |.scope b,k=>GP aQ b (.wo b::k)
 |_,_=>[]
def dg(P:Program)(aQ:Nat->LN)(f j:Nat):List dQ:=
 match P.funcs[f]? with
 |some fn=>match fn.body with
  |some c=>((GP aQ c [])[j]?).getD []
  |none=>[]
 |none=>[]
def aJ:List (Nat×AV)->Tr AV
 |[]=>.iq
 |(s,a)::l=>(aJ l).fB s a
def RH:List (Nat×aO)->Tr aO
 |[]=>.iq
 |(s,a)::l=>(RH l).fB s a
def et(x:Option XH)(l:List (Nat×aO))(n:Nat):AH:=⟨RH l,n,x⟩
abbrev aE:List (Nat×aO)->Nat->AH:=et none
abbrev cC(g:Nat->Option aO)(m:Nat):List (Nat×aO)->Nat->AH:=et (some ⟨g,m⟩)
end
theorem aft:∀{ps a c},iX ps a=some c->(a,c)∈ps
 |[],_,_,h=>by cases h
 |(o,n)::l,a,c,h=>by
  simp only[iX]at h;cases hb:Nat.beq o a
  .rw[hb]at h;exact dZ _ (aft h)
  .rw[hb]at h;cases h;have:=dN hb;subst this;exact dk ..
theorem M8:∀{ps a c},BJ ps c=some a->(a,c)∈ps
 |[],_,_,h=>by cases h
 |(o,n)::l,a,c,h=>by
  simp only[BJ]at h;cases hb:Nat.beq n c
  .rw[hb]at h;exact dZ _ (M8 h)
  .rw[hb]at h;cases h;have:=dN hb;subst this;exact dk ..
theorem afz:∀{l},zX l=true↔l.Nodup
 |[]=>by simp[zX]
 |a::l=>by
  simp only[zX,cT,yV,uN,afz];have:l.any (Nat.beq a)=false↔a∉l:=by
   rw[<-Bool.not_eq_true,List.any_eq_true];constructor
   .intro h hm;exact h ⟨a,hm,by simp⟩
   .rintro h ⟨x,hx,he⟩;exact h (by rw[dN he];exact hx)
  rw[this]
theorem RU:∀{ps a c},(ps.map (·.2)).Nodup->(a,c)∈ps->BJ ps c=some a
 |[],_,_,_,h=>by cases h
 |(o,n)::l,a,c,hn,h=>by
  simp only[e9,uN]at hn;simp only[BJ];rcases dU.1 h with h|h
  .cases h;simp
  .have:n≠c:=by rintro rfl;exact hn.1 (rI h)
   rw[Tr.xp];simp only[this,decide_false,cond_false];exact RU hn.2 h
theorem Yq:∀{ps a c},(ps.map (·.1)).Nodup->(a,c)∈ps->iX ps a=some c
 |[],_,_,_,h=>by cases h
 |(o,n)::l,a,c,hn,h=>by
  simp only[e9,uN]at hn;simp only[iX];rcases dU.1 h with h|h
  .cases h;simp
  .have:o≠a:=by rintro rfl;exact hn.1 (rI h)
   rw[Tr.xp];simp only[this,decide_false,cond_false];exact Yq hn.2 h
theorem RF:∀{ps:List (Nat×Nat)} {a b c},(ps.map (·.2)).Nodup->(a,c)∈ps->(b,c)∈ps->a=b:=by intro ps a b c hn h1 h2;have e1:=RU hn h1;have e2:=RU hn h2;rw[e1]at e2;cases e2;rfl
theorem aEp:∀{ps:List (Nat×Nat)} {a b c},(ps.map (·.1)).Nodup->(c,a)∈ps->(c,b)∈ps->a=b:=by intro ps a b c hn h1 h2;have e1:=Yq hn h1;have e2:=Yq hn h2;rw[e1]at e2;cases e2;rfl
section
variable{r:Nat->Option Nat}{I E:bZ}
structure u9(r:Nat->Option Nat)(I E:bZ):Prop where
 f:∀a c,r a=some c->E c=I a
 ro:∀b o,I.ro b=some o->E.ro b=some o
 xs:∀n e,I.xs n=some e->E.xs n=some e
instance{r:Nat->Option Nat}{I E:bZ}:CoeFun (u9 r I E) (λ_=>∀a c,r a=some c->E c=I a):=⟨u9.f⟩
theorem u9.pu{r I E}(h:u9 r I E):dp I.pu E.pu:=⟨λ_ _ h=>(by cases h),h.ro,h.xs⟩
mutual
theorem t_(hr:u9 r I E):∀{a a':AV} {v:Value},eF r a=some a'->VR I a v->VR E a' v
 |.ai _,a',v,h,hv=>by cases h;simpa[VR]using hv
 |.bD _ _,a',v,h,hv=>by cases h;simpa[VR]using hv
 |.ao _,a',v,h,hv=>by cases h;simpa[VR]using hv
 |.aa id off,a',v,h,hv=>by
  simp only[eF]at h;split at h;next c hc=>cases h;obtain⟨e,h1,h2⟩:=hv;exact⟨e,by rw[hr _ _ hc];exact h1,h2⟩
  .cases h
 |.kZ,a',v,h,hv=>by cases h;simpa[VR]using hv
 |.bK id off len cap sz ex,a',v,h,hv=>by
  simp only[eF]at h;split at h;next c hc=>
   obtain⟨e,x,c',h1,h2,h3,h4,h5,h6⟩:=hv;split at h
   .split at h
    .cases h;exact .inr ⟨e,x,c',by rw[hr _ _ hc];exact h1,h2,by simpa using h3,h4,by simpa using h6⟩
    .cases h;exact⟨e,x,c',by rw[hr _ _ hc];exact h1,h2,h3,h4,h5,h6⟩
   .cases h;exact⟨e,x,c',by rw[hr _ _ hc];exact h1,h2,h3,h4,h5,h6⟩
  .cases h
 |.aM,a',v,h,hv=>by cases h;simpa[VR]using hv
 |.aS id,a',v,h,hv=>by
  simp only[eF]at h;split at h;next c hc=>cases h;obtain⟨e,h1,h2⟩:=hv;exact⟨e,by rw[hr _ _ hc];exact h1,h2⟩
  .cases h
 |.oz,a',v,h,hv=>by cases h;simpa[VR]using hv
 |.cw fn f c,a',v,h,hv=>by
  simp only[eF]at h;split at h;next f' c' hf hc=>cases h;obtain⟨f1,c1,h1,hy,h2,h3⟩:=hv;exact⟨f1,c1,h1,hy,Jv hr hf h2,Jv hr hc h3⟩
  .cases h
 |.ib id,a',v,h,hv=>by
  simp only[eF]at h;split at h;next c hc=>cases h;obtain⟨e,h1,h2⟩:=hv;exact⟨e,by rw[hr _ _ hc];exact h1,h2⟩
  .cases h
 |.rV,a',v,h,hv=>by cases h;simpa[VR]using hv
 |.ep t a,a',v,h,hv=>by
  simp only[eF]at h;split at h;next c hc=>cases h;obtain⟨v',h1,h2⟩:=hv;exact⟨v',h1,t_ hr hc h2⟩
  .cases h
 |.ml,a',v,h,hv=>by cases h;simpa[VR]using hv
 |.aj cs,a',v,h,hv=>by
  simp only[eF]at h;split at h;next c hc=>cases h;obtain⟨v',h1,h2⟩:=hv;exact⟨v',h1,Jv hr hc h2⟩
  .cases h
 |.aL cs,a',v,h,hv=>by
  simp only[eF]at h;split at h;next c hc=>cases h;obtain⟨v',h1,h2⟩:=hv;exact⟨v',h1,Jv hr hc h2⟩
  .cases h
 |.yk _,a',v,h,hv=>by cases h;simpa[VR]using hv
 |.aq ..,a',v,h,hv=>by cases h;exact VR.EB _ _ rfl hv hr.pu
 |.qI _,a',v,h,hv=>by cases h;exact VR.EB _ _ rfl hv hr.pu
 |.ei ..,a',v,h,hv=>by cases h;exact VR.EB _ _ rfl hv hr.pu
 |.gV ..,a',v,h,hv=>by cases h;exact VR.EB _ _ rfl hv hr.pu
 |.tb,a',v,h,hv=>by cases h;exact VR.EB _ _ rfl hv hr.pu
 |.xG ..,a',v,h,hv=>by cases h;exact VR.EB _ _ rfl hv hr.pu
 |.dI _,a',v,h,hv=>hv.elim
 |.ad id len sz,a',v,h,hv=>by
  simp only[eF]at h;split at h;next c hc=>
   cases h;rcases hv with hv|⟨e,x,c',h1,h2⟩
   .exact .inl hv
   .exact .inr ⟨e,x,c',by rw[hr _ _ hc];exact h1,h2⟩
  .cases h
theorem Jv(hr:u9 r I E):∀{as sa:LV} {vs:List Value},k8 r as=some sa->bf I as vs->bf E sa vs
 |[],sa,vs,h,hv=>by cases h;simpa[bf]using hv
 |a::as,sa,vs,h,hv=>by
  simp only[k8]at h;split at h;next a' ha=>
   split at h;next l' hl=>cases h;obtain⟨v,eA,rfl,h1,h2⟩:=hv;exact⟨v,eA,rfl,t_ hr ha h1,Jv hr hl h2⟩
   .cases h
  .cases h
end
theorem aF3{a a'}(h:eF r a=some a'):a'.dH=a.dH:=by
 cases a<;>simp only[eF]at h<;>first
  |(cases h;rfl)
  |(split at h
    .first
      |(cases h;rfl)
      |(split at h<;>cases h<;>rfl)
      |(split at h
        .split at h<;>cases h<;>rfl
        .cases h;rfl)
    .cases h)
theorem asD:∀{as sa},k8 r as=some sa->sa.length=as.length/\sa.all AV.dH=as.all AV.dH
 |[],sa,h=>by cases h;exact aA
 |a::as,sa,h=>by
  simp only[k8]at h;split at h;next a' ha=>
   split at h;next l' hl=>cases h;have⟨h1,h2⟩:=asD hl;exact⟨by simp[h1],by simp[aF3 ha,h2]⟩
   .cases h
  .cases h
theorem asE(hr:u9 r I E):∀{es bF ms},Y7 r es=some bF->dK I es ms->dK E bF ms
 |[],bF,ms,h,he=>by cases h;simpa[dK]using he
 |(k,v,b)::es,bF,ms,h,he=>by
  simp only[Y7]at h;split at h;next k' v' l' h1 h2 h3=>cases h;obtain⟨m,Yk,rfl,a1,a2,a3,a4⟩:=he;exact⟨m,Yk,rfl,t_ hr h1 a1,t_ hr h2 a2,a3,asE hr h3 a4⟩
  .cases h
theorem aP9{z z'}(h:k8 r z=some z'):∀n,k8 r (lA z n)=some (lA z' n):=by
 have aB5:∀{l l' m m':LV},k8 r l=some l'->k8 r m=some m'->k8 r (l++m)=some (l'++m'):=by
  intro l;induction l with
  |nil=>intro l' m m' h1 h2;cases h1;simpa using h2
  |cons a l ih=>
   intro l' m m' h1 h2;simp only[k8]at h1;split at h1;next a' ha=>
    split at h1;next l1 hl=>cases h1;simp only[j3,k8,ha,ih hl h2]
    .cases h1
   .cases h1
 intro n;induction n with
 |zero=>rfl
 |succ n ih=>exact aB5 h ih
theorem Y8:∀{t t' i a'},Su r t=some t'->t'.bL i=some a'->∃a,t.bL i=some a/\eF r a=some a'
 |.iq,t',i,a',h,hg=>by cases h;cases hg
 |.gB v a b,t',i,a',h,hg=>by
  simp only[Su]at h;split at h;next x y hx hy=>
   have aC:∀v':Option AV,(∀z,v'=some z->∃z0,v=some z0/\eF r z0=some z)->(Tr.gB v' x y).bL i=some a'->∃a0,(Tr.gB v a b).bL i=some a0/\eF r a0=some a':=by
    intro v' hv hg;rw[Tr.rj]at hg;rw[Tr.rj];split at hg;next h0=>rw[aP h0];exact hv _ hg
    next h0=>
     rw[aw h0];split at hg;next h1=>rw[aP h1];exact Y8 hx hg
     next h1=>rw[aw h1];exact Y8 hy hg
   split at h
   .cases h;exact aC none (λz hz=>by cases hz) hg
   next z0=>
    split at h;next z hz=>cases h;exact aC (some z) (λw hw=>by cases hw;exact⟨z0,rfl,hz⟩) hg
    .cases h
  .cases h
theorem agn(hr:u9 r I E){ob bu e o}(h:mF r ob=some bu)(ho:OR I ob e o):OR E bu e o:=by
 cases ob<;>simp only[mF]at h<;>try (cases h;done)
 case ah vs el=>
  split at h;next l hl=>cases h;obtain⟨cs,hJ,rfl,h1,h2,h3,h4⟩:=ho;have⟨a1,a2⟩:=asD hl;exact⟨cs,hJ,rfl,h1,by rw[a1];exact h2,by rw[a1];exact Jv hr hl h3,by rw[a2];exact h4⟩
  .cases h
 case bI es c p=>
  obtain⟨bF,rfl,h2,h3⟩:=ho;cases p with
  |true=>cases h;exact⟨bF,rfl,((h3 rfl).Ki hr.pu).Ki (dp.xr _),λ_=>(h3 rfl).Ki hr.pu⟩
  |false=>
   simp at h;split at h;next l hl=>cases h;exact⟨bF,rfl,asE hr hl h2,λh=>by cases h⟩
   .cases h
 case gX st p fn t nt ps a b d=>
  split at h;next t' d' ht hd=>cases h;obtain⟨qG,ed,rfl,h1,h2⟩:=ho;refine⟨qG,ed,rfl,(hr d d' hd).trans h1,h2.1,λi x hx=>?_⟩;have⟨x0,g1,g2⟩:=Y8 ht hx;have⟨v,g3,g4⟩:=h2.2 i x0 g1;exact⟨v,g3,t_ hr g2 g4⟩
  .cases h
 case bg=>cases h;trivial
 case dE=>cases h;obtain⟨cs,el,rfl,h2,h3,h4,h5⟩:=ho;exact⟨cs,el,rfl,h2,h3,bf.ll hr.pu _ _ h4,h5⟩
 case au=>cases h;obtain⟨cs,el,rfl,h2,h3,h4,h5⟩:=ho;exact⟨cs,el,rfl,h2,h3,bf.ll hr.pu _ _ h4,h5⟩
 case vZ=>cases h;exact ho
 case iZ m since seen st=>
  obtain⟨m',rfl,h1,h2⟩:=ho;split at h;next id=>
   split at h;next ij dw=>cases h;have⟨e2,h3,h4⟩:=h2;exact⟨m',rfl,h1,e2,by rw[hr id ij dw];exact h3,h4⟩
   .cases h
  .cases h;exact⟨m',rfl,h1,h2⟩
 case qR ds=>
  split at h
  .cases h;exact ho
  .cases h;have⟨l',h1,h2⟩:=ho;cases h2;exact⟨[],h1,rfl⟩
  .cases h
theorem St{ob bu}(h:mF r ob=some bu):bu.aQ=ob.aQ:=by
 cases ob<;>simp only[mF]at h<;>try (cases h;done)
 case ah vs el=>split at h<;>cases h;rfl
 case gX st p fn t nt ps a b d=>split at h<;>cases h;rfl
 case bI es c p=>
  cases p with
  |true=>cases h;rfl
  |false=>simp at h;split at h<;>cases h;rfl
 case bg=>cases h;rfl
 case dE=>cases h;rfl
 case au=>cases h;rfl
 case vZ=>cases h;rfl
 case iZ m since seen st=>split at h<;>(try split at h)<;>cases h<;>rfl
 case qR ds=>split at h<;>cases h<;>rfl
end
theorem Z0{r H}:∀{ps t t' i bu},GV r H ps t=some t'->t'.bL i=some bu->
 (∃o ob,(o,i)∈ps/\H.aR o=some ob/\mF r ob=some bu)\/t.bL i=some bu
 |[],t,t',i,bu,h,hg=>by cases h;exact .inr hg
 |(o,n)::l,t,t',i,bu,h,hg=>by
  simp only[GV]at h;split at h;next ho=>
   rcases Z0 h hg with⟨o2,ob,h1,h2⟩|h1
   .exact .inl ⟨o2,ob,dZ _ h1,h2⟩
   .exact .inr h1
  next ob ho=>
   split at h;next dz aCH=>
    rcases Z0 h hg with⟨o2,iz,h1,h2⟩|h1
    .exact .inl ⟨o2,iz,dZ _ h1,h2⟩
    .rw[Tr.lL]at h1;by_cases hi:i=n
     .subst hi;rw[aP rfl]at h1;cases h1;exact .inl ⟨o,ob,dk ..,ho,aCH⟩
     .rw[aw hi]at h1;exact .inr h1
   .cases h
def jD(ps:List (Nat×Nat))(I:bZ):bZ:=⟨λc=>(BJ ps c).bind I.f,I.ro,I.xs⟩
structure Pk(ps:List (Nat×Nat))(n:Nat):Prop where
 n1:(ps.map (·.1)).Nodup
 n2:(ps.map (·.2)).Nodup
 lt:∀p∈ps,p.2<n
theorem aEY{ps n}(h:afI ps n=true):Pk ps n:=by unfold afI at h;simp only[cT]at h;exact⟨afz.1 h.1.1,afz.1 h.1.2,λp hp=>by have:=oC.1 h.2 p hp;exact qA this⟩
theorem z_{ps n}(h:Pk ps n)(I):u9 (iX ps) I (jD ps I):=by refine⟨λa c hac=>?_,λ_ _ h=>h,λ_ _ h=>h⟩;have:=RU h.n2 (aft hac);simp[jD,this]
theorem Nb{ps I c e}(h:jD ps I c=some e):∃a,(a,c)∈ps/\I a=some e:=by
 unfold jD at h;cases ho:BJ ps c with
 |none=>simp[ho]at h
 |some a=>simp[ho]at h;exact⟨a,M8 ho,h⟩
theorem WR.uU{I base H w}(hw:WR I base H w){ps n t}(hp:Pk ps n)(h:GV (iX ps) H ps .iq=some t):
 WR (jD ps I) base ⟨t,n,H.x⟩ w:=by
 have jZ:∀{i ob},(⟨t,n,H.x⟩:AH).aR i=some ob->∃o dW,(o,i)∈ps/\H.aR o=some dW/\mF (iX ps) dW=some ob:=by
  intro i ob hi;rcases Z0 h hi with h1|h1
  .exact h1
  .cases h1
 refine⟨?_,?_,?_,?_,hw.uP rfl rfl rfl (λ_ _=>rfl) λi ob e h1 l1 h2=>.inl ?_⟩
 .intro i ob e h1 h2;have⟨o,dW,g1,g2,g3⟩:=jZ h1;have⟨a,g4,g5⟩:=Nb h2;have:=RF hp.n2 g1 g4;subst this;have⟨o',g6,g7⟩:=hw.ey _ _ e g2 g5;exact⟨o',g6,agn (z_ hp I) g3 g7⟩
 .intro i j ob bu e e' h1 l1 h2 h3 l2 h4 hb;have⟨o,dW,g1,g2,g3⟩:=jZ h1;have⟨a,g4,g5⟩:=Nb h2;have⟨o2,iz,k1,k2,k3⟩:=jZ h3;have⟨a2,k4,k5⟩:=Nb h4;have e1:=RF hp.n2 g1 g4;have e2:=RF hp.n2 k1 k4;subst e1 e2;have:=hw.jx _ _ dW iz e e' g2 (by rw[<-St g3];exact l1) g5 k2 (by rw[<-St k3];exact l2) k5 hb;subst this;exact aEp hp.n1 g1 k1
 .intro i e h2;have⟨a,g4,g5⟩:=Nb h2;have⟨a1,a2,_⟩:=hw.lt a e g5;exact⟨a1,a2,hp.lt _ g4⟩
 .intro i ob h1;have⟨o,dW,g1,_⟩:=jZ h1;exact hp.lt _ g1
 .have⟨o,dW,g1,g2,g3⟩:=jZ h1;have⟨a,g4,g5⟩:=Nb h2;have:=RF hp.n2 g1 g4;subst this;exact⟨_,dW,e,g2,by rw[<-St g3];exact l1,g5,rfl⟩
theorem Eg{m0 mG H H2 ps}(h:nD m0 mG H=some ⟨ps,H2⟩):
 ∃t n,H2=⟨t,n,H.x⟩/\Pk ps n/\GV (iX ps) H ps .iq=some t/\(∀i,i<m0->BJ ps i=some i):=by
 unfold nD at h;split at h;rename_i uJ n _;have⟨hc,h⟩:=di h;simp at hc;split at h;next t ht=>
  cases h;refine⟨t,n,rfl,aEY hc.1,ht,λi hi=>?_⟩;have:=oC.1 hc.2 i (by simpa using hi);split at this;next j hj=>rw[hj,<-dN this]
  .cases this
 .cases h
theorem SY{r tmps}:∀{l t s a'},sT r tmps l=some t->t.bL s=some a'->∃a,tmps.bL s=some a/\eF r a=some a'
 |[],t,s,a',h,hg=>by cases h;cases hg
 |x::l,t,s,a',h,hg=>by
  simp only[sT]at h;split at h
  .cases h
  next t1 h1=>
   split at h;next a ha=>
    split at h;next b hb=>
     cases h;rw[Tr.lL]at hg;by_cases hs:s=x
     .subst hs;rw[aP rfl]at hg;cases hg;exact⟨a,ha,hb⟩
     .rw[aw hs]at hg;exact SY h1 hg
    .cases h
   .cases h;exact SY h1 hg
structure jG(m:Nat)(I E:bZ):Prop where
 f:∀id,id<m->E id=I id
 ro:∀b o,I.ro b=some o->E.ro b=some o
 xs:∀n e,I.xs n=some e->E.xs n=some e
instance{m:Nat}{I E:bZ}:CoeFun (jG m I E) (λ_=>∀id,id<m->E id=I id):=⟨jG.f⟩
theorem jG.sZ{m I E K}(h:jG m I E)(h':jG m E K):jG m I K:=⟨λid hi=>(h' id hi).trans (h id hi),λb o hb=>h'.ro b o (h.ro b o hb),λn e hn=>h'.xs n e (h.xs n e hn)⟩
theorem jG.CA(m I):jG m I I:=⟨λ_ _=>rfl,λ_ _ h=>h,λ_ _ h=>h⟩
theorem jG.mono{m n I E}(h:jG n I E)(hm:m<=n):jG m I E:=⟨λid hi=>h id (Nl hi hm),h.ro,h.xs⟩
theorem WR.noX{I base t n x w}(hw:WR I base ⟨t,n,x⟩ w):WR I base ⟨t,n,none⟩ w:=
 ⟨hw.ey,hw.jx,hw.lt,hw.nx,⟨hw.wx.ro,(λn ob h=>by cases h),(λn n' ob bu e e' h=>by cases h),(λX h=>by cases h)⟩⟩
section
variable{P:Program}{O:Operand->Option AV}{H:AH}
theorem zZ{o k}(h:yQ o k):∃v,o=some v/\k v:=by
 cases o with
 |none=>cases h
 |some v=>exact⟨v,rfl,h⟩
theorem iu{c A}(h:bif c then A else False):c=true/\A:=by
 cases c
 .cases h
 .exact⟨rfl,h⟩
theorem Bb:∀(d ts ef) {k},yh P d ts ef k->∃cs,k cs
 |0,_,_,_,h=>by cases h
 |d+1,[],ef,k,h=>⟨_,h⟩
 |d+1,t::ts,ef,k,h=>by
  simp only[yh]at h;split at h
  .exact Bb d _ _ h
  .have⟨n,h⟩:=h;exact Bb d _ _ h
  .have⟨n,h⟩:=h;exact Bb d _ _ h
  .have⟨n,h⟩:=h;exact Bb d _ _ h
  .split at h
   .have⟨cs,len,h⟩:=h;exact Bb d _ _ h
   .cases h
  .have⟨n,off,h⟩:=h;exact Bb d _ _ h
  .have⟨n,h⟩:=h;exact Bb d _ _ h
theorem P'{t k}(h:Ig P t k):∃v,k v:=by
 unfold Ig at h;split at h
 .have⟨cs,h⟩:=Bb _ _ _ h;exact⟨_,h⟩
 .have⟨cs,h⟩:=Bb _ _ _ h;split at h
  .exact⟨_,h⟩
  .cases h
 .cases h
theorem aAN{t k}(h:anl P t k):∃v,k v:=Bb _ _ _ h
theorem RM{x k}(h:Jf O x k):∃(kd:IntKind) (i:Nat),O x=some (.bD kd (.ofNat i))/\k i:=by
 unfold Jf at h;split at h;next kd n hx=>
  cases hc:vF x
  .rw[hc]at h;obtain⟨i,rfl,h⟩:=h;exact⟨kd,i,hx,h⟩
  .rw[hc]at h;simp at h;split at h;next i=>exact⟨kd,i,hx,h⟩
   .cases h
 .cases h
def HJ(a:Option AV)(d:Nat):Option Nat:=
 match a with
 |some v=>nX v
 |none=>some d
theorem AU{o d k}(h:zr O o d k):
 ∃a i,qx O o=some a/\HJ a d=some i/\k i:=by
 cases o with
 |none=>exact⟨none,d,rfl,rfl,h⟩
 |some x=>have⟨kd,i,h1,h2⟩:=RM h;exact⟨some (.bD kd (.ofNat i)),i,by simp[qx,h1],rfl,h2⟩
theorem UT{o s}(h:o.any (Nat.beq s)=true):o=some s:=by
 cases o with
 |none=>cases h
 |some x=>simp only[BM]at h;rw[dN h]
theorem apK{id vs}(h:XA (H.aR id)=some vs):H.rU id=some vs:=by
 unfold XA at h;unfold AH.rU;split at h;next ho=>cases h;rw[ho]
 next ho=>cases h;rw[ho]
 .cases h
theorem aFP{t a k}(h:agd P O H t a k):∃v,gh P O H (.load t a)=some v/\k v:=by
 unfold agd at h;simp only[gh,XQ];split at h;next id off ha=>
  rw[ha];split at h;next vs jd=>have⟨v,h1,h2⟩:=P' h;exact⟨v,by simp only[vJ,apK jd,h1],h2⟩
  .exact zZ h
 next cs ha=>rw[ha];exact zZ h
 next n off ha=>rw[ha];exact P' h
 .cases h
theorem fN{a b}(h:a<=b):Nat.ble a b=true:=by rw[vU];exact h
theorem anS{id off sz k}:∀{c j} {i:Nat},ads id off sz (i:Int) k j c->j<=i->i<j+c->k (.aa id (off+i*sz))
 |0,j,i,_,h1,h2=>by omega
 |c+1,j,i,h,h1,h2=>by
  by_cases hi:i=j
  .subst hi;exact h.1 rfl
  .exact anS h.2 (by simp;omega) (by simp;omega)
theorem aFN{t x i k}(h:agc P O H t x i k):∃v,gh P O H (.indexAddr t x i)=some v/\k v:=by
 unfold agc at h;split at h;next e hu=>
  simp only[gh,Ro,hu];split at h;next cs len sz hx=>have⟨hs,h⟩:=iu h;have⟨kd,j,hi,h⟩:=RM h;have⟨ae,h⟩:=h;have⟨dE,h1,h2⟩:=aAN h;rw[hx,hi];refine⟨_,?_,h2⟩;have hs:=UT hs;simp only[VB,hs,j4,fN (show j+1<=len from ae),mg,cond_true,h1]
  next id len sz hx=>have⟨hs,h⟩:=iu h;have⟨kd,j,hi,h⟩:=RM h;have⟨ae,h⟩:=h;rw[hx,hi];refine⟨_,?_,h⟩;have Dy:=UT hs;simp only[Dy,BM,j4,cond_true,E',fN (show j+1<=len from ae),lx]
  next id off len cap sz ex hx=>
   split at h
   .have:=zZ h;simp only[gh,Ro,hu]at this;exact this
   have⟨hs,h⟩:=iu h;have⟨kd,j,hi,h⟩:=RM h;have⟨ae,h⟩:=h;rw[hx,hi];refine⟨_,?_,h⟩;have Dy:=UT hs;simp only[cond_true,E',Dy,fN (show j+1<=len from ae)]
  .cases h
 next c e hu=>
  cases hc:vF i
  .rw[hc]at h;simp at h;split at h;next id off kd n hx hi=>
    split at h;next sz hs=>have⟨⟨h0,h1⟩,h⟩:=h;obtain⟨j,rfl⟩:=Int.eq_ofNat_of_zero_le h0;have en:=hi;refine⟨_,?_,anS h (eh _) (by omega)⟩;simp only[gh,Ro,hu,hx,en,E',hs,fN (show j+1<=c by omega),cond_true]
    .cases h
   .cases h
  .rw[hc]at h;exact zZ h
 .exact zZ h
theorem anR{e sz cs k}:∀{c j} {i:Nat},adr P e sz cs (i:Int) k j c->j<=i->i<j+c->∃v,fi P e cs (i*sz)=some v/\k v
 |0,j,i,_,h1,h2=>by omega
 |c+1,j,i,h,h1,h2=>by
  by_cases hi:i=j
  .subst hi;exact zZ (h.1 rfl)
  .exact anR h.2 (by simp;omega) (by simp;omega)
theorem aFO{t x i k}(h:agb P O H t x i k):∃v,gh P O H (.index t x i)=some v/\k v:=by
 unfold agb at h;split at h;next cs kd n hx hi=>
  cases hc:vF i
  .rw[hc]at h;simp at h;split at h;next c e hu=>
    split at h;next sz hs=>have⟨⟨h0,h1⟩,h⟩:=h;obtain⟨j,rfl⟩:=Int.eq_ofNat_of_zero_le h0;have⟨v,h2,h3⟩:=anR h (eh _) (by omega);refine⟨v,?_,h3⟩;have en:=hi;simp only[gh,XP,hu,hx,en,acU,hs,fN (show j+1<=c by omega),cond_true,h2]
    .cases h
   .cases h
  .rw[hc]at h;exact zZ h
 next s kd n hx hi=>
  split at h;next hu=>have⟨kd',j,en,b,h1,h2⟩:=RM h;refine⟨_,?_,h2⟩;simp only[gh,XP,hu,hx,en,acr,h1]
  .cases h
 .cases h
theorem aEh{kt e es key v b ok}(h:lu P kt e es key=some (v,b)):
 (match pD (iP P 100 kt) key es 0 with
   |some (some (_,v,_))=>some (n5 ok v true)
   |some none=>(kA P e).map (n5 ok · false)
   |none=>none)=some (n5 ok v b):=by
 unfold lu at h;split at h;next i v' b' hf=>cases h;first|rfl|rw[hf]
 next hf=>
  try rw[hf]
  cases hz:kA P e with
  |none=>simp[hz]at h
  |some z=>simp[hz]at h⊢;obtain⟨rfl,rfl⟩:=h;rfl
 .cases h
theorem aFQ{t x key ok k}(h:age P O H t x key ok k):∃v,gh P O H (.lookup t x key ok)=some v/\k v:=by
 unfold age at h;split at h;next kt e id ky hu hx hk=>
  split at h;next es c p ho=>
   have⟨hp,h⟩:=iu h;have go:∀{v:AV} {b:Bool},lu P kt e es ky=some (v,b)->gh P O H (.lookup t x key ok)=some (mc P H e ok (n5 ok v b)):=by intro v b h1;simp only[gh,Rp,hu,hx,hk,Rt,hp,cond_true,Ff,ho];exact congrArg (Option.map (mc P H e ok)) (aEh h1)
   split at h;next hX=>
    have⟨v,b,h1,h2⟩:=P' h;refine⟨_,go h1,?_⟩;have:mc P H e ok (n5 ok v b)=n5 ok v b:=by unfold mc;rw[hX]
    rw[this];exact h2
   next X hX=>
    unfold asu at h;split at h;next e' he=>
     split at h;next sz ca=>
      have⟨n,len,b,h1,h2⟩:=h;have key:∀v,mc P H e ok (n5 ok v b)=n5 ok (Jg sz v) b:=by intro v;unfold mc;rw[hX];simp only[he,ca];cases ok<;>rfl
      unfold aqp at h1;split at h1;next n' len' s b' hl=>have⟨hs,h1⟩:=di h1;cases h1;have hs:=dN hs;subst hs;exact⟨_,go hl,by rw[key];exact h2⟩
      next b' hl=>cases h1;exact⟨_,go hl,by rw[key];exact h2⟩
      .cases h1
     .cases h
    next e' he=>
     have key:∀v,mc P H e ok v=v:=by intro v;unfold mc;rw[hX];simp only[he]
     have⟨c,h⟩:=h;cases c
     .have⟨n,off,b,h1,h2⟩:=h;exact⟨_,go h1,by rw[key];exact h2⟩
     .have⟨b,h1,h2⟩:=h;exact⟨_,go h1,by rw[key];exact h2⟩
    next hn1 FQ=>
     have key:∀v,mc P H e ok v=v:=by intro v;unfold mc;rw[hX];simp only
     have⟨v,b,h1,h2⟩:=P' h;exact⟨_,go h1,by rw[key];exact h2⟩
  .cases h
 next kt e ky hu hx hk=>have⟨hp,h⟩:=iu h;have⟨v,h1,h2⟩:=zZ h;refine⟨v,?_,h2⟩;simp only[gh,Rp,hu,hx,hk,Rt,hp,cond_true,Ff,pD];exact h1
 .cases h
theorem Zm{t sz}(h:(match P.underlying t with|some (.slice e)=>(cy P e).any (Nat.beq sz)|_=>false)=true):∃e,P.underlying t=some (.slice e)/\cy P e=some sz:=by
 split at h;next e hu=>exact⟨e,hu,UT h⟩
 .cases h
theorem aM7{t}(h:(match P.underlying t with|some .string=>true|_=>false)=true):P.underlying t=some .string:=by
 split at h
 .assumption
 .cases h
theorem atv{id off len cap sz ex lo hi l h}(e2:HJ lo 0=some l)(e1:HJ hi len=some h)(h1:l<=h)(h2:h<=bif ex then cap else len):Jz id off len cap sz ex lo hi none=some (.bK id (off+l*sz) (h-l) (PJ ex lo cap l) sz ex):=by
 unfold Jz;cases lo<;>cases hi<;>simp only[HJ]at e1 e2⊢<;>first
  |(cases e1;cases e2;simp[fN h1,fN h2];done)
  |(cases e1;simp[e2,fN h1,fN h2];done)
  |(cases e2;simp[e1,fN h1,fN h2];done)
  |(simp[e1,e2,fN h1,fN h2];done)
theorem alq{lo a}(h:qx O lo=some a)(ex cap l):PI ex lo cap l=PJ ex a cap l:=by
 cases lo with
 |none=>cases h;rfl
 |some x=>
  simp only[qx]at h;cases hx:O x with
  |none=>rw[hx]at h;cases h
  |some v=>rw[hx]at h;cases h;rfl
theorem aFT{t x lo hi mx k}(h:agh P O H t x lo hi mx k):∃v,gh P O H (.slice t x lo hi mx)=some v/\k v:=by
 unfold agh at h;split at h;next cs len sz hx=>
  cases mx with
  |none=>
   have⟨hc,hq⟩:=iu h;have⟨e,hu,hs⟩:=Zm hc;have⟨a,l,h1,h2,hq⟩:=AU hq;have⟨b,h',h3,h4,hq⟩:=AU hq;have⟨⟨g1,g2⟩,hq⟩:=hq;refine⟨_,?_,hq⟩;simp only[gh,DK,h1,h3,hu,hx,hs,show qx O none=some none from rfl,BM,j4,cond_true];unfold SB;cases a<;>cases b<;>simp only[HJ]at h2 h4⊢<;>first
    |(cases h2;cases h4;simp[fN g1,fN g2];done)
    |(cases h2;simp[h4,fN g1,fN g2];done)
    |(cases h4;simp[h2,fN g1,fN g2];done)
    |(simp[h2,h4,fN g1,fN g2];done)
  |some mx=>
   have⟨hc,hq⟩:=iu h;simp only[cT]at hc;have⟨e,hu,hs⟩:=Zm hc.2;have nU:lo=none:=by cases lo with|none=>rfl|some _=>exact absurd hc.1.1 (by simp)
   subst nU;obtain⟨hi,rfl⟩:∃y,hi=some y:=by cases hi with|none=>exact absurd hc.1.2 (by simp)|some y=>exact⟨y,rfl⟩
   have⟨a,l,h1,h2,hq⟩:=AU hq;have⟨b,h',h3,h4,hq⟩:=AU hq;have⟨⟨g1,g2⟩,hq⟩:=hq;subst g1;refine⟨_,?_,hq⟩;have aue:∀{x:Operand} {a:Option AV},qx O (some x)=some a->∃v,a=some v:=by
    intro x a h;simp only[qx]at h;cases hx:O x with
    |none=>rw[hx]at h;cases h
    |some v=>rw[hx]at h;cases h;exact⟨v,rfl⟩
   obtain⟨va,rfl⟩:=aue h1;obtain⟨vb,rfl⟩:=aue h3;simp only[HJ]at h2 h4;simp only[gh,DK,h1,h3,hu,hx,hs,show qx O none=some none from rfl,BM,j4,cond_true];simp only[SB,h2,h4,j4,fN g2,pW,cond_true]
 next id off len cap sz ex hx=>
  have⟨hc,hq⟩:=iu h;simp at hc;have⟨e,hu,hs⟩:=Zm hc.2;have Dt:mx=none:=by cases mx<;>simp at hc⊢
  subst Dt;have⟨a,l,h1,h2,hq⟩:=AU hq;have⟨b,h',h3,h4,hq⟩:=AU hq;have⟨⟨g1,g2⟩,hq⟩:=hq;refine⟨_,?_,hq⟩;simp only[gh,DK,h1,h3,hu,hx,hs,show qx O none=some none from rfl,BM,j4,cond_true];have hc:PI ex lo cap l=PJ ex a cap l:=alq h1 _ _ _;rw[hc];exact atv h2 h4 g1 g2
 next id len sz hx=>
  have⟨hc,hq⟩:=iu h;simp at hc;have⟨e,hu,hs⟩:=Zm hc.2;have Dt:mx=none:=by cases mx<;>simp at hc⊢
  subst Dt;have⟨pM,hq⟩:=hq;have⟨a,l,h1,h2,hq⟩:=AU hq;have⟨b,h',h3,h4,hq⟩:=AU hq;have⟨⟨g1,g2⟩,hq⟩:=hq;refine⟨_,?_,hq⟩;simp only[gh,DK,h1,h3,hu,hx,hs,BM,j4,show qx O none=some none from rfl,Option.isNone_none,fN pM,mg,cond_true];have hc:PI false lo 1 l=PJ false a 1 l:=alq h1 _ _ _;rw[hc];exact atv h2 h4 g1 g2
 next s hx=>
  have⟨hc,hq⟩:=iu h;simp at hc;have hu:=aM7 hc.2;have Dt:mx=none:=by cases mx<;>simp at hc⊢
  subst Dt;have⟨a,l,h1,h2,hq⟩:=AU hq;have⟨b,h',h3,h4,hq⟩:=AU hq;have⟨⟨g1,g2⟩,hq⟩:=hq;refine⟨_,?_,hq⟩;simp only[gh,DK,h1,h3,hu,hx,show qx O none=some none from rfl,Option.isNone_none,cond_true];unfold Zl;cases a<;>cases b<;>simp only[HJ]at h2 h4⊢<;>first
   |(cases h2;cases h4;simp[fN g1,fN g2];done)
   |(cases h2;simp[h4,fN g1,fN g2];done)
   |(cases h4;simp[h2,fN g1,fN g2];done)
   |(simp[h2,h4,fN g1,fN g2];done)
 .exact zZ h
theorem ayr{b A B}(h:aZ b A B)(hb:b=true):A:=by subst hb;exact h
theorem ayp{b A B}(h:aZ b A B)(hb:b=false):B:=by subst hb;exact h
theorem ayq{b A B}:aZ b A B↔(b=true->A)/\(b=false->B):=by
 cases b
 .exact⟨λh=>⟨(λh=>by cases h),λ_=>h⟩,λh=>h.2 rfl⟩
 .exact⟨λh=>⟨λ_=>h,(λh=>by cases h)⟩,λh=>h.1 rfl⟩
theorem al{b A B}(h1:b=true->A)(h2:b=false->B):aZ b A B:=ayq.2 ⟨h1,h2⟩
theorem aFS{c a b k}(h:agf O c a b k):∃v,gh P O H (.pick c a b)=some v/\k v:=by
 unfold agf at h;cases hc:O c with
 |none=>simp only[hc]at h
 |some vc=>
  cases ha:O a with
  |none=>cases vc<;>simp only[hc,ha]at h
  |some va=>
   cases hb:O b with
   |none=>cases vc<;>simp only[hc,ha,hb]at h
   |some vb=>
    cases vc<;>simp only[hc,ha,hb]at h<;>try (cases h;done)
    rename_i t;have key:∀v,(bif t then va else vb)=v->gh P O H (.pick c a b)=some v:=by
     intro v hv;simp only[gh,aeR,hc];cases t
     .simp at hv⊢;rw[hb,hv]
     .simp at hv⊢;rw[ha,hv]
    by_cases h2:∃x y,va=.ai x/\vb=.ai y
    .obtain⟨x,y,rfl,rfl⟩:=h2;refine⟨_,key _ ?_,h⟩;cases t<;>rfl
    .
     have h3:aZ t (k va) (k vb):=by
      cases va<;>cases vb<;>first
       |exact h
       |exact absurd ⟨_,_,rfl,rfl⟩ h2
     cases t
     .exact⟨_,key _ rfl,h3⟩
     .exact⟨_,key _ rfl,h3⟩
theorem anf:∀{fs i cs ds xs ys b} (d' d),Fg P fs i cs ds=some b->xs.drop i=cs->ys.drop i=ds->
 iP.Hv P d' fs xs ys (iP P (d+1))=some b
 |[],i,cs,ds,xs,ys,b,d',d,he,hx,hy=>by
  cases cs with
  |nil=>cases ds with
   |nil=>simpa[Fg,iP.Hv]using he
   |cons=>simp[Fg]at he
  |cons=>simp[Fg]at he
 |f::fs,i,cs,ds,xs,ys,b,d',d,he,hx,hy=>by
  cases cs with
  |nil=>simp[Fg]at he
  |cons c cs=>
   cases ds with
   |nil=>simp[Fg]at he
   |cons dd ds=>
    have⟨ov,he⟩:=di he;simp only[cT]at ov;have⟨hn,ho⟩:=ov;have ho:=dN ho;split at he;next td hu=>
     split at he;next x y h1 h2=>
      cases he;have aCO:xs[i]? =some c:=by have:=congrArg (·[0]?) hx;simpa using this
      have aCP:ys[i]? =some dd:=by have:=congrArg (·[0]?) hy;simpa using this
      have adR:F3 P f.type=some false/\iP P (d+1) f.type c dd=some x:=by
       unfold ana at h1;split at h1
       .split at h1;next hk=>subst hk;cases h1;exact⟨by simp[F3,hu],by simp[iP,hu]⟩
        .cases h1
       .cases h1;exact⟨by simp[F3,hu],by simp[iP,hu]⟩
       .cases h1;exact⟨by simp[F3,hu],by simp[iP,hu]⟩
       .cases h1
      have cx:f.name≠ "_" :=by simpa using hn
      have hpx:fi P f.type xs f.offset=some c:=by simp only[fi,adR.1,ho,aCO]
      have hpy:fi P f.type ys f.offset=some dd:=by simp only[fi,adR.1,ho,aCP]
      simp only[iP.Hv,aw cx,hpx,hpy,adR.2];have hx':xs.drop (i+1)=cs:=by have:=congrArg (List.drop 1) hx;simpa[Nat.add_comm]using this
      have uB:ys.drop (i+1)=ds:=by have:=congrArg (List.drop 1) hy;simpa[Nat.add_comm]using this
      have ih:=anf d' d h2 hx' uB;cases x
      .simp
      .simpa using ih
     .cases he
    .cases he
theorem V1{t cs ds b}(h:V0 P t cs ds=some b):iP P 100 t (.aj cs) (.aj ds)=some b/\P.eqGuardType P.depth t=false:=by
 unfold V0 at h;split at h;next gz hu=>
  cases hc:(P.stoodInHeld t||P.eqGuardType P.depth t)
  .rw[hc]at h;simp at h;simp at hc;refine⟨?_,hc.2⟩;rw[iP]
   .simp only[hc.1,cond_false];exact anf 99 98 h rfl rfl
   .exact hu
  .rw[hc]at h;cases h
 .cases h
theorem arc{op t len k o}(h:Yr P op t len k)(ho:∀el,P.underlying t=some (.slice el)->len≠0->match op with|.eql=>o=some (.ai false)|.neq=>o=some (.ai true)|_=>True):∃v,o=some v/\k v:=by
 unfold Yr at h;split at h;next el hu=>have⟨h0,h⟩:=h;have:=ho el hu h0;cases op<;>first|exact h.elim|exact⟨_,this,h⟩
 .cases h
theorem aFM{op t x y yt k}(h:aga P O H op t x y yt k):∃v,gh P O H (.binOp op t x y yt)=some v/\k v:=by
 unfold aga at h;split at h;next cs ds hx hy=>
  have key:∀{b:Bool} {v:AV},V0 P t cs ds=some b->Fh P op t (.aj cs) (.aj ds)=some v->gh P O H (.binOp op t x y yt)=some v:=by intro b v hb hv;have⟨h1,h2⟩:=V1 hb;simp only[gh,Rn,hx,hy,KZ,pP,FA,h2,j4,Bool.not_false,DU];exact hv
  split at h;next b hb=>exact⟨_,key hb (by simp[Fh,(V1 hb).1]),h⟩
  next b hb=>exact⟨_,key hb (by simp[Fh,(V1 hb).1]),h⟩
  .cases h
 next cs len sz hx hy=>
  refine arc h λel hu h0=>?_
  have e:BI len=some false:=by unfold BI;rw[show Nat.beq len 0=false from by rw[sI,Ne,Nat.beq_eq];exact h0];rfl
  cases op<;>simp[gh,Rn,hx,hy,KZ,pP,FA,Fh,iP,hu,e]<;>rfl
 next id len sz hx hy=>
  refine arc h λel hu h0=>?_
  have e:BI len=some false:=by unfold BI;rw[show Nat.beq len 0=false from by rw[sI,Ne,Nat.beq_eq];exact h0];rfl
  cases op<;>simp[gh,Rn,hx,hy,KZ,pP,FA,Fh,iP,hu,e]<;>rfl
 .exact zZ h
theorem aFV{op k}(h:rd P O H op k):∃v,gh P O H op=some v/\k v:=by
 unfold rd at h;split at h
 .exact aFP h
 .exact aFN h
 .exact aFO h
 .exact aFQ h
 .exact aFT h
 .exact aFS h
 .exact aFM h
 .exact zZ h
theorem afp{o k}(h:RG H o k):∃ob g,o=some (ob,g)/\k (g H.br) (H.eH ob):=by
 unfold RG at h;split at h;next ob g hh n xx=>exact⟨ob,g,rfl,h⟩
 .cases h
theorem aEw{op k}(h:mk P O H op k):∃ob g,sD P O op=some (ob,g)/\k (g H.br) (H.eH ob):=by
 unfold mk at h;split at h;next t len cap=>
  unfold aqY at h;cases hk:vF cap
  .rw[hk]at h;have⟨hs,h⟩:=iu h;have ou:len=cap:=by cases len<;>cases cap<;>simp[atj]at hs;rw[hs]
   subst ou;split at h;next elem n hu hc=>
    split at h;next s z gE h1 h2 h3=>obtain⟨c,rfl,h⟩:=h;have⟨hb,h⟩:=iu h;have⟨cr,h⟩:=h;have⟨ob,g,h4,h5⟩:=afp h;refine⟨ob,g,?_,h5⟩;simp only[cT]at hb;have⟨⟨⟨⟨b1,b2⟩,b3⟩,b4⟩,b5⟩:=hb;have wQ:=hc;simp only[sD,XR,hu,wQ,h1,h2,h3,hk,cond_false,afi,fN (ct c),fN cr,b1,b2,b3,b4,b5,mg,cond_true];exact h4
    .cases h
   .cases h
  .rw[hk]at h;exact afp h
 .exact afp h
end
section
def F6(S:Kl):Ph:=λf args H=>
 match Rs S f args H with
 |some ⟨p,v,H'⟩=> @ite _ p (Classical.propDecidable p) (some (v,H')) none
 |none=>none
def Wm(S:Kl)(fr:gw)(H:AH):Option mL:=
 match fr.rT with
 |some l=>match H.aR l with
  |some (.gX st pe fn tmps nt params assign body d)=>match params with
   |[p]=>match fr.Cy.bL p with
    |some a=> @dite _ (D0 (.gX st pe fn tmps nt params assign body d) l [a]=some fr) (Classical.propDecidable _)
      (λ_=>match F6 S 999999 [.ib l,a] H with|some (v,H')=>some ⟨jX v,none,H'⟩|none=>none) (λ_=>none)
    |none=>none
   |_=>none
  |_=>none
 |none=>none
def lW(S:aX):uo:=⟨Wm (oP S),λf args H=>bif F4 f then none else F6 (oP S) f args H⟩
theorem Tr.agF{F}{t:Tr F}:∀{n a},t.bL n=some a->t.fB n a=t:=by
 induction t with
 |iq=>intro n a h;cases h
 |gB v l r IV IW=>
  intro n a h;rw[Tr.rj]at h;rw[Tr.Am];by_cases h0:n=0
  .rw[aP h0]at h⊢;rw[h]
  .rw[aw h0]at h⊢;by_cases h1:n%2=1
   .rw[aP h1]at h⊢;rw[IV h]
   .rw[aw h1]at h⊢;rw[IW h]
section
variable{P:Program}{O:Operand->Option AV}{H:AH}{S:aX}
def Kp(P:Program)(S:aX)(O:Operand->Option AV)(H:AH)(op:Op)(v:AV)(H':AH):Prop:=
 ∃aD up,ot P O H op=some aD/\lI P (lW S) H none aD=some ⟨.gJ v,up,H'⟩
def abg(P:Program)(S:aX)(O:Operand->Option AV)(H:AH)(op:Op)(x:AV)(H':AH):Prop:=
 ∃aD up,ot P O H op=some aD/\lI P (lW S) H none aD=some ⟨.dI [(x,false)],up,H'⟩
theorem Kp.xP{op v H'}(h:ot P O H op=some (.gQ v H')):Kp P S O H op v H':=⟨_,none,h,rfl⟩
theorem apk{o k}(h:FZ o k):∃v H',o=some (.gQ v H')/\k v H':=by
 unfold FZ at h;split at h
 .exact⟨_,_,rfl,h⟩
 .cases h
theorem af7{vs cs off}(h:off+cs.length<=vs.length):Aa vs off cs=some (iJ vs off cs):=by unfold Aa;rw[adU,fN h];rfl
theorem aC3{t a x k}(h:aeq P O H t a x k):∃v H',Kp P S O H (.store t a x) v H'/\k v H':=by
 unfold aeq at h;split at h;next id off v ha hx=>
  split at h;next vs e s ho hs=>have⟨hc,h⟩:=iu h;have⟨hl,h⟩:=h;exact⟨_,_,.xP (by simp only[ot,L_,ha,hx,Nu,ho,hs,hc,cond_true,af7 hl,uL,tV]),h⟩
  next vs e s ho hs=>have⟨hc,h⟩:=iu h;have⟨hl,h⟩:=h;exact⟨_,_,.xP (by simp only[ot,L_,ha,hx,Nu,ho,hs,hc,cond_true,af7 hl,uL,tV]),h⟩
  .have⟨v,H',h1,h2⟩:=apk h;exact⟨v,H',.xP h1,h2⟩
 next n off v ha hx=>
  split at h;next s hs=>have⟨hc,h⟩:=iu h;have⟨vs,e,ho,hl,h⟩:=h;exact⟨_,_,.xP (by simp only[ot,L_,ha,hx,SJ,ho,hs,hc,cond_true,af7 hl,uL,tV]),h⟩
  .cases h
 .cases h
theorem apj{t m key x k}(h:Xt P O H t m key x k):∃v H',L8 P O H t m key x=some (.gQ v H')/\k v H':=by
 unfold Xt at h;split at h;next kt e id ky v hu hm hk hx=>
  split at h;next es c p ho=>
   have⟨hp,h⟩:=iu h;have⟨bF,c',h1,h2⟩:=h;refine⟨_,_,?_,h2⟩;simp only[L8,hm,hk,hx,MT,hu,ho,hp,cond_true];unfold y4 at h1;split at h1;next i a b hf=>have⟨hs,h1⟩:=di h1;cases h1;simp only[hf,hs,cond_true,tV]
   next hf=>cases h1;simp only[hf,tV]
   .cases h1
  .cases h
 .cases h
theorem aC1{t m key k}(h:aem P O H t m key k):∃v H',QB P O H t m key=some (.gQ v H')/\k v H':=by
 unfold aem at h;split at h;next kt e id ky hu hm hk=>
  split at h;next es c p ho=>
   have⟨hp,h⟩:=iu h;have key:∀{v:AV} {b:Nat} {bF:List (AV×AV×Nat)} {c':Nat},Fu P kt e es c p ky=some (v,b,bF,c')->QB P O H t m key=some (.gQ (.aL [mc P H e false v,yl b]) (H.cE id (.bI bF c' p))):=by
    intro v b bF c' h1;simp only[QB,hu,hm,hk,VV,ho,hp,cond_true];unfold Fu at h1;split at h1;next i a b' hf=>have⟨hs,h1⟩:=di h1;cases h1;simp only[hf,hs,cond_true]
    next hf=>
     split at h1;next z hz=>have⟨hs,h1⟩:=di h1;cases h1;simp only[hf,hz,hs,cond_true]
     .cases h1
    .cases h1
   split at h;next hx=>
    have⟨v,h⟩:=P' h;have⟨b,bF,c',h1,h2⟩:=h;have hn:mc P H e false v=v:=by unfold mc;rw[hx]
    exact⟨_,_,by rw[key h1,hn],h2⟩
   next X hx=>
    unfold aph at h;split at h;next e' he=>
     split at h;next sz ca=>
      have⟨n,len,b,bF,c',h1,h2⟩:=h;unfold Ic at h1;split at h1;next n' len' s b' LD c2 hg=>
       have⟨hs,h1⟩:=di h1;cases h1;have:=dN hs;subst this;have hn:∀a b c,mc P H e false (.gV a b c)=.gV a b c:=by intro a b c;unfold mc;rw[hx];simp only[he,ca,cond_false,Jg]
       exact⟨_,_,by rw[key hg,hn],h2⟩
      next b' LD c2 hg=>
       cases h1;have hn:mc P H e false .aM=.gV 0 0 sz:=by unfold mc;rw[hx];simp only[he,ca,cond_false,Jg]
       exact⟨_,_,by rw[key hg,hn],h2⟩
      .cases h1
     .cases h
    .cases h
  .cases h
 .cases h
theorem aC0{m s x k}(h:aen O H m s x k):∃v H',WH O H m s x=some (.gQ v H')/\k v H':=by
 unfold aen at h;split at h;next id kd b v hm hs hx=>
  split at h;next es c p ho=>
   have⟨hp,h⟩:=iu h;have⟨bF,h1,h2⟩:=h;refine⟨_,_,?_,h2⟩;simp only[WH,hm,hs,hx,VX,ho];unfold Gl at h1;split at h1;next i hi=>cases h1;simp only[hi,hp,cond_true]
   .cases h1
  .cases h
 .cases h
theorem aCY{ts id key k}(h:ael P H ts id key k):∃v H',Li P H ts id key=some (.gQ v H')/\k v H':=by
 unfold ael at h;split at h;next kt e es c p hu ho=>
  have⟨hp,h⟩:=iu h;have⟨bF,h1,h2⟩:=h;unfold CV at h1;split at h1;next i a b hf=>cases h1;exact⟨_,_,by simp only[Li,hu,ho,hp,cond_true,hf],h2⟩
  next hf=>
   cases h1;refine⟨.mK,H,by simp only[Li,hu,ho,hp,cond_true,hf],?_⟩;have:H.cE id (.bI es c p)=H:=by
    cases H with
    |mk h n=>simp only[AH.cE,AH.mk.injEq,and_true];exact Tr.agF ho
   rw[this]at h2;exact h2
  .cases h1
 .cases h
theorem Tr.agJ{F}:∀(f n) (a b:F),n<=f->(Tr.y5 f n a).fB n b=Tr.y5 f n b
 |0,n,a,b,h=>by
  have:n=0:=by omega
  subst this;rw[Tr.agL,Tr.Am,aP rfl,Tr.agL]
 |f+1,n,a,b,h=>by
  rw[Tr.agK,Tr.agK];by_cases h0:n=0
  .subst h0;rw[aP rfl,aP rfl,Tr.Am,aP rfl]
  .rw[aw h0,aw h0];by_cases h1:n%2=1
   .rw[aP h1,aP h1,Tr.Am,aw h0,aP h1,Tr.agJ f _ a b (by omega)]
   .rw[aw h1,aw h1,Tr.Am,aw h0,aw h1,Tr.agJ f _ a b (by omega)]
theorem Tr.agG{F}{t:Tr F}:∀{n a b},(t.fB n a).fB n b=t.fB n b:=by
 induction t with
 |iq=>intro n a b;exact Tr.agJ n n a b (ct n)
 |gB v l r IV IW=>
  intro n a b;rw[Tr.Am,Tr.Am];by_cases h0:n=0
  .subst h0;rw[aP rfl,aP rfl,Tr.Am,aP rfl]
  .rw[aw h0,aw h0];by_cases h1:n%2=1
   .rw[aP h1,aP h1,Tr.Am,aw h0,aP h1,IV]
   .rw[aw h1,aw h1,Tr.Am,aw h0,aw h1,IW]
theorem aoi{elem id len sz n l vs k}(hl:Gg l)(hv:NL H id len sz vs)(h:avg H id len (vs++l) elem k):∃nm H',LZ H elem id len sz n l=some (.gV nm (len+n) sz,H')/\k nm H':=by
 have⟨hh,m,x⟩:=H;cases x with
 |none=>cases h
 |some X=>
  have⟨g,c⟩:=X;refine⟨_,_,?_,h⟩;rcases hv with⟨rfl,rfl⟩|⟨h0,el,ho,bB⟩
  .have e1:(AH.eH ⟨hh,m,some ⟨g,c⟩⟩ (.au [] elem)).aR m=some (.au [] elem):=by rw[nY,aP rfl]
   simp only[LZ,yo,e1,qel,gH,j4,hl.1,hl.2,mg,cond_true,Jl,V3,nY,tO,pQ];simp only[AH.eH,AH.cE,AH.S6,Tr.agG,XH.set,rG,Bool.not_true,DY,cond_false,lx];rfl
  .obtain⟨len,rfl⟩:∃j,len=j+1:=⟨len-1,by omega⟩;have hi:Xy ⟨hh,m,some ⟨g,c⟩⟩ id=some (m,AH.eH (AH.oH ⟨hh,m,some ⟨g,c⟩⟩ id none) (.au vs el)):=by unfold Xy;rw[ho]
   have e1:(AH.eH (AH.oH ⟨hh,m,some ⟨g,c⟩⟩ id none) (.au vs el)).aR m=some (.au vs el):=by rw[nY,Ga,aP rfl]
   simp only[LZ,hi,yo,e1,bB,j4,hl.1,hl.2,mg,cond_true,Jl,V3,nY,tO,pQ];simp only[AH.eH,AH.cE,AH.S6,AH.oH,Tr.agG,XH.set];have hb:(!Nat.beq (len+1) 0)=true:=rfl;simp only[hb,DU];rfl
theorem aNi{sz x k}(h:ag9 H sz x k):∃n l,zt H sz x=some (n,l)/\k n l:=by
 unfold ag9 at h;split at h;next cs len s=>have⟨hs,h⟩:=iu h;exact⟨_,_,by simp only[zt,hs,cond_true],h⟩
 next id len s=>
  have⟨hs,h⟩:=iu h;split at h;next vs el ho=>have⟨hl,h⟩:=h;exact⟨_,_,by simp only[zt,hs,cond_true,ho,hl,j4],h⟩
  .cases h
 next id len s=>
  have⟨hs,vs,hv,h⟩:=iu h;refine⟨len,vs,?_,h⟩;rcases hv with⟨rfl,rfl⟩|⟨h0,el,ho,hl⟩
  .simp only[zt,hs,cond_true]
  .obtain⟨j,rfl⟩:∃j,len=j+1:=⟨len-1,by omega⟩;simp only[zt,hs,cond_true,ho,hl,j4]
 next id off len cap s ex=>
  split at h;next vs jd=>
   have⟨hs,h⟩:=iu h;have⟨hl,h⟩:=h;refine⟨_,_,?_,h⟩;have bB:((vs.drop off).take (len*sz)).length=len*sz:=by simp;omega
   simp only[zt,hs,cond_true,apK jd,qD,bB,j4,uL]
  .split at h;next n l he=>exact⟨n,l,he,h⟩
   .cases h
 .split at h;next n l he=>exact⟨n,l,he,h⟩
  .cases h
theorem axF{elem sz n s l k}(hn:1<=n)(h:CO H elem sz s n l k):∃v H',mM H elem sz s n l=some (v,H')/\k v H':=by
 obtain⟨m,rfl⟩:∃m,n=m+1:=⟨n-1,by omega⟩;unfold CO at h;split at h;next id len gk=>
  have⟨hs,h⟩:=iu h;split at h;next vs el ho=>have⟨⟨h1,h2,h3,h4⟩,h⟩:=h;exact⟨_,_,by simp only[mM,hs,fN h2,mg,cond_true,yo,ho,h1,j4,h3,h4],h⟩
  .cases h
 next id off len cap gk ex=>
  have⟨hs,hq⟩:=iu h;split at hq;next vs el ho=>
   obtain⟨⟨h1,h2,⟨h3,h4⟩,h5⟩,hq⟩:=hq;subst h5;refine⟨_,_,?_,hq⟩;have bB:((vs.drop off).take (len*sz)).length=len*sz:=by simp;omega
   simp only[mM,hs,fN h2,mg,cond_true,Ip,ho,qD,bB,j4,h3,h4,tZ,cond_false]
  next vs el ho=>
   obtain⟨⟨h1,h2,⟨h3,h4⟩,h5⟩,hq⟩:=hq;subst h5;refine⟨_,_,?_,hq⟩;have bB:((vs.drop off).take (len*sz)).length=len*sz:=by simp;omega
   simp only[mM,hs,fN h2,mg,cond_true,Ip,ho,qD,bB,j4,h3,h4,tZ,cond_false]
  .split at hq
   .exact⟨_,_,by assumption,hq⟩
   .cases hq
 next id len gk=>have⟨hs,⟨h1,h2⟩,vs,h3,h4⟩:=iu h;have⟨nm,H',h5,h6⟩:=aoi (n:=m+1) h2 h3 h4;exact⟨_,H',by simp only[mM,hs,fN h1,mg,cond_true,h5],h6⟩
 .split at h
  .exact⟨_,_,by assumption,h⟩
  .cases h
def ark(v:AV)(H:AH):Prop:=match v with|.bK id _ _ _ _ _=>∀vs e,H.aR id≠some (.ah vs e)|_=>True
theorem aof{v}(h:ark v H):zB v H=H:=by
 unfold zB;split
 .split;next ho=>exact absurd ho (h _ _)
  .rfl
 .rfl
theorem aoe{H l elem n sz}(h:l.all f_=true):zB (.bK H.br 0 n 1 sz false) (AH.eH H (.ah l elem))=AH.eH H (.au l elem):=by
 have⟨t,m,x⟩:=H;have:(AH.eH ⟨t,m,x⟩ (.ah l elem)).aR m=some (.ah l elem):=by show(t.fB m _).bL m=_;rw[Tr.lL];exact aP rfl
 simp only[zB,this,h,cond_true];simp only[AH.eH,AH.cE,Tr.agG]
theorem arl{H o n sz}(h:∀vs e,o≠.ah vs e):ark (.bK H.br 0 n 1 sz false) (AH.eH H o):=by
 have⟨t,m,x⟩:=H;intro vs e ho;have:(AH.eH ⟨t,m,x⟩ o).aR m=some o:=by show(t.fB m _).bL m=_;rw[Tr.lL];exact aP rfl
 rw[show(AH.mk t m x).br=m from rfl,this]at ho;exact h vs e (cW ho)
theorem axE{elem sz n s l k}(hn:1<=n)(h:ab2 H elem sz s n l k):∃v H',mM H elem sz s n l=some (v,H')/\k v (zB v H'):=by
 obtain⟨m,rfl⟩:∃m,n=m+1:=⟨n-1,by omega⟩;unfold ab2 at h;split at h
 .have⟨⟨h1,h2,h3⟩,h⟩:=h;exact⟨.bK H.br 0 (m+1) 1 sz false,AH.eH H (.ah l elem),by simp only[mM,fN h1,h2,mg,cond_true],by rw[aoe h3];exact h⟩
 next id off len cap gk ex=>
  split at h;next vs el ho=>
   have⟨hs,hq⟩:=iu h;obtain⟨⟨h1,h2,⟨h3,h3p⟩,⟨h4,h4p⟩,rfl,h5⟩,hk⟩:=hq;have bB:((vs.drop off).take (len*sz)).length=len*sz:=by simp;omega
   have sub:∀p:AV->Bool,vs.all p=true->((vs.drop off).take (len*sz)).all p=true:=by intro p h4;rw[oC]at h4⊢;exact λx hx=>h4 x (Nj (Jp hx))
   have FG:Nat.ble (cap+1) (len+(m+1))=true:=fN (by omega);refine⟨.bK H.br 0 (len+(m+1)) 1 sz false,AH.eH H (.ah ((vs.drop off).take (len*sz)++l) elem),?_,?_⟩
   .simp only[mM,hs,fN h2,mg,cond_true,Ip,ho,qD,bB,j4,sK,sub _ h4,h3,FG]
   .rw[aoe (by rw[sK,sub _ h4p,h3p];rfl)];exact hk
  next vs el ho=>
   have⟨hs,hq⟩:=iu h;rw[ho]at hq;have⟨⟨h1,h2,⟨h3,h4⟩,h5⟩,hk⟩:=hq;subst h5;have bB:((vs.drop off).take (len*sz)).length=len*sz:=by simp;omega
   refine⟨.bK H.br 0 (len+(m+1)) 1 sz false,AH.eH (H.cE id (.bg [])) (.dE ((vs.drop off).take (len*sz)++l) elem),by simp only[mM,hs,fN h2,mg,cond_true,Ip,ho,qD,bB,j4,h3,h4,tZ,cond_false],?_⟩;have e:=aof (arl (H:=H.cE id (.bg [])) (o:=.dE ((vs.drop off).take (len*sz)++l) elem) (n:=len+(m+1)) (sz:=sz) (λ_ _ e=>by cases e));rw[pQ]at e;rw[e];exact hk
  next vs el ho=>
   have⟨hs,hq⟩:=iu h;rw[ho]at hq;have⟨⟨h1,h2,⟨h3,h4⟩,h5⟩,hk⟩:=hq;subst h5;have bB:((vs.drop off).take (len*sz)).length=len*sz:=by simp;omega
   refine⟨.bK H.br 0 (len+(m+1)) 1 sz false,AH.eH (H.cE id (.bg [])) (.au ((vs.drop off).take (len*sz)++l) elem),by simp only[mM,hs,fN h2,mg,cond_true,Ip,ho,qD,bB,j4,h3,h4,tZ,cond_false],?_⟩;have e:=aof (arl (H:=H.cE id (.bg [])) (o:=.au ((vs.drop off).take (len*sz)++l) elem) (n:=len+(m+1)) (sz:=sz) (λ_ _ e=>by cases e));rw[pQ]at e;rw[e];exact hk
  .cases h
 next id len gk=>
  have⟨hs,hq⟩:=iu h;split at hq;next vs el ho=>have⟨⟨h1,h2,h3,h4⟩,hq⟩:=hq;exact⟨.ad H.br (len+(m+1)) sz,AH.eH (H.cE id (.bg [])) (.au (vs++l) elem),by simp only[mM,hs,fN h2,mg,cond_true,yo,ho,h1,j4,h3,h4],hq⟩
  .cases hq
 next id len gk=>have⟨hs,⟨h1,h2⟩,vs,h3,h4⟩:=iu h;have⟨nm,H',h5,h6⟩:=aoi (n:=m+1) h2 h3 h4;exact⟨.gV nm (len+(m+1)) sz,H',by simp only[mM,hs,fN h1,mg,cond_true,h5],h6⟩
 .cases h
theorem akM{elem sz s l A}(h:Px sz s A):mM H elem sz s 0 l=some (s,H)/\A:=by
 unfold Px at h;split at h
 .exact⟨rfl,h⟩
 .have⟨hs,hl,h⟩:=iu h;exact⟨by simp only[mM,hs,Gu,fN hl,mg,cond_true],h⟩
 .have⟨hs,hl,h⟩:=iu h;exact⟨by simp only[mM,hs,Gu,fN hl,mg,cond_true],h⟩
 .have⟨hs,hl,h⟩:=iu h;exact⟨by simp only[mM,hs,Gu,fN hl,mg,cond_true],h⟩
 .exact⟨rfl,h⟩
 .cases h
theorem akO{elem sz n s BA dE l k}(hlr:BA=true->dE=false)(h:UW H elem sz s BA dE n l k):∃v H',mM H elem sz s n l=some (v,H')/\k v (bif dE&& !Nat.beq n 0 then zB v H' else H'):=by
 unfold UW at h;have key:dE=false->(n=0->Px sz s (k s H))->(1<=n->CO H elem sz s n l k)->∃v H',mM H elem sz s n l=some (v,H')/\k v (bif dE&& !Nat.beq n 0 then zB v H' else H'):=by
  intro hr h0 h1;rw[hr];rcases Sl n with hn|hn
  .subst hn;have⟨a,b⟩:=akM (H:=H) (elem:=elem) (l:=l) (h0 rfl);exact⟨_,_,a,b⟩
  .exact axF hn (h1 hn)
 cases BA
 .have⟨h0,h1⟩:=h;cases dE
  .exact key rfl h0 h1
  .rcases Sl n with hn|hn
   .subst hn;have⟨a,b⟩:=akM (H:=H) (elem:=elem) (l:=l) (h0 rfl);exact⟨_,_,a,b⟩
   .have⟨v,H',a,b⟩:=axE hn (h1 hn);have:Nat.beq n 0=false:=by rw[sI,Ne,Nat.beq_eq];omega
    exact⟨v,H',a,by rw[this];exact b⟩
 .have hr:=hlr rfl;simp at h;split at h
  .exact key hr (λ_=>h) (λh=>by omega)
  .exact key hr (λh=>by omega) (λ_=>h)
theorem axG{elem sz n s BA dE l k}(hlr:BA=true->dE=false)(h:ab3 H elem sz s BA dE n l k):∃v H',mM H elem sz s n l=some (v,H')/\k v (bif dE&& !Nat.beq n 0 then zB v H' else H'):=by
 unfold ab3 at h;split at h
 .have⟨hs,⟨h1,h2⟩,hq⟩:=iu h;refine⟨_,H,by show(bif Nat.beq sz _&&Nat.ble _ 4194304&&List.all l f_ then _ else none)=_;rw[hs,fN h1,h2];rfl,?_⟩;cases(dE&& !Nat.beq n 0)<;>exact hq
 .exact akO hlr h
theorem aEb(x)(h:ae0 x=true):Rl x=false:=by unfold ae0 at h;split at h<;>first|rfl|cases h
theorem aCW{ts s x k}(h:aej P H ts s x k):∃v H',KT P H ts s x=some (v,H')/\k v H':=by
 unfold aej at h;unfold KT;split at h;next elem hu=>
  rw[hu];simp only;split at h;next sz gE hs jq=>
   rw[hs,jq];simp only;cases gL:Nat.ble gE 4194304&&(kA P elem).any (λz=>Nat.beq z.dO.length sz)&&aex (ts[1]?.bind P.underlying)with
   |false=>
    rw[gL]at h;simp at h;unfold aut at h;split at h;next kd n z ht hz=>
     have⟨hb,h⟩:=iu h;simp only[cT]at hb;obtain⟨i,rfl,hi,h⟩:=h;have⟨v,H',h6,h7⟩:=akO (by intro h;cases h) h;have jz:JK P H ts elem sz (.bD .i64 (i:Int))=some (i,lA z.dO i):=by unfold JK;rw[ht];simp only[hz,hb.2,Nat.ble_eq_true_of_le hi,mg,cond_true]
     exact⟨v,_,by simp only[hz,BM,hb.1,hb.2,mg,cond_true,jz,h6,Rl],h7⟩
    .cases h
   |true=>
   rw[gL]at h;simp at h;have hc:=gL;simp only[cT]at hc;have⟨⟨h1,h2⟩,h3⟩:=hc;rw[h1,h2];have⟨n,l,h4,h5⟩:=aNi h;have jz:JK P H ts elem sz x=some (n,l):=by
    unfold JK;unfold aex at h3;split at h3;next e hu1=>rw[hu1];exact h4
    .cases h3
   have⟨v,H',h6,h7⟩:=axG (aEb x) h5;exact⟨v,_,by simp only[mg,cond_true,jz,h6],h7⟩
  .cases h
 .cases h
theorem aCX{b args ts k}(h:aek P H b args ts k):∃v H',L5 P H b args ts=some (.gQ v H')/\k v H':=by
 unfold aek at h;split at h
 .have⟨v,H',h1,h2⟩:=aCW h;exact⟨v,H',by simp only[L5,h1,YM],h2⟩
 .have⟨v,H',h1,h2⟩:=aCY h;exact⟨v,H',h1,h2⟩
 .exact apk h
theorem EN{F:Type 1}{b o}{a:F}(h:(bif b then o else none)=some a):b=true/\o=some a:=by
 cases b
 .cases h
 .exact⟨rfl,h⟩
theorem aeZ{f args ps n xb sp x}(h:aeY S f args H=some (ps,n,xb,sp))(hx:sh sp=some x):Rs (oP S) f args H=xj ps n H xb x:=by
 unfold aeY at h;unfold Rs;split at h
 .cases h
 next uJ t' n' x' hv=>
  have⟨hm,h⟩:=EN h;simp only[hm,cond_true];split at h;next args' ha=>
   split at h;next Eb hs=>
    cases h;have:oP S f args' ⟨t',n,none⟩=some x:=by unfold oP;rw[hs];exact hx
    rw[this]
   next hs=>
    have h0:oP S f args' ⟨t',n',none⟩=none:=by unfold oP;rw[hs]
    rw[h0];split at h
    .cases h
    .split at h;next Eb Dy=>
      cases h;have:∀X,S f args' ⟨t',n,some X⟩=some sp->oP S f args' ⟨t',n,some X⟩=some x:=by intro X hX;unfold oP;rw[hX];exact hx
      rw[this _ Dy]
     .cases h
  .cases h
theorem XV{ps n xb p p' q x v H'}(h:xj ps n H xb (p,x)=some ⟨q,v,H'⟩):q=p/\xj ps n H xb (p',x)=some ⟨p',v,H'⟩:=by
 have⟨v0,⟨hs,ns,xs⟩⟩:=x;have⟨h0,next,x0⟩:=H;simp only[xj]at h⊢;have⟨hb,h⟩:=di h;rw[hb];split at h;next v1 t1 xd Xq=>
  split at h;next t2 MG=>cases h;exact aA
  .cases h
 .cases h
theorem aeJ{S f args p v H'}(h:Rs S f args H=some ⟨p,v,H'⟩)(hp:p):F6 S f args H=some (v,H'):=by unfold F6;rw[h];exact aP hp
def arY(k kp:AV->AH->Prop)(v:AV)(H':AH):Prop:=(jX v=.gJ v/\k v H')\/∃x,v=.dI x/\kp x H'
theorem aeo{r k kp}(h:IQ r k kp):∃p v H',r=some ⟨p,v,H'⟩/\p/\arY k kp v H':=by
 unfold IQ at h;split at h
 .exact⟨_,_,_,rfl,h.1,.inr ⟨_,rfl,h.2⟩⟩
 next p v H' hn=>
  refine⟨_,_,_,rfl,h.1,.inl ⟨?_,h.2⟩⟩;cases v<;>first
   |rfl
   |exact(hn _ rfl).elim
 .cases h
theorem apf{f args k kp}(h:MH H S f args k kp):∃v H',F6 (oP S) f args H=some (v,H')/\arY k kp v H':=by
 unfold MH at h;split at h;next ps n x hl=>have⟨p,v,H',ho,h⟩:=aeo h;exact⟨v,H',aeJ ((aeZ hl rfl).trans ho) h.1,h.2⟩
 next ps n W g u hl=>
  have⟨w,h⟩:=h;have⟨p,v,H',ho,h⟩:=aeo h
  .have he:∃p0 x0,g w=(p0,x0):=⟨_,_,rfl⟩;have⟨p0,x0,he⟩:=he;rw[he]at ho;have hp:=(XV (p':=p0) ho).1;subst hp;have hw:∃w,(g w).1:=⟨w,by rw[he];exact h.1⟩;have hd:sh (.ex W g u)=some (g hw.choose):=dif_pos hw;have h2:=hw.choose_spec;have h3:=u _ w h2 (by rw[he];exact h.1);have zE:g hw.choose=((g hw.choose).1,x0):=Prod.ext rfl (by rw[h3,he]);have h4:=(XV (p':=(g hw.choose).1) ho).2;rw[<-zE]at h4;exact⟨v,H',aeJ ((aeZ hl hd).trans h4) h2,h.2⟩
 next ps n xb W g u hl=>
  have h:∃b:Bool,∃w:W b,IQ (xj ps n H xb (g b w)) k kp:=by
   have⟨b,h⟩:=h;cases b
   .have⟨w,h⟩:=h;exact⟨false,w,h⟩
   .have⟨w,h⟩:=h;exact⟨true,w,h⟩
  have⟨b,w,h⟩:=h;have⟨p,v,H',ho,h⟩:=aeo h
  .have he:∃p0 x0,g b w=(p0,x0):=⟨_,_,rfl⟩;have⟨p0,x0,he⟩:=he;rw[he]at ho;have hp:=(XV (p':=p0) ho).1;subst hp;have hw:∃p:(b:Bool)×W b,(g p.1 p.2).1:=⟨⟨b,w⟩,by show(g b w).1;rw[he];exact h.1⟩;have hd:sh (.V4 W g u)=some (g hw.choose.1 hw.choose.2):=dif_pos hw;have h2:=hw.choose_spec;have h3:=u _ _ b w h2 (by rw[he];exact h.1);have zE:g hw.choose.1 hw.choose.2=((g hw.choose.1 hw.choose.2).1,x0):=Prod.ext rfl (by rw[h3,he]);have h4:=(XV (p':=(g hw.choose.1 hw.choose.2).1) ho).2;rw[<-zE]at h4;exact⟨v,H',aeJ ((aeZ hl hd).trans h4) h2,h.2⟩
 .cases h
theorem apg{f args k kp}(hf:F4 f=false)(h:MH H S f args k kp):(∃v H',lI P (lW S) H none (.rW f args)=some ⟨.gJ v,none,H'⟩/\k v H')\/∃x H',lI P (lW S) H none (.rW f args)=some ⟨.dI [(x,false)],none,H'⟩/\kp x H':=by
 obtain⟨v,H',h1,⟨he,h2⟩|⟨x,rfl,h2⟩⟩:=apf h
 .exact .inl ⟨v,H',by simp only[lI,P9,lW,hf,cond_false,h1,he],h2⟩
 .exact .inr ⟨x,H',by simp only[lI,P9,lW,hf,cond_false,h1,jX],h2⟩
theorem Zc{st pe fn nt l d p tmps assign body a fr}(h:D0 (.gX st pe fn tmps nt [p] assign body d) l [a]=some fr):
 fr=⟨fn,tmps.fB p a,nt,[.gP assign,.Cz,.gP body],[],.gI,none,some l⟩/\p+1<=nt:=by
 simp only[D0,dJ,gH]at h;have⟨_,h⟩:=di h;simp only[List.zip_cons_cons,List.zip_nil_right,qz,Nn,sH,pZ]at h;cases hb:Nat.ble (p+1) nt with
 |false=>simp[hb]at h
 |true=>simp only[hb,cond_true]at h;cases h;exact⟨rfl,qA hb⟩
theorem aC2{l args k}(h:aep H S l args k):∃v H',lI P (lW S) H none (.xR l args)=some ⟨.gJ v,none,H'⟩/\k v H':=by
 unfold aep at h;split at h;next st pe fn tmps nt params assign body d a ho=>
  split at h;next p=>
   split at h;next fr jj=>
    obtain⟨v,H',h1,⟨hev,h2⟩|⟨x,_,h2⟩⟩:=apf h
    rotate_left
    .exact h2.elim
    have hg:fr.Cy.bL p=some a/\fr.rT=some l:=by obtain⟨rfl,_⟩:=Zc jj;exact⟨by simp[Tr.lL],rfl⟩
    refine⟨v,H',?_,h2⟩;simp only[lI,ho,jj,sH,lW,Wm,hg.2,hg.1,h1,dite_true,hev]
   .cases h
  .cases h
 .cases h
theorem api{o k kp}(h:Xs H S o k kp):(∃aD v H',o=some aD/\lI P (lW S) H none aD=some ⟨.gJ v,none,H'⟩/\k v H')\/∃aD x H',o=some aD/\lI P (lW S) H none aD=some ⟨.dI [(x,false)],none,H'⟩/\kp x H':=by
 unfold Xs at h;split at h;next f args=>
  cases hf:F4 f with
  |true=>rw[hf]at h;cases h
  |false=>
   rw[hf]at h;rcases apg hf h with⟨v,H',h1,h2⟩|⟨v,H',h1,h2⟩
   .exact .inl ⟨_,v,H',rfl,h1,h2⟩
   .exact .inr ⟨_,v,H',rfl,h1,h2⟩
 .have⟨v,H',h1,h2⟩:=aC2 (P:=P) h;exact .inl ⟨_,v,H',rfl,h1,h2⟩
 .cases h
theorem aC4{op k kp}(h:hv P O H S op k kp):(∃v H',Kp P S O H op v H'/\k v H')\/∃x H',abg P S O H op x H'/\kp x H':=by
 unfold hv at h;split at h
 .exact .inl (aC3 h)
 .have⟨v,H',h1,h2⟩:=apj h;exact .inl ⟨v,H',.xP h1,h2⟩
 .have⟨v,H',h1,h2⟩:=apj h;exact .inl ⟨v,H',.xP h1,h2⟩
 .have⟨v,H',h1,h2⟩:=aC1 h;exact .inl ⟨v,H',.xP h1,h2⟩
 .have⟨v,H',h1,h2⟩:=aC0 h;exact .inl ⟨v,H',.xP h1,h2⟩
 next c=>
  unfold ape at h;have⟨callee,args,ts⟩:=c;cases callee with
  |value f=>
   rcases api h with⟨aD,v,H',h1,h2,h3⟩|⟨aD,v,H',h1,h2,h3⟩
   .exact .inl ⟨v,H',⟨aD,none,h1,h2⟩,h3⟩
   .exact .inr ⟨v,H',⟨aD,none,h1,h2⟩,h3⟩
  |invoke r name=>
   rcases api h with⟨aD,v,H',h1,h2,h3⟩|⟨aD,v,H',h1,h2,h3⟩
   .exact .inl ⟨v,H',⟨aD,none,h1,h2⟩,h3⟩
   .exact .inr ⟨v,H',⟨aD,none,h1,h2⟩,h3⟩
  |builtin b=>
   simp only at h;split at h;next l hl=>have⟨v,H',h1,h2⟩:=aCX h;exact .inl ⟨v,H',.xP (by simp only[ot,adM,hl,h1]),h2⟩
   .cases h
 .unfold FZ at h;split at h;next v H' ho=>exact .inl ⟨v,H',.xP ho,h⟩
  .cases h
 .unfold FZ at h;split at h;next v H' ho=>exact .inl ⟨v,H',.xP ho,h⟩
  .cases h
 .have⟨n,v,h1,h2⟩:=h;exact .inl ⟨_,_,.xP h1,h2⟩
 .cases h
end
end
section
section
variable{P:Program}{S:aX}{O:Operand->Option AV}{H:AH}
theorem aos{ops o tmps wb no}(h:Wp ops o tmps wb no):(n_ ops o tmps.bL=some true/\wb tmps)\/(n_ ops o tmps.bL=some false/\no tmps):=by
 unfold Wp at h;unfold n_;split at h;next hg=>rw[hg];exact .inl ⟨rfl,h⟩
 next j rO hg=>
  rw[hg];simp only;split at h
  .cases h
  next d hd=>
   rw[hd];simp only;split at h;next b hb=>
    rw[hb];cases b
    .have h:=ayp h rfl;rw[Tr.agF hb]at h;cases rO
     .simp at h;exact .inl ⟨rfl,h⟩
     .simp at h;exact .inr ⟨rfl,h⟩
    .have h:=ayr h rfl;rw[Tr.agF hb]at h;cases rO
     .simp at h;exact .inr ⟨rfl,h⟩
     .simp at h;exact .inl ⟨rfl,h⟩
   next hb=>rw[hb];exact .inr ⟨rfl,h⟩
   .cases h
theorem E_{nt tmps o v k}(h:HY nt tmps o v k):∃t,pZ nt tmps o.dst v=some t/\k t:=by
 unfold HY at h;split at h
 .exact⟨_,by assumption,h⟩
 .cases h
theorem afN{op k kp}(h:RX P S O H op k kp):
 (qp op=true/\∃v,gh P O H op=some v/\k v H)\/(qp op=false/\uD op=true/\∃ob g,sD P O op=some (ob,g)/\k (g H.br) (H.eH ob))\/
   (qp op=false/\uD op=false/\∃v H',Kp P S O H op v H'/\k v H')\/(qp op=false/\uD op=false/\∃x H',abg P S O H op x H'/\kp x H'):=by
 unfold RX at h;cases h1:qp op
 .rw[h1]at h;simp at h;cases h2:uD op
  .rw[h2]at h;rcases aC4 h with h|h
   .exact .inr (.inr (.inl ⟨rfl,rfl,h⟩))
   .exact .inr (.inr (.inr ⟨rfl,rfl,h⟩))
  .rw[h2]at h;exact .inr (.inl ⟨rfl,rfl,aEw h⟩)
 .rw[h1]at h;exact .inl ⟨rfl,aFV h⟩
theorem aJq(v):Ze v v=true:=by unfold Ze;have: @decide (v=v) (Classical.propDecidable _)=true:= @decide_eq_true _ (Classical.propDecidable _) rfl;rw[this];cases om v v<;>rfl
theorem agT{ops ms base cur}:∀{l k},SH P ops ms base cur H l k->JC P ops ms base cur H l=true/\k
 |[],k,h=>⟨rfl,h⟩
 |j::l,k,h=>by
  simp only[SH]at h;simp only[JC];split at h
  .cases h
  next o ho=>
   rw[ho];simp only;split at h
   .cases h
   next hw=>rw[hw];have⟨h1,h2⟩:=agT h;exact⟨by simp[h1],h2⟩
   next hw=>
    rw[hw];split at h
    .cases h
    next d hd=>
     split at h
     .cases h
     next v hv=>have⟨hr,h⟩:=h;have⟨h1,h2⟩:=agT h;refine⟨?_,h2⟩;rw[hr,hd];simp only[hv,BM,aJq,h1,mg]
theorem aoK{op v H'}(h:Kp P S O H op v H'):∃aD up,ot P O H op=some aD/\lI P (lW S) H none aD=some ⟨.gJ v,up,H'⟩/\(∀d,aD≠.zh d)/\(∀v,aD≠.xQ v)/\aD≠.zi:=by
 have⟨aD,up,h1,h2⟩:=h;refine⟨aD,up,h1,h2,?_,?_,?_⟩
 .rintro d rfl;cases h2
 .rintro v rfl;cases h2
 .rintro rfl;cases h2
theorem aoL{op v H'}(h:abg P S O H op v H'):∃aD up,ot P O H op=some aD/\lI P (lW S) H none aD=some ⟨.dI [(v,false)],up,H'⟩/\(∀d,aD≠.zh d)/\(∀v,aD≠.xQ v)/\aD≠.zi:=by
 have⟨aD,up,h1,h2⟩:=h;refine⟨aD,up,h1,h2,?_,?_,?_⟩
 .rintro d rfl;cases h2
 .rintro v rfl;cases h2
 .rintro rfl;cases h2
def aj0(k:Tr AV->AH->Prop)(kp:AV->AH->Prop)(r:Uy):Prop:=(∃t H',r=.aC t H'/\k t H')\/∃x H',r=.dI [(x,false)] H'/\kp x H'
theorem afW{ops ms base nt kp}:∀{l done tmps H k},Jm P S ops ms base nt kp l done tmps H k->
 aj0 k kp (vO P (lW S) ops ms base nt l done tmps H)
 |[],done,tmps,H,k,h=>.inl ⟨tmps,H,rfl,h⟩
 |i::rest,done,tmps,H,k,h=>by
  simp only[Jm]at h;simp only[vO];split at h
  .cases h
  next o ho=>
   rw[ho];rcases aos h with⟨hw,h⟩|⟨hw,h⟩
   .have go:∀{v:AV} {H':AH} {t:Tr AV},qy P (lW S) ops ms base done i nt tmps H o=.go t H'->Jm P S ops ms base nt kp rest (i::done) t H' k->
     aj0 k kp (match qy P (lW S) ops ms base done i nt tmps H o with|.go t H'=>vO P (lW S) ops ms base nt rest (i::done) t H'|.dI c H'=>.dI c H'|.eO w=>.eO w):=by
     intro v H' t h1 h2;rw[h1];exact afW h2
    have Br:tG o.op=(qp o.op||uD o.op):=rfl;cases hl:tG o.op
    .rw[hl]at h;simp at h;rw[Br,Bool.or_eq_false_iff]at hl;rcases afN h with⟨h1,_⟩|⟨_,h1,_⟩|⟨h1,h2,v,H',h3,h4⟩|⟨h1,h2,x,H',h3,h4⟩
     .rw[hl.1]at h1;cases h1
     .rw[hl.2]at h1;cases h1
     .have⟨t,h5,h6⟩:=E_ h4;have⟨h7,h8⟩:=agT h6;have⟨aD,up,h9,dG,_⟩:=aoK h3;refine go (v:=v) ?_ h8;simp only[qy,hw,cond_true,h1,h2,cond_false,h9,YO,dG,YP,h5,h7]
     .have⟨aD,up,h9,dG,_⟩:=aoL h3;refine .inr ⟨x,H',?_,h4⟩;simp only[qy,hw,cond_true,h1,h2,cond_false,h9,YO,dG,YP]
    .rw[hl]at h;simp at h;rcases afN h with⟨h1,v,h2,h3⟩|⟨h1,h2,ob,g,h3,h4⟩|⟨h1,h2,_⟩|⟨h1,h2,_⟩
     .have⟨t,h5,h6⟩:=E_ h3;refine go (v:=v) ?_ h6;simp only[qy,hw,cond_true,h1,h2,R0,uH,h5]
     .have⟨t,h5,h6⟩:=E_ h4;refine go (v:=g H.br) ?_ h6;cases H with
      |mk hh n=>simp only[qy,hw,cond_true,h1,h2,cond_false,h3,Gi,uH];have FC:=h5;rw[FC]
     .rw[Br,h1,h2]at hl;cases hl
     .rw[Br,h1,h2]at hl;cases hl
   .have⟨t,h5,h6⟩:=E_ h;simp only[qy,hw,cond_false,uH,h5];exact afW h6
end
def fZ(ds:List qT)(rd:Option Nat)(fn nt:Nat)(tmps:Tr AV)(todo:List dQ):gw:=⟨fn,tmps,nt,todo,ds,.gI,none,rd⟩
abbrev pf:Nat->Nat->Tr AV->List dQ->gw:=fZ [] none
def X3(m0:Nat):LV->Prop
 |[]=>True
 |.aa id _::l=>id<m0/\X3 m0 l
 |_=>False
def qg(m0:Nat):List qT->Prop
 |[]=>True
 |.pr d::l=>d<m0/\qg m0 l
 |.xN _ cap args::l=>X3 m0 cap/\X3 m0 args/\qg m0 l
def Y4(m0:Nat):Option Nat->Prop
 |none=>True
 |some l=>l<m0
theorem E0(m0):qg m0 []:=trivial
theorem aFR(m0):Y4 m0 none:=trivial
theorem ae6{I E m0}(h:jG m0 I E):∀{a l},X3 m0 a->bf I a l->bf E a l
 |[],_,_,hv=>hv
 |.aa id off::a,l,hl,hv=>by obtain⟨x,l',rfl,h1,h2⟩:=hv;refine⟨x,l',rfl,?_,ae6 h hl.2 h2⟩;have⟨e,h3,h4⟩:=h1;exact⟨e,(h id hl.1).trans h3,h4⟩
theorem EC{I E m0}(h:jG m0 I E):∀{ds l},qg m0 ds->qV I ds l->qV E ds l
 |[],_,_,hd=>hd
 |.pr d::ds,_,hl,hd=>by obtain⟨x,l',rfl,h1,h2⟩:=hd;refine⟨x,l',rfl,?_,EC h hl.2 h2⟩;have⟨e,h3,h4⟩:=h1;exact⟨e,(h d hl.1).trans h3,h4⟩
 |.xN fn cap args::ds,_,hl,hd=>by obtain⟨x,l',rfl,h1,h2⟩:=hd;refine⟨x,l',rfl,?_,EC h hl.2.2 h2⟩;have⟨c,a,h3,hy,h4,h5⟩:=h1;exact⟨c,a,h3,hy,ae6 h hl.1 h4,ae6 h hl.2.1 h5⟩
theorem axa{I E m0}(h:jG m0 I E):∀{rd r},Y4 m0 rd->RR I rd r->RR E rd r
 |none,_,_,hr=>hr
 |some l,_,hl,hr=>by have⟨e,h1,h2⟩:=hr;exact⟨e,(h l hl).trans h1,h2⟩
section
variable{P:Program}{S:aX}
def abf(rd:Option Nat)(P:Program)(H:AH)(m0:Nat)(bs:fM)(I:bZ)(w:World)(cf:Frame)(cs:List Frame)(r:mL):Prop:=
 ∃aK w',WR aK bs r.H w'/\jG m0 I aK/\(cM bs w w'/\oj I H aK r.H)/\qW P aK w w' cf cs r none rd
abbrev ajr:=abf none
def bW(P:Program)(m0:Nat)(fr:gw)(H:AH)(Q:mL->Prop):Prop:=
 ∃r,Q r/\∀(I:bZ) (w:World) (bs:fM) (cf:Frame) (cs:List Frame),m0<=H.br->WR I bs H w->gY bs w->wv I fr cf->abf fr.rT P H m0 bs I w cf cs r
theorem cz.low{m I E H H'}(h:cz m I H E H'){id}(hi:id<m):E id=I id:=by
 cases hp:I id with
 |none=>exact(h.2.2.1 id hi hp).1
 |some e=>exact h.1 id e hp
theorem cz.ag{m I E H H'}(h:cz m I H E H'):jG m I E:=⟨λ_ hi=>h.low hi,h.1.ro,h.1.xs⟩
theorem qW.after{I w w1 w' cf HN cs r rd}(hs:Steps P (lone cf cs w) (lone HN cs w1))(jY:HN.fn=cf.fn)(h:qW P I w1 w' HN cs r none rd):qW P I w w' cf cs r none rd:=by
 cases rd with
 |none=>have⟨c,e,g1,g2,g3,g4⟩:=h;exact⟨c,e,g1,hs.trans g2,g3,g4.trans jY⟩
 |some l=>
  intro c cs' hc;have:=h c cs' hc;have⟨e,up,H⟩:=r;cases e with
  |gJ v=>have⟨v',g1,g2⟩:=this;exact⟨v',g1,hs.trans g2⟩
  |dI ch=>have⟨v',g1,g2⟩:=this;exact⟨v',g1,hs.trans g2⟩
theorem bW.jw{m0 fr fr' H H' Q}(cJ:P.follows .mixedOrders=true){call}(hc:nJ P call)(hu:fr.up=none)(h:kN P call fr H=.go fr' H')(ht:bW P m0 fr' H' Q):bW P m0 fr H Q:=by have⟨r,hq,hr⟩:=ht;refine⟨r,hq,λI w bs cf cs hm hw hb hf=>?_⟩;have hs:=agW cJ hc fr H I w m0 bs cf cs hw hb hm hf (by rw[hu];trivial);rw[h]at hs;have⟨aK,w',kI,mS,g1,g2,g3,g4,g5,g6,g7,g8,g9,Qe⟩:=hs;rw[hu]at g4;have gA:=g4;subst gA;have⟨kC,w1,k1,k2,k3,k4⟩:=hr aK w' bs kI mS (lz hm g8.2.1) g7 (hb.Hr g9.1) g2;rw[g5]at k4;exact⟨kC,w1,k1,g8.ag.sZ k2,⟨g9.um k3.1,g8.2.2.2.rX k3.2⟩,qW.after g1 Qe k4⟩
theorem bW.OJ{m0 fr H r Q}(cJ:P.follows .mixedOrders=true){call}(hc:nJ P call)(hu:fr.up=none)(h:kN P call fr H=.CC r)(hq:Q r):bW P m0 fr H Q:=by refine⟨r,hq,λI w bs cf cs hm hw hb hf=>?_⟩;have hs:=agW cJ hc fr H I w m0 bs cf cs hw hb hm hf (by rw[hu];trivial);rw[h]at hs;have⟨aK,w',g1,g2,g3,g4⟩:=hs;rw[hu]at g4;exact⟨aK,w',g1,g2.ag,⟨g3,g2.2.2.2⟩,g4⟩
theorem bW.Zb{m0 fr H Q Q'}(h:bW P m0 fr H Q)(hw:∀r,Q r->∃r',Q' r'/\∀(I aK:bZ) (w w' bs cf cs),WR aK bs r.H w'->qW P aK w w' cf cs r none fr.rT->∃E,WR E bs r'.H w'/\(jG m0 aK E/\oj aK r.H E r'.H)/\qW P E w w' cf cs r' none fr.rT):bW P m0 fr H Q':=by have⟨r,hq,hr⟩:=h;have⟨r',FV,h2⟩:=hw r hq;refine⟨r',FV,λI w bs cf cs hm yE hb hf=>?_⟩;have⟨aK,w',g1,g2,g3,g4⟩:=hr I w bs cf cs hm yE hb hf;have⟨E,k1,k2,k3⟩:=h2 I aK w w' bs cf cs g1 g4;exact⟨E,w',k1,g2.sZ k2.1,⟨g3.1,g3.2.rX k2.2⟩,k3⟩
theorem af1{I E}:∀{l xs},mf l=true->kE I l xs->kE E l xs
 |[],_,_,h=>h
 |x::l,xs,hp,h=>by
  simp only[mf,cT]at hp;obtain⟨y,ys,rfl,h1,h2⟩:=h;refine⟨y,ys,rfl,?_,af1 hp.2 h2⟩;cases x<;>first
   |exact h1
   |(simp[R5]at hp)
theorem bW.NI{ds rd m0 fn nt tmps t todo H H2 Q mG l ps}(hp:mf todo=true)(hv:nD m0 mG H=some ⟨ps,H2⟩)(ht:sT (iX ps) tmps l=some t)(h:bW P m0 (fZ ds rd fn nt t todo) H2 Q)(ig:qg m0 ds)(wY:Y4 m0 rd):bW P m0 (fZ ds rd fn nt tmps todo) H Q:=by
 have⟨r,hq,hr⟩:=h;obtain⟨tt,n,rfl,aN,jZ,jN⟩:=Eg hv;refine⟨r,hq,λI w bs cf cs hm hw hb hf=>?_⟩;have wW:jG m0 I (jD ps I):=by refine⟨λid hi=>?_,λ_ _ h=>h,λ_ _ h=>h⟩;simp[jD,jN id hi]
 have hn:m0<=n:=by
  rcases Sl m0 with h0|h0
  .omega
  .have:=aN.lt _ (M8 (jN (m0-1) (by omega)));simp only at this;omega
 have⟨aK,w',g1,g2,g3,g4⟩:=hr (jD ps I) w bs cf cs hn (hw.uU aN jZ) hb (by
  obtain⟨b,a,ML,rfl,jj,hi⟩:=hf;refine⟨b,a,ML,rfl,⟨jj.fn,⟨jj.tr.1,?_⟩,EC wW ig jj.dr,axa wW wY jj.kD,jj.lD,λh=>by cases h⟩,af1 hp hi⟩
  .intro s a' Ix;have⟨a0,h1,h2⟩:=SY ht Ix;have⟨v,h3,h4⟩:=jj.tr.2 s a0 h1;exact⟨v,h3,t_ (z_ aN I) h2 h4⟩)
 exact⟨aK,w',g1,wW.sZ g2,⟨g3.1,(oj.of rfl rfl:oj I H (jD ps I) ⟨tt,n,H.x⟩).rX g3.2⟩,g4⟩
theorem bW.aOd{ds m0 fn nt tmps t todo rM H H2 Q mG l ps}(hv:nD m0 mG H=some ⟨ps,H2⟩)(ht:sT (iX ps) tmps l=some t)(h:bW P m0 ⟨fn,t,nt,rM,ds,.jR,none,none⟩ H2 Q)(ig:qg m0 ds):bW P m0 ⟨fn,tmps,nt,todo,ds,.jR,none,none⟩ H Q:=by
 have⟨r,hq,hr⟩:=h;obtain⟨tt,n,rfl,aN,jZ,jN⟩:=Eg hv;refine⟨r,hq,λI w bs cf cs hm hw hb hf=>?_⟩;have wW:jG m0 I (jD ps I):=⟨λid hi=>by simp[jD,jN id hi],λ_ _ h=>h,λ_ _ h=>h⟩;have hn:m0<=n:=by
  rcases Sl m0 with h0|h0
  .omega
  .have:=aN.lt _ (M8 (jN (m0-1) (by omega)));simp only at this;omega
 have⟨aK,w',g1,g2,g3,g4⟩:=hr (jD ps I) w bs cf cs hn (hw.uU aN jZ) hb (by have⟨jj,yz⟩:=hf;refine⟨⟨jj.fn,⟨jj.tr.1,?_⟩,EC wW ig jj.dr,jj.kD,jj.lD,λh=>by cases h⟩,yz⟩;intro s a' Ix;have⟨a0,h1,h2⟩:=SY ht Ix;have⟨v,h3,h4⟩:=jj.tr.2 s a0 h1;exact⟨v,h3,t_ (z_ aN I) h2 h4⟩);exact⟨aK,w',g1,wW.sZ g2,⟨g3.1,(oj.of rfl rfl:oj I H (jD ps I) ⟨tt,n,H.x⟩).rX g3.2⟩,g4⟩
theorem bW.aOc{ds m0 fn nt tmps t todo rM H H2 Q mG l ps x y}(hv:nD m0 mG H=some ⟨ps,H2⟩)(hx:eF (iX ps) x=some y)(ht:sT (iX ps) tmps l=some t)(h:bW P m0 ⟨fn,t,nt,rM,ds,.mj [(y,false)],none,none⟩ H2 Q)(ig:qg m0 ds):bW P m0 ⟨fn,tmps,nt,todo,ds,.mj [(x,false)],none,none⟩ H Q:=by
 have⟨r,hq,hr⟩:=h;obtain⟨tt,n,rfl,aN,jZ,jN⟩:=Eg hv;refine⟨r,hq,λI w bs cf cs hm hw hb hf=>?_⟩;have wW:jG m0 I (jD ps I):=⟨λid hi=>by simp[jD,jN id hi],λ_ _ h=>h,λ_ _ h=>h⟩;have hn:m0<=n:=by
  rcases Sl m0 with h0|h0
  .omega
  .have:=aN.lt _ (M8 (jN (m0-1) (by omega)));simp only at this;omega
 have⟨aK,w',g1,g2,g3,g4⟩:=hr (jD ps I) w bs cf cs hn (hw.uU aN jZ) hb (by
  have⟨jj,yz⟩:=hf;refine⟨⟨jj.fn,⟨jj.tr.1,λs a' Ix=>?_⟩,EC wW ig jj.dr,jj.kD,jj.lD,λh=>by cases h⟩,?_⟩
  .have⟨a0,h1,h2⟩:=SY ht Ix;have⟨v,h3,h4⟩:=jj.tr.2 s a0 h1;exact⟨v,h3,t_ (z_ aN I) h2 h4⟩
  have⟨c',k1,v',l',k2,k3,k4⟩:=yz;exact⟨c',k1,v',l',k2,t_ (z_ aN I) hx k3,k4⟩)
 exact⟨aK,w',g1,wW.sZ g2,⟨g3.1,(oj.of rfl rfl:oj I H (jD ps I) ⟨tt,n,H.x⟩).rX g3.2⟩,g4⟩
theorem bW.uU{m0 fn nt tmps t todo H H2 Q mG l ps}(hp:mf todo=true)(hv:nD m0 mG H=some ⟨ps,H2⟩)(ht:sT (iX ps) tmps l=some t)(h:bW P m0 (pf fn nt t todo) H2 Q):bW P m0 (pf fn nt tmps todo) H Q:=
 bW.NI hp hv ht h (E0 _) (aFR _)
theorem ER.ret{I v e}(h:ER I (.gJ v) e):ER I (jX v) e:=by
 cases v<;>first
  |exact h
  |(have⟨_,_,h⟩:=h;exact h.elim)
theorem qW.ret{I w w' cf cs v H}(h:qW P I w w' cf cs ⟨.gJ v,none,H⟩ none none):qW P I w w' cf cs ⟨jX v,none,H⟩ none none:=by have⟨c,e,h1,h2⟩:=h;exact⟨c,e,h1.ret,h2⟩
theorem qW.GA{r kC lU w w' cf cs v v' H H' rd}(hr:u9 r kC lU)(hv:eF r v=some v')(h:qW P kC w w' cf cs ⟨jX v,none,H⟩ none rd):qW P lU w w' cf cs ⟨jX v',none,H'⟩ none rd:=by
 have key:(∃x x',v=.dI x/\v'=.dI x'/\eF r x=some x')\/(jX v=.gJ v/\jX v'=.gJ v'):=by
  cases v<;>simp only[eF]at hv;case dI x=>
   left;split at hv;next b hb=>cases hv;exact⟨x,b,rfl,rfl,hb⟩
   .cases hv
  all_goals right
  all_goals first
   |(cases hv;exact aA)
   |(split at hv
     .first
      |(cases hv;exact aA)
      |(split at hv
        .split at hv<;>(cases hv;exact aA)
        .cases hv;exact aA)
     .cases hv)
 rcases key with⟨x,x',rfl,rfl,hx⟩|⟨h1,h2⟩
 .cases rd with
  |none=>obtain⟨kI,e',⟨c',rfl,y,l',rfl,k1,k2⟩,k3⟩:=h;exact⟨kI,_,⟨_,rfl,y,l',rfl,t_ hr hx k1,k2⟩,k3⟩
  |some l=>intro c cs' gL;obtain⟨c',⟨y,l',rfl,k1,k2⟩,k3⟩:=h c cs' gL;exact⟨_,⟨y,l',rfl,t_ hr hx k1,k2⟩,k3⟩
 .rw[h1]at h;rw[h2];cases rd with
  |none=>obtain⟨kI,e',⟨v0,rfl,k1⟩,k2⟩:=h;exact⟨kI,_,⟨v0,rfl,t_ hr hv k1⟩,k2⟩
  |some l=>intro c cs' gL;have⟨v0,k1,k2⟩:=h c cs' gL;exact⟨v0,t_ hr hv k1,k2⟩
def rK(Q:AV->AH->Prop)(r:mL):Prop:=∃v,r.e=jX v/\r.up=none/\Q v r.H
def Pj(P:Program)(S:aX)(ds:List qT)(rd:Option Nat)(fn nt m0:Nat)(Q:mL->Prop)(ret:Bool->Tr AV->AH->Prop):Prop:=
 ∀(b:Bool) (tmps:Tr AV) (todo:List dQ) (H:AH),ret b tmps H->kN P (lW S) (fZ ds rd fn nt tmps todo) H=xh (fZ ds rd fn nt tmps todo) H (bif b then some .ret else none)->bW P m0 (fZ ds rd fn nt tmps todo) H Q
theorem aeW{ds fn nt tmps todo H}(b):xh (fZ ds none fn nt tmps todo) H (bif b then some .ret else none)=.go ⟨fn,tmps,nt,todo,ds,.jR,none,none⟩ H:=by cases b<;>rfl
theorem agr{fn nt m0:Nat}{Q H fr l}(wY:fr.rT=none)(h:match nD m0 (yH (Ee l)) H with
 |some ⟨ps,H2⟩=>match eF (iX ps) (Ee l)with
  |some v=>Q v H2
  |none=>False
 |none=>False) {H0} (ht:bW P m0 fr H0 (λr=>r=⟨.gJ (Ee l),none,H⟩)):bW P m0 fr H0 (rK Q):=by
 split at h;next ps H2 hv=>
  split at h;next v hr=>refine bW.Zb ht ?_;rintro r rfl;refine⟨⟨jX v,none,H2⟩,⟨v,rfl,rfl,h⟩,?_⟩;intro I aK w w' bs cf cs hw he;obtain⟨tt,n,rfl,aN,jZ,jN⟩:=Eg hv;refine⟨jD ps aK,hw.uU aN jZ,⟨⟨λid hi=>by simp[jD,jN id hi],λ_ _ h=>h,λ_ _ h=>h⟩,.of rfl rfl⟩,?_⟩;rw[wY]at he⊢;exact he.ret.GA (z_ aN aK) hr
  .cases h
 .cases h
theorem ak6(cJ:P.follows .mixedOrders=true)(hc:nJ P (lW S)){fn nt m0 Q}:Pj P S [] none fn nt m0 (rK Q) (λ_=>qZ P fn m0 Q):=by
 intro b tmps todo H h hs;rw[aeW]at hs;unfold qZ at h;split at h;next f hf=>
  split at h;next l hl=>refine agr (fn:=fn) (nt:=nt) rfl h ?_;refine bW.jw cJ hc rfl hs (bW.OJ cJ hc rfl ?_ rfl);simp only[kN,GL,M_,hf,hl]
  .cases h
 .cases h
theorem ak2(cJ:P.follows .mixedOrders=true)(hc:nJ P (lW S)){fn nt m0}(jY:(P.funcs[fn]?).isSome=true){Q x H tmps}(h:UZ m0 Q x tmps H)(todo):bW P m0 ⟨fn,tmps,nt,todo,[],.mj [(x,false)],none,none⟩ H (rK Q):=by
 unfold UZ at h;split at h;next ps H2 hv=>
  split at h;next v hr=>
   refine bW.Zb (bW.OJ (r:=⟨jX (.dI x),none,H⟩) cJ hc rfl ?_ rfl) ?_
   .simp only[kN,GL,M_,jY,cond_true,jX]
   .rintro r rfl;refine⟨⟨jX (.dI v),none,H2⟩,⟨_,rfl,rfl,h⟩,?_⟩;intro I aK w w' bs cf cs hw he;obtain⟨tt,n,rfl,aN,jZ,jN⟩:=Eg hv;refine⟨jD ps aK,hw.uU aN jZ,⟨⟨λid hi=>by simp[jD,jN id hi],λ_ _ h=>h,λ_ _ h=>h⟩,.of rfl rfl⟩,?_⟩;exact he.GA (z_ aN aK) (by simp only[eF,hr])
  .cases h
 .cases h
def abv(P:Program)(ds:List qT)(rd:Option Nat)(fn nt m0:Nat)(Q:mL->Prop)(dI:AV->Tr AV->AH->Prop):Prop:=
 ∀(x:AV) (H:AH) (tmps:Tr AV) (todo:List dQ),dI x tmps H->bW P m0 ⟨fn,tmps,nt,todo,ds,.mj [(x,false)],none,rd⟩ H Q
theorem afU{ds rd fn nt m0 Q}:abv P ds rd fn nt m0 Q (λ_ _ _=>False):=λ_ _ _ _ h=>h.elim
theorem aEd{t id off d H x}(hd:id≠d):vJ P (H.cE d x) t id off=vJ P H t id off:=by
 have:(H.cE d x).aR id=H.aR id:=by show(H.h.fB d x).bL id=H.h.bL id;rw[Tr.lL,aw hd]
 have:(H.cE d x).rU id=H.rU id:=by unfold AH.rU;rw[this]
 unfold vJ;rw[this]
theorem aEc{t off d}{H:AH}:vJ P (H.cE d (.bg [])) t d off=none:=by
 have:(H.cE d (.bg [])).aR d=some (.bg []):=by show(H.h.fB d _).bL d=_;rw[Tr.lL,aP rfl]
 have:(H.cE d (.bg [])).rU d=none:=by unfold AH.rU;rw[this]
 unfold vJ;rw[this]
theorem agp{d}{H:AH}{tmps x}:∀{rs l},uO P (H.cE d (.bg [])) tmps rs=some l->uO P (H.cE d x) tmps rs=some l
 |[],l,h=>h
 |.tmp t::rs,l,h=>by
  simp only[uO]at h⊢;cases ht:tmps.bL t with
  |none=>rw[ht]at h;cases h
  |some v=>rw[ht]at h;obtain⟨l',h1,rfl⟩:=Gs.1 h;rw[agp h1];rfl
 |.cell a t::rs,l,h=>by
  simp only[uO]at h⊢;cases ht:tmps.bL a with
  |none=>rw[ht]at h;cases h
  |some v=>
   rw[ht]at h;cases v<;>simp only at h⊢<;>try (cases h;done)
   rename_i id off;by_cases hd:id=d
   .subst hd;rw[aEc]at h;cases h
   .rw[aEd hd]at h⊢;cases hv:vJ P H t id off with
    |none=>rw[hv]at h;cases h
    |some v=>rw[hv]at h;obtain⟨l',h1,rfl⟩:=Gs.1 h;rw[agp h1];rfl
theorem WR.V_{I bs}{H:AH}{w d x}(hd:d<H.br)(hw:WR I bs (H.cE d x) w):WR I bs (H.cE d (.bg [])) w:=by
 have hg:∀{y:aO} {id:Nat},(H.cE d y).aR id=if id=d then some y else H.aR id:=fun{y id}=>Tr.lL H.h d id y
 refine⟨?_,?_,hw.lt,?_,hw.uP rfl rfl (by rw[Au,Au]) (λ_ _=>rfl) λid ob e h1 l1 h2=>.inl ?_⟩
 .intro id ob e h1 h2;rw[hg]at h1;by_cases hi:id=d
  .rw[aP hi]at h1;cases h1;have:=(hw.lt id e h2).1;exact⟨w.heap[e.b],DQ _,trivial⟩
  .rw[aw hi]at h1;exact hw.ey id ob e (by rw[hg,aw hi];exact h1) h2
 .intro id ij ob bu e e' h1 l1 h2 h3 l2 h4 hb;rw[hg]at h1 h3;by_cases hi:id=d
  .rw[aP hi]at h1;cases h1;cases l1
  .by_cases hj:ij=d
   .rw[aP hj]at h3;cases h3;cases l2
   .rw[aw hi]at h1;rw[aw hj]at h3;exact hw.jx id ij ob bu e e' (by rw[hg,aw hi];exact h1) l1 h2 (by rw[hg,aw hj];exact h3) l2 h4 hb
 .intro id ob h1;by_cases hi:id=d
  .rw[hi];exact hd
  .rw[hg,aw hi]at h1;exact hw.nx id ob (by rw[hg,aw hi];exact h1)
 .rw[hg]at h1;by_cases hi:id=d
  .rw[aP hi]at h1;cases h1;cases l1
  .rw[aw hi]at h1;exact⟨id,ob,e,by rw[hg,aw hi];exact h1,l1,h2,rfl⟩
theorem ak5(cJ:P.follows .mixedOrders=true)(hc:nJ P (lW S)){fn nt m0 d Q}(hd:d<m0):Pj P S [.pr d] none fn nt m0 (rK Q) (λ_=>U0 P fn m0 Q d):=by
 intro b tmps todo H h hs;rw[aeW]at hs;simp only[U0]at h;split at h;next ho=>
  unfold qZ at h;split at h;next f hf=>
   split at h;next l hl=>
    refine agr (fn:=fn) (nt:=nt) rfl h ?_;refine bW.jw cJ hc rfl hs ?_;refine bW.jw (fr':=⟨fn,tmps,nt,todo,[],.jR,none,none⟩) (H':=H.cE d (.qR none)) cJ hc rfl ?_ ?_
    .simp only[kN,GL,ho]
    .refine bW.Zb (bW.OJ (Q:=λr=>r=⟨.gJ (Ee l),none,H.cE d (.qR none)⟩) cJ hc rfl ?_ rfl) ?_
     .simp only[kN,GL,M_,hf,agp hl]
     .rintro r rfl;refine⟨_,rfl,λI aK w w' bs cf cs hw he=>⟨aK,?_,⟨jG.CA _ _,.of (by show(H.cE d _).x=(H.cE d _).x;rw[Au,Au]) rfl⟩,he⟩⟩;refine WR.V_ ?_ hw;by_cases hn:d<H.br
      .exact hn
      .exact absurd (hw.nx d (.qR none) (by show(H.h.fB d _).bL d=_;rw[Tr.lL,aP rfl])) hn
   .cases h
  .cases h
 .cases h
theorem ax5(cJ:P.follows .mixedOrders=true)(hc:nJ P (lW S)){fn nt m0 l Q}:Pj P S [] (some l) fn nt m0 (rK Q) (ace m0 Q l):=by
 intro b tmps todo H h hs;cases b with
 |true=>cases h
 |false=>
  simp only[ace,cond_false]at h;split at h;next st p lf tm ln ps a bd d ho=>
   split at h;next uJ H2 hv=>
    have Dy:kN P (lW S) (fZ [] (some l) fn nt tmps todo) H=.CC ⟨.gJ (.ai true),none,H.cE l (.gX .ready none lf tm ln ps a bd d)⟩:=by rw[hs];simp only[fZ,xh,aeV,cond_false,ho,Option.isNone_none,cond_true]
    refine bW.Zb (bW.OJ cJ hc rfl Dy rfl) ?_;rintro r rfl;refine⟨⟨.gJ (.ai true),none,H2⟩,⟨_,rfl,rfl,h⟩,?_⟩;intro I aK w w' bs cf cs hw he;obtain⟨tt,n,rfl,aN,jZ,jN⟩:=Eg hv;refine⟨jD uJ aK,hw.uU aN jZ,⟨⟨λid hi=>by simp[jD,jN id hi],λ_ _ h=>h,λ_ _ h=>h⟩,.of rfl rfl⟩,?_⟩;intro c cs' gL;have⟨v',g1,g2⟩:=he c cs' gL;exact⟨v',g1,g2⟩
   .cases h
  .cases h
theorem Jy(cJ:P.follows .mixedOrders=true)(hc:nJ P (lW S)){ds rd fn nt m0 aQ L ret Q}(ig:qg m0 ds)(wY:Y4 m0 rd)(yC:Pj P S ds rd fn nt m0 Q ret){dI}(Xl:abv P ds rd fn nt m0 Q dI)(hL:∀t H todo,L t H todo->bW P m0 (fZ ds rd fn nt t todo) H Q):∀(n) {tmps todo H},mh P S nt m0 aQ L ret dI rd n tmps todo H->bW P m0 (fZ ds rd fn nt tmps todo) H Q
 |0,_,_,_,h=>by cases h
 |n+1,tmps,todo,H,h=>by
  have ih:=fun{tmps:Tr AV} {todo:List dQ} {H:AH}=>Jy cJ hc (aQ:=aQ) ig wY yC Xl hL n (tmps:=tmps) (todo:=todo) (H:=H)
  have loop:∀{body:Code} {k:List dQ},UY m0 aQ L body k tmps H->bW P m0 (fZ ds rd fn nt tmps (.gP body::.sY body::k)) H Q:=by
   intro body k h;unfold UY at h;split at h
   .cases h
   .split at h;next i _ ps H2 hv=>
     split at h;next t ht=>obtain⟨hp,h⟩:=iu h;exact bW.NI (by simp[mf,R5,hp]) hv ht (hL _ _ _ h) ig wY
     .cases h
    .cases h
  simp only[mh]at h;split at h
  .exact yC false tmps [] H h rfl
  .exact bW.jw cJ hc rfl rfl (ih h)
  .exact bW.jw cJ hc rfl rfl (ih h)
  next k=>
   split at h;next l=>
    split at h;next p lf lt ln ps a b d ho=>refine bW.jw cJ hc rfl ?_ (ih h);simp only[fZ,kN,sP,ub,Zt,ho]
    .cases h
   .cases h
  next body k=>
   cases hb:ZT aQ body
   .rw[hb]at h;exact bW.jw cJ hc rfl rfl (loop h)
   .rw[hb]at h;exact bW.jw cJ hc rfl rfl (ih h)
  next ops i l k=>
   split at h
   .exact bW.jw cJ hc rfl rfl (ih h)
   next o rest=>
    rcases aos h with⟨hw,h⟩|⟨hw,h⟩
    .cases Mq:apM o.op with
     |true=>
      rw[Mq]at h;simp only[cond_true]at h;split at h;next v wX=>
       refine bW.jw cJ hc rfl ?_ (Xl _ _ tmps (.gW ops i (o::rest)::k) h);unfold arX at wX;split at wX;next x ox=>
        split at wX;next t v0 xa=>
         cases wX;have e1:qp o.op=false:=by rw[ox];rfl
         have e2:uD o.op=false:=by rw[ox];rfl
         have e3:ot P (iC tmps) H o.op=some (.xQ (.ep t v0)):=by rw[ox];simp only[ot,adN,xa]
         simp only[fZ,kN,sP,ub,BV,hw,cond_true,e1,e2,cond_false,e3,Ak,No,Ae]
        .cases wX
       .cases wX
      .cases h
     |false=>
     rw[Mq]at h;simp only[cond_false]at h;cases fw:aey aQ o.op with
     |true=>
      rw[fw]at h;simp only[cond_true]at h;unfold U2 at h;split at h;next uJ H2 hv=>
       split at h;next t ht=>obtain⟨hp,h⟩:=iu h;exact bW.NI hp hv ht (hL _ _ _ h) ig wY
       .cases h
      .cases h
     |false=>
     rw[fw]at h;simp only[cond_false]at h;rcases afN h with⟨h1,v,h2,h3⟩|⟨h1,h2,ob,g,h3,h4⟩|⟨h1,h2,v,H',h3,h4⟩|⟨h1,h2,v,H',h3,h4⟩
     .obtain⟨t,h5,h6⟩:=E_ h3;refine bW.jw cJ hc rfl ?_ (ih h6);simp only[fZ,kN,sP,ub,BV,hw,cond_true,h1,h2,agE,tS,h5]
     .obtain⟨t,h5,h6⟩:=E_ h4;refine bW.jw cJ hc rfl ?_ (ih h6);cases H with
      |mk hh nn=>have FC:=h5;simp only[fZ,kN,sP,ub,BV,hw,cond_true,h1,h2,cond_false,h3,agD,tS,FC]
     .have⟨t,h5,h6⟩:=E_ h4;have⟨aD,up,h7,h8,n1,n2,n3⟩:=aoK h3;refine bW.jw cJ hc rfl ?_ (ih h6);simp only[fZ,kN,sP,ub,BV,hw,cond_true,h1,h2,cond_false,h7];cases aD with
      |zh d=>exact absurd rfl (n1 d)
      |xQ v=>exact absurd rfl (n2 v)
      |zi=>exact absurd rfl n3
      |gQ v0 H0=>simp only[Ak,h8,BT,tS,h5]
      |rW f as=>simp only[Ak,h8,BT,tS,h5]
      |xR f as=>simp only[Ak,h8,BT,tS,h5]
     .have⟨aD,up,h7,h8,n1,n2,n3⟩:=aoL h3;refine bW.jw cJ hc rfl ?_ (Xl _ _ tmps (.gW ops i (o::rest)::k) h4);simp only[fZ,kN,sP,ub,BV,hw,cond_true,h1,h2,cond_false,h7];cases aD with
      |zh d=>exact absurd rfl (n1 d)
      |xQ v=>exact absurd rfl (n2 v)
      |zi=>exact absurd rfl n3
      |gQ v0 H0=>simp only[Ak,h8,BT,No,Ae]
      |rW f as=>simp only[Ak,h8,BT,No,Ae]
      |xR f as=>simp only[Ak,h8,BT,No,Ae]
    .have⟨t,h5,h6⟩:=E_ h;refine bW.jw cJ hc rfl ?_ (ih h6);simp only[fZ,kN,sP,ub,BV,hw,cond_false,tS,h5]
  next c k=>
   split at h
   .exact yC true tmps _ H h rfl
   .exact bW.jw cJ hc rfl rfl (ih h)
   .exact bW.jw cJ hc rfl rfl (ih h)
   .exact bW.jw cJ hc rfl rfl (ih h)
   next c a b=>
    split at h;next t ht=>
     cases t
     .refine bW.jw cJ hc rfl ?_ (ih h);simp only[fZ,kN,sP,ub,Ao,agU,ht,to,cond_false]
     .refine bW.jw cJ hc rfl ?_ (ih h);simp only[fZ,kN,sP,ub,Ao,agU,ht,to,cond_true]
    .cases h
   .exact bW.jw cJ hc rfl rfl (ih h)
   .exact bW.jw cJ hc rfl rfl (ih h)
   next body=>
    cases hb:ZT aQ body
    .rw[hb]at h;exact bW.jw cJ hc rfl rfl (loop h)
    .rw[hb]at h;exact bW.jw cJ hc rfl rfl (ih h)
   .split at h;next k' hk=>refine bW.jw cJ hc rfl ?_ (ih h);simp only[fZ,kN,sP,ub,Ao,hk,agV,to]
    .cases h
   next id ops te=>
    cases hsr:aez aQ id with
    |true=>
     rw[hsr]at h;simp at h;unfold U2 at h;split at h;next uJ H2 hv=>
      split at h;next t ht=>have⟨hp,h⟩:=iu h;exact bW.NI hp hv ht (hL _ _ _ h) ig wY
      .cases h
     .cases h
    |false=>
    rw[hsr]at h;simp at h;cases te
    .exact bW.jw cJ hc rfl rfl (ih h)
    .simp at h;split at h;next pl kL=>
      rcases afW h with⟨t,H',h1,h2⟩|⟨x,H',h1,h2⟩
      .refine bW.jw cJ hc rfl ?_ (ih h2);simp only[fZ,kN,sP,ub,Ao,SI,cond_true,kL,h1,afV]
      .refine bW.jw cJ hc rfl ?_ (Xl _ _ (LC tmps (Lk ops)) k h2);simp only[fZ,kN,sP,ub,Ao,SI,cond_true,kL,h1,afV,Ae]
     .cases h
   next f ps a b=>
    unfold ak4 at h;split at h;next uJ H2 hv=>
     split at h;next t ht=>have⟨hp,h⟩:=iu h;exact bW.NI (by simp[mf,R5,hp]) hv ht (hL _ _ _ h) ig wY
     .cases h
    .cases h
   .cases h
  .cases h
end
end
section
section
variable{I:bZ}
mutual
theorem WU:∀{a:AV} {v:Value},VR I a v->∀id∈l4 a,∃e,I id=some e
 |.ai _,_,_,_,h=>by simp[l4]at h
 |.bD _ _,_,_,_,h=>by simp[l4]at h
 |.ao _,_,_,_,h=>by simp[l4]at h
 |.aa i _,_,hv,id,h=>by simp[l4]at h;subst h;obtain⟨e,h1,_⟩:=hv;exact⟨e,h1⟩
 |.kZ,_,_,_,h=>by simp[l4]at h
 |.bK i _ _ _ _ _,_,hv,id,h=>by simp[l4]at h;subst h;obtain⟨e,x,c,h1,_⟩:=hv;exact⟨e,h1⟩
 |.aM,_,_,_,h=>by simp[l4]at h
 |.aS i,_,hv,id,h=>by simp[l4]at h;subst h;obtain⟨e,h1,_⟩:=hv;exact⟨e,h1⟩
 |.oz,_,_,_,h=>by simp[l4]at h
 |.cw _ f c,_,hv,id,h=>by
  simp only[l4,iK]at h;obtain⟨f',c',_,_,h1,h2⟩:=hv;rcases h with h|h
  .exact Iz h1 id h
  .exact Iz h2 id h
 |.ib i,_,hv,id,h=>by simp[l4]at h;subst h;obtain⟨e,h1,_⟩:=hv;exact⟨e,h1⟩
 |.rV,_,_,_,h=>by simp[l4]at h
 |.ep _ a,_,hv,id,h=>by simp only[l4]at h;obtain⟨v',_,h1⟩:=hv;exact WU h1 id h
 |.ml,_,_,_,h=>by simp[l4]at h
 |.aj cs,_,hv,id,h=>by simp only[l4]at h;obtain⟨v',_,h1⟩:=hv;exact Iz h1 id h
 |.aL cs,_,hv,id,h=>by simp only[l4]at h;obtain⟨v',_,h1⟩:=hv;exact Iz h1 id h
 |.yk _,_,_,_,h=>by simp[l4]at h
 |.aq ..,_,_,_,h=>by simp[l4]at h
 |.qI _,_,_,_,h=>by simp[l4]at h
 |.ad ..,_,_,_,h=>by simp[l4]at h
theorem Iz:∀{as:LV} {vs:List Value},bf I as vs->∀id∈vu as,∃e,I id=some e
 |[],_,_,_,h=>by simp[vu]at h
 |a::as,_,hv,id,h=>by
  simp only[vu,iK]at h;obtain⟨v,eA,rfl,h1,h2⟩:=hv;rcases h with h|h
  .exact WU h1 id h
  .exact Iz h2 id h
end
theorem adT:∀{t x},x∈QC t->∃i a,t.bL i=some a/\x∈l4 a
 |.iq,x,h=>by cases h
 |.gB v l r,x,h=>by
  simp only[QC,iK]at h;rcases h with(h|h)|h
  .cases v with
   |none=>cases h
   |some a=>exact⟨0,a,by rw[Tr.rj,aP rfl],h⟩
  .have⟨i,a,h1,h2⟩:=adT h;refine⟨2*i+1,a,?_,h2⟩;rw[Tr.rj,aw (by omega),aP (by omega)];have:(2*i+1)/ 2=i:=by omega
   rw[this];exact h1
  .have⟨i,a,h1,h2⟩:=adT h;refine⟨2*i+2,a,?_,h2⟩;rw[Tr.rj,aw (by omega),aw (by omega)];have:(2*i+2)/ 2-1=i:=by omega
   rw[this];exact h1
theorem afF{bs H w}(hw:WR I bs H w):∀{ps hd},M5 H hd ps=true->(∀id∈hd,∃e,I id=some e)->
 ∀p∈ps,∃ob,H.aR p.1=some ob/\ob.aQ=true/\((∃e,I p.1=some e)\/∃vs el,ob=.au vs el)
 |[],_,_,_,p,hp=>by cases hp
 |(o,n)::l,hd,h,hh,p,hp=>by
  simp only[M5]at h;split at h;next vs el ho=>
   rcases dU.1 hp with rfl|hp
   .exact⟨_,ho,rfl,.inr ⟨vs,el,rfl⟩⟩
   .exact afF hw h hh p hp
  .cases h
  .cases h
  next n1 n2 n3=>
   cases eW:H.aR o with
   |none=>exact absurd eW n3
   |some ob=>
    have hl:ob.aQ=true:=by cases ob<;>first|rfl|exact absurd eW (n2 _)
    cases adS:hd.any (Nat.beq o)
    .rw[adS]at h;cases h
    .rw[adS]at h;simp at h;have⟨x,hx,pH⟩:=List.any_eq_true.1 adS;have:=dN pH;subst this;have⟨e,he⟩:=hh _ hx;rcases dU.1 hp with rfl|hp
     .exact⟨ob,eW,hl,.inl ⟨e,he⟩⟩
     .refine afF hw h ?_ p hp;intro id dw;rcases iK.1 dw with dw|dw
      .exact hh id dw
      .rw[eW]at dw;have⟨o',_,wV⟩:=hw.ey _ _ e eW he;cases ob<;>simp only[aoC]at dw<;>try (simp at dw;done)
       .obtain⟨cs,el,rfl,_,_,hv,_⟩:=wV;exact Iz hv id dw
       .obtain⟨qG,ed,rfl,hd,w_⟩:=wV;rcases dU.1 dw with rfl|dw
        .exact⟨ed,hd⟩
        .have⟨i,a,h1,h2⟩:=adT dw;have⟨v,_,h4⟩:=w_.2 i a h1;exact WU h4 id h2
end
theorem aci{r Hs}:∀{ps t t' id bu},(ps.map (·.1)).Nodup->CT r Hs ps t=some t'->t'.bL id=some bu->
 (∃n,(id,n)∈ps/\((∃ob,Hs.aR n=some ob/\mF r ob=some bu)\/bu=.bg []))\/((∀n,(id,n)∉ps)/\t.bL id=some bu)
 |[],t,t',id,bu,_,h,hg=>by cases h;exact .inr ⟨(λ_ h=>by cases h),hg⟩
 |(o,n)::l,t,t',id,bu,hn,h,hg=>by
  simp at hn;have aC:∀x,CT r Hs l (t.fB o x)=some t'->((∃ob,Hs.aR n=some ob/\mF r ob=some x)\/x=.bg [])->
   (∃n',(id,n')∈(o,n)::l/\((∃ob,Hs.aR n'=some ob/\mF r ob=some bu)\/bu=.bg []))\/((∀n',(id,n')∉(o,n)::l)/\t.bL id=some bu):=by
   intro x hx Xp;rcases aci hn.2 hx hg with⟨n',h1,h2⟩|⟨h1,h2⟩
   .exact .inl ⟨n',dZ _ h1,h2⟩
   .rw[Tr.lL]at h2;by_cases hi:id=o
    .subst hi;rw[aP rfl]at h2;cases h2;exact .inl ⟨n,dk ..,Xp⟩
    .rw[aw hi]at h2;refine .inr ⟨λn' hm=>?_,h2⟩;rcases dU.1 hm with hm|hm
     .cases hm;exact hi rfl
     .exact h1 n' hm
  simp only[CT]at h;split at h
  .exact aC _ h (.inr rfl)
  next ob ho=>
   split at h;next dz h1=>exact aC _ h (.inl ⟨ob,ho,h1⟩)
   .cases h
theorem ala{r Hs}:∀{ps t t' id},CT r Hs ps t=some t'->(∀n,(id,n)∉ps)->t'.bL id=t.bL id
 |[],t,t',id,h,_=>by cases h;rfl
 |(o,n)::l,t,t',id,h,hn=>by
  have cx:id≠o:=by rintro rfl;exact hn n (dk ..)
  have aC:∀x,CT r Hs l (t.fB o x)=some t'->t'.bL id=t.bL id:=by intro x hx;rw[ala hx (λn' hm=>hn n' (dZ _ hm)),Tr.lL,aw cx]
  simp only[CT]at h;split at h
  .exact aC _ h
  .split at h
   .exact aC _ h
   .cases h
theorem acg{r Hs k next}:∀{j t t' id bu},KX r Hs k next j t=some t'->t'.bL id=some bu->
 (∃i ob,i<j/\id=next+i/\Hs.aR (k+i)=some ob/\mF r ob=some bu)\/t.bL id=some bu
 |0,t,t',id,bu,h,hg=>by cases h;exact .inr hg
 |j+1,t,t',id,bu,h,hg=>by
  simp only[KX]at h;split at h
  .cases h
  next t1 h1=>
   have rest:∀{t2:Tr aO},t2=t1->t2.bL id=some bu->(∃i ob,i<j+1/\id=next+i/\Hs.aR (k+i)=some ob/\mF r ob=some bu)\/t.bL id=some bu:=by
    rintro t2 rfl hg;rcases acg h1 hg with⟨i,ob,a,b⟩|h2
    .exact .inl ⟨i,ob,by omega,b⟩
    .exact .inr h2
   split at h
   .cases h;exact rest rfl hg
   next ob ho=>
    split at h;next dz hr=>
     cases h;rw[Tr.lL]at hg;by_cases hi:id=next+j
     .rw[aP hi]at hg;cases hg;exact .inl ⟨j,ob,by omega,hi,ho,hr⟩
     .rw[aw hi]at hg;exact rest rfl hg
    .cases h
theorem ach{r Hs k next}:∀{j t t' id},KX r Hs k next j t=some t'->id<next->t'.bL id=t.bL id
 |0,t,t',id,h,_=>by cases h;rfl
 |j+1,t,t',id,h,hi=>by
  simp only[KX]at h;split at h
  .cases h
  next t1 h1=>
   split at h
   .cases h;exact ach h1 hi
   .split at h
    .cases h;rw[Tr.lL,aw (by omega)];exact ach h1 hi
    .cases h
theorem WR.asJ{I bs ya H w}(hw:WR I bs H w)(h1:∀i e,I i=some e->¬ya e.b)(h2:∀b o,I.ro b=some o->¬ya b)(h3:∀n ob e,H.gO n=some ob->I.xs n=some e->¬ya e.b):WR I ya H w:=
 ⟨hw.ey,hw.jx,λi e h=>let⟨a,_,c⟩:=hw.lt i e h;⟨a,h1 i e h,c⟩,hw.nx,⟨λb o h=>⟨⟨h2 b o h,(hw.ro b o h).1.2⟩,(hw.ro b o h).2⟩,λn ob h=>let⟨e,o,a,b,c⟩:=hw.wx.xo n ob h;⟨e,o,a,⟨h3 n ob e h a,b.2⟩,c⟩,hw.wx.xi,hw.wx.xl⟩⟩
def aje(P:Program)(S:Kl):Prop:=
 ∀(f:FuncId) (args:LV) (H:AH) (p:Prop) (v:AV) (H':AH),f≠999999->S f args H=some (p,v,H')->p->
  ∀(I:bZ) (w:World) (bs:fM) (args':Array Value) (cs:List Frame),bf I args args'.toList->WR I bs H w->gY bs w->ajr P H H.br bs I w (Frame.enter P f args' .normal) cs ⟨jX v,none,H'⟩
theorem aqh{S f args H v H'}(hk:F6 S f args H=some (v,H')){I w m bs}(aB6:∀id∈vu args,∃e,I id=some e)(hw:WR I bs H w)(hb:gY bs w)(hm:m<=H.br){E:bZ->World->AV->Prop}(hE:∀r kC lU v v' w',u9 r kC lU->eF r v=some v'->E kC w' v->E lU w' v')(hS:∀ps t n xc CS p vs Hs,Pk ps n->GV (iX ps) H ps .iq=some t->k8 (iX ps) args=some CS->S f CS ⟨t,n,xc⟩=some (p,vs,Hs)->p->
 ∀se:fM,WR (jD ps I) se ⟨t,n,xc⟩ w->gY se w->∃aK w',WR aK se Hs w'/\jG n (jD ps I) aK/\(cM se w w'/\oj (jD ps I) ⟨t,n,xc⟩ aK Hs)/\E aK w' vs):
 ∃aK w',WR aK bs H' w'/\cz m I H aK H'/\cM bs w w'/\E aK w' v:=by
 unfold F6 at hk;split at hk;next p v0 H0 hl=>
  by_cases hp:p
  .rw[aP hp]at hk;cases hk;unfold Rs at hl;split at hl
   .cases hl
   next ps t n xv hv=>
    obtain⟨ad3,hl⟩:=di hl;split at hl;next CS nS=>
     have hxv:xv=H.x:=by obtain⟨_,_,hH,_⟩:=Eg hv;cases hH;rfl
     have gM:∃(xb:Bool) (xc:Option XH) (yX:Prop×AV×AH),((xb=false/\xc=none)\/(xb=true/\xc=H.x))/\S f CS ⟨t,n,xc⟩=some yX/\xj ps n H xb yX=some ⟨p,v,H'⟩:=by
      split at hl;next yX kg=>exact⟨false,none,yX,.inl aA,kg,hl⟩
      .split at hl
       .cases hl
       .split at hl;next yX kg=>exact⟨true,_,yX,.inr ⟨rfl,hxv⟩,kg,hl⟩
        .cases hl
     clear hl;by_cases aCh:True
     .obtain⟨xb,xc,yX,Rh,kg,hl⟩:=gM;obtain⟨p1,vs,⟨hs,ns,xs⟩⟩:=yX;obtain⟨h,next,x⟩:=H;simp only[xj]at hl;obtain⟨cr,hl⟩:=di hl;have cr:=qA cr;split at hl;next v1 t1 xd Xq=>
       split at hl;next t2 MG=>
        cases hl;obtain⟨tt,nn,hH,aN,jZ,_⟩:=Eg hv;cases hH;have Xg:=afF hw ad3 aB6;have Rb:=z_ aN I;have wW:∀{i e},jD ps I i=some e->∃a,(a,i)∈ps/\I a=some e:=λh=>Nb h
        have apm:=hw.uU aN jZ;let XB:Nat->Prop:=λb=>∃n ob e,(⟨h,next,x⟩:AH).gO n=some ob/\I.xs n=some e/\e.b=b
        let se:fM:=λb=>(b<w.heap.size/\I.ro b=none/\(xb=true->¬XB b))/\∀i e,jD ps I i=some e->b≠e.b
        have aB2:∀{id ob e},(⟨h,next,x⟩:AH).aR id=some ob->ob.aQ=true->I id=some e->¬XB e.b:=by rintro id ob e h1 h2 h3 ⟨nn,iz,e2,k1,k2,k3⟩;obtain⟨e4,o4,r1,_,_,_,r5⟩:=hw.wx.xo nn iz k1;rw[k2]at r1;cases r1;exact r5 id ob e h1 h2 h3 k3.symm
        have QG:∀b,bs b->se b:=by
         intro b fo;refine⟨⟨hb b fo,?_,?_⟩,λi e hi he=>?_⟩
         .cases fY:I.ro b with
          |none=>rfl
          |some o=>exact absurd fo (hw.ro b o fY).1.1
         .rintro _ ⟨nn,iz,e2,k1,k2,rfl⟩;obtain⟨e4,o4,r1,r2,_⟩:=hw.wx.xo nn iz k1;rw[k2]at r1;cases r1;exact r2.1 fo
         obtain⟨a,_,h2⟩:=wW hi;exact(hw.lt a e h2).2.1 (he▸fo)
        have Rg:WR (jD ps I) se ⟨t,n,xc⟩ w:=by
         have fY:∀b o,(jD ps I).ro b=some o->¬se b:=λb o ho fo=>by have ho:I.ro b=some o:=ho;rw[fo.1.2.1]at ho;cases ho
         rcases Rh with⟨_,rfl⟩|⟨rfl,rfl⟩
         .exact apm.noX.asJ (λi e hi fo=>fo.2 i e hi rfl) fY (λn ob e h=>by cases h)
         .exact apm.asJ (λi e hi fo=>fo.2 i e hi rfl) fY (λn' ob e h1 h2 fo=>fo.1.2.2 rfl ⟨n',ob,e,by rw[<-h1];exact wa (H:=⟨t,n,xc⟩) (H':=⟨h,next,xc⟩) rfl n',h2,rfl⟩)
        obtain⟨wk,w',g1,g2,⟨g3,gx⟩,g4⟩:=hS ps t n xc CS p vs ⟨hs,ns,xs⟩ aN jZ nS kg hp se Rg (λb fo=>fo.1.1);have g2:=g2;let aK:bZ:=⟨λid=>if id<next then I id else wk (n+(id-next)),wk.ro,wk.xs⟩
        have jN:∀{id},id<next->aK id=I id:=λhi=>aP hi
        have ME:∀{o i},(o,i)∈ps->o<next/\i<n/\wk i=I o:=by intro o i Du;obtain⟨ob,h1,_⟩:=Xg _ Du;refine⟨hw.nx o ob h1,aN.lt _ Du,?_⟩;rw[g2 i (aN.lt _ Du)];exact Rb o i (Yq aN.n1 Du)
        have WW:u9 (AS ps n next) wk aK:=by
         refine⟨λi c hc=>?_,λ_ _ h=>h,λ_ _ h=>h⟩;unfold AS at hc;cases ke:Nat.ble (i+1) n
         .rw[ke]at hc;simp only[cond_false,lN]at hc;subst hc;have vD:n<=i:=by
           rcases qer i n with h1|h1
           .rw[fN (show i+1<=n from h1)]at ke;cases ke
           .exact h1
          show(if _ then _ else _)=_;rw[aw (by omega)];congr 1;omega
         .rw[ke]at hc;simp only[cond_true]at hc;obtain⟨h1,_,h3⟩:=ME (M8 hc);rw[jN h1,h3]
        have Xp:∀{id bu},(⟨t2,next+(ns-n),bif xb then xs else x⟩:AH).aR id=some bu->
         (∃j ob,AS ps n next j=some id/\(⟨hs,ns,xs⟩:AH).aR j=some ob/\mF (AS ps n next) ob=some bu)\/(id<next/\bu=.bg [])\/(id<next/\(∀n,(id,n)∉ps)/\(⟨h,next,x⟩:AH).aR id=some bu):=by
         intro id bu ho;rcases acg MG ho with⟨i,ob,a1,a2,a3,a4⟩|h1
         .refine .inl ⟨n+i,ob,?_,a3,a4⟩;unfold AS;have:Nat.ble (n+i+1) n=false:=by rw[sI,Ne,vU];omega
          rw[this,a2];simp
         .rcases aci aN.n1 Xq h1 with⟨n',a1,⟨ob,a2,a3⟩|a2⟩|⟨a1,a2⟩
          .refine .inl ⟨n',ob,?_,a2,a3⟩;unfold AS;rw[fN (show n'+1<=n from aN.lt _ a1)];exact RU aN.n2 a1
          .exact .inr (.inl ⟨(ME a1).1,a2⟩)
          .exact .inr (.inr ⟨hw.nx id bu a2,a1,a2⟩)
        have eC:∀{id ob e},(∀n,(id,n)∉ps)->(⟨h,next,x⟩:AH).aR id=some ob->ob.aQ=true->I id=some e->se e.b:=by
         intro id ob e h1 h2 h3 h4;refine⟨⟨(hw.lt id e h4).1,?_,λ_=>aB2 h2 h3 h4⟩,λi e2 hi he=>?_⟩
         .cases fY:I.ro e.b with
          |none=>rfl
          |some o=>exact absurd rfl ((hw.ro _ o fY).2 id ob e h2 h3 h4)
         obtain⟨a,k1,k2⟩:=wW hi;obtain⟨iz,k3,k4,_⟩:=Xg _ k1;have:=hw.jx id a ob iz e e2 h2 h3 h4 k3 k4 k2 he;subst this;exact h1 i k1
        have aeb:dp I aK:=⟨λid e h1=>by rw[jN (hw.lt id e h1).2.2];exact h1,g2.ro,g2.xs⟩;have fX:∀{id bu e},(⟨t2,next+(ns-n),bif xb then xs else x⟩:AH).aR id=some bu->bu.aQ=true->aK id=some e->
         (∃j ob,AS ps n next j=some id/\(⟨hs,ns,xs⟩:AH).aR j=some ob/\ob.aQ=true/\wk j=some e)\/(id<next/\(⟨h,next,x⟩:AH).aR id=some bu/\I id=some e/\se e.b):=by
         intro id bu e h1 l1 h2;rcases Xp h1 with⟨j,ob,a1,a2,a3⟩|⟨a1,a2⟩|⟨a1,a2,a3⟩
         .exact .inl ⟨j,ob,a1,a2,by rw[<-St a3];exact l1,by rw[<-WW j id a1];exact h2⟩
         .subst a2;cases l1
         .rw[jN a1]at h2;exact .inr ⟨a1,a3,h2,eC a2 a3 l1 h2⟩
        have ca:=g3.1;refine⟨aK,w',⟨?_,?_,?_,?_,?_⟩,⟨aeb,by show next<=next+(ns-n);omega,?_,?_⟩,⟨ca,λb fo=>g3.2.1 b (QG b fo),g3.2.2⟩,?_⟩
        .intro id bu e h1 h2;rcases Xp h1 with⟨j,ob,a1,a2,a3⟩|⟨a1,a2⟩|⟨a1,a2,a3⟩
         .have h3:wk j=some e:=by rw[<-WW j id a1];exact h2
          obtain⟨o,k1,k2⟩:=g1.ey j ob e a2 h3;exact⟨o,k1,agn WW a3 k2⟩
         .subst a2;rw[jN a1]at h2;have:=(hw.lt id e h2).1;exact⟨w'.heap[e.b]'(by omega),DQ _,trivial⟩
         .rw[jN a1]at h2;by_cases vA:bu.aQ=true
          .have⟨o,k1,k2⟩:=hw.ey id bu e a3 h2;exact⟨o,(g3.2.1 _ (eC a2 a3 vA h2)).trans k1,k2.s6 aeb⟩
          .cases bu<;>simp[aO.aQ]at vA;have:=(hw.lt id e h2).1;exact⟨w'.heap[e.b]'(by omega),DQ _,trivial⟩
        .intro id ij dz iz e e' h1 l1 h2 h3 l2 h4 pH;rcases fX h1 l1 h2 with⟨j,ob,a1,a2,a3,a4⟩|⟨a1,a2,a3,a4⟩<;>rcases fX h3 l2 h4 with⟨j',bu,b1,b2,b3,b4⟩|⟨b1,b2,b3,b4⟩
         .have:=g1.jx j j' ob bu e e' a2 a3 a4 b2 b3 b4 pH;subst this;rw[a1]at b1;cases b1;rfl
         .exact absurd (pH▸b4) (g1.lt j e a4).2.1
         .exact absurd (pH▸a4) (g1.lt j' e' b4).2.1
         .exact hw.jx id ij dz iz e e' a2 l1 a3 b2 l2 b3 pH
        .intro id e h2;by_cases hi:id<next
         .rw[jN hi]at h2;have⟨k1,k2,_⟩:=hw.lt id e h2;exact⟨by omega,k2,by show id<next+(ns-n);omega⟩
         .have h3:wk (n+(id-next))=some e:=by rw[<-h2];exact(aw hi).symm
          have⟨k1,k2,k3⟩:=g1.lt _ e h3;refine⟨k1,λfo=>k2 (QG _ fo),?_⟩;have k3:n+(id-next)<ns:=k3;show id<next+(ns-n)
          omega
        .intro id bu h1;show id<next+(ns-n)
         rcases acg MG h1 with⟨i,ob,a1,a2,_⟩|h2
         .omega
         .rcases aci aN.n1 Xq h2 with⟨n',a1,_⟩|⟨_,a2⟩
          .have:=(ME a1).1;omega
          .have:=hw.nx id bu a2;have:id<next:=this
           omega
        .have cx:∀b,¬se b->(∀j ob e,(⟨hs,ns,xs⟩:AH).aR j=some ob->ob.aQ=true->wk j=some e->e.b≠b)->∀id ob e,(⟨t2,next+(ns-n),bif xb then xs else x⟩:AH).aR id=some ob->ob.aQ=true->aK id=some e->e.b≠b:=by
          intro b k1 k3 id ob e h1 l1 h2 pH;rcases fX h1 l1 h2 with⟨j,ob,a1,a2,a3,a4⟩|⟨a1,a2,a3,a4⟩
          .exact k3 j ob e a2 a3 a4 pH
          .exact k1 (pH▸a4)
         have aB3:xb=false->∀nn ob e,(⟨h,next,x⟩:AH).gO nn=some ob->I.xs nn=some e->se e.b:=by intro hxb nn ob e k1 k2;have⟨e4,o4,r1,r2,r3,r4,r5⟩:=hw.wx.xo nn ob k1;rw[k2]at r1;cases r1;refine⟨⟨(Sh.1 r2.2).1,r4,λhx=>by rw[hxb]at hx;cases hx⟩,λi e2 hi he=>?_⟩;have⟨a,q1,q2⟩:=wW hi;have⟨iz,q3,q4,_⟩:=Xg _ q1;exact r5 a iz e2 q3 q4 q2 he.symm
         refine⟨?_,?_,?_,?_⟩
         .intro b o fY;have⟨⟨k1,k2⟩,k3⟩:=g1.ro b o fY;exact⟨⟨λfo=>k1 (QG b fo),k2⟩,cx b k1 k3⟩
         .intro nn ob ho;rcases Rh with⟨rfl,rfl⟩|⟨rfl,rfl⟩
          .have ho:(⟨h,next,x⟩:AH).gO nn=some ob:=by rw[<-wa (H:=⟨h,next,x⟩) (H':=⟨t2,next+(ns-n),x⟩) rfl];exact ho
           have⟨e,o,r1,r2,r3,r4,r5⟩:=hw.wx.xo nn ob ho;have pH:=aB3 rfl nn ob e ho r1;refine⟨e,o,g2.xs _ _ r1,⟨r2.1,(g3.2.1 _ pH).trans r2.2⟩,r3.s6 aeb.pu,?_,?_⟩
           .cases hq:wk.ro e.b with
            |none=>rfl
            |some o'=>exact absurd pH (g1.ro _ o' hq).1.1
           .intro id dz e1 h1 l1 h2 ke;rcases fX h1 l1 h2 with⟨j,ob,a1,a2,a3,a4⟩|⟨a1,a2,a3,a4⟩
            .exact(g1.lt j e1 a4).2.1 (ke▸pH)
            .exact r5 id dz e1 a2 l1 a3 ke
          .have ho:(⟨hs,ns,xs⟩:AH).gO nn=some ob:=by rw[<-wa (H:=⟨hs,ns,xs⟩) (H':=⟨t2,next+(ns-n),xs⟩) rfl];exact ho
           have⟨e,o,r1,r2,r3,r4,r5⟩:=g1.wx.xo nn ob ho;exact⟨e,o,r1,⟨λfo=>r2.1 (QG _ fo),r2.2⟩,r3,r4,cx _ r2.1 r5⟩
         .intro nn RO ob bu e e' h1 h2 h3 h4 pH;rcases Rh with⟨rfl,rfl⟩|⟨rfl,rfl⟩
          .have h1:(⟨h,next,x⟩:AH).gO nn=some ob:=by rw[<-wa (H:=⟨h,next,x⟩) (H':=⟨t2,next+(ns-n),x⟩) rfl];exact h1
           have h2:(⟨h,next,x⟩:AH).gO RO=some bu:=by rw[<-wa (H:=⟨h,next,x⟩) (H':=⟨t2,next+(ns-n),x⟩) rfl];exact h2
           have⟨e0,_,r1,_⟩:=hw.wx.xo nn ob h1;have⟨e0',_,r1',_⟩:=hw.wx.xo RO bu h2;have h3:=h3;have h4:=h4;rw[g2.xs _ _ r1]at h3;cases h3;rw[g2.xs _ _ r1']at h4;cases h4;exact hw.wx.xi nn RO ob bu _ _ h1 h2 r1 r1' pH
          .have h1:(⟨hs,ns,xs⟩:AH).gO nn=some ob:=by rw[<-wa (H:=⟨hs,ns,xs⟩) (H':=⟨t2,next+(ns-n),xs⟩) rfl];exact h1
           have h2:(⟨hs,ns,xs⟩:AH).gO RO=some bu:=by rw[<-wa (H:=⟨hs,ns,xs⟩) (H':=⟨t2,next+(ns-n),xs⟩) rfl];exact h2
           exact g1.wx.xi nn RO ob bu e e' h1 h2 h3 h4 pH
         .intro X hX nn e h1;rcases Rh with⟨rfl,rfl⟩|⟨rfl,rfl⟩
          .exact hw.wx.xl X hX nn e (gx.2 (gx.1.2 rfl) nn e h1)
          .exact g1.wx.xl X hX nn e h1
        .intro id hi hn;have hi:=Nl hi hm;refine⟨by rw[jN hi];exact hn,?_⟩;by_cases fX:∃n,(id,n)∈ps
         .have⟨n',fX⟩:=fX;obtain⟨ob,k1,_,⟨e,k2⟩|⟨vs,el,rfl⟩⟩:=Xg _ fX
          .rw[hn]at k2;cases k2
          .exact .inr ⟨vs,el,k1⟩
         .left;show t2.bL id=h.bL id;rw[ach MG hi,ala Xq (λn' hm=>fX ⟨n',hm⟩)]
        .rcases Rh with⟨rfl,rfl⟩|⟨rfl,rfl⟩
         .exact⟨Iff.rfl,λ_ nn e h1=>gx.2 (gx.1.2 rfl) nn e h1⟩
         .exact gx
        .exact hE _ _ _ _ _ _ WW xd g4
       .cases hl
      .cases hl
     .exact absurd trivial aCh
    .cases hl
  .rw[aw hp]at hk;cases hk
 .cases hk
def EG(P:Program)(l:Nat)(a:AV)(H:AH)(v:AV)(H':AH):Prop:=
 ∃st pe fn tmps nt p assign body d fr,H.aR l=some (.gX st pe fn tmps nt [p] assign body d)/\D0 (.gX st pe fn tmps nt [p] assign body d) l [a]=some fr/\
  ∀(I:bZ) (w:World) (bs:fM) (cf:Frame) (cs:List Frame),WR I bs H w->gY bs w->wv I fr cf->abf (some l) P H H.br bs I w cf cs ⟨jX v,none,H'⟩
def akc(P:Program)(S:Kl):Prop:=
 ∀(args:LV) (H:AH) (p:Prop) (v:AV) (H':AH),S 999999 args H=some (p,v,H')->p->∃l a,args=[.ib l,a]/\EG P l a H v H'
theorem aDw{P S}(hS:aje P S):Uv P (λf args H=>bif F4 f then none else F6 S f args H):=by
 intro f args H v H' hk I w m bs args' cs ha hw hb hm;cases hf:F4 f with
 |true=>simp only[hf,cond_true]at hk;cases hk
 |false=>
  simp only[hf,cond_false]at hk;have cx:f≠999999:=by rintro rfl;cases hf
  have⟨aK,w',g1,g2,g3,g4⟩:=aqh hk (E:=λaK w' v=>qW P aK w w' (Frame.enter P f args' .normal) cs ⟨jX v,none,H'⟩ none none) (λid dw=>Iz ha id dw) hw hb hm
   (by exact λr kC lU v v' w' hr hv h=>h.GA hr hv)
   (by intro ps t n xc CS p vs Hs aN jZ nS kg hp se Rg jN;have⟨wk,w',g1,g2,g3,g4⟩:=hS f CS ⟨t,n,xc⟩ p vs Hs cx kg hp (jD ps I) w se args' cs (Jv (z_ aN I) nS ha) Rg jN;exact⟨wk,w',g1,g2,g3,g4⟩)
  exact⟨aK,w',g1,g2,g3,g4⟩
theorem aBr{P S}(hS:akc P S):TX P (Wm S):=by
 intro fr H r o0 I w m bs cf cs hw hb hm hf hu;unfold Wm at o0;split at o0;next l hl=>
  split at o0;next st pe fn tmps nt params assign body d ho=>
   split at o0;next p=>
    split at o0;next a ha=>
     split at o0;next jj=>
      have⟨ad1,hpn⟩:=Zc jj;split at o0;next v H' hk=>
       cases o0;subst ad1;obtain⟨b,ac,ML,rfl,Dp,hi⟩:=hf;have ad3:∀id∈vu [.ib l,a],∃e,I id=some e:=by
        intro id dw;simp only[vu,l4,jt,iK,vQ]at dw;rcases dw with rfl|dw
        .have⟨e,h1,_⟩:=Dp.kD;exact⟨e,h1⟩
        .have⟨x,_,h4⟩:=Dp.tr.2 p a ha;exact WU h4 id dw
       have⟨aK,w',g1,g2,g3,g4⟩:=aqh hk (E:=λaK w' v=>qW P aK w w' (b.atR ac ML) cs ⟨jX v,none,H'⟩ none (some l)) ad3 hw hb hm
        (by exact λr kC lU v v' w' hr hv he=>he.GA hr hv)
        (by
          intro ps t n xc CS p' vs Hs aN jZ nS kg hp se Rg jN;have⟨l',a',aB7,wY⟩:=hS CS ⟨t,n,xc⟩ p' vs Hs kg hp;have⟨kv,pe',fn',qG,nt',p1,ax1,ayo,d',fr',q1,q2,q3⟩:=wY;subst aB7;simp only[k8,eF]at nS;cases My:iX ps l with
          |none=>rw[My]at nS;cases nS
          |some l1=>
           rw[My]at nS;cases hna:eF (iX ps) a with
           |none=>rw[hna]at nS;cases nS
           |some a1=>
            rw[hna]at nS;simp at nS;obtain⟨rfl,rfl⟩:=nS;have aCI:∃o ob,(o,l1)∈ps/\H.aR o=some ob/\mF (iX ps) ob=some (.gX kv pe' fn' qG nt' [p1] ax1 ayo d'):=by
             rcases Z0 jZ q1 with h1|h1
             .exact h1
             .cases h1
            have⟨o,ob,k1,k2,k3⟩:=aCI;have:=RF aN.n2 k1 (aft My);subst this;rw[ho]at k2;cases k2;simp only[mF]at k3;split at k3;next t2 d2 MG QI=>
             cases k3;have⟨aCs,_⟩:=Zc q2;subst aCs;have Rb:=z_ aN I;have⟨wk,w',g1,g2,g3,g4⟩:=q3 (jD ps I) w se (b.atR ac ML) cs Rg jN (by
              refine⟨b,ac,ML,rfl,⟨Dp.fn,⟨Dp.tr.1,λi x hx=>?_⟩,Dp.dr,?_,Dp.lD,λh=>by cases h⟩,af1 rfl hi⟩
              .have hx:=hx;rw[Tr.lL]at hx;by_cases Mq:i=p
               .subst Mq;rw[aP rfl]at hx;cases hx;have⟨v0,h3,h4⟩:=Dp.tr.2 i a (by show(tmps.fB i a).bL i=_;rw[Tr.lL,aP rfl]);exact⟨v0,h3,t_ Rb hna h4⟩
               .rw[aw Mq]at hx;have⟨x0,h1,h2⟩:=Y8 MG hx;have⟨v0,h3,h4⟩:=Dp.tr.2 i x0 (by show(tmps.fB p a).bL i=_;rw[Tr.lL,aw Mq];exact h1);exact⟨v0,h3,t_ Rb h2 h4⟩
              .have⟨e,h1,h2⟩:=Dp.kD;exact⟨e,(Rb _ l1 My).trans h1,h2⟩)
             exact⟨wk,w',g1,g2,g3,g4⟩
            .cases k3)
       exact⟨aK,w',g1,g2,g3,g4⟩
      .cases o0
     .cases o0
    .cases o0
   .cases o0
  .cases o0
 .cases o0
def aF(P:Program)(S:aX):Prop:=aje P (oP S)/\akc P (oP S)
theorem rb{P S}(hS:aF P S):nJ P (lW S):=⟨aBr hS.2,aDw hS.1⟩
end
section
def bC(P:Program)(f:FuncId)(args:LV)(H:AH)(v:AV)(H':AH):Prop:=
 ∀(I:bZ) (w:World) (bs:fM) (args':Array Value) (cs:List Frame),bf I args args'.toList->WR I bs H w->gY bs w->ajr P H H.br bs I w (Frame.enter P f args' .normal) cs ⟨jX v,none,H'⟩
def fD(v:AV)(H:AH):AV->AH->Prop:=λv' H'=>v'=v/\H'=H
section
variable{P:Program}{S:aX}
theorem aAz{f fn c args H v H1}(hf:P.funcs[f]? =some fn)(hb:fn.body=some c)(bB:args.length<=fn.ntmps)(h:bW P H.br (pf f fn.ntmps (Tr.Gf args 0 .iq) [.gP c]) H (rK (fD v H1))):bC P f args H v H1:=by
 intro I w bs args' cs ha hw jN;obtain⟨r,⟨v',he,hu,rfl,hH⟩,hr⟩:=h;have Dx:r=⟨jX v',none,H1⟩:=by have⟨e,u,h⟩:=r;simp only at he hu hH;rw[he,hu,hH]
 subst Dx;refine hr I w bs _ cs (ct _) hw jN ?_;have Bq:args'.size<=fn.ntmps:=by have:=ha.je;simp at this;omega
 let b:Frame:={(default:Frame)with fn:=f,kind:=.normal,roundOf:=none}
 refine⟨b,{tmps:=args'++Array.replicate (fn.ntmps-args'.size) undef,defers:=[]},[.code c],?_,⟨rfl,⟨?_,?_⟩,rfl,rfl,rfl,λ_=>rfl⟩,⟨_,_,rfl,rfl,rfl⟩⟩
 .simp[Frame.enter,Frame.atR,hf,hb,b]
 .show _=fn.ntmps;simp;omega
 .intro i x hx;have hx:(Tr.Gf args 0 .iq).bL i=some x:=hx;rw[Tr.anY]at hx;split at hx;next hi=>
   simp at hx;have⟨v,h1,h2⟩:=ha.get hx;refine⟨v,?_,h2⟩;rw[Array.getElem?_append_left]
   .simpa using h1
   .have:=(qed.1 h1).1;simpa using this
  .cases hx
def iB(ds:List qT)(P:Program)(f nt m0:Nat)(v:AV)(H1:AH):Tr AV->AH->List dQ->Prop:=λt H todo=>bW P m0 (fZ ds none f nt t todo) H (rK (fD v H1))
abbrev ba:Program->Nat->Nat->Nat->AV->AH->Tr AV->AH->List dQ->Prop:=iB []
theorem aAt(cJ:P.follows .mixedOrders=true)(hS:aF P S){aQ n f nt args H v H1}(nV:(P.funcs[f]?).map (·.ntmps)=some nt)(h:qE P S aQ (ba P f nt H.br v H1) (fD v H1) n f args H):bC P f args H v H1:=by
 unfold qE at h;split at h;next fn jY=>
  rw[jY]at nV;simp at nV;subst nV;split at h;next c hc=>have⟨hb,h⟩:=iu h;simp only[cT]at hb;exact aAz jY hc (qA hb.1) (Jy (ds:=[]) (rd:=none) cJ (rb hS) trivial trivial (ak6 cJ (rb hS)) (λx H t k h=>ak2 cJ (rb hS) (by rw[jY];rfl) h k) (λ_ _ _ h=>h) n h)
  .cases h
 .cases h
theorem aCl(cJ:P.follows .mixedOrders=true)(hS:aF P S){aQ n f nt m0 t todo H v H1}(nV:(P.funcs[f]?).map (·.ntmps)=some nt)(h:pY P S aQ (ba P f nt m0 v H1) (fD v H1) n f m0 t todo H):ba P f nt m0 v H1 t H todo:=by
 unfold pY at h;split at h;next fn jY=>rw[jY]at nV;simp at nV;subst nV;exact Jy (ds:=[]) (rd:=none) cJ (rb hS) trivial trivial (ak6 cJ (rb hS)) (λx H t k h=>ak2 cJ (rb hS) (by rw[jY];rfl) h k) (λ_ _ _ h=>h) n h
 .cases h
theorem adW(cJ:P.follows .mixedOrders=true)(hS:aF P S){aQ n f nt m0 d t todo H v H1}(hd:d<m0)(nV:(P.funcs[f]?).map (·.ntmps)=some nt)(h:agC P S aQ (iB [.pr d] P f nt m0 v H1) (fD v H1) n f m0 d t todo H):iB [.pr d] P f nt m0 v H1 t H todo:=by
 unfold agC at h;split at h;next fn jY=>rw[jY]at nV;simp at nV;subst nV;exact Jy (ds:=[.pr d]) (rd:=none) cJ (rb hS) ⟨hd,trivial⟩ trivial (ak5 cJ (rb hS) hd) afU (λ_ _ _ h=>h) n h
 .cases h
theorem asR(cJ:P.follows .mixedOrders=true)(hS:aF P S){aQ n l a H v H1 st pe fn nt p d tmps assign body}(ho:H.aR l=some (.gX st pe fn tmps nt [p] assign body d))(hl:l<H.br)(h:agA P S aQ (λ_ _ _=>False) (fD v H1) n l a H):EG P l a H v H1:=by
 unfold agA at h;rw[ho]at h;simp only at h;split at h;next fr jj=>
  refine⟨st,pe,fn,tmps,nt,p,assign,body,d,fr,ho,jj,λI w bs cf cs hw hb hf=>?_⟩;have⟨ad1,_⟩:=Zc jj;subst ad1;have hT:bW P H.br (fZ [] (some l) fn nt (tmps.fB p a) [.gP assign,.Cz,.gP body]) H (rK (fD v H1)):=
   Jy (ds:=[]) (rd:=some l) cJ (rb hS) trivial hl (ax5 cJ (rb hS)) afU (λ_ _ _ h=>h.elim) n h
  obtain⟨r,⟨v',he,hu,rfl,hH⟩,hr⟩:=hT;have Dx:r=⟨jX v',none,H1⟩:=by have⟨e,u,h⟩:=r;simp only at he hu hH;rw[he,hu,hH]
  subst Dx;exact hr I w bs cf cs (ct _) hw hb hf
 .cases h
theorem bW.ae7{m0 m1 fr H Q}(h01:m0<=m1)(h1:m1<=H.br)(h:bW P m1 fr H Q):bW P m0 fr H Q:=by have⟨r,hq,hr⟩:=h;refine⟨r,hq,λI w bs cf cs hm hw hb hf=>?_⟩;have⟨aK,w',g1,g2,g3,g4⟩:=hr I w bs cf cs h1 hw hb hf;exact⟨aK,w',g1,g2.mono h01,g3,g4⟩
theorem bW.V_{m0 d fr}{H:AH}{x Q}(hd:d<H.br)(h:bW P m0 fr (H.cE d (.bg [])) Q):bW P m0 fr (H.cE d x) Q:=by have⟨r,hq,hr⟩:=h;exact⟨r,hq,λI w bs cf cs hm hw hb hf=>hr I w bs cf cs hm (hw.V_ hd) hb hf⟩
def agB(P:Program)(S:aX)(aQ:Nat->LN)(L:Tr AV->AH->List dQ->Prop)(Q:AV->AH->Prop)(lZ:Nat)(f:Nat)(t:Tr AV)(todo:List dQ)(H:AH):Prop:=
 match P.funcs[f]? with
 |some fn=>match todo with
  |.gP (.rangeFunc g params assign body)::k=>match H with
   |⟨h,n,x⟩=>match iC t g with
    |some gv=>match AW P gv [.ib (Nat.succ n)]with
     |some (.rW c args)=>bif F4 c then False else
       MH (AH.eH (AH.eH ⟨h,n,x⟩ (.qR (some []))) (.gX .ready none f t fn.ntmps params.toList assign body n)) S c args (λ_ H2=>
        match H2.aR (Nat.succ n)with
        |some (.gX .ready none _ _ _ _ _ _ _)=>Nat.succ n<H2.br/\mh P S fn.ntmps (Nat.succ n) aQ L (λ_=>U0 P f (Nat.succ n) Q n) (λ_ _ _=>False) none lZ t k (H2.cE (Nat.succ n) (.bg []))
        |_=>False) (λ_ _=>False)
     |_=>False
    |none=>False
  |_=>False
 |none=>False
theorem aCk(cJ:P.follows .mixedOrders=true)(hS:aF P S){aQ n f nt m0 t todo H v H1}(hm:m0<=H.br)(nV:(P.funcs[f]?).map (·.ntmps)=some nt)(h:agB P S aQ (iB [.pr H.br] P f nt (Nat.succ H.br) v H1) (fD v H1) n f t todo H):ba P f nt m0 v H1 t H todo:=by
 unfold agB at h;split at h;next fn jY=>
  rw[jY]at nV;simp at nV;subst nV;split at h;next g params assign body k=>
   have⟨hh,nn,xx⟩:=H;simp only at h;split at h;next gv hg=>
    split at h;next c args hc=>
     cases hr:F4 c with
     |true=>rw[hr]at h;cases h
     |false=>
      rw[hr]at h;simp at h;rcases apg hr h with⟨rv,H2,h1,h2⟩|⟨_,_,_,h2⟩
      rotate_left
      .exact h2.elim
      split at h2;next lf lt ln lp la lb ld ho=>
       have⟨ae,h2⟩:=h2;have W0:=rb hS;refine bW.jw (fr':=fZ [.pr nn] none f fn.ntmps t (.Ez (Nat.succ nn)::k)) (H':=H2) cJ W0 rfl ?_ ?_
       .simp only[fZ,kN,sP,ub,Ao,Zw,ae5,AH.eH,VU,hg,sH,hc,P_,asr];have Qi:=h1;simp only[AH.eH]at Qi;rw[Qi];rfl
       .refine bW.jw (fr':=fZ [.pr nn] none f fn.ntmps t k) (H':=H2.cE (Nat.succ nn) (.gX .exhausted none lf lt ln lp la lb ld)) cJ W0 rfl ?_ ?_
        .simp only[fZ,kN,sP,ub,Zu,ho,to,YT]
        .refine bW.V_ ae (bW.ae7 (Nat.le_succ_of_le hm) (Nat.le_of_lt ae) ?_);exact Jy (ds:=[.pr nn]) (rd:=none) cJ W0 ⟨kr nn,trivial⟩ trivial (ak5 cJ W0 (kr nn)) afU (λ_ _ _ h=>h) n h2
      .cases h2
    .cases h
   .cases h
  .cases h
 .cases h
theorem dj{ds f nt m0 v H1}{F:Type}(O:F->Nat)(T:F->Tr AV)(M:F->AH)(todo)(I_9:F->Prop)(kW:∀a,I_9 a->(∀b,I_9 b->O b<O a->iB ds P f nt m0 v H1 (T b) (M b) todo)->iB ds P f nt m0 v H1 (T a) (M a) todo):∀a,I_9 a->iB ds P f nt m0 v H1 (T a) (M a) todo:=by
 intro a;generalize hn:O a=n;induction n using Nat.strongRecOn generalizing a with
 |_ n ih=>intro ha;exact kW a ha (λb hb ae=>ih (O b) (by omega) b rfl hb)
def afy:aX:=λ_ _ _=>none
theorem aro:aF P afy:=by
 constructor
 .intro f args H p v H' _ h;cases h
 .intro args H p v H' h;cases h
def bx(f0:FuncId)(s:LV->AH->Option Sp)(S:aX):aX:=λf args H=>
 bif Nat.beq f f0 then s args H else S f args H
theorem wA{f0 s}(hS:aF P S)(h:∀args H sp p v H',s args H=some sp->sh sp=some (p,v,H')->p->bC P f0 args H v H')(cx:f0≠999999:=by first|assumption|decide):aF P (bx f0 s S):=by
 constructor
 .intro f args H p v H' hf hs hp;unfold oP bx at hs;cases hb:Nat.beq f f0
  .rw[hb]at hs;exact hS.1 f args H p v H' hf hs hp
  .rw[hb]at hs;have:=dN hb;subst this;simp at hs;split at hs;next sp h1=>exact h args H sp p v H' h1 hs hp
   .cases hs
 .intro args H p v H' hs hp;unfold oP bx at hs;have hb:Nat.beq 999999 f0=false:=by
   cases hb:Nat.beq 999999 f0 with
   |false=>rfl
   |true=>exact absurd (dN hb).symm cx
  rw[hb]at hs;exact hS.2 args H p v H' hs hp
theorem axy{s}(hS:aF P S)(h:∀args H sp p v H',s args H=some sp->sh sp=some (p,v,H')->p->∃l a,args=[.ib l,a]/\EG P l a H v H'):aF P (bx 999999 s S):=by
 constructor
 .intro f args H p v H' hf hs hp;unfold oP bx at hs;have hb:Nat.beq f 999999=false:=by
   cases hb:Nat.beq f 999999 with
   |false=>rfl
   |true=>exact absurd (dN hb) hf
  rw[hb]at hs;exact hS.1 f args H p v H' hf hs hp
 .intro args H p v H' hs hp;unfold oP bx at hs;have hb:Nat.beq 999999 999999=true:=rfl;rw[hb]at hs;simp at hs;split at hs;next sp h1=>exact h args H sp p v H' h1 hs hp
  .cases hs
def acR(s:LV->AH->Option (Prop×AV×AH)):LV->AH->Option Sp:=λargs H=>
 match s args H with
 |some x=>some (.A1 x)
 |none=>none
def eD(f0:FuncId)(s:LV->AH->Option (Prop×AV×AH))(S:aX):aX:=bx f0 (acR s) S
theorem KP{f0 s}(hS:aF P S)(h:∀args H p v H',s args H=some (p,v,H')->p->bC P f0 args H v H')(cx:f0≠999999:=by first|assumption|decide):aF P (eD f0 s S):=by
 refine wA hS λargs H sp p v H' h1 h2 hp=>?_
 unfold acR at h1;split at h1;next x hx=>cases h1;cases h2;exact h _ _ _ _ _ hx hp
 .cases h1
theorem agj{f0}{sN:Nat->LV->AH->Option (Prop×AV×AH)}(hS:aF P S)(h0:∀args H p v H',sN 0 args H=some (p,v,H')->¬p)(kW:∀N,aF P (eD f0 (sN N) S)->∀args H p v H',sN (N+1) args H=some (p,v,H')->p->bC P f0 args H v H')(cx:f0≠999999:=by first|assumption|decide):∀N,aF P (eD f0 (sN N) S)
 |0=>KP hS (λargs H p v H' h hp=>absurd hp (h0 args H p v H' h))
 |N+1=>KP hS (kW N (agj (cx:=cx) hS h0 kW N))
structure bT(W:Type)where
 aI:W->LV->AH->Prop
 v:W->AV
 aD:W->AH
def bT.bM{W:Type}(e:bT W):Prop:=∀w w' args H,e.aI w args H->e.aI w' args H->(e.v w,e.aD w)=(e.v w',e.aD w')
def bE{W:Type}(e:bT W)(h:e.bM)(ok:LV->AH->Bool):LV->AH->Option Sp:=λargs H=>
 bif ok args H then some (.ex W (λw=>(e.aI w args H,e.v w,e.aD w)) (λw w' h1 h2=>h w w' args H h1 h2))else none
theorem bY{f0 W}{e:bT W}{h1 ok}(hS:aF P S)(h:∀w args H,e.aI w args H->bC P f0 args H (e.v w) (e.aD w))(cx:f0≠999999:=by first|assumption|decide):aF P (bx f0 (bE e h1 ok) S):=by
 refine wA hS λargs H sp p v H' hs hd hp=>?_
 have⟨_,hs⟩:=EN hs;cases hs;simp only[sh]at hd;by_cases hw:∃w,e.aI w args H
 .rw[dif_pos hw]at hd;cases hd;exact h _ _ _ hp
 .rw[dif_neg hw]at hd;cases hd
structure wy(W:Bool->Type)where
 aI:(b:Bool)->W b->LV->AH->Prop
 v:(b:Bool)->W b->AV
 aD:(b:Bool)->W b->AH
def wy.bM{W:Bool->Type}(e:wy W):Prop:=∀b w b' w' args H,e.aI b w args H->e.aI b' w' args H->(e.v b w,e.aD b w)=(e.v b' w',e.aD b' w')
def Ij{W:Bool->Type}(e:wy W)(h:e.bM):LV->AH->Option Sp:=λargs H=>
 some (.V4 W (λb w=>(e.aI b w args H,e.v b w,e.aD b w)) (λb w b' w' h1 h2=>h b w b' w' args H h1 h2))
theorem abZ{f0 W}{e:wy W}{h1}(hS:aF P S)(h:∀b w args H,e.aI b w args H->bC P f0 args H (e.v b w) (e.aD b w))(cx:f0≠999999:=by first|assumption|decide):aF P (bx f0 (Ij e h1) S):=by
 refine wA hS λargs H sp p v H' hs hd hp=>?_
 cases hs;simp only[sh]at hd;by_cases hw:∃p:(b:Bool)×W b,e.aI p.1 p.2 args H
 .rw[dif_pos hw]at hd;cases hd;exact h _ _ _ _ hp
 .rw[dif_neg hw]at hd;cases hd
theorem asy{f0 W}{e:Nat->wy W}{h1:∀N,(e N).bM}(hS:aF P S)(h0:∀b w args H,¬(e 0).aI b w args H)(kW:∀N,aF P (bx f0 (Ij (e N) (h1 N)) S)->∀b w args H,(e (N+1)).aI b w args H->bC P f0 args H ((e (N+1)).v b w) ((e (N+1)).aD b w))(cx:f0≠999999:=by first|assumption|decide):∀N,aF P (bx f0 (Ij (e N) (h1 N)) S)
 |0=>abZ hS (λb w args H hp=>absurd hp (h0 b w args H))
 |N+1=>abZ hS (kW N (asy (cx:=cx) hS h0 kW N))
theorem axx{W}{e:bT W}{h1 ok}(hS:aF P S)(h:∀w args H,e.aI w args H->∃l a,args=[.ib l,a]/\EG P l a H (e.v w) (e.aD w)):aF P (bx 999999 (bE e h1 ok) S):=by
 refine axy hS λargs H sp p v H' hs hd hp=>?_
 have⟨_,hs⟩:=EN hs;cases hs;simp only[sh]at hd;by_cases hw:∃w,e.aI w args H
 .rw[dif_pos hw]at hd;cases hd;exact h _ _ _ hp
 .rw[dif_neg hw]at hd;cases hd
theorem vV{f0 W}{e:Nat->bT W}{h1:∀N,(e N).bM}{ok}(hS:aF P S)(h0:∀w args H,¬(e 0).aI w args H)(kW:∀N,aF P (bx f0 (bE (e N) (h1 N) ok) S)->∀w args H,(e (N+1)).aI w args H->bC P f0 args H ((e (N+1)).v w) ((e (N+1)).aD w))(cx:f0≠999999:=by first|assumption|decide):∀N,aF P (bx f0 (bE (e N) (h1 N) ok) S)
 |0=>bY hS (λw args H hp=>absurd hp (h0 w args H))
 |N+1=>bY hS (kW N (vV (cx:=cx) hS h0 kW N))
end
end
end
end Go.Ev
namespace Go.Ev
noncomputable section
variable{xx:Option XH}
def mb(g n:Nat)(i:Nat):Option Nat:=if i=g then some n else if i=n then none else some i
def MW(g n:Nat)(I:bZ):bZ:=⟨λi=>if i=n then I g else I i,I.ro,I.xs⟩
structure Mv(H H1:AH)(g:Nat):Prop where
 au:∃vs el,H.aR g=some (.au vs el)/\H1.aR H.br=some (.au vs el)
 bg:H1.aR g=some (.bg [])
 next:H1.br=H.br+1
 afQ:∀id bu,id≠g->id≠H.br->H1.aR id=some bu->∃ob,H.aR id=some ob/\mF (mb g H.br) ob=some bu
 x:H1.x=H.x
theorem Mv.wr{I bs H H1 g w}(hm:Mv H H1 g)(hw:WR I bs H w):
 WR (MW g H.br I) bs H1 w/\u9 (mb g H.br) I (MW g H.br I):=by
 have⟨vs,el,hg,hn⟩:=hm.au;have Bo:=hw.nx _ _ hg;have hr:u9 (mb g H.br) I (MW g H.br I):=by
  refine⟨λa c h=>?_,λ_ _ h=>h,λ_ _ h=>h⟩;unfold mb at h;split at h;next hag=>cases h;subst hag;exact aP rfl
  .split at h
   .cases h
   next h1 h2=>cases h;exact aw h2
 have nA:∀{id ob e},H1.aR id=some ob->ob.aQ=true->(if id=H.br then I g else I id)=some e->
  ∃j dW,H.aR j=some dW/\dW.aQ=true/\I j=some e/\id=(if j=g then H.br else j):=by
  intro id ob e ho hl he;by_cases h1:id=H.br
  .rw[aP h1]at he;exact⟨g,_,hg,rfl,he,by rw[aP rfl,h1]⟩
  .rw[aw h1]at he;by_cases h2:id=g
   .subst h2;rw[hm.bg]at ho;cases ho;cases hl
   .have⟨dW,h3,h4⟩:=hm.afQ id ob h2 h1 ho;exact⟨id,dW,h3,by rw[<-St h4];exact hl,he,by rw[aw h2]⟩
 refine⟨⟨?_,?_,?_,?_,hw.uP rfl rfl hm.x (λ_ _=>rfl) λid ob e h1 l1 h2=>.inl ?_⟩,hr⟩
 .intro id ob e ho FJ;have he:(if id=H.br then I g else I id)=some e:=FJ;by_cases h1:id=H.br
  .subst h1;rw[aP rfl]at he;rw[hn]at ho;cases ho;have⟨o,k1,k2⟩:=hw.ey g _ e hg he;exact⟨o,k1,k2⟩
  .rw[aw h1]at he;by_cases h2:id=g
   .subst h2;rw[hm.bg]at ho;cases ho;have:=(hw.lt id e he).1;exact⟨w.heap[e.b]'this,DQ _,trivial⟩
   .have⟨dW,h3,h4⟩:=hm.afQ id ob h2 h1 ho;have⟨o,k1,k2⟩:=hw.ey id dW e h3 he;exact⟨o,k1,agn hr h4 k2⟩
 .intro id ij ob bu e e' h1 l1 h2 h3 l2 h4 hb;obtain⟨j,o,a1,a2,a3,rfl⟩:=nA h1 l1 h2;obtain⟨j',o',b1,b2,b3,rfl⟩:=nA h3 l2 h4;have:=hw.jx j j' o o' e e' a1 a2 a3 b1 b2 b3 hb;rw[this]
 .intro id e FJ;have he:(if id=H.br then I g else I id)=some e:=FJ;rw[hm.next];by_cases h1:id=H.br
  .rw[aP h1]at he;have:=hw.lt g e he;exact⟨this.1,this.2.1,by omega⟩
  .rw[aw h1]at he;have:=hw.lt id e he;exact⟨this.1,this.2.1,by omega⟩
 .intro id ob ho;rw[hm.next];by_cases h1:id=H.br
  .omega
  .by_cases h2:id=g
   .omega
   .have⟨dW,h3,_⟩:=hm.afQ id ob h2 h1 ho;have:=hw.nx id dW h3;omega
 .have⟨j,dW,a1,a2,a3,_⟩:=nA h1 l1 h2;exact⟨j,dW,e,a1,a2,a3,rfl⟩
theorem Ia{P f args H0 H H1 v v1 g}(h:bC P f args H0 v H)(hm:Mv H H1 g)(hv:eF (mb g H.br) v=some v1)(hn:H0.br<=H.br):bC P f args H0 v1 H1:=by
 intro I w bs args' cs ha hw hl;have⟨aK,w',g1,g2,g3,g4⟩:=h I w bs args' cs ha hw hl;have:=hm.wr g1;refine⟨_,w',this.1,g2.sZ ⟨λid dw=>aw (show¬id=H.br by omega),λ_ _ h=>h,λ_ _ h=>h⟩,⟨g3.1,g3.2.rX (.of hm.x rfl)⟩,?_⟩
 .exact g4.GA this.2 hv
def cH:List (Nat×aO)->Nat->Option aO
 |[],_=>none
 |(s,a)::l,i=>if i=s then some a else cH l i
theorem aqX:∀l i,(RH l).bL i=cH l i
 |[],i=>rfl
 |(s,a)::l,i=>by
  simp only[RH,cH];by_cases h:i=s
  .subst h;rw[aP rfl,Tr.lL];simp
  .rw[aw h,<-aqX l i,Tr.lL];simp[h]
theorem eg(l n i):(et xx l n).aR i=cH l i:=aqX l i
end
end Go.Ev
namespace Go.Ev
noncomputable section
variable{xx:Option XH}
theorem Uh{I E}:∀{l m},mf l=true->kE I l m->kE E l m
 |[],m,_,h=>h
 |x::l,m,hp,h=>by simp only[mf,cT]at hp;obtain⟨y,ys,rfl,h1,h2⟩:=h;refine⟨y,ys,rfl,?_,Uh hp.2 h2⟩;cases x<;>first|exact h1|(simp[R5]at hp)
theorem adX{ds P f nt m0 v H1 H H' t t' todo g}(h:iB ds P f nt m0 v H1 t' H' todo)(hm:Mv H H' g)(hp:mf todo=true)(ht:∀i a',t'.bL i=some a'->∃a,t.bL i=some a/\eF (mb g H.br) a=some a')(ig:qg m0 ds):iB ds P f nt m0 v H1 t H todo:=by
 have⟨r,hq,hr⟩:=h;refine⟨r,hq,λI w bs cf cs cr hw hl hf=>?_⟩;have Bt:=hm.wr hw;have jN:jG m0 I (MW g H.br I):=⟨λid dw=>aw (show¬id=H.br by omega),λ_ _ h=>h,λ_ _ h=>h⟩;have ql:wv (MW g H.br I) (fZ ds none f nt t' todo) cf:=by
  have⟨b,a,SV,e1,e2,e3⟩:=hf;refine⟨b,a,SV,e1,⟨e2.fn,⟨e2.tr.1,λi a' ha=>?_⟩,?_,e2.kD,e2.lD,e2.qX⟩,Uh hp e3⟩
  .have⟨a0,h1,h2⟩:=ht i a' ha;have⟨x,h3,h4⟩:=e2.tr.2 i a0 h1;exact⟨x,h3,t_ Bt.2 h2 h4⟩
  .exact EC jN ig e2.dr
 have⟨aK,w',g1,g2,g3,g4⟩:=hr _ w bs cf cs (by rw[hm.next];omega) Bt.1 hl ql;exact⟨aK,w',g1,jN.sZ g2,⟨g3.1,(oj.of hm.x rfl).rX g3.2⟩,g4⟩
theorem wS{P f nt m0 v H1 H H' t t' todo g}(h:ba P f nt m0 v H1 t' H' todo)(hm:Mv H H' g)(ht:∀i a',t'.bL i=some a'->∃a,t.bL i=some a/\eF (mb g H.br) a=some a')(hp:mf todo=true:=by kernel_rfl):ba P f nt m0 v H1 t H todo:=
 adX h hm hp ht (E0 _)
end
end Go.Ev
namespace Go.Ev
noncomputable section
variable{xx:Option XH}
def Ym(g n:Nat):List (Nat×aO)->Option (List (Nat×aO))
 |[]=>some []
 |(s,a)::l=>match Ym g n l with
  |none=>none
  |some l'=>if s=g then some ((s,.bg [])::l')else match mF (mb g n) a with
   |some a'=>some ((s,a')::l')
   |none=>none
theorem aq2{g n}:∀{l l'},Ym g n l=some l'->
 (∀id,id≠g->(cH l id=none->cH l' id=none)/\∀bu,cH l' id=some bu->∃ob,cH l id=some ob/\mF (mb g n) ob=some bu)/\∀x,cH l g=some x->cH l' g=some (.bg [])
 |[],l',h=>by cases h;exact⟨λid _=>⟨λ_=>rfl,λbu h=>by cases h⟩,λx h=>by cases h⟩
 |(s,a)::l,l',h=>by
  simp only[Ym]at h;split at h
  .cases h
  next l1 h1=>
   have⟨k1,k2⟩:=aq2 h1;split at h;next hs=>cases h;subst hs;refine⟨λid dw=>?_,λx _=>by simp[cH]⟩;simp only[cH,aw dw];exact k1 id dw
   next hs=>
    split at h;next a' ha=>
     cases h;refine⟨λid dw=>?_,λx hx=>?_⟩
     .simp only[cH];by_cases hi:id=s
      .subst hi;simp only[if_true];exact⟨λh=>(by cases h),λbu h=>(by cases h;exact⟨a,rfl,ha⟩)⟩
      .simp only[aw hi];exact k1 id dw
     .simp only[cH]at hx⊢;have:¬g=s:=λe=>hs e.symm
      rw[aw this]at hx⊢;exact k2 x hx
    .cases h
theorem I7:∀l m i,cH (l++m) i=(match cH l i with|some x=>some x|none=>cH m i)
 |[],m,i=>rfl
 |(s,a)::l,m,i=>by
  simp only[j3,cH];split
  .rfl
  .exact I7 l m i
theorem rC{g n l l' vs el}(h:Ym g n l=some l')(hg:cH l g=some (.au vs el))(hn:cH l n=none):
 Mv (et xx l n) (et xx (l'++[(n,.au vs el)]) (n+1)) g:=by
 have⟨k1,k2⟩:=aq2 h;have Bo:n≠g:=by rintro rfl;rw[hg]at hn;cases hn
 refine⟨⟨vs,el,by rw[eg];exact hg,?_⟩,?_,rfl,?_,rfl⟩
 .show(et xx _ _).aR n=_;rw[eg,I7,(k1 n Bo).1 hn];simp[cH]
 .rw[eg,I7,k2 _ hg]
 .intro id bu h1 h2 h3;have h2:id≠n:=h2;rw[eg,I7]at h3;rw[eg];cases hl:cH l' id with
  |none=>rw[hl]at h3;simp[cH,h2]at h3
  |some x=>rw[hl]at h3;cases h3;exact(k1 id h1).2 _ hl
end
end Go.Ev
namespace Go.Ev
noncomputable section
variable{xx:Option XH}
def BB:List (Nat×AV)->Nat->Option AV
 |[],_=>none
 |(s,a)::l,i=>if i=s then some a else BB l i
theorem oA:∀l i,(aJ l).bL i=BB l i
 |[],i=>rfl
 |(s,a)::l,i=>by
  simp only[aJ,BB];by_cases h:i=s
  .subst h;rw[aP rfl,Tr.lL];simp
  .rw[aw h,<-oA l i,Tr.lL];simp[h]
theorem yN{l g n i a}(hi:(aJ l).bL i=some a)(h:∀x∈l,eF (mb g n) x.2=some x.2):eF (mb g n) a=some a:=by
 rw[oA]at hi;induction l with
 |nil=>cases hi
 |cons x l ih=>
  have⟨s,b⟩:=x;simp only[BB]at hi;split at hi
  .cases hi;exact h (s,a) (by simp)
  .exact ih hi (λy hy=>h y (by simp[hy]))
end
end Go.Ev
namespace Go.Ev
noncomputable section
variable{xx:Option XH}
def mr(m0:Nat)(H H':AH)(R:bZ->bZ->Prop):Prop:=
 H.br<=H'.br/\∀I bs w,m0<=H.br->WR I bs H w->∃aK,WR aK bs H' w/\(jG m0 I aK/\oj I H aK H')/\R I aK
theorem QK{ds P f nt m0 v H1 H H' t t' todo R}(h:iB ds P f nt m0 v H1 t' H' todo)(hm:mr m0 H H' R)(hp:mf todo=true)(ht:∀I aK,R I aK->∀i a',t'.bL i=some a'->∃a,t.bL i=some a/\∀x,VR I a x->VR aK a' x)(ig:qg m0 ds):iB ds P f nt m0 v H1 t H todo:=by
 have⟨r,hq,hr⟩:=h;refine⟨r,hq,λI w bs cf cs cr hw hl hf=>?_⟩;have⟨hn,hm⟩:=hm;have⟨lU,k1,k2,k3⟩:=hm I bs w cr hw;have ql:wv lU (fZ ds none f nt t' todo) cf:=by
  have⟨b,a,SV,e1,e2,e3⟩:=hf;refine⟨b,a,SV,e1,⟨e2.fn,⟨e2.tr.1,λi a' ha=>?_⟩,?_,e2.kD,e2.lD,e2.qX⟩,Uh hp e3⟩
  .have⟨a0,h1,h2⟩:=ht I lU k3 i a' ha;have⟨x,h3,h4⟩:=e2.tr.2 i a0 h1;exact⟨x,h3,h2 x h4⟩
  .exact EC k2.1 ig e2.dr
 have⟨aK,w',g1,g2,g3,g4⟩:=hr lU w bs cf cs (by omega) k1 hl ql;exact⟨aK,w',g1,k2.1.sZ g2,⟨g3.1,k2.2.rX g3.2⟩,g4⟩
theorem aoJ{P f nt m0 v H1 H H' t t' todo R}(h:ba P f nt m0 v H1 t' H' todo)(hm:mr m0 H H' R)(hp:mf todo=true)(ht:∀I aK,R I aK->∀i a',t'.bL i=some a'->∃a,t.bL i=some a/\∀x,VR I a x->VR aK a' x):ba P f nt m0 v H1 t H todo:=
 QK h hm hp ht (E0 _)
theorem Fe{P f args H0 H H1 v v1 R}(h:bC P f args H0 v H)(hm:mr H0.br H H1 R)(cr:H0.br<=H.br)(hv:∀I aK,R I aK->∀x,VR I v x->VR aK v1 x)(rz:jX v=.gJ v:=by rfl):bC P f args H0 v1 H1:=by intro I w bs args' cs ha hw hl;have⟨aK,w',g1,g2,g3,g4⟩:=h I w bs args' cs ha hw hl;have⟨hn,hm⟩:=hm;have⟨lU,k1,k2,k3⟩:=hm aK bs w' cr g1;refine⟨lU,w',k1,g2.sZ k2.1,⟨g3.1,g3.2.rX k2.2⟩,?_⟩;rw[rz]at g4;obtain⟨kI,e',⟨v',rfl,j1⟩,j2⟩:=g4;exact qW.ret ⟨kI,_,⟨v',rfl,hv _ _ k3 _ j1⟩,j2⟩
theorem kJ{P f args H0 H H2 v v2 ps}(h:bC P f args H0 v H)(hv:nD H0.br (yH v) H=some ⟨ps,H2⟩:=by kernel_rfl)(hr:eF (iX ps) v=some v2:=by kernel_rfl):bC P f args H0 v2 H2:=by intro I w bs args' cs ha hw hl;have⟨aK,w',g1,g2,g3,g4⟩:=h I w bs args' cs ha hw hl;obtain⟨tt,n,rfl,aN,jZ,jN⟩:=Eg hv;exact⟨jD ps aK,w',g1.uU aN jZ,g2.sZ ⟨λid dw=>by simp[jD,jN id dw],λ_ _ h=>h,λ_ _ h=>h⟩,⟨g3.1,g3.2.rX (.of rfl rfl)⟩,g4.GA (z_ aN aK) hr⟩
theorem akj{I}:∀{k vs l},bf I vs l->bf I (vs.drop k) (l.drop k)
 |0,_,_,h=>h
 |k+1,[],l,h=>by cases h;simp[bf]
 |k+1,a::vs,l,h=>by obtain⟨v,l',rfl,_,h2⟩:=h;exact akj (k:=k) h2
theorem akm{I}:∀{k vs l},bf I vs l->bf I (vs.take k) (l.take k)
 |0,_,_,h=>by simp[bf]
 |k+1,[],l,h=>by cases h;simp[bf]
 |k+1,a::vs,l,h=>by obtain⟨v,l',rfl,h1,h2⟩:=h;exact⟨v,l'.take k,rfl,h1,akm h2⟩
def PU(g k n:Nat):AV->Option AV
 |.bK id off len cap sz ex=>if id=g then(if off=k/\ex=false then some (.ad n len sz)else none)else some (.bK id off len cap sz ex)
 |.aa id off=>if id=g then none else some (.aa id off)
 |.ad id len sz=>if id=g then none else some (.ad id len sz)
 |a=>some a
def Lj(g k n:Nat):LV->Option LV
 |[]=>some []
 |a::l=>match PU g k n a,Lj g k n l with
  |some a',some l'=>some (a'::l')
  |_,_=>none
def HX(g k n:Nat):aO->Option aO
 |.ah vs e=>match Lj g k n vs with|some l=>some (.ah l e)|none=>none
 |o=>some o
def Vz(g k n:Nat):List (Nat×aO)->Option (List (Nat×aO))
 |[]=>some []
 |(s,a)::l=>match Vz g k n l with
  |none=>none
  |some l'=>if s=g then some ((s,.bg [])::l')else match HX g k n a with
   |some a'=>some ((s,a')::l')
   |none=>none
def CW(g k n:Nat)(I:bZ):bZ:=⟨λi=>if i=n then(I g).map (λe=>⟨e.b,e.o+k,e.n⟩)else I i,I.ro,I.xs⟩
theorem CX(g k n I i):CW g k n I i=if i=n then(I g).map (λe=>⟨e.b,e.o+k,e.n⟩)else I i:=rfl
theorem acS{g k n I}(h:I n=none):dp I (CW g k n I):=by refine⟨λid e he=>?_,λ_ _ h=>h,λ_ _ h=>h⟩;rw[CX];rw[aw (by rintro rfl;rw[h]at he;cases he)];exact he
theorem azG{g k n I}(h:I n=none){a a' v}(ha:PU g k n a=some a')(hv:VR I a v):VR (CW g k n I) a' v:=by
 have hp:=acS (g:=g) (k:=k) h;unfold PU at ha;split at ha
 .split at ha;next hg=>
   subst hg;split at ha;next hk=>obtain⟨rfl,rfl⟩:=hk;cases ha;have⟨e,x,c,h1,h2,h3,h4,h5,h6⟩:=hv;refine .inr ⟨⟨e.b,e.o+_,e.n⟩,x,c,?_,h2,h3,h4,h6⟩;rw[CX];rw[aP rfl,h1];rfl
   .cases ha
  .cases ha;exact VR.d_ hp _ _ hv
 .split at ha
  .cases ha
  .cases ha;exact VR.d_ hp _ _ hv
 .split at ha
  .cases ha
  .cases ha;exact VR.d_ hp _ _ hv
 .cases ha;exact VR.d_ hp _ _ hv
theorem amo{g k n I}(h:I n=none):∀{l l' vs},Lj g k n l=some l'->bf I l vs->bf (CW g k n I) l' vs
 |[],l',vs,h1,h2=>by cases h1;exact h2
 |a::l,l',vs,h1,h2=>by
  simp only[Lj]at h1;split at h1;next a1 l1 e1 e2=>cases h1;obtain⟨v,eA,rfl,k1,k2⟩:=h2;exact⟨v,eA,rfl,azG h e1 k1,amo h e2 k2⟩
  .cases h1
theorem azF{g k n a a'}(ha:PU g k n a=some a'):a'.dH=a.dH:=by
 unfold PU at ha;split at ha
 .split at ha
  .split at ha
   .cases ha;rfl
   .cases ha
  .cases ha;rfl
 .split at ha
  .cases ha
  .cases ha;rfl
 .split at ha
  .cases ha
  .cases ha;rfl
 .cases ha;rfl
theorem amn{g k n}:∀{l l'},Lj g k n l=some l'->l'.length=l.length/\l'.all AV.dH=l.all AV.dH
 |[],l',h=>by cases h;exact aA
 |a::l,l',h=>by
  simp only[Lj]at h;split at h;next a1 l1 e1 e2=>cases h;have:=amn e2;exact⟨by simp[this.1],by simp[this.2,azF e1]⟩
  .cases h
theorem azI{g k n I}(h:I n=none){ob bu e o}(ho:HX g k n ob=some bu)(hr:OR I ob e o):OR (CW g k n I) bu e o:=by
 unfold HX at ho;split at ho
 .split at ho;next l hl=>cases ho;have⟨cs,el,h1,h2,h3,h4,h5⟩:=hr;have gM:=amn hl;exact⟨cs,el,h1,h2,by rw[gM.1];exact h3,by rw[gM.1];exact amo h hl h4,by rw[gM.2];exact h5⟩
  .cases ho
 .cases ho;exact OR.s6 (acS h) hr
theorem azH{g k n ob bu}(ho:HX g k n ob=some bu):bu.aQ=ob.aQ:=by
 unfold HX at ho;split at ho
 .split at ho
  .cases ho;rfl
  .cases ho
 .cases ho;rfl
theorem amp{g k n}:∀{l l'},Vz g k n l=some l'->
 (∀id,id≠g->(cH l id=none->cH l' id=none)/\∀bu,cH l' id=some bu->∃ob,cH l id=some ob/\HX g k n ob=some bu)/\∀x,cH l g=some x->cH l' g=some (.bg [])
 |[],l',h=>by cases h;exact⟨λid _=>⟨λ_=>rfl,λbu h=>by cases h⟩,λx h=>by cases h⟩
 |(s,a)::l,l',h=>by
  simp only[Vz]at h;split at h
  .cases h
  next l1 h1=>
   have⟨k1,k2⟩:=amp h1;split at h;next hs=>cases h;subst hs;refine⟨λid dw=>?_,λx _=>by simp[cH]⟩;simp only[cH,aw dw];exact k1 id dw
   next hs=>
    split at h;next a' ha=>
     cases h;refine⟨λid dw=>?_,λx hx=>?_⟩
     .simp only[cH];by_cases hi:id=s
      .subst hi;simp only[if_true];exact⟨λh=>(by cases h),λbu h=>(by cases h;exact⟨a,rfl,ha⟩)⟩
      .simp only[aw hi];exact k1 id dw
     .simp only[cH]at hx⊢;have:¬g=s:=λe=>hs e.symm
      rw[aw this]at hx⊢;exact k2 x hx
    .cases h
theorem aEv{m0 g k n l l' vs el}(h:Vz g k n l=some l')(hg:cH l g=some (.au vs el))(hn:cH l n=none)(hk:k<=vs.length):
 mr m0 (et xx l n) (et xx (l'++[(n,.au (vs.drop k) el)]) (n+1)) (λI aK=>I n=none/\aK=CW g k n I):=by
 have⟨k1,k2⟩:=amp h;refine⟨Nat.le_succ n,λI bs w cr hw=>?_⟩;have cr:m0<=n:=cr;have apn:I n=none:=by
  cases hp:I n with
  |none=>rfl
  |some e=>have:=(hw.lt n e hp).2.2;exact absurd this (Nat.lt_irrefl n)
 have Bo:n≠g:=by rintro rfl;rw[hg]at hn;cases hn
 have dz:∀id,(et xx (l'++[(n,.au (vs.drop k) el)]) (n+1)).aR id=(match cH l' id with|some x=>some x|none=>if id=n then some (.au (vs.drop k) el)else none):=by intro id;rw[eg,I7];rfl
 have nA:∀{id ob},(et xx (l'++[(n,.au (vs.drop k) el)]) (n+1)).aR id=some ob->(id=g/\ob=.bg [])\/(id=n/\ob=.au (vs.drop k) el)\/(id≠g/\id≠n/\∃dW,cH l id=some dW/\HX g k n dW=some ob):=by
  intro id ob ho;rw[dz]at ho;by_cases h1:id=g
  .subst h1;rw[k2 _ hg]at ho;cases ho;exact .inl aA
  .by_cases h2:id=n
   .subst h2;rw[(k1 id h1).1 hn]at ho;simp at ho;exact .inr (.inl ⟨rfl,ho.symm⟩)
   .cases hl:cH l' id with
    |none=>rw[hl]at ho;simp[h2]at ho
    |some x=>rw[hl]at ho;cases ho;exact .inr (.inr ⟨h1,h2,(k1 id h1).2 _ hl⟩)
 have jZ:∀id,(et xx l n).aR id=cH l id:=eg l n;have Nc:∀{id ob e},(et xx (l'++[(n,.au (vs.drop k) el)]) (n+1)).aR id=some ob->ob.aQ=true->CW g k n I id=some e->
  ∃j dW e0,(et xx l n).aR j=some dW/\dW.aQ=true/\I j=some e0/\e0.b=e.b/\id=(if j=g then n else j):=by
  intro id ob e ho hl he;rcases nA ho with⟨h1,h2⟩|⟨h1,h2⟩|⟨h1,h2,dW,h3,h4⟩
  .subst h2;cases hl
  .subst h1;rw[CX]at he;rw[aP rfl]at he;have⟨e0,h5,h6⟩:=Gs.1 he;exact⟨g,_,e0,(jZ g).trans hg,rfl,h5,by rw[<-h6],by rw[aP rfl]⟩
  .rw[CX]at he;rw[aw h2]at he;exact⟨id,dW,e,(jZ id).trans h3,by rw[<-azH h4];exact hl,he,rfl,by rw[aw h1]⟩
 refine⟨CW g k n I,⟨?_,?_,?_,?_,hw.uP rfl rfl rfl (λ_ _=>rfl) λid ob e h1 l1 h2=>.inl ?_⟩,⟨⟨λid dw=>?_,λ_ _ h=>h,λ_ _ h=>h⟩,.of rfl rfl⟩,apn,rfl⟩
 .intro id ob e ho he;rcases nA ho with⟨h1,h2⟩|⟨h1,h2⟩|⟨h1,h2,dW,h3,h4⟩
  .subst h2;have hb:e.b<w.heap.size:=by
    rw[CX]at he;split at he
    .have⟨e0,h5,h6⟩:=Gs.1 he;rw[<-h6];exact(hw.lt _ e0 h5).1
    .exact(hw.lt _ e he).1
   exact⟨w.heap[e.b]'hb,DQ hb,trivial⟩
  .subst h1 h2;rw[CX]at he;rw[aP rfl]at he;obtain⟨e0,h5,rfl⟩:=Gs.1 he;obtain⟨o,j1,cs,hJ,rfl,ca,ao0,jd,Bg⟩:=hw.ey g _ e0 ((jZ g).trans hg) h5;refine⟨_,j1,cs,hJ,rfl,ca,?_,?_,?_⟩
   .simp;omega
   .have:=akj (k:=k) jd;rw[BO,Ad]at this;show bf I.pu _ _;simpa using this
   .rw[oC]at Bg⊢;exact λx hx=>Bg x (Nj hx)
  .rw[CX]at he;rw[aw h2]at he;have⟨o,j1,j2⟩:=hw.ey id dW e ((jZ id).trans h3) he;exact⟨o,j1,azI apn h4 j2⟩
 .intro id ij ob bu e e' h1 l1 h2 h3 l2 h4 hb;obtain⟨j,o,e0,a1,a2,a3,a4,rfl⟩:=Nc h1 l1 h2;obtain⟨j',o',e0',b1,b2,b3,b4,rfl⟩:=Nc h3 l2 h4;have:=hw.jx j j' o o' e0 e0' a1 a2 a3 b1 b2 b3 (by rw[a4,b4,hb]);rw[this]
 .intro id e he;rw[CX]at he;split at he;next h1=>obtain⟨e0,h5,rfl⟩:=Gs.1 he;have:=hw.lt _ e0 h5;exact⟨this.1,this.2.1,by subst h1;exact kr _⟩
  .have:=hw.lt _ e he;exact⟨this.1,this.2.1,Gx this.2.2⟩
 .intro id ob ho;rcases nA ho with⟨h1,h2⟩|⟨h1,h2⟩|⟨h1,h2,dW,h3,h4⟩
  .subst h1;exact Gx (hw.nx id _ ((jZ id).trans hg))
  .subst h1;exact kr _
  .exact Gx (hw.nx id _ ((jZ id).trans h3))
 .have⟨j,o,e0,a1,a2,a3,a4,_⟩:=Nc h1 l1 h2;exact⟨j,o,e0,a1,a2,a3,a4⟩
 .rw[CX];rw[aw (by omega)]
end
end Go.Ev
namespace Go.Ev
noncomputable section
variable{xx:Option XH}
def y_(g:Nat):AV->AV
 |.bK id off len cap sz ex=>bif Nat.beq id g&&Nat.beq off 0 then .ad id len sz else .bK id off len cap sz ex
 |a=>a
def JO(g:Nat):LV->LV
 |[]=>[]
 |a::l=>y_ g a::JO g l
def JP(g:Nat):aO->aO
 |.ah vs e=>.ah (JO g vs) e
 |o=>o
def Cc(g:Nat)(new:aO):List (Nat×aO)->List (Nat×aO)
 |[]=>[]
 |(s,a)::l=>(s,bif Nat.beq s g then new else JP g a)::Cc g new l
theorem ahr{g I a v}(hv:VR I a v):VR I (y_ g a) v:=by
 unfold y_;split;next id off len cap sz ex=>
  cases hc:Nat.beq id g&&Nat.beq off 0
  .exact hv
  .simp only[cT]at hc;have h0:=dN hc.2;subst h0;simp;have⟨e,x,c,h1,h2,h3,h4,h5,h6⟩:=hv;exact .inr ⟨e,x,c,h1,h2,h3,h4,h6⟩
 .exact hv
theorem aOw(g a):(y_ g a).dH=a.dH:=by
 unfold y_;split;next id off len cap sz ex=>cases hc:Nat.beq id g&&Nat.beq off 0<;>rfl
 .rfl
theorem avd{g I}:∀{l vs},bf I l vs->bf I (JO g l) vs
 |[],_,h=>h
 |a::l,_,h=>by obtain⟨v,eA,rfl,k1,k2⟩:=h;exact⟨v,eA,rfl,ahr k1,avd k2⟩
theorem avc(g):∀l:LV,(JO g l).length=l.length/\(JO g l).all AV.dH=l.all AV.dH
 |[]=>aA
 |a::l=>by have:=avc g l;exact⟨by simp[JO,this.1],by simp[JO,this.2,aOw]⟩
theorem aOx{g I ob e o}(h:OR I ob e o):OR I (JP g ob) e o:=by
 unfold JP;split;next vs lJ=>have⟨cs,el,h1,h2,h3,h4,h5⟩:=h;have gM:=avc g vs;exact⟨cs,el,h1,h2,by rw[gM.1];exact h3,by rw[gM.1];exact avd h4,by rw[gM.2];exact h5⟩
 .exact h
theorem ave(g ob):(JP g ob).aQ=ob.aQ:=by unfold JP;split<;>rfl
theorem NJ{g new}:∀{l id bu},cH (Cc g new l) id=some bu->∃ob,cH l id=some ob/\((id=g/\bu=new)\/bu=JP g ob)
 |[],id,bu,h=>by cases h
 |(s,a)::l,id,bu,h=>by
  simp only[Cc,cH]at h⊢;by_cases hi:id=s
  .subst hi;rw[aP rfl]at h⊢;cases h;refine⟨a,rfl,?_⟩;cases hb:Nat.beq id g
   .exact .inr rfl
   .exact .inl ⟨dN hb,rfl⟩
  .rw[aw hi]at h⊢;exact NJ h
theorem RI{m0 g n l old new}(hg:cH l g=some old)(ho:∀I e o,OR I old e o->OR I new e o)(nT:old.aQ=true):
 mr m0 (et xx l n) (et xx (Cc g new l) n) (λI aK=>aK=I):=by
 refine⟨ct n,λI bs w cr hw=>⟨I,⟨?_,?_,?_,?_,hw.uP rfl rfl rfl (λ_ _=>rfl) λid ob e h1 l1 h2=>.inl ?_⟩,⟨jG.CA _ _,.of rfl rfl⟩,rfl⟩⟩
 .intro id ob e h1 h2;rw[eg]at h1;have⟨dW,h3,h4⟩:=NJ h1;have⟨o,h5,h6⟩:=hw.ey id dW e (by rw[eg];exact h3) h2;refine⟨o,h5,?_⟩;rcases h4 with⟨rfl,rfl⟩|rfl
  .rw[hg]at h3;cases h3;exact ho _ _ _ h6
  .exact aOx h6
 .intro id ij ob bu e e' h1 l1 h2 h3 l2 h4 hb;rw[eg]at h1 h3;have⟨o1,k1,k2⟩:=NJ h1;have⟨o2,k3,k4⟩:=NJ h3;have aQ:∀{id ob dW},cH l id=some dW->((id=g/\ob=new)\/ob=JP g dW)->ob.aQ=true->dW.aQ=true:=by
   intro id ob dW q1 q2 q3;rcases q2 with⟨rfl,rfl⟩|rfl
   .rw[hg]at q1;cases q1;exact nT
   .rwa[ave]at q3
  exact hw.jx id ij o1 o2 e e' (by rw[eg];exact k1) (aQ k1 k2 l1) h2 (by rw[eg];exact k3) (aQ k3 k4 l2) h4 hb
 .exact hw.lt
 .intro id ob h1;rw[eg]at h1;have⟨o1,k1,_⟩:=NJ h1;exact hw.nx id o1 (by rw[eg];exact k1)
 .rw[eg]at h1;have⟨o1,k1,k2⟩:=NJ h1;refine⟨id,o1,e,by rw[eg];exact k1,?_,h2,rfl⟩;rcases k2 with⟨rfl,rfl⟩|rfl
  .rw[hg]at k1;cases k1;exact nT
  .rwa[ave]at l1
theorem r7{I vs el hJ}(hp:vs.all f_=true){e o}(h:OR I (.ah vs el) e o):OR I (.au vs hJ) e o:=by have⟨cs,lJ,h1,h2,h3,h4,h5⟩:=h;exact⟨cs,lJ,h1,h2,h3,bf.xU _ _ (by rw[xu];exact hp) h4,h5⟩
theorem ajY{I vs el hJ}(k){e o}(h:OR I (.au vs el) e o):OR I (.au (vs.take k) hJ) e o:=by
 have⟨cs,lJ,h1,h2,h3,h4,h5⟩:=h;refine⟨cs,lJ,h1,h2,?_,?_,?_⟩
 .simp;omega
 .have:=akm (k:=k) h4;rw[Gq]at this;simpa using this
 .rw[oC]at h5⊢;exact λx hx=>h5 x (Jp hx)
end
end Go.Ev
namespace Go.Ev
noncomputable section
variable{xx:Option XH}
theorem aqZ{g i a'}:∀{l},(aJ (l.map λx=>(x.1,y_ g x.2))).bL i=some a'->∃a,(aJ l).bL i=some a/\a'=y_ g a
 |[],h=>by rw[oA]at h;cases h
 |(s,b)::l,h=>by
  rw[oA]at h;rw[oA];simp only[e9,BB]at h⊢;by_cases hs:i=s
  .rw[aP hs]at h⊢;cases h;exact⟨b,rfl,rfl⟩
  .rw[aw hs]at h⊢;rw[<-oA]at h⊢;exact aqZ h
theorem aCm{ds P f nt m0 g n v H1 T l old new todo}(h:iB ds P f nt m0 v H1 (aJ (T.map λx=>(x.1,y_ g x.2))) (et xx (Cc g new l) n) todo)(hg:cH l g=some old)(ho:∀I e o,OR I old e o->OR I new e o)(nT:old.aQ=true)(hp:mf todo=true)(ig:qg m0 ds):
 iB ds P f nt m0 v H1 (aJ T) (et xx l n) todo:=by
 refine QK (ig:=ig) h (RI hg ho nT) hp (λI aK hR i a' hi=>?_);subst hR;obtain⟨a,h1,rfl⟩:=aqZ hi;exact⟨a,h1,λx hx=>ahr hx⟩
theorem zG{P f nt m0 g n v H1 T l old new todo}(h:ba P f nt m0 v H1 (aJ (T.map λx=>(x.1,y_ g x.2))) (et xx (Cc g new l) n) todo)(hg:cH l g=some old)(ho:∀I e o,OR I old e o->OR I new e o)(nT:old.aQ=true)(hp:mf todo=true:=by kernel_rfl):
 ba P f nt m0 v H1 (aJ T) (et xx l n) todo:=
 aCm h hg ho nT hp (E0 _)
theorem Ib{P f args H0 v g n l old new}(h:bC P f args H0 v (et xx l n))(hg:cH l g=some old)(ho:∀I e o,OR I old e o->OR I new e o)(nT:old.aQ=true)(cr:H0.br<=n)(rz:jX v=.gJ v:=by rfl):
 bC P f args H0 (y_ g v) (et xx (Cc g new l) n):=
 Fe h (RI hg ho nT) cr (λI aK hR x hx=>by subst hR;exact ahr hx) rz
theorem Jd{m0 n l}(ob)(hn:cH l n=none):mr m0 (et xx l n) (et xx (l++[(n,ob)]) (n+1)) (λI aK=>aK=I):=by
 refine⟨Nat.le_succ n,λI bs w cr hw=>⟨I,⟨?_,?_,?_,?_,hw.uP rfl rfl rfl (λ_ _=>rfl) λid ob9 e h1 l1 h2=>.inl ?_⟩,⟨jG.CA _ _,.of rfl rfl⟩,rfl⟩⟩;all_goals
  have hI:I n=none:=by
   cases hp:I n with
   |none=>rfl
   |some e=>exact absurd (hw.lt n e hp).2.2 (Nat.lt_irrefl n)
 all_goals
  have eW:∀{id bu e},(et xx (l++[(n,ob)]) (n+1)).aR id=some bu->I id=some e->(et xx l n).aR id=some bu:=by
   intro id bu e h1 h2;rw[eg,I7]at h1;rw[eg];cases hl:cH l id with
   |some x=>rw[hl]at h1;exact h1
   |none=>
    rw[hl]at h1;simp only[cH]at h1;split at h1;next dw=>rw[dw,hI]at h2;cases h2
    .cases h1
 .intro id bu e h1 h2;exact hw.ey id bu e (eW h1 h2) h2
 .intro id ij o o' e e' h1 l1 h2 h3 l2 h4 hb;exact hw.jx id ij o o' e e' (eW h1 h2) l1 h2 (eW h3 h4) l2 h4 hb
 .intro id e h1;have:=hw.lt id e h1;exact⟨this.1,this.2.1,Gx this.2.2⟩
 .intro id bu h1;rw[eg,I7]at h1;cases hl:cH l id with
  |some x=>exact Gx (hw.nx id x (by rw[eg];exact hl))
  |none=>
   rw[hl]at h1;simp only[cH]at h1;split at h1;next dw=>rw[dw];exact kr n
   .cases h1
 .exact⟨id,ob9,e,eW h1 h2,l1,h2,rfl⟩
theorem r9{I i sz x}(h:VR I .aM x):VR I (.ad i 0 sz) x:=by simp only[VR]at h⊢;exact .inl ⟨trivial,h⟩
theorem ade{P f args H0 n sz l t}(h:bC P f args H0 .aM (et xx l n))(hn:cH l n=none)(cr:H0.br<=n):
 bC P f args H0 (.ad n 0 sz) (et xx (l++[(n,.au [] t)]) (n+1)):=
 Fe h (Jd _ hn) cr (λI aK hR x hx=>by subst hR;exact r9 hx)
def MZ(n sz:Nat)(BU:LN):List (Nat×AV)->List (Nat×AV)
 |[]=>[]
 |(s,a)::l=>(s,match a with|.aM=>bif BU.any (Nat.beq s)then .ad n 0 sz else .aM|a=>a)::MZ n sz BU l
theorem ard{n sz i BU a'}:∀{l},(aJ (MZ n sz BU l)).bL i=some a'->∃a,(aJ l).bL i=some a/\∀I x,VR I a x->VR I a' x
 |[],h=>by rw[oA]at h;cases h
 |(s,b)::l,h=>by
  rw[oA]at h;rw[oA];simp only[MZ,BB]at h⊢;by_cases hs:i=s
  .rw[aP hs]at h⊢;refine⟨b,rfl,λI x hx=>?_⟩;split at h
   .cases hc:BU.any (Nat.beq s)
    .rw[hc]at h;cases h;exact hx
    .rw[hc]at h;cases h;exact r9 hx
   .cases h;exact hx
  .rw[aw hs]at h⊢;rw[<-oA]at h⊢;exact ard h
theorem aCj{ds P f nt m0 n v H1 T l todo}(sz t BU)(h:iB ds P f nt m0 v H1 (aJ (MZ n sz BU T)) (et xx (l++[(n,.au [] t)]) (n+1)) todo)(hn:cH l n=none)(hp:mf todo=true)(ig:qg m0 ds):
 iB ds P f nt m0 v H1 (aJ T) (et xx l n) todo:=by
 refine QK (ig:=ig) h (Jd _ hn) hp (λI aK hR i a' hi=>?_);subst hR;have⟨a,h1,h2⟩:=ard hi;exact⟨a,h1,λx hx=>h2 _ x hx⟩
theorem zF{P f nt m0 n v H1 T l todo}(sz t BU)(h:ba P f nt m0 v H1 (aJ (MZ n sz BU T)) (et xx (l++[(n,.au [] t)]) (n+1)) todo)(hn:cH l n=none)(hp:mf todo=true:=by kernel_rfl):
 ba P f nt m0 v H1 (aJ T) (et xx l n) todo:=
 aCj sz t BU h hn hp (E0 _)
theorem Ml{ds P f nt m0 v H1 H H' t todo}(h:iB ds P f nt m0 v H1 t H' todo)(hm:mr m0 H H' (λI aK=>aK=I))(hp:mf todo=true)(ig:qg m0 ds):iB ds P f nt m0 v H1 t H todo:=
 QK (ig:=ig) h hm hp (λI aK hR i a' hi=>by subst hR;exact⟨a',hi,λx hx=>hx⟩)
theorem qk{P f nt m0 v H1 H H' t todo}(h:ba P f nt m0 v H1 t H' todo)(hm:mr m0 H H' (λI aK=>aK=I))(hp:mf todo=true:=by kernel_rfl):ba P f nt m0 v H1 t H todo:=
 Ml h hm hp (E0 _)
theorem aF9{P l a H0 H H1 v v1 R}(h:EG P l a H0 v H)(hm:mr H0.br H H1 R)(cr:H0.br<=H.br)(hv:∀I aK,R I aK->∀x,VR I v x->VR aK v1 x)(rz:jX v=.gJ v:=by rfl)(aCG:jX v1=.gJ v1:=by rfl):EG P l a H0 v1 H1:=by have⟨st,pe,fn,tmps,nt,p,assign,body,d,fr,h1,h2,h3⟩:=h;refine⟨st,pe,fn,tmps,nt,p,assign,body,d,fr,h1,h2,λI w bs cf cs hw hl hf=>?_⟩;have⟨aK,w',g1,g2,g3,g4⟩:=h3 I w bs cf cs hw hl hf;have⟨hn,hm⟩:=hm;have⟨lU,k1,k2,k3⟩:=hm aK bs w' cr g1;refine⟨lU,w',k1,g2.sZ k2.1,⟨g3.1,g3.2.rX k2.2⟩,?_⟩;rw[rz]at g4;rw[aCG];intro c cs' gL;have⟨v',j1,j2⟩:=g4 c cs' gL;exact⟨v',hv _ _ k3 _ j1,j2⟩
theorem aEI{m0 g H H1}(hm:Mv H H1 g):mr m0 H H1 (λI aK=>aK=MW g H.br I):=
 ⟨by rw[hm.next];omega,λI bs w cr hw=>⟨_,(hm.wr hw).1,⟨⟨λid dw=>aw (show¬id=H.br by omega),λ_ _ h=>h,λ_ _ h=>h⟩,.of hm.x rfl⟩,rfl⟩⟩
theorem aGa{P l a H0 H H1 b g}(h:EG P l a H0 (.ai b) H)(hm:Mv H H1 g)(hn:H0.br<=H.br):EG P l a H0 (.ai b) H1:=
 aF9 h (aEI hm) hn (λI aK _ x hx=>by simpa[VR]using hx)
def afx(n sz:Nat):LV->LV
 |[]=>[]
 |.aM::l=>.ad n 0 sz::afx n sz l
 |a::l=>a::afx n sz l
theorem xq{I n sz}:∀{l vs},bf I l vs->bf I (afx n sz l) vs
 |[],vs,h=>h
 |a::l,vs,h=>by
  obtain⟨v,eA,rfl,h1,h2⟩:=h;have:=xq (n:=n) (sz:=sz) h2;cases a<;>first
   |exact⟨v,eA,rfl,r9 h1,this⟩
   |exact⟨v,eA,rfl,h1,this⟩
end
end Go.Ev
namespace Go.Ev
noncomputable section
section
variable{xx:Option XH}
def OX(g:Nat)(vs:List AV)(I aK:bZ):Prop:=
 dp I aK/\∀e,I g=some e->∃(dL:Array Value) (el:TypeId) (fz:Nat×Nat),aK.ro e.b=some (.cells dL el fz)/\e.o+vs.length<=dL.size/\bf aK.pu vs ((dL.toList.drop e.o).take vs.length)
mutual
def fO(g:Nat)(vs:List AV):AV->AV
 |.ad id len sz=>bif Nat.beq id g&&Nat.beq vs.length (len*sz)then .aq vs len sz else .ad id len sz
 |.bK id off len cap sz ex=>bif Nat.beq id g&&Nat.beq off 0&&Nat.beq vs.length (len*sz)then .aq vs len sz else .bK id off len cap sz ex
 |.aj cs=>.aj (oU g vs cs)
 |.aL cs=>.aL (oU g vs cs)
 |a=>a
def oU(g:Nat)(vs:List AV):List AV->List AV
 |[]=>[]
 |a::l=>fO g vs a::oU g vs l
end
mutual
theorem adt{g:Nat}{vs:List AV}{I aK:bZ}(h:OX g vs I aK):∀{a:AV} {v:Value},VR I a v->VR aK (fO g vs a) v
 |.ad id len sz,v,hv=>by
  simp only[fO];cases hc:Nat.beq id g&&Nat.beq vs.length (len*sz)
  .exact VR.d_ h.1 _ _ hv
  .simp only[cT]at hc;have h1:=dN hc.1;have h2:=dN hc.2;subst h1;simp only[cond_true,VR];simp only[VR]at hv;rcases hv with⟨rfl,rfl⟩|⟨e,x,c,h3,rfl,h4,h5,h6⟩
   .exact⟨none,0,rfl,h2,.inl rfl⟩
   .refine⟨_,c,rfl,h2,?_⟩;by_cases h0:len=0
    .exact .inl h0
    .right;obtain⟨dL,el,fz,k1,k2,k3⟩:=h.2 e h3;have hx:x=e.o:=by
      rcases h4 with h4|h4
      .omega
      .exact h4
     subst hx;exact⟨e.b,e.o,dL,el,fz,rfl,h5,k1,k2,k3⟩
 |.aj cs,v,hv=>by simp only[fO,VR]at hv⊢;obtain⟨cs',h1,h2⟩:=hv;exact⟨cs',h1,Wc h h2⟩
 |.aL cs,v,hv=>by simp only[fO,VR]at hv⊢;obtain⟨cs',h1,h2⟩:=hv;exact⟨cs',h1,Wc h h2⟩
 |.ai _,v,hv=>VR.d_ h.1 _ _ hv
 |.bD _ _,v,hv=>VR.d_ h.1 _ _ hv
 |.ao _,v,hv=>VR.d_ h.1 _ _ hv
 |.aa _ _,v,hv=>VR.d_ h.1 _ _ hv
 |.kZ,v,hv=>VR.d_ h.1 _ _ hv
 |.bK id off len cap sz ex,v,hv=>by
  simp only[fO];cases hc:Nat.beq id g&&Nat.beq off 0&&Nat.beq vs.length (len*sz)
  .exact VR.d_ h.1 _ _ hv
  .simp only[cT]at hc;have h1:=dN hc.1.1;have h0:=dN hc.1.2;have h2:=dN hc.2;subst h1;subst h0;simp only[cond_true,VR];simp only[VR]at hv;obtain⟨e,x,c,h3,rfl,h4,h5,_,h6⟩:=hv;refine⟨_,c,rfl,h2,?_⟩;by_cases h0:len=0
   .exact .inl h0
   .right;obtain⟨dL,el,fz,k1,k2,k3⟩:=h.2 e h3;have hx:x=e.o:=by
     rcases h4 with h4|h4
     .omega
     .exact h4
    subst hx;exact⟨e.b,e.o,dL,el,fz,rfl,h5,k1,k2,k3⟩
 |.aM,v,hv=>VR.d_ h.1 _ _ hv
 |.aS _,v,hv=>VR.d_ h.1 _ _ hv
 |.oz,v,hv=>VR.d_ h.1 _ _ hv
 |.cw ..,v,hv=>VR.d_ h.1 _ _ hv
 |.ib _,v,hv=>VR.d_ h.1 _ _ hv
 |.rV,v,hv=>VR.d_ h.1 _ _ hv
 |.ep ..,v,hv=>VR.d_ h.1 _ _ hv
 |.ml,v,hv=>VR.d_ h.1 _ _ hv
 |.yk _,v,hv=>VR.d_ h.1 _ _ hv
 |.aq ..,v,hv=>VR.d_ h.1 _ _ hv
 |.qI _,v,hv=>VR.d_ h.1 _ _ hv
 |.ei ..,v,hv=>VR.d_ h.1 _ _ hv
 |.gV ..,v,hv=>VR.d_ h.1 _ _ hv
 |.tb,v,hv=>VR.d_ h.1 _ _ hv
 |.xG ..,v,hv=>VR.d_ h.1 _ _ hv
 |.dI _,v,hv=>VR.d_ h.1 _ _ hv
theorem Wc{g:Nat}{vs:List AV}{I aK:bZ}(h:OX g vs I aK):∀{l:List AV} {m:List Value},bf I l m->bf aK (oU g vs l) m
 |[],m,hv=>by simpa[bf,oU]using hv
 |a::l,m,hv=>by simp only[bf,oU]at hv⊢;obtain⟨v,m',h1,h2,h3⟩:=hv;exact⟨v,m',h1,adt h h2,Wc h h3⟩
end
theorem aA8(g vs a):(fO g vs a).dH=a.dH:=by
 cases a<;>try rfl
 next id off len cap sz ex=>simp only[fO];cases Nat.beq id g&&Nat.beq off 0&&Nat.beq vs.length (len*sz)<;>rfl
 rename_i id len sz;simp only[fO];cases Nat.beq id g&&Nat.beq vs.length (len*sz)<;>rfl
theorem anV(g vs):∀l:List AV,(oU g vs l).length=l.length/\(oU g vs l).all AV.dH=l.all AV.dH
 |[]=>aA
 |a::l=>by have:=anV g vs l;exact⟨by simp[oU,this.1],by simp[oU,this.2,aA8]⟩
def LQ(g:Nat)(vs:List AV):aO->aO
 |.ah cs e=>.ah (oU g vs cs) e
 |o=>o
def vr(g:Nat)(vs:List AV):List (Nat×aO)->List (Nat×aO)
 |[]=>[]
 |(s,a)::l=>(s,bif Nat.beq s g then .bg []else LQ g vs a)::vr g vs l
theorem aBa{g vs I aK}(h:OX g vs I aK){ob e o}(ho:OR I ob e o):OR aK (LQ g vs ob) e o:=by
 unfold LQ;split;next cs lJ=>have⟨cs',el,h1,h2,h3,h4,h5⟩:=ho;have hl:=anV g vs cs;exact⟨cs',el,h1,h2,by rw[hl.1];exact h3,by rw[hl.1];exact Wc h h4,by rw[hl.2];exact h5⟩
 .exact ho.s6 h.1
theorem aA9(g vs ob):(LQ g vs ob).aQ=ob.aQ:=by unfold LQ;split<;>rfl
theorem Wd{g vs}:∀{l id bu},cH (vr g vs l) id=some bu->∃ob,cH l id=some ob/\((id=g/\bu=.bg [])\/(id≠g/\bu=LQ g vs ob))
 |[],id,bu,h=>by cases h
 |(s,a)::l,id,bu,h=>by
  simp only[vr,cH]at h⊢;by_cases hi:id=s
  .subst hi;rw[aP rfl]at h⊢;cases h;refine⟨a,rfl,?_⟩;cases hb:Nat.beq id g
   .exact .inr ⟨(λe=>by rw[e,j4]at hb;cases hb),rfl⟩
   .exact .inl ⟨dN hb,rfl⟩
  .rw[aw hi]at h⊢;exact Wd h
theorem aq0{m0 g n l vs el}(hg:cH l g=some (.au vs el)):mr m0 (et xx l n) (et xx (vr g vs l) n) (OX g vs):=by
 refine⟨ct n,λI bs w cr hw=>?_⟩;have eW:∀id,(et xx l n).aR id=cH l id:=eg l n;let aK:bZ:=⟨I.f,λb=>match I g with|none=>I.ro b|some e=>if b=e.b then w.heap[b]? else I.ro b,I.xs⟩
 have kL:dp I aK:=by
  refine⟨λ_ _ h=>h,λb o h=>?_,λ_ _ h=>h⟩;show(match I g with|none=>I.ro b|some e=>if b=e.b then w.heap[b]? else I.ro b)=some o;split
  .exact h
  .split
   .exact(hw.ro b o h).1.2
   .exact h
 have fY:∀e,I g=some e->aK.ro e.b=w.heap[e.b]? :=by intro e he;show(match I g with|none=>I.ro e.b|some e2=>if e.b=e2.b then w.heap[e.b]? else I.ro e.b)=_;rw[he];exact aP rfl
 have hR:OX g vs I aK:=by refine⟨kL,λe he=>?_⟩;obtain⟨o,h1,cs,hJ,rfl,h2,h3,h4,h5⟩:=hw.ey g _ e ((eW g).trans hg) he;exact⟨cs,hJ,(0,0),(fY e he).trans h1,by omega,bf.ll kL.pu _ _ h4⟩
 have nA:∀{id ob},(et xx (vr g vs l) n).aR id=some ob->ob.aQ=true->∃dW,(et xx l n).aR id=some dW/\dW.aQ=true/\id≠g:=by
  intro id ob h1 h2;rw[eg]at h1;obtain⟨dW,h3,⟨h4,h5⟩|⟨h4,h5⟩⟩:=Wd h1
  .subst h5;cases h2
  .subst h5;exact⟨dW,(eW id).trans h3,by rwa[aA9]at h2,h4⟩
 have IS:∀n',(et xx (vr g vs l) n).gO n'=(et xx l n).gO n':=wa rfl;refine⟨aK,⟨?_,?_,hw.lt,?_,⟨?_,?_,λa b c d e f h1 h2=>hw.wx.xi a b c d e f ((IS a).symm.trans h1) ((IS b).symm.trans h2),hw.wx.xl⟩⟩,⟨⟨λ_ _=>rfl,kL.ro,kL.xs⟩,.of rfl rfl⟩,hR⟩
 .intro id ob e h1 h2;rw[eg]at h1;obtain⟨dW,h3,⟨h4,h5⟩|⟨h4,h5⟩⟩:=Wd h1
  .subst h5;have hb:=(hw.lt id e h2).1;exact⟨w.heap[e.b]'hb,DQ hb,trivial⟩
  .subst h5;have⟨o,k1,k2⟩:=hw.ey id dW e ((eW id).trans h3) h2;exact⟨o,k1,aBa hR k2⟩
 .intro id ij ob bu e e' h1 l1 h2 h3 l2 h4 hb;have⟨o1,k1,k2,_⟩:=nA h1 l1;have⟨o2,k3,k4,_⟩:=nA h3 l2;exact hw.jx id ij o1 o2 e e' k1 k2 h2 k3 k4 h4 hb
 .intro id ob h1;rw[eg]at h1;have⟨dW,h3,_⟩:=Wd h1;exact hw.nx id dW ((eW id).trans h3)
 .intro b o hb;have aCc:I.ro b=some o\/∃e,I g=some e/\b=e.b/\w.heap[b]? =some o:=by
   have hb:(match I g with|none=>I.ro b|some e=>if b=e.b then w.heap[b]? else I.ro b)=some o:=hb;cases he:I g with
   |none=>rw[he]at hb;exact .inl hb
   |some e=>
    rw[he]at hb;simp only at hb;split at hb;next pH=>exact .inr ⟨e,rfl,pH,hb⟩
    .exact .inl hb
  rcases aCc with hc|⟨e,he,rfl,hc⟩
  .have⟨k1,k2⟩:=hw.ro b o hc;refine⟨k1,λid ob e h1 l1 h2=>?_⟩;have⟨o1,q1,q2,_⟩:=nA h1 l1;exact k2 id o1 e q1 q2 h2
  .refine⟨⟨(hw.lt g e he).2.1,hc⟩,λid ob e' h1 l1 h2 pH=>?_⟩;have⟨o1,q1,q2,q3⟩:=nA h1 l1;exact q3 (hw.jx id g o1 _ e' e q1 q2 h2 ((eW g).trans hg) rfl he pH)
 .intro nn ob h1;have⟨e,o,r1,r2,r3,r4,r5⟩:=hw.wx.xo nn ob ((IS nn).symm.trans h1);refine⟨e,o,r1,r2,r3.s6 kL.pu,?_,λid ob e' h1 l1 h2=>?_⟩
  .show(match I g with|none=>I.ro e.b|some e2=>if e.b=e2.b then w.heap[e.b]? else I.ro e.b)=none;cases he:I g with
   |none=>exact r4
   |some e2=>simp only;rw[aw (λh=>r5 g _ e2 ((eW g).trans hg) rfl he h.symm)];exact r4
  .have⟨o1,q1,q2,_⟩:=nA h1 l1;exact r5 id o1 e' q1 q2 h2
theorem si{P f args H0 v g n l vs el}(h:bC P f args H0 v (et xx l n))(hg:cH l g=some (.au vs el))(cr:H0.br<=n)(rz:jX v=.gJ v:=by rfl):
 bC P f args H0 (fO g vs v) (et xx (vr g vs l) n):=
 Fe h (aq0 hg) cr (λI aK hR x hx=>adt hR hx) rz
def Ft(g:Nat)(vs:List AV):List (Nat×AV)->List (Nat×AV)
 |[]=>[]
 |(s,a)::l=>(s,fO g vs a)::Ft g vs l
theorem anW{g vs i a'}:∀{l},(aJ (Ft g vs l)).bL i=some a'->∃a,(aJ l).bL i=some a/\a'=fO g vs a
 |[],h=>by rw[oA]at h;cases h
 |(s,b)::l,h=>by
  rw[oA]at h;rw[oA];simp only[Ft,BB]at h⊢;by_cases hs:i=s
  .rw[aP hs]at h⊢;cases h;exact⟨b,rfl,rfl⟩
  .rw[aw hs]at h⊢;rw[<-oA]at h⊢;exact anW h
theorem aCi{ds P f nt m0 g n v H1 T l vs el todo}(h:iB ds P f nt m0 v H1 (aJ (Ft g vs T)) (et xx (vr g vs l) n) todo)(hg:cH l g=some (.au vs el))(hp:mf todo=true)(ig:qg m0 ds):iB ds P f nt m0 v H1 (aJ T) (et xx l n) todo:=by refine QK (ig:=ig) h (aq0 hg) hp (λI aK hR i a' hi=>?_);obtain⟨a,h1,rfl⟩:=anW hi;exact⟨a,h1,λx hx=>adt hR hx⟩
theorem Mk{P f nt m0 g n v H1 T l vs el todo}(h:ba P f nt m0 v H1 (aJ (Ft g vs T)) (et xx (vr g vs l) n) todo)(hg:cH l g=some (.au vs el))(hp:mf todo=true:=by kernel_rfl):ba P f nt m0 v H1 (aJ T) (et xx l n) todo:=
 aCi h hg hp (E0 _)
theorem Bm{P f nt m0 v H1 H H2 tmps t todo mG ls ps}(h:ba P f nt m0 v H1 t H2 todo)(hp:mf todo=true:=by kernel_rfl)(hv:nD m0 mG H=some ⟨ps,H2⟩:=by kernel_rfl)(ht:sT (iX ps) tmps ls=some t:=by kernel_rfl):ba P f nt m0 v H1 tmps H todo:=bW.uU hp hv ht h
end
section
theorem WR.conv{I bs H H' w}(hw:WR I bs H w)(hn:H'.br=H.br)(hx:H'.x=H.x)(ho:∀id bu,H'.aR id=some bu->∃ob,H.aR id=some ob/\(bu.aQ=true->ob.aQ=true)/\∀e o,I id=some e->OR I ob e o->OR I bu e o):WR I bs H' w:=by
 refine⟨λid ob e h1 h2=>?_,λid ij ob bu e e' h1 l1 h2 h3 l2 h4 hb=>?_,λid e h=>?_,λid ob h=>?_,hw.uP rfl rfl hx (λ_ _=>rfl) λid ob e h1 l1 h2=>.inl ?_⟩
 .have⟨dW,g1,_,g3⟩:=ho id ob h1;have⟨o,g4,g5⟩:=hw.ey id dW e g1 h2;exact⟨o,g4,g3 e o h2 g5⟩
 .have⟨o1,g1,g2,_⟩:=ho id ob h1;have⟨o2,k1,k2,_⟩:=ho ij bu h3;exact hw.jx id ij o1 o2 e e' g1 (g2 l1) h2 k1 (k2 l2) h4 hb
 .rw[hn];exact hw.lt id e h
 .have⟨dW,g1,_⟩:=ho id ob h;rw[hn];exact hw.nx id dW g1
 .have⟨dW,g1,g2,_⟩:=ho id ob h1;exact⟨id,dW,e,g1,g2 l1,h2,rfl⟩
mutual
def GY(g c:Nat):AV->AV
 |.aa id off=>bif Nat.beq id g then .ei c off else .aa id off
 |.aj cs=>.aj (Av g c cs)
 |.aL cs=>.aL (Av g c cs)
 |a=>a
def Av(g c:Nat):List AV->List AV
 |[]=>[]
 |a::l=>GY g c a::Av g c l
end
def KI(g c:Nat)(I aK:bZ):Prop:=dp I aK/\∀e,I g=some e->aK.xs c=some e
mutual
theorem avk{g c:Nat}{I aK:bZ}(h:KI g c I aK):∀{a:AV} {v:Value},VR I a v->VR aK (GY g c a) v
 |.aa id off,v,hv=>by
  simp only[GY];cases hb:Nat.beq id g
  .exact VR.d_ h.1 _ _ hv
  .have:id=g:=dN hb;subst this;obtain⟨e,h1,h2⟩:=hv;exact⟨e,h.2 e h1,h2⟩
 |.aj cs,v,hv=>by obtain⟨cs',rfl,h1⟩:=hv;exact⟨cs',rfl,Z3 h h1⟩
 |.aL cs,v,hv=>by obtain⟨cs',rfl,h1⟩:=hv;exact⟨cs',rfl,Z3 h h1⟩
 |.ai _,v,hv=>VR.d_ h.1 _ _ hv
 |.bD ..,v,hv=>VR.d_ h.1 _ _ hv
 |.ao _,v,hv=>VR.d_ h.1 _ _ hv
 |.kZ,v,hv=>VR.d_ h.1 _ _ hv
 |.bK ..,v,hv=>VR.d_ h.1 _ _ hv
 |.aM,v,hv=>VR.d_ h.1 _ _ hv
 |.aS _,v,hv=>VR.d_ h.1 _ _ hv
 |.oz,v,hv=>VR.d_ h.1 _ _ hv
 |.cw ..,v,hv=>VR.d_ h.1 _ _ hv
 |.ib _,v,hv=>VR.d_ h.1 _ _ hv
 |.rV,v,hv=>VR.d_ h.1 _ _ hv
 |.ep ..,v,hv=>VR.d_ h.1 _ _ hv
 |.ml,v,hv=>VR.d_ h.1 _ _ hv
 |.yk _,v,hv=>VR.d_ h.1 _ _ hv
 |.aq ..,v,hv=>VR.d_ h.1 _ _ hv
 |.qI _,v,hv=>VR.d_ h.1 _ _ hv
 |.ad ..,v,hv=>VR.d_ h.1 _ _ hv
 |.ei ..,v,hv=>VR.d_ h.1 _ _ hv
 |.gV ..,v,hv=>VR.d_ h.1 _ _ hv
 |.tb,v,hv=>VR.d_ h.1 _ _ hv
 |.xG ..,v,hv=>VR.d_ h.1 _ _ hv
 |.dI _,v,hv=>VR.d_ h.1 _ _ hv
theorem Z3{g c:Nat}{I aK:bZ}(h:KI g c I aK):∀{l:List AV} {m:List Value},bf I l m->bf aK (Av g c l) m
 |[],m,hv=>by simpa[bf,Av]using hv
 |a::l,m,hv=>by simp only[bf,Av]at hv⊢;obtain⟨v,m',h1,h2,h3⟩:=hv;exact⟨v,m',h1,avk h h2,Z3 h h3⟩
end
theorem aOH(g c a):(GY g c a).dH=a.dH:=by
 cases a<;>try rfl
 rename_i id off;simp only[GY];cases Nat.beq id g<;>rfl
theorem avl(g c):∀l:List AV,(Av g c l).length=l.length/\(Av g c l).all AV.dH=l.all AV.dH
 |[]=>aA
 |a::l=>by have:=avl g c l;exact⟨by simp[Av,this.1],by simp[Av,this.2,aOH]⟩
def NK(g c:Nat):aO->aO
 |.ah cs e=>.ah (Av g c cs) e
 |o=>o
def JQ(g c:Nat):List (Nat×aO)->List (Nat×aO)
 |[]=>[]
 |(s,a)::l=>(s,bif Nat.beq s g then .bg []else NK g c a)::JQ g c l
theorem aOJ{g c I aK}(h:KI g c I aK){ob e o}(ho:OR I ob e o):OR aK (NK g c ob) e o:=by
 unfold NK;split;next cs lJ=>have⟨cs',el,h1,h2,h3,h4,h5⟩:=ho;have hl:=avl g c cs;exact⟨cs',el,h1,h2,by rw[hl.1];exact h3,by rw[hl.1];exact Z3 h h4,by rw[hl.2];exact h5⟩
 .exact ho.s6 h.1
theorem aOI(g c ob):(NK g c ob).aQ=ob.aQ:=by unfold NK;split<;>rfl
theorem avm{g c}:∀{l id bu},cH (JQ g c l) id=some bu->∃ob,cH l id=some ob/\((id=g/\bu=.bg [])\/(id≠g/\bu=NK g c ob))
 |[],id,bu,h=>by cases h
 |(s,a)::l,id,bu,h=>by
  simp only[JQ,cH]at h⊢;by_cases hi:id=s
  .subst hi;rw[aP rfl]at h⊢;cases h;refine⟨a,rfl,?_⟩;cases hb:Nat.beq id g
   .exact .inr ⟨(λe=>by rw[e,j4]at hb;cases hb),rfl⟩
   .exact .inl ⟨dN hb,rfl⟩
  .rw[aw hi]at h⊢;exact avm h
def Ce(X:Nat->Option aO)(c:Nat)(ob:aO):Nat->Option aO:=λi=>bif Nat.beq i c then some ob else X i
theorem aOC{I bs w X c g n l vs el e}(m0)(hg:cH l g=some (.ah vs el))(hp:vs.all f_=true)(hw:WR I bs (cC X c l n) w)(he:I g=some e):∃aK,WR aK bs (cC (Ce X c (.ah vs el)) (c+1) (JQ g c l) n) w/\(jG m0 I aK/\oj I (cC X c l n) aK (cC (Ce X c (.ah vs el)) (c+1) (JQ g c l) n))/\KI g c I aK:=by
 have eW:∀id,(cC X c l n).aR id=cH l id:=eg l n;have⟨aK,h1,h2,h3⟩:=hw.aaT ((eW g).trans hg) rfl he (λ⟨cs,hJ,a,b,d,f,h⟩=>⟨cs,hJ,a,b,d,bf.xU _ _ (by rw[xu];exact hp) f,h⟩) rfl (m:=m0);have hR:KI g c I aK:=⟨h3.1,λe' kU=>by rw[he]at kU;cases kU;exact h1⟩;have hR':KI g c aK aK:=⟨dp.refl _,λe' kU=>by rw[h3.1 g e he]at kU;cases kU;exact h1⟩;refine⟨aK,h2.conv rfl rfl λid bu ho=>?_,⟨h3.ag,⟨by constructor<;>(intro h;cases h),λh=>by cases h⟩⟩,hR⟩;have ho:cH (JQ g c l) id=some bu:=by rw[<-ho];exact(eg _ n id).symm
 obtain⟨ob,k1,⟨k2,rfl⟩|⟨k2,rfl⟩⟩:=avm ho
 .refine⟨.bg [],?_,λh=>h,λ_ _ _ h=>h⟩;show((cC X c l n).cE g (.bg [])).aR id=_;rw[pV,aP k2]
 .refine⟨ob,?_,λh=>by rwa[aOI]at h,λe' o _ h=>aOJ hR' h⟩;show((cC X c l n).cE g (.bg [])).aR id=_;rw[pV,aw k2];exact(eW id).trans k1
theorem aCn{ds P f nt m0 v H1 t t' todo X c g n l vs el s off}(h:iB ds P f nt m0 v H1 t' (cC (Ce X c (.ah vs el)) (c+1) (JQ g c l) n) todo)(hg:cH l g=some (.ah vs el))(hp:vs.all f_=true)(hs:t.bL s=some (.aa g off))(hi:mf todo=true)(ht:∀i a',t'.bL i=some a'->∃a,t.bL i=some a/\a'=GY g c a)(ig:qg m0 ds):iB ds P f nt m0 v H1 t (cC X c l n) todo:=by
 have⟨r,hq,hr⟩:=h;refine⟨r,hq,λI w bs cf cs cr hw hl hf=>?_⟩;have⟨b,a,SV,e1,e2,e3⟩:=hf;have⟨x,h3,e,he,_⟩:=e2.tr.2 s _ hs;have⟨lU,k1,k2,k3⟩:=aOC m0 hg hp hw he;have ql:wv lU (fZ ds none f nt t' todo) cf:=by
  refine⟨b,a,SV,e1,⟨e2.fn,⟨e2.tr.1,λi a' ha=>?_⟩,?_,e2.kD,e2.lD,e2.qX⟩,Uh hi e3⟩
  .obtain⟨a0,h1,rfl⟩:=ht i a' ha;have⟨x,h3,h4⟩:=e2.tr.2 i a0 h1;exact⟨x,h3,avk k3 h4⟩
  .exact EC k2.1 ig e2.dr
 have⟨aK,w',g1,g2,g3,g4⟩:=hr lU w bs cf cs cr k1 hl ql;exact⟨aK,w',g1,k2.1.sZ g2,⟨g3.1,k2.2.rX g3.2⟩,g4⟩
theorem Yj{m0 g n c l l'}(hg:cH l g=some (.bI [] c false))(hl:∀id,cH l' id=if id=g then some (.bI [] c true)else cH l id){xx}:
 mr m0 (et xx l n) (et xx l' n) (λI aK=>aK=I):=by
 refine⟨ct n,λI bs w cr hw=>⟨I,hw.conv rfl rfl λid bu ho=>?_,⟨jG.CA _ _,.of rfl rfl⟩,rfl⟩⟩;rw[eg,hl]at ho;rw[eg];by_cases hi:id=g
 .rw[aP hi]at ho;cases ho;subst hi;exact⟨_,hg,λ_=>rfl,λe o _ ⟨es,h1,h2,_⟩=>⟨es,h1,h2,λ_=>h2⟩⟩
 .rw[aw hi]at ho;exact⟨bu,ho,λh=>h,λ_ _ _ h=>h⟩
end
section
variable{P:Program}{S:aX}
def Fv(P:Program)(call:uo):Nat->gw->AH->kF
 |0,fr,H=>.go fr H
 |n+1,fr,H=>match kN P call fr H with
  |.go fr' H'=>Fv P call n fr' H'
  |r=>r
theorem bW.Fy{m0 call}(cJ:P.follows .mixedOrders=true)(hc:nJ P call){Q}:∀{n fr fr' H H'},(∀i zx H2,i<n->Fv P call i fr H=.go zx H2->zx.up=none)->Fv P call n fr H=.go fr' H'->bW P m0 fr' H' Q->bW P m0 fr H Q
 |0,fr,fr',H,H',_,h,ht=>by cases h;exact ht
 |n+1,fr,fr',H,H',hu,h,ht=>by
  simp only[Fv]at h;split at h;next fr1 H1 hs=>refine bW.jw cJ hc (hu 0 fr H (by omega) rfl) hs (bW.Fy cJ hc (λi zx H2 hi h2=>hu (i+1) zx H2 (by omega) (by simp only[Fv,hs];exact h2)) h ht)
  next hn=>
   cases hr:kN P call fr H with
   |go a b=>exact absurd hr (hn a b)
   |CC r=>rw[hr]at h;cases h
   |eO w=>rw[hr]at h;cases h
theorem ax4{ds fn nt m0 aQ LR Q}(cJ:P.follows .mixedOrders=true)(hc:nJ P (lW S))(ig:qg m0 ds)(hLR:∀t H,LR t H->bW P m0 ⟨fn,t,nt,[],ds,.jR,none,none⟩ H Q):Pj P S ds none fn nt m0 Q (λ_=>acd m0 aQ LR):=by
 intro b tmps todo H h hs;rw[aeW]at hs;unfold acd at h;split at h;next ps H2 hv=>
  split at h;next t ht=>exact bW.jw cJ hc rfl hs (bW.aOd hv ht (hLR _ _ h) ig)
  .cases h
 .cases h
theorem ax3{ds fn nt m0 aQ LP Q}(ig:qg m0 ds)(hLP:∀x t H,LP x t H->bW P m0 ⟨fn,t,nt,[],ds,.mj [(x,false)],none,none⟩ H Q):abv P ds none fn nt m0 Q (aca m0 aQ LP):=by
 intro x H tmps todo h;unfold aca at h;split at h;next ps H2 hv=>
  split at h;next y t hy ht=>exact bW.aOc hv hy ht (hLP _ _ _ h) ig
  .cases h
 .cases h
theorem QJ(cJ:P.follows .mixedOrders=true)(hS:aF P S){ds aQ n f nt m0 t todo H Q LR LP}(ig:qg m0 ds)(nV:(P.funcs[f]?).map (·.ntmps)=some nt)(hLR:∀t H,LR t H->bW P m0 ⟨f,t,nt,[],ds,.jR,none,none⟩ H Q)(hLP:∀x t H,LP x t H->bW P m0 ⟨f,t,nt,[],ds,.mj [(x,false)],none,none⟩ H Q)(h:Nq P S aQ (λt H todo=>bW P m0 (fZ ds none f nt t todo) H Q) LR LP n f m0 t todo H):bW P m0 (fZ ds none f nt t todo) H Q:=by
 unfold Nq at h;split at h;next fn jY=>rw[jY]at nV;simp at nV;subst nV;exact Jy (rd:=none) cJ (rb hS) ig trivial (ax4 cJ (rb hS) ig hLR) (ax3 ig hLP) (λ_ _ _ h=>h) n h
 .cases h
theorem bW.qZ(cJ:P.follows .mixedOrders=true)(hc:nJ P (lW S)){fn nt m0 Q tmps todo H}(h:qZ P fn m0 Q tmps H):bW P m0 ⟨fn,tmps,nt,todo,[],.jR,none,none⟩ H (rK Q):=by
 unfold Ev.qZ at h;split at h;next f hf=>
  split at h;next l hl=>refine agr (fn:=fn) (nt:=nt) rfl h ?_;refine bW.OJ cJ hc rfl ?_ rfl;simp only[kN,GL,M_,hf,hl]
  .cases h
 .cases h
def KY:List dQ->List dQ
 |.gW ops i (_::l)::k=>.gW ops (Nat.succ i) l::k
 |t=>t
def V2(P:Program)(n:Nat):uo:=⟨run P RQ n,RQ⟩
theorem Fi(cJ:P.follows .mixedOrders=true)(n):nJ P (V2 P n):=⟨Zd cJ afA n,afA⟩
end
section
section
variable{P:Program}{I:bZ}{base:fM}{m:Nat}{H:AH}{w:World}{O:Operand->Option AV}{ev:Operand->Value}
theorem dK.nth:∀{es ms},dK I es ms->∀{i:Nat} {x},ms[i]? =some x->∃e,es[i]? =some e/\VR I e.1 x.key/\VR I e.2.1 x.val/\x.born=e.2.2
 |[],_,h,i,x,hi=>by simp only[dK]at h;subst h;simp at hi
 |(k,v,b)::es,_,h,i,x,hi=>by
  obtain⟨y,ms,rfl,h1,h2,h3,h4⟩:=h;cases i with
  |zero=>simp at hi;subst hi;exact⟨_,rfl,h1,h2,h3⟩
  |succ i=>exact dK.nth h4 hi
theorem aEL(hw:WR I base H w){r mm since last clock seen es er em T}(hr:H.aR r=some (.iZ (some mm) since seen last))(pJ:I r=some er){p}(ho:H.aR mm=some (.bI es clock p))(wT:I mm=some em)(hc:(!seen.isEmpty&& !es.isEmpty&&es.all (λe=>Nat.ble last e.2.2))=false)(h2l:2<=(es.filter λe=> !seen.any (Nat.beq e.2.2)).length)(tv:(es.filter λe=> !seen.any (Nat.beq e.2.2)).all (λe=>Nat.ble (e.2.2+1) since)=true):
 ∃e∈es.filter (λe=> !seen.any (Nat.beq e.2.2)),
  eL P m base I H w (do pure (.value (<-Instr.next (.pointer (some ⟨er.b,0,none⟩)) false T)):Sem Next) (.aL [.ai true,e.1,e.2.1]) (H.cE r (.iZ (some mm) since (seen++[e.2.2]) clock)):=by
 obtain⟨o,hg,m',rfl,adZ,zL⟩:=hw.ey r _ er hr pJ;obtain⟨e',kU,rfl⟩:=zL;rw[wT]at kU;cases kU;obtain⟨o2,tz,bF,rfl,jM,-⟩:=hw.ey mm _ em ho wT;have h1:=so (P:=P) hg rfl;have h2:=so (P:=P) tz rfl;have zD:(!seen.toArray.isEmpty&& !bF.isEmpty&&bF.all (λx=>decide (x.born>=last)))=false:=by
  have e1:seen.toArray.isEmpty=seen.isEmpty:=by cases seen<;>rfl
  have e2:bF.isEmpty=es.isEmpty:=by have:=jM.OH;cases es<;>cases bF<;>rename_i l<;>cases l<;>simp at this⊢
  have e3:bF.all (λx=>decide (x.born>=last))=es.all (λe=>Nat.ble last e.2.2):=by rw[<-jM.all (λb=>Nat.ble last b),<-Array.all_toList];congr 1;funext x;rw[sL];simp
  rw[e1,e2,e3];exact hc
 have zJ:dK I (es.filter λe=> !seen.any (Nat.beq e.2.2)) (bF.filter λe=> !seen.toArray.contains e.born).toList:=by
  have:=jM.aaR (λb=> !seen.any (Nat.beq b));rw[Array.toList_filter];have e:(λ(e:MapEntry)=> !seen.toArray.contains e.born)=(λx=>(λb=> !seen.any (Nat.beq b)) x.born):=by simp only[atl]
  rw[e];exact this
 generalize es.filter (λe=> !seen.any (Nat.beq e.2.2))=left at h2l tv zJ⊢;generalize hL:bF.filter (λe=> !seen.toArray.contains e.born)=l_ at zJ;have bB:left.length=l_.size:=by have:=zJ.OH;simpa using this
 have aoI:∀x∈l_.toList,x.born<since:=by intro x hx;have⟨i,hi⟩:=List.getElem?_of_mem hx;have⟨e,h3,_,_,h4⟩:=dK.nth zJ hi;have:=oC.1 tv e (Nk h3);have:=qA this;omega
 have o1:l_.filter (λe=>decide (e.born<since))=l_:=by rw[Array.filter_eq_self];intro x hx;simpa using aoI x (by simpa using hx)
 have o2:l_.filter (λe=>decide (e.born>=since))= #[]:=by rw[Array.filter_eq_empty_iff];intro x hx;have:=aoI x (by simpa using hx);simp;omega
 have ae:w.tape w.drawn (.mapNext l_.size)%l_.size<l_.size:=Nat.mod_lt _ (by omega);generalize hj:w.tape w.drawn (.mapNext l_.size)%l_.size=j at ae;have hx:l_.toList[j]? =some l_[j]:=by simp[ae]
 have⟨e,h3,h4,h5,h6⟩:=dK.nth zJ hx;have hwd:WR I base H w.drew:=hw.sM rfl;have⟨w',b1,b2,b3⟩:=hwd.Ea (P:=P) (bu:=.iZ (some mm) since (seen++[e.2.2]) clock) hr rfl pJ hg rfl
  ⟨some em.b,rfl,adZ,em,wT,rfl⟩
 refine⟨e,Nk h3,eL.of (v':=.tuple #[.bool true,l_[j].key,l_[j].val]) ?_ (ahd (by simp[VR]) h4 h5) b2 (cz.p_ pJ _) ((cM.sM rfl).um b3)⟩;have hf:(Question.mapNext l_.size).forced=false:=by show decide (l_.size<=1)=false;simp;omega
 have cx:l_≠ #[]:=by intro h0;subst h0;simp at ae
 have b1':(setObj er.b (.mapIter (some em.b) since (seen++[l_[j].born]).toArray clock)).run P w.drew=.ok () w':=by rw[<-b1,h6]
 simp only[Instr.next,Sem.run_bind,h1,Result.andThen_ok,h2,zD,hL,o1,o2];simp[cx,hf,ae,Question.cut,hj];rw[b1'];rfl
end
variable{P:Program}
def qt(es:List (AV×AV×Nat))(seen:LN):List (AV×AV×Nat):=es.filter λe=> !seen.any (Nat.beq e.2.2)
theorem afv(cJ:P.follows .mixedOrders=true){ds m0 f nt d r mm since last clock i seen es p t ops o rest k it H H1 v}(ox:o.op=.next it false)(hg:o.guard=none)(hd:o.dst=some d)(hdn:Nat.ble (d+1) nt=true)(hx:iC t it=some (.aa r 0))(hr:H.aR r=some (.iZ (some mm) since seen last))(ho:H.aR mm=some (.bI es clock p))(hc:(!seen.isEmpty&& !es.isEmpty&&es.all (λe=>Nat.ble last e.2.2))=false)(fw:∀e∈es,e.2.2<since)(h0:qt es seen=[]->iB ds P f nt m0 v H1 (t.fB d (.aL [.ai false])) H (.gW ops (Nat.succ i) rest::k))(h1:∀e∈qt es seen,iB ds P f nt m0 v H1 (t.fB d (.aL [.ai true,e.1,e.2.1])) (H.cE r (.iZ (some mm) since (seen++[e.2.2]) clock)) (.gW ops (Nat.succ i) rest::k)):
 iB ds P f nt m0 v H1 t H (.gW ops i (o::rest)::k):=by
 have IA:=Fi cJ 0;have auk:∀{x:AV} {H2:AH},MY H r mm since seen last es clock=some (.gQ x H2)->kN P ⟨λ_ _=>none,RQ⟩ (fZ ds none f nt t (.gW ops i (o::rest)::k)) H=.go (fZ ds none f nt (t.fB d x) (.gW ops (Nat.succ i) rest::k)) H2:=by
  intro x H2 hn;have FQ:L9 (iC t) H it false=some (.gQ x H2):=by simp only[L9,hx,afu,hr,ho,hn]
  simp only[fZ,kN,sP,ub,BV,n_,hg,ox,qp,uD,ot,FQ,cond_true,cond_false,Ak,lI,BT,tS,pZ,hd,hdn]
 have Rd:∀e∈qt es seen,Nat.ble (e.2.2+1) since=true:=λe he=>Nat.ble_eq_true_of_le (fw e (xz.1 he).1)
 cases hl:qt es seen with
 |nil=>refine bW.jw cJ IA rfl (auk ?_) (h0 hl);unfold qt at hl;simp only[MY,hc,cond_false,hl,RZ]
 |cons e l=>
  cases l with
  |nil=>
   have he:e∈qt es seen:=by rw[hl];exact dk ..
   refine bW.jw cJ IA rfl (auk ?_) (h1 e he);have h2:=Rd e he;unfold qt at hl;simp only[MY,hc,cond_false,hl,h2,cond_true]
  |cons e2 l=>
   have he:e∈qt es seen:=by rw[hl];exact dk ..
   have⟨r0,hq0,hr0⟩:=h1 e he;refine⟨r0,hq0,λI w bs cf cs hm hw hb hf=>?_⟩;have aCV:∀{a b:mL},rK (fD v H1) a->rK (fD v H1) b->a=b:=by rintro⟨a1,a2,a3⟩ ⟨b1,b2,b3⟩ ⟨v1,q1,q2,q3,q4⟩ ⟨v2,q5,q6,q7,q8⟩;simp only at q1 q2 q4 q5 q6 q8;subst q3 q7;rw[q1,q2,q4,q5,q6,q8]
   obtain⟨b,a,todo,rfl,hf,h2⟩:=hf;obtain⟨y,ks,rfl,⟨rfl,IB⟩,h4⟩:=h2;have⟨hoo,aed⟩:=atp IB;have w_:=hf.tr;have Ds:kE I (.gW ops (Nat.succ i) rest::k) (.inRegion ops (List.range' (i+1) rest.length)::ks):=⟨_,_,rfl,⟨rfl,aed⟩,h4⟩;have wZ:oN I (iC t) a.eval o.op.operands.toList:=TR.xD w_ _;have⟨e3,IC,hv⟩:=wZ.of (by rw[ox];simp[Op.operands]) hx;obtain⟨o3,hg3,m',rfl,h00,em,wT,_⟩:=hw.ey r _ e3 hr IC;have qn:Region.wanted o (yielded ops a.tmps)=true:=ahp (by simp only[n_,hg]) λg rO d x _ _ hx=>w_.2 d x hx
   have⟨x,Bv,aK,w',v',g1,g2,g3,g4,g5⟩:=aEL (P:=P) (m:=m0) (T:=o.type) hw hr IC ho wT hc (by show 2<=(qt es seen).length;rw[hl];simp) (oC.2 Rd);have⟨r1,IK,rA⟩:=h1 x Bv;have:=aCV hq0 IK;subst this;rw[show(o::rest).length=rest.length+1 from rfl,List.range'_succ];have hso:lF P m0 bs I H w (fZ ds none f nt t (.gW ops i (o::rest)::k)) (b.atR a (.inRegion ops (i::List.range' (i+1) rest.length)::ks)) cs (tS (fZ ds none f nt t (.gW ops i (o::rest)::k)) o (.gW ops (Nat.succ i) rest::k) (.aL [.ai true,x.1,x.2.1]) (H.cE r (.iZ (some mm) since (seen++[x.2.2]) clock))):=by
    refine RV rfl (.one (Nt hoo qn ?_)) (hf.CB g4.1) g2 (Ds.OI g4.1) g3 g4 g5 trivial;rw[BR _ _ (by rw[ox];intro c hcx;cases hcx)];have hev:a.eval it=.pointer (some ⟨e3.b,0,none⟩):=by rw[hv,h00]
    rw[<-hev]at g1;have hx':execOp a.eval o=(do pure (.value (<-Instr.next (a.eval it) false o.type)):Sem Next):=by simp only[execOp,ox]
    rw[hx'];exact g1
   have o0:tS (fZ ds none f nt t (.gW ops i (o::rest)::k)) o (.gW ops (Nat.succ i) rest::k) (.aL [.ai true,x.1,x.2.1]) (H.cE r (.iZ (some mm) since (seen++[x.2.2]) clock))=.go (fZ ds none f nt (t.fB d (.aL [.ai true,x.1,x.2.1])) (.gW ops (Nat.succ i) rest::k)) (H.cE r (.iZ (some mm) since (seen++[x.2.2]) clock)):=by simp only[tS,fZ,pZ,hd,hdn,cond_true]
   rw[o0]at hso;have⟨aK,w',kI,mS,g1,g2,g3,g4,g5,g6,g7,g8,g9,Qe⟩:=hso;have gA:=g4;subst gA;have⟨kC,w1,k1,k2,k3,k4⟩:=rA aK w' bs kI mS (lz hm g8.2.1) g7 (hb.Hr g9.1) g2;exact⟨kC,w1,k1,g8.ag.sZ k2,⟨g9.um k3.1,g8.2.2.2.rX k3.2⟩,qW.after g1 Qe k4⟩
end
end
end Go.Ev
