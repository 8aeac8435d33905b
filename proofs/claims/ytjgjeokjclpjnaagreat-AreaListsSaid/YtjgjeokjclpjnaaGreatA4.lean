/- Part of a proof of AreaLists. -/
import Derived.Test.YtjgjeokjclpjnaaGreatA3
set_option linter.all false
set_option linter.unusedSectionVars false
namespace Go.Ev
noncomputable section
section
def iz:List (Nat×Nat)->Nat->Option Nat
 |[],_=>none
 |(o,n)::l,a=>bif Nat.beq o a then some n else iz l a
def yQ:List (Nat×Nat)->Nat->Option Nat
 |[],_=>none
 |(o,n)::l,c=>bif Nat.beq n c then some o else yQ l c
mutual
def vo:AV->LN
 |.aa id _=>[id]
 |.bq id _ _ _ _ _=>[id]
 |.aA id=>[id]
 |.gz id=>[id]
 |.ai id _ _=>[id]
 |.ba _ f c=>BX f++BX c
 |.dT _ v=>vo v
 |.ah cs=>BX cs
 |.aC cs=>BX cs
 |.dH a=>vo a
 |_=>[]
def BX:LV->LN
 |[]=>[]
 |a::l=>vo a++BX l
end
def ahQ:List (AV×AV×Nat)->LN
 |[]=>[]
 |(k,v,_)::l=>vo k++vo v++ahQ l
def Y6:Tr AV->LN
 |.gZ=>[]
 |.fU v l r=>(match v with|some a=>vo a|none=>[])++Y6 l++Y6 r
def n6:bk->LN
 |.aj vs _=>BX vs
 |.gK _ _ _ t _ _ _ _ d=>d::Y6 t
 |.bm es _ p=>bif p then[]else ahQ es
 |.je m _ _ _=>(match m with|some id=>[id]|none=>[])
 |_=>[]
section CK
variable(r:Nat->Option Nat)
mutual
def eC:AV->Option AV
 |.aa id off=>match r id with|some c=>some (.aa c off)|none=>none
 |.bq id off len cap sz ex=>match r id with
  |some c=>match ex,cap with
   |false,1=>(match off with|0=>some (.ai c len sz)|_+1=>some (.bq c off len cap sz ex))
   |_,_=>some (.bq c off len cap sz ex)
  |none=>none
 |.aA id=>match r id with|some c=>some (.aA c)|none=>none
 |.gz id=>match r id with|some c=>some (.gz c)|none=>none
 |.ai id len sz=>match r id with|some c=>some (.ai c len sz)|none=>none
 |.ba fn f c=>match j8 f,j8 c with|some f',some c'=>some (.ba fn f' c')|_,_=>none
 |.dT t v=>match eC v with|some v'=>some (.dT t v')|none=>none
 |.ah cs=>match j8 cs with|some l=>some (.ah l)|none=>none
 |.aC cs=>match j8 cs with|some l=>some (.aC l)|none=>none
 |.dH a=>match eC a with|some b=>some (.dH b)|none=>none
 |a=>some a
def j8:LV->Option LV
 |[]=>some []
 |a::l=>match eC a with
  |some a'=>match j8 l with
   |some l'=>some (a'::l')
   |none=>none
  |none=>none
end
def So:List (AV×AV×Nat)->Option (List (AV×AV×Nat))
 |[]=>some []
 |(k,v,b)::l=>match eC r k,eC r v,So l with
  |some k',some v',some l'=>some ((k',v',b)::l')
  |_,_,_=>none
def M5:Tr AV->Option (Tr AV)
 |.gZ=>some .gZ
 |.fU v a b=>match M5 a,M5 b with
  |some a',some b'=>(match v with
   |none=>some (.fU none a' b')
   |some x=>match eC r x with|some x'=>some (.fU (some x') a' b')|none=>none)
  |_,_=>none
def lD:bk->Option bk
 |.gK st p fn t nt ps a b d=>match M5 r t,r d with
  |some t',some d'=>some (.gK st p fn t' nt ps a b d')
  |_,_=>none
 |.aj vs e=>match j8 r vs with|some l=>some (.aj l e)|none=>none
 |.bm es c p=>bif p then some (.bm es c p)else match So r es with|some l=>some (.bm l c p)|none=>none
 |.dR vs e=>some (.dR vs e)
 |.ay vs e=>some (.ay vs e)
 |.bc _=>some (.bc [])
 |.tp s p=>some (.tp s p)
 |.je m since bE st=>(match m with
  |some id=>(match r id with|some g_=>some (.je (some g_) since bE st)|none=>none)
  |none=>some (.je none since bE st))
 |.pB ds=>(match ds with|none=>some (.pB none)|some []=>some (.pB (some []))|_=>none)
end CK
def ajB(H:AH)(id:Nat):LN:=
 match H.bf id with
 |some o=>n6 o
 |none=>[]
def Sn(H:AH)(m0:Nat):Nat->LN->List (Nat×Nat)->Nat->List (Nat×Nat)×Nat
 |0,_,ps,n=>(ps,n)
 |_+1,[],ps,n=>(ps,n)
 |f+1,id::q,ps,n=>match iz ps id with
  |some _=>Sn H m0 f q ps n
  |none=>bif Nat.ble (id+1) m0 then Sn H m0 f (q++ajB H id) (ps++[(id,id)]) n
   else Sn H m0 f (q++ajB H id) (ps++[(id,n)]) (Nat.succ n)
def C'(r:Nat->Option Nat)(H:AH):List (Nat×Nat)->Tr bk->Option (Tr bk)
 |[],t=>some t
 |(o,n)::l,t=>match H.bf o with
  |none=>C' r H l t
  |some ob=>match lD r ob with
   |some bB=>C' r H l (t.fV n bB)
   |none=>none
def aad(ps:List (Nat×Nat))(n:Nat):Bool:=
 wY (ps.map (·.1))&&wY (ps.map (·.2))&&ps.all λp=>Nat.ble (p.2+1) n
def atv(ps:List (Nat×Nat))(m0:Nat):Bool:=
 (List.range m0).all λi=>match yQ ps i with|some j=>Nat.beq i j|none=>false
structure Vw where
 ps:List (Nat×Nat)
 H:AH
def l9(m0:Nat)(oh:LN)(H:AH):Option Vw:=
 match Sn H m0 1000 (List.range m0++oh) [] m0 with
 |(ps,n)=>bif aad ps n&&atv ps m0 then
    match C' (iz ps) H ps .gZ with
    |some t=>some ⟨ps,⟨t,n,H.x⟩⟩
    |none=>none
  else none
def FI(tmps:Tr AV):LN->LN
 |[]=>[]
 |s::l=>match tmps.bT s with
  |some a=>vo a++FI tmps l
  |none=>FI tmps l
def qJ(r:Nat->Option Nat)(tmps:Tr AV):LN->Option (Tr AV)
 |[]=>some .gZ
 |s::l=>match qJ r tmps l with
  |none=>none
  |some t=>match tmps.bT s with
   |some a=>match eC r a with
    |some a'=>some (t.fV s a')
    |none=>none
   |none=>some t
abbrev F':=FuncId->LV->AH->Option (Prop×AV×AH)
inductive Sp:Type 1 where
 |zC (x:Prop×AV×AH)
 |ex (W:Type) (g:W->Prop×AV×AH) (u:∀w w',(g w).1->(g w').1->(g w).2=(g w').2)
 |PJ (W:Bool->Type) (g:(b:Bool)->W b->Prop×AV×AH) (u:∀b w b' w',(g b w).1->(g b' w').1->(g b w).2=(g b' w').2)
abbrev bo:=FuncId->LV->AH->Option Sp
def sC:Sp->Option (Prop×AV×AH)
 |.zC x=>some x
 |.ex W g _=> @dite _ (∃w,(g w).1) (Classical.propDecidable _) (λh=>some (g h.choose)) (λ_=>none)
 |.PJ W g _=> @dite _ (∃p:(b:Bool)×W b,(g p.1 p.2).1) (Classical.propDecidable _) (λh=>some (g h.choose.1 h.choose.2)) (λ_=>none)
def oS(S:bo):F':=λf args H=>
 match S f args H with
 |some sp=>sC sp
 |none=>none
def xY(ps:List (Nat×Nat))(k next:Nat)(i:Nat):Option Nat:=
 bif Nat.ble (i+1) k then yQ ps i else some (next+(i-k))
def zv(r:Nat->Option Nat)(Hs:AH):List (Nat×Nat)->Tr bk->Option (Tr bk)
 |[],t=>some t
 |(o,n)::l,t=>match Hs.bf n with
  |none=>zv r Hs l (t.fV o (.bc []))
  |some ob=>match lD r ob with
   |some bB=>zv r Hs l (t.fV o bB)
   |none=>none
def GA(r:Nat->Option Nat)(Hs:AH)(k next:Nat):Nat->Tr bk->Option (Tr bk)
 |0,t=>some t
 |j+1,t=>match GA r Hs k next j t with
  |none=>none
  |some t'=>match Hs.bf (k+j)with
   |none=>some t'
   |some ob=>match lD r ob with
    |some bB=>some (t'.fV (next+j) bB)
    |none=>none
def aEU:Option bk->Bool
 |some (.ay ..)=>true
 |_=>false
mutual
def kO:AV->LN
 |.aa id _=>[id]
 |.bq id _ _ _ _ _=>[id]
 |.aA id=>[id]
 |.gz id=>[id]
 |.ba _ f c=>sP f++sP c
 |.dT _ v=>kO v
 |.ah cs=>sP cs
 |.aC cs=>sP cs
 |_=>[]
def sP:LV->LN
 |[]=>[]
 |a::l=>kO a++sP l
end
def Lk:Tr AV->LN
 |.gZ=>[]
 |.fU v l r=>(match v with|some a=>kO a|none=>[])++Lk l++Lk r
def agZ:Option bk->LN
 |some (.aj vs _)=>sP vs
 |some (.gK _ _ _ t _ _ _ _ d)=>d::Lk t
 |_=>[]
def IM(H:AH):LN->List (Nat×Nat)->Bool
 |_,[]=>true
 |hd,(o,_)::l=>match H.bf o with
  |some (.ay ..)=>IM H hd l
  |some (.bc _)=>false
  |none=>false
  |ob=>bif hd.any (Nat.beq o)then IM H (hd++agZ ob) l else false
structure TY where
 bn:Prop
 v:AV
 H:AH
def uq(ps:List (Nat×Nat))(k:Nat)(H:AH)(xb:Bool):Prop×AV×AH->Option TY
 |(p,v,Hs)=>match Hs,H with
  |⟨hs,ns,xs⟩,⟨h,next,x⟩=>
   bif Nat.ble k ns then
    match eC (xY ps k next) v,zv (xY ps k next) ⟨hs,ns,xs⟩ ps h with
    |some v',some t=>match GA (xY ps k next) ⟨hs,ns,xs⟩ k next (ns-k) t with
     |some t'=>some ⟨p,v',⟨t',next+(ns-k),bif xb then xs else x⟩⟩
     |none=>none
    |_,_=>none
   else none
def L9(S:F')(f:FuncId)(args:LV)(H:AH):Option TY:=
 match l9 0 (BX args) H with
 |none=>none
 |some ⟨ps,⟨t,n,x⟩⟩=>bif IM H (sP args) ps then
   match j8 (iz ps) args with
   |some args'=>match S f args' ⟨t,n,none⟩with
    |some vV=>uq ps n H false vV
    |none=>match x with
     |none=>none
     |some X=>match S f args' ⟨t,n,some X⟩with
      |some vV=>uq ps n H true vV
      |none=>none
   |none=>none
  else none
def Zw(S:bo)(f:FuncId)(args:LV)(H:AH):Option (List (Nat×Nat)×Nat×Bool×Sp):=
 match l9 0 (BX args) H with
 |none=>none
 |some ⟨ps,⟨t,n,x⟩⟩=>bif IM H (sP args) ps then
   match j8 (iz ps) args with
   |some args'=>match S f args' ⟨t,n,none⟩with
    |some sp=>some (ps,n,false,sp)
    |none=>match x with
     |none=>none
     |some X=>match S f args' ⟨t,n,some X⟩with
      |some sp=>some (ps,n,true,sp)
      |none=>none
   |none=>none
  else none
section au8
variable(P:Program)
def wA:Nat->List TypeId->LV->(LV->Prop)->Prop
 |0,_,_,_=>False
 |_+1,[],gM,k=>k gM.reverse
 |d+1,t::ts,gM,k=>match P.underlying t with
  |some (.struct fQ)=>wA d (fQ.toList.map (·.type)++ts) gM k
  |some (.int kd)=>∃n:Int,wA d ts (.bU kd n::gM) k
  |some .bool=>∃b:Bool,wA d ts (.ao b::gM) k
  |some .string=>∃s:LN,wA d ts (.ab s::gM) k
  |some (.slice e)=>match cU P e with
   |some sz=>∃(cs:LV) (len:Nat),wA d ts (.ad cs len sz::gM) k
   |none=>False
  |_=>∃a:AV,wA d ts (a::gM) k
def DY(t:TypeId)(k:AV->Prop):Prop:=
 match BY P t with
 |some true=>wA P 100 [t] [] λcs=>k (.ah cs)
 |some false=>wA P 100 [t] [] λcs=>match cs with|[a]=>k a|_=>False
 |none=>False
def afQ(t:TypeId)(k:LV->Prop):Prop:=wA P 100 [t] [] k
end au8
def aq(b:Bool)(A B:Prop):Prop:= @Bool.rec (λ_=>Prop) B A b
def vH(o:Option AV)(k:AV->Prop):Prop:=
 match o with
 |some v=>k v
 |none=>False
def eT(P:Program)(kt e:TypeId)(es:List (AV×AV×Nat))(key:AV):Option (AV×Bool):=
 match ou (ik P 100 kt) key es 0 with
 |some (some (_,v,_))=>some (v,true)
 |some none=>(jZ P e).map (·,false)
 |none=>none
def jX(P:Program)(kt:TypeId)(es:List (AV×AV×Nat))(clock:Nat)(k v:AV):Option (List (AV×AV×Nat)×Nat):=
 match ou (ik P 100 kt) k es 0 with
 |some (some (i,_,_))=>bif xy es i k then some (pn es i λe=>(k,v,e.2.2),clock)else none
 |some none=>some (es++[(k,v,clock)],clock+1)
 |none=>none
def Bu(P:Program)(kt elem:TypeId)(es:List (AV×AV×Nat))(clock:Nat)(p:Bool)(key:AV):Option (AV×Nat×List (AV×AV×Nat)×Nat):=
 match ou (ik P 100 kt) key es 0 with
 |some (some (i,v,b))=>bif xy es i key&&uU p key .kE then some (v,b,pn es i λe=>(key,e.2),clock)else none
 |some none=>match jZ P elem with
  |some z=>bif uU p key z then some (z,clock,es++[(key,z,clock)],clock+1)else none
  |none=>none
 |none=>none
def Ct(es:List (AV×AV×Nat))(born:Nat)(v:AV):Option (List (AV×AV×Nat)):=
 match es.findIdx? (λe=>Nat.beq e.2.2 born)with
 |some i=>some (pn es i λe=>(e.1,v,e.2.2))
 |none=>none
def ae1(P:Program)(kt:TypeId)(es:List (AV×AV×Nat))(k:AV):Option (List (AV×AV×Nat)):=
 match ou (ik P 100 kt) k es 0 with
 |some (some (i,_,_))=>some (DX es i)
 |some none=>some es
 |none=>none
def afJ:TypeDesc->AV->AV->Option Bool
 |.int _,.bU j a,.bU k b=>if j=k then some (a==b)else none
 |.string,.ab a,.ab b=>some (bW a b)
 |.bool,.ao a,.ao b=>some (a==b)
 |_,_,_=>none
def Bh(P:Program):List Field->Nat->LV->LV->Option Bool
 |[],_,[],[]=>some true
 |f::fs,i,a::l,b::m=>bif (f.name != "_")&&Nat.beq f.offset i then
   match P.underlying f.type with
   |some td=>match afJ td a b,Bh P fs (i+1) l m with
    |some x,some y=>some (x&&y)
    |_,_=>none
   |none=>none
  else none
 |_,_,_,_=>none
def PG(P:Program)(t:TypeId)(cs ds:LV):Option Bool:=
 match P.underlying t with
 |some (.struct fQ)=>bif P.stoodInHeld t||P.eqGuardType P.depth t then none else Bh P fQ.toList 0 cs ds
 |_=>none
section asI
variable(P:Program)(ρ:Operand->Option AV)(H:AH)
def QZ:Option bk->Option LV
 |some (.dR vs _)=>some vs
 |some (.ay vs _)=>some vs
 |_=>none
def aaH(t:TypeId)(a:Operand)(k:AV->Prop):Prop:=
 match ρ a with
 |some (.aa id off)=>match QZ (H.bf id)with
  |some vs=>DY P t λv=>cw P t vs off=some v/\k v
  |none=>vH (s9 P H t id off) k
 |some (.pw cs)=>vH (cw P t cs 0) k
 |some (.gX n off)=>DY P t λv=>Ma P H t n off=some v/\k v
 |_=>False
def VC(n:Int)(k:Nat->Prop):Prop:=∃i:Nat,n=(i:Int)/\k i
def Fj(x:Operand)(k:Nat->Prop):Prop:=
 match ρ x with
 |some (.bU _ n)=>bif s7 x then(match n with|.ofNat i=>k i|_=>False)else VC n k
 |_=>False
def isCells:Option bk->Option LV
 |some (.aj vs _)=>some vs
 |_=>none
def W7(id off sz:Nat)(n:Int)(k:AV->Prop):Nat->Nat->Prop
 |_,0=>True
 |j,c+1=>(n=(j:Int)->k (.aa id (off+j*sz)))/\W7 id off sz n k (Nat.succ j) c
def aaG(t:TypeId)(x i:Operand)(k:AV->Prop):Prop:=
 match P.underlying t with
 |some (.slice e)=>match ρ x with
  |some (.ad cs len sz)=>bif (cU P e).any (Nat.beq sz)then Fj ρ i λi=>i<len/\afQ P e λdR=>(cs.drop (i*sz)).take sz=dR/\k (.pw dR)else False
  |some (.ai id len sz)=>bif (cU P e).any (Nat.beq sz)then Fj ρ i λi=>i<len/\k (.aa id (i*sz))else False
  |some (.bq id off len _ sz _)=>match isCells (H.bf id)with
   |some _=>vH (fL P ρ H (.indexAddr t x i)) k
   |none=>bif (cU P e).any (Nat.beq sz)then Fj ρ i λi=>i<len/\k (.aa id (off+i*sz))else False
  |_=>False
 |some (.array c e)=>bif s7 i then vH (fL P ρ H (.indexAddr t x i)) k else
  match ρ x,ρ i with
  |some (.aa id off),some (.bU _ n)=>match cU P e with
   |some sz=>(0<=n/\n<(c:Int))/\W7 id off sz n k 0 c
   |none=>False
  |_,_=>False
 |_=>vH (fL P ρ H (.indexAddr t x i)) k
def W6(P:Program)(e:TypeId)(sz:Nat)(cs:LV)(n:Int)(k:AV->Prop):Nat->Nat->Prop
 |_,0=>True
 |j,c+1=>(n=(j:Int)->vH (cw P e cs (j*sz)) k)/\W6 P e sz cs n k (Nat.succ j) c
def aaF(t:TypeId)(x i:Operand)(k:AV->Prop):Prop:=
 match ρ x,ρ i with
 |some (.ah cs),some (.bU _ n)=>bif s7 i then vH (fL P ρ H (.index t x i)) k else
  match P.underlying t with
  |some (.array c e)=>match cU P e with
   |some sz=>(0<=n/\n<(c:Int))/\W6 P e sz cs n k 0 c
   |none=>False
  |_=>False
 |some (.ab s),some (.bU _ _)=>match P.underlying t with
  |some .string=>Fj ρ i λi=>∃b:Nat,s[i]? =some b/\k (.bU .u8 (.ofNat b))
  |_=>False
 |_,_=>False
def It(P:Program)(kt e:TypeId)(sz:Nat)(es:List (AV×AV×Nat))(key:AV):Option (Nat×Nat×Bool):=
 match eT P kt e es key with
 |some (.fF n len s,b)=>bif Nat.beq s sz then some (n,len,b)else none
 |some (.aJ,b)=>some (0,0,b)
 |_=>none
def akl(P:Program)(kt e:TypeId)(es:List (AV×AV×Nat))(key:AV)(ok:Bool)(k:AV->Prop):Prop:=
 match P.underlying e with
 |some (.slice e')=>match cU P e' with
  |some sz=>∃(n len:Nat) (b:Bool),It P kt e sz es key=some (n,len,b)/\k (mG ok (.fF n len sz) b)
  |none=>False
 |some (.pointer _)=>∃c:Bool,aq c (∃b:Bool,eT P kt e es key=some (.kE,b)/\k (mG ok .kE b)) (∃(n off:Nat) (b:Bool),eT P kt e es key=some (.gX n off,b)/\k (mG ok (.gX n off) b))
 |_=>DY P e λv=>∃b:Bool,eT P kt e es key=some (v,b)/\k (mG ok v b)
def aaI(t:TypeId)(x key:Operand)(ok:Bool)(k:AV->Prop):Prop:=
 match P.underlying t,ρ x,ρ key with
 |some (.map kt e),some (.aA id),some key=>match H.bf id with
  |some (.bm es _ _)=>bif r9 P kt key then(match H.x with|none=>DY P e λv=>∃b:Bool,eT P kt e es key=some (v,b)/\k (mG ok v b)|some _=>akl P kt e es key ok k)else False
  |_=>False
 |some (.map kt e),some .mF,some key=>bif r9 P kt key then vH (((jZ P e).map (mG ok · false)).map (kX P H e ok)) k else False
 |_,_,_=>False
def zy(o:Option Operand)(d:Nat)(k:Nat->Prop):Prop:=
 match o with
 |none=>k d
 |some x=>Fj ρ x k
def Kr(ex:Bool)(lo:Option Operand)(cap l:Nat):Nat:= @Bool.rec (λ_=>Nat) (match lo with|none=>cap|some _=>0) (cap-l) ex
def aaK(t:TypeId)(x:Operand)(lo hi mx:Option Operand)(k:AV->Prop):Prop:=
 match ρ x with
 |some (.ad cs len sz)=>bif mx.isNone&&(match P.underlying t with|some (.slice e)=>(cU P e).any (Nat.beq sz)|_=>false)then
   zy ρ lo 0 λl=>zy ρ hi len λh=>(l<=h/\h<=len)/\k (.ad ((cs.drop (l*sz)).take ((h-l)*sz)) (h-l) sz)else False
 |some (.bq id off len cap sz ex)=>bif mx.isNone&&(match P.underlying t with|some (.slice e)=>(cU P e).any (Nat.beq sz)|_=>false)then
   zy ρ lo 0 λl=>zy ρ hi len λh=>(l<=h/\h<=(bif ex then cap else len))/\k (.bq id (off+l*sz) (h-l) (Kr ex lo cap l) sz ex)else False
 |some (.ai id len sz)=>bif mx.isNone&&(match P.underlying t with|some (.slice e)=>(cU P e).any (Nat.beq sz)|_=>false)then
   1<=len/\zy ρ lo 0 λl=>zy ρ hi len λh=>(l<=h/\h<=len)/\k (.bq id (0+l*sz) (h-l) (Kr false lo 1 l) sz false)else False
 |some (.ab s)=>bif mx.isNone&&(match P.underlying t with|some .string=>true|_=>false)then
   zy ρ lo 0 λl=>zy ρ hi s.length λh=>(l<=h/\h<=s.length)/\k (.ab ((s.take h).drop l))else False
 |_=>vH (fL P ρ H (.slice t x lo hi mx)) k
def aaJ(c a b:Operand)(k:AV->Prop):Prop:=
 match ρ c,ρ a,ρ b with
 |some (.ao t),some (.ao x),some (.ao y)=>k (.ao (bif t then x else y))
 |some (.ao t),some x,some y=>aq t (k x) (k y)
 |_,_,_=>False
def Rz(op:BinOp)(t:TypeId)(len:Nat)(k:AV->Prop):Prop:=
 match P.underlying t with
 |some (.slice _)=>len≠0/\(match op with|.eql=>k (.ao false)|.neq=>k (.ao true)|_=>False)
 |_=>False
def aaE(op:BinOp)(t:TypeId)(x y:Operand)(yt:TypeId)(k:AV->Prop):Prop:=
 match ρ x,ρ y with
 |some (.ah cs),some (.ah ds)=>match PG P t cs ds,op with
  |some b,.eql=>k (.ao b)
  |some b,.neq=>k (.ao (!b))
  |_,_=>False
 |some (.ad _ len _),some .aJ=>Rz P op t len k
 |some (.ai _ len _),some .aJ=>Rz P op t len k
 |_,_=>vH (fL P ρ H (.binOp op t x y yt)) k
def rd(op:Op)(k:AV->Prop):Prop:=
 match op with
 |.load t a=>aaH P ρ H t a k
 |.indexAddr t x i=>aaG P ρ H t x i k
 |.index t x i=>aaF P ρ H t x i k
 |.lookup t x key ok=>aaI P ρ H t x key ok k
 |.slice t x lo hi mx=>aaK P ρ H t x lo hi mx k
 |.pick c a b=>aaJ ρ c a b k
 |.binOp op t x y yt=>aaE P ρ H op t x y yt k
 |op=>vH (fL P ρ H op) k
def Mo(o:Option (bk×(Nat->AV)))(k:AV->AH->Prop):Prop:=
 match o,H with
 |some (ob,g),⟨h,n,x⟩=>k (g n) (AH.eD ⟨h,n,x⟩ ob)
 |none,_=>False
def ak8:Operand->Operand->Bool
 |.tmp a,.tmp b=>Nat.beq a b
 |_,_=>false
def mkS(elem:TypeId)(c:Nat)(s:Nat)(z:AV)(fX:Nat)(k:AV->AH->Prop):Prop:=
 bif Nat.ble fX 4194304&&Nat.ble s 4194304&&Nat.beq z.dK.length s&&z.dK.all AV.cX&&z.dK.all eG then
  c<=4194304/\Mo H (some (aaY z.dK c elem,Gy c c s)) k
 else False
def ai0(t:TypeId)(len cap:Operand)(k:AV->AH->Prop):Prop:=
 bif s7 cap then Mo H (qy P ρ (.makeSlice t len cap)) k else
 bif ak8 len cap then
  match P.underlying t,ρ cap with
  |some (.slice elem),some (.bU .i64 n)=>match cU P elem,jZ P elem,tI P elem with
   |some s,some z,some fX=>VC n λc=>mkS H elem c s z fX k
   |_,_,_=>False
  |_,_=>False
 else False
def mk(op:Op)(k:AV->AH->Prop):Prop:=
 match op with
 |.makeSlice t len cap=>ai0 P ρ H t len cap k
 |op=>Mo H (qy P ρ op) k
def gg(vs:LV)(off:Nat)(cs:LV):LV:=vs.take off++(cs++vs.drop (off+cs.length))
def BV(o:Option iM)(k:AV->AH->Prop):Prop:=
 match o with
 |some (.gE v H)=>k v H
 |_=>False
def YR(t:TypeId)(a x:Operand)(k:AV->AH->Prop):Prop:=
 match ρ a,ρ x with
 |some (.aa id off),some v=>match H.bf id,cU P t with
  |some (.dR vs e),some s=>bif Nat.beq v.dK.length s&&v.dK.all AV.cX&&v.dK.all eG then off+v.dK.length<=vs.length/\k .lI (H.cQ id (.dR (gg vs off v.dK) e))else False
  |some (.ay vs e),some s=>bif Nat.beq v.dK.length s&&v.dK.all AV.cX&&v.dK.all eG then off+v.dK.length<=vs.length/\k .lI (H.cQ id (.ay (gg vs off v.dK) e))else False
  |_,_=>BV (HD P ρ H t a x) k
 |some (.gX n off),some v=>match cU P t with
  |some s=>bif Nat.beq v.dK.length s&&v.dK.all AV.cX&&v.dK.all eG then∃(vs:LV) (e:TypeId),H.hJ n=some (.aj vs e)/\off+v.dK.length<=vs.length/\k .lI (H.nM n (some (.aj (gg vs off v.dK) e)))else False
  |none=>False
 |_,_=>False
def QU(t:TypeId)(m key x:Operand)(k:AV->AH->Prop):Prop:=
 match P.underlying t,ρ m,ρ key,ρ x with
 |some (.map kt _),some (.aA id),some key,some v=>match H.bf id with
  |some (.bm es clock p)=>bif r9 P kt key&&uU p key v then
    ∃(bF:List (AV×AV×Nat)) (c':Nat),jX P kt es clock key v=some (bF,c')/\k .lI (H.cQ id (.bm bF c' p))else False
  |_=>False
 |_,_,_,_=>False
def DV(P:Program)(kt e:TypeId)(sz:Nat)(es:List (AV×AV×Nat))(clock:Nat)(p:Bool)(key:AV):Option (Nat×Nat×Nat×List (AV×AV×Nat)×Nat):=
 match Bu P kt e es clock p key with
 |some (.fF n len s,b,bF,c')=>bif Nat.beq s sz then some (n,len,b,bF,c')else none
 |some (.aJ,b,bF,c')=>some (0,0,b,bF,c')
 |_=>none
def ahC(kt e:TypeId)(es:List (AV×AV×Nat))(clock:Nat)(p:Bool)(key:AV)(id:Nat)(k:AV->AH->Prop):Prop:=
 match P.underlying e with
 |some (.slice e')=>match cU P e' with
  |some sz=>∃(n len b:Nat) (bF:List (AV×AV×Nat)) (c':Nat),DV P kt e sz es clock p key=some (n,len,b,bF,c')/\k (.aC [.fF n len sz,uX b]) (H.cQ id (.bm bF c' p))
  |none=>False
 |_=>False
def as0(it:Operand)(k:AV->AH->Prop):Prop:=
 ∃(n:Int) (v:AV),Ek ρ H it=some (.gE (.aC [.bU .i64 n,v]) H)/\k (.aC [.bU .i64 n,v]) H
def YN(t:TypeId)(m key:Operand)(k:AV->AH->Prop):Prop:=
 match P.underlying t,ρ m,ρ key with
 |some (.map kt e),some (.aA id),some key=>match H.bf id with
  |some (.bm es clock p)=>bif r9 P kt key then
    (match H.x with
    |none=>DY P e λv=>∃(b:Nat) (bF:List (AV×AV×Nat)) (c':Nat),Bu P kt e es clock p key=some (v,b,bF,c')/\k (.aC [v,uX b]) (H.cQ id (.bm bF c' p))
    |some _=>ahC P H kt e es clock p key id k)else False
  |_=>False
 |_,_,_=>False
def YO(m s x:Operand)(k:AV->AH->Prop):Prop:=
 match ρ m,ρ s,ρ x with
 |some (.aA id),some (.bU _ (.ofNat b)),some v=>match H.bf id with
  |some (.bm es clock p)=>bif uU p .kE v then
    ∃bF:List (AV×AV×Nat),Ct es b v=some bF/\k .lI (H.cQ id (.bm bF clock p))else False
  |_=>False
 |_,_,_=>False
def YM(argTypes:Array TypeId)(id:Nat)(key:AV)(k:AV->AH->Prop):Prop:=
 match argTypes[0]?.bind P.underlying,H.bf id with
 |some (.map kt _),some (.bm es clock p)=>bif r9 P kt key then
   ∃bF:List (AV×AV×Nat),ae1 P kt es key=some bF/\k .lI (H.cQ id (.bm bF clock p))else False
 |_,_=>False
def F1(H:AH)(id len sz:Nat)(vs:LV):Prop:=(len=0/\vs=[])\/(len≠0/\∃el,H.hJ id=some (.ay vs el)/\vs.length=len*sz)
def amI(H:AH)(id len:Nat)(vs:LV)(elem:TypeId)(k:Nat->AH->Prop):Prop:=
 match H with
 |⟨h,m,some ⟨g,c⟩⟩=>k c ⟨(h.fV m (.bc [])).fV (Nat.succ m) (.bc []),Nat.succ (Nat.succ m),some ⟨λi=>bif Nat.beq i c then some (.ay vs elem)else bif Nat.beq i id&& !Nat.beq len 0 then none else g i,c+1⟩⟩
 |_=>False
def abB(sz:Nat)(x:AV)(k:Nat->LV->Prop):Prop:=
 match x with
 |.ad cs len s=>bif Nat.beq s sz then k len cs else False
 |.ai id len s=>bif Nat.beq s sz then match H.bf id with
   |some (.ay vs _)=>vs.length=len*sz/\k len vs
   |_=>False
  else False
 |.fF id len s=>bif Nat.beq s sz then∃vs:LV,F1 H id len sz vs/\k len vs else False
 |.bq id off len cap s ex=>match QZ (H.bf id)with
  |some vs=>bif Nat.beq s sz then off+len*sz<=vs.length/\k len ((vs.drop off).take (len*sz))else False
  |none=>match wu H sz (.bq id off len cap s ex)with
   |some (n,l)=>k n l
   |none=>False
 |x=>match wu H sz x with
  |some (n,l)=>k n l
  |none=>False
def Cn(l:LV):Prop:=l.all AV.cX=true/\l.all eG=true
def zt(elem:TypeId)(sz:Nat)(s:AV)(n:Nat)(l:LV)(k:AV->AH->Prop):Prop:=
 match s with
 |.ai id len gI=>bif Nat.beq sz gI then match H.bf id with
   |some (.ay vs _)=>(vs.length=len*sz/\len+n<=4194304/\Cn l)/\k (.ai H.bx (len+n) sz) (AH.eD (H.cQ id (.bc [])) (.ay (vs++l) elem))
   |_=>False
  else False
 |.bq id off len cap gI ex=>bif Nat.beq sz gI then match H.bf id with
   |some (.dR vs _)=>(off+len*sz<=vs.length/\len+n<=4194304/\Cn l/\ex=false)/\k (.bq H.bx 0 (len+n) 1 sz false) (AH.eD (H.cQ id (.bc [])) (.dR ((vs.drop off).take (len*sz)++l) elem))
   |some (.ay vs _)=>(off+len*sz<=vs.length/\len+n<=4194304/\Cn l/\ex=false)/\k (.bq H.bx 0 (len+n) 1 sz false) (AH.eD (H.cQ id (.bc [])) (.ay ((vs.drop off).take (len*sz)++l) elem))
   |_=>match mi H elem sz (.bq id off len cap gI ex) n l with
    |some (v,H')=>k v H'
    |none=>False
  else False
 |.fF id len gI=>bif Nat.beq sz gI then(len+n<=4194304/\Cn l)/\∃vs:LV,F1 H id len sz vs/\amI H id len (vs++l) elem (λnm H'=>k (.fF nm (len+n) sz) H')else False
 |s=>match mi H elem sz s n l with
  |some (v,H')=>k v H'
  |none=>False
def Zy(x:AV):Bool:=
 match x with
 |.bq _ _ _ _ _ true=>true
 |.aJ=>true
 |_=>false
def Kk(sz:Nat)(s:AV)(k:Prop):Prop:=
 match s with
 |.aJ=>k
 |.bq _ _ len _ gI _=>bif Nat.beq sz gI then len<=4194304/\k else False
 |.ai _ len gI=>bif Nat.beq sz gI then len<=4194304/\k else False
 |.fF _ len gI=>bif Nat.beq sz gI then len<=4194304/\k else False
 |.qS=>k
 |_=>False
def Vx(elem:TypeId)(sz:Nat)(s:AV)(n:Nat)(l:LV)(k:AV->AH->Prop):Prop:=
 match s with
 |.aJ=>(n<=4194304/\Cn l)/\k (.bq H.bx 0 n 1 sz false) (AH.eD H (.ay l elem))
 |.bq id off len cap gI ex=>match H.bf id with
  |some (.aj vs _)=>bif Nat.beq sz gI then(off+len*sz<=vs.length/\len+n<=4194304/\Cn l/\Cn vs/\ex=true/\cap<=len)/\k (.bq H.bx 0 (len+n) 1 sz false) (AH.eD H (.ay ((vs.drop off).take (len*sz)++l) elem))else False
  |some (.dR _ _)=>zt H elem sz (.bq id off len cap gI ex) n l k
  |some (.ay _ _)=>zt H elem sz (.bq id off len cap gI ex) n l k
  |_=>False
 |.ai id len gI=>zt H elem sz (.ai id len gI) n l k
 |.fF id len gI=>zt H elem sz (.fF id len gI) n l k
 |_=>False
def ON(elem:TypeId)(sz:Nat)(s:AV)(L_ dR:Bool)(n:Nat)(l:LV)(k:AV->AH->Prop):Prop:=
 bif L_ then(match n with|0=>Kk sz s (k s H)|_+1=>zt H elem sz s n l k)
 else(n=0->Kk sz s (k s H))/\(1<=n->bif dR then Vx H elem sz s n l k else zt H elem sz s n l k)
def Za:Option TypeDesc->Bool
 |some (.slice _)=>true
 |_=>false
def al6(P:Program)(elem:TypeId)(sz fX:Nat)(t:Option TypeDesc)(x:AV)(k:Nat->LV->Prop):Prop:=
 match t,x,jZ P elem with
 |some (.int _),.bU .i64 n,some z=>bif Nat.ble fX 4194304&&Nat.beq z.dK.length sz then VC n λc=>c<=4194304/\k c (j9 z.dK c)else False
 |_,_,_=>False
def YK(argTypes:Array TypeId)(s x:AV)(k:AV->AH->Prop):Prop:=
 match argTypes[0]?.bind P.underlying with
 |some (.slice elem)=>match cU P elem,tI P elem with
  |some sz,some fX=>bif Nat.ble fX 4194304&&(jZ P elem).any (λz=>Nat.beq z.dK.length sz)&&Za (argTypes[1]?.bind P.underlying)then
    abB H sz x λn l=>ON H elem sz s (Zy x) (LY x) n l k
   else al6 P elem sz fX (argTypes[1]?.bind P.underlying) x λn l=>ON H elem sz s false true n l k
  |_,_=>False
 |_=>False
def YL(b:Builtin)(args:LV)(argTypes:Array TypeId)(k:AV->AH->Prop):Prop:=
 match b,args with
 |.append,[s,x]=>YK P H argTypes s x k
 |.delete,[.aA id,key]=>YM P H argTypes id key k
 |b,args=>BV (Hw P H b args argTypes) k
variable(S:bo)
def EO(r:Option TY)(k kp:AV->AH->Prop):Prop:=
 match r with
 |some ⟨p,.dH v,H'⟩=>p/\kp v H'
 |some ⟨p,v,H'⟩=>p/\k v H'
 |none=>False
def Ik(f:FuncId)(args:LV)(k kp:AV->AH->Prop):Prop:=
 match Zw S f args H with
 |some (ps,n,xb,.zC x)=>EO (uq ps n H xb x) k kp
 |some (ps,n,xb,.ex W g _)=>∃w:W,EO (uq ps n H xb (g w)) k kp
 |some (ps,n,xb,.PJ W g _)=>∃b:Bool,@Bool.rec (λ_=>Prop) (∃w:W false,EO (uq ps n H xb (g false w)) k kp) (∃w:W true,EO (uq ps n H xb (g true w)) k kp) b
 |none=>False
def BZ(f:FuncId):Bool:=Nat.beq f 999999
def YQ(l:Nat)(args:LV)(k:AV->AH->Prop):Prop:=
 match H.bf l,args with
 |some (.gK st pe fn tmps nt params assign body d),[a]=>match params with
  |[p]=>match AA (.gK st pe fn tmps nt params assign body d) l [a]with
   |some _=>Ik H S 999999 [.gz l,a] k λ_ _=>False
   |none=>False
  |_=>False
 |_,_=>False
def QS(o:Option iM)(k kp:AV->AH->Prop):Prop:=
 match o with
 |some (.qc f args)=>bif BZ f then False else Ik H S f args k kp
 |some (.uJ l args)=>YQ H S l args k
 |_=>False
def ahz(c:Call)(k kp:AV->AH->Prop):Prop:=
 match c.callee with
 |.value f=>QS H S (XE P ρ f c.args) k kp
 |.builtin b=>match uN ρ c.args.toList with
  |some l=>YL P H b l c.argTypes k
  |none=>False
 |.invoke r name=>QS H S (Qj P ρ H r name c.args) k kp
def hv(op:Op)(k kp:AV->AH->Prop):Prop:=
 match op with
 |.store t a x=>YR P ρ H t a x k
 |.mapUpdate t m key x=>QU P ρ H t m key x k
 |.insert t m key x=>QU P ρ H t m key x k
 |.mapEntry t m key=>YN P ρ H t m key k
 |.entryStore _ m s x=>YO ρ H m s x k
 |.call c=>ahz P ρ H S c k kp
 |.range t x=>BV (Qk P ρ H t x) k
 |.next it wT=>BV (HC ρ H it wT) k
 |.entry it=>as0 ρ H it k
 |_=>False
end asI
def MG(P:Program)(S:bo)(ρ:Operand->Option AV)(H:AH)(op:Op)(k kp:AV->AH->Prop):Prop:=
 bif o0 op then rd P ρ H op (λv=>k v H)
 else bif r6 op then mk P ρ H op k
 else hv P ρ H S op k kp
def DQ(nt:Nat)(tmps:Tr AV)(o:Oper)(v:AV)(k:Tr AV->Prop):Prop:=
 match oK nt tmps o.dst v with
 |some t=>k t
 |none=>False
def Qa(ops:Array Oper)(o:Oper)(tmps:Tr AV)(xJ no:Tr AV->Prop):Prop:=
 match o.guard with
 |none=>xJ tmps
 |some (j,py)=>match(ops[j]?).bind (·.dst)with
  |none=>False
  |some d=>match tmps.bT d with
   |some (.ao b)=>aq b (bif py then xJ (tmps.fV d (.ao true))else no (tmps.fV d (.ao true))) (bif py then no (tmps.fV d (.ao false))else xJ (tmps.fV d (.ao false)))
   |some (.aC [])=>no tmps
   |_=>False
section par
variable(P:Program)(S:bo)
def Nd(ops:Array Oper)(ms:LN)(base cur:Tr AV)(H:AH):LN->Prop->Prop
 |[],k=>k
 |j::l,k=>match ops[j]? with
  |none=>False
  |some o=>match mN ops o cur.bT with
   |none=>False
   |some false=>Nd ops ms base cur H l k
   |some true=>match o.dst with
    |none=>False
    |some d=>match cur.bT d with
     |none=>False
     |some v=>fL P (Gz (wy ops ms base cur j)) H o.op=some v/\Nd ops ms base cur H l k
def Fp(ops:Array Oper)(ms:LN)(base:Tr AV)(nt:Nat)(kp:AV->AH->Prop):LN->LN->Tr AV->AH->(Tr AV->AH->Prop)->Prop
 |[],_,tmps,H,k=>k tmps H
 |i::rest,done,tmps,H,k=>match ops[i]? with
  |none=>False
  |some o=>Qa ops o tmps
   (λtmps=>bif rb o.op then MG P S (iw tmps) H o.op (λv H'=>DQ nt tmps o v λt=>Fp ops ms base nt kp rest (i::done) t H' k) kp
     else MG P S (iw tmps) H o.op (λv H'=>DQ nt tmps o v λt=>Nd P ops ms base t H' (OI ops ms done i) (Fp ops ms base nt kp rest (i::done) t H' k)) kp)
   (λtmps=>DQ nt tmps o .lI λt=>Fp ops ms base nt kp rest (i::done) t H k)
end par
def zO:Code->Option Nat
 |.region id _ _=>some id
 |.seq a b=>match zO a with|some i=>some i|none=>zO b
 |.cond _ a b=>match zO a with|some i=>some i|none=>zO b
 |.block _ b=>zO b
 |.loop b=>zO b
 |.scope b=>zO b
 |_=>none
section oi
variable(P:Program)(S:bo)(fn nt m0:Nat)(aR:Nat->LN)(L:Tr AV->AH->List dP->Prop)(Q:AV->AH->Prop)(ret:Bool->Tr AV->AH->Prop)(dH:AV->Tr AV->AH->Prop)(rd:Option Nat)
def MN:dP->Bool
 |.Dk _=>false
 |.AQ _=>false
 |_=>true
def kY:List dP->Bool
 |[]=>true
 |x::l=>MN x&&kY l
def OQ(body:Code)(k:List dP)(tmps:Tr AV)(H:AH):Prop:=
 match zO body with
 |none=>False
 |some i=>match l9 m0 (FI tmps (aR i)) H with
  |some ⟨ps,H2⟩=>match qJ (iz ps) tmps (aR i)with
   |some t=>bif kY k then L t H2 (.gy body::.qK body::k)else False
   |none=>False
  |none=>False
def pI(tmps:Tr AV)(H:AH):Prop:=
 match P.funcs[fn]? with
 |some f=>match sd P H tmps f.results.toList with
  |some l=>match l9 m0 (vo (AM l)) H with
   |some ⟨ps,H2⟩=>match eC (iz ps) (AM l)with
    |some v=>Q v H2
    |none=>False
   |none=>False
  |none=>False
 |none=>False
def OU(todo:List dP)(tmps:Tr AV)(H:AH):Prop:=
 match l9 m0 (FI tmps (aR 999998)) H with
 |some ⟨ps,H2⟩=>match qJ (iz ps) tmps (aR 999998)with
  |some t=>bif kY todo then L t H2 todo else False
  |none=>False
 |none=>False
def OS(x:AV)(_:Tr AV)(H:AH):Prop:=
 match l9 m0 (vo x) H with
 |some ⟨ps,H2⟩=>match eC (iz ps) x with
  |some y=>Q (.dH y) H2
  |none=>False
 |none=>False
def VJ(LR:Tr AV->AH->Prop)(tmps:Tr AV)(H:AH):Prop:=
 match l9 m0 (FI tmps (aR 999996)) H with
 |some ⟨ps,H2⟩=>match qJ (iz ps) tmps (aR 999996)with
  |some t=>LR t H2
  |none=>False
 |none=>False
def VH(LP:AV->Tr AV->AH->Prop)(x:AV)(tmps:Tr AV)(H:AH):Prop:=
 match l9 m0 (vo x++FI tmps (aR 999996)) H with
 |some ⟨ps,H2⟩=>match eC (iz ps) x,qJ (iz ps) tmps (aR 999996)with
  |some y,some t=>LP y t H2
  |_,_=>False
 |none=>False
def ad6(c:Code)(k:List dP)(tmps:Tr AV)(H:AH):Prop:=
 match l9 m0 (FI tmps (aR 999999)) H with
 |some ⟨ps,H2⟩=>match qJ (iz ps) tmps (aR 999999)with
  |some t=>bif kY k then L t H2 (.gy c::k)else False
  |none=>False
 |none=>False
def OT(d:Nat)(tmps:Tr AV)(H:AH):Prop:=
 match H.bf d with
 |some (.pB (some []))=>pI P fn m0 Q tmps (H.cQ d (.bc []))
 |_=>False
def VK(l:Nat)(b:Bool)(tmps:Tr AV)(H:AH):Prop:=
 bif b then False else
 match H.bf l with
 |some (.gK _ _ fn tm nt ps a bd d)=>match l9 m0 [] (H.cQ l (.gK .ready none fn tm nt ps a bd d))with
  |some ⟨_,H2⟩=>Q (.ao true) H2
  |none=>False
 |_=>False
def ats:LN->Bool
 |[x]=>Nat.beq x 1000000
 |_=>false
def S'(body:Code):Bool:=
 match zO body with
 |some i=>ats (aR i)
 |none=>false
def Zb:Op->Bool
 |.defer .. =>true
 |.next _ false=> !(aR 999998).isEmpty
 |.call c=>(match c.callee with|.value (.func f)=>(aR 999997).any (Nat.beq (2000000+f))|.builtin .append=>(aR 999997).any (Nat.beq 3000000)|_=>false)
 |_=>false
def Zc(id:Nat):Bool:=(aR 999995).any (Nat.beq (2000000+id))
def ajV(tmps:Tr AV):Op->Option AV
 |.panic x=>match iw tmps x with
  |some (.dT t v)=>some (.dT t v)
  |_=>none
 |_=>none
def ah4:Op->Bool
 |.panic _=>true
 |_=>false
def k_:Nat->Tr AV->List dP->AH->Prop
 |0,_,_,_=>False
 |n+1,tmps,todo,H=>match todo with
  |[]=>ret false tmps H
  |.uG _::k=>k_ n tmps k H
  |.tB _::k=>k_ n tmps k H
  |.zi::k=>match rd with
   |some l=>match H.bf l with
    |some (.gK .ready p lf lt ln ps a b d)=>k_ n tmps k (H.cQ l (.gK .busy p lf lt ln ps a b d))
    |_=>False
   |none=>False
  |.qK body::k=>bif S' aR body then k_ n tmps (.gy body::.qK body::k) H else OQ m0 aR L body k tmps H
  |.gY ops i l::k=>match l with
   |[]=>k_ n tmps k H
   |o::rest=>Qa ops o tmps
    (λtmps=>bif ah4 o.op then(match ajV tmps o.op with|some v=>dH v tmps H|none=>False)
      else bif Zb aR o.op then OU m0 aR L (.gY ops i (o::rest)::k) tmps H
      else MG P S (iw tmps) H o.op (λv H'=>DQ nt tmps o v λt=>k_ n t (.gY ops (Nat.succ i) rest::k) H') (λx H'=>dH x tmps H'))
    (λtmps=>DQ nt tmps o .lI λt=>k_ n t (.gY ops (Nat.succ i) rest::k) H)
  |.gy c::k=>match c with
   |.ret=>ret true tmps H
   |.skip=>k_ n tmps k H
   |.label _=>k_ n tmps k H
   |.seq a b=>k_ n tmps (.gy a::.gy b::k) H
   |.cond c a b=>match iw tmps c with
    |some (.ao t)=>aq t (k_ n tmps (.gy a::k) H) (k_ n tmps (.gy b::k) H)
    |_=>False
   |.block id body=>k_ n tmps (.gy body::.uG id::k) H
   |.scope body=>k_ n tmps (.gy body::.tB body::k) H
   |.loop body=>bif S' aR body then k_ n tmps (.gy body::.qK body::k) H else OQ m0 aR L body k tmps H
   |.exit id=>match DZ id k with
    |some k'=>k_ n tmps k' H
    |none=>False
   |.region id ops qT=>bif Zc aR id then OU m0 aR L (.gy (.region id ops qT)::k) tmps H else bif qT then
     match IX ops with
     |some pl=>Fp P S ops pl.ms tmps nt (λx H'=>dH x (Hd tmps (GQ ops)) H') pl.Dp [] tmps H λt H'=>k_ n t k H'
     |none=>False
    else k_ n tmps (.gY ops 0 ops.toList::k) H
   |.rangeFunc f ps a b=>ad6 m0 aR L (.rangeFunc f ps a b) k tmps H
   |_=>False
  |_=>False
end oi
def bI(P:Program)(S:bo)(aR:Nat->LN)(L:Tr AV->AH->List dP->Prop)(Q:AV->AH->Prop)(n:Nat)(f:FuncId)(args:LV)(H:AH):Prop:=
 match P.funcs[f]? with
 |some fn=>match fn.body with
  |some c=>bif Nat.ble args.length fn.ntmps&& !(fn.name== "runtime.NumGoroutine")then k_ P S fn.ntmps H.bx aR L (λ_=>pI P f H.bx Q) (OS H.bx Q) none n (Tr.Cm args 0 .gZ) [.gy c] H else False
  |none=>False
 |none=>False
def ck(P:Program)(S:bo)(aR:Nat->LN)(L:Tr AV->AH->List dP->Prop)(Q:AV->AH->Prop)(n:Nat)(f m0:Nat)(tmps:Tr AV)(todo:List dP)(H:AH):Prop:=
 match P.funcs[f]? with
 |some fn=>k_ P S fn.ntmps m0 aR L (λ_=>pI P f m0 Q) (OS m0 Q) none n tmps todo H
 |none=>False
def M_(P:Program)(S:bo)(aR:Nat->LN)(L:Tr AV->AH->List dP->Prop)(Q:AV->AH->Prop)(n:Nat)(f m0 d:Nat)(tmps:Tr AV)(todo:List dP)(H:AH):Prop:=
 match P.funcs[f]? with
 |some fn=>k_ P S fn.ntmps m0 aR L (λ_=>OT P f m0 Q d) (λ_ _ _=>False) none n tmps todo H
 |none=>False
def Jc(P:Program)(S:bo)(aR:Nat->LN)(L:Tr AV->AH->List dP->Prop)(LR:Tr AV->AH->Prop)(LP:AV->Tr AV->AH->Prop)(n:Nat)(f m0:Nat)(tmps:Tr AV)(todo:List dP)(H:AH):Prop:=
 match P.funcs[f]? with
 |some fn=>k_ P S fn.ntmps m0 aR L (λ_=>VJ m0 aR LR) (VH m0 aR LP) none n tmps todo H
 |none=>False
def aa4(P:Program)(S:bo)(aR:Nat->LN)(L:Tr AV->AH->List dP->Prop)(Q:AV->AH->Prop)(n:Nat)(l:Nat)(a:AV)(H:AH):Prop:=
 match H.bf l with
 |some o=>match AA o l [a]with
  |some fr=>k_ P S fr.nt H.bx aR L (VK H.bx Q l) (λ_ _ _=>False) (some l) n fr.zh fr.F5 H
  |none=>False
 |none=>False
def BJ:Code->List dP->List (List dP)
 |.loop body,k=>(.gy body::.qK body::k)::BJ body (.qK body::k)
 |.seq a b,k=>BJ a (.gy b::k)++BJ b k
 |.cond _ a b,k=>BJ a k++BJ b k
 |.block id b,k=>BJ b (.uG id::k)
 |.scope b,k=>BJ b (.tB b::k)
 |_,_=>[]
def CJ:Code->List dP->List (List dP)
 |.rangeFunc f ps a b,k=>[.gy (.rangeFunc f ps a b)::k]
 |.loop body,k=>CJ body (.qK body::k)
 |.seq a b,k=>CJ a (.gy b::k)++CJ b k
 |.cond _ a b,k=>CJ a k++CJ b k
 |.block id b,k=>CJ b (.uG id::k)
 |.scope b,k=>CJ b (.tB b::k)
 |_,_=>[]
def M3(P:Program)(f j:Nat):List dP:=
 match P.funcs[f]? with
 |some fn=>match fn.body with
  |some c=>((CJ c [])[j]?).getD []
  |none=>[]
 |none=>[]
def aw(P:Program)(f j:Nat):List dP:=
 match P.funcs[f]? with
 |some fn=>match fn.body with
  |some c=>((BJ c [])[j]?).getD []
  |none=>[]
 |none=>[]
def abp(aR:Nat->LN)(ops:Array Oper)(k:List dP):Nat->List Oper->List (List dP)
 |_,[]=>[]
 |i,o::l=>bif Zb aR o.op then(.gY ops i (o::l)::k)::abp aR ops k (Nat.succ i) l else abp aR ops k (Nat.succ i) l
def CV(aR:Nat->LN):Code->List dP->List (List dP)
 |.region id ops qT,k=>(bif Zc aR id then[.gy (.region id ops qT)::k]else[])++(bif qT then[]else abp aR ops k 0 ops.toList)
 |.loop body,k=>CV aR body (.qK body::k)
 |.seq a b,k=>CV aR a (.gy b::k)++CV aR b k
 |.cond _ a b,k=>CV aR a k++CV aR b k
 |.block id b,k=>CV aR b (.uG id::k)
 |.scope b,k=>CV aR b (.tB b::k)
 |_,_=>[]
def di(P:Program)(aR:Nat->LN)(f j:Nat):List dP:=
 match P.funcs[f]? with
 |some fn=>match fn.body with
  |some c=>((CV aR c [])[j]?).getD []
  |none=>[]
 |none=>[]
def aB:List (Nat×AV)->Tr AV
 |[]=>.gZ
 |(s,a)::l=>(aB l).fV s a
def Rp:List (Nat×bk)->Tr bk
 |[]=>.gZ
 |(s,a)::l=>(Rp l).fV s a
def eg(x:Option XH)(l:List (Nat×bk))(n:Nat):AH:=⟨Rp l,n,x⟩
abbrev al:List (Nat×bk)->Nat->AH:=eg none
abbrev b_(g:Nat->Option bk)(m:Nat):List (Nat×bk)->Nat->AH:=eg (some ⟨g,m⟩)
end
theorem ZU:∀{ps a c},iz ps a=some c->(a,c)∈ps
 |[],_,_,h=>by cases h
 |(o,n)::l,a,c,h=>by
  simp only[iz]at h;cases hb:Nat.beq o a
  .rw[hb]at h;exact dZ _ (ZU h)
  .rw[hb]at h;cases h;have:=dG hb;subst this;exact dJ ..
theorem IS:∀{ps a c},yQ ps c=some a->(a,c)∈ps
 |[],_,_,h=>by cases h
 |(o,n)::l,a,c,h=>by
  simp only[yQ]at h;cases hb:Nat.beq n c
  .rw[hb]at h;exact dZ _ (IS h)
  .rw[hb]at h;cases h;have:=dG hb;subst this;exact dJ ..
theorem Z2:∀{l},wY l=true↔l.Nodup
 |[]=>by simp[wY]
 |a::l=>by
  simp only[wY,dk,yT,uw,Z2];have:l.any (Nat.beq a)=false↔a∉l:=by
   rw[<-Bool.not_eq_true,List.any_eq_true];constructor
   .intro h hm;exact h ⟨a,hm,by simp⟩
   .rintro h ⟨x,hx,he⟩;exact h (by rw[dG he];exact hx)
  rw[this]
theorem MD:∀{ps a c},(ps.map (·.2)).Nodup->(a,c)∈ps->yQ ps c=some a
 |[],_,_,_,h=>by cases h
 |(o,n)::l,a,c,hn,h=>by
  simp only[gR,uw]at hn;simp only[yQ];rcases dm.1 h with h|h
  .cases h;simp
  .have:n≠c:=by rintro rfl;exact hn.1 (vP h)
   rw[Tr.s_];simp only[this,decide_false,cond_false];exact MD hn.2 h
theorem Ry:∀{ps a c},(ps.map (·.1)).Nodup->(a,c)∈ps->iz ps a=some c
 |[],_,_,_,h=>by cases h
 |(o,n)::l,a,c,hn,h=>by
  simp only[gR,uw]at hn;simp only[iz];rcases dm.1 h with h|h
  .cases h;simp
  .have:o≠a:=by rintro rfl;exact hn.1 (vP h)
   rw[Tr.s_];simp only[this,decide_false,cond_false];exact Ry hn.2 h
theorem Mn:∀{ps:List (Nat×Nat)} {a b c},(ps.map (·.2)).Nodup->(a,c)∈ps->(b,c)∈ps->a=b:=by intro ps a b c hn h1 h2;have e1:=MD hn h1;have e2:=MD hn h2;rw[e1]at e2;cases e2;rfl
theorem auo:∀{ps:List (Nat×Nat)} {a b c},(ps.map (·.1)).Nodup->(c,a)∈ps->(c,b)∈ps->a=b:=by intro ps a b c hn h1 h2;have e1:=Ry hn h1;have e2:=Ry hn h2;rw[e1]at e2;cases e2;rfl
section
variable{r:Nat->Option Nat}{φ ψ:cj}
structure su(r:Nat->Option Nat)(φ ψ:cj):Prop where
 f:∀a c,r a=some c->ψ c=φ a
 ro:∀b o,φ.ro b=some o->ψ.ro b=some o
 xs:∀n e,φ.xs n=some e->ψ.xs n=some e
instance{r:Nat->Option Nat}{φ ψ:cj}:CoeFun (su r φ ψ) (λ_=>∀a c,r a=some c->ψ c=φ a):=⟨su.f⟩
theorem su.pu{r φ ψ}(h:su r φ ψ):dv φ.pu ψ.pu:=⟨λ_ _ h=>(by cases h),h.ro,h.xs⟩
mutual
theorem rD(hr:su r φ ψ):∀{a a':AV} {v:Value},eC r a=some a'->VR φ a v->VR ψ a' v
 |.ao _,a',v,h,hv=>by cases h;simpa[VR]using hv
 |.bU _ _,a',v,h,hv=>by cases h;simpa[VR]using hv
 |.ab _,a',v,h,hv=>by cases h;simpa[VR]using hv
 |.aa id off,a',v,h,hv=>by
  simp only[eC]at h;split at h;next c hc=>cases h;obtain⟨e,h1,h2⟩:=hv;exact⟨e,by rw[hr _ _ hc];exact h1,h2⟩
  .cases h
 |.kE,a',v,h,hv=>by cases h;simpa[VR]using hv
 |.bq id off len cap sz ex,a',v,h,hv=>by
  simp only[eC]at h;split at h;next c hc=>
   obtain⟨e,x,c',h1,h2,h3,h4,h5,h6⟩:=hv;split at h
   .split at h
    .cases h;exact .inr ⟨e,x,c',by rw[hr _ _ hc];exact h1,h2,by simpa using h3,h4,by simpa using h6⟩
    .cases h;exact⟨e,x,c',by rw[hr _ _ hc];exact h1,h2,h3,h4,h5,h6⟩
   .cases h;exact⟨e,x,c',by rw[hr _ _ hc];exact h1,h2,h3,h4,h5,h6⟩
  .cases h
 |.aJ,a',v,h,hv=>by cases h;simpa[VR]using hv
 |.aA id,a',v,h,hv=>by
  simp only[eC]at h;split at h;next c hc=>cases h;obtain⟨e,h1,h2⟩:=hv;exact⟨e,by rw[hr _ _ hc];exact h1,h2⟩
  .cases h
 |.mF,a',v,h,hv=>by cases h;simpa[VR]using hv
 |.ba fn f c,a',v,h,hv=>by
  simp only[eC]at h;split at h;next f' c' hf hc=>cases h;obtain⟨f1,c1,h1,hy,h2,h3⟩:=hv;exact⟨f1,c1,h1,hy,FB hr hf h2,FB hr hc h3⟩
  .cases h
 |.gz id,a',v,h,hv=>by
  simp only[eC]at h;split at h;next c hc=>cases h;obtain⟨e,h1,h2⟩:=hv;exact⟨e,by rw[hr _ _ hc];exact h1,h2⟩
  .cases h
 |.p_,a',v,h,hv=>by cases h;simpa[VR]using hv
 |.dT t a,a',v,h,hv=>by
  simp only[eC]at h;split at h;next c hc=>cases h;obtain⟨v',h1,h2⟩:=hv;exact⟨v',h1,rD hr hc h2⟩
  .cases h
 |.lq,a',v,h,hv=>by cases h;simpa[VR]using hv
 |.ah cs,a',v,h,hv=>by
  simp only[eC]at h;split at h;next c hc=>cases h;obtain⟨v',h1,h2⟩:=hv;exact⟨v',h1,FB hr hc h2⟩
  .cases h
 |.aC cs,a',v,h,hv=>by
  simp only[eC]at h;split at h;next c hc=>cases h;obtain⟨v',h1,h2⟩:=hv;exact⟨v',h1,FB hr hc h2⟩
  .cases h
 |.uW _,a',v,h,hv=>by cases h;simpa[VR]using hv
 |.ad ..,a',v,h,hv=>by cases h;exact VR.Dq _ _ rfl hv hr.pu
 |.pw _,a',v,h,hv=>by cases h;exact VR.Dq _ _ rfl hv hr.pu
 |.gX ..,a',v,h,hv=>by cases h;exact VR.Dq _ _ rfl hv hr.pu
 |.fF ..,a',v,h,hv=>by cases h;exact VR.Dq _ _ rfl hv hr.pu
 |.qS,a',v,h,hv=>by cases h;exact VR.Dq _ _ rfl hv hr.pu
 |.dH _,a',v,h,hv=>hv.elim
 |.ai id len sz,a',v,h,hv=>by
  simp only[eC]at h;split at h;next c hc=>
   cases h;rcases hv with hv|⟨e,x,c',h1,h2⟩
   .exact .inl hv
   .exact .inr ⟨e,x,c',by rw[hr _ _ hc];exact h1,h2⟩
  .cases h
theorem FB(hr:su r φ ψ):∀{as qh:LV} {vs:List Value},j8 r as=some qh->bp φ as vs->bp ψ qh vs
 |[],qh,vs,h,hv=>by cases h;simpa[bp]using hv
 |a::as,qh,vs,h,hv=>by
  simp only[j8]at h;split at h;next a' ha=>
   split at h;next l' hl=>cases h;obtain⟨v,ep,rfl,h1,h2⟩:=hv;exact⟨v,ep,rfl,rD hr ha h1,FB hr hl h2⟩
   .cases h
  .cases h
end
theorem av5{a a'}(h:eC r a=some a'):a'.cX=a.cX:=by
 cases a<;>simp only[eC]at h<;>first
  |(cases h;rfl)
  |(split at h
    .first
      |(cases h;rfl)
      |(split at h<;>cases h<;>rfl)
      |(split at h
        .split at h<;>cases h<;>rfl
        .cases h;rfl)
    .cases h)
theorem aku:∀{as qh},j8 r as=some qh->qh.length=as.length/\qh.all AV.cX=as.all AV.cX
 |[],qh,h=>by cases h;exact⟨rfl,rfl⟩
 |a::as,qh,h=>by
  simp only[j8]at h;split at h;next a' ha=>
   split at h;next l' hl=>cases h;have⟨h1,h2⟩:=aku hl;exact⟨by simp[h1],by simp[av5 ha,h2]⟩
   .cases h
  .cases h
theorem akv(hr:su r φ ψ):∀{es bF ms},So r es=some bF->dI φ es ms->dI ψ bF ms
 |[],bF,ms,h,he=>by cases h;simpa[dI]using he
 |(k,v,b)::es,bF,ms,h,he=>by
  simp only[So]at h;split at h;next k' v' l' h1 h2 h3=>cases h;obtain⟨m,Rr,rfl,a1,a2,a3,a4⟩:=he;exact⟨m,Rr,rfl,rD hr h1 a1,rD hr h2 a2,a3,akv hr h3 a4⟩
  .cases h
theorem aEY{z z'}(h:j8 r z=some z'):∀n,j8 r (j9 z n)=some (j9 z' n):=by
 have ar3:∀{l l' m m':LV},j8 r l=some l'->j8 r m=some m'->j8 r (l++m)=some (l'++m'):=by
  intro l;induction l with
  |nil=>intro l' m m' h1 h2;cases h1;simpa using h2
  |cons a l ih=>
   intro l' m m' h1 h2;simp only[j8]at h1;split at h1;next a' ha=>
    split at h1;next l1 hl=>cases h1;simp only[oH,j8,ha,ih hl h2]
    .cases h1
   .cases h1
 intro n;induction n with
 |zero=>rfl
 |succ n ih=>exact ar3 h ih
theorem Sq:∀{t t' i a'},M5 r t=some t'->t'.bT i=some a'->∃a,t.bT i=some a/\eC r a=some a'
 |.gZ,t',i,a',h,hg=>by cases h;cases hg
 |.fU v a b,t',i,a',h,hg=>by
  simp only[M5]at h;split at h;next x y hx hy=>
   have aH:∀v':Option AV,(∀z,v'=some z->∃z0,v=some z0/\eC r z0=some z)->(Tr.fU v' x y).bT i=some a'->∃a0,(Tr.fU v a b).bT i=some a0/\eC r a0=some a':=by
    intro v' hv hg;rw[Tr.pL]at hg;rw[Tr.pL];split at hg;next h0=>rw[aO h0];exact hv _ hg
    next h0=>
     rw[az h0];split at hg;next h1=>rw[aO h1];exact Sq hx hg
     next h1=>rw[az h1];exact Sq hy hg
   split at h
   .cases h;exact aH none (λz hz=>by cases hz) hg
   next z0=>
    split at h;next z hz=>cases h;exact aH (some z) (λw hw=>by cases hw;exact⟨z0,rfl,hz⟩) hg
    .cases h
  .cases h
theorem aaQ(hr:su r φ ψ){ob bB e o}(h:lD r ob=some bB)(ho:OR φ ob e o):OR ψ bB e o:=by
 cases ob<;>simp only[lD]at h<;>try (cases h;done)
 case aj vs el=>
  split at h;next l hl=>cases h;obtain⟨cs,gO,rfl,h1,h2,h3,h4⟩:=ho;have⟨a1,a2⟩:=aku hl;exact⟨cs,gO,rfl,h1,by rw[a1];exact h2,by rw[a1];exact FB hr hl h3,by rw[a2];exact h4⟩
  .cases h
 case bm es c p=>
  obtain⟨bF,rfl,h2,h3⟩:=ho;cases p with
  |true=>cases h;exact⟨bF,rfl,((h3 rfl).F9 hr.pu).F9 (dv.vJ _),λ_=>(h3 rfl).F9 hr.pu⟩
  |false=>
   simp at h;split at h;next l hl=>cases h;exact⟨bF,rfl,akv hr hl h2,λh=>by cases h⟩
   .cases h
 case gK st p fn t nt ps a b d=>
  split at h;next t' d' ht hd=>cases h;obtain⟨oM,ed,rfl,h1,h2⟩:=ho;refine⟨oM,ed,rfl,(hr d d' hd).trans h1,h2.1,λi x hx=>?_⟩;have⟨x0,g1,g2⟩:=Sq ht hx;have⟨v,g3,g4⟩:=h2.2 i x0 g1;exact⟨v,g3,rD hr g2 g4⟩
  .cases h
 case bc=>cases h;trivial
 case dR=>cases h;obtain⟨cs,el,rfl,h2,h3,h4,h5⟩:=ho;exact⟨cs,el,rfl,h2,h3,bp.kI hr.pu _ _ h4,h5⟩
 case ay=>cases h;obtain⟨cs,el,rfl,h2,h3,h4,h5⟩:=ho;exact⟨cs,el,rfl,h2,h3,bp.kI hr.pu _ _ h4,h5⟩
 case tp=>cases h;exact ho
 case je m since bE st=>
  obtain⟨m',rfl,h1,h2⟩:=ho;split at h;next id=>
   split at h;next g_ dE=>cases h;have⟨e2,h3,h4⟩:=h2;exact⟨m',rfl,h1,e2,by rw[hr id g_ dE];exact h3,h4⟩
   .cases h
  .cases h;exact⟨m',rfl,h1,h2⟩
 case pB ds=>
  split at h
  .cases h;exact ho
  .cases h;have⟨l',h1,h2⟩:=ho;cases h2;exact⟨[],h1,rfl⟩
  .cases h
theorem M4{ob bB}(h:lD r ob=some bB):bB.aR=ob.aR:=by
 cases ob<;>simp only[lD]at h<;>try (cases h;done)
 case aj vs el=>split at h<;>cases h;rfl
 case gK st p fn t nt ps a b d=>split at h<;>cases h;rfl
 case bm es c p=>
  cases p with
  |true=>cases h;rfl
  |false=>simp at h;split at h<;>cases h;rfl
 case bc=>cases h;rfl
 case dR=>cases h;rfl
 case ay=>cases h;rfl
 case tp=>cases h;rfl
 case je m since bE st=>split at h<;>(try split at h)<;>cases h<;>rfl
 case pB ds=>split at h<;>cases h<;>rfl
end
theorem Tf{r H}:∀{ps t t' i bB},C' r H ps t=some t'->t'.bT i=some bB->
 (∃o ob,(o,i)∈ps/\H.bf o=some ob/\lD r ob=some bB)\/t.bT i=some bB
 |[],t,t',i,bB,h,hg=>by cases h;exact .inr hg
 |(o,n)::l,t,t',i,bB,h,hg=>by
  simp only[C']at h;split at h;next ho=>
   rcases Tf h hg with⟨o2,ob,h1,h2⟩|h1
   .exact .inl ⟨o2,ob,dZ _ h1,h2⟩
   .exact .inr h1
  next ob ho=>
   split at h;next dp asF=>
    rcases Tf h hg with⟨o2,gV,h1,h2⟩|h1
    .exact .inl ⟨o2,gV,dZ _ h1,h2⟩
    .rw[Tr.kD]at h1;by_cases hi:i=n
     .subst hi;rw[aO rfl]at h1;cases h1;exact .inl ⟨o,ob,dJ ..,ho,asF⟩
     .rw[az hi]at h1;exact .inr h1
   .cases h
def jd(ps:List (Nat×Nat))(φ:cj):cj:=⟨λc=>(yQ ps c).bind φ.f,φ.ro,φ.xs⟩
structure J8(ps:List (Nat×Nat))(n:Nat):Prop where
 n1:(ps.map (·.1)).Nodup
 n2:(ps.map (·.2)).Nodup
 lt:∀p∈ps,p.2<n
theorem auY{ps n}(h:aad ps n=true):J8 ps n:=by unfold aad at h;simp only[dk]at h;exact⟨Z2.1 h.1.1,Z2.1 h.1.2,λp hp=>by have:=lZ.1 h.2 p hp;exact ph this⟩
theorem xd{ps n}(h:J8 ps n)(φ):su (iz ps) φ (jd ps φ):=by refine⟨λa c hac=>?_,λ_ _ h=>h,λ_ _ h=>h⟩;have:=MD h.n2 (ZU hac);simp[jd,this]
theorem IV{ps φ c e}(h:jd ps φ c=some e):∃a,(a,c)∈ps/\φ a=some e:=by
 unfold jd at h;cases ho:yQ ps c with
 |none=>simp[ho]at h
 |some a=>simp[ho]at h;exact⟨a,IS ho,h⟩
theorem WR.sm{φ base H w}(hw:WR φ base H w){ps n t}(hp:J8 ps n)(h:C' (iz ps) H ps .gZ=some t):
 WR (jd ps φ) base ⟨t,n,H.x⟩ w:=by
 have jy:∀{i ob},(⟨t,n,H.x⟩:AH).bf i=some ob->∃o dV,(o,i)∈ps/\H.bf o=some dV/\lD (iz ps) dV=some ob:=by
  intro i ob hi;rcases Tf h hi with h1|h1
  .exact h1
  .cases h1
 refine⟨?_,?_,?_,?_,hw.se rfl rfl rfl (λ_ _=>rfl) λi ob e h1 l1 h2=>.inl ?_⟩
 .intro i ob e h1 h2;have⟨o,dV,g1,g2,g3⟩:=jy h1;have⟨a,g4,g5⟩:=IV h2;have:=Mn hp.n2 g1 g4;subst this;have⟨o',g6,g7⟩:=hw.ew _ _ e g2 g5;exact⟨o',g6,aaQ (xd hp φ) g3 g7⟩
 .intro i j ob bB e e' h1 l1 h2 h3 l2 h4 hb;have⟨o,dV,g1,g2,g3⟩:=jy h1;have⟨a,g4,g5⟩:=IV h2;have⟨o2,gV,k1,k2,k3⟩:=jy h3;have⟨a2,k4,k5⟩:=IV h4;have e1:=Mn hp.n2 g1 g4;have e2:=Mn hp.n2 k1 k4;subst e1 e2;have:=hw.jg _ _ dV gV e e' g2 (by rw[<-M4 g3];exact l1) g5 k2 (by rw[<-M4 k3];exact l2) k5 hb;subst this;exact auo hp.n1 g1 k1
 .intro i e h2;have⟨a,g4,g5⟩:=IV h2;have⟨a1,a2,_⟩:=hw.lt a e g5;exact⟨a1,a2,hp.lt _ g4⟩
 .intro i ob h1;have⟨o,dV,g1,_⟩:=jy h1;exact hp.lt _ g1
 .have⟨o,dV,g1,g2,g3⟩:=jy h1;have⟨a,g4,g5⟩:=IV h2;have:=Mn hp.n2 g1 g4;subst this;exact⟨_,dV,e,g2,by rw[<-M4 g3];exact l1,g5,rfl⟩
theorem AO{m0 oh H H2 ps}(h:l9 m0 oh H=some ⟨ps,H2⟩):
 ∃t n,H2=⟨t,n,H.x⟩/\J8 ps n/\C' (iz ps) H ps .gZ=some t/\(∀i,i<m0->yQ ps i=some i):=by
 unfold l9 at h;split at h;rename_i r_ n _;have⟨hc,h⟩:=dn h;simp at hc;split at h;next t ht=>
  cases h;refine⟨t,n,rfl,auY hc.1,ht,λi hi=>?_⟩;have:=lZ.1 hc.2 i (by simpa using hi);split at this;next j hj=>rw[hj,<-dG this]
  .cases this
 .cases h
theorem Nu{r tmps}:∀{l t s a'},qJ r tmps l=some t->t.bT s=some a'->∃a,tmps.bT s=some a/\eC r a=some a'
 |[],t,s,a',h,hg=>by cases h;cases hg
 |x::l,t,s,a',h,hg=>by
  simp only[qJ]at h;split at h
  .cases h
  next t1 h1=>
   split at h;next a ha=>
    split at h;next b hb=>
     cases h;rw[Tr.kD]at hg;by_cases hs:s=x
     .subst hs;rw[aO rfl]at hg;cases hg;exact⟨a,ha,hb⟩
     .rw[az hs]at hg;exact Nu h1 hg
    .cases h
   .cases h;exact Nu h1 hg
structure jh(m:Nat)(φ ψ:cj):Prop where
 f:∀id,id<m->ψ id=φ id
 ro:∀b o,φ.ro b=some o->ψ.ro b=some o
 xs:∀n e,φ.xs n=some e->ψ.xs n=some e
instance{m:Nat}{φ ψ:cj}:CoeFun (jh m φ ψ) (λ_=>∀id,id<m->ψ id=φ id):=⟨jh.f⟩
theorem jh.rN{m φ ψ χ}(h:jh m φ ψ)(h':jh m ψ χ):jh m φ χ:=⟨λid hi=>(h' id hi).trans (h id hi),λb o hb=>h'.ro b o (h.ro b o hb),λn e hn=>h'.xs n e (h.xs n e hn)⟩
theorem jh.zj(m φ):jh m φ φ:=⟨λ_ _=>rfl,λ_ _ h=>h,λ_ _ h=>h⟩
theorem jh.mono{m n φ ψ}(h:jh n φ ψ)(hm:m<=n):jh m φ ψ:=⟨λid hi=>h id (MX hi hm),h.ro,h.xs⟩
theorem WR.noX{φ base t n x w}(hw:WR φ base ⟨t,n,x⟩ w):WR φ base ⟨t,n,none⟩ w:=
 ⟨hw.ew,hw.jg,hw.lt,hw.nx,⟨hw.wx.ro,(λn ob h=>by cases h),(λn n' ob bB e e' h=>by cases h),(λX h=>by cases h)⟩⟩
section
variable{P:Program}{ρ:Operand->Option AV}{H:AH}
theorem xa{o k}(h:vH o k):∃v,o=some v/\k v:=by
 cases o with
 |none=>cases h
 |some v=>exact⟨v,rfl,h⟩
theorem ic{c A}(h:bif c then A else False):c=true/\A:=by
 cases c
 .cases h
 .exact⟨rfl,h⟩
theorem zM:∀(d ts gM) {k},wA P d ts gM k->∃cs,k cs
 |0,_,_,_,h=>by cases h
 |d+1,[],gM,k,h=>⟨_,h⟩
 |d+1,t::ts,gM,k,h=>by
  simp only[wA]at h;split at h
  .exact zM d _ _ h
  .have⟨n,h⟩:=h;exact zM d _ _ h
  .have⟨n,h⟩:=h;exact zM d _ _ h
  .have⟨n,h⟩:=h;exact zM d _ _ h
  .split at h
   .have⟨cs,len,h⟩:=h;exact zM d _ _ h
   .cases h
  .have⟨n,h⟩:=h;exact zM d _ _ h
theorem KO{t k}(h:DY P t k):∃v,k v:=by
 unfold DY at h;split at h
 .have⟨cs,h⟩:=zM _ _ _ h;exact⟨_,h⟩
 .have⟨cs,h⟩:=zM _ _ _ h;split at h
  .exact⟨_,h⟩
  .cases h
 .cases h
theorem aqP{t k}(h:afQ P t k):∃v,k v:=zM _ _ _ h
theorem Mt{x k}(h:Fj ρ x k):∃(kd:IntKind) (i:Nat),ρ x=some (.bU kd (.ofNat i))/\k i:=by
 unfold Fj at h;split at h;next kd n hx=>
  cases hc:s7 x
  .rw[hc]at h;obtain⟨i,rfl,h⟩:=h;exact⟨kd,i,hx,h⟩
  .rw[hc]at h;simp at h;split at h;next i=>exact⟨kd,i,hx,h⟩
   .cases h
 .cases h
def GF(a:Option AV)(d:Nat):Option Nat:=
 match a with
 |some v=>n8 v
 |none=>some d
theorem A2{o d k}(h:zy ρ o d k):
 ∃a i,rp ρ o=some a/\GF a d=some i/\k i:=by
 cases o with
 |none=>exact⟨none,d,rfl,rfl,h⟩
 |some x=>have⟨kd,i,h1,h2⟩:=Mt h;exact⟨some (.bU kd (.ofNat i)),i,by simp[rp,h1],rfl,h2⟩
theorem OL{o s}(h:o.any (Nat.beq s)=true):o=some s:=by
 cases o with
 |none=>cases h
 |some x=>simp only[yU]at h;rw[dG h]
theorem ah2{id vs}(h:QZ (H.bf id)=some vs):H.p9 id=some vs:=by
 unfold QZ at h;unfold AH.p9;split at h;next ho=>cases h;rw[ho]
 next ho=>cases h;rw[ho]
 .cases h
theorem avR{t a k}(h:aaH P ρ H t a k):∃v,fL P ρ H (.load t a)=some v/\k v:=by
 unfold aaH at h;simp only[fL,Q9];split at h;next id off ha=>
  rw[ha];split at h;next vs jA=>have⟨v,h1,h2⟩:=KO h;exact⟨v,by simp only[s9,ah2 jA,h1],h2⟩
  .exact xa h
 next cs ha=>rw[ha];exact xa h
 next n off ha=>rw[ha];exact KO h
 .cases h
theorem fI{a b}(h:a<=b):Nat.ble a b=true:=by rw[ux];exact h
theorem agq{id off sz k}:∀{c j} {i:Nat},W7 id off sz (i:Int) k j c->j<=i->i<j+c->k (.aa id (off+i*sz))
 |0,j,i,_,h1,h2=>by omega
 |c+1,j,i,h,h1,h2=>by
  by_cases hi:i=j
  .subst hi;exact h.1 rfl
  .exact agq h.2 (by simp;omega) (by simp;omega)
theorem avP{t x i k}(h:aaG P ρ H t x i k):∃v,fL P ρ H (.indexAddr t x i)=some v/\k v:=by
 unfold aaG at h;split at h;next e hu=>
  simp only[fL,L3,hu];split at h;next cs len sz hx=>have⟨hs,h⟩:=ic h;have⟨kd,j,hi,h⟩:=Mt h;have⟨ax,h⟩:=h;have⟨dR,h1,h2⟩:=aqP h;rw[hx,hi];refine⟨_,?_,h2⟩;have hs:=OL hs;simp only[Pj,hs,k7,fI (show j+1<=len from ax),kZ,cond_true,h1]
  next id len sz hx=>have⟨hs,h⟩:=ic h;have⟨kd,j,hi,h⟩:=Mt h;have⟨ax,h⟩:=h;rw[hx,hi];refine⟨_,?_,h⟩;have Ah:=OL hs;simp only[Ah,yU,k7,cond_true,Ba,fI (show j+1<=len from ax),ki]
  next id off len cap sz ex hx=>
   split at h
   .have:=xa h;simp only[fL,L3,hu]at this;exact this
   have⟨hs,h⟩:=ic h;have⟨kd,j,hi,h⟩:=Mt h;have⟨ax,h⟩:=h;rw[hx,hi];refine⟨_,?_,h⟩;have Ah:=OL hs;simp only[cond_true,Ba,Ah,fI (show j+1<=len from ax)]
  .cases h
 next c e hu=>
  cases hc:s7 i
  .rw[hc]at h;simp at h;split at h;next id off kd n hx hi=>
    split at h;next sz hs=>have⟨⟨h0,h1⟩,h⟩:=h;obtain⟨j,rfl⟩:=Int.eq_ofNat_of_zero_le h0;have ei:=hi;refine⟨_,?_,agq h (gq _) (by omega)⟩;simp only[fL,L3,hu,hx,ei,Ba,hs,fI (show j+1<=c by omega),cond_true]
    .cases h
   .cases h
  .rw[hc]at h;exact xa h
 .exact xa h
theorem agp{e sz cs k}:∀{c j} {i:Nat},W6 P e sz cs (i:Int) k j c->j<=i->i<j+c->∃v,cw P e cs (i*sz)=some v/\k v
 |0,j,i,_,h1,h2=>by omega
 |c+1,j,i,h,h1,h2=>by
  by_cases hi:i=j
  .subst hi;exact xa (h.1 rfl)
  .exact agp h.2 (by simp;omega) (by simp;omega)
theorem avQ{t x i k}(h:aaF P ρ H t x i k):∃v,fL P ρ H (.index t x i)=some v/\k v:=by
 unfold aaF at h;split at h;next cs kd n hx hi=>
  cases hc:s7 i
  .rw[hc]at h;simp at h;split at h;next c e hu=>
    split at h;next sz hs=>have⟨⟨h0,h1⟩,h⟩:=h;obtain⟨j,rfl⟩:=Int.eq_ofNat_of_zero_le h0;have⟨v,h2,h3⟩:=agp h (gq _) (by omega);refine⟨v,?_,h3⟩;have ei:=hi;simp only[fL,Q8,hu,hx,ei,Wz,hs,fI (show j+1<=c by omega),cond_true,h2]
    .cases h
   .cases h
  .rw[hc]at h;exact xa h
 next s kd n hx hi=>
  split at h;next hu=>have⟨kd',j,ei,b,h1,h2⟩:=Mt h;refine⟨_,?_,h2⟩;simp only[fL,Q8,hu,hx,ei,V4,h1]
  .cases h
 .cases h
theorem auh{kt e es key v b ok}(h:eT P kt e es key=some (v,b)):
 (match ou (ik P 100 kt) key es 0 with
   |some (some (_,v,_))=>some (mG ok v true)
   |some none=>(jZ P e).map (mG ok · false)
   |none=>none)=some (mG ok v b):=by
 unfold eT at h;split at h;next i v' b' hf=>cases h;first|rfl|rw[hf]
 next hf=>
  try rw[hf]
  cases hz:jZ P e with
  |none=>simp[hz]at h
  |some z=>simp[hz]at h⊢;obtain⟨rfl,rfl⟩:=h;rfl
 .cases h
theorem avS{t x key ok k}(h:aaI P ρ H t x key ok k):∃v,fL P ρ H (.lookup t x key ok)=some v/\k v:=by
 unfold aaI at h;split at h;next kt e id ky hu hx hk=>
  split at h;next es c p ho=>
   have⟨hp,h⟩:=ic h;have go:∀{v:AV} {b:Bool},eT P kt e es ky=some (v,b)->fL P ρ H (.lookup t x key ok)=some (kX P H e ok (mG ok v b)):=by intro v b h1;simp only[fL,L4,hu,hx,hk,Mb,hp,cond_true,Bg,ho];exact congrArg (Option.map (kX P H e ok)) (auh h1)
   split at h;next hX=>
    have⟨v,b,h1,h2⟩:=KO h;refine⟨_,go h1,?_⟩;have:kX P H e ok (mG ok v b)=mG ok v b:=by unfold kX;rw[hX]
    rw[this];exact h2
   next X hX=>
    unfold akl at h;split at h;next e' he=>
     split at h;next sz cv=>
      have⟨n,len,b,h1,h2⟩:=h;have key:∀v,kX P H e ok (mG ok v b)=mG ok (Fk sz v) b:=by intro v;unfold kX;rw[hX];simp only[he,cv];cases ok<;>rfl
      unfold It at h1;split at h1;next n' cB s b' hl=>have⟨hs,h1⟩:=dn h1;cases h1;have hs:=dG hs;subst hs;exact⟨_,go hl,by rw[key];exact h2⟩
      next b' hl=>cases h1;exact⟨_,go hl,by rw[key];exact h2⟩
      .cases h1
     .cases h
    next e' he=>
     have key:∀v,kX P H e ok v=v:=by intro v;unfold kX;rw[hX];simp only[he]
     have⟨c,h⟩:=h;cases c
     .have⟨n,off,b,h1,h2⟩:=h;exact⟨_,go h1,by rw[key];exact h2⟩
     .have⟨b,h1,h2⟩:=h;exact⟨_,go h1,by rw[key];exact h2⟩
    next hn1 BQ=>
     have key:∀v,kX P H e ok v=v:=by intro v;unfold kX;rw[hX];simp only
     have⟨v,b,h1,h2⟩:=KO h;exact⟨_,go h1,by rw[key];exact h2⟩
  .cases h
 next kt e ky hu hx hk=>have⟨hp,h⟩:=ic h;have⟨v,h1,h2⟩:=xa h;refine⟨v,?_,h2⟩;simp only[fL,L4,hu,hx,hk,Mb,hp,cond_true,Bg,ou];exact h1
 .cases h
theorem abi{t sz}(h:(match P.underlying t with|some (.slice e)=>(cU P e).any (Nat.beq sz)|_=>false)=true):∃e,P.underlying t=some (.slice e)/\cU P e=some sz:=by
 split at h;next e hu=>exact⟨e,hu,OL h⟩
 .cases h
theorem aCf{t}(h:(match P.underlying t with|some .string=>true|_=>false)=true):P.underlying t=some .string:=by
 split at h
 .assumption
 .cases h
theorem alm{id off len cap sz ex lo hi l h}(e2:GF lo 0=some l)(e1:GF hi len=some h)(h1:l<=h)(h2:h<=bif ex then cap else len):FH id off len cap sz ex lo hi none=some (.bq id (off+l*sz) (h-l) (Kt ex lo cap l) sz ex):=by
 unfold FH;cases lo<;>cases hi<;>simp only[GF]at e1 e2⊢<;>first
  |(cases e1;cases e2;simp[fI h1,fI h2];done)
  |(cases e1;simp[e2,fI h1,fI h2];done)
  |(cases e2;simp[e1,fI h1,fI h2];done)
  |(simp[e1,e2,fI h1,fI h2];done)
theorem aeq{lo a}(h:rp ρ lo=some a)(ex cap l):Kr ex lo cap l=Kt ex a cap l:=by
 cases lo with
 |none=>cases h;rfl
 |some x=>
  simp only[rp]at h;cases hx:ρ x with
  |none=>rw[hx]at h;cases h
  |some v=>rw[hx]at h;cases h;rfl
theorem avV{t x lo hi mx k}(h:aaK P ρ H t x lo hi mx k):∃v,fL P ρ H (.slice t x lo hi mx)=some v/\k v:=by
 unfold aaK at h;split at h;next cs len sz hx=>
  have⟨hc,hq⟩:=ic h;simp at hc;have⟨e,hu,hs⟩:=abi hc.2;have wM:mx=none:=by cases mx<;>simp at hc⊢
  subst wM;have⟨a,l,h1,h2,hq⟩:=A2 hq;have⟨b,h',h3,h4,hq⟩:=A2 hq;have⟨⟨g1,g2⟩,hq⟩:=hq;refine⟨_,?_,hq⟩;simp only[fL,Ca,h1,h3,hu,hx,hs,show rp ρ none=some none from rfl,yU,k7,cond_true];unfold SE;cases a<;>cases b<;>simp only[GF]at h2 h4⊢<;>first
   |(cases h2;cases h4;simp[fI g1,fI g2];done)
   |(cases h2;simp[h4,fI g1,fI g2];done)
   |(cases h4;simp[h2,fI g1,fI g2];done)
   |(simp[h2,h4,fI g1,fI g2];done)
 next id off len cap sz ex hx=>
  have⟨hc,hq⟩:=ic h;simp at hc;have⟨e,hu,hs⟩:=abi hc.2;have wM:mx=none:=by cases mx<;>simp at hc⊢
  subst wM;have⟨a,l,h1,h2,hq⟩:=A2 hq;have⟨b,h',h3,h4,hq⟩:=A2 hq;have⟨⟨g1,g2⟩,hq⟩:=hq;refine⟨_,?_,hq⟩;simp only[fL,Ca,h1,h3,hu,hx,hs,show rp ρ none=some none from rfl,yU,k7,cond_true];have hc:Kr ex lo cap l=Kt ex a cap l:=aeq h1 _ _ _;rw[hc];exact alm h2 h4 g1 g2
 next id len sz hx=>
  have⟨hc,hq⟩:=ic h;simp at hc;have⟨e,hu,hs⟩:=abi hc.2;have wM:mx=none:=by cases mx<;>simp at hc⊢
  subst wM;have⟨mB,hq⟩:=hq;have⟨a,l,h1,h2,hq⟩:=A2 hq;have⟨b,h',h3,h4,hq⟩:=A2 hq;have⟨⟨g1,g2⟩,hq⟩:=hq;refine⟨_,?_,hq⟩;simp only[fL,Ca,h1,h3,hu,hx,hs,yU,k7,show rp ρ none=some none from rfl,Option.isNone_none,fI mB,kZ,cond_true];have hc:Kr false lo 1 l=Kt false a 1 l:=aeq h1 _ _ _;rw[hc];exact alm h2 h4 g1 g2
 next s hx=>
  have⟨hc,hq⟩:=ic h;simp at hc;have hu:=aCf hc.2;have wM:mx=none:=by cases mx<;>simp at hc⊢
  subst wM;have⟨a,l,h1,h2,hq⟩:=A2 hq;have⟨b,h',h3,h4,hq⟩:=A2 hq;have⟨⟨g1,g2⟩,hq⟩:=hq;refine⟨_,?_,hq⟩;simp only[fL,Ca,h1,h3,hu,hx,show rp ρ none=some none from rfl,Option.isNone_none,cond_true];unfold SD;cases a<;>cases b<;>simp only[GF]at h2 h4⊢<;>first
   |(cases h2;cases h4;simp[fI g1,fI g2];done)
   |(cases h2;simp[h4,fI g1,fI g2];done)
   |(cases h4;simp[h2,fI g1,fI g2];done)
   |(simp[h2,h4,fI g1,fI g2];done)
 .exact xa h
theorem aoK{b A B}(h:aq b A B)(hb:b=true):A:=by subst hb;exact h
theorem aoJ{b A B}(h:aq b A B)(hb:b=false):B:=by subst hb;exact h
theorem aD{b A B}:aq b A B↔(b=true->A)/\(b=false->B):=by
 cases b
 .exact⟨λh=>⟨(λh=>by cases h),λ_=>h⟩,λh=>h.2 rfl⟩
 .exact⟨λh=>⟨λ_=>h,(λh=>by cases h)⟩,λh=>h.1 rfl⟩
theorem avU{c a b k}(h:aaJ ρ c a b k):∃v,fL P ρ H (.pick c a b)=some v/\k v:=by
 unfold aaJ at h;cases hc:ρ c with
 |none=>simp only[hc]at h
 |some vc=>
  cases ha:ρ a with
  |none=>cases vc<;>simp only[hc,ha]at h
  |some va=>
   cases hb:ρ b with
   |none=>cases vc<;>simp only[hc,ha,hb]at h
   |some vb=>
    cases vc<;>simp only[hc,ha,hb]at h<;>try (cases h;done)
    rename_i t;have key:∀v,(bif t then va else vb)=v->fL P ρ H (.pick c a b)=some v:=by
     intro v hv;simp only[fL,Zr,hc];cases t
     .simp at hv⊢;rw[hb,hv]
     .simp at hv⊢;rw[ha,hv]
    by_cases h2:∃x y,va=.ao x/\vb=.ao y
    .obtain⟨x,y,rfl,rfl⟩:=h2;refine⟨_,key _ ?_,h⟩;cases t<;>rfl
    .
     have h3:aq t (k va) (k vb):=by
      cases va<;>cases vb<;>first
       |exact h
       |exact absurd ⟨_,_,rfl,rfl⟩ h2
     cases t
     .exact⟨_,key _ rfl,h3⟩
     .exact⟨_,key _ rfl,h3⟩
theorem afN:∀{fs i cs ds xs ys b} (d' d),Bh P fs i cs ds=some b->xs.drop i=cs->ys.drop i=ds->
 ik.Dr P d' fs xs ys (ik P (d+1))=some b
 |[],i,cs,ds,xs,ys,b,d',d,he,hx,hy=>by
  cases cs with
  |nil=>cases ds with
   |nil=>simpa[Bh,ik.Dr]using he
   |cons=>simp[Bh]at he
  |cons=>simp[Bh]at he
 |f::fs,i,cs,ds,xs,ys,b,d',d,he,hx,hy=>by
  cases cs with
  |nil=>simp[Bh]at he
  |cons c cs=>
   cases ds with
   |nil=>simp[Bh]at he
   |cons dd ds=>
    have⟨lU,he⟩:=dn he;simp only[dk]at lU;have⟨hn,ho⟩:=lU;have ho:=dG ho;split at he;next td hu=>
     split at he;next x y h1 h2=>
      cases he;have asM:xs[i]? =some c:=by have:=congrArg (·[0]?) hx;simpa using this
      have asN:ys[i]? =some dd:=by have:=congrArg (·[0]?) hy;simpa using this
      have XL:BY P f.type=some false/\ik P (d+1) f.type c dd=some x:=by
       unfold afJ at h1;split at h1
       .split at h1;next hk=>subst hk;cases h1;exact⟨by simp[BY,hu],by simp[ik,hu]⟩
        .cases h1
       .cases h1;exact⟨by simp[BY,hu],by simp[ik,hu]⟩
       .cases h1;exact⟨by simp[BY,hu],by simp[ik,hu]⟩
       .cases h1
      have cE:f.name≠ "_" :=by simpa using hn
      have hpx:cw P f.type xs f.offset=some c:=by simp only[cw,XL.1,ho,asM]
      have hpy:cw P f.type ys f.offset=some dd:=by simp only[cw,XL.1,ho,asN]
      simp only[ik.Dr,az cE,hpx,hpy,XL.2];have YX:xs.drop (i+1)=cs:=by have:=congrArg (List.drop 1) hx;simpa[Nat.add_comm]using this
      have rY:ys.drop (i+1)=ds:=by have:=congrArg (List.drop 1) hy;simpa[Nat.add_comm]using this
      have ih:=afN d' d h2 YX rY;cases x
      .simp
      .simpa using ih
     .cases he
    .cases he
theorem PH{t cs ds b}(h:PG P t cs ds=some b):ik P 100 t (.ah cs) (.ah ds)=some b/\P.eqGuardType P.depth t=false:=by
 unfold PG at h;split at h;next fQ hu=>
  cases hc:(P.stoodInHeld t||P.eqGuardType P.depth t)
  .rw[hc]at h;simp at h;simp at hc;refine⟨?_,hc.2⟩;rw[ik]
   .simp only[hc.1,cond_false];exact afN 99 98 h rfl rfl
   .exact hu
  .rw[hc]at h;cases h
 .cases h
theorem aji{op t len k o}(h:Rz P op t len k)(ho:∀el,P.underlying t=some (.slice el)->len≠0->match op with|.eql=>o=some (.ao false)|.neq=>o=some (.ao true)|_=>True):∃v,o=some v/\k v:=by
 unfold Rz at h;split at h;next el hu=>have⟨h0,h⟩:=h;have:=ho el hu h0;cases op<;>first|exact h.elim|exact⟨_,this,h⟩
 .cases h
theorem avO{op t x y yt k}(h:aaE P ρ H op t x y yt k):∃v,fL P ρ H (.binOp op t x y yt)=some v/\k v:=by
 unfold aaE at h;split at h;next cs ds hx hy=>
  have key:∀{b:Bool} {v:AV},PG P t cs ds=some b->Bi P op t (.ah cs) (.ah ds)=some v->fL P ρ H (.binOp op t x y yt)=some v:=by intro b v hb hv;have⟨h1,h2⟩:=PH hb;simp only[fL,L2,hx,hy,GD,oB,Bz,h2,k7,Bool.not_false,yW];exact hv
  split at h;next b hb=>exact⟨_,key hb (by simp[Bi,(PH hb).1]),h⟩
  next b hb=>exact⟨_,key hb (by simp[Bi,(PH hb).1]),h⟩
  .cases h
 next cs len sz hx hy=>
  refine aji h λel hu h0=>?_
  have e:yO len=some false:=by unfold yO;rw[show Nat.beq len 0=false from by rw[qE,Ne,Nat.beq_eq];exact h0];rfl
  cases op<;>simp[fL,L2,hx,hy,GD,oB,Bz,Bi,ik,hu,e]<;>rfl
 next id len sz hx hy=>
  refine aji h λel hu h0=>?_
  have e:yO len=some false:=by unfold yO;rw[show Nat.beq len 0=false from by rw[qE,Ne,Nat.beq_eq];exact h0];rfl
  cases op<;>simp[fL,L2,hx,hy,GD,oB,Bz,Bi,ik,hu,e]<;>rfl
 .exact xa h
theorem avX{op k}(h:rd P ρ H op k):∃v,fL P ρ H op=some v/\k v:=by
 unfold rd at h;split at h
 .exact avR h
 .exact avP h
 .exact avQ h
 .exact avS h
 .exact avV h
 .exact avU h
 .exact avO h
 .exact xa h
theorem ZR{o k}(h:Mo H o k):∃ob g,o=some (ob,g)/\k (g H.bx) (H.eD ob):=by
 unfold Mo at h;split at h;next ob g hh n xx=>exact⟨ob,g,rfl,h⟩
 .cases h
theorem auv{op k}(h:mk P ρ H op k):∃ob g,qy P ρ op=some (ob,g)/\k (g H.bx) (H.eD ob):=by
 unfold mk at h;split at h;next t len cap=>
  unfold ai0 at h;cases hk:s7 cap
  .rw[hk]at h;have⟨hs,h⟩:=ic h;have nW:len=cap:=by cases len<;>cases cap<;>simp[ak8]at hs;rw[hs]
   subst nW;split at h;next elem n hu hc=>
    split at h;next s z fX h1 h2 h3=>obtain⟨c,rfl,h⟩:=h;have⟨hb,h⟩:=ic h;have⟨cu,h⟩:=h;have⟨ob,g,h4,h5⟩:=ZR h;refine⟨ob,g,?_,h5⟩;simp only[dk]at hb;have⟨⟨⟨⟨b1,b2⟩,b3⟩,b4⟩,b5⟩:=hb;have tZ:=hc;simp only[qy,Q_,hu,tZ,h1,h2,h3,hk,cond_false,ZL,fI (cM c),fI cu,b1,b2,b3,b4,b5,kZ,cond_true];exact h4
    .cases h
   .cases h
  .rw[hk]at h;exact ZR h
 .exact ZR h
end
section
def B'(S:F'):J6:=λf args H=>
 match L9 S f args H with
 |some ⟨p,v,H'⟩=> @ite _ p (Classical.propDecidable p) (some (v,H')) none
 |none=>none
def P9(S:F')(fr:fN)(H:AH):Option lJ:=
 match fr.p8 with
 |some l=>match H.bf l with
  |some (.gK st pe fn tmps nt params assign body d)=>match params with
   |[p]=>match fr.zh.bT p with
    |some a=> @dite _ (AA (.gK st pe fn tmps nt params assign body d) l [a]=some fr) (Classical.propDecidable _)
      (λ_=>match B' S 999999 [.gz l,a] H with|some (v,H')=>some ⟨ju v,none,H'⟩|none=>none) (λ_=>none)
    |none=>none
   |_=>none
  |_=>none
 |none=>none
def kK(S:bo):rO:=⟨P9 (oS S),λf args H=>bif BZ f then none else B' (oS S) f args H⟩
theorem Tr.aa8{α}{t:Tr α}:∀{n a},t.bT n=some a->t.fV n a=t:=by
 induction t with
 |gZ=>intro n a h;cases h
 |fU v l r EV EW=>
  intro n a h;rw[Tr.pL]at h;rw[Tr.xB];by_cases h0:n=0
  .rw[aO h0]at h⊢;rw[h]
  .rw[az h0]at h⊢;by_cases h1:n%2=1
   .rw[aO h1]at h⊢;rw[EV h]
   .rw[az h1]at h⊢;rw[EW h]
section
variable{P:Program}{ρ:Operand->Option AV}{H:AH}{S:bo}
def Gd(P:Program)(S:bo)(ρ:Operand->Option AV)(H:AH)(op:Op)(v:AV)(H':AH):Prop:=
 ∃aK up,nu P ρ H op=some aK/\kA P (kK S) H none aK=some ⟨.gk v,up,H'⟩
def Uf(P:Program)(S:bo)(ρ:Operand->Option AV)(H:AH)(op:Op)(x:AV)(H':AH):Prop:=
 ∃aK up,nu P ρ H op=some aK/\kA P (kK S) H none aK=some ⟨.dH [(x,false)],up,H'⟩
theorem Gd.uH{op v H'}(h:nu P ρ H op=some (.gE v H')):Gd P S ρ H op v H':=⟨_,none,h,rfl⟩
theorem ahF{o k}(h:BV o k):∃v H',o=some (.gE v H')/\k v H':=by
 unfold BV at h;split at h
 .exact⟨_,_,rfl,h⟩
 .cases h
theorem aaB{vs cs off}(h:off+cs.length<=vs.length):xe vs off cs=some (gg vs off cs):=by unfold xe;rw[XP,fI h];rfl
theorem as4{t a x k}(h:YR P ρ H t a x k):∃v H',Gd P S ρ H (.store t a x) v H'/\k v H':=by
 unfold YR at h;split at h;next id off v ha hx=>
  split at h;next vs e s ho hs=>have⟨hc,h⟩:=ic h;have⟨hl,h⟩:=h;exact⟨_,_,.uH (by simp only[nu,HD,ha,hx,Jg,ho,hs,hc,cond_true,aaB hl,qC,rq]),h⟩
  next vs e s ho hs=>have⟨hc,h⟩:=ic h;have⟨hl,h⟩:=h;exact⟨_,_,.uH (by simp only[nu,HD,ha,hx,Jg,ho,hs,hc,cond_true,aaB hl,qC,rq]),h⟩
  .have⟨v,H',h1,h2⟩:=ahF h;exact⟨v,H',.uH h1,h2⟩
 next n off v ha hx=>
  split at h;next s hs=>have⟨hc,h⟩:=ic h;have⟨vs,e,ho,hl,h⟩:=h;exact⟨_,_,.uH (by simp only[nu,HD,ha,hx,Ng,ho,hs,hc,cond_true,aaB hl,qC,rq]),h⟩
  .cases h
 .cases h
theorem ahE{t m key x k}(h:QU P ρ H t m key x k):∃v H',HB P ρ H t m key x=some (.gE v H')/\k v H':=by
 unfold QU at h;split at h;next kt e id ky v hu hm hk hx=>
  split at h;next es c p ho=>
   have⟨hp,h⟩:=ic h;have⟨bF,c',h1,h2⟩:=h;refine⟨_,_,?_,h2⟩;simp only[HB,hm,hk,hx,IC,hu,ho,hp,cond_true];unfold jX at h1;split at h1;next i a b hf=>have⟨hs,h1⟩:=dn h1;cases h1;simp only[hf,hs,cond_true,rq]
   next hf=>cases h1;simp only[hf,rq]
   .cases h1
  .cases h
 .cases h
theorem as2{t m key k}(h:YN P ρ H t m key k):∃v H',Li P ρ H t m key=some (.gE v H')/\k v H':=by
 unfold YN at h;split at h;next kt e id ky hu hm hk=>
  split at h;next es c p ho=>
   have⟨hp,h⟩:=ic h;have key:∀{v:AV} {b:Nat} {bF:List (AV×AV×Nat)} {c':Nat},Bu P kt e es c p ky=some (v,b,bF,c')->Li P ρ H t m key=some (.gE (.aC [kX P H e false v,uX b]) (H.cQ id (.bm bF c' p))):=by
    intro v b bF c' h1;simp only[Li,hu,hm,hk,PB,ho,hp,cond_true];unfold Bu at h1;split at h1;next i a b' hf=>have⟨hs,h1⟩:=dn h1;cases h1;simp only[hf,hs,cond_true]
    next hf=>
     split at h1;next z hz=>have⟨hs,h1⟩:=dn h1;cases h1;simp only[hf,hz,hs,cond_true]
     .cases h1
    .cases h1
   split at h;next hx=>
    have⟨v,h⟩:=KO h;have⟨b,bF,c',h1,h2⟩:=h;have hn:kX P H e false v=v:=by unfold kX;rw[hx]
    exact⟨_,_,by rw[key h1,hn],h2⟩
   next X hx=>
    unfold ahC at h;split at h;next e' he=>
     split at h;next sz cv=>
      have⟨n,len,b,bF,c',h1,h2⟩:=h;unfold DV at h1;split at h1;next n' cB s b' He c2 hg=>
       have⟨hs,h1⟩:=dn h1;cases h1;have:=dG hs;subst this;have hn:∀a b c,kX P H e false (.fF a b c)=.fF a b c:=by intro a b c;unfold kX;rw[hx];simp only[he,cv,cond_false,Fk]
       exact⟨_,_,by rw[key hg,hn],h2⟩
      next b' He c2 hg=>
       cases h1;have hn:kX P H e false .aJ=.fF 0 0 sz:=by unfold kX;rw[hx];simp only[he,cv,cond_false,Fk]
       exact⟨_,_,by rw[key hg,hn],h2⟩
      .cases h1
     .cases h
    .cases h
  .cases h
 .cases h
theorem as1{m s x k}(h:YO ρ H m s x k):∃v H',Qi ρ H m s x=some (.gE v H')/\k v H':=by
 unfold YO at h;split at h;next id kd b v hm hs hx=>
  split at h;next es c p ho=>
   have⟨hp,h⟩:=ic h;have⟨bF,h1,h2⟩:=h;refine⟨_,_,?_,h2⟩;simp only[Qi,hm,hs,hx,PC,ho];unfold Ct at h1;split at h1;next i hi=>cases h1;simp only[hi,hp,cond_true]
   .cases h1
  .cases h
 .cases h
theorem asZ{ts id key k}(h:YM P H ts id key k):∃v H',GM P H ts id key=some (.gE v H')/\k v H':=by
 unfold YM at h;split at h;next kt e es c p hu ho=>
  have⟨hp,h⟩:=ic h;have⟨bF,h1,h2⟩:=h;unfold ae1 at h1;split at h1;next i a b hf=>cases h1;exact⟨_,_,by simp only[GM,hu,ho,hp,cond_true,hf],h2⟩
  next hf=>
   cases h1;refine⟨.lI,H,by simp only[GM,hu,ho,hp,cond_true,hf],?_⟩;have:H.cQ id (.bm es c p)=H:=by
    cases H with
    |mk h n=>simp only[AH.cQ,AH.mk.injEq,and_true];exact Tr.aa8 ho
   rw[this]at h2;exact h2
  .cases h1
 .cases h
theorem Tr.abc{α}:∀(f n) (a b:α),n<=f->(Tr.vY f n a).fV n b=Tr.vY f n b
 |0,n,a,b,h=>by
  have:n=0:=by omega
  subst this;rw[Tr.abe,Tr.xB,aO rfl,Tr.abe]
 |f+1,n,a,b,h=>by
  rw[Tr.abd,Tr.abd];by_cases h0:n=0
  .subst h0;rw[aO rfl,aO rfl,Tr.xB,aO rfl]
  .rw[az h0,az h0];by_cases h1:n%2=1
   .rw[aO h1,aO h1,Tr.xB,az h0,aO h1,Tr.abc f _ a b (by omega)]
   .rw[az h1,az h1,Tr.xB,az h0,az h1,Tr.abc f _ a b (by omega)]
theorem Tr.aa9{α}{t:Tr α}:∀{n a b},(t.fV n a).fV n b=t.fV n b:=by
 induction t with
 |gZ=>intro n a b;exact Tr.abc n n a b (cM n)
 |fU v l r EV EW=>
  intro n a b;rw[Tr.xB,Tr.xB];by_cases h0:n=0
  .subst h0;rw[aO rfl,aO rfl,Tr.xB,aO rfl]
  .rw[az h0,az h0];by_cases h1:n%2=1
   .rw[aO h1,aO h1,Tr.xB,az h0,aO h1,EV]
   .rw[az h1,az h1,Tr.xB,az h0,az h1,EW]
theorem agN{elem id len sz n l vs k}(hl:Cn l)(hv:F1 H id len sz vs)(h:amI H id len (vs++l) elem k):∃nm H',Hq H elem id len sz n l=some (.fF nm (len+n) sz,H')/\k nm H':=by
 have⟨hh,m,x⟩:=H;cases x with
 |none=>cases h
 |some X=>
  have⟨g,c⟩:=X;refine⟨_,_,?_,h⟩;rcases hv with⟨rfl,rfl⟩|⟨h0,el,ho,bS⟩
  .have e1:(AH.eD ⟨hh,m,some ⟨g,c⟩⟩ (.ay [] elem)).bf m=some (.ay [] elem):=by rw[lW,aO rfl]
   simp only[Hq,u4,e1,qel,gW,k7,hl.1,hl.2,kZ,cond_true,Fm,PI,lW,rk,nI];simp only[AH.eD,AH.cQ,AH.Ny,Tr.aa9,XH.set,Cy,Bool.not_true,I_,cond_false,ki];rfl
  .obtain⟨len,rfl⟩:∃j,len=j+1:=⟨len-1,by omega⟩;have hi:QX ⟨hh,m,some ⟨g,c⟩⟩ id=some (m,AH.eD (AH.nM ⟨hh,m,some ⟨g,c⟩⟩ id none) (.ay vs el)):=by unfold QX;rw[ho]
   have e1:(AH.eD (AH.nM ⟨hh,m,some ⟨g,c⟩⟩ id none) (.ay vs el)).bf m=some (.ay vs el):=by rw[lW,Cg,aO rfl]
   simp only[Hq,hi,u4,e1,bS,k7,hl.1,hl.2,kZ,cond_true,Fm,PI,lW,rk,nI];simp only[AH.eD,AH.cQ,AH.Ny,AH.nM,Tr.aa9,XH.set];have hb:(!Nat.beq (len+1) 0)=true:=rfl;simp only[hb,yW];rfl
theorem aCq{sz x k}(h:abB H sz x k):∃n l,wu H sz x=some (n,l)/\k n l:=by
 unfold abB at h;split at h;next cs len s=>have⟨hs,h⟩:=ic h;exact⟨_,_,by simp only[wu,hs,cond_true],h⟩
 next id len s=>
  have⟨hs,h⟩:=ic h;split at h;next vs el ho=>have⟨hl,h⟩:=h;exact⟨_,_,by simp only[wu,hs,cond_true,ho,hl,k7],h⟩
  .cases h
 next id len s=>
  have⟨hs,vs,hv,h⟩:=ic h;refine⟨len,vs,?_,h⟩;rcases hv with⟨rfl,rfl⟩|⟨h0,el,ho,hl⟩
  .simp only[wu,hs,cond_true]
  .obtain⟨j,rfl⟩:∃j,len=j+1:=⟨len-1,by omega⟩;simp only[wu,hs,cond_true,ho,hl,k7]
 next id off len cap s ex=>
  split at h;next vs jA=>
   have⟨hs,h⟩:=ic h;have⟨hl,h⟩:=h;refine⟨_,_,?_,h⟩;have bS:((vs.drop off).take (len*sz)).length=len*sz:=by simp;omega
   simp only[wu,hs,cond_true,ah2 jA,oi,bS,k7,qC]
  .split at h;next n l he=>exact⟨n,l,he,h⟩
   .cases h
 .split at h;next n l he=>exact⟨n,l,he,h⟩
  .cases h
theorem an2{elem sz n s l k}(hn:1<=n)(h:zt H elem sz s n l k):∃v H',mi H elem sz s n l=some (v,H')/\k v H':=by
 obtain⟨m,rfl⟩:∃m,n=m+1:=⟨n-1,by omega⟩;unfold zt at h;split at h;next id len gI=>
  have⟨hs,h⟩:=ic h;split at h;next vs el ho=>have⟨⟨h1,h2,h3,h4⟩,h⟩:=h;exact⟨_,_,by simp only[mi,hs,fI h2,kZ,cond_true,u4,ho,h1,k7,h3,h4],h⟩
  .cases h
 next id off len cap gI ex=>
  have⟨hs,hq⟩:=ic h;split at hq;next vs el ho=>
   obtain⟨⟨h1,h2,⟨h3,h4⟩,h5⟩,hq⟩:=hq;subst h5;refine⟨_,_,?_,hq⟩;have bS:((vs.drop off).take (len*sz)).length=len*sz:=by simp;omega
   simp only[mi,hs,fI h2,kZ,cond_true,Eb,ho,oi,bS,k7,h3,h4,tg,cond_false]
  next vs el ho=>
   obtain⟨⟨h1,h2,⟨h3,h4⟩,h5⟩,hq⟩:=hq;subst h5;refine⟨_,_,?_,hq⟩;have bS:((vs.drop off).take (len*sz)).length=len*sz:=by simp;omega
   simp only[mi,hs,fI h2,kZ,cond_true,Eb,ho,oi,bS,k7,h3,h4,tg,cond_false]
  .split at hq
   .exact⟨_,_,by assumption,hq⟩
   .cases hq
 next id len gI=>have⟨hs,⟨h1,h2⟩,vs,h3,h4⟩:=ic h;have⟨nm,H',h5,h6⟩:=agN (n:=m+1) h2 h3 h4;exact⟨_,H',by simp only[mi,hs,fI h1,kZ,cond_true,h5],h6⟩
 .split at h
  .exact⟨_,_,by assumption,h⟩
  .cases h
def ajm(v:AV)(H:AH):Prop:=match v with|.bq id _ _ _ _ _=>∀vs e,H.bf id≠some (.aj vs e)|_=>True
theorem agK{v}(h:ajm v H):yl v H=H:=by
 unfold yl;split
 .split;next ho=>exact absurd ho (h _ _)
  .rfl
 .rfl
theorem agJ{H l elem n sz}(h:l.all eG=true):yl (.bq H.bx 0 n 1 sz false) (AH.eD H (.aj l elem))=AH.eD H (.ay l elem):=by
 have⟨t,m,x⟩:=H;have:(AH.eD ⟨t,m,x⟩ (.aj l elem)).bf m=some (.aj l elem):=by show(t.fV m _).bT m=_;rw[Tr.kD];exact aO rfl
 simp only[yl,this,h,cond_true];simp only[AH.eD,AH.cQ,Tr.aa9]
theorem ajn{H o n sz}(h:∀vs e,o≠.aj vs e):ajm (.bq H.bx 0 n 1 sz false) (AH.eD H o):=by
 have⟨t,m,x⟩:=H;intro vs e ho;have:(AH.eD ⟨t,m,x⟩ o).bf m=some o:=by show(t.fV m _).bT m=_;rw[Tr.kD];exact aO rfl
 rw[show(AH.mk t m x).bx=m from rfl,this]at ho;exact h vs e (dw ho)
theorem an1{elem sz n s l k}(hn:1<=n)(h:Vx H elem sz s n l k):∃v H',mi H elem sz s n l=some (v,H')/\k v (yl v H'):=by
 obtain⟨m,rfl⟩:∃m,n=m+1:=⟨n-1,by omega⟩;unfold Vx at h;split at h
 .have⟨⟨h1,h2,h3⟩,h⟩:=h;exact⟨.bq H.bx 0 (m+1) 1 sz false,AH.eD H (.aj l elem),by simp only[mi,fI h1,h2,kZ,cond_true],by rw[agJ h3];exact h⟩
 next id off len cap gI ex=>
  split at h;next vs el ho=>
   have⟨hs,hq⟩:=ic h;obtain⟨⟨h1,h2,⟨h3,h3p⟩,⟨h4,h4p⟩,rfl,h5⟩,hk⟩:=hq;have bS:((vs.drop off).take (len*sz)).length=len*sz:=by simp;omega
   have sub:∀p:AV->Bool,vs.all p=true->((vs.drop off).take (len*sz)).all p=true:=by intro p h4;rw[lZ]at h4⊢;exact λx hx=>h4 x (Fu (CE hx))
   have BG:Nat.ble (cap+1) (len+(m+1))=true:=fI (by omega);refine⟨.bq H.bx 0 (len+(m+1)) 1 sz false,AH.eD H (.aj ((vs.drop off).take (len*sz)++l) elem),?_,?_⟩
   .simp only[mi,hs,fI h2,kZ,cond_true,Eb,ho,oi,bS,k7,sc,sub _ h4,h3,BG]
   .rw[agJ (by rw[sc,sub _ h4p,h3p];rfl)];exact hk
  next vs el ho=>
   have⟨hs,hq⟩:=ic h;rw[ho]at hq;have⟨⟨h1,h2,⟨h3,h4⟩,h5⟩,hk⟩:=hq;subst h5;have bS:((vs.drop off).take (len*sz)).length=len*sz:=by simp;omega
   refine⟨.bq H.bx 0 (len+(m+1)) 1 sz false,AH.eD (H.cQ id (.bc [])) (.dR ((vs.drop off).take (len*sz)++l) elem),by simp only[mi,hs,fI h2,kZ,cond_true,Eb,ho,oi,bS,k7,h3,h4,tg,cond_false],?_⟩;have e:=agK (ajn (H:=H.cQ id (.bc [])) (o:=.dR ((vs.drop off).take (len*sz)++l) elem) (n:=len+(m+1)) (sz:=sz) (λ_ _ e=>by cases e));rw[nI]at e;rw[e];exact hk
  next vs el ho=>
   have⟨hs,hq⟩:=ic h;rw[ho]at hq;have⟨⟨h1,h2,⟨h3,h4⟩,h5⟩,hk⟩:=hq;subst h5;have bS:((vs.drop off).take (len*sz)).length=len*sz:=by simp;omega
   refine⟨.bq H.bx 0 (len+(m+1)) 1 sz false,AH.eD (H.cQ id (.bc [])) (.ay ((vs.drop off).take (len*sz)++l) elem),by simp only[mi,hs,fI h2,kZ,cond_true,Eb,ho,oi,bS,k7,h3,h4,tg,cond_false],?_⟩;have e:=agK (ajn (H:=H.cQ id (.bc [])) (o:=.ay ((vs.drop off).take (len*sz)++l) elem) (n:=len+(m+1)) (sz:=sz) (λ_ _ e=>by cases e));rw[nI]at e;rw[e];exact hk
  .cases h
 next id len gI=>
  have⟨hs,hq⟩:=ic h;split at hq;next vs el ho=>have⟨⟨h1,h2,h3,h4⟩,hq⟩:=hq;exact⟨.ai H.bx (len+(m+1)) sz,AH.eD (H.cQ id (.bc [])) (.ay (vs++l) elem),by simp only[mi,hs,fI h2,kZ,cond_true,u4,ho,h1,k7,h3,h4],hq⟩
  .cases hq
 next id len gI=>have⟨hs,⟨h1,h2⟩,vs,h3,h4⟩:=ic h;have⟨nm,H',h5,h6⟩:=agN (n:=m+1) h2 h3 h4;exact⟨.fF nm (len+(m+1)) sz,H',by simp only[mi,hs,fI h1,kZ,cond_true,h5],h6⟩
 .cases h
theorem adM{elem sz s l A}(h:Kk sz s A):mi H elem sz s 0 l=some (s,H)/\A:=by
 unfold Kk at h;split at h
 .exact⟨rfl,h⟩
 .have⟨hs,hl,h⟩:=ic h;exact⟨by simp only[mi,hs,I3,fI hl,kZ,cond_true],h⟩
 .have⟨hs,hl,h⟩:=ic h;exact⟨by simp only[mi,hs,I3,fI hl,kZ,cond_true],h⟩
 .have⟨hs,hl,h⟩:=ic h;exact⟨by simp only[mi,hs,I3,fI hl,kZ,cond_true],h⟩
 .exact⟨rfl,h⟩
 .cases h
theorem adO{elem sz n s L_ dR l k}(hlr:L_=true->dR=false)(h:ON H elem sz s L_ dR n l k):∃v H',mi H elem sz s n l=some (v,H')/\k v (bif dR&& !Nat.beq n 0 then yl v H' else H'):=by
 unfold ON at h;have key:dR=false->(n=0->Kk sz s (k s H))->(1<=n->zt H elem sz s n l k)->∃v H',mi H elem sz s n l=some (v,H')/\k v (bif dR&& !Nat.beq n 0 then yl v H' else H'):=by
  intro hr h0 h1;rw[hr];rcases I6 n with hn|hn
  .subst hn;have⟨a,b⟩:=adM (H:=H) (elem:=elem) (l:=l) (h0 rfl);exact⟨_,_,a,b⟩
  .exact an2 hn (h1 hn)
 cases L_
 .have⟨h0,h1⟩:=h;cases dR
  .exact key rfl h0 h1
  .rcases I6 n with hn|hn
   .subst hn;have⟨a,b⟩:=adM (H:=H) (elem:=elem) (l:=l) (h0 rfl);exact⟨_,_,a,b⟩
   .have⟨v,H',a,b⟩:=an1 hn (h1 hn);have:Nat.beq n 0=false:=by rw[qE,Ne,Nat.beq_eq];omega
    exact⟨v,H',a,by rw[this];exact b⟩
 .have hr:=hlr rfl;simp at h;split at h
  .exact key hr (λ_=>h) (λh=>by omega)
  .exact key hr (λh=>by omega) (λ_=>h)
theorem aub(x)(h:Zy x=true):LY x=false:=by unfold Zy at h;split at h<;>first|rfl|cases h
theorem asW{ts s x k}(h:YK P H ts s x k):∃v H',Gv P H ts s x=some (v,H')/\k v H':=by
 unfold YK at h;unfold Gv;split at h;next elem hu=>
  rw[hu];simp only;split at h;next sz fX hs jj=>
   rw[hs,jj];simp only;cases jG:Nat.ble fX 4194304&&(jZ P elem).any (λz=>Nat.beq z.dK.length sz)&&Za (ts[1]?.bind P.underlying)with
   |false=>
    rw[jG]at h;simp at h;unfold al6 at h;split at h;next kd n z ht hz=>
     have⟨hb,h⟩:=ic h;simp only[dk]at hb;obtain⟨i,rfl,hi,h⟩:=h;have⟨v,H',h6,h7⟩:=adO (by intro h;cases h) h;have jz:FP P H ts elem sz (.bU .i64 (i:Int))=some (i,j9 z.dK i):=by unfold FP;rw[ht];simp only[hz,hb.2,Nat.ble_eq_true_of_le hi,kZ,cond_true]
     exact⟨v,_,by simp only[hz,yU,hb.1,hb.2,kZ,cond_true,jz,h6,LY],h7⟩
    .cases h
   |true=>
   rw[jG]at h;simp at h;have hc:=jG;simp only[dk]at hc;have⟨⟨h1,h2⟩,h3⟩:=hc;rw[h1,h2];have⟨n,l,h4,h5⟩:=aCq h;have jz:FP P H ts elem sz x=some (n,l):=by
    unfold FP;unfold Za at h3;split at h3;next e YJ=>rw[YJ];exact h4
    .cases h3
   have⟨v,H',h6,h7⟩:=adO (aub x) h5;exact⟨v,_,by simp only[kZ,cond_true,jz,h6],h7⟩
  .cases h
 .cases h
theorem asY{b args ts k}(h:YL P H b args ts k):∃v H',Hw P H b args ts=some (.gE v H')/\k v H':=by
 unfold YL at h;split at h
 .have⟨v,H',h1,h2⟩:=asW h;exact⟨v,H',by simp only[Hw,h1,RV],h2⟩
 .have⟨v,H',h1,h2⟩:=asZ h;exact⟨v,H',h1,h2⟩
 .exact ahF h
theorem Kn{α:Type 1}{b o}{a:α}(h:(bif b then o else none)=some a):b=true/\o=some a:=by
 cases b
 .cases h
 .exact⟨rfl,h⟩
theorem Zx{f args ps n xb sp x}(h:Zw S f args H=some (ps,n,xb,sp))(hx:sC sp=some x):L9 (oS S) f args H=uq ps n H xb x:=by
 unfold Zw at h;unfold L9;split at h
 .cases h
 next r_ t' n' x' hv=>
  have⟨hm,h⟩:=Kn h;simp only[hm,cond_true];split at h;next args' ha=>
   split at h;next AF hs=>
    cases h;have:oS S f args' ⟨t',n,none⟩=some x:=by unfold oS;rw[hs];exact hx
    rw[this]
   next hs=>
    have h0:oS S f args' ⟨t',n',none⟩=none:=by unfold oS;rw[hs]
    rw[h0];split at h
    .cases h
    .split at h;next AF Ah=>
      cases h;have:∀X,S f args' ⟨t',n,some X⟩=some sp->oS S f args' ⟨t',n,some X⟩=some x:=by intro X hX;unfold oS;rw[hX];exact hx
      rw[this _ Ah]
     .cases h
  .cases h
theorem Rb{ps n xb p p' q x v H'}(h:uq ps n H xb (p,x)=some ⟨q,v,H'⟩):q=p/\uq ps n H xb (p',x)=some ⟨p',v,H'⟩:=by
 have⟨v0,⟨hs,ns,xs⟩⟩:=x;have⟨h0,next,x0⟩:=H;simp only[uq]at h⊢;have⟨hb,h⟩:=dn h;rw[hb];split at h;next v1 t1 EN QP=>
  split at h;next t2 Ii=>cases h;exact⟨rfl,rfl⟩
  .cases h
 .cases h
theorem Zj{S f args p v H'}(h:L9 S f args H=some ⟨p,v,H'⟩)(hp:p):B' S f args H=some (v,H'):=by unfold B';rw[h];exact aO hp
def ajW(k kp:AV->AH->Prop)(v:AV)(H':AH):Prop:=(ju v=.gk v/\k v H')\/∃x,v=.dH x/\kp x H'
theorem YP{r k kp}(h:EO r k kp):∃p v H',r=some ⟨p,v,H'⟩/\p/\ajW k kp v H':=by
 unfold EO at h;split at h
 .exact⟨_,_,_,rfl,h.1,.inr ⟨_,rfl,h.2⟩⟩
 next p v H' hn=>
  refine⟨_,_,_,rfl,h.1,.inl ⟨?_,h.2⟩⟩;cases v<;>first
   |rfl
   |exact(hn _ rfl).elim
 .cases h
theorem ahA{f args k kp}(h:Ik H S f args k kp):∃v H',B' (oS S) f args H=some (v,H')/\ajW k kp v H':=by
 unfold Ik at h;split at h;next ps n x hl=>have⟨p,v,H',ho,h⟩:=YP h;exact⟨v,H',Zj ((Zx hl rfl).trans ho) h.1,h.2⟩
 next ps n W g u hl=>
  have⟨w,h⟩:=h;have⟨p,v,H',ho,h⟩:=YP h
  .have he:∃p0 x0,g w=(p0,x0):=⟨_,_,rfl⟩;have⟨p0,x0,he⟩:=he;rw[he]at ho;have hp:=(Rb (p':=p0) ho).1;subst hp;have hw:∃w,(g w).1:=⟨w,by rw[he];exact h.1⟩;have hd:sC (.ex W g u)=some (g hw.choose):=dif_pos hw;have h2:=hw.choose_spec;have h3:=u _ w h2 (by rw[he];exact h.1);have wG:g hw.choose=((g hw.choose).1,x0):=Prod.ext rfl (by rw[h3,he]);have h4:=(Rb (p':=(g hw.choose).1) ho).2;rw[<-wG]at h4;exact⟨v,H',Zj ((Zx hl hd).trans h4) h2,h.2⟩
 next ps n xb W g u hl=>
  have h:∃b:Bool,∃w:W b,EO (uq ps n H xb (g b w)) k kp:=by
   have⟨b,h⟩:=h;cases b
   .have⟨w,h⟩:=h;exact⟨false,w,h⟩
   .have⟨w,h⟩:=h;exact⟨true,w,h⟩
  have⟨b,w,h⟩:=h;have⟨p,v,H',ho,h⟩:=YP h
  .have he:∃p0 x0,g b w=(p0,x0):=⟨_,_,rfl⟩;have⟨p0,x0,he⟩:=he;rw[he]at ho;have hp:=(Rb (p':=p0) ho).1;subst hp;have hw:∃p:(b:Bool)×W b,(g p.1 p.2).1:=⟨⟨b,w⟩,by show(g b w).1;rw[he];exact h.1⟩;have hd:sC (.PJ W g u)=some (g hw.choose.1 hw.choose.2):=dif_pos hw;have h2:=hw.choose_spec;have h3:=u _ _ b w h2 (by rw[he];exact h.1);have wG:g hw.choose.1 hw.choose.2=((g hw.choose.1 hw.choose.2).1,x0):=Prod.ext rfl (by rw[h3,he]);have h4:=(Rb (p':=(g hw.choose.1 hw.choose.2).1) ho).2;rw[<-wG]at h4;exact⟨v,H',Zj ((Zx hl hd).trans h4) h2,h.2⟩
 .cases h
theorem ahB{f args k kp}(hf:BZ f=false)(h:Ik H S f args k kp):(∃v H',kA P (kK S) H none (.qc f args)=some ⟨.gk v,none,H'⟩/\k v H')\/∃x H',kA P (kK S) H none (.qc f args)=some ⟨.dH [(x,false)],none,H'⟩/\kp x H':=by
 obtain⟨v,H',h1,⟨he,h2⟩|⟨x,rfl,h2⟩⟩:=ahA h
 .exact .inl ⟨v,H',by simp only[kA,KL,kK,hf,cond_false,h1,he],h2⟩
 .exact .inr ⟨x,H',by simp only[kA,KL,kK,hf,cond_false,h1,ju],h2⟩
theorem Sw{st pe fn nt l d p tmps assign body a fr}(h:AA (.gK st pe fn tmps nt [p] assign body d) l [a]=some fr):
 fr=⟨fn,tmps.fV p a,nt,[.gy assign,.zi,.gy body],[],.gj,none,some l⟩/\p+1<=nt:=by
 simp only[AA,ej,gW]at h;have⟨_,h⟩:=dn h;simp only[List.zip_cons_cons,List.zip_nil_right,rz,Sl,qD,oK]at h;cases hb:Nat.ble (p+1) nt with
 |false=>simp[hb]at h
 |true=>simp only[hb,cond_true]at h;cases h;exact⟨rfl,ph hb⟩
theorem as3{l args k}(h:YQ H S l args k):∃v H',kA P (kK S) H none (.uJ l args)=some ⟨.gk v,none,H'⟩/\k v H':=by
 unfold YQ at h;split at h;next st pe fn tmps nt params assign body d a ho=>
  split at h;next p=>
   split at h;next fr iJ=>
    obtain⟨v,H',h1,⟨X4,h2⟩|⟨x,_,h2⟩⟩:=ahA h
    rotate_left
    .exact h2.elim
    have hg:fr.zh.bT p=some a/\fr.p8=some l:=by obtain⟨rfl,_⟩:=Sw iJ;exact⟨by simp[Tr.kD],rfl⟩
    refine⟨v,H',?_,h2⟩;simp only[kA,ho,iJ,qD,kK,P9,hg.2,hg.1,h1,dite_true,X4]
   .cases h
  .cases h
 .cases h
theorem ahD{o k kp}(h:QS H S o k kp):(∃aK v H',o=some aK/\kA P (kK S) H none aK=some ⟨.gk v,none,H'⟩/\k v H')\/∃aK x H',o=some aK/\kA P (kK S) H none aK=some ⟨.dH [(x,false)],none,H'⟩/\kp x H':=by
 unfold QS at h;split at h;next f args=>
  cases hf:BZ f with
  |true=>rw[hf]at h;cases h
  |false=>
   rw[hf]at h;rcases ahB hf h with⟨v,H',h1,h2⟩|⟨v,H',h1,h2⟩
   .exact .inl ⟨_,v,H',rfl,h1,h2⟩
   .exact .inr ⟨_,v,H',rfl,h1,h2⟩
 .have⟨v,H',h1,h2⟩:=as3 (P:=P) h;exact .inl ⟨_,v,H',rfl,h1,h2⟩
 .cases h
theorem as5{op k kp}(h:hv P ρ H S op k kp):(∃v H',Gd P S ρ H op v H'/\k v H')\/∃x H',Uf P S ρ H op x H'/\kp x H':=by
 unfold hv at h;split at h
 .exact .inl (as4 h)
 .have⟨v,H',h1,h2⟩:=ahE h;exact .inl ⟨v,H',.uH h1,h2⟩
 .have⟨v,H',h1,h2⟩:=ahE h;exact .inl ⟨v,H',.uH h1,h2⟩
 .have⟨v,H',h1,h2⟩:=as2 h;exact .inl ⟨v,H',.uH h1,h2⟩
 .have⟨v,H',h1,h2⟩:=as1 h;exact .inl ⟨v,H',.uH h1,h2⟩
 next c=>
  unfold ahz at h;have⟨callee,args,ts⟩:=c;cases callee with
  |value f=>
   rcases ahD h with⟨aK,v,H',h1,h2,h3⟩|⟨aK,v,H',h1,h2,h3⟩
   .exact .inl ⟨v,H',⟨aK,none,h1,h2⟩,h3⟩
   .exact .inr ⟨v,H',⟨aK,none,h1,h2⟩,h3⟩
  |invoke r name=>
   rcases ahD h with⟨aK,v,H',h1,h2,h3⟩|⟨aK,v,H',h1,h2,h3⟩
   .exact .inl ⟨v,H',⟨aK,none,h1,h2⟩,h3⟩
   .exact .inr ⟨v,H',⟨aK,none,h1,h2⟩,h3⟩
  |builtin b=>
   simp only at h;split at h;next l hl=>have⟨v,H',h1,h2⟩:=asY h;exact .inl ⟨v,H',.uH (by simp only[nu,Xu,hl,h1]),h2⟩
   .cases h
 .unfold BV at h;split at h;next v H' ho=>exact .inl ⟨v,H',.uH ho,h⟩
  .cases h
 .unfold BV at h;split at h;next v H' ho=>exact .inl ⟨v,H',.uH ho,h⟩
  .cases h
 .have⟨n,v,h1,h2⟩:=h;exact .inl ⟨_,_,.uH h1,h2⟩
 .cases h
end
end
section
section
variable{P:Program}{S:bo}{ρ:Operand->Option AV}{H:AH}
theorem agQ{ops o tmps xJ no}(h:Qa ops o tmps xJ no):(mN ops o tmps.bT=some true/\xJ tmps)\/(mN ops o tmps.bT=some false/\no tmps):=by
 unfold Qa at h;unfold mN;split at h;next hg=>rw[hg];exact .inl ⟨rfl,h⟩
 next j py hg=>
  rw[hg];simp only;split at h
  .cases h
  next d hd=>
   rw[hd];simp only;split at h;next b hb=>
    rw[hb];cases b
    .have h:=aoJ h rfl;rw[Tr.aa8 hb]at h;cases py
     .simp at h;exact .inl ⟨rfl,h⟩
     .simp at h;exact .inr ⟨rfl,h⟩
    .have h:=aoK h rfl;rw[Tr.aa8 hb]at h;cases py
     .simp at h;exact .inr ⟨rfl,h⟩
     .simp at h;exact .inl ⟨rfl,h⟩
   next hb=>rw[hb];exact .inr ⟨rfl,h⟩
   .cases h
theorem A9{nt tmps o v k}(h:DQ nt tmps o v k):∃t,oK nt tmps o.dst v=some t/\k t:=by
 unfold DQ at h;split at h
 .exact⟨_,by assumption,h⟩
 .cases h
theorem aai{op k kp}(h:MG P S ρ H op k kp):
 (o0 op=true/\∃v,fL P ρ H op=some v/\k v H)\/(o0 op=false/\r6 op=true/\∃ob g,qy P ρ op=some (ob,g)/\k (g H.bx) (H.eD ob))\/
   (o0 op=false/\r6 op=false/\∃v H',Gd P S ρ H op v H'/\k v H')\/(o0 op=false/\r6 op=false/\∃x H',Uf P S ρ H op x H'/\kp x H'):=by
 unfold MG at h;cases h1:o0 op
 .rw[h1]at h;simp at h;cases h2:r6 op
  .rw[h2]at h;rcases as5 h with h|h
   .exact .inr (.inr (.inl ⟨rfl,rfl,h⟩))
   .exact .inr (.inr (.inr ⟨rfl,rfl,h⟩))
  .rw[h2]at h;exact .inr (.inl ⟨rfl,rfl,auv h⟩)
 .rw[h1]at h;exact .inl ⟨rfl,avX h⟩
theorem azr(v):Sy v v=true:=by unfold Sy;have: @decide (v=v) (Classical.propDecidable _)=true:= @decide_eq_true _ (Classical.propDecidable _) rfl;rw[this];cases mW v v<;>rfl
theorem abl{ops ms base cur}:∀{l k},Nd P ops ms base cur H l k->FK P ops ms base cur H l=true/\k
 |[],k,h=>⟨rfl,h⟩
 |j::l,k,h=>by
  simp only[Nd]at h;simp only[FK];split at h
  .cases h
  next o ho=>
   rw[ho];simp only;split at h
   .cases h
   next hw=>rw[hw];have⟨h1,h2⟩:=abl h;exact⟨by simp[h1],h2⟩
   next hw=>
    rw[hw];split at h
    .cases h
    next d hd=>
     split at h
     .cases h
     next v hv=>have⟨hr,h⟩:=h;have⟨h1,h2⟩:=abl h;refine⟨?_,h2⟩;rw[hr,hd];simp only[hv,yU,azr,h1,kZ]
theorem ag8{op v H'}(h:Gd P S ρ H op v H'):∃aK up,nu P ρ H op=some aK/\kA P (kK S) H none aK=some ⟨.gk v,up,H'⟩/\(∀d,aK≠.wg d)/\(∀v,aK≠.uI v)/\aK≠.wh:=by
 have⟨aK,up,h1,h2⟩:=h;refine⟨aK,up,h1,h2,?_,?_,?_⟩
 .rintro d rfl;cases h2
 .rintro v rfl;cases h2
 .rintro rfl;cases h2
theorem ag9{op v H'}(h:Uf P S ρ H op v H'):∃aK up,nu P ρ H op=some aK/\kA P (kK S) H none aK=some ⟨.dH [(v,false)],up,H'⟩/\(∀d,aK≠.wg d)/\(∀v,aK≠.uI v)/\aK≠.wh:=by
 have⟨aK,up,h1,h2⟩:=h;refine⟨aK,up,h1,h2,?_,?_,?_⟩
 .rintro d rfl;cases h2
 .rintro v rfl;cases h2
 .rintro rfl;cases h2
def adk(k:Tr AV->AH->Prop)(kp:AV->AH->Prop)(r:Oz):Prop:=(∃t H',r=.aH t H'/\k t H')\/∃x H',r=.dH [(x,false)] H'/\kp x H'
theorem aar{ops ms base nt kp}:∀{l done tmps H k},Fp P S ops ms base nt kp l done tmps H k->
 adk k kp (te P (kK S) ops ms base nt l done tmps H)
 |[],done,tmps,H,k,h=>.inl ⟨tmps,H,rfl,h⟩
 |i::rest,done,tmps,H,k,h=>by
  simp only[Fp]at h;simp only[te];split at h
  .cases h
  next o ho=>
   rw[ho];rcases agQ h with⟨hw,h⟩|⟨hw,h⟩
   .have go:∀{v:AV} {H':AH} {t:Tr AV},pc P (kK S) ops ms base done i nt tmps H o=.go t H'->Fp P S ops ms base nt kp rest (i::done) t H' k->
     adk k kp (match pc P (kK S) ops ms base done i nt tmps H o with|.go t H'=>te P (kK S) ops ms base nt rest (i::done) t H'|.dH c H'=>.dH c H'|.eI w=>.eI w):=by
     intro v H' t h1 h2;rw[h1];exact aar h2
    have yw:rb o.op=(o0 o.op||r6 o.op):=rfl;cases hl:rb o.op
    .rw[hl]at h;simp at h;rw[yw,Bool.or_eq_false_iff]at hl;rcases aai h with⟨h1,_⟩|⟨_,h1,_⟩|⟨h1,h2,v,H',h3,h4⟩|⟨h1,h2,x,H',h3,h4⟩
     .rw[hl.1]at h1;cases h1
     .rw[hl.2]at h1;cases h1
     .have⟨t,h5,h6⟩:=A9 h4;have⟨h7,h8⟩:=abl h6;have⟨aK,up,h9,BA,_⟩:=ag8 h3;refine go (v:=v) ?_ h8;simp only[pc,hw,cond_true,h1,h2,cond_false,h9,RW,BA,RX,h5,h7]
     .have⟨aK,up,h9,BA,_⟩:=ag9 h3;refine .inr ⟨x,H',?_,h4⟩;simp only[pc,hw,cond_true,h1,h2,cond_false,h9,RW,BA,RX]
    .rw[hl]at h;simp at h;rcases aai h with⟨h1,v,h2,h3⟩|⟨h1,h2,ob,g,h3,h4⟩|⟨h1,h2,_⟩|⟨h1,h2,_⟩
     .have⟨t,h5,h6⟩:=A9 h3;refine go (v:=v) ?_ h6;simp only[pc,hw,cond_true,h1,h2,MJ,r8,h5]
     .have⟨t,h5,h6⟩:=A9 h4;refine go (v:=g H.bx) ?_ h6;cases H with
      |mk hh n=>simp only[pc,hw,cond_true,h1,h2,cond_false,h3,Cp,r8];have BC:=h5;rw[BC]
     .rw[yw,h1,h2]at hl;cases hl
     .rw[yw,h1,h2]at hl;cases hl
   .have⟨t,h5,h6⟩:=A9 h;simp only[pc,hw,cond_false,r8,h5];exact aar h6
end
def fB(ds:List pD)(rd:Option Nat)(fn nt:Nat)(tmps:Tr AV)(todo:List dP):fN:=⟨fn,tmps,nt,todo,ds,.gj,none,rd⟩
abbrev pf:Nat->Nat->Tr AV->List dP->fN:=fB [] none
def Rh(m0:Nat):LV->Prop
 |[]=>True
 |.aa id _::l=>id<m0/\Rh m0 l
 |_=>False
def oT(m0:Nat):List pD->Prop
 |[]=>True
 |.oo d::l=>d<m0/\oT m0 l
 |.uF _ cap args::l=>Rh m0 cap/\Rh m0 args/\oT m0 l
def Sm(m0:Nat):Option Nat->Prop
 |none=>True
 |some l=>l<m0
theorem A8(m0):oT m0 []:=trivial
theorem avT(m0):Sm m0 none:=trivial
theorem ZE{φ ψ m0}(h:jh m0 φ ψ):∀{a l},Rh m0 a->bp φ a l->bp ψ a l
 |[],_,_,hv=>hv
 |.aa id off::a,l,hl,hv=>by obtain⟨x,l',rfl,h1,h2⟩:=hv;refine⟨x,l',rfl,?_,ZE h hl.2 h2⟩;have⟨e,h3,h4⟩:=h1;exact⟨e,(h id hl.1).trans h3,h4⟩
theorem AT{φ ψ m0}(h:jh m0 φ ψ):∀{ds l},oT m0 ds->pF φ ds l->pF ψ ds l
 |[],_,_,hd=>hd
 |.oo d::ds,_,hl,hd=>by obtain⟨x,l',rfl,h1,h2⟩:=hd;refine⟨x,l',rfl,?_,AT h hl.2 h2⟩;have⟨e,h3,h4⟩:=h1;exact⟨e,(h d hl.1).trans h3,h4⟩
 |.uF fn cap args::ds,_,hl,hd=>by obtain⟨x,l',rfl,h1,h2⟩:=hd;refine⟨x,l',rfl,?_,AT h hl.2.2 h2⟩;have⟨c,a,h3,hy,h4,h5⟩:=h1;exact⟨c,a,h3,hy,ZE h hl.1 h4,ZE h hl.2.1 h5⟩
theorem anC{φ ψ m0}(h:jh m0 φ ψ):∀{rd r},Sm m0 rd->RR φ rd r->RR ψ rd r
 |none,_,_,hr=>hr
 |some l,_,hl,hr=>by have⟨e,h1,h2⟩:=hr;exact⟨e,(h l hl).trans h1,h2⟩
section
variable{P:Program}{S:bo}
def Ud(rd:Option Nat)(P:Program)(H:AH)(m0:Nat)(bs:fv)(φ:cj)(w:World)(cp:Frame)(cs:List Frame)(r:lJ):Prop:=
 ∃aQ w',WR aQ bs r.H w'/\jh m0 φ aQ/\(cY bs w w'/\mT φ H aQ r.H)/\pG P aQ w w' cp cs r none rd
abbrev acG:=Ud none
def cb(P:Program)(m0:Nat)(fr:fN)(H:AH)(Q:lJ->Prop):Prop:=
 ∃r,Q r/\∀(φ:cj) (w:World) (bs:fv) (cp:Frame) (cs:List Frame),m0<=H.bx->WR φ bs H w->hQ bs w->tD φ fr cp->Ud fr.p8 P H m0 bs φ w cp cs r
theorem cH.low{m φ ψ H H'}(h:cH m φ H ψ H'){id}(hi:id<m):ψ id=φ id:=by
 cases hp:φ id with
 |none=>exact(h.2.2.1 id hi hp).1
 |some e=>exact h.1 id e hp
theorem cH.ag{m φ ψ H H'}(h:cH m φ H ψ H'):jh m φ ψ:=⟨λ_ hi=>h.low hi,h.1.ro,h.1.xs⟩
theorem pG.after{φ w w1 w' cp DJ cs r rd}(hs:Steps P (lone cp cs w) (lone DJ cs w1))(jw:DJ.fn=cp.fn)(h:pG P φ w1 w' DJ cs r none rd):pG P φ w w' cp cs r none rd:=by
 cases rd with
 |none=>have⟨c,e,g1,g2,g3,g4⟩:=h;exact⟨c,e,g1,hs.trans g2,g3,g4.trans jw⟩
 |some l=>
  intro c cs' hc;have:=h c cs' hc;have⟨e,up,H⟩:=r;cases e with
  |gk v=>have⟨v',g1,g2⟩:=this;exact⟨v',g1,hs.trans g2⟩
  |dH ch=>have⟨v',g1,g2⟩:=this;exact⟨v',g1,hs.trans g2⟩
theorem cb.iY{m0 fr fr' H H' Q}(cP:P.follows .mixedOrders=true){call}(hc:mf P call)(hu:fr.up=none)(h:jY P call fr H=.go fr' H')(ht:cb P m0 fr' H' Q):cb P m0 fr H Q:=by have⟨r,hq,hr⟩:=ht;refine⟨r,hq,λφ w bs cp cs hm hw hb hf=>?_⟩;have hs:=abo cP hc fr H φ w m0 bs cp cs hw hb hm hf (by rw[hu];trivial);rw[h]at hs;have⟨aQ,w',jU,oQ,g1,g2,g3,g4,g5,g6,g7,g8,g9,KT⟩:=hs;rw[hu]at g4;have gC:=g4;subst gC;have⟨jN,w1,k1,k2,k3,k4⟩:=hr aQ w' bs jU oQ (kF hm g8.2.1) g7 (hb.Dm g9.1) g2;rw[g5]at k4;exact⟨jN,w1,k1,g8.ag.rN k2,⟨g9.so k3.1,g8.2.2.2.qL k3.2⟩,pG.after g1 KT k4⟩
theorem cb.JA{m0 fr H r Q}(cP:P.follows .mixedOrders=true){call}(hc:mf P call)(hu:fr.up=none)(h:jY P call fr H=.zl r)(hq:Q r):cb P m0 fr H Q:=by refine⟨r,hq,λφ w bs cp cs hm hw hb hf=>?_⟩;have hs:=abo cP hc fr H φ w m0 bs cp cs hw hb hm hf (by rw[hu];trivial);rw[h]at hs;have⟨aQ,w',g1,g2,g3,g4⟩:=hs;rw[hu]at g4;exact⟨aQ,w',g1,g2.ag,⟨g3,g2.2.2.2⟩,g4⟩
theorem cb.Sv{m0 fr H Q Q'}(h:cb P m0 fr H Q)(hw:∀r,Q r->∃r',Q' r'/\∀(φ aQ:cj) (w w' bs cp cs),WR aQ bs r.H w'->pG P aQ w w' cp cs r none fr.p8->∃ψ,WR ψ bs r'.H w'/\(jh m0 aQ ψ/\mT aQ r.H ψ r'.H)/\pG P ψ w w' cp cs r' none fr.p8):cb P m0 fr H Q':=by have⟨r,hq,hr⟩:=h;have⟨r',BT,h2⟩:=hw r hq;refine⟨r',BT,λφ w bs cp cs hm vl hb hf=>?_⟩;have⟨aQ,w',g1,g2,g3,g4⟩:=hr φ w bs cp cs hm vl hb hf;have⟨ψ,k1,k2,k3⟩:=h2 φ aQ w w' bs cp cs g1 g4;exact⟨ψ,w',k1,g2.rN k2.1,⟨g3.1,g3.2.qL k2.2⟩,k3⟩
theorem aav{φ ψ}:∀{l xs},kY l=true->jQ φ l xs->jQ ψ l xs
 |[],_,_,h=>h
 |x::l,xs,hp,h=>by
  simp only[kY,dk]at hp;obtain⟨y,ys,rfl,h1,h2⟩:=h;refine⟨y,ys,rfl,?_,aav hp.2 h2⟩;cases x<;>first
   |exact h1
   |(simp[MN]at hp)
theorem cb.Jq{ds rd m0 fn nt tmps t todo H H2 Q oh l ps}(hp:kY todo=true)(hv:l9 m0 oh H=some ⟨ps,H2⟩)(ht:qJ (iz ps) tmps l=some t)(h:cb P m0 (fB ds rd fn nt t todo) H2 Q)(gU:oT m0 ds)(ug:Sm m0 rd):cb P m0 (fB ds rd fn nt tmps todo) H Q:=by
 have⟨r,hq,hr⟩:=h;obtain⟨tt,n,rfl,a_,jy,jl⟩:=AO hv;refine⟨r,hq,λφ w bs cp cs hm hw hb hf=>?_⟩;have ue:jh m0 φ (jd ps φ):=by refine⟨λid hi=>?_,λ_ _ h=>h,λ_ _ h=>h⟩;simp[jd,jl id hi]
 have hn:m0<=n:=by
  rcases I6 m0 with h0|h0
  .omega
  .have:=a_.lt _ (IS (jl (m0-1) (by omega)));simp only at this;omega
 have⟨aQ,w',g1,g2,g3,g4⟩:=hr (jd ps φ) w bs cp cs hn (hw.sm a_ jy) hb (by
  obtain⟨b,a,Iq,rfl,iJ,hi⟩:=hf;refine⟨b,a,Iq,rfl,⟨iJ.fn,⟨iJ.tr.1,?_⟩,AT ue gU iJ.dr,anC ue ug iJ.jP,iJ.km,λh=>by cases h⟩,aav hp hi⟩
  .intro s a' Ep;have⟨a0,h1,h2⟩:=Nu ht Ep;have⟨v,h3,h4⟩:=iJ.tr.2 s a0 h1;exact⟨v,h3,rD (xd a_ φ) h2 h4⟩)
 exact⟨aQ,w',g1,ue.rN g2,⟨g3.1,(mT.of rfl rfl:mT φ H (jd ps φ) ⟨tt,n,H.x⟩).qL g3.2⟩,g4⟩
theorem cb.aDe{ds m0 fn nt tmps t todo pt H H2 Q oh l ps}(hv:l9 m0 oh H=some ⟨ps,H2⟩)(ht:qJ (iz ps) tmps l=some t)(h:cb P m0 ⟨fn,t,nt,pt,ds,.iX,none,none⟩ H2 Q)(gU:oT m0 ds):cb P m0 ⟨fn,tmps,nt,todo,ds,.iX,none,none⟩ H Q:=by
 have⟨r,hq,hr⟩:=h;obtain⟨tt,n,rfl,a_,jy,jl⟩:=AO hv;refine⟨r,hq,λφ w bs cp cs hm hw hb hf=>?_⟩;have ue:jh m0 φ (jd ps φ):=⟨λid hi=>by simp[jd,jl id hi],λ_ _ h=>h,λ_ _ h=>h⟩;have hn:m0<=n:=by
  rcases I6 m0 with h0|h0
  .omega
  .have:=a_.lt _ (IS (jl (m0-1) (by omega)));simp only at this;omega
 have⟨aQ,w',g1,g2,g3,g4⟩:=hr (jd ps φ) w bs cp cs hn (hw.sm a_ jy) hb (by have⟨iJ,vi⟩:=hf;refine⟨⟨iJ.fn,⟨iJ.tr.1,?_⟩,AT ue gU iJ.dr,iJ.jP,iJ.km,λh=>by cases h⟩,vi⟩;intro s a' Ep;have⟨a0,h1,h2⟩:=Nu ht Ep;have⟨v,h3,h4⟩:=iJ.tr.2 s a0 h1;exact⟨v,h3,rD (xd a_ φ) h2 h4⟩);exact⟨aQ,w',g1,ue.rN g2,⟨g3.1,(mT.of rfl rfl:mT φ H (jd ps φ) ⟨tt,n,H.x⟩).qL g3.2⟩,g4⟩
theorem cb.aDd{ds m0 fn nt tmps t todo pt H H2 Q oh l ps x y}(hv:l9 m0 oh H=some ⟨ps,H2⟩)(hx:eC (iz ps) x=some y)(ht:qJ (iz ps) tmps l=some t)(h:cb P m0 ⟨fn,t,nt,pt,ds,.ll [(y,false)],none,none⟩ H2 Q)(gU:oT m0 ds):cb P m0 ⟨fn,tmps,nt,todo,ds,.ll [(x,false)],none,none⟩ H Q:=by
 have⟨r,hq,hr⟩:=h;obtain⟨tt,n,rfl,a_,jy,jl⟩:=AO hv;refine⟨r,hq,λφ w bs cp cs hm hw hb hf=>?_⟩;have ue:jh m0 φ (jd ps φ):=⟨λid hi=>by simp[jd,jl id hi],λ_ _ h=>h,λ_ _ h=>h⟩;have hn:m0<=n:=by
  rcases I6 m0 with h0|h0
  .omega
  .have:=a_.lt _ (IS (jl (m0-1) (by omega)));simp only at this;omega
 have⟨aQ,w',g1,g2,g3,g4⟩:=hr (jd ps φ) w bs cp cs hn (hw.sm a_ jy) hb (by
  have⟨iJ,vi⟩:=hf;refine⟨⟨iJ.fn,⟨iJ.tr.1,λs a' Ep=>?_⟩,AT ue gU iJ.dr,iJ.jP,iJ.km,λh=>by cases h⟩,?_⟩
  .have⟨a0,h1,h2⟩:=Nu ht Ep;have⟨v,h3,h4⟩:=iJ.tr.2 s a0 h1;exact⟨v,h3,rD (xd a_ φ) h2 h4⟩
  have⟨c',k1,v',l',k2,k3,k4⟩:=vi;exact⟨c',k1,v',l',k2,rD (xd a_ φ) hx k3,k4⟩)
 exact⟨aQ,w',g1,ue.rN g2,⟨g3.1,(mT.of rfl rfl:mT φ H (jd ps φ) ⟨tt,n,H.x⟩).qL g3.2⟩,g4⟩
theorem cb.sm{m0 fn nt tmps t todo H H2 Q oh l ps}(hp:kY todo=true)(hv:l9 m0 oh H=some ⟨ps,H2⟩)(ht:qJ (iz ps) tmps l=some t)(h:cb P m0 (pf fn nt t todo) H2 Q):cb P m0 (pf fn nt tmps todo) H Q:=
 cb.Jq hp hv ht h (A8 _) (avT _)
theorem ER.ret{φ v e}(h:ER φ (.gk v) e):ER φ (ju v) e:=by
 cases v<;>first
  |exact h
  |(have⟨_,_,h⟩:=h;exact h.elim)
theorem pG.ret{φ w w' cp cs v H}(h:pG P φ w w' cp cs ⟨.gk v,none,H⟩ none none):pG P φ w w' cp cs ⟨ju v,none,H⟩ none none:=by have⟨c,e,h1,h2⟩:=h;exact⟨c,e,h1.ret,h2⟩
theorem pG.CK{r jN lH w w' cp cs v v' H H' rd}(hr:su r jN lH)(hv:eC r v=some v')(h:pG P jN w w' cp cs ⟨ju v,none,H⟩ none rd):pG P lH w w' cp cs ⟨ju v',none,H'⟩ none rd:=by
 have key:(∃x x',v=.dH x/\v'=.dH x'/\eC r x=some x')\/(ju v=.gk v/\ju v'=.gk v'):=by
  cases v<;>simp only[eC]at hv;case dH x=>
   left;split at hv;next b hb=>cases hv;exact⟨x,b,rfl,rfl,hb⟩
   .cases hv
  all_goals right
  all_goals first
   |(cases hv;exact⟨rfl,rfl⟩)
   |(split at hv
     .first
      |(cases hv;exact⟨rfl,rfl⟩)
      |(split at hv
        .split at hv<;>(cases hv;exact⟨rfl,rfl⟩)
        .cases hv;exact⟨rfl,rfl⟩)
     .cases hv)
 rcases key with⟨x,x',rfl,rfl,hx⟩|⟨h1,h2⟩
 .cases rd with
  |none=>obtain⟨jU,e',⟨c',rfl,y,l',rfl,k1,k2⟩,k3⟩:=h;exact⟨jU,_,⟨_,rfl,y,l',rfl,rD hr hx k1,k2⟩,k3⟩
  |some l=>intro c cs' jG;obtain⟨c',⟨y,l',rfl,k1,k2⟩,k3⟩:=h c cs' jG;exact⟨_,⟨y,l',rfl,rD hr hx k1,k2⟩,k3⟩
 .rw[h1]at h;rw[h2];cases rd with
  |none=>obtain⟨jU,e',⟨v0,rfl,k1⟩,k2⟩:=h;exact⟨jU,_,⟨v0,rfl,rD hr hv k1⟩,k2⟩
  |some l=>intro c cs' jG;have⟨v0,k1,k2⟩:=h c cs' jG;exact⟨v0,rD hr hv k1,k2⟩
def pX(Q:AV->AH->Prop)(r:lJ):Prop:=∃v,r.e=ju v/\r.up=none/\Q v r.H
def J7(P:Program)(S:bo)(ds:List pD)(rd:Option Nat)(fn nt m0:Nat)(Q:lJ->Prop)(ret:Bool->Tr AV->AH->Prop):Prop:=
 ∀(b:Bool) (tmps:Tr AV) (todo:List dP) (H:AH),ret b tmps H->jY P (kK S) (fB ds rd fn nt tmps todo) H=uo (fB ds rd fn nt tmps todo) H (bif b then some .ret else none)->cb P m0 (fB ds rd fn nt tmps todo) H Q
theorem Zv{ds fn nt tmps todo H}(b):uo (fB ds none fn nt tmps todo) H (bif b then some .ret else none)=.go ⟨fn,tmps,nt,todo,ds,.iX,none,none⟩ H:=by cases b<;>rfl
theorem aaT{fn nt m0:Nat}{Q H fr l}(ug:fr.p8=none)(h:match l9 m0 (vo (AM l)) H with
 |some ⟨ps,H2⟩=>match eC (iz ps) (AM l)with
  |some v=>Q v H2
  |none=>False
 |none=>False) {H0} (ht:cb P m0 fr H0 (λr=>r=⟨.gk (AM l),none,H⟩)):cb P m0 fr H0 (pX Q):=by
 split at h;next ps H2 hv=>
  split at h;next v hr=>refine cb.Sv ht ?_;rintro r rfl;refine⟨⟨ju v,none,H2⟩,⟨v,rfl,rfl,h⟩,?_⟩;intro φ aQ w w' bs cp cs hw he;obtain⟨tt,n,rfl,a_,jy,jl⟩:=AO hv;refine⟨jd ps aQ,hw.sm a_ jy,⟨⟨λid hi=>by simp[jd,jl id hi],λ_ _ h=>h,λ_ _ h=>h⟩,.of rfl rfl⟩,?_⟩;rw[ug]at he⊢;exact he.ret.CK (xd a_ aQ) hr
  .cases h
 .cases h
theorem ad8(cP:P.follows .mixedOrders=true)(hc:mf P (kK S)){fn nt m0 Q}:J7 P S [] none fn nt m0 (pX Q) (λ_=>pI P fn m0 Q):=by
 intro b tmps todo H h hs;rw[Zv]at hs;unfold pI at h;split at h;next f hf=>
  split at h;next l hl=>refine aaT (fn:=fn) (nt:=nt) rfl h ?_;refine cb.iY cP hc rfl hs (cb.JA cP hc rfl ?_ rfl);simp only[jY,CS,IU,hf,hl]
  .cases h
 .cases h
theorem ad4(cP:P.follows .mixedOrders=true)(hc:mf P (kK S)){fn nt m0}(jw:(P.funcs[fn]?).isSome=true){Q x H tmps}(h:OS m0 Q x tmps H)(todo):cb P m0 ⟨fn,tmps,nt,todo,[],.ll [(x,false)],none,none⟩ H (pX Q):=by
 unfold OS at h;split at h;next ps H2 hv=>
  split at h;next v hr=>
   refine cb.Sv (cb.JA (r:=⟨ju (.dH x),none,H⟩) cP hc rfl ?_ rfl) ?_
   .simp only[jY,CS,IU,jw,cond_true,ju]
   .rintro r rfl;refine⟨⟨ju (.dH v),none,H2⟩,⟨_,rfl,rfl,h⟩,?_⟩;intro φ aQ w w' bs cp cs hw he;obtain⟨tt,n,rfl,a_,jy,jl⟩:=AO hv;refine⟨jd ps aQ,hw.sm a_ jy,⟨⟨λid hi=>by simp[jd,jl id hi],λ_ _ h=>h,λ_ _ h=>h⟩,.of rfl rfl⟩,?_⟩;exact he.CK (xd a_ aQ) (by simp only[eC,hr])
  .cases h
 .cases h
def U4(P:Program)(ds:List pD)(rd:Option Nat)(fn nt m0:Nat)(Q:lJ->Prop)(dH:AV->Tr AV->AH->Prop):Prop:=
 ∀(x:AV) (H:AH) (tmps:Tr AV) (todo:List dP),dH x tmps H->cb P m0 ⟨fn,tmps,nt,todo,ds,.ll [(x,false)],none,rd⟩ H Q
theorem aap{ds rd fn nt m0 Q}:U4 P ds rd fn nt m0 Q (λ_ _ _=>False):=λ_ _ _ _ h=>h.elim
theorem aud{t id off d H x}(hd:id≠d):s9 P (H.cQ d x) t id off=s9 P H t id off:=by
 have:(H.cQ d x).bf id=H.bf id:=by show(H.h.fV d x).bT id=H.h.bT id;rw[Tr.kD,az hd]
 have:(H.cQ d x).p9 id=H.p9 id:=by unfold AH.p9;rw[this]
 unfold s9;rw[this]
theorem auc{t off d}{H:AH}:s9 P (H.cQ d (.bc [])) t d off=none:=by
 have:(H.cQ d (.bc [])).bf d=some (.bc []):=by show(H.h.fV d _).bT d=_;rw[Tr.kD,aO rfl]
 have:(H.cQ d (.bc [])).p9 d=none:=by unfold AH.p9;rw[this]
 unfold s9;rw[this]
theorem aaR{d}{H:AH}{tmps x}:∀{rs l},sd P (H.cQ d (.bc [])) tmps rs=some l->sd P (H.cQ d x) tmps rs=some l
 |[],l,h=>h
 |.tmp t::rs,l,h=>by
  simp only[sd]at h⊢;cases ht:tmps.bT t with
  |none=>rw[ht]at h;cases h
  |some v=>rw[ht]at h;obtain⟨l',h1,rfl⟩:=CA.1 h;rw[aaR h1];rfl
 |.cell a t::rs,l,h=>by
  simp only[sd]at h⊢;cases ht:tmps.bT a with
  |none=>rw[ht]at h;cases h
  |some v=>
   rw[ht]at h;cases v<;>simp only at h⊢<;>try (cases h;done)
   rename_i id off;by_cases hd:id=d
   .subst hd;rw[auc]at h;cases h
   .rw[aud hd]at h⊢;cases hv:s9 P H t id off with
    |none=>rw[hv]at h;cases h
    |some v=>rw[hv]at h;obtain⟨l',h1,rfl⟩:=CA.1 h;rw[aaR h1];rfl
theorem WR.PW{φ bs}{H:AH}{w d x}(hd:d<H.bx)(hw:WR φ bs (H.cQ d x) w):WR φ bs (H.cQ d (.bc [])) w:=by
 have hg:∀{y:bk} {id:Nat},(H.cQ d y).bf id=if id=d then some y else H.bf id:=fun{y id}=>Tr.kD H.h d id y
 refine⟨?_,?_,hw.lt,?_,hw.se rfl rfl (by rw[xH,xH]) (λ_ _=>rfl) λid ob e h1 l1 h2=>.inl ?_⟩
 .intro id ob e h1 h2;rw[hg]at h1;by_cases hi:id=d
  .rw[aO hi]at h1;cases h1;have:=(hw.lt id e h2).1;exact⟨w.heap[e.b],Ax _,trivial⟩
  .rw[az hi]at h1;exact hw.ew id ob e (by rw[hg,az hi];exact h1) h2
 .intro id g_ ob bB e e' h1 l1 h2 h3 l2 h4 hb;rw[hg]at h1 h3;by_cases hi:id=d
  .rw[aO hi]at h1;cases h1;cases l1
  .by_cases hj:g_=d
   .rw[aO hj]at h3;cases h3;cases l2
   .rw[az hi]at h1;rw[az hj]at h3;exact hw.jg id g_ ob bB e e' (by rw[hg,az hi];exact h1) l1 h2 (by rw[hg,az hj];exact h3) l2 h4 hb
 .intro id ob h1;by_cases hi:id=d
  .rw[hi];exact hd
  .rw[hg,az hi]at h1;exact hw.nx id ob (by rw[hg,az hi];exact h1)
 .rw[hg]at h1;by_cases hi:id=d
  .rw[aO hi]at h1;cases h1;cases l1
  .rw[az hi]at h1;exact⟨id,ob,e,by rw[hg,az hi];exact h1,l1,h2,rfl⟩
theorem ad7(cP:P.follows .mixedOrders=true)(hc:mf P (kK S)){fn nt m0 d Q}(hd:d<m0):J7 P S [.oo d] none fn nt m0 (pX Q) (λ_=>OT P fn m0 Q d):=by
 intro b tmps todo H h hs;rw[Zv]at hs;simp only[OT]at h;split at h;next ho=>
  unfold pI at h;split at h;next f hf=>
   split at h;next l hl=>
    refine aaT (fn:=fn) (nt:=nt) rfl h ?_;refine cb.iY cP hc rfl hs ?_;refine cb.iY (fr':=⟨fn,tmps,nt,todo,[],.iX,none,none⟩) (H':=H.cQ d (.pB none)) cP hc rfl ?_ ?_
    .simp only[jY,CS,ho]
    .refine cb.Sv (cb.JA (Q:=λr=>r=⟨.gk (AM l),none,H.cQ d (.pB none)⟩) cP hc rfl ?_ rfl) ?_
     .simp only[jY,CS,IU,hf,aaR hl]
     .rintro r rfl;refine⟨_,rfl,λφ aQ w w' bs cp cs hw he=>⟨aQ,?_,⟨jh.zj _ _,.of (by show(H.cQ d _).x=(H.cQ d _).x;rw[xH,xH]) rfl⟩,he⟩⟩;refine WR.PW ?_ hw;by_cases hn:d<H.bx
      .exact hn
      .exact absurd (hw.nx d (.pB none) (by show(H.h.fV d _).bT d=_;rw[Tr.kD,aO rfl])) hn
   .cases h
  .cases h
 .cases h
theorem aor(cP:P.follows .mixedOrders=true)(hc:mf P (kK S)){fn nt m0 l Q}:J7 P S [] (some l) fn nt m0 (pX Q) (VK m0 Q l):=by
 intro b tmps todo H h hs;cases b with
 |true=>cases h
 |false=>
  simp only[VK,cond_false]at h;split at h;next st p lf tm ln ps a bd d ho=>
   split at h;next r_ H2 hv=>
    have Ah:jY P (kK S) (fB [] (some l) fn nt tmps todo) H=.zl ⟨.gk (.ao true),none,H.cQ l (.gK .ready none lf tm ln ps a bd d)⟩:=by rw[hs];simp only[fB,uo,Zu,cond_false,ho,Option.isNone_none,cond_true]
    refine cb.Sv (cb.JA cP hc rfl Ah rfl) ?_;rintro r rfl;refine⟨⟨.gk (.ao true),none,H2⟩,⟨_,rfl,rfl,h⟩,?_⟩;intro φ aQ w w' bs cp cs hw he;obtain⟨tt,n,rfl,a_,jy,jl⟩:=AO hv;refine⟨jd r_ aQ,hw.sm a_ jy,⟨⟨λid hi=>by simp[jd,jl id hi],λ_ _ h=>h,λ_ _ h=>h⟩,.of rfl rfl⟩,?_⟩;intro c cs' jG;have⟨v',g1,g2⟩:=he c cs' jG;exact⟨v',g1,g2⟩
   .cases h
  .cases h
theorem FF(cP:P.follows .mixedOrders=true)(hc:mf P (kK S)){ds rd fn nt m0 aR L ret Q}(gU:oT m0 ds)(ug:Sm m0 rd)(YB:J7 P S ds rd fn nt m0 Q ret){dH}(QL:U4 P ds rd fn nt m0 Q dH)(hL:∀t H todo,L t H todo->cb P m0 (fB ds rd fn nt t todo) H Q):∀(n) {tmps todo H},k_ P S nt m0 aR L ret dH rd n tmps todo H->cb P m0 (fB ds rd fn nt tmps todo) H Q
 |0,_,_,_,h=>by cases h
 |n+1,tmps,todo,H,h=>by
  have ih:=fun{tmps:Tr AV} {todo:List dP} {H:AH}=>FF cP hc (aR:=aR) gU ug YB QL hL n (tmps:=tmps) (todo:=todo) (H:=H)
  have loop:∀{body:Code} {k:List dP},OQ m0 aR L body k tmps H->cb P m0 (fB ds rd fn nt tmps (.gy body::.qK body::k)) H Q:=by
   intro body k h;unfold OQ at h;split at h
   .cases h
   .split at h;next i _ ps H2 hv=>
     split at h;next t ht=>obtain⟨hp,h⟩:=ic h;exact cb.Jq (by simp[kY,MN,hp]) hv ht (hL _ _ _ h) gU ug
     .cases h
    .cases h
  simp only[k_]at h;split at h
  .exact YB false tmps [] H h rfl
  .exact cb.iY cP hc rfl rfl (ih h)
  .exact cb.iY cP hc rfl rfl (ih h)
  next k=>
   split at h;next l=>
    split at h;next p lf lt ln ps a b d ho=>refine cb.iY cP hc rfl ?_ (ih h);simp only[fB,jY,qH,rG,SI,ho]
    .cases h
   .cases h
  next body k=>
   cases hb:S' aR body
   .rw[hb]at h;exact cb.iY cP hc rfl rfl (loop h)
   .rw[hb]at h;exact cb.iY cP hc rfl rfl (ih h)
  next ops i l k=>
   split at h
   .exact cb.iY cP hc rfl rfl (ih h)
   next o rest=>
    rcases agQ h with⟨hw,h⟩|⟨hw,h⟩
    .cases HW:ah4 o.op with
     |true=>
      rw[HW]at h;simp only[cond_true]at h;split at h;next v uf=>
       refine cb.iY cP hc rfl ?_ (QL _ _ tmps (.gY ops i (o::rest)::k) h);unfold ajV at uf;split at uf;next x nC=>
        split at uf;next t v0 uj=>
         cases uf;have e1:o0 o.op=false:=by rw[nC];rfl
         have e2:r6 o.op=false:=by rw[nC];rfl
         have e3:nu P (iw tmps) H o.op=some (.uI (.dT t v0)):=by rw[nC];simp only[nu,XA,uj]
         simp only[fB,jY,qH,rG,y6,hw,cond_true,e1,e2,cond_false,e3,xA,I',xq]
        .cases uf
       .cases uf
      .cases h
     |false=>
     rw[HW]at h;simp only[cond_false]at h;cases fJ:Zb aR o.op with
     |true=>
      rw[fJ]at h;simp only[cond_true]at h;unfold OU at h;split at h;next r_ H2 hv=>
       split at h;next t ht=>obtain⟨hp,h⟩:=ic h;exact cb.Jq hp hv ht (hL _ _ _ h) gU ug
       .cases h
      .cases h
     |false=>
     rw[fJ]at h;simp only[cond_false]at h;rcases aai h with⟨h1,v,h2,h3⟩|⟨h1,h2,ob,g,h3,h4⟩|⟨h1,h2,v,H',h3,h4⟩|⟨h1,h2,v,H',h3,h4⟩
     .obtain⟨t,h5,h6⟩:=A9 h3;refine cb.iY cP hc rfl ?_ (ih h6);simp only[fB,jY,qH,rG,y6,hw,cond_true,h1,h2,aa7,rn,h5]
     .obtain⟨t,h5,h6⟩:=A9 h4;refine cb.iY cP hc rfl ?_ (ih h6);cases H with
      |mk hh nn=>have BC:=h5;simp only[fB,jY,qH,rG,y6,hw,cond_true,h1,h2,cond_false,h3,aa6,rn,BC]
     .have⟨t,h5,h6⟩:=A9 h4;have⟨aK,up,h7,h8,n1,n2,n3⟩:=ag8 h3;refine cb.iY cP hc rfl ?_ (ih h6);simp only[fB,jY,qH,rG,y6,hw,cond_true,h1,h2,cond_false,h7];cases aK with
      |wg d=>exact absurd rfl (n1 d)
      |uI v=>exact absurd rfl (n2 v)
      |wh=>exact absurd rfl n3
      |gE v0 H0=>simp only[xA,h8,y4,rn,h5]
      |qc f as=>simp only[xA,h8,y4,rn,h5]
      |uJ f as=>simp only[xA,h8,y4,rn,h5]
     .have⟨aK,up,h7,h8,n1,n2,n3⟩:=ag9 h3;refine cb.iY cP hc rfl ?_ (QL _ _ tmps (.gY ops i (o::rest)::k) h4);simp only[fB,jY,qH,rG,y6,hw,cond_true,h1,h2,cond_false,h7];cases aK with
      |wg d=>exact absurd rfl (n1 d)
      |uI v=>exact absurd rfl (n2 v)
      |wh=>exact absurd rfl n3
      |gE v0 H0=>simp only[xA,h8,y4,I',xq]
      |qc f as=>simp only[xA,h8,y4,I',xq]
      |uJ f as=>simp only[xA,h8,y4,I',xq]
    .have⟨t,h5,h6⟩:=A9 h;refine cb.iY cP hc rfl ?_ (ih h6);simp only[fB,jY,qH,rG,y6,hw,cond_false,rn,h5]
  next c k=>
   split at h
   .exact YB true tmps _ H h rfl
   .exact cb.iY cP hc rfl rfl (ih h)
   .exact cb.iY cP hc rfl rfl (ih h)
   .exact cb.iY cP hc rfl rfl (ih h)
   next c a b=>
    split at h;next t ht=>
     cases t
     .refine cb.iY cP hc rfl ?_ (ih h);simp only[fB,jY,qH,rG,xD,abm,ht,to,cond_false]
     .refine cb.iY cP hc rfl ?_ (ih h);simp only[fB,jY,qH,rG,xD,abm,ht,to,cond_true]
    .cases h
   .exact cb.iY cP hc rfl rfl (ih h)
   .exact cb.iY cP hc rfl rfl (ih h)
   next body=>
    cases hb:S' aR body
    .rw[hb]at h;exact cb.iY cP hc rfl rfl (loop h)
    .rw[hb]at h;exact cb.iY cP hc rfl rfl (ih h)
   .split at h;next k' hk=>refine cb.iY cP hc rfl ?_ (ih h);simp only[fB,jY,qH,rG,xD,hk,abn,to]
    .cases h
   next id ops qT=>
    cases hsr:Zc aR id with
    |true=>
     rw[hsr]at h;simp at h;unfold OU at h;split at h;next r_ H2 hv=>
      split at h;next t ht=>have⟨hp,h⟩:=ic h;exact cb.Jq hp hv ht (hL _ _ _ h) gU ug
      .cases h
     .cases h
    |false=>
    rw[hsr]at h;simp at h;cases qT
    .exact cb.iY cP hc rfl rfl (ih h)
    .simp at h;split at h;next pl kP=>
      rcases aar h with⟨t,H',h1,h2⟩|⟨x,H',h1,h2⟩
      .refine cb.iY cP hc rfl ?_ (ih h2);simp only[fB,jY,qH,rG,xD,Nf,cond_true,kP,h1,aaq]
      .refine cb.iY cP hc rfl ?_ (QL _ _ (Hd tmps (GQ ops)) k h2);simp only[fB,jY,qH,rG,xD,Nf,cond_true,kP,h1,aaq,xq]
     .cases h
   next f ps a b=>
    unfold ad6 at h;split at h;next r_ H2 hv=>
     split at h;next t ht=>have⟨hp,h⟩:=ic h;exact cb.Jq (by simp[kY,MN,hp]) hv ht (hL _ _ _ h) gU ug
     .cases h
    .cases h
   .cases h
  .cases h
end
end
section
section
variable{φ:cj}
mutual
theorem Qp:∀{a:AV} {v:Value},VR φ a v->∀id∈kO a,∃e,φ id=some e
 |.ao _,_,_,_,h=>by simp[kO]at h
 |.bU _ _,_,_,_,h=>by simp[kO]at h
 |.ab _,_,_,_,h=>by simp[kO]at h
 |.aa i _,_,hv,id,h=>by simp[kO]at h;subst h;obtain⟨e,h1,_⟩:=hv;exact⟨e,h1⟩
 |.kE,_,_,_,h=>by simp[kO]at h
 |.bq i _ _ _ _ _,_,hv,id,h=>by simp[kO]at h;subst h;obtain⟨e,x,c,h1,_⟩:=hv;exact⟨e,h1⟩
 |.aJ,_,_,_,h=>by simp[kO]at h
 |.aA i,_,hv,id,h=>by simp[kO]at h;subst h;obtain⟨e,h1,_⟩:=hv;exact⟨e,h1⟩
 |.mF,_,_,_,h=>by simp[kO]at h
 |.ba _ f c,_,hv,id,h=>by
  simp only[kO,ia]at h;obtain⟨f',c',_,_,h1,h2⟩:=hv;rcases h with h|h
  .exact Er h1 id h
  .exact Er h2 id h
 |.gz i,_,hv,id,h=>by simp[kO]at h;subst h;obtain⟨e,h1,_⟩:=hv;exact⟨e,h1⟩
 |.p_,_,_,_,h=>by simp[kO]at h
 |.dT _ a,_,hv,id,h=>by simp only[kO]at h;obtain⟨v',_,h1⟩:=hv;exact Qp h1 id h
 |.lq,_,_,_,h=>by simp[kO]at h
 |.ah cs,_,hv,id,h=>by simp only[kO]at h;obtain⟨v',_,h1⟩:=hv;exact Er h1 id h
 |.aC cs,_,hv,id,h=>by simp only[kO]at h;obtain⟨v',_,h1⟩:=hv;exact Er h1 id h
 |.uW _,_,_,_,h=>by simp[kO]at h
 |.ad ..,_,_,_,h=>by simp[kO]at h
 |.pw _,_,_,_,h=>by simp[kO]at h
 |.ai ..,_,_,_,h=>by simp[kO]at h
theorem Er:∀{as:LV} {vs:List Value},bp φ as vs->∀id∈sP as,∃e,φ id=some e
 |[],_,_,_,h=>by simp[sP]at h
 |a::as,_,hv,id,h=>by
  simp only[sP,ia]at h;obtain⟨v,ep,rfl,h1,h2⟩:=hv;rcases h with h|h
  .exact Qp h1 id h
  .exact Er h2 id h
end
theorem XO:∀{t x},x∈Lk t->∃i a,t.bT i=some a/\x∈kO a
 |.gZ,x,h=>by cases h
 |.fU v l r,x,h=>by
  simp only[Lk,ia]at h;rcases h with(h|h)|h
  .cases v with
   |none=>cases h
   |some a=>exact⟨0,a,by rw[Tr.pL,aO rfl],h⟩
  .have⟨i,a,h1,h2⟩:=XO h;refine⟨2*i+1,a,?_,h2⟩;rw[Tr.pL,az (by omega),aO (by omega)];have:(2*i+1)/ 2=i:=by omega
   rw[this];exact h1
  .have⟨i,a,h1,h2⟩:=XO h;refine⟨2*i+2,a,?_,h2⟩;rw[Tr.pL,az (by omega),az (by omega)];have:(2*i+2)/ 2-1=i:=by omega
   rw[this];exact h1
theorem aaa{bs H w}(hw:WR φ bs H w):∀{ps hd},IM H hd ps=true->(∀id∈hd,∃e,φ id=some e)->
 ∀p∈ps,∃ob,H.bf p.1=some ob/\ob.aR=true/\((∃e,φ p.1=some e)\/∃vs el,ob=.ay vs el)
 |[],_,_,_,p,hp=>by cases hp
 |(o,n)::l,hd,h,hh,p,hp=>by
  simp only[IM]at h;split at h;next vs el ho=>
   rcases dm.1 hp with rfl|hp
   .exact⟨_,ho,rfl,.inr ⟨vs,el,rfl⟩⟩
   .exact aaa hw h hh p hp
  .cases h
  .cases h
  next n1 n2 n3=>
   cases eH:H.bf o with
   |none=>exact absurd eH n3
   |some ob=>
    have hl:ob.aR=true:=by cases ob<;>first|rfl|exact absurd eH (n2 _)
    cases XM:hd.any (Nat.beq o)
    .rw[XM]at h;cases h
    .rw[XM]at h;simp at h;have⟨x,hx,oz⟩:=List.any_eq_true.1 XM;have:=dG oz;subst this;have⟨e,he⟩:=hh _ hx;rcases dm.1 hp with rfl|hp
     .exact⟨ob,eH,hl,.inl ⟨e,he⟩⟩
     .refine aaa hw h ?_ p hp;intro id dE;rcases ia.1 dE with dE|dE
      .exact hh id dE
      .rw[eH]at dE;have⟨o',_,sY⟩:=hw.ew _ _ e eH he;cases ob<;>simp only[agZ]at dE<;>try (simp at dE;done)
       .obtain⟨cs,el,rfl,_,_,hv,_⟩:=sY;exact Er hv id dE
       .obtain⟨oM,ed,rfl,hd,ui⟩:=sY;rcases dm.1 dE with rfl|dE
        .exact⟨ed,hd⟩
        .have⟨i,a,h1,h2⟩:=XO dE;have⟨v,_,h4⟩:=ui.2 i a h1;exact Qp h4 id h2
end
theorem VQ{r Hs}:∀{ps t t' id bB},(ps.map (·.1)).Nodup->zv r Hs ps t=some t'->t'.bT id=some bB->
 (∃n,(id,n)∈ps/\((∃ob,Hs.bf n=some ob/\lD r ob=some bB)\/bB=.bc []))\/((∀n,(id,n)∉ps)/\t.bT id=some bB)
 |[],t,t',id,bB,_,h,hg=>by cases h;exact .inr ⟨(λ_ h=>by cases h),hg⟩
 |(o,n)::l,t,t',id,bB,hn,h,hg=>by
  simp at hn;have aH:∀x,zv r Hs l (t.fV o x)=some t'->((∃ob,Hs.bf n=some ob/\lD r ob=some x)\/x=.bc [])->
   (∃n',(id,n')∈(o,n)::l/\((∃ob,Hs.bf n'=some ob/\lD r ob=some bB)\/bB=.bc []))\/((∀n',(id,n')∉(o,n)::l)/\t.bT id=some bB):=by
   intro x hx QO;rcases VQ hn.2 hx hg with⟨n',h1,h2⟩|⟨h1,h2⟩
   .exact .inl ⟨n',dZ _ h1,h2⟩
   .rw[Tr.kD]at h2;by_cases hi:id=o
    .subst hi;rw[aO rfl]at h2;cases h2;exact .inl ⟨n,dJ ..,QO⟩
    .rw[az hi]at h2;refine .inr ⟨λn' hm=>?_,h2⟩;rcases dm.1 hm with hm|hm
     .cases hm;exact hi rfl
     .exact h1 n' hm
  simp only[zv]at h;split at h
  .exact aH _ h (.inr rfl)
  next ob ho=>
   split at h;next dp h1=>exact aH _ h (.inl ⟨ob,ho,h1⟩)
   .cases h
theorem aed{r Hs}:∀{ps t t' id},zv r Hs ps t=some t'->(∀n,(id,n)∉ps)->t'.bT id=t.bT id
 |[],t,t',id,h,_=>by cases h;rfl
 |(o,n)::l,t,t',id,h,hn=>by
  have cE:id≠o:=by rintro rfl;exact hn n (dJ ..)
  have aH:∀x,zv r Hs l (t.fV o x)=some t'->t'.bT id=t.bT id:=by intro x hx;rw[aed hx (λn' hm=>hn n' (dZ _ hm)),Tr.kD,az cE]
  simp only[zv]at h;split at h
  .exact aH _ h
  .split at h
   .exact aH _ h
   .cases h
theorem VO{r Hs k next}:∀{j t t' id bB},GA r Hs k next j t=some t'->t'.bT id=some bB->
 (∃i ob,i<j/\id=next+i/\Hs.bf (k+i)=some ob/\lD r ob=some bB)\/t.bT id=some bB
 |0,t,t',id,bB,h,hg=>by cases h;exact .inr hg
 |j+1,t,t',id,bB,h,hg=>by
  simp only[GA]at h;split at h
  .cases h
  next t1 h1=>
   have rest:∀{t2:Tr bk},t2=t1->t2.bT id=some bB->(∃i ob,i<j+1/\id=next+i/\Hs.bf (k+i)=some ob/\lD r ob=some bB)\/t.bT id=some bB:=by
    rintro t2 rfl hg;rcases VO h1 hg with⟨i,ob,a,b⟩|h2
    .exact .inl ⟨i,ob,by omega,b⟩
    .exact .inr h2
   split at h
   .cases h;exact rest rfl hg
   next ob ho=>
    split at h;next dp hr=>
     cases h;rw[Tr.kD]at hg;by_cases hi:id=next+j
     .rw[aO hi]at hg;cases hg;exact .inl ⟨j,ob,by omega,hi,ho,hr⟩
     .rw[az hi]at hg;exact rest rfl hg
    .cases h
theorem VP{r Hs k next}:∀{j t t' id},GA r Hs k next j t=some t'->id<next->t'.bT id=t.bT id
 |0,t,t',id,h,_=>by cases h;rfl
 |j+1,t,t',id,h,hi=>by
  simp only[GA]at h;split at h
  .cases h
  next t1 h1=>
   split at h
   .cases h;exact VP h1 hi
   .split at h
    .cases h;rw[Tr.kD,az (by omega)];exact VP h1 hi
    .cases h
theorem WR.akA{φ bs uO H w}(hw:WR φ bs H w)(h1:∀i e,φ i=some e->¬uO e.b)(h2:∀b o,φ.ro b=some o->¬uO b)(h3:∀n ob e,H.hJ n=some ob->φ.xs n=some e->¬uO e.b):WR φ uO H w:=
 ⟨hw.ew,hw.jg,λi e h=>let⟨a,_,c⟩:=hw.lt i e h;⟨a,h1 i e h,c⟩,hw.nx,⟨λb o h=>⟨⟨h2 b o h,(hw.ro b o h).1.2⟩,(hw.ro b o h).2⟩,λn ob h=>let⟨e,o,a,b,c⟩:=hw.wx.xo n ob h;⟨e,o,a,⟨h3 n ob e h a,b.2⟩,c⟩,hw.wx.xi,hw.wx.xl⟩⟩
def acu(P:Program)(S:F'):Prop:=
 ∀(f:FuncId) (args:LV) (H:AH) (p:Prop) (v:AV) (H':AH),f≠999999->S f args H=some (p,v,H')->p->
  ∀(φ:cj) (w:World) (bs:fv) (args':Array Value) (cs:List Frame),bp φ args args'.toList->WR φ bs H w->hQ bs w->acG P H H.bx bs φ w (Frame.enter P f args' .normal) cs ⟨ju v,none,H'⟩
theorem aiz{S f args H v H'}(hk:B' S f args H=some (v,H')){φ w m bs}(ar4:∀id∈sP args,∃e,φ id=some e)(hw:WR φ bs H w)(hb:hQ bs w)(hm:m<=H.bx){E:cj->World->AV->Prop}(hE:∀r jN lH v v' w',su r jN lH->eC r v=some v'->E jN w' v->E lH w' v')(hS:∀ps t n xc zu p vs Hs,J8 ps n->C' (iz ps) H ps .gZ=some t->j8 (iz ps) args=some zu->S f zu ⟨t,n,xc⟩=some (p,vs,Hs)->p->
 ∀qk:fv,WR (jd ps φ) qk ⟨t,n,xc⟩ w->hQ qk w->∃aQ w',WR aQ qk Hs w'/\jh n (jd ps φ) aQ/\(cY qk w w'/\mT (jd ps φ) ⟨t,n,xc⟩ aQ Hs)/\E aQ w' vs):
 ∃aQ w',WR aQ bs H' w'/\cH m φ H aQ H'/\cY bs w w'/\E aQ w' v:=by
 unfold B' at hk;split at hk;next p v0 H0 hl=>
  by_cases hp:p
  .rw[aO hp]at hk;cases hk;unfold L9 at hl;split at hl
   .cases hl
   next ps t n xv hv=>
    obtain⟨Yl,hl⟩:=dn hl;split at hl;next zu mz=>
     have hxv:xv=H.x:=by obtain⟨_,_,hH,_⟩:=AO hv;cases hH;rfl
     have h_:∃(xb:Bool) (xc:Option XH) (vV:Prop×AV×AH),((xb=false/\xc=none)\/(xb=true/\xc=H.x))/\S f zu ⟨t,n,xc⟩=some vV/\uq ps n H xb vV=some ⟨p,v,H'⟩:=by
      split at hl;next vV jH=>exact⟨false,none,vV,.inl ⟨rfl,rfl⟩,jH,hl⟩
      .split at hl
       .cases hl
       .split at hl;next vV jH=>exact⟨true,_,vV,.inr ⟨rfl,hxv⟩,jH,hl⟩
        .cases hl
     clear hl;by_cases asd:True
     .obtain⟨xb,xc,vV,LS,jH,hl⟩:=h_;obtain⟨p1,vs,⟨hs,ns,xs⟩⟩:=vV;obtain⟨h,next,x⟩:=H;simp only[uq]at hl;obtain⟨cu,hl⟩:=dn hl;have cu:=ph cu;split at hl;next v1 t1 EN QP=>
       split at hl;next t2 Ii=>
        cases hl;obtain⟨tt,nn,hH,a_,jy,_⟩:=AO hv;cases hH;have QH:=aaa hw Yl ar4;have LL:=xd a_ φ;have ue:∀{i e},jd ps φ i=some e->∃a,(a,i)∈ps/\φ a=some e:=λh=>IV h
        have ahH:=hw.sm a_ jy;let XB:Nat->Prop:=λb=>∃n ob e,(⟨h,next,x⟩:AH).hJ n=some ob/\φ.xs n=some e/\e.b=b
        let qk:fv:=λb=>(b<w.heap.size/\φ.ro b=none/\(xb=true->¬XB b))/\∀i e,jd ps φ i=some e->b≠e.b
        have arZ:∀{id ob e},(⟨h,next,x⟩:AH).bf id=some ob->ob.aR=true->φ id=some e->¬XB e.b:=by rintro id ob e h1 h2 h3 ⟨nn,gV,e2,k1,k2,k3⟩;obtain⟨e4,o4,r1,_,_,_,r5⟩:=hw.wx.xo nn gV k1;rw[k2]at r1;cases r1;exact r5 id ob e h1 h2 h3 k3.symm
        have Ln:∀b,bs b->qk b:=by
         intro b fp;refine⟨⟨hb b fp,?_,?_⟩,λi e hi he=>?_⟩
         .cases fS:φ.ro b with
          |none=>rfl
          |some o=>exact absurd fp (hw.ro b o fS).1.1
         .rintro _ ⟨nn,gV,e2,k1,k2,rfl⟩;obtain⟨e4,o4,r1,r2,_⟩:=hw.wx.xo nn gV k1;rw[k2]at r1;cases r1;exact r2.1 fp
         obtain⟨a,_,h2⟩:=ue hi;exact(hw.lt a e h2).2.1 (he▸fp)
        have LQ:WR (jd ps φ) qk ⟨t,n,xc⟩ w:=by
         have fS:∀b o,(jd ps φ).ro b=some o->¬qk b:=λb o ho fp=>by have ho:φ.ro b=some o:=ho;rw[fp.1.2.1]at ho;cases ho
         rcases LS with⟨_,rfl⟩|⟨rfl,rfl⟩
         .exact ahH.noX.akA (λi e hi fp=>fp.2 i e hi rfl) fS (λn ob e h=>by cases h)
         .exact ahH.akA (λi e hi fp=>fp.2 i e hi rfl) fS (λn' ob e h1 h2 fp=>fp.1.2.2 rfl ⟨n',ob,e,by rw[<-h1];exact tw (H:=⟨t,n,xc⟩) (H':=⟨h,next,xc⟩) rfl n',h2,rfl⟩)
        obtain⟨tz,w',g1,g2,⟨g3,gx⟩,g4⟩:=hS ps t n xc zu p vs ⟨hs,ns,xs⟩ a_ jy mz jH hp qk LQ (λb fp=>fp.1.1);have g2:=g2;let aQ:cj:=⟨λid=>if id<next then φ id else tz (n+(id-next)),tz.ro,tz.xs⟩
        have jl:∀{id},id<next->aQ id=φ id:=λhi=>aO hi
        have EF:∀{o i},(o,i)∈ps->o<next/\i<n/\tz i=φ o:=by intro o i Ad;obtain⟨ob,h1,_⟩:=QH _ Ad;refine⟨hw.nx o ob h1,a_.lt _ Ad,?_⟩;rw[g2 i (a_.lt _ Ad)];exact LL o i (Ry a_.n1 Ad)
        have Qr:su (xY ps n next) tz aQ:=by
         refine⟨λi c hc=>?_,λ_ _ h=>h,λ_ _ h=>h⟩;unfold xY at hc;cases mA:Nat.ble (i+1) n
         .rw[mA]at hc;simp only[cond_false,pg]at hc;subst hc;have sV:n<=i:=by
           rcases Fy i n with h1|h1
           .rw[fI (show i+1<=n from h1)]at mA;cases mA
           .exact h1
          show(if _ then _ else _)=_;rw[az (by omega)];congr 1;omega
         .rw[mA]at hc;simp only[cond_true]at hc;obtain⟨h1,_,h3⟩:=EF (IS hc);rw[jl h1,h3]
        have QO:∀{id bB},(⟨t2,next+(ns-n),bif xb then xs else x⟩:AH).bf id=some bB->
         (∃j ob,xY ps n next j=some id/\(⟨hs,ns,xs⟩:AH).bf j=some ob/\lD (xY ps n next) ob=some bB)\/(id<next/\bB=.bc [])\/(id<next/\(∀n,(id,n)∉ps)/\(⟨h,next,x⟩:AH).bf id=some bB):=by
         intro id bB ho;rcases VO Ii ho with⟨i,ob,a1,a2,a3,a4⟩|h1
         .refine .inl ⟨n+i,ob,?_,a3,a4⟩;unfold xY;have:Nat.ble (n+i+1) n=false:=by rw[qE,Ne,ux];omega
          rw[this,a2];simp
         .rcases VQ a_.n1 QP h1 with⟨n',a1,⟨ob,a2,a3⟩|a2⟩|⟨a1,a2⟩
          .refine .inl ⟨n',ob,?_,a2,a3⟩;unfold xY;rw[fI (show n'+1<=n from a_.lt _ a1)];exact MD a_.n2 a1
          .exact .inr (.inl ⟨(EF a1).1,a2⟩)
          .exact .inr (.inr ⟨hw.nx id bB a2,a1,a2⟩)
        have ey:∀{id ob e},(∀n,(id,n)∉ps)->(⟨h,next,x⟩:AH).bf id=some ob->ob.aR=true->φ id=some e->qk e.b:=by
         intro id ob e h1 h2 h3 h4;refine⟨⟨(hw.lt id e h4).1,?_,λ_=>arZ h2 h3 h4⟩,λi e2 hi he=>?_⟩
         .cases fS:φ.ro e.b with
          |none=>rfl
          |some o=>exact absurd rfl ((hw.ro _ o fS).2 id ob e h2 h3 h4)
         obtain⟨a,k1,k2⟩:=ue hi;obtain⟨gV,k3,k4,_⟩:=QH _ k1;have:=hw.jg id a ob gV e e2 h2 h3 h4 k3 k4 k2 he;subst this;exact h1 i k1
        have Yu:dv φ aQ:=⟨λid e h1=>by rw[jl (hw.lt id e h1).2.2];exact h1,g2.ro,g2.xs⟩;have iK:∀{id bB e},(⟨t2,next+(ns-n),bif xb then xs else x⟩:AH).bf id=some bB->bB.aR=true->aQ id=some e->
         (∃j ob,xY ps n next j=some id/\(⟨hs,ns,xs⟩:AH).bf j=some ob/\ob.aR=true/\tz j=some e)\/(id<next/\(⟨h,next,x⟩:AH).bf id=some bB/\φ id=some e/\qk e.b):=by
         intro id bB e h1 l1 h2;rcases QO h1 with⟨j,ob,a1,a2,a3⟩|⟨a1,a2⟩|⟨a1,a2,a3⟩
         .exact .inl ⟨j,ob,a1,a2,by rw[<-M4 a3];exact l1,by rw[<-Qr j id a1];exact h2⟩
         .subst a2;cases l1
         .rw[jl a1]at h2;exact .inr ⟨a1,a3,h2,ey a2 a3 l1 h2⟩
        have cv:=g3.1;refine⟨aQ,w',⟨?_,?_,?_,?_,?_⟩,⟨Yu,by show next<=next+(ns-n);omega,?_,?_⟩,⟨cv,λb fp=>g3.2.1 b (Ln b fp),g3.2.2⟩,?_⟩
        .intro id bB e h1 h2;rcases QO h1 with⟨j,ob,a1,a2,a3⟩|⟨a1,a2⟩|⟨a1,a2,a3⟩
         .have h3:tz j=some e:=by rw[<-Qr j id a1];exact h2
          obtain⟨o,k1,k2⟩:=g1.ew j ob e a2 h3;exact⟨o,k1,aaQ Qr a3 k2⟩
         .subst a2;rw[jl a1]at h2;have:=(hw.lt id e h2).1;exact⟨w'.heap[e.b]'(by omega),Ax _,trivial⟩
         .rw[jl a1]at h2;by_cases sT:bB.aR=true
          .have⟨o,k1,k2⟩:=hw.ew id bB e a3 h2;exact⟨o,(g3.2.1 _ (ey a2 a3 sT h2)).trans k1,k2.sq Yu⟩
          .cases bB<;>simp[bk.aR]at sT;have:=(hw.lt id e h2).1;exact⟨w'.heap[e.b]'(by omega),Ax _,trivial⟩
        .intro id g_ dp gV e e' h1 l1 h2 h3 l2 h4 oz;rcases iK h1 l1 h2 with⟨j,ob,a1,a2,a3,a4⟩|⟨a1,a2,a3,a4⟩<;>rcases iK h3 l2 h4 with⟨j',bB,b1,b2,b3,b4⟩|⟨b1,b2,b3,b4⟩
         .have:=g1.jg j j' ob bB e e' a2 a3 a4 b2 b3 b4 oz;subst this;rw[a1]at b1;cases b1;rfl
         .exact absurd (oz▸b4) (g1.lt j e a4).2.1
         .exact absurd (oz▸a4) (g1.lt j' e' b4).2.1
         .exact hw.jg id g_ dp gV e e' a2 l1 a3 b2 l2 b3 oz
        .intro id e h2;by_cases hi:id<next
         .rw[jl hi]at h2;have⟨k1,k2,_⟩:=hw.lt id e h2;exact⟨by omega,k2,by show id<next+(ns-n);omega⟩
         .have h3:tz (n+(id-next))=some e:=by rw[<-h2];exact(az hi).symm
          have⟨k1,k2,k3⟩:=g1.lt _ e h3;refine⟨k1,λfp=>k2 (Ln _ fp),?_⟩;have k3:n+(id-next)<ns:=k3;show id<next+(ns-n)
          omega
        .intro id bB h1;show id<next+(ns-n)
         rcases VO Ii h1 with⟨i,ob,a1,a2,_⟩|h2
         .omega
         .rcases VQ a_.n1 QP h2 with⟨n',a1,_⟩|⟨_,a2⟩
          .have:=(EF a1).1;omega
          .have:=hw.nx id bB a2;have:id<next:=this
           omega
        .have cE:∀b,¬qk b->(∀j ob e,(⟨hs,ns,xs⟩:AH).bf j=some ob->ob.aR=true->tz j=some e->e.b≠b)->∀id ob e,(⟨t2,next+(ns-n),bif xb then xs else x⟩:AH).bf id=some ob->ob.aR=true->aQ id=some e->e.b≠b:=by
          intro b k1 k3 id ob e h1 l1 h2 oz;rcases iK h1 l1 h2 with⟨j,ob,a1,a2,a3,a4⟩|⟨a1,a2,a3,a4⟩
          .exact k3 j ob e a2 a3 a4 oz
          .exact k1 (oz▸a4)
         have ar2:xb=false->∀nn ob e,(⟨h,next,x⟩:AH).hJ nn=some ob->φ.xs nn=some e->qk e.b:=by intro YY nn ob e k1 k2;have⟨e4,o4,r1,r2,r3,r4,r5⟩:=hw.wx.xo nn ob k1;rw[k2]at r1;cases r1;refine⟨⟨(MS.1 r2.2).1,r4,λhx=>by rw[YY]at hx;cases hx⟩,λi e2 hi he=>?_⟩;have⟨a,q1,q2⟩:=ue hi;have⟨gV,q3,q4,_⟩:=QH _ q1;exact r5 a gV e2 q3 q4 q2 he.symm
         refine⟨?_,?_,?_,?_⟩
         .intro b o fS;have⟨⟨k1,k2⟩,k3⟩:=g1.ro b o fS;exact⟨⟨λfp=>k1 (Ln b fp),k2⟩,cE b k1 k3⟩
         .intro nn ob ho;rcases LS with⟨rfl,rfl⟩|⟨rfl,rfl⟩
          .have ho:(⟨h,next,x⟩:AH).hJ nn=some ob:=by rw[<-tw (H:=⟨h,next,x⟩) (H':=⟨t2,next+(ns-n),x⟩) rfl];exact ho
           have⟨e,o,r1,r2,r3,r4,r5⟩:=hw.wx.xo nn ob ho;have oz:=ar2 rfl nn ob e ho r1;refine⟨e,o,g2.xs _ _ r1,⟨r2.1,(g3.2.1 _ oz).trans r2.2⟩,r3.sq Yu.pu,?_,?_⟩
           .cases hq:tz.ro e.b with
            |none=>rfl
            |some o'=>exact absurd oz (g1.ro _ o' hq).1.1
           .intro id dp e1 h1 l1 h2 mA;rcases iK h1 l1 h2 with⟨j,ob,a1,a2,a3,a4⟩|⟨a1,a2,a3,a4⟩
            .exact(g1.lt j e1 a4).2.1 (mA▸oz)
            .exact r5 id dp e1 a2 l1 a3 mA
          .have ho:(⟨hs,ns,xs⟩:AH).hJ nn=some ob:=by rw[<-tw (H:=⟨hs,ns,xs⟩) (H':=⟨t2,next+(ns-n),xs⟩) rfl];exact ho
           have⟨e,o,r1,r2,r3,r4,r5⟩:=g1.wx.xo nn ob ho;exact⟨e,o,r1,⟨λfp=>r2.1 (Ln _ fp),r2.2⟩,r3,r4,cE _ r2.1 r5⟩
         .intro nn Mu ob bB e e' h1 h2 h3 h4 oz;rcases LS with⟨rfl,rfl⟩|⟨rfl,rfl⟩
          .have h1:(⟨h,next,x⟩:AH).hJ nn=some ob:=by rw[<-tw (H:=⟨h,next,x⟩) (H':=⟨t2,next+(ns-n),x⟩) rfl];exact h1
           have h2:(⟨h,next,x⟩:AH).hJ Mu=some bB:=by rw[<-tw (H:=⟨h,next,x⟩) (H':=⟨t2,next+(ns-n),x⟩) rfl];exact h2
           have⟨e0,_,r1,_⟩:=hw.wx.xo nn ob h1;have⟨e0',_,r1',_⟩:=hw.wx.xo Mu bB h2;have h3:=h3;have h4:=h4;rw[g2.xs _ _ r1]at h3;cases h3;rw[g2.xs _ _ r1']at h4;cases h4;exact hw.wx.xi nn Mu ob bB _ _ h1 h2 r1 r1' oz
          .have h1:(⟨hs,ns,xs⟩:AH).hJ nn=some ob:=by rw[<-tw (H:=⟨hs,ns,xs⟩) (H':=⟨t2,next+(ns-n),xs⟩) rfl];exact h1
           have h2:(⟨hs,ns,xs⟩:AH).hJ Mu=some bB:=by rw[<-tw (H:=⟨hs,ns,xs⟩) (H':=⟨t2,next+(ns-n),xs⟩) rfl];exact h2
           exact g1.wx.xi nn Mu ob bB e e' h1 h2 h3 h4 oz
         .intro X hX nn e h1;rcases LS with⟨rfl,rfl⟩|⟨rfl,rfl⟩
          .exact hw.wx.xl X hX nn e (gx.2 (gx.1.2 rfl) nn e h1)
          .exact g1.wx.xl X hX nn e h1
        .intro id hi hn;have hi:=MX hi hm;refine⟨by rw[jl hi];exact hn,?_⟩;by_cases iK:∃n,(id,n)∈ps
         .have⟨n',iK⟩:=iK;obtain⟨ob,k1,_,⟨e,k2⟩|⟨vs,el,rfl⟩⟩:=QH _ iK
          .rw[hn]at k2;cases k2
          .exact .inr ⟨vs,el,k1⟩
         .left;show t2.bT id=h.bT id;rw[VP Ii hi,aed QP (λn' hm=>iK ⟨n',hm⟩)]
        .rcases LS with⟨rfl,rfl⟩|⟨rfl,rfl⟩
         .exact⟨Iff.rfl,λ_ nn e h1=>gx.2 (gx.1.2 rfl) nn e h1⟩
         .exact gx
        .exact hE _ _ _ _ _ _ Qr EN g4
       .cases hl
      .cases hl
     .exact absurd trivial asd
    .cases hl
  .rw[az hp]at hk;cases hk
 .cases hk
def AX(P:Program)(l:Nat)(a:AV)(H:AH)(v:AV)(H':AH):Prop:=
 ∃st pe fn tmps nt p assign body d fr,H.bf l=some (.gK st pe fn tmps nt [p] assign body d)/\AA (.gK st pe fn tmps nt [p] assign body d) l [a]=some fr/\
  ∀(φ:cj) (w:World) (bs:fv) (cp:Frame) (cs:List Frame),WR φ bs H w->hQ bs w->tD φ fr cp->Ud (some l) P H H.bx bs φ w cp cs ⟨ju v,none,H'⟩
def adu(P:Program)(S:F'):Prop:=
 ∀(args:LV) (H:AH) (p:Prop) (v:AV) (H':AH),S 999999 args H=some (p,v,H')->p->∃l a,args=[.gz l,a]/\AX P l a H v H'
theorem atz{P S}(hS:acu P S):Ou P (λf args H=>bif BZ f then none else B' S f args H):=by
 intro f args H v H' hk φ w m bs args' cs ha hw hb hm;cases hf:BZ f with
 |true=>simp only[hf,cond_true]at hk;cases hk
 |false=>
  simp only[hf,cond_false]at hk;have cE:f≠999999:=by rintro rfl;cases hf
  have⟨aQ,w',g1,g2,g3,g4⟩:=aiz hk (E:=λaQ w' v=>pG P aQ w w' (Frame.enter P f args' .normal) cs ⟨ju v,none,H'⟩ none none) (λid dE=>Er ha id dE) hw hb hm
   (by exact λr jN lH v v' w' hr hv h=>h.CK hr hv)
   (by intro ps t n xc zu p vs Hs a_ jy mz jH hp qk LQ jl;have⟨tz,w',g1,g2,g3,g4⟩:=hS f zu ⟨t,n,xc⟩ p vs Hs cE jH hp (jd ps φ) w qk args' cs (FB (xd a_ φ) mz ha) LQ jl;exact⟨tz,w',g1,g2,g3,g4⟩)
  exact⟨aQ,w',g1,g2,g3,g4⟩
theorem ars{P S}(hS:adu P S):gF P (P9 S):=by
 intro fr H r nV φ w m bs cp cs hw hb hm hf hu;unfold P9 at nV;split at nV;next l hl=>
  split at nV;next st pe fn tmps nt params assign body d ho=>
   split at nV;next p=>
    split at nV;next a ha=>
     split at nV;next iJ=>
      have⟨X6,hpn⟩:=Sw iJ;split at nV;next v H' hk=>
       cases nV;subst X6;obtain⟨b,ac,Iq,rfl,zY,hi⟩:=hf;have Yl:∀id∈sP [.gz l,a],∃e,φ id=some e:=by
        intro id dE;simp only[sP,kO,jm,ia,oe]at dE;rcases dE with rfl|dE
        .have⟨e,h1,_⟩:=zY.jP;exact⟨e,h1⟩
        .have⟨x,_,h4⟩:=zY.tr.2 p a ha;exact Qp h4 id dE
       have⟨aQ,w',g1,g2,g3,g4⟩:=aiz hk (E:=λaQ w' v=>pG P aQ w w' (b.atR ac Iq) cs ⟨ju v,none,H'⟩ none (some l)) Yl hw hb hm
        (by exact λr jN lH v v' w' hr hv he=>he.CK hr hv)
        (by
          intro ps t n xc zu p' vs Hs a_ jy mz jH hp qk LQ jl;have⟨l',a',ar5,ug⟩:=hS zu ⟨t,n,xc⟩ p' vs Hs jH hp;have⟨jL,pe',fn',oM,nt',p1,aon,aoI,d',fr',q1,q2,q3⟩:=ug;subst ar5;simp only[j8,eC]at mz;cases H8:iz ps l with
          |none=>rw[H8]at mz;cases mz
          |some l1=>
           rw[H8]at mz;cases EC:eC (iz ps) a with
           |none=>rw[EC]at mz;cases mz
           |some a1=>
            rw[EC]at mz;simp at mz;obtain⟨rfl,rfl⟩:=mz;have asG:∃o ob,(o,l1)∈ps/\H.bf o=some ob/\lD (iz ps) ob=some (.gK jL pe' fn' oM nt' [p1] aon aoI d'):=by
             rcases Tf jy q1 with h1|h1
             .exact h1
             .cases h1
            have⟨o,ob,k1,k2,k3⟩:=asG;have:=Mn a_.n2 k1 (ZU H8);subst this;rw[ho]at k2;cases k2;simp only[lD]at k3;split at k3;next t2 d2 Ii hd2=>
             cases k3;have⟨asp,_⟩:=Sw q2;subst asp;have LL:=xd a_ φ;have⟨tz,w',g1,g2,g3,g4⟩:=q3 (jd ps φ) w qk (b.atR ac Iq) cs LQ jl (by
              refine⟨b,ac,Iq,rfl,⟨zY.fn,⟨zY.tr.1,λi x hx=>?_⟩,zY.dr,?_,zY.km,λh=>by cases h⟩,aav rfl hi⟩
              .have hx:=hx;rw[Tr.kD]at hx;by_cases HW:i=p
               .subst HW;rw[aO rfl]at hx;cases hx;have⟨v0,h3,h4⟩:=zY.tr.2 i a (by show(tmps.fV i a).bT i=_;rw[Tr.kD,aO rfl]);exact⟨v0,h3,rD LL EC h4⟩
               .rw[az HW]at hx;have⟨x0,h1,h2⟩:=Sq Ii hx;have⟨v0,h3,h4⟩:=zY.tr.2 i x0 (by show(tmps.fV p a).bT i=_;rw[Tr.kD,az HW];exact h1);exact⟨v0,h3,rD LL h2 h4⟩
              .have⟨e,h1,h2⟩:=zY.jP;exact⟨e,(LL _ l1 H8).trans h1,h2⟩)
             exact⟨tz,w',g1,g2,g3,g4⟩
            .cases k3)
       exact⟨aQ,w',g1,g2,g3,g4⟩
      .cases nV
     .cases nV
    .cases nV
   .cases nV
  .cases nV
 .cases nV
def aU(P:Program)(S:bo):Prop:=acu P (oS S)/\adu P (oS S)
theorem pK{P S}(hS:aU P S):mf P (kK S):=⟨ars hS.2,atz hS.1⟩
end
section
def bZ(P:Program)(f:FuncId)(args:LV)(H:AH)(v:AV)(H':AH):Prop:=
 ∀(φ:cj) (w:World) (bs:fv) (args':Array Value) (cs:List Frame),bp φ args args'.toList->WR φ bs H w->hQ bs w->acG P H H.bx bs φ w (Frame.enter P f args' .normal) cs ⟨ju v,none,H'⟩
def fA(v:AV)(H:AH):AV->AH->Prop:=λv' H'=>v'=v/\H'=H
section
variable{P:Program}{S:bo}
theorem aqD{f fn c args H v H1}(hf:P.funcs[f]? =some fn)(hb:fn.body=some c)(bS:args.length<=fn.ntmps)(h:cb P H.bx (pf f fn.ntmps (Tr.Cm args 0 .gZ) [.gy c]) H (pX (fA v H1))):bZ P f args H v H1:=by
 intro φ w bs args' cs ha hw jl;obtain⟨r,⟨v',he,hu,rfl,hH⟩,hr⟩:=h;have Ag:r=⟨ju v',none,H1⟩:=by have⟨e,u,h⟩:=r;simp only at he hu hH;rw[he,hu,hH]
 subst Ag;refine hr φ w bs _ cs (cM _) hw jl ?_;have H5:args'.size<=fn.ntmps:=by have:=ha.jf;simp at this;omega
 let b:Frame:={(default:Frame)with fn:=f,kind:=.normal,roundOf:=none}
 refine⟨b,{tmps:=args'++Array.replicate (fn.ntmps-args'.size) undef,defers:=[]},[.code c],?_,⟨rfl,⟨?_,?_⟩,rfl,rfl,rfl,λ_=>rfl⟩,⟨_,_,rfl,rfl,rfl⟩⟩
 .simp[Frame.enter,Frame.atR,hf,hb,b]
 .show _=fn.ntmps;simp;omega
 .intro i x hx;have hx:(Tr.Cm args 0 .gZ).bT i=some x:=hx;rw[Tr.agw]at hx;split at hx;next hi=>
   simp at hx;have⟨v,h1,h2⟩:=ha.get hx;refine⟨v,?_,h2⟩;rw[Array.getElem?_append_left]
   .simpa using h1
   .have:=(MW.1 h1).1;simpa using this
  .cases hx
def hZ(ds:List pD)(P:Program)(f nt m0:Nat)(v:AV)(H1:AH):Tr AV->AH->List dP->Prop:=λt H todo=>cb P m0 (fB ds none f nt t todo) H (pX (fA v H1))
abbrev br:Program->Nat->Nat->Nat->AV->AH->Tr AV->AH->List dP->Prop:=hZ []
theorem aqy(cP:P.follows .mixedOrders=true)(hS:aU P S){aR n f nt args H v H1}(mD:(P.funcs[f]?).map (·.ntmps)=some nt)(h:bI P S aR (br P f nt H.bx v H1) (fA v H1) n f args H):bZ P f args H v H1:=by
 unfold bI at h;split at h;next fn jw=>
  rw[jw]at mD;simp at mD;subst mD;split at h;next c hc=>have⟨hb,h⟩:=ic h;simp only[dk]at hb;exact aqD jw hc (ph hb.1) (FF (ds:=[]) (rd:=none) cP (pK hS) trivial trivial (ad8 cP (pK hS)) (λx H t k h=>ad4 cP (pK hS) (by rw[jw];rfl) h k) (λ_ _ _ h=>h) n h)
  .cases h
 .cases h
theorem ash(cP:P.follows .mixedOrders=true)(hS:aU P S){aR n f nt m0 t todo H v H1}(mD:(P.funcs[f]?).map (·.ntmps)=some nt)(h:ck P S aR (br P f nt m0 v H1) (fA v H1) n f m0 t todo H):br P f nt m0 v H1 t H todo:=by
 unfold ck at h;split at h;next fn jw=>rw[jw]at mD;simp at mD;subst mD;exact FF (ds:=[]) (rd:=none) cP (pK hS) trivial trivial (ad8 cP (pK hS)) (λx H t k h=>ad4 cP (pK hS) (by rw[jw];rfl) h k) (λ_ _ _ h=>h) n h
 .cases h
theorem XW(cP:P.follows .mixedOrders=true)(hS:aU P S){aR n f nt m0 d t todo H v H1}(hd:d<m0)(mD:(P.funcs[f]?).map (·.ntmps)=some nt)(h:M_ P S aR (hZ [.oo d] P f nt m0 v H1) (fA v H1) n f m0 d t todo H):hZ [.oo d] P f nt m0 v H1 t H todo:=by
 unfold M_ at h;split at h;next fn jw=>rw[jw]at mD;simp at mD;subst mD;exact FF (ds:=[.oo d]) (rd:=none) cP (pK hS) ⟨hd,trivial⟩ trivial (ad7 cP (pK hS) hd) aap (λ_ _ _ h=>h) n h
 .cases h
theorem akG(cP:P.follows .mixedOrders=true)(hS:aU P S){aR n l a H v H1 st pe fn nt p d tmps assign body}(ho:H.bf l=some (.gK st pe fn tmps nt [p] assign body d))(hl:l<H.bx)(h:aa4 P S aR (λ_ _ _=>False) (fA v H1) n l a H):AX P l a H v H1:=by
 unfold aa4 at h;rw[ho]at h;simp only at h;split at h;next fr iJ=>
  refine⟨st,pe,fn,tmps,nt,p,assign,body,d,fr,ho,iJ,λφ w bs cp cs hw hb hf=>?_⟩;have⟨X6,_⟩:=Sw iJ;subst X6;have hT:cb P H.bx (fB [] (some l) fn nt (tmps.fV p a) [.gy assign,.zi,.gy body]) H (pX (fA v H1)):=
   FF (ds:=[]) (rd:=some l) cP (pK hS) trivial hl (aor cP (pK hS)) aap (λ_ _ _ h=>h.elim) n h
  obtain⟨r,⟨v',he,hu,rfl,hH⟩,hr⟩:=hT;have Ag:r=⟨ju v',none,H1⟩:=by have⟨e,u,h⟩:=r;simp only at he hu hH;rw[he,hu,hH]
  subst Ag;exact hr φ w bs cp cs (cM _) hw hb hf
 .cases h
theorem cb.ZF{m0 m1 fr H Q}(h01:m0<=m1)(h1:m1<=H.bx)(h:cb P m1 fr H Q):cb P m0 fr H Q:=by have⟨r,hq,hr⟩:=h;refine⟨r,hq,λφ w bs cp cs hm hw hb hf=>?_⟩;have⟨aQ,w',g1,g2,g3,g4⟩:=hr φ w bs cp cs h1 hw hb hf;exact⟨aQ,w',g1,g2.mono h01,g3,g4⟩
theorem cb.PW{m0 d fr}{H:AH}{x Q}(hd:d<H.bx)(h:cb P m0 fr (H.cQ d (.bc [])) Q):cb P m0 fr (H.cQ d x) Q:=by have⟨r,hq,hr⟩:=h;exact⟨r,hq,λφ w bs cp cs hm hw hb hf=>hr φ w bs cp cs hm (hw.PW hd) hb hf⟩
def aa5(P:Program)(S:bo)(aR:Nat->LN)(L:Tr AV->AH->List dP->Prop)(Q:AV->AH->Prop)(kM:Nat)(f:Nat)(t:Tr AV)(todo:List dP)(H:AH):Prop:=
 match P.funcs[f]? with
 |some fn=>match todo with
  |.gy (.rangeFunc g params assign body)::k=>match H with
   |⟨h,n,x⟩=>match iw t g with
    |some gv=>match x9 P gv [.gz (Nat.succ n)]with
     |some (.qc c args)=>bif BZ c then False else
       Ik (AH.eD (AH.eD ⟨h,n,x⟩ (.pB (some []))) (.gK .ready none f t fn.ntmps params.toList assign body n)) S c args (λ_ H2=>
        match H2.bf (Nat.succ n)with
        |some (.gK .ready none _ _ _ _ _ _ _)=>Nat.succ n<H2.bx/\k_ P S fn.ntmps (Nat.succ n) aR L (λ_=>OT P f (Nat.succ n) Q n) (λ_ _ _=>False) none kM t k (H2.cQ (Nat.succ n) (.bc []))
        |_=>False) (λ_ _=>False)
     |_=>False
    |none=>False
  |_=>False
 |none=>False
theorem asg(cP:P.follows .mixedOrders=true)(hS:aU P S){aR n f nt m0 t todo H v H1}(hm:m0<=H.bx)(mD:(P.funcs[f]?).map (·.ntmps)=some nt)(h:aa5 P S aR (hZ [.oo H.bx] P f nt (Nat.succ H.bx) v H1) (fA v H1) n f t todo H):br P f nt m0 v H1 t H todo:=by
 unfold aa5 at h;split at h;next fn jw=>
  rw[jw]at mD;simp at mD;subst mD;split at h;next g params assign body k=>
   have⟨hh,nn,xx⟩:=H;simp only at h;split at h;next gv hg=>
    split at h;next c args hc=>
     cases hr:BZ c with
     |true=>rw[hr]at h;cases h
     |false=>
      rw[hr]at h;simp at h;rcases ahB hr h with⟨rv,H2,h1,h2⟩|⟨_,_,_,h2⟩
      rotate_left
      .exact h2.elim
      split at h2;next lf lt ln lp la lb ld ho=>
       have⟨ax,h2⟩:=h2;have Qv:=pK hS;refine cb.iY (fr':=fB [.oo nn] none f fn.ntmps t (.AQ (Nat.succ nn)::k)) (H':=H2) cP Qv rfl ?_ ?_
       .simp only[fB,jY,qH,rG,xD,SL,ZD,AH.eD,PA,hg,qD,hc,KM,aki];have KY:=h1;simp only[AH.eD]at KY;rw[KY];rfl
       .refine cb.iY (fr':=fB [.oo nn] none f fn.ntmps t k) (H':=H2.cQ (Nat.succ nn) (.gK .exhausted none lf lt ln lp la lb ld)) cP Qv rfl ?_ ?_
        .simp only[fB,jY,qH,rG,SJ,ho,to,R3]
        .refine cb.PW ax (cb.ZF (Nat.le_succ_of_le hm) (Nat.le_of_lt ax) ?_);exact FF (ds:=[.oo nn]) (rd:=none) cP Qv ⟨lY nn,trivial⟩ trivial (ad7 cP Qv (lY nn)) aap (λ_ _ _ h=>h) n h2
      .cases h2
    .cases h
   .cases h
  .cases h
 .cases h
theorem dS{ds f nt m0 v H1}{α:Type}(μ:α->Nat)(T:α->Tr AV)(M:α->AH)(todo)(I:α->Prop)(j5:∀a,I a->(∀b,I b->μ b<μ a->hZ ds P f nt m0 v H1 (T b) (M b) todo)->hZ ds P f nt m0 v H1 (T a) (M a) todo):∀a,I a->hZ ds P f nt m0 v H1 (T a) (M a) todo:=by
 intro a;generalize hn:μ a=n;induction n using Nat.strongRecOn generalizing a with
 |_ n ih=>intro ha;exact j5 a ha (λb hb ax=>ih (μ b) (by omega) b rfl hb)
def Z0:bo:=λ_ _ _=>none
theorem ajp:aU P Z0:=by
 constructor
 .intro f args H p v H' _ h;cases h
 .intro args H p v H' h;cases h
def bR(f0:FuncId)(s:LV->AH->Option Sp)(S:bo):bo:=λf args H=>
 bif Nat.beq f f0 then s args H else S f args H
theorem xW{f0 s}(hS:aU P S)(h:∀args H sp p v H',s args H=some sp->sC sp=some (p,v,H')->p->bZ P f0 args H v H')(cE:f0≠999999:=by first|assumption|decide):aU P (bR f0 s S):=by
 constructor
 .intro f args H p v H' hf hs hp;unfold oS bR at hs;cases hb:Nat.beq f f0
  .rw[hb]at hs;exact hS.1 f args H p v H' hf hs hp
  .rw[hb]at hs;have:=dG hb;subst this;simp at hs;split at hs;next sp h1=>exact h args H sp p v H' h1 hs hp
   .cases hs
 .intro args H p v H' hs hp;unfold oS bR at hs;have hb:Nat.beq 999999 f0=false:=by
   cases hb:Nat.beq 999999 f0 with
   |false=>rfl
   |true=>exact absurd (dG hb).symm cE
  rw[hb]at hs;exact hS.2 args H p v H' hs hp
theorem anW{s}(hS:aU P S)(h:∀args H sp p v H',s args H=some sp->sC sp=some (p,v,H')->p->∃l a,args=[.gz l,a]/\AX P l a H v H'):aU P (bR 999999 s S):=by
 constructor
 .intro f args H p v H' hf hs hp;unfold oS bR at hs;have hb:Nat.beq f 999999=false:=by
   cases hb:Nat.beq f 999999 with
   |false=>rfl
   |true=>exact absurd (dG hb) hf
  rw[hb]at hs;exact hS.1 f args H p v H' hf hs hp
 .intro args H p v H' hs hp;unfold oS bR at hs;have hb:Nat.beq 999999 999999=true:=rfl;rw[hb]at hs;simp at hs;split at hs;next sp h1=>exact h args H sp p v H' h1 hs hp
  .cases hs
def Wr(s:LV->AH->Option (Prop×AV×AH)):LV->AH->Option Sp:=λargs H=>
 match s args H with
 |some x=>some (.zC x)
 |none=>none
def e9(f0:FuncId)(s:LV->AH->Option (Prop×AV×AH))(S:bo):bo:=bR f0 (Wr s) S
theorem Gs{f0 s}(hS:aU P S)(h:∀args H p v H',s args H=some (p,v,H')->p->bZ P f0 args H v H')(cE:f0≠999999:=by first|assumption|decide):aU P (e9 f0 s S):=by
 refine xW hS λargs H sp p v H' h1 h2 hp=>?_
 unfold Wr at h1;split at h1;next x hx=>cases h1;cases h2;exact h _ _ _ _ _ hx hp
 .cases h1
theorem aaM{f0}{sN:Nat->LV->AH->Option (Prop×AV×AH)}(hS:aU P S)(h0:∀args H p v H',sN 0 args H=some (p,v,H')->¬p)(j5:∀N,aU P (e9 f0 (sN N) S)->∀args H p v H',sN (N+1) args H=some (p,v,H')->p->bZ P f0 args H v H')(cE:f0≠999999:=by first|assumption|decide):∀N,aU P (e9 f0 (sN N) S)
 |0=>Gs hS (λargs H p v H' h hp=>absurd hp (h0 args H p v H' h))
 |N+1=>Gs hS (j5 N (aaM (cE:=cE) hS h0 j5 N))
structure cx(W:Type)where
 bn:W->LV->AH->Prop
 v:W->AV
 aK:W->AH
def cx.cr{W:Type}(e:cx W):Prop:=∀w w' args H,e.bn w args H->e.bn w' args H->(e.v w,e.aK w)=(e.v w',e.aK w')
def ca{W:Type}(e:cx W)(h:e.cr)(ok:LV->AH->Bool):LV->AH->Option Sp:=λargs H=>
 bif ok args H then some (.ex W (λw=>(e.bn w args H,e.v w,e.aK w)) (λw w' h1 h2=>h w w' args H h1 h2))else none
theorem cA{f0 W}{e:cx W}{h1 ok}(hS:aU P S)(h:∀w args H,e.bn w args H->bZ P f0 args H (e.v w) (e.aK w))(cE:f0≠999999:=by first|assumption|decide):aU P (bR f0 (ca e h1 ok) S):=by
 refine xW hS λargs H sp p v H' hs hd hp=>?_
 have⟨_,hs⟩:=Kn hs;cases hs;simp only[sC]at hd;by_cases hw:∃w,e.bn w args H
 .rw[dif_pos hw]at hd;cases hd;exact h _ _ _ hp
 .rw[dif_neg hw]at hd;cases hd
structure xQ(W:Bool->Type)where
 bn:(b:Bool)->W b->LV->AH->Prop
 v:(b:Bool)->W b->AV
 aK:(b:Bool)->W b->AH
def xQ.cr{W:Bool->Type}(e:xQ W):Prop:=∀b w b' w' args H,e.bn b w args H->e.bn b' w' args H->(e.v b w,e.aK b w)=(e.v b' w',e.aK b' w')
def Hg{W:Bool->Type}(e:xQ W)(h:e.cr):LV->AH->Option Sp:=λargs H=>
 some (.PJ W (λb w=>(e.bn b w args H,e.v b w,e.aK b w)) (λb w b' w' h1 h2=>h b w b' w' args H h1 h2))
theorem Vr{f0 W}{e:xQ W}{h1}(hS:aU P S)(h:∀b w args H,e.bn b w args H->bZ P f0 args H (e.v b w) (e.aK b w))(cE:f0≠999999:=by first|assumption|decide):aU P (bR f0 (Hg e h1) S):=by
 refine xW hS λargs H sp p v H' hs hd hp=>?_
 cases hs;simp only[sC]at hd;by_cases hw:∃p:(b:Bool)×W b,e.bn p.1 p.2 args H
 .rw[dif_pos hw]at hd;cases hd;exact h _ _ _ _ hp
 .rw[dif_neg hw]at hd;cases hd
theorem akp{f0 W}{e:Nat->xQ W}{h1:∀N,(e N).cr}(hS:aU P S)(h0:∀b w args H,¬(e 0).bn b w args H)(j5:∀N,aU P (bR f0 (Hg (e N) (h1 N)) S)->∀b w args H,(e (N+1)).bn b w args H->bZ P f0 args H ((e (N+1)).v b w) ((e (N+1)).aK b w))(cE:f0≠999999:=by first|assumption|decide):∀N,aU P (bR f0 (Hg (e N) (h1 N)) S)
 |0=>Vr hS (λb w args H hp=>absurd hp (h0 b w args H))
 |N+1=>Vr hS (j5 N (akp (cE:=cE) hS h0 j5 N))
theorem anV{W}{e:cx W}{h1 ok}(hS:aU P S)(h:∀w args H,e.bn w args H->∃l a,args=[.gz l,a]/\AX P l a H (e.v w) (e.aK w)):aU P (bR 999999 (ca e h1 ok) S):=by
 refine anW hS λargs H sp p v H' hs hd hp=>?_
 have⟨_,hs⟩:=Kn hs;cases hs;simp only[sC]at hd;by_cases hw:∃w,e.bn w args H
 .rw[dif_pos hw]at hd;cases hd;exact h _ _ _ hp
 .rw[dif_neg hw]at hd;cases hd
theorem yX{f0 W}{e:Nat->cx W}{h1:∀N,(e N).cr}{ok}(hS:aU P S)(h0:∀w args H,¬(e 0).bn w args H)(j5:∀N,aU P (bR f0 (ca (e N) (h1 N) ok) S)->∀w args H,(e (N+1)).bn w args H->bZ P f0 args H ((e (N+1)).v w) ((e (N+1)).aK w))(cE:f0≠999999:=by first|assumption|decide):∀N,aU P (bR f0 (ca (e N) (h1 N) ok) S)
 |0=>cA hS (λw args H hp=>absurd hp (h0 w args H))
 |N+1=>cA hS (j5 N (yX (cE:=cE) hS h0 j5 N))
end
end
end
end Go.Ev
namespace Go.Ev
noncomputable section
variable{xx:Option XH}
def kW(g n:Nat)(i:Nat):Option Nat:=if i=g then some n else if i=n then none else some i
def IH(g n:Nat)(φ:cj):cj:=⟨λi=>if i=n then φ g else φ i,φ.ro,φ.xs⟩
structure Mv(H H1:AH)(g:Nat):Prop where
 ay:∃vs el,H.bf g=some (.ay vs el)/\H1.bf H.bx=some (.ay vs el)
 bc:H1.bf g=some (.bc [])
 next:H1.bx=H.bx+1
 aal:∀id bB,id≠g->id≠H.bx->H1.bf id=some bB->∃ob,H.bf id=some ob/\lD (kW g H.bx) ob=some bB
 x:H1.x=H.x
theorem Mv.wr{φ bs H H1 g w}(hm:Mv H H1 g)(hw:WR φ bs H w):
 WR (IH g H.bx φ) bs H1 w/\su (kW g H.bx) φ (IH g H.bx φ):=by
 have⟨vs,el,hg,hn⟩:=hm.ay;have EA:=hw.nx _ _ hg;have hr:su (kW g H.bx) φ (IH g H.bx φ):=by
  refine⟨λa c h=>?_,λ_ _ h=>h,λ_ _ h=>h⟩;unfold kW at h;split at h;next XK=>cases h;subst XK;exact aO rfl
  .split at h
   .cases h
   next h1 h2=>cases h;exact az h2
 have l6:∀{id ob e},H1.bf id=some ob->ob.aR=true->(if id=H.bx then φ g else φ id)=some e->
  ∃j dV,H.bf j=some dV/\dV.aR=true/\φ j=some e/\id=(if j=g then H.bx else j):=by
  intro id ob e ho hl he;by_cases h1:id=H.bx
  .rw[aO h1]at he;exact⟨g,_,hg,rfl,he,by rw[aO rfl,h1]⟩
  .rw[az h1]at he;by_cases h2:id=g
   .subst h2;rw[hm.bc]at ho;cases ho;cases hl
   .have⟨dV,h3,h4⟩:=hm.aal id ob h2 h1 ho;exact⟨id,dV,h3,by rw[<-M4 h4];exact hl,he,by rw[az h2]⟩
 refine⟨⟨?_,?_,?_,?_,hw.se rfl rfl hm.x (λ_ _=>rfl) λid ob e h1 l1 h2=>.inl ?_⟩,hr⟩
 .intro id ob e ho BI;have he:(if id=H.bx then φ g else φ id)=some e:=BI;by_cases h1:id=H.bx
  .subst h1;rw[aO rfl]at he;rw[hn]at ho;cases ho;have⟨o,k1,k2⟩:=hw.ew g _ e hg he;exact⟨o,k1,k2⟩
  .rw[az h1]at he;by_cases h2:id=g
   .subst h2;rw[hm.bc]at ho;cases ho;have:=(hw.lt id e he).1;exact⟨w.heap[e.b]'this,Ax _,trivial⟩
   .have⟨dV,h3,h4⟩:=hm.aal id ob h2 h1 ho;have⟨o,k1,k2⟩:=hw.ew id dV e h3 he;exact⟨o,k1,aaQ hr h4 k2⟩
 .intro id g_ ob bB e e' h1 l1 h2 h3 l2 h4 hb;obtain⟨j,o,a1,a2,a3,rfl⟩:=l6 h1 l1 h2;obtain⟨j',o',b1,b2,b3,rfl⟩:=l6 h3 l2 h4;have:=hw.jg j j' o o' e e' a1 a2 a3 b1 b2 b3 hb;rw[this]
 .intro id e BI;have he:(if id=H.bx then φ g else φ id)=some e:=BI;rw[hm.next];by_cases h1:id=H.bx
  .rw[aO h1]at he;have:=hw.lt g e he;exact⟨this.1,this.2.1,by omega⟩
  .rw[az h1]at he;have:=hw.lt id e he;exact⟨this.1,this.2.1,by omega⟩
 .intro id ob ho;rw[hm.next];by_cases h1:id=H.bx
  .omega
  .by_cases h2:id=g
   .omega
   .have⟨dV,h3,_⟩:=hm.aal id ob h2 h1 ho;have:=hw.nx id dV h3;omega
 .have⟨j,dV,a1,a2,a3,_⟩:=l6 h1 l1 h2;exact⟨j,dV,e,a1,a2,a3,rfl⟩
theorem DU{P f args H0 H H1 v v1 g}(h:bZ P f args H0 v H)(hm:Mv H H1 g)(hv:eC (kW g H.bx) v=some v1)(hn:H0.bx<=H.bx):bZ P f args H0 v1 H1:=by
 intro φ w bs args' cs ha hw hl;have⟨aQ,w',g1,g2,g3,g4⟩:=h φ w bs args' cs ha hw hl;have:=hm.wr g1;refine⟨_,w',this.1,g2.rN ⟨λid dE=>az (show¬id=H.bx by omega),λ_ _ h=>h,λ_ _ h=>h⟩,⟨g3.1,g3.2.qL (.of hm.x rfl)⟩,?_⟩
 .exact g4.CK this.2 hv
def cN:List (Nat×bk)->Nat->Option bk
 |[],_=>none
 |(s,a)::l,i=>if i=s then some a else cN l i
theorem aiZ:∀l i,(Rp l).bT i=cN l i
 |[],i=>rfl
 |(s,a)::l,i=>by
  simp only[Rp,cN];by_cases h:i=s
  .subst h;rw[aO rfl,Tr.kD];simp
  .rw[az h,<-aiZ l i,Tr.kD];simp[h]
theorem eh(l n i):(eg xx l n).bf i=cN l i:=aiZ l i
end
end Go.Ev
namespace Go.Ev
noncomputable section
variable{xx:Option XH}
theorem Od{φ ψ}:∀{l m},kY l=true->jQ φ l m->jQ ψ l m
 |[],m,_,h=>h
 |x::l,m,hp,h=>by simp only[kY,dk]at hp;obtain⟨y,ys,rfl,h1,h2⟩:=h;refine⟨y,ys,rfl,?_,Od hp.2 h2⟩;cases x<;>first|exact h1|(simp[MN]at hp)
theorem XX{ds P f nt m0 v H1 H H' t t' todo g}(h:hZ ds P f nt m0 v H1 t' H' todo)(hm:Mv H H' g)(hp:kY todo=true)(ht:∀i a',t'.bT i=some a'->∃a,t.bT i=some a/\eC (kW g H.bx) a=some a')(gU:oT m0 ds):hZ ds P f nt m0 v H1 t H todo:=by
 have⟨r,hq,hr⟩:=h;refine⟨r,hq,λφ w bs cp cs cu hw hl hf=>?_⟩;have BO:=hm.wr hw;have jl:jh m0 φ (IH g H.bx φ):=⟨λid dE=>az (show¬id=H.bx by omega),λ_ _ h=>h,λ_ _ h=>h⟩;have nz:tD (IH g H.bx φ) (fB ds none f nt t' todo) cp:=by
  have⟨b,a,Np,e1,e2,e3⟩:=hf;refine⟨b,a,Np,e1,⟨e2.fn,⟨e2.tr.1,λi a' ha=>?_⟩,?_,e2.jP,e2.km,e2.pH⟩,Od hp e3⟩
  .have⟨a0,h1,h2⟩:=ht i a' ha;have⟨x,h3,h4⟩:=e2.tr.2 i a0 h1;exact⟨x,h3,rD BO.2 h2 h4⟩
  .exact AT jl gU e2.dr
 have⟨aQ,w',g1,g2,g3,g4⟩:=hr _ w bs cp cs (by rw[hm.next];omega) BO.1 hl nz;exact⟨aQ,w',g1,jl.rN g2,⟨g3.1,(mT.of hm.x rfl).qL g3.2⟩,g4⟩
theorem u9{P f nt m0 v H1 H H' t t' todo g}(h:br P f nt m0 v H1 t' H' todo)(hm:Mv H H' g)(hp:kY todo=true)(ht:∀i a',t'.bT i=some a'->∃a,t.bT i=some a/\eC (kW g H.bx) a=some a'):br P f nt m0 v H1 t H todo:=
 XX h hm hp ht (A8 _)
end
end Go.Ev
namespace Go.Ev
noncomputable section
variable{xx:Option XH}
def Rt(g n:Nat):List (Nat×bk)->Option (List (Nat×bk))
 |[]=>some []
 |(s,a)::l=>match Rt g n l with
  |none=>none
  |some l'=>if s=g then some ((s,.bc [])::l')else match lD (kW g n) a with
   |some a'=>some ((s,a')::l')
   |none=>none
theorem ai5{g n}:∀{l l'},Rt g n l=some l'->
 (∀id,id≠g->(cN l id=none->cN l' id=none)/\∀bB,cN l' id=some bB->∃ob,cN l id=some ob/\lD (kW g n) ob=some bB)/\∀x,cN l g=some x->cN l' g=some (.bc [])
 |[],l',h=>by cases h;exact⟨λid _=>⟨λ_=>rfl,λbB h=>by cases h⟩,λx h=>by cases h⟩
 |(s,a)::l,l',h=>by
  simp only[Rt]at h;split at h
  .cases h
  next l1 h1=>
   have⟨k1,k2⟩:=ai5 h1;split at h;next hs=>cases h;subst hs;refine⟨λid dE=>?_,λx _=>by simp[cN]⟩;simp only[cN,az dE];exact k1 id dE
   next hs=>
    split at h;next a' ha=>
     cases h;refine⟨λid dE=>?_,λx hx=>?_⟩
     .simp only[cN];by_cases hi:id=s
      .subst hi;simp only[if_true];exact⟨λh=>(by cases h),λbB h=>(by cases h;exact⟨a,rfl,ha⟩)⟩
      .simp only[az hi];exact k1 id dE
     .simp only[cN]at hx⊢;have:¬g=s:=λe=>hs e.symm
      rw[az this]at hx⊢;exact k2 x hx
    .cases h
theorem Fa:∀l m i,cN (l++m) i=(match cN l i with|some x=>some x|none=>cN m i)
 |[],m,i=>rfl
 |(s,a)::l,m,i=>by
  simp only[oH,cN];split
  .rfl
  .exact Fa l m i
theorem qz{g n l l' vs el}(h:Rt g n l=some l')(hg:cN l g=some (.ay vs el))(hn:cN l n=none):
 Mv (eg xx l n) (eg xx (l'++[(n,.ay vs el)]) (n+1)) g:=by
 have⟨k1,k2⟩:=ai5 h;have EA:n≠g:=by rintro rfl;rw[hg]at hn;cases hn
 refine⟨⟨vs,el,by rw[eh];exact hg,?_⟩,?_,rfl,?_,rfl⟩
 .show(eg xx _ _).bf n=_;rw[eh,Fa,(k1 n EA).1 hn];simp[cN]
 .rw[eh,Fa,k2 _ hg]
 .intro id bB h1 h2 h3;have h2:id≠n:=h2;rw[eh,Fa]at h3;rw[eh];cases hl:cN l' id with
  |none=>rw[hl]at h3;simp[cN,h2]at h3
  |some x=>rw[hl]at h3;cases h3;exact(k1 id h1).2 _ hl
end
end Go.Ev
namespace Go.Ev
noncomputable section
variable{xx:Option XH}
def yI:List (Nat×AV)->Nat->Option AV
 |[],_=>none
 |(s,a)::l,i=>if i=s then some a else yI l i
theorem nG:∀l i,(aB l).bT i=yI l i
 |[],i=>rfl
 |(s,a)::l,i=>by
  simp only[aB,yI];by_cases h:i=s
  .subst h;rw[aO rfl,Tr.kD];simp
  .rw[az h,<-nG l i,Tr.kD];simp[h]
theorem vC{l g n i a}(hi:(aB l).bT i=some a)(h:∀x∈l,eC (kW g n) x.2=some x.2):eC (kW g n) a=some a:=by
 rw[nG]at hi;induction l with
 |nil=>cases hi
 |cons x l ih=>
  have⟨s,b⟩:=x;simp only[yI]at hi;split at hi
  .cases hi;exact h (s,a) (by simp)
  .exact ih hi (λy hy=>h y (by simp[hy]))
end
end Go.Ev
namespace Go.Ev
noncomputable section
variable{xx:Option XH}
def lL(m0:Nat)(H H':AH)(R:cj->cj->Prop):Prop:=
 H.bx<=H'.bx/\∀φ bs w,m0<=H.bx->WR φ bs H w->∃aQ,WR aQ bs H' w/\(jh m0 φ aQ/\mT φ H aQ H')/\R φ aQ
theorem Lq{ds P f nt m0 v H1 H H' t t' todo R}(h:hZ ds P f nt m0 v H1 t' H' todo)(hm:lL m0 H H' R)(hp:kY todo=true)(ht:∀φ aQ,R φ aQ->∀i a',t'.bT i=some a'->∃a,t.bT i=some a/\∀x,VR φ a x->VR aQ a' x)(gU:oT m0 ds):hZ ds P f nt m0 v H1 t H todo:=by
 have⟨r,hq,hr⟩:=h;refine⟨r,hq,λφ w bs cp cs cu hw hl hf=>?_⟩;have⟨hn,hm⟩:=hm;have⟨lH,k1,k2,k3⟩:=hm φ bs w cu hw;have nz:tD lH (fB ds none f nt t' todo) cp:=by
  have⟨b,a,Np,e1,e2,e3⟩:=hf;refine⟨b,a,Np,e1,⟨e2.fn,⟨e2.tr.1,λi a' ha=>?_⟩,?_,e2.jP,e2.km,e2.pH⟩,Od hp e3⟩
  .have⟨a0,h1,h2⟩:=ht φ lH k3 i a' ha;have⟨x,h3,h4⟩:=e2.tr.2 i a0 h1;exact⟨x,h3,h2 x h4⟩
  .exact AT k2.1 gU e2.dr
 have⟨aQ,w',g1,g2,g3,g4⟩:=hr lH w bs cp cs (by omega) k1 hl nz;exact⟨aQ,w',g1,k2.1.rN g2,⟨g3.1,k2.2.qL g3.2⟩,g4⟩
theorem ag7{P f nt m0 v H1 H H' t t' todo R}(h:br P f nt m0 v H1 t' H' todo)(hm:lL m0 H H' R)(hp:kY todo=true)(ht:∀φ aQ,R φ aQ->∀i a',t'.bT i=some a'->∃a,t.bT i=some a/\∀x,VR φ a x->VR aQ a' x):br P f nt m0 v H1 t H todo:=
 Lq h hm hp ht (A8 _)
theorem Bf{P f args H0 H H1 v v1 R}(h:bZ P f args H0 v H)(hm:lL H0.bx H H1 R)(cu:H0.bx<=H.bx)(hv:∀φ aQ,R φ aQ->∀x,VR φ v x->VR aQ v1 x)(pS:ju v=.gk v:=by rfl):bZ P f args H0 v1 H1:=by intro φ w bs args' cs ha hw hl;have⟨aQ,w',g1,g2,g3,g4⟩:=h φ w bs args' cs ha hw hl;have⟨hn,hm⟩:=hm;have⟨lH,k1,k2,k3⟩:=hm aQ bs w' cu g1;refine⟨lH,w',k1,g2.rN k2.1,⟨g3.1,g3.2.qL k2.2⟩,?_⟩;rw[pS]at g4;obtain⟨jU,e',⟨v',rfl,j1⟩,j2⟩:=g4;exact pG.ret ⟨jU,_,⟨v',rfl,hv _ _ k3 _ j1⟩,j2⟩
theorem nh{P f args H0 H H2 v v2 ps}(h:bZ P f args H0 v H)(hv:l9 H0.bx (vo v) H=some ⟨ps,H2⟩)(hr:eC (iz ps) v=some v2):bZ P f args H0 v2 H2:=by intro φ w bs args' cs ha hw hl;have⟨aQ,w',g1,g2,g3,g4⟩:=h φ w bs args' cs ha hw hl;obtain⟨tt,n,rfl,a_,jy,jl⟩:=AO hv;exact⟨jd ps aQ,w',g1.sm a_ jy,g2.rN ⟨λid dE=>by simp[jd,jl id dE],λ_ _ h=>h,λ_ _ h=>h⟩,⟨g3.1,g3.2.qL (.of rfl rfl)⟩,g4.CK (xd a_ aQ) hr⟩
theorem adC{φ}:∀{k vs l},bp φ vs l->bp φ (vs.drop k) (l.drop k)
 |0,_,_,h=>h
 |k+1,[],l,h=>by cases h;simp[bp]
 |k+1,a::vs,l,h=>by obtain⟨v,l',rfl,_,h2⟩:=h;exact adC (k:=k) h2
theorem adF{φ}:∀{k vs l},bp φ vs l->bp φ (vs.take k) (l.take k)
 |0,_,_,h=>by simp[bp]
 |k+1,[],l,h=>by cases h;simp[bp]
 |k+1,a::vs,l,h=>by obtain⟨v,l',rfl,h1,h2⟩:=h;exact⟨v,l'.take k,rfl,h1,adF h2⟩
def Kz(g k n:Nat):AV->Option AV
 |.bq id off len cap sz ex=>if id=g then(if off=k/\ex=false then some (.ai n len sz)else none)else some (.bq id off len cap sz ex)
 |.aa id off=>if id=g then none else some (.aa id off)
 |.ai id len sz=>if id=g then none else some (.ai id len sz)
 |a=>some a
def GP(g k n:Nat):LV->Option LV
 |[]=>some []
 |a::l=>match Kz g k n a,GP g k n l with
  |some a',some l'=>some (a'::l')
  |_,_=>none
def DP(g k n:Nat):bk->Option bk
 |.aj vs e=>match GP g k n vs with|some l=>some (.aj l e)|none=>none
 |o=>some o
def Pg(g k n:Nat):List (Nat×bk)->Option (List (Nat×bk))
 |[]=>some []
 |(s,a)::l=>match Pg g k n l with
  |none=>none
  |some l'=>if s=g then some ((s,.bc [])::l')else match DP g k n a with
   |some a'=>some ((s,a')::l')
   |none=>none
def zD(g k n:Nat)(φ:cj):cj:=⟨λi=>if i=n then(φ g).map (λe=>⟨e.b,e.o+k,e.n⟩)else φ i,φ.ro,φ.xs⟩
theorem zE(g k n φ i):zD g k n φ i=if i=n then(φ g).map (λe=>⟨e.b,e.o+k,e.n⟩)else φ i:=rfl
theorem Wt{g k n φ}(h:φ n=none):dv φ (zD g k n φ):=by refine⟨λid e he=>?_,λ_ _ h=>h,λ_ _ h=>h⟩;rw[zE];rw[az (by rintro rfl;rw[h]at he;cases he)];exact he
theorem apK{g k n φ}(h:φ n=none){a a' v}(ha:Kz g k n a=some a')(hv:VR φ a v):VR (zD g k n φ) a' v:=by
 have hp:=Wt (g:=g) (k:=k) h;unfold Kz at ha;split at ha
 .split at ha;next hg=>
   subst hg;split at ha;next hk=>obtain⟨rfl,rfl⟩:=hk;cases ha;have⟨e,x,c,h1,h2,h3,h4,h5,h6⟩:=hv;refine .inr ⟨⟨e.b,e.o+_,e.n⟩,x,c,?_,h2,h3,h4,h6⟩;rw[zE];rw[aO rfl,h1];rfl
   .cases ha
  .cases ha;exact VR.ef hp _ _ hv
 .split at ha
  .cases ha
  .cases ha;exact VR.ef hp _ _ hv
 .split at ha
  .cases ha
  .cases ha;exact VR.ef hp _ _ hv
 .cases ha;exact VR.ef hp _ _ hv
theorem ae5{g k n φ}(h:φ n=none):∀{l l' vs},GP g k n l=some l'->bp φ l vs->bp (zD g k n φ) l' vs
 |[],l',vs,h1,h2=>by cases h1;exact h2
 |a::l,l',vs,h1,h2=>by
  simp only[GP]at h1;split at h1;next a1 l1 e1 e2=>cases h1;obtain⟨v,ep,rfl,k1,k2⟩:=h2;exact⟨v,ep,rfl,apK h e1 k1,ae5 h e2 k2⟩
  .cases h1
theorem apJ{g k n a a'}(ha:Kz g k n a=some a'):a'.cX=a.cX:=by
 unfold Kz at ha;split at ha
 .split at ha
  .split at ha
   .cases ha;rfl
   .cases ha
  .cases ha;rfl
 .split at ha
  .cases ha
  .cases ha;rfl
 .split at ha
  .cases ha
  .cases ha;rfl
 .cases ha;rfl
theorem ae4{g k n}:∀{l l'},GP g k n l=some l'->l'.length=l.length/\l'.all AV.cX=l.all AV.cX
 |[],l',h=>by cases h;exact⟨rfl,rfl⟩
 |a::l,l',h=>by
  simp only[GP]at h;split at h;next a1 l1 e1 e2=>cases h;have:=ae4 e2;exact⟨by simp[this.1],by simp[this.2,apJ e1]⟩
  .cases h
theorem apM{g k n φ}(h:φ n=none){ob bB e o}(ho:DP g k n ob=some bB)(hr:OR φ ob e o):OR (zD g k n φ) bB e o:=by
 unfold DP at ho;split at ho
 .split at ho;next l hl=>cases ho;have⟨cs,el,h1,h2,h3,h4,h5⟩:=hr;have h_:=ae4 hl;exact⟨cs,el,h1,h2,by rw[h_.1];exact h3,by rw[h_.1];exact ae5 h hl h4,by rw[h_.2];exact h5⟩
  .cases ho
 .cases ho;exact OR.sq (Wt h) hr
theorem apL{g k n ob bB}(ho:DP g k n ob=some bB):bB.aR=ob.aR:=by
 unfold DP at ho;split at ho
 .split at ho
  .cases ho;rfl
  .cases ho
 .cases ho;rfl
theorem ae6{g k n}:∀{l l'},Pg g k n l=some l'->
 (∀id,id≠g->(cN l id=none->cN l' id=none)/\∀bB,cN l' id=some bB->∃ob,cN l id=some ob/\DP g k n ob=some bB)/\∀x,cN l g=some x->cN l' g=some (.bc [])
 |[],l',h=>by cases h;exact⟨λid _=>⟨λ_=>rfl,λbB h=>by cases h⟩,λx h=>by cases h⟩
 |(s,a)::l,l',h=>by
  simp only[Pg]at h;split at h
  .cases h
  next l1 h1=>
   have⟨k1,k2⟩:=ae6 h1;split at h;next hs=>cases h;subst hs;refine⟨λid dE=>?_,λx _=>by simp[cN]⟩;simp only[cN,az dE];exact k1 id dE
   next hs=>
    split at h;next a' ha=>
     cases h;refine⟨λid dE=>?_,λx hx=>?_⟩
     .simp only[cN];by_cases hi:id=s
      .subst hi;simp only[if_true];exact⟨λh=>(by cases h),λbB h=>(by cases h;exact⟨a,rfl,ha⟩)⟩
      .simp only[az hi];exact k1 id dE
     .simp only[cN]at hx⊢;have:¬g=s:=λe=>hs e.symm
      rw[az this]at hx⊢;exact k2 x hx
    .cases h
theorem auu{m0 g k n l l' vs el}(h:Pg g k n l=some l')(hg:cN l g=some (.ay vs el))(hn:cN l n=none)(hk:k<=vs.length):
 lL m0 (eg xx l n) (eg xx (l'++[(n,.ay (vs.drop k) el)]) (n+1)) (λφ aQ=>φ n=none/\aQ=zD g k n φ):=by
 have⟨k1,k2⟩:=ae6 h;refine⟨Nat.le_succ n,λφ bs w cu hw=>?_⟩;have cu:m0<=n:=cu;have ahI:φ n=none:=by
  cases hp:φ n with
  |none=>rfl
  |some e=>have:=(hw.lt n e hp).2.2;exact absurd this (Nat.lt_irrefl n)
 have EA:n≠g:=by rintro rfl;rw[hg]at hn;cases hn
 have dp:∀id,(eg xx (l'++[(n,.ay (vs.drop k) el)]) (n+1)).bf id=(match cN l' id with|some x=>some x|none=>if id=n then some (.ay (vs.drop k) el)else none):=by intro id;rw[eh,Fa];rfl
 have l6:∀{id ob},(eg xx (l'++[(n,.ay (vs.drop k) el)]) (n+1)).bf id=some ob->(id=g/\ob=.bc [])\/(id=n/\ob=.ay (vs.drop k) el)\/(id≠g/\id≠n/\∃dV,cN l id=some dV/\DP g k n dV=some ob):=by
  intro id ob ho;rw[dp]at ho;by_cases h1:id=g
  .subst h1;rw[k2 _ hg]at ho;cases ho;exact .inl ⟨rfl,rfl⟩
  .by_cases h2:id=n
   .subst h2;rw[(k1 id h1).1 hn]at ho;simp at ho;exact .inr (.inl ⟨rfl,ho.symm⟩)
   .cases hl:cN l' id with
    |none=>rw[hl]at ho;simp[h2]at ho
    |some x=>rw[hl]at ho;cases ho;exact .inr (.inr ⟨h1,h2,(k1 id h1).2 _ hl⟩)
 have jy:∀id,(eg xx l n).bf id=cN l id:=eh l n;have IW:∀{id ob e},(eg xx (l'++[(n,.ay (vs.drop k) el)]) (n+1)).bf id=some ob->ob.aR=true->zD g k n φ id=some e->
  ∃j dV e0,(eg xx l n).bf j=some dV/\dV.aR=true/\φ j=some e0/\e0.b=e.b/\id=(if j=g then n else j):=by
  intro id ob e ho hl he;rcases l6 ho with⟨h1,h2⟩|⟨h1,h2⟩|⟨h1,h2,dV,h3,h4⟩
  .subst h2;cases hl
  .subst h1;rw[zE]at he;rw[aO rfl]at he;have⟨e0,h5,h6⟩:=CA.1 he;exact⟨g,_,e0,(jy g).trans hg,rfl,h5,by rw[<-h6],by rw[aO rfl]⟩
  .rw[zE]at he;rw[az h2]at he;exact⟨id,dV,e,(jy id).trans h3,by rw[<-apL h4];exact hl,he,rfl,by rw[az h1]⟩
 refine⟨zD g k n φ,⟨?_,?_,?_,?_,hw.se rfl rfl rfl (λ_ _=>rfl) λid ob e h1 l1 h2=>.inl ?_⟩,⟨⟨λid dE=>?_,λ_ _ h=>h,λ_ _ h=>h⟩,.of rfl rfl⟩,ahI,rfl⟩
 .intro id ob e ho he;rcases l6 ho with⟨h1,h2⟩|⟨h1,h2⟩|⟨h1,h2,dV,h3,h4⟩
  .subst h2;have hb:e.b<w.heap.size:=by
    rw[zE]at he;split at he
    .have⟨e0,h5,h6⟩:=CA.1 he;rw[<-h6];exact(hw.lt _ e0 h5).1
    .exact(hw.lt _ e he).1
   exact⟨w.heap[e.b]'hb,Ax hb,trivial⟩
  .subst h1 h2;rw[zE]at he;rw[aO rfl]at he;obtain⟨e0,h5,rfl⟩:=CA.1 he;obtain⟨o,j1,cs,gO,rfl,cv,ahm,jA,ym⟩:=hw.ew g _ e0 ((jy g).trans hg) h5;refine⟨_,j1,cs,gO,rfl,cv,?_,?_,?_⟩
   .simp;omega
   .have:=adC (k:=k) jA;rw[yV,xk]at this;show bp φ.pu _ _;simpa using this
   .rw[lZ]at ym⊢;exact λx hx=>ym x (Fu hx)
  .rw[zE]at he;rw[az h2]at he;have⟨o,j1,j2⟩:=hw.ew id dV e ((jy id).trans h3) he;exact⟨o,j1,apM ahI h4 j2⟩
 .intro id g_ ob bB e e' h1 l1 h2 h3 l2 h4 hb;obtain⟨j,o,e0,a1,a2,a3,a4,rfl⟩:=IW h1 l1 h2;obtain⟨j',o',e0',b1,b2,b3,b4,rfl⟩:=IW h3 l2 h4;have:=hw.jg j j' o o' e0 e0' a1 a2 a3 b1 b2 b3 (by rw[a4,b4,hb]);rw[this]
 .intro id e he;rw[zE]at he;split at he;next h1=>obtain⟨e0,h5,rfl⟩:=CA.1 he;have:=hw.lt _ e0 h5;exact⟨this.1,this.2.1,by subst h1;exact lY _⟩
  .have:=hw.lt _ e he;exact⟨this.1,this.2.1,Fx this.2.2⟩
 .intro id ob ho;rcases l6 ho with⟨h1,h2⟩|⟨h1,h2⟩|⟨h1,h2,dV,h3,h4⟩
  .subst h1;exact Fx (hw.nx id _ ((jy id).trans hg))
  .subst h1;exact lY _
  .exact Fx (hw.nx id _ ((jy id).trans h3))
 .have⟨j,o,e0,a1,a2,a3,a4,_⟩:=IW h1 l1 h2;exact⟨j,o,e0,a1,a2,a3,a4⟩
 .rw[zE];rw[az (by omega)]
end
end Go.Ev
namespace Go.Ev
noncomputable section
variable{xx:Option XH}
def wb(g:Nat):AV->AV
 |.bq id off len cap sz ex=>bif Nat.beq id g&&Nat.beq off 0 then .ai id len sz else .bq id off len cap sz ex
 |a=>a
def FY(g:Nat):LV->LV
 |[]=>[]
 |a::l=>wb g a::FY g l
def FZ(g:Nat):bk->bk
 |.aj vs e=>.aj (FY g vs) e
 |o=>o
def zc(g:Nat)(new:bk):List (Nat×bk)->List (Nat×bk)
 |[]=>[]
 |(s,a)::l=>(s,bif Nat.beq s g then new else FZ g a)::zc g new l
theorem abM{g φ a v}(hv:VR φ a v):VR φ (wb g a) v:=by
 unfold wb;split;next id off len cap sz ex=>
  cases hc:Nat.beq id g&&Nat.beq off 0
  .exact hv
  .simp only[dk]at hc;have h0:=dG hc.2;subst h0;simp;have⟨e,x,c,h1,h2,h3,h4,h5,h6⟩:=hv;exact .inr ⟨e,x,c,h1,h2,h3,h4,h6⟩
 .exact hv
theorem aDu(g a):(wb g a).cX=a.cX:=by
 unfold wb;split;next id off len cap sz ex=>cases hc:Nat.beq id g&&Nat.beq off 0<;>rfl
 .rfl
theorem amF{g φ}:∀{l vs},bp φ l vs->bp φ (FY g l) vs
 |[],_,h=>h
 |a::l,_,h=>by obtain⟨v,ep,rfl,k1,k2⟩:=h;exact⟨v,ep,rfl,abM k1,amF k2⟩
theorem amE(g):∀l:LV,(FY g l).length=l.length/\(FY g l).all AV.cX=l.all AV.cX
 |[]=>⟨rfl,rfl⟩
 |a::l=>by have:=amE g l;exact⟨by simp[FY,this.1],by simp[FY,this.2,aDu]⟩
theorem aDv{g φ ob e o}(h:OR φ ob e o):OR φ (FZ g ob) e o:=by
 unfold FZ;split;next vs kB=>have⟨cs,el,h1,h2,h3,h4,h5⟩:=h;have h_:=amE g vs;exact⟨cs,el,h1,h2,by rw[h_.1];exact h3,by rw[h_.1];exact amF h4,by rw[h_.2];exact h5⟩
 .exact h
theorem amG(g ob):(FZ g ob).aR=ob.aR:=by unfold FZ;split<;>rfl
theorem Jr{g new}:∀{l id bB},cN (zc g new l) id=some bB->∃ob,cN l id=some ob/\((id=g/\bB=new)\/bB=FZ g ob)
 |[],id,bB,h=>by cases h
 |(s,a)::l,id,bB,h=>by
  simp only[zc,cN]at h⊢;by_cases hi:id=s
  .subst hi;rw[aO rfl]at h⊢;cases h;refine⟨a,rfl,?_⟩;cases hb:Nat.beq id g
   .exact .inr rfl
   .exact .inl ⟨dG hb,rfl⟩
  .rw[az hi]at h⊢;exact Jr h
theorem Mp{m0 g n l old new}(hg:cN l g=some old)(ho:∀φ e o,OR φ old e o->OR φ new e o)(mC:old.aR=true):
 lL m0 (eg xx l n) (eg xx (zc g new l) n) (λφ aQ=>aQ=φ):=by
 refine⟨cM n,λφ bs w cu hw=>⟨φ,⟨?_,?_,?_,?_,hw.se rfl rfl rfl (λ_ _=>rfl) λid ob e h1 l1 h2=>.inl ?_⟩,⟨jh.zj _ _,.of rfl rfl⟩,rfl⟩⟩
 .intro id ob e h1 h2;rw[eh]at h1;have⟨dV,h3,h4⟩:=Jr h1;have⟨o,h5,h6⟩:=hw.ew id dV e (by rw[eh];exact h3) h2;refine⟨o,h5,?_⟩;rcases h4 with⟨rfl,rfl⟩|rfl
  .rw[hg]at h3;cases h3;exact ho _ _ _ h6
  .exact aDv h6
 .intro id g_ ob bB e e' h1 l1 h2 h3 l2 h4 hb;rw[eh]at h1 h3;have⟨o1,k1,k2⟩:=Jr h1;have⟨o2,k3,k4⟩:=Jr h3;have aR:∀{id ob dV},cN l id=some dV->((id=g/\ob=new)\/ob=FZ g dV)->ob.aR=true->dV.aR=true:=by
   intro id ob dV q1 q2 q3;rcases q2 with⟨rfl,rfl⟩|rfl
   .rw[hg]at q1;cases q1;exact mC
   .rwa[amG]at q3
  exact hw.jg id g_ o1 o2 e e' (by rw[eh];exact k1) (aR k1 k2 l1) h2 (by rw[eh];exact k3) (aR k3 k4 l2) h4 hb
 .exact hw.lt
 .intro id ob h1;rw[eh]at h1;have⟨o1,k1,_⟩:=Jr h1;exact hw.nx id o1 (by rw[eh];exact k1)
 .rw[eh]at h1;have⟨o1,k1,k2⟩:=Jr h1;refine⟨id,o1,e,by rw[eh];exact k1,?_,h2,rfl⟩;rcases k2 with⟨rfl,rfl⟩|rfl
  .rw[hg]at k1;cases k1;exact mC
  .rwa[amG]at l1
theorem rQ{φ vs el gO}(hp:vs.all eG=true){e o}(h:OR φ (.aj vs el) e o):OR φ (.ay vs gO) e o:=by have⟨cs,kB,h1,h2,h3,h4,h5⟩:=h;exact⟨cs,kB,h1,h2,h3,bp.wj _ _ (by rw[vL];exact hp) h4,h5⟩
theorem adi{φ vs el gO}(k){e o}(h:OR φ (.ay vs el) e o):OR φ (.ay (vs.take k) gO) e o:=by
 have⟨cs,kB,h1,h2,h3,h4,h5⟩:=h;refine⟨cs,kB,h1,h2,?_,?_,?_⟩
 .simp;omega
 .have:=adF (k:=k) h4;rw[Az]at this;simpa using this
 .rw[lZ]at h5⊢;exact λx hx=>h5 x (CE hx)
end
end Go.Ev
namespace Go.Ev
noncomputable section
variable{xx:Option XH}
theorem ai2{g i a'}:∀{l},(aB (l.map λx=>(x.1,wb g x.2))).bT i=some a'->∃a,(aB l).bT i=some a/\a'=wb g a
 |[],h=>by rw[nG]at h;cases h
 |(s,b)::l,h=>by
  rw[nG]at h;rw[nG];simp only[gR,yI]at h⊢;by_cases hs:i=s
  .rw[aO hs]at h⊢;cases h;exact⟨b,rfl,rfl⟩
  .rw[az hs]at h⊢;rw[<-nG]at h⊢;exact ai2 h
theorem asi{ds P f nt m0 g n v H1 T l old new todo}(h:hZ ds P f nt m0 v H1 (aB (T.map λx=>(x.1,wb g x.2))) (eg xx (zc g new l) n) todo)(hg:cN l g=some old)(ho:∀φ e o,OR φ old e o->OR φ new e o)(mC:old.aR=true)(hp:kY todo=true)(gU:oT m0 ds):
 hZ ds P f nt m0 v H1 (aB T) (eg xx l n) todo:=by
 refine Lq (gU:=gU) h (Mp hg ho mC) hp (λφ aQ hR i a' hi=>?_);subst hR;obtain⟨a,h1,rfl⟩:=ai2 hi;exact⟨a,h1,λx hx=>abM hx⟩
theorem yr{P f nt m0 g n v H1 T l old new todo}(h:br P f nt m0 v H1 (aB (T.map λx=>(x.1,wb g x.2))) (eg xx (zc g new l) n) todo)(hg:cN l g=some old)(ho:∀φ e o,OR φ old e o->OR φ new e o)(mC:old.aR=true)(hp:kY todo=true):
 br P f nt m0 v H1 (aB T) (eg xx l n) todo:=
 asi h hg ho mC hp (A8 _)
theorem G'{P f args H0 v g n l old new}(h:bZ P f args H0 v (eg xx l n))(hg:cN l g=some old)(ho:∀φ e o,OR φ old e o->OR φ new e o)(mC:old.aR=true)(cu:H0.bx<=n)(pS:ju v=.gk v:=by rfl):
 bZ P f args H0 (wb g v) (eg xx (zc g new l) n):=
 Bf h (Mp hg ho mC) cu (λφ aQ hR x hx=>by subst hR;exact abM hx) pS
theorem IE{m0 n l}(ob)(hn:cN l n=none):lL m0 (eg xx l n) (eg xx (l++[(n,ob)]) (n+1)) (λφ aQ=>aQ=φ):=by
 refine⟨Nat.le_succ n,λφ bs w cu hw=>⟨φ,⟨?_,?_,?_,?_,hw.se rfl rfl rfl (λ_ _=>rfl) λid ob9 e h1 l1 h2=>.inl ?_⟩,⟨jh.zj _ _,.of rfl rfl⟩,rfl⟩⟩;all_goals
  have hφ:φ n=none:=by
   cases hp:φ n with
   |none=>rfl
   |some e=>exact absurd (hw.lt n e hp).2.2 (Nat.lt_irrefl n)
 all_goals
  have eH:∀{id bB e},(eg xx (l++[(n,ob)]) (n+1)).bf id=some bB->φ id=some e->(eg xx l n).bf id=some bB:=by
   intro id bB e h1 h2;rw[eh,Fa]at h1;rw[eh];cases hl:cN l id with
   |some x=>rw[hl]at h1;exact h1
   |none=>
    rw[hl]at h1;simp only[cN]at h1;split at h1;next dE=>rw[dE,hφ]at h2;cases h2
    .cases h1
 .intro id bB e h1 h2;exact hw.ew id bB e (eH h1 h2) h2
 .intro id g_ o o' e e' h1 l1 h2 h3 l2 h4 hb;exact hw.jg id g_ o o' e e' (eH h1 h2) l1 h2 (eH h3 h4) l2 h4 hb
 .intro id e h1;have:=hw.lt id e h1;exact⟨this.1,this.2.1,Fx this.2.2⟩
 .intro id bB h1;rw[eh,Fa]at h1;cases hl:cN l id with
  |some x=>exact Fx (hw.nx id x (by rw[eh];exact hl))
  |none=>
   rw[hl]at h1;simp only[cN]at h1;split at h1;next dE=>rw[dE];exact lY n
   .cases h1
 .exact⟨id,ob9,e,eH h1 h2,l1,h2,rfl⟩
theorem qN{φ i sz x}(h:VR φ .aJ x):VR φ (.ai i 0 sz) x:=by simp only[VR]at h⊢;exact .inl ⟨trivial,h⟩
theorem Py{P f args H0 n sz l t}(h:bZ P f args H0 .aJ (eg xx l n))(hn:cN l n=none)(cu:H0.bx<=n):
 bZ P f args H0 (.ai n 0 sz) (eg xx (l++[(n,.ay [] t)]) (n+1)):=
 Bf h (IE _ hn) cu (λφ aQ hR x hx=>by subst hR;exact qN hx)
def IK(n sz:Nat)(y5:LN):List (Nat×AV)->List (Nat×AV)
 |[]=>[]
 |(s,a)::l=>(s,match a with|.aJ=>bif y5.any (Nat.beq s)then .ai n 0 sz else .aJ|a=>a)::IK n sz y5 l
theorem ajj{n sz i y5 a'}:∀{l},(aB (IK n sz y5 l)).bT i=some a'->∃a,(aB l).bT i=some a/\∀φ x,VR φ a x->VR φ a' x
 |[],h=>by rw[nG]at h;cases h
 |(s,b)::l,h=>by
  rw[nG]at h;rw[nG];simp only[IK,yI]at h⊢;by_cases hs:i=s
  .rw[aO hs]at h⊢;refine⟨b,rfl,λφ x hx=>?_⟩;split at h
   .cases hc:y5.any (Nat.beq s)
    .rw[hc]at h;cases h;exact hx
    .rw[hc]at h;cases h;exact qN hx
   .cases h;exact hx
  .rw[az hs]at h⊢;rw[<-nG]at h⊢;exact ajj h
theorem asf{ds P f nt m0 n v H1 T l todo}(sz t y5)(h:hZ ds P f nt m0 v H1 (aB (IK n sz y5 T)) (eg xx (l++[(n,.ay [] t)]) (n+1)) todo)(hn:cN l n=none)(hp:kY todo=true)(gU:oT m0 ds):
 hZ ds P f nt m0 v H1 (aB T) (eg xx l n) todo:=by
 refine Lq (gU:=gU) h (IE _ hn) hp (λφ aQ hR i a' hi=>?_);subst hR;have⟨a,h1,h2⟩:=ajj hi;exact⟨a,h1,λx hx=>h2 _ x hx⟩
theorem HO{P f nt m0 n v H1 T l todo}(sz t y5)(h:br P f nt m0 v H1 (aB (IK n sz y5 T)) (eg xx (l++[(n,.ay [] t)]) (n+1)) todo)(hn:cN l n=none)(hp:kY todo=true):
 br P f nt m0 v H1 (aB T) (eg xx l n) todo:=
 asf sz t y5 h hn hp (A8 _)
theorem HN{ds P f nt m0 v H1 H H' t todo}(h:hZ ds P f nt m0 v H1 t H' todo)(hm:lL m0 H H' (λφ aQ=>aQ=φ))(hp:kY todo=true)(gU:oT m0 ds):hZ ds P f nt m0 v H1 t H todo:=
 Lq (gU:=gU) h hm hp (λφ aQ hR i a' hi=>by subst hR;exact⟨a',hi,λx hx=>hx⟩)
theorem sS{P f nt m0 v H1 H H' t todo}(h:br P f nt m0 v H1 t H' todo)(hm:lL m0 H H' (λφ aQ=>aQ=φ))(hp:kY todo=true):br P f nt m0 v H1 t H todo:=
 HN h hm hp (A8 _)
theorem awb{P l a H0 H H1 v v1 R}(h:AX P l a H0 v H)(hm:lL H0.bx H H1 R)(cu:H0.bx<=H.bx)(hv:∀φ aQ,R φ aQ->∀x,VR φ v x->VR aQ v1 x)(pS:ju v=.gk v:=by rfl)(asE:ju v1=.gk v1:=by rfl):AX P l a H0 v1 H1:=by have⟨st,pe,fn,tmps,nt,p,assign,body,d,fr,h1,h2,h3⟩:=h;refine⟨st,pe,fn,tmps,nt,p,assign,body,d,fr,h1,h2,λφ w bs cp cs hw hl hf=>?_⟩;have⟨aQ,w',g1,g2,g3,g4⟩:=h3 φ w bs cp cs hw hl hf;have⟨hn,hm⟩:=hm;have⟨lH,k1,k2,k3⟩:=hm aQ bs w' cu g1;refine⟨lH,w',k1,g2.rN k2.1,⟨g3.1,g3.2.qL k2.2⟩,?_⟩;rw[pS]at g4;rw[asE];intro c cs' jG;have⟨v',j1,j2⟩:=g4 c cs' jG;exact⟨v',hv _ _ k3 _ j1,j2⟩
theorem auI{m0 g H H1}(hm:Mv H H1 g):lL m0 H H1 (λφ aQ=>aQ=IH g H.bx φ):=
 ⟨by rw[hm.next];omega,λφ bs w cu hw=>⟨_,(hm.wr hw).1,⟨⟨λid dE=>az (show¬id=H.bx by omega),λ_ _ h=>h,λ_ _ h=>h⟩,.of hm.x rfl⟩,rfl⟩⟩
theorem awc{P l a H0 H H1 b g}(h:AX P l a H0 (.ao b) H)(hm:Mv H H1 g)(hn:H0.bx<=H.bx):AX P l a H0 (.ao b) H1:=
 awb h (auI hm) hn (λφ aQ _ x hx=>by simpa[VR]using hx)
def ZY(n sz:Nat):LV->LV
 |[]=>[]
 |.aJ::l=>.ai n 0 sz::ZY n sz l
 |a::l=>a::ZY n sz l
theorem Ch{φ n sz}:∀{l vs},bp φ l vs->bp φ (ZY n sz l) vs
 |[],vs,h=>h
 |a::l,vs,h=>by
  obtain⟨v,ep,rfl,h1,h2⟩:=h;have:=Ch (n:=n) (sz:=sz) h2;cases a<;>first
   |exact⟨v,ep,rfl,qN h1,this⟩
   |exact⟨v,ep,rfl,h1,this⟩
end
end Go.Ev
namespace Go.Ev
noncomputable section
section
variable{xx:Option XH}
def JL(g:Nat)(vs:List AV)(φ aQ:cj):Prop:=
 dv φ aQ/\∀e,φ g=some e->∃(eA:Array Value) (el:TypeId) (fz:Nat×Nat),aQ.ro e.b=some (.cells eA el fz)/\e.o+vs.length<=eA.size/\bp aQ.pu vs ((eA.toList.drop e.o).take vs.length)
mutual
def gT(g:Nat)(vs:List AV):AV->AV
 |.ai id len sz=>bif Nat.beq id g&&Nat.beq vs.length (len*sz)then .ad vs len sz else .ai id len sz
 |.bq id off len cap sz ex=>bif Nat.beq id g&&Nat.beq off 0&&Nat.beq vs.length (len*sz)then .ad vs len sz else .bq id off len cap sz ex
 |.ah cs=>.ah (qp g vs cs)
 |.aC cs=>.aC (qp g vs cs)
 |a=>a
def qp(g:Nat)(vs:List AV):List AV->List AV
 |[]=>[]
 |a::l=>gT g vs a::qp g vs l
end
mutual
theorem W8{g:Nat}{vs:List AV}{φ aQ:cj}(h:JL g vs φ aQ):∀{a:AV} {v:Value},VR φ a v->VR aQ (gT g vs a) v
 |.ai id len sz,v,hv=>by
  simp only[gT];cases hc:Nat.beq id g&&Nat.beq vs.length (len*sz)
  .exact VR.ef h.1 _ _ hv
  .simp only[dk]at hc;have h1:=dG hc.1;have h2:=dG hc.2;subst h1;simp only[cond_true,VR];simp only[VR]at hv;rcases hv with⟨rfl,rfl⟩|⟨e,x,c,h3,rfl,h4,h5,h6⟩
   .exact⟨none,0,rfl,h2,.inl rfl⟩
   .refine⟨_,c,rfl,h2,?_⟩;by_cases h0:len=0
    .exact .inl h0
    .right;obtain⟨eA,el,fz,k1,k2,k3⟩:=h.2 e h3;have hx:x=e.o:=by
      rcases h4 with h4|h4
      .omega
      .exact h4
     subst hx;exact⟨e.b,e.o,eA,el,fz,rfl,h5,k1,k2,k3⟩
 |.ah cs,v,hv=>by simp only[gT,VR]at hv⊢;obtain⟨cs',h1,h2⟩:=hv;exact⟨cs',h1,PZ h h2⟩
 |.aC cs,v,hv=>by simp only[gT,VR]at hv⊢;obtain⟨cs',h1,h2⟩:=hv;exact⟨cs',h1,PZ h h2⟩
 |.ao _,v,hv=>VR.ef h.1 _ _ hv
 |.bU _ _,v,hv=>VR.ef h.1 _ _ hv
 |.ab _,v,hv=>VR.ef h.1 _ _ hv
 |.aa _ _,v,hv=>VR.ef h.1 _ _ hv
 |.kE,v,hv=>VR.ef h.1 _ _ hv
 |.bq id off len cap sz ex,v,hv=>by
  simp only[gT];cases hc:Nat.beq id g&&Nat.beq off 0&&Nat.beq vs.length (len*sz)
  .exact VR.ef h.1 _ _ hv
  .simp only[dk]at hc;have h1:=dG hc.1.1;have h0:=dG hc.1.2;have h2:=dG hc.2;subst h1;subst h0;simp only[cond_true,VR];simp only[VR]at hv;obtain⟨e,x,c,h3,rfl,h4,h5,_,h6⟩:=hv;refine⟨_,c,rfl,h2,?_⟩;by_cases h0:len=0
   .exact .inl h0
   .right;obtain⟨eA,el,fz,k1,k2,k3⟩:=h.2 e h3;have hx:x=e.o:=by
     rcases h4 with h4|h4
     .omega
     .exact h4
    subst hx;exact⟨e.b,e.o,eA,el,fz,rfl,h5,k1,k2,k3⟩
 |.aJ,v,hv=>VR.ef h.1 _ _ hv
 |.aA _,v,hv=>VR.ef h.1 _ _ hv
 |.mF,v,hv=>VR.ef h.1 _ _ hv
 |.ba ..,v,hv=>VR.ef h.1 _ _ hv
 |.gz _,v,hv=>VR.ef h.1 _ _ hv
 |.p_,v,hv=>VR.ef h.1 _ _ hv
 |.dT ..,v,hv=>VR.ef h.1 _ _ hv
 |.lq,v,hv=>VR.ef h.1 _ _ hv
 |.uW _,v,hv=>VR.ef h.1 _ _ hv
 |.ad ..,v,hv=>VR.ef h.1 _ _ hv
 |.pw _,v,hv=>VR.ef h.1 _ _ hv
 |.gX ..,v,hv=>VR.ef h.1 _ _ hv
 |.fF ..,v,hv=>VR.ef h.1 _ _ hv
 |.qS,v,hv=>VR.ef h.1 _ _ hv
 |.dH _,v,hv=>VR.ef h.1 _ _ hv
theorem PZ{g:Nat}{vs:List AV}{φ aQ:cj}(h:JL g vs φ aQ):∀{l:List AV} {m:List Value},bp φ l m->bp aQ (qp g vs l) m
 |[],m,hv=>by simpa[bp,qp]using hv
 |a::l,m,hv=>by simp only[bp,qp]at hv⊢;obtain⟨v,m',h1,h2,h3⟩:=hv;exact⟨v,m',h1,W8 h h2,PZ h h3⟩
end
theorem aq7(g vs a):(gT g vs a).cX=a.cX:=by
 cases a<;>try rfl
 next id off len cap sz ex=>simp only[gT];cases Nat.beq id g&&Nat.beq off 0&&Nat.beq vs.length (len*sz)<;>rfl
 rename_i id len sz;simp only[gT];cases Nat.beq id g&&Nat.beq vs.length (len*sz)<;>rfl
theorem agt(g vs):∀l:List AV,(qp g vs l).length=l.length/\(qp g vs l).all AV.cX=l.all AV.cX
 |[]=>⟨rfl,rfl⟩
 |a::l=>by have:=agt g vs l;exact⟨by simp[qp,this.1],by simp[qp,this.2,aq7]⟩
def Hl(g:Nat)(vs:List AV):bk->bk
 |.aj cs e=>.aj (qp g vs cs) e
 |o=>o
def sI(g:Nat)(vs:List AV):List (Nat×bk)->List (Nat×bk)
 |[]=>[]
 |(s,a)::l=>(s,bif Nat.beq s g then .bc []else Hl g vs a)::sI g vs l
theorem aq9{g vs φ aQ}(h:JL g vs φ aQ){ob e o}(ho:OR φ ob e o):OR aQ (Hl g vs ob) e o:=by
 unfold Hl;split;next cs kB=>have⟨cs',el,h1,h2,h3,h4,h5⟩:=ho;have hl:=agt g vs cs;exact⟨cs',el,h1,h2,by rw[hl.1];exact h3,by rw[hl.1];exact PZ h h4,by rw[hl.2];exact h5⟩
 .exact ho.sq h.1
theorem aq8(g vs ob):(Hl g vs ob).aR=ob.aR:=by unfold Hl;split<;>rfl
theorem P0{g vs}:∀{l id bB},cN (sI g vs l) id=some bB->∃ob,cN l id=some ob/\((id=g/\bB=.bc [])\/(id≠g/\bB=Hl g vs ob))
 |[],id,bB,h=>by cases h
 |(s,a)::l,id,bB,h=>by
  simp only[sI,cN]at h⊢;by_cases hi:id=s
  .subst hi;rw[aO rfl]at h⊢;cases h;refine⟨a,rfl,?_⟩;cases hb:Nat.beq id g
   .exact .inr ⟨(λe=>by rw[e,k7]at hb;cases hb),rfl⟩
   .exact .inl ⟨dG hb,rfl⟩
  .rw[az hi]at h⊢;exact P0 h
theorem ai3{m0 g n l vs el}(hg:cN l g=some (.ay vs el)):lL m0 (eg xx l n) (eg xx (sI g vs l) n) (JL g vs):=by
 refine⟨cM n,λφ bs w cu hw=>?_⟩;have eH:∀id,(eg xx l n).bf id=cN l id:=eh l n;let aQ:cj:=⟨φ.f,λb=>match φ g with|none=>φ.ro b|some e=>if b=e.b then w.heap[b]? else φ.ro b,φ.xs⟩
 have kP:dv φ aQ:=by
  refine⟨λ_ _ h=>h,λb o h=>?_,λ_ _ h=>h⟩;show(match φ g with|none=>φ.ro b|some e=>if b=e.b then w.heap[b]? else φ.ro b)=some o;split
  .exact h
  .split
   .exact(hw.ro b o h).1.2
   .exact h
 have fS:∀e,φ g=some e->aQ.ro e.b=w.heap[e.b]? :=by intro e he;show(match φ g with|none=>φ.ro e.b|some e2=>if e.b=e2.b then w.heap[e.b]? else φ.ro e.b)=_;rw[he];exact aO rfl
 have hR:JL g vs φ aQ:=by refine⟨kP,λe he=>?_⟩;obtain⟨o,h1,cs,gO,rfl,h2,h3,h4,h5⟩:=hw.ew g _ e ((eH g).trans hg) he;exact⟨cs,gO,(0,0),(fS e he).trans h1,by omega,bp.kI kP.pu _ _ h4⟩
 have l6:∀{id ob},(eg xx (sI g vs l) n).bf id=some ob->ob.aR=true->∃dV,(eg xx l n).bf id=some dV/\dV.aR=true/\id≠g:=by
  intro id ob h1 h2;rw[eh]at h1;obtain⟨dV,h3,⟨h4,h5⟩|⟨h4,h5⟩⟩:=P0 h1
  .subst h5;cases h2
  .subst h5;exact⟨dV,(eH id).trans h3,by rwa[aq8]at h2,h4⟩
 have EP:∀n',(eg xx (sI g vs l) n).hJ n'=(eg xx l n).hJ n':=tw rfl;refine⟨aQ,⟨?_,?_,hw.lt,?_,⟨?_,?_,λa b c d e f h1 h2=>hw.wx.xi a b c d e f ((EP a).symm.trans h1) ((EP b).symm.trans h2),hw.wx.xl⟩⟩,⟨⟨λ_ _=>rfl,kP.ro,kP.xs⟩,.of rfl rfl⟩,hR⟩
 .intro id ob e h1 h2;rw[eh]at h1;obtain⟨dV,h3,⟨h4,h5⟩|⟨h4,h5⟩⟩:=P0 h1
  .subst h5;have hb:=(hw.lt id e h2).1;exact⟨w.heap[e.b]'hb,Ax hb,trivial⟩
  .subst h5;have⟨o,k1,k2⟩:=hw.ew id dV e ((eH id).trans h3) h2;exact⟨o,k1,aq9 hR k2⟩
 .intro id g_ ob bB e e' h1 l1 h2 h3 l2 h4 hb;have⟨o1,k1,k2,_⟩:=l6 h1 l1;have⟨o2,k3,k4,_⟩:=l6 h3 l2;exact hw.jg id g_ o1 o2 e e' k1 k2 h2 k3 k4 h4 hb
 .intro id ob h1;rw[eh]at h1;have⟨dV,h3,_⟩:=P0 h1;exact hw.nx id dV ((eH id).trans h3)
 .intro b o hb;have ar9:φ.ro b=some o\/∃e,φ g=some e/\b=e.b/\w.heap[b]? =some o:=by
   have hb:(match φ g with|none=>φ.ro b|some e=>if b=e.b then w.heap[b]? else φ.ro b)=some o:=hb;cases he:φ g with
   |none=>rw[he]at hb;exact .inl hb
   |some e=>
    rw[he]at hb;simp only at hb;split at hb;next oz=>exact .inr ⟨e,rfl,oz,hb⟩
    .exact .inl hb
  rcases ar9 with hc|⟨e,he,rfl,hc⟩
  .have⟨k1,k2⟩:=hw.ro b o hc;refine⟨k1,λid ob e h1 l1 h2=>?_⟩;have⟨o1,q1,q2,_⟩:=l6 h1 l1;exact k2 id o1 e q1 q2 h2
  .refine⟨⟨(hw.lt g e he).2.1,hc⟩,λid ob e' h1 l1 h2 oz=>?_⟩;have⟨o1,q1,q2,q3⟩:=l6 h1 l1;exact q3 (hw.jg id g o1 _ e' e q1 q2 h2 ((eH g).trans hg) rfl he oz)
 .intro nn ob h1;have⟨e,o,r1,r2,r3,r4,r5⟩:=hw.wx.xo nn ob ((EP nn).symm.trans h1);refine⟨e,o,r1,r2,r3.sq kP.pu,?_,λid ob e' h1 l1 h2=>?_⟩
  .show(match φ g with|none=>φ.ro e.b|some e2=>if e.b=e2.b then w.heap[e.b]? else φ.ro e.b)=none;cases he:φ g with
   |none=>exact r4
   |some e2=>simp only;rw[az (λh=>r5 g _ e2 ((eH g).trans hg) rfl he h.symm)];exact r4
  .have⟨o1,q1,q2,_⟩:=l6 h1 l1;exact r5 id o1 e' q1 q2 h2
theorem tR{P f args H0 v g n l vs el}(h:bZ P f args H0 v (eg xx l n))(hg:cN l g=some (.ay vs el))(cu:H0.bx<=n)(pS:ju v=.gk v:=by rfl):
 bZ P f args H0 (gT g vs v) (eg xx (sI g vs l) n):=
 Bf h (ai3 hg) cu (λφ aQ hR x hx=>W8 hR hx) pS
def Br(g:Nat)(vs:List AV):List (Nat×AV)->List (Nat×AV)
 |[]=>[]
 |(s,a)::l=>(s,gT g vs a)::Br g vs l
theorem agu{g vs i a'}:∀{l},(aB (Br g vs l)).bT i=some a'->∃a,(aB l).bT i=some a/\a'=gT g vs a
 |[],h=>by rw[nG]at h;cases h
 |(s,b)::l,h=>by
  rw[nG]at h;rw[nG];simp only[Br,yI]at h⊢;by_cases hs:i=s
  .rw[aO hs]at h⊢;cases h;exact⟨b,rfl,rfl⟩
  .rw[az hs]at h⊢;rw[<-nG]at h⊢;exact agu h
theorem ase{ds P f nt m0 g n v H1 T l vs el todo}(h:hZ ds P f nt m0 v H1 (aB (Br g vs T)) (eg xx (sI g vs l) n) todo)(hg:cN l g=some (.ay vs el))(hp:kY todo=true)(gU:oT m0 ds):hZ ds P f nt m0 v H1 (aB T) (eg xx l n) todo:=by refine Lq (gU:=gU) h (ai3 hg) hp (λφ aQ hR i a' hi=>?_);obtain⟨a,h1,rfl⟩:=agu hi;exact⟨a,h1,λx hx=>W8 hR hx⟩
theorem HM{P f nt m0 g n v H1 T l vs el todo}(h:br P f nt m0 v H1 (aB (Br g vs T)) (eg xx (sI g vs l) n) todo)(hg:cN l g=some (.ay vs el))(hp:kY todo=true):br P f nt m0 v H1 (aB T) (eg xx l n) todo:=
 ase h hg hp (A8 _)
theorem HR{P f nt m0 v H1 H H2 tmps t todo oh ls ps}(hp:kY todo=true)(hv:l9 m0 oh H=some ⟨ps,H2⟩)(ht:qJ (iz ps) tmps ls=some t)(h:br P f nt m0 v H1 t H2 todo):br P f nt m0 v H1 tmps H todo:=cb.sm hp hv ht h
end
section
theorem WR.conv{φ bs H H' w}(hw:WR φ bs H w)(hn:H'.bx=H.bx)(hx:H'.x=H.x)(ho:∀id bB,H'.bf id=some bB->∃ob,H.bf id=some ob/\(bB.aR=true->ob.aR=true)/\∀e o,φ id=some e->OR φ ob e o->OR φ bB e o):WR φ bs H' w:=by
 refine⟨λid ob e h1 h2=>?_,λid g_ ob bB e e' h1 l1 h2 h3 l2 h4 hb=>?_,λid e h=>?_,λid ob h=>?_,hw.se rfl rfl hx (λ_ _=>rfl) λid ob e h1 l1 h2=>.inl ?_⟩
 .have⟨dV,g1,_,g3⟩:=ho id ob h1;have⟨o,g4,g5⟩:=hw.ew id dV e g1 h2;exact⟨o,g4,g3 e o h2 g5⟩
 .have⟨o1,g1,g2,_⟩:=ho id ob h1;have⟨o2,k1,k2,_⟩:=ho g_ bB h3;exact hw.jg id g_ o1 o2 e e' g1 (g2 l1) h2 k1 (k2 l2) h4 hb
 .rw[hn];exact hw.lt id e h
 .have⟨dV,g1,_⟩:=ho id ob h;rw[hn];exact hw.nx id dV g1
 .have⟨dV,g1,g2,_⟩:=ho id ob h1;exact⟨id,dV,e,g1,g2 l1,h2,rfl⟩
mutual
def Dg(g c:Nat):AV->AV
 |.aa id off=>bif Nat.beq id g then .gX c off else .aa id off
 |.ah cs=>.ah (xI g c cs)
 |.aC cs=>.aC (xI g c cs)
 |a=>a
def xI(g c:Nat):List AV->List AV
 |[]=>[]
 |a::l=>Dg g c a::xI g c l
end
def Gr(g c:Nat)(φ aQ:cj):Prop:=dv φ aQ/\∀e,φ g=some e->aQ.xs c=some e
mutual
theorem amM{g c:Nat}{φ aQ:cj}(h:Gr g c φ aQ):∀{a:AV} {v:Value},VR φ a v->VR aQ (Dg g c a) v
 |.aa id off,v,hv=>by
  simp only[Dg];cases hb:Nat.beq id g
  .exact VR.ef h.1 _ _ hv
  .have:id=g:=dG hb;subst this;obtain⟨e,h1,h2⟩:=hv;exact⟨e,h.2 e h1,h2⟩
 |.ah cs,v,hv=>by obtain⟨cs',rfl,h1⟩:=hv;exact⟨cs',rfl,Ti h h1⟩
 |.aC cs,v,hv=>by obtain⟨cs',rfl,h1⟩:=hv;exact⟨cs',rfl,Ti h h1⟩
 |.ao _,v,hv=>VR.ef h.1 _ _ hv
 |.bU ..,v,hv=>VR.ef h.1 _ _ hv
 |.ab _,v,hv=>VR.ef h.1 _ _ hv
 |.kE,v,hv=>VR.ef h.1 _ _ hv
 |.bq ..,v,hv=>VR.ef h.1 _ _ hv
 |.aJ,v,hv=>VR.ef h.1 _ _ hv
 |.aA _,v,hv=>VR.ef h.1 _ _ hv
 |.mF,v,hv=>VR.ef h.1 _ _ hv
 |.ba ..,v,hv=>VR.ef h.1 _ _ hv
 |.gz _,v,hv=>VR.ef h.1 _ _ hv
 |.p_,v,hv=>VR.ef h.1 _ _ hv
 |.dT ..,v,hv=>VR.ef h.1 _ _ hv
 |.lq,v,hv=>VR.ef h.1 _ _ hv
 |.uW _,v,hv=>VR.ef h.1 _ _ hv
 |.ad ..,v,hv=>VR.ef h.1 _ _ hv
 |.pw _,v,hv=>VR.ef h.1 _ _ hv
 |.ai ..,v,hv=>VR.ef h.1 _ _ hv
 |.gX ..,v,hv=>VR.ef h.1 _ _ hv
 |.fF ..,v,hv=>VR.ef h.1 _ _ hv
 |.qS,v,hv=>VR.ef h.1 _ _ hv
 |.dH _,v,hv=>VR.ef h.1 _ _ hv
theorem Ti{g c:Nat}{φ aQ:cj}(h:Gr g c φ aQ):∀{l:List AV} {m:List Value},bp φ l m->bp aQ (xI g c l) m
 |[],m,hv=>by simpa[bp,xI]using hv
 |a::l,m,hv=>by simp only[bp,xI]at hv⊢;obtain⟨v,m',h1,h2,h3⟩:=hv;exact⟨v,m',h1,amM h h2,Ti h h3⟩
end
theorem aDG(g c a):(Dg g c a).cX=a.cX:=by
 cases a<;>try rfl
 rename_i id off;simp only[Dg];cases Nat.beq id g<;>rfl
theorem amN(g c):∀l:List AV,(xI g c l).length=l.length/\(xI g c l).all AV.cX=l.all AV.cX
 |[]=>⟨rfl,rfl⟩
 |a::l=>by have:=amN g c l;exact⟨by simp[xI,this.1],by simp[xI,this.2,aDG]⟩
def Jt(g c:Nat):bk->bk
 |.aj cs e=>.aj (xI g c cs) e
 |o=>o
def F0(g c:Nat):List (Nat×bk)->List (Nat×bk)
 |[]=>[]
 |(s,a)::l=>(s,bif Nat.beq s g then .bc []else Jt g c a)::F0 g c l
theorem aDI{g c φ aQ}(h:Gr g c φ aQ){ob e o}(ho:OR φ ob e o):OR aQ (Jt g c ob) e o:=by
 unfold Jt;split;next cs kB=>have⟨cs',el,h1,h2,h3,h4,h5⟩:=ho;have hl:=amN g c cs;exact⟨cs',el,h1,h2,by rw[hl.1];exact h3,by rw[hl.1];exact Ti h h4,by rw[hl.2];exact h5⟩
 .exact ho.sq h.1
theorem aDH(g c ob):(Jt g c ob).aR=ob.aR:=by unfold Jt;split<;>rfl
theorem amO{g c}:∀{l id bB},cN (F0 g c l) id=some bB->∃ob,cN l id=some ob/\((id=g/\bB=.bc [])\/(id≠g/\bB=Jt g c ob))
 |[],id,bB,h=>by cases h
 |(s,a)::l,id,bB,h=>by
  simp only[F0,cN]at h⊢;by_cases hi:id=s
  .subst hi;rw[aO rfl]at h⊢;cases h;refine⟨a,rfl,?_⟩;cases hb:Nat.beq id g
   .exact .inr ⟨(λe=>by rw[e,k7]at hb;cases hb),rfl⟩
   .exact .inl ⟨dG hb,rfl⟩
  .rw[az hi]at h⊢;exact amO h
def Df(X:Nat->Option bk)(c:Nat)(ob:bk):Nat->Option bk:=λi=>bif Nat.beq i c then some ob else X i
theorem aDA{φ bs w X c g n l vs el e}(m0)(hg:cN l g=some (.aj vs el))(hp:vs.all eG=true)(hw:WR φ bs (b_ X c l n) w)(he:φ g=some e):∃aQ,WR aQ bs (b_ (Df X c (.aj vs el)) (c+1) (F0 g c l) n) w/\(jh m0 φ aQ/\mT φ (b_ X c l n) aQ (b_ (Df X c (.aj vs el)) (c+1) (F0 g c l) n))/\Gr g c φ aQ:=by
 have eH:∀id,(b_ X c l n).bf id=cN l id:=eh l n;have⟨aQ,h1,h2,h3⟩:=hw.To ((eH g).trans hg) rfl he (λ⟨cs,gO,a,b,d,f,h⟩=>⟨cs,gO,a,b,d,bp.wj _ _ (by rw[vL];exact hp) f,h⟩) rfl (m:=m0);have hR:Gr g c φ aQ:=⟨h3.1,λe' im=>by rw[he]at im;cases im;exact h1⟩;have hR':Gr g c aQ aQ:=⟨dv.refl _,λe' im=>by rw[h3.1 g e he]at im;cases im;exact h1⟩;refine⟨aQ,h2.conv rfl rfl λid bB ho=>?_,⟨h3.ag,⟨by constructor<;>(intro h;cases h),λh=>by cases h⟩⟩,hR⟩;have ho:cN (F0 g c l) id=some bB:=by rw[<-ho];exact(eh _ n id).symm
 obtain⟨ob,k1,⟨k2,rfl⟩|⟨k2,rfl⟩⟩:=amO ho
 .refine⟨.bc [],?_,λh=>h,λ_ _ _ h=>h⟩;show((b_ X c l n).cQ g (.bc [])).bf id=_;rw[oF,aO k2]
 .refine⟨ob,?_,λh=>by rwa[aDH]at h,λe' o _ h=>aDI hR' h⟩;show((b_ X c l n).cQ g (.bc [])).bf id=_;rw[oF,az k2];exact(eH id).trans k1
theorem asj{ds P f nt m0 v H1 t t' todo X c g n l vs el s off}(h:hZ ds P f nt m0 v H1 t' (b_ (Df X c (.aj vs el)) (c+1) (F0 g c l) n) todo)(hg:cN l g=some (.aj vs el))(hp:vs.all eG=true)(hs:t.bT s=some (.aa g off))(hi:kY todo=true)(ht:∀i a',t'.bT i=some a'->∃a,t.bT i=some a/\a'=Dg g c a)(gU:oT m0 ds):hZ ds P f nt m0 v H1 t (b_ X c l n) todo:=by
 have⟨r,hq,hr⟩:=h;refine⟨r,hq,λφ w bs cp cs cu hw hl hf=>?_⟩;have⟨b,a,Np,e1,e2,e3⟩:=hf;have⟨x,h3,e,he,_⟩:=e2.tr.2 s _ hs;have⟨lH,k1,k2,k3⟩:=aDA m0 hg hp hw he;have nz:tD lH (fB ds none f nt t' todo) cp:=by
  refine⟨b,a,Np,e1,⟨e2.fn,⟨e2.tr.1,λi a' ha=>?_⟩,?_,e2.jP,e2.km,e2.pH⟩,Od hi e3⟩
  .obtain⟨a0,h1,rfl⟩:=ht i a' ha;have⟨x,h3,h4⟩:=e2.tr.2 i a0 h1;exact⟨x,h3,amM k3 h4⟩
  .exact AT k2.1 gU e2.dr
 have⟨aQ,w',g1,g2,g3,g4⟩:=hr lH w bs cp cs cu k1 hl nz;exact⟨aQ,w',g1,k2.1.rN g2,⟨g3.1,k2.2.qL g3.2⟩,g4⟩
theorem Rq{m0 g n c l l'}(hg:cN l g=some (.bm [] c false))(hl:∀id,cN l' id=if id=g then some (.bm [] c true)else cN l id){xx}:
 lL m0 (eg xx l n) (eg xx l' n) (λφ aQ=>aQ=φ):=by
 refine⟨cM n,λφ bs w cu hw=>⟨φ,hw.conv rfl rfl λid bB ho=>?_,⟨jh.zj _ _,.of rfl rfl⟩,rfl⟩⟩;rw[eh,hl]at ho;rw[eh];by_cases hi:id=g
 .rw[aO hi]at ho;cases ho;subst hi;exact⟨_,hg,λ_=>rfl,λe o _ ⟨es,h1,h2,_⟩=>⟨es,h1,h2,λ_=>h2⟩⟩
 .rw[az hi]at ho;exact⟨bB,ho,λh=>h,λ_ _ _ h=>h⟩
end
section
variable{P:Program}{S:bo}
def uY(P:Program)(call:rO):Nat->fN->AH->jR
 |0,fr,H=>.go fr H
 |n+1,fr,H=>match jY P call fr H with
  |.go fr' H'=>uY P call n fr' H'
  |r=>r
theorem cb.Bx{m0 call}(cP:P.follows .mixedOrders=true)(hc:mf P call){Q}:∀{n fr fr' H H'},(∀i wB H2,i<n->uY P call i fr H=.go wB H2->wB.up=none)->uY P call n fr H=.go fr' H'->cb P m0 fr' H' Q->cb P m0 fr H Q
 |0,fr,fr',H,H',_,h,ht=>by cases h;exact ht
 |n+1,fr,fr',H,H',hu,h,ht=>by
  simp only[uY]at h;split at h;next fr1 H1 hs=>refine cb.iY cP hc (hu 0 fr H (by omega) rfl) hs (cb.Bx cP hc (λi wB H2 hi h2=>hu (i+1) wB H2 (by omega) (by simp only[uY,hs];exact h2)) h ht)
  next hn=>
   cases hr:jY P call fr H with
   |go a b=>exact absurd hr (hn a b)
   |zl r=>rw[hr]at h;cases h
   |eI w=>rw[hr]at h;cases h
theorem aoq{ds fn nt m0 aR LR Q}(cP:P.follows .mixedOrders=true)(hc:mf P (kK S))(gU:oT m0 ds)(Xx:∀t H,LR t H->cb P m0 ⟨fn,t,nt,[],ds,.iX,none,none⟩ H Q):J7 P S ds none fn nt m0 Q (λ_=>VJ m0 aR LR):=by
 intro b tmps todo H h hs;rw[Zv]at hs;unfold VJ at h;split at h;next ps H2 hv=>
  split at h;next t ht=>exact cb.iY cP hc rfl hs (cb.aDe hv ht (Xx _ _ h) gU)
  .cases h
 .cases h
theorem aop{ds fn nt m0 aR LP Q}(gU:oT m0 ds)(Xw:∀x t H,LP x t H->cb P m0 ⟨fn,t,nt,[],ds,.ll [(x,false)],none,none⟩ H Q):U4 P ds none fn nt m0 Q (VH m0 aR LP):=by
 intro x H tmps todo h;unfold VH at h;split at h;next ps H2 hv=>
  split at h;next y t hy ht=>exact cb.aDd hv hy ht (Xw _ _ _ h) gU
  .cases h
 .cases h
theorem Lp(cP:P.follows .mixedOrders=true)(hS:aU P S){ds aR n f nt m0 t todo H Q LR LP}(gU:oT m0 ds)(mD:(P.funcs[f]?).map (·.ntmps)=some nt)(Xx:∀t H,LR t H->cb P m0 ⟨f,t,nt,[],ds,.iX,none,none⟩ H Q)(Xw:∀x t H,LP x t H->cb P m0 ⟨f,t,nt,[],ds,.ll [(x,false)],none,none⟩ H Q)(h:Jc P S aR (λt H todo=>cb P m0 (fB ds none f nt t todo) H Q) LR LP n f m0 t todo H):cb P m0 (fB ds none f nt t todo) H Q:=by
 unfold Jc at h;split at h;next fn jw=>rw[jw]at mD;simp at mD;subst mD;exact FF (rd:=none) cP (pK hS) gU trivial (aoq cP (pK hS) gU Xx) (aop gU Xw) (λ_ _ _ h=>h) n h
 .cases h
theorem cb.pI(cP:P.follows .mixedOrders=true)(hc:mf P (kK S)){fn nt m0 Q tmps todo H}(h:pI P fn m0 Q tmps H):cb P m0 ⟨fn,tmps,nt,todo,[],.iX,none,none⟩ H (pX Q):=by
 unfold Ev.pI at h;split at h;next f hf=>
  split at h;next l hl=>refine aaT (fn:=fn) (nt:=nt) rfl h ?_;refine cb.JA cP hc rfl ?_ rfl;simp only[jY,CS,IU,hf,hl]
  .cases h
 .cases h
def GC:List dP->List dP
 |.gY ops i (_::l)::k=>.gY ops (Nat.succ i) l::k
 |t=>t
def Bj(P:Program)(n:Nat):rO:=⟨run P Mx n,Mx⟩
theorem Bk(cP:P.follows .mixedOrders=true)(n):mf P (Bj P n):=⟨Sx cP Z3 n,Z3⟩
end
section
section
variable{P:Program}{φ:cj}{base:fv}{m:Nat}{H:AH}{w:World}{ρ:Operand->Option AV}{ev:Operand->Value}
theorem dI.Z5:∀{es ms},dI φ es ms->∀{i:Nat} {x},ms[i]? =some x->∃e,es[i]? =some e/\VR φ e.1 x.key/\VR φ e.2.1 x.val/\x.born=e.2.2
 |[],_,h,i,x,hi=>by simp only[dI]at h;subst h;simp at hi
 |(k,v,b)::es,_,h,i,x,hi=>by
  obtain⟨y,ms,rfl,h1,h2,h3,h4⟩:=h;cases i with
  |zero=>simp at hi;subst hi;exact⟨_,rfl,h1,h2,h3⟩
  |succ i=>exact dI.Z5 h4 hi
theorem auL(hw:WR φ base H w){r mm since last clock bE es er em T}(hr:H.bf r=some (.je (some mm) since bE last))(ub:φ r=some er){p}(ho:H.bf mm=some (.bm es clock p))(ua:φ mm=some em)(hc:(!bE.isEmpty&& !es.isEmpty&&es.all (λe=>Nat.ble last e.2.2))=false)(h2l:2<=(es.filter λe=> !bE.any (Nat.beq e.2.2)).length)(u7:(es.filter λe=> !bE.any (Nat.beq e.2.2)).all (λe=>Nat.ble (e.2.2+1) since)=true):
 ∃e∈es.filter (λe=> !bE.any (Nat.beq e.2.2)),
  eP P m base φ H w (do pure (.value (<-Instr.next (.pointer (some ⟨er.b,0,none⟩)) false T)):Sem Next) (.aC [.ao true,e.1,e.2.1]) (H.cQ r (.je (some mm) since (bE++[e.2.2]) clock)):=by
 obtain⟨o,hg,m',rfl,X3,ud⟩:=hw.ew r _ er hr ub;obtain⟨e',im,rfl⟩:=ud;rw[ua]at im;cases im;obtain⟨o2,qv,bF,rfl,jk,-⟩:=hw.ew mm _ em ho ua;have h1:=qq (P:=P) hg rfl;have h2:=qq (P:=P) qv rfl;have wF:(!bE.toArray.isEmpty&& !bF.isEmpty&&bF.all (λx=>decide (x.born>=last)))=false:=by
  have e1:bE.toArray.isEmpty=bE.isEmpty:=by cases bE<;>rfl
  have e2:bF.isEmpty=es.isEmpty:=by have:=jk.Jx;cases es<;>cases bF<;>rename_i l<;>cases l<;>simp at this⊢
  have e3:bF.all (λx=>decide (x.born>=last))=es.all (λe=>Nat.ble last e.2.2):=by rw[<-jk.all (λb=>Nat.ble last b),<-Array.all_toList];congr 1;funext x;rw[rC];simp
  rw[e1,e2,e3];exact hc
 have wK:dI φ (es.filter λe=> !bE.any (Nat.beq e.2.2)) (bF.filter λe=> !bE.toArray.contains e.born).toList:=by
  have:=jk.Tn (λb=> !bE.any (Nat.beq b));rw[Array.toList_filter];have e:(λ(e:MapEntry)=> !bE.toArray.contains e.born)=(λx=>(λb=> !bE.any (Nat.beq b)) x.born):=by simp only[ala]
  rw[e];exact this
 generalize es.filter (λe=> !bE.any (Nat.beq e.2.2))=left at h2l u7 wK⊢;generalize hL:bF.filter (λe=> !bE.toArray.contains e.born)=kV at wK;have bS:left.length=kV.size:=by have:=wK.Jx;simpa using this
 have ag5:∀x∈kV.toList,x.born<since:=by intro x hx;have⟨i,hi⟩:=List.getElem?_of_mem hx;have⟨e,h3,_,_,h4⟩:=dI.Z5 wK hi;have:=lZ.1 u7 e (I4 h3);have:=ph this;omega
 have o1:kV.filter (λe=>decide (e.born<since))=kV:=by rw[Array.filter_eq_self];intro x hx;simpa using ag5 x (by simpa using hx)
 have o2:kV.filter (λe=>decide (e.born>=since))= #[]:=by rw[Array.filter_eq_empty_iff];intro x hx;have:=ag5 x (by simpa using hx);simp;omega
 have ax:w.tape w.drawn (.mapNext kV.size)%kV.size<kV.size:=Nat.mod_lt _ (by omega);generalize hj:w.tape w.drawn (.mapNext kV.size)%kV.size=j at ax;have hx:kV.toList[j]? =some kV[j]:=by simp[ax]
 have⟨e,h3,h4,h5,h6⟩:=dI.Z5 wK hx;have hwd:WR φ base H w.drew:=hw.rF rfl;have⟨w',b1,b2,b3⟩:=hwd.AE (P:=P) (bB:=.je (some mm) since (bE++[e.2.2]) clock) hr rfl ub hg rfl
  ⟨some em.b,rfl,X3,em,ua,rfl⟩
 refine⟨e,I4 h3,eP.of (v':=.tuple #[.bool true,kV[j].key,kV[j].val]) ?_ (abD (by simp[VR]) h4 h5) b2 (cH.oN ub _) ((cY.rF rfl).so b3)⟩;have hf:(Question.mapNext kV.size).forced=false:=by show decide (kV.size<=1)=false;simp;omega
 have cE:kV≠ #[]:=by intro h0;subst h0;simp at ax
 have VM:(setObj er.b (.mapIter (some em.b) since (bE++[kV[j].born]).toArray clock)).run P w.drew=.ok () w':=by rw[<-b1,h6]
 simp only[Instr.next,Sem.run_bind,h1,Result.andThen_ok,h2,wF,hL,o1,o2];simp[cE,hf,ax,Question.cut,hj];rw[VM];rfl
end
variable{P:Program}
def rh(es:List (AV×AV×Nat))(bE:LN):List (AV×AV×Nat):=es.filter λe=> !bE.any (Nat.beq e.2.2)
theorem auN(cP:P.follows .mixedOrders=true){ds m0 f nt d r mm since last clock i bE es p t ops o rest k it H H1 v}(nC:o.op=.next it false)(hg:o.guard=none)(hd:o.dst=some d)(hdn:Nat.ble (d+1) nt=true)(hx:iw t it=some (.aa r 0))(hr:H.bf r=some (.je (some mm) since bE last))(ho:H.bf mm=some (.bm es clock p))(hc:(!bE.isEmpty&& !es.isEmpty&&es.all (λe=>Nat.ble last e.2.2))=false)(fJ:∀e∈es,e.2.2<since)(h0:rh es bE=[]->hZ ds P f nt m0 v H1 (t.fV d (.aC [.ao false])) H (.gY ops (Nat.succ i) rest::k))(h1:∀e∈rh es bE,hZ ds P f nt m0 v H1 (t.fV d (.aC [.ao true,e.1,e.2.1])) (H.cQ r (.je (some mm) since (bE++[e.2.2]) clock)) (.gY ops (Nat.succ i) rest::k)):
 hZ ds P f nt m0 v H1 t H (.gY ops i (o::rest)::k):=by
 have Et:=Bk cP 0;have alW:∀{x:AV} {H2:AH},IJ H r mm since bE last es clock=some (.gE x H2)->jY P ⟨λ_ _=>none,Mx⟩ (fB ds none f nt t (.gY ops i (o::rest)::k)) H=.go (fB ds none f nt (t.fV d x) (.gY ops (Nat.succ i) rest::k)) H2:=by
  intro x H2 hn;have BQ:HC (iw t) H it false=some (.gE x H2):=by simp only[HC,hx,ZV,hr,ho,hn]
  simp only[fB,jY,qH,rG,y6,mN,hg,nC,o0,r6,nu,BQ,cond_true,cond_false,xA,kA,y4,rn,oK,hd,hdn]
 have LM:∀e∈rh es bE,Nat.ble (e.2.2+1) since=true:=λe he=>Nat.ble_eq_true_of_le (fJ e (vU.1 he).1)
 cases hl:rh es bE with
 |nil=>refine cb.iY cP Et rfl (alW ?_) (h0 hl);unfold rh at hl;simp only[IJ,hc,cond_false,hl,MI]
 |cons e l=>
  cases l with
  |nil=>
   have he:e∈rh es bE:=by rw[hl];exact dJ ..
   refine cb.iY cP Et rfl (alW ?_) (h1 e he);have h2:=LM e he;unfold rh at hl;simp only[IJ,hc,cond_false,hl,h2,cond_true]
  |cons e2 l=>
   have he:e∈rh es bE:=by rw[hl];exact dJ ..
   have⟨r0,hq0,hr0⟩:=h1 e he;refine⟨r0,hq0,λφ w bs cp cs hm hw hb hf=>?_⟩;have asV:∀{a b:lJ},pX (fA v H1) a->pX (fA v H1) b->a=b:=by rintro⟨a1,a2,a3⟩ ⟨b1,b2,b3⟩ ⟨v1,q1,q2,q3,q4⟩ ⟨v2,q5,q6,q7,q8⟩;simp only at q1 q2 q4 q5 q6 q8;subst q3 q7;rw[q1,q2,q4,q5,q6,q8]
   obtain⟨b,a,todo,rfl,hf,h2⟩:=hf;obtain⟨y,ks,rfl,⟨rfl,Ew⟩,h4⟩:=h2;have⟨hoo,YA⟩:=ale Ew;have ui:=hf.tr;have z_:jQ φ (.gY ops (Nat.succ i) rest::k) (.inRegion ops (List.range' (i+1) rest.length)::ks):=⟨_,_,rfl,⟨rfl,YA⟩,h4⟩;have uh:nP φ (iw t) a.eval o.op.operands.toList:=TR.uB ui _;have⟨e3,Ey,hv⟩:=uh.of (by rw[nC];simp[Op.operands]) hx;obtain⟨o3,hg3,m',rfl,h00,em,ua,_⟩:=hw.ew r _ e3 hr Ey;have oZ:Region.wanted o (yielded ops a.tmps)=true:=abL (by simp only[mN,hg]) λg py d x _ _ hx=>ui.2 d x hx
   have⟨x,yC,aQ,w',v',g1,g2,g3,g4,g5⟩:=auL (P:=P) (m:=m0) (T:=o.type) hw hr Ey ho ua hc (by show 2<=(rh es bE).length;rw[hl];simp) (lZ.2 LM);have⟨r1,EG,pT⟩:=h1 x yC;have:=asV hq0 EG;subst this;rw[show(o::rest).length=rest.length+1 from rfl,List.range'_succ];have Ig:kr P m0 bs φ H w (fB ds none f nt t (.gY ops i (o::rest)::k)) (b.atR a (.inRegion ops (i::List.range' (i+1) rest.length)::ks)) cs (rn (fB ds none f nt t (.gY ops i (o::rest)::k)) o (.gY ops (Nat.succ i) rest::k) (.aC [.ao true,x.1,x.2.1]) (H.cQ r (.je (some mm) since (bE++[x.2.2]) clock))):=by
    refine ME rfl (.one (Jf hoo oZ ?_)) (hf.zk g4.1) g2 (z_.Jy g4.1) g3 g4 g5 trivial;rw[yZ _ _ (by rw[nC];intro c hcx;cases hcx)];have X4:a.eval it=.pointer (some ⟨e3.b,0,none⟩):=by rw[hv,h00]
    rw[<-X4]at g1;have YX:execOp a.eval o=(do pure (.value (<-Instr.next (a.eval it) false o.type)):Sem Next):=by simp only[execOp,nC]
    rw[YX];exact g1
   have nV:rn (fB ds none f nt t (.gY ops i (o::rest)::k)) o (.gY ops (Nat.succ i) rest::k) (.aC [.ao true,x.1,x.2.1]) (H.cQ r (.je (some mm) since (bE++[x.2.2]) clock))=.go (fB ds none f nt (t.fV d (.aC [.ao true,x.1,x.2.1])) (.gY ops (Nat.succ i) rest::k)) (H.cQ r (.je (some mm) since (bE++[x.2.2]) clock)):=by simp only[rn,fB,oK,hd,hdn,cond_true]
   rw[nV]at Ig;have⟨aQ,w',jU,oQ,g1,g2,g3,g4,g5,g6,g7,g8,g9,KT⟩:=Ig;have gC:=g4;subst gC;have⟨jN,w1,k1,k2,k3,k4⟩:=pT aQ w' bs jU oQ (kF hm g8.2.1) g7 (hb.Dm g9.1) g2;exact⟨jN,w1,k1,g8.ag.rN k2,⟨g9.so k3.1,g8.2.2.2.qL k3.2⟩,pG.after g1 KT k4⟩
end
end
end Go.Ev
