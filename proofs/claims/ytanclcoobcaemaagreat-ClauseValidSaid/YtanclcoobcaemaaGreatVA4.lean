/- Part of a proof of ClauseValid. -/
import Derived.Test.YtanclcoobcaemaaGreatVA3
set_option linter.all false
set_option linter.unusedSectionVars false
namespace Go.Ev
noncomputable section
def jA:List (Nat×Nat)->Nat->Option Nat
 |[],_=>none
 |(o,n)::l,a=>bif Nat.beq o a then some n else jA l a
def wo:List (Nat×Nat)->Nat->Option Nat
 |[],_=>none
 |(o,n)::l,c=>bif Nat.beq n c then some o else wo l c
mutual
def xM:AV->LN
 |.ab id _=>[id]
 |.bE id _ _ _ _ _=>[id]
 |.aH id=>[id]
 |.gd id=>[id]
 |.ad id _ _=>[id]
 |.bR _ f c=>xN f++xN c
 |.eK _ v=>xM v
 |.au cs=>xN cs
 |.aJ cs=>xN cs
 |_=>[]
def xN:LV->LN
 |[]=>[]
 |a::l=>xM a++xN l
end
def acp:List (AV×AV×Nat)->LN
 |[]=>[]
 |(k,v,_)::l=>xM k++xM v++acp l
def TX:Tr AV->LN
 |.fL=>[]
 |.fP v l r=>(match v with|some a=>xM a|none=>[])++TX l++TX r
def amJ:aZ->LN
 |.aw vs _=>xN vs
 |.gb _ _ _ t _ _ _ _ d=>d::TX t
 |.bC es _ p=>bif p then[]else acp es
 |.u7 z _ _=>xN z
 |_=>[]
section ren
variable(r:Nat->Option Nat)
mutual
def fi:AV->Option AV
 |.ab id off=>match r id with|some c=>some (.ab c off)|none=>none
 |.bE id off len cap sz ex=>match r id with
  |some c=>match ex,cap with
   |false,1=>(match off with|0=>some (.ad c len sz)|_+1=>some (.bE c off len cap sz ex))
   |_,_=>some (.bE c off len cap sz ex)
  |none=>none
 |.aH id=>match r id with|some c=>some (.aH c)|none=>none
 |.gd id=>match r id with|some c=>some (.gd c)|none=>none
 |.ad id len sz=>match r id with|some c=>some (.ad c len sz)|none=>none
 |.bR fn f c=>match iN f,iN c with|some f',some c'=>some (.bR fn f' c')|_,_=>none
 |.eK t v=>match fi v with|some v'=>some (.eK t v')|none=>none
 |.au cs=>match iN cs with|some l=>some (.au l)|none=>none
 |.aJ cs=>match iN cs with|some l=>some (.aJ l)|none=>none
 |a=>some a
def iN:LV->Option LV
 |[]=>some []
 |a::l=>match fi a with
  |some a'=>match iN l with
   |some l'=>some (a'::l')
   |none=>none
  |none=>none
end
def Ns:List (AV×AV×Nat)->Option (List (AV×AV×Nat))
 |[]=>some []
 |(k,v,b)::l=>match fi r k,fi r v,Ns l with
  |some k',some v',some l'=>some ((k',v',b)::l')
  |_,_,_=>none
def ID:Tr AV->Option (Tr AV)
 |.fL=>some .fL
 |.fP v a b=>match ID a,ID b with
  |some a',some b'=>(match v with
   |none=>some (.fP none a' b')
   |some x=>match fi r x with|some x'=>some (.fP (some x') a' b')|none=>none)
  |_,_=>none
def lj:aZ->Option aZ
 |.gb st p fn t nt ps a b d=>match ID r t,r d with
  |some t',some d'=>some (.gb st p fn t' nt ps a b d')
  |_,_=>none
 |.aw vs e=>match iN r vs with|some l=>some (.aw l e)|none=>none
 |.bC es c p=>bif p then some (.bC es c p)else match Ns r es with|some l=>some (.bC l c p)|none=>none
 |.eh vs e=>some (.eh vs e)
 |.aF vs e=>some (.aF vs e)
 |.u7 z n e=>match iN r z with|some l=>some (.u7 l n e)|none=>none
 |.b9 _=>some (.b9 [])
 |.qN s p=>some (.qN s p)
 |.ot ds=>(match ds with|none=>some (.ot none)|some []=>some (.ot (some []))|_=>none)
 |_=>none
end ren
def adU(H:AH)(id:Nat):LN:=
 match H.bu id with
 |some o=>amJ o
 |none=>[]
def Nr(H:AH)(m0:Nat):Nat->LN->List (Nat×Nat)->Nat->List (Nat×Nat)×Nat
 |0,_,ps,n=>(ps,n)
 |_+1,[],ps,n=>(ps,n)
 |f+1,id::q,ps,n=>match jA ps id with
  |some _=>Nr H m0 f q ps n
  |none=>bif Nat.ble (id+1) m0 then Nr H m0 f (q++adU H id) (ps++[(id,id)]) n
   else Nr H m0 f (q++adU H id) (ps++[(id,n)]) (Nat.succ n)
def Af(r:Nat->Option Nat)(H:AH):List (Nat×Nat)->Tr aZ->Option (Tr aZ)
 |[],t=>some t
 |(o,n)::l,t=>match H.bu o with
  |none=>Af r H l t
  |some ob=>match lj r ob with
   |some bW=>Af r H l (t.iz n bW)
   |none=>none
def UR(ps:List (Nat×Nat))(n:Nat):Bool:=
 u0 (ps.map (·.1))&&u0 (ps.map (·.2))&&ps.all fun p=>Nat.ble (p.2+1) n
def amS(ps:List (Nat×Nat))(m0:Nat):Bool:=
 (List.range m0).all fun i=>match wo ps i with|some j=>Nat.beq i j|none=>false
structure Vw where
 ps:List (Nat×Nat)
 H:AH
def oT(m0:Nat)(qa:LN)(H:AH):Option Vw:=
 match Nr H m0 1000 (List.range m0++qa) [] m0 with
 |(ps,n)=>bif UR ps n&&amS ps m0 then
    match Af (jA ps) H ps .fL with
    |some t=>some ⟨ps,⟨t,n⟩⟩
    |none=>none
  else none
def NQ(tmps:Tr AV):LN->LN
 |[]=>[]
 |s::l=>match tmps.bV s with
  |some a=>xM a++NQ tmps l
  |none=>NQ tmps l
def tV(r:Nat->Option Nat)(tmps:Tr AV):LN->Option (Tr AV)
 |[]=>some .fL
 |s::l=>match tV r tmps l with
  |none=>none
  |some t=>match tmps.bV s with
   |some a=>match fi r a with
    |some a'=>some (t.iz s a')
    |none=>none
   |none=>some t
abbrev vo:=FuncId->LV->AH->Option (Prop×AV×AH)
inductive Sp:Type 1 where
 |Dp (x:Prop×AV×AH)
 |ex (W:Type) (g:W->Prop×AV×AH) (u:∀w w',(g w).1->(g w').1->(g w).2=(g w').2)
abbrev bz:=FuncId->LV->AH->Option Sp
def ux:Sp->Option (Prop×AV×AH)
 |.Dp x=>some x
 |.ex W g _=> @dite _ (∃w,(g w).1) (Classical.propDecidable _) (fun h=>some (g h.choose)) (fun _=>none)
def qm(S:bz):vo:=fun f args H=>
 match S f args H with
 |some sp=>ux sp
 |none=>none
def vC(ps:List (Nat×Nat))(k next:Nat)(i:Nat):Option Nat:=
 bif Nat.ble (i+1) k then wo ps i else some (next+(i-k))
def wZ(r:Nat->Option Nat)(Hs:AH):List (Nat×Nat)->Tr aZ->Option (Tr aZ)
 |[],t=>some t
 |(o,n)::l,t=>match Hs.bu n with
  |none=>wZ r Hs l (t.iz o (.b9 []))
  |some ob=>match lj r ob with
   |some bW=>wZ r Hs l (t.iz o bW)
   |none=>none
def Dg(r:Nat->Option Nat)(Hs:AH)(k next:Nat):Nat->Tr aZ->Option (Tr aZ)
 |0,t=>some t
 |j+1,t=>match Dg r Hs k next j t with
  |none=>none
  |some t'=>match Hs.bu (k+j)with
   |none=>some t'
   |some ob=>match lj r ob with
    |some bW=>some (t'.iz (next+j) bW)
    |none=>none
def ax3:Option aZ->Bool
 |some (.aF ..)=>true
 |_=>false
mutual
def jF:AV->LN
 |.ab id _=>[id]
 |.bE id _ _ _ _ _=>[id]
 |.aH id=>[id]
 |.gd id=>[id]
 |.bR _ f c=>ri f++ri c
 |.eK _ v=>jF v
 |.au cs=>ri cs
 |.aJ cs=>ri cs
 |_=>[]
def ri:LV->LN
 |[]=>[]
 |a::l=>jF a++ri l
end
def Hr:Tr AV->LN
 |.fL=>[]
 |.fP v l r=>(match v with|some a=>jF a|none=>[])++Hr l++Hr r
def abx:Option aZ->LN
 |some (.aw vs _)=>ri vs
 |some (.gb _ _ _ t _ _ _ _ d)=>d::Hr t
 |_=>[]
def Ff(H:AH):LN->List (Nat×Nat)->Bool
 |_,[]=>true
 |hd,(o,_)::l=>match H.bu o with
  |some (.aF ..)=>Ff H hd l
  |some (.b9 _)=>false
  |none=>false
  |ob=>bif hd.any (Nat.beq o)then Ff H (hd++abx ob) l else false
structure Pe where
 ba:Prop
 v:AV
 H:AH
def zw(ps:List (Nat×Nat))(k:Nat)(H:AH):Prop×AV×AH->Option Pe
 |(p,v,Hs)=>match Hs,H with
  |⟨hs,ns⟩,⟨h,next⟩=>
   bif Nat.ble k ns then
    match fi (vC ps k next) v,wZ (vC ps k next) ⟨hs,ns⟩ ps h with
    |some v',some t=>match Dg (vC ps k next) ⟨hs,ns⟩ k next (ns-k) t with
     |some t'=>some ⟨p,v',⟨t',next+(ns-k)⟩⟩
     |none=>none
    |_,_=>none
   else none
def Ia(S:vo)(f:FuncId)(args:LV)(H:AH):Option Pe:=
 match oT 0 (xN args) H with
 |none=>none
 |some ⟨ps,⟨t,n⟩⟩=>bif Ff H (ri args) ps then
   match iN (jA ps) args with
   |some args'=>match S f args' ⟨t,n⟩with
    |some VF=>zw ps n H VF
    |none=>none
   |none=>none
  else none
def Ur(S:bz)(f:FuncId)(args:LV)(H:AH):Option (List (Nat×Nat)×Nat×Sp):=
 match oT 0 (xN args) H with
 |none=>none
 |some ⟨ps,⟨t,n⟩⟩=>bif Ff H (ri args) ps then
   match iN (jA ps) args with
   |some args'=>match S f args' ⟨t,n⟩with
    |some sp=>some (ps,n,sp)
    |none=>none
   |none=>none
  else none
section aor
variable(P:Program)
def uE:Nat->List TypeId->LV->(LV->Prop)->Prop
 |0,_,_,_=>False
 |_+1,[],gj,k=>k gj.reverse
 |d+1,t::ts,gj,k=>match P.underlying t with
  |some (.struct gn)=>uE d (gn.toList.map (·.type)++ts) gj k
  |some (.int kd)=>∃n:Int,uE d ts (.ck kd n::gj) k
  |some .bool=>∃b:Bool,uE d ts (.ai b::gj) k
  |some .string=>∃s:LN,uE d ts (.aa s::gj) k
  |some (.slice e)=>match dw P e with
   |some sz=>∃(cs:LV) (len:Nat),uE d ts (.ax cs len sz::gj) k
   |none=>False
  |_=>∃a:AV,uE d ts (a::gj) k
def GV(t:TypeId)(k:AV->Prop):Prop:=
 match zq P t with
 |some true=>uE P 100 [t] [] fun cs=>k (.au cs)
 |some false=>uE P 100 [t] [] fun cs=>match cs with|[a]=>k a|_=>False
 |none=>False
def aaI(t:TypeId)(k:LV->Prop):Prop:=uE P 100 [t] [] k
end aor
def ah(b:Bool)(A B:Prop):Prop:= @Bool.rec (fun _=>Prop) B A b
def tJ(o:Option AV)(k:AV->Prop):Prop:=
 match o with
 |some v=>k v
 |none=>False
def fX(P:Program)(kt e:TypeId)(es:List (AV×AV×Nat))(key:AV):Option (AV×Bool):=
 match kY (ie P 100 kt) key es 0 with
 |some (some (_,v,_))=>some (v,true)
 |some none=>(ku P e).map (·,false)
 |none=>none
def jc(P:Program)(kt:TypeId)(es:List (AV×AV×Nat))(cT:Nat)(k v:AV):Option (List (AV×AV×Nat)×Nat):=
 match kY (ie P 100 kt) k es 0 with
 |some (some (i,_,_))=>bif tM es i k then some (nJ es i fun e=>(k,v,e.2.2),cT)else none
 |some none=>some (es++[(k,v,cT)],cT+1)
 |none=>none
def abc(P:Program)(kt elem:TypeId)(es:List (AV×AV×Nat))(cT:Nat)(p:Bool)(key:AV):Option (AV×Nat×List (AV×AV×Nat)×Nat):=
 match kY (ie P 100 kt) key es 0 with
 |some (some (i,v,b))=>bif tM es i key&&vO p key .om then some (v,b,nJ es i fun e=>(key,e.2),cT)else none
 |some none=>match ku P elem with
  |some z=>bif vO p key z then some (z,cT,es++[(key,z,cT)],cT+1)else none
  |none=>none
 |none=>none
def aeB(es:List (AV×AV×Nat))(born:Nat)(v:AV):Option (List (AV×AV×Nat)):=
 match es.findIdx? (fun e=>Nat.beq e.2.2 born)with
 |some i=>some (nJ es i fun e=>(e.1,v,e.2.2))
 |none=>none
def Dl(P:Program)(kt:TypeId)(es:List (AV×AV×Nat))(k:AV):Option (List (AV×AV×Nat)):=
 match kY (ie P 100 kt) k es 0 with
 |some (some (i,_,_))=>some (uD es i)
 |some none=>some es
 |none=>none
def aaD:TypeDesc->AV->AV->Option Bool
 |.int _,.ck j a,.ck k b=>if j=k then some (a==b)else none
 |.string,.aa a,.aa b=>some (dh a b)
 |.bool,.ai a,.ai b=>some (a==b)
 |_,_,_=>none
def xi(P:Program):List Field->Nat->LV->LV->Option Bool
 |[],_,[],[]=>some true
 |f::fs,i,a::l,b::m=>bif (f.name != "_")&&Nat.beq f.offset i then
   match P.underlying f.type with
   |some td=>match aaD td a b,xi P fs (i+1) l m with
    |some x,some y=>some (x&&y)
    |_,_=>none
   |none=>none
  else none
 |_,_,_,_=>none
def KT(P:Program)(t:TypeId)(cs ds:LV):Option Bool:=
 match P.underlying t with
 |some (.struct gn)=>bif P.stoodInHeld t||P.eqGuardType P.depth t then none else xi P gn.toList 0 cs ds
 |_=>none
section amf
variable(P:Program)(ρ:Operand->Option AV)(H:AH)
def Mb:Option aZ->Option LV
 |some (.eh vs _)=>some vs
 |some (.aF vs _)=>some vs
 |_=>none
def Vq(t:TypeId)(a:Operand)(k:AV->Prop):Prop:=
 match ρ a with
 |some (.ab id off)=>match Mb (H.bu id)with
  |some vs=>GV P t fun v=>bQ P t vs off=some v∧k v
  |none=>tJ (rB P H t id off) k
 |some (.oU cs)=>tJ (bQ P t cs 0) k
 |_=>False
def Zi(n:Int)(k:Nat->Prop):Prop:=∃i:Nat,n=(i:Int)∧k i
def BK(x:Operand)(k:Nat->Prop):Prop:=
 match ρ x with
 |some (.ck _ n)=>bif rA x then(match n with|.ofNat i=>k i|_=>False)else Zi n k
 |_=>False
def K5(id off sz:Nat)(n:Int)(k:AV->Prop):Nat->Nat->Prop
 |_,0=>True
 |j,c+1=>(n=(j:Int)->k (.ab id (off+j*sz)))∧K5 id off sz n k (Nat.succ j) c
def Vp(t:TypeId)(x i:Operand)(k:AV->Prop):Prop:=
 match P.underlying t with
 |some (.slice e)=>match ρ x with
  |some (.ax cs len sz)=>bif (dw P e).any (Nat.beq sz)then BK ρ i fun i=>i<len∧aaI P e fun eh=>(cs.drop (i*sz)).take sz=eh∧k (.oU eh)else False
  |some (.ad id len sz)=>bif (dw P e).any (Nat.beq sz)then BK ρ i fun i=>i<len∧k (.ab id (i*sz))else False
  |some (.bE id off len _ sz _)=>bif (dw P e).any (Nat.beq sz)then BK ρ i fun i=>i<len∧k (.ab id (off+i*sz))else False
  |_=>False
 |some (.array c e)=>bif rA i then tJ (fK P ρ H (.indexAddr t x i)) k else
  match ρ x,ρ i with
  |some (.ab id off),some (.ck _ n)=>match dw P e with
   |some sz=>(0<=n∧n<(c:Int))∧K5 id off sz n k 0 c
   |none=>False
  |_,_=>False
 |_=>tJ (fK P ρ H (.indexAddr t x i)) k
def K4(P:Program)(e:TypeId)(sz:Nat)(cs:LV)(n:Int)(k:AV->Prop):Nat->Nat->Prop
 |_,0=>True
 |j,c+1=>(n=(j:Int)->tJ (bQ P e cs (j*sz)) k)∧K4 P e sz cs n k (Nat.succ j) c
def Vo(t:TypeId)(x i:Operand)(k:AV->Prop):Prop:=
 match ρ x,ρ i with
 |some (.au cs),some (.ck _ n)=>bif rA i then tJ (fK P ρ H (.index t x i)) k else
  match P.underlying t with
  |some (.array c e)=>match dw P e with
   |some sz=>(0<=n∧n<(c:Int))∧K4 P e sz cs n k 0 c
   |none=>False
  |_=>False
 |some (.aa s),some (.ck _ _)=>match P.underlying t with
  |some .string=>BK ρ i fun i=>∃b:Nat,s[i]? =some b∧k (.ck .u8 (.ofNat b))
  |_=>False
 |_,_=>False
def Vr(t:TypeId)(x key:Operand)(ok:Bool)(k:AV->Prop):Prop:=
 match P.underlying t,ρ x,ρ key with
 |some (.map kt e),some (.aH id),some key=>match H.bu id with
  |some (.bC es _ _)=>bif qK P kt key then GV P e fun v=>∃b:Bool,fX P kt e es key=some (v,b)∧k (p7 ok v b)else False
  |_=>False
 |some (.map kt e),some .mF,some key=>bif qK P kt key then tJ ((ku P e).map (p7 ok · false)) k else False
 |_,_,_=>False
def vD(o:Option Operand)(d:Nat)(k:Nat->Prop):Prop:=
 match o with
 |none=>k d
 |some x=>BK ρ x k
def GB(ex:Bool)(lo:Option Operand)(cap l:Nat):Nat:= @Bool.rec (fun _=>Nat) (match lo with|none=>cap|some _=>0) (cap-l) ex
def Vt(t:TypeId)(x:Operand)(lo hi mx:Option Operand)(k:AV->Prop):Prop:=
 match ρ x with
 |some (.ax cs len sz)=>bif mx.isNone&&(match P.underlying t with|some (.slice e)=>(dw P e).any (Nat.beq sz)|_=>false)then
   vD ρ lo 0 fun l=>vD ρ hi len fun h=>(l<=h∧h<=len)∧k (.ax ((cs.drop (l*sz)).take ((h-l)*sz)) (h-l) sz)else False
 |some (.bE id off len cap sz ex)=>bif mx.isNone&&(match P.underlying t with|some (.slice e)=>(dw P e).any (Nat.beq sz)|_=>false)then
   vD ρ lo 0 fun l=>vD ρ hi len fun h=>(l<=h∧h<=(bif ex then cap else len))∧k (.bE id (off+l*sz) (h-l) (GB ex lo cap l) sz ex)else False
 |some (.ad id len sz)=>bif mx.isNone&&(match P.underlying t with|some (.slice e)=>(dw P e).any (Nat.beq sz)|_=>false)then
   1<=len∧vD ρ lo 0 fun l=>vD ρ hi len fun h=>(l<=h∧h<=len)∧k (.bE id (0+l*sz) (h-l) (GB false lo 1 l) sz false)else False
 |some (.aa s)=>bif mx.isNone&&(match P.underlying t with|some .string=>true|_=>false)then
   vD ρ lo 0 fun l=>vD ρ hi s.length fun h=>(l<=h∧h<=s.length)∧k (.aa ((s.take h).drop l))else False
 |_=>tJ (fK P ρ H (.slice t x lo hi mx)) k
def Vs(c a b:Operand)(k:AV->Prop):Prop:=
 match ρ c,ρ a,ρ b with
 |some (.ai t),some (.ai x),some (.ai y)=>k (.ai (bif t then x else y))
 |some (.ai t),some x,some y=>ah t (k x) (k y)
 |_,_,_=>False
def Vn(op:BinOp)(t:TypeId)(x y:Operand)(yt:TypeId)(k:AV->Prop):Prop:=
 match ρ x,ρ y with
 |some (.au cs),some (.au ds)=>match KT P t cs ds,op with
  |some b,.eql=>k (.ai b)
  |some b,.neq=>k (.ai (!b))
  |_,_=>False
 |_,_=>tJ (fK P ρ H (.binOp op t x y yt)) k
def rd(op:Op)(k:AV->Prop):Prop:=
 match op with
 |.load t a=>Vq P ρ H t a k
 |.indexAddr t x i=>Vp P ρ H t x i k
 |.index t x i=>Vo P ρ H t x i k
 |.lookup t x key ok=>Vr P ρ H t x key ok k
 |.slice t x lo hi mx=>Vt P ρ H t x lo hi mx k
 |.pick c a b=>Vs ρ c a b k
 |.binOp op t x y yt=>Vn P ρ H op t x y yt k
 |op=>tJ (fK P ρ H op) k
def Ih(o:Option (aZ×(Nat->AV)))(k:AV->AH->Prop):Prop:=
 match o,H with
 |some (ob,g),⟨h,n⟩=>k (g n) (AH.iq ⟨h,n⟩ ob)
 |none,_=>False
def afZ:Operand->Operand->Bool
 |.tmp a,.tmp b=>Nat.beq a b
 |_,_=>false
def mkS(elem:TypeId)(c:Nat)(s:Nat)(z:AV)(gK:Nat)(k:AV->AH->Prop):Prop:=
 bif Nat.ble gK 65536&&Nat.ble s 65536&&Nat.beq z.ek.length s&&z.ek.all AV.dR&&z.ek.all iD then
  c<=65536∧Ih H (some (VO z.ek c elem,AD c c s)) k
 else False
def adp(t:TypeId)(len cap:Operand)(k:AV->AH->Prop):Prop:=
 bif rA cap then Ih H (nD P ρ (.makeSlice t len cap)) k else
 bif afZ len cap then
  match P.underlying t,ρ cap with
  |some (.slice elem),some (.ck .i64 n)=>match dw P elem,ku P elem,uu P elem with
   |some s,some z,some gK=>Zi n fun c=>mkS H elem c s z gK k
   |_,_,_=>False
  |_,_=>False
 else False
def mk(op:Op)(k:AV->AH->Prop):Prop:=
 match op with
 |.makeSlice t len cap=>adp P ρ H t len cap k
 |op=>Ih H (nD P ρ op) k
def fY(vs:LV)(off:Nat)(cs:LV):LV:=vs.take off++(cs++vs.drop (off+cs.length))
def zo(o:Option fC)(k:AV->AH->Prop):Prop:=
 match o with
 |some (.hZ v H)=>k v H
 |_=>False
def TK(t:TypeId)(a x:Operand)(k:AV->AH->Prop):Prop:=
 match ρ a,ρ x with
 |some (.ab id off),some v=>match H.bu id,dw P t with
  |some (.eh vs e),some s=>bif Nat.beq v.ek.length s&&v.ek.all AV.dR&&v.ek.all iD then off+v.ek.length<=vs.length∧k .lz (H.dL id (.eh (fY vs off v.ek) e))else False
  |some (.aF vs e),some s=>bif Nat.beq v.ek.length s&&v.ek.all AV.dR&&v.ek.all iD then off+v.ek.length<=vs.length∧k .lz (H.dL id (.aF (fY vs off v.ek) e))else False
  |_,_=>zo (Ec P ρ H t a x) k
 |_,_=>False
def L8(t:TypeId)(m key x:Operand)(k:AV->AH->Prop):Prop:=
 match P.underlying t,ρ m,ρ key,ρ x with
 |some (.map kt _),some (.aH id),some key,some v=>match H.bu id with
  |some (.bC es cT p)=>bif qK P kt key&&vO p key v then
    ∃(bw:List (AV×AV×Nat)) (c':Nat),jc P kt es cT key v=some (bw,c')∧k .lz (H.dL id (.bC bw c' p))else False
  |_=>False
 |_,_,_,_=>False
def TH(t:TypeId)(m key:Operand)(k:AV->AH->Prop):Prop:=
 match P.underlying t,ρ m,ρ key with
 |some (.map kt e),some (.aH id),some key=>match H.bu id with
  |some (.bC es cT p)=>bif qK P kt key then
    GV P e fun v=>∃(b:Nat) (bw:List (AV×AV×Nat)) (c':Nat),abc P kt e es cT p key=some (v,b,bw,c')∧k (.aJ [v,q_ b]) (H.dL id (.bC bw c' p))else False
  |_=>False
 |_,_,_=>False
def TI(m s x:Operand)(k:AV->AH->Prop):Prop:=
 match ρ m,ρ s,ρ x with
 |some (.aH id),some (.ck _ (.ofNat b)),some v=>match H.bu id with
  |some (.bC es cT p)=>bif vO p .om v then
    ∃bw:List (AV×AV×Nat),aeB es b v=some bw∧k .lz (H.dL id (.bC bw cT p))else False
  |_=>False
 |_,_,_=>False
def TG(argTypes:Array TypeId)(id:Nat)(key:AV)(k:AV->AH->Prop):Prop:=
 match argTypes[0]?.bind P.underlying,H.bu id with
 |some (.map kt _),some (.bC es cT p)=>bif qK P kt key then
   ∃bw:List (AV×AV×Nat),Dl P kt es key=some bw∧k .lz (H.dL id (.bC bw cT p))else False
 |_,_=>False
def WK(sz:Nat)(x:AV)(k:Nat->LV->Prop):Prop:=
 match x with
 |.ax cs len s=>bif Nat.beq s sz then k len cs else False
 |.ad id len s=>bif Nat.beq s sz then match H.bu id with
   |some (.aF vs _)=>vs.length=len*sz∧k len vs
   |_=>False
  else False
 |.bE id off len cap s ex=>match Mb (H.bu id)with
  |some vs=>bif Nat.beq s sz then off+len*sz<=vs.length∧k len ((vs.drop off).take (len*sz))else False
  |none=>match ta H sz (.bE id off len cap s ex)with
   |some (n,l)=>k n l
   |none=>False
 |x=>match ta H sz x with
  |some (n,l)=>k n l
  |none=>False
def ax4:Nat->Bool
 |0=>true
 |_+1=>true
def UN(l:LV):Prop:=l.all AV.dR=true∧l.all iD=true
def Gt(elem:TypeId)(sz:Nat)(s:AV)(n:Nat)(l:LV)(k:AV->AH->Prop):Prop:=
 match s with
 |.ad id len lU=>bif Nat.beq sz lU then match H.bu id with
   |some (.aF vs _)=>(vs.length=len*sz∧len+n<=65536∧UN l)∧k (.ad H.bL (len+n) sz) (AH.iq (H.dL id (.b9 [])) (.aF (vs++l) elem))
   |_=>False
  else False
 |.bE id off len cap lU ex=>bif Nat.beq sz lU then match H.bu id with
   |some (.eh vs _)=>(off+len*sz<=vs.length∧len+n<=65536∧UN l∧ex=false)∧k (.bE H.bL 0 (len+n) 1 sz false) (AH.iq (H.dL id (.b9 [])) (.eh ((vs.drop off).take (len*sz)++l) elem))
   |some (.aF vs _)=>(off+len*sz<=vs.length∧len+n<=65536∧UN l∧ex=false)∧k (.bE H.bL 0 (len+n) 1 sz false) (AH.iq (H.dL id (.b9 [])) (.aF ((vs.drop off).take (len*sz)++l) elem))
   |_=>match qU H elem sz (.bE id off len cap lU ex) n l with
    |some (v,H')=>k v H'
    |none=>False
  else False
 |s=>match qU H elem sz s n l with
  |some (v,H')=>k v H'
  |none=>False
def anm(x:AV):Bool:=
 match x with
 |.bE _ _ _ _ _ true=>true
 |.bB=>true
 |_=>false
def Gs(sz:Nat)(s:AV)(k:Prop):Prop:=
 match s with
 |.bB=>k
 |.bE _ _ len _ lU _=>bif Nat.beq sz lU then len<=65536∧k else False
 |.ad _ len lU=>bif Nat.beq sz lU then len<=65536∧k else False
 |_=>False
def Qg(elem:TypeId)(sz:Nat)(s:AV)(Mq:Bool)(n:Nat)(l:LV)(k:AV->AH->Prop):Prop:=
 bif Mq then(match n with|0=>Gs sz s (k s H)|_+1=>Gt H elem sz s n l k)
 else(n=0->Gs sz s (k s H))∧(1<=n->Gt H elem sz s n l k)
def TE(argTypes:Array TypeId)(s x:AV)(k:AV->AH->Prop):Prop:=
 match argTypes[0]?.bind P.underlying with
 |some (.slice elem)=>match dw P elem,uu P elem with
  |some sz,some gK=>bif Nat.ble gK 65536&&(ku P elem).any (fun z=>Nat.beq z.ek.length sz)&&(match argTypes[1]?.bind P.underlying with|some (.slice _)=>true|_=>false)then
    WK H sz x fun n l=>Qg H elem sz s (anm x) n l k
   else False
  |_,_=>False
 |_=>False
def TF(b:Builtin)(args:LV)(argTypes:Array TypeId)(k:AV->AH->Prop):Prop:=
 match b,args with
 |.append,[s,x]=>TE P H argTypes s x k
 |.delete,[.aH id,key]=>TG P H argTypes id key k
 |b,args=>zo (DY P H b args argTypes) k
variable(S:bz)
def L7(r:Option Pe)(k:AV->AH->Prop):Prop:=
 match r with
 |some ⟨p,v,H'⟩=>p∧k v H'
 |none=>False
def EE(f:FuncId)(args:LV)(k:AV->AH->Prop):Prop:=
 match Ur S f args H with
 |some (ps,n,.Dp x)=>L7 (zw ps n H x) k
 |some (ps,n,.ex W g _)=>∃w:W,L7 (zw ps n H (g w)) k
 |none=>False
def zr(f:FuncId):Bool:=Nat.beq f 999999
def TJ(l:Nat)(args:LV)(k:AV->AH->Prop):Prop:=
 match H.bu l,args with
 |some (.gb st pe fn tmps nt params assign body d),[a]=>match params with
  |[p]=>match yd (.gb st pe fn tmps nt params assign body d) l [a]with
   |some _=>EE H S 999999 [.gd l,a] k
   |none=>False
  |_=>False
 |_,_=>False
def L6(o:Option fC)(k:AV->AH->Prop):Prop:=
 match o with
 |some (.qi f args)=>bif zr f then False else EE H S f args k
 |some (.ue l args)=>TJ H S l args k
 |_=>False
def aca(c:Call)(k:AV->AH->Prop):Prop:=
 match c.callee with
 |.value f=>L6 H S (Se P ρ f c.args) k
 |.builtin b=>match sZ ρ c.args.toList with
  |some l=>TF P H b l c.argTypes k
  |none=>False
 |.invoke r name=>L6 H S (Lp P ρ H r name c.args) k
def hv(op:Op)(k:AV->AH->Prop):Prop:=
 match op with
 |.store t a x=>TK P ρ H t a x k
 |.mapUpdate t m key x=>L8 P ρ H t m key x k
 |.insert t m key x=>L8 P ρ H t m key x k
 |.mapEntry t m key=>TH P ρ H t m key k
 |.entryStore _ m s x=>TI ρ H m s x k
 |.call c=>aca P ρ H S c k
 |.range t x=>zo (Ho P ρ H t x) k
 |.next it sk=>zo (Hn ρ H it sk) k
 |_=>False
end amf
def Ir(P:Program)(S:bz)(ρ:Operand->Option AV)(H:AH)(op:Op)(k:AV->AH->Prop):Prop:=
 bif nA op then rd P ρ H op (fun v=>k v H)
 else bif pW op then mk P ρ H op k
 else hv P ρ H S op k
def AL(nt:Nat)(tmps:Tr AV)(o:Oper)(v:AV)(k:Tr AV->Prop):Prop:=
 match mh nt tmps o.dst v with
 |some t=>k t
 |none=>False
def Le(ops:Array Oper)(o:Oper)(tmps:Tr AV)(vh no:Tr AV->Prop):Prop:=
 match o.guard with
 |none=>vh tmps
 |some (j,oV)=>match(ops[j]?).bind (·.dst)with
  |none=>False
  |some d=>match tmps.bV d with
   |some (.ai b)=>ah b (bif oV then vh (tmps.iz d (.ai true))else no (tmps.iz d (.ai true))) (bif oV then no (tmps.iz d (.ai false))else vh (tmps.iz d (.ai false)))
   |some (.aJ [])=>no tmps
   |_=>False
section par
variable(P:Program)(S:bz)
def IQ(ops:Array Oper)(ms:LN)(base cur:Tr AV)(H:AH):LN->Prop->Prop
 |[],k=>k
 |j::l,k=>match ops[j]? with
  |none=>False
  |some o=>match kr ops o cur.bV with
   |none=>False
   |some false=>IQ ops ms base cur H l k
   |some true=>match o.dst with
    |none=>False
    |some d=>match cur.bV d with
     |none=>False
     |some v=>fK P (Df (uC ops ms base cur j)) H o.op=some v∧IQ ops ms base cur H l k
def BQ(ops:Array Oper)(ms:LN)(base:Tr AV)(nt:Nat):LN->LN->Tr AV->AH->(Tr AV->AH->Prop)->Prop
 |[],_,tmps,H,k=>k tmps H
 |i::rest,done,tmps,H,k=>match ops[i]? with
  |none=>False
  |some o=>Le ops o tmps
   (fun tmps=>bif oJ o.op then Ir P S (ia tmps) H o.op fun v H'=>AL nt tmps o v fun t=>BQ ops ms base nt rest (i::done) t H' k
     else Ir P S (ia tmps) H o.op fun v H'=>AL nt tmps o v fun t=>IQ P ops ms base t H' (J4 ops ms done i) (BQ ops ms base nt rest (i::done) t H' k))
   (fun tmps=>AL nt tmps o .lz fun t=>BQ ops ms base nt rest (i::done) t H k)
end par
def xk:Code->Option Nat
 |.region id _ _=>some id
 |.seq a b=>match xk a with|some i=>some i|none=>xk b
 |.cond _ a b=>match xk a with|some i=>some i|none=>xk b
 |.block _ b=>xk b
 |.loop b=>xk b
 |.scope b=>xk b
 |_=>none
section oN
variable(P:Program)(S:bz)(fn nt m0:Nat)(aU:Nat->LN)(L:Tr AV->AH->List b_->Prop)(Q:AV->AH->Prop)(ret:Bool->Tr AV->AH->Prop)(rd:Option Nat)
def Ix:b_->Bool
 |.An _=>false
 |.yx _=>false
 |_=>true
def lQ:List b_->Bool
 |[]=>true
 |x::l=>Ix x&&lQ l
def J_(body:Code)(k:List b_)(tmps:Tr AV)(H:AH):Prop:=
 match xk body with
 |none=>False
 |some i=>match oT m0 (NQ tmps (aU i)) H with
  |some ⟨ps,H2⟩=>match tV (jA ps) tmps (aU i)with
   |some t=>bif lQ k then L t H2 (.fG body::.o3 body::k)else False
   |none=>False
  |none=>False
def De(tmps:Tr AV)(H:AH):Prop:=
 match P.funcs[fn]? with
 |some f=>match qM P H tmps f.results.toList with
  |some l=>match oT m0 (xM (yr l)) H with
   |some ⟨ps,H2⟩=>match fi (jA ps) (yr l)with
    |some v=>Q v H2
    |none=>False
   |none=>False
  |none=>False
 |none=>False
def Zm(c:Code)(k:List b_)(tmps:Tr AV)(H:AH):Prop:=
 match oT m0 (NQ tmps (aU 999999)) H with
 |some ⟨ps,H2⟩=>match tV (jA ps) tmps (aU 999999)with
  |some t=>bif lQ k then L t H2 (.fG c::k)else False
  |none=>False
 |none=>False
def Ka(d:Nat)(tmps:Tr AV)(H:AH):Prop:=
 match H.bu d with
 |some (.ot (some []))=>De P fn m0 Q tmps (H.dL d (.b9 []))
 |_=>False
def Qs(l:Nat)(b:Bool)(tmps:Tr AV)(H:AH):Prop:=
 bif b then False else
 match H.bu l with
 |some (.gb _ _ fn tm nt ps a bd d)=>match oT m0 [] (H.dL l (.gb .ready none fn tm nt ps a bd d))with
  |some ⟨_,H2⟩=>Q (.ai true) H2
  |none=>False
 |_=>False
def amP:LN->Bool
 |[x]=>Nat.beq x 1000000
 |_=>false
def Oj(body:Code):Bool:=
 match xk body with
 |some i=>amP (aU i)
 |none=>false
def lu:Nat->Tr AV->List b_->AH->Prop
 |0,_,_,_=>False
 |n+1,tmps,todo,H=>match todo with
  |[]=>ret false tmps H
  |.sT _::k=>lu n tmps k H
  |.rX _::k=>lu n tmps k H
  |.wL::k=>match rd with
   |some l=>match H.bu l with
    |some (.gb .ready p lf lt ln ps a b d)=>lu n tmps k (H.dL l (.gb .busy p lf lt ln ps a b d))
    |_=>False
   |none=>False
  |.o3 body::k=>bif Oj aU body then lu n tmps (.fG body::.o3 body::k) H else J_ m0 aU L body k tmps H
  |.jr ops i l::k=>match l with
   |[]=>lu n tmps k H
   |o::rest=>Le ops o tmps
    (fun tmps=>Ir P S (ia tmps) H o.op fun v H'=>AL nt tmps o v fun t=>lu n t (.jr ops (Nat.succ i) rest::k) H')
    (fun tmps=>AL nt tmps o .lz fun t=>lu n t (.jr ops (Nat.succ i) rest::k) H)
  |.fG c::k=>match c with
   |.ret=>ret true tmps H
   |.skip=>lu n tmps k H
   |.label _=>lu n tmps k H
   |.seq a b=>lu n tmps (.fG a::.fG b::k) H
   |.cond c a b=>match ia tmps c with
    |some (.ai t)=>ah t (lu n tmps (.fG a::k) H) (lu n tmps (.fG b::k) H)
    |_=>False
   |.block id body=>lu n tmps (.fG body::.sT id::k) H
   |.scope body=>lu n tmps (.fG body::.rX body::k) H
   |.loop body=>bif Oj aU body then lu n tmps (.fG body::.o3 body::k) H else J_ m0 aU L body k tmps H
   |.exit id=>match y5 id k with
    |some k'=>lu n tmps k' H
    |none=>False
   |.region _ ops pK=>bif pK then
     match Fm ops with
     |some pl=>BQ P S ops pl.ms tmps nt pl.Ar [] tmps H fun t H'=>lu n t k H'
     |none=>False
    else lu n tmps (.jr ops 0 ops.toList::k) H
   |.rangeFunc f ps a b=>Zm m0 aU L (.rangeFunc f ps a b) k tmps H
   |_=>False
  |_=>False
end oN
def b8(P:Program)(S:bz)(aU:Nat->LN)(L:Tr AV->AH->List b_->Prop)(Q:AV->AH->Prop)(n:Nat)(f:FuncId)(args:LV)(H:AH):Prop:=
 match P.funcs[f]? with
 |some fn=>match fn.body with
  |some c=>bif Nat.ble args.length fn.ntmps&& !(fn.name== "runtime.NumGoroutine")then lu P S fn.ntmps H.bL aU L (fun _=>De P f H.bL Q) none n (Tr.zG args 0 .fL) [.fG c] H else False
  |none=>False
 |none=>False
def cO(P:Program)(S:bz)(aU:Nat->LN)(L:Tr AV->AH->List b_->Prop)(Q:AV->AH->Prop)(n:Nat)(f m0:Nat)(tmps:Tr AV)(todo:List b_)(H:AH):Prop:=
 match P.funcs[f]? with
 |some fn=>lu P S fn.ntmps m0 aU L (fun _=>De P f m0 Q) none n tmps todo H
 |none=>False
def IH(P:Program)(S:bz)(aU:Nat->LN)(L:Tr AV->AH->List b_->Prop)(Q:AV->AH->Prop)(n:Nat)(f m0 d:Nat)(tmps:Tr AV)(todo:List b_)(H:AH):Prop:=
 match P.funcs[f]? with
 |some fn=>lu P S fn.ntmps m0 aU L (fun _=>Ka P f m0 Q d) none n tmps todo H
 |none=>False
def VZ(P:Program)(S:bz)(aU:Nat->LN)(L:Tr AV->AH->List b_->Prop)(Q:AV->AH->Prop)(n:Nat)(l:Nat)(a:AV)(H:AH):Prop:=
 match H.bu l with
 |some o=>match yd o l [a]with
  |some fr=>lu P S fr.nt H.bL aU L (Qs H.bL Q l) (some l) n fr.o0 fr.Am H
  |none=>False
 |none=>False
def zf:Code->List b_->List (List b_)
 |.loop body,k=>(.fG body::.o3 body::k)::zf body (.o3 body::k)
 |.seq a b,k=>zf a (.fG b::k)++zf b k
 |.cond _ a b,k=>zf a k++zf b k
 |.block id b,k=>zf b (.sT id::k)
 |.scope b,k=>zf b (.rX b::k)
 |_,_=>[]
def zO:Code->List b_->List (List b_)
 |.rangeFunc f ps a b,k=>[.fG (.rangeFunc f ps a b)::k]
 |.loop body,k=>zO body (.o3 body::k)
 |.seq a b,k=>zO a (.fG b::k)++zO b k
 |.cond _ a b,k=>zO a k++zO b k
 |.block id b,k=>zO b (.sT id::k)
 |.scope b,k=>zO b (.rX b::k)
 |_,_=>[]
def IA(P:Program)(f j:Nat):List b_:=
 match P.funcs[f]? with
 |some fn=>match fn.body with
  |some c=>((zO c [])[j]?).getD []
  |none=>[]
 |none=>[]
def ao(P:Program)(f j:Nat):List b_:=
 match P.funcs[f]? with
 |some fn=>match fn.body with
  |some c=>((zf c [])[j]?).getD []
  |none=>[]
 |none=>[]
def aQ:List (Nat×AV)->Tr AV
 |[]=>.fL
 |(s,a)::l=>(aQ l).iz s a
def MJ:List (Nat×aZ)->Tr aZ
 |[]=>.fL
 |(s,a)::l=>(MJ l).iz s a
def an(l:List (Nat×aZ))(n:Nat):AH:=⟨MJ l,n⟩
end
theorem UB:∀{ps:List (Nat×Nat)} {a c:Nat},jA ps a=some c->(a,c)∈ps
 |[],_,_,h=>by cases h
 |(o,n)::l,a,c,h=>by
  simp only[jA]at h;cases hb:Nat.beq o a
  ·rw[hb]at h;exact fF _ (UB h)
  ·rw[hb]at h;cases h;have:=eu hb;subst this;exact gi ..
theorem M7:∀{ps:List (Nat×Nat)} {a c:Nat},wo ps c=some a->(a,c)∈ps
 |[],_,_,h=>by cases h
 |(o,n)::l,a,c,h=>by
  simp only[wo]at h;cases hb:Nat.beq n c
  ·rw[hb]at h;exact fF _ (M7 h)
  ·rw[hb]at h;cases h;have:=eu hb;subst this;exact gi ..
theorem UF:∀{l:LN},u0 l=true↔l.Nodup
 |[]=>by simp[u0]
 |a::l=>by
  simp only[u0,cW,Bool.not_eq_true',List.nodup_cons,UF];have:l.any (Nat.beq a)=false↔a∉l:=by
   rw[←Bool.not_eq_true,List.any_eq_true];constructor
   ·intro h hm;exact h ⟨a,hm,by simp⟩
   ·rintro h ⟨x,hx,he⟩;exact h (by rw[eu he];exact hx)
  rw[this]
theorem Iq:∀{ps:List (Nat×Nat)} {a c:Nat},(ps.map (·.2)).Nodup->(a,c)∈ps->wo ps c=some a
 |[],_,_,_,h=>by cases h
 |(o,n)::l,a,c,hn,h=>by
  simp only[List.map_cons,List.nodup_cons]at hn;simp only[wo];rcases List.mem_cons.1 h with h|h
  ·cases h;simp
  ·have:n≠c:=by rintro rfl;exact hn.1 (List.mem_map_of_mem (f:=(·.2)) h)
   rw[Tr.uZ];simp only[this,decide_false,cond_false];exact Iq hn.2 h
theorem MS:∀{ps:List (Nat×Nat)} {a c:Nat},(ps.map (·.1)).Nodup->(a,c)∈ps->jA ps a=some c
 |[],_,_,_,h=>by cases h
 |(o,n)::l,a,c,hn,h=>by
  simp only[List.map_cons,List.nodup_cons]at hn;simp only[jA];rcases List.mem_cons.1 h with h|h
  ·cases h;simp
  ·have:o≠a:=by rintro rfl;exact hn.1 (List.mem_map_of_mem (f:=(·.1)) h)
   rw[Tr.uZ];simp only[this,decide_false,cond_false];exact MS hn.2 h
theorem Ig:∀{ps:List (Nat×Nat)} {a b c:Nat},(ps.map (·.2)).Nodup->(a,c)∈ps->(b,c)∈ps->a=b:=by intro ps a b c hn h1 h2;have e1:=Iq hn h1;have e2:=Iq hn h2;rw[e1]at e2;cases e2;rfl
theorem anB:∀{ps:List (Nat×Nat)} {a b c:Nat},(ps.map (·.1)).Nodup->(c,a)∈ps->(c,b)∈ps->a=b:=by intro ps a b c hn h1 h2;have e1:=MS hn h1;have e2:=MS hn h2;rw[e1]at e2;cases e2;rfl
section
variable{r:Nat->Option Nat}{φ ψ:bf}
structure r6(r:Nat->Option Nat)(φ ψ:bf):Prop where
 f:∀a c,r a=some c->ψ c=φ a
 ro:∀b o,φ.ro b=some o->ψ.ro b=some o
instance{r:Nat->Option Nat}{φ ψ:bf}:CoeFun (r6 r φ ψ) (fun _=>∀a c,r a=some c->ψ c=φ a):=⟨r6.f⟩
theorem r6.pu{r:Nat->Option Nat}{φ ψ:bf}(h:r6 r φ ψ):eg φ.pu ψ.pu:=⟨fun _ _ h=>(by cases h),h.ro⟩
mutual
theorem rM(hr:r6 r φ ψ):∀{a a':AV} {v:Value},fi r a=some a'->VR φ a v->VR ψ a' v
 |.ai _,a',v,h,hv=>by cases h;simpa[VR]using hv
 |.ck _ _,a',v,h,hv=>by cases h;simpa[VR]using hv
 |.aa _,a',v,h,hv=>by cases h;simpa[VR]using hv
 |.ab id off,a',v,h,hv=>by
  simp only[fi]at h;split at h
  ·rename_i c hc;cases h;obtain⟨e,h1,h2⟩:=hv;exact⟨e,by rw[hr _ _ hc];exact h1,h2⟩
  ·cases h
 |.om,a',v,h,hv=>by cases h;simpa[VR]using hv
 |.bE id off len cap sz ex,a',v,h,hv=>by
  simp only[fi]at h;split at h
  ·rename_i c hc;obtain⟨e,x,c',h1,h2,h3,h4,h5,h6⟩:=hv;split at h
   ·split at h
    ·cases h;exact .inr ⟨e,x,c',by rw[hr _ _ hc];exact h1,h2,by simpa using h3,h4,by simpa using h6⟩
    ·cases h;exact⟨e,x,c',by rw[hr _ _ hc];exact h1,h2,h3,h4,h5,h6⟩
   ·cases h;exact⟨e,x,c',by rw[hr _ _ hc];exact h1,h2,h3,h4,h5,h6⟩
  ·cases h
 |.bB,a',v,h,hv=>by cases h;simpa[VR]using hv
 |.aH id,a',v,h,hv=>by
  simp only[fi]at h;split at h
  ·rename_i c hc;cases h;obtain⟨e,h1,h2⟩:=hv;exact⟨e,by rw[hr _ _ hc];exact h1,h2⟩
  ·cases h
 |.mF,a',v,h,hv=>by cases h;simpa[VR]using hv
 |.bR fn f c,a',v,h,hv=>by
  simp only[fi]at h;split at h
  ·rename_i f' c' hf hc;cases h;obtain⟨f1,c1,h1,hy,h2,h3⟩:=hv;exact⟨f1,c1,h1,hy,zR hr hf h2,zR hr hc h3⟩
  ·cases h
 |.gd id,a',v,h,hv=>by
  simp only[fi]at h;split at h
  ·rename_i c hc;cases h;obtain⟨e,h1,h2⟩:=hv;exact⟨e,by rw[hr _ _ hc];exact h1,h2⟩
  ·cases h
 |.pC,a',v,h,hv=>by cases h;simpa[VR]using hv
 |.eK t a,a',v,h,hv=>by
  simp only[fi]at h;split at h
  ·rename_i c hc;cases h;obtain⟨v',h1,h2⟩:=hv;exact⟨v',h1,rM hr hc h2⟩
  ·cases h
 |.ly,a',v,h,hv=>by cases h;simpa[VR]using hv
 |.au cs,a',v,h,hv=>by
  simp only[fi]at h;split at h
  ·rename_i c hc;cases h;obtain⟨v',h1,h2⟩:=hv;exact⟨v',h1,zR hr hc h2⟩
  ·cases h
 |.aJ cs,a',v,h,hv=>by
  simp only[fi]at h;split at h
  ·rename_i c hc;cases h;obtain⟨v',h1,h2⟩:=hv;exact⟨v',h1,zR hr hc h2⟩
  ·cases h
 |.tc _,a',v,h,hv=>by cases h;simpa[VR]using hv
 |.zJ _,a',v,h,hv=>by cases h;simpa[VR]using hv
 |.tH ..,a',v,h,hv=>by cases h;simp only[VR]at hv⊢;exact hv
 |.su ..,a',v,h,hv=>by cases h;simp only[VR]at hv⊢;exact hv
 |.ax ..,a',v,h,hv=>by cases h;exact VR.pure _ _ rfl hv hr.ro
 |.oU _,a',v,h,hv=>by cases h;exact VR.pure _ _ rfl hv hr.ro
 |.ad id len sz,a',v,h,hv=>by
  simp only[fi]at h;split at h
  ·rename_i c hc;cases h;rcases hv with hv|⟨e,x,c',h1,h2⟩
   ·exact .inl hv
   ·exact .inr ⟨e,x,c',by rw[hr _ _ hc];exact h1,h2⟩
  ·cases h
theorem zR(hr:r6 r φ ψ):∀{as o_:LV} {vs:List Value},iN r as=some o_->bc φ as vs->bc ψ o_ vs
 |[],o_,vs,h,hv=>by cases h;simpa[bc]using hv
 |a::as,o_,vs,h,hv=>by
  simp only[iN]at h;split at h
  ·rename_i a' ha;split at h
   ·rename_i l' hl;cases h;obtain⟨v,eV,rfl,h1,h2⟩:=hv;exact⟨v,eV,rfl,rM hr ha h1,zR hr hl h2⟩
   ·cases h
  ·cases h
end
theorem apv{a a':AV}(h:fi r a=some a'):a'.dR=a.dR:=by
 cases a<;>simp only[fi]at h<;>first
  |(cases h;rfl)
  |(split at h
    ·first
      |(cases h;rfl)
      |(split at h<;>cases h<;>rfl)
      |(split at h
        ·split at h<;>cases h<;>rfl
        ·cases h;rfl)
    ·cases h)
theorem VA:∀{as o_:LV},iN r as=some o_->o_.length=as.length∧o_.all AV.dR=as.all AV.dR
 |[],o_,h=>by cases h;exact⟨rfl,rfl⟩
 |a::as,o_,h=>by
  simp only[iN]at h;split at h
  ·rename_i a' ha;split at h
   ·rename_i l' hl;cases h;obtain⟨h1,h2⟩:=VA hl;exact⟨by simp[h1],by simp[apv ha,h2]⟩
   ·cases h
  ·cases h
theorem ae1(hr:r6 r φ ψ):∀{es bw:List (AV×AV×Nat)} {ms:List MapEntry},Ns r es=some bw->dk φ es ms->dk ψ bw ms
 |[],bw,ms,h,he=>by cases h;simpa[dk]using he
 |(k,v,b)::es,bw,ms,h,he=>by
  simp only[Ns]at h;split at h
  ·rename_i k' v' l' h1 h2 h3;cases h;obtain⟨m,MM,rfl,a1,a2,a3,a4⟩:=he;exact⟨m,MM,rfl,rM hr h1 a1,rM hr h2 a2,a3,ae1 hr h3 a4⟩
  ·cases h
theorem apy{z z':LV}(h:iN r z=some z'):∀n,iN r (iU z n)=some (iU z' n):=by
 have als:∀{l l' m m':LV},iN r l=some l'->iN r m=some m'->iN r (l++m)=some (l'++m'):=by
  intro l;induction l with
  |nil=>intro l' m m' h1 h2;cases h1;simpa using h2
  |cons a l ih=>
   intro l' m m' h1 h2;simp only[iN]at h1;split at h1
   ·rename_i a' ha;split at h1
    ·rename_i l1 hl;cases h1;simp only[sA,iN,ha,ih hl h2]
    ·cases h1
   ·cases h1
 intro n;induction n with
 |zero=>rfl
 |succ n ih=>exact als h ih
theorem Nt:∀{t t':Tr AV} {i:Nat} {a':AV},ID r t=some t'->t'.bV i=some a'->∃a,t.bV i=some a∧fi r a=some a'
 |.fL,t',i,a',h,hg=>by cases h;cases hg
 |.fP v a b,t',i,a',h,hg=>by
  simp only[ID]at h;split at h
  ·rename_i x y hx hy;have az:∀v':Option AV,(∀z,v'=some z->∃z0,v=some z0∧fi r z0=some z)->(Tr.fP v' x y).bV i=some a'->∃a0,(Tr.fP v a b).bV i=some a0∧fi r a0=some a':=by
    intro v' hv hg;rw[Tr.oD]at hg;rw[Tr.oD];split at hg
    ·rename_i h0;rw[aY h0];exact hv _ hg
    ·rename_i h0;rw[aB h0];split at hg
     ·rename_i h1;rw[aY h1];exact Nt hx hg
     ·rename_i h1;rw[aB h1];exact Nt hy hg
   split at h
   ·cases h;exact az none (fun z hz=>by cases hz) hg
   ·rename_i z0;split at h
    ·rename_i z hz;cases h;exact az (some z) (fun w hw=>by cases hw;exact⟨z0,rfl,hz⟩) hg
    ·cases h
  ·cases h
theorem VC(hr:r6 r φ ψ){ob bW:aZ}{e:PE}{o:Obj}(h:lj r ob=some bW)(ho:OR φ ob e o):OR ψ bW e o:=by
 cases ob<;>simp only[lj]at h<;>try (cases h;done)
 case aw vs el=>
  split at h
  ·rename_i l hl;cases h;obtain⟨cs,ic,rfl,h1,h2,h3,h4⟩:=ho;obtain⟨a1,a2⟩:=VA hl;exact⟨cs,ic,rfl,h1,by rw[a1];exact h2,by rw[a1];exact zR hr hl h3,by rw[a2];exact h4⟩
  ·cases h
 case bC es c p=>
  obtain⟨bw,rfl,h2,h3⟩:=ho;cases p with
  |true=>cases h;exact⟨bw,rfl,((h3 rfl).Ap hr.pu).Ap (eg.BT _),fun _=>(h3 rfl).Ap hr.pu⟩
  |false=>
   simp only[cond_false]at h;split at h
   ·rename_i l hl;cases h;exact⟨bw,rfl,ae1 hr hl h2,fun h=>by cases h⟩
   ·cases h
 case gb st p fn t nt ps a b d=>
  split at h
  ·rename_i t' d' ht hd;cases h;obtain⟨nc,ed,rfl,h1,h2⟩:=ho;refine⟨nc,ed,rfl,(hr d d' hd).trans h1,h2.1,fun i x hx=>?_⟩;obtain⟨x0,g1,g2⟩:=Nt ht hx;obtain⟨v,g3,g4⟩:=h2.2 i x0 g1;exact⟨v,g3,rM hr g2 g4⟩
  ·cases h
 case b9=>cases h;trivial
 case eh=>cases h;obtain⟨cs,el,rfl,h2,h3,h4,h5⟩:=ho;exact⟨cs,el,rfl,h2,h3,bc.kQ hr.pu _ _ h4,h5⟩
 case aF=>cases h;obtain⟨cs,el,rfl,h2,h3,h4,h5⟩:=ho;exact⟨cs,el,rfl,h2,h3,bc.kQ hr.pu _ _ h4,h5⟩
 case qN=>cases h;exact ho
 case ot ds=>
  split at h
  ·cases h;exact ho
  ·cases h;obtain⟨l',h1,h2⟩:=ho;cases h2;exact⟨[],h1,rfl⟩
  ·cases h
 case u7 z n el=>
  split at h
  ·rename_i l hl;cases h;obtain⟨cs,ic,rfl,h1,h2,h3,h4⟩:=ho;have uO:=apy hl n;obtain⟨a1,a2⟩:=VA uO;exact⟨cs,ic,rfl,h1,by rw[a1];exact h2,by rw[a1];exact zR hr uO h3,by rw[a2];exact h4⟩
  ·cases h
theorem IC{ob bW:aZ}(h:lj r ob=some bW):bW.aU=ob.aU:=by
 cases ob<;>simp only[lj]at h<;>try (cases h;done)
 case aw vs el=>split at h<;>cases h;rfl
 case gb st p fn t nt ps a b d=>split at h<;>cases h;rfl
 case bC es c p=>
  cases p with
  |true=>cases h;rfl
  |false=>simp only[cond_false]at h;split at h<;>cases h;rfl
 case b9=>cases h;rfl
 case eh=>cases h;rfl
 case aF=>cases h;rfl
 case qN=>cases h;rfl
 case ot ds=>split at h<;>cases h<;>rfl
 case u7 z n el=>split at h<;>cases h;rfl
end
theorem Ot{r:Nat->Option Nat}{H:AH}:∀{ps:List (Nat×Nat)} {t t':Tr aZ} {i:Nat} {bW:aZ},Af r H ps t=some t'->t'.bV i=some bW->
 (∃o ob,(o,i)∈ps∧H.bu o=some ob∧lj r ob=some bW)∨t.bV i=some bW
 |[],t,t',i,bW,h,hg=>by cases h;exact .inr hg
 |(o,n)::l,t,t',i,bW,h,hg=>by
  simp only[Af]at h;split at h
  ·rename_i ho;rcases Ot h hg with⟨o2,ob,h1,h2⟩|h1
   ·exact .inl ⟨o2,ob,fF _ h1,h2⟩
   ·exact .inr h1
  ·rename_i ob ho;split at h
   ·rename_i jl amc;rcases Ot h hg with⟨o2,oj,h1,h2⟩|h1
    ·exact .inl ⟨o2,oj,fF _ h1,h2⟩
    ·rw[Tr.kZ]at h1;by_cases hi:i=n
     ·subst hi;rw[aY rfl]at h1;cases h1;exact .inl ⟨o,ob,gi ..,ho,amc⟩
     ·rw[aB hi]at h1;exact .inr h1
   ·cases h
def mI(ps:List (Nat×Nat))(φ:bf):bf:=⟨fun c=>(wo ps c).bind φ.f,φ.ro⟩
structure Gd(ps:List (Nat×Nat))(n:Nat):Prop where
 n1:(ps.map (·.1)).Nodup
 n2:(ps.map (·.2)).Nodup
 lt:∀p∈ps,p.2<n
theorem aoa{ps:List (Nat×Nat)}{n:Nat}(h:UR ps n=true):Gd ps n:=by unfold UR at h;simp only[cW]at h;exact⟨UF.1 h.1.1,UF.1 h.1.2,fun p hp=>by have:=List.all_eq_true.1 h.2 p hp;exact Nat.le_of_ble_eq_true this⟩
theorem BU{ps:List (Nat×Nat)}{n:Nat}(h:Gd ps n)(φ:bf):r6 (jA ps) φ (mI ps φ):=by refine⟨fun a c hac=>?_,fun _ _ h=>h⟩;have:=Iq h.n2 (UB hac);simp[mI,this]
theorem Fk{ps:List (Nat×Nat)}{φ:bf}{c:Nat}{e:PE}(h:mI ps φ c=some e):∃a,(a,c)∈ps∧φ a=some e:=by
 unfold mI at h;cases ho:wo ps c with
 |none=>simp[ho]at h
 |some a=>simp[ho]at h;exact⟨a,M7 ho,h⟩
theorem WR.rU{φ:bf}{base:dX}{H:AH}{w:World}(hw:WR φ base H w){ps:List (Nat×Nat)}{n:Nat}{t:Tr aZ}(hp:Gd ps n)(h:Af (jA ps) H ps .fL=some t):
 WR (mI ps φ) base ⟨t,n⟩ w:=by
 have kG:∀{i ob},(⟨t,n⟩:AH).bu i=some ob->∃o ec,(o,i)∈ps∧H.bu o=some ec∧lj (jA ps) ec=some ob:=by
  intro i ob hi;rcases Ot h hi with h1|h1
  ·exact h1
  ·cases h1
 refine⟨?_,?_,?_,?_,hw.sE rfl (fun _ _ _=>rfl) fun i ob e h1 l1 h2=>.inl ?_⟩
 ·intro i ob e h1 h2;obtain⟨o,ec,g1,g2,g3⟩:=kG h1;obtain⟨a,g4,g5⟩:=Fk h2;have:=Ig hp.n2 g1 g4;subst this;obtain⟨o',g6,g7⟩:=hw.ey _ _ e g2 g5;exact⟨o',g6,VC (BU hp φ) g3 g7⟩
 ·intro i j ob bW e e' h1 l1 h2 h3 l2 h4 hb;obtain⟨o,ec,g1,g2,g3⟩:=kG h1;obtain⟨a,g4,g5⟩:=Fk h2;obtain⟨o2,oj,k1,k2,k3⟩:=kG h3;obtain⟨a2,k4,k5⟩:=Fk h4;have e1:=Ig hp.n2 g1 g4;have e2:=Ig hp.n2 k1 k4;subst e1 e2;have:=hw.kx _ _ ec oj e e' g2 (by rw[←IC g3];exact l1) g5 k2 (by rw[←IC k3];exact l2) k5 hb;subst this;exact anB hp.n1 g1 k1
 ·intro i e h2;obtain⟨a,g4,g5⟩:=Fk h2;obtain⟨a1,a2,_⟩:=hw.lt a e g5;exact⟨a1,a2,hp.lt _ g4⟩
 ·intro i ob h1;obtain⟨o,ec,g1,_⟩:=kG h1;exact hp.lt _ g1
 ·obtain⟨o,ec,g1,g2,g3⟩:=kG h1;obtain⟨a,g4,g5⟩:=Fk h2;have:=Ig hp.n2 g1 g4;subst this;exact⟨_,ec,e,g2,by rw[←IC g3];exact l1,g5,rfl⟩
theorem Jg{m0:Nat}{qa:LN}{H H2:AH}{ps:List (Nat×Nat)}(h:oT m0 qa H=some ⟨ps,H2⟩):
 ∃t n,H2=⟨t,n⟩∧Gd ps n∧Af (jA ps) H ps .fL=some t∧(∀i,i<m0->wo ps i=some i):=by
 unfold oT at h;split at h;rename_i qL n _;obtain⟨hc,h⟩:=c6 h;simp only[cW]at hc;split at h
 ·rename_i t ht;cases h;refine⟨t,n,rfl,aoa hc.1,ht,fun i hi=>?_⟩;have:=List.all_eq_true.1 hc.2 i (by simpa using hi);split at this
  ·rename_i j hj;rw[hj,←eu this]
  ·cases this
 ·cases h
theorem WY{r:Nat->Option Nat}{tmps:Tr AV}:∀{l:LN} {t:Tr AV} {s:Nat} {a':AV},tV r tmps l=some t->t.bV s=some a'->∃a,tmps.bV s=some a∧fi r a=some a'
 |[],t,s,a',h,hg=>by cases h;cases hg
 |x::l,t,s,a',h,hg=>by
  simp only[tV]at h;split at h
  ·cases h
  ·rename_i t1 h1;split at h
   ·rename_i a ha;split at h
    ·rename_i b hb;cases h;rw[Tr.kZ]at hg;by_cases hs:s=x
     ·subst hs;rw[aY rfl]at hg;cases hg;exact⟨a,ha,hb⟩
     ·rw[aB hs]at hg;exact WY h1 hg
    ·cases h
   ·cases h;exact WY h1 hg
structure kR(m:Nat)(φ ψ:bf):Prop where
 f:∀id,id<m->ψ id=φ id
 ro:∀b o,φ.ro b=some o->ψ.ro b=some o
instance{m:Nat}{φ ψ:bf}:CoeFun (kR m φ ψ) (fun _=>∀id,id<m->ψ id=φ id):=⟨kR.f⟩
theorem kR.ub{m:Nat}{φ ψ χ:bf}(h:kR m φ ψ)(h':kR m ψ χ):kR m φ χ:=⟨fun id hi=>(h' id hi).trans (h id hi),fun b o hb=>h'.ro b o (h.ro b o hb)⟩
theorem kR.refl(m:Nat)(φ:bf):kR m φ φ:=⟨fun _ _=>rfl,fun _ _ h=>h⟩
theorem kR.mono{m n:Nat}{φ ψ:bf}(h:kR n φ ψ)(hm:m<=n):kR m φ ψ:=⟨fun id hi=>h id (Nat.lt_of_lt_of_le hi hm),h.ro⟩
section
variable{P:Program}{ρ:Operand->Option AV}{H:AH}
theorem wq{o:Option AV}{k:AV->Prop}(h:tJ o k):∃v,o=some v∧k v:=by
 unfold tJ at h;cases o with
 |none=>cases h
 |some v=>exact⟨v,rfl,h⟩
theorem jR{c:Bool}{A:Prop}(h:bif c then A else False):c=true∧A:=by
 cases c
 ·cases h
 ·exact⟨rfl,h⟩
theorem xj:∀(d:Nat) (ts:List TypeId) (gj:LV) {k:LV->Prop},uE P d ts gj k->∃cs,k cs
 |0,_,_,_,h=>by cases h
 |d+1,[],gj,k,h=>⟨_,h⟩
 |d+1,t::ts,gj,k,h=>by
  simp only[uE]at h;split at h
  ·exact xj d _ _ h
  ·obtain⟨n,h⟩:=h;exact xj d _ _ h
  ·obtain⟨n,h⟩:=h;exact xj d _ _ h
  ·obtain⟨n,h⟩:=h;exact xj d _ _ h
  ·split at h
   ·obtain⟨cs,len,h⟩:=h;exact xj d _ _ h
   ·cases h
  ·obtain⟨n,h⟩:=h;exact xj d _ _ h
theorem RC{t:TypeId}{k:AV->Prop}(h:GV P t k):∃v,k v:=by
 unfold GV at h;split at h
 ·obtain⟨cs,h⟩:=xj _ _ _ h;exact⟨_,h⟩
 ·obtain⟨cs,h⟩:=xj _ _ _ h;split at h
  ·exact⟨_,h⟩
  ·cases h
 ·cases h
theorem akj{t:TypeId}{k:LV->Prop}(h:aaI P t k):∃v,k v:=xj _ _ _ h
theorem Ij{x:Operand}{k:Nat->Prop}(h:BK ρ x k):∃(kd:IntKind) (i:Nat),ρ x=some (.ck kd (.ofNat i))∧k i:=by
 unfold BK at h;split at h
 ·rename_i kd n hx;cases hc:rA x
  ·rw[hc]at h;obtain⟨i,rfl,h⟩:=h;exact⟨kd,i,hx,h⟩
  ·rw[hc]at h;simp only[cond_true]at h;split at h
   ·rename_i i;exact⟨kd,i,hx,h⟩
   ·cases h
 ·cases h
def Di(a:Option AV)(d:Nat):Option Nat:=
 match a with
 |some v=>mY v
 |none=>some d
theorem yM{o:Option Operand}{d:Nat}{k:Nat->Prop}(h:vD ρ o d k):
 ∃a i,p8 ρ o=some a∧Di a d=some i∧k i:=by
 unfold vD at h;cases o with
 |none=>exact⟨none,d,rfl,rfl,h⟩
 |some x=>obtain⟨kd,i,h1,h2⟩:=Ij h;exact⟨some (.ck kd (.ofNat i)),i,by simp[p8,h1],rfl,h2⟩
theorem J7{o:Option Nat}{s:Nat}(h:o.any (Nat.beq s)=true):o=some s:=by
 cases o with
 |none=>cases h
 |some x=>simp only[Option.any_some]at h;rw[eu h]
theorem acC{id:Nat}{vs:LV}(h:Mb (H.bu id)=some vs):H.nP id=some vs:=by
 unfold Mb at h;unfold AH.nP;split at h
 ·rename_i ho;cases h;rw[ho]
 ·rename_i ho;cases h;rw[ho]
 ·cases h
theorem ape{t:TypeId}{a:Operand}{k:AV->Prop}(h:Vq P ρ H t a k):∃v,fK P ρ H (.load t a)=some v∧k v:=by
 unfold Vq at h;simp only[fK,H_];split at h
 ·rename_i id off ha;rw[ha];split at h
  ·rename_i vs iB;obtain⟨v,h1,h2⟩:=RC h;exact⟨v,by simp only[rB,acC iB,h1],h2⟩
  ·exact wq h
 ·rename_i cs ha;rw[ha];exact wq h
 ·cases h
theorem gJ{a b:Nat}(h:a<=b):Nat.ble a b=true:=by rw[Nat.ble_eq];exact h
theorem aa4{id off sz:Nat}{k:AV->Prop}:∀{c j:Nat} {i:Nat},K5 id off sz (i:Int) k j c->j<=i->i<j+c->k (.ab id (off+i*sz))
 |0,j,i,_,h1,h2=>by omega
 |c+1,j,i,h,h1,h2=>by
  simp only[K5]at h;by_cases hi:i=j
  ·subst hi;exact h.1 rfl
  ·exact aa4 h.2 (by simp;omega) (by simp;omega)
theorem apc{t:TypeId}{x i:Operand}{k:AV->Prop}(h:Vp P ρ H t x i k):∃v,fK P ρ H (.indexAddr t x i)=some v∧k v:=by
 unfold Vp at h;split at h
 ·rename_i e hu;simp only[fK,H9,hu];split at h
  ·rename_i cs len sz hx;obtain⟨hs,h⟩:=jR h;obtain⟨kd,j,hi,h⟩:=Ij h;obtain⟨aj,h⟩:=h;obtain⟨eh,h1,h2⟩:=akj h;rw[hx,hi];refine⟨_,?_,h2⟩;have hs:=J7 hs;simp only[Kx,hs,Nat.beq_refl,gJ (show j+1<=len from aj),Bool.and_self,cond_true,h1]
  ·rename_i id len sz hx;obtain⟨hs,h⟩:=jR h;obtain⟨kd,j,hi,h⟩:=Ij h;obtain⟨aj,h⟩:=h;rw[hx,hi];refine⟨_,?_,h⟩;have xI:=J7 hs;simp only[xI,Option.any_some,Nat.beq_refl,cond_true,yX,gJ (show j+1<=len from aj),jI]
  ·rename_i id off len cap sz ex hx;obtain⟨hs,h⟩:=jR h;obtain⟨kd,j,hi,h⟩:=Ij h;obtain⟨aj,h⟩:=h;rw[hx,hi];refine⟨_,?_,h⟩;have xI:=J7 hs;simp only[cond_true,yX,xI,gJ (show j+1<=len from aj)]
  ·cases h
 ·rename_i c e hu;cases hc:rA i
  ·rw[hc]at h;simp only[cond_false]at h;split at h
   ·rename_i id off kd n hx hi;split at h
    ·rename_i sz hs;obtain⟨⟨h0,h1⟩,h⟩:=h;obtain⟨j,rfl⟩:=Int.eq_ofNat_of_zero_le h0;have eO:ρ i=some (.ck kd (.ofNat j)):=hi;refine⟨_,?_,aa4 h (Nat.zero_le _) (by omega)⟩;simp only[fK,H9,hu,hx,eO,yX,hs,gJ (show j+1<=c by omega),cond_true]
    ·cases h
   ·cases h
  ·rw[hc]at h;exact wq h
 ·exact wq h
theorem aa3{e:TypeId}{sz:Nat}{cs:LV}{k:AV->Prop}:∀{c j:Nat} {i:Nat},K4 P e sz cs (i:Int) k j c->j<=i->i<j+c->∃v,bQ P e cs (i*sz)=some v∧k v
 |0,j,i,_,h1,h2=>by omega
 |c+1,j,i,h,h1,h2=>by
  simp only[K4]at h;by_cases hi:i=j
  ·subst hi;exact wq (h.1 rfl)
  ·exact aa3 h.2 (by simp;omega) (by simp;omega)
theorem apd{t:TypeId}{x i:Operand}{k:AV->Prop}(h:Vo P ρ H t x i k):∃v,fK P ρ H (.index t x i)=some v∧k v:=by
 unfold Vo at h;split at h
 ·rename_i cs kd n hx hi;cases hc:rA i
  ·rw[hc]at h;simp only[cond_false]at h;split at h
   ·rename_i c e hu;split at h
    ·rename_i sz hs;obtain⟨⟨h0,h1⟩,h⟩:=h;obtain⟨j,rfl⟩:=Int.eq_ofNat_of_zero_le h0;obtain⟨v,h2,h3⟩:=aa3 h (Nat.zero_le _) (by omega);refine⟨v,?_,h3⟩;have eO:ρ i=some (.ck kd (.ofNat j)):=hi;simp only[fK,H8,hu,hx,eO,Rd,hs,gJ (show j+1<=c by omega),cond_true,h2]
    ·cases h
   ·cases h
  ·rw[hc]at h;exact wq h
 ·rename_i s kd n hx hi;split at h
  ·rename_i hu;obtain⟨kd',j,eO,b,h1,h2⟩:=Ij h;refine⟨_,?_,h2⟩;simp only[fK,H8,hu,hx,eO,QL,h1]
  ·cases h
 ·cases h
theorem ans{kt e:TypeId}{es:List (AV×AV×Nat)}{key v:AV}{b ok:Bool}(h:fX P kt e es key=some (v,b)):
 (match kY (ie P 100 kt) key es 0 with
   |some (some (_,v,_))=>some (p7 ok v true)
   |some none=>(ku P e).map (p7 ok · false)
   |none=>none)=some (p7 ok v b):=by
 unfold fX at h;split at h
 ·rename_i i v' b' hf;cases h;first|rfl|rw[hf]
 ·rename_i hf;try rw[hf]
  cases hz:ku P e with
  |none=>simp[hz]at h
  |some z=>simp[hz]at h⊢;obtain⟨rfl,rfl⟩:=h;rfl
 ·cases h
theorem apf{t:TypeId}{x key:Operand}{ok:Bool}{k:AV->Prop}(h:Vr P ρ H t x key ok k):∃v,fK P ρ H (.lookup t x key ok)=some v∧k v:=by
 unfold Vr at h;split at h
 ·rename_i kt e id ky hu hx hk;split at h
  ·rename_i es c p ho;obtain⟨hp,h⟩:=jR h;obtain⟨v,b,h1,h2⟩:=RC h;refine⟨_,?_,h2⟩;simp only[fK,ET,hu,hx,hk,EU,hp,cond_true,vK,ho];exact ans h1
  ·cases h
 ·rename_i kt e ky hu hx hk;obtain⟨hp,h⟩:=jR h;obtain⟨v,h1,h2⟩:=wq h;refine⟨v,?_,h2⟩;simp only[fK,ET,hu,hx,hk,EU,hp,cond_true,vK,kY];exact h1
 ·cases h
theorem Wm{t:TypeId}{sz:Nat}(h:(match P.underlying t with|some (.slice e)=>(dw P e).any (Nat.beq sz)|_=>false)=true):∃e,P.underlying t=some (.slice e)∧dw P e=some sz:=by
 split at h
 ·rename_i e hu;exact⟨e,hu,J7 h⟩
 ·cases h
theorem avR{t:TypeId}(h:(match P.underlying t with|some .string=>true|_=>false)=true):P.underlying t=some .string:=by
 split at h
 ·assumption
 ·cases h
theorem agC{id off len cap sz:Nat}{ex:Bool}{lo hi:Option AV}{l h:Nat}(e2:Di lo 0=some l)(e1:Di hi len=some h)
 (h1:l<=h) (h2:h<=bif ex then cap else len):Ci id off len cap sz ex lo hi none=some (.bE id (off+l*sz) (h-l) (GC ex lo cap l) sz ex):=by
 unfold Ci;cases lo<;>cases hi<;>simp only[Di]at e1 e2⊢<;>first
  |(cases e1;cases e2;simp[gJ h1,gJ h2];done)
  |(cases e1;simp[e2,gJ h1,gJ h2];done)
  |(cases e2;simp[e1,gJ h1,gJ h2];done)
  |(simp[e1,e2,gJ h1,gJ h2];done)
theorem ZE{lo:Option Operand}{a:Option AV}(h:p8 ρ lo=some a)(ex:Bool)(cap l:Nat):GB ex lo cap l=GC ex a cap l:=by
 cases lo with
 |none=>cases h;rfl
 |some x=>
  simp only[p8]at h;cases hx:ρ x with
  |none=>rw[hx]at h;cases h
  |some v=>rw[hx]at h;cases h;rfl
theorem api{t:TypeId}{x:Operand}{lo hi mx:Option Operand}{k:AV->Prop}(h:Vt P ρ H t x lo hi mx k):∃v,fK P ρ H (.slice t x lo hi mx)=some v∧k v:=by
 unfold Vt at h;split at h
 ·rename_i cs len sz hx;obtain⟨hc,hq⟩:=jR h;clear h;simp only[cW]at hc;obtain⟨e,hu,hs⟩:=Wm hc.2;have uS:mx=none:=by cases mx<;>simp at hc⊢
  subst uS;obtain⟨a,l,h1,h2,hq⟩:=yM hq;obtain⟨b,h',h3,h4,hq⟩:=yM hq;obtain⟨⟨g1,g2⟩,hq⟩:=hq;refine⟨_,?_,hq⟩;simp only[fK,xR,h1,h3,hu,hx,hs,show p8 ρ none=some none from rfl,Option.any_some,Nat.beq_refl,cond_true];show IM cs len sz a b none=_;unfold IM;cases a<;>cases b<;>simp only[Di]at h2 h4⊢<;>first
   |(cases h2;cases h4;simp[gJ g1,gJ g2];done)
   |(cases h2;simp[h4,gJ g1,gJ g2];done)
   |(cases h4;simp[h2,gJ g1,gJ g2];done)
   |(simp[h2,h4,gJ g1,gJ g2];done)
 ·rename_i id off len cap sz ex hx;obtain⟨hc,hq⟩:=jR h;clear h;simp only[cW]at hc;obtain⟨e,hu,hs⟩:=Wm hc.2;have uS:mx=none:=by cases mx<;>simp at hc⊢
  subst uS;obtain⟨a,l,h1,h2,hq⟩:=yM hq;obtain⟨b,h',h3,h4,hq⟩:=yM hq;obtain⟨⟨g1,g2⟩,hq⟩:=hq;refine⟨_,?_,hq⟩;simp only[fK,xR,h1,h3,hu,hx,hs,show p8 ρ none=some none from rfl,Option.any_some,Nat.beq_refl,cond_true];have hc:GB ex lo cap l=GC ex a cap l:=ZE h1 _ _ _;rw[hc];exact agC h2 h4 g1 g2
 ·rename_i id len sz hx;obtain⟨hc,hq⟩:=jR h;clear h;simp only[cW]at hc;obtain⟨e,hu,hs⟩:=Wm hc.2;have uS:mx=none:=by cases mx<;>simp at hc⊢
  subst uS;obtain⟨pQ,hq⟩:=hq;obtain⟨a,l,h1,h2,hq⟩:=yM hq;obtain⟨b,h',h3,h4,hq⟩:=yM hq;obtain⟨⟨g1,g2⟩,hq⟩:=hq;refine⟨_,?_,hq⟩;simp only[fK,xR,h1,h3,hu,hx,hs,Option.any_some,Nat.beq_refl,show p8 ρ none=some none from rfl,Option.isNone_none,gJ pQ,Bool.and_self,cond_true];have hc:GB false lo 1 l=GC false a 1 l:=ZE h1 _ _ _;rw[hc];exact agC h2 h4 g1 g2
 ·rename_i s hx;obtain⟨hc,hq⟩:=jR h;clear h;simp only[cW]at hc;have hu:=avR hc.2;have uS:mx=none:=by cases mx<;>simp at hc⊢
  subst uS;obtain⟨a,l,h1,h2,hq⟩:=yM hq;obtain⟨b,h',h3,h4,hq⟩:=yM hq;obtain⟨⟨g1,g2⟩,hq⟩:=hq;refine⟨_,?_,hq⟩;simp only[fK,xR,h1,h3,hu,hx,show p8 ρ none=some none from rfl,Option.isNone_none,cond_true];unfold NP;cases a<;>cases b<;>simp only[Di]at h2 h4⊢<;>first
   |(cases h2;cases h4;simp[gJ g1,gJ g2];done)
   |(cases h2;simp[h4,gJ g1,gJ g2];done)
   |(cases h4;simp[h2,gJ g1,gJ g2];done)
   |(simp[h2,h4,gJ g1,gJ g2];done)
 ·exact wq h
theorem aiN{b:Bool}{A B:Prop}(h:ah b A B)(hb:b=true):A:=by subst hb;exact h
theorem aiM{b:Bool}{A B:Prop}(h:ah b A B)(hb:b=false):B:=by subst hb;exact h
theorem aI{b:Bool}{A B:Prop}:ah b A B↔(b=true->A)∧(b=false->B):=by
 cases b
 ·exact⟨fun h=>⟨(fun h=>by cases h),fun _=>h⟩,fun h=>h.2 rfl⟩
 ·exact⟨fun h=>⟨fun _=>h,(fun h=>by cases h)⟩,fun h=>h.1 rfl⟩
theorem aph{c a b:Operand}{k:AV->Prop}(h:Vs ρ c a b k):∃v,fK P ρ H (.pick c a b)=some v∧k v:=by
 unfold Vs at h;cases hc:ρ c with
 |none=>simp only[hc]at h
 |some vc=>
  cases ha:ρ a with
  |none=>cases vc<;>simp only[hc,ha]at h
  |some va=>
   cases hb:ρ b with
   |none=>cases vc<;>simp only[hc,ha,hb]at h
   |some vb=>
    cases vc<;>simp only[hc,ha,hb]at h<;>try (cases h;done)
    rename_i t;have key:∀v,(bif t then va else vb)=v->fK P ρ H (.pick c a b)=some v:=by
     intro v hv;simp only[fK,Mm,hc];cases t
     ·simp only[cond_false]at hv⊢;rw[hb,hv]
     ·simp only[cond_true]at hv⊢;rw[ha,hv]
    by_cases h2:∃x y,va=.ai x∧vb=.ai y
    ·obtain⟨x,y,rfl,rfl⟩:=h2;refine⟨_,key _ ?_,h⟩;cases t<;>rfl
    ·
     have h3:ah t (k va) (k vb):=by
      cases va<;>cases vb<;>first
       |exact h
       |exact absurd ⟨_,_,rfl,rfl⟩ h2
     cases t
     ·exact⟨_,key _ rfl,h3⟩
     ·exact⟨_,key _ rfl,h3⟩
theorem aaH:∀{fs:List Field} {i:Nat} {cs ds xs ys:LV} {b:Bool} (d' d:Nat),xi P fs i cs ds=some b->xs.drop i=cs->ys.drop i=ds->
 ie.At P d' fs xs ys (ie P (d+1))=some b
 |[],i,cs,ds,xs,ys,b,d',d,he,hx,hy=>by
  cases cs with
  |nil=>cases ds with
   |nil=>simpa[xi,ie.At]using he
   |cons=>simp[xi]at he
  |cons=>simp[xi]at he
 |f::fs,i,cs,ds,xs,ys,b,d',d,he,hx,hy=>by
  cases cs with
  |nil=>simp[xi]at he
  |cons c cs=>
   cases ds with
   |nil=>simp[xi]at he
   |cons dd ds=>
    simp only[xi]at he;obtain⟨jX,he⟩:=c6 he;simp only[cW]at jX;obtain⟨hn,ho⟩:=jX;have ho:=eu ho;split at he
    ·rename_i td hu;split at he
     ·rename_i x y h1 h2;cases he;have aml:xs[i]? =some c:=by have:=congrArg (·[0]?) hx;simpa using this
      have amm:ys[i]? =some dd:=by have:=congrArg (·[0]?) hy;simpa using this
      have Sl:zq P f.type=some false∧ie P (d+1) f.type c dd=some x:=by
       unfold aaD at h1;split at h1
       ·split at h1
        ·rename_i hk;subst hk;cases h1;exact⟨by simp[zq,hu],by simp[ie,hu]⟩
        ·cases h1
       ·cases h1;exact⟨by simp[zq,hu],by simp[ie,hu]⟩
       ·cases h1;exact⟨by simp[zq,hu],by simp[ie,hu]⟩
       ·cases h1
      have di:f.name≠ "_" :=by simpa using hn
      have hpx:bQ P f.type xs f.offset=some c:=by simp only[bQ,Sl.1,ho,aml]
      have hpy:bQ P f.type ys f.offset=some dd:=by simp only[bQ,Sl.1,ho,amm]
      simp only[ie.At,aB di,hpx,hpy,Sl.2];have xK:xs.drop (i+1)=cs:=by have:=congrArg (List.drop 1) hx;simpa[Nat.add_comm]using this
      have l8:ys.drop (i+1)=ds:=by have:=congrArg (List.drop 1) hy;simpa[Nat.add_comm]using this
      have ih:=aaH d' d h2 xK l8;cases x
      ·simp
      ·simpa using ih
     ·cases he
    ·cases he
theorem Ry{t:TypeId}{cs ds:LV}{b:Bool}(h:KT P t cs ds=some b):ie P 100 t (.au cs) (.au ds)=some b∧P.eqGuardType P.depth t=false:=by
 unfold KT at h;split at h
 ·rename_i gn hu;cases hc:(P.stoodInHeld t||P.eqGuardType P.depth t)
  ·rw[hc]at h;simp only[cond_false]at h;simp only[Bool.or_eq_false_iff]at hc;refine⟨?_,hc.2⟩;rw[ie]
   ·simp only[hc.1,cond_false];exact aaH 99 98 h rfl rfl
   ·exact hu
  ·rw[hc]at h;cases h
 ·cases h
theorem apb{op:BinOp}{t:TypeId}{x y:Operand}{yt:TypeId}{k:AV->Prop}(h:Vn P ρ H op t x y yt k):∃v,fK P ρ H (.binOp op t x y yt)=some v∧k v:=by
 unfold Vn at h;split at h
 ·rename_i cs ds hx hy;have key:∀{b:Bool} {v:AV},KT P t cs ds=some b->DI P op t (.au cs) (.au ds)=some v->fK P ρ H (.binOp op t x y yt)=some v:=by intro b v hb hv;obtain⟨h1,h2⟩:=Ry hb;simp only[fK,Mi,hx,hy,Kd,mW,DT,h2,Nat.beq_refl,Bool.not_false,Bool.and_true];exact hv
  split at h
  ·rename_i b hb;exact⟨_,key hb (by simp[DI,(Ry hb).1]),h⟩
  ·rename_i b hb;exact⟨_,key hb (by simp[DI,(Ry hb).1]),h⟩
  ·cases h
 ·exact wq h
theorem apj{op:Op}{k:AV->Prop}(h:rd P ρ H op k):∃v,fK P ρ H op=some v∧k v:=by
 unfold rd at h;split at h
 ·exact ape h
 ·exact apc h
 ·exact apd h
 ·exact apf h
 ·exact api h
 ·exact aph h
 ·exact apb h
 ·exact wq h
theorem Uy{o:Option (aZ×(Nat->AV))}{k:AV->AH->Prop}(h:Ih H o k):∃ob g,o=some (ob,g)∧k (g H.bL) (H.iq ob):=by
 unfold Ih at h;split at h
 ·rename_i ob g hh n;exact⟨ob,g,rfl,h⟩
 ·cases h
theorem anG{op:Op}{k:AV->AH->Prop}(h:mk P ρ H op k):∃ob g,nD P ρ op=some (ob,g)∧k (g H.bL) (H.iq ob):=by
 unfold mk at h;split at h
 ·rename_i t len cap;unfold adp at h;cases hk:rA cap
  ·rw[hk]at h;simp only[cond_false]at h;obtain⟨hs,h⟩:=jR h;have mS:len=cap:=by cases len<;>cases cap<;>simp[afZ]at hs;rw[hs]
   subst mS;split at h
   ·rename_i elem n hu hc;split at h
    ·rename_i s z gK h1 h2 h3;obtain⟨c,rfl,h⟩:=h;unfold mkS at h;obtain⟨hb,h⟩:=jR h;obtain⟨cI,h⟩:=h;obtain⟨ob,g,h4,h5⟩:=Uy h;refine⟨ob,g,?_,h5⟩;simp only[cW]at hb;obtain⟨⟨⟨⟨b1,b2⟩,b3⟩,b4⟩,b5⟩:=hb;have qv:ρ len=some (.ck .i64 (.ofNat c)):=hc;simp only[nD,Ml,hu,qv,h1,h2,h3,hk,cond_false,MH,gJ (fB c),gJ cI,b1,b2,b3,b4,b5,Bool.and_self,cond_true];exact h4
    ·cases h
   ·cases h
  ·rw[hk]at h;exact Uy h
 ·exact Uy h
end
noncomputable section
def zv(S:vo):qk:=fun f args H=>
 match Ia S f args H with
 |some ⟨p,v,H'⟩=> @ite _ p (Classical.propDecidable p) (some (v,H')) none
 |none=>none
def La(S:vo)(fr:cN)(H:AH):Option fM:=
 match fr.oZ with
 |some l=>match H.bu l with
  |some (.gb st pe fn tmps nt params assign body d)=>match params with
   |[p]=>match fr.o0.bV p with
    |some a=> @dite _ (yd (.gb st pe fn tmps nt params assign body d) l [a]=some fr) (Classical.propDecidable _)
      (fun _=>match zv S 999999 [.gd l,a] H with|some (v,H')=>some ⟨.fQ v,none,H'⟩|none=>none) (fun _=>none)
    |none=>none
   |_=>none
  |_=>none
 |none=>none
def oz(S:bz):iu:=⟨La (qm S),fun f args H=>bif zr f then none else zv (qm S) f args H⟩
theorem Tr.Wa{α:Type}{t:Tr α}:∀{n:Nat} {a:α},t.bV n=some a->t.iz n a=t:=by
 induction t with
 |fL=>intro n a h;cases h
 |fP v l r H6 H7=>
  intro n a h;rw[Tr.oD]at h;rw[Tr.af6];by_cases h0:n=0
  ·rw[aY h0]at h⊢;rw[h]
  ·rw[aB h0]at h⊢;by_cases h1:n%2=1
   ·rw[aY h1]at h⊢;rw[H6 h]
   ·rw[aB h1]at h⊢;rw[H7 h]
section
variable{P:Program}{ρ:Operand->Option AV}{H:AH}{S:bz}
def CQ(P:Program)(S:bz)(ρ:Operand->Option AV)(H:AH)(op:Op)(v:AV)(H':AH):Prop:=
 ∃aN up,nY P ρ H op=some aN∧mO P (oz S) H none aN=some ⟨.fQ v,up,H'⟩
theorem CQ.val{op:Op}{v:AV}{H':AH}(h:nY P ρ H op=some (.hZ v H')):CQ P S ρ H op v H':=⟨_,none,h,rfl⟩
theorem acg{o:Option fC}{k:AV->AH->Prop}(h:zo o k):∃v H',o=some (.hZ v H')∧k v H':=by
 unfold zo at h;split at h
 ·exact⟨_,_,rfl,h⟩
 ·cases h
theorem aeC{vs cs:LV}{off:Nat}(h:off+cs.length<=vs.length):rK vs off cs=some (fY vs off cs):=by unfold rK;rw[So,gJ h];rfl
theorem amy{t:TypeId}{a x:Operand}{k:AV->AH->Prop}(h:TK P ρ H t a x k):∃v H',CQ P S ρ H (.store t a x) v H'∧k v H':=by
 unfold TK at h;split at h
 ·rename_i id off v ha hx;split at h
  ·rename_i vs e s ho hs;obtain⟨hc,h⟩:=jR h;obtain⟨hl,h⟩:=h;exact⟨_,_,.val (by simp only[nY,Ec,ha,hx,FE,ho,hs,hc,cond_true,aeC hl,Option.map_some,tK]),h⟩
  ·rename_i vs e s ho hs;obtain⟨hc,h⟩:=jR h;obtain⟨hl,h⟩:=h;exact⟨_,_,.val (by simp only[nY,Ec,ha,hx,FE,ho,hs,hc,cond_true,aeC hl,Option.map_some,tK]),h⟩
  ·obtain⟨v,H',h1,h2⟩:=acg h;exact⟨v,H',.val h1,h2⟩
 ·cases h
theorem acf{t:TypeId}{m key x:Operand}{k:AV->AH->Prop}(h:L8 P ρ H t m key x k):∃v H',zc P ρ H t m key x=some (.hZ v H')∧k v H':=by
 unfold L8 at h;split at h
 ·rename_i kt e id ky v hu hm hk hx;split at h
  ·rename_i es c p ho;obtain⟨hp,h⟩:=jR h;obtain⟨bw,c',h1,h2⟩:=h;refine⟨_,_,?_,h2⟩;simp only[zc,hm,hk,hx,EZ,hu,ho,hp,cond_true];unfold jc at h1;split at h1
   ·rename_i i a b hf;obtain⟨hs,h1⟩:=c6 h1;cases h1;simp only[hf,hs,cond_true,tK]
   ·rename_i hf;cases h1;simp only[hf,tK]
   ·cases h1
  ·cases h
 ·cases h
theorem amw{t:TypeId}{m key:Operand}{k:AV->AH->Prop}(h:TH P ρ H t m key k):∃v H',Hm P ρ H t m key=some (.hZ v H')∧k v H':=by
 unfold TH at h;split at h
 ·rename_i kt e id ky hu hm hk;split at h
  ·rename_i es c p ho;obtain⟨hp,h⟩:=jR h;obtain⟨v,h⟩:=RC h;obtain⟨b,bw,c',h1,h2⟩:=h;refine⟨_,_,?_,h2⟩;simp only[Hm,hu,hm,hk,KN,ho,hp,cond_true];unfold abc at h1;split at h1
   ·rename_i i a b' hf;obtain⟨hs,h1⟩:=c6 h1;cases h1;simp only[hf,hs,cond_true]
   ·rename_i hf;split at h1
    ·rename_i z hz;obtain⟨hs,h1⟩:=c6 h1;cases h1;simp only[hf,hz,hs,cond_true]
    ·cases h1
   ·cases h1
  ·cases h
 ·cases h
theorem amv{m s x:Operand}{k:AV->AH->Prop}(h:TI ρ H m s x k):∃v H',Hl ρ H m s x=some (.hZ v H')∧k v H':=by
 unfold TI at h;split at h
 ·rename_i id kd b v hm hs hx;split at h
  ·rename_i es c p ho;obtain⟨hp,h⟩:=jR h;obtain⟨bw,h1,h2⟩:=h;refine⟨_,_,?_,h2⟩;simp only[Hl,hm,hs,hx,KO,ho];unfold aeB at h1;split at h1
   ·rename_i i hi;cases h1;simp only[hi,hp,cond_true]
   ·cases h1
  ·cases h
 ·cases h
theorem amu{ts:Array TypeId}{id:Nat}{key:AV}{k:AV->AH->Prop}(h:TG P H ts id key k):∃v H',Dm P H ts id key=some (.hZ v H')∧k v H':=by
 unfold TG at h;split at h
 ·rename_i kt e es c p hu ho;obtain⟨hp,h⟩:=jR h;obtain⟨bw,h1,h2⟩:=h;unfold Dl at h1;split at h1
  ·rename_i i a b hf;cases h1;exact⟨_,_,by simp only[Dm,hu,ho,hp,cond_true,hf],h2⟩
  ·rename_i hf;cases h1;refine⟨.lz,H,by simp only[Dm,hu,ho,hp,cond_true,hf],?_⟩;have:H.dL id (.bC es c p)=H:=by
    cases H with
    |mk h n=>simp only[AH.dL,AH.mk.injEq,and_true];exact Tr.Wa ho
   rw[this]at h2;exact h2
  ·cases h1
 ·cases h
theorem av4{sz:Nat}{x:AV}{k:Nat->LV->Prop}(h:WK H sz x k):∃n l,ta H sz x=some (n,l)∧k n l:=by
 unfold WK at h;split at h
 ·rename_i cs len s;obtain⟨hs,h⟩:=jR h;exact⟨_,_,by simp only[ta,hs,cond_true],h⟩
 ·rename_i id len s;obtain⟨hs,h⟩:=jR h;split at h
  ·rename_i vs el ho;obtain⟨hl,h⟩:=h;exact⟨_,_,by simp only[ta,hs,cond_true,ho,hl,Nat.beq_refl],h⟩
  ·cases h
 ·rename_i id off len cap s ex;split at h
  ·rename_i vs iB;obtain⟨hs,h⟩:=jR h;obtain⟨hl,h⟩:=h;refine⟨_,_,?_,h⟩;have bF:((vs.drop off).take (len*sz)).length=len*sz:=by simp;omega
   simp only[ta,hs,cond_true,acC iB,oN,bF,Nat.beq_refl,Option.map_some]
  ·split at h
   ·rename_i n l he;exact⟨n,l,he,h⟩
   ·cases h
 ·split at h
  ·rename_i n l he;exact⟨n,l,he,h⟩
  ·cases h
theorem ah9{elem:TypeId}{sz n:Nat}{s:AV}{l:LV}{k:AV->AH->Prop}(hn:1<=n)(h:Gt H elem sz s n l k):∃v H',qU H elem sz s n l=some (v,H')∧k v H':=by
 obtain⟨m,rfl⟩:∃m,n=m+1:=⟨n-1,by omega⟩;unfold Gt at h;split at h
 ·rename_i id len lU;obtain⟨hs,h⟩:=jR h;split at h
  ·rename_i vs el ho;obtain⟨⟨h1,h2,h3,h4⟩,h⟩:=h;exact⟨_,_,by simp only[qU,hs,gJ h2,Bool.and_self,cond_true,RQ,ho,h1,Nat.beq_refl,h3,h4],h⟩
  ·cases h
 ·rename_i id off len cap lU ex;obtain⟨hs,hq⟩:=jR h;clear h;split at hq
  ·rename_i vs el ho;obtain⟨⟨h1,h2,⟨h3,h4⟩,h5⟩,hq⟩:=hq;subst h5;refine⟨_,_,?_,hq⟩;have bF:((vs.drop off).take (len*sz)).length=len*sz:=by simp;omega
   simp only[qU,hs,gJ h2,Bool.and_self,cond_true,Lc,ho,oN,bF,Nat.beq_refl,h3,h4,Bool.false_and,cond_false]
  ·rename_i vs el ho;obtain⟨⟨h1,h2,⟨h3,h4⟩,h5⟩,hq⟩:=hq;subst h5;refine⟨_,_,?_,hq⟩;have bF:((vs.drop off).take (len*sz)).length=len*sz:=by simp;omega
   simp only[qU,hs,gJ h2,Bool.and_self,cond_true,Lc,ho,oN,bF,Nat.beq_refl,h3,h4,Bool.false_and,cond_false]
  ·split at hq
   ·exact⟨_,_,by assumption,hq⟩
   ·cases hq
 ·split at h
  ·exact⟨_,_,by assumption,h⟩
  ·cases h
theorem ah8{elem:TypeId}{sz:Nat}{s:AV}{l:LV}{A:Prop}(h:Gs sz s A):qU H elem sz s 0 l=some (s,H)∧A:=by
 unfold Gs at h;split at h
 ·exact⟨rfl,h⟩
 ·obtain⟨hs,hl,h⟩:=jR h;exact⟨by simp only[qU,hs,Nat.add_zero,gJ hl,Bool.and_self,cond_true],h⟩
 ·obtain⟨hs,hl,h⟩:=jR h;exact⟨by simp only[qU,hs,Nat.add_zero,gJ hl,Bool.and_self,cond_true],h⟩
 ·cases h
theorem aia{elem:TypeId}{sz n:Nat}{s:AV}{Mq:Bool}{l:LV}{k:AV->AH->Prop}(h:Qg H elem sz s Mq n l k):∃v H',qU H elem sz s n l=some (v,H')∧k v H':=by
 unfold Qg at h;have key:(n=0->Gs sz s (k s H))->(1<=n->Gt H elem sz s n l k)->∃v H',qU H elem sz s n l=some (v,H')∧k v H':=by
  intro h0 h1;rcases Nat.eq_zero_or_pos n with hn|hn
  ·subst hn;obtain⟨a,b⟩:=ah8 (H:=H) (elem:=elem) (l:=l) (h0 rfl);exact⟨_,_,a,b⟩
  ·exact ah9 hn (h1 hn)
 cases Mq
 ·exact key h.1 h.2
 ·simp only[cond_true]at h;split at h
  ·exact key (fun _=>h) (fun h=>by omega)
  ·exact key (fun h=>by omega) (fun _=>h)
theorem ams{ts:Array TypeId}{s x:AV}{k:AV->AH->Prop}(h:TE P H ts s x k):∃v H',Dd P H ts s x=some (v,H')∧k v H':=by
 unfold TE at h;unfold Dd;split at h
 ·rename_i elem hu;rw[hu];simp only;split at h
  ·rename_i sz gK hs lJ;rw[hs,lJ];simp only;obtain⟨hc,h⟩:=jR h;simp only[cW]at hc;obtain⟨⟨h1,h2⟩,h3⟩:=hc;rw[h1,h2];obtain⟨n,l,h4,h5⟩:=av4 h;have lL:Ja P H ts elem sz x=some (n,l):=by
    unfold Ja;split at h3
    ·rename_i e TB;rw[TB];exact h4
    ·cases h3
   simp only[Bool.and_self,cond_true,lL];exact aia h5
  ·cases h
 ·cases h
theorem amt{b:Builtin}{args:LV}{ts:Array TypeId}{k:AV->AH->Prop}(h:TF P H b args ts k):∃v H',DY P H b args ts=some (.hZ v H')∧k v H':=by
 unfold TF at h;split at h
 ·obtain⟨v,H',h1,h2⟩:=ams h;exact⟨v,H',by simp only[DY,h1,BP],h2⟩
 ·obtain⟨v,H',h1,h2⟩:=amu h;exact⟨v,H',h1,h2⟩
 ·exact acg h
theorem QD{α:Type 1}{b:Bool}{o:Option α}{a:α}(h:(bif b then o else none)=some a):b=true∧o=some a:=by
 cases b
 ·cases h
 ·exact⟨rfl,h⟩
theorem ac2{f:FuncId}{args:LV}{ps:List (Nat×Nat)}{n:Nat}{sp:Sp}{x:Prop×AV×AH}(h:Ur S f args H=some (ps,n,sp))(hx:ux sp=some x):Ia (qm S) f args H=zw ps n H x:=by
 unfold Ur at h;unfold Ia;split at h
 ·cases h
 ·rename_i qL t' n' hv;obtain⟨hm,h⟩:=QD h;simp only[hm,cond_true];split at h
  ·rename_i args' ha;split at h
   ·rename_i zW hs;cases h;have:qm S f args' ⟨t',n⟩=some x:=by unfold qm;rw[hs];exact hx
    rw[this]
   ·cases h
  ·cases h
theorem ac1{ps:List (Nat×Nat)}{n:Nat}{p p' q:Prop}{x:AV×AH}{v:AV}{H':AH}(h:zw ps n H (p,x)=some ⟨q,v,H'⟩):q=p∧zw ps n H (p',x)=some ⟨p',v,H'⟩:=by
 obtain⟨v0,⟨hs,ns⟩⟩:=x;obtain⟨h0,next⟩:=H;simp only[zw]at h⊢;obtain⟨hb,h⟩:=c6 h;rw[hb];simp only[cond_true];split at h
 ·rename_i v1 t1 zn L5;split at h
  ·rename_i t2 ED;cases h;exact⟨rfl,rfl⟩
  ·cases h
 ·cases h
theorem acN{S:vo}{f:FuncId}{args:LV}{p:Prop}{v:AV}{H':AH}(h:Ia S f args H=some ⟨p,v,H'⟩)(hp:p):zv S f args H=some (v,H'):=by unfold zv;rw[h];exact aY hp
theorem acb{f:FuncId}{args:LV}{k:AV->AH->Prop}(h:EE H S f args k):∃v H',zv (qm S) f args H=some (v,H')∧k v H':=by
 unfold EE at h;split at h
 ·rename_i ps n x hl;unfold L7 at h;split at h
  ·rename_i p v H' ho;exact⟨v,H',acN ((ac2 hl rfl).trans ho) h.1,h.2⟩
  ·cases h
 ·rename_i ps n W g u hl;obtain⟨w,h⟩:=h;unfold L7 at h;split at h
  ·rename_i p v H' ho;have he:∃p0 x0,g w=(p0,x0):=⟨_,_,rfl⟩;obtain⟨p0,x0,he⟩:=he;rw[he]at ho;have hp:p=p0:=(ac1 (p':=p0) ho).1;subst hp;have hw:∃w,(g w).1:=⟨w,by rw[he];exact h.1⟩;have hd:ux (.ex W g u)=some (g hw.choose):=dif_pos hw;have h2:=hw.choose_spec;have h3:=u _ w h2 (by rw[he];exact h.1);have LF:g hw.choose=((g hw.choose).1,x0):=Prod.ext rfl (by rw[h3,he]);have h4:=(ac1 (p':=(g hw.choose).1) ho).2;rw[←LF]at h4;exact⟨v,H',acN ((ac2 hl hd).trans h4) h2,h.2⟩
  ·cases h
 ·cases h
theorem acd{f:FuncId}{args:LV}{k:AV->AH->Prop}(hf:zr f=false)(h:EE H S f args k):∃v H',mO P (oz S) H none (.qi f args)=some ⟨.fQ v,none,H'⟩∧k v H':=by obtain⟨v,H',h1,h2⟩:=acb h;exact⟨v,H',by simp only[mO,KL,oz,hf,cond_false,h1],h2⟩
theorem Ny{st:LoopState}{pe:Option Code}{fn nt l d p:Nat}{tmps:Tr AV}{assign body:Code}{a:AV}{fr:cN}(h:yd (.gb st pe fn tmps nt [p] assign body d) l [a]=some fr):
 fr=⟨fn,tmps.iz p a,nt,[.fG assign,.wL,.fG body],[],.fy,none,some l⟩∧p+1<=nt:=by
 simp only[yd,dv,fk]at h;obtain⟨_,h⟩:=c6 h;simp only[List.zip_cons_cons,List.zip_nil_right,iy,List.foldl_nil,Option.bind_some,mh]at h;cases hb:Nat.ble (p+1) nt with
 |false=>simp[hb]at h
 |true=>simp only[hb,cond_true]at h;cases h;exact⟨rfl,Nat.le_of_ble_eq_true hb⟩
theorem amx{l:Nat}{args:LV}{k:AV->AH->Prop}(h:TJ H S l args k):∃v H',mO P (oz S) H none (.ue l args)=some ⟨.fQ v,none,H'⟩∧k v H':=by
 unfold TJ at h;split at h
 ·rename_i st pe fn tmps nt params assign body d a ho;split at h
  ·rename_i p;split at h
   ·rename_i fr jx;obtain⟨v,H',h1,h2⟩:=acb h;have hg:fr.o0.bV p=some a∧fr.oZ=some l:=by obtain⟨rfl,_⟩:=Ny jx;exact⟨by simp[Tr.kZ],rfl⟩
    refine⟨v,H',?_,h2⟩;simp only[mO,ho,jx,Option.bind_some,oz,La,hg.2,hg.1,h1,dite_true]
   ·cases h
  ·cases h
 ·cases h
theorem ace{o:Option fC}{k:AV->AH->Prop}(h:L6 H S o k):∃aN v H',o=some aN∧mO P (oz S) H none aN=some ⟨.fQ v,none,H'⟩∧k v H':=by
 unfold L6 at h;split at h
 ·rename_i f args;cases hf:zr f with
  |true=>rw[hf]at h;cases h
  |false=>rw[hf]at h;obtain⟨v,H',h1,h2⟩:=acd (P:=P) hf h;exact⟨_,v,H',rfl,h1,h2⟩
 ·obtain⟨v,H',h1,h2⟩:=amx (P:=P) h;exact⟨_,v,H',rfl,h1,h2⟩
 ·cases h
theorem amz{op:Op}{k:AV->AH->Prop}(h:hv P ρ H S op k):∃v H',CQ P S ρ H op v H'∧k v H':=by
 unfold hv at h;split at h
 ·exact amy h
 ·obtain⟨v,H',h1,h2⟩:=acf h;exact⟨v,H',.val h1,h2⟩
 ·obtain⟨v,H',h1,h2⟩:=acf h;exact⟨v,H',.val h1,h2⟩
 ·obtain⟨v,H',h1,h2⟩:=amw h;exact⟨v,H',.val h1,h2⟩
 ·obtain⟨v,H',h1,h2⟩:=amv h;exact⟨v,H',.val h1,h2⟩
 ·rename_i c;unfold aca at h;obtain⟨callee,args,ts⟩:=c;cases callee with
  |value f=>obtain⟨aN,v,H',h1,h2,h3⟩:=ace (P:=P) h;exact⟨v,H',⟨aN,none,h1,h2⟩,h3⟩
  |invoke r name=>obtain⟨aN,v,H',h1,h2,h3⟩:=ace (P:=P) h;exact⟨v,H',⟨aN,none,h1,h2⟩,h3⟩
  |builtin b=>
   simp only at h;split at h
   ·rename_i l hl;obtain⟨v,H',h1,h2⟩:=amt h;exact⟨v,H',.val (by simp only[nY,Lm,hl,h1]),h2⟩
   ·cases h
 ·unfold zo at h;split at h
  ·rename_i v H' ho;exact⟨v,H',.val ho,h⟩
  ·cases h
 ·unfold zo at h;split at h
  ·rename_i v H' ho;exact⟨v,H',.val ho,h⟩
  ·cases h
 ·cases h
end
end
noncomputable section
section
variable{P:Program}{S:bz}{ρ:Operand->Option AV}{H:AH}
theorem abr{ops:Array Oper}{o:Oper}{tmps:Tr AV}{vh no:Tr AV->Prop}(h:Le ops o tmps vh no):(kr ops o tmps.bV=some true∧vh tmps)∨(kr ops o tmps.bV=some false∧no tmps):=by
 unfold Le at h;unfold kr;split at h
 ·rename_i hg;rw[hg];exact .inl ⟨rfl,h⟩
 ·rename_i j oV hg;rw[hg];simp only;split at h
  ·cases h
  ·rename_i d hd;rw[hd];simp only;split at h
   ·rename_i b hb;rw[hb];simp only;cases b
    ·have h:=aiM h rfl;rw[Tr.Wa hb]at h;cases oV
     ·simp only[cond_false]at h;exact .inl ⟨rfl,h⟩
     ·simp only[cond_true]at h;exact .inr ⟨rfl,h⟩
    ·have h:=aiN h rfl;rw[Tr.Wa hb]at h;cases oV
     ·simp only[cond_false]at h;exact .inr ⟨rfl,h⟩
     ·simp only[cond_true]at h;exact .inl ⟨rfl,h⟩
   ·rename_i hb;rw[hb];exact .inr ⟨rfl,h⟩
   ·cases h
theorem yW{nt:Nat}{tmps:Tr AV}{o:Oper}{v:AV}{k:Tr AV->Prop}(h:AL nt tmps o v k):∃t,mh nt tmps o.dst v=some t∧k t:=by
 unfold AL at h;split at h
 ·exact⟨_,by assumption,h⟩
 ·cases h
theorem UZ{op:Op}{k:AV->AH->Prop}(h:Ir P S ρ H op k):
 (nA op=true∧∃v,fK P ρ H op=some v∧k v H)∨(nA op=false∧pW op=true∧∃ob g,nD P ρ op=some (ob,g)∧k (g H.bL) (H.iq ob))∨
   (nA op=false∧pW op=false∧∃v H',CQ P S ρ H op v H'∧k v H'):=by
 unfold Ir at h;cases h1:nA op
 ·rw[h1]at h;simp only[cond_false]at h;cases h2:pW op
  ·rw[h2]at h;exact .inr (.inr ⟨rfl,rfl,amz h⟩)
  ·rw[h2]at h;exact .inr (.inl ⟨rfl,rfl,anG h⟩)
 ·rw[h1]at h;exact .inl ⟨rfl,apj h⟩
theorem auY(v:AV):IG v v=true:=by unfold IG;have: @decide (v=v) (Classical.propDecidable _)=true:= @decide_eq_true _ (Classical.propDecidable _) rfl;rw[this];cases mu v v<;>rfl
theorem Ws{ops:Array Oper}{ms:LN}{base cur:Tr AV}:∀{l:LN} {k:Prop},IQ P ops ms base cur H l k->Cj P ops ms base cur H l=true∧k
 |[],k,h=>⟨rfl,h⟩
 |j::l,k,h=>by
  simp only[IQ]at h;simp only[Cj];split at h
  ·cases h
  ·rename_i o ho;rw[ho];simp only;split at h
   ·cases h
   ·rename_i hw;rw[hw];obtain⟨h1,h2⟩:=Ws h;exact⟨by simp[h1],h2⟩
   ·rename_i hw;rw[hw];simp only;split at h
    ·cases h
    ·rename_i d hd;split at h
     ·cases h
     ·rename_i v hv;obtain⟨hr,h⟩:=h;obtain⟨h1,h2⟩:=Ws h;refine⟨?_,h2⟩;rw[hr,hd];simp only[hv,Option.any_some,auY,h1,Bool.and_self]
theorem abH{op:Op}{v:AV}{H':AH}(h:CQ P S ρ H op v H'):∃aN up,nY P ρ H op=some aN∧mO P (oz S) H none aN=some ⟨.fQ v,up,H'⟩∧(∀d,aN≠.wM d)∧(∀v,aN≠.wN v)∧aN≠.wP:=by
 obtain⟨aN,up,h1,h2⟩:=h;refine⟨aN,up,h1,h2,?_,?_,?_⟩
 ·rintro d rfl;cases h2
 ·rintro v rfl;cases h2
 ·rintro rfl;cases h2
theorem U7{ops:Array Oper}{ms:LN}{base:Tr AV}{nt:Nat}:∀{l done:LN} {tmps:Tr AV} {H:AH} {k:Tr AV->AH->Prop},BQ P S ops ms base nt l done tmps H k->
 ∃t H',rJ P (oz S) ops ms base nt l done tmps H=.az t H'∧k t H'
 |[],done,tmps,H,k,h=>⟨tmps,H,rfl,h⟩
 |i::rest,done,tmps,H,k,h=>by
  simp only[BQ]at h;simp only[rJ];split at h
  ·cases h
  ·rename_i o ho;rw[ho];simp only;rcases abr h with⟨hw,h⟩|⟨hw,h⟩
   ·have go:∀{v:AV} {H':AH} {t:Tr AV},oM P (oz S) ops ms base done i nt tmps H o=.go t H'->BQ P S ops ms base nt rest (i::done) t H' k->
     ∃t H',(match oM P (oz S) ops ms base done i nt tmps H o with|.go t H'=>rJ P (oz S) ops ms base nt rest (i::done) t H'|.iw c H'=>.iw c H'|.dY w=>.dY w)=.az t H'∧k t H':=by
     intro v H' t h1 h2;rw[h1];exact U7 h2
    have xz:oJ o.op=(nA o.op||pW o.op):=rfl;cases hl:oJ o.op
    ·rw[hl]at h;simp only[cond_false]at h;rw[xz,Bool.or_eq_false_iff]at hl;rcases UZ h with⟨h1,_⟩|⟨_,h1,_⟩|⟨h1,h2,v,H',h3,h4⟩
     ·rw[hl.1]at h1;cases h1
     ·rw[hl.2]at h1;cases h1
     ·obtain⟨t,h5,h6⟩:=yW h4;obtain⟨h7,h8⟩:=Ws h6;obtain⟨aN,up,h9,mQ,_⟩:=abH h3;refine go (v:=v) ?_ h8;simp only[oM,hw,cond_true,h1,h2,cond_false,h9,U6,mQ,Nf,h5,h7]
    ·rw[hl]at h;simp only[cond_true]at h;rcases UZ h with⟨h1,v,h2,h3⟩|⟨h1,h2,ob,g,h3,h4⟩|⟨h1,h2,_⟩
     ·obtain⟨t,h5,h6⟩:=yW h3;refine go (v:=v) ?_ h6;simp only[oM,hw,cond_true,h1,h2,It,qJ,h5]
     ·obtain⟨t,h5,h6⟩:=yW h4;refine go (v:=g H.bL) ?_ h6;cases H with
      |mk hh n=>simp only[oM,hw,cond_true,h1,h2,cond_false,h3,zK,qJ];have RY:mh nt tmps o.dst (g n)=some t:=h5;rw[RY]
     ·rw[xz,h1,h2]at hl;cases hl
   ·obtain⟨t,h5,h6⟩:=yW h;simp only[oM,hw,cond_false,qJ,h5];exact U7 h6
end
def jH(ds:List ir)(rd:Option Nat)(fn nt:Nat)(tmps:Tr AV)(todo:List b_):cN:=⟨fn,tmps,nt,todo,ds,.fy,none,rd⟩
abbrev pf:Nat->Nat->Tr AV->List b_->cN:=jH [] none
def uy(m0:Nat):List ir->Prop
 |[]=>True
 |.ng d::l=>d<m0∧uy m0 l
 |_=>False
def Nq(m0:Nat):Option Nat->Prop
 |none=>True
 |some l=>l<m0
theorem AK(m0:Nat):uy m0 []:=trivial
theorem apg(m0:Nat):Nq m0 none:=trivial
theorem JH{φ ψ:bf}{m0:Nat}(h:kR m0 φ ψ):∀{ds:List ir} {l:List Deferred},uy m0 ds->mK φ ds l->mK ψ ds l
 |[],_,_,hd=>hd
 |.ng d::ds,_,hl,hd=>by obtain⟨x,l',rfl,h1,h2⟩:=hd;refine⟨x,l',rfl,?_,JH h hl.2 h2⟩;obtain⟨e,h3,h4⟩:=h1;exact⟨e,(h d hl.1).trans h3,h4⟩
 |.wK .. ::ds,_,hl,_=>hl.elim
theorem ahO{φ ψ:bf}{m0:Nat}(h:kR m0 φ ψ):∀{rd r:Option Nat},Nq m0 rd->RR φ rd r->RR ψ rd r
 |none,_,_,hr=>hr
 |some l,_,hl,hr=>by obtain⟨e,h1,h2⟩:=hr;exact⟨e,(h l hl).trans h1,h2⟩
section
variable{P:Program}{S:bz}
def Pw(rd:Option Nat)(P:Program)(m0:Nat)(bs:dX)(φ:bf)(w:World)(cy:Frame)(cs:List Frame)(r:fM):Prop:=
 ∃aW w',WR aW bs r.H w'∧kR m0 φ aW∧c8 bs w w'∧vq P aW w w' cy cs r none rd
abbrev Yq:=Pw none
def dH(P:Program)(m0:Nat)(fr:cN)(H:AH)(Q:fM->Prop):Prop:=
 ∃r,Q r∧∀(φ:bf) (w:World) (bs:dX) (cy:Frame) (cs:List Frame),m0<=H.bL->WR φ bs H w->gA bs w->sV φ fr cy->Pw fr.oZ P m0 bs φ w cy cs r
theorem cQ.BG{m:Nat}{φ ψ:bf}{H H':AH}(h:cQ m φ H ψ H'){id:Nat}(hi:id<m):ψ id=φ id:=by
 cases hp:φ id with
 |none=>exact(h.2.2 id hi hp).1
 |some e=>exact h.1 id e hp
theorem cQ.ag{m:Nat}{φ ψ:bf}{H H':AH}(h:cQ m φ H ψ H'):kR m φ ψ:=⟨fun _ hi=>h.BG hi,h.1.ro⟩
theorem vq.after{φ:bf}{w w1 w':World}{cy AG:Frame}{cs:List Frame}{r:fM}{rd:Option Nat}(hs:Steps P (lone cy cs w) (lone AG cs w1))(jW:AG.fn=cy.fn)(h:vq P φ w1 w' AG cs r none rd):vq P φ w w' cy cs r none rd:=by
 cases rd with
 |none=>obtain⟨c,e,g1,g2,g3,g4⟩:=h;exact⟨c,e,g1,hs.trans g2,g3,g4.trans jW⟩
 |some l=>
  intro c cs' hc;have:=h c cs' hc;obtain⟨e,up,H⟩:=r;cases e with
  |fQ v=>obtain⟨v',g1,g2⟩:=this;exact⟨v',g1,hs.trans g2⟩
  |iw ch=>obtain⟨v',g1,g2⟩:=this;exact⟨v',g1,hs.trans g2⟩
theorem dH.j6{m0:Nat}{fr fr':cN}{H H':AH}{Q:fM->Prop}(dI:P.follows .mixedOrders=true){call:iu}(hc:ou P call)(hu:fr.up=none)(h:jo P call fr H=.go fr' H')(ht:dH P m0 fr' H' Q):dH P m0 fr H Q:=by obtain⟨r,hq,hr⟩:=ht;refine⟨r,hq,fun φ w bs cy cs hm hw hb hf=>?_⟩;have hs:=Wv dI hc fr H φ w m0 bs cy cs hw hb hm hf (by rw[hu];trivial);rw[h]at hs;obtain⟨aW,w',iJ,oA,g1,g2,g3,g4,g5,g6,g7,g8,g9,RN⟩:=hs;rw[hu]at g4;have gY:oA=cs:=g4;subst gY;obtain⟨mi,w1,k1,k2,k3,k4⟩:=hr aW w' bs iJ oA (Nat.le_trans hm g8.2.1) g7 (hb.CB g9.1) g2;rw[g5]at k4;exact⟨mi,w1,k1,g8.ag.ub k2,g9.ud k3,vq.after g1 RN k4⟩
theorem dH.done{m0:Nat}{fr:cN}{H:AH}{r:fM}{Q:fM->Prop}(dI:P.follows .mixedOrders=true){call:iu}(hc:ou P call)(hu:fr.up=none)(h:jo P call fr H=.wQ r)(hq:Q r):dH P m0 fr H Q:=by refine⟨r,hq,fun φ w bs cy cs hm hw hb hf=>?_⟩;have hs:=Wv dI hc fr H φ w m0 bs cy cs hw hb hm hf (by rw[hu];trivial);rw[h]at hs;obtain⟨aW,w',g1,g2,g3,g4⟩:=hs;rw[hu]at g4;exact⟨aW,w',g1,g2.ag,g3,g4⟩
theorem dH.VG{m0:Nat}{fr:cN}{H:AH}{Q Q':fM->Prop}(h:dH P m0 fr H Q)
 (hw:∀r,Q r->∃r',Q' r'∧∀(φ aW:bf) (w w':World) (bs:dX) (cy:Frame) (cs:List Frame),WR aW bs r.H w'->vq P aW w w' cy cs r none fr.oZ->∃ψ,WR ψ bs r'.H w'∧kR m0 aW ψ∧vq P ψ w w' cy cs r' none fr.oZ):dH P m0 fr H Q':=by
 obtain⟨r,hq,hr⟩:=h;obtain⟨r',HS,h2⟩:=hw r hq;refine⟨r',HS,fun φ w bs cy cs hm ry hb hf=>?_⟩;obtain⟨aW,w',g1,g2,g3,g4⟩:=hr φ w bs cy cs hm ry hb hf;obtain⟨ψ,k1,k2,k3⟩:=h2 φ aW w w' bs cy cs g1 g4;exact⟨ψ,w',k1,g2.ub k2,g3,k3⟩
theorem Vc{φ ψ:bf}:∀{l:List b_} {xs:List Item},lQ l=true->jC φ l xs->jC ψ l xs
 |[],_,_,h=>h
 |x::l,xs,hp,h=>by
  simp only[lQ,cW]at hp;obtain⟨y,ys,rfl,h1,h2⟩:=h;refine⟨y,ys,rfl,?_,Vc hp.2 h2⟩;cases x<;>first
   |exact h1
   |(simp[Ix]at hp)
theorem dH.WX{ds:List ir}{rd:Option Nat}{m0 fn nt:Nat}{tmps t:Tr AV}{todo:List b_}{H H2:AH}{Q:fM->Prop}{qa l:LN}{ps:List (Nat×Nat)}(hp:lQ todo=true)(hv:oT m0 qa H=some ⟨ps,H2⟩)(ht:tV (jA ps) tmps l=some t)
 (h:dH P m0 (jH ds rd fn nt t todo) H2 Q) (k7:uy m0 ds) (qz:Nq m0 rd):dH P m0 (jH ds rd fn nt tmps todo) H Q:=by
 obtain⟨r,hq,hr⟩:=h;obtain⟨tt,n,rfl,bn,kG,jG⟩:=Jg hv;refine⟨r,hq,fun φ w bs cy cs hm hw hb hf=>?_⟩;have EA:kR m0 φ (mI ps φ):=by refine⟨fun id hi=>?_,fun _ _ h=>h⟩;simp[mI,jG id hi]
 have hn:m0<=n:=by
  rcases Nat.eq_zero_or_pos m0 with h0|h0
  ·omega
  ·have:=bn.lt _ (M7 (jG (m0-1) (by omega)));simp only at this;omega
 obtain⟨aW,w',g1,g2,g3,g4⟩:=hr (mI ps φ) w bs cy cs hn (hw.rU bn kG) hb (by
  obtain⟨b,a,EL,rfl,jx,hi⟩:=hf;refine⟨b,a,EL,rfl,⟨jx.fn,⟨jx.tr.1,?_⟩,JH EA k7 jx.dr,ahO EA qz jx.jL,jx.lA,fun h=>by cases h⟩,Vc hp hi⟩
  ·intro s a' Lt;obtain⟨a0,h1,h2⟩:=WY ht Lt;obtain⟨v,h3,h4⟩:=jx.tr.2 s a0 h1;exact⟨v,h3,rM (BU bn φ) h2 h4⟩)
 exact⟨aW,w',g1,EA.ub g2,g3,g4⟩
theorem dH.rU{m0 fn nt:Nat}{tmps t:Tr AV}{todo:List b_}{H H2:AH}{Q:fM->Prop}{qa l:LN}{ps:List (Nat×Nat)}(hp:lQ todo=true)(hv:oT m0 qa H=some ⟨ps,H2⟩)(ht:tV (jA ps) tmps l=some t)
 (h:dH P m0 (pf fn nt t todo) H2 Q):dH P m0 (pf fn nt tmps todo) H Q:=
 dH.WX hp hv ht h (AK _) (apg _)
def B_(Q:AV->AH->Prop)(r:fM):Prop:=∃v,r.e=.fQ v∧r.up=none∧Q v r.H
def JO(P:Program)(S:bz)(ds:List ir)(rd:Option Nat)(fn nt m0:Nat)(Q:fM->Prop)(ret:Bool->Tr AV->AH->Prop):Prop:=
 ∀(b:Bool) (tmps:Tr AV) (todo:List b_) (H:AH),ret b tmps H->jo P (oz S) (jH ds rd fn nt tmps todo) H=qF (jH ds rd fn nt tmps todo) H (bif b then some .ret else none)->dH P m0 (jH ds rd fn nt tmps todo) H Q
theorem acW{ds:List ir}{fn nt:Nat}{tmps:Tr AV}{todo:List b_}{H:AH}(b:Bool):qF (jH ds none fn nt tmps todo) H (bif b then some .ret else none)=.go ⟨fn,tmps,nt,todo,ds,.o4,none,none⟩ H:=by cases b<;>rfl
theorem afb{fn nt m0:Nat}{Q:AV->AH->Prop}{H:AH}{fr:cN}{l:LV}(qz:fr.oZ=none)(h:match oT m0 (xM (yr l)) H with
 |some ⟨ps,H2⟩=>match fi (jA ps) (yr l)with
  |some v=>Q v H2
  |none=>False
 |none=>False) {H0:AH} (ht:dH P m0 fr H0 (fun r=>r=⟨.fQ (yr l),none,H⟩)):dH P m0 fr H0 (B_ Q):=by
 split at h
 ·rename_i ps H2 hv;split at h
  ·rename_i v hr;refine dH.VG ht ?_;rintro r rfl;refine⟨⟨.fQ v,none,H2⟩,⟨v,rfl,rfl,h⟩,?_⟩;intro φ aW w w' bs cy cs hw he;obtain⟨tt,n,rfl,bn,kG,jG⟩:=Jg hv;refine⟨mI ps aW,hw.rU bn kG,⟨fun id hi=>by simp[mI,jG id hi],fun _ _ h=>h⟩,?_⟩;rw[qz]at he⊢;obtain⟨iJ,e',⟨v',rfl,g1⟩,g2⟩:=he;exact⟨iJ,_,⟨v',rfl,rM (BU bn aW) hr g1⟩,g2⟩
  ·cases h
 ·cases h
theorem Zo(dI:P.follows .mixedOrders=true)(hc:ou P (oz S)){fn nt m0:Nat}{Q:AV->AH->Prop}:JO P S [] none fn nt m0 (B_ Q) (fun _=>De P fn m0 Q):=by
 intro b tmps todo H h hs;rw[acW]at hs;unfold De at h;split at h
 ·rename_i f hf;split at h
  ·rename_i l hl;refine afb (fn:=fn) (nt:=nt) rfl h ?_;refine dH.j6 dI hc rfl hs (dH.done dI hc rfl ?_ rfl);simp only[jo,zX,Na,hf,hl]
  ·cases h
 ·cases h
theorem anp{t:TypeId}{id off d:Nat}{H:AH}{x:aZ}(hd:id≠d):rB P (H.dL d x) t id off=rB P H t id off:=by
 have:(H.dL d x).bu id=H.bu id:=by show(H.h.iz d x).bV id=H.h.bV id;rw[Tr.kZ,aB hd]
 have:(H.dL d x).nP id=H.nP id:=by unfold AH.nP;rw[this]
 unfold rB;rw[this]
theorem ano{t:TypeId}{off d:Nat}{H:AH}:rB P (H.dL d (.b9 [])) t d off=none:=by
 have:(H.dL d (.b9 [])).bu d=some (.b9 []):=by show(H.h.iz d _).bV d=_;rw[Tr.kZ,aY rfl]
 have:(H.dL d (.b9 [])).nP d=none:=by unfold AH.nP;rw[this]
 unfold rB;rw[this]
theorem VH{d:Nat}{H:AH}{tmps:Tr AV}{x:aZ}:∀{rs:List ResultVar} {l:LV},qM P (H.dL d (.b9 [])) tmps rs=some l->qM P (H.dL d x) tmps rs=some l
 |[],l,h=>h
 |.tmp t::rs,l,h=>by
  simp only[qM]at h⊢;cases ht:tmps.bV t with
  |none=>rw[ht]at h;cases h
  |some v=>rw[ht]at h;simp only at h⊢;obtain⟨l',h1,rfl⟩:=Option.map_eq_some_iff.1 h;rw[VH h1];rfl
 |.cell a t::rs,l,h=>by
  simp only[qM]at h⊢;cases ht:tmps.bV a with
  |none=>rw[ht]at h;cases h
  |some v=>
   rw[ht]at h;cases v<;>simp only at h⊢<;>try (cases h;done)
   rename_i id off;by_cases hd:id=d
   ·subst hd;rw[ano]at h;cases h
   ·rw[anp hd]at h⊢;cases hv:rB P H t id off with
    |none=>rw[hv]at h;cases h
    |some v=>rw[hv]at h;simp only at h⊢;obtain⟨l',h1,rfl⟩:=Option.map_eq_some_iff.1 h;rw[VH h1];rfl
theorem WR.K3{φ:bf}{bs:dX}{H:AH}{w:World}{d:Nat}{x:aZ}(hd:d<H.bL)(hw:WR φ bs (H.dL d x) w):WR φ bs (H.dL d (.b9 [])) w:=by
 have hg:∀{y:aZ} {id:Nat},(H.dL d y).bu id=if id=d then some y else H.bu id:=fun{y id}=>Tr.kZ H.h d id y
 refine⟨?_,?_,hw.lt,?_,hw.sE rfl (fun _ _ _=>rfl) fun id ob e h1 l1 h2=>.inl ?_⟩
 ·intro id ob e h1 h2;rw[hg]at h1;by_cases hi:id=d
  ·rw[aY hi]at h1;cases h1;have:=(hw.lt id e h2).1;exact⟨w.heap[e.b],Array.getElem?_eq_getElem _,trivial⟩
  ·rw[aB hi]at h1;exact hw.ey id ob e (by rw[hg,aB hi];exact h1) h2
 ·intro id iC ob bW e e' h1 l1 h2 h3 l2 h4 hb;rw[hg]at h1 h3;by_cases hi:id=d
  ·rw[aY hi]at h1;cases h1;cases l1
  ·by_cases hj:iC=d
   ·rw[aY hj]at h3;cases h3;cases l2
   ·rw[aB hi]at h1;rw[aB hj]at h3;exact hw.kx id iC ob bW e e' (by rw[hg,aB hi];exact h1) l1 h2 (by rw[hg,aB hj];exact h3) l2 h4 hb
 ·intro id ob h1;by_cases hi:id=d
  ·rw[hi];exact hd
  ·rw[hg,aB hi]at h1;exact hw.nx id ob (by rw[hg,aB hi];exact h1)
 ·rw[hg]at h1;by_cases hi:id=d
  ·rw[aY hi]at h1;cases h1;cases l1
  ·rw[aB hi]at h1;exact⟨id,ob,e,by rw[hg,aB hi];exact h1,l1,h2,rfl⟩
theorem Zn(dI:P.follows .mixedOrders=true)(hc:ou P (oz S)){fn nt m0 d:Nat}{Q:AV->AH->Prop}(hd:d<m0):JO P S [.ng d] none fn nt m0 (B_ Q) (fun _=>Ka P fn m0 Q d):=by
 intro b tmps todo H h hs;rw[acW]at hs;simp only[Ka]at h;split at h
 ·rename_i ho;unfold De at h;split at h
  ·rename_i f hf;split at h
   ·rename_i l hl;refine afb (fn:=fn) (nt:=nt) rfl h ?_;refine dH.j6 dI hc rfl hs ?_;refine dH.j6 (fr':=⟨fn,tmps,nt,todo,[],.o4,none,none⟩) (H':=H.dL d (.ot none)) dI hc rfl ?_ ?_
    ·simp only[jo,zX,ho]
    ·refine dH.VG (dH.done (Q:=fun r=>r=⟨.fQ (yr l),none,H.dL d (.ot none)⟩) dI hc rfl ?_ rfl) ?_
     ·simp only[jo,zX,Na,hf,VH hl]
     ·rintro r rfl;refine⟨_,rfl,fun φ aW w w' bs cy cs hw he=>⟨aW,?_,kR.refl _ _,he⟩⟩;refine WR.K3 ?_ hw;by_cases hn:d<H.bL
      ·exact hn
      ·exact absurd (hw.nx d (.ot none) (by show(H.h.iz d _).bV d=_;rw[Tr.kZ,aY rfl])) hn
   ·cases h
  ·cases h
 ·cases h
theorem aiz(dI:P.follows .mixedOrders=true)(hc:ou P (oz S)){fn nt m0 l:Nat}{Q:AV->AH->Prop}:JO P S [] (some l) fn nt m0 (B_ Q) (Qs m0 Q l):=by
 intro b tmps todo H h hs;cases b with
 |true=>cases h
 |false=>
  simp only[Qs,cond_false]at h;split at h
  ·rename_i st p lf tm ln ps a bd d ho;split at h
   ·rename_i qL H2 hv;have xI:jo P (oz S) (jH [] (some l) fn nt tmps todo) H=.wQ ⟨.fQ (.ai true),none,H.dL l (.gb .ready none lf tm ln ps a bd d)⟩:=by rw[hs];simp only[jH,qF,Uo,cond_false,ho,Option.isNone_none,cond_true]
    refine dH.VG (dH.done (Q:=fun r=>r=⟨.fQ (.ai true),none,H.dL l (.gb .ready none lf tm ln ps a bd d)⟩) dI hc rfl xI rfl) ?_;rintro r rfl;refine⟨⟨.fQ (.ai true),none,H2⟩,⟨_,rfl,rfl,h⟩,?_⟩;intro φ aW w w' bs cy cs hw he;obtain⟨tt,n,rfl,bn,kG,jG⟩:=Jg hv;refine⟨mI qL aW,hw.rU bn kG,⟨fun id hi=>by simp[mI,jG id hi],fun _ _ h=>h⟩,?_⟩;intro c cs' mB;obtain⟨v',g1,g2⟩:=he c cs' mB;exact⟨v',g1,g2⟩
   ·cases h
  ·cases h
theorem FB(dI:P.follows .mixedOrders=true)(hc:ou P (oz S)){ds:List ir}{rd:Option Nat}{fn nt m0:Nat}{aU:Nat->LN}{L:Tr AV->AH->List b_->Prop}{ret:Bool->Tr AV->AH->Prop}{Q:fM->Prop}(k7:uy m0 ds)(qz:Nq m0 rd)
 (Tq:JO P S ds rd fn nt m0 Q ret)
 (hL:∀t H todo,L t H todo->dH P m0 (jH ds rd fn nt t todo) H Q):∀(n:Nat) {tmps:Tr AV} {todo:List b_} {H:AH},lu P S nt m0 aU L ret rd n tmps todo H->dH P m0 (jH ds rd fn nt tmps todo) H Q
 |0,_,_,_,h=>by cases h
 |n+1,tmps,todo,H,h=>by
  have ih:=fun{tmps:Tr AV} {todo:List b_} {H:AH}=>FB dI hc (aU:=aU) k7 qz Tq hL n (tmps:=tmps) (todo:=todo) (H:=H)
  have loop:∀{body:Code} {k:List b_},J_ m0 aU L body k tmps H->dH P m0 (jH ds rd fn nt tmps (.fG body::.o3 body::k)) H Q:=by
   intro body k h;unfold J_ at h;split at h
   ·cases h
   ·split at h
    ·rename_i i _ ps H2 hv;split at h
     ·rename_i t ht;obtain⟨hp,h⟩:=jR h;exact dH.WX (by simp[lQ,Ix,hp]) hv ht (hL _ _ _ h) k7 qz
     ·cases h
    ·cases h
  simp only[lu]at h;split at h
  ·exact Tq false tmps [] H h rfl
  ·exact dH.j6 dI hc rfl rfl (ih h)
  ·exact dH.j6 dI hc rfl rfl (ih h)
  ·rename_i k;split at h
   ·rename_i l;split at h
    ·rename_i p lf lt ln ps a b d ho;refine dH.j6 dI hc rfl ?_ (ih h);simp only[jH,jo,rQ,sJ,IS,ho]
    ·cases h
   ·cases h
  ·rename_i body k;cases hb:Oj aU body
   ·rw[hb]at h;exact dH.j6 dI hc rfl rfl (loop h)
   ·rw[hb]at h;exact dH.j6 dI hc rfl rfl (ih h)
  ·rename_i ops i l k;split at h
   ·exact dH.j6 dI hc rfl rfl (ih h)
   ·rename_i o rest;rcases abr h with⟨hw,h⟩|⟨hw,h⟩
    ·rcases UZ h with⟨h1,v,h2,h3⟩|⟨h1,h2,ob,g,h3,h4⟩|⟨h1,h2,v,H',h3,h4⟩
     ·obtain⟨t,h5,h6⟩:=yW h3;refine dH.j6 dI hc rfl ?_ (ih h6);simp only[jH,jo,rQ,sJ,ym,hw,cond_true,h1,h2,Fz,qI,h5]
     ·obtain⟨t,h5,h6⟩:=yW h4;refine dH.j6 dI hc rfl ?_ (ih h6);cases H with
      |mk hh nn=>have RY:mh nt tmps o.dst (g nn)=some t:=h5;simp only[jH,jo,rQ,sJ,ym,hw,cond_true,h1,h2,cond_false,h3,Cg,qI,RY]
     ·obtain⟨t,h5,h6⟩:=yW h4;obtain⟨aN,up,h7,h8,n1,n2,n3⟩:=abH h3;refine dH.j6 dI hc rfl ?_ (ih h6);simp only[jH,jo,rQ,sJ,ym,hw,cond_true,h1,h2,cond_false,h7];cases aN with
      |wM d=>exact absurd rfl (n1 d)
      |wN v=>exact absurd rfl (n2 v)
      |wP=>exact absurd rfl n3
      |hZ v0 H0=>simp only[wA,h8,FA,qI,h5]
      |qi f as=>simp only[wA,h8,FA,qI,h5]
      |ue f as=>simp only[wA,h8,FA,qI,h5]
    ·obtain⟨t,h5,h6⟩:=yW h;refine dH.j6 dI hc rfl ?_ (ih h6);simp only[jH,jo,rQ,sJ,ym,hw,cond_false,qI,h5]
  ·rename_i c k;split at h
   ·exact Tq true tmps _ H h rfl
   ·exact dH.j6 dI hc rfl rfl (ih h)
   ·exact dH.j6 dI hc rfl rfl (ih h)
   ·exact dH.j6 dI hc rfl rfl (ih h)
   ·rename_i c a b;split at h
    ·rename_i t ht;cases t
     ·refine dH.j6 dI hc rfl ?_ (ih h);simp only[jH,jo,rQ,sJ,u_,IT,ht,to,cond_false]
     ·refine dH.j6 dI hc rfl ?_ (ih h);simp only[jH,jo,rQ,sJ,u_,IT,ht,to,cond_true]
    ·cases h
   ·exact dH.j6 dI hc rfl rfl (ih h)
   ·exact dH.j6 dI hc rfl rfl (ih h)
   ·rename_i body;cases hb:Oj aU body
    ·rw[hb]at h;exact dH.j6 dI hc rfl rfl (loop h)
    ·rw[hb]at h;exact dH.j6 dI hc rfl rfl (ih h)
   ·split at h
    ·rename_i k' hk;refine dH.j6 dI hc rfl ?_ (ih h);simp only[jH,jo,rQ,sJ,u_,hk,IV,to]
    ·cases h
   ·rename_i id ops pK;cases pK
    ·exact dH.j6 dI hc rfl rfl (ih h)
    ·simp only[cond_true]at h;split at h
     ·rename_i pl kH;obtain⟨t,H',h1,h2⟩:=U7 h;refine dH.j6 dI hc rfl ?_ (ih h2);simp only[jH,jo,rQ,sJ,u_,FC,cond_true,kH,h1,Nd]
     ·cases h
   ·rename_i f ps a b;unfold Zm at h;split at h
    ·rename_i qL H2 hv;split at h
     ·rename_i t ht;obtain⟨hp,h⟩:=jR h;exact dH.WX (by simp[lQ,Ix,hp]) hv ht (hL _ _ _ h) k7 qz
     ·cases h
    ·cases h
   ·cases h
  ·cases h
end
end
noncomputable section
section
variable{φ:bf}
mutual
theorem Lw:∀{a:AV} {v:Value},VR φ a v->∀id∈jF a,∃e,φ id=some e
 |.ai _,_,_,_,h=>by simp[jF]at h
 |.ck _ _,_,_,_,h=>by simp[jF]at h
 |.aa _,_,_,_,h=>by simp[jF]at h
 |.ab i _,_,hv,id,h=>by simp[jF]at h;subst h;obtain⟨e,h1,_⟩:=hv;exact⟨e,h1⟩
 |.om,_,_,_,h=>by simp[jF]at h
 |.bE i _ _ _ _ _,_,hv,id,h=>by simp[jF]at h;subst h;obtain⟨e,x,c,h1,_⟩:=hv;exact⟨e,h1⟩
 |.bB,_,_,_,h=>by simp[jF]at h
 |.aH i,_,hv,id,h=>by simp[jF]at h;subst h;obtain⟨e,h1,_⟩:=hv;exact⟨e,h1⟩
 |.mF,_,_,_,h=>by simp[jF]at h
 |.bR _ f c,_,hv,id,h=>by
  simp only[jF,List.mem_append]at h;obtain⟨f',c',_,_,h1,h2⟩:=hv;rcases h with h|h
  ·exact A9 h1 id h
  ·exact A9 h2 id h
 |.gd i,_,hv,id,h=>by simp[jF]at h;subst h;obtain⟨e,h1,_⟩:=hv;exact⟨e,h1⟩
 |.pC,_,_,_,h=>by simp[jF]at h
 |.eK _ a,_,hv,id,h=>by simp only[jF]at h;obtain⟨v',_,h1⟩:=hv;exact Lw h1 id h
 |.ly,_,_,_,h=>by simp[jF]at h
 |.au cs,_,hv,id,h=>by simp only[jF]at h;obtain⟨v',_,h1⟩:=hv;exact A9 h1 id h
 |.aJ cs,_,hv,id,h=>by simp only[jF]at h;obtain⟨v',_,h1⟩:=hv;exact A9 h1 id h
 |.tc _,_,_,_,h=>by simp[jF]at h
 |.zJ _,_,_,_,h=>by simp[jF]at h
 |.tH ..,_,_,_,h=>by simp[jF]at h
 |.su ..,_,_,_,h=>by simp[jF]at h
 |.ax ..,_,_,_,h=>by simp[jF]at h
 |.oU _,_,_,_,h=>by simp[jF]at h
 |.ad ..,_,_,_,h=>by simp[jF]at h
theorem A9:∀{as:LV} {vs:List Value},bc φ as vs->∀id∈ri as,∃e,φ id=some e
 |[],_,_,_,h=>by simp[ri]at h
 |a::as,_,hv,id,h=>by
  simp only[ri,List.mem_append]at h;obtain⟨v,eV,rfl,h1,h2⟩:=hv;rcases h with h|h
  ·exact Lw h1 id h
  ·exact A9 h2 id h
end
theorem Sn:∀{t:Tr AV} {x:Nat},x∈Hr t->∃i a,t.bV i=some a∧x∈jF a
 |.fL,x,h=>by cases h
 |.fP v l r,x,h=>by
  simp only[Hr,List.mem_append]at h;rcases h with(h|h)|h
  ·cases v with
   |none=>cases h
   |some a=>exact⟨0,a,by rw[Tr.oD,aY rfl],h⟩
  ·obtain⟨i,a,h1,h2⟩:=Sn h;refine⟨2*i+1,a,?_,h2⟩;rw[Tr.oD,aB (by omega),aY (by omega)];have:(2*i+1)/ 2=i:=by omega
   rw[this];exact h1
  ·obtain⟨i,a,h1,h2⟩:=Sn h;refine⟨2*i+2,a,?_,h2⟩;rw[Tr.oD,aB (by omega),aB (by omega)];have:(2*i+2)/ 2-1=i:=by omega
   rw[this];exact h1
theorem UO{bs:dX}{H:AH}{w:World}(hw:WR φ bs H w):∀{ps:List (Nat×Nat)} {hd:LN},Ff H hd ps=true->(∀id∈hd,∃e,φ id=some e)->
 ∀p∈ps,∃ob,H.bu p.1=some ob∧ob.aU=true∧((∃e,φ p.1=some e)∨∃vs el,ob=.aF vs el)
 |[],_,_,_,p,hp=>by cases hp
 |(o,n)::l,hd,h,hh,p,hp=>by
  simp only[Ff]at h;split at h
  ·rename_i vs el ho;rcases List.mem_cons.1 hp with rfl|hp
   ·exact⟨_,ho,rfl,.inr ⟨vs,el,rfl⟩⟩
   ·exact UO hw h hh p hp
  ·cases h
  ·cases h
  ·rename_i n1 n2 n3;cases fv:H.bu o with
   |none=>exact absurd fv n3
   |some ob=>
    have hl:ob.aU=true:=by cases ob<;>first|rfl|exact absurd fv (n2 _)
    cases Hq:hd.any (Nat.beq o)
    ·rw[Hq]at h;cases h
    ·rw[Hq]at h;simp only[cond_true]at h;obtain⟨x,hx,se⟩:=List.any_eq_true.1 Hq;have:=eu se;subst this;obtain⟨e,he⟩:=hh _ hx;rcases List.mem_cons.1 hp with rfl|hp
     ·exact⟨ob,fv,hl,.inl ⟨e,he⟩⟩
     ·refine UO hw h ?_ p hp;intro id dF;rcases List.mem_append.1 dF with dF|dF
      ·exact hh id dF
      ·rw[fv]at dF;obtain⟨o',_,rr⟩:=hw.ey _ _ e fv he;cases ob<;>simp only[abx]at dF<;>try (simp at dF;done)
       ·obtain⟨cs,el,rfl,_,_,hv,_⟩:=rr;exact A9 hv id dF
       ·obtain⟨nc,ed,rfl,hd,wa⟩:=rr;rcases List.mem_cons.1 dF with rfl|dF
        ·exact⟨ed,hd⟩
        ·obtain⟨i,a,h1,h2⟩:=Sn dF;obtain⟨v,_,h4⟩:=wa.2 i a h1;exact Lw h4 id h2
end
theorem Qw{r:Nat->Option Nat}{Hs:AH}:∀{ps:List (Nat×Nat)} {t t':Tr aZ} {id:Nat} {bW:aZ},(ps.map (·.1)).Nodup->wZ r Hs ps t=some t'->t'.bV id=some bW->
 (∃n,(id,n)∈ps∧((∃ob,Hs.bu n=some ob∧lj r ob=some bW)∨bW=.b9 []))∨((∀n,(id,n)∉ps)∧t.bV id=some bW)
 |[],t,t',id,bW,_,h,hg=>by cases h;exact .inr ⟨(fun _ h=>by cases h),hg⟩
 |(o,n)::l,t,t',id,bW,hn,h,hg=>by
  simp only[List.map_cons,List.nodup_cons]at hn;have az:∀x,wZ r Hs l (t.iz o x)=some t'->((∃ob,Hs.bu n=some ob∧lj r ob=some x)∨x=.b9 [])->
   (∃n',(id,n')∈(o,n)::l∧((∃ob,Hs.bu n'=some ob∧lj r ob=some bW)∨bW=.b9 []))∨((∀n',(id,n')∉(o,n)::l)∧t.bV id=some bW):=by
   intro x hx L3;rcases Qw hn.2 hx hg with⟨n',h1,h2⟩|⟨h1,h2⟩
   ·exact .inl ⟨n',fF _ h1,h2⟩
   ·rw[Tr.kZ]at h2;by_cases hi:id=o
    ·subst hi;rw[aY rfl]at h2;cases h2;exact .inl ⟨n,gi ..,L3⟩
    ·rw[aB hi]at h2;refine .inr ⟨fun n' hm=>?_,h2⟩;rcases List.mem_cons.1 hm with hm|hm
     ·cases hm;exact hi rfl
     ·exact h1 n' hm
  simp only[wZ]at h;split at h
  ·exact az _ h (.inr rfl)
  ·rename_i ob ho;split at h
   ·rename_i jl h1;exact az _ h (.inl ⟨ob,ho,h1⟩)
   ·cases h
theorem Zs{r:Nat->Option Nat}{Hs:AH}:∀{ps:List (Nat×Nat)} {t t':Tr aZ} {id:Nat},wZ r Hs ps t=some t'->(∀n,(id,n)∉ps)->t'.bV id=t.bV id
 |[],t,t',id,h,_=>by cases h;rfl
 |(o,n)::l,t,t',id,h,hn=>by
  have di:id≠o:=by rintro rfl;exact hn n (gi ..)
  have az:∀x,wZ r Hs l (t.iz o x)=some t'->t'.bV id=t.bV id:=by intro x hx;rw[Zs hx (fun n' hm=>hn n' (fF _ hm)),Tr.kZ,aB di]
  simp only[wZ]at h;split at h
  ·exact az _ h
  ·split at h
   ·exact az _ h
   ·cases h
theorem Qt{r:Nat->Option Nat}{Hs:AH}{k next:Nat}:∀{j:Nat} {t t':Tr aZ} {id:Nat} {bW:aZ},Dg r Hs k next j t=some t'->t'.bV id=some bW->
 (∃i ob,i<j∧id=next+i∧Hs.bu (k+i)=some ob∧lj r ob=some bW)∨t.bV id=some bW
 |0,t,t',id,bW,h,hg=>by cases h;exact .inr hg
 |j+1,t,t',id,bW,h,hg=>by
  simp only[Dg]at h;split at h
  ·cases h
  ·rename_i t1 h1;have rest:∀{t2:Tr aZ},t2=t1->t2.bV id=some bW->(∃i ob,i<j+1∧id=next+i∧Hs.bu (k+i)=some ob∧lj r ob=some bW)∨t.bV id=some bW:=by
    rintro t2 rfl hg;rcases Qt h1 hg with⟨i,ob,a,b⟩|h2
    ·exact .inl ⟨i,ob,by omega,b⟩
    ·exact .inr h2
   split at h
   ·cases h;exact rest rfl hg
   ·rename_i ob ho;split at h
    ·rename_i jl hr;cases h;rw[Tr.kZ]at hg;by_cases hi:id=next+j
     ·rw[aY hi]at hg;cases hg;exact .inl ⟨j,ob,by omega,hi,ho,hr⟩
     ·rw[aB hi]at hg;exact rest rfl hg
    ·cases h
theorem Qv{r:Nat->Option Nat}{Hs:AH}{k next:Nat}:∀{j:Nat} {t t':Tr aZ} {id:Nat},Dg r Hs k next j t=some t'->id<next->t'.bV id=t.bV id
 |0,t,t',id,h,_=>by cases h;rfl
 |j+1,t,t',id,h,hi=>by
  simp only[Dg]at h;split at h
  ·cases h
  ·rename_i t1 h1;split at h
   ·cases h;exact Qv h1 hi
   ·split at h
    ·cases h;rw[Tr.kZ,aB (by omega)];exact Qv h1 hi
    ·cases h
theorem WR.apz{φ:bf}{bs AF:dX}{H:AH}{w:World}(hw:WR φ bs H w)(h1:∀i e,φ i=some e->¬AF e.b)(h2:∀b o,φ.ro b=some o->¬AF b):WR φ AF H w:=
 ⟨hw.ey,hw.kx,fun i e h=>let⟨a,_,c⟩:=hw.lt i e h;⟨a,h1 i e h,c⟩,hw.nx,fun b o h=>⟨⟨h2 b o h,(hw.ro b o h).1.2⟩,(hw.ro b o h).2⟩⟩
def Yd(P:Program)(S:vo):Prop:=
 ∀(f:FuncId) (args:LV) (H:AH) (p:Prop) (v:AV) (H':AH),f≠999999->S f args H=some (p,v,H')->p->
  ∀(φ:bf) (w:World) (bs:dX) (args':Array Value) (cs:List Frame),bc φ args args'.toList->WR φ bs H w->gA bs w->Yq P H.bL bs φ w (Frame.enter P f args' .normal) cs ⟨.fQ v,none,H'⟩
theorem ac3{S:vo}{f:FuncId}{args:LV}{H:AH}{v:AV}{H':AH}(hk:zv S f args H=some (v,H')){φ:bf}{w:World}{m:Nat}{bs:dX}(alu:∀id∈ri args,∃e,φ id=some e)(hw:WR φ bs H w)(hb:gA bs w)(hm:m<=H.bL)
 {E:bf->World->AV->Prop} (hE:∀(r:Nat->Option Nat) (mi qh:bf) (v v':AV) (w':World),r6 r mi qh->fi r v=some v'->E mi w' v->E qh w' v')
 (hS:∀(ps:List (Nat×Nat)) (t:Tr aZ) (n:Nat) (yK:LV) (p:Prop) (vs:AV) (Hs:AH),Gd ps n->Af (jA ps) H ps .fL=some t->iN (jA ps) args=some yK->S f yK ⟨t,n⟩=some (p,vs,Hs)->p->
   ∀qV:dX,WR (mI ps φ) qV ⟨t,n⟩ w->gA qV w->∃aW w',WR aW qV Hs w'∧kR n (mI ps φ) aW∧c8 qV w w'∧E aW w' vs):
 ∃aW w',WR aW bs H' w'∧cQ m φ H aW H'∧c8 bs w w'∧E aW w' v:=by
 unfold zv at hk;split at hk
 ·rename_i p v0 H0 hl;by_cases hp:p
  ·rw[aY hp]at hk;cases hk;unfold Ia at hl;split at hl
   ·cases hl
   ·rename_i ps t n hv;obtain⟨S3,hl⟩:=c6 hl;split at hl
    ·rename_i yK lH;split at hl
     ·rename_i VF kf;obtain⟨p1,vs,⟨hs,ns⟩⟩:=VF;obtain⟨h,next⟩:=H;simp only[zw]at hl;obtain⟨cI,hl⟩:=c6 hl;have cI:=Nat.le_of_ble_eq_true cI;split at hl
      ·rename_i v1 t1 zn L5;split at hl
       ·rename_i t2 ED;cases hl;obtain⟨tt,nn,hH,bn,kG,_⟩:=Jg hv;cases hH;have S7:=UO hw S3 alu;have HT:=BU bn φ;have EA:∀{i e},mI ps φ i=some e->∃a,(a,i)∈ps∧φ a=some e:=fun h=>Fk h
        have amD:=hw.rU bn kG;let qV:dX:=fun b=>(b<w.heap.size∧φ.ro b=none)∧∀i e,mI ps φ i=some e->b≠e.b
        have Sy:∀b,bs b->qV b:=by
         intro b iR;refine⟨⟨hb b iR,?_⟩,fun i e hi he=>?_⟩
         ·cases fE:φ.ro b with
          |none=>rfl
          |some o=>exact absurd iR (hw.ro b o fE).1.1
         obtain⟨a,_,h2⟩:=EA hi;exact(hw.lt a e h2).2.1 (he▸iR)
        have HX:WR (mI ps φ) qV ⟨t,n⟩ w:=amD.apz (fun i e hi iR=>iR.2 i e hi rfl) (fun b o ho iR=>by have ho:φ.ro b=some o:=ho;rw[iR.1.2]at ho;cases ho);obtain⟨tZ,w',g1,g2,g3,g4⟩:=hS ps t n yK p vs ⟨hs,ns⟩ bn kG lH kf hp qV HX (fun b iR=>iR.1.1);have g2:kR n (mI ps φ) tZ:=g2;let aW:bf:=⟨fun id=>if id<next then φ id else tZ (n+(id-next)),tZ.ro⟩
        have jG:∀{id},id<next->aW id=φ id:=fun hi=>aY hi
        have HP:∀{o i},(o,i)∈ps->o<next∧i<n∧tZ i=φ o:=by intro o i xD;obtain⟨ob,h1,_⟩:=S7 _ xD;refine⟨hw.nx o ob h1,bn.lt _ xD,?_⟩;rw[g2 i (bn.lt _ xD)];exact HT o i (MS bn.n1 xD)
        have Lz:r6 (vC ps n next) tZ aW:=by
         refine⟨fun i c hc=>?_,fun _ _ h=>h⟩;unfold vC at hc;cases lI:Nat.ble (i+1) n
         ·rw[lI]at hc;simp only[cond_false,p9]at hc;subst hc;have rq:n<=i:=by
           rcases Nat.lt_or_ge i n with h1|h1
           ·rw[gJ (show i+1<=n from h1)]at lI;cases lI
           ·exact h1
          show(if _ then _ else _)=_;rw[aB (by omega)];congr 1;omega
         ·rw[lI]at hc;simp only[cond_true]at hc;obtain⟨h1,_,h3⟩:=HP (M7 hc);rw[jG h1,h3]
        have L3:∀{id bW},(⟨t2,next+(ns-n)⟩:AH).bu id=some bW->
         (∃j ob,vC ps n next j=some id∧(⟨hs,ns⟩:AH).bu j=some ob∧lj (vC ps n next) ob=some bW)∨(id<next∧bW=.b9 [])∨(id<next∧(∀n,(id,n)∉ps)∧(⟨h,next⟩:AH).bu id=some bW):=by
         intro id bW ho;rcases Qt ED ho with⟨i,ob,a1,a2,a3,a4⟩|h1
         ·refine .inl ⟨n+i,ob,?_,a3,a4⟩;unfold vC;have:Nat.ble (n+i+1) n=false:=by rw[Bool.eq_false_iff,Ne,Nat.ble_eq];omega
          rw[this,a2];simp
         ·rcases Qw bn.n1 L5 h1 with⟨n',a1,⟨ob,a2,a3⟩|a2⟩|⟨a1,a2⟩
          ·refine .inl ⟨n',ob,?_,a2,a3⟩;unfold vC;rw[gJ (show n'+1<=n from bn.lt _ a1)];exact Iq bn.n2 a1
          ·exact .inr (.inl ⟨(HP a1).1,a2⟩)
          ·exact .inr (.inr ⟨hw.nx id bW a2,a1,a2⟩)
        have dM:∀{id ob e},(∀n,(id,n)∉ps)->(⟨h,next⟩:AH).bu id=some ob->ob.aU=true->φ id=some e->qV e.b:=by
         intro id ob e h1 h2 h3 h4;refine⟨⟨(hw.lt id e h4).1,?_⟩,fun i e2 hi he=>?_⟩
         ·cases fE:φ.ro e.b with
          |none=>rfl
          |some o=>exact absurd rfl ((hw.ro _ o fE).2 id ob e h2 h3 h4)
         obtain⟨a,k1,k2⟩:=EA hi;obtain⟨oj,k3,k4,_⟩:=S7 _ k1;have:=hw.kx id a ob oj e e2 h2 h3 h4 k3 k4 k2 he;subst this;exact h1 i k1
        have ab4:eg φ aW:=⟨fun id e h1=>by rw[jG (hw.lt id e h1).2.2];exact h1,g2.ro⟩;have kc:∀{id bW e},(⟨t2,next+(ns-n)⟩:AH).bu id=some bW->bW.aU=true->aW id=some e->
         (∃j ob,vC ps n next j=some id∧(⟨hs,ns⟩:AH).bu j=some ob∧ob.aU=true∧tZ j=some e)∨(id<next∧(⟨h,next⟩:AH).bu id=some bW∧φ id=some e∧qV e.b):=by
         intro id bW e h1 l1 h2;rcases L3 h1 with⟨j,ob,a1,a2,a3⟩|⟨a1,a2⟩|⟨a1,a2,a3⟩
         ·exact .inl ⟨j,ob,a1,a2,by rw[←IC a3];exact l1,by rw[←Lz j id a1];exact h2⟩
         ·subst a2;cases l1
         ·rw[jG a1]at h2;exact .inr ⟨a1,a3,h2,dM a2 a3 l1 h2⟩
        have cJ:=g3.1;refine⟨aW,w',⟨?_,?_,?_,?_,?_⟩,⟨ab4,by show next<=next+(ns-n);omega,?_⟩,⟨cJ,fun b iR=>g3.2.1 b (Sy b iR),g3.2.2⟩,?_⟩
        ·intro id bW e h1 h2;rcases L3 h1 with⟨j,ob,a1,a2,a3⟩|⟨a1,a2⟩|⟨a1,a2,a3⟩
         ·have h3:tZ j=some e:=by rw[←Lz j id a1];exact h2
          obtain⟨o,k1,k2⟩:=g1.ey j ob e a2 h3;exact⟨o,k1,VC Lz a3 k2⟩
         ·subst a2;rw[jG a1]at h2;have:=(hw.lt id e h2).1;exact⟨w'.heap[e.b]'(by omega),Array.getElem?_eq_getElem _,trivial⟩
         ·rw[jG a1]at h2;by_cases n7:bW.aU=true
          ·obtain⟨o,k1,k2⟩:=hw.ey id bW e a3 h2;exact⟨o,(g3.2.1 _ (dM a2 a3 n7 h2)).trans k1,k2.CC ab4⟩
          ·cases bW<;>simp[aZ.aU]at n7;have:=(hw.lt id e h2).1;exact⟨w'.heap[e.b]'(by omega),Array.getElem?_eq_getElem _,trivial⟩
        ·intro id iC jl oj e e' h1 l1 h2 h3 l2 h4 se;rcases kc h1 l1 h2 with⟨j,ob,a1,a2,a3,a4⟩|⟨a1,a2,a3,a4⟩<;>rcases kc h3 l2 h4 with⟨j',bW,b1,b2,b3,b4⟩|⟨b1,b2,b3,b4⟩
         ·have:=g1.kx j j' ob bW e e' a2 a3 a4 b2 b3 b4 se;subst this;rw[a1]at b1;cases b1;rfl
         ·exact absurd (se▸b4) (g1.lt j e a4).2.1
         ·exact absurd (se▸a4) (g1.lt j' e' b4).2.1
         ·exact hw.kx id iC jl oj e e' a2 l1 a3 b2 l2 b3 se
        ·intro id e h2;by_cases hi:id<next
         ·rw[jG hi]at h2;obtain⟨k1,k2,_⟩:=hw.lt id e h2;exact⟨by omega,k2,by show id<next+(ns-n);omega⟩
         ·have h3:tZ (n+(id-next))=some e:=by rw[←h2];exact(aB hi).symm
          obtain⟨k1,k2,k3⟩:=g1.lt _ e h3;refine⟨k1,fun iR=>k2 (Sy _ iR),?_⟩;have k3:n+(id-next)<ns:=k3;show id<next+(ns-n)
          omega
        ·intro id bW h1;show id<next+(ns-n)
         rcases Qt ED h1 with⟨i,ob,a1,a2,_⟩|h2
         ·omega
         ·rcases Qw bn.n1 L5 h2 with⟨n',a1,_⟩|⟨_,a2⟩
          ·have:=(HP a1).1;omega
          ·have:=hw.nx id bW a2;have:id<next:=this
           omega
        ·intro b o fE;obtain⟨⟨k1,k2⟩,k3⟩:=g1.ro b o fE;refine⟨⟨fun iR=>k1 (Sy b iR),k2⟩,fun id ob e h1 l1 h2 se=>?_⟩;rcases kc h1 l1 h2 with⟨j,ob,a1,a2,a3,a4⟩|⟨a1,a2,a3,a4⟩
         ·exact k3 j ob e a2 a3 a4 se
         ·exact k1 (se▸a4)
        ·intro id hi hn;have hi:id<next:=Nat.lt_of_lt_of_le hi hm
         refine⟨by rw[jG hi];exact hn,?_⟩;by_cases kc:∃n,(id,n)∈ps
         ·obtain⟨n',kc⟩:=kc;obtain⟨ob,k1,_,⟨e,k2⟩|⟨vs,el,rfl⟩⟩:=S7 _ kc
          ·rw[hn]at k2;cases k2
          ·exact .inr ⟨vs,el,k1⟩
         ·left;show t2.bV id=h.bV id;rw[Qv ED hi,Zs L5 (fun n' hm=>kc ⟨n',hm⟩)]
        ·exact hE _ _ _ _ _ _ Lz zn g4
       ·cases hl
      ·cases hl
     ·cases hl
    ·cases hl
  ·rw[aB hp]at hk;cases hk
 ·cases hk
def yI(P:Program)(l:Nat)(a:AV)(H:AH)(v:AV)(H':AH):Prop:=
 ∃st pe fn tmps nt p assign body d fr,H.bu l=some (.gb st pe fn tmps nt [p] assign body d)∧yd (.gb st pe fn tmps nt [p] assign body d) l [a]=some fr∧
  ∀(φ:bf) (w:World) (bs:dX) (cy:Frame) (cs:List Frame),WR φ bs H w->gA bs w->sV φ fr cy->Pw (some l) P H.bL bs φ w cy cs ⟨.fQ v,none,H'⟩
def YL(P:Program)(S:vo):Prop:=
 ∀(args:LV) (H:AH) (p:Prop) (v:AV) (H':AH),S 999999 args H=some (p,v,H')->p->∃l a,args=[.gd l,a]∧yI P l a H v H'
theorem amU{P:Program}{S:vo}(hS:Yd P S):CS P (fun f args H=>bif zr f then none else zv S f args H):=by
 intro f args H v H' hk φ w m bs args' cs ha hw hb hm;cases hf:zr f with
 |true=>simp only[hf,cond_true]at hk;cases hk
 |false=>
  simp only[hf,cond_false]at hk;have di:f≠999999:=by rintro rfl;cases hf
  obtain⟨aW,w',g1,g2,g3,g4⟩:=ac3 hk (E:=fun aW w' v=>vq P aW w w' (Frame.enter P f args' .normal) cs ⟨.fQ v,none,H'⟩ none none) (fun id dF=>A9 ha id dF) hw hb hm
   (by rintro r mi qh v v' w' hr hv ⟨iJ,e',⟨v0,rfl,k1⟩,k2⟩;exact⟨iJ,_,⟨v0,rfl,rM hr hv k1⟩,k2⟩)
   (by intro ps t n yK p vs Hs bn kG lH kf hp qV HX jG;obtain⟨tZ,w',g1,g2,g3,g4⟩:=hS f yK ⟨t,n⟩ p vs Hs di kf hp (mI ps φ) w qV args' cs (zR (BU bn φ) lH ha) HX jG;exact⟨tZ,w',g1,g2,g3,g4⟩)
  exact⟨aW,w',g1,g2,g3,g4⟩
theorem ak5{P:Program}{S:vo}(hS:YL P S):JE P (La S):=by
 intro fr H r n6 φ w m bs cy cs hw hb hm hf hu;unfold La at n6;split at n6
 ·rename_i l hl;split at n6
  ·rename_i st pe fn tmps nt params assign body d ho;split at n6
   ·rename_i p;split at n6
    ·rename_i a ha;split at n6
     ·rename_i jx;obtain⟨SI,hpn⟩:=Ny jx;split at n6
      ·rename_i v H' hk;cases n6;subst SI;simp only at hl ha hf hu⊢;obtain⟨b,ac,EL,rfl,xw,hi⟩:=hf;have S3:∀id∈ri [.gd l,a],∃e,φ id=some e:=by
        intro id dF;simp only[ri,jF,lh,List.mem_append,nH]at dF;rcases dF with rfl|dF
        ·obtain⟨e,h1,_⟩:=xw.jL;exact⟨e,h1⟩
        ·obtain⟨x,_,h4⟩:=xw.tr.2 p a ha;exact Lw h4 id dF
       obtain⟨aW,w',g1,g2,g3,g4⟩:=ac3 hk (E:=fun aW w' v=>vq P aW w w' (b.atR ac EL) cs ⟨.fQ v,none,H'⟩ none (some l)) S3 hw hb hm
        (by intro r mi qh v v' w' hr hv he c cs' mB;obtain⟨v0,k1,k2⟩:=he c cs' mB;exact⟨v0,rM hr hv k1,k2⟩)
        (by
          intro ps t n yK p' vs Hs bn kG lH kf hp qV HX jG;obtain⟨l',a',alv,qz⟩:=hS yK ⟨t,n⟩ p' vs Hs kf hp;obtain⟨kN,pe',fn',nc,nt',p1,aiw,aiL,d',fr',q1,q2,q3⟩:=qz;subst alv;simp only[iN,fi]at lH;cases xC:jA ps l with
          |none=>rw[xC]at lH;cases lH
          |some l1=>
           rw[xC]at lH;simp only at lH;cases S':fi (jA ps) a with
           |none=>rw[S']at lH;cases lH
           |some a1=>
            rw[S']at lH;simp only[p9,List.cons.injEq,AV.gd.injEq,and_true]at lH;obtain⟨rfl,rfl⟩:=lH;have amd:∃o ob,(o,l1)∈ps∧H.bu o=some ob∧lj (jA ps) ob=some (.gb kN pe' fn' nc nt' [p1] aiw aiL d'):=by
             rcases Ot kG q1 with h1|h1
             ·exact h1
             ·cases h1
            obtain⟨o,ob,k1,k2,k3⟩:=amd;have:=Ig bn.n2 k1 (UB xC);subst this;rw[ho]at k2;cases k2;simp only[lj]at k3;split at k3
            ·rename_i t2 d2 ED hd2;cases k3;obtain⟨alT,_⟩:=Ny q2;subst alT;have HT:=BU bn φ;obtain⟨tZ,w',g1,g2,g3,g4⟩:=q3 (mI ps φ) w qV (b.atR ac EL) cs HX jG (by
              refine⟨b,ac,EL,rfl,⟨xw.fn,⟨xw.tr.1,fun i x hx=>?_⟩,xw.dr,?_,xw.lA,fun h=>by cases h⟩,Vc rfl hi⟩
              ·have hx:(nc.iz p a1).bV i=some x:=hx;rw[Tr.kZ]at hx;by_cases HI:i=p
               ·subst HI;rw[aY rfl]at hx;cases hx;obtain⟨v0,h3,h4⟩:=xw.tr.2 i a (by show(tmps.iz i a).bV i=_;rw[Tr.kZ,aY rfl]);exact⟨v0,h3,rM HT S' h4⟩
               ·rw[aB HI]at hx;obtain⟨x0,h1,h2⟩:=Nt ED hx;obtain⟨v0,h3,h4⟩:=xw.tr.2 i x0 (by show(tmps.iz p a).bV i=_;rw[Tr.kZ,aB HI];exact h1);exact⟨v0,h3,rM HT h2 h4⟩
              ·obtain⟨e,h1,h2⟩:=xw.jL;exact⟨e,(HT _ l1 xC).trans h1,h2⟩)
             exact⟨tZ,w',g1,g2,g3,g4⟩
            ·cases k3)
       exact⟨aW,w',g1,g2,g3,g4⟩
      ·cases n6
     ·cases n6
    ·cases n6
   ·cases n6
  ·cases n6
 ·cases n6
def bm(P:Program)(S:bz):Prop:=Yd P (qm S)∧YL P (qm S)
theorem xa{P:Program}{S:bz}(hS:bm P S):ou P (oz S):=⟨ak5 hS.2,amU hS.1⟩
end
noncomputable section
def dT(P:Program)(f:FuncId)(args:LV)(H:AH)(v:AV)(H':AH):Prop:=
 ∀(φ:bf) (w:World) (bs:dX) (args':Array Value) (cs:List Frame),bc φ args args'.toList->WR φ bs H w->gA bs w->Yq P H.bL bs φ w (Frame.enter P f args' .normal) cs ⟨.fQ v,none,H'⟩
def iS(v:AV)(H:AH):AV->AH->Prop:=fun v' H'=>v'=v∧H'=H
section
variable{P:Program}{S:bz}
theorem aj7{f:FuncId}{fn:Func}{c:Code}{args:LV}{H:AH}{v:AV}{H1:AH}(hf:P.funcs[f]? =some fn)(hb:fn.body=some c)(bF:args.length<=fn.ntmps)
 (h:dH P H.bL (pf f fn.ntmps (Tr.zG args 0 .fL) [.fG c]) H (B_ (iS v H1))):dT P f args H v H1:=by
 intro φ w bs args' cs ha hw jG;obtain⟨r,⟨v',he,hu,rfl,hH⟩,hr⟩:=h;have ru:r=⟨.fQ v',none,H1⟩:=by obtain⟨e,u,h⟩:=r;simp only at he hu hH;rw[he,hu,hH]
 subst ru;refine hr φ w bs _ cs (fB _) hw jG ?_;have Ep:args'.size<=fn.ntmps:=by have:=ha.jM;simp at this;omega
 let b:Frame:={(default:Frame)with fn:=f,kind:=.normal,roundOf:=none}
 refine⟨b,{tmps:=args'++Array.replicate (fn.ntmps-args'.size) undef,defers:=[]},[.code c],?_,⟨rfl,⟨?_,?_⟩,rfl,rfl,rfl,fun _=>rfl⟩,⟨_,_,rfl,rfl,rfl⟩⟩
 ·simp[Frame.enter,Frame.atR,hf,hb,b]
 ·show _=fn.ntmps;simp;omega
 ·intro i x hx;have hx:(Tr.zG args 0 .fL).bV i=some x:=hx;rw[Tr.abd]at hx;split at hx
  ·rename_i hi;simp only[Nat.sub_zero]at hx;obtain⟨v,h1,h2⟩:=ha.get hx;refine⟨v,?_,h2⟩;rw[Array.getElem?_append_left]
   ·simpa using h1
   ·have:=(List.getElem?_eq_some_iff.1 h1).1;simpa using this
  ·cases hx
def lC(ds:List ir)(P:Program)(f nt m0:Nat)(v:AV)(H1:AH):Tr AV->AH->List b_->Prop:=fun t H todo=>dH P m0 (jH ds none f nt t todo) H (B_ (iS v H1))
abbrev bJ:Program->Nat->Nat->Nat->AV->AH->Tr AV->AH->List b_->Prop:=lC []
theorem aj3(dI:P.follows .mixedOrders=true)(hS:bm P S){aU:Nat->LN}{n f nt:Nat}{args:LV}{H:AH}{v:AV}{H1:AH}(n8:(P.funcs[f]?).map (·.ntmps)=some nt)
 (h:b8 P S aU (bJ P f nt H.bL v H1) (iS v H1) n f args H):dT P f args H v H1:=by
 unfold b8 at h;split at h
 ·rename_i fn jW;rw[jW]at n8;simp only[Option.map_some,p9]at n8;subst n8;split at h
  ·rename_i c hc;obtain⟨hb,h⟩:=jR h;simp only[cW]at hb;exact aj7 jW hc (Nat.le_of_ble_eq_true hb.1) (FB (ds:=[]) (rd:=none) dI (xa hS) trivial trivial (Zo dI (xa hS)) (fun _ _ _ h=>h) n h)
  ·cases h
 ·cases h
theorem alL(dI:P.follows .mixedOrders=true)(hS:bm P S){aU:Nat->LN}{n f nt m0:Nat}{t:Tr AV}{todo:List b_}{H:AH}{v:AV}{H1:AH}(n8:(P.funcs[f]?).map (·.ntmps)=some nt)
 (h:cO P S aU (bJ P f nt m0 v H1) (iS v H1) n f m0 t todo H):bJ P f nt m0 v H1 t H todo:=by
 unfold cO at h;split at h
 ·rename_i fn jW;rw[jW]at n8;simp only[Option.map_some,p9]at n8;subst n8;exact FB (ds:=[]) (rd:=none) dI (xa hS) trivial trivial (Zo dI (xa hS)) (fun _ _ _ h=>h) n h
 ·cases h
theorem SD(dI:P.follows .mixedOrders=true)(hS:bm P S){aU:Nat->LN}{n f nt m0 d:Nat}{t:Tr AV}{todo:List b_}{H:AH}{v:AV}{H1:AH}(hd:d<m0)(n8:(P.funcs[f]?).map (·.ntmps)=some nt)
 (h:IH P S aU (lC [.ng d] P f nt m0 v H1) (iS v H1) n f m0 d t todo H):lC [.ng d] P f nt m0 v H1 t H todo:=by
 unfold IH at h;split at h
 ·rename_i fn jW;rw[jW]at n8;simp only[Option.map_some,p9]at n8;subst n8;exact FB (ds:=[.ng d]) (rd:=none) dI (xa hS) ⟨hd,trivial⟩ trivial (Zn dI (xa hS) hd) (fun _ _ _ h=>h) n h
 ·cases h
theorem afg(dI:P.follows .mixedOrders=true)(hS:bm P S){aU:Nat->LN}{n l:Nat}{a:AV}{H:AH}{v:AV}{H1:AH}{st:LoopState}{pe:Option Code}{fn nt p d:Nat}{tmps:Tr AV}{assign body:Code}
 (ho:H.bu l=some (.gb st pe fn tmps nt [p] assign body d)) (hl:l<H.bL)
 (h:VZ P S aU (fun _ _ _=>False) (iS v H1) n l a H):yI P l a H v H1:=by
 unfold VZ at h;rw[ho]at h;simp only at h;split at h
 ·rename_i fr jx;refine⟨st,pe,fn,tmps,nt,p,assign,body,d,fr,ho,jx,fun φ w bs cy cs hw hb hf=>?_⟩;obtain⟨SI,_⟩:=Ny jx;subst SI;have hT:dH P H.bL (jH [] (some l) fn nt (tmps.iz p a) [.fG assign,.wL,.fG body]) H (B_ (iS v H1)):=
   FB (ds:=[]) (rd:=some l) dI (xa hS) trivial hl (aiz dI (xa hS)) (fun _ _ _ h=>h.elim) n h
  obtain⟨r,⟨v',he,hu,rfl,hH⟩,hr⟩:=hT;have ru:r=⟨.fQ v',none,H1⟩:=by obtain⟨e,u,h⟩:=r;simp only at he hu hH;rw[he,hu,hH]
  subst ru;exact hr φ w bs cy cs (fB _) hw hb hf
 ·cases h
theorem dH.ant{m0 m1:Nat}{fr:cN}{H:AH}{Q:fM->Prop}(h01:m0<=m1)(h1:m1<=H.bL)(h:dH P m1 fr H Q):dH P m0 fr H Q:=by obtain⟨r,hq,hr⟩:=h;refine⟨r,hq,fun φ w bs cy cs hm hw hb hf=>?_⟩;obtain⟨aW,w',g1,g2,g3,g4⟩:=hr φ w bs cy cs h1 hw hb hf;exact⟨aW,w',g1,g2.mono h01,g3,g4⟩
theorem dH.K3{m0 d:Nat}{fr:cN}{H:AH}{x:aZ}{Q:fM->Prop}(hd:d<H.bL)(h:dH P m0 fr (H.dL d (.b9 [])) Q):dH P m0 fr (H.dL d x) Q:=by obtain⟨r,hq,hr⟩:=h;exact⟨r,hq,fun φ w bs cy cs hm hw hb hf=>hr φ w bs cy cs hm (hw.K3 hd) hb hf⟩
def V0(P:Program)(S:bz)(aU:Nat->LN)(L:Tr AV->AH->List b_->Prop)(Q:AV->AH->Prop)(lF:Nat)(f:Nat)(t:Tr AV)(todo:List b_)(H:AH):Prop:=
 match P.funcs[f]? with
 |some fn=>match todo with
  |.fG (.rangeFunc g params assign body)::k=>match H with
   |⟨h,n⟩=>match ia t g with
    |some gv=>match vE P gv [.gd (Nat.succ n)]with
     |some (.qi c args)=>bif zr c then False else
       EE (AH.iq (AH.iq ⟨h,n⟩ (.ot (some []))) (.gb .ready none f t fn.ntmps params.toList assign body n)) S c args fun _ H2=>
        match H2.bu (Nat.succ n)with
        |some (.gb .ready none _ _ _ _ _ _ _)=>Nat.succ n<H2.bL∧lu P S fn.ntmps (Nat.succ n) aU L (fun _=>Ka P f (Nat.succ n) Q n) none lF t k (H2.dL (Nat.succ n) (.b9 []))
        |_=>False
     |_=>False
    |none=>False
  |_=>False
 |none=>False
theorem alK(dI:P.follows .mixedOrders=true)(hS:bm P S){aU:Nat->LN}{n f nt m0:Nat}{t:Tr AV}{todo:List b_}{H:AH}{v:AV}{H1:AH}(hm:m0<=H.bL)(n8:(P.funcs[f]?).map (·.ntmps)=some nt)
 (h:V0 P S aU (lC [.ng H.bL] P f nt (Nat.succ H.bL) v H1) (iS v H1) n f t todo H):bJ P f nt m0 v H1 t H todo:=by
 unfold V0 at h;split at h
 ·rename_i fn jW;rw[jW]at n8;simp only[Option.map_some,p9]at n8;subst n8;split at h
  ·rename_i g params assign body k;obtain⟨hh,nn⟩:=H;simp only at h;split at h
   ·rename_i gv hg;split at h
    ·rename_i c args hc;cases hr:zr c with
     |true=>rw[hr]at h;cases h
     |false=>
      rw[hr]at h;simp only[cond_false]at h;obtain⟨rv,H2,h1,h2⟩:=acd (P:=P) hr h;split at h2
      ·rename_i lf lt ln lp la lb ld ho;obtain⟨aj,h2⟩:=h2;have LC:=xa hS;refine dH.j6 (fr':=jH [.ng nn] none f fn.ntmps t (.yx (Nat.succ nn)::k)) (H':=H2) dI LC rfl ?_ ?_
       ·simp only[jH,jo,rQ,sJ,u_,IW,Mx,AH.iq,KM,hg,Option.bind_some,hc,DF,aeL];have Ha:=h1;simp only[AH.iq]at Ha;rw[Ha];rfl
       ·refine dH.j6 (fr':=jH [.ng nn] none f fn.ntmps t k) (H':=H2.dL (Nat.succ nn) (.gb .exhausted none lf lt ln lp la lb ld)) dI LC rfl ?_ ?_
        ·simp only[jH,jo,rQ,sJ,IU,ho,to,Ni]
        ·refine dH.K3 aj (dH.ant (m1:=Nat.succ nn) (Nat.le_succ_of_le hm) (Nat.le_of_lt aj) ?_);exact FB (ds:=[.ng nn]) (rd:=none) dI LC ⟨lR nn,trivial⟩ trivial (Zn dI LC (lR nn)) (fun _ _ _ h=>h) n h2
      ·cases h2
    ·cases h
   ·cases h
  ·cases h
 ·cases h
theorem cV{ds:List ir}{f nt m0:Nat}{v:AV}{H1:AH}{α:Type}(μ:α->Nat)(T:α->Tr AV)(M:α->AH)(todo:List b_)(I:α->Prop)
 (kI:∀a,I a->(∀b,I b->μ b<μ a->lC ds P f nt m0 v H1 (T b) (M b) todo)->lC ds P f nt m0 v H1 (T a) (M a) todo):∀a,I a->lC ds P f nt m0 v H1 (T a) (M a) todo:=by
 intro a;generalize hn:μ a=n;induction n using Nat.strongRecOn generalizing a with
 |_ n ih=>intro ha;exact kI a ha (fun b hb aj=>ih (μ b) (by omega) b rfl hb)
def UE:bz:=fun _ _ _=>none
theorem adE:bm P UE:=by
 constructor
 ·intro f args H p v H' _ h;cases h
 ·intro args H p v H' h;cases h
def cz(f0:FuncId)(s:LV->AH->Option Sp)(S:bz):bz:=fun f args H=>
 bif Nat.beq f f0 then s args H else S f args H
theorem Gp{f0:FuncId}{s:LV->AH->Option Sp}(hS:bm P S)(h:∀args H sp p v H',s args H=some sp->ux sp=some (p,v,H')->p->dT P f0 args H v H')(di:f0≠999999:=by first|assumption|decide):bm P (cz f0 s S):=by
 constructor
 ·intro f args H p v H' hf hs hp;unfold qm cz at hs;cases hb:Nat.beq f f0
  ·rw[hb]at hs;exact hS.1 f args H p v H' hf hs hp
  ·rw[hb]at hs;have:=eu hb;subst this;simp only[cond_true]at hs;split at hs
   ·rename_i sp h1;exact h args H sp p v H' h1 hs hp
   ·cases hs
 ·intro args H p v H' hs hp;unfold qm cz at hs;have hb:Nat.beq 999999 f0=false:=by
   cases hb:Nat.beq 999999 f0 with
   |false=>rfl
   |true=>exact absurd (eu hb).symm di
  rw[hb]at hs;exact hS.2 args H p v H' hs hp
theorem ah2{s:LV->AH->Option Sp}(hS:bm P S)(h:∀args H sp p v H',s args H=some sp->ux sp=some (p,v,H')->p->∃l a,args=[.gd l,a]∧yI P l a H v H'):bm P (cz 999999 s S):=by
 constructor
 ·intro f args H p v H' hf hs hp;unfold qm cz at hs;have hb:Nat.beq f 999999=false:=by
   cases hb:Nat.beq f 999999 with
   |false=>rfl
   |true=>exact absurd (eu hb) hf
  rw[hb]at hs;exact hS.1 f args H p v H' hf hs hp
 ·intro args H p v H' hs hp;unfold qm cz at hs;have hb:Nat.beq 999999 999999=true:=rfl;rw[hb]at hs;simp only[cond_true]at hs;split at hs
  ·rename_i sp h1;exact h args H sp p v H' h1 hs hp
  ·cases hs
def Q9(s:LV->AH->Option (Prop×AV×AH)):LV->AH->Option Sp:=fun args H=>
 match s args H with
 |some x=>some (.Dp x)
 |none=>none
def eB(f0:FuncId)(s:LV->AH->Option (Prop×AV×AH))(S:bz):bz:=cz f0 (Q9 s) S
theorem Az{f0:FuncId}{s:LV->AH->Option (Prop×AV×AH)}(hS:bm P S)(h:∀args H p v H',s args H=some (p,v,H')->p->dT P f0 args H v H')(di:f0≠999999:=by first|assumption|decide):bm P (eB f0 s S):=by
 refine Gp (di:=di) hS fun args H sp p v H' h1 h2 hp=>?_
 unfold Q9 at h1;split at h1
 ·rename_i x hx;cases h1;cases h2;exact h _ _ _ _ _ hx hp
 ·cases h1
theorem Vv{f0:FuncId}{sN:Nat->LV->AH->Option (Prop×AV×AH)}(hS:bm P S)(h0:∀args H p v H',sN 0 args H=some (p,v,H')->¬p)
 (kI:∀N,bm P (eB f0 (sN N) S)->∀args H p v H',sN (N+1) args H=some (p,v,H')->p->dT P f0 args H v H') (di:f0≠999999:=by first|assumption|decide):∀N,bm P (eB f0 (sN N) S)
 |0=>Az (di:=di) hS (fun args H p v H' h hp=>absurd hp (h0 args H p v H' h))
 |N+1=>Az (di:=di) hS (kI N (Vv (di:=di) hS h0 kI N))
structure dp(W:Type)where
 ba:W->LV->AH->Prop
 v:W->AV
 aN:W->AH
def dp.dx{W:Type}(e:dp W):Prop:=∀w w' args H,e.ba w args H->e.ba w' args H->(e.v w,e.aN w)=(e.v w',e.aN w')
def cM{W:Type}(e:dp W)(h:e.dx)(ok:LV->AH->Bool):LV->AH->Option Sp:=fun args H=>
 bif ok args H then some (.ex W (fun w=>(e.ba w args H,e.v w,e.aN w)) (fun w w' h1 h2=>h w w' args H h1 h2))else none
theorem de{f0:FuncId}{W:Type}{e:dp W}{h1:e.dx}{ok:LV->AH->Bool}(hS:bm P S)(h:∀w args H,e.ba w args H->dT P f0 args H (e.v w) (e.aN w))(di:f0≠999999:=by first|assumption|decide):bm P (cz f0 (cM e h1 ok) S):=by
 refine Gp (di:=di) hS fun args H sp p v H' hs hd hp=>?_
 unfold cM at hs;obtain⟨_,hs⟩:=QD hs;cases hs;simp only[ux]at hd;by_cases hw:∃w,e.ba w args H
 ·rw[dif_pos hw]at hd;cases hd;exact h _ _ _ hp
 ·rw[dif_neg hw]at hd;cases hd
theorem ah1{W:Type}{e:dp W}{h1:e.dx}{ok:LV->AH->Bool}(hS:bm P S)(h:∀w args H,e.ba w args H->∃l a,args=[.gd l,a]∧yI P l a H (e.v w) (e.aN w)):bm P (cz 999999 (cM e h1 ok) S):=by
 refine ah2 hS fun args H sp p v H' hs hd hp=>?_
 unfold cM at hs;obtain⟨_,hs⟩:=QD hs;cases hs;simp only[ux]at hd;by_cases hw:∃w,e.ba w args H
 ·rw[dif_pos hw]at hd;cases hd;exact h _ _ _ hp
 ·rw[dif_neg hw]at hd;cases hd
theorem BZ{f0:FuncId}{W:Type}{e:Nat->dp W}{h1:∀N,(e N).dx}{ok:LV->AH->Bool}(hS:bm P S)(h0:∀w args H,¬(e 0).ba w args H)
 (kI:∀N,bm P (cz f0 (cM (e N) (h1 N) ok) S)->∀w args H,(e (N+1)).ba w args H->dT P f0 args H ((e (N+1)).v w) ((e (N+1)).aN w)) (di:f0≠999999:=by first|assumption|decide):∀N,bm P (cz f0 (cM (e N) (h1 N) ok) S)
 |0=>de (di:=di) hS (fun w args H hp=>absurd hp (h0 w args H))
 |N+1=>de (di:=di) hS (kI N (BZ (di:=di) hS h0 kI N))
end
end
end Go.Ev
namespace Go.Ev
noncomputable section
def lN(g n:Nat)(i:Nat):Option Nat:=if i=g then some n else if i=n then none else some i
def E'(g n:Nat)(φ:bf):bf:=⟨fun i=>if i=n then φ g else φ i,φ.ro⟩
structure Mv(H H1:AH)(g:Nat):Prop where
 aF:∃vs el,H.bu g=some (.aF vs el)∧H1.bu H.bL=some (.aF vs el)
 b9:H1.bu g=some (.b9 [])
 next:H1.bL=H.bL+1
 U1:∀id bW,id≠g->id≠H.bL->H1.bu id=some bW->∃ob,H.bu id=some ob∧lj (lN g H.bL) ob=some bW
theorem Mv.wr{φ:bf}{bs:dX}{H H1:AH}{g:Nat}{w:World}(hm:Mv H H1 g)(hw:WR φ bs H w):
 WR (E' g H.bL φ) bs H1 w∧r6 (lN g H.bL) φ (E' g H.bL φ):=by
 obtain⟨vs,el,hg,hn⟩:=hm.aF;have Bg:g<H.bL:=hw.nx _ _ hg;have hr:r6 (lN g H.bL) φ (E' g H.bL φ):=by
  refine⟨fun a c h=>?_,fun _ _ h=>h⟩;unfold lN at h;split at h
  ·rename_i Sk;cases h;subst Sk;exact aY rfl
  ·split at h
   ·cases h
   ·rename_i h1 h2;cases h;exact aB h2
 have lv:∀{id ob e},H1.bu id=some ob->ob.aU=true->(if id=H.bL then φ g else φ id)=some e->
  ∃j ec,H.bu j=some ec∧ec.aU=true∧φ j=some e∧id=(if j=g then H.bL else j):=by
  intro id ob e ho hl he;by_cases h1:id=H.bL
  ·rw[aY h1]at he;exact⟨g,_,hg,rfl,he,by rw[aY rfl,h1]⟩
  ·rw[aB h1]at he;by_cases h2:id=g
   ·subst h2;rw[hm.b9]at ho;cases ho;cases hl
   ·obtain⟨ec,h3,h4⟩:=hm.U1 id ob h2 h1 ho;exact⟨id,ec,h3,by rw[←IC h4];exact hl,he,by rw[aB h2]⟩
 refine⟨⟨?_,?_,?_,?_,hw.sE rfl (fun _ _ _=>rfl) fun id ob e h1 l1 h2=>.inl ?_⟩,hr⟩
 ·intro id ob e ho Hz;have he:(if id=H.bL then φ g else φ id)=some e:=Hz;clear Hz;by_cases h1:id=H.bL
  ·subst h1;rw[aY rfl]at he;rw[hn]at ho;cases ho;obtain⟨o,k1,k2⟩:=hw.ey g _ e hg he;exact⟨o,k1,k2⟩
  ·rw[aB h1]at he;by_cases h2:id=g
   ·subst h2;rw[hm.b9]at ho;cases ho;have:=(hw.lt id e he).1;exact⟨w.heap[e.b]'this,Array.getElem?_eq_getElem _,trivial⟩
   ·obtain⟨ec,h3,h4⟩:=hm.U1 id ob h2 h1 ho;obtain⟨o,k1,k2⟩:=hw.ey id ec e h3 he;exact⟨o,k1,VC hr h4 k2⟩
 ·intro id iC ob bW e e' h1 l1 h2 h3 l2 h4 hb;obtain⟨j,o,a1,a2,a3,rfl⟩:=lv h1 l1 h2;obtain⟨j',o',b1,b2,b3,rfl⟩:=lv h3 l2 h4;have:=hw.kx j j' o o' e e' a1 a2 a3 b1 b2 b3 hb;rw[this]
 ·intro id e Hz;have he:(if id=H.bL then φ g else φ id)=some e:=Hz;clear Hz;rw[hm.next];by_cases h1:id=H.bL
  ·rw[aY h1]at he;have:=hw.lt g e he;exact⟨this.1,this.2.1,by omega⟩
  ·rw[aB h1]at he;have:=hw.lt id e he;exact⟨this.1,this.2.1,by omega⟩
 ·intro id ob ho;rw[hm.next];by_cases h1:id=H.bL
  ·omega
  ·by_cases h2:id=g
   ·omega
   ·obtain⟨ec,h3,_⟩:=hm.U1 id ob h2 h1 ho;have:=hw.nx id ec h3;omega
 ·obtain⟨j,ec,a1,a2,a3,_⟩:=lv h1 l1 h2;exact⟨j,ec,e,a1,a2,a3,rfl⟩
theorem Rr{P:Program}{f:FuncId}{args:LV}{H0 H H1:AH}{v v1:AV}{g:Nat}(h:dT P f args H0 v H)(hm:Mv H H1 g)(hv:fi (lN g H.bL) v=some v1)(hn:H0.bL<=H.bL):dT P f args H0 v1 H1:=by
 intro φ w bs args' cs ha hw hl;obtain⟨aW,w',g1,g2,g3,g4⟩:=h φ w bs args' cs ha hw hl;have:=hm.wr g1;refine⟨_,w',this.1,g2.ub ⟨fun id dF=>aB (show¬id=H.bL by omega),fun _ _ h=>h⟩,g3,?_⟩
 ·obtain⟨iJ,e',⟨v',rfl,k1⟩,k2⟩:=g4;exact⟨iJ,_,⟨v',rfl,rM this.2 hv k1⟩,k2⟩
def dq:List (Nat×aZ)->Nat->Option aZ
 |[],_=>none
 |(s,a)::l,i=>if i=s then some a else dq l i
theorem ado:∀(l:List (Nat×aZ)) (i:Nat),(MJ l).bV i=dq l i
 |[],i=>rfl
 |(s,a)::l,i=>by
  simp only[MJ,dq];by_cases h:i=s
  ·subst h;rw[aY rfl,Tr.kZ];simp
  ·rw[aB h,←ado l i,Tr.kZ];simp[h]
theorem dy(l:List (Nat×aZ))(n i:Nat):(an l n).bu i=dq l i:=ado l i
end
end Go.Ev
namespace Go.Ev
noncomputable section
theorem Py{φ ψ:bf}:∀{l:List b_} {m:List Item},lQ l=true->jC φ l m->jC ψ l m
 |[],m,_,h=>h
 |x::l,m,hp,h=>by simp only[lQ,cW]at hp;obtain⟨y,ys,rfl,h1,h2⟩:=h;refine⟨y,ys,rfl,?_,Py hp.2 h2⟩;cases x<;>first|exact h1|(simp[Ix]at hp)
theorem alI{ds:List ir}{P:Program}{f nt m0:Nat}{v:AV}{H1 H H':AH}{t t':Tr AV}{todo:List b_}{g:Nat}(h:lC ds P f nt m0 v H1 t' H' todo)(hm:Mv H H' g)(hp:lQ todo=true)
 (ht:∀i a',t'.bV i=some a'->∃a,t.bV i=some a∧fi (lN g H.bL) a=some a') (k7:uy m0 ds):lC ds P f nt m0 v H1 t H todo:=by
 obtain⟨r,hq,hr⟩:=h;refine⟨r,hq,fun φ w bs cy cs cI hw hl hf=>?_⟩;have Eu:=hm.wr hw;have jG:kR m0 φ (E' g H.bL φ):=⟨fun id dF=>aB (show¬id=H.bL by omega),fun _ _ h=>h⟩;have jw:sV (E' g H.bL φ) (jH ds none f nt t' todo) cy:=by
  obtain⟨b,a,WN,e1,e2,e3⟩:=hf;refine⟨b,a,WN,e1,⟨e2.fn,⟨e2.tr.1,fun i a' ha=>?_⟩,?_,e2.jL,e2.lA,e2.o9⟩,Py hp e3⟩
  ·obtain⟨a0,h1,h2⟩:=ht i a' ha;obtain⟨x,h3,h4⟩:=e2.tr.2 i a0 h1;exact⟨x,h3,rM Eu.2 h2 h4⟩
  ·exact JH jG k7 e2.dr
 obtain⟨aW,w',g1,g2,g3,g4⟩:=hr _ w bs cy cs (by rw[hm.next];omega) Eu.1 hl jw;exact⟨aW,w',g1,jG.ub g2,g3,g4⟩
theorem uK{P:Program}{f nt m0:Nat}{v:AV}{H1 H H':AH}{t t':Tr AV}{todo:List b_}{g:Nat}(h:bJ P f nt m0 v H1 t' H' todo)(hm:Mv H H' g)(hp:lQ todo=true)
 (ht:∀i a',t'.bV i=some a'->∃a,t.bV i=some a∧fi (lN g H.bL) a=some a'):bJ P f nt m0 v H1 t H todo:=
 alI h hm hp ht (AK _)
end
end Go.Ev
namespace Go.Ev
noncomputable section
def MN(g n:Nat):List (Nat×aZ)->Option (List (Nat×aZ))
 |[]=>some []
 |(s,a)::l=>match MN g n l with
  |none=>none
  |some l'=>if s=g then some ((s,.b9 [])::l')else match lj (lN g n) a with
   |some a'=>some ((s,a')::l')
   |none=>none
theorem adt{g n:Nat}:∀{l l':List (Nat×aZ)},MN g n l=some l'->
 (∀id,id≠g->(dq l id=none->dq l' id=none)∧∀bW,dq l' id=some bW->∃ob,dq l id=some ob∧lj (lN g n) ob=some bW)∧∀x,dq l g=some x->dq l' g=some (.b9 [])
 |[],l',h=>by cases h;exact⟨fun id _=>⟨fun _=>rfl,fun bW h=>by cases h⟩,fun x h=>by cases h⟩
 |(s,a)::l,l',h=>by
  simp only[MN]at h;split at h
  ·cases h
  ·rename_i l1 h1;obtain⟨k1,k2⟩:=adt h1;split at h
   ·rename_i hs;cases h;subst hs;refine⟨fun id dF=>?_,fun x _=>by simp[dq]⟩;simp only[dq,aB dF];exact k1 id dF
   ·rename_i hs;split at h
    ·rename_i a' ha;cases h;refine⟨fun id dF=>?_,fun x hx=>?_⟩
     ·simp only[dq];by_cases hi:id=s
      ·subst hi;simp only[if_true];exact⟨fun h=>(by cases h),fun bW h=>(by cases h;exact⟨a,rfl,ha⟩)⟩
      ·simp only[aB hi];exact k1 id dF
     ·simp only[dq]at hx⊢;have:¬g=s:=fun e=>hs e.symm
      rw[aB this]at hx⊢;exact k2 x hx
    ·cases h
theorem BE:∀(l m:List (Nat×aZ)) (i:Nat),dq (l++m) i=(match dq l i with|some x=>some x|none=>dq m i)
 |[],m,i=>rfl
 |(s,a)::l,m,i=>by
  simp only[sA,dq];split
  ·rfl
  ·exact BE l m i
theorem ss{g n:Nat}{l l':List (Nat×aZ)}{vs:LV}{el:TypeId}(h:MN g n l=some l')(hg:dq l g=some (.aF vs el))(hn:dq l n=none):
 Mv (an l n) (an (l'++[(n,.aF vs el)]) (n+1)) g:=by
 obtain⟨k1,k2⟩:=adt h;have Bg:n≠g:=by rintro rfl;rw[hg]at hn;cases hn
 refine⟨⟨vs,el,by rw[dy];exact hg,?_⟩,?_,rfl,?_⟩
 ·show(an _ _).bu n=_;rw[dy,BE,(k1 n Bg).1 hn];simp[dq]
 ·rw[dy,BE,k2 _ hg]
 ·intro id bW h1 h2 h3;have h2:id≠n:=h2;rw[dy,BE]at h3;rw[dy];cases hl:dq l' id with
  |none=>rw[hl]at h3;simp[dq,h2]at h3
  |some x=>rw[hl]at h3;cases h3;exact(k1 id h1).2 _ hl
end
end Go.Ev
namespace Go.Ev
noncomputable section
def wh:List (Nat×AV)->Nat->Option AV
 |[],_=>none
 |(s,a)::l,i=>if i=s then some a else wh l i
theorem nE:∀(l:List (Nat×AV)) (i:Nat),(aQ l).bV i=wh l i
 |[],i=>rfl
 |(s,a)::l,i=>by
  simp only[aQ,wh];by_cases h:i=s
  ·subst h;rw[aY rfl,Tr.kZ];simp
  ·rw[aB h,←nE l i,Tr.kZ];simp[h]
theorem xX{l:List (Nat×AV)}{g n i:Nat}{a:AV}(hi:(aQ l).bV i=some a)(h:∀x∈l,fi (lN g n) x.2=some x.2):fi (lN g n) a=some a:=by
 rw[nE]at hi;induction l with
 |nil=>cases hi
 |cons x l ih=>
  obtain⟨s,b⟩:=x;simp only[wh]at hi;split at hi
  ·cases hi;exact h (s,a) (by simp)
  ·exact ih hi (fun y hy=>h y (by simp[hy]))
end
end Go.Ev
namespace Go.Ev
noncomputable section
def ox(m0:Nat)(H H':AH)(R:bf->bf->Prop):Prop:=
 H.bL<=H'.bL∧∀φ bs w,m0<=H.bL->WR φ bs H w->∃aW,WR aW bs H' w∧kR m0 φ aW∧R φ aW
theorem HA{ds:List ir}{P:Program}{f nt m0:Nat}{v:AV}{H1 H H':AH}{t t':Tr AV}{todo:List b_}{R:bf->bf->Prop}(h:lC ds P f nt m0 v H1 t' H' todo)(hm:ox m0 H H' R)(hp:lQ todo=true)
 (ht:∀φ aW,R φ aW->∀i a',t'.bV i=some a'->∃a,t.bV i=some a∧∀x,VR φ a x->VR aW a' x) (k7:uy m0 ds):lC ds P f nt m0 v H1 t H todo:=by
 obtain⟨r,hq,hr⟩:=h;refine⟨r,hq,fun φ w bs cy cs cI hw hl hf=>?_⟩;obtain⟨hn,hm⟩:=hm;obtain⟨qh,k1,k2,k3⟩:=hm φ bs w cI hw;have jw:sV qh (jH ds none f nt t' todo) cy:=by
  obtain⟨b,a,WN,e1,e2,e3⟩:=hf;refine⟨b,a,WN,e1,⟨e2.fn,⟨e2.tr.1,fun i a' ha=>?_⟩,?_,e2.jL,e2.lA,e2.o9⟩,Py hp e3⟩
  ·obtain⟨a0,h1,h2⟩:=ht φ qh k3 i a' ha;obtain⟨x,h3,h4⟩:=e2.tr.2 i a0 h1;exact⟨x,h3,h2 x h4⟩
  ·exact JH k2 k7 e2.dr
 obtain⟨aW,w',g1,g2,g3,g4⟩:=hr qh w bs cy cs (by omega) k1 hl jw;exact⟨aW,w',g1,k2.ub g2,g3,g4⟩
theorem abD{P:Program}{f nt m0:Nat}{v:AV}{H1 H H':AH}{t t':Tr AV}{todo:List b_}{R:bf->bf->Prop}(h:bJ P f nt m0 v H1 t' H' todo)(hm:ox m0 H H' R)(hp:lQ todo=true)
 (ht:∀φ aW,R φ aW->∀i a',t'.bV i=some a'->∃a,t.bV i=some a∧∀x,VR φ a x->VR aW a' x):bJ P f nt m0 v H1 t H todo:=
 HA h hm hp ht (AK _)
theorem DD{P:Program}{f:FuncId}{args:LV}{H0 H H1:AH}{v v1:AV}{R:bf->bf->Prop}(h:dT P f args H0 v H)(hm:ox H0.bL H H1 R)(cI:H0.bL<=H.bL)(hv:∀φ aW,R φ aW->∀x,VR φ v x->VR aW v1 x):dT P f args H0 v1 H1:=by intro φ w bs args' cs ha hw hl;obtain⟨aW,w',g1,g2,g3,g4⟩:=h φ w bs args' cs ha hw hl;obtain⟨hn,hm⟩:=hm;obtain⟨qh,k1,k2,k3⟩:=hm aW bs w' cI g1;refine⟨qh,w',k1,g2.ub k2,g3,?_⟩;obtain⟨iJ,e',⟨v',rfl,j1⟩,j2⟩:=g4;exact⟨iJ,_,⟨v',rfl,hv _ _ k3 _ j1⟩,j2⟩
theorem YU{φ:bf}:∀{k:Nat} {vs:LV} {l:List Value},bc φ vs l->bc φ (vs.drop k) (l.drop k)
 |0,_,_,h=>h
 |k+1,[],l,h=>by cases h;simp[bc]
 |k+1,a::vs,l,h=>by obtain⟨v,l',rfl,_,h2⟩:=h;exact YU (k:=k) h2
theorem YV{φ:bf}:∀{k:Nat} {vs:LV} {l:List Value},bc φ vs l->bc φ (vs.take k) (l.take k)
 |0,_,_,h=>by simp[bc]
 |k+1,[],l,h=>by cases h;simp[bc]
 |k+1,a::vs,l,h=>by obtain⟨v,l',rfl,h1,h2⟩:=h;exact⟨v,l'.take k,rfl,h1,YV (k:=k) h2⟩
def GL(g k n:Nat):AV->Option AV
 |.bE id off len cap sz ex=>if id=g then(if off=k∧ex=false then some (.ad n len sz)else none)else some (.bE id off len cap sz ex)
 |.ab id off=>if id=g then none else some (.ab id off)
 |.ad id len sz=>if id=g then none else some (.ad id len sz)
 |a=>some a
def Dr(g k n:Nat):LV->Option LV
 |[]=>some []
 |a::l=>match GL g k n a,Dr g k n l with
  |some a',some l'=>some (a'::l')
  |_,_=>none
def AJ(g k n:Nat):aZ->Option aZ
 |.aw vs e=>match Dr g k n vs with|some l=>some (.aw l e)|none=>none
 |o=>some o
def Kv(g k n:Nat):List (Nat×aZ)->Option (List (Nat×aZ))
 |[]=>some []
 |(s,a)::l=>match Kv g k n l with
  |none=>none
  |some l'=>if s=g then some ((s,.b9 [])::l')else match AJ g k n a with
   |some a'=>some ((s,a')::l')
   |none=>none
def xe(g k n:Nat)(φ:bf):bf:=⟨fun i=>if i=n then(φ g).map (fun e=>⟨e.b,e.o+k,e.n⟩)else φ i,φ.ro⟩
theorem xf(g k n:Nat)(φ:bf)(i:Nat):xe g k n φ i=if i=n then(φ g).map (fun e=>⟨e.b,e.o+k,e.n⟩)else φ i:=rfl
theorem Ra{g k n:Nat}{φ:bf}(h:φ n=none):eg φ (xe g k n φ):=by refine⟨fun id e he=>?_,fun _ _ h=>h⟩;rw[xf];rw[aB (by rintro rfl;rw[h]at he;cases he)];exact he
theorem ajD{g k n:Nat}{φ:bf}(h:φ n=none){a a':AV}{v:Value}(ha:GL g k n a=some a')(hv:VR φ a v):VR (xe g k n φ) a' v:=by
 have hp:=Ra (g:=g) (k:=k) h;unfold GL at ha;split at ha
 ·split at ha
  ·rename_i hg;subst hg;split at ha
   ·rename_i hk;obtain⟨rfl,rfl⟩:=hk;cases ha;simp only[VR]at hv⊢;obtain⟨e,x,c,h1,h2,h3,h4,h5,h6⟩:=hv;refine .inr ⟨⟨e.b,e.o+_,e.n⟩,x,c,?_,h2,h3,h4,h6⟩;rw[xf];rw[aY rfl,h1];rfl
   ·cases ha
  ·cases ha;exact VR.gW hp _ _ hv
 ·split at ha
  ·cases ha
  ·cases ha;exact VR.gW hp _ _ hv
 ·split at ha
  ·cases ha
  ·cases ha;exact VR.gW hp _ _ hv
 ·cases ha;exact VR.gW hp _ _ hv
theorem aaa{g k n:Nat}{φ:bf}(h:φ n=none):∀{l l':LV} {vs:List Value},Dr g k n l=some l'->bc φ l vs->bc (xe g k n φ) l' vs
 |[],l',vs,h1,h2=>by cases h1;exact h2
 |a::l,l',vs,h1,h2=>by
  simp only[Dr]at h1;split at h1
  ·rename_i a1 l1 e1 e2;cases h1;obtain⟨v,eV,rfl,k1,k2⟩:=h2;exact⟨v,eV,rfl,ajD h e1 k1,aaa h e2 k2⟩
  ·cases h1
theorem ajC{g k n:Nat}{a a':AV}(ha:GL g k n a=some a'):a'.dR=a.dR:=by
 unfold GL at ha;split at ha
 ·split at ha
  ·split at ha
   ·cases ha;rfl
   ·cases ha
  ·cases ha;rfl
 ·split at ha
  ·cases ha
  ·cases ha;rfl
 ·split at ha
  ·cases ha
  ·cases ha;rfl
 ·cases ha;rfl
theorem Z'{g k n:Nat}:∀{l l':LV},Dr g k n l=some l'->l'.length=l.length∧l'.all AV.dR=l.all AV.dR
 |[],l',h=>by cases h;exact⟨rfl,rfl⟩
 |a::l,l',h=>by
  simp only[Dr]at h;split at h
  ·rename_i a1 l1 e1 e2;cases h;have:=Z' e2;exact⟨by simp[this.1],by simp[this.2,ajC e1]⟩
  ·cases h
theorem ajF{g k n:Nat}{φ:bf}(h:φ n=none){ob bW:aZ}{e:PE}{o:Obj}(ho:AJ g k n ob=some bW)(hr:OR φ ob e o):OR (xe g k n φ) bW e o:=by
 unfold AJ at ho;split at ho
 ·split at ho
  ·rename_i l hl;cases ho;obtain⟨cs,el,h1,h2,h3,h4,h5⟩:=hr;have jy:=Z' hl;exact⟨cs,el,h1,h2,by rw[jy.1];exact h3,by rw[jy.1];exact aaa h hl h4,by rw[jy.2];exact h5⟩
  ·cases ho
 ·cases ho;exact OR.CC (Ra h) hr
theorem ajE{g k n:Nat}{ob bW:aZ}(ho:AJ g k n ob=some bW):bW.aU=ob.aU:=by
 unfold AJ at ho;split at ho
 ·split at ho
  ·cases ho;rfl
  ·cases ho
 ·cases ho;rfl
theorem aab{g k n:Nat}:∀{l l':List (Nat×aZ)},Kv g k n l=some l'->
 (∀id,id≠g->(dq l id=none->dq l' id=none)∧∀bW,dq l' id=some bW->∃ob,dq l id=some ob∧AJ g k n ob=some bW)∧∀x,dq l g=some x->dq l' g=some (.b9 [])
 |[],l',h=>by cases h;exact⟨fun id _=>⟨fun _=>rfl,fun bW h=>by cases h⟩,fun x h=>by cases h⟩
 |(s,a)::l,l',h=>by
  simp only[Kv]at h;split at h
  ·cases h
  ·rename_i l1 h1;obtain⟨k1,k2⟩:=aab h1;split at h
   ·rename_i hs;cases h;subst hs;refine⟨fun id dF=>?_,fun x _=>by simp[dq]⟩;simp only[dq,aB dF];exact k1 id dF
   ·rename_i hs;split at h
    ·rename_i a' ha;cases h;refine⟨fun id dF=>?_,fun x hx=>?_⟩
     ·simp only[dq];by_cases hi:id=s
      ·subst hi;simp only[if_true];exact⟨fun h=>(by cases h),fun bW h=>(by cases h;exact⟨a,rfl,ha⟩)⟩
      ·simp only[aB hi];exact k1 id dF
     ·simp only[dq]at hx⊢;have:¬g=s:=fun e=>hs e.symm
      rw[aB this]at hx⊢;exact k2 x hx
    ·cases h
theorem anF{m0 g k n:Nat}{l l':List (Nat×aZ)}{vs:LV}{el:TypeId}(h:Kv g k n l=some l')(hg:dq l g=some (.aF vs el))(hn:dq l n=none)(hk:k<=vs.length):
 ox m0 (an l n) (an (l'++[(n,.aF (vs.drop k) el)]) (n+1)) (fun φ aW=>φ n=none∧aW=xe g k n φ):=by
 obtain⟨k1,k2⟩:=aab h;refine⟨Nat.le_succ n,fun φ bs w cI hw=>?_⟩;have cI:m0<=n:=cI;have acm:φ n=none:=by
  cases hp:φ n with
  |none=>rfl
  |some e=>have:=(hw.lt n e hp).2.2;exact absurd this (Nat.lt_irrefl n)
 have Bg:n≠g:=by rintro rfl;rw[hg]at hn;cases hn
 have jl:∀id,(an (l'++[(n,.aF (vs.drop k) el)]) (n+1)).bu id=(match dq l' id with|some x=>some x|none=>if id=n then some (.aF (vs.drop k) el)else none):=by intro id;rw[dy,BE];rfl
 have lv:∀{id ob},(an (l'++[(n,.aF (vs.drop k) el)]) (n+1)).bu id=some ob->(id=g∧ob=.b9 [])∨(id=n∧ob=.aF (vs.drop k) el)∨(id≠g∧id≠n∧∃ec,dq l id=some ec∧AJ g k n ec=some ob):=by
  intro id ob ho;rw[jl]at ho;by_cases h1:id=g
  ·subst h1;rw[k2 _ hg]at ho;cases ho;exact .inl ⟨rfl,rfl⟩
  ·by_cases h2:id=n
   ·subst h2;rw[(k1 id h1).1 hn]at ho;simp at ho;exact .inr (.inl ⟨rfl,ho.symm⟩)
   ·cases hl:dq l' id with
    |none=>rw[hl]at ho;simp[h2]at ho
    |some x=>rw[hl]at ho;cases ho;exact .inr (.inr ⟨h1,h2,(k1 id h1).2 _ hl⟩)
 have kG:∀id,(an l n).bu id=dq l id:=dy l n;have Fl:∀{id ob e},(an (l'++[(n,.aF (vs.drop k) el)]) (n+1)).bu id=some ob->ob.aU=true->xe g k n φ id=some e->
  ∃j ec e0,(an l n).bu j=some ec∧ec.aU=true∧φ j=some e0∧e0.b=e.b∧id=(if j=g then n else j):=by
  intro id ob e ho hl he;rcases lv ho with⟨h1,h2⟩|⟨h1,h2⟩|⟨h1,h2,ec,h3,h4⟩
  ·subst h2;cases hl
  ·subst h1;rw[xf]at he;rw[aY rfl]at he;obtain⟨e0,h5,h6⟩:=Option.map_eq_some_iff.1 he;exact⟨g,_,e0,(kG g).trans hg,rfl,h5,by rw[←h6],by rw[aY rfl]⟩
  ·rw[xf]at he;rw[aB h2]at he;exact⟨id,ec,e,(kG id).trans h3,by rw[←ajE h4];exact hl,he,rfl,by rw[aB h1]⟩
 refine⟨xe g k n φ,⟨?_,?_,?_,?_,hw.sE rfl (fun _ _ _=>rfl) fun id ob e h1 l1 h2=>.inl ?_⟩,⟨fun id dF=>?_,fun _ _ h=>h⟩,acm,rfl⟩
 ·intro id ob e ho he;rcases lv ho with⟨h1,h2⟩|⟨h1,h2⟩|⟨h1,h2,ec,h3,h4⟩
  ·subst h2;have hb:e.b<w.heap.size:=by
    rw[xf]at he;split at he
    ·obtain⟨e0,h5,h6⟩:=Option.map_eq_some_iff.1 he;rw[←h6];exact(hw.lt _ e0 h5).1
    ·exact(hw.lt _ e he).1
   exact⟨w.heap[e.b]'hb,Array.getElem?_eq_getElem hb,trivial⟩
  ·subst h1 h2;rw[xf]at he;rw[aY rfl]at he;obtain⟨e0,h5,rfl⟩:=Option.map_eq_some_iff.1 he;obtain⟨o,j1,cs,ic,rfl,cJ,al7,iB,vP⟩:=hw.ey g _ e0 ((kG g).trans hg) h5;refine⟨_,j1,cs,ic,rfl,cJ,?_,?_,?_⟩
   ·simp only[List.length_drop];omega
   ·have:=YU (k:=k) iB;rw[List.drop_take,List.drop_drop]at this;show bc φ.pu _ _;simpa using this
   ·rw[List.all_eq_true]at vP⊢;exact fun x hx=>vP x (List.mem_of_mem_drop hx)
  ·rw[xf]at he;rw[aB h2]at he;obtain⟨o,j1,j2⟩:=hw.ey id ec e ((kG id).trans h3) he;exact⟨o,j1,ajF acm h4 j2⟩
 ·intro id iC ob bW e e' h1 l1 h2 h3 l2 h4 hb;obtain⟨j,o,e0,a1,a2,a3,a4,rfl⟩:=Fl h1 l1 h2;obtain⟨j',o',e0',b1,b2,b3,b4,rfl⟩:=Fl h3 l2 h4;have:=hw.kx j j' o o' e0 e0' a1 a2 a3 b1 b2 b3 (by rw[a4,b4,hb]);rw[this]
 ·intro id e he;rw[xf]at he;split at he
  ·rename_i h1;obtain⟨e0,h5,rfl⟩:=Option.map_eq_some_iff.1 he;have:=hw.lt _ e0 h5;exact⟨this.1,this.2.1,by subst h1;exact lR _⟩
  ·have:=hw.lt _ e he;exact⟨this.1,this.2.1,Nat.lt_succ_of_lt this.2.2⟩
 ·intro id ob ho;rcases lv ho with⟨h1,h2⟩|⟨h1,h2⟩|⟨h1,h2,ec,h3,h4⟩
  ·subst h1;exact Nat.lt_succ_of_lt (hw.nx id _ ((kG id).trans hg))
  ·subst h1;exact lR _
  ·exact Nat.lt_succ_of_lt (hw.nx id _ ((kG id).trans h3))
 ·obtain⟨j,o,e0,a1,a2,a3,a4,_⟩:=Fl h1 l1 h2;exact⟨j,o,e0,a1,a2,a3,a4⟩
 ·rw[xf];rw[aB (by omega)]
end
end Go.Ev
namespace Go.Ev
noncomputable section
def tY(g:Nat):AV->AV
 |.bE id off len cap sz ex=>bif Nat.beq id g&&Nat.beq off 0 then .ad id len sz else .bE id off len cap sz ex
 |a=>a
def Ct(g:Nat):LV->LV
 |[]=>[]
 |a::l=>tY g a::Ct g l
def Cu(g:Nat):aZ->aZ
 |.aw vs e=>.aw (Ct g vs) e
 |o=>o
def Ah(g:Nat)(new:aZ):List (Nat×aZ)->List (Nat×aZ)
 |[]=>[]
 |(s,a)::l=>(s,bif Nat.beq s g then new else Cu g a)::Ah g new l
theorem Xf{g:Nat}{φ:bf}{a:AV}{v:Value}(hv:VR φ a v):VR φ (tY g a) v:=by
 unfold tY;split
 ·rename_i id off len cap sz ex;cases hc:Nat.beq id g&&Nat.beq off 0
  ·exact hv
  ·simp only[cW]at hc;have h0:=eu hc.2;subst h0;simp only[cond_true];simp only[VR]at hv⊢;obtain⟨e,x,c,h1,h2,h3,h4,h5,h6⟩:=hv;exact .inr ⟨e,x,c,h1,h2,h3,h4,h6⟩
 ·exact hv
theorem awF(g:Nat)(a:AV):(tY g a).dR=a.dR:=by
 unfold tY;split
 ·rename_i id off len cap sz ex;cases hc:Nat.beq id g&&Nat.beq off 0<;>rfl
 ·rfl
theorem ahr{g:Nat}{φ:bf}:∀{l:LV} {vs:List Value},bc φ l vs->bc φ (Ct g l) vs
 |[],_,h=>h
 |a::l,_,h=>by obtain⟨v,eV,rfl,k1,k2⟩:=h;exact⟨v,eV,rfl,Xf k1,ahr k2⟩
theorem ahq(g:Nat):∀l:LV,(Ct g l).length=l.length∧(Ct g l).all AV.dR=l.all AV.dR
 |[]=>⟨rfl,rfl⟩
 |a::l=>by have:=ahq g l;exact⟨by simp[Ct,this.1],by simp[Ct,this.2,awF]⟩
theorem awG{g:Nat}{φ:bf}{ob:aZ}{e:PE}{o:Obj}(h:OR φ ob e o):OR φ (Cu g ob) e o:=by
 unfold Cu;split
 ·rename_i vs jT;obtain⟨cs,el,h1,h2,h3,h4,h5⟩:=h;have jy:=ahq g vs;exact⟨cs,el,h1,h2,by rw[jy.1];exact h3,by rw[jy.1];exact ahr h4,by rw[jy.2];exact h5⟩
 ·exact h
theorem ahs(g:Nat)(ob:aZ):(Cu g ob).aU=ob.aU:=by unfold Cu;split<;>rfl
theorem FV{g:Nat}{new:aZ}:∀{l:List (Nat×aZ)} {id:Nat} {bW:aZ},dq (Ah g new l) id=some bW->∃ob,dq l id=some ob∧((id=g∧bW=new)∨bW=Cu g ob)
 |[],id,bW,h=>by cases h
 |(s,a)::l,id,bW,h=>by
  simp only[Ah,dq]at h⊢;by_cases hi:id=s
  ·subst hi;rw[aY rfl]at h⊢;cases h;refine⟨a,rfl,?_⟩;cases hb:Nat.beq id g
   ·exact .inr rfl
   ·exact .inl ⟨eu hb,rfl⟩
  ·rw[aB hi]at h⊢;exact FV h
theorem MK{m0 g n:Nat}{l:List (Nat×aZ)}{old new:aZ}(hg:dq l g=some old)(ho:∀φ e o,OR φ old e o->OR φ new e o)(k8:old.aU=true):
 ox m0 (an l n) (an (Ah g new l) n) (fun φ aW=>aW=φ):=by
 refine⟨fB n,fun φ bs w cI hw=>⟨φ,⟨?_,?_,?_,?_,hw.sE rfl (fun _ _ _=>rfl) fun id ob e h1 l1 h2=>.inl ?_⟩,kR.refl _ _,rfl⟩⟩
 ·intro id ob e h1 h2;rw[dy]at h1;obtain⟨ec,h3,h4⟩:=FV h1;obtain⟨o,h5,h6⟩:=hw.ey id ec e (by rw[dy];exact h3) h2;refine⟨o,h5,?_⟩;rcases h4 with⟨rfl,rfl⟩|rfl
  ·rw[hg]at h3;cases h3;exact ho _ _ _ h6
  ·exact awG h6
 ·intro id iC ob bW e e' h1 l1 h2 h3 l2 h4 hb;rw[dy]at h1 h3;obtain⟨o1,k1,k2⟩:=FV h1;obtain⟨o2,k3,k4⟩:=FV h3;have aU:∀{id ob ec},dq l id=some ec->((id=g∧ob=new)∨ob=Cu g ec)->ob.aU=true->ec.aU=true:=by
   intro id ob ec q1 q2 q3;rcases q2 with⟨rfl,rfl⟩|rfl
   ·rw[hg]at q1;cases q1;exact k8
   ·rwa[ahs]at q3
  exact hw.kx id iC o1 o2 e e' (by rw[dy];exact k1) (aU k1 k2 l1) h2 (by rw[dy];exact k3) (aU k3 k4 l2) h4 hb
 ·exact hw.lt
 ·intro id ob h1;rw[dy]at h1;obtain⟨o1,k1,_⟩:=FV h1;exact hw.nx id o1 (by rw[dy];exact k1)
 ·rw[dy]at h1;obtain⟨o1,k1,k2⟩:=FV h1;refine⟨id,o1,e,by rw[dy];exact k1,?_,h2,rfl⟩;rcases k2 with⟨rfl,rfl⟩|rfl
  ·rw[hg]at k1;cases k1;exact k8
  ·rwa[ahs]at l1
theorem CT{φ:bf}{vs:LV}{el ic:TypeId}(hp:vs.all iD=true){e:PE}{o:Obj}(h:OR φ (.aw vs el) e o):OR φ (.aF vs ic) e o:=by obtain⟨cs,jT,h1,h2,h3,h4,h5⟩:=h;exact⟨cs,jT,h1,h2,h3,bc.yB _ _ (by rw[ya];exact hp) h4,h5⟩
theorem ahI{φ:bf}{vs:LV}{el ic:TypeId}(k:Nat){e:PE}{o:Obj}(h:OR φ (.aF vs el) e o):OR φ (.aF (vs.take k) ic) e o:=by
 obtain⟨cs,jT,h1,h2,h3,h4,h5⟩:=h;refine⟨cs,jT,h1,h2,?_,?_,?_⟩
 ·simp only[List.length_take];omega
 ·have:=YV (k:=k) h4;rw[List.take_take]at this;simpa using this
 ·rw[List.all_eq_true]at h5⊢;exact fun x hx=>h5 x (List.mem_of_mem_take hx)
end
end Go.Ev
namespace Go.Ev
noncomputable section
theorem adr{g i:Nat}{a':AV}:∀{l:List (Nat×AV)},(aQ (l.map fun x=>(x.1,tY g x.2))).bV i=some a'->∃a,(aQ l).bV i=some a∧a'=tY g a
 |[],h=>by rw[nE]at h;cases h
 |(s,b)::l,h=>by
  rw[nE]at h;rw[nE];simp only[List.map_cons,wh]at h⊢;by_cases hs:i=s
  ·rw[aY hs]at h⊢;cases h;exact⟨b,rfl,rfl⟩
  ·rw[aB hs]at h⊢;rw[←nE]at h⊢;exact adr h
theorem alM{ds:List ir}{P:Program}{f nt m0 g n:Nat}{v:AV}{H1:AH}{T:List (Nat×AV)}{l:List (Nat×aZ)}{old new:aZ}{todo:List b_}
 (h:lC ds P f nt m0 v H1 (aQ (T.map fun x=>(x.1,tY g x.2))) (an (Ah g new l) n) todo) (hg:dq l g=some old) (ho:∀φ e o,OR φ old e o->OR φ new e o) (k8:old.aU=true) (hp:lQ todo=true) (k7:uy m0 ds):
 lC ds P f nt m0 v H1 (aQ T) (an l n) todo:=by
 refine HA (k7:=k7) h (MK hg ho k8) hp (fun φ aW hR i a' hi=>?_);subst hR;obtain⟨a,h1,rfl⟩:=adr hi;exact⟨a,h1,fun x hx=>Xf hx⟩
theorem abE{P:Program}{f nt m0 g n:Nat}{v:AV}{H1:AH}{T:List (Nat×AV)}{l:List (Nat×aZ)}{old new:aZ}{todo:List b_}
 (h:bJ P f nt m0 v H1 (aQ (T.map fun x=>(x.1,tY g x.2))) (an (Ah g new l) n) todo) (hg:dq l g=some old) (ho:∀φ e o,OR φ old e o->OR φ new e o) (k8:old.aU=true) (hp:lQ todo=true):
 bJ P f nt m0 v H1 (aQ T) (an l n) todo:=
 alM h hg ho k8 hp (AK _)
theorem KK{P:Program}{f:FuncId}{args:LV}{H0:AH}{v:AV}{g n:Nat}{l:List (Nat×aZ)}{old new:aZ}(h:dT P f args H0 v (an l n))(hg:dq l g=some old)(ho:∀φ e o,OR φ old e o->OR φ new e o)(k8:old.aU=true)(cI:H0.bL<=n):
 dT P f args H0 (tY g v) (an (Ah g new l) n):=
 DD h (MK hg ho k8) cI (fun φ aW hR x hx=>by subst hR;exact Xf hx)
theorem BJ{m0 n:Nat}{l:List (Nat×aZ)}(ob:aZ)(hn:dq l n=none):ox m0 (an l n) (an (l++[(n,ob)]) (n+1)) (fun φ aW=>aW=φ):=by
 refine⟨Nat.le_succ n,fun φ bs w cI hw=>⟨φ,⟨?_,?_,?_,?_,hw.sE rfl (fun _ _ _=>rfl) fun id ob9 e h1 l1 h2=>.inl ?_⟩,kR.refl _ _,rfl⟩⟩;all_goals
  have hφ:φ n=none:=by
   cases hp:φ n with
   |none=>rfl
   |some e=>exact absurd (hw.lt n e hp).2.2 (Nat.lt_irrefl n)
 all_goals
  have fv:∀{id bW e},(an (l++[(n,ob)]) (n+1)).bu id=some bW->φ id=some e->(an l n).bu id=some bW:=by
   intro id bW e h1 h2;rw[dy,BE]at h1;rw[dy];cases hl:dq l id with
   |some x=>rw[hl]at h1;exact h1
   |none=>
    rw[hl]at h1;simp only[dq]at h1;split at h1
    ·rename_i dF;rw[dF,hφ]at h2;cases h2
    ·cases h1
 ·intro id bW e h1 h2;exact hw.ey id bW e (fv h1 h2) h2
 ·intro id iC o o' e e' h1 l1 h2 h3 l2 h4 hb;exact hw.kx id iC o o' e e' (fv h1 h2) l1 h2 (fv h3 h4) l2 h4 hb
 ·intro id e h1;have:=hw.lt id e h1;exact⟨this.1,this.2.1,Nat.lt_succ_of_lt this.2.2⟩
 ·intro id bW h1;rw[dy,BE]at h1;cases hl:dq l id with
  |some x=>exact Nat.lt_succ_of_lt (hw.nx id x (by rw[dy];exact hl))
  |none=>
   rw[hl]at h1;simp only[dq]at h1;split at h1
   ·rename_i dF;rw[dF];exact lR n
   ·cases h1
 ·exact⟨id,ob9,e,fv h1 h2,l1,h2,rfl⟩
theorem sY{φ:bf}{i sz:Nat}{x:Value}(h:VR φ .bB x):VR φ (.ad i 0 sz) x:=by simp only[VR]at h⊢;exact .inl ⟨trivial,h⟩
theorem aj2{P:Program}{f:FuncId}{args:LV}{H0:AH}{n sz:Nat}{l:List (Nat×aZ)}{t:TypeId}(h:dT P f args H0 .bB (an l n))(hn:dq l n=none)(cI:H0.bL<=n):
 dT P f args H0 (.ad n 0 sz) (an (l++[(n,.aF [] t)]) (n+1)):=
 DD h (BJ _ hn) cI (fun φ aW hR x hx=>by subst hR;exact sY hx)
def BM(n sz:Nat)(wC:LN):List (Nat×AV)->List (Nat×AV)
 |[]=>[]
 |(s,a)::l=>(s,match a with|.bB=>bif wC.any (Nat.beq s)then .ad n 0 sz else .bB|a=>a)::BM n sz wC l
theorem adD{n sz i:Nat}{wC:LN}{a':AV}:∀{l:List (Nat×AV)},(aQ (BM n sz wC l)).bV i=some a'->∃a,(aQ l).bV i=some a∧∀φ x,VR φ a x->VR φ a' x
 |[],h=>by rw[nE]at h;cases h
 |(s,b)::l,h=>by
  rw[nE]at h;rw[nE];simp only[BM,wh]at h⊢;by_cases hs:i=s
  ·rw[aY hs]at h⊢;refine⟨b,rfl,fun φ x hx=>?_⟩;split at h
   ·cases hc:wC.any (Nat.beq s)
    ·rw[hc]at h;cases h;exact hx
    ·rw[hc]at h;cases h;exact sY hx
   ·cases h;exact hx
  ·rw[aB hs]at h⊢;rw[←nE]at h⊢;exact adD h
theorem alJ{ds:List ir}{P:Program}{f nt m0 n:Nat}{v:AV}{H1:AH}{T:List (Nat×AV)}{l:List (Nat×aZ)}{todo:List b_}(sz:Nat)(t:TypeId)(wC:LN)
 (h:lC ds P f nt m0 v H1 (aQ (BM n sz wC T)) (an (l++[(n,.aF [] t)]) (n+1)) todo) (hn:dq l n=none) (hp:lQ todo=true) (k7:uy m0 ds):
 lC ds P f nt m0 v H1 (aQ T) (an l n) todo:=by
 refine HA (k7:=k7) h (BJ _ hn) hp (fun φ aW hR i a' hi=>?_);subst hR;obtain⟨a,h1,h2⟩:=adD hi;exact⟨a,h1,fun x hx=>h2 _ x hx⟩
theorem A'{P:Program}{f nt m0 n:Nat}{v:AV}{H1:AH}{T:List (Nat×AV)}{l:List (Nat×aZ)}{todo:List b_}(sz:Nat)(t:TypeId)(wC:LN)
 (h:bJ P f nt m0 v H1 (aQ (BM n sz wC T)) (an (l++[(n,.aF [] t)]) (n+1)) todo) (hn:dq l n=none) (hp:lQ todo=true):
 bJ P f nt m0 v H1 (aQ T) (an l n) todo:=
 alJ sz t wC h hn hp (AK _)
theorem LH{ds:List ir}{P:Program}{f nt m0:Nat}{v:AV}{H1 H H':AH}{t:Tr AV}{todo:List b_}(h:lC ds P f nt m0 v H1 t H' todo)(hm:ox m0 H H' (fun φ aW=>aW=φ))(hp:lQ todo=true)(k7:uy m0 ds):lC ds P f nt m0 v H1 t H todo:=
 HA (k7:=k7) h hm hp (fun φ aW hR i a' hi=>by subst hR;exact⟨a',hi,fun x hx=>hx⟩)
theorem Ej{P:Program}{f nt m0:Nat}{v:AV}{H1 H H':AH}{t:Tr AV}{todo:List b_}(h:bJ P f nt m0 v H1 t H' todo)(hm:ox m0 H H' (fun φ aW=>aW=φ))(hp:lQ todo=true):bJ P f nt m0 v H1 t H todo:=
 LH h hm hp (AK _)
theorem apE{P:Program}{l:Nat}{a:AV}{H0 H H1:AH}{v v1:AV}{R:bf->bf->Prop}(h:yI P l a H0 v H)(hm:ox H0.bL H H1 R)(cI:H0.bL<=H.bL)(hv:∀φ aW,R φ aW->∀x,VR φ v x->VR aW v1 x):yI P l a H0 v1 H1:=by obtain⟨st,pe,fn,tmps,nt,p,assign,body,d,fr,h1,h2,h3⟩:=h;refine⟨st,pe,fn,tmps,nt,p,assign,body,d,fr,h1,h2,fun φ w bs cy cs hw hl hf=>?_⟩;obtain⟨aW,w',g1,g2,g3,g4⟩:=h3 φ w bs cy cs hw hl hf;obtain⟨hn,hm⟩:=hm;obtain⟨qh,k1,k2,k3⟩:=hm aW bs w' cI g1;refine⟨qh,w',k1,g2.ub k2,g3,?_⟩;intro c cs' mB;obtain⟨v',j1,j2⟩:=g4 c cs' mB;exact⟨v',hv _ _ k3 _ j1,j2⟩
theorem anR{m0 g:Nat}{H H1:AH}(hm:Mv H H1 g):ox m0 H H1 (fun φ aW=>aW=E' g H.bL φ):=
 ⟨by rw[hm.next];omega,fun φ bs w cI hw=>⟨_,(hm.wr hw).1,⟨fun id dF=>aB (show¬id=H.bL by omega),fun _ _ h=>h⟩,rfl⟩⟩
theorem apF{P:Program}{l:Nat}{a:AV}{H0 H H1:AH}{b:Bool}{g:Nat}(h:yI P l a H0 (.ai b) H)(hm:Mv H H1 g)(hn:H0.bL<=H.bL):yI P l a H0 (.ai b) H1:=
 apE h (anR hm) hn (fun φ aW _ x hx=>by simpa[VR]using hx)
def BL(n sz:Nat):LV->LV
 |[]=>[]
 |.bB::l=>.ad n 0 sz::BL n sz l
 |a::l=>a::BL n sz l
theorem Ik{φ:bf}{n sz:Nat}:∀{l:LV} {vs:List Value},bc φ l vs->bc φ (BL n sz l) vs
 |[],vs,h=>h
 |a::l,vs,h=>by
  obtain⟨v,eV,rfl,h1,h2⟩:=h;have:=Ik (n:=n) (sz:=sz) h2;cases a<;>first
   |exact⟨v,eV,rfl,sY h1,this⟩
   |exact⟨v,eV,rfl,h1,this⟩
theorem adC(n sz:Nat):∀l:LV,(BL n sz l).length=l.length∧(BL n sz l).all AV.dR=l.all AV.dR
 |[]=>⟨rfl,rfl⟩
 |a::l=>by have:=adC n sz l;cases a<;>simp[BL,this,AV.dR]
theorem ax7{m0 g n sz:Nat}{l l':List (Nat×aZ)}{vs:LV}{el t:TypeId}(hg:dq l g=some (.aw vs el))(hl:∀id,dq l' id=if id=g then some (.aw (BL n sz vs) el)else dq l id)(hn:dq l n=none):
 ox m0 (an l n) (an (l'++[(n,.aF [] t)]) (n+1)) (fun φ aW=>aW=φ):=by
 have Bg:g≠n:=by rintro rfl;rw[hg]at hn;cases hn
 have S9:dq l' n=none:=by rw[hl,aB (Ne.symm Bg)];exact hn
 have h1:=BJ (m0:=m0) (n:=n) (l:=l') (.aF [] t) S9;refine⟨Nat.le_succ n,fun φ bs w cI hw=>?_⟩;have n_:WR φ bs (an l' n) w:=by
  refine⟨?_,?_,hw.lt,?_,hw.sE rfl (fun _ _ _=>rfl) fun id ob e h1 l1 h2=>.inl ?_⟩
  ·intro id ob e k1 k2;rw[dy,hl]at k1;by_cases dF:id=g
   ·rw[aY dF]at k1;cases k1;obtain⟨o,q1,q2⟩:=hw.ey id _ e (by rw[dy,dF];exact hg) k2;refine⟨o,q1,?_⟩;obtain⟨cs,ic,rfl,a1,a2,a3,a4⟩:=q2;have bF:=adC n sz vs;exact⟨cs,ic,rfl,a1,by rw[bF.1];exact a2,by rw[bF.1];exact Ik a3,by rw[bF.2];exact a4⟩
   ·rw[aB dF]at k1;exact hw.ey id ob e (by rw[dy];exact k1) k2
  ·have lv:∀{id ob},(an l' n).bu id=some ob->ob.aU=true->∃ec,(an l n).bu id=some ec∧ec.aU=true:=by
    intro id ob k1 k2;rw[dy,hl]at k1;by_cases dF:id=g
    ·exact⟨_,by rw[dy,dF];exact hg,rfl⟩
    ·rw[aB dF]at k1;exact⟨ob,by rw[dy];exact k1,k2⟩
   intro id iC ob bW e e' k1 l1 k2 k3 l2 k4 hb;obtain⟨o1,q1,q2⟩:=lv k1 l1;obtain⟨o2,q3,q4⟩:=lv k3 l2;exact hw.kx id iC o1 o2 e e' q1 q2 k2 q3 q4 k4 hb
  ·intro id ob k1;rw[dy,hl]at k1;by_cases dF:id=g
   ·rw[dF];exact hw.nx g (.aw vs el) (by rw[dy];exact hg)
   ·rw[aB dF]at k1;exact hw.nx id ob (by rw[dy];exact k1)
  ·rw[dy,hl]at h1;by_cases dF:id=g
   ·exact⟨id,_,e,by rw[dy,dF];exact hg,rfl,h2,rfl⟩
   ·rw[aB dF]at h1;exact⟨id,ob,e,by rw[dy];exact h1,l1,h2,rfl⟩
 exact h1.2 φ bs w cI n_
end
end Go.Ev
namespace Go.Ev
noncomputable section
def Ga(g:Nat)(vs:List AV)(φ aW:bf):Prop:=
 eg φ aW∧∀e,φ g=some e->∃(eC:Array Value) (el:TypeId) (fz:Nat×Nat),aW.ro e.b=some (.cells eC el fz)∧e.o+vs.length<=eC.size∧bc aW.pu vs ((eC.toList.drop e.o).take vs.length)
mutual
def oC(g:Nat)(vs:List AV):AV->AV
 |.ad id len sz=>bif Nat.beq id g&&Nat.beq vs.length (len*sz)then .ax vs len sz else .ad id len sz
 |.au cs=>.au (qp g vs cs)
 |.aJ cs=>.aJ (qp g vs cs)
 |a=>a
def qp(g:Nat)(vs:List AV):List AV->List AV
 |[]=>[]
 |a::l=>oC g vs a::qp g vs l
end
mutual
theorem RM{g:Nat}{vs:List AV}{φ aW:bf}(h:Ga g vs φ aW):∀{a:AV} {v:Value},VR φ a v->VR aW (oC g vs a) v
 |.ad id len sz,v,hv=>by
  simp only[oC];cases hc:Nat.beq id g&&Nat.beq vs.length (len*sz)
  ·exact VR.gW h.1 _ _ hv
  ·simp only[Bool.and_eq_true]at hc;have h1:=Nat.eq_of_beq_eq_true hc.1;have h2:=Nat.eq_of_beq_eq_true hc.2;subst h1;simp only[cond_true,VR];simp only[VR]at hv;rcases hv with⟨rfl,rfl⟩|⟨e,x,c,h3,rfl,h4,h5,h6⟩
   ·exact⟨none,0,rfl,h2,.inl rfl⟩
   ·refine⟨_,c,rfl,h2,?_⟩;by_cases h0:len=0
    ·exact .inl h0
    ·right;obtain⟨eC,el,fz,k1,k2,k3⟩:=h.2 e h3;have hx:x=e.o:=by
      rcases h4 with h4|h4
      ·omega
      ·exact h4
     subst hx;exact⟨e.b,e.o,eC,el,fz,rfl,h5,k1,k2,k3⟩
 |.au cs,v,hv=>by simp only[oC,VR]at hv⊢;obtain⟨cs',h1,h2⟩:=hv;exact⟨cs',h1,K7 h h2⟩
 |.aJ cs,v,hv=>by simp only[oC,VR]at hv⊢;obtain⟨cs',h1,h2⟩:=hv;exact⟨cs',h1,K7 h h2⟩
 |.ai _,v,hv=>VR.gW h.1 _ _ hv
 |.ck _ _,v,hv=>VR.gW h.1 _ _ hv
 |.aa _,v,hv=>VR.gW h.1 _ _ hv
 |.ab _ _,v,hv=>VR.gW h.1 _ _ hv
 |.om,v,hv=>VR.gW h.1 _ _ hv
 |.bE ..,v,hv=>VR.gW h.1 _ _ hv
 |.bB,v,hv=>VR.gW h.1 _ _ hv
 |.aH _,v,hv=>VR.gW h.1 _ _ hv
 |.mF,v,hv=>VR.gW h.1 _ _ hv
 |.bR ..,v,hv=>VR.gW h.1 _ _ hv
 |.gd _,v,hv=>VR.gW h.1 _ _ hv
 |.pC,v,hv=>VR.gW h.1 _ _ hv
 |.eK ..,v,hv=>VR.gW h.1 _ _ hv
 |.ly,v,hv=>VR.gW h.1 _ _ hv
 |.tc _,v,hv=>VR.gW h.1 _ _ hv
 |.zJ _,v,hv=>VR.gW h.1 _ _ hv
 |.tH ..,v,hv=>VR.gW h.1 _ _ hv
 |.su ..,v,hv=>VR.gW h.1 _ _ hv
 |.ax ..,v,hv=>VR.gW h.1 _ _ hv
 |.oU _,v,hv=>VR.gW h.1 _ _ hv
theorem K7{g:Nat}{vs:List AV}{φ aW:bf}(h:Ga g vs φ aW):∀{l:List AV} {m:List Value},bc φ l m->bc aW (qp g vs l) m
 |[],m,hv=>by simpa[bc,qp]using hv
 |a::l,m,hv=>by simp only[bc,qp]at hv⊢;obtain⟨v,m',h1,h2,h3⟩:=hv;exact⟨v,m',h1,RM h h2,K7 h h3⟩
end
theorem akU(g:Nat)(vs:List AV)(a:AV):(oC g vs a).dR=a.dR:=by
 cases a<;>try rfl
 rename_i id len sz;simp only[oC];cases Nat.beq id g&&Nat.beq vs.length (len*sz)<;>rfl
theorem aba(g:Nat)(vs:List AV):∀l:List AV,(qp g vs l).length=l.length∧(qp g vs l).all AV.dR=l.all AV.dR
 |[]=>⟨rfl,rfl⟩
 |a::l=>by have:=aba g vs l;exact⟨by simp[qp,this.1],by simp[qp,this.2,akU]⟩
def xl(g:Nat)(vs:List AV):aZ->aZ
 |.aw cs e=>.aw (qp g vs cs) e
 |o=>o
def qZ(g:Nat)(vs:List AV):List (Nat×aZ)->List (Nat×aZ)
 |[]=>[]
 |(s,a)::l=>(s,bif Nat.beq s g then .b9 []else xl g vs a)::qZ g vs l
theorem akW{g:Nat}{vs:List AV}{φ aW:bf}(h:Ga g vs φ aW){ob:aZ}{e:PE}{o:Obj}(ho:OR φ ob e o):OR aW (xl g vs ob) e o:=by
 unfold xl;split
 ·rename_i cs jT;obtain⟨cs',el,h1,h2,h3,h4,h5⟩:=ho;have hl:=aba g vs cs;exact⟨cs',el,h1,h2,by rw[hl.1];exact h3,by rw[hl.1];exact K7 h h4,by rw[hl.2];exact h5⟩
 ·exact ho.CC h.1
theorem akV(g:Nat)(vs:List AV)(ob:aZ):(xl g vs ob).aU=ob.aU:=by unfold xl;split<;>rfl
theorem K8{g:Nat}{vs:List AV}:∀{l:List (Nat×aZ)} {id:Nat} {bW:aZ},dq (qZ g vs l) id=some bW->∃ob,dq l id=some ob∧((id=g∧bW=.b9 [])∨(id≠g∧bW=xl g vs ob))
 |[],id,bW,h=>by cases h
 |(s,a)::l,id,bW,h=>by
  simp only[qZ,dq]at h⊢;by_cases hi:id=s
  ·subst hi;rw[if_pos rfl]at h⊢;cases h;refine⟨a,rfl,?_⟩;cases hb:Nat.beq id g
   ·exact .inr ⟨(fun e=>by rw[e,Nat.beq_refl]at hb;cases hb),rfl⟩
   ·exact .inl ⟨Nat.eq_of_beq_eq_true hb,rfl⟩
  ·rw[if_neg hi]at h⊢;exact K8 h
theorem ads{m0 g n:Nat}{l:List (Nat×aZ)}{vs:List AV}{el:TypeId}(hg:dq l g=some (.aF vs el)):ox m0 (an l n) (an (qZ g vs l) n) (Ga g vs):=by
 refine⟨Nat.le_refl n,fun φ bs w cI hw=>?_⟩;have fv:∀id,(an l n).bu id=dq l id:=dy l n;let aW:bf:=⟨φ.f,fun b=>match φ g with|none=>φ.ro b|some e=>if b=e.b then w.heap[b]? else φ.ro b⟩
 have kH:eg φ aW:=by
  refine⟨fun _ _ h=>h,fun b o h=>?_⟩;show(match φ g with|none=>φ.ro b|some e=>if b=e.b then w.heap[b]? else φ.ro b)=some o;split
  ·exact h
  ·split
   ·exact(hw.ro b o h).1.2
   ·exact h
 have fE:∀e,φ g=some e->aW.ro e.b=w.heap[e.b]? :=by intro e he;show(match φ g with|none=>φ.ro e.b|some e2=>if e.b=e2.b then w.heap[e.b]? else φ.ro e.b)=_;rw[he];exact if_pos rfl
 have hR:Ga g vs φ aW:=by refine⟨kH,fun e he=>?_⟩;obtain⟨o,h1,cs,ic,rfl,h2,h3,h4,h5⟩:=hw.ey g _ e ((fv g).trans hg) he;exact⟨cs,ic,(0,0),(fE e he).trans h1,by omega,bc.kQ kH.pu _ _ h4⟩
 have lv:∀{id ob},(an (qZ g vs l) n).bu id=some ob->ob.aU=true->∃ec,(an l n).bu id=some ec∧ec.aU=true∧id≠g:=by
  intro id ob h1 h2;rw[dy]at h1;obtain⟨ec,h3,⟨h4,h5⟩|⟨h4,h5⟩⟩:=K8 h1
  ·subst h5;cases h2
  ·subst h5;exact⟨ec,(fv id).trans h3,by rwa[akV]at h2,h4⟩
 refine⟨aW,⟨?_,?_,hw.lt,?_,?_⟩,⟨fun _ _=>rfl,kH.ro⟩,hR⟩
 ·intro id ob e h1 h2;rw[dy]at h1;obtain⟨ec,h3,⟨h4,h5⟩|⟨h4,h5⟩⟩:=K8 h1
  ·subst h5;have hb:=(hw.lt id e h2).1;exact⟨w.heap[e.b]'hb,Array.getElem?_eq_getElem hb,trivial⟩
  ·subst h5;obtain⟨o,k1,k2⟩:=hw.ey id ec e ((fv id).trans h3) h2;exact⟨o,k1,akW hR k2⟩
 ·intro id iC ob bW e e' h1 l1 h2 h3 l2 h4 hb;obtain⟨o1,k1,k2,_⟩:=lv h1 l1;obtain⟨o2,k3,k4,_⟩:=lv h3 l2;exact hw.kx id iC o1 o2 e e' k1 k2 h2 k3 k4 h4 hb
 ·intro id ob h1;rw[dy]at h1;obtain⟨ec,h3,_⟩:=K8 h1;exact hw.nx id ec ((fv id).trans h3)
 ·intro b o hb;have alB:φ.ro b=some o∨∃e,φ g=some e∧b=e.b∧w.heap[b]? =some o:=by
   have hb:(match φ g with|none=>φ.ro b|some e=>if b=e.b then w.heap[b]? else φ.ro b)=some o:=hb;cases he:φ g with
   |none=>rw[he]at hb;exact .inl hb
   |some e=>
    rw[he]at hb;simp only at hb;split at hb
    ·rename_i se;exact .inr ⟨e,rfl,se,hb⟩
    ·exact .inl hb
  rcases alB with hc|⟨e,he,rfl,hc⟩
  ·obtain⟨k1,k2⟩:=hw.ro b o hc;refine⟨k1,fun id ob e h1 l1 h2=>?_⟩;obtain⟨o1,q1,q2,_⟩:=lv h1 l1;exact k2 id o1 e q1 q2 h2
  ·refine⟨⟨(hw.lt g e he).2.1,hc⟩,fun id ob e' h1 l1 h2 se=>?_⟩;obtain⟨o1,q1,q2,q3⟩:=lv h1 l1;exact q3 (hw.kx id g o1 _ e' e q1 q2 h2 ((fv g).trans hg) rfl he se)
theorem aj1{P:Program}{f:FuncId}{args:List AV}{H0:AH}{v:AV}{g n:Nat}{l:List (Nat×aZ)}{vs:List AV}{el:TypeId}(h:dT P f args H0 v (an l n))(hg:dq l g=some (.aF vs el))(cI:H0.bL<=n):
 dT P f args H0 (oC g vs v) (an (qZ g vs l) n):=
 DD h (ads hg) cI (fun φ aW hR x hx=>RM hR hx)
def G0(g:Nat)(vs:List AV):List (Nat×AV)->List (Nat×AV)
 |[]=>[]
 |(s,a)::l=>(s,oC g vs a)::G0 g vs l
theorem abb{g:Nat}{vs:List AV}{i:Nat}{a':AV}:∀{l:List (Nat×AV)},(aQ (G0 g vs l)).bV i=some a'->∃a,(aQ l).bV i=some a∧a'=oC g vs a
 |[],h=>by rw[nE]at h;cases h
 |(s,b)::l,h=>by
  rw[nE]at h;rw[nE];simp only[G0,wh]at h⊢;by_cases hs:i=s
  ·rw[if_pos hs]at h⊢;cases h;exact⟨b,rfl,rfl⟩
  ·rw[if_neg hs]at h⊢;rw[←nE]at h⊢;exact abb h
theorem alH{ds:List ir}{P:Program}{f nt m0 g n:Nat}{v:AV}{H1:AH}{T:List (Nat×AV)}{l:List (Nat×aZ)}{vs:List AV}{el:TypeId}{todo:List b_}
 (h:lC ds P f nt m0 v H1 (aQ (G0 g vs T)) (an (qZ g vs l) n) todo) (hg:dq l g=some (.aF vs el)) (hp:lQ todo=true) (k7:uy m0 ds):lC ds P f nt m0 v H1 (aQ T) (an l n) todo:=by
 refine HA (k7:=k7) h (ads hg) hp (fun φ aW hR i a' hi=>?_);obtain⟨a,h1,rfl⟩:=abb hi;exact⟨a,h1,fun x hx=>RM hR hx⟩
theorem SE{P:Program}{f nt m0 g n:Nat}{v:AV}{H1:AH}{T:List (Nat×AV)}{l:List (Nat×aZ)}{vs:List AV}{el:TypeId}{todo:List b_}
 (h:bJ P f nt m0 v H1 (aQ (G0 g vs T)) (an (qZ g vs l) n) todo) (hg:dq l g=some (.aF vs el)) (hp:lQ todo=true):bJ P f nt m0 v H1 (aQ T) (an l n) todo:=
 alH h hg hp (AK _)
theorem LJ{P:Program}{f nt m0:Nat}{v:AV}{H1 H H2:AH}{tmps t:Tr AV}{todo:List b_}{qa ls:List Nat}{ps:List (Nat×Nat)}(hp:lQ todo=true)(hv:oT m0 qa H=some ⟨ps,H2⟩)(ht:tV (jA ps) tmps ls=some t)
 (h:bJ P f nt m0 v H1 t H2 todo):bJ P f nt m0 v H1 tmps H todo:=dH.rU hp hv ht h
end
end Go.Ev
