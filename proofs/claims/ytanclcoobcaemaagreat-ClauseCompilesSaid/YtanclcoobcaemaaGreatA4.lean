/- Part of a proof of ClauseCompiles. -/
import Derived.Test.YtanclcoobcaemaaGreatA3
set_option linter.all false
set_option linter.unusedSectionVars false
namespace Go.Ev
noncomputable section
def jS:List (Nat×Nat)->Nat->Option Nat
 |[],_=>none
 |(o,n)::l,a=>bif Nat.beq o a then some n else jS l a
def xz:List (Nat×Nat)->Nat->Option Nat
 |[],_=>none
 |(o,n)::l,c=>bif Nat.beq n c then some o else xz l c
mutual
def xn:AV->LN
 |.ad id _=>[id]
 |.bB id _ _ _ _ _=>[id]
 |.aS id=>[id]
 |.gJ id=>[id]
 |.ae id _ _=>[id]
 |.b9 _ f c=>yH f++yH c
 |.e_ _ v=>xn v
 |.aj cs=>yH cs
 |.aO cs=>yH cs
 |_=>[]
def yH:LV->LN
 |[]=>[]
 |a::l=>xn a++yH l
end
def acT:List (AV×AV×Nat)->LN
 |[]=>[]
 |(k,v,_)::l=>xn k++xn v++acT l
def U0:Tr AV->LN
 |.gB=>[]
 |.gm v l r=>(match v with|some a=>xn a|none=>[])++U0 l++U0 r
def amq:bc->LN
 |.ay vs _=>yH vs
 |.gG _ _ _ t _ _ _ _ d=>d::U0 t
 |.bM es _ p=>bif p then[]else acT es
 |.v8 z _ _=>yH z
 |_=>[]
section ren
variable(r:Nat->Option Nat)
mutual
def eK:AV->Option AV
 |.ad id off=>match r id with|some c=>some (.ad c off)|none=>none
 |.bB id off len cap sz ex=>match r id with
  |some c=>match ex,cap with
   |false,1=>(match off with|0=>some (.ae c len sz)|_+1=>some (.bB c off len cap sz ex))
   |_,_=>some (.bB c off len cap sz ex)
  |none=>none
 |.aS id=>match r id with|some c=>some (.aS c)|none=>none
 |.gJ id=>match r id with|some c=>some (.gJ c)|none=>none
 |.ae id len sz=>match r id with|some c=>some (.ae c len sz)|none=>none
 |.b9 fn f c=>match iV f,iV c with|some f',some c'=>some (.b9 fn f' c')|_,_=>none
 |.e_ t v=>match eK v with|some v'=>some (.e_ t v')|none=>none
 |.aj cs=>match iV cs with|some l=>some (.aj l)|none=>none
 |.aO cs=>match iV cs with|some l=>some (.aO l)|none=>none
 |a=>some a
def iV:LV->Option LV
 |[]=>some []
 |a::l=>match eK a with
  |some a'=>match iV l with
   |some l'=>some (a'::l')
   |none=>none
  |none=>none
end
def NX:List (AV×AV×Nat)->Option (List (AV×AV×Nat))
 |[]=>some []
 |(k,v,b)::l=>match eK r k,eK r v,NX l with
  |some k',some v',some l'=>some ((k',v',b)::l')
  |_,_,_=>none
def I1:Tr AV->Option (Tr AV)
 |.gB=>some .gB
 |.gm v a b=>match I1 a,I1 b with
  |some a',some b'=>(match v with
   |none=>some (.gm none a' b')
   |some x=>match eK r x with|some x'=>some (.gm (some x') a' b')|none=>none)
  |_,_=>none
def lM:bc->Option bc
 |.gG st p fn t nt ps a b d=>match I1 r t,r d with
  |some t',some d'=>some (.gG st p fn t' nt ps a b d')
  |_,_=>none
 |.ay vs e=>match iV r vs with|some l=>some (.ay l e)|none=>none
 |.bM es c p=>bif p then some (.bM es c p)else match NX r es with|some l=>some (.bM l c p)|none=>none
 |.c9 vs e=>some (.c9 vs e)
 |.aL vs e=>some (.aL vs e)
 |.v8 z n e=>match iV r z with|some l=>some (.v8 l n e)|none=>none
 |.bJ _=>some (.bJ [])
 |.rB s p=>some (.rB s p)
 |.oP ds=>(match ds with|none=>some (.oP none)|some []=>some (.oP (some []))|_=>none)
 |_=>none
end ren
def aee(H:AH)(id:Nat):LN:=
 match H.bD id with
 |some o=>amq o
 |none=>[]
def NV(H:AH)(m0:Nat):Nat->LN->List (Nat×Nat)->Nat->List (Nat×Nat)×Nat
 |0,_,ps,n=>(ps,n)
 |_+1,[],ps,n=>(ps,n)
 |f+1,id::q,ps,n=>match jS ps id with
  |some _=>NV H m0 f q ps n
  |none=>bif Nat.ble (id+1) m0 then NV H m0 f (q++aee H id) (ps++[(id,id)]) n
   else NV H m0 f (q++aee H id) (ps++[(id,n)]) (Nat.succ n)
def AX(r:Nat->Option Nat)(H:AH):List (Nat×Nat)->Tr bc->Option (Tr bc)
 |[],t=>some t
 |(o,n)::l,t=>match H.bD o with
  |none=>AX r H l t
  |some ob=>match lM r ob with
   |some cp=>AX r H l (t.iY n cp)
   |none=>none
def V6(ps:List (Nat×Nat))(n:Nat):Bool:=
 vV (ps.map (·.1))&&vV (ps.map (·.2))&&ps.all fun p=>Nat.ble (p.2+1) n
def amA(ps:List (Nat×Nat))(m0:Nat):Bool:=
 (List.range m0).all fun i=>match xz ps i with|some j=>Nat.beq i j|none=>false
structure Vw where
 ps:List (Nat×Nat)
 H:AH
def om(m0:Nat)(xD:LN)(H:AH):Option Vw:=
 match NV H m0 1000 (List.range m0++xD) [] m0 with
 |(ps,n)=>bif V6 ps n&&amA ps m0 then
    match AX (jS ps) H ps .gB with
    |some t=>some ⟨ps,⟨t,n⟩⟩
    |none=>none
  else none
def Oh(tmps:Tr AV):LN->LN
 |[]=>[]
 |s::l=>match tmps.cb s with
  |some a=>xn a++Oh tmps l
  |none=>Oh tmps l
def tE(r:Nat->Option Nat)(tmps:Tr AV):LN->Option (Tr AV)
 |[]=>some .gB
 |s::l=>match tE r tmps l with
  |none=>none
  |some t=>match tmps.cb s with
   |some a=>match eK r a with
    |some a'=>some (t.iY s a')
    |none=>none
   |none=>some t
abbrev wx:=FuncId->LV->AH->Option (Prop×AV×AH)
inductive Sp:Type 1 where
 |Hd (x:Prop×AV×AH)
 |ex (W:Type) (g:W->Prop×AV×AH) (u:∀w w',(g w).1->(g w').1->(g w).2=(g w').2)
abbrev bC:=FuncId->LV->AH->Option Sp
def wJ:Sp->Option (Prop×AV×AH)
 |.Hd x=>some x
 |.ex W g _=> @dite _ (∃w,(g w).1) (Classical.propDecidable _) (fun h=>some (g h.choose)) (fun _=>none)
def rQ(S:bC):wx:=fun f args H=>
 match S f args H with
 |some sp=>wJ sp
 |none=>none
def wD(ps:List (Nat×Nat))(k next:Nat)(i:Nat):Option Nat:=
 bif Nat.ble (i+1) k then xz ps i else some (next+(i-k))
def yb(r:Nat->Option Nat)(Hs:AH):List (Nat×Nat)->Tr bc->Option (Tr bc)
 |[],t=>some t
 |(o,n)::l,t=>match Hs.bD n with
  |none=>yb r Hs l (t.iY o (.bJ []))
  |some ob=>match lM r ob with
   |some cp=>yb r Hs l (t.iY o cp)
   |none=>none
def DI(r:Nat->Option Nat)(Hs:AH)(k next:Nat):Nat->Tr bc->Option (Tr bc)
 |0,t=>some t
 |j+1,t=>match DI r Hs k next j t with
  |none=>none
  |some t'=>match Hs.bD (k+j)with
   |none=>some t'
   |some ob=>match lM r ob with
    |some cp=>some (t'.iY (next+j) cp)
    |none=>none
def axr:Option bc->Bool
 |some (.aL ..)=>true
 |_=>false
mutual
def j6:AV->LN
 |.ad id _=>[id]
 |.bB id _ _ _ _ _=>[id]
 |.aS id=>[id]
 |.gJ id=>[id]
 |.b9 _ f c=>rY f++rY c
 |.e_ _ v=>j6 v
 |.aj cs=>rY cs
 |.aO cs=>rY cs
 |_=>[]
def rY:LV->LN
 |[]=>[]
 |a::l=>j6 a++rY l
end
def HR:Tr AV->LN
 |.gB=>[]
 |.gm v l r=>(match v with|some a=>j6 a|none=>[])++HR l++HR r
def ab2:Option bc->LN
 |some (.ay vs _)=>rY vs
 |some (.gG _ _ _ t _ _ _ _ d)=>d::HR t
 |_=>[]
def FF(H:AH):LN->List (Nat×Nat)->Bool
 |_,[]=>true
 |hd,(o,_)::l=>match H.bD o with
  |some (.aL ..)=>FF H hd l
  |some (.bJ _)=>false
  |none=>false
  |ob=>bif hd.any (Nat.beq o)then FF H (hd++ab2 ob) l else false
structure P0 where
 bN:Prop
 v:AV
 H:AH
def Ah(ps:List (Nat×Nat))(k:Nat)(H:AH):Prop×AV×AH->Option P0
 |(p,v,Hs)=>match Hs,H with
  |⟨hs,ns⟩,⟨h,next⟩=>
   bif Nat.ble k ns then
    match eK (wD ps k next) v,yb (wD ps k next) ⟨hs,ns⟩ ps h with
    |some v',some t=>match DI (wD ps k next) ⟨hs,ns⟩ k next (ns-k) t with
     |some t'=>some ⟨p,v',⟨t',next+(ns-k)⟩⟩
     |none=>none
    |_,_=>none
   else none
def Ix(S:wx)(f:FuncId)(args:LV)(H:AH):Option P0:=
 match om 0 (yH args) H with
 |none=>none
 |some ⟨ps,⟨t,n⟩⟩=>bif FF H (rY args) ps then
   match iV (jS ps) args with
   |some args'=>match S f args' ⟨t,n⟩with
    |some WV=>Ah ps n H WV
    |none=>none
   |none=>none
  else none
def VA(S:bC)(f:FuncId)(args:LV)(H:AH):Option (List (Nat×Nat)×Nat×Sp):=
 match om 0 (yH args) H with
 |none=>none
 |some ⟨ps,⟨t,n⟩⟩=>bif FF H (rY args) ps then
   match iV (jS ps) args with
   |some args'=>match S f args' ⟨t,n⟩with
    |some sp=>some (ps,n,sp)
    |none=>none
   |none=>none
  else none
section an9
variable(P:Program)
def vj:Nat->List TypeId->LV->(LV->Prop)->Prop
 |0,_,_,_=>False
 |_+1,[],gK,k=>k gK.reverse
 |d+1,t::ts,gK,k=>match P.underlying t with
  |some (.struct gL)=>vj d (gL.toList.map (·.type)++ts) gK k
  |some (.int kd)=>∃n:Int,vj d ts (.cM kd n::gK) k
  |some .bool=>∃b:Bool,vj d ts (.aA b::gK) k
  |some .string=>∃s:LN,vj d ts (.aa s::gK) k
  |some (.slice e)=>match dH P e with
   |some sz=>∃(cs:LV) (len:Nat),vj d ts (.aB cs len sz::gK) k
   |none=>False
  |_=>∃a:AV,vj d ts (a::gK) k
def Hq(t:TypeId)(k:AV->Prop):Prop:=
 match Aa P t with
 |some true=>vj P 100 [t] [] fun cs=>k (.aj cs)
 |some false=>vj P 100 [t] [] fun cs=>match cs with|[a]=>k a|_=>False
 |none=>False
def abc(t:TypeId)(k:LV->Prop):Prop:=vj P 100 [t] [] k
end an9
def ai(b:Bool)(A B:Prop):Prop:= @Bool.rec (fun _=>Prop) B A b
def uF(o:Option AV)(k:AV->Prop):Prop:=
 match o with
 |some v=>k v
 |none=>False
def gf(P:Program)(kt e:TypeId)(es:List (AV×AV×Nat))(key:AV):Option (AV×Bool):=
 match mE (iQ P 100 kt) key es 0 with
 |some (some (_,v,_))=>some (v,true)
 |some none=>(kM P e).map (·,false)
 |none=>none
def lN(P:Program)(kt:TypeId)(es:List (AV×AV×Nat))(db:Nat)(k v:AV):Option (List (AV×AV×Nat)×Nat):=
 match mE (iQ P 100 kt) k es 0 with
 |some (some (i,_,_))=>bif yY es i k then some (pT es i fun e=>(k,v,e.2.2),db)else none
 |some none=>some (es++[(k,v,db)],db+1)
 |none=>none
def abJ(P:Program)(kt elem:TypeId)(es:List (AV×AV×Nat))(db:Nat)(p:Bool)(key:AV):Option (AV×Nat×List (AV×AV×Nat)×Nat):=
 match mE (iQ P 100 kt) key es 0 with
 |some (some (i,v,b))=>bif yY es i key&&wU p key .pd then some (v,b,pT es i fun e=>(key,e.2),db)else none
 |some none=>match kM P elem with
  |some z=>bif wU p key z then some (z,db,es++[(key,z,db)],db+1)else none
  |none=>none
 |none=>none
def aeS(es:List (AV×AV×Nat))(born:Nat)(v:AV):Option (List (AV×AV×Nat)):=
 match es.findIdx? (fun e=>Nat.beq e.2.2 born)with
 |some i=>some (pT es i fun e=>(e.1,v,e.2.2))
 |none=>none
def aaz(P:Program)(kt:TypeId)(es:List (AV×AV×Nat))(k:AV):Option (List (AV×AV×Nat)):=
 match mE (iQ P 100 kt) k es 0 with
 |some (some (i,_,_))=>some (zA es i)
 |some none=>some es
 |none=>none
def aa6:TypeDesc->AV->AV->Option Bool
 |.int _,.cM j a,.cM k b=>if j=k then some (a==b)else none
 |.string,.aa a,.aa b=>some (dF a b)
 |.bool,.aA a,.aA b=>some (a==b)
 |_,_,_=>none
def yg(P:Program):List Field->Nat->LV->LV->Option Bool
 |[],_,[],[]=>some true
 |f::fs,i,a::l,b::m=>bif (f.name != "_")&&Nat.beq f.offset i then
   match P.underlying f.type with
   |some td=>match aa6 td a b,yg P fs (i+1) l m with
    |some x,some y=>some (x&&y)
    |_,_=>none
   |none=>none
  else none
 |_,_,_,_=>none
def Lh(P:Program)(t:TypeId)(cs ds:LV):Option Bool:=
 match P.underlying t with
 |some (.struct gL)=>bif P.stoodInHeld t||P.eqGuardType P.depth t then none else yg P gL.toList 0 cs ds
 |_=>none
section alU
variable(P:Program)(ρ:Operand->Option AV)(H:AH)
def MO:Option bc->Option LV
 |some (.c9 vs _)=>some vs
 |some (.aL vs _)=>some vs
 |_=>none
def WI(t:TypeId)(a:Operand)(k:AV->Prop):Prop:=
 match ρ a with
 |some (.ad id off)=>match MO (H.bD id)with
  |some vs=>Hq P t fun v=>bA P t vs off=some v∧k v
  |none=>uF (se P H t id off) k
 |some (.qw cs)=>uF (bA P t cs 0) k
 |_=>False
def ZR(n:Int)(k:Nat->Prop):Prop:=∃i:Nat,n=(i:Int)∧k i
def Cr(x:Operand)(k:Nat->Prop):Prop:=
 match ρ x with
 |some (.cM _ n)=>bif sc x then(match n with|.ofNat i=>k i|_=>False)else ZR n k
 |_=>False
def Lp(id off sz:Nat)(n:Int)(k:AV->Prop):Nat->Nat->Prop
 |_,0=>True
 |j,c+1=>(n=(j:Int)->k (.ad id (off+j*sz)))∧Lp id off sz n k (Nat.succ j) c
def WH(t:TypeId)(x i:Operand)(k:AV->Prop):Prop:=
 match P.underlying t with
 |some (.slice e)=>match ρ x with
  |some (.aB cs len sz)=>bif (dH P e).any (Nat.beq sz)then Cr ρ i fun i=>i<len∧abc P e fun c9=>(cs.drop (i*sz)).take sz=c9∧k (.qw c9)else False
  |some (.ae id len sz)=>bif (dH P e).any (Nat.beq sz)then Cr ρ i fun i=>i<len∧k (.ad id (i*sz))else False
  |some (.bB id off len _ sz _)=>bif (dH P e).any (Nat.beq sz)then Cr ρ i fun i=>i<len∧k (.ad id (off+i*sz))else False
  |_=>False
 |some (.array c e)=>bif sc i then uF (gg P ρ H (.indexAddr t x i)) k else
  match ρ x,ρ i with
  |some (.ad id off),some (.cM _ n)=>match dH P e with
   |some sz=>(0<=n∧n<(c:Int))∧Lp id off sz n k 0 c
   |none=>False
  |_,_=>False
 |_=>uF (gg P ρ H (.indexAddr t x i)) k
def Lo(P:Program)(e:TypeId)(sz:Nat)(cs:LV)(n:Int)(k:AV->Prop):Nat->Nat->Prop
 |_,0=>True
 |j,c+1=>(n=(j:Int)->uF (bA P e cs (j*sz)) k)∧Lo P e sz cs n k (Nat.succ j) c
def WG(t:TypeId)(x i:Operand)(k:AV->Prop):Prop:=
 match ρ x,ρ i with
 |some (.aj cs),some (.cM _ n)=>bif sc i then uF (gg P ρ H (.index t x i)) k else
  match P.underlying t with
  |some (.array c e)=>match dH P e with
   |some sz=>(0<=n∧n<(c:Int))∧Lo P e sz cs n k 0 c
   |none=>False
  |_=>False
 |some (.aa s),some (.cM _ _)=>match P.underlying t with
  |some .string=>Cr ρ i fun i=>∃b:Nat,s[i]? =some b∧k (.cM .u8 (.ofNat b))
  |_=>False
 |_,_=>False
def WJ(t:TypeId)(x key:Operand)(ok:Bool)(k:AV->Prop):Prop:=
 match P.underlying t,ρ x,ρ key with
 |some (.map kt e),some (.aS id),some key=>match H.bD id with
  |some (.bM es _ _)=>bif ru P kt key then Hq P e fun v=>∃b:Bool,gf P kt e es key=some (v,b)∧k (qm ok v b)else False
  |_=>False
 |some (.map kt e),some .nF,some key=>bif ru P kt key then uF ((kM P e).map (qm ok · false)) k else False
 |_,_,_=>False
def wE(o:Option Operand)(d:Nat)(k:Nat->Prop):Prop:=
 match o with
 |none=>k d
 |some x=>Cr ρ x k
def GX(ex:Bool)(lo:Option Operand)(cap l:Nat):Nat:= @Bool.rec (fun _=>Nat) (match lo with|none=>cap|some _=>0) (cap-l) ex
def WL(t:TypeId)(x:Operand)(lo hi mx:Option Operand)(k:AV->Prop):Prop:=
 match ρ x with
 |some (.aB cs len sz)=>bif mx.isNone&&(match P.underlying t with|some (.slice e)=>(dH P e).any (Nat.beq sz)|_=>false)then
   wE ρ lo 0 fun l=>wE ρ hi len fun h=>(l<=h∧h<=len)∧k (.aB ((cs.drop (l*sz)).take ((h-l)*sz)) (h-l) sz)else False
 |some (.bB id off len cap sz ex)=>bif mx.isNone&&(match P.underlying t with|some (.slice e)=>(dH P e).any (Nat.beq sz)|_=>false)then
   wE ρ lo 0 fun l=>wE ρ hi len fun h=>(l<=h∧h<=(bif ex then cap else len))∧k (.bB id (off+l*sz) (h-l) (GX ex lo cap l) sz ex)else False
 |some (.ae id len sz)=>bif mx.isNone&&(match P.underlying t with|some (.slice e)=>(dH P e).any (Nat.beq sz)|_=>false)then
   1<=len∧wE ρ lo 0 fun l=>wE ρ hi len fun h=>(l<=h∧h<=len)∧k (.bB id (0+l*sz) (h-l) (GX false lo 1 l) sz false)else False
 |some (.aa s)=>bif mx.isNone&&(match P.underlying t with|some .string=>true|_=>false)then
   wE ρ lo 0 fun l=>wE ρ hi s.length fun h=>(l<=h∧h<=s.length)∧k (.aa ((s.take h).drop l))else False
 |_=>uF (gg P ρ H (.slice t x lo hi mx)) k
def WK(c a b:Operand)(k:AV->Prop):Prop:=
 match ρ c,ρ a,ρ b with
 |some (.aA t),some (.aA x),some (.aA y)=>k (.aA (bif t then x else y))
 |some (.aA t),some x,some y=>ai t (k x) (k y)
 |_,_,_=>False
def WE(op:BinOp)(t:TypeId)(x y:Operand)(yt:TypeId)(k:AV->Prop):Prop:=
 match ρ x,ρ y with
 |some (.aj cs),some (.aj ds)=>match Lh P t cs ds,op with
  |some b,.eql=>k (.aA b)
  |some b,.neq=>k (.aA (!b))
  |_,_=>False
 |_,_=>uF (gg P ρ H (.binOp op t x y yt)) k
def rd(op:Op)(k:AV->Prop):Prop:=
 match op with
 |.load t a=>WI P ρ H t a k
 |.indexAddr t x i=>WH P ρ H t x i k
 |.index t x i=>WG P ρ H t x i k
 |.lookup t x key ok=>WJ P ρ H t x key ok k
 |.slice t x lo hi mx=>WL P ρ H t x lo hi mx k
 |.pick c a b=>WK ρ c a b k
 |.binOp op t x y yt=>WE P ρ H op t x y yt k
 |op=>uF (gg P ρ H op) k
def IA(o:Option (bc×(Nat->AV)))(k:AV->AH->Prop):Prop:=
 match o,H with
 |some (ob,g),⟨h,n⟩=>k (g n) (AH.iN ⟨h,n⟩ ob)
 |none,_=>False
def af8:Operand->Operand->Bool
 |.tmp a,.tmp b=>Nat.beq a b
 |_,_=>false
def mkS(elem:TypeId)(c:Nat)(s:Nat)(z:AV)(h_:Nat)(k:AV->AH->Prop):Prop:=
 bif Nat.ble h_ 65536&&Nat.ble s 65536&&Nat.beq z.eB.length s&&z.eB.all AV.ec&&z.eB.all je then
  c<=65536∧IA H (some (W4 z.eB c elem,Bd c c s)) k
 else False
def adK(t:TypeId)(len cap:Operand)(k:AV->AH->Prop):Prop:=
 bif sc cap then IA H (n8 P ρ (.makeSlice t len cap)) k else
 bif af8 len cap then
  match P.underlying t,ρ cap with
  |some (.slice elem),some (.cM .i64 n)=>match dH P elem,kM P elem,u9 P elem with
   |some s,some z,some h_=>ZR n fun c=>mkS H elem c s z h_ k
   |_,_,_=>False
  |_,_=>False
 else False
def mk(op:Op)(k:AV->AH->Prop):Prop:=
 match op with
 |.makeSlice t len cap=>adK P ρ H t len cap k
 |op=>IA H (n8 P ρ op) k
def fA(vs:LV)(off:Nat)(cs:LV):LV:=vs.take off++(cs++vs.drop (off+cs.length))
def z8(o:Option fU)(k:AV->AH->Prop):Prop:=
 match o with
 |some (.iC v H)=>k v H
 |_=>False
def UL(t:TypeId)(a x:Operand)(k:AV->AH->Prop):Prop:=
 match ρ a,ρ x with
 |some (.ad id off),some v=>match H.bD id,dH P t with
  |some (.c9 vs e),some s=>bif Nat.beq v.eB.length s&&v.eB.all AV.ec&&v.eB.all je then off+v.eB.length<=vs.length∧k .lU (H.dS id (.c9 (fA vs off v.eB) e))else False
  |some (.aL vs e),some s=>bif Nat.beq v.eB.length s&&v.eB.all AV.ec&&v.eB.all je then off+v.eB.length<=vs.length∧k .lU (H.dS id (.aL (fA vs off v.eB) e))else False
  |_,_=>z8 (EG P ρ H t a x) k
 |_,_=>False
def MI(t:TypeId)(m key x:Operand)(k:AV->AH->Prop):Prop:=
 match P.underlying t,ρ m,ρ key,ρ x with
 |some (.map kt _),some (.aS id),some key,some v=>match H.bD id with
  |some (.bM es db p)=>bif ru P kt key&&wU p key v then
    ∃(bQ:List (AV×AV×Nat)) (c':Nat),lN P kt es db key v=some (bQ,c')∧k .lU (H.dS id (.bM bQ c' p))else False
  |_=>False
 |_,_,_,_=>False
def UI(t:TypeId)(m key:Operand)(k:AV->AH->Prop):Prop:=
 match P.underlying t,ρ m,ρ key with
 |some (.map kt e),some (.aS id),some key=>match H.bD id with
  |some (.bM es db p)=>bif ru P kt key then
    Hq P e fun v=>∃(b:Nat) (bQ:List (AV×AV×Nat)) (c':Nat),abJ P kt e es db p key=some (v,b,bQ,c')∧k (.aO [v,rT b]) (H.dS id (.bM bQ c' p))else False
  |_=>False
 |_,_,_=>False
def UJ(m s x:Operand)(k:AV->AH->Prop):Prop:=
 match ρ m,ρ s,ρ x with
 |some (.aS id),some (.cM _ (.ofNat b)),some v=>match H.bD id with
  |some (.bM es db p)=>bif wU p .pd v then
    ∃bQ:List (AV×AV×Nat),aeS es b v=some bQ∧k .lU (H.dS id (.bM bQ db p))else False
  |_=>False
 |_,_,_=>False
def UH(argTypes:Array TypeId)(id:Nat)(key:AV)(k:AV->AH->Prop):Prop:=
 match argTypes[0]?.bind P.underlying,H.bD id with
 |some (.map kt _),some (.bM es db p)=>bif ru P kt key then
   ∃bQ:List (AV×AV×Nat),aaz P kt es key=some bQ∧k .lU (H.dS id (.bM bQ db p))else False
 |_,_=>False
def XD(sz:Nat)(x:AV)(k:Nat->LV->Prop):Prop:=
 match x with
 |.aB cs len s=>bif Nat.beq s sz then k len cs else False
 |.ae id len s=>bif Nat.beq s sz then match H.bD id with
   |some (.aL vs _)=>vs.length=len*sz∧k len vs
   |_=>False
  else False
 |.bB id off len cap s ex=>match MO (H.bD id)with
  |some vs=>bif Nat.beq s sz then off+len*sz<=vs.length∧k len ((vs.drop off).take (len*sz))else False
  |none=>match tX H sz (.bB id off len cap s ex)with
   |some (n,l)=>k n l
   |none=>False
 |x=>match tX H sz x with
  |some (n,l)=>k n l
  |none=>False
def axs:Nat->Bool
 |0=>true
 |_+1=>true
def V2(l:LV):Prop:=l.all AV.ec=true∧l.all je=true
def GP(elem:TypeId)(sz:Nat)(s:AV)(n:Nat)(l:LV)(k:AV->AH->Prop):Prop:=
 match s with
 |.ae id len mr=>bif Nat.beq sz mr then match H.bD id with
   |some (.aL vs _)=>(vs.length=len*sz∧len+n<=65536∧V2 l)∧k (.ae H.bW (len+n) sz) (AH.iN (H.dS id (.bJ [])) (.aL (vs++l) elem))
   |_=>False
  else False
 |.bB id off len cap mr ex=>bif Nat.beq sz mr then match H.bD id with
   |some (.c9 vs _)=>(off+len*sz<=vs.length∧len+n<=65536∧V2 l∧ex=false)∧k (.bB H.bW 0 (len+n) 1 sz false) (AH.iN (H.dS id (.bJ [])) (.c9 ((vs.drop off).take (len*sz)++l) elem))
   |some (.aL vs _)=>(off+len*sz<=vs.length∧len+n<=65536∧V2 l∧ex=false)∧k (.bB H.bW 0 (len+n) 1 sz false) (AH.iN (H.dS id (.bJ [])) (.aL ((vs.drop off).take (len*sz)++l) elem))
   |_=>match rM H elem sz (.bB id off len cap mr ex) n l with
    |some (v,H')=>k v H'
    |none=>False
  else False
 |s=>match rM H elem sz s n l with
  |some (v,H')=>k v H'
  |none=>False
def am4(x:AV):Bool:=
 match x with
 |.bB _ _ _ _ _ true=>true
 |.bg=>true
 |_=>false
def GO(sz:Nat)(s:AV)(k:Prop):Prop:=
 match s with
 |.bg=>k
 |.bB _ _ len _ mr _=>bif Nat.beq sz mr then len<=65536∧k else False
 |.ae _ len mr=>bif Nat.beq sz mr then len<=65536∧k else False
 |_=>False
def Q8(elem:TypeId)(sz:Nat)(s:AV)(M7:Bool)(n:Nat)(l:LV)(k:AV->AH->Prop):Prop:=
 bif M7 then(match n with|0=>GO sz s (k s H)|_+1=>GP H elem sz s n l k)
 else(n=0->GO sz s (k s H))∧(1<=n->GP H elem sz s n l k)
def UF(argTypes:Array TypeId)(s x:AV)(k:AV->AH->Prop):Prop:=
 match argTypes[0]?.bind P.underlying with
 |some (.slice elem)=>match dH P elem,u9 P elem with
  |some sz,some h_=>bif Nat.ble h_ 65536&&(kM P elem).any (fun z=>Nat.beq z.eB.length sz)&&(match argTypes[1]?.bind P.underlying with|some (.slice _)=>true|_=>false)then
    XD H sz x fun n l=>Q8 H elem sz s (am4 x) n l k
   else False
  |_,_=>False
 |_=>False
def UG(b:Builtin)(args:LV)(argTypes:Array TypeId)(k:AV->AH->Prop):Prop:=
 match b,args with
 |.append,[s,x]=>UF P H argTypes s x k
 |.delete,[.aS id,key]=>UH P H argTypes id key k
 |b,args=>z8 (Ez P H b args argTypes) k
variable(S:bC)
def MH(r:Option P0)(k:AV->AH->Prop):Prop:=
 match r with
 |some ⟨p,v,H'⟩=>p∧k v H'
 |none=>False
def Fi(f:FuncId)(args:LV)(k:AV->AH->Prop):Prop:=
 match VA S f args H with
 |some (ps,n,.Hd x)=>MH (Ah ps n H x) k
 |some (ps,n,.ex W g _)=>∃w:W,MH (Ah ps n H (g w)) k
 |none=>False
def Ad(f:FuncId):Bool:=Nat.beq f 999999
def UK(l:Nat)(args:LV)(k:AV->AH->Prop):Prop:=
 match H.bD l,args with
 |some (.gG st pe fn tmps nt params assign body d),[a]=>match params with
  |[p]=>match yU (.gG st pe fn tmps nt params assign body d) l [a]with
   |some _=>Fi H S 999999 [.gJ l,a] k
   |none=>False
  |_=>False
 |_,_=>False
def MG(o:Option fU)(k:AV->AH->Prop):Prop:=
 match o with
 |some (.qB f args)=>bif Ad f then False else Fi H S f args k
 |some (.uW l args)=>UK H S l args k
 |_=>False
def acH(c:Call)(k:AV->AH->Prop):Prop:=
 match c.callee with
 |.value f=>MG H S (Tk P ρ f c.args) k
 |.builtin b=>match tR ρ c.args.toList with
  |some l=>UG P H b l c.argTypes k
  |none=>False
 |.invoke r name=>MG H S (LM P ρ H r name c.args) k
def hv(op:Op)(k:AV->AH->Prop):Prop:=
 match op with
 |.store t a x=>UL P ρ H t a x k
 |.mapUpdate t m key x=>MI P ρ H t m key x k
 |.insert t m key x=>MI P ρ H t m key x k
 |.mapEntry t m key=>UI P ρ H t m key k
 |.entryStore _ m s x=>UJ ρ H m s x k
 |.call c=>acH P ρ H S c k
 |.range t x=>z8 (HM P ρ H t x) k
 |.next it tg=>z8 (HL ρ H it tg) k
 |_=>False
end alU
def IJ(P:Program)(S:bC)(ρ:Operand->Option AV)(H:AH)(op:Op)(k:AV->AH->Prop):Prop:=
 bif n7 op then rd P ρ H op (fun v=>k v H)
 else bif qg op then mk P ρ H op k
 else hv P ρ H S op k
def Bk(nt:Nat)(tmps:Tr AV)(o:Oper)(v:AV)(k:Tr AV->Prop):Prop:=
 match mT nt tmps o.dst v with
 |some t=>k t
 |none=>False
def LC(ops:Array Oper)(o:Oper)(tmps:Tr AV)(wj no:Tr AV->Prop):Prop:=
 match o.guard with
 |none=>wj tmps
 |some (j,pw)=>match(ops[j]?).bind (·.dst)with
  |none=>False
  |some d=>match tmps.cb d with
   |some (.aA b)=>ai b (bif pw then wj (tmps.iY d (.aA true))else no (tmps.iY d (.aA true))) (bif pw then no (tmps.iY d (.aA false))else wj (tmps.iY d (.aA false)))
   |some (.aO [])=>no tmps
   |_=>False
section par
variable(P:Program)(S:bC)
def Jd(ops:Array Oper)(ms:LN)(base cur:Tr AV)(H:AH):LN->Prop->Prop
 |[],k=>k
 |j::l,k=>match ops[j]? with
  |none=>False
  |some o=>match kL ops o cur.cb with
   |none=>False
   |some false=>Jd ops ms base cur H l k
   |some true=>match o.dst with
    |none=>False
    |some d=>match cur.cb d with
     |none=>False
     |some v=>gg P (DH (vi ops ms base cur j)) H o.op=some v∧Jd ops ms base cur H l k
def Cz(ops:Array Oper)(ms:LN)(base:Tr AV)(nt:Nat):LN->LN->Tr AV->AH->(Tr AV->AH->Prop)->Prop
 |[],_,tmps,H,k=>k tmps H
 |i::rest,done,tmps,H,k=>match ops[i]? with
  |none=>False
  |some o=>LC ops o tmps
   (fun tmps=>bif o9 o.op then IJ P S (iD tmps) H o.op fun v H'=>Bk nt tmps o v fun t=>Cz ops ms base nt rest (i::done) t H' k
     else IJ P S (iD tmps) H o.op fun v H'=>Bk nt tmps o v fun t=>Jd P ops ms base t H' (KA ops ms done i) (Cz ops ms base nt rest (i::done) t H' k))
   (fun tmps=>Bk nt tmps o .lU fun t=>Cz ops ms base nt rest (i::done) t H k)
end par
def yj:Code->Option Nat
 |.region id _ _=>some id
 |.seq a b=>match yj a with|some i=>some i|none=>yj b
 |.cond _ a b=>match yj a with|some i=>some i|none=>yj b
 |.block _ b=>yj b
 |.loop b=>yj b
 |.scope b=>yj b
 |_=>none
section ph
variable(P:Program)(S:bC)(fn nt m0:Nat)(aE:Nat->LN)(L:Tr AV->AH->List cg->Prop)(Q:AV->AH->Prop)(ret:Bool->Tr AV->AH->Prop)(rd:Option Nat)
def IT:cg->Bool
 |.A1 _=>false
 |.zb _=>false
 |_=>true
def nH:List cg->Bool
 |[]=>true
 |x::l=>IT x&&nH l
def KF(body:Code)(k:List cg)(tmps:Tr AV)(H:AH):Prop:=
 match yj body with
 |none=>False
 |some i=>match om m0 (Oh tmps (aE i)) H with
  |some ⟨ps,H2⟩=>match tE (jS ps) tmps (aE i)with
   |some t=>bif nH k then L t H2 (.f_ body::.pz body::k)else False
   |none=>False
  |none=>False
def DG(tmps:Tr AV)(H:AH):Prop:=
 match P.funcs[fn]? with
 |some f=>match rz P H tmps f.results.toList with
  |some l=>match om m0 (xn (y' l)) H with
   |some ⟨ps,H2⟩=>match eK (jS ps) (y' l)with
    |some v=>Q v H2
    |none=>False
   |none=>False
  |none=>False
 |none=>False
def ZX(c:Code)(k:List cg)(tmps:Tr AV)(H:AH):Prop:=
 match om m0 (Oh tmps (aE 999999)) H with
 |some ⟨ps,H2⟩=>match tE (jS ps) tmps (aE 999999)with
  |some t=>bif nH k then L t H2 (.f_ c::k)else False
  |none=>False
 |none=>False
def KH(d:Nat)(tmps:Tr AV)(H:AH):Prop:=
 match H.bD d with
 |some (.oP (some []))=>DG P fn m0 Q tmps (H.dS d (.bJ []))
 |_=>False
def Rh(l:Nat)(b:Bool)(tmps:Tr AV)(H:AH):Prop:=
 bif b then False else
 match H.bD l with
 |some (.gG _ _ fn tm nt ps a bd d)=>match om m0 [] (H.dS l (.gG .ready none fn tm nt ps a bd d))with
  |some ⟨_,H2⟩=>Q (.aA true) H2
  |none=>False
 |_=>False
def amx:LN->Bool
 |[x]=>Nat.beq x 1000000
 |_=>false
def OW(body:Code):Bool:=
 match yj body with
 |some i=>amx (aE i)
 |none=>false
def lO:Nat->Tr AV->List cg->AH->Prop
 |0,_,_,_=>False
 |n+1,tmps,todo,H=>match todo with
  |[]=>ret false tmps H
  |.tK _::k=>lO n tmps k H
  |.sH _::k=>lO n tmps k H
  |.xQ::k=>match rd with
   |some l=>match H.bD l with
    |some (.gG .ready p lf lt ln ps a b d)=>lO n tmps k (H.dS l (.gG .busy p lf lt ln ps a b d))
    |_=>False
   |none=>False
  |.pz body::k=>bif OW aE body then lO n tmps (.f_ body::.pz body::k) H else KF m0 aE L body k tmps H
  |.jT ops i l::k=>match l with
   |[]=>lO n tmps k H
   |o::rest=>LC ops o tmps
    (fun tmps=>IJ P S (iD tmps) H o.op fun v H'=>Bk nt tmps o v fun t=>lO n t (.jT ops (Nat.succ i) rest::k) H')
    (fun tmps=>Bk nt tmps o .lU fun t=>lO n t (.jT ops (Nat.succ i) rest::k) H)
  |.f_ c::k=>match c with
   |.ret=>ret true tmps H
   |.skip=>lO n tmps k H
   |.label _=>lO n tmps k H
   |.seq a b=>lO n tmps (.f_ a::.f_ b::k) H
   |.cond c a b=>match iD tmps c with
    |some (.aA t)=>ai t (lO n tmps (.f_ a::k) H) (lO n tmps (.f_ b::k) H)
    |_=>False
   |.block id body=>lO n tmps (.f_ body::.tK id::k) H
   |.scope body=>lO n tmps (.f_ body::.sH body::k) H
   |.loop body=>bif OW aE body then lO n tmps (.f_ body::.pz body::k) H else KF m0 aE L body k tmps H
   |.exit id=>match zC id k with
    |some k'=>lO n tmps k' H
    |none=>False
   |.region _ ops pZ=>bif pZ then
     match FM ops with
     |some pl=>Cz P S ops pl.ms tmps nt pl.A4 [] tmps H fun t H'=>lO n t k H'
     |none=>False
    else lO n tmps (.jT ops 0 ops.toList::k) H
   |.rangeFunc f ps a b=>ZX m0 aE L (.rangeFunc f ps a b) k tmps H
   |_=>False
  |_=>False
end ph
def b_(P:Program)(S:bC)(aE:Nat->LN)(L:Tr AV->AH->List cg->Prop)(Q:AV->AH->Prop)(n:Nat)(f:FuncId)(args:LV)(H:AH):Prop:=
 match P.funcs[f]? with
 |some fn=>match fn.body with
  |some c=>bif Nat.ble args.length fn.ntmps&& !(fn.name== "runtime.NumGoroutine")then lO P S fn.ntmps H.bW aE L (fun _=>DG P f H.bW Q) none n (Tr.Aw args 0 .gB) [.f_ c] H else False
  |none=>False
 |none=>False
def cT(P:Program)(S:bC)(aE:Nat->LN)(L:Tr AV->AH->List cg->Prop)(Q:AV->AH->Prop)(n:Nat)(f m0:Nat)(tmps:Tr AV)(todo:List cg)(H:AH):Prop:=
 match P.funcs[f]? with
 |some fn=>lO P S fn.ntmps m0 aE L (fun _=>DG P f m0 Q) none n tmps todo H
 |none=>False
def I7(P:Program)(S:bC)(aE:Nat->LN)(L:Tr AV->AH->List cg->Prop)(Q:AV->AH->Prop)(n:Nat)(f m0 d:Nat)(tmps:Tr AV)(todo:List cg)(H:AH):Prop:=
 match P.funcs[f]? with
 |some fn=>lO P S fn.ntmps m0 aE L (fun _=>KH P f m0 Q d) none n tmps todo H
 |none=>False
def W9(P:Program)(S:bC)(aE:Nat->LN)(L:Tr AV->AH->List cg->Prop)(Q:AV->AH->Prop)(n:Nat)(l:Nat)(a:AV)(H:AH):Prop:=
 match H.bD l with
 |some o=>match yU o l [a]with
  |some fr=>lO P S fr.nt H.bW aE L (Rh H.bW Q l) (some l) n fr.py fr.A0 H
  |none=>False
 |none=>False
def zQ:Code->List cg->List (List cg)
 |.loop body,k=>(.f_ body::.pz body::k)::zQ body (.pz body::k)
 |.seq a b,k=>zQ a (.f_ b::k)++zQ b k
 |.cond _ a b,k=>zQ a k++zQ b k
 |.block id b,k=>zQ b (.tK id::k)
 |.scope b,k=>zQ b (.sH b::k)
 |_,_=>[]
def AE:Code->List cg->List (List cg)
 |.rangeFunc f ps a b,k=>[.f_ (.rangeFunc f ps a b)::k]
 |.loop body,k=>AE body (.pz body::k)
 |.seq a b,k=>AE a (.f_ b::k)++AE b k
 |.cond _ a b,k=>AE a k++AE b k
 |.block id b,k=>AE b (.tK id::k)
 |.scope b,k=>AE b (.sH b::k)
 |_,_=>[]
def IY(P:Program)(f j:Nat):List cg:=
 match P.funcs[f]? with
 |some fn=>match fn.body with
  |some c=>((AE c [])[j]?).getD []
  |none=>[]
 |none=>[]
def ao(P:Program)(f j:Nat):List cg:=
 match P.funcs[f]? with
 |some fn=>match fn.body with
  |some c=>((zQ c [])[j]?).getD []
  |none=>[]
 |none=>[]
def bk:List (Nat×AV)->Tr AV
 |[]=>.gB
 |(s,a)::l=>(bk l).iY s a
def Nj:List (Nat×bc)->Tr bc
 |[]=>.gB
 |(s,a)::l=>(Nj l).iY s a
def aq(l:List (Nat×bc))(n:Nat):AH:=⟨Nj l,n⟩
end
end Go.Ev
namespace Go.Ev
variable[Ro]
theorem VN:∀{ps:List (Nat×Nat)} {a c:Nat},jS ps a=some c->(a,c)∈ps
 |[],_,_,h=>by cases h
 |(o,n)::l,a,c,h=>by
  simp only[jS]at h;cases hb:Nat.beq o a
  ·rw[hb]at h;exact eE _ (VN h)
  ·rw[hb]at h;cases h;have:=eI hb;subst this;exact eP ..
theorem NG:∀{ps:List (Nat×Nat)} {a c:Nat},xz ps c=some a->(a,c)∈ps
 |[],_,_,h=>by cases h
 |(o,n)::l,a,c,h=>by
  simp only[xz]at h;cases hb:Nat.beq n c
  ·rw[hb]at h;exact eE _ (NG h)
  ·rw[hb]at h;cases h;have:=eI hb;subst this;exact eP ..
theorem VQ:∀{l:LN},vV l=true↔l.Nodup
 |[]=>by simp[vV]
 |a::l=>by
  simp only[vV,cy,Bool.not_eq_true',List.nodup_cons,VQ];have:l.any (Nat.beq a)=false↔a∉l:=by
   rw[←Bool.not_eq_true,List.any_eq_true];constructor
   ·intro h hm;exact h ⟨a,hm,by simp⟩
   ·rintro h ⟨x,hx,he⟩;exact h (by rw[eI he];exact hx)
  rw[this]
theorem II:∀{ps:List (Nat×Nat)} {a c:Nat},(ps.map (·.2)).Nodup->(a,c)∈ps->xz ps c=some a
 |[],_,_,_,h=>by cases h
 |(o,n)::l,a,c,hn,h=>by
  simp only[List.map_cons,List.nodup_cons]at hn;simp only[xz];rcases List.mem_cons.1 h with h|h
  ·cases h;simp
  ·have:n≠c:=by rintro rfl;exact hn.1 (List.mem_map_of_mem (f:=(·.2)) h)
   rw[Tr.vT];simp only[this,decide_false,cond_false];exact II hn.2 h
theorem Ns:∀{ps:List (Nat×Nat)} {a c:Nat},(ps.map (·.1)).Nodup->(a,c)∈ps->jS ps a=some c
 |[],_,_,_,h=>by cases h
 |(o,n)::l,a,c,hn,h=>by
  simp only[List.map_cons,List.nodup_cons]at hn;simp only[jS];rcases List.mem_cons.1 h with h|h
  ·cases h;simp
  ·have:o≠a:=by rintro rfl;exact hn.1 (List.mem_map_of_mem (f:=(·.1)) h)
   rw[Tr.vT];simp only[this,decide_false,cond_false];exact Ns hn.2 h
theorem Nh:∀{ps:List (Nat×Nat)} {a b c:Nat},(ps.map (·.2)).Nodup->(a,c)∈ps->(b,c)∈ps->a=b:=by intro ps a b c hn h1 h2;have e1:=II hn h1;have e2:=II hn h2;rw[e1]at e2;cases e2;rfl
theorem ani:∀{ps:List (Nat×Nat)} {a b c:Nat},(ps.map (·.1)).Nodup->(c,a)∈ps->(c,b)∈ps->a=b:=by intro ps a b c hn h1 h2;have e1:=Ns hn h1;have e2:=Ns hn h2;rw[e1]at e2;cases e2;rfl
section
variable{r:Nat->Option Nat}{φ ψ:bu}
def x_(r:Nat->Option Nat)(φ ψ:bu):Prop:=∀a c,r a=some c->ψ c=φ a
mutual
theorem su(hr:x_ r φ ψ):∀{a a':AV} {v:Value},eK r a=some a'->VR φ a v->VR ψ a' v
 |.aA _,a',v,h,hv=>by cases h;simpa[VR]using hv
 |.cM _ _,a',v,h,hv=>by cases h;simpa[VR]using hv
 |.aa _,a',v,h,hv=>by cases h;simpa[VR]using hv
 |.ad id off,a',v,h,hv=>by
  simp only[eK]at h;split at h
  ·rename_i c hc;cases h;obtain⟨e,h1,h2⟩:=hv;exact⟨e,by rw[hr _ _ hc];exact h1,h2⟩
  ·cases h
 |.pd,a',v,h,hv=>by cases h;simpa[VR]using hv
 |.bB id off len cap sz ex,a',v,h,hv=>by
  simp only[eK]at h;split at h
  ·rename_i c hc;obtain⟨e,x,c',h1,h2,h3,h4,h5,h6⟩:=hv;split at h
   ·split at h
    ·cases h;exact .inr ⟨e,x,c',by rw[hr _ _ hc];exact h1,h2,by simpa using h3,h4,by simpa using h6⟩
    ·cases h;exact⟨e,x,c',by rw[hr _ _ hc];exact h1,h2,h3,h4,h5,h6⟩
   ·cases h;exact⟨e,x,c',by rw[hr _ _ hc];exact h1,h2,h3,h4,h5,h6⟩
  ·cases h
 |.bg,a',v,h,hv=>by cases h;simpa[VR]using hv
 |.aS id,a',v,h,hv=>by
  simp only[eK]at h;split at h
  ·rename_i c hc;cases h;obtain⟨e,h1,h2⟩:=hv;exact⟨e,by rw[hr _ _ hc];exact h1,h2⟩
  ·cases h
 |.nF,a',v,h,hv=>by cases h;simpa[VR]using hv
 |.b9 fn f c,a',v,h,hv=>by
  simp only[eK]at h;split at h
  ·rename_i f' c' hf hc;cases h;obtain⟨f1,c1,h1,hy,h2,h3⟩:=hv;exact⟨f1,c1,h1,hy,AF hr hf h2,AF hr hc h3⟩
  ·cases h
 |.gJ id,a',v,h,hv=>by
  simp only[eK]at h;split at h
  ·rename_i c hc;cases h;obtain⟨e,h1,h2⟩:=hv;exact⟨e,by rw[hr _ _ hc];exact h1,h2⟩
  ·cases h
 |.qA,a',v,h,hv=>by cases h;simpa[VR]using hv
 |.e_ t a,a',v,h,hv=>by
  simp only[eK]at h;split at h
  ·rename_i c hc;cases h;obtain⟨v',h1,h2⟩:=hv;exact⟨v',h1,su hr hc h2⟩
  ·cases h
 |.my,a',v,h,hv=>by cases h;simpa[VR]using hv
 |.aj cs,a',v,h,hv=>by
  simp only[eK]at h;split at h
  ·rename_i c hc;cases h;obtain⟨v',h1,h2⟩:=hv;exact⟨v',h1,AF hr hc h2⟩
  ·cases h
 |.aO cs,a',v,h,hv=>by
  simp only[eK]at h;split at h
  ·rename_i c hc;cases h;obtain⟨v',h1,h2⟩:=hv;exact⟨v',h1,AF hr hc h2⟩
  ·cases h
 |.vo _,a',v,h,hv=>by cases h;simpa[VR]using hv
 |.Cx _,a',v,h,hv=>by cases h;simpa[VR]using hv
 |.vZ ..,a',v,h,hv=>by cases h;simp only[VR]at hv⊢;exact hv
 |.uD ..,a',v,h,hv=>by cases h;simp only[VR]at hv⊢;exact hv
 |.aB ..,a',v,h,hv=>by cases h;simp only[VR]at hv⊢;exact hv
 |.qw _,a',v,h,hv=>by cases h;simp only[VR]at hv⊢;exact hv
 |.ae id len sz,a',v,h,hv=>by
  simp only[eK]at h;split at h
  ·rename_i c hc;cases h;rcases hv with hv|⟨e,x,c',h1,h2⟩
   ·exact .inl hv
   ·exact .inr ⟨e,x,c',by rw[hr _ _ hc];exact h1,h2⟩
  ·cases h
theorem AF(hr:x_ r φ ψ):∀{as pG:LV} {vs:List Value},iV r as=some pG->bm φ as vs->bm ψ pG vs
 |[],pG,vs,h,hv=>by cases h;simpa[bm]using hv
 |a::as,pG,vs,h,hv=>by
  simp only[iV]at h;split at h
  ·rename_i a' ha;split at h
   ·rename_i l' hl;cases h;obtain⟨v,eT,rfl,h1,h2⟩:=hv;exact⟨v,eT,rfl,su hr ha h1,AF hr hl h2⟩
   ·cases h
  ·cases h
end
theorem ape{a a':AV}(h:eK r a=some a'):a'.ec=a.ec:=by
 cases a<;>simp only[eK]at h<;>first
  |(cases h;rfl)
  |(split at h
    ·first
      |(cases h;rfl)
      |(split at h<;>cases h<;>rfl)
      |(split at h
        ·split at h<;>cases h<;>rfl
        ·cases h;rfl)
    ·cases h)
theorem WS:∀{as pG:LV},iV r as=some pG->pG.length=as.length∧pG.all AV.ec=as.all AV.ec
 |[],pG,h=>by cases h;exact⟨rfl,rfl⟩
 |a::as,pG,h=>by
  simp only[iV]at h;split at h
  ·rename_i a' ha;split at h
   ·rename_i l' hl;cases h;obtain⟨h1,h2⟩:=WS hl;exact⟨by simp[h1],by simp[ape ha,h2]⟩
   ·cases h
  ·cases h
theorem afm(hr:x_ r φ ψ):∀{es bQ:List (AV×AV×Nat)} {ms:List MapEntry},NX r es=some bQ->dx φ es ms->dx ψ bQ ms
 |[],bQ,ms,h,he=>by cases h;simpa[dx]using he
 |(k,v,b)::es,bQ,ms,h,he=>by
  simp only[NX]at h;split at h
  ·rename_i k' v' l' h1 h2 h3;cases h;obtain⟨m,Nm,rfl,a1,a2,a3,a4⟩:=he;exact⟨m,Nm,rfl,su hr h1 a1,su hr h2 a2,a3,afm hr h3 a4⟩
  ·cases h
theorem apf{z z':LV}(h:iV r z=some z'):∀n,iV r (jq z n)=some (jq z' n):=by
 have alc:∀{l l' m m':LV},iV r l=some l'->iV r m=some m'->iV r (l++m)=some (l'++m'):=by
  intro l;induction l with
  |nil=>intro l' m m' h1 h2;cases h1;simpa using h2
  |cons a l ih=>
   intro l' m m' h1 h2;simp only[iV]at h1;split at h1
   ·rename_i a' ha;split at h1
    ·rename_i l1 hl;cases h1;simp only[mQ,iV,ha,ih hl h2]
    ·cases h1
   ·cases h1
 intro n;induction n with
 |zero=>rfl
 |succ n ih=>exact alc h ih
theorem NZ:∀{t t':Tr AV} {i:Nat} {a':AV},I1 r t=some t'->t'.cb i=some a'->∃a,t.cb i=some a∧eK r a=some a'
 |.gB,t',i,a',h,hg=>by cases h;cases hg
 |.gm v a b,t',i,a',h,hg=>by
  simp only[I1]at h;split at h
  ·rename_i x y hx hy;have aw:∀v':Option AV,(∀z,v'=some z->∃z0,v=some z0∧eK r z0=some z)->(Tr.gm v' x y).cb i=some a'->∃a0,(Tr.gm v a b).cb i=some a0∧eK r a0=some a':=by
    intro v' hv hg;rw[Tr.o4]at hg;rw[Tr.o4];split at hg
    ·rename_i h0;rw[aN h0];exact hv _ hg
    ·rename_i h0;rw[az h0];split at hg
     ·rename_i h1;rw[aN h1];exact NZ hx hg
     ·rename_i h1;rw[az h1];exact NZ hy hg
   split at h
   ·cases h;exact aw none (fun z hz=>by cases hz) hg
   ·rename_i z0;split at h
    ·rename_i z hz;cases h;exact aw (some z) (fun w hw=>by cases hw;exact⟨z0,rfl,hz⟩) hg
    ·cases h
  ·cases h
theorem WT(hr:x_ r φ ψ){ob cp:bc}{e:PE}{o:Obj}(h:lM r ob=some cp)(ho:OR φ ob e o):OR ψ cp e o:=by
 cases ob<;>simp only[lM]at h<;>try (cases h;done)
 case ay vs el=>
  split at h
  ·rename_i l hl;cases h;obtain⟨cs,jB,rfl,h1,h2,h3,h4⟩:=ho;obtain⟨a1,a2⟩:=WS hl;exact⟨cs,jB,rfl,h1,by rw[a1];exact h2,by rw[a1];exact AF hr hl h3,by rw[a2];exact h4⟩
  ·cases h
 case bM es c p=>
  obtain⟨bQ,rfl,h2,h3⟩:=ho;cases p with
  |true=>cases h;exact⟨bQ,rfl,(h3 rfl).mono (fq.gU _),h3⟩
  |false=>
   simp only[cond_false]at h;split at h
   ·rename_i l hl;cases h;exact⟨bQ,rfl,afm hr hl h2,fun h=>by cases h⟩
   ·cases h
 case gG st p fn t nt ps a b d=>
  split at h
  ·rename_i t' d' ht hd;cases h;obtain⟨nL,ed,rfl,h1,h2⟩:=ho;refine⟨nL,ed,rfl,(hr d d' hd).trans h1,h2.1,fun i x hx=>?_⟩;obtain⟨x0,g1,g2⟩:=NZ ht hx;obtain⟨v,g3,g4⟩:=h2.2 i x0 g1;exact⟨v,g3,su hr g2 g4⟩
  ·cases h
 case bJ=>cases h;trivial
 case c9=>cases h;exact ho
 case aL=>cases h;exact ho
 case rB=>cases h;exact ho
 case oP ds=>
  split at h
  ·cases h;exact ho
  ·cases h;obtain⟨l',h1,h2⟩:=ho;cases h2;exact⟨[],h1,rfl⟩
  ·cases h
 case v8 z n el=>
  split at h
  ·rename_i l hl;cases h;obtain⟨cs,jB,rfl,h1,h2,h3,h4⟩:=ho;have yu:=apf hl n;obtain⟨a1,a2⟩:=WS yu;exact⟨cs,jB,rfl,h1,by rw[a1];exact h2,by rw[a1];exact AF hr yu h3,by rw[a2];exact h4⟩
  ·cases h
theorem NY{ob cp:bc}(h:lM r ob=some cp):cp.aE=ob.aE:=by
 cases ob<;>simp only[lM]at h<;>try (cases h;done)
 case ay vs el=>split at h<;>cases h;rfl
 case gG st p fn t nt ps a b d=>split at h<;>cases h;rfl
 case bM es c p=>
  cases p with
  |true=>cases h;rfl
  |false=>simp only[cond_false]at h;split at h<;>cases h;rfl
 case bJ=>cases h;rfl
 case c9=>cases h;rfl
 case aL=>cases h;rfl
 case rB=>cases h;rfl
 case oP ds=>split at h<;>cases h<;>rfl
 case v8 z n el=>split at h<;>cases h;rfl
end
theorem O2{r:Nat->Option Nat}{H:AH}:∀{ps:List (Nat×Nat)} {t t':Tr bc} {i:Nat} {cp:bc},AX r H ps t=some t'->t'.cb i=some cp->
 (∃o ob,(o,i)∈ps∧H.bD o=some ob∧lM r ob=some cp)∨t.cb i=some cp
 |[],t,t',i,cp,h,hg=>by cases h;exact .inr hg
 |(o,n)::l,t,t',i,cp,h,hg=>by
  simp only[AX]at h;split at h
  ·rename_i ho;rcases O2 h hg with⟨o2,ob,h1,h2⟩|h1
   ·exact .inl ⟨o2,ob,eE _ h1,h2⟩
   ·exact .inr h1
  ·rename_i ob ho;split at h
   ·rename_i kF alQ;rcases O2 h hg with⟨o2,oJ,h1,h2⟩|h1
    ·exact .inl ⟨o2,oJ,eE _ h1,h2⟩
    ·rw[Tr.lB]at h1;by_cases hi:i=n
     ·subst hi;rw[aN rfl]at h1;cases h1;exact .inl ⟨o,ob,eP ..,ho,alQ⟩
     ·rw[az hi]at h1;exact .inr h1
   ·cases h
def nr(ps:List (Nat×Nat))(φ:bu):bu:=fun c=>(xz ps c).bind φ
structure Gy(ps:List (Nat×Nat))(n:Nat):Prop where
 n1:(ps.map (·.1)).Nodup
 n2:(ps.map (·.2)).Nodup
 lt:∀p∈ps,p.2<n
theorem anS{ps:List (Nat×Nat)}{n:Nat}(h:V6 ps n=true):Gy ps n:=by unfold V6 at h;simp only[cy]at h;exact⟨VQ.1 h.1.1,VQ.1 h.1.2,fun p hp=>by have:=List.all_eq_true.1 h.2 p hp;exact Nat.le_of_ble_eq_true this⟩
theorem CA{ps:List (Nat×Nat)}{n:Nat}(h:Gy ps n)(φ:bu):x_ (jS ps) φ (nr ps φ):=by intro a c hac;have:=II h.n2 (VN hac);simp[nr,this]
theorem IM{ps:List (Nat×Nat)}{φ:bu}{c:Nat}{e:PE}(h:nr ps φ c=some e):∃a,(a,c)∈ps∧φ a=some e:=by
 unfold nr at h;cases ho:xz ps c with
 |none=>simp[ho]at h
 |some a=>simp[ho]at h;exact⟨a,NG ho,h⟩
theorem WR.rE{φ:bu}{base:ez}{H:AH}{w:World}(hw:WR φ base H w){ps:List (Nat×Nat)}{n:Nat}{t:Tr bc}(hp:Gy ps n)(h:AX (jS ps) H ps .gB=some t):
 WR (nr ps φ) base ⟨t,n⟩ w:=by
 have lH:∀{i ob},(⟨t,n⟩:AH).bD i=some ob->∃o gn,(o,i)∈ps∧H.bD o=some gn∧lM (jS ps) gn=some ob:=by
  intro i ob hi;rcases O2 h hi with h1|h1
  ·exact h1
  ·cases h1
 refine⟨?_,?_,?_,?_,hw.ro⟩
 ·intro i ob e h1 h2;obtain⟨o,gn,g1,g2,g3⟩:=lH h1;obtain⟨a,g4,g5⟩:=IM h2;have:=Nh hp.n2 g1 g4;subst this;obtain⟨o',g6,g7⟩:=hw.fP _ _ e g2 g5;exact⟨o',g6,WT (CA hp φ) g3 g7⟩
 ·intro i j ob cp e e' h1 l1 h2 h3 l2 h4 hb;obtain⟨o,gn,g1,g2,g3⟩:=lH h1;obtain⟨a,g4,g5⟩:=IM h2;obtain⟨o2,oJ,k1,k2,k3⟩:=lH h3;obtain⟨a2,k4,k5⟩:=IM h4;have e1:=Nh hp.n2 g1 g4;have e2:=Nh hp.n2 k1 k4;subst e1 e2;have:=hw.lW _ _ gn oJ e e' g2 (by rw[←NY g3];exact l1) g5 k2 (by rw[←NY k3];exact l2) k5 hb;subst this;exact ani hp.n1 g1 k1
 ·intro i e h2;obtain⟨a,g4,g5⟩:=IM h2;obtain⟨a1,a2,_⟩:=hw.lt a e g5;exact⟨a1,a2,hp.lt _ g4⟩
 ·intro i ob h1;obtain⟨o,gn,g1,_⟩:=lH h1;exact hp.lt _ g1
theorem JF{m0:Nat}{xD:LN}{H H2:AH}{ps:List (Nat×Nat)}(h:om m0 xD H=some ⟨ps,H2⟩):
 ∃t n,H2=⟨t,n⟩∧Gy ps n∧AX (jS ps) H ps .gB=some t∧(∀i,i<m0->xz ps i=some i):=by
 unfold om at h;split at h;rename_i ry n _;obtain⟨hc,h⟩:=di h;simp only[cy]at hc;split at h
 ·rename_i t ht;cases h;refine⟨t,n,rfl,anS hc.1,ht,fun i hi=>?_⟩;have:=List.all_eq_true.1 hc.2 i (by simpa using hi);split at this
  ·rename_i j hj;rw[hj,←eI this]
  ·cases this
 ·cases h
theorem XO{r:Nat->Option Nat}{tmps:Tr AV}:∀{l:LN} {t:Tr AV} {s:Nat} {a':AV},tE r tmps l=some t->t.cb s=some a'->∃a,tmps.cb s=some a∧eK r a=some a'
 |[],t,s,a',h,hg=>by cases h;cases hg
 |x::l,t,s,a',h,hg=>by
  simp only[tE]at h;split at h
  ·cases h
  ·rename_i t1 h1;split at h
   ·rename_i a ha;split at h
    ·rename_i b hb;cases h;rw[Tr.lB]at hg;by_cases hs:s=x
     ·subst hs;rw[aN rfl]at hg;cases hg;exact⟨a,ha,hb⟩
     ·rw[az hs]at hg;exact XO h1 hg
    ·cases h
   ·cases h;exact XO h1 hg
section
variable{P:Program}{ρ:Operand->Option AV}{H:AH}
theorem xA{o:Option AV}{k:AV->Prop}(h:uF o k):∃v,o=some v∧k v:=by
 unfold uF at h;cases o with
 |none=>cases h
 |some v=>exact⟨v,rfl,h⟩
theorem ke{c:Bool}{A:Prop}(h:bif c then A else False):c=true∧A:=by
 cases c
 ·cases h
 ·exact⟨rfl,h⟩
theorem yi:∀(d:Nat) (ts:List TypeId) (gK:LV) {k:LV->Prop},vj P d ts gK k->∃cs,k cs
 |0,_,_,_,h=>by cases h
 |d+1,[],gK,k,h=>⟨_,h⟩
 |d+1,t::ts,gK,k,h=>by
  simp only[vj]at h;split at h
  ·exact yi d _ _ h
  ·obtain⟨n,h⟩:=h;exact yi d _ _ h
  ·obtain⟨n,h⟩:=h;exact yi d _ _ h
  ·obtain⟨n,h⟩:=h;exact yi d _ _ h
  ·split at h
   ·obtain⟨cs,len,h⟩:=h;exact yi d _ _ h
   ·cases h
  ·obtain⟨n,h⟩:=h;exact yi d _ _ h
theorem SD{t:TypeId}{k:AV->Prop}(h:Hq P t k):∃v,k v:=by
 unfold Hq at h;split at h
 ·obtain⟨cs,h⟩:=yi _ _ _ h;exact⟨_,h⟩
 ·obtain⟨cs,h⟩:=yi _ _ _ h;split at h
  ·exact⟨_,h⟩
  ·cases h
 ·cases h
theorem ajV{t:TypeId}{k:LV->Prop}(h:abc P t k):∃v,k v:=yi _ _ _ h
theorem IC{x:Operand}{k:Nat->Prop}(h:Cr ρ x k):∃(kd:IntKind) (i:Nat),ρ x=some (.cM kd (.ofNat i))∧k i:=by
 unfold Cr at h;split at h
 ·rename_i kd n hx;cases hc:sc x
  ·rw[hc]at h;obtain⟨i,rfl,h⟩:=h;exact⟨kd,i,hx,h⟩
  ·rw[hc]at h;simp only[cond_true]at h;split at h
   ·rename_i i;exact⟨kd,i,hx,h⟩
   ·cases h
 ·cases h
def DK(a:Option AV)(d:Nat):Option Nat:=
 match a with
 |some v=>nG v
 |none=>some d
theorem zp{o:Option Operand}{d:Nat}{k:Nat->Prop}(h:wE ρ o d k):
 ∃a i,qn ρ o=some a∧DK a d=some i∧k i:=by
 unfold wE at h;cases o with
 |none=>exact⟨none,d,rfl,rfl,h⟩
 |some x=>obtain⟨kd,i,h1,h2⟩:=IC h;exact⟨some (.cM kd (.ofNat i)),i,by simp[qn,h1],rfl,h2⟩
theorem KC{o:Option Nat}{s:Nat}(h:o.any (Nat.beq s)=true):o=some s:=by
 cases o with
 |none=>cases h
 |some x=>simp only[Option.any_some]at h;rw[eI h]
theorem ac0{id:Nat}{vs:LV}(h:MO (H.bD id)=some vs):H.oo id=some vs:=by
 unfold MO at h;unfold AH.oo;split at h
 ·rename_i ho;cases h;rw[ho]
 ·rename_i ho;cases h;rw[ho]
 ·cases h
theorem aoY{t:TypeId}{a:Operand}{k:AV->Prop}(h:WI P ρ H t a k):∃v,gg P ρ H (.load t a)=some v∧k v:=by
 unfold WI at h;simp only[gg,Iw];split at h
 ·rename_i id off ha;rw[ha];split at h
  ·rename_i vs jc;obtain⟨v,h1,h2⟩:=SD h;exact⟨v,by simp only[se,ac0 jc,h1],h2⟩
  ·exact xA h
 ·rename_i cs ha;rw[ha];exact xA h
 ·cases h
theorem hZ{a b:Nat}(h:a<=b):Nat.ble a b=true:=by rw[Nat.ble_eq];exact h
theorem abC{id off sz:Nat}{k:AV->Prop}:∀{c j:Nat} {i:Nat},Lp id off sz (i:Int) k j c->j<=i->i<j+c->k (.ad id (off+i*sz))
 |0,j,i,_,h1,h2=>by omega
 |c+1,j,i,h,h1,h2=>by
  simp only[Lp]at h;by_cases hi:i=j
  ·subst hi;exact h.1 rfl
  ·exact abC h.2 (by simp;omega) (by simp;omega)
theorem aoW{t:TypeId}{x i:Operand}{k:AV->Prop}(h:WH P ρ H t x i k):∃v,gg P ρ H (.indexAddr t x i)=some v∧k v:=by
 unfold WH at h;split at h
 ·rename_i e hu;simp only[gg,Iv,hu];split at h
  ·rename_i cs len sz hx;obtain⟨hs,h⟩:=ke h;obtain⟨kd,j,hi,h⟩:=IC h;obtain⟨an,h⟩:=h;obtain⟨c9,h1,h2⟩:=ajV h;rw[hx,hi];refine⟨_,?_,h2⟩;have hs:=KC hs;simp only[K5,hs,Nat.beq_refl,hZ (show j+1<=len from an),Bool.and_self,cond_true,h1]
  ·rename_i id len sz hx;obtain⟨hs,h⟩:=ke h;obtain⟨kd,j,hi,h⟩:=IC h;obtain⟨an,h⟩:=h;rw[hx,hi];refine⟨_,?_,h⟩;have yF:=KC hs;simp only[yF,Option.any_some,Nat.beq_refl,cond_true,zx,hZ (show j+1<=len from an),fD]
  ·rename_i id off len cap sz ex hx;obtain⟨hs,h⟩:=ke h;obtain⟨kd,j,hi,h⟩:=IC h;obtain⟨an,h⟩:=h;rw[hx,hi];refine⟨_,?_,h⟩;have yF:=KC hs;simp only[cond_true,zx,yF,hZ (show j+1<=len from an)]
  ·cases h
 ·rename_i c e hu;cases hc:sc i
  ·rw[hc]at h;simp only[cond_false]at h;split at h
   ·rename_i id off kd n hx hi;split at h
    ·rename_i sz hs;obtain⟨⟨h0,h1⟩,h⟩:=h;obtain⟨j,rfl⟩:=Int.eq_ofNat_of_zero_le h0;have eW:ρ i=some (.cM kd (.ofNat j)):=hi;refine⟨_,?_,abC h (Nat.zero_le _) (by omega)⟩;simp only[gg,Iv,hu,hx,eW,zx,hs,hZ (show j+1<=c by omega),cond_true]
    ·cases h
   ·cases h
  ·rw[hc]at h;exact xA h
 ·exact xA h
theorem abB{e:TypeId}{sz:Nat}{cs:LV}{k:AV->Prop}:∀{c j:Nat} {i:Nat},Lo P e sz cs (i:Int) k j c->j<=i->i<j+c->∃v,bA P e cs (i*sz)=some v∧k v
 |0,j,i,_,h1,h2=>by omega
 |c+1,j,i,h,h1,h2=>by
  simp only[Lo]at h;by_cases hi:i=j
  ·subst hi;exact xA (h.1 rfl)
  ·exact abB h.2 (by simp;omega) (by simp;omega)
theorem aoX{t:TypeId}{x i:Operand}{k:AV->Prop}(h:WG P ρ H t x i k):∃v,gg P ρ H (.index t x i)=some v∧k v:=by
 unfold WG at h;split at h
 ·rename_i cs kd n hx hi;cases hc:sc i
  ·rw[hc]at h;simp only[cond_false]at h;split at h
   ·rename_i c e hu;split at h
    ·rename_i sz hs;obtain⟨⟨h0,h1⟩,h⟩:=h;obtain⟨j,rfl⟩:=Int.eq_ofNat_of_zero_le h0;obtain⟨v,h2,h3⟩:=abB h (Nat.zero_le _) (by omega);refine⟨v,?_,h3⟩;have eW:ρ i=some (.cM kd (.ofNat j)):=hi;simp only[gg,Iu,hu,hx,eW,Sb,hs,hZ (show j+1<=c by omega),cond_true,h2]
    ·cases h
   ·cases h
  ·rw[hc]at h;exact xA h
 ·rename_i s kd n hx hi;split at h
  ·rename_i hu;obtain⟨kd',j,eW,b,h1,h2⟩:=IC h;refine⟨_,?_,h2⟩;simp only[gg,Iu,hu,hx,eW,Rz,h1]
  ·cases h
 ·cases h
theorem am9{kt e:TypeId}{es:List (AV×AV×Nat)}{key v:AV}{b ok:Bool}(h:gf P kt e es key=some (v,b)):
 (match mE (iQ P 100 kt) key es 0 with
   |some (some (_,v,_))=>some (qm ok v true)
   |some none=>(kM P e).map (qm ok · false)
   |none=>none)=some (qm ok v b):=by
 unfold gf at h;split at h
 ·rename_i i v' b' hf;cases h;first|rfl|rw[hf]
 ·rename_i hf;try rw[hf]
  cases hz:kM P e with
  |none=>simp[hz]at h
  |some z=>simp[hz]at h⊢;obtain⟨rfl,rfl⟩:=h;rfl
 ·cases h
theorem aoZ{t:TypeId}{x key:Operand}{ok:Bool}{k:AV->Prop}(h:WJ P ρ H t x key ok k):∃v,gg P ρ H (.lookup t x key ok)=some v∧k v:=by
 unfold WJ at h;split at h
 ·rename_i kt e id ky hu hx hk;split at h
  ·rename_i es c p ho;obtain⟨hp,h⟩:=ke h;obtain⟨v,b,h1,h2⟩:=SD h;refine⟨_,?_,h2⟩;simp only[gg,Fq,hu,hx,hk,Fs,hp,cond_true,wQ,ho];exact am9 h1
  ·cases h
 ·rename_i kt e ky hu hx hk;obtain⟨hp,h⟩:=ke h;obtain⟨v,h1,h2⟩:=xA h;refine⟨v,?_,h2⟩;simp only[gg,Fq,hu,hx,hk,Fs,hp,cond_true,wQ,mE];exact h1
 ·cases h
theorem Xi{t:TypeId}{sz:Nat}(h:(match P.underlying t with|some (.slice e)=>(dH P e).any (Nat.beq sz)|_=>false)=true):∃e,P.underlying t=some (.slice e)∧dH P e=some sz:=by
 split at h
 ·rename_i e hu;exact⟨e,hu,KC h⟩
 ·cases h
theorem avo{t:TypeId}(h:(match P.underlying t with|some .string=>true|_=>false)=true):P.underlying t=some .string:=by
 split at h
 ·assumption
 ·cases h
theorem agr{id off len cap sz:Nat}{ex:Bool}{lo hi:Option AV}{l h:Nat}(e2:DK lo 0=some l)(e1:DK hi len=some h)
 (h1:l<=h) (h2:h<=bif ex then cap else len):CN id off len cap sz ex lo hi none=some (.bB id (off+l*sz) (h-l) (GY ex lo cap l) sz ex):=by
 unfold CN;cases lo<;>cases hi<;>simp only[DK]at e1 e2⊢<;>first
  |(cases e1;cases e2;simp[hZ h1,hZ h2];done)
  |(cases e1;simp[e2,hZ h1,hZ h2];done)
  |(cases e2;simp[e1,hZ h1,hZ h2];done)
  |(simp[e1,e2,hZ h1,hZ h2];done)
theorem aad{lo:Option Operand}{a:Option AV}(h:qn ρ lo=some a)(ex:Bool)(cap l:Nat):GX ex lo cap l=GY ex a cap l:=by
 cases lo with
 |none=>cases h;rfl
 |some x=>
  simp only[qn]at h;cases hx:ρ x with
  |none=>rw[hx]at h;cases h
  |some v=>rw[hx]at h;cases h;rfl
theorem ao2{t:TypeId}{x:Operand}{lo hi mx:Option Operand}{k:AV->Prop}(h:WL P ρ H t x lo hi mx k):∃v,gg P ρ H (.slice t x lo hi mx)=some v∧k v:=by
 unfold WL at h;split at h
 ·rename_i cs len sz hx;obtain⟨hc,hq⟩:=ke h;clear h;simp only[cy]at hc;obtain⟨e,hu,hs⟩:=Xi hc.2;have vL:mx=none:=by cases mx<;>simp at hc⊢
  subst vL;obtain⟨a,l,h1,h2,hq⟩:=zp hq;obtain⟨b,h',h3,h4,hq⟩:=zp hq;obtain⟨⟨g1,g2⟩,hq⟩:=hq;refine⟨_,?_,hq⟩;simp only[gg,yJ,h1,h3,hu,hx,hs,show qn ρ none=some none from rfl,Option.any_some,Nat.beq_refl,cond_true];show Ja cs len sz a b none=_;unfold Ja;cases a<;>cases b<;>simp only[DK]at h2 h4⊢<;>first
   |(cases h2;cases h4;simp[hZ g1,hZ g2];done)
   |(cases h2;simp[h4,hZ g1,hZ g2];done)
   |(cases h4;simp[h2,hZ g1,hZ g2];done)
   |(simp[h2,h4,hZ g1,hZ g2];done)
 ·rename_i id off len cap sz ex hx;obtain⟨hc,hq⟩:=ke h;clear h;simp only[cy]at hc;obtain⟨e,hu,hs⟩:=Xi hc.2;have vL:mx=none:=by cases mx<;>simp at hc⊢
  subst vL;obtain⟨a,l,h1,h2,hq⟩:=zp hq;obtain⟨b,h',h3,h4,hq⟩:=zp hq;obtain⟨⟨g1,g2⟩,hq⟩:=hq;refine⟨_,?_,hq⟩;simp only[gg,yJ,h1,h3,hu,hx,hs,show qn ρ none=some none from rfl,Option.any_some,Nat.beq_refl,cond_true];have hc:GX ex lo cap l=GY ex a cap l:=aad h1 _ _ _;rw[hc];exact agr h2 h4 g1 g2
 ·rename_i id len sz hx;obtain⟨hc,hq⟩:=ke h;clear h;simp only[cy]at hc;obtain⟨e,hu,hs⟩:=Xi hc.2;have vL:mx=none:=by cases mx<;>simp at hc⊢
  subst vL;obtain⟨mK,hq⟩:=hq;obtain⟨a,l,h1,h2,hq⟩:=zp hq;obtain⟨b,h',h3,h4,hq⟩:=zp hq;obtain⟨⟨g1,g2⟩,hq⟩:=hq;refine⟨_,?_,hq⟩;simp only[gg,yJ,h1,h3,hu,hx,hs,Option.any_some,Nat.beq_refl,show qn ρ none=some none from rfl,Option.isNone_none,hZ mK,Bool.and_self,cond_true];have hc:GX false lo 1 l=GY false a 1 l:=aad h1 _ _ _;rw[hc];exact agr h2 h4 g1 g2
 ·rename_i s hx;obtain⟨hc,hq⟩:=ke h;clear h;simp only[cy]at hc;have hu:=avo hc.2;have vL:mx=none:=by cases mx<;>simp at hc⊢
  subst vL;obtain⟨a,l,h1,h2,hq⟩:=zp hq;obtain⟨b,h',h3,h4,hq⟩:=zp hq;obtain⟨⟨g1,g2⟩,hq⟩:=hq;refine⟨_,?_,hq⟩;simp only[gg,yJ,h1,h3,hu,hx,show qn ρ none=some none from rfl,Option.isNone_none,cond_true];unfold Og;cases a<;>cases b<;>simp only[DK]at h2 h4⊢<;>first
   |(cases h2;cases h4;simp[hZ g1,hZ g2];done)
   |(cases h2;simp[h4,hZ g1,hZ g2];done)
   |(cases h4;simp[h2,hZ g1,hZ g2];done)
   |(simp[h2,h4,hZ g1,hZ g2];done)
 ·exact xA h
theorem aiy{b:Bool}{A B:Prop}(h:ai b A B)(hb:b=true):A:=by subst hb;exact h
theorem aix{b:Bool}{A B:Prop}(h:ai b A B)(hb:b=false):B:=by subst hb;exact h
theorem aY{b:Bool}{A B:Prop}:ai b A B↔(b=true->A)∧(b=false->B):=by
 cases b
 ·exact⟨fun h=>⟨(fun h=>by cases h),fun _=>h⟩,fun h=>h.2 rfl⟩
 ·exact⟨fun h=>⟨fun _=>h,(fun h=>by cases h)⟩,fun h=>h.1 rfl⟩
theorem ao1{c a b:Operand}{k:AV->Prop}(h:WK ρ c a b k):∃v,gg P ρ H (.pick c a b)=some v∧k v:=by
 unfold WK at h;cases hc:ρ c with
 |none=>simp only[hc]at h
 |some vc=>
  cases ha:ρ a with
  |none=>cases vc<;>simp only[hc,ha]at h
  |some va=>
   cases hb:ρ b with
   |none=>cases vc<;>simp only[hc,ha,hb]at h
   |some vb=>
    cases vc<;>simp only[hc,ha,hb]at h<;>try (cases h;done)
    rename_i t;have key:∀v,(bif t then va else vb)=v->gg P ρ H (.pick c a b)=some v:=by
     intro v hv;simp only[gg,M3,hc];cases t
     ·simp only[cond_false]at hv⊢;rw[hb,hv]
     ·simp only[cond_true]at hv⊢;rw[ha,hv]
    by_cases h2:∃x y,va=.aA x∧vb=.aA y
    ·obtain⟨x,y,rfl,rfl⟩:=h2;refine⟨_,key _ ?_,h⟩;cases t<;>rfl
    ·
     have h3:ai t (k va) (k vb):=by
      cases va<;>cases vb<;>first
       |exact h
       |exact absurd ⟨_,_,rfl,rfl⟩ h2
     cases t
     ·exact⟨_,key _ rfl,h3⟩
     ·exact⟨_,key _ rfl,h3⟩
theorem aba:∀{fs:List Field} {i:Nat} {cs ds xs ys:LV} {b:Bool} (d' d:Nat),yg P fs i cs ds=some b->xs.drop i=cs->ys.drop i=ds->
 iQ.A6 P d' fs xs ys (iQ P (d+1))=some b
 |[],i,cs,ds,xs,ys,b,d',d,he,hx,hy=>by
  cases cs with
  |nil=>cases ds with
   |nil=>simpa[yg,iQ.A6]using he
   |cons=>simp[yg]at he
  |cons=>simp[yg]at he
 |f::fs,i,cs,ds,xs,ys,b,d',d,he,hx,hy=>by
  cases cs with
  |nil=>simp[yg]at he
  |cons c cs=>
   cases ds with
   |nil=>simp[yg]at he
   |cons dd ds=>
    simp only[yg]at he;obtain⟨iH,he⟩:=di he;simp only[cy]at iH;obtain⟨hn,ho⟩:=iH;have ho:=eI ho;split at he
    ·rename_i td hu;split at he
     ·rename_i x y h1 h2;cases he;have al2:xs[i]? =some c:=by have:=congrArg (·[0]?) hx;simpa using this
      have al3:ys[i]? =some dd:=by have:=congrArg (·[0]?) hy;simpa using this
      have Tq:Aa P f.type=some false∧iQ P (d+1) f.type c dd=some x:=by
       unfold aa6 at h1;split at h1
       ·split at h1
        ·rename_i hk;subst hk;cases h1;exact⟨by simp[Aa,hu],by simp[iQ,hu]⟩
        ·cases h1
       ·cases h1;exact⟨by simp[Aa,hu],by simp[iQ,hu]⟩
       ·cases h1;exact⟨by simp[Aa,hu],by simp[iQ,hu]⟩
       ·cases h1
      have c6:f.name≠ "_" :=by simpa using hn
      have hpx:bA P f.type xs f.offset=some c:=by simp only[bA,Tq.1,ho,al2]
      have hpy:bA P f.type ys f.offset=some dd:=by simp only[bA,Tq.1,ho,al3]
      simp only[iQ.A6,az c6,hpx,hpy,Tq.2];have UQ:xs.drop (i+1)=cs:=by have:=congrArg (List.drop 1) hx;simpa[Nat.add_comm]using this
      have mL:ys.drop (i+1)=ds:=by have:=congrArg (List.drop 1) hy;simpa[Nat.add_comm]using this
      have ih:=aba d' d h2 UQ mL;cases x
      ·simp
      ·simpa using ih
     ·cases he
    ·cases he
theorem Sz{t:TypeId}{cs ds:LV}{b:Bool}(h:Lh P t cs ds=some b):iQ P 100 t (.aj cs) (.aj ds)=some b∧P.eqGuardType P.depth t=false:=by
 unfold Lh at h;split at h
 ·rename_i gL hu;cases hc:(P.stoodInHeld t||P.eqGuardType P.depth t)
  ·rw[hc]at h;simp only[cond_false]at h;simp only[Bool.or_eq_false_iff]at hc;refine⟨?_,hc.2⟩;rw[iQ]
   ·simp only[hc.1,cond_false];exact aba 99 98 h rfl rfl
   ·exact hu
  ·rw[hc]at h;cases h
 ·cases h
theorem aoV{op:BinOp}{t:TypeId}{x y:Operand}{yt:TypeId}{k:AV->Prop}(h:WE P ρ H op t x y yt k):∃v,gg P ρ H (.binOp op t x y yt)=some v∧k v:=by
 unfold WE at h;split at h
 ·rename_i cs ds hx hy;have key:∀{b:Bool} {v:AV},Lh P t cs ds=some b->Eh P op t (.aj cs) (.aj ds)=some v->gg P ρ H (.binOp op t x y yt)=some v:=by intro b v hb hv;obtain⟨h1,h2⟩:=Sz hb;simp only[gg,MX,hx,hy,KK,nE,Et,h2,Nat.beq_refl,Bool.not_false,Bool.and_true];exact hv
  split at h
  ·rename_i b hb;exact⟨_,key hb (by simp[Eh,(Sz hb).1]),h⟩
  ·rename_i b hb;exact⟨_,key hb (by simp[Eh,(Sz hb).1]),h⟩
  ·cases h
 ·exact xA h
theorem ao3{op:Op}{k:AV->Prop}(h:rd P ρ H op k):∃v,gg P ρ H op=some v∧k v:=by
 unfold rd at h;split at h
 ·exact aoY h
 ·exact aoW h
 ·exact aoX h
 ·exact aoZ h
 ·exact ao2 h
 ·exact ao1 h
 ·exact aoV h
 ·exact xA h
theorem VK{o:Option (bc×(Nat->AV))}{k:AV->AH->Prop}(h:IA H o k):∃ob g,o=some (ob,g)∧k (g H.bW) (H.iN ob):=by
 unfold IA at h;split at h
 ·rename_i ob g hh n;exact⟨ob,g,rfl,h⟩
 ·cases h
theorem anm{op:Op}{k:AV->AH->Prop}(h:mk P ρ H op k):∃ob g,n8 P ρ op=some (ob,g)∧k (g H.bW) (H.iN ob):=by
 unfold mk at h;split at h
 ·rename_i t len cap;unfold adK at h;cases hk:sc cap
  ·rw[hk]at h;simp only[cond_false]at h;obtain⟨hs,h⟩:=ke h;have nD:len=cap:=by cases len<;>cases cap<;>simp[af8]at hs;rw[hs]
   subst nD;split at h
   ·rename_i elem n hu hc;split at h
    ·rename_i s z h_ h1 h2 h3;obtain⟨c,rfl,h⟩:=h;unfold mkS at h;obtain⟨hb,h⟩:=ke h;obtain⟨de,h⟩:=h;obtain⟨ob,g,h4,h5⟩:=VK h;refine⟨ob,g,?_,h5⟩;simp only[cy]at hb;obtain⟨⟨⟨⟨b1,b2⟩,b3⟩,b4⟩,b5⟩:=hb;have qQ:ρ len=some (.cM .i64 (.ofNat c)):=hc;simp only[n8,M0,hu,qQ,h1,h2,h3,hk,cond_false,Ng,hZ (eh c),hZ de,b1,b2,b3,b4,b5,Bool.and_self,cond_true];exact h4
    ·cases h
   ·cases h
  ·rw[hk]at h;exact VK h
 ·exact VK h
end
noncomputable section
def Ag(S:wx):qH:=fun f args H=>
 match Ix S f args H with
 |some ⟨p,v,H'⟩=> @ite _ p (Classical.propDecidable p) (some (v,H')) none
 |none=>none
def Lx(S:wx)(fr:cZ)(H:AH):Option gh:=
 match fr.px with
 |some l=>match H.bD l with
  |some (.gG st pe fn tmps nt params assign body d)=>match params with
   |[p]=>match fr.py.cb p with
    |some a=> @dite _ (yU (.gG st pe fn tmps nt params assign body d) l [a]=some fr) (Classical.propDecidable _)
      (fun _=>match Ag S 999999 [.gJ l,a] H with|some (v,H')=>some ⟨.gy v,none,H'⟩|none=>none) (fun _=>none)
    |none=>none
   |_=>none
  |_=>none
 |none=>none
def oV(S:bC):iO:=⟨Lx (rQ S),fun f args H=>bif Ad f then none else Ag (rQ S) f args H⟩
theorem Tr.Xe{α:Type}{t:Tr α}:∀{n:Nat} {a:α},t.cb n=some a->t.iY n a=t:=by
 induction t with
 |gB=>intro n a h;cases h
 |gm v l r Is It=>
  intro n a h;rw[Tr.o4]at h;rw[Tr.agd];by_cases h0:n=0
  ·rw[aN h0]at h⊢;rw[h]
  ·rw[az h0]at h⊢;by_cases h1:n%2=1
   ·rw[aN h1]at h⊢;rw[Is h]
   ·rw[az h1]at h⊢;rw[It h]
section
variable{P:Program}{ρ:Operand->Option AV}{H:AH}{S:bC}
def Dv(P:Program)(S:bC)(ρ:Operand->Option AV)(H:AH)(op:Op)(v:AV)(H':AH):Prop:=
 ∃aU up,oz P ρ H op=some aU∧ny P (oV S) H none aU=some ⟨.gy v,up,H'⟩
theorem Dv.val{op:Op}{v:AV}{H':AH}(h:oz P ρ H op=some (.iC v H')):Dv P S ρ H op v H':=⟨_,none,h,rfl⟩
theorem acM{o:Option fU}{k:AV->AH->Prop}(h:z8 o k):∃v H',o=some (.iC v H')∧k v H':=by
 unfold z8 at h;split at h
 ·exact⟨_,_,rfl,h⟩
 ·cases h
theorem aeX{vs cs:LV}{off:Nat}(h:off+cs.length<=vs.length):sq vs off cs=some (fA vs off cs):=by unfold sq;rw[Tw,hZ h];rfl
theorem amf{t:TypeId}{a x:Operand}{k:AV->AH->Prop}(h:UL P ρ H t a x k):∃v H',Dv P S ρ H (.store t a x) v H'∧k v H':=by
 unfold UL at h;split at h
 ·rename_i id off v ha hx;split at h
  ·rename_i vs e s ho hs;obtain⟨hc,h⟩:=ke h;obtain⟨hl,h⟩:=h;exact⟨_,_,.val (by simp only[oz,EG,ha,hx,FZ,ho,hs,hc,cond_true,aeX hl,Option.map_some,uG]),h⟩
  ·rename_i vs e s ho hs;obtain⟨hc,h⟩:=ke h;obtain⟨hl,h⟩:=h;exact⟨_,_,.val (by simp only[oz,EG,ha,hx,FZ,ho,hs,hc,cond_true,aeX hl,Option.map_some,uG]),h⟩
  ·obtain⟨v,H',h1,h2⟩:=acM h;exact⟨v,H',.val h1,h2⟩
 ·cases h
theorem acL{t:TypeId}{m key x:Operand}{k:AV->AH->Prop}(h:MI P ρ H t m key x k):∃v H',zK P ρ H t m key x=some (.iC v H')∧k v H':=by
 unfold MI at h;split at h
 ·rename_i kt e id ky v hu hm hk hx;split at h
  ·rename_i es c p ho;obtain⟨hp,h⟩:=ke h;obtain⟨bQ,c',h1,h2⟩:=h;refine⟨_,_,?_,h2⟩;simp only[zK,hm,hk,hx,Fy,hu,ho,hp,cond_true];unfold lN at h1;split at h1
   ·rename_i i a b hf;obtain⟨hs,h1⟩:=di h1;cases h1;simp only[hf,hs,cond_true,uG]
   ·rename_i hf;cases h1;simp only[hf,uG]
   ·cases h1
  ·cases h
 ·cases h
theorem amd{t:TypeId}{m key:Operand}{k:AV->AH->Prop}(h:UI P ρ H t m key k):∃v H',HK P ρ H t m key=some (.iC v H')∧k v H':=by
 unfold UI at h;split at h
 ·rename_i kt e id ky hu hm hk;split at h
  ·rename_i es c p ho;obtain⟨hp,h⟩:=ke h;obtain⟨v,h⟩:=SD h;obtain⟨b,bQ,c',h1,h2⟩:=h;refine⟨_,_,?_,h2⟩;simp only[HK,hu,hm,hk,Lc,ho,hp,cond_true];unfold abJ at h1;split at h1
   ·rename_i i a b' hf;obtain⟨hs,h1⟩:=di h1;cases h1;simp only[hf,hs,cond_true]
   ·rename_i hf;split at h1
    ·rename_i z hz;obtain⟨hs,h1⟩:=di h1;cases h1;simp only[hf,hz,hs,cond_true]
    ·cases h1
   ·cases h1
  ·cases h
 ·cases h
theorem amc{m s x:Operand}{k:AV->AH->Prop}(h:UJ ρ H m s x k):∃v H',HJ ρ H m s x=some (.iC v H')∧k v H':=by
 unfold UJ at h;split at h
 ·rename_i id kd b v hm hs hx;split at h
  ·rename_i es c p ho;obtain⟨hp,h⟩:=ke h;obtain⟨bQ,h1,h2⟩:=h;refine⟨_,_,?_,h2⟩;simp only[HJ,hm,hs,hx,Ld,ho];unfold aeS at h1;split at h1
   ·rename_i i hi;cases h1;simp only[hi,hp,cond_true]
   ·cases h1
  ·cases h
 ·cases h
theorem amb{ts:Array TypeId}{id:Nat}{key:AV}{k:AV->AH->Prop}(h:UH P H ts id key k):∃v H',DQ P H ts id key=some (.iC v H')∧k v H':=by
 unfold UH at h;split at h
 ·rename_i kt e es c p hu ho;obtain⟨hp,h⟩:=ke h;obtain⟨bQ,h1,h2⟩:=h;unfold aaz at h1;split at h1
  ·rename_i i a b hf;cases h1;exact⟨_,_,by simp only[DQ,hu,ho,hp,cond_true,hf],h2⟩
  ·rename_i hf;cases h1;refine⟨.lU,H,by simp only[DQ,hu,ho,hp,cond_true,hf],?_⟩;have:H.dS id (.bM es c p)=H:=by
    cases H with
    |mk h n=>simp only[AH.dS,AH.mk.injEq,and_true];exact Tr.Xe ho
   rw[this]at h2;exact h2
  ·cases h1
 ·cases h
theorem avy{sz:Nat}{x:AV}{k:Nat->LV->Prop}(h:XD H sz x k):∃n l,tX H sz x=some (n,l)∧k n l:=by
 unfold XD at h;split at h
 ·rename_i cs len s;obtain⟨hs,h⟩:=ke h;exact⟨_,_,by simp only[tX,hs,cond_true],h⟩
 ·rename_i id len s;obtain⟨hs,h⟩:=ke h;split at h
  ·rename_i vs el ho;obtain⟨hl,h⟩:=h;exact⟨_,_,by simp only[tX,hs,cond_true,ho,hl,Nat.beq_refl],h⟩
  ·cases h
 ·rename_i id off len cap s ex;split at h
  ·rename_i vs jc;obtain⟨hs,h⟩:=ke h;obtain⟨hl,h⟩:=h;refine⟨_,_,?_,h⟩;have bH:((vs.drop off).take (len*sz)).length=len*sz:=by simp;omega
   simp only[tX,hs,cond_true,ac0 jc,ph,bH,Nat.beq_refl,Option.map_some]
  ·split at h
   ·rename_i n l he;exact⟨n,l,he,h⟩
   ·cases h
 ·split at h
  ·rename_i n l he;exact⟨n,l,he,h⟩
  ·cases h
theorem ahN{elem:TypeId}{sz n:Nat}{s:AV}{l:LV}{k:AV->AH->Prop}(hn:1<=n)(h:GP H elem sz s n l k):∃v H',rM H elem sz s n l=some (v,H')∧k v H':=by
 obtain⟨m,rfl⟩:∃m,n=m+1:=⟨n-1,by omega⟩;unfold GP at h;split at h
 ·rename_i id len mr;obtain⟨hs,h⟩:=ke h;split at h
  ·rename_i vs el ho;obtain⟨⟨h1,h2,h3,h4⟩,h⟩:=h;exact⟨_,_,by simp only[rM,hs,hZ h2,Bool.and_self,cond_true,S2,ho,h1,Nat.beq_refl,h3,h4],h⟩
  ·cases h
 ·rename_i id off len cap mr ex;obtain⟨hs,hq⟩:=ke h;clear h;split at hq
  ·rename_i vs el ho;obtain⟨⟨h1,h2,⟨h3,h4⟩,h5⟩,hq⟩:=hq;subst h5;refine⟨_,_,?_,hq⟩;have bH:((vs.drop off).take (len*sz)).length=len*sz:=by simp;omega
   simp only[rM,hs,hZ h2,Bool.and_self,cond_true,LA,ho,ph,bH,Nat.beq_refl,h3,h4,Bool.false_and,cond_false]
  ·rename_i vs el ho;obtain⟨⟨h1,h2,⟨h3,h4⟩,h5⟩,hq⟩:=hq;subst h5;refine⟨_,_,?_,hq⟩;have bH:((vs.drop off).take (len*sz)).length=len*sz:=by simp;omega
   simp only[rM,hs,hZ h2,Bool.and_self,cond_true,LA,ho,ph,bH,Nat.beq_refl,h3,h4,Bool.false_and,cond_false]
  ·split at hq
   ·exact⟨_,_,by assumption,hq⟩
   ·cases hq
 ·split at h
  ·exact⟨_,_,by assumption,h⟩
  ·cases h
theorem ahM{elem:TypeId}{sz:Nat}{s:AV}{l:LV}{A:Prop}(h:GO sz s A):rM H elem sz s 0 l=some (s,H)∧A:=by
 unfold GO at h;split at h
 ·exact⟨rfl,h⟩
 ·obtain⟨hs,hl,h⟩:=ke h;exact⟨by simp only[rM,hs,Nat.add_zero,hZ hl,Bool.and_self,cond_true],h⟩
 ·obtain⟨hs,hl,h⟩:=ke h;exact⟨by simp only[rM,hs,Nat.add_zero,hZ hl,Bool.and_self,cond_true],h⟩
 ·cases h
theorem ahO{elem:TypeId}{sz n:Nat}{s:AV}{M7:Bool}{l:LV}{k:AV->AH->Prop}(h:Q8 H elem sz s M7 n l k):∃v H',rM H elem sz s n l=some (v,H')∧k v H':=by
 unfold Q8 at h;have key:(n=0->GO sz s (k s H))->(1<=n->GP H elem sz s n l k)->∃v H',rM H elem sz s n l=some (v,H')∧k v H':=by
  intro h0 h1;rcases Nat.eq_zero_or_pos n with hn|hn
  ·subst hn;obtain⟨a,b⟩:=ahM (H:=H) (elem:=elem) (l:=l) (h0 rfl);exact⟨_,_,a,b⟩
  ·exact ahN hn (h1 hn)
 cases M7
 ·exact key h.1 h.2
 ·simp only[cond_true]at h;split at h
  ·exact key (fun _=>h) (fun h=>by omega)
  ·exact key (fun h=>by omega) (fun _=>h)
theorem al9{ts:Array TypeId}{s x:AV}{k:AV->AH->Prop}(h:UF P H ts s x k):∃v H',DF P H ts s x=some (v,H')∧k v H':=by
 unfold UF at h;unfold DF;split at h
 ·rename_i elem hu;rw[hu];simp only;split at h
  ·rename_i sz h_ hs l9;rw[hs,l9];simp only;obtain⟨hc,h⟩:=ke h;simp only[cy]at hc;obtain⟨⟨h1,h2⟩,h3⟩:=hc;rw[h1,h2];obtain⟨n,l,h4,h5⟩:=avy h;have mg:JB P H ts elem sz x=some (n,l):=by
    unfold JB;split at h3
    ·rename_i e UD;rw[UD];exact h4
    ·cases h3
   simp only[Bool.and_self,cond_true,mg];exact ahO h5
  ·cases h
 ·cases h
theorem ama{b:Builtin}{args:LV}{ts:Array TypeId}{k:AV->AH->Prop}(h:UG P H b args ts k):∃v H',Ez P H b args ts=some (.iC v H')∧k v H':=by
 unfold UG at h;split at h
 ·obtain⟨v,H',h1,h2⟩:=al9 h;exact⟨v,H',by simp only[Ez,h1,Cy],h2⟩
 ·obtain⟨v,H',h1,h2⟩:=amb h;exact⟨v,H',h1,h2⟩
 ·exact acM h
theorem Rs{α:Type 1}{b:Bool}{o:Option α}{a:α}(h:(bif b then o else none)=some a):b=true∧o=some a:=by
 cases b
 ·cases h
 ·exact⟨rfl,h⟩
theorem adl{f:FuncId}{args:LV}{ps:List (Nat×Nat)}{n:Nat}{sp:Sp}{x:Prop×AV×AH}(h:VA S f args H=some (ps,n,sp))(hx:wJ sp=some x):Ix (rQ S) f args H=Ah ps n H x:=by
 unfold VA at h;unfold Ix;split at h
 ·cases h
 ·rename_i ry t' n' hv;obtain⟨hm,h⟩:=Rs h;simp only[hm,cond_true];split at h
  ·rename_i args' ha;split at h
   ·rename_i AK hs;cases h;have:rQ S f args' ⟨t',n⟩=some x:=by unfold rQ;rw[hs];exact hx
    rw[this]
   ·cases h
  ·cases h
theorem adk{ps:List (Nat×Nat)}{n:Nat}{p p' q:Prop}{x:AV×AH}{v:AV}{H':AH}(h:Ah ps n H (p,x)=some ⟨q,v,H'⟩):q=p∧Ah ps n H (p',x)=some ⟨p',v,H'⟩:=by
 obtain⟨v0,⟨hs,ns⟩⟩:=x;obtain⟨h0,next⟩:=H;simp only[Ah]at h⊢;obtain⟨hb,h⟩:=di h;rw[hb];simp only[cond_true];split at h
 ·rename_i v1 t1 z7 MD;split at h
  ·rename_i t2 Fg;cases h;exact⟨rfl,rfl⟩
  ·cases h
 ·cases h
theorem ac5{S:wx}{f:FuncId}{args:LV}{p:Prop}{v:AV}{H':AH}(h:Ix S f args H=some ⟨p,v,H'⟩)(hp:p):Ag S f args H=some (v,H'):=by unfold Ag;rw[h];exact aN hp
theorem acI{f:FuncId}{args:LV}{k:AV->AH->Prop}(h:Fi H S f args k):∃v H',Ag (rQ S) f args H=some (v,H')∧k v H':=by
 unfold Fi at h;split at h
 ·rename_i ps n x hl;unfold MH at h;split at h
  ·rename_i p v H' ho;exact⟨v,H',ac5 ((adl hl rfl).trans ho) h.1,h.2⟩
  ·cases h
 ·rename_i ps n W g u hl;obtain⟨w,h⟩:=h;unfold MH at h;split at h
  ·rename_i p v H' ho;have he:∃p0 x0,g w=(p0,x0):=⟨_,_,rfl⟩;obtain⟨p0,x0,he⟩:=he;rw[he]at ho;have hp:p=p0:=(adk (p':=p0) ho).1;subst hp;have hw:∃w,(g w).1:=⟨w,by rw[he];exact h.1⟩;have hd:wJ (.ex W g u)=some (g hw.choose):=dif_pos hw;have h2:=hw.choose_spec;have h3:=u _ w h2 (by rw[he];exact h.1);have L4:g hw.choose=((g hw.choose).1,x0):=Prod.ext rfl (by rw[h3,he]);have h4:=(adk (p':=(g hw.choose).1) ho).2;rw[←L4]at h4;exact⟨v,H',ac5 ((adl hl hd).trans h4) h2,h.2⟩
  ·cases h
 ·cases h
theorem acJ{f:FuncId}{args:LV}{k:AV->AH->Prop}(hf:Ad f=false)(h:Fi H S f args k):∃v H',ny P (oV S) H none (.qB f args)=some ⟨.gy v,none,H'⟩∧k v H':=by obtain⟨v,H',h1,h2⟩:=acI h;exact⟨v,H',by simp only[ny,La,oV,hf,cond_false,h1],h2⟩
theorem N4{st:LoopState}{pe:Option Code}{fn nt l d p:Nat}{tmps:Tr AV}{assign body:Code}{a:AV}{fr:cZ}(h:yU (.gG st pe fn tmps nt [p] assign body d) l [a]=some fr):
 fr=⟨fn,tmps.iY p a,nt,[.f_ assign,.xQ,.f_ body],[],.fO,none,some l⟩∧p+1<=nt:=by
 simp only[yU,bR,cI]at h;obtain⟨_,h⟩:=di h;simp only[List.zip_cons_cons,List.zip_nil_right,ik,List.foldl_nil,Option.bind_some,mT]at h;cases hb:Nat.ble (p+1) nt with
 |false=>simp[hb]at h
 |true=>simp only[hb,cond_true]at h;cases h;exact⟨rfl,Nat.le_of_ble_eq_true hb⟩
theorem ame{l:Nat}{args:LV}{k:AV->AH->Prop}(h:UK H S l args k):∃v H',ny P (oV S) H none (.uW l args)=some ⟨.gy v,none,H'⟩∧k v H':=by
 unfold UK at h;split at h
 ·rename_i st pe fn tmps nt params assign body d a ho;split at h
  ·rename_i p;split at h
   ·rename_i fr gZ;obtain⟨v,H',h1,h2⟩:=acI h;have hg:fr.py.cb p=some a∧fr.px=some l:=by obtain⟨rfl,_⟩:=N4 gZ;exact⟨by simp[Tr.lB],rfl⟩
    refine⟨v,H',?_,h2⟩;simp only[ny,ho,gZ,Option.bind_some,oV,Lx,hg.2,hg.1,h1,dite_true]
   ·cases h
  ·cases h
 ·cases h
theorem acK{o:Option fU}{k:AV->AH->Prop}(h:MG H S o k):∃aU v H',o=some aU∧ny P (oV S) H none aU=some ⟨.gy v,none,H'⟩∧k v H':=by
 unfold MG at h;split at h
 ·rename_i f args;cases hf:Ad f with
  |true=>rw[hf]at h;cases h
  |false=>rw[hf]at h;obtain⟨v,H',h1,h2⟩:=acJ (P:=P) hf h;exact⟨_,v,H',rfl,h1,h2⟩
 ·obtain⟨v,H',h1,h2⟩:=ame (P:=P) h;exact⟨_,v,H',rfl,h1,h2⟩
 ·cases h
theorem amg{op:Op}{k:AV->AH->Prop}(h:hv P ρ H S op k):∃v H',Dv P S ρ H op v H'∧k v H':=by
 unfold hv at h;split at h
 ·exact amf h
 ·obtain⟨v,H',h1,h2⟩:=acL h;exact⟨v,H',.val h1,h2⟩
 ·obtain⟨v,H',h1,h2⟩:=acL h;exact⟨v,H',.val h1,h2⟩
 ·obtain⟨v,H',h1,h2⟩:=amd h;exact⟨v,H',.val h1,h2⟩
 ·obtain⟨v,H',h1,h2⟩:=amc h;exact⟨v,H',.val h1,h2⟩
 ·rename_i c;unfold acH at h;obtain⟨callee,args,ts⟩:=c;cases callee with
  |value f=>obtain⟨aU,v,H',h1,h2,h3⟩:=acK (P:=P) h;exact⟨v,H',⟨aU,none,h1,h2⟩,h3⟩
  |invoke r name=>obtain⟨aU,v,H',h1,h2,h3⟩:=acK (P:=P) h;exact⟨v,H',⟨aU,none,h1,h2⟩,h3⟩
  |builtin b=>
   simp only at h;split at h
   ·rename_i l hl;obtain⟨v,H',h1,h2⟩:=ama h;exact⟨v,H',.val (by simp only[oz,LK,hl,h1]),h2⟩
   ·cases h
 ·unfold z8 at h;split at h
  ·rename_i v H' ho;exact⟨v,H',.val ho,h⟩
  ·cases h
 ·unfold z8 at h;split at h
  ·rename_i v H' ho;exact⟨v,H',.val ho,h⟩
  ·cases h
 ·cases h
end
end
noncomputable section
section
variable{P:Program}{S:bC}{ρ:Operand->Option AV}{H:AH}
theorem abY{ops:Array Oper}{o:Oper}{tmps:Tr AV}{wj no:Tr AV->Prop}(h:LC ops o tmps wj no):(kL ops o tmps.cb=some true∧wj tmps)∨(kL ops o tmps.cb=some false∧no tmps):=by
 unfold LC at h;unfold kL;split at h
 ·rename_i hg;rw[hg];exact .inl ⟨rfl,h⟩
 ·rename_i j pw hg;rw[hg];simp only;split at h
  ·cases h
  ·rename_i d hd;rw[hd];simp only;split at h
   ·rename_i b hb;rw[hb];simp only;cases b
    ·have h:=aix h rfl;rw[Tr.Xe hb]at h;cases pw
     ·simp only[cond_false]at h;exact .inl ⟨rfl,h⟩
     ·simp only[cond_true]at h;exact .inr ⟨rfl,h⟩
    ·have h:=aiy h rfl;rw[Tr.Xe hb]at h;cases pw
     ·simp only[cond_false]at h;exact .inr ⟨rfl,h⟩
     ·simp only[cond_true]at h;exact .inl ⟨rfl,h⟩
   ·rename_i hb;rw[hb];exact .inr ⟨rfl,h⟩
   ·cases h
theorem zw{nt:Nat}{tmps:Tr AV}{o:Oper}{v:AV}{k:Tr AV->Prop}(h:Bk nt tmps o v k):∃t,mT nt tmps o.dst v=some t∧k t:=by
 unfold Bk at h;split at h
 ·exact⟨_,by assumption,h⟩
 ·cases h
theorem Wb{op:Op}{k:AV->AH->Prop}(h:IJ P S ρ H op k):
 (n7 op=true∧∃v,gg P ρ H op=some v∧k v H)∨(n7 op=false∧qg op=true∧∃ob g,n8 P ρ op=some (ob,g)∧k (g H.bW) (H.iN ob))∨
   (n7 op=false∧qg op=false∧∃v H',Dv P S ρ H op v H'∧k v H'):=by
 unfold IJ at h;cases h1:n7 op
 ·rw[h1]at h;simp only[cond_false]at h;cases h2:qg op
  ·rw[h2]at h;exact .inr (.inr ⟨rfl,rfl,amg h⟩)
  ·rw[h2]at h;exact .inr (.inl ⟨rfl,rfl,anm h⟩)
 ·rw[h1]at h;exact .inl ⟨rfl,ao3 h⟩
theorem auK(v:AV):I6 v v=true:=by unfold I6;have: @decide (v=v) (Classical.propDecidable _)=true:= @decide_eq_true _ (Classical.propDecidable _) rfl;rw[this];cases mZ v v<;>rfl
theorem Xn{ops:Array Oper}{ms:LN}{base cur:Tr AV}:∀{l:LN} {k:Prop},Jd P ops ms base cur H l k->CQ P ops ms base cur H l=true∧k
 |[],k,h=>⟨rfl,h⟩
 |j::l,k,h=>by
  simp only[Jd]at h;simp only[CQ];split at h
  ·cases h
  ·rename_i o ho;rw[ho];simp only;split at h
   ·cases h
   ·rename_i hw;rw[hw];obtain⟨h1,h2⟩:=Xn h;exact⟨by simp[h1],h2⟩
   ·rename_i hw;rw[hw];simp only;split at h
    ·cases h
    ·rename_i d hd;split at h
     ·cases h
     ·rename_i v hv;obtain⟨hr,h⟩:=h;obtain⟨h1,h2⟩:=Xn h;refine⟨?_,h2⟩;rw[hr,hd];simp only[hv,Option.any_some,auK,h1,Bool.and_self]
theorem ace{op:Op}{v:AV}{H':AH}(h:Dv P S ρ H op v H'):∃aU up,oz P ρ H op=some aU∧ny P (oV S) H none aU=some ⟨.gy v,up,H'⟩∧(∀d,aU≠.xR d)∧(∀v,aU≠.xS v)∧aU≠.xU:=by
 obtain⟨aU,up,h1,h2⟩:=h;refine⟨aU,up,h1,h2,?_,?_,?_⟩
 ·rintro d rfl;cases h2
 ·rintro v rfl;cases h2
 ·rintro rfl;cases h2
theorem Wl{ops:Array Oper}{ms:LN}{base:Tr AV}{nt:Nat}:∀{l done:LN} {tmps:Tr AV} {H:AH} {k:Tr AV->AH->Prop},Cz P S ops ms base nt l done tmps H k->
 ∃t H',sm P (oV S) ops ms base nt l done tmps H=.aw t H'∧k t H'
 |[],done,tmps,H,k,h=>⟨tmps,H,rfl,h⟩
 |i::rest,done,tmps,H,k,h=>by
  simp only[Cz]at h;simp only[sm];split at h
  ·cases h
  ·rename_i o ho;rw[ho];simp only;rcases abY h with⟨hw,h⟩|⟨hw,h⟩
   ·have go:∀{v:AV} {H':AH} {t:Tr AV},pc P (oV S) ops ms base done i nt tmps H o=.go t H'->Cz P S ops ms base nt rest (i::done) t H' k->
     ∃t H',(match pc P (oV S) ops ms base done i nt tmps H o with|.go t H'=>sm P (oV S) ops ms base nt rest (i::done) t H'|.iT c H'=>.iT c H'|.ey w=>.ey w)=.aw t H'∧k t H':=by
     intro v H' t h1 h2;rw[h1];exact Wl h2
    have yw:o9 o.op=(n7 o.op||qg o.op):=rfl;cases hl:o9 o.op
    ·rw[hl]at h;simp only[cond_false]at h;rw[yw,Bool.or_eq_false_iff]at hl;rcases Wb h with⟨h1,_⟩|⟨_,h1,_⟩|⟨h1,h2,v,H',h3,h4⟩
     ·rw[hl.1]at h1;cases h1
     ·rw[hl.2]at h1;cases h1
     ·obtain⟨t,h5,h6⟩:=zw h4;obtain⟨h7,h8⟩:=Xn h6;obtain⟨aU,up,h9,Bu,_⟩:=ace h3;refine go (v:=v) ?_ h8;simp only[pc,hw,cond_true,h1,h2,cond_false,h9,Wk,Bu,NN,h5,h7]
    ·rw[hl]at h;simp only[cond_true]at h;rcases Wb h with⟨h1,v,h2,h3⟩|⟨h1,h2,ob,g,h3,h4⟩|⟨h1,h2,_⟩
     ·obtain⟨t,h5,h6⟩:=zw h3;refine go (v:=v) ?_ h6;simp only[pc,hw,cond_true,h1,h2,IL,rq,h5]
     ·obtain⟨t,h5,h6⟩:=zw h4;refine go (v:=g H.bW) ?_ h6;cases H with
      |mk hh n=>simp only[pc,hw,cond_true,h1,h2,cond_false,h3,Az,rq];have Ta:mT nt tmps o.dst (g n)=some t:=h5;rw[Ta]
     ·rw[yw,h1,h2]at hl;cases hl
   ·obtain⟨t,h5,h6⟩:=zw h;simp only[pc,hw,cond_false,rq,h5];exact Wl h6
end
def j7(ds:List iZ)(rd:Option Nat)(fn nt:Nat)(tmps:Tr AV)(todo:List cg):cZ:=⟨fn,tmps,nt,todo,ds,.fO,none,rd⟩
abbrev pf:Nat->Nat->Tr AV->List cg->cZ:=j7 [] none
def wM(m0:Nat):List iZ->Prop
 |[]=>True
 |.nP d::l=>d<m0∧wM m0 l
 |_=>False
def NU(m0:Nat):Option Nat->Prop
 |none=>True
 |some l=>l<m0
theorem DU(m0:Nat):wM m0 []:=trivial
theorem ao0(m0:Nat):NU m0 none:=trivial
theorem J9{φ ψ:bu}{m0:Nat}(h:∀id,id<m0->ψ id=φ id):∀{ds:List iZ} {l:List Deferred},wM m0 ds->nw φ ds l->nw ψ ds l
 |[],_,_,hd=>hd
 |.nP d::ds,_,hl,hd=>by obtain⟨x,l',rfl,h1,h2⟩:=hd;refine⟨x,l',rfl,?_,J9 h hl.2 h2⟩;obtain⟨e,h3,h4⟩:=h1;exact⟨e,(h d hl.1).trans h3,h4⟩
 |.xP .. ::ds,_,hl,_=>hl.elim
theorem ahv{φ ψ:bu}{m0:Nat}(h:∀id,id<m0->ψ id=φ id):∀{rd r:Option Nat},NU m0 rd->RR φ rd r->RR ψ rd r
 |none,_,_,hr=>hr
 |some l,_,hl,hr=>by obtain⟨e,h1,h2⟩:=hr;exact⟨e,(h l hl).trans h1,h2⟩
section
variable{P:Program}{S:bC}
def Qj(rd:Option Nat)(P:Program)(m0:Nat)(bs:ez)(φ:bu)(w:World)(cJ:Frame)(cs:List Frame)(r:gh):Prop:=
 ∃bf w',WR bf bs r.H w'∧(∀id,id<m0->bf id=φ id)∧dm bs w w'∧wy P bf w w' cJ cs r none rd
abbrev Y0:=Qj none
def dN(P:Program)(m0:Nat)(fr:cZ)(H:AH)(Q:gh->Prop):Prop:=
 ∃r,Q r∧∀(φ:bu) (w:World) (bs:ez) (cJ:Frame) (cs:List Frame),m0<=H.bW->WR φ bs H w->gQ bs w->tM φ fr cJ->Qj fr.px P m0 bs φ w cJ cs r
theorem da.low{m:Nat}{φ ψ:bu}{H H':AH}(h:da m φ H ψ H'){id:Nat}(hi:id<m):ψ id=φ id:=by
 cases hp:φ id with
 |none=>exact(h.2.2 id hi hp).1
 |some e=>exact h.1 id e hp
theorem wy.after{φ:bu}{w w1 w':World}{cJ Bh:Frame}{cs:List Frame}{r:gh}{rd:Option Nat}(hs:Steps P (lone cJ cs w) (lone Bh cs w1))(eD:Bh.fn=cJ.fn)(h:wy P φ w1 w' Bh cs r none rd):wy P φ w w' cJ cs r none rd:=by
 cases rd with
 |none=>obtain⟨c,e,g1,g2,g3,g4⟩:=h;exact⟨c,e,g1,hs.trans g2,g3,g4.trans eD⟩
 |some l=>
  intro c cs' hc;have:=h c cs' hc;obtain⟨e,up,H⟩:=r;cases e with
  |gy v=>obtain⟨v',g1,g2⟩:=this;exact⟨v',g1,hs.trans g2⟩
  |iT ch=>obtain⟨v',g1,g2⟩:=this;exact⟨v',g1,hs.trans g2⟩
theorem dN.kr{m0:Nat}{fr fr':cZ}{H H':AH}{Q:gh->Prop}(dQ:P.follows .mixedOrders=true){call:iO}(hc:oQ P call)(hu:fr.up=none)(h:mn P call fr H=.go fr' H')(ht:dN P m0 fr' H' Q):dN P m0 fr H Q:=by obtain⟨r,hq,hr⟩:=ht;refine⟨r,hq,fun φ w bs cJ cs hm hw hb hf=>?_⟩;have hs:=Xp dQ hc fr H φ w m0 bs cJ cs hw hb hm hf (by rw[hu];trivial);rw[h]at hs;obtain⟨bf,w',jj,oZ,g1,g2,g3,g4,g5,g6,g7,g8,g9,SS⟩:=hs;rw[hu]at g4;have iu:oZ=cs:=g4;subst iu;obtain⟨mW,w1,k1,k2,k3,k4⟩:=hr bf w' bs jj oZ (Nat.le_trans hm g8.2.1) g7 (hb.Dl g9.1) g2;rw[g5]at k4;exact⟨mW,w1,k1,fun id hi=>(k2 id hi).trans (g8.low hi),g9.uV k3,wy.after g1 SS k4⟩
theorem dN.done{m0:Nat}{fr:cZ}{H:AH}{r:gh}{Q:gh->Prop}(dQ:P.follows .mixedOrders=true){call:iO}(hc:oQ P call)(hu:fr.up=none)(h:mn P call fr H=.xV r)(hq:Q r):dN P m0 fr H Q:=by refine⟨r,hq,fun φ w bs cJ cs hm hw hb hf=>?_⟩;have hs:=Xp dQ hc fr H φ w m0 bs cJ cs hw hb hm hf (by rw[hu];trivial);rw[h]at hs;obtain⟨bf,w',g1,g2,g3,g4⟩:=hs;rw[hu]at g4;exact⟨bf,w',g1,fun id hi=>g2.low hi,g3,g4⟩
theorem dN.WW{m0:Nat}{fr:cZ}{H:AH}{Q Q':gh->Prop}(h:dN P m0 fr H Q)
 (hw:∀r,Q r->∃r',Q' r'∧∀(φ bf:bu) (w w':World) (bs:ez) (cJ:Frame) (cs:List Frame),WR bf bs r.H w'->wy P bf w w' cJ cs r none fr.px->∃ψ,WR ψ bs r'.H w'∧(∀id,id<m0->ψ id=bf id)∧wy P ψ w w' cJ cs r' none fr.px):dN P m0 fr H Q':=by
 obtain⟨r,hq,hr⟩:=h;obtain⟨r',Ih,h2⟩:=hw r hq;refine⟨r',Ih,fun φ w bs cJ cs hm sb hb hf=>?_⟩;obtain⟨bf,w',g1,g2,g3,g4⟩:=hr φ w bs cJ cs hm sb hb hf;obtain⟨ψ,k1,k2,k3⟩:=h2 φ bf w w' bs cJ cs g1 g4;exact⟨ψ,w',k1,fun id hi=>(k2 id hi).trans (g2 id hi),g3,k3⟩
theorem Ws{φ ψ:bu}:∀{l:List cg} {xs:List Item},nH l=true->jY φ l xs->jY ψ l xs
 |[],_,_,h=>h
 |x::l,xs,hp,h=>by
  simp only[nH,cy]at hp;obtain⟨y,ys,rfl,h1,h2⟩:=h;refine⟨y,ys,rfl,?_,Ws hp.2 h2⟩;cases x<;>first
   |exact h1
   |(simp[IT]at hp)
theorem dN.XN{ds:List iZ}{rd:Option Nat}{m0 fn nt:Nat}{tmps t:Tr AV}{todo:List cg}{H H2:AH}{Q:gh->Prop}{xD l:LN}{ps:List (Nat×Nat)}(hp:nH todo=true)(hv:om m0 xD H=some ⟨ps,H2⟩)(ht:tE (jS ps) tmps l=some t)
 (h:dN P m0 (j7 ds rd fn nt t todo) H2 Q) (nf:wM m0 ds) (vM:NU m0 rd):dN P m0 (j7 ds rd fn nt tmps todo) H Q:=by
 obtain⟨r,hq,hr⟩:=h;obtain⟨tt,n,rfl,bq,lH,kj⟩:=JF hv;refine⟨r,hq,fun φ w bs cJ cs hm hw hb hf=>?_⟩;have Fe:∀id,id<m0->nr ps φ id=φ id:=by intro id hi;simp[nr,kj id hi]
 have hn:m0<=n:=by
  rcases Nat.eq_zero_or_pos m0 with h0|h0
  ·omega
  ·have:=bq.lt _ (NG (kj (m0-1) (by omega)));simp only at this;omega
 obtain⟨bf,w',g1,g2,g3,g4⟩:=hr (nr ps φ) w bs cJ cs hn (hw.rE bq lH) hb (by
  obtain⟨b,a,Fm,rfl,gZ,hi⟩:=hf;refine⟨b,a,Fm,rfl,⟨gZ.fn,⟨gZ.tr.1,?_⟩,J9 Fe nf gZ.dr,ahv Fe vM gZ.j_,gZ.lV,fun h=>by cases h⟩,Ws hp hi⟩
  ·intro s a' ha';obtain⟨a0,h1,h2⟩:=XO ht ha';obtain⟨v,h3,h4⟩:=gZ.tr.2 s a0 h1;exact⟨v,h3,su (CA bq φ) h2 h4⟩)
 exact⟨bf,w',g1,fun id hi=>(g2 id hi).trans (Fe id hi),g3,g4⟩
theorem dN.rE{m0 fn nt:Nat}{tmps t:Tr AV}{todo:List cg}{H H2:AH}{Q:gh->Prop}{xD l:LN}{ps:List (Nat×Nat)}(hp:nH todo=true)(hv:om m0 xD H=some ⟨ps,H2⟩)(ht:tE (jS ps) tmps l=some t)
 (h:dN P m0 (pf fn nt t todo) H2 Q):dN P m0 (pf fn nt tmps todo) H Q:=
 dN.XN hp hv ht h (DU _) (ao0 _)
def CH(Q:AV->AH->Prop)(r:gh):Prop:=∃v,r.e=.gy v∧r.up=none∧Q v r.H
def Kf(P:Program)(S:bC)(ds:List iZ)(rd:Option Nat)(fn nt m0:Nat)(Q:gh->Prop)(ret:Bool->Tr AV->AH->Prop):Prop:=
 ∀(b:Bool) (tmps:Tr AV) (todo:List cg) (H:AH),ret b tmps H->mn P (oV S) (j7 ds rd fn nt tmps todo) H=ri (j7 ds rd fn nt tmps todo) H (bif b then some .ret else none)->dN P m0 (j7 ds rd fn nt tmps todo) H Q
theorem adg{ds:List iZ}{fn nt:Nat}{tmps:Tr AV}{todo:List cg}{H:AH}(b:Bool):ri (j7 ds none fn nt tmps todo) H (bif b then some .ret else none)=.go ⟨fn,tmps,nt,todo,ds,.pA,none,none⟩ H:=by cases b<;>rfl
theorem afr{fn nt m0:Nat}{Q:AV->AH->Prop}{H:AH}{fr:cZ}{l:LV}(vM:fr.px=none)(h:match om m0 (xn (y' l)) H with
 |some ⟨ps,H2⟩=>match eK (jS ps) (y' l)with
  |some v=>Q v H2
  |none=>False
 |none=>False) {H0:AH} (ht:dN P m0 fr H0 (fun r=>r=⟨.gy (y' l),none,H⟩)):dN P m0 fr H0 (CH Q):=by
 split at h
 ·rename_i ps H2 hv;split at h
  ·rename_i v hr;refine dN.WW ht ?_;rintro r rfl;refine⟨⟨.gy v,none,H2⟩,⟨v,rfl,rfl,h⟩,?_⟩;intro φ bf w w' bs cJ cs hw he;obtain⟨tt,n,rfl,bq,lH,kj⟩:=JF hv;refine⟨nr ps bf,hw.rE bq lH,fun id hi=>by simp[nr,kj id hi],?_⟩;rw[vM]at he⊢;obtain⟨jj,e',⟨v',rfl,g1⟩,g2⟩:=he;exact⟨jj,_,⟨v',rfl,su (CA bq bf) hr g1⟩,g2⟩
  ·cases h
 ·cases h
theorem ZZ(dQ:P.follows .mixedOrders=true)(hc:oQ P (oV S)){fn nt m0:Nat}{Q:AV->AH->Prop}:Kf P S [] none fn nt m0 (CH Q) (fun _=>DG P fn m0 Q):=by
 intro b tmps todo H h hs;rw[adg]at hs;unfold DG at h;split at h
 ·rename_i f hf;split at h
  ·rename_i l hl;refine afr (fn:=fn) (nt:=nt) rfl h ?_;refine dN.kr dQ hc rfl hs (dN.done dQ hc rfl ?_ rfl);simp only[mn,AL,NL,hf,hl]
  ·cases h
 ·cases h
theorem am6{t:TypeId}{id off d:Nat}{H:AH}{x:bc}(hd:id≠d):se P (H.dS d x) t id off=se P H t id off:=by
 have:(H.dS d x).bD id=H.bD id:=by show(H.h.iY d x).cb id=H.h.cb id;rw[Tr.lB,az hd]
 have:(H.dS d x).oo id=H.oo id:=by unfold AH.oo;rw[this]
 unfold se;rw[this]
theorem am5{t:TypeId}{off d:Nat}{H:AH}:se P (H.dS d (.bJ [])) t d off=none:=by
 have:(H.dS d (.bJ [])).bD d=some (.bJ []):=by show(H.h.iY d _).cb d=_;rw[Tr.lB,aN rfl]
 have:(H.dS d (.bJ [])).oo d=none:=by unfold AH.oo;rw[this]
 unfold se;rw[this]
theorem WX{d:Nat}{H:AH}{tmps:Tr AV}{x:bc}:∀{rs:List ResultVar} {l:LV},rz P (H.dS d (.bJ [])) tmps rs=some l->rz P (H.dS d x) tmps rs=some l
 |[],l,h=>h
 |.tmp t::rs,l,h=>by
  simp only[rz]at h⊢;cases ht:tmps.cb t with
  |none=>rw[ht]at h;cases h
  |some v=>rw[ht]at h;simp only at h⊢;obtain⟨l',h1,rfl⟩:=Option.map_eq_some_iff.1 h;rw[WX h1];rfl
 |.cell a t::rs,l,h=>by
  simp only[rz]at h⊢;cases ht:tmps.cb a with
  |none=>rw[ht]at h;cases h
  |some v=>
   rw[ht]at h;cases v<;>simp only at h⊢<;>try (cases h;done)
   rename_i id off;by_cases hd:id=d
   ·subst hd;rw[am5]at h;cases h
   ·rw[am6 hd]at h⊢;cases hv:se P H t id off with
    |none=>rw[hv]at h;cases h
    |some v=>rw[hv]at h;simp only at h⊢;obtain⟨l',h1,rfl⟩:=Option.map_eq_some_iff.1 h;rw[WX h1];rfl
theorem WR.Ln{φ:bu}{bs:ez}{H:AH}{w:World}{d:Nat}{x:bc}(hd:d<H.bW)(hw:WR φ bs (H.dS d x) w):WR φ bs (H.dS d (.bJ [])) w:=by
 have hg:∀{y:bc} {id:Nat},(H.dS d y).bD id=if id=d then some y else H.bD id:=fun{y id}=>Tr.lB H.h d id y
 refine⟨?_,?_,hw.lt,?_,hw.ro⟩
 ·intro id ob e h1 h2;rw[hg]at h1;by_cases hi:id=d
  ·rw[aN hi]at h1;cases h1;have:=(hw.lt id e h2).1;exact⟨w.heap[e.b],Array.getElem?_eq_getElem _,trivial⟩
  ·rw[az hi]at h1;exact hw.fP id ob e (by rw[hg,az hi];exact h1) h2
 ·intro id jH ob cp e e' h1 l1 h2 h3 l2 h4 hb;rw[hg]at h1 h3;by_cases hi:id=d
  ·rw[aN hi]at h1;cases h1;cases l1
  ·by_cases hj:jH=d
   ·rw[aN hj]at h3;cases h3;cases l2
   ·rw[az hi]at h1;rw[az hj]at h3;exact hw.lW id jH ob cp e e' (by rw[hg,az hi];exact h1) l1 h2 (by rw[hg,az hj];exact h3) l2 h4 hb
 ·intro id ob h1;by_cases hi:id=d
  ·rw[hi];exact hd
  ·rw[hg,az hi]at h1;exact hw.nx id ob (by rw[hg,az hi];exact h1)
theorem ZY(dQ:P.follows .mixedOrders=true)(hc:oQ P (oV S)){fn nt m0 d:Nat}{Q:AV->AH->Prop}(hd:d<m0):Kf P S [.nP d] none fn nt m0 (CH Q) (fun _=>KH P fn m0 Q d):=by
 intro b tmps todo H h hs;rw[adg]at hs;simp only[KH]at h;split at h
 ·rename_i ho;unfold DG at h;split at h
  ·rename_i f hf;split at h
   ·rename_i l hl;refine afr (fn:=fn) (nt:=nt) rfl h ?_;refine dN.kr dQ hc rfl hs ?_;refine dN.kr (fr':=⟨fn,tmps,nt,todo,[],.pA,none,none⟩) (H':=H.dS d (.oP none)) dQ hc rfl ?_ ?_
    ·simp only[mn,AL,ho]
    ·refine dN.WW (dN.done (Q:=fun r=>r=⟨.gy (y' l),none,H.dS d (.oP none)⟩) dQ hc rfl ?_ rfl) ?_
     ·simp only[mn,AL,NL,hf,WX hl]
     ·rintro r rfl;refine⟨_,rfl,fun φ bf w w' bs cJ cs hw he=>⟨bf,?_,fun _ _=>rfl,he⟩⟩;refine WR.Ln ?_ hw;by_cases hn:d<H.bW
      ·exact hn
      ·exact absurd (hw.nx d (.oP none) (by show(H.h.iY d _).cb d=_;rw[Tr.lB,aN rfl])) hn
   ·cases h
  ·cases h
 ·cases h
theorem aik(dQ:P.follows .mixedOrders=true)(hc:oQ P (oV S)){fn nt m0 l:Nat}{Q:AV->AH->Prop}:Kf P S [] (some l) fn nt m0 (CH Q) (Rh m0 Q l):=by
 intro b tmps todo H h hs;cases b with
 |true=>cases h
 |false=>
  simp only[Rh,cond_false]at h;split at h
  ·rename_i st p lf tm ln ps a bd d ho;split at h
   ·rename_i ry H2 hv;have yF:mn P (oV S) (j7 [] (some l) fn nt tmps todo) H=.xV ⟨.gy (.aA true),none,H.dS l (.gG .ready none lf tm ln ps a bd d)⟩:=by rw[hs];simp only[j7,ri,Vt,cond_false,ho,Option.isNone_none,cond_true]
    refine dN.WW (dN.done (Q:=fun r=>r=⟨.gy (.aA true),none,H.dS l (.gG .ready none lf tm ln ps a bd d)⟩) dQ hc rfl yF rfl) ?_;rintro r rfl;refine⟨⟨.gy (.aA true),none,H2⟩,⟨_,rfl,rfl,h⟩,?_⟩;intro φ bf w w' bs cJ cs hw he;obtain⟨tt,n,rfl,bq,lH,kj⟩:=JF hv;refine⟨nr ry bf,hw.rE bq lH,fun id hi=>by simp[nr,kj id hi],?_⟩;intro c cs' lF;obtain⟨v',g1,g2⟩:=he c cs' lF;exact⟨v',g1,g2⟩
   ·cases h
  ·cases h
theorem FW(dQ:P.follows .mixedOrders=true)(hc:oQ P (oV S)){ds:List iZ}{rd:Option Nat}{fn nt m0:Nat}{aE:Nat->LN}{L:Tr AV->AH->List cg->Prop}{ret:Bool->Tr AV->AH->Prop}{Q:gh->Prop}(nf:wM m0 ds)(vM:NU m0 rd)
 (Us:Kf P S ds rd fn nt m0 Q ret)
 (hL:∀t H todo,L t H todo->dN P m0 (j7 ds rd fn nt t todo) H Q):∀(n:Nat) {tmps:Tr AV} {todo:List cg} {H:AH},lO P S nt m0 aE L ret rd n tmps todo H->dN P m0 (j7 ds rd fn nt tmps todo) H Q
 |0,_,_,_,h=>by cases h
 |n+1,tmps,todo,H,h=>by
  have ih:=fun{tmps:Tr AV} {todo:List cg} {H:AH}=>FW dQ hc (aE:=aE) nf vM Us hL n (tmps:=tmps) (todo:=todo) (H:=H)
  have loop:∀{body:Code} {k:List cg},KF m0 aE L body k tmps H->dN P m0 (j7 ds rd fn nt tmps (.f_ body::.pz body::k)) H Q:=by
   intro body k h;unfold KF at h;split at h
   ·cases h
   ·split at h
    ·rename_i i _ ps H2 hv;split at h
     ·rename_i t ht;obtain⟨hp,h⟩:=ke h;exact dN.XN (by simp[nH,IT,hp]) hv ht (hL _ _ _ h) nf vM
     ·cases h
    ·cases h
  simp only[lO]at h;split at h
  ·exact Us false tmps [] H h rfl
  ·exact dN.kr dQ hc rfl rfl (ih h)
  ·exact dN.kr dQ hc rfl rfl (ih h)
  ·rename_i k;split at h
   ·rename_i l;split at h
    ·rename_i p lf lt ln ps a b d ho;refine dN.kr dQ hc rfl ?_ (ih h);simp only[j7,mn,sx,tA,Je,ho]
    ·cases h
   ·cases h
  ·rename_i body k;cases hb:OW aE body
   ·rw[hb]at h;exact dN.kr dQ hc rfl rfl (loop h)
   ·rw[hb]at h;exact dN.kr dQ hc rfl rfl (ih h)
  ·rename_i ops i l k;split at h
   ·exact dN.kr dQ hc rfl rfl (ih h)
   ·rename_i o rest;rcases abY h with⟨hw,h⟩|⟨hw,h⟩
    ·rcases Wb h with⟨h1,v,h2,h3⟩|⟨h1,h2,ob,g,h3,h4⟩|⟨h1,h2,v,H',h3,h4⟩
     ·obtain⟨t,h5,h6⟩:=zw h3;refine dN.kr dQ hc rfl ?_ (ih h6);simp only[j7,mn,sx,tA,y7,hw,cond_true,h1,h2,FU,rp,h5]
     ·obtain⟨t,h5,h6⟩:=zw h4;refine dN.kr dQ hc rfl ?_ (ih h6);cases H with
      |mk hh nn=>have Ta:mT nt tmps o.dst (g nn)=some t:=h5;simp only[j7,mn,sx,tA,y7,hw,cond_true,h1,h2,cond_false,h3,CL,rp,Ta]
     ·obtain⟨t,h5,h6⟩:=zw h4;obtain⟨aU,up,h7,h8,n1,n2,n3⟩:=ace h3;refine dN.kr dQ hc rfl ?_ (ih h6);simp only[j7,mn,sx,tA,y7,hw,cond_true,h1,h2,cond_false,h7];cases aU with
      |xR d=>exact absurd rfl (n1 d)
      |xS v=>exact absurd rfl (n2 v)
      |xU=>exact absurd rfl n3
      |iC v0 H0=>simp only[xE,h8,FV,rp,h5]
      |qB f as=>simp only[xE,h8,FV,rp,h5]
      |uW f as=>simp only[xE,h8,FV,rp,h5]
    ·obtain⟨t,h5,h6⟩:=zw h;refine dN.kr dQ hc rfl ?_ (ih h6);simp only[j7,mn,sx,tA,y7,hw,cond_false,rp,h5]
  ·rename_i c k;split at h
   ·exact Us true tmps _ H h rfl
   ·exact dN.kr dQ hc rfl rfl (ih h)
   ·exact dN.kr dQ hc rfl rfl (ih h)
   ·exact dN.kr dQ hc rfl rfl (ih h)
   ·rename_i c a b;split at h
    ·rename_i t ht;cases t
     ·refine dN.kr dQ hc rfl ?_ (ih h);simp only[j7,mn,sx,tA,wc,Jf,ht,to,cond_false]
     ·refine dN.kr dQ hc rfl ?_ (ih h);simp only[j7,mn,sx,tA,wc,Jf,ht,to,cond_true]
    ·cases h
   ·exact dN.kr dQ hc rfl rfl (ih h)
   ·exact dN.kr dQ hc rfl rfl (ih h)
   ·rename_i body;cases hb:OW aE body
    ·rw[hb]at h;exact dN.kr dQ hc rfl rfl (loop h)
    ·rw[hb]at h;exact dN.kr dQ hc rfl rfl (ih h)
   ·split at h
    ·rename_i k' hk;refine dN.kr dQ hc rfl ?_ (ih h);simp only[j7,mn,sx,tA,wc,hk,Jh,to]
    ·cases h
   ·rename_i id ops pZ;cases pZ
    ·exact dN.kr dQ hc rfl rfl (ih h)
    ·simp only[cond_true]at h;split at h
     ·rename_i pl jG;obtain⟨t,H',h1,h2⟩:=Wl h;refine dN.kr dQ hc rfl ?_ (ih h2);simp only[j7,mn,sx,tA,wc,FY,cond_true,jG,h1,NM]
     ·cases h
   ·rename_i f ps a b;unfold ZX at h;split at h
    ·rename_i ry H2 hv;split at h
     ·rename_i t ht;obtain⟨hp,h⟩:=ke h;exact dN.XN (by simp[nH,IT,hp]) hv ht (hL _ _ _ h) nf vM
     ·cases h
    ·cases h
   ·cases h
  ·cases h
end
end
noncomputable section
section
variable{φ:bu}
mutual
theorem LS:∀{a:AV} {v:Value},VR φ a v->∀id∈j6 a,∃e,φ id=some e
 |.aA _,_,_,_,h=>by simp[j6]at h
 |.cM _ _,_,_,_,h=>by simp[j6]at h
 |.aa _,_,_,_,h=>by simp[j6]at h
 |.ad i _,_,hv,id,h=>by simp[j6]at h;subst h;obtain⟨e,h1,_⟩:=hv;exact⟨e,h1⟩
 |.pd,_,_,_,h=>by simp[j6]at h
 |.bB i _ _ _ _ _,_,hv,id,h=>by simp[j6]at h;subst h;obtain⟨e,x,c,h1,_⟩:=hv;exact⟨e,h1⟩
 |.bg,_,_,_,h=>by simp[j6]at h
 |.aS i,_,hv,id,h=>by simp[j6]at h;subst h;obtain⟨e,h1,_⟩:=hv;exact⟨e,h1⟩
 |.nF,_,_,_,h=>by simp[j6]at h
 |.b9 _ f c,_,hv,id,h=>by
  simp only[j6,List.mem_append]at h;obtain⟨f',c',_,_,h1,h2⟩:=hv;rcases h with h|h
  ·exact BM h1 id h
  ·exact BM h2 id h
 |.gJ i,_,hv,id,h=>by simp[j6]at h;subst h;obtain⟨e,h1,_⟩:=hv;exact⟨e,h1⟩
 |.qA,_,_,_,h=>by simp[j6]at h
 |.e_ _ a,_,hv,id,h=>by simp only[j6]at h;obtain⟨v',_,h1⟩:=hv;exact LS h1 id h
 |.my,_,_,_,h=>by simp[j6]at h
 |.aj cs,_,hv,id,h=>by simp only[j6]at h;obtain⟨v',_,h1⟩:=hv;exact BM h1 id h
 |.aO cs,_,hv,id,h=>by simp only[j6]at h;obtain⟨v',_,h1⟩:=hv;exact BM h1 id h
 |.vo _,_,_,_,h=>by simp[j6]at h
 |.Cx _,_,_,_,h=>by simp[j6]at h
 |.vZ ..,_,_,_,h=>by simp[j6]at h
 |.uD ..,_,_,_,h=>by simp[j6]at h
 |.aB ..,_,_,_,h=>by simp[j6]at h
 |.qw _,_,_,_,h=>by simp[j6]at h
 |.ae ..,_,_,_,h=>by simp[j6]at h
theorem BM:∀{as:LV} {vs:List Value},bm φ as vs->∀id∈rY as,∃e,φ id=some e
 |[],_,_,_,h=>by simp[rY]at h
 |a::as,_,hv,id,h=>by
  simp only[rY,List.mem_append]at h;obtain⟨v,eT,rfl,h1,h2⟩:=hv;rcases h with h|h
  ·exact LS h1 id h
  ·exact BM h2 id h
end
theorem Tv:∀{t:Tr AV} {x:Nat},x∈HR t->∃i a,t.cb i=some a∧x∈j6 a
 |.gB,x,h=>by cases h
 |.gm v l r,x,h=>by
  simp only[HR,List.mem_append]at h;rcases h with(h|h)|h
  ·cases v with
   |none=>cases h
   |some a=>exact⟨0,a,by rw[Tr.o4,aN rfl],h⟩
  ·obtain⟨i,a,h1,h2⟩:=Tv h;refine⟨2*i+1,a,?_,h2⟩;rw[Tr.o4,az (by omega),aN (by omega)];have:(2*i+1)/ 2=i:=by omega
   rw[this];exact h1
  ·obtain⟨i,a,h1,h2⟩:=Tv h;refine⟨2*i+2,a,?_,h2⟩;rw[Tr.o4,az (by omega),az (by omega)];have:(2*i+2)/ 2-1=i:=by omega
   rw[this];exact h1
theorem V3{bs:ez}{H:AH}{w:World}(hw:WR φ bs H w):∀{ps:List (Nat×Nat)} {hd:LN},FF H hd ps=true->(∀id∈hd,∃e,φ id=some e)->
 ∀p∈ps,∃ob,H.bD p.1=some ob∧ob.aE=true∧((∃e,φ p.1=some e)∨∃vs el,ob=.aL vs el)
 |[],_,_,_,p,hp=>by cases hp
 |(o,n)::l,hd,h,hh,p,hp=>by
  simp only[FF]at h;split at h
  ·rename_i vs el ho;rcases List.mem_cons.1 hp with rfl|hp
   ·exact⟨_,ho,rfl,.inr ⟨vs,el,rfl⟩⟩
   ·exact V3 hw h hh p hp
  ·cases h
  ·cases h
  ·rename_i n1 n2 n3;cases gE:H.bD o with
   |none=>exact absurd gE n3
   |some ob=>
    have hl:ob.aE=true:=by cases ob<;>first|rfl|exact absurd gE (n2 _)
    cases zM:hd.any (Nat.beq o)
    ·rw[zM]at h;cases h
    ·rw[zM]at h;simp only[cond_true]at h;obtain⟨x,hx,EK⟩:=List.any_eq_true.1 zM;have:=eI EK;subst this;obtain⟨e,he⟩:=hh _ hx;rcases List.mem_cons.1 hp with rfl|hp
     ·exact⟨ob,gE,hl,.inl ⟨e,he⟩⟩
     ·refine V3 hw h ?_ p hp;intro id dn;rcases List.mem_append.1 dn with dn|dn
      ·exact hh id dn
      ·rw[gE]at dn;obtain⟨o',_,r9⟩:=hw.fP _ _ e gE he;cases ob<;>simp only[ab2]at dn<;>try (simp at dn;done)
       ·obtain⟨cs,el,rfl,_,_,hv,_⟩:=r9;exact BM hv id dn
       ·obtain⟨nL,ed,rfl,hd,xi⟩:=r9;rcases List.mem_cons.1 dn with rfl|dn
        ·exact⟨ed,hd⟩
        ·obtain⟨i,a,h1,h2⟩:=Tv dn;obtain⟨v,_,h4⟩:=xi.2 i a h1;exact LS h4 id h2
end
theorem Rl{r:Nat->Option Nat}{Hs:AH}:∀{ps:List (Nat×Nat)} {t t':Tr bc} {id:Nat} {cp:bc},(ps.map (·.1)).Nodup->yb r Hs ps t=some t'->t'.cb id=some cp->
 (∃n,(id,n)∈ps∧((∃ob,Hs.bD n=some ob∧lM r ob=some cp)∨cp=.bJ []))∨((∀n,(id,n)∉ps)∧t.cb id=some cp)
 |[],t,t',id,cp,_,h,hg=>by cases h;exact .inr ⟨(fun _ h=>by cases h),hg⟩
 |(o,n)::l,t,t',id,cp,hn,h,hg=>by
  simp only[List.map_cons,List.nodup_cons]at hn;have aw:∀x,yb r Hs l (t.iY o x)=some t'->((∃ob,Hs.bD n=some ob∧lM r ob=some x)∨x=.bJ [])->
   (∃n',(id,n')∈(o,n)::l∧((∃ob,Hs.bD n'=some ob∧lM r ob=some cp)∨cp=.bJ []))∨((∀n',(id,n')∉(o,n)::l)∧t.cb id=some cp):=by
   intro x hx MB;rcases Rl hn.2 hx hg with⟨n',h1,h2⟩|⟨h1,h2⟩
   ·exact .inl ⟨n',eE _ h1,h2⟩
   ·rw[Tr.lB]at h2;by_cases hi:id=o
    ·subst hi;rw[aN rfl]at h2;cases h2;exact .inl ⟨n,eP ..,MB⟩
    ·rw[az hi]at h2;refine .inr ⟨fun n' hm=>?_,h2⟩;rcases List.mem_cons.1 hm with hm|hm
     ·cases hm;exact hi rfl
     ·exact h1 n' hm
  simp only[yb]at h;split at h
  ·exact aw _ h (.inr rfl)
  ·rename_i ob ho;split at h
   ·rename_i kF h1;exact aw _ h (.inl ⟨ob,ho,h1⟩)
   ·cases h
theorem Z3{r:Nat->Option Nat}{Hs:AH}:∀{ps:List (Nat×Nat)} {t t':Tr bc} {id:Nat},yb r Hs ps t=some t'->(∀n,(id,n)∉ps)->t'.cb id=t.cb id
 |[],t,t',id,h,_=>by cases h;rfl
 |(o,n)::l,t,t',id,h,hn=>by
  have c6:id≠o:=by rintro rfl;exact hn n (eP ..)
  have aw:∀x,yb r Hs l (t.iY o x)=some t'->t'.cb id=t.cb id:=by intro x hx;rw[Z3 hx (fun n' hm=>hn n' (eE _ hm)),Tr.lB,az c6]
  simp only[yb]at h;split at h
  ·exact aw _ h
  ·split at h
   ·exact aw _ h
   ·cases h
theorem Rj{r:Nat->Option Nat}{Hs:AH}{k next:Nat}:∀{j:Nat} {t t':Tr bc} {id:Nat} {cp:bc},DI r Hs k next j t=some t'->t'.cb id=some cp->
 (∃i ob,i<j∧id=next+i∧Hs.bD (k+i)=some ob∧lM r ob=some cp)∨t.cb id=some cp
 |0,t,t',id,cp,h,hg=>by cases h;exact .inr hg
 |j+1,t,t',id,cp,h,hg=>by
  simp only[DI]at h;split at h
  ·cases h
  ·rename_i t1 h1;have rest:∀{t2:Tr bc},t2=t1->t2.cb id=some cp->(∃i ob,i<j+1∧id=next+i∧Hs.bD (k+i)=some ob∧lM r ob=some cp)∨t.cb id=some cp:=by
    rintro t2 rfl hg;rcases Rj h1 hg with⟨i,ob,a,b⟩|h2
    ·exact .inl ⟨i,ob,by omega,b⟩
    ·exact .inr h2
   split at h
   ·cases h;exact rest rfl hg
   ·rename_i ob ho;split at h
    ·rename_i kF hr;cases h;rw[Tr.lB]at hg;by_cases hi:id=next+j
     ·rw[aN hi]at hg;cases hg;exact .inl ⟨j,ob,by omega,hi,ho,hr⟩
     ·rw[az hi]at hg;exact rest rfl hg
    ·cases h
theorem Rk{r:Nat->Option Nat}{Hs:AH}{k next:Nat}:∀{j:Nat} {t t':Tr bc} {id:Nat},DI r Hs k next j t=some t'->id<next->t'.cb id=t.cb id
 |0,t,t',id,h,_=>by cases h;rfl
 |j+1,t,t',id,h,hi=>by
  simp only[DI]at h;split at h
  ·cases h
  ·rename_i t1 h1;split at h
   ·cases h;exact Rk h1 hi
   ·split at h
    ·cases h;rw[Tr.lB,az (by omega)];exact Rk h1 hi
    ·cases h
theorem WR.apg{φ:bu}{bs Bf:ez}{H:AH}{w:World}(hw:WR φ bs H w)(h1:∀i e,φ i=some e->¬Bf e.b)(h2:∀b o,Ro.ro b=some o->Bf b):WR φ Bf H w:=
 ⟨hw.fP,hw.lW,fun i e h=>let⟨a,_,c⟩:=hw.lt i e h;⟨a,h1 i e h,c⟩,hw.nx,fun b o h=>⟨h2 b o h,(hw.ro b o h).2⟩⟩
def YM(P:Program)(S:wx):Prop:=
 ∀(f:FuncId) (args:LV) (H:AH) (p:Prop) (v:AV) (H':AH),f≠999999->S f args H=some (p,v,H')->p->
  ∀(φ:bu) (w:World) (bs:ez) (args':Array Value) (cs:List Frame),bm φ args args'.toList->WR φ bs H w->gQ bs w->Y0 P H.bW bs φ w (Frame.enter P f args' .normal) cs ⟨.gy v,none,H'⟩
theorem adm{S:wx}{f:FuncId}{args:LV}{H:AH}{v:AV}{H':AH}(hk:Ag S f args H=some (v,H')){φ:bu}{w:World}{m:Nat}{bs:ez}(ald:∀id∈rY args,∃e,φ id=some e)(hw:WR φ bs H w)(hb:gQ bs w)(hm:m<=H.bW)
 {E:bu->World->AV->Prop} (hE:∀(r:Nat->Option Nat) (mW sD:bu) (v v':AV) (w':World),x_ r mW sD->eK r v=some v'->E mW w' v->E sD w' v')
 (hS:∀(ps:List (Nat×Nat)) (t:Tr bc) (n:Nat) (zn:LV) (p:Prop) (vs:AV) (Hs:AH),Gy ps n->AX (jS ps) H ps .gB=some t->iV (jS ps) args=some zn->S f zn ⟨t,n⟩=some (p,vs,Hs)->p->
   ∀rN:ez,WR (nr ps φ) rN ⟨t,n⟩ w->gQ rN w->∃bf w',WR bf rN Hs w'∧(∀id,id<n->bf id=nr ps φ id)∧dm rN w w'∧E bf w' vs):
 ∃bf w',WR bf bs H' w'∧da m φ H bf H'∧dm bs w w'∧E bf w' v:=by
 unfold Ag at hk;split at hk
 ·rename_i p v0 H0 hl;by_cases hp:p
  ·rw[aN hp]at hk;cases hk;unfold Ix at hl;split at hl
   ·cases hl
   ·rename_i ps t n hv;obtain⟨T_,hl⟩:=di hl;split at hl
    ·rename_i zn l6;split at hl
     ·rename_i WV kB;obtain⟨p1,vs,⟨hs,ns⟩⟩:=WV;obtain⟨h,next⟩:=H;simp only[Ah]at hl;obtain⟨de,hl⟩:=di hl;have de:=Nat.le_of_ble_eq_true de;split at hl
      ·rename_i v1 t1 z7 MD;split at hl
       ·rename_i t2 Fg;cases hl;obtain⟨tt,nn,hH,bq,lH,_⟩:=JF hv;cases hH;have Uc:=V3 hw T_ ald;have Ii:=CA bq φ;have Fe:∀{i e},nr ps φ i=some e->∃a,(a,i)∈ps∧φ a=some e:=fun h=>IM h
        have amk:=hw.rE bq lH;let rN:ez:=fun b=>b<w.heap.size∧∀i e,nr ps φ i=some e->b≠e.b
        have LZ:∀b,bs b->rN b:=by intro b kh;refine⟨hb b kh,fun i e hi he=>?_⟩;obtain⟨a,_,h2⟩:=Fe hi;exact(hw.lt a e h2).2.1 (he▸kh)
        have Im:WR (nr ps φ) rN ⟨t,n⟩ w:=amk.apg (fun i e hi kh=>kh.2 i e hi rfl) (fun b o ho=>LZ b (hw.ro b o ho).1);obtain⟨wm,w',g1,g2,g3,g4⟩:=hS ps t n zn p vs ⟨hs,ns⟩ bq lH l6 kB hp rN Im (fun b kh=>kh.1);have g2:∀id,id<n->wm id=nr ps φ id:=g2;let bf:bu:=fun id=>if id<next then φ id else wm (n+(id-next))
        have kj:∀{id},id<next->bf id=φ id:=fun hi=>aN hi
        have qc:∀{o i},(o,i)∈ps->o<next∧i<n∧wm i=φ o:=by intro o i yA;obtain⟨ob,h1,_⟩:=Uc _ yA;refine⟨hw.nx o ob h1,bq.lt _ yA,?_⟩;rw[g2 i (bq.lt _ yA)];exact Ii o i (Ns bq.n1 yA)
        have LX:x_ (wD ps n next) wm bf:=by
         intro i c hc;unfold wD at hc;cases lE:Nat.ble (i+1) n
         ·rw[lE]at hc;simp only[cond_false,nu]at hc;subst hc;have r8:n<=i:=by
           rcases Nat.lt_or_ge i n with h1|h1
           ·rw[hZ (show i+1<=n from h1)]at lE;cases lE
           ·exact h1
          show(if _ then _ else _)=_;rw[az (by omega)];congr 1;omega
         ·rw[lE]at hc;simp only[cond_true]at hc;obtain⟨h1,_,h3⟩:=qc (NG hc);rw[kj h1,h3]
        have MB:∀{id cp},(⟨t2,next+(ns-n)⟩:AH).bD id=some cp->
         (∃j ob,wD ps n next j=some id∧(⟨hs,ns⟩:AH).bD j=some ob∧lM (wD ps n next) ob=some cp)∨(id<next∧cp=.bJ [])∨(id<next∧(∀n,(id,n)∉ps)∧(⟨h,next⟩:AH).bD id=some cp):=by
         intro id cp ho;rcases Rj Fg ho with⟨i,ob,a1,a2,a3,a4⟩|h1
         ·refine .inl ⟨n+i,ob,?_,a3,a4⟩;unfold wD;have:Nat.ble (n+i+1) n=false:=by rw[Bool.eq_false_iff,Ne,Nat.ble_eq];omega
          rw[this,a2];simp
         ·rcases Rl bq.n1 MD h1 with⟨n',a1,⟨ob,a2,a3⟩|a2⟩|⟨a1,a2⟩
          ·refine .inl ⟨n',ob,?_,a2,a3⟩;unfold wD;rw[hZ (show n'+1<=n from bq.lt _ a1)];exact II bq.n2 a1
          ·exact .inr (.inl ⟨(qc a1).1,a2⟩)
          ·exact .inr (.inr ⟨hw.nx id cp a2,a1,a2⟩)
        have ew:∀{id ob e},(∀n,(id,n)∉ps)->(⟨h,next⟩:AH).bD id=some ob->ob.aE=true->φ id=some e->rN e.b:=by intro id ob e h1 h2 h3 h4;refine⟨(hw.lt id e h4).1,fun i e2 hi he=>?_⟩;obtain⟨a,k1,k2⟩:=Fe hi;obtain⟨oJ,k3,k4,_⟩:=Uc _ k1;have:=hw.lW id a ob oJ e e2 h2 h3 h4 k3 k4 k2 he;subst this;exact h1 i k1
        have acB:fq φ bf:=fun id e h1=>by rw[kj (hw.lt id e h1).2.2];exact h1
        have cW:=g3.1;refine⟨bf,w',⟨?_,?_,?_,?_,?_⟩,⟨acB,by show next<=next+(ns-n);omega,?_⟩,⟨cW,fun b kh=>g3.2.1 b (LZ b kh),g3.2.2⟩,?_⟩
        ·intro id cp e h1 h2;rcases MB h1 with⟨j,ob,a1,a2,a3⟩|⟨a1,a2⟩|⟨a1,a2,a3⟩
         ·have h3:wm j=some e:=by rw[←LX j id a1];exact h2
          obtain⟨o,k1,k2⟩:=g1.fP j ob e a2 h3;exact⟨o,k1,WT LX a3 k2⟩
         ·subst a2;rw[kj a1]at h2;have:=(hw.lt id e h2).1;exact⟨w'.heap[e.b]'(by omega),Array.getElem?_eq_getElem _,trivial⟩
         ·rw[kj a1]at h2;by_cases km:cp.aE=true
          ·obtain⟨o,k1,k2⟩:=hw.fP id cp e a3 h2;exact⟨o,(g3.2.1 _ (ew a2 a3 km h2)).trans k1,k2.Gi acB⟩
          ·cases cp<;>simp[bc.aE]at km;have:=(hw.lt id e h2).1;exact⟨w'.heap[e.b]'(by omega),Array.getElem?_eq_getElem _,trivial⟩
        ·intro id jH kF oJ e e' h1 l1 h2 h3 l2 h4 EK;have oA:∀{id cp e},(⟨t2,next+(ns-n)⟩:AH).bD id=some cp->cp.aE=true->bf id=some e->
          (∃j ob,wD ps n next j=some id∧(⟨hs,ns⟩:AH).bD j=some ob∧ob.aE=true∧wm j=some e)∨(id<next∧(⟨h,next⟩:AH).bD id=some cp∧φ id=some e∧rN e.b):=by
          intro id cp e h1 l1 h2;rcases MB h1 with⟨j,ob,a1,a2,a3⟩|⟨a1,a2⟩|⟨a1,a2,a3⟩
          ·exact .inl ⟨j,ob,a1,a2,by rw[←NY a3];exact l1,by rw[←LX j id a1];exact h2⟩
          ·subst a2;cases l1
          ·rw[kj a1]at h2;exact .inr ⟨a1,a3,h2,ew a2 a3 l1 h2⟩
         rcases oA h1 l1 h2 with⟨j,ob,a1,a2,a3,a4⟩|⟨a1,a2,a3,a4⟩<;>rcases oA h3 l2 h4 with⟨j',cp,b1,b2,b3,b4⟩|⟨b1,b2,b3,b4⟩
         ·have:=g1.lW j j' ob cp e e' a2 a3 a4 b2 b3 b4 EK;subst this;rw[a1]at b1;cases b1;rfl
         ·exact absurd (EK▸b4) (g1.lt j e a4).2.1
         ·exact absurd (EK▸a4) (g1.lt j' e' b4).2.1
         ·exact hw.lW id jH kF oJ e e' a2 l1 a3 b2 l2 b3 EK
        ·intro id e h2;by_cases hi:id<next
         ·rw[kj hi]at h2;obtain⟨k1,k2,_⟩:=hw.lt id e h2;exact⟨by omega,k2,by show id<next+(ns-n);omega⟩
         ·have h3:wm (n+(id-next))=some e:=by rw[←h2];exact(az hi).symm
          obtain⟨k1,k2,k3⟩:=g1.lt _ e h3;refine⟨k1,fun kh=>k2 (LZ _ kh),?_⟩;have k3:n+(id-next)<ns:=k3;show id<next+(ns-n)
          omega
        ·intro id cp h1;show id<next+(ns-n)
         rcases Rj Fg h1 with⟨i,ob,a1,a2,_⟩|h2
         ·omega
         ·rcases Rl bq.n1 MD h2 with⟨n',a1,_⟩|⟨_,a2⟩
          ·have:=(qc a1).1;omega
          ·have:=hw.nx id cp a2;have:id<next:=this
           omega
        ·intro b o gF;have:=hw.ro b o gF;exact⟨this.1,(g3.2.1 b (LZ b this.1)).trans this.2⟩
        ·intro id hi hn;have hi:id<next:=Nat.lt_of_lt_of_le hi hm
         refine⟨by rw[kj hi];exact hn,?_⟩;by_cases oA:∃n,(id,n)∈ps
         ·obtain⟨n',oA⟩:=oA;obtain⟨ob,k1,_,⟨e,k2⟩|⟨vs,el,rfl⟩⟩:=Uc _ oA
          ·rw[hn]at k2;cases k2
          ·exact .inr ⟨vs,el,k1⟩
         ·left;show t2.cb id=h.cb id;rw[Rk Fg hi,Z3 MD (fun n' hm=>oA ⟨n',hm⟩)]
        ·exact hE _ _ _ _ _ _ LX z7 g4
       ·cases hl
      ·cases hl
     ·cases hl
    ·cases hl
  ·rw[az hp]at hk;cases hk
 ·cases hk
def zl(P:Program)(l:Nat)(a:AV)(H:AH)(v:AV)(H':AH):Prop:=
 ∃st pe fn tmps nt p assign body d fr,H.bD l=some (.gG st pe fn tmps nt [p] assign body d)∧yU (.gG st pe fn tmps nt [p] assign body d) l [a]=some fr∧
  ∀(φ:bu) (w:World) (bs:ez) (cJ:Frame) (cs:List Frame),WR φ bs H w->gQ bs w->tM φ fr cJ->Qj (some l) P H.bW bs φ w cJ cs ⟨.gy v,none,H'⟩
def Zr(P:Program)(S:wx):Prop:=
 ∀(args:LV) (H:AH) (p:Prop) (v:AV) (H':AH),S 999999 args H=some (p,v,H')->p->∃l a,args=[.gJ l,a]∧zl P l a H v H'
theorem amC{P:Program}{S:wx}(hS:YM P S):Dw P (fun f args H=>bif Ad f then none else Ag S f args H):=by
 intro f args H v H' hk φ w m bs args' cs ha hw hb hm;cases hf:Ad f with
 |true=>simp only[hf,cond_true]at hk;cases hk
 |false=>
  simp only[hf,cond_false]at hk;have c6:f≠999999:=by rintro rfl;cases hf
  obtain⟨bf,w',g1,g2,g3,g4⟩:=adm hk (E:=fun bf w' v=>wy P bf w w' (Frame.enter P f args' .normal) cs ⟨.gy v,none,H'⟩ none none) (fun id dn=>BM ha id dn) hw hb hm
   (by rintro r mW sD v v' w' hr hv ⟨jj,e',⟨v0,rfl,k1⟩,k2⟩;exact⟨jj,_,⟨v0,rfl,su hr hv k1⟩,k2⟩)
   (by intro ps t n zn p vs Hs bq lH l6 kB hp rN Im kj;obtain⟨wm,w',g1,g2,g3,g4⟩:=hS f zn ⟨t,n⟩ p vs Hs c6 kB hp (nr ps φ) w rN args' cs (AF (CA bq φ) l6 ha) Im kj;exact⟨wm,w',g1,g2,g3,g4⟩)
  exact⟨bf,w',g1,g2,g3,g4⟩
theorem akN{P:Program}{S:wx}(hS:Zr P S):J6 P (Lx S):=by
 intro fr H r lG φ w m bs cJ cs hw hb hm hf hu;unfold Lx at lG;split at lG
 ·rename_i l hl;split at lG
  ·rename_i st pe fn tmps nt params assign body d ho;split at lG
   ·rename_i p;split at lG
    ·rename_i a ha;split at lG
     ·rename_i gZ;obtain⟨TO,hpn⟩:=N4 gZ;split at lG
      ·rename_i v H' hk;cases lG;subst TO;simp only at hl ha hf hu⊢;obtain⟨b,ac,Fm,rfl,yq,hi⟩:=hf;have T_:∀id∈rY [.gJ l,a],∃e,φ id=some e:=by
        intro id dn;simp only[rY,j6,gz,List.mem_append,ko]at dn;rcases dn with rfl|dn
        ·obtain⟨e,h1,_⟩:=yq.j_;exact⟨e,h1⟩
        ·obtain⟨x,_,h4⟩:=yq.tr.2 p a ha;exact LS h4 id dn
       obtain⟨bf,w',g1,g2,g3,g4⟩:=adm hk (E:=fun bf w' v=>wy P bf w w' (b.atR ac Fm) cs ⟨.gy v,none,H'⟩ none (some l)) T_ hw hb hm
        (by intro r mW sD v v' w' hr hv he c cs' lF;obtain⟨v0,k1,k2⟩:=he c cs' lF;exact⟨v0,su hr hv k1,k2⟩)
        (by
          intro ps t n zn p' vs Hs bq lH l6 kB hp rN Im kj;obtain⟨l',a',ale,vM⟩:=hS zn ⟨t,n⟩ p' vs Hs kB hp;obtain⟨mU,pe',fn',nL,nt',p1,aih,aiw,d',fr',q1,q2,q3⟩:=vM;subst ale;simp only[iV,eK]at l6;cases yy:jS ps l with
          |none=>rw[yy]at l6;cases l6
          |some l1=>
           rw[yy]at l6;simp only at l6;cases E':eK (jS ps) a with
           |none=>rw[E']at l6;cases l6
           |some a1=>
            rw[E']at l6;simp only[nu,List.cons.injEq,AV.gJ.injEq,and_true]at l6;obtain⟨rfl,rfl⟩:=l6;have alR:∃o ob,(o,l1)∈ps∧H.bD o=some ob∧lM (jS ps) ob=some (.gG mU pe' fn' nL nt' [p1] aih aiw d'):=by
             rcases O2 lH q1 with h1|h1
             ·exact h1
             ·cases h1
            obtain⟨o,ob,k1,k2,k3⟩:=alR;have:=Nh bq.n2 k1 (VN yy);subst this;rw[ho]at k2;cases k2;simp only[lM]at k3;split at k3
            ·rename_i t2 d2 Fg hd2;cases k3;obtain⟨alz,_⟩:=N4 q2;subst alz;have Ii:=CA bq φ;obtain⟨wm,w',g1,g2,g3,g4⟩:=q3 (nr ps φ) w rN (b.atR ac Fm) cs Im kj (by
              refine⟨b,ac,Fm,rfl,⟨yq.fn,⟨yq.tr.1,fun i x hx=>?_⟩,yq.dr,?_,yq.lV,fun h=>by cases h⟩,Ws rfl hi⟩
              ·have hx:(nL.iY p a1).cb i=some x:=hx;rw[Tr.lB]at hx;by_cases H6:i=p
               ·subst H6;rw[aN rfl]at hx;cases hx;obtain⟨v0,h3,h4⟩:=yq.tr.2 i a (by show(tmps.iY i a).cb i=_;rw[Tr.lB,aN rfl]);exact⟨v0,h3,su Ii E' h4⟩
               ·rw[az H6]at hx;obtain⟨x0,h1,h2⟩:=NZ Fg hx;obtain⟨v0,h3,h4⟩:=yq.tr.2 i x0 (by show(tmps.iY p a).cb i=_;rw[Tr.lB,az H6];exact h1);exact⟨v0,h3,su Ii h2 h4⟩
              ·obtain⟨e,h1,h2⟩:=yq.j_;exact⟨e,(Ii _ l1 yy).trans h1,h2⟩)
             exact⟨wm,w',g1,g2,g3,g4⟩
            ·cases k3)
       exact⟨bf,w',g1,g2,g3,g4⟩
      ·cases lG
     ·cases lG
    ·cases lG
   ·cases lG
  ·cases lG
 ·cases lG
def bn(P:Program)(S:bC):Prop:=YM P (rQ S)∧Zr P (rQ S)
theorem yd{P:Program}{S:bC}(hS:bn P S):oQ P (oV S):=⟨akN hS.2,amC hS.1⟩
end
noncomputable section
def eC(P:Program)(f:FuncId)(args:LV)(H:AH)(v:AV)(H':AH):Prop:=
 ∀(φ:bu) (w:World) (bs:ez) (args':Array Value) (cs:List Frame),bm φ args args'.toList->WR φ bs H w->gQ bs w->Y0 P H.bW bs φ w (Frame.enter P f args' .normal) cs ⟨.gy v,none,H'⟩
def iI(v:AV)(H:AH):AV->AH->Prop:=fun v' H'=>v'=v∧H'=H
section
variable{P:Program}{S:bC}
theorem ajJ{f:FuncId}{fn:Func}{c:Code}{args:LV}{H:AH}{v:AV}{H1:AH}(hf:P.funcs[f]? =some fn)(hb:fn.body=some c)(bH:args.length<=fn.ntmps)
 (h:dN P H.bW (pf f fn.ntmps (Tr.Aw args 0 .gB) [.f_ c]) H (CH (iI v H1))):eC P f args H v H1:=by
 intro φ w bs args' cs ha hw kj;obtain⟨r,⟨v',he,hu,rfl,hH⟩,hr⟩:=h;have r_:r=⟨.gy v',none,H1⟩:=by obtain⟨e,u,h⟩:=r;simp only at he hu hH;rw[he,hu,hH]
 subst r_;refine hr φ w bs _ cs (eh _) hw kj ?_;have EX:args'.size<=fn.ntmps:=by have:=ha.ka;simp at this;omega
 let b:Frame:={(default:Frame)with fn:=f,kind:=.normal,roundOf:=none}
 refine⟨b,{tmps:=args'++Array.replicate (fn.ntmps-args'.size) undef,defers:=[]},[.code c],?_,⟨rfl,⟨?_,?_⟩,rfl,rfl,rfl,fun _=>rfl⟩,⟨_,_,rfl,rfl,rfl⟩⟩
 ·simp[Frame.enter,Frame.atR,hf,hb,b]
 ·show _=fn.ntmps;simp;omega
 ·intro i x hx;have hx:(Tr.Aw args 0 .gB).cb i=some x:=hx;rw[Tr.abK]at hx;split at hx
  ·rename_i hi;simp only[Nat.sub_zero]at hx;obtain⟨v,h1,h2⟩:=ha.get hx;refine⟨v,?_,h2⟩;rw[Array.getElem?_append_left]
   ·simpa using h1
   ·have:=(List.getElem?_eq_some_iff.1 h1).1;simpa using this
  ·cases hx
def mY(ds:List iZ)(P:Program)(f nt m0:Nat)(v:AV)(H1:AH):Tr AV->AH->List cg->Prop:=fun t H todo=>dN P m0 (j7 ds none f nt t todo) H (CH (iI v H1))
abbrev bF:Program->Nat->Nat->Nat->AV->AH->Tr AV->AH->List cg->Prop:=mY []
theorem ajF(dQ:P.follows .mixedOrders=true)(hS:bn P S){aE:Nat->LN}{n f nt:Nat}{args:LV}{H:AH}{v:AV}{H1:AH}(oB:(P.funcs[f]?).map (·.ntmps)=some nt)
 (h:b_ P S aE (bF P f nt H.bW v H1) (iI v H1) n f args H):eC P f args H v H1:=by
 unfold b_ at h;split at h
 ·rename_i fn eD;rw[eD]at oB;simp only[Option.map_some,nu]at oB;subst oB;split at h
  ·rename_i c hc;obtain⟨hb,h⟩:=ke h;simp only[cy]at hb;exact ajJ eD hc (Nat.le_of_ble_eq_true hb.1) (FW (ds:=[]) (rd:=none) dQ (yd hS) trivial trivial (ZZ dQ (yd hS)) (fun _ _ _ h=>h) n h)
  ·cases h
 ·cases h
theorem alq(dQ:P.follows .mixedOrders=true)(hS:bn P S){aE:Nat->LN}{n f nt m0:Nat}{t:Tr AV}{todo:List cg}{H:AH}{v:AV}{H1:AH}(oB:(P.funcs[f]?).map (·.ntmps)=some nt)
 (h:cT P S aE (bF P f nt m0 v H1) (iI v H1) n f m0 t todo H):bF P f nt m0 v H1 t H todo:=by
 unfold cT at h;split at h
 ·rename_i fn eD;rw[eD]at oB;simp only[Option.map_some,nu]at oB;subst oB;exact FW (ds:=[]) (rd:=none) dQ (yd hS) trivial trivial (ZZ dQ (yd hS)) (fun _ _ _ h=>h) n h
 ·cases h
theorem TK(dQ:P.follows .mixedOrders=true)(hS:bn P S){aE:Nat->LN}{n f nt m0 d:Nat}{t:Tr AV}{todo:List cg}{H:AH}{v:AV}{H1:AH}(hd:d<m0)(oB:(P.funcs[f]?).map (·.ntmps)=some nt)
 (h:I7 P S aE (mY [.nP d] P f nt m0 v H1) (iI v H1) n f m0 d t todo H):mY [.nP d] P f nt m0 v H1 t H todo:=by
 unfold I7 at h;split at h
 ·rename_i fn eD;rw[eD]at oB;simp only[Option.map_some,nu]at oB;subst oB;exact FW (ds:=[.nP d]) (rd:=none) dQ (yd hS) ⟨hd,trivial⟩ trivial (ZY dQ (yd hS) hd) (fun _ _ _ h=>h) n h
 ·cases h
theorem afw(dQ:P.follows .mixedOrders=true)(hS:bn P S){aE:Nat->LN}{n l:Nat}{a:AV}{H:AH}{v:AV}{H1:AH}{st:LoopState}{pe:Option Code}{fn nt p d:Nat}{tmps:Tr AV}{assign body:Code}
 (ho:H.bD l=some (.gG st pe fn tmps nt [p] assign body d)) (hl:l<H.bW)
 (h:W9 P S aE (fun _ _ _=>False) (iI v H1) n l a H):zl P l a H v H1:=by
 unfold W9 at h;rw[ho]at h;simp only at h;split at h
 ·rename_i fr gZ;refine⟨st,pe,fn,tmps,nt,p,assign,body,d,fr,ho,gZ,fun φ w bs cJ cs hw hb hf=>?_⟩;obtain⟨TO,_⟩:=N4 gZ;subst TO;have hT:dN P H.bW (j7 [] (some l) fn nt (tmps.iY p a) [.f_ assign,.xQ,.f_ body]) H (CH (iI v H1)):=
   FW (ds:=[]) (rd:=some l) dQ (yd hS) trivial hl (aik dQ (yd hS)) (fun _ _ _ h=>h.elim) n h
  obtain⟨r,⟨v',he,hu,rfl,hH⟩,hr⟩:=hT;have r_:r=⟨.gy v',none,H1⟩:=by obtain⟨e,u,h⟩:=r;simp only at he hu hH;rw[he,hu,hH]
  subst r_;exact hr φ w bs cJ cs (eh _) hw hb hf
 ·cases h
theorem dN.ana{m0 m1:Nat}{fr:cZ}{H:AH}{Q:gh->Prop}(h01:m0<=m1)(h1:m1<=H.bW)(h:dN P m1 fr H Q):dN P m0 fr H Q:=by obtain⟨r,hq,hr⟩:=h;refine⟨r,hq,fun φ w bs cJ cs hm hw hb hf=>?_⟩;obtain⟨bf,w',g1,g2,g3,g4⟩:=hr φ w bs cJ cs h1 hw hb hf;exact⟨bf,w',g1,fun id hi=>g2 id (Nat.lt_of_lt_of_le hi h01),g3,g4⟩
theorem dN.Ln{m0 d:Nat}{fr:cZ}{H:AH}{x:bc}{Q:gh->Prop}(hd:d<H.bW)(h:dN P m0 fr (H.dS d (.bJ [])) Q):dN P m0 fr (H.dS d x) Q:=by obtain⟨r,hq,hr⟩:=h;exact⟨r,hq,fun φ w bs cJ cs hm hw hb hf=>hr φ w bs cJ cs hm (hw.Ln hd) hb hf⟩
def W_(P:Program)(S:bC)(aE:Nat->LN)(L:Tr AV->AH->List cg->Prop)(Q:AV->AH->Prop)(l5:Nat)(f:Nat)(t:Tr AV)(todo:List cg)(H:AH):Prop:=
 match P.funcs[f]? with
 |some fn=>match todo with
  |.f_ (.rangeFunc g params assign body)::k=>match H with
   |⟨h,n⟩=>match iD t g with
    |some gv=>match wF P gv [.gJ (Nat.succ n)]with
     |some (.qB c args)=>bif Ad c then False else
       Fi (AH.iN (AH.iN ⟨h,n⟩ (.oP (some []))) (.gG .ready none f t fn.ntmps params.toList assign body n)) S c args fun _ H2=>
        match H2.bD (Nat.succ n)with
        |some (.gG .ready none _ _ _ _ _ _ _)=>Nat.succ n<H2.bW∧lO P S fn.ntmps (Nat.succ n) aE L (fun _=>KH P f (Nat.succ n) Q n) none l5 t k (H2.dS (Nat.succ n) (.bJ []))
        |_=>False
     |_=>False
    |none=>False
  |_=>False
 |none=>False
theorem alp(dQ:P.follows .mixedOrders=true)(hS:bn P S){aE:Nat->LN}{n f nt m0:Nat}{t:Tr AV}{todo:List cg}{H:AH}{v:AV}{H1:AH}(hm:m0<=H.bW)(oB:(P.funcs[f]?).map (·.ntmps)=some nt)
 (h:W_ P S aE (mY [.nP H.bW] P f nt (Nat.succ H.bW) v H1) (iI v H1) n f t todo H):bF P f nt m0 v H1 t H todo:=by
 unfold W_ at h;split at h
 ·rename_i fn eD;rw[eD]at oB;simp only[Option.map_some,nu]at oB;subst oB;split at h
  ·rename_i g params assign body k;obtain⟨hh,nn⟩:=H;simp only at h;split at h
   ·rename_i gv hg;split at h
    ·rename_i c args hc;cases hr:Ad c with
     |true=>rw[hr]at h;cases h
     |false=>
      rw[hr]at h;simp only[cond_false]at h;obtain⟨rv,H2,h1,h2⟩:=acJ (P:=P) hr h;split at h2
      ·rename_i lf lt ln lp la lb ld ho;obtain⟨an,h2⟩:=h2;have L1:=yd hS;refine dN.kr (fr':=j7 [.nP nn] none f fn.ntmps t (.zb (Nat.succ nn)::k)) (H':=H2) dQ L1 rfl ?_ ?_
       ·simp only[j7,mn,sx,tA,wc,Ji,Nc,AH.iN,Lb,hg,Option.bind_some,hc,Ee,ae5];have Hy:=h1;simp only[AH.iN]at Hy;rw[Hy];rfl
       ·refine dN.kr (fr':=j7 [.nP nn] none f fn.ntmps t k) (H':=H2.dS (Nat.succ nn) (.gG .exhausted none lf lt ln lp la lb ld)) dQ L1 rfl ?_ ?_
        ·simp only[j7,mn,sx,tA,Jg,ho,to,NQ]
        ·refine dN.Ln an (dN.ana (m1:=Nat.succ nn) (Nat.le_succ_of_le hm) (Nat.le_of_lt an) ?_);exact FW (ds:=[.nP nn]) (rd:=none) dQ L1 ⟨iz nn,trivial⟩ trivial (ZY dQ L1 (iz nn)) (fun _ _ _ h=>h) n h2
      ·cases h2
    ·cases h
   ·cases h
  ·cases h
 ·cases h
theorem cX{ds:List iZ}{f nt m0:Nat}{v:AV}{H1:AH}{α:Type}(μ:α->Nat)(T:α->Tr AV)(M:α->AH)(todo:List cg)(I:α->Prop)
 (k6:∀a,I a->(∀b,I b->μ b<μ a->mY ds P f nt m0 v H1 (T b) (M b) todo)->mY ds P f nt m0 v H1 (T a) (M a) todo):∀a,I a->mY ds P f nt m0 v H1 (T a) (M a) todo:=by
 intro a;generalize hn:μ a=n;induction n using Nat.strongRecOn generalizing a with
 |_ n ih=>intro ha;exact k6 a ha (fun b hb an=>ih (μ b) (by omega) b rfl hb)
def VP:bC:=fun _ _ _=>none
theorem ad1:bn P VP:=by
 constructor
 ·intro f args H p v H' _ h;cases h
 ·intro args H p v H' h;cases h
def cB(f0:FuncId)(s:LV->AH->Option Sp)(S:bC):bC:=fun f args H=>
 bif Nat.beq f f0 then s args H else S f args H
theorem Kz{f0:FuncId}{s:LV->AH->Option Sp}(hS:bn P S)(h:∀args H sp p v H',s args H=some sp->wJ sp=some (p,v,H')->p->eC P f0 args H v H')(c6:f0≠999999:=by first|assumption|decide):bn P (cB f0 s S):=by
 constructor
 ·intro f args H p v H' hf hs hp;unfold rQ cB at hs;cases hb:Nat.beq f f0
  ·rw[hb]at hs;exact hS.1 f args H p v H' hf hs hp
  ·rw[hb]at hs;have:=eI hb;subst this;simp only[cond_true]at hs;split at hs
   ·rename_i sp h1;exact h args H sp p v H' h1 hs hp
   ·cases hs
 ·intro args H p v H' hs hp;unfold rQ cB at hs;have hb:Nat.beq 999999 f0=false:=by
   cases hb:Nat.beq 999999 f0 with
   |false=>rfl
   |true=>exact absurd (eI hb).symm c6
  rw[hb]at hs;exact hS.2 args H p v H' hs hp
theorem ahI{s:LV->AH->Option Sp}(hS:bn P S)(h:∀args H sp p v H',s args H=some sp->wJ sp=some (p,v,H')->p->∃l a,args=[.gJ l,a]∧zl P l a H v H'):bn P (cB 999999 s S):=by
 constructor
 ·intro f args H p v H' hf hs hp;unfold rQ cB at hs;have hb:Nat.beq f 999999=false:=by
   cases hb:Nat.beq f 999999 with
   |false=>rfl
   |true=>exact absurd (eI hb) hf
  rw[hb]at hs;exact hS.1 f args H p v H' hf hs hp
 ·intro args H p v H' hs hp;unfold rQ cB at hs;have hb:Nat.beq 999999 999999=true:=rfl;rw[hb]at hs;simp only[cond_true]at hs;split at hs
  ·rename_i sp h1;exact h args H sp p v H' h1 hs hp
  ·cases hs
def RW(s:LV->AH->Option (Prop×AV×AH)):LV->AH->Option Sp:=fun args H=>
 match s args H with
 |some x=>some (.Hd x)
 |none=>none
def ft(f0:FuncId)(s:LV->AH->Option (Prop×AV×AH))(S:bC):bC:=cB f0 (RW s) S
theorem Ba{f0:FuncId}{s:LV->AH->Option (Prop×AV×AH)}(hS:bn P S)(h:∀args H p v H',s args H=some (p,v,H')->p->eC P f0 args H v H')(c6:f0≠999999:=by first|assumption|decide):bn P (ft f0 s S):=by
 refine Kz (c6:=c6) hS fun args H sp p v H' h1 h2 hp=>?_
 unfold RW at h1;split at h1
 ·rename_i x hx;cases h1;cases h2;exact h _ _ _ _ _ hx hp
 ·cases h1
theorem WN{f0:FuncId}{sN:Nat->LV->AH->Option (Prop×AV×AH)}(hS:bn P S)(h0:∀args H p v H',sN 0 args H=some (p,v,H')->¬p)
 (k6:∀N,bn P (ft f0 (sN N) S)->∀args H p v H',sN (N+1) args H=some (p,v,H')->p->eC P f0 args H v H') (c6:f0≠999999:=by first|assumption|decide):∀N,bn P (ft f0 (sN N) S)
 |0=>Ba (c6:=c6) hS (fun args H p v H' h hp=>absurd hp (h0 args H p v H' h))
 |N+1=>Ba (c6:=c6) hS (k6 N (WN (c6:=c6) hS h0 k6 N))
structure dP(W:Type)where
 bN:W->LV->AH->Prop
 v:W->AV
 aU:W->AH
def dP.dT{W:Type}(e:dP W):Prop:=∀w w' args H,e.bN w args H->e.bN w' args H->(e.v w,e.aU w)=(e.v w',e.aU w')
def cO{W:Type}(e:dP W)(h:e.dT)(ok:LV->AH->Bool):LV->AH->Option Sp:=fun args H=>
 bif ok args H then some (.ex W (fun w=>(e.bN w args H,e.v w,e.aU w)) (fun w w' h1 h2=>h w w' args H h1 h2))else none
theorem dc{f0:FuncId}{W:Type}{e:dP W}{h1:e.dT}{ok:LV->AH->Bool}(hS:bn P S)(h:∀w args H,e.bN w args H->eC P f0 args H (e.v w) (e.aU w))(c6:f0≠999999:=by first|assumption|decide):bn P (cB f0 (cO e h1 ok) S):=by
 refine Kz (c6:=c6) hS fun args H sp p v H' hs hd hp=>?_
 unfold cO at hs;obtain⟨_,hs⟩:=Rs hs;cases hs;simp only[wJ]at hd;by_cases hw:∃w,e.bN w args H
 ·rw[dif_pos hw]at hd;cases hd;exact h _ _ _ hp
 ·rw[dif_neg hw]at hd;cases hd
theorem ahH{W:Type}{e:dP W}{h1:e.dT}{ok:LV->AH->Bool}(hS:bn P S)(h:∀w args H,e.bN w args H->∃l a,args=[.gJ l,a]∧zl P l a H (e.v w) (e.aU w)):bn P (cB 999999 (cO e h1 ok) S):=by
 refine ahI hS fun args H sp p v H' hs hd hp=>?_
 unfold cO at hs;obtain⟨_,hs⟩:=Rs hs;cases hs;simp only[wJ]at hd;by_cases hw:∃w,e.bN w args H
 ·rw[dif_pos hw]at hd;cases hd;exact h _ _ _ hp
 ·rw[dif_neg hw]at hd;cases hd
theorem CE{f0:FuncId}{W:Type}{e:Nat->dP W}{h1:∀N,(e N).dT}{ok:LV->AH->Bool}(hS:bn P S)(h0:∀w args H,¬(e 0).bN w args H)
 (k6:∀N,bn P (cB f0 (cO (e N) (h1 N) ok) S)->∀w args H,(e (N+1)).bN w args H->eC P f0 args H ((e (N+1)).v w) ((e (N+1)).aU w)) (c6:f0≠999999:=by first|assumption|decide):∀N,bn P (cB f0 (cO (e N) (h1 N) ok) S)
 |0=>dc (c6:=c6) hS (fun w args H hp=>absurd hp (h0 w args H))
 |N+1=>dc (c6:=c6) hS (k6 N (CE (c6:=c6) hS h0 k6 N))
end
end
end Go.Ev
namespace Go.Ev
variable[Ro]
noncomputable section
def jW(g n:Nat)(i:Nat):Option Nat:=if i=g then some n else if i=n then none else some i
structure Mv(H H1:AH)(g:Nat):Prop where
 aL:∃vs el,H.bD g=some (.aL vs el)∧H1.bD H.bW=some (.aL vs el)
 bJ:H1.bD g=some (.bJ [])
 next:H1.bW=H.bW+1
 Wd:∀id cp,id≠g->id≠H.bW->H1.bD id=some cp->∃ob,H.bD id=some ob∧lM (jW g H.bW) ob=some cp
theorem Mv.wr{φ:bu}{bs:ez}{H H1:AH}{g:Nat}{w:World}(hm:Mv H H1 g)(hw:WR φ bs H w):
 WR (fun i=>if i=H.bW then φ g else φ i) bs H1 w∧x_ (jW g H.bW) φ (fun i=>if i=H.bW then φ g else φ i):=by
 obtain⟨vs,el,hg,hn⟩:=hm.aL;have BU:g<H.bW:=hw.nx _ _ hg;have hr:x_ (jW g H.bW) φ (fun i=>if i=H.bW then φ g else φ i):=by
  intro a c h;unfold jW at h;split at h
  ·rename_i zL;cases h;subst zL;exact aN rfl
  ·split at h
   ·cases h
   ·rename_i h1 h2;cases h;exact az h2
 have oN:∀{id ob e},H1.bD id=some ob->ob.aE=true->(if id=H.bW then φ g else φ id)=some e->
  ∃j gn,H.bD j=some gn∧gn.aE=true∧φ j=some e∧id=(if j=g then H.bW else j):=by
  intro id ob e ho hl he;by_cases h1:id=H.bW
  ·rw[aN h1]at he;exact⟨g,_,hg,rfl,he,by rw[aN rfl,h1]⟩
  ·rw[az h1]at he;by_cases h2:id=g
   ·subst h2;rw[hm.bJ]at ho;cases ho;cases hl
   ·obtain⟨gn,h3,h4⟩:=hm.Wd id ob h2 h1 ho;exact⟨id,gn,h3,by rw[←NY h4];exact hl,he,by rw[az h2]⟩
 refine⟨⟨?_,?_,?_,?_,hw.ro⟩,hr⟩
 ·intro id ob e ho HV;have he:(if id=H.bW then φ g else φ id)=some e:=HV;clear HV;by_cases h1:id=H.bW
  ·subst h1;rw[aN rfl]at he;rw[hn]at ho;cases ho;obtain⟨o,k1,k2⟩:=hw.fP g _ e hg he;exact⟨o,k1,k2⟩
  ·rw[az h1]at he;by_cases h2:id=g
   ·subst h2;rw[hm.bJ]at ho;cases ho;have:=(hw.lt id e he).1;exact⟨w.heap[e.b]'this,Array.getElem?_eq_getElem _,trivial⟩
   ·obtain⟨gn,h3,h4⟩:=hm.Wd id ob h2 h1 ho;obtain⟨o,k1,k2⟩:=hw.fP id gn e h3 he;exact⟨o,k1,WT hr h4 k2⟩
 ·intro id jH ob cp e e' h1 l1 h2 h3 l2 h4 hb;obtain⟨j,o,a1,a2,a3,rfl⟩:=oN h1 l1 h2;obtain⟨j',o',b1,b2,b3,rfl⟩:=oN h3 l2 h4;have:=hw.lW j j' o o' e e' a1 a2 a3 b1 b2 b3 hb;rw[this]
 ·intro id e HV;have he:(if id=H.bW then φ g else φ id)=some e:=HV;clear HV;rw[hm.next];by_cases h1:id=H.bW
  ·rw[aN h1]at he;have:=hw.lt g e he;exact⟨this.1,this.2.1,by omega⟩
  ·rw[az h1]at he;have:=hw.lt id e he;exact⟨this.1,this.2.1,by omega⟩
 ·intro id ob ho;rw[hm.next];by_cases h1:id=H.bW
  ·omega
  ·by_cases h2:id=g
   ·omega
   ·obtain⟨gn,h3,_⟩:=hm.Wd id ob h2 h1 ho;have:=hw.nx id gn h3;omega
theorem Ec{P:Program}{f:FuncId}{args:LV}{H0 H H1:AH}{v v1:AV}{g:Nat}(h:eC P f args H0 v H)(hm:Mv H H1 g)(hv:eK (jW g H.bW) v=some v1)(hn:H0.bW<=H.bW):eC P f args H0 v1 H1:=by
 intro φ w bs args' cs ha hw hl;obtain⟨bf,w',g1,g2,g3,g4⟩:=h φ w bs args' cs ha hw hl;have:=hm.wr g1;refine⟨_,w',this.1,fun id dn=>?_,g3,?_⟩
 ·rw[az (by simp only at g1⊢;omega)];exact g2 id dn
 ·obtain⟨jj,e',⟨v',rfl,k1⟩,k2⟩:=g4;exact⟨jj,_,⟨v',rfl,su this.2 hv k1⟩,k2⟩
def dL:List (Nat×bc)->Nat->Option bc
 |[],_=>none
 |(s,a)::l,i=>if i=s then some a else dL l i
theorem adJ:∀(l:List (Nat×bc)) (i:Nat),(Nj l).cb i=dL l i
 |[],i=>rfl
 |(s,a)::l,i=>by
  simp only[Nj,dL];by_cases h:i=s
  ·subst h;rw[aN rfl,Tr.lB];simp
  ·rw[az h,←adJ l i,Tr.lB];simp[h]
theorem eA(l:List (Nat×bc))(n i:Nat):(aq l n).bD i=dL l i:=adJ l i
end
end Go.Ev
namespace Go.Ev
variable[Ro]
noncomputable section
theorem Ql{φ ψ:bu}:∀{l:List cg} {m:List Item},nH l=true->jY φ l m->jY ψ l m
 |[],m,_,h=>h
 |x::l,m,hp,h=>by simp only[nH,cy]at hp;obtain⟨y,ys,rfl,h1,h2⟩:=h;refine⟨y,ys,rfl,?_,Ql hp.2 h2⟩;cases x<;>first|exact h1|(simp[IT]at hp)
theorem aln{ds:List iZ}{P:Program}{f nt m0:Nat}{v:AV}{H1 H H':AH}{t t':Tr AV}{todo:List cg}{g:Nat}(h:mY ds P f nt m0 v H1 t' H' todo)(hm:Mv H H' g)(hp:nH todo=true)
 (ht:∀i a',t'.cb i=some a'->∃a,t.cb i=some a∧eK (jW g H.bW) a=some a') (nf:wM m0 ds):mY ds P f nt m0 v H1 t H todo:=by
 obtain⟨r,hq,hr⟩:=h;refine⟨r,hq,fun φ w bs cJ cs de hw hl hf=>?_⟩;have E_:=hm.wr hw;have kj:∀id,id<m0->(fun i=>if i=H.bW then φ g else φ i) id=φ id:=fun id dn=>az (by omega)
 have jV:tM (fun i=>if i=H.bW then φ g else φ i) (j7 ds none f nt t' todo) cJ:=by
  obtain⟨b,a,XG,e1,e2,e3⟩:=hf;refine⟨b,a,XG,e1,⟨e2.fn,⟨e2.tr.1,fun i a' ha=>?_⟩,?_,e2.j_,e2.lV,e2.pF⟩,Ql hp e3⟩
  ·obtain⟨a0,h1,h2⟩:=ht i a' ha;obtain⟨x,h3,h4⟩:=e2.tr.2 i a0 h1;exact⟨x,h3,su E_.2 h2 h4⟩
  ·exact J9 kj nf e2.dr
 obtain⟨bf,w',g1,g2,g3,g4⟩:=hr _ w bs cJ cs (by rw[hm.next];omega) E_.1 hl jV;refine⟨bf,w',g1,fun id dn=>?_,g3,g4⟩;rw[g2 id dn];exact az (by omega)
theorem qa{P:Program}{f nt m0:Nat}{v:AV}{H1 H H':AH}{t t':Tr AV}{todo:List cg}{g:Nat}(h:bF P f nt m0 v H1 t' H' todo)(hm:Mv H H' g)(hp:nH todo=true)
 (ht:∀i a',t'.cb i=some a'->∃a,t.cb i=some a∧eK (jW g H.bW) a=some a'):bF P f nt m0 v H1 t H todo:=
 aln h hm hp ht (DU _)
end
end Go.Ev
namespace Go.Ev
variable[Ro]
noncomputable section
def Nn(g n:Nat):List (Nat×bc)->Option (List (Nat×bc))
 |[]=>some []
 |(s,a)::l=>match Nn g n l with
  |none=>none
  |some l'=>if s=g then some ((s,.bJ [])::l')else match lM (jW g n) a with
   |some a'=>some ((s,a')::l')
   |none=>none
theorem adN{g n:Nat}:∀{l l':List (Nat×bc)},Nn g n l=some l'->
 (∀id,id≠g->(dL l id=none->dL l' id=none)∧∀cp,dL l' id=some cp->∃ob,dL l id=some ob∧lM (jW g n) ob=some cp)∧∀x,dL l g=some x->dL l' g=some (.bJ [])
 |[],l',h=>by cases h;exact⟨fun id _=>⟨fun _=>rfl,fun cp h=>by cases h⟩,fun x h=>by cases h⟩
 |(s,a)::l,l',h=>by
  simp only[Nn]at h;split at h
  ·cases h
  ·rename_i l1 h1;obtain⟨k1,k2⟩:=adN h1;split at h
   ·rename_i hs;cases h;subst hs;refine⟨fun id dn=>?_,fun x _=>by simp[dL]⟩;simp only[dL,az dn];exact k1 id dn
   ·rename_i hs;split at h
    ·rename_i a' ha;cases h;refine⟨fun id dn=>?_,fun x hx=>?_⟩
     ·simp only[dL];by_cases hi:id=s
      ·subst hi;simp only[if_true];exact⟨fun h=>(by cases h),fun cp h=>(by cases h;exact⟨a,rfl,ha⟩)⟩
      ·simp only[az hi];exact k1 id dn
     ·simp only[dL]at hx⊢;have:¬g=s:=fun e=>hs e.symm
      rw[az this]at hx⊢;exact k2 x hx
    ·cases h
theorem Cm:∀(l m:List (Nat×bc)) (i:Nat),dL (l++m) i=(match dL l i with|some x=>some x|none=>dL m i)
 |[],m,i=>rfl
 |(s,a)::l,m,i=>by
  simp only[mQ,dL];split
  ·rfl
  ·exact Cm l m i
theorem oG{g n:Nat}{l l':List (Nat×bc)}{vs:LV}{el:TypeId}(h:Nn g n l=some l')(hg:dL l g=some (.aL vs el))(hn:dL l n=none):
 Mv (aq l n) (aq (l'++[(n,.aL vs el)]) (n+1)) g:=by
 obtain⟨k1,k2⟩:=adN h;have BU:n≠g:=by rintro rfl;rw[hg]at hn;cases hn
 refine⟨⟨vs,el,by rw[eA];exact hg,?_⟩,?_,rfl,?_⟩
 ·show(aq _ _).bD n=_;rw[eA,Cm,(k1 n BU).1 hn];simp[dL]
 ·rw[eA,Cm,k2 _ hg]
 ·intro id cp h1 h2 h3;have h2:id≠n:=h2;rw[eA,Cm]at h3;rw[eA];cases hl:dL l' id with
  |none=>rw[hl]at h3;simp[dL,h2]at h3
  |some x=>rw[hl]at h3;cases h3;exact(k1 id h1).2 _ hl
end
end Go.Ev
namespace Go.Ev
variable[Ro]
noncomputable section
def xu:List (Nat×AV)->Nat->Option AV
 |[],_=>none
 |(s,a)::l,i=>if i=s then some a else xu l i
theorem sj:∀(l:List (Nat×AV)) (i:Nat),(bk l).cb i=xu l i
 |[],i=>rfl
 |(s,a)::l,i=>by
  simp only[bk,xu];by_cases h:i=s
  ·subst h;rw[aN rfl,Tr.lB];simp
  ·rw[az h,←sj l i,Tr.lB];simp[h]
theorem rk{l:List (Nat×AV)}{g n i:Nat}{a:AV}(hi:(bk l).cb i=some a)(h:∀x∈l,eK (jW g n) x.2=some x.2):eK (jW g n) a=some a:=by
 rw[sj]at hi;induction l with
 |nil=>cases hi
 |cons x l ih=>
  obtain⟨s,b⟩:=x;simp only[xu]at hi;split at hi
  ·cases hi;exact h (s,a) (by simp)
  ·exact ih hi (fun y hy=>h y (by simp[hy]))
end
end Go.Ev
namespace Go.Ev
variable[Ro]
noncomputable section
def pX(m0:Nat)(H H':AH)(R:bu->bu->Prop):Prop:=
 H.bW<=H'.bW∧∀φ bs w,m0<=H.bW->WR φ bs H w->∃bf,WR bf bs H' w∧(∀id,id<m0->bf id=φ id)∧R φ bf
theorem L6{ds:List iZ}{P:Program}{f nt m0:Nat}{v:AV}{H1 H H':AH}{t t':Tr AV}{todo:List cg}{R:bu->bu->Prop}(h:mY ds P f nt m0 v H1 t' H' todo)(hm:pX m0 H H' R)(hp:nH todo=true)
 (ht:∀φ bf,R φ bf->∀i a',t'.cb i=some a'->∃a,t.cb i=some a∧∀x,VR φ a x->VR bf a' x) (nf:wM m0 ds):mY ds P f nt m0 v H1 t H todo:=by
 obtain⟨r,hq,hr⟩:=h;refine⟨r,hq,fun φ w bs cJ cs de hw hl hf=>?_⟩;obtain⟨hn,hm⟩:=hm;obtain⟨sD,k1,k2,k3⟩:=hm φ bs w de hw;have jV:tM sD (j7 ds none f nt t' todo) cJ:=by
  obtain⟨b,a,XG,e1,e2,e3⟩:=hf;refine⟨b,a,XG,e1,⟨e2.fn,⟨e2.tr.1,fun i a' ha=>?_⟩,?_,e2.j_,e2.lV,e2.pF⟩,Ql hp e3⟩
  ·obtain⟨a0,h1,h2⟩:=ht φ sD k3 i a' ha;obtain⟨x,h3,h4⟩:=e2.tr.2 i a0 h1;exact⟨x,h3,h2 x h4⟩
  ·exact J9 k2 nf e2.dr
 obtain⟨bf,w',g1,g2,g3,g4⟩:=hr sD w bs cJ cs (by omega) k1 hl jV;exact⟨bf,w',g1,fun id dn=>(g2 id dn).trans (k2 id dn),g3,g4⟩
theorem TL{P:Program}{f nt m0:Nat}{v:AV}{H1 H H':AH}{t t':Tr AV}{todo:List cg}{R:bu->bu->Prop}(h:bF P f nt m0 v H1 t' H' todo)(hm:pX m0 H H' R)(hp:nH todo=true)
 (ht:∀φ bf,R φ bf->∀i a',t'.cb i=some a'->∃a,t.cb i=some a∧∀x,VR φ a x->VR bf a' x):bF P f nt m0 v H1 t H todo:=
 L6 h hm hp ht (DU _)
theorem K_{P:Program}{f:FuncId}{args:LV}{H0 H H1:AH}{v v1:AV}{R:bu->bu->Prop}(h:eC P f args H0 v H)(hm:pX H0.bW H H1 R)(de:H0.bW<=H.bW)(hv:∀φ bf,R φ bf->∀x,VR φ v x->VR bf v1 x):eC P f args H0 v1 H1:=by intro φ w bs args' cs ha hw hl;obtain⟨bf,w',g1,g2,g3,g4⟩:=h φ w bs args' cs ha hw hl;obtain⟨hn,hm⟩:=hm;obtain⟨sD,k1,k2,k3⟩:=hm bf bs w' de g1;refine⟨sD,w',k1,fun id dn=>(k2 id dn).trans (g2 id dn),g3,?_⟩;obtain⟨jj,e',⟨v',rfl,j1⟩,j2⟩:=g4;exact⟨jj,_,⟨v',rfl,hv _ _ k3 _ j1⟩,j2⟩
theorem Zv{φ:bu}:∀{k:Nat} {vs:LV} {l:List Value},bm φ vs l->bm φ (vs.drop k) (l.drop k)
 |0,_,_,h=>h
 |k+1,[],l,h=>by cases h;simp[bm]
 |k+1,a::vs,l,h=>by obtain⟨v,l',rfl,_,h2⟩:=h;exact Zv (k:=k) h2
theorem Zw{φ:bu}:∀{k:Nat} {vs:LV} {l:List Value},bm φ vs l->bm φ (vs.take k) (l.take k)
 |0,_,_,h=>by simp[bm]
 |k+1,[],l,h=>by cases h;simp[bm]
 |k+1,a::vs,l,h=>by obtain⟨v,l',rfl,h1,h2⟩:=h;exact⟨v,l'.take k,rfl,h1,Zw (k:=k) h2⟩
def wL(g k n:Nat):AV->Option AV
 |.bB id off len cap sz ex=>if id=g then(if off=k∧ex=false then some (.ae n len sz)else none)else some (.bB id off len cap sz ex)
 |.ad id off=>if id=g then none else some (.ad id off)
 |.ae id len sz=>if id=g then none else some (.ae id len sz)
 |a=>some a
def DT(g k n:Nat):LV->Option LV
 |[]=>some []
 |a::l=>match wL g k n a,DT g k n l with
  |some a',some l'=>some (a'::l')
  |_,_=>none
def Bj(g k n:Nat):bc->Option bc
 |.ay vs e=>match DT g k n vs with|some l=>some (.ay l e)|none=>none
 |o=>some o
def K2(g k n:Nat):List (Nat×bc)->Option (List (Nat×bc))
 |[]=>some []
 |(s,a)::l=>match K2 g k n l with
  |none=>none
  |some l'=>if s=g then some ((s,.bJ [])::l')else match Bj g k n a with
   |some a'=>some ((s,a')::l')
   |none=>none
def ow(g k n:Nat)(φ:bu):bu:=fun i=>if i=n then(φ g).map (fun e=>⟨e.b,e.o+k,e.n⟩)else φ i
theorem RZ{g k n:Nat}{φ:bu}(h:φ n=none):fq φ (ow g k n φ):=by intro id e he;unfold ow;rw[az (by rintro rfl;rw[h]at he;cases he)];exact he
theorem aaG{g k n:Nat}{φ:bu}(h:φ n=none){a a':AV}{v:Value}(ha:wL g k n a=some a')(hv:VR φ a v):VR (ow g k n φ) a' v:=by
 have hp:=RZ (g:=g) (k:=k) h;unfold wL at ha;split at ha
 ·split at ha
  ·rename_i hg;subst hg;split at ha
   ·rename_i hk;obtain⟨rfl,rfl⟩:=hk;cases ha;simp only[VR]at hv⊢;obtain⟨e,x,c,h1,h2,h3,h4,h5,h6⟩:=hv;refine .inr ⟨⟨e.b,e.o+_,e.n⟩,x,c,?_,h2,h3,h4,h6⟩;unfold ow;rw[aN rfl,h1];rfl
   ·cases ha
  ·cases ha;exact VR.qC hp _ _ hv
 ·split at ha
  ·cases ha
  ·cases ha;exact VR.qC hp _ _ hv
 ·split at ha
  ·cases ha
  ·cases ha;exact VR.qC hp _ _ hv
 ·cases ha;exact VR.qC hp _ _ hv
theorem aaI{g k n:Nat}{φ:bu}(h:φ n=none):∀{l l':LV} {vs:List Value},DT g k n l=some l'->bm φ l vs->bm (ow g k n φ) l' vs
 |[],l',vs,h1,h2=>by cases h1;exact h2
 |a::l,l',vs,h1,h2=>by
  simp only[DT]at h1;split at h1
  ·rename_i a1 l1 e1 e2;cases h1;obtain⟨v,eT,rfl,k1,k2⟩:=h2;exact⟨v,eT,rfl,aaG h e1 k1,aaI h e2 k2⟩
  ·cases h1
theorem ajf{g k n:Nat}{a a':AV}(ha:wL g k n a=some a'):a'.ec=a.ec:=by
 unfold wL at ha;split at ha
 ·split at ha
  ·split at ha
   ·cases ha;rfl
   ·cases ha
  ·cases ha;rfl
 ·split at ha
  ·cases ha
  ·cases ha;rfl
 ·split at ha
  ·cases ha
  ·cases ha;rfl
 ·cases ha;rfl
theorem aaH{g k n:Nat}:∀{l l':LV},DT g k n l=some l'->l'.length=l.length∧l'.all AV.ec=l.all AV.ec
 |[],l',h=>by cases h;exact⟨rfl,rfl⟩
 |a::l,l',h=>by
  simp only[DT]at h;split at h
  ·rename_i a1 l1 e1 e2;cases h;have:=aaH e2;exact⟨by simp[this.1],by simp[this.2,ajf e1]⟩
  ·cases h
theorem ajh{g k n:Nat}{φ:bu}(h:φ n=none){ob cp:bc}{e:PE}{o:Obj}(ho:Bj g k n ob=some cp)(hr:OR φ ob e o):OR (ow g k n φ) cp e o:=by
 unfold Bj at ho;split at ho
 ·split at ho
  ·rename_i l hl;cases ho;obtain⟨cs,el,h1,h2,h3,h4,h5⟩:=hr;have ki:=aaH hl;exact⟨cs,el,h1,h2,by rw[ki.1];exact h3,by rw[ki.1];exact aaI h hl h4,by rw[ki.2];exact h5⟩
  ·cases ho
 ·cases ho;exact OR.Gi (RZ h) hr
theorem ajg{g k n:Nat}{ob cp:bc}(ho:Bj g k n ob=some cp):cp.aE=ob.aE:=by
 unfold Bj at ho;split at ho
 ·split at ho
  ·cases ho;rfl
  ·cases ho
 ·cases ho;rfl
theorem aaJ{g k n:Nat}:∀{l l':List (Nat×bc)},K2 g k n l=some l'->
 (∀id,id≠g->(dL l id=none->dL l' id=none)∧∀cp,dL l' id=some cp->∃ob,dL l id=some ob∧Bj g k n ob=some cp)∧∀x,dL l g=some x->dL l' g=some (.bJ [])
 |[],l',h=>by cases h;exact⟨fun id _=>⟨fun _=>rfl,fun cp h=>by cases h⟩,fun x h=>by cases h⟩
 |(s,a)::l,l',h=>by
  simp only[K2]at h;split at h
  ·cases h
  ·rename_i l1 h1;obtain⟨k1,k2⟩:=aaJ h1;split at h
   ·rename_i hs;cases h;subst hs;refine⟨fun id dn=>?_,fun x _=>by simp[dL]⟩;simp only[dL,az dn];exact k1 id dn
   ·rename_i hs;split at h
    ·rename_i a' ha;cases h;refine⟨fun id dn=>?_,fun x hx=>?_⟩
     ·simp only[dL];by_cases hi:id=s
      ·subst hi;simp only[if_true];exact⟨fun h=>(by cases h),fun cp h=>(by cases h;exact⟨a,rfl,ha⟩)⟩
      ·simp only[az hi];exact k1 id dn
     ·simp only[dL]at hx⊢;have:¬g=s:=fun e=>hs e.symm
      rw[az this]at hx⊢;exact k2 x hx
    ·cases h
theorem adM{m0 g k n:Nat}{l l':List (Nat×bc)}{vs:LV}{el:TypeId}(h:K2 g k n l=some l')(hg:dL l g=some (.aL vs el))(hn:dL l n=none)(hk:k<=vs.length):
 pX m0 (aq l n) (aq (l'++[(n,.aL (vs.drop k) el)]) (n+1)) (fun φ bf=>φ n=none∧bf=ow g k n φ):=by
 obtain⟨k1,k2⟩:=aaJ h;refine⟨Nat.le_succ n,fun φ bs w de hw=>?_⟩;have de:m0<=n:=de;have acP:φ n=none:=by
  cases hp:φ n with
  |none=>rfl
  |some e=>have:=(hw.lt n e hp).2.2;exact absurd this (Nat.lt_irrefl n)
 have BU:n≠g:=by rintro rfl;rw[hg]at hn;cases hn
 have kF:∀id,(aq (l'++[(n,.aL (vs.drop k) el)]) (n+1)).bD id=(match dL l' id with|some x=>some x|none=>if id=n then some (.aL (vs.drop k) el)else none):=by intro id;rw[eA,Cm];rfl
 have oN:∀{id ob},(aq (l'++[(n,.aL (vs.drop k) el)]) (n+1)).bD id=some ob->(id=g∧ob=.bJ [])∨(id=n∧ob=.aL (vs.drop k) el)∨(id≠g∧id≠n∧∃gn,dL l id=some gn∧Bj g k n gn=some ob):=by
  intro id ob ho;rw[kF]at ho;by_cases h1:id=g
  ·subst h1;rw[k2 _ hg]at ho;cases ho;exact .inl ⟨rfl,rfl⟩
  ·by_cases h2:id=n
   ·subst h2;rw[(k1 id h1).1 hn]at ho;simp at ho;exact .inr (.inl ⟨rfl,ho.symm⟩)
   ·cases hl:dL l' id with
    |none=>rw[hl]at ho;simp[h2]at ho
    |some x=>rw[hl]at ho;cases ho;exact .inr (.inr ⟨h1,h2,(k1 id h1).2 _ hl⟩)
 have lH:∀id,(aq l n).bD id=dL l id:=eA l n;have IN:∀{id ob e},(aq (l'++[(n,.aL (vs.drop k) el)]) (n+1)).bD id=some ob->ob.aE=true->ow g k n φ id=some e->
  ∃j gn e0,(aq l n).bD j=some gn∧gn.aE=true∧φ j=some e0∧e0.b=e.b∧id=(if j=g then n else j):=by
  intro id ob e ho hl he;rcases oN ho with⟨h1,h2⟩|⟨h1,h2⟩|⟨h1,h2,gn,h3,h4⟩
  ·subst h2;cases hl
  ·subst h1;unfold ow at he;rw[aN rfl]at he;obtain⟨e0,h5,h6⟩:=Option.map_eq_some_iff.1 he;exact⟨g,_,e0,(lH g).trans hg,rfl,h5,by rw[←h6],by rw[aN rfl]⟩
  ·unfold ow at he;rw[az h2]at he;exact⟨id,gn,e,(lH id).trans h3,by rw[←ajg h4];exact hl,he,rfl,by rw[az h1]⟩
 refine⟨ow g k n φ,⟨?_,?_,?_,?_,hw.ro⟩,fun id dn=>?_,acP,rfl⟩
 ·intro id ob e ho he;rcases oN ho with⟨h1,h2⟩|⟨h1,h2⟩|⟨h1,h2,gn,h3,h4⟩
  ·subst h2;have hb:e.b<w.heap.size:=by
    unfold ow at he;split at he
    ·obtain⟨e0,h5,h6⟩:=Option.map_eq_some_iff.1 he;rw[←h6];exact(hw.lt _ e0 h5).1
    ·exact(hw.lt _ e he).1
   exact⟨w.heap[e.b]'hb,Array.getElem?_eq_getElem hb,trivial⟩
  ·subst h1 h2;unfold ow at he;rw[aN rfl]at he;obtain⟨e0,h5,rfl⟩:=Option.map_eq_some_iff.1 he;obtain⟨o,j1,cs,jB,rfl,cW,alJ,jc,wW⟩:=hw.fP g _ e0 ((lH g).trans hg) h5;refine⟨_,j1,cs,jB,rfl,cW,?_,?_,?_⟩
   ·simp only[List.length_drop];omega
   ·have:=Zv (k:=k) jc;rw[List.drop_take,List.drop_drop]at this;simpa using this
   ·rw[List.all_eq_true]at wW⊢;exact fun x hx=>wW x (List.mem_of_mem_drop hx)
  ·unfold ow at he;rw[az h2]at he;obtain⟨o,j1,j2⟩:=hw.fP id gn e ((lH id).trans h3) he;exact⟨o,j1,ajh acP h4 j2⟩
 ·intro id jH ob cp e e' h1 l1 h2 h3 l2 h4 hb;obtain⟨j,o,e0,a1,a2,a3,a4,rfl⟩:=IN h1 l1 h2;obtain⟨j',o',e0',b1,b2,b3,b4,rfl⟩:=IN h3 l2 h4;have:=hw.lW j j' o o' e0 e0' a1 a2 a3 b1 b2 b3 (by rw[a4,b4,hb]);rw[this]
 ·intro id e he;unfold ow at he;split at he
  ·rename_i h1;obtain⟨e0,h5,rfl⟩:=Option.map_eq_some_iff.1 he;have:=hw.lt _ e0 h5;exact⟨this.1,this.2.1,by subst h1;exact iz _⟩
  ·have:=hw.lt _ e he;exact⟨this.1,this.2.1,Nat.lt_succ_of_lt this.2.2⟩
 ·intro id ob ho;rcases oN ho with⟨h1,h2⟩|⟨h1,h2⟩|⟨h1,h2,gn,h3,h4⟩
  ·subst h1;exact Nat.lt_succ_of_lt (hw.nx id _ ((lH id).trans hg))
  ·subst h1;exact iz _
  ·exact Nat.lt_succ_of_lt (hw.nx id _ ((lH id).trans h3))
 ·unfold ow;rw[az (by omega)]
end
end Go.Ev
namespace Go.Ev
variable[Ro]
noncomputable section
def uR(g:Nat):AV->AV
 |.bB id off len cap sz ex=>bif Nat.beq id g&&Nat.beq off 0 then .ae id len sz else .bB id off len cap sz ex
 |a=>a
def C0(g:Nat):LV->LV
 |[]=>[]
 |a::l=>uR g a::C0 g l
def C_(g:Nat):bc->bc
 |.ay vs e=>.ay (C0 g vs) e
 |o=>o
def AZ(g:Nat)(new:bc):List (Nat×bc)->List (Nat×bc)
 |[]=>[]
 |(s,a)::l=>(s,bif Nat.beq s g then new else C_ g a)::AZ g new l
theorem XX{g:Nat}{φ:bu}{a:AV}{v:Value}(hv:VR φ a v):VR φ (uR g a) v:=by
 unfold uR;split
 ·rename_i id off len cap sz ex;cases hc:Nat.beq id g&&Nat.beq off 0
  ·exact hv
  ·simp only[cy]at hc;have h0:=eI hc.2;subst h0;simp only[cond_true];simp only[VR]at hv⊢;obtain⟨e,x,c,h1,h2,h3,h4,h5,h6⟩:=hv;exact .inr ⟨e,x,c,h1,h2,h3,h4,h6⟩
 ·exact hv
theorem av8(g:Nat)(a:AV):(uR g a).ec=a.ec:=by
 unfold uR;split
 ·rename_i id off len cap sz ex;cases hc:Nat.beq id g&&Nat.beq off 0<;>rfl
 ·rfl
theorem ag4{g:Nat}{φ:bu}:∀{l:LV} {vs:List Value},bm φ l vs->bm φ (C0 g l) vs
 |[],_,h=>h
 |a::l,_,h=>by obtain⟨v,eT,rfl,k1,k2⟩:=h;exact⟨v,eT,rfl,XX k1,ag4 k2⟩
theorem ag3(g:Nat):∀l:LV,(C0 g l).length=l.length∧(C0 g l).all AV.ec=l.all AV.ec
 |[]=>⟨rfl,rfl⟩
 |a::l=>by have:=ag3 g l;exact⟨by simp[C0,this.1],by simp[C0,this.2,av8]⟩
theorem awa{g:Nat}{φ:bu}{ob:bc}{e:PE}{o:Obj}(h:OR φ ob e o):OR φ (C_ g ob) e o:=by
 unfold C_;split
 ·rename_i vs mC;obtain⟨cs,el,h1,h2,h3,h4,h5⟩:=h;have ki:=ag3 g vs;exact⟨cs,el,h1,h2,by rw[ki.1];exact h3,by rw[ki.1];exact ag4 h4,by rw[ki.2];exact h5⟩
 ·exact h
theorem av9(g:Nat)(ob:bc):(C_ g ob).aE=ob.aE:=by unfold C_;split<;>rfl
theorem JJ{g:Nat}{new:bc}:∀{l:List (Nat×bc)} {id:Nat} {cp:bc},dL (AZ g new l) id=some cp->∃ob,dL l id=some ob∧((id=g∧cp=new)∨cp=C_ g ob)
 |[],id,cp,h=>by cases h
 |(s,a)::l,id,cp,h=>by
  simp only[AZ,dL]at h⊢;by_cases hi:id=s
  ·subst hi;rw[aN rfl]at h⊢;cases h;refine⟨a,rfl,?_⟩;cases hb:Nat.beq id g
   ·exact .inr rfl
   ·exact .inl ⟨eI hb,rfl⟩
  ·rw[az hi]at h⊢;exact JJ h
theorem Nk{m0 g n:Nat}{l:List (Nat×bc)}{old new:bc}(hg:dL l g=some old)(ho:∀φ e o,OR φ old e o->OR φ new e o)(nh:old.aE=true):
 pX m0 (aq l n) (aq (AZ g new l) n) (fun φ bf=>bf=φ):=by
 refine⟨eh n,fun φ bs w de hw=>⟨φ,⟨?_,?_,?_,?_,hw.ro⟩,fun _ _=>rfl,rfl⟩⟩
 ·intro id ob e h1 h2;rw[eA]at h1;obtain⟨gn,h3,h4⟩:=JJ h1;obtain⟨o,h5,h6⟩:=hw.fP id gn e (by rw[eA];exact h3) h2;refine⟨o,h5,?_⟩;rcases h4 with⟨rfl,rfl⟩|rfl
  ·rw[hg]at h3;cases h3;exact ho _ _ _ h6
  ·exact awa h6
 ·intro id jH ob cp e e' h1 l1 h2 h3 l2 h4 hb;rw[eA]at h1 h3;obtain⟨o1,k1,k2⟩:=JJ h1;obtain⟨o2,k3,k4⟩:=JJ h3;have aE:∀{id ob gn},dL l id=some gn->((id=g∧ob=new)∨ob=C_ g gn)->ob.aE=true->gn.aE=true:=by
   intro id ob gn q1 q2 q3;rcases q2 with⟨rfl,rfl⟩|rfl
   ·rw[hg]at q1;cases q1;exact nh
   ·rwa[av9]at q3
  exact hw.lW id jH o1 o2 e e' (by rw[eA];exact k1) (aE k1 k2 l1) h2 (by rw[eA];exact k3) (aE k3 k4 l2) h4 hb
 ·exact hw.lt
 ·intro id ob h1;rw[eA]at h1;obtain⟨o1,k1,_⟩:=JJ h1;exact hw.nx id o1 (by rw[eA];exact k1)
theorem zj{φ:bu}{vs:LV}{el jB:TypeId}(hp:vs.all je=true){e:PE}{o:Obj}(h:OR φ (.ay vs el) e o):OR φ (.aL vs jB) e o:=by obtain⟨cs,mC,h1,h2,h3,h4,h5⟩:=h;exact⟨cs,mC,h1,h2,h3,bm.sJ _ _ (by rw[yS];exact hp) h4,h5⟩
theorem ahm{φ:bu}{vs:LV}{el jB:TypeId}(k:Nat){e:PE}{o:Obj}(h:OR φ (.aL vs el) e o):OR φ (.aL (vs.take k) jB) e o:=by
 obtain⟨cs,mC,h1,h2,h3,h4,h5⟩:=h;refine⟨cs,mC,h1,h2,?_,?_,?_⟩
 ·simp only[List.length_take];omega
 ·have:=Zw (k:=k) h4;rw[List.take_take]at this;simpa using this
 ·rw[List.all_eq_true]at h5⊢;exact fun x hx=>h5 x (List.mem_of_mem_take hx)
end
end Go.Ev
namespace Go.Ev
variable[Ro]
noncomputable section
theorem adL{g i:Nat}{a':AV}:∀{l:List (Nat×AV)},(bk (l.map fun x=>(x.1,uR g x.2))).cb i=some a'->∃a,(bk l).cb i=some a∧a'=uR g a
 |[],h=>by rw[sj]at h;cases h
 |(s,b)::l,h=>by
  rw[sj]at h;rw[sj];simp only[List.map_cons,xu]at h⊢;by_cases hs:i=s
  ·rw[aN hs]at h⊢;cases h;exact⟨b,rfl,rfl⟩
  ·rw[az hs]at h⊢;rw[←sj]at h⊢;exact adL h
theorem alr{ds:List iZ}{P:Program}{f nt m0 g n:Nat}{v:AV}{H1:AH}{T:List (Nat×AV)}{l:List (Nat×bc)}{old new:bc}{todo:List cg}
 (h:mY ds P f nt m0 v H1 (bk (T.map fun x=>(x.1,uR g x.2))) (aq (AZ g new l) n) todo) (hg:dL l g=some old) (ho:∀φ e o,OR φ old e o->OR φ new e o) (nh:old.aE=true) (hp:nH todo=true) (nf:wM m0 ds):
 mY ds P f nt m0 v H1 (bk T) (aq l n) todo:=by
 refine L6 (nf:=nf) h (Nk hg ho nh) hp (fun φ bf hR i a' hi=>?_);subst hR;obtain⟨a,h1,rfl⟩:=adL hi;exact⟨a,h1,fun x hx=>XX hx⟩
theorem L8{P:Program}{f nt m0 g n:Nat}{v:AV}{H1:AH}{T:List (Nat×AV)}{l:List (Nat×bc)}{old new:bc}{todo:List cg}
 (h:bF P f nt m0 v H1 (bk (T.map fun x=>(x.1,uR g x.2))) (aq (AZ g new l) n) todo) (hg:dL l g=some old) (ho:∀φ e o,OR φ old e o->OR φ new e o) (nh:old.aE=true) (hp:nH todo=true):
 bF P f nt m0 v H1 (bk T) (aq l n) todo:=
 alr h hg ho nh hp (DU _)
theorem K'{P:Program}{f:FuncId}{args:LV}{H0:AH}{v:AV}{g n:Nat}{l:List (Nat×bc)}{old new:bc}(h:eC P f args H0 v (aq l n))(hg:dL l g=some old)(ho:∀φ e o,OR φ old e o->OR φ new e o)(nh:old.aE=true)(de:H0.bW<=n):
 eC P f args H0 (uR g v) (aq (AZ g new l) n):=
 K_ h (Nk hg ho nh) de (fun φ bf hR x hx=>by subst hR;exact XX hx)
theorem FB{m0 n:Nat}{l:List (Nat×bc)}(ob:bc)(hn:dL l n=none):pX m0 (aq l n) (aq (l++[(n,ob)]) (n+1)) (fun φ bf=>bf=φ):=by
 refine⟨Nat.le_succ n,fun φ bs w de hw=>⟨φ,⟨?_,?_,?_,?_,hw.ro⟩,fun _ _=>rfl,rfl⟩⟩;all_goals
  have hφ:φ n=none:=by
   cases hp:φ n with
   |none=>rfl
   |some e=>exact absurd (hw.lt n e hp).2.2 (Nat.lt_irrefl n)
 all_goals
  have gE:∀{id cp e},(aq (l++[(n,ob)]) (n+1)).bD id=some cp->φ id=some e->(aq l n).bD id=some cp:=by
   intro id cp e h1 h2;rw[eA,Cm]at h1;rw[eA];cases hl:dL l id with
   |some x=>rw[hl]at h1;exact h1
   |none=>
    rw[hl]at h1;simp only[dL]at h1;split at h1
    ·rename_i dn;rw[dn,hφ]at h2;cases h2
    ·cases h1
 ·intro id cp e h1 h2;exact hw.fP id cp e (gE h1 h2) h2
 ·intro id jH o o' e e' h1 l1 h2 h3 l2 h4 hb;exact hw.lW id jH o o' e e' (gE h1 h2) l1 h2 (gE h3 h4) l2 h4 hb
 ·intro id e h1;have:=hw.lt id e h1;exact⟨this.1,this.2.1,Nat.lt_succ_of_lt this.2.2⟩
 ·intro id cp h1;rw[eA,Cm]at h1;cases hl:dL l id with
  |some x=>exact Nat.lt_succ_of_lt (hw.nx id x (by rw[eA];exact hl))
  |none=>
   rw[hl]at h1;simp only[dL]at h1;split at h1
   ·rename_i dn;rw[dn];exact iz n
   ·cases h1
theorem rL{φ:bu}{i sz:Nat}{x:Value}(h:VR φ .bg x):VR φ (.ae i 0 sz) x:=by simp only[VR]at h⊢;exact .inl ⟨trivial,h⟩
theorem ajE{P:Program}{f:FuncId}{args:LV}{H0:AH}{n sz:Nat}{l:List (Nat×bc)}{t:TypeId}(h:eC P f args H0 .bg (aq l n))(hn:dL l n=none)(de:H0.bW<=n):
 eC P f args H0 (.ae n 0 sz) (aq (l++[(n,.aL [] t)]) (n+1)):=
 K_ h (FB _ hn) de (fun φ bf hR x hx=>by subst hR;exact rL hx)
def At(n sz:Nat)(xF:LN):List (Nat×AV)->List (Nat×AV)
 |[]=>[]
 |(s,a)::l=>(s,match a with|.bg=>bif xF.any (Nat.beq s)then .ae n 0 sz else .bg|a=>a)::At n sz xF l
theorem ad0{n sz i:Nat}{xF:LN}{a':AV}:∀{l:List (Nat×AV)},(bk (At n sz xF l)).cb i=some a'->∃a,(bk l).cb i=some a∧∀φ x,VR φ a x->VR φ a' x
 |[],h=>by rw[sj]at h;cases h
 |(s,b)::l,h=>by
  rw[sj]at h;rw[sj];simp only[At,xu]at h⊢;by_cases hs:i=s
  ·rw[aN hs]at h⊢;refine⟨b,rfl,fun φ x hx=>?_⟩;split at h
   ·cases hc:xF.any (Nat.beq s)
    ·rw[hc]at h;cases h;exact hx
    ·rw[hc]at h;cases h;exact rL hx
   ·cases h;exact hx
  ·rw[az hs]at h⊢;rw[←sj]at h⊢;exact ad0 h
theorem alo{ds:List iZ}{P:Program}{f nt m0 n:Nat}{v:AV}{H1:AH}{T:List (Nat×AV)}{l:List (Nat×bc)}{todo:List cg}(sz:Nat)(t:TypeId)(xF:LN)
 (h:mY ds P f nt m0 v H1 (bk (At n sz xF T)) (aq (l++[(n,.aL [] t)]) (n+1)) todo) (hn:dL l n=none) (hp:nH todo=true) (nf:wM m0 ds):
 mY ds P f nt m0 v H1 (bk T) (aq l n) todo:=by
 refine L6 (nf:=nf) h (FB _ hn) hp (fun φ bf hR i a' hi=>?_);subst hR;obtain⟨a,h1,h2⟩:=ad0 hi;exact⟨a,h1,fun x hx=>h2 _ x hx⟩
theorem xa{P:Program}{f nt m0 n:Nat}{v:AV}{H1:AH}{T:List (Nat×AV)}{l:List (Nat×bc)}{todo:List cg}(sz:Nat)(t:TypeId)(xF:LN)
 (h:bF P f nt m0 v H1 (bk (At n sz xF T)) (aq (l++[(n,.aL [] t)]) (n+1)) todo) (hn:dL l n=none) (hp:nH todo=true):
 bF P f nt m0 v H1 (bk T) (aq l n) todo:=
 alo sz t xF h hn hp (DU _)
theorem L7{ds:List iZ}{P:Program}{f nt m0:Nat}{v:AV}{H1 H H':AH}{t:Tr AV}{todo:List cg}(h:mY ds P f nt m0 v H1 t H' todo)(hm:pX m0 H H' (fun φ bf=>bf=φ))(hp:nH todo=true)(nf:wM m0 ds):mY ds P f nt m0 v H1 t H todo:=
 L6 (nf:=nf) h hm hp (fun φ bf hR i a' hi=>by subst hR;exact⟨a',hi,fun x hx=>hx⟩)
theorem BQ{P:Program}{f nt m0:Nat}{v:AV}{H1 H H':AH}{t:Tr AV}{todo:List cg}(h:bF P f nt m0 v H1 t H' todo)(hm:pX m0 H H' (fun φ bf=>bf=φ))(hp:nH todo=true):bF P f nt m0 v H1 t H todo:=
 L7 h hm hp (DU _)
theorem apl{P:Program}{l:Nat}{a:AV}{H0 H H1:AH}{v v1:AV}{R:bu->bu->Prop}(h:zl P l a H0 v H)(hm:pX H0.bW H H1 R)(de:H0.bW<=H.bW)(hv:∀φ bf,R φ bf->∀x,VR φ v x->VR bf v1 x):zl P l a H0 v1 H1:=by obtain⟨st,pe,fn,tmps,nt,p,assign,body,d,fr,h1,h2,h3⟩:=h;refine⟨st,pe,fn,tmps,nt,p,assign,body,d,fr,h1,h2,fun φ w bs cJ cs hw hl hf=>?_⟩;obtain⟨bf,w',g1,g2,g3,g4⟩:=h3 φ w bs cJ cs hw hl hf;obtain⟨hn,hm⟩:=hm;obtain⟨sD,k1,k2,k3⟩:=hm bf bs w' de g1;refine⟨sD,w',k1,fun id dn=>(k2 id dn).trans (g2 id dn),g3,?_⟩;intro c cs' lF;obtain⟨v',j1,j2⟩:=g4 c cs' lF;exact⟨v',hv _ _ k3 _ j1,j2⟩
theorem anx{m0 g:Nat}{H H1:AH}(hm:Mv H H1 g):pX m0 H H1 (fun φ bf=>bf=fun i=>if i=H.bW then φ g else φ i):=
 ⟨by rw[hm.next];omega,fun φ bs w de hw=>⟨_,(hm.wr hw).1,fun id dn=>az (by omega),rfl⟩⟩
theorem apm{P:Program}{l:Nat}{a:AV}{H0 H H1:AH}{b:Bool}{g:Nat}(h:zl P l a H0 (.aA b) H)(hm:Mv H H1 g)(hn:H0.bW<=H.bW):zl P l a H0 (.aA b) H1:=
 apl h (anx hm) hn (fun φ bf _ x hx=>by simpa[VR]using hx)
def Ct(n sz:Nat):LV->LV
 |[]=>[]
 |.bg::l=>.ae n 0 sz::Ct n sz l
 |a::l=>a::Ct n sz l
theorem adZ{φ:bu}{n sz:Nat}:∀{l:LV} {vs:List Value},bm φ l vs->bm φ (Ct n sz l) vs
 |[],vs,h=>h
 |a::l,vs,h=>by
  obtain⟨v,eT,rfl,h1,h2⟩:=h;have:=adZ (n:=n) (sz:=sz) h2;cases a<;>first
   |exact⟨v,eT,rfl,rL h1,this⟩
   |exact⟨v,eT,rfl,h1,this⟩
theorem adY(n sz:Nat):∀l:LV,(Ct n sz l).length=l.length∧(Ct n sz l).all AV.ec=l.all AV.ec
 |[]=>⟨rfl,rfl⟩
 |a::l=>by have:=adY n sz l;cases a<;>simp[Ct,this,AV.ec]
theorem axw{m0 g n sz:Nat}{l l':List (Nat×bc)}{vs:LV}{el t:TypeId}(hg:dL l g=some (.ay vs el))(hl:∀id,dL l' id=if id=g then some (.ay (Ct n sz vs) el)else dL l id)(hn:dL l n=none):
 pX m0 (aq l n) (aq (l'++[(n,.aL [] t)]) (n+1)) (fun φ bf=>bf=φ):=by
 have BU:g≠n:=by rintro rfl;rw[hg]at hn;cases hn
 have Ue:dL l' n=none:=by rw[hl,az (Ne.symm BU)];exact hn
 have h1:=FB (m0:=m0) (n:=n) (l:=l') (.aL [] t) Ue;refine⟨Nat.le_succ n,fun φ bs w de hw=>?_⟩;have tc:WR φ bs (aq l' n) w:=by
  refine⟨?_,?_,hw.lt,?_,hw.ro⟩
  ·intro id ob e k1 k2;rw[eA,hl]at k1;by_cases dn:id=g
   ·rw[aN dn]at k1;cases k1;obtain⟨o,q1,q2⟩:=hw.fP id _ e (by rw[eA,dn];exact hg) k2;refine⟨o,q1,?_⟩;obtain⟨cs,jB,rfl,a1,a2,a3,a4⟩:=q2;have bH:=adY n sz vs;exact⟨cs,jB,rfl,a1,by rw[bH.1];exact a2,by rw[bH.1];exact adZ a3,by rw[bH.2];exact a4⟩
   ·rw[az dn]at k1;exact hw.fP id ob e (by rw[eA];exact k1) k2
  ·have oN:∀{id ob},(aq l' n).bD id=some ob->ob.aE=true->∃gn,(aq l n).bD id=some gn∧gn.aE=true:=by
    intro id ob k1 k2;rw[eA,hl]at k1;by_cases dn:id=g
    ·exact⟨_,by rw[eA,dn];exact hg,rfl⟩
    ·rw[az dn]at k1;exact⟨ob,by rw[eA];exact k1,k2⟩
   intro id jH ob cp e e' k1 l1 k2 k3 l2 k4 hb;obtain⟨o1,q1,q2⟩:=oN k1 l1;obtain⟨o2,q3,q4⟩:=oN k3 l2;exact hw.lW id jH o1 o2 e e' q1 q2 k2 q3 q4 k4 hb
  ·intro id ob k1;rw[eA,hl]at k1;by_cases dn:id=g
   ·rw[dn];exact hw.nx g (.ay vs el) (by rw[eA];exact hg)
   ·rw[az dn]at k1;exact hw.nx id ob (by rw[eA];exact k1)
 exact h1.2 φ bs w de tc
end
end Go.Ev
