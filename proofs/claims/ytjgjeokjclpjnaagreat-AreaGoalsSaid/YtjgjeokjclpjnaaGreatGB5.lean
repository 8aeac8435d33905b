/- Part of a proof of AreaGoals. -/
import Derived.Test.YtjgjeokjclpjnaaGreatGB4
set_option linter.all false
set_option linter.unusedSectionVars false
set_option maxRecDepth 100000
namespace Go.Cl
open Go.Ev Go.Proofs
noncomputable section
structure vE(l:List gj):Prop where
 ij:l.length<=3000000
 cf:ki l<=3000000
 ok:∀p∈l,∀s∈p.cf,ub s.c
structure EcA where
 z:Ar
 b:Bool
 nx:Int
 l:List gj
def agZ:cq EcA where
 bh w A H:=A=[.ai [J w.nx,.ah (fW w.l) w.l.length 4],.bn (.func 24) [] [.aa 0 0,.aa 1 0]]/\H=nJ w.z w.b/\w.z.nq=[]/\vE w.l
 v w:=.aC []
 aK w:=nJ w.z w.b
theorem asd:agZ.ck:=by rintro⟨z,b,nx,l⟩ ⟨z',b',nx',l'⟩ A H ⟨_,h2,_⟩ ⟨_,h4,_⟩;have⟨e1,e2⟩:=aiL (h2.symm.trans h4);subst e1 e2;rfl
structure EcB where
 st:S3
 tr:Bool
 nx:Int
 l:List gj
 aI:S3
def ag0:cq EcB where
 bh w A H:=A=[.ai [J w.nx,.ah (fW w.l) w.l.length 4],uN]/\H=Pm w.st w.tr/\w.st.z.fo=[]/\(w.st.aW=[]/\w.st.cP=[])/\vE w.l/\uL (λst _ s=>jJ w.tr st s) w.st w.l=w.aI
 v w:=.aC []
 aK w:=BM w.tr w.aI
theorem asf:ag0.ck:=by rintro⟨st,tr,nx,l,aI⟩ ⟨jT,BE,nx',l',ahR⟩ A H ⟨h1,h2,_,_,_,q1⟩ ⟨h3,h4,_,_,_,q2⟩;have⟨e1,e2,e3,e4,_,e5,_⟩:=aiM (h2.symm.trans h4);rw[h1]at h3;simp at h3;have e6:=LQ h3.2.2 h3.2.1;have e7:=zQ e4;have e8:=YK e5;have⟨z,e,aW,cP⟩:=st;have⟨z',e',zt,aqN⟩:=jT;subst e1 e2 e3 e6 e7 e8;rw[q1]at q2;subst q2;rfl
structure EcC where
 st:S5
 nx:Int
 l:List gj
 aI:S5
def ag1:cq EcC where
 bh w A H:=A=[.ai [J w.nx,.ah (fW w.l) w.l.length 4],y7]/\H=rI w.st.z (qu w.st.th) w.st.th.length/\Bd 0 w.st/\vE w.l/\qR w.st w.l=w.aI
 v w:=.aC []
 aK w:=rI w.aI.z (qu w.aI.th) w.aI.th.length
theorem aso:ag1.ck:=by rintro⟨st,nx,l,aI⟩ ⟨jT,nx',l',ahR⟩ A H ⟨h1,h2,k1,_,q1⟩ ⟨h3,h4,k2,_,q2⟩;have⟨e1,e2,_⟩:=aiN (h2.symm.trans h4);rw[h1]at h3;simp at h3;have e6:=LQ h3.2.2 h3.2.1;have e7:=adq 0 e2;have⟨z,m,th⟩:=st;have⟨z',m',UW⟩:=jT;subst e1 e6 e7;have e3:=QJ (k:=⟨m,z.nc,z.X,z.xc⟩) (k':=⟨m',z.nc,z.X,z.xc⟩) rfl k1.2 k2.2 (k1.1.symm.trans k2.1);subst e3;rw[q1]at q2;subst q2;rfl
def agX:LV->AH->Option Sp:=λA H=>match A with
 |[_,.bn (.func 24) _ _]=>bW agZ asd lS A H
 |[_,.bn (.func 26) _ _]=>bW ag0 asf lS A H
 |[_,.bn (.func 54) _ _]=>bW ag1 aso lS A H
 |_=>none
def ED:Ev.bp:=bR 23 agX KU
def wy:Nat->LN:=fh [(4,[2,3,4,17,18,19]),(11,[2,4,7,40]),(16,[1000000]),(999998,[2,4,7,40])]
def Xw:List dZ->List dZ
 |.ik ops i (_::rest)::k=>.ik ops (Nat.succ i) rest::k
 |l=>l
def Zw(z:Ar)(dT:ES)(nc:Nat)(nx:Int)(ps:LV)(np:Nat)(th:ES)(tc:Nat):AH:=bU z.X z.xc [(0,dS z 1 2 3 10 5 6),(1,cQ z),(2,dz z),(3,dx z),(4,.aY dT nc true),(5,dG z),(6,cJ z),(7,.al [.aa 0 0] 25),(8,ke nx ps np),(9,.al [.aB 11] 74),(10,dg z),(11,.aY th tc true)] 12
def uP(z:Ar)(dT:ES)(nc:Nat)(th:ES)(tc:Nat)(bK:LN):AH:=bU z.X z.xc [(0,dS z 1 2 3 10 5 6),(1,cQ z),(2,dz z),(3,dx z),(4,.aY dT nc true),(5,dG z),(6,cJ z),(7,.al [.aa 0 0] 25),(8,.al [.aB 11] 74),(9,.jg (some 2) z.cc bK z.cc),(10,dg z),(11,.aY th tc true)] 12
abbrev OF(x0:_)(x1:_)(x2:_):=bg [(2,.aa 7 0),(3,.aa 8 0),(4,.aa 9 0),(17,.ah x0 x1 4),(18,J (aP x1)),(19,J x2)]
theorem aDL{z nx ps np L Q}:
 bC Z ED wy L Q 1000 31 [.aa 0 0,.ai [J nx,.ah ps np 4]] (hA z)=(
 L (OF ps np 0) (bU z.X z.xc [(0,dS z 1 2 3 10 5 6),(1,cQ z),(2,dz z),(3,dx z),(4,dg z),(5,dG z),(6,cJ z),(7,.al [.aa 0 0] 25),(8,ke nx ps np),(9,.al [.aB 11] 74),(10,.aY [] 0 false),(11,.aY [] 0 true)] 12) (ax Z 31 0)):=by kernel_rfl
abbrev OG:=bg [(2,.aa 7 0),(4,.aa 8 0),(7,.aM),(40,.aa 9 0)]
theorem anH{z dT nc nx ps np th tc i L Q}:
 cg Z ED wy L Q 1000 31 7 (OF ps np i) (ax Z 31 0) (Zw z dT nc nx ps np th tc)=(
 aw (decide (i<aP np)) (∃aJ:Nat,i=(aJ:Int)/\aJ<np/\(∃s n b cs len,((ps.drop (aJ*4)).take 4:List AV)=[.ad s,J n,.au b,.ah cs len 9]/\(∃bJ c',j9 Z 39 z.dT z.nc (.ai [.ad s,J n,J 0]) .aM=some (bJ,c')/\L (OF ps np (wI (i+1))) (bU z.X z.xc [(0,dS z 1 2 3 10 5 6),(1,cQ z),(2,dz z),(3,dx z),(4,.aY dT nc true),(5,dG z),(6,cJ z),(7,.al [.aa 0 0] 25),(8,ke nx ps np),(9,.al [.aB 11] 74),(10,.aY bJ c' true),(11,.aY th tc true)] 12) (ax Z 31 0)))) (∃w:EcC,(([.ai [J nx,.ah ps np 4],.bn (.func 54) [] [.aa 0 0,.aa 1 0]]:LV)=[.ai [J w.nx,.ah (fW w.l) w.l.length 4],.bn (.func 54) [] [.aa 0 0,.aa 1 0]]/\rI z th tc=BN w.st/\Bd 0 w.st/\vE w.l/\qR w.st w.l=w.aI)/\L (OG) (bU w.aI.z.X w.aI.z.xc [(0,dS w.aI.z 1 2 3 10 5 6),(1,cQ w.aI.z),(2,dz w.aI.z),(3,dx w.aI.z),(4,.aY dT nc true),(5,dG w.aI.z),(6,cJ w.aI.z),(7,.al [.aa 0 0] 25),(8,.al [.aB 11] 74),(9,bf.jg (some 2) w.aI.z.cc [] w.aI.z.cc),(10,dg w.aI.z),(11,.aY (qu w.aI.th) w.aI.th.length true)] 12) (ax Z 31 1))):=by kernel_rfl
theorem aDK{z dT nc th tc bK L Q}:
 cg Z ED wy L Q 1000 31 7 (OG) (ax Z 31 1) (uP z dT nc th tc bK)=(
 L (OG) (bU z.X z.xc [(0,dS z 1 2 3 10 5 6),(1,cQ z),(2,dz z),(3,dx z),(4,.aY dT nc true),(5,dG z),(6,cJ z),(7,.al [.aa 0 0] 25),(8,.al [.aB 11] 74),(9,bf.jg (some 2) z.cc bK z.cc),(10,dg z),(11,.aY th tc true)] 12) (cM Z wy 31 0)):=by kernel_rfl
abbrev UI(x0:_):=bg [(2,.aa 7 0),(4,.aa 8 0),(7,.aM),(40,.aa 9 0),(41,.aC x0)]
theorem aDN{z dT nc th tc bK a v L Q}:
 cg Z ED wy L Q 1000 31 7 (UI [.au true,a,v]) (Xw (cM Z wy 31 0)) (uP z dT nc th tc bK)=(
 ∃n v_1,Fs (iG (Tr.gz (bg [(2,AV.aa 7 0),(4,AV.aa 8 0),(7,AV.aM),(40,AV.aa 9 0),(41,AV.aC [AV.au true,a,v])]) 42 (AV.au true))) (uP z dT nc th tc bK) (Operand.tmp 40)=some (Go.Ev.iT.gU (.aC [J n,v_1]) (uP z dT nc th tc bK))/\(∃b gA,eZ Z 2 4 th (J n)=some (.au b,gA)/\aw (!b) (L (bg [(2,.aa 7 0),(4,.aa 8 0),(7,.aj 9 1 1),(40,.aa 10 0)]) (bU z.X z.xc [(0,dS z 1 2 3 11 5 6),(1,cQ z),(2,dz z),(3,dx z),(4,.aY dT nc true),(5,dG z),(6,cJ z),(7,.al [.aa 0 0] 25),(8,.al [.aB 12] 74),(9,.al [J n] 2),(10,bf.jg (some 2) z.cc bK z.cc),(11,dg z),(12,.aY th tc true)] 13) (ax Z 31 1)) (L (OG) (bU z.X z.xc [(0,dS z 1 2 3 10 5 6),(1,cQ z),(2,dz z),(3,dx z),(4,.aY dT nc true),(5,dG z),(6,cJ z),(7,.al [.aa 0 0] 25),(8,.al [.aB 11] 74),(9,bf.jg (some 2) z.cc bK z.cc),(10,dg z),(11,.aY th tc true)] 12) (ax Z 31 1)))):=by kernel_rfl
abbrev ZL(x0:_)(x1:_)(x2:_)(x3:_)(x4:_)(x5:_):=bU x0 x1 [(0,dS x2 1 2 3 7 5 6),(1,cQ x2),(2,dz x2),(3,dx x2),(4,.aY x3 x4 x5),(5,dG x2),(6,cJ x2),(7,dg x2)] 8
theorem aDM{z dT nc th tc bK L Q}:
 cg Z ED wy L Q 1000 31 7 (UI [.au false]) (Xw (cM Z wy 31 0)) (uP z dT nc th tc bK)=(
 Q (.aC []) (ZL z.X z.xc z dT nc true)):=by kernel_rfl
theorem EE:aS Z ED:=by
 refine xp Hk λargs H sp p v H' hs hd hp=>?_
 unfold agX at hs;have key:∀{W:Type} {e:cq W} {one:e.ck},bW e one lS args H=some sp->∃w,(p,v,H')=(e.bh w args H,e.v w,e.aK w):=by intro W e one h;have⟨_,h⟩:=Lu h;cases h;exact HT hd
 split at hs
 .have⟨⟨z,b,nx,l⟩,e⟩:=key hs;cases e;obtain⟨h1,rfl,h2,h3⟩:=hp;rw[h1];exact ase (d:=⟨nx,l⟩) h2 (kQ h3.ij (by decide)) (λp hp=>kQ (Qo hp) (kQ h3.cf (by decide)))
 .have⟨⟨st,tr,nx,l,aI⟩,e⟩:=key hs;cases e;obtain⟨h1,rfl,h2,h3,h4,h5⟩:=hp;rw[h1];exact asg h2 h3 h4.ij h4.cf h4.ok h5
 .have⟨⟨st,nx,l,aI⟩,e⟩:=key hs;cases e;obtain⟨h1,rfl,h2,h3,h4⟩:=hp;rw[h1];exact(asp h2 h3.ij h3.cf h4).1
 .cases hs
def aaI(d it:Nat):List dZ->Bool
 |.ik _ _ (o::_)::_=>(match o.op with|.next (.tmp t) false=>Nat.beq t it|_=>false)&&(match o.guard with|none=>true|some _=>false)&&(match o.dst with|some x=>Nat.beq x d|none=>false)
 |_=>false
theorem av1{d it l}(h:aaI d it l=true):∃ops i o rest k,l=.ik ops i (o::rest)::k/\o.op=.next (.tmp it) false/\o.guard=none/\o.dst=some d:=by
 unfold aaI at h;split at h;next ops i o rest k=>
  simp at h;refine⟨ops,i,o,rest,k,rfl,?_,?_,?_⟩
  .have:=h.1.1;split at this;next t ht=>rw[ht,dw this]
   .cases this
  .have:=h.1.2;split at this;next hg=>exact hg
   .cases this
  .have:=h.2;split at this;next x hx=>rw[hx,dw this]
   .cases this
 .cases h
theorem QF{β ev}:∀{l:List (Int×β)} {k e},e∈bO ev k l->∃x∈l,e.1=J x.1/\k<=e.2.2/\e.2.2<k+l.length
 |(i,x)::l,k,e,h=>by
  simp only[bO,dK]at h;rcases h with rfl|h
  .exact⟨(i,x),dY ..,rfl,cE _,by simp only[ei];omega⟩
  .have⟨y,h1,h2,h3,h4⟩:=QF h;exact⟨y,en _ h1,h2,by omega,by simp;omega⟩
theorem ahg{β ev}:∀{l:List (Int×β)} {k e},e∈bO ev k l->(bO ev k l).find? (λx=>Nat.beq x.2.2 e.2.2)=some e
 |(i,x)::l,k,e,h=>by
  simp only[bO,dK]at h;simp only[bO,List.find?_cons];rcases h with rfl|h
  .simp
  .have⟨_,_,_,h3,_⟩:=QF h;have:Nat.beq k e.2.2=false:=by
    cases hb:Nat.beq k e.2.2 with
    |false=>rfl
    |true=>have:=dw hb;omega
   rw[this];exact ahg h
theorem awA{es bK e}(h:e∈Ev.rQ es bK):(Ev.rQ es (bK++[e.2.2])).length<(Ev.rQ es bK).length:=by
 have:Ev.rQ es (bK++[e.2.2])=(Ev.rQ es bK).filter λx=> !Nat.beq x.2.2 e.2.2:=by simp only[Ev.rQ,List.filter_filter];congr 1;funext x;simp;rw[Bool.and_comm]
 rw[this];refine List.length_filter_lt_length_iff_exists.2 ⟨e,h,?_⟩;simp
theorem auU{z dT th nc tc bK e t n}(ht:t.bZ 40=some (.aa 9 0))(hf:z.fo.find? (λx=>Nat.beq x.2.2 e.2.2)=some e)(hn:e.1=J n):
 Fs (iG t) (uP z dT nc th tc (bK++[e.2.2])) (.tmp 40)=some (.gU (.aC [J n,e.2.1]) (uP z dT nc th tc (bK++[e.2.2]))):=by
 have h1:iG t (.tmp 40)=some (.aa 9 0):=ht;have h2:(uP z dT nc th tc (bK++[e.2.2])).bc 9=some (.jg (some 2) z.cc (bK++[e.2.2]) z.cc):=by kernel_rfl
 have h3:(uP z dT nc th tc (bK++[e.2.2])).bc 2=some (.aY z.fo z.cc true):=by kernel_rfl
 simp only[Fs,h1,h2,YX,List.getLast?_append,List.getLast?_singleton,Option.some_or,h3,lC,cond_true,hf,hn]
theorem ah4{z dT nc th cm}(kv:z.fo=bO (λn=>.fw n 0) 0 cm)(jN:z.cc=cm.length)(hth:∀x∈cm,lk x.1 th=some true):∀n bK,(Ev.rQ z.fo bK).length<n->
 bu Z 31 78 7 (.aC []) (ZL z.X z.xc z dT nc true) (OG) (uP z dT nc (qu th) th.length bK) (ax Z 31 1)
 |0,bK,h=>by omega
 |n+1,bK,h=>by
  refine hD EE wy ?_;refine cast (@aDK z dT nc (qu th) th.length bK _ _).symm ?_;have avu:aaI 41 40 (cM Z wy 31 0)=true:=by kernel_rfl
  obtain⟨ops,i,o,rest,k,hs,ho,hg,hd⟩:=av1 avu;have aiV:Xw (cM Z wy 31 0)=.ik ops (Nat.succ i) rest::k:=by rw[hs];rfl
  have ay:∀e∈z.fo,e.2.2<z.cc:=by intro e he;rw[kv]at he;have⟨x,_,_,_,h4⟩:=QF he;omega
  have hc:(!bK.isEmpty&& !z.fo.isEmpty&&z.fo.all (λe=>Nat.ble z.cc e.2.2))=false:=by
   cases hz:z.fo with
   |nil=>simp
   |cons e es=>
    have:=ay e (by rw[hz];exact dY ..);have h2:Nat.ble z.cc e.2.2=false:=by
     cases hb:Nat.ble z.cc e.2.2 with
     |false=>rfl
     |true=>have:=pE hb;omega
    simp[h2]
  rw[hs];refine axm (r:=9) (mm:=2) (since:=z.cc) (last:=z.cc) (clock:=z.cc) (p:=true) iJ ho hg hd (by decide) (by kernel_rfl) (by kernel_rfl) (by kernel_rfl) hc ay ?_ ?_
  .intro _;rw[<-aiV,show Tr.gz (bg [(2,AV.aa 7 0),(4,.aa 8 0),(7,.aM),(40,.aa 9 0)]) 41 (.aC [.au false])=UI [.au false]by kernel_rfl];refine hD EE wy ?_;exact cast (@aDM z dT nc (qu th) th.length bK _ _).symm ⟨rfl,rfl⟩
  .intro e he;have jd:=(zN.1 he).1;have aae:=jd;rw[kv]at aae;have⟨x,hx,hn,_,_⟩:=QF aae;have hf:z.fo.find? (λx=>Nat.beq x.2.2 e.2.2)=some e:=by rw[kv];exact ahg aae
   have hm:=awA he;have ih:=ah4 (dT:=dT) (nc:=nc) kv jN hth n (bK++[e.2.2]) (by omega);have aao:(uP z dT nc (qu th) th.length bK).cV 9 (.jg (some 2) z.cc (bK++[e.2.2]) z.cc)=uP z dT nc (qu th) th.length (bK++[e.2.2]):=by kernel_rfl
   rw[<-aiV,show Tr.gz (bg [(2,AV.aa 7 0),(4,.aa 8 0),(7,.aM),(40,.aa 9 0)]) 41 (.aC [.au true,e.1,e.2.1])=UI [.au true,e.1,e.2.1]by kernel_rfl];show bu Z 31 78 7 _ _ _ ((uP z dT nc (qu th) th.length bK).cV 9 (.jg (some 2) z.cc (bK++[e.2.2]) z.cc)) _;rw[aao];refine hE EE aDN ?_;refine⟨x.1,e.2.1,auU (by kernel_rfl) hf hn,true,true,?_,aD (λh=>(by cases h)) λ_=>ih⟩;rw[qu,pv AV.au jy,hth x hx]
theorem aB2{m c p}(h:eC p m=none):j9 Z 39 (ep m) c (mj p) .aM=some (ep (m++[⟨p,0,[],c⟩]),c+1):=by
 unfold j9;rw[Im];rw[<-M5 p m 0]at h;cases h2:sP p m 0 with
 |some x=>rw[h2]at h;cases h
 |none=>simp only[Option.map_none,ep,qp];rfl
def rT:Nat->List gj->List En
 |_,[]=>[]
 |k,p::l=>⟨lz p,0,[],k⟩::rT (k+1) l
theorem ak9:∀l k p,rT k (l++[p])=rT k l++[⟨lz p,0,[],k+l.length⟩]
 |[],k,p=>rfl
 |x::l,k,p=>by simp only[oC,rT,ak9 l (k+1) p,ei];rw[show k+1+l.length=k+(l.length+1)by omega]
theorem Bj:∀{l k e},e∈rT k l->(∃p∈l,e.p=lz p)/\e.n=0/\e.aW=[]/\k<=e.b/\e.b<k+l.length
 |x::l,k,e,h=>by
  rcases dK.1 h with rfl|h
  .exact⟨⟨x,dY ..,rfl⟩,rfl,rfl,cE _,by simp only[ei];omega⟩
  .have⟨⟨p,h1,h2⟩,h3,h4,h5,h6⟩:=Bj h;exact⟨⟨p,en _ h1,h2⟩,h3,h4,by omega,by simp;omega⟩
theorem ag7{p}:∀{m},(∀e∈m,e.p≠p)->eC p m=none
 |[],_=>rfl
 |e::m,h=>by simp only[eC];rw[az λhp=>h e (dY ..) hp.symm];exact ag7 λx hx=>h x (en _ hx)
theorem ak8{X xc}:∀{l k},(l.map lz).Nodup->Ks.OK ⟨rT k l,k+l.length,X,xc⟩ 0:=by
 intro l k hn;have hp:∀{l:List gj} {k:Nat},(rT k l).map En.p=l.map lz:=by
  intro l;induction l with
  |nil=>intro k;rfl
  |cons p l ih=>intro k;simp only[rT,gZ,ih]
 have hb:∀{l:List gj} {k:Nat},((rT k l).map En.b).Nodup:=by
  intro l;induction l with
  |nil=>intro k;exact zP
  |cons p l ih=>intro k;simp only[rT,gZ,wL];refine⟨λh=>?_,ih⟩;have⟨e,h1,h2⟩:=sb.1 h;have:=(Bj h1).2.2.2.1;omega
 refine⟨hb,λe he=>(Bj he).2.2.2.2,by rw[hp];exact hn,λe he _=>(Bj he).2.1,λe he h=>absurd (Bj he).2.2.1 h,λe he _ _ h=>absurd (Bj he).2.2.1 h,λe he=>?_⟩;have:=(Bj he).2.2.1;rw[this];exact cE _
theorem aty{z:Ar}{nx l}(hl:l.length<=3000000)(hn:(l.map lz).Nodup){v H1}(h:bu Z 31 78 7 v H1 (OF (fW l) l.length (l.length:Int)) (Zw {z with dT:=ep (rT 0 l),nc:=l.length} z.dT z.nc nx (fW l) l.length (qu []) 0) (ax Z 31 0)):
 ∀i,i<=l.length->bu Z 31 78 7 v H1 (OF (fW l) l.length (i:Int)) (Zw {z with dT:=ep (rT 0 (l.take i)),nc:=i} z.dT z.nc nx (fW l) l.length (qu []) 0) (ax Z 31 0):=by
 refine dF (λi=>l.length-i) _ _ _ _ ?_;rintro i hi ih;by_cases ay:i<l.length
 .refine hE EE anH ?_;have b_:=EZ ay;have h1:=ih (i+1) (by omega) (by omega);have gK:l.take (i+1)=l.take i++[l[i]]:=by rw[sd,gS ay];rfl
  rw[gK,ak9,wJ,NU hi,kD]at h1;have iR:∀e∈rT 0 (l.take i),e.p≠lz l[i]:=by intro e he hp;have⟨⟨p,MN,FJ⟩,_⟩:=Bj he;have h4:((l.take (i+1)).map lz).Nodup:=List.Nodup.sublist (List.Sublist.map _ (List.take_sublist _ _)) hn;rw[gK,qp,List.nodup_append]at h4;exact h4.2.2 _ (Bp MN) _ (pD.2 rfl) (FJ.symm.trans hp)
  have lj:=aB2 (c:=i) (ag7 iR);generalize l[i]=p at b_ lj h1;have⟨nm,ar,dy,cf⟩:=p;refine aD (λ_=>⟨i,rfl,ay,nm,ar,dy,oj cf,cf.length,b_,_,_,lj,?_⟩) λhn=>ab (eB hn)
  rw[cH];exact h1
 .obtain rfl:i=l.length:=by omega
  rw[s6];exact h
theorem LH{σ iE}{P:σ->Prop}(h:∀st p s,P st->P (iE st p s)):∀{l st},P st->P (uL iE st l)
 |[],st,h0=>h0
 |p::l,st,h0=>by
  have h1:∀(ss:List j3) (st:σ),P st->P (ss.foldl (λst s=>iE st p s) st):=by
   intro ss;induction ss with
   |nil=>exact λst h=>h
   |cons s ss ih=>exact λst hs=>ih _ (h st p s hs)
  exact LH (l:=l) h (h1 p.cf st h0)
def xz(z:Ar)(l:List gj):S5:=⟨{z with dT:=ep (rT 0 l),nc:=l.length},rT 0 l,[]⟩
def hFo(z:Ar)(dT:ES)(nc:Nat):AH:=ZL z.X z.xc z dT nc true
structure Fow where
 z:Ar
 nx:Int
 l:List gj
 cm:List (Int×Nat)
 aI:S5
def foX:cq Fow where
 bh w A H:=A=[.aa 0 0,.ai [J w.nx,.ah (fW w.l) w.l.length 4]]/\H=hA w.z/\w.z.fo=bO (λn=>.fw n 0) 0 w.cm/\w.z.cc=w.cm.length/\(w.l.map lz).Nodup/\vE w.l/\qR (xz w.z w.l) w.l=w.aI/\∀x∈w.cm,lk x.1 w.aI.th=some true
 v w:=.aC []
 aK w:=hFo w.aI.z w.z.dT w.z.nc
theorem atx:foX.ck:=by rintro⟨z,nx,l,cm,aI⟩ ⟨z',nx',l',cm',ahR⟩ A H ⟨h1,h2,_,_,_,_,q1,_⟩ ⟨h3,h4,_,_,_,_,q2,_⟩;have e1:=uQ (h2.symm.trans h4);rw[h1]at h3;simp at h3;have e6:=LQ h3.2.2 h3.2.1;subst e1 e6;rw[q1]at q2;subst q2;rfl
def WE:Ev.bp:=bR 31 (bW foX atx lS) ED
theorem aeS:aS Z WE:=by
 refine cu EE ?_;rintro⟨z,nx,l,cm,aI⟩ args H ⟨rfl,rfl,kv,jN,ov,AX,wa,v_⟩;simp only at kv jN ov AX wa v_;have hz:aI.z.fo=z.fo/\aI.z.cc=z.cc:=by rw[<-wa];exact LH (iE:=λst p s=>jr st (lz p) s.id) (P:=λst:S5=>st.z.fo=z.fo/\st.z.cc=z.cc) (λst p s h=>h) ⟨rfl,rfl⟩
 have zj:Bd 0 (xz z l):=⟨rfl,by have:=ak8 (X:=z.X) (xc:=z.xc) (k:=0) ov;rw[kD]at this;exact this⟩;have au6:=ah4 (dT:=z.dT) (nc:=z.nc) (hz.1.trans kv) (hz.2.trans jN) v_ _ [] (lA _);refine eE 78 EE aDL ?_;refine rJ (aty AX.ij ov ?_ 0 (fu _)) (SV (g:=10) rfl (λid=>by rcases id with _|_|_|_|_|_|_|_|_|_|_|_|id<;>rfl));refine hE EE anH ?_;refine aD (λh=>ab (dX h)) λ_=>⟨⟨xz z l,nx,l,aI⟩,⟨rfl,rfl,zj,AX,wa⟩,au6⟩
def nbX:cq Ar where
 bh w A H:=A=[.aa 0 0]/\H=hA w
 v w:=.au false
 aK w:=hA w
theorem axj:nbX.ck:=λA A' _ _ h1 h2=>by rw[uQ (h1.2.symm.trans h2.2)]
def WG:Ev.bp:=bR 21 (bW nbX axj lS) WE
def di(X:Nat->Option bf)(xc:Nat):Ar:=⟨1,4294967296,[],0,[],0,[],0,[],0,[],0,[],0,X,xc⟩
def nwX:cq ((Nat->Option bf)×Nat)where
 bh w A H:=A=[]/\H=bU w.1 w.2 [] 0
 v w:=.aa 0 0
 aK w:=hA (di w.1 w.2)
theorem axq:nwX.ck:=by rintro⟨X,c⟩ ⟨X',c'⟩ A H ⟨_,h2⟩ ⟨_,h4⟩;have h7:=congrArg AH.x (h2.symm.trans h4);cases h7;rfl
def Hl:Ev.bp:=bR 6 (bW nwX axq lS) WG
theorem aDq{z L Q}:
 bC Z WE (λ_=>[]) L Q 1000 21 [.aa 0 0] (hA z)=(
 Q (.au false) (hA z)):=by kernel_rfl
abbrev aiR(x3:_)(x0:_)(x1:_)(x2:_):=bU x3 x0 [(0,.al [J 1,J 4294967296,.aM,.aB 1,.aB 2,.aB 3,.aB 4,.aM,.aM] 78),(1,.aY [] 0 x1),(2,.aY [] 0 x2),(3,.aY [] 0 x1),(4,.aY [] 0 x1)] 5
theorem aEn{X xc L Q}:
 bC Z WG (λ_=>[]) L Q 1000 6 [] (bU X xc [] 0)=(
 Q (.aa 0 0) (aiR X xc false true)):=by kernel_rfl
theorem aeT:aS Z WG:=by refine cu aeS ?_;rintro z args H ⟨rfl,rfl⟩;refine eE 12 aeS aDq ?_;exact⟨rfl,rfl⟩
theorem H_{f args H0 H H1 v}(h:bX Z f args H0 v H)(hm:lL H0.bx H H1 (λφ aQ=>aQ=φ))(cA:H0.bx<=H.bx)(qh:jx v=.gG v:=by rfl):bX Z f args H0 v H1:=
 Cf h hm cA (λφ aQ hR x hx=>by subst hR;exact hx) qh
theorem yJ:aS Z Hl:=by
 refine cu aeT ?_;rintro⟨X,c⟩ args H ⟨rfl,rfl⟩;have h0:bX Z 6 [] (bU X c [] 0) (.aa 0 0) (aiR X c false true):=by refine eE 8 aeT aEn ?_;exact⟨rfl,rfl⟩
 have h1:=H_ h0 (SV (g:=1) (l':=[(0,.al [J 1,J 4294967296,.aM,.aB 1,.aB 2,.aB 3,.aB 4,.aM,.aM] 78),(1,.aY [] 0 true),(2,.aY [] 0 true),(3,.aY [] 0 false),(4,.aY [] 0 false)]) rfl (λid=>by rcases id with _|_|_|_|_|id<;>rfl)) (fu _);have h2:=H_ h1 (SV (g:=3) (l':=[(0,.al [J 1,J 4294967296,.aM,.aB 1,.aB 2,.aB 3,.aB 4,.aM,.aM] 78),(1,.aY [] 0 true),(2,.aY [] 0 true),(3,.aY [] 0 true),(4,.aY [] 0 false)]) rfl (λid=>by rcases id with _|_|_|_|_|id<;>rfl)) (fu _);have h3:=H_ h2 (SV (g:=4) (l':=[(0,.al [J 1,J 4294967296,.aM,.aB 1,.aB 2,.aB 3,.aB 4,.aM,.aM] 78),(1,.aY [] 0 true),(2,.aY [] 0 true),(3,.aY [] 0 true),(4,.aY [] 0 true)]) rfl (λid=>by rcases id with _|_|_|_|_|id<;>rfl)) (fu _);have h4:=H_ h3 (Ga (t:=83) (g:=0) (l':=[(0,.al [J 1,J 4294967296,.aj 5 0 1,.aB 1,.aB 2,.aB 3,.aB 4,.aM,.aM] 78),(1,.aY [] 0 true),(2,.aY [] 0 true),(3,.aY [] 0 true),(4,.aY [] 0 true)]) rfl (λid=>by rcases id with _|_|_|_|_|id<;>rfl) rfl (λφ x hx=>(iX.fT (.fT (iX.yF (λφ x h=>qG h) (.mF _)))) φ x hx) ⟨rfl,rfl⟩) (fu _);have h5:=H_ h4 (Ga (t:=44) (g:=0) (l':=[(0,.al [J 1,J 4294967296,.aj 5 0 1,.aB 1,.aB 2,.aB 3,.aB 4,.aj 6 0 9,.aM] 78),(1,.aY [] 0 true),(2,.aY [] 0 true),(3,.aY [] 0 true),(4,.aY [] 0 true),(5,.aA [] 83)]) rfl (λid=>by rcases id with _|_|_|_|_|_|id<;>rfl) rfl (λφ x hx=>(iX.fT (.fT (.fT (.fT (.fT (.fT (.fT (iX.yF (λφ x h=>qG h) (.mF _))))))))) φ x hx) ⟨rfl,rfl⟩) (fu _);exact lR (ps:=[(0,0),(5,1),(1,2),(2,3),(3,4),(4,5),(6,6)]) h5
def Bh:Nat->LN:=fh [(999998,[3,4,5,6,8,26])]
def F9:Nat->LN:=fh [(999995,[2000013]),(999996,[6]),(999998,[3,4,5,6,9,10])]
def Np:Nat->LN:=fh [(17,[3,4,6,10,33,34,35]),(999996,[6])]
def hU(z:Ar)(nx:Int)(ps:LV)(np:Nat)(tr:Bool)(e a i:Int):AH:=bU z.X z.xc [(0,dS z 1 2 3 4 5 6),(1,cQ z),(2,dz z),(3,dx z),(4,dg z),(5,dG z),(6,cJ z),(7,.al [.aa 0 0] 25),(8,ke nx ps np),(9,.al [.au tr] 4),(10,.al [J e] 27),(11,.al [J a,J i] 72)] 12
def hUn(z:Ar)(nx:Int)(ps:LV)(np:Nat)(tr:Bool)(e a i:Int)(aW:LV)(ni:Nat)(bs:LV)(nb:Nat):AH:=bU z.X z.xc [(0,dS z 1 2 3 4 5 6),(1,cQ z),(2,dz z),(3,dx z),(4,dg z),(5,dG z),(6,cJ z),(7,.al [.aa 0 0] 25),(8,ke nx ps np),(9,.al [.au tr] 4),(10,.al [J e] 27),(11,.al [J a,J i] 72),(12,.al [.aj 14 ni 1] 35),(13,.al [.aj 15 nb 1] 82),(14,.aA aW 2),(15,.aA bs 29)] 16
abbrev an6:=bg [(3,.aa 7 0),(4,.aa 8 0),(5,.aa 9 0),(6,.aa 10 0),(8,.aa 11 0),(26,.bn (.func 25) [] [.aa 10 0,.aa 11 0,.aa 7 0])]
abbrev tU:Ev.Tr AV:=an6
def h17(z:Ar)(nx:Int)(ps:LV)(np:Nat)(tr:Bool)(e a i:Int)(aW:LV)(bs:LV)(nb:Nat):AH:=bU z.X z.xc [(0,dS z 14 2 3 4 5 15),(1,.bm []),(2,dz z),(3,dx z),(4,dg z),(5,dG z),(6,.bm []),(7,.al [.aa 0 0] 25),(8,ke nx ps np),(9,.al [.au tr] 4),(10,.al [J e] 27),(11,.al [J a,J i] 72),(12,.al [.aj 16 nb 1] 82),(13,.aA aW 2),(14,cQ z),(15,cJ z),(16,.aA bs 29)] 17
theorem anS{z nx ps np tr L Q}:
 bC Z Hl Bh L Q 1000 7 [.aa 0 0,.ai [J nx,.ah ps np 4],.au tr] (hA z)=(
 ∃w,(([.aa 0 0]:LV)=[.aa 0 0]/\hA z=hA w)/\(∃ae,(([.ai [J nx,.ah ps np 4]]:LV)=[.ai (lQ ae)]/\aq [] 0=an/\uc ae)/\aw (!nh ae) (Q (J 1) (hA w)) (∃aE:EcA,(([.ai [J nx,.ah ps np 4],.bn (.func 24) [] [.aa 0 0,.aa 1 0]]:LV)=[.ai [J aE.nx,.ah (fW aE.l) aE.l.length 4],.bn (.func 24) [] [.aa 0 0,.aa 1 0]]/\nJ w false=nJ aE.z aE.b/\aE.z.nq=[]/\vE aE.l)/\aw aE.b (Q (J 5) (hA aE.z)) (L (an6) (hU aE.z nx ps np tr 0 aE.z.ao aE.z.id) (cM Z Bh 7 0))))):=by kernel_rfl
abbrev OH:=bg [(3,.aa 7 0),(4,.aa 8 0),(5,.aa 9 0),(6,.aa 10 0),(9,.aa 12 0),(10,.aa 13 0)]
abbrev aiS(x0:_)(x1:_)(x2:_)(x3:_)(x4:_)(x5:_)(x6:_)(x7:_)(x8:_):=bU x0 x1 [(0,dS x2 1 2 3 4 5 6),(1,cQ x2),(2,dz x2),(3,dx x2),(4,dg x2),(5,dG x2),(6,cJ x2),(7,.al [.aa 0 0] 25),(8,ke x3 x4 x5),(9,.al [.au x6] 4),(10,.al [J 0] 27),(11,.al [J x7,J x8] 72),(12,.al [.aM] 35),(13,.al [.aM] 82)] 14
theorem aEy{z nx ps np tr a i L R Q}:
 J2 Z Hl F9 L R Q 1000 7 12 tU (HC (cM Z Bh 7 0)) (hU z nx ps np tr 0 a i)=(
 L (OH) (aiS z.X z.xc z nx ps np tr a i) (cM Z F9 7 1)):=by kernel_rfl
abbrev uo:=bg [(6,.aa 10 0)]
abbrev UK(x0:_)(x1:_):=bg [(3,.aa 7 0),(4,.aa 8 0),(6,.aa 10 0),(10,.aa 12 0),(33,.aj 13 x0 1),(34,J (aP x0)),(35,J x1)]
theorem aEz{z nx ps np tr a i L R Q}:
 J2 Z Hl Np L R Q 1000 7 12 (OH) (cM Z F9 7 1) (hUn z nx ps np tr 0 a i [] 0 [] 0)=(
 ∃w:EcB,(([.ai [J nx,.ah ps np 4],.bn (.func 26) [] [.aa 0 0,.aa 1 0,.aa 2 0,.aa 3 0,.aa 4 0]]:LV)=[.ai [J w.nx,.ah (fW w.l) w.l.length 4],.bn (.func 26) [] [.aa 0 0,.aa 1 0,.aa 2 0,.aa 3 0,.aa 4 0]]/\p_ z 0 tr [] 0 [] 0=Pm w.st w.tr/\w.st.z.fo=[]/\(w.st.aW=[]/\(w.st.cP:List (List eW))=[])/\vE w.l/\uL (λst x s=>jJ w.tr st s) w.st w.l=w.aI)/\aw (w.aI.e !=0) (R (uo) (hU w.aI.z nx ps np w.tr w.aI.e a i)) (L (UK w.aI.aW.length 0) (bU w.aI.z.X w.aI.z.xc [(0,dS w.aI.z 1 2 3 4 5 6),(1,cQ w.aI.z),(2,dz w.aI.z),(3,dx w.aI.z),(4,dg w.aI.z),(5,dG w.aI.z),(6,cJ w.aI.z),(7,.al [.aa 0 0] 25),(8,ke nx ps np),(9,.al [.au w.tr] 4),(10,.al [J w.aI.e] 27),(11,.al [J a,J i] 72),(12,.al [.aj 14 w.aI.cP.length 1] 82),(13,bH w.aI.aW 2),(14,.aA (mb w.aI.cP) 29)] 15) (ax Z 7 0))):=by kernel_rfl
theorem anT{z nx ps np tr e a i aW ni bs nb j L R Q}:
 J2 Z Hl Np L R Q 1000 7 12 (UK ni j) (ax Z 7 0) (h17 z nx ps np tr e a i aW bs nb)=(
 aw (decide (j<aP ni)) (∃aJ:Nat,j=(aJ:Int)/\aJ<ni/\(∃n,cz Z 2 aW (aJ*1)=some (J n:AV)/\(∃cN:Nat,j=(cN:Int)/\cN<nb/\(∃cs len,cz Z 29 bs (cN*1)=some (.ah cs len 9:AV)/\(∃w:Kw,(([.aa 0 0,.ah cs len 9,.au false]:LV)=[.aa 0 0,.ah (fC w.l) w.l.length 9,.au w.b]/\hA z=hA w.z/\Hm w.z w.m w.l/\rP w.z w.m w.l w.b=w.zf/\w.zf.xc=w.c+1)/\some (.aB 2:AV)=some (.aB 2:AV)/\some (.aa 0 0:AV)=some (.aa 0 0:AV)/\(∃bJ c',j9 Z 2 w.zf.fo w.zf.cc (J n) (.fw w.c 0)=some (bJ,c')/\L (UK ni (wI (j+1))) (bU w.zf.X w.zf.xc [(0,dS w.zf 14 2 3 4 5 15),(1,.bm []),(2,.aY bJ c' true),(3,dx w.zf),(4,dg w.zf),(5,dG w.zf),(6,.bm []),(7,.al [.aa 0 0] 25),(8,ke nx ps np),(9,.al [.au tr] 4),(10,.al [J e] 27),(11,.al [J a,J i] 72),(12,.al [.aj 16 nb 1] 82),(13,.aA aW 2),(14,cQ w.zf),(15,cJ w.zf),(16,.aA bs 29)] 17) (ax Z 7 0))))))) (∃w:Fow,(([.aa 0 0,.ai [J nx,.ah ps np 4]]:LV)=[.aa 0 0,.ai [J w.nx,.ah (fW w.l) w.l.length 4]]/\hA z=hA w.z/\w.z.fo=bO (λn=>AV.fw n 0) 0 w.cm/\w.z.cc=w.cm.length/\List.Nodup (List.map lz w.l)/\vE w.l/\qR (xz w.z w.l) w.l=w.aI/\(∀x,x∈w.cm->lk x.1 w.aI.th=some true))/\R (uo) (bU w.aI.z.X w.aI.z.xc [(0,dS w.aI.z 12 2 3 13 5 14),(1,.bm []),(2,dz w.aI.z),(3,dx w.aI.z),(4,dg w.z),(5,dG w.aI.z),(6,.bm []),(7,.al [.aa 0 0] 25),(8,ke nx ps np),(9,.al [.au tr] 4),(10,.al [J 0] 27),(11,.al [J a,J i] 72),(12,cQ w.aI.z),(13,dg w.aI.z),(14,cJ w.aI.z)] 15))):=by kernel_rfl
theorem aGx{m c xc L X o}(h:Ks.OK ⟨m,c,X,xc⟩ L):Ks.OK ⟨m,c,w_ X xc o,xc+1⟩ L:=by
 refine⟨h.Gx,h.lt,h.Jg,h.nil,λe he hi=>?_,h.Jv,h.len⟩;have⟨h1,h2⟩:=h.ui e he hi;simp only at h1 h2;refine⟨DM h1,?_⟩;have:Nat.beq e.n xc=false:=by
  cases hb:Nat.beq e.n xc with
  |false=>rfl
  |true=>have:=dw hb;omega
 simp only[w_,this,cond_false,h2]
structure S7 where
 z:Ar
 m:List En
 cm:List (Int×Nat)
def S7.ks(st:S7)(l:List eW):Ks:=iF ⟨st.m,st.z.oc,st.z.X,st.z.xc⟩ l
def mz(st:S7)(x:Int×List eW):S7:=
 ⟨{rP st.z st.m x.2 false with fo:=bO (λn=>.fw n 0) 0 (up x.1 (st.ks x.2).xc st.cm),cc:=(up x.1 (st.ks x.2).xc st.cm).length},(st.ks x.2).m,up x.1 (st.ks x.2).xc st.cm⟩
structure u7(L:Nat)(st:S7):Prop where
 eQ:st.z.eQ=ep st.m
 ok:Ks.OK ⟨st.m,st.z.oc,st.z.X,st.z.xc⟩ L
 fG:st.z.fG.length=st.z.ng/\st.z.ng<=L
 add:st.z.pM.length=st.z.na*9/\st.z.na<=L
 fo:st.z.fo=bO (λn=>.fw n 0) 0 st.cm
 cc:st.z.cc=st.cm.length
theorem ajX{L st x}(h:u7 L st)(hx:x.2≠[]):u7 (L+x.2.length) (mz st x):=by
 have h1:=Xv h.ok x.2;have h2:=List.length_pos_iff.2 hx;refine⟨rfl,aGx h1,⟨?_,?_⟩,⟨?_,?_⟩,rfl,rfl⟩
 .simp only[mz,rP,cL,ei,gY,h.fG.1]
 .have:=h.fG.2;simp only[mz,rP];omega
 .simp only[mz,rP,cL,HX,h.add.1];omega
 .have:=h.add.2;simp only[mz,rP];omega
theorem avX{L st l}(h:u7 L st)(hx:l≠[])(h1:l.length<=1000000)(h2:L+l.length<=3000000):Hm st.z st.m l:=
 ⟨h.eQ,h.ok.GU (by omega),hx,h1,⟨h.fG.1,by have:=h.fG.2;omega⟩,⟨h.add.1,by have:=h.add.2;omega⟩⟩
def rm(l:List (Int×List eW)):Nat:=(l.map λx=>x.2.length).sum
theorem So:∀{l L st},(∀x∈l,x.2≠[])->u7 L st->u7 (L+rm l) (l.foldl mz st)
 |[],L,st,_,h=>h
 |x::l,L,st,hx,h=>by have:=So (λy hy=>hx y (en _ hy)) (ajX h (hx x (dY ..)));rw[show L+rm (x::l)=L+x.2.length+rm l by simp only[rm,gZ,List.sum_cons];omega];exact this
theorem aFt{l}(j)(h:j<l.length):rm (l.take j)+l[j].2.length<=rm l:=by
 have:rm (l.take (j+1))+rm (l.drop (j+1))=rm l:=by simp only[rm,<-List.sum_append,<-qp,wH]
 rw[sd,gS h]at this;simp only[rm,Option.toList_some,qp,List.sum_append,gZ,List.map_nil,List.sum_cons,List.sum_nil]at this⊢;omega
def nH:List pR:=[.vu (.func 25) [.aa 10 0,.aa 11 0,.aa 7 0] []]
theorem AF:pd 12 nH:=⟨⟨by omega,by omega,by omega,trivial⟩,trivial,trivial⟩
theorem axT(cs off):cz Z 29 cs off=cs[off]? :=by kernel_rfl
theorem Tq(cs off):cz Z 2 cs off=cs[off]? :=by kernel_rfl
abbrev BB(aW:LI)(j:Int):Ev.Tr AV:=UK aW.length j
abbrev Ez(z:Ar)(nx:Int)(l:List gj)(tr:Bool)(a i:Int)(aW:LI)(cP:List (List eW)):AH:=h17 z nx (fW l) l.length tr 0 a i (aX aW) (mb cP) cP.length
theorem aFH{v H1 st L nx l tr a i aW cP j}(hj:j<aW.length)(IY:j<cP.length)(pk:u7 L st)(hb:aW.length<=3000000)(cK:cP[j]≠[])(mS:cP[j].length<=1000000)(iH:L+cP[j].length<=3000000)(h:iw nH Z 7 55 12 v H1 (BB aW ((j+1:Nat):Int)) (Ez (mz st (aW[j],cP[j])).z nx l tr a i aW cP) (ax Z 7 0)):
 iw nH Z 7 55 12 v H1 (BB aW (j:Int)) (Ez st.z nx l tr a i aW cP) (ax Z 7 0):=by
 refine Mz iJ yJ (aR:=Np) (n:=1000) AF (by kernel_rfl) (λ_ _ h=>h) (λ_ _ _ h=>h) ?_;refine cast (@anT st.z nx (fW l) l.length tr 0 a i (aX aW) aW.length (mb cP) cP.length (j:Int) _ _ _).symm ?_;have e1:cz Z 2 (aX aW) (j*1)=some (J aW[j]):=by rw[Tq,mu,aX,sa,gS hj];rfl
 have e2:cz Z 29 (mb cP) (j*1)=some (.ah (fC cP[j]) cP[j].length 9):=by rw[axT,mu,mb,sa,gS IY];rfl
 have hk:=avX pk cK mS iH;have e3:j9 Z 2 (rP st.z st.m cP[j] false).fo (rP st.z st.m cP[j] false).cc (J aW[j]) (.fw (st.ks cP[j]).xc 0)=some (bO (λn=>.fw n 0) 0 (up aW[j] (st.ks cP[j]).xc st.cm),(up aW[j] (st.ks cP[j]).xc st.cm).length):=by show j9 Z 2 st.z.fo st.z.cc (J aW[j]) _=_;rw[pk.fo,pk.cc];exact pG (ev:=λn=>AV.fw n 0) jy
 refine aD (λ_=>⟨j,rfl,hj,aW[j],e1,j,rfl,IY,fC cP[j],cP[j].length,e2,⟨st.z,st.m,cP[j],false,rP st.z st.m cP[j] false,(st.ks cP[j]).xc⟩,⟨rfl,rfl,hk,rfl,rfl⟩,rfl,rfl,_,_,e3,?_⟩) λhn=>ab (eB hn)
 rw[cH];exact h
theorem ao0{α β:Type}{a:List α}{b:List β}{j}(h:j<(a.zip b).length)(h1:j<a.length)(h2:j<b.length):(a.zip b)[j]=(a[j],b[j]):=List.getElem_zip ..
theorem aog{v H1 s0 nx l tr a i aW cP}(bS:aW.length=cP.length)(hb:aW.length<=3000000)(lU:∀b∈cP,b≠[]/\b.length<=1000000)(I_:rm (aW.zip cP)<=3000000)(h0:u7 0 s0)(A0:iw nH Z 7 55 12 v H1 (BB aW (aW.length:Int)) (Ez ((aW.zip cP).foldl mz s0).z nx l tr a i aW cP) (ax Z 7 0)):∀n j:Nat,n+j=aW.length->
 iw nH Z 7 55 12 v H1 (BB aW (j:Int)) (Ez (((aW.zip cP).take j).foldl mz s0).z nx l tr a i aW cP) (ax Z 7 0)
 |0,j,h=>by
  obtain rfl:j=aW.length:=by omega
  rw[Br (by rw[List.length_zip];omega)];exact A0
 |n+1,j,h=>by
  have ih:=aog bS hb lU I_ h0 A0 n (j+1) (by omega);have hz:j<(aW.zip cP).length:=by rw[List.length_zip];omega
  have h1:j<aW.length:=by omega
  have h2:j<cP.length:=by omega
  have hm:=lU cP[j] (r8 h2);have ht:=aFt j hz;rw[sd,gS hz,Option.toList_some,DN,sV,NZ,ao0 hz h1 h2]at ih;rw[ao0 hz h1 h2]at ht;simp only at ht;refine aFH h1 h2 (So (λx hx=>?_) h0) hb hm.1 hm.2 (by omega) ih;exact(lU x.2 (List.of_mem_zip (Gh hx)).2).1
def CE(z z0:Ar)(nx:Int)(l:List gj)(tr:Bool)(a i:Int):AH:=bU z.X z.xc [(0,dS z 12 2 3 13 5 14),(1,.bm []),(2,dz z),(3,dx z),(4,dg z0),(5,dG z),(6,.bm []),(7,.al [.aa 0 0] 25),(8,ke nx (fW l) l.length),(9,.al [.au tr] 4),(10,.al [J 0] 27),(11,.al [J a,J i] 72),(12,cQ z),(13,dg z),(14,cJ z)] 15
theorem aFD{v H1 st L nx l tr a i aW cP aI}(pk:u7 L st)(ov:(l.map lz).Nodup)(AX:vE l)(wa:qR (xz st.z l) l=aI)(v_:∀x∈st.cm,lk x.1 aI.th=some true)(h:cj Z 12 ⟨7,uo,55,[],nH,.i_,none,none⟩ (CE aI.z st.z nx l tr a i) (qq (fJ v H1))):
 iw nH Z 7 55 12 v H1 (BB aW (aW.length:Int)) (Ez st.z nx l tr a i aW cP) (ax Z 7 0):=by
 refine Mz iJ yJ (aR:=Np) (n:=1000) AF (by kernel_rfl) (λ_ _ h=>h) (λ_ _ _ h=>h) ?_;refine cast (@anT st.z nx (fW l) l.length tr 0 a i (aX aW) aW.length (mb cP) cP.length (aW.length:Int) _ _ _).symm ?_;refine aD (λhn=>ab (dX hn)) λ_=>⟨⟨st.z,nx,l,st.cm,aI⟩,⟨rfl,rfl,pk.fo,pk.cc,ov,AX,wa,v_⟩,h⟩
theorem arY(z nx ps np tr a i):vX Z (Cj Z 0) 1 (fS [] none 7 55 tU (cM Z Bh 7 0)) (hU z nx ps np tr 0 a i)=
 .go (fS nH none 7 55 tU (HC (cM Z Bh 7 0))) (hU z nx ps np tr 0 a i):=by kernel_rfl
theorem ar2(z z0 nx l tr a i):vX Z (Cj Z 60) 1 ⟨7,uo,55,[],nH,.i_,none,none⟩ (CE z z0 nx l tr a i)=
 .go ⟨7,uo,55,[],[],.i_,none,none⟩ (CE z z0 nx l tr a i):=by kernel_rfl
theorem ar3(z nx ps np tr a i):vX Z (Cj Z 60) 1 ⟨7,uo,55,[],nH,.i_,none,none⟩ (hU z nx ps np tr 1 a i)=
 .go ⟨7,uo,55,[],[],.i_,none,none⟩ (hU {z with ao:=a,id:=i} nx ps np tr 1 a i):=by kernel_rfl
theorem ar4(z nx ps np tr a i):vX Z (Cj Z 60) 1 ⟨7,uo,55,[],nH,.i_,none,none⟩ (hU z nx ps np tr 2 a i)=
 .go ⟨7,uo,55,[],[],.i_,none,none⟩ (hU {z with ao:=a,id:=i} nx ps np tr 2 a i):=by kernel_rfl
theorem arZ(z z0 nx l tr a i Q):Ev.pX Z 7 12 Q (uo) (CE z z0 nx l tr a i)=Q (J 0) (CE z z0 nx l tr a i):=by kernel_rfl
theorem agM(z nx ps np tr e a i Q):Ev.pX Z 7 12 Q (uo) (hU z nx ps np tr e a i)=Q (J e) (hU z nx ps np tr e a i):=by kernel_rfl
theorem aFF(z z0 nx l tr a i):cj Z 12 ⟨7,uo,55,[],nH,.i_,none,none⟩ (CE z z0 nx l tr a i) (qq (fJ (J 0) (CE z z0 nx l tr a i))):=by
 refine cj.Cv iJ (Ck iJ 60) (λk xA H2 hi h=>?_) (ar2 z z0 nx l tr a i) ?_
 .have:k=0:=by omega
  subst this;cases h;rfl
 refine cj.pX iJ (pZ yJ) ?_;rw[arZ];exact⟨rfl,rfl⟩
theorem aFG{z nx ps np tr e a i}(he:e=1\/e=2):cj Z 12 ⟨7,uo,55,[],nH,.i_,none,none⟩ (hU z nx ps np tr e a i) (qq (fJ (J e) (hU {z with ao:=a,id:=i} nx ps np tr e a i))):=by
 rcases he with rfl|rfl
 .refine cj.Cv iJ (Ck iJ 60) (λk xA H2 hi h=>?_) (ar3 z nx ps np tr a i) ?_
  .have:k=0:=by omega
   subst this;cases h;rfl
  refine cj.pX iJ (pZ yJ) ?_;rw[agM];exact⟨rfl,rfl⟩
 .refine cj.Cv iJ (Ck iJ 60) (λk xA H2 hi h=>?_) (ar4 z nx ps np tr a i) ?_
  .have:k=0:=by omega
   subst this;cases h;rfl
  refine cj.pX iJ (pZ yJ) ?_;rw[agM];exact⟨rfl,rfl⟩
def hL(z:Ar)(nx:Int)(ps:LV)(np:Nat)(tr:Bool)(a i:Int)(aW bs:LV)(nb:Nat):AH:=bU z.X z.xc [(0,dS z 1 2 3 4 5 6),(1,cQ z),(2,dz z),(3,dx z),(4,dg z),(5,dG z),(6,cJ z),(7,.al [.aa 0 0] 25),(8,ke nx ps np),(9,.al [.au tr] 4),(10,.al [J 0] 27),(11,.al [J a,J i] 72),(12,.al [.aj 14 nb 1] 82),(13,.aA aW 2),(14,.aA bs 29)] 15
def hL1(z:Ar)(nx:Int)(ps:LV)(np:Nat)(tr:Bool)(a i:Int)(aW bs:LV)(nb:Nat):AH:=bU z.X z.xc [(0,dS z 15 2 3 4 5 6),(1,.bm []),(2,dz z),(3,dx z),(4,dg z),(5,dG z),(6,cJ z),(7,.al [.aa 0 0] 25),(8,ke nx ps np),(9,.al [.au tr] 4),(10,.al [J 0] 27),(11,.al [J a,J i] 72),(12,.al [.aj 14 nb 1] 82),(13,.aA aW 2),(14,.aA bs 29),(15,cQ z)] 16
def hL2(z:Ar)(nx:Int)(ps:LV)(np:Nat)(tr:Bool)(a i:Int)(aW bs:LV)(nb:Nat):AH:=bU z.X z.xc [(0,dS z 15 2 3 4 5 16),(1,.bm []),(2,dz z),(3,dx z),(4,dg z),(5,dG z),(6,.bm []),(7,.al [.aa 0 0] 25),(8,ke nx ps np),(9,.al [.au tr] 4),(10,.al [J 0] 27),(11,.al [J a,J i] 72),(12,.al [.aj 14 nb 1] 82),(13,.aA aW 2),(14,.aA bs 29),(15,cQ z),(16,cJ z)] 17
theorem axe(z nx ps np tr a i aW bs nb):Mv (hL z nx ps np tr a i aW bs nb) (hL1 z nx ps np tr a i aW bs nb) 1:=
 qk (l':=[(0,dS z 15 2 3 4 5 6),(1,.bm []),(2,dz z),(3,dx z),(4,dg z),(5,dG z),(6,cJ z),(7,.al [.aa 0 0] 25),(8,ke nx ps np),(9,.al [.au tr] 4),(10,.al [J 0] 27),(11,.al [J a,J i] 72),(12,.al [.aj 14 nb 1] 82),(13,.aA aW 2),(14,.aA bs 29)]) (by kernel_rfl) rfl rfl
theorem axf(z nx ps np tr a i aW bs nb):Mv (hL1 z nx ps np tr a i aW bs nb) (hL2 z nx ps np tr a i aW bs nb) 6:=
 qk (l':=[(0,dS z 15 2 3 4 5 16),(1,.bm []),(2,dz z),(3,dx z),(4,dg z),(5,dG z),(6,.bm []),(7,.al [.aa 0 0] 25),(8,ke nx ps np),(9,.al [.au tr] 4),(10,.al [J 0] 27),(11,.al [J a,J i] 72),(12,.al [.aj 14 nb 1] 82),(13,.aA aW 2),(14,.aA bs 29),(15,cQ z)]) (by kernel_rfl) rfl rfl
theorem an5{aW j g n}(hg:g<7)(hn:14<=n)(k a)(h:(BB aW j).bZ k=some a):eM (lu g n) a=some a:=by
 have hr:∀m,7<=m->m<14->lu g n m=some m:=λm hm h2=>by unfold lu;rw[az (by omega),az (by omega)]
 refine wz h ?_;intro x hx;simp at hx;rcases hx with rfl|rfl|rfl|rfl|rfl|rfl|rfl<;>first|rfl|simp[eM,hr]
theorem aFB{v H1 z nx l tr a i aW cP}(h:iw nH Z 7 55 12 v H1 (BB aW 0) (Ez z nx l tr a i aW cP) (ax Z 7 0)):
 iw nH Z 7 55 12 v H1 (BB aW 0) (hL z nx (fW l) l.length tr a i (aX aW) (mb cP) cP.length) (ax Z 7 0):=by
 refine Z9 ?_ (axe ..) (by kernel_rfl) (λk a h=>⟨a,h,an5 (by omega) (by show 14<=15;omega) k a h⟩) AF;refine Z9 ?_ (axf ..) (by kernel_rfl) (λk a h=>⟨a,h,an5 (by omega) (by show 14<=16;omega) k a h⟩) AF;exact cj.Kg (mw:=[7,8,10,12,13]) (l:=[3,4,6,10,33,34,35]) (ps:=[(0,0),(1,1),(2,2),(3,3),(4,4),(5,5),(6,6),(7,7),(8,8),(9,9),(10,10),(11,11),(12,12),(13,13),(15,14),(16,15),(14,16)]) (by kernel_rfl) (by kernel_rfl) (by kernel_rfl) h AF trivial
def eh(z:Ar)(tr:Bool)(l:List gj):S3:=uL (λst _ s=>jJ tr st s) ⟨z,0,[],[]⟩ l
def so(z:Ar)(tr:Bool)(l:List gj):S7:=((eh z tr l).aW.zip (eh z tr l).cP).foldl mz ⟨(eh z tr l).z,[],[]⟩
def n6(z:Ar)(tr:Bool)(l:List gj):S5:=qR (xz (so z tr l).z l) l
def BG(z:Ar)(d:Db)(tr:Bool):Int×Ar:=if nh d=false then(1,z)else if(eh z tr d.ij).e≠0 then((eh z tr d.ij).e,z)else(0,(n6 z tr d.ij).z)
structure Ex(z:Ar):Prop where
 fG:z.fG=[]/\z.ng=0
 fo:z.fo=[]/\z.cc=0
 ret:z.nq=[]
 eQ:z.eQ=[]
 add:z.pM=[]/\z.na=0
structure BP(z:Ar)(d:Db)(tr:Bool):Prop where
 db:uc d
 ok:nh d=true->vE d.ij
 nd:nh d=true->(d.ij.map lz).Nodup
 y5:(eh z tr d.ij).e=0\/(eh z tr d.ij).e=1\/(eh z tr d.ij).e=2
 len:(eh z tr d.ij).aW.length=(eh z tr d.ij).cP.length/\(nh d=true->(eh z tr d.ij).aW.length<=3000000)
 blk:nh d=true->(eh z tr d.ij).e=0->∀b∈(eh z tr d.ij).cP,b≠[]/\b.length<=1000000
 tot:nh d=true->(eh z tr d.ij).e=0->rm ((eh z tr d.ij).aW.zip (eh z tr d.ij).cP)<=3000000
 all:nh d=true->(eh z tr d.ij).e=0->∀x∈(so z tr d.ij).cm,lk x.1 (n6 z tr d.ij).th=some true
theorem ON(tr l z):∃a i,(eh z tr l).z={z with ao:=a,id:=i}:=by
 refine LH (P:=λst:S3=>∃a i,st.z={z with ao:=a,id:=i}) (λst p s h=>?_) ⟨z.ao,z.id,rfl⟩;have⟨a,i,h⟩:=h;unfold jJ;split
 .exact⟨a,i,h⟩
 .split
  .exact⟨a,i,h⟩
  .have⟨a2,i2,h2⟩:=agt (oK s.c st.z.ao tr).1 st.z s.id;exact⟨a2,i2,by show(og st.z s.id (oK s.c st.z.ao tr).1).1=_;rw[h2,h]⟩
def Rv(z:Ar)(nx:Int)(ps:LV)(np:Nat)(tr:Bool)(a i:Int):AH:=aiS z.X z.xc z nx ps np tr a i
def aiO(z:Ar)(nx:Int)(ps:LV)(np:Nat)(tr:Bool)(a i:Int):AH:=bU z.X z.xc ([(0,dS z 1 2 3 4 5 6),(1,cQ z),(2,dz z),(3,dx z),(4,dg z),(5,dG z),(6,cJ z),(7,.al [.aa 0 0] 25),(8,ke nx ps np),(9,.al [.au tr] 4),(10,.al [J 0] 27),(11,.al [J a,J i] 72),(12,.al [.aj 14 0 1] 35),(13,.al [.aM] 82)]++[(14,.aA [] 2)]) 15
theorem avQ(z nx ps np tr a i):lL 12 (Rv z nx ps np tr a i) (aiO z nx ps np tr a i) (λφ aQ=>aQ=φ):=
 Ga (g:=12) rfl (λid=>by rcases id with _|_|_|_|_|_|_|_|_|_|_|_|_|_|id<;>rfl) rfl (λφ x hx=>(iX.yF (λφ x h=>qG h) (.mF _)) φ x hx) ⟨rfl,rfl⟩
theorem avR(z nx ps np tr a i):lL 12 (aiO z nx ps np tr a i) (hUn z nx ps np tr 0 a i [] 0 [] 0) (λφ aQ=>aQ=φ):=
 Ga (g:=13) (l':=[(0,dS z 1 2 3 4 5 6),(1,cQ z),(2,dz z),(3,dx z),(4,dg z),(5,dG z),(6,cJ z),(7,.al [.aa 0 0] 25),(8,ke nx ps np),(9,.al [.au tr] 4),(10,.al [J 0] 27),(11,.al [J a,J i] 72),(12,.al [.aj 14 0 1] 35),(13,.al [.aj 15 0 1] 82),(14,.aA [] 2)]) rfl (λid=>by rcases id with _|_|_|_|_|_|_|_|_|_|_|_|_|_|_|id<;>rfl) rfl (λφ x hx=>(iX.yF (λφ x h=>qG h) (.mF _)) φ x hx) ⟨rfl,rfl⟩
theorem aoh{v H1 z nx l tr a i aI}(hz:z.fo=[])(AX:vE l)(wa:eh z tr l=aI)(he:aI.e≠0->cj Z 12 ⟨7,uo,55,[],nH,.i_,none,none⟩ (hU aI.z nx (fW l) l.length tr aI.e a i) (qq (fJ v H1)))(h:aI.e=0->iw nH Z 7 55 12 v H1 (BB aI.aW 0) (Ez aI.z nx l tr a i aI.aW aI.cP) (ax Z 7 0)):
 iw nH Z 7 55 12 v H1 (OH) (Rv z nx (fW l) l.length tr a i) (cM Z F9 7 1):=by
 refine IT ?_ (avQ ..) (by kernel_rfl) AF;refine IT ?_ (avR ..) (by kernel_rfl) AF;refine Mz iJ yJ (aR:=Np) (n:=1000) AF (by kernel_rfl) (λ_ _ h=>h) (λ_ _ _ h=>h) ?_;refine cast (@aEz z nx (fW l) l.length tr a i _ _ _).symm ?_;refine⟨⟨⟨z,0,[],[]⟩,tr,nx,l,aI⟩,⟨rfl,rfl,hz,⟨rfl,rfl⟩,AX,wa⟩,aD (λhb=>he (by simpa using hb)) λhb=>?_⟩;have h0:aI.e=0:=by simpa using hb
 simp only[h0];exact aFB (h h0)
structure Xm where
 z:Ar
 d:Db
 tr:Bool
 e:Int
 zf:Ar
def Y4{W:Bool->Type}(e:xj W)(h:e.ck)(ok:LV->AH->Bool):LV->AH->Option Sp:=λargs H=>bif ok args H then Ij e h args H else none
theorem afx{P S f0 W}{e:xj W}{h1 ok}(hS:aS P S)(h:∀b w args H,e.bh b w args H->bX P f0 args H (e.v b w) (e.aK b w))(cK:f0≠999999:=by first|assumption|decide):aS P (bR f0 (Y4 e h1 ok) S):=by
 refine xp hS λargs H sp p v H' hs hd hp=>?_
 have⟨_,hs⟩:=Lu hs;cases hs;simp only[tz]at hd;by_cases hw:∃p:(b:Bool)×W b,e.bh p.1 p.2 args H
 .rw[dif_pos hw]at hd;cases hd;exact h _ _ _ _ hp
 .rw[dif_neg hw]at hd;cases hd
def RH(z z0:Ar):AH:=bU z.X z.xc [(0,dS z 7 2 3 8 5 9),(1,.bm []),(2,dz z),(3,dx z),(4,dg z0),(5,dG z),(6,.bm []),(7,cQ z),(8,dg z),(9,cJ z)] 10
def aok:xj (λ_=>Xm)where
 bh b w A H:=A=[.aa 0 0,.ai (lQ w.d),.au w.tr]/\H=hA w.z/\Ex w.z/\BP w.z w.d w.tr/\BG w.z w.d w.tr=(w.e,w.zf)/\decide (w.e=0)=b
 v b w:=match b with|true=>J 0|false=>J w.e
 aK b w:=match b with|true=>RH w.zf w.z|false=>hA w.z
theorem aFJ:aok.ck:=by rintro b ⟨z,d,tr,e,zf⟩ b' ⟨z',d',BE,e',Vd⟩ A H ⟨h1,h2,_,_,q1,q3⟩ ⟨h3,h4,_,_,q2,q4⟩;have e1:=uQ (h2.symm.trans h4);rw[h1]at h3;simp at h3;have e6:d=d':=Yx rfl (by rw[h3.1]);have e7:=h3.2;subst e1 e6 e7;rw[q1]at q2;cases q2;subst q3 q4;rfl
def Pz:Ev.bp:=bR 7 (Y4 aok aFJ lS) Hl
theorem aFO(z tr l):(so z tr l).z.dT=z.dT/\(so z tr l).z.nc=z.nc:=by
 have⟨a,i,h⟩:=ON tr l z;have:∀(x:List (Int×List eW)) (st:S7),(st.z.dT=z.dT/\st.z.nc=z.nc)->((x.foldl mz st).z.dT=z.dT/\(x.foldl mz st).z.nc=z.nc):=by
  intro x;induction x with
  |nil=>exact λst h=>h
  |cons y x ih=>exact λst h=>ih _ h
 exact this _ _ (by rw[h];exact⟨rfl,rfl⟩)
theorem aFA{v H1 z nx ps np tr a i}(h:iw nH Z 7 55 12 v H1 (OH) (Rv z nx ps np tr a i) (cM Z F9 7 1)):
 cj Z 12 (fS nH none 7 55 tU (HC (cM Z Bh 7 0))) (hU z nx ps np tr 0 a i) (qq (fJ v H1)):=by
 refine Mz iJ yJ (aR:=F9) (n:=1000) AF (by kernel_rfl) (λ_ _ h=>h) (λ_ _ _ h=>h) ?_;rw[aEy];exact h
theorem aFz{v H1 z nx ps np tr a i}(h:cj Z 12 (fS nH none 7 55 tU (HC (cM Z Bh 7 0))) (hU z nx ps np tr 0 a i) (qq (fJ v H1))):
 cj Z 7 (fS [] none 7 55 tU (cM Z Bh 7 0)) (hU z nx ps np tr 0 a i) (qq (fJ v H1)):=by
 refine cj.Cv iJ (Ck iJ 0) (λi xA H2 hi h=>?_) (arY z nx ps np tr a i) ?_
 .have:i=0:=by omega
  subst this;cases h;rfl
 exact cj.abd (by omega) (by show(12:Nat)<=12;omega) h
theorem aoi{v H1 z nx l tr}(hf:Ex z)(Z6:uc ⟨nx,l⟩)(AX:vE l)(hv:nh ⟨nx,l⟩=true)(h:iw nH Z 7 55 12 v H1 (OH) (Rv z nx (fW l) l.length tr z.ao z.id) (cM Z F9 7 1)):
 bX Z 7 [.aa 0 0,.ai (lQ ⟨nx,l⟩),.au tr] (hA z) v H1:=by
 refine eS yJ Bh 55 ?_;have h2:=aFz (aFA h);refine cast (@anS z nx (fW l) l.length tr _ _).symm ?_;refine⟨z,⟨rfl,rfl⟩,⟨nx,l⟩,⟨rfl,rfl,Z6⟩,aD (λhb=>(by rw[hv]at hb;cases hb)) λ_=>⟨⟨z,false,nx,l⟩,⟨rfl,rfl,hf.ret,AX⟩,aD (λhb=>(by cases hb)) λ_=>?_⟩⟩;exact h2
theorem aFE{z nx l tr}(Z6:uc ⟨nx,l⟩)(hv:nh ⟨nx,l⟩=false):bX Z 7 [.aa 0 0,.ai (lQ ⟨nx,l⟩),.au tr] (hA z) (J 1) (hA z):=by refine eE 55 yJ anS ?_;exact⟨z,⟨rfl,rfl⟩,⟨nx,l⟩,⟨rfl,rfl,Z6⟩,aD (λ_=>⟨rfl,rfl⟩) λhb=>(by rw[hv]at hb;cases hb)⟩
theorem aFC{z nx l tr}(hf:Ex z)(ho:BP z ⟨nx,l⟩ tr)(hv:nh ⟨nx,l⟩=true)(he:(eh z tr l).e≠0):bX Z 7 [.aa 0 0,.ai (lQ ⟨nx,l⟩),.au tr] (hA z) (J (eh z tr l).e) (hA z):=by
 have⟨a3,i3,C'⟩:=ON tr l z;have auV:=ho.y5;have h1:bX Z 7 [.aa 0 0,.ai (lQ ⟨nx,l⟩),.au tr] (hA z) (J (eh z tr l).e) (hU {(eh z tr l).z with ao:=z.ao,id:=z.id} nx (fW l) l.length tr (eh z tr l).e z.ao z.id):=by refine aoi hf ho.db (ho.ok hv) hv ?_;exact aoh hf.fo.1 (ho.ok hv) rfl (λ_=>aFG (auV.resolve_left he)) (λh0=>absurd h0 he)
 have Bb:({(eh z tr l).z with ao:=z.ao,id:=z.id}:Ar)=z:=by rw[C']
 rw[Bb]at h1;exact lR (ps:=[(0,0),(1,1),(2,2),(3,3),(4,4),(5,5),(6,6)]) h1
theorem aFI{z nx l tr}(hf:Ex z)(ho:BP z ⟨nx,l⟩ tr)(hv:nh ⟨nx,l⟩=true)(CJ:(eh z tr l).e=0):bX Z 7 [.aa 0 0,.ai (lQ ⟨nx,l⟩),.au tr] (hA z) (J 0) (RH (n6 z tr l).z z):=by
 have⟨a3,i3,C'⟩:=ON tr l z;have bS:=ho.len;have lU:=ho.blk hv CJ;have I_:=ho.tot hv CJ;have v_:=ho.all hv CJ;have ov:=ho.nd hv;simp only at bS lU I_ v_ ov;have zj:u7 0 ⟨(eh z tr l).z,[],[]⟩:=by
  rw[C'];refine⟨hf.eQ,⟨zP,λe h=>(by cases h),zP,λe h=>(by cases h),λe h=>(by cases h),λe h=>(by cases h),λe h=>(by cases h)⟩,⟨?_,?_⟩,⟨?_,?_⟩,hf.fo.1,hf.fo.2⟩
  .rw[hf.fG.1,hf.fG.2];rfl
  .rw[hf.fG.2];exact cE 0
  .rw[hf.add.1,hf.add.2];rfl
  .rw[hf.add.2];exact cE 0
 have hiF:=So (l:=(eh z tr l).aW.zip (eh z tr l).cP) (λx hx=>(lU x.2 (List.of_mem_zip hx).2).1) zj;have h1:bX Z 7 [.aa 0 0,.ai (lQ ⟨nx,l⟩),.au tr] (hA z) (J 0) (CE (n6 z tr l).z (so z tr l).z nx l tr z.ao z.id):=by refine aoi hf ho.db (ho.ok hv) hv ?_;refine aoh hf.fo.1 (ho.ok hv) rfl (λh=>absurd CJ h) (λ_=>?_);refine aog bS.1 (bS.2 hv) lU I_ zj ?_ (eh z tr l).aW.length 0 (by omega);exact aFD hiF ov (ho.ok hv) rfl v_ (aFF ..)
 have I4:=aFO z tr l;generalize (n6 z tr l).z=z5 at h1⊢;generalize (so z tr l).z=z7 at h1 I4;have e:dg z=dg z7:=by rw[dg,dg,I4.1,I4.2]
 have h2:bX Z 7 [.aa 0 0,.ai (lQ ⟨nx,l⟩),.au tr] (hA z) (J 0) (RH z5 z7):=
  lR (ps:=[(0,0),(1,1),(2,2),(3,3),(4,4),(5,5),(6,6),(12,7),(13,8),(14,9)]) h1
 rw[RH,e];exact h2
theorem WH:aS Z Pz:=by
 refine afx yJ ?_;rintro b ⟨z,⟨nx,l⟩,tr,e,zf⟩ args H ⟨h1,h2,hf,ho,hr,hb⟩;simp only at h1 h2 hf ho hr hb;subst h1 h2;cases hv:nh ⟨nx,l⟩with
 |false=>rw[BG,aL hv]at hr;cases hr;cases hb;exact aFE ho.db hv
 |true=>
  rw[BG,az (by rw[hv];decide)]at hr;by_cases he:(eh z tr l).e≠0
  .rw[aL he]at hr;cases hr;rw[decide_eq_false he]at hb;subst hb;exact aFC hf ho hv he
  .rw[az he]at hr;cases hr;cases hb;exact aFI hf ho hv (yj.1 he)
def Il(i:Int)(l:List eW):Option eW:=l.find? λb=>b.id==i
structure Fbw where
 l:List eW
 i:Int
 b:eW
def Q_:cq Fbw where
 bh w A H:=A=[.aj 0 w.l.length 9,J w.i]/\H=aq [(0,.aA (fC w.l) 44)] 1/\w.l.length<=4000000/\Il w.i w.l=some w.b
 v w:=.aC [.ai [J w.b.id,.ad w.b.aO.cT,J w.b.aO.ar,J w.b.aO.ao,J w.b.l4.1,J w.b.l4.2.1,.ad w.b.l4.2.2.1,J w.b.l4.2.2.2,.ah (cS w.b.o7) w.b.o7.length 6],.au true]
 aK w:=aq [(0,.aA (fC w.l) 44)] 1
theorem atk:Q_.ck:=by rintro⟨l,i,b⟩ ⟨l',i',b'⟩ A H ⟨h1,h2,_,q1⟩ ⟨h3,h4,_,q2⟩;rw[h1]at h3;simp at h3;have h5:=congrArg (λH=>AH.bc H 0) (h2.symm.trans h4);replace h5:some (bf.aA (fC l) 44)=some (bf.aA (fC l') 44):=h5;simp at h5;have e1:=QC h3.1 h5;have e2:=h3.2;subst e1 e2;rw[q1]at q2;cases q2;rfl
def WI:Ev.bp:=bR 11 (bW Q_ atk cB) Pz
def Ar.nb(z:Ar):Ar:={z with pM:=[],na:=0}
def hBo(z:Ar):AH:=bU z.X z.xc [(0,dS z.nb 1 2 3 4 5 7),(1,cQ z),(2,dz z),(3,dx z),(4,dg z),(5,dG z),(6,cJ z),(7,.aA [] 44)] 8
def blX:cq Ar where
 bh z A H:=A=[.aa 0 0]/\H=hA z
 v z:=.aj 6 z.na 9
 aK z:=hBo z
theorem aqK:blX.ck:=λA A' _ _ h1 h2=>by rw[uQ (h1.2.symm.trans h2.2)]
def WJ:Ev.bp:=bR 8 (bW blX aqK lS) WI
structure Xr where
 X:Nat->Option bf
 xc:Nat
 n:Nat
 aW:LI
def xlX:cq Xr where
 bh w A H:=A=[.fE w.n w.aW.length 1]/\H=bU w.X w.xc [] 0/\(w.aW≠[]->w.X w.n=some (.aA (aX w.aW) 2))/\w.aW.length<=4000000
 v w:=.aj 0 w.aW.length 1
 aK w:=bU w.X w.xc [(0,.aA (aX w.aW) 2)] 1
theorem amH:∀{l m},aX l=aX m->l=m
 |[],[],_=>rfl
 |[],_::_,h=>by cases h
 |_::_,[],h=>by cases h
 |a::l,b::m,h=>by simp only[aX,gZ,iL,AV.bV.injEq,true_and]at h;rw[h.1,amH h.2]
theorem ajP{X:Nat->Option bf}{n l m}(h1:l≠[]->X n=some (.aA (aX l) 2))(h2:m≠[]->X n=some (.aA (aX m) 2))(hl:l.length=m.length):l=m:=by
 by_cases hz:l=[]
 .subst hz;exact(mo hl.symm).symm
 .have hm:m≠[]:=λh=>hz (by subst h;exact mo hl)
  have:=(h1 hz).symm.trans (h2 hm);simp at this;exact amH this
theorem aGz:xlX.ck:=by rintro⟨X,c,n,aW⟩ ⟨X',c',n',zt⟩ A H ⟨h1,h2,k1,_⟩ ⟨h3,h4,k2,_⟩;simp only at h1 h2 h3 h4 k1 k2;have h7:=congrArg AH.x (h2.symm.trans h4);cases h7;rw[h1]at h3;simp at h3;obtain⟨rfl,e⟩:=h3;rw[ajP k1 k2 e]
def WL:Ev.bp:=bR 34 (bW xlX aGz lS) WJ
def xZ(m:List En)(p:cX):Nat×LI×Bool:=match eC p m with|some e=>(if e.aW=[]then 0 else e.n,e.aW,true)|none=>(0,[],false)
def Ar.Nq(z:Ar)(p:cX):ES:=if p.ao=0 then z.dT else z.eQ
structure Liw where
 z:Ar
 m:List En
 p:cX
 n:Nat
 aW:LI
 b:Bool
def liX:cq Liw where
 bh w A H:=A=[.aa 0 0,.ai [.ad w.p.cT,J w.p.ar,J w.p.ao]]/\H=hA w.z/\w.z.Nq w.p=ep w.m/\xZ w.m w.p=(w.n,w.aW,w.b)/\(w.aW≠[]->w.z.X w.n=some (.aA (aX w.aW) 2))/\w.aW.length<=4000000
 v w:=.aC [.aj 7 w.aW.length 1,.au w.b]
 aK w:=bU w.z.X w.z.xc [(0,dS w.z 1 2 3 4 5 6),(1,cQ w.z),(2,dz w.z),(3,dx w.z),(4,dg w.z),(5,dG w.z),(6,cJ w.z),(7,.aA (aX w.aW) 2)] 8
theorem SI{m p}:Dp Z 39 35 1 (ep m) (.ai [.ad p.cT,J p.ar,J p.ao])=some ((xZ m p).1,(xZ m p).2.1.length,(xZ m p).2.2):=by
 have h:eZ Z 39 35 (ep m) (.ai [.ad p.cT,J p.ar,J p.ao])=_:=awT m p;unfold Dp xZ;rw[h];cases eC p m with
 |none=>rfl
 |some e=>
  have⟨q,n,aW,b⟩:=e;cases aW with
  |nil=>rfl
  |cons i l=>rfl
theorem awG:liX.ck:=by rintro⟨z,m,p,n,aW,b⟩ ⟨z',m',p',n',zt,b'⟩ A H ⟨h1,h2,k1,q1,x1,_⟩ ⟨h3,h4,k2,q2,x2,_⟩;have e1:=uQ (h2.symm.trans h4);rw[h1]at h3;subst e1;have⟨a,c,d⟩:=p;have⟨a',c',d'⟩:=p';simp at h3;obtain⟨rfl,rfl,rfl⟩:=h3;have e2:=SI (m:=m) (p:=⟨a,c,d⟩);have e3:=SI (m:=m') (p:=⟨a,c,d⟩);rw[q1,<-k1]at e2;rw[q2,<-k2]at e3;have e4:=e2.symm.trans e3;simp at e4;obtain⟨rfl,e5,rfl⟩:=e4;have e6:=ajP x1 x2 e5;subst e6;rfl
def K64:Ev.bp:=bR 10 (bW liX awG lS) WL
def akJ:Nat->LN:=fh [(2,[0,1,4,6])]
abbrev UL(x0:_)(x1:_)(x2:_):=bg [(0,.aj 0 x0 9),(1,J x1),(4,.aa 1 0),(6,J x2)]
theorem aC9{bs nb i L Q}:
 bC Z Pz akJ L Q 1000 11 [.aj 0 nb 9,J i] (aq [(0,.aA bs 44)] 1)=(
 L (UL nb i 0) (aq [(0,.aA bs 44),(1,Ay)] 2) (ax Z 11 0)):=by kernel_rfl
theorem aDa{bs nb i j L Q}:
 cg Z Pz akJ L Q 1000 11 1 (UL nb i j) (ax Z 11 0) (aq [(0,.aA bs 44),(1,Ay)] 2)=(
 aw (decide (j<aP nb)) (∃aJ:Nat,j=(aJ:Int)/\aJ<nb/\(∃n:Int,cz Z 2 bs (aJ*9+0)=some (J n:AV)/\aw (n==i) (∃cN:Nat,j=(cN:Int)/\cN<nb/\(∃aN:Int,∃s:LN,∃bz:Int,∃ct:Int,∃dm:Int,∃kC:Int,∃cr:LN,∃ql:Int,∃cs:LV,∃len:Nat,cz Z 44 bs (cN*9)=some (.ai [J aN,.ad s,J bz,J ct,J dm,J kC,.ad cr,J ql,.ah cs len 6]:AV)/\Q (.aC [.ai [J aN,.ad s,J bz,J ct,J dm,J kC,.ad cr,J ql,.ah cs len 6],.au true]) (aq [(0,.aA bs 44)] 1))) (L (UL nb i (wI (j+1))) (aq [(0,.aA bs 44),(1,Ay)] 2) (ax Z 11 0)))) (Q (.aC [.ai [J 0,.ad [],J 0,J 0,J 0,J 0,.ad [],J 0,.aM],.au false]) (aq [(0,.aA bs 44)] 1))):=by kernel_rfl
theorem aEL{z L Q}:
 bC Z WI (λ_=>[]) L Q 1000 8 [.aa 0 0] (hA z)=(
 ∃w:Ar,(([.aa 0 0]:LV)=[.aa 0 0]/\hA z=hA w)/\Q (.aj 6 w.na 9) (bU w.X w.xc [(0,.al [J w.ao,J w.id,.aj 1 w.ng 1,.aB 2,.aB 3,.aB 4,.aB 5,.aM,.aM] 78),(1,cQ w),(2,dz w),(3,dx w),(4,dg w),(5,dG w),(6,cJ w)] 7)):=by kernel_rfl
theorem anI{x xc n len L Q}:
 bC Z WJ (λ_=>[]) L Q 1000 34 [.fE n len 1] (bU x xc [] 0)=(
 aw (Nat.beq len 0) (Q .aM (bU x xc [] 0)) (∃vs:LV,GP (bU x xc [] 0) n len 1 vs/\(len=0->0<=4194304/\Q (.bw 0 0 0 0 1 true) (bU x xc [(0,.al [] 2)] 1))/\(1<=len->(0<=0/\0+len<=4194304/\(List.all vs AV.cY=true/\List.all vs eR=true)/\(true=true/\true=true)/\true=true/\0<=0)/\Q (.aj 0 (0+len) 1) (bU x xc [(0,.aA ([]++vs) 2)] 1)))):=by kernel_rfl
theorem aCH{z nm ar ao L Q}:
 bC Z WL (λ_=>[]) L Q 1000 10 [.aa 0 0,.ai [.ad nm,J ar,J ao]] (hA z)=(
 ∃w:Ar,(([.aa 0 0]:LV)=[.aa 0 0]/\hA z=hA w)/\aw (ao==0) (∃n:Nat,∃len:Nat,∃b:Bool,Dp Z 39 35 1 w.dT (.ai [.ad nm,J ar,J ao])=some (n,(len,b))/\(∃ae:Xr,(([.fE n len 1]:LV)=[.fE ae.n ae.aW.length 1]/\bU w.X w.xc [] 0=bU ae.X ae.xc [] 0/\(ae.aW≠[]->ae.X ae.n=some (Go.Ev.bf.aA (aX ae.aW) 2))/\ae.aW.length<=4000000)/\Q (.aC [.aj 7 ae.aW.length 1,.au b]) (bU ae.X ae.xc [(0,dS w 1 2 3 4 5 6),(1,cQ w),(2,dz w),(3,dx w),(4,dg w),(5,dG w),(6,cJ w),(7,bH ae.aW 2)] 8))) (∃n:Nat,∃len:Nat,∃b:Bool,Dp Z 39 35 1 w.eQ (.ai [.ad nm,J ar,J ao])=some (n,(len,b))/\(∃ae:Xr,(([.fE n len 1]:LV)=[.fE ae.n ae.aW.length 1]/\bU w.X w.xc [] 0=bU ae.X ae.xc [] 0/\(ae.aW≠[]->ae.X ae.n=some (Go.Ev.bf.aA (aX ae.aW) 2))/\ae.aW.length<=4000000)/\Q (.aC [.aj 7 ae.aW.length 1,.au b]) (bU ae.X ae.xc [(0,dS w 1 2 3 4 5 6),(1,cQ w),(2,dz w),(3,dx w),(4,dg w),(5,dG w),(6,cJ w),(7,bH ae.aW 2)] 8)))):=by kernel_rfl
theorem axU(cs off):cz Z 44 cs off=(Ev.oE cs off 9).map .ai:=by kernel_rfl
theorem aqL{l j}(h:j<l.length):cz Z 2 (fC l) (j*9+0)=some (J l[j].id):=by
 have h1:=QD h;rw[Tq,<-vj];have h2:(((fC l).drop (j*9)).take 9)[0]? =some (J l[j].id):=by rw[h1];rfl
 rw[JS]at h2;simpa using h2
theorem aqM{l j}(h:j<l.length):cz Z 44 (fC l) (j*9)=some (.ai (uM l[j])):=by have h1:=QD h;rw[axU];unfold Ev.oE;rw[h1];rfl
theorem aeU:aS Z WI:=by
 refine cu WH ?_;rintro⟨l,i,b⟩ args H ⟨rfl,rfl,hl,hf⟩;simp only at hl hf;refine eE 25 WH aC9 ?_;have key:∀n j:Nat,n+j=l.length->Il i (l.drop j)=some b->
  bu Z 11 25 1 (Q_.v ⟨l,i,b⟩) (Q_.aK ⟨l,i,b⟩) (UL l.length i (j:Int)) (aq [(0,.aA (fC l) 44),(1,Ay)] 2) (ax Z 11 0):=by
  intro n;induction n with
  |zero=>intro j h hf;rw[List.drop_of_length_le (by omega)]at hf;cases hf
  |succ n ih=>
   intro j h hf;have hj:j<l.length:=by omega
   refine hE WH aDa ?_;have h1:=aqL hj;have h2:=aqM hj;rw[List.drop_eq_getElem_cons hj]at hf;simp only[Il,List.find?_cons]at hf;generalize l[j]=bj at h1 h2 hf;refine aD (λ_=>⟨j,rfl,hj,bj.id,h1,aD (λhe=>?_) λhe=>?_⟩) λhn=>ab (eB hn)
   .rw[he]at hf;cases hf;exact⟨j,rfl,hj,_,_,_,_,_,_,_,_,_,_,h2,rfl,rfl⟩
   .rw[he]at hf;rw[cH];exact ih (j+1) (by omega) hf
 exact key l.length 0 (by omega) hf
theorem WK:aS Z WJ:=by
 refine cu aeU ?_;rintro z args H ⟨rfl,rfl⟩;have h1:bX Z 8 [.aa 0 0] (hA z) (.aj 6 z.na 9) (bU z.X z.xc [(0,.al [J z.ao,J z.id,.aj 1 z.ng 1,.aB 2,.aB 3,.aB 4,.aB 5,.aM,.aM] 78),(1,cQ z),(2,dz z),(3,dx z),(4,dg z),(5,dG z),(6,cJ z)] 7):=by refine eE 13 aeU aEL ?_;exact⟨z,⟨rfl,rfl⟩,rfl,rfl⟩
 exact H_ h1 (Ga (g:=0) (l':=[(0,dS z.nb 1 2 3 4 5 7),(1,cQ z),(2,dz z),(3,dx z),(4,dg z),(5,dG z),(6,cJ z)]) rfl (λid=>by rcases id with _|_|_|_|_|_|_|id<;>rfl) rfl (λφ x hx=>(iX.fT (.fT (.fT (.fT (.fT (.fT (.fT (iX.yF (λφ x h=>qG h) (.mF _))))))))) φ x hx) ⟨rfl,rfl⟩) (cE _)
theorem ayM(l):(aX l).all AV.cY=true/\(aX l).all eR=true:=
 ⟨mq.2 (λx hx=>by obtain⟨i,_,rfl⟩:=sb.1 hx;rfl),mq.2 (λx hx=>by obtain⟨i,_,rfl⟩:=sb.1 hx;rfl)⟩
theorem aeV:aS Z WL:=by
 refine cu WK ?_;rintro⟨X,c,n,aW⟩ args H ⟨rfl,rfl,hx,hl⟩;simp only at hx hl;cases aW with
 |nil=>refine QO (l:=[]) ?_ rfl (cE _);refine eE 8 WK anI ?_;exact aD (λ_=>⟨rfl,rfl⟩) λh=>by cases h
 |cons i l=>
  have h1:=hx (by simp);refine eE 8 WK (@anI X c n (i::l).length _ _) ?_;have bS:(aX (i::l)).length=(i::l).length*1:=by rw[aX,qo,mu]
  refine aD (λh=>(by cases h)) λ_=>⟨aX (i::l),.inr ⟨by simp,2,h1,bS⟩,λh=>ab h,λ_=>⟨⟨cE 0,by omega,ayM _,⟨rfl,rfl⟩,rfl,cE 0⟩,?_⟩⟩
  rw[kD];exact⟨rfl,rfl⟩
theorem apw:aS Z K64:=by
 refine cu aeV ?_;rintro⟨z,m,⟨nm,ar,ao⟩,n,aW,b⟩ args H ⟨rfl,rfl,hm,hlm,hx,hl⟩;refine eE 32 aeV aCH ?_;have wc:=SI (m:=m) (p:=⟨nm,ar,ao⟩);rw[hlm,<-hm]at wc;refine⟨z,⟨rfl,rfl⟩,aD (λha=>?_) λha=>?_⟩
 .rw[Ar.Nq,aL (by simpa using ha)]at wc;exact⟨n,aW.length,b,wc,⟨z.X,z.xc,n,aW⟩,⟨rfl,rfl,hx,hl⟩,rfl,rfl⟩
 .rw[Ar.Nq,az (by simpa using ha)]at wc;exact⟨n,aW.length,b,wc,⟨z.X,z.xc,n,aW⟩,⟨rfl,rfl,hx,hl⟩,rfl,rfl⟩
def egX:cq Unit where
 bh w A H:=A=[]/\H=an
 v w:=.au true
 aK w:=an
theorem asu:egX.ck:=λ_ _ _ _ _ _=>rfl
def PB:Ev.bp:=bR 9 (bW egX asu cB) K64
theorem ati:∃h n,bX Z 9 [] an (.au true) ⟨h,n,none⟩:=by
 have h:=atj;unfold aoc at h;split at h;next b h0 n0 hr=>subst h;refine⟨h0,n0,λφ w bs args' cs ha hw hb=>?_⟩;have⟨aQ,w',h1,h2,h3,h4⟩:=ahz (cs:=cs) (TV iJ abA 1000000) hr ha hw hb (fu _) trivial rfl;exact⟨aQ,w',h1,h2.ag,⟨h3,h2.2.2.2⟩,h4⟩
 .cases h
theorem WM:aS Z PB:=by refine cu apw ?_;rintro w args H ⟨rfl,rfl⟩;have⟨h,n,hE⟩:=ati;exact lR hE (by rfl) (by rfl)
structure vG where
 n:Nat
 l:List eW
 b:Bool
structure nz(z:Ar)(gs:List vG):Prop where
 fG:z.fG=gs.map λg=>.fw g.n 0
 ng:z.ng=gs.length
 dq:∀g∈gs,z.X g.n=some (oo g.l g.b)
def iy:List vG->Nat
 |[]=>0
 |g::l=>g.l.length+iy l
def k7:List vG->Nat
 |[]=>0
 |g::l=>(if g.b then g.l.length else 0)+k7 l
structure iM where
 z:Ar
 gs:List vG
def Yt:cq iM where
 bh w A H:=A=[.aa 0 0]/\H=hA w.z/\nz w.z w.gs/\iy w.gs<=4000000/\w.gs.length<=4000000
 v w:=.aC [J (iy w.gs),J (k7 w.gs)]
 aK w:=hA w.z
theorem aix{X:Nat->Option bf}:∀{gs uO},(∀g∈gs,X g.n=some (oo g.l g.b))->(∀g∈uO,X g.n=some (oo g.l g.b))->(gs.map λg=>AV.fw g.n 0)=(uO.map λg=>AV.fw g.n 0)->iy gs=iy uO/\k7 gs=k7 uO
 |[],[],_,_,_=>⟨rfl,rfl⟩
 |[],_::_,_,_,h=>by simp at h
 |_::_,[],_,_,h=>by simp at h
 |g::gs,g'::uO,h1,h2,h=>by simp at h;have a1:=h1 g (dY ..);have a2:=h2 g' (dY ..);rw[h.1,a2]at a1;simp only[oo,nX,bf.al.injEq,iL,AV.ah.injEq,AV.au.injEq,and_true]at a1;have⟨⟨_,a3⟩,a4⟩:=a1;have⟨i1,i2⟩:=aix (λx hx=>h1 x (en _ hx)) (λx hx=>h2 x (en _ hx)) h.2;simp only[iy,k7,i1,i2,a3,a4];exact⟨trivial,trivial⟩
theorem arF:Yt.ck:=by rintro⟨z,gs⟩ ⟨z',uO⟩ A H ⟨_,h1,k1,_⟩ ⟨_,h2,k2,_⟩;have e:=uQ (h1.symm.trans h2);subst e;have⟨i1,i2⟩:=aix k1.dq k2.dq (k1.fG.symm.trans k2.fG);simp only[Yt,i1,i2]
def Q1:Ev.bp:=bR 13 (bW Yt arF lS) PB
def akL:Nat->LN:=fh [(4,[2,3,11,12,13])]
def akM:Nat->LN:=fh [(4,[0,1,5])]
abbrev OA(x0:_)(x1:_)(x2:_)(x3:_):=bg [(2,J x0),(3,J x1),(11,.aj 1 x2 1),(12,J (aP x2)),(13,J x3)]
theorem aDb{z L Q}:
 bC Z PB akL L Q 1000 13 [.aa 0 0] (hA z)=(
 ∃w:Ar,(([.aa 0 0]:LV)=[.aa 0 0]/\hA z=hA w)/\L (OA 0 0 w.ng 0) (hA w) (ax Z 13 0)):=by kernel_rfl
theorem aDc{z a b i L Q}:
 cg Z PB akL L Q 1000 13 7 (OA a b z.ng i) (ax Z 13 0) (hA z)=(
 aw (decide (i<aP z.ng)) (∃aJ:Nat,i=(aJ:Int)/\aJ<z.ng/\(∃n:Nat,∃off:Nat,cz Z 83 z.fG (aJ*1)=some (.fw n off:AV)/\(∃cs:LV,∃len:Nat,pt Z (hA z) 95 n (off+0)=some (.ah cs len 4:AV)/\(∃gA:Bool,pt Z (hA z) 4 n (off+1)=some (.au gA:AV)/\aw gA (∃bP:LV,∃bI:Nat,pt Z (hA z) 95 n (off+0)=some (.ah bP bI 4:AV)/\L (OA (wI (a+aP len)) (wI (b+aP bI)) z.ng (wI (i+1))) (hA z) (ax Z 13 0)) (L (OA (wI (a+aP len)) b z.ng (wI (i+1))) (hA z) (ax Z 13 0)))))) (Q (.aC [J a,J b]) (hA z))):=by kernel_rfl
theorem akp{z n l b}(h:z.X n=some (oo l b)):pt Z (hA z) 95 n (0+0)=some (.ah (jw l) l.length 4):=by unfold pt;rw[show(hA z).gT n=z.X n from rfl,h];kernel_rfl
theorem awv{z n l b}(h:z.X n=some (oo l b)):pt Z (hA z) 4 n (0+1)=some (.au b):=by unfold pt;rw[show(hA z).gT n=z.X n from rfl,h];kernel_rfl
theorem ab0(cs off):cz Z 83 cs off=cs[off]? :=by kernel_rfl
theorem HJ:∀a b:List vG,iy (a++b)=iy a+iy b/\k7 (a++b)=k7 a+k7 b
 |[],b=>by simp[iy,k7]
 |g::a,b=>by have⟨h1,h2⟩:=HJ a b;simp only[oC,iy,k7,h1,h2,Gl];exact⟨trivial,trivial⟩
theorem agq:∀l:List vG,k7 l<=iy l
 |[]=>cE _
 |g::l=>by have:=agq l;simp only[iy,k7];split<;>omega
theorem aq1{z gs}(h:nz z gs)(hc:iy gs<=4000000)(hl:gs.length<=4000000):∀i:Nat,i<=gs.length->
 bu Z 13 38 7 (.aC [J (iy gs),J (k7 gs)]) (hA z) (OA (iy (gs.take i)) (k7 (gs.take i)) z.ng (i:Int)) (hA z) (ax Z 13 0):=by
 refine dF (λi=>gs.length-i) _ _ _ _ ?_;rintro i hi ih;refine hE WM aDc ?_;have CV:=h.ng;refine aD (λay=>?_) λbq=>?_
 .have ay:i<gs.length:=by rw[<-CV];simpa using ay
  have sI:=h.dq gs[i] (r8 ay);have hp:cz Z 83 z.fG (i*1)=some (.fw gs[i].n 0):=by rw[ab0,mu,h.fG,sa,gS ay];rfl
  have e1:gs.take (i+1)=gs.take i++[gs[i]]:=by rw[sd,gS ay];rfl
  have e2:=HJ (gs.take i) [gs[i]];have e3:=HJ (gs.take (i+1)) (gs.drop (i+1));rw[wH]at e3;have e4:=agq gs;have h1:=ih (i+1) (by omega) (by omega);rw[e1]at h1 e3;rw[e2.1,e2.2]at h1 e3;generalize gs[i]=g at sI hp h1 e3;simp only[iy,k7,Gi]at h1 e3;have w1:wI ((iy (gs.take i):Int)+aP g.l.length)=((iy (gs.take i)+g.l.length:Nat):Int):=by rw[cH (by simp;omega) (by simp;omega)];rfl
  refine⟨i,rfl,by rw[CV];exact ay,g.n,0,hp,jw g.l,g.l.length,akp sI,g.b,awv sI,?_⟩;rw[w1,cH];cases hb:g.b with
  |true=>
   rw[hb]at h1 e3;simp at h1 e3;refine aD (λ_=>⟨jw g.l,g.l.length,akp sI,?_⟩) λh=>by cases h
   rw[cH (by simp;omega) (by simp;omega)];exact h1
  |false=>rw[hb]at h1;exact aD (λh=>(by cases h)) λ_=>h1
 .have bq:gs.length<=i:=by rw[<-CV];simpa using bq
  rw[Br bq];exact⟨rfl,rfl⟩
theorem WZ:aS Z Q1:=by refine cu WM ?_;rintro⟨z,gs⟩ args H ⟨rfl,rfl,hg,hc,hl⟩;refine eE 38 WM aDb ?_;exact⟨z,⟨rfl,rfl⟩,aq1 hg hc hl 0 (fu _)⟩
mutual
def ko:LI->aF->LI
 |l,.mk k n s ts=>uv (if k=0/\ra l n 0<0 then l++[n]else l) ts
def uv:LI->eH->LI
 |l,[]=>l
 |l,t::ts=>uv (ko l t) ts
end
def nK(l:LI):AH:=aq [(0,bH l 2)] 1
theorem aiT{l m}(h:nK l=nK m):l=m:=by have:=congrArg (λH=>AH.bc H 0) h;exact zR (de this)
def al7:cq (LI×Int)where
 bh w A H:=A=[.aj 0 w.1.length 1,J w.2]/\H=nK w.1/\w.1.length<100000
 v w:=J (ra w.1 w.2 0)
 aK w:=nK w.1
theorem ax9:al7.ck:=by rintro⟨l,a⟩ ⟨l',a'⟩ A H ⟨h1,h2,_⟩ ⟨h3,h4,_⟩;rw[h2]at h4;rw[h1]at h3;have:=aiT h4;subst this;simp at h3;rw[h3]
def Q2:Ev.bp:=bR 71 (bW al7 ax9 cB) Q1
def akS:Nat->LN:=fh [(2,[0,1,5])]
def JA(l:LI):AH:=aq [(0,.bm []),(1,bH l 2)] 2
def aoB(N:Nat):cq (LI×Int×Int×LN×eH)where
 bh w A H:=A=[.aj 0 w.1.length 1,.ai [J w.2.1,J w.2.2.1,.ad w.2.2.2.1,.ah (aH w.2.2.2.2) w.2.2.2.2.length 4]]/\H=nK w.1/\bB (.mk w.2.1 w.2.2.1 w.2.2.2.1 w.2.2.2.2)/\bM (.mk w.2.1 w.2.2.1 w.2.2.2.1 w.2.2.2.2)<N/\w.1.length+bM (.mk w.2.1 w.2.2.1 w.2.2.2.1 w.2.2.2.2)<60000
 v w:=.aj 1 (ko w.1 (.mk w.2.1 w.2.2.1 w.2.2.2.1 w.2.2.2.2)).length 1
 aK w:=JA (ko w.1 (.mk w.2.1 w.2.2.1 w.2.2.2.1 w.2.2.2.2))
theorem aGc(N):(aoB N).ck:=by rintro⟨l,k,n,s,ts⟩ ⟨l',k',n',s',n5⟩ A H ⟨h1,h2,_⟩ ⟨h3,h4,_⟩;rw[h2]at h4;rw[h1]at h3;have:=aiT h4;subst this;simp at h3;obtain⟨rfl,rfl,rfl,h5,h6⟩:=h3;rw[tB h6 h5]
def La(N:Nat):Ev.bp:=bR 44 (bW (aoB N) (aGc N) cB) Q2
def akO:Nat->LN:=fh [(4,[0,3,5])]
def aoA:LV->AH->Option Sp
 |[.aM,.ai cells],H=>some (.yU (H=an/\kA cells/\gX bM cells<60000,.aj 0 (gX (ko []) cells).length 1,nK (gX (ko []) cells)))
 |_,_=>none
def Q3:Ev.bp:=bR 44 aoA Q2
def Q4:Ev.bp:=bR 20 (bW OO aou cB) Q3
theorem aEp{l a L Q}:
 bC Z Q1 akS L Q 1000 71 [.aj 0 l.length 1,J a] (nK l)=(
 L (bg [(0,.aj 0 l.length 1),(1,J a),(5,J 0)]) (nK l) (ax Z 71 0)):=by kernel_rfl
theorem aEq{l a i L Q}:
 cg Z Q1 akS L Q 1000 71 1 (bg [(0,.aj 0 l.length 1),(1,J a),(5,J i)]) (ax Z 71 0) (nK l)=(
 aw (decide (i<aP l.length)) (∃aJ:Nat,i=(aJ:Int)/\aJ<l.length/\(∃n:Int,cz Z 2 (aX l) (aJ*1)=some (J n:AV)/\aw (n==a) (Q (J i) (nK l)) (L (bg [(0,.aj 0 l.length 1),(1,J a),(5,J (wI (i+1)))]) (nK l) (ax Z 71 0)))) (Q (J (-1)) (nK l))):=by kernel_rfl
abbrev OB(x0:_)(x1:_):=bg [(0,.aj 1 x0 1),(3,.aa 2 0),(5,J x1)]
theorem aDS{l k n s cs len N L Q}:
 bC Z (La N) akO L Q 1000 44 [.aj 0 l.length 1,.ai [J k,J n,.ad s,.ah cs len 4]] (nK l)=(
 aw (k==0) (∃w:LI×Int,(([.aj 0 l.length 1,J n]:LV)=[.aj 0 w.1.length 1,J w.2]/\nK l=nK w.1/\w.1.length<100000)/\aw (decide (ra w.1 w.2 0<0)) (((aX w.1).length=l.length*1/\l.length+1<=4194304/\true=true/\true=true)/\L (OB (l.length+1) 0) (aq [(0,.bm []),(1,.aA (aX w.1++[J n]) 2),(2,dH k n s cs len)] 3) (ax Z 44 0)) (L (bg [(0,.aj 0 l.length 1),(3,.aa 1 0),(5,J 0)]) (aq [(0,bH w.1 2),(1,dH k n s cs len)] 2) (ax Z 44 0))) (L (bg [(0,.aj 0 l.length 1),(3,.aa 1 0),(5,J 0)]) (aq [(0,bH l 2),(1,dH k n s cs len)] 2) (ax Z 44 0))):=by kernel_rfl
theorem aDT{l k n s cs len i N L Q}:
 cg Z (La N) akO L Q 1000 44 1 (OB l.length i) (ax Z 44 0) (aq [(0,.bm []),(1,bH l 2),(2,dH k n s cs len)] 3)=(
 aw (decide (i<aP len)) (∃aJ:Nat,i=(aJ:Int)/\aJ<len/\(∃aN:Int,∃bz:Int,∃cr:LN,∃bP:LV,∃bI:Nat,((cs.drop (aJ*4)).take 4:List AV)=[J aN,J bz,.ad cr,.ah bP bI 4]/\(∃w:LI×Int×Int×LN×eH,(([.aj 0 l.length 1,.ai [J aN,J bz,.ad cr,.ah bP bI 4]]:LV)=[.aj 0 w.1.length 1,.ai [J w.2.1,J w.2.2.1,.ad w.2.2.2.1,.ah (aH w.2.2.2.2) w.2.2.2.2.length 4]]/\nK l=nK w.1/\bB (aF.mk w.2.1 w.2.2.1 w.2.2.2.1 w.2.2.2.2)/\bM (aF.mk w.2.1 w.2.2.1 w.2.2.2.1 w.2.2.2.2)<N/\w.1.length+bM (aF.mk w.2.1 w.2.2.1 w.2.2.2.1 w.2.2.2.2)<60000)/\L (OB (ko w.1 (aF.mk w.2.1 w.2.2.1 w.2.2.2.1 w.2.2.2.2)).length (wI (i+1))) (aq [(0,.bm []),(1,bH (ko w.1 (aF.mk w.2.1 w.2.2.1 w.2.2.2.1 w.2.2.2.2)) 2),(2,dH k n s cs len)] 3) (ax Z 44 0)))) (Q (.aj 1 l.length 1) (JA l))):=by kernel_rfl
theorem anv{k n s cs len L Q}:
 bC Z Q3 (λ_=>[]) L Q 1000 20 [.ai [J k,J n,.ad s,.ah cs len 4]] an=(
 (aq [] 0=an/\kA [J k,J n,.ad s,.ah cs len 4])/\aw (!gX fv [J k,J n,.ad s,.ah cs len 4]) (Q .aM an) ((aq [] 0=an/\kA [J k,J n,.ad s,.ah cs len 4]/\gX bM [J k,J n,.ad s,.ah cs len 4]<60000)/\Q (.aj 0 (gX (ko []) [J k,J n,.ad s,.ah cs len 4]).length 1) (nK (gX (ko []) [AV.bV IntKind.i64 k,AV.bV IntKind.i64 n,AV.ad s,AV.ah cs len 4])))):=by kernel_rfl
theorem avZ{l i}(h:i<l.length):cz Z 2 (aX l) (i*1)=some (J l[i]):=by rw[Tq,aX,mu,sa,gS h];rfl
theorem aEo{l a aI}(hl:l.length<100000):∀i:Nat,(i<=l.length/\ra (l.drop i) a i=aI)->
 bu Z 71 19 1 (J aI) (nK l) (bg [(0,.aj 0 l.length 1),(1,J a),(5,J (i:Int))]) (nK l) (ax Z 71 0):=by
 refine dF (λi=>l.length-i) _ _ _ _ ?_;rintro i ⟨hi,hf⟩ ih;refine hE WZ aEq ?_;refine aD (λay=>?_) λbq=>?_
 .have ay:i<l.length:=by simpa using ay
  rw[fV ay]at hf;refine⟨i,rfl,ay,l[i],avZ ay,aD (λh=>?_) λh=>?_⟩
  .have h:l[i]=a:=by simpa using h
   rw[ra,aL h.symm]at hf;subst hf;exact⟨rfl,rfl⟩
  .have h:¬l[i]=a:=by simpa using h
   rw[ra,az (λe=>h e.symm)]at hf;have e:wI ((i:Int)+1)=((i+1:Nat):Int):=by rw[cH];simp
   rw[e];exact ih (i+1) ⟨by omega,by simpa using hf⟩ (by omega)
 .have bq:l.length<=i:=by simpa using bq
  rw[gR bq]at hf;subst hf;exact⟨rfl,rfl⟩
theorem ae9:aS Z Q2:=by refine cu WZ ?_;rintro⟨l,a⟩ args H ⟨rfl,rfl,hl⟩;refine eE 19 WZ aEp ?_;exact aEo hl 0 ⟨by simp,rfl⟩
mutual
theorem aoE:∀(l:LI) (t:aF),(ko l t).length<=l.length+bM t
 |l,.mk k n s ts=>by
  have:=aoG (if k=0/\ra l n 0<0 then l++[n]else l) ts;simp only[ko,bM];split at this
  .simp only[cL,ei,gY]at this;rename_i h;rw[aL h];omega
  next h=>rw[az h];omega
theorem aoG:∀(l:LI) (ts:eH),(uv l ts).length<=l.length+bN ts
 |l,[]=>by simp[uv,bN]
 |l,t::ts=>by have h1:=aoE l t;have h2:=aoG (ko l t) ts;simp only[uv,bN];omega
end
theorem anK{k n s ts N aI}(hS:aS Z (La N))(h8:dk ts.length)(ho:fK ts)(hN:bN ts<N):
 ∀p:Nat×LI,(p.1<=ts.length/\uv p.2 (ts.drop p.1)=aI/\p.2.length+bN (ts.drop p.1)<60000)->
 bu Z 44 36 1 (.aj 1 aI.length 1) (JA aI) (OB p.2.length (p.1:Int)) (aq [(0,.bm []),(1,bH p.2 2),(2,dH k n s (aH ts) ts.length)] 3) (ax Z 44 0):=by
 refine dF (λp=>ts.length-p.1) _ _ _ _ ?_;rintro⟨i,l⟩ ⟨hi,hf,hb⟩ ih;simp only at hi hf hb ih⊢;refine hE hS aDT ?_;refine aD (λay=>?_) λbq=>?_
 .have ay:i<ts.length:=by simpa using ay
  obtain⟨k1,n1,s1,l1,-,hg,b_,aZ,cx⟩:=wQ ay ho hN (P:=λ_=>True) trivial;rw[fV ay,hg]at hf hb;rw[uv]at hf;rw[bN]at hb;have hv:=aoE l (.mk k1 n1 s1 l1);have hx:(ko l (.mk k1 n1 s1 l1)).length+bN (ts.drop (i+1))<60000:=by omega
  refine⟨i,rfl,ay,k1,n1,s1,aH l1,l1.length,b_,(l,k1,n1,s1,l1),⟨rfl,rfl,aZ,cx,by simp only;omega⟩,?_⟩;rw[kU h8 ay];exact ih (i+1,ko l (.mk k1 n1 s1 l1)) ⟨ay,hf,hx⟩ (by simp only;omega)
 .have bq:ts.length<=i:=by simpa using bq
  rw[gR bq,uv]at hf;subst hf;exact⟨rfl,rfl⟩
theorem aDR{l k n s ts N}(hS:aS Z (La N))(aZ:bB (.mk k n s ts))(hN:bN ts<N)(hb:l.length+bM (.mk k n s ts)<60000):
 bX Z 44 [.aj 0 l.length 1,.ai [J k,J n,.ad s,.ah (aH ts) ts.length 4]] (nK l) (.aj 1 (ko l (.mk k n s ts)).length 1) (JA (ko l (.mk k n s ts))):=by
 refine eE 36 hS aDS ?_;simp only[bM]at hb;have anW:uv l ts=ko l (.mk k n s ts)->bu Z 44 36 1 (.aj 1 (ko l (.mk k n s ts)).length 1) (JA (ko l (.mk k n s ts))) (bg [(0,.aj 0 l.length 1),(3,.aa 1 0),(5,J 0)]) (aq [(0,bH l 2),(1,dH k n s (aH ts) ts.length)] 2) (ax Z 44 0):=by intro hh;refine uT (g:=0) ?_ (qk rfl rfl rfl) (abq (by rfl));refine AZ (mw:=[0,2,1]) (ls:=[0,3,5]) (ps:=[(0,0),(2,1),(1,2)]) (H2:=aq [(0,.bm []),(1,bH l 2),(2,dH k n s (aH ts) ts.length)] 3) (t:=OB l.length 0) ?_;exact anK hS aZ.2.1 aZ.2.2 hN (0,l) ⟨fu _,hh,by simp;omega⟩
 refine aD (λh=>⟨(l,n),⟨rfl,rfl,by simp only;omega⟩,aD (λh2=>⟨⟨by simp[aX],by omega,rfl,rfl⟩,?_⟩) λh2=>?_⟩) λh=>?_
 .have h:k=0:=by simpa using h
  have h2:=dX h2;have e:uv (l++[n]) ts=ko l (.mk k n s ts):=by rw[ko,aL ⟨h,h2⟩]
  have:=anK (k:=k) (n:=n) (s:=s) hS aZ.2.1 aZ.2.2 hN (0,l++[n]) ⟨fu _,e,by simp;omega⟩;simp only[cL,ei,gY,bH,aX,qp,gZ,List.map_nil]at this;exact this
 .have h2:=eB h2;exact anW (by rw[ko,az (λx=>h2 x.2)])
 .have h:¬k=0:=by simpa using h
  exact anW (by rw[ko,az (λx=>h x.1)])
theorem apD:∀N,aS Z (La N):=by
 refine yl ae9 ?_ ?_
 .rintro w args H ⟨_,_,_,h,_⟩;omega
 .intro N hS;rintro⟨l,k,n,s,ts⟩ args H ⟨rfl,rfl,aZ,hN,hb⟩;simp only[bM]at hN;exact aDR hS aZ (by simp only;omega) hb
theorem as2{P f args Lq H H2 H' v R}(h:bX P f Lq H2 v H')(hm:lL H.bx H H2 R)(ha:∀φ aQ,R φ aQ->∀l,br φ args l->br aQ Lq l):bX P f args H v H':=by intro φ w bs args' cs hv hw hl;have⟨hn,hm⟩:=hm;have⟨kV,k1,k2,k3⟩:=hm φ bs w (cE _) hw;have⟨aQ,w',g1,g2,g3,g4⟩:=h kV w bs args' cs (ha _ _ k3 _ hv) k1 hl;exact⟨aQ,w',g1,k2.1.rr (g2.mono hn),⟨g3.1,k2.2.qB g3.2⟩,g4⟩
theorem W0:aS Z Q3:=by
 refine xp ae9 λargs H sp p v H' hs hd hp=>?_
 unfold aoA at hs;split at hs
 .cases hs;cases hd;obtain⟨rfl,⟨t,rfl,aZ⟩,hb⟩:=hp;rw[BZ]at hb;rw[BZ];have⟨k,n,s,ts⟩:=t;have h1:=QY (apD (bM (.mk k n s ts)+1)) (w:=([],k,n,s,ts)) ⟨rfl,rfl,aZ,lA _,by simpa using hb⟩ rfl;have h2:bX Z 44 [.aM,.ai (aU (.mk k n s ts))] an (.aj 1 (ko [] (.mk k n s ts)).length 1) (JA (ko [] (.mk k n s ts))):=by refine as2 h1 (F' (.aA [] 2) rfl) (λφ aQ hR l hl=>?_);subst hR;obtain⟨x,l',rfl,g1,g2⟩:=hl;exact⟨x,l',rfl,qG g1,g2⟩
  exact lR h2 (by rfl) (by rfl)
 .cases hs
mutual
theorem aoD:∀(l:LI) (t:aF),iZ t=true->ko l t=ka l t
 |l,.mk k n s ts,h=>by
  simp only[iZ,dc]at h;rw[ko,ka];by_cases hk:k=0
  .have A_:ts=[]:=by have:=h.1;rw[zD,aL hk]at this;have:=dX this;exact mo this.2.2.2
   subst A_;rw[aL hk,FZ,uv];by_cases hm:n∈l
   .rw[aL hm,az (λx=>by have:=(Su l n 0 (by decide)).2 hm;omega)]
   .rw[az hm,aL ⟨hk,by have:=mt (Su l n 0 (by decide)).1 hm;omega⟩]
  .rw[az (λx=>hk x.1),az hk];exact aoF l ts h.2
theorem aoF:∀(l:LI) (ts:eH),qn ts=true->uv l ts=uu l ts
 |l,[],_=>by rw[uv,uu]
 |l,t::ts,h=>by simp only[qn,dc]at h;rw[uv,uu,aoD l t h.1,aoF _ ts h.2]
end
theorem W1:aS Z Q4:=by
 refine cu W0 ?_;rintro t args H ⟨rfl,rfl,ho⟩;simp only[OO];have⟨k,n,s,l⟩:=t;by_cases hv:fv (.mk k n s l)=true
 .rw[dh,aL hv];have cx:=wW hv;have h1:bX Z 20 [.ai (aU (.mk k n s l))] an (.aj 0 (ko [] (.mk k n s l)).length 1) (nK (ko [] (.mk k n s l))):=by refine eE 8 W0 anv ?_;rw[jb,jb,jb,hv];exact⟨⟨rfl,lV ho⟩,aD (λh=>(by cases h)) λ_=>⟨⟨rfl,lV ho,by omega⟩,rfl,rfl⟩⟩
  rw[aoD _ _ (OP hv)]at h1;have h2:=sG (g:=0) h1 rfl (fu _);have h3:fX 0 (aX (ka [] (.mk k n s l))) (.aj 0 (ka [] (.mk k n s l)).length 1)=.ah (aX (ka [] (.mk k n s l))) (ka [] (.mk k n s l)).length 1:=by
   have:(aX (ka [] (.mk k n s l))).length=(ka [] (.mk k n s l)).length*1:=by simp[aX]
   simp[fX,this]
  rw[h3]at h2;exact lR (ps:=[]) h2
 .rw[dh,az hv];have hv:fv (.mk k n s l)=false:=by simpa using hv
  refine qO ?_ (Wk.qm 1) (cE _);refine eE 8 W0 anv ?_;rw[jb,hv];exact⟨⟨rfl,lV ho⟩,aD (λ_=>⟨rfl,rfl⟩) λh=>(by cases h)⟩
def afz:cq aF where
 bh t A H:=A=[.bw 0 0 1 1 4 true]/\H=aq [(0,.al (aU t) 49)] 1/\bB t
 v t:=J (jL 0 (dh t))
 aK t:=aq [(0,.al (im t) 49)] 1
theorem ap8:afz.ck:=by rintro a a' A H ⟨_,h1,_⟩ ⟨_,h2,_⟩;rw[h1]at h2;have:=congrArg (λH=>AH.bc H 0) h2;simp only[ey,cR,if_true,nX,bf.al.injEq,and_true]at this;rw[lP this]
def Q5:Ev.bp:=bR 49 (bW afz ap8 cB) Q4
def Jm:Nat->LN:=fh [(999995,[2000009]),(999998,[1,3,11,12])]
abbrev Uv(x0:_)(x1:_)(x2:_)(x3:_)(x4:_):=bg [(3,J x0),(8,.bw 0 0 1 1 4 x1),(9,J 1),(10,J 0),(15,.ah (aX x2) x3 1),(16,J (aP x3)),(17,J x4)]
theorem aCg{k n s cs len L Q}:
 bC Z Q4 F8 L Q 1000 49 [.bw 0 0 1 1 4 true] (aq [(0,.al [J k,J n,.ad s,.ah cs len 4] 49)] 1)=(
 ∃w:aF,(([.ai [J k,J n,.ad s,.ah cs len 4]]:LV)=[.ai (aU w)]/\aq [] 0=an/\bB w)/\L (Uv 0 true (dh w) (dh w).length 0) (aq [(0,dH k n s cs len)] 1) (ax Z 49 1)):=by kernel_rfl
theorem aCh{x l i k n s cs len L Q}:
 cg Z Q4 F8 L Q 1000 49 1 (Uv x true l l.length i) (ax Z 49 1) (aq [(0,.al [J k,J n,.ad s,.ah cs len 4] 49)] 1)=(
 aw (decide (i<aP l.length)) (∃aJ:Nat,i=(aJ:Int)/\aJ<l.length/\(∃aN:Int,(((aX l).drop (aJ*1)).take 1:List AV)=[J aN]/\L (Uv (if wI (aN+1)>x then wI (aN+1)else x) true l l.length (wI (i+1))) (aq [(0,dH k n s cs len)] 1) (ax Z 49 1))) (Q (J x) (aq [(0,dH k n s cs len)] 1))):=by kernel_rfl
theorem acM{k n s cs len a b L Q}:
 bC Z Q5 Jm L Q 1000 40 [.ai [J k,J n,.ad s,.ah cs len 4],J a,.au b] an=(
 ∃w:aF,(([.ai [J k,J n,.ad s,.ah cs len 4]]:LV)=[.ai (aU w)]/\aq [] 0=an/\bB w)/\aw (!Option.isSome (fR w)) (Q (.aC [.aM,J 1]) an) (∃ae:aF×aF,(([.ai [J k,J n,.ad s,.ah cs len 4],.ai [J (Option.getD (fR w) gf).cy,J (Option.getD (fR w) gf).n,.ad (Option.getD (fR w) gf).cO,.ah (aH (Option.getD (fR w) gf).bo) (Option.getD (fR w) gf).bo.length 4]]:LV)=[.ai (aU ae.1),.ai (aU ae.2)]/\aq [] 0=an/\bB ae.1/\bB ae.2)/\aw (!si ae.1 ae.2) (Q (.aC [.aM,J 1]) an) (aw (decide (a<1)) (Q (.aC [.aM,J 1]) an) (aw (decide (a>1099511623776)) (Q (.aC [.aM,J 1]) an) (∃aE:aF,(([.bw 0 0 1 1 4 true]:LV)=[.bw 0 0 1 1 4 true]/\aq [(0,dH k n s cs len)] 1=aq [(0,.al (aU aE) 49)] 1/\bB aE)/\aw (decide (jL 0 (dh aE)>1099511625777)) (Q (.aC [.aM,J 2]) an) (∃gA:Bool,aw gA (∃bQ:aF,(([.ai [J k,J n,.ad s,.ah cs len 4]]:LV)=[.ai (aU bQ)]/\aq [] 0=an/\bB bQ/\List.isEmpty (dh bQ)=false)/\L (bg [(1,J a),(3,.aa 0 0),(11,.aa 1 0),(12,.aj 2 (dh bQ).length 4)]) (aq [(0,dH k n s cs len),(1,.al [J (jL 0 (dh aE)),J (wI (a+1)),.au b,.aM] 120),(2,.aA (aH (jV bQ)) 49)] 3) (cM Z Jm 40 0)) (∃bQ:aF,(([.ai [J k,J n,.ad s,.ah cs len 4]]:LV)=[.ai (aU bQ)]/\aq [] 0=an/\bB bQ/\List.isEmpty (dh bQ)=true)/\L (bg [(1,J a),(3,.aa 0 0),(11,.aa 1 0),(12,.aM)]) (aq [(0,dH k n s cs len),(1,.al [J (jL 0 (dh aE)),J (wI (a+1)),.au b,.aM] 120)] 2) (cM Z Jm 40 0)))))))):=by kernel_rfl
theorem aCe{k n s cs len a t ds m L Q}:
 cg Z Q5 (λ_=>[]) L Q 1000 40 0 (bg [(1,J a),(3,.aa 0 0),(11,.aa 1 0),(12,.ah ds m 4)]) (cM Z Jm 40 0) (aq [(0,dH k n s cs len),(1,dO t 2),(2,d_ t)] 3)=(
 ∃w:Ww,(([.aa 0 0,.ai [.ad [],J (aP m),J a,.ah ds m 4,.aM],.ai [J k,J n,.ad s,.ah cs len 4]]:LV)=[.aa 0 0,.ai [.ad w.p.cT,J w.p.ar,J w.p.ao,.ah (aH w.sx) w.sx.length 4,.aM],.ai (aU w.g)]/\cp t=cp w.s/\eL NN 3000000 w.s w.g/\(∀x:List bG,x∈(gI w.s w.g).1.ao->(x:List bG)=[]->False)/\(∀f:bG,f∈tD w.s w.p w.sx w.g->ig f)/\(bG.mk w.p w.sx (gI w.s w.g).2::List.flatten (gI w.s w.g).1.ao).length<=4000000/\uw (bG.mk w.p w.sx (gI w.s w.g).2::List.flatten (gI w.s w.g).1.ao)=Prod.mk w.r w.e/\(gI w.s w.g).1=w.s2)/\Q (.aC [.ah (du w.r) w.r.length 5,J w.e]) an):=by kernel_rfl
theorem aCf{x0 l k n s cs len}(hl:l.length<4000000):∀i:Nat,i<=l.length->
 bu Z 49 28 1 (J (jL x0 l)) (aq [(0,dH k n s cs len)] 1) (Uv (jL x0 (l.take i)) true l l.length (i:Int)) (aq [(0,dH k n s cs len)] 1) (ax Z 49 1):=by
 refine dF (λi=>l.length-i) _ _ _ _ ?_;rintro i hi ih;refine hE W1 aCh ?_;refine aD (λay=>?_) λbq=>?_
 .have ay:i<l.length:=by simpa using ay
  refine⟨i,rfl,ay,l[i],acz ay,?_⟩;rw[cH (x:=(i:Int)+1)];have e:jL x0 (l.take (i+1))=aaF (jL x0 (l.take i)) l[i]:=by rw[sd,gS ay,jL,DN];rfl
  have:=ih (i+1) (by omega) (by omega);rw[e]at this;exact this
 .have bq:l.length<=i:=by simpa using bq
  have:i=l.length:=by omega
  subst this;rw[s6];exact⟨rfl,rfl⟩
theorem Lb:aS Z Q5:=by refine cu W1 ?_;rintro⟨k,n,s,l⟩ args H ⟨rfl,rfl,h1⟩;have b1:=BH (.mk k n s l);refine eE 28 W1 aCg ?_;refine⟨.mk k n s l,⟨rfl,rfl,h1⟩,?_⟩;exact aCf (by omega) 0 (fu _)
def zS(g:aF):Bool:=(fR g).isSome&&si g ((fR g).getD gf)
def lY(g:aF)(a:Int)(tr:Bool):da:=⟨jL 0 (dh g),a+1,tr,[]⟩
def NK(g:aF)(a:Int):cX:=⟨[],((dh g).length:Int),a⟩
def jM(g:aF)(a:Int)(tr:Bool):List bG:=tD (lY g a tr) (NK g a) (jV g) g
def p7(g:aF)(a:Int)(tr:Bool):List bG×Int:=
 if zS g=false\/a<1\/a>1099511623776 then([],1)else if jL 0 (dh g)>1099511625777 then([],2)else uw (jM g a tr)
structure Pe(g:aF)(a:Int)(tr:Bool)(new:List (List bG)):Prop where
 ao:(gI (lY g a tr) g).1.ao=new
 ok:lK (a+1) new new
 Qk:kX new (gI (lY g a tr) g).2
 len:new.length<=2000
 ba:(gI (lY g a tr) g).2.length<=12001
 Zs:eL NN 3000000 (lY g a tr) g
theorem am9{g}(h:zS g=true):fv g=true:=by simp only[zS,si,dc]at h;exact h.2.1.1
theorem Y5{g a}(tr)(h2:bB g)(v3:fv g=true)(ha:1<=a)(hb:a<=1099511623776):∃new,Pe g a tr new:=by
 have hs:=wW v3;have hg:=L8 g;have iV:ku g:=L4 (by omega);have aZ:eL NN 3000000 (lY g a tr) g:=⟨h2,by rw[PF];omega,by omega,by show 0+gm g<3000000;omega,iV⟩;have gn:=Zp NN (by rw[PF];omega);have gb:=qU NN;have key:iz (lY g a tr) (gI (lY g a tr) g) ((gm g:Int)-3)/\(gI (lY g a tr) g).2.length<=12001:=by
  unfold gI;split
  .have h3:=gn (lY g a tr).nx g (bY (lY g a tr).nv) aZ.2.1 h2 iV (by show 0<=a+1;omega) (by show a+1+_<_;omega);have h4:=gb (lY g a tr).nx g (bY (lY g a tr).nv) aZ.2.1;exact⟨(iz.nx h3).map λall h=>.op (by decide) h,by simp;omega⟩
  .exact⟨gn _ g 0 aZ.2.1 h2 iV (by show 0<=a+1;omega) (by show a+1+_<_;omega),by have:=gb (lY g a tr) g 0 aZ.2.1;omega⟩
 have⟨⟨new,a1,a2,a3,a4,a5⟩,k2⟩:=key;have a6:=a5 new λl h=>h
 exact⟨new,by rw[a1];rfl,a6.1,a6.2,by omega,k2,aZ⟩
theorem ahZ{g a tr new}(h:Pe g a tr new):(∀f∈jM g a tr,ig f)/\(jM g a tr).length<=4001:=by
 have hn:=lK.Bi h.ok;have hf:=Y9 λl hl=>(hn l hl).elim λn hn=>hn.2.1
 have hl:=h.len;have hv:=BH g;constructor
 .intro f hf;rcases dK.1 hf with rfl|hf
  .refine⟨by simp[dk,NK],by simp only[dk,jV,qo];omega,abL _,Nat.lt_of_le_of_lt h.ba (by decide),λq hq=>(h.Qk q hq).1⟩
  .rw[h.ao]at hf;have⟨l,hl,hf⟩:=List.mem_flatten.1 hf;have⟨n,hn⟩:=hn l hl;have⟨ar,hn⟩:=hn.2.2;exact(hn f hf).1
 .simp only[jM,tD,ei,h.ao];omega
structure vF where
 g:aF
 a:Int
 tr:Bool
 r:List bG
 e:Int
def fgX:cq vF where
 bh w A H:=A=[.ai (aU w.g),J w.a,.au w.tr]/\H=an/\bB w.g/\p7 w.g w.a w.tr=(w.r,w.e)
 v w:=.aC [.ah (du w.r) w.r.length 5,J w.e]
 aK w:=an
theorem atm:fgX.ck:=by rintro⟨c,a,tr,r,e⟩ ⟨c',a',BE,r',e'⟩ A H ⟨h1,_,_,q1⟩ ⟨h2,_,_,q2⟩;rw[h1]at h2;simp at h2;obtain⟨e1,rfl,rfl⟩:=h2;rw[lP e1,q2]at q1;cases q1;rfl
def Q6:Ev.bp:=bR 40 (bW fgX atm cB) Q5
theorem atE{k n s l a tr new r e}(h:Pe (.mk k n s l) a tr new)(hr:uw (jM (.mk k n s l) a tr)=(r,e)){m}(hm:m=(dh (.mk k n s l)).length){ds}(gC:ds=aH (jV (.mk k n s l))):
 bu Z 40 59 0 (.aC [.ah (du r) r.length 5,J e]) an (bg [(1,J a),(3,.aa 0 0),(11,.aa 1 0),(12,.ah ds m 4)]) (aq [(0,dH k n s (aH l) l.length),(1,.al [J (jL 0 (dh (.mk k n s l))),J (a+1),.au tr,.aM] 120)] 2) (cM Z Jm 40 0):=by
 subst hm gC;have hf:=ahZ h;refine rJ (H':=aq ([(0,dH k n s (aH l) l.length),(1,dO (lY (.mk k n s l) a tr) 2)]++[(2,.aA [] 84)]) (2+1)) ?_ (vg (g:=1) rfl (λid=>by rcases id with _|_|id<;>rfl) rfl (λφ x hx=>zC hx) ⟨rfl,rfl⟩);refine hE Lb aCe ?_;refine⟨⟨lY (.mk k n s l) a tr,NK (.mk k n s l) a,jV (.mk k n s l),.mk k n s l,r,e,(gI (lY (.mk k n s l) a tr) (.mk k n s l)).1⟩,⟨?_,rfl,h.Zs,λx hx=>(lK.Bi h.ok x (by rw[<-h.ao];exact hx)).elim λn hn=>hn.1,hf.1,kQ hf.2 (by decide),hr,rfl⟩,rfl,rfl⟩;have:(jV (.mk k n s l)).length=(dh (.mk k n s l)).length:=by simp[jV]
 rw[this];rfl
theorem atF{k n s l a tr new r e}(h:Pe (.mk k n s l) a tr new)(hr:uw (jM (.mk k n s l) a tr)=(r,e)){m}(hm:m=(dh (.mk k n s l)).length){ds}(gC:ds=aH (jV (.mk k n s l))):
 bu Z 40 59 0 (.aC [.ah (du r) r.length 5,J e]) an (bg [(1,J a),(3,.aa 0 0),(11,.aa 1 0),(12,.aj 2 m 4)]) (aq [(0,dH k n s (aH l) l.length),(1,.al [J (jL 0 (dh (.mk k n s l))),J (a+1),.au tr,.aM] 120),(2,.aA ds 49)] 3) (cM Z Jm 40 0):=by
 have h3:=atE h hr hm gC;have e1:fX 2 ds (.aj 2 m 4)=.ah ds m 4:=by subst hm gC;simp[fX,rH,jV]
 refine FF (g:=2) ?_ rfl;show bu Z 40 59 0 _ _ (bg [(1,J a),(3,.aa 0 0),(11,.aa 1 0),(12,fX 2 ds (.aj 2 m 4))]) (aq [(0,dH k n s (aH l) l.length),(1,.al [J (jL 0 (dh (.mk k n s l))),J (a+1),.au tr,.aM] 120),(2,.bm [])] 3) _;rw[e1];exact AZ (mw:=[0,1]) (ls:=[1,3,11,12]) (ps:=[(0,0),(1,1)]) h3
theorem PK:aS Z Q6:=by
 refine cu Lb ?_;rintro⟨⟨k,n,s,l⟩,a,tr,r,e⟩ args H ⟨rfl,rfl,ho,he⟩;have eg:([.ai [J k,J n,.ad s,.ah (aH l) l.length 4],.ai (im ((fR (.mk k n s l)).getD gf))]:LV)=[.ai (aU (.mk k n s l)),.ai (aU ((fR (.mk k n s l)).getD gf))]:=by rw[yV];rfl
 by_cases hc:zS (.mk k n s l)=false\/a<1\/a>1099511623776
 .rw[p7,aL hc]at he;cases he;refine qO ?_ (Wk.z_ (.qm 5 (.mF _))) (cE _);refine eE 59 Lb acM ?_;refine⟨.mk k n s l,⟨rfl,rfl,ho⟩,aD (λ_=>⟨rfl,rfl⟩) λh1=>⟨(.mk k n s l,(fR (.mk k n s l)).getD gf),⟨eg,rfl,ho,L9 ho⟩,aD (λ_=>⟨rfl,rfl⟩) λh2=>aD (λ_=>⟨rfl,rfl⟩) λh3=>aD (λ_=>⟨rfl,rfl⟩) λh4=>?_⟩⟩;exfalso;rcases hc with hc|hc|hc
  .simp at h1 h2;rw[zS,h1,h2]at hc;cases hc
  .exact eB h3 hc
  .exact eB h4 hc
 .rw[p7,az hc]at he;have hs:zS (.mk k n s l)=true:=by
   cases h:zS (.mk k n s l)with
   |true=>rfl
   |false=>exact absurd (.inl h) hc
  have h1:=λh=>hc (.inr (.inl h))
  have h2:=λh=>hc (.inr (.inr h))
  have wj:=hs;simp only[zS,dc]at wj;by_cases hv:jL 0 (dh (.mk k n s l))>1099511625777
  .rw[aL hv]at he;cases he;refine qO ?_ (Wk.z_ (.qm 5 (.mF _))) (cE _);refine eE 59 Lb acM ?_;exact⟨.mk k n s l,⟨rfl,rfl,ho⟩,aD (λh=>(by rw[wj.1]at h;cases h)) λ_=>⟨(.mk k n s l,(fR (.mk k n s l)).getD gf),⟨eg,rfl,ho,L9 ho⟩,aD (λh=>(by rw[wj.2]at h;cases h)) λ_=>aD (λh=>absurd (dX h) h1) λ_=>aD (λh=>absurd (dX h) h2) λ_=>⟨.mk k n s l,⟨rfl,rfl,ho⟩,aD (λ_=>⟨rfl,rfl⟩) λh=>absurd hv (eB h)⟩⟩⟩
  .rw[az hv]at he;have⟨new,kN⟩:=Y5 (a:=a) tr ho (am9 hs) (by omega) (by omega);have hh:=atF kN he rfl rfl;refine eE 59 Lb acM ?_;refine⟨.mk k n s l,⟨rfl,rfl,ho⟩,aD (λh=>(by rw[wj.1]at h;cases h)) λ_=>⟨(.mk k n s l,(fR (.mk k n s l)).getD gf),⟨eg,rfl,ho,L9 ho⟩,aD (λh=>(by rw[wj.2]at h;cases h)) λ_=>aD (λh=>absurd (dX h) h1) λ_=>aD (λh=>absurd (dX h) h2) λ_=>⟨.mk k n s l,⟨rfl,rfl,ho⟩,aD (λh=>absurd (dX h) hv) λ_=>?_⟩⟩⟩;rw[cH (x:=a+1)];by_cases qX:(dh (.mk k n s l)).isEmpty=true
   .refine⟨false,.mk k n s l,⟨rfl,rfl,ho,qX⟩,?_⟩;have h0:=List.isEmpty_iff.1 qX;rw[h0]at hh⊢;have h4:jV (.mk k n s l)=[]:=by simp[jV,h0]
    rw[h4]at hh;exact AY 4 49 [12] hh rfl
   .exact⟨true,.mk k n s l,⟨rfl,rfl,ho,by simpa using qX⟩,hh⟩
def Mh(z:Ar)(bs:LV):AH:=bU z.X z.xc [(0,dS z 1 2 3 4 5 6),(1,cQ z),(2,dz z),(3,dx z),(4,dg z),(5,dG z),(6,cJ z),(7,.aA bs 44)] 8
def qN(z:Ar)(l:List bG):Ar×List eW×Int:=
 if(eu z l).2.2≠0 then((eu z l).1,[],(eu z l).2.2)else((eu z l).1.ps l,(eu z l).2.1,0)
structure oI where
 z:Ar
 l:List bG
 zf:Ar
 bl:List eW
 e:Int
def agn:cq oI where
 bh w A H:=A=[.aa 0 0,.ah (du w.l) w.l.length 5,.bn (.func 41) [.aa 0 0] []]/\H=hA w.z/\(∀f∈w.l,ig f/\nZ f)/\w.l.length<=4000000/\qN w.z w.l=(w.zf,w.bl,w.e)
 v w:=.aC [.ah (fC w.bl) w.bl.length 9,J w.e]
 aK w:=hA w.zf
theorem arq:agn.ck:=by rintro⟨z,l,zf,bl,e⟩ ⟨z',l',Vd,XW,e'⟩ A H ⟨h1,h2,_,_,q1⟩ ⟨h3,h4,_,_,q2⟩;have e1:=uQ (h2.symm.trans h4);rw[h1]at h3;simp at h3;have e4:=LM h3.2 h3.1;subst e1 e4;rw[q1]at q2;cases q2;rfl
def Q7:Ev.bp:=bR 28 (bW agn arq lS) Q6
theorem aCb{z fs nf L Q}:
 bC Z Q6 Bg L Q 1000 28 [.aa 0 0,.ah fs nf 5,.bn (.func 41) [.aa 0 0] []] (hA z)=(
 L (bg [(0,.aa 0 0),(1,.ah fs nf 5),(2,.bn (.func 41) [.aa 0 0] []),(6,.aM),(12,.ah fs nf 5),(13,J (aP nf)),(14,J 0)]) (hA z) (ax Z 28 0)):=by kernel_rfl
abbrev ada(x0:_)(x1:_)(x2:_)(x3:_):=bg [(0,.aa 0 0),(1,.ah x0 x1 5),(2,.bn (.func 41) [.aa 0 0] []),(6,.aj 7 x2 9),(12,.ah x0 x1 5),(13,J (aP x1)),(14,J x3)]
theorem ank{z fs nf bs nb j L Q}:
 cg Z Q6 Bg L Q 1000 28 7 (ada fs nf nb j) (ax Z 28 0) (Mh z bs)=(
 aw (decide (j<aP nf)) (∃i:Nat,j=(i:Int)/\i<nf/\(∃s:LN,∃n:Int,∃aN:Int,∃cs:LV,∃len:Nat,∃bP:LV,∃bI:Nat,((fs.drop (i*5)).take 5:List AV)=[.ad s,J n,J aN,.ah cs len 4,.ah bP bI 6]/\(∃w:Ar,(([.aa 0 0]:LV)=[.aa 0 0]/\hA z=hA w)/\some (.ai [.ad s,J n,J aN,.ah cs len 4,.ah bP bI 6]:AV)=some (.ai [.ad s,J n,J aN,.ah cs len 4,.ah bP bI 6]:AV)/\(∃ae:Cw,(([.ai [.ad s,J n,J aN,.ah cs len 4,.ah bP bI 6],J (wI (wI (w.id+1)-1))]:LV)=[.ai (gP ae.f),J ae.i]/\aq [] 0=an/\ig ae.f/\nZ ae.f/\gW ae.f ae.i=Prod.mk ae.b ae.e)/\aw (ae.e !=0) (Q (.aC [.aM,J ae.e]) (hA w.tk)) ((bs.length=nb*9/\nb+1<=4194304/\true=true/\true=true)/\L (ada fs nf (nb+1) (wI (j+1))) (Mh w.tk (bs++[J ae.b.id,.ad ae.b.aO.cT,J ae.b.aO.ar,J ae.b.aO.ao,J ae.b.l4.1,J ae.b.l4.2.1,.ad ae.b.l4.2.2.1,J ae.b.l4.2.2.2,.ah (cS ae.b.o7) ae.b.o7.length 6])) (ax Z 28 0)))))) (∃w:Ar×List bG,(([.aa 0 0,.ah fs nf 5]:LV)=[.aa 0 0,.ah (du w.2) w.2.length 5]/\hA z=hA w.1/\w.2.length<=4000000)/\Q (.aC [.aj 7 nb 9,J 0]) (Mh (w.1.ps w.2) bs))):=by kernel_rfl
def HG(e:Int)(n:Nat):AV:=if e≠0 then .aC [.aM,J e]else .aC [.aj 7 n 9,J 0]
def HF(z:Ar)(l:List bG)(e:Int)(bs:List eW):AH:=if e≠0 then hA z else Mh (z.ps l) (fC bs)
theorem anj{l}(ho:∀f∈l,ig f/\nZ f)(hl:l.length<=4000000):∀t bh z bs,l=bh++t->bs.length=bh.length->
 bu Z 28 43 7 (HG (eu z t).2.2 (bs++(eu z t).2.1).length) (HF (eu z t).1 l (eu z t).2.2 (bs++(eu z t).2.1))
  (ada (du l) l.length bs.length (bh.length:Int)) (Mh z (fC bs)) (ax Z 28 0)
 |[],bh,z,bs,e1,e2=>by
  rw[jH]at e1;subst e1;refine hE PK ank ?_;refine aD (λay=>ab (dX ay)) λ_=>?_
  refine⟨(z,l),⟨rfl,rfl,hl⟩,?_⟩;simp only[eu,HG,HF,jH];exact⟨rfl,rfl⟩
 |f::t,bh,z,bs,e1,e2=>by
  have ay:bh.length<l.length:=by rw[e1];simp
  have aac:l[bh.length]=f:=by simp[e1]
  have qZ:=ho f (by rw[e1];simp);have b_:=HZ ay;rw[aac]at b_;simp only[eu];generalize hc:gW f (GI z)=r;have⟨b,e⟩:=r;refine hE PK ank ?_;have ih:=λb=>anj ho hl t (bh++[f]) z.tk (bs++[b]) (by rw[e1,km];rfl) (by simp[e2])
  refine aD (λ_=>?_) λbq=>ab (eB bq)
  have⟨⟨nm,ar,ao⟩,ts,gs⟩:=f;refine⟨bh.length,rfl,ay,nm,ar,ao,aH ts,ts.length,bD gs,gs.length,b_,z,⟨rfl,rfl⟩,rfl,⟨⟨⟨nm,ar,ao⟩,ts,gs⟩,GI z,b,e⟩,⟨rfl,rfl,qZ.1,qZ.2,hc⟩,aD (λhe=>?_) λhe=>⟨⟨HX _,by omega,rfl,rfl⟩,?_⟩⟩
  .have he:e≠0:=by simpa using he
   rw[aL he];simp only[HG,HF,aL he];exact⟨rfl,rfl⟩
  .have he:¬e≠0:=by simpa using he
   rw[az he];rw[cH];have h1:=ih b;rw[km,YL,show(bs++[b]).length=bs.length+1 by simp,show(bh++[(⟨⟨nm,ar,ao⟩,ts,gs⟩:bG)]).length=bh.length+1 by simp]at h1;exact h1
theorem W2:aS Z Q7:=by
 refine cu PK ?_;rintro⟨z,l,zf,bl,e⟩ args H ⟨rfl,rfl,ho,hl,hr⟩;simp only at ho hl hr;have h0:=anj ho hl l [] z [] rfl rfl;simp at h0;have h1:bX Z 28 [.aa 0 0,.ah (du l) l.length 5,.bn (.func 41) [.aa 0 0] []] (hA z) (HG (eu z l).2.2 (eu z l).2.1.length) (HF (eu z l).1 l (eu z l).2.2 (eu z l).2.1):=by refine eE 43 PK aCb ?_;exact AY 9 44 [6] h0 rfl
 rw[qN]at hr;by_cases he:(eu z l).2.2≠0
 .rw[aL he]at hr;cases hr;rw[HG,HF,aL he,aL he]at h1;refine qO h1 (Wk.z_ (.qm 9 (.mF _))) (cE _)
 .rw[az he]at hr;cases hr;rw[HG,HF,az he,az he]at h1;have h2:=sG (g:=7) h1 rfl (by show(7:Nat)<=8;omega);have e1:fX 7 (fC (eu z l).2.1) (.aC [.aj 7 (eu z l).2.1.length 9,J 0])=.aC [.ah (fC (eu z l).2.1) (eu z l).2.1.length 9,J 0]:=by simp[fX,p8,HX]
  rw[e1]at h2;exact lR (ps:=[(0,0),(1,1),(2,2),(3,3),(4,4),(5,5),(6,6)]) h2
def xy(e:Int):Prop:=e=0\/e=1\/e=2
theorem afS(l b):xy (fQ l b).2:=by
 unfold fQ;split
 .exact .inl rfl
 .exact .inr (.inl rfl)
theorem aqu(code base):∀todo a b c aK,xy (yM code base a b c aK todo).2:=by
 intro todo;induction todo with
 |nil=>intro a b c aK;all_goals first|exact .inl rfl|exact afS _ _
 |cons x l ih=>
  intro a b c aK;unfold yM;repeat' split
  all_goals first|exact ih _ _ _ _|exact afS _ _|exact .inl rfl
theorem agu(f i):xy (gW f i).2:=by
 unfold gW;split
 .exact .inr (.inl rfl)
 .split
  .show xy (nG (bF f)).2;unfold nG;split
   .exact .inr (.inr rfl)
   .exact aqu _ _ _ _ _ _ _
  .exact .inl rfl
theorem agx:∀l z,xy (eu z l).2.2
 |[],z=>.inl rfl
 |f::l,z=>by
  simp only[eu];split
  .exact agu _ _
  .exact agx l z.tk
theorem arB(z i l):xy (og z i l).2.2:=by
 cases l with
 |nil=>exact .inl rfl
 |cons f l=>
  simp only[og];split
  .exact agu _ _
  .split
   .exact agx _ _
   .exact .inl rfl
theorem atu(c a tr):xy (oK c a tr).2:=by
 unfold oK;split
 .exact .inr (.inl rfl)
 .unfold uw;split
  .exact .inl rfl
  .exact .inr (.inr rfl)
theorem aE6{tr st s}(h:xy st.e):xy (jJ tr st s).e:=by
 unfold jJ;split
 .exact h
 .split
  .exact atu _ _ _
  .exact arB _ _ _
theorem aFL(z tr l):xy (eh z tr l).e:=
 LH (P:=λst:S3=>xy st.e) (λst p s h=>aE6 h) (.inl rfl)
theorem aE8{tr st s}(h:st.aW.length=st.cP.length):(jJ tr st s).aW.length=(jJ tr st s).cP.length:=by
 unfold jJ;split
 .exact h
 .split
  .exact h
  .simp only[cL,h,ei,gY]
theorem aoq(z tr l):(eh z tr l).aW.length=(eh z tr l).cP.length:=
 LH (P:=λst:S3=>st.aW.length=st.cP.length) (λst p s h=>aE8 h) rfl
theorem agW{σ iE}{c:σ->Nat}(h:∀st p s,c (iE st p s)<=c st+1):∀l st,c (uL iE st l)<=c st+ki l
 |[],st=>cE _
 |p::l,st=>by
  have h1:∀(ss:List j3) (st:σ),c (ss.foldl (λst s=>iE st p s) st)<=c st+ss.length:=by
   intro ss;induction ss with
   |nil=>exact λst=>cE _
   |cons s ss ih=>intro st;have:=ih (iE st p s);have:=h st p s;simp;omega
  have h2:=h1 p.cf st;have h3:=agW h l (p.cf.foldl (λst s=>iE st p s) st);show c (uL iE (p.cf.foldl (λst s=>iE st p s) st) l)<=_;simp only[ki,gZ,List.sum_cons]at h3⊢;omega
theorem aoo(z tr l):(eh z tr l).aW.length<=ki l:=by
 have:=agW (iE:=λst _ s=>jJ tr st s) (c:=λst:S3=>st.aW.length) (λst p s=>?_) l ⟨z,0,[],[]⟩
 .unfold eh;simpa using this
 .simp only[jJ];split
  .omega
  .split
   .simp only;omega
   .simp only[cL,ei,gY];omega
theorem Qx{σ iE}{P:σ->Prop}:∀{l st},(∀st,∀p∈l,∀s∈p.cf,P st->P (iE st p s))->P st->P (uL iE st l)
 |[],st,_,h0=>h0
 |p::l,st,h,h0=>by
  have h1:∀(ss:List j3) (st:σ),(∀s∈ss,s∈p.cf)->P st->P (ss.foldl (λst s=>iE st p s) st):=by
   intro ss;induction ss with
   |nil=>exact λst _ h=>h
   |cons s ss ih=>exact λst hs hp=>ih _ (λx hx=>hs x (en _ hx)) (h st p (dY ..) s (hs s (dY ..)) hp)
  exact Qx (l:=l) (λst q hq=>h st q (en _ hq)) (h1 p.cf st (λs hs=>hs) h0)
theorem Yn:∀l z,(eu z l).2.2=0->(eu z l).2.1.length=l.length
 |[],z,_=>rfl
 |f::l,z,h=>by
  simp only[eu]at h⊢;split at h;next hc=>exact absurd h hc
  next hc=>rw[az hc];simp only[ei,Yn l z.tk h]
theorem arC(z i l)(h:(og z i l).2.2=0):(og z i l).2.1.length=l.length:=by
 cases l with
 |nil=>rfl
 |cons f l=>
  simp only[og]at h⊢;split at h;next hc=>exact absurd h hc
  next hc=>
   split at h;next qV=>exact absurd h qV
   next qV=>rw[az hc,az qV];simp only[ei,Yn l z (yj.1 qV)]
theorem ats(c a tr):tC c a tr≠[]:=by simp[tC,tD]
theorem adz(z tr l)(ho:∀p∈l,∀s∈p.cf,ub s.c):(eh z tr l).e=0->∀b∈(eh z tr l).cP,b≠[]/\b.length<=4001:=by
 refine Qx (P:=λst:S3=>st.e=0->∀b∈st.cP,b≠[]/\b.length<=4001) (λst p hp s hs h=>?_) (λ_ b hb=>by cases hb);unfold jJ;split;next he=>exact λh0=>absurd h0 he
 next he=>
  split;next hf=>exact λh0=>absurd h0 hf
  next hf=>
   intro h0 b hb;rcases iW.1 hb with hb|hb
   .exact h (yj.1 he) b hb
   .rw[pD]at hb;have⟨_,k2,_,_,_,k6,_⟩:=Rc (ho p hp s hs) hf;have hl:=arC st.z s.id _ h0;rw[<-hb]at hl;refine⟨λhz=>?_,by omega⟩;rw[hz,k6]at hl;exact ats _ _ _ (mo hl.symm)
def Cu(z:Ar)(m:List En)(g:aF)(tr:Bool):Int×Ar:=
 if(p7 g z.ao tr).2≠0 then((p7 g z.ao tr).2,z)
 else if(qN z (p7 g z.ao tr).1).2.2≠0 then((qN z (p7 g z.ao tr).1).2.2,z)
 else(0,rP (qN z (p7 g z.ao tr).1).1 m (qN z (p7 g z.ao tr).1).2.1 true)
structure Hd(z:Ar)(m:List En):Prop where
 eQ:z.eQ=ep m
 ok:Ks.OK ⟨m,z.oc,z.X,z.xc⟩ 3900000
 fG:z.fG.length=z.ng/\z.ng+1<=4000000
 add:z.pM.length=z.na*9/\z.na<=3900000
structure ir where
 z:Ar
 m:List En
 g:aF
 tr:Bool
 e:Int
 zf:Ar
def air:xj (λ_=>ir)where
 bh b w A H:=A=[.aa 0 0,.ai (aU w.g),.au w.tr]/\H=hA w.z/\bB w.g/\Hd w.z w.m/\Cu w.z w.m w.g w.tr=(w.e,w.zf)/\decide (w.e=0)=b
 v b w:=match b with
  |true=>.aC [.ai [.ad [],J ((dh w.g).length:Int),J w.z.ao],.ah (aX (dh w.g)) (dh w.g).length 1,J 0]
  |false=>.aC [.ai [.ad [],J 0,J 0],.aM,J w.e]
 aK b w:=match b with
  |true=>Mm w.zf
  |false=>hA w.z
theorem atY:air.ck:=by rintro b ⟨z,m,g,tr,e,zf⟩ b' ⟨z',m',g',BE,e',Vd⟩ A H ⟨h1,h2,_,k1,q1,q3⟩ ⟨h3,h4,_,k2,q2,q4⟩;have e1:=uQ (h2.symm.trans h4);rw[h1]at h3;subst e1;simp at h3;obtain⟨h5,rfl⟩:=h3;have e2:=lP h5;subst e2;have e3:=QJ (k:=⟨m,z.oc,z.X,z.xc⟩) (k':=⟨m',z.oc,z.X,z.xc⟩) rfl k1.ok k2.ok (k1.eQ.symm.trans k2.eQ);subst e3;rw[q1]at q2;cases q2;subst q3 q4;rfl
def Q8:Ev.bp:=bR 19 (Y4 air atY lS) Q7
theorem ani{z k n s cs len b L Q}:
 bC Z Q7 (λ_=>[]) L Q 1000 19 [.aa 0 0,.ai [J k,J n,.ad s,.ah cs len 4],.au b] (hA z)=(
 ∃w:Ar,(([.aa 0 0]:LV)=[.aa 0 0]/\hA z=hA w)/\(∃ae:vF,(([.ai [J k,J n,.ad s,.ah cs len 4],J w.ao,.au b]:LV)=[.ai (aU (vF.g ae)),J (vF.a ae),.au (vF.tr ae)]/\aq [] 0=an/\bB (vF.g ae)/\p7 (vF.g ae) (vF.a ae) (vF.tr ae)=Prod.mk ae.r (vF.e ae))/\aw (vF.e ae !=0) (Q (.aC [.ai [.ad [],J 0,J 0],.aM,J (vF.e ae)]) (hA w)) (∃aE:oI,(([.aa 0 0,.ah (du ae.r) ae.r.length 5,.bn (.func 41) [.aa 0 0] []]:LV)=[.aa 0 0,.ah (du aE.l) aE.l.length 5,.bn (.func 41) [.aa 0 0] []]/\hA w=hA aE.z/\(∀f:bG,f∈aE.l->ig f/\nZ f)/\aE.l.length<=4000000/\qN (oI.z aE) aE.l=Prod.mk (oI.zf aE) (Prod.mk aE.bl (oI.e aE)))/\aw (oI.e aE !=0) (Q (.aC [.ai [.ad [],J 0,J 0],.aM,J (oI.e aE)]) (bU aE.zf.X (oI.zf aE).xc [(0,.al [J w.ao,J w.id,.aj 1 (oI.zf aE).ng 1,.aB 2,.aB 3,.aB 4,.aB 5,.aj 6 (oI.zf aE).na 9,.aM] 78),(1,cQ aE.zf),(2,.aY aE.zf.fo (oI.zf aE).cc true),(3,.aY aE.zf.nq (oI.zf aE).rc true),(4,.aY aE.zf.dT (oI.zf aE).nc true),(5,.aY aE.zf.eQ (oI.zf aE).oc true),(6,cJ aE.zf)] 7)) (∃bQ:Kw,(([.aa 0 0,.ah (fC aE.bl) aE.bl.length 9,.au true]:LV)=[.aa 0 0,.ah (fC bQ.l) bQ.l.length 9,.au bQ.b]/\bU aE.zf.X (oI.zf aE).xc [(0,dS (oI.zf aE) 1 2 3 4 5 6),(1,cQ aE.zf),(2,.aY aE.zf.fo (oI.zf aE).cc true),(3,.aY aE.zf.nq (oI.zf aE).rc true),(4,.aY aE.zf.dT (oI.zf aE).nc true),(5,.aY aE.zf.eQ (oI.zf aE).oc true),(6,cJ aE.zf)] 7=hA bQ.z/\Hm bQ.z bQ.m bQ.l/\rP bQ.z bQ.m bQ.l bQ.b=bQ.zf/\bQ.zf.xc=bQ.c+1)/\0<ae.r.length/\(∃cr:LN,∃aN:Int,∃bz:Int,∃bP:LV,∃bI:Nat,∃hZ:LV,∃ib:Nat,(((du ae.r).drop 0).take 5:List AV)=[.ad cr,J aN,J bz,.ah bP bI 4,.ah hZ ib 6]/\(∃dV:aF,(([.ai [J k,J n,.ad s,.ah cs len 4]]:LV)=[.ai (aU dV)]/\aq [] 0=an/\bB dV)/\some (.ai [.ad cr,J aN,J bz]:AV)=some (.ai [.ad cr,J aN,J bz]:AV)/\Q (.aC [.ai [.ad cr,J aN,J bz],.ah (aX (dh dV)) (dh dV).length 1,J 0]) (Mm bQ.zf))))))):=by kernel_rfl
theorem agw(z l):∃a i,(qN z l).1={z with ao:=a,id:=i}:=by
 have⟨i,h⟩:=Yp l z;unfold qN;split
 .exact⟨z.ao,i,h⟩
 .exact⟨_,i,by rw[h];rfl⟩
theorem atv{g a tr}(hv:fv g=true):∀f∈jM g a tr,nZ f:=by
 have s2:=wW hv;have gt:=Zq NN;have hb:=BH g;have key:fp (gI (lY g a tr) g).2<=10*bM g+1/\(gI (lY g a tr) g).2.length<=3*bM g+1/\∀l∈(gI (lY g a tr) g).1.ao,∀f∈l,nZ f:=by
  unfold gI;split
  .have:=gt (lY g a tr).nx g (bY (lY g a tr).nv) (by omega);refine⟨by simp only[fp,oG,bN];omega,by simp;omega,λl hl=>(this.2.2 l hl).elim (λh=>by cases h) id⟩
  .have:=gt (lY g a tr) g 0 (by omega);exact⟨by omega,by omega,λl hl=>(this.2.2 l hl).elim (λh=>by cases h) id⟩
 intro f hf;rcases dK.1 hf with rfl|hf
 .exact⟨by simp only[jV,adw];omega,by simp only;omega⟩
 .have⟨l,hl,hf⟩:=List.mem_flatten.1 hf;exact key.2.2 l hl f hf
theorem ah0{g a tr}(ho:bB g)(h:¬(p7 g a tr).2≠0):(p7 g a tr).1=jM g a tr/\fv g=true/\1<=a/\a<=1099511623776/\(∀f∈jM g a tr,ig f/\nZ f)/\(jM g a tr).length<=4001:=by
 unfold p7 at h⊢;split at h
 .simp at h
 next hc=>
  rw[az hc];split at h
  .simp at h
  next hv=>
   rw[az hv];have hs:zS g=true:=by
    cases h:zS g with
    |true=>rfl
    |false=>exact absurd (.inl h) hc
   have CZ:=am9 hs;have⟨new,hn⟩:=Y5 (a:=a) tr ho CZ (by omega) (by omega);have hk:=ahZ hn;unfold uw at h⊢;split at h;next h3=>rw[aL h3];exact⟨rfl,CZ,by omega,by omega,λf hf=>⟨hk.1 f hf,atv CZ f hf⟩,hk.2⟩
   .simp at h
theorem afa:aS Z Q8:=by
 refine afx W2 ?_;rintro b ⟨z,m,⟨k,n,s,l⟩,tr,e,zf⟩ args H ⟨rfl,rfl,ho,hg,hr,hb⟩;simp only at ho hg hr hb;unfold Cu at hr;by_cases h1:(p7 (.mk k n s l) z.ao tr).2≠0
 .rw[aL h1]at hr;cases hr;obtain rfl:b=false:=by rw[<-hb];exact decide_eq_false h1
  refine eE 61 W2 ani ?_;exact⟨z,⟨rfl,rfl⟩,⟨.mk k n s l,z.ao,tr,(p7 (.mk k n s l) z.ao tr).1,(p7 (.mk k n s l) z.ao tr).2⟩,⟨rfl,rfl,ho,rfl⟩,aD (λ_=>⟨rfl,rfl⟩) λh=>absurd h (by simpa using h1)⟩
 .rw[az h1]at hr;have⟨f1,f2,f3,f4,f5,f6⟩:=ah0 ho h1;rw[f1]at hr;have⟨a',i',hz⟩:=agw z (jM (.mk k n s l) z.ao tr);have bS:(qN z (jM (.mk k n s l) z.ao tr)).2.2=0->(qN z (jM (.mk k n s l) z.ao tr)).2.1.length=(jM (.mk k n s l) z.ao tr).length:=by
   unfold qN;intro h;split at h;next h3=>exact absurd h h3
   next h3=>rw[az h3];exact Yn _ z (yj.1 h3)
  have kN:p7 (.mk k n s l) z.ao tr=(jM (.mk k n s l) z.ao tr,0):=Prod.ext f1 (yj.1 h1);have xN:0<(jM (.mk k n s l) z.ao tr).length:=by simp[jM,tD]
  have b_:=HZ xN;have hhd:(jM (.mk k n s l) z.ao tr)[0]=⟨NK (.mk k n s l) z.ao,jV (.mk k n s l),(gI (lY (.mk k n s l) z.ao tr) (.mk k n s l)).2⟩:=rfl;rw[hhd]at b_;generalize jM (.mk k n s l) z.ao tr=fl at hr f5 f6 hz bS kN xN b_;generalize hc:qN z fl=c at hr hz bS;have⟨zc,bl,e2⟩:=c;simp only at hr hz bS;subst hz;refine eE 61 W2 ani ?_;by_cases h2:e2≠0
  .rw[aL h2]at hr;cases hr;obtain rfl:b=false:=by rw[<-hb];exact decide_eq_false h2
   exact⟨z,⟨rfl,rfl⟩,⟨.mk k n s l,z.ao,tr,fl,0⟩,⟨rfl,rfl,ho,kN⟩,aD (λh=>ab h) λ_=>⟨⟨z,fl,_,bl,_⟩,⟨rfl,rfl,f5,by simp only;omega,hc⟩,aD (λ_=>⟨rfl,rfl⟩) λh=>absurd h (by simpa using h2)⟩⟩
  .rw[az h2]at hr;have h2:=yj.1 h2;have lU:=bS h2;subst h2;cases hr;obtain rfl:b=true:=by rw[<-hb];rfl
   have hko:Hm {z with ao:=a',id:=i'} m bl:=⟨hg.eQ,Ks.OK.GU hg.ok (by omega),λh=>by rw[h]at lU;simp at lU;omega,by omega,hg.fG,⟨hg.add.1,by have:=hg.add.2;simp only;omega⟩⟩;refine⟨z,⟨rfl,rfl⟩,⟨.mk k n s l,z.ao,tr,fl,0⟩,⟨rfl,rfl,ho,kN⟩,aD (λh=>ab h) λ_=>⟨⟨z,fl,_,bl,0⟩,⟨rfl,rfl,f5,by simp only;omega,hc⟩,aD (λh=>ab h) λ_=>?_⟩⟩;exact⟨⟨{z with ao:=a',id:=i'},m,bl,true,rP {z with ao:=a',id:=i'} m bl true,(iF ⟨m,z.oc,z.X,z.xc⟩ bl).xc⟩,⟨rfl,rfl,hko,rfl,rfl⟩,xN,[],((dh (.mk k n s l)).length:Int),z.ao,_,_,_,_,b_,.mk k n s l,⟨rfl,rfl,ho⟩,rfl,rfl,rfl⟩
def oN:AH:=aq [(0,.al [.aB 1] 74),(1,.aY [] 0 true)] 2
def ahM:LV->AH->Option (Prop×AV×AH)
 |[.ai [.bV .i64 i,.ad s,.bV .i64 a,.bV .i64 b],.aa 0 0],H=>some (H=oN,.au false,oN)
 |_,_=>none
def Q9:Ev.bp:=fk 39 ahM Q8
def aj9:cq (List eW)where
 bh l A H:=A=[.ah (jw l) l.length 4,.bn (.func 39) [] [.aa 0 0]]/\H=oN/\l.length<=4000000
 v l:=J (-1)
 aK l:=oN
theorem av4:aj9.ck:=λ_ _ _ _ _ _=>rfl
def WU:Ev.bp:=bR 62 (bW aj9 av4 cB) Q9
def agF:cq (List eW)where
 bh l A H:=A=[.ah (jw l) l.length 4,.bn (.func 39) [] [.aa 0 0]]/\H=oN/\l.length<=4000000
 v l:=.au false
 aK l:=oN
theorem arI:agF.ck:=λ_ _ _ _ _ _=>rfl
def K_:Ev.bp:=bR 38 (bW agF arI cB) WU
def akR:Nat->LN:=fh [(2,[0,1,7,8])]
theorem aCd{i a b s L Q}:
 bC Z Q8 (λ_=>[]) L Q 1000 39 [.ai [J i,.ad s,J a,J b],.aa 0 0] oN=(
 ∃gA:Bool,∃Ls:Bool,eZ Z 2 4 [] (J i)=some (.au gA,Ls)/\Q (.au gA) oN):=by kernel_rfl
abbrev Uw(x0:_)(x1:_)(x2:_):=bg [(0,.ah x0 x1 4),(1,.bn (.func 39) [] [.aa 0 0]),(7,J (aP x1)),(8,J x2)]
theorem aCl{ms n L Q}:
 bC Z Q9 akR L Q 1000 62 [.ah ms n 4,.bn (.func 39) [] [.aa 0 0]] oN=(
 L (Uw ms n 0) oN (ax Z 62 0)):=by kernel_rfl
theorem aCm{ms n i L Q}:
 cg Z Q9 akR L Q 1000 62 2 (Uw ms n i) (ax Z 62 0) oN=(
 aw (decide (i<aP n)) (∃aJ:Nat,i=(aJ:Int)/\aJ<n/\(∃aN:Int,∃s:LN,∃bz:Int,∃ct:Int,((ms.drop (aJ*4)).take 4:List AV)=[J aN,.ad s,J bz,J ct]/\aq [(0,.al [.aB 1] 74),(1,.aY [] 0 true)] 2=oN/\L (Uw ms n (wI (i+1))) oN (ax Z 62 0))) (Q (J (-1)) oN)):=by kernel_rfl
theorem aCc{ms n L Q}:
 bC Z WU (λ_=>[]) L Q 1000 38 [.ah ms n 4,.bn (.func 39) [] [.aa 0 0]] oN=(
 ∃w:List eW,(([.ah ms n 4,.bn (.func 39) [] [.aa 0 0]]:LV)=[.ah (jw w) w.length 4,.bn (.func 39) [] [.aa 0 0]]/\aq [(0,.al [.aB 1] 74),(1,.aY [] 0 true)] 2=oN/\w.length<=4000000)/\Q (.au false) oN):=by kernel_rfl
theorem W3:aS Z Q9:=by
 refine EH afa λargs H p v H' h hp=>?_
 unfold ahM at h;split at h<;>cases h;subst hp;refine eE 8 afa aCd ?_;exact⟨false,false,by kernel_rfl,rfl,rfl⟩
theorem YR:∀{l i} (h:i<l.length),((jw l).drop (i*4)).take 4=[J l[i].id,.ad l[i].aO.cT,J l[i].aO.ar,J l[i].aO.ao]
 |[],i,h=>by simp at h
 |t0::l,0,h=>by simp[jw]
 |t0::l,i+1,h=>by
  have hl:i<l.length:=by simpa using h
  have h1:=YR hl;rw[show(i+1)*4=4+i*4 by omega,<-wM];exact h1
theorem aCk{l}(hl:l.length<=4000000):∀i:Nat,i<=l.length->
 bu Z 62 19 2 (J (-1)) oN (Uw (jw l) l.length (i:Int)) oN (ax Z 62 0):=by
 refine dF (λi=>l.length-i) _ _ _ _ ?_;rintro i hi ih;refine hE W3 aCm ?_;refine aD (λay=>?_) λbq=>⟨rfl,rfl⟩
 have ay:i<l.length:=by simpa using ay
 refine⟨i,rfl,ay,_,_,_,_,YR ay,rfl,?_⟩;rw[cH];exact ih (i+1) ay (by omega)
theorem ae6:aS Z WU:=by refine cu W3 ?_;rintro l args H ⟨rfl,rfl,hl⟩;refine eE 19 W3 aCl ?_;exact aCk hl 0 (fu _)
theorem K':aS Z K_:=by refine cu ae6 ?_;rintro l args H ⟨rfl,rfl,hl⟩;refine eE 9 ae6 aCc ?_;exact⟨l,⟨rfl,rfl,hl⟩,rfl,rfl⟩
def sf(p:cX):List En->List En
 |[]=>[]
 |e::m=>if p=e.p then m else e::sf p m
def wP(l:List eW)(m:List En):List En:=l.foldl (λm b=>sf b.aO m) m
theorem ahH(p):∀m i,(match sP p m i with|some x=>AL (ep m) (x.1-i)=ep (sf p m)/\i<=x.1|none=>sf p m=m)
 |[],_=>rfl
 |e::m,i=>by
  have ih:=ahH p m (i+1);simp only[sP,sf];by_cases h:p=e.p
  .simp only[aL h,Nat.sub_self,cE,and_true];rfl
  .simp only[az h];cases h2:sP p m (i+1)with
   |none=>rw[h2]at ih;simp only[ih]
   |some x=>rw[h2]at ih;have⟨h3,h4⟩:=ih;refine⟨?_,by omega⟩;rw[show x.1-i=(x.1-(i+1))+1 by omega];show yX e::AL (ep m) (x.1-(i+1))=_;rw[h3];rfl
theorem Yz(m p):LD Z 39 (ep m) (mj p)=some (ep (sf p m)):=by
 have h:=ahH p m 0;unfold LD;rw[Im];cases h2:sP p m 0 with
 |none=>rw[h2]at h;simp only[h];rfl
 |some x=>rw[h2]at h;simp only[Nat.sub_zero]at h;simp only[r9,h.1]
def hC(z:Ar)(k:Nat)(ks:LV)(j:Nat)(js:LV):AH:=bU z.X z.xc [(0,.al [J z.ao,J z.id,.aj 1 z.ng 1,.aB 2,.aB 3,.aB 4,.aB 5,.aj 6 z.na 9,.aj 9 j 1] 78),(1,cQ z),(2,dz z),(3,dx z),(4,dg z),(5,dG z),(6,cJ z),(7,.al [.aB 10] 74),(8,.aA ks 83),(9,.aA js 2),(10,.aY [] 0 true)] 11
def hCo(z:Ar)(k:Nat)(ks:LV)(j:Nat)(js:LV):AH:=bU z.X z.xc [(0,.al [J z.ao,J z.id,.aj 7 k 1,.aB 2,.aB 3,.aB 4,.aB 5,.aj 6 z.na 9,.aj 8 j 1] 78),(1,cQ z),(2,dz z),(3,dx z),(4,dg z),(5,dG z),(6,cJ z),(7,.aA ks 83),(8,.aA js 2)] 9
def abg:Nat->LN:=fh [(5,[1000000]),(11,[0,4,5,8,28,29,30]),(16,[0,4,5,8,28,29,30,54,55,56])]
theorem aB6{z L Q}:
 bC Z K_ abg L Q 1000 16 [.aa 0 0,.aM] (hA z)=(
 ∃w:Ar,(([.aa 0 0]:LV)=[.aa 0 0]/\hA z=hA w)/\L (bg [(0,.aa 0 0),(4,J 0),(5,.aa 7 0),(8,.aM),(28,.aj 1 w.ng 1),(29,J (aP w.ng)),(30,J 0)]) (bU w.X w.xc [(0,dS w 1 2 3 4 5 6),(1,cQ w),(2,dz w),(3,dx w),(4,dg w),(5,dG w),(6,cJ w),(7,.al [.aB 8] 74),(8,.aY [] 0 true)] 9) (ax Z 16 1)):=by kernel_rfl
abbrev J_(x0:_)(x1:_)(x2:_)(x3:_):=bg [(0,.aa 0 0),(4,J x0),(5,.aa 7 0),(8,.aj 8 x1 1),(28,.aj 1 x2 1),(29,J (aP x2)),(30,J x3)]
abbrev Ux(x0:_)(x1:_)(x2:_)(x3:_)(x4:_)(x5:_)(x6:_):=bg [(0,.aa 0 0),(4,J x0),(5,.aa 7 0),(8,.aj 8 x1 1),(28,.aj 1 x2 1),(29,J (aP x2)),(30,J x3),(54,.ah x4 x5 4),(55,J (aP x5)),(56,J x6)]
theorem anh{z c i k j ks js L Q}:
 cg Z K_ abg L Q 1000 16 7 (J_ c k z.ng i) (ax Z 16 1) (hC z k ks j js)=(
 aw (decide (i<aP z.ng)) (∃aJ:Nat,i=(aJ:Int)/\aJ<z.ng/\(∃n:Nat,∃off:Nat,cz Z 83 z.fG (aJ*1)=some (.fw n off:AV)/\(∃b:Bool,pt Z (hC z k ks j js) 4 n (off+1)=some (.au b:AV)/\aw (!b) ((ks.length=k*1/\k+1<=4194304/\true=true/\true=true)/\L (J_ c (k+1) z.ng (wI (i+1))) (bU z.X z.xc [(0,.al [J z.ao,J z.id,.aj 1 z.ng 1,.aB 2,.aB 3,.aB 4,.aB 5,.aj 6 z.na 9,.aj 9 j 1] 78),(1,cQ z),(2,dz z),(3,dx z),(4,dg z),(5,dG z),(6,cJ z),(7,.al [.aB 10] 74),(8,.aA (ks++[.fw n off]) 83),(9,.aA js 2),(10,.aY [] 0 true)] 11) (ax Z 16 1)) (∃cs:LV,∃len:Nat,pt Z (hC z k ks j js) 95 n (off+0)=some (.ah cs len 4:AV)/\(∃w:List eW,(([.ah cs len 4,.bn (.func 39) [] [.aa 0 0]]:LV)=[.ah (jw w) w.length 4,.bn (.func 39) [] [.aa 0 0]]/\aq [(0,.al [.aB 1] 74),(1,.aY [] 0 true)] 2=oN/\w.length<=4000000)/\(∃bP:LV,∃bI:Nat,pt Z (hC z k ks j js) 95 n (off+0)=some (.ah bP bI 4:AV)/\L (Ux c k z.ng i bP bI 0) (bU z.X z.xc [(0,.al [J z.ao,J z.id,.aj 1 z.ng 1,.aB 2,.aB 3,.aB 4,.aB 5,.aj 6 z.na 9,.aj 9 j 1] 78),(1,cQ z),(2,dz z),(3,dx z),(4,dg z),(5,dG z),(6,cJ z),(7,.al [.aB 10] 74),(8,.aA ks 83),(9,.aA js 2),(10,.aY [] 0 true)] 11) (ax Z 16 2))))))) (Q (J c) (hCo z k ks j js))):=by kernel_rfl
theorem aB5{z c i p k j n ks js ms L Q}:
 cg Z K_ abg L Q 1000 16 7 (Ux c k z.ng i ms n p) (ax Z 16 2) (hC z k ks j js)=(
 aw (decide (p<aP n)) (∃aJ:Nat,p=(aJ:Int)/\aJ<n/\(∃aN:Int,∃s:LN,∃bz:Int,∃ct:Int,((ms.drop (aJ*4)).take 4:List AV)=[J aN,.ad s,J bz,J ct]/\(∃bJ:List (AV×AV×Nat),LD Z 39 z.eQ (.ai [.ad s,J bz,J ct])=some bJ/\(js.length=j*1/\j+1<=4194304/\true=true/\true=true)/\L (Ux (wI (c+1)) k z.ng i ms n (wI (p+1))) (bU z.X z.xc [(0,.al [J z.ao,J z.id,.aj 1 z.ng 1,.aB 2,.aB 3,.aB 4,.aB 5,.aj 6 z.na 9,.aj 9 (j+1) 1] 78),(1,cQ z),(2,dz z),(3,dx z),(4,dg z),(5,.aY bJ z.oc true),(6,cJ z),(7,.al [.aB 10] 74),(8,.aA ks 83),(9,.aA (js++[J aN]) 2),(10,.aY [] 0 true)] 11) (ax Z 16 2)))) (L (J_ c k z.ng (wI (i+1))) (bU z.X z.xc [(0,.al [J z.ao,J z.id,.aj 1 z.ng 1,.aB 2,.aB 3,.aB 4,.aB 5,.aj 6 z.na 9,.aj 9 j 1] 78),(1,cQ z),(2,dz z),(3,dx z),(4,dg z),(5,dG z),(6,cJ z),(7,.al [.aB 10] 74),(8,.aA ks 83),(9,.aA js 2),(10,.aY [] 0 true)] 11) (ax Z 16 1))):=by kernel_rfl
def vQ(gs:List vG):LV:=gs.map λg=>.fw g.n 0
structure pT where
 z:Ar
 m:List En
 gs:List vG
 n:Nat
 l:List eW
structure G_(w:pT):Prop where
 eQ:w.z.eQ=ep w.m
 AQ:nz w.z (w.gs++[⟨w.n,w.l,true⟩])
 U0:∀g∈w.gs,g.b=false
 len:w.gs.length<=3900000/\w.l.length<=3900000
def pT.zf(w:pT):Ar:={w.z with eQ:=ep (wP w.l w.m)}
def HK:cq pT where
 bh w A H:=A=[.aa 0 0,.aM]/\H=hA w.z/\G_ w
 v w:=J (w.l.length:Int)
 aK w:=hCo w.zf w.gs.length (vQ w.gs) w.l.length (aX (w.l.map (·.id)))
theorem aiy{X:Nat->Option bf}:∀{gs uO:List vG},(∀g∈gs,X g.n=some (oo g.l g.b))->(∀g∈uO,X g.n=some (oo g.l g.b))->(gs.map λg=>AV.fw g.n 0)=(uO.map λg=>AV.fw g.n 0)->gs.map (λg=>(g.n,jw g.l,g.b))=uO.map λg=>(g.n,jw g.l,g.b)
 |[],[],_,_,_=>rfl
 |[],_::_,_,_,h=>by simp at h
 |_::_,[],_,_,h=>by simp at h
 |g::gs,g'::uO,h1,h2,h=>by simp at h;have a1:=h1 g (dY ..);have a2:=h2 g' (dY ..);rw[h.1,a2]at a1;simp only[oo,nX,bf.al.injEq,iL,AV.ah.injEq,AV.au.injEq,and_true]at a1;have⟨⟨a0,a3⟩,a4⟩:=a1;have i1:=aiy (λx hx=>h1 x (en _ hx)) (λx hx=>h2 x (en _ hx)) h.2;simp only[gZ,i1,a0,a4,h.1]
theorem amA:∀{l l' m m'},jw l=jw l'->ep m=ep m'->ep (wP l m)=ep (wP l' m')/\l.length=l'.length/\aX (l.map (·.id))=aX (l'.map (·.id))
 |[],[],_,_,_,h=>⟨h,rfl,rfl⟩
 |[],_::_,_,_,h,_=>by simp[jw]at h
 |_::_,[],_,_,h,_=>by simp[jw]at h
 |b::l,b'::l',m,m',h,hm=>by
  simp only[jw,oC,zK,iL]at h;have⟨h1,h2,h3,h4,h5⟩:=h;have hk:mj b.aO=mj b'.aO:=by rw[mj,mj,h2,h3,h4]
  have hd:ep (sf b.aO m)=ep (sf b'.aO m'):=by have e1:=Yz m b.aO;have e2:=Yz m' b'.aO;rw[hm,hk,e2]at e1;exact(de e1).symm
  have⟨i1,i2,i3⟩:=amA h5 hd;refine⟨i1,by simp[i2],?_⟩;simp only[aX,gZ,List.map_map]at i3⊢;rw[iL];exact⟨h1,i3⟩
theorem ary:HK.ck:=by rintro⟨z,m,gs,n,l⟩ ⟨z',m',uO,n',l'⟩ A H ⟨_,h1,k1⟩ ⟨_,h2,k2⟩;have e:=uQ (h1.symm.trans h2);subst e;have h:=aiy k1.AQ.dq k2.AQ.dq (k1.AQ.fG.symm.trans k2.AQ.fG);simp only[qp,gZ,List.map_nil]at h;have⟨a1,a2⟩:=List.append_inj' h rfl;simp at a2;have⟨i1,i2,i3⟩:=amA a2.2 (k1.eQ.symm.trans k2.eQ);have g1:=congrArg List.length a1;have g2:=congrArg (List.map λx=>AV.fw x.1 0) a1;simp at g1 g2;have g3:vQ gs=vQ uO:=g2;simp only[HK,pT.zf,i1,i2,i3,g1,g3]
theorem akq{z:Ar}{H n l b}(hH:H.gT n=z.X n)(h:z.X n=some (oo l b)):pt Z H 95 n (0+0)=some (.ah (jw l) l.length 4):=by unfold pt;rw[hH,h];kernel_rfl
theorem ako{z:Ar}{H n l b}(hH:H.gT n=z.X n)(h:z.X n=some (oo l b)):pt Z H 4 n (0+1)=some (.au b):=by unfold pt;rw[hH,h];kernel_rfl
theorem aq4{w}(h:G_ w)(v H1)(A0:bu Z 16 86 7 v H1 (J_ (w.l.length:Int) w.gs.length w.z.ng ((w.gs.length+1:Nat):Int)) (hC w.zf w.gs.length (vQ w.gs) w.l.length (aX (w.l.map (·.id)))) (ax Z 16 1)):
 ∀q:Nat,q<=w.l.length->
 bu Z 16 86 7 v H1 (Ux (q:Int) w.gs.length w.z.ng (w.gs.length:Int) (jw w.l) w.l.length (q:Int)) (hC {w.z with eQ:=ep (wP (w.l.take q) w.m)} w.gs.length (vQ w.gs) q (aX ((w.l.take q).map (·.id)))) (ax Z 16 2):=by
 refine dF (λq=>w.l.length-q) _ _ _ _ ?_;rintro q hq ih;have bS:=h.len;refine hE K' (@aB5 {w.z with eQ:=ep (wP (w.l.take q) w.m)} (q:Int) (w.gs.length:Int) (q:Int) w.gs.length q w.l.length (vQ w.gs) (aX ((w.l.take q).map (·.id))) (jw w.l) _ _) ?_;refine aD (λay=>?_) λbq=>?_
 .have ay:q<w.l.length:=by simpa using ay
  have e1:w.l.take (q+1)=w.l.take q++[w.l[q]]:=by rw[sd,gS ay];rfl
  have h1:=ih (q+1) ay (by omega);rw[e1]at h1;simp only[wP,DN,sV,NZ,qp,gZ,List.map_nil,aX]at h1;refine⟨q,rfl,ay,_,_,_,_,YR ay,ep (sf w.l[q].aO (wP (w.l.take q) w.m)),Yz _ _,⟨by simp[aX];omega,by omega,rfl,rfl⟩,?_⟩;rw[cH];exact h1
 .have bq:w.l.length<=q:=by simpa using bq
  obtain rfl:q=w.l.length:=by omega
  rw[s6];rw[cH];exact A0
theorem aq3{w}(h:G_ w):∀i:Nat,i<=w.gs.length->
 bu Z 16 86 7 (J (w.l.length:Int)) (HK.aK w) (J_ 0 i w.z.ng (i:Int)) (hC w.z i (vQ (w.gs.take i)) 0 []) (ax Z 16 1):=by
 refine dF (λi=>w.gs.length-i) _ _ _ _ ?_;rintro i hi ih;have bS:=h.len;have CV:w.z.ng=w.gs.length+1:=by rw[h.AQ.ng];simp
 refine hE K' anh ?_;refine aD (λ_=>?_) λbq=>absurd (eB bq) (by rw[CV];simp;omega)
 by_cases ay:i<w.gs.length
 .have sI:=h.AQ.dq w.gs[i] (TE _ (r8 ay));have Si:=h.U0 w.gs[i] (r8 ay);have hp:cz Z 83 w.z.fG (i*1)=some (.fw w.gs[i].n 0):=by rw[ab0,mu,h.AQ.fG,sa,List.getElem?_append_left ay,gS ay];rfl
  have e1:w.gs.take (i+1)=w.gs.take i++[w.gs[i]]:=by rw[sd,gS ay];rfl
  have h1:=ih (i+1) ay (by omega);rw[e1]at h1;simp only[vQ,qp,gZ,List.map_nil]at h1;rw[Si]at sI;refine⟨i,rfl,by omega,w.gs[i].n,0,hp,false,ako rfl sI,aD (λ_=>⟨⟨by simp[vQ];omega,by omega,rfl,rfl⟩,?_⟩) λh=>nomatch h⟩;rw[cH];exact h1
 .obtain rfl:i=w.gs.length:=by omega
  have sI:=h.AQ.dq ⟨w.n,w.l,true⟩ (List.mem_append_right _ (pD.2 rfl));have hp:cz Z 83 w.z.fG (w.gs.length*1)=some (.fw w.n 0):=by rw[ab0,mu,h.AQ.fG,sa,JN (cE _),Nat.sub_self];rfl
  refine⟨w.gs.length,rfl,by omega,w.n,0,hp,true,ako rfl sI,aD (λh=>(nomatch h)) λ_=>?_⟩;refine⟨_,_,akq rfl sI,w.l,⟨rfl,rfl,by omega⟩,_,_,akq rfl sI,?_⟩;rw[s6];have hi:=aq4 h (J (w.l.length:Int)) (HK.aK w) ?_ 0 (fu _)
  .have e:({w.z with eQ:=ep (wP (w.l.take 0) w.m)}:Ar)=w.z:=by show({w.z with eQ:=ep w.m}:Ar)=w.z;rw[<-h.eQ]
   rw[e]at hi;exact hi
  .refine hE K' (@anh w.zf (w.l.length:Int) ((w.gs.length+1:Nat):Int) w.gs.length w.l.length (vQ w.gs) (aX (w.l.map (·.id))) _ _) ?_;refine aD (λay=>absurd (dX ay) (by show¬_<aP w.z.ng;rw[CV];simp)) λ_=>⟨rfl,rfl⟩
def PJ:Ev.bp:=bR 16 (bW HK ary lS) K_
theorem aq2{w}(h:G_ w):bX Z 16 [.aa 0 0,.aM] (hA w.z) (J (w.l.length:Int)) (HK.aK w):=by refine eE 86 K' aB6 ?_;refine⟨w.z,⟨rfl,rfl⟩,?_⟩;have h0:=aq3 h 0 (fu _);refine AY 1 83 [8] ?_ rfl;refine rJ (H':=bU w.z.X w.z.xc [(0,.al [J w.z.ao,J w.z.id,.aj 1 w.z.ng 1,.aB 2,.aB 3,.aB 4,.aB 5,.aj 6 w.z.na 9,.aj 10 0 1] 78),(1,cQ w.z),(2,dz w.z),(3,dx w.z),(4,dg w.z),(5,dG w.z),(6,cJ w.z),(7,.al [.aB 8] 74),(8,.aY [] 0 true),(9,.aA [] 83),(10,.aA [] 2)] 11) ?_ (Ga (l':=[(0,.al [J w.z.ao,J w.z.id,.aj 1 w.z.ng 1,.aB 2,.aB 3,.aB 4,.aB 5,.aj 6 w.z.na 9,.aj 10 0 1] 78),(1,cQ w.z),(2,dz w.z),(3,dx w.z),(4,dg w.z),(5,dG w.z),(6,cJ w.z),(7,.al [.aB 8] 74),(8,.aY [] 0 true),(9,.aA [] 83)]) (g:=0) rfl (λid=>by rcases id with _|_|_|_|_|_|_|_|_|_|id<;>rfl) rfl (λφ x hx=>zC hx) ⟨rfl,rfl⟩);refine AZ (mw:=[7,9,10,8]) (ls:=[0,4,5,8,28,29,30]) (ps:=[(0,0),(1,1),(2,2),(3,3),(4,4),(5,5),(6,6),(7,7),(9,8),(10,9),(8,10)]) (H2:=hC w.z 0 [] 0 []) (t:=J_ 0 0 w.z.ng 0) ?_;exact h0
theorem WV:aS Z PJ:=by refine cu K' ?_;rintro w args H ⟨rfl,rfl,h⟩;exact aq2 h
def ajO:cq LI where
 bh l A H:=A=[.ah (aX l) l.length 1,.ah (aX l) l.length 1]/\H=an/\l.length<100000
 v l:=.au true
 aK l:=an
theorem avO:ajO.ck:=λ_ _ _ _ _ _=>rfl
def Hq:Ev.bp:=bR 17 (bW ajO avO cB) PJ
structure gh where
 z:Ar
 j:Nat
 js:LV
def hG(z:Ar)(j:Nat)(js:LV):AH:=bU z.X z.xc [(0,.al [J z.ao,J z.id,.aj 1 z.ng 1,.aB 2,.aB 3,.aB 4,.aB 5,.aj 6 z.na 9,.aj 7 j 1] 78),(1,cQ z),(2,dz z),(3,dx z),(4,dg z),(5,dG z),(6,cJ z),(7,.aA js 2)] 8
theorem auq{A A' j j' js Sw}(h:hG A j js=hG A' j' Sw):A=A'/\j=j'/\js=Sw:=by
 have h0:=congrArg (λH=>AH.bc H 0) h;have h1:=congrArg (λH=>AH.bc H 1) h;have h2:=congrArg (λH=>AH.bc H 2) h;have h3:=congrArg (λH=>AH.bc H 3) h;have h4:=congrArg (λH=>AH.bc H 4) h;have h5:=congrArg (λH=>AH.bc H 5) h;have h6:=congrArg (λH=>AH.bc H 6) h;have h8:=congrArg (λH=>AH.bc H 7) h;have h7:=congrArg AH.x h;replace h0:some (bf.al [J A.ao,J A.id,.aj 1 A.ng 1,.aB 2,.aB 3,.aB 4,.aB 5,.aj 6 A.na 9,.aj 7 j 1] 78)=some (.al [J A'.ao,J A'.id,.aj 1 A'.ng 1,.aB 2,.aB 3,.aB 4,.aB 5,.aj 6 A'.na 9,.aj 7 j' 1] 78):=h0;simp at h0;have⟨a1,a2,a3,a4,a5⟩:=h0;refine⟨uQ ?_,a5,?_⟩
 .have e0:dS A=dS A':=by funext a b c d e f;simp only[dS,a1,a2,a3,a4]
  have e1:=de h1;have e2:=de h2;have e3:=de h3;have e4:=de h4;have e5:=de h5;have e6:=de h6;have e7:some (XH.mk A.X A.xc)=some ⟨A'.X,A'.xc⟩:=h7;simp at e7;simp only[hA,e0,e1,e2,e3,e4,e5,e6,e7.1,e7.2]
 .replace h8:some (bf.aA js 2)=some (.aA Sw 2):=h8;cases h8;rfl
def ze(w:gh):AH:=hG w.z w.j w.js
theorem ZF{w w'}(h:ze w=ze w'):w=w':=by have⟨z,j,js⟩:=w;have⟨z',j',Sw⟩:=w';obtain⟨rfl,rfl,rfl⟩:=auq h;rfl
def alc:cq gh where
 bh w A H:=A=[.aa 0 0]/\H=ze w
 v w:=.au false
 aK w:=ze w
theorem axi:alc.ck:=by rintro w w' A H ⟨_,h1⟩ ⟨_,h2⟩;rw[ZF (h1.symm.trans h2)]
def WW:Ev.bp:=bR 21 (bW alc axi lS) Hq
structure qE where
 w:gh
 p:cX
def akx:cq qE where
 bh w A H:=A=[.aa 0 0,.ai [.ad w.p.cT,J w.p.ar,J w.p.ao]]/\H=ze w.w/\w.p.ao≠0/\∃m,w.w.z.eQ=ep m/\eC w.p m=none
 v w:=.aC [.aj 8 0 1,.au false]
 aK w:=bU w.w.z.X w.w.z.xc [(0,.al [J w.w.z.ao,J w.w.z.id,.aj 1 w.w.z.ng 1,.aB 2,.aB 3,.aB 4,.aB 5,.aj 6 w.w.z.na 9,.aj 7 w.w.j 1] 78),(1,cQ w.w.z),(2,dz w.w.z),(3,dx w.w.z),(4,dg w.w.z),(5,dG w.w.z),(6,cJ w.w.z),(7,.aA w.w.js 2),(8,.aA [] 2)] 9
theorem awF:akx.ck:=by rintro⟨w,p⟩ ⟨w',p'⟩ A H ⟨_,h1,_⟩ ⟨_,h2,_⟩;have e:=ZF (h1.symm.trans h2);subst e;rfl
def WY:Ev.bp:=bR 10 (bW akx awF lS) WW
def aiq:cq gh where
 bh w A H:=A=[.aa 0 0]/\H=ze w
 v w:=.aj 7 w.j 1
 aK w:=bU w.z.X w.z.xc [(0,dS w.z 1 2 3 4 5 6),(1,cQ w.z),(2,dz w.z),(3,dx w.z),(4,dg w.z),(5,dG w.z),(6,cJ w.z),(7,.aA w.js 2)] 8
theorem atX:aiq.ck:=by rintro w w' A H ⟨_,h1⟩ ⟨_,h2⟩;rw[ZF (h1.symm.trans h2)]
def Q16:Ev.bp:=bR 18 (bW aiq atX lS) WY
abbrev Uy(x0:_)(x1:_)(x2:_):=bg [(0,.ah (aX x0) x1 1),(1,.ah (aX x0) x1 1),(5,J x2)]
theorem aB7{l L Q}:
 bC Z PJ akM L Q 1000 17 [.ah (aX l) l.length 1,.ah (aX l) l.length 1] an=(
 aw (aP l.length !=aP l.length) (Q (.au false) an) (L (Uy l l.length 0) an (ax Z 17 0))):=by kernel_rfl
theorem aB8{l i L Q}:
 cg Z PJ akM L Q 1000 17 0 (Uy l l.length i) (ax Z 17 0) an=(
 aw (decide (i<aP l.length)) (∃aJ:Nat,i=(aJ:Int)/\aJ<l.length/\(∃n:Int,(((aX l).drop (aJ*1)).take 1:List AV)=[J n]/\(∃cN:Nat,i=(cN:Int)/\cN<l.length/\(∃aN:Int,(((aX l).drop (cN*1)).take 1:List AV)=[J aN]/\aw (n !=aN) (Q (.au false) an) (L (Uy l l.length (wI (i+1))) an (ax Z 17 0)))))) (Q (.au true) an)):=by kernel_rfl
theorem aCa{z j js L Q}:
 bC Z Hq (λ_=>[]) L Q 1000 21 [.aa 0 0] (hG z j js)=(
 Q (.au false) (hG z j js)):=by kernel_rfl
theorem aB4{z j js s ar ao L Q}:
 bC Z WW (λ_=>[]) L Q 1000 10 [.aa 0 0,.ai [.ad s,J ar,J ao]] (hG z j js)=(
 ∃w:gh,(([.aa 0 0]:LV)=[.aa 0 0]/\hG z j js=ze w)/\aw (ao==0) (∃n:Nat,∃len:Nat,∃b:Bool,Dp Z 39 35 1 w.z.dT (.ai [.ad s,J ar,J ao])=some (n,(len,b))/\(∃ae:Xr,(([.fE n len 1]:LV)=[.fE ae.n ae.aW.length 1]/\bU w.z.X (gh.z w).xc [] 0=bU ae.X ae.xc [] 0/\(ae.aW≠[]->ae.X ae.n=some (Go.Ev.bf.aA (aX ae.aW) 2))/\ae.aW.length<=4000000)/\Q (.aC [.aj 8 ae.aW.length 1,.au b]) (bU ae.X ae.xc [(0,.al [J (gh.z w).ao,J (gh.z w).id,.aj 1 (gh.z w).ng 1,.aB 2,.aB 3,.aB 4,.aB 5,.aj 6 (gh.z w).na 9,.aj 7 (gh.j w) 1] 78),(1,cQ w.z),(2,.aY w.z.fo (gh.z w).cc true),(3,.aY w.z.nq (gh.z w).rc true),(4,.aY w.z.dT (gh.z w).nc true),(5,.aY w.z.eQ (gh.z w).oc true),(6,cJ w.z),(7,.aA w.js 2),(8,bH ae.aW 2)] 9))) (∃n:Nat,∃len:Nat,∃b:Bool,Dp Z 39 35 1 w.z.eQ (.ai [.ad s,J ar,J ao])=some (n,(len,b))/\(∃ae:Xr,(([.fE n len 1]:LV)=[.fE ae.n ae.aW.length 1]/\bU w.z.X (gh.z w).xc [] 0=bU ae.X ae.xc [] 0/\(ae.aW≠[]->ae.X ae.n=some (Go.Ev.bf.aA (aX ae.aW) 2))/\ae.aW.length<=4000000)/\Q (.aC [.aj 8 ae.aW.length 1,.au b]) (bU ae.X ae.xc [(0,.al [J (gh.z w).ao,J (gh.z w).id,.aj 1 (gh.z w).ng 1,.aB 2,.aB 3,.aB 4,.aB 5,.aj 6 (gh.z w).na 9,.aj 7 (gh.j w) 1] 78),(1,cQ w.z),(2,.aY w.z.fo (gh.z w).cc true),(3,.aY w.z.nq (gh.z w).rc true),(4,.aY w.z.dT (gh.z w).nc true),(5,.aY w.z.eQ (gh.z w).oc true),(6,cJ w.z),(7,.aA w.js 2),(8,bH ae.aW 2)] 9)))):=by kernel_rfl
theorem aB9{z j js L Q}:
 bC Z WY (λ_=>[]) L Q 1000 18 [.aa 0 0] (hG z j js)=(
 ∃w:gh,(([.aa 0 0]:LV)=[.aa 0 0]/\hG z j js=ze w)/\Q (.aj 7 (gh.j w) 1) (bU w.z.X (gh.z w).xc [(0,dS (gh.z w) 1 2 3 4 5 6),(1,cQ w.z),(2,.aY w.z.fo (gh.z w).cc true),(3,.aY w.z.nq (gh.z w).rc true),(4,.aY w.z.dT (gh.z w).nc true),(5,.aY w.z.eQ (gh.z w).oc true),(6,cJ w.z),(7,.aA w.js 2)] 8)):=by kernel_rfl
theorem aaH:∀{l i} (h:i<l.length),((aX l).drop (i*1)).take 1=[J l[i]]
 |[],i,h=>by simp at h
 |a::l,0,h=>rfl
 |a::l,i+1,h=>by have h1:=aaH (by simpa using h);rw[mu]at h1⊢;exact h1
theorem aq5{l}(hl:l.length<100000):∀i:Nat,i<=l.length->
 bu Z 17 26 0 (.au true) an (Uy l l.length (i:Int)) an (ax Z 17 0):=by
 refine dF (λi=>l.length-i) _ _ _ _ ?_;rintro i hi ih;refine hE WV aB8 ?_;refine aD (λay=>?_) λ_=>⟨rfl,rfl⟩
 have ay:i<l.length:=by simpa using ay
 refine⟨i,rfl,ay,_,aaH ay,i,rfl,ay,_,aaH ay,aD (λh=>ab h) λ_=>?_⟩;rw[cH];exact ih (i+1) ay (by omega)
theorem EF:aS Z Hq:=by
 refine cu WV ?_;rintro l args H ⟨rfl,rfl,hl⟩;refine eE 26 WV aB7 ?_;refine aD (λh=>ab h) λ_=>?_
 exact aq5 hl 0 (fu _)
theorem ae7:aS Z WW:=by refine cu EF ?_;rintro⟨z,j,js⟩ args H ⟨rfl,rfl⟩;refine eE 12 EF aCa ?_;exact⟨rfl,rfl⟩
theorem ae8:aS Z WY:=by
 refine cu ae7 ?_;rintro⟨⟨z,j,js⟩,⟨nm,ar,ao⟩⟩ args H ⟨rfl,rfl,ha,m,hm,hn⟩;have wc:=SI (m:=m) (p:=⟨nm,ar,ao⟩);have e0:xZ m ⟨nm,ar,ao⟩=(0,[],false):=by unfold xZ;rw[hn]
 rw[e0,<-hm]at wc;refine eE 32 ae7 aB4 ?_;refine⟨⟨z,j,js⟩,⟨rfl,rfl⟩,aD (λh=>absurd (by simpa using h) ha) λ_=>?_⟩;exact⟨0,0,false,wc,⟨z.X,z.xc,0,[]⟩,⟨rfl,rfl,λh=>absurd rfl h,fu _⟩,rfl,rfl⟩
theorem apC:aS Z Q16:=by refine cu ae8 ?_;rintro⟨z,j,js⟩ args H ⟨rfl,rfl⟩;refine eE 13 ae8 aB9 ?_;exact⟨⟨z,j,js⟩,⟨rfl,rfl⟩,rfl,rfl⟩
def Nn:Nat->LN:=fh [(999995,[2000006]),(999998,[2,4,7,8,9])]
def No:Nat->LN:=fh [(999995,[2000011]),(999998,[4,7,8,10,11,13,14,15])]
def h5a(z:Ar)(k n:Int)(s:LN)(cs:LV)(len:Nat):AH:=bU z.X z.xc [(0,dH k n s cs len),(1,dS z 2 3 4 5 6 7),(2,cQ z),(3,dz z),(4,dx z),(5,dg z),(6,dG z),(7,cJ z)] 8
def SP:Nat->LN:=fh [(999995,[2000019]),(999998,[7,10,13])]
def h5b(z:Ar)(bs:LV)(k n:Int)(s:LN)(cs:LV)(len:Nat)(ar ao:Int):AH:=bU z.X z.xc [(0,dH k n s cs len),(1,dS z 4 5 6 7 8 9),(2,pB ar ao),(3,.aA bs 44),(4,cQ z),(5,dz z),(6,dx z),(7,dg z),(8,dG z),(9,cJ z)] 10
def h5c(z:Ar)(bs:LV)(ar ao:Int)(j:Nat)(js:LV):AH:=bU z.X z.xc [(0,.al [J z.ao,J z.id,.aj 3 z.ng 1,.aB 4,.aB 5,.aB 6,.aB 7,.aj 8 z.na 9,.aj 9 j 1] 78),(1,pB ar ao),(2,.aA bs 44),(3,cQ z),(4,dz z),(5,dx z),(6,dg z),(7,dG z),(8,cJ z),(9,.aA js 2)] 10
abbrev Uz(x0:_)(x1:_)(x2:_):=bg [(2,.au x0),(4,.aa 0 0),(7,.aa 1 0),(8,J x1),(9,J x2)]
abbrev RA(x0:_)(x1:_)(x2:_)(x3:_)(x4:_)(x5:_):=bU x0 x1 [(0,.al [J x2,J x3,.aj 1 x4 1,.aB 2,.aB 3,.aB 4,.aB 5,.aj 6 0 9,.aM] 78),(1,cQ x5),(2,dz x5),(3,dx x5),(4,dg x5),(5,dG x5),(6,.aA [] 44)] 7
theorem anm{x xc nx ps np k n s cs len tr L Q}:
 bC Z Hq Nn L Q 1000 5 [.ai [J nx,.ah ps np 4],.ai [J k,J n,.ad s,.ah cs len 4],.au tr] (bU x xc [] 0)=(
 ∃w:(Nat->Option bf)×Nat,(([]:LV)=[]/\bU x xc [] 0=bU w.1 w.2 [] 0)/\(∃b:Bool,aw b (∃ae:Xm,(([.aa 0 0,.ai [J nx,.ah ps np 4],.au tr]:LV)=[.aa 0 0,.ai (lQ ae.d),.au ae.tr]/\bU (di w.1 w.2).X (di w.1 w.2).xc [(0,.al [J (di w.1 w.2).ao,J (di w.1 w.2).id,.aj 1 0 1,.aB 2,.aB 3,.aB 4,.aB 5,.aj 6 0 9,.aM] 78),(1,.aA [] 83),(2,.aY [] 0 true),(3,.aY [] 0 true),(4,.aY [] 0 true),(5,.aY [] 0 true),(6,.aA [] 44)] 7=hA ae.z/\Ex ae.z/\BP ae.z ae.d ae.tr/\BG ae.z ae.d ae.tr=Prod.mk ae.e ae.zf/\decide (ae.e=0)=true)/\(∃aE:Ar,(([.aa 0 0]:LV)=[.aa 0 0]/\hA ae.zf=hA aE)/\(∃bQ:iM,(([.aa 0 0]:LV)=[.aa 0 0]/\RA aE.X aE.xc aE.nb.ao aE.nb.id aE.nb.ng aE=hA bQ.z/\nz (iM.z bQ) bQ.gs/\iy bQ.gs<=4000000/\bQ.gs.length<=4000000)/\L (Uz tr ((iy bQ.gs:Nat):Int) ((k7 bQ.gs:Nat):Int)) (bU bQ.z.X (iM.z bQ).xc [(0,dH k n s cs len),(1,dS (iM.z bQ) 2 3 4 5 6 7),(2,cQ bQ.z),(3,.aY bQ.z.fo (iM.z bQ).cc true),(4,.aY bQ.z.nq (iM.z bQ).rc true),(5,.aY bQ.z.dT (iM.z bQ).nc true),(6,.aY bQ.z.eQ (iM.z bQ).oc true),(7,cJ bQ.z)] 8) (cM Z Nn 5 0)))) (∃ae:Xm,(([.aa 0 0,.ai [J nx,.ah ps np 4],.au tr]:LV)=[.aa 0 0,.ai (lQ ae.d),.au ae.tr]/\bU (di w.1 w.2).X (di w.1 w.2).xc [(0,.al [J (di w.1 w.2).ao,J (di w.1 w.2).id,.aj 1 0 1,.aB 2,.aB 3,.aB 4,.aB 5,.aj 6 0 9,.aM] 78),(1,.aA [] 83),(2,.aY [] 0 true),(3,.aY [] 0 true),(4,.aY [] 0 true),(5,.aY [] 0 true),(6,.aA [] 44)] 7=hA ae.z/\Ex ae.z/\BP ae.z ae.d ae.tr/\BG ae.z ae.d ae.tr=Prod.mk ae.e ae.zf/\decide (ae.e=0)=false)/\aw (ae.e !=0) (∃aE:Unit,(([]:LV)=[]/\aq [] 0=an)/\Q (.au true) (bU ae.z.X ae.z.xc [] 0)) (∃aE:Ar,(([.aa 0 0]:LV)=[.aa 0 0]/\hA ae.z=hA aE)/\(∃bQ:iM,(([.aa 0 0]:LV)=[.aa 0 0]/\RA aE.X aE.xc aE.nb.ao aE.nb.id aE.nb.ng aE=hA bQ.z/\nz (iM.z bQ) bQ.gs/\iy bQ.gs<=4000000/\bQ.gs.length<=4000000)/\L (Uz tr ((iy bQ.gs:Nat):Int) ((k7 bQ.gs:Nat):Int)) (bU bQ.z.X (iM.z bQ).xc [(0,dH k n s cs len),(1,dS (iM.z bQ) 2 3 4 5 6 7),(2,cQ bQ.z),(3,.aY bQ.z.fo (iM.z bQ).cc true),(4,.aY bQ.z.nq (iM.z bQ).rc true),(5,.aY bQ.z.dT (iM.z bQ).nc true),(6,.aY bQ.z.eQ (iM.z bQ).oc true),(7,cJ bQ.z)] 8) (cM Z Nn 5 0)))))):=by kernel_rfl
abbrev adb(x0:_)(x1:_)(x2:_)(x3:_)(x4:_)(x5:_):=bg [(4,.aa 0 0),(7,.aa 1 0),(8,J x0),(10,.aa 2 0),(11,.ah (aX x1) x2 1),(13,.aj 3 x3 9),(14,J x4),(15,J x5)]
theorem anl{z k n a b s cs len tr L Q}:
 cg Z Hq No L Q 1000 5 0 (Uz tr a b) (cM Z Nn 5 0) (h5a z k n s cs len)=(
 ∃gA:Bool,aw gA (∃w:ir,(([.aa 0 0,.ai [J k,J n,.ad s,.ah cs len 4],.au tr]:LV)=[.aa 0 0,.ai (aU (ir.g w)),.au (ir.tr w)]/\hA z=hA w.z/\bB (ir.g w)/\Hd (ir.z w) w.m/\Cu (ir.z w) w.m (ir.g w) (ir.tr w)=Prod.mk (ir.e w) (ir.zf w)/\decide (ir.e w=0)=true)/\(∃ae:Ar,(([.aa 0 0]:LV)=[.aa 0 0]/\bU w.zf.X (ir.zf w).xc [(0,dS (ir.zf w) 1 2 3 4 5 6),(1,cQ w.zf),(2,.aY w.zf.fo (ir.zf w).cc true),(3,.aY w.zf.nq (ir.zf w).rc true),(4,.aY w.zf.dT (ir.zf w).nc true),(5,.aY w.zf.eQ (ir.zf w).oc true),(6,cJ w.zf)] 7=hA ae)/\(∃aE:iM,(([.aa 0 0]:LV)=[.aa 0 0]/\RA ae.X ae.xc ae.nb.ao ae.nb.id ae.nb.ng ae=hA aE.z/\nz (iM.z aE) aE.gs/\iy aE.gs<=4000000/\aE.gs.length<=4000000)/\L (adb a (dh (ir.g w)) (dh (ir.g w)).length ae.na ((iy aE.gs:Nat):Int) ((k7 aE.gs:Nat):Int)) (bU aE.z.X (iM.z aE).xc [(0,dH k n s cs len),(1,dS (iM.z aE) 4 5 6 7 8 9),(2,pB (((dh (ir.g w)).length:Nat):Int) (ir.z w).ao),(3,cJ ae),(4,cQ aE.z),(5,.aY aE.z.fo (iM.z aE).cc true),(6,.aY aE.z.nq (iM.z aE).rc true),(7,.aY aE.z.dT (iM.z aE).nc true),(8,.aY aE.z.eQ (iM.z aE).oc true),(9,cJ aE.z)] 10) (cM Z No 5 0)))) (∃w:ir,(([.aa 0 0,.ai [J k,J n,.ad s,.ah cs len 4],.au tr]:LV)=[.aa 0 0,.ai (aU (ir.g w)),.au (ir.tr w)]/\hA z=hA w.z/\bB (ir.g w)/\Hd (ir.z w) w.m/\Cu (ir.z w) w.m (ir.g w) (ir.tr w)=Prod.mk (ir.e w) (ir.zf w)/\decide (ir.e w=0)=false)/\(∃ae:Ar,(([.aa 0 0]:LV)=[.aa 0 0]/\bU w.z.X (ir.z w).xc [(0,dS (ir.z w) 1 2 3 4 5 6),(1,cQ w.z),(2,.aY w.z.fo (ir.z w).cc true),(3,.aY w.z.nq (ir.z w).rc true),(4,.aY w.z.dT (ir.z w).nc true),(5,.aY w.z.eQ (ir.z w).oc true),(6,cJ w.z)] 7=hA ae)/\(∃aE:iM,(([.aa 0 0]:LV)=[.aa 0 0]/\RA ae.X ae.xc ae.nb.ao ae.nb.id ae.nb.ng ae=hA aE.z/\nz (iM.z aE) aE.gs/\iy aE.gs<=4000000/\aE.gs.length<=4000000)/\aw (ir.e w !=0) (aw (aP ae.na==0) (aw (((iy aE.gs:Nat):Int)==a) (aw (((k7 aE.gs:Nat):Int)==0) (∃bQ:Unit,(([]:LV)=[]/\aq [] 0=an)/\Q (.au true) (bU aE.z.X (iM.z aE).xc [] 0)) (Q (.au false) (bU aE.z.X (iM.z aE).xc [] 0))) (Q (.au false) (bU aE.z.X (iM.z aE).xc [] 0))) (Q (.au false) (bU aE.z.X (iM.z aE).xc [] 0))) (L (bg [(4,.aa 0 0),(7,.aa 1 0),(8,J a),(10,.aa 2 0),(11,.aM),(13,.aj 3 ae.na 9),(14,J ((iy aE.gs:Nat):Int)),(15,J ((k7 aE.gs:Nat):Int))]) (bU aE.z.X (iM.z aE).xc [(0,dH k n s cs len),(1,dS (iM.z aE) 4 5 6 7 8 9),(2,pB 0 0),(3,cJ ae),(4,cQ aE.z),(5,.aY aE.z.fo (iM.z aE).cc true),(6,.aY aE.z.nq (iM.z aE).rc true),(7,.aY aE.z.dT (iM.z aE).nc true),(8,.aY aE.z.eQ (iM.z aE).oc true),(9,cJ aE.z)] 10) (cM Z No 5 0)))))):=by kernel_rfl
theorem aCi{z bs nb k n a c d ar ao s cs len vs L Q}:
 cg Z Hq SP L Q 1000 5 0 (adb a vs vs.length nb c d) (cM Z No 5 0) (h5b z bs k n s cs len ar ao)=(
 ∃w:Liw,(([.aa 0 0,.ai [.ad [],J ar,J ao]]:LV)=[.aa 0 0,.ai [.ad w.p.cT,J w.p.ar,J w.p.ao]]/\hA z=hA w.z/\w.z.Nq w.p=ep w.m/\xZ w.m w.p=Prod.mk w.n (Prod.mk w.aW w.b)/\(w.aW≠[]->w.z.X w.n=some (Go.Ev.bf.aA (aX w.aW) 2))/\w.aW.length<=4000000)/\aw (aP nb==0) (Q (.au false) (bU w.z.X w.z.xc [] 0)) (0<nb/\(∃aN:Int,cz Z 2 bs 0=some (J aN:AV)/\(∃ae:Fbw,(([.aj 0 nb 9,J aN]:LV)=[.aj 0 ae.l.length 9,J ae.i]/\aq [(0,.aA bs 44)] 1=aq [(0,.aA (fC ae.l) 44)] 1/\ae.l.length<=4000000/\Il ae.i ae.l=some ae.b)/\aw (!w.b) (Q (.au false) (bU w.z.X w.z.xc [] 0)) (aw (aP w.aW.length !=1) (Q (.au false) (bU w.z.X w.z.xc [] 0)) (0<w.aW.length/\(∃bz:Int,cz Z 2 (aX w.aW) 0=some (J bz:AV)/\aw (bz !=ae.b.id) (Q (.au false) (bU w.z.X w.z.xc [] 0)) (aw (!(cb ae.b.aO.cT []&&(ae.b.aO.ar==ar&&(ae.b.aO.ao==ao&&true)))) (Q (.au false) (bU w.z.X w.z.xc [] 0)) (aw (decide (ao<1)) (Q (.au false) (bU w.z.X w.z.xc [] 0)) (aw (ar !=aP vs.length) (Q (.au false) (bU w.z.X w.z.xc [] 0)) (∃aE:aF,(([.ai [J k,J n,.ad s,.ah cs len 4]]:LV)=[.ai (aU aE)]/\aq [] 0=an/\bB aE)/\(∃bQ:LI,(([.ah (aX vs) vs.length 1,.ah (aX (dh aE)) (dh aE).length 1]:LV)=[.ah (aX bQ) bQ.length 1,.ah (aX bQ) bQ.length 1]/\aq [] 0=an/\bQ.length<100000)/\aw (c !=wI (a+aP nb)) (Q (.au false) (bU w.z.X w.z.xc [] 0)) (aw (d !=aP nb) (Q (.au false) (bU w.z.X w.z.xc [] 0)) (∃dV:pT,(([.aa 0 0,.aM]:LV)=[.aa 0 0,.aM]/\hA w.z=hA dV.z/\G_ dV)/\aw (((dV.l.length:Nat):Int)!=aP nb) (Q (.au false) (bU (pT.zf dV).X (pT.zf dV).xc [] 0)) (L (bg [(7,.aa 0 0),(10,.aa 1 0),(13,.aj 2 nb 9)]) (bU (pT.zf dV).X (pT.zf dV).xc [(0,.al [J (pT.zf dV).ao,J (pT.zf dV).id,.aj 3 dV.gs.length 1,.aB 4,.aB 5,.aB 6,.aB 7,.aj 8 (pT.zf dV).na 9,.aj 9 dV.l.length 1] 78),(1,pB ar ao),(2,.aA (fC ae.l) 44),(3,.aA (vQ dV.gs) 83),(4,dz (pT.zf dV)),(5,dx (pT.zf dV)),(6,dg (pT.zf dV)),(7,dG (pT.zf dV)),(8,cJ (pT.zf dV)),(9,bH (List.map (λx=>x.id) dV.l) 2)] 10) (cM Z SP 5 0)))))))))))))))):=by kernel_rfl
theorem aCj{z bs nb j ar ao js L Q}:
 cg Z Q16 (λ_=>[]) L Q 1000 5 0 (bg [(7,.aa 0 0),(10,.aa 1 0),(13,.aj 2 nb 9)]) (cM Z SP 5 0) (h5c z bs ar ao j js)=(
 ∃w:qE,(([.aa 0 0,.ai [.ad [],J ar,J ao]]:LV)=[.aa 0 0,.ai [.ad (qE.p w).cT,J (qE.p w).ar,J (qE.p w).ao]]/\hG z j js=ze w.w/\((qE.p w).ao=0->False)/\(∃m:List En,(gh.z (qE.w w)).eQ=ep m/\eC w.p m=none))/\(∃ae:gh,(([.aa 0 0]:LV)=[.aa 0 0]/\bU w.w.z.X (gh.z (qE.w w)).xc [(0,.al [J (gh.z (qE.w w)).ao,J (gh.z (qE.w w)).id,.aj 1 (gh.z (qE.w w)).ng 1,.aB 2,.aB 3,.aB 4,.aB 5,.aj 6 (gh.z (qE.w w)).na 9,.aj 7 (gh.j (qE.w w)) 1] 78),(1,cQ w.w.z),(2,.aY w.w.z.fo (gh.z (qE.w w)).cc true),(3,.aY w.w.z.nq (gh.z (qE.w w)).rc true),(4,.aY w.w.z.dT (gh.z (qE.w w)).nc true),(5,.aY w.w.z.eQ (gh.z (qE.w w)).oc true),(6,cJ w.w.z),(7,.aA w.w.js 2)] 8=ze ae)/\aw (aP (gh.j ae)==aP nb) (∃aE:Unit,(([]:LV)=[]/\aq [] 0=an)/\Q (.au true) (bU ae.z.X (gh.z ae).xc [] 0)) (Q (.au false) (bU ae.z.X (gh.z ae).xc [] 0)))):=by kernel_rfl
structure PT(z2:Ar)(gs:List vG)(g:aF)(a:Int)(bl:List eW)(n:Nat)(m2:List En)(n2:Nat)(b:eW)(l:List eW):Prop where
 add:z2.pM=fC bl/\z2.na=bl.length/\bl.length<=400000
 eQ:z2.eQ=ep m2
 gr:nz z2.nb (gs++[⟨n,bl,true⟩])
 ne:bl=b::l
 hd:b.aO=⟨[],((dh g).length:Int),a⟩
 ao:1<=a
 lst:xZ m2 b.aO=(n2,[b.id],true)
 dU:z2.X n2=some (.aA (aX [b.id]) 2)
 aug:eC b.aO (wP bl m2)=none
structure V2(z z2:Ar)(m:List En)(g:aF)(tr:Bool)(e:Int)(gs:List vG):Prop where
 go:Hd z m
 gr:nz z gs
 U0:∀x∈gs,x.b=false
 qM:iy gs<=100000*35/\gs.length<=3800000
 ev:Cu z m g tr=(e,z2)
 suc:e=0->∃bl n m2 n2 b l,PT z2 gs g z.ao bl n m2 n2 b l
theorem Yl:∀{gs},(∀x∈gs,x.b=false)->k7 gs=0
 |[],_=>rfl
 |g::gs,h=>by rw[k7,Yl λx hx=>h x (en _ hx),h g (dY ..)];rfl
theorem awr{z2 gs g a bl n m2 n2 b l}(h:PT z2 gs g a bl n m2 n2 b l)(z)(hz:z.eQ=ep (wP bl m2)):
 bu Z 5 178 0 (.au true) (bU z.X z.xc [] 0) (bg [(7,.aa 0 0),(10,.aa 1 0),(13,.aj 2 bl.length 9)]) (h5c z (fC bl) ((dh g).length:Int) a bl.length (aX (bl.map (·.id)))) (cM Z SP 5 0):=by
 have hg:=h.aug;have ha:=h.ao;rw[h.hd]at hg;refine hE apC aCj ?_;refine⟨⟨⟨z,bl.length,aX (bl.map (·.id))⟩,⟨[],((dh g).length:Int),a⟩⟩,⟨rfl,rfl,λh0=>?_,_,hz,hg⟩,⟨z,bl.length,aX (bl.map (·.id))⟩,⟨rfl,rfl⟩,aD (λ_=>⟨(),⟨rfl,rfl⟩,rfl,rfl⟩) λhh=>ab hh⟩;simp only at h0;omega
theorem awq{z2 gs k i s ts a bl n m2 n2 b l}(h:PT z2 gs (.mk k i s ts) a bl n m2 n2 b l)(Si:∀x∈gs,x.b=false)(hc:iy gs<=3500000/\gs.length<=3800000)(ho:bB (.mk k i s ts)):
 ∃X' rp,bu Z 5 178 0 (.au true) (bU X' rp [] 0) (adb ((iy gs:Nat):Int) (dh (.mk k i s ts)) (dh (.mk k i s ts)).length bl.length ((iy (gs++[⟨n,bl,true⟩]):Nat):Int) ((k7 (gs++[⟨n,bl,true⟩]):Nat):Int)) (h5b z2.nb (fC bl) k i s (aH ts) ts.length ((dh (.mk k i s ts)).length:Int) a) (cM Z No 5 0):=by
 have au7:=h.lst;have ha:=h.ao;have bS:=h.add.2.2;have hv:=BH (.mk k i s ts);have xN:0<bl.length:=by rw[h.ne];simp
 have hco:G_ ⟨z2.nb,m2,gs,n,bl⟩:=⟨h.eQ,h.gr,Si,by show gs.length<=3900000;omega,by show bl.length<=3900000;omega⟩;have hd:=awr h {z2.nb with eQ:=ep (wP bl m2),fG:=vQ gs,ng:=gs.length} rfl;have hcA:iy (gs++[⟨n,bl,true⟩])=iy gs+bl.length:=by rw[(HJ _ _).1];rfl
 have hcM:k7 (gs++[⟨n,bl,true⟩])=bl.length:=by rw[(HJ _ _).2,Yl Si];simp[k7]
 have hp0:cz Z 2 (fC bl) 0=some (J b.id):=by have e:=h.ne;subst e;rw[Tq];rfl
 have hf:Il b.id bl=some b:=by rw[h.ne,Il];simp
 have hpr:=h.hd;refine⟨z2.X,z2.xc,?_⟩;refine hE EF aCi ?_;refine⟨⟨z2.nb,m2,⟨[],((dh (.mk k i s ts)).length:Int),a⟩,n2,[b.id],true⟩,⟨rfl,rfl,?_,?_,λ_=>h.dU,by simp⟩,aD (λhh=>absurd (beq_iff_eq.1 hh) (by simp only[r6];omega)) λ_=>?_⟩
 .rw[Ar.Nq,az (by show¬a=0;omega)];exact h.eQ
 .rw[<-hpr];exact au7
 refine⟨xN,b.id,hp0,⟨bl,b.id,b⟩,⟨rfl,rfl,by simp only;omega,hf⟩,aD (λhh=>(nomatch hh)) λ_=>aD (λhh=>ab hh) λ_=>?_⟩;refine⟨by simp,b.id,rfl,aD (λhh=>ab hh) λ_=>aD (λhh=>?_) λ_=>aD (λhh=>ab (dX hh)) λ_=>aD (λhh=>ab hh) λ_=>?_⟩
 .have e:(!(cb b.aO.cT []&&(b.aO.ar==((dh (.mk k i s ts)).length:Int)&&(b.aO.ao==a&&true))))=false:=by rw[hpr];simp[om]
  have hh2:=hh;rw[e]at hh2;cases hh2
 refine⟨.mk k i s ts,⟨rfl,rfl,ho⟩,dh (.mk k i s ts),⟨rfl,rfl,by omega⟩,aD (λhh=>?_) λ_=>aD (λhh=>?_) λ_=>?_⟩
 .rw[hcA,cH (by simp;omega) (by simp;omega)]at hh;simp at hh
 .rw[hcM]at hh;simp at hh
 exact⟨⟨z2.nb,m2,gs,n,bl⟩,⟨rfl,rfl,hco⟩,aD (λhh=>ab hh) λ_=>hd⟩
theorem awp{z z2 m k i s ts tr e gs}(h:V2 z z2 m (.mk k i s ts) tr e gs)(ho:bB (.mk k i s ts))(CU:z.nb=z):
 ∃X' rp,bu Z 5 178 0 (.au true) (bU X' rp [] 0) (Uz tr ((iy gs:Nat):Int) ((k7 gs:Nat):Int)) (h5a z k i s (aH ts) ts.length) (cM Z Nn 5 0):=by
 have hc:=h.qM;by_cases he:e=0
 .have⟨bl,n,m2,n2,b,l,hs⟩:=h.suc he;have⟨X',rp,h1⟩:=awq hs h.U0 ⟨by omega,hc.2⟩ ho;have bS:=hs.add.2.2;have hcA:iy (gs++[⟨n,bl,true⟩])=iy gs+bl.length:=by rw[(HJ _ _).1];rfl
  refine⟨X',rp,?_⟩;refine hE EF anl ?_;refine⟨true,aD (λ_=>?_) λhh=>(nomatch hh)⟩;refine⟨⟨z,m,.mk k i s ts,tr,e,z2⟩,⟨rfl,rfl,ho,h.go,h.ev,decide_eq_true he⟩,z2,⟨rfl,rfl⟩,⟨z2.nb,gs++[⟨n,bl,true⟩]⟩,⟨rfl,rfl,hs.gr,?_,?_⟩,?_⟩
  .simp;omega
  .simp;omega
  .have e1:=hs.add.1;have e2:=hs.add.2.1;have e3:cJ z2=.aA (fC bl) 44:=by rw[cJ,e1]
   simp only[e2,e3];exact h1
 .refine⟨z.X,z.xc,?_⟩;refine hE EF anl ?_;refine⟨false,aD (λhh=>(nomatch hh)) λ_=>?_⟩;have hn0:z.na=0:=by rw[<-CU];rfl
  have hg:nz z.nb gs:=by rw[CU];exact h.gr
  refine⟨⟨z,m,.mk k i s ts,tr,e,z2⟩,⟨rfl,rfl,ho,h.go,h.ev,decide_eq_false he⟩,z,⟨rfl,rfl⟩,⟨z.nb,gs⟩,⟨rfl,rfl,hg,by simp only;omega,by simp only;omega⟩,aD (λ_=>?_) λhh=>absurd hh (by simpa using he)⟩;refine aD (λ_=>aD (λ_=>aD (λ_=>⟨(),⟨rfl,rfl⟩,rfl,rfl⟩) λhh=>?_) λhh=>ab hh) λhh=>absurd hh (by rw[hn0];simp)
  rw[Yl h.U0]at hh;cases hh
theorem aii(X xc):Ex (di X xc):=⟨⟨rfl,rfl⟩,⟨rfl,rfl⟩,rfl,rfl,⟨rfl,rfl⟩⟩
theorem aws{X xc nx l k i s ts tr}(ho:BP (di X xc) ⟨nx,l⟩ tr)(hg:bB (.mk k i s ts))(ajh:(BG (di X xc) ⟨nx,l⟩ tr).1=0->∃z2 m e gs,V2 (BG (di X xc) ⟨nx,l⟩ tr).2.nb z2 m (.mk k i s ts) tr e gs):
 ∃X' rp,bX Z 5 [.ai (lQ ⟨nx,l⟩),.ai (aU (.mk k i s ts)),.au tr] (bU X xc [] 0) (.au true) (bU X' rp [] 0):=by
 generalize hr:BG (di X xc) ⟨nx,l⟩ tr=r at ajh;have⟨e,zf⟩:=r;by_cases he:e=0
 .have⟨z2,m,e2,gs,hl⟩:=ajh he;have⟨X',rp,h1⟩:=awp hl hg rfl;have hc:=hl.qM;refine⟨X',rp,?_⟩;refine eE 178 EF anm ?_;exact⟨(X,xc),⟨rfl,rfl⟩,true,aD (λ_=>⟨⟨di X xc,⟨nx,l⟩,tr,e,zf⟩,⟨rfl,rfl,aii X xc,ho,hr,decide_eq_true he⟩,zf,⟨rfl,rfl⟩,⟨zf.nb,gs⟩,⟨rfl,rfl,hl.gr,by simp only;omega,by simp only;omega⟩,h1⟩) λhh=>(nomatch hh)⟩
 .refine⟨X,xc,?_⟩;refine eE 178 EF anm ?_;exact⟨(X,xc),⟨rfl,rfl⟩,false,aD (λhh=>(nomatch hh)) λ_=>⟨⟨di X xc,⟨nx,l⟩,tr,e,zf⟩,⟨rfl,rfl,aii X xc,ho,hr,decide_eq_false he⟩,aD (λ_=>⟨(),⟨rfl,rfl⟩,rfl,rfl⟩) λhh=>absurd hh (by simpa using he)⟩⟩
theorem ap6{k L p i n l b}(h:Ks.OK k L)(hn:n<k.xc)(hx:k.X n=some (oo l b)):
 (k.qw p i).X n=some (oo l b)/\n<(k.qw p i).xc:=by
 refine⟨?_,DM hn⟩;have cK:=Nw h p;have⟨c1,c2⟩:=LC (k:=k) p;show(bif Nat.beq n k.xc then _ else bif Nat.beq n (k.nm p)&& !Nat.beq (iO p k.m k.c).aW.length 0 then none else k.X n)=_;have e1:Nat.beq n k.xc=false:=by
  cases h1:Nat.beq n k.xc with
  |false=>rfl
  |true=>have:=dw h1;omega
 rw[e1,cond_false];by_cases h0:(iO p k.m k.c).aW=[]
 .rw[h0];simp only[gY];rw[show(!Nat.beq 0 0)=false from rfl,Gm,cond_false];exact hx
 .have hr:=(cK.ui _ c1 h0).2;have e2:Nat.beq n (k.nm p)=false:=by
   cases h1:Nat.beq n (k.nm p)with
   |false=>rfl
   |true=>have e:=dw h1;rw[Ks.nm,az h0]at e;rw[<-e]at hr;rw[hx]at hr;cases hr
  rw[e2,sZ,cond_false];exact hx
theorem Xu{n lg b}:∀{l k L},Ks.OK k L->n<k.xc->k.X n=some (oo lg b)->(iF k l).X n=some (oo lg b)/\n<(iF k l).xc
 |[],k,L,h,hn,hx=>⟨hx,hn⟩
 |x::l,k,L,h,hn,hx=>by
  show(iF (if x.aO.ao≠0 then k.qw x.aO x.id else k) l).X n=_/\n<(iF (if x.aO.ao≠0 then k.qw x.aO x.id else k) l).xc;by_cases hb:x.aO.ao≠0
  .rw[aL hb];have⟨h1,h2⟩:=ap6 (p:=x.aO) (i:=x.id) h hn hx;exact Xu (h.add x.aO x.id) h2 h1
  .rw[az hb];exact Xu h hn hx
theorem aka{z m l b gs L}(aZ:Ks.OK ⟨m,z.oc,z.X,z.xc⟩ L)(hg:nz z gs)(ay:∀g∈gs,g.n<z.xc):
 nz (rP z m l b) (gs++[⟨(iF ⟨m,z.oc,z.X,z.xc⟩ l).xc,l,b⟩])/\∀g∈gs++[⟨(iF ⟨m,z.oc,z.X,z.xc⟩ l).xc,l,b⟩],g.n<(rP z m l b).xc:=by
 have nP:∀g∈gs,(iF ⟨m,z.oc,z.X,z.xc⟩ l).X g.n=some (oo g.l g.b)/\g.n<(iF ⟨m,z.oc,z.X,z.xc⟩ l).xc:=λg hm=>Xu aZ (ay g hm) (hg.dq g hm)
 refine⟨⟨?_,?_,?_⟩,?_⟩
 .show z.fG++[_]=_;rw[hg.fG,qp];rfl
 .show z.ng+1=_;rw[hg.ng];simp
 .intro g hm;show(w_ _ _ _) g.n=_;rw[w_];rcases iW.1 hm with hm|hm
  .have⟨h1,h2⟩:=nP g hm;have e1:Nat.beq g.n (iF ⟨m,z.oc,z.X,z.xc⟩ l).xc=false:=by
    cases h3:Nat.beq g.n (iF ⟨m,z.oc,z.X,z.xc⟩ l).xc with
    |false=>rfl
    |true=>have:=dw h3;omega
   rw[e1,cond_false];exact h1
  .obtain rfl:=pD.1 hm;simp
 .intro g hm;show g.n<(iF _ l).xc+1;rcases iW.1 hm with hm|hm
  .have:=(nP g hm).2;omega
  .obtain rfl:=pD.1 hm;exact lA _
def AR:S7->List (Int×List eW)->List vG
 |_,[]=>[]
 |st,x::l=>⟨(st.ks x.2).xc,x.2,false⟩::AR (mz st x) l
theorem auk{L st x gs}(h:u7 L st)(hg:nz st.z gs)(ay:∀g∈gs,g.n<st.z.xc):
 nz (mz st x).z (gs++[⟨(st.ks x.2).xc,x.2,false⟩])/\∀g∈gs++[⟨(st.ks x.2).xc,x.2,false⟩],g.n<(mz st x).z.xc:=by
 have⟨h1,h2⟩:=aka (l:=x.2) (b:=false) h.ok hg ay;exact⟨⟨h1.fG,h1.ng,h1.dq⟩,h2⟩
theorem aiE:∀{l L st gs},(∀x∈l,x.2≠[])->u7 L st->nz st.z gs->(∀g∈gs,g.n<st.z.xc)->nz (l.foldl mz st).z (gs++AR st l)/\∀g∈gs++AR st l,g.n<(l.foldl mz st).z.xc
 |[],L,st,gs,_,h,hg,ay=>by rw[AR,jH];exact⟨hg,ay⟩
 |x::l,L,st,gs,hx,h,hg,ay=>by have⟨h1,h2⟩:=auk (x:=x) h hg ay;have:=aiE (λy hy=>hx y (en _ hy)) (ajX h (hx x (dY ..))) h1 h2;rw[km]at this;exact this
theorem aiG:∀l st,∀g∈AR st l,g.b=false
 |[],_,g,h=>by simp[AR]at h
 |x::l,st,g,h=>by
  rcases dK.1 h with rfl|h
  .rfl
  .exact aiG l _ g h
theorem aiF:∀l st,(AR st l).length=l.length/\iy (AR st l)=rm l
 |[],_=>⟨rfl,rfl⟩
 |x::l,st=>by have⟨h1,h2⟩:=aiF l (mz st x);simp only[AR,ei,iy,h1,h2];exact⟨trivial,rfl⟩
theorem nz.nb{z gs}(h:nz z gs):nz z.nb gs:=⟨h.fG,h.ng,h.dq⟩
theorem akw:∀{a b c},kB a b=true->kB b c=true->kB a c=true
 |[],[],c,h1,h2=>by simp[kB]at h1
 |[],b::l,[],h1,h2=>by simp[kB]at h2
 |[],b::l,c::m,h1,h2=>by simp[kB]
 |a::l,[],c,h1,h2=>by simp[kB]at h1
 |a::l,b::m,[],h1,h2=>by simp[kB]at h2
 |a::l,b::m,c::n,h1,h2=>by
  have ih:= @akw l m n;simp only[kB]at h1 h2⊢;simp at h1 h2⊢;rcases h1 with h1|⟨h1,h3⟩<;>rcases h2 with h2|⟨h2,h4⟩
  .exact .inl (by omega)
  .exact .inl (by omega)
  .exact .inl (by omega)
  .exact .inr ⟨by omega,ih h3 h4⟩
theorem akv:∀a:LN,kB a a=false
 |[]=>rfl
 |a::l=>by
  have h:Nat.ble (a+1) a=false:=by
   cases hb:Nat.ble (a+1) a with
   |false=>rfl
   |true=>have:=pE hb;omega
  simp[kB,akv l,h]
def PL(q p:gj):Prop:=kB q.jK p.jK=true\/(q.jK=p.jK/\q.ar<p.ar)
theorem PL.trans{a b c}(h1:PL a b)(h2:PL b c):PL a c:=by
 rcases h1 with h1|⟨h1,h3⟩<;>rcases h2 with h2|⟨h2,h4⟩
 .exact .inl (akw h1 h2)
 .exact .inl (h2▸h1)
 .exact .inl (h1▸h2)
 .exact .inr ⟨h1.trans h2,by omega⟩
theorem PL.av0{a b}(h:PL a b)(hn:a.jK=b.jK)(ha:a.ar=b.ar):False:=by
 rcases h with h|⟨_,h⟩
 .rw[hn,akv]at h;cases h
 .omega
theorem ax6{q p}(h:Bl (some q) p=true):PL q p:=by
 simp only[Bl,Tl,EP,rB,om]at h;cases hl:kB q.jK p.jK with
 |true=>exact .inl hl
 |false=>
  rw[hl]at h;by_cases he:q.jK=p.jK
  .refine .inr ⟨he,?_⟩;simp[he]at h;split at h
   .assumption
   .split at h<;>omega
  .simp[he]at h
theorem al3{next}:∀{l q bK},vi next q bK l=true->(∀q0,q=some q0->∀p∈l,PL q0 p)/\(l.map lz).Nodup
 |[],q,bK,h=>⟨λ_ _ p hp=>(by cases hp),zP⟩
 |p::l,q,bK,h=>by
  simp only[vi]at h;split at h;next hc=>
   split at h;next yp hs=>
    have⟨h1,h2⟩:=al3 h;have h3:=h1 p rfl;simp at hc;refine⟨λq0 hq x hx=>?_,?_⟩
    .subst hq;have h4:=ax6 hc.2;rcases dK.1 hx with rfl|hx
     .exact h4
     .exact h4.trans (h3 x hx)
    .rw[gZ,wL];refine⟨λhm=>?_,h2⟩;have⟨y,hy,he⟩:=sb.1 hm;have h5:=h3 y hy;simp only[lz,cX.mk.injEq]at he;exact h5.av0 he.1.symm he.2.1.symm
   .cases h
  .cases h
theorem aoy{d}(h:nh d=true):(d.ij.map lz).Nodup:=by simp only[nh,dc]at h;exact(al3 h.2).2
theorem aE9{st p i j}(h:lk j st.th=some true):lk j (jr st p i).th=some true:=by
 simp only[jr,SG];split
 .rfl
 .exact h
theorem aFa(st p i):lk i (jr st p i).th=some true:=by simp only[jr,SG,if_true]
theorem Za{p j}:∀(ss:List j3) (st),lk j st.th=some true->lk j (ss.foldl (λst s=>jr st (lz p) s.id) st).th=some true
 |[],st,h=>h
 |s::ss,st,h=>Za ss _ (aE9 h)
theorem ah7{p}:∀(ss:List j3) (st),∀s∈ss,lk s.id (ss.foldl (λst s=>jr st (lz p) s.id) st).th=some true
 |s::ss,st,x,h=>by
  rcases dK.1 h with rfl|h
  .exact Za ss _ (aFa _ _ _)
  .exact ah7 ss _ x h
theorem aid{j}:∀l st,lk j st.th=some true->lk j (qR st l).th=some true
 |[],st,h=>h
 |p::l,st,h=>aid l _ (Za p.cf st h)
theorem aic:∀l st,∀p∈l,∀s∈p.cf,lk s.id (qR st l).th=some true
 |p::l,st,q,h,s,hs=>by
  rcases dK.1 h with rfl|h
  .exact aid l _ (ah7 q.cf st s hs)
  .exact aic l _ q h s hs
theorem aFM(z tr l):∀i∈(eh z tr l).aW,∃p∈l,∃s∈p.cf,s.id=i:=by
 refine Qx (P:=λst:S3=>∀i∈st.aW,∃p∈l,∃s∈p.cf,s.id=i) (λst p hp s hs h=>?_) (λi hi=>by cases hi);unfold jJ;split
 .exact h
 .split
  .exact h
  .intro i hi;rcases iW.1 hi with hi|hi
   .exact h i hi
   .rw[pD]at hi;exact⟨p,hp,s,hs,hi.symm⟩
theorem aol{β k v}:∀{m} {x:Int×β},x∈up k v m->x.1=k\/∃y∈m,y.1=x.1
 |[],x,h=>by simp only[up,pD]at h;exact .inl (by rw[h])
 |(i,w)::m,x,h=>by
  simp only[up]at h;split at h
  .rcases dK.1 h with rfl|h
   .exact .inl rfl
   .exact .inr ⟨x,en _ h,rfl⟩
  .rcases dK.1 h with rfl|h
   .exact .inr ⟨_,dY ..,rfl⟩
   .rcases aol h with h|⟨y,h1,h2⟩
    .exact .inl h
    .exact .inr ⟨y,en _ h1,h2⟩
theorem ah8:∀(l:List (Int×List eW)) (st),∀x∈(l.foldl mz st).cm,(∃y∈l,y.1=x.1)\/∃y∈st.cm,y.1=x.1
 |[],st,x,h=>.inr ⟨x,h,rfl⟩
 |a::l,st,x,h=>by
  rcases ah8 l (mz st a) x h with⟨y,h1,h2⟩|⟨y,h1,h2⟩
  .exact .inl ⟨y,en _ h1,h2⟩
  .rcases aol (show y∈up a.1 _ st.cm from h1)with h3|⟨w,h3,h4⟩
   .exact .inl ⟨a,dY ..,h3.symm.trans h2⟩
   .exact .inr ⟨w,h3,h4.trans h2⟩
theorem aFN(z tr l):∀x∈(so z tr l).cm,lk x.1 (n6 z tr l).th=some true:=by
 intro x hx;rcases ah8 _ _ x hx with⟨y,h1,h2⟩|⟨y,h1,_⟩
 .have⟨p,hp,s,hs,hi⟩:=aFM z tr l y.1 (List.of_mem_zip h1).1;rw[<-h2,<-hi];exact aic l _ p hp s hs
 .cases h1
def nC(l:List gj):List (gj×j3):=l.flatMap λp=>p.cf.map λs=>(p,s)
theorem YF{σ}(iE):∀(l) (st:σ),uL iE st l=(nC l).foldl (λst x=>iE st x.1 x.2) st
 |[],st=>rfl
 |p::l,st=>by
  show uL iE (p.cf.foldl (λst s=>iE st p s) st) l=_;have e:nC (p::l)=(p.cf.map λs=>(p,s))++nC l:=by simp[nC]
  rw[YF iE l,e,DN,List.foldl_map]
theorem Lo:∀l,(nC l).length=ki l
 |[]=>rfl
 |p::l=>by have:=Lo l;simp only[nC,ki,qeh,cL,qo,gZ,List.sum_cons]at this⊢;omega
theorem afB{l x}:x∈nC l↔x.1∈l/\x.2∈x.1.cf:=by
 simp only[nC,List.mem_flatMap,sb];constructor
 .rintro⟨p,h1,s,h2,rfl⟩;exact⟨h1,h2⟩
 .rintro⟨h1,h2⟩;exact⟨_,h1,_,h2,rfl⟩
theorem lK.qM:∀{new na all},lK na all new->∀f∈new.flatten,na<=f.aO.ao/\f.aO.ao<na+new.length
 |[],na,all,h,f,hf=>by cases hf
 |l::new,na,all,h,f,hf=>by
  have⟨⟨_,h3,ar,h4⟩,_⟩:=h;simp only[ei];rcases iW.1 hf with hf|hf
  .rw[(h4 f hf).2.1];exact⟨DH _,by simp only;omega⟩
  .have:=lK.qM h.2 f hf;omega
theorem alU:∀l x,(∀f∈l,0<=f.aO.ao/\f.aO.ao<2000000000000)->x<=DA x l/\∀f∈l,f.aO.ao<DA x l
 |[],x,_=>⟨DH _,λf hf=>by cases hf⟩
 |f::l,x,h=>by
  have h0:=h f (dY ..);have hw:wI (f.aO.ao+1)=f.aO.ao+1:=cH;have h1:=alU l (if wI (f.aO.ao+1)>x then wI (f.aO.ao+1)else x) λg hg=>h g (en _ hg)
  rw[hw]at h1;simp only[DA,sV,hw]at h1⊢;refine⟨?_,λg hg=>?_⟩
  .have:=h1.1;split at this<;>omega
  .rcases dK.1 hg with rfl|hg
   .have:=h1.1;split at this<;>omega
   .exact h1.2 g hg
theorem agv{f i}(he:(gW f i).2=0):(gW f i).1.aO=f.aO:=by
 unfold gW at he⊢;split at he
 .cases he
 next h1=>
  rw[az h1];split at he;next h2=>exact absurd he h2
  next h2=>rw[az h2]
theorem Yo:∀l z,(eu z l).2.2=0->0<=z.id->z.id+(l.length:Int)<2000000000000->
 (eu z l).1={z with id:=z.id+l.length}/\(eu z l).2.1.map eW.aO=l.map bG.aO
 |[],z,_,_,_=>⟨by simp[eu],rfl⟩
 |f::l,z,h,h0,h1=>by
  simp only[eu,ei]at h h1⊢;have hw:z.tk={z with id:=z.id+1}:=by unfold Ar.tk;rw[cH]
  split at h;next hc=>exact absurd h hc
  next hc=>rw[az hc];have⟨a1,a2⟩:=Yo l z.tk h (by rw[hw];simp only;omega) (by rw[hw];simp only;omega);refine⟨?_,by simp only[gZ,agv (yj.1 hc),a2]⟩;rw[a1,hw];simp;omega
theorem arD{f l z i}(h:(og z i (f::l)).2.2=0)(h0:0<=z.id)(h1:z.id+(l.length:Int)<2000000000000):
 (og z i (f::l)).1={z with id:=z.id+l.length,ao:=DA z.ao (f::l)}/\(og z i (f::l)).2.1.map eW.aO=(f::l).map bG.aO:=by
 simp only[og]at h⊢;split at h;next hc=>exact absurd h hc
 next hc=>
  split at h;next qV=>exact absurd h qV
  next qV=>rw[az hc,az qV];have⟨a1,a2⟩:=Yo l z (yj.1 qV) h0 h1;exact⟨by rw[a1];rfl,by simp only[gZ,agv (yj.1 hc),a2]⟩
theorem atr{c a tr}(hc:ub c)(hv:j4 c=true)(h1:1<=a)(h2:a<=1099511623776):
 ∃f l,tC c a tr=f::l/\f.aO=Tn c/\l.length<=4000/\∀f'∈l,a<=f'.aO.ao/\f'.aO.ao<a+2000:=by
 have⟨new,hn⟩:=Y8 tr hc.1 hc.2 hv h1 h2;have hl:=hn.len;refine⟨_,_,by unfold tC tD;rw[hn.ao],rfl,?_,λf' hf=>?_⟩
 .have:=Y9 λl hl=>(lK.Bi hn.ok l hl).elim λn hn=>hn.2.1
  omega
 .have:=lK.qM hn.ok f' hf;omega
structure KF(n:Nat)(st:S3)(bl:List eW):Prop where
 cP:st.cP.flatten=bl
 n:bl.length<=4001*n
 ao:1<=st.z.ao
 id:4294967296<=st.z.id/\st.z.id<=4294967296+bl.length
 lt:∀b∈bl,b.aO.ao<st.z.ao
theorem an1{tr st s}(h:(jJ tr st s).e=0):st.e=0:=by
 unfold jJ at h;split at h;next h1=>exact absurd h h1
 next h1=>exact yj.1 h1
theorem avW{tr st x n bl}(h:KF n st bl)(hn:n<=1000)(hc:ub x.c)(he:(jJ tr st x).e=0):∃XW,KF (n+1) (jJ tr st x) XW:=by
 have h0:=an1 he;unfold jJ at he⊢;rw[az (λhh=>hh h0)]at he⊢;split at he;next h1=>exact absurd he h1
 next h1=>
  rw[az h1];have⟨_,_,hv,ha1,ha2,kN,_⟩:=Rc hc h1;have⟨f,l,e1,e2,e4,e5⟩:=atr (tr:=tr) hc hv ha1 ha2;rw[kN,e1]at he⊢;have hbn:=h.n;have dv:=h.id;have⟨c1,c2⟩:=arD he (by omega) (by omega);generalize og st.z x.id (f::l)=r at c1 c2 he⊢;have⟨z',bs,e'⟩:=r;have Mu:bs.length=l.length+1:=by have:=congrArg List.length c2;simpa using this
  have FK:=alU (f::l) st.z.ao λf' hf=>by
   rcases dK.1 hf with rfl|hf
   .rw[e2];exact⟨DH _,by simp[Tn]⟩
   .have:=e5 f' hf;omega
  refine⟨bl++bs,?_,?_,?_,?_,λb hb=>?_⟩
  .simp only[qes,h.cP,JO,NT,jH]
  .simp;omega
  .rw[c1];simp only;omega
  .rw[c1];simp;omega
  .rw[c1];simp only;rcases iW.1 hb with hb|hb
   .have:=h.lt b hb;omega
   .have:b.aO∈(f::l).map bG.aO:=by rw[<-c2];exact Bp hb
    have⟨f',h3,h4⟩:=sb.1 this;rw[<-h4];exact FK.2 f' h3
theorem ajV{tr}:∀(todo:List (gj×j3)) (n st),(st.e=0->∃bl,KF n st bl)->(∀x∈todo,ub x.2.c)->n+todo.length<=1000->(todo.foldl (λst x=>jJ tr st x.2) st).e=0->∃bl,KF (n+todo.length) (todo.foldl (λst x=>jJ tr st x.2) st) bl
 |[],n,st,h,_,_,he=>h he
 |x::todo,n,st,h,hc,hl,he=>by
  simp at hl;have:=ajV todo (n+1) (jJ tr st x.2) (λh1=>?_) (λy hy=>hc y (en _ hy)) (by omega) he
  .rw[ei,show n+(todo.length+1)=n+1+todo.length by omega];exact this
  .have⟨bl,hb⟩:=h (an1 h1);exact avW hb (by omega) (hc x (dY ..)) h1
theorem aop{X xc tr l}(hc:∀x∈nC l,ub x.2.c)(hl:(nC l).length<=500)(he:(eh (di X xc) tr l).e=0):∃bl,KF (nC l).length (eh (di X xc) tr l) bl:=by unfold eh at he⊢;rw[YF]at he⊢;have:=ajV (nC l) 0 ⟨di X xc,0,[],[]⟩ (λ_=>⟨[],rfl,cE _,by simp[di],by simp[di],λx hx=>(by cases hx)⟩) hc (by omega) he;rwa[kD]at this
abbrev Xl(next:Int)(s:j3):Prop:=1<=s.id/\s.id<next
theorem aEO{next p bK s}(h:wT next p bK s=true):Xl next s/\s.id∉bK:=by simp only[wT,dc,zL,decide_eq_false_iff_not,beq_iff_eq]at h;exact⟨⟨by omega,by omega⟩,h.1.1.1.2⟩
theorem agm{next p}:∀{l bK yp},yT next p bK l=some yp->yp=bK++l.map j3.id/\(∀s∈l,Xl next s)/\(bK.Nodup->yp.Nodup)
 |[],bK,yp,h=>by simp only[yT,nX]at h;subst h;exact⟨by simp,λs hs=>(by cases hs),id⟩
 |s::l,bK,yp,h=>by
  simp only[yT]at h;split at h;next hs=>
   have⟨h1,h2⟩:=aEO hs;have⟨h3,h4,h5⟩:=agm h;refine⟨by rw[h3,km];rfl,λx hx=>?_,λhn=>h5 ?_⟩
   .rcases dK.1 hx with rfl|hx
    .exact h1
    .exact h4 x hx
   .rw[List.nodup_append];exact⟨hn,by simp,λa ha b hb=>by rw[pD.1 hb];rintro rfl;exact h2 ha⟩
  .cases h
theorem al2{next}:∀{l q bK},vi next q bK l=true->(∀x∈nC l,Xl next x.2)/\(bK.Nodup->(bK++(nC l).map λx=>x.2.id).Nodup)
 |[],q,bK,h=>⟨λx hx=>(by cases hx),λhn=>by simpa[nC]using hn⟩
 |p::l,q,bK,h=>by
  simp only[vi]at h;split at h
  .split at h;next yp hs=>
    have⟨h1,h2,h3⟩:=agm hs;have⟨h4,h5⟩:=al2 h;have e:nC (p::l)=(p.cf.map λs=>(p,s))++nC l:=by simp[nC]
    rw[e];refine⟨λx hx=>?_,λhn=>?_⟩
    .rcases iW.1 hx with hx|hx
     .obtain⟨s,hs,rfl⟩:=sb.1 hx;exact h2 s hs
     .exact h4 x hx
    .have:=h5 (h3 hn);rw[h1]at this;rw[qp,List.map_map,<-km];exact this
   .cases h
  .cases h
theorem aaG:∀(n:Nat) (l:LI),l.Nodup->(∀x∈l,0<=x/\x<(n:Int))->l.length<=n
 |0,[],_,_=>cE _
 |0,x::l,_,h=>by have:=h x (dY ..);omega
 |n+1,l,hn,h=>by
  by_cases hm:(n:Int)∈l
  .have h1:=aaG n (l.erase (n:Int)) (hn.erase _) λx hx=>by have h2:=(hn.mem_erase_iff).1 hx;have h3:=h x h2.2;have h4:=h2.1;omega
   rw[List.length_erase_of_mem hm]at h1;omega
  .have h1:=aaG n l hn λx hx=>by
    have h3:=h x hx;have h4:x≠n:=by rintro rfl;exact hm hx
    omega
   omega
theorem aob:∀l n,0<=n->n+(ki l:Int)<4611686018427387904->z8 n l=n+ki l
 |[],n,_,_=>by simp[z8,ki]
 |p::l,n,h0,h1=>by
  have e:ki (p::l)=p.cf.length+ki l:=by simp[ki]
  rw[e]at h1⊢;rw[z8,cH,aob l _ (by omega) (by omega)];omega
structure apW(d:Db):Prop where
 ij:d.ij.length<=500
 cf:(nC d.ij).length<=500
 prs:(d.ij.map lz).Nodup
theorem Ke{d}(h:nh d=true):apW d:=by
 have hn:=aoy h;simp only[nh,dc,zL,decide_eq_false_iff_not]at h;have⟨⟨⟨⟨h1,h2⟩,h3⟩,h4⟩,h5⟩:=h;have⟨h6,h7⟩:=al2 h5;have h8:=h7 zP;rw[zK]at h8;have h9:=aaG 4294967296 _ h8 λx hx=>by obtain⟨y,hy,rfl⟩:=sb.1 hx;have:=h6 y hy;omega
 rw[qo]at h9;have Cz:=Lo d.ij;rw[aob _ 0 (DH _) (by omega)]at h4;exact⟨by omega,by omega,hn⟩
def xS(q:cX)(m:List En):Option LI:=(eC q m).map En.aW
def s9(q:cX)(m:List En):LI:=(xS q m).getD []
theorem ahd{p q n aW}:∀m,eC q (qv p n aW m)=if q=p then(eC q m).map (λe=>{e with n:=n,aW:=aW})else eC q m
 |[]=>by simp[qv,eC]
 |e::m=>by
  have ih:=ahd (p:=p) (q:=q) (n:=n) (aW:=aW) m;simp only[qv];by_cases hp:p=e.p
  .subst hp;simp only[if_true,eC];by_cases hq:q=e.p
   .simp only[hq,if_true,r9]
   .simp only[hq,if_false]
  .simp only[hp,if_false,eC];by_cases hq:q=e.p
   .simp only[aL hq];rw[az λh=>hp (h.symm.trans hq)]
   .simp only[az hq];exact ih
theorem ahc{p q c}(h:q≠p):∀m,eC q (m++[⟨p,0,[],c⟩])=eC q m
 |[]=>by simp[eC,h]
 |e::m=>by simp only[oC,eC,ahc h m]
theorem avP(k:Ks)(p q i):xS q (k.qw p i).m=if q=p then some (s9 p k.m++[i])else xS q k.m:=by
 unfold xS s9;show Option.map En.aW (eC q (qv p k.xc ((iO p k.m k.c).aW++[i]) (qP p k.m k.c).1))=_;rw[ahd];by_cases h:q=p
 .subst h;rw[aL rfl,aL rfl,QP,iO,xS];cases eC q k.m<;>rfl
 .rw[az h,az h];unfold qP;cases eC p k.m with
  |some e=>rfl
  |none=>rw[ahc h]
theorem amJ(k:Ks)(p q i):s9 q (k.qw p i).m=s9 q k.m++(if q=p then[i]else[]):=by
 unfold s9;rw[avP];by_cases h:q=p
 .subst h;rw[aL rfl,aL rfl];rfl
 .rw[az h,az h,jH]
def own(q:cX)(l:List eW):LI:=(l.filter λb=>decide (b.aO=q)).map eW.id
theorem acB{q}(hq:q.ao≠0):∀l k,s9 q (iF k l).m=s9 q k.m++own q l
 |[],k=>by simp[iF,own]
 |b::l,k=>by
  have ih:=acB hq l (if b.aO.ao≠0 then k.qw b.aO b.id else k);show s9 q (iF (if b.aO.ao≠0 then k.qw b.aO b.id else k) l).m=_;rw[ih];by_cases hb:b.aO=q
  .rw[aL (by rw[hb];exact hq),amJ,aL hb.symm];simp[own,hb]
  .have:own q (b::l)=own q l:=by simp[own,hb]
   rw[this];split
   .rw[amJ,az λh=>hb h.symm,jH]
   .rfl
theorem ah9{q}(hq:q.ao≠0):∀(l:List (Int×List eW)) (st),s9 q (l.foldl mz st).m=s9 q st.m++own q (l.flatMap Prod.snd)
 |[],st=>by simp[own]
 |x::l,st=>by rw[sV,ah9 hq l];show s9 q (iF _ x.2).m++_=_;rw[acB hq,km];simp[own]
theorem adK{α β:Type}:∀(a:List α) (b:List (List β)),a.length=b.length->(a.zip b).flatMap Prod.snd=b.flatten
 |[],[],_=>rfl
 |[],_::_,h=>by simp at h
 |_::_,[],h=>by simp at h
 |x::a,y::b,h=>by simp[adK a b (by simpa using h)]
structure WN(X0:Nat->Option bf)(c0:Nat)(st:S5):Prop where
 xc:c0<=st.z.xc
 X:∀i,i<c0->st.z.X i=X0 i
 nm:∀e∈st.m,e.aW≠[]->c0<=e.n
theorem aor{p n aW}:∀{m x},x∈qv p n aW m->x∈m\/x.n=n
 |e::m,x,h=>by
  simp only[qv]at h;split at h
  .rcases dK.1 h with rfl|h
   .exact .inr rfl
   .exact .inl (en _ h)
  .rcases dK.1 h with rfl|h
   .exact .inl (dY ..)
   .exact(aor h).imp (en _) id
theorem as3{p m c x}(h:x∈(qP p m c).1):x∈m\/x.aW=[]:=by
 unfold qP at h;split at h
 .exact .inl h
 .rcases iW.1 h with h|h
  .exact .inl h
  .rw[pD.1 h];exact .inr rfl
theorem av5{X0 c0 st}(h:WN X0 c0 st)(p i):WN X0 c0 (jr st p i):=by
 have hx:=h.xc;have RS:(iO p st.m st.z.nc).aW≠[]->c0<=(iO p st.m st.z.nc).n:=by
  unfold iO;cases he:eC p st.m with
  |some e=>exact h.nm e (LJ he).1
  |none=>exact λh0=>absurd rfl h0
 refine⟨Nat.le_succ_of_le hx,λj hj=>?_,λe he cK=>?_⟩
 .show Af st.z.X st.z.xc (st.k.nm p) (iO p st.m st.z.nc).aW.length _ _ j=_;have e1:Nat.beq j st.z.xc=false:=by
   cases hb:Nat.beq j st.z.xc with
   |false=>rfl
   |true=>have:=dw hb;omega
  have e2:(Nat.beq j (st.k.nm p)&& !Nat.beq (iO p st.m st.z.nc).aW.length 0)=false:=by
   by_cases h0:(iO p st.m st.z.nc).aW=[]
   .rw[h0];simp
   .cases hb:Nat.beq j (st.k.nm p)with
    |false=>rfl
    |true=>have hb:=dw hb;have:=RS h0;unfold Ks.nm at hb;rw[az (show¬(iO p st.k.m st.k.c).aW=[]from h0)]at hb;have hb:j=(iO p st.m st.z.nc).n:=hb;omega
  simp only[Af,e1,e2,cond_false];exact h.X j hj
 .rcases aor (show e∈qv p st.z.xc _ (qP p st.m st.z.nc).1 from he)with h1|h1
  .rcases as3 h1 with h1|h1
   .exact h.nm e h1 cK
   .exact absurd h1 cK
  .rw[h1];exact hx
theorem awJ{m p aW X c xc L}(hk:Ks.OK ⟨m,c,X,xc⟩ L)(h:xS p m=some aW):∃n,xZ m p=(n,aW,true)/\(aW≠[]->X n=some (.aA (aX aW) 2)/\n<xc)/\aW.length<=L:=by
 unfold xS at h;cases he:eC p m with
 |none=>rw[he]at h;cases h
 |some e=>
  rw[he]at h;obtain rfl:e.aW=aW:=by simpa using h
  have⟨h1,h2⟩:=LJ he;unfold xZ;rw[he];refine⟨_,rfl,λcK=>?_,hk.len e h1⟩;rw[az cK];exact⟨(hk.ui e h1 cK).2,(hk.ui e h1 cK).1⟩
section
variable{X:Nat->Option bf}{xc:Nat}{nx:Int}{tr:Bool}{l:List gj}
theorem agN(hd:uc ⟨nx,l⟩):∀x∈nC l,ub x.2.c:=λx hx=>(hd.2 x.1 (afB.1 hx).1).2.2 x.2 (afB.1 hx).2
theorem aoa(a:LI)(b)(h:a.length=b.length):rm (a.zip b)=b.flatten.length:=by rw[<-adK a b h,rm,List.length_flatMap]
theorem aon(hd:uc ⟨nx,l⟩):BP (di X xc) ⟨nx,l⟩ tr:=by
 have bS:=aoq (di X xc) tr l;have My:=aoo (di X xc) tr l;refine⟨hd,λhv=>?_,aoy,aFL _ _ _,⟨bS,λhv=>?_⟩,λhv he b hb=>?_,λhv he=>?_,λhv he=>aFN _ _ _⟩
 .have vd:=Ke hv;have h1:=vd.ij;have h2:=vd.cf;have h3:=Lo l;simp only at h1 h2;exact⟨by simp only;omega,by simp only;omega,λp hp s hs=>(hd.2 p hp).2.2 s hs⟩
 .have h2:=(Ke hv).cf;have h3:=Lo l;simp only at h2⊢;omega
 .have:=adz (di X xc) tr l (λp hp s hs=>(hd.2 p hp).2.2 s hs) he b hb;exact⟨this.1,by omega⟩
 .have h2:=(Ke hv).cf;have⟨bl,hb⟩:=aop (agN hd) h2 he;have:=hb.n;simp only at h2 bS⊢;rw[aoa _ _ bS,hb.cP];omega
structure Ph(z:Ar)(k:Nat)(f:S5):Prop where
 inv:Bd k f
 Dh:WN z.X z.xc f
 add:f.z.pM=z.pM/\f.z.na=z.na
 eQ:f.z.eQ=z.eQ
theorem ah6{z}:∀(todo:List (gj×j3)) (k st),Ph z k st->Ph z (k+todo.length) (todo.foldl (λst x=>jr st (lz x.1) x.2.id) st)
 |[],k,st,h=>h
 |x::todo,k,st,h=>by have:=ah6 todo (k+1) (jr st (lz x.1) x.2.id) ⟨ajW h.inv,av5 h.Dh _ _,h.add,h.eQ⟩;rw[ei,show k+(todo.length+1)=k+1+todo.length by omega];exact this
theorem ah5{z}(hn:(l.map lz).Nodup):Ph z (nC l).length (qR (xz z l) l):=by
 have h0:Ph z 0 (xz z l):=by refine⟨⟨rfl,?_⟩,⟨cE _,λi _=>rfl,λe he cK=>absurd (Bj (show e∈rT 0 l from he)).2.2.1 cK⟩,⟨rfl,rfl⟩,rfl⟩;have:=ak8 (X:=z.X) (xc:=z.xc) (k:=0) hn;rw[kD]at this;exact this
 have:=ah6 (nC l) 0 _ h0;rw[kD]at this;unfold qR;rw[YF];exact this
end
theorem Y_{l st}:(qR st l).z.oc=st.z.oc/\(qR st l).z.fG=st.z.fG/\(qR st l).z.ng=st.z.ng/\(qR st l).z.ao=st.z.ao/\(qR st l).z.id=st.z.id:=
 Qx (iE:=λst p s=>jr st (lz p) s.id) (P:=λs=>s.z.oc=st.z.oc/\s.z.fG=st.z.fG/\s.z.ng=st.z.ng/\s.z.ao=st.z.ao/\s.z.id=st.z.id) (λ_ _ _ _ _ h=>h) ⟨rfl,rfl,rfl,rfl,rfl⟩
theorem axx{m c L X X' xc rp}(h:Ks.OK ⟨m,c,X,xc⟩ L)(hx:∀i,i<xc->X' i=X i)(cA:xc<=rp):Ks.OK ⟨m,c,X',rp⟩ L:=
 ⟨h.Gx,h.lt,h.Jg,h.nil,λe he hi=>by have⟨h1,h2⟩:=h.ui e he hi;simp only at h1 h2⊢;exact⟨by omega,by rw[hx _ h1];exact h2⟩,h.Jv,h.len⟩
section
variable{X:Nat->Option bf}{xc:Nat}{nx:Int}{l:List gj}{tr:Bool}
theorem at5(hd:uc ⟨nx,l⟩)(hv:nh ⟨nx,l⟩=true)(he:(eh (di X xc) tr l).e=0):
 ∃gs,nz (n6 (di X xc) tr l).z.nb gs/\(∀g∈gs,g.b=false/\g.n<(n6 (di X xc) tr l).z.xc)/\gs.length<=(eh (di X xc) tr l).aW.length/\iy gs=rm ((eh (di X xc) tr l).aW.zip (eh (di X xc) tr l).cP):=by
 have vd:=Ke hv;have aan:=vd.prs;have Z3:=adz (di X xc) tr l (λp hp s hs=>(hd.2 p hp).2.2 s hs) he;have⟨a3,i3,C'⟩:=ON tr l (di X xc);have zj:u7 0 ⟨(eh (di X xc) tr l).z,[],[]⟩:=by rw[C'];exact⟨rfl,⟨zP,λe h=>(by cases h),zP,λe h=>(by cases h),λe h=>(by cases h),λe h=>(by cases h),λe h=>(by cases h)⟩,⟨rfl,cE _⟩,⟨rfl,cE _⟩,rfl,rfl⟩
 have hg0:nz (eh (di X xc) tr l).z []:=by rw[C'];exact⟨rfl,rfl,λg hg=>(by cases hg)⟩
 have⟨h1,h2⟩:=aiE (l:=(eh (di X xc) tr l).aW.zip (eh (di X xc) tr l).cP) (λx hx=>(Z3 x.2 (List.of_mem_zip hx).2).1) zj hg0 (λg hg=>(by cases hg));rw[zK]at h1 h2;have hf:=ah5 (z:=(so (di X xc) tr l).z) aan;have hr:=Y_ (l:=l) (st:=xz (so (di X xc) tr l).z l);have hl:=aiF ((eh (di X xc) tr l).aW.zip (eh (di X xc) tr l).cP) ⟨(eh (di X xc) tr l).z,[],[]⟩;have hu:=aiG ((eh (di X xc) tr l).aW.zip (eh (di X xc) tr l).cP) ⟨(eh (di X xc) tr l).z,[],[]⟩;refine⟨_,⟨hr.2.1.trans h1.fG,hr.2.2.1.trans h1.ng,λg hg=>(hf.Dh.X _ (h2 g hg)).trans (h1.dq g hg)⟩,λg hg=>⟨hu g hg,JX (h2 g hg) hf.Dh.xc⟩,?_,hl.2⟩;rw[hl.1,List.length_zip];exact Nat.min_le_left _ _
theorem y9(hd:uc ⟨nx,l⟩)(hv:nh ⟨nx,l⟩=true)(he:(eh (di X xc) tr l).e=0)(hn:(n6 (di X xc) tr l).z.ng+1<=4000000):Hd (n6 (di X xc) tr l).z.nb (so (di X xc) tr l).m:=by
 have vd:=Ke hv;have aan:=vd.prs;have xP:BP (di X xc) ⟨nx,l⟩ tr:=aon hd;have I_:=xP.tot hv he;simp only at I_;have Z3:=adz (di X xc) tr l (λp hp s hs=>(hd.2 p hp).2.2 s hs) he;have⟨a3,i3,C'⟩:=ON tr l (di X xc);have zj:u7 0 ⟨(eh (di X xc) tr l).z,[],[]⟩:=by rw[C'];exact⟨rfl,⟨zP,λe h=>(by cases h),zP,λe h=>(by cases h),λe h=>(by cases h),λe h=>(by cases h),λe h=>(by cases h)⟩,⟨rfl,cE _⟩,⟨rfl,cE _⟩,rfl,rfl⟩
 have h7:=So (l:=(eh (di X xc) tr l).aW.zip (eh (di X xc) tr l).cP) (λx hx=>(Z3 x.2 (List.of_mem_zip hx).2).1) zj;have hf:=ah5 (z:=(so (di X xc) tr l).z) aan;have hr:=Y_ (l:=l) (st:=xz (so (di X xc) tr l).z l);have aZ:=Ks.OK.GU (axx h7.ok hf.Dh.X hf.Dh.xc) (show _<=3900000 by omega);have hoc:(n6 (di X xc) tr l).z.oc=(so (di X xc) tr l).z.oc:=hr.1;refine⟨hf.eQ.trans h7.eQ,?_,⟨?_,hn⟩,⟨rfl,fu _⟩⟩
 .show Ks.OK ⟨_,(n6 (di X xc) tr l).z.oc,_,_⟩ _;rw[hoc];exact aZ
 .show(n6 (di X xc) tr l).z.fG.length=(n6 (di X xc) tr l).z.ng;exact(congrArg List.length hr.2.1).trans (h7.fG.1.trans hr.2.2.1.symm)
end
theorem aha{p q}:∀{m},q≠p->eC q (sf p m)=eC q m
 |[],_=>rfl
 |e::m,h=>by
  simp only[sf];by_cases h1:p=e.p
  .rw[aL h1,eC,az λh2=>h (h2.trans h1.symm)]
  .rw[az h1];simp only[eC,aha h]
theorem ag9{q}:∀{m},q∉m.map En.p->eC q m=none
 |[],_=>rfl
 |e::m,h=>by simp only[gZ,dK,not_or]at h;rw[eC,az h.1,ag9 h.2]
theorem ahb{q}:∀{m},(m.map En.p).Nodup->eC q (sf q m)=none
 |[],_=>rfl
 |e::m,h=>by
  rw[gZ,wL]at h;simp only[sf];by_cases h1:q=e.p
  .rw[aL h1];exact ag9 (h1▸h.1)
  .rw[az h1,eC,az h1,ahb h.2]
theorem ayG{p q m}(h:eC q m=none):eC q (sf p m)=none:=by
 by_cases h1:q=p
 .subst h1;have:∀{m:List En},eC q m=none->sf q m=m:=by
   intro m;induction m with
   |nil=>intro _;rfl
   |cons e m ih=>
    intro h;rw[eC]at h;split at h
    .cases h
    next h2=>rw[sf,az h2,ih h]
  rw[this h,h]
 .rw[aha h1,h]
theorem amz{q}:∀{l m},eC q m=none->eC q (wP l m)=none
 |[],m,h=>h
 |b::l,m,h=>amz (l:=l) (ayG h)
theorem abT{q}:∀{l},(∀b∈l,b.aO≠q)->own q l=[]
 |[],_=>rfl
 |b::l,h=>by
  have h1:=abT λx hx=>h x (en _ hx)
  have h2:=decide_eq_false (h b (dY ..));simp only[own,ug,h2]at h1⊢;exact h1
theorem aFc{z m g tr z2 gs}(ho:bB g)(kO:Hd z m)(hgr:nz z gs)(ay:∀x∈gs,x.n<z.xc)(CU:z.nb=z)(dv:0<=z.id/\z.id<1000000000000)(b_:∀q:cX,q.ao=z.ao->s9 q m=[])(ph:Cu z m g tr=(0,z2)):
 ∃bl n m2 n2 b l,PT z2 gs g z.ao bl n m2 n2 b l:=by
 unfold Cu at ph;by_cases h1:(p7 g z.ao tr).2≠0
 .rw[aL h1]at ph;exact absurd (Prod.mk.inj ph).1 h1
 rw[az h1]at ph;have⟨f1,f2,f3,f4,f5,f6⟩:=ah0 ho h1;rw[f1]at ph;by_cases h2:(qN z (jM g z.ao tr)).2.2≠0
 .rw[aL h2]at ph;exact absurd (Prod.mk.inj ph).1 h2
 rw[az h2]at ph;have⟨new,hf⟩:=Y5 tr ho f2 f3 f4;have kN:jM g z.ao tr=⟨NK g z.ao,jV g,(gI (lY g z.ao tr) g).2⟩::new.flatten:=by rw[jM,tD,hf.ao]
 have FI:=lK.qM hf.ok;have h3:¬(eu z (jM g z.ao tr)).2.2≠0:=by intro h;apply h2;rw[qN,aL h];exact h
 have hc:qN z (jM g z.ao tr)=((eu z (jM g z.ao tr)).1.ps (jM g z.ao tr),(eu z (jM g z.ao tr)).2.1,0):=by rw[qN,az h3]
 have⟨c1,c2⟩:=Yo _ z (yj.1 h3) dv.1 (by omega);have⟨a',i',hz⟩:=agw z (jM g z.ao tr);rw[hc]at ph hz;rw[hz]at ph;have lU:(eu z (jM g z.ao tr)).2.1.length=(jM g z.ao tr).length:=by have:=congrArg List.length c2;simpa using this
 have Sd:=c2;generalize (eu z (jM g z.ao tr)).2.1=bl at ph lU Sd;rw[kN]at Sd lU;rw[kN]at f6;simp at f6 lU;cases bl with
 |nil=>simp at lU
 |cons b l=>
  simp only[gZ,iL]at Sd;have⟨hb,hl⟩:=Sd;simp only[ei]at lU;cases ph;have ajq:=Xv kO.ok (b::l);have hbx:b.aO.ao=z.ao:=by rw[hb];rfl
  have cK:b.aO.ao≠0:=by omega
  have wi:∀x∈l,x.aO≠b.aO:=by
   intro x hx h;have:x.aO∈new.flatten.map bG.aO:=by rw[<-hl];exact Bp hx
   have⟨f,pj,mR⟩:=sb.1 this;have:=FI f pj;rw[mR,h,hbx]at this;omega
  have avi:own b.aO (b::l)=[b.id]:=by have:=abT wi;simp only[own,ug,decide_true]at this⊢;simp[this]
  have hr:=acB cK (b::l) ⟨m,z.oc,z.X,z.xc⟩;rw[show s9 b.aO (⟨m,z.oc,z.X,z.xc⟩:Ks).m=[]from b_ _ hbx,avi,zK]at hr;have hi:xS b.aO (iF ⟨m,z.oc,z.X,z.xc⟩ (b::l)).m=some [b.id]:=by
   unfold s9 at hr;cases h:xS b.aO (iF ⟨m,z.oc,z.X,z.xc⟩ (b::l)).m with
   |none=>rw[h]at hr;cases hr
   |some aW=>rw[h]at hr;rw[<-hr];rfl
  have⟨n2,k1,k2,_⟩:=awJ ajq hi;have⟨k3,k4⟩:=k2 (by simp);have hkg:=aka (z:={z with ao:=a',id:=i'}) (l:=b::l) (b:=true) kO.ok ⟨hgr.fG,hgr.ng,hgr.dq⟩ ay;have RJ:z.pM=[]/\z.na=0:=by rw[<-CU];exact⟨rfl,rfl⟩
  refine⟨b::l,_,(iF ⟨m,z.oc,z.X,z.xc⟩ (b::l)).m,n2,b,l,⟨?_,?_,by rw[ei];omega⟩,rfl,hkg.1.nb,rfl,hb,f3,k1,?_,?_⟩
  .show z.pM++_=_;rw[RJ.1];rfl
  .show z.na+_=_;rw[RJ.2,kD]
  .show w_ _ _ _ n2=_;rw[w_];have e1:Nat.beq n2 (iF ⟨m,z.oc,z.X,z.xc⟩ (b::l)).xc=false:=by
    cases h:Nat.beq n2 (iF ⟨m,z.oc,z.X,z.xc⟩ (b::l)).xc with
    |false=>rfl
    |true=>exact absurd (dw h) (Nat.ne_of_lt k4)
   rw[e1,cond_false];exact k3
  .exact amz (l:=l) (ahb ajq.Jg)
section
variable{X:Nat->Option bf}{xc:Nat}{nx:Int}{l:List gj}{tr:Bool}
theorem aFP(l:List (Int×List eW)):∀st,(l.foldl mz st).z.ao=st.z.ao/\(l.foldl mz st).z.id=st.z.id:=by
 induction l with
 |nil=>intro st;exact⟨rfl,rfl⟩
 |cons x l ih=>intro st;exact ih (mz st x)
theorem atT{g}(hg:bB g)(hd:uc ⟨nx,l⟩)(hv:nh ⟨nx,l⟩=true)(he:(eh (di X xc) tr l).e=0):
 ∃z2 m e gs,V2 (n6 (di X xc) tr l).z.nb z2 m g tr e gs:=by
 have vd:=Ke hv;have kv:=vd.cf;simp only at kv;have bS:=aoq (di X xc) tr l;have⟨bl,hb⟩:=aop (agN hd) kv he;have hn:=hb.n;have My:=aoo (di X xc) tr l;have⟨gs,h1,h2,h3,h4⟩:=at5 hd hv he;have CV:=h1.ng;have h3':gs.length<=1000000:=by have:=Lo l;omega
 have kO:=y9 hd hv he (by show(n6 (di X xc) tr l).z.nb.ng+1<=_;rw[CV];omega);have hr:=Y_ (l:=l) (st:=xz (so (di X xc) tr l).z l);have h7:=aFP ((eh (di X xc) tr l).aW.zip (eh (di X xc) tr l).cP) ⟨(eh (di X xc) tr l).z,[],[]⟩;have hax:(n6 (di X xc) tr l).z.ao=(eh (di X xc) tr l).z.ao:=hr.2.2.2.1.trans h7.1;have dv:(n6 (di X xc) tr l).z.id=(eh (di X xc) tr l).z.id:=hr.2.2.2.2.trans h7.2;have hi:=hb.id;have b_:∀q:cX,q.ao=(n6 (di X xc) tr l).z.nb.ao->s9 q (so (di X xc) tr l).m=[]:=by
  intro q hq;have hq:=hq.trans hax;have hax:=hb.ao;have:=ah9 (q:=q) (by omega) ((eh (di X xc) tr l).aW.zip (eh (di X xc) tr l).cP) ⟨(eh (di X xc) tr l).z,[],[]⟩;rw[adK _ _ bS,hb.cP]at this;refine this.trans ?_;rw[abT λb iQ h=>?_]
  .rfl
  .have:=hb.lt b iQ;rw[h]at this;omega
 generalize ph:Cu (n6 (di X xc) tr l).z.nb (so (di X xc) tr l).m g tr=r;have⟨e,z2⟩:=r;refine⟨z2,_,e,gs,kO,h1,λx hx=>(h2 x hx).1,⟨?_,by omega⟩,ph,λh0=>?_⟩
 .rw[h4,aoa _ _ bS,hb.cP];omega
 .subst h0;exact aFc hg kO h1 (λx hx=>(h2 x hx).2) rfl ⟨by show 0<=(n6 (di X xc) tr l).z.id;omega,by show(n6 (di X xc) tr l).z.id<_;omega⟩ b_ ph
theorem awo{k i s ts}(hd:uc ⟨nx,l⟩)(hg:bB (.mk k i s ts)):∃X' rp,bX Z 5 [.ai (lQ ⟨nx,l⟩),.ai (aU (.mk k i s ts)),.au tr] (bU X xc [] 0) (.au true) (bU X' rp [] 0):=by
 refine aws (aon hd) hg λh=>?_
 unfold BG at h⊢;by_cases hv:nh ⟨nx,l⟩=false
 .rw[aL hv]at h;cases h
 .rw[az hv]at h⊢;by_cases he:(eh (di X xc) tr l).e=0
  .rw[az (λh=>h he)];exact atT hg hd (by simpa using hv) he
  .rw[aL he]at h;exact absurd h he
end
end
end Go.Cl
