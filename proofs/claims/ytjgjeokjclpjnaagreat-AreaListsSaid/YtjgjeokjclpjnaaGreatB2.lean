/- Part of a proof of AreaLists. -/
import Derived.Test.YtjgjeokjclpjnaaGreatB1
set_option linter.all false
set_option linter.unusedSectionVars false
set_option maxRecDepth 100000
namespace Go.Cl
open Go.Ev Go.Proofs
noncomputable section
structure mg where
 cy:LI
 bz:LI
 aR:LI
def Po(c:mg):LV:=[.ai 0 c.cy.length 1,.ai 1 c.bz.length 1,.ai 2 c.aR.length 1]
def ya(c:mg):AH:=al [(0,.ay (aX c.cy) 3),(1,.ay (aX c.bz) 2),(2,.ay (aX c.aR) 3)] 3
def wQ:fO->Bool
 |[]=>false
 |[_]=>false
 |g::l=>g.eO==1||wQ l
def qm(f:bG)(c:mg):Bool:=wQ f.aZ||decide (0<c.bz.length)
def WV:cx (bG×mg)where
 bn w A H:=A=[.ah (gH w.1),.ah (Po w.2)]/\H=ya w.2/\iW w.1
 v w:=.ao (qm w.1 w.2)
 aK w:=ya w.2
theorem ao2{c d}(h:ya c=ya d):c=d:=by
 have q:=λi=>congrArg (λH=>AH.bf H i) h
 have q0:=dw (q 0);have q1:=dw (q 1);have q2:=dw (q 2);have⟨a,b,e⟩:=c;have⟨a',b',e'⟩:=d;rw[mg.mk.injEq];exact⟨yY (bk.ay.inj q0).1,yY (bk.ay.inj q1).1,yY (bk.ay.inj q2).1⟩
theorem aqI:WV.cr:=by rintro⟨f,c⟩ ⟨f',c'⟩ A H ⟨h1,h2,_⟩ ⟨h3,h4,_⟩;rw[h2]at h4;rw[h1]at h3;have:=ao2 h4;subst this;simp at h3;rw[ye _ _ h3]
def TQ:Ev.bo:=bR 88 (ca WV aqI cD) NH
def h25(nm:LN)(ar au:Int)(cs:LV)(len:Nat)(gs:LV)(gl:Nat)(c:mg):AH:=al [(0,.ay (aX c.cy) 3),(1,.ay (aX c.bz) 2),(2,.ay (aX c.aR) 3),(3,.aj [.ab nm,J ar,J au,.ad cs len 4,.ad gs gl 6] 106),(4,.aj (Po c) 153)] 5
abbrev Nk x0 x1 x2:=aB [(2,.aa 3 0),(3,.aa 4 0),(8,.ad x0 x1 6),(9,J (Int.ofNat x1)),(10,J x2)]
theorem ayf{nm ar au cs len gs gl c L Q}:
 bI Z NH (λ_=>[2,3,8,9,10]) L Q 1000 88 [.ah [.ab nm,J ar,J au,.ad cs len 4,.ad gs gl 6],.ah (Po c)] (ya c)=(
 L (Nk gs gl 0) (al [(0,.ay (aX c.cy) 3),(1,.ay (aX c.bz) 2),(2,.ay (aX c.aR) 3),(3,.aj [.ab nm,J ar,J au,.ad cs len 4,.ad gs gl 6] 106),(4,.aj [.ai 0 c.cy.length 1,.ai 1 c.bz.length 1,.ai 2 c.aR.length 1] 153)] 5) (aw Z 88 0)):=by kernel_rfl
theorem ayg{nm ar au i cs len gs gl c L Q}:
 ck Z NH (λ_=>[2,3,8,9,10]) L Q 1000 88 3 (Nk gs gl i) (aw Z 88 0) (h25 nm ar au cs len gs gl c)=(
 aq (decide (i<Int.ofNat gl)) (∃aL:Nat,i=(aL:Int)/\aL<gl/\(∃n:Int,∃s:LN,∃aP:Int,∃bA:Int,∃bP:LV,∃bH:Nat,∃cf:Int,((gs.drop (aL*6)).take 6:LV)=[J n,.ab s,J aP,J bA,.ad bP bH 4,J cf]/\aq (n==1) (aq (decide (i<wI (Int.ofNat gl-1))) (Q (.ao true) (ya c)) (L (Nk gs gl (wI (i+1))) (al [(0,.ay (aX c.cy) 3),(1,.ay (aX c.bz) 2),(2,.ay (aX c.aR) 3),(3,.aj [.ab nm,J ar,J au,.ad cs len 4,.ad gs gl 6] 106),(4,.aj [.ai 0 c.cy.length 1,.ai 1 c.bz.length 1,.ai 2 c.aR.length 1] 153)] 5) (aw Z 88 0))) (L (Nk gs gl (wI (i+1))) (al [(0,.ay (aX c.cy) 3),(1,.ay (aX c.bz) 2),(2,.ay (aX c.aR) 3),(3,.aj [.ab nm,J ar,J au,.ad cs len 4,.ad gs gl 6] 106),(4,.aj [.ai 0 c.cy.length 1,.ai 1 c.bz.length 1,.ai 2 c.aR.length 1] 153)] 5) (aw Z 88 0)))) (Q (.ao (decide (Int.ofNat c.bz.length>0))) (ya c))):=by kernel_rfl
theorem atj{gs:fO}{i}(h:i<gs.length):wQ (gs.drop i)=((gs[i].eO==1&&decide (i+1<gs.length))||wQ (gs.drop (i+1))):=by
 rw[fY h];cases hd:gs.drop (i+1)with
 |nil=>
  have:¬i+1<gs.length:=by have:=List.drop_eq_nil_iff.1 hd;omega
  simp[wQ,this]
 |cons g l=>
  have:i+1<gs.length:=by
   rcases Fy (i+1) gs.length with h|h
   .exact h
   .rw[gQ h]at hd;cases hd
  simp[wQ,this]
theorem aye{nm ar au cs len gs c aH}(hl:dt gs.length)(ho:∀g∈gs,qA g):
 ∀i:Nat,(i<=gs.length/\(wQ (gs.drop i)||decide (0<c.bz.length))=aH)->
 br Z 88 31 3 (.ao aH) (ya c) (Nk (bD gs) gs.length (i:Int)) (h25 nm ar au cs len (bD gs) gs.length c) (aw Z 88 0):=by
 refine dS (λi=>gs.length-i) _ _ _ _ ?_;rintro i ⟨hi,hf⟩ ih;refine hE TP ayg ?_;refine aD.2 ⟨λax=>?_,λbu=>?_⟩
 .have ax:i<gs.length:=by simpa using ax
  have⟨k,lV,VA,VL,ls,v,he,bX,a_⟩:=By ax ho;rw[atj ax,he]at hf;refine⟨i,rfl,ax,k,lV,VA,VL,_,_,v,bX,?_⟩;have e:wI (Int.ofNat gs.length-1)=(gs.length:Int)-1:=by unfold dt at hl;rw[cO (by simp;omega) (by simp;omega)];simp
  rw[lh hl ax,e];refine aD.2 ⟨λhk=>aD.2 ⟨λh2=>?_,λh2=>?_⟩,λhk=>?_⟩
  .have h2:i+1<gs.length:=by simp at h2;omega
   simp[hk,h2]at hf;exact⟨by rw[<-hf],rfl⟩
  .have h2:¬i+1<gs.length:=by simp at h2;omega
   simp only[h2,decide_false,I_,Bool.false_or]at hf;exact ih (i+1) ⟨by omega,hf⟩ (by omega)
  .simp only[hk,tg,Bool.false_or]at hf;exact ih (i+1) ⟨by omega,hf⟩ (by omega)
 .have bu:gs.length<=i:=by simpa using bu
  rw[gQ bu]at hf;subst hf;exact⟨by simp[wQ],rfl⟩
theorem aca:aU Z TQ:=by refine cA TP ?_;rintro⟨⟨⟨nm,ar,au⟩,l,gs⟩,c⟩ args H ⟨rfl,rfl,ho⟩;refine eS TP 1000 (λ_=>[2,3,8,9,10]) 31 (by kernel_rfl) ?_;simp only[WV,gH];rw[ayf];exact aye ho.2.2.2.1 ho.2.2.2.2 0 ⟨by omega,by simp only[qm,xf]⟩
def zK(w:Int×aI):LV:=J w.1::aW w.2
def nT:List (Int×aI)->LV
 |[]=>[]
 |w::l=>zK w++nT l
theorem Pw(w):(zK w).length=5:=by simp[zK,sE]
theorem WQ:∀l,(nT l).length=l.length*5
 |[]=>rfl
 |t::l=>by simp[nT,Pw,WQ l];omega
theorem afx:∀l m:List (Int×aI),nT (l++m)=nT l++nT m
 |[],m=>rfl
 |t::l,m=>by simp[nT,afx l m]
theorem aqu{a b}(h:zK a=zK b):a=b:=by have⟨r,t⟩:=a;have⟨r',t'⟩:=b;simp only[zK,jn,AV.bU.injEq,true_and]at h;obtain⟨rfl,h⟩:=h;rw[m_ h]
theorem WO:∀{l m},nT l=nT m->l=m
 |[],[],_=>rfl
 |[],i::_,h=>by simp[nT,zK]at h
 |i::_,[],h=>by simp[nT,zK]at h
 |t::l,u::m,h=>by have h2:=l4 h (by rw[Pw,Pw]);rw[aqu h2.1,WO h2.2]
def RM(l:List (Int×aI)):Prop:=∀w∈l,bL w.2
def fq:List (Int×aI)->Nat
 |[]=>0
 |w::l=>1+2*bM w.2.bh+fq l
theorem M0:∀l m:List (Int×aI),fq (l++m)=fq l+fq m
 |[],m=>by simp[fq]
 |t::l,m=>by simp[fq,M0 l m];omega
theorem aiu:∀l,l.length<=fq l
 |[]=>by simp
 |t::l=>by have:=aiu l;simp only[fq,ej];omega
def Em.jq(m:Em)(t:aI):Em×List (Int×aI):=
 if t.cq=0 then(if m.qR t.n>1 then m.nK t.n 6 7 0 else m.aY ⟨10,0,0,1,[],0⟩,[])
 else if t.cq=1 then(m.aY ⟨8,0,0,t.n,[],0⟩,[])
 else if t.cq=2 then(m.aY ⟨9,0,0,0,t.cK,0⟩,[])
 else(m.bY.aY ⟨6,m.bY.c9,0,0,[],0⟩,[(m.bY.c9,t)])
def Em.jr:Em->List (Int×aI)->eK->Em×List (Int×aI)
 |m,q,[]=>(m,q)
 |m,q,t::l=>Em.jr (m.jq t).1 (q++(m.jq t).2) l
def Em.uV:Nat->Em->List (Int×aI)->Em
 |0,m,_=>m
 |_+1,m,[]=>m
 |n+1,m,w::q=>Em.uV n ((m.aY ⟨5,0,w.1,0,w.2.cK,w.2.bh.length⟩).jr q w.2.bh).1 ((m.aY ⟨5,0,w.1,0,w.2.cK,w.2.bh.length⟩).jr q w.2.bh).2
def Em.Hm(m:Em)(w:Int×aI):Em:=Em.uV (fq [w]+1) m [w]
def kz(i:Nat):bk:=.aj [.aa i 0] 157
def oJ(q:List (Int×aI)):bk:=.ay (nT q) 228
def wO(w:Int×aI):bk:=.aj [J w.1,J w.2.cq,J w.2.n,.ab w.2.cK,.ad (aF w.2.bh) w.2.bh.length 4] 228
theorem aDk{w w'}(h:wO w=wO w'):w=w':=by have⟨r,⟨k,n,s,l⟩⟩:=w;have⟨r',⟨k',n',s',l'⟩⟩:=w';simp only[wO,aI.cq,aI.n,aI.cK,aI.bh,bk.aj.injEq,jn,AV.bU.injEq,AV.ab.injEq,AV.ad.injEq,true_and,and_true]at h;obtain⟨rfl,rfl,rfl,rfl,h1,h2⟩:=h;rw[tQ h2 h1]
def Xi(m:Em)(q:List (Int×aI))(w:Int×aI):AH:=al [(0,kz 3),(1,.aj [.ai 4 q.length 5] 229),(2,wO w),(3,fi m 5 6 7 8 9),(4,oJ q),(5,fx m),(6,eQ m),(7,eW m),(8,eU m),(9,eR m)] 10
def ajy(m:Em)(q:List (Int×aI))(w:Int×aI):AH:=al [(0,kz 3),(1,.aj [.ai 10 q.length 5] 229),(2,wO w),(3,fi m 11 6 7 8 9),(4,.bc []),(5,.bc []),(6,eQ m),(7,eW m),(8,eU m),(9,eR m),(10,oJ q),(11,fx m)] 12
def Lc(m:Em)(q:List (Int×aI))(w:Int×aI):AH:=al [(0,fi m 4 5 6 7 8),(1,kz 0),(2,.aj [.bq 9 5 q.length 0 5 false] 229),(3,wO w),(4,fx m),(5,eQ m),(6,eW m),(7,eU m),(8,eR m),(9,oJ (w::q))] 10
def ahK(m:Em)(q:List (Int×aI))(w:Int×aI):AH:=al [(0,fi m 10 5 6 7 8),(1,kz 0),(2,.aj [.bq 9 5 q.length 0 5 false] 229),(3,wO w),(4,.bc []),(5,eQ m),(6,eW m),(7,eU m),(8,eR m),(9,oJ (w::q)),(10,fx m)] 11
def Mz(m:Em)(q:List (Int×aI))(w:Int×aI):AH:=al [(0,fi m 10 5 6 7 8),(1,kz 0),(2,.aj [.ai 11 q.length 5] 229),(3,wO w),(4,.bc []),(5,eQ m),(6,eW m),(7,eU m),(8,eR m),(9,.bc []),(10,fx m),(11,oJ q)] 12
def Vn:cx (Em×List (Int×aI)×(Int×aI)×Nat)where
 bn w A H:=A=[J (w.2.2.2:Int),.aa 0 0,.aa 1 0,.aa 2 0]/\H=Xi w.1 w.2.1 w.2.2.1/\w.1.bg.length<4194304/\w.2.1.length<4194304/\w.2.2.2<w.2.2.1.2.bh.length
 v w:=.aC []
 aK w:=ajy (w.1.bY.aY ⟨6,w.1.bY.c9,0,0,[],0⟩) (w.2.1++[(w.1.bY.c9,w.2.2.1.2.bh.getD w.2.2.2 default)]) w.2.2.1
def Vq:cx (Em×List (Int×aI)×(Int×aI))where
 bn w A H:=A=[.aa 0 0,.ah (aW w.2.2.2),.ba (.func 157) [] [.aa 1 0,.aa 2 0,.aa 3 0]]/\H=Lc w.1 w.2.1 w.2.2/\w.1.bg.length+fq w.2.1+2*bM w.2.2.2.bh<4194304/\bL w.2.2.2
 v w:=.aC []
 aK w:=Mz (w.1.jr w.2.1 w.2.2.2.bh).1 (w.1.jr w.2.1 w.2.2.2.bh).2 w.2.2
theorem au1:Vn.cr:=by
 rintro⟨m,q,w,i⟩ ⟨m',q',w',i'⟩ A H ⟨h1,h2,_⟩ ⟨h3,h4,_⟩;simp only at h1 h2 h3 h4;rw[h1]at h3;rw[h2]at h4;have k:=λi=>congrArg (λH=>AH.bf H i) h4
 have e:=GR (dw (k 3)) (dw (k 5)) (dw (k 6)) (dw (k 7)) (dw (k 8)) (dw (k 9));have e2:=WO (bk.ay.inj (dw (k 4))).1;have e3:=aDk (dw (k 2));simp at h3;have e4:i=i':=by omega
 rw[e,e2,e3,e4]
theorem au6:Vq.cr:=by
 rintro⟨m,q,w⟩ ⟨m',q',w'⟩ A H ⟨h1,h2,_⟩ ⟨h3,h4,_⟩;simp only at h1 h2 h3 h4;rw[h1]at h3;rw[h2]at h4;have k:=λi=>congrArg (λH=>AH.bf H i) h4
 have e:=GR (dw (k 0)) (dw (k 4)) (dw (k 5)) (dw (k 6)) (dw (k 7)) (dw (k 8));have e2:=WO (bk.ay.inj (dw (k 9))).1;rw[jn]at e2;rw[e,e2.1,e2.2]
def NI:Ev.bo:=bR 157 (ca Vn au1 cD) TQ
def NJ:Ev.bo:=bR 156 (ca Vq au6 cD) NI
theorem aCy{l i}(h:i<l.length):∃k n s m,l[i]=.mk k n s m/\((aF l).drop (i*4)).take 4=[J k,J n,.ab s,.ad (aF m) m.length 4]:=by have bX:=KI h;generalize l[i]=u at*;have⟨k,n,s,m⟩:=u;exact⟨k,n,s,m,rfl,bX⟩
theorem awp{m i r k n s cs len q L Q}:
 bI Z TQ (λ_=>[]) L Q 1000 157 [J i,.aa 0 0,.aa 1 0,.aa 2 0] (al [(0,kz 3),(1,.aj [.ai 4 q.length 5] 229),(2,.aj [J r,J k,J n,.ab s,.ad cs len 4] 228),(3,fi m 5 6 7 8 9),(4,oJ q),(5,fx m),(6,eQ m),(7,eW m),(8,eU m),(9,eR m)] 10)=(
 ∃w,(([.aa 0 0]:LV)=[.aa 0 0]/\bQ m=bQ w)/\(∃ae:Em×et,(([.aa 0 0,.ah [J 6,J w.bY.c9,J 0,J 0,.ab [],J 0]]:LV)=[.aa 0 0,.ah (dq ae.2)]/\bQ w.bY=bQ ae.1/\ae.1.bg.length<4194304)/\(∃aL:Nat,i=(aL:Int)/\aL<len/\(∃aP bA cn bP bH,((cs.drop (aL*4)).take 4:LV)=[J aP,J bA,.ab cn,.ad bP bH 4]/\((nT q).length=q.length*5/\q.length+1<=4194304/\true=true/\true=true)/\Q (.aC []) (al [(0,kz 3),(1,.aj [.ai 10 (q.length+1) 5] 229),(2,.aj [J r,J k,J n,.ab s,.ad cs len 4] 228),(3,fi (ae.1.aY ae.2) 11 6 7 8 9),(4,.bc []),(5,.bc []),(6,eQ (ae.1.aY ae.2)),(7,eW (ae.1.aY ae.2)),(8,eU (ae.1.aY ae.2)),(9,eR (ae.1.aY ae.2)),(10,.ay (nT q++[J w.bY.c9,J aP,J bA,.ab cn,.ad bP bH 4]) 228),(11,fx (ae.1.aY ae.2))] 12))))):=by kernel_rfl
abbrev CW x0 x1 x2:=aB [(0,.aa 0 0),(2,.ba (.func 157) [] [.aa 1 0,.aa 2 0,.aa 3 0]),(9,.ad x0 x1 4),(10,J (aE x1)),(11,J x2)]
theorem azo{m}{q:List (Int×aI)}{dR r k n s cs len L Q}:
 bI Z NI (λ_=>[0,2,9,10,11]) L Q 1000 156 [.aa 0 0,.ah [J k,J n,.ab s,.ad cs len 4],.ba (.func 157) [] [.aa 1 0,.aa 2 0,.aa 3 0]] (al [(0,fi m 4 5 6 7 8),(1,kz 0),(2,.aj [.bq 9 5 q.length 0 5 false] 229),(3,.aj [J r,J k,J n,.ab s,.ad cs len 4] 228),(4,fx m),(5,eQ m),(6,eW m),(7,eU m),(8,eR m),(9,.ay dR 228)] 10)=(
 L (CW cs len 0) (al [(0,fi m 4 5 6 7 8),(1,kz 0),(2,.aj [.bq 9 5 q.length 0 5 false] 229),(3,.aj [J r,J k,J n,.ab s,.ad cs len 4] 228),(4,fx m),(5,eQ m),(6,eW m),(7,eU m),(8,eR m),(9,.ay dR 228)] 10) (aw Z 156 0)):=by kernel_rfl
abbrev Hx x0 x1 x2 x3 x4 x5 x6 x7 x8:=al [(0,fi x0 10 5 6 7 8),(1,kz 0),(2,.aj [.ai 11 x1 5] 229),(3,.aj [J x2,J x3,J x4,.ab x5,.ad x6 x7 4] 228),(4,.bc []),(5,eQ x0),(6,eW x0),(7,eU x0),(8,eR x0),(9,.bc []),(10,fx x0),(11,oJ x8)] 12
theorem azp{m i q r k n s cs len L Q}:
 ck Z NI (λ_=>[0,2,9,10,11]) L Q 1000 156 10 (CW cs len i) (aw Z 156 0) (Hx m q.length r k n s cs len q)=(
 aq (decide (i<aE len)) (∃aL:Nat,i=(aL:Int)/\aL<len/\(∃aP bA cn bP bH,((cs.drop (aL*4)).take 4:LV)=[J aP,J bA,.ab cn,.ad bP bH 4]/\aq (aP==0) (∃cf b,eT Z 2 3 (bJ J 0 m.iv) (J bA)=some (J cf,b)/\aq (decide (cf>1)) (∃w:Em×Int×Int×Int×Int,(([.aa 0 0,J bA,J 6,J 7,J 0]:LV)=[.aa 0 0,J w.2.1,J w.2.2.1,J w.2.2.2.1,J w.2.2.2.2]/\bQ m=bQ w.1/\w.1.bg.length<4194304)/\L (CW cs len (wI (i+1))) (Hx (w.1.nK w.2.1 w.2.2.1 w.2.2.2.1 w.2.2.2.2) q.length r k n s cs len q) (aw Z 156 0)) (∃w:Em×et,(([.aa 0 0,.ah [J 10,J 0,J 0,J 1,.ab [],J 0]]:LV)=[.aa 0 0,.ah (dq w.2)]/\bQ m=bQ w.1/\w.1.bg.length<4194304)/\L (CW cs len (wI (i+1))) (Hx (w.1.aY w.2) q.length r k n s cs len q) (aw Z 156 0))) (aq (aP==1) (∃w:Em×et,(([.aa 0 0,.ah [J 8,J 0,J 0,J bA,.ab [],J 0]]:LV)=[.aa 0 0,.ah (dq w.2)]/\bQ m=bQ w.1/\w.1.bg.length<4194304)/\L (CW cs len (wI (i+1))) (Hx (w.1.aY w.2) q.length r k n s cs len q) (aw Z 156 0)) (aq (aP==2) (∃w:Em×et,(([.aa 0 0,.ah [J 9,J 0,J 0,J 0,.ab cn,J 0]]:LV)=[.aa 0 0,.ah (dq w.2)]/\bQ m=bQ w.1/\w.1.bg.length<4194304)/\L (CW cs len (wI (i+1))) (Hx (w.1.aY w.2) q.length r k n s cs len q) (aw Z 156 0)) (∃w:Em×List (Int×aI)×(Int×aI)×Nat,(([J i,.aa 0 0,.aa 1 0,.aa 2 0]:LV)=[J ((w.2.2.2:Nat):Int),.aa 0 0,.aa 1 0,.aa 2 0]/\al [(0,kz 3),(1,.aj [.ai 4 q.length 5] 229),(2,.aj [J r,J k,J n,.ab s,.ad cs len 4] 228),(3,fi m 5 6 7 8 9),(4,oJ q),(5,fx m),(6,eQ m),(7,eW m),(8,eU m),(9,eR m)] 10=Xi w.1 w.2.1 w.2.2.1/\w.1.bg.length<4194304/\w.2.1.length<4194304/\w.2.2.2<w.2.2.1.2.bh.length)/\L (CW cs len (wI (i+1))) (al [(0,.aj [.ai 10 (w.1.bY.aY {op:=6,r:=w.1.bY.c9,a:=0,n:=0,eZ:=[],ar:=0}).bg.length 6,.ab (w.1.bY.aY {op:=6,r:=w.1.bY.c9,a:=0,n:=0,eZ:=[],ar:=0}).f.aN.cL,J (w.1.bY.aY (et.mk 6 w.1.bY.c9 0 0 [] 0)).f.aN.ar,J (w.1.bY.aY (et.mk 6 w.1.bY.c9 0 0 [] 0)).f.aN.au,.ad (aF (w.1.bY.aY {op:=6,r:=w.1.bY.c9,a:=0,n:=0,eZ:=[],ar:=0}).f.bC) (w.1.bY.aY {op:=6,r:=w.1.bY.c9,a:=0,n:=0,eZ:=[],ar:=0}).f.bC.length 4,.ad (bD (w.1.bY.aY {op:=6,r:=w.1.bY.c9,a:=0,n:=0,eZ:=[],ar:=0}).f.aZ) (w.1.bY.aY {op:=6,r:=w.1.bY.c9,a:=0,n:=0,eZ:=[],ar:=0}).f.aZ.length 6,.aA 5,.aA 6,.aA 7,.aA 8,J (w.1.bY.aY (et.mk 6 w.1.bY.c9 0 0 [] 0)).c9,.ao (w.1.bY.aY (et.mk 6 w.1.bY.c9 0 0 [] 0)).iL] 162),(1,kz 0),(2,.aj [.ai 11 (w.2.1++[Prod.mk w.1.bY.c9 (List.getD w.2.2.1.2.bh w.2.2.2 Inhabited.default)]).length 5] 229),(3,wO w.2.2.1),(4,.bc []),(5,eQ (w.1.bY.aY {op:=6,r:=w.1.bY.c9,a:=0,n:=0,eZ:=[],ar:=0})),(6,eW (w.1.bY.aY {op:=6,r:=w.1.bY.c9,a:=0,n:=0,eZ:=[],ar:=0})),(7,eU (w.1.bY.aY {op:=6,r:=w.1.bY.c9,a:=0,n:=0,eZ:=[],ar:=0})),(8,eR (w.1.bY.aY {op:=6,r:=w.1.bY.c9,a:=0,n:=0,eZ:=[],ar:=0})),(9,.bc []),(10,fx (w.1.bY.aY {op:=6,r:=w.1.bY.c9,a:=0,n:=0,eZ:=[],ar:=0})),(11,oJ (w.2.1++[(w.1.bY.c9,List.getD w.2.2.1.2.bh w.2.2.2 default)]))] 12) (aw Z 156 0)))))) (Q (.aC []) (Hx m q.length r k n s cs len q))):=by kernel_rfl
theorem aqk(q r k n s l):nT (q++[(r,.mk k n s l)])=nT q++[J r,J k,J n,.ab s,.ad (aF l) l.length 4]:=by rw[afx];rfl
theorem TS:aU Z NI:=by
 refine cA aca ?_;rintro⟨m,q,⟨r,⟨k,n,s,l⟩⟩,i⟩ args H ⟨rfl,rfl,hl,hq,hi⟩;simp only at hl hq;have hi:i<l.length:=hi;refine eS aca 1000 (λ_=>[]) 25 (by kernel_rfl) ?_;simp only[Xi,wO,aI.cq,aI.n,aI.cK,aI.bh];rw[awp];have⟨k',n',s',ts,he,bX⟩:=aCy hi;refine⟨m,⟨rfl,rfl⟩,(m.bY,⟨6,m.bY.c9,0,0,[],0⟩),⟨rfl,rfl,hl⟩,i,rfl,hi,k',n',s',_,_,bX,⟨WQ q,by omega,rfl,rfl⟩,rfl,?_⟩;have hg:l.getD i default=.mk k' n' s' ts:=by simp[List.getD,ir hi,he]
 simp only[Vn,ajy,oJ,wO,aI.bh,aI.cq,aI.n,aI.cK,hg,aqk,cI,ej,gW,ki]
theorem adS(m:Em)(t):(m.jq t).1.bg.length+fq (m.jq t).2<=m.bg.length+2*bN t:=by
 have hp:=sk t;unfold Em.jq;split
 .split
  .have:=Td m t.n 6 7 0;simp only[fq];omega
  .have:=lz m ⟨10,0,0,1,[],0⟩;simp only[fq];omega
 .split
  .have:=lz m ⟨8,0,0,t.n,[],0⟩;simp only[fq];omega
  .split
   .have:=lz m ⟨9,0,0,0,t.cK,0⟩;simp only[fq];omega
   .have:=lz m.bY ⟨6,m.bY.c9,0,0,[],0⟩;rw[Kv]at this;have⟨k,n,s,l⟩:=t;simp only[fq,bN,aI.bh];omega
theorem VB:∀(l) (m:Em) (q),(m.jr q l).1.bg.length+fq (m.jr q l).2<=m.bg.length+fq q+2*bM l
 |[],m,q=>by simp[Em.jr]
 |t::l,m,q=>by have h1:=adS m t;have h2:=VB l (m.jq t).1 (q++(m.jq t).2);rw[M0]at h2;simp only[Em.jr,bM];omega
section
variable{m:Em}{k n:Int}{s:LN}{ts:eK}
theorem aog(hk:k=0)(hc:m.qR n>1):m.jq (.mk k n s ts)=(m.nK n 6 7 0,[]):=by simp[Em.jq,aI.cq,aI.n,hk,hc]
theorem aoh(hk:k=0)(hc:¬m.qR n>1):m.jq (.mk k n s ts)=(m.aY ⟨10,0,0,1,[],0⟩,[]):=by simp[Em.jq,aI.cq,aI.n,hk,hc]
theorem aod(hk:k=1):m.jq (.mk k n s ts)=(m.aY ⟨8,0,0,n,[],0⟩,[]):=by simp[Em.jq,aI.cq,aI.n,hk]
theorem aoc(hk:k=2):m.jq (.mk k n s ts)=(m.aY ⟨9,0,0,0,s,0⟩,[]):=by simp[Em.jq,aI.cq,aI.cK,hk]
theorem aof(h0:k≠0)(h1:k≠1)(h2:k≠2):m.jq (.mk k n s ts)=(m.bY.aY ⟨6,m.bY.c9,0,0,[],0⟩,[(m.bY.c9,.mk k n s ts)]):=by simp[Em.jq,aI.cq,h0,h1,h2]
end
theorem azn{l r k0 n0 s0 M Qu}(hl:dt l.length)(ho:fy l):
 ∀p:Nat×Em×List (Int×aI),(p.1<=l.length/\p.2.1.bg.length+fq p.2.2+2*bM (l.drop p.1)<4194304/\p.2.1.jr p.2.2 (l.drop p.1)=(M,Qu))->
 br Z 156 59 10 (.aC []) (Mz M Qu (r,.mk k0 n0 s0 l)) (CW (aF l) l.length (p.1:Int)) (Mz p.2.1 p.2.2 (r,.mk k0 n0 s0 l)) (aw Z 156 0):=by
 refine dS (λp=>l.length-p.1) _ _ _ _ ?_;rintro⟨i,m,q⟩ ⟨hi,hc,hf⟩ ih;refine hD TS 1000 (λ_=>[0,2,9,10,11]) (by kernel_rfl) ?_;simp only[Mz,wO,aI.cq,aI.n,aI.cK,aI.bh];rw[azp];refine aD.2 ⟨λax=>?_,λbu=>?_⟩
 .have ax:i<l.length:=by simpa using ax
  have⟨k,n,s,ts,he,bX,a_⟩:=y9 ax ho;rw[fY ax,he]at hf hc;simp only[Em.jr,bM]at hf hc;refine⟨i,rfl,ax,k,n,s,_,_,bX,?_⟩;rw[lh hl ax];have bS:=adS m (.mk k n s ts);have hq:=aiu q;have next:=ih (i+1,(m.jq (.mk k n s ts)).1,q++(m.jq (.mk k n s ts)).2) ⟨by simp;omega,by simp only[M0];omega,hf⟩ (by simp;omega)
  have⟨c,b,h1,h2⟩:=Rf m n;have hr:m.bg.length<4194304:=by omega
  refine aD.2 ⟨λhk=>?_,λyv=>?_⟩
  .have hk:k=0:=by simpa using hk
   refine⟨c,b,h1,aD.2 ⟨λhc=>?_,λhc=>?_⟩⟩
   .have hc:c>1:=by simpa using hc
    rw[aog hk (by rw[h2];exact hc),jm]at next
    exact⟨(m,n,6,7,0),⟨rfl,rfl,hr⟩,next⟩
   .have hc:¬c>1:=by simpa using hc
    rw[aoh hk (by rw[h2];exact hc),jm]at next
    exact⟨(m,⟨10,0,0,1,[],0⟩),⟨rfl,rfl,hr⟩,next⟩
  .have yv:k≠0:=by simpa using yv
   refine aD.2 ⟨λhk=>?_,λqw=>?_⟩
   .have hk:k=1:=by simpa using hk
    rw[aod hk,jm]at next
    exact⟨(m,⟨8,0,0,n,[],0⟩),⟨rfl,rfl,hr⟩,next⟩
   .have qw:k≠1:=by simpa using qw
    refine aD.2 ⟨λhk=>?_,λoA=>?_⟩
    .have hk:k=2:=by simpa using hk
     rw[aoc hk,jm]at next
     exact⟨(m,⟨9,0,0,0,s,0⟩),⟨rfl,rfl,hr⟩,next⟩
    .have oA:k≠2:=by simpa using oA
     rw[aof yv qw oA]at next
     have hg:l.getD i default=.mk k n s ts:=by simp[List.getD,ir ax,he]
     rw[<-hg]at next
     exact⟨(m,q,(r,.mk k0 n0 s0 l),i),⟨rfl,rfl,hr,by show q.length<4194304;omega,ax⟩,next⟩
 .have bu:l.length<=i:=by simpa using bu
  rw[gQ bu,Em.jr]at hf;cases hf;exact⟨rfl,rfl⟩
theorem auE(m q w):Mv (Lc m q w) (ahK m q w) 4:=
 qz (l':=[(0,fi m 10 5 6 7 8),(1,kz 0),(2,.aj [.bq 9 5 q.length 0 5 false] 229),(3,wO w),(4,.bc []),(5,eQ m),(6,eW m),(7,eU m),(8,eR m),(9,oJ (w::q))]) rfl rfl rfl
theorem apI(m q w):lL 10 (ahK m q w) (Mz m q w) (λφ aQ=>φ 11=none/\aQ=zD 9 5 11 φ):=by
 have h:=auu (xx:=none) (m0:=10) (g:=9) (k:=5) (n:=11) (l:=[(0,fi m 10 5 6 7 8),(1,kz 0),(2,.aj [.bq 9 5 q.length 0 5 false] 229),(3,wO w),(4,.bc []),(5,eQ m),(6,eW m),(7,eU m),(8,eR m),(9,oJ (w::q)),(10,fx m)]) rfl rfl rfl (by rw[WQ];simp;omega);have e:(nT (w::q)).drop 5=nT q:=by rw[nT,<-Pw w,qbe]
 rw[e]at h;exact h
theorem TT:aU Z NJ:=by
 refine cA TS ?_;rintro⟨m,q,⟨r,⟨k,n,s,l⟩⟩⟩ args H ⟨rfl,rfl,hl,ho⟩;simp only[aI.bh]at hl;refine eS TS 1000 (λ_=>[0,2,9,10,11]) 59 (by kernel_rfl) ?_;simp only[Vq,aW,aI.bh,Lc,wO,aI.cq,aI.n,aI.cK];rw[oJ,azo];refine u9 ?_ (auE m q (r,.mk k n s l)) (by kernel_rfl) (λi a' hi=>⟨a',hi,vC hi (by simp[eC,j8,kW,Lc,al,eg])⟩);refine ag7 ?_ (apI m q (r,.mk k n s l)) (by kernel_rfl) (λφ aQ hR i a' hi=>⟨a',hi,λx hx=>?_⟩)
 .exact azn ho.2.1 ho.2.2 (0,m,q) ⟨by simp,by simpa using hl,by simp⟩
 .obtain⟨h1,rfl⟩:=hR;exact VR.ef (Wt h1) _ _ hx
def akE(m:Em)(w:Int×aI):Prop:=m.bg.length+fq [w]<4194304/\bL w.2
def NK:Ev.bo:=bR 128 (ca (lB aT Em.Hm akE) (ur zq) cD) NJ
def Qe(m:Em)(q:List (Int×aI)):AH:=al [(0,fi m 8 2 3 4 5),(1,.bc []),(2,eQ m),(3,eW m),(4,eU m),(5,eR m),(6,kz 0),(7,.aj [.ai 9 q.length 5] 229),(8,fx m),(9,oJ q)] 10
abbrev Nl:=aB [(3,.aa 6 0),(6,.aa 7 0)]
theorem ayJ{m a k n s cs len L Q}:
 bI Z NJ (λ_=>[3,6]) L Q 1000 128 [.aa 0 0,J a,.ah [J k,J n,.ab s,.ad cs len 4]] (bQ m)=(
 L (Nl) (al [(0,fi m 1 2 3 4 5),(1,fx m),(2,eQ m),(3,eW m),(4,eU m),(5,eR m),(6,kz 0),(7,.aj [.bq 8 0 1 1 5 true] 229),(8,.aj [J a,J k,J n,.ab s,.ad cs len 4] 228)] 9) (aw Z 128 0)):=by kernel_rfl
theorem ayK{m q L Q}:
 ck Z NJ (λ_=>[3,6]) L Q 1000 128 6 (Nl) (aw Z 128 0) (Qe m q)=(
 aq (decide (aE q.length>0)) (0<q.length/\(∃n aP bA s cs len,cw Z 228 (nT q) 0=some (.ah [J n,J aP,J bA,.ab s,.ad cs len 4]:AV)/\1<=q.length/\(1<=q.length/\q.length<=q.length)/\(∃w:Em×et,(([.aa 0 0,.ah [J 5,J 0,J n,J 0,.ab s,J (aE len)]]:LV)=[.aa 0 0,.ah (dq w.2)]/\bQ m=bQ w.1/\w.1.bg.length<4194304)/\(∃ae:Em×List (Int×aI)×Int×aI,(([.aa 0 0,.ah [J aP,J bA,.ab s,.ad cs len 4],.ba (.func 157) [] [.aa 1 0,.aa 2 0,.aa 3 0]]:LV)=[.aa 0 0,.ah (aW ae.2.2.2),.ba (.func 157) [] [.aa 1 0,.aa 2 0,.aa 3 0]]/\al [(0,fi (w.1.aY w.2) 4 5 6 7 8),(1,kz 0),(2,.aj [.bq 9 5 (q.length-1) 0 5 false] 229),(3,.aj [J n,J aP,J bA,.ab s,.ad cs len 4] 228),(4,fx (w.1.aY w.2)),(5,eQ (w.1.aY w.2)),(6,eW (w.1.aY w.2)),(7,eU (w.1.aY w.2)),(8,eR (w.1.aY w.2)),(9,oJ q)] 10=Lc ae.1 ae.2.1 ae.2.2/\ae.1.bg.length+fq ae.2.1+2*bM ae.2.2.2.bh<4194304/\bL ae.2.2.2)/\L (Nl) (Qe (ae.1.jr ae.2.1 ae.2.2.2.bh).1 (ae.1.jr ae.2.1 ae.2.2.2.bh).2) (aw Z 128 0))))) (Q (.aC []) (jW m))):=by kernel_rfl
theorem adT(m:Em)(t):fq (m.jq t).2<=2*bN t:=by
 unfold Em.jq;split
 .simp only[fq];omega
 .split
  .simp only[fq];omega
  .split
   .simp only[fq];omega
   .have⟨k,n,s,l⟩:=t;simp only[fq,bN,aI.bh];omega
theorem adY:∀(l) (m:Em) (q),fq (m.jr q l).2<=fq q+2*bM l
 |[],m,q=>by simp[Em.jr]
 |t::l,m,q=>by have h1:=adT m t;have h2:=adY l (m.jq t).1 (q++(m.jq t).2);rw[M0]at h2;simp only[Em.jr,bM];omega
theorem aoe{m:Em}{t}(h:bL t):RM (m.jq t).2:=by
 intro w hw;unfold Em.jq at hw;split at hw
 .simp at hw
 .split at hw
  .simp at hw
  .split at hw
   .simp at hw
   .simp at hw;subst hw;exact h
theorem adX:∀{l} {m:Em} {q},fy l->RM q->RM (m.jr q l).2
 |[],m,q,_,hq=>hq
 |t::l,m,q,hl,hq=>adX (l:=l) hl.2 (λw hw=>by
   rcases ia.1 hw with h|h
   .exact hq w h
   .exact aoe hl.1 w h)
theorem avj(a b c d e l):cw Z 228 (a::b::c::d::e::l) 0=some (.ah [a,b,c,d,e]):=by kernel_rfl
theorem agx:∀(n) (m:Em) (q),(m.uV n q).bg.length<=m.bg.length+fq q
 |0,m,q=>by simp[Em.uV]
 |n+1,m,[]=>by simp[Em.uV]
 |n+1,m,w::q=>by have h0:=lz m ⟨5,0,w.1,0,w.2.cK,w.2.bh.length⟩;have h1:=VB w.2.bh (m.aY ⟨5,0,w.1,0,w.2.cK,w.2.bh.length⟩) q;have h2:=agx n ((m.aY ⟨5,0,w.1,0,w.2.cK,w.2.bh.length⟩).jr q w.2.bh).1 ((m.aY ⟨5,0,w.1,0,w.2.cK,w.2.bh.length⟩).jr q w.2.bh).2;simp only[Em.uV,fq];omega
theorem ayI{M}:
 ∀p:Nat×Em×List (Int×aI),(fq p.2.2<p.1/\p.2.1.bg.length+fq p.2.2<4194304/\RM p.2.2/\p.2.1.uV p.1 p.2.2=M)->
 br Z 128 39 6 (.aC []) (jW M) (Nl) (Qe p.2.1 p.2.2) (aw Z 128 0):=by
 refine dS (λp=>p.1) _ _ _ _ ?_;rintro⟨f,m,q⟩ ⟨hq,hc,ho,hf⟩ ih;refine hE TT ayK ?_;obtain⟨f,rfl⟩:∃g,f=g+1:=⟨f-1,by omega⟩;cases q with
 |nil=>refine aD.2 ⟨λh=>(by simp at h),λ_=>?_⟩;subst hf;exact⟨rfl,rfl⟩
 |cons w q=>refine aD.2 ⟨λ_=>?_,λh=>absurd h (by simp)⟩;have⟨r,⟨k,n,s,l⟩⟩:=w;simp only[fq,aI.bh]at hq hc;have a_:=ho (r,.mk k n s l) (by simp);have h0:=lz m ⟨5,0,r,0,s,l.length⟩;have h1:=VB l (m.aY ⟨5,0,r,0,s,l.length⟩) q;have h2:=adY l (m.aY ⟨5,0,r,0,s,l.length⟩) q;refine⟨by simp,r,k,n,s,_,_,avj _ _ _ _ _ _,by simp,⟨by simp,by simp⟩,(m,⟨5,0,r,0,s,l.length⟩),⟨rfl,rfl,by show m.bg.length<4194304;omega⟩,(m.aY ⟨5,0,r,0,s,l.length⟩,q,(r,.mk k n s l)),⟨rfl,rfl,by simp only[aI.bh];omega,a_⟩,?_⟩;exact ih (f,((m.aY ⟨5,0,r,0,s,l.length⟩).jr q l).1,((m.aY ⟨5,0,r,0,s,l.length⟩).jr q l).2) ⟨by simp only;omega,by simp only;omega,adX a_.2.2 (λw hw=>ho w (by simp[hw])),hf⟩ (by simp)
def l62(m:Em)(w:Int×aI):List (Nat×bk):=[(0,fi m 1 2 3 4 5),(1,fx m),(2,eQ m),(3,eW m),(4,eU m),(5,eR m),(6,kz 0),(7,.aj [.bq 8 0 1 1 5 true] 229),(8,.aj (zK w) 228)]
def Y5(m:Em)(w:Int×aI):AH:=al [(0,fi m 1 2 3 4 5),(1,fx m),(2,eQ m),(3,eW m),(4,eU m),(5,eR m),(6,kz 0),(7,.aj [.ai 8 1 5] 229),(8,oJ [w])] 9
def j62(m:Em)(w:Int×aI):AH:=al [(0,fi m 9 2 3 4 5),(1,.bc []),(2,eQ m),(3,eW m),(4,eU m),(5,eR m),(6,kz 0),(7,.aj [.ai 8 1 5] 229),(8,oJ [w]),(9,fx m)] 10
theorem aDt(m w):lL 6 (al (l62 m w) 9) (Y5 m w) (λφ aQ=>aQ=φ):=by have h:=Mp (xx:=none) (m0:=6) (g:=8) (n:=9) (l:=l62 m w) (new:=oJ [w]) rfl (λφ e o h=>by have:=rQ (gO:=150) (by have⟨r,⟨k,n,s,l⟩⟩:=w;rfl) h;simp only[oJ,nT,jm];exact this) rfl;exact h
theorem auA(m w):Mv (Y5 m w) (j62 m w) 1:=
 qz (l':=[(0,fi m 9 2 3 4 5),(1,.bc []),(2,eQ m),(3,eW m),(4,eU m),(5,eR m),(6,kz 0),(7,.aj [.ai 8 1 5] 229),(8,oJ [w])]) rfl rfl rfl
def t62:Tr AV:=Nl
def aj8:List (Nat×Nat):=[(0,0),(1,1),(2,2),(3,3),(4,4),(5,5),(6,6),(7,7),(9,8),(8,9)]
theorem aDb(m w):l9 6 [6,7] (j62 m w)=some ⟨aj8,Qe m [w]⟩:=by kernel_rfl
theorem aDh:qJ (iz aj8) t62 [3,6]=some t62:=by kernel_rfl
theorem TU:aU Z NK:=by refine cA TT ?_;rintro⟨m,a,⟨k,n,s,l⟩⟩ args H ⟨rfl,rfl,hc,ho⟩;refine eS TT 1000 (λ_=>[3,6]) 39 (by kernel_rfl) ?_;simp only[lB,aT,aW];rw[ayJ];refine ag7 ?_ (aDt m (a,.mk k n s l)) (by kernel_rfl) (λφ aQ hR i a' hi=>⟨a',hi,λx hx=>by rw[hR];exact hx⟩);refine u9 ?_ (auA m (a,.mk k n s l)) (by kernel_rfl) (λi a' hi=>⟨a',hi,vC hi (by simp[eC,kW,Y5,al,eg])⟩);refine cb.sm (by kernel_rfl) (aDb m (a,.mk k n s l)) aDh ?_;exact ayI (fq [(a,.mk k n s l)]+1,m,[(a,.mk k n s l)]) ⟨by simp,hc,by intro w hw;simp at hw;subst hw;exact ho,rfl⟩
def Em.rM(m:Em)(w:Int×aI):Em:=
 if w.2.cq=0 then m.wD w else if w.2.cq=1 then m.KV w else if w.2.cq=2 then m.KU w else m.Hm w
def Em.i_:Nat->Em->eK->Em
 |_,m,[]=>m
 |i,m,t::l=>Em.i_ (i+1) (m.rM (((i+1:Nat):Int),t)) l
def a0(_:Unit):LV:=[]
def aaW(m:Em)(_:Unit):Prop:=m.bg.length+2*bM m.f.bC+1<4194304/\dt m.f.bC.length/\fy m.f.bC/\Co m.f.bC
def NL:Ev.bo:=bR 90 (ca (lB a0 (λm _=>m.i_ 0 m.f.bC) aaW) (ur (λ_ _ _=>rfl)) cD) NK
def Ed(m:Em):AH:=al [(0,fi m 7 2 3 4 5),(1,.bc []),(2,eQ m),(3,eW m),(4,eU m),(5,eR m),(6,B_ 125 126 127 128),(7,fx m)] 8
abbrev FN x0 x1 x2:=aB [(2,.aa 6 0),(18,.ad x0 x1 4),(19,J (aE x1)),(20,J x2)]
theorem ayj{m L Q}:
 bI Z NK (λ_=>[2,18,19,20]) L Q 1000 90 [.aa 0 0] (bQ m)=(
 L (FN (aF m.f.bC) m.f.bC.length 0) (al [(0,fi m 1 2 3 4 5),(1,fx m),(2,eQ m),(3,eW m),(4,eU m),(5,eR m),(6,B_ 125 126 127 128)] 7) (aw Z 90 0)):=by kernel_rfl
theorem ayk{m i cs len L Q}:
 ck Z NK (λ_=>[2,18,19,20]) L Q 1000 90 6 (FN cs len i) (aw Z 90 0) (Ed m)=(
 aq (decide (i<aE len)) (∃aL:Nat,i=(aL:Int)/\aL<len/\(∃n:Int,∃aP:Int,∃s:LN,∃bP:LV,∃bH:Nat,((cs.drop (aL*4)).take 4:LV)=[J n,J aP,.ab s,.ad bP bH 4]/\((0:Int)<=n/\n<4)/\(n=0->(∃w:Em×Int×aI,(([.aa 0 0,J (wI (i+1)),.ah [J n,J aP,.ab s,.ad bP bH 4]]:LV)=[.aa 0 0,J w.2.1,.ah (aW w.2.2)]/\bQ m=bQ w.1/\tj w.1 w.2)/\L (FN cs len (wI (i+1))) (Ed (w.1.wD w.2)) (aw Z 90 0)))/\(n=1->(∃w:Em×Int×aI,(([.aa 0 0,J (wI (i+1)),.ah [J n,J aP,.ab s,.ad bP bH 4]]:LV)=[.aa 0 0,J w.2.1,.ah (aW w.2.2)]/\bQ m=bQ w.1/\tj w.1 w.2)/\L (FN cs len (wI (i+1))) (Ed (w.1.KV w.2)) (aw Z 90 0)))/\(n=2->(∃w:Em×Int×aI,(([.aa 0 0,J (wI (i+1)),.ah [J n,J aP,.ab s,.ad bP bH 4]]:LV)=[.aa 0 0,J w.2.1,.ah (aW w.2.2)]/\bQ m=bQ w.1/\tj w.1 w.2)/\L (FN cs len (wI (i+1))) (Ed (w.1.KU w.2)) (aw Z 90 0)))/\(n=3->(∃w:Em×Int×aI,(([.aa 0 0,J (wI (i+1)),.ah [J n,J aP,.ab s,.ad bP bH 4]]:LV)=[.aa 0 0,J w.2.1,.ah (aW w.2.2)]/\bQ m=bQ w.1/\akE w.1 w.2)/\L (FN cs len (wI (i+1))) (Ed (w.1.Hm w.2)) (aw Z 90 0)))/\True)) (Q (.aC []) (jW m))):=by kernel_rfl
theorem ari(m:Em)(w):(m.rM w).bg.length<=m.bg.length+2*bN w.2:=by
 have hp:=sk w.2;unfold Em.rM;split
 .unfold Em.wD;split
  .have:=Td m w.2.n 1 2 w.1;omega
  .omega
 .split
  .have:=lz m ⟨3,0,w.1,w.2.n,[],0⟩;unfold Em.KV;omega
  .split
   .have:=lz m ⟨4,0,w.1,0,w.2.cK,0⟩;unfold Em.KU;omega
   .have:=agx (fq [w]+1) m [w];have⟨r,⟨k,n,s,l⟩⟩:=w;unfold Em.Hm;simp only[fq,bN,aI.bh]at this⊢;omega
section
variable{m:Em}{k n a:Int}{s:LN}{ts:eK}
theorem ark(hk:k=0):m.rM (a,.mk k n s ts)=m.wD (a,.mk k n s ts):=by simp[Em.rM,aI.cq,hk]
theorem arh(hk:k=1):m.rM (a,.mk k n s ts)=m.KV (a,.mk k n s ts):=by simp[Em.rM,aI.cq,hk]
theorem are(hk:k=2):m.rM (a,.mk k n s ts)=m.KU (a,.mk k n s ts):=by simp[Em.rM,aI.cq,hk]
theorem arj(hk:k=3):m.rM (a,.mk k n s ts)=m.Hm (a,.mk k n s ts):=by simp[Em.rM,aI.cq,hk]
end
theorem ayi{l M}(hl:dt l.length)(ho:fy l)(hk:Co l):
 ∀p:Nat×Em,(p.1<=l.length/\p.2.bg.length+2*bM (l.drop p.1)+1<4194304/\Em.i_ p.1 p.2 (l.drop p.1)=M)->
 br Z 90 34 6 (.aC []) (jW M) (FN (aF l) l.length (p.1:Int)) (Ed p.2) (aw Z 90 0):=by
 refine dS (λp=>l.length-p.1) _ _ _ _ ?_;rintro⟨i,m⟩ ⟨hi,hc,hf⟩ ih;refine hE TU ayk ?_;refine aD.2 ⟨λax=>?_,λbu=>?_⟩
 .have ax:i<l.length:=by simpa using ax
  have⟨k,n,s,ts,he,bX,a_⟩:=y9 ax ho;have Ly:=hk l[i] (pW ax);rw[he]at Ly;rw[fY ax,he]at hf hc;simp only[Em.i_,bM]at hf hc;have bS:=ari m (((i+1:Nat):Int),.mk k n s ts);simp only at bS;have hr:m.bg.length<4194304:=by omega
  have Yz:m.bg.length+fq [(((i+1:Nat):Int),aI.mk k n s ts)]<4194304:=by simp only[fq,aI.bh,bN]at hc⊢;omega
  have next:=ih (i+1,m.rM (((i+1:Nat):Int),.mk k n s ts)) ⟨by simp;omega,by simp only;omega,hf⟩ (by simp;omega)
  refine⟨i,rfl,ax,k,n,s,_,_,bX,Ly,?_⟩;rw[lh hl ax];refine⟨λh=>?_,λh=>?_,λh=>?_,λh=>?_,trivial⟩
  .rw[ark h]at next
   exact⟨(m,((i+1:Nat):Int),.mk k n s ts),⟨rfl,rfl,hr⟩,next⟩
  .rw[arh h]at next
   exact⟨(m,((i+1:Nat):Int),.mk k n s ts),⟨rfl,rfl,hr⟩,next⟩
  .rw[are h]at next
   exact⟨(m,((i+1:Nat):Int),.mk k n s ts),⟨rfl,rfl,hr⟩,next⟩
  .rw[arj h]at next
   exact⟨(m,((i+1:Nat):Int),.mk k n s ts),⟨rfl,rfl,Yz,a_⟩,next⟩
 .have bu:l.length<=i:=by simpa using bu
  rw[gQ bu,Em.i_]at hf;subst hf;exact⟨rfl,rfl⟩
def ahi(m:Em):AH:=al [(0,fi m 1 2 3 4 5),(1,fx m),(2,eQ m),(3,eW m),(4,eU m),(5,eR m),(6,B_ 125 126 127 128)] 7
theorem auy(m):Mv (ahi m) (Ed m) 1:=
 qz (l':=[(0,fi m 7 2 3 4 5),(1,.bc []),(2,eQ m),(3,eW m),(4,eU m),(5,eR m),(6,B_ 125 126 127 128)]) rfl rfl rfl
theorem TV:aU Z NL:=by refine cA TU ?_;rintro⟨m,u⟩ args H ⟨rfl,rfl,hc,hl,ho,hk⟩;refine eS TU 1000 (λ_=>[2,18,19,20]) 34 (by kernel_rfl) ?_;simp only[lB,a0];rw[ayj];refine u9 ?_ (auy m) (by kernel_rfl) (λi a' hi=>⟨a',hi,vC hi (by simp[eC,kW,ahi,al,eg])⟩);exact ayi hl ho hk (0,m) ⟨by simp,by simp;omega,by simp⟩
def Em.CO(m:Em)(n:Int):Em:=⟨m.bg,m.f,m.iv,m.bz,m.gJ,m.eV,n,m.iL⟩
def Em.aZ(c:mg)(base:LI)(cS:Bool):Nat->Int->Em->fO->Em
 |_,_,m,[]=>(m.de cS).aY ⟨21,0,0,0,[],0⟩
 |i,size,m,g::l=>
  if g.eO=2 then Em.aZ c base cS (i+1) size (m.lR (22,g.lG)) l
  else if g.eO=3 then Em.aZ c base cS (i+1) size (m.lR (23,g.lG)) l
  else if g.eO=4 then Em.aZ c base cS (i+1) size (m.rL g.lG) l
  else if g.eO=5 then m.aY ⟨25,0,0,0,[],0⟩
  else if g.eO=1 then
   match l with
   |[]=>((m.fD 0 g.eN).de cS).aY ⟨20,0,0,g.aN.au,g.aN.cL,g.aN.ar⟩
   |_::_=>if size>c.aR.getD i 0 then Em.aZ c base cS (i+1) (c.aR.getD i 0) ((((m.fD 0 g.eN).aY ⟨17,0,0,c.aR.getD i 0,[],0⟩).aY ⟨19,0,0,g.aN.au,g.aN.cL,g.aN.ar⟩).CO (base.getD (c.cy.getD i 0+1).toNat 0)) l
    else Em.aZ c base cS (i+1) size (((m.fD 0 g.eN).aY ⟨19,0,0,g.aN.au,g.aN.cL,g.aN.ar⟩).CO (base.getD (c.cy.getD i 0+1).toNat 0)) l
  else Em.aZ c base cS (i+1) size m l
def ox:fO->Nat
 |[]=>4
 |g::l=>2*bM g.eN+4+ox l
def KD(c:mg):LV:=[.ai 1 c.cy.length 1,.ai 2 c.bz.length 1,.ai 3 c.aR.length 1]
def bK(l:LI)(t:TypeId):bk:=.ay (aX l) t
def Ee(m:Em)(c:mg)(base:LI):AH:=al [(0,fi m 5 6 7 8 9),(1,bK c.cy 3),(2,bK c.bz 2),(3,bK c.aR 3),(4,bK base 3),(5,fx m),(6,eQ m),(7,eW m),(8,eU m),(9,eR m)] 10
def My(m:Em)(c:mg)(base:LI):AH:=al [(0,fi m 10 6 7 8 9),(1,bK c.cy 3),(2,bK c.bz 2),(3,bK c.aR 3),(4,bK base 3),(5,.bc []),(6,eQ m),(7,eW m),(8,eU m),(9,eR m),(10,fx m)] 11
abbrev Le x0 x1 x2 x3 x4 x5 x6:=al [(0,fi x0 13 6 7 8 9),(1,bK x1 3),(2,bK x2 2),(3,bK x3 3),(4,bK x4 3),(5,.bc []),(6,eQ x0),(7,eW x0),(8,eU x0),(9,eR x0),(10,kz 0),(11,.aj x5 153),(12,.aj [.ao x6] 4),(13,fx x0)] 14
def r28(m:Em)(c:mg)(base:LI)(cS:Bool):AH:=Le m c.cy c.bz c.aR base (KD c) cS
def i28(m:Em)(c:mg)(base:LI)(cS:Bool):AH:=al [(0,fi m 5 6 7 8 9),(1,bK c.cy 3),(2,bK c.bz 2),(3,bK c.aR 3),(4,bK base 3),(5,fx m),(6,eQ m),(7,eW m),(8,eU m),(9,eR m),(10,kz 0),(11,.aj (KD c) 153),(12,.aj [.ao cS] 4)] 13
abbrev CX x0 x1 x2 x3 x4:=aB [(2,.ai 4 x0 1),(4,.aa 10 0),(5,.aa 11 0),(8,J x1),(9,.ba (.func 129) [] [.aa 12 0,.aa 10 0]),(22,.ad x2 x3 6),(23,J (Int.ofNat x3)),(24,J x4)]
def t28(bl:Nat)(size:Int)(gs:LV)(gl:Nat)(i:Int):Tr AV:=CX bl size gs gl i
structure JM(c:mg)(base:LI)(gs:fO):Prop where
 len:dt gs.length
 ok:∀g∈gs,qA g
 ks:∀g∈gs,Co g.eN
 aR:c.aR.length=gs.length
 cy:c.cy.length=gs.length
 base:∀i,∀h:i<gs.length,gs[i].eO=1->0<=c.cy.getD i 0/\c.cy.getD i 0+1<base.length/\c.cy.getD i 0<1000000
def X28:cx (Em×mg×LI×Bool)where
 bn w A H:=A=[.aa 0 0,.ah (KD w.2.1),.ai 4 w.2.2.1.length 1,.ao w.2.2.2]/\H=Ee w.1 w.2.1 w.2.2.1/\w.1.bg.length+ox w.1.f.aZ<4194304/\JM w.2.1 w.2.2.1 w.1.f.aZ
 v w:=.aC []
 aK w:=My (Em.aZ w.2.1 w.2.2.1 w.2.2.2 0 w.2.1.bz.length w.1 w.1.f.aZ) w.2.1 w.2.2.1
theorem AD{l m t}(h:bK l t=bK m t):l=m:=yY (bk.ay.inj h).1
theorem au3:X28.cr:=by
 rintro⟨m,⟨c1,c2,c3⟩,b,e⟩ ⟨m',⟨c1',c2',c3'⟩,b',e'⟩ A H ⟨h1,h2,_⟩ ⟨h3,h4,_⟩;rw[h1]at h3;rw[h2]at h4;have k:=λi=>congrArg (λH=>AH.bf H i) h4
 simp only[Ee,eh]at k;have e0:=GR (dw (k 0)) (dw (k 5)) (dw (k 6)) (dw (k 7)) (dw (k 8)) (dw (k 9));have e1:=AD (dw (k 1));have e2:=AD (dw (k 2));have e3:=AD (dw (k 3));have e4:=AD (dw (k 4));simp at h3;rw[e0,e1,e2,e3,e4,h3.2.2]
def NM:Ev.bo:=bR 91 (ca X28 au3 cD) NL
theorem aym{m c base cS L Q}:
 bI Z NL (λ_=>[2,4,5,8,9,22,23,24]) L Q 1000 91 [.aa 0 0,.ah (KD c),.ai 4 base.length 1,.ao cS] (Ee m c base)=(
 L (CX base.length (Int.ofNat c.bz.length) (bD m.f.aZ) m.f.aZ.length 0) (al [(0,fi m 5 6 7 8 9),(1,bK c.cy 3),(2,bK c.bz 2),(3,bK c.aR 3),(4,bK base 3),(5,fx m),(6,eQ m),(7,eW m),(8,eU m),(9,eR m),(10,kz 0),(11,.aj [.ai 1 c.cy.length 1,.ai 2 c.bz.length 1,.ai 3 c.aR.length 1] 153),(12,.aj [.ao cS] 4)] 13) (aw Z 91 0)):=by kernel_rfl
theorem ayn{m c base cS size i gs gl L Q}:
 ck Z NL (λ_=>[2,4,5,8,9,22,23,24]) L Q 1000 91 10 (t28 base.length size gs gl i) (aw Z 91 0) (r28 m c base cS)=(
 aq (decide (i<Int.ofNat gl)) (∃aL:Nat,i=(aL:Int)/\aL<gl/\(∃n s aP bA cs len cf,((gs.drop (aL*6)).take 6:LV)=[J n,.ab s,J aP,J bA,.ad cs len 4,J cf]/\aq (n==2) (∃w:Em×Int×Int,(([.aa 0 0,J 22,J cf]:LV)=[.aa 0 0,J w.2.1,J w.2.2]/\bQ m=bQ w.1/\aaV w.1 w.2)/\L (CX base.length size gs gl (wI (i+1))) (Le (Em.lR w.1 w.2) c.cy c.bz c.aR base [.ai 1 c.cy.length 1,.ai 2 c.bz.length 1,.ai 3 c.aR.length 1] cS) (aw Z 91 0)) (aq (n==3) (∃w:Em×Int×Int,(([.aa 0 0,J 23,J cf]:LV)=[.aa 0 0,J w.2.1,J w.2.2]/\bQ m=bQ w.1/\aaV w.1 w.2)/\L (CX base.length size gs gl (wI (i+1))) (Le (Em.lR w.1 w.2) c.cy c.bz c.aR base [.ai 1 c.cy.length 1,.ai 2 c.bz.length 1,.ai 3 c.aR.length 1] cS) (aw Z 91 0)) (aq (n==4) (∃w:Em×Int,(([.aa 0 0,J cf]:LV)=[.aa 0 0,J w.2]/\bQ m=bQ w.1/\tj w.1 w.2)/\L (CX base.length size gs gl (wI (i+1))) (Le (Em.rL w.1 w.2) c.cy c.bz c.aR base [.ai 1 c.cy.length 1,.ai 2 c.bz.length 1,.ai 3 c.aR.length 1] cS) (aw Z 91 0)) (aq (n==5) (∃w:Em×et,(([.aa 0 0,.ah [J 25,J 0,J 0,J 0,.ab [],J 0]]:LV)=[.aa 0 0,.ah (dq w.2)]/\bQ m=bQ w.1/\w.1.bg.length<4194304)/\Q (.aC []) (My (Em.aY w.1 w.2) c base)) (aq (n==1) (∃w:Em×qe,(([.aa 0 0,.ah [J n,.ab s,J aP,J bA,.ad cs len 4,J cf]]:LV)=[.aa 0 0,.ah [J w.2.eO,.ab w.2.aN.cL,J w.2.aN.ar,J w.2.aN.au,.ad (aF w.2.eN) w.2.eN.length 4,J w.2.lG]]/\bQ m=bQ w.1/\akD w.1 w.2)/\aq (i==wI (Int.ofNat m.f.aZ.length-1)) (∃ae:Em×Bool,(([.aa 0 0,.aa 1 0]:LV)=[.aa 0 0,.aa 1 0]/\BD (Em.fD 0 w.1 w.2.eN) cS=BD ae.1 ae.2/\ae.1.bg.length<4194304)/\(∃aS:Em×et,(([.aa 0 0,.ah [J 20,J 0,J 0,J bA,.ab s,J aP]]:LV)=[.aa 0 0,.ah (dq aS.2)]/\bQ (Em.de ae.1 ae.2)=bQ aS.1/\aS.1.bg.length<4194304)/\Q (.aC []) (My (Em.aY aS.1 aS.2) c base))) (∃cG:Nat,i=(cG:Int)/\cG<c.aR.length/\(∃dc,cw Z 3 (aX c.aR) (cG*1)=some (J dc:AV)/\aq (decide (size>dc)) (∃dO:Nat,i=(dO:Int)/\dO<c.aR.length/\(∃iP,cw Z 3 (aX c.aR) (dO*1)=some (J iP:AV)/\(∃ae:Em×et,(([.aa 0 0,.ah [J 17,J 0,J 0,J iP,.ab [],J 0]]:LV)=[.aa 0 0,.ah (dq ae.2)]/\bQ (Em.fD 0 w.1 w.2.eN)=bQ ae.1/\ae.1.bg.length<4194304)/\(∃aS:Em×et,(([.aa 0 0,.ah [J 19,J 0,J 0,J bA,.ab s,J aP]]:LV)=[.aa 0 0,.ah (dq aS.2)]/\bQ (Em.aY ae.1 ae.2)=bQ aS.1/\aS.1.bg.length<4194304)/\(∃f_:Nat,i=(f_:Int)/\f_<c.cy.length/\(∃oC,cw Z 3 (aX c.cy) (f_*1)=some (J oC:AV)/\(∃Am:Nat,wI (oC+1)=(Am:Int)/\Am<base.length/\(∃Ru:Int,cw Z 3 (aX base) (Am*1)=some (J Ru:AV)/\L (CX base.length iP gs gl (wI (i+1))) (al [(0,.aj [.ai 13 (Em.aY aS.1 aS.2).bg.length 6,.ab (Em.aY aS.1 aS.2).f.aN.cL,J (Em.aY aS.1 aS.2).f.aN.ar,J (Em.aY aS.1 aS.2).f.aN.au,.ad (aF (Em.aY aS.1 aS.2).f.bC) (Em.aY aS.1 aS.2).f.bC.length 4,.ad (bD (Em.aY aS.1 aS.2).f.aZ) (Em.aY aS.1 aS.2).f.aZ.length 6,.aA 6,.aA 7,.aA 8,.aA 9,J Ru,.ao (Em.aY aS.1 aS.2).iL] 162),(1,bK c.cy 3),(2,bK c.bz 2),(3,bK c.aR 3),(4,bK base 3),(5,.bc []),(6,eQ (Em.aY aS.1 aS.2)),(7,eW (Em.aY aS.1 aS.2)),(8,eU (Em.aY aS.1 aS.2)),(9,eR (Em.aY aS.1 aS.2)),(10,kz 0),(11,.aj [.ai 1 c.cy.length 1,.ai 2 c.bz.length 1,.ai 3 c.aR.length 1] 153),(12,.aj [.ao cS] 4),(13,fx (Em.aY aS.1 aS.2))] 14) (aw Z 91 0))))))))) (∃ae:Em×et,(([.aa 0 0,.ah [J 19,J 0,J 0,J bA,.ab s,J aP]]:LV)=[.aa 0 0,.ah (dq ae.2)]/\bQ (Em.fD 0 w.1 w.2.eN)=bQ ae.1/\ae.1.bg.length<4194304)/\(∃dO:Nat,i=(dO:Int)/\dO<c.cy.length/\(∃iP:Int,cw Z 3 (aX c.cy) (dO*1)=some (J iP:AV)/\(∃f_:Nat,wI (iP+1)=(f_:Int)/\f_<base.length/\(∃oC:Int,cw Z 3 (aX base) (f_*1)=some (J oC:AV)/\L (CX base.length size gs gl (wI (i+1))) (al [(0,.aj [.ai 13 (Em.aY ae.1 ae.2).bg.length 6,.ab (Em.aY ae.1 ae.2).f.aN.cL,J (Em.aY ae.1 ae.2).f.aN.ar,J (Em.aY ae.1 ae.2).f.aN.au,.ad (aF (Em.aY ae.1 ae.2).f.bC) (Em.aY ae.1 ae.2).f.bC.length 4,.ad (bD (Em.aY ae.1 ae.2).f.aZ) (Em.aY ae.1 ae.2).f.aZ.length 6,.aA 6,.aA 7,.aA 8,.aA 9,J oC,.ao (Em.aY ae.1 ae.2).iL] 162),(1,bK c.cy 3),(2,bK c.bz 2),(3,bK c.aR 3),(4,bK base 3),(5,.bc []),(6,eQ (Em.aY ae.1 ae.2)),(7,eW (Em.aY ae.1 ae.2)),(8,eU (Em.aY ae.1 ae.2)),(9,eR (Em.aY ae.1 ae.2)),(10,kz 0),(11,.aj [.ai 1 c.cy.length 1,.ai 2 c.bz.length 1,.ai 3 c.aR.length 1] 153),(12,.aj [.ao cS] 4),(13,fx (Em.aY ae.1 ae.2))] 14) (aw Z 91 0))))))))) (L (CX base.length size gs gl (wI (i+1))) (Le m c.cy c.bz c.aR base [.ai 1 c.cy.length 1,.ai 2 c.bz.length 1,.ai 3 c.aR.length 1] cS) (aw Z 91 0)))))))) (∃w:Em×Bool,(([.aa 0 0,.aa 1 0]:LV)=[.aa 0 0,.aa 1 0]/\BD m cS=BD w.1 w.2/\w.1.bg.length<4194304)/\(∃ae:Em×et,(([.aa 0 0,.ah [J 21,J 0,J 0,J 0,.ab [],J 0]]:LV)=[.aa 0 0,.ah (dq ae.2)]/\bQ (Em.de w.1 w.2)=bQ ae.1/\ae.1.bg.length<4194304)/\Q (.aC []) (My (Em.aY ae.1 ae.2) c base)))):=by kernel_rfl
theorem an7(m:Em)(t b):(m.mj t b).f=m.f:=by
 unfold Em.mj;split
 .split<;>rfl
 .split
  .rfl
  .split<;>rfl
theorem adV:∀(l) (m:Em),(m.sw l).f=m.f
 |[],m=>rfl
 |(t,b)::l,m=>by have h2:=adV l (m.mj t b);simp only[Em.sw,rz]at h2⊢;rw[h2,an7]
mutual
theorem ael:∀(m:Em) (r:Int) (t:aI),(m.pz r t).f=m.f
 |m,r,.mk k n s l=>by simp only[Em.pz,adV];exact V0 m l
theorem V0:∀(m:Em) (l:eK),(m.jS l).1.f=m.f
 |m,[]=>rfl
 |m,t::l=>by
  simp only[Em.jS];split
  .rw[V0,ael];rfl
  .rw[V0]
end
theorem avG(m:Em)(w):(m.pA w).f=m.f:=by
 unfold Em.pA;split
 .unfold Em.vM;split<;>rfl
 .split
  .rfl
  .split
   .rfl
   .exact ael _ _ _
theorem aaC:∀l i m,(Em.fD i m l).f=m.f
 |[],i,m=>rfl
 |t::l,i,m=>by rw[Em.fD,aaC l,avG]
theorem akf:∀l i m,(Em.fD i m l).bg.length<=m.bg.length+2*bM l
 |[],i,m=>by simp[Em.fD]
 |t::l,i,m=>by have h1:=akb m (((i+1:Nat):Int),t);have h2:=akf l (i+1) (m.pA (((i+1:Nat):Int),t));simp only[Em.fD,bM];simp only at h1;omega
theorem agr(m:Em)(e):(m.de e).bg.length<=m.bg.length+1:=by
 cases e
 .show m.bg.length<=_;omega
 .exact lz m _
theorem ahc(m:Em)(w):(m.lR w).bg.length<=m.bg.length+2:=by
 unfold Em.lR;cases m.ra w.2
 .have:=lz (m.jo w.2) ⟨w.1,m.mL w.2,0,0,[],0⟩;have e:(m.jo w.2).bg=m.bg:=rfl;rw[e]at this;show((m.jo w.2).aY _).bg.length<=_;omega
 .have h1:=lz m.bY ⟨w.1,m.bY.c9,0,0,[],0⟩;rw[Kv]at h1;have h2:=lz ((m.bY.aY ⟨w.1,m.bY.c9,0,0,[],0⟩).jo w.2) ⟨2,(m.bY.aY ⟨w.1,m.bY.c9,0,0,[],0⟩).mL w.2,m.bY.c9,0,[],0⟩;have e:((m.bY.aY ⟨w.1,m.bY.c9,0,0,[],0⟩).jo w.2).bg=(m.bY.aY ⟨w.1,m.bY.c9,0,0,[],0⟩).bg:=rfl;rw[e]at h2;simp;omega
theorem ahb(m:Em)(w):(m.lR w).f=m.f:=by unfold Em.lR;cases m.ra w.2<;>rfl
theorem apu(m:Em)(v):(m.rL v).bg.length<=m.bg.length+1:=by
 unfold Em.rL;cases m.ra v
 .show m.bg.length<=_;omega
 .exact lz (m.jo v) _
theorem apr(m:Em)(v):(m.rL v).f=m.f:=by unfold Em.rL;cases m.ra v<;>rfl
theorem agP:∀l,4<=ox l
 |[]=>by simp[ox]
 |g::l=>by have:=agP l;simp only[ox];omega
theorem n7{l i}(h:i<l.length):cw Z 3 (aX l) (i*1)=some (J (l.getD i 0)):=by rw[ML,aX,oI,uv,ir h];simp[List.getD,ir h]
section
variable{c:mg}{base:LI}{cS:Bool}{i:Nat}{size:Int}{m:Em}{g:qe}{l:fO}
theorem arF:Em.aZ c base cS i size m []=(m.de cS).aY ⟨21,0,0,0,[],0⟩:=rfl
theorem arD(h:g.eO=2):Em.aZ c base cS i size m (g::l)=Em.aZ c base cS (i+1) size (m.lR (22,g.lG)) l:=by simp[Em.aZ,h]
theorem arE(h:g.eO=3):Em.aZ c base cS i size m (g::l)=Em.aZ c base cS (i+1) size (m.lR (23,g.lG)) l:=by simp[Em.aZ,h]
theorem arA(h:g.eO=4):Em.aZ c base cS i size m (g::l)=Em.aZ c base cS (i+1) size (m.rL g.lG) l:=by simp[Em.aZ,h]
theorem arB(h:g.eO=5):Em.aZ c base cS i size m (g::l)=m.aY ⟨25,0,0,0,[],0⟩:=by simp[Em.aZ,h]
theorem arC(h:g.eO=1):Em.aZ c base cS i size m [g]=((m.fD 0 g.eN).de cS).aY ⟨20,0,0,g.aN.au,g.aN.cL,g.aN.ar⟩:=by simp[Em.aZ,h]
theorem arH(h:g.eO=1)(hl:l≠[])(hs:size>c.aR.getD i 0):Em.aZ c base cS i size m (g::l)=Em.aZ c base cS (i+1) (c.aR.getD i 0) ((((m.fD 0 g.eN).aY ⟨17,0,0,c.aR.getD i 0,[],0⟩).aY ⟨19,0,0,g.aN.au,g.aN.cL,g.aN.ar⟩).CO (base.getD (c.cy.getD i 0+1).toNat 0)) l:=by
 cases l with
 |nil=>exact absurd rfl hl
 |cons a l=>rw[Em.aZ];simp only[h];rw[az (by omega),az (by omega),az (by omega),az (by omega),aO trivial,aO hs]
theorem arz(h:g.eO=1)(hl:l≠[])(hs:¬size>c.aR.getD i 0):Em.aZ c base cS i size m (g::l)=Em.aZ c base cS (i+1) size (((m.fD 0 g.eN).aY ⟨19,0,0,g.aN.au,g.aN.cL,g.aN.ar⟩).CO (base.getD (c.cy.getD i 0+1).toNat 0)) l:=by
 cases l with
 |nil=>exact absurd rfl hl
 |cons a l=>rw[Em.aZ];simp only[h];rw[az (by omega),az (by omega),az (by omega),az (by omega),aO trivial,az hs]
theorem arG(h1:g.eO≠1)(h2:g.eO≠2)(h3:g.eO≠3)(h4:g.eO≠4)(h5:g.eO≠5):Em.aZ c base cS i size m (g::l)=Em.aZ c base cS (i+1) size m l:=by simp[Em.aZ,h1,h2,h3,h4,h5]
end
theorem ayl{gs c base cS M}(hg:JM c base gs):
 ∀p:Nat×Int×Em,(p.1<=gs.length/\p.2.2.bg.length+ox (gs.drop p.1)<4194304/\p.2.2.f.aZ.length=gs.length/\Em.aZ c base cS p.1 p.2.1 p.2.2 (gs.drop p.1)=M)->
 br Z 91 132 10 (.aC []) (My M c base) (t28 base.length p.2.1 (bD gs) gs.length (p.1:Int)) (r28 p.2.2 c base cS) (aw Z 91 0):=by
 refine dS (λp=>gs.length-p.1) _ _ _ _ ?_;rintro⟨i,size,m⟩ ⟨hi,hc,hm,hf⟩ ih;simp only at hi hc hm hf ih⊢;refine hE TV ayn ?_;have LF:=agP (gs.drop i);refine aD.2 ⟨λax=>?_,λbu=>?_⟩
 .have ax:i<gs.length:=by simpa using ax
  have⟨k,nm,ar,au,ls,v,he,bX,a_⟩:=By ax hg.ok;have H4:=hg.ks gs[i] (pW ax);have ag3:=hg.base i ax;rw[he]at H4 ag3;rw[fY ax,he]at hf hc;simp only[ox]at hc;refine⟨i,rfl,ax,k,nm,ar,au,_,_,v,bX,?_⟩;rw[lh hg.len ax];have e:wI (Int.ofNat m.f.aZ.length-1)=(gs.length:Int)-1:=by have hl:=hg.len;unfold dt at hl;rw[hm,cO (by simp;omega) (by simp;omega)];simp
  rw[e];have next:=λalj m' (h:m'.bg.length+ox (gs.drop (i+1))<4194304) (h2:m'.f.aZ.length=gs.length) (h3:Em.aZ c base cS (i+1) alj m' (gs.drop (i+1))=M)=>ih (i+1,alj,m') ⟨by simp;omega,h,h2,h3⟩ (by simp;omega)
  have hr:m.bg.length<4194304:=by omega
  refine aD.2 ⟨λhk=>?_,λoA=>?_⟩
  .have hk:k=2:=by simpa using hk
   rw[arD hk]at hf;have h1:=ahc m (22,v);have n1:=next _ (m.lR (22,v)) (by omega) (by rw[ahb];exact hm) hf
   exact⟨(m,(22,v)),⟨rfl,rfl,by show m.bg.length<4194303;omega⟩,n1⟩
  have oA:k≠2:=by simpa using oA
  refine aD.2 ⟨λhk=>?_,λYd=>?_⟩
  .have hk:k=3:=by simpa using hk
   rw[arE hk]at hf;have h1:=ahc m (23,v);have n1:=next _ (m.lR (23,v)) (by omega) (by rw[ahb];exact hm) hf
   exact⟨(m,(23,v)),⟨rfl,rfl,by show m.bg.length<4194303;omega⟩,n1⟩
  have Yd:k≠3:=by simpa using Yd
  refine aD.2 ⟨λhk=>?_,λYe=>?_⟩
  .have hk:k=4:=by simpa using hk
   rw[arA hk]at hf;have h1:=apu m v;have n1:=next _ (m.rL v) (by omega) (by rw[apr];exact hm) hf
   exact⟨(m,v),⟨rfl,rfl,hr⟩,n1⟩
  have Ye:k≠4:=by simpa using Ye
  refine aD.2 ⟨λhk=>?_,λYf=>?_⟩
  .have hk:k=5:=by simpa using hk
   rw[arB hk]at hf;subst hf;exact⟨(m,⟨25,0,0,0,[],0⟩),⟨rfl,rfl,hr⟩,rfl,rfl⟩
  have Yf:k≠5:=by simpa using Yf
  refine aD.2 ⟨λhk=>?_,λqw=>?_⟩
  .have hk:k=1:=by simpa using hk
   have⟨b1,b2,b3⟩:=ag3 hk;have h1:=akf ls 0 m;refine⟨(m,⟨k,⟨nm,ar,au⟩,ls,v⟩),⟨rfl,rfl,by show m.bg.length+2*bM ls+1<4194304;omega,a_,H4⟩,?_⟩;refine aD.2 ⟨λLA=>?_,λLA=>?_⟩
   .have LA:(i:Int)=(gs.length:Int)-1:=by simpa using LA
    have hd:gs.drop (i+1)=[]:=gQ (by omega);rw[hd,arC hk]at hf;have h2:=agr (m.fD 0 ls) cS;subst hf;exact⟨(m.fD 0 ls,cS),⟨rfl,rfl,by show(m.fD 0 ls).bg.length<4194304;omega⟩,((m.fD 0 ls).de cS,⟨20,0,0,au,nm,ar⟩),⟨rfl,rfl,by show((m.fD 0 ls).de cS).bg.length<4194304;omega⟩,rfl,rfl⟩
   .have LA:¬(i:Int)=(gs.length:Int)-1:=by simpa using LA
    have hd:gs.drop (i+1)≠[]:=by intro h;have:=List.drop_eq_nil_iff.1 h;omega
    have vg:i<c.aR.length:=by rw[hg.aR];exact ax
    have Ad:i<c.cy.length:=by rw[hg.cy];exact ax
    have eo:wI (c.cy.getD i 0+1)=(((c.cy.getD i 0+1).toNat:Nat):Int):=by rw[cO (by omega) (by omega),Int.toNat_of_nonneg (by omega)]
    have Qs:(c.cy.getD i 0+1).toNat<base.length:=by omega
    refine⟨i,rfl,vg,_,n7 vg,aD.2 ⟨λhs=>?_,λhs=>?_⟩⟩
    .have hs:size>c.aR.getD i 0:=by simpa using hs
     rw[arH hk hd hs]at hf;have h2:=lz (m.fD 0 ls) ⟨17,0,0,c.aR.getD i 0,[],0⟩;have h3:=lz ((m.fD 0 ls).aY ⟨17,0,0,c.aR.getD i 0,[],0⟩) ⟨19,0,0,au,nm,ar⟩;have n1:=next _ ((((m.fD 0 ls).aY ⟨17,0,0,c.aR.getD i 0,[],0⟩).aY ⟨19,0,0,au,nm,ar⟩).CO (base.getD (c.cy.getD i 0+1).toNat 0))
      (by have e:∀(x:Em) n,(x.CO n).bg=x.bg:=λ_ _=>rfl
          rw[e];omega) (by show(Em.fD 0 m ls).f.aZ.length=_;rw[aaC];exact hm) hf
     exact⟨i,rfl,vg,_,n7 vg,(m.fD 0 ls,⟨17,0,0,c.aR.getD i 0,[],0⟩),⟨rfl,rfl,by show(m.fD 0 ls).bg.length<4194304;omega⟩,
      ((m.fD 0 ls).aY ⟨17,0,0,c.aR.getD i 0,[],0⟩,⟨19,0,0,au,nm,ar⟩),⟨rfl,rfl,by show((m.fD 0 ls).aY _).bg.length<4194304;omega⟩,i,rfl,Ad,_,n7 Ad,_,eo,Qs,_,n7 Qs,n1⟩
    .have hs:¬size>c.aR.getD i 0:=by simpa using hs
     rw[arz hk hd hs]at hf;have h3:=lz (m.fD 0 ls) ⟨19,0,0,au,nm,ar⟩;have n1:=next _ (((m.fD 0 ls).aY ⟨19,0,0,au,nm,ar⟩).CO (base.getD (c.cy.getD i 0+1).toNat 0))
      (by have e:∀(x:Em) n,(x.CO n).bg=x.bg:=λ_ _=>rfl
          rw[e];omega) (by show(Em.fD 0 m ls).f.aZ.length=_;rw[aaC];exact hm) hf
     exact⟨(m.fD 0 ls,⟨19,0,0,au,nm,ar⟩),⟨rfl,rfl,by show(m.fD 0 ls).bg.length<4194304;omega⟩,i,rfl,Ad,_,n7 Ad,_,eo,Qs,_,n7 Qs,n1⟩
  have qw:k≠1:=by simpa using qw
  rw[arG qw oA Yd Ye Yf]at hf;exact next _ m (by omega) hm hf
 .have bu:gs.length<=i:=by simpa using bu
  rw[gQ bu,arF]at hf;have h2:=agr m cS;subst hf;exact⟨(m,cS),⟨rfl,rfl,by show m.bg.length<4194304;omega⟩,(m.de cS,⟨21,0,0,0,[],0⟩),⟨rfl,rfl,by show(m.de cS).bg.length<4194304;omega⟩,rfl,rfl⟩
theorem auz(m c base cS):Mv (i28 m c base cS) (r28 m c base cS) 5:=
 qz (l':=[(0,fi m 13 6 7 8 9),(1,bK c.cy 3),(2,bK c.bz 2),(3,bK c.aR 3),(4,bK base 3),(5,.bc []),(6,eQ m),(7,eW m),(8,eU m),(9,eR m),(10,kz 0),(11,.aj (KD c) 153),(12,.aj [.ao cS] 4)]) rfl rfl rfl
theorem TW:aU Z NM:=by refine cA TV ?_;rintro⟨m,c,base,cS⟩ args H ⟨rfl,rfl,hc,hg⟩;refine eS TV 1000 (λ_=>[2,4,5,8,9,22,23,24]) 132 (by kernel_rfl) ?_;simp;rw[aym];refine u9 ?_ (auz m c base cS) (by kernel_rfl) (λi a' hi=>⟨a',hi,vC hi (by simp[eC,j8,kW,i28,al,eg])⟩);exact ayl hg (0,_,m) ⟨by simp,by simpa using hc,rfl,by simp⟩
def xZ:LI->Int->fO->LI
 |d,c,[]=>d++[c]
 |d,c,g::gs=>if g.eO=1 then xZ (d++[max c (g.eN.length:Int)]) 0 gs else xZ d c gs
def fW(f:bG):LI:=xZ [] f.bC.length f.aZ
def dz(l:LI):AH:=al [(0,bK l 3)] 1
def VT:cx bG where
 bn f A H:=A=[.ah (gH f)]/\H=an/\iW f/\f.aZ.length<1200000
 v f:=.ai 0 (fW f).length 1
 aK f:=dz (fW f)
theorem aos:VT.cr:=by rintro f f' A H ⟨h1,_⟩ ⟨h3,_⟩;rw[h1]at h3;simp at h3;rw[ye _ _ h3]
def TX:Ev.bo:=bR 86 (ca VT aos cD) NM
theorem ax5{nm ar au cs len gs gl L Q}:
 bI Z NM (λ_=>[3,12,13,14]) L Q 1000 86 [.ah [.ab nm,J ar,J au,.ad cs len 4,.ad gs gl 6]] an=(
 L (aB [(3,.bq 0 0 1 1 1 true),(12,.ad gs gl 6),(13,J (aE gl)),(14,J 0)]) (jJ (aE len)) (aw Z 86 0)):=by kernel_rfl
abbrev SP x0 x1 x2 x3:=aB [(3,.ai 0 x0 1),(12,.ad x1 x2 6),(13,J (aE x2)),(14,J x3)]
theorem ax6{i gs gl l L Q}:
 ck Z NM (λ_=>[3,12,13,14]) L Q 1000 86 0 (SP l.length gs gl i) (aw Z 86 0) (dz l)=(
 aq (decide (i<aE gl)) (∃aL:Nat,i=(aL:Int)/\aL<gl/\(∃n s aP bA cs len cf,((gs.drop (aL*6)).take 6:LV)=[J n,.ab s,J aP,J bA,.ad cs len 4,J cf]/\aq (n==1) (∃cG:Nat,wI (aE l.length-1)=(cG:Int)/\cG<l.length/\(∃dc,cw Z 3 (aX l) (cG*1)=some (J dc:AV)/\(∃dO:Nat,wI (aE l.length-1)=(dO:Int)/\dO<l.length/\dO*1+1<=(aX l).length/\((gg (aX l) (dO*1) [J (if aE len>dc then aE len else dc)]).length=l.length*1/\l.length+1<=4194304/\true=true/\true=true)/\L (SP (l.length+1) gs gl (wI (i+1))) (al [(0,.ay (gg (aX l) (dO*1) [J (if aE len>dc then aE len else dc)]++[J 0]) 3)] 1) (aw Z 86 0)))) (L (SP l.length gs gl (wI (i+1))) (dz l) (aw Z 86 0)))) (Q (.ai 0 l.length 1) (dz l))):=by kernel_rfl
theorem AB(l):(aX l).length=l.length:=by simp[aX]
theorem M6(l m):aX (l++m)=aX l++aX m:=by simp[aX]
theorem Sb{l i}(x)(h:i<l.length):gg (aX l) i [J x]=aX (l.set i x):=by unfold gg aX;rw[List.map_set,List.set_eq_take_append_cons_drop,aO (by simpa using h)];rfl
theorem M7(l):(aX l).all AV.cX=true/\(aX l).all eG=true:=by constructor<;>(rw[lZ];intro x hx;obtain⟨n,_,rfl⟩:=nJ.1 hx;rfl)
theorem ax4{gs aH}(hl:dt gs.length)(ho:∀g∈gs,qA g):
 ∀p:Nat×LI×Int,(p.1<=gs.length/\p.2.1.length+(gs.length-p.1)<1300000/\xZ p.2.1 p.2.2 (gs.drop p.1)=aH)->
 br Z 86 40 0 (.ai 0 aH.length 1) (dz aH) (SP (p.2.1++[p.2.2]).length (bD gs) gs.length (p.1:Int)) (dz (p.2.1++[p.2.2])) (aw Z 86 0):=by
 refine dS (λp=>gs.length-p.1) _ _ _ _ ?_;rintro⟨i,d,c⟩ ⟨hi,hc,hf⟩ ih;simp only at hi hc hf ih⊢;refine hE TW ax6 ?_;refine aD.2 ⟨λax=>?_,λbu=>?_⟩
 .have ax:i<gs.length:=by simpa using ax
  have⟨k,nm,ar,au,ls,v,he,bX,a_⟩:=By ax ho;rw[fY ax,he]at hf;refine⟨i,rfl,ax,k,nm,ar,au,_,_,v,bX,?_⟩;rw[lh hl ax];refine aD.2 ⟨λhk=>?_,λhk=>?_⟩
  .have hk:k=1:=by simpa using hk
   simp only[xZ,hk,if_true]at hf;have e:wI (aE (d++[c]).length-1)=((d.length:Nat):Int):=by
    have e0:aE (d++[c]).length-1=(d.length:Int):=by simp
    rw[e0,cO (by omega) (by omega)]
   have hd:d.length<(d++[c]).length:=by simp
   have hg:(d++[c]).getD d.length 0=c:=by simp[List.getD]
   have kQ:(d++[c]).set d.length (max c (ls.length:Int))=d++[max c (ls.length:Int)]:=by simp
   have QG:(if aE ls.length>c then aE ls.length else c)=max c (ls.length:Int):=by simp;split<;>omega
   refine⟨d.length,e,hd,c,by rw[n7 hd,hg],d.length,e,hd,by rw[AB];simp,?_⟩;rw[oI,QG,Sb _ hd,kQ];refine⟨⟨by rw[AB];simp,by simp;omega,rfl,rfl⟩,?_⟩;have next:=ih (i+1,d++[max c (ls.length:Int)],0) ⟨by simp;omega,by simp;omega,hf⟩ (by simp;omega)
   simp only[dz,bK,M6 (d++[max c (ls.length:Int)]) [0]]at next
   have e2:(d++[max c (ls.length:Int)]++[0]).length=(d++[c]).length+1:=by simp
   rw[e2]at next
   exact next
  .have hk:k≠1:=by simpa using hk
   simp only[xZ,hk,if_false]at hf;exact ih (i+1,d,c) ⟨by simp;omega,by simp;omega,hf⟩ (by simp;omega)
 .have bu:gs.length<=i:=by simpa using bu
  rw[gQ bu,xZ]at hf;subst hf;exact⟨rfl,rfl⟩
theorem acd:aU Z TX:=by refine cA TW ?_;rintro⟨⟨nm,ar,au⟩,l,gs⟩ args H ⟨rfl,rfl,ho,hg⟩;simp only at hg;refine eS TW 1000 (λ_=>[3,12,13,14]) 40 (by kernel_rfl) ?_;simp only[VT,gH];rw[ax5];refine yr (g:=0) (new:=bK [(l.length:Int)] 3) ?_ rfl (λφ e o h=>rQ (M7 _).2 h) rfl (by kernel_rfl);exact ax4 ho.2.2.2.1 ho.2.2.2.2 (0,[],(l.length:Int)) ⟨by simp,by simp;omega,rfl⟩
abbrev qM:=Int×LN×LN×LN×LN
def CQ:List qM:=[
 (1,[103,101,116,95,118,97,114],[114,97],[97],[114]),
 (2,[103,101,116,95,118,97,108],[114,97],[114,97],[]),
 (3,[103,101,116,95,105,110,116],[97,110],[97],[]),
 (4,[103,101,116,95,97,116,111,109],[97,115],[97],[]),
 (5,[103,101,116,95,115,116,114,117,99,116],[97,102],[97],[]),
 (6,[97,114,103,95,118,97,114],[114],[],[114]),
 (7,[97,114,103,95,118,97,108],[114],[114],[]),
 (8,[97,114,103,95,105,110,116],[110],[],[]),
 (9,[97,114,103,95,97,116,111,109],[115],[],[]),
 (10,[97,114,103,95,118,111,105,100],[118],[],[]),
 (11,[112,117,116,95,118,97,114],[114,97],[],[114,97]),
 (12,[112,117,116,95,118,97,108],[114,97],[114],[97]),
 (13,[112,117,116,95,105,110,116],[97,110],[],[97]),
 (14,[112,117,116,95,97,116,111,109],[97,115],[],[97]),
 (15,[112,117,116,95,115,116,114,117,99,116],[114,102],[],[114]),
 (16,[97,108,108,111,99,97,116,101],[99],[],[]),
 (17,[116,114,105,109],[99],[],[]),
 (18,[102,114,101,101],[],[],[]),
 (19,[99,97,108,108],[112],[112],[]),
 (20,[101,120,101,99,117,116,101],[112],[112],[]),
 (21,[112,114,111,99,101,101,100],[],[],[]),
 (22,[108,101,118,101,108],[114],[],[114]),
 (23,[109,97,114,107],[114],[],[114]),
 (24,[99,117,116],[114],[114],[]),
 (25,[102,97,105,108],[],[],[])]
def aql(r:qM):LV:=[J r.1,.ab r.2.1,.ab r.2.2.1,.ab r.2.2.2.1,.ab r.2.2.2.2]
def aqm:List qM->LV
 |[]=>[]
 |r::l=>aql r++aqm l
def G0(r:qM):LV:=[.ab r.2.1,.ab r.2.2.1,.ab r.2.2.2.1,.ab r.2.2.2.2]
def afy:List qM->LV
 |[]=>[]
 |r::l=>G0 r++afy l
def F3:qM:=(0,[],[],[],[])
def RE:List qM->Nat->Option qM
 |[],_=>none
 |r::_,0=>some r
 |_::l,i+1=>RE l i
def xC:Int->Option qM
 |.ofNat 0=>none
 |.ofNat (n+1)=>RE CQ n
 |.negSucc _=>none
def aba:LV->Option (Prop×AV)
 |[.bU .i64 k]=>some (True,match xC k with|some r=>.aC [.ah (G0 r),.ao true]|none=>.aC [.ah (G0 F3),.ao false])
 |_=>none
def ali:LV->Option (Prop×AV)
 |[]=>some (True,.ah (afy (F3::CQ)))
 |_=>none
def l_(r:Int):Bool:=decide (1<=r/\r<=4096)
def pj(r:Int):Bool:=decide (r≠0/\-4096<=r/\r<=4096)
def ahL(i:et):Bool:=pd ⟨i.eZ,i.ar,i.n⟩
def akr:LV->Option (Prop×AV)
 |[.bU .i64 r,.ao x]=>some (True,.ao (bif x then l_ r else pj r))
 |_=>none
def aj3:LV->Option (Prop×AV)
 |[.ah [.bU .i64 _,.bU .i64 _,.bU .i64 _,.bU .i64 n,.ab s,.bU .i64 ar]]=>some (True,.ao (pd ⟨s,ar,n⟩))
 |_=>none
def D1:Ev.bo:=e9 194 (fK R4) TX
def D2:Ev.bo:=e9 185 (fK aj3) D1
def D3:Ev.bo:=e9 184 (fK akr) D2
abbrev D4:Ev.bo:=D3
abbrev D5:Ev.bo:=D4
abbrev D6:Ev.bo:=D5
abbrev D7:Ev.bo:=D6
def D8:Ev.bo:=e9 192 (fK ali) D7
def D9:Ev.bo:=e9 186 (fK aba) D8
abbrev D10:Ev.bo:=D9
abbrev NR:Ev.bo:=D10
theorem axN{nm ar au L Q}:
 bI Z TX (λ_=>[]) L Q 1000 194 [.ah [.ab nm,J ar,J au]] an=(
 aq (au==0) (aq (decide (aE nm.length<=100)) (aq (decide (ar>=0)) (Q (.ao (decide (ar<=8))) an) (Q (.ao false) an)) (Q (.ao false) an)) (aq (bW nm []) (aq (decide (au>=1)) (aq (decide (au<=1099511627776)) (aq (decide (ar>=0)) (Q (.ao (decide (ar<=4096))) an) (Q (.ao false) an)) (Q (.ao false) an)) (Q (.ao false) an)) (Q (.ao false) an))):=by kernel_rfl
theorem axr{o r a n s ar L Q}:
 bI Z D1 (λ_=>[]) L Q 1000 185 [.ah [J o,J r,J a,J n,.ab s,J ar]] an=(
 aq (n==0) (aq (decide (aE s.length<=100)) (aq (decide (ar>=0)) (Q (.ao (decide (ar<=8))) an) (Q (.ao false) an)) (Q (.ao false) an)) (aq (bW s []) (aq (decide (n>=1)) (aq (decide (n<=1099511627776)) (aq (decide (ar>=0)) (Q (.ao (decide (ar<=4096))) an) (Q (.ao false) an)) (Q (.ao false) an)) (Q (.ao false) an)) (Q (.ao false) an))):=by kernel_rfl
theorem axq{r x L Q}:
 bI Z D2 (λ_=>[]) L Q 1000 184 [J r,.ao x] an=(
 aq (decide (r>=1)) (aq (decide (r<=4096)) (Q (.ao true) an) (aq (!x) (aq (decide (r<=-1)) (Q (.ao (decide (r>=-4096))) an) (Q (.ao false) an)) (Q (.ao false) an))) (aq (!x) (aq (decide (r<=-1)) (Q (.ao (decide (r>=-4096))) an) (Q (.ao false) an)) (Q (.ao false) an))):=by kernel_rfl
theorem axK{L Q}:
 bI Z D7 (λ_=>[]) L Q 1000 192 [] an=(
 Q (.ah [.ab [],.ab [],.ab [],.ab [],.ab [103,101,116,95,118,97,114],.ab [114,97],.ab [97],.ab [114],.ab [103,101,116,95,118,97,108],.ab [114,97],.ab [114,97],.ab [],.ab [103,101,116,95,105,110,116],.ab [97,110],.ab [97],.ab [],.ab [103,101,116,95,97,116,111,109],.ab [97,115],.ab [97],.ab [],.ab [103,101,116,95,115,116,114,117,99,116],.ab [97,102],.ab [97],.ab [],.ab [97,114,103,95,118,97,114],.ab [114],.ab [],.ab [114],.ab [97,114,103,95,118,97,108],.ab [114],.ab [114],.ab [],.ab [97,114,103,95,105,110,116],.ab [110],.ab [],.ab [],.ab [97,114,103,95,97,116,111,109],.ab [115],.ab [],.ab [],.ab [97,114,103,95,118,111,105,100],.ab [118],.ab [],.ab [],.ab [112,117,116,95,118,97,114],.ab [114,97],.ab [],.ab [114,97],.ab [112,117,116,95,118,97,108],.ab [114,97],.ab [114],.ab [97],.ab [112,117,116,95,105,110,116],.ab [97,110],.ab [],.ab [97],.ab [112,117,116,95,97,116,111,109],.ab [97,115],.ab [],.ab [97],.ab [112,117,116,95,115,116,114,117,99,116],.ab [114,102],.ab [],.ab [114],.ab [97,108,108,111,99,97,116,101],.ab [99],.ab [],.ab [],.ab [116,114,105,109],.ab [99],.ab [],.ab [],.ab [102,114,101,101],.ab [],.ab [],.ab [],.ab [99,97,108,108],.ab [112],.ab [112],.ab [],.ab [101,120,101,99,117,116,101],.ab [112],.ab [112],.ab [],.ab [112,114,111,99,101,101,100],.ab [],.ab [],.ab [],.ab [108,101,118,101,108],.ab [114],.ab [],.ab [114],.ab [109,97,114,107],.ab [114],.ab [],.ab [114],.ab [99,117,116],.ab [114],.ab [114],.ab [],.ab [102,97,105,108],.ab [],.ab [],.ab []]) an):=by kernel_rfl
theorem axs{k L Q}:
 bI Z D8 (λ_=>[]) L Q 1000 186 [J k] an=(
 aq (decide (k<1)) (Q (.aC [.ah [.ab [],.ab [],.ab [],.ab []],.ao false]) an) (aq (decide (k>25)) (Q (.aC [.ah [.ab [],.ab [],.ab [],.ab []],.ao false]) an) ((al [] 0=an/\True)/\((0:Int)<=k/\k<26)/\(k=0->Q (.aC [.ah [.ab [],.ab [],.ab [],.ab []],.ao true]) an)/\(k=1->Q (.aC [.ah [.ab [103,101,116,95,118,97,114],.ab [114,97],.ab [97],.ab [114]],.ao true]) an)/\(k=2->Q (.aC [.ah [.ab [103,101,116,95,118,97,108],.ab [114,97],.ab [114,97],.ab []],.ao true]) an)/\(k=3->Q (.aC [.ah [.ab [103,101,116,95,105,110,116],.ab [97,110],.ab [97],.ab []],.ao true]) an)/\(k=4->Q (.aC [.ah [.ab [103,101,116,95,97,116,111,109],.ab [97,115],.ab [97],.ab []],.ao true]) an)/\(k=5->Q (.aC [.ah [.ab [103,101,116,95,115,116,114,117,99,116],.ab [97,102],.ab [97],.ab []],.ao true]) an)/\(k=6->Q (.aC [.ah [.ab [97,114,103,95,118,97,114],.ab [114],.ab [],.ab [114]],.ao true]) an)/\(k=7->Q (.aC [.ah [.ab [97,114,103,95,118,97,108],.ab [114],.ab [114],.ab []],.ao true]) an)/\(k=8->Q (.aC [.ah [.ab [97,114,103,95,105,110,116],.ab [110],.ab [],.ab []],.ao true]) an)/\(k=9->Q (.aC [.ah [.ab [97,114,103,95,97,116,111,109],.ab [115],.ab [],.ab []],.ao true]) an)/\(k=10->Q (.aC [.ah [.ab [97,114,103,95,118,111,105,100],.ab [118],.ab [],.ab []],.ao true]) an)/\(k=11->Q (.aC [.ah [.ab [112,117,116,95,118,97,114],.ab [114,97],.ab [],.ab [114,97]],.ao true]) an)/\(k=12->Q (.aC [.ah [.ab [112,117,116,95,118,97,108],.ab [114,97],.ab [114],.ab [97]],.ao true]) an)/\(k=13->Q (.aC [.ah [.ab [112,117,116,95,105,110,116],.ab [97,110],.ab [],.ab [97]],.ao true]) an)/\(k=14->Q (.aC [.ah [.ab [112,117,116,95,97,116,111,109],.ab [97,115],.ab [],.ab [97]],.ao true]) an)/\(k=15->Q (.aC [.ah [.ab [112,117,116,95,115,116,114,117,99,116],.ab [114,102],.ab [],.ab [114]],.ao true]) an)/\(k=16->Q (.aC [.ah [.ab [97,108,108,111,99,97,116,101],.ab [99],.ab [],.ab []],.ao true]) an)/\(k=17->Q (.aC [.ah [.ab [116,114,105,109],.ab [99],.ab [],.ab []],.ao true]) an)/\(k=18->Q (.aC [.ah [.ab [102,114,101,101],.ab [],.ab [],.ab []],.ao true]) an)/\(k=19->Q (.aC [.ah [.ab [99,97,108,108],.ab [112],.ab [112],.ab []],.ao true]) an)/\(k=20->Q (.aC [.ah [.ab [101,120,101,99,117,116,101],.ab [112],.ab [112],.ab []],.ao true]) an)/\(k=21->Q (.aC [.ah [.ab [112,114,111,99,101,101,100],.ab [],.ab [],.ab []],.ao true]) an)/\(k=22->Q (.aC [.ah [.ab [108,101,118,101,108],.ab [114],.ab [],.ab [114]],.ao true]) an)/\(k=23->Q (.aC [.ah [.ab [109,97,114,107],.ab [114],.ab [],.ab [114]],.ao true]) an)/\(k=24->Q (.aC [.ah [.ab [99,117,116],.ab [114],.ab [114],.ab []],.ao true]) an)/\(k=25->Q (.aC [.ah [.ab [102,97,105,108],.ab [],.ab [],.ab []],.ao true]) an)/\True))):=by kernel_rfl
theorem aco:aU Z D1:=by
 refine jD acd λargs q v h hq=>?_
 unfold R4 at h;split at h<;>cases h;refine eE 43 acd axN ?_
 (repeat' (refine aD.2 ⟨λ_=>?_,λ_=>?_⟩))
 all_goals
  refine⟨?_,rfl⟩;congr 1
  (rw[rC];simp_all[pd,mu]<;>(try intros)<;>omega)
theorem acp:aU Z D2:=by
 refine jD aco λargs q v h hq=>?_
 unfold aj3 at h;split at h<;>cases h;refine eE 43 aco axr ?_
 (repeat' (refine aD.2 ⟨λ_=>?_,λ_=>?_⟩))
 all_goals
  refine⟨?_,rfl⟩;congr 1
  (rw[rC];simp_all[pd,mu]<;>(try intros)<;>omega)
theorem am1:aU Z D3:=by
 refine jD acp λargs q v h hq=>?_
 unfold akr at h;split at h<;>cases h;refine eE 23 acp axq ?_;rename_i r x;cases x;all_goals
  (repeat' (refine aD.2 ⟨λ_=>?_,λ_=>?_⟩))
  all_goals
   refine⟨?_,rfl⟩;congr 1
   (rw[rC];simp_all[pj,l_]<;>(try intros)<;>omega)
theorem am2:aU Z D4:=am1
theorem am3:aU Z D5:=am2
theorem am4:aU Z D6:=am3
theorem acq:aU Z D7:=am4
theorem acr:aU Z D8:=by
 refine jD acq λargs q v h hq=>?_
 unfold ali at h;split at h<;>cases h;refine eE 27 acq axK ?_;exact⟨rfl,rfl⟩
theorem azC{k}(h:k<1):xC k=none:=by
 cases k with
 |ofNat n=>
  cases n with
  |zero=>rfl
  |succ n=>exfalso;simp at h;omega
 |negSucc n=>rfl
theorem azB{k}(h:k>25):xC k=none:=by obtain⟨n,rfl⟩:∃n:Nat,k=aE (n+26):=⟨(k-26).toNat,by simp;omega⟩;rfl
theorem acs:aU Z D9:=by
 refine jD acr λargs q v h hq=>?_
 unfold aba at h;split at h<;>cases h;rename_i k;refine eE 14 acr axs ?_;refine aD.2 ⟨λh1=>?_,λh1=>?_⟩
 .have h1:k<1:=by simpa using h1
  rw[azC h1];exact⟨rfl,rfl⟩
 have h1:¬k<1:=by simpa using h1
 refine aD.2 ⟨λh2=>?_,λh2=>?_⟩
 .have h2:k>25:=by simpa using h2
  rw[azB h2];exact⟨rfl,rfl⟩
 have h2:¬k>25:=by simpa using h2
 refine⟨⟨rfl,trivial⟩,⟨by omega,by omega⟩,λh=>absurd h (by omega),?_⟩;repeat' (first|exact trivial|refine⟨λh=>?_,?_⟩|fail)
 all_goals
  subst h;exact⟨rfl,rfl⟩
theorem amZ:aU Z D10:=acs
theorem acm:aU Z NR:=amZ
def SM(i:et):Bool:=decide ((i.eZ.length:Int)<=100/\1<=i.ar/\i.ar<=8)
def qo(i:et):Bool:=
 if i.op=1\/i.op=2\/i.op=11\/i.op=12 then pj i.r&&l_ i.a&&decide (i.n=0/\i.eZ=[]/\i.ar=0)
 else if i.op=3\/i.op=13 then l_ i.a&&decide (i.r=0/\i.eZ=[]/\i.ar=0)
 else if i.op=4\/i.op=14 then l_ i.a&&decide ((i.eZ.length:Int)<=100/\i.r=0/\i.n=0/\i.ar=0)
 else if i.op=5 then l_ i.a&&SM i&&decide (i.r=0/\i.n=0)
 else if i.op=15 then pj i.r&&SM i&&decide (i.a=0/\i.n=0)
 else if i.op=6\/i.op=7\/i.op=22\/i.op=23\/i.op=24 then pj i.r&&decide (i.a=0/\i.n=0/\i.eZ=[]/\i.ar=0)
 else if i.op=8 then decide (i.r=0/\i.a=0/\i.eZ=[]/\i.ar=0)
 else if i.op=9 then decide ((i.eZ.length:Int)<=100/\i.r=0/\i.a=0/\i.n=0/\i.ar=0)
 else if i.op=10 then decide (1<=i.n/\i.n<=8/\i.r=0/\i.a=0/\i.eZ=[]/\i.ar=0)
 else if i.op=16\/i.op=17 then decide (0<=i.n/\i.n<=4096/\i.r=0/\i.a=0/\i.eZ=[]/\i.ar=0)
 else if i.op=19\/i.op=20 then ahL i&&decide (i.r=0/\i.a=0)
 else if i.op=18\/i.op=21\/i.op=25 then decide (i.r=0/\i.a=0/\i.n=0/\i.eZ=[]/\i.ar=0)
 else false
def PY:LV->Option (Prop×AV)
 |[.ah [.bU .i64 o,.bU .i64 r,.bU .i64 a,.bU .i64 n,.ab s,.bU .i64 ar]]=>some (True,.ao (qo ⟨o,r,a,n,s,ar⟩))
 |_=>none
def NS:Ev.bo:=e9 193 (fK PY) NR
abbrev tT:Prop:=al [] 0=an/\True
def KQ(r a n:Int)(s:LN)(ar:Int):Nat->Bool
 |0|_+26=>false
 |1|2|11|12=>pj r&&l_ a&&decide (n=0/\s=[]/\ar=0)
 |3|13=>l_ a&&decide (r=0/\s=[]/\ar=0)
 |4|14=>l_ a&&decide ((s.length:Int)<=100/\r=0/\n=0/\ar=0)
 |5=>l_ a&&(decide ((s.length:Int)<=100/\1<=ar/\ar<=8))&&decide (r=0/\n=0)
 |6|7|22|23|24=>pj r&&decide (a=0/\n=0/\s=[]/\ar=0)
 |8=>decide (r=0/\a=0/\s=[]/\ar=0)
 |9=>decide ((s.length:Int)<=100/\r=0/\a=0/\n=0/\ar=0)
 |10=>decide (1<=n/\n<=8/\r=0/\a=0/\s=[]/\ar=0)
 |15=>pj r&&(decide ((s.length:Int)<=100/\1<=ar/\ar<=8))&&decide (a=0/\n=0)
 |16|17=>decide (0<=n/\n<=4096/\r=0/\a=0/\s=[]/\ar=0)
 |18|21|25=>decide (r=0/\a=0/\n=0/\s=[]/\ar=0)
 |19|20=>pd ⟨s,ar,n⟩&&decide (r=0/\a=0)
theorem agb(r a n s ar):∀k:Nat,qo ⟨.ofNat k,r,a,n,s,ar⟩=KQ r a n s ar k
 |0|1|2|3|4|5|6|7|8|9|10|11|12|13|14|15|16|17|18|19|20|21|22|23|24|25|m+26=>rfl
def anP(r a n:Int)(s:LN)(ar:Int)(B:Bool->Prop):Nat->Prop
 |0|_+26=>tT/\B false
 |1|2|11|12=>tT/\aq (r !=0) (aq (decide (r>=-4096)) (aq (decide (r<=4096)) (aq (decide (a>=1)) (aq (decide (a<=4096)) (B (true&&(r==r&&(a==a&&(n==0&&(bW s []&&(ar==0&&true))))))) (B false)) (B false)) (B false)) (B false)) (B false)
 |3|13=>tT/\aq (decide (a>=1)) (aq (decide (a<=4096)) (B (true&&(r==0&&(a==a&&(n==n&&(bW s []&&(ar==0&&true))))))) (B false)) (B false)
 |4|14=>tT/\aq (decide (a>=1)) (aq (decide (a<=4096)) (aq (decide (aE s.length<=100)) (B (true&&(r==0&&(a==a&&(n==0&&(bW s s&&(ar==0&&true))))))) (B false)) (B false)) (B false)
 |5=>tT/\aq (decide (a>=1)) (some (J ar:AV)=some (J ar:AV)/\aq (decide (a<=4096)) (aq (decide (aE s.length<=100)) (aq (decide (ar>=1)) (aq (decide (ar<=8)) (B (true&&(r==0&&(a==a&&(n==0&&(bW s s&&(ar==ar&&true))))))) (B false)) (B false)) (B false)) (B false)) (some (J ar:AV)=some (J ar:AV)/\B false)
 |6|7|22|23|24=>tT/\aq (r !=0) (aq (decide (r>=-4096)) (aq (decide (r<=4096)) (B (true&&(r==r&&(a==0&&(n==0&&(bW s []&&(ar==0&&true))))))) (B false)) (B false)) (B false)
 |8=>tT/\B (true&&(r==0&&(a==0&&(n==n&&(bW s []&&(ar==0&&true))))))
 |9=>tT/\aq (decide (aE s.length<=100)) (B (true&&(r==0&&(a==0&&(n==0&&(bW s s&&(ar==0&&true))))))) (B false)
 |10=>tT/\aq (decide (n>=1)) (aq (decide (n<=8)) (B (true&&(r==0&&(a==0&&(n==n&&(bW s []&&(ar==0&&true))))))) (B false)) (B false)
 |15=>tT/\aq (r !=0) (aq (decide (r>=-4096)) (some (J ar:AV)=some (J ar:AV)/\aq (decide (r<=4096)) (aq (decide (aE s.length<=100)) (aq (decide (ar>=1)) (aq (decide (ar<=8)) (B (true&&(r==r&&(a==0&&(n==0&&(bW s s&&(ar==ar&&true))))))) (B false)) (B false)) (B false)) (B false)) (some (J ar:AV)=some (J ar:AV)/\B false)) (some (J ar:AV)=some (J ar:AV)/\B false)
 |16|17=>tT/\aq (decide (n>=0)) (aq (decide (n<=4096)) (B (true&&(r==0&&(a==0&&(n==n&&(bW s []&&(ar==0&&true))))))) (B false)) (B false)
 |18|21|25=>tT/\B (true&&(r==0&&(a==0&&(n==0&&(bW s []&&(ar==0&&true))))))
 |19|20=>tT/\some (J n:AV)=some (J n:AV)/\some (J ar:AV)=some (J ar:AV)/\some (J n:AV)=some (J n:AV)/\tT/\aq (pd (cV.mk s ar n)) (B (true&&(r==0&&(a==0&&(n==n&&(bW s s&&(ar==ar&&true))))))) (B false)
theorem axL{r a n s ar L Q}:∀k:Nat,
 bI Z NR (λ_=>[1000000]) L Q 3000 193 [.ah [J (.ofNat k),J r,J a,J n,.ab s,J ar]] an=anP r a n s ar (λb=>Q (.ao b) an) k
 |0|1|2|3|4|5|6|7|8|9|10|11|12|13|14|15|16|17|18|19|20|21|22|23|24|25|m+26=>by kernel_rfl
theorem axM{m r a n s ar L Q}:
 bI Z NR (λ_=>[1000000]) L Q 3000 193 [.ah [J (.negSucc m),J r,J a,J n,.ab s,J ar]] an=((tT)/\Q (.ao false) an):=by kernel_rfl
theorem acn:aU Z NS:=by
 refine jD acm λargs q v h hq=>?_
 unfold PY at h;split at h<;>cases h;rename_i o r a n s ar;refine eS acm 3000 (λ_=>[1000000]) 163 (by kernel_rfl) ?_;cases o with
 |negSucc m=>rw[axM,show qo ⟨.negSucc m,r,a,n,s,ar⟩=false from rfl];exact⟨⟨rfl,trivial⟩,rfl,rfl⟩
 |ofNat k=>
  rw[axL,agb];match k with
  |0=>?_|1=>?_|2=>?_|3=>?_|4=>?_|5=>?_|6=>?_|7=>?_|8=>?_|9=>?_|10=>?_|11=>?_|12=>?_|13=>?_|14=>?_|15=>?_|16=>?_|17=>?_|18=>?_|19=>?_|20=>?_|21=>?_|22=>?_|23=>?_|24=>?_|25=>?_|m+26=>?_
  all_goals
   repeat' (first|(refine aD.2 ⟨λ_=>?_,λ_=>?_⟩)|(refine⟨⟨rfl,trivial⟩,?_⟩)|(refine⟨(rfl:some _=some _),?_⟩)|fail)
  all_goals
   refine⟨?_,rfl⟩;first
   |rfl
   |(congr 1;(rw[rC];simp_all[KQ,pj,l_,mu]<;>(try intros)<;>omega))
   |(congr 1;simp_all[KQ];done)
   |fail
def D13:Ev.bo:=e9 173 (fK PY) NS
def anO(r a n:Int)(s:LN)(ar:Int)(B:Bool->Prop):Nat->Prop
 |0|_+26=>aq (decide (aE s.length<=100)) (aq (decide (ar>=1)) (B false) (B false)) (B false)
 |1|2|11|12=>aq (decide (aE s.length<=100)) (aq (decide (ar>=1)) (tT/\aq (pj r) (tT/\aq (l_ a) (B (true&&(r==r&&(a==a&&(n==0&&(bW s []&&(ar==0&&true))))))) (B false)) (B false)) (tT/\aq (pj r) (tT/\aq (l_ a) (B (true&&(r==r&&(a==a&&(n==0&&(bW s []&&(ar==0&&true))))))) (B false)) (B false))) (tT/\aq (pj r) (tT/\aq (l_ a) (B (true&&(r==r&&(a==a&&(n==0&&(bW s []&&(ar==0&&true))))))) (B false)) (B false))
 |3|13=>aq (decide (aE s.length<=100)) (aq (decide (ar>=1)) (tT/\aq (l_ a) (B (true&&(r==0&&(a==a&&(n==n&&(bW s []&&(ar==0&&true))))))) (B false)) (tT/\aq (l_ a) (B (true&&(r==0&&(a==a&&(n==n&&(bW s []&&(ar==0&&true))))))) (B false))) (tT/\aq (l_ a) (B (true&&(r==0&&(a==a&&(n==n&&(bW s []&&(ar==0&&true))))))) (B false))
 |4|14=>aq (decide (aE s.length<=100)) (aq (decide (ar>=1)) (tT/\aq (l_ a) (aq (decide (aE s.length<=100)) (B (true&&(r==0&&(a==a&&(n==0&&(bW s s&&(ar==0&&true))))))) (B false)) (B false)) (tT/\aq (l_ a) (aq (decide (aE s.length<=100)) (B (true&&(r==0&&(a==a&&(n==0&&(bW s s&&(ar==0&&true))))))) (B false)) (B false))) (tT/\aq (l_ a) (aq (decide (aE s.length<=100)) (B (true&&(r==0&&(a==a&&(n==0&&(bW s s&&(ar==0&&true))))))) (B false)) (B false))
 |5=>aq (decide (aE s.length<=100)) (aq (decide (ar>=1)) (tT/\aq (l_ a) (aq (decide (ar<=8)) (B (true&&(r==0&&(a==a&&(n==0&&(bW s s&&(ar==ar&&true))))))) (B false)) (B false)) (tT/\aq (l_ a) (B false) (B false))) (tT/\aq (l_ a) (B false) (B false))
 |6|7|22|23|24=>aq (decide (aE s.length<=100)) (aq (decide (ar>=1)) (tT/\aq (pj r) (B (true&&(r==r&&(a==0&&(n==0&&(bW s []&&(ar==0&&true))))))) (B false)) (tT/\aq (pj r) (B (true&&(r==r&&(a==0&&(n==0&&(bW s []&&(ar==0&&true))))))) (B false))) (tT/\aq (pj r) (B (true&&(r==r&&(a==0&&(n==0&&(bW s []&&(ar==0&&true))))))) (B false))
 |8=>aq (decide (aE s.length<=100)) (aq (decide (ar>=1)) (B (true&&(r==0&&(a==0&&(n==n&&(bW s []&&(ar==0&&true))))))) (B (true&&(r==0&&(a==0&&(n==n&&(bW s []&&(ar==0&&true)))))))) (B (true&&(r==0&&(a==0&&(n==n&&(bW s []&&(ar==0&&true)))))))
 |9=>aq (decide (aE s.length<=100)) (aq (decide (ar>=1)) (aq (decide (aE s.length<=100)) (B (true&&(r==0&&(a==0&&(n==0&&(bW s s&&(ar==0&&true))))))) (B false)) (aq (decide (aE s.length<=100)) (B (true&&(r==0&&(a==0&&(n==0&&(bW s s&&(ar==0&&true))))))) (B false))) (aq (decide (aE s.length<=100)) (B (true&&(r==0&&(a==0&&(n==0&&(bW s s&&(ar==0&&true))))))) (B false))
 |10=>aq (decide (aE s.length<=100)) (aq (decide (ar>=1)) (aq (decide (n>=1)) (aq (decide (n<=8)) (B (true&&(r==0&&(a==0&&(n==n&&(bW s []&&(ar==0&&true))))))) (B false)) (B false)) (aq (decide (n>=1)) (aq (decide (n<=8)) (B (true&&(r==0&&(a==0&&(n==n&&(bW s []&&(ar==0&&true))))))) (B false)) (B false))) (aq (decide (n>=1)) (aq (decide (n<=8)) (B (true&&(r==0&&(a==0&&(n==n&&(bW s []&&(ar==0&&true))))))) (B false)) (B false))
 |15=>aq (decide (aE s.length<=100)) (aq (decide (ar>=1)) (tT/\aq (pj r) (aq (decide (ar<=8)) (B (true&&(r==r&&(a==0&&(n==0&&(bW s s&&(ar==ar&&true))))))) (B false)) (B false)) (tT/\aq (pj r) (B false) (B false))) (tT/\aq (pj r) (B false) (B false))
 |16|17=>aq (decide (aE s.length<=100)) (aq (decide (ar>=1)) (aq (decide (n>=0)) (aq (decide (n<=4096)) (B (true&&(r==0&&(a==0&&(n==n&&(bW s []&&(ar==0&&true))))))) (B false)) (B false)) (aq (decide (n>=0)) (aq (decide (n<=4096)) (B (true&&(r==0&&(a==0&&(n==n&&(bW s []&&(ar==0&&true))))))) (B false)) (B false))) (aq (decide (n>=0)) (aq (decide (n<=4096)) (B (true&&(r==0&&(a==0&&(n==n&&(bW s []&&(ar==0&&true))))))) (B false)) (B false))
 |18|21|25=>aq (decide (aE s.length<=100)) (aq (decide (ar>=1)) (B (true&&(r==0&&(a==0&&(n==0&&(bW s []&&(ar==0&&true))))))) (B (true&&(r==0&&(a==0&&(n==0&&(bW s []&&(ar==0&&true)))))))) (B (true&&(r==0&&(a==0&&(n==0&&(bW s []&&(ar==0&&true)))))))
 |19|20=>aq (decide (aE s.length<=100)) (aq (decide (ar>=1)) (tT/\aq (pd (cV.mk s ar n)) (aq (r==0) (B (a==0)) (B false)) (B false)) (tT/\aq (pd (cV.mk s ar n)) (aq (r==0) (B (a==0)) (B false)) (B false))) (tT/\aq (pd (cV.mk s ar n)) (aq (r==0) (B (a==0)) (B false)) (B false))
theorem aw7{r a n s ar L Q}:∀k,
 bI Z NS (λ_=>[1000000]) L Q 3000 173 [.ah [J (.ofNat k),J r,J a,J n,.ab s,J ar]] an=anO r a n s ar (λb=>Q (.ao b) an) k
 |0|1|2|3|4|5|6|7|8|9|10|11|12|13|14|15|16|17|18|19|20|21|22|23|24|25|m+26=>by kernel_rfl
theorem aw8{m r a n s ar L Q}:
 bI Z NS (λ_=>[1000000]) L Q 3000 173 [.ah [J (.negSucc m),J r,J a,J n,.ab s,J ar]] an=(aq (decide (aE s.length<=100)) (aq (decide (ar>=1)) (Q (.ao false) an) (Q (.ao false) an)) (Q (.ao false) an)):=by kernel_rfl
theorem am0:aU Z D13:=by
 refine jD acn λargs q v h hq=>?_
 unfold PY at h;split at h<;>cases h;rename_i o r a n s ar;refine eS acn 3000 (λ_=>[1000000]) 231 (by kernel_rfl) ?_;cases o with
 |negSucc m=>
  rw[aw8,show qo ⟨.negSucc m,r,a,n,s,ar⟩=false from rfl];repeat' (first|(refine aD.2 ⟨λ_=>?_,λ_=>?_⟩)|(refine⟨⟨rfl,trivial⟩,?_⟩)|(refine⟨(rfl:some _=some _),?_⟩)|fail)
  all_goals exact⟨rfl,rfl⟩
 |ofNat k=>
  rw[aw7,agb];match k with
  |0=>?_|1=>?_|2=>?_|3=>?_|4=>?_|5=>?_|6=>?_|7=>?_|8=>?_|9=>?_|10=>?_|11=>?_|12=>?_|13=>?_|14=>?_|15=>?_|16=>?_|17=>?_|18=>?_|19=>?_|20=>?_|21=>?_|22=>?_|23=>?_|24=>?_|25=>?_|m+26=>?_
  all_goals
   repeat' (first|(refine aD.2 ⟨λ_=>?_,λ_=>?_⟩)|(refine⟨⟨rfl,trivial⟩,?_⟩)|(refine⟨(rfl:some _=some _),?_⟩)|fail)
  all_goals
   refine⟨?_,rfl⟩;first
   |rfl
   |(congr 1;(rw[rC];simp_all[KQ,pj,l_,mu]<;>(try intros)<;>omega))
   |(congr 1;simp_all[KQ];done)
   |fail
def pY(k:Int):qM×Bool:=match xC k with|some r=>(r,true)|none=>(F3,false)
def shX:cx (Int×qM×Bool)where
 bn w A H:=A=[J w.1]/\H=an/\pY w.1=w.2
 v w:=.aC [.ah [.ab w.2.1.2.1,.ab w.2.1.2.2.1,.ab w.2.1.2.2.2.1,.ab w.2.1.2.2.2.2],.ao w.2.2]
 aK w:=an
theorem azA{w w':Int×qM×Bool}{A}(h1:A=[J w.1])(h2:pY w.1=w.2)(h3:A=[J w'.1])(h4:pY w'.1=w'.2):w=w':=by rw[h1]at h3;simp at h3;have⟨a,b⟩:=w;have⟨a',b'⟩:=w';simp only at h3 h2 h4;subst h3;rw[<-h2,<-h4]
theorem azz:shX.cr:=by rintro w w' A H ⟨h1,_,h2⟩ ⟨h3,_,h4⟩;rw[azA h1 h2 h3 h4]
def E1:Ev.bo:=bR 186 (ca shX azz cD) D13
abbrev E2:Ev.bo:=E1
abbrev E3:Ev.bo:=E2
theorem am7:aU Z E1:=by
 refine cA am0 ?_;rintro⟨k,w,b⟩ args H ⟨rfl,rfl,h⟩;refine acs.1 186 _ an (an=an/\True) _ an (by decide) (OH ?_) ⟨rfl,trivial⟩;have h:(match xC k with|some r=>(r,true)|none=>(F3,false))=(w,b):=h;have e:aba [J k]=some (True,.aC [.ah (G0 w),.ao b]):=by
  show some (True,(match xC k with|some r=>AV.aC [.ah (G0 r),.ao true]|none=>AV.aC [.ah (G0 F3),.ao false]))=_;cases hs:xC k with
  |none=>rw[hs]at h;cases h;rfl
  |some r=>rw[hs]at h;cases h;rfl
 unfold fK;rw[e];rfl
theorem am8:aU Z E2:=am7
theorem ajv:∀{l i r},RE l i=some r->r∈l
 |[],_,_,h=>by cases h
 |_::_,0,_,h=>by cases h;exact dJ
 |_::l,i+1,_,h=>dZ _ (ajv h)
theorem abb{k r}(h:xC k=some r):r∈CQ:=by
 cases k with
 |ofNat n=>
  cases n with
  |zero=>cases h
  |succ n=>exact ajv h
 |negSucc n=>cases h
theorem JJ:aU Z E3:=am8
theorem aqA{P f args adU H H2 H' v R}(h:bZ P f adU H2 v H')(hm:lL H.bx H H2 R)(hn:H2.bx=H.bx)(ha:∀φ aQ,R φ aQ->∀l,bp φ args l->bp aQ adU l):bZ P f args H v H':=by intro φ w bs args' cs hv hw hl;have⟨_,hm⟩:=hm;have⟨lH,k1,k2,k3⟩:=hm φ bs w (cM _) hw;have⟨aQ,w',g1,g2,g3,g4⟩:=h lH w bs args' cs (ha _ _ k3 _ hv) k1 hl;rw[hn]at g2;exact⟨aQ,w',g1,k2.1.rN g2,⟨g3.1,k2.2.qL g3.2⟩,g4⟩
theorem aqz{P f args H' v l}(h:bZ P f args (dz l) v H'):bZ P f args (al [(0,.aj (aX l) 3)] 1) v H':=
 aqA h (Mp (g:=0) rfl (λφ e o h=>rQ (M7 _).2 h) rfl) rfl (λφ aQ hR l hl=>by subst hR;exact hl)
theorem anr{φ vs el gO e o}(h:OR φ (.ay vs el) e o):OR φ (.aj vs gO) e o:=by have⟨cs,kB,h1,h2,h3,h4,h5⟩:=h;exact⟨cs,kB,h1,h2,h3,bp.kI (dv.vJ φ) _ _ h4,h5⟩
theorem GO{W g u x}(h:sC (.ex W g u)=some x):∃w,x=g w:=by
 simp only[sC]at h;by_cases hw:∃w,(g w).1
 .rw[dif_pos hw]at h;cases h;exact⟨_,rfl⟩
 .rw[dif_neg hw]at h;cases h
theorem XD{l m}(h:dz l=dz m):l=m:=by have:=congrArg (λH=>AH.bf H 0) h;exact AD (dw this)
def yF:LI->Int->Int->Int
 |[],_,_=> -1
 |x::l,a,k=>if a=x then k else yF l a (k+1)
theorem aib:∀l a k,0<=k->(0<=yF l a k↔a∈l)
 |[],a,k,h=>by simp[yF]
 |x::l,a,k,h=>by
  unfold yF;split;next hx=>simp[hx,h]
  next hx=>rw[aib l a (k+1) (by omega)];simp[hx]
def Sz(r:LI->Int->AV):LV->AH->Option Sp
 |[.aJ,.bU .i64 a],H=>some (.zC (H=an,r [] a,an))
 |[.ai 0 len 1,.bU .i64 a],H=>match H.bf 0 with
  |some (.aj [.bU .i64 x] _)=>some (.zC (H=al [(0,.aj [J x] 3)] 1/\len=1,r [x] a,al [(0,.aj [J x] 3)] 1))
  |some (.ay _ _)=>some (.ex LI (λl=>((H=dz l/\len=l.length/\l.length<2000000),r l a,dz l)) (λw w' h1 h2=>by rw[XD (h1.1.symm.trans h2.1)]))
  |_=>none
 |_,_=>none
def E4:Ev.bo:=bR 189 (Sz λl a=>J (yF l a 0)) E3
def E5:Ev.bo:=bR 179 (Sz λl a=>.ao (decide (a∈l))) E4
theorem ak9{P S f r}(hS:aU P S)(hr:∀l a,wb 0 (r l a)=r l a/\ju (r l a)=.gk (r l a))(h1:∀a,bZ P f [.aJ,J a] an (r [] a) an)(h3:∀l a,l.length<2000000->bZ P f [.ai 0 l.length 1,J a] (dz l) (r l a) (dz l))(cE:f≠999999:=by first|assumption|decide):aU P (bR f (Sz r) S):=by
 refine xW hS λargs H sp p v H' hs hd hp=>?_
 unfold Sz at hs;split at hs
 .cases hs;cases hd;cases hp;exact h1 _
 .split at hs
  .cases hs;cases hd;obtain⟨rfl,rfl⟩:=hp;rename_i a _ x _ _;have h4:=G' (g:=0) (new:=.aj [J x] 3) (aqz (h3 [x] a (by simp))) rfl (λφ e o h=>anr h) rfl (cM _) (hr _ _).2;rw[(hr _ _).1]at h4;exact h4
  .cases hs;have⟨l,e⟩:=GO hd;cases e;obtain⟨rfl,rfl,h⟩:=hp;exact h3 l _ h
  .cases hs
 .cases hs
theorem axB{a L Q}:
 bI Z E3 (λ_=>[0,1,7,8]) L Q 1000 189 [.aJ,J a] an=(
 L (aB [(0,.aJ),(1,J a),(7,J 0),(8,J 0)]) an (aw Z 189 0)):=by kernel_rfl
abbrev SQ x0 x1 x2:=aB [(0,.ai 0 x0 1),(1,J x1),(7,J (aE x0)),(8,J x2)]
theorem axz{l a L Q}:
 bI Z E3 (λ_=>[0,1,7,8]) L Q 1000 189 [.ai 0 l.length 1,J a] (dz l)=(
 L (SQ l.length a 0) (dz l) (aw Z 189 0)):=by kernel_rfl
theorem axD{a i L Q}:
 ck Z E3 (λ_=>[0,1,7,8]) L Q 1000 189 0 (aB [(0,.aJ),(1,J a),(7,J 0),(8,J i)]) (aw Z 189 0) an=(
 aq (decide (i<0)) False (Q (J (-1)) an)):=by kernel_rfl
theorem axC{l a i L Q}:
 ck Z E3 (λ_=>[0,1,7,8]) L Q 1000 189 1 (SQ l.length a i) (aw Z 189 0) (dz l)=(
 aq (decide (i<aE l.length)) (∃aL:Nat,i=(aL:Int)/\aL<l.length/\(∃n:Int,cw Z 3 (aX l) (aL*1)=some (J n:AV)/\aq (a==n) (Q (J i) (dz l)) (L (SQ l.length a (wI (i+1))) (dz l) (aw Z 189 0)))) (Q (J (-1)) (dz l))):=by kernel_rfl
theorem axi{a L Q}:
 bI Z E4 (λ_=>[]) L Q 1000 179 [.aJ,J a] an=(
 al [] 0=an/\Q (.ao false) an):=by kernel_rfl
theorem axh{l a L Q}:
 bI Z E4 (λ_=>[]) L Q 1000 179 [.ai 0 l.length 1,J a] (dz l)=(
 ∃w:LI,(dz l=dz w/\l.length=w.length/\w.length<2000000)/\Q (.ao (decide (yF w a 0>=0))) (dz w)):=by kernel_rfl
theorem axA{l a aH}(hl:l.length<2000000):∀i:Nat,(i<=l.length/\yF (l.drop i) a i=aH)->
 br Z 189 19 1 (J aH) (dz l) (SQ l.length a (i:Int)) (dz l) (aw Z 189 0):=by
 refine dS (λi=>l.length-i) _ _ _ _ ?_;rintro i ⟨hi,hf⟩ ih;refine hE JJ axC ?_;refine aD.2 ⟨λax=>?_,λbu=>?_⟩
 .have ax:i<l.length:=by simpa using ax
  rw[fY ax]at hf;have hg:l.getD i 0=l[i]:=by simp[List.getD,ir ax]
  refine⟨i,rfl,ax,l[i],by rw[n7 ax,hg],aD.2 ⟨λh=>?_,λh=>?_⟩⟩
  .have h:a=l[i]:=by simpa using h
   rw[yF,aO h]at hf;subst hf;exact⟨rfl,rfl⟩
  .have h:¬a=l[i]:=by simpa using h
   rw[yF,az h]at hf;have e:wI ((i:Int)+1)=((i+1:Nat):Int):=by rw[cO (by omega) (by omega)];simp
   rw[e];exact ih (i+1) ⟨by omega,by simpa using hf⟩ (by omega)
 .have bu:l.length<=i:=by simpa using bu
  rw[gQ bu]at hf;subst hf;exact⟨rfl,rfl⟩
theorem T7:aU Z E4:=by
 refine ak9 JJ (λ_ _=>⟨rfl,rfl⟩) (λa=>?_) (λl a hl=>?_)
 .refine eE 19 JJ axB ?_;refine hD JJ 1000 (λ_=>[0,1,7,8]) (by kernel_rfl) ?_;rw[show an.bx=0 from rfl,axD];exact⟨rfl,rfl⟩
 .refine eE 19 JJ axz ?_;exact axA hl 0 ⟨by simp,rfl⟩
theorem arb(l a):decide (yF l a 0>=0)=decide (a∈l):=by rw[decide_eq_decide];exact aib l a 0 (Aw 0)
theorem zm:aU Z E5:=by
 refine ak9 T7 (λ_ _=>⟨rfl,rfl⟩) (λa=>?_) (λl a hl=>?_)
 .refine eE 9 T7 axi ?_;exact⟨rfl,by simp,rfl⟩
 .refine eE 9 T7 axh ?_;exact⟨l,⟨rfl,rfl,hl⟩,by rw[arb],rfl⟩
def q_(n:Int):LI:=(List.range n.toNat).map λ(k:Nat)=>(k:Int)+1
def xr(i:et)(l:LI)(b:Nat):LI:=
 if b=114 then l++[i.r]else if b=97 then(if i.a∈l then l else l++[i.a])else if b=112 then l++q_ i.ar else l
def k8(i:et)(fs:LN):LI:=if qo i then fs.foldl (xr i) []else[]
def zR(fs:LN):Prop:=fs=[]\/fs=[97]\/fs=[114]\/fs=[114,97]\/fs=[112]
def aaO:cx (et×LN)where
 bn w A H:=A=[.ah (dq w.1),.ab w.2]/\H=an/\zR w.2
 v w:=.ai 0 (k8 w.1 w.2).length 1
 aK w:=dz (k8 w.1 w.2)
theorem av3:aaO.cr:=by rintro⟨i,fs⟩ ⟨i',fs'⟩ A H ⟨h1,_⟩ ⟨h2,_⟩;rw[h1]at h2;simp at h2;rw[GV h2.1,h2.2]
def E6:Ev.bo:=bR 187 (ca aaO av3 cD) E5
def Fc:Nat->LN:=fT [(4,[1000000]),(14,[2,4,12,39,40])]
def wR(i:et):bk:=.aj [J i.op,J i.r,J i.a,J i.n,.ab i.eZ,J i.ar] 56
def Qc(i:et)(l:LI):AH:=al [(0,wR i),(1,bK l 3),(2,.tp [112] 1)] 3
theorem akV{i L Q}:
 bI Z E5 Fc L Q 1000 187 [.ah (dq i),.ab []] an=(
 (al [] 0=an/\True)/\aq (!qo (et.mk i.op i.r i.a i.n i.eZ i.ar)) (Q .aJ an) (Q .aJ an)):=by kernel_rfl
theorem akW{i L Q}:
 bI Z E5 Fc L Q 1000 187 [.ah (dq i),.ab [97]] an=(
 (al [] 0=an/\True)/\aq (!qo (et.mk i.op i.r i.a i.n i.eZ i.ar)) (Q .aJ an) (al [] 0=an/\Q (.ai 0 1 1) (jJ i.a))):=by kernel_rfl
theorem akY{i L Q}:
 bI Z E5 Fc L Q 1000 187 [.ah (dq i),.ab [114]] an=(
 (al [] 0=an/\True)/\aq (!qo (et.mk i.op i.r i.a i.n i.eZ i.ar)) (Q .aJ an) (Q (.ai 0 1 1) (jJ i.r))):=by kernel_rfl
theorem aa3{i L Q}:
 bI Z E5 Fc L Q 1000 187 [.ah (dq i),.ab [114,97]] an=(
 (al [] 0=an/\True)/\aq (!qo (et.mk i.op i.r i.a i.n i.eZ i.ar)) (Q .aJ an) ((jJ i.r=jJ i.r/\1=1)/\aq (!decide (i.a∈[i.r])) (Q (.ai 0 2 1) (al [(0,.aj [J i.r,J i.a] 3)] 1)) (Q (.ai 0 1 1) (jJ i.r)))):=by kernel_rfl
theorem akX{i L Q}:
 bI Z E5 Fc L Q 1000 187 [.ah (dq i),.ab [112]] an=(
 (al [] 0=an/\True)/\aq (!qo (et.mk i.op i.r i.a i.n i.eZ i.ar)) (Q .aJ an) (L (aB [(2,.aa 0 0),(4,.aJ),(12,.aa 1 0),(39,J i.ar),(40,J 0)]) (al [(0,wR i),(1,bk.tp [112] (0+1))] 2) (aw Z 187 1))):=by kernel_rfl
abbrev SR x0 x1 x2:=aB [(2,.aa 0 0),(4,.ai 1 x0 1),(12,.aa 2 0),(39,J x1),(40,J x2)]
theorem axt{i l n k L Q}:
 ck Z E5 Fc L Q 1000 187 0 (SR l.length n k) (aw Z 187 1) (Qc i l)=(
 aq (decide (k<n)) (((aX l).length=l.length*1/\l.length+1<=4194304/\true=true/\true=true)/\L (SR (l.length+1) n (wI (k+1))) (al [(0,wR i),(1,.ay (aX l++[J (wI (k+1))]) 3),(2,bk.tp [112] 1)] 3) (aw Z 187 1)) (Q (.ai 0 l.length 1) (dz l))):=by kernel_rfl
theorem atp{n}{k:Nat}(h:k=n.toNat):q_ (n+1)=q_ n++[(k:Int)+1]\/n<0:=by
 rcases Int.lt_or_le n 0 with h1|h1
 .exact .inr h1
 .refine .inl ?_;unfold q_;have:(n+1).toNat=n.toNat+1:=by omega
  rw[this,List.range_succ,qF,h];rfl
theorem ah1(n):(q_ n).length=n.toNat:=by simp[q_]
theorem adQ{i}(h:qo i=true):0<=i.ar/\i.ar<=4096:=by
 unfold qo at h;by_cases h0:i.op=1\/i.op=2\/i.op=11\/i.op=12
 .rw[aO h0]at h;simp at h;omega
 rw[az h0]at h;by_cases h1:i.op=3\/i.op=13
 .rw[aO h1]at h;simp at h;omega
 rw[az h1]at h;by_cases h2:i.op=4\/i.op=14
 .rw[aO h2]at h;simp at h;omega
 rw[az h2]at h;by_cases h3:i.op=5
 .rw[aO h3]at h;simp only[dk,SM,Cx]at h;omega
 rw[az h3]at h;by_cases h4:i.op=15
 .rw[aO h4]at h;simp only[dk,SM,Cx]at h;omega
 rw[az h4]at h;by_cases h5:i.op=6\/i.op=7\/i.op=22\/i.op=23\/i.op=24
 .rw[aO h5]at h;simp at h;omega
 rw[az h5]at h;by_cases h6:i.op=8
 .rw[aO h6]at h;simp at h;omega
 rw[az h6]at h;by_cases h7:i.op=9
 .rw[aO h7]at h;simp at h;omega
 rw[az h7]at h;by_cases h8:i.op=10
 .rw[aO h8]at h;simp at h;omega
 rw[az h8]at h;by_cases h9:i.op=16\/i.op=17
 .rw[aO h9]at h;simp at h;omega
 rw[az h9]at h;by_cases BA:i.op=19\/i.op=20
 .rw[aO BA]at h;simp only[dk,ahL,pd]at h;have⟨h,_⟩:=h;by_cases hn:i.n=0
  .rw[aO hn]at h;simp at h;omega
  .rw[az hn]at h;simp at h;omega
 rw[az BA]at h;by_cases sJ:i.op=18\/i.op=21\/i.op=25
 .rw[aO sJ]at h;simp at h;omega
 rw[az sJ]at h;cases h
theorem afE{P f args}(h:bZ P f args an .aJ an):bZ P f args an (.ai 0 0 1) (dz []):=
 Py h rfl (cM _)
theorem Px{P f args l n}(h:bZ P f args an (.ai 0 n 1) (al [(0,.aj (aX l) 3)] 1)):bZ P f args an (.ai 0 n 1) (dz l):=
 G' (g:=0) h rfl (λφ e o h=>rQ (M7 _).2 h) rfl (by show(0:Nat)<=1;omega)
theorem axu{i}(h0:0<=i.ar)(h1:i.ar<=4096):∀k:Nat,((k:Int)<=i.ar)->
 br Z 187 50 0 (.ai 0 (q_ i.ar).length 1) (dz (q_ i.ar)) (SR (q_ k).length i.ar (k:Int)) (Qc i (q_ k)) (aw Z 187 1):=by
 refine dS (λk=>i.ar.toNat-k) _ _ _ _ ?_;rintro k hk ih;refine hE zm axt ?_;refine aD.2 ⟨λax=>?_,λbu=>?_⟩
 .have ax:(k:Int)<i.ar:=by simpa using ax
  have e:wI ((k:Int)+1)=((k+1:Nat):Int):=by rw[cO (by omega) (by omega)];simp
  have hi:q_ ((k:Int)+1)=q_ k++[(k:Int)+1]:=(atp (by omega)).resolve_right (by omega);have QD:q_ ((k+1:Nat):Int)=q_ k++[(k:Int)+1]:=by rw[<-hi];simp
  have bS:=ah1 (k:Int);refine⟨⟨by rw[AB];omega,by omega,rfl,rfl⟩,?_⟩;have next:=ih (k+1) (by simp;omega) (by omega)
  rw[QD,cI]at next
  simp only[Qc,bK,M6]at next
  rw[e];have e3:wI ((k:Int)+1)=(k:Int)+1:=by rw[cO (by omega) (by omega)]
  exact next
 .have bu:i.ar<=k:=by simpa using bu
  have:i.ar=k:=by omega
  rw[this];exact⟨rfl,rfl⟩
def avB:List (Nat×Nat):=[(0,0),(2,1),(1,2)]
theorem am9:aU Z E6:=by
 refine cA zm ?_;rintro⟨i,fs⟩ args H ⟨rfl,rfl,hf⟩;have hf:=hf;simp only[aaO];cases hF:qo i with
 |false=>
  have hr:k8 i fs=[]:=by simp[k8,hF]
  rw[hr];have yp:=hF;refine afE ?_;refine eS zm 1000 Fc 50 (by kernel_rfl) ?_;rcases hf with rfl|rfl|rfl|rfl|rfl
  .rw[akV];exact⟨⟨rfl,trivial⟩,aD.2 ⟨λ_=>⟨rfl,rfl⟩,λ_=>⟨rfl,rfl⟩⟩⟩
  .rw[akW];exact⟨⟨rfl,trivial⟩,aD.2 ⟨λ_=>⟨rfl,rfl⟩,λh=>by rw[yp]at h;cases h⟩⟩
  .rw[akY];exact⟨⟨rfl,trivial⟩,aD.2 ⟨λ_=>⟨rfl,rfl⟩,λh=>by rw[yp]at h;cases h⟩⟩
  .rw[aa3];exact⟨⟨rfl,trivial⟩,aD.2 ⟨λ_=>⟨rfl,rfl⟩,λh=>by rw[yp]at h;cases h⟩⟩
  .rw[akX];exact⟨⟨rfl,trivial⟩,aD.2 ⟨λ_=>⟨rfl,rfl⟩,λh=>by rw[yp]at h;cases h⟩⟩
 |true=>
  have yp:=hF;rcases hf with rfl|rfl|rfl|rfl|rfl
  .have hr:k8 i []=[]:=by simp[k8]
   rw[hr];refine afE ?_;refine eE 50 zm akV ?_;exact⟨⟨rfl,trivial⟩,aD.2 ⟨λ_=>⟨rfl,rfl⟩,λ_=>⟨rfl,rfl⟩⟩⟩
  .have hr:k8 i [97]=[i.a]:=by simp[k8,hF,xr]
   rw[hr];refine Px ?_;refine eE 50 zm akW ?_;exact⟨⟨rfl,trivial⟩,aD.2 ⟨λh=>(by rw[yp]at h;cases h),λ_=>⟨rfl,rfl,rfl⟩⟩⟩
  .have hr:k8 i [114]=[i.r]:=by simp[k8,hF,xr]
   rw[hr];refine Px ?_;refine eE 50 zm akY ?_;exact⟨⟨rfl,trivial⟩,aD.2 ⟨λh=>(by rw[yp]at h;cases h),λ_=>⟨rfl,rfl⟩⟩⟩
  .by_cases ha:i.a=i.r
   .have hr:k8 i [114,97]=[i.r]:=by simp[k8,hF,xr,ha]
    rw[hr];refine Px ?_;refine eE 50 zm aa3 ?_;exact⟨⟨rfl,trivial⟩,aD.2 ⟨λh=>(by rw[yp]at h;cases h),λ_=>⟨⟨rfl,rfl⟩,aD.2 ⟨λh=>(by simp[ha]at h),λ_=>⟨rfl,rfl⟩⟩⟩⟩⟩
   .have hr:k8 i [114,97]=[i.r,i.a]:=by simp[k8,hF,xr,ha]
    rw[hr];refine Px ?_;refine eE 50 zm aa3 ?_;exact⟨⟨rfl,trivial⟩,aD.2 ⟨λh=>(by rw[yp]at h;cases h),λ_=>⟨⟨rfl,rfl⟩,aD.2 ⟨λ_=>⟨rfl,rfl⟩,λh=>(by simp[ha]at h)⟩⟩⟩⟩
  .have hr:k8 i [112]=q_ i.ar:=by simp[k8,hF,xr]
   rw[hr];have hb:=adQ hF;refine eE 50 zm akX ?_;refine⟨⟨rfl,trivial⟩,aD.2 ⟨λh=>(by rw[yp]at h;cases h),λ_=>?_⟩⟩;refine HO 1 3 [4] ?_ rfl (by kernel_rfl);refine cb.sm (by kernel_rfl) (oh:=[0,2,1]) (l:=[2,4,12,39,40]) (ps:=avB) (H2:=Qc i []) (t:=SR 0 i.ar 0) (by kernel_rfl) (by kernel_rfl) ?_;exact axu hb.1 hb.2 0 (by simpa using hb.1)
abbrev E7:Ev.bo:=E6
def ek(i:et):LI:=k8 i (pY i.op).1.2.2.2.1
def ec(i:et):LI:=k8 i (pY i.op).1.2.2.2.2
def rdX:cx et where
 bn i A H:=A=[.ah (dq i)]/\H=an
 v i:=.ai 0 (ek i).length 1
 aK i:=dz (ek i)
def wrX:cx et where
 bn i A H:=A=[.ah (dq i)]/\H=an
 v i:=.ai 0 (ec i).length 1
 aK i:=dz (ec i)
theorem adH{i i'}{A:LV}(h1:A=[.ah (dq i)])(h2:A=[.ah (dq i')]):i=i':=by rw[h1]at h2;simp at h2;exact GV h2
theorem avW:rdX.cr:=by rintro i i' A H ⟨h1,_⟩ ⟨h2,_⟩;rw[adH h1 h2]
theorem aDz:wrX.cr:=by rintro i i' A H ⟨h1,_⟩ ⟨h2,_⟩;rw[adH h1 h2]
def E8:Ev.bo:=bR 174 (ca rdX avW cD) E7
def E9:Ev.bo:=bR 175 (ca wrX aDz cD) E8
abbrev E10:Ev.bo:=E9
abbrev Gb:Ev.bo:=E10
theorem aw9{i L Q}:
 bI Z E7 (λ_=>[]) L Q 1000 174 [.ah (dq i)] an=(
 ∃w:Int×qM×Bool,(([J i.op]:LV)=[J w.1]/\al [] 0=an/\pY w.1=w.2)/\(∃ae:et×LN,(([.ah (dq i),.ab w.2.1.2.2.2.1]:LV)=[.ah (dq ae.1),.ab ae.2]/\al [] 0=an/\zR ae.2)/\Q (.ai 0 (k8 ae.1 ae.2).length 1) (dz (k8 ae.1 ae.2)))):=by kernel_rfl
theorem axa{i L Q}:
 bI Z E8 (λ_=>[]) L Q 1000 175 [.ah (dq i)] an=(
 ∃w:Int×qM×Bool,(([J i.op]:LV)=[J w.1]/\al [] 0=an/\pY w.1=w.2)/\(∃ae:et×LN,(([.ah (dq i),.ab w.2.1.2.2.2.2]:LV)=[.ah (dq ae.1),.ab ae.2]/\al [] 0=an/\zR ae.2)/\Q (.ai 0 (k8 ae.1 ae.2).length 1) (dz (k8 ae.1 ae.2)))):=by kernel_rfl
theorem acw:aU Z E7:=am9
theorem awj:∀r∈CQ,zR r.2.2.2.1/\zR r.2.2.2.2:=by intro r hr;simp only[CQ,dm,List.mem_nil_iff,or_false]at hr;rcases hr with rfl|rfl|rfl|rfl|rfl|rfl|rfl|rfl|rfl|rfl|rfl|rfl|rfl|rfl|rfl|rfl|rfl|rfl|rfl|rfl|rfl|rfl|rfl|rfl|rfl<;>simp[zR]
theorem Jd(k):zR (pY k).1.2.2.2.1/\zR (pY k).1.2.2.2.2:=by
 unfold pY;cases hs:xC k with
 |none=>exact⟨.inl rfl,.inl rfl⟩
 |some r=>exact awj r (abb hs)
theorem acx:aU Z E8:=by refine cA acw ?_;rintro i args H ⟨rfl,rfl⟩;refine eE 15 acw aw9 ?_;exact⟨(i.op,pY i.op),⟨rfl,rfl,rfl⟩,(i,(pY i.op).1.2.2.2.1),⟨rfl,rfl,(Jd _).1⟩,rfl,rfl⟩
theorem ana:aU Z E9:=by refine cA acx ?_;rintro i args H ⟨rfl,rfl⟩;refine eE 15 acx axa ?_;exact⟨(i.op,pY i.op),⟨rfl,rfl,rfl⟩,(i,(pY i.op).1.2.2.2.2),⟨rfl,rfl,(Jd _).2⟩,rfl,rfl⟩
theorem am5:aU Z E10:=ana
theorem JI:aU Z Gb:=am5
def De(l:LI)(wr:List (Int×Bool)):List (Int×Bool):=l.foldl (λm r=>up r true m) wr
def eV(wr:List (Int×Bool))(r:Int):Bool:=(lk r wr).getD false
def wq(base:Int)(wr:List (Int×Bool))(r:Int):Bool:=decide (r>base)&& !eV wr r
def C_(base:Int):List (Int×Bool)->gL->Bool
 |_,[]=>true
 |wr,i::l=>if qo i=false\/((i.op=19\/i.op=20)/\i.ar>base)then false
   else if(ek i).any (wq base wr)then false else C_ base (De (ec i) wr) l
def tv(l:gL)(base:Int):Bool:=if base<0\/base>4096\/l.length>131072 then false else C_ base [] l
structure mS where
 cs:LV
 mR:Nat
 l:gL
def mS.ok(p:mS):Prop:=(p.cs.drop p.mR).take (p.l.length*6)=cJ p.l/\p.l.length<1200000
abbrev sM x0:=al [(0,.ay x0 56)] 1
def my(p:mS):AH:=sM p.cs
theorem avq{p p':mS}(h:p.ok)(h':p'.ok)(h1:p.cs=p'.cs)(h2:p.mR=p'.mR)(h3:p.l.length=p'.l.length):p=p':=by have⟨cs,off,l⟩:=p;have⟨cs',aEW,l'⟩:=p';subst h1 h2;have e:=h.1;have e':=h'.1;simp only at e e';rw[h3,e']at e;rw[GX e]
def abH:cx (mS×Int)where
 bn w A H:=A=[.bq 0 w.1.mR w.1.l.length 0 6 false,J w.2]/\H=my w.1/\w.1.ok
 v w:=.ao (tv w.1.l w.2)
 aK w:=my w.1
theorem arV{p p'}(h:my p=my p'):p.cs=p'.cs:=by have:=congrArg (λH=>AH.bf H 0) h;exact(bk.ay.inj (dw this)).1
theorem RY{w w':mS×Int}{A H}(h1:A=[.bq 0 w.1.mR w.1.l.length 0 6 false,J w.2])(h2:H=my w.1)(h3:w.1.ok)(k1:A=[.bq 0 w'.1.mR w'.1.l.length 0 6 false,J w'.2])(k2:H=my w'.1)(k3:w'.1.ok):w=w':=by have⟨p,b⟩:=w;have⟨p',b'⟩:=w';rw[h1]at k1;rw[h2]at k2;simp at k1;have e:=avq h3 k3 (arV k2) k1.1.1 k1.1.2;simp only at e;rw[e,k1.2]
theorem aC0:abH.cr:=by rintro w w' A H ⟨h1,h2,h3⟩ ⟨k1,k2,k3⟩;rw[RY h1 h2 h3 k1 k2 k3]
def E12:Ev.bo:=bR 164 (ca abH aC0 cD) Gb
def Mc:Nat->LN:=fT [(5,[1,5,24,25,26]),(10,[1,5,7,24,25,26,50,51,52]),(16,[1,5,24,25,26,67,68,69])]
def vE(wr:List (Int×Bool)):bk:=.bm (bJ vB 0 wr) wr.length true
abbrev Ji x0 x1 x2 x3 x4:=aB [(1,J x0),(5,.aA 1),(24,.bq 0 x1 x2 0 6 x3),(25,J (aE x2)),(26,J x4)]
theorem awz{cs off len base L Q}:
 bI Z Gb Mc L Q 1000 164 [.bq 0 off len 0 6 false,J base] (sM cs)=(
 aq (decide (base<0)) (Q (.ao false) (sM cs)) (aq (decide (base>4096)) (Q (.ao false) (sM cs)) (aq (decide (aE len>131072)) (Q (.ao false) (sM cs)) (L (Ji base off len false 0) (al [(0,.ay cs 56),(1,.bm [] 0 true)] 2) (aw Z 164 0))))):=by kernel_rfl
abbrev CY x0 x1 x2 x3 x4 x5 x6:=aB [(1,J x0),(5,.aA 1),(7,.aa 2 0),(24,.bq 0 x1 x2 0 6 x3),(25,J (aE x2)),(26,J x4),(50,.ai 3 x5 1),(51,J (aE x5)),(52,J x6)]
theorem awA{cs off len base i wr L Q}:
 ck Z Gb Mc L Q 1000 164 1 (Ji base off len false i) (aw Z 164 0) (al [(0,.ay cs 56),(1,vE wr)] 2)=(
 aq (decide (i<aE len)) (∃aL:Nat,i=(aL:Int)/\aL<len/\(∃n aP bA cf s dc,cw Z 56 cs (off+aL*6)=some (.ah [J n,J aP,J bA,J cf,.ab s,J dc]:AV)/\(al [] 0=an/\True)/\aq (!qo (et.mk n aP bA cf s dc)) (Q (.ao false) (sM cs)) (aq (n==19) (aq (decide (dc>base)) (Q (.ao false) (sM cs)) (∃w,(([.ah [J n,J aP,J bA,J cf,.ab s,J dc]]:LV)=[.ah (dq w)]/\al [] 0=an)/\L (CY base off len false i (ek w).length 0) (al [(0,.ay cs 56),(1,vE wr),(2,.aj [J n,J aP,J bA,J cf,.ab s,J dc] 56),(3,bK (ek w) 3)] 4) (aw Z 164 1))) (aq (n==20) (aq (decide (dc>base)) (Q (.ao false) (sM cs)) (∃w,(([.ah [J n,J aP,J bA,J cf,.ab s,J dc]]:LV)=[.ah (dq w)]/\al [] 0=an)/\L (CY base off len false i (ek w).length 0) (al [(0,.ay cs 56),(1,vE wr),(2,.aj [J n,J aP,J bA,J cf,.ab s,J dc] 56),(3,bK (ek w) 3)] 4) (aw Z 164 1))) (∃w,(([.ah [J n,J aP,J bA,J cf,.ab s,J dc]]:LV)=[.ah (dq w)]/\al [] 0=an)/\L (CY base off len false i (ek w).length 0) (al [(0,.ay cs 56),(1,vE wr),(2,.aj [J n,J aP,J bA,J cf,.ab s,J dc] 56),(3,bK (ek w) 3)] 4) (aw Z 164 1)))))) (Q (.ao true) (sM cs))):=by kernel_rfl
abbrev SS x0 x1 x2 x3 x4 x5 x6:=aB [(1,J x0),(5,.aA 1),(24,.bq 0 x1 x2 0 6 x3),(25,J (aE x2)),(26,J x4),(67,.ai 2 x5 1),(68,J (aE x5)),(69,J x6)]
abbrev Lf x0 x1 x2 x3:=al [(0,.ay x0 56),(1,vE x1),(2,wR x2),(3,bK x3 3)] 4
theorem awB{cs off len base i k wr x rs L Q}:
 ck Z Gb Mc L Q 1000 164 1 (CY base off len false i rs.length k) (aw Z 164 1) (Lf cs wr x rs)=(
 aq (decide (k<aE rs.length)) (∃aL:Nat,k=(aL:Int)/\aL<rs.length/\(∃n,cw Z 3 (aX rs) (aL*1)=some (J n:AV)/\aq (decide (n>base)) (∃b iE,eT Z 3 4 (bJ vB 0 wr) (J n)=some (.ao b,iE)/\aq (!b) (Q (.ao false) (sM cs)) (L (CY base off len false i rs.length (wI (k+1))) (Lf cs wr x rs) (aw Z 164 1))) (L (CY base off len false i rs.length (wI (k+1))) (Lf cs wr x rs) (aw Z 164 1)))) (∃w,(([.ah (dq x)]:LV)=[.ah (dq w)]/\al [] 0=an)/\L (SS base off len false i (ec w).length 0) (al [(0,.ay cs 56),(1,vE wr),(2,bK (ec w) 3)] 3) (aw Z 164 2))):=by kernel_rfl
theorem awD{cs off len base i k wr ws L Q}:
 ck Z Gb Mc L Q 1000 164 1 (SS base off len false i ws.length k) (aw Z 164 2) (al [(0,.ay cs 56),(1,vE wr),(2,bK ws 3)] 3)=(
 aq (decide (k<aE ws.length)) (∃aL:Nat,k=(aL:Int)/\aL<ws.length/\(∃n,cw Z 3 (aX ws) (aL*1)=some (J n:AV)/\(∃bF c',jX Z 3 (bJ vB 0 wr) wr.length (J n) (.ao true)=some (bF,c')/\L (SS base off len false i ws.length (wI (k+1))) (al [(0,.ay cs 56),(1,.bm bF c' true),(2,bK ws 3)] 3) (aw Z 164 2)))) (L (Ji base off len false (wI (i+1))) (al [(0,.ay cs 56),(1,vE wr)] 2) (aw Z 164 0))):=by kernel_rfl
theorem aks{i fs}(h:zR fs):(k8 i fs).length<5000:=by
 unfold k8;split;next hF=>
  have hb:=adQ hF;have hl:=ah1 i.ar;rcases h with rfl|rfl|rfl|rfl|rfl<;>simp[xr]
  .split<;>simp
  .omega
 .simp
theorem aaL(i):(ek i).length<5000:=aks (Jd _).1
theorem abP(i):(ec i).length<5000:=aks (Jd _).2
theorem om{k n:Nat}(h:k<n)(hn:n<20000000):wI ((k:Int)+1)=((k+1:Nat):Int):=by rw[cO (by omega) (by omega)];simp
theorem auk(wr r):∃b iE,eT Z 3 4 (bJ vB 0 wr) (J r)=some (.ao b,iE)/\eV wr r=b:=by
 rw[o7 _ Hc];unfold eV;cases lk r wr with
 |none=>exact⟨false,false,by rw[abQ];rfl,rfl⟩
 |some b=>exact⟨b,true,rfl,rfl⟩
theorem avn(a b c d e f l):cw Z 56 (a::b::c::d::e::f::l) 0=some (.ah [a,b,c,d,e,f]):=by kernel_rfl
theorem avo(cs off):cw Z 56 cs off=cw Z 56 (cs.drop off) 0:=by kernel_rfl
theorem aCn{l i}(h:l.take 6=dq i):∃r,l=dq i++r:=⟨l.drop 6,by rw[<-h,xg]⟩
theorem mS.get{p:mS}(h:p.ok){i}(hi:i<p.l.length):cw Z 56 p.cs (p.mR+i*6)=some (.ah (dq p.l[i])):=by
 have h1:(p.cs.drop (p.mR+i*6)).take 6=dq p.l[i]:=by have h2:=afv hi;rw[<-h.1,yV,Az,xk]at h2;rwa[MU (by omega)]at h2
 have⟨r,hr⟩:=aCn h1;rw[avo,hr];exact avn _ _ _ _ _ _ _
section
variable{cs:LV}{off len:Nat}{base:Int}{aH:Bool}
theorem awE{i wr0 ws}(hw:ws.length<5000)(next:br Z 164 77 1 (.ao aH) (sM cs) (Ji base off len false (wI (i+1))) (al [(0,.ay cs 56),(1,vE (De ws wr0))] 2) (aw Z 164 0)):
 ∀p:Nat×List (Int×Bool),(p.1<=ws.length/\De (ws.drop p.1) p.2=De ws wr0)->
 br Z 164 77 1 (.ao aH) (sM cs) (SS base off len false i ws.length (p.1:Int)) (al [(0,.ay cs 56),(1,vE p.2),(2,bK ws 3)] 3) (aw Z 164 2):=by
 refine dS (λp=>ws.length-p.1) _ _ _ _ ?_;rintro⟨k,wr⟩ ⟨hk,hf⟩ ih;refine hE JI awD ?_;refine aD.2 ⟨λax=>?_,λbu=>?_⟩
 .have ax:k<ws.length:=by simpa using ax
  rw[fY ax]at hf;have hg:ws.getD k 0=ws[k]:=by simp[List.getD,ir ax]
  refine⟨k,rfl,ax,ws[k],by rw[n7 ax,hg],_,_,pk vB Hc,?_⟩;rw[om ax (by omega)];exact ih (k+1,up ws[k] true wr) ⟨by simp;omega,hf⟩ (by simp;omega)
 .have bu:ws.length<=k:=by simpa using bu
  rw[gQ bu]at hf;have hf:wr=De ws wr0:=hf;rw[hf];exact next
theorem awC{i wr x}(hb:(ek x).any (wq base wr)=true->aH=false)(next:(ek x).any (wq base wr)=false->br Z 164 77 1 (.ao aH) (sM cs) (Ji base off len false (wI (i+1))) (al [(0,.ay cs 56),(1,vE (De (ec x) wr))] 2) (aw Z 164 0)):
 ∀k,(k<=(ek x).length/\((ek x).drop k).any (wq base wr)=(ek x).any (wq base wr))->
 br Z 164 77 1 (.ao aH) (sM cs) (CY base off len false i (ek x).length (k:Int)) (Lf cs wr x (ek x)) (aw Z 164 1):=by
 have hrl:=aaL x;refine dS (λk=>(ek x).length-k) _ _ _ _ ?_;rintro k ⟨hk,hf⟩ ih;refine hE JI awB ?_;refine aD.2 ⟨λax=>?_,λbu=>?_⟩
 .have ax:k<(ek x).length:=by simpa using ax
  rw[fY ax,List.any_cons]at hf;have hg:(ek x).getD k 0=(ek x)[k]:=by simp[List.getD,ir ax]
  refine⟨k,rfl,ax,(ek x)[k],by rw[n7 ax,hg],?_⟩;rw[om ax (by omega)];have⟨b,b1,h1,h2⟩:=auk wr (ek x)[k];refine aD.2 ⟨λhr=>⟨b,b1,h1,aD.2 ⟨λh=>?_,λh=>?_⟩⟩,λhr=>?_⟩
  .have:wq base wr (ek x)[k]=true:=by simp at h hr;simp[wq,h2,hr,h]
   rw[this,Bool.true_or]at hf;rw[hb hf.symm];exact⟨rfl,rfl⟩
  .have:wq base wr (ek x)[k]=false:=by simp at h;simp[wq,h2,h]
   rw[this,Bool.false_or]at hf;exact ih (k+1) ⟨by omega,hf⟩ (by omega)
  .have:wq base wr (ek x)[k]=false:=by simp[wq,hr]
   rw[this,Bool.false_or]at hf;exact ih (k+1) ⟨by omega,hf⟩ (by omega)
 .have bu:(ek x).length<=k:=by simpa using bu
  rw[gQ bu]at hf;have hf:=hf.symm;refine⟨x,⟨rfl,rfl⟩,?_⟩;exact awE (abP x) (next hf) (0,wr) ⟨by simp,rfl⟩
end
theorem awy{p base aH}(hp:p.ok):
 ∀q:Nat×List (Int×Bool),(q.1<=p.l.length/\C_ base q.2 (p.l.drop q.1)=aH)->
 br Z 164 77 1 (.ao aH) (my p) (Ji base p.mR p.l.length false (q.1:Int)) (al [(0,.ay p.cs 56),(1,vE q.2)] 2) (aw Z 164 0):=by
 refine dS (λq=>p.l.length-q.1) _ _ _ _ ?_;rintro⟨i,wr⟩ ⟨hi,hf⟩ ih;have kP:=hp.2;refine hE JI awA ?_;refine aD.2 ⟨λax=>?_,λbu=>?_⟩
 .have ax:i<p.l.length:=by simpa using ax
  have bX:=p.get hp ax;rw[fY ax,C_]at hf;have next:C_ base (De (ec p.l[i]) wr) (p.l.drop (i+1))=aH->_:=λh=>ih (i+1,De (ec p.l[i]) wr) ⟨by simp;omega,h⟩ (by simp;omega)
  generalize p.l[i]=x at bX hf next
  have⟨o,r,a,n,s,ar⟩:=x;refine⟨i,rfl,ax,o,r,a,n,s,ar,bX,⟨rfl,trivial⟩,?_⟩;have rest:¬(qo ⟨o,r,a,n,s,ar⟩=false\/((o=19\/o=20)/\ar>base))->∃w:et,((([.ah [J o,J r,J a,J n,.ab s,J ar]]:LV)=[.ah [J w.op,J w.r,J w.a,J w.n,.ab w.eZ,J w.ar]])/\al [] 0=an)/\
   br Z 164 77 1 (.ao aH) (my p) (CY base p.mR p.l.length false (i:Int) (ek w).length 0) (Lf p.cs wr ⟨o,r,a,n,s,ar⟩ (ek w)) (aw Z 164 1):=by
   intro hn;rw[az hn]at hf;refine⟨⟨o,r,a,n,s,ar⟩,⟨rfl,rfl⟩,?_⟩;refine awC (λhb=>?_) (λhb=>?_) 0 ⟨by simp,by simp⟩
   .rw[aO hb]at hf;exact hf.symm
   .rw[az (by rw[hb];simp)]at hf;rw[om ax (by omega)];exact next hf
  refine aD.2 ⟨λh=>?_,λh=>?_⟩
  .rw[aO (.inl (by simpa using h))]at hf;subst hf;exact⟨rfl,rfl⟩
  have hF:¬qo ⟨o,r,a,n,s,ar⟩=false:=by simpa using h
  refine aD.2 ⟨λh1=>aD.2 ⟨λh2=>?_,λh2=>?_⟩,λh1=>aD.2 ⟨λh3=>aD.2 ⟨λh2=>?_,λh2=>?_⟩,λh3=>?_⟩⟩
  .rw[aO (.inr ⟨.inl (by simpa using h1),by simpa using h2⟩)]at hf;subst hf;exact⟨rfl,rfl⟩
  .exact rest (by rintro(h|⟨_,h⟩);exact hF h;simp at h2;omega)
  .rw[aO (.inr ⟨.inr (by simpa using h3),by simpa using h2⟩)]at hf;subst hf;exact⟨rfl,rfl⟩
  .exact rest (by rintro(h|⟨_,h⟩);exact hF h;simp at h2;omega)
  .exact rest (by rintro(h|⟨h|h,_⟩);exact hF h;simp at h1;exact h1 h;simp at h3;exact h3 h)
 .have bu:p.l.length<=i:=by simpa using bu
  rw[gQ bu]at hf;subst hf;exact⟨rfl,rfl⟩
theorem am6:aU Z E12:=by
 refine cA JI ?_;rintro⟨p,base⟩ args H ⟨rfl,rfl,hp⟩;have hp:=hp;refine eS JI 1000 Mc 77 (by kernel_rfl) ?_;simp only[abH,my];rw[awz];refine aD.2 ⟨λh=>?_,λh=>aD.2 ⟨λh2=>?_,λh2=>aD.2 ⟨λh4=>?_,λh3=>?_⟩⟩⟩
 .have:tv p.l base=false:=by simp at h;simp[tv,h]
  rw[this];exact⟨rfl,rfl⟩
 .have:tv p.l base=false:=by simp at h2;simp[tv,h2]
  rw[this];exact⟨rfl,rfl⟩
 .have:tv p.l base=false:=by have h4:(p.l.length:Int)>131072:=dQ h4;unfold tv;rw[aO (by omega)]
  rw[this];exact⟨rfl,rfl⟩
 .have:tv p.l base=C_ base [] p.l:=by have h3:¬(p.l.length:Int)>131072:=ez (by simpa using h3);simp at h h2;unfold tv;rw[az (by omega)]
  rw[this];exact awy hp (0,[]) ⟨by simp,rfl⟩
abbrev TZ:Ev.bo:=E12
section
variable{p:mS}{base:Int}{aH:Bool}{i:Nat}
end
theorem acv:aU Z TZ:=am6
def fR(l:LI):AH:=al [(0,.aj [.ai 1 l.length 1] 247),(1,bK l 3)] 2
def RH(l:LI):AH:=al [(0,.aj [.ai 2 l.length 1] 247),(1,.bc []),(2,bK l 3)] 3
theorem HA{l m}(h:fR l=fR m):l=m:=by have:=congrArg (λH=>AH.bf H 1) h;exact AD (dw this)
def oL(l:LI)(i j:Nat):LI:=(l.set i (l.getD j 0)).set j (l.getD i 0)
def air:cx LI where
 bn l A H:=A=[.ai 0 l.length 1]/\H=dz l
 v l:=J (aE l.length)
 aK l:=dz l
def aiw:cx (LI×Nat×Nat)where
 bn w A H:=A=[.ai 0 w.1.length 1,J (w.2.1:Int),J (w.2.2:Int)]/\H=dz w.1/\w.2.1<w.1.length/\w.2.2<w.1.length
 v w:=.ao (decide (w.1.getD w.2.1 0<w.1.getD w.2.2 0))
 aK w:=dz w.1
def al2:cx (LI×Nat×Nat)where
 bn w A H:=A=[.ai 0 w.1.length 1,J (w.2.1:Int),J (w.2.2:Int)]/\H=dz w.1/\w.2.1<w.1.length/\w.2.2<w.1.length
 v w:=.aC []
 aK w:=dz (oL w.1 w.2.1 w.2.2)
def aaz:cx (LI×Int)where
 bn w A H:=A=[.aa 0 0,.dT 3 (J w.2)]/\H=fR w.1/\w.1.length<1200000
 v w:=.aC []
 aK w:=RH (w.1++[w.2])
def aj2:cx (LI×Int)where
 bn w A H:=A=[.aa 0 0]/\H=fR (w.1++[w.2])/\w.1.length<1200000
 v w:=.dT 3 (J w.2)
 aK w:=fR w.1
theorem at4:air.cr:=by rintro l l' A H ⟨_,h⟩ ⟨_,h'⟩;rw[XD (h.symm.trans h')]
theorem ahT{w w':LI×Nat×Nat}{A H}(h1:A=[.ai 0 w.1.length 1,J (w.2.1:Int),J (w.2.2:Int)])(h2:H=dz w.1)(k1:A=[.ai 0 w'.1.length 1,J (w'.2.1:Int),J (w'.2.2:Int)])(k2:H=dz w'.1):w=w':=by
 have⟨l,i,j⟩:=w;have⟨l',i',j'⟩:=w';have e:=XD (h2.symm.trans k2);rw[h1]at k1;simp at k1 e;have e1:i=i':=by omega
 have e2:j=j':=by omega
 rw[e,e1,e2]
theorem at5:aiw.cr:=by rintro w w' A H ⟨h1,h2,_⟩ ⟨k1,k2,_⟩;rw[ahT h1 h2 k1 k2]
theorem aCg:al2.cr:=by rintro w w' A H ⟨h1,h2,_⟩ ⟨k1,k2,_⟩;rw[ahT h1 h2 k1 k2]
theorem avD:aaz.cr:=by rintro⟨l,x⟩ ⟨l',x'⟩ A H ⟨h1,h2,_⟩ ⟨k1,k2,_⟩;have e:=HA (h2.symm.trans k2);rw[h1]at k1;simp at k1 e;rw[e,k1]
theorem avw:aj2.cr:=by rintro⟨l,x⟩ ⟨l',x'⟩ A H ⟨h1,h2,_⟩ ⟨k1,k2,_⟩;have e:=HA (h2.symm.trans k2);have e2:=List.append_inj' e rfl;simp at e2;rw[e2.1,e2.2]
def G1:Ev.bo:=bR 180 (ca air at4 cD) TZ
def G2:Ev.bo:=bR 212 (ca aiw at5 cD) G1
def G3:Ev.bo:=bR 215 (ca al2 aCg cD) G2
def G4:Ev.bo:=bR 214 (ca aaz avD cD) G3
def G5:Ev.bo:=bR 213 (ca aj2 avw cD) G4
theorem axj{l L Q}:
 bI Z TZ (λ_=>[]) L Q 1000 180 [.ai 0 l.length 1] (dz l)=(
 Q (J (aE l.length)) (dz l)):=by kernel_rfl
theorem axP{l i j L Q}:
 bI Z G1 (λ_=>[]) L Q 1000 212 [.ai 0 l.length 1,J i,J j] (dz l)=(
 ∃aL:Nat,i=(aL:Int)/\aL<l.length/\(∃n,cw Z 3 (aX l) (aL*1)=some (J n:AV)/\(∃cG:Nat,j=(cG:Int)/\cG<l.length/\(∃aP,cw Z 3 (aX l) (cG*1)=some (J aP:AV)/\Q (.ao (decide (n<aP))) (dz l))))):=by kernel_rfl
theorem axS{l i j L Q}:
 bI Z G2 (λ_=>[]) L Q 1000 215 [.ai 0 l.length 1,J i,J j] (dz l)=(
 ∃aL:Nat,j=(aL:Int)/\aL<l.length/\(∃n,cw Z 3 (aX l) (aL*1)=some (J n:AV)/\(∃cG:Nat,i=(cG:Int)/\cG<l.length/\(∃aP,cw Z 3 (aX l) (cG*1)=some (J aP:AV)/\(∃dO:Nat,i=(dO:Int)/\dO<l.length/\dO*1+1<=(aX l).length/\(∃f_:Nat,j=(f_:Int)/\f_<l.length/\f_*1+1<=(gg (aX l) (dO*1) [J n]).length/\Q (.aC []) (al [(0,.ay (gg (gg (aX l) (dO*1) [J n]) (f_*1) [J aP]) 3)] 1))))))):=by kernel_rfl
theorem axR{l x L Q}:
 bI Z G3 (λ_=>[]) L Q 1000 214 [.aa 0 0,.dT 3 (J x)] (fR l)=(
 ((aX l).length=l.length*1/\l.length+1<=4194304/\true=true/\true=true)/\Q (.aC []) (al [(0,.aj [.ai 2 (l.length+1) 1] 247),(1,.bc []),(2,.ay (aX l++[J x]) 3)] 3)):=by kernel_rfl
theorem axQ{l L Q}:
 bI Z G4 (λ_=>[]) L Q 1000 213 [.aa 0 0] (fR l)=(
 ∃i:Nat,wI (aE l.length-1)=(i:Int)/\i<l.length/\(∃n,cw Z 3 (aX l) (i*1)=some (J n:AV)/\1<=l.length/\(∃aL:Nat,wI (aE l.length-1)=(aL:Int)/\(0<=aL/\aL<=l.length)/\Q (.dT 3 (J n)) (al [(0,.aj [.ai 1 (aL-0) 1] 247),(1,bK l 3)] 2)))):=by kernel_rfl
theorem acA:aU Z G1:=by refine cA acv ?_;rintro l args H ⟨rfl,rfl⟩;refine eE 5 acv axj ?_;exact⟨rfl,rfl⟩
theorem acB:aU Z G2:=by refine cA acA ?_;rintro⟨l,i,j⟩ args H ⟨rfl,rfl,hi,hj⟩;refine eE 16 acA axP ?_;exact⟨i,rfl,hi,_,n7 hi,j,rfl,hj,_,n7 hj,rfl,rfl⟩
theorem acC:aU Z G3:=by
 refine cA acB ?_;rintro⟨l,i,j⟩ args H ⟨rfl,rfl,hi,hj⟩;have hi:i<l.length:=hi;have hj:j<l.length:=hj;refine eE 20 acB axS ?_;have e1:gg (aX l) (i*1) [J (l.getD j 0)]=aX (l.set i (l.getD j 0)):=by rw[oI];exact Sb _ hi
 have e2:gg (aX (l.set i (l.getD j 0))) (j*1) [J (l.getD i 0)]=aX (oL l i j):=by rw[oI];exact Sb _ (by simpa using hj)
 refine⟨j,rfl,hj,_,n7 hj,i,rfl,hi,_,n7 hi,i,rfl,hi,by show i*1+1<=(aX l).length;rw[AB];omega,j,rfl,hj,by rw[e1,AB,List.length_set];show j*1+1<=l.length;omega,rfl,?_⟩;rw[e1,e2];rfl
theorem acD:aU Z G4:=by refine cA acC ?_;rintro⟨l,x⟩ args H ⟨rfl,rfl,hl⟩;refine eE 20 acC axR ?_;refine⟨⟨by rw[AB];omega,by omega,rfl,rfl⟩,rfl,?_⟩;simp only[aaz,RH,bK,M6,cI];rfl
theorem Ub:aU Z G5:=by
 refine cA acD ?_;rintro⟨l,x⟩ args H ⟨rfl,rfl,hl⟩;have hl:l.length<1200000:=hl;simp;have bS:(l++[x]).length=l.length+1:=by simp
 have e:wI (aE (l++[x]).length-1)=((l.length:Nat):Int):=by
  rw[bS];have e0:aE (l.length+1)-1=(l.length:Int):=by simp
  rw[e0,cO (by omega) (by omega)]
 have hg:(l++[x]).getD l.length 0=x:=by simp[List.getD]
 have key:bZ Z 213 [.aa 0 0] (fR (l++[x])) (.dT 3 (J x)) (al [(0,.aj [.ai 1 l.length 1] 247),(1,.ay (aX (l++[x])) 3)] 2):=by refine eE 27 acD axQ ?_;exact⟨l.length,e,by omega,x,by rw[n7 (by omega),hg],by omega,l.length,e,⟨by omega,by omega⟩,rfl,rfl⟩
 have h2:=G' (g:=1) key rfl (λφ e o h=>by
  have h3:=adi (gO:=3) l.length h;have:(aX (l++[x])).take l.length=aX l:=by rw[M6,<-AB l,List.take_left]
  rw[this]at h3;exact h3) rfl (cM 2)
 exact h2
end
end Go.Cl
