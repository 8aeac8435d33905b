/- Part of a proof of ClauseCompiles. -/
import Derived.Test.YtanclcoobcaemaaGreatB6
set_option linter.all false
set_option linter.unusedSectionVars false
set_option maxRecDepth 100000
namespace Go.Ev
variable[Ro]
theorem Ss{P:Program}{f:FuncId}{args:LV}{H0 H H2:AH}{v v2:AV}{ps:List (Nat×Nat)}(h:eC P f args H0 v H)(hv:om H0.bW (xn v) H=some ⟨ps,H2⟩)(hr:eK (jS ps) v=some v2):eC P f args H0 v2 H2:=by
 intro φ w bs args' cs ha hw hl;obtain⟨bf,w',g1,g2,g3,g4⟩:=h φ w bs args' cs ha hw hl;obtain⟨tt,n,rfl,bq,lH,kj⟩:=JF hv;refine⟨nr ps bf,w',g1.rE bq lH,fun id dn=>?_,g3,?_⟩
 ·rw[←g2 id dn];simp[nr,kj id dn]
 ·obtain⟨jj,e',⟨v',rfl,k1⟩,k2⟩:=g4;exact⟨jj,_,⟨v',rfl,su (CA bq bf) hr k1⟩,k2⟩
theorem xx{m0 g n:Nat}{l l':List (Nat×bc)}{vs eT:LV}{el t:TypeId}(hg:dL l g=some (.ay vs el))(hl:∀id,dL l' id=if id=g then some (.ay eT el)else dL l id)(hn:dL l n=none)(hr:∀φ x,bm φ vs x->bm φ eT x)(bH:eT.length=vs.length∧eT.all AV.ec=vs.all AV.ec):
 pX m0 (aq l n) (aq (l'++[(n,.aL [] t)]) (n+1)) (fun φ bf=>bf=φ):=by
 have BU:g≠n:=by rintro rfl;rw[hg]at hn;cases hn
 have Ue:dL l' n=none:=by rw[hl,az (Ne.symm BU)];exact hn
 have h1:=FB (m0:=m0) (n:=n) (l:=l') (.aL [] t) Ue;refine⟨Nat.le_succ n,fun φ bs w de hw=>?_⟩;have tc:WR φ bs (aq l' n) w:=by
  refine⟨?_,?_,hw.lt,?_,hw.ro⟩
  ·intro id ob e k1 k2;rw[eA,hl]at k1;by_cases dn:id=g
   ·rw[aN dn]at k1;cases k1;obtain⟨o,q1,q2⟩:=hw.fP id _ e (by rw[eA,dn];exact hg) k2;refine⟨o,q1,?_⟩;obtain⟨cs,jB,rfl,a1,a2,a3,a4⟩:=q2;exact⟨cs,jB,rfl,a1,by rw[bH.1];exact a2,by rw[bH.1];exact hr _ _ a3,by rw[bH.2];exact a4⟩
   ·rw[az dn]at k1;exact hw.fP id ob e (by rw[eA];exact k1) k2
  ·have oN:∀{id ob},(aq l' n).bD id=some ob->ob.aE=true->∃gn,(aq l n).bD id=some gn∧gn.aE=true:=by
    intro id ob k1 k2;rw[eA,hl]at k1;by_cases dn:id=g
    ·exact⟨_,by rw[eA,dn];exact hg,rfl⟩
    ·rw[az dn]at k1;exact⟨ob,by rw[eA];exact k1,k2⟩
   intro id jH ob cp e e' k1 l1 k2 k3 l2 k4 hb;obtain⟨o1,q1,q2⟩:=oN k1 l1;obtain⟨o2,q3,q4⟩:=oN k3 l2;exact hw.lW id jH o1 o2 e e' q1 q2 k2 q3 q4 k4 hb
  ·intro id ob k1;rw[eA,hl]at k1;by_cases dn:id=g
   ·rw[dn];exact hw.nx g (.ay vs el) (by rw[eA];exact hg)
   ·rw[az dn]at k1;exact hw.nx id ob (by rw[eA];exact k1)
 exact h1.2 φ bs w de tc
end Go.Ev
set_option maxRecDepth 100000
namespace Go.Cl
open Go.Ev Go.Proofs
variable[Ro]
def Iy(sp:List (Int×dE))(v:Int):dE:=(lk v sp).getD ⟨0,0,0⟩
def oY(sp:List (Int×dE))(v:Int):Bool:=decide ((Iy sp v).tI<(Iy sp v).tJ)
def xr(sp:List (Int×dE))(c:Int):LI->Nat
 |[]=>0
 |v::l=>if kS sp v>c then xr sp c l+1 else 0
def mO:Nat->c7->LI
 |_,[]=>[]
 |c,g::gs=>(c:Int)::mO (if g.cQ=1 then c+1 else c) gs
def uw(sp:List (Int×dE))(aC:LI):Nat->c7->LI
 |_,[]=>[]
 |c,g::gs=>(if g.cQ=1 then(xr sp c aC:Int)else 0)::uw sp aC (if g.cQ=1 then c+1 else c) gs
def gN(f:a9):dM:=yP f ([],[])
def fo(f:a9):LI:=cC (kS (gN f).1) ((gN f).2.filter (oY (gN f).1))
def dp(f:a9):eu:=⟨mO 0 f.au,fo f,uw (gN f).1 (fo f) 0 f.au⟩
noncomputable def s6(c:eu):AH:=aq [(0,aD c.aR 3),(1,aD c.aC 2),(2,aD c.aE 3)] 3
noncomputable def chX:dP a9 where
 bN f A H:=A=[.aj (dj f)]∧H=ax∧fL f∧ei f=true∧bh f.aQ+eg f.au<20000
 v f:=.aO [.aj (DZ (dp f)),J 0]
 aU f:=s6 (dp f)
theorem aiM:chX.dT:=by rintro f f' A H ⟨h1,_⟩ ⟨k1,_⟩;rw[h1]at k1;simp only[List.cons.injEq,AV.aj.injEq,and_true]at k1;rw[sU _ _ k1]
noncomputable def Zf:Ev.bC:=cB 22 (cO chX aiM cV) A9
def xw:Nat->LN:=nk [(999999,[1,2,4,5,21]),(14,[1,2,4,49,50,51]),(22,[2,4,11,76,77,78]),(27,[2,4,11,14,76,77,78])]
noncomputable def Up(f:a9):AH:=aq [(0,cj f),(1,gC),(2,.ay [.aS 5] 101),(3,.ay [.ae 6 0 1] 58),(4,cj f),(5,gA []),(6,ql [])] 7
noncomputable def S6(f:a9)(st:dM)(aC:LI):AH:=aq [(0,cj f),(1,.ay [.ae 9 0 1,.ae 10 aC.length 1,.ae 11 0 1] 60),(2,.ay [.aS 5] 101),(3,.ay [.ae 8 st.2.length 1] 58),(4,cj f),(5,gA st.1),(6,.bJ []),(7,j5),(8,ql st.2),(9,.aL [] 3),(10,aD aC 2),(11,.aL [] 3)] 12
noncomputable def wX(f:a9)(st:dM)(aR aC aE:LI):AH:=aq [(0,cj f),(1,.ay [.ae 8 aR.length 1,.ae 9 aC.length 1,.ae 10 aE.length 1] 60),(2,.ay [.aS 5] 101),(3,.ay [.ae 11 st.2.length 1] 58),(4,cj f),(5,gA st.1),(6,.bJ []),(7,j5),(8,aD aR 3),(9,aD aC 2),(10,aD aE 3),(11,ql st.2)] 12
noncomputable abbrev Xy:=bk [(1,.ad 0 0),(2,.ad 1 0),(4,.ad 2 0),(5,.ad 3 0),(21,.b9 (.func 91) [] [.ad 4 0])]
theorem arQ(f:a9)(L:LT)(Q:QT):
 b_ Z A9 xw L Q 1000 22 [.aj (dj f)] ax=(
 (aq [] 0=ax∧Ab (dj f))∧ai (!m_ ei (dj f)) (Q (.aO [.aj [.bg,.bg,.bg],J 1]) ax) (∃w:a9,(([.aj (dj f)]:LV)=[.aj (dj w)]∧aq [] 0=ax)∧L (Xy) (aq [(0,cj f),(1,gC),(2,.ay [.aS 5] 101),(3,.ay [.bg] 58),(4,cj w),(5,.bM [] 0 true)] 6) (IY Z 22 0))):=by kernel_rfl
noncomputable abbrev Jw x0 x1:=bk [(1,.ad 0 0),(2,.ad 1 0),(4,.ad 2 0),(49,.ae 8 x0 1),(50,J (Int.ofNat x0)),(51,J x1)]
theorem arR(f:a9)(L:LT)(Q:QT):
 W_ Z A9 xw L Q 1000 22 (Xy) (IY Z 22 0) (Up f)=(
 ∃w:a9×dM,(([.gJ 0,.ad 1 0]:LV)=[.gJ 0,.ad 1 0]∧aq [(0,oF LoopState.ready [(1,.ad 3 0),(2,.ad 5 0),(4,.ad 6 0),(5,.ad 4 0),(21,.b9 (.func 91) [] [.ad 1 0])] 2),(1,cj f),(2,j5),(3,cj f),(4,.ay [.ae 7 0 1] 58),(5,gC),(6,.ay [.aS 8] 101),(7,.aL [] 2),(8,.bM [] 0 true)] 9=Ey w.1 w.2∧fL w.1∧w.2.2.length+bh w.1.aQ+eg w.1.au<60000)∧8<10∧L (Jw (yP w.1 w.2).2.length 0) (aq [(0,cj w.1),(1,gC),(2,.ay [.aS 5] 101),(3,.ay [.ae 8 (yP w.1 w.2).2.length 1] 58),(4,cj w.1),(5,gA (yP w.1 w.2).1),(6,.bJ []),(7,j5),(8,aD (yP w.1 w.2).2 2)] 9) (ao Z 22 0)):=by kernel_rfl
noncomputable abbrev AT x0 x1 x2 x3:=bk [(2,.ad 1 0),(4,.ad 2 0),(11,J x0),(76,.aB x1 x2 6),(77,J (Int.ofNat x2)),(78,J x3)]
theorem arK(f:a9)(st:dM)(aC:LI)(i:Int)(L:LT)(Q:QT):
 I7 Z A9 xw L Q 1000 22 8 7 (Jw st.2.length i) (ao Z 22 0) (S6 f st aC)=(
 ai (decide (i<Int.ofNat st.2.length)) (∃aI:Nat,i=(aI:Int)∧aI<st.2.length∧(∃n:Int,bA Z 2 (aW st.2) (aI*1)=some (J n:AV)∧(∃aP:Int,∃bp:Int,∃bI:Int,∃b:Bool,gf Z 2 108 (bK vS 0 st.1) (J n)=some (.aj [J aP,J bp,J bI],b)∧(∃cS:Int,∃ib:Int,∃jI:Int,∃iE:Bool,gf Z 2 108 (bK vS 0 st.1) (J n)=some (.aj [J cS,J ib,J jI],iE)∧ai (decide (bp<jI)) (((aW aC).length=aC.length*1∧aC.length+1<=65536∧true=true∧true=true)∧L (Jw st.2.length (wI (i+1))) (aq [(0,cj f),(1,.ay [.ae 9 0 1,.ae 10 (aC.length+1) 1,.ae 11 0 1] 60),(2,.ay [.aS 5] 101),(3,.ay [.ae 8 st.2.length 1] 58),(4,cj f),(5,gA st.1),(6,.bJ []),(7,j5),(8,aD st.2 2),(9,.aL [] 3),(10,.aL (aW aC++[J n]) 2),(11,.aL [] 3)] 12) (ao Z 22 0)) (L (Jw st.2.length (wI (i+1))) (aq [(0,cj f),(1,.ay [.ae 9 0 1,.ae 10 aC.length 1,.ae 11 0 1] 60),(2,.ay [.aS 5] 101),(3,.ay [.ae 8 st.2.length 1] 58),(4,cj f),(5,gA st.1),(6,.bJ []),(7,j5),(8,aD st.2 2),(9,.aL [] 3),(10,aD aC 2),(11,.aL [] 3)] 12) (ao Z 22 0)))))) (∃w:List (Int×dE)×LI,(([.ae 0 aC.length 1,.b9 (.func 56) [] [.ad 1 0]]:LV)=[.ae 0 w.2.length 1,.b9 (.func 56) [] [.ad 1 0]]∧aq [(0,aD aC 2),(1,.ay [.aS 2] 101),(2,gA st.1)] 3=hS w.1 w.2∧w.2.length<20000)∧L (AT 0 (ck f.au) f.au.length 0) (aq [(0,cj f),(1,.ay [.ae 8 0 1,.ae 9 aC.length 1,.ae 10 0 1] 60),(2,.ay [.aS 5] 101),(3,.ay [.ae 11 st.2.length 1] 58),(4,cj f),(5,gA w.1),(6,.bJ []),(7,j5),(8,.aL [] 3),(9,aD (cC (kS w.1) w.2) 2),(10,.aL [] 3),(11,aD st.2 2)] 12) (ao Z 22 1))):=by kernel_rfl
noncomputable abbrev OG x0 x1 x2 x3 x4:=bk [(2,.ad 1 0),(4,.ad 2 0),(11,J x0),(14,J x1),(76,.aB x2 x3 6),(77,J (Int.ofNat x3)),(78,J x4)]
theorem arM(f:a9)(st:dM)(aR aC aE:LI)(c i:Int)(gs:LV)(gl:Nat)(L:LT)(Q:QT):
 I7 Z A9 xw L Q 1000 22 8 7 (AT c gs gl i) (ao Z 22 1) (wX f st aR aC aE)=(
 ai (decide (i<Int.ofNat gl)) (∃aI:Nat,i=(aI:Int)∧aI<gl∧(∃n:Int,∃s:LN,∃aP:Int,∃bp:Int,∃cs:LV,∃len:Nat,∃bI:Int,((gs.drop (aI*6)).take 6:LV)=[J n,.aa s,J aP,J bp,.aB cs len 4,J bI]∧((aW aR).length=aR.length*1∧aR.length+1<=65536∧true=true∧true=true)∧ai (n==1) (L (OG c 0 gs gl i) (aq [(0,cj f),(1,.ay [.ae 8 (aR.length+1) 1,.ae 9 aC.length 1,.ae 10 aE.length 1] 60),(2,.ay [.aS 5] 101),(3,.ay [.ae 11 st.2.length 1] 58),(4,cj f),(5,gA st.1),(6,.bJ []),(7,j5),(8,.aL (aW aR++[J c]) 3),(9,aD aC 2),(10,aD aE 3),(11,aD st.2 2)] 12) (ao Z 22 2)) (((aW aE).length=aE.length*1∧aE.length+1<=65536∧true=true∧true=true)∧L (AT c gs gl (wI (i+1))) (aq [(0,cj f),(1,.ay [.ae 8 (aR.length+1) 1,.ae 9 aC.length 1,.ae 10 (aE.length+1) 1] 60),(2,.ay [.aS 5] 101),(3,.ay [.ae 11 st.2.length 1] 58),(4,cj f),(5,gA st.1),(6,.bJ []),(7,j5),(8,.aL (aW aR++[J c]) 3),(9,aD aC 2),(10,.aL (aW aE++[J 0]) 3),(11,aD st.2 2)] 12) (ao Z 22 1)))) (Q (.aO [.aj [.ae 8 aR.length 1,.ae 9 aC.length 1,.ae 10 aE.length 1],J 0]) (aq [(0,cj f),(1,.ay [.ae 8 aR.length 1,.ae 9 aC.length 1,.ae 10 aE.length 1] 60),(2,.ay [.aS 5] 101),(3,.ay [.ae 11 st.2.length 1] 58),(4,cj f),(5,gA st.1),(6,.bJ []),(7,.bJ []),(8,aD aR 3),(9,aD aC 2),(10,aD aE 3),(11,aD st.2 2)] 12))):=by kernel_rfl
theorem arO(f:a9)(st:dM)(aR aC aE:LI)(c i k:Int)(gs:LV)(gl:Nat)(L:LT)(Q:QT):
 I7 Z A9 xw L Q 1000 22 8 7 (OG c k gs gl i) (ao Z 22 2) (wX f st aR aC aE)=(
 ai (decide (k<Int.ofNat aC.length)) (∃aI:Nat,k=(aI:Int)∧aI<aC.length∧(∃n:Int,bA Z 2 (aW aC) (aI*1)=some (J n:AV)∧(∃aP:Int,∃bp:Int,∃bI:Int,∃b:Bool,gf Z 2 108 (bK vS 0 st.1) (J n)=some (.aj [J aP,J bp,J bI],b)∧ai (decide (bI>c)) (L (OG c (wI (k+1)) gs gl i) (aq [(0,cj f),(1,.ay [.ae 8 aR.length 1,.ae 9 aC.length 1,.ae 10 aE.length 1] 60),(2,.ay [.aS 5] 101),(3,.ay [.ae 11 st.2.length 1] 58),(4,cj f),(5,gA st.1),(6,.bJ []),(7,j5),(8,aD aR 3),(9,aD aC 2),(10,aD aE 3),(11,aD st.2 2)] 12) (ao Z 22 2)) (((aW aE).length=aE.length*1∧aE.length+1<=65536∧true=true∧true=true)∧L (AT (wI (c+1)) gs gl (wI (i+1))) (aq [(0,cj f),(1,.ay [.ae 8 aR.length 1,.ae 9 aC.length 1,.ae 10 (aE.length+1) 1] 60),(2,.ay [.aS 5] 101),(3,.ay [.ae 11 st.2.length 1] 58),(4,cj f),(5,gA st.1),(6,.bJ []),(7,j5),(8,aD aR 3),(9,aD aC 2),(10,.aL (aW aE++[J k]) 3),(11,aD st.2 2)] 12) (ao Z 22 1))))) (((aW aE).length=aE.length*1∧aE.length+1<=65536∧true=true∧true=true)∧L (AT (wI (c+1)) gs gl (wI (i+1))) (aq [(0,cj f),(1,.ay [.ae 8 aR.length 1,.ae 9 aC.length 1,.ae 10 (aE.length+1) 1] 60),(2,.ay [.aS 5] 101),(3,.ay [.ae 11 st.2.length 1] 58),(4,cj f),(5,gA st.1),(6,.bJ []),(7,j5),(8,aD aR 3),(9,aD aC 2),(10,.aL (aW aE++[J k]) 3),(11,aD st.2 2)] 12) (ao Z 22 1))):=by kernel_rfl
noncomputable def rb(f:a9)(st:dM)(c1:LV)(ext:List (Nat×bc)):List (Nat×bc):=[(0,cj f),(1,.ay c1 60),(2,.ay [.aS 5] 101),(3,.ay [.ae 8 st.2.length 1] 58),(4,cj f),(5,gA st.1),(6,.bJ []),(7,j5),(8,ql st.2)]++ext
noncomputable def zD(f:a9)(st:dM)(aR aC aE:LI):AH:=aq [(0,cj f),(1,.ay [.ae 8 aR.length 1,.ae 9 aC.length 1,.ae 10 aE.length 1] 60),(2,.ay [.aS 5] 101),(3,.ay [.ae 11 st.2.length 1] 58),(4,cj f),(5,gA st.1),(6,.bJ []),(7,.bJ []),(8,aD aR 3),(9,aD aC 2),(10,aD aE 3),(11,ql st.2)] 12
def CX(c:eu):AV:=.aO [.aj [.ae 8 c.aR.length 1,.ae 9 c.aC.length 1,.ae 10 c.aE.length 1],J 0]
theorem V0:∀(c:Nat) (gs:c7),(mO c gs).length=gs.length
 |c,[]=>rfl
 |c,g::gs=>by simp[mO,V0 _ gs]
section
variable{f:a9}{st:dM}{aw:eu}
theorem arP{aC aR aE:LI}{c i:Nat}{gs:LV}{gl:Nat}(hp:aC.length<20000)(hv:aE.length<60000)(hc:c<60000)(hi:i<60000){N:Nat}(hN:xr st.1 c aC=N)
 (next:mY [.nP 7] Z 22 120 8 (CX aw) (zD f st aw.aR aw.aC aw.aE) (AT ((c+1:Nat):Int) gs gl ((i+1:Nat):Int)) (wX f st aR aC (aE++[(N:Int)])) (ao Z 22 1)):
 ∀k:LI×LI,(k.1++k.2=aC∧k.1.length+xr st.1 c k.2=N)->
 mY [.nP 7] Z 22 120 8 (CX aw) (zD f st aw.aR aw.aC aw.aE) (OG (c:Int) (k.1.length:Int) gs gl (i:Int)) (wX f st aR aC aE) (ao Z 22 2):=by
 refine cX (fun k=>k.2.length) _ _ _ _ ?_;rintro⟨A,B⟩ ⟨h1,h2⟩ ih;simp only at h1 h2 ih⊢;subst h1;simp only[bj]at hp;have tc:wI ((c:Int)+1)=((c+1:Nat):Int):=fE (iz _) (by omega);have n5:wI ((i:Int)+1)=((i+1:Nat):Int):=fE (iz _) (by omega);have UN:wI ((A.length:Int)+1)=((A.length+1:Nat):Int):=fE (iz _) (by omega);have ud:(List.length (aW aE)=(List.length aE)*1)∧((List.length aE)+1<=65536)∧(true=true)∧true=true:=⟨by simp[pg],by omega,rfl,rfl⟩;have aU:A.length=N->mY [.nP 7] Z 22 120 8 (CX aw) (zD f st aw.aR aw.aC aw.aE) (AT ((c+1:Nat):Int) gs gl ((i+1:Nat):Int)) (wX f st aR (A++B) (aE++[(A.length:Int)])) (ao Z 22 1):=by intro e;rw[e];exact next
 simp only[wX,aD,yW,bj,bR,cI,fD]at aU;refine TK yN DB (n:=1000) (aE:=xw) (by decide) (by kernel_rfl) ?_;rw[arO,tc,n5,UN];refine cv (fun h=>?_) (fun h=>?_)
 ·have h:=dW h;cases B with
  |nil=>simp at h
  |cons v B=>
   obtain⟨a1,b1,c1,d1,e1,f1⟩:=Nb st.1 v;have hk:kS st.1 v=c1:=by rw[kS,f1]
   refine⟨A.length,rfl,by simp,v,qx rfl,a1,b1,c1,d1,e1,cv (fun hh=>?_) (fun hh=>⟨ud,?_⟩)⟩
   ·have hh:=dW hh;have:=ih (A++[v],B) ⟨by simp,by have h2:=h2;simp only[xr,hk,aN hh]at h2;simp only[bj,bR,cI];omega⟩ (by simp);simp only[bj,bR,cI,fD]at this;exact this
   ·have hh:=eJ hh;simp only[xr,hk,az hh]at h2;have:=aU (by omega);simp only[bj]at this⊢;exact this
 ·have h:=eJ h;cases B with
  |cons v B=>simp at h;omega
  |nil=>simp only[xr]at h2;have:=aU (by omega);refine⟨ud,?_⟩;simp only[bj]at this⊢;exact this
theorem arN{gs:c7}(hl:eQ gs.length)(ho:∀g∈gs,oK g)(hG:gs.length<20000)(hp:aw.aC.length<20000):
 ∀p:Nat×Nat×LI×LI,(p.1<=gs.length∧p.2.1<=p.1∧p.2.2.1.length=p.1∧p.2.2.2.length=p.1∧p.2.2.1++mO p.2.1 (gs.drop p.1)=aw.aR∧p.2.2.2++uw st.1 aw.aC p.2.1 (gs.drop p.1)=aw.aE)->
 mY [.nP 7] Z 22 120 8 (CX aw) (zD f st aw.aR aw.aC aw.aE) (AT (p.2.1:Int) (ck gs) gs.length (p.1:Int)) (wX f st p.2.2.1 aw.aC p.2.2.2) (ao Z 22 1):=by
 refine cX (fun p=>gs.length-p.1) _ _ _ _ ?_;rintro⟨i,c,aR,aE⟩ ⟨hi,hc,zV,km,h1,h2⟩ ih;simp only at hi hc zV km h1 h2 ih⊢;refine TK yN DB (n:=1000) (aE:=xw) (by decide) (by kernel_rfl) ?_;rw[arM];refine cv (fun an=>?_) (fun a8=>?_)
 ·have an:i<gs.length:=by have:=dW an;simpa using this
  obtain⟨k,nm,ar,aM,ls,v,he,bU,bq⟩:=o5 an ho;rw[dv an,he]at h1 h2;simp only[mO,uw]at h1 h2;refine⟨i,rfl,an,k,nm,ar,aM,_,_,v,bU,⟨by simp[pg],by omega,rfl,rfl⟩,cv (fun hk=>?_) (fun hk=>?_)⟩
  ·have hk:k=1:=by simpa using hk
   simp only[hk,if_true]at h1 h2;have nx:=ih (i+1,c+1,aR++[(c:Int)],aE++[(xr st.1 c aw.aC:Int)]) ⟨by simp only;omega,by simp only;omega,by simp[zV],by simp[km],by rw[←h1];simp,by rw[←h2];simp⟩ (by simp only;omega);have:=arP (f:=f) (st:=st) (aw:=aw) (aC:=aw.aC) (aR:=aR++[(c:Int)]) (aE:=aE) (c:=c) (i:=i) (gs:=ck gs) (gl:=gs.length) hp (by omega) (by omega) (by omega) rfl nx ([],aw.aC) ⟨rfl,by simp⟩;simp only[wX,aD,yW,bj,bR,cI,fD]at this;exact this
  ·have hk:¬k=1:=by simpa using hk
   simp only[hk,if_false]at h1 h2;have nx:=ih (i+1,c,aR++[(c:Int)],aE++[(0:Int)]) ⟨by simp only;omega,by simp only;omega,by simp[zV],by simp[km],by rw[←h1];simp,by rw[←h2];simp⟩ (by simp only;omega);simp only[wX,aD,yW,bj,bR,cI,fD]at nx;rw[iA hl an];exact⟨⟨by simp[pg],by omega,rfl,rfl⟩,nx⟩
 ·have a8:gs.length<=i:=by have:=eJ a8;simp at this;omega
  rw[dV a8]at h1 h2;simp only[mO,uw,gz]at h1 h2;subst h1 h2;exact⟨rfl,rfl⟩
theorem arL(hl:eQ f.au.length)(ho:∀g∈f.au,oK g)(hG:f.au.length<20000)(Fa:st.2.length<20000)(TN:aw.aC=cC (kS st.1) (st.2.filter (oY st.1)))(BT:aw.aR=mO 0 f.au)(jF:aw.aE=uw st.1 aw.aC 0 f.au):
 ∀k:LI×LI×LI,(k.1++k.2.1=st.2∧k.2.2=k.1.filter (oY st.1))->
 mY [.nP 7] Z 22 120 8 (CX aw) (zD f st aw.aR aw.aC aw.aE) (Jw st.2.length (k.1.length:Int)) (S6 f st k.2.2) (ao Z 22 0):=by
 refine cX (fun k=>k.2.1.length) _ _ _ _ ?_;rintro⟨A,B,aC⟩ ⟨h1,h2⟩ ih;simp only at h1 h2 ih⊢;have ja:A.length+B.length=st.2.length:=by rw[←h1];simp
 have jG:aC.length<=A.length:=by rw[h2];exact List.length_filter_le _ _
 refine TK yN DB (n:=1000) (aE:=xw) (by decide) (by kernel_rfl) ?_;rw[arK];refine cv (fun h=>?_) (fun h=>?_)
 ·have h:=dW h;cases B with
  |nil=>simp at ja;simp at h;omega
  |cons v B=>
   obtain⟨a1,b1,c1,d1,e1,f1⟩:=Nb st.1 v;have hw:wI ((A.length:Int)+1)=((A.length+1:Nat):Int):=fE (iz _) (by omega);refine⟨A.length,rfl,by simp only[bR]at ja;omega,v,by rw[←h1];exact qx rfl,a1,b1,c1,d1,e1,a1,b1,c1,d1,e1,?_⟩;rw[hw];have zO:oY st.1 v=decide (b1<c1):=by simp[oY,Iy,f1]
   refine cv (fun hh=>⟨⟨by simp[pg],by omega,rfl,rfl⟩,?_⟩) (fun hh=>?_)
   ·have:=ih (A++[v],B,aC++[v]) ⟨by rw[←h1];simp,by rw[h2,List.filter_append];simp only[List.filter_cons,List.filter_nil,zO,hh,if_true]⟩ (by simp);simp only[S6,aD,yW,bj,bR,cI,fD]at this;exact this
   ·have:=ih (A++[v],B,aC) ⟨by rw[←h1];simp,by rw[h2,List.filter_append];simp only[List.filter_cons,List.filter_nil,zO,hh];simp⟩ (by simp);simp only[bj,bR,cI,fD]at this;exact this
 ·have h:=eJ h;cases B with
  |cons v B=>simp at ja;simp at h;omega
  |nil=>simp only[gz]at h1;rw[h1]at h2;rw[←h2]at TN;have kD:(cC (kS st.1) aC).length=aC.length:=pk _ _;refine⟨(st.1,aC),⟨rfl,rfl,by simp only;omega⟩,?_⟩;have:=arN (f:=f) (st:=st) (aw:=aw) hl ho hG (by rw[TN,kD];omega) (0,0,[],[]) ⟨by simp,by simp,rfl,rfl,by simp[BT],by simp[←jF]⟩;rw[TN]at this⊢;simp only[wX,kD]at this;exact this
end
theorem avP(f:a9)(st:dM)(a b c:LI):om 0 [8,9,10] (zD f st a b c)=some ⟨[(8,0),(9,1),(10,2)],s6 ⟨a,b,c⟩⟩:=by kernel_rfl
theorem VX(f:a9)(st:dM):(yP f st).2.length<=st.2.length+bh f.aQ+eg f.au:=by
 have key:∀(gs:c7) (c:Nat) (st:dM),(xy c st gs).2.length<=st.2.length+eg gs:=by
  intro gs;induction gs with
  |nil=>intro c st;simp[xy]
  |cons g gs ih=>intro c st;have h1:=aeg c st g;have h2:=ih (if g.cQ=1 then c+1 else c) (vX c st g);simp only[xy,eg];omega
 have h1:=FE 0 st f.aQ;have h2:=key f.au 0 (iJ 0 st f.aQ);unfold yP;omega
theorem ahp:bn Z Zf:=by
 refine dc DB ?_;rintro f args H ⟨rfl,rfl,ho,hv,cW⟩;have hg:=Bt f.au;have Fa:(gN f).2.length<=bh f.aQ+eg f.au:=by have:=VX f ([],[]);simp only[cI,fD]at this;exact this
 have rj:eC Z 22 [.aj (dj f)] ax (CX (dp f)) (zD f (gN f) (dp f).aR (dp f).aC (dp f).aE):=by
  refine eS DB 1000 xw 120 (by kernel_rfl) ?_;rw[arQ];have hd:m_ ei (dj f)=true:=by rw[ye];exact hv
  refine⟨⟨rfl,⟨f,rfl,ho⟩⟩,cv (fun h=>(by have h:(!m_ ei (dj f))=true:=h;rw[hd]at h;cases h)) (fun _=>⟨f,⟨rfl,rfl⟩,?_⟩)⟩;refine BQ (H:=aq [(0,cj f),(1,gC),(2,.ay [.aS 5] 101),(3,.ay [.bg] 58),(4,cj f),(5,gA [])] 6) (H':=aq ([(0,cj f),(1,gC),(2,.ay [.aS 5] 101),(3,.ay [.ae 6 0 1] 58),(4,cj f),(5,gA [])]++[(6,.aL [] 2)]) (6+1)) ?_ (xx (g:=3) (vs:=[.bg]) (eT:=[.ae 6 0 1]) (el:=58) rfl (fun id=>by simp only[dL];by_cases h:id=3<;>simp[h]) rfl (fun φ x hx=>by obtain⟨v,l,rfl,h1,h2⟩:=hx;exact⟨v,l,rfl,rL h1,h2⟩) ⟨rfl,rfl⟩) (by kernel_rfl)
  ·have HQ:bF Z 22 120 0 (CX (dp f)) (zD f (gN f) (dp f).aR (dp f).aC (dp f).aE) (Xy) (Up f) (IY Z 22 0):=by
    refine alp (H:=Up f) yN DB (n:=1000) (aE:=xw) (Nat.zero_le _) (by kernel_rfl) ?_;rw[arR];refine⟨(f,([],[])),⟨rfl,rfl,ho,by simp only[cI];omega⟩,by decide,?_⟩;have Cs:∀(φ:bu) (x:List Value) (a b c a' b' c':AV),(∀y,VR φ a y->VR φ a' y)->(∀y,VR φ b y->VR φ b' y)->(∀y,VR φ c y->VR φ c' y)->bm φ [a,b,c] x->bm φ [a',b',c'] x:=by rintro φ x a b c a' b' c' h1 h2 h3 ⟨v1,l1,rfl,k1,v2,l2,rfl,k2,v3,l3,rfl,k3,h4⟩;exact⟨v1,_,rfl,h1 _ k1,v2,_,rfl,h2 _ k2,v3,_,rfl,h3 _ k3,h4⟩
    refine L7 (H:=aq (rb f (gN f) [.bg,.bg,.bg] []) 9) (H':=aq (rb f (gN f) [.ae 9 0 1,.bg,.bg] []++[(9,.aL [] 3)]) (9+1)) ?_ (xx (g:=1) (l:=rb f (gN f) [.bg,.bg,.bg] []) (l':=rb f (gN f) [.ae 9 0 1,.bg,.bg] []) (vs:=[.bg,.bg,.bg]) (eT:=[.ae 9 0 1,.bg,.bg]) (el:=60) rfl (fun id=>by simp only[rb,gz,dL];by_cases h:id=1<;>simp[h]) rfl (fun φ x hx=>Cs φ x _ _ _ _ _ _ (fun _=>rL) (fun _ h=>h) (fun _ h=>h) hx) ⟨rfl,rfl⟩) (by kernel_rfl) ⟨(show 7<8 by omega),trivial⟩;refine L7 (H:=aq (rb f (gN f) [.ae 9 0 1,.bg,.bg] [(9,.aL [] 3)]) 10) (H':=aq (rb f (gN f) [.ae 9 0 1,.ae 10 0 1,.bg] [(9,.aL [] 3)]++[(10,.aL [] 2)]) (10+1)) ?_ (xx (g:=1) (l:=rb f (gN f) [.ae 9 0 1,.bg,.bg] [(9,.aL [] 3)]) (l':=rb f (gN f) [.ae 9 0 1,.ae 10 0 1,.bg] [(9,.aL [] 3)]) (vs:=[.ae 9 0 1,.bg,.bg]) (eT:=[.ae 9 0 1,.ae 10 0 1,.bg]) (el:=60) rfl (fun id=>by simp only[rb,mQ,pS,dL];by_cases h:id=1<;>simp[h]) rfl (fun φ x hx=>Cs φ x _ _ _ _ _ _ (fun _ h=>h) (fun _=>rL) (fun _ h=>h) hx) ⟨rfl,rfl⟩) (by kernel_rfl) ⟨(show 7<8 by omega),trivial⟩;refine L7 (H:=aq (rb f (gN f) [.ae 9 0 1,.ae 10 0 1,.bg] [(9,.aL [] 3),(10,.aL [] 2)]) 11) (H':=aq (rb f (gN f) [.ae 9 0 1,.ae 10 0 1,.ae 11 0 1] [(9,.aL [] 3),(10,.aL [] 2)]++[(11,.aL [] 3)]) (11+1)) ?_ (xx (g:=1) (l:=rb f (gN f) [.ae 9 0 1,.ae 10 0 1,.bg] [(9,.aL [] 3),(10,.aL [] 2)]) (l':=rb f (gN f) [.ae 9 0 1,.ae 10 0 1,.ae 11 0 1] [(9,.aL [] 3),(10,.aL [] 2)]) (vs:=[.ae 9 0 1,.ae 10 0 1,.bg]) (eT:=[.ae 9 0 1,.ae 10 0 1,.ae 11 0 1]) (el:=60) rfl (fun id=>by simp only[rb,mQ,pS,dL];by_cases h:id=1<;>simp[h]) rfl (fun φ x hx=>Cs φ x _ _ _ _ _ _ (fun _ h=>h) (fun _ h=>h) (fun _=>rL) hx) ⟨rfl,rfl⟩) (by kernel_rfl) ⟨(show 7<8 by omega),trivial⟩;exact arL (f:=f) (st:=gN f) (aw:=dp f) ho.2.2.2.1 ho.2.2.2.2 (by omega) (by omega) rfl rfl rfl ([],(gN f).2,[]) ⟨by simp,by simp⟩
   exact HQ
 refine Ss rj (avP f (gN f) (dp f).aR (dp f).aC (dp f).aE) ?_;rfl
end Go.Cl
namespace Go.Cl
open Go.Ev Go.Proofs
variable[Ro]
noncomputable section
structure cq(n:Nat)(m m':Em):Prop where
 tr:∃l:bS,m'.aX=l.foldl jt m.aX∧l.length<=n∧∀i∈l,i.op≠19
 f:m'.f=m.f
theorem cq.wo(m:Em):cq 0 m m:=⟨⟨[],rfl,eh _,fun _ h=>by cases h⟩,rfl⟩
theorem cq.uL{m m':Em}(h:m'.aX=m.aX)(hf:m'.f=m.f):cq 0 m m':=⟨⟨[],h,eh _,fun _ h=>by cases h⟩,hf⟩
theorem cq.mw{a b:Nat}{m m1 m2:Em}(h1:cq a m m1)(h2:cq b m1 m2):cq (a+b) m m2:=by
 obtain⟨⟨l1,e1,n1,p1⟩,f1⟩:=h1;obtain⟨⟨l2,e2,n2,p2⟩,f2⟩:=h2;refine⟨⟨l1++l2,by rw[List.foldl_append,←e1,e2],by simp;omega,fun i hi=>?_⟩,f2.trans f1⟩;rcases List.mem_append.1 hi with h|h
 ·exact p1 i h
 ·exact p2 i h
theorem cq.le{a b:Nat}{m m':Em}(h:cq a m m')(BL:a<=b):cq b m m':=by obtain⟨⟨l,e,n,p⟩,f⟩:=h;exact⟨⟨l,e,by omega,p⟩,f⟩
theorem cq.ah(m:Em){i:ba}(h:i.op≠19):cq 1 m (m.ah i):=⟨⟨[i],rfl,eh _,fun j hj=>by simp at hj;subst hj;exact h⟩,rfl⟩
theorem cq.Pb(m:Em):cq 0 m m.bX:=.uL rfl rfl
theorem cq.ic(m:Em)(v:Int):cq 0 m (m.ic v):=.uL rfl rfl
theorem cq.ur(m:Em)(v:Int):cq 0 m (m.ur v):=.uL rfl rfl
theorem cq.fY(m:Em){v a b c:Int}(h1:a≠19)(h2:b≠19):cq 1 m (m.fY v a b c):=by
 unfold Em.fY;have:cq (0+1+0) m (((m.ic v).ah ⟨bif m.lI v then b else a,m.iU v,c,0,[],0⟩).ur v):=((cq.ic m v).mw (.ah _ (by
  cases m.lI v
  ·exact h1
  ·exact h2))).mw (.ur _ v)
 exact this
theorem cq.vn(m:Em)(w:Int×aK):cq 1 m (m.vn w):=by
 unfold Em.vn;split
 ·exact .fY m (by decide) (by decide)
 ·exact(cq.wo m).le (by omega)
theorem cq.tz(m:Em)(w:Int×aK):cq 1 m (m.tz w):=by
 unfold Em.tz;split
 ·exact .fY m (by decide) (by decide)
 ·exact .ah m (by simp)
theorem cq.ir(m:Em)(t:aK)(b:Int):cq 1 m (m.ir t b):=by
 unfold Em.ir;split
 ·split
  ·exact .fY m (by decide) (by decide)
  ·exact .ah m (by simp)
 ·split
  ·exact .ah m (by simp)
  ·split
   ·exact .ah m (by simp)
   ·exact .ah m (by simp)
theorem cq.oU:∀(l:List (aK×Int)) (m:Em),cq l.length m (m.oU l)
 |[],m=>.wo m
 |(t,b)::l,m=>by have h:=(cq.ir m t b).mw (cq.oU l (m.ir t b));simp only[Em.oU,ik,bR]at h⊢;exact h.le (by omega)
mutual
theorem cq.build:∀(m:Em) (r:Int) (t:aK),cq (2*cD t-1) m (m.lR r t)
 |m,r,.mk k n s l=>by
  have h1:=cq.dq m l;have hq:=Ck l;have h2:=cq.ah (m.dq l).1 (i:=⟨15,r,0,0,s,l.length⟩) (by simp);have h3:=cq.oU (l.zip (m.dq l).2) ((m.dq l).1.ah ⟨15,r,0,0,s,l.length⟩);have h4:(l.zip (m.dq l).2).length<=l.length:=by simp;omega
  simp only[Em.lR,cD];exact((h1.mw h2).mw h3).le (by omega)
theorem cq.dq:∀(m:Em) (l:bG),cq (2*bh l-l.length) m (m.dq l).1
 |m,[]=>by simp only[Em.dq];exact(cq.wo m).le (by omega)
 |m,t::l=>by
  have hp:=kJ t;have hq:=Ck l;simp only[Em.dq,bh,bR];split
  ·have h1:=cq.build m.bX m.bX.cG t;have h2:=cq.dq (m.bX.lR m.bX.cG t) l;have h3:=(cq.Pb m).mw (h1.mw h2);exact h3.le (by omega)
  ·exact(cq.dq m l).le (by omega)
end
theorem cq.hO(m:Em)(t:aK):cq (2*cD t-dw (m.hO t).2) m (m.hO t).1:=by
 have hp:=kJ t;unfold Em.hO;split
 ·simp only[dw];split
  ·exact(cq.fY m (by decide) (by decide)).le (by omega)
  ·exact(cq.ah m (by simp)).le (by omega)
 ·split
  ·simp only[dw];exact(cq.ah m (by simp)).le (by omega)
  ·split
   ·simp only[dw];exact(cq.ah m (by simp)).le (by omega)
   ·obtain⟨k,n,s,l⟩:=t;simp only[dw,aK.cK,cD];exact((cq.Pb m).mw (.ah _ (by simp))).le (by omega)
theorem cq.i_:∀(l:bG) (m:Em) (q:List (Int×aK)),cq (2*bh l+dw q-dw (m.i_ q l).2) m (m.i_ q l).1∧dw (m.i_ q l).2<=dw q+2*bh l
 |[],m,q=>by simp only[Em.i_,bh];exact⟨(cq.wo m).le (by omega),by omega⟩
 |t::l,m,q=>by have h1:=cq.hO m t;have h2:=cq.i_ l (m.hO t).1 (q++(m.hO t).2);have h3:=ZJ m t;simp only[Em.i_,bh];rw[CB]at h2;exact⟨(h1.mw h2.1).le (by omega),by omega⟩
theorem cq.gD:∀(n:Nat) (m:Em) (q:List (Int×aK)),cq (dw q) m (m.gD n q)
 |0,m,q=>(cq.wo m).le (by omega)
 |n+1,m,[]=>(cq.wo m).le (by omega)
 |n+1,m,w::q=>by have h1:=cq.ah m (i:=⟨5,0,w.1,0,w.2.fZ,w.2.cK.length⟩) (by simp);have h2:=cq.i_ w.2.cK (m.ah ⟨5,0,w.1,0,w.2.fZ,w.2.cK.length⟩) q;have h3:=cq.gD n ((m.ah ⟨5,0,w.1,0,w.2.fZ,w.2.cK.length⟩).i_ q w.2.cK).1 ((m.ah ⟨5,0,w.1,0,w.2.fZ,w.2.cK.length⟩).i_ q w.2.cK).2;simp only[Em.gD,dw];exact((h1.mw h2.1).mw h3).le (by omega)
theorem cq.get(m:Em)(w:Int×aK):cq (2*cD w.2) m (m.nO w):=by
 have hp:=kJ w.2;unfold Em.nO;split
 ·exact(cq.vn m w).le (by omega)
 ·split
  ·exact(cq.ah m (by simp)).le (by omega)
  ·split
   ·exact(cq.ah m (by simp)).le (by omega)
   ·have:=cq.gD (dw [w]+1) m [w];obtain⟨r,k,n,s,l⟩:=w;simp only[dw,aK.cK]at this;simp only[Em.Bq,cD,dw,aK.cK];exact this.le (by omega)
theorem cq.dJ:∀(l:bG) (i:Nat) (m:Em),cq (2*bh l) m (Em.dJ i m l)
 |[],i,m=>(cq.wo m).le (by omega)
 |t::l,i,m=>by have h:=(cq.get m (((i+1:Nat):Int),t)).mw (cq.dJ l (i+1) (m.nO (((i+1:Nat):Int),t)));simp only[Em.dJ,bh]at h⊢;exact h.le (by omega)
theorem cq.put(m:Em)(w:Int×aK):cq (2*cD w.2) m (m.lq w):=by
 have hp:=kJ w.2;unfold Em.lq;split
 ·exact(cq.tz m w).le (by omega)
 ·split
  ·exact(cq.ah m (by simp)).le (by omega)
  ·split
   ·exact(cq.ah m (by simp)).le (by omega)
   ·exact(cq.build m w.1 w.2).le (by omega)
theorem cq.eO:∀(l:bG) (i:Nat) (m:Em),cq (2*bh l) m (Em.eO i m l)
 |[],i,m=>(cq.wo m).le (by omega)
 |t::l,i,m=>by have h:=(cq.put m (((i+1:Nat):Int),t)).mw (cq.eO l (i+1) (m.lq (((i+1:Nat):Int),t)));simp only[Em.eO,bh]at h⊢;exact h.le (by omega)
theorem cq.cw(m:Em)(e:Bool):cq 1 m (m.cw e):=by
 unfold Em.cw;cases e
 ·exact(cq.wo m).le (by omega)
 ·exact .ah m (by simp)
theorem cq.dR(m:Em)(w:Int×Int)(h:w.1≠19):cq 2 m (m.dR w):=by
 unfold Em.dR;cases m.lI w.2
 ·exact((cq.ic m w.2).mw ((cq.ah _ (i:=⟨w.1,m.iU w.2,0,0,[],0⟩) h).mw (.ur _ w.2))).le (by omega)
 ·exact((((cq.Pb m).mw (cq.ah _ (i:=⟨w.1,m.bX.cG,0,0,[],0⟩) h)).mw (.ic _ w.2)).mw (.ah _ (by simp))).le (by omega)
theorem cq.cut(m:Em)(v:Int):cq 1 m (m.nN v):=by
 unfold Em.nN;cases m.lI v
 ·exact(cq.wo m).le (by omega)
 ·exact((cq.ic m v).mw (.ah _ (by simp))).le (by omega)
def fe:c7->Nat
 |[]=>0
 |g::l=>(if g.cQ=1 then 1 else 0)+fe l
theorem KO(a b:bS):fh (a++b)=fh a+fh b:=by simp[fh,List.filter_append]
theorem KP(c:bS)(i:ba):fh (jt c i)<=fh c+(if i.op=19 then 1 else 0):=by
 have one:∀j:ba,fh [j]=if j.op=19 then 1 else 0:=by intro j;by_cases h:j.op=19<;>simp[fh,h]
 have tQ:fh (c++[i])=fh c+(if i.op=19 then 1 else 0):=by rw[KO,one]
 unfold jt;split
 ·split
  ·rename_i Bu x hx;split
   ·rename_i aml;obtain⟨d,rfl⟩:∃d,c=d++[x]:=by
     have c6:c≠[]:=by rintro rfl;simp at hx
     refine⟨c.dropLast,?_⟩;have:=List.dropLast_concat_getLast c6;rw[List.getLast?_eq_some_getLast c6]at hx;cases hx;exact this.symm
    rw[KO,KO,one,List.dropLast_concat,az (by simp[aml])];omega
   ·omega
  ·omega
 ·omega
theorem aab:∀(l c:bS),(∀i∈l,i.op≠19)->fh (l.foldl jt c)<=fh c∧(l.foldl jt c).length<=c.length+l.length
 |[],c,_=>by simp
 |i::l,c,h=>by have h1:=KP c i;rw[az (h i (by simp))]at h1;have h2:=zy c i;have h3:=aab l (jt c i) (fun j hj=>h j (by simp[hj]));simp only[ik,bR];exact⟨by omega,by omega⟩
theorem cq.nV{n:Nat}{m m':Em}(h:cq n m m'):fh m'.aX<=fh m.aX∧m'.aX.length<=m.aX.length+n:=by obtain⟨⟨l,e,hl,hp⟩,_⟩:=h;have:=aab l m.aX hp;rw[←e]at this;exact⟨this.1,by omega⟩
theorem Ly(c:eu)(base:LI)(bL:Bool):∀(l:c7) (i:Nat) (size:Int) (m:Em),
 fh (Em.au c base bL i size m l).aX<=fh m.aX+fe l∧(Em.au c base bL i size m l).aX.length<=m.aX.length+lD l∧(Em.au c base bL i size m l).f=m.f
 |[],i,size,m=>by have h:=((cq.cw m bL).mw (cq.ah (m.cw bL) (i:=⟨21,0,0,0,[],0⟩) (by simp)));have hb:=h.nV;simp only[Em.au,fe,lD];exact⟨by omega,by omega,h.f⟩
 |g::l,i,size,m=>by
  have next:∀(m1:Em) (I_:Int) (k n:Nat),fh m1.aX<=fh m.aX+k->m1.aX.length<=m.aX.length+n->m1.f=m.f->k<=(if g.cQ=1 then 1 else 0)->n<=2*bh g.cP+4->
   fh (Em.au c base bL (i+1) I_ m1 l).aX<=fh m.aX+fe (g::l)∧(Em.au c base bL (i+1) I_ m1 l).aX.length<=m.aX.length+lD (g::l)∧(Em.au c base bL (i+1) I_ m1 l).f=m.f:=by
   intro m1 I_ k n h1 h2 h3 h4 h5;obtain⟨a1,a2,a3⟩:=Ly c base bL l (i+1) I_ m1;simp only[fe,lD];exact⟨by omega,by omega,a3.trans h3⟩
  have done:∀(m1:Em) (n:Nat),cq n m m1->n<=2*bh g.cP+4->fh m1.aX<=fh m.aX+fe (g::l)∧m1.aX.length<=m.aX.length+lD (g::l)∧m1.f=m.f:=by intro m1 n h hn;have hb:=h.nV;simp only[fe,lD];exact⟨by omega,by omega,h.f⟩
  unfold Em.au;split
  ·have h:=cq.dR m (22,g.il) (by simp);exact next _ _ 0 2 (by have:=h.nV;omega) h.nV.2 h.f (by omega) (by omega)
  split
  ·have h:=cq.dR m (23,g.il) (by simp);exact next _ _ 0 2 (by have:=h.nV;omega) h.nV.2 h.f (by omega) (by omega)
  split
  ·have h:=cq.cut m g.il;exact next _ _ 0 1 (by have:=h.nV;omega) h.nV.2 h.f (by omega) (by omega)
  split
  ·exact done _ 1 (cq.ah m (by simp)) (by omega)
  split
  ·rename_i hk;have hp:=cq.eO g.cP 0 m;cases l with
   |nil=>simp only;exact done _ _ ((hp.mw (cq.cw _ bL)).mw (cq.ah _ (by simp))) (by omega)
   |cons g' l=>
    simp only;split
    ·have h1:=hp.mw (cq.ah (m.eO 0 g.cP) (i:=⟨17,0,0,c.aE.getD i 0,[],0⟩) (by simp));have hb:=h1.nV;have h2:=KP ((m.eO 0 g.cP).ah ⟨17,0,0,c.aE.getD i 0,[],0⟩).aX ⟨19,0,0,g.aH.aM,g.aH.cL,g.aH.ar⟩;have h3:=zy ((m.eO 0 g.cP).ah ⟨17,0,0,c.aE.getD i 0,[],0⟩).aX ⟨19,0,0,g.aH.aM,g.aH.cL,g.aH.ar⟩;simp only[if_true]at h2;exact next _ _ 1 (2*bh g.cP+2) (Nat.le_trans h2 (by omega)) (Nat.le_trans h3 (by omega)) h1.f (by rw[aN hk];omega) (by omega)
    ·have hb:=hp.nV;have h2:=KP (m.eO 0 g.cP).aX ⟨19,0,0,g.aH.aM,g.aH.cL,g.aH.ar⟩;have h3:=zy (m.eO 0 g.cP).aX ⟨19,0,0,g.aH.aM,g.aH.cL,g.aH.ar⟩;simp only[if_true]at h2;exact next _ _ 1 (2*bh g.cP+1) (Nat.le_trans h2 (by omega)) (Nat.le_trans h3 (by omega)) hp.f (by rw[aN hk];omega) (by omega)
  ·exact next _ _ 0 0 (by omega) (by omega) rfl (by omega) (by omega)
theorem GU:∀(gs:c7) (d:LI) (c:Int),(jh d c gs).length=d.length+1+fe gs
 |[],d,c=>by simp[jh,fe]
 |g::gs,d,c=>by
  unfold jh;split
  ·rename_i h;have:=GU gs (d++[max c (g.cP.length:Int)]) 0;simp only[fe,aN h,bj,bR,cI]at this⊢;omega
  ·rename_i h;have:=GU gs d c;simp only[fe,az h]at this⊢;omega
theorem No:∀gs:c7,fe gs<=gs.length
 |[]=>by simp[fe]
 |g::gs=>by have:=No gs;simp only[fe,bR];split<;>omega
theorem adn(sp:List (Int×dE))(aC:LI):∀(c:Nat) (gs:c7),(uw sp aC c gs).length=gs.length
 |c,[]=>rfl
 |c,g::gs=>by simp[uw,adn sp aC _ gs]
theorem VZ:∀(gs:c7) (c i:Nat) (h:i<gs.length),(mO c gs).getD i 0=((c+fe (gs.take i):Nat):Int)∧(gs[i].cQ=1->fe (gs.take i)+1<=fe gs)
 |[],c,i,h=>by simp at h
 |g::gs,c,0,h=>by simp only[mO,List.getD_cons_zero,List.take_zero,fe,List.getElem_cons_zero];refine⟨by simp,fun hk=>?_⟩;rw[aN hk];omega
 |g::gs,c,i+1,h=>by
  have hl:i<gs.length:=by simpa using h
  have:=VZ gs (if g.cQ=1 then c+1 else c) i hl;simp only[mO,List.getD_cons_succ,List.take_succ_cons,fe,List.getElem_cons_succ];refine⟨?_,fun hk=>?_⟩
  ·rw[this.1];split<;>(congr 1;omega)
  ·have:=this.2 hk;omega
def fc:c7->c7
 |[]=>[]
 |g::l=>if g.cQ=5 then[g]else g::fc l
def a_(f:a9):a9:=⟨f.aH,f.aQ,fc f.au⟩
theorem aax:∀(l:c7) (g:iP),g∈fc l->g∈l
 |[],g,h=>h
 |x::l,g,h=>by
  unfold fc at h;split at h
  ·simp only[ko]at h;subst h;simp
  ·rcases List.mem_cons.1 h with rfl|h
   ·simp
   ·exact eE _ (aax l g h)
theorem DN:∀l:c7,(fc l).length<=l.length
 |[]=>by simp[fc]
 |x::l=>by have:=DN l;unfold fc;split<;>simp<;>omega
theorem Hb:∀l:c7,eg (fc l)<=eg l
 |[]=>by simp[fc]
 |x::l=>by have:=Hb l;unfold fc;split<;>simp only[eg]<;>omega
theorem aay:∀(l:c7) (b:Bool) (left:Int),lC b left l=true->lC b left (fc l)=true
 |[],b,left,h=>h
 |x::l,b,left,h=>by
  unfold fc;simp only[lC,cy]at h;split
  ·simp only[lC,h.1.1,h.1.2,Bool.and_self]
  ·simp only[lC,h.1.1,h.1.2,jf];exact aay l _ _ h.2
theorem K0{f:a9}(h:ei f=true):ei (a_ f)=true:=by simp only[ei,cy]at h⊢;exact⟨h.1,aay _ _ _ h.2⟩
theorem RP{f:a9}(h:fL f):fL (a_ f):=by refine⟨h.1,h.2.1,h.2.2.1,?_,fun g hg=>h.2.2.2.2 g (aax _ g hg)⟩;have:=DN f.au;have:=h.2.2.2.1;unfold eQ at*;show(fc f.au).length<_;omega
theorem ak1:∀l:c7,lD l<=4+4*eg l
 |[]=>by simp[lD]
 |g::l=>by have:=ak1 l;simp only[lD,eg];omega
def pO(k n:Int)(s:LN)(len:Nat):Int×Int×LN×Int:=
 if k=1 then(1,n,[],0)else if k=2 then(2,0,s,0)else if k=3 then(3,0,s,len)else(0,0,[],0)
def uu(k n:Int)(s:LN)(len:Nat):Int×Int×LN×Int:=if k=0 then(0,0,[],0)else(k,n,s,len)
def Ea(k:Int×Int×LN×Int):LV:=[J k.1,J k.2.1,.aa k.2.2.1,J k.2.2.2]
theorem amD(k n:Int)(s:LN)(len:Nat):Fo k n s len=Ea (pO k n s len):=by
 unfold Fo pO Ea;split
 ·rfl
 ·split
  ·rfl
  ·split<;>rfl
theorem amE(k n:Int)(s:LN)(len:Nat):Fp k n s len=Ea (uu k n s len):=by unfold Fp uu Ea;split<;>rfl
def U7(ky:Int->Int->LN->Nat->Int×Int×LN×Int):dP (Int×Int×LN×LV×Nat)where
 bN w A H:=A=[.aj [J w.1,J w.2.1,.aa w.2.2.1,.aB w.2.2.2.1 w.2.2.2.2 4]]∧H=ax
 v w:=.aj [J (ky w.1 w.2.1 w.2.2.1 w.2.2.2.2).1,J (ky w.1 w.2.1 w.2.2.1 w.2.2.2.2).2.1,.aa (ky w.1 w.2.1 w.2.2.1 w.2.2.2.2).2.2.1,J (ky w.1 w.2.1 w.2.2.1 w.2.2.2.2).2.2.2]
 aU w:=ax
theorem ac7(ky:Int->Int->LN->Nat->Int×Int×LN×Int):(U7 ky).dT:=by rintro⟨k,n,s,cs,len⟩ ⟨k',n',s',cs',axv⟩ A H ⟨h1,_⟩ ⟨h2,_⟩;rw[h1]at h2;simp only[List.cons.injEq,AV.aj.injEq,AV.cM.injEq,AV.aa.injEq,AV.aB.injEq,true_and,and_true]at h2;obtain⟨rfl,rfl,rfl,rfl,rfl⟩:=h2;rfl
def Zg:Ev.bC:=cB 30 (cO (U7 pO) (ac7 pO) cV) Zf
def GF:Ev.bC:=cB 31 (cO (U7 uu) (ac7 uu) cV) Zg
theorem ahq:bn Z Zg:=by refine dc ahp ?_;rintro⟨k,n,s,cs,len⟩ args H ⟨rfl,rfl⟩;refine PM.1 30 _ ax (ax=ax∧True) _ ax (by decide) (DD ?_) ⟨rfl,trivial⟩;show fy MV _ ax=_;unfold fy;simp only[MV,amD,Ea];rfl
theorem Kp:bn Z GF:=by refine dc ahq ?_;rintro⟨k,n,s,cs,len⟩ args H ⟨rfl,rfl⟩;refine JW.1 31 _ ax (ax=ax∧True) _ ax (by decide) (DD ?_) ⟨rfl,trivial⟩;show fy MU _ ax=_;unfold fy;simp only[MU,amE,Ea];rfl
def rr:Nat->LP->LI->LP
 |_,m,[]=>m
 |i,m,v::l=>rr (i+1) (up v ((i+1:Nat):Int) m) l
def kR:bc:=.ay [J 0,.aa [],J 0,J 0,J 0,J 0,.aa [],J 0,.bg] 34
def h7a(f:a9):AH:=aq [(0,cj f),(1,kR)] 2
def Tb(f:a9)(c:eu)(base:LI)(m:Em):AH:=aq [(0,cj f),(1,kR),(2,.ay [.ae 6 c.aR.length 1,.ae 5 c.aC.length 1,.ae 7 c.aE.length 1] 60),(3,aD base 3),(4,fu m 8 9 10 11 12),(5,aD c.aC 2),(6,aD c.aR 3),(7,aD c.aE 3),(8,fJ m),(9,eV m),(10,fg m),(11,e9 m),(12,eZ m)] 13
structure mz where
 id:Int
 aH:d_
 fF:Int×Int×LN×Int
 fB:bS
def oO:mz:=⟨0,⟨[],0,0⟩,(0,0,[],0),[]⟩
def qL(b:mz)(c:AV):LV:=[J b.id,.aa b.aH.cL,J b.aH.ar,J b.aH.aM,J b.fF.1,J b.fF.2.1,.aa b.fF.2.2.1,J b.fF.2.2.2,c]
def hB(b:mz):AH:=aq [(0,gH b.fB)] 1
def l4(g:a9):Em:=⟨[],g,oX g,rr 0 [] (fo g),[],[],(dg g).getD 0 0,false⟩
def mD(g:a9):Em:=bif nz g (dp g)then(l4 g).ah ⟨16,0,0,((fo g).length:Int),[],0⟩else l4 g
def kx(g:a9):Em:=Em.au (dp g) (dg g) (nz g (dp g)) 0 ((fo g).length:Int) ((mD g).dJ 0 (mD g).f.aQ) ((mD g).dJ 0 (mD g).f.aQ).f.au
def lx(g:a9):bS×Int:=if(kx g).c_=true∨(kx g).aX.length>131072∨(fo g).length>4096 then([],2)else jZ (kx g).aX (dg g)
def lJ(ky:Int->Int->LN->Nat->Int×Int×LN×Int):bG->Int×Int×LN×Int
 |[]=>(0,0,[],0)
 |t::_=>ky t.cY t.n t.fZ t.cK.length
def gX(f:a9)(id:Int):mz×Int:=
 if ei f=false∨id<1∨id>1099511627776 then(oO,1)
 else if(lx (a_ f)).2≠0 then(oO,(lx (a_ f)).2)
 else(⟨id,f.aH,lJ pO f.aQ,(lx (a_ f)).1⟩,0)
def jo(r:mz×Int):AV:=if r.2=0 then .aO [.aj (qL r.1 (.ae 0 r.1.fB.length 6)),J r.2]else .aO [.aj (qL oO .bg),J r.2]
def jn(r:mz×Int):AH:=if r.2=0 then hB r.1 else ax
def G'(DL:a9->Int->mz×Int):dP (a9×Int)where
 bN w A H:=A=[.aj (dj w.1),J w.2]∧H=ax∧fL w.1∧(ei w.1=true->bh w.1.aQ+eg w.1.au<3600∧w.1.au.length<=500)
 v w:=.aO [.aj (qL (DL w.1 w.2).1 (.ae 0 (DL w.1 w.2).1.fB.length 6)),J (DL w.1 w.2).2]
 aU w:=hB (DL w.1 w.2).1
theorem aas(DL:a9->Int->mz×Int):(G' DL).dT:=by rintro⟨f,id⟩ ⟨f',jH⟩ A H ⟨h1,_⟩ ⟨k1,_⟩;rw[h1]at k1;simp only[List.cons.injEq,AV.aj.injEq,AV.cM.injEq,true_and,and_true]at k1;rw[sU _ _ k1.1,k1.2]
def QD:Ev.bC:=cB 7 (cO (G' gX) (aas gX) cV) GF
def Fv:Nat->LN:=nk [(4,[1,2,4,28,29,30]),(15,[1,2,4,8,9,10,68,69,70])]
abbrev OH x0 x1 x2 x3:=bk [(1,J x0),(2,.ad 0 0),(4,.ad 1 0),(28,.aB (ck x1) x2 6),(29,J (Int.ofNat x2)),(30,J x3)]
theorem atW(f:a9)(id:Int)(L:LT)(Q:QT):
 b_ Z GF Fv L Q 1000 7 [.aj (dj f),J id] ax=(
 (aq [] 0=ax∧Ab (dj f))∧ai (!m_ ei (dj f)) (Q (.aO [.aj [J 0,.aa [],J 0,J 0,J 0,J 0,.aa [],J 0,.bg],J 1]) ax) (ai (decide (id<1)) (Q (.aO [.aj [J 0,.aa [],J 0,J 0,J 0,J 0,.aa [],J 0,.bg],J 1]) ax) (ai (decide (id>1099511627776)) (Q (.aO [.aj [J 0,.aa [],J 0,J 0,J 0,J 0,.aa [],J 0,.bg],J 1]) ax) (L (OH id f.au f.au.length 0) (aq [(0,cj f),(1,kR)] 2) (ao Z 7 0))))):=by kernel_rfl
abbrev F7 x0 x1 x2 x3:=bk [(1,J x0),(2,.ad 0 0),(4,.ad 1 0),(8,.ad 2 0),(9,.ae 3 x1 1),(10,.ad 4 0),(68,.ae 5 x2 1),(69,J (Int.ofNat x2)),(70,J x3)]
theorem atS(f:a9)(id i:Int)(L:LT)(Q:QT):
 cT Z GF Fv L Q 1000 7 0 (OH id f.au f.au.length i) (ao Z 7 0) (h7a f)=(
 ai (decide (i<Int.ofNat (List.length f.au)))
  (∃aI:Nat,(i=(aI:Int))∧
    (aI<List.length f.au)∧
    ∃n:Int,∃s:LN,∃aP:Int,∃bp:Int,∃cs:LV,∃len:Nat,∃bI:Int,((((ck f.au).drop (aI*6)).take 6:LV)=[J n,.aa s,J aP,J bp,.aB cs len 4,J bI])∧
    ai (n==5)
     (∃bz:Nat,(wI (i+1)=(bz:Int))∧
       ((0<=bz)∧
       bz<=List.length f.au)∧
       ∃w:a9,((([.aj [.aa f.aH.cL,J (d_.ar (a9.aH f)),J (d_.aM (a9.aH f)),.aB (bw f.aQ) (List.length f.aQ) 4,.aB (((ck f.au).drop 0).take ((bz-0)*6)) (bz-0) 6]]:LV)=[.aj [.aa w.aH.cL,J (d_.ar (a9.aH w)),J (d_.aM (a9.aH w)),.aB (bw w.aQ) (List.length w.aQ) 4,.aB (ck w.au) (List.length w.au) 6]])∧
       (aq [] 0=ax)∧
       (fL w)∧
       (ei w=true)∧
       (bh w.aQ)+(eg w.au)<20000)∧
       ∃ab:a9,((([.aj [.aa f.aH.cL,J (d_.ar (a9.aH f)),J (d_.aM (a9.aH f)),.aB (bw f.aQ) (List.length f.aQ) 4,.aB (((ck f.au).drop 0).take ((bz-0)*6)) (bz-0) 6]]:LV)=[.aj [.aa ab.aH.cL,J (d_.ar (a9.aH ab)),J (d_.aM (a9.aH ab)),.aB (bw ab.aQ) (List.length ab.aQ) 4,.aB (ck ab.au) (List.length ab.au) 6]])∧
       (aq [] 0=ax)∧
       (fL ab)∧
       List.length ab.au<60000)∧
       (0<List.length (dg ab))∧
       ∃cS:Int,(bA Z 3 (aW (dg ab)) 0=some (J cS:AV))∧
       ∃aJ:a9,((([.aj [.aa f.aH.cL,J (d_.ar (a9.aH f)),J (d_.aM (a9.aH f)),.aB (bw f.aQ) (List.length f.aQ) 4,.aB (((ck f.au).drop 0).take ((bz-0)*6)) (bz-0) 6]]:LV)=[.aj [.aa aJ.aH.cL,J (d_.ar (a9.aH aJ)),J (d_.aM (a9.aH aJ)),.aB (bw aJ.aQ) (List.length aJ.aQ) 4,.aB (ck aJ.au) (List.length aJ.au) 6]])∧
       (aq [] 0=ax)∧
       fL aJ)∧
       ((List.brecOn.go (motive:=fun x=>Nat->Option AV) (aW (dg ab)) List.get?Internal._f).1 (0*1)=some (J cS:AV))∧
       (some (.aj [.aa f.aH.cL,J (d_.ar (a9.aH f)),J (d_.aM (a9.aH f)),.aB (bw f.aQ) (List.length f.aQ) 4,.aB (((ck f.au).drop 0).take ((bz-0)*6)) (bz-0) 6]:AV)=some (.aj [.aa f.aH.cL,J (d_.ar (a9.aH f)),J (d_.aM (a9.aH f)),.aB (bw f.aQ) (List.length f.aQ) 4,.aB (((ck f.au).drop 0).take ((bz-0)*6)) (bz-0) 6]:AV))∧
       L (F7 id (List.length (dg ab)) (List.length (dp w).aC) 0) (aq [(0,.ay [.aa f.aH.cL,J (d_.ar (a9.aH f)),J (d_.aM (a9.aH f)),.aB (bw f.aQ) (List.length f.aQ) 4,.aB (((ck f.au).drop 0).take ((bz-0)*6)) (bz-0) 6] 27),(1,.ay [J 0,.aa [],J 0,J 0,J 0,J 0,.aa [],J 0,.bg] 34),(2,.ay [.ae 6 (List.length ((dp w).aR)) 1,.ae 5 (List.length ((dp w).aC)) 1,.ae 7 (List.length ((dp w).aE)) 1] 60),(3,.aL (aW (dg ab)) 3),(4,.ay [.bg,.aa f.aH.cL,J (d_.ar (a9.aH f)),J (d_.aM (a9.aH f)),.aB (bw f.aQ) (List.length f.aQ) 4,.aB (((ck f.au).drop 0).take ((bz-0)*6)) (bz-0) 6,.aS 8,.aS 9,.aS 10,.aS 11,J cS,.aA false] 71),(5,.aL (aW (dp w).aC) 2),(6,.aL (aW (dp w).aR) 3),(7,.aL (aW (dp w).aE) 3),(8,.bM (bK J 0 (oX aJ)) (List.length (oX aJ)) true),(9,.bM [] 0 true),(10,.bM [] 0 true),(11,.bM [] 0 true)] 12) (ao Z 7 1))
     (L (OH id f.au (List.length f.au) (wI (i+1))) (aq [(0,.ay [.aa f.aH.cL,J (d_.ar (a9.aH f)),J (d_.aM (a9.aH f)),.aB (bw f.aQ) (List.length f.aQ) 4,.aB (ck f.au) (List.length f.au) 6] 27),(1,.ay [J 0,.aa [],J 0,J 0,J 0,J 0,.aa [],J 0,.bg] 34)] 2) (ao Z 7 0)))
  (∃w:a9,((([.aj [.aa f.aH.cL,J (d_.ar (a9.aH f)),J (d_.aM (a9.aH f)),.aB (bw f.aQ) (List.length f.aQ) 4,.aB (ck f.au) (List.length f.au) 6]]:LV)=[.aj [.aa w.aH.cL,J (d_.ar (a9.aH w)),J (d_.aM (a9.aH w)),.aB (bw w.aQ) (List.length w.aQ) 4,.aB (ck w.au) (List.length w.au) 6]])∧
    (aq [] 0=ax)∧
    (fL w)∧
    (ei w=true)∧
    (bh w.aQ)+(eg w.au)<20000)∧
    ∃ab:a9,((([.aj [.aa f.aH.cL,J (d_.ar (a9.aH f)),J (d_.aM (a9.aH f)),.aB (bw f.aQ) (List.length f.aQ) 4,.aB (ck f.au) (List.length f.au) 6]]:LV)=[.aj [.aa ab.aH.cL,J (d_.ar (a9.aH ab)),J (d_.aM (a9.aH ab)),.aB (bw ab.aQ) (List.length ab.aQ) 4,.aB (ck ab.au) (List.length ab.au) 6]])∧
    (aq [] 0=ax)∧
    (fL ab)∧
    List.length ab.au<60000)∧
    (0<List.length (dg ab))∧
    ∃n:Int,(bA Z 3 (aW (dg ab)) 0=some (J n:AV))∧
    ∃aJ:a9,((([.aj [.aa f.aH.cL,J (d_.ar (a9.aH f)),J (d_.aM (a9.aH f)),.aB (bw f.aQ) (List.length f.aQ) 4,.aB (ck f.au) (List.length f.au) 6]]:LV)=[.aj [.aa aJ.aH.cL,J (d_.ar (a9.aH aJ)),J (d_.aM (a9.aH aJ)),.aB (bw aJ.aQ) (List.length aJ.aQ) 4,.aB (ck aJ.au) (List.length aJ.au) 6]])∧
    (aq [] 0=ax)∧
    fL aJ)∧
    ((List.brecOn.go (motive:=fun x=>Nat->Option AV) (aW (dg ab)) List.get?Internal._f).1 (0*1)=some (J n:AV))∧
    (some (.aj [.aa f.aH.cL,J (d_.ar (a9.aH f)),J (d_.aM (a9.aH f)),.aB (bw f.aQ) (List.length f.aQ) 4,.aB (ck f.au) (List.length f.au) 6]:AV)=some (.aj [.aa f.aH.cL,J (d_.ar (a9.aH f)),J (d_.aM (a9.aH f)),.aB (bw f.aQ) (List.length f.aQ) 4,.aB (ck f.au) (List.length f.au) 6]:AV))∧
    L (F7 id (List.length (dg ab)) (List.length (dp w).aC) 0) (aq [(0,.ay [.aa f.aH.cL,J (d_.ar (a9.aH f)),J (d_.aM (a9.aH f)),.aB (bw f.aQ) (List.length f.aQ) 4,.aB (ck f.au) (List.length f.au) 6] 27),(1,.ay [J 0,.aa [],J 0,J 0,J 0,J 0,.aa [],J 0,.bg] 34),(2,.ay [.ae 6 (List.length ((dp w).aR)) 1,.ae 5 (List.length ((dp w).aC)) 1,.ae 7 (List.length ((dp w).aE)) 1] 60),(3,.aL (aW (dg ab)) 3),(4,.ay [.bg,.aa f.aH.cL,J (d_.ar (a9.aH f)),J (d_.aM (a9.aH f)),.aB (bw f.aQ) (List.length f.aQ) 4,.aB (ck f.au) (List.length f.au) 6,.aS 8,.aS 9,.aS 10,.aS 11,J n,.aA false] 71),(5,.aL (aW (dp w).aC) 2),(6,.aL (aW (dp w).aR) 3),(7,.aL (aW (dp w).aE) 3),(8,.bM (bK J 0 (oX aJ)) (List.length (oX aJ)) true),(9,.bM [] 0 true),(10,.bM [] 0 true),(11,.bM [] 0 true)] 12) (ao Z 7 1))):=by kernel_rfl
theorem atU(f:a9)(id i:Int)(c:eu)(base:LI)(m:Em)(L:LT)(Q:QT):
 cT Z GF Fv L Q 1000 7 0 (F7 id base.length c.aC.length i) (ao Z 7 1) (Tb f c base m)=(
 ai (decide (i<Int.ofNat c.aC.length)) (∃aI:Nat,i=(aI:Int)∧aI<c.aC.length∧(∃n:Int,bA Z 2 (aW c.aC) (aI*1)=some (J n:AV)∧(∃bQ:List (AV×AV×Nat),∃c':Nat,lN Z 2 (bK J 0 m.aC) m.aC.length (J n) (J (wI (i+1)))=some (bQ,c')∧L (F7 id base.length c.aC.length (wI (i+1))) (aq [(0,cj f),(1,kR),(2,.ay [.ae 6 c.aR.length 1,.ae 5 c.aC.length 1,.ae 7 c.aE.length 1] 60),(3,aD base 3),(4,fu m 8 9 10 11 12),(5,aD c.aC 2),(6,aD c.aR 3),(7,aD c.aE 3),(8,fJ m),(9,eV m),(10,.bM bQ c' true),(11,e9 m),(12,eZ m)] 13) (ao Z 7 1)))) (∃w:a9×eu,(([.aj (dj f),.aj [.ae 0 c.aR.length 1,.ae 1 c.aC.length 1,.ae 2 c.aE.length 1]]:LV)=[.aj (dj w.1),.aj [.ae 0 w.2.aR.length 1,.ae 1 w.2.aC.length 1,.ae 2 w.2.aE.length 1]]∧ve c=ve w.2∧fL w.1)∧ai (nz w.1 w.2) (∃ab:Em×ba,(([.ad 0 0,.aj [J 16,J 0,J 0,J (Int.ofNat c.aC.length),.aa [],J 0]]:LV)=[.ad 0 0,.aj (bP ab.2)]∧bT m=bT ab.1∧ab.1.aX.length<65536)∧(∃aJ:Em×Unit,(([.ad 0 0]:LV)=[.ad 0 0]∧bT (ab.1.ah ab.2)=bT aJ.1∧W2 aJ.1 aJ.2)∧(∃cU:Em×eu×LI×Bool,(([.ad 0 0,.aj [.ae 1 c.aR.length 1,.ae 2 c.aC.length 1,.ae 3 c.aE.length 1],.ae 4 base.length 1,.aA (nz w.1 w.2)]:LV)=[.ad 0 0,.aj [.ae 1 cU.2.1.aR.length 1,.ae 2 cU.2.1.aC.length 1,.ae 3 cU.2.1.aE.length 1],.ae 4 cU.2.2.1.length 1,.aA cU.2.2.2]∧By (Em.dJ 0 aJ.1 aJ.1.f.aQ) w.2 base=By cU.1 cU.2.1 cU.2.2.1∧cU.1.aX.length+lD cU.1.f.au<65536∧Gv cU.2.1 cU.2.2.1 cU.1.f.au)∧ai (Em.au cU.2.1 cU.2.2.1 cU.2.2.2 0 ((cU.2.1.aC.length:Nat):Int) cU.1 cU.1.f.au).c_ (Q (.aO [.aj [J 0,.aa [],J 0,J 0,J 0,J 0,.aa [],J 0,.bg],J 2]) ax) (ai (decide (Int.ofNat (Em.au cU.2.1 cU.2.2.1 cU.2.2.2 0 ↑cU.2.1.aC.length cU.1 cU.1.f.au).aX.length>131072)) (Q (.aO [.aj [J 0,.aa [],J 0,J 0,J 0,J 0,.aa [],J 0,.bg],J 2]) ax) (ai (decide (Int.ofNat c.aC.length>4096)) (Q (.aO [.aj [J 0,.aa [],J 0,J 0,J 0,J 0,.aa [],J 0,.bg],J 2]) ax) (∃gW:bS×LI,(([.ae 0 (Em.au cU.2.1 cU.2.2.1 cU.2.2.2 0 ↑cU.2.1.aC.length cU.1 cU.1.f.au).aX.length 6,.ae 1 base.length 1]:LV)=[.ae 0 gW.1.length 6,.ae 1 gW.2.length 1]∧aq [(0,fJ (Em.au cU.2.1 cU.2.2.1 cU.2.2.2 0 ↑cU.2.1.aC.length cU.1 cU.1.f.au)),(1,aD cU.2.2.1 3)] 2=zJ gW.1 gW.2∧gW.1.length<12000∧fh gW.1<gW.2.length∧gW.2.length<100000)∧ai ((jZ gW.1 gW.2).2 !=0) (Q (.aO [.aj [J 0,.aa [],J 0,J 0,J 0,J 0,.aa [],J 0,.bg],J (jZ gW.1 gW.2).2]) ax) (ai (decide (Int.ofNat f.aQ.length>0)) (0<f.aQ.length∧(∃n:Int,∃aP:Int,∃s:LN,∃cs:LV,∃len:Nat,(((bw f.aQ).drop 0).take 4:LV)=[J n,J aP,.aa s,.aB cs len 4]∧(∃nM:Int×Int×LN×LV×Nat,(([.aj [J n,J aP,.aa s,.aB cs len 4]]:LV)=[.aj [J nM.1,J nM.2.1,.aa nM.2.2.1,.aB nM.2.2.2.1 nM.2.2.2.2 4]]∧aq [] 0=ax)∧Q (.aO [.aj [J id,.aa f.aH.cL,J f.aH.ar,J f.aH.aM,J (pO nM.1 nM.2.1 nM.2.2.1 nM.2.2.2.2).1,J (pO nM.1 nM.2.1 nM.2.2.1 nM.2.2.2.2).2.1,.aa (pO nM.1 nM.2.1 nM.2.2.1 nM.2.2.2.2).2.2.1,J (pO nM.1 nM.2.1 nM.2.2.1 nM.2.2.2.2).2.2.2,.ae 0 (jZ gW.1 gW.2).1.length 6],J 0]) (aq [(0,gH (jZ gW.1 gW.2).1)] 1)))) (Q (.aO [.aj [J id,.aa f.aH.cL,J f.aH.ar,J f.aH.aM,J 0,J 0,.aa [],J 0,.ae 0 (jZ gW.1 gW.2).1.length 6],J 0]) (aq [(0,gH (jZ gW.1 gW.2).1)] 1))))))))) (∃ab:Em×Unit,(([.ad 0 0]:LV)=[.ad 0 0]∧bT m=bT ab.1∧W2 ab.1 ab.2)∧(∃aJ:Em×eu×LI×Bool,(([.ad 0 0,.aj [.ae 1 c.aR.length 1,.ae 2 c.aC.length 1,.ae 3 c.aE.length 1],.ae 4 base.length 1,.aA (nz w.1 w.2)]:LV)=[.ad 0 0,.aj [.ae 1 aJ.2.1.aR.length 1,.ae 2 aJ.2.1.aC.length 1,.ae 3 aJ.2.1.aE.length 1],.ae 4 aJ.2.2.1.length 1,.aA aJ.2.2.2]∧By (Em.dJ 0 ab.1 ab.1.f.aQ) w.2 base=By aJ.1 aJ.2.1 aJ.2.2.1∧aJ.1.aX.length+lD aJ.1.f.au<65536∧Gv aJ.2.1 aJ.2.2.1 aJ.1.f.au)∧ai (Em.au aJ.2.1 aJ.2.2.1 aJ.2.2.2 0 ((aJ.2.1.aC.length:Nat):Int) aJ.1 aJ.1.f.au).c_ (Q (.aO [.aj [J 0,.aa [],J 0,J 0,J 0,J 0,.aa [],J 0,.bg],J 2]) ax) (ai (decide (Int.ofNat (Em.au aJ.2.1 aJ.2.2.1 aJ.2.2.2 0 ↑aJ.2.1.aC.length aJ.1 aJ.1.f.au).aX.length>131072)) (Q (.aO [.aj [J 0,.aa [],J 0,J 0,J 0,J 0,.aa [],J 0,.bg],J 2]) ax) (ai (decide (Int.ofNat c.aC.length>4096)) (Q (.aO [.aj [J 0,.aa [],J 0,J 0,J 0,J 0,.aa [],J 0,.bg],J 2]) ax) (∃cU:bS×LI,(([.ae 0 (Em.au aJ.2.1 aJ.2.2.1 aJ.2.2.2 0 ↑aJ.2.1.aC.length aJ.1 aJ.1.f.au).aX.length 6,.ae 1 base.length 1]:LV)=[.ae 0 cU.1.length 6,.ae 1 cU.2.length 1]∧aq [(0,fJ (Em.au aJ.2.1 aJ.2.2.1 aJ.2.2.2 0 ↑aJ.2.1.aC.length aJ.1 aJ.1.f.au)),(1,aD aJ.2.2.1 3)] 2=zJ cU.1 cU.2∧cU.1.length<12000∧fh cU.1<cU.2.length∧cU.2.length<100000)∧ai ((jZ cU.1 cU.2).2 !=0) (Q (.aO [.aj [J 0,.aa [],J 0,J 0,J 0,J 0,.aa [],J 0,.bg],J (jZ cU.1 cU.2).2]) ax) (ai (decide (Int.ofNat f.aQ.length>0)) (0<f.aQ.length∧(∃n:Int,∃aP:Int,∃s:LN,∃cs:LV,∃len:Nat,(((bw f.aQ).drop 0).take 4:LV)=[J n,J aP,.aa s,.aB cs len 4]∧(∃gW:Int×Int×LN×LV×Nat,(([.aj [J n,J aP,.aa s,.aB cs len 4]]:LV)=[.aj [J gW.1,J gW.2.1,.aa gW.2.2.1,.aB gW.2.2.2.1 gW.2.2.2.2 4]]∧aq [] 0=ax)∧Q (.aO [.aj [J id,.aa f.aH.cL,J f.aH.ar,J f.aH.aM,J (pO gW.1 gW.2.1 gW.2.2.1 gW.2.2.2.2).1,J (pO gW.1 gW.2.1 gW.2.2.1 gW.2.2.2.2).2.1,.aa (pO gW.1 gW.2.1 gW.2.2.1 gW.2.2.2.2).2.2.1,J (pO gW.1 gW.2.1 gW.2.2.1 gW.2.2.2.2).2.2.2,.ae 0 (jZ cU.1 cU.2).1.length 6],J 0]) (aq [(0,gH (jZ cU.1 cU.2).1)] 1)))) (Q (.aO [.aj [J id,.aa f.aH.cL,J f.aH.ar,J f.aH.aM,J 0,J 0,.aa [],J 0,.ae 0 (jZ cU.1 cU.2).1.length 6],J 0]) (aq [(0,gH (jZ cU.1 cU.2).1)] 1)))))))))):=by kernel_rfl
theorem ac4{t:aK}(h:jX t=true):0<=t.cY∧t.cY<4:=by
 obtain⟨k,n,s,l⟩:=t;simp only[jX,lL,cy,iK]at h;have h:=h.2.1;simp only[aK.cY];unfold sk at h;split at h
 ·omega
 ·split at h
  ·omega
  ·split at h
   ·omega
   ·split at h
    ·omega
    ·cases h
theorem abU:∀(l:c7) (b:Bool) (left:Int),lC b left l=true->∀g∈l,Ax g.cP
 |[],_,_,_,g,hg=>by cases hg
 |x::l,b,left,h,g,hg=>by
  simp only[lC,cy]at h;rcases List.mem_cons.1 hg with rfl|hg
  ·exact fun t ht=>ac4 ((rS.1 h.1.2).1 t ht)
  ·exact abU l _ _ h.2 g hg
theorem avJ{f:a9}(h:ei f=true):Ax f.aQ∧∀g∈f.au,Ax g.cP:=by simp only[ei,cy]at h;exact⟨fun t ht=>ac4 ((rS.1 h.1.2).1 t ht),abU _ _ _ h.2⟩
theorem S3:∀l:c7,lD l<=4+2*eg l+2*l.length
 |[]=>by simp[lD]
 |g::l=>by have:=S3 l;simp only[lD,eg,bR];omega
section
variable{f:a9}{id:Int}
theorem aor(i:Nat)(m:LP)(v:Int)(l:LI):rr i m (v::l)=rr (i+1) (up v ((i+1:Nat):Int) m) l:=rfl
theorem atV(hv:ei f=true)(dn:¬(id<1∨id>1099511627776))(hf:fL f)(Mz:bh f.aQ+eg f.au<3600)(Ff:f.au.length<=500):
 ∀k:LI×LI×LP,(k.1++k.2.1=fo (a_ f)∧rr k.1.length k.2.2 k.2.1=rr 0 [] (fo (a_ f)))->
 bF Z 7 152 0 (jo (gX f id)) (jn (gX f id)) (F7 id (dg (a_ f)).length (dp (a_ f)).aC.length (k.1.length:Int))
  (Tb (a_ f) (dp (a_ f)) (dg (a_ f)) ⟨[],a_ f,oX (a_ f),k.2.2,[],[],(dg (a_ f)).getD 0 0,false⟩) (ao Z 7 1):=by
 have bq:=RP hf;have vE:=avJ (K0 hv);have zY:bh (a_ f).aQ+eg (a_ f).au<3600:=by have:=Hb f.au;show bh f.aQ+eg (fc f.au)<3600;omega
 have kD:(a_ f).au.length<=500:=by have:=DN f.au;show(fc f.au).length<=500;omega
 have hgz:=S3 (a_ f).au;have hgp:=Bt (a_ f).au;have p_:(dg (a_ f)).length=1+fe (a_ f).au:=by rw[dg,GU];simp
 have BZ:=No (a_ f).au;have ET:Gv (dp (a_ f)) (dg (a_ f)) (a_ f).au:=by refine⟨bq.2.2.2.1,bq.2.2.2.2,vE.2,adn _ _ _ _,V0 _ _,fun i h hk=>?_⟩;have:=VZ (a_ f).au 0 i h;have h2:=this.2 hk;show 0<=(mO 0 (a_ f).au).getD i 0∧_;have e:(dp (a_ f)).aR.getD i 0=((0+fe ((a_ f).au.take i):Nat):Int):=this.1;rw[e,this.1,p_];exact⟨by omega,by omega,by omega⟩
 have okc:(lx (a_ f)).2=0->gX f id=(⟨id,f.aH,lJ pO f.aQ,(lx (a_ f)).1⟩,0):=by
  intro h;rw[gX,az,az (by rw[h];simp)];rintro(hh|hh)
  ·rw[hv]at hh;cases hh
  ·exact dn hh
 have zB:∀e,(lx (a_ f)).2=e->e≠0->iI (jo (gX f id)) (jn (gX f id)) (.aO [.aj (qL oO .bg),J e]) ax:=by
  intro e he c6;have:gX f id=(oO,e):=by
   rw[gX,az,aN (by rw[he];exact c6),he];rintro(hh|hh)
   ·rw[hv]at hh;cases hh
   ·exact dn hh
  rw[this,jo,jn,az c6,az c6];exact⟨rfl,rfl⟩
 have qb:(fo (a_ f)).length<4000:=by rw[fo,pk];have h1:=List.length_filter_le (oY (gN (a_ f)).1) (gN (a_ f)).2;have h2:=VX (a_ f) ([],[]);simp only[cI,fD]at h2;have h2:(gN (a_ f)).2.length<=bh (a_ f).aQ+eg (a_ f).au:=h2;omega
 refine cX (fun k=>k.2.1.length) _ _ _ _ ?_;rintro⟨A,B,pm⟩ ⟨h1,h2⟩ ih;simp only at h1 h2 ih⊢;refine hD Kp 1000 Fv (by kernel_rfl) ?_;rw[atU];have ja:A.length+B.length=(fo (a_ f)).length:=by rw[←h1];simp
 have jG:(dp (a_ f)).aC.length=(fo (a_ f)).length:=rfl;refine cv (fun h=>?_) (fun h=>?_)
 ·have h:=dW h;cases B with
  |nil=>simp only[cI]at ja;simp only[fX]at h;omega
  |cons v B=>have hw:wI ((A.length:Int)+1)=((A.length+1:Nat):Int):=fE (iz _) (by omega);refine⟨A.length,rfl,by simp only[bR]at ja;omega,v,by show bA Z 2 (aW (fo (a_ f))) _=_;rw[←h1];exact qx rfl,?_⟩;rw[hw];refine⟨_,_,pj J lz,?_⟩;have:=ih (A++[v],B,up v ((A.length+1:Nat):Int) pm) ⟨by rw[←h1];simp,by rw[←h2,aor];simp⟩ (by simp);simp only[bj,bR,cI,fD]at this;exact this
 ·have h:=eJ h;cases B with
  |cons v B=>simp only[bR]at ja;simp only[fX]at h;omega
  |nil=>
  simp only[rr]at h2;subst h2;have e0:(⟨[],a_ f,oX (a_ f),rr 0 [] (fo (a_ f)),[],[],(dg (a_ f)).getD 0 0,false⟩:Em)=l4 (a_ f):=rfl;refine⟨(a_ f,dp (a_ f)),⟨rfl,rfl,bq⟩,cv (fun he=>?_) (fun he=>?_)⟩
  ·refine⟨(l4 (a_ f),⟨16,0,0,((fo (a_ f)).length:Int),[],0⟩),⟨rfl,rfl,by simp[l4]⟩,?_⟩;have MA:mD (a_ f)=(l4 (a_ f)).ah ⟨16,0,0,((fo (a_ f)).length:Int),[],0⟩:=by have he:nz (a_ f) (dp (a_ f))=true:=he;rw[mD,he];rfl
   have ou:((l4 (a_ f)).ah ⟨16,0,0,((fo (a_ f)).length:Int),[],0⟩).f=a_ f:=rfl;have Qn:((l4 (a_ f)).ah ⟨16,0,0,((fo (a_ f)).length:Int),[],0⟩).aX.length<=1:=by have:=zy (l4 (a_ f)).aX ⟨16,0,0,((fo (a_ f)).length:Int),[],0⟩;exact this
   have Qm:fh ((l4 (a_ f)).ah ⟨16,0,0,((fo (a_ f)).length:Int),[],0⟩).aX=0:=by have:=KP (l4 (a_ f)).aX ⟨16,0,0,((fo (a_ f)).length:Int),[],0⟩;simp[l4,fh]at this;simpa[Em.ah,l4,fh]using this
   generalize hM1:(l4 (a_ f)).ah ⟨16,0,0,((fo (a_ f)).length:Int),[],0⟩=M1 at MA ou Qn Qm;refine⟨(M1,()),⟨rfl,rfl,?_,?_,?_,?_⟩,?_⟩
   ·simp only[ou];show M1.aX.length+2*bh (a_ f).aQ+1<65536;omega
   ·simp only[ou];exact bq.2.1
   ·simp only[ou];exact bq.2.2.1
   ·simp only[ou];exact vE.1
   have Bz:(M1.dJ 0 M1.f.aQ).f=a_ f:=by rw[(cq.dJ M1.f.aQ 0 M1).f];exact ou
   have HC:=(cq.dJ M1.f.aQ 0 M1).nV;rw[ou]at HC;have S9:=Ly (dp (a_ f)) (dg (a_ f)) (nz (a_ f) (dp (a_ f))) (a_ f).au 0 ((fo (a_ f)).length:Int) (M1.dJ 0 M1.f.aQ);refine⟨(M1.dJ 0 M1.f.aQ,dp (a_ f),dg (a_ f),nz (a_ f) (dp (a_ f))),⟨rfl,rfl,?_,?_⟩,?_⟩
   ·simp only[Bz];rw[ou];have:(M1.dJ 0 (a_ f).aQ).aX.length<=M1.aX.length+2*bh (a_ f).aQ:=HC.2;omega
   ·simp only[Bz];exact ET
   obtain⟨E,hE⟩:∃E,E=Em.au (dp (a_ f)) (dg (a_ f)) (nz (a_ f) (dp (a_ f))) 0 ((fo (a_ f)).length:Int) (M1.dJ 0 M1.f.aQ) (M1.dJ 0 M1.f.aQ).f.au:=⟨_,rfl⟩;have hM:Em.au (dp (a_ f)) (dg (a_ f)) (nz (a_ f) (dp (a_ f))) 0 ((fo (a_ f)).length:Int) (M1.dJ 0 M1.f.aQ) (M1.dJ 0 M1.f.aQ).f.au=kx (a_ f):=by rw[kx,MA]
   have BI:=hE.trans hM;have hG:(kx (a_ f)).aX.length<12000∧fh (kx (a_ f)).aX<(dg (a_ f)).length:=by rw[←hM,Bz];rw[ou]at S9⊢;exact⟨by omega,by omega⟩
   refine cv (fun h=>?_) (fun h=>cv (fun h'=>?_) (fun h'=>cv (fun h6=>?_) (fun h6=>?_)))
   ·have h:(kx (a_ f)).c_=true:=by rw[←hM];exact h
    exact zB 2 (by rw[lx,aN (.inl h)]) (by decide)
   ·have h':=dW h';have h':Int.ofNat E.aX.length>131072:=by rw[hE];exact h'
    have h':(kx (a_ f)).aX.length>131072:=by rw[BI]at h';simp only[fX]at h';omega
    exact zB 2 (by rw[lx,aN (.inr (.inl h'))]) (by decide)
   ·have h6:=dW h6;have h6:(fo (a_ f)).length>4096:=by simp only[fX]at h6;have h6:((fo (a_ f)).length:Int)>4096:=h6;omega
    exact zB 2 (by rw[lx,aN (.inr (.inr h6))]) (by decide)
   ·have h:E.c_=false:=by rw[hE];exact h
    have h:¬(kx (a_ f)).c_=true:=by rw[BI]at h;rw[h];simp
    have h':=eJ h';have h':¬Int.ofNat E.aX.length>131072:=by rw[hE];exact h'
    have h':¬(kx (a_ f)).aX.length>131072:=by rw[BI]at h';simp only[fX]at h';omega
    have h6:=eJ h6;have h6:¬(fo (a_ f)).length>4096:=by simp only[fX]at h6;have h6:¬((fo (a_ f)).length:Int)>4096:=h6;omega
    have vw:lx (a_ f)=jZ (kx (a_ f)).aX (dg (a_ f)):=by
     rw[lx,az];rintro(hh|hh|hh)
     ·exact h hh
     ·exact h' hh
     ·exact h6 hh
    refine⟨((kx (a_ f)).aX,dg (a_ f)),⟨by rw[←hM];rfl,by rw[←hM];rfl,hG.1,hG.2,by simp only;rw[p_];omega⟩,cv (fun h0=>?_) (fun h0=>?_)⟩
    ·have h0:(lx (a_ f)).2≠0:=by rw[vw];simpa using h0
     have:=zB _ rfl h0;rw[vw]at this;exact this
    ·have h0:(lx (a_ f)).2=0:=by rw[vw];simpa using h0
     have e:=okc h0;rw[vw]at e;cases hT:f.aQ with
     |nil=>
      refine cv (fun hz=>?_) (fun hz=>?_)
      ·have hz:=dW hz;have hz:Int.ofNat f.aQ.length>0:=hz;rw[hT]at hz;simp at hz
      ·rw[e,jo,jn,aN rfl,aN rfl,hT];exact⟨rfl,rfl⟩
     |cons t T=>
      obtain⟨k,n,s,ls⟩:=t;refine cv (fun hz=>?_) (fun hz=>?_)
      ·refine⟨by show 0<f.aQ.length;rw[hT];simp,k,n,s,bw ls,ls.length,?_,(k,n,s,bw ls,ls.length),⟨rfl,rfl⟩,?_⟩
       ·show((bw f.aQ).drop 0).take 4=_;rw[hT];rfl
       ·rw[e,jo,jn,aN rfl,aN rfl,hT];exact⟨rfl,rfl⟩
      ·have hz:=eJ hz;have hz:¬Int.ofNat f.aQ.length>0:=hz;rw[hT]at hz;simp at hz
  ·have MA:mD (a_ f)=l4 (a_ f):=by have he:nz (a_ f) (dp (a_ f))=false:=he;rw[mD,he];rfl
   have ou:(l4 (a_ f)).f=a_ f:=rfl;have Qn:(l4 (a_ f)).aX.length<=1:=by simp[l4]
   have Qm:fh (l4 (a_ f)).aX=0:=by simp[l4,fh]
   rw[e0];generalize hM1:l4 (a_ f)=M1 at MA ou Qn Qm;refine⟨(M1,()),⟨rfl,rfl,?_,?_,?_,?_⟩,?_⟩
   ·simp only[ou];show M1.aX.length+2*bh (a_ f).aQ+1<65536;omega
   ·simp only[ou];exact bq.2.1
   ·simp only[ou];exact bq.2.2.1
   ·simp only[ou];exact vE.1
   have Bz:(M1.dJ 0 M1.f.aQ).f=a_ f:=by rw[(cq.dJ M1.f.aQ 0 M1).f];exact ou
   have HC:=(cq.dJ M1.f.aQ 0 M1).nV;rw[ou]at HC;have S9:=Ly (dp (a_ f)) (dg (a_ f)) (nz (a_ f) (dp (a_ f))) (a_ f).au 0 ((fo (a_ f)).length:Int) (M1.dJ 0 M1.f.aQ);refine⟨(M1.dJ 0 M1.f.aQ,dp (a_ f),dg (a_ f),nz (a_ f) (dp (a_ f))),⟨rfl,rfl,?_,?_⟩,?_⟩
   ·simp only[Bz];rw[ou];have:(M1.dJ 0 (a_ f).aQ).aX.length<=M1.aX.length+2*bh (a_ f).aQ:=HC.2;omega
   ·simp only[Bz];exact ET
   obtain⟨E,hE⟩:∃E,E=Em.au (dp (a_ f)) (dg (a_ f)) (nz (a_ f) (dp (a_ f))) 0 ((fo (a_ f)).length:Int) (M1.dJ 0 M1.f.aQ) (M1.dJ 0 M1.f.aQ).f.au:=⟨_,rfl⟩;have hM:Em.au (dp (a_ f)) (dg (a_ f)) (nz (a_ f) (dp (a_ f))) 0 ((fo (a_ f)).length:Int) (M1.dJ 0 M1.f.aQ) (M1.dJ 0 M1.f.aQ).f.au=kx (a_ f):=by rw[kx,MA]
   have BI:=hE.trans hM;have hG:(kx (a_ f)).aX.length<12000∧fh (kx (a_ f)).aX<(dg (a_ f)).length:=by rw[←hM,Bz];rw[ou]at S9⊢;exact⟨by omega,by omega⟩
   refine cv (fun h=>?_) (fun h=>cv (fun h'=>?_) (fun h'=>cv (fun h6=>?_) (fun h6=>?_)))
   ·have h:(kx (a_ f)).c_=true:=by rw[←hM];exact h
    exact zB 2 (by rw[lx,aN (.inl h)]) (by decide)
   ·have h':=dW h';have h':Int.ofNat E.aX.length>131072:=by rw[hE];exact h'
    have h':(kx (a_ f)).aX.length>131072:=by rw[BI]at h';simp only[fX]at h';omega
    exact zB 2 (by rw[lx,aN (.inr (.inl h'))]) (by decide)
   ·have h6:=dW h6;have h6:(fo (a_ f)).length>4096:=by simp only[fX]at h6;have h6:((fo (a_ f)).length:Int)>4096:=h6;omega
    exact zB 2 (by rw[lx,aN (.inr (.inr h6))]) (by decide)
   ·have h:E.c_=false:=by rw[hE];exact h
    have h:¬(kx (a_ f)).c_=true:=by rw[BI]at h;rw[h];simp
    have h':=eJ h';have h':¬Int.ofNat E.aX.length>131072:=by rw[hE];exact h'
    have h':¬(kx (a_ f)).aX.length>131072:=by rw[BI]at h';simp only[fX]at h';omega
    have h6:=eJ h6;have h6:¬(fo (a_ f)).length>4096:=by simp only[fX]at h6;have h6:¬((fo (a_ f)).length:Int)>4096:=h6;omega
    have vw:lx (a_ f)=jZ (kx (a_ f)).aX (dg (a_ f)):=by
     rw[lx,az];rintro(hh|hh|hh)
     ·exact h hh
     ·exact h' hh
     ·exact h6 hh
    refine⟨((kx (a_ f)).aX,dg (a_ f)),⟨by rw[←hM];rfl,by rw[←hM];rfl,hG.1,hG.2,by simp only;rw[p_];omega⟩,cv (fun h0=>?_) (fun h0=>?_)⟩
    ·have h0:(lx (a_ f)).2≠0:=by rw[vw];simpa using h0
     have:=zB _ rfl h0;rw[vw]at this;exact this
    ·have h0:(lx (a_ f)).2=0:=by rw[vw];simpa using h0
     have e:=okc h0;rw[vw]at e;cases hT:f.aQ with
     |nil=>
      refine cv (fun hz=>?_) (fun hz=>?_)
      ·have hz:=dW hz;have hz:Int.ofNat f.aQ.length>0:=hz;rw[hT]at hz;simp at hz
      ·rw[e,jo,jn,aN rfl,aN rfl,hT];exact⟨rfl,rfl⟩
     |cons t T=>
      obtain⟨k,n,s,ls⟩:=t;refine cv (fun hz=>?_) (fun hz=>?_)
      ·refine⟨by show 0<f.aQ.length;rw[hT];simp,k,n,s,bw ls,ls.length,?_,(k,n,s,bw ls,ls.length),⟨rfl,rfl⟩,?_⟩
       ·show((bw f.aQ).drop 0).take 4=_;rw[hT];rfl
       ·rw[e,jo,jn,aN rfl,aN rfl,hT];exact⟨rfl,rfl⟩
      ·have hz:=eJ hz;have hz:¬Int.ofNat f.aQ.length>0:=hz;rw[hT]at hz;simp at hz
theorem ae7(cs:LV):(List.brecOn.go (motive:=fun _=>Nat->Option AV) cs List.get?Internal._f).1 (0*1)=bA Z 3 cs 0:=by kernel_rfl
theorem Sf:∀(a b:c7),ck (a++b)=ck a++ck b
 |[],b=>rfl
 |x::a,b=>by simp[ck,Sf a b]
theorem Sg:∀a:c7,(ck a).length=a.length*6
 |[]=>rfl
 |x::a=>by simp[ck,D0,Sg a];omega
def l7(g:a9)(c:AV):List (Nat×bc):=[(0,cj g),(1,kR),(2,.ay [.ae 6 (dp g).aR.length 1,.ae 5 (dp g).aC.length 1,.ae 7 (dp g).aE.length 1] 60),(3,aD (dg g) 3),
 (4,.ay [c,.aa g.aH.cL,J g.aH.ar,J g.aH.aM,.aB (bw g.aQ) g.aQ.length 4,.aB (ck g.au) g.au.length 6,.aS 8,.aS 9,.aS 10,.aS 11,J ((dg g).getD 0 0),.aA false] 71),
 (5,aD (dp g).aC 2),(6,aD (dp g).aR 3),(7,aD (dp g).aE 3),(8,.bM (bK J 0 (oX g)) (oX g).length true),(9,.bM [] 0 true),(10,.bM [] 0 true),(11,.bM [] 0 true)]
def t7(id:Int)(g:a9)(i:Int):Tr AV:=F7 id (dg g).length (dp g).aC.length i
def ps7:List (Nat×Nat):=[(0,0),(1,1),(2,2),(3,3),(4,4),(5,5),(6,6),(7,7),(12,8),(8,9),(9,10),(10,11),(11,12)]
theorem avT(g:a9):om 0 [0,1,2,3,4,5] (aq (l7 g (.ae 12 0 6)++[(12,.aL [] 50)]) (12+1))=some ⟨ps7,Tb g (dp g) (dg g) ⟨[],g,oX g,[],[],[],(dg g).getD 0 0,false⟩⟩:=by kernel_rfl
theorem av0(id:Int)(g:a9)(i:Int):tE (jS ps7) (t7 id g i) [1,2,4,8,9,10,68,69,70]=some (t7 id g i):=by kernel_rfl
theorem atX(hv:ei f=true)(dn:¬(id<1∨id>1099511627776))(hf:fL f)(Mz:bh f.aQ+eg f.au<3600)(Ff:f.au.length<=500):
 bF Z 7 152 0 (jo (gX f id)) (jn (gX f id)) (t7 id (a_ f) 0) (aq (l7 (a_ f) .bg) 12) (ao Z 7 1):=by
 have:=atV (f:=f) (id:=id) hv dn hf Mz Ff ([],fo (a_ f),[]) ⟨rfl,rfl⟩;refine BQ (H':=aq (l7 (a_ f) (.ae 12 0 6)++[(12,.aL [] 50)]) (12+1)) ?_ (xx (g:=4) (l:=l7 (a_ f) .bg) (l':=l7 (a_ f) (.ae 12 0 6)) (vs:=[.bg,.aa (a_ f).aH.cL,J (a_ f).aH.ar,J (a_ f).aH.aM,.aB (bw (a_ f).aQ) (a_ f).aQ.length 4,.aB (ck (a_ f).au) (a_ f).au.length 6,.aS 8,.aS 9,.aS 10,.aS 11,J ((dg (a_ f)).getD 0 0),.aA false]) (eT:=[.ae 12 0 6,.aa (a_ f).aH.cL,J (a_ f).aH.ar,J (a_ f).aH.aM,.aB (bw (a_ f).aQ) (a_ f).aQ.length 4,.aB (ck (a_ f).au) (a_ f).au.length 6,.aS 8,.aS 9,.aS 10,.aS 11,J ((dg (a_ f)).getD 0 0),.aA false]) (el:=71) rfl (fun i=>by simp only[l7,dL];by_cases h:i=4<;>simp[h]) rfl (fun φ x hx=>by obtain⟨v,l,rfl,h1,h2⟩:=hx;exact⟨v,l,rfl,rL h1,h2⟩) ⟨rfl,rfl⟩) (by kernel_rfl);exact dN.rE (by kernel_rfl) (avT (a_ f)) (av0 id (a_ f) 0) this
theorem atT(hv:ei f=true)(dn:¬(id<1∨id>1099511627776))(hf:fL f)(Mz:bh f.aQ+eg f.au<3600)(Ff:f.au.length<=500):
 ∀k:c7×c7,(k.1++k.2=f.au∧fc f.au=k.1++fc k.2)->
 bF Z 7 152 0 (jo (gX f id)) (jn (gX f id)) (OH id f.au f.au.length (k.1.length:Int)) (h7a f) (ao Z 7 0):=by
 have eH:=atX (f:=f) (id:=id) hv dn hf Mz Ff;have bq:=RP hf;have yG:=K0 hv;have zY:bh (a_ f).aQ+eg (a_ f).au<20000:=by have:=Hb f.au;show bh f.aQ+eg (fc f.au)<20000;omega
 have kD:(a_ f).au.length<60000:=by have:=DN f.au;show(fc f.au).length<60000;omega
 have p_:0<(dg (a_ f)).length:=by rw[dg,GU];omega
 have mG:=ia p_;rw[Nat.zero_mul]at mG;have bH:=hf.2.2.2.1;refine cX (fun k=>k.2.length) _ _ _ _ ?_;rintro⟨A,B⟩ ⟨h1,h2⟩ ih;simp only at h1 h2 ih⊢;have ja:A.length+B.length=f.au.length:=by rw[←h1];simp
 refine hD Kp 1000 Fv (by kernel_rfl) ?_;rw[atS];refine cv (fun h=>?_) (fun h=>?_)
 ·have h:=dW h;cases B with
  |nil=>simp only[cI]at ja;simp only[fX]at h;omega
  |cons g B=>
   have an:A.length<f.au.length:=by simp only[bR]at ja;omega
   obtain⟨k,nm,ar,aM,ls,v,he,bU,alT⟩:=o5 an hf.2.2.2.2;have hg:f.au[A.length]=g:=by simp[←h1]
   rw[hg]at he;have hw:wI ((A.length:Int)+1)=((A.length+1:Nat):Int):=iA bH an;refine⟨A.length,rfl,an,k,nm,ar,aM,_,_,v,bU,cv (fun hk=>?_) (fun hk=>?_)⟩
   ·have hk:g.cQ=5:=by rw[he];simpa using hk
    have hc:fc f.au=A++[g]:=by rw[h2];simp[fc,hk]
    have ex:f.au=(A++[g])++B:=by rw[←h1];simp
    have e1:((ck f.au).drop 0).take ((A.length+1-0)*6)=ck (a_ f).au:=by show _=ck (fc f.au);rw[hc,hI,ex,Sf];exact List.take_left' (by rw[Sg];simp)
    have e2:A.length+1-0=(a_ f).au.length:=by show _=(fc f.au).length;rw[hc];simp
    refine⟨A.length+1,hw,⟨Nat.zero_le _,by omega⟩,?_⟩;rw[e1,e2];refine⟨a_ f,⟨rfl,rfl,bq,yG,zY⟩,a_ f,⟨rfl,rfl,bq,kD⟩,p_,(dg (a_ f)).getD 0 0,mG,a_ f,⟨rfl,rfl,bq⟩,(ae7 _).trans mG,rfl,?_⟩;exact eH
   ·have hk:g.cQ≠5:=by rw[he];simpa using hk
    rw[hw];have:=ih (A++[g],B) ⟨by rw[←h1];simp,by rw[h2];simp[fc,hk]⟩ (by simp);simp only[bj,bR,cI,fD]at this;exact this
 ·have h:=eJ h;cases B with
  |cons g B=>simp only[bR]at ja;simp only[fX]at h;omega
  |nil=>
   have hc:a_ f=f:=by
    have:fc f.au=f.au:=by rw[h2];simpa[fc]using h1
    obtain⟨p,a,g⟩:=f;simp only[a_]at this⊢;rw[this]
   rw[hc]at bq yG zY kD p_ mG eH;refine⟨f,⟨rfl,rfl,bq,yG,zY⟩,f,⟨rfl,rfl,bq,kD⟩,p_,(dg f).getD 0 0,mG,f,⟨rfl,rfl,bq⟩,(ae7 _).trans mG,rfl,?_⟩;exact eH
end
theorem ahy{φ:bu}{a b c d e f g h:AV}{n:Nat}{x:Value}{y:AV}(hx:VR φ (.aO [.aj [a,b,c,d,e,f,g,h,.bg],y]) x):VR φ (.aO [.aj [a,b,c,d,e,f,g,h,.ae n 0 6],y]) x:=by obtain⟨cs,rfl,v1,l1,iu,⟨oZ,rfl,w1,m1,alj,q1,w2,m2,rfl,q2,w3,m3,rfl,q3,w4,m4,rfl,q4,w5,m5,rfl,q5,w6,m6,rfl,q6,w7,m7,rfl,q7,w8,m8,rfl,q8,w9,m9,rfl,q9,q10⟩,rest⟩:=hx;exact⟨cs,rfl,_,l1,iu,⟨oZ,rfl,w1,_,alj,q1,w2,_,rfl,q2,w3,_,rfl,q3,w4,_,rfl,q4,w5,_,rfl,q5,w6,_,rfl,q6,w7,_,rfl,q7,w8,_,rfl,q8,w9,_,rfl,rL q9,q10⟩,rest⟩
theorem ae8{fn:FuncId}{args:LV}{r:mz×Int}(hr:r.2≠0->r.1=oO)(h:eC Z fn args ax (jo r) (jn r)):eC Z fn args ax (.aO [.aj (qL r.1 (.ae 0 r.1.fB.length 6)),J r.2]) (hB r.1):=by
 by_cases h0:r.2=0
 ·rw[jo,jn,aN h0,aN h0]at h;exact h
 ·rw[jo,jn,az h0,az h0]at h;rw[hr h0];exact K_ (R:=fun φ bf=>bf=φ) h (FB (l:=[]) (n:=0) (.aL [] 50) rfl) (eh _) (fun φ bf hR x hx=>by subst hR;exact ahy hx)
theorem Zh:bn Z QD:=by
 refine dc Kp ?_;rintro⟨f,id⟩ args H ⟨rfl,rfl,hf,hs⟩;simp only[G'];have hz:(gX f id).2≠0->(gX f id).1=oO:=by
  unfold gX;split
  ·intro _;rfl
  ·split
   ·intro _;rfl
   ·intro h;exact absurd rfl h
 refine ae8 hz ?_;refine eS Kp 1000 Fv 152 (by kernel_rfl) ?_;rw[atW];have Be:ei f=false∨id<1∨id>1099511627776->iI (jo (gX f id)) (jn (gX f id)) (.aO [.aj (qL oO .bg),J 1]) ax:=by intro h;rw[gX,aN h];exact⟨rfl,rfl⟩
 have hd:m_ ei (dj f)=ei f:=ye ei f;refine⟨⟨rfl,⟨f,rfl,hf⟩⟩,cv (fun h=>?_) (fun h=>cv (fun h2=>?_) (fun h2=>cv (fun h3=>?_) (fun h3=>?_)))⟩
 ·have h:(!m_ ei (dj f))=true:=h;rw[hd]at h;exact Be (.inl (by simpa using h))
 ·exact Be (.inr (.inl (dW h2)))
 ·exact Be (.inr (.inr (dW h3)))
 ·have h:(!m_ ei (dj f))=false:=h;rw[hd]at h;have hv:ei f=true:=by simpa using h
  have h2:=eJ h2;have h3:=eJ h3;obtain⟨s1,s2⟩:=hs hv;exact atT (f:=f) (id:=id) hv (by omega) hf s1 s2 ([],f.au) ⟨rfl,rfl⟩
structure Rm where
 f:a9
 c:eu
 aZ:bS
 bV:LP
 cE:Int
 cx:Int
def fQ(m:Rm)(a b c g s:Nat):bc:=.ay [.aa m.f.aH.cL,J m.f.aH.ar,J m.f.aH.aM,.aB (bw m.f.aQ) m.f.aQ.length 4,.aB (ck m.f.au) m.f.au.length 6,.ae a m.c.aR.length 1,.ae b m.c.aC.length 1,.ae c m.c.aE.length 1,.ae g m.aZ.length 6,.ae s m.bV.length 2,J m.cE,J m.cx] 82
def fI(m:Rm):bc:=.aL (bZ m.aZ) 50
def fR(m:Rm):bc:=.aL (fj m.bV) 128
def bE(m:Rm):AH:=aq [(0,fQ m 1 2 3 4 5),(1,aD m.c.aR 3),(2,aD m.c.aC 2),(3,aD m.c.aE 3),(4,fI m),(5,fR m)] 6
def iw(m:Rm):AH:=aq [(0,fQ m 1 2 3 6 7),(1,aD m.c.aR 3),(2,aD m.c.aC 2),(3,aD m.c.aE 3),(4,.bJ []),(5,.bJ []),(6,fI m),(7,fR m)] 8
def Bg(m:Rm):AH:=aq [(0,fQ m 1 2 3 6 5),(1,aD m.c.aR 3),(2,aD m.c.aC 2),(3,aD m.c.aE 3),(4,.bJ []),(5,fR m),(6,fI m)] 7
def I5(m:Rm):AH:=aq [(0,fQ m 1 2 3 4 6),(1,aD m.c.aR 3),(2,aD m.c.aC 2),(3,aD m.c.aE 3),(4,fI m),(5,.bJ []),(6,fR m)] 7
def xRm(m:Rm):AH:=aq [(0,fQ m 1 2 3 7 6),(1,aD m.c.aR 3),(2,aD m.c.aC 2),(3,aD m.c.aE 3),(4,.bJ []),(5,.bJ []),(6,fR m),(7,fI m)] 8
theorem api{m m':Rm}{a b c g s:Nat}(h0:fQ m a b c g s=fQ m' a b c g s)(h1:aD m.c.aR 3=aD m'.c.aR 3)(h2:aD m.c.aC 2=aD m'.c.aC 2)(h3:aD m.c.aE 3=aD m'.c.aE 3)(h4:fI m=fI m')(h5:fR m=fR m'):m=m':=by obtain⟨⟨⟨x1,x2,x3⟩,l,gs⟩,⟨c1,c2,c3⟩,code,set,next,cx⟩:=m;obtain⟨⟨⟨y1,y2,y3⟩,l',gs'⟩,⟨d1,d2,d3⟩,KW,axD,vU,axh⟩:=m';simp only[fQ,fI,fR,bc.ay.injEq,bc.aL.injEq,List.cons.injEq,AV.cM.injEq,AV.aa.injEq,AV.aB.injEq,AV.ae.injEq,true_and,and_true]at h0 h1 h2 h3 h4 h5;obtain⟨rfl,rfl,rfl,⟨k1,k2⟩,⟨k3,k4⟩,_,_,_,_,_,rfl,rfl⟩:=h0;rw[wP k2 k1,Hi k4 k3,wa h1,wa h2,wa h3,D_ h4,Si h5]
theorem ab1{m m':Rm}(h:bE m=bE m'):m=m':=by
 have q:=fun i=>congrArg (fun H=>AH.bD H i) h
 simp only[bE,eA]at q;exact api (dk (q 0)) (dk (q 1)) (dk (q 2)) (dk (q 3)) (dk (q 4)) (dk (q 5))
theorem adP(m:Rm):Mv (bE m) (Bg m) 4:=oG (l':=[(0,fQ m 1 2 3 6 5),(1,aD m.c.aR 3),(2,aD m.c.aC 2),(3,aD m.c.aE 3),(4,.bJ []),(5,fR m)]) rfl rfl rfl
theorem adO(m:Rm):Mv (Bg m) (iw m) 5:=oG (l':=[(0,fQ m 1 2 3 6 7),(1,aD m.c.aR 3),(2,aD m.c.aC 2),(3,aD m.c.aE 3),(4,.bJ []),(5,.bJ []),(6,fI m)]) rfl rfl rfl
theorem Sr{f:FuncId}{args:LV}{m0 m:Rm}{v:AV}(hp:∀r,eK r v=some v)(h:eC Z f args (bE m0) v (Bg m)):eC Z f args (bE m0) v (iw m):=
 Ec h (adO m) (hp _) (by show 6<=7;omega)
theorem aa2{f:FuncId}{args:LV}{m0 m:Rm}{v:AV}(hp:∀r,eK r v=some v)(h:eC Z f args (bE m0) v (bE m)):eC Z f args (bE m0) v (iw m):=
 Sr hp (Ec h (adP m) (hp _) (eh _))
def n9{W:Type}(args:W->LV)(step:Rm->W->Rm)(val:Rm->W->AV)(ok:Rm->W->Prop):dP (Rm×W)where
 bN w A H:=A=.ad 0 0::args w.2∧H=bE w.1∧ok w.1 w.2
 v w:=val w.1 w.2
 aU w:=iw (step w.1 w.2)
theorem vR{W:Type}{args:W->LV}{step:Rm->W->Rm}{val:Rm->W->AV}{ok:Rm->W->Prop}(hi:∀a b,args a=args b->a=b):(n9 args step val ok).dT:=by rintro⟨m,w⟩ ⟨m',w'⟩ A H ⟨h1,h2,_⟩ ⟨h3,h4,_⟩;simp only at h1 h2 h3 h4;rw[h2]at h4;rw[h1]at h3;rw[ab1 h4,hi _ _ (List.cons.inj h3).2]
def Cq{W:Type}(args:W->LV)(step:Rm->W->Rm)(val:Rm->W->AV)(ok:Rm->W->Prop):dP (Rm×W)where
 bN w A H:=A=.ad 0 0::args w.2∧H=bE w.1∧ok w.1 w.2
 v w:=val w.1 w.2
 aU w:=bE (step w.1 w.2)
theorem VH{W:Type}{args:W->LV}{step:Rm->W->Rm}{val:Rm->W->AV}{ok:Rm->W->Prop}(hi:∀a b,args a=args b->a=b):(Cq args step val ok).dT:=by rintro⟨m,w⟩ ⟨m',w'⟩ A H ⟨h1,h2,_⟩ ⟨h3,h4,_⟩;simp only at h1 h2 h3 h4;rw[h2]at h4;rw[h1]at h3;rw[ab1 h4,hi _ _ (List.cons.inj h3).2]
def rl{W:Type}(_:Rm)(_:W):AV:=.aO []
def GM(i:ba):LV:=[.aj (bP i)]
theorem ahF(a b:ba)(h:GM a=GM b):a=b:=by simp only[GM,List.cons.injEq,AV.aj.injEq,and_true]at h;exact Bm h
theorem Zy(a b:Unit)(h:a0 a=a0 b):a=b:=rfl
def Rm.ah(m:Rm)(i:ba):Rm:=⟨m.f,m.c,m.aZ++[i],m.bV,m.cE,m.cx⟩
def Rm.bo(m:Rm):Rm:=⟨m.f,m.c,m.aZ,m.bV,wI (m.cE+1),if wI (m.cE+1)>m.cx then wI (m.cE+1)else m.cx⟩
def cu(v:Int):LP->Option Int
 |[]=>none
 |p::l=>if p.1=v then some p.2 else cu v l
def OY(m:Rm)(v:Int):AV:=.aO [J ((cu v m.bV).getD 0),.aA (cu v m.bV).isSome]
def js{W:Type}(m:Rm)(_:W):Prop:=m.aZ.length<65536
def QF:Ev.bC:=cB 34 (cO (n9 GM Rm.ah rl js) (vR ahF) cV) QD
def Kq:Ev.bC:=cB 72 (cO (Cq a0 (fun m _=>m.bo) (fun m _=>J m.bo.cE) (fun _ _=>True)) (VH Zy) cV) QF
def QH:Ev.bC:=cB 38 (cO (Cq a1 (fun m _=>m) OY (fun m _=>m.bV.length<65536)) (VH Ky) cV) Kq
def vY(f:a9):Prop:=fL f∧ei f=true∧bh f.aQ+eg f.au<50000
def Rm.iM(m:Rm)(v:Int):Bool:=decide (lZ v (fT m.f)=1)
def Kr:Ev.bC:=cB 70 (cO (Cq a1 (fun m _=>m) (fun m v=>.aA (m.iM v)) (fun m _=>vY m.f)) (VH Ky) cV) QH
theorem asA(m:Rm)(i:ba)(L:LT)(Q:QT):
 b_ Z QD (fun _=>[]) L Q 1000 34 [.ad 0 0,.aj (bP i)] (bE m)=(
 ((bZ m.aZ).length=m.aZ.length*6∧m.aZ.length+1<=65536∧true=true∧true=true)∧Q (.aO []) (aq [(0,.ay [.aa m.f.aH.cL,J m.f.aH.ar,J m.f.aH.aM,.aB (bw m.f.aQ) m.f.aQ.length 4,.aB (ck m.f.au) m.f.au.length 6,.ae 1 m.c.aR.length 1,.ae 2 m.c.aC.length 1,.ae 3 m.c.aE.length 1,.ae 6 (m.aZ.length+1) 6,.ae 5 m.bV.length 2,J m.cE,J m.cx] 82),(1,aD m.c.aR 3),(2,aD m.c.aC 2),(3,aD m.c.aE 3),(4,.bJ []),(5,fR m),(6,.aL (bZ m.aZ++bP i) 50)] 7)):=by kernel_rfl
theorem atF(m:Rm)(L:LT)(Q:QT):
 b_ Z QF (fun _=>[]) L Q 1000 72 [.ad 0 0] (bE m)=(
 Q (J (wI (m.cE+1))) (aq [(0,.ay [.aa m.f.aH.cL,J m.f.aH.ar,J m.f.aH.aM,.aB (bw m.f.aQ) m.f.aQ.length 4,.aB (ck m.f.au) m.f.au.length 6,.ae 1 m.c.aR.length 1,.ae 2 m.c.aC.length 1,.ae 3 m.c.aE.length 1,.ae 4 m.aZ.length 6,.ae 5 m.bV.length 2,J (wI (m.cE+1)),J (if wI (m.cE+1)>m.cx then wI (m.cE+1)else m.cx)] 82),(1,aD m.c.aR 3),(2,aD m.c.aC 2),(3,aD m.c.aE 3),(4,fI m),(5,fR m)] 6)):=by kernel_rfl
theorem asJ(m:Rm)(v:Int)(L:LT)(Q:QT):
 b_ Z Kq (fun _=>[0,1,6]) L Q 1000 38 [.ad 0 0,J v] (bE m)=(
 L (bk [(0,.ad 0 0),(1,J v),(6,J 0)]) (bE m) (ao Z 38 0)):=by kernel_rfl
theorem asK(m:Rm)(v i:Int)(L:LT)(Q:QT):
 cT Z Kq (fun _=>[0,1,6]) L Q 1000 38 6 (bk [(0,.ad 0 0),(1,J v),(6,J i)]) (ao Z 38 0) (bE m)=(
 ai (decide (i<Int.ofNat m.bV.length)) (∃aI:Nat,i=(aI:Int)∧aI<m.bV.length∧(∃n:Int,bA Z 2 (fj m.bV) (aI*2+0)=some (J n:AV)∧ai (n==v) (∃bz:Nat,i=(bz:Int)∧bz<m.bV.length∧(∃aP:Int,bA Z 3 (fj m.bV) (bz*2+1)=some (J aP:AV)∧Q (.aO [J aP,.aA true]) (bE m))) (L (bk [(0,.ad 0 0),(1,J v),(6,J (wI (i+1)))]) (bE m) (ao Z 38 0)))) (Q (.aO [J 0,.aA false]) (bE m))):=by kernel_rfl
theorem atB(m:Rm)(v:Int)(L:LT)(Q:QT):
 b_ Z QH (fun _=>[]) L Q 1000 70 [.ad 0 0,J v] (bE m)=(
 ∃w:a9×Int,(([.aj (dj m.f),J v]:LV)=[.aj (dj w.1),J w.2]∧aq [] 0=ax∧fL w.1∧ei w.1=true∧bh w.1.aQ+eg w.1.au<50000)∧Q (.aA (((lZ w.2 (fT w.1):Nat):Int)==1)) (bE m)):=by kernel_rfl
theorem Zi:bn Z QF:=by refine dc Zh ?_;rintro⟨m,i⟩ args H ⟨rfl,rfl,hl⟩;have hl:m.aZ.length<65536:=hl;simp only[n9,GM,rl];refine Sr (fun r=>rfl) ?_;refine eS Zh 1000 (fun _=>[]) 14 (by kernel_rfl) ?_;rw[asA];have h1:=o3 m.aZ;refine⟨⟨h1,by omega,rfl,rfl⟩,rfl,?_⟩;simp only[Bg,Rm.ah,fQ,fI,zz,bZ,gz,bj,bR,cI,fD];rfl
theorem QG:bn Z Kq:=by refine dc Zi ?_;rintro⟨m,i⟩ args H ⟨rfl,rfl,hl⟩;simp only[Cq,a0];refine eS Zi 1000 (fun _=>[]) 26 (by kernel_rfl) ?_;rw[atF];exact⟨rfl,rfl⟩
theorem NR{A B:LP}{p:Int×Int}{i:Nat}(h:i=A.length):bA Z 2 (fj (A++p::B)) (i*2+0)=some (J p.1)∧bA Z 3 (fj (A++p::B)) (i*2+1)=some (J p.2):=by
 subst h;rw[FK,v5,Hk];have hl:=Hl A;constructor
 ·rw[xB (by omega)];have:A.length*2+0-(fj A).length=0:=by omega
  rw[this];rfl
 ·rw[xB (by omega)];have:A.length*2+1-(fj A).length=1:=by omega
  rw[this];rfl
theorem asI{m:Rm}{v:Int}(hl:m.bV.length<65536):
 ∀k:LP×LP,(k.1++k.2=m.bV∧cu v m.bV=cu v k.2)->
 bF Z 38 34 6 (OY m v) (bE m) (bk [(0,.ad 0 0),(1,J v),(6,J (k.1.length:Int))]) (bE m) (ao Z 38 0):=by
 refine cX (fun k=>k.2.length) _ _ _ _ ?_;rintro⟨A,B⟩ ⟨h1,h2⟩ ih;simp only at h1 h2 ih⊢;have ja:A.length+B.length=m.bV.length:=by rw[←h1];simp
 refine hD QG 1000 (fun _=>[0,1,6]) (by kernel_rfl) ?_;rw[asK];refine cv (fun h=>?_) (fun h=>?_)
 ·have h:=dW h;cases B with
  |nil=>simp only[cI]at ja;simp only[fX]at h;omega
  |cons p B=>
   simp only[bR]at ja;have hp:=NR (A:=A) (B:=B) (p:=p) rfl;rw[h1]at hp;refine⟨A.length,rfl,by omega,p.1,hp.1,cv (fun hk=>?_) (fun hk=>?_)⟩
   ·have hk:p.1=v:=by simpa using hk
    refine⟨A.length,rfl,by omega,p.2,hp.2,?_⟩;simp only[cu,hk,if_true]at h2;rw[OY,h2];exact⟨rfl,rfl⟩
   ·have hk:p.1≠v:=by simpa using hk
    simp only[cu,hk,if_false]at h2;have hw:wI ((A.length:Int)+1)=((A.length+1:Nat):Int):=fE (iz _) (by omega);rw[hw];have:=ih (A++[p],B) ⟨by rw[←h1];simp,h2⟩ (by simp);simp only[bj,bR,cI,fD]at this;exact this
 ·have h:=eJ h;cases B with
  |cons p B=>simp only[bR]at ja;simp only[fX]at h;omega
  |nil=>simp only[cu]at h2;rw[OY,h2];exact⟨rfl,rfl⟩
theorem Zj:bn Z QH:=by refine dc QG ?_;rintro⟨m,v⟩ args H ⟨rfl,rfl,hl⟩;have hl:m.bV.length<65536:=hl;simp only[Cq,a1];refine eS QG 1000 (fun _=>[0,1,6]) 34 (by kernel_rfl) ?_;rw[asJ];exact asI (m:=m) (v:=v) hl ([],m.bV) ⟨rfl,rfl⟩
theorem QI:bn Z Kr:=by refine dc Zj ?_;rintro⟨m,v⟩ args H ⟨rfl,rfl,h1,h2,h3⟩;simp only[Cq,a1];refine eS Zj 1000 (fun _=>[]) 12 (by kernel_rfl) ?_;rw[atB];refine⟨(m.f,v),⟨rfl,rfl,h1,h2,h3⟩,?_,rfl⟩;congr 1;unfold Rm.iM;by_cases h:lZ v (fT m.f)=1<;>simp[h];omega
def kG(v:Int):Nat->Int->LI->Int
 |_,r,[]=>r
 |i,r,x::l=>kG v (i+1) (if x=v then-(i:Int)-1 else r) l
def Rm.aC(m:Rm)(v:Int):Int:=kG v 0 0 m.c.aC
def Rm.gY(m:Rm)(v:Int):Int:=if m.aC v=0 then m.bo.cE else m.aC v
def Rm.gw(m:Rm)(v:Int):Rm:=if m.aC v=0 then⟨m.f,m.c,m.aZ,m.bV++[(v,m.bo.cE)],m.bo.cE,m.bo.cx⟩else⟨m.f,m.c,m.aZ,m.bV++[(v,m.aC v)],m.cE,m.cx⟩
def I3{W:Type}(m:Rm)(_:W):Prop:=m.bV.length<65536∧m.c.aC.length<65536
def QJ:Ev.bC:=cB 71 (cO (n9 a1 Rm.gw (fun m v=>J (m.gY v)) I3) (vR Ky) cV) Kr
def Rm.lQ(m:Rm):Rm:=⟨m.f,m.c,jt m.aZ ⟨10,0,0,1,[],0⟩,m.bV,m.cE,m.cx⟩
def Rm.gP(m:Rm)(t:aK):Rm:=
 if t.cY=1 then m.ah ⟨8,0,0,t.n,[],0⟩
 else if t.cY=2 then m.ah ⟨9,0,0,0,t.fZ,0⟩
 else if m.iM t.n=true then m.lQ
 else match cu t.n m.bV with
  |some r=>m.ah ⟨7,r,0,0,[],0⟩
  |none=>(m.gw t.n).ah ⟨6,m.gY t.n,0,0,[],0⟩
def N3(m:Rm):Prop:=m.aZ.length<60000∧m.bV.length<60000∧m.c.aC.length<60000∧vY m.f
def GN(t:aK):LV:=[.aj (dy t)]
theorem ahG(a b:aK)(h:GN a=GN b):a=b:=by simp only[GN,List.cons.injEq,AV.aj.injEq,and_true]at h;exact tY h
def QL:Ev.bC:=cB 110 (cO (n9 GN Rm.gP rl (fun m _=>N3 m∧m.aZ≠[])) (vR ahG) cV) QJ
abbrev Jx x0 x1 x2:=bk [(0,.ad 0 0),(1,J x0),(5,J x1),(6,J x2)]
theorem atD(m:Rm)(v:Int)(L:LT)(Q:QT):
 b_ Z Kr (fun _=>[0,1,5,6]) L Q 1000 71 [.ad 0 0,J v] (bE m)=(
 L (Jx v 0 0) (bE m) (ao Z 71 0)):=by kernel_rfl
theorem atE(m:Rm)(v r i:Int)(L:LT)(Q:QT):
 cT Z Kr (fun _=>[0,1,5,6]) L Q 1000 71 6 (Jx v r i) (ao Z 71 0) (bE m)=(
 ai (decide (i<Int.ofNat m.c.aC.length)) (∃aI:Nat,i=(aI:Int)∧aI<m.c.aC.length∧(∃n:Int,bA Z 2 (aW m.c.aC) (aI*1)=some (J n:AV)∧ai (n==v) (L (Jx v (wI (wI (0-i)-1)) (wI (i+1))) (bE m) (ao Z 71 0)) (L (Jx v r (wI (i+1))) (bE m) (ao Z 71 0)))) (ai (r==0) (∃w:Rm×Unit,(([.ad 0 0]:LV)=[.ad 0 0]∧bE m=bE w.1∧True)∧((fj w.1.bo.bV).length=w.1.bo.bV.length*2∧w.1.bo.bV.length+1<=65536∧true=true∧true=true)∧Q (J w.1.bo.cE) (aq [(0,.ay [.aa w.1.bo.f.aH.cL,J w.1.bo.f.aH.ar,J w.1.bo.f.aH.aM,.aB (bw w.1.bo.f.aQ) w.1.bo.f.aQ.length 4,.aB (ck w.1.bo.f.au) w.1.bo.f.au.length 6,.ae 1 w.1.bo.c.aR.length 1,.ae 2 w.1.bo.c.aC.length 1,.ae 3 w.1.bo.c.aE.length 1,.ae 4 w.1.bo.aZ.length 6,.ae 6 (w.1.bo.bV.length+1) 2,J w.1.bo.cE,J w.1.bo.cx] 82),(1,aD w.1.bo.c.aR 3),(2,aD w.1.bo.c.aC 2),(3,aD w.1.bo.c.aE 3),(4,fI w.1.bo),(5,.bJ []),(6,.aL (fj w.1.bo.bV++[J v,J w.1.bo.cE]) 128)] 7)) (((fj m.bV).length=m.bV.length*2∧m.bV.length+1<=65536∧true=true∧true=true)∧Q (J r) (aq [(0,.ay [.aa m.f.aH.cL,J m.f.aH.ar,J m.f.aH.aM,.aB (bw m.f.aQ) m.f.aQ.length 4,.aB (ck m.f.au) m.f.au.length 6,.ae 1 m.c.aR.length 1,.ae 2 m.c.aC.length 1,.ae 3 m.c.aE.length 1,.ae 4 m.aZ.length 6,.ae 6 (m.bV.length+1) 2,J m.cE,J m.cx] 82),(1,aD m.c.aR 3),(2,aD m.c.aC 2),(3,aD m.c.aE 3),(4,fI m),(5,.bJ []),(6,.aL (fj m.bV++[J v,J r]) 128)] 7)))):=by kernel_rfl
theorem afK(m:Rm)(k n:Int)(s:LN)(cs:LV)(len:Nat)(L:LT)(Q:QT):
 b_ Z QJ (fun _=>[]) L Q 1000 110 [.ad 0 0,.aj [J k,J n,.aa s,.aB cs len 4]] (bE m)=(
 ai (k==1) (∃w:Rm×ba,(([.ad 0 0,.aj [J 8,J 0,J 0,J n,.aa [],J 0]]:LV)=[.ad 0 0,.aj (bP w.2)]∧bE m=bE w.1∧js w.1 w.2)∧Q (.aO []) (iw (w.1.ah w.2))) (ai (k==2) (∃w:Rm×ba,(([.ad 0 0,.aj [J 9,J 0,J 0,J 0,.aa s,J 0]]:LV)=[.ad 0 0,.aj (bP w.2)]∧bE m=bE w.1∧js w.1 w.2)∧Q (.aO []) (iw (w.1.ah w.2))) (∃w:Rm×Int,(([.ad 0 0,J n]:LV)=[.ad 0 0,J w.2]∧bE m=bE w.1∧vY w.1.f)∧ai (w.1.iM w.2) (∃i:Nat,wI (Int.ofNat w.1.aZ.length-1)=(i:Int)∧i<w.1.aZ.length∧(∃aP:Int,bA Z 3 (bZ w.1.aZ) (i*6+0)=some (J aP:AV)∧ai (aP==10) (∃aI:Nat,wI (Int.ofNat w.1.aZ.length-1)=(aI:Int)∧aI<w.1.aZ.length∧(∃bp:Int,bA Z 2 (bZ w.1.aZ) (aI*6+3)=some (J bp:AV)∧(∃bz:Nat,wI (Int.ofNat w.1.aZ.length-1)=(bz:Int)∧bz<w.1.aZ.length∧bz*6+3+1<=(bZ w.1.aZ).length∧Q (.aO []) (aq [(0,fQ w.1 1 2 3 4 5),(1,aD w.1.c.aR 3),(2,aD w.1.c.aC 2),(3,aD w.1.c.aE 3),(4,.aL (fA (bZ w.1.aZ) (bz*6+3) [J (wI (bp+1))]) 50),(5,fR w.1)] 6)))) (∃ab:Rm×ba,(([.ad 0 0,.aj [J 10,J 0,J 0,J 1,.aa [],J 0]]:LV)=[.ad 0 0,.aj (bP ab.2)]∧bE w.1=bE ab.1∧js ab.1 ab.2)∧Q (.aO []) (iw (ab.1.ah ab.2))))) (∃ab:Rm×Int,(([.ad 0 0,J n]:LV)=[.ad 0 0,J ab.2]∧bE w.1=bE ab.1∧ab.1.bV.length<65536)∧ai (Option.isSome (cu ab.2 ab.1.bV)) (∃aJ:Rm×ba,(([.ad 0 0,.aj [J 7,J (Option.getD (cu ab.2 ab.1.bV) 0),J 0,J 0,.aa [],J 0]]:LV)=[.ad 0 0,.aj (bP aJ.2)]∧bE ab.1=bE aJ.1∧js aJ.1 aJ.2)∧Q (.aO []) (iw (aJ.1.ah aJ.2))) (∃aJ:Rm×Int,(([.ad 0 0,J n]:LV)=[.ad 0 0,J aJ.2]∧bE ab.1=bE aJ.1∧I3 aJ.1 aJ.2)∧(∃cU:Rm×ba,(([.ad 0 0,.aj [J 6,J (aJ.1.gY aJ.2),J 0,J 0,.aa [],J 0]]:LV)=[.ad 0 0,.aj (bP cU.2)]∧bE (aJ.1.gw aJ.2)=bE cU.1∧js cU.1 cU.2)∧Q (.aO []) (iw (cU.1.ah cU.2)))))))):=by kernel_rfl
theorem anz(m:Rm):Mv (I5 m) (xRm m) 4:=oG (l':=[(0,fQ m 1 2 3 7 6),(1,aD m.c.aR 3),(2,aD m.c.aC 2),(3,aD m.c.aE 3),(4,.bJ []),(5,.bJ []),(6,fR m)]) rfl rfl rfl
theorem avU(m:Rm):om 6 [] (xRm m)=some ⟨[(0,0),(1,1),(2,2),(3,3),(4,4),(5,5),(7,6),(6,7)],iw m⟩:=by kernel_rfl
theorem ajI{f:FuncId}{args:LV}{m0 m:Rm}{v:AV}(hp:∀r,eK r v=some v)(hi:xn v=[])(h:eC Z f args (bE m0) v (I5 m)):eC Z f args (bE m0) v (iw m):=by have h1:=Ec h (anz m) (hp _) (show 6<=7 by omega);refine Ss h1 (ps:=[(0,0),(1,1),(2,2),(3,3),(4,4),(5,5),(7,6),(6,7)]) ?_ (hp _);rw[hi];exact avU m
theorem aaS(l:LP)(p:Int×Int):fj (l++[p])=fj l++[J p.1,J p.2]:=by rw[Hk];rfl
theorem atC{m:Rm}{v:Int}(hs:m.bV.length<65536)(hl:m.c.aC.length<65536):
 ∀k:LI×LI×Int,(k.1++k.2.1=m.c.aC∧kG v k.1.length k.2.2 k.2.1=m.aC v)->
 bF Z 71 47 6 (J (m.gY v)) (I5 (m.gw v)) (Jx v k.2.2 (k.1.length:Int)) (bE m) (ao Z 71 0):=by
 refine cX (fun k=>k.2.1.length) _ _ _ _ ?_;rintro⟨A,B,r⟩ ⟨h1,h2⟩ ih;simp only at h1 h2 ih⊢;have ja:A.length+B.length=m.c.aC.length:=by rw[←h1];simp
 refine hD QI 1000 (fun _=>[0,1,5,6]) (by kernel_rfl) ?_;rw[atE];refine cv (fun h=>?_) (fun h=>?_)
 ·have h:=dW h;cases B with
  |nil=>simp only[cI]at ja;simp only[fX]at h;omega
  |cons x B=>
   simp only[bR]at ja;have hw:wI ((A.length:Int)+1)=((A.length+1:Nat):Int):=fE (iz _) (by omega);have hn:wI (wI (0-(A.length:Int))-1)= -(A.length:Int)-1:=by rw[dz (x:=0-(A.length:Int)) (by omega) (by omega),dz (by omega) (by omega)];omega
   refine⟨A.length,rfl,by omega,x,by rw[←h1];exact qx rfl,?_⟩;rw[hw,hn];refine cv (fun hk=>?_) (fun hk=>?_)
   ·have hk:x=v:=by simpa using hk
    simp only[kG,hk,if_true]at h2;have:=ih (A++[x],B,-(A.length:Int)-1) ⟨by rw[←h1];simp,by simpa using h2⟩ (by simp);simp only[bj,bR,cI,fD]at this;exact this
   ·have hk:x≠v:=by simpa using hk
    simp only[kG,hk,if_false]at h2;have:=ih (A++[x],B,r) ⟨by rw[←h1];simp,by simpa using h2⟩ (by simp);simp only[bj,bR,cI,fD]at this;exact this
 ·have h:=eJ h;cases B with
  |cons p B=>simp only[bR]at ja;simp only[fX]at h;omega
  |nil=>
   simp only[kG]at h2;subst h2;have mK:=Hl m.bV;refine cv (fun h0=>?_) (fun h0=>?_)
   ·have h0:m.aC v=0:=by simpa using h0
    refine⟨(m,()),⟨rfl,rfl,trivial⟩,⟨mK,by show m.bV.length+1<=65536;omega,rfl,rfl⟩,?_⟩;rw[Rm.gY,Rm.gw,aN h0,aN h0];refine⟨rfl,?_⟩;simp only[I5,fR,fQ,aaS,bj,bR,cI,fD];rfl
   ·have h0:¬m.aC v=0:=by simpa using h0
    refine⟨⟨mK,by omega,rfl,rfl⟩,?_⟩;rw[Rm.gY,Rm.gw,az h0,az h0];refine⟨rfl,?_⟩;simp only[I5,fR,fQ,aaS,bj,bR,cI,fD];rfl
theorem QK:bn Z QJ:=by refine dc QI ?_;rintro⟨m,v⟩ args H ⟨rfl,rfl,hs,hl⟩;simp only[n9,a1];refine ajI (fun r=>rfl) rfl ?_;refine eS QI 1000 (fun _=>[0,1,5,6]) 47 (by kernel_rfl) ?_;rw[atD];exact atC (m:=m) (v:=v) hs hl ([],m.c.aC,0) ⟨rfl,rfl⟩
theorem Zk:bn Z QL:=by
 refine dc QK ?_;rintro⟨m,⟨k,n,s,l⟩⟩ args H ⟨rfl,rfl,⟨hc,hs,hp,hf⟩,c6⟩;have hc:m.aZ.length<60000:=hc;have hs:m.bV.length<60000:=hs;have hp:m.c.aC.length<60000:=hp;have c6:m.aZ≠[]:=c6;simp only[n9,GN,rl,dy];by_cases ab7:k≠1∧k≠2∧m.iM n=true∧∃d j,m.aZ=d++[j]∧j.op=10
 ·obtain⟨h1,h2,h3,d,j,hd,hj⟩:=ab7;have e:m.gP (.mk k n s l)=m.lQ:=by simp[Rm.gP,aK.cY,aK.n,h1,h2,h3]
  rw[e];refine aa2 (fun r=>rfl) ?_;refine eS QK 1000 (fun _=>[]) 77 (by kernel_rfl) ?_;rw[afK];have bH:m.aZ.length=d.length+1:=by rw[hd];simp
  have e1:wI (Int.ofNat m.aZ.length-1)=((d.length:Nat):Int):=by rw[bH,dz (by simp only[fX];omega) (by simp only[fX];omega)];simp
  have vA:(bZ d).length=d.length*6:=o3 d;have g0:bA Z 3 (bZ m.aZ) (d.length*6+0)=some (J j.op):=by rw[v5,hd,vh,xB (by omega)];simp[vA,bP]
  have g3:bA Z 2 (bZ m.aZ) (d.length*6+3)=some (J j.n):=by rw[FK,hd,vh,xB (by omega)];simp[vA,bP]
  refine cv (fun h=>absurd (by simpa using h) h1) (fun _=>cv (fun h=>absurd (by simpa using h) h2) (fun _=>⟨(m,n),⟨rfl,rfl,hf⟩,cv (fun _=>?_) (fun h=>?_)⟩))
  ·refine⟨d.length,e1,by show d.length<m.aZ.length;omega,j.op,g0,cv (fun _=>?_) (fun h=>absurd hj (by simpa using h))⟩;refine⟨d.length,e1,by show d.length<m.aZ.length;omega,j.n,g3,d.length,e1,by show d.length<m.aZ.length;omega,by show d.length*6+3+1<=(bZ m.aZ).length;rw[o3];omega,rfl,?_⟩;have e2:bZ (jt m.aZ ⟨10,0,0,1,[],0⟩)=fA (bZ m.aZ) (d.length*6+3) [J (wI (j.n+1))]:=by
    rw[hd,sT rfl,aN hj,vh,vh];have:bP j=[J j.op,J j.r,J j.a]++[J j.n,.aa j.cR,J j.ar]:=rfl;have e2:bZ d++bP j=(bZ d++[J j.op,J j.r,J j.a])++[J j.n,.aa j.cR,J j.ar]:=by rw[this,iy]
    unfold fA;rw[e2,List.take_left' (by simp[vA]),List.drop_append];simp[vA,bP]
   have e3:(jt m.aZ ⟨10,0,0,1,[],0⟩).length=m.aZ.length:=by rw[hd,sT rfl,aN hj];simp
   simp only[bE,fQ,fI,Rm.lQ,e2,e3];rfl
  ·have h:m.iM n=false:=h;rw[h3]at h;cases h
 ·refine eS QK 1000 (fun _=>[]) 77 (by kernel_rfl) ?_;rw[afK];refine cv (fun h=>?_) (fun h=>cv (fun h2=>?_) (fun h2=>⟨(m,n),⟨rfl,rfl,hf⟩,cv (fun h3=>?_) (fun h3=>?_)⟩))
  ·have h:k=1:=by simpa using h
   have e:m.gP (.mk k n s l)=m.ah ⟨8,0,0,n,[],0⟩:=by simp[Rm.gP,aK.cY,aK.n,h]
   rw[e];exact⟨(m,⟨8,0,0,n,[],0⟩),⟨rfl,rfl,by show m.aZ.length<65536;omega⟩,rfl,rfl⟩
  ·have h:k≠1:=by simpa using h
   have h2:k=2:=by simpa using h2
   have e:m.gP (.mk k n s l)=m.ah ⟨9,0,0,0,s,0⟩:=by simp[Rm.gP,aK.cY,aK.fZ,h,h2]
   rw[e];exact⟨(m,⟨9,0,0,0,s,0⟩),⟨rfl,rfl,by show m.aZ.length<65536;omega⟩,rfl,rfl⟩
  ·have h:k≠1:=by simpa using h
   have h2:k≠2:=by simpa using h2
   have h3:m.iM n=true:=h3;have e:m.gP (.mk k n s l)=m.lQ:=by simp[Rm.gP,aK.cY,aK.n,h,h2,h3]
   rw[e];obtain⟨d,j,hd⟩:∃d j,m.aZ=d++[j]:=⟨m.aZ.dropLast,m.aZ.getLast c6,(List.dropLast_concat_getLast c6).symm⟩;have hj:j.op≠10:=fun hh=>ab7 ⟨h,h2,h3,d,j,hd,hh⟩
   have bH:m.aZ.length=d.length+1:=by rw[hd];simp
   have e1:wI (Int.ofNat m.aZ.length-1)=((d.length:Nat):Int):=by rw[bH,dz (by simp only[fX];omega) (by simp only[fX];omega)];simp
   have vA:(bZ d).length=d.length*6:=o3 d;have g0:bA Z 3 (bZ m.aZ) (d.length*6+0)=some (J j.op):=by rw[v5,hd,vh,xB (by omega)];simp[vA,bP]
   have e2:m.lQ=m.ah ⟨10,0,0,1,[],0⟩:=by rw[Rm.lQ,Rm.ah,hd,sT rfl,az hj]
   rw[e2];refine⟨d.length,e1,by show d.length<m.aZ.length;omega,j.op,g0,cv (fun hh=>absurd (by simpa using hh) hj) (fun _=>?_)⟩;exact⟨(m,⟨10,0,0,1,[],0⟩),⟨rfl,rfl,by show m.aZ.length<65536;omega⟩,rfl,rfl⟩
  ·have h:k≠1:=by simpa using h
   have h2:k≠2:=by simpa using h2
   have h3:m.iM n=false:=h3;refine⟨(m,n),⟨rfl,rfl,by show m.bV.length<65536;omega⟩,cv (fun h4=>?_) (fun h4=>?_)⟩
   ·have h4:(cu n m.bV).isSome=true:=h4;obtain⟨r,hr⟩:=Option.isSome_iff_exists.1 h4;have e:m.gP (.mk k n s l)=m.ah ⟨7,r,0,0,[],0⟩:=by simp[Rm.gP,aK.cY,aK.n,h,h2,h3,hr]
    rw[e];refine⟨(m,⟨7,r,0,0,[],0⟩),⟨?_,rfl,by show m.aZ.length<65536;omega⟩,rfl,rfl⟩;show[AV.ad 0 0,.aj [J 7,J ((cu n m.bV).getD 0),J 0,J 0,.aa [],J 0]]=_;rw[hr];rfl
   ·have h4:(cu n m.bV).isSome=false:=h4;have hr:cu n m.bV=none:=by
     cases hh:cu n m.bV with
     |none=>rfl
     |some r=>rw[hh]at h4;cases h4
    have e:m.gP (.mk k n s l)=(m.gw n).ah ⟨6,m.gY n,0,0,[],0⟩:=by simp[Rm.gP,aK.cY,aK.n,h,h2,h3,hr]
    rw[e];refine⟨(m,n),⟨rfl,rfl,by show m.bV.length<65536;omega,by show m.c.aC.length<65536;omega⟩,(m.gw n,⟨6,m.gY n,0,0,[],0⟩),⟨rfl,rfl,?_⟩,rfl,rfl⟩;show(m.gw n).aZ.length<65536;unfold Rm.gw;split<;>(show m.aZ.length<65536;omega)
end
end Go.Cl
