/- Part of a proof of ClauseValid. -/
import Derived.Test.YtanclcoobcaemaaGreatVB6
set_option linter.all false
set_option linter.unusedSectionVars false
set_option maxRecDepth 100000
namespace Go.Ev
theorem KJ{P:Program}{f:FuncId}{args:LV}{H0 H H2:AH}{v v2:AV}{ps:List (Nat×Nat)}(h:dT P f args H0 v H)(hv:oT H0.bL (xM v) H=some ⟨ps,H2⟩)(hr:fi (jA ps) v=some v2):dT P f args H0 v2 H2:=by
 intro φ w bs args' cs ha hw hl;obtain⟨aW,w',g1,g2,g3,g4⟩:=h φ w bs args' cs ha hw hl;obtain⟨tt,n,rfl,bn,kG,jG⟩:=Jg hv;refine⟨mI ps aW,w',g1.rU bn kG,g2.ub ⟨fun id dF=>by simp[mI,jG id dF],fun _ _ h=>h⟩,g3,?_⟩
 ·obtain⟨iJ,e',⟨v',rfl,k1⟩,k2⟩:=g4;exact⟨iJ,_,⟨v',rfl,rM (BU bn aW) hr k1⟩,k2⟩
theorem xY{m0 g n:Nat}{l l':List (Nat×aZ)}{vs eV:LV}{el t:TypeId}(hg:dq l g=some (.aw vs el))(hl:∀id,dq l' id=if id=g then some (.aw eV el)else dq l id)(hn:dq l n=none)(hr:∀φ x,bc φ vs x->bc φ eV x)(bF:eV.length=vs.length∧eV.all AV.dR=vs.all AV.dR):
 ox m0 (an l n) (an (l'++[(n,.aF [] t)]) (n+1)) (fun φ aW=>aW=φ):=by
 have Bg:g≠n:=by rintro rfl;rw[hg]at hn;cases hn
 have S9:dq l' n=none:=by rw[hl,aB (Ne.symm Bg)];exact hn
 have h1:=BJ (m0:=m0) (n:=n) (l:=l') (.aF [] t) S9;refine⟨Nat.le_succ n,fun φ bs w cI hw=>?_⟩;have n_:WR φ bs (an l' n) w:=by
  refine⟨?_,?_,hw.lt,?_,hw.sE rfl (fun _ _ _=>rfl) fun id ob e h1 l1 h2=>.inl ?_⟩
  ·intro id ob e k1 k2;rw[dy,hl]at k1;by_cases dF:id=g
   ·rw[aY dF]at k1;cases k1;obtain⟨o,q1,q2⟩:=hw.ey id _ e (by rw[dy,dF];exact hg) k2;refine⟨o,q1,?_⟩;obtain⟨cs,ic,rfl,a1,a2,a3,a4⟩:=q2;exact⟨cs,ic,rfl,a1,by rw[bF.1];exact a2,by rw[bF.1];exact hr _ _ a3,by rw[bF.2];exact a4⟩
   ·rw[aB dF]at k1;exact hw.ey id ob e (by rw[dy];exact k1) k2
  ·have lv:∀{id ob},(an l' n).bu id=some ob->ob.aU=true->∃ec,(an l n).bu id=some ec∧ec.aU=true:=by
    intro id ob k1 k2;rw[dy,hl]at k1;by_cases dF:id=g
    ·exact⟨_,by rw[dy,dF];exact hg,rfl⟩
    ·rw[aB dF]at k1;exact⟨ob,by rw[dy];exact k1,k2⟩
   intro id iC ob bW e e' k1 l1 k2 k3 l2 k4 hb;obtain⟨o1,q1,q2⟩:=lv k1 l1;obtain⟨o2,q3,q4⟩:=lv k3 l2;exact hw.kx id iC o1 o2 e e' q1 q2 k2 q3 q4 k4 hb
  ·intro id ob k1;rw[dy,hl]at k1;by_cases dF:id=g
   ·rw[dF];exact hw.nx g (.aw vs el) (by rw[dy];exact hg)
   ·rw[aB dF]at k1;exact hw.nx id ob (by rw[dy];exact k1)
  ·rw[dy,hl]at h1;by_cases dF:id=g
   ·exact⟨id,_,e,by rw[dy,dF];exact hg,rfl,h2,rfl⟩
   ·rw[aB dF]at h1;exact⟨id,ob,e,by rw[dy];exact h1,l1,h2,rfl⟩
 exact h1.2 φ bs w cI n_
end Go.Ev
set_option maxRecDepth 100000
namespace Go.Cl
open Go.Ev Go.Proofs
def Ib(sp:List (Int×c9))(v:Int):c9:=(lk v sp).getD ⟨0,0,0⟩
def s_(sp:List (Int×c9))(v:Int):Bool:=decide ((Ib sp v).Ak<(Ib sp v).Cx)
def og(sp:List (Int×c9))(c:Int):LI->Nat
 |[]=>0
 |v::l=>if kS sp v>c then og sp c l+1 else 0
def p6:Nat->cY->LI
 |_,[]=>[]
 |c,g::gs=>(c:Int)::p6 (if g.cS=1 then c+1 else c) gs
def pk(sp:List (Int×c9))(a8:LI):Nat->cY->LI
 |_,[]=>[]
 |c,g::gs=>(if g.cS=1 then(og sp c a8:Int)else 0)::pk sp a8 (if g.cS=1 then c+1 else c) gs
def ik(f:bg):dg:=wm f ([],[])
def dV(f:bg):LI:=ct (kS (ik f).1) ((ik f).2.filter (s_ (ik f).1))
def dc(f:bg):gP:=⟨p6 0 f.aA,dV f,pk (ik f).1 (dV f) 0 f.aA⟩
noncomputable def hCh(c:gP):AH:=an [(0,bp c.cg 3),(1,bp c.a8 2),(2,bp c.aU 3)] 3
noncomputable def ZJ:dp bg where
 ba f A H:=A=[.au (ft f)]∧H=aq∧hJ f∧ez f=true∧bA f.aO+e8 f.aA<20000
 v f:=.aJ [.au (KA (dc f)),J 0]
 aN f:=hCh (dc f)
theorem ai1:ZJ.dx:=by rintro f f' A H ⟨h1,_⟩ ⟨k1,_⟩;rw[h1]at k1;simp only[List.cons.injEq,AV.au.injEq,and_true]at k1;rw[vG _ _ k1]
noncomputable def YG:Ev.bz:=cz 22 (cM ZJ ai1 cZ) Ax
def wj:Nat->LN:=kg [(999999,[1,2,4,5,21]),(14,[1,2,4,49,50,51]),(22,[2,4,11,76,77,78]),(27,[2,4,11,14,76,77,78])]
noncomputable def Tl(f:bg):AH:=an [(0,cu f),(1,mw),(2,.aw [.aH 5] 101),(3,.aw [.ad 6 0 1] 58),(4,cu f),(5,fV []),(6,pZ [])] 7
noncomputable def RU(f:bg)(st:dg)(a8:LI):AH:=an [(0,cu f),(1,.aw [.ad 9 0 1,.ad 10 a8.length 1,.ad 11 0 1] 60),(2,.aw [.aH 5] 101),(3,.aw [.ad 8 st.2.length 1] 58),(4,cu f),(5,fV st.1),(6,.b9 []),(7,jE),(8,pZ st.2),(9,.aF [] 3),(10,bp a8 2),(11,.aF [] 3)] 12
noncomputable def vT(f:bg)(st:dg)(cg a8 aU:LI):AH:=an [(0,cu f),(1,.aw [.ad 8 cg.length 1,.ad 9 a8.length 1,.ad 10 aU.length 1] 60),(2,.aw [.aH 5] 101),(3,.aw [.ad 11 st.2.length 1] 58),(4,cu f),(5,fV st.1),(6,.b9 []),(7,jE),(8,bp cg 3),(9,bp a8 2),(10,bp aU 3),(11,pZ st.2)] 12
noncomputable abbrev WG:=aQ [(1,.ab 0 0),(2,.ab 1 0),(4,.ab 2 0),(5,.ab 3 0),(21,.bR (.func 91) [] [.ab 4 0])]
theorem asp(f:bg)(L:LT)(Q:QT):
 b8 Z Ax wj L Q 1000 22 [.au (ft f)] aq=(
 (an [] 0=aq∧By (ft f))∧ah (!pJ ez (ft f)) (Q (.aJ [.au [.bB,.bB,.bB],J 1]) aq) (∃w:bg,(([.au (ft f)]:LV)=[.au (ft w)]∧an [] 0=aq)∧L (WG) (an [(0,cu f),(1,mw),(2,.aw [.aH 5] 101),(3,.aw [.bB] 58),(4,cu w),(5,.bC [] 0 true)] 6) (IA Z 22 0))):=by kernel_rfl
noncomputable abbrev I' x0 x1:=aQ [(1,.ab 0 0),(2,.ab 1 0),(4,.ab 2 0),(49,.ad 8 x0 1),(50,J (Int.ofNat x0)),(51,J x1)]
theorem asq(f:bg)(L:LT)(Q:QT):
 V0 Z Ax wj L Q 1000 22 (WG) (IA Z 22 0) (Tl f)=(
 ∃w:bg×dg,(([.gd 0,.ab 1 0]:LV)=[.gd 0,.ab 1 0]∧an [(0,oh LoopState.ready [(1,.ab 3 0),(2,.ab 5 0),(4,.ab 6 0),(5,.ab 4 0),(21,.bR (.func 91) [] [.ab 1 0])] 2),(1,cu f),(2,jE),(3,cu f),(4,.aw [.ad 7 0 1] 58),(5,mw),(6,.aw [.aH 8] 101),(7,.aF [] 2),(8,.bC [] 0 true)] 9=DX w.1 w.2∧hJ w.1∧w.2.2.length+bA w.1.aO+e8 w.1.aA<60000)∧8<10∧L (I' (wm w.1 w.2).2.length 0) (an [(0,cu w.1),(1,mw),(2,.aw [.aH 5] 101),(3,.aw [.ad 8 (wm w.1 w.2).2.length 1] 58),(4,cu w.1),(5,fV (wm w.1 w.2).1),(6,.b9 []),(7,jE),(8,bp (wm w.1 w.2).2 2)] 9) (ao Z 22 0)):=by kernel_rfl
noncomputable abbrev Ac x0 x1 x2 x3:=aQ [(2,.ab 1 0),(4,.ab 2 0),(11,J x0),(76,.ax x1 x2 6),(77,J (Int.ofNat x2)),(78,J x3)]
theorem asi(f:bg)(st:dg)(a8:LI)(i:Int)(L:LT)(Q:QT):
 IH Z Ax wj L Q 1000 22 8 7 (I' st.2.length i) (ao Z 22 0) (RU f st a8)=(
 ah (decide (i<Int.ofNat st.2.length)) (∃aD:Nat,i=(aD:Int)∧aD<st.2.length∧(∃n:Int,bQ Z 2 (aX st.2) (aD*1)=some (J n:AV)∧(∃aL:Int,∃bD:Int,∃cf:Int,∃b:Bool,fX Z 2 108 (bM vS 0 st.1) (J n)=some (.au [J aL,J bD,J cf],b)∧(∃cK:Int,∃fI:Int,∃gS:Int,∃jD:Bool,fX Z 2 108 (bM vS 0 st.1) (J n)=some (.au [J cK,J fI,J gS],jD)∧ah (decide (bD<gS)) (((aX a8).length=a8.length*1∧a8.length+1<=65536∧true=true∧true=true)∧L (I' st.2.length (wI (i+1))) (an [(0,cu f),(1,.aw [.ad 9 0 1,.ad 10 (a8.length+1) 1,.ad 11 0 1] 60),(2,.aw [.aH 5] 101),(3,.aw [.ad 8 st.2.length 1] 58),(4,cu f),(5,fV st.1),(6,.b9 []),(7,jE),(8,bp st.2 2),(9,.aF [] 3),(10,.aF (aX a8++[J n]) 2),(11,.aF [] 3)] 12) (ao Z 22 0)) (L (I' st.2.length (wI (i+1))) (an [(0,cu f),(1,.aw [.ad 9 0 1,.ad 10 a8.length 1,.ad 11 0 1] 60),(2,.aw [.aH 5] 101),(3,.aw [.ad 8 st.2.length 1] 58),(4,cu f),(5,fV st.1),(6,.b9 []),(7,jE),(8,bp st.2 2),(9,.aF [] 3),(10,bp a8 2),(11,.aF [] 3)] 12) (ao Z 22 0)))))) (∃w:List (Int×c9)×LI,(([.ad 0 a8.length 1,.bR (.func 56) [] [.ab 1 0]]:LV)=[.ad 0 w.2.length 1,.bR (.func 56) [] [.ab 1 0]]∧an [(0,bp a8 2),(1,.aw [.aH 2] 101),(2,fV st.1)] 3=hS w.1 w.2∧w.2.length<20000)∧L (Ac 0 (bN f.aA) f.aA.length 0) (an [(0,cu f),(1,.aw [.ad 8 0 1,.ad 9 a8.length 1,.ad 10 0 1] 60),(2,.aw [.aH 5] 101),(3,.aw [.ad 11 st.2.length 1] 58),(4,cu f),(5,fV w.1),(6,.b9 []),(7,jE),(8,.aF [] 3),(9,bp (ct (kS w.1) w.2) 2),(10,.aF [] 3),(11,bp st.2 2)] 12) (ao Z 22 1))):=by kernel_rfl
noncomputable abbrev N' x0 x1 x2 x3 x4:=aQ [(2,.ab 1 0),(4,.ab 2 0),(11,J x0),(14,J x1),(76,.ax x2 x3 6),(77,J (Int.ofNat x3)),(78,J x4)]
theorem asl(f:bg)(st:dg)(cg a8 aU:LI)(c i:Int)(gs:LV)(gl:Nat)(L:LT)(Q:QT):
 IH Z Ax wj L Q 1000 22 8 7 (Ac c gs gl i) (ao Z 22 1) (vT f st cg a8 aU)=(
 ah (decide (i<Int.ofNat gl)) (∃aD:Nat,i=(aD:Int)∧aD<gl∧(∃n:Int,∃s:LN,∃aL:Int,∃bD:Int,∃cs:LV,∃len:Nat,∃cf:Int,((gs.drop (aD*6)).take 6:LV)=[J n,.aa s,J aL,J bD,.ax cs len 4,J cf]∧((aX cg).length=cg.length*1∧cg.length+1<=65536∧true=true∧true=true)∧ah (n==1) (L (N' c 0 gs gl i) (an [(0,cu f),(1,.aw [.ad 8 (cg.length+1) 1,.ad 9 a8.length 1,.ad 10 aU.length 1] 60),(2,.aw [.aH 5] 101),(3,.aw [.ad 11 st.2.length 1] 58),(4,cu f),(5,fV st.1),(6,.b9 []),(7,jE),(8,.aF (aX cg++[J c]) 3),(9,bp a8 2),(10,bp aU 3),(11,bp st.2 2)] 12) (ao Z 22 2)) (((aX aU).length=aU.length*1∧aU.length+1<=65536∧true=true∧true=true)∧L (Ac c gs gl (wI (i+1))) (an [(0,cu f),(1,.aw [.ad 8 (cg.length+1) 1,.ad 9 a8.length 1,.ad 10 (aU.length+1) 1] 60),(2,.aw [.aH 5] 101),(3,.aw [.ad 11 st.2.length 1] 58),(4,cu f),(5,fV st.1),(6,.b9 []),(7,jE),(8,.aF (aX cg++[J c]) 3),(9,bp a8 2),(10,.aF (aX aU++[J 0]) 3),(11,bp st.2 2)] 12) (ao Z 22 1)))) (Q (.aJ [.au [.ad 8 cg.length 1,.ad 9 a8.length 1,.ad 10 aU.length 1],J 0]) (an [(0,cu f),(1,.aw [.ad 8 cg.length 1,.ad 9 a8.length 1,.ad 10 aU.length 1] 60),(2,.aw [.aH 5] 101),(3,.aw [.ad 11 st.2.length 1] 58),(4,cu f),(5,fV st.1),(6,.b9 []),(7,.b9 []),(8,bp cg 3),(9,bp a8 2),(10,bp aU 3),(11,bp st.2 2)] 12))):=by kernel_rfl
theorem asn(f:bg)(st:dg)(cg a8 aU:LI)(c i k:Int)(gs:LV)(gl:Nat)(L:LT)(Q:QT):
 IH Z Ax wj L Q 1000 22 8 7 (N' c k gs gl i) (ao Z 22 2) (vT f st cg a8 aU)=(
 ah (decide (k<Int.ofNat a8.length)) (∃aD:Nat,k=(aD:Int)∧aD<a8.length∧(∃n:Int,bQ Z 2 (aX a8) (aD*1)=some (J n:AV)∧(∃aL:Int,∃bD:Int,∃cf:Int,∃b:Bool,fX Z 2 108 (bM vS 0 st.1) (J n)=some (.au [J aL,J bD,J cf],b)∧ah (decide (cf>c)) (L (N' c (wI (k+1)) gs gl i) (an [(0,cu f),(1,.aw [.ad 8 cg.length 1,.ad 9 a8.length 1,.ad 10 aU.length 1] 60),(2,.aw [.aH 5] 101),(3,.aw [.ad 11 st.2.length 1] 58),(4,cu f),(5,fV st.1),(6,.b9 []),(7,jE),(8,bp cg 3),(9,bp a8 2),(10,bp aU 3),(11,bp st.2 2)] 12) (ao Z 22 2)) (((aX aU).length=aU.length*1∧aU.length+1<=65536∧true=true∧true=true)∧L (Ac (wI (c+1)) gs gl (wI (i+1))) (an [(0,cu f),(1,.aw [.ad 8 cg.length 1,.ad 9 a8.length 1,.ad 10 (aU.length+1) 1] 60),(2,.aw [.aH 5] 101),(3,.aw [.ad 11 st.2.length 1] 58),(4,cu f),(5,fV st.1),(6,.b9 []),(7,jE),(8,bp cg 3),(9,bp a8 2),(10,.aF (aX aU++[J k]) 3),(11,bp st.2 2)] 12) (ao Z 22 1))))) (((aX aU).length=aU.length*1∧aU.length+1<=65536∧true=true∧true=true)∧L (Ac (wI (c+1)) gs gl (wI (i+1))) (an [(0,cu f),(1,.aw [.ad 8 cg.length 1,.ad 9 a8.length 1,.ad 10 (aU.length+1) 1] 60),(2,.aw [.aH 5] 101),(3,.aw [.ad 11 st.2.length 1] 58),(4,cu f),(5,fV st.1),(6,.b9 []),(7,jE),(8,bp cg 3),(9,bp a8 2),(10,.aF (aX aU++[J k]) 3),(11,bp st.2 2)] 12) (ao Z 22 1))):=by kernel_rfl
noncomputable def qE(f:bg)(st:dg)(c1:LV)(ext:List (Nat×aZ)):List (Nat×aZ):=[(0,cu f),(1,.aw c1 60),(2,.aw [.aH 5] 101),(3,.aw [.ad 8 st.2.length 1] 58),(4,cu f),(5,fV st.1),(6,.b9 []),(7,jE),(8,pZ st.2)]++ext
noncomputable def y6(f:bg)(st:dg)(cg a8 aU:LI):AH:=an [(0,cu f),(1,.aw [.ad 8 cg.length 1,.ad 9 a8.length 1,.ad 10 aU.length 1] 60),(2,.aw [.aH 5] 101),(3,.aw [.ad 11 st.2.length 1] 58),(4,cu f),(5,fV st.1),(6,.b9 []),(7,.b9 []),(8,bp cg 3),(9,bp a8 2),(10,bp aU 3),(11,pZ st.2)] 12
def Cr(c:gP):AV:=.aJ [.au [.ad 8 c.cg.length 1,.ad 9 c.a8.length 1,.ad 10 c.aU.length 1],J 0]
theorem ad5:∀(c:Nat) (gs:cY),(p6 c gs).length=gs.length
 |c,[]=>rfl
 |c,g::gs=>by simp[p6,ad5 _ gs]
section
variable{f:bg}{st:dg}{az:gP}
theorem aso{a8 cg aU:LI}{c i:Nat}{gs:LV}{gl:Nat}(hp:a8.length<20000)(hv:aU.length<60000)(hc:c<60000)(hi:i<60000){N:Nat}(hN:og st.1 c a8=N)
 (next:lC [.ng 7] Z 22 120 8 (Cr az) (y6 f st az.cg az.a8 az.aU) (Ac ((c+1:Nat):Int) gs gl ((i+1:Nat):Int)) (vT f st cg a8 (aU++[(N:Int)])) (ao Z 22 1)):
 ∀k:LI×LI,(k.1++k.2=a8∧k.1.length+og st.1 c k.2=N)->
 lC [.ng 7] Z 22 120 8 (Cr az) (y6 f st az.cg az.a8 az.aU) (N' (c:Int) (k.1.length:Int) gs gl (i:Int)) (vT f st cg a8 aU) (ao Z 22 2):=by
 refine cV (fun k=>k.2.length) _ _ _ _ ?_;rintro⟨A,B⟩ ⟨h1,h2⟩ ih;simp only at h1 h2 ih⊢;subst h1;simp only[bI]at hp;have n_:wI ((c:Int)+1)=((c+1:Nat):Int):=gq (lR _) (by omega);have rz:wI ((i:Int)+1)=((i+1:Nat):Int):=gq (lR _) (by omega);have TN:wI ((A.length:Int)+1)=((A.length+1:Nat):Int):=gq (lR _) (by omega);have xu:(List.length (aX aU)=(List.length aU)*1)∧((List.length aU)+1<=65536)∧(true=true)∧true=true:=⟨by simp[sH],by omega,rfl,rfl⟩;have aN:A.length=N->lC [.ng 7] Z 22 120 8 (Cr az) (y6 f st az.cg az.a8 az.aU) (Ac ((c+1:Nat):Int) gs gl ((i+1:Nat):Int)) (vT f st cg (A++B) (aU++[(A.length:Int)])) (ao Z 22 1):=by intro e;rw[e];exact next
 simp only[vT,bp,IF,bI,dv,fk,jI]at aN;refine SD xW CY (n:=1000) (aU:=wj) (by decide) (by kernel_rfl) ?_;rw[asn,n_,rz,TN];refine cU (fun h=>?_) (fun h=>?_)
 ·have h:=gh h;cases B with
  |nil=>simp at h
  |cons v B=>
   obtain⟨a1,b1,c1,d1,e1,f1⟩:=Mw st.1 v;have hk:kS st.1 v=c1:=by rw[kS,f1]
   refine⟨A.length,rfl,by simp,v,qQ rfl,a1,b1,c1,d1,e1,cU (fun hh=>?_) (fun hh=>⟨xu,?_⟩)⟩
   ·have hh:=gh hh;have:=ih (A++[v],B) ⟨by simp,by have h2:=h2;simp only[og,hk,aY hh]at h2;simp only[bI,dv,fk];omega⟩ (by simp);simp only[bI,dv,fk,jI]at this;exact this
   ·have hh:=iF hh;simp only[og,hk,aB hh]at h2;have:=aN (by omega);simp only[bI]at this⊢;exact this
 ·have h:=iF h;cases B with
  |cons v B=>simp at h;omega
  |nil=>simp only[og]at h2;have:=aN (by omega);refine⟨xu,?_⟩;simp only[bI]at this⊢;exact this
theorem asm{gs:cY}(hl:eF gs.length)(ho:∀g∈gs,nF g)(hG:gs.length<20000)(hp:az.a8.length<20000):
 ∀p:Nat×Nat×LI×LI,(p.1<=gs.length∧p.2.1<=p.1∧p.2.2.1.length=p.1∧p.2.2.2.length=p.1∧p.2.2.1++p6 p.2.1 (gs.drop p.1)=az.cg∧p.2.2.2++pk st.1 az.a8 p.2.1 (gs.drop p.1)=az.aU)->
 lC [.ng 7] Z 22 120 8 (Cr az) (y6 f st az.cg az.a8 az.aU) (Ac (p.2.1:Int) (bN gs) gs.length (p.1:Int)) (vT f st p.2.2.1 az.a8 p.2.2.2) (ao Z 22 1):=by
 refine cV (fun p=>gs.length-p.1) _ _ _ _ ?_;rintro⟨i,c,cg,aU⟩ ⟨hi,hc,Te,n7,h1,h2⟩ ih;simp only at hi hc Te n7 h1 h2 ih⊢;refine SD xW CY (n:=1000) (aU:=wj) (by decide) (by kernel_rfl) ?_;rw[asl];refine cU (fun aj=>?_) (fun aS=>?_)
 ·have aj:i<gs.length:=by have:=gh aj;simpa using this
  obtain⟨k,nm,ar,aC,ls,v,he,bX,bn⟩:=ra aj ho;rw[dN aj,he]at h1 h2;simp only[p6,pk]at h1 h2;refine⟨i,rfl,aj,k,nm,ar,aC,_,_,v,bX,⟨by simp[sH],by omega,rfl,rfl⟩,cU (fun hk=>?_) (fun hk=>?_)⟩
  ·have hk:k=1:=by simpa using hk
   simp only[hk,if_true]at h1 h2;have nx:=ih (i+1,c+1,cg++[(c:Int)],aU++[(og st.1 c az.a8:Int)]) ⟨by simp only;omega,by simp only;omega,by simp[Te],by simp[n7],by rw[←h1];simp,by rw[←h2];simp⟩ (by simp only;omega);have:=aso (f:=f) (st:=st) (az:=az) (a8:=az.a8) (cg:=cg++[(c:Int)]) (aU:=aU) (c:=c) (i:=i) (gs:=bN gs) (gl:=gs.length) hp (by omega) (by omega) (by omega) rfl nx ([],az.a8) ⟨rfl,by simp⟩;simp only[vT,bp,IF,bI,dv,fk,jI]at this;exact this
  ·have hk:¬k=1:=by simpa using hk
   simp only[hk,if_false]at h1 h2;have nx:=ih (i+1,c,cg++[(c:Int)],aU++[(0:Int)]) ⟨by simp only;omega,by simp only;omega,by simp[Te],by simp[n7],by rw[←h1];simp,by rw[←h2];simp⟩ (by simp only;omega);simp only[vT,bp,IF,bI,dv,fk,jI]at nx;rw[je hl aj];exact⟨⟨by simp[sH],by omega,rfl,rfl⟩,nx⟩
 ·have aS:gs.length<=i:=by have:=iF aS;simp at this;omega
  rw[eT aS]at h1 h2;simp only[p6,pk,lh]at h1 h2;subst h1 h2;exact⟨rfl,rfl⟩
theorem asj(hl:eF f.aA.length)(ho:∀g∈f.aA,nF g)(hG:f.aA.length<20000)(hod:st.2.length<20000)(SH:az.a8=ct (kS st.1) (st.2.filter (s_ st.1)))(LK:az.cg=p6 0 f.aA)(rk:az.aU=pk st.1 az.a8 0 f.aA):
 ∀k:LI×LI×LI,(k.1++k.2.1=st.2∧k.2.2=k.1.filter (s_ st.1))->
 lC [.ng 7] Z 22 120 8 (Cr az) (y6 f st az.cg az.a8 az.aU) (I' st.2.length (k.1.length:Int)) (RU f st k.2.2) (ao Z 22 0):=by
 refine cV (fun k=>k.2.1.length) _ _ _ _ ?_;rintro⟨A,B,a8⟩ ⟨h1,h2⟩ ih;simp only at h1 h2 ih⊢;have uH:A.length+B.length=st.2.length:=by rw[←h1];simp
 have kH:a8.length<=A.length:=by rw[h2];exact List.length_filter_le _ _
 refine SD xW CY (n:=1000) (aU:=wj) (by decide) (by kernel_rfl) ?_;rw[asi];refine cU (fun h=>?_) (fun h=>?_)
 ·have h:=gh h;cases B with
  |nil=>simp at uH;simp at h;omega
  |cons v B=>
   obtain⟨a1,b1,c1,d1,e1,f1⟩:=Mw st.1 v;have hw:wI ((A.length:Int)+1)=((A.length+1:Nat):Int):=gq (lR _) (by omega);refine⟨A.length,rfl,by simp only[dv]at uH;omega,v,by rw[←h1];exact qQ rfl,a1,b1,c1,d1,e1,a1,b1,c1,d1,e1,?_⟩;rw[hw];have vW:s_ st.1 v=decide (b1<c1):=by simp[s_,Ib,f1]
   refine cU (fun hh=>⟨⟨by simp[sH],by omega,rfl,rfl⟩,?_⟩) (fun hh=>?_)
   ·have:=ih (A++[v],B,a8++[v]) ⟨by rw[←h1];simp,by rw[h2,List.filter_append];simp only[List.filter_cons,List.filter_nil,vW,hh,if_true]⟩ (by simp);simp only[RU,bp,IF,bI,dv,fk,jI]at this;exact this
   ·have:=ih (A++[v],B,a8) ⟨by rw[←h1];simp,by rw[h2,List.filter_append];simp only[List.filter_cons,List.filter_nil,vW,hh];simp⟩ (by simp);simp only[bI,dv,fk,jI]at this;exact this
 ·have h:=iF h;cases B with
  |cons v B=>simp at uH;simp at h;omega
  |nil=>simp only[lh]at h1;rw[h1]at h2;rw[←h2]at SH;have tv:(ct (kS st.1) a8).length=a8.length:=py _ _;refine⟨(st.1,a8),⟨rfl,rfl,by simp only;omega⟩,?_⟩;have:=asm (f:=f) (st:=st) (az:=az) hl ho hG (by rw[SH,tv];omega) (0,0,[],[]) ⟨by simp,by simp,rfl,rfl,by simp[LK],by simp[←rk]⟩;rw[SH]at this⊢;simp only[vT,tv]at this;exact this
end
theorem awo(f:bg)(st:dg)(a b c:LI):oT 0 [8,9,10] (y6 f st a b c)=some ⟨[(8,0),(9,1),(10,2)],hCh ⟨a,b,c⟩⟩:=by kernel_rfl
theorem adZ(f:bg)(st:dg):(wm f st).2.length<=st.2.length+bA f.aO+e8 f.aA:=by
 have key:∀(gs:cY) (c:Nat) (st:dg),(rH c st gs).2.length<=st.2.length+e8 gs:=by
  intro gs;induction gs with
  |nil=>intro c st;simp[rH]
  |cons g gs ih=>intro c st;have h1:=ad0 c st g;have h2:=ih (if g.cS=1 then c+1 else c) (rG c st g);simp only[rH,e8];omega
 have h1:=Fe 0 st f.aO;have h2:=key f.aA 0 (gg 0 st f.aO);unfold wm;omega
theorem ahL:bm Z YG:=by
 refine de CY ?_;rintro f args H ⟨rfl,rfl,ho,hv,cJ⟩;have hg:=G' f.aA;have hod:(ik f).2.length<=bA f.aO+e8 f.aA:=by have:=adZ f ([],[]);simp only[fk,jI]at this;exact this
 have EY:dT Z 22 [.au (ft f)] aq (Cr (dc f)) (y6 f (ik f) (dc f).cg (dc f).a8 (dc f).aU):=by
  refine eS CY 1000 wj 120 (by kernel_rfl) ?_;rw[asp];have hd:pJ ez (ft f)=true:=by rw[yT];exact hv
  refine⟨⟨rfl,⟨f,rfl,ho⟩⟩,cU (fun h=>(by have h:(!pJ ez (ft f))=true:=h;rw[hd]at h;cases h)) (fun _=>⟨f,⟨rfl,rfl⟩,?_⟩)⟩;refine Ej (H:=an [(0,cu f),(1,mw),(2,.aw [.aH 5] 101),(3,.aw [.bB] 58),(4,cu f),(5,fV [])] 6) (H':=an ([(0,cu f),(1,mw),(2,.aw [.aH 5] 101),(3,.aw [.ad 6 0 1] 58),(4,cu f),(5,fV [])]++[(6,.aF [] 2)]) (6+1)) ?_ (xY (g:=3) (vs:=[.bB]) (eV:=[.ad 6 0 1]) (el:=58) rfl (fun id=>by simp only[dq];by_cases h:id=3<;>simp[h]) rfl (fun φ x hx=>by obtain⟨v,l,rfl,h1,h2⟩:=hx;exact⟨v,l,rfl,sY h1,h2⟩) ⟨rfl,rfl⟩) (by kernel_rfl)
  ·have HQ:bJ Z 22 120 0 (Cr (dc f)) (y6 f (ik f) (dc f).cg (dc f).a8 (dc f).aU) (WG) (Tl f) (IA Z 22 0):=by
    refine alK (H:=Tl f) xW CY (n:=1000) (aU:=wj) (Nat.zero_le _) (by kernel_rfl) ?_;rw[asq];refine⟨(f,([],[])),⟨rfl,rfl,ho,by simp only[fk];omega⟩,by decide,?_⟩;have UD:∀(φ:bf) (x:List Value) (a b c a' b' c':AV),(∀y,VR φ a y->VR φ a' y)->(∀y,VR φ b y->VR φ b' y)->(∀y,VR φ c y->VR φ c' y)->bc φ [a,b,c] x->bc φ [a',b',c'] x:=by rintro φ x a b c a' b' c' h1 h2 h3 ⟨v1,l1,rfl,k1,v2,l2,rfl,k2,v3,l3,rfl,k3,h4⟩;exact⟨v1,_,rfl,h1 _ k1,v2,_,rfl,h2 _ k2,v3,_,rfl,h3 _ k3,h4⟩
    refine LH (H:=an (qE f (ik f) [.bB,.bB,.bB] []) 9) (H':=an (qE f (ik f) [.ad 9 0 1,.bB,.bB] []++[(9,.aF [] 3)]) (9+1)) ?_ (xY (g:=1) (l:=qE f (ik f) [.bB,.bB,.bB] []) (l':=qE f (ik f) [.ad 9 0 1,.bB,.bB] []) (vs:=[.bB,.bB,.bB]) (eV:=[.ad 9 0 1,.bB,.bB]) (el:=60) rfl (fun id=>by simp only[qE,lh,dq];by_cases h:id=1<;>simp[h]) rfl (fun φ x hx=>UD φ x _ _ _ _ _ _ (fun _=>sY) (fun _ h=>h) (fun _ h=>h) hx) ⟨rfl,rfl⟩) (by kernel_rfl) ⟨(show 7<8 by omega),trivial⟩;refine LH (H:=an (qE f (ik f) [.ad 9 0 1,.bB,.bB] [(9,.aF [] 3)]) 10) (H':=an (qE f (ik f) [.ad 9 0 1,.ad 10 0 1,.bB] [(9,.aF [] 3)]++[(10,.aF [] 2)]) (10+1)) ?_ (xY (g:=1) (l:=qE f (ik f) [.ad 9 0 1,.bB,.bB] [(9,.aF [] 3)]) (l':=qE f (ik f) [.ad 9 0 1,.ad 10 0 1,.bB] [(9,.aF [] 3)]) (vs:=[.ad 9 0 1,.bB,.bB]) (eV:=[.ad 9 0 1,.ad 10 0 1,.bB]) (el:=60) rfl (fun id=>by simp only[qE,sA,BX,dq];by_cases h:id=1<;>simp[h]) rfl (fun φ x hx=>UD φ x _ _ _ _ _ _ (fun _ h=>h) (fun _=>sY) (fun _ h=>h) hx) ⟨rfl,rfl⟩) (by kernel_rfl) ⟨(show 7<8 by omega),trivial⟩;refine LH (H:=an (qE f (ik f) [.ad 9 0 1,.ad 10 0 1,.bB] [(9,.aF [] 3),(10,.aF [] 2)]) 11) (H':=an (qE f (ik f) [.ad 9 0 1,.ad 10 0 1,.ad 11 0 1] [(9,.aF [] 3),(10,.aF [] 2)]++[(11,.aF [] 3)]) (11+1)) ?_ (xY (g:=1) (l:=qE f (ik f) [.ad 9 0 1,.ad 10 0 1,.bB] [(9,.aF [] 3),(10,.aF [] 2)]) (l':=qE f (ik f) [.ad 9 0 1,.ad 10 0 1,.ad 11 0 1] [(9,.aF [] 3),(10,.aF [] 2)]) (vs:=[.ad 9 0 1,.ad 10 0 1,.bB]) (eV:=[.ad 9 0 1,.ad 10 0 1,.ad 11 0 1]) (el:=60) rfl (fun id=>by simp only[qE,sA,BX,dq];by_cases h:id=1<;>simp[h]) rfl (fun φ x hx=>UD φ x _ _ _ _ _ _ (fun _ h=>h) (fun _ h=>h) (fun _=>sY) hx) ⟨rfl,rfl⟩) (by kernel_rfl) ⟨(show 7<8 by omega),trivial⟩;exact asj (f:=f) (st:=ik f) (az:=dc f) ho.2.2.2.1 ho.2.2.2.2 (by omega) (by omega) rfl rfl rfl ([],(ik f).2,[]) ⟨by simp,by simp⟩
   exact HQ
 refine KJ EY (awo f (ik f) (dc f).cg (dc f).a8 (dc f).aU) ?_;rfl
end Go.Cl
namespace Go.Cl
open Go.Ev Go.Proofs
noncomputable section
structure bS(n:Nat)(m m':Em):Prop where
 tr:∃l:cn,m'.aM=l.foldl gM m.aM∧l.length<=n∧∀i∈l,i.op≠19
 f:m'.f=m.f
theorem bS.vi(m:Em):bS 0 m m:=⟨⟨[],rfl,fB _,fun _ h=>by cases h⟩,rfl⟩
theorem bS.km{m m':Em}(h:m'.aM=m.aM)(hf:m'.f=m.f):bS 0 m m':=⟨⟨[],h,fB _,fun _ h=>by cases h⟩,hf⟩
theorem bS.j5{a b:Nat}{m m1 m2:Em}(h1:bS a m m1)(h2:bS b m1 m2):bS (a+b) m m2:=by
 obtain⟨⟨l1,e1,n1,p1⟩,f1⟩:=h1;obtain⟨⟨l2,e2,n2,p2⟩,f2⟩:=h2;refine⟨⟨l1++l2,by rw[List.foldl_append,←e1,e2],by simp;omega,fun i hi=>?_⟩,f2.trans f1⟩;rcases List.mem_append.1 hi with h|h
 ·exact p1 i h
 ·exact p2 i h
theorem bS.le{a b:Nat}{m m':Em}(h:bS a m m')(Sj:a<=b):bS b m m':=by obtain⟨⟨l,e,n,p⟩,f⟩:=h;exact⟨⟨l,e,by omega,p⟩,f⟩
theorem bS.aE(m:Em){i:a9}(h:i.op≠19):bS 1 m (m.aE i):=⟨⟨[i],rfl,fB _,fun j hj=>by simp at hj;subst hj;exact h⟩,rfl⟩
theorem bS.Oz(m:Em):bS 0 m m.bq:=.km rfl rfl
theorem bS.eH(m:Em)(v:Int):bS 0 m (m.eH v):=.km rfl rfl
theorem bS.l9(m:Em)(v:Int):bS 0 m (m.l9 v):=.km rfl rfl
theorem bS.gO(m:Em){v a b c:Int}(h1:a≠19)(h2:b≠19):bS 1 m (m.gO v a b c):=by
 unfold Em.gO;have:bS (0+1+0) m (((m.eH v).aE ⟨bif m.ei v then b else a,m.ej v,c,0,[],0⟩).l9 v):=((bS.eH m v).j5 (.aE _ (by
  cases m.ei v
  ·exact h1
  ·exact h2))).j5 (.l9 _ v)
 exact this
theorem bS.sa(m:Em)(w:Int×aK):bS 1 m (m.sa w):=by
 unfold Em.sa;split
 ·exact .gO m (by decide) (by decide)
 ·exact(bS.vi m).le (by omega)
theorem bS.rL(m:Em)(w:Int×aK):bS 1 m (m.rL w):=by
 unfold Em.rL;split
 ·exact .gO m (by decide) (by decide)
 ·exact .aE m (by simp)
theorem bS.e9(m:Em)(t:aK)(b:Int):bS 1 m (m.e9 t b):=by
 unfold Em.e9;split
 ·split
  ·exact .gO m (by decide) (by decide)
  ·exact .aE m (by simp)
 ·split
  ·exact .aE m (by simp)
  ·split
   ·exact .aE m (by simp)
   ·exact .aE m (by simp)
theorem bS.jQ:∀(l:List (aK×Int)) (m:Em),bS l.length m (m.jQ l)
 |[],m=>.vi m
 |(t,b)::l,m=>by have h:=(bS.e9 m t b).j5 (bS.jQ l (m.e9 t b));simp only[Em.jQ,iy,dv]at h⊢;exact h.le (by omega)
mutual
theorem bS.build:∀(m:Em) (r:Int) (t:aK),bS (2*cG t-1) m (m.jf r t)
 |m,r,.mk k n s l=>by
  have h1:=bS.fq m l;have hq:=Mp l;have h2:=bS.aE (m.fq l).1 (i:=⟨15,r,0,0,s,l.length⟩) (by simp);have h3:=bS.jQ (l.zip (m.fq l).2) ((m.fq l).1.aE ⟨15,r,0,0,s,l.length⟩);have h4:(l.zip (m.fq l).2).length<=l.length:=by simp;omega
  simp only[Em.jf,cG];exact((h1.j5 h2).j5 h3).le (by omega)
theorem bS.fq:∀(m:Em) (l:bH),bS (2*bA l-l.length) m (m.fq l).1
 |m,[]=>by simp only[Em.fq];exact(bS.vi m).le (by omega)
 |m,t::l=>by
  have hp:=oS t;have hq:=Mp l;simp only[Em.fq,bA,dv];split
  ·have h1:=bS.build m.bq m.bq.bT t;have h2:=bS.fq (m.bq.jf m.bq.bT t) l;have h3:=(bS.Oz m).j5 (h1.j5 h2);exact h3.le (by omega)
  ·exact(bS.fq m l).le (by omega)
end
theorem bS.gf(m:Em)(t:aK):bS (2*cG t-fc (m.gf t).2) m (m.gf t).1:=by
 have hp:=oS t;unfold Em.gf;split
 ·simp only[fc];split
  ·exact(bS.gO m (by decide) (by decide)).le (by omega)
  ·exact(bS.aE m (by simp)).le (by omega)
 ·split
  ·simp only[fc];exact(bS.aE m (by simp)).le (by omega)
  ·split
   ·simp only[fc];exact(bS.aE m (by simp)).le (by omega)
   ·obtain⟨k,n,s,l⟩:=t;simp only[fc,aK.dE,cG];exact((bS.Oz m).j5 (.aE _ (by simp))).le (by omega)
theorem bS.gk:∀(l:bH) (m:Em) (q:List (Int×aK)),bS (2*bA l+fc q-fc (m.gk q l).2) m (m.gk q l).1∧fc (m.gk q l).2<=fc q+2*bA l
 |[],m,q=>by simp only[Em.gk,bA];exact⟨(bS.vi m).le (by omega),by omega⟩
 |t::l,m,q=>by have h1:=bS.gf m t;have h2:=bS.gk l (m.gf t).1 (q++(m.gf t).2);have h3:=Za m t;simp only[Em.gk,bA];rw[Iz]at h2;exact⟨(h1.j5 h2.1).le (by omega),by omega⟩
theorem bS.lY:∀(n:Nat) (m:Em) (q:List (Int×aK)),bS (fc q) m (m.lY n q)
 |0,m,q=>(bS.vi m).le (by omega)
 |n+1,m,[]=>(bS.vi m).le (by omega)
 |n+1,m,w::q=>by have h1:=bS.aE m (i:=⟨5,0,w.1,0,w.2.f_,w.2.dE.length⟩) (by simp);have h2:=bS.gk w.2.dE (m.aE ⟨5,0,w.1,0,w.2.f_,w.2.dE.length⟩) q;have h3:=bS.lY n ((m.aE ⟨5,0,w.1,0,w.2.f_,w.2.dE.length⟩).gk q w.2.dE).1 ((m.aE ⟨5,0,w.1,0,w.2.f_,w.2.dE.length⟩).gk q w.2.dE).2;simp only[Em.lY,fc];exact((h1.j5 h2.1).j5 h3).le (by omega)
theorem bS.get(m:Em)(w:Int×aK):bS (2*cG w.2) m (m.mn w):=by
 have hp:=oS w.2;unfold Em.mn;split
 ·exact(bS.sa m w).le (by omega)
 ·split
  ·exact(bS.aE m (by simp)).le (by omega)
  ·split
   ·exact(bS.aE m (by simp)).le (by omega)
   ·have:=bS.lY (fc [w]+1) m [w];obtain⟨r,k,n,s,l⟩:=w;simp only[fc,aK.dE]at this;simp only[Em.y',cG,fc,aK.dE];exact this.le (by omega)
theorem bS.fA:∀(l:bH) (i:Nat) (m:Em),bS (2*bA l) m (Em.fA i m l)
 |[],i,m=>(bS.vi m).le (by omega)
 |t::l,i,m=>by have h:=(bS.get m (((i+1:Nat):Int),t)).j5 (bS.fA l (i+1) (m.mn (((i+1:Nat):Int),t)));simp only[Em.fA,bA]at h⊢;exact h.le (by omega)
theorem bS.put(m:Em)(w:Int×aK):bS (2*cG w.2) m (m.kP w):=by
 have hp:=oS w.2;unfold Em.kP;split
 ·exact(bS.rL m w).le (by omega)
 ·split
  ·exact(bS.aE m (by simp)).le (by omega)
  ·split
   ·exact(bS.aE m (by simp)).le (by omega)
   ·exact(bS.build m w.1 w.2).le (by omega)
theorem bS.dW:∀(l:bH) (i:Nat) (m:Em),bS (2*bA l) m (Em.dW i m l)
 |[],i,m=>(bS.vi m).le (by omega)
 |t::l,i,m=>by have h:=(bS.put m (((i+1:Nat):Int),t)).j5 (bS.dW l (i+1) (m.kP (((i+1:Nat):Int),t)));simp only[Em.dW,bA]at h⊢;exact h.le (by omega)
theorem bS.cm(m:Em)(e:Bool):bS 1 m (m.cm e):=by
 unfold Em.cm;cases e
 ·exact(bS.vi m).le (by omega)
 ·exact .aE m (by simp)
theorem bS.jj(m:Em)(w:Int×Int)(h:w.1≠19):bS 2 m (m.jj w):=by
 unfold Em.jj;cases m.ei w.2
 ·exact((bS.eH m w.2).j5 ((bS.aE _ (i:=⟨w.1,m.ej w.2,0,0,[],0⟩) h).j5 (.l9 _ w.2))).le (by omega)
 ·exact((((bS.Oz m).j5 (bS.aE _ (i:=⟨w.1,m.bq.bT,0,0,[],0⟩) h)).j5 (.eH _ w.2)).j5 (.aE _ (by simp))).le (by omega)
theorem bS.cut(m:Em)(v:Int):bS 1 m (m.ml v):=by
 unfold Em.ml;cases m.ei v
 ·exact(bS.vi m).le (by omega)
 ·exact((bS.eH m v).j5 (.aE _ (by simp))).le (by omega)
def mX:cY->Nat
 |[]=>0
 |g::l=>(if g.cS=1 then 1 else 0)+mX l
theorem QN(a b:cn):gm (a++b)=gm a+gm b:=by simp[gm,List.filter_append]
theorem Kh(c:cn)(i:a9):gm (gM c i)<=gm c+(if i.op=19 then 1 else 0):=by
 have one:∀j:a9,gm [j]=if j.op=19 then 1 else 0:=by intro j;by_cases h:j.op=19<;>simp[gm,h]
 have uo:gm (c++[i])=gm c+(if i.op=19 then 1 else 0):=by rw[QN,one]
 unfold gM;split
 ·split
  ·rename_i mQ x hx;split
   ·rename_i amE;obtain⟨d,rfl⟩:∃d,c=d++[x]:=by
     have di:c≠[]:=by rintro rfl;simp at hx
     refine⟨c.dropLast,?_⟩;have:=List.dropLast_concat_getLast di;rw[List.getLast?_eq_some_getLast di]at hx;cases hx;exact this.symm
    rw[QN,QN,one,List.dropLast_concat,aB (by simp[amE])];omega
   ·omega
  ·omega
 ·omega
theorem ZD:∀(l c:cn),(∀i∈l,i.op≠19)->gm (l.foldl gM c)<=gm c∧(l.foldl gM c).length<=c.length+l.length
 |[],c,_=>by simp
 |i::l,c,h=>by have h1:=Kh c i;rw[aB (h i (by simp))]at h1;have h2:=AM c i;have h3:=ZD l (gM c i) (fun j hj=>h j (by simp[hj]));simp only[iy,dv];exact⟨by omega,by omega⟩
theorem bS.r7{n:Nat}{m m':Em}(h:bS n m m'):gm m'.aM<=gm m.aM∧m'.aM.length<=m.aM.length+n:=by obtain⟨⟨l,e,hl,hp⟩,_⟩:=h;have:=ZD l m.aM hp;rw[←e]at this;exact⟨this.1,by omega⟩
theorem Lb(c:gP)(base:LI)(aR:Bool):∀(l:cY) (i:Nat) (size:Int) (m:Em),
 gm (Em.aA c base aR i size m l).aM<=gm m.aM+mX l∧(Em.aA c base aR i size m l).aM.length<=m.aM.length+mA l∧(Em.aA c base aR i size m l).f=m.f
 |[],i,size,m=>by have h:=((bS.cm m aR).j5 (bS.aE (m.cm aR) (i:=⟨21,0,0,0,[],0⟩) (by simp)));have hb:=h.r7;simp only[Em.aA,mX,mA];exact⟨by omega,by omega,h.f⟩
 |g::l,i,size,m=>by
  have next:∀(m1:Em) (IK:Int) (k n:Nat),gm m1.aM<=gm m.aM+k->m1.aM.length<=m.aM.length+n->m1.f=m.f->k<=(if g.cS=1 then 1 else 0)->n<=2*bA g.cx+4->
   gm (Em.aA c base aR (i+1) IK m1 l).aM<=gm m.aM+mX (g::l)∧(Em.aA c base aR (i+1) IK m1 l).aM.length<=m.aM.length+mA (g::l)∧(Em.aA c base aR (i+1) IK m1 l).f=m.f:=by
   intro m1 IK k n h1 h2 h3 h4 h5;obtain⟨a1,a2,a3⟩:=Lb c base aR l (i+1) IK m1;simp only[mX,mA];exact⟨by omega,by omega,a3.trans h3⟩
  have done:∀(m1:Em) (n:Nat),bS n m m1->n<=2*bA g.cx+4->gm m1.aM<=gm m.aM+mX (g::l)∧m1.aM.length<=m.aM.length+mA (g::l)∧m1.f=m.f:=by intro m1 n h hn;have hb:=h.r7;simp only[mX,mA];exact⟨by omega,by omega,h.f⟩
  unfold Em.aA;split
  ·have h:=bS.jj m (22,g.gE) (by simp);exact next _ _ 0 2 (by have:=h.r7;omega) h.r7.2 h.f (by omega) (by omega)
  split
  ·have h:=bS.jj m (23,g.gE) (by simp);exact next _ _ 0 2 (by have:=h.r7;omega) h.r7.2 h.f (by omega) (by omega)
  split
  ·have h:=bS.cut m g.gE;exact next _ _ 0 1 (by have:=h.r7;omega) h.r7.2 h.f (by omega) (by omega)
  split
  ·exact done _ 1 (bS.aE m (by simp)) (by omega)
  split
  ·rename_i hk;have hp:=bS.dW g.cx 0 m;cases l with
   |nil=>simp only;exact done _ _ ((hp.j5 (bS.cm _ aR)).j5 (bS.aE _ (by simp))) (by omega)
   |cons g' l=>
    simp only;split
    ·have h1:=hp.j5 (bS.aE (m.dW 0 g.cx) (i:=⟨17,0,0,c.aU.getD i 0,[],0⟩) (by simp));have hb:=h1.r7;have h2:=Kh ((m.dW 0 g.cx).aE ⟨17,0,0,c.aU.getD i 0,[],0⟩).aM ⟨19,0,0,g.ay.aC,g.ay.ca,g.ay.ar⟩;have h3:=AM ((m.dW 0 g.cx).aE ⟨17,0,0,c.aU.getD i 0,[],0⟩).aM ⟨19,0,0,g.ay.aC,g.ay.ca,g.ay.ar⟩;simp only[if_true]at h2;exact next _ _ 1 (2*bA g.cx+2) (Nat.le_trans h2 (by omega)) (Nat.le_trans h3 (by omega)) h1.f (by rw[aY hk];omega) (by omega)
    ·have hb:=hp.r7;have h2:=Kh (m.dW 0 g.cx).aM ⟨19,0,0,g.ay.aC,g.ay.ca,g.ay.ar⟩;have h3:=AM (m.dW 0 g.cx).aM ⟨19,0,0,g.ay.aC,g.ay.ca,g.ay.ar⟩;simp only[if_true]at h2;exact next _ _ 1 (2*bA g.cx+1) (Nat.le_trans h2 (by omega)) (Nat.le_trans h3 (by omega)) hp.f (by rw[aY hk];omega) (by omega)
  ·exact next _ _ 0 0 (by omega) (by omega) rfl (by omega) (by omega)
theorem Kc:∀(gs:cY) (d:LI) (c:Int),(kA d c gs).length=d.length+1+mX gs
 |[],d,c=>by simp[kA,mX]
 |g::gs,d,c=>by
  unfold kA;split
  ·rename_i h;have:=Kc gs (d++[max c (g.cx.length:Int)]) 0;simp only[mX,aY h,bI,dv,fk]at this⊢;omega
  ·rename_i h;have:=Kc gs d c;simp only[mX,aB h]at this⊢;omega
theorem adu:∀gs:cY,mX gs<=gs.length
 |[]=>by simp[mX]
 |g::gs=>by have:=adu gs;simp only[mX,dv];split<;>omega
theorem ac4(sp:List (Int×c9))(a8:LI):∀(c:Nat) (gs:cY),(pk sp a8 c gs).length=gs.length
 |c,[]=>rfl
 |c,g::gs=>by simp[pk,ac4 sp a8 _ gs]
theorem ad4:∀(gs:cY) (c i:Nat) (h:i<gs.length),(p6 c gs).getD i 0=((c+mX (gs.take i):Nat):Int)∧(gs[i].cS=1->mX (gs.take i)+1<=mX gs)
 |[],c,i,h=>by simp at h
 |g::gs,c,0,h=>by simp only[p6,List.getD_cons_zero,List.take_zero,mX,List.getElem_cons_zero];refine⟨by simp,fun hk=>?_⟩;rw[aY hk];omega
 |g::gs,c,i+1,h=>by
  have hl:i<gs.length:=by simpa using h
  have:=ad4 gs (if g.cS=1 then c+1 else c) i hl;simp only[p6,List.getD_cons_succ,List.take_succ_cons,mX,List.getElem_cons_succ];refine⟨?_,fun hk=>?_⟩
  ·rw[this.1];split<;>(congr 1;omega)
  ·have:=this.2 hk;omega
def ju:cY->cY
 |[]=>[]
 |g::l=>if g.cS=5 then[g]else g::ju l
def a_(f:bg):bg:=⟨f.ay,f.aO,ju f.aA⟩
theorem Z0:∀(l:cY) (g:gH),g∈ju l->g∈l
 |[],g,h=>h
 |x::l,g,h=>by
  unfold ju at h;split at h
  ·simp only[nH]at h;subst h;simp
  ·rcases List.mem_cons.1 h with rfl|h
   ·simp
   ·exact fF _ (Z0 l g h)
theorem Ks:∀l:cY,(ju l).length<=l.length
 |[]=>by simp[ju]
 |x::l=>by have:=Ks l;unfold ju;split<;>simp<;>omega
theorem Kr:∀l:cY,e8 (ju l)<=e8 l
 |[]=>by simp[ju]
 |x::l=>by have:=Kr l;unfold ju;split<;>simp only[e8]<;>omega
theorem Z1:∀(l:cY) (b:Bool) (left:Int),k6 b left l=true->k6 b left (ju l)=true
 |[],b,left,h=>h
 |x::l,b,left,h=>by
  unfold ju;simp only[k6,cW]at h;split
  ·simp only[k6,h.1.1,h.1.2,Bool.and_self]
  ·simp only[k6,h.1.1,h.1.2,iG];exact Z1 l _ _ h.2
theorem Q4{f:bg}(h:ez f=true):ez (a_ f)=true:=by simp only[ez,cW]at h⊢;exact⟨h.1,Z1 _ _ _ h.2⟩
theorem ZY{f:bg}(h:hJ f):hJ (a_ f):=by refine⟨h.1,h.2.1,h.2.2.1,?_,fun g hg=>h.2.2.2.2 g (Z0 _ g hg)⟩;have:=Ks f.aA;have:=h.2.2.2.1;unfold eF at*;show(ju f.aA).length<_;omega
theorem abp:∀l:cY,mA l<=4+4*e8 l
 |[]=>by simp[mA]
 |g::l=>by have:=abp l;simp only[mA,e8];omega
def nB(k n:Int)(s:LN)(len:Nat):Int×Int×LN×Int:=
 if k=1 then(1,n,[],0)else if k=2 then(2,0,s,0)else if k=3 then(3,0,s,len)else(0,0,[],0)
def Mh(k n:Int)(s:LN)(len:Nat):Int×Int×LN×Int:=if k=0 then(0,0,[],0)else(k,n,s,len)
def DB(k:Int×Int×LN×Int):LV:=[J k.1,J k.2.1,.aa k.2.2.1,J k.2.2.2]
theorem amV(k n:Int)(s:LN)(len:Nat):EO k n s len=DB (nB k n s len):=by
 unfold EO nB DB;split
 ·rfl
 ·split
  ·rfl
  ·split<;>rfl
theorem amW(k n:Int)(s:LN)(len:Nat):EP k n s len=DB (Mh k n s len):=by unfold EP Mh DB;split<;>rfl
def T5(ky:Int->Int->LN->Nat->Int×Int×LN×Int):dp (Int×Int×LN×LV×Nat)where
 ba w A H:=A=[.au [J w.1,J w.2.1,.aa w.2.2.1,.ax w.2.2.2.1 w.2.2.2.2 4]]∧H=aq
 v w:=.au [J (ky w.1 w.2.1 w.2.2.1 w.2.2.2.2).1,J (ky w.1 w.2.1 w.2.2.1 w.2.2.2.2).2.1,.aa (ky w.1 w.2.1 w.2.2.1 w.2.2.2.2).2.2.1,J (ky w.1 w.2.1 w.2.2.1 w.2.2.2.2).2.2.2]
 aN w:=aq
theorem acP(ky:Int->Int->LN->Nat->Int×Int×LN×Int):(T5 ky).dx:=by rintro⟨k,n,s,cs,len⟩ ⟨k',n',s',cs',ax6⟩ A H ⟨h1,_⟩ ⟨h2,_⟩;rw[h1]at h2;simp only[List.cons.injEq,AV.au.injEq,AV.ck.injEq,AV.aa.injEq,AV.ax.injEq,true_and,and_true]at h2;obtain⟨rfl,rfl,rfl,rfl,rfl⟩:=h2;rfl
def YH:Ev.bz:=cz 30 (cM (T5 nB) (acP nB) cZ) YG
def Gi:Ev.bz:=cz 31 (cM (T5 Mh) (acP Mh) cZ) YH
theorem ahM:bm Z YH:=by refine de ahL ?_;rintro⟨k,n,s,cs,len⟩ args H ⟨rfl,rfl⟩;refine O5.1 30 _ aq (aq=aq∧True) _ aq (by decide) (C_ ?_) ⟨rfl,trivial⟩;show eG Mg _ aq=_;unfold eG;simp only[Mg,amV,DB];rfl
theorem JX:bm Z Gi:=by refine de ahM ?_;rintro⟨k,n,s,cs,len⟩ args H ⟨rfl,rfl⟩;refine Ju.1 31 _ aq (aq=aq∧True) _ aq (by decide) (C_ ?_) ⟨rfl,trivial⟩;show eG Mf _ aq=_;unfold eG;simp only[Mf,amW,DB];rfl
def mG:Nat->LP->LI->LP
 |_,m,[]=>m
 |i,m,v::l=>mG (i+1) (up v ((i+1:Nat):Int) m) l
def GA:aZ:=.aw [J 0,.aa [],J 0,J 0,J 0,J 0,.aa [],J 0,.bB] 34
def h7a(f:bg):AH:=an [(0,cu f),(1,GA)] 2
def RZ(f:bg)(c:gP)(base:LI)(m:Em):AH:=an [(0,cu f),(1,GA),(2,.aw [.ad 6 c.cg.length 1,.ad 5 c.a8.length 1,.ad 7 c.aU.length 1] 60),(3,bp base 3),(4,fg m 8 9 10 11 12),(5,bp c.a8 2),(6,bp c.cg 3),(7,bp c.aU 3),(8,fu m),(9,eN m),(10,eW m),(11,eU m),(12,eP m)] 13
structure fR where
 id:Int
 ay:dG
 bZ:Int×Int×LN×Int
 bk:cn
def Ai:fR:=⟨0,⟨[],0,0⟩,(0,0,[],0),[]⟩
def nu(b:fR)(c:AV):LV:=[J b.id,.aa b.ay.ca,J b.ay.ar,J b.ay.aC,J b.bZ.1,J b.bZ.2.1,.aa b.bZ.2.2.1,J b.bZ.2.2.2,c]
def hB(b:fR):AH:=an [(0,c_ b.bk)] 1
def kW(g:bg):Em:=⟨[],g,ql g,mG 0 [] (dV g),[],[],(ep g).getD 0 0,false⟩
def gQ(g:bg):Em:=bif iY g (dc g)then(kW g).aE ⟨16,0,0,((dV g).length:Int),[],0⟩else kW g
def fO(g:bg):Em:=Em.aA (dc g) (ep g) (iY g (dc g)) 0 ((dV g).length:Int) ((gQ g).fA 0 (gQ g).f.aO) ((gQ g).fA 0 (gQ g).f.aO).f.aA
def jt(g:bg):cn×Int:=if(fO g).gN=true∨(fO g).aM.length>131072∨(dV g).length>4096 then([],2)else lB (fO g).aM (ep g)
def lM(ky:Int->Int->LN->Nat->Int×Int×LN×Int):bH->Int×Int×LN×Int
 |[]=>(0,0,[],0)
 |t::_=>ky t.df t.n t.f_ t.dE.length
def cL(f:bg)(id:Int):fR×Int:=
 if ez f=false∨id<1∨id>1099511627776 then(Ai,1)
 else if(jt (a_ f)).2≠0 then(Ai,(jt (a_ f)).2)
 else(⟨id,f.ay,lM nB f.aO,(jt (a_ f)).1⟩,0)
def sC(r:fR×Int):AV:=if r.2=0 then .aJ [.au (nu r.1 (.ad 0 r.1.bk.length 6)),J r.2]else .aJ [.au (nu Ai .bB),J r.2]
def sB(r:fR×Int):AH:=if r.2=0 then hB r.1 else aq
def QY(Dj:bg->Int->fR×Int):dp (bg×Int)where
 ba w A H:=A=[.au (ft w.1),J w.2]∧H=aq∧hJ w.1∧(ez w.1=true->bA w.1.aO+e8 w.1.aA<3600∧w.1.aA.length<=500)
 v w:=.aJ [.au (nu (Dj w.1 w.2).1 (.ad 0 (Dj w.1 w.2).1.bk.length 6)),J (Dj w.1 w.2).2]
 aN w:=hB (Dj w.1 w.2).1
theorem ajg(Dj:bg->Int->fR×Int):(QY Dj).dx:=by rintro⟨f,id⟩ ⟨f',iC⟩ A H ⟨h1,_⟩ ⟨k1,_⟩;rw[h1]at k1;simp only[List.cons.injEq,AV.au.injEq,AV.ck.injEq,true_and,and_true]at k1;rw[vG _ _ k1.1,k1.2]
def PW:Ev.bz:=cz 7 (cM (QY cL) (ajg cL) cZ) Gi
def EX:Nat->LN:=kg [(4,[1,2,4,28,29,30]),(15,[1,2,4,8,9,10,68,69,70])]
abbrev Oa x0 x1 x2 x3:=aQ [(1,J x0),(2,.ab 0 0),(4,.ab 1 0),(28,.ax (bN x1) x2 6),(29,J (Int.ofNat x2)),(30,J x3)]
theorem auc(f:bg)(id:Int)(L:LT)(Q:QT):
 b8 Z Gi EX L Q 1000 7 [.au (ft f),J id] aq=(
 (an [] 0=aq∧By (ft f))∧ah (!pJ ez (ft f)) (Q (.aJ [.au [J 0,.aa [],J 0,J 0,J 0,J 0,.aa [],J 0,.bB],J 1]) aq) (ah (decide (id<1)) (Q (.aJ [.au [J 0,.aa [],J 0,J 0,J 0,J 0,.aa [],J 0,.bB],J 1]) aq) (ah (decide (id>1099511627776)) (Q (.aJ [.au [J 0,.aa [],J 0,J 0,J 0,J 0,.aa [],J 0,.bB],J 1]) aq) (L (Oa id f.aA f.aA.length 0) (an [(0,cu f),(1,GA)] 2) (ao Z 7 0))))):=by kernel_rfl
abbrev FM x0 x1 x2 x3:=aQ [(1,J x0),(2,.ab 0 0),(4,.ab 1 0),(8,.ab 2 0),(9,.ad 3 x1 1),(10,.ab 4 0),(68,.ad 5 x2 1),(69,J (Int.ofNat x2)),(70,J x3)]
theorem at8(f:bg)(id i:Int)(L:LT)(Q:QT):
 cO Z Gi EX L Q 1000 7 0 (Oa id f.aA f.aA.length i) (ao Z 7 0) (h7a f)=(
 ah (decide (i<Int.ofNat (List.length f.aA)))
  (∃aD:Nat,(i=(aD:Int))∧
    (aD<List.length f.aA)∧
    ∃n:Int,∃s:LN,∃aL:Int,∃bD:Int,∃cs:LV,∃len:Nat,∃cf:Int,((((bN f.aA).drop (aD*6)).take 6:LV)=[J n,.aa s,J aL,J bD,.ax cs len 4,J cf])∧
    ah (n==5)
     (∃bU:Nat,(wI (i+1)=(bU:Int))∧
       ((0<=bU)∧
       bU<=List.length f.aA)∧
       ∃w:bg,((([.au [.aa f.ay.ca,J (dG.ar (bg.ay f)),J (dG.aC (bg.ay f)),.ax (aP f.aO) (List.length f.aO) 4,.ax (((bN f.aA).drop 0).take ((bU-0)*6)) (bU-0) 6]]:LV)=[.au [.aa w.ay.ca,J (dG.ar (bg.ay w)),J (dG.aC (bg.ay w)),.ax (aP w.aO) (List.length w.aO) 4,.ax (bN w.aA) (List.length w.aA) 6]])∧
       (an [] 0=aq)∧
       (hJ w)∧
       (ez w=true)∧
       (bA w.aO)+(e8 w.aA)<20000)∧
       ∃ae:bg,((([.au [.aa f.ay.ca,J (dG.ar (bg.ay f)),J (dG.aC (bg.ay f)),.ax (aP f.aO) (List.length f.aO) 4,.ax (((bN f.aA).drop 0).take ((bU-0)*6)) (bU-0) 6]]:LV)=[.au [.aa ae.ay.ca,J (dG.ar (bg.ay ae)),J (dG.aC (bg.ay ae)),.ax (aP ae.aO) (List.length ae.aO) 4,.ax (bN ae.aA) (List.length ae.aA) 6]])∧
       (an [] 0=aq)∧
       (hJ ae)∧
       List.length ae.aA<60000)∧
       (0<List.length (ep ae))∧
       ∃cK:Int,(bQ Z 3 (aX (ep ae)) 0=some (J cK:AV))∧
       ∃bh:bg,((([.au [.aa f.ay.ca,J (dG.ar (bg.ay f)),J (dG.aC (bg.ay f)),.ax (aP f.aO) (List.length f.aO) 4,.ax (((bN f.aA).drop 0).take ((bU-0)*6)) (bU-0) 6]]:LV)=[.au [.aa bh.ay.ca,J (dG.ar (bg.ay bh)),J (dG.aC (bg.ay bh)),.ax (aP bh.aO) (List.length bh.aO) 4,.ax (bN bh.aA) (List.length bh.aA) 6]])∧
       (an [] 0=aq)∧
       hJ bh)∧
       ((List.brecOn.go (motive:=fun x=>Nat->Option AV) (aX (ep ae)) List.get?Internal._f).1 (0*1)=some (J cK:AV))∧
       (some (.au [.aa f.ay.ca,J (dG.ar (bg.ay f)),J (dG.aC (bg.ay f)),.ax (aP f.aO) (List.length f.aO) 4,.ax (((bN f.aA).drop 0).take ((bU-0)*6)) (bU-0) 6]:AV)=some (.au [.aa f.ay.ca,J (dG.ar (bg.ay f)),J (dG.aC (bg.ay f)),.ax (aP f.aO) (List.length f.aO) 4,.ax (((bN f.aA).drop 0).take ((bU-0)*6)) (bU-0) 6]:AV))∧
       L (FM id (List.length (ep ae)) (List.length (dc w).a8) 0) (an [(0,.aw [.aa f.ay.ca,J (dG.ar (bg.ay f)),J (dG.aC (bg.ay f)),.ax (aP f.aO) (List.length f.aO) 4,.ax (((bN f.aA).drop 0).take ((bU-0)*6)) (bU-0) 6] 27),(1,.aw [J 0,.aa [],J 0,J 0,J 0,J 0,.aa [],J 0,.bB] 34),(2,.aw [.ad 6 (List.length ((dc w).cg)) 1,.ad 5 (List.length ((dc w).a8)) 1,.ad 7 (List.length ((dc w).aU)) 1] 60),(3,.aF (aX (ep ae)) 3),(4,.aw [.bB,.aa f.ay.ca,J (dG.ar (bg.ay f)),J (dG.aC (bg.ay f)),.ax (aP f.aO) (List.length f.aO) 4,.ax (((bN f.aA).drop 0).take ((bU-0)*6)) (bU-0) 6,.aH 8,.aH 9,.aH 10,.aH 11,J cK,.ai false] 71),(5,.aF (aX (dc w).a8) 2),(6,.aF (aX (dc w).cg) 3),(7,.aF (aX (dc w).aU) 3),(8,.bC (bM J 0 (ql bh)) (List.length (ql bh)) true),(9,.bC [] 0 true),(10,.bC [] 0 true),(11,.bC [] 0 true)] 12) (ao Z 7 1))
     (L (Oa id f.aA (List.length f.aA) (wI (i+1))) (an [(0,.aw [.aa f.ay.ca,J (dG.ar (bg.ay f)),J (dG.aC (bg.ay f)),.ax (aP f.aO) (List.length f.aO) 4,.ax (bN f.aA) (List.length f.aA) 6] 27),(1,.aw [J 0,.aa [],J 0,J 0,J 0,J 0,.aa [],J 0,.bB] 34)] 2) (ao Z 7 0)))
  (∃w:bg,((([.au [.aa f.ay.ca,J (dG.ar (bg.ay f)),J (dG.aC (bg.ay f)),.ax (aP f.aO) (List.length f.aO) 4,.ax (bN f.aA) (List.length f.aA) 6]]:LV)=[.au [.aa w.ay.ca,J (dG.ar (bg.ay w)),J (dG.aC (bg.ay w)),.ax (aP w.aO) (List.length w.aO) 4,.ax (bN w.aA) (List.length w.aA) 6]])∧
    (an [] 0=aq)∧
    (hJ w)∧
    (ez w=true)∧
    (bA w.aO)+(e8 w.aA)<20000)∧
    ∃ae:bg,((([.au [.aa f.ay.ca,J (dG.ar (bg.ay f)),J (dG.aC (bg.ay f)),.ax (aP f.aO) (List.length f.aO) 4,.ax (bN f.aA) (List.length f.aA) 6]]:LV)=[.au [.aa ae.ay.ca,J (dG.ar (bg.ay ae)),J (dG.aC (bg.ay ae)),.ax (aP ae.aO) (List.length ae.aO) 4,.ax (bN ae.aA) (List.length ae.aA) 6]])∧
    (an [] 0=aq)∧
    (hJ ae)∧
    List.length ae.aA<60000)∧
    (0<List.length (ep ae))∧
    ∃n:Int,(bQ Z 3 (aX (ep ae)) 0=some (J n:AV))∧
    ∃bh:bg,((([.au [.aa f.ay.ca,J (dG.ar (bg.ay f)),J (dG.aC (bg.ay f)),.ax (aP f.aO) (List.length f.aO) 4,.ax (bN f.aA) (List.length f.aA) 6]]:LV)=[.au [.aa bh.ay.ca,J (dG.ar (bg.ay bh)),J (dG.aC (bg.ay bh)),.ax (aP bh.aO) (List.length bh.aO) 4,.ax (bN bh.aA) (List.length bh.aA) 6]])∧
    (an [] 0=aq)∧
    hJ bh)∧
    ((List.brecOn.go (motive:=fun x=>Nat->Option AV) (aX (ep ae)) List.get?Internal._f).1 (0*1)=some (J n:AV))∧
    (some (.au [.aa f.ay.ca,J (dG.ar (bg.ay f)),J (dG.aC (bg.ay f)),.ax (aP f.aO) (List.length f.aO) 4,.ax (bN f.aA) (List.length f.aA) 6]:AV)=some (.au [.aa f.ay.ca,J (dG.ar (bg.ay f)),J (dG.aC (bg.ay f)),.ax (aP f.aO) (List.length f.aO) 4,.ax (bN f.aA) (List.length f.aA) 6]:AV))∧
    L (FM id (List.length (ep ae)) (List.length (dc w).a8) 0) (an [(0,.aw [.aa f.ay.ca,J (dG.ar (bg.ay f)),J (dG.aC (bg.ay f)),.ax (aP f.aO) (List.length f.aO) 4,.ax (bN f.aA) (List.length f.aA) 6] 27),(1,.aw [J 0,.aa [],J 0,J 0,J 0,J 0,.aa [],J 0,.bB] 34),(2,.aw [.ad 6 (List.length ((dc w).cg)) 1,.ad 5 (List.length ((dc w).a8)) 1,.ad 7 (List.length ((dc w).aU)) 1] 60),(3,.aF (aX (ep ae)) 3),(4,.aw [.bB,.aa f.ay.ca,J (dG.ar (bg.ay f)),J (dG.aC (bg.ay f)),.ax (aP f.aO) (List.length f.aO) 4,.ax (bN f.aA) (List.length f.aA) 6,.aH 8,.aH 9,.aH 10,.aH 11,J n,.ai false] 71),(5,.aF (aX (dc w).a8) 2),(6,.aF (aX (dc w).cg) 3),(7,.aF (aX (dc w).aU) 3),(8,.bC (bM J 0 (ql bh)) (List.length (ql bh)) true),(9,.bC [] 0 true),(10,.bC [] 0 true),(11,.bC [] 0 true)] 12) (ao Z 7 1))):=by kernel_rfl
theorem aua(f:bg)(id i:Int)(c:gP)(base:LI)(m:Em)(L:LT)(Q:QT):
 cO Z Gi EX L Q 1000 7 0 (FM id base.length c.a8.length i) (ao Z 7 1) (RZ f c base m)=(
 ah (decide (i<Int.ofNat c.a8.length)) (∃aD:Nat,i=(aD:Int)∧aD<c.a8.length∧(∃n:Int,bQ Z 2 (aX c.a8) (aD*1)=some (J n:AV)∧(∃bw:List (AV×AV×Nat),∃c':Nat,jc Z 2 (bM J 0 m.a8) m.a8.length (J n) (J (wI (i+1)))=some (bw,c')∧L (FM id base.length c.a8.length (wI (i+1))) (an [(0,cu f),(1,GA),(2,.aw [.ad 6 c.cg.length 1,.ad 5 c.a8.length 1,.ad 7 c.aU.length 1] 60),(3,bp base 3),(4,fg m 8 9 10 11 12),(5,bp c.a8 2),(6,bp c.cg 3),(7,bp c.aU 3),(8,fu m),(9,eN m),(10,.bC bw c' true),(11,eU m),(12,eP m)] 13) (ao Z 7 1)))) (∃w:bg×gP,(([.au (ft f),.au [.ad 0 c.cg.length 1,.ad 1 c.a8.length 1,.ad 2 c.aU.length 1]]:LV)=[.au (ft w.1),.au [.ad 0 w.2.cg.length 1,.ad 1 w.2.a8.length 1,.ad 2 w.2.aU.length 1]]∧uw c=uw w.2∧hJ w.1)∧ah (iY w.1 w.2) (∃ae:Em×a9,(([.ab 0 0,.au [J 16,J 0,J 0,J (Int.ofNat c.a8.length),.aa [],J 0]]:LV)=[.ab 0 0,.au (cb ae.2)]∧bK m=bK ae.1∧ae.1.aM.length<65536)∧(∃bh:Em×Unit,(([.ab 0 0]:LV)=[.ab 0 0]∧bK (ae.1.aE ae.2)=bK bh.1∧VM bh.1 bh.2)∧(∃dQ:Em×gP×LI×Bool,(([.ab 0 0,.au [.ad 1 c.cg.length 1,.ad 2 c.a8.length 1,.ad 3 c.aU.length 1],.ad 4 base.length 1,.ai (iY w.1 w.2)]:LV)=[.ab 0 0,.au [.ad 1 dQ.2.1.cg.length 1,.ad 2 dQ.2.1.a8.length 1,.ad 3 dQ.2.1.aU.length 1],.ad 4 dQ.2.2.1.length 1,.ai dQ.2.2.2]∧AX (Em.fA 0 bh.1 bh.1.f.aO) w.2 base=AX dQ.1 dQ.2.1 dQ.2.2.1∧dQ.1.aM.length+mA dQ.1.f.aA<65536∧Gb dQ.2.1 dQ.2.2.1 dQ.1.f.aA)∧ah (Em.aA dQ.2.1 dQ.2.2.1 dQ.2.2.2 0 ((dQ.2.1.a8.length:Nat):Int) dQ.1 dQ.1.f.aA).gN (Q (.aJ [.au [J 0,.aa [],J 0,J 0,J 0,J 0,.aa [],J 0,.bB],J 2]) aq) (ah (decide (Int.ofNat (Em.aA dQ.2.1 dQ.2.2.1 dQ.2.2.2 0 ↑dQ.2.1.a8.length dQ.1 dQ.1.f.aA).aM.length>131072)) (Q (.aJ [.au [J 0,.aa [],J 0,J 0,J 0,J 0,.aa [],J 0,.bB],J 2]) aq) (ah (decide (Int.ofNat c.a8.length>4096)) (Q (.aJ [.au [J 0,.aa [],J 0,J 0,J 0,J 0,.aa [],J 0,.bB],J 2]) aq) (∃gz:cn×LI,(([.ad 0 (Em.aA dQ.2.1 dQ.2.2.1 dQ.2.2.2 0 ↑dQ.2.1.a8.length dQ.1 dQ.1.f.aA).aM.length 6,.ad 1 base.length 1]:LV)=[.ad 0 gz.1.length 6,.ad 1 gz.2.length 1]∧an [(0,fu (Em.aA dQ.2.1 dQ.2.2.1 dQ.2.2.2 0 ↑dQ.2.1.a8.length dQ.1 dQ.1.f.aA)),(1,bp dQ.2.2.1 3)] 2=zb gz.1 gz.2∧gz.1.length<12000∧gm gz.1<gz.2.length∧gz.2.length<100000)∧ah ((lB gz.1 gz.2).2 !=0) (Q (.aJ [.au [J 0,.aa [],J 0,J 0,J 0,J 0,.aa [],J 0,.bB],J (lB gz.1 gz.2).2]) aq) (ah (decide (Int.ofNat f.aO.length>0)) (0<f.aO.length∧(∃n:Int,∃aL:Int,∃s:LN,∃cs:LV,∃len:Nat,(((aP f.aO).drop 0).take 4:LV)=[J n,J aL,.aa s,.ax cs len 4]∧(∃nf:Int×Int×LN×LV×Nat,(([.au [J n,J aL,.aa s,.ax cs len 4]]:LV)=[.au [J nf.1,J nf.2.1,.aa nf.2.2.1,.ax nf.2.2.2.1 nf.2.2.2.2 4]]∧an [] 0=aq)∧Q (.aJ [.au [J id,.aa f.ay.ca,J f.ay.ar,J f.ay.aC,J (nB nf.1 nf.2.1 nf.2.2.1 nf.2.2.2.2).1,J (nB nf.1 nf.2.1 nf.2.2.1 nf.2.2.2.2).2.1,.aa (nB nf.1 nf.2.1 nf.2.2.1 nf.2.2.2.2).2.2.1,J (nB nf.1 nf.2.1 nf.2.2.1 nf.2.2.2.2).2.2.2,.ad 0 (lB gz.1 gz.2).1.length 6],J 0]) (an [(0,c_ (lB gz.1 gz.2).1)] 1)))) (Q (.aJ [.au [J id,.aa f.ay.ca,J f.ay.ar,J f.ay.aC,J 0,J 0,.aa [],J 0,.ad 0 (lB gz.1 gz.2).1.length 6],J 0]) (an [(0,c_ (lB gz.1 gz.2).1)] 1))))))))) (∃ae:Em×Unit,(([.ab 0 0]:LV)=[.ab 0 0]∧bK m=bK ae.1∧VM ae.1 ae.2)∧(∃bh:Em×gP×LI×Bool,(([.ab 0 0,.au [.ad 1 c.cg.length 1,.ad 2 c.a8.length 1,.ad 3 c.aU.length 1],.ad 4 base.length 1,.ai (iY w.1 w.2)]:LV)=[.ab 0 0,.au [.ad 1 bh.2.1.cg.length 1,.ad 2 bh.2.1.a8.length 1,.ad 3 bh.2.1.aU.length 1],.ad 4 bh.2.2.1.length 1,.ai bh.2.2.2]∧AX (Em.fA 0 ae.1 ae.1.f.aO) w.2 base=AX bh.1 bh.2.1 bh.2.2.1∧bh.1.aM.length+mA bh.1.f.aA<65536∧Gb bh.2.1 bh.2.2.1 bh.1.f.aA)∧ah (Em.aA bh.2.1 bh.2.2.1 bh.2.2.2 0 ((bh.2.1.a8.length:Nat):Int) bh.1 bh.1.f.aA).gN (Q (.aJ [.au [J 0,.aa [],J 0,J 0,J 0,J 0,.aa [],J 0,.bB],J 2]) aq) (ah (decide (Int.ofNat (Em.aA bh.2.1 bh.2.2.1 bh.2.2.2 0 ↑bh.2.1.a8.length bh.1 bh.1.f.aA).aM.length>131072)) (Q (.aJ [.au [J 0,.aa [],J 0,J 0,J 0,J 0,.aa [],J 0,.bB],J 2]) aq) (ah (decide (Int.ofNat c.a8.length>4096)) (Q (.aJ [.au [J 0,.aa [],J 0,J 0,J 0,J 0,.aa [],J 0,.bB],J 2]) aq) (∃dQ:cn×LI,(([.ad 0 (Em.aA bh.2.1 bh.2.2.1 bh.2.2.2 0 ↑bh.2.1.a8.length bh.1 bh.1.f.aA).aM.length 6,.ad 1 base.length 1]:LV)=[.ad 0 dQ.1.length 6,.ad 1 dQ.2.length 1]∧an [(0,fu (Em.aA bh.2.1 bh.2.2.1 bh.2.2.2 0 ↑bh.2.1.a8.length bh.1 bh.1.f.aA)),(1,bp bh.2.2.1 3)] 2=zb dQ.1 dQ.2∧dQ.1.length<12000∧gm dQ.1<dQ.2.length∧dQ.2.length<100000)∧ah ((lB dQ.1 dQ.2).2 !=0) (Q (.aJ [.au [J 0,.aa [],J 0,J 0,J 0,J 0,.aa [],J 0,.bB],J (lB dQ.1 dQ.2).2]) aq) (ah (decide (Int.ofNat f.aO.length>0)) (0<f.aO.length∧(∃n:Int,∃aL:Int,∃s:LN,∃cs:LV,∃len:Nat,(((aP f.aO).drop 0).take 4:LV)=[J n,J aL,.aa s,.ax cs len 4]∧(∃gz:Int×Int×LN×LV×Nat,(([.au [J n,J aL,.aa s,.ax cs len 4]]:LV)=[.au [J gz.1,J gz.2.1,.aa gz.2.2.1,.ax gz.2.2.2.1 gz.2.2.2.2 4]]∧an [] 0=aq)∧Q (.aJ [.au [J id,.aa f.ay.ca,J f.ay.ar,J f.ay.aC,J (nB gz.1 gz.2.1 gz.2.2.1 gz.2.2.2.2).1,J (nB gz.1 gz.2.1 gz.2.2.1 gz.2.2.2.2).2.1,.aa (nB gz.1 gz.2.1 gz.2.2.1 gz.2.2.2.2).2.2.1,J (nB gz.1 gz.2.1 gz.2.2.1 gz.2.2.2.2).2.2.2,.ad 0 (lB dQ.1 dQ.2).1.length 6],J 0]) (an [(0,c_ (lB dQ.1 dQ.2).1)] 1)))) (Q (.aJ [.au [J id,.aa f.ay.ca,J f.ay.ar,J f.ay.aC,J 0,J 0,.aa [],J 0,.ad 0 (lB dQ.1 dQ.2).1.length 6],J 0]) (an [(0,c_ (lB dQ.1 dQ.2).1)] 1)))))))))):=by kernel_rfl
theorem acM{t:aK}(h:jd t=true):0<=t.df∧t.df<4:=by
 obtain⟨k,n,s,l⟩:=t;simp only[jd,gT,cW,mf]at h;have h:=h.2.1;simp only[aK.df];unfold pY at h;split at h
 ·omega
 ·split at h
  ·omega
  ·split at h
   ·omega
   ·split at h
    ·omega
    ·cases h
theorem abk:∀(l:cY) (b:Bool) (left:Int),k6 b left l=true->∀g∈l,zI g.cx
 |[],_,_,_,g,hg=>by cases hg
 |x::l,b,left,h,g,hg=>by
  simp only[k6,cW]at h;rcases List.mem_cons.1 hg with rfl|hg
  ·exact fun t ht=>acM ((qo.1 h.1.2).1 t ht)
  ·exact abk l _ _ h.2 g hg
theorem awf{f:bg}(h:ez f=true):zI f.aO∧∀g∈f.aA,zI g.cx:=by simp only[ez,cW]at h;exact⟨fun t ht=>acM ((qo.1 h.1.2).1 t ht),abk _ _ _ h.2⟩
theorem abq:∀l:cY,mA l<=4+2*e8 l+2*l.length
 |[]=>by simp[mA]
 |g::l=>by have:=abq l;simp only[mA,e8,dv];omega
section
variable{f:bg}{id:Int}
theorem aoK(i:Nat)(m:LP)(v:Int)(l:LI):mG i m (v::l)=mG (i+1) (up v ((i+1:Nat):Int) m) l:=rfl
theorem aub(hv:ez f=true)(dF:¬(id<1∨id>1099511627776))(hf:hJ f)(Bp:bA f.aO+e8 f.aA<3600)(L1:f.aA.length<=500):
 ∀k:LI×LI×LP,(k.1++k.2.1=dV (a_ f)∧mG k.1.length k.2.2 k.2.1=mG 0 [] (dV (a_ f)))->
 bJ Z 7 152 0 (sC (cL f id)) (sB (cL f id)) (FM id (ep (a_ f)).length (dc (a_ f)).a8.length (k.1.length:Int))
  (RZ (a_ f) (dc (a_ f)) (ep (a_ f)) ⟨[],a_ f,ql (a_ f),k.2.2,[],[],(ep (a_ f)).getD 0 0,false⟩) (ao Z 7 1):=by
 have bn:=ZY hf;have uN:=awf (Q4 hv);have L2:bA (a_ f).aO+e8 (a_ f).aA<3600:=by have:=Kr f.aA;show bA f.aO+e8 (ju f.aA)<3600;omega
 have tv:(a_ f).aA.length<=500:=by have:=Ks f.aA;show(ju f.aA).length<=500;omega
 have hgz:=abq (a_ f).aA;have hgp:=G' (a_ f).aA;have zd:(ep (a_ f)).length=1+mX (a_ f).aA:=by rw[ep,Kc];simp
 have hnc:=adu (a_ f).aA;have Ek:Gb (dc (a_ f)) (ep (a_ f)) (a_ f).aA:=by refine⟨bn.2.2.2.1,bn.2.2.2.2,uN.2,ac4 _ _ _ _,ad5 _ _,fun i h hk=>?_⟩;have:=ad4 (a_ f).aA 0 i h;have h2:=this.2 hk;show 0<=(p6 0 (a_ f).aA).getD i 0∧_;have e:(dc (a_ f)).cg.getD i 0=((0+mX ((a_ f).aA.take i):Nat):Int):=this.1;rw[e,this.1,zd];exact⟨by omega,by omega,by omega⟩
 have okc:(jt (a_ f)).2=0->cL f id=(⟨id,f.ay,lM nB f.aO,(jt (a_ f)).1⟩,0):=by
  intro h;rw[cL,aB,aB (by rw[h];simp)];rintro(hh|hh)
  ·rw[hv]at hh;cases hh
  ·exact dF hh
 have yZ:∀e,(jt (a_ f)).2=e->e≠0->iS (sC (cL f id)) (sB (cL f id)) (.aJ [.au (nu Ai .bB),J e]) aq:=by
  intro e he di;have:cL f id=(Ai,e):=by
   rw[cL,aB,aY (by rw[he];exact di),he];rintro(hh|hh)
   ·rw[hv]at hh;cases hh
   ·exact dF hh
  rw[this,sC,sB,aB di,aB di];exact⟨rfl,rfl⟩
 have HM:(dV (a_ f)).length<4000:=by rw[dV,py];have h1:=List.length_filter_le (s_ (ik (a_ f)).1) (ik (a_ f)).2;have h2:=adZ (a_ f) ([],[]);simp only[fk,jI]at h2;have h2:(ik (a_ f)).2.length<=bA (a_ f).aO+e8 (a_ f).aA:=h2;omega
 refine cV (fun k=>k.2.1.length) _ _ _ _ ?_;rintro⟨A,B,pm⟩ ⟨h1,h2⟩ ih;simp only at h1 h2 ih⊢;refine hD JX 1000 EX (by kernel_rfl) ?_;rw[aua];have uH:A.length+B.length=(dV (a_ f)).length:=by rw[←h1];simp
 have kH:(dc (a_ f)).a8.length=(dV (a_ f)).length:=rfl;refine cU (fun h=>?_) (fun h=>?_)
 ·have h:=gh h;cases B with
  |nil=>simp only[fk]at uH;simp only[k_]at h;omega
  |cons v B=>have hw:wI ((A.length:Int)+1)=((A.length+1:Nat):Int):=gq (lR _) (by omega);refine⟨A.length,rfl,by simp only[dv]at uH;omega,v,by show bQ Z 2 (aX (dV (a_ f))) _=_;rw[←h1];exact qQ rfl,?_⟩;rw[hw];refine⟨_,_,qb J nv,?_⟩;have:=ih (A++[v],B,up v ((A.length+1:Nat):Int) pm) ⟨by rw[←h1];simp,by rw[←h2,aoK];simp⟩ (by simp);simp only[bI,dv,fk,jI]at this;exact this
 ·have h:=iF h;cases B with
  |cons v B=>simp only[dv]at uH;simp only[k_]at h;omega
  |nil=>
  simp only[mG]at h2;subst h2;have e0:(⟨[],a_ f,ql (a_ f),mG 0 [] (dV (a_ f)),[],[],(ep (a_ f)).getD 0 0,false⟩:Em)=kW (a_ f):=rfl;refine⟨(a_ f,dc (a_ f)),⟨rfl,rfl,bn⟩,cU (fun he=>?_) (fun he=>?_)⟩
  ·refine⟨(kW (a_ f),⟨16,0,0,((dV (a_ f)).length:Int),[],0⟩),⟨rfl,rfl,by simp[kW]⟩,?_⟩;have MA:gQ (a_ f)=(kW (a_ f)).aE ⟨16,0,0,((dV (a_ f)).length:Int),[],0⟩:=by have he:iY (a_ f) (dc (a_ f))=true:=he;rw[gQ,he];rfl
   have nS:((kW (a_ f)).aE ⟨16,0,0,((dV (a_ f)).length:Int),[],0⟩).f=a_ f:=rfl;have PC:((kW (a_ f)).aE ⟨16,0,0,((dV (a_ f)).length:Int),[],0⟩).aM.length<=1:=by have:=AM (kW (a_ f)).aM ⟨16,0,0,((dV (a_ f)).length:Int),[],0⟩;exact this
   have Pz:gm ((kW (a_ f)).aE ⟨16,0,0,((dV (a_ f)).length:Int),[],0⟩).aM=0:=by have:=Kh (kW (a_ f)).aM ⟨16,0,0,((dV (a_ f)).length:Int),[],0⟩;simp[kW,gm]at this;simpa[Em.aE,kW,gm]using this
   generalize hM1:(kW (a_ f)).aE ⟨16,0,0,((dV (a_ f)).length:Int),[],0⟩=M1 at MA nS PC Pz;refine⟨(M1,()),⟨rfl,rfl,?_,?_,?_,?_⟩,?_⟩
   ·simp only[nS];show M1.aM.length+2*bA (a_ f).aO+1<65536;omega
   ·simp only[nS];exact bn.2.1
   ·simp only[nS];exact bn.2.2.1
   ·simp only[nS];exact uN.1
   have AY:(M1.fA 0 M1.f.aO).f=a_ f:=by rw[(bS.fA M1.f.aO 0 M1).f];exact nS
   have Hf:=(bS.fA M1.f.aO 0 M1).r7;rw[nS]at Hf;have RV:=Lb (dc (a_ f)) (ep (a_ f)) (iY (a_ f) (dc (a_ f))) (a_ f).aA 0 ((dV (a_ f)).length:Int) (M1.fA 0 M1.f.aO);refine⟨(M1.fA 0 M1.f.aO,dc (a_ f),ep (a_ f),iY (a_ f) (dc (a_ f))),⟨rfl,rfl,?_,?_⟩,?_⟩
   ·simp only[AY];rw[nS];have:(M1.fA 0 (a_ f).aO).aM.length<=M1.aM.length+2*bA (a_ f).aO:=Hf.2;omega
   ·simp only[AY];exact Ek
   obtain⟨E,hE⟩:∃E,E=Em.aA (dc (a_ f)) (ep (a_ f)) (iY (a_ f) (dc (a_ f))) 0 ((dV (a_ f)).length:Int) (M1.fA 0 M1.f.aO) (M1.fA 0 M1.f.aO).f.aA:=⟨_,rfl⟩;have hM:Em.aA (dc (a_ f)) (ep (a_ f)) (iY (a_ f) (dc (a_ f))) 0 ((dV (a_ f)).length:Int) (M1.fA 0 M1.f.aO) (M1.fA 0 M1.f.aO).f.aA=fO (a_ f):=by rw[fO,MA]
   have A6:=hE.trans hM;have hG:(fO (a_ f)).aM.length<12000∧gm (fO (a_ f)).aM<(ep (a_ f)).length:=by rw[←hM,AY];rw[nS]at RV⊢;exact⟨by omega,by omega⟩
   refine cU (fun h=>?_) (fun h=>cU (fun h'=>?_) (fun h'=>cU (fun h6=>?_) (fun h6=>?_)))
   ·have h:(fO (a_ f)).gN=true:=by rw[←hM];exact h
    exact yZ 2 (by rw[jt,aY (.inl h)]) (by decide)
   ·have h':=gh h';have h':Int.ofNat E.aM.length>131072:=by rw[hE];exact h'
    have h':(fO (a_ f)).aM.length>131072:=by rw[A6]at h';simp only[k_]at h';omega
    exact yZ 2 (by rw[jt,aY (.inr (.inl h'))]) (by decide)
   ·have h6:=gh h6;have h6:(dV (a_ f)).length>4096:=by simp only[k_]at h6;have h6:((dV (a_ f)).length:Int)>4096:=h6;omega
    exact yZ 2 (by rw[jt,aY (.inr (.inr h6))]) (by decide)
   ·have h:E.gN=false:=by rw[hE];exact h
    have h:¬(fO (a_ f)).gN=true:=by rw[A6]at h;rw[h];simp
    have h':=iF h';have h':¬Int.ofNat E.aM.length>131072:=by rw[hE];exact h'
    have h':¬(fO (a_ f)).aM.length>131072:=by rw[A6]at h';simp only[k_]at h';omega
    have h6:=iF h6;have h6:¬(dV (a_ f)).length>4096:=by simp only[k_]at h6;have h6:¬((dV (a_ f)).length:Int)>4096:=h6;omega
    have sf:jt (a_ f)=lB (fO (a_ f)).aM (ep (a_ f)):=by
     rw[jt,aB];rintro(hh|hh|hh)
     ·exact h hh
     ·exact h' hh
     ·exact h6 hh
    refine⟨((fO (a_ f)).aM,ep (a_ f)),⟨by rw[←hM];rfl,by rw[←hM];rfl,hG.1,hG.2,by simp only;rw[zd];omega⟩,cU (fun h0=>?_) (fun h0=>?_)⟩
    ·have h0:(jt (a_ f)).2≠0:=by rw[sf];simpa using h0
     have:=yZ _ rfl h0;rw[sf]at this;exact this
    ·have h0:(jt (a_ f)).2=0:=by rw[sf];simpa using h0
     have e:=okc h0;rw[sf]at e;cases hT:f.aO with
     |nil=>
      refine cU (fun hz=>?_) (fun hz=>?_)
      ·have hz:=gh hz;have hz:Int.ofNat f.aO.length>0:=hz;rw[hT]at hz;simp at hz
      ·rw[e,sC,sB,aY rfl,aY rfl,hT];exact⟨rfl,rfl⟩
     |cons t T=>
      obtain⟨k,n,s,ls⟩:=t;refine cU (fun hz=>?_) (fun hz=>?_)
      ·refine⟨by show 0<f.aO.length;rw[hT];simp,k,n,s,aP ls,ls.length,?_,(k,n,s,aP ls,ls.length),⟨rfl,rfl⟩,?_⟩
       ·show((aP f.aO).drop 0).take 4=_;rw[hT];rfl
       ·rw[e,sC,sB,aY rfl,aY rfl,hT];exact⟨rfl,rfl⟩
      ·have hz:=iF hz;have hz:¬Int.ofNat f.aO.length>0:=hz;rw[hT]at hz;simp at hz
  ·have MA:gQ (a_ f)=kW (a_ f):=by have he:iY (a_ f) (dc (a_ f))=false:=he;rw[gQ,he];rfl
   have nS:(kW (a_ f)).f=a_ f:=rfl;have PC:(kW (a_ f)).aM.length<=1:=by simp[kW]
   have Pz:gm (kW (a_ f)).aM=0:=by simp[kW,gm]
   rw[e0];generalize hM1:kW (a_ f)=M1 at MA nS PC Pz;refine⟨(M1,()),⟨rfl,rfl,?_,?_,?_,?_⟩,?_⟩
   ·simp only[nS];show M1.aM.length+2*bA (a_ f).aO+1<65536;omega
   ·simp only[nS];exact bn.2.1
   ·simp only[nS];exact bn.2.2.1
   ·simp only[nS];exact uN.1
   have AY:(M1.fA 0 M1.f.aO).f=a_ f:=by rw[(bS.fA M1.f.aO 0 M1).f];exact nS
   have Hf:=(bS.fA M1.f.aO 0 M1).r7;rw[nS]at Hf;have RV:=Lb (dc (a_ f)) (ep (a_ f)) (iY (a_ f) (dc (a_ f))) (a_ f).aA 0 ((dV (a_ f)).length:Int) (M1.fA 0 M1.f.aO);refine⟨(M1.fA 0 M1.f.aO,dc (a_ f),ep (a_ f),iY (a_ f) (dc (a_ f))),⟨rfl,rfl,?_,?_⟩,?_⟩
   ·simp only[AY];rw[nS];have:(M1.fA 0 (a_ f).aO).aM.length<=M1.aM.length+2*bA (a_ f).aO:=Hf.2;omega
   ·simp only[AY];exact Ek
   obtain⟨E,hE⟩:∃E,E=Em.aA (dc (a_ f)) (ep (a_ f)) (iY (a_ f) (dc (a_ f))) 0 ((dV (a_ f)).length:Int) (M1.fA 0 M1.f.aO) (M1.fA 0 M1.f.aO).f.aA:=⟨_,rfl⟩;have hM:Em.aA (dc (a_ f)) (ep (a_ f)) (iY (a_ f) (dc (a_ f))) 0 ((dV (a_ f)).length:Int) (M1.fA 0 M1.f.aO) (M1.fA 0 M1.f.aO).f.aA=fO (a_ f):=by rw[fO,MA]
   have A6:=hE.trans hM;have hG:(fO (a_ f)).aM.length<12000∧gm (fO (a_ f)).aM<(ep (a_ f)).length:=by rw[←hM,AY];rw[nS]at RV⊢;exact⟨by omega,by omega⟩
   refine cU (fun h=>?_) (fun h=>cU (fun h'=>?_) (fun h'=>cU (fun h6=>?_) (fun h6=>?_)))
   ·have h:(fO (a_ f)).gN=true:=by rw[←hM];exact h
    exact yZ 2 (by rw[jt,aY (.inl h)]) (by decide)
   ·have h':=gh h';have h':Int.ofNat E.aM.length>131072:=by rw[hE];exact h'
    have h':(fO (a_ f)).aM.length>131072:=by rw[A6]at h';simp only[k_]at h';omega
    exact yZ 2 (by rw[jt,aY (.inr (.inl h'))]) (by decide)
   ·have h6:=gh h6;have h6:(dV (a_ f)).length>4096:=by simp only[k_]at h6;have h6:((dV (a_ f)).length:Int)>4096:=h6;omega
    exact yZ 2 (by rw[jt,aY (.inr (.inr h6))]) (by decide)
   ·have h:E.gN=false:=by rw[hE];exact h
    have h:¬(fO (a_ f)).gN=true:=by rw[A6]at h;rw[h];simp
    have h':=iF h';have h':¬Int.ofNat E.aM.length>131072:=by rw[hE];exact h'
    have h':¬(fO (a_ f)).aM.length>131072:=by rw[A6]at h';simp only[k_]at h';omega
    have h6:=iF h6;have h6:¬(dV (a_ f)).length>4096:=by simp only[k_]at h6;have h6:¬((dV (a_ f)).length:Int)>4096:=h6;omega
    have sf:jt (a_ f)=lB (fO (a_ f)).aM (ep (a_ f)):=by
     rw[jt,aB];rintro(hh|hh|hh)
     ·exact h hh
     ·exact h' hh
     ·exact h6 hh
    refine⟨((fO (a_ f)).aM,ep (a_ f)),⟨by rw[←hM];rfl,by rw[←hM];rfl,hG.1,hG.2,by simp only;rw[zd];omega⟩,cU (fun h0=>?_) (fun h0=>?_)⟩
    ·have h0:(jt (a_ f)).2≠0:=by rw[sf];simpa using h0
     have:=yZ _ rfl h0;rw[sf]at this;exact this
    ·have h0:(jt (a_ f)).2=0:=by rw[sf];simpa using h0
     have e:=okc h0;rw[sf]at e;cases hT:f.aO with
     |nil=>
      refine cU (fun hz=>?_) (fun hz=>?_)
      ·have hz:=gh hz;have hz:Int.ofNat f.aO.length>0:=hz;rw[hT]at hz;simp at hz
      ·rw[e,sC,sB,aY rfl,aY rfl,hT];exact⟨rfl,rfl⟩
     |cons t T=>
      obtain⟨k,n,s,ls⟩:=t;refine cU (fun hz=>?_) (fun hz=>?_)
      ·refine⟨by show 0<f.aO.length;rw[hT];simp,k,n,s,aP ls,ls.length,?_,(k,n,s,aP ls,ls.length),⟨rfl,rfl⟩,?_⟩
       ·show((aP f.aO).drop 0).take 4=_;rw[hT];rfl
       ·rw[e,sC,sB,aY rfl,aY rfl,hT];exact⟨rfl,rfl⟩
      ·have hz:=iF hz;have hz:¬Int.ofNat f.aO.length>0:=hz;rw[hT]at hz;simp at hz
theorem aeN(cs:LV):(List.brecOn.go (motive:=fun _=>Nat->Option AV) cs List.get?Internal._f).1 (0*1)=bQ Z 3 cs 0:=by kernel_rfl
theorem Rh:∀(a b:cY),bN (a++b)=bN a++bN b
 |[],b=>rfl
 |x::a,b=>by simp[bN,Rh a b]
theorem KD:∀a:cY,(bN a).length=a.length*6
 |[]=>rfl
 |x::a=>by simp[bN,Dx,KD a];omega
def l7(g:bg)(c:AV):List (Nat×aZ):=[(0,cu g),(1,GA),(2,.aw [.ad 6 (dc g).cg.length 1,.ad 5 (dc g).a8.length 1,.ad 7 (dc g).aU.length 1] 60),(3,bp (ep g) 3),
 (4,.aw [c,.aa g.ay.ca,J g.ay.ar,J g.ay.aC,.ax (aP g.aO) g.aO.length 4,.ax (bN g.aA) g.aA.length 6,.aH 8,.aH 9,.aH 10,.aH 11,J ((ep g).getD 0 0),.ai false] 71),
 (5,bp (dc g).a8 2),(6,bp (dc g).cg 3),(7,bp (dc g).aU 3),(8,.bC (bM J 0 (ql g)) (ql g).length true),(9,.bC [] 0 true),(10,.bC [] 0 true),(11,.bC [] 0 true)]
def t7(id:Int)(g:bg)(i:Int):Tr AV:=FM id (ep g).length (dc g).a8.length i
def ps7:List (Nat×Nat):=[(0,0),(1,1),(2,2),(3,3),(4,4),(5,5),(6,6),(7,7),(12,8),(8,9),(9,10),(10,11),(11,12)]
theorem awq(g:bg):oT 0 [0,1,2,3,4,5] (an (l7 g (.ad 12 0 6)++[(12,.aF [] 50)]) (12+1))=some ⟨ps7,RZ g (dc g) (ep g) ⟨[],g,ql g,[],[],[],(ep g).getD 0 0,false⟩⟩:=by kernel_rfl
theorem awu(id:Int)(g:bg)(i:Int):tV (jA ps7) (t7 id g i) [1,2,4,8,9,10,68,69,70]=some (t7 id g i):=by kernel_rfl
theorem aud(hv:ez f=true)(dF:¬(id<1∨id>1099511627776))(hf:hJ f)(Bp:bA f.aO+e8 f.aA<3600)(L1:f.aA.length<=500):
 bJ Z 7 152 0 (sC (cL f id)) (sB (cL f id)) (t7 id (a_ f) 0) (an (l7 (a_ f) .bB) 12) (ao Z 7 1):=by
 have:=aub (f:=f) (id:=id) hv dF hf Bp L1 ([],dV (a_ f),[]) ⟨rfl,rfl⟩;refine Ej (H':=an (l7 (a_ f) (.ad 12 0 6)++[(12,.aF [] 50)]) (12+1)) ?_ (xY (g:=4) (l:=l7 (a_ f) .bB) (l':=l7 (a_ f) (.ad 12 0 6)) (vs:=[.bB,.aa (a_ f).ay.ca,J (a_ f).ay.ar,J (a_ f).ay.aC,.ax (aP (a_ f).aO) (a_ f).aO.length 4,.ax (bN (a_ f).aA) (a_ f).aA.length 6,.aH 8,.aH 9,.aH 10,.aH 11,J ((ep (a_ f)).getD 0 0),.ai false]) (eV:=[.ad 12 0 6,.aa (a_ f).ay.ca,J (a_ f).ay.ar,J (a_ f).ay.aC,.ax (aP (a_ f).aO) (a_ f).aO.length 4,.ax (bN (a_ f).aA) (a_ f).aA.length 6,.aH 8,.aH 9,.aH 10,.aH 11,J ((ep (a_ f)).getD 0 0),.ai false]) (el:=71) rfl (fun i=>by simp only[l7,dq];by_cases h:i=4<;>simp[h]) rfl (fun φ x hx=>by obtain⟨v,l,rfl,h1,h2⟩:=hx;exact⟨v,l,rfl,sY h1,h2⟩) ⟨rfl,rfl⟩) (by kernel_rfl);exact dH.rU (by kernel_rfl) (awq (a_ f)) (awu id (a_ f) 0) this
theorem at9(hv:ez f=true)(dF:¬(id<1∨id>1099511627776))(hf:hJ f)(Bp:bA f.aO+e8 f.aA<3600)(L1:f.aA.length<=500):
 ∀k:cY×cY,(k.1++k.2=f.aA∧ju f.aA=k.1++ju k.2)->
 bJ Z 7 152 0 (sC (cL f id)) (sB (cL f id)) (Oa id f.aA f.aA.length (k.1.length:Int)) (h7a f) (ao Z 7 0):=by
 have et:=aud (f:=f) (id:=id) hv dF hf Bp L1;have bn:=ZY hf;have Bu:=Q4 hv;have L2:bA (a_ f).aO+e8 (a_ f).aA<20000:=by have:=Kr f.aA;show bA f.aO+e8 (ju f.aA)<20000;omega
 have tv:(a_ f).aA.length<60000:=by have:=Ks f.aA;show(ju f.aA).length<60000;omega
 have zd:0<(ep (a_ f)).length:=by rw[ep,Kc];omega
 have nX:=ja zd;rw[Nat.zero_mul]at nX;have bF:=hf.2.2.2.1;refine cV (fun k=>k.2.length) _ _ _ _ ?_;rintro⟨A,B⟩ ⟨h1,h2⟩ ih;simp only at h1 h2 ih⊢;have uH:A.length+B.length=f.aA.length:=by rw[←h1];simp
 refine hD JX 1000 EX (by kernel_rfl) ?_;rw[at8];refine cU (fun h=>?_) (fun h=>?_)
 ·have h:=gh h;cases B with
  |nil=>simp only[fk]at uH;simp only[k_]at h;omega
  |cons g B=>
   have aj:A.length<f.aA.length:=by simp only[dv]at uH;omega
   obtain⟨k,nm,ar,aC,ls,v,he,bX,axY⟩:=ra aj hf.2.2.2.2;have hg:f.aA[A.length]=g:=by simp[←h1]
   rw[hg]at he;have hw:wI ((A.length:Int)+1)=((A.length+1:Nat):Int):=je bF aj;refine⟨A.length,rfl,aj,k,nm,ar,aC,_,_,v,bX,cU (fun hk=>?_) (fun hk=>?_)⟩
   ·have hk:g.cS=5:=by rw[he];simpa using hk
    have hc:ju f.aA=A++[g]:=by rw[h2];simp[ju,hk]
    have ex:f.aA=(A++[g])++B:=by rw[←h1];simp
    have e1:((bN f.aA).drop 0).take ((A.length+1-0)*6)=bN (a_ f).aA:=by show _=bN (ju f.aA);rw[hc,jB,ex,Rh];exact List.take_left' (by rw[KD];simp)
    have e2:A.length+1-0=(a_ f).aA.length:=by show _=(ju f.aA).length;rw[hc];simp
    refine⟨A.length+1,hw,⟨Nat.zero_le _,by omega⟩,?_⟩;rw[e1,e2];refine⟨a_ f,⟨rfl,rfl,bn,Bu,L2⟩,a_ f,⟨rfl,rfl,bn,tv⟩,zd,(ep (a_ f)).getD 0 0,nX,a_ f,⟨rfl,rfl,bn⟩,(aeN _).trans nX,rfl,?_⟩;exact et
   ·have hk:g.cS≠5:=by rw[he];simpa using hk
    rw[hw];have:=ih (A++[g],B) ⟨by rw[←h1];simp,by rw[h2];simp[ju,hk]⟩ (by simp);simp only[bI,dv,fk,jI]at this;exact this
 ·have h:=iF h;cases B with
  |cons g B=>simp only[dv]at uH;simp only[k_]at h;omega
  |nil=>
   have hc:a_ f=f:=by
    have:ju f.aA=f.aA:=by rw[h2];simpa[ju]using h1
    obtain⟨p,a,g⟩:=f;simp only[a_]at this⊢;rw[this]
   rw[hc]at bn Bu L2 tv zd nX et;refine⟨f,⟨rfl,rfl,bn,Bu,L2⟩,f,⟨rfl,rfl,bn,tv⟩,zd,(ep f).getD 0 0,nX,f,⟨rfl,rfl,bn⟩,(aeN _).trans nX,rfl,?_⟩;exact et
end
theorem ahR{φ:bf}{a b c d e f g h:AV}{n:Nat}{x:Value}{y:AV}(hx:VR φ (.aJ [.au [a,b,c,d,e,f,g,h,.bB],y]) x):VR φ (.aJ [.au [a,b,c,d,e,f,g,h,.ad n 0 6],y]) x:=by obtain⟨cs,rfl,v1,l1,gY,⟨oA,rfl,w1,m1,alE,q1,w2,m2,rfl,q2,w3,m3,rfl,q3,w4,m4,rfl,q4,w5,m5,rfl,q5,w6,m6,rfl,q6,w7,m7,rfl,q7,w8,m8,rfl,q8,w9,m9,rfl,q9,q10⟩,rest⟩:=hx;exact⟨cs,rfl,_,l1,gY,⟨oA,rfl,w1,_,alE,q1,w2,_,rfl,q2,w3,_,rfl,q3,w4,_,rfl,q4,w5,_,rfl,q5,w6,_,rfl,q6,w7,_,rfl,q7,w8,_,rfl,q8,w9,_,rfl,sY q9,q10⟩,rest⟩
theorem apa{fn:FuncId}{args:LV}{r:fR×Int}(hr:r.2≠0->r.1=Ai)(h:dT Z fn args aq (sC r) (sB r)):dT Z fn args aq (.aJ [.au (nu r.1 (.ad 0 r.1.bk.length 6)),J r.2]) (hB r.1):=by
 by_cases h0:r.2=0
 ·rw[sC,sB,aY h0,aY h0]at h;exact h
 ·rw[sC,sB,aB h0,aB h0]at h;rw[hr h0];exact DD (R:=fun φ aW=>aW=φ) h (BJ (l:=[]) (n:=0) (.aF [] 50) rfl) (fB _) (fun φ aW hR x hx=>by subst hR;exact ahR hx)
theorem YI:bm Z PW:=by
 refine de JX ?_;rintro⟨f,id⟩ args H ⟨rfl,rfl,hf,hs⟩;simp only[QY];have hz:(cL f id).2≠0->(cL f id).1=Ai:=by
  unfold cL;split
  ·intro _;rfl
  ·split
   ·intro _;rfl
   ·intro h;exact absurd rfl h
 refine apa hz ?_;refine eS JX 1000 EX 152 (by kernel_rfl) ?_;rw[auc];have AE:ez f=false∨id<1∨id>1099511627776->iS (sC (cL f id)) (sB (cL f id)) (.aJ [.au (nu Ai .bB),J 1]) aq:=by intro h;rw[cL,aY h];exact⟨rfl,rfl⟩
 have hd:pJ ez (ft f)=ez f:=yT ez f;refine⟨⟨rfl,⟨f,rfl,hf⟩⟩,cU (fun h=>?_) (fun h=>cU (fun h2=>?_) (fun h2=>cU (fun h3=>?_) (fun h3=>?_)))⟩
 ·have h:(!pJ ez (ft f))=true:=h;rw[hd]at h;exact AE (.inl (by simpa using h))
 ·exact AE (.inr (.inl (gh h2)))
 ·exact AE (.inr (.inr (gh h3)))
 ·have h:(!pJ ez (ft f))=false:=h;rw[hd]at h;have hv:ez f=true:=by simpa using h
  have h2:=iF h2;have h3:=iF h3;obtain⟨s1,s2⟩:=hs hv;exact at9 (f:=f) (id:=id) hv (by omega) hf s1 s2 ([],f.aA) ⟨rfl,rfl⟩
structure Ck where
 d:List (Int×Nat)
 kV:Nat
 aR:Int
 args:Int
 after:Int
 bP:Bool
def gw(d:List (Int×Nat)):List (AV×AV×Nat):=d.map fun p=>(J p.1,J 1,p.2)
def qW(m:Nat)(c:Ck):aZ:=.aw [.aH m,J c.aR,J c.args,J c.after,.ai c.bP] 139
def dO(c:Ck):aZ:=.bC (gw c.d) c.kV true
def cj(c:Ck):AH:=an [(0,qW 1 c),(1,dO c)] 2
theorem aai:∀{d e:List (Int×Nat)},gw d=gw e->d=e
 |[],[],_=>rfl
 |[],_::_,h=>by cases h
 |_::_,[],h=>by cases h
 |(a,b)::d,(a',b')::e,h=>by simp only[gw,List.map_cons,List.cons.injEq,Prod.mk.injEq,AV.ck.injEq,true_and]at h;obtain⟨⟨rfl,rfl⟩,h⟩:=h;rw[aai (d:=d) (e:=e) h]
theorem Ln{c c':Ck}(h:cj c=cj c'):c=c':=by
 have q0:=congrArg (fun H=>AH.bu H 0) h;have q1:=congrArg (fun H=>AH.bu H 1) h;simp only[cj,dy]at q0 q1;have q0:qW 1 c=qW 1 c':=Option.some.inj q0;have q1:dO c=dO c':=Option.some.inj q1;obtain⟨d,kV,aR,args,after,bP⟩:=c;obtain⟨d',ai4,axO,args',axF,axI⟩:=c';simp only[qW,aZ.aw.injEq,List.cons.injEq,AV.ck.injEq,AV.ai.injEq,true_and,and_true]at q0;unfold dO at q1;obtain⟨rfl,rfl,rfl,rfl⟩:=q0;have h1:gw d=gw d':=by injection q1
 have h2:kV=ai4:=by injection q1
 rw[aai h1,h2]
def e9(op:Int):Bool:=decide (op>=6)&&decide (op<=10)
def Ck.ex(c:Ck)(r:Int):Bool:=decide (r>0)||decide (-r<=c.aR)
def mV(r:Int):List (Int×Nat)->Option (Nat×Nat)
 |[]=>none
 |p::l=>if r=p.1 then some (0,p.2)else(mV r l).map fun q=>(q.1+1,q.2)
def iL(d:List (Int×Nat))(r:Int):Bool:=(mV r d).isSome
def mN:List (Int×Nat)->Int->List (Int×Nat)
 |[],_=>[]
 |p::l,r=>if r=p.1 then l else p::mN l r
def rP(n:Int):Nat->Int->List (Int×Nat)->List (Int×Nat)
 |0,_,d=>d
 |k+1,y,d=>rP n k (y+1) (if y>n then mN d (-y)else d)
def Ck.mj(c:Ck)(r:Int):Ck:=if iL c.d r=true then c else{c with d:=c.d++[(r,c.kV)],kV:=c.kV+1}
def fU(r:Int):Prop:= -4096<=r∧r<=4096
def Zb:List AV->Option (Prop×AV)
 |[.ck .i64 op]=>some (True,.ai (e9 op))
 |_=>none
def KW:dp (Ck×Int)where
 ba w A H:=A=[.ab 0 0,J w.2]∧H=cj w.1∧fU w.2
 v w:=.ai (w.1.ex w.2)
 aN w:=cj w.1
theorem akk:KW.dx:=by rintro⟨c,r⟩ ⟨c',r'⟩ A H ⟨h1,h2,_⟩ ⟨h3,h4,_⟩;simp only at h1 h2 h3 h4;rw[h2]at h4;rw[h1]at h3;simp only[List.cons.injEq,AV.ck.injEq,and_true,true_and]at h3;rw[Ln h4,h3]
def Ck.ew(c:Ck)(r:Int):Ck:=if c.ex r=true then c.mj r else c
def Dq:dp (Ck×Int)where
 ba w A H:=A=[.ab 0 0,J w.2]∧H=cj w.1∧fU w.2
 v w:=.ai (w.1.ex w.2)
 aN w:=cj (w.1.ew w.2)
theorem ajz:Dq.dx:=by rintro⟨c,r⟩ ⟨c',r'⟩ A H ⟨h1,h2,_⟩ ⟨h3,h4,_⟩;simp only at h1 h2 h3 h4;rw[h2]at h4;rw[h1]at h3;simp only[List.cons.injEq,AV.ck.injEq,and_true,true_and]at h3;rw[Ln h4,h3]
def Ck.ko(c:Ck)(n:Int):Ck:={c with aR:=n,d:=rP n 4096 1 c.d}
def skX:dp (Ck×Int)where
 ba w A H:=A=[.ab 0 0,J w.2]∧H=cj w.1
 v w:=.aJ []
 aN w:=cj (w.1.ko w.2)
theorem avk:skX.dx:=by rintro⟨c,r⟩ ⟨c',r'⟩ A H ⟨h1,h2⟩ ⟨h3,h4⟩;simp only at h1 h2 h3 h4;rw[h2]at h4;rw[h1]at h3;simp only[List.cons.injEq,AV.ck.injEq,and_true,true_and]at h3;rw[Ln h4,h3]
def V1:Ev.bz:=eB 81 (eG Zb) PW
def V2:Ev.bz:=cz 84 (cM KW akk cZ) V1
def V3:Ev.bz:=cz 83 (cM Dq ajz cZ) V2
def V4:Ev.bz:=cz 85 (cM skX avk cZ) V3
def MD:Nat->List Nat:=kg [(2,[0,1,4])]
theorem auf(op:Int)(L:LT)(Q:QT):
 b8 Z PW (fun _=>[]) L Q 1000 81 [J op] aq=(
 ah (decide (op>=6)) (Q (.ai (decide (op<=10))) aq) (Q (.ai false) aq)):=by kernel_rfl
theorem aui(c:Ck)(r:Int)(L:LT)(Q:QT):
 b8 Z V1 (fun _=>[]) L Q 1000 84 [.ab 0 0,J r] (cj c)=(
 ah (decide (r>0)) (Q (.ai true) (an [(0,.aw [.aH 1,J (Ck.aR c),J (Ck.args c),J (Ck.after c),.ai (Ck.bP c)] 139),(1,.bC (gw c.d) (Ck.kV c) true)] 2)) (Q (.ai (decide (wI (0-r)<=Ck.aR c))) (an [(0,.aw [.aH 1,J (Ck.aR c),J (Ck.args c),J (Ck.after c),.ai (Ck.bP c)] 139),(1,.bC (gw c.d) (Ck.kV c) true)] 2))):=by kernel_rfl
theorem auh(c:Ck)(r:Int)(L:LT)(Q:QT):
 b8 Z V2 (fun _=>[]) L Q 1000 83 [.ab 0 0,J r] (cj c)=(
 ∃w:Ck×Int,(([.ab 0 0,J r]:LV)=[.ab 0 0,J w.2]∧an [(0,.aw [.aH 1,J (Ck.aR c),J (Ck.args c),J (Ck.after c),.ai (Ck.bP c)] 139),(1,.bC (gw c.d) (Ck.kV c) true)] 2=cj w.1∧fU w.2)∧ah (!Ck.ex w.1 w.2) (Q (.ai false) (an [(0,.aw [.aH 1,J (Ck.aR w.1),J (Ck.args w.1),J (Ck.after w.1),.ai (Ck.bP w.1)] 139),(1,.bC (gw w.1.d) (Ck.kV w.1) true)] 2)) (∃bw:List (AV×AV×Nat),∃c':Nat,jc Z 3 (gw w.1.d) (Ck.kV w.1) (J r) (J 1)=some (bw,c')∧Q (.ai true) (an [(0,.aw [.aH 1,J (Ck.aR w.1),J (Ck.args w.1),J (Ck.after w.1),.ai (Ck.bP w.1)] 139),(1,.bC bw c' true)] 2))):=by kernel_rfl
theorem auk(c:Ck)(n:Int)(L:LT)(Q:QT):
 b8 Z V3 MD L Q 1000 85 [.ab 0 0,J n] (cj c)=(
 L (aQ [(0,.ab 0 0),(1,J n),(4,J 1)]) (an [(0,.aw [.aH 1,J n,J (Ck.args c),J (Ck.after c),.ai (Ck.bP c)] 139),(1,.bC (gw c.d) (Ck.kV c) true)] 2) (ao Z 85 0)):=by kernel_rfl
theorem aul(c:Ck)(n y:Int)(L:LT)(Q:QT):
 cO Z V3 MD L Q 1000 85 2 (aQ [(0,.ab 0 0),(1,J n),(4,J y)]) (ao Z 85 0) (cj c)=(
 ah (decide (y<=4096)) (ah (decide (y>n)) (∃bw:List (AV×AV×Nat),Dl Z 3 (gw c.d) (J (wI (0-y)))=some bw∧L (aQ [(0,.ab 0 0),(1,J n),(4,J (wI (y+1)))]) (an [(0,.aw [.aH 1,J (Ck.aR c),J (Ck.args c),J (Ck.after c),.ai (Ck.bP c)] 139),(1,.bC bw (Ck.kV c) true)] 2) (ao Z 85 0)) (L (aQ [(0,.ab 0 0),(1,J n),(4,J (wI (y+1)))]) (an [(0,.aw [.aH 1,J (Ck.aR c),J (Ck.args c),J (Ck.after c),.ai (Ck.bP c)] 139),(1,.bC (gw c.d) (Ck.kV c) true)] 2) (ao Z 85 0))) (Q (.aJ []) (an [(0,.aw [.aH 1,J (Ck.aR c),J (Ck.args c),J (Ck.after c),.ai (Ck.bP c)] 139),(1,.bC (gw c.d) (Ck.kV c) true)] 2))):=by kernel_rfl
theorem YP:bm Z V1:=by
 refine iE YI fun args q v h hq=>?_
 unfold Zb at h;split at h<;>cases h;refine eS YI 1000 (fun _=>[]) 9 (by kernel_rfl) ?_;rw[auf];refine cU (fun h=>?_) (fun h=>?_)
 ·exact⟨by rw[e9,h,Bool.true_and],rfl⟩
 ·exact⟨by rw[e9,h,Bool.false_and],rfl⟩
theorem YQ:bm Z V2:=by
 refine de YP ?_;rintro⟨c,r⟩ args H ⟨rfl,rfl,hr⟩;refine eS YP 1000 (fun _=>[]) 16 (by kernel_rfl) ?_;rw[aui];refine cU (fun h=>?_) (fun h=>?_)
 ·exact⟨by simp only[KW,Ck.ex];rw[h,Bool.true_or],rfl⟩
 ·refine⟨?_,rfl⟩;simp only[KW,Ck.ex];unfold fU at hr;rw[h,Bool.false_or,cX (by omega) (by omega),Int.zero_sub]
theorem KB{r:Int}:∀(d:List (Int×Nat)) (i:Nat),kY (ie Z 100 3) (J r) (gw d) i=some ((mV r d).map fun q=>(i+q.1,J 1,q.2))
 |[],i=>rfl
 |(x,b)::d,i=>by
  have ih:=KB (r:=r) d (i+1);simp only[gw,List.map_cons,kY,vL r x,mV]at ih⊢;by_cases h:r=x
  ·subst h;simp
  ·have:(r==x)=false:=by simpa using h
   rw[this,if_neg h];simp only;rw[ih];cases mV r d<;>simp[Nat.add_assoc,Nat.add_comm 1]
theorem ajO(d:List (Int×Nat))(r:Int):fX Z 3 3 (gw d) (J r)=some (J (if iL d r=true then 1 else 0),iL d r):=by
 unfold fX iL;rw[KB];cases mV r d with
 |none=>simp[FY]
 |some q=>simp
theorem T1{r:Int}:∀{d:List (Int×Nat)} {q:Nat×Nat},mV r d=some q->tM (gw d) q.1 (J r)=true∧nJ (gw d) q.1 (fun e=>(J r,J 1,e.2.2))=gw d∧uD (gw d) q.1=gw (mN d r)
 |[],_,h=>by cases h
 |(x,b)::d,q,h=>by
  simp only[mV]at h;split at h
  ·rename_i hx;cases h;subst hx;refine⟨by simp[tM,gw,GU,DG],by simp[gw,nJ],by simp[gw,uD,mN]⟩
  ·rename_i hx;obtain⟨q',h',rfl⟩:=Option.map_eq_some_iff.1 h;obtain⟨h1,h2,h3⟩:=T1 (d:=d) h';refine⟨by simpa[tM,gw]using h1,?_,?_⟩
   ·simp only[gw,List.map_cons,nJ]at h2⊢;rw[h2]
   ·simp only[gw,List.map_cons,uD,mN,if_neg hx]at h3⊢;rw[h3]
theorem Z5{r:Int}:∀{d:List (Int×Nat)},mV r d=none->mN d r=d
 |[],_=>rfl
 |(x,b)::d,h=>by
  simp only[mV]at h;split at h
  ·cases h
  ·rename_i hx;simp only[mN,if_neg hx];rw[Z5 (by simpa using h)]
theorem Rf(c:Ck)(r:Int):jc Z 3 (gw c.d) c.kV (J r) (J 1)=some (gw (c.mj r).d,(c.mj r).kV):=by
 unfold jc Ck.mj iL;rw[KB];cases h:mV r c.d with
 |none=>simp[gw]
 |some q=>obtain⟨h1,h2,_⟩:=T1 h;simp only[Option.map_some,Nat.zero_add,h1,cond_true,h2,Option.isSome_some,if_true]
theorem aah(d:List (Int×Nat))(r:Int):Dl Z 3 (gw d) (J r)=some (gw (mN d r)):=by
 unfold Dl;rw[KB];cases h:mV r d with
 |none=>simp[Z5 h]
 |some q=>simp[(T1 h).2.2]
theorem BW(c:Ck)(r:Int):(c.mj r).aR=c.aR∧(c.mj r).args=c.args∧(c.mj r).after=c.after∧(c.mj r).bP=c.bP:=by unfold Ck.mj;split<;>exact⟨rfl,rfl,rfl,rfl⟩
theorem P4:bm Z V3:=by
 refine de YQ ?_;rintro⟨c,r⟩ args H ⟨rfl,rfl,hr⟩;refine eS YQ 1000 (fun _=>[]) 14 (by kernel_rfl) ?_;rw[auh];refine⟨(c,r),⟨rfl,rfl,hr⟩,cU (fun h=>?_) (fun h=>?_)⟩
 ·have h:c.ex r=false:=by simpa using h
  exact⟨by simp only[Dq];rw[h],by simp only[Dq,Ck.ew];rw[h];rfl⟩
 ·have h:c.ex r=true:=by simpa using h
  refine⟨_,_,Rf c r,?_,?_⟩
  ·simp only[Dq];rw[h]
  ·simp only[Dq,Ck.ew];rw[if_pos h];obtain⟨h1,h2,h3,h4⟩:=BW c r;simp only[cj,qW,dO,h1,h2,h3,h4]
theorem auj{c:Ck}{n:Int}{D:List (Int×Nat)}:
 ∀p:Nat×List (Int×Nat),(p.1<=4096∧rP n (4096-p.1) ((p.1:Int)+1) p.2=D)->
 bJ Z 85 22 2 (.aJ []) (cj {c with d:=D}) (aQ [(0,.ab 0 0),(1,J n),(4,J ((p.1:Int)+1))]) (cj {c with d:=p.2}) (ao Z 85 0):=by
 refine cV (fun p=>4097-p.1) _ _ _ _ ?_;rintro⟨k,d⟩ ⟨hk,hf⟩ ih;simp only at hk hf ih⊢;refine hD P4 1000 MD (by kernel_rfl) ?_;rw[aul];refine cU (fun h=>?_) (fun h=>?_)
 ·have h:(k:Int)+1<=4096:=of_decide_eq_true h;have hw:wI ((k:Int)+1+1)=((k+1:Nat):Int)+1:=by rw[cX (by omega) (by omega)];simp
  obtain⟨j,hj⟩:∃j,4096-k=j+1:=⟨4096-k-1,by omega⟩;have rl:4096-(k+1)=j:=by omega
  rw[hj,rP]at hf;rw[hw];refine cU (fun h2=>?_) (fun h2=>?_)
  ·have h2:(k:Int)+1>n:=of_decide_eq_true h2;rw[if_pos h2]at hf;have hz:wI (0-((k:Int)+1))= -((k:Int)+1):=by rw[cX (by omega) (by omega)];omega
   rw[hz];exact⟨_,aah d _,ih (k+1,mN d (-((k:Int)+1))) ⟨by simp only;omega,by simp only[rl];rw[show((k+1:Nat):Int)+1=(k:Int)+1+1 by omega];exact hf⟩ (by simp only;omega)⟩
  ·have h2:¬(k:Int)+1>n:=of_decide_eq_false h2;rw[if_neg h2]at hf;exact ih (k+1,d) ⟨by simp only;omega,by simp only[rl];rw[show((k+1:Nat):Int)+1=(k:Int)+1+1 by omega];exact hf⟩ (by simp only;omega)
 ·have h:¬(k:Int)+1<=4096:=of_decide_eq_false h;have HJ:k=4096:=by omega
  subst HJ;rw[show 4096-4096=0 from rfl,rP]at hf;subst hf;exact⟨rfl,rfl⟩
theorem YR:bm Z V4:=by refine de P4 ?_;rintro⟨c,n⟩ args H ⟨rfl,rfl⟩;refine eS P4 1000 MD 22 (by kernel_rfl) ?_;rw[auk];exact auj (c:={c with aR:=n}) (n:=n) (0,c.d) ⟨by simp,rfl⟩
def EN(k:Int×Int×List Nat×Int):Bool:=
 if k.1=0 then decide (k.2.1=0∧k.2.2.1=[]∧k.2.2.2=0)
 else if k.1=1 then decide (k.2.2.1=[]∧k.2.2.2=0)
 else if k.1=2 then decide ((k.2.2.1.length:Int)<=100∧k.2.1=0∧k.2.2.2=0)
 else if k.1=3 then decide ((k.2.2.1.length:Int)<=100∧k.2.1=0∧1<=k.2.2.2∧k.2.2.2<=8)
 else false
def acK:List AV->Option (Prop×AV)
 |[.au [.ck .i64 k,.ck .i64 n,.aa s,.ck .i64 ar]]=>some (True,.ai (EN (k,n,s,ar)))
 |_=>none
def V5:Ev.bz:=eB 77 (eG acK) V4
def tj(b:fR):Bool:=decide (1<=b.id∧b.id<=1099511627776)&&hU b.ay&&EN b.bZ
def Ay(b:fR):List AV:=[.au (nu b (.ad 0 b.bk.length 6))]
theorem abt{b b':fR}(h:Ay b=Ay b')(h2:hB b=hB b'):b=b':=by
 have q:=congrArg (fun H=>AH.bu H 0) h2;simp only[hB,dy]at q;have q:c_ b.bk=c_ b'.bk:=Option.some.inj q;have q:cw b.bk=cw b'.bk:=by unfold c_ at q;injection q
 have q:=Dz q;obtain⟨id,⟨nm,ar,aC⟩,⟨k1,k2,k3,k4⟩,code⟩:=b;obtain⟨iC,⟨ki,jP,j8⟩,⟨EM,k2',k3',k4'⟩,Km⟩:=b';simp only at q;subst q;simp only[Ay,nu,List.cons.injEq,AV.au.injEq,AV.ck.injEq,AV.aa.injEq,true_and,and_true]at h;obtain⟨rfl,rfl,rfl,rfl,rfl,rfl,rfl,rfl⟩:=h;rfl
def Hw:dp fR where
 ba b A H:=A=Ay b∧H=hB b
 v b:=.ai (tj b)
 aN b:=hB b
theorem alF:Hw.dx:=by rintro b b' A H ⟨h1,h2⟩ ⟨h3,h4⟩;rw[abt (h1.symm.trans h3) (h2.symm.trans h4)]
def V6:Ev.bz:=cz 42 (cM Hw alF cZ) V5
def pE:Nat->List (Int×Nat)
 |0=>[]
 |n+1=>pE n++[((n:Int)+1,n)]
def pb(p:dG):Ck:=⟨pE p.ar.toNat,p.ar.toNat,-1,0,0,false⟩
def Zw:dp dG where
 ba p A H:=A=[.au (GR p)]∧H=aq∧p.ar<=4096
 v _:=.ab 0 0
 aN p:=cj (pb p)
theorem aiI:Zw.dx:=by rintro⟨a,b,c⟩ ⟨a',b',c'⟩ A H ⟨h1,_⟩ ⟨h3,_⟩;rw[h1]at h3;simp only[GR,List.cons.injEq,AV.au.injEq,AV.ck.injEq,AV.aa.injEq,true_and,and_true]at h3;obtain⟨rfl,rfl,rfl⟩:=h3;rfl
def V7:Ev.bz:=cz 44 (cM Zw aiI cZ) V6
def Mz:Nat->List Nat:=kg [(3,[1,3,4])]
def m44(p:dG)(c:Ck):AH:=an [(0,.aw (GR p) 23),(1,qW 2 c),(2,dO c)] 3
theorem at5(k n:Int)(s:List Nat)(ar:Int)(L:LT)(Q:QT):
 b8 Z V4 (fun _=>[]) L Q 1000 77 [.au [J k,J n,.aa s,J ar]] aq=(
 ah (k==0) (Q (.ai (k==0&&(n==0&&(dh s (fo (ByteArray.mk (List.toArray [])))&&(ar==0&&true))))) aq) (ah (k==1) (ah (dh s (fo (ByteArray.mk (List.toArray [])))) (Q (.ai (ar==0)) aq) (Q (.ai false) aq)) (ah (k==2) ((an [] 0=aq∧True)∧ah (decide (((s.length:Nat):Int)<=100)) (ah (n==0) (Q (.ai (ar==0)) aq) (Q (.ai false) aq)) (Q (.ai false) aq)) (ah (k==3) ((an [] 0=aq∧True)∧ah (decide (((s.length:Nat):Int)<=100)) (ah (n==0) ((an [] 0=aq∧True)∧Q (.ai (decide ((1:Int)<=ar∧ar<=8))) aq) (Q (.ai false) aq)) (Q (.ai false) aq)) (Q (.ai false) aq))))):=by kernel_rfl
theorem asR(b:fR)(L:LT)(Q:QT):
 b8 Z V5 (fun _=>[]) L Q 1000 42 (Ay b) (hB b)=(
 (an [] 0=aq∧True)∧ah (decide ((1:Int)<=b.id∧b.id<=1099511627776)) ((an [] 0=aq∧True)∧ah (hU (dG.mk b.ay.ca b.ay.ar b.ay.aC)) ((an [] 0=aq∧True)∧Q (.ai (EN (Prod.mk b.bZ.1 (Prod.mk b.bZ.2.1 (Prod.mk b.bZ.2.2.1 b.bZ.2.2.2))))) (hB b)) (Q (.ai false) (hB b))) (Q (.ai false) (hB b))):=by kernel_rfl
theorem asW(p:dG)(L:LT)(Q:QT):
 b8 Z V6 Mz L Q 1000 44 [.au (GR p)] aq=(
 L (aQ [(1,.ab 0 0),(3,.ab 1 0),(4,J 1)]) (an [(0,.aw [.aa p.ca,J p.ar,J p.aC] 23),(1,.aw [.aH 2,J (-1),J 0,J 0,.ai false] 139),(2,.bC [] 0 true)] 3) (ao Z 44 0)):=by kernel_rfl
theorem asY(p:dG)(c:Ck)(x:Int)(L:LT)(Q:QT):
 cO Z V6 Mz L Q 1000 44 0 (aQ [(1,.ab 0 0),(3,.ab 1 0),(4,J x)]) (ao Z 44 0) (m44 p c)=(
 ah (decide (x<=p.ar)) (∃bw:List (AV×AV×Nat),∃c':Nat,jc Z 3 (gw c.d) c.kV (J x) (J 1)=some (bw,c')∧L (aQ [(1,.ab 0 0),(3,.ab 1 0),(4,J (wI (x+1)))]) (an [(0,.aw [.aa p.ca,J p.ar,J p.aC] 23),(1,qW 2 c),(2,.bC bw c' true)] 3) (ao Z 44 0)) (Q (.ab 0 0) (cj c))):=by kernel_rfl
theorem ajM:fo (ByteArray.mk (List.toArray []))=[]:=by kernel_rfl
theorem YS:bm Z V5:=by
 refine iE YR fun args q v h hq=>?_
 unfold acK at h;split at h<;>cases h;refine eS YR 1000 (fun _=>[]) 50 (by kernel_rfl) ?_;rw[at5,ajM];repeat' (first|(refine aI.2 ⟨fun _=>?_,fun _=>?_⟩)|(refine⟨⟨rfl,trivial⟩,?_⟩)|fail)
 all_goals
  refine⟨?_,rfl⟩;congr 1;rw[Bool.eq_iff_iff];simp_all[EN,kD]<;>(try intros)<;>omega
theorem P5:bm Z V6:=by
 refine de YS ?_;rintro b args H ⟨rfl,rfl⟩;refine eS YS 1000 (fun _=>[]) 16 (by kernel_rfl) ?_;rw[asR];refine⟨⟨rfl,trivial⟩,cU (fun h=>⟨⟨rfl,trivial⟩,cU (fun h2=>⟨⟨rfl,trivial⟩,?_,rfl⟩) (fun h2=>⟨?_,rfl⟩)⟩) (fun h=>⟨?_,rfl⟩)⟩
 ·simp only[Hw,tj];rw[h,show hU b.ay=true from h2];rfl
 ·simp only[Hw,tj];rw[h,show hU b.ay=false from h2];rfl
 ·simp only[Hw,tj];rw[h];rfl
theorem acF{x:Int}{p:Int×Nat}(hp:x≠p.1):∀{l:List (Int×Nat)},mV x l=none->mV x (l++[p])=none
 |[],_=>by simp[mV,hp]
 |q::l,h=>by
  simp only[mV]at h;split at h
  ·cases h
  ·rename_i hx;simp only[List.cons_append,mV,if_neg hx];rw[acF hp (l:=l) (by simpa using h)];rfl
theorem acG{x:Int}:∀{n:Nat},(n:Int)<x->mV x (pE n)=none
 |0,_=>rfl
 |n+1,h=>acF (by simp only;omega) (acG (n:=n) (by omega))
theorem asV{p:dG}(hp:p.ar<=4096):
 ∀n:Nat,n<=p.ar.toNat->
 bJ Z 44 20 0 (.ab 0 0) (cj (pb p)) (aQ [(1,.ab 0 0),(3,.ab 1 0),(4,J ((n:Int)+1))]) (m44 p ⟨pE n,n,-1,0,0,false⟩) (ao Z 44 0):=by
 refine cV (fun n=>p.ar.toNat-n) _ _ _ _ ?_;rintro n hn ih;refine hD P5 1000 Mz (by kernel_rfl) ?_;rw[asY];refine cU (fun h=>?_) (fun h=>?_)
 ·have h:(n:Int)+1<=p.ar:=of_decide_eq_true h;have hw:wI ((n:Int)+1+1)=((n+1:Nat):Int)+1:=by rw[cX (by omega) (by omega)];simp
  have Tj:Ck.mj ⟨pE n,n,-1,0,0,false⟩ ((n:Int)+1)=⟨pE (n+1),n+1,-1,0,0,false⟩:=by simp only[Ck.mj,iL,acG (show(n:Int)<(n:Int)+1 by omega)];rfl
  have hs:=Rf ⟨pE n,n,-1,0,0,false⟩ ((n:Int)+1);rw[Tj]at hs;rw[hw];exact⟨_,_,hs,ih (n+1) (by omega) (by omega)⟩
 ·have h:¬(n:Int)+1<=p.ar:=of_decide_eq_false h;have:n=p.ar.toNat:=by omega
  subst this;exact⟨rfl,rfl⟩
theorem CZ:bm Z V7:=by refine de P5 ?_;rintro p args H ⟨rfl,rfl,hp⟩;refine eS P5 1000 Mz 20 (by kernel_rfl) ?_;rw[asW];exact asV hp 0 (Nat.zero_le _)
end
end Go.Cl
