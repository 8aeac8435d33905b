/- Part of a proof of ClauseCompiles. -/
import Derived.Test.YtanclcoobcaemaaGreatB2
set_option linter.all false
set_option linter.unusedSectionVars false
set_option maxRecDepth 100000
namespace Go.Cl
open Go.Ev Go.Proofs
variable[Ro]
noncomputable section
def Em.qs(m:Em)(n:Int):Em:=⟨m.aX,m.f,m.hJ,m.aC,m.bo,m.dh,n,m.c_⟩
def Em.au(c:eu)(base:LI)(bL:Bool):Nat->Int->Em->c7->Em
 |_,_,m,[]=>(m.cw bL).ah ⟨21,0,0,0,[],0⟩
 |i,size,m,g::l=>
  if g.cQ=2 then Em.au c base bL (i+1) size (m.dR (22,g.il)) l
  else if g.cQ=3 then Em.au c base bL (i+1) size (m.dR (23,g.il)) l
  else if g.cQ=4 then Em.au c base bL (i+1) size (m.nN g.il) l
  else if g.cQ=5 then m.ah ⟨25,0,0,0,[],0⟩
  else if g.cQ=1 then
   match l with
   |[]=>((m.eO 0 g.cP).cw bL).ah ⟨20,0,0,g.aH.aM,g.aH.cL,g.aH.ar⟩
   |_::_=>if size>c.aE.getD i 0 then Em.au c base bL (i+1) (c.aE.getD i 0) ((((m.eO 0 g.cP).ah ⟨17,0,0,c.aE.getD i 0,[],0⟩).ah ⟨19,0,0,g.aH.aM,g.aH.cL,g.aH.ar⟩).qs (base.getD (c.aR.getD i 0+1).toNat 0)) l
    else Em.au c base bL (i+1) size (((m.eO 0 g.cP).ah ⟨19,0,0,g.aH.aM,g.aH.cL,g.aH.ar⟩).qs (base.getD (c.aR.getD i 0+1).toNat 0)) l
  else Em.au c base bL (i+1) size m l
def lD:c7->Nat
 |[]=>4
 |g::l=>2*bh g.cP+4+lD l
def Hg(c:eu):LV:=[.ae 1 c.aR.length 1,.ae 2 c.aC.length 1,.ae 3 c.aE.length 1]
def aD(l:LI)(t:TypeId):bc:=.aL (aW l) t
def By(m:Em)(c:eu)(base:LI):AH:=aq [(0,fu m 5 6 7 8 9),(1,aD c.aR 3),(2,aD c.aC 2),(3,aD c.aE 3),(4,aD base 3),(5,fJ m),(6,eV m),(7,fg m),(8,e9 m),(9,eZ m)] 10
def ID(m:Em)(c:eu)(base:LI):AH:=aq [(0,fu m 10 6 7 8 9),(1,aD c.aR 3),(2,aD c.aC 2),(3,aD c.aE 3),(4,aD base 3),(5,.bJ []),(6,eV m),(7,fg m),(8,e9 m),(9,eZ m),(10,fJ m)] 11
abbrev HD x0 x1 x2 x3 x4 x5 x6:=aq [(0,fu x0 13 6 7 8 9),(1,aD x1 3),(2,aD x2 2),(3,aD x3 3),(4,aD x4 3),(5,.bJ []),(6,eV x0),(7,fg x0),(8,e9 x0),(9,eZ x0),(10,kf 0),(11,.ay x5 60),(12,.ay [.aA x6] 4),(13,fJ x0)] 14
def WC(m:Em)(c:eu)(base:LI)(bL:Bool):AH:=HD m c.aR c.aC c.aE base (Hg c) bL
def UX(m:Em)(c:eu)(base:LI)(bL:Bool):AH:=aq [(0,fu m 5 6 7 8 9),(1,aD c.aR 3),(2,aD c.aC 2),(3,aD c.aE 3),(4,aD base 3),(5,fJ m),(6,eV m),(7,fg m),(8,e9 m),(9,eZ m),(10,kf 0),(11,.ay (Hg c) 60),(12,.ay [.aA bL] 4)] 13
abbrev AO x0 x1 x2 x3 x4:=bk [(2,.ae 4 x0 1),(4,.ad 10 0),(5,.ad 11 0),(8,J x1),(9,.b9 (.func 63) [] [.ad 12 0,.ad 10 0]),(22,.aB x2 x3 6),(23,J (Int.ofNat x3)),(24,J x4)]
def Xs(bl:Nat)(size:Int)(gs:LV)(gl:Nat)(i:Int):Tr AV:=AO bl size gs gl i
structure Gv(c:eu)(base:LI)(gs:c7):Prop where
 len:eQ gs.length
 ok:∀g∈gs,oK g
 ks:∀g∈gs,Ax g.cP
 aE:c.aE.length=gs.length
 aR:c.aR.length=gs.length
 base:∀i,∀h:i<gs.length,gs[i].cQ=1->0<=c.aR.getD i 0∧c.aR.getD i 0+1<base.length∧c.aR.getD i 0<1000000
def Q2:dP (Em×eu×LI×Bool)where
 bN w A H:=A=[.ad 0 0,.aj (Hg w.2.1),.ae 4 w.2.2.1.length 1,.aA w.2.2.2]∧H=By w.1 w.2.1 w.2.2.1∧w.1.aX.length+lD w.1.f.au<65536∧Gv w.2.1 w.2.2.1 w.1.f.au
 v w:=.aO []
 aU w:=ID (Em.au w.2.1 w.2.2.1 w.2.2.2 0 w.2.1.aC.length w.1 w.1.f.au) w.2.1 w.2.2.1
theorem wa{l m:LI}{t:TypeId}(h:aD l t=aD m t):l=m:=CJ (bc.aL.inj h).1
theorem anW:Q2.dT:=by
 rintro⟨m,⟨c1,c2,c3⟩,b,e⟩ ⟨m',⟨c1',c2',c3'⟩,b',e'⟩ A H ⟨h1,h2,_⟩ ⟨h3,h4,_⟩;simp only at h1 h2 h3 h4;rw[h1]at h3;rw[h2]at h4;have k:=fun i=>congrArg (fun H=>AH.bD H i) h4
 simp only[By,eA]at k;have e0:=DW (m:=m) (m':=m') (dk (k 0)) (dk (k 5)) (dk (k 6)) (dk (k 7)) (dk (k 8)) (dk (k 9));have e1:=wa (dk (k 1));have e2:=wa (dk (k 2));have e3:=wa (dk (k 3));have e4:=wa (dk (k 4));simp only[List.cons.injEq,AV.aA.injEq,true_and,and_true]at h3;rw[e0,e1,e2,e3,e4,h3.2.2]
def J2:Ev.bC:=cB 28 (cO Q2 anW cV) J1
theorem asa(m:Em)(c:eu)(base:LI)(bL:Bool)(L:LT)(Q:QT):
 b_ Z J1 (fun _=>[2,4,5,8,9,22,23,24]) L Q 1000 28 [.ad 0 0,.aj (Hg c),.ae 4 base.length 1,.aA bL] (By m c base)=(
 L (AO base.length (Int.ofNat c.aC.length) (ck m.f.au) m.f.au.length 0) (aq [(0,fu m 5 6 7 8 9),(1,aD c.aR 3),(2,aD c.aC 2),(3,aD c.aE 3),(4,aD base 3),(5,fJ m),(6,eV m),(7,fg m),(8,e9 m),(9,eZ m),(10,kf 0),(11,.ay [.ae 1 c.aR.length 1,.ae 2 c.aC.length 1,.ae 3 c.aE.length 1] 60),(12,.ay [.aA bL] 4)] 13) (ao Z 28 0)):=by kernel_rfl
theorem asb(m:Em)(c:eu)(base:LI)(bL:Bool)(size i:Int)(gs:LV)(gl:Nat)(L:LT)(Q:QT):
 cT Z J1 (fun _=>[2,4,5,8,9,22,23,24]) L Q 1000 28 10 (Xs base.length size gs gl i) (ao Z 28 0) (WC m c base bL)=(
 ai (decide (i<Int.ofNat gl)) (∃aI:Nat,i=(aI:Int)∧aI<gl∧(∃n:Int,∃s:LN,∃aP:Int,∃bp:Int,∃cs:LV,∃len:Nat,∃bI:Int,((gs.drop (aI*6)).take 6:LV)=[J n,.aa s,J aP,J bp,.aB cs len 4,J bI]∧ai (n==2) (∃w:Em×Int×Int,(([.ad 0 0,J 22,J bI]:LV)=[.ad 0 0,J w.2.1,J w.2.2]∧bT m=bT w.1∧W0 w.1 w.2)∧L (AO base.length size gs gl (wI (i+1))) (HD (Em.dR w.1 w.2) c.aR c.aC c.aE base [.ae 1 c.aR.length 1,.ae 2 c.aC.length 1,.ae 3 c.aE.length 1] bL) (ao Z 28 0)) (ai (n==3) (∃w:Em×Int×Int,(([.ad 0 0,J 23,J bI]:LV)=[.ad 0 0,J w.2.1,J w.2.2]∧bT m=bT w.1∧W0 w.1 w.2)∧L (AO base.length size gs gl (wI (i+1))) (HD (Em.dR w.1 w.2) c.aR c.aC c.aE base [.ae 1 c.aR.length 1,.ae 2 c.aC.length 1,.ae 3 c.aE.length 1] bL) (ao Z 28 0)) (ai (n==4) (∃w:Em×Int,(([.ad 0 0,J bI]:LV)=[.ad 0 0,J w.2]∧bT m=bT w.1∧sv w.1 w.2)∧L (AO base.length size gs gl (wI (i+1))) (HD (Em.nN w.1 w.2) c.aR c.aC c.aE base [.ae 1 c.aR.length 1,.ae 2 c.aC.length 1,.ae 3 c.aE.length 1] bL) (ao Z 28 0)) (ai (n==5) (∃w:Em×ba,(([.ad 0 0,.aj [J 25,J 0,J 0,J 0,.aa [],J 0]]:LV)=[.ad 0 0,.aj (bP w.2)]∧bT m=bT w.1∧w.1.aX.length<65536)∧Q (.aO []) (ID (Em.ah w.1 w.2) c base)) (ai (n==1) (∃w:Em×iP,(([.ad 0 0,.aj [J n,.aa s,J aP,J bp,.aB cs len 4,J bI]]:LV)=[.ad 0 0,.aj [J w.2.cQ,.aa w.2.aH.cL,J w.2.aH.ar,J w.2.aH.aM,.aB (bw w.2.cP) w.2.cP.length 4,J w.2.il]]∧bT m=bT w.1∧aft w.1 w.2)∧ai (i==wI (Int.ofNat m.f.au.length-1)) (∃ab:Em×Bool,(([.ad 0 0,.ad 1 0]:LV)=[.ad 0 0,.ad 1 0]∧wY (Em.eO 0 w.1 w.2.cP) bL=wY ab.1 ab.2∧ab.1.aX.length<65536)∧(∃aJ:Em×ba,(([.ad 0 0,.aj [J 20,J 0,J 0,J bp,.aa s,J aP]]:LV)=[.ad 0 0,.aj (bP aJ.2)]∧bT (Em.cw ab.1 ab.2)=bT aJ.1∧aJ.1.aX.length<65536)∧Q (.aO []) (ID (Em.ah aJ.1 aJ.2) c base))) (∃bz:Nat,i=(bz:Int)∧bz<c.aE.length∧(∃cS:Int,bA Z 3 (aW c.aE) (bz*1)=some (J cS:AV)∧ai (decide (size>cS)) (∃cd:Nat,i=(cd:Int)∧cd<c.aE.length∧(∃ib:Int,bA Z 3 (aW c.aE) (cd*1)=some (J ib:AV)∧(∃ab:Em×ba,(([.ad 0 0,.aj [J 17,J 0,J 0,J ib,.aa [],J 0]]:LV)=[.ad 0 0,.aj (bP ab.2)]∧bT (Em.eO 0 w.1 w.2.cP)=bT ab.1∧ab.1.aX.length<65536)∧(∃aJ:Em×ba,(([.ad 0 0,.aj [J 19,J 0,J 0,J bp,.aa s,J aP]]:LV)=[.ad 0 0,.aj (bP aJ.2)]∧bT (Em.ah ab.1 ab.2)=bT aJ.1∧aJ.1.aX.length<65536)∧(∃dt:Nat,i=(dt:Int)∧dt<c.aR.length∧(∃jI:Int,bA Z 3 (aW c.aR) (dt*1)=some (J jI:AV)∧(∃te:Nat,wI (jI+1)=(te:Int)∧te<base.length∧(∃np:Int,bA Z 3 (aW base) (te*1)=some (J np:AV)∧L (AO base.length ib gs gl (wI (i+1))) (aq [(0,.ay [.ae 13 (Em.ah aJ.1 aJ.2).aX.length 6,.aa (Em.ah aJ.1 aJ.2).f.aH.cL,J (Em.ah aJ.1 aJ.2).f.aH.ar,J (Em.ah aJ.1 aJ.2).f.aH.aM,.aB (bw (Em.ah aJ.1 aJ.2).f.aQ) (Em.ah aJ.1 aJ.2).f.aQ.length 4,.aB (ck (Em.ah aJ.1 aJ.2).f.au) (Em.ah aJ.1 aJ.2).f.au.length 6,.aS 6,.aS 7,.aS 8,.aS 9,J np,.aA (Em.ah aJ.1 aJ.2).c_] 71),(1,aD c.aR 3),(2,aD c.aC 2),(3,aD c.aE 3),(4,aD base 3),(5,.bJ []),(6,eV (Em.ah aJ.1 aJ.2)),(7,fg (Em.ah aJ.1 aJ.2)),(8,e9 (Em.ah aJ.1 aJ.2)),(9,eZ (Em.ah aJ.1 aJ.2)),(10,kf 0),(11,.ay [.ae 1 c.aR.length 1,.ae 2 c.aC.length 1,.ae 3 c.aE.length 1] 60),(12,.ay [.aA bL] 4),(13,fJ (Em.ah aJ.1 aJ.2))] 14) (ao Z 28 0))))))))) (∃ab:Em×ba,(([.ad 0 0,.aj [J 19,J 0,J 0,J bp,.aa s,J aP]]:LV)=[.ad 0 0,.aj (bP ab.2)]∧bT (Em.eO 0 w.1 w.2.cP)=bT ab.1∧ab.1.aX.length<65536)∧(∃cd:Nat,i=(cd:Int)∧cd<c.aR.length∧(∃ib:Int,bA Z 3 (aW c.aR) (cd*1)=some (J ib:AV)∧(∃dt:Nat,wI (ib+1)=(dt:Int)∧dt<base.length∧(∃jI:Int,bA Z 3 (aW base) (dt*1)=some (J jI:AV)∧L (AO base.length size gs gl (wI (i+1))) (aq [(0,.ay [.ae 13 (Em.ah ab.1 ab.2).aX.length 6,.aa (Em.ah ab.1 ab.2).f.aH.cL,J (Em.ah ab.1 ab.2).f.aH.ar,J (Em.ah ab.1 ab.2).f.aH.aM,.aB (bw (Em.ah ab.1 ab.2).f.aQ) (Em.ah ab.1 ab.2).f.aQ.length 4,.aB (ck (Em.ah ab.1 ab.2).f.au) (Em.ah ab.1 ab.2).f.au.length 6,.aS 6,.aS 7,.aS 8,.aS 9,J jI,.aA (Em.ah ab.1 ab.2).c_] 71),(1,aD c.aR 3),(2,aD c.aC 2),(3,aD c.aE 3),(4,aD base 3),(5,.bJ []),(6,eV (Em.ah ab.1 ab.2)),(7,fg (Em.ah ab.1 ab.2)),(8,e9 (Em.ah ab.1 ab.2)),(9,eZ (Em.ah ab.1 ab.2)),(10,kf 0),(11,.ay [.ae 1 c.aR.length 1,.ae 2 c.aC.length 1,.ae 3 c.aE.length 1] 60),(12,.ay [.aA bL] 4),(13,fJ (Em.ah ab.1 ab.2))] 14) (ao Z 28 0))))))))) (L (AO base.length size gs gl (wI (i+1))) (HD m c.aR c.aC c.aE base [.ae 1 c.aR.length 1,.ae 2 c.aC.length 1,.ae 3 c.aE.length 1] bL) (ao Z 28 0)))))))) (∃w:Em×Bool,(([.ad 0 0,.ad 1 0]:LV)=[.ad 0 0,.ad 1 0]∧wY m bL=wY w.1 w.2∧w.1.aX.length<65536)∧(∃ab:Em×ba,(([.ad 0 0,.aj [J 21,J 0,J 0,J 0,.aa [],J 0]]:LV)=[.ad 0 0,.aj (bP ab.2)]∧bT (Em.cw w.1 w.2)=bT ab.1∧ab.1.aX.length<65536)∧Q (.aO []) (ID (Em.ah ab.1 ab.2) c base)))):=by kernel_rfl
theorem ahW(m:Em)(t:aK)(b:Int):(m.ir t b).f=m.f:=by
 unfold Em.ir;split
 ·split<;>rfl
 ·split
  ·rfl
  ·split<;>rfl
theorem ZM:∀(l:List (aK×Int)) (m:Em),(m.oU l).f=m.f
 |[],m=>rfl
 |(t,b)::l,m=>by have h2:=ZM l (m.ir t b);simp only[Em.oU,ik]at h2⊢;rw[h2,ahW]
mutual
theorem Z':∀(m:Em) (r:Int) (t:aK),(m.lR r t).f=m.f
 |m,r,.mk k n s l=>by simp only[Em.lR,ZM];exact Rw m l
theorem Rw:∀(m:Em) (l:bG),(m.dq l).1.f=m.f
 |m,[]=>rfl
 |m,t::l=>by
  simp only[Em.dq];split
  ·rw[Rw,Z'];rfl
  ·rw[Rw]
end
theorem aoN(m:Em)(w:Int×aK):(m.lq w).f=m.f:=by
 unfold Em.lq;split
 ·unfold Em.tz;split<;>rfl
 ·split
  ·rfl
  ·split
   ·rfl
   ·exact Z' _ _ _
theorem WB:∀(l:bG) (i:Nat) (m:Em),(Em.eO i m l).f=m.f
 |[],i,m=>rfl
 |t::l,i,m=>by rw[Em.eO,WB l,aoN]
theorem ae2:∀(l:bG) (i:Nat) (m:Em),(Em.eO i m l).aX.length<=m.aX.length+2*bh l
 |[],i,m=>by simp[Em.eO]
 |t::l,i,m=>by have h1:=aeY m (((i+1:Nat):Int),t);have h2:=ae2 l (i+1) (m.lq (((i+1:Nat):Int),t));simp only[Em.eO,bh];simp only at h1;omega
theorem abE(m:Em)(e:Bool):(m.cw e).aX.length<=m.aX.length+1:=by
 cases e
 ·show m.aX.length<=_;omega
 ·exact ly m _
theorem axd(m:Em)(e:Bool):(m.cw e).f=m.f:=by cases e<;>rfl
theorem ach(m:Em)(w:Int×Int):(m.dR w).aX.length<=m.aX.length+2:=by
 unfold Em.dR;cases m.lI w.2
 ·have:=ly (m.ic w.2) ⟨w.1,m.iU w.2,0,0,[],0⟩;have e:(m.ic w.2).aX=m.aX:=rfl;rw[e]at this;show((m.ic w.2).ah _).aX.length<=_;omega
 ·have h1:=ly m.bX ⟨w.1,m.bX.cG,0,0,[],0⟩;rw[G0]at h1;have h2:=ly ((m.bX.ah ⟨w.1,m.bX.cG,0,0,[],0⟩).ic w.2) ⟨2,(m.bX.ah ⟨w.1,m.bX.cG,0,0,[],0⟩).iU w.2,m.bX.cG,0,[],0⟩;have e:((m.bX.ah ⟨w.1,m.bX.cG,0,0,[],0⟩).ic w.2).aX=(m.bX.ah ⟨w.1,m.bX.cG,0,0,[],0⟩).aX:=rfl;rw[e]at h2;simp only[cond_true];omega
theorem acg(m:Em)(w:Int×Int):(m.dR w).f=m.f:=by unfold Em.dR;cases m.lI w.2<;>rfl
theorem ai8(m:Em)(v:Int):(m.nN v).aX.length<=m.aX.length+1:=by
 unfold Em.nN;cases m.lI v
 ·show m.aX.length<=_;omega
 ·exact ly (m.ic v) _
theorem ai5(m:Em)(v:Int):(m.nN v).f=m.f:=by unfold Em.nN;cases m.lI v<;>rfl
theorem S4:∀l:c7,4<=lD l
 |[]=>by simp[lD]
 |g::l=>by have:=S4 l;simp only[lD];omega
theorem ia{l:LI}{i:Nat}(h:i<l.length):bA Z 3 (aW l) (i*1)=some (J (l.getD i 0)):=by rw[v5,aW,Nat.mul_one,List.getElem?_map,jN h];simp[List.getD,jN h]
section
variable{c:eu}{base:LI}{bL:Bool}{i:Nat}{size:Int}{m:Em}{g:iP}{l:c7}
theorem akX:Em.au c base bL i size m []=(m.cw bL).ah ⟨21,0,0,0,[],0⟩:=rfl
theorem akU(h:g.cQ=2):Em.au c base bL i size m (g::l)=Em.au c base bL (i+1) size (m.dR (22,g.il)) l:=by simp[Em.au,h]
theorem akW(h:g.cQ=3):Em.au c base bL i size m (g::l)=Em.au c base bL (i+1) size (m.dR (23,g.il)) l:=by simp[Em.au,h]
theorem akR(h:g.cQ=4):Em.au c base bL i size m (g::l)=Em.au c base bL (i+1) size (m.nN g.il) l:=by simp[Em.au,h]
theorem akS(h:g.cQ=5):Em.au c base bL i size m (g::l)=m.ah ⟨25,0,0,0,[],0⟩:=by simp[Em.au,h]
theorem akT(h:g.cQ=1):Em.au c base bL i size m [g]=((m.eO 0 g.cP).cw bL).ah ⟨20,0,0,g.aH.aM,g.aH.cL,g.aH.ar⟩:=by simp[Em.au,h]
theorem akZ(h:g.cQ=1)(hl:l≠[])(hs:size>c.aE.getD i 0):Em.au c base bL i size m (g::l)=Em.au c base bL (i+1) (c.aE.getD i 0) ((((m.eO 0 g.cP).ah ⟨17,0,0,c.aE.getD i 0,[],0⟩).ah ⟨19,0,0,g.aH.aM,g.aH.cL,g.aH.ar⟩).qs (base.getD (c.aR.getD i 0+1).toNat 0)) l:=by
 cases l with
 |nil=>exact absurd rfl hl
 |cons a l=>rw[Em.au];simp only[h];rw[az (by omega),az (by omega),az (by omega),az (by omega),aN trivial,aN hs]
theorem akQ(h:g.cQ=1)(hl:l≠[])(hs:¬size>c.aE.getD i 0):Em.au c base bL i size m (g::l)=Em.au c base bL (i+1) size (((m.eO 0 g.cP).ah ⟨19,0,0,g.aH.aM,g.aH.cL,g.aH.ar⟩).qs (base.getD (c.aR.getD i 0+1).toNat 0)) l:=by
 cases l with
 |nil=>exact absurd rfl hl
 |cons a l=>rw[Em.au];simp only[h];rw[az (by omega),az (by omega),az (by omega),az (by omega),aN trivial,az hs]
theorem akY(h1:g.cQ≠1)(h2:g.cQ≠2)(h3:g.cQ≠3)(h4:g.cQ≠4)(h5:g.cQ≠5):Em.au c base bL i size m (g::l)=Em.au c base bL (i+1) size m l:=by simp[Em.au,h1,h2,h3,h4,h5]
end
theorem ar9{gs:c7}{c:eu}{base:LI}{bL:Bool}{M:Em}(hg:Gv c base gs):
 ∀p:Nat×Int×Em,(p.1<=gs.length∧p.2.2.aX.length+lD (gs.drop p.1)<65536∧p.2.2.f.au.length=gs.length∧Em.au c base bL p.1 p.2.1 p.2.2 (gs.drop p.1)=M)->
 bF Z 28 132 10 (.aO []) (ID M c base) (Xs base.length p.2.1 (ck gs) gs.length (p.1:Int)) (WC p.2.2 c base bL) (ao Z 28 0):=by
 refine cX (fun p=>gs.length-p.1) _ _ _ _ ?_;rintro⟨i,size,m⟩ ⟨hi,hc,hm,hf⟩ ih;simp only at hi hc hm hf ih⊢;refine hD PX 1000 (fun _=>[2,4,5,8,9,22,23,24]) (by kernel_rfl) ?_;rw[asb];have uh:=S4 (gs.drop i);refine aY.2 ⟨fun an=>?_,fun a8=>?_⟩
 ·have an:i<gs.length:=by simpa using an
  obtain⟨k,nm,ar,aM,ls,v,he,bU,bq⟩:=o5 an hg.ok;have vE:=hg.ks gs[i] (xC an);have EJ:=hg.base i an;rw[he]at vE EJ;simp only at vE EJ;rw[dv an,he]at hf hc;simp only[lD]at hc;have axn:=S4 (gs.drop (i+1));refine⟨i,rfl,an,k,nm,ar,aM,_,_,v,bU,?_⟩;rw[iA hg.len an];have e:wI (Int.ofNat m.f.au.length-1)=(gs.length:Int)-1:=by have hl:=hg.len;unfold eQ at hl;rw[hm,dz (by simp only[fX];omega) (by simp only[fX];omega)];simp
  rw[e];have next:=fun agp m' (h:m'.aX.length+lD (gs.drop (i+1))<65536) (h2:m'.f.au.length=gs.length) (h3:Em.au c base bL (i+1) agp m' (gs.drop (i+1))=M)=>ih (i+1,agp,m') ⟨by simp;omega,h,h2,h3⟩ (by simp;omega)
  simp only at next
  have hr:m.aX.length<65536:=by omega
  refine aY.2 ⟨fun hk=>?_,fun nZ=>?_⟩
  ·have hk:k=2:=by simpa using hk
   rw[akU hk]at hf;have h1:=ach m (22,v);have n1:=next _ (m.dR (22,v)) (by omega) (by rw[acg];exact hm) hf
   exact⟨(m,(22,v)),⟨rfl,rfl,by show m.aX.length<65535;omega⟩,n1⟩
  have nZ:k≠2:=by simpa using nZ
  refine aY.2 ⟨fun hk=>?_,fun TZ=>?_⟩
  ·have hk:k=3:=by simpa using hk
   rw[akW hk]at hf;have h1:=ach m (23,v);have n1:=next _ (m.dR (23,v)) (by omega) (by rw[acg];exact hm) hf
   exact⟨(m,(23,v)),⟨rfl,rfl,by show m.aX.length<65535;omega⟩,n1⟩
  have TZ:k≠3:=by simpa using TZ
  refine aY.2 ⟨fun hk=>?_,fun T0=>?_⟩
  ·have hk:k=4:=by simpa using hk
   rw[akR hk]at hf;have h1:=ai8 m v;have n1:=next _ (m.nN v) (by omega) (by rw[ai5];exact hm) hf
   exact⟨(m,v),⟨rfl,rfl,hr⟩,n1⟩
  have T0:k≠4:=by simpa using T0
  refine aY.2 ⟨fun hk=>?_,fun T1=>?_⟩
  ·have hk:k=5:=by simpa using hk
   rw[akS hk]at hf;subst hf;exact⟨(m,⟨25,0,0,0,[],0⟩),⟨rfl,rfl,hr⟩,rfl,rfl⟩
  have T1:k≠5:=by simpa using T1
  refine aY.2 ⟨fun hk=>?_,fun kX=>?_⟩
  ·have hk:k=1:=by simpa using hk
   obtain⟨b1,b2,b3⟩:=EJ hk;have h1:=ae2 ls 0 m;refine⟨(m,⟨k,⟨nm,ar,aM⟩,ls,v⟩),⟨rfl,rfl,by show m.aX.length+2*bh ls+1<65536;omega,bq,vE⟩,?_⟩;refine aY.2 ⟨fun vF=>?_,fun vF=>?_⟩
   ·have vF:(i:Int)=(gs.length:Int)-1:=by simpa using vF
    have hd:gs.drop (i+1)=[]:=dV (by omega);rw[hd,akT hk]at hf;have h2:=abE (m.eO 0 ls) bL;subst hf;exact⟨(m.eO 0 ls,bL),⟨rfl,rfl,by show(m.eO 0 ls).aX.length<65536;omega⟩,((m.eO 0 ls).cw bL,⟨20,0,0,aM,nm,ar⟩),⟨rfl,rfl,by show((m.eO 0 ls).cw bL).aX.length<65536;omega⟩,rfl,rfl⟩
   ·have vF:¬(i:Int)=(gs.length:Int)-1:=by simpa using vF
    have hd:gs.drop (i+1)≠[]:=by intro h;have:=List.drop_eq_nil_iff.1 h;omega
    have vG:i<c.aE.length:=by rw[hg.aE];exact an
    have yA:i<c.aR.length:=by rw[hg.aR];exact an
    have eo:wI (c.aR.getD i 0+1)=(((c.aR.getD i 0+1).toNat:Nat):Int):=by rw[dz (by omega) (by omega),Int.toNat_of_nonneg (by omega)]
    have LY:(c.aR.getD i 0+1).toNat<base.length:=by omega
    refine⟨i,rfl,vG,_,ia vG,aY.2 ⟨fun hs=>?_,fun hs=>?_⟩⟩
    ·have hs:size>c.aE.getD i 0:=by simpa using hs
     rw[akZ hk hd hs]at hf;have h2:=ly (m.eO 0 ls) ⟨17,0,0,c.aE.getD i 0,[],0⟩;have h3:=ly ((m.eO 0 ls).ah ⟨17,0,0,c.aE.getD i 0,[],0⟩) ⟨19,0,0,aM,nm,ar⟩;have n1:=next _ ((((m.eO 0 ls).ah ⟨17,0,0,c.aE.getD i 0,[],0⟩).ah ⟨19,0,0,aM,nm,ar⟩).qs (base.getD (c.aR.getD i 0+1).toNat 0))
      (by have e:∀(x:Em) n,(x.qs n).aX=x.aX:=fun _ _=>rfl
          rw[e];omega) (by show(Em.eO 0 m ls).f.au.length=_;rw[WB];exact hm) hf
     exact⟨i,rfl,vG,_,ia vG,(m.eO 0 ls,⟨17,0,0,c.aE.getD i 0,[],0⟩),⟨rfl,rfl,by show(m.eO 0 ls).aX.length<65536;omega⟩,
      ((m.eO 0 ls).ah ⟨17,0,0,c.aE.getD i 0,[],0⟩,⟨19,0,0,aM,nm,ar⟩),⟨rfl,rfl,by show((m.eO 0 ls).ah _).aX.length<65536;omega⟩,i,rfl,yA,_,ia yA,_,eo,LY,_,ia LY,n1⟩
    ·have hs:¬size>c.aE.getD i 0:=by simpa using hs
     rw[akQ hk hd hs]at hf;have h3:=ly (m.eO 0 ls) ⟨19,0,0,aM,nm,ar⟩;have n1:=next _ (((m.eO 0 ls).ah ⟨19,0,0,aM,nm,ar⟩).qs (base.getD (c.aR.getD i 0+1).toNat 0))
      (by have e:∀(x:Em) n,(x.qs n).aX=x.aX:=fun _ _=>rfl
          rw[e];omega) (by show(Em.eO 0 m ls).f.au.length=_;rw[WB];exact hm) hf
     exact⟨(m.eO 0 ls,⟨19,0,0,aM,nm,ar⟩),⟨rfl,rfl,by show(m.eO 0 ls).aX.length<65536;omega⟩,i,rfl,yA,_,ia yA,_,eo,LY,_,ia LY,n1⟩
  have kX:k≠1:=by simpa using kX
  rw[akY kX nZ TZ T0 T1]at hf;exact next _ m (by omega) hm hf
 ·have a8:gs.length<=i:=by simpa using a8
  rw[dV a8,akX]at hf;have h2:=abE m bL;subst hf;exact⟨(m,bL),⟨rfl,rfl,by show m.aX.length<65536;omega⟩,(m.cw bL,⟨21,0,0,0,[],0⟩),⟨rfl,rfl,by show(m.cw bL).aX.length<65536;omega⟩,rfl,rfl⟩
theorem anq(m:Em)(c:eu)(base:LI)(bL:Bool):Mv (UX m c base bL) (WC m c base bL) 5:=
 oG (l':=[(0,fu m 13 6 7 8 9),(1,aD c.aR 3),(2,aD c.aC 2),(3,aD c.aE 3),(4,aD base 3),(5,.bJ []),(6,eV m),(7,fg m),(8,e9 m),(9,eZ m),(10,kf 0),(11,.ay (Hg c) 60),(12,.ay [.aA bL] 4)]) rfl rfl rfl
theorem PY:bn Z J2:=by refine dc PX ?_;rintro⟨m,c,base,bL⟩ args H ⟨rfl,rfl,hc,hg⟩;refine eS PX 1000 (fun _=>[2,4,5,8,9,22,23,24]) 132 (by kernel_rfl) ?_;simp only[Q2];rw[asa];refine qa (H:=UX m c base bL) (t':=Xs base.length c.aC.length (ck m.f.au) m.f.au.length ((0:Nat):Int)) (g:=5) ?_ (anq m c base bL) (by kernel_rfl) (fun i a' hi=>⟨a',hi,rk hi (by simp[eK,iV,jW,UX,aq])⟩);exact ar9 hg (0,_,m) ⟨by simp,by simpa using hc,rfl,by simp⟩
def jh:LI->Int->c7->LI
 |d,c,[]=>d++[c]
 |d,c,g::gs=>if g.cQ=1 then jh (d++[max c (g.cP.length:Int)]) 0 gs else jh d c gs
def dg(f:a9):LI:=jh [] f.aQ.length f.au
def cH(l:LI):AH:=aq [(0,aD l 3)] 1
def Rp:dP a9 where
 bN f A H:=A=[.aj (dj f)]∧H=ax∧fL f∧f.au.length<60000
 v f:=.ae 0 (dg f).length 1
 aU f:=cH (dg f)
theorem aiq:Rp.dT:=by rintro f f' A H ⟨h1,_⟩ ⟨h3,_⟩;rw[h1]at h3;simp only[List.cons.injEq,AV.aj.injEq,and_true]at h3;rw[sU _ _ h3]
def PZ:Ev.bC:=cB 23 (cO Rp aiq cV) J2
theorem arT(nm:LN)(ar aM:Int)(cs:LV)(len:Nat)(gs:LV)(gl:Nat)(L:LT)(Q:QT):
 b_ Z J2 (fun _=>[3,12,13,14]) L Q 1000 23 [.aj [.aa nm,J ar,J aM,.aB cs len 4,.aB gs gl 6]] ax=(
 L (bk [(3,.bB 0 0 1 1 1 true),(12,.aB gs gl 6),(13,J (Int.ofNat gl)),(14,J 0)]) (jR (Int.ofNat len)) (ao Z 23 0)):=by kernel_rfl
abbrev Ot x0 x1 x2 x3:=bk [(3,.ae 0 x0 1),(12,.aB x1 x2 6),(13,J (Int.ofNat x2)),(14,J x3)]
theorem arU(i:Int)(gs:LV)(gl:Nat)(l:LI)(L:LT)(Q:QT):
 cT Z J2 (fun _=>[3,12,13,14]) L Q 1000 23 0 (Ot l.length gs gl i) (ao Z 23 0) (cH l)=(
 ai (decide (i<Int.ofNat gl)) (∃aI:Nat,i=(aI:Int)∧aI<gl∧(∃n:Int,∃s:LN,∃aP:Int,∃bp:Int,∃cs:LV,∃len:Nat,∃bI:Int,((gs.drop (aI*6)).take 6:LV)=[J n,.aa s,J aP,J bp,.aB cs len 4,J bI]∧ai (n==1) (∃bz:Nat,wI (Int.ofNat l.length-1)=(bz:Int)∧bz<l.length∧(∃cS:Int,bA Z 3 (aW l) (bz*1)=some (J cS:AV)∧(∃cd:Nat,wI (Int.ofNat l.length-1)=(cd:Int)∧cd<l.length∧cd*1+1<=(aW l).length∧((fA (aW l) (cd*1) [J (if Int.ofNat len>cS then Int.ofNat len else cS)]).length=l.length*1∧l.length+1<=65536∧true=true∧true=true)∧L (Ot (l.length+1) gs gl (wI (i+1))) (aq [(0,.aL (fA (aW l) (cd*1) [J (if Int.ofNat len>cS then Int.ofNat len else cS)]++[J 0]) 3)] 1) (ao Z 23 0)))) (L (Ot l.length gs gl (wI (i+1))) (cH l) (ao Z 23 0)))) (Q (.ae 0 l.length 1) (cH l))):=by kernel_rfl
theorem qq(l:LI):(aW l).length=l.length:=by simp[aW]
theorem yV(l m:LI):aW (l++m)=aW l++aW m:=by simp[aW]
theorem IW{l:LI}{i:Nat}(x:Int)(h:i<l.length):fA (aW l) i [J x]=aW (l.set i x):=by unfold fA aW;rw[List.map_set,List.set_eq_take_append_cons_drop,aN (by simpa using h)];rfl
theorem AG(l:LI):(aW l).all AV.ec=true∧(aW l).all je=true:=by constructor<;>(rw[List.all_eq_true];intro x hx;obtain⟨n,_,rfl⟩:=List.mem_map.1 hx;rfl)
theorem Z5:∀(gs:c7) (d:LI) (c:Int),(jh d c gs).length<=d.length+1+gs.length
 |[],d,c=>by simp[jh]
 |g::gs,d,c=>by
  unfold jh;split
  ·have:=Z5 gs (d++[max c (g.cP.length:Int)]) 0;simp at this⊢;omega
  ·have:=Z5 gs d c;simp at this⊢;omega
theorem arS{gs:c7}{aw:LI}(hl:eQ gs.length)(ho:∀g∈gs,oK g):
 ∀p:Nat×LI×Int,(p.1<=gs.length∧p.2.1.length+(gs.length-p.1)<65000∧jh p.2.1 p.2.2 (gs.drop p.1)=aw)->
 bF Z 23 40 0 (.ae 0 aw.length 1) (cH aw) (Ot (p.2.1++[p.2.2]).length (ck gs) gs.length (p.1:Int)) (cH (p.2.1++[p.2.2])) (ao Z 23 0):=by
 refine cX (fun p=>gs.length-p.1) _ _ _ _ ?_;rintro⟨i,d,c⟩ ⟨hi,hc,hf⟩ ih;simp only at hi hc hf ih⊢;refine hD PY 1000 (fun _=>[3,12,13,14]) (by kernel_rfl) ?_;rw[arU];refine aY.2 ⟨fun an=>?_,fun a8=>?_⟩
 ·have an:i<gs.length:=by simpa using an
  obtain⟨k,nm,ar,aM,ls,v,he,bU,bq⟩:=o5 an ho;rw[dv an,he]at hf;refine⟨i,rfl,an,k,nm,ar,aM,_,_,v,bU,?_⟩;rw[iA hl an];refine aY.2 ⟨fun hk=>?_,fun hk=>?_⟩
  ·have hk:k=1:=by simpa using hk
   simp only[jh,hk,if_true]at hf;have e:wI (Int.ofNat (d++[c]).length-1)=((d.length:Nat):Int):=by
    have e0:Int.ofNat (d++[c]).length-1=(d.length:Int):=by simp
    rw[e0,dz (by omega) (by omega)]
   have hd:d.length<(d++[c]).length:=by simp
   have hg:(d++[c]).getD d.length 0=c:=by simp[List.getD]
   have kC:(d++[c]).set d.length (max c (ls.length:Int))=d++[max c (ls.length:Int)]:=by simp
   have EY:(if Int.ofNat ls.length>c then Int.ofNat ls.length else c)=max c (ls.length:Int):=by simp only[fX];split<;>omega
   refine⟨d.length,e,hd,c,by rw[ia hd,hg],d.length,e,hd,by rw[qq];simp,?_⟩;rw[Nat.mul_one,EY,IW _ hd,kC];refine⟨⟨by rw[qq];simp,by simp;omega,rfl,rfl⟩,?_⟩;have next:=ih (i+1,d++[max c (ls.length:Int)],0) ⟨by simp;omega,by simp;omega,hf⟩ (by simp;omega)
   simp only[cH,aD,yV (d++[max c (ls.length:Int)]) [0]]at next
   have e2:(d++[max c (ls.length:Int)]++[0]).length=(d++[c]).length+1:=by simp
   rw[e2]at next
   exact next
  ·have hk:k≠1:=by simpa using hk
   simp only[jh,hk,if_false]at hf;exact ih (i+1,d,c) ⟨by simp;omega,by simp;omega,hf⟩ (by simp;omega)
 ·have a8:gs.length<=i:=by simpa using a8
  rw[dV a8,jh]at hf;subst hf;exact⟨rfl,rfl⟩
theorem Yu:bn Z PZ:=by refine dc PY ?_;rintro⟨⟨nm,ar,aM⟩,l,gs⟩ args H ⟨rfl,rfl,ho,hg⟩;simp only at hg;refine eS PY 1000 (fun _=>[3,12,13,14]) 40 (by kernel_rfl) ?_;simp only[Rp,dj];rw[arT];refine L8 (g:=0) (n:=1) (l:=[(0,.ay (aW [(l.length:Int)]) 3)]) (T:=[(3,.bB 0 0 1 1 1 true),(12,.aB (ck gs) gs.length 6),(13,J (Int.ofNat gs.length)),(14,J ((0:Nat):Int))]) (new:=aD [(l.length:Int)] 3) ?_ rfl (fun φ e o h=>zj (AG _).2 h) rfl (by kernel_rfl);exact arS ho.2.2.2.1 ho.2.2.2.2 (0,[],(l.length:Int)) ⟨by simp,by simp;omega,rfl⟩
abbrev kc:=Int×LN×LN×LN×LN
def oc:List kc:=[
 (1,[103,101,116,95,118,97,114],[114,97],[97],[114]),
 (2,[103,101,116,95,118,97,108],[114,97],[114,97],[]),
 (3,[103,101,116,95,105,110,116],[97,110],[97],[]),
 (4,[103,101,116,95,97,116,111,109],[97,115],[97],[]),
 (5,[103,101,116,95,115,116,114,117,99,116],[97,102],[97],[]),
 (6,[97,114,103,95,118,97,114],[114],[],[114]),
 (7,[97,114,103,95,118,97,108],[114],[114],[]),
 (8,[97,114,103,95,105,110,116],[110],[],[]),
 (9,[97,114,103,95,97,116,111,109],[115],[],[]),
 (10,[97,114,103,95,118,111,105,100],[118],[],[]),
 (11,[112,117,116,95,118,97,114],[114,97],[],[114,97]),
 (12,[112,117,116,95,118,97,108],[114,97],[114],[97]),
 (13,[112,117,116,95,105,110,116],[97,110],[],[97]),
 (14,[112,117,116,95,97,116,111,109],[97,115],[],[97]),
 (15,[112,117,116,95,115,116,114,117,99,116],[114,102],[],[114]),
 (16,[97,108,108,111,99,97,116,101],[99],[],[]),
 (17,[116,114,105,109],[99],[],[]),
 (18,[102,114,101,101],[],[],[]),
 (19,[99,97,108,108],[112],[112],[]),
 (20,[101,120,101,99,117,116,101],[112],[112],[]),
 (21,[112,114,111,99,101,101,100],[],[],[]),
 (22,[108,101,118,101,108],[114],[],[114]),
 (23,[109,97,114,107],[114],[],[114]),
 (24,[99,117,116],[114],[114],[]),
 (25,[102,97,105,108],[],[],[])]
def yf(r:kc):LV:=[J r.1,.aa r.2.1,.aa r.2.2.1,.aa r.2.2.2.1,.aa r.2.2.2.2]
def wN:List kc->LV
 |[]=>[]
 |r::l=>yf r++wN l
def Eb(r:kc):LV:=[.aa r.2.1,.aa r.2.2.1,.aa r.2.2.2.1,.aa r.2.2.2.2]
def aaV:List kc->LV
 |[]=>[]
 |r::l=>Eb r++aaV l
def wk:kc:=(0,[],[],[],[])
def Av:List kc->Nat->Option kc
 |[],_=>none
 |r::_,0=>some r
 |_::l,i+1=>Av l i
def nJ:Int->Option kc
 |.ofNat 0=>none
 |.ofNat (n+1)=>Av oc n
 |.negSucc _=>none
def Oa:LV->Option (Prop×AV)
 |[.cM .i64 k]=>some (True,match nJ k with|some r=>.aO [.aj (Eb r),.aA true]|none=>.aO [.aj (Eb wk),.aA false])
 |_=>none
def N':LV->Option (Prop×AV)
 |[.cM .i64 k]=>some (True,match nJ k with|some r=>.aO [.aj (yf r),.aA true]|none=>.aO [.aj (yf wk),.aA false])
 |_=>none
def agk:LV->Option (Prop×AV)
 |[]=>some (True,.aj (aaV (wk::oc)))
 |_=>none
def avs:AH:=aq [(0,.aL (wN oc) 132)] 1
def agE:LV->AH->Option (Prop×AV×AH)
 |[],H=>some (H=ax,.ae 0 25 5,avs)
 |_,_=>none
def dK(r:Int):Bool:=decide (1<=r∧r<=4096)
def df(r:Int):Bool:=decide (r≠0∧-4096<=r∧r<=4096)
def Ir(i:ba):Bool:=jL ⟨i.cR,i.ar,i.n⟩
def afi:LV->Option (Prop×AV)
 |[.cM .i64 r,.aA x]=>some (True,.aA (bif x then dK r else df r))
 |_=>none
def aeK:LV->Option (Prop×AV)
 |[.aj [.cM .i64 _,.cM .i64 _,.cM .i64 _,.cM .i64 n,.aa s,.cM .i64 ar]]=>some (True,.aA (jL ⟨s,ar,n⟩))
 |_=>none
def Z7:LV->Option (Prop×AV)
 |[.cM .i64 n,.cM .i64 a,.cM .i64 b]=>some (True,.aA (decide (a<=n∧n<=b)))
 |_=>none
def adS:LV->Option (Prop×AV)
 |[.aa s]=>some (True,.aA (decide ((s.length:Int)<=100)))
 |_=>none
def afg:LV->Option (Prop×AV)
 |[.cM .i64 r]=>some (True,.aA (df r))
 |_=>none
def D1:Ev.bC:=ft 146 (fy AA) PZ
def D2:Ev.bC:=ft 136 (fy aeK) D1
def D3:Ev.bC:=ft 135 (fy afi) D2
def D4:Ev.bC:=ft 75 (fy Z7) D3
def D5:Ev.bC:=ft 79 (fy afg) D4
def D6:Ev.bC:=ft 80 (fy adS) D5
def D7:Ev.bC:=ft 76 (fy AA) D6
def D8:Ev.bC:=ft 144 (fy agk) D7
def D9:Ev.bC:=ft 137 (fy Oa) D8
def P3:Ev.bC:=ft 115 agE D9
def J7:Ev.bC:=ft 78 (fy N') P3
theorem arC(nm:LN)(ar aM:Int)(L:LT)(Q:QT):
 b_ Z PZ (fun _=>[]) L Q 1000 146 [.aj [.aa nm,J ar,J aM]] ax=(
 ai (aM==0) (ai (decide (Int.ofNat nm.length<=100)) (ai (decide (ar>=0)) (Q (.aA (decide (ar<=8))) ax) (Q (.aA false) ax)) (Q (.aA false) ax)) (ai (dF nm []) (ai (decide (aM>=1)) (ai (decide (aM<=1099511627776)) (ai (decide (ar>=0)) (Q (.aA (decide (ar<=4096))) ax) (Q (.aA false) ax)) (Q (.aA false) ax)) (Q (.aA false) ax)) (Q (.aA false) ax))):=by kernel_rfl
theorem ara(o r a n:Int)(s:LN)(ar:Int)(L:LT)(Q:QT):
 b_ Z D1 (fun _=>[]) L Q 1000 136 [.aj [J o,J r,J a,J n,.aa s,J ar]] ax=(
 ai (n==0) (ai (decide (Int.ofNat s.length<=100)) (ai (decide (ar>=0)) (Q (.aA (decide (ar<=8))) ax) (Q (.aA false) ax)) (Q (.aA false) ax)) (ai (dF s []) (ai (decide (n>=1)) (ai (decide (n<=1099511627776)) (ai (decide (ar>=0)) (Q (.aA (decide (ar<=4096))) ax) (Q (.aA false) ax)) (Q (.aA false) ax)) (Q (.aA false) ax)) (Q (.aA false) ax))):=by kernel_rfl
theorem aq9(r:Int)(x:Bool)(L:LT)(Q:QT):
 b_ Z D2 (fun _=>[]) L Q 1000 135 [J r,.aA x] ax=(
 ai (decide (r>=1)) (ai (decide (r<=4096)) (Q (.aA true) ax) (ai (!x) (ai (decide (r<=-1)) (Q (.aA (decide (r>=-4096))) ax) (Q (.aA false) ax)) (Q (.aA false) ax))) (ai (!x) (ai (decide (r<=-1)) (Q (.aA (decide (r>=-4096))) ax) (Q (.aA false) ax)) (Q (.aA false) ax))):=by kernel_rfl
theorem atN(n a b:Int)(L:LT)(Q:QT):
 b_ Z D3 (fun _=>[]) L Q 1000 75 [J n,J a,J b] ax=(
 ai (decide (n>=a)) (Q (.aA (decide (n<=b))) ax) (Q (.aA false) ax)):=by kernel_rfl
theorem atQ(r:Int)(L:LT)(Q:QT):
 b_ Z D4 (fun _=>[]) L Q 1000 79 [J r] ax=(
 ai (r !=0) ((aq [] 0=ax∧True)∧Q (.aA (decide ((-4096:Int)<=r∧r<=4096))) ax) (Q (.aA false) ax)):=by kernel_rfl
theorem atY(s:LN)(L:LT)(Q:QT):
 b_ Z D5 (fun _=>[]) L Q 1000 80 [.aa s] ax=(
 Q (.aA (decide (Int.ofNat s.length<=100))) ax):=by kernel_rfl
theorem atO(nm:LN)(ar aM:Int)(L:LT)(Q:QT):
 b_ Z D6 (fun _=>[]) L Q 1000 76 [.aj [.aa nm,J ar,J aM]] ax=(
 ai (aM==0) ((aq [] 0=ax∧True)∧ai (decide (((nm.length:Nat):Int)<=100)) ((aq [] 0=ax∧True)∧Q (.aA (decide ((0:Int)<=ar∧ar<=8))) ax) (Q (.aA false) ax)) (ai (dF nm []) ((aq [] 0=ax∧True)∧ai (decide ((1:Int)<=aM∧aM<=1099511627776)) ((aq [] 0=ax∧True)∧Q (.aA (decide ((0:Int)<=ar∧ar<=4096))) ax) (Q (.aA false) ax)) (Q (.aA false) ax))):=by kernel_rfl
theorem arz(L:LT)(Q:QT):
 b_ Z D7 (fun _=>[]) L Q 1000 144 [] ax=(
 Q (.aj [.aa [],.aa [],.aa [],.aa [],.aa [103,101,116,95,118,97,114],.aa [114,97],.aa [97],.aa [114],.aa [103,101,116,95,118,97,108],.aa [114,97],.aa [114,97],.aa [],.aa [103,101,116,95,105,110,116],.aa [97,110],.aa [97],.aa [],.aa [103,101,116,95,97,116,111,109],.aa [97,115],.aa [97],.aa [],.aa [103,101,116,95,115,116,114,117,99,116],.aa [97,102],.aa [97],.aa [],.aa [97,114,103,95,118,97,114],.aa [114],.aa [],.aa [114],.aa [97,114,103,95,118,97,108],.aa [114],.aa [114],.aa [],.aa [97,114,103,95,105,110,116],.aa [110],.aa [],.aa [],.aa [97,114,103,95,97,116,111,109],.aa [115],.aa [],.aa [],.aa [97,114,103,95,118,111,105,100],.aa [118],.aa [],.aa [],.aa [112,117,116,95,118,97,114],.aa [114,97],.aa [],.aa [114,97],.aa [112,117,116,95,118,97,108],.aa [114,97],.aa [114],.aa [97],.aa [112,117,116,95,105,110,116],.aa [97,110],.aa [],.aa [97],.aa [112,117,116,95,97,116,111,109],.aa [97,115],.aa [],.aa [97],.aa [112,117,116,95,115,116,114,117,99,116],.aa [114,102],.aa [],.aa [114],.aa [97,108,108,111,99,97,116,101],.aa [99],.aa [],.aa [],.aa [116,114,105,109],.aa [99],.aa [],.aa [],.aa [102,114,101,101],.aa [],.aa [],.aa [],.aa [99,97,108,108],.aa [112],.aa [112],.aa [],.aa [101,120,101,99,117,116,101],.aa [112],.aa [112],.aa [],.aa [112,114,111,99,101,101,100],.aa [],.aa [],.aa [],.aa [108,101,118,101,108],.aa [114],.aa [],.aa [114],.aa [109,97,114,107],.aa [114],.aa [],.aa [114],.aa [99,117,116],.aa [114],.aa [114],.aa [],.aa [102,97,105,108],.aa [],.aa [],.aa []]) ax):=by kernel_rfl
theorem arb(k:Int)(L:LT)(Q:QT):
 b_ Z D8 (fun _=>[]) L Q 1000 137 [J k] ax=(
 ai (decide (k<1)) (Q (.aO [.aj [.aa [],.aa [],.aa [],.aa []],.aA false]) ax) (ai (decide (k>25)) (Q (.aO [.aj [.aa [],.aa [],.aa [],.aa []],.aA false]) ax) ((aq [] 0=ax∧True)∧((0:Int)<=k∧k<26)∧(k=0->Q (.aO [.aj [.aa [],.aa [],.aa [],.aa []],.aA true]) ax)∧(k=1->Q (.aO [.aj [.aa [103,101,116,95,118,97,114],.aa [114,97],.aa [97],.aa [114]],.aA true]) ax)∧(k=2->Q (.aO [.aj [.aa [103,101,116,95,118,97,108],.aa [114,97],.aa [114,97],.aa []],.aA true]) ax)∧(k=3->Q (.aO [.aj [.aa [103,101,116,95,105,110,116],.aa [97,110],.aa [97],.aa []],.aA true]) ax)∧(k=4->Q (.aO [.aj [.aa [103,101,116,95,97,116,111,109],.aa [97,115],.aa [97],.aa []],.aA true]) ax)∧(k=5->Q (.aO [.aj [.aa [103,101,116,95,115,116,114,117,99,116],.aa [97,102],.aa [97],.aa []],.aA true]) ax)∧(k=6->Q (.aO [.aj [.aa [97,114,103,95,118,97,114],.aa [114],.aa [],.aa [114]],.aA true]) ax)∧(k=7->Q (.aO [.aj [.aa [97,114,103,95,118,97,108],.aa [114],.aa [114],.aa []],.aA true]) ax)∧(k=8->Q (.aO [.aj [.aa [97,114,103,95,105,110,116],.aa [110],.aa [],.aa []],.aA true]) ax)∧(k=9->Q (.aO [.aj [.aa [97,114,103,95,97,116,111,109],.aa [115],.aa [],.aa []],.aA true]) ax)∧(k=10->Q (.aO [.aj [.aa [97,114,103,95,118,111,105,100],.aa [118],.aa [],.aa []],.aA true]) ax)∧(k=11->Q (.aO [.aj [.aa [112,117,116,95,118,97,114],.aa [114,97],.aa [],.aa [114,97]],.aA true]) ax)∧(k=12->Q (.aO [.aj [.aa [112,117,116,95,118,97,108],.aa [114,97],.aa [114],.aa [97]],.aA true]) ax)∧(k=13->Q (.aO [.aj [.aa [112,117,116,95,105,110,116],.aa [97,110],.aa [],.aa [97]],.aA true]) ax)∧(k=14->Q (.aO [.aj [.aa [112,117,116,95,97,116,111,109],.aa [97,115],.aa [],.aa [97]],.aA true]) ax)∧(k=15->Q (.aO [.aj [.aa [112,117,116,95,115,116,114,117,99,116],.aa [114,102],.aa [],.aa [114]],.aA true]) ax)∧(k=16->Q (.aO [.aj [.aa [97,108,108,111,99,97,116,101],.aa [99],.aa [],.aa []],.aA true]) ax)∧(k=17->Q (.aO [.aj [.aa [116,114,105,109],.aa [99],.aa [],.aa []],.aA true]) ax)∧(k=18->Q (.aO [.aj [.aa [102,114,101,101],.aa [],.aa [],.aa []],.aA true]) ax)∧(k=19->Q (.aO [.aj [.aa [99,97,108,108],.aa [112],.aa [112],.aa []],.aA true]) ax)∧(k=20->Q (.aO [.aj [.aa [101,120,101,99,117,116,101],.aa [112],.aa [112],.aa []],.aA true]) ax)∧(k=21->Q (.aO [.aj [.aa [112,114,111,99,101,101,100],.aa [],.aa [],.aa []],.aA true]) ax)∧(k=22->Q (.aO [.aj [.aa [108,101,118,101,108],.aa [114],.aa [],.aa [114]],.aA true]) ax)∧(k=23->Q (.aO [.aj [.aa [109,97,114,107],.aa [114],.aa [],.aa [114]],.aA true]) ax)∧(k=24->Q (.aO [.aj [.aa [99,117,116],.aa [114],.aa [114],.aa []],.aA true]) ax)∧(k=25->Q (.aO [.aj [.aa [102,97,105,108],.aa [],.aa [],.aa []],.aA true]) ax)∧True))):=by kernel_rfl
theorem aqo(L:LT)(Q:QT):
 b_ Z D9 (fun _=>[]) L Q 1000 115 [] ax=(
 Q (.bB 0 0 25 25 5 true) (aq [(0,.ay [J 1,.aa [103,101,116,95,118,97,114],.aa [114,97],.aa [97],.aa [114],J 2,.aa [103,101,116,95,118,97,108],.aa [114,97],.aa [114,97],.aa [],J 3,.aa [103,101,116,95,105,110,116],.aa [97,110],.aa [97],.aa [],J 4,.aa [103,101,116,95,97,116,111,109],.aa [97,115],.aa [97],.aa [],J 5,.aa [103,101,116,95,115,116,114,117,99,116],.aa [97,102],.aa [97],.aa [],J 6,.aa [97,114,103,95,118,97,114],.aa [114],.aa [],.aa [114],J 7,.aa [97,114,103,95,118,97,108],.aa [114],.aa [114],.aa [],J 8,.aa [97,114,103,95,105,110,116],.aa [110],.aa [],.aa [],J 9,.aa [97,114,103,95,97,116,111,109],.aa [115],.aa [],.aa [],J 10,.aa [97,114,103,95,118,111,105,100],.aa [118],.aa [],.aa [],J 11,.aa [112,117,116,95,118,97,114],.aa [114,97],.aa [],.aa [114,97],J 12,.aa [112,117,116,95,118,97,108],.aa [114,97],.aa [114],.aa [97],J 13,.aa [112,117,116,95,105,110,116],.aa [97,110],.aa [],.aa [97],J 14,.aa [112,117,116,95,97,116,111,109],.aa [97,115],.aa [],.aa [97],J 15,.aa [112,117,116,95,115,116,114,117,99,116],.aa [114,102],.aa [],.aa [114],J 16,.aa [97,108,108,111,99,97,116,101],.aa [99],.aa [],.aa [],J 17,.aa [116,114,105,109],.aa [99],.aa [],.aa [],J 18,.aa [102,114,101,101],.aa [],.aa [],.aa [],J 19,.aa [99,97,108,108],.aa [112],.aa [112],.aa [],J 20,.aa [101,120,101,99,117,116,101],.aa [112],.aa [112],.aa [],J 21,.aa [112,114,111,99,101,101,100],.aa [],.aa [],.aa [],J 22,.aa [108,101,118,101,108],.aa [114],.aa [],.aa [114],J 23,.aa [109,97,114,107],.aa [114],.aa [],.aa [114],J 24,.aa [99,117,116],.aa [114],.aa [114],.aa [],J 25,.aa [102,97,105,108],.aa [],.aa [],.aa []] 132)] 1)):=by kernel_rfl
theorem atP(k:Int)(L:LT)(Q:QT):
 b_ Z P3 (fun _=>[]) L Q 1000 78 [J k] ax=(
 ai (decide (k<1)) (Q (.aO [.aj [J 0,.aa [],.aa [],.aa [],.aa []],.aA false]) ax) (ai (decide (k>25)) (Q (.aO [.aj [J 0,.aa [],.aa [],.aa [],.aa []],.aA false]) ax) (aq [] 0=ax∧(∃i:Nat,wI (k-1)=(i:Int)∧i<25∧(∃n:Int,∃s:LN,∃dO:LN,∃uK:LN,∃s_3:LN,bA Z 132 [J 1,.aa [103,101,116,95,118,97,114],.aa [114,97],.aa [97],.aa [114],J 2,.aa [103,101,116,95,118,97,108],.aa [114,97],.aa [114,97],.aa [],J 3,.aa [103,101,116,95,105,110,116],.aa [97,110],.aa [97],.aa [],J 4,.aa [103,101,116,95,97,116,111,109],.aa [97,115],.aa [97],.aa [],J 5,.aa [103,101,116,95,115,116,114,117,99,116],.aa [97,102],.aa [97],.aa [],J 6,.aa [97,114,103,95,118,97,114],.aa [114],.aa [],.aa [114],J 7,.aa [97,114,103,95,118,97,108],.aa [114],.aa [114],.aa [],J 8,.aa [97,114,103,95,105,110,116],.aa [110],.aa [],.aa [],J 9,.aa [97,114,103,95,97,116,111,109],.aa [115],.aa [],.aa [],J 10,.aa [97,114,103,95,118,111,105,100],.aa [118],.aa [],.aa [],J 11,.aa [112,117,116,95,118,97,114],.aa [114,97],.aa [],.aa [114,97],J 12,.aa [112,117,116,95,118,97,108],.aa [114,97],.aa [114],.aa [97],J 13,.aa [112,117,116,95,105,110,116],.aa [97,110],.aa [],.aa [97],J 14,.aa [112,117,116,95,97,116,111,109],.aa [97,115],.aa [],.aa [97],J 15,.aa [112,117,116,95,115,116,114,117,99,116],.aa [114,102],.aa [],.aa [114],J 16,.aa [97,108,108,111,99,97,116,101],.aa [99],.aa [],.aa [],J 17,.aa [116,114,105,109],.aa [99],.aa [],.aa [],J 18,.aa [102,114,101,101],.aa [],.aa [],.aa [],J 19,.aa [99,97,108,108],.aa [112],.aa [112],.aa [],J 20,.aa [101,120,101,99,117,116,101],.aa [112],.aa [112],.aa [],J 21,.aa [112,114,111,99,101,101,100],.aa [],.aa [],.aa [],J 22,.aa [108,101,118,101,108],.aa [114],.aa [],.aa [114],J 23,.aa [109,97,114,107],.aa [114],.aa [],.aa [114],J 24,.aa [99,117,116],.aa [114],.aa [114],.aa [],J 25,.aa [102,97,105,108],.aa [],.aa [],.aa []] (i*5)=some (.aj [J n,.aa s,.aa dO,.aa uK,.aa s_3]:AV)∧Q (.aO [.aj [J n,.aa s,.aa dO,.aa uK,.aa s_3],.aA true]) ax))))):=by kernel_rfl
theorem axB{P:Program}{S:Ev.bC}{f:FuncId}(hS:bn P S)(s:LV->Option (Prop×AV))(h:∀args q v,s args=some (q,v)->q->eC P f args ax v ax)(c6:f≠999999:=by first|assumption|decide):bn P (ft f (fy s) S):=jM hS h
theorem YE:bn Z D1:=by
 refine jM Yu fun args q v h hq=>?_
 unfold AA at h;split at h<;>cases h;refine eS Yu 1000 (fun _=>[]) 43 (by kernel_rfl) ?_;rw[arC]
 (repeat' (refine aY.2 ⟨fun _=>?_,fun _=>?_⟩))
 all_goals
  refine⟨?_,rfl⟩;congr 1
  (rw[Bool.eq_iff_iff];simp_all[jL,lA]<;>(try intros)<;>omega)
theorem YF:bn Z D2:=by
 refine jM YE fun args q v h hq=>?_
 unfold aeK at h;split at h<;>cases h;refine eS YE 1000 (fun _=>[]) 43 (by kernel_rfl) ?_;rw[ara]
 (repeat' (refine aY.2 ⟨fun _=>?_,fun _=>?_⟩))
 all_goals
  refine⟨?_,rfl⟩;congr 1
  (rw[Bool.eq_iff_iff];simp_all[jL,lA]<;>(try intros)<;>omega)
theorem YG:bn Z D3:=by
 refine jM YF fun args q v h hq=>?_
 unfold afi at h;split at h<;>cases h;refine eS YF 1000 (fun _=>[]) 23 (by kernel_rfl) ?_;rw[aq9];rename_i r x;cases x;all_goals
  (repeat' (refine aY.2 ⟨fun _=>?_,fun _=>?_⟩))
  all_goals
   refine⟨?_,rfl⟩;congr 1
   (rw[Bool.eq_iff_iff];simp_all[df,dK]<;>(try intros)<;>omega)
theorem YH:bn Z D4:=by
 refine jM YG fun args q v h hq=>?_
 unfold Z7 at h;split at h<;>cases h;refine eS YG 1000 (fun _=>[]) 15 (by kernel_rfl) ?_;rw[atN]
 (repeat' (refine aY.2 ⟨fun _=>?_,fun _=>?_⟩))
 all_goals
  refine⟨?_,rfl⟩;congr 1
  (rw[Bool.eq_iff_iff];simp_all<;>(try intros)<;>omega)
theorem YI:bn Z D5:=by
 refine jM YH fun args q v h hq=>?_
 unfold afg at h;split at h<;>cases h;refine eS YH 1000 (fun _=>[]) 9 (by kernel_rfl) ?_;rw[atQ]
 (repeat' (refine aY.2 ⟨fun _=>?_,fun _=>?_⟩))
 all_goals
  first
  |(refine⟨?_,rfl⟩;congr 1;(rw[Bool.eq_iff_iff];simp_all[df]<;>(try intros)<;>omega))
  |(refine⟨⟨rfl,trivial⟩,?_,rfl⟩;congr 1;(rw[Bool.eq_iff_iff];simp_all[df]<;>(try intros)<;>omega))
theorem YJ:bn Z D6:=by
 refine jM YI fun args q v h hq=>?_
 unfold adS at h;split at h<;>cases h;refine eS YI 1000 (fun _=>[]) 6 (by kernel_rfl) ?_;rw[atY];exact⟨rfl,rfl⟩
theorem YK:bn Z D7:=by
 refine jM YJ fun args q v h hq=>?_
 unfold AA at h;split at h<;>cases h;refine eS YJ 1000 (fun _=>[]) 27 (by kernel_rfl) ?_;rw[atO];refine aY.2 ⟨fun h1=>⟨⟨rfl,trivial⟩,aY.2 ⟨fun h2=>⟨⟨rfl,trivial⟩,?_,rfl⟩,fun h2=>⟨?_,rfl⟩⟩⟩,fun h1=>aY.2 ⟨fun h2=>⟨⟨rfl,trivial⟩,aY.2 ⟨fun h3=>⟨⟨rfl,trivial⟩,?_,rfl⟩,fun h3=>⟨?_,rfl⟩⟩⟩,fun h2=>⟨?_,rfl⟩⟩⟩;all_goals
  congr 1
  (rw[Bool.eq_iff_iff];simp_all[jL,lA]<;>(try intros)<;>omega)
theorem YL:bn Z D8:=by
 refine jM YK fun args q v h hq=>?_
 unfold agk at h;split at h<;>cases h;refine eS YK 1000 (fun _=>[]) 27 (by kernel_rfl) ?_;rw[arz];exact⟨rfl,rfl⟩
theorem agj{k:Int}(h:k<1):nJ k=none:=by
 cases k with
 |ofNat n=>
  cases n with
  |zero=>rfl
  |succ n=>exfalso;simp at h;omega
 |negSucc n=>rfl
theorem agi{k:Int}(h:k>25):nJ k=none:=by obtain⟨n,rfl⟩:∃n:Nat,k=Int.ofNat (n+26):=⟨(k-26).toNat,by simp;omega⟩;rfl
theorem P5:bn Z D9:=by
 refine jM YL fun args q v h hq=>?_
 unfold Oa at h;split at h<;>cases h;rename_i k;refine eS YL 1000 (fun _=>[]) 14 (by kernel_rfl) ?_;rw[arb];refine aY.2 ⟨fun h1=>?_,fun h1=>?_⟩
 ·have h1:k<1:=by simpa using h1
  rw[agj h1];exact⟨rfl,rfl⟩
 have h1:¬k<1:=by simpa using h1
 refine aY.2 ⟨fun h2=>?_,fun h2=>?_⟩
 ·have h2:k>25:=by simpa using h2
  rw[agi h2];exact⟨rfl,rfl⟩
 have h2:¬k>25:=by simpa using h2
 refine⟨⟨rfl,trivial⟩,⟨by omega,by omega⟩,fun h=>absurd h (by omega),?_⟩;repeat' (first|exact trivial|refine⟨fun h=>?_,?_⟩|fail)
 all_goals
  subst h;exact⟨rfl,rfl⟩
theorem ajv:∀l:List kc,(wN l).length=l.length*5
 |[]=>rfl
 |r::l=>by simp[wN,yf,ajv l];omega
theorem aof(a b c d e:AV)(l:LV):bA Z 132 (a::b::c::d::e::l) 0=some (.aj [a,b,c,d,e]):=by kernel_rfl
theorem aog(cs:LV)(off:Nat):bA Z 132 cs off=bA Z 132 (cs.drop off) 0:=by kernel_rfl
theorem aex:∀(l:List kc) (i:Nat) (h:i<l.length),bA Z 132 ((wN l).drop (i*5)) 0=some (.aj (yf l[i]))
 |r::l,0,_=>by simp only[Nat.zero_mul,hI,wN,yf,mQ,pS,aof];rfl
 |r::l,i+1,h=>by
  have:=aex l i (by simpa using h);have e:(wN (r::l)).drop ((i+1)*5)=(wN l).drop (i*5):=by rw[Nat.add_mul,Nat.one_mul,Nat.add_comm,←List.drop_drop];rfl
  rw[e,this];rfl
theorem ad7:∀(l:List kc) (i:Nat) (h:i<l.length),Av l i=some l[i]
 |r::l,0,_=>rfl
 |r::l,i+1,h=>ad7 l i (by simpa using h)
theorem YB:bn Z P3:=by
 refine Ba P5 fun args H p v H' h hp=>?_
 unfold agE at h;split at h<;>cases h;cases hp;refine K' (g:=0) (n:=1) (l:=[(0,.ay (wN oc) 132)]) (old:=.ay (wN oc) 132) (v:=.bB 0 0 25 25 5 true) ?_ rfl (fun φ e o h=>zj (by kernel_rfl) h) rfl (by show(0:Nat)<=1;omega);refine eS P5 1000 (fun _=>[]) 27 (by kernel_rfl) ?_;rw[aqo];exact⟨rfl,rfl⟩
theorem P4:bn Z J7:=by
 refine jM YB fun args q v h hq=>?_
 unfold N' at h;split at h<;>cases h;rename_i k;refine eS YB 1000 (fun _=>[]) 16 (by kernel_rfl) ?_;rw[atP];refine aY.2 ⟨fun h1=>?_,fun h1=>?_⟩
 ·have h1:k<1:=by simpa using h1
  rw[agj h1];exact⟨rfl,rfl⟩
 have h1:¬k<1:=by simpa using h1
 refine aY.2 ⟨fun h2=>?_,fun h2=>?_⟩
 ·have h2:k>25:=by simpa using h2
  rw[agi h2];exact⟨rfl,rfl⟩
 have h2:¬k>25:=by simpa using h2
 obtain⟨n,rfl⟩:∃n:Nat,k=Int.ofNat (n+1):=⟨(k-1).toNat,by simp;omega⟩;have hn:n<oc.length:=by have:oc.length=25:=rfl;simp at h2;omega
 have e:wI (Int.ofNat (n+1)-1)=(n:Int):=by
  have:oc.length=25:=rfl;have e0:Int.ofNat (n+1)-1=(n:Int):=by simp
  rw[e0,dz (by omega) (by omega)]
 have hs:nJ (Int.ofNat (n+1))=some oc[n]:=ad7 _ _ hn;refine⟨rfl,n,e,hn,_,_,_,_,_,(aog _ _).trans (aex oc n hn),?_⟩;rw[hs];exact⟨rfl,rfl⟩
def F0(i:ba):Bool:=decide ((i.cR.length:Int)<=100∧1<=i.ar∧i.ar<=8)
def ca(i:ba):Bool:=
 if i.op=1∨i.op=2∨i.op=11∨i.op=12 then df i.r&&dK i.a&&decide (i.n=0∧i.cR=[]∧i.ar=0)
 else if i.op=3∨i.op=13 then dK i.a&&decide (i.r=0∧i.cR=[]∧i.ar=0)
 else if i.op=4∨i.op=14 then dK i.a&&decide ((i.cR.length:Int)<=100∧i.r=0∧i.n=0∧i.ar=0)
 else if i.op=5 then dK i.a&&F0 i&&decide (i.r=0∧i.n=0)
 else if i.op=15 then df i.r&&F0 i&&decide (i.a=0∧i.n=0)
 else if i.op=6∨i.op=7∨i.op=22∨i.op=23∨i.op=24 then df i.r&&decide (i.a=0∧i.n=0∧i.cR=[]∧i.ar=0)
 else if i.op=8 then decide (i.r=0∧i.a=0∧i.cR=[]∧i.ar=0)
 else if i.op=9 then decide ((i.cR.length:Int)<=100∧i.r=0∧i.a=0∧i.n=0∧i.ar=0)
 else if i.op=10 then decide (1<=i.n∧i.n<=8∧i.r=0∧i.a=0∧i.cR=[]∧i.ar=0)
 else if i.op=16∨i.op=17 then decide (0<=i.n∧i.n<=4096∧i.r=0∧i.a=0∧i.cR=[]∧i.ar=0)
 else if i.op=19∨i.op=20 then Ir i&&decide (i.r=0∧i.a=0)
 else if i.op=18∨i.op=21∨i.op=25 then decide (i.r=0∧i.a=0∧i.n=0∧i.cR=[]∧i.ar=0)
 else false
def Ep:LV->Option (Prop×AV)
 |[.aj [.cM .i64 o,.cM .i64 r,.cM .i64 a,.cM .i64 n,.aa s,.cM .i64 ar]]=>some (True,.aA (ca ⟨o,r,a,n,s,ar⟩))
 |_=>none
def J8:Ev.bC:=ft 145 (fy Ep) J7
abbrev tT:Prop:=aq [] 0=ax∧True
def Hr(r a n:Int)(s:LN)(ar:Int):Nat->Bool
 |0|_+26=>false
 |1|2|11|12=>df r&&dK a&&decide (n=0∧s=[]∧ar=0)
 |3|13=>dK a&&decide (r=0∧s=[]∧ar=0)
 |4|14=>dK a&&decide ((s.length:Int)<=100∧r=0∧n=0∧ar=0)
 |5=>dK a&&(decide ((s.length:Int)<=100∧1<=ar∧ar<=8))&&decide (r=0∧n=0)
 |6|7|22|23|24=>df r&&decide (a=0∧n=0∧s=[]∧ar=0)
 |8=>decide (r=0∧a=0∧s=[]∧ar=0)
 |9=>decide ((s.length:Int)<=100∧r=0∧a=0∧n=0∧ar=0)
 |10=>decide (1<=n∧n<=8∧r=0∧a=0∧s=[]∧ar=0)
 |15=>df r&&(decide ((s.length:Int)<=100∧1<=ar∧ar<=8))&&decide (a=0∧n=0)
 |16|17=>decide (0<=n∧n<=4096∧r=0∧a=0∧s=[]∧ar=0)
 |18|21|25=>decide (r=0∧a=0∧n=0∧s=[]∧ar=0)
 |19|20=>jL ⟨s,ar,n⟩&&decide (r=0∧a=0)
theorem abx(r a n:Int)(s:LN)(ar:Int):∀k:Nat,ca ⟨.ofNat k,r,a,n,s,ar⟩=Hr r a n s ar k
 |0|1|2|3|4|5|6|7|8|9|10|11|12|13|14|15|16|17|18|19|20|21|22|23|24|25|m+26=>rfl
def ahB(r a n:Int)(s:LN)(ar:Int)(B:Bool->Prop):Nat->Prop
 |0|_+26=>tT∧B false
 |1|2|11|12=>tT∧ai (r !=0) (ai (decide (r>=-4096)) (ai (decide (r<=4096)) (ai (decide (a>=1)) (ai (decide (a<=4096)) (B (true&&(r==r&&(a==a&&(n==0&&(dF s []&&(ar==0&&true))))))) (B false)) (B false)) (B false)) (B false)) (B false)
 |3|13=>tT∧ai (decide (a>=1)) (ai (decide (a<=4096)) (B (true&&(r==0&&(a==a&&(n==n&&(dF s []&&(ar==0&&true))))))) (B false)) (B false)
 |4|14=>tT∧ai (decide (a>=1)) (ai (decide (a<=4096)) (ai (decide (Int.ofNat s.length<=100)) (B (true&&(r==0&&(a==a&&(n==0&&(dF s s&&(ar==0&&true))))))) (B false)) (B false)) (B false)
 |5=>tT∧ai (decide (a>=1)) (some (J ar:AV)=some (J ar:AV)∧ai (decide (a<=4096)) (ai (decide (Int.ofNat s.length<=100)) (ai (decide (ar>=1)) (ai (decide (ar<=8)) (B (true&&(r==0&&(a==a&&(n==0&&(dF s s&&(ar==ar&&true))))))) (B false)) (B false)) (B false)) (B false)) (some (J ar:AV)=some (J ar:AV)∧B false)
 |6|7|22|23|24=>tT∧ai (r !=0) (ai (decide (r>=-4096)) (ai (decide (r<=4096)) (B (true&&(r==r&&(a==0&&(n==0&&(dF s []&&(ar==0&&true))))))) (B false)) (B false)) (B false)
 |8=>tT∧B (true&&(r==0&&(a==0&&(n==n&&(dF s []&&(ar==0&&true))))))
 |9=>tT∧ai (decide (Int.ofNat s.length<=100)) (B (true&&(r==0&&(a==0&&(n==0&&(dF s s&&(ar==0&&true))))))) (B false)
 |10=>tT∧ai (decide (n>=1)) (ai (decide (n<=8)) (B (true&&(r==0&&(a==0&&(n==n&&(dF s []&&(ar==0&&true))))))) (B false)) (B false)
 |15=>tT∧ai (r !=0) (ai (decide (r>=-4096)) (some (J ar:AV)=some (J ar:AV)∧ai (decide (r<=4096)) (ai (decide (Int.ofNat s.length<=100)) (ai (decide (ar>=1)) (ai (decide (ar<=8)) (B (true&&(r==r&&(a==0&&(n==0&&(dF s s&&(ar==ar&&true))))))) (B false)) (B false)) (B false)) (B false)) (some (J ar:AV)=some (J ar:AV)∧B false)) (some (J ar:AV)=some (J ar:AV)∧B false)
 |16|17=>tT∧ai (decide (n>=0)) (ai (decide (n<=4096)) (B (true&&(r==0&&(a==0&&(n==n&&(dF s []&&(ar==0&&true))))))) (B false)) (B false)
 |18|21|25=>tT∧B (true&&(r==0&&(a==0&&(n==0&&(dF s []&&(ar==0&&true))))))
 |19|20=>tT∧some (J n:AV)=some (J n:AV)∧some (J ar:AV)=some (J ar:AV)∧some (J n:AV)=some (J n:AV)∧tT∧ai (jL (d_.mk s ar n)) (B (true&&(r==0&&(a==0&&(n==n&&(dF s s&&(ar==ar&&true))))))) (B false)
theorem arA(r a n:Int)(s:LN)(ar:Int)(L:LT)(Q:QT):∀k:Nat,
 b_ Z J7 (fun _=>[1000000]) L Q 3000 145 [.aj [J (.ofNat k),J r,J a,J n,.aa s,J ar]] ax=ahB r a n s ar (fun b=>Q (.aA b) ax) k
 |0|1|2|3|4|5|6|7|8|9|10|11|12|13|14|15|16|17|18|19|20|21|22|23|24|25|m+26=>by kernel_rfl
theorem arB(m:Nat)(r a n:Int)(s:LN)(ar:Int)(L:LT)(Q:QT):
 b_ Z J7 (fun _=>[1000000]) L Q 3000 145 [.aj [J (.negSucc m),J r,J a,J n,.aa s,J ar]] ax=((tT)∧Q (.aA false) ax):=by kernel_rfl
theorem YC:bn Z J8:=by
 refine jM P4 fun args q v h hq=>?_
 unfold Ep at h;split at h<;>cases h;rename_i o r a n s ar;refine eS P4 3000 (fun _=>[1000000]) 163 (by kernel_rfl) ?_;cases o with
 |negSucc m=>rw[arB,show ca ⟨.negSucc m,r,a,n,s,ar⟩=false from rfl];exact⟨⟨rfl,trivial⟩,rfl,rfl⟩
 |ofNat k=>
  rw[arA,abx];match k with
  |0=>?_|1=>?_|2=>?_|3=>?_|4=>?_|5=>?_|6=>?_|7=>?_|8=>?_|9=>?_|10=>?_|11=>?_|12=>?_|13=>?_|14=>?_|15=>?_|16=>?_|17=>?_|18=>?_|19=>?_|20=>?_|21=>?_|22=>?_|23=>?_|24=>?_|25=>?_|m+26=>?_
  all_goals
   repeat' (first|(refine aY.2 ⟨fun _=>?_,fun _=>?_⟩)|(refine⟨⟨rfl,trivial⟩,?_⟩)|(refine⟨(rfl:some _=some _),?_⟩)|fail)
  all_goals
   refine⟨?_,rfl⟩;first
   |rfl
   |(congr 1;(rw[Bool.eq_iff_iff];simp_all[Hr,df,dK,lA]<;>(try intros)<;>omega))
   |(congr 1;simp_all[Hr];done)
   |fail
def YD:Ev.bC:=ft 123 (fy Ep) J8
def ahA(r a n:Int)(s:LN)(ar:Int)(B:Bool->Prop):Nat->Prop
 |0|_+26=>ai (decide (Int.ofNat s.length<=100)) (ai (decide (ar>=1)) (B false) (B false)) (B false)
 |1|2|11|12=>ai (decide (Int.ofNat s.length<=100)) (ai (decide (ar>=1)) (tT∧ai (df r) (tT∧ai (dK a) (B (true&&(r==r&&(a==a&&(n==0&&(dF s []&&(ar==0&&true))))))) (B false)) (B false)) (tT∧ai (df r) (tT∧ai (dK a) (B (true&&(r==r&&(a==a&&(n==0&&(dF s []&&(ar==0&&true))))))) (B false)) (B false))) (tT∧ai (df r) (tT∧ai (dK a) (B (true&&(r==r&&(a==a&&(n==0&&(dF s []&&(ar==0&&true))))))) (B false)) (B false))
 |3|13=>ai (decide (Int.ofNat s.length<=100)) (ai (decide (ar>=1)) (tT∧ai (dK a) (B (true&&(r==0&&(a==a&&(n==n&&(dF s []&&(ar==0&&true))))))) (B false)) (tT∧ai (dK a) (B (true&&(r==0&&(a==a&&(n==n&&(dF s []&&(ar==0&&true))))))) (B false))) (tT∧ai (dK a) (B (true&&(r==0&&(a==a&&(n==n&&(dF s []&&(ar==0&&true))))))) (B false))
 |4|14=>ai (decide (Int.ofNat s.length<=100)) (ai (decide (ar>=1)) (tT∧ai (dK a) (ai (decide (Int.ofNat s.length<=100)) (B (true&&(r==0&&(a==a&&(n==0&&(dF s s&&(ar==0&&true))))))) (B false)) (B false)) (tT∧ai (dK a) (ai (decide (Int.ofNat s.length<=100)) (B (true&&(r==0&&(a==a&&(n==0&&(dF s s&&(ar==0&&true))))))) (B false)) (B false))) (tT∧ai (dK a) (ai (decide (Int.ofNat s.length<=100)) (B (true&&(r==0&&(a==a&&(n==0&&(dF s s&&(ar==0&&true))))))) (B false)) (B false))
 |5=>ai (decide (Int.ofNat s.length<=100)) (ai (decide (ar>=1)) (tT∧ai (dK a) (ai (decide (ar<=8)) (B (true&&(r==0&&(a==a&&(n==0&&(dF s s&&(ar==ar&&true))))))) (B false)) (B false)) (tT∧ai (dK a) (B false) (B false))) (tT∧ai (dK a) (B false) (B false))
 |6|7|22|23|24=>ai (decide (Int.ofNat s.length<=100)) (ai (decide (ar>=1)) (tT∧ai (df r) (B (true&&(r==r&&(a==0&&(n==0&&(dF s []&&(ar==0&&true))))))) (B false)) (tT∧ai (df r) (B (true&&(r==r&&(a==0&&(n==0&&(dF s []&&(ar==0&&true))))))) (B false))) (tT∧ai (df r) (B (true&&(r==r&&(a==0&&(n==0&&(dF s []&&(ar==0&&true))))))) (B false))
 |8=>ai (decide (Int.ofNat s.length<=100)) (ai (decide (ar>=1)) (B (true&&(r==0&&(a==0&&(n==n&&(dF s []&&(ar==0&&true))))))) (B (true&&(r==0&&(a==0&&(n==n&&(dF s []&&(ar==0&&true)))))))) (B (true&&(r==0&&(a==0&&(n==n&&(dF s []&&(ar==0&&true)))))))
 |9=>ai (decide (Int.ofNat s.length<=100)) (ai (decide (ar>=1)) (ai (decide (Int.ofNat s.length<=100)) (B (true&&(r==0&&(a==0&&(n==0&&(dF s s&&(ar==0&&true))))))) (B false)) (ai (decide (Int.ofNat s.length<=100)) (B (true&&(r==0&&(a==0&&(n==0&&(dF s s&&(ar==0&&true))))))) (B false))) (ai (decide (Int.ofNat s.length<=100)) (B (true&&(r==0&&(a==0&&(n==0&&(dF s s&&(ar==0&&true))))))) (B false))
 |10=>ai (decide (Int.ofNat s.length<=100)) (ai (decide (ar>=1)) (ai (decide (n>=1)) (ai (decide (n<=8)) (B (true&&(r==0&&(a==0&&(n==n&&(dF s []&&(ar==0&&true))))))) (B false)) (B false)) (ai (decide (n>=1)) (ai (decide (n<=8)) (B (true&&(r==0&&(a==0&&(n==n&&(dF s []&&(ar==0&&true))))))) (B false)) (B false))) (ai (decide (n>=1)) (ai (decide (n<=8)) (B (true&&(r==0&&(a==0&&(n==n&&(dF s []&&(ar==0&&true))))))) (B false)) (B false))
 |15=>ai (decide (Int.ofNat s.length<=100)) (ai (decide (ar>=1)) (tT∧ai (df r) (ai (decide (ar<=8)) (B (true&&(r==r&&(a==0&&(n==0&&(dF s s&&(ar==ar&&true))))))) (B false)) (B false)) (tT∧ai (df r) (B false) (B false))) (tT∧ai (df r) (B false) (B false))
 |16|17=>ai (decide (Int.ofNat s.length<=100)) (ai (decide (ar>=1)) (ai (decide (n>=0)) (ai (decide (n<=4096)) (B (true&&(r==0&&(a==0&&(n==n&&(dF s []&&(ar==0&&true))))))) (B false)) (B false)) (ai (decide (n>=0)) (ai (decide (n<=4096)) (B (true&&(r==0&&(a==0&&(n==n&&(dF s []&&(ar==0&&true))))))) (B false)) (B false))) (ai (decide (n>=0)) (ai (decide (n<=4096)) (B (true&&(r==0&&(a==0&&(n==n&&(dF s []&&(ar==0&&true))))))) (B false)) (B false))
 |18|21|25=>ai (decide (Int.ofNat s.length<=100)) (ai (decide (ar>=1)) (B (true&&(r==0&&(a==0&&(n==0&&(dF s []&&(ar==0&&true))))))) (B (true&&(r==0&&(a==0&&(n==0&&(dF s []&&(ar==0&&true)))))))) (B (true&&(r==0&&(a==0&&(n==0&&(dF s []&&(ar==0&&true)))))))
 |19|20=>ai (decide (Int.ofNat s.length<=100)) (ai (decide (ar>=1)) (tT∧ai (jL (d_.mk s ar n)) (ai (r==0) (B (a==0)) (B false)) (B false)) (tT∧ai (jL (d_.mk s ar n)) (ai (r==0) (B (a==0)) (B false)) (B false))) (tT∧ai (jL (d_.mk s ar n)) (ai (r==0) (B (a==0)) (B false)) (B false))
theorem aqM(r a n:Int)(s:LN)(ar:Int)(L:LT)(Q:QT):∀k:Nat,
 b_ Z J8 (fun _=>[1000000]) L Q 3000 123 [.aj [J (.ofNat k),J r,J a,J n,.aa s,J ar]] ax=ahA r a n s ar (fun b=>Q (.aA b) ax) k
 |0|1|2|3|4|5|6|7|8|9|10|11|12|13|14|15|16|17|18|19|20|21|22|23|24|25|m+26=>by kernel_rfl
theorem aqN(m:Nat)(r a n:Int)(s:LN)(ar:Int)(L:LT)(Q:QT):
 b_ Z J8 (fun _=>[1000000]) L Q 3000 123 [.aj [J (.negSucc m),J r,J a,J n,.aa s,J ar]] ax=(ai (decide (Int.ofNat s.length<=100)) (ai (decide (ar>=1)) (Q (.aA false) ax) (Q (.aA false) ax)) (Q (.aA false) ax)):=by kernel_rfl
theorem ahg:bn Z YD:=by
 refine jM YC fun args q v h hq=>?_
 unfold Ep at h;split at h<;>cases h;rename_i o r a n s ar;refine eS YC 3000 (fun _=>[1000000]) 231 (by kernel_rfl) ?_;cases o with
 |negSucc m=>
  rw[aqN,show ca ⟨.negSucc m,r,a,n,s,ar⟩=false from rfl];repeat' (first|(refine aY.2 ⟨fun _=>?_,fun _=>?_⟩)|(refine⟨⟨rfl,trivial⟩,?_⟩)|(refine⟨(rfl:some _=some _),?_⟩)|fail)
  all_goals exact⟨rfl,rfl⟩
 |ofNat k=>
  rw[aqM,abx];match k with
  |0=>?_|1=>?_|2=>?_|3=>?_|4=>?_|5=>?_|6=>?_|7=>?_|8=>?_|9=>?_|10=>?_|11=>?_|12=>?_|13=>?_|14=>?_|15=>?_|16=>?_|17=>?_|18=>?_|19=>?_|20=>?_|21=>?_|22=>?_|23=>?_|24=>?_|25=>?_|m+26=>?_
  all_goals
   repeat' (first|(refine aY.2 ⟨fun _=>?_,fun _=>?_⟩)|(refine⟨⟨rfl,trivial⟩,?_⟩)|(refine⟨(rfl:some _=some _),?_⟩)|fail)
  all_goals
   refine⟨?_,rfl⟩;first
   |rfl
   |(congr 1;(rw[Bool.eq_iff_iff];simp_all[Hr,df,dK,lA]<;>(try intros)<;>omega))
   |(congr 1;simp_all[Hr];done)
   |fail
def iW(k:Int):kc×Bool:=match nJ k with|some r=>(r,true)|none=>(wk,false)
def shX:dP (Int×kc×Bool)where
 bN w A H:=A=[J w.1]∧H=ax∧iW w.1=w.2
 v w:=.aO [.aj [.aa w.2.1.2.1,.aa w.2.1.2.2.1,.aa w.2.1.2.2.2.1,.aa w.2.1.2.2.2.2],.aA w.2.2]
 aU w:=ax
def agf:dP (Int×kc×Bool)where
 bN w A H:=A=[J w.1]∧H=ax∧iW w.1=w.2
 v w:=.aO [.aj [J w.2.1.1,.aa w.2.1.2.1,.aa w.2.1.2.2.1,.aa w.2.1.2.2.2.1,.aa w.2.1.2.2.2.2],.aA w.2.2]
 aU w:=ax
theorem agh{w w':Int×kc×Bool}{A:LV}(h1:A=[J w.1])(h2:iW w.1=w.2)(h3:A=[J w'.1])(h4:iW w'.1=w'.2):w=w':=by rw[h1]at h3;simp only[List.cons.injEq,AV.cM.injEq,true_and,and_true]at h3;obtain⟨a,b⟩:=w;obtain⟨a',b'⟩:=w';simp only at h3 h2 h4;subst h3;rw[←h2,←h4]
theorem auZ:shX.dT:=by rintro w w' A H ⟨h1,_,h2⟩ ⟨h3,_,h4⟩;rw[agh h1 h2 h3 h4]
theorem auY:agf.dT:=by rintro w w' A H ⟨h1,_,h2⟩ ⟨h3,_,h4⟩;rw[agh h1 h2 h3 h4]
def E1:Ev.bC:=cB 137 (cO shX auZ cV) YD
def E2:Ev.bC:=cB 78 (cO agf auY cV) E1
def E3:Ev.bC:=ft 43 (fy Ep) E2
def mq(i:ba)(p:Bool×ba)(b:Nat):Bool×ba:=
 if b=114 then(p.1&&df i.r,⟨p.2.op,0,p.2.a,p.2.n,p.2.cR,p.2.ar⟩)
 else if b=97 then(p.1&&dK i.a,⟨p.2.op,p.2.r,0,p.2.n,p.2.cR,p.2.ar⟩)
 else if b=110 then(p.1,⟨p.2.op,p.2.r,p.2.a,0,p.2.cR,p.2.ar⟩)
 else if b=118 then(p.1&&decide (1<=i.n∧i.n<=8),⟨p.2.op,p.2.r,p.2.a,0,p.2.cR,p.2.ar⟩)
 else if b=99 then(p.1&&decide (0<=i.n∧i.n<=4096),⟨p.2.op,p.2.r,p.2.a,0,p.2.cR,p.2.ar⟩)
 else if b=115 then(p.1&&decide ((i.cR.length:Int)<=100),⟨p.2.op,p.2.r,p.2.a,p.2.n,[],p.2.ar⟩)
 else if b=102 then(p.1&&(decide ((i.cR.length:Int)<=100)&&decide (1<=i.ar∧i.ar<=8)),⟨p.2.op,p.2.r,p.2.a,p.2.n,[],0⟩)
 else if b=112 then(p.1&&Ir i,⟨p.2.op,p.2.r,p.2.a,0,[],0⟩)
 else p
def fk(i:ba):Bool:=match nJ i.op with
 |none=>false
 |some r=>((r.2.2.1.foldl (mq i) (true,⟨0,i.r,i.a,i.n,i.cR,i.ar⟩)).1&&decide ((r.2.2.1.foldl (mq i) (true,⟨0,i.r,i.a,i.n,i.cR,i.ar⟩)).2=⟨0,0,0,0,[],0⟩))
def S_(i:ba)(w:kc)(p:ba):AH:=aq [(0,.ay [J i.op,J i.r,J i.a,J i.n,.aa i.cR,J i.ar] 50),(1,.ay [J w.1,.aa w.2.1,.aa w.2.2.1,.aa w.2.2.2.1,.aa w.2.2.2.2] 132),(2,.ay [J p.op,J p.r,J p.a,J p.n,.aa p.cR,J p.ar] 50)] 3
abbrev oi x0 x1:=bk [(1,.ad 0 0),(3,.ad 1 0),(4,.aA x0),(5,.ad 2 0),(6,J x1)]
theorem asP(o r a n:Int)(s:LN)(ar:Int)(L:LT)(Q:QT):
 b_ Z E2 (fun _=>[1,3,4,5,6]) L Q 1000 43 [.aj [J o,J r,J a,J n,.aa s,J ar]] ax=(
 ∃w:Int×kc×Bool,(([J o]:LV)=[J w.1]∧aq [] 0=ax∧iW w.1=w.2)∧ai (!w.2.2) (Q (.aA false) ax) (L (oi w.2.2 0) (aq [(0,.ay [J o,J r,J a,J n,.aa s,J ar] 50),(1,.ay [J w.2.1.1,.aa w.2.1.2.1,.aa w.2.1.2.2.1,.aa w.2.1.2.2.2.1,.aa w.2.1.2.2.2.2] 132),(2,.ay [J 0,J r,J a,J n,.aa s,J ar] 50)] 3) (ao Z 43 0))):=by kernel_rfl
theorem asQ(i:ba)(w:kc)(p:ba)(ok:Bool)(k:Int)(L:LT)(Q:QT):
 cT Z E2 (fun _=>[1,3,4,5,6]) L Q 1000 43 0 (oi ok k) (ao Z 43 0) (S_ i w p)=(
 ai (decide (k<Int.ofNat w.2.2.1.length)) (∃aI:Nat,k=(aI:Int)∧(∃b:Nat,w.2.2.1[aI]?=some b∧ai (Int.ofNat b==114) (ai ok ((aq [] 0=ax∧True)∧L (oi (df i.r) (wI (k+1))) (aq [(0,.ay (bP i) 50),(1,.ay [J w.1,.aa w.2.1,.aa w.2.2.1,.aa w.2.2.2.1,.aa w.2.2.2.2] 132),(2,.ay [J p.op,J 0,J p.a,J p.n,.aa p.cR,J p.ar] 50)] 3) (ao Z 43 0)) (L (oi false (wI (k+1))) (aq [(0,.ay (bP i) 50),(1,.ay [J w.1,.aa w.2.1,.aa w.2.2.1,.aa w.2.2.2.1,.aa w.2.2.2.2] 132),(2,.ay [J p.op,J 0,J p.a,J p.n,.aa p.cR,J p.ar] 50)] 3) (ao Z 43 0))) (ai (Int.ofNat b==97) (ai ok ((aq [] 0=ax∧True)∧L (oi (decide ((1:Int)<=i.a∧i.a<=4096)) (wI (k+1))) (aq [(0,.ay (bP i) 50),(1,.ay [J w.1,.aa w.2.1,.aa w.2.2.1,.aa w.2.2.2.1,.aa w.2.2.2.2] 132),(2,.ay [J p.op,J p.r,J 0,J p.n,.aa p.cR,J p.ar] 50)] 3) (ao Z 43 0)) (L (oi false (wI (k+1))) (aq [(0,.ay (bP i) 50),(1,.ay [J w.1,.aa w.2.1,.aa w.2.2.1,.aa w.2.2.2.1,.aa w.2.2.2.2] 132),(2,.ay [J p.op,J p.r,J 0,J p.n,.aa p.cR,J p.ar] 50)] 3) (ao Z 43 0))) (ai (Int.ofNat b==110) (L (oi ok (wI (k+1))) (aq [(0,.ay (bP i) 50),(1,.ay [J w.1,.aa w.2.1,.aa w.2.2.1,.aa w.2.2.2.1,.aa w.2.2.2.2] 132),(2,.ay [J p.op,J p.r,J p.a,J 0,.aa p.cR,J p.ar] 50)] 3) (ao Z 43 0)) (ai (Int.ofNat b==118) (ai ok ((aq [] 0=ax∧True)∧L (oi (decide ((1:Int)<=i.n∧i.n<=8)) (wI (k+1))) (aq [(0,.ay (bP i) 50),(1,.ay [J w.1,.aa w.2.1,.aa w.2.2.1,.aa w.2.2.2.1,.aa w.2.2.2.2] 132),(2,.ay [J p.op,J p.r,J p.a,J 0,.aa p.cR,J p.ar] 50)] 3) (ao Z 43 0)) (L (oi false (wI (k+1))) (aq [(0,.ay (bP i) 50),(1,.ay [J w.1,.aa w.2.1,.aa w.2.2.1,.aa w.2.2.2.1,.aa w.2.2.2.2] 132),(2,.ay [J p.op,J p.r,J p.a,J 0,.aa p.cR,J p.ar] 50)] 3) (ao Z 43 0))) (ai (Int.ofNat b==99) (ai ok ((aq [] 0=ax∧True)∧L (oi (decide ((0:Int)<=i.n∧i.n<=4096)) (wI (k+1))) (aq [(0,.ay (bP i) 50),(1,.ay [J w.1,.aa w.2.1,.aa w.2.2.1,.aa w.2.2.2.1,.aa w.2.2.2.2] 132),(2,.ay [J p.op,J p.r,J p.a,J 0,.aa p.cR,J p.ar] 50)] 3) (ao Z 43 0)) (L (oi false (wI (k+1))) (aq [(0,.ay (bP i) 50),(1,.ay [J w.1,.aa w.2.1,.aa w.2.2.1,.aa w.2.2.2.1,.aa w.2.2.2.2] 132),(2,.ay [J p.op,J p.r,J p.a,J 0,.aa p.cR,J p.ar] 50)] 3) (ao Z 43 0))) (ai (Int.ofNat b==115) (ai ok ((aq [] 0=ax∧True)∧L (oi (decide (((i.cR.length:Nat):Int)<=100)) (wI (k+1))) (aq [(0,.ay (bP i) 50),(1,.ay [J w.1,.aa w.2.1,.aa w.2.2.1,.aa w.2.2.2.1,.aa w.2.2.2.2] 132),(2,.ay [J p.op,J p.r,J p.a,J p.n,.aa [],J p.ar] 50)] 3) (ao Z 43 0)) (L (oi false (wI (k+1))) (aq [(0,.ay (bP i) 50),(1,.ay [J w.1,.aa w.2.1,.aa w.2.2.1,.aa w.2.2.2.1,.aa w.2.2.2.2] 132),(2,.ay [J p.op,J p.r,J p.a,J p.n,.aa [],J p.ar] 50)] 3) (ao Z 43 0))) (ai (Int.ofNat b==102) (ai ok ((aq [] 0=ax∧True)∧ai (decide (((i.cR.length:Nat):Int)<=100)) ((aq [] 0=ax∧True)∧L (oi (decide ((1:Int)<=i.ar∧i.ar<=8)) (wI (k+1))) (aq [(0,.ay (bP i) 50),(1,.ay [J w.1,.aa w.2.1,.aa w.2.2.1,.aa w.2.2.2.1,.aa w.2.2.2.2] 132),(2,.ay [J p.op,J p.r,J p.a,J p.n,.aa [],J 0] 50)] 3) (ao Z 43 0)) (L (oi false (wI (k+1))) (aq [(0,.ay (bP i) 50),(1,.ay [J w.1,.aa w.2.1,.aa w.2.2.1,.aa w.2.2.2.1,.aa w.2.2.2.2] 132),(2,.ay [J p.op,J p.r,J p.a,J p.n,.aa [],J 0] 50)] 3) (ao Z 43 0))) (L (oi false (wI (k+1))) (aq [(0,.ay (bP i) 50),(1,.ay [J w.1,.aa w.2.1,.aa w.2.2.1,.aa w.2.2.2.1,.aa w.2.2.2.2] 132),(2,.ay [J p.op,J p.r,J p.a,J p.n,.aa [],J 0] 50)] 3) (ao Z 43 0))) (ai (Int.ofNat b==112) (ai ok ((aq [] 0=ax∧True)∧L (oi (jL (d_.mk i.cR i.ar i.n)) (wI (k+1))) (aq [(0,.ay (bP i) 50),(1,.ay [J w.1,.aa w.2.1,.aa w.2.2.1,.aa w.2.2.2.1,.aa w.2.2.2.2] 132),(2,.ay [J p.op,J p.r,J p.a,J 0,.aa [],J 0] 50)] 3) (ao Z 43 0)) (L (oi false (wI (k+1))) (aq [(0,.ay (bP i) 50),(1,.ay [J w.1,.aa w.2.1,.aa w.2.2.1,.aa w.2.2.2.1,.aa w.2.2.2.2] 132),(2,.ay [J p.op,J p.r,J p.a,J 0,.aa [],J 0] 50)] 3) (ao Z 43 0))) (L (oi ok (wI (k+1))) (S_ i w p) (ao Z 43 0))))))))))) (ai ok (Q (.aA (p.op==0&&(p.r==0&&(p.a==0&&(p.n==0&&(dF p.cR []&&(p.ar==0&&true))))))) ax) (Q (.aA false) ax))):=by kernel_rfl
theorem ahh:bn Z E1:=by
 refine dc ahg ?_;rintro⟨k,w,b⟩ args H ⟨rfl,rfl,h⟩;refine P5.1 137 _ ax (ax=ax∧True) _ ax (by decide) (DD ?_) ⟨rfl,trivial⟩;have h:(match nJ k with|some r=>(r,true)|none=>(wk,false))=(w,b):=h;have e:Oa [J k]=some (True,.aO [.aj (Eb w),.aA b]):=by
  show some (True,(match nJ k with|some r=>AV.aO [.aj (Eb r),.aA true]|none=>AV.aO [.aj (Eb wk),.aA false]))=_;cases hs:nJ k with
  |none=>rw[hs]at h;cases h;rfl
  |some r=>rw[hs]at h;cases h;rfl
 show fy Oa [J k] ax=_;unfold fy;rw[e];rfl
theorem P8:bn Z E2:=by
 refine dc ahh ?_;rintro⟨k,w,b⟩ args H ⟨rfl,rfl,h⟩;refine P4.1 78 _ ax (ax=ax∧True) _ ax (by decide) (DD ?_) ⟨rfl,trivial⟩;have h:(match nJ k with|some r=>(r,true)|none=>(wk,false))=(w,b):=h;have e:N' [J k]=some (True,.aO [.aj (yf w),.aA b]):=by
  show some (True,(match nJ k with|some r=>AV.aO [.aj (yf r),.aA true]|none=>AV.aO [.aj (yf wk),.aA false]))=_;cases hs:nJ k with
  |none=>rw[hs]at h;cases h;rfl
  |some r=>rw[hs]at h;cases h;rfl
 show fy N' [J k] ax=_;unfold fy;rw[e];rfl
theorem asO{i:ba}{so:Int}{sn fs sr sw:LN}{aw:Bool×ba}(hl:fs.length<1000):
 ∀q:Nat×Bool×ba,(q.1<=fs.length∧(fs.drop q.1).foldl (mq i) (q.2.1,q.2.2)=aw)->
 bF Z 43 113 0 (.aA (aw.1&&decide (aw.2=⟨0,0,0,0,[],0⟩))) ax (oi q.2.1 (q.1:Int)) (S_ i (so,sn,fs,sr,sw) q.2.2) (ao Z 43 0):=by
 refine cX (fun q=>fs.length-q.1) _ _ _ _ ?_;rintro⟨k,ok,p⟩ ⟨hk,hf⟩ ih;simp only at hk hf ih⊢;refine hD P8 1000 (fun _=>[1,3,4,5,6]) (by kernel_rfl) ?_;rw[asQ];refine aY.2 ⟨fun an=>?_,fun a8=>?_⟩
 ·have an:k<fs.length:=by simpa using an
  rw[dv an,ik]at hf;have e:wI ((k:Int)+1)=((k+1:Nat):Int):=by rw[dz (by omega) (by omega)];simp
  refine⟨k,rfl,fs[k],jN an,?_⟩;rw[e];have next:=fun ok' p' (h:(fs.drop (k+1)).foldl (mq i) (ok',p')=aw)=>ih (k+1,ok',p') ⟨by simp;omega,h⟩ (by simp;omega)
  simp only at next
  refine aY.2 ⟨fun hb=>?_,fun TA=>?_⟩
  ·have hb:fs[k]=114:=by simp at hb;omega
   rw[hb]at hf;refine aY.2 ⟨fun h1=>?_,fun h1=>?_⟩
   ·subst h1;exact⟨⟨rfl,trivial⟩,next (df i.r) ⟨p.op,0,p.a,p.n,p.cR,p.ar⟩ (by simpa[mq]using hf)⟩
   ·subst h1;exact next false ⟨p.op,0,p.a,p.n,p.cR,p.ar⟩ (by simpa[mq]using hf)
  have TA:fs[k]≠114:=by intro h;simp[h]at TA
  refine aY.2 ⟨fun hb=>?_,fun TD=>?_⟩
  ·have hb:fs[k]=97:=by simp at hb;omega
   rw[hb]at hf;refine aY.2 ⟨fun h1=>?_,fun h1=>?_⟩
   ·subst h1;exact⟨⟨rfl,trivial⟩,next (dK i.a) ⟨p.op,p.r,0,p.n,p.cR,p.ar⟩ (by simpa[mq]using hf)⟩
   ·subst h1;exact next false ⟨p.op,p.r,0,p.n,p.cR,p.ar⟩ (by simpa[mq]using hf)
  have TD:fs[k]≠97:=by intro h;simp[h]at TD
  refine aY.2 ⟨fun hb=>?_,fun Ty=>?_⟩
  ·have hb:fs[k]=110:=by simp at hb;omega
   rw[hb]at hf;exact next ok ⟨p.op,p.r,p.a,0,p.cR,p.ar⟩ (by simpa[mq]using hf)
  have Ty:fs[k]≠110:=by intro h;simp[h]at Ty
  refine aY.2 ⟨fun hb=>?_,fun TC=>?_⟩
  ·have hb:fs[k]=118:=by simp at hb;omega
   rw[hb]at hf;refine aY.2 ⟨fun h1=>?_,fun h1=>?_⟩
   ·subst h1;exact⟨⟨rfl,trivial⟩,next (decide (1<=i.n∧i.n<=8)) ⟨p.op,p.r,p.a,0,p.cR,p.ar⟩ (by simpa[mq]using hf)⟩
   ·subst h1;exact next false ⟨p.op,p.r,p.a,0,p.cR,p.ar⟩ (by simpa[mq]using hf)
  have TC:fs[k]≠118:=by intro h;simp[h]at TC
  refine aY.2 ⟨fun hb=>?_,fun TE=>?_⟩
  ·have hb:fs[k]=99:=by simp at hb;omega
   rw[hb]at hf;refine aY.2 ⟨fun h1=>?_,fun h1=>?_⟩
   ·subst h1;exact⟨⟨rfl,trivial⟩,next (decide (0<=i.n∧i.n<=4096)) ⟨p.op,p.r,p.a,0,p.cR,p.ar⟩ (by simpa[mq]using hf)⟩
   ·subst h1;exact next false ⟨p.op,p.r,p.a,0,p.cR,p.ar⟩ (by simpa[mq]using hf)
  have TE:fs[k]≠99:=by intro h;simp[h]at TE
  refine aY.2 ⟨fun hb=>?_,fun TB=>?_⟩
  ·have hb:fs[k]=115:=by simp at hb;omega
   rw[hb]at hf;refine aY.2 ⟨fun h1=>?_,fun h1=>?_⟩
   ·subst h1;exact⟨⟨rfl,trivial⟩,next (decide ((i.cR.length:Int)<=100)) ⟨p.op,p.r,p.a,p.n,[],p.ar⟩ (by simpa[mq]using hf)⟩
   ·subst h1;exact next false ⟨p.op,p.r,p.a,p.n,[],p.ar⟩ (by simpa[mq]using hf)
  have TB:fs[k]≠115:=by intro h;simp[h]at TB
  refine aY.2 ⟨fun hb=>?_,fun Tx=>?_⟩
  ·have hb:fs[k]=102:=by simp at hb;omega
   rw[hb]at hf;refine aY.2 ⟨fun h1=>?_,fun h1=>?_⟩
   ·subst h1;refine⟨⟨rfl,trivial⟩,aY.2 ⟨fun h2=>?_,fun h2=>?_⟩⟩
    ·exact⟨⟨rfl,trivial⟩,next (decide (1<=i.ar∧i.ar<=8)) ⟨p.op,p.r,p.a,p.n,[],0⟩ (by simpa[mq,h2]using hf)⟩
    ·exact next false ⟨p.op,p.r,p.a,p.n,[],0⟩ (by simpa[mq,h2]using hf)
   ·subst h1;exact next false ⟨p.op,p.r,p.a,p.n,[],0⟩ (by simpa[mq]using hf)
  have Tx:fs[k]≠102:=by intro h;simp[h]at Tx
  refine aY.2 ⟨fun hb=>?_,fun Tz=>?_⟩
  ·have hb:fs[k]=112:=by simp at hb;omega
   rw[hb]at hf;refine aY.2 ⟨fun h1=>?_,fun h1=>?_⟩
   ·subst h1;exact⟨⟨rfl,trivial⟩,next (Ir i) ⟨p.op,p.r,p.a,0,[],0⟩ (by simpa[mq]using hf)⟩
   ·subst h1;exact next false ⟨p.op,p.r,p.a,0,[],0⟩ (by simpa[mq]using hf)
  have Tz:fs[k]≠112:=by intro h;simp[h]at Tz
  have hs:mq i (ok,p) fs[k]=(ok,p):=by simp[mq,TA,TD,Ty,TC,TE,TB,Tx,Tz]
  rw[hs]at hf;exact next ok p hf
 ·have a8:fs.length<=k:=by simpa using a8
  rw[dV a8,List.foldl_nil]at hf;subst hf;obtain⟨po,pr,pa,pn,ps,par⟩:=p;refine aY.2 ⟨fun h1=>?_,fun h1=>?_⟩
  ·subst h1;refine⟨?_,rfl⟩;congr 1;simp only[ba.mk.injEq]
   (rw[Bool.eq_iff_iff];simp_all[lA]<;>(try intros)<;>omega)
  ·subst h1;exact⟨rfl,rfl⟩
theorem ajW(r a n:Int)(s:LN)(ar:Int):fk ⟨1,r,a,n,s,ar⟩=ca ⟨1,r,a,n,s,ar⟩:=by
 rw[show ca ⟨1,r,a,n,s,ar⟩=(df r&&dK a&&decide (n=0∧s=[]∧ar=0))from rfl,show fk ⟨1,r,a,n,s,ar⟩=(((true&&df r)&&dK a)&&decide ((⟨0,0,0,n,s,ar⟩:ba)=⟨0,0,0,0,[],0⟩))from rfl];simp only[ba.mk.injEq];first
 |((rw[Bool.eq_iff_iff];simp_all[df,dK]<;>(try intros)<;>omega))
 |(simp_all;done)
 |(rw[jf,←Bool.decide_and];exact decide_eq_decide.2 ⟨fun h=>by simp_all,fun h=>by simp_all⟩)
 |fail
theorem aj7(r a n:Int)(s:LN)(ar:Int):fk ⟨2,r,a,n,s,ar⟩=ca ⟨2,r,a,n,s,ar⟩:=by
 rw[show ca ⟨2,r,a,n,s,ar⟩=(df r&&dK a&&decide (n=0∧s=[]∧ar=0))from rfl,show fk ⟨2,r,a,n,s,ar⟩=(((true&&df r)&&dK a)&&decide ((⟨0,0,0,n,s,ar⟩:ba)=⟨0,0,0,0,[],0⟩))from rfl];simp only[ba.mk.injEq];first
 |((rw[Bool.eq_iff_iff];simp_all[df,dK]<;>(try intros)<;>omega))
 |(simp_all;done)
 |(rw[jf,←Bool.decide_and];exact decide_eq_decide.2 ⟨fun h=>by simp_all,fun h=>by simp_all⟩)
 |fail
theorem ake(r a n:Int)(s:LN)(ar:Int):fk ⟨3,r,a,n,s,ar⟩=ca ⟨3,r,a,n,s,ar⟩:=by
 rw[show ca ⟨3,r,a,n,s,ar⟩=(dK a&&decide (r=0∧s=[]∧ar=0))from rfl,show fk ⟨3,r,a,n,s,ar⟩=((true&&dK a)&&decide ((⟨0,r,0,0,s,ar⟩:ba)=⟨0,0,0,0,[],0⟩))from rfl];simp only[ba.mk.injEq];first
 |((rw[Bool.eq_iff_iff];simp_all[df,dK]<;>(try intros)<;>omega))
 |(simp_all;done)
 |(rw[jf,←Bool.decide_and];exact decide_eq_decide.2 ⟨fun h=>by simp_all,fun h=>by simp_all⟩)
 |fail
theorem akf(r a n:Int)(s:LN)(ar:Int):fk ⟨4,r,a,n,s,ar⟩=ca ⟨4,r,a,n,s,ar⟩:=by
 rw[show ca ⟨4,r,a,n,s,ar⟩=(dK a&&decide ((s.length:Int)<=100∧r=0∧n=0∧ar=0))from rfl,show fk ⟨4,r,a,n,s,ar⟩=(((true&&dK a)&&decide ((s.length:Int)<=100))&&decide ((⟨0,r,0,n,[],ar⟩:ba)=⟨0,0,0,0,[],0⟩))from rfl];simp only[ba.mk.injEq];first
 |((rw[Bool.eq_iff_iff];simp_all[df,dK]<;>(try intros)<;>omega))
 |(simp_all;done)
 |(rw[jf,←Bool.decide_and];exact decide_eq_decide.2 ⟨fun h=>by simp_all,fun h=>by simp_all⟩)
 |fail
theorem akg(r a n:Int)(s:LN)(ar:Int):fk ⟨5,r,a,n,s,ar⟩=ca ⟨5,r,a,n,s,ar⟩:=by
 rw[show ca ⟨5,r,a,n,s,ar⟩=(dK a&&(decide ((s.length:Int)<=100∧1<=ar∧ar<=8))&&decide (r=0∧n=0))from rfl,show fk ⟨5,r,a,n,s,ar⟩=(((true&&dK a)&&(decide ((s.length:Int)<=100)&&decide (1<=ar∧ar<=8)))&&decide ((⟨0,r,0,n,[],0⟩:ba)=⟨0,0,0,0,[],0⟩))from rfl];simp only[ba.mk.injEq];first
 |((rw[Bool.eq_iff_iff];simp_all[df,dK]<;>(try intros)<;>omega))
 |(simp_all;done)
 |(rw[jf,←Bool.decide_and];exact decide_eq_decide.2 ⟨fun h=>by simp_all,fun h=>by simp_all⟩)
 |fail
theorem akh(r a n:Int)(s:LN)(ar:Int):fk ⟨6,r,a,n,s,ar⟩=ca ⟨6,r,a,n,s,ar⟩:=by
 rw[show ca ⟨6,r,a,n,s,ar⟩=(df r&&decide (a=0∧n=0∧s=[]∧ar=0))from rfl,show fk ⟨6,r,a,n,s,ar⟩=((true&&df r)&&decide ((⟨0,0,a,n,s,ar⟩:ba)=⟨0,0,0,0,[],0⟩))from rfl];simp only[ba.mk.injEq];first
 |((rw[Bool.eq_iff_iff];simp_all[df,dK]<;>(try intros)<;>omega))
 |(simp_all;done)
 |(rw[jf,←Bool.decide_and];exact decide_eq_decide.2 ⟨fun h=>by simp_all,fun h=>by simp_all⟩)
 |fail
theorem aki(r a n:Int)(s:LN)(ar:Int):fk ⟨7,r,a,n,s,ar⟩=ca ⟨7,r,a,n,s,ar⟩:=by
 rw[show ca ⟨7,r,a,n,s,ar⟩=(df r&&decide (a=0∧n=0∧s=[]∧ar=0))from rfl,show fk ⟨7,r,a,n,s,ar⟩=((true&&df r)&&decide ((⟨0,0,a,n,s,ar⟩:ba)=⟨0,0,0,0,[],0⟩))from rfl];simp only[ba.mk.injEq];first
 |((rw[Bool.eq_iff_iff];simp_all[df,dK]<;>(try intros)<;>omega))
 |(simp_all;done)
 |(rw[jf,←Bool.decide_and];exact decide_eq_decide.2 ⟨fun h=>by simp_all,fun h=>by simp_all⟩)
 |fail
theorem akj(r a n:Int)(s:LN)(ar:Int):fk ⟨8,r,a,n,s,ar⟩=ca ⟨8,r,a,n,s,ar⟩:=by
 rw[show ca ⟨8,r,a,n,s,ar⟩=(decide (r=0∧a=0∧s=[]∧ar=0))from rfl,show fk ⟨8,r,a,n,s,ar⟩=(true&&decide ((⟨0,r,a,0,s,ar⟩:ba)=⟨0,0,0,0,[],0⟩))from rfl];simp only[ba.mk.injEq];first
 |((rw[Bool.eq_iff_iff];simp_all[df,dK]<;>(try intros)<;>omega))
 |(simp_all;done)
 |(rw[jf,←Bool.decide_and];exact decide_eq_decide.2 ⟨fun h=>by simp_all,fun h=>by simp_all⟩)
 |fail
theorem akk(r a n:Int)(s:LN)(ar:Int):fk ⟨9,r,a,n,s,ar⟩=ca ⟨9,r,a,n,s,ar⟩:=by
 rw[show ca ⟨9,r,a,n,s,ar⟩=(decide ((s.length:Int)<=100∧r=0∧a=0∧n=0∧ar=0))from rfl,show fk ⟨9,r,a,n,s,ar⟩=((true&&decide ((s.length:Int)<=100))&&decide ((⟨0,r,a,n,[],ar⟩:ba)=⟨0,0,0,0,[],0⟩))from rfl];simp only[ba.mk.injEq];first
 |((rw[Bool.eq_iff_iff];simp_all[df,dK]<;>(try intros)<;>omega))
 |(simp_all;done)
 |(rw[jf,←Bool.decide_and];exact decide_eq_decide.2 ⟨fun h=>by simp_all,fun h=>by simp_all⟩)
 |fail
theorem ajX(r a n:Int)(s:LN)(ar:Int):fk ⟨10,r,a,n,s,ar⟩=ca ⟨10,r,a,n,s,ar⟩:=by
 rw[show ca ⟨10,r,a,n,s,ar⟩=(decide (1<=n∧n<=8∧r=0∧a=0∧s=[]∧ar=0))from rfl,show fk ⟨10,r,a,n,s,ar⟩=((true&&decide (1<=n∧n<=8))&&decide ((⟨0,r,a,0,s,ar⟩:ba)=⟨0,0,0,0,[],0⟩))from rfl];simp only[ba.mk.injEq];first
 |((rw[Bool.eq_iff_iff];simp_all[df,dK]<;>(try intros)<;>omega))
 |(simp_all;done)
 |(rw[jf,←Bool.decide_and];exact decide_eq_decide.2 ⟨fun h=>by simp_all,fun h=>by simp_all⟩)
 |fail
theorem ajY(r a n:Int)(s:LN)(ar:Int):fk ⟨11,r,a,n,s,ar⟩=ca ⟨11,r,a,n,s,ar⟩:=by
 rw[show ca ⟨11,r,a,n,s,ar⟩=(df r&&dK a&&decide (n=0∧s=[]∧ar=0))from rfl,show fk ⟨11,r,a,n,s,ar⟩=(((true&&df r)&&dK a)&&decide ((⟨0,0,0,n,s,ar⟩:ba)=⟨0,0,0,0,[],0⟩))from rfl];simp only[ba.mk.injEq];first
 |((rw[Bool.eq_iff_iff];simp_all[df,dK]<;>(try intros)<;>omega))
 |(simp_all;done)
 |(rw[jf,←Bool.decide_and];exact decide_eq_decide.2 ⟨fun h=>by simp_all,fun h=>by simp_all⟩)
 |fail
theorem ajZ(r a n:Int)(s:LN)(ar:Int):fk ⟨12,r,a,n,s,ar⟩=ca ⟨12,r,a,n,s,ar⟩:=by
 rw[show ca ⟨12,r,a,n,s,ar⟩=(df r&&dK a&&decide (n=0∧s=[]∧ar=0))from rfl,show fk ⟨12,r,a,n,s,ar⟩=(((true&&df r)&&dK a)&&decide ((⟨0,0,0,n,s,ar⟩:ba)=⟨0,0,0,0,[],0⟩))from rfl];simp only[ba.mk.injEq];first
 |((rw[Bool.eq_iff_iff];simp_all[df,dK]<;>(try intros)<;>omega))
 |(simp_all;done)
 |(rw[jf,←Bool.decide_and];exact decide_eq_decide.2 ⟨fun h=>by simp_all,fun h=>by simp_all⟩)
 |fail
theorem aj0(r a n:Int)(s:LN)(ar:Int):fk ⟨13,r,a,n,s,ar⟩=ca ⟨13,r,a,n,s,ar⟩:=by
 rw[show ca ⟨13,r,a,n,s,ar⟩=(dK a&&decide (r=0∧s=[]∧ar=0))from rfl,show fk ⟨13,r,a,n,s,ar⟩=((true&&dK a)&&decide ((⟨0,r,0,0,s,ar⟩:ba)=⟨0,0,0,0,[],0⟩))from rfl];simp only[ba.mk.injEq];first
 |((rw[Bool.eq_iff_iff];simp_all[df,dK]<;>(try intros)<;>omega))
 |(simp_all;done)
 |(rw[jf,←Bool.decide_and];exact decide_eq_decide.2 ⟨fun h=>by simp_all,fun h=>by simp_all⟩)
 |fail
theorem aj1(r a n:Int)(s:LN)(ar:Int):fk ⟨14,r,a,n,s,ar⟩=ca ⟨14,r,a,n,s,ar⟩:=by
 rw[show ca ⟨14,r,a,n,s,ar⟩=(dK a&&decide ((s.length:Int)<=100∧r=0∧n=0∧ar=0))from rfl,show fk ⟨14,r,a,n,s,ar⟩=(((true&&dK a)&&decide ((s.length:Int)<=100))&&decide ((⟨0,r,0,n,[],ar⟩:ba)=⟨0,0,0,0,[],0⟩))from rfl];simp only[ba.mk.injEq];first
 |((rw[Bool.eq_iff_iff];simp_all[df,dK]<;>(try intros)<;>omega))
 |(simp_all;done)
 |(rw[jf,←Bool.decide_and];exact decide_eq_decide.2 ⟨fun h=>by simp_all,fun h=>by simp_all⟩)
 |fail
theorem aj2(r a n:Int)(s:LN)(ar:Int):fk ⟨15,r,a,n,s,ar⟩=ca ⟨15,r,a,n,s,ar⟩:=by
 rw[show ca ⟨15,r,a,n,s,ar⟩=(df r&&(decide ((s.length:Int)<=100∧1<=ar∧ar<=8))&&decide (a=0∧n=0))from rfl,show fk ⟨15,r,a,n,s,ar⟩=(((true&&df r)&&(decide ((s.length:Int)<=100)&&decide (1<=ar∧ar<=8)))&&decide ((⟨0,0,a,n,[],0⟩:ba)=⟨0,0,0,0,[],0⟩))from rfl];simp only[ba.mk.injEq];first
 |((rw[Bool.eq_iff_iff];simp_all[df,dK]<;>(try intros)<;>omega))
 |(simp_all;done)
 |(rw[jf,←Bool.decide_and];exact decide_eq_decide.2 ⟨fun h=>by simp_all,fun h=>by simp_all⟩)
 |fail
theorem aj3(r a n:Int)(s:LN)(ar:Int):fk ⟨16,r,a,n,s,ar⟩=ca ⟨16,r,a,n,s,ar⟩:=by
 rw[show ca ⟨16,r,a,n,s,ar⟩=(decide (0<=n∧n<=4096∧r=0∧a=0∧s=[]∧ar=0))from rfl,show fk ⟨16,r,a,n,s,ar⟩=((true&&decide (0<=n∧n<=4096))&&decide ((⟨0,r,a,0,s,ar⟩:ba)=⟨0,0,0,0,[],0⟩))from rfl];simp only[ba.mk.injEq];first
 |((rw[Bool.eq_iff_iff];simp_all[df,dK]<;>(try intros)<;>omega))
 |(simp_all;done)
 |(rw[jf,←Bool.decide_and];exact decide_eq_decide.2 ⟨fun h=>by simp_all,fun h=>by simp_all⟩)
 |fail
theorem aj4(r a n:Int)(s:LN)(ar:Int):fk ⟨17,r,a,n,s,ar⟩=ca ⟨17,r,a,n,s,ar⟩:=by
 rw[show ca ⟨17,r,a,n,s,ar⟩=(decide (0<=n∧n<=4096∧r=0∧a=0∧s=[]∧ar=0))from rfl,show fk ⟨17,r,a,n,s,ar⟩=((true&&decide (0<=n∧n<=4096))&&decide ((⟨0,r,a,0,s,ar⟩:ba)=⟨0,0,0,0,[],0⟩))from rfl];simp only[ba.mk.injEq];first
 |((rw[Bool.eq_iff_iff];simp_all[df,dK]<;>(try intros)<;>omega))
 |(simp_all;done)
 |(rw[jf,←Bool.decide_and];exact decide_eq_decide.2 ⟨fun h=>by simp_all,fun h=>by simp_all⟩)
 |fail
theorem aj5(r a n:Int)(s:LN)(ar:Int):fk ⟨18,r,a,n,s,ar⟩=ca ⟨18,r,a,n,s,ar⟩:=by
 rw[show ca ⟨18,r,a,n,s,ar⟩=(decide (r=0∧a=0∧n=0∧s=[]∧ar=0))from rfl,show fk ⟨18,r,a,n,s,ar⟩=(true&&decide ((⟨0,r,a,n,s,ar⟩:ba)=⟨0,0,0,0,[],0⟩))from rfl];simp only[ba.mk.injEq];first
 |((rw[Bool.eq_iff_iff];simp_all[df,dK]<;>(try intros)<;>omega))
 |(simp_all;done)
 |(rw[jf,←Bool.decide_and];exact decide_eq_decide.2 ⟨fun h=>by simp_all,fun h=>by simp_all⟩)
 |fail
theorem aj6(r a n:Int)(s:LN)(ar:Int):fk ⟨19,r,a,n,s,ar⟩=ca ⟨19,r,a,n,s,ar⟩:=by
 rw[show ca ⟨19,r,a,n,s,ar⟩=(jL ⟨s,ar,n⟩&&decide (r=0∧a=0))from rfl,show fk ⟨19,r,a,n,s,ar⟩=((true&&jL ⟨s,ar,n⟩)&&decide ((⟨0,r,a,0,[],0⟩:ba)=⟨0,0,0,0,[],0⟩))from rfl];simp only[ba.mk.injEq];first
 |((rw[Bool.eq_iff_iff];simp_all[df,dK]<;>(try intros)<;>omega))
 |(simp_all;done)
 |(rw[jf,←Bool.decide_and];exact decide_eq_decide.2 ⟨fun h=>by simp_all,fun h=>by simp_all⟩)
 |fail
theorem aj8(r a n:Int)(s:LN)(ar:Int):fk ⟨20,r,a,n,s,ar⟩=ca ⟨20,r,a,n,s,ar⟩:=by
 rw[show ca ⟨20,r,a,n,s,ar⟩=(jL ⟨s,ar,n⟩&&decide (r=0∧a=0))from rfl,show fk ⟨20,r,a,n,s,ar⟩=((true&&jL ⟨s,ar,n⟩)&&decide ((⟨0,r,a,0,[],0⟩:ba)=⟨0,0,0,0,[],0⟩))from rfl];simp only[ba.mk.injEq];first
 |((rw[Bool.eq_iff_iff];simp_all[df,dK]<;>(try intros)<;>omega))
 |(simp_all;done)
 |(rw[jf,←Bool.decide_and];exact decide_eq_decide.2 ⟨fun h=>by simp_all,fun h=>by simp_all⟩)
 |fail
theorem aj9(r a n:Int)(s:LN)(ar:Int):fk ⟨21,r,a,n,s,ar⟩=ca ⟨21,r,a,n,s,ar⟩:=by
 rw[show ca ⟨21,r,a,n,s,ar⟩=(decide (r=0∧a=0∧n=0∧s=[]∧ar=0))from rfl,show fk ⟨21,r,a,n,s,ar⟩=(true&&decide ((⟨0,r,a,n,s,ar⟩:ba)=⟨0,0,0,0,[],0⟩))from rfl];simp only[ba.mk.injEq];first
 |((rw[Bool.eq_iff_iff];simp_all[df,dK]<;>(try intros)<;>omega))
 |(simp_all;done)
 |(rw[jf,←Bool.decide_and];exact decide_eq_decide.2 ⟨fun h=>by simp_all,fun h=>by simp_all⟩)
 |fail
theorem aka(r a n:Int)(s:LN)(ar:Int):fk ⟨22,r,a,n,s,ar⟩=ca ⟨22,r,a,n,s,ar⟩:=by
 rw[show ca ⟨22,r,a,n,s,ar⟩=(df r&&decide (a=0∧n=0∧s=[]∧ar=0))from rfl,show fk ⟨22,r,a,n,s,ar⟩=((true&&df r)&&decide ((⟨0,0,a,n,s,ar⟩:ba)=⟨0,0,0,0,[],0⟩))from rfl];simp only[ba.mk.injEq];first
 |((rw[Bool.eq_iff_iff];simp_all[df,dK]<;>(try intros)<;>omega))
 |(simp_all;done)
 |(rw[jf,←Bool.decide_and];exact decide_eq_decide.2 ⟨fun h=>by simp_all,fun h=>by simp_all⟩)
 |fail
theorem akb(r a n:Int)(s:LN)(ar:Int):fk ⟨23,r,a,n,s,ar⟩=ca ⟨23,r,a,n,s,ar⟩:=by
 rw[show ca ⟨23,r,a,n,s,ar⟩=(df r&&decide (a=0∧n=0∧s=[]∧ar=0))from rfl,show fk ⟨23,r,a,n,s,ar⟩=((true&&df r)&&decide ((⟨0,0,a,n,s,ar⟩:ba)=⟨0,0,0,0,[],0⟩))from rfl];simp only[ba.mk.injEq];first
 |((rw[Bool.eq_iff_iff];simp_all[df,dK]<;>(try intros)<;>omega))
 |(simp_all;done)
 |(rw[jf,←Bool.decide_and];exact decide_eq_decide.2 ⟨fun h=>by simp_all,fun h=>by simp_all⟩)
 |fail
theorem akc(r a n:Int)(s:LN)(ar:Int):fk ⟨24,r,a,n,s,ar⟩=ca ⟨24,r,a,n,s,ar⟩:=by
 rw[show ca ⟨24,r,a,n,s,ar⟩=(df r&&decide (a=0∧n=0∧s=[]∧ar=0))from rfl,show fk ⟨24,r,a,n,s,ar⟩=((true&&df r)&&decide ((⟨0,0,a,n,s,ar⟩:ba)=⟨0,0,0,0,[],0⟩))from rfl];simp only[ba.mk.injEq];first
 |((rw[Bool.eq_iff_iff];simp_all[df,dK]<;>(try intros)<;>omega))
 |(simp_all;done)
 |(rw[jf,←Bool.decide_and];exact decide_eq_decide.2 ⟨fun h=>by simp_all,fun h=>by simp_all⟩)
 |fail
theorem akd(r a n:Int)(s:LN)(ar:Int):fk ⟨25,r,a,n,s,ar⟩=ca ⟨25,r,a,n,s,ar⟩:=by
 rw[show ca ⟨25,r,a,n,s,ar⟩=(decide (r=0∧a=0∧n=0∧s=[]∧ar=0))from rfl,show fk ⟨25,r,a,n,s,ar⟩=(true&&decide ((⟨0,r,a,n,s,ar⟩:ba)=⟨0,0,0,0,[],0⟩))from rfl];simp only[ba.mk.injEq];first
 |((rw[Bool.eq_iff_iff];simp_all[df,dK]<;>(try intros)<;>omega))
 |(simp_all;done)
 |(rw[jf,←Bool.decide_and];exact decide_eq_decide.2 ⟨fun h=>by simp_all,fun h=>by simp_all⟩)
 |fail
theorem aks(i:ba):fk i=ca i:=by
 obtain⟨o,r,a,n,s,ar⟩:=i;cases o with
 |ofNat k=>match k with
  |0=>rfl
  |1=>exact ajW r a n s ar
  |2=>exact aj7 r a n s ar
  |3=>exact ake r a n s ar
  |4=>exact akf r a n s ar
  |5=>exact akg r a n s ar
  |6=>exact akh r a n s ar
  |7=>exact aki r a n s ar
  |8=>exact akj r a n s ar
  |9=>exact akk r a n s ar
  |10=>exact ajX r a n s ar
  |11=>exact ajY r a n s ar
  |12=>exact ajZ r a n s ar
  |13=>exact aj0 r a n s ar
  |14=>exact aj1 r a n s ar
  |15=>exact aj2 r a n s ar
  |16=>exact aj3 r a n s ar
  |17=>exact aj4 r a n s ar
  |18=>exact aj5 r a n s ar
  |19=>exact aj6 r a n s ar
  |20=>exact aj8 r a n s ar
  |21=>exact aj9 r a n s ar
  |22=>exact aka r a n s ar
  |23=>exact akb r a n s ar
  |24=>exact akc r a n s ar
  |25=>exact akd r a n s ar
  |m+26=>rfl
 |negSucc m=>rfl
theorem apu:∀r∈oc,r.2.2.1.length<1000:=by decide
theorem ad8:∀{l:List kc} {i:Nat} {r:kc},Av l i=some r->r∈l
 |[],_,_,h=>by cases h
 |_::_,0,_,h=>by cases h;exact eP
 |_::l,i+1,_,h=>eE _ (ad8 (l:=l) h)
theorem Ob{k:Int}{r:kc}(h:nJ k=some r):r∈oc:=by
 cases k with
 |ofNat n=>
  cases n with
  |zero=>cases h
  |succ n=>exact ad8 h
 |negSucc n=>cases h
theorem Gr:bn Z E3:=by
 refine jM P8 fun args q v h hq=>?_
 unfold Ep at h;split at h<;>cases h;rename_i o r a n s ar;rw[←aks];refine eS P8 1000 (fun _=>[1,3,4,5,6]) 113 (by kernel_rfl) ?_;rw[asP];refine⟨(o,iW o),⟨rfl,rfl,rfl⟩,?_⟩;cases hs:nJ o with
 |none=>
  have e:iW o=(wk,false):=by simp[iW,hs]
  have e2:fk ⟨o,r,a,n,s,ar⟩=false:=by simp[fk,hs]
  rw[e,e2];exact aY.2 ⟨fun _=>⟨rfl,rfl⟩,fun h=>by cases h⟩
 |some w=>
  have e:iW o=(w,true):=by simp[iW,hs]
  have e2:fk ⟨o,r,a,n,s,ar⟩=((w.2.2.1.foldl (mq ⟨o,r,a,n,s,ar⟩) (true,⟨0,r,a,n,s,ar⟩)).1&&decide ((w.2.2.1.foldl (mq ⟨o,r,a,n,s,ar⟩) (true,⟨0,r,a,n,s,ar⟩)).2=⟨0,0,0,0,[],0⟩)):=by simp[fk,hs]
  rw[e,e2];obtain⟨so,sn,fs,sr,sw⟩:=w;refine aY.2 ⟨fun h=>(by cases h),fun _=>?_⟩;exact asO (i:=⟨o,r,a,n,s,ar⟩) (apu _ (Ob hs)) (0,true,⟨0,r,a,n,s,ar⟩) ⟨by simp,rfl⟩
theorem ajH{P:Program}{f:FuncId}{args ZL:LV}{H H2 H':AH}{v:AV}{R:bu->bu->Prop}(h:eC P f ZL H2 v H')(hm:pX H.bW H H2 R)(hn:H2.bW=H.bW)
 (ha:∀φ bf,R φ bf->∀l,bm φ args l->bm bf ZL l):eC P f args H v H':=by
 intro φ w bs args' cs hv hw hl;obtain⟨_,hm⟩:=hm;obtain⟨sD,k1,k2,k3⟩:=hm φ bs w (eh _) hw;obtain⟨bf,w',g1,g2,g3,g4⟩:=h sD w bs args' cs (ha _ _ k3 _ hv) k1 hl;rw[hn]at g2;exact⟨bf,w',g1,fun id dn=>(g2 id dn).trans (k2 id dn),g3,g4⟩
theorem ajG{P:Program}{f:FuncId}{args:LV}{H':AH}{v:AV}{l:LI}(h:eC P f args (cH l) v H'):eC P f args (aq [(0,.ay (aW l) 3)] 1) v H':=
 ajH h (Nk (g:=0) (n:=1) (l:=[(0,.ay (aW l) 3)]) (old:=.ay (aW l) 3) (new:=aD l 3) rfl (fun φ e o h=>zj (AG _).2 h) rfl) rfl (fun φ bf hR l hl=>by subst hR;exact hl)
theorem aot(φ:bu):fq gU φ:=fun id e h=>by cases h
theorem ahl{φ:bu}{vs:LV}{el jB:TypeId}{e:PE}{o:Obj}(h:OR φ (.aL vs el) e o):OR φ (.ay vs jB) e o:=by obtain⟨cs,mC,h1,h2,h3,h4,h5⟩:=h;exact⟨cs,mC,h1,h2,h3,bm.pW (aot φ) _ _ h4,h5⟩
theorem RV{W:Type}{g:W->Prop×AV×AH}{u:∀w w',(g w).1->(g w').1->(g w).2=(g w').2}{x:Prop×AV×AH}(h:wJ (.ex W g u)=some x):∃w,x=g w:=by
 simp only[wJ]at h;by_cases hw:∃w,(g w).1
 ·rw[dif_pos hw]at h;cases h;exact⟨_,rfl⟩
 ·rw[dif_neg hw]at h;cases h
theorem HN{l m:LI}(h:cH l=cH m):l=m:=by have:=congrArg (fun H=>AH.bD H 0) h;simp only[cH,eA]at this;exact wa (dk this)
def xo:LI->Int->Int->Int
 |[],_,_=> -1
 |x::l,a,k=>if a=x then k else xo l a (k+1)
theorem ac1:∀(l:LI) (a k:Int),0<=k->(0<=xo l a k↔a∈l)
 |[],a,k,h=>by simp[xo]
 |x::l,a,k,h=>by
  unfold xo;split
  ·rename_i hx;simp[hx,h]
  ·rename_i hx;rw[ac1 l a (k+1) (by omega)];simp[hx]
def N8(r:LI->Int->AV):LV->AH->Option Sp
 |[.bg,.cM .i64 a],H=>some (.Hd (H=ax,r [] a,ax))
 |[.ae 0 len 1,.cM .i64 a],H=>match H.bD 0 with
  |some (.ay [.cM .i64 x] _)=>some (.Hd (H=aq [(0,.ay [J x] 3)] 1∧len=1,r [x] a,aq [(0,.ay [J x] 3)] 1))
  |some (.aL _ _)=>some (.ex LI (fun l=>((H=cH l∧len=l.length∧l.length<100000),r l a,cH l)) (fun w w' h1 h2=>by rw[HN (h1.1.symm.trans h2.1)]))
  |_=>none
 |_,_=>none
def E4:Ev.bC:=cB 140 (N8 fun l a=>J (xo l a 0)) E3
def E5:Ev.bC:=cB 129 (N8 fun l a=>.aA (decide (a∈l))) E4
theorem af9{P:Program}{S:Ev.bC}{f:FuncId}{r:LI->Int->AV}(hS:bn P S)(hr:∀l a,uR 0 (r l a)=r l a)(h1:∀a,eC P f [.bg,J a] ax (r [] a) ax)
 (h3:∀l a,l.length<100000->eC P f [.ae 0 l.length 1,J a] (cH l) (r l a) (cH l)) (c6:f≠999999:=by first|assumption|decide):bn P (cB f (N8 r) S):=by
 refine Kz hS fun args H sp p v H' hs hd hp=>?_
 unfold N8 at hs;split at hs
 ·cases hs;cases hd;cases hp;exact h1 _
 ·split at hs
  ·cases hs;cases hd;obtain⟨rfl,rfl⟩:=hp;rename_i a _ x _ _;have h4:=K' (g:=0) (n:=1) (l:=[(0,aD [x] 3)]) (new:=.ay [J x] 3) (ajG (l:=[x]) (h3 [x] a (by simp))) rfl (fun φ e o h=>ahl h) rfl (eh _);rw[hr]at h4;exact h4
  ·cases hs;obtain⟨l,e⟩:=RV hd;cases e;obtain⟨rfl,rfl,h⟩:=hp;exact h3 l _ h
  ·cases hs
 ·cases hs
theorem arl(a:Int)(L:LT)(Q:QT):
 b_ Z E3 (fun _=>[0,1,7,8]) L Q 1000 140 [.bg,J a] ax=(
 L (bk [(0,.bg),(1,J a),(7,J 0),(8,J 0)]) ax (ao Z 140 0)):=by kernel_rfl
abbrev Ou x0 x1 x2:=bk [(0,.ae 0 x0 1),(1,J x1),(7,J (Int.ofNat x0)),(8,J x2)]
theorem arj(l:LI)(a:Int)(L:LT)(Q:QT):
 b_ Z E3 (fun _=>[0,1,7,8]) L Q 1000 140 [.ae 0 l.length 1,J a] (cH l)=(
 L (Ou l.length a 0) (cH l) (ao Z 140 0)):=by kernel_rfl
theorem aro(a i:Int)(L:LT)(Q:QT):
 cT Z E3 (fun _=>[0,1,7,8]) L Q 1000 140 0 (bk [(0,.bg),(1,J a),(7,J 0),(8,J i)]) (ao Z 140 0) ax=(
 ai (decide (i<0)) False (Q (J (-1)) ax)):=by kernel_rfl
theorem arn(l:LI)(a i:Int)(L:LT)(Q:QT):
 cT Z E3 (fun _=>[0,1,7,8]) L Q 1000 140 1 (Ou l.length a i) (ao Z 140 0) (cH l)=(
 ai (decide (i<Int.ofNat l.length)) (∃aI:Nat,i=(aI:Int)∧aI<l.length∧(∃n:Int,bA Z 3 (aW l) (aI*1)=some (J n:AV)∧ai (a==n) (Q (J i) (cH l)) (L (Ou l.length a (wI (i+1))) (cH l) (ao Z 140 0)))) (Q (J (-1)) (cH l))):=by kernel_rfl
theorem aqX(a:Int)(L:LT)(Q:QT):
 b_ Z E4 (fun _=>[]) L Q 1000 129 [.bg,J a] ax=(
 aq [] 0=ax∧Q (.aA false) ax):=by kernel_rfl
theorem aqW(l:LI)(a:Int)(L:LT)(Q:QT):
 b_ Z E4 (fun _=>[]) L Q 1000 129 [.ae 0 l.length 1,J a] (cH l)=(
 ∃w:LI,(cH l=cH w∧l.length=w.length∧w.length<100000)∧Q (.aA (decide (xo w a 0>=0))) (cH w)):=by kernel_rfl
theorem ark{l:LI}{a aw:Int}(hl:l.length<100000):∀i:Nat,(i<=l.length∧xo (l.drop i) a i=aw)->
 bF Z 140 19 1 (J aw) (cH l) (Ou l.length a (i:Int)) (cH l) (ao Z 140 0):=by
 refine cX (fun i=>l.length-i) _ _ _ _ ?_;rintro i ⟨hi,hf⟩ ih;refine hD Gr 1000 (fun _=>[0,1,7,8]) (by kernel_rfl) ?_;rw[arn];refine aY.2 ⟨fun an=>?_,fun a8=>?_⟩
 ·have an:i<l.length:=by simpa using an
  rw[dv an]at hf;have hg:l.getD i 0=l[i]:=by simp[List.getD,jN an]
  refine⟨i,rfl,an,l[i],by rw[ia an,hg],aY.2 ⟨fun h=>?_,fun h=>?_⟩⟩
  ·have h:a=l[i]:=by simpa using h
   rw[xo,aN h]at hf;subst hf;exact⟨rfl,rfl⟩
  ·have h:¬a=l[i]:=by simpa using h
   rw[xo,az h]at hf;have e:wI ((i:Int)+1)=((i+1:Nat):Int):=by rw[dz (by omega) (by omega)];simp
   rw[e];exact ih (i+1) ⟨by omega,by simpa using hf⟩ (by omega)
 ·have a8:l.length<=i:=by simpa using a8
  rw[dV a8]at hf;subst hf;exact⟨rfl,rfl⟩
theorem P9:bn Z E4:=by
 refine af9 Gr (fun _ _=>rfl) (fun a=>?_) (fun l a hl=>?_)
 ·refine eS Gr 1000 (fun _=>[0,1,7,8]) 19 (by kernel_rfl) ?_;rw[arl];refine hD Gr 1000 (fun _=>[0,1,7,8]) (by kernel_rfl) ?_;rw[show ax.bW=0 from rfl,aro];exact⟨rfl,rfl⟩
 ·refine eS Gr 1000 (fun _=>[0,1,7,8]) 19 (by kernel_rfl) ?_;rw[arj];exact ark hl 0 ⟨by simp,rfl⟩
theorem akw(l:LI)(a:Int):decide (xo l a 0>=0)=decide (a∈l):=by rw[decide_eq_decide];exact ac1 l a 0 (fM 0)
theorem xX:bn Z E5:=by
 refine af9 P9 (fun _ _=>rfl) (fun a=>?_) (fun l a hl=>?_)
 ·refine eS P9 1000 (fun _=>[]) 9 (by kernel_rfl) ?_;rw[aqX];exact⟨rfl,by simp,rfl⟩
 ·refine eS P9 1000 (fun _=>[]) 9 (by kernel_rfl) ?_;rw[aqW];exact⟨l,⟨rfl,rfl,hl⟩,by rw[akw],rfl⟩
def jm(n:Int):LI:=(List.range n.toNat).map fun(k:Nat)=>(k:Int)+1
def mS(i:ba)(l:LI)(b:Nat):LI:=
 if b=114 then l++[i.r]else if b=97 then(if i.a∈l then l else l++[i.a])else if b=112 then l++jm i.ar else l
def gO(i:ba)(fs:LN):LI:=if ca i then fs.foldl (mS i) []else[]
def p7(fs:LN):Prop:=fs=[]∨fs=[97]∨fs=[114]∨fs=[114,97]∨fs=[112]
def I0:dP (ba×LN)where
 bN w A H:=A=[.aj (bP w.1),.aa w.2]∧H=ax∧p7 w.2
 v w:=.ae 0 (gO w.1 w.2).length 1
 aU w:=cH (gO w.1 w.2)
theorem afk:I0.dT:=by rintro⟨i,fs⟩ ⟨i',fs'⟩ A H ⟨h1,_⟩ ⟨h2,_⟩;rw[h1]at h2;simp only[List.cons.injEq,AV.aj.injEq,AV.aa.injEq,and_true]at h2;rw[Bm h2.1,h2.2]
def E6:Ev.bC:=cB 138 (cO I0 afk cV) E5
def sh:Nat->LN:=nk [(4,[1000000]),(14,[2,4,12,39,40])]
def n6(i:ba):bc:=.ay [J i.op,J i.r,J i.a,J i.n,.aa i.cR,J i.ar] 50
def LF(i:ba)(l:LI):AH:=aq [(0,n6 i),(1,aD l 3),(2,.rB [112] 1)] 3
theorem afR(i:ba)(L:LT)(Q:QT):
 b_ Z E5 sh L Q 1000 138 [.aj (bP i),.aa []] ax=(
 (aq [] 0=ax∧True)∧ai (!ca (ba.mk i.op i.r i.a i.n i.cR i.ar)) (Q .bg ax) (Q .bg ax)):=by kernel_rfl
theorem afS(i:ba)(L:LT)(Q:QT):
 b_ Z E5 sh L Q 1000 138 [.aj (bP i),.aa [97]] ax=(
 (aq [] 0=ax∧True)∧ai (!ca (ba.mk i.op i.r i.a i.n i.cR i.ar)) (Q .bg ax) (aq [] 0=ax∧Q (.ae 0 1 1) (jR i.a))):=by kernel_rfl
theorem afU(i:ba)(L:LT)(Q:QT):
 b_ Z E5 sh L Q 1000 138 [.aj (bP i),.aa [114]] ax=(
 (aq [] 0=ax∧True)∧ai (!ca (ba.mk i.op i.r i.a i.n i.cR i.ar)) (Q .bg ax) (Q (.ae 0 1 1) (jR i.r))):=by kernel_rfl
theorem W6(i:ba)(L:LT)(Q:QT):
 b_ Z E5 sh L Q 1000 138 [.aj (bP i),.aa [114,97]] ax=(
 (aq [] 0=ax∧True)∧ai (!ca (ba.mk i.op i.r i.a i.n i.cR i.ar)) (Q .bg ax) ((jR i.r=jR i.r∧1=1)∧ai (!decide (i.a∈[i.r])) (Q (.ae 0 2 1) (aq [(0,.ay [J i.r,J i.a] 3)] 1)) (Q (.ae 0 1 1) (jR i.r)))):=by kernel_rfl
theorem afT(i:ba)(L:LT)(Q:QT):
 b_ Z E5 sh L Q 1000 138 [.aj (bP i),.aa [112]] ax=(
 (aq [] 0=ax∧True)∧ai (!ca (ba.mk i.op i.r i.a i.n i.cR i.ar)) (Q .bg ax) (L (bk [(2,.ad 0 0),(4,.bg),(12,.ad 1 0),(39,J i.ar),(40,J 0)]) (aq [(0,n6 i),(1,bc.rB [112] (0+1))] 2) (ao Z 138 1))):=by kernel_rfl
abbrev Ov x0 x1 x2:=bk [(2,.ad 0 0),(4,.ae 1 x0 1),(12,.ad 2 0),(39,J x1),(40,J x2)]
theorem arc(i:ba)(l:LI)(n k:Int)(L:LT)(Q:QT):
 cT Z E5 sh L Q 1000 138 0 (Ov l.length n k) (ao Z 138 1) (LF i l)=(
 ai (decide (k<n)) (((aW l).length=l.length*1∧l.length+1<=65536∧true=true∧true=true)∧L (Ov (l.length+1) n (wI (k+1))) (aq [(0,n6 i),(1,.aL (aW l++[J (wI (k+1))]) 3),(2,bc.rB [112] 1)] 3) (ao Z 138 1)) (Q (.ae 0 l.length 1) (cH l))):=by kernel_rfl
theorem acZ{n:Int}{k:Nat}(h:k=n.toNat):jm (n+1)=jm n++[(k:Int)+1]∨n<0:=by
 rcases Int.lt_or_le n 0 with h1|h1
 ·exact .inr h1
 ·refine .inl ?_;unfold jm;have:(n+1).toNat=n.toNat+1:=by omega
  rw[this,List.range_succ,List.map_append,h];rfl
theorem MN(n:Int):(jm n).length=n.toNat:=by simp[jm]
theorem Ra{i:ba}(h:ca i=true):0<=i.ar∧i.ar<=4096:=by
 unfold ca at h;by_cases h0:i.op=1∨i.op=2∨i.op=11∨i.op=12
 ·rw[aN h0]at h;simp only[cy,iK]at h;omega
 rw[az h0]at h;by_cases h1:i.op=3∨i.op=13
 ·rw[aN h1]at h;simp only[cy,iK]at h;omega
 rw[az h1]at h;by_cases h2:i.op=4∨i.op=14
 ·rw[aN h2]at h;simp only[cy,iK]at h;omega
 rw[az h2]at h;by_cases h3:i.op=5
 ·rw[aN h3]at h;simp only[cy,F0,iK]at h;omega
 rw[az h3]at h;by_cases h4:i.op=15
 ·rw[aN h4]at h;simp only[cy,F0,iK]at h;omega
 rw[az h4]at h;by_cases h5:i.op=6∨i.op=7∨i.op=22∨i.op=23∨i.op=24
 ·rw[aN h5]at h;simp only[cy,iK]at h;omega
 rw[az h5]at h;by_cases h6:i.op=8
 ·rw[aN h6]at h;simp only[cy,iK]at h;omega
 rw[az h6]at h;by_cases h7:i.op=9
 ·rw[aN h7]at h;simp only[cy,iK]at h;omega
 rw[az h7]at h;by_cases h8:i.op=10
 ·rw[aN h8]at h;simp only[cy,iK]at h;omega
 rw[az h8]at h;by_cases h9:i.op=16∨i.op=17
 ·rw[aN h9]at h;simp only[cy,iK]at h;omega
 rw[az h9]at h;by_cases Bu:i.op=19∨i.op=20
 ·rw[aN Bu]at h;simp only[cy,Ir,jL]at h;obtain⟨h,_⟩:=h;by_cases hn:i.n=0
  ·rw[aN hn]at h;simp only[iK]at h;omega
  ·rw[az hn]at h;simp only[iK]at h;omega
 rw[az Bu]at h;by_cases h11:i.op=18∨i.op=21∨i.op=25
 ·rw[aN h11]at h;simp only[cy,iK]at h;omega
 rw[az h11]at h;cases h
theorem So{P:Program}{f:FuncId}{args:LV}(h:eC P f args ax .bg ax):eC P f args ax (.ae 0 0 1) (cH []):=
 ajE (n:=0) (l:=[]) (t:=3) h rfl (eh _)
theorem K9{P:Program}{f:FuncId}{args:LV}{l:LI}{n:Nat}(h:eC P f args ax (.ae 0 n 1) (aq [(0,.ay (aW l) 3)] 1)):eC P f args ax (.ae 0 n 1) (cH l):=
 K' (g:=0) (n:=1) (l:=[(0,.ay (aW l) 3)]) (new:=aD l 3) (v:=.ae 0 n 1) h rfl (fun φ e o h=>zj (AG _).2 h) rfl (by show(0:Nat)<=1;omega)
theorem ard{i:ba}(h0:0<=i.ar)(h1:i.ar<=4096):∀k:Nat,((k:Int)<=i.ar)->
 bF Z 138 50 0 (.ae 0 (jm i.ar).length 1) (cH (jm i.ar)) (Ov (jm k).length i.ar (k:Int)) (LF i (jm k)) (ao Z 138 1):=by
 refine cX (fun k=>i.ar.toNat-k) _ _ _ _ ?_;rintro k hk ih;refine hD xX 1000 sh (by kernel_rfl) ?_;rw[arc];refine aY.2 ⟨fun an=>?_,fun a8=>?_⟩
 ·have an:(k:Int)<i.ar:=by simpa using an
  have e:wI ((k:Int)+1)=((k+1:Nat):Int):=by rw[dz (by omega) (by omega)];simp
  have hi:jm ((k:Int)+1)=jm k++[(k:Int)+1]:=(acZ (n:=(k:Int)) (k:=k) (by omega)).resolve_right (by omega);have EV:jm ((k+1:Nat):Int)=jm k++[(k:Int)+1]:=by rw[←hi];simp
  have bH:=MN (k:Int);refine⟨⟨by rw[qq];omega,by omega,rfl,rfl⟩,?_⟩;have next:=ih (k+1) (by simp;omega) (by omega)
  rw[EV,bj]at next
  simp only[LF,aD,yV]at next
  rw[e];have e3:wI ((k:Int)+1)=(k:Int)+1:=by rw[dz (by omega) (by omega)]
  try rw[e3]
  exact next
 ·have a8:i.ar<=k:=by simpa using a8
  have:i.ar=k:=by omega
  rw[this];exact⟨rfl,rfl⟩
def aoD:List (Nat×Nat):=[(0,0),(2,1),(1,2)]
theorem Gs:bn Z E6:=by
 refine dc xX ?_;rintro⟨i,fs⟩ args H ⟨rfl,rfl,hf⟩;have hf:p7 fs:=hf;simp only[I0];cases hF:ca i with
 |false=>
  have hr:gO i fs=[]:=by simp[gO,hF]
  rw[hr];have rX:ca ⟨i.op,i.r,i.a,i.n,i.cR,i.ar⟩=false:=hF;refine So ?_;refine eS xX 1000 sh 50 (by kernel_rfl) ?_;rcases hf with rfl|rfl|rfl|rfl|rfl
  ·rw[afR];exact⟨⟨rfl,trivial⟩,aY.2 ⟨fun _=>⟨rfl,rfl⟩,fun _=>⟨rfl,rfl⟩⟩⟩
  ·rw[afS];exact⟨⟨rfl,trivial⟩,aY.2 ⟨fun _=>⟨rfl,rfl⟩,fun h=>by rw[rX]at h;cases h⟩⟩
  ·rw[afU];exact⟨⟨rfl,trivial⟩,aY.2 ⟨fun _=>⟨rfl,rfl⟩,fun h=>by rw[rX]at h;cases h⟩⟩
  ·rw[W6];exact⟨⟨rfl,trivial⟩,aY.2 ⟨fun _=>⟨rfl,rfl⟩,fun h=>by rw[rX]at h;cases h⟩⟩
  ·rw[afT];exact⟨⟨rfl,trivial⟩,aY.2 ⟨fun _=>⟨rfl,rfl⟩,fun h=>by rw[rX]at h;cases h⟩⟩
 |true=>
  have rX:ca ⟨i.op,i.r,i.a,i.n,i.cR,i.ar⟩=true:=hF;rcases hf with rfl|rfl|rfl|rfl|rfl
  ·have hr:gO i []=[]:=by simp[gO]
   rw[hr];refine So ?_;refine eS xX 1000 sh 50 (by kernel_rfl) ?_;rw[afR];exact⟨⟨rfl,trivial⟩,aY.2 ⟨fun _=>⟨rfl,rfl⟩,fun _=>⟨rfl,rfl⟩⟩⟩
  ·have hr:gO i [97]=[i.a]:=by simp[gO,hF,mS]
   rw[hr];refine K9 ?_;refine eS xX 1000 sh 50 (by kernel_rfl) ?_;rw[afS];exact⟨⟨rfl,trivial⟩,aY.2 ⟨fun h=>(by rw[rX]at h;cases h),fun _=>⟨rfl,rfl,rfl⟩⟩⟩
  ·have hr:gO i [114]=[i.r]:=by simp[gO,hF,mS]
   rw[hr];refine K9 ?_;refine eS xX 1000 sh 50 (by kernel_rfl) ?_;rw[afU];exact⟨⟨rfl,trivial⟩,aY.2 ⟨fun h=>(by rw[rX]at h;cases h),fun _=>⟨rfl,rfl⟩⟩⟩
  ·by_cases ha:i.a=i.r
   ·have hr:gO i [114,97]=[i.r]:=by simp[gO,hF,mS,ha]
    rw[hr];refine K9 ?_;refine eS xX 1000 sh 50 (by kernel_rfl) ?_;rw[W6];exact⟨⟨rfl,trivial⟩,aY.2 ⟨fun h=>(by rw[rX]at h;cases h),fun _=>⟨⟨rfl,rfl⟩,aY.2 ⟨fun h=>(by simp[ha]at h),fun _=>⟨rfl,rfl⟩⟩⟩⟩⟩
   ·have hr:gO i [114,97]=[i.r,i.a]:=by simp[gO,hF,mS,ha]
    rw[hr];refine K9 ?_;refine eS xX 1000 sh 50 (by kernel_rfl) ?_;rw[W6];exact⟨⟨rfl,trivial⟩,aY.2 ⟨fun h=>(by rw[rX]at h;cases h),fun _=>⟨⟨rfl,rfl⟩,aY.2 ⟨fun _=>⟨rfl,rfl⟩,fun h=>(by simp[ha]at h)⟩⟩⟩⟩
  ·have hr:gO i [112]=jm i.ar:=by simp[gO,hF,mS]
   rw[hr];have hb:=Ra hF;refine eS xX 1000 sh 50 (by kernel_rfl) ?_;rw[afT];refine⟨⟨rfl,trivial⟩,aY.2 ⟨fun h=>(by rw[rX]at h;cases h),fun _=>?_⟩⟩;refine xa (n:=2) (l:=[(0,n6 i),(1,.rB [112] 1)]) (T:=[(2,.ad 0 0),(4,.bg),(12,.ad 1 0),(39,J i.ar),(40,J 0)]) 1 3 [4] ?_ rfl (by kernel_rfl);refine dN.rE (by kernel_rfl) (m0:=0) (xD:=[0,2,1]) (l:=[2,4,12,39,40]) (ps:=aoD) (H2:=LF i []) (t:=Ov 0 i.ar 0) (by kernel_rfl) (by kernel_rfl) ?_;exact ard hb.1 hb.2 0 (by simpa using hb.1)
end
end Go.Cl
