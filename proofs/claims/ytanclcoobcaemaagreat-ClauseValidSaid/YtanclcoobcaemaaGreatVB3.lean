/- Part of a proof of ClauseValid. -/
import Derived.Test.YtanclcoobcaemaaGreatVB2
set_option linter.all false
set_option linter.unusedSectionVars false
set_option maxRecDepth 100000
namespace Go.Cl
open Go.Ev Go.Proofs
noncomputable section
def Em.rO(m:Em)(n:Int):Em:=⟨m.aM,m.f,m.gF,m.a8,m.dZ,m.du,n,m.gN⟩
def Em.aA(c:gP)(base:LI)(aR:Bool):Nat->Int->Em->cY->Em
 |_,_,m,[]=>(m.cm aR).aE ⟨21,0,0,0,[],0⟩
 |i,size,m,g::l=>
  if g.cS=2 then Em.aA c base aR (i+1) size (m.jj (22,g.gE)) l
  else if g.cS=3 then Em.aA c base aR (i+1) size (m.jj (23,g.gE)) l
  else if g.cS=4 then Em.aA c base aR (i+1) size (m.ml g.gE) l
  else if g.cS=5 then m.aE ⟨25,0,0,0,[],0⟩
  else if g.cS=1 then
   match l with
   |[]=>((m.dW 0 g.cx).cm aR).aE ⟨20,0,0,g.ay.aC,g.ay.ca,g.ay.ar⟩
   |_::_=>if size>c.aU.getD i 0 then Em.aA c base aR (i+1) (c.aU.getD i 0) ((((m.dW 0 g.cx).aE ⟨17,0,0,c.aU.getD i 0,[],0⟩).aE ⟨19,0,0,g.ay.aC,g.ay.ca,g.ay.ar⟩).rO (base.getD (c.cg.getD i 0+1).toNat 0)) l
    else Em.aA c base aR (i+1) size (((m.dW 0 g.cx).aE ⟨19,0,0,g.ay.aC,g.ay.ca,g.ay.ar⟩).rO (base.getD (c.cg.getD i 0+1).toNat 0)) l
  else Em.aA c base aR (i+1) size m l
def mA:cY->Nat
 |[]=>4
 |g::l=>2*bA g.cx+4+mA l
def GP(c:gP):LV:=[.ad 1 c.cg.length 1,.ad 2 c.a8.length 1,.ad 3 c.aU.length 1]
def bp(l:LI)(t:TypeId):aZ:=.aF (aX l) t
def AX(m:Em)(c:gP)(base:LI):AH:=an [(0,fg m 5 6 7 8 9),(1,bp c.cg 3),(2,bp c.a8 2),(3,bp c.aU 3),(4,bp base 3),(5,fu m),(6,eN m),(7,eW m),(8,eU m),(9,eP m)] 10
def Il(m:Em)(c:gP)(base:LI):AH:=an [(0,fg m 10 6 7 8 9),(1,bp c.cg 3),(2,bp c.a8 2),(3,bp c.aU 3),(4,bp base 3),(5,.b9 []),(6,eN m),(7,eW m),(8,eU m),(9,eP m),(10,fu m)] 11
abbrev Hg x0 x1 x2 x3 x4 x5 x6:=an [(0,fg x0 13 6 7 8 9),(1,bp x1 3),(2,bp x2 2),(3,bp x3 3),(4,bp x4 3),(5,.b9 []),(6,eN x0),(7,eW x0),(8,eU x0),(9,eP x0),(10,jS 0),(11,.aw x5 60),(12,.aw [.ai x6] 4),(13,fu x0)] 14
def Vl(m:Em)(c:gP)(base:LI)(aR:Bool):AH:=Hg m c.cg c.a8 c.aU base (GP c) aR
def TV(m:Em)(c:gP)(base:LI)(aR:Bool):AH:=an [(0,fg m 5 6 7 8 9),(1,bp c.cg 3),(2,bp c.a8 2),(3,bp c.aU 3),(4,bp base 3),(5,fu m),(6,eN m),(7,eW m),(8,eU m),(9,eP m),(10,jS 0),(11,.aw (GP c) 60),(12,.aw [.ai aR] 4)] 13
abbrev z8 x0 x1 x2 x3 x4:=aQ [(2,.ad 4 x0 1),(4,.ab 10 0),(5,.ab 11 0),(8,J x1),(9,.bR (.func 63) [] [.ab 12 0,.ab 10 0]),(22,.ax x2 x3 6),(23,J (Int.ofNat x3)),(24,J x4)]
def Wy(bl:Nat)(size:Int)(gs:LV)(gl:Nat)(i:Int):Tr AV:=z8 bl size gs gl i
structure Gb(c:gP)(base:LI)(gs:cY):Prop where
 len:eF gs.length
 ok:∀g∈gs,nF g
 ks:∀g∈gs,zI g.cx
 aU:c.aU.length=gs.length
 cg:c.cg.length=gs.length
 base:∀i,∀h:i<gs.length,gs[i].cS=1->0<=c.cg.getD i 0∧c.cg.getD i 0+1<base.length∧c.cg.getD i 0<1000000
def P':dp (Em×gP×LI×Bool)where
 ba w A H:=A=[.ab 0 0,.au (GP w.2.1),.ad 4 w.2.2.1.length 1,.ai w.2.2.2]∧H=AX w.1 w.2.1 w.2.2.1∧w.1.aM.length+mA w.1.f.aA<65536∧Gb w.2.1 w.2.2.1 w.1.f.aA
 v w:=.aJ []
 aN w:=Il (Em.aA w.2.1 w.2.2.1 w.2.2.2 0 w.2.1.a8.length w.1 w.1.f.aA) w.2.1 w.2.2.1
theorem yf{l m:LI}{t:TypeId}(h:bp l t=bp m t):l=m:=Ca (aZ.aF.inj h).1
theorem aoe:P'.dx:=by
 rintro⟨m,⟨c1,c2,c3⟩,b,e⟩ ⟨m',⟨nq,yO,c3'⟩,b',e'⟩ A H ⟨h1,h2,_⟩ ⟨h3,h4,_⟩;simp only at h1 h2 h3 h4;rw[h1]at h3;rw[h2]at h4;have k:=fun i=>congrArg (fun H=>AH.bu H i) h4
 simp only[AX,dy]at k;have e0:=Dt (m:=m) (m':=m') (dz (k 0)) (dz (k 5)) (dz (k 6)) (dz (k 7)) (dz (k 8)) (dz (k 9));have e1:=yf (dz (k 1));have e2:=yf (dz (k 2));have e3:=yf (dz (k 3));have e4:=yf (dz (k 4));simp only[List.cons.injEq,AV.ai.injEq,true_and,and_true]at h3;rw[e0,e1,e2,e3,e4,h3.2.2]
def JA:Ev.bz:=cz 28 (cM P' aoe cZ) Jz
theorem asJ(m:Em)(c:gP)(base:LI)(aR:Bool)(L:LT)(Q:QT):
 b8 Z Jz (fun _=>[2,4,5,8,9,22,23,24]) L Q 1000 28 [.ab 0 0,.au (GP c),.ad 4 base.length 1,.ai aR] (AX m c base)=(
 L (z8 base.length (Int.ofNat c.a8.length) (bN m.f.aA) m.f.aA.length 0) (an [(0,fg m 5 6 7 8 9),(1,bp c.cg 3),(2,bp c.a8 2),(3,bp c.aU 3),(4,bp base 3),(5,fu m),(6,eN m),(7,eW m),(8,eU m),(9,eP m),(10,jS 0),(11,.aw [.ad 1 c.cg.length 1,.ad 2 c.a8.length 1,.ad 3 c.aU.length 1] 60),(12,.aw [.ai aR] 4)] 13) (ao Z 28 0)):=by kernel_rfl
theorem asK(m:Em)(c:gP)(base:LI)(aR:Bool)(size i:Int)(gs:LV)(gl:Nat)(L:LT)(Q:QT):
 cO Z Jz (fun _=>[2,4,5,8,9,22,23,24]) L Q 1000 28 10 (Wy base.length size gs gl i) (ao Z 28 0) (Vl m c base aR)=(
 ah (decide (i<Int.ofNat gl)) (∃aD:Nat,i=(aD:Int)∧aD<gl∧(∃n:Int,∃s:LN,∃aL:Int,∃bD:Int,∃cs:LV,∃len:Nat,∃cf:Int,((gs.drop (aD*6)).take 6:LV)=[J n,.aa s,J aL,J bD,.ax cs len 4,J cf]∧ah (n==2) (∃w:Em×Int×Int,(([.ab 0 0,J 22,J cf]:LV)=[.ab 0 0,J w.2.1,J w.2.2]∧bK m=bK w.1∧VK w.1 w.2)∧L (z8 base.length size gs gl (wI (i+1))) (Hg (Em.jj w.1 w.2) c.cg c.a8 c.aU base [.ad 1 c.cg.length 1,.ad 2 c.a8.length 1,.ad 3 c.aU.length 1] aR) (ao Z 28 0)) (ah (n==3) (∃w:Em×Int×Int,(([.ab 0 0,J 23,J cf]:LV)=[.ab 0 0,J w.2.1,J w.2.2]∧bK m=bK w.1∧VK w.1 w.2)∧L (z8 base.length size gs gl (wI (i+1))) (Hg (Em.jj w.1 w.2) c.cg c.a8 c.aU base [.ad 1 c.cg.length 1,.ad 2 c.a8.length 1,.ad 3 c.aU.length 1] aR) (ao Z 28 0)) (ah (n==4) (∃w:Em×Int,(([.ab 0 0,J cf]:LV)=[.ab 0 0,J w.2]∧bK m=bK w.1∧rN w.1 w.2)∧L (z8 base.length size gs gl (wI (i+1))) (Hg (Em.ml w.1 w.2) c.cg c.a8 c.aU base [.ad 1 c.cg.length 1,.ad 2 c.a8.length 1,.ad 3 c.aU.length 1] aR) (ao Z 28 0)) (ah (n==5) (∃w:Em×a9,(([.ab 0 0,.au [J 25,J 0,J 0,J 0,.aa [],J 0]]:LV)=[.ab 0 0,.au (cb w.2)]∧bK m=bK w.1∧w.1.aM.length<65536)∧Q (.aJ []) (Il (Em.aE w.1 w.2) c base)) (ah (n==1) (∃w:Em×gH,(([.ab 0 0,.au [J n,.aa s,J aL,J bD,.ax cs len 4,J cf]]:LV)=[.ab 0 0,.au [J w.2.cS,.aa w.2.ay.ca,J w.2.ay.ar,J w.2.ay.aC,.ax (aP w.2.cx) w.2.cx.length 4,J w.2.gE]]∧bK m=bK w.1∧afd w.1 w.2)∧ah (i==wI (Int.ofNat m.f.aA.length-1)) (∃ae:Em×Bool,(([.ab 0 0,.ab 1 0]:LV)=[.ab 0 0,.ab 1 0]∧vU (Em.dW 0 w.1 w.2.cx) aR=vU ae.1 ae.2∧ae.1.aM.length<65536)∧(∃bh:Em×a9,(([.ab 0 0,.au [J 20,J 0,J 0,J bD,.aa s,J aL]]:LV)=[.ab 0 0,.au (cb bh.2)]∧bK (Em.cm ae.1 ae.2)=bK bh.1∧bh.1.aM.length<65536)∧Q (.aJ []) (Il (Em.aE bh.1 bh.2) c base))) (∃bU:Nat,i=(bU:Int)∧bU<c.aU.length∧(∃cK:Int,bQ Z 3 (aX c.aU) (bU*1)=some (J cK:AV)∧ah (decide (size>cK)) (∃cd:Nat,i=(cd:Int)∧cd<c.aU.length∧(∃fI:Int,bQ Z 3 (aX c.aU) (cd*1)=some (J fI:AV)∧(∃ae:Em×a9,(([.ab 0 0,.au [J 17,J 0,J 0,J fI,.aa [],J 0]]:LV)=[.ab 0 0,.au (cb ae.2)]∧bK (Em.dW 0 w.1 w.2.cx)=bK ae.1∧ae.1.aM.length<65536)∧(∃bh:Em×a9,(([.ab 0 0,.au [J 19,J 0,J 0,J bD,.aa s,J aL]]:LV)=[.ab 0 0,.au (cb bh.2)]∧bK (Em.aE ae.1 ae.2)=bK bh.1∧bh.1.aM.length<65536)∧(∃eE:Nat,i=(eE:Int)∧eE<c.cg.length∧(∃gS:Int,bQ Z 3 (aX c.cg) (eE*1)=some (J gS:AV)∧(∃sj:Nat,wI (gS+1)=(sj:Int)∧sj<base.length∧(∃jZ:Int,bQ Z 3 (aX base) (sj*1)=some (J jZ:AV)∧L (z8 base.length fI gs gl (wI (i+1))) (an [(0,.aw [.ad 13 (Em.aE bh.1 bh.2).aM.length 6,.aa (Em.aE bh.1 bh.2).f.ay.ca,J (Em.aE bh.1 bh.2).f.ay.ar,J (Em.aE bh.1 bh.2).f.ay.aC,.ax (aP (Em.aE bh.1 bh.2).f.aO) (Em.aE bh.1 bh.2).f.aO.length 4,.ax (bN (Em.aE bh.1 bh.2).f.aA) (Em.aE bh.1 bh.2).f.aA.length 6,.aH 6,.aH 7,.aH 8,.aH 9,J jZ,.ai (Em.aE bh.1 bh.2).gN] 71),(1,bp c.cg 3),(2,bp c.a8 2),(3,bp c.aU 3),(4,bp base 3),(5,.b9 []),(6,eN (Em.aE bh.1 bh.2)),(7,eW (Em.aE bh.1 bh.2)),(8,eU (Em.aE bh.1 bh.2)),(9,eP (Em.aE bh.1 bh.2)),(10,jS 0),(11,.aw [.ad 1 c.cg.length 1,.ad 2 c.a8.length 1,.ad 3 c.aU.length 1] 60),(12,.aw [.ai aR] 4),(13,fu (Em.aE bh.1 bh.2))] 14) (ao Z 28 0))))))))) (∃ae:Em×a9,(([.ab 0 0,.au [J 19,J 0,J 0,J bD,.aa s,J aL]]:LV)=[.ab 0 0,.au (cb ae.2)]∧bK (Em.dW 0 w.1 w.2.cx)=bK ae.1∧ae.1.aM.length<65536)∧(∃cd:Nat,i=(cd:Int)∧cd<c.cg.length∧(∃fI:Int,bQ Z 3 (aX c.cg) (cd*1)=some (J fI:AV)∧(∃eE:Nat,wI (fI+1)=(eE:Int)∧eE<base.length∧(∃gS:Int,bQ Z 3 (aX base) (eE*1)=some (J gS:AV)∧L (z8 base.length size gs gl (wI (i+1))) (an [(0,.aw [.ad 13 (Em.aE ae.1 ae.2).aM.length 6,.aa (Em.aE ae.1 ae.2).f.ay.ca,J (Em.aE ae.1 ae.2).f.ay.ar,J (Em.aE ae.1 ae.2).f.ay.aC,.ax (aP (Em.aE ae.1 ae.2).f.aO) (Em.aE ae.1 ae.2).f.aO.length 4,.ax (bN (Em.aE ae.1 ae.2).f.aA) (Em.aE ae.1 ae.2).f.aA.length 6,.aH 6,.aH 7,.aH 8,.aH 9,J gS,.ai (Em.aE ae.1 ae.2).gN] 71),(1,bp c.cg 3),(2,bp c.a8 2),(3,bp c.aU 3),(4,bp base 3),(5,.b9 []),(6,eN (Em.aE ae.1 ae.2)),(7,eW (Em.aE ae.1 ae.2)),(8,eU (Em.aE ae.1 ae.2)),(9,eP (Em.aE ae.1 ae.2)),(10,jS 0),(11,.aw [.ad 1 c.cg.length 1,.ad 2 c.a8.length 1,.ad 3 c.aU.length 1] 60),(12,.aw [.ai aR] 4),(13,fu (Em.aE ae.1 ae.2))] 14) (ao Z 28 0))))))))) (L (z8 base.length size gs gl (wI (i+1))) (Hg m c.cg c.a8 c.aU base [.ad 1 c.cg.length 1,.ad 2 c.a8.length 1,.ad 3 c.aU.length 1] aR) (ao Z 28 0)))))))) (∃w:Em×Bool,(([.ab 0 0,.ab 1 0]:LV)=[.ab 0 0,.ab 1 0]∧vU m aR=vU w.1 w.2∧w.1.aM.length<65536)∧(∃ae:Em×a9,(([.ab 0 0,.au [J 21,J 0,J 0,J 0,.aa [],J 0]]:LV)=[.ab 0 0,.au (cb ae.2)]∧bK (Em.cm w.1 w.2)=bK ae.1∧ae.1.aM.length<65536)∧Q (.aJ []) (Il (Em.aE ae.1 ae.2) c base)))):=by kernel_rfl
theorem aie(m:Em)(t:aK)(b:Int):(m.e9 t b).f=m.f:=by
 unfold Em.e9;split
 ·split<;>rfl
 ·split
  ·rfl
  ·split<;>rfl
theorem Zc:∀(l:List (aK×Int)) (m:Em),(m.jQ l).f=m.f
 |[],m=>rfl
 |(t,b)::l,m=>by have h2:=Zc l (m.e9 t b);simp only[Em.jQ,iy]at h2⊢;rw[h2,aie]
mutual
theorem ZA:∀(m:Em) (r:Int) (t:aK),(m.jf r t).f=m.f
 |m,r,.mk k n s l=>by simp only[Em.jf,Zc];exact QH m l
theorem QH:∀(m:Em) (l:bH),(m.fq l).1.f=m.f
 |m,[]=>rfl
 |m,t::l=>by
  simp only[Em.fq];split
  ·rw[QH,ZA];rfl
  ·rw[QH]
end
theorem ao0(m:Em)(w:Int×aK):(m.kP w).f=m.f:=by
 unfold Em.kP;split
 ·unfold Em.rL;split<;>rfl
 ·split
  ·rfl
  ·split
   ·rfl
   ·exact ZA _ _ _
theorem Vj:∀(l:bH) (i:Nat) (m:Em),(Em.dW i m l).f=m.f
 |[],i,m=>rfl
 |t::l,i,m=>by rw[Em.dW,Vj l,ao0]
theorem aeI:∀(l:bH) (i:Nat) (m:Em),(Em.dW i m l).aM.length<=m.aM.length+2*bA l
 |[],i,m=>by simp[Em.dW]
 |t::l,i,m=>by have h1:=aeD m (((i+1:Nat):Int),t);have h2:=aeI l (i+1) (m.kP (((i+1:Nat):Int),t));simp only[Em.dW,bA];simp only at h1;omega
theorem aa6(m:Em)(e:Bool):(m.cm e).aM.length<=m.aM.length+1:=by
 cases e
 ·show m.aM.length<=_;omega
 ·exact kX m _
theorem axR(m:Em)(e:Bool):(m.cm e).f=m.f:=by cases e<;>rfl
theorem abK(m:Em)(w:Int×Int):(m.jj w).aM.length<=m.aM.length+2:=by
 unfold Em.jj;cases m.ei w.2
 ·have:=kX (m.eH w.2) ⟨w.1,m.ej w.2,0,0,[],0⟩;have e:(m.eH w.2).aM=m.aM:=rfl;rw[e]at this;show((m.eH w.2).aE _).aM.length<=_;omega
 ·have h1:=kX m.bq ⟨w.1,m.bq.bT,0,0,[],0⟩;rw[GF]at h1;have h2:=kX ((m.bq.aE ⟨w.1,m.bq.bT,0,0,[],0⟩).eH w.2) ⟨2,(m.bq.aE ⟨w.1,m.bq.bT,0,0,[],0⟩).ej w.2,m.bq.bT,0,[],0⟩;have e:((m.bq.aE ⟨w.1,m.bq.bT,0,0,[],0⟩).eH w.2).aM=(m.bq.aE ⟨w.1,m.bq.bT,0,0,[],0⟩).aM:=rfl;rw[e]at h2;simp only[cond_true];omega
theorem abJ(m:Em)(w:Int×Int):(m.jj w).f=m.f:=by unfold Em.jj;cases m.ei w.2<;>rfl
theorem ajt(m:Em)(v:Int):(m.ml v).aM.length<=m.aM.length+1:=by
 unfold Em.ml;cases m.ei v
 ·show m.aM.length<=_;omega
 ·exact kX (m.eH v) _
theorem ajq(m:Em)(v:Int):(m.ml v).f=m.f:=by unfold Em.ml;cases m.ei v<;>rfl
theorem RS:∀l:cY,4<=mA l
 |[]=>by simp[mA]
 |g::l=>by have:=RS l;simp only[mA];omega
theorem ja{l:LI}{i:Nat}(h:i<l.length):bQ Z 3 (aX l) (i*1)=some (J (l.getD i 0)):=by rw[BR,aX,Nat.mul_one,List.getElem?_map,jn h];simp[List.getD,jn h]
section
variable{c:gP}{base:LI}{aR:Bool}{i:Nat}{size:Int}{m:Em}{g:gH}{l:cY}
theorem alc:Em.aA c base aR i size m []=(m.cm aR).aE ⟨21,0,0,0,[],0⟩:=rfl
theorem ala(h:g.cS=2):Em.aA c base aR i size m (g::l)=Em.aA c base aR (i+1) size (m.jj (22,g.gE)) l:=by simp[Em.aA,h]
theorem alb(h:g.cS=3):Em.aA c base aR i size m (g::l)=Em.aA c base aR (i+1) size (m.jj (23,g.gE)) l:=by simp[Em.aA,h]
theorem ak7(h:g.cS=4):Em.aA c base aR i size m (g::l)=Em.aA c base aR (i+1) size (m.ml g.gE) l:=by simp[Em.aA,h]
theorem ak8(h:g.cS=5):Em.aA c base aR i size m (g::l)=m.aE ⟨25,0,0,0,[],0⟩:=by simp[Em.aA,h]
theorem ak9(h:g.cS=1):Em.aA c base aR i size m [g]=((m.dW 0 g.cx).cm aR).aE ⟨20,0,0,g.ay.aC,g.ay.ca,g.ay.ar⟩:=by simp[Em.aA,h]
theorem ale(h:g.cS=1)(hl:l≠[])(hs:size>c.aU.getD i 0):Em.aA c base aR i size m (g::l)=Em.aA c base aR (i+1) (c.aU.getD i 0) ((((m.dW 0 g.cx).aE ⟨17,0,0,c.aU.getD i 0,[],0⟩).aE ⟨19,0,0,g.ay.aC,g.ay.ca,g.ay.ar⟩).rO (base.getD (c.cg.getD i 0+1).toNat 0)) l:=by
 cases l with
 |nil=>exact absurd rfl hl
 |cons a l=>rw[Em.aA];simp only[h];rw[aB (by omega),aB (by omega),aB (by omega),aB (by omega),aY trivial,aY hs]
theorem ak6(h:g.cS=1)(hl:l≠[])(hs:¬size>c.aU.getD i 0):Em.aA c base aR i size m (g::l)=Em.aA c base aR (i+1) size (((m.dW 0 g.cx).aE ⟨19,0,0,g.ay.aC,g.ay.ca,g.ay.ar⟩).rO (base.getD (c.cg.getD i 0+1).toNat 0)) l:=by
 cases l with
 |nil=>exact absurd rfl hl
 |cons a l=>rw[Em.aA];simp only[h];rw[aB (by omega),aB (by omega),aB (by omega),aB (by omega),aY trivial,aB hs]
theorem ald(h1:g.cS≠1)(h2:g.cS≠2)(h3:g.cS≠3)(h4:g.cS≠4)(h5:g.cS≠5):Em.aA c base aR i size m (g::l)=Em.aA c base aR (i+1) size m l:=by simp[Em.aA,h1,h2,h3,h4,h5]
end
theorem asI{gs:cY}{c:gP}{base:LI}{aR:Bool}{M:Em}(hg:Gb c base gs):
 ∀p:Nat×Int×Em,(p.1<=gs.length∧p.2.2.aM.length+mA (gs.drop p.1)<65536∧p.2.2.f.aA.length=gs.length∧Em.aA c base aR p.1 p.2.1 p.2.2 (gs.drop p.1)=M)->
 bJ Z 28 132 10 (.aJ []) (Il M c base) (Wy base.length p.2.1 (bN gs) gs.length (p.1:Int)) (Vl p.2.2 c base aR) (ao Z 28 0):=by
 refine cV (fun p=>gs.length-p.1) _ _ _ _ ?_;rintro⟨i,size,m⟩ ⟨hi,hc,hm,hf⟩ ih;simp only at hi hc hm hf ih⊢;refine hD Pb 1000 (fun _=>[2,4,5,8,9,22,23,24]) (by kernel_rfl) ?_;rw[asK];have mT:=RS (gs.drop i);refine aI.2 ⟨fun aj=>?_,fun aS=>?_⟩
 ·have aj:i<gs.length:=by simpa using aj
  obtain⟨k,nm,ar,aC,ls,v,he,bX,bn⟩:=ra aj hg.ok;have uN:=hg.ks gs[i] (Fs aj);have sd:=hg.base i aj;rw[he]at uN sd;simp only at uN sd;rw[dN aj,he]at hf hc;simp only[mA]at hc;have axZ:=RS (gs.drop (i+1));refine⟨i,rfl,aj,k,nm,ar,aC,_,_,v,bX,?_⟩;rw[je hg.len aj];have e:wI (Int.ofNat m.f.aA.length-1)=(gs.length:Int)-1:=by have hl:=hg.len;unfold eF at hl;rw[hm,cX (by simp only[k_];omega) (by simp only[k_];omega)];simp
  rw[e];have next:=fun tO m' (h:m'.aM.length+mA (gs.drop (i+1))<65536) (h2:m'.f.aA.length=gs.length) (h3:Em.aA c base aR (i+1) tO m' (gs.drop (i+1))=M)=>ih (i+1,tO,m') ⟨by simp;omega,h,h2,h3⟩ (by simp;omega)
  simp only at next
  have hr:m.aM.length<65536:=by omega
  refine aI.2 ⟨fun hk=>?_,fun iA=>?_⟩
  ·have hk:k=2:=by simpa using hk
   rw[ala hk]at hf;have h1:=abK m (22,v);have n1:=next _ (m.jj (22,v)) (by omega) (by rw[abJ];exact hm) hf
   exact⟨(m,(22,v)),⟨rfl,rfl,by show m.aM.length<65535;omega⟩,n1⟩
  have iA:k≠2:=by simpa using iA
  refine aI.2 ⟨fun hk=>?_,fun xx=>?_⟩
  ·have hk:k=3:=by simpa using hk
   rw[alb hk]at hf;have h1:=abK m (23,v);have n1:=next _ (m.jj (23,v)) (by omega) (by rw[abJ];exact hm) hf
   exact⟨(m,(23,v)),⟨rfl,rfl,by show m.aM.length<65535;omega⟩,n1⟩
  have xx:k≠3:=by simpa using xx
  refine aI.2 ⟨fun hk=>?_,fun SV=>?_⟩
  ·have hk:k=4:=by simpa using hk
   rw[ak7 hk]at hf;have h1:=ajt m v;have n1:=next _ (m.ml v) (by omega) (by rw[ajq];exact hm) hf
   exact⟨(m,v),⟨rfl,rfl,hr⟩,n1⟩
  have SV:k≠4:=by simpa using SV
  refine aI.2 ⟨fun hk=>?_,fun SW=>?_⟩
  ·have hk:k=5:=by simpa using hk
   rw[ak8 hk]at hf;subst hf;exact⟨(m,⟨25,0,0,0,[],0⟩),⟨rfl,rfl,hr⟩,rfl,rfl⟩
  have SW:k≠5:=by simpa using SW
  refine aI.2 ⟨fun hk=>?_,fun iM=>?_⟩
  ·have hk:k=1:=by simpa using hk
   obtain⟨b1,b2,b3⟩:=sd hk;have h1:=aeI ls 0 m;refine⟨(m,⟨k,⟨nm,ar,aC⟩,ls,v⟩),⟨rfl,rfl,by show m.aM.length+2*bA ls+1<65536;omega,bn,uN⟩,?_⟩;refine aI.2 ⟨fun xy=>?_,fun xy=>?_⟩
   ·have xy:(i:Int)=(gs.length:Int)-1:=by simpa using xy
    have hd:gs.drop (i+1)=[]:=eT (by omega);rw[hd,ak9 hk]at hf;have h2:=aa6 (m.dW 0 ls) aR;subst hf;exact⟨(m.dW 0 ls,aR),⟨rfl,rfl,by show(m.dW 0 ls).aM.length<65536;omega⟩,((m.dW 0 ls).cm aR,⟨20,0,0,aC,nm,ar⟩),⟨rfl,rfl,by show((m.dW 0 ls).cm aR).aM.length<65536;omega⟩,rfl,rfl⟩
   ·have xy:¬(i:Int)=(gs.length:Int)-1:=by simpa using xy
    have hd:gs.drop (i+1)≠[]:=by intro h;have:=List.drop_eq_nil_iff.1 h;omega
    have uP:i<c.aU.length:=by rw[hg.aU];exact aj
    have xD:i<c.cg.length:=by rw[hg.cg];exact aj
    have eo:wI (c.cg.getD i 0+1)=(((c.cg.getD i 0+1).toNat:Nat):Int):=by rw[cX (by omega) (by omega),Int.toNat_of_nonneg (by omega)]
    have LA:(c.cg.getD i 0+1).toNat<base.length:=by omega
    refine⟨i,rfl,uP,_,ja uP,aI.2 ⟨fun hs=>?_,fun hs=>?_⟩⟩
    ·have hs:size>c.aU.getD i 0:=by simpa using hs
     rw[ale hk hd hs]at hf;have h2:=kX (m.dW 0 ls) ⟨17,0,0,c.aU.getD i 0,[],0⟩;have h3:=kX ((m.dW 0 ls).aE ⟨17,0,0,c.aU.getD i 0,[],0⟩) ⟨19,0,0,aC,nm,ar⟩;have n1:=next _ ((((m.dW 0 ls).aE ⟨17,0,0,c.aU.getD i 0,[],0⟩).aE ⟨19,0,0,aC,nm,ar⟩).rO (base.getD (c.cg.getD i 0+1).toNat 0))
      (by have e:∀(x:Em) n,(x.rO n).aM=x.aM:=fun _ _=>rfl
          rw[e];omega) (by show(Em.dW 0 m ls).f.aA.length=_;rw[Vj];exact hm) hf
     exact⟨i,rfl,uP,_,ja uP,(m.dW 0 ls,⟨17,0,0,c.aU.getD i 0,[],0⟩),⟨rfl,rfl,by show(m.dW 0 ls).aM.length<65536;omega⟩,
      ((m.dW 0 ls).aE ⟨17,0,0,c.aU.getD i 0,[],0⟩,⟨19,0,0,aC,nm,ar⟩),⟨rfl,rfl,by show((m.dW 0 ls).aE _).aM.length<65536;omega⟩,i,rfl,xD,_,ja xD,_,eo,LA,_,ja LA,n1⟩
    ·have hs:¬size>c.aU.getD i 0:=by simpa using hs
     rw[ak6 hk hd hs]at hf;have h3:=kX (m.dW 0 ls) ⟨19,0,0,aC,nm,ar⟩;have n1:=next _ (((m.dW 0 ls).aE ⟨19,0,0,aC,nm,ar⟩).rO (base.getD (c.cg.getD i 0+1).toNat 0))
      (by have e:∀(x:Em) n,(x.rO n).aM=x.aM:=fun _ _=>rfl
          rw[e];omega) (by show(Em.dW 0 m ls).f.aA.length=_;rw[Vj];exact hm) hf
     exact⟨(m.dW 0 ls,⟨19,0,0,aC,nm,ar⟩),⟨rfl,rfl,by show(m.dW 0 ls).aM.length<65536;omega⟩,i,rfl,xD,_,ja xD,_,eo,LA,_,ja LA,n1⟩
  have iM:k≠1:=by simpa using iM
  rw[ald iM iA xx SV SW]at hf;exact next _ m (by omega) hm hf
 ·have aS:gs.length<=i:=by simpa using aS
  rw[eT aS,alc]at hf;have h2:=aa6 m aR;subst hf;exact⟨(m,aR),⟨rfl,rfl,by show m.aM.length<65536;omega⟩,(m.cm aR,⟨21,0,0,0,[],0⟩),⟨rfl,rfl,by show(m.cm aR).aM.length<65536;omega⟩,rfl,rfl⟩
theorem anK(m:Em)(c:gP)(base:LI)(aR:Bool):Mv (TV m c base aR) (Vl m c base aR) 5:=
 ss (l':=[(0,fg m 13 6 7 8 9),(1,bp c.cg 3),(2,bp c.a8 2),(3,bp c.aU 3),(4,bp base 3),(5,.b9 []),(6,eN m),(7,eW m),(8,eU m),(9,eP m),(10,jS 0),(11,.aw (GP c) 60),(12,.aw [.ai aR] 4)]) rfl rfl rfl
theorem Pc:bm Z JA:=by refine de Pb ?_;rintro⟨m,c,base,aR⟩ args H ⟨rfl,rfl,hc,hg⟩;refine eS Pb 1000 (fun _=>[2,4,5,8,9,22,23,24]) 132 (by kernel_rfl) ?_;simp only[P'];rw[asJ];refine uK (H:=TV m c base aR) (t':=Wy base.length c.a8.length (bN m.f.aA) m.f.aA.length ((0:Nat):Int)) (g:=5) ?_ (anK m c base aR) (by kernel_rfl) (fun i a' hi=>⟨a',hi,xX hi (by simp[fi,iN,lN,TV,an])⟩);exact asI hg (0,_,m) ⟨by simp,by simpa using hc,rfl,by simp⟩
def kA:LI->Int->cY->LI
 |d,c,[]=>d++[c]
 |d,c,g::gs=>if g.cS=1 then kA (d++[max c (g.cx.length:Int)]) 0 gs else kA d c gs
def ep(f:bg):LI:=kA [] f.aO.length f.aA
def cC(l:LI):AH:=an [(0,bp l 3)] 1
def Qy:dp bg where
 ba f A H:=A=[.au (ft f)]∧H=aq∧hJ f∧f.aA.length<60000
 v f:=.ad 0 (ep f).length 1
 aN f:=cC (ep f)
theorem aiE:Qy.dx:=by rintro f f' A H ⟨h1,_⟩ ⟨h3,_⟩;rw[h1]at h3;simp only[List.cons.injEq,AV.au.injEq,and_true]at h3;rw[vG _ _ h3]
def Pd:Ev.bz:=cz 23 (cM Qy aiE cZ) JA
theorem ass(nm:LN)(ar aC:Int)(cs:LV)(len:Nat)(gs:LV)(gl:Nat)(L:LT)(Q:QT):
 b8 Z JA (fun _=>[3,12,13,14]) L Q 1000 23 [.au [.aa nm,J ar,J aC,.ax cs len 4,.ax gs gl 6]] aq=(
 L (aQ [(3,.bE 0 0 1 1 1 true),(12,.ax gs gl 6),(13,J (Int.ofNat gl)),(14,J 0)]) (jk (Int.ofNat len)) (ao Z 23 0)):=by kernel_rfl
abbrev NZ x0 x1 x2 x3:=aQ [(3,.ad 0 x0 1),(12,.ax x1 x2 6),(13,J (Int.ofNat x2)),(14,J x3)]
theorem ast(i:Int)(gs:LV)(gl:Nat)(l:LI)(L:LT)(Q:QT):
 cO Z JA (fun _=>[3,12,13,14]) L Q 1000 23 0 (NZ l.length gs gl i) (ao Z 23 0) (cC l)=(
 ah (decide (i<Int.ofNat gl)) (∃aD:Nat,i=(aD:Int)∧aD<gl∧(∃n:Int,∃s:LN,∃aL:Int,∃bD:Int,∃cs:LV,∃len:Nat,∃cf:Int,((gs.drop (aD*6)).take 6:LV)=[J n,.aa s,J aL,J bD,.ax cs len 4,J cf]∧ah (n==1) (∃bU:Nat,wI (Int.ofNat l.length-1)=(bU:Int)∧bU<l.length∧(∃cK:Int,bQ Z 3 (aX l) (bU*1)=some (J cK:AV)∧(∃cd:Nat,wI (Int.ofNat l.length-1)=(cd:Int)∧cd<l.length∧cd*1+1<=(aX l).length∧((fY (aX l) (cd*1) [J (if Int.ofNat len>cK then Int.ofNat len else cK)]).length=l.length*1∧l.length+1<=65536∧true=true∧true=true)∧L (NZ (l.length+1) gs gl (wI (i+1))) (an [(0,.aF (fY (aX l) (cd*1) [J (if Int.ofNat len>cK then Int.ofNat len else cK)]++[J 0]) 3)] 1) (ao Z 23 0)))) (L (NZ l.length gs gl (wI (i+1))) (cC l) (ao Z 23 0)))) (Q (.ad 0 l.length 1) (cC l))):=by kernel_rfl
theorem sG(l:LI):(aX l).length=l.length:=by simp[aX]
theorem zT(l m:LI):aX (l++m)=aX l++aX m:=by simp[aX]
theorem Nm{l:LI}{i:Nat}(x:Int)(h:i<l.length):fY (aX l) i [J x]=aX (l.set i x):=by unfold fY aX;rw[List.map_set,List.set_eq_take_append_cons_drop,aY (by simpa using h)];rfl
theorem Cb(l:LI):(aX l).all AV.dR=true∧(aX l).all iD=true:=by constructor<;>(rw[List.all_eq_true];intro x hx;obtain⟨n,_,rfl⟩:=List.mem_map.1 hx;rfl)
theorem Zt:∀(gs:cY) (d:LI) (c:Int),(kA d c gs).length<=d.length+1+gs.length
 |[],d,c=>by simp[kA]
 |g::gs,d,c=>by
  unfold kA;split
  ·have:=Zt gs (d++[max c (g.cx.length:Int)]) 0;simp at this⊢;omega
  ·have:=Zt gs d c;simp at this⊢;omega
theorem asr{gs:cY}{az:LI}(hl:eF gs.length)(ho:∀g∈gs,nF g):
 ∀p:Nat×LI×Int,(p.1<=gs.length∧p.2.1.length+(gs.length-p.1)<65000∧kA p.2.1 p.2.2 (gs.drop p.1)=az)->
 bJ Z 23 40 0 (.ad 0 az.length 1) (cC az) (NZ (p.2.1++[p.2.2]).length (bN gs) gs.length (p.1:Int)) (cC (p.2.1++[p.2.2])) (ao Z 23 0):=by
 refine cV (fun p=>gs.length-p.1) _ _ _ _ ?_;rintro⟨i,d,c⟩ ⟨hi,hc,hf⟩ ih;simp only at hi hc hf ih⊢;refine hD Pc 1000 (fun _=>[3,12,13,14]) (by kernel_rfl) ?_;rw[ast];refine aI.2 ⟨fun aj=>?_,fun aS=>?_⟩
 ·have aj:i<gs.length:=by simpa using aj
  obtain⟨k,nm,ar,aC,ls,v,he,bX,bn⟩:=ra aj ho;rw[dN aj,he]at hf;refine⟨i,rfl,aj,k,nm,ar,aC,_,_,v,bX,?_⟩;rw[je hl aj];refine aI.2 ⟨fun hk=>?_,fun hk=>?_⟩
  ·have hk:k=1:=by simpa using hk
   simp only[kA,hk,if_true]at hf;have e:wI (Int.ofNat (d++[c]).length-1)=((d.length:Nat):Int):=by
    have e0:Int.ofNat (d++[c]).length-1=(d.length:Int):=by simp
    rw[e0,cX (by omega) (by omega)]
   have hd:d.length<(d++[c]).length:=by simp
   have hg:(d++[c]).getD d.length 0=c:=by simp[List.getD]
   have l6:(d++[c]).set d.length (max c (ls.length:Int))=d++[max c (ls.length:Int)]:=by simp
   have LU:(if Int.ofNat ls.length>c then Int.ofNat ls.length else c)=max c (ls.length:Int):=by simp only[k_];split<;>omega
   refine⟨d.length,e,hd,c,by rw[ja hd,hg],d.length,e,hd,by rw[sG];simp,?_⟩;rw[Nat.mul_one,LU,Nm _ hd,l6];refine⟨⟨by rw[sG];simp,by simp;omega,rfl,rfl⟩,?_⟩;have next:=ih (i+1,d++[max c (ls.length:Int)],0) ⟨by simp;omega,by simp;omega,hf⟩ (by simp;omega)
   simp only[cC,bp,zT (d++[max c (ls.length:Int)]) [0]]at next
   have e2:(d++[max c (ls.length:Int)]++[0]).length=(d++[c]).length+1:=by simp
   rw[e2]at next
   exact next
  ·have hk:k≠1:=by simpa using hk
   simp only[kA,hk,if_false]at hf;exact ih (i+1,d,c) ⟨by simp;omega,by simp;omega,hf⟩ (by simp;omega)
 ·have aS:gs.length<=i:=by simpa using aS
  rw[eT aS,kA]at hf;subst hf;exact⟨rfl,rfl⟩
theorem XK:bm Z Pd:=by refine de Pc ?_;rintro⟨⟨nm,ar,aC⟩,l,gs⟩ args H ⟨rfl,rfl,ho,hg⟩;simp only at hg;refine eS Pc 1000 (fun _=>[3,12,13,14]) 40 (by kernel_rfl) ?_;simp only[Qy,ft];rw[ass];refine abE (g:=0) (n:=1) (l:=[(0,.aw (aX [(l.length:Int)]) 3)]) (T:=[(3,.bE 0 0 1 1 1 true),(12,.ax (bN gs) gs.length 6),(13,J (Int.ofNat gs.length)),(14,J ((0:Nat):Int))]) (new:=bp [(l.length:Int)] 3) ?_ rfl (fun φ e o h=>CT (Cb _).2 h) rfl (by kernel_rfl);exact asr ho.2.2.2.1 ho.2.2.2.2 (0,[],(l.length:Int)) ⟨by simp,by simp;omega,rfl⟩
abbrev jO:=Int×LN×LN×LN×LN
def fe:List jO:=[
 (1,[103,101,116,95,118,97,114],[114,97],[97],[114]),
 (2,[103,101,116,95,118,97,108],[114,97],[114,97],[]),
 (3,[103,101,116,95,105,110,116],[97,110],[97],[]),
 (4,[103,101,116,95,97,116,111,109],[97,115],[97],[]),
 (5,[103,101,116,95,115,116,114,117,99,116],[97,102],[97],[]),
 (6,[97,114,103,95,118,97,114],[114],[],[114]),
 (7,[97,114,103,95,118,97,108],[114],[114],[]),
 (8,[97,114,103,95,105,110,116],[110],[],[]),
 (9,[97,114,103,95,97,116,111,109],[115],[],[]),
 (10,[97,114,103,95,118,111,105,100],[118],[],[]),
 (11,[112,117,116,95,118,97,114],[114,97],[],[114,97]),
 (12,[112,117,116,95,118,97,108],[114,97],[114],[97]),
 (13,[112,117,116,95,105,110,116],[97,110],[],[97]),
 (14,[112,117,116,95,97,116,111,109],[97,115],[],[97]),
 (15,[112,117,116,95,115,116,114,117,99,116],[114,102],[],[114]),
 (16,[97,108,108,111,99,97,116,101],[99],[],[]),
 (17,[116,114,105,109],[99],[],[]),
 (18,[102,114,101,101],[],[],[]),
 (19,[99,97,108,108],[112],[112],[]),
 (20,[101,120,101,99,117,116,101],[112],[112],[]),
 (21,[112,114,111,99,101,101,100],[],[],[]),
 (22,[108,101,118,101,108],[114],[],[114]),
 (23,[109,97,114,107],[114],[],[114]),
 (24,[99,117,116],[114],[114],[]),
 (25,[102,97,105,108],[],[],[])]
def xh(r:jO):LV:=[J r.1,.aa r.2.1,.aa r.2.2.1,.aa r.2.2.2.1,.aa r.2.2.2.2]
def vH:List jO->LV
 |[]=>[]
 |r::l=>xh r++vH l
def DC(r:jO):LV:=[.aa r.2.1,.aa r.2.2.1,.aa r.2.2.2.1,.aa r.2.2.2.2]
def aar:List jO->LV
 |[]=>[]
 |r::l=>DC r++aar l
def sQ:jO:=(0,[],[],[],[])
def gp:List jO->Nat->Option jO
 |[],_=>none
 |r::_,0=>some r
 |_::l,i+1=>gp l i
def eZ:Int->Option jO
 |.ofNat 0=>none
 |.ofNat (n+1)=>gp fe n
 |.negSucc _=>none
def NK:LV->Option (Prop×AV)
 |[.ck .i64 k]=>some (True,match eZ k with|some r=>.aJ [.au (DC r),.ai true]|none=>.aJ [.au (DC sQ),.ai false])
 |_=>none
def NJ:LV->Option (Prop×AV)
 |[.ck .i64 k]=>some (True,match eZ k with|some r=>.aJ [.au (xh r),.ai true]|none=>.aJ [.au (xh sQ),.ai false])
 |_=>none
def agz:LV->Option (Prop×AV)
 |[]=>some (True,.au (aar (sQ::fe)))
 |_=>none
def avY:AH:=an [(0,.aF (vH fe) 132)] 1
def agY:LV->AH->Option (Prop×AV×AH)
 |[],H=>some (H=aq,.ad 0 25 5,avY)
 |_,_=>none
def dJ(r:Int):Bool:=decide (1<=r∧r<=4096)
def dj(r:Int):Bool:=decide (r≠0∧-4096<=r∧r<=4096)
def H5(i:a9):Bool:=hU ⟨i.cH,i.ar,i.n⟩
def aeX:LV->Option (Prop×AV)
 |[.ck .i64 r,.ai x]=>some (True,.ai (bif x then dJ r else dj r))
 |_=>none
def aev:LV->Option (Prop×AV)
 |[.au [.ck .i64 _,.ck .i64 _,.ck .i64 _,.ck .i64 n,.aa s,.ck .i64 ar]]=>some (True,.ai (hU ⟨s,ar,n⟩))
 |_=>none
def Zv:LV->Option (Prop×AV)
 |[.ck .i64 n,.ck .i64 a,.ck .i64 b]=>some (True,.ai (decide (a<=n∧n<=b)))
 |_=>none
def adx:LV->Option (Prop×AV)
 |[.aa s]=>some (True,.ai (decide ((s.length:Int)<=100)))
 |_=>none
def aeW:LV->Option (Prop×AV)
 |[.ck .i64 r]=>some (True,.ai (dj r))
 |_=>none
def D1:Ev.bz:=eB 146 (eG zL) Pd
def D2:Ev.bz:=eB 136 (eG aev) D1
def D3:Ev.bz:=eB 135 (eG aeX) D2
def D4:Ev.bz:=eB 75 (eG Zv) D3
def D5:Ev.bz:=eB 79 (eG aeW) D4
def D6:Ev.bz:=eB 80 (eG adx) D5
def D7:Ev.bz:=eB 76 (eG zL) D6
def D8:Ev.bz:=eB 144 (eG agz) D7
def D9:Ev.bz:=eB 137 (eG NK) D8
def Pf:Ev.bz:=eB 115 agY D9
def JF:Ev.bz:=eB 78 (eG NJ) Pf
theorem asa(nm:LN)(ar aC:Int)(L:LT)(Q:QT):
 b8 Z Pd (fun _=>[]) L Q 1000 146 [.au [.aa nm,J ar,J aC]] aq=(
 ah (aC==0) (ah (decide (Int.ofNat nm.length<=100)) (ah (decide (ar>=0)) (Q (.ai (decide (ar<=8))) aq) (Q (.ai false) aq)) (Q (.ai false) aq)) (ah (dh nm []) (ah (decide (aC>=1)) (ah (decide (aC<=1099511627776)) (ah (decide (ar>=0)) (Q (.ai (decide (ar<=4096))) aq) (Q (.ai false) aq)) (Q (.ai false) aq)) (Q (.ai false) aq)) (Q (.ai false) aq))):=by kernel_rfl
theorem arL(o r a n:Int)(s:LN)(ar:Int)(L:LT)(Q:QT):
 b8 Z D1 (fun _=>[]) L Q 1000 136 [.au [J o,J r,J a,J n,.aa s,J ar]] aq=(
 ah (n==0) (ah (decide (Int.ofNat s.length<=100)) (ah (decide (ar>=0)) (Q (.ai (decide (ar<=8))) aq) (Q (.ai false) aq)) (Q (.ai false) aq)) (ah (dh s []) (ah (decide (n>=1)) (ah (decide (n<=1099511627776)) (ah (decide (ar>=0)) (Q (.ai (decide (ar<=4096))) aq) (Q (.ai false) aq)) (Q (.ai false) aq)) (Q (.ai false) aq)) (Q (.ai false) aq))):=by kernel_rfl
theorem arK(r:Int)(x:Bool)(L:LT)(Q:QT):
 b8 Z D2 (fun _=>[]) L Q 1000 135 [J r,.ai x] aq=(
 ah (decide (r>=1)) (ah (decide (r<=4096)) (Q (.ai true) aq) (ah (!x) (ah (decide (r<=-1)) (Q (.ai (decide (r>=-4096))) aq) (Q (.ai false) aq)) (Q (.ai false) aq))) (ah (!x) (ah (decide (r<=-1)) (Q (.ai (decide (r>=-4096))) aq) (Q (.ai false) aq)) (Q (.ai false) aq))):=by kernel_rfl
theorem at3(n a b:Int)(L:LT)(Q:QT):
 b8 Z D3 (fun _=>[]) L Q 1000 75 [J n,J a,J b] aq=(
 ah (decide (n>=a)) (Q (.ai (decide (n<=b))) aq) (Q (.ai false) aq)):=by kernel_rfl
theorem at7(r:Int)(L:LT)(Q:QT):
 b8 Z D4 (fun _=>[]) L Q 1000 79 [J r] aq=(
 ah (r !=0) ((an [] 0=aq∧True)∧Q (.ai (decide ((-4096:Int)<=r∧r<=4096))) aq) (Q (.ai false) aq)):=by kernel_rfl
theorem aue(s:LN)(L:LT)(Q:QT):
 b8 Z D5 (fun _=>[]) L Q 1000 80 [.aa s] aq=(
 Q (.ai (decide (Int.ofNat s.length<=100))) aq):=by kernel_rfl
theorem at4(nm:LN)(ar aC:Int)(L:LT)(Q:QT):
 b8 Z D6 (fun _=>[]) L Q 1000 76 [.au [.aa nm,J ar,J aC]] aq=(
 ah (aC==0) ((an [] 0=aq∧True)∧ah (decide (((nm.length:Nat):Int)<=100)) ((an [] 0=aq∧True)∧Q (.ai (decide ((0:Int)<=ar∧ar<=8))) aq) (Q (.ai false) aq)) (ah (dh nm []) ((an [] 0=aq∧True)∧ah (decide ((1:Int)<=aC∧aC<=1099511627776)) ((an [] 0=aq∧True)∧Q (.ai (decide ((0:Int)<=ar∧ar<=4096))) aq) (Q (.ai false) aq)) (Q (.ai false) aq))):=by kernel_rfl
theorem ar7(L:LT)(Q:QT):
 b8 Z D7 (fun _=>[]) L Q 1000 144 [] aq=(
 Q (.au [.aa [],.aa [],.aa [],.aa [],.aa [103,101,116,95,118,97,114],.aa [114,97],.aa [97],.aa [114],.aa [103,101,116,95,118,97,108],.aa [114,97],.aa [114,97],.aa [],.aa [103,101,116,95,105,110,116],.aa [97,110],.aa [97],.aa [],.aa [103,101,116,95,97,116,111,109],.aa [97,115],.aa [97],.aa [],.aa [103,101,116,95,115,116,114,117,99,116],.aa [97,102],.aa [97],.aa [],.aa [97,114,103,95,118,97,114],.aa [114],.aa [],.aa [114],.aa [97,114,103,95,118,97,108],.aa [114],.aa [114],.aa [],.aa [97,114,103,95,105,110,116],.aa [110],.aa [],.aa [],.aa [97,114,103,95,97,116,111,109],.aa [115],.aa [],.aa [],.aa [97,114,103,95,118,111,105,100],.aa [118],.aa [],.aa [],.aa [112,117,116,95,118,97,114],.aa [114,97],.aa [],.aa [114,97],.aa [112,117,116,95,118,97,108],.aa [114,97],.aa [114],.aa [97],.aa [112,117,116,95,105,110,116],.aa [97,110],.aa [],.aa [97],.aa [112,117,116,95,97,116,111,109],.aa [97,115],.aa [],.aa [97],.aa [112,117,116,95,115,116,114,117,99,116],.aa [114,102],.aa [],.aa [114],.aa [97,108,108,111,99,97,116,101],.aa [99],.aa [],.aa [],.aa [116,114,105,109],.aa [99],.aa [],.aa [],.aa [102,114,101,101],.aa [],.aa [],.aa [],.aa [99,97,108,108],.aa [112],.aa [112],.aa [],.aa [101,120,101,99,117,116,101],.aa [112],.aa [112],.aa [],.aa [112,114,111,99,101,101,100],.aa [],.aa [],.aa [],.aa [108,101,118,101,108],.aa [114],.aa [],.aa [114],.aa [109,97,114,107],.aa [114],.aa [],.aa [114],.aa [99,117,116],.aa [114],.aa [114],.aa [],.aa [102,97,105,108],.aa [],.aa [],.aa []]) aq):=by kernel_rfl
theorem arM(k:Int)(L:LT)(Q:QT):
 b8 Z D8 (fun _=>[]) L Q 1000 137 [J k] aq=(
 ah (decide (k<1)) (Q (.aJ [.au [.aa [],.aa [],.aa [],.aa []],.ai false]) aq) (ah (decide (k>25)) (Q (.aJ [.au [.aa [],.aa [],.aa [],.aa []],.ai false]) aq) ((an [] 0=aq∧True)∧((0:Int)<=k∧k<26)∧(k=0->Q (.aJ [.au [.aa [],.aa [],.aa [],.aa []],.ai true]) aq)∧(k=1->Q (.aJ [.au [.aa [103,101,116,95,118,97,114],.aa [114,97],.aa [97],.aa [114]],.ai true]) aq)∧(k=2->Q (.aJ [.au [.aa [103,101,116,95,118,97,108],.aa [114,97],.aa [114,97],.aa []],.ai true]) aq)∧(k=3->Q (.aJ [.au [.aa [103,101,116,95,105,110,116],.aa [97,110],.aa [97],.aa []],.ai true]) aq)∧(k=4->Q (.aJ [.au [.aa [103,101,116,95,97,116,111,109],.aa [97,115],.aa [97],.aa []],.ai true]) aq)∧(k=5->Q (.aJ [.au [.aa [103,101,116,95,115,116,114,117,99,116],.aa [97,102],.aa [97],.aa []],.ai true]) aq)∧(k=6->Q (.aJ [.au [.aa [97,114,103,95,118,97,114],.aa [114],.aa [],.aa [114]],.ai true]) aq)∧(k=7->Q (.aJ [.au [.aa [97,114,103,95,118,97,108],.aa [114],.aa [114],.aa []],.ai true]) aq)∧(k=8->Q (.aJ [.au [.aa [97,114,103,95,105,110,116],.aa [110],.aa [],.aa []],.ai true]) aq)∧(k=9->Q (.aJ [.au [.aa [97,114,103,95,97,116,111,109],.aa [115],.aa [],.aa []],.ai true]) aq)∧(k=10->Q (.aJ [.au [.aa [97,114,103,95,118,111,105,100],.aa [118],.aa [],.aa []],.ai true]) aq)∧(k=11->Q (.aJ [.au [.aa [112,117,116,95,118,97,114],.aa [114,97],.aa [],.aa [114,97]],.ai true]) aq)∧(k=12->Q (.aJ [.au [.aa [112,117,116,95,118,97,108],.aa [114,97],.aa [114],.aa [97]],.ai true]) aq)∧(k=13->Q (.aJ [.au [.aa [112,117,116,95,105,110,116],.aa [97,110],.aa [],.aa [97]],.ai true]) aq)∧(k=14->Q (.aJ [.au [.aa [112,117,116,95,97,116,111,109],.aa [97,115],.aa [],.aa [97]],.ai true]) aq)∧(k=15->Q (.aJ [.au [.aa [112,117,116,95,115,116,114,117,99,116],.aa [114,102],.aa [],.aa [114]],.ai true]) aq)∧(k=16->Q (.aJ [.au [.aa [97,108,108,111,99,97,116,101],.aa [99],.aa [],.aa []],.ai true]) aq)∧(k=17->Q (.aJ [.au [.aa [116,114,105,109],.aa [99],.aa [],.aa []],.ai true]) aq)∧(k=18->Q (.aJ [.au [.aa [102,114,101,101],.aa [],.aa [],.aa []],.ai true]) aq)∧(k=19->Q (.aJ [.au [.aa [99,97,108,108],.aa [112],.aa [112],.aa []],.ai true]) aq)∧(k=20->Q (.aJ [.au [.aa [101,120,101,99,117,116,101],.aa [112],.aa [112],.aa []],.ai true]) aq)∧(k=21->Q (.aJ [.au [.aa [112,114,111,99,101,101,100],.aa [],.aa [],.aa []],.ai true]) aq)∧(k=22->Q (.aJ [.au [.aa [108,101,118,101,108],.aa [114],.aa [],.aa [114]],.ai true]) aq)∧(k=23->Q (.aJ [.au [.aa [109,97,114,107],.aa [114],.aa [],.aa [114]],.ai true]) aq)∧(k=24->Q (.aJ [.au [.aa [99,117,116],.aa [114],.aa [114],.aa []],.ai true]) aq)∧(k=25->Q (.aJ [.au [.aa [102,97,105,108],.aa [],.aa [],.aa []],.ai true]) aq)∧True))):=by kernel_rfl
theorem aqT(L:LT)(Q:QT):
 b8 Z D9 (fun _=>[]) L Q 1000 115 [] aq=(
 Q (.bE 0 0 25 25 5 true) (an [(0,.aw [J 1,.aa [103,101,116,95,118,97,114],.aa [114,97],.aa [97],.aa [114],J 2,.aa [103,101,116,95,118,97,108],.aa [114,97],.aa [114,97],.aa [],J 3,.aa [103,101,116,95,105,110,116],.aa [97,110],.aa [97],.aa [],J 4,.aa [103,101,116,95,97,116,111,109],.aa [97,115],.aa [97],.aa [],J 5,.aa [103,101,116,95,115,116,114,117,99,116],.aa [97,102],.aa [97],.aa [],J 6,.aa [97,114,103,95,118,97,114],.aa [114],.aa [],.aa [114],J 7,.aa [97,114,103,95,118,97,108],.aa [114],.aa [114],.aa [],J 8,.aa [97,114,103,95,105,110,116],.aa [110],.aa [],.aa [],J 9,.aa [97,114,103,95,97,116,111,109],.aa [115],.aa [],.aa [],J 10,.aa [97,114,103,95,118,111,105,100],.aa [118],.aa [],.aa [],J 11,.aa [112,117,116,95,118,97,114],.aa [114,97],.aa [],.aa [114,97],J 12,.aa [112,117,116,95,118,97,108],.aa [114,97],.aa [114],.aa [97],J 13,.aa [112,117,116,95,105,110,116],.aa [97,110],.aa [],.aa [97],J 14,.aa [112,117,116,95,97,116,111,109],.aa [97,115],.aa [],.aa [97],J 15,.aa [112,117,116,95,115,116,114,117,99,116],.aa [114,102],.aa [],.aa [114],J 16,.aa [97,108,108,111,99,97,116,101],.aa [99],.aa [],.aa [],J 17,.aa [116,114,105,109],.aa [99],.aa [],.aa [],J 18,.aa [102,114,101,101],.aa [],.aa [],.aa [],J 19,.aa [99,97,108,108],.aa [112],.aa [112],.aa [],J 20,.aa [101,120,101,99,117,116,101],.aa [112],.aa [112],.aa [],J 21,.aa [112,114,111,99,101,101,100],.aa [],.aa [],.aa [],J 22,.aa [108,101,118,101,108],.aa [114],.aa [],.aa [114],J 23,.aa [109,97,114,107],.aa [114],.aa [],.aa [114],J 24,.aa [99,117,116],.aa [114],.aa [114],.aa [],J 25,.aa [102,97,105,108],.aa [],.aa [],.aa []] 132)] 1)):=by kernel_rfl
theorem at6(k:Int)(L:LT)(Q:QT):
 b8 Z Pf (fun _=>[]) L Q 1000 78 [J k] aq=(
 ah (decide (k<1)) (Q (.aJ [.au [J 0,.aa [],.aa [],.aa [],.aa []],.ai false]) aq) (ah (decide (k>25)) (Q (.aJ [.au [J 0,.aa [],.aa [],.aa [],.aa []],.ai false]) aq) (an [] 0=aq∧(∃i:Nat,wI (k-1)=(i:Int)∧i<25∧(∃n:Int,∃s:LN,∃db:LN,∃iI:LN,∃s_3:LN,bQ Z 132 [J 1,.aa [103,101,116,95,118,97,114],.aa [114,97],.aa [97],.aa [114],J 2,.aa [103,101,116,95,118,97,108],.aa [114,97],.aa [114,97],.aa [],J 3,.aa [103,101,116,95,105,110,116],.aa [97,110],.aa [97],.aa [],J 4,.aa [103,101,116,95,97,116,111,109],.aa [97,115],.aa [97],.aa [],J 5,.aa [103,101,116,95,115,116,114,117,99,116],.aa [97,102],.aa [97],.aa [],J 6,.aa [97,114,103,95,118,97,114],.aa [114],.aa [],.aa [114],J 7,.aa [97,114,103,95,118,97,108],.aa [114],.aa [114],.aa [],J 8,.aa [97,114,103,95,105,110,116],.aa [110],.aa [],.aa [],J 9,.aa [97,114,103,95,97,116,111,109],.aa [115],.aa [],.aa [],J 10,.aa [97,114,103,95,118,111,105,100],.aa [118],.aa [],.aa [],J 11,.aa [112,117,116,95,118,97,114],.aa [114,97],.aa [],.aa [114,97],J 12,.aa [112,117,116,95,118,97,108],.aa [114,97],.aa [114],.aa [97],J 13,.aa [112,117,116,95,105,110,116],.aa [97,110],.aa [],.aa [97],J 14,.aa [112,117,116,95,97,116,111,109],.aa [97,115],.aa [],.aa [97],J 15,.aa [112,117,116,95,115,116,114,117,99,116],.aa [114,102],.aa [],.aa [114],J 16,.aa [97,108,108,111,99,97,116,101],.aa [99],.aa [],.aa [],J 17,.aa [116,114,105,109],.aa [99],.aa [],.aa [],J 18,.aa [102,114,101,101],.aa [],.aa [],.aa [],J 19,.aa [99,97,108,108],.aa [112],.aa [112],.aa [],J 20,.aa [101,120,101,99,117,116,101],.aa [112],.aa [112],.aa [],J 21,.aa [112,114,111,99,101,101,100],.aa [],.aa [],.aa [],J 22,.aa [108,101,118,101,108],.aa [114],.aa [],.aa [114],J 23,.aa [109,97,114,107],.aa [114],.aa [],.aa [114],J 24,.aa [99,117,116],.aa [114],.aa [114],.aa [],J 25,.aa [102,97,105,108],.aa [],.aa [],.aa []] (i*5)=some (.au [J n,.aa s,.aa db,.aa iI,.aa s_3]:AV)∧Q (.aJ [.au [J n,.aa s,.aa db,.aa iI,.aa s_3],.ai true]) aq))))):=by kernel_rfl
theorem ayb{P:Program}{S:Ev.bz}{f:FuncId}(hS:bm P S)(s:LV->Option (Prop×AV))(h:∀args q v,s args=some (q,v)->q->dT P f args aq v aq)(di:f≠999999:=by first|assumption|decide):bm P (eB f (eG s) S):=iE hS h
theorem XV:bm Z D1:=by
 refine iE XK fun args q v h hq=>?_
 unfold zL at h;split at h<;>cases h;refine eS XK 1000 (fun _=>[]) 43 (by kernel_rfl) ?_;rw[asa]
 (repeat' (refine aI.2 ⟨fun _=>?_,fun _=>?_⟩))
 all_goals
  refine⟨?_,rfl⟩;congr 1
  (rw[Bool.eq_iff_iff];simp_all[hU,kD]<;>(try intros)<;>omega)
theorem XW:bm Z D2:=by
 refine iE XV fun args q v h hq=>?_
 unfold aev at h;split at h<;>cases h;refine eS XV 1000 (fun _=>[]) 43 (by kernel_rfl) ?_;rw[arL]
 (repeat' (refine aI.2 ⟨fun _=>?_,fun _=>?_⟩))
 all_goals
  refine⟨?_,rfl⟩;congr 1
  (rw[Bool.eq_iff_iff];simp_all[hU,kD]<;>(try intros)<;>omega)
theorem XX:bm Z D3:=by
 refine iE XW fun args q v h hq=>?_
 unfold aeX at h;split at h<;>cases h;refine eS XW 1000 (fun _=>[]) 23 (by kernel_rfl) ?_;rw[arK];rename_i r x;cases x;all_goals
  (repeat' (refine aI.2 ⟨fun _=>?_,fun _=>?_⟩))
  all_goals
   refine⟨?_,rfl⟩;congr 1
   (rw[Bool.eq_iff_iff];simp_all[dj,dJ]<;>(try intros)<;>omega)
theorem XY:bm Z D4:=by
 refine iE XX fun args q v h hq=>?_
 unfold Zv at h;split at h<;>cases h;refine eS XX 1000 (fun _=>[]) 15 (by kernel_rfl) ?_;rw[at3]
 (repeat' (refine aI.2 ⟨fun _=>?_,fun _=>?_⟩))
 all_goals
  refine⟨?_,rfl⟩;congr 1
  (rw[Bool.eq_iff_iff];simp_all<;>(try intros)<;>omega)
theorem XZ:bm Z D5:=by
 refine iE XY fun args q v h hq=>?_
 unfold aeW at h;split at h<;>cases h;refine eS XY 1000 (fun _=>[]) 9 (by kernel_rfl) ?_;rw[at7]
 (repeat' (refine aI.2 ⟨fun _=>?_,fun _=>?_⟩))
 all_goals
  first
  |(refine⟨?_,rfl⟩;congr 1;(rw[Bool.eq_iff_iff];simp_all[dj]<;>(try intros)<;>omega))
  |(refine⟨⟨rfl,trivial⟩,?_,rfl⟩;congr 1;(rw[Bool.eq_iff_iff];simp_all[dj]<;>(try intros)<;>omega))
theorem X0:bm Z D6:=by
 refine iE XZ fun args q v h hq=>?_
 unfold adx at h;split at h<;>cases h;refine eS XZ 1000 (fun _=>[]) 6 (by kernel_rfl) ?_;rw[aue];exact⟨rfl,rfl⟩
theorem X_:bm Z D7:=by
 refine iE X0 fun args q v h hq=>?_
 unfold zL at h;split at h<;>cases h;refine eS X0 1000 (fun _=>[]) 27 (by kernel_rfl) ?_;rw[at4];refine aI.2 ⟨fun h1=>⟨⟨rfl,trivial⟩,aI.2 ⟨fun h2=>⟨⟨rfl,trivial⟩,?_,rfl⟩,fun h2=>⟨?_,rfl⟩⟩⟩,fun h1=>aI.2 ⟨fun h2=>⟨⟨rfl,trivial⟩,aI.2 ⟨fun h3=>⟨⟨rfl,trivial⟩,?_,rfl⟩,fun h3=>⟨?_,rfl⟩⟩⟩,fun h2=>⟨?_,rfl⟩⟩⟩;all_goals
  congr 1
  (rw[Bool.eq_iff_iff];simp_all[hU,kD]<;>(try intros)<;>omega)
theorem Yc:bm Z D8:=by
 refine iE X_ fun args q v h hq=>?_
 unfold agz at h;split at h<;>cases h;refine eS X_ 1000 (fun _=>[]) 27 (by kernel_rfl) ?_;rw[ar7];exact⟨rfl,rfl⟩
theorem agp{k:Int}(h:k<1):eZ k=none:=by
 cases k with
 |ofNat n=>
  cases n with
  |zero=>rfl
  |succ n=>exfalso;simp at h;omega
 |negSucc n=>rfl
theorem ago{k:Int}(h:k>25):eZ k=none:=by obtain⟨n,rfl⟩:∃n:Nat,k=Int.ofNat (n+26):=⟨(k-26).toNat,by simp;omega⟩;rfl
theorem Ph:bm Z D9:=by
 refine iE Yc fun args q v h hq=>?_
 unfold NK at h;split at h<;>cases h;rename_i k;refine eS Yc 1000 (fun _=>[]) 14 (by kernel_rfl) ?_;rw[arM];refine aI.2 ⟨fun h1=>?_,fun h1=>?_⟩
 ·have h1:k<1:=by simpa using h1
  rw[agp h1];exact⟨rfl,rfl⟩
 have h1:¬k<1:=by simpa using h1
 refine aI.2 ⟨fun h2=>?_,fun h2=>?_⟩
 ·have h2:k>25:=by simpa using h2
  rw[ago h2];exact⟨rfl,rfl⟩
 have h2:¬k>25:=by simpa using h2
 refine⟨⟨rfl,trivial⟩,⟨by omega,by omega⟩,fun h=>absurd h (by omega),?_⟩;repeat' (first|exact trivial|refine⟨fun h=>?_,?_⟩|fail)
 all_goals
  subst h;exact⟨rfl,rfl⟩
theorem ajU:∀l:List jO,(vH l).length=l.length*5
 |[]=>rfl
 |r::l=>by simp[vH,xh,ajU l];omega
theorem aoB(a b c d e:AV)(l:LV):bQ Z 132 (a::b::c::d::e::l) 0=some (.au [a,b,c,d,e]):=by kernel_rfl
theorem aoC(cs:LV)(off:Nat):bQ Z 132 cs off=bQ Z 132 (cs.drop off) 0:=by kernel_rfl
theorem aen:∀(l:List jO) (i:Nat) (h:i<l.length),bQ Z 132 ((vH l).drop (i*5)) 0=some (.au (xh l[i]))
 |r::l,0,_=>by simp only[Nat.zero_mul,jB,vH,xh,sA,BX,aoB];rfl
 |r::l,i+1,h=>by
  have:=aen l i (by simpa using h);have e:(vH (r::l)).drop ((i+1)*5)=(vH l).drop (i*5):=by rw[Nat.add_mul,Nat.one_mul,Nat.add_comm,←List.drop_drop];rfl
  rw[e,this];rfl
theorem adL:∀(l:List jO) (i:Nat) (h:i<l.length),gp l i=some l[i]
 |r::l,0,_=>rfl
 |r::l,i+1,h=>adL l i (by simpa using h)
theorem XS:bm Z Pf:=by
 refine Az Ph fun args H p v H' h hp=>?_
 unfold agY at h;split at h<;>cases h;cases hp;refine KK (g:=0) (n:=1) (l:=[(0,.aw (vH fe) 132)]) (old:=.aw (vH fe) 132) (v:=.bE 0 0 25 25 5 true) ?_ rfl (fun φ e o h=>CT (by kernel_rfl) h) rfl (by show(0:Nat)<=1;omega);refine eS Ph 1000 (fun _=>[]) 27 (by kernel_rfl) ?_;rw[aqT];exact⟨rfl,rfl⟩
theorem Pg:bm Z JF:=by
 refine iE XS fun args q v h hq=>?_
 unfold NJ at h;split at h<;>cases h;rename_i k;refine eS XS 1000 (fun _=>[]) 16 (by kernel_rfl) ?_;rw[at6];refine aI.2 ⟨fun h1=>?_,fun h1=>?_⟩
 ·have h1:k<1:=by simpa using h1
  rw[agp h1];exact⟨rfl,rfl⟩
 have h1:¬k<1:=by simpa using h1
 refine aI.2 ⟨fun h2=>?_,fun h2=>?_⟩
 ·have h2:k>25:=by simpa using h2
  rw[ago h2];exact⟨rfl,rfl⟩
 have h2:¬k>25:=by simpa using h2
 obtain⟨n,rfl⟩:∃n:Nat,k=Int.ofNat (n+1):=⟨(k-1).toNat,by simp;omega⟩;have hn:n<fe.length:=by have:fe.length=25:=rfl;simp at h2;omega
 have e:wI (Int.ofNat (n+1)-1)=(n:Int):=by
  have:fe.length=25:=rfl;have e0:Int.ofNat (n+1)-1=(n:Int):=by simp
  rw[e0,cX (by omega) (by omega)]
 have hs:eZ (Int.ofNat (n+1))=some fe[n]:=adL _ _ hn;refine⟨rfl,n,e,hn,_,_,_,_,_,(aoC _ _).trans (aen fe n hn),?_⟩;rw[hs];exact⟨rfl,rfl⟩
def zZ(i:a9):Bool:=decide ((i.cH.length:Int)<=100∧1<=i.ar∧i.ar<=8)
def bG(i:a9):Bool:=
 if i.op=1∨i.op=2∨i.op=11∨i.op=12 then dj i.r&&dJ i.a&&decide (i.n=0∧i.cH=[]∧i.ar=0)
 else if i.op=3∨i.op=13 then dJ i.a&&decide (i.r=0∧i.cH=[]∧i.ar=0)
 else if i.op=4∨i.op=14 then dJ i.a&&decide ((i.cH.length:Int)<=100∧i.r=0∧i.n=0∧i.ar=0)
 else if i.op=5 then dJ i.a&&zZ i&&decide (i.r=0∧i.n=0)
 else if i.op=15 then dj i.r&&zZ i&&decide (i.a=0∧i.n=0)
 else if i.op=6∨i.op=7∨i.op=22∨i.op=23∨i.op=24 then dj i.r&&decide (i.a=0∧i.n=0∧i.cH=[]∧i.ar=0)
 else if i.op=8 then decide (i.r=0∧i.a=0∧i.cH=[]∧i.ar=0)
 else if i.op=9 then decide ((i.cH.length:Int)<=100∧i.r=0∧i.a=0∧i.n=0∧i.ar=0)
 else if i.op=10 then decide (1<=i.n∧i.n<=8∧i.r=0∧i.a=0∧i.cH=[]∧i.ar=0)
 else if i.op=16∨i.op=17 then decide (0<=i.n∧i.n<=4096∧i.r=0∧i.a=0∧i.cH=[]∧i.ar=0)
 else if i.op=19∨i.op=20 then H5 i&&decide (i.r=0∧i.a=0)
 else if i.op=18∨i.op=21∨i.op=25 then decide (i.r=0∧i.a=0∧i.n=0∧i.cH=[]∧i.ar=0)
 else false
def DO:LV->Option (Prop×AV)
 |[.au [.ck .i64 o,.ck .i64 r,.ck .i64 a,.ck .i64 n,.aa s,.ck .i64 ar]]=>some (True,.ai (bG ⟨o,r,a,n,s,ar⟩))
 |_=>none
def JG:Ev.bz:=eB 145 (eG DO) JF
abbrev tT:Prop:=an [] 0=aq∧True
def GY(r a n:Int)(s:LN)(ar:Int):Nat->Bool
 |0|_+26=>false
 |1|2|11|12=>dj r&&dJ a&&decide (n=0∧s=[]∧ar=0)
 |3|13=>dJ a&&decide (r=0∧s=[]∧ar=0)
 |4|14=>dJ a&&decide ((s.length:Int)<=100∧r=0∧n=0∧ar=0)
 |5=>dJ a&&(decide ((s.length:Int)<=100∧1<=ar∧ar<=8))&&decide (r=0∧n=0)
 |6|7|22|23|24=>dj r&&decide (a=0∧n=0∧s=[]∧ar=0)
 |8=>decide (r=0∧a=0∧s=[]∧ar=0)
 |9=>decide ((s.length:Int)<=100∧r=0∧a=0∧n=0∧ar=0)
 |10=>decide (1<=n∧n<=8∧r=0∧a=0∧s=[]∧ar=0)
 |15=>dj r&&(decide ((s.length:Int)<=100∧1<=ar∧ar<=8))&&decide (a=0∧n=0)
 |16|17=>decide (0<=n∧n<=4096∧r=0∧a=0∧s=[]∧ar=0)
 |18|21|25=>decide (r=0∧a=0∧n=0∧s=[]∧ar=0)
 |19|20=>hU ⟨s,ar,n⟩&&decide (r=0∧a=0)
theorem aa0(r a n:Int)(s:LN)(ar:Int):∀k:Nat,bG ⟨.ofNat k,r,a,n,s,ar⟩=GY r a n s ar k
 |0|1|2|3|4|5|6|7|8|9|10|11|12|13|14|15|16|17|18|19|20|21|22|23|24|25|m+26=>rfl
def ahW(r a n:Int)(s:LN)(ar:Int)(B:Bool->Prop):Nat->Prop
 |0|_+26=>tT∧B false
 |1|2|11|12=>tT∧ah (r !=0) (ah (decide (r>=-4096)) (ah (decide (r<=4096)) (ah (decide (a>=1)) (ah (decide (a<=4096)) (B (true&&(r==r&&(a==a&&(n==0&&(dh s []&&(ar==0&&true))))))) (B false)) (B false)) (B false)) (B false)) (B false)
 |3|13=>tT∧ah (decide (a>=1)) (ah (decide (a<=4096)) (B (true&&(r==0&&(a==a&&(n==n&&(dh s []&&(ar==0&&true))))))) (B false)) (B false)
 |4|14=>tT∧ah (decide (a>=1)) (ah (decide (a<=4096)) (ah (decide (Int.ofNat s.length<=100)) (B (true&&(r==0&&(a==a&&(n==0&&(dh s s&&(ar==0&&true))))))) (B false)) (B false)) (B false)
 |5=>tT∧ah (decide (a>=1)) (some (J ar:AV)=some (J ar:AV)∧ah (decide (a<=4096)) (ah (decide (Int.ofNat s.length<=100)) (ah (decide (ar>=1)) (ah (decide (ar<=8)) (B (true&&(r==0&&(a==a&&(n==0&&(dh s s&&(ar==ar&&true))))))) (B false)) (B false)) (B false)) (B false)) (some (J ar:AV)=some (J ar:AV)∧B false)
 |6|7|22|23|24=>tT∧ah (r !=0) (ah (decide (r>=-4096)) (ah (decide (r<=4096)) (B (true&&(r==r&&(a==0&&(n==0&&(dh s []&&(ar==0&&true))))))) (B false)) (B false)) (B false)
 |8=>tT∧B (true&&(r==0&&(a==0&&(n==n&&(dh s []&&(ar==0&&true))))))
 |9=>tT∧ah (decide (Int.ofNat s.length<=100)) (B (true&&(r==0&&(a==0&&(n==0&&(dh s s&&(ar==0&&true))))))) (B false)
 |10=>tT∧ah (decide (n>=1)) (ah (decide (n<=8)) (B (true&&(r==0&&(a==0&&(n==n&&(dh s []&&(ar==0&&true))))))) (B false)) (B false)
 |15=>tT∧ah (r !=0) (ah (decide (r>=-4096)) (some (J ar:AV)=some (J ar:AV)∧ah (decide (r<=4096)) (ah (decide (Int.ofNat s.length<=100)) (ah (decide (ar>=1)) (ah (decide (ar<=8)) (B (true&&(r==r&&(a==0&&(n==0&&(dh s s&&(ar==ar&&true))))))) (B false)) (B false)) (B false)) (B false)) (some (J ar:AV)=some (J ar:AV)∧B false)) (some (J ar:AV)=some (J ar:AV)∧B false)
 |16|17=>tT∧ah (decide (n>=0)) (ah (decide (n<=4096)) (B (true&&(r==0&&(a==0&&(n==n&&(dh s []&&(ar==0&&true))))))) (B false)) (B false)
 |18|21|25=>tT∧B (true&&(r==0&&(a==0&&(n==0&&(dh s []&&(ar==0&&true))))))
 |19|20=>tT∧some (J n:AV)=some (J n:AV)∧some (J ar:AV)=some (J ar:AV)∧some (J n:AV)=some (J n:AV)∧tT∧ah (hU (dG.mk s ar n)) (B (true&&(r==0&&(a==0&&(n==n&&(dh s s&&(ar==ar&&true))))))) (B false)
theorem ar8(r a n:Int)(s:LN)(ar:Int)(L:LT)(Q:QT):∀k:Nat,
 b8 Z JF (fun _=>[1000000]) L Q 3000 145 [.au [J (.ofNat k),J r,J a,J n,.aa s,J ar]] aq=ahW r a n s ar (fun b=>Q (.ai b) aq) k
 |0|1|2|3|4|5|6|7|8|9|10|11|12|13|14|15|16|17|18|19|20|21|22|23|24|25|m+26=>by kernel_rfl
theorem ar9(m:Nat)(r a n:Int)(s:LN)(ar:Int)(L:LT)(Q:QT):
 b8 Z JF (fun _=>[1000000]) L Q 3000 145 [.au [J (.negSucc m),J r,J a,J n,.aa s,J ar]] aq=((tT)∧Q (.ai false) aq):=by kernel_rfl
theorem XT:bm Z JG:=by
 refine iE Pg fun args q v h hq=>?_
 unfold DO at h;split at h<;>cases h;rename_i o r a n s ar;refine eS Pg 3000 (fun _=>[1000000]) 163 (by kernel_rfl) ?_;cases o with
 |negSucc m=>rw[ar9,show bG ⟨.negSucc m,r,a,n,s,ar⟩=false from rfl];exact⟨⟨rfl,trivial⟩,rfl,rfl⟩
 |ofNat k=>
  rw[ar8,aa0];match k with
  |0=>?_|1=>?_|2=>?_|3=>?_|4=>?_|5=>?_|6=>?_|7=>?_|8=>?_|9=>?_|10=>?_|11=>?_|12=>?_|13=>?_|14=>?_|15=>?_|16=>?_|17=>?_|18=>?_|19=>?_|20=>?_|21=>?_|22=>?_|23=>?_|24=>?_|25=>?_|m+26=>?_
  all_goals
   repeat' (first|(refine aI.2 ⟨fun _=>?_,fun _=>?_⟩)|(refine⟨⟨rfl,trivial⟩,?_⟩)|(refine⟨(rfl:some _=some _),?_⟩)|fail)
  all_goals
   refine⟨?_,rfl⟩;first
   |rfl
   |(congr 1;(rw[Bool.eq_iff_iff];simp_all[GY,dj,dJ,kD]<;>(try intros)<;>omega))
   |(congr 1;simp_all[GY];done)
   |fail
def XU:Ev.bz:=eB 123 (eG DO) JG
def ahV(r a n:Int)(s:LN)(ar:Int)(B:Bool->Prop):Nat->Prop
 |0|_+26=>ah (decide (Int.ofNat s.length<=100)) (ah (decide (ar>=1)) (B false) (B false)) (B false)
 |1|2|11|12=>ah (decide (Int.ofNat s.length<=100)) (ah (decide (ar>=1)) (tT∧ah (dj r) (tT∧ah (dJ a) (B (true&&(r==r&&(a==a&&(n==0&&(dh s []&&(ar==0&&true))))))) (B false)) (B false)) (tT∧ah (dj r) (tT∧ah (dJ a) (B (true&&(r==r&&(a==a&&(n==0&&(dh s []&&(ar==0&&true))))))) (B false)) (B false))) (tT∧ah (dj r) (tT∧ah (dJ a) (B (true&&(r==r&&(a==a&&(n==0&&(dh s []&&(ar==0&&true))))))) (B false)) (B false))
 |3|13=>ah (decide (Int.ofNat s.length<=100)) (ah (decide (ar>=1)) (tT∧ah (dJ a) (B (true&&(r==0&&(a==a&&(n==n&&(dh s []&&(ar==0&&true))))))) (B false)) (tT∧ah (dJ a) (B (true&&(r==0&&(a==a&&(n==n&&(dh s []&&(ar==0&&true))))))) (B false))) (tT∧ah (dJ a) (B (true&&(r==0&&(a==a&&(n==n&&(dh s []&&(ar==0&&true))))))) (B false))
 |4|14=>ah (decide (Int.ofNat s.length<=100)) (ah (decide (ar>=1)) (tT∧ah (dJ a) (ah (decide (Int.ofNat s.length<=100)) (B (true&&(r==0&&(a==a&&(n==0&&(dh s s&&(ar==0&&true))))))) (B false)) (B false)) (tT∧ah (dJ a) (ah (decide (Int.ofNat s.length<=100)) (B (true&&(r==0&&(a==a&&(n==0&&(dh s s&&(ar==0&&true))))))) (B false)) (B false))) (tT∧ah (dJ a) (ah (decide (Int.ofNat s.length<=100)) (B (true&&(r==0&&(a==a&&(n==0&&(dh s s&&(ar==0&&true))))))) (B false)) (B false))
 |5=>ah (decide (Int.ofNat s.length<=100)) (ah (decide (ar>=1)) (tT∧ah (dJ a) (ah (decide (ar<=8)) (B (true&&(r==0&&(a==a&&(n==0&&(dh s s&&(ar==ar&&true))))))) (B false)) (B false)) (tT∧ah (dJ a) (B false) (B false))) (tT∧ah (dJ a) (B false) (B false))
 |6|7|22|23|24=>ah (decide (Int.ofNat s.length<=100)) (ah (decide (ar>=1)) (tT∧ah (dj r) (B (true&&(r==r&&(a==0&&(n==0&&(dh s []&&(ar==0&&true))))))) (B false)) (tT∧ah (dj r) (B (true&&(r==r&&(a==0&&(n==0&&(dh s []&&(ar==0&&true))))))) (B false))) (tT∧ah (dj r) (B (true&&(r==r&&(a==0&&(n==0&&(dh s []&&(ar==0&&true))))))) (B false))
 |8=>ah (decide (Int.ofNat s.length<=100)) (ah (decide (ar>=1)) (B (true&&(r==0&&(a==0&&(n==n&&(dh s []&&(ar==0&&true))))))) (B (true&&(r==0&&(a==0&&(n==n&&(dh s []&&(ar==0&&true)))))))) (B (true&&(r==0&&(a==0&&(n==n&&(dh s []&&(ar==0&&true)))))))
 |9=>ah (decide (Int.ofNat s.length<=100)) (ah (decide (ar>=1)) (ah (decide (Int.ofNat s.length<=100)) (B (true&&(r==0&&(a==0&&(n==0&&(dh s s&&(ar==0&&true))))))) (B false)) (ah (decide (Int.ofNat s.length<=100)) (B (true&&(r==0&&(a==0&&(n==0&&(dh s s&&(ar==0&&true))))))) (B false))) (ah (decide (Int.ofNat s.length<=100)) (B (true&&(r==0&&(a==0&&(n==0&&(dh s s&&(ar==0&&true))))))) (B false))
 |10=>ah (decide (Int.ofNat s.length<=100)) (ah (decide (ar>=1)) (ah (decide (n>=1)) (ah (decide (n<=8)) (B (true&&(r==0&&(a==0&&(n==n&&(dh s []&&(ar==0&&true))))))) (B false)) (B false)) (ah (decide (n>=1)) (ah (decide (n<=8)) (B (true&&(r==0&&(a==0&&(n==n&&(dh s []&&(ar==0&&true))))))) (B false)) (B false))) (ah (decide (n>=1)) (ah (decide (n<=8)) (B (true&&(r==0&&(a==0&&(n==n&&(dh s []&&(ar==0&&true))))))) (B false)) (B false))
 |15=>ah (decide (Int.ofNat s.length<=100)) (ah (decide (ar>=1)) (tT∧ah (dj r) (ah (decide (ar<=8)) (B (true&&(r==r&&(a==0&&(n==0&&(dh s s&&(ar==ar&&true))))))) (B false)) (B false)) (tT∧ah (dj r) (B false) (B false))) (tT∧ah (dj r) (B false) (B false))
 |16|17=>ah (decide (Int.ofNat s.length<=100)) (ah (decide (ar>=1)) (ah (decide (n>=0)) (ah (decide (n<=4096)) (B (true&&(r==0&&(a==0&&(n==n&&(dh s []&&(ar==0&&true))))))) (B false)) (B false)) (ah (decide (n>=0)) (ah (decide (n<=4096)) (B (true&&(r==0&&(a==0&&(n==n&&(dh s []&&(ar==0&&true))))))) (B false)) (B false))) (ah (decide (n>=0)) (ah (decide (n<=4096)) (B (true&&(r==0&&(a==0&&(n==n&&(dh s []&&(ar==0&&true))))))) (B false)) (B false))
 |18|21|25=>ah (decide (Int.ofNat s.length<=100)) (ah (decide (ar>=1)) (B (true&&(r==0&&(a==0&&(n==0&&(dh s []&&(ar==0&&true))))))) (B (true&&(r==0&&(a==0&&(n==0&&(dh s []&&(ar==0&&true)))))))) (B (true&&(r==0&&(a==0&&(n==0&&(dh s []&&(ar==0&&true)))))))
 |19|20=>ah (decide (Int.ofNat s.length<=100)) (ah (decide (ar>=1)) (tT∧ah (hU (dG.mk s ar n)) (ah (r==0) (B (a==0)) (B false)) (B false)) (tT∧ah (hU (dG.mk s ar n)) (ah (r==0) (B (a==0)) (B false)) (B false))) (tT∧ah (hU (dG.mk s ar n)) (ah (r==0) (B (a==0)) (B false)) (B false))
theorem arl(r a n:Int)(s:LN)(ar:Int)(L:LT)(Q:QT):∀k:Nat,
 b8 Z JG (fun _=>[1000000]) L Q 3000 123 [.au [J (.ofNat k),J r,J a,J n,.aa s,J ar]] aq=ahV r a n s ar (fun b=>Q (.ai b) aq) k
 |0|1|2|3|4|5|6|7|8|9|10|11|12|13|14|15|16|17|18|19|20|21|22|23|24|25|m+26=>by kernel_rfl
theorem arn(m:Nat)(r a n:Int)(s:LN)(ar:Int)(L:LT)(Q:QT):
 b8 Z JG (fun _=>[1000000]) L Q 3000 123 [.au [J (.negSucc m),J r,J a,J n,.aa s,J ar]] aq=(ah (decide (Int.ofNat s.length<=100)) (ah (decide (ar>=1)) (Q (.ai false) aq) (Q (.ai false) aq)) (Q (.ai false) aq)):=by kernel_rfl
theorem ahD:bm Z XU:=by
 refine iE XT fun args q v h hq=>?_
 unfold DO at h;split at h<;>cases h;rename_i o r a n s ar;refine eS XT 3000 (fun _=>[1000000]) 231 (by kernel_rfl) ?_;cases o with
 |negSucc m=>
  rw[arn,show bG ⟨.negSucc m,r,a,n,s,ar⟩=false from rfl];repeat' (first|(refine aI.2 ⟨fun _=>?_,fun _=>?_⟩)|(refine⟨⟨rfl,trivial⟩,?_⟩)|(refine⟨(rfl:some _=some _),?_⟩)|fail)
  all_goals exact⟨rfl,rfl⟩
 |ofNat k=>
  rw[arl,aa0];match k with
  |0=>?_|1=>?_|2=>?_|3=>?_|4=>?_|5=>?_|6=>?_|7=>?_|8=>?_|9=>?_|10=>?_|11=>?_|12=>?_|13=>?_|14=>?_|15=>?_|16=>?_|17=>?_|18=>?_|19=>?_|20=>?_|21=>?_|22=>?_|23=>?_|24=>?_|25=>?_|m+26=>?_
  all_goals
   repeat' (first|(refine aI.2 ⟨fun _=>?_,fun _=>?_⟩)|(refine⟨⟨rfl,trivial⟩,?_⟩)|(refine⟨(rfl:some _=some _),?_⟩)|fail)
  all_goals
   refine⟨?_,rfl⟩;first
   |rfl
   |(congr 1;(rw[Bool.eq_iff_iff];simp_all[GY,dj,dJ,kD]<;>(try intros)<;>omega))
   |(congr 1;simp_all[GY];done)
   |fail
def dm(k:Int):jO×Bool:=match eZ k with|some r=>(r,true)|none=>(sQ,false)
def shX:dp (Int×jO×Bool)where
 ba w A H:=A=[J w.1]∧H=aq∧dm w.1=w.2
 v w:=.aJ [.au [.aa w.2.1.2.1,.aa w.2.1.2.2.1,.aa w.2.1.2.2.2.1,.aa w.2.1.2.2.2.2],.ai w.2.2]
 aN w:=aq
def agm:dp (Int×jO×Bool)where
 ba w A H:=A=[J w.1]∧H=aq∧dm w.1=w.2
 v w:=.aJ [.au [J w.2.1.1,.aa w.2.1.2.1,.aa w.2.1.2.2.1,.aa w.2.1.2.2.2.1,.aa w.2.1.2.2.2.2],.ai w.2.2]
 aN w:=aq
theorem agn{w w':Int×jO×Bool}{A:LV}(h1:A=[J w.1])(h2:dm w.1=w.2)(h3:A=[J w'.1])(h4:dm w'.1=w'.2):w=w':=by rw[h1]at h3;simp only[List.cons.injEq,AV.ck.injEq,true_and,and_true]at h3;obtain⟨a,b⟩:=w;obtain⟨a',b'⟩:=w';simp only at h3 h2 h4;subst h3;rw[←h2,←h4]
theorem avg:shX.dx:=by rintro w w' A H ⟨h1,_,h2⟩ ⟨h3,_,h4⟩;rw[agn h1 h2 h3 h4]
theorem avf:agm.dx:=by rintro w w' A H ⟨h1,_,h2⟩ ⟨h3,_,h4⟩;rw[agn h1 h2 h3 h4]
def E1:Ev.bz:=cz 137 (cM shX avg cZ) XU
def E2:Ev.bz:=cz 78 (cM agm avf cZ) E1
def E3:Ev.bz:=eB 43 (eG DO) E2
def lS(i:a9)(p:Bool×a9)(b:Nat):Bool×a9:=
 if b=114 then(p.1&&dj i.r,⟨p.2.op,0,p.2.a,p.2.n,p.2.cH,p.2.ar⟩)
 else if b=97 then(p.1&&dJ i.a,⟨p.2.op,p.2.r,0,p.2.n,p.2.cH,p.2.ar⟩)
 else if b=110 then(p.1,⟨p.2.op,p.2.r,p.2.a,0,p.2.cH,p.2.ar⟩)
 else if b=118 then(p.1&&decide (1<=i.n∧i.n<=8),⟨p.2.op,p.2.r,p.2.a,0,p.2.cH,p.2.ar⟩)
 else if b=99 then(p.1&&decide (0<=i.n∧i.n<=4096),⟨p.2.op,p.2.r,p.2.a,0,p.2.cH,p.2.ar⟩)
 else if b=115 then(p.1&&decide ((i.cH.length:Int)<=100),⟨p.2.op,p.2.r,p.2.a,p.2.n,[],p.2.ar⟩)
 else if b=102 then(p.1&&(decide ((i.cH.length:Int)<=100)&&decide (1<=i.ar∧i.ar<=8)),⟨p.2.op,p.2.r,p.2.a,p.2.n,[],0⟩)
 else if b=112 then(p.1&&H5 i,⟨p.2.op,p.2.r,p.2.a,0,[],0⟩)
 else p
def e_(i:a9):Bool:=match eZ i.op with
 |none=>false
 |some r=>((r.2.2.1.foldl (lS i) (true,⟨0,i.r,i.a,i.n,i.cH,i.ar⟩)).1&&decide ((r.2.2.1.foldl (lS i) (true,⟨0,i.r,i.a,i.n,i.cH,i.ar⟩)).2=⟨0,0,0,0,[],0⟩))
def RW(i:a9)(w:jO)(p:a9):AH:=an [(0,.aw [J i.op,J i.r,J i.a,J i.n,.aa i.cH,J i.ar] 50),(1,.aw [J w.1,.aa w.2.1,.aa w.2.2.1,.aa w.2.2.2.1,.aa w.2.2.2.2] 132),(2,.aw [J p.op,J p.r,J p.a,J p.n,.aa p.cH,J p.ar] 50)] 3
abbrev nN x0 x1:=aQ [(1,.ab 0 0),(3,.ab 1 0),(4,.ai x0),(5,.ab 2 0),(6,J x1)]
theorem asT(o r a n:Int)(s:LN)(ar:Int)(L:LT)(Q:QT):
 b8 Z E2 (fun _=>[1,3,4,5,6]) L Q 1000 43 [.au [J o,J r,J a,J n,.aa s,J ar]] aq=(
 ∃w:Int×jO×Bool,(([J o]:LV)=[J w.1]∧an [] 0=aq∧dm w.1=w.2)∧ah (!w.2.2) (Q (.ai false) aq) (L (nN w.2.2 0) (an [(0,.aw [J o,J r,J a,J n,.aa s,J ar] 50),(1,.aw [J w.2.1.1,.aa w.2.1.2.1,.aa w.2.1.2.2.1,.aa w.2.1.2.2.2.1,.aa w.2.1.2.2.2.2] 132),(2,.aw [J 0,J r,J a,J n,.aa s,J ar] 50)] 3) (ao Z 43 0))):=by kernel_rfl
theorem asU(i:a9)(w:jO)(p:a9)(ok:Bool)(k:Int)(L:LT)(Q:QT):
 cO Z E2 (fun _=>[1,3,4,5,6]) L Q 1000 43 0 (nN ok k) (ao Z 43 0) (RW i w p)=(
 ah (decide (k<Int.ofNat w.2.2.1.length)) (∃aD:Nat,k=(aD:Int)∧(∃b:Nat,w.2.2.1[aD]?=some b∧ah (Int.ofNat b==114) (ah ok ((an [] 0=aq∧True)∧L (nN (dj i.r) (wI (k+1))) (an [(0,.aw (cb i) 50),(1,.aw [J w.1,.aa w.2.1,.aa w.2.2.1,.aa w.2.2.2.1,.aa w.2.2.2.2] 132),(2,.aw [J p.op,J 0,J p.a,J p.n,.aa p.cH,J p.ar] 50)] 3) (ao Z 43 0)) (L (nN false (wI (k+1))) (an [(0,.aw (cb i) 50),(1,.aw [J w.1,.aa w.2.1,.aa w.2.2.1,.aa w.2.2.2.1,.aa w.2.2.2.2] 132),(2,.aw [J p.op,J 0,J p.a,J p.n,.aa p.cH,J p.ar] 50)] 3) (ao Z 43 0))) (ah (Int.ofNat b==97) (ah ok ((an [] 0=aq∧True)∧L (nN (decide ((1:Int)<=i.a∧i.a<=4096)) (wI (k+1))) (an [(0,.aw (cb i) 50),(1,.aw [J w.1,.aa w.2.1,.aa w.2.2.1,.aa w.2.2.2.1,.aa w.2.2.2.2] 132),(2,.aw [J p.op,J p.r,J 0,J p.n,.aa p.cH,J p.ar] 50)] 3) (ao Z 43 0)) (L (nN false (wI (k+1))) (an [(0,.aw (cb i) 50),(1,.aw [J w.1,.aa w.2.1,.aa w.2.2.1,.aa w.2.2.2.1,.aa w.2.2.2.2] 132),(2,.aw [J p.op,J p.r,J 0,J p.n,.aa p.cH,J p.ar] 50)] 3) (ao Z 43 0))) (ah (Int.ofNat b==110) (L (nN ok (wI (k+1))) (an [(0,.aw (cb i) 50),(1,.aw [J w.1,.aa w.2.1,.aa w.2.2.1,.aa w.2.2.2.1,.aa w.2.2.2.2] 132),(2,.aw [J p.op,J p.r,J p.a,J 0,.aa p.cH,J p.ar] 50)] 3) (ao Z 43 0)) (ah (Int.ofNat b==118) (ah ok ((an [] 0=aq∧True)∧L (nN (decide ((1:Int)<=i.n∧i.n<=8)) (wI (k+1))) (an [(0,.aw (cb i) 50),(1,.aw [J w.1,.aa w.2.1,.aa w.2.2.1,.aa w.2.2.2.1,.aa w.2.2.2.2] 132),(2,.aw [J p.op,J p.r,J p.a,J 0,.aa p.cH,J p.ar] 50)] 3) (ao Z 43 0)) (L (nN false (wI (k+1))) (an [(0,.aw (cb i) 50),(1,.aw [J w.1,.aa w.2.1,.aa w.2.2.1,.aa w.2.2.2.1,.aa w.2.2.2.2] 132),(2,.aw [J p.op,J p.r,J p.a,J 0,.aa p.cH,J p.ar] 50)] 3) (ao Z 43 0))) (ah (Int.ofNat b==99) (ah ok ((an [] 0=aq∧True)∧L (nN (decide ((0:Int)<=i.n∧i.n<=4096)) (wI (k+1))) (an [(0,.aw (cb i) 50),(1,.aw [J w.1,.aa w.2.1,.aa w.2.2.1,.aa w.2.2.2.1,.aa w.2.2.2.2] 132),(2,.aw [J p.op,J p.r,J p.a,J 0,.aa p.cH,J p.ar] 50)] 3) (ao Z 43 0)) (L (nN false (wI (k+1))) (an [(0,.aw (cb i) 50),(1,.aw [J w.1,.aa w.2.1,.aa w.2.2.1,.aa w.2.2.2.1,.aa w.2.2.2.2] 132),(2,.aw [J p.op,J p.r,J p.a,J 0,.aa p.cH,J p.ar] 50)] 3) (ao Z 43 0))) (ah (Int.ofNat b==115) (ah ok ((an [] 0=aq∧True)∧L (nN (decide (((i.cH.length:Nat):Int)<=100)) (wI (k+1))) (an [(0,.aw (cb i) 50),(1,.aw [J w.1,.aa w.2.1,.aa w.2.2.1,.aa w.2.2.2.1,.aa w.2.2.2.2] 132),(2,.aw [J p.op,J p.r,J p.a,J p.n,.aa [],J p.ar] 50)] 3) (ao Z 43 0)) (L (nN false (wI (k+1))) (an [(0,.aw (cb i) 50),(1,.aw [J w.1,.aa w.2.1,.aa w.2.2.1,.aa w.2.2.2.1,.aa w.2.2.2.2] 132),(2,.aw [J p.op,J p.r,J p.a,J p.n,.aa [],J p.ar] 50)] 3) (ao Z 43 0))) (ah (Int.ofNat b==102) (ah ok ((an [] 0=aq∧True)∧ah (decide (((i.cH.length:Nat):Int)<=100)) ((an [] 0=aq∧True)∧L (nN (decide ((1:Int)<=i.ar∧i.ar<=8)) (wI (k+1))) (an [(0,.aw (cb i) 50),(1,.aw [J w.1,.aa w.2.1,.aa w.2.2.1,.aa w.2.2.2.1,.aa w.2.2.2.2] 132),(2,.aw [J p.op,J p.r,J p.a,J p.n,.aa [],J 0] 50)] 3) (ao Z 43 0)) (L (nN false (wI (k+1))) (an [(0,.aw (cb i) 50),(1,.aw [J w.1,.aa w.2.1,.aa w.2.2.1,.aa w.2.2.2.1,.aa w.2.2.2.2] 132),(2,.aw [J p.op,J p.r,J p.a,J p.n,.aa [],J 0] 50)] 3) (ao Z 43 0))) (L (nN false (wI (k+1))) (an [(0,.aw (cb i) 50),(1,.aw [J w.1,.aa w.2.1,.aa w.2.2.1,.aa w.2.2.2.1,.aa w.2.2.2.2] 132),(2,.aw [J p.op,J p.r,J p.a,J p.n,.aa [],J 0] 50)] 3) (ao Z 43 0))) (ah (Int.ofNat b==112) (ah ok ((an [] 0=aq∧True)∧L (nN (hU (dG.mk i.cH i.ar i.n)) (wI (k+1))) (an [(0,.aw (cb i) 50),(1,.aw [J w.1,.aa w.2.1,.aa w.2.2.1,.aa w.2.2.2.1,.aa w.2.2.2.2] 132),(2,.aw [J p.op,J p.r,J p.a,J 0,.aa [],J 0] 50)] 3) (ao Z 43 0)) (L (nN false (wI (k+1))) (an [(0,.aw (cb i) 50),(1,.aw [J w.1,.aa w.2.1,.aa w.2.2.1,.aa w.2.2.2.1,.aa w.2.2.2.2] 132),(2,.aw [J p.op,J p.r,J p.a,J 0,.aa [],J 0] 50)] 3) (ao Z 43 0))) (L (nN ok (wI (k+1))) (RW i w p) (ao Z 43 0))))))))))) (ah ok (Q (.ai (p.op==0&&(p.r==0&&(p.a==0&&(p.n==0&&(dh p.cH []&&(p.ar==0&&true))))))) aq) (Q (.ai false) aq))):=by kernel_rfl
theorem ahE:bm Z E1:=by
 refine de ahD ?_;rintro⟨k,w,b⟩ args H ⟨rfl,rfl,h⟩;refine Ph.1 137 _ aq (aq=aq∧True) _ aq (by decide) (C_ ?_) ⟨rfl,trivial⟩;have h:(match eZ k with|some r=>(r,true)|none=>(sQ,false))=(w,b):=h;have e:NK [J k]=some (True,.aJ [.au (DC w),.ai b]):=by
  show some (True,(match eZ k with|some r=>AV.aJ [.au (DC r),.ai true]|none=>AV.aJ [.au (DC sQ),.ai false]))=_;cases hs:eZ k with
  |none=>rw[hs]at h;cases h;rfl
  |some r=>rw[hs]at h;cases h;rfl
 show eG NK [J k] aq=_;unfold eG;rw[e];rfl
theorem Pl:bm Z E2:=by
 refine de ahE ?_;rintro⟨k,w,b⟩ args H ⟨rfl,rfl,h⟩;refine Pg.1 78 _ aq (aq=aq∧True) _ aq (by decide) (C_ ?_) ⟨rfl,trivial⟩;have h:(match eZ k with|some r=>(r,true)|none=>(sQ,false))=(w,b):=h;have e:NJ [J k]=some (True,.aJ [.au (xh w),.ai b]):=by
  show some (True,(match eZ k with|some r=>AV.aJ [.au (xh r),.ai true]|none=>AV.aJ [.au (xh sQ),.ai false]))=_;cases hs:eZ k with
  |none=>rw[hs]at h;cases h;rfl
  |some r=>rw[hs]at h;cases h;rfl
 show eG NJ [J k] aq=_;unfold eG;rw[e];rfl
theorem asS{i:a9}{so:Int}{sn fs sr sw:LN}{az:Bool×a9}(hl:fs.length<1000):
 ∀q:Nat×Bool×a9,(q.1<=fs.length∧(fs.drop q.1).foldl (lS i) (q.2.1,q.2.2)=az)->
 bJ Z 43 113 0 (.ai (az.1&&decide (az.2=⟨0,0,0,0,[],0⟩))) aq (nN q.2.1 (q.1:Int)) (RW i (so,sn,fs,sr,sw) q.2.2) (ao Z 43 0):=by
 refine cV (fun q=>fs.length-q.1) _ _ _ _ ?_;rintro⟨k,ok,p⟩ ⟨hk,hf⟩ ih;simp only at hk hf ih⊢;refine hD Pl 1000 (fun _=>[1,3,4,5,6]) (by kernel_rfl) ?_;rw[asU];refine aI.2 ⟨fun aj=>?_,fun aS=>?_⟩
 ·have aj:k<fs.length:=by simpa using aj
  rw[dN aj,iy]at hf;have e:wI ((k:Int)+1)=((k+1:Nat):Int):=by rw[cX (by omega) (by omega)];simp
  refine⟨k,rfl,fs[k],jn aj,?_⟩;rw[e];have next:=fun tF p' (h:(fs.drop (k+1)).foldl (lS i) (tF,p')=az)=>ih (k+1,tF,p') ⟨by simp;omega,h⟩ (by simp;omega)
  simp only at next
  refine aI.2 ⟨fun hb=>?_,fun St=>?_⟩
  ·have hb:fs[k]=114:=by simp at hb;omega
   rw[hb]at hf;refine aI.2 ⟨fun h1=>?_,fun h1=>?_⟩
   ·subst h1;exact⟨⟨rfl,trivial⟩,next (dj i.r) ⟨p.op,0,p.a,p.n,p.cH,p.ar⟩ (by simpa[lS]using hf)⟩
   ·subst h1;exact next false ⟨p.op,0,p.a,p.n,p.cH,p.ar⟩ (by simpa[lS]using hf)
  have St:fs[k]≠114:=by intro h;simp[h]at St
  refine aI.2 ⟨fun hb=>?_,fun Sw=>?_⟩
  ·have hb:fs[k]=97:=by simp at hb;omega
   rw[hb]at hf;refine aI.2 ⟨fun h1=>?_,fun h1=>?_⟩
   ·subst h1;exact⟨⟨rfl,trivial⟩,next (dJ i.a) ⟨p.op,p.r,0,p.n,p.cH,p.ar⟩ (by simpa[lS]using hf)⟩
   ·subst h1;exact next false ⟨p.op,p.r,0,p.n,p.cH,p.ar⟩ (by simpa[lS]using hf)
  have Sw:fs[k]≠97:=by intro h;simp[h]at Sw
  refine aI.2 ⟨fun hb=>?_,fun Sr=>?_⟩
  ·have hb:fs[k]=110:=by simp at hb;omega
   rw[hb]at hf;exact next ok ⟨p.op,p.r,p.a,0,p.cH,p.ar⟩ (by simpa[lS]using hf)
  have Sr:fs[k]≠110:=by intro h;simp[h]at Sr
  refine aI.2 ⟨fun hb=>?_,fun Sv=>?_⟩
  ·have hb:fs[k]=118:=by simp at hb;omega
   rw[hb]at hf;refine aI.2 ⟨fun h1=>?_,fun h1=>?_⟩
   ·subst h1;exact⟨⟨rfl,trivial⟩,next (decide (1<=i.n∧i.n<=8)) ⟨p.op,p.r,p.a,0,p.cH,p.ar⟩ (by simpa[lS]using hf)⟩
   ·subst h1;exact next false ⟨p.op,p.r,p.a,0,p.cH,p.ar⟩ (by simpa[lS]using hf)
  have Sv:fs[k]≠118:=by intro h;simp[h]at Sv
  refine aI.2 ⟨fun hb=>?_,fun Sx=>?_⟩
  ·have hb:fs[k]=99:=by simp at hb;omega
   rw[hb]at hf;refine aI.2 ⟨fun h1=>?_,fun h1=>?_⟩
   ·subst h1;exact⟨⟨rfl,trivial⟩,next (decide (0<=i.n∧i.n<=4096)) ⟨p.op,p.r,p.a,0,p.cH,p.ar⟩ (by simpa[lS]using hf)⟩
   ·subst h1;exact next false ⟨p.op,p.r,p.a,0,p.cH,p.ar⟩ (by simpa[lS]using hf)
  have Sx:fs[k]≠99:=by intro h;simp[h]at Sx
  refine aI.2 ⟨fun hb=>?_,fun Su=>?_⟩
  ·have hb:fs[k]=115:=by simp at hb;omega
   rw[hb]at hf;refine aI.2 ⟨fun h1=>?_,fun h1=>?_⟩
   ·subst h1;exact⟨⟨rfl,trivial⟩,next (decide ((i.cH.length:Int)<=100)) ⟨p.op,p.r,p.a,p.n,[],p.ar⟩ (by simpa[lS]using hf)⟩
   ·subst h1;exact next false ⟨p.op,p.r,p.a,p.n,[],p.ar⟩ (by simpa[lS]using hf)
  have Su:fs[k]≠115:=by intro h;simp[h]at Su
  refine aI.2 ⟨fun hb=>?_,fun Sq=>?_⟩
  ·have hb:fs[k]=102:=by simp at hb;omega
   rw[hb]at hf;refine aI.2 ⟨fun h1=>?_,fun h1=>?_⟩
   ·subst h1;refine⟨⟨rfl,trivial⟩,aI.2 ⟨fun h2=>?_,fun h2=>?_⟩⟩
    ·exact⟨⟨rfl,trivial⟩,next (decide (1<=i.ar∧i.ar<=8)) ⟨p.op,p.r,p.a,p.n,[],0⟩ (by simpa[lS,h2]using hf)⟩
    ·exact next false ⟨p.op,p.r,p.a,p.n,[],0⟩ (by simpa[lS,h2]using hf)
   ·subst h1;exact next false ⟨p.op,p.r,p.a,p.n,[],0⟩ (by simpa[lS]using hf)
  have Sq:fs[k]≠102:=by intro h;simp[h]at Sq
  refine aI.2 ⟨fun hb=>?_,fun Ss=>?_⟩
  ·have hb:fs[k]=112:=by simp at hb;omega
   rw[hb]at hf;refine aI.2 ⟨fun h1=>?_,fun h1=>?_⟩
   ·subst h1;exact⟨⟨rfl,trivial⟩,next (H5 i) ⟨p.op,p.r,p.a,0,[],0⟩ (by simpa[lS]using hf)⟩
   ·subst h1;exact next false ⟨p.op,p.r,p.a,0,[],0⟩ (by simpa[lS]using hf)
  have Ss:fs[k]≠112:=by intro h;simp[h]at Ss
  have hs:lS i (ok,p) fs[k]=(ok,p):=by simp[lS,St,Sw,Sr,Sv,Sx,Su,Sq,Ss]
  rw[hs]at hf;exact next ok p hf
 ·have aS:fs.length<=k:=by simpa using aS
  rw[eT aS,List.foldl_nil]at hf;subst hf;obtain⟨po,pr,pa,pn,ps,par⟩:=p;refine aI.2 ⟨fun h1=>?_,fun h1=>?_⟩
  ·subst h1;refine⟨?_,rfl⟩;congr 1;simp only[a9.mk.injEq]
   (rw[Bool.eq_iff_iff];simp_all[kD]<;>(try intros)<;>omega)
  ·subst h1;exact⟨rfl,rfl⟩
theorem akm(r a n:Int)(s:LN)(ar:Int):e_ ⟨1,r,a,n,s,ar⟩=bG ⟨1,r,a,n,s,ar⟩:=by
 rw[show bG ⟨1,r,a,n,s,ar⟩=(dj r&&dJ a&&decide (n=0∧s=[]∧ar=0))from rfl,show e_ ⟨1,r,a,n,s,ar⟩=(((true&&dj r)&&dJ a)&&decide ((⟨0,0,0,n,s,ar⟩:a9)=⟨0,0,0,0,[],0⟩))from rfl];simp only[a9.mk.injEq];first
 |((rw[Bool.eq_iff_iff];simp_all[dj,dJ]<;>(try intros)<;>omega))
 |(simp_all;done)
 |(rw[iG,←Bool.decide_and];exact decide_eq_decide.2 ⟨fun h=>by simp_all,fun h=>by simp_all⟩)
 |fail
theorem akx(r a n:Int)(s:LN)(ar:Int):e_ ⟨2,r,a,n,s,ar⟩=bG ⟨2,r,a,n,s,ar⟩:=by
 rw[show bG ⟨2,r,a,n,s,ar⟩=(dj r&&dJ a&&decide (n=0∧s=[]∧ar=0))from rfl,show e_ ⟨2,r,a,n,s,ar⟩=(((true&&dj r)&&dJ a)&&decide ((⟨0,0,0,n,s,ar⟩:a9)=⟨0,0,0,0,[],0⟩))from rfl];simp only[a9.mk.injEq];first
 |((rw[Bool.eq_iff_iff];simp_all[dj,dJ]<;>(try intros)<;>omega))
 |(simp_all;done)
 |(rw[iG,←Bool.decide_and];exact decide_eq_decide.2 ⟨fun h=>by simp_all,fun h=>by simp_all⟩)
 |fail
theorem akE(r a n:Int)(s:LN)(ar:Int):e_ ⟨3,r,a,n,s,ar⟩=bG ⟨3,r,a,n,s,ar⟩:=by
 rw[show bG ⟨3,r,a,n,s,ar⟩=(dJ a&&decide (r=0∧s=[]∧ar=0))from rfl,show e_ ⟨3,r,a,n,s,ar⟩=((true&&dJ a)&&decide ((⟨0,r,0,0,s,ar⟩:a9)=⟨0,0,0,0,[],0⟩))from rfl];simp only[a9.mk.injEq];first
 |((rw[Bool.eq_iff_iff];simp_all[dj,dJ]<;>(try intros)<;>omega))
 |(simp_all;done)
 |(rw[iG,←Bool.decide_and];exact decide_eq_decide.2 ⟨fun h=>by simp_all,fun h=>by simp_all⟩)
 |fail
theorem akF(r a n:Int)(s:LN)(ar:Int):e_ ⟨4,r,a,n,s,ar⟩=bG ⟨4,r,a,n,s,ar⟩:=by
 rw[show bG ⟨4,r,a,n,s,ar⟩=(dJ a&&decide ((s.length:Int)<=100∧r=0∧n=0∧ar=0))from rfl,show e_ ⟨4,r,a,n,s,ar⟩=(((true&&dJ a)&&decide ((s.length:Int)<=100))&&decide ((⟨0,r,0,n,[],ar⟩:a9)=⟨0,0,0,0,[],0⟩))from rfl];simp only[a9.mk.injEq];first
 |((rw[Bool.eq_iff_iff];simp_all[dj,dJ]<;>(try intros)<;>omega))
 |(simp_all;done)
 |(rw[iG,←Bool.decide_and];exact decide_eq_decide.2 ⟨fun h=>by simp_all,fun h=>by simp_all⟩)
 |fail
theorem akG(r a n:Int)(s:LN)(ar:Int):e_ ⟨5,r,a,n,s,ar⟩=bG ⟨5,r,a,n,s,ar⟩:=by
 rw[show bG ⟨5,r,a,n,s,ar⟩=(dJ a&&(decide ((s.length:Int)<=100∧1<=ar∧ar<=8))&&decide (r=0∧n=0))from rfl,show e_ ⟨5,r,a,n,s,ar⟩=(((true&&dJ a)&&(decide ((s.length:Int)<=100)&&decide (1<=ar∧ar<=8)))&&decide ((⟨0,r,0,n,[],0⟩:a9)=⟨0,0,0,0,[],0⟩))from rfl];simp only[a9.mk.injEq];first
 |((rw[Bool.eq_iff_iff];simp_all[dj,dJ]<;>(try intros)<;>omega))
 |(simp_all;done)
 |(rw[iG,←Bool.decide_and];exact decide_eq_decide.2 ⟨fun h=>by simp_all,fun h=>by simp_all⟩)
 |fail
theorem akH(r a n:Int)(s:LN)(ar:Int):e_ ⟨6,r,a,n,s,ar⟩=bG ⟨6,r,a,n,s,ar⟩:=by
 rw[show bG ⟨6,r,a,n,s,ar⟩=(dj r&&decide (a=0∧n=0∧s=[]∧ar=0))from rfl,show e_ ⟨6,r,a,n,s,ar⟩=((true&&dj r)&&decide ((⟨0,0,a,n,s,ar⟩:a9)=⟨0,0,0,0,[],0⟩))from rfl];simp only[a9.mk.injEq];first
 |((rw[Bool.eq_iff_iff];simp_all[dj,dJ]<;>(try intros)<;>omega))
 |(simp_all;done)
 |(rw[iG,←Bool.decide_and];exact decide_eq_decide.2 ⟨fun h=>by simp_all,fun h=>by simp_all⟩)
 |fail
theorem akI(r a n:Int)(s:LN)(ar:Int):e_ ⟨7,r,a,n,s,ar⟩=bG ⟨7,r,a,n,s,ar⟩:=by
 rw[show bG ⟨7,r,a,n,s,ar⟩=(dj r&&decide (a=0∧n=0∧s=[]∧ar=0))from rfl,show e_ ⟨7,r,a,n,s,ar⟩=((true&&dj r)&&decide ((⟨0,0,a,n,s,ar⟩:a9)=⟨0,0,0,0,[],0⟩))from rfl];simp only[a9.mk.injEq];first
 |((rw[Bool.eq_iff_iff];simp_all[dj,dJ]<;>(try intros)<;>omega))
 |(simp_all;done)
 |(rw[iG,←Bool.decide_and];exact decide_eq_decide.2 ⟨fun h=>by simp_all,fun h=>by simp_all⟩)
 |fail
theorem akJ(r a n:Int)(s:LN)(ar:Int):e_ ⟨8,r,a,n,s,ar⟩=bG ⟨8,r,a,n,s,ar⟩:=by
 rw[show bG ⟨8,r,a,n,s,ar⟩=(decide (r=0∧a=0∧s=[]∧ar=0))from rfl,show e_ ⟨8,r,a,n,s,ar⟩=(true&&decide ((⟨0,r,a,0,s,ar⟩:a9)=⟨0,0,0,0,[],0⟩))from rfl];simp only[a9.mk.injEq];first
 |((rw[Bool.eq_iff_iff];simp_all[dj,dJ]<;>(try intros)<;>omega))
 |(simp_all;done)
 |(rw[iG,←Bool.decide_and];exact decide_eq_decide.2 ⟨fun h=>by simp_all,fun h=>by simp_all⟩)
 |fail
theorem akK(r a n:Int)(s:LN)(ar:Int):e_ ⟨9,r,a,n,s,ar⟩=bG ⟨9,r,a,n,s,ar⟩:=by
 rw[show bG ⟨9,r,a,n,s,ar⟩=(decide ((s.length:Int)<=100∧r=0∧a=0∧n=0∧ar=0))from rfl,show e_ ⟨9,r,a,n,s,ar⟩=((true&&decide ((s.length:Int)<=100))&&decide ((⟨0,r,a,n,[],ar⟩:a9)=⟨0,0,0,0,[],0⟩))from rfl];simp only[a9.mk.injEq];first
 |((rw[Bool.eq_iff_iff];simp_all[dj,dJ]<;>(try intros)<;>omega))
 |(simp_all;done)
 |(rw[iG,←Bool.decide_and];exact decide_eq_decide.2 ⟨fun h=>by simp_all,fun h=>by simp_all⟩)
 |fail
theorem akn(r a n:Int)(s:LN)(ar:Int):e_ ⟨10,r,a,n,s,ar⟩=bG ⟨10,r,a,n,s,ar⟩:=by
 rw[show bG ⟨10,r,a,n,s,ar⟩=(decide (1<=n∧n<=8∧r=0∧a=0∧s=[]∧ar=0))from rfl,show e_ ⟨10,r,a,n,s,ar⟩=((true&&decide (1<=n∧n<=8))&&decide ((⟨0,r,a,0,s,ar⟩:a9)=⟨0,0,0,0,[],0⟩))from rfl];simp only[a9.mk.injEq];first
 |((rw[Bool.eq_iff_iff];simp_all[dj,dJ]<;>(try intros)<;>omega))
 |(simp_all;done)
 |(rw[iG,←Bool.decide_and];exact decide_eq_decide.2 ⟨fun h=>by simp_all,fun h=>by simp_all⟩)
 |fail
theorem ako(r a n:Int)(s:LN)(ar:Int):e_ ⟨11,r,a,n,s,ar⟩=bG ⟨11,r,a,n,s,ar⟩:=by
 rw[show bG ⟨11,r,a,n,s,ar⟩=(dj r&&dJ a&&decide (n=0∧s=[]∧ar=0))from rfl,show e_ ⟨11,r,a,n,s,ar⟩=(((true&&dj r)&&dJ a)&&decide ((⟨0,0,0,n,s,ar⟩:a9)=⟨0,0,0,0,[],0⟩))from rfl];simp only[a9.mk.injEq];first
 |((rw[Bool.eq_iff_iff];simp_all[dj,dJ]<;>(try intros)<;>omega))
 |(simp_all;done)
 |(rw[iG,←Bool.decide_and];exact decide_eq_decide.2 ⟨fun h=>by simp_all,fun h=>by simp_all⟩)
 |fail
theorem akp(r a n:Int)(s:LN)(ar:Int):e_ ⟨12,r,a,n,s,ar⟩=bG ⟨12,r,a,n,s,ar⟩:=by
 rw[show bG ⟨12,r,a,n,s,ar⟩=(dj r&&dJ a&&decide (n=0∧s=[]∧ar=0))from rfl,show e_ ⟨12,r,a,n,s,ar⟩=(((true&&dj r)&&dJ a)&&decide ((⟨0,0,0,n,s,ar⟩:a9)=⟨0,0,0,0,[],0⟩))from rfl];simp only[a9.mk.injEq];first
 |((rw[Bool.eq_iff_iff];simp_all[dj,dJ]<;>(try intros)<;>omega))
 |(simp_all;done)
 |(rw[iG,←Bool.decide_and];exact decide_eq_decide.2 ⟨fun h=>by simp_all,fun h=>by simp_all⟩)
 |fail
theorem akq(r a n:Int)(s:LN)(ar:Int):e_ ⟨13,r,a,n,s,ar⟩=bG ⟨13,r,a,n,s,ar⟩:=by
 rw[show bG ⟨13,r,a,n,s,ar⟩=(dJ a&&decide (r=0∧s=[]∧ar=0))from rfl,show e_ ⟨13,r,a,n,s,ar⟩=((true&&dJ a)&&decide ((⟨0,r,0,0,s,ar⟩:a9)=⟨0,0,0,0,[],0⟩))from rfl];simp only[a9.mk.injEq];first
 |((rw[Bool.eq_iff_iff];simp_all[dj,dJ]<;>(try intros)<;>omega))
 |(simp_all;done)
 |(rw[iG,←Bool.decide_and];exact decide_eq_decide.2 ⟨fun h=>by simp_all,fun h=>by simp_all⟩)
 |fail
theorem akr(r a n:Int)(s:LN)(ar:Int):e_ ⟨14,r,a,n,s,ar⟩=bG ⟨14,r,a,n,s,ar⟩:=by
 rw[show bG ⟨14,r,a,n,s,ar⟩=(dJ a&&decide ((s.length:Int)<=100∧r=0∧n=0∧ar=0))from rfl,show e_ ⟨14,r,a,n,s,ar⟩=(((true&&dJ a)&&decide ((s.length:Int)<=100))&&decide ((⟨0,r,0,n,[],ar⟩:a9)=⟨0,0,0,0,[],0⟩))from rfl];simp only[a9.mk.injEq];first
 |((rw[Bool.eq_iff_iff];simp_all[dj,dJ]<;>(try intros)<;>omega))
 |(simp_all;done)
 |(rw[iG,←Bool.decide_and];exact decide_eq_decide.2 ⟨fun h=>by simp_all,fun h=>by simp_all⟩)
 |fail
theorem aks(r a n:Int)(s:LN)(ar:Int):e_ ⟨15,r,a,n,s,ar⟩=bG ⟨15,r,a,n,s,ar⟩:=by
 rw[show bG ⟨15,r,a,n,s,ar⟩=(dj r&&(decide ((s.length:Int)<=100∧1<=ar∧ar<=8))&&decide (a=0∧n=0))from rfl,show e_ ⟨15,r,a,n,s,ar⟩=(((true&&dj r)&&(decide ((s.length:Int)<=100)&&decide (1<=ar∧ar<=8)))&&decide ((⟨0,0,a,n,[],0⟩:a9)=⟨0,0,0,0,[],0⟩))from rfl];simp only[a9.mk.injEq];first
 |((rw[Bool.eq_iff_iff];simp_all[dj,dJ]<;>(try intros)<;>omega))
 |(simp_all;done)
 |(rw[iG,←Bool.decide_and];exact decide_eq_decide.2 ⟨fun h=>by simp_all,fun h=>by simp_all⟩)
 |fail
theorem akt(r a n:Int)(s:LN)(ar:Int):e_ ⟨16,r,a,n,s,ar⟩=bG ⟨16,r,a,n,s,ar⟩:=by
 rw[show bG ⟨16,r,a,n,s,ar⟩=(decide (0<=n∧n<=4096∧r=0∧a=0∧s=[]∧ar=0))from rfl,show e_ ⟨16,r,a,n,s,ar⟩=((true&&decide (0<=n∧n<=4096))&&decide ((⟨0,r,a,0,s,ar⟩:a9)=⟨0,0,0,0,[],0⟩))from rfl];simp only[a9.mk.injEq];first
 |((rw[Bool.eq_iff_iff];simp_all[dj,dJ]<;>(try intros)<;>omega))
 |(simp_all;done)
 |(rw[iG,←Bool.decide_and];exact decide_eq_decide.2 ⟨fun h=>by simp_all,fun h=>by simp_all⟩)
 |fail
theorem aku(r a n:Int)(s:LN)(ar:Int):e_ ⟨17,r,a,n,s,ar⟩=bG ⟨17,r,a,n,s,ar⟩:=by
 rw[show bG ⟨17,r,a,n,s,ar⟩=(decide (0<=n∧n<=4096∧r=0∧a=0∧s=[]∧ar=0))from rfl,show e_ ⟨17,r,a,n,s,ar⟩=((true&&decide (0<=n∧n<=4096))&&decide ((⟨0,r,a,0,s,ar⟩:a9)=⟨0,0,0,0,[],0⟩))from rfl];simp only[a9.mk.injEq];first
 |((rw[Bool.eq_iff_iff];simp_all[dj,dJ]<;>(try intros)<;>omega))
 |(simp_all;done)
 |(rw[iG,←Bool.decide_and];exact decide_eq_decide.2 ⟨fun h=>by simp_all,fun h=>by simp_all⟩)
 |fail
theorem akv(r a n:Int)(s:LN)(ar:Int):e_ ⟨18,r,a,n,s,ar⟩=bG ⟨18,r,a,n,s,ar⟩:=by
 rw[show bG ⟨18,r,a,n,s,ar⟩=(decide (r=0∧a=0∧n=0∧s=[]∧ar=0))from rfl,show e_ ⟨18,r,a,n,s,ar⟩=(true&&decide ((⟨0,r,a,n,s,ar⟩:a9)=⟨0,0,0,0,[],0⟩))from rfl];simp only[a9.mk.injEq];first
 |((rw[Bool.eq_iff_iff];simp_all[dj,dJ]<;>(try intros)<;>omega))
 |(simp_all;done)
 |(rw[iG,←Bool.decide_and];exact decide_eq_decide.2 ⟨fun h=>by simp_all,fun h=>by simp_all⟩)
 |fail
theorem akw(r a n:Int)(s:LN)(ar:Int):e_ ⟨19,r,a,n,s,ar⟩=bG ⟨19,r,a,n,s,ar⟩:=by
 rw[show bG ⟨19,r,a,n,s,ar⟩=(hU ⟨s,ar,n⟩&&decide (r=0∧a=0))from rfl,show e_ ⟨19,r,a,n,s,ar⟩=((true&&hU ⟨s,ar,n⟩)&&decide ((⟨0,r,a,0,[],0⟩:a9)=⟨0,0,0,0,[],0⟩))from rfl];simp only[a9.mk.injEq];first
 |((rw[Bool.eq_iff_iff];simp_all[dj,dJ]<;>(try intros)<;>omega))
 |(simp_all;done)
 |(rw[iG,←Bool.decide_and];exact decide_eq_decide.2 ⟨fun h=>by simp_all,fun h=>by simp_all⟩)
 |fail
theorem aky(r a n:Int)(s:LN)(ar:Int):e_ ⟨20,r,a,n,s,ar⟩=bG ⟨20,r,a,n,s,ar⟩:=by
 rw[show bG ⟨20,r,a,n,s,ar⟩=(hU ⟨s,ar,n⟩&&decide (r=0∧a=0))from rfl,show e_ ⟨20,r,a,n,s,ar⟩=((true&&hU ⟨s,ar,n⟩)&&decide ((⟨0,r,a,0,[],0⟩:a9)=⟨0,0,0,0,[],0⟩))from rfl];simp only[a9.mk.injEq];first
 |((rw[Bool.eq_iff_iff];simp_all[dj,dJ]<;>(try intros)<;>omega))
 |(simp_all;done)
 |(rw[iG,←Bool.decide_and];exact decide_eq_decide.2 ⟨fun h=>by simp_all,fun h=>by simp_all⟩)
 |fail
theorem akz(r a n:Int)(s:LN)(ar:Int):e_ ⟨21,r,a,n,s,ar⟩=bG ⟨21,r,a,n,s,ar⟩:=by
 rw[show bG ⟨21,r,a,n,s,ar⟩=(decide (r=0∧a=0∧n=0∧s=[]∧ar=0))from rfl,show e_ ⟨21,r,a,n,s,ar⟩=(true&&decide ((⟨0,r,a,n,s,ar⟩:a9)=⟨0,0,0,0,[],0⟩))from rfl];simp only[a9.mk.injEq];first
 |((rw[Bool.eq_iff_iff];simp_all[dj,dJ]<;>(try intros)<;>omega))
 |(simp_all;done)
 |(rw[iG,←Bool.decide_and];exact decide_eq_decide.2 ⟨fun h=>by simp_all,fun h=>by simp_all⟩)
 |fail
theorem akA(r a n:Int)(s:LN)(ar:Int):e_ ⟨22,r,a,n,s,ar⟩=bG ⟨22,r,a,n,s,ar⟩:=by
 rw[show bG ⟨22,r,a,n,s,ar⟩=(dj r&&decide (a=0∧n=0∧s=[]∧ar=0))from rfl,show e_ ⟨22,r,a,n,s,ar⟩=((true&&dj r)&&decide ((⟨0,0,a,n,s,ar⟩:a9)=⟨0,0,0,0,[],0⟩))from rfl];simp only[a9.mk.injEq];first
 |((rw[Bool.eq_iff_iff];simp_all[dj,dJ]<;>(try intros)<;>omega))
 |(simp_all;done)
 |(rw[iG,←Bool.decide_and];exact decide_eq_decide.2 ⟨fun h=>by simp_all,fun h=>by simp_all⟩)
 |fail
theorem akB(r a n:Int)(s:LN)(ar:Int):e_ ⟨23,r,a,n,s,ar⟩=bG ⟨23,r,a,n,s,ar⟩:=by
 rw[show bG ⟨23,r,a,n,s,ar⟩=(dj r&&decide (a=0∧n=0∧s=[]∧ar=0))from rfl,show e_ ⟨23,r,a,n,s,ar⟩=((true&&dj r)&&decide ((⟨0,0,a,n,s,ar⟩:a9)=⟨0,0,0,0,[],0⟩))from rfl];simp only[a9.mk.injEq];first
 |((rw[Bool.eq_iff_iff];simp_all[dj,dJ]<;>(try intros)<;>omega))
 |(simp_all;done)
 |(rw[iG,←Bool.decide_and];exact decide_eq_decide.2 ⟨fun h=>by simp_all,fun h=>by simp_all⟩)
 |fail
theorem akC(r a n:Int)(s:LN)(ar:Int):e_ ⟨24,r,a,n,s,ar⟩=bG ⟨24,r,a,n,s,ar⟩:=by
 rw[show bG ⟨24,r,a,n,s,ar⟩=(dj r&&decide (a=0∧n=0∧s=[]∧ar=0))from rfl,show e_ ⟨24,r,a,n,s,ar⟩=((true&&dj r)&&decide ((⟨0,0,a,n,s,ar⟩:a9)=⟨0,0,0,0,[],0⟩))from rfl];simp only[a9.mk.injEq];first
 |((rw[Bool.eq_iff_iff];simp_all[dj,dJ]<;>(try intros)<;>omega))
 |(simp_all;done)
 |(rw[iG,←Bool.decide_and];exact decide_eq_decide.2 ⟨fun h=>by simp_all,fun h=>by simp_all⟩)
 |fail
theorem akD(r a n:Int)(s:LN)(ar:Int):e_ ⟨25,r,a,n,s,ar⟩=bG ⟨25,r,a,n,s,ar⟩:=by
 rw[show bG ⟨25,r,a,n,s,ar⟩=(decide (r=0∧a=0∧n=0∧s=[]∧ar=0))from rfl,show e_ ⟨25,r,a,n,s,ar⟩=(true&&decide ((⟨0,r,a,n,s,ar⟩:a9)=⟨0,0,0,0,[],0⟩))from rfl];simp only[a9.mk.injEq];first
 |((rw[Bool.eq_iff_iff];simp_all[dj,dJ]<;>(try intros)<;>omega))
 |(simp_all;done)
 |(rw[iG,←Bool.decide_and];exact decide_eq_decide.2 ⟨fun h=>by simp_all,fun h=>by simp_all⟩)
 |fail
theorem akS(i:a9):e_ i=bG i:=by
 obtain⟨o,r,a,n,s,ar⟩:=i;cases o with
 |ofNat k=>match k with
  |0=>rfl
  |1=>exact akm r a n s ar
  |2=>exact akx r a n s ar
  |3=>exact akE r a n s ar
  |4=>exact akF r a n s ar
  |5=>exact akG r a n s ar
  |6=>exact akH r a n s ar
  |7=>exact akI r a n s ar
  |8=>exact akJ r a n s ar
  |9=>exact akK r a n s ar
  |10=>exact akn r a n s ar
  |11=>exact ako r a n s ar
  |12=>exact akp r a n s ar
  |13=>exact akq r a n s ar
  |14=>exact akr r a n s ar
  |15=>exact aks r a n s ar
  |16=>exact akt r a n s ar
  |17=>exact aku r a n s ar
  |18=>exact akv r a n s ar
  |19=>exact akw r a n s ar
  |20=>exact aky r a n s ar
  |21=>exact akz r a n s ar
  |22=>exact akA r a n s ar
  |23=>exact akB r a n s ar
  |24=>exact akC r a n s ar
  |25=>exact akD r a n s ar
  |m+26=>rfl
 |negSucc m=>rfl
theorem apO:∀r∈fe,r.2.2.1.length<1000:=by decide
theorem adM:∀{l:List jO} {i:Nat} {r:jO},gp l i=some r->r∈l
 |[],_,_,h=>by cases h
 |_::_,0,_,h=>by cases h;exact gi
 |_::l,i+1,_,h=>fF _ (adM (l:=l) h)
theorem NL{k:Int}{r:jO}(h:eZ k=some r):r∈fe:=by
 cases k with
 |ofNat n=>
  cases n with
  |zero=>cases h
  |succ n=>exact adM h
 |negSucc n=>cases h
theorem F9:bm Z E3:=by
 refine iE Pl fun args q v h hq=>?_
 unfold DO at h;split at h<;>cases h;rename_i o r a n s ar;rw[←akS];refine eS Pl 1000 (fun _=>[1,3,4,5,6]) 113 (by kernel_rfl) ?_;rw[asT];refine⟨(o,dm o),⟨rfl,rfl,rfl⟩,?_⟩;cases hs:eZ o with
 |none=>
  have e:dm o=(sQ,false):=by simp[dm,hs]
  have e2:e_ ⟨o,r,a,n,s,ar⟩=false:=by simp[e_,hs]
  rw[e,e2];exact aI.2 ⟨fun _=>⟨rfl,rfl⟩,fun h=>by cases h⟩
 |some w=>
  have e:dm o=(w,true):=by simp[dm,hs]
  have e2:e_ ⟨o,r,a,n,s,ar⟩=((w.2.2.1.foldl (lS ⟨o,r,a,n,s,ar⟩) (true,⟨0,r,a,n,s,ar⟩)).1&&decide ((w.2.2.1.foldl (lS ⟨o,r,a,n,s,ar⟩) (true,⟨0,r,a,n,s,ar⟩)).2=⟨0,0,0,0,[],0⟩)):=by simp[e_,hs]
  rw[e,e2];obtain⟨so,sn,fs,sr,sw⟩:=w;refine aI.2 ⟨fun h=>(by cases h),fun _=>?_⟩;exact asS (i:=⟨o,r,a,n,s,ar⟩) (apO _ (NL hs)) (0,true,⟨0,r,a,n,s,ar⟩) ⟨by simp,rfl⟩
theorem aj5{P:Program}{f:FuncId}{args Gv:LV}{H H2 H':AH}{v:AV}{R:bf->bf->Prop}(h:dT P f Gv H2 v H')(hm:ox H.bL H H2 R)(hn:H2.bL=H.bL)
 (ha:∀φ aW,R φ aW->∀l,bc φ args l->bc aW Gv l):dT P f args H v H':=by
 intro φ w bs args' cs hv hw hl;obtain⟨_,hm⟩:=hm;obtain⟨qh,k1,k2,k3⟩:=hm φ bs w (fB _) hw;obtain⟨aW,w',g1,g2,g3,g4⟩:=h qh w bs args' cs (ha _ _ k3 _ hv) k1 hl;rw[hn]at g2;exact⟨aW,w',g1,k2.ub g2,g3,g4⟩
theorem aj4{P:Program}{f:FuncId}{args:LV}{H':AH}{v:AV}{l:LI}(h:dT P f args (cC l) v H'):dT P f args (an [(0,.aw (aX l) 3)] 1) v H':=
 aj5 h (MK (g:=0) (n:=1) (l:=[(0,.aw (aX l) 3)]) (old:=.aw (aX l) 3) (new:=bp l 3) rfl (fun φ e o h=>CT (Cb _).2 h) rfl) rfl (fun φ aW hR l hl=>by subst hR;exact hl)
theorem ahH{φ:bf}{vs:LV}{el ic:TypeId}{e:PE}{o:Obj}(h:OR φ (.aF vs el) e o):OR φ (.aw vs ic) e o:=by obtain⟨cs,jT,h1,h2,h3,h4,h5⟩:=h;exact⟨cs,jT,h1,h2,h3,bc.kQ (eg.BT φ) _ _ h4,h5⟩
theorem Q8{W:Type}{g:W->Prop×AV×AH}{u:∀w w',(g w).1->(g w').1->(g w).2=(g w').2}{x:Prop×AV×AH}(h:ux (.ex W g u)=some x):∃w,x=g w:=by
 simp only[ux]at h;by_cases hw:∃w,(g w).1
 ·rw[dif_pos hw]at h;cases h;exact⟨_,rfl⟩
 ·rw[dif_neg hw]at h;cases h
theorem Hp{l m:LI}(h:cC l=cC m):l=m:=by have:=congrArg (fun H=>AH.bu H 0) h;simp only[cC,dy]at this;exact yf (dz this)
def oc:LI->Int->Int->Int
 |[],_,_=> -1
 |x::l,a,k=>if a=x then k else oc l a (k+1)
theorem acH:∀(l:LI) (a k:Int),0<=k->(0<=oc l a k↔a∈l)
 |[],a,k,h=>by simp[oc]
 |x::l,a,k,h=>by
  unfold oc;split
  ·rename_i hx;simp[hx,h]
  ·rename_i hx;rw[acH l a (k+1) (by omega)];simp[hx]
def ND(r:LI->Int->AV):LV->AH->Option Sp
 |[.bB,.ck .i64 a],H=>some (.Dp (H=aq,r [] a,aq))
 |[.ad 0 len 1,.ck .i64 a],H=>match H.bu 0 with
  |some (.aw [.ck .i64 x] _)=>some (.Dp (H=an [(0,.aw [J x] 3)] 1∧len=1,r [x] a,an [(0,.aw [J x] 3)] 1))
  |some (.aF _ _)=>some (.ex LI (fun l=>((H=cC l∧len=l.length∧l.length<100000),r l a,cC l)) (fun w w' h1 h2=>by rw[Hp (h1.1.symm.trans h2.1)]))
  |_=>none
 |_,_=>none
def E4:Ev.bz:=cz 140 (ND fun l a=>J (oc l a 0)) E3
def E5:Ev.bz:=cz 129 (ND fun l a=>.ai (decide (a∈l))) E4
theorem af0{P:Program}{S:Ev.bz}{f:FuncId}{r:LI->Int->AV}(hS:bm P S)(hr:∀l a,tY 0 (r l a)=r l a)(h1:∀a,dT P f [.bB,J a] aq (r [] a) aq)
 (h3:∀l a,l.length<100000->dT P f [.ad 0 l.length 1,J a] (cC l) (r l a) (cC l)) (di:f≠999999:=by first|assumption|decide):bm P (cz f (ND r) S):=by
 refine Gp hS fun args H sp p v H' hs hd hp=>?_
 unfold ND at hs;split at hs
 ·cases hs;cases hd;cases hp;exact h1 _
 ·split at hs
  ·cases hs;cases hd;obtain⟨rfl,rfl⟩:=hp;rename_i a _ x _ _;have h4:=KK (g:=0) (n:=1) (l:=[(0,bp [x] 3)]) (new:=.aw [J x] 3) (aj4 (l:=[x]) (h3 [x] a (by simp))) rfl (fun φ e o h=>ahH h) rfl (fB _);rw[hr]at h4;exact h4
  ·cases hs;obtain⟨l,e⟩:=Q8 hd;cases e;obtain⟨rfl,rfl,h⟩:=hp;exact h3 l _ h
  ·cases hs
 ·cases hs
theorem arV(a:Int)(L:LT)(Q:QT):
 b8 Z E3 (fun _=>[0,1,7,8]) L Q 1000 140 [.bB,J a] aq=(
 L (aQ [(0,.bB),(1,J a),(7,J 0),(8,J 0)]) aq (ao Z 140 0)):=by kernel_rfl
abbrev N0 x0 x1 x2:=aQ [(0,.ad 0 x0 1),(1,J x1),(7,J (Int.ofNat x0)),(8,J x2)]
theorem arT(l:LI)(a:Int)(L:LT)(Q:QT):
 b8 Z E3 (fun _=>[0,1,7,8]) L Q 1000 140 [.ad 0 l.length 1,J a] (cC l)=(
 L (N0 l.length a 0) (cC l) (ao Z 140 0)):=by kernel_rfl
theorem arX(a i:Int)(L:LT)(Q:QT):
 cO Z E3 (fun _=>[0,1,7,8]) L Q 1000 140 0 (aQ [(0,.bB),(1,J a),(7,J 0),(8,J i)]) (ao Z 140 0) aq=(
 ah (decide (i<0)) False (Q (J (-1)) aq)):=by kernel_rfl
theorem arW(l:LI)(a i:Int)(L:LT)(Q:QT):
 cO Z E3 (fun _=>[0,1,7,8]) L Q 1000 140 1 (N0 l.length a i) (ao Z 140 0) (cC l)=(
 ah (decide (i<Int.ofNat l.length)) (∃aD:Nat,i=(aD:Int)∧aD<l.length∧(∃n:Int,bQ Z 3 (aX l) (aD*1)=some (J n:AV)∧ah (a==n) (Q (J i) (cC l)) (L (N0 l.length a (wI (i+1))) (cC l) (ao Z 140 0)))) (Q (J (-1)) (cC l))):=by kernel_rfl
theorem ary(a:Int)(L:LT)(Q:QT):
 b8 Z E4 (fun _=>[]) L Q 1000 129 [.bB,J a] aq=(
 an [] 0=aq∧Q (.ai false) aq):=by kernel_rfl
theorem arx(l:LI)(a:Int)(L:LT)(Q:QT):
 b8 Z E4 (fun _=>[]) L Q 1000 129 [.ad 0 l.length 1,J a] (cC l)=(
 ∃w:LI,(cC l=cC w∧l.length=w.length∧w.length<100000)∧Q (.ai (decide (oc w a 0>=0))) (cC w)):=by kernel_rfl
theorem arU{l:LI}{a az:Int}(hl:l.length<100000):∀i:Nat,(i<=l.length∧oc (l.drop i) a i=az)->
 bJ Z 140 19 1 (J az) (cC l) (N0 l.length a (i:Int)) (cC l) (ao Z 140 0):=by
 refine cV (fun i=>l.length-i) _ _ _ _ ?_;rintro i ⟨hi,hf⟩ ih;refine hD F9 1000 (fun _=>[0,1,7,8]) (by kernel_rfl) ?_;rw[arW];refine aI.2 ⟨fun aj=>?_,fun aS=>?_⟩
 ·have aj:i<l.length:=by simpa using aj
  rw[dN aj]at hf;have hg:l.getD i 0=l[i]:=by simp[List.getD,jn aj]
  refine⟨i,rfl,aj,l[i],by rw[ja aj,hg],aI.2 ⟨fun h=>?_,fun h=>?_⟩⟩
  ·have h:a=l[i]:=by simpa using h
   rw[oc,aY h]at hf;subst hf;exact⟨rfl,rfl⟩
  ·have h:¬a=l[i]:=by simpa using h
   rw[oc,aB h]at hf;have e:wI ((i:Int)+1)=((i+1:Nat):Int):=by rw[cX (by omega) (by omega)];simp
   rw[e];exact ih (i+1) ⟨by omega,by simpa using hf⟩ (by omega)
 ·have aS:l.length<=i:=by simpa using aS
  rw[eT aS]at hf;subst hf;exact⟨rfl,rfl⟩
theorem Pm:bm Z E4:=by
 refine af0 F9 (fun _ _=>rfl) (fun a=>?_) (fun l a hl=>?_)
 ·refine eS F9 1000 (fun _=>[0,1,7,8]) 19 (by kernel_rfl) ?_;rw[arV];refine hD F9 1000 (fun _=>[0,1,7,8]) (by kernel_rfl) ?_;rw[show aq.bL=0 from rfl,arX];exact⟨rfl,rfl⟩
 ·refine eS F9 1000 (fun _=>[0,1,7,8]) 19 (by kernel_rfl) ?_;rw[arT];exact arU hl 0 ⟨by simp,rfl⟩
theorem akX(l:LI)(a:Int):decide (oc l a 0>=0)=decide (a∈l):=by rw[decide_eq_decide];exact acH l a 0 (u4 0)
theorem wS:bm Z E5:=by
 refine af0 Pm (fun _ _=>rfl) (fun a=>?_) (fun l a hl=>?_)
 ·refine eS Pm 1000 (fun _=>[]) 9 (by kernel_rfl) ?_;rw[ary];exact⟨rfl,by simp,rfl⟩
 ·refine eS Pm 1000 (fun _=>[]) 9 (by kernel_rfl) ?_;rw[arx];exact⟨l,⟨rfl,rfl,hl⟩,by rw[akX],rfl⟩
def gR(n:Int):LI:=(List.range n.toNat).map fun(k:Nat)=>(k:Int)+1
def eI(i:a9)(l:LI)(b:Nat):LI:=
 if b=114 then l++[i.r]else if b=97 then(if i.a∈l then l else l++[i.a])else if b=112 then l++gR i.ar else l
def c7(i:a9)(fs:LN):LI:=if bG i then fs.foldl (eI i) []else[]
def pN(fs:LN):Prop:=fs=[]∨fs=[97]∨fs=[114]∨fs=[114,97]∨fs=[112]
def IB:dp (a9×LN)where
 ba w A H:=A=[.au (cb w.1),.aa w.2]∧H=aq∧pN w.2
 v w:=.ad 0 (c7 w.1 w.2).length 1
 aN w:=cC (c7 w.1 w.2)
theorem aeY:IB.dx:=by rintro⟨i,fs⟩ ⟨i',fs'⟩ A H ⟨h1,_⟩ ⟨h2,_⟩;rw[h1]at h2;simp only[List.cons.injEq,AV.au.injEq,AV.aa.injEq,and_true]at h2;rw[Dy h2.1,h2.2]
def E6:Ev.bz:=cz 138 (cM IB aeY cZ) E5
def rD:Nat->LN:=kg [(4,[1000000]),(14,[2,4,12,39,40])]
def mU(i:a9):aZ:=.aw [J i.op,J i.r,J i.a,J i.n,.aa i.cH,J i.ar] 50
def Lg(i:a9)(l:LI):AH:=an [(0,mU i),(1,bp l 3),(2,.qN [112] 1)] 3
theorem afI(i:a9)(L:LT)(Q:QT):
 b8 Z E5 rD L Q 1000 138 [.au (cb i),.aa []] aq=(
 (an [] 0=aq∧True)∧ah (!bG (a9.mk i.op i.r i.a i.n i.cH i.ar)) (Q .bB aq) (Q .bB aq)):=by kernel_rfl
theorem afJ(i:a9)(L:LT)(Q:QT):
 b8 Z E5 rD L Q 1000 138 [.au (cb i),.aa [97]] aq=(
 (an [] 0=aq∧True)∧ah (!bG (a9.mk i.op i.r i.a i.n i.cH i.ar)) (Q .bB aq) (an [] 0=aq∧Q (.ad 0 1 1) (jk i.a))):=by kernel_rfl
theorem afL(i:a9)(L:LT)(Q:QT):
 b8 Z E5 rD L Q 1000 138 [.au (cb i),.aa [114]] aq=(
 (an [] 0=aq∧True)∧ah (!bG (a9.mk i.op i.r i.a i.n i.cH i.ar)) (Q .bB aq) (Q (.ad 0 1 1) (jk i.r))):=by kernel_rfl
theorem VW(i:a9)(L:LT)(Q:QT):
 b8 Z E5 rD L Q 1000 138 [.au (cb i),.aa [114,97]] aq=(
 (an [] 0=aq∧True)∧ah (!bG (a9.mk i.op i.r i.a i.n i.cH i.ar)) (Q .bB aq) ((jk i.r=jk i.r∧1=1)∧ah (!decide (i.a∈[i.r])) (Q (.ad 0 2 1) (an [(0,.aw [J i.r,J i.a] 3)] 1)) (Q (.ad 0 1 1) (jk i.r)))):=by kernel_rfl
theorem afK(i:a9)(L:LT)(Q:QT):
 b8 Z E5 rD L Q 1000 138 [.au (cb i),.aa [112]] aq=(
 (an [] 0=aq∧True)∧ah (!bG (a9.mk i.op i.r i.a i.n i.cH i.ar)) (Q .bB aq) (L (aQ [(2,.ab 0 0),(4,.bB),(12,.ab 1 0),(39,J i.ar),(40,J 0)]) (an [(0,mU i),(1,aZ.qN [112] (0+1))] 2) (ao Z 138 1))):=by kernel_rfl
abbrev N1 x0 x1 x2:=aQ [(2,.ab 0 0),(4,.ad 1 x0 1),(12,.ab 2 0),(39,J x1),(40,J x2)]
theorem arN(i:a9)(l:LI)(n k:Int)(L:LT)(Q:QT):
 cO Z E5 rD L Q 1000 138 0 (N1 l.length n k) (ao Z 138 1) (Lg i l)=(
 ah (decide (k<n)) (((aX l).length=l.length*1∧l.length+1<=65536∧true=true∧true=true)∧L (N1 (l.length+1) n (wI (k+1))) (an [(0,mU i),(1,.aF (aX l++[J (wI (k+1))]) 3),(2,aZ.qN [112] 1)] 3) (ao Z 138 1)) (Q (.ad 0 l.length 1) (cC l))):=by kernel_rfl
theorem acA{n:Int}{k:Nat}(h:k=n.toNat):gR (n+1)=gR n++[(k:Int)+1]∨n<0:=by
 rcases Int.lt_or_le n 0 with h1|h1
 ·exact .inr h1
 ·refine .inl ?_;unfold gR;have:(n+1).toNat=n.toNat+1:=by omega
  rw[this,List.range_succ,List.map_append,h];rfl
theorem Ma(n:Int):(gR n).length=n.toNat:=by simp[gR]
theorem Qj{i:a9}(h:bG i=true):0<=i.ar∧i.ar<=4096:=by
 unfold bG at h;by_cases h0:i.op=1∨i.op=2∨i.op=11∨i.op=12
 ·rw[aY h0]at h;simp only[cW,mf]at h;omega
 rw[aB h0]at h;by_cases h1:i.op=3∨i.op=13
 ·rw[aY h1]at h;simp only[cW,mf]at h;omega
 rw[aB h1]at h;by_cases h2:i.op=4∨i.op=14
 ·rw[aY h2]at h;simp only[cW,mf]at h;omega
 rw[aB h2]at h;by_cases h3:i.op=5
 ·rw[aY h3]at h;simp only[cW,zZ,mf]at h;omega
 rw[aB h3]at h;by_cases h4:i.op=15
 ·rw[aY h4]at h;simp only[cW,zZ,mf]at h;omega
 rw[aB h4]at h;by_cases h5:i.op=6∨i.op=7∨i.op=22∨i.op=23∨i.op=24
 ·rw[aY h5]at h;simp only[cW,mf]at h;omega
 rw[aB h5]at h;by_cases h6:i.op=8
 ·rw[aY h6]at h;simp only[cW,mf]at h;omega
 rw[aB h6]at h;by_cases h7:i.op=9
 ·rw[aY h7]at h;simp only[cW,mf]at h;omega
 rw[aB h7]at h;by_cases h8:i.op=10
 ·rw[aY h8]at h;simp only[cW,mf]at h;omega
 rw[aB h8]at h;by_cases h9:i.op=16∨i.op=17
 ·rw[aY h9]at h;simp only[cW,mf]at h;omega
 rw[aB h9]at h;by_cases mQ:i.op=19∨i.op=20
 ·rw[aY mQ]at h;simp only[cW,H5,hU]at h;obtain⟨h,_⟩:=h;by_cases hn:i.n=0
  ·rw[aY hn]at h;simp only[mf]at h;omega
  ·rw[aB hn]at h;simp only[mf]at h;omega
 rw[aB mQ]at h;by_cases DV:i.op=18∨i.op=21∨i.op=25
 ·rw[aY DV]at h;simp only[cW,mf]at h;omega
 rw[aB DV]at h;cases h
theorem Rs{P:Program}{f:FuncId}{args:LV}(h:dT P f args aq .bB aq):dT P f args aq (.ad 0 0 1) (cC []):=
 aj2 (n:=0) (l:=[]) (t:=3) h rfl (fB _)
theorem KI{P:Program}{f:FuncId}{args:LV}{l:LI}{n:Nat}(h:dT P f args aq (.ad 0 n 1) (an [(0,.aw (aX l) 3)] 1)):dT P f args aq (.ad 0 n 1) (cC l):=
 KK (g:=0) (n:=1) (l:=[(0,.aw (aX l) 3)]) (new:=bp l 3) (v:=.ad 0 n 1) h rfl (fun φ e o h=>CT (Cb _).2 h) rfl (by show(0:Nat)<=1;omega)
theorem arO{i:a9}(h0:0<=i.ar)(h1:i.ar<=4096):∀k:Nat,((k:Int)<=i.ar)->
 bJ Z 138 50 0 (.ad 0 (gR i.ar).length 1) (cC (gR i.ar)) (N1 (gR k).length i.ar (k:Int)) (Lg i (gR k)) (ao Z 138 1):=by
 refine cV (fun k=>i.ar.toNat-k) _ _ _ _ ?_;rintro k hk ih;refine hD wS 1000 rD (by kernel_rfl) ?_;rw[arN];refine aI.2 ⟨fun aj=>?_,fun aS=>?_⟩
 ·have aj:(k:Int)<i.ar:=by simpa using aj
  have e:wI ((k:Int)+1)=((k+1:Nat):Int):=by rw[cX (by omega) (by omega)];simp
  have hi:gR ((k:Int)+1)=gR k++[(k:Int)+1]:=(acA (n:=(k:Int)) (k:=k) (by omega)).resolve_right (by omega);have En:gR ((k+1:Nat):Int)=gR k++[(k:Int)+1]:=by rw[←hi];simp
  have bF:=Ma (k:Int);refine⟨⟨by rw[sG];omega,by omega,rfl,rfl⟩,?_⟩;have next:=ih (k+1) (by simp;omega) (by omega)
  rw[En,bI]at next
  simp only[Lg,bp,zT]at next
  rw[e];have e3:wI ((k:Int)+1)=(k:Int)+1:=by rw[cX (by omega) (by omega)]
  try rw[e3]
  exact next
 ·have aS:i.ar<=k:=by simpa using aS
  have:i.ar=k:=by omega
  rw[this];exact⟨rfl,rfl⟩
def aoT:List (Nat×Nat):=[(0,0),(2,1),(1,2)]
theorem F_:bm Z E6:=by
 refine de wS ?_;rintro⟨i,fs⟩ args H ⟨rfl,rfl,hf⟩;have hf:pN fs:=hf;simp only[IB];cases hF:bG i with
 |false=>
  have hr:c7 i fs=[]:=by simp[c7,hF]
  rw[hr];have lG:bG ⟨i.op,i.r,i.a,i.n,i.cH,i.ar⟩=false:=hF;refine Rs ?_;refine eS wS 1000 rD 50 (by kernel_rfl) ?_;rcases hf with rfl|rfl|rfl|rfl|rfl
  ·rw[afI];exact⟨⟨rfl,trivial⟩,aI.2 ⟨fun _=>⟨rfl,rfl⟩,fun _=>⟨rfl,rfl⟩⟩⟩
  ·rw[afJ];exact⟨⟨rfl,trivial⟩,aI.2 ⟨fun _=>⟨rfl,rfl⟩,fun h=>by rw[lG]at h;cases h⟩⟩
  ·rw[afL];exact⟨⟨rfl,trivial⟩,aI.2 ⟨fun _=>⟨rfl,rfl⟩,fun h=>by rw[lG]at h;cases h⟩⟩
  ·rw[VW];exact⟨⟨rfl,trivial⟩,aI.2 ⟨fun _=>⟨rfl,rfl⟩,fun h=>by rw[lG]at h;cases h⟩⟩
  ·rw[afK];exact⟨⟨rfl,trivial⟩,aI.2 ⟨fun _=>⟨rfl,rfl⟩,fun h=>by rw[lG]at h;cases h⟩⟩
 |true=>
  have lG:bG ⟨i.op,i.r,i.a,i.n,i.cH,i.ar⟩=true:=hF;rcases hf with rfl|rfl|rfl|rfl|rfl
  ·have hr:c7 i []=[]:=by simp[c7]
   rw[hr];refine Rs ?_;refine eS wS 1000 rD 50 (by kernel_rfl) ?_;rw[afI];exact⟨⟨rfl,trivial⟩,aI.2 ⟨fun _=>⟨rfl,rfl⟩,fun _=>⟨rfl,rfl⟩⟩⟩
  ·have hr:c7 i [97]=[i.a]:=by simp[c7,hF,eI]
   rw[hr];refine KI ?_;refine eS wS 1000 rD 50 (by kernel_rfl) ?_;rw[afJ];exact⟨⟨rfl,trivial⟩,aI.2 ⟨fun h=>(by rw[lG]at h;cases h),fun _=>⟨rfl,rfl,rfl⟩⟩⟩
  ·have hr:c7 i [114]=[i.r]:=by simp[c7,hF,eI]
   rw[hr];refine KI ?_;refine eS wS 1000 rD 50 (by kernel_rfl) ?_;rw[afL];exact⟨⟨rfl,trivial⟩,aI.2 ⟨fun h=>(by rw[lG]at h;cases h),fun _=>⟨rfl,rfl⟩⟩⟩
  ·by_cases ha:i.a=i.r
   ·have hr:c7 i [114,97]=[i.r]:=by simp[c7,hF,eI,ha]
    rw[hr];refine KI ?_;refine eS wS 1000 rD 50 (by kernel_rfl) ?_;rw[VW];exact⟨⟨rfl,trivial⟩,aI.2 ⟨fun h=>(by rw[lG]at h;cases h),fun _=>⟨⟨rfl,rfl⟩,aI.2 ⟨fun h=>(by simp[ha]at h),fun _=>⟨rfl,rfl⟩⟩⟩⟩⟩
   ·have hr:c7 i [114,97]=[i.r,i.a]:=by simp[c7,hF,eI,ha]
    rw[hr];refine KI ?_;refine eS wS 1000 rD 50 (by kernel_rfl) ?_;rw[VW];exact⟨⟨rfl,trivial⟩,aI.2 ⟨fun h=>(by rw[lG]at h;cases h),fun _=>⟨⟨rfl,rfl⟩,aI.2 ⟨fun _=>⟨rfl,rfl⟩,fun h=>(by simp[ha]at h)⟩⟩⟩⟩
  ·have hr:c7 i [112]=gR i.ar:=by simp[c7,hF,eI]
   rw[hr];have hb:=Qj hF;refine eS wS 1000 rD 50 (by kernel_rfl) ?_;rw[afK];refine⟨⟨rfl,trivial⟩,aI.2 ⟨fun h=>(by rw[lG]at h;cases h),fun _=>?_⟩⟩;refine A' (n:=2) (l:=[(0,mU i),(1,.qN [112] 1)]) (T:=[(2,.ab 0 0),(4,.bB),(12,.ab 1 0),(39,J i.ar),(40,J 0)]) 1 3 [4] ?_ rfl (by kernel_rfl);refine dH.rU (by kernel_rfl) (m0:=0) (qa:=[0,2,1]) (l:=[2,4,12,39,40]) (ps:=aoT) (H2:=Lg i []) (t:=N1 0 i.ar 0) (by kernel_rfl) (by kernel_rfl) ?_;exact arO hb.1 hb.2 0 (by simpa using hb.1)
end
end Go.Cl
