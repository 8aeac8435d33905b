/- Part of a proof of ClauseCompiles. -/
import Derived.Test.YtanclcoobcaemaaGreatB7
set_option linter.all false
set_option linter.unusedSectionVars false
set_option maxRecDepth 100000
namespace Go.Cl
open Go.Ev Go.Proofs
variable[Ro]
noncomputable section
def Rm.lY(m:Rm)(t:aK)(b:Int):Rm:=if t.cY=3 then m.ah ⟨7,b,0,0,[],0⟩else m.gP t
def Rm.qJ(m:Rm)(l:List (aK×Int)):Rm:=l.foldl (fun m p=>m.lY p.1 p.2) m
mutual
def Rm.lu:Rm->Int->aK->Rm
 |m,r,.mk k n s l=>((m.dq l).1.ah ⟨15,r,0,0,s,l.length⟩).qJ (l.zip (m.dq l).2)
def Rm.dq:Rm->bG->Rm×LI
 |m,[]=>(m,[])
 |m,t::l=>if t.cY=3 then(((m.bo.lu m.bo.cE t).dq l).1,m.bo.cE::((m.bo.lu m.bo.cE t).dq l).2)
   else((m.dq l).1,0::(m.dq l).2)
end
structure RG(n:Nat)(m m':Rm):Prop where
 lo:m.aZ.length<=m'.aZ.length
 hi:m'.aZ.length<=m.aZ.length+n
 set:m'.bV.length<=m.bV.length+n
 f:m'.f=m.f
 c:m'.c=m.c
theorem RG.xO(m:Rm):RG 0 m m:=⟨eh _,eh _,eh _,rfl,rfl⟩
theorem RG.sG{a b:Nat}{m m1 m2:Rm}(h1:RG a m m1)(h2:RG b m1 m2):RG (a+b) m m2:=
 ⟨Nat.le_trans h1.lo h2.lo,by have:=h1.hi;have:=h2.hi;omega,by have:=h1.set;have:=h2.set;omega,h2.f.trans h1.f,h2.c.trans h1.c⟩
theorem RG.le{a b:Nat}{m m':Rm}(h:RG a m m')(BL:a<=b):RG b m m':=⟨h.lo,by have:=h.hi;omega,by have:=h.set;omega,h.f,h.c⟩
theorem RG.ah(m:Rm)(i:ba):RG 1 m (m.ah i):=⟨by simp[Rm.ah],by simp[Rm.ah],by simp[Rm.ah],rfl,rfl⟩
theorem RG.bo(m:Rm):RG 0 m m.bo:=⟨by simp[Rm.bo],by simp[Rm.bo],by simp[Rm.bo],rfl,rfl⟩
theorem ajm(c:bS)(i:ba):c.length<=(jt c i).length:=by
 rcases List.eq_nil_or_concat c with rfl|⟨d,j,rfl⟩
 ·simp
 ·rw[List.concat_eq_append];by_cases h:i.op=10
  ·rw[sT h];split<;>simp
  ·rw[Bl h];simp
theorem RG.lQ(m:Rm):RG 1 m m.lQ:=⟨by simpa[Rm.lQ]using ajm m.aZ _,by simpa[Rm.lQ]using zy m.aZ _,by simp[Rm.lQ],rfl,rfl⟩
theorem RG.first(m:Rm)(v:Int):RG 1 m (m.gw v):=by unfold Rm.gw;split<;>exact⟨by simp,by simp,by simp,rfl,rfl⟩
theorem RG.gP(m:Rm)(t:aK):RG 1 m (m.gP t):=by
 unfold Rm.gP;split
 ·exact .ah m _
 ·split
  ·exact .ah m _
  ·split
   ·exact .lQ m
   ·split
    ·exact .ah m _
    ·rename_i hn;unfold Rm.gw;split
     ·exact⟨by simp[Rm.ah],by simp[Rm.ah],by simp[Rm.ah],rfl,rfl⟩
     ·exact⟨by simp[Rm.ah],by simp[Rm.ah],by simp[Rm.ah],rfl,rfl⟩
theorem RG.lY(m:Rm)(t:aK)(b:Int):RG 1 m (m.lY t b):=by
 unfold Rm.lY;split
 ·exact .ah m _
 ·exact .gP m t
theorem RG.qJ:∀(l:List (aK×Int)) (m:Rm),RG l.length m (m.qJ l)
 |[],m=>.xO m
 |(t,b)::l,m=>by have h:=(RG.lY m t b).sG (RG.qJ l (m.lY t b));simp only[Rm.qJ,ik,bR]at h⊢;exact h.le (by omega)
mutual
theorem RG.Pc:∀(m:Rm) (r:Int) (t:aK),RG (2*cD t-1) m (m.lu r t)
 |m,r,.mk k n s l=>by
  have h1:=RG.dq m l;have hq:=Ck l;have h2:=RG.ah (m.dq l).1 ⟨15,r,0,0,s,l.length⟩;have h3:=RG.qJ (l.zip (m.dq l).2) ((m.dq l).1.ah ⟨15,r,0,0,s,l.length⟩);have h4:(l.zip (m.dq l).2).length<=l.length:=by simp;omega
  simp only[Rm.lu,cD];exact((h1.sG h2).sG h3).le (by omega)
theorem RG.dq:∀(m:Rm) (l:bG),RG (2*bh l-l.length) m (m.dq l).1
 |m,[]=>by simp only[Rm.dq];exact(RG.xO m).le (by omega)
 |m,t::l=>by
  have hp:=kJ t;have hq:=Ck l;simp only[Rm.dq,bh,bR];split
  ·have h1:=RG.Pc m.bo m.bo.cE t;have h2:=RG.dq (m.bo.lu m.bo.cE t) l;exact((RG.bo m).sG (h1.sG h2)).le (by omega)
  ·exact(RG.dq m l).le (by omega)
end
def jr(m:Rm)(n:Nat):Prop:=m.aZ.length+n<60000∧m.bV.length+n<60000∧m.c.aC.length<60000∧vY m.f
theorem jr.rg{m m':Rm}{a b:Nat}(h:jr m (a+b))(hg:RG a m m'):jr m' b:=by obtain⟨h1,h2,h3,h4⟩:=h;have:=hg.hi;have:=hg.set;exact⟨by omega,by omega,by rw[hg.c];exact h3,by rw[hg.f];exact h4⟩
theorem jr.le{m:Rm}{a b:Nat}(h:jr m a)(BL:b<=a):jr m b:=⟨by have:=h.1;omega,by have:=h.2.1;omega,h.2.2.1,h.2.2.2⟩
theorem jr.rm{m:Rm}(h:jr m 0):N3 m:=⟨h.1,h.2.1,h.2.2.1,h.2.2.2⟩
def A_(N:Nat):Ev.bC:=cB 73 (cO (n9 aT (fun m w=>m.lu w.1 w.2) rl (fun m w=>jr m (2*cD w.2)∧eN w.2∧cD w.2<N)) (vR qI) cV) QL
def QM:Ev.bC:=cB 73 (cO (n9 aT (fun m w=>m.lu w.1 w.2) rl (fun m w=>jr m (2*cD w.2)∧eN w.2)) (vR qI) cV) QL
def vr(m:Rm)(k n:Int)(s:LN)(cs:LV)(len:Nat)(c9:LV):AH:=aq [(0,fQ m 1 2 3 8 9),(1,aD m.c.aR 3),(2,aD m.c.aC 2),(3,aD m.c.aE 3),(4,.bJ []),(5,.bJ []),(6,.ay [J k,J n,.aa s,.aB cs len 4] 42),(7,.c9 c9 3),(8,fI m),(9,fR m)] 10
abbrev OJ x0 x1 x2 x3:=bk [(0,.ad 0 0),(1,J x0),(5,.ad 6 0),(6,.bB 7 0 x1 x1 1 x2),(7,J x3)]
def Jl(r i:Int)(len:Nat):Tr AV:=OJ r len true i
def Fw:Nat->LN:=nk [(3,[0,1,5,6,7]),(10,[0,5,6,8])]
theorem atK(m:Rm)(r k n:Int)(s:LN)(cs:LV)(len:Nat)(N:Nat)(L:LT)(Q:QT):
 b_ Z (A_ N) Fw L Q 1000 73 [.ad 0 0,J r,.aj [J k,J n,.aa s,.aB cs len 4]] (bE m)=(
 ∃i:Nat,Int.ofNat len=(i:Int)∧i<=65536∧L (OJ r i true 0) (aq [(0,fQ m 1 2 3 4 5),(1,aD m.c.aR 3),(2,aD m.c.aC 2),(3,aD m.c.aE 3),(4,fI m),(5,fR m),(6,.ay [J k,J n,.aa s,.aB cs len 4] 42),(7,.c9 (jq [J 0] i) 3)] 8) (ao Z 73 0)):=by kernel_rfl
abbrev Jy x0 x1 x2:=bk [(0,.ad 0 0),(5,.ad 6 0),(6,.bB 7 0 x0 x0 1 x1),(8,J x2)]
theorem atG(m:Rm)(r k n i:Int)(s:LN)(cs:LV)(len:Nat)(c9:LV)(N:Nat)(L:LT)(Q:QT):
 cT Z (A_ N) Fw L Q 1000 73 6 (Jl r i len) (ao Z 73 0) (vr m k n s cs len c9)=(
 ai (decide (i<Int.ofNat len)) (∃aI:Nat,i=(aI:Int)∧aI<len∧(∃aP:Int,∃bp:Int,∃dO:LN,∃cN:LV,∃cz:Nat,((cs.drop (aI*4)).take 4:LV)=[J aP,J bp,.aa dO,.aB cN cz 4]∧ai (aP==3) (∃w:Rm×Unit,(([.ad 0 0]:LV)=[.ad 0 0]∧bE m=bE w.1∧True)∧(∃bz:Nat,i=(bz:Int)∧bz<len∧0+bz*1+1<=c9.length∧(∃cd:Nat,i=(cd:Int)∧cd<len∧(∃bI:Int,bA Z 3 (fA c9 (0+bz*1) [J w.1.bo.cE]) (0+cd*1)=some (J bI:AV)∧(∃dt:Nat,i=(dt:Int)∧dt<len∧(∃cS:Int,∃ib:Int,∃uK:LN,∃rP:LV,∃sd:Nat,((cs.drop (dt*4)).take 4:LV)=[J cS,J ib,.aa uK,.aB rP sd 4]∧(∃ab:Rm×Int×aK,(([.ad 0 0,J bI,.aj [J cS,J ib,.aa uK,.aB rP sd 4]]:LV)=[.ad 0 0,J ab.2.1,.aj (dy ab.2.2)]∧bE w.1.bo=bE ab.1∧jr ab.1 (2*cD ab.2.2)∧eN ab.2.2∧cD ab.2.2<N)∧L (OJ r len true (wI (i+1))) (vr (ab.1.lu ab.2.1 ab.2.2) k n s cs len (fA c9 (0+bz*1) [J w.1.bo.cE])) (ao Z 73 0)))))))) (L (OJ r len true (wI (i+1))) (vr m k n s cs len c9) (ao Z 73 0)))) (∃w:Rm×ba,(([.ad 0 0,.aj [J 15,J r,J 0,J 0,.aa s,J (Int.ofNat len)]]:LV)=[.ad 0 0,.aj (bP w.2)]∧bE m=bE w.1∧js w.1 w.2)∧L (Jy len true 0) (vr (w.1.ah w.2) k n s cs len c9) (ao Z 73 1))):=by kernel_rfl
theorem atI(m:Rm)(k n i:Int)(s:LN)(cs:LV)(len:Nat)(c9:LV)(N:Nat)(L:LT)(Q:QT):
 cT Z (A_ N) Fw L Q 1000 73 6 (Jy len true i) (ao Z 73 1) (vr m k n s cs len c9)=(
 ai (decide (i<Int.ofNat len)) (∃aI:Nat,i=(aI:Int)∧aI<len∧(∃aP:Int,∃bp:Int,∃dO:LN,∃cN:LV,∃cz:Nat,((cs.drop (aI*4)).take 4:LV)=[J aP,J bp,.aa dO,.aB cN cz 4]∧ai (aP==3) (∃bz:Nat,i=(bz:Int)∧bz<len∧(∃bI:Int,bA Z 3 c9 (0+bz*1)=some (J bI:AV)∧(∃w:Rm×ba,(([.ad 0 0,.aj [J 7,J bI,J 0,J 0,.aa [],J 0]]:LV)=[.ad 0 0,.aj (bP w.2)]∧bE m=bE w.1∧js w.1 w.2)∧L (Jy len true (wI (i+1))) (vr (w.1.ah w.2) k n s cs len c9) (ao Z 73 1)))) (∃bz:Nat,i=(bz:Int)∧bz<len∧(∃bI:Int,∃cS:Int,∃uK:LN,∃rP:LV,∃sd:Nat,((cs.drop (bz*4)).take 4:LV)=[J bI,J cS,.aa uK,.aB rP sd 4]∧(∃w:Rm×aK,(([.ad 0 0,.aj [J bI,J cS,.aa uK,.aB rP sd 4]]:LV)=[.ad 0 0,.aj (dy w.2)]∧bE m=bE w.1∧N3 w.1∧((w.1.aZ:bS)=[]->False))∧L (Jy len true (wI (i+1))) (vr (w.1.gP w.2) k n s cs len c9) (ao Z 73 1)))))) (Q (.aO []) (iw m))):=by kernel_rfl
theorem Z_:∀(m:Rm) (l:bG),(m.dq l).2.length=l.length
 |m,[]=>rfl
 |m,t::l=>by
  simp only[Rm.dq];split
  ·simp[Z_ _ l]
  ·simp[Z_ m l]
section
variable{k n r:Int}{s:LN}{l:bG}{N:Nat}
theorem atJ{M:Rm}{bs:LI}(hS:bn Z (A_ N))(ho:eN (.mk k n s l))(hb:bs.length=l.length):
 ∀p:Nat×Rm,(p.1<=l.length∧p.2.qJ ((l.zip bs).drop p.1)=M∧jr p.2 (l.length-p.1)∧p.2.aZ≠[])->
 bF Z 73 80 6 (.aO []) (iw M) (Jy l.length true (p.1:Int)) (vr p.2 k n s (bw l) l.length (aW bs)) (ao Z 73 1):=by
 have hl:=ho.2.1;refine cX (fun p=>l.length-p.1) _ _ _ _ ?_;rintro⟨i,m⟩ ⟨hi,hf,hr,c6⟩ ih;simp only at hi hf hr c6 ih⊢;refine hD hS 1000 Fw (by kernel_rfl) ?_;rw[atI];refine cv (fun h=>?_) (fun h=>?_)
 ·have an:i<l.length:=by have:=dW h;simpa using this
  obtain⟨k1,n1,s1,m1,he,bU,bq⟩:=oj an ho.2.2;have p_:i<bs.length:=by omega
  have hz:i<(l.zip bs).length:=by simp;omega
  have hzi:(l.zip bs)[i]=(.mk k1 n1 s1 m1,bs.getD i 0):=by simp[List.getD,jN p_,he]
  rw[dv hz,hzi]at hf;have next:=ih (i+1,m.lY (.mk k1 n1 s1 m1) (bs.getD i 0)) ⟨by simp only;omega,by rw[←hf];rfl,(hr.le (show 1+(l.length-(i+1))<=_ by omega)).rg (RG.lY m _ _),by have:=(RG.lY m (.mk k1 n1 s1 m1) (bs.getD i 0)).lo;intro hh;simp only at hh;rw[hh]at this;exact c6 (List.length_eq_zero_iff.1 (by simpa using this))⟩ (by simp only;omega)
  simp only at next
  have jv:=(hr.le (Nat.zero_le _)).rm;rw[iA hl an];refine⟨i,rfl,an,k1,n1,s1,_,_,bU,cv (fun hk=>?_) (fun hk=>?_)⟩
  ·have hk:k1=3:=by simpa using hk
   have e:m.lY (.mk k1 n1 s1 m1) (bs.getD i 0)=m.ah ⟨7,bs.getD i 0,0,0,[],0⟩:=aN hk;rw[e]at next
   refine⟨i,rfl,an,_,by rw[fD];exact ia p_,(m,⟨7,bs.getD i 0,0,0,[],0⟩),⟨rfl,rfl,by have:=jv.1;show m.aZ.length<65536;omega⟩,next⟩
  ·have hk:k1≠3:=by simpa using hk
   have e:m.lY (.mk k1 n1 s1 m1) (bs.getD i 0)=m.gP (.mk k1 n1 s1 m1):=az hk;rw[e]at next
   exact⟨i,rfl,an,k1,n1,s1,_,_,bU,(m,.mk k1 n1 s1 m1),⟨rfl,rfl,jv,c6⟩,next⟩
 ·have a8:l.length<=i:=by have:=eJ h;simp at this;omega
  have hz:(l.zip bs).length<=i:=by simp;omega
  rw[dV hz]at hf;have hf:m=M:=hf;subst hf;exact⟨rfl,rfl⟩
theorem atH{M:Rm}{BS:LI}(hS:bn Z (A_ N))(ho:eN (.mk k n s l))(hN:bh l<N):
 ∀p:Rm×LI,(p.2.length<=l.length∧jr p.1 (2*bh (l.drop p.2.length)+1+p.2.length)∧(p.1.dq (l.drop p.2.length)).1=M∧p.2++(p.1.dq (l.drop p.2.length)).2=BS)->
 bF Z 73 80 6 (.aO []) (iw ((M.ah ⟨15,r,0,0,s,l.length⟩).qJ (l.zip BS))) (Jl r (p.2.length:Int) l.length) (vr p.1 k n s (bw l) l.length (aW (p.2++List.replicate (l.length-p.2.length) 0))) (ao Z 73 0):=by
 have hl:=ho.2.1;refine cX (fun p=>l.length-p.2.length) _ _ _ _ ?_;rintro⟨m,bN⟩ ⟨hi,hc,kz,jV⟩ ih;simp only at hi hc kz jV ih⊢;refine hD hS 1000 Fw (by kernel_rfl) ?_;rw[atG];refine cv (fun h=>?_) (fun h=>?_)
 ·have an:bN.length<l.length:=by have:=dW h;simpa using this
  obtain⟨k1,n1,s1,m1,he,bU,bq⟩:=oj an ho.2.2;have cW:=Gc an;rw[he]at cW;have uh:=kJ (.mk k1 n1 s1 m1);rw[dv an,he,bh]at hc;rw[dv an,he,Rm.dq]at kz jV;rw[iA hl an];refine⟨bN.length,rfl,an,k1,n1,s1,_,_,bU,cv (fun hk=>?_) (fun hk=>?_)⟩
  ·have hk:k1=3:=by simpa using hk
   rw[aN (show(aK.mk k1 n1 s1 m1).cY=3 from hk)]at kz jV;have hb:=RG.Pc m.bo m.bo.cE (.mk k1 n1 s1 m1);have hrt:=(hc.le (show 0+(2*(cD (.mk k1 n1 s1 m1)+bh (l.drop (bN.length+1)))+1+bN.length)<=_ by omega)).rg (RG.bo m);have yD:=(hrt.le (show(2*cD (.mk k1 n1 s1 m1)-1)+(2*bh (l.drop (bN.length+1))+1+(bN.length+1))<=_ by omega)).rg hb;refine⟨(m,()),⟨rfl,rfl,trivial⟩,bN.length,rfl,an,by rw[qq];simp;omega,bN.length,rfl,an,m.bo.cE,?_,bN.length,rfl,an,k1,n1,s1,_,_,bU,(m.bo,m.bo.cE,.mk k1 n1 s1 m1),⟨rfl,rfl,hrt.le (by simp only;omega),bq,by simp only;omega⟩,?_⟩
   ·show bA Z 3 (fA _ (0+bN.length*1) [J m.bo.cE]) _=_;rw[N5 _ an];exact afy _
   ·show bF _ _ _ _ _ _ _ (aq [(0,_),(1,_),(2,_),(3,_),(4,_),(5,_),(6,_),(7,.c9 (fA _ (0+bN.length*1) [J m.bo.cE]) 3),(8,_),(9,_)] 10) _;rw[N5 _ an];have:=ih (m.bo.lu m.bo.cE (.mk k1 n1 s1 m1),bN++[m.bo.cE]) ⟨by simp;omega,by simpa using yD,by simpa using kz,by simpa using jV⟩ (by simp;omega);simp only[bj,bR,cI,fD]at this;exact this
  ·have hk:k1≠3:=by simpa using hk
   rw[az (show¬(aK.mk k1 n1 s1 m1).cY=3 from hk)]at kz jV;rw[afx an];have:=ih (m,bN++[0]) ⟨by simp;omega,by simp only[bj,bR,cI,fD];exact hc.le (by omega),by simpa using kz,by simpa using jV⟩ (by simp;omega);simp only[bj,bR,cI,fD]at this;exact this
 ·have a8:l.length<=bN.length:=by have:=eJ h;simp at this;omega
  have dY:bN.length=l.length:=by omega
  rw[dV a8]at kz jV hc;simp only[Rm.dq,gz]at kz jV;subst kz jV;have h0:List.replicate (l.length-bN.length) (0:Int)=[]:=by rw[dY];simp
  rw[h0,gz];simp only[bh]at hc;have Mw:=(hc.le (show 1+l.length<=_ by omega)).rg (RG.ah m ⟨15,r,0,0,s,l.length⟩);have:=atJ (k:=k) (n:=n) (M:=(m.ah ⟨15,r,0,0,s,l.length⟩).qJ (l.zip bN)) hS ho dY (0,m.ah ⟨15,r,0,0,s,l.length⟩) ⟨Nat.zero_le _,rfl,Mw,by simp[Rm.ah]⟩;exact⟨(m,⟨15,r,0,0,s,l.length⟩),⟨rfl,rfl,by have:=hc.1;show m.aZ.length<65536;omega⟩,this⟩
def TV(m:Rm)(k n:Int)(s:LN)(cs:LV)(len:Nat)(c9:LV):AH:=aq [(0,fQ m 1 2 3 4 5),(1,aD m.c.aR 3),(2,aD m.c.aC 2),(3,aD m.c.aE 3),(4,fI m),(5,fR m),(6,.ay [J k,J n,.aa s,.aB cs len 4] 42),(7,.c9 c9 3)] 8
def Mg(m:Rm)(k n:Int)(s:LN)(cs:LV)(len:Nat)(c9:LV):AH:=aq [(0,fQ m 1 2 3 8 5),(1,aD m.c.aR 3),(2,aD m.c.aC 2),(3,aD m.c.aE 3),(4,.bJ []),(5,fR m),(6,.ay [J k,J n,.aa s,.aB cs len 4] 42),(7,.c9 c9 3),(8,fI m)] 9
theorem anB(m:Rm)(k n:Int)(s:LN)(cs:LV)(len:Nat)(c9:LV):Mv (TV m k n s cs len c9) (Mg m k n s cs len c9) 4:=
 oG (l':=[(0,fQ m 1 2 3 8 5),(1,aD m.c.aR 3),(2,aD m.c.aC 2),(3,aD m.c.aE 3),(4,.bJ []),(5,fR m),(6,.ay [J k,J n,.aa s,.aB cs len 4] 42),(7,.c9 c9 3)]) rfl rfl rfl
theorem anD(m:Rm)(k n:Int)(s:LN)(cs:LV)(len:Nat)(c9:LV):Mv (Mg m k n s cs len c9) (vr m k n s cs len c9) 5:=
 oG (l':=[(0,fQ m 1 2 3 8 9),(1,aD m.c.aR 3),(2,aD m.c.aC 2),(3,aD m.c.aE 3),(4,.bJ []),(5,.bJ []),(6,.ay [J k,J n,.aa s,.aB cs len 4] 42),(7,.c9 c9 3),(8,fI m)]) rfl rfl rfl
theorem af4{m:Rm}(hS:bn Z (A_ N))(hc:jr m (2*(1+bh l)))(ho:eN (.mk k n s l))(hN:bh l<N):
 eC Z 73 [.ad 0 0,J r,.aj [J k,J n,.aa s,.aB (bw l) l.length 4]] (bE m) (.aO []) (iw (m.lu r (.mk k n s l))):=by
 refine eS hS 1000 Fw 80 (by kernel_rfl) ?_;rw[atK];have bH:=Ck l;refine⟨l.length,rfl,by have:=hc.1;omega,?_⟩;rw[WU];refine qa (H:=TV m k n s (bw l) l.length (aW (List.replicate l.length 0))) (H':=Mg m k n s (bw l) l.length (aW (List.replicate l.length 0))) (t:=Jl r 0 l.length) (t':=Jl r 0 l.length) (g:=4) ?_ (anB m k n s (bw l) l.length (aW (List.replicate l.length 0))) (by kernel_rfl) (fun i a' hi=>⟨a',hi,rk hi (by simp[eK,iV,jW,TV,aq])⟩);refine qa (H':=vr m k n s (bw l) l.length (aW (List.replicate l.length 0))) (t':=Jl r 0 l.length) (g:=5) ?_ (anD m k n s (bw l) l.length (aW (List.replicate l.length 0))) (by kernel_rfl) (fun i a' hi=>⟨a',hi,rk hi (by simp[eK,iV,jW,Mg,aq])⟩);exact atH (r:=r) hS ho hN (m,[]) ⟨by simp,by simp only[cI,hI];exact hc.le (by omega),rfl,by simp only[cI,hI,pS]⟩
end
theorem ahr:∀N,bn Z (A_ N):=by
 refine CE (e:=fun N=>n9 aT (fun m w=>m.lu w.1 w.2) rl (fun m w=>jr m (2*cD w.2)∧eN w.2∧cD w.2<N)) (h1:=fun N=>vR qI) Zk ?_ ?_
 ·rintro⟨m,r,t⟩ args H ⟨_,_,_,_,h⟩;omega
 ·rintro N hS ⟨m,r,⟨k,n,s,l⟩⟩ args H ⟨rfl,rfl,hc,ho,hN⟩;simp only[cD]at hc hN;exact af4 hS hc ho (by omega)
theorem Zl:bn Z QM:=by refine dc Zk ?_;rintro⟨m,r,⟨k,n,s,l⟩⟩ args H ⟨rfl,rfl,hc,ho⟩;simp only[cD]at hc;exact af4 (ahr (bh l+1)) hc ho (by omega)
def Rm.dR(m:Rm)(w:Int×Int):Rm:=
 match cu w.2 m.bV with
 |some r=>(m.bo.ah ⟨w.1,m.bo.cE,0,0,[],0⟩).ah ⟨2,r,m.bo.cE,0,[],0⟩
 |none=>(m.gw w.2).ah ⟨w.1,m.gY w.2,0,0,[],0⟩
def Rm.iX(m:Rm)(w:Int×aK):Rm:=
 if w.2.cY=1 then m.ah ⟨13,0,w.1,w.2.n,[],0⟩
 else if w.2.cY=2 then m.ah ⟨14,0,w.1,0,w.2.fZ,0⟩
 else if w.2.cY=3 then m.lu w.1 w.2
 else if m.iM w.2.n=true then m.ah ⟨11,w.1,w.1,0,[],0⟩
 else match cu w.2.n m.bV with
  |some r=>m.ah ⟨12,r,w.1,0,[],0⟩
  |none=>(m.gw w.2.n).ah ⟨11,m.gY w.2.n,w.1,0,[],0⟩
def QN:Ev.bC:=cB 37 (cO (n9 aV Rm.dR rl (fun m _=>jr m 2)) (vR ZA) cV) QM
def GG:Ev.bC:=cB 39 (cO (n9 aT Rm.iX rl (fun m w=>jr m (2*cD w.2)∧eN w.2)) (vR qI) cV) QN
def Rm.ig(m:Rm)(t:aK):Rm×List (Int×aK):=if t.cY=3 then(m.bo.ah ⟨6,m.bo.cE,0,0,[],0⟩,[(m.bo.cE,t)])else(m.gP t,[])
def Rm.gR:Rm->List (Int×aK)->bG->Rm×List (Int×aK)
 |m,q,[]=>(m,q)
 |m,q,t::l=>Rm.gR (m.ig t).1 (q++(m.ig t).2) l
def Rm.gD:Nat->Rm->List (Int×aK)->Rm
 |0,m,_=>m
 |_+1,m,[]=>m
 |n+1,m,w::q=>Rm.gD n ((m.ah ⟨5,0,w.1,0,w.2.fZ,w.2.cK.length⟩).gR q w.2.cK).1 ((m.ah ⟨5,0,w.1,0,w.2.fZ,w.2.cK.length⟩).gR q w.2.cK).2
def Rm.FA(m:Rm)(w:Int×aK):Rm:=Rm.gD (dw [w]+1) m [w]
def Kt:Ev.bC:=cB 69 (cO (n9 aT Rm.FA rl (fun m w=>jr m (dw [w])∧eN w.2)) (vR qI) cV) GG
def qR(q:List (Int×aK)):bc:=.aL (iF q) 158
def EF(m:Rm)(q:List (Int×aK)):AH:=aq [(0,fQ m 1 2 3 7 8),(1,aD m.c.aR 3),(2,aD m.c.aC 2),(3,aD m.c.aE 3),(4,.bJ []),(5,.bJ []),(6,qR q),(7,fI m),(8,fR m)] 9
def BJ(m:Rm)(q:List (Int×aK))(w:Int×aK):AH:=aq [(0,fQ m 1 2 3 8 9),(1,aD m.c.aR 3),(2,aD m.c.aC 2),(3,aD m.c.aE 3),(4,.bJ []),(5,.bJ []),(6,qR q),(7,.ay [J w.1,J w.2.cY,J w.2.n,.aa w.2.fZ,.aB (bw w.2.cK) w.2.cK.length 4] 158),(8,fI m),(9,fR m)] 10
def Fu:Nat->LN:=nk [(2,[0,6]),(7,[0,6,7,8])]
theorem asH(m:Rm)(op v:Int)(L:LT)(Q:QT):
 b_ Z QM (fun _=>[]) L Q 1000 37 [.ad 0 0,J op,J v] (bE m)=(
 ∃w:Rm×Int,(([.ad 0 0,J v]:LV)=[.ad 0 0,J w.2]∧bE m=bE w.1∧w.1.bV.length<65536)∧ai (Option.isSome (cu w.2 w.1.bV)) (∃ab:Rm×Unit,(([.ad 0 0]:LV)=[.ad 0 0]∧bE w.1=bE ab.1∧True)∧(∃aJ:Rm×ba,(([.ad 0 0,.aj [J op,J ab.1.bo.cE,J 0,J 0,.aa [],J 0]]:LV)=[.ad 0 0,.aj (bP aJ.2)]∧bE ab.1.bo=bE aJ.1∧js aJ.1 aJ.2)∧(∃cU:Rm×ba,(([.ad 0 0,.aj [J 2,J (Option.getD (cu w.2 w.1.bV) 0),J ab.1.bo.cE,J 0,.aa [],J 0]]:LV)=[.ad 0 0,.aj (bP cU.2)]∧bE (aJ.1.ah aJ.2)=bE cU.1∧js cU.1 cU.2)∧Q (.aO []) (iw (cU.1.ah cU.2))))) (∃ab:Rm×Int,(([.ad 0 0,J v]:LV)=[.ad 0 0,J ab.2]∧bE w.1=bE ab.1∧I3 ab.1 ab.2)∧(∃aJ:Rm×ba,(([.ad 0 0,.aj [J op,J (ab.1.gY ab.2),J 0,J 0,.aa [],J 0]]:LV)=[.ad 0 0,.aj (bP aJ.2)]∧bE (ab.1.gw ab.2)=bE aJ.1∧js aJ.1 aJ.2)∧Q (.aO []) (iw (aJ.1.ah aJ.2))))):=by kernel_rfl
theorem asL(m:Rm)(a k n:Int)(s:LN)(cs:LV)(len:Nat)(L:LT)(Q:QT):
 b_ Z QN (fun _=>[]) L Q 1000 39 [.ad 0 0,J a,.aj [J k,J n,.aa s,.aB cs len 4]] (bE m)=(
 ai (k==1) (∃w:Rm×ba,(([.ad 0 0,.aj [J 13,J 0,J a,J n,.aa [],J 0]]:LV)=[.ad 0 0,.aj (bP w.2)]∧bE m=bE w.1∧js w.1 w.2)∧Q (.aO []) (iw (w.1.ah w.2))) (ai (k==2) (∃w:Rm×ba,(([.ad 0 0,.aj [J 14,J 0,J a,J 0,.aa s,J 0]]:LV)=[.ad 0 0,.aj (bP w.2)]∧bE m=bE w.1∧js w.1 w.2)∧Q (.aO []) (iw (w.1.ah w.2))) (ai (k==3) (∃w:Rm×Int×aK,(([.ad 0 0,J a,.aj [J k,J n,.aa s,.aB cs len 4]]:LV)=[.ad 0 0,J w.2.1,.aj (dy w.2.2)]∧bE m=bE w.1∧jr w.1 (2*cD w.2.2)∧eN w.2.2)∧Q (.aO []) (iw (w.1.lu w.2.1 w.2.2))) (∃w:Rm×Int,(([.ad 0 0,J n]:LV)=[.ad 0 0,J w.2]∧bE m=bE w.1∧vY w.1.f)∧ai (w.1.iM w.2) (∃ab:Rm×ba,(([.ad 0 0,.aj [J 11,J a,J a,J 0,.aa [],J 0]]:LV)=[.ad 0 0,.aj (bP ab.2)]∧bE w.1=bE ab.1∧js ab.1 ab.2)∧Q (.aO []) (iw (ab.1.ah ab.2))) (∃ab:Rm×Int,(([.ad 0 0,J n]:LV)=[.ad 0 0,J ab.2]∧bE w.1=bE ab.1∧ab.1.bV.length<65536)∧ai (Option.isSome (cu ab.2 ab.1.bV)) (∃aJ:Rm×ba,(([.ad 0 0,.aj [J 12,J (Option.getD (cu ab.2 ab.1.bV) 0),J a,J 0,.aa [],J 0]]:LV)=[.ad 0 0,.aj (bP aJ.2)]∧bE ab.1=bE aJ.1∧js aJ.1 aJ.2)∧Q (.aO []) (iw (aJ.1.ah aJ.2))) (∃aJ:Rm×Int,(([.ad 0 0,J n]:LV)=[.ad 0 0,J aJ.2]∧bE ab.1=bE aJ.1∧I3 aJ.1 aJ.2)∧(∃cU:Rm×ba,(([.ad 0 0,.aj [J 11,J (aJ.1.gY aJ.2),J a,J 0,.aa [],J 0]]:LV)=[.ad 0 0,.aj (bP cU.2)]∧bE (aJ.1.gw aJ.2)=bE cU.1∧js cU.1 cU.2)∧Q (.aO []) (iw (cU.1.ah cU.2))))))))):=by kernel_rfl
theorem atA(m:Rm)(r k n:Int)(s:LN)(cs:LV)(len:Nat)(L:LT)(Q:QT):
 b_ Z GG Fu L Q 1000 69 [.ad 0 0,J r,.aj [J k,J n,.aa s,.aB cs len 4]] (bE m)=(
 L (bk [(0,.ad 0 0),(6,.bB 6 0 1 1 5 true)]) (aq [(0,fQ m 1 2 3 4 5),(1,aD m.c.aR 3),(2,aD m.c.aC 2),(3,aD m.c.aE 3),(4,fI m),(5,fR m),(6,.ay [J r,J k,J n,.aa s,.aB cs len 4] 158)] 7) (ao Z 69 0)):=by kernel_rfl
abbrev F8 x0:=bk [(0,.ad 0 0),(6,.ae 6 x0 5)]
theorem atw(m:Rm)(q:List (Int×aK))(L:LT)(Q:QT):
 cT Z GG Fu L Q 1000 69 6 (F8 q.length) (ao Z 69 0) (EF m q)=(
 ai (decide (Int.ofNat q.length>0)) (0<q.length∧(∃n:Int,∃aP:Int,∃bp:Int,∃s:LN,∃cs:LV,∃len:Nat,bA Z 158 (iF q) 0=some (.aj [J n,J aP,J bp,.aa s,.aB cs len 4]:AV)∧1<=q.length∧(1<=q.length∧q.length<=q.length)∧(∃w:Rm×ba,(([.ad 0 0,.aj [J 5,J 0,J n,J 0,.aa s,J (Int.ofNat len)]]:LV)=[.ad 0 0,.aj (bP w.2)]∧bE m=bE w.1∧js w.1 w.2)∧L (bk [(0,.ad 0 0),(6,.bB 6 5 (q.length-1) 0 5 false),(7,.ad 7 0),(8,J 0)]) (aq [(0,fQ (w.1.ah w.2) 1 2 3 8 9),(1,aD (w.1.ah w.2).c.aR 3),(2,aD (w.1.ah w.2).c.aC 2),(3,aD (w.1.ah w.2).c.aE 3),(4,.bJ []),(5,.bJ []),(6,qR q),(7,.ay [J n,J aP,J bp,.aa s,.aB cs len 4] 158),(8,fI (w.1.ah w.2)),(9,fR (w.1.ah w.2))] 10) (ao Z 69 1)))) (Q (.aO []) (iw m))):=by kernel_rfl
abbrev CU x0 x1 x2:=bk [(0,.ad 0 0),(6,.ae x0 x1 5),(7,.ad 7 0),(8,J x2)]
theorem aty(m:Rm)(q:List (Int×aK))(w:Int×aK)(i:Int)(L:LT)(Q:QT):
 cT Z GG Fu L Q 1000 69 6 (CU 6 q.length i) (ao Z 69 1) (BJ m q w)=(
 ai (decide (i<Int.ofNat w.2.cK.length)) (∃aI:Nat,i=(aI:Int)∧aI<w.2.cK.length∧(∃n:Int,∃aP:Int,∃s:LN,∃cs:LV,∃len:Nat,(((bw w.2.cK).drop (aI*4)).take 4:LV)=[J n,J aP,.aa s,.aB cs len 4]∧ai (n !=3) (∃bz:Nat,i=(bz:Int)∧bz<w.2.cK.length∧(∃bp:Int,∃bI:Int,∃dO:LN,∃cN:LV,∃cz:Nat,(((bw w.2.cK).drop (bz*4)).take 4:LV)=[J bp,J bI,.aa dO,.aB cN cz 4]∧(∃ab:Rm×aK,(([.ad 0 0,.aj [J bp,J bI,.aa dO,.aB cN cz 4]]:LV)=[.ad 0 0,.aj (dy ab.2)]∧bE m=bE ab.1∧N3 ab.1∧((ab.1.aZ:bS)=[]->False))∧L (CU 6 q.length (wI (i+1))) (BJ (ab.1.gP ab.2) q w) (ao Z 69 1)))) (∃ab:Rm×Unit,(([.ad 0 0]:LV)=[.ad 0 0]∧bE m=bE ab.1∧True)∧(∃aJ:Rm×ba,(([.ad 0 0,.aj [J 6,J ab.1.bo.cE,J 0,J 0,.aa [],J 0]]:LV)=[.ad 0 0,.aj (bP aJ.2)]∧bE ab.1.bo=bE aJ.1∧js aJ.1 aJ.2)∧(∃bz:Nat,i=(bz:Int)∧bz<w.2.cK.length∧(∃bp:Int,∃bI:Int,∃dO:LN,∃cN:LV,∃cz:Nat,(((bw w.2.cK).drop (bz*4)).take 4:LV)=[J bp,J bI,.aa dO,.aB cN cz 4]∧((iF q).length=q.length*5∧q.length+1<=65536∧true=true∧true=true)∧L (CU 6 (q.length+1) (wI (i+1))) (aq [(0,fQ (aJ.1.ah aJ.2) 1 2 3 8 9),(1,aD (aJ.1.ah aJ.2).c.aR 3),(2,aD (aJ.1.ah aJ.2).c.aC 2),(3,aD (aJ.1.ah aJ.2).c.aE 3),(4,.bJ []),(5,.bJ []),(6,.aL (iF q++[J ab.1.bo.cE,J bp,J bI,.aa dO,.aB cN cz 4]) 158),(7,.ay [J w.1,J w.2.cY,J w.2.n,.aa w.2.fZ,.aB (bw w.2.cK) w.2.cK.length 4] 158),(8,fI (aJ.1.ah aJ.2)),(9,fR (aJ.1.ah aJ.2))] 10) (ao Z 69 1))))))) (L (F8 q.length) (EF m q) (ao Z 69 0))):=by kernel_rfl
theorem axE{o:Option Int}{r:Int}(h:o=some r):o.getD 0=r:=by rw[h];rfl
theorem SI(m:Rm)(v:Int):(m.gw v).aZ=m.aZ:=by unfold Rm.gw;split<;>rfl
theorem VB{v:Int}{l:LP}(h:(cu v l).isSome=false):cu v l=none:=by
 cases hh:cu v l with
 |none=>rfl
 |some r=>rw[hh]at h;cases h
theorem Zm:bn Z QN:=by
 refine dc Zl ?_;rintro⟨m,op,v⟩ args H ⟨rfl,rfl,hr⟩;have hr:jr m 2:=hr;obtain⟨h1,h2,h3,_⟩:=hr;simp only[n9,aV,rl];refine eS Zl 1000 (fun _=>[]) 37 (by kernel_rfl) ?_;rw[asH];refine⟨(m,v),⟨rfl,rfl,by show m.bV.length<65536;omega⟩,cv (fun h4=>?_) (fun h4=>?_)⟩
 ·have h4:(cu v m.bV).isSome=true:=h4;obtain⟨r,hr⟩:=Option.isSome_iff_exists.1 h4;have e:m.dR (op,v)=(m.bo.ah ⟨op,m.bo.cE,0,0,[],0⟩).ah ⟨2,r,m.bo.cE,0,[],0⟩:=by simp[Rm.dR,hr]
  rw[e];refine⟨(m,()),⟨rfl,rfl,trivial⟩,(m.bo,⟨op,m.bo.cE,0,0,[],0⟩),⟨rfl,rfl,by show m.aZ.length<65536;omega⟩,(m.bo.ah ⟨op,m.bo.cE,0,0,[],0⟩,⟨2,r,m.bo.cE,0,[],0⟩),⟨?_,rfl,by show(m.aZ++[_]).length<65536;simp;omega⟩,rfl,rfl⟩;show[AV.ad 0 0,.aj [J 2,J ((cu v m.bV).getD 0),J m.bo.cE,J 0,.aa [],J 0]]=_;rw[hr];rfl
 ·have hr:=VB (v:=v) (l:=m.bV) h4;have e:m.dR (op,v)=(m.gw v).ah ⟨op,m.gY v,0,0,[],0⟩:=by simp[Rm.dR,hr]
  rw[e];exact⟨(m,v),⟨rfl,rfl,by show m.bV.length<65536;omega,by show m.c.aC.length<65536;omega⟩,(m.gw v,⟨op,m.gY v,0,0,[],0⟩),⟨rfl,rfl,by show(m.gw v).aZ.length<65536;rw[SI];omega⟩,rfl,rfl⟩
theorem Ks:bn Z GG:=by
 refine dc Zm ?_;rintro⟨m,a,⟨k,n,s,l⟩⟩ args H ⟨rfl,rfl,hr,ho⟩;have hr:jr m (2*cD (.mk k n s l)):=hr;obtain⟨h1,h2,h3,hf⟩:=id hr;simp only[n9,aT,rl,dy];refine eS Zm 1000 (fun _=>[]) 64 (by kernel_rfl) ?_;rw[asL];have hc:m.aZ.length<65536:=by omega
 refine cv (fun h=>?_) (fun h=>cv (fun h2=>?_) (fun h2=>cv (fun h3=>?_) (fun h3=>⟨(m,n),⟨rfl,rfl,hf⟩,cv (fun h4=>?_) (fun h4=>?_)⟩)))
 ·have h:k=1:=by simpa using h
  have e:m.iX (a,.mk k n s l)=m.ah ⟨13,0,a,n,[],0⟩:=by simp[Rm.iX,aK.cY,aK.n,h]
  rw[e];exact⟨(m,⟨13,0,a,n,[],0⟩),⟨rfl,rfl,hc⟩,rfl,rfl⟩
 ·have h:k≠1:=by simpa using h
  have h2:k=2:=by simpa using h2
  have e:m.iX (a,.mk k n s l)=m.ah ⟨14,0,a,0,s,0⟩:=by simp[Rm.iX,aK.cY,aK.fZ,h,h2]
  rw[e];exact⟨(m,⟨14,0,a,0,s,0⟩),⟨rfl,rfl,hc⟩,rfl,rfl⟩
 ·have h:k≠1:=by simpa using h
  have h2:k≠2:=by simpa using h2
  have h3:k=3:=by simpa using h3
  have e:m.iX (a,.mk k n s l)=m.lu a (.mk k n s l):=by simp[Rm.iX,aK.cY,h3]
  rw[e];exact⟨(m,a,.mk k n s l),⟨rfl,rfl,hr,ho⟩,rfl,rfl⟩
 ·have h:k≠1:=by simpa using h
  have h2:k≠2:=by simpa using h2
  have h3:k≠3:=by simpa using h3
  have h4:m.iM n=true:=h4;have e:m.iX (a,.mk k n s l)=m.ah ⟨11,a,a,0,[],0⟩:=by simp[Rm.iX,aK.cY,aK.n,h,h2,h3,h4]
  rw[e];exact⟨(m,⟨11,a,a,0,[],0⟩),⟨rfl,rfl,hc⟩,rfl,rfl⟩
 ·have h:k≠1:=by simpa using h
  have h2:k≠2:=by simpa using h2
  have h3:k≠3:=by simpa using h3
  have h4:m.iM n=false:=h4;refine⟨(m,n),⟨rfl,rfl,by show m.bV.length<65536;omega⟩,cv (fun h5=>?_) (fun h5=>?_)⟩
  ·have h5:(cu n m.bV).isSome=true:=h5;obtain⟨r,hr⟩:=Option.isSome_iff_exists.1 h5;have e:m.iX (a,.mk k n s l)=m.ah ⟨12,r,a,0,[],0⟩:=by simp[Rm.iX,aK.cY,aK.n,h,h2,h3,h4,hr]
   rw[e];refine⟨(m,⟨12,r,a,0,[],0⟩),⟨?_,rfl,hc⟩,rfl,rfl⟩;show[AV.ad 0 0,.aj [J 12,J ((cu n m.bV).getD 0),J a,J 0,.aa [],J 0]]=_;rw[hr];rfl
  ·have hr:=VB (v:=n) (l:=m.bV) h5;have e:m.iX (a,.mk k n s l)=(m.gw n).ah ⟨11,m.gY n,a,0,[],0⟩:=by simp[Rm.iX,aK.cY,aK.n,h,h2,h3,h4,hr]
   rw[e];exact⟨(m,n),⟨rfl,rfl,by show m.bV.length<65536;omega,by show m.c.aC.length<65536;omega⟩,(m.gw n,⟨11,m.gY n,a,0,[],0⟩),⟨rfl,rfl,by show(m.gw n).aZ.length<65536;rw[SI];exact hc⟩,rfl,rfl⟩
theorem RG.ig(m:Rm)(t:aK):RG (2*cD t-dw (m.ig t).2) m (m.ig t).1:=by
 have hp:=kJ t;unfold Rm.ig;split
 ·obtain⟨k,n,s,l⟩:=t;simp only[dw,aK.cK,cD];exact((RG.bo m).sG (RG.ah _ _)).le (by omega)
 ·simp only[dw];exact(RG.gP m t).le (by omega)
theorem ZK(m:Rm)(t:aK):dw (m.ig t).2<=2*cD t:=by
 have hp:=kJ t;unfold Rm.ig;split
 ·obtain⟨k,n,s,l⟩:=t;simp only[dw,cD,aK.cK];omega
 ·simp only[dw];omega
theorem RG.gR:∀(l:bG) (m:Rm) (q:List (Int×aK)),RG (2*bh l+dw q-dw (m.gR q l).2) m (m.gR q l).1∧dw (m.gR q l).2<=dw q+2*bh l
 |[],m,q=>by simp only[Rm.gR,bh];exact⟨(RG.xO m).le (by omega),by omega⟩
 |t::l,m,q=>by have h1:=RG.ig m t;have h2:=RG.gR l (m.ig t).1 (q++(m.ig t).2);have h3:=ZK m t;simp only[Rm.gR,bh];rw[CB]at h2;exact⟨(h1.sG h2.1).le (by omega),by omega⟩
theorem aia{m:Rm}{t:aK}(h:eN t):Ay (m.ig t).2:=by
 intro w hw;unfold Rm.ig at hw;split at hw
 ·simp at hw;subst hw;exact h
 ·simp at hw
theorem ZQ:∀{l:bG} {m:Rm} {q:List (Int×aK)},iS l->Ay q->Ay (m.gR q l).2
 |[],m,q,_,hq=>hq
 |t::l,m,q,hl,hq=>ZQ (l:=l) hl.2 (fun w hw=>by
   rcases List.mem_append.1 hw with h|h
   ·exact hq w h
   ·exact aia hl.1 w h)
theorem aju(q:List (Int×aK))(r k n:Int)(s:LN)(l:bG):iF (q++[(r,.mk k n s l)])=iF q++[J r,J k,J n,.aa s,.aB (bw l) l.length 4]:=aaU q r k n s l
theorem atz{M:Rm}{w:Int×aK}{aw:Rm}{Qu:List (Int×aK)}(ho:eN w.2)
 (next:bF Z 69 75 6 (.aO []) (iw M) (F8 Qu.length) (EF aw Qu) (ao Z 69 0)):
 ∀p:Nat×Rm×List (Int×aK),(p.1<=w.2.cK.length∧p.2.1.gR p.2.2 (w.2.cK.drop p.1)=(aw,Qu)∧jr p.2.1 (2*bh (w.2.cK.drop p.1))∧p.2.1.aZ≠[]∧dw p.2.2+2*bh (w.2.cK.drop p.1)<60000)->
 bF Z 69 75 6 (.aO []) (iw M) (CU 6 p.2.2.length (p.1:Int)) (BJ p.2.1 p.2.2 w) (ao Z 69 1):=by
 obtain⟨r0,⟨k0,n0,s0,l⟩⟩:=w;have hl:eQ l.length:=ho.2.1;simp only[aK.cK];refine cX (fun p=>l.length-p.1) _ _ _ _ ?_;rintro⟨i,m,q⟩ ⟨hi,hf,hr,c6,hq⟩ ih;simp only at hi hf hr c6 hq ih⊢;have hql:=Vv q;refine hD Ks 1000 Fu (by kernel_rfl) ?_;rw[aty];refine cv (fun h=>?_) (fun h=>?_)
 ·have an:i<l.length:=by have:=dW h;simpa[aK.cK]using this
  obtain⟨k1,n1,s1,m1,he,bU,bq⟩:=oj an ho.2.2;rw[dv an,he,Rm.gR]at hf;rw[dv an,he,bh]at hr hq;have uh:=kJ (.mk k1 n1 s1 m1);have h1:=RG.ig m (.mk k1 n1 s1 m1);have h3:=ZK m (.mk k1 n1 s1 m1);have nx:=ih (i+1,(m.ig (.mk k1 n1 s1 m1)).1,q++(m.ig (.mk k1 n1 s1 m1)).2) ⟨by simp only;omega,hf,(hr.le (show(2*cD (.mk k1 n1 s1 m1)-dw (m.ig (.mk k1 n1 s1 m1)).2)+2*bh (l.drop (i+1))<=_ by omega)).rg h1,by have:=h1.lo;intro hh;simp only at hh;rw[hh]at this;exact c6 (List.length_eq_zero_iff.1 (by simpa using this)),by rw[CB];simp only;omega⟩ (by simp only;omega);simp only at nx;rw[iA hl an];have hc:=hr.1;refine⟨i,rfl,an,k1,n1,s1,_,_,bU,cv (fun hk=>?_) (fun hk=>?_)⟩
  ·have hk:k1≠3:=by simpa using hk
   have e:m.ig (.mk k1 n1 s1 m1)=(m.gP (.mk k1 n1 s1 m1),[]):=az hk;rw[e]at nx;simp only[gz]at nx;exact⟨i,rfl,an,k1,n1,s1,_,_,bU,(m,.mk k1 n1 s1 m1),⟨rfl,rfl,(hr.le (Nat.zero_le _)).rm,c6⟩,nx⟩
  ·have hk:k1=3:=by simpa using hk
   have e:m.ig (.mk k1 n1 s1 m1)=(m.bo.ah ⟨6,m.bo.cE,0,0,[],0⟩,[(m.bo.cE,.mk k1 n1 s1 m1)]):=aN hk;rw[e]at nx;simp only[bj,bR,cI,fD,BJ,qR,aju]at nx;exact⟨(m,()),⟨rfl,rfl,trivial⟩,(m.bo,⟨6,m.bo.cE,0,0,[],0⟩),⟨rfl,rfl,by show m.aZ.length<65536;omega⟩,i,rfl,an,k1,n1,s1,_,_,bU,⟨Hm q,by omega,rfl,rfl⟩,nx⟩
 ·have a8:l.length<=i:=by have:=eJ h;simp[aK.cK]at this;omega
  rw[dV a8,Rm.gR]at hf;obtain⟨rfl,rfl⟩:=Prod.mk.inj hf;exact next
theorem aoi(a b c d e:AV)(l:LV):bA Z 158 (a::b::c::d::e::l) 0=some (.aj [a,b,c,d,e]):=by kernel_rfl
def acR(m:Rm)(q:List (Int×aK))(w:Int×aK):AH:=aq [(0,fQ m 1 2 3 8 9),(1,aD m.c.aR 3),(2,aD m.c.aC 2),(3,aD m.c.aE 3),(4,.bJ []),(5,.bJ []),(6,.bJ []),(7,.ay [J w.1,J w.2.cY,J w.2.n,.aa w.2.fZ,.aB (bw w.2.cK) w.2.cK.length 4] 158),(8,fI m),(9,fR m),(10,qR q)] 11
theorem ajd(m:Rm)(q:List (Int×aK))(w w':Int×aK):pX 6 (BJ m (w::q) w') (acR m q w') (fun φ bf=>φ 10=none∧bf=ow 6 5 10 φ):=by
 have h:=adM (m0:=6) (g:=6) (k:=5) (n:=10) (l:=[(0,fQ m 1 2 3 8 9),(1,aD m.c.aR 3),(2,aD m.c.aC 2),(3,aD m.c.aE 3),(4,.bJ []),(5,.bJ []),(6,qR (w::q)),(7,.ay [J w'.1,J w'.2.cY,J w'.2.n,.aa w'.2.fZ,.aB (bw w'.2.cK) w'.2.cK.length 4] 158),(8,fI m),(9,fR m)])
  (l':=[(0,fQ m 1 2 3 8 9),(1,aD m.c.aR 3),(2,aD m.c.aC 2),(3,aD m.c.aE 3),(4,.bJ []),(5,.bJ []),(6,.bJ []),(7,.ay [J w'.1,J w'.2.cY,J w'.2.n,.aa w'.2.fZ,.aB (bw w'.2.cK) w'.2.cK.length 4] 158),(8,fI m),(9,fR m)]) (vs:=iF (w::q)) (el:=158) rfl rfl rfl (by rw[Hm];simp;omega)
 have e:(iF (w::q)).drop 5=iF q:=by rw[iF,←Ho w,v7]
 rw[e]at h;exact h
def aeP:List (Nat×Nat):=[(0,0),(1,1),(2,2),(3,3),(4,4),(5,5),(10,6),(7,7),(8,8),(9,9)]
theorem avS(m:Rm)(q:List (Int×aK))(w:Int×aK):om 6 [0,10,7] (acR m q w)=some ⟨aeP,BJ m q w⟩:=by kernel_rfl
theorem avZ(n:Nat)(i:Int):tE (jS aeP) (CU 10 n i) [0,6,7,8]=some (CU 6 n i):=by kernel_rfl
theorem atx{M:Rm}:
 ∀p:Nat×Rm×List (Int×aK),(dw p.2.2<p.1∧jr p.2.1 (dw p.2.2)∧dw p.2.2<60000∧Ay p.2.2∧p.2.1.gD p.1 p.2.2=M)->
 bF Z 69 75 6 (.aO []) (iw M) (F8 p.2.2.length) (EF p.2.1 p.2.2) (ao Z 69 0):=by
 refine cX (fun p=>p.1) _ _ _ _ ?_;rintro⟨f,m,q⟩ ⟨hq,hr,hqb,ho,hf⟩ ih;simp only at hq hr hqb ho hf ih⊢;refine hD Ks 1000 Fu (by kernel_rfl) ?_;rw[atw];obtain⟨f,rfl⟩:∃g,f=g+1:=⟨f-1,by omega⟩;cases q with
 |nil=>refine cv (fun h=>(by simp at h)) (fun _=>?_);simp only[Rm.gD]at hf;subst hf;exact⟨rfl,rfl⟩
 |cons w q=>
  refine cv (fun _=>?_) (fun h=>absurd h (by simp));obtain⟨r,⟨k,n,s,l⟩⟩:=w;simp only[dw,aK.cK]at hq hqb hr;simp only[Rm.gD,aK.fZ,aK.cK]at hf;have bq:eN (.mk k n s l):=ho (r,.mk k n s l) (by simp);have h2:=RG.gR l (m.ah ⟨5,0,r,0,s,l.length⟩) q;have Mw:=(hr.le (show 1+(2*bh l+dw q)<=_ by omega)).rg (RG.ah m ⟨5,0,r,0,s,l.length⟩);have yD:=(Mw.le (show(2*bh l+dw q-dw ((m.ah ⟨5,0,r,0,s,l.length⟩).gR q l).2)+dw ((m.ah ⟨5,0,r,0,s,l.length⟩).gR q l).2<=_ by omega)).rg h2.1;have hc:=hr.1;refine⟨by simp,r,k,n,s,_,_,aoi _ _ _ _ _ _,by simp,⟨by simp,by simp⟩,(m,⟨5,0,r,0,s,l.length⟩),⟨rfl,rfl,by show m.aZ.length<65536;omega⟩,?_⟩;have nx:=ih (f,((m.ah ⟨5,0,r,0,s,l.length⟩).gR q l).1,((m.ah ⟨5,0,r,0,s,l.length⟩).gR q l).2) ⟨by simp only;omega,yD,by simp only;omega,ZQ bq.2.2 (fun w hw=>ho w (by simp[hw])),hf⟩ (by simp);have ra:=atz (M:=M) (w:=(r,.mk k n s l)) (aw:=((m.ah ⟨5,0,r,0,s,l.length⟩).gR q l).1) (Qu:=((m.ah ⟨5,0,r,0,s,l.length⟩).gR q l).2) bq nx (0,m.ah ⟨5,0,r,0,s,l.length⟩,q) ⟨Nat.zero_le _,rfl,Mw.le (by simp only[aK.cK,hI];omega),by simp[Rm.ah],by simp only[aK.cK,hI];omega⟩;refine TL (H:=BJ (m.ah ⟨5,0,r,0,s,l.length⟩) ((r,.mk k n s l)::q) (r,.mk k n s l)) (t':=CU 10 q.length ((0:Nat):Int)) ?_ (ajd (m.ah ⟨5,0,r,0,s,l.length⟩) q (r,.mk k n s l) (r,.mk k n s l)) (by kernel_rfl) (fun φ bf hR i a' hi=>?_)
  ·exact dN.rE (by kernel_rfl) (avS (m.ah ⟨5,0,r,0,s,l.length⟩) q (r,.mk k n s l)) (avZ q.length ((0:Nat):Int)) ra
  ·obtain⟨h1,rfl⟩:=hR;have key:∀{L L':List (Nat×AV)},(L.map (·.1)=L'.map (·.1))->(∀j,∀a,xu L' j=some a->∃b,xu L j=some b∧wL 6 5 10 b=some a)->∀a',(bk L').cb i=some a'->∃a,(bk L).cb i=some a∧∀x,VR φ a x->VR (ow 6 5 10 φ) a' x:=by intro L L' _ h a' ha;rw[sj]at ha;obtain⟨b,h2,h3⟩:=h i a' ha;exact⟨b,by rw[sj];exact h2,fun x hx=>aaG h1 h3 hx⟩
   refine key (L:=[(0,.ad 0 0),(6,.bB 6 5 q.length 0 5 false),(7,.ad 7 0),(8,J ((0:Nat):Int))]) (L':=[(0,.ad 0 0),(6,.ae 10 q.length 5),(7,.ad 7 0),(8,J ((0:Nat):Int))]) rfl (fun j a hj=>?_) a' hi;simp only[xu]at hj⊢;by_cases e0:j=0
   ·subst e0;simp at hj;subst hj;exact⟨_,rfl,by simp[wL]⟩
   ·by_cases e6:j=6
    ·subst e6;simp at hj;subst hj;exact⟨_,rfl,by simp[wL]⟩
    ·by_cases e7:j=7
     ·subst e7;simp at hj;subst hj;exact⟨_,rfl,by simp[wL]⟩
     ·by_cases e8:j=8
      ·subst e8;simp at hj;subst hj;exact⟨_,rfl,by simp[wL]⟩
      ·simp[e0,e6,e7,e8]at hj
def l69(m:Rm)(w:Int×aK):List (Nat×bc):=[(0,fQ m 1 2 3 4 5),(1,aD m.c.aR 3),(2,aD m.c.aC 2),(3,aD m.c.aE 3),(4,fI m),(5,fR m),(6,.ay (sV w) 158)]
def UZ(m:Rm)(w:Int×aK):AH:=aq [(0,fQ m 1 2 3 4 5),(1,aD m.c.aR 3),(2,aD m.c.aC 2),(3,aD m.c.aE 3),(4,fI m),(5,fR m),(6,qR [w])] 7
def MT(m:Rm)(w:Int×aK):AH:=aq [(0,fQ m 1 2 3 7 5),(1,aD m.c.aR 3),(2,aD m.c.aC 2),(3,aD m.c.aE 3),(4,.bJ []),(5,fR m),(6,qR [w]),(7,fI m)] 8
theorem anA(m:Rm)(w:Int×aK):Mv (UZ m w) (MT m w) 4:=oG (l':=[(0,fQ m 1 2 3 7 5),(1,aD m.c.aR 3),(2,aD m.c.aC 2),(3,aD m.c.aE 3),(4,.bJ []),(5,fR m),(6,qR [w])]) rfl rfl rfl
theorem anC(m:Rm)(w:Int×aK):Mv (MT m w) (EF m [w]) 5:=oG (l':=[(0,fQ m 1 2 3 7 8),(1,aD m.c.aR 3),(2,aD m.c.aC 2),(3,aD m.c.aE 3),(4,.bJ []),(5,.bJ []),(6,qR [w]),(7,fI m)]) rfl rfl rfl
theorem QO:bn Z Kt:=by refine dc Ks ?_;rintro⟨m,r,⟨k,n,s,l⟩⟩ args H ⟨rfl,rfl,hr,ho⟩;have hr:jr m (dw [(r,.mk k n s l)]):=hr;have hc:=hr.1;simp only[n9,aT,rl,dy];refine eS Ks 1000 Fu 75 (by kernel_rfl) ?_;rw[atA];refine L8 (g:=6) (n:=7) (l:=l69 m (r,.mk k n s l)) (T:=[(0,.ad 0 0),(6,.bB 6 0 1 1 5 true)]) (old:=.ay (sV (r,.mk k n s l)) 158) (new:=qR [(r,.mk k n s l)]) ?_ rfl (fun φ e o h=>by have:=zj (jB:=158) (by rfl) h;simp only[qR,iF,gz];exact this) rfl (by kernel_rfl);refine qa (H:=UZ m (r,.mk k n s l)) (H':=MT m (r,.mk k n s l)) (t':=F8 1) (g:=4) ?_ (anA m (r,.mk k n s l)) (by kernel_rfl) (fun i a' hi=>⟨a',hi,rk hi (by simp[eK,jW,UZ,aq])⟩);refine qa (H':=EF m [(r,.mk k n s l)]) (t':=F8 1) (g:=5) ?_ (anC m (r,.mk k n s l)) (by kernel_rfl) (fun i a' hi=>⟨a',hi,rk hi (by simp[eK,jW,MT,aq])⟩);exact atx (dw [(r,.mk k n s l)]+1,m,[(r,.mk k n s l)]) ⟨by simp,hr,by simp only;omega,by intro w hw;simp at hw;subst hw;exact ho,rfl⟩
def Rm.hd(m:Rm)(a:Int)(t:aK):Rm:=
 if t.cY=1 then m.ah ⟨3,0,a,t.n,[],0⟩
 else if t.cY=2 then m.ah ⟨4,0,a,0,t.fZ,0⟩
 else if t.cY=3 then m.FA (a,t)
 else if m.iM t.n=true then m
 else match cu t.n m.bV with
  |some r=>m.ah ⟨2,r,a,0,[],0⟩
  |none=>(m.gw t.n).ah ⟨1,m.gY t.n,a,0,[],0⟩
def Rm.dJ:Nat->Rm->bG->Rm
 |_,m,[]=>m
 |i,m,t::l=>Rm.dJ (i+1) (m.hd ((i+1:Nat):Int) t) l
def Ku:Ev.bC:=cB 36 (cO (n9 a0 (fun m _=>m.dJ 0 m.f.aQ) rl (fun m _=>jr m (2*bh m.f.aQ))) (vR Zy) cV) Kt
def RN:dP a9 where
 bN f A H:=A=[.aj (dj f)]∧H=ax∧fL f
 v f:=.aj (dj (a_ f))
 aU f:=ax
theorem ai2:RN.dT:=by rintro f f' A H ⟨h1,_⟩ ⟨k1,_⟩;rw[h1]at k1;simp only[List.cons.injEq,AV.aj.injEq,and_true]at k1;rw[sU _ _ k1]
def Kv:Ev.bC:=cB 32 (cO RN ai2 cV) Ku
def Ri:dP a9 where
 bN f A H:=A=[.aj (dj f)]∧H=ax∧fL f∧ei f=true∧f.au.length<60000
 v f:=.ae 0 (dg f).length 1
 aU f:=cH (dg f)
theorem ain:Ri.dT:=by rintro f f' A H ⟨h1,_⟩ ⟨k1,_⟩;rw[h1]at k1;simp only[List.cons.injEq,AV.aj.injEq,and_true]at k1;rw[sU _ _ k1]
def QR:Ev.bC:=cB 35 (cO Ri ain cV) Kv
def Rm.aw(m:Rm)(w:Nat×Int):Rm:=if(eF (m.aZ.drop w.1) w.2).2=0 then⟨m.f,m.c,m.aZ.take w.1++(eF (m.aZ.drop w.1) w.2).1,m.bV,m.cE,m.cx⟩else m
def aF(w:Nat×Int):LV:=[J (w.1:Int),J w.2]
theorem ahD(a b:Nat×Int)(h:aF a=aF b):a=b:=by obtain⟨a,t⟩:=a;obtain⟨b,u⟩:=b;simp only[aF,List.cons.injEq,AV.cM.injEq,true_and,and_true]at h;rw[h.2];congr 1;omega
def wB:Ev.bC:=cB 41 (cO (n9 aF Rm.aw (fun m w=>.aA (decide ((eF (m.aZ.drop w.1) w.2).2=0))) (fun m w=>w.1<m.aZ.length∧m.aZ.length<12000)) (vR ahD) cV) QR
abbrev wh x0:=bk [(0,.ad 0 0),(2,J x0)]
theorem asF(m:Rm)(L:LT)(Q:QT):
 b_ Z Kt (fun _=>[0,2]) L Q 1000 36 [.ad 0 0] (bE m)=(
 L (wh 0) (bE m) (ao Z 36 0)):=by kernel_rfl
theorem asG(m:Rm)(i:Int)(L:LT)(Q:QT):
 cT Z Kt (fun _=>[0,2]) L Q 1000 36 6 (wh i) (ao Z 36 0) (iw m)=(
 ai (decide (i<Int.ofNat m.f.aQ.length)) (∃aI:Nat,i=(aI:Int)∧aI<m.f.aQ.length∧(∃n:Int,∃aP:Int,∃s:LN,∃cs:LV,∃len:Nat,(((bw m.f.aQ).drop (aI*4)).take 4:LV)=[J n,J aP,.aa s,.aB cs len 4]∧ai (n==1) (∃w:Rm×ba,(([.ad 0 0,.aj [J 3,J 0,J (wI (i+1)),J aP,.aa [],J 0]]:LV)=[.ad 0 0,.aj (bP w.2)]∧bE m=bE w.1∧js w.1 w.2)∧L (wh (wI (i+1))) (iw (w.1.ah w.2)) (ao Z 36 0)) (ai (n==2) (∃w:Rm×ba,(([.ad 0 0,.aj [J 4,J 0,J (wI (i+1)),J 0,.aa s,J 0]]:LV)=[.ad 0 0,.aj (bP w.2)]∧bE m=bE w.1∧js w.1 w.2)∧L (wh (wI (i+1))) (iw (w.1.ah w.2)) (ao Z 36 0)) (ai (n==3) (∃w:Rm×Int×aK,(([.ad 0 0,J (wI (i+1)),.aj [J n,J aP,.aa s,.aB cs len 4]]:LV)=[.ad 0 0,J w.2.1,.aj (dy w.2.2)]∧bE m=bE w.1∧jr w.1 (dw [w.2])∧eN w.2.2)∧L (wh (wI (i+1))) (iw (w.1.FA w.2)) (ao Z 36 0)) (∃w:Rm×Int,(([.ad 0 0,J aP]:LV)=[.ad 0 0,J w.2]∧bE m=bE w.1∧vY w.1.f)∧ai (w.1.iM w.2) (L (wh (wI (i+1))) (iw w.1) (ao Z 36 0)) (∃ab:Rm×Int,(([.ad 0 0,J aP]:LV)=[.ad 0 0,J ab.2]∧bE w.1=bE ab.1∧ab.1.bV.length<65536)∧ai (Option.isSome (cu ab.2 ab.1.bV)) (∃aJ:Rm×ba,(([.ad 0 0,.aj [J 2,J (Option.getD (cu ab.2 ab.1.bV) 0),J (wI (i+1)),J 0,.aa [],J 0]]:LV)=[.ad 0 0,.aj (bP aJ.2)]∧bE ab.1=bE aJ.1∧js aJ.1 aJ.2)∧L (wh (wI (i+1))) (iw (aJ.1.ah aJ.2)) (ao Z 36 0)) (∃aJ:Rm×Int,(([.ad 0 0,J aP]:LV)=[.ad 0 0,J aJ.2]∧bE ab.1=bE aJ.1∧I3 aJ.1 aJ.2)∧(∃cU:Rm×ba,(([.ad 0 0,.aj [J 1,J (aJ.1.gY aJ.2),J (wI (i+1)),J 0,.aa [],J 0]]:LV)=[.ad 0 0,.aj (bP cU.2)]∧bE (aJ.1.gw aJ.2)=bE cU.1∧js cU.1 cU.2)∧L (wh (wI (i+1))) (iw (cU.1.ah cU.2)) (ao Z 36 0))))))))) (Q (.aO []) (iw m))):=by kernel_rfl
abbrev OK x0:=bk [(1,.ad 0 0),(2,.ad 1 0),(3,J x0)]
theorem asi(f:a9)(L:LT)(Q:QT):
 b_ Z Ku (fun _=>[1,2,3]) L Q 1000 32 [.aj (dj f)] ax=(
 L (OK 0) (aq [(0,cj f),(1,.ay [.aa [],J 0,J 0,.bg,.bg] 27)] 2) (ao Z 32 0)):=by kernel_rfl
theorem asj(f:a9)(i:Int)(L:LT)(Q:QT):
 cT Z Ku (fun _=>[1,2,3]) L Q 1000 32 0 (OK i) (ao Z 32 0) (aq [(0,cj f),(1,.ay [.aa [],J 0,J 0,.bg,.bg] 27)] 2)=(
 ai (decide (i<Int.ofNat f.au.length)) (∃aI:Nat,i=(aI:Int)∧aI<f.au.length∧(∃n:Int,∃s:LN,∃aP:Int,∃bp:Int,∃cs:LV,∃len:Nat,∃bI:Int,(((ck f.au).drop (aI*6)).take 6:LV)=[J n,.aa s,J aP,J bp,.aB cs len 4,J bI]∧ai (n==5) (∃bz:Nat,wI (i+1)=(bz:Int)∧(0<=bz∧bz<=f.au.length)∧Q (.aj [.aa f.aH.cL,J f.aH.ar,J f.aH.aM,.aB (bw f.aQ) f.aQ.length 4,.aB (((ck f.au).drop 0).take ((bz-0)*6)) (bz-0) 6]) ax) (L (OK (wI (i+1))) (aq [(0,cj f),(1,.ay [.aa [],J 0,J 0,.bg,.bg] 27)] 2) (ao Z 32 0)))) (Q (.aj (dj f)) ax)):=by kernel_rfl
theorem asC(f:a9)(L:LT)(Q:QT):
 b_ Z Kv (fun _=>[1,3,4]) L Q 1000 35 [.aj (dj f)] ax=(
 L (bk [(1,.ad 0 0),(3,.bB 1 0 1 1 1 true),(4,J 0)]) (aq [(0,cj f),(1,.ay [J f.aH.ar] 3)] 2) (ao Z 35 0)):=by kernel_rfl
theorem asD(f:a9)(l:LI)(i:Int)(L:LT)(Q:QT):
 cT Z Kv (fun _=>[1,3,4]) L Q 1000 35 0 (bk [(1,.ad 0 0),(3,.ae 1 l.length 1),(4,J i)]) (ao Z 35 0) (aq [(0,cj f),(1,aD l 3)] 2)=(
 ai (decide (i<Int.ofNat f.au.length)) (∃aI:Nat,i=(aI:Int)∧aI<f.au.length∧(∃n:Int,∃s:LN,∃aP:Int,∃bp:Int,∃cs:LV,∃len:Nat,∃bI:Int,(((ck f.au).drop (aI*6)).take 6:LV)=[J n,.aa s,J aP,J bp,.aB cs len 4,J bI]∧ai (n==1) (∃bz:Nat,wI (Int.ofNat l.length-1)=(bz:Int)∧bz<l.length∧(∃cS:Int,bA Z 3 (aW l) (bz*1)=some (J cS:AV)∧(∃cd:Nat,i=(cd:Int)∧cd<f.au.length∧(∃ib:Int,∃dO:LN,∃jI:Int,∃np:Int,∃cN:LV,∃cz:Nat,∃oH:Int,(((ck f.au).drop (cd*6)).take 6:LV)=[J ib,.aa dO,J jI,J np,.aB cN cz 4,J oH]∧(∃dt:Nat,wI (Int.ofNat l.length-1)=(dt:Int)∧dt<l.length∧dt*1+1<=(aW l).length∧((fA (aW l) (dt*1) [J (if jI>cS then jI else cS)]).length=l.length*1∧l.length+1<=65536∧true=true∧true=true)∧L (bk [(1,.ad 0 0),(3,.ae 1 (l.length+1) 1),(4,J (wI (i+1)))]) (aq [(0,cj f),(1,.aL (fA (aW l) (dt*1) [J (if jI>cS then jI else cS)]++[J 0]) 3)] 2) (ao Z 35 0)))))) (L (bk [(1,.ad 0 0),(3,.ae 1 l.length 1),(4,J (wI (i+1)))]) (aq [(0,cj f),(1,aD l 3)] 2) (ao Z 35 0)))) (Q (.ae 0 l.length 1) (cH l))):=by kernel_rfl
theorem afW(m:Rm)(fr base:Int)(L:LT)(Q:QT):
 b_ Z QR (fun _=>[]) L Q 1000 41 [.ad 0 0,J fr,J base] (bE m)=(
 1<=m.aZ.length∧(∃i:Nat,fr=(i:Int)∧(i<=m.aZ.length∧m.aZ.length<=m.aZ.length)∧(∃w:ie×Int,(([.bB 0 (0+i*6) (m.aZ.length-i) 0 6 false,J base]:LV)=[.bB 0 w.1.gq w.1.l.length 0 6 false,J w.2]∧aq [(0,fI m)] 1=gS w.1∧w.1.ok∧w.1.l.length<12000)∧ai ((eF w.1.l w.2).2 !=0) (Q (.aA false) (aq [(0,fQ m 1 2 3 4 5),(1,aD m.c.aR 3),(2,aD m.c.aC 2),(3,aD m.c.aE 3),(4,.aL w.1.cs 50),(5,fR m)] 6)) (1<=m.aZ.length∧(∃aI:Nat,fr=(aI:Int)∧(0<=aI∧aI<=m.aZ.length)∧(bZ (eF w.1.l w.2).1).length=(eF w.1.l w.2).1.length*6∧((eF w.1.l w.2).1.length=0->aI-0<=65536∧Q (.aA true) (aq [(0,.ay [.aa m.f.aH.cL,J m.f.aH.ar,J m.f.aH.aM,.aB (bw m.f.aQ) m.f.aQ.length 4,.aB (ck m.f.au) m.f.au.length 6,.ae 1 m.c.aR.length 1,.ae 2 m.c.aC.length 1,.ae 3 m.c.aE.length 1,.ae 4 (aI-0) 6,.ae 5 m.bV.length 2,J m.cE,J m.cx] 82),(1,aD m.c.aR 3),(2,aD m.c.aC 2),(3,aD m.c.aE 3),(4,.aL w.1.cs 50),(5,fR m)] 6))∧(1<=(eF w.1.l w.2).1.length->(0+(aI-0)*6<=w.1.cs.length∧aI-0+(eF w.1.l w.2).1.length<=65536∧(List.all (bZ (eF w.1.l w.2).1) AV.ec=true∧List.all (bZ (eF w.1.l w.2).1) je=true)∧false=false)∧Q (.aA true) (aq [(0,.ay [.aa m.f.aH.cL,J m.f.aH.ar,J m.f.aH.aM,.aB (bw m.f.aQ) m.f.aQ.length 4,.aB (ck m.f.au) m.f.au.length 6,.ae 1 m.c.aR.length 1,.ae 2 m.c.aC.length 1,.ae 3 m.c.aE.length 1,.ae 6 (aI-0+(eF w.1.l w.2).1.length) 6,.ae 5 m.bV.length 2,J m.cE,J m.cx] 82),(1,aD m.c.aR 3),(2,aD m.c.aC 2),(3,aD m.c.aE 3),(4,.bJ []),(5,fR m),(6,.aL ((w.1.cs.drop 0).take ((aI-0)*6)++bZ (eF w.1.l w.2).1) 50)] 7))))))):=by kernel_rfl
theorem abL:∀(n:Nat) (m:Rm) (q:List (Int×aK)),RG (dw q) m (m.gD n q)
 |0,m,q=>(RG.xO m).le (by omega)
 |n+1,m,[]=>(RG.xO m).le (by omega)
 |n+1,m,w::q=>by have h1:=RG.ah m ⟨5,0,w.1,0,w.2.fZ,w.2.cK.length⟩;have h2:=RG.gR w.2.cK (m.ah ⟨5,0,w.1,0,w.2.fZ,w.2.cK.length⟩) q;have h3:=abL n ((m.ah ⟨5,0,w.1,0,w.2.fZ,w.2.cK.length⟩).gR q w.2.cK).1 ((m.ah ⟨5,0,w.1,0,w.2.fZ,w.2.cK.length⟩).gR q w.2.cK).2;simp only[Rm.gD,dw];exact((h1.sG h2.1).sG h3).le (by omega)
theorem SJ(m:Rm)(v:Int)(i:ba):RG 1 m ((m.gw v).ah i):=by
 unfold Rm.gw;split
 ·exact⟨by simp[Rm.ah],by simp[Rm.ah],by simp[Rm.ah],rfl,rfl⟩
 ·exact⟨by simp[Rm.ah],by simp[Rm.ah],by simp[Rm.ah],rfl,rfl⟩
theorem RG.hd(m:Rm)(a:Int)(t:aK):RG (2*cD t) m (m.hd a t):=by
 have hp:=kJ t;unfold Rm.hd;split
 ·exact(RG.ah m _).le (by omega)
 ·split
  ·exact(RG.ah m _).le (by omega)
  ·split
   ·have:=abL (dw [(a,t)]+1) m [(a,t)];obtain⟨k,n,s,l⟩:=t;simp only[dw,aK.cK]at this;simp only[Rm.FA,cD,dw,aK.cK];exact this.le (by omega)
   ·split
    ·exact(RG.xO m).le (by omega)
    ·split
     ·exact(RG.ah m _).le (by omega)
     ·exact(SJ m _ _).le (by omega)
theorem asE{M:Rm}{f:a9}(hl:eQ f.aQ.length)(ho:iS f.aQ):
 ∀p:Nat×Rm,(p.1<=f.aQ.length∧p.2.f=f∧jr p.2 (2*bh (f.aQ.drop p.1))∧Rm.dJ p.1 p.2 (f.aQ.drop p.1)=M)->
 bF Z 36 78 6 (.aO []) (iw M) (wh (p.1:Int)) (iw p.2) (ao Z 36 0):=by
 refine cX (fun p=>f.aQ.length-p.1) _ _ _ _ ?_;rintro⟨i,m⟩ ⟨hi,pL,hr,hf⟩ ih;simp only at hi pL hr hf ih⊢;refine hD QO 1000 (fun _=>[0,2]) (by kernel_rfl) ?_;rw[asG,pL];refine cv (fun h=>?_) (fun h=>?_)
 ·have an:i<f.aQ.length:=by have:=dW h;simpa using this
  obtain⟨k,n,s,l,he,bU,bq⟩:=oj an ho;rw[dv an,he,bh]at hr;rw[dv an,he,Rm.dJ]at hf;have hg:=RG.hd m ((i+1:Nat):Int) (.mk k n s l);have nx:=ih (i+1,m.hd ((i+1:Nat):Int) (.mk k n s l)) ⟨by simp only;omega,hg.f.trans pL,(hr.le (show 2*cD (.mk k n s l)+2*bh (f.aQ.drop (i+1))<=_ by omega)).rg hg,hf⟩ (by simp only;omega);simp only at nx;rw[iA hl an];have hc:=hr.1;have hs:=hr.2.1;have hp:=hr.2.2.1;have jF:=hr.2.2.2;have lF:m.aZ.length<65536:=by omega
  refine⟨i,rfl,an,k,n,s,_,_,bU,cv (fun h=>?_) (fun h=>cv (fun h2=>?_) (fun h2=>cv (fun h3=>?_) (fun h3=>⟨(m,n),⟨rfl,rfl,jF⟩,cv (fun h4=>?_) (fun h4=>?_)⟩)))⟩
  ·have h:k=1:=by simpa using h
   have e:m.hd ((i+1:Nat):Int) (.mk k n s l)=m.ah ⟨3,0,((i+1:Nat):Int),n,[],0⟩:=by simp[Rm.hd,aK.cY,aK.n,h]
   rw[e]at nx;exact⟨(m,⟨3,0,((i+1:Nat):Int),n,[],0⟩),⟨rfl,rfl,lF⟩,nx⟩
  ·have h:k≠1:=by simpa using h
   have h2:k=2:=by simpa using h2
   have e:m.hd ((i+1:Nat):Int) (.mk k n s l)=m.ah ⟨4,0,((i+1:Nat):Int),0,s,0⟩:=by simp[Rm.hd,aK.cY,aK.fZ,h,h2]
   rw[e]at nx;exact⟨(m,⟨4,0,((i+1:Nat):Int),0,s,0⟩),⟨rfl,rfl,lF⟩,nx⟩
  ·have h:k≠1:=by simpa using h
   have h2:k≠2:=by simpa using h2
   have h3:k=3:=by simpa using h3
   have e:m.hd ((i+1:Nat):Int) (.mk k n s l)=m.FA (((i+1:Nat):Int),.mk k n s l):=by simp[Rm.hd,aK.cY,h3]
   rw[e]at nx;exact⟨(m,((i+1:Nat):Int),.mk k n s l),⟨rfl,rfl,hr.le (by simp only[dw,aK.cK,cD];omega),bq⟩,nx⟩
  ·have h:k≠1:=by simpa using h
   have h2:k≠2:=by simpa using h2
   have h3:k≠3:=by simpa using h3
   have h4:m.iM n=true:=h4;have e:m.hd ((i+1:Nat):Int) (.mk k n s l)=m:=by simp[Rm.hd,aK.cY,aK.n,h,h2,h3,h4]
   rw[e]at nx;exact nx
  ·have h:k≠1:=by simpa using h
   have h2:k≠2:=by simpa using h2
   have h3:k≠3:=by simpa using h3
   have h4:m.iM n=false:=h4;refine⟨(m,n),⟨rfl,rfl,by show m.bV.length<65536;omega⟩,cv (fun h5=>?_) (fun h5=>?_)⟩
   ·have h5:(cu n m.bV).isSome=true:=h5;obtain⟨r,hr⟩:=Option.isSome_iff_exists.1 h5;have e:m.hd ((i+1:Nat):Int) (.mk k n s l)=m.ah ⟨2,r,((i+1:Nat):Int),0,[],0⟩:=by simp[Rm.hd,aK.cY,aK.n,h,h2,h3,h4,hr]
    rw[e]at nx;refine⟨(m,⟨2,r,((i+1:Nat):Int),0,[],0⟩),⟨?_,rfl,lF⟩,nx⟩;show[AV.ad 0 0,.aj [J 2,J ((cu n m.bV).getD 0),J ((i+1:Nat):Int),J 0,.aa [],J 0]]=_;rw[hr];rfl
   ·have hr:=VB (v:=n) (l:=m.bV) h5;have e:m.hd ((i+1:Nat):Int) (.mk k n s l)=(m.gw n).ah ⟨1,m.gY n,((i+1:Nat):Int),0,[],0⟩:=by simp[Rm.hd,aK.cY,aK.n,h,h2,h3,h4,hr]
    rw[e]at nx;exact⟨(m,n),⟨rfl,rfl,by show m.bV.length<65536;omega,by show m.c.aC.length<65536;omega⟩,(m.gw n,⟨1,m.gY n,((i+1:Nat):Int),0,[],0⟩),⟨rfl,rfl,by show(m.gw n).aZ.length<65536;rw[SI];exact lF⟩,nx⟩
 ·have a8:f.aQ.length<=i:=by have:=eJ h;simp at this;omega
  rw[dV a8,Rm.dJ]at hf;subst hf;exact⟨rfl,rfl⟩
theorem QP:bn Z Ku:=by refine dc QO ?_;rintro⟨m,u⟩ args H ⟨rfl,rfl,hr⟩;have hr:jr m (2*bh m.f.aQ):=hr;have ho:=hr.2.2.2.1;simp only[n9,a0,rl];refine eS QO 1000 (fun _=>[0,2]) 78 (by kernel_rfl) ?_;rw[asF];refine qa (H:=bE m) (H':=Bg m) (t':=wh ((0:Nat):Int)) (g:=4) ?_ (adP m) (by kernel_rfl) (fun i a' hi=>⟨a',hi,rk hi (by simp[eK,jW,bE,aq])⟩);refine qa (H':=iw m) (t':=wh ((0:Nat):Int)) (g:=5) ?_ (adO m) (by kernel_rfl) (fun i a' hi=>⟨a',hi,rk hi (by simp[eK,jW,Bg,aq])⟩);exact asE (f:=m.f) ho.2.1 ho.2.2.1 (0,m) ⟨Nat.zero_le _,rfl,hr,rfl⟩
theorem ai4{A B:c7}{g:iP}{l:c7}(h:l=A++g::B):((ck l).drop 0).take ((A.length+1-0)*6)=ck (A++[g]):=by
 have ex:l=(A++[g])++B:=by rw[h];simp
 rw[hI,ex,Sf];exact List.take_left' (by rw[Sg];simp)
theorem ash{f:a9}(hf:fL f):
 ∀k:c7×c7,(k.1++k.2=f.au∧fc f.au=k.1++fc k.2)->
 bF Z 32 26 0 (.aj (dj (a_ f))) ax (OK (k.1.length:Int)) (aq [(0,cj f),(1,.ay [.aa [],J 0,J 0,.bg,.bg] 27)] 2) (ao Z 32 0):=by
 have bH:=hf.2.2.2.1;refine cX (fun k=>k.2.length) _ _ _ _ ?_;rintro⟨A,B⟩ ⟨h1,h2⟩ ih;simp only at h1 h2 ih⊢;have ja:A.length+B.length=f.au.length:=by rw[←h1];simp
 refine hD QP 1000 (fun _=>[1,2,3]) (by kernel_rfl) ?_;rw[asj];refine cv (fun h=>?_) (fun h=>?_)
 ·have h:=dW h;cases B with
  |nil=>simp only[cI]at ja;simp only[fX]at h;omega
  |cons g B=>
   have an:A.length<f.au.length:=by simp only[bR]at ja;omega
   obtain⟨k,nm,ar,aM,ls,v,he,bU,alT⟩:=o5 an hf.2.2.2.2;have hg:f.au[A.length]=g:=by simp[←h1]
   rw[hg]at he;have hw:wI ((A.length:Int)+1)=((A.length+1:Nat):Int):=iA bH an;refine⟨A.length,rfl,an,k,nm,ar,aM,_,_,v,bU,cv (fun hk=>?_) (fun hk=>?_)⟩
   ·have hk:g.cQ=5:=by rw[he];simpa using hk
    have hc:fc f.au=A++[g]:=by rw[h2];simp[fc,hk]
    refine⟨A.length+1,hw,⟨Nat.zero_le _,by omega⟩,?_,rfl⟩;have e1:=ai4 h1.symm;rw[←hc]at e1;have e2:A.length+1-0=(fc f.au).length:=by rw[hc];simp
    rw[e1,e2];rfl
   ·have hk:g.cQ≠5:=by rw[he];simpa using hk
    rw[hw];have:=ih (A++[g],B) ⟨by rw[←h1];simp,by rw[h2];simp[fc,hk]⟩ (by simp);simp only[bj,bR,cI,fD]at this;exact this
 ·have h:=eJ h;cases B with
  |cons g B=>simp only[bR]at ja;simp only[fX]at h;omega
  |nil=>
   have hc:a_ f=f:=by
    have:fc f.au=f.au:=by rw[h2];simpa[fc]using h1
    obtain⟨p,a,g⟩:=f;simp only[a_]at this⊢;rw[this]
   rw[hc];exact⟨rfl,rfl⟩
theorem QQ:bn Z Kv:=by refine dc QP ?_;rintro f args H ⟨rfl,rfl,hf⟩;refine eS QP 1000 (fun _=>[1,2,3]) 26 (by kernel_rfl) ?_;simp only[RN];rw[asi];exact ash (f:=f) hf ([],f.au) ⟨rfl,rfl⟩
theorem S1:∀(l:c7) (b:Bool) (left:Int),lC b left l=true->∀g∈l,g.cQ=1->(g.cP.length:Int)=g.aH.ar
 |[],_,_,_,g,hg=>by cases hg
 |x::l,b,left,h,g,hg=>by
  simp only[lC,cy]at h;rcases List.mem_cons.1 hg with rfl|hg
  ·intro hk;have:=h.1.1;simp only[p8,hk,if_true,cy,iK]at this;exact this.2.1
  ·exact S1 l _ _ h.2 g hg
theorem asB{f:a9}{aw:LI}(hf:fL f)(w_:∀g∈f.au,g.cQ=1->(g.cP.length:Int)=g.aH.ar):
 ∀p:Nat×LI×Int,(p.1<=f.au.length∧p.2.1.length+(f.au.length-p.1)<65000∧jh p.2.1 p.2.2 (f.au.drop p.1)=aw)->
 bF Z 35 46 0 (.ae 0 aw.length 1) (cH aw) (bk [(1,.ad 0 0),(3,.ae 1 (p.2.1++[p.2.2]).length 1),(4,J (p.1:Int))]) (aq [(0,cj f),(1,aD (p.2.1++[p.2.2]) 3)] 2) (ao Z 35 0):=by
 have hl:=hf.2.2.2.1;refine cX (fun p=>f.au.length-p.1) _ _ _ _ ?_;rintro⟨i,d,c⟩ ⟨hi,hc,eD⟩ ih;simp only at hi hc eD ih⊢;refine hD QQ 1000 (fun _=>[1,3,4]) (by kernel_rfl) ?_;rw[asD];refine cv (fun an=>?_) (fun a8=>?_)
 ·have an:i<f.au.length:=by have:=dW an;simpa using this
  obtain⟨k,nm,ar,aM,ls,v,he,bU,bq⟩:=o5 an hf.2.2.2.2;rw[dv an,he]at eD;have zL:=w_ f.au[i] (xC an);rw[he]at zL;refine⟨i,rfl,an,k,nm,ar,aM,_,_,v,bU,?_⟩;rw[iA hl an];refine cv (fun hk=>?_) (fun hk=>?_)
  ·have hk:k=1:=by simpa using hk
   have zL:(ls.length:Int)=ar:=zL hk;simp only[jh,hk,if_true]at eD;have e:wI (Int.ofNat (d++[c]).length-1)=((d.length:Nat):Int):=by
    have e0:Int.ofNat (d++[c]).length-1=(d.length:Int):=by simp
    rw[e0,dz (by omega) (by omega)]
   have hd:d.length<(d++[c]).length:=by simp
   have hg:(d++[c]).getD d.length 0=c:=by simp[List.getD]
   have kC:(d++[c]).set d.length (max c (ls.length:Int))=d++[max c (ls.length:Int)]:=by simp
   have EY:(if ar>c then ar else c)=max c (ls.length:Int):=by rw[zL];split<;>omega
   refine⟨d.length,e,hd,c,by rw[ia hd,hg],i,rfl,an,k,nm,ar,aM,_,_,v,bU,d.length,e,hd,by rw[qq];simp,?_⟩;rw[Nat.mul_one,EY,IW _ hd,kC];refine⟨⟨by rw[qq];simp,by simp;omega,rfl,rfl⟩,?_⟩;have next:=ih (i+1,d++[max c (ls.length:Int)],0) ⟨by simp only;omega,by simp;omega,eD⟩ (by simp only;omega)
   simp only[aD,yV (d++[max c (ls.length:Int)]) [0]]at next
   have e2:(d++[max c (ls.length:Int)]++[0]).length=(d++[c]).length+1:=by simp
   rw[e2]at next
   exact next
  ·have hk:k≠1:=by simpa using hk
   simp only[jh,hk,if_false]at eD;exact ih (i+1,d,c) ⟨by simp only;omega,by simp only;omega,eD⟩ (by simp only;omega)
 ·have a8:f.au.length<=i:=by have:=eJ a8;simp at this;omega
  rw[dV a8,jh]at eD;subst eD;exact⟨rfl,rfl⟩
theorem QS:bn Z QR:=by
 refine dc QQ ?_;rintro f args H ⟨rfl,rfl,hf,hv,hg⟩;refine eS QQ 1000 (fun _=>[1,3,4]) 46 (by kernel_rfl) ?_;simp only[Ri];rw[asC];have w_:(f.aQ.length:Int)=f.aH.ar:=by simp only[ei,cy,iK]at hv;exact hv.1.1.2
 have ET:lC false (131072-bh f.aQ) f.au=true:=by simp only[ei,cy]at hv;exact hv.2
 have:=asB (f:=f) (aw:=dg f) hf (S1 _ _ _ ET) (0,[],(f.aQ.length:Int)) ⟨Nat.zero_le _,by simp;omega,rfl⟩;rw[w_]at this;refine L8 (g:=1) (n:=2) (l:=[(0,cj f),(1,.ay (aW [f.aH.ar]) 3)]) (T:=[(1,.ad 0 0),(3,.bB 1 0 1 1 1 true),(4,J ((0:Nat):Int))]) (new:=aD [f.aH.ar] 3) ?_ rfl (fun φ e o h=>zj (AG _).2 h) rfl (by kernel_rfl);exact this
theorem KE{l:bS}{base:Int}(h:(eF l base).2=0):(eF l base).1.length=l.length:=by
 unfold eF at h⊢;split at h
 ·rename_i hv;rw[aN hv];simp
 ·cases h
theorem ajq(a b:bS):(bZ (a++b)).take (a.length*6)=bZ a:=by rw[zz];exact List.take_left' (o3 a)
theorem x9:bn Z wB:=by
 refine dc QS ?_;rintro⟨m,fr,base⟩ args H ⟨rfl,rfl,gZ,hl⟩;have gZ:fr<m.aZ.length:=gZ;have hl:m.aZ.length<12000:=hl;simp only[n9,aF];have acy:ie.ok ⟨bZ m.aZ,0+fr*6,m.aZ.drop fr⟩:=by
  refine⟨?_,by simp only[List.length_drop];omega⟩;show((bZ m.aZ).drop (0+fr*6)).take ((m.aZ.drop fr).length*6)=bZ (m.aZ.drop fr);have e:=uI fr m.aZ;have ht:(m.aZ.take fr).length=fr:=by simp;omega
  conv=>lhs;rw[←e]
  rw[zz,fD];have:fr*6=(bZ (m.aZ.take fr)).length:=by rw[o3,ht]
  rw[this,v7,e,←o3,List.take_length]
 have vA:(m.aZ.drop fr).length=m.aZ.length-fr:=by simp
 by_cases h0:(eF (m.aZ.drop fr) base).2=0
 ·have bH:=KE h0;have ef:m.aw (fr,base)=⟨m.f,m.c,m.aZ.take fr++(eF (m.aZ.drop fr) base).1,m.bV,m.cE,m.cx⟩:=aN h0;rw[ef];refine Sr (fun r=>rfl) ?_;refine eS QS 1000 (fun _=>[]) 33 (by kernel_rfl) ?_;rw[afW];refine⟨by omega,fr,rfl,⟨by omega,eh _⟩,(⟨bZ m.aZ,0+fr*6,m.aZ.drop fr⟩,base),⟨by simp only[vA],rfl,acy,by simp only[vA];omega⟩,cv (fun h=>?_) (fun _=>?_)⟩
  ·have h:((eF (m.aZ.drop fr) base).2 !=0)=true:=h;rw[h0]at h;cases h
  ·refine⟨by omega,fr,rfl,⟨Nat.zero_le _,by omega⟩,o3 _,fun h=>?_,fun _=>⟨⟨?_,?_,⟨(Hj _).1,(Hj _).2⟩,rfl⟩,?_,?_⟩⟩
   ·have h:(eF (m.aZ.drop fr) base).1.length=0:=h;omega
   ·show 0+(fr-0)*6<=(bZ m.aZ).length;rw[o3];omega
   ·show fr-0+(eF (m.aZ.drop fr) base).1.length<=65536;omega
   ·rw[decide_eq_true h0]
   ·have e:=uI fr m.aZ;have ht:(m.aZ.take fr).length=fr:=by simp;omega
    have e1:((bZ m.aZ).drop 0).take ((fr-0)*6)=bZ (m.aZ.take fr):=by have:=ajq (m.aZ.take fr) (m.aZ.drop fr);rw[e,ht]at this;rw[hI,Nat.sub_zero];exact this
    show aq [(0,_),(1,_),(2,_),(3,_),(4,_),(5,_),(6,.aL (((bZ m.aZ).drop 0).take ((fr-0)*6)++bZ (eF (m.aZ.drop fr) base).1) 50)] 7=_;rw[e1];simp only[Bg,fQ,fI,zz,bj,ht,Nat.sub_zero];rfl
 ·have ef:m.aw (fr,base)=m:=az h0;rw[ef];refine aa2 (fun r=>rfl) ?_;refine eS QS 1000 (fun _=>[]) 33 (by kernel_rfl) ?_;rw[afW];refine⟨by omega,fr,rfl,⟨by omega,eh _⟩,(⟨bZ m.aZ,0+fr*6,m.aZ.drop fr⟩,base),⟨by simp only[vA],rfl,acy,by simp only[vA];omega⟩,cv (fun _=>?_) (fun h=>?_)⟩
  ·rw[decide_eq_false h0];exact⟨rfl,rfl⟩
  ·have h:((eF (m.aZ.drop fr) base).2 !=0)=false:=h;have:(eF (m.aZ.drop fr) base).2=0:=by simpa using h
   exact absurd this h0
def qh:LP->LP->LP
 |m,[]=>m
 |m,p::l=>qh (up p.1 (if p.2>(lk p.1 m).getD 0 then p.2 else(lk p.1 m).getD 0) m) l
def yQ(last:LP):List (Int×Bool)->LP->List (Bool×Int)
 |_,[]=>[]
 |kn,p::l=>((lk p.1 kn).getD false,(lk p.1 last).getD 0)::yQ last (up p.1 true kn) l
def knL:List (Int×Bool)->LP->List (Int×Bool)
 |kn,[]=>kn
 |kn,p::l=>knL (up p.1 true kn) l
def mj(c:Int):LP->List (Bool×Int)->LI
 |p::l,oe::r=>if oe.1=true∨p.2=c∨oe.2≠c then mj c l r else p.1::mj c l r
 |_,_=>[]
def lh(l:LP)(oe:List (Bool×Int)):Nat->LI×LI
 |0=>([],[])
 |n+1=>(mj ((n+1:Nat):Int) l oe++(lh l oe n).1,List.replicate (mj ((n+1:Nat):Int) l oe).length ((n+1:Nat):Int)++(lh l oe n).2)
def vg(c:Int):LI->Nat
 |[]=>0
 |u::l=>(if u>c then 1 else 0)+vg c l
def tj(dG:LI):Nat->c7->LI
 |_,[]=>[]
 |c,g::gs=>(if g.cQ=1 then(vg c dG:Int)else 0)::tj dG (if g.cQ=1 then c+1 else c) gs
def Cw(f:a9):List (Bool×Int):=yQ (qh [] (fT f)) [] (fT f)
def IU(f:a9):LI×LI:=lh (fT f) (Cw f) (fe f.au)
def gb(f:a9):eu:=⟨mO 0 f.au,(IU f).1,tj (IU f).2 0 f.au⟩
def aai:dP a9 where
 bN f A H:=A=[.aj (dj f)]∧H=ax∧fL f∧ei f=true∧bh f.aQ+eg f.au<20000
 v f:=.aO [.aj (DZ (gb f)),J 0]
 aU f:=s6 (gb f)
theorem aiL:aai.dT:=by rintro f f' A H ⟨h1,_⟩ ⟨k1,_⟩;rw[h1]at k1;simp only[List.cons.injEq,AV.aj.injEq,and_true]at k1;rw[sU _ _ k1]
def DC:Ev.bC:=cB 33 (cO aai aiL cV) wB
def mI(m:LP):bc:=.bM (bK J 0 m) m.length true
def mB(m:List (Int×Bool)):bc:=.bM (bK vB 0 m) m.length true
def rO(a b c:Nat)(aR aC aE:LI):bc:=.ay [.ae a aR.length 1,.ae b aC.length 1,.ae c aE.length 1] 60
def bO(l:List Bool):bc:=.aL (l.map AV.aA) 4
def S7(f:a9)(aR:LI):AH:=aq [(0,cj f),(1,gC),(2,rO 3 4 5 aR [] []),(3,aD aR 3),(4,aD [] 2),(5,aD [] 3)] 6
def S8(f:a9)(aR:LI)(l:LP)(last:LP):AH:=aq [(0,cj f),(1,gC),(2,rO 5 6 7 aR [] []),(3,jd l),(4,mI last),(5,aD aR 3),(6,aD [] 2),(7,aD [] 3)] 8
def LG(f:a9)(aR:LI)(l:LP)(last:LP)(kn:List (Int×Bool))(old:List Bool)(ju:LI):AH:=aq [(0,cj f),(1,gC),(2,rO 9 10 11 aR [] []),(3,jd l),(4,mI last),(5,mB kn),(6,bO old),(7,aD ju 3),(8,aD [] 3),(9,aD aR 3),(10,aD [] 2),(11,aD [] 3)] 12
def BA(f:a9)(aR:LI)(l:LP)(old:List Bool)(ju dG aC:LI):AH:=aq [(0,cj f),(1,gC),(2,rO 7 8 9 aR aC []),(3,jd l),(4,bO old),(5,aD ju 3),(6,aD dG 3),(7,aD aR 3),(8,aD aC 2),(9,aD [] 3)] 10
abbrev ED x0 x1 x2 x3 x4:=aq [(0,cj x0),(1,gC),(2,rO 4 5 6 x1 x2 x3),(3,aD x4 3),(4,aD x1 3),(5,aD x2 2),(6,aD x3 3)] 7
def Ew(f:a9)(aR dG aC aE:LI):AH:=ED f aR aC aE dG
def qk:Nat->LN:=nk [(6,[1,2,4,5,6]),(14,[1,2,4,5,7,8,9]),(21,[1,2,4,5,7,8,10,11,12,13,14]),(27,[1,2,4,7,11,12,13,15]),(30,[1,2,4,7,11,12,13,15,16]),(36,[1,2,4,13,17]),(40,[1,2,4,13,17,18,19])]
abbrev Jz x0 x1:=bk [(1,.ad 0 0),(2,.ad 1 0),(4,.ad 2 0),(5,J x0),(6,J x1)]
theorem asz(f:a9)(L:LT)(Q:QT):
 b_ Z wB qk L Q 1000 33 [.aj (dj f)] ax=(
 (aq [] 0=ax∧Ab (dj f))∧ai (!m_ ei (dj f)) (Q (.aO [.aj [.bg,.bg,.bg],J 1]) ax) (L (Jz 0 0) (aq [(0,cj f),(1,gC),(2,gC)] 3) (ao Z 33 0))):=by kernel_rfl
abbrev OL x0 x1 x2:=bk [(1,.ad 0 0),(2,.ad 1 0),(4,.ad 2 0),(5,J x0),(7,.ae 3 x1 2),(8,.aS 4),(9,J x2)]
theorem asl(f:a9)(aR:LI)(c i:Int)(L:LT)(Q:QT):
 cT Z wB qk L Q 1000 33 0 (Jz c i) (ao Z 33 0) (S7 f aR)=(
 ai (decide (i<Int.ofNat f.au.length)) (((aW aR).length=aR.length*1∧aR.length+1<=65536∧true=true∧true=true)∧(∃aI:Nat,i=(aI:Int)∧aI<f.au.length∧(∃n:Int,∃s:LN,∃aP:Int,∃bp:Int,∃cs:LV,∃len:Nat,∃bI:Int,(((ck f.au).drop (aI*6)).take 6:LV)=[J n,.aa s,J aP,J bp,.aB cs len 4,J bI]∧ai (n==1) (L (Jz (wI (c+1)) (wI (i+1))) (aq [(0,cj f),(1,gC),(2,.ay [.ae 3 (aR.length+1) 1,.ae 4 0 1,.ae 5 0 1] 60),(3,.aL (aW aR++[J c]) 3),(4,.aL [] 2),(5,.aL [] 3)] 6) (ao Z 33 0)) (L (Jz c (wI (i+1))) (aq [(0,cj f),(1,gC),(2,.ay [.ae 3 (aR.length+1) 1,.ae 4 0 1,.ae 5 0 1] 60),(3,.aL (aW aR++[J c]) 3),(4,.aL [] 2),(5,.aL [] 3)] 6) (ao Z 33 0))))) (∃w:a9,(([.aj (dj f)]:LV)=[.aj (dj w)]∧aq [] 0=ax∧fL w∧bh w.aQ+eg w.au<50000)∧L (OL c (fT w).length 0) (aq [(0,cj f),(1,gC),(2,.ay [.ae 5 aR.length 1,.ae 6 0 1,.ae 7 0 1] 60),(3,jd (fT w)),(4,.bM [] 0 true),(5,aD aR 3),(6,.aL [] 2),(7,.aL [] 3)] 8) (ao Z 33 1))):=by kernel_rfl
theorem asn(f:a9)(aR:LI)(l:LP)(last:LP)(c i:Int)(L:LT)(Q:QT):
 cT Z wB qk L Q 1000 33 0 (OL c l.length i) (ao Z 33 1) (S8 f aR l last)=(
 ai (decide (i<Int.ofNat l.length)) (∃aI:Nat,i=(aI:Int)∧aI<l.length∧(∃n:Int,bA Z 2 (fj l) (aI*2+0)=some (J n:AV)∧(∃bz:Nat,i=(bz:Int)∧bz<l.length∧(∃aP:Int,bA Z 2 (fj l) (bz*2+0)=some (J aP:AV)∧(∃bp:Int,∃b:Bool,gf Z 2 3 (bK J 0 last) (J aP)=some (J bp,b)∧(∃cd:Nat,i=(cd:Int)∧cd<l.length∧(∃bI:Int,bA Z 3 (fj l) (cd*2+1)=some (J bI:AV)∧(∃bQ:List (AV×AV×Nat),∃c':Nat,lN Z 2 (bK J 0 last) last.length (J n) (J (if bI>bp then bI else bp))=some (bQ,c')∧L (OL c l.length (wI (i+1))) (aq [(0,cj f),(1,gC),(2,.ay [.ae 5 aR.length 1,.ae 6 0 1,.ae 7 0 1] 60),(3,jd l),(4,.bM bQ c' true),(5,aD aR 3),(6,.aL [] 2),(7,.aL [] 3)] 8) (ao Z 33 1))))))))) (L (bk [(1,.ad 0 0),(2,.ad 1 0),(4,.ad 2 0),(5,J c),(7,.ae 3 l.length 2),(8,.aS 4),(10,.aS 5),(11,.bg),(12,.bg),(13,.bg),(14,J 0)]) (aq [(0,cj f),(1,gC),(2,.ay [.ae 6 aR.length 1,.ae 7 0 1,.ae 8 0 1] 60),(3,jd l),(4,mI last),(5,.bM [] 0 true),(6,aD aR 3),(7,.aL [] 2),(8,.aL [] 3)] 9) (ao Z 33 2))):=by kernel_rfl
abbrev Xz x0 x1 x2 x3 x4:=bk [(1,.ad 0 0),(2,.ad 1 0),(4,.ad 2 0),(5,J x0),(7,.ae 3 x1 2),(8,.aS 4),(10,.aS 5),(11,.ae 6 x2 1),(12,.ae 7 x3 1),(13,.ae 8 0 1),(14,J x4)]
abbrev XA x0 x1 x2 x3 x4:=bk [(1,.ad 0 0),(2,.ad 1 0),(4,.ad 2 0),(7,.ae 3 x0 2),(11,.ae 4 x1 1),(12,.ae 5 x2 1),(13,.ae 6 x3 1),(15,J x4)]
theorem asp(f:a9)(aR:LI)(l:LP)(last:LP)(kn:List (Int×Bool))(old:List Bool)(ju:LI)(c i:Int)(L:LT)(Q:QT):
 cT Z wB qk L Q 1000 33 0 (Xz c l.length old.length ju.length i) (ao Z 33 2) (LG f aR l last kn old ju)=(
 ai (decide (i<Int.ofNat l.length)) (∃aI:Nat,i=(aI:Int)∧aI<l.length∧(∃n:Int,bA Z 2 (fj l) (aI*2+0)=some (J n:AV)∧(∃b:Bool,∃iE:Bool,gf Z 2 4 (bK vB 0 kn) (J n)=some (.aA b,iE)∧((List.map AV.aA old).length=old.length*1∧old.length+1<=65536∧true=true∧true=true)∧(∃bz:Nat,i=(bz:Int)∧bz<l.length∧(∃aP:Int,bA Z 2 (fj l) (bz*2+0)=some (J aP:AV)∧(∃bp:Int,∃tS:Bool,gf Z 2 3 (bK J 0 last) (J aP)=some (J bp,tS)∧((aW ju).length=ju.length*1∧ju.length+1<=65536∧true=true∧true=true)∧(∃cd:Nat,i=(cd:Int)∧cd<l.length∧(∃bI:Int,bA Z 2 (fj l) (cd*2+0)=some (J bI:AV)∧(∃bQ:List (AV×AV×Nat),∃c':Nat,lN Z 2 (bK vB 0 kn) kn.length (J bI) (.aA true)=some (bQ,c')∧L (Xz c l.length (old.length+1) (ju.length+1) (wI (i+1))) (aq [(0,cj f),(1,gC),(2,.ay [.ae 9 aR.length 1,.ae 10 0 1,.ae 11 0 1] 60),(3,jd l),(4,mI last),(5,.bM bQ c' true),(6,.aL (List.map AV.aA old++[.aA b]) 4),(7,.aL (aW ju++[J bp]) 3),(8,.aL [] 3),(9,aD aR 3),(10,.aL [] 2),(11,.aL [] 3)] 12) (ao Z 33 2)))))))))) (L (XA l.length old.length ju.length 0 c) (aq [(0,cj f),(1,gC),(2,.ay [.ae 7 aR.length 1,.ae 8 0 1,.ae 9 0 1] 60),(3,jd l),(4,.aL (List.map AV.aA old) 4),(5,aD ju 3),(6,.aL [] 3),(7,aD aR 3),(8,.aL [] 2),(9,.aL [] 3)] 10) (ao Z 33 3))):=by kernel_rfl
abbrev F9 x0 x1 x2 x3 x4 x5:=bk [(1,.ad 0 0),(2,.ad 1 0),(4,.ad 2 0),(7,.ae 3 x0 2),(11,.ae 4 x1 1),(12,.ae 5 x2 1),(13,.ae 6 x3 1),(15,J x4),(16,J x5)]
abbrev JA x0 x1:=bk [(1,.ad 0 0),(2,.ad 1 0),(4,.ad 2 0),(13,.ae 3 x0 1),(17,J x1)]
abbrev HI x0 x1 x2 x3 x4 x5 x6 x7 x8:=aq [(0,cj x0),(1,gC),(2,.ay [.ae 7 x1 1,.ae 8 x2 1,.ae 9 0 1] 60),(3,jd x3),(4,.aL (List.map AV.aA x4) 4),(5,aD x5 3),(6,aD x6 3),(7,aD x7 3),(8,aD x8 2),(9,.aL [] 3)] 10
theorem asr(f:a9)(aR:LI)(l:LP)(old:List Bool)(ju dG aC:LI)(c:Int)(L:LT)(Q:QT):
 cT Z wB qk L Q 1000 33 0 (XA l.length old.length ju.length dG.length c) (ao Z 33 3) (BA f aR l old ju dG aC)=(
 ai (decide (c>0)) (L (F9 l.length old.length ju.length dG.length c 0) (HI f aR.length aC.length l old ju dG aR aC) (ao Z 33 4)) (L (JA dG.length 0) (aq [(0,cj f),(1,gC),(2,.ay [.ae 4 aR.length 1,.ae 5 aC.length 1,.ae 6 0 1] 60),(3,aD dG 3),(4,aD aR 3),(5,aD aC 2),(6,.aL [] 3)] 7) (ao Z 33 5))):=by kernel_rfl
theorem ast(f:a9)(aR:LI)(l:LP)(old:List Bool)(ju dG aC:LI)(c i:Int)(L:LT)(Q:QT):
 cT Z wB qk L Q 1000 33 0 (F9 l.length old.length ju.length dG.length c i) (ao Z 33 4) (BA f aR l old ju dG aC)=(
 ai (decide (i<Int.ofNat l.length)) (∃aI:Nat,i=(aI:Int)∧aI<old.length∧(∃b:Bool,bA Z 4 (List.map AV.aA old) (aI*1)=some (.aA b:AV)∧ai b (L (F9 l.length old.length ju.length dG.length c (wI (i+1))) (HI f aR.length aC.length l old ju dG aR aC) (ao Z 33 4)) (∃bz:Nat,i=(bz:Int)∧bz<l.length∧(∃n:Int,bA Z 3 (fj l) (bz*2+1)=some (J n:AV)∧ai (n==c) (L (F9 l.length old.length ju.length dG.length c (wI (i+1))) (HI f aR.length aC.length l old ju dG aR aC) (ao Z 33 4)) (∃cd:Nat,i=(cd:Int)∧cd<ju.length∧(∃aP:Int,bA Z 3 (aW ju) (cd*1)=some (J aP:AV)∧ai (aP !=c) (L (F9 l.length old.length ju.length dG.length c (wI (i+1))) (HI f aR.length aC.length l old ju dG aR aC) (ao Z 33 4)) (∃dt:Nat,i=(dt:Int)∧dt<l.length∧(∃bp:Int,bA Z 2 (fj l) (dt*2+0)=some (J bp:AV)∧((aW aC).length=aC.length*1∧aC.length+1<=65536∧true=true∧true=true)∧((aW dG).length=dG.length*1∧dG.length+1<=65536∧true=true∧true=true)∧L (F9 l.length old.length ju.length (dG.length+1) c (wI (i+1))) (aq [(0,cj f),(1,gC),(2,.ay [.ae 7 aR.length 1,.ae 8 (aC.length+1) 1,.ae 9 0 1] 60),(3,jd l),(4,.aL (List.map AV.aA old) 4),(5,aD ju 3),(6,.aL (aW dG++[J c]) 3),(7,aD aR 3),(8,.aL (aW aC++[J bp]) 2),(9,.aL [] 3)] 10) (ao Z 33 4))))))))) (L (XA l.length old.length ju.length dG.length (wI (c-1))) (HI f aR.length aC.length l old ju dG aR aC) (ao Z 33 3))):=by kernel_rfl
abbrev F_ x0 x1 x2 x3:=bk [(1,.ad 0 0),(2,.ad 1 0),(4,.ad 2 0),(13,.ae 3 x0 1),(17,J x1),(18,J x2),(19,J x3)]
theorem asv(f:a9)(aR dG aC aE:LI)(i:Int)(L:LT)(Q:QT):
 cT Z wB qk L Q 1000 33 0 (JA dG.length i) (ao Z 33 5) (Ew f aR dG aC aE)=(
 ai (decide (i<Int.ofNat f.au.length)) (L (F_ dG.length i 0 0) (ED f aR aC aE dG) (ao Z 33 6)) (Q (.aO [.aj [.ae 0 aR.length 1,.ae 1 aC.length 1,.ae 2 aE.length 1],J 0]) (aq [(0,aD aR 3),(1,aD aC 2),(2,aD aE 3)] 3))):=by kernel_rfl
theorem asx(f:a9)(aR dG aC aE:LI)(i n k:Int)(L:LT)(Q:QT):
 cT Z wB qk L Q 1000 33 0 (F_ dG.length i n k) (ao Z 33 6) (Ew f aR dG aC aE)=(
 ai (decide (k<Int.ofNat aC.length)) (∃aI:Nat,i=(aI:Int)∧aI<f.au.length∧(∃aP:Int,∃s:LN,∃bp:Int,∃bI:Int,∃cs:LV,∃len:Nat,∃cS:Int,(((ck f.au).drop (aI*6)).take 6:LV)=[J aP,.aa s,J bp,J bI,.aB cs len 4,J cS]∧ai (aP==1) (∃bz:Nat,k=(bz:Int)∧bz<dG.length∧(∃ib:Int,bA Z 3 (aW dG) (bz*1)=some (J ib:AV)∧(∃cd:Nat,i=(cd:Int)∧cd<aR.length∧(∃jI:Int,bA Z 3 (aW aR) (cd*1)=some (J jI:AV)∧ai (decide (ib>jI)) (L (F_ dG.length i (wI (n+1)) (wI (k+1))) (ED f aR aC aE dG) (ao Z 33 6)) (L (F_ dG.length i n (wI (k+1))) (ED f aR aC aE dG) (ao Z 33 6)))))) (L (F_ dG.length i n (wI (k+1))) (ED f aR aC aE dG) (ao Z 33 6)))) (((aW aE).length=aE.length*1∧aE.length+1<=65536∧true=true∧true=true)∧L (JA dG.length (wI (i+1))) (aq [(0,cj f),(1,gC),(2,.ay [.ae 4 aR.length 1,.ae 5 aC.length 1,.ae 6 (aE.length+1) 1] 60),(3,aD dG 3),(4,aD aR 3),(5,aD aC 2),(6,.aL (aW aE++[J n]) 3)] 7) (ao Z 33 5))):=by kernel_rfl
theorem adQ{l:c7}{i:Nat}(h:i<l.length):fe (l.take (i+1))=fe (l.take i)+(if l[i].cQ=1 then 1 else 0):=by
 have key:∀(a b:c7),fe (a++b)=fe a+fe b:=by
  intro a;induction a with
  |nil=>intro b;simp[fe]
  |cons x a ih=>intro b;simp only[mQ,fe,ih];omega
 rw[List.take_succ_eq_append_getElem h,key];simp[fe]
def xI(c:eu):AV:=.aO [.aj (DZ c),J 0]
section
variable{f:a9}{aw:eu}
theorem asy{dG aE:LI}{i c N:Nat}{k:Int}{nm:LN}{ar aM:Int}{cs:LV}{len:Nat}{v:Int}(bU:((ck f.au).drop (i*6)).take 6=[J k,.aa nm,J ar,J aM,.aB cs len 4,J v])(hi:i<f.au.length)(hu:dG.length=aw.aC.length)(Fh:dG.length<60000)(hil:i<60000)
 (ho:aw.aR.getD i 0=(c:Int)) (Mr:aw.aR.length=f.au.length) (km:aE.length<60000) (hN:N=if k=1 then vg c dG else 0)
 (next:bF Z 33 195 0 (xI aw) (s6 aw) (JA dG.length ((i+1:Nat):Int)) (Ew f aw.aR dG aw.aC (aE++[(N:Int)])) (ao Z 33 5)):
 ∀p:LI×LI×Nat,(p.1++p.2.1=dG∧p.2.2+(if k=1 then vg c p.2.1 else 0)=N∧p.2.2<=p.1.length)->
 bF Z 33 195 0 (xI aw) (s6 aw) (F_ dG.length (i:Int) (p.2.2:Int) (p.1.length:Int)) (Ew f aw.aR dG aw.aC aE) (ao Z 33 6):=by
 refine cX (fun p=>p.2.1.length) _ _ _ _ ?_;rintro⟨A,B,n⟩ ⟨h1,h2,h3⟩ ih;simp only at h1 h2 h3 ih⊢;have ja:A.length+B.length=dG.length:=by rw[←h1];simp
 refine hD x9 1000 qk (by kernel_rfl) ?_;rw[asx];refine cv (fun h=>?_) (fun h=>?_)
 ·have h:=dW h;cases B with
  |nil=>simp only[cI]at ja;simp only[fX]at h;omega
  |cons u B=>
   simp only[bR]at ja;have hw:wI ((A.length:Int)+1)=((A.length+1:Nat):Int):=fE (iz _) (by omega);have n5:wI ((n:Int)+1)=((n+1:Nat):Int):=fE (iz _) (by omega);refine⟨i,rfl,hi,k,nm,ar,aM,cs,len,v,bU,?_⟩;rw[hw,n5];refine cv (fun hk=>?_) (fun hk=>?_)
   ·have hk:k=1:=by simpa using hk
    have hu':bA Z 3 (aW dG) (A.length*1)=some (J u):=by rw[ia (by omega),←h1];simp[List.getD]
    refine⟨A.length,rfl,by omega,u,hu',i,rfl,by omega,(c:Int),by rw[ia (by omega),ho],?_⟩;simp only[hk,if_true,vg]at h2;refine cv (fun hh=>?_) (fun hh=>?_)
    ·have hh:=dW hh;rw[aN hh]at h2;have:=ih (A++[u],B,n+1) ⟨by rw[←h1];simp,by simp only[hk,if_true];omega,by simp only[bj,bR,cI];omega⟩ (by simp);simp only[bj,bR,cI,fD]at this;exact this
    ·have hh:=eJ hh;rw[az hh]at h2;have:=ih (A++[u],B,n) ⟨by rw[←h1];simp,by simp only[hk,if_true];omega,by simp only[bj,bR,cI];omega⟩ (by simp);simp only[bj,bR,cI,fD]at this;exact this
   ·have hk:k≠1:=by simpa using hk
    simp only[hk,if_false]at h2;have:=ih (A++[u],B,n) ⟨by rw[←h1];simp,by simp only[hk,if_false];omega,by simp only[bj,bR,cI];omega⟩ (by simp);simp only[bj,bR,cI,fD]at this;exact this
 ·have h:=eJ h;cases B with
  |cons u B=>simp only[bR]at ja;simp only[fX]at h;omega
  |nil=>
   have hn:n=N:=by simp only[vg]at h2;split at h2<;>omega
   subst hn;have hw:wI ((i:Int)+1)=((i+1:Nat):Int):=fE (iz _) (by omega);rw[hw];simp only[Ew,ED,rO,aD,yW,bj,bR,cI,fD]at next
   exact⟨⟨by simp[pg],by omega,rfl,rfl⟩,next⟩
theorem asw{dG:LI}(hf:fL f)(hG:f.au.length<20000)(hu:dG.length=aw.aC.length)(Fh:dG.length<60000)(xe:aw.aR=mO 0 f.au):
 ∀p:Nat×LI,(p.1<=f.au.length∧p.2.length=p.1∧p.2++tj dG (fe (f.au.take p.1)) (f.au.drop p.1)=aw.aE)->
 bF Z 33 195 0 (xI aw) (s6 aw) (JA dG.length (p.1:Int)) (Ew f aw.aR dG aw.aC p.2) (ao Z 33 5):=by
 refine cX (fun p=>f.au.length-p.1) _ _ _ _ ?_;rintro⟨i,aE⟩ ⟨hi,hl,hv⟩ ih;simp only at hi hl hv ih⊢;refine hD x9 1000 qk (by kernel_rfl) ?_;rw[asv];refine cv (fun h=>?_) (fun h=>?_)
 ·have an:i<f.au.length:=by have:=dW h;simpa using this
  obtain⟨k,nm,ar,aM,ls,v,he,bU,bq⟩:=o5 an hf.2.2.2.2;rw[dv an,tj]at hv;have hk:f.au[i].cQ=k:=by rw[he]
  have nx:=ih (i+1,aE++[((if k=1 then vg (fe (f.au.take i)) dG else 0:Nat):Int)]) ⟨by simp only;omega,by simp[hl],by simp only;rw[adQ an,←hv,hk];by_cases h1:k=1<;>simp[h1]⟩ (by simp only;omega);have ho:aw.aR.getD i 0=((fe (f.au.take i):Nat):Int):=by rw[xe,(VZ f.au 0 i an).1];simp
  exact asy (f:=f) (aw:=aw) (dG:=dG) (aE:=aE) (i:=i) (c:=fe (f.au.take i)) bU an hu Fh (by omega) ho (by rw[xe,V0]) (by omega) rfl nx ([],dG,0) ⟨rfl,by simp,Nat.zero_le _⟩
 ·have a8:f.au.length<=i:=by have:=eJ h;simp at this;omega
  rw[dV a8,tj,gz]at hv;subst hv;exact⟨rfl,rfl⟩
theorem aoq(c:Int):∀(l:LP) (r:List (Bool×Int)),(mj c l r).length<=l.length
 |[],_=>by simp[mj]
 |p::l,[]=>by simp[mj]
 |p::l,oe::r=>by
  have:=aoq c l r;unfold mj;split
  ·simp only[bR];omega
  ·simp only[bR];omega
theorem ait{oe:List (Bool×Int)}{i:Nat}(h:i<oe.length):bA Z 4 (List.map AV.aA (oe.map (·.1))) (i*1)=some (.aA oe[i].1):=by
 have e:bA Z 4 (List.map AV.aA (oe.map (·.1))) (i*1)=(List.map AV.aA (oe.map (·.1)))[i*1]? :=by kernel_rfl
 rw[e];simp[h]
theorem ajk{oe:List (Bool×Int)}{i:Nat}(h:i<oe.length):bA Z 3 (aW (oe.map (·.2))) (i*1)=some (J oe[i].2):=by rw[v5,aW];simp[h]
theorem aoy{l:LP}{i:Nat}(h:i<l.length):bA Z 2 (fj l) (i*2+0)=some (J l[i].1)∧bA Z 3 (fj l) (i*2+1)=some (J l[i].2):=by
 have e:=uI i l;rw[List.drop_eq_getElem_cons h]at e;have hl:(l.take i).length=i:=by simp;omega
 have:=NR (A:=l.take i) (B:=l.drop (i+1)) (p:=l[i]) hl.symm;rw[e]at this;exact this
theorem asu{l:LP}{oe:List (Bool×Int)}{aR P' U':LI}{c:Nat}(hl:l.length<60000)(Mp:oe.length=l.length)(hP:P'.length<60000)(hU:U'.length=P'.length)(hc:0<c)(jC:c<60000)
 (next:bF Z 33 195 0 (xI aw) (s6 aw) (bk [(1,.ad 0 0),(2,.ad 1 0),(4,.ad 2 0),(7,.ae 3 l.length 2),(11,.ae 4 (oe.map (·.1)).length 1),(12,.ae 5 (oe.map (·.2)).length 1),(13,.ae 6 U'.length 1),(15,J ((c-1:Nat):Int))]) (BA f aR l (oe.map (·.1)) (oe.map (·.2)) U' P') (ao Z 33 3)):
 ∀p:Nat×LI×LI,(p.1<=l.length∧p.2.1++mj (c:Int) (l.drop p.1) (oe.drop p.1)=P'∧p.2.2++List.replicate (mj (c:Int) (l.drop p.1) (oe.drop p.1)).length (c:Int)=U')->
 bF Z 33 195 0 (xI aw) (s6 aw) (bk [(1,.ad 0 0),(2,.ad 1 0),(4,.ad 2 0),(7,.ae 3 l.length 2),(11,.ae 4 (oe.map (·.1)).length 1),(12,.ae 5 (oe.map (·.2)).length 1),(13,.ae 6 p.2.2.length 1),(15,J (c:Int)),(16,J (p.1:Int))]) (BA f aR l (oe.map (·.1)) (oe.map (·.2)) p.2.2 p.2.1) (ao Z 33 4):=by
 refine cX (fun p=>l.length-p.1) _ _ _ _ ?_;rintro⟨i,aC,dG⟩ ⟨hi,h1,h2⟩ ih;simp only at hi h1 h2 ih⊢;have jG:aC.length+(mj (c:Int) (l.drop i) (oe.drop i)).length=P'.length:=by rw[←h1];simp
 have Fh:dG.length+(mj (c:Int) (l.drop i) (oe.drop i)).length=U'.length:=by rw[←h2];simp
 refine hD x9 1000 qk (by kernel_rfl) ?_;rw[ast];refine cv (fun h=>?_) (fun h=>?_)
 ·have an:i<l.length:=by have:=dW h;simpa using this
  have jb:i<oe.length:=by omega
  have hw:wI ((i:Int)+1)=((i+1:Nat):Int):=fE (iz _) (by omega);rw[dv an,dv jb,mj]at h1 h2 jG Fh;have hp:=aoy an;refine⟨i,rfl,by simpa using jb,oe[i].1,ait jb,?_⟩;rw[hw];have skip:(oe[i].1=true∨l[i].2=(c:Int)∨oe[i].2≠(c:Int))->bF Z 33 195 0 (xI aw) (s6 aw) (bk [(1,.ad 0 0),(2,.ad 1 0),(4,.ad 2 0),(7,.ae 3 l.length 2),(11,.ae 4 (oe.map (·.1)).length 1),(12,.ae 5 (oe.map (·.2)).length 1),(13,.ae 6 dG.length 1),(15,J (c:Int)),(16,J ((i+1:Nat):Int))]) (BA f aR l (oe.map (·.1)) (oe.map (·.2)) dG aC) (ao Z 33 4):=by intro hs;rw[aN hs]at h1 h2;exact ih (i+1,aC,dG) ⟨by simp only;omega,h1,h2⟩ (by simp only;omega)
  refine cv (fun ho=>skip (.inl ho)) (fun ho=>⟨i,rfl,an,l[i].2,hp.2,cv (fun hk=>skip (.inr (.inl (by simpa using hk)))) (fun hk=>⟨i,rfl,by simpa using jb,oe[i].2,ajk jb,cv (fun he=>skip (.inr (.inr (by simpa using he)))) (fun he=>?_)⟩)⟩);have hn:¬(oe[i].1=true∨l[i].2=(c:Int)∨oe[i].2≠(c:Int)):=by
   rintro(hh|hh|hh)
   ·rw[hh]at ho;cases ho
   ·simp[hh]at hk
   ·simp[hh]at he
  rw[az hn]at h1 h2 jG Fh;simp only[bR]at jG Fh h2;have nx:=ih (i+1,aC++[l[i].1],dG++[(c:Int)]) ⟨by simp only;omega,by rw[←h1];simp,by rw[←h2];simp[List.replicate_succ]⟩ (by simp only;omega);simp only[BA,rO,aD,yW,bj,bR,cI,fD]at nx;exact⟨i,rfl,an,l[i].1,hp.1,⟨by simp[pg],by omega,rfl,rfl⟩,⟨by simp[pg],by omega,rfl,rfl⟩,nx⟩
 ·have a8:l.length<=i:=by have:=eJ h;simp at this;omega
  rw[dV a8]at h1 h2;simp only[mj,gz,cI,List.replicate_zero]at h1 h2;subst h1 h2;have hw:wI ((c:Int)-1)=((c-1:Nat):Int):=by rw[dz]<;>omega
  rw[hw];exact next
theorem ass{l:LP}{oe:List (Bool×Int)}{U:LI}(hf:fL f)(hG:f.au.length<20000)(hl:l.length<60000)(Mp:oe.length=l.length)(hP:aw.aC.length<60000)(hU:U.length=aw.aC.length)(xe:aw.aR=mO 0 f.au)(km:aw.aE=tj U 0 f.au):
 ∀p:Nat×LI×LI,(p.1<60000∧p.2.1++(lh l oe p.1).1=aw.aC∧p.2.2++(lh l oe p.1).2=U∧p.2.1.length=p.2.2.length)->
 bF Z 33 195 0 (xI aw) (s6 aw) (bk [(1,.ad 0 0),(2,.ad 1 0),(4,.ad 2 0),(7,.ae 3 l.length 2),(11,.ae 4 (oe.map (·.1)).length 1),(12,.ae 5 (oe.map (·.2)).length 1),(13,.ae 6 p.2.2.length 1),(15,J (p.1:Int))]) (BA f aw.aR l (oe.map (·.1)) (oe.map (·.2)) p.2.2 p.2.1) (ao Z 33 3):=by
 refine cX (fun p=>p.1) _ _ _ _ ?_;rintro⟨n,aC,dG⟩ ⟨hn,h1,h2,h3⟩ ih;simp only at hn h1 h2 h3 ih⊢;refine hD x9 1000 qk (by kernel_rfl) ?_;rw[asr];refine cv (fun h=>?_) (fun h=>?_)
 ·have h:=dW h;obtain⟨n,rfl⟩:∃m,n=m+1:=⟨n-1,by omega⟩;simp only[lh]at h1 h2;have jG:aC.length+(mj ((n+1:Nat):Int) l oe).length<=aw.aC.length:=by rw[←h1];simp only[bj];omega
  have nx:=ih (n,aC++mj ((n+1:Nat):Int) l oe,dG++List.replicate (mj ((n+1:Nat):Int) l oe).length ((n+1:Nat):Int)) ⟨by simp only;omega,by rw[←h1];simp,by rw[←h2];simp,by simp[h3]⟩ (by simp only;omega);exact asu (f:=f) (aw:=aw) (l:=l) (oe:=oe) (c:=n+1) hl Mp (by simp only[bj];omega) (by simp only[bj,List.length_replicate,h3]) (by omega) (by omega) nx (0,aC,dG) ⟨Nat.zero_le _,rfl,rfl⟩
 ·have h:=eJ h;have hn:n=0:=by omega
  subst hn;simp only[lh,gz]at h1 h2;subst h1 h2;exact asw (f:=f) (aw:=aw) hf hG hU (by omega) xe (0,[]) ⟨Nat.zero_le _,rfl,by simp[km,fe]⟩
theorem asq{l:LP}{last:LP}{OE:List (Bool×Int)}{U:LI}{sO:Nat}(hf:fL f)(hG:f.au.length<20000)(hl:l.length<60000)(hP:aw.aC.length<60000)(hU:U.length=aw.aC.length)(xe:aw.aR=mO 0 f.au)(km:aw.aE=tj U 0 f.au)(jC:sO<60000)(tb:lh l OE sO=(aw.aC,U)):
 ∀p:LP×LP×List (Int×Bool)×List (Bool×Int),(p.1++p.2.1=l∧p.2.2.2++yQ last p.2.2.1 p.2.1=OE∧p.2.2.2.length=p.1.length)->
 bF Z 33 195 0 (xI aw) (s6 aw) (bk [(1,.ad 0 0),(2,.ad 1 0),(4,.ad 2 0),(5,J (sO:Int)),(7,.ae 3 l.length 2),(8,.aS 4),(10,.aS 5),(11,.ae 6 (p.2.2.2.map (·.1)).length 1),(12,.ae 7 (p.2.2.2.map (·.2)).length 1),(13,.ae 8 0 1),(14,J (p.1.length:Int))]) (LG f aw.aR l last p.2.2.1 (p.2.2.2.map (·.1)) (p.2.2.2.map (·.2))) (ao Z 33 2):=by
 refine cX (fun p=>p.2.1.length) _ _ _ _ ?_;rintro⟨A,B,kn,oe⟩ ⟨h1,h2,h3⟩ ih;simp only at h1 h2 h3 ih⊢;have ja:A.length+B.length=l.length:=by rw[←h1];simp
 refine hD x9 1000 qk (by kernel_rfl) ?_;rw[asp];refine cv (fun h=>?_) (fun h=>?_)
 ·have h:=dW h;cases B with
  |nil=>simp only[cI]at ja;simp only[fX]at h;omega
  |cons q B=>
   simp only[bR]at ja;have hp:=NR (A:=A) (B:=B) (p:=q) rfl;rw[h1]at hp;have hw:wI ((A.length:Int)+1)=((A.length+1:Nat):Int):=fE (iz _) (by omega);have k1:∃b:Bool,∃iE:Bool,gf Z 2 4 (bK vB 0 kn) (J q.1)=some (.aA b,iE)∧(lk q.1 kn).getD false=b:=by
    rw[qj _ lz];cases lk q.1 kn with
    |none=>exact⟨false,false,by rw[Pa];rfl,rfl⟩
    |some b=>exact⟨b,true,rfl,rfl⟩
   have k2:∃n:Int,∃iE:Bool,gf Z 2 3 (bK J 0 last) (J q.1)=some (J n,iE)∧(lk q.1 last).getD 0=n:=by
    rw[qj _ lz];cases lk q.1 last with
    |none=>exact⟨0,false,by rw[Dd];rfl,rfl⟩
    |some b=>exact⟨b,true,rfl,rfl⟩
   obtain⟨b,b1,e1,e2⟩:=k1;obtain⟨n,b2,e3,e4⟩:=k2;simp only[yQ,e2,e4]at h2;rw[hw];refine⟨A.length,rfl,by omega,q.1,hp.1,b,b1,e1,⟨by simp,by simp;omega,rfl,rfl⟩,A.length,rfl,by omega,q.1,hp.1,n,b2,e3,⟨by simp[pg],by simp;omega,rfl,rfl⟩,A.length,rfl,by omega,q.1,hp.1,_,_,pj vB lz,?_⟩;have nx:=ih (A++[q],B,up q.1 true kn,oe++[(b,n)]) ⟨by rw[←h1];simp,by rw[←h2];simp,by simp[h3]⟩ (by simp);simp only[LG,rO,aD,bO,List.map_append,List.map_cons,List.map_nil,yW,bj,bR,cI,fD]at nx;exact nx
 ·have h:=eJ h;cases B with
  |cons u B=>simp only[bR]at ja;simp only[fX]at h;omega
  |nil=>simp only[yQ,gz]at h2 h1;subst h2;have:=ass (f:=f) (aw:=aw) (l:=l) (oe:=oe) (U:=U) hf hG hl (by rw[h3,h1]) hP hU xe km (sO,[],[]) ⟨jC,by rw[tb];rfl,by rw[tb];rfl,rfl⟩;exact this
def aeN:List (Nat×Nat):=[(0,0),(1,1),(2,2),(3,3),(4,4),(5,5),(9,6),(10,7),(11,8),(6,9),(7,10),(8,11)]
theorem avQ(f:a9)(aR:LI)(l last:LP):om 0 [0,1,2,3,4,5,9,10,11] (aq ([(0,cj f),(1,gC),(2,rO 6 7 8 aR [] []),(3,jd l),(4,mI last),(5,mB []),(6,aD aR 3),(7,aD [] 2),(8,aD [] 3),(9,bO []),(10,aD [] 3)]++[(11,.aL [] 3)]) (11+1))=some ⟨aeN,LG f aR l last [] [] []⟩:=by kernel_rfl
theorem avX(n:Nat)(c:Int):tE (jS aeN) (bk (At 11 1 [13] [(1,.ad 0 0),(2,.ad 1 0),(4,.ad 2 0),(5,J c),(7,.ae 3 n 2),(8,.aS 4),(10,.aS 5),(11,.ae 9 0 1),(12,.ae 10 0 1),(13,.bg),(14,J 0)])) [1,2,4,5,7,8,10,11,12,13,14]=some (Xz c n 0 0 0):=by kernel_rfl
theorem aso{l:LP}{U:LI}{sO:Nat}(hf:fL f)(hG:f.au.length<20000)(hl:l.length<60000)(hP:aw.aC.length<60000)(hU:U.length=aw.aC.length)(xe:aw.aR=mO 0 f.au)(km:aw.aE=tj U 0 f.au)(jC:sO<60000)(tb:lh l (yQ (qh [] l) [] l) sO=(aw.aC,U)):
 ∀p:LP×LP×LP,(p.1++p.2.1=l∧qh p.2.2 p.2.1=qh [] l)->
 bF Z 33 195 0 (xI aw) (s6 aw) (OL (sO:Int) l.length (p.1.length:Int)) (S8 f aw.aR l p.2.2) (ao Z 33 1):=by
 refine cX (fun p=>p.2.1.length) _ _ _ _ ?_;rintro⟨A,B,last⟩ ⟨h1,h2⟩ ih;simp only at h1 h2 ih⊢;have ja:A.length+B.length=l.length:=by rw[←h1];simp
 refine hD x9 1000 qk (by kernel_rfl) ?_;rw[asn];refine cv (fun h=>?_) (fun h=>?_)
 ·have h:=dW h;cases B with
  |nil=>simp only[cI]at ja;simp only[fX]at h;omega
  |cons q B=>
   simp only[bR]at ja;have hp:=NR (A:=A) (B:=B) (p:=q) rfl;rw[h1]at hp;have hw:wI ((A.length:Int)+1)=((A.length+1:Nat):Int):=fE (iz _) (by omega);have k2:∃n:Int,∃iE:Bool,gf Z 2 3 (bK J 0 last) (J q.1)=some (J n,iE)∧(lk q.1 last).getD 0=n:=by
    rw[qj _ lz];cases lk q.1 last with
    |none=>exact⟨0,false,by rw[Dd];rfl,rfl⟩
    |some b=>exact⟨b,true,rfl,rfl⟩
   obtain⟨n,b2,e3,e4⟩:=k2;simp only[qh,e4]at h2;rw[hw];refine⟨A.length,rfl,by omega,q.1,hp.1,A.length,rfl,by omega,q.1,hp.1,n,b2,e3,A.length,rfl,by omega,q.2,hp.2,_,_,pj J lz,?_⟩;have nx:=ih (A++[q],B,up q.1 (if q.2>n then q.2 else n) last) ⟨by rw[←h1];simp,h2⟩ (by simp);simp only[S8,rO,bj,bR,cI,fD]at nx;exact nx
 ·have h:=eJ h;cases B with
  |cons u B=>simp only[bR]at ja;simp only[fX]at h;omega
  |nil=>simp only[qh,gz]at h2 h1;rw[←h2]at tb;have hc:=asq (f:=f) (aw:=aw) (l:=l) (last:=last) (U:=U) hf hG hl hP hU xe km jC tb ([],l,[],[]) ⟨rfl,rfl,rfl⟩;refine xa (n:=9) (l:=[(0,cj f),(1,gC),(2,rO 6 7 8 aw.aR [] []),(3,jd l),(4,mI last),(5,mB []),(6,aD aw.aR 3),(7,aD [] 2),(8,aD [] 3)]) (T:=[(1,.ad 0 0),(2,.ad 1 0),(4,.ad 2 0),(5,J (sO:Int)),(7,.ae 3 l.length 2),(8,.aS 4),(10,.aS 5),(11,.bg),(12,.bg),(13,.bg),(14,J 0)]) 1 4 [11] ?_ rfl (by kernel_rfl);refine xa (n:=10) (l:=[(0,cj f),(1,gC),(2,rO 6 7 8 aw.aR [] []),(3,jd l),(4,mI last),(5,mB []),(6,aD aw.aR 3),(7,aD [] 2),(8,aD [] 3),(9,bO [])]) (T:=[(1,.ad 0 0),(2,.ad 1 0),(4,.ad 2 0),(5,J (sO:Int)),(7,.ae 3 l.length 2),(8,.aS 4),(10,.aS 5),(11,.ae 9 0 1),(12,.bg),(13,.bg),(14,J 0)]) 1 3 [12] ?_ rfl (by kernel_rfl);refine xa (n:=11) (l:=[(0,cj f),(1,gC),(2,rO 6 7 8 aw.aR [] []),(3,jd l),(4,mI last),(5,mB []),(6,aD aw.aR 3),(7,aD [] 2),(8,aD [] 3),(9,bO []),(10,aD [] 3)]) (T:=[(1,.ad 0 0),(2,.ad 1 0),(4,.ad 2 0),(5,J (sO:Int)),(7,.ae 3 l.length 2),(8,.aS 4),(10,.aS 5),(11,.ae 9 0 1),(12,.ae 10 0 1),(13,.bg),(14,J 0)]) 1 3 [13] ?_ rfl (by kernel_rfl);exact dN.rE (by kernel_rfl) (avQ f aw.aR l last) (avX l.length (sO:Int)) hc
theorem asm{U:LI}(hf:fL f)(hG:f.au.length<20000)(hl:(fT f).length<60000)(cW:bh f.aQ+eg f.au<50000)(hP:aw.aC.length<60000)(hU:U.length=aw.aC.length)(xe:aw.aR=mO 0 f.au)(km:aw.aE=tj U 0 f.au)(tb:lh (fT f) (Cw f) (fe f.au)=(aw.aC,U)):
 ∀p:Nat×LI,(p.1<=f.au.length∧p.2.length=p.1∧p.2++mO (fe (f.au.take p.1)) (f.au.drop p.1)=aw.aR)->
 bF Z 33 195 0 (xI aw) (s6 aw) (Jz (fe (f.au.take p.1):Int) (p.1:Int)) (S7 f p.2) (ao Z 33 0):=by
 refine cX (fun p=>f.au.length-p.1) _ _ _ _ ?_;rintro⟨i,aR⟩ ⟨hi,ho,hv⟩ ih;simp only at hi ho hv ih⊢;have BZ:fe (f.au.take i)<=i:=by have:=No (f.au.take i);simp only[List.length_take]at this;omega
 refine hD x9 1000 qk (by kernel_rfl) ?_;rw[asl];refine cv (fun h=>?_) (fun h=>?_)
 ·have an:i<f.au.length:=by have:=dW h;simpa using this
  obtain⟨k,nm,ar,aM,ls,v,he,bU,bq⟩:=o5 an hf.2.2.2.2;have hw:wI ((i:Int)+1)=((i+1:Nat):Int):=fE (iz _) (by omega);have n5:wI (((fe (f.au.take i):Nat):Int)+1)=((fe (f.au.take i)+1:Nat):Int):=fE (iz _) (by omega);have hk:f.au[i].cQ=k:=by rw[he]
  rw[dv an,mO,hk]at hv;have mb:=adQ an;rw[hk]at mb;have nx:=ih (i+1,aR++[((fe (f.au.take i):Nat):Int)]) ⟨by simp only;omega,by simp[ho],by simp only;rw[mb,←hv];by_cases h1:k=1<;>simp[h1]⟩ (by simp only;omega);simp only[S7,rO,aD,yW,bj,bR,cI,fD]at nx;rw[hw,n5];refine⟨⟨by simp[pg],by omega,rfl,rfl⟩,i,rfl,an,k,nm,ar,aM,_,_,v,bU,cv (fun hb=>?_) (fun hb=>?_)⟩
  ·have hb:k=1:=by simpa using hb
   rw[mb,aN hb]at nx;exact nx
  ·have hb:k≠1:=by simpa using hb
   rw[mb,az hb,Nat.add_zero]at nx;exact nx
 ·have a8:f.au.length<=i:=by have:=eJ h;simp at this;omega
  rw[dV a8,mO,gz]at hv;subst hv;have e:f.au.take i=f.au:=List.take_of_length_le a8;rw[e]at BZ⊢;exact⟨f,⟨rfl,rfl,hf,cW⟩,aso (f:=f) (aw:=aw) (l:=fT f) (U:=U) hf hG hl hP hU xe km (by omega) tb ([],fT f,[]) ⟨rfl,rfl⟩⟩
end
theorem aeC(l:LP)(oe:List (Bool×Int)):∀n,(lh l oe n).2.length=(lh l oe n).1.length
 |0=>rfl
 |n+1=>by simp only[lh,bj,List.length_replicate,aeC l oe n]
theorem aeA(p:Int×Int)(l:LP)(o:Bool×Int)(oe:List (Bool×Int)):∀n,(lh (p::l) (o::oe) n).1.length<=(lh l oe n).1.length+(if 1<=o.2∧o.2<=(n:Int)then 1 else 0)
 |0=>by simp[lh]
 |n+1=>by
  have ih:=aeA p l o oe n;simp only[lh,bj,mj];split
  ·split at ih<;>split<;>omega
  ·rename_i hh;have h2:o.2=((n+1:Nat):Int):=by apply ml;intro hc;exact hh (.inr (.inr hc))
   rw[az (by rw[h2];omega)]at ih;rw[aN (by rw[h2];omega)];simp only[bR];omega
theorem aeD(oe:List (Bool×Int)):∀n,(lh [] oe n).1=[]
 |0=>rfl
 |n+1=>by simp only[lh,aeD oe n,mj,gz]
theorem aeE(l:LP):∀n,(lh l [] n).1=[]
 |0=>rfl
 |n+1=>by cases l<;>simp only[lh,aeE _ n,mj,gz]
theorem Wo(n:Nat):∀(l:LP) (oe:List (Bool×Int)),(lh l oe n).1.length<=l.length
 |[],oe=>by rw[aeD];exact eh _
 |p::l,[]=>by rw[aeE];exact Nat.zero_le _
 |p::l,o::oe=>by have:=Wo n l oe;have:=aeA p l o oe n;simp only[bR];split at this<;>omega
def rh(f:a9)(vs:LV)(r:List (Nat×bc)):List (Nat×bc):=[(0,cj f),(1,gC),(2,.ay vs 60)]++r
theorem GH:bn Z DC:=by
 refine dc x9 ?_;rintro f args H ⟨rfl,rfl,ho,hv,cW⟩;have hg:=Bt f.au;have jG:=O7 f;refine eS x9 1000 qk 195 (by kernel_rfl) ?_;rw[asz];have hd:m_ ei (dj f)=true:=by rw[ye];exact hv
 refine⟨⟨rfl,⟨f,rfl,ho⟩⟩,cv (fun h=>(by have h:(!m_ ei (dj f))=true:=h;rw[hd]at h;cases h)) (fun _=>?_)⟩;have Cs:∀(φ:bu) (x:List Value) (a b c a' b' c':AV),(∀y,VR φ a y->VR φ a' y)->(∀y,VR φ b y->VR φ b' y)->(∀y,VR φ c y->VR φ c' y)->bm φ [a,b,c] x->bm φ [a',b',c'] x:=by rintro φ x a b c a' b' c' h1 h2 h3 ⟨v1,l1,rfl,k1,v2,l2,rfl,k2,v3,l3,rfl,k3,h4⟩;exact⟨v1,_,rfl,h1 _ k1,v2,_,rfl,h2 _ k2,v3,_,rfl,h3 _ k3,h4⟩
 have qb:=Wo (fe f.au) (fT f) (Cw f);have mm:=asm (f:=f) (aw:=gb f) (U:=(IU f).2) ho (by omega) (by omega) (by omega) (by show(lh (fT f) (Cw f) (fe f.au)).1.length<60000;omega) (aeC _ _ _) rfl rfl rfl (0,[]) ⟨Nat.zero_le _,rfl,rfl⟩;refine BQ (H:=aq (rh f [.bg,.bg,.bg] []) 3) (H':=aq (rh f [.ae 3 0 1,.bg,.bg] []++[(3,.aL [] 3)]) (3+1)) ?_ (xx (g:=2) (l:=rh f [.bg,.bg,.bg] []) (l':=rh f [.ae 3 0 1,.bg,.bg] []) (vs:=[.bg,.bg,.bg]) (eT:=[.ae 3 0 1,.bg,.bg]) (el:=60) rfl (fun id=>by simp only[rh,gz,dL];by_cases h:id=2<;>simp[h]) rfl (fun φ x hx=>Cs φ x _ _ _ _ _ _ (fun _=>rL) (fun _ h=>h) (fun _ h=>h) hx) ⟨rfl,rfl⟩) (by kernel_rfl);refine BQ (H:=aq (rh f [.ae 3 0 1,.bg,.bg] [(3,.aL [] 3)]) 4) (H':=aq (rh f [.ae 3 0 1,.ae 4 0 1,.bg] [(3,.aL [] 3)]++[(4,.aL [] 2)]) (4+1)) ?_ (xx (g:=2) (l:=rh f [.ae 3 0 1,.bg,.bg] [(3,.aL [] 3)]) (l':=rh f [.ae 3 0 1,.ae 4 0 1,.bg] [(3,.aL [] 3)]) (vs:=[.ae 3 0 1,.bg,.bg]) (eT:=[.ae 3 0 1,.ae 4 0 1,.bg]) (el:=60) rfl (fun id=>by simp only[rh,mQ,pS,dL];by_cases h:id=2<;>simp[h]) rfl (fun φ x hx=>Cs φ x _ _ _ _ _ _ (fun _ h=>h) (fun _=>rL) (fun _ h=>h) hx) ⟨rfl,rfl⟩) (by kernel_rfl);refine BQ (H:=aq (rh f [.ae 3 0 1,.ae 4 0 1,.bg] [(3,.aL [] 3),(4,.aL [] 2)]) 5) (H':=aq (rh f [.ae 3 0 1,.ae 4 0 1,.ae 5 0 1] [(3,.aL [] 3),(4,.aL [] 2)]++[(5,.aL [] 3)]) (5+1)) ?_ (xx (g:=2) (l:=rh f [.ae 3 0 1,.ae 4 0 1,.bg] [(3,.aL [] 3),(4,.aL [] 2)]) (l':=rh f [.ae 3 0 1,.ae 4 0 1,.ae 5 0 1] [(3,.aL [] 3),(4,.aL [] 2)]) (vs:=[.ae 3 0 1,.ae 4 0 1,.bg]) (eT:=[.ae 3 0 1,.ae 4 0 1,.ae 5 0 1]) (el:=60) rfl (fun id=>by simp only[rh,mQ,pS,dL];by_cases h:id=2<;>simp[h]) rfl (fun φ x hx=>Cs φ x _ _ _ _ _ _ (fun _ h=>h) (fun _ h=>h) (fun _=>rL) hx) ⟨rfl,rfl⟩) (by kernel_rfl);exact mm
end
end Go.Cl
