/- Part of a proof of ClauseCompiles. -/
import Derived.Test.YtanclcoobcaemaaGreatB10
set_option linter.all false
set_option linter.unusedSectionVars false
namespace Go.Cl
open Go.Ev Go.Proofs
variable[Ro]
noncomputable section
def pD(pm:LP)(C:eu):Prop:=
 ∀v,(∀k,lk v pm=some k->kG v 0 0 C.aC=wI (-k)∧kG v 0 0 C.aC≠0)∧(lk v pm=none->kG v 0 0 C.aC=0)
def qD(ct:LP)(F:a9):Prop:=∀v,(lk v ct).getD 0=(lZ v (fT F):Int)
structure du(pm ct:LP)(F:a9)(C:eu)(A B:bS)(m:Em)(r:Rm):Prop where
 uT:∃S,m.aX=A++S∧r.aZ=B++S
 wq:m.cG=r.cE
 c_:m.c_=decide (r.cx>4096)
 dh:∀v,m.lI v=(cu v r.bV).isSome
 old:∀v x,cu v r.bV=some x->m.mF v=false∧m.iU v=x
 new:∀v,cu v r.bV=none->lk v m.bo=none
 mp:m.aC=pm
 mc:m.hJ=ct
 mf:m.f=F
 rf:r.f=F
 rc:r.c=C
def jx(c:bS):Prop:=∀j,c.getLast? =some j->j.op≠10
theorem Sd{A S:bS}{i:ba}(hA:jx A):jt (A++S) i=A++jt S i:=by
 by_cases hi:i.op=10
 ·rcases List.eq_nil_or_concat S with rfl|⟨d,j,rfl⟩
  ·rcases List.eq_nil_or_concat A with rfl|⟨e,k,rfl⟩
   ·rfl
   ·rw[List.concat_eq_append]at hA⊢;have hk:k.op≠10:=hA k (by simp);rw[gz,sT hi,az hk,K7]
  ·rw[List.concat_eq_append,←iy,sT hi,sT hi];split<;>simp
 ·rw[Bl hi,Bl hi,iy]
theorem yL(v w x:Int):∀l:LP,cu v (l++[(w,x)])=match cu v l with|some y=>some y|none=>if w=v then some x else none
 |[]=>by simp[cu]
 |p::l=>by
  simp only[mQ,cu];split
  ·rfl
  ·exact yL v w x l
theorem afh{m:Em}{v:Int}(h:m.mF v=false):m.ic v=m:=by unfold Em.ic;rw[h];rfl
theorem axe{m m':Em}(hp:m'.aC=m.aC)(ht:m'.bo=m.bo)(v:Int):m'.mF v=m.mF v:=by unfold Em.mF;rw[hp,ht]
theorem afj{m m':Em}(hp:m'.aC=m.aC)(ht:m'.bo=m.bo){v:Int}(h:m.mF v=false):m'.iU v=m.iU v:=by
 unfold Em.iU;unfold Em.mF at h;rw[hp,ht];cases h1:lk v m.aC with
 |some k=>rfl
 |none=>
  cases h2:lk v m.bo with
  |some r=>rfl
  |none=>rw[h1,h2]at h;cases h
section
variable{pm ct:LP}{F:a9}{C:eu}{A B:bS}{m:Em}{r:Rm}
theorem du.ah(h:du pm ct F C A B m r){i:ba}(hi:i.op≠10):du pm ct F C A B (m.ah i) (r.ah i):=by
 obtain⟨S,e1,e2⟩:=h.uT;refine⟨⟨S++[i],?_,?_⟩,h.wq,h.c_,h.dh,h.old,h.new,h.mp,h.mc,h.mf,h.rf,h.rc⟩
 ·show jt m.aX i=_;rw[Bl hi,e1,iy]
 ·show r.aZ++[i]=_;rw[e2,iy]
theorem du.lQ(h:du pm ct F C A B m r)(hA:jx A)(hB:jx B):du pm ct F C A B (m.ah ⟨10,0,0,1,[],0⟩) r.lQ:=by
 obtain⟨S,e1,e2⟩:=h.uT;refine⟨⟨jt S ⟨10,0,0,1,[],0⟩,?_,?_⟩,h.wq,h.c_,h.dh,h.old,h.new,h.mp,h.mc,h.mf,h.rf,h.rc⟩
 ·show jt m.aX ⟨10,0,0,1,[],0⟩=_;rw[e1,Sd hA]
 ·show jt r.aZ ⟨10,0,0,1,[],0⟩=_;rw[e2,Sd hB]
theorem adw(g n:Int):(decide (g>4096)||decide (n>4096))=decide ((if n>g then n else g)>4096):=by
 by_cases h1:g>4096<;>by_cases h2:n>4096
 ·rw[decide_eq_true h1,decide_eq_true h2,decide_eq_true (by split<;>omega)];rfl
 ·rw[decide_eq_true h1,decide_eq_false h2,decide_eq_true (by split<;>omega)];rfl
 ·rw[decide_eq_false h1,decide_eq_true h2,decide_eq_true (by split<;>omega)];rfl
 ·rw[decide_eq_false h1,decide_eq_false h2,decide_eq_false (by split<;>omega)];rfl
theorem du.bo(h:du pm ct F C A B m r):du pm ct F C A B m.bX r.bo∧m.bX.cG=r.bo.cE:=by
 have hn:m.bX.cG=r.bo.cE:=by show wI (m.cG+1)=wI (r.cE+1);rw[h.wq]
 refine⟨⟨h.uT,hn,?_,h.dh,fun v x hx=>?_,h.new,h.mp,h.mc,h.mf,h.rf,h.rc⟩,hn⟩
 ·show(m.c_||decide (wI (m.cG+1)>4096))=decide ((if wI (r.cE+1)>r.cx then wI (r.cE+1)else r.cx)>4096);rw[h.c_,h.wq,adw]
 ·obtain⟨h1,h2⟩:=h.old v x hx;exact⟨h1,(afj (m:=m) (m':=m.bX) rfl rfl h1).trans h2⟩
theorem du.NW(h:du pm ct F C A B m r){v x:Int}(hx:cu v r.bV=some x):m.ic v=m∧m.iU v=x∧m.lI v=true:=by obtain⟨h1,h2⟩:=h.old v x hx;exact⟨afh h1,h2,by rw[h.dh,hx];rfl⟩
theorem du.first(gj:pD pm C)(h:du pm ct F C A B m r){v:Int}(hx:cu v r.bV=none):du pm ct F C A B ((m.ic v).ur v) (r.gw v)∧m.iU v=r.gY v∧m.lI v=false:=by
 have hk:m.lI v=false:=by rw[h.dh,hx];rfl
 have zW:r.aC v=kG v 0 0 C.aC:=by rw[Rm.aC,h.rc]
 have ME:=h.new v hx;cases qY:lk v pm with
 |some k=>
  obtain⟨p1,p2⟩:=(gj v).1 k qY;have hf:m.mF v=false:=by unfold Em.mF;rw[h.mp,qY];rfl
  have kZ:m.iU v=kG v 0 0 C.aC:=by rw[p1];unfold Em.iU;rw[h.mp,qY]
  have c6:¬r.aC v=0:=by rw[zW];exact p2
  rw[afh hf];have e1:r.gw v=⟨r.f,r.c,r.aZ,r.bV++[(v,r.aC v)],r.cE,r.cx⟩:=az c6;have e2:r.gY v=r.aC v:=az c6;rw[e1,e2];refine⟨⟨h.uT,h.wq,h.c_,fun w=>?_,fun w x vO=>?_,fun w vO=>?_,h.mp,h.mc,h.mf,h.rf,h.rc⟩,by rw[kZ,zW],hk⟩
  ·show(lk w (up v true m.dh)).getD false=(cu w (r.bV++[(v,r.aC v)])).isSome;rw[lK,yL];have:=h.dh w;unfold Em.lI at this;by_cases uj:w=v
   ·subst uj;rw[aN rfl,hx];simp
   ·rw[az uj,this,az (fun e=>uj e.symm)];cases cu w r.bV<;>rfl
  ·have hw:cu w (r.bV++[(v,r.aC v)])=some x:=vO;rw[yL]at hw;cases hq:cu w r.bV with
   |some y=>rw[hq]at hw;cases hw;exact h.old w x hq
   |none=>
    rw[hq]at hw;simp only at hw;split at hw
    ·rename_i e;subst e;cases hw;exact⟨hf,by rw[zW];exact kZ⟩
    ·cases hw
  ·have hw:cu w (r.bV++[(v,r.aC v)])=none:=vO;rw[yL]at hw;cases hq:cu w r.bV with
   |some y=>rw[hq]at hw;cases hw
   |none=>exact h.new w hq
 |none=>
  have p0:=(gj v).2 qY;have hf:m.mF v=true:=by unfold Em.mF;rw[h.mp,qY,ME];rfl
  have kZ:m.iU v=wI (r.cE+1):=by unfold Em.iU;rw[h.mp,qY,ME,h.wq]
  have ES:r.aC v=0:=by rw[zW];exact p0
  have e1:r.gw v=⟨r.f,r.c,r.aZ,r.bV++[(v,r.bo.cE)],r.bo.cE,r.bo.cx⟩:=aN ES;have e2:r.gY v=r.bo.cE:=aN ES;have eM:(m.ic v).ur v=⟨m.aX,m.f,m.hJ,m.aC,up v (wI (m.cG+1)) m.bo,up v true m.dh,wI (m.cG+1),m.c_||decide (wI (m.cG+1)>4096)⟩:=by unfold Em.ic Em.ur;rw[hf];rfl
  rw[e1,e2,eM];refine⟨⟨h.uT,?_,?_,fun w=>?_,fun w x vO=>?_,fun w vO=>?_,h.mp,h.mc,h.mf,h.rf,h.rc⟩,kZ,hk⟩
  ·show wI (m.cG+1)=wI (r.cE+1);rw[h.wq]
  ·show(m.c_||decide (wI (m.cG+1)>4096))=decide ((if wI (r.cE+1)>r.cx then wI (r.cE+1)else r.cx)>4096);rw[h.c_,h.wq,adw]
  ·show(lk w (up v true m.dh)).getD false=(cu w (r.bV++[(v,r.bo.cE)])).isSome;rw[lK,yL];have:=h.dh w;unfold Em.lI at this;by_cases uj:w=v
   ·subst uj;rw[aN rfl,hx];simp
   ·rw[az uj,this,az (fun e=>uj e.symm)];cases cu w r.bV<;>rfl
  ·have hw:cu w (r.bV++[(v,r.bo.cE)])=some x:=vO;rw[yL]at hw;cases hq:cu w r.bV with
   |some y=>
    rw[hq]at hw;cases hw;obtain⟨q1,q2⟩:=h.old w x hq;have uj:¬w=v:=by rintro rfl;rw[hx]at hq;cases hq
    have et:lk w (up v (wI (m.cG+1)) m.bo)=lk w m.bo:=by rw[lK,az uj]
    constructor
    ·show((lk w m.aC).isNone&&(lk w (up v (wI (m.cG+1)) m.bo)).isNone)=false;rw[et];exact q1
    ·unfold Em.iU at q2⊢;unfold Em.mF at q1;simp only[et];cases z1:lk w m.aC with
     |some k=>rw[z1]at q2;exact q2
     |none=>
      rw[z1]at q1 q2;cases z2:lk w m.bo with
      |some y=>rw[z2]at q2;exact q2
      |none=>rw[z2]at q1;cases q1
   |none=>
    rw[hq]at hw;simp only at hw;split at hw
    ·rename_i e;subst e;cases hw;have et:lk v (up v (wI (m.cG+1)) m.bo)=some (wI (m.cG+1)):=by rw[lK,aN rfl]
     constructor
     ·show((lk v m.aC).isNone&&(lk v (up v (wI (m.cG+1)) m.bo)).isNone)=false;rw[et];simp
     ·unfold Em.iU;simp only[et];rw[h.mp,qY,h.wq];rfl
    ·cases hw
  ·have hw:cu w (r.bV++[(v,r.bo.cE)])=none:=vO;rw[yL]at hw;cases hq:cu w r.bV with
   |some y=>rw[hq]at hw;cases hw
   |none=>
    rw[hq]at hw;simp only at hw;split at hw
    ·cases hw
    ·rename_i e;show lk w (up v (wI (m.cG+1)) m.bo)=none;rw[lK,az (fun e'=>e e'.symm)];exact h.new w hq
def Rm.fY(r:Rm)(v first uv a:Int):Rm:=match cu v r.bV with
 |some x=>r.ah ⟨uv,x,a,0,[],0⟩
 |none=>(r.gw v).ah ⟨first,r.gY v,a,0,[],0⟩
theorem du.fY(gj:pD pm C)(h:du pm ct F C A B m r){v fi la a:Int}(h1:fi≠10)(h2:la≠10):du pm ct F C A B (m.fY v fi la a) (r.fY v fi la a):=by
 unfold Em.fY Rm.fY;cases hx:cu v r.bV with
 |some x=>
  obtain⟨e1,e2,e3⟩:=h.NW hx;rw[e1,e2,e3];have hs:=h.ah (i:=⟨la,x,a,0,[],0⟩) h2;refine⟨hs.uT,hs.wq,hs.c_,fun w=>?_,hs.old,hs.new,hs.mp,hs.mc,hs.mf,hs.rf,hs.rc⟩;show(lk w (up v true m.dh)).getD false=_;rw[lK];by_cases uj:w=v
  ·subst uj;rw[aN rfl];show true=(cu w r.bV).isSome;rw[hx];rfl
  ·rw[az uj];exact h.dh w
 |none=>obtain⟨e1,e2,e3⟩:=h.first gj hx;rw[e2,e3];exact e1.ah (i:=⟨fi,r.gY v,a,0,[],0⟩) h1
theorem du.dR(gj:pD pm C)(h:du pm ct F C A B m r){op v:Int}(kY:op≠10):du pm ct F C A B (m.dR (op,v)) (r.dR (op,v)):=by
 unfold Em.dR Rm.dR;cases hx:cu v r.bV with
 |some x=>obtain⟨e1,e2,e3⟩:=h.NW hx;obtain⟨t1,t2⟩:=h.bo;simp only[e3,cond_true];have s1:=t1.ah (i:=⟨op,r.bo.cE,0,0,[],0⟩) kY;rw[t2];have UQ:cu v (r.bo.ah ⟨op,r.bo.cE,0,0,[],0⟩).bV=some x:=hx;obtain⟨f1,f2,f3⟩:=s1.NW UQ;rw[f1,f2];exact s1.ah (i:=⟨2,x,r.bo.cE,0,[],0⟩) (show(2:Int)≠10 by decide)
 |none=>obtain⟨e1,e2,e3⟩:=h.first gj hx;simp only[e3,cond_false,e2];exact e1.ah (i:=⟨op,r.gY v,0,0,[],0⟩) kY
theorem du.cut(h:du pm ct F C A B m r){v:Int}:du pm ct F C A B (m.nN v) (r.pV v):=by
 unfold Em.nN Rm.pV;cases hx:cu v r.bV with
 |some x=>obtain⟨e1,e2,e3⟩:=h.NW hx;rw[e1,e2,e3];exact h.ah (i:=⟨24,x,0,0,[],0⟩) (show(24:Int)≠10 by decide)
 |none=>
  have hk:m.lI v=false:=by rw[h.dh,hx];rfl
  rw[hk];exact h
end
mutual
def rI(F:a9):aK->Prop
 |.mk k n _ l=>0<=k∧k<4∧(k=0->1<=lZ n (fT F))∧wA F l
def wA(F:a9):bG->Prop
 |[]=>True
 |t::l=>rI F t∧wA F l
end
theorem YZ{F:a9}:∀{l:bG},wA F l->∀t∈l,rI F t
 |[],_,t,ht=>by cases ht
 |x::l,h,t,ht=>by
  rcases List.mem_cons.1 ht with rfl|ht
  ·exact h.1
  ·exact YZ h.2 t ht
section
variable{pm ct:LP}{F:a9}{C:eu}{A B:bS}
theorem du.iM(ij:qD ct F){m:Em}{r:Rm}(h:du pm ct F C A B m r){v:Int}(hv:1<=lZ v (fT F)):(r.iM v=true∧¬m.pI v>1)∨(r.iM v=false∧m.pI v>1):=by
 have e:m.pI v=(lZ v (fT F):Int):=by unfold Em.pI;rw[h.mc];exact ij v
 rw[e,Rm.iM,h.rf];by_cases h1:lZ v (fT F)=1
 ·exact .inl ⟨decide_eq_true h1,by omega⟩
 ·exact .inr ⟨decide_eq_false h1,by omega⟩
theorem ahR(m:Em)(n:Int)(s:LN)(l:bG)(b:Int):m.ir (.mk 0 n s l) b=if m.pI n>1 then m.fY n 6 7 0 else m.ah ⟨10,0,0,1,[],0⟩:=rfl
theorem ahS(m:Em)(n:Int)(s:LN)(l:bG)(b:Int):m.ir (.mk 1 n s l) b=m.ah ⟨8,0,0,n,[],0⟩:=rfl
theorem ahT(m:Em)(n:Int)(s:LN)(l:bG)(b:Int):m.ir (.mk 2 n s l) b=m.ah ⟨9,0,0,0,s,0⟩:=rfl
theorem ahU(m:Em)(n:Int)(s:LN)(l:bG)(b:Int):m.ir (.mk 3 n s l) b=m.ah ⟨7,b,0,0,[],0⟩:=rfl
theorem ah1(m:Em)(n:Int)(s:LN)(l:bG):m.hO (.mk 0 n s l)=(m.ir (.mk 0 n s l) 0,[]):=rfl
theorem ah2(m:Em)(n:Int)(s:LN)(l:bG):m.hO (.mk 1 n s l)=(m.ir (.mk 1 n s l) 0,[]):=rfl
theorem ah3(m:Em)(n:Int)(s:LN)(l:bG):m.hO (.mk 2 n s l)=(m.ir (.mk 2 n s l) 0,[]):=rfl
theorem aw4(m:Em)(n:Int)(s:LN)(l:bG):m.hO (.mk 3 n s l)=(m.bX.ah ⟨6,m.bX.cG,0,0,[],0⟩,[(m.bX.cG,.mk 3 n s l)]):=rfl
theorem agm(r:Rm)(n:Int)(s:LN)(l:bG):r.gP (.mk 0 n s l)=if r.iM n=true then r.lQ else r.fY n 6 7 0:=rfl
theorem agn(r:Rm)(n:Int)(s:LN)(l:bG):r.gP (.mk 1 n s l)=r.ah ⟨8,0,0,n,[],0⟩:=rfl
theorem ago(r:Rm)(n:Int)(s:LN)(l:bG):r.gP (.mk 2 n s l)=r.ah ⟨9,0,0,0,s,0⟩:=rfl
theorem MW{k:Int}(h0:0<=k)(h4:k<4):k=0∨k=1∨k=2∨k=3:=by omega
theorem aky(m:Em)(n a:Int)(s:LN)(l:bG):m.nO (a,.mk 0 n s l)=if m.pI n>1 then m.fY n 1 2 a else m:=rfl
theorem akz(m:Em)(n a:Int)(s:LN)(l:bG):m.nO (a,.mk 1 n s l)=m.ah ⟨3,0,a,n,[],0⟩:=rfl
theorem akA(m:Em)(n a:Int)(s:LN)(l:bG):m.nO (a,.mk 2 n s l)=m.ah ⟨4,0,a,0,s,0⟩:=rfl
theorem akB(m:Em)(n a:Int)(s:LN)(l:bG):m.nO (a,.mk 3 n s l)=m.Bq (a,.mk 3 n s l):=rfl
theorem ab8(r:Rm)(n a:Int)(s:LN)(l:bG):r.hd a (.mk 0 n s l)=if r.iM n=true then r else r.fY n 1 2 a:=rfl
theorem ab9(r:Rm)(n a:Int)(s:LN)(l:bG):r.hd a (.mk 1 n s l)=r.ah ⟨3,0,a,n,[],0⟩:=rfl
theorem aca(r:Rm)(n a:Int)(s:LN)(l:bG):r.hd a (.mk 2 n s l)=r.ah ⟨4,0,a,0,s,0⟩:=rfl
theorem acb(r:Rm)(n a:Int)(s:LN)(l:bG):r.hd a (.mk 3 n s l)=r.FA (a,.mk 3 n s l):=rfl
theorem aoI(m:Em)(n a:Int)(s:LN)(l:bG):m.lq (a,.mk 0 n s l)=if m.pI n>1 then m.fY n 11 12 a else m.ah ⟨11,a,a,0,[],0⟩:=rfl
theorem aoJ(m:Em)(n a:Int)(s:LN)(l:bG):m.lq (a,.mk 1 n s l)=m.ah ⟨13,0,a,n,[],0⟩:=rfl
theorem aoK(m:Em)(n a:Int)(s:LN)(l:bG):m.lq (a,.mk 2 n s l)=m.ah ⟨14,0,a,0,s,0⟩:=rfl
theorem aoL(m:Em)(n a:Int)(s:LN)(l:bG):m.lq (a,.mk 3 n s l)=m.lR a (.mk 3 n s l):=rfl
theorem aeT(r:Rm)(n a:Int)(s:LN)(l:bG):r.iX (a,.mk 0 n s l)=if r.iM n=true then r.ah ⟨11,a,a,0,[],0⟩else r.fY n 11 12 a:=rfl
theorem aeU(r:Rm)(n a:Int)(s:LN)(l:bG):r.iX (a,.mk 1 n s l)=r.ah ⟨13,0,a,n,[],0⟩:=rfl
theorem aeV(r:Rm)(n a:Int)(s:LN)(l:bG):r.iX (a,.mk 2 n s l)=r.ah ⟨14,0,a,0,s,0⟩:=rfl
theorem aeW(r:Rm)(n a:Int)(s:LN)(l:bG):r.iX (a,.mk 3 n s l)=r.lu a (.mk 3 n s l):=rfl
theorem du.gP(gj:pD pm C)(ij:qD ct F)(hA:jx A)(hB:jx B){m:Em}{r:Rm}(h:du pm ct F C A B m r){t:aK}(ht:rI F t)(h3:t.cY≠3):
 du pm ct F C A B (m.ir t 0) (r.gP t)∧(m.hO t)=(m.ir t 0,[]):=by
 obtain⟨k,n,s,l⟩:=t;obtain⟨k0,k4,hk,_⟩:=ht;simp only[aK.cY]at h3;rcases MW k0 k4 with rfl|rfl|rfl|rfl
 ·refine⟨?_,ah1 ..⟩;rw[ahR,agm];rcases h.iM ij (hk rfl)with⟨q1,q2⟩|⟨q1,q2⟩
  ·rw[az q2,aN q1];exact h.lQ hA hB
  ·rw[aN q2,az (by rw[q1];simp)];exact h.fY gj (by decide) (by decide)
 ·refine⟨?_,ah2 ..⟩;rw[ahS,agn];exact h.ah (show(8:Int)≠10 by decide)
 ·refine⟨?_,ah3 ..⟩;rw[ahT,ago];exact h.ah (show(9:Int)≠10 by decide)
 ·exact absurd rfl h3
theorem du.arg(gj:pD pm C)(ij:qD ct F)(hA:jx A)(hB:jx B){m:Em}{r:Rm}(h:du pm ct F C A B m r){t:aK}(ht:rI F t)(b:Int):
 du pm ct F C A B (m.ir t b) (r.lY t b):=by
 by_cases h3:t.cY=3
 ·have e2:r.lY t b=r.ah ⟨7,b,0,0,[],0⟩:=aN h3;rw[e2];obtain⟨k,n,s,l⟩:=t;have h3:k=3:=h3;subst h3;rw[ahU];exact h.ah (show(7:Int)≠10 by decide)
 ·have e1:m.ir t b=m.ir t 0:=by
   obtain⟨k,n,s,l⟩:=t;obtain⟨k0,k4,_,_⟩:=ht;rcases MW k0 k4 with rfl|rfl|rfl|rfl
   ·rfl
   ·rfl
   ·rfl
   ·exact absurd rfl h3
  have e2:r.lY t b=r.gP t:=az h3;rw[e1,e2];exact(h.gP gj ij hA hB ht h3).1
theorem du.args(gj:pD pm C)(ij:qD ct F)(hA:jx A)(hB:jx B):∀(l:List (aK×Int)) {m:Em} {r:Rm},du pm ct F C A B m r->(∀p∈l,rI F p.1)->du pm ct F C A B (m.oU l) (r.qJ l)
 |[],_,_,h,_=>h
 |(t,b)::l,_,_,h,hl=>du.args gj ij hA hB l (h.arg gj ij hA hB (hl (t,b) (eP ..)) b) (fun p hp=>hl p (eE _ hp))
mutual
theorem du.build(gj:pD pm C)(ij:qD ct F)(hA:jx A)(hB:jx B):∀(t:aK) {m:Em} {r:Rm} (x:Int),du pm ct F C A B m r->rI F t->du pm ct F C A B (m.lR x t) (r.lu x t)
 |.mk k n s l,m,r,x,h,ht=>by obtain⟨h1,h2⟩:=du.dq gj ij hA hB l h ht.2.2.2;simp only[Em.lR,Rm.lu];rw[h2];exact du.args gj ij hA hB _ (h1.ah (show(15:Int)≠10 by decide)) (fun p hp=>YZ ht.2.2.2 _ (List.of_mem_zip hp).1)
theorem du.dq(gj:pD pm C)(ij:qD ct F)(hA:jx A)(hB:jx B):∀(l:bG) {m:Em} {r:Rm},du pm ct F C A B m r->wA F l->du pm ct F C A B (m.dq l).1 (r.dq l).1∧(m.dq l).2=(r.dq l).2
 |[],m,r,h,_=>⟨h,rfl⟩
 |t::l,m,r,h,hl=>by
  simp only[Em.dq,Rm.dq];by_cases h3:t.cY=3
  ·simp only[aN h3];obtain⟨t1,t2⟩:=h.bo;rw[t2];obtain⟨b1,b2⟩:=du.dq gj ij hA hB l (du.build gj ij hA hB t r.bo.cE t1 hl.1) hl.2;exact⟨b1,by rw[b2]⟩
  ·simp only[az h3];obtain⟨b1,b2⟩:=du.dq gj ij hA hB l h hl.2;exact⟨b1,by rw[b2]⟩
end
theorem du.ig(gj:pD pm C)(ij:qD ct F)(hA:jx A)(hB:jx B){m:Em}{r:Rm}(h:du pm ct F C A B m r){t:aK}(ht:rI F t):
 du pm ct F C A B (m.hO t).1 (r.ig t).1∧(m.hO t).2=(r.ig t).2∧∀w∈(r.ig t).2,rI F w.2:=by
 by_cases h3:t.cY=3
 ·have e1:m.hO t=(m.bX.ah ⟨6,m.bX.cG,0,0,[],0⟩,[(m.bX.cG,t)]):=by obtain⟨k,n,s,l⟩:=t;have h3:k=3:=h3;subst h3;rfl
  have e2:r.ig t=(r.bo.ah ⟨6,r.bo.cE,0,0,[],0⟩,[(r.bo.cE,t)]):=aN h3;obtain⟨t1,t2⟩:=h.bo;rw[e1,e2,t2];refine⟨t1.ah (show(6:Int)≠10 by decide),rfl,fun w hw=>?_⟩;simp only[ko]at hw;subst hw;exact ht
 ·obtain⟨s1,s2⟩:=h.gP gj ij hA hB ht h3;have e2:r.ig t=(r.gP t,[]):=az h3;rw[s2,e2];exact⟨s1,rfl,fun w hw=>by cases hw⟩
theorem du.gR(gj:pD pm C)(ij:qD ct F)(hA:jx A)(hB:jx B):∀(l:bG) {m:Em} {r:Rm} (q:List (Int×aK)),du pm ct F C A B m r->wA F l->(∀w∈q,rI F w.2)->
 du pm ct F C A B (m.i_ q l).1 (r.gR q l).1∧(m.i_ q l).2=(r.gR q l).2∧∀w∈(r.gR q l).2,rI F w.2
 |[],m,r,q,h,_,hq=>⟨h,rfl,hq⟩
 |t::l,m,r,q,h,hl,hq=>by
  obtain⟨a1,a2,a3⟩:=h.ig gj ij hA hB hl.1;simp only[Em.i_,Rm.gR];rw[a2];exact du.gR gj ij hA hB l _ a1 hl.2 (fun w hw=>by
   rcases List.mem_append.1 hw with hw|hw
   ·exact hq w hw
   ·exact a3 w hw)
theorem du.gD(gj:pD pm C)(ij:qD ct F)(hA:jx A)(hB:jx B):∀(n:Nat) {m:Em} {r:Rm} (q:List (Int×aK)),du pm ct F C A B m r->(∀w∈q,rI F w.2)->du pm ct F C A B (m.gD n q) (r.gD n q)
 |0,m,r,q,h,_=>by simpa[Em.gD,Rm.gD]using h
 |n+1,m,r,[],h,_=>by simpa[Em.gD,Rm.gD]using h
 |n+1,m,r,w::q,h,hq=>by
  simp only[Em.gD,Rm.gD];have hw:=hq w (eP ..);have hwa:wA F w.2.cK:=by obtain⟨x,k,n,s,l⟩:=w;exact hw.2.2.2
  obtain⟨a1,a2,a3⟩:=du.gR gj ij hA hB w.2.cK q (h.ah (i:=⟨5,0,w.1,0,w.2.fZ,w.2.cK.length⟩) (show(5:Int)≠10 by decide)) hwa (fun w' sb=>hq w' (eE _ sb));rw[a2];exact du.gD gj ij hA hB n _ a1 a3
theorem du.hd(gj:pD pm C)(ij:qD ct F)(hA:jx A)(hB:jx B){m:Em}{r:Rm}(h:du pm ct F C A B m r){t:aK}(ht:rI F t)(a:Int):du pm ct F C A B (m.nO (a,t)) (r.hd a t):=by
 obtain⟨k,n,s,l⟩:=t;have Uy:=ht;obtain⟨k0,k4,hk,_⟩:=ht;rcases MW k0 k4 with rfl|rfl|rfl|rfl
 ·rw[aky,ab8];rcases h.iM ij (hk rfl)with⟨q1,q2⟩|⟨q1,q2⟩
  ·rw[az q2,aN q1];exact h
  ·rw[aN q2,az (by rw[q1];simp)];exact h.fY gj (by decide) (by decide)
 ·rw[akz,ab9];exact h.ah (show(3:Int)≠10 by decide)
 ·rw[akA,aca];exact h.ah (show(4:Int)≠10 by decide)
 ·rw[akB,acb];exact du.gD gj ij hA hB _ _ h (fun w hw=>by simp only[ko]at hw;subst hw;exact Uy)
theorem du.put(gj:pD pm C)(ij:qD ct F)(hA:jx A)(hB:jx B){m:Em}{r:Rm}(h:du pm ct F C A B m r){t:aK}(ht:rI F t)(a:Int):du pm ct F C A B (m.lq (a,t)) (r.iX (a,t)):=by
 obtain⟨k,n,s,l⟩:=t;have Uy:=ht;obtain⟨k0,k4,hk,_⟩:=ht;rcases MW k0 k4 with rfl|rfl|rfl|rfl
 ·rw[aoI,aeT];rcases h.iM ij (hk rfl)with⟨q1,q2⟩|⟨q1,q2⟩
  ·rw[az q2,aN q1];exact h.ah (show(11:Int)≠10 by decide)
  ·rw[aN q2,az (by rw[q1];simp)];exact h.fY gj (by decide) (by decide)
 ·rw[aoJ,aeU];exact h.ah (show(13:Int)≠10 by decide)
 ·rw[aoK,aeV];exact h.ah (show(14:Int)≠10 by decide)
 ·rw[aoL,aeW];exact du.build gj ij hA hB _ _ h Uy
theorem du.dJ(gj:pD pm C)(ij:qD ct F)(hA:jx A)(hB:jx B):∀(l:bG) (j:Nat) {m:Em} {r:Rm},du pm ct F C A B m r->wA F l->du pm ct F C A B (m.dJ j l) (r.dJ j l)
 |[],_,_,_,h,_=>h
 |t::l,j,m,r,h,hl=>du.dJ gj ij hA hB l (j+1) (h.hd gj ij hA hB hl.1 _) hl.2
theorem du.eO(gj:pD pm C)(ij:qD ct F)(hA:jx A)(hB:jx B):∀(l:bG) (j:Nat) {m:Em} {r:Rm},du pm ct F C A B m r->wA F l->du pm ct F C A B (m.eO j l) (r.g_ j l)
 |[],_,_,_,h,_=>h
 |t::l,j,m,r,h,hl=>du.eO gj ij hA hB l (j+1) (h.put gj ij hA hB hl.1 _) hl.2
end
mutual
theorem awe(c:Int):∀(q:LP) (t:aK),gI c q t=q++gI c [] t
 |q,.mk k n s l=>by
  by_cases h:k=0
  ·simp[gI,h]
  ·simp only[gI,az h];exact za c q l
theorem za(c:Int):∀(q:LP) (l:bG),fN c q l=q++fN c [] l
 |q,[]=>by simp[fN]
 |q,t::l=>by simp only[fN];rw[za c (gI c q t) l,za c (gI c [] t) l,awe c q t,iy]
end
def t_(c:Nat)(g:iP):LP:=fN c [] g.cP++(if pb g then[(g.il,(c:Int))]else[])
theorem akP(c:Nat)(q:LP)(g:iP):sX c q g=q++t_ c g:=by
 unfold sX t_;cases pb g
 ·simp[za c q]
 ·simp[za c q]
def sY:Nat->c7->LP
 |_,[]=>[]
 |c,g::gs=>t_ c g++sY (if g.cQ=1 then c+1 else c) gs
theorem aeH:∀(gs:c7) (c:Nat) (q:LP),uH c q gs=q++sY c gs
 |[],c,q=>by simp[uH,sY]
 |g::gs,c,q=>by simp only[uH,sY];rw[aeH gs,akP,iy]
theorem IP(f:a9):fT f=fN 0 [] f.aQ++sY 0 f.au:=aeH _ _ _
def qf(m:LP)(P:LP):LP:=P.foldl (fun m p=>z_ p.1 m) m
theorem ad4{n:Int}{s:LN}{l:bG}(h:lL (.mk 0 n s l)=true):l=[]:=by simp only[lL,cy]at h;have h:=h.1;simp only[sk,if_true,iK]at h;exact List.eq_nil_of_length_eq_zero h.2.2.2
mutual
theorem aiW(c:Int):∀(t:aK) (m:LP),lL t=true->pY m t=qf m (gI c [] t)
 |.mk k n s l,m,h=>by
  by_cases hk:k=0
  ·subst hk;have:=ad4 h;subst this;simp[pY,nX,gI,qf]
  ·simp only[pY,gI,az hk];simp only[lL,cy]at h;exact KV c l m h.2
theorem KV(c:Int):∀(l:bG) (m:LP),n_ l=true->nX m l=qf m (fN c [] l)
 |[],m,_=>by simp[nX,fN,qf]
 |t::l,m,h=>by simp only[n_,cy]at h;simp only[nX,fN];rw[za,KV c l _ h.2,aiW c t m h.1];simp[qf]
end
mutual
theorem anQ(c:Int):∀(t:aK) (st:dM),nq c st t=(gI c [] t).foldl (fun st p=>iR st p.1 p.2) st
 |.mk k n s l,st=>by
  by_cases hk:k=0
  ·simp[nq,gI,hk]
  ·simp only[nq,gI,az hk];exact Nz c l st
theorem Nz(c:Int):∀(l:bG) (st:dM),iJ c st l=(fN c [] l).foldl (fun st p=>iR st p.1 p.2) st
 |[],st=>by simp[iJ,fN]
 |t::l,st=>by simp only[iJ,fN];rw[za,Nz c l,anQ c t st];simp
end
theorem amw(g:iP):Ac g.cQ=pb g:=by
 unfold Ac pb;by_cases h2:g.cQ=2
 ·simp[h2]
 ·by_cases h3:g.cQ=3
  ·simp[h3]
  ·by_cases h4:g.cQ=4
   ·simp[h4]
   ·simp[h2,h3,h4]
def Nt(gs:c7):Prop:=∀g∈gs,n_ g.cP=true
theorem aiU(c:Nat)(m:LP)(g:iP)(h:n_ g.cP=true):Bi m g=qf m (t_ c g):=by unfold Bi t_;rw[amw,KV (c:Int) _ _ h];cases pb g<;>simp[qf]
theorem aal:∀(gs:c7) (c:Nat) (m:LP),Nt gs->zt m gs=qf m (sY c gs)
 |[],c,m,_=>rfl
 |g::gs,c,m,h=>by simp only[zt,ik,sY];have:=aal gs (if g.cQ=1 then c+1 else c) (Bi m g) (fun x hx=>h x (eE _ hx));rw[zt]at this;rw[this,aiU c m g (h g (eP ..))];simp[qf]
theorem aiS{f:a9}(ha:n_ f.aQ=true)(hg:Nt f.au):oX f=qf [] (fT f):=by rw[oX,IP,KV 0 _ _ ha,aal f.au 0 _ hg];simp[qf]
theorem anO(c:Nat)(st:dM)(g:iP):vX c st g=(t_ c g).foldl (fun st p=>iR st p.1 p.2) st:=by unfold vX t_;rw[Nz];cases pb g<;>simp
theorem aeh:∀(gs:c7) (c:Nat) (st:dM),xy c st gs=(sY c gs).foldl (fun st p=>iR st p.1 p.2) st
 |[],c,st=>rfl
 |g::gs,c,st=>by simp only[xy,sY];rw[aeh gs,anO,List.foldl_append]
def jJ(P:LP):dM:=P.foldl (fun st p=>iR st p.1 p.2) ([],[])
theorem IF(f:a9):gN f=jJ (fT f):=by rw[gN,yP,IP,aeh,Nz,jJ,List.foldl_append]
theorem aao(v:Int)(p:Int×Int):∀l:LP,lZ v (l++[p])=lZ v l+(if p.1=v then 1 else 0)
 |[]=>by simp[lZ]
 |q::l=>by simp only[mQ,lZ,aao v p l];omega
theorem M6{α:Type}{Q:List α->Prop}(h0:Q [])(h1:∀l x,Q l->Q (l++[x]))(l:List α):Q l:=by
 have:∀n (l:List α),l.length=n->Q l:=by
  intro n;induction n with
  |zero=>intro l hl;rw[List.eq_nil_of_length_eq_zero hl];exact h0
  |succ n ih=>
   intro l hl;rcases List.eq_nil_or_concat l with rfl|⟨d,x,rfl⟩
   ·exact h0
   ·rw[List.concat_eq_append]at hl⊢;exact h1 d x (ih d (by simp at hl;omega))
 exact this _ l rfl
theorem amr(v:Int)(P:LP):P.length<1000000->(lk v (qf [] P)).getD 0=(lZ v P:Int):=by
 refine M6 (Q:=fun P=>P.length<1000000->(lk v (qf [] P)).getD 0=(lZ v P:Int)) (fun _=>rfl) (fun l p ih hl=>?_) P;simp only[bj,bR,cI]at hl;have ih:=ih (by omega);have de:=aam v l;have e:qf [] (l++[p])=z_ p.1 (qf [] l):=by simp[qf]
 rw[e,z_,lK,aao];by_cases h:v=p.1
 ·subst h;rw[aN rfl,aN rfl,ih];simp only[Option.getD_some];rw[dz (by omega) (by omega)]
  push_cast
  rfl
 ·rw[az h,az (fun e=>h e.symm),ih];simp
theorem aiV{f:a9}(ha:n_ f.aQ=true)(hg:Nt f.au)(hl:(fT f).length<1000000):qD (oX f) f:=by intro v;rw[aiS ha hg];exact amr v _ hl
theorem aez(v:Int):∀(l:LI) (i:Nat) (m:LP) (r:Int),i+l.length<1000000->
 ((∀k,lk v m=some k->r=wI (-k)∧r≠0)∧(lk v m=none->r=0))->
 (∀k,lk v (rr i m l)=some k->kG v i r l=wI (-k)∧kG v i r l≠0)∧(lk v (rr i m l)=none->kG v i r l=0)
 |[],i,m,r,_,h=>h
 |x::l,i,m,r,hl,h=>by
  simp only[rr,kG];simp only[bR]at hl;refine aez v l (i+1) _ _ (by omega) ?_;rw[lK];by_cases hx:v=x
  ·subst hx;simp only[if_true];refine⟨fun k hk=>?_,fun hk=>by cases hk⟩;cases hk;constructor
   ·rw[dz (by omega) (by omega)]
    push_cast
    omega
   ·omega
  ·rw[az hx,az (fun e=>hx e.symm)];exact h
theorem aos{C:eu}(h:C.aC.length<1000000):pD (rr 0 [] C.aC) C:=
 fun v=>aez v C.aC 0 [] 0 (by omega) ⟨fun k hk=>(by cases hk),fun _=>rfl⟩
def nR(lo hi:Int)(P:LP):Prop:=P.Pairwise (fun a b=>a.2<=b.2)∧∀p∈P,lo<=p.2∧p.2<=hi
theorem nR.tQ{a b c:Int}{P Q:LP}(BL:a<=b)(hbc:b<=c)(hP:nR a b P)(hQ:nR b c Q):nR a c (P++Q):=by
 refine⟨List.pairwise_append.2 ⟨hP.1,hQ.1,fun x hx y hy=>?_⟩,fun p hp=>?_⟩
 ·have h1:=hP.2 x hx;have h2:=hQ.2 y hy;omega
 ·rcases List.mem_append.1 hp with hp|hp
  ·have:=hP.2 p hp;omega
  ·have:=hQ.2 p hp;omega
theorem nR.le{a b c:Int}{P:LP}(hbc:b<=c)(hP:nR a b P):nR a c P:=⟨hP.1,fun p hp=>by have:=hP.2 p hp;omega⟩
mutual
theorem awf(c:Int):∀t:aK,nR c c (gI c [] t)
 |.mk k n s l=>by
  by_cases h:k=0
  ·simp only[gI,h,if_true,pS];exact⟨List.pairwise_singleton _ _,fun p hp=>by simp only[ko]at hp;subst hp;omega⟩
  ·simp only[gI,az h];exact O_ c l
theorem O_(c:Int):∀l:bG,nR c c (fN c [] l)
 |[]=>by simp only[fN];exact⟨List.Pairwise.nil,fun p hp=>by cases hp⟩
 |t::l=>by simp only[fN];rw[za];exact nR.tQ (fM _) (fM _) (awf c t) (O_ c l)
end
theorem akO(c:Nat)(g:iP):nR c c (t_ c g):=by
 unfold t_;refine nR.tQ (fM _) (fM _) (O_ c _) ?_;split
 ·exact⟨List.pairwise_singleton _ _,fun p hp=>by simp only[ko]at hp;subst hp;simp⟩
 ·exact⟨List.Pairwise.nil,fun p hp=>by cases hp⟩
theorem SZ:∀(gs:c7) (c:Nat),nR c ((c+fe gs:Nat):Int) (sY c gs)
 |[],c=>⟨List.Pairwise.nil,fun p hp=>by cases hp⟩
 |g::gs,c=>by
  simp only[sY,fe];have h1:=akO c g;by_cases hk:g.cQ=1
  ·simp only[hk,if_true];have h2:=SZ gs (c+1);have e:c+1+fe gs=c+(1+fe gs):=by omega
   rw[e]at h2;refine nR.tQ (b:=((c+1:Nat):Int)) (by omega) (by omega) (h1.le (by omega)) h2
  ·simp only[hk,if_false];have h2:=SZ gs c;have e:c+fe gs=c+(0+fe gs):=by omega
   rw[e]at h2;exact nR.tQ (fM _) (by omega) h1 h2
theorem aeG(f:a9):nR 0 (fe f.au) (fT f):=by rw[IP];have h1:=O_ 0 f.aQ;have h2:=SZ f.au 0;rw[fD]at h2;exact nR.tQ (fM _) (by omega) h1 h2
theorem M9(v:Int):∀(P Q:LP),cu v (P++Q)=match cu v P with|some x=>some x|none=>cu v Q
 |[],Q=>rfl
 |p::P,Q=>by
  simp only[mQ,cu];split
  ·rfl
  ·exact M9 v P Q
theorem M_{v x:Int}:∀{P:LP},cu v P=some x->(v,x)∈P
 |p::P,h=>by
  unfold cu at h;split at h
  ·rename_i e;cases h;subst e;exact eP ..
  ·exact eE _ (M_ h)
theorem aej(P:LP)(p:Int×Int):jJ (P++[p])=iR (jJ P) p.1 p.2:=by simp[jJ]
theorem aei(P:LP):∀v,(lk v (jJ P).1=none∧cu v P=none∧cu v P.reverse=none)∨∃s,lk v (jJ P).1=some s∧cu v P=some s.tI∧cu v P.reverse=some s.tJ:=by
 refine M6 (Q:=fun P=>∀v,(lk v (jJ P).1=none∧cu v P=none∧cu v P.reverse=none)∨∃s,lk v (jJ P).1=some s∧cu v P=some s.tI∧cu v P.reverse=some s.tJ) (fun v=>.inl ⟨rfl,rfl,rfl⟩) (fun P p ih v=>?_) P;rw[aej,List.reverse_append,M9];have er:cu v ([p].reverse++P.reverse)=if p.1=v then some p.2 else cu v P.reverse:=rfl
 have ep:cu v [p]=if p.1=v then some p.2 else none:=rfl
 rw[er,ep];unfold iR;by_cases hv:p.1=v
 ·subst hv;simp only[if_true];rcases ih p.1 with⟨h1,h2,h3⟩|⟨s,h1,h2,h3⟩
  ·rw[h1,h2];exact .inr ⟨⟨(jJ P).2.length,p.2,p.2⟩,by simp only[lK,if_true],rfl,rfl⟩
  ·rw[h1,h2];exact .inr ⟨⟨s.KI,s.tI,p.2⟩,by simp only[lK,if_true],rfl,rfl⟩
 ·have c6:¬v=p.1:=fun e=>hv e.symm
  simp only[az hv];have key:∀x:dM,lk v x.1=lk v (jJ P).1->(lk v x.1=none∧(match cu v P with|some x=>some x|none=>none)=none∧cu v P.reverse=none)∨∃s,lk v x.1=some s∧(match cu v P with|some x=>some x|none=>none)=some s.tI∧cu v P.reverse=some s.tJ:=by
   intro x hx;rw[hx];rcases ih v with⟨h1,h2,h3⟩|⟨s,h1,h2,h3⟩
   ·rw[h2];exact .inl ⟨h1,rfl,h3⟩
   ·rw[h2];exact .inr ⟨s,h1,rfl,h3⟩
  refine key _ ?_;split
  ·simp only[lK,az c6]
  ·simp only[lK,az c6]
def vl:List (Int×Bool)->LP->LP
 |_,[]=>[]
 |kn,p::l=>if(lk p.1 kn).getD false=true then vl (up p.1 true kn) l else p::vl (up p.1 true kn) l
theorem abz:∀(P:LP) (st:dM) (kn:List (Int×Bool)),(∀v,(lk v st.1).isSome=(lk v kn).getD false)->(P.foldl (fun st p=>iR st p.1 p.2) st).2=st.2++(vl kn P).map (·.1)
 |[],st,kn,_=>by simp[vl]
 |p::P,st,kn,h=>by
  have hs:∀v,(lk v (iR st p.1 p.2).1).isSome=(lk v (up p.1 true kn)).getD false:=by
   intro v;rw[lK];unfold iR;by_cases hv:v=p.1
   ·subst hv;split<;>simp[lK]
   ·split<;>simp[lK,hv,h v]
  simp only[ik];rw[abz P _ _ hs,vl];have:=h p.1;unfold iR;cases hl:lk p.1 st.1 with
  |none=>rw[hl]at this;have:(lk p.1 kn).getD false=false:=this.symm;rw[az (by rw[this];simp)];simp
  |some s=>rw[hl]at this;have:(lk p.1 kn).getD false=true:=this.symm;rw[aN this]
theorem anR(P:LP):(jJ P).2=(vl [] P).map (·.1):=by have:=abz P ([],[]) [] (fun v=>rfl);simpa[jJ]using this
theorem abr:∀(P Q:LP) (kn:List (Int×Bool)),(∀v,(cu v Q).isSome=(lk v kn).getD false)->∀p∈vl kn P,cu p.1 (Q++P)=some p.2
 |[],Q,kn,_,p,hp=>by cases hp
 |q::P,Q,kn,h,p,hp=>by
  have hs:∀v,(cu v (Q++[q])).isSome=(lk v (up q.1 true kn)).getD false:=by
   intro v;rw[lK,M9];have:=h v;by_cases hv:v=q.1
   ·subst hv;cases cu q.1 Q<;>simp[cu]
   ·rw[az hv,←this];have MF:¬q.1=v:=fun e=>hv e.symm
    cases cu v Q<;>simp[cu,MF]
  have ih:=abr P (Q++[q]) (up q.1 true kn) hs;rw[iy]at ih;unfold vl at hp;split at hp
  ·exact ih p hp
  ·rename_i hk;rcases List.mem_cons.1 hp with rfl|hp
   ·rw[M9];have:=h p.1;cases hq:cu p.1 Q with
    |none=>simp[cu]
    |some x=>rw[hq]at this;exact absurd this.symm hk
   ·exact ih p hp
theorem aey(c:Int)(last:LP):∀(P:LP) (kn:List (Int×Bool)),mj c P (yQ last kn P)=((vl kn P).filter (fun p=>decide (p.2≠c∧(lk p.1 last).getD 0=c))).map (·.1)
 |[],kn=>rfl
 |p::P,kn=>by
  simp only[yQ,mj,vl];have ih:=aey c last P (up p.1 true kn);by_cases hk:(lk p.1 kn).getD false=true
  ·rw[aN (.inl hk),aN hk];exact ih
  ·rw[az hk,List.filter_cons];by_cases h2:p.2=c
   ·rw[aN (.inr (.inl h2)),az (by simp[h2])];exact ih
   ·by_cases h3:(lk p.1 last).getD 0=c
    ·rw[az (by simp[hk,h2,h3]),aN (by simp[h2,h3]),List.map_cons,ih]
    ·rw[aN (.inr (.inr h3)),az (by simp[h3])];exact ih
theorem amM(m:LP)(p:Int×Int):∀P:LP,qh m (P++[p])=up p.1 (if p.2>(lk p.1 (qh m P)).getD 0 then p.2 else(lk p.1 (qh m P)).getD 0) (qh m P):=by
 intro P;induction P generalizing m with
 |nil=>rfl
 |cons q P ih=>simp only[mQ,qh];exact ih _
theorem amL(v:Int)(hi:Int)(P:LP):nR 0 hi P->(lk v (qh [] P)).getD 0=(cu v P.reverse).getD 0:=by
 refine M6 (Q:=fun P=>nR 0 hi P->∀v,(lk v (qh [] P)).getD 0=(cu v P.reverse).getD 0) (fun _ _=>rfl) (fun P p ih h v=>?_) P|>fun h hP=>h hP v
 have Ig:=List.pairwise_append.1 h.1;have hP:nR 0 hi P:=⟨Ig.1,fun q hq=>h.2 q (List.mem_append_left _ hq)⟩;have ih:=ih hP;have Uk:=(h.2 p (by simp)).1;rw[amM,List.reverse_append,lK];have er:cu v ([p].reverse++P.reverse)=if p.1=v then some p.2 else cu v P.reverse:=rfl
 rw[er];by_cases hv:v=p.1
 ·subst hv;rw[aN rfl,aN rfl,ih p.1];have de:(cu p.1 P.reverse).getD 0<=p.2:=by
   cases hl:cu p.1 P.reverse with
   |none=>exact Uk
   |some x=>have:=M_ hl;exact Ig.2.2 _ (List.mem_reverse.1 this) p (by simp)
  simp only[Option.getD_some];split
  ·rfl
  ·omega
 ·rw[az hv,az (fun e=>hv e.symm)];exact ih v
def wK(key:Int->Int)(s:LI):Nat->LI
 |0=>[]
 |n+1=>s.filter (fun x=>key x=((n+1:Nat):Int))++wK key s n
theorem aaD{key:Int->Int}{s:LI}:∀(n:Nat),∀x∈wK key s n,key x<=(n:Int)
 |0,x,hx=>by cases hx
 |n+1,x,hx=>by
  rcases List.mem_append.1 hx with hx|hx
  ·have:=(List.mem_filter.1 hx).2;simp only[iK]at this;omega
  ·have:=aaD n x hx;omega
theorem RX{key:Int->Int}{s:LI}:∀(n:Nat),dI key (wK key s n)
 |0=>List.Pairwise.nil
 |n+1=>by
  refine List.pairwise_append.2 ⟨?_,RX n,fun x hx y hy=>?_⟩
  ·refine List.pairwise_of_forall_mem_list fun x hx y hy=>?_
   have h1:=(List.mem_filter.1 hx).2;have h2:=(List.mem_filter.1 hy).2;simp only[iK]at h1 h2;omega
  ·have h1:=(List.mem_filter.1 hx).2;have h2:=aaD n y hy;simp only[iK]at h1;omega
theorem aaC{key:Int->Int}{s:LI}(k:Int):∀(n:Nat),(wK key s n).filter (fun x=>key x=k)=if 1<=k∧k<=(n:Int)then s.filter (fun x=>key x=k)else[]
 |0=>by rw[az (by omega)];rfl
 |n+1=>by
  simp only[wK,List.filter_append,List.filter_filter];rw[aaC k n];by_cases hk:k=((n+1:Nat):Int)
  ·subst hk;rw[az (by omega),aN (by omega),gz];simp
  ·have e:(s.filter fun x=>decide (key x=k)&&decide (key x=((n+1:Nat):Int)))=[]:=by rw[List.filter_eq_nil_iff];intro x _ hx;simp only[cy,iK]at hx;exact hk (hx.1.symm.trans hx.2)
   rw[e,pS];by_cases h1:1<=k∧k<=(n:Int)
   ·rw[aN h1,aN (by omega)]
   ·rw[az h1,az (by omega)]
theorem ajb{key:Int->Int}{s:LI}{n:Nat}(h:∀x∈s,1<=key x∧key x<=(n:Int)):cC key s=wK key s n:=by
 refine tN.eq ⟨RX n,fun k=>?_⟩;rw[aaC];split
 ·rfl
 ·rename_i hk;symm;rw[List.filter_eq_nil_iff];intro x hx hkx;simp only[iK]at hkx;have:=h x hx;rw[hkx]at this;exact hk this
theorem aeB{key:Int->Int}{s:LI}{l:LP}{oe:List (Bool×Int)}:∀n:Nat,(∀c:Nat,c<n->mj ((c+1:Nat):Int) l oe=s.filter (fun x=>key x=((c+1:Nat):Int)))->lh l oe n=(wK key s n,(wK key s n).map key)
 |0,_=>rfl
 |n+1,h=>by simp only[lh,wK];rw[aeB n (fun c hc=>h c (by omega)),h n (by omega)];simp only[List.map_append];congr 2;symm;rw[List.eq_replicate_iff];refine⟨by simp,fun b hb=>?_⟩;obtain⟨x,hx,rfl⟩:=List.mem_map.1 hb;have:=(List.mem_filter.1 hx).2;simpa using this
theorem adq(sp:List (Int×dE))(c:Int):∀l:LI,dI (kS sp) l->xr sp c l=vg c (l.map (kS sp))
 |[],_=>rfl
 |v::l,h=>by
  obtain⟨h1,h2⟩:=List.pairwise_cons.1 h;simp only[xr,List.map_cons,vg];by_cases hv:kS sp v>c
  ·rw[aN hv,aN hv,adq sp c l h2];omega
  ·rw[az hv,az hv];have:∀l:LI,(∀x∈l,kS sp x<=kS sp v)->vg c (l.map (kS sp))=0:=by
    intro l;induction l with
    |nil=>intro _;rfl
    |cons x l ih=>intro hl;simp only[List.map_cons,vg];have:=hl x (eP ..);rw[az (by omega),ih (fun y hy=>hl y (eE _ hy))]
   rw[this l h1]
theorem ado(sp:List (Int×dE))(aC:LI)(h:dI (kS sp) aC):∀(gs:c7) (c:Nat),uw sp aC c gs=tj (aC.map (kS sp)) c gs
 |[],c=>rfl
 |g::gs,c=>by simp only[uw,tj];rw[ado sp aC h gs,adq sp _ aC h]
theorem G_(f:a9):gb f=dp f:=by
 have hm:=aeG f;obtain⟨P,hP⟩:∃P,P=fT f:=⟨_,rfl⟩;obtain⟨n,hn⟩:∃n,n=fe f.au:=⟨_,rfl⟩;rw[←hP,←hn]at hm;have xg:=aei P;have Fa:=anR P;have jF:=abr P [] [] (fun v=>rfl);simp only[pS]at jF;have Mj:∀p∈vl [] P,oY (jJ P).1 p.1=decide (p.2<kS (jJ P).1 p.1)∧kS (jJ P).1 p.1=(lk p.1 (qh [] P)).getD 0∧p.2<=kS (jJ P).1 p.1∧0<=p.2∧kS (jJ P).1 p.1<=(n:Int):=by
  intro p hp;have h1:=jF p hp;rcases xg p.1 with⟨_,h2,_⟩|⟨s,h2,h3,h4⟩
  ·rw[h2]at h1;cases h1
  ·rw[h1]at h3;have h3:p.2=s.tI:=dk h3;have ek:kS (jJ P).1 p.1=s.tJ:=by unfold kS;rw[h2];rfl
   have el:=amL p.1 n P hm;rw[h4]at el;have m1:=M_ h1;have m2:=List.mem_reverse.1 (M_ h4);have b1:=hm.2 _ m1;have b2:=hm.2 _ m2;refine⟨?_,by rw[ek,el];rfl,?_,b1.1,by rw[ek];exact b2.2⟩
   ·unfold oY Iy;rw[h2,ek,h3];rfl
   ·rw[ek];have:∀(Q:LP) (v a b:Int),Q.Pairwise (fun a b=>a.2<=b.2)->cu v Q=some a->(v,b)∈Q->a<=b:=by
     intro Q v a b;induction Q with
     |nil=>intro _ h _;cases h
     |cons q Q ih=>
      intro hq h1 h2;obtain⟨q1,q2⟩:=List.pairwise_cons.1 hq;unfold cu at h1;split at h1
      ·cases h1;rcases List.mem_cons.1 h2 with rfl|h2
       ·exact fM _
       ·exact q1 _ h2
      ·rename_i c6;rcases List.mem_cons.1 h2 with rfl|h2
       ·exact absurd rfl c6
       ·exact ih q2 h1 h2
    exact this P p.1 p.2 s.tJ hm.1 h1 m2
 have hc:∀c:Nat,c<n->mj ((c+1:Nat):Int) P (yQ (qh [] P) [] P)=(((jJ P).2).filter (oY (jJ P).1)).filter (fun x=>kS (jJ P).1 x=((c+1:Nat):Int)):=by
  intro c _;rw[aey,Fa,List.filter_filter,List.filter_map];congr 1;refine List.filter_congr fun p hp=>?_
  obtain⟨k1,k2,k3,k4,k5⟩:=Mj p hp;simp only[Function.comp_apply,k1];rw[←k2,←Bool.decide_and];apply decide_eq_decide.2;constructor
  ·rintro⟨q1,q2⟩;exact⟨q2,by omega⟩
  ·rintro⟨q1,q2⟩;exact⟨by omega,q1⟩
 have hr:=aeB (key:=kS (jJ P).1) (s:=((jJ P).2).filter (oY (jJ P).1)) n hc;have gM:fo f=wK (kS (jJ P).1) (((jJ P).2).filter (oY (jJ P).1)) n:=by
  rw[fo,IF,←hP];refine ajb fun x hx=>?_
  obtain⟨h1,h2⟩:=List.mem_filter.1 hx;rw[Fa]at h1;obtain⟨p,hp,rfl⟩:=List.mem_map.1 h1;obtain⟨k1,k2,k3,k4,k5⟩:=Mj p hp;rw[k1]at h2;have h2:=dW h2;omega
 have qX:IU f=(fo f,(fo f).map (kS (gN f).1)):=by rw[IU,Cw,←hP,←hn,hr,←gM,IF,←hP]
 rw[gb,dp,qX];congr 1;symm;refine ado _ _ ?_ _ _;rw[IF,←hP,gM];exact RX n
def Ke(l:LI)(n:Nat):Prop:=∀i,0<i->i<n->l.getD ((i-1)/ 2) 0<=l.getD i 0
theorem alV{l:LI}{n:Nat}(h:Ke l n):∀i,i<n->l.getD 0 0<=l.getD i 0:=by
 intro i;induction i using Nat.strongRecOn with
 |_ i ih=>
  intro hi;by_cases h0:i=0
  ·subst h0;exact fM _
  ·have h1:=h i (by omega) hi;have h2:=ih ((i-1)/ 2) (by omega) (by omega);omega
theorem Xr{l:LI}{i j:Nat}(hi:i<l.length)(hj:j<l.length)(k:Nat):(jz l i j).getD k 0=if k=j then l.getD i 0 else if k=i then l.getD j 0 else l.getD k 0:=by
 unfold jz;simp only[List.getD_eq_getElem?_getD,List.getElem?_set,List.length_set];by_cases T2:k=j
 ·subst T2;simp[hj]
 ·rw[az (fun e=>T2 e.symm),az T2];by_cases xb:k=i
  ·subst xb;simp[hi]
  ·rw[az (fun e=>xb e.symm),az xb]
theorem Ol{l:LI}{i j:Nat}(hi:i<l.length)(hj:j<l.length):(jz l i j).Perm l:=by
 unfold jz;have e1:l.getD j 0=l[j]:=by simp[List.getD,hj]
 have e2:l.getD i 0=l[i]:=by simp[List.getD,hi]
 rw[e1,e2];exact List.set_set_perm hi hj
theorem agO:∀(f:Nat) (l:LI) (j:Nat),j<l.length->j<f->(∀i,0<i->i<l.length->i≠j->l.getD ((i-1)/ 2) 0<=l.getD i 0)->(0<j->∀i,0<i->i<l.length->(i-1)/ 2=j->l.getD ((j-1)/ 2) 0<=l.getD i 0)->
 Ke (tD f l j) l.length∧(tD f l j).Perm l
 |0,l,j,_,hf,_,_=>by omega
 |f+1,l,j,hj,hf,h1,h2=>by
  unfold tD;split
  ·rename_i hc;refine⟨fun i vC hi=>?_,List.Perm.refl _⟩;by_cases o7:i=j
   ·subst o7;rcases hc with hc|hc
    ·omega
    ·omega
   ·exact h1 i vC hi o7
  ·rename_i hc;have Ic:(j-1)/ 2≠j:=fun e=>hc (.inl e)
   have an:l.getD j 0<l.getD ((j-1)/ 2) 0:=by apply ml;intro e;exact hc (.inr e)
   obtain⟨p,hp⟩:∃p,p=(j-1)/ 2:=⟨_,rfl⟩;rw[←hp]at Ic an⊢;have jG:p<j:=by omega
   have hg:=Xr (l:=l) (i:=p) (j:=j) (by omega) hj;have bH:(jz l p j).length=l.length:=pq _ _ _;have ih:=agO f (jz l p j) p (by omega) (by omega) (fun i vC hi H6=>?_) (fun Uk i vC hi Ib=>?_)
   ·rw[bH]at ih;exact⟨ih.1,ih.2.trans (Ol (by omega) hj)⟩
   ·rw[bH]at hi;rw[hg,hg];by_cases o7:i=j
    ·subst o7;rw[aN rfl,←hp,az (by omega),aN rfl];omega
    ·rw[az o7,az H6];by_cases Uq:(i-1)/ 2=j
     ·rw[aN Uq,hp];exact h2 (by omega) i vC hi Uq
     ·rw[az Uq];have:=h1 i vC hi o7;by_cases Ur:(i-1)/ 2=p
      ·rw[aN Ur];rw[Ur]at this;omega
      ·rw[az Ur];exact this
   ·rw[bH]at hi;rw[hg,hg];have q1:=h1 p Uk (by omega) (by omega);rw[az (show¬(p-1)/ 2=j by omega),az (show¬(p-1)/ 2=p by omega)];by_cases o7:i=j
    ·rw[aN o7];exact q1
    ·rw[az o7,az (show¬i=p by omega)];have q2:=h1 i vC hi o7;rw[Ib]at q2;omega
theorem aaE:∀(f:Nat) (l:LI) (i n:Nat),n<=l.length->n<=f+i->i<l.length->(∀m,0<m->m<n->(m-1)/ 2≠i->l.getD ((m-1)/ 2) 0<=l.getD m 0)->(0<i->∀m,0<m->m<n->(m-1)/ 2=i->l.getD ((i-1)/ 2) 0<=l.getD m 0)->
 Ke (o0 f l i n).1 n∧(o0 f l i n).1.Perm l∧∀k,n<=k->i<n->(o0 f l i n).1.getD k 0=l.getD k 0
 |0,l,i,n,hn,hf,hi,h1,h2=>by refine⟨fun m vJ hm=>h1 m vJ hm (by omega),List.Perm.refl _,fun k _ _=>rfl⟩
 |f+1,l,i,n,hn,hf,hi,h1,h2=>by
  unfold o0;split
  ·rename_i hc;exact⟨fun m vJ hm=>h1 m vJ hm (by omega),List.Perm.refl _,fun k _ _=>rfl⟩
  ·rename_i hc;obtain⟨j,hj⟩:∃j,j=if 2*i+2<n∧l.getD (2*i+2) 0<l.getD (2*i+1) 0 then 2*i+2 else 2*i+1:=⟨_,rfl⟩
   have hjn:j<n∧(j=2*i+1∨j=2*i+2)∧∀m,m<n->(m=2*i+1∨m=2*i+2)->l.getD j 0<=l.getD m 0:=by
    rw[hj];split
    ·rename_i hh;exact⟨hh.1,.inr rfl,fun m hm Ub=>by rcases Ub with rfl|rfl<;>omega⟩
    ·rename_i hh;refine⟨by omega,.inl rfl,fun m hm Ub=>?_⟩;rcases Ub with rfl|rfl
     ·exact fM _
     ·have:¬l.getD (2*i+2) 0<l.getD (2*i+1) 0:=fun e=>hh ⟨hm,e⟩
      omega
   simp only[←hj];obtain⟨j1,j2,j3⟩:=hjn;have Ic:(j-1)/ 2=i:=by omega
   split
   ·rename_i a8;refine⟨fun m vJ hm=>?_,List.Perm.refl _,fun k _ _=>rfl⟩;by_cases H7:(m-1)/ 2=i
    ·have:=j3 m hm (by omega);have a8:¬l.getD j 0<l.getD i 0:=a8;show l.getD ((m-1)/ 2) 0<=l.getD m 0;rw[H7];omega
    ·exact h1 m vJ hm H7
   ·rename_i an;have an:l.getD j 0<l.getD i 0:=by apply ml;exact an
    have hg:=Xr (l:=l) (i:=i) (j:=j) hi (by omega);have bH:(jz l i j).length=l.length:=pq _ _ _;have ih:=aaE f (jz l i j) j n (by omega) (by omega) (by omega) (fun m vJ hm Ua=>?_) (fun hj0 m vJ hm Ua=>?_)
    ·refine⟨ih.1,ih.2.1.trans (Ol hi (by omega)),fun k hk oA=>?_⟩;rw[ih.2.2 k hk j1,hg,az (by omega),az (by omega)]
    ·rw[hg,hg];rw[az Ua];by_cases acu:m=j
     ·subst acu;rw[aN rfl,Ic,aN rfl];omega
     ·rw[az acu];by_cases Ib:(m-1)/ 2=i
      ·rw[aN Ib,az (show¬m=i by omega)];exact j3 m hm (by omega)
      ·rw[az Ib];by_cases H7:m=i
       ·subst H7;rw[aN rfl];exact h2 (by omega) j (by omega) j1 Ic
       ·rw[az H7];exact h1 m vJ hm Ib
    ·rw[hg,hg,Ic,az (show¬i=j by omega),aN rfl,az (show¬m=j by omega),az (show¬m=i by omega)];have:=h1 m vJ hm (by omega);rw[Ua]at this;exact this
def zh(l:LI):Prop:=Ke l l.length
theorem aoE{l:LI}(x:Int)(h:zh l):zh (tw l x)∧(tw l x).Perm (l++[x]):=by
 unfold tw;have hg:∀k,k<l.length->(l++[x]).getD k 0=l.getD k 0:=fun k hk=>by simp[List.getD,List.getElem?_append_left hk]
 have:=agO (l.length+1) (l++[x]) l.length (by simp) (by omega) (fun i vC hi c6=>?_) (fun _ i vC hi hp=>?_)
 ·refine⟨?_,this.2⟩;unfold zh;rw[XH];exact this.1
 ·simp only[bj,bR,cI]at hi;rw[hg _ (by omega),hg _ (by omega)];exact h i vC (by omega)
 ·simp only[bj,bR,cI]at hi;omega
theorem aoz{l:LI}(h:zh l)(hl:0<l.length):zh ((mP l).take (l.length-1))∧l.Perm ((mP l).take (l.length-1)++[(mP l).getD (l.length-1) 0])∧∀y∈l,(mP l).getD (l.length-1) 0<=y:=by
 unfold mP;have hg:=Xr (l:=l) (i:=0) (j:=l.length-1) hl (by omega);have bH:(jz l 0 (l.length-1)).length=l.length:=pq _ _ _;have hd:=aaE l.length (jz l 0 (l.length-1)) 0 (l.length-1) (by omega) (by omega) (by omega) (fun m vJ hm hp=>by rw[hg,hg,az (by omega),az (by omega),az (by omega),az (by omega)];exact h m vJ (by omega)) (fun h0=>by omega);obtain⟨D,hD⟩:∃D,D=(o0 l.length (jz l 0 (l.length-1)) 0 (l.length-1)).1:=⟨_,rfl⟩;rw[←hD]at hd⊢;have hDl:D.length=l.length:=by rw[hd.2.1.length_eq,bH]
 have al8:D.getD (l.length-1) 0=l.getD 0 0:=by
  by_cases h1:0<l.length-1
  ·rw[hd.2.2 (l.length-1) (eh _) h1,hg,aN rfl]
  ·have e:l.length=1:=by omega
   have p:=hd.2.1.trans (Ol hl (show l.length-1<l.length by omega));obtain⟨a,rfl⟩:=List.length_eq_one_iff.1 e;have:=List.perm_singleton.1 p;rw[this];rfl
 have xg:D=D.take (l.length-1)++[D.getD (l.length-1) 0]:=by have:=adb (l:=D) (by omega);rw[hDl]at this;exact this
 have qb:D.Perm l:=hd.2.1.trans (Ol hl (by omega));refine⟨?_,?_,?_⟩
 ·unfold zh;have ht:(D.take (l.length-1)).length=l.length-1:=by simp;omega
  rw[ht];intro i vC hi;have e:∀k,k<l.length-1->(D.take (l.length-1)).getD k 0=D.getD k 0:=fun k hk=>by simp[List.getD,List.getElem?_take,hk]
  rw[e _ (by omega),e _ hi];exact hd.1 i vC hi
 ·rw[←xg];exact qb.symm
 ·intro y hy;rw[al8];obtain⟨i,hi,rfl⟩:=List.getElem_of_mem hy;have:=alV h i hi;have e:l.getD i 0=l[i]:=by simp[List.getD,hi]
  omega
theorem afe{i:ba}(h:ca i=true):cf i=(iW i.op).1.2.2.2.1.foldl (mS i) []:=by rw[cf,gO,aN h]
theorem ag9{i:ba}(h:ca i=true):b8 i=(iW i.op).1.2.2.2.2.foldl (mS i) []:=by rw[b8,gO,aN h]
theorem amv(n:Int):(jm n).Nodup:=by unfold jm;refine List.Pairwise.map _ (fun a b BL=>?_) List.nodup_range;intro e;exact BL (by omega)
theorem abI{i:ba}{fs:LN}(h:p7 fs):(fs.foldl (mS i) []).Nodup:=by
 rcases h with rfl|rfl|rfl|rfl|rfl
 ·simp
 ·simp[mS]
 ·simp[mS]
 ·simp only[ik,List.foldl_nil,mS];by_cases e:i.a=i.r
  ·simp[e]
  ·have e':¬i.r=i.a:=fun h=>e h.symm
   simp[e,e']
 ·simp only[ik,List.foldl_nil,mS];simpa using amv i.ar
theorem ao7(i:ba):(cf i).Nodup:=by
 rw[cf,gO];split
 ·exact abI (wb i.op).1
 ·exact List.Pairwise.nil
theorem awd(i:ba):(b8 i).Nodup:=by
 rw[b8,gO];split
 ·exact abI (wb i.op).2
 ·exact List.Pairwise.nil
theorem akl{i:ba}(h:ca i=true):(i.r=0∨i.r∈cf i++b8 i)∧(i.a=0∨i.a∈cf i++b8 i):=by
 have key:∀k:Nat,k<=25->i.op=(k:Int)->(i.r=0∨i.r∈cf i++b8 i)∧(i.a=0∨i.a∈cf i++b8 i):=by
  intro k hk kY;rw[afe h,ag9 h];obtain⟨op,r,a,n,s,ar⟩:=i;simp only at kY;subst kY;match k,hk with
  |0,_=>simp[ca]at h
  |1,_|2,_|3,_|4,_|5,_|6,_|7,_|8,_|9,_|10,_|11,_|12,_|13,_|14,_|15,_|16,_|17,_|18,_|19,_|20,_|21,_|22,_|23,_|24,_|25,_=>simp[ca]at*;simp[iW,nJ,Av,oc,mS];try (first|(constructor<;>(first|(left;omega)|(right;split<;>simp_all)|simp_all))|omega|simp_all)
  |(k+26),hk=>exact absurd hk (by omega)
 have kY:0<=i.op∧i.op<=25:=by
  apply ml;intro hn;have:ca i=false:=by unfold ca;repeat (first|rw[az (by omega)])
  rw[this]at h;cases h
 exact key i.op.toNat (by omega) (by omega)
def Oc(i:ba)(x:Int):Prop:=x∈cf i++b8 i
instance(i:ba)(x:Int):Decidable (Oc i x):=by unfold Oc;infer_instance
theorem M'(x:Int)(k:Int):∀(l:LI) (m:LP),lk x (l.foldl (fun m r=>up r k m) m)=if x∈l then some k else lk x m
 |[],m=>by simp
 |r::l,m=>by
  simp only[ik,M' x k l,lK,ss];by_cases h1:x∈l
  ·simp[h1]
  ·by_cases h2:x=r
   ·simp[h2]
   ·simp[h1,h2]
theorem adt(base:Int)(x:Int)(k:Int):∀(l:LI) (m:LP),lk x (l.foldl (xp base k) m)=if x∈l∧x>base then some k else lk x m
 |[],m=>by simp
 |r::l,m=>by
  simp only[ik,adt base x k l,ss];unfold xp;by_cases h1:x∈l∧x>base
  ·rw[aN h1,aN ⟨.inr h1.1,h1.2⟩]
  ·rw[az h1];by_cases h2:x=r
   ·subst h2;by_cases h3:x>base
    ·rw[aN h3,aN ⟨.inl rfl,h3⟩,lK,aN rfl]
    ·rw[az h3,az (fun e=>h3 e.2)]
   ·have e3:¬((x=r∨x∈l)∧x>base):=by
     rintro⟨e1|e1,e2⟩
     ·exact h2 e1
     ·exact h1 ⟨e1,e2⟩
    rw[az e3];split
    ·rw[lK,az h2]
    ·rfl
theorem ade{base x:Int}(hx:x>base):∀(l:bS) (k:Nat) (m m':LP),lk x m=lk x m'->lk x (vQ base k m l)=lk x (fS k m' l)
 |[],k,m,m',h=>h
 |i::l,k,m,m',h=>by
  simp only[vQ,fS];refine ade hx l (k+1) _ _ ?_;rw[adt,M',h];by_cases e:x∈cf i++b8 i
  ·rw[aN ⟨e,hx⟩,aN e]
  ·rw[az (fun q=>e q.1),az e]
theorem Vr(x:Int):∀(l:bS) (k:Nat) (m:LP),(∀i∈l,¬Oc i x)->lk x (fS k m l)=lk x m
 |[],k,m,_=>rfl
 |i::l,k,m,h=>by simp only[fS];rw[Vr x l (k+1) _ (fun j hj=>h j (eE _ hj)),M',az (show¬x∈cf i++b8 i from h i (eP ..))]
theorem M4(x:Int):∀(l:bS) (k:Nat) (m:LP),(∃i∈l,Oc i x)->∃j:Nat,k<=j∧j<k+l.length∧lk x (fS k m l)=some (j:Int)
 |[],k,m,h=>by obtain⟨i,hi,_⟩:=h;cases hi
 |i::l,k,m,h=>by
  simp only[fS,bR];by_cases h2:∃i∈l,Oc i x
  ·obtain⟨j,h3,h4,h5⟩:=M4 x l (k+1) ((cf i++b8 i).foldl (fun m r=>up r (k:Int) m) m) h2;exact⟨j,by omega,by omega,h5⟩
  ·have iH:∀j∈l,¬Oc j x:=fun j hj ho=>h2 ⟨j,hj,ho⟩
   obtain⟨j,hj,ho⟩:=h;rcases List.mem_cons.1 hj with rfl|hj
   ·refine⟨k,eh _,by omega,?_⟩;have ho:x∈cf j++b8 j:=ho;rw[Vr x l _ _ iH,M',aN ho]
   ·exact absurd ho (iH j hj)
theorem Vq:∀(p l:bS) (k:Nat) (m:LP),fS k m (p++l)=fS (k+p.length) (fS k m p) l
 |[],l,k,m=>rfl
 |i::p,l,k,m=>by simp only[mQ,fS,bR];rw[Vq p l (k+1)];congr 1;omega
theorem amO{p l:bS}{i:ba}{x:Int}(ho:Oc i x):(p.length:Int)<=fK x (fS 0 [] (p++i::l)):=by obtain⟨j,h1,h2,h3⟩:=M4 x (i::l) (0+p.length) (fS 0 [] p) ⟨i,eP ..,ho⟩;rw[fK,Vq,h3];simp only[Option.getD_some];omega
theorem amN{p l:bS}{i:ba}{x:Int}(hp:∃j∈p,Oc j x)(he:fK x (fS 0 [] (p++i::l))=(p.length:Int)):Oc i x:=by
 apply ml;intro hn;rw[fK,Vq]at he;by_cases h2:∃j∈i::l,Oc j x
 ·obtain⟨j,hj,ho⟩:=h2;rcases List.mem_cons.1 hj with rfl|hj
  ·exact hn ho
  ·have e:fS (0+p.length) (fS 0 [] p) (i::l)=fS (0+p.length+1) ((cf i++b8 i).foldl (fun m r=>up r ((0+p.length:Nat):Int) m) (fS 0 [] p)) l:=rfl;obtain⟨q,h1,h3,h4⟩:=M4 x l (0+p.length+1) ((cf i++b8 i).foldl (fun m r=>up r ((0+p.length:Nat):Int) m) (fS 0 [] p)) ⟨j,hj,ho⟩;rw[e,h4]at he;simp only[Option.getD_some]at he;omega
 ·rw[Vr x _ _ _ (fun j hj ho=>h2 ⟨j,hj,ho⟩)]at he;obtain⟨q,h1,h3,h4⟩:=M4 x p 0 [] hp;rw[h4]at he;simp only[Option.getD_some]at he;omega
def pv:List Tm->Int->Option Int
 |[],_=>none
 |t::l,x=>if t.x=x then some t.cA else pv l x
theorem ad9(x:Int):∀ts:List Tm,vW ts x=(pv ts x).getD x
 |[]=>rfl
 |t::l=>by
  unfold vW pv;split
  ·rfl
  ·exact ad9 x l
theorem XE(x:Int)(us:List Tm):∀ts:List Tm,pv (ts++us) x=match pv ts x with|some n=>some n|none=>pv us x
 |[]=>rfl
 |t::l=>by
  simp only[mQ,pv];split
  ·rfl
  ·exact XE x us l
theorem OQ{x:Int}:∀{ts:List Tm},(∀t∈ts,t.x≠x)->pv ts x=none
 |[],_=>rfl
 |t::l,h=>by unfold pv;rw[az (h t (eP ..))];exact OQ (fun u hu=>h u (eE _ hu))
theorem OS{x:Int}:∀{ts:List Tm},(∃t∈ts,t.x=x)->∃u∈ts,u.x=x∧pv ts x=some u.cA
 |[],h=>by obtain⟨t,ht,_⟩:=h;cases ht
 |t::l,h=>by
  unfold pv;by_cases e:t.x=x
  ·exact⟨t,eP ..,e,by rw[aN e]⟩
  ·obtain⟨u,hu,hx⟩:=h;rcases List.mem_cons.1 hu with rfl|hu
   ·exact absurd hx e
   ·obtain⟨v,h1,h2,h3⟩:=OS ⟨u,hu,hx⟩;exact⟨v,eE _ h1,h2,by rw[az e];exact h3⟩
structure xY(base:Int)(cw:LI)(next:Int)(ts:List Tm)(al:Tm->Prop):Prop where
 heap:zh cw
 nd:cw.Nodup
 tl:∀y,y∈cw↔base<y∧y<next∧∀u∈ts,al u->u.cA≠y
 inj:∀u∈ts,∀v∈ts,al u->al v->u.cA=v.cA->u.x=v.x
 FT:∀u∈ts,al u->base<u.cA∧u.cA<next
theorem xY.congr{base next:Int}{cw:LI}{ts:List Tm}{al Bb:Tm->Prop}(h:xY base cw next ts al)(he:∀u∈ts,al u↔Bb u):xY base cw next ts Bb:=by
 refine⟨h.heap,h.nd,fun y=>?_,fun u hu v hv a1 a2=>h.inj u hu v hv ((he u hu).2 a1) ((he v hv).2 a2),fun u hu a=>h.FT u hu ((he u hu).2 a)⟩;rw[h.tl y];constructor
 ·rintro⟨h1,h2,h3⟩;exact⟨h1,h2,fun u hu a=>h3 u hu ((he u hu).2 a)⟩
 ·rintro⟨h1,h2,h3⟩;exact⟨h1,h2,fun u hu a=>h3 u hu ((he u hu).1 a)⟩
theorem xY.oM{base next:Int}{cw:LI}{ts:List Tm}{al:Tm->Prop}(h:xY base cw next ts al)(uq:∀u∈ts,∀v∈ts,u.x=v.x->u=v){u:Tm}(hu:u∈ts)(ha:al u):
 xY base (tw cw u.cA) next ts (fun v=>al v∧v.x≠u.x):=by
 obtain⟨p1,p2⟩:=aoE u.cA h.heap;have iH:u.cA∉cw:=fun hm=>((h.tl _).1 hm).2.2 u hu ha rfl
 refine⟨p1,?_,fun y=>?_,fun a h1 c h2 a1 a2=>h.inj a h1 c h2 a1.1 a2.1,fun a h1 a1=>h.FT a h1 a1.1⟩
 ·rw[p2.nodup_iff];rw[List.nodup_append];refine⟨h.nd,by simp,fun a HP c hc=>?_⟩;simp only[ko]at hc;subst hc;rintro rfl;exact iH HP
 ·rw[p2.mem_iff,List.mem_append,ko,h.tl];constructor
  ·rintro(⟨h1,h2,h3⟩|rfl)
   ·exact⟨h1,h2,fun v hv a=>h3 v hv a.1⟩
   ·obtain⟨h1,h2⟩:=h.FT u hu ha;exact⟨h1,h2,fun v hv a e=>a.2 (h.inj v hv u hu a.1 ha e)⟩
  ·rintro⟨h1,h2,h3⟩;by_cases hy:y=u.cA
   ·exact .inr hy
   ·refine .inl ⟨h1,h2,fun v hv a e=>?_⟩;by_cases hx:v.x=u.x
    ·have:=uq v hv u hu hx;subst this;exact hy e.symm
    ·exact h3 v hv ⟨a,hx⟩ e
structure AI(base:Int)(last:LP)(s:Al)(ts:List Tm)(al:Tm->Prop):Prop where
 fp:xY base s.cw s.im ts al
 map:∀x,lk x s.cA=pv ts x
 uq:∀u∈ts,∀v∈ts,u.x=v.x->u=v
 xs:∀u∈ts,base<u.x
 mM:∀u∈ts,u.mM=fK u.x last
 nx:base+1<=s.im∧s.im<=base+1+ts.length
 rn:∀u∈ts,base+1<=u.cA∧u.cA<=base+ts.length
theorem AI.Gg{base:Int}{last:LP}{s:Al}{ts:List Tm}{al Bb:Tm->Prop}(h:AI base last s ts al)(he:∀u∈ts,al u↔Bb u):AI base last s ts Bb:=
 ⟨h.fp.congr he,h.map,h.uq,h.xs,h.mM,h.nx,h.rn⟩
theorem AI.oM{base:Int}{last:LP}{s:Al}{ts:List Tm}{al:Tm->Prop}(h:AI base last s ts al){u:Tm}(hu:u∈ts)(ha:al u):AI base last (s.oM u.x) ts (fun v=>al v∧v.x≠u.x):=by
 obtain⟨v,hv,hx,hf⟩:=OS ⟨u,hu,rfl⟩;have:=h.uq v hv u hu hx;subst this;have e:fK v.x s.cA=v.cA:=by rw[fK,h.map,hf];rfl
 refine⟨?_,h.map,h.uq,h.xs,h.mM,h.nx,h.rn⟩;show xY base (tw s.cw (fK v.x s.cA)) s.im ts _;rw[e];exact h.fp.oM h.uq hu ha
theorem AI.FP{base:Int}{last:LP}{k:Int}{ws:LI}{ts:List Tm}:∀(rs:LI) (s:Al) (al:Tm->Prop),rs.Nodup->AI base last s ts al->(∀r∈rs,r>base->fK r last=k->r∉ws->∃u∈ts,u.x=r∧al u)->
 AI base last (rs.foldl (Al.jg base last k ws) s) ts (fun v=>al v∧¬(v.x∈rs∧fK v.x last=k∧v.x∉ws))∧(rs.foldl (Al.jg base last k ws) s).aU=s.aU∧(rs.foldl (Al.jg base last k ws) s).cA=s.cA
 |[],s,al,_,h,_=>⟨h.Gg (fun u hu=>by simp),rfl,rfl⟩
 |r::rs,s,al,mb,h,hk=>by
  obtain⟨n1,n2⟩:=List.nodup_cons.1 mb;simp only[ik];by_cases hc:r>base∧fK r last=k∧r∉ws
  ·have e:Al.jg base last k ws s r=s.oM r:=aN hc;rw[e];obtain⟨u,hu,hx,ha⟩:=hk r (eP ..) hc.1 hc.2.1 hc.2.2;have h1:=h.oM hu ha;rw[hx]at h1;have ih:=AI.FP rs (s.oM r) (fun v=>al v∧v.x≠r) n2 h1 (fun r' r_ g1 g2 g3=>by obtain⟨v,hv,Il,sa⟩:=hk r' (eE _ r_) g1 g2 g3;exact⟨v,hv,Il,sa,by rw[Il];rintro rfl;exact n1 r_⟩);refine⟨ih.1.Gg fun v hv=>?_,ih.2.1,ih.2.2⟩;constructor
   ·rintro⟨⟨a1,a2⟩,a3⟩;refine⟨a1,fun hh=>?_⟩;rcases List.mem_cons.1 hh.1 with e1|e1
    ·exact a2 e1
    ·exact a3 ⟨e1,hh.2⟩
   ·rintro⟨a1,a2⟩;refine⟨⟨a1,fun e1=>a2 ⟨by rw[e1];exact eP ..,by rw[e1];exact hc.2⟩⟩,fun hh=>a2 ⟨eE _ hh.1,hh.2⟩⟩
  ·have e:Al.jg base last k ws s r=s:=az hc;rw[e];have ih:=AI.FP rs s al n2 h (fun r' r_ g1 g2 g3=>hk r' (eE _ r_) g1 g2 g3);refine⟨ih.1.Gg fun v hv=>?_,ih.2.1,ih.2.2⟩;constructor
   ·rintro⟨a1,a2⟩;refine⟨a1,fun hh=>?_⟩;rcases List.mem_cons.1 hh.1 with e1|e1
    ·exact hc (by rw[←e1];exact⟨h.xs v hv,hh.2⟩)
    ·exact a2 ⟨e1,hh.2⟩
   ·rintro⟨a1,a2⟩;exact⟨a1,fun hh=>a2 ⟨eE _ hh.1,hh.2⟩⟩
theorem akm(base:Int)(last:LP)(k:Int)(s:Al)(r:Int):Al.aw base last k s r=Al.jg base last k [] s r:=by
 unfold Al.aw Al.jg;by_cases h:r>base∧fK r last=k
 ·rw[aN h,aN ⟨h.1,h.2,by simp⟩]
 ·rw[az h,az (fun e=>h ⟨e.1,e.2.1⟩)]
theorem agG(base k:Int)(ws:LI)(n:Nat):∀(ts:List Tm) (tk:List Bool),((ts.foldl (uO base k ws) tk).getD n false=true↔tk.getD n false=true∨(n<tk.length∧∃u∈ts,mu u k ws=true∧(u.cA-base).toNat=n))
 |[],tk=>by simp
 |t::ts,tk=>by
  simp only[ik];rw[agG base k ws n ts];unfold uO;by_cases hu:mu t k ws=true
  ·rw[aN hu];simp only[List.length_set];by_cases hn:(t.cA-base).toNat=n
   ·subst hn;by_cases hl:(t.cA-base).toNat<tk.length
    ·have e:(tk.set (t.cA-base).toNat true).getD (t.cA-base).toNat false=true:=by simp[List.getD,hl]
     constructor
     ·intro _;exact .inr ⟨hl,t,eP ..,hu,rfl⟩
     ·intro _;exact .inl e
    ·have e1:(tk.set (t.cA-base).toNat true).getD (t.cA-base).toNat false=false:=by simp[List.getD,hl]
     have e2:tk.getD (t.cA-base).toNat false=false:=by simp[List.getD,hl]
     rw[e1,e2];constructor
     ·rintro(h|⟨h,_⟩)
      ·cases h
      ·exact absurd h hl
     ·rintro(h|⟨h,_⟩)
      ·cases h
      ·exact absurd h hl
   ·have e:(tk.set (t.cA-base).toNat true).getD n false=tk.getD n false:=by simp only[List.getD_eq_getElem?_getD,List.getElem?_set_ne hn]
    rw[e];constructor
    ·rintro(h|⟨h1,u,h2,h3⟩)
     ·exact .inl h
     ·exact .inr ⟨h1,u,eE _ h2,h3⟩
    ·rintro(h|⟨h1,u,h2,h3,h4⟩)
     ·exact .inl h
     ·rcases List.mem_cons.1 h2 with rfl|h2
      ·exact absurd h4 hn
      ·exact .inr ⟨h1,u,h2,h3,h4⟩
  ·rw[az hu];constructor
   ·rintro(h|⟨h1,u,h2,h3⟩)
    ·exact .inl h
    ·exact .inr ⟨h1,u,eE _ h2,h3⟩
   ·rintro(h|⟨h1,u,h2,h3,h4⟩)
    ·exact .inl h
    ·rcases List.mem_cons.1 h2 with rfl|h2
     ·exact absurd h3 hu
     ·exact .inr ⟨h1,u,h2,h3,h4⟩
theorem agH(base k:Int)(ws:LI)(ts:List Tm)(n:Nat):(nK base k ws ts).getD n false=true↔(n<ts.length+2∧∃u∈ts,mu u k ws=true∧(u.cA-base).toNat=n):=by
 unfold nK;rw[agG];have e:(List.replicate (ts.length+2) false).getD n false=false:=by simp only[List.getD_eq_getElem?_getD,List.getElem?_replicate];split<;>rfl
 rw[e,List.length_replicate];simp
theorem abp(tk:List Bool)(m:Nat):∀(f n:Nat),n<=m->m<=n+f->(∀j,n<=j->j<m->tk.getD j false=true)->tk.getD m false=false->pJ tk f n=m
 |0,n,h1,h2,_,_=>by
  have:n=m:=by omega
  subst this;rfl
 |f+1,n,h1,h2,h3,h4=>by
  unfold pJ;by_cases hn:n=m
  ·subst hn;rw[h4];rfl
  ·rw[aN (h3 n (eh _) (by omega))];exact abp tk m f (n+1) (by omega) (by omega) (fun j hj=>h3 j (by omega)) h4
theorem ako{base k:Int}{ws:LI}{cw:LI}{next y:Int}{ts:List Tm}(h:xY base cw next ts (fun v=>mu v k ws=true))(hn:next<=base+1+ts.length)
 (h1:base<y) (h2:y<=next) (h3:∀z,base<z->z<y->z∉cw) (h4:∀u∈ts,mu u k ws=true->u.cA≠y):
 base+(pJ (nK base k ws ts) (ts.length+1) 1:Nat)=y:=by
 have:pJ (nK base k ws ts) (ts.length+1) 1=(y-base).toNat:=by
  refine abp _ _ _ _ (by omega) (by omega) (fun j s8 Mf=>?_) ?_
  ·have hz:=h3 (base+j) (by omega) (by omega);rw[h.tl]at hz;rw[agH];refine⟨by omega,?_⟩;apply ml;intro iH;refine hz ⟨by omega,by omega,fun u hu ha e=>iH ⟨u,hu,ha,by omega⟩⟩
  ·apply ml;intro hh;have hh:(nK base k ws ts).getD (y-base).toNat false=true:=by simpa using hh
   rw[agH]at hh;obtain⟨_,u,hu,ha,e⟩:=hh;have:=(h.FT u hu ha).1;exact h4 u hu ha (by omega)
 rw[this];omega
def zi(fC:List (Int×Bool))(ts:List Tm):Prop:=∀x,dh fC x=true↔∃u∈ts,u.x=x
theorem ac6(fC:List (Int×Bool))(w x:Int):dh (up w true fC) x=true↔x=w∨dh fC x=true:=by
 unfold dh;rw[lK];by_cases h:x=w
 ·simp[h]
 ·simp[h]
theorem AI.Gf{base k:Int}{last:LP}{ws:LI}{s:Al}{t:Nu}{w:Int}(hw:w∈ws)(h:AI base last s t.ts (fun v=>mu v k ws=true))(hm:zi t.fC t.ts)(hb:0<=base∧base<=4096)(hl:t.ts.length<1000000000000):
 AI base last (Al.j8 base s w) (Nu.iB base last k ws t w).ts (fun v=>mu v k ws=true)∧zi (Nu.iB base last k ws t w).fC (Nu.iB base last k ws t w).ts∧(Al.j8 base s w).aU=s.aU∧
 (∃k8,(Nu.iB base last k ws t w).ts=t.ts++k8∧k8.length<=1∧∀u∈k8,u.x=w∧u.rG=k)∧(w>base->∃u∈(Nu.iB base last k ws t w).ts,u.x=w):=by
 by_cases hc:w<=base∨dh t.fC w=true
 ·have e1:Nu.iB base last k ws t w=t:=aN hc;have e2:Al.j8 base s w=s:=by
   unfold Al.j8;rw[aN];rcases hc with hc|hc
   ·exact .inr hc
   ·obtain⟨u,hu,hx,hf⟩:=OS ((hm w).1 hc);exact .inl (by rw[h.map,hf];rfl)
  rw[e1,e2];refine⟨h,hm,rfl,⟨[],by simp,by simp,fun u hu=>by cases hu⟩,fun hwb=>?_⟩;rcases hc with hc|hc
  ·omega
  ·exact(hm w).1 hc
 ·have hwb:base<w:=by apply ml;intro hh;exact hc (.inl (by omega))
  have H9:¬dh t.fC w=true:=fun hh=>hc (.inr hh)
  have xd:∀u∈t.ts,u.x≠w:=fun u hu e=>H9 ((hm w).2 ⟨u,hu,e⟩)
  have BX:lk w s.cA=none:=by rw[h.map];exact OQ xd
  have e1:Nu.iB base last k ws t w=⟨t.ts++[⟨w,base+(pJ (nK base k ws t.ts) (t.ts.length+1) 1:Nat),k,fK w last⟩],up w true t.fC⟩:=az hc;obtain⟨nx1,nx2⟩:=h.nx;have go:∀(y vU:Int) (Ht:LI),base<y->y<=s.im->(∀z,base<z->z<y->z∉s.cw)->(∀u∈t.ts,mu u k ws=true->u.cA≠y)->zh Ht->Ht.Nodup->(∀z,z∈Ht↔base<z∧z<vU∧(∀u∈t.ts,mu u k ws=true->u.cA≠z)∧z≠y)->
   s.im<=vU->vU<=s.im+1->y<vU->∀(o:bS) (mo us:Int),
   AI base last ⟨o,mo,up w y s.cA,Ht,vU,us⟩ (Nu.iB base last k ws t w).ts (fun v=>mu v k ws=true)∧zi (Nu.iB base last k ws t w).fC (Nu.iB base last k ws t w).ts∧
   (∃k8,(Nu.iB base last k ws t w).ts=t.ts++k8∧k8.length<=1∧∀u∈k8,u.x=w∧u.rG=k)∧(w>base->∃u∈(Nu.iB base last k ws t w).ts,u.x=w):=by
   intro y vU Ht y1 y2 y3 y4 f1 f2 f3 n1 n2 n3 o mo us;have hy:=ako h.fp nx2 y1 y2 y3 y4;rw[e1,hy];have H8:mu ⟨w,y,k,fK w last⟩ k ws=true:=by unfold mu;simp[hw]
   refine⟨⟨⟨f1,f2,fun z=>?_,fun u hu v hv a1 a2 e=>?_,fun u hu a=>?_⟩,fun x=>?_,fun u hu v hv e=>?_,fun u hu=>?_,fun u hu=>?_,⟨by simp only;omega,by simp only[bj,bR,cI];push_cast;omega⟩,fun u hu=>?_⟩,fun x=>?_,⟨[⟨w,y,k,fK w last⟩],rfl,by simp,fun u hu=>by simp only[ko]at hu;subst hu;exact⟨rfl,rfl⟩⟩,fun _=>⟨⟨w,y,k,fK w last⟩,by simp,rfl⟩⟩
   ·rw[f3];constructor
    ·rintro⟨g1,g2,g3,g4⟩;refine⟨g1,g2,fun u hu a=>?_⟩;rcases List.mem_append.1 hu with hu|hu
     ·exact g3 u hu a
     ·simp only[ko]at hu;subst hu;exact fun e=>g4 e.symm
    ·rintro⟨g1,g2,g3⟩;exact⟨g1,g2,fun u hu a=>g3 u (List.mem_append_left _ hu) a,fun e=>g3 ⟨w,y,k,fK w last⟩ (by simp) H8 e.symm⟩
   ·rcases List.mem_append.1 hu with hu|hu<;>rcases List.mem_append.1 hv with hv|hv
    ·exact h.fp.inj u hu v hv a1 a2 e
    ·simp only[ko]at hv;subst hv;exact absurd e (y4 u hu a1)
    ·simp only[ko]at hu;subst hu;exact absurd e.symm (y4 v hv a2)
    ·simp only[ko]at hu hv;rw[hu,hv]
   ·rcases List.mem_append.1 hu with hu|hu
    ·have:=h.fp.FT u hu a;show base<u.cA∧u.cA<vU;omega
    ·simp only[ko]at hu;subst hu;exact⟨y1,n3⟩
   ·show lk x (up w y s.cA)=_;rw[lK,XE,h.map];by_cases hx:x=w
    ·subst hx;rw[aN rfl,OQ xd];simp[pv]
    ·rw[az hx];have:pv [⟨w,y,k,fK w last⟩] x=none:=by unfold pv;rw[az (fun e=>hx e.symm)];rfl
     rw[this];cases pv t.ts x<;>rfl
   ·rcases List.mem_append.1 hu with hu|hu<;>rcases List.mem_append.1 hv with hv|hv
    ·exact h.uq u hu v hv e
    ·simp only[ko]at hv;subst hv;exact absurd e (xd u hu)
    ·simp only[ko]at hu;subst hu;exact absurd e.symm (xd v hv)
    ·simp only[ko]at hu hv;rw[hu,hv]
   ·rcases List.mem_append.1 hu with hu|hu
    ·exact h.xs u hu
    ·simp only[ko]at hu;subst hu;exact hwb
   ·rcases List.mem_append.1 hu with hu|hu
    ·exact h.mM u hu
    ·simp only[ko]at hu;subst hu;rfl
   ·simp only[bj,bR,cI];rcases List.mem_append.1 hu with hu|hu
    ·have:=h.rn u hu
     push_cast
     omega
    ·simp only[ko]at hu;subst hu
     push_cast
     omega
   ·rw[ac6,hm x];constructor
    ·rintro(rfl|⟨u,hu,hx⟩)
     ·exact⟨⟨x,y,k,fK x last⟩,by simp,rfl⟩
     ·exact⟨u,List.mem_append_left _ hu,hx⟩
    ·rintro⟨u,hu,hx⟩;rcases List.mem_append.1 hu with hu|hu
     ·exact .inr ⟨u,hu,hx⟩
     ·simp only[ko]at hu;subst hu;exact .inl hx.symm
  unfold Al.j8;rw[az (by rintro(hh|hh)<;>first|omega|(rw[BX]at hh;cases hh))];by_cases hf:0<s.cw.length
  ·rw[aN hf];obtain⟨p1,p2,p3⟩:=aoz h.fp.heap hf;obtain⟨y,hy⟩:∃y,y=(mP s.cw).getD (s.cw.length-1) 0:=⟨_,rfl⟩;rw[←hy]at p2 p3⊢;have EZ:y∈s.cw:=p2.mem_iff.2 (by simp);have UT:=(h.fp.tl y).1 EZ;have mb:=p2.nodup_iff.1 h.fp.nd;rw[List.nodup_append]at mb;have:=go y s.im ((mP s.cw).take (s.cw.length-1)) UT.1 (by omega) (fun z _ hz hzf=>by have:=p3 z hzf;omega) UT.2.2 p1 mb.1 (fun z=>by
    have hz:=p2.mem_iff (a:=z);rw[List.mem_append,ko,h.fp.tl]at hz;constructor
    ·intro hzt;obtain⟨g1,g2,g3⟩:=hz.2 (.inl hzt);exact⟨g1,g2,g3,fun e=>mb.2.2 z hzt y (by simp) e⟩
    ·rintro⟨g1,g2,g3,g4⟩;rcases hz.1 ⟨g1,g2,g3⟩with q|q
     ·exact q
     ·exact absurd q g4) (fM _) (by omega) UT.2.1 s.aU s.dZ (wI (s.lj+1))
   exact⟨this.1,this.2.1,rfl,this.2.2⟩
  ·rw[az hf];have uf:s.cw=[]:=List.eq_nil_of_length_eq_zero (by omega);have hwp:wI (s.im+1)=s.im+1:=dz (by omega) (by omega);rw[hwp];have:=go s.im (s.im+1) s.cw (by omega) (fM _) (fun z _ _ hz=>by rw[uf]at hz;cases hz) (fun u hu a e=>by have:=(h.fp.FT u hu a).2;omega) h.fp.heap h.fp.nd (fun z=>by
    rw[h.fp.tl];constructor
    ·rintro⟨g1,g2,g3⟩;exact⟨g1,by omega,g3,by omega⟩
    ·rintro⟨g1,g2,g3,g4⟩;exact⟨g1,by omega,g3⟩) (by omega) (fM _) (by omega) s.aU s.dZ (wI (s.lj+1))
   exact⟨this.1,this.2.1,rfl,this.2.2⟩
theorem AI.ag8{base k:Int}{last:LP}{ws:LI}(hb:0<=base∧base<=4096):∀(tF:LI) (s:Al) (t:Nu),(∀w∈tF,w∈ws)->AI base last s t.ts (fun v=>mu v k ws=true)->zi t.fC t.ts->t.ts.length+tF.length<1000000000000->
 AI base last (tF.foldl (Al.j8 base) s) (tF.foldl (Nu.iB base last k ws) t).ts (fun v=>mu v k ws=true)∧zi (tF.foldl (Nu.iB base last k ws) t).fC (tF.foldl (Nu.iB base last k ws) t).ts∧(tF.foldl (Al.j8 base) s).aU=s.aU∧
 (∃k8,(tF.foldl (Nu.iB base last k ws) t).ts=t.ts++k8∧k8.length<=tF.length∧∀u∈k8,u.x∈ws∧u.rG=k)∧(∀w∈tF,w>base->∃u∈(tF.foldl (Nu.iB base last k ws) t).ts,u.x=w)
 |[],s,t,_,h,hm,_=>⟨h,hm,rfl,⟨[],by simp,by simp,fun u hu=>by cases hu⟩,fun w hw=>by cases hw⟩
 |w::tF,s,t,hw,h,hm,hl=>by
  simp only[bR]at hl;obtain⟨a1,a2,a3,⟨k8,a4,a5,a6⟩,a7⟩:=AI.Gf (hw w (eP ..)) h hm hb (by omega);have ki:(Nu.iB base last k ws t w).ts.length<=t.ts.length+1:=by rw[a4];simp;omega
  obtain⟨b1,b2,b3,⟨Nl,b4,b5,b6⟩,b7⟩:=AI.ag8 hb tF (Al.j8 base s w) (Nu.iB base last k ws t w) (fun x hx=>hw x (eE _ hx)) a1 a2 (by omega);simp only[ik];refine⟨b1,b2,b3.trans a3,⟨k8++Nl,by rw[b4,a4,iy],by simp;omega,fun u hu=>?_⟩,fun x hx MK=>?_⟩
  ·rcases List.mem_append.1 hu with hu|hu
   ·obtain⟨q1,q2⟩:=a6 u hu;exact⟨by rw[q1];exact hw w (eP ..),q2⟩
   ·exact b6 u hu
  ·rcases List.mem_cons.1 hx with rfl|hx
   ·obtain⟨u,hu,UE⟩:=a7 MK;exact⟨u,by rw[b4];exact List.mem_append_left _ hu,UE⟩
   ·exact b7 x hx MK
theorem XI(v:Tm)(k:Int)(ws:LI):mu v k ws=true↔v.rG<=k∧(v.mM>k∨v.x∈ws):=by unfold mu;simp
theorem avg{base:Int}{lg lr:LP}(h:∀x,x>base->fK x lg=fK x lr)(k:Int)(s:Al)(i:ba):Al.tG base lg k s i=Al.tG base lr k s i:=by
 have e1:Al.jg base lg k (b8 i)=Al.jg base lr k (b8 i):=by
  funext s r;unfold Al.jg;by_cases hr:r>base
  ·rw[h r hr]
  ·rw[az (fun e=>hr e.1),az (fun e=>hr e.1)]
 have e2:Al.aw base lg k=Al.aw base lr k:=by
  funext s r;unfold Al.aw;by_cases hr:r>base
  ·rw[h r hr]
  ·rw[az (fun e=>hr e.1),az (fun e=>hr e.1)]
 unfold Al.tG;rw[e1,e2]
theorem afE{base:Int}{lg lr:LP}(h:∀x,x>base->fK x lg=fK x lr):∀(l:bS) (k:Nat) (s:Al),Al.sE base lg k s l=Al.sE base lr k s l
 |[],_,_=>rfl
 |i::l,k,s=>by simp only[Al.sE];rw[avg h,afE h l]
theorem Oj{base:Int}{p kq:bS}{i:ba}{s:Al}{t:Nu}(hb:0<=base∧base<=4096)(hl:t.ts.length+(b8 i).length<1000000000000)
 (h:AI base (fS 0 [] (p++i::kq)) s t.ts (fun u=>(p.length:Int)<=u.mM)) (hm:zi t.fC t.ts) (H4:∀u∈t.ts,u.rG<=(p.length:Int)) (Mo:∀u∈t.ts,∃j∈p,Oc j u.x) (T3:∀r∈cf i,r>base->∃u∈t.ts,u.x=r):
 AI base (fS 0 [] (p++i::kq)) (s.tG base (fS 0 [] (p++i::kq)) p.length i) ((b8 i).foldl (Nu.iB base (fS 0 [] (p++i::kq)) p.length (b8 i)) t).ts (fun u=>((p.length+1:Nat):Int)<=u.mM)∧
 zi ((b8 i).foldl (Nu.iB base (fS 0 [] (p++i::kq)) p.length (b8 i)) t).fC ((b8 i).foldl (Nu.iB base (fS 0 [] (p++i::kq)) p.length (b8 i)) t).ts∧
 (∃k8,((b8 i).foldl (Nu.iB base (fS 0 [] (p++i::kq)) p.length (b8 i)) t).ts=t.ts++k8∧k8.length<=(b8 i).length∧∀u∈k8,u.x∈b8 i∧u.rG=p.length)∧
 (∀w∈b8 i,w>base->∃u∈((b8 i).foldl (Nu.iB base (fS 0 [] (p++i::kq)) p.length (b8 i)) t).ts,u.x=w)∧
 (s.tG base (fS 0 [] (p++i::kq)) p.length i).aU=s.aU++[wG (s.tG base (fS 0 [] (p++i::kq)) p.length i).cA i]:=by
 obtain⟨last,vF⟩:∃last,last=fS 0 [] (p++i::kq):=⟨_,rfl⟩;have a8:∀x,Oc i x->(p.length:Int)<=fK x last:=fun x ho=>by rw[vF];exact amO ho
 have hat:∀x,(∃j∈p,Oc j x)->fK x last=(p.length:Int)->Oc i x:=fun x ho he=>by rw[vF]at he;exact amN ho he
 rw[←vF]at h⊢;obtain⟨r1,r2,r3⟩:=AI.FP (k:=(p.length:Int)) (ws:=b8 i) (cf i) s _ (ao7 i) h (fun r hr g1 g2 g3=>by obtain⟨u,hu,hx⟩:=T3 r hr g1;exact⟨u,hu,hx,by rw[h.mM u hu,hx,g2];exact fM _⟩);have r1:=r1.Gg (Bb:=fun v=>mu v (p.length:Int) (b8 i)=true) (fun v hv=>by
  rw[XI];have e:=h.mM v hv;constructor
  ·rintro⟨q1,q2⟩;refine⟨H4 v hv,?_⟩;by_cases Md:v.mM>(p.length:Int)
   ·exact .inl Md
   ·have he:fK v.x last=(p.length:Int):=by omega
    have:=hat v.x (Mo v hv) he;rcases List.mem_append.1 this with hh|hh
    ·apply ml;intro iH;exact q2 ⟨hh,he,fun hw=>iH (.inr hw)⟩
    ·exact .inr hh
  ·rintro⟨_,q|q⟩
   ·exact⟨by omega,fun hh=>by have:=hh.2.1;omega⟩
   ·exact⟨by rw[e];exact a8 v.x (List.mem_append_right _ q),fun hh=>hh.2.2 q⟩)
 obtain⟨w1,w2,w3,⟨k8,w4,w5,w6⟩,w7⟩:=AI.ag8 hb (b8 i) _ t (fun w hw=>hw) r1 hm hl;obtain⟨S,hS⟩:∃S,S=(b8 i).foldl (Al.j8 base) ((cf i).foldl (Al.jg base last p.length (b8 i)) s):=⟨_,rfl⟩;obtain⟨T,hT⟩:∃T,T=(b8 i).foldl (Nu.iB base last p.length (b8 i)) t:=⟨_,rfl⟩;rw[←hS,←hT]at w1;rw[←hS]at w3;rw[←hT]at w2 w4 w7⊢;have w1:AI base last S.rD T.ts (fun v=>mu v (p.length:Int) (b8 i)=true):=⟨w1.fp,w1.map,w1.uq,w1.xs,w1.mM,w1.nx,w1.rn⟩;have ack:∀u∈T.ts,u.rG<=(p.length:Int):=by
  intro u hu;rw[w4]at hu;rcases List.mem_append.1 hu with hu|hu
  ·exact H4 u hu
  ·rw[(w6 u hu).2];exact fM _
 have ef:Al.aw base last (p.length:Int)=Al.jg base last (p.length:Int) []:=by funext s r;exact akm ..
 obtain⟨f1,f2,f3⟩:=AI.FP (k:=(p.length:Int)) (ws:=[]) (b8 i) S.rD _ (awd i) w1 (fun r hr g1 g2 g3=>by obtain⟨u,hu,hx⟩:=w7 r hr g1;exact⟨u,hu,hx,(XI ..).2 ⟨ack u hu,.inr (by rw[hx];exact hr)⟩⟩);have f1:=f1.Gg (Bb:=fun u=>((p.length+1:Nat):Int)<=u.mM) (fun v hv=>by
  rw[XI];have e:=w1.mM v hv;constructor
  ·rintro⟨⟨q0,q|q⟩,q2⟩
   ·push_cast;omega
   ·have h1:=a8 v.x (List.mem_append_right _ q);have h2:fK v.x last≠(p.length:Int):=fun hh=>q2 ⟨q,hh,by simp⟩
    push_cast
    omega
  ·intro q
   push_cast at q
   exact⟨⟨ack v hv,.inl (by omega)⟩,fun hh=>by have:=hh.2.1;omega⟩)
 have es:s.tG base last p.length i=((b8 i).foldl (Al.jg base last (p.length:Int) []) S.rD).uS i:=by unfold Al.tG;rw[ef,hS]
 rw[es];refine⟨⟨f1.fp,f1.map,f1.uq,f1.xs,f1.mM,f1.nx,f1.rn⟩,w2,⟨k8,w4,w5,w6⟩,w7,?_⟩;show((b8 i).foldl (Al.jg base last (p.length:Int) []) S.rD).aU++[_]=s.aU++[_];have eo:S.rD.aU=s.aU:=w3.trans r2;rw[f2,eo];rfl
theorem Ch(x:Int):∀(ws:LI) (wr:List (Int×Bool)),dh (mV ws wr) x=true↔x∈ws∨dh wr x=true
 |[],wr=>by simp[mV]
 |w::ws,wr=>by
  have:=Ch x ws (up w true wr);simp only[mV,ik,ss]at this⊢;rw[this,ac6];constructor
  ·rintro(h|h|h)
   ·exact .inl (.inr h)
   ·exact .inl (.inl h)
   ·exact .inr h
  ·rintro((h|h)|h)
   ·exact .inr (.inl h)
   ·exact .inl h
   ·exact .inr (.inr h)
theorem awc(i:ba):(b8 i).length<5000:=WQ (wb i.op).2
theorem afF{base:Int}(hb:0<=base∧base<=4096)(l:bS)(dY:l.length<60000):∀(kq p:bS) (s:Al) (t:Nu) (wr:List (Int×Bool)),l=p++kq->AI base (fS 0 [] l) s t.ts (fun u=>(p.length:Int)<=u.mM)->zi t.fC t.ts->(∀u∈t.ts,u.rG<=(p.length:Int))->(∀u∈t.ts,∃j∈p,Oc j u.x)->
 (∀r,r>base->dh wr r=true->∃u∈t.ts,u.x=r)->lP base wr kq=true->t.ts.length<=5000*p.length->
 ∃k8,(Nu.rF base (fS 0 [] l) p.length t kq).ts=t.ts++k8∧(∀u∈k8,base<u.x)∧(Al.sE base (fS 0 [] l) p.length s kq).aU=s.aU++kq.map (uJ (Nu.rF base (fS 0 [] l) p.length t kq).ts)
 |[],p,s,t,wr,_,_,_,_,_,_,_,_=>⟨[],by simp[Nu.rF],(fun u hu=>by cases hu),by simp[Al.sE]⟩
 |i::kq,p,s,t,wr,xg,h,hm,H4,Mo,xm,hv,mi=>by
  have jG:p.length<60000:=by rw[xg]at dY;simp at dY;omega
  have UO:=awc i;have aly:ca i=true:=by
   cases hf:ca i with
   |true=>rfl
   |false=>unfold lP at hv;rw[aN (.inl hf)]at hv;cases hv
  unfold lP at hv;split at hv
  ·cases hv
  split at hv
  ·cases hv
  rename_i zM;have My:∀r∈cf i,r>base->∃u∈t.ts,u.x=r:=by intro r hr yE;refine xm r yE ?_;apply ml;intro hk;refine zM (List.any_eq_true.2 ⟨r,hr,?_⟩);unfold j0;simp only[Bool.not_eq_true]at hk;rw[hk];simp only[cy,iK,Bool.not_false,and_true];exact yE
  rw[xg]at h;obtain⟨a1,a2,⟨k8,a3,a4,a5⟩,a6,a7⟩:=Oj (kq:=kq) (i:=i) hb (by omega) h hm H4 Mo My;rw[←xg]at a1 a2 a3 a6 a7;obtain⟨S,hS⟩:∃S,S=s.tG base (fS 0 [] l) p.length i:=⟨_,rfl⟩;obtain⟨T,hT⟩:∃T,T=(b8 i).foldl (Nu.iB base (fS 0 [] l) p.length (b8 i)) t:=⟨_,rfl⟩;rw[←hS,←hT]at a1;rw[←hS]at a7;rw[←hT]at a2 a3 a6;have e:(p++[i]).length=p.length+1:=by simp
  obtain⟨Nl,b1,b2,b3⟩:=afF hb l dY kq (p++[i]) S T (mV (b8 i) wr) (by rw[xg];simp) (by rw[e];exact a1) a2
   (fun u hu=>by
     rw[a3]at hu;rw[e];rcases List.mem_append.1 hu with hu|hu
     ·have:=H4 u hu;omega
     ·rw[(a5 u hu).2];omega)
   (fun u hu=>by
     rw[a3]at hu;rcases List.mem_append.1 hu with hu|hu
     ·obtain⟨j,hj,ho⟩:=Mo u hu;exact⟨j,List.mem_append_left _ hj,ho⟩
     ·exact⟨i,by simp,List.mem_append_right _ (a5 u hu).1⟩)
   (fun r yE hk=>by
     rw[Ch]at hk;rcases hk with hk|hk
     ·exact a6 r hk yE
     ·obtain⟨u,hu,hx⟩:=xm r yE hk;exact⟨u,by rw[a3];exact List.mem_append_left _ hu,hx⟩)
   hv (by rw[a3,e];simp only[bj];omega)
  rw[e]at b1 b3;have en:Nu.rF base (fS 0 [] l) p.length t (i::kq)=Nu.rF base (fS 0 [] l) (p.length+1) T kq:=by rw[hT];rfl
  have ea:Al.sE base (fS 0 [] l) p.length s (i::kq)=Al.sE base (fS 0 [] l) (p.length+1) S kq:=by rw[hS];rfl
  rw[en,ea];have US:∀u∈k8,base<u.x:=fun u hu=>a1.xs u (by rw[a3];exact List.mem_append_right _ hu)
  refine⟨k8++Nl,by rw[b1,a3,iy],fun u hu=>by
   rcases List.mem_append.1 hu with hu|hu
   ·exact US u hu
   ·exact b2 u hu,?_⟩
  rw[b3,a7,iy,List.map_cons];have fld:∀x,(x=0∨x∈cf i++b8 i)->pQ S.cA x=vW (Nu.rF base (fS 0 [] l) (p.length+1) T kq).ts x:=by
   intro x hx;rw[ad9,b1,XE,pQ,a1.map];cases hq:pv T.ts x with
   |some n=>rfl
   |none=>
    have:x<=base:=by
     apply ml;intro Md;have qT:∃u∈T.ts,u.x=x:=by
      rcases hx with hx|hx
      ·omega
      ·rcases List.mem_append.1 hx with hx|hx
       ·obtain⟨u,hu,UE⟩:=My x hx (by omega);exact⟨u,by rw[a3];exact List.mem_append_left _ hu,UE⟩
       ·exact a6 x hx (by omega)
     obtain⟨u,_,_,hh⟩:=OS qT;rw[hq]at hh;cases hh
    have:pv Nl x=none:=OQ (fun u hu e=>by have:=b2 u hu;omega);rw[this]
  obtain⟨g1,g2⟩:=akl aly;have key:wG S.cA i=uJ (Nu.rF base (fS 0 [] l) (p.length+1) T kq).ts i:=by unfold wG uJ;rw[fld i.r g1,fld i.a g2]
  rw[key];rfl
theorem ZV{l:bS}{base:Int}(hl:l.length<60000):fG l base=eF l base:=by
 unfold fG eF;by_cases hv:kK l base=true
 ·rw[aN hv,aN hv];unfold kK at hv;split at hv
  ·cases hv
  rename_i hb;have hb:0<=base∧base<=4096:=by omega
  have h0:AI base (fS 0 [] l) (wC base) (⟨[],[]⟩:Nu).ts (fun u=>((([]:bS).length:Nat):Int)<=u.mM):=by
   have hn:(wC base).im=base+1:=dz (by omega) (by omega);refine⟨⟨(fun i _ hi=>by cases hi),List.Pairwise.nil,fun y=>?_,(fun u hu=>by cases hu),(fun u hu=>by cases hu)⟩,fun x=>rfl,(fun u hu=>by cases hu),(fun u hu=>by cases hu),(fun u hu=>by cases hu),by rw[hn];simp,fun u hu=>by cases hu⟩;rw[hn];constructor
   ·intro h;cases h
   ·rintro⟨h1,h2,_⟩;omega
  obtain⟨k8,h1,h2,h3⟩:=afF hb l hl l [] (wC base) ⟨[],[]⟩ [] rfl h0 (fun x=>by
   constructor
   ·intro h;cases h
   ·rintro⟨u,hu,_⟩;cases hu) (fun u hu=>by cases hu) (fun u hu=>by cases hu) (fun r _ hk=>by cases hk) hv (by simp)
  have e:(u6 l base).aU=l.map (uJ (tp l base)):=by unfold u6 tp;rw[afE (lr:=fS 0 [] l) (fun x hx=>by unfold fK;rw[ade hx l 0 [] [] rfl])];simpa[wC]using h3
  rw[e]
 ·rw[az hv,az hv]
def NF(base:Int)(wr:List (Int×Bool))(i:ba):Prop:=ca i=true∧((i.op=19∨i.op=20)->i.ar<=base)∧∀x∈cf i,x>base->dh wr x=true
theorem XL{base:Int}{wr:List (Int×Bool)}{i:ba}{l:bS}:lP base wr (i::l)=true↔NF base wr i∧lP base (mV (b8 i) wr) l=true:=by
 have zM:(cf i).any (j0 base wr)=true↔¬∀x∈cf i,x>base->dh wr x=true:=by
  rw[List.any_eq_true];constructor
  ·rintro⟨x,hx,hb⟩ Tt;unfold j0 at hb;simp only[cy,iK,Bool.not_eq_true']at hb;rw[Tt x hx hb.1]at hb;cases hb.2
  ·intro hn;apply ml;intro iH;refine hn fun x hx hb=>?_
   apply ml;intro hk;refine iH ⟨x,hx,?_⟩;unfold j0;simp only[Bool.not_eq_true]at hk;rw[hk];simp[hb]
 have e:lP base wr (i::l)=if ca i=false∨((i.op=19∨i.op=20)∧i.ar>base)then false else if(cf i).any (j0 base wr)then false else lP base (mV (b8 i) wr) l:=rfl
 rw[e];unfold NF;by_cases h1:ca i=false∨((i.op=19∨i.op=20)∧i.ar>base)
 ·rw[aN h1];constructor
  ·intro h;cases h
  ·rintro⟨⟨g1,g2,g3⟩,_⟩;rcases h1 with h1|⟨h1,h2⟩
   ·rw[g1]at h1;cases h1
   ·have:=g2 h1;omega
 ·rw[az h1];have hf:ca i=true:=by
   cases hq:ca i with
   |true=>rfl
   |false=>exact absurd (.inl hq) h1
  have ha:(i.op=19∨i.op=20)->i.ar<=base:=fun ho=>by apply ml;intro hn;exact h1 (.inr ⟨ho,by omega⟩)
  by_cases h2:(cf i).any (j0 base wr)=true
  ·rw[aN h2];constructor
   ·intro h;cases h
   ·rintro⟨⟨_,_,g3⟩,_⟩;exact absurd g3 (zM.1 h2)
  ·rw[az h2];have h3:∀x∈cf i,x>base->dh wr x=true:=by apply ml;intro hn;exact h2 (zM.2 hn)
   exact⟨fun h=>⟨⟨hf,ha,h3⟩,h⟩,fun h=>h.2⟩
def O3(wr:List (Int×Bool))(S:bS):List (Int×Bool):=S.foldl (fun wr i=>mV (b8 i) wr) wr
theorem CY{base:Int}{i:ba}:∀{S:bS} {wr:List (Int×Bool)},lP base wr (S++[i])=true↔lP base wr S=true∧NF base (O3 wr S) i
 |[],wr=>by rw[pS,XL];simp[lP,O3]
 |j::S,wr=>by rw[mQ,XL,XL,CY,and_assoc];rfl
def Db(S:bS):List (Int×Bool):=O3 [] S
theorem JK(S:bS)(i:ba):Db (S++[i])=mV (b8 i) (Db S):=by simp[Db,O3]
theorem amu{n x:Int}(h:x∈jm n):x<=n:=by unfold jm at h;obtain⟨k,hk,rfl⟩:=List.mem_map.1 h;have:=List.mem_range.1 hk;omega
theorem ao6{i:ba}(h:ca i=true){x:Int}(hx:x∈cf i):(x=i.r∧(i.op=2∨i.op=7∨i.op=12∨i.op=24))∨(x=i.a∧(i.op=1∨i.op=2∨i.op=3∨i.op=4∨i.op=5))∨((i.op=19∨i.op=20)∧x<=i.ar):=by
 have key:∀k:Nat,k<=25->i.op=(k:Int)->(x=i.r∧(i.op=2∨i.op=7∨i.op=12∨i.op=24))∨(x=i.a∧(i.op=1∨i.op=2∨i.op=3∨i.op=4∨i.op=5))∨((i.op=19∨i.op=20)∧x<=i.ar):=by
  intro k hk kY;rw[afe h]at hx;obtain⟨op,r,a,n,s,ar⟩:=i;simp only at kY;subst kY;match k,hk with
  |0,_=>simp[ca]at h
  |1,_|2,_|3,_|4,_|5,_|6,_|7,_|8,_|9,_|10,_|11,_|12,_|13,_|14,_|15,_|16,_|17,_|18,_|19,_|20,_|21,_|22,_|23,_|24,_|25,_=>simp[iW,nJ,Av,oc,mS]at*;try (first|exact amu (by assumption)|omega|(split at* <;>simp_all;done)|(simp_all;done))
  |(k+26),hk=>exact absurd hk (by omega)
 have kY:0<=i.op∧i.op<=25:=by
  apply ml;intro hn;have:ca i=false:=by unfold ca;repeat (first|rw[az (by omega)])
  rw[this]at h;cases h
 exact key i.op.toNat (by omega) (by omega)
theorem O5{i:ba}(h:ca i=true)(ho:i.op=1∨i.op=6∨i.op=11∨i.op=15∨i.op=22∨i.op=23):i.r∈b8 i:=by
 rw[ag9 h];obtain⟨op,r,a,n,s,ar⟩:=i;simp only at ho⊢;rcases ho with rfl|rfl|rfl|rfl|rfl|rfl<;>simp[iW,nJ,Av,oc,mS]
 split<;>simp
theorem O6{i:ba}(ho:i.op=10):b8 i=[]:=by
 unfold b8 gO;split
 ·rw[ho];rfl
 ·rfl
theorem ao9{i:ba}(ho:i.op=10):cf i=[]:=by
 unfold cf gO;split
 ·rw[ho];rfl
 ·rfl
def rA(B:bS)(r:Rm):bS:=r.aZ.drop B.length
def kW(B:bS)(r:Rm)(x:Int):Prop:=dh (Db (rA B r)) x=true
def nb(base:Int)(B:bS)(r:Rm)(x:Int):Prop:=x>base->kW B r x
structure VI(base c:Int)(P:LP)(C:eu)(B:bS)(q:Int)(r:Rm):Prop where
 bN:∃S,r.aZ=B++S
 val:lP base [] (rA B r)=true
 DS:∀v x,cu v r.bV=some x->df x=true∧(0<x->kG v 0 0 C.aC=0)∧(x>base->kW B r x∨∃c',c'<c∧(v,c')∈P)∧∃c',c'<=c∧(v,c')∈P
 nx:base<=r.cE∧r.cE<=4096
 tv:∀j,(rA B r).getLast? =some j->j.op=10->j.n<=q
 rc:r.c=C
def jO(B:bS)(r r':Rm):Prop:=∀x,kW B r x->kW B r' x
theorem jO.Dg{B:bS}{r:Rm}:jO B r r:=fun _ h=>h
theorem jO.wu{B:bS}{r r1 r2:Rm}(h1:jO B r r1)(h2:jO B r1 r2):jO B r r2:=fun x h=>h2 x (h1 x h)
theorem jO.nb{base:Int}{B:bS}{r r':Rm}(h:jO B r r'){x:Int}(hx:nb base B r x):nb base B r' x:=fun hb=>h x (hx hb)
theorem axt{B S:bS}{r:Rm}(h:r.aZ=B++S)(x:Int):kW B r x↔dh (Db S) x=true:=by unfold kW rA;rw[h,v7]
section
variable{base c:Int}{P:LP}{C:eu}{B:bS}
theorem VI.Dh{q q':Int}{r:Rm}(h:VI base c P C B q r)(hq:q<=q'):VI base c P C B q' r:=
 ⟨h.bN,h.val,h.DS,h.nx,fun j h1 h2=>by have:=h.tv j h1 h2;omega,h.rc⟩
theorem N_{r:Rm}{i:ba}{S:bS}(h:r.aZ=B++S):rA B (r.ah i)=S++[i]∧rA B r=S:=by
 unfold rA;constructor
 ·show(r.aZ++[i]).drop B.length=_;rw[h,iy,v7]
 ·rw[h,v7]
theorem amz{r:Rm}{i:ba}{S:bS}(h:r.aZ=B++S)(x:Int):kW B (r.ah i) x↔x∈b8 i∨kW B r x:=by unfold kW;rw[(N_ (i:=i) h).1,(N_ (i:=i) h).2,JK,Ch]
theorem VI.DX{q q':Int}{r r1:Rm}(h:VI base c P C B q r){i:ba}(hi:i.op≠10)(ho:ca i=true)(ha:(i.op=19∨i.op=20)->i.ar<=base)(hr:∀x∈cf i,nb base B r x)
 (vw:r1.aZ=r.aZ) (hc:r1.c=r.c) (xd:base<=r1.cE∧r1.cE<=4096)
 (kC:∀v x,cu v r1.bV=some x->cu v r.bV=some x∨(df x=true∧(0<x->kG v 0 0 C.aC=0)∧(x>base->x∈b8 i)∧∃c',c'<=c∧(v,c')∈P)):VI base c P C B q' (r1.ah i)∧jO B r (r1.ah i)∧∀x∈b8 i,kW B (r1.ah i) x:=by
 obtain⟨S,hS⟩:=h.bN;have Tj:r1.aZ=B++S:=vw.trans hS;obtain⟨e1,e2⟩:=N_ (i:=i) Tj;obtain⟨_,e3⟩:=N_ (i:=i) hS;have hk:∀x,kW B (r1.ah i) x↔x∈b8 i∨kW B r x:=by
  intro x;rw[amz Tj];have:kW B r1 x↔kW B r x:=by unfold kW;rw[e2,e3]
  rw[this]
 refine⟨⟨⟨S++[i],by show r1.aZ++[i]=_;rw[Tj,iy]⟩,?_,fun v x hx=>?_,xd,fun j hj hjo=>?_,hc.trans h.rc⟩,fun x hx=>(hk x).2 (.inr hx),fun x hx=>(hk x).2 (.inl hx)⟩
 ·rw[e1,CY];have hv:=h.val;rw[e3]at hv;refine⟨hv,ho,ha,fun x hx hb=>?_⟩;have:=hr x hx hb;unfold kW at this;rw[e3]at this;exact this
 ·have hx:cu v r1.bV=some x:=hx;rcases kC v x hx with hh|⟨g1,g2,g3,g4⟩
  ·obtain⟨d1,d2,d3,d4⟩:=h.DS v x hh;refine⟨d1,d2,fun hb=>?_,d4⟩;rcases d3 hb with d|d
   ·exact .inl ((hk x).2 (.inr d))
   ·exact .inr d
  ·exact⟨g1,g2,fun hb=>.inl ((hk x).2 (.inl (g3 hb))),g4⟩
 ·rw[e1]at hj;simp only[List.getLast?_append,List.getLast?_singleton,Option.some_or,nu]at hj;subst hj;exact absurd hjo hi
theorem VI.ah{q q':Int}{r:Rm}(h:VI base c P C B q r){i:ba}(hi:i.op≠10)(ho:ca i=true)(ha:(i.op=19∨i.op=20)->i.ar<=base)(hr:∀x∈cf i,nb base B r x):VI base c P C B q' (r.ah i)∧jO B r (r.ah i)∧∀x∈b8 i,kW B (r.ah i) x:=
 h.DX hi ho ha hr rfl rfl h.nx (fun v x hx=>.inl hx)
theorem akt{j:ba}(ho:j.op=10)(h:ca j=true):j.r=0∧j.a=0∧1<=j.n∧j.n<=8∧j.cR=[]∧j.ar=0:=by obtain⟨op,r,a,n,s,ar⟩:=j;simp only at ho;subst ho;simp[ca]at h;simp only;exact⟨h.2.2.1,h.2.2.2.1,h.1,h.2.1,h.2.2.2.2.1,h.2.2.2.2.2⟩
theorem VI.lQ{q:Int}{r:Rm}(h:VI base c P C B q r)(hB:jx B)(h0:0<=q)(h7:q+1<=8):VI base c P C B (q+1) r.lQ∧jO B r r.lQ:=by
 obtain⟨S,hS⟩:=h.bN;have e3:rA B r=S:=by unfold rA;rw[hS,v7]
 have hv:=h.val;have UC:=h.tv;rw[e3]at hv UC;have Sa:r.lQ.aZ=B++jt S ⟨10,0,0,1,[],0⟩:=by show jt r.aZ ⟨10,0,0,1,[],0⟩=_;rw[hS,Sd hB]
 have Bo:rA B r.lQ=jt S ⟨10,0,0,1,[],0⟩:=by unfold rA;rw[Sa,v7]
 have key:∀S',jt S ⟨10,0,0,1,[],0⟩=S'->lP base [] S'=true->(∀x,dh (Db S') x=true↔dh (Db S) x=true)->(∀j,S'.getLast? =some j->j.op=10->j.n<=q+1)->VI base c P C B (q+1) r.lQ∧jO B r r.lQ:=by
  intro S' h1 h2 h3 h4;rw[h1]at Sa Bo;have hk:∀x,kW B r.lQ x↔kW B r x:=by intro x;unfold kW;rw[Bo,e3];exact h3 x
  refine⟨⟨⟨S',Sa⟩,by rw[Bo];exact h2,fun v x hx=>?_,h.nx,by rw[Bo];exact h4,h.rc⟩,fun x hx=>(hk x).2 hx⟩;obtain⟨d1,d2,d3,d4⟩:=h.DS v x hx;refine⟨d1,d2,fun hb=>?_,d4⟩;rcases d3 hb with d|d
  ·exact .inl ((hk x).2 d)
  ·exact .inr d
 have fv:∀n:Int,1<=n->n<=8->ca ⟨10,0,0,n,[],0⟩=true:=fun n g1 g2=>by simp[ca,g1,g2]
 have ok:∀(n:Int) (wr:List (Int×Bool)),1<=n->n<=8->NF base wr ⟨10,0,0,n,[],0⟩:=fun n wr g1 g2=>
  ⟨fv n g1 g2,fun hh=>by rcases hh with hh|hh<;>(have hh:(10:Int)=_:=hh;omega),fun x hx=>by rw[ao9 rfl]at hx;cases hx⟩
 rcases List.eq_nil_or_concat S with rfl|⟨D,j,rfl⟩
 ·refine key _ K7 ?_ (fun x=>?_) (fun j hj hjo=>?_)
  ·rw[←pS [_],CY];exact⟨rfl,ok 1 _ (by omega) (by omega)⟩
  ·rw[←pS [_],JK,Ch,O6 rfl];simp
  ·simp only[List.getLast?_singleton,nu]at hj;subst hj;simp only;omega
 ·rw[List.concat_eq_append]at hv UC hS e3 key;rw[CY]at hv;obtain⟨v1,v2,v3,v4⟩:=hv;by_cases hj:j.op=10
  ·obtain⟨f1,f2,f3,f4,f5,f6⟩:=akt hj v2;have hn:=UC j (by simp) hj;have hw:wI (j.n+1)=j.n+1:=dz (by omega) (by omega);have ej:(⟨j.op,j.r,j.a,wI (j.n+1),j.cR,j.ar⟩:ba)=⟨10,0,0,j.n+1,[],0⟩:=by rw[hj,f1,f2,f5,f6,hw]
   refine key (D++[⟨10,0,0,j.n+1,[],0⟩]) ?_ ?_ (fun x=>?_) (fun j' r7 _=>?_)
   ·rw[sT rfl,aN hj];simp only;rw[ej]
   ·rw[CY];exact⟨v1,ok _ _ (by omega) (by omega)⟩
   ·rw[JK,JK,Ch,Ch,O6 rfl,O6 hj]
   ·simp only[List.getLast?_append,List.getLast?_singleton,Option.some_or,nu]at r7;subst r7;simp only;omega
  ·refine key (D++[j]++[⟨10,0,0,1,[],0⟩]) ?_ ?_ (fun x=>?_) (fun j' r7 _=>?_)
   ·rw[sT rfl,az hj]
   ·rw[CY,CY];exact⟨⟨v1,v2,v3,v4⟩,ok 1 _ (by omega) (by omega)⟩
   ·rw[JK,Ch,O6 rfl];simp
   ·simp only[List.getLast?_append,List.getLast?_singleton,Option.some_or,nu]at r7;subst r7;simp only;omega
theorem VI.bo{q:Int}{r:Rm}(h:VI base c P C B q r)(hb:0<=base)(hg:r.bo.cx<=4096):VI base c P C B q r.bo∧jO B r r.bo∧base<r.bo.cE∧r.bo.cE<=4096:=by
 obtain⟨n1,n2⟩:=h.nx;have hw:wI (r.cE+1)=r.cE+1:=dz (by omega) (by omega);have hn:r.bo.cE=r.cE+1:=hw;have de:r.cE+1<=4096:=by have hg:(if wI (r.cE+1)>r.cx then wI (r.cE+1)else r.cx)<=4096:=hg;rw[hw]at hg;split at hg<;>omega
 exact⟨⟨h.bN,h.val,h.DS,by rw[hn];omega,h.tv,h.rc⟩,fun x hx=>hx,by omega,by omega⟩
theorem FQ{x:Int}:df x=true↔x≠0∧-4096<=x∧x<=4096:=by simp[df]
theorem O'{x:Int}:dK x=true↔1<=x∧x<=4096:=by simp[dK]
def Gz(P:LP)(C:eu):Prop:=∀v,kG v 0 0 C.aC=0->∀c1 c2,(v,c1)∈P->(v,c2)∈P->c1=c2
def Kh(C:eu):Prop:=∀v,kG v 0 0 C.aC=0∨(-4096<=kG v 0 0 C.aC∧kG v 0 0 C.aC<0)
theorem VI.use{q:Int}{r:Rm}(h:VI base c P C B q r)(hb:0<=base)(h1:Gz P C){v x:Int}(hx:cu v r.bV=some x)(hv:(v,c)∈P):df x=true∧nb base B r x:=by
 obtain⟨d1,d2,d3,d4⟩:=h.DS v x hx;refine⟨d1,fun Md=>?_⟩;rcases d3 Md with d|⟨c',q1,q2⟩
 ·exact d
 ·have:=h1 v (d2 (by omega)) c' c q2 hv;omega
theorem VI.first{q q':Int}{r:Rm}(h:VI base c P C B q r)(hb:0<=base)(h1:Gz P C)(h2:Kh C){v:Int}(hx:cu v r.bV=none)(hv:(v,c)∈P){i:ba}(hg:(r.gw v).cx<=4096)(TY:i.r=r.gY v)
 (kY:i.op=1∨i.op=6∨i.op=11∨i.op=22∨i.op=23) (hf:df (r.gY v)=true->ca i=true) (hr:∀x∈cf i,nb base B r x):VI base c P C B q' ((r.gw v).ah i)∧jO B r ((r.gw v).ah i)∧∀x∈b8 i,kW B ((r.gw v).ah i) x:=by
 have zW:r.aC v=kG v 0 0 C.aC:=by rw[Rm.aC,h.rc]
 have aco:i.op≠10:=by omega
 have ha:(i.op=19∨i.op=20)->i.ar<=base:=fun hh=>by omega
 have xm:ca i=true->i.r∈b8 i:=fun hh=>O5 hh (by omega)
 by_cases hp:r.aC v=0
 ·have e1:r.gw v=⟨r.f,r.c,r.aZ,r.bV++[(v,r.bo.cE)],r.bo.cE,r.bo.cx⟩:=aN hp;have e2:r.gY v=r.bo.cE:=aN hp;rw[e1]at hg⊢;rw[e2]at hf TY;obtain⟨t1,_,t3,t4⟩:=h.bo hb hg;have kZ:df r.bo.cE=true:=FQ.2 ⟨by omega,by omega,by omega⟩;have L_:=hf kZ;refine h.DX aco L_ ha hr rfl rfl t1.nx (fun w x vO=>?_);have hw:cu w (r.bV++[(v,r.bo.cE)])=some x:=vO;rw[yL]at hw;cases hq:cu w r.bV with
  |some y=>rw[hq]at hw;exact .inl hw
  |none=>
   rw[hq]at hw;simp only at hw;split at hw
   ·rename_i e;subst e;obtain rfl:=dk hw;exact .inr ⟨kZ,fun _=>by rw[←zW];exact hp,fun _=>by rw[←TY];exact xm L_,c,fM _,hv⟩
   ·cases hw
 ·have e1:r.gw v=⟨r.f,r.c,r.aZ,r.bV++[(v,r.aC v)],r.cE,r.cx⟩:=az hp;have e2:r.gY v=r.aC v:=az hp;rw[e1];rw[e2]at hf TY;have Mm: -4096<=r.aC v∧r.aC v<0:=by
   rcases h2 v with hh|hh
   ·rw[zW]at hp;exact absurd hh hp
   ·rw[zW];exact hh
  have kZ:df (r.aC v)=true:=FQ.2 ⟨by omega,by omega,by omega⟩;have L_:=hf kZ;refine h.DX aco L_ ha hr rfl rfl h.nx (fun w x vO=>?_);have hw:cu w (r.bV++[(v,r.aC v)])=some x:=vO;rw[yL]at hw;cases hq:cu w r.bV with
  |some y=>rw[hq]at hw;exact .inl hw
  |none=>
   rw[hq]at hw;simp only at hw;split at hw
   ·rename_i e;subst e;obtain rfl:=dk hw;exact .inr ⟨kZ,fun hh=>by omega,fun hh=>by omega,c,fM _,hv⟩
   ·cases hw
end
theorem Lw(r:Rm):r.cx<=r.bo.cx:=by
 show r.cx<=if wI (r.cE+1)>r.cx then wI (r.cE+1)else r.cx
 split<;>omega
theorem Hw(r:Rm)(v:Int):r.cx<=(r.gw v).cx:=by
 unfold Rm.gw;split
 ·exact Lw r
 ·exact fM _
theorem axg(r:Rm)(v fi la a:Int):r.cx<=(r.fY v fi la a).cx:=by
 unfold Rm.fY;split
 ·exact fM _
 ·exact Hw r v
theorem abP(r:Rm)(t:aK):r.cx<=(r.gP t).cx:=by
 unfold Rm.gP;split
 ·exact fM _
 ·split
  ·exact fM _
  ·split
   ·exact fM _
   ·split
    ·exact fM _
    ·exact Hw r _
theorem akJ(r:Rm)(t:aK)(b:Int):r.cx<=(r.lY t b).cx:=by
 unfold Rm.lY;split
 ·exact fM _
 ·exact abP r t
theorem Lu:∀(ps:List (aK×Int)) (r:Rm),r.cx<=(r.qJ ps).cx
 |[],r=>fM _
 |p::ps,r=>Int.le_trans (akJ r p.1 p.2) (Lu ps (r.lY p.1 p.2))
mutual
theorem SW:∀(t:aK) (r:Rm) (x:Int),r.cx<=(r.lu x t).cx
 |.mk k n s l,r,x=>by simp only[Rm.lu];exact Int.le_trans (Lv l r) (Lu _ ((r.dq l).1.ah ⟨15,x,0,0,s,l.length⟩))
theorem Lv:∀(l:bG) (r:Rm),r.cx<=(r.dq l).1.cx
 |[],r=>fM _
 |t::l,r=>by
  simp only[Rm.dq];split
  ·exact Int.le_trans (Lw r) (Int.le_trans (SW t r.bo r.bo.cE) (Lv l _))
  ·exact Lv l r
end
theorem akI(r:Rm)(t:aK):r.cx<=(r.ig t).1.cx:=by
 unfold Rm.ig;split
 ·exact Lw r
 ·exact abP r t
theorem SV:∀(l:bG) (r:Rm) (q:List (Int×aK)),r.cx<=(r.gR q l).1.cx
 |[],r,q=>fM _
 |t::l,r,q=>Int.le_trans (akI r t) (SV l _ _)
theorem SX:∀(n:Nat) (r:Rm) (q:List (Int×aK)),r.cx<=(r.gD n q).cx
 |0,r,q=>by simp[Rm.gD]
 |n+1,r,[]=>by simp[Rm.gD]
 |n+1,r,w::q=>Int.le_trans (SV w.2.cK (r.ah ⟨5,0,w.1,0,w.2.fZ,w.2.cK.length⟩) q) (SX n _ _)
theorem akL(r:Rm)(a:Int)(t:aK):r.cx<=(r.hd a t).cx:=by
 unfold Rm.hd;split
 ·exact fM _
 ·split
  ·exact fM _
  ·split
   ·exact SX _ r _
   ·split
    ·exact fM _
    ·split
     ·exact fM _
     ·exact Hw r _
theorem akM(r:Rm)(w:Int×aK):r.cx<=(r.iX w).cx:=by
 unfold Rm.iX;split
 ·exact fM _
 ·split
  ·exact fM _
  ·split
   ·exact SW _ r _
   ·split
    ·exact fM _
    ·split
     ·exact fM _
     ·exact Hw r _
theorem abN:∀(l:bG) (j:Nat) (r:Rm),r.cx<=(r.dJ j l).cx
 |[],_,r=>fM _
 |t::l,j,r=>Int.le_trans (akL r _ t) (abN l (j+1) _)
theorem SY:∀(l:bG) (j:Nat) (r:Rm),r.cx<=(r.g_ j l).cx
 |[],_,r=>fM _
 |t::l,j,r=>Int.le_trans (akM r _) (SY l (j+1) _)
theorem abO(r:Rm)(w:Int×Int):r.cx<=(r.dR w).cx:=by
 unfold Rm.dR;split
 ·exact Lw r
 ·exact Hw r _
theorem akK(r:Rm)(v:Int):r.cx<=(r.pV v).cx:=by unfold Rm.pV;split<;>exact fM _
def rJ(c:Int)(P:LP)(t:aK):Prop:=lL t=true∧∀p∈gI c [] t,p∈P
def qG(c:Int)(P:LP)(l:bG):Prop:=n_ l=true∧∀p∈fN c [] l,p∈P
theorem qG.Df{c:Int}{P:LP}{t:aK}{l:bG}(h:qG c P (t::l)):rJ c P t∧qG c P l:=by obtain⟨h1,h2⟩:=h;simp only[n_,cy]at h1;simp only[fN]at h2;rw[za]at h2;exact⟨⟨h1.1,fun p hp=>h2 p (List.mem_append_left _ hp)⟩,h1.2,fun p hp=>h2 p (List.mem_append_right _ hp)⟩
theorem qG.tl{c:Int}{P:LP}:∀{l:bG},qG c P l->∀t∈l,rJ c P t
 |[],_,t,ht=>by cases ht
 |x::l,h,t,ht=>by
  obtain⟨h1,h2⟩:=h.Df;rcases List.mem_cons.1 ht with rfl|ht
  ·exact h1
  ·exact qG.tl h2 t ht
theorem rJ.De{c:Int}{P:LP}{k n:Int}{s:LN}{l:bG}(h:rJ c P (.mk k n s l)):
 (k=0∧(n,c)∈P)∨k=1∨(k=2∧s.length<=100)∨(k=3∧s.length<=100∧1<=l.length∧l.length<=8∧qG c P l):=by
 obtain⟨h1,h2⟩:=h;simp only[lL,cy]at h1;obtain⟨h1,h3⟩:=h1;unfold sk at h1;split at h1
 ·rename_i hk;subst hk;exact .inl ⟨rfl,h2 _ (by simp[gI])⟩
 ·rename_i k0;split at h1
  ·rename_i hk;exact .inr (.inl hk)
  ·split at h1
   ·rename_i hk;simp only[iK]at h1;exact .inr (.inr (.inl ⟨hk,h1.2.1⟩))
   ·split at h1
    ·rename_i hk;simp only[iK]at h1;simp only[gI,az k0]at h2;exact .inr (.inr (.inr ⟨hk,h1.2.1,by omega,h1.2.2.2,h3,h2⟩))
    ·cases h1
section
variable{base c:Int}{P:LP}{C:eu}{B:bS}
structure Fx(base c:Int)(P:LP)(C:eu)(B:bS):Prop where
 b0:0<=base
 b1:base<=4096
 one:Gz P C
 Nq:Kh C
 nv:jx B
theorem El{k r a:Int}(hk:k=1∨k=2∨k=11∨k=12)(hr:df r=true)(ha:dK a=true):ca ⟨k,r,a,0,[],0⟩=true:=by rcases hk with rfl|rfl|rfl|rfl<;>simp[ca,hr,ha]
theorem fm3{k a n:Int}(hk:k=3∨k=13)(ha:dK a=true):ca ⟨k,0,a,n,[],0⟩=true:=by rcases hk with rfl|rfl<;>simp[ca,ha]
theorem fm4{k a:Int}{s:LN}(hk:k=4∨k=14)(ha:dK a=true)(hs:s.length<=100):ca ⟨k,0,a,0,s,0⟩=true:=by rcases hk with rfl|rfl<;>simp[ca,ha]<;>omega
theorem fm5{a:Int}{s:LN}{ar:Nat}(ha:dK a=true)(hs:s.length<=100)(h1:1<=ar)(h8:ar<=8):ca ⟨5,0,a,0,s,ar⟩=true:=by simp[ca,ha,F0];omega
theorem akq{r:Int}{s:LN}{ar:Nat}(hr:df r=true)(hs:s.length<=100)(h1:1<=ar)(h8:ar<=8):ca ⟨15,r,0,0,s,ar⟩=true:=by simp[ca,hr,F0];omega
theorem Bp{k r:Int}(hk:k=6∨k=7∨k=22∨k=23∨k=24)(hr:df r=true):ca ⟨k,r,0,0,[],0⟩=true:=by rcases hk with rfl|rfl|rfl|rfl|rfl<;>simp[ca,hr]
theorem fm8(n:Int):ca ⟨8,0,0,n,[],0⟩=true:=by simp[ca]
theorem fm9{s:LN}(hs:s.length<=100):ca ⟨9,0,0,0,s,0⟩=true:=by simp[ca];omega
theorem abv{k n:Int}(hk:k=16∨k=17)(h0:0<=n)(h1:n<=4096):ca ⟨k,0,0,n,[],0⟩=true:=by rcases hk with rfl|rfl<;>simp[ca,h0,h1]
theorem SM{k:Int}(hk:k=18∨k=21∨k=25):ca ⟨k,0,0,0,[],0⟩=true:=by rcases hk with rfl|rfl|rfl<;>simp[ca]
theorem abw{k:Int}{p:d_}(hk:k=19∨k=20)(hp:jL p=true):ca (dX k p)=true:=by obtain⟨nm,ar,aM⟩:=p;rcases hk with rfl|rfl<;>simp[ca,dX,Ir,hp]
theorem oL{r:Rm}{i:ba}(hf:ca i=true)(h1:(i.op=2∨i.op=7∨i.op=12∨i.op=24)->nb base B r i.r)(h2:(i.op=1∨i.op=2∨i.op=3∨i.op=4∨i.op=5)->nb base B r i.a)(h3:(i.op=19∨i.op=20)->i.ar<=base):∀x∈cf i,nb base B r x:=by
 intro x hx;rcases ao6 hf hx with⟨rfl,h⟩|⟨rfl,h⟩|⟨h,de⟩
 ·exact h1 h
 ·exact h2 h
 ·have:=h3 h;intro hb;omega
theorem k9{r:Rm}{x:Int}(h:x<=base):nb base B r x:=fun hb=>by omega
theorem VI.fY(fx:Fx base c P C B){q q':Int}{r:Rm}(h:VI base c P C B q r){v fi la a:Int}(hv:(v,c)∈P)(jF:(fi=1∧la=2)∨(fi=6∧la=7)∨(fi=11∧la=12))(ha:a<=base)
 (hf:∀x,df x=true->ca ⟨fi,x,a,0,[],0⟩=true∧ca ⟨la,x,a,0,[],0⟩=true) (hg:(r.fY v fi la a).cx<=4096):VI base c P C B q' (r.fY v fi la a)∧jO B r (r.fY v fi la a):=by
 unfold Rm.fY at hg⊢;cases hx:cu v r.bV with
 |some x=>obtain⟨u1,u2⟩:=h.use fx.b0 fx.one hx hv;have BT:=(hf x u1).2;have:=h.ah (q':=q') (i:=⟨la,x,a,0,[],0⟩) (by show la≠10;omega) BT (fun hh=>by have hh:la=19∨la=20:=hh;omega) (oL BT (fun _=>u2) (fun _=>k9 ha) (fun hh=>by have hh:la=19∨la=20:=hh;omega));exact⟨this.1,this.2.1⟩
 |none=>
  rw[hx]at hg;have TP:(r.gw v).cx<=4096:=hg;have key:∀kZ:df (r.gY v)=true,∀x∈cf ⟨fi,r.gY v,a,0,[],0⟩,nb base B r x:=fun kZ=>oL (hf _ kZ).1 (fun hh=>by have hh:fi=2∨fi=7∨fi=12∨fi=24:=hh;omega) (fun _=>k9 ha) (fun hh=>by have hh:fi=19∨fi=20:=hh;omega)
  have:=h.first (q':=q') fx.b0 fx.one fx.Nq hx hv (i:=⟨fi,r.gY v,a,0,[],0⟩) TP rfl (by show fi=1∨fi=6∨fi=11∨fi=22∨fi=23;omega) (fun kZ=>(hf _ kZ).1) (fun x hx=>by
   by_cases kZ:df (r.gY v)=true
   ·exact key kZ x hx
   ·
    have:ca ⟨fi,r.gY v,a,0,[],0⟩=true∨ca ⟨fi,r.gY v,a,0,[],0⟩=false:=by cases ca ⟨fi,r.gY v,a,0,[],0⟩<;>simp
    rcases this with hq|hq
    ·exact oL hq (fun hh=>by have hh:fi=2∨fi=7∨fi=12∨fi=24:=hh;omega) (fun _=>k9 ha) (fun hh=>by have hh:fi=19∨fi=20:=hh;omega) x hx
    ·rw[cf,gO,az (by rw[hq];simp)]at hx;cases hx)
  exact⟨this.1,this.2.1⟩
theorem VI.gP(fx:Fx base c P C B){q:Int}{r:Rm}(h:VI base c P C B q r)(h0:0<=q)(h7:q+1<=8){t:aK}(ht:rJ c P t)(h3:t.cY≠3)(hg:(r.gP t).cx<=4096):VI base c P C B (q+1) (r.gP t)∧jO B r (r.gP t):=by
 obtain⟨k,n,s,l⟩:=t;rcases ht.De with⟨rfl,hv⟩|rfl|⟨rfl,hs⟩|⟨rfl,_⟩
 ·rw[agm]at hg⊢;split
  ·exact h.lQ fx.nv h0 h7
  ·rename_i Ia;rw[az Ia]at hg;exact h.fY fx hv (.inr (.inl ⟨rfl,rfl⟩)) fx.b0 (fun x hx=>⟨Bp (.inl rfl) hx,Bp (.inr (.inl rfl)) hx⟩) hg
 ·rw[agn];have:=h.ah (q':=q+1) (i:=⟨8,0,0,n,[],0⟩) (show(8:Int)≠10 by decide) (fm8 n) (fun hh=>by have hh:(8:Int)=19∨(8:Int)=20:=hh;omega) (oL (fm8 n) (fun _=>k9 fx.b0) (fun _=>k9 fx.b0) (fun hh=>by have hh:(8:Int)=19∨(8:Int)=20:=hh;omega));exact⟨this.1,this.2.1⟩
 ·rw[ago];have:=h.ah (q':=q+1) (i:=⟨9,0,0,0,s,0⟩) (show(9:Int)≠10 by decide) (fm9 hs) (fun hh=>by have hh:(9:Int)=19∨(9:Int)=20:=hh;omega) (oL (fm9 hs) (fun _=>k9 fx.b0) (fun _=>k9 fx.b0) (fun hh=>by have hh:(9:Int)=19∨(9:Int)=20:=hh;omega));exact⟨this.1,this.2.1⟩
 ·exact absurd rfl h3
theorem VI.arg(fx:Fx base c P C B){q:Int}{r:Rm}(h:VI base c P C B q r)(h0:0<=q)(h7:q+1<=8){t:aK}{b:Int}(ht:rJ c P t)(hb:t.cY=3->df b=true∧nb base B r b)(hg:(r.lY t b).cx<=4096):VI base c P C B (q+1) (r.lY t b)∧jO B r (r.lY t b):=by
 by_cases h3:t.cY=3
 ·have e:r.lY t b=r.ah ⟨7,b,0,0,[],0⟩:=aN h3;obtain⟨b1,b2⟩:=hb h3;rw[e];have hf:=Bp (k:=7) (.inr (.inl rfl)) b1;have:=h.ah (q':=q+1) (i:=⟨7,b,0,0,[],0⟩) (show(7:Int)≠10 by decide) hf (fun hh=>by have hh:(7:Int)=19∨(7:Int)=20:=hh;omega) (oL hf (fun _=>b2) (fun _=>k9 fx.b0) (fun hh=>by have hh:(7:Int)=19∨(7:Int)=20:=hh;omega));exact⟨this.1,this.2.1⟩
 ·have e:r.lY t b=r.gP t:=az h3;rw[e]at hg⊢;exact h.gP fx h0 h7 ht h3 hg
theorem VI.args(fx:Fx base c P C B):∀(ps:List (aK×Int)) {q:Int} {r:Rm},VI base c P C B q r->0<=q->q+ps.length<=8->(∀p∈ps,rJ c P p.1∧(p.1.cY=3->df p.2=true∧nb base B r p.2))->(r.qJ ps).cx<=4096->VI base c P C B 8 (r.qJ ps)∧jO B r (r.qJ ps)
 |[],q,r,h,h0,h7,_,_=>⟨h.Dh (by simpa using h7),jO.Dg⟩
 |(t,b)::ps,q,r,h,h0,h7,hp,hg=>by
  simp only[bR]at h7
  push_cast at h7
  have qU:((r.lY t b).qJ ps).cx<=4096:=hg;have yr:(r.lY t b).cx<=4096:=Int.le_trans (Lu ps _) qU;obtain⟨p1,p2⟩:=hp (t,b) (eP ..);obtain⟨a1,a2⟩:=h.arg fx h0 (by omega) p1 p2 yr;obtain⟨b1,b2⟩:=VI.args fx ps a1 (by omega) (by omega) (fun p gj=>by obtain⟨x1,x2⟩:=hp p (eE _ gj);exact⟨x1,fun hk=>⟨(x2 hk).1,a2.nb (x2 hk).2⟩⟩) qU;exact⟨b1,a2.wu b2⟩
mutual
theorem VI.build(fx:Fx base c P C B):∀(t:aK) {q:Int} {r:Rm} {x:Int},VI base c P C B q r->rJ c P t->t.cY=3->df x=true->(r.lu x t).cx<=4096->VI base c P C B 8 (r.lu x t)∧jO B r (r.lu x t)∧kW B (r.lu x t) x
 |.mk k n s l,q,r,x,h,ht,h3,hx,hg=>by
  rcases ht.De with⟨rfl,_⟩|rfl|⟨rfl,_⟩|⟨rfl,hs,mK,T6,hl⟩
  ·cases h3
  ·cases h3
  ·cases h3
  simp only[Rm.lu]at hg⊢;have qU:((r.dq l).1.ah ⟨15,x,0,0,s,l.length⟩).cx<=4096:=Int.le_trans (Lu _ _) hg;obtain⟨b0,b1,b2⟩:=VI.dq fx l h hl qU;have hf:=akq hx hs mK T6;obtain⟨e1,e2,e3⟩:=b0.ah (q':=0) (i:=⟨15,x,0,0,s,l.length⟩) (show(15:Int)≠10 by decide) hf (fun hh=>by have hh:(15:Int)=19∨(15:Int)=20:=hh;omega) (oL hf (fun hh=>by have hh:(15:Int)=2∨(15:Int)=7∨(15:Int)=12∨(15:Int)=24:=hh;omega) (fun _=>k9 fx.b0) (fun hh=>by have hh:(15:Int)=19∨(15:Int)=20:=hh;omega));have hxw:=e3 x (O5 hf (by show(15:Int)=1∨(15:Int)=6∨(15:Int)=11∨(15:Int)=15∨(15:Int)=22∨(15:Int)=23;omega));obtain⟨a1,a2⟩:=VI.args fx (l.zip (r.dq l).2) e1 (fM _) (by
   have:(l.zip (r.dq l).2).length<=l.length:=by simp;omega
   omega) (fun p hp=>⟨hl.tl _ (List.of_mem_zip hp).1,fun hk=>⟨(b2 p hp hk).1,fun _=>e2 _ (b2 p hp hk).2⟩⟩) hg
  exact⟨a1,b1.wu (e2.wu a2),a2 x hxw⟩
theorem VI.dq(fx:Fx base c P C B):∀(l:bG) {q:Int} {r:Rm},VI base c P C B q r->qG c P l->(r.dq l).1.cx<=4096->VI base c P C B (max q 8) (r.dq l).1∧jO B r (r.dq l).1∧∀p∈l.zip (r.dq l).2,p.1.cY=3->df p.2=true∧kW B (r.dq l).1 p.2
 |[],q,r,h,_,_=>⟨h.Dh (by omega),jO.Dg,fun p hp=>by simp[Rm.dq]at hp⟩
 |t::l,q,r,h,hl,hg=>by
  obtain⟨l1,l2⟩:=hl.Df;simp only[Rm.dq]at hg⊢;by_cases h3:t.cY=3
  ·simp only[aN h3]at hg⊢;have qU:(r.bo.lu r.bo.cE t).cx<=4096:=Int.le_trans (Lv l _) hg;have yr:r.bo.cx<=4096:=Int.le_trans (SW t r.bo _) qU;obtain⟨t1,t2,t3,t4⟩:=h.bo fx.b0 yr;have kZ:df r.bo.cE=true:=FQ.2 ⟨by have:=fx.b0;omega,by have:=fx.b0;omega,t4⟩;obtain⟨u1,u2,u3⟩:=VI.build fx t t1 l1 h3 kZ qU;obtain⟨w1,w2,w3⟩:=VI.dq fx l u1 l2 hg;refine⟨w1.Dh (by omega),t2.wu (u2.wu w2),fun p hp hk=>?_⟩;rw[List.zip_cons_cons]at hp;rcases List.mem_cons.1 hp with rfl|hp
   ·exact⟨kZ,w2 _ u3⟩
   ·exact w3 p hp hk
  ·simp only[az h3]at hg⊢;obtain⟨w1,w2,w3⟩:=VI.dq fx l h l2 hg;refine⟨w1,w2,fun p hp hk=>?_⟩;rw[List.zip_cons_cons]at hp;rcases List.mem_cons.1 hp with rfl|hp
   ·exact absurd hk h3
   ·exact w3 p hp hk
end
end
end
end Go.Cl
