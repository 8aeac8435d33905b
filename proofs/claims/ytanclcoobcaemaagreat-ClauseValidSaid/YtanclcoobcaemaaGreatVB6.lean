/- Part of a proof of ClauseValid. -/
import Derived.Test.YtanclcoobcaemaaGreatVB5
set_option linter.all false
set_option linter.unusedSectionVars false
set_option maxRecDepth 100000
namespace Go.Cl
open Go.Ev Go.Proofs
noncomputable section
def aeh:LV->Option (Prop×AV)
 |[.au [.ck .i64 k,.aa _,.ck .i64 _,.ck .i64 _,.ax _ _ 4,.ck .i64 _]]=>some (True,.ai (decide (k=2∨k=3∨k=4)))
 |_=>none
def JU:Ev.bz:=eB 95 (eG aeh) PK
def rG(c:Int)(st:dg)(g:gH):dg:=if oL g then jm (gg c st g.cx) g.gE c else gg c st g.cx
def rH:Nat->dg->cY->dg
 |_,st,[]=>st
 |c,st,g::gs=>rH (if g.cS=1 then c+1 else c) (rG c st g) gs
def wm(f:bg)(st:dg):dg:=rH 0 (gg 0 st f.aO) f.aA
def DX(f:bg)(st:dg):AH:=an [(0,oh .ready (lT 3 4 1 5 6) 2),(1,cu f),(2,jE),(3,cu f),(4,.aw [.ad 7 st.2.length 1] 58),(5,mw),(6,.aw [.aH 8] 101),(7,pZ st.2),(8,fV st.1)] 9
def o91(f:bg)(st:dg):AH:=an [(0,oh .ready (lT 3 4 1 5 6) 2),(1,cu f),(2,jE),(3,cu f),(4,.aw [.ad 9 st.2.length 1] 58),(5,mw),(6,.aw [.aH 8] 101),(7,.b9 []),(8,fV st.1),(9,pZ st.2)] 10
def r91(f:bg)(k:Int)(st:dg):AH:=an [(0,oh .ready (lT 3 4 1 5 6) 2),(1,cu f),(2,jE),(3,cu f),(4,.aw [.ad 11 st.2.length 1] 58),(5,mw),(6,.aw [.aH 8] 101),(7,.b9 []),(8,fV st.1),(9,.aw [.gd 0] 143),(10,.aw [J k] 3),(11,pZ st.2)] 12
theorem alh{f f':bg}{st kN:dg}(h:DX f st=DX f' kN):f=f'∧st=kN:=by
 have q:=fun i=>congrArg (fun H=>AH.bu H i) h
 simp only[DX,dy]at q;exact⟨RG (dz (q 1)),Prod.ext (IN (dz (q 8))) (MZ (dz (q 7)))⟩
def UK:dp (bg×dg)where
 ba w A H:=A=[.gd 0,.ab 1 0]∧H=DX w.1 w.2∧hJ w.1∧w.2.2.length+bA w.1.aO+e8 w.1.aA<60000
 v w:=.aJ []
 aN w:=o91 w.1 (wm w.1 w.2)
theorem an3:UK.dx:=by rintro⟨f,st⟩ ⟨f',kN⟩ A H ⟨h1,h2,_⟩ ⟨k1,k2,_⟩;obtain⟨rfl,rfl⟩:=alh (h2.symm.trans k2);rfl
def PM:Ev.bz:=cz 91 (cM UK an3 cZ) JU
def UJ:dp bg where
 ba f A H:=A=[.au (ft f)]∧H=aq
 v f:=.bR (.func 91) [] [.ab 0 0]
 aN f:=an [(0,cu f)] 1
theorem an2:UJ.dx:=by rintro f f' A H ⟨h1,_⟩ ⟨k1,_⟩;rw[h1]at k1;simp only[List.cons.injEq,AV.au.injEq,and_true]at k1;rw[vG _ _ k1]
def PN:Ev.bz:=cz 54 (cM UJ an2 cZ) PM
theorem auG(k:Int)(nm:LN)(ar aC:Int)(cs:LV)(len:Nat)(v:Int)(L:LT)(Q:QT):
 b8 Z PK (fun _=>[]) L Q 1000 95 [.au [J k,.aa nm,J ar,J aC,.ax cs len 4,J v]] aq=(
 ah (k==2) (Q (.ai true) aq) (ah (k==3) (Q (.ai true) aq) (Q (.ai (k==4)) aq))):=by kernel_rfl
abbrev Co x0 x1 x2:=aQ [(2,.ab 9 0),(3,.ab 10 0),(4,.bR (.func 92) [] [.ab 9 0,.ab 10 0]),(14,.ax x0 x1 6),(15,J (Int.ofNat x1)),(16,J x2)]
abbrev abu x0 x1 x2 x3 x4:=an [(0,.aw [.gd 2] 143),(1,.aw [J x0] 3),(2,oh LoopState.ready [(1,.ab 4 0),(2,.ab 7 0),(4,.ab 8 0),(5,.ab 5 0),(21,.bR (.func 91) [] [.ab 6 0])] 3),(3,jE),(4,cu x1),(5,.aw [.ad 9 x2 1] 58),(6,cu x1),(7,mw),(8,.aw [.aH 10] 101),(9,bp x3 2),(10,fV x4)] 11
abbrev Hk x0 x1 x2 x3 x4:=an [(0,oh LoopState.ready [(1,.ab 3 0),(2,.ab 5 0),(4,.ab 6 0),(5,.ab 4 0),(21,.bR (.func 91) [] [.ab 1 0])] 2),(1,cu x0),(2,jE),(3,cu x0),(4,.aw [.ad 11 x1 1] 58),(5,mw),(6,.aw [.aH 8] 101),(7,.b9 []),(8,fV x2),(9,.aw [.gd 0] 143),(10,.aw [J x3] 3),(11,bp x4 2)] 12
theorem auw(f:bg)(st:dg)(L:LT)(Q:QT):
 b8 Z JU (fun _=>[2,3,4,14,15,16]) L Q 1000 91 [.gd 0,.ab 1 0] (DX f st)=(
 ∃w:bg×Int×dg×bH,(([.ax (aP f.aO) f.aO.length 4,.ab 0 0,.ab 1 0]:LV)=[.ax (aP w.2.2.2) w.2.2.2.length 4,.ab 0 0,.ab 1 0]∧abu 0 f st.2.length st.2 st.1=hW w.1 w.2.1 w.2.2.1∧eF w.2.2.2.length∧gU w.2.2.2∧w.2.2.1.2.length+bA w.2.2.2<60000)∧L (Co (bN w.1.aA) w.1.aA.length 0) (Hk w.1 (gg w.2.1 w.2.2.1 w.2.2.2).2.length (gg w.2.1 w.2.2.1 w.2.2.2).1 w.2.1 (gg w.2.1 w.2.2.1 w.2.2.2).2) (ao Z 91 0)):=by kernel_rfl
theorem auy(f:bg)(k:Int)(st:dg)(gs:LV)(gl:Nat)(i:Int)(L:LT)(Q:QT):
 cO Z JU (fun _=>[2,3,4,14,15,16]) L Q 1000 91 9 (Co gs gl i) (ao Z 91 0) (r91 f k st)=(
 ah (decide (i<Int.ofNat gl)) (∃aD:Nat,i=(aD:Int)∧aD<gl∧(∃n:Int,∃s:LN,∃aL:Int,∃bD:Int,∃cs:LV,∃len:Nat,∃cf:Int,((gs.drop (aD*6)).take 6:LV)=[J n,.aa s,J aL,J bD,.ax cs len 4,J cf]∧(∃w:bg×Int×dg×bH,(([.ax cs len 4,.ab 0 0,.ab 1 0]:LV)=[.ax (aP w.2.2.2) w.2.2.2.length 4,.ab 0 0,.ab 1 0]∧abu k f st.2.length st.2 st.1=hW w.1 w.2.1 w.2.2.1∧eF w.2.2.2.length∧gU w.2.2.2∧w.2.2.1.2.length+bA w.2.2.2<60000)∧(an [] 0=aq∧True)∧ah (decide (n=2∨n=3∨n=4)) (∃ae:bg×dg×Int×Int,(([.gd 0,.au [J cf,J w.2.1]]:LV)=[.gd 0,.au [J ae.2.2.1,J ae.2.2.2]]∧an [(0,oh LoopState.ready [(1,.ab 2 0),(2,.ab 5 0),(4,.ab 6 0),(5,.ab 3 0),(21,.bR (.func 91) [] [.ab 4 0])] 1),(1,jE),(2,cu w.1),(3,.aw [.ad 7 (gg w.2.1 w.2.2.1 w.2.2.2).2.length 1] 58),(4,cu w.1),(5,mw),(6,.aw [.aH 8] 101),(7,bp (gg w.2.1 w.2.2.1 w.2.2.2).2 2),(8,fV (gg w.2.1 w.2.2.1 w.2.2.2).1)] 9=hR ae.1 ae.2.1∧ae.2.1.2.length<60000)∧ah (n==1) (L (Co gs gl (wI (i+1))) (Hk ae.1 (jm ae.2.1 ae.2.2.1 ae.2.2.2).2.length (jm ae.2.1 ae.2.2.1 ae.2.2.2).1 (wI (w.2.1+1)) (jm ae.2.1 ae.2.2.1 ae.2.2.2).2) (ao Z 91 0)) (L (Co gs gl (wI (i+1))) (Hk ae.1 (jm ae.2.1 ae.2.2.1 ae.2.2.2).2.length (jm ae.2.1 ae.2.2.1 ae.2.2.2).1 w.2.1 (jm ae.2.1 ae.2.2.1 ae.2.2.2).2) (ao Z 91 0))) (ah (n==1) (L (Co gs gl (wI (i+1))) (Hk w.1 (gg w.2.1 w.2.2.1 w.2.2.2).2.length (gg w.2.1 w.2.2.1 w.2.2.2).1 (wI (w.2.1+1)) (gg w.2.1 w.2.2.1 w.2.2.2).2) (ao Z 91 0)) (L (Co gs gl (wI (i+1))) (Hk w.1 (gg w.2.1 w.2.2.1 w.2.2.2).2.length (gg w.2.1 w.2.2.1 w.2.2.2).1 w.2.1 (gg w.2.1 w.2.2.1 w.2.2.2).2) (ao Z 91 0)))))) (Q (.aJ []) (an [(0,oh LoopState.ready [(1,.ab 3 0),(2,.ab 5 0),(4,.ab 6 0),(5,.ab 4 0),(21,.bR (.func 91) [] [.ab 1 0])] 2),(1,cu f),(2,jE),(3,cu f),(4,.aw [.ad 9 st.2.length 1] 58),(5,mw),(6,.aw [.aH 8] 101),(7,.b9 []),(8,fV st.1),(9,bp st.2 2)] 10))):=by kernel_rfl
theorem aty(f:bg)(L:LT)(Q:QT):
 b8 Z PM (fun _=>[]) L Q 1000 54 [.au (ft f)] aq=(
 Q (.bR (.func 91) [] [.ab 0 0]) (fH f.ay.ca f.ay.ar f.ay.aC (aP f.aO) f.aO.length (bN f.aA) f.aA.length)):=by kernel_rfl
theorem PL:bm Z JU:=by
 refine iE Yy fun args q v h hq=>?_
 unfold aeh at h;split at h<;>cases h;rename_i k nm ar aC cs len v;refine eS Yy 1000 (fun _=>[]) 16 (by kernel_rfl) ?_
 ·rw[auG];refine aI.2 ⟨fun h=>?_,fun h=>aI.2 ⟨fun h2=>?_,fun h2=>?_⟩⟩
  ·have h:k=2:=by simpa using h
   exact⟨by simp[h],rfl⟩
  ·have h2:k=3:=by simpa using h2
   exact⟨by simp[h2],rfl⟩
  ·have h:¬k=2:=by simpa using h
   have h2:¬k=3:=by simpa using h2
   refine⟨?_,rfl⟩;congr 1;by_cases h3:k=4<;>simp[h,h2,h3]
theorem ad0(c:Int)(st:dg)(g:gH):(rG c st g).2.length<=st.2.length+bA g.cx+1:=by have h1:=Fe c st g.cx;have h2:=adX (gg c st g.cx) g.gE c;unfold rG;split<;>omega
theorem auv{f:bg}{az:dg}{gs:cY}(hl:eF gs.length)(ho:∀g∈gs,nF g)(hG:gs.length<60000):
 ∀p:Nat×Nat×dg,(p.1<=gs.length∧p.2.1<=p.1∧p.2.2.2.length+e8 (gs.drop p.1)<60000∧rH p.2.1 p.2.2 (gs.drop p.1)=az)->
 bJ Z 91 44 9 (.aJ []) (o91 f az) (Co (bN gs) gs.length (p.1:Int)) (r91 f (p.2.1:Int) p.2.2) (ao Z 91 0):=by
 refine cV (fun p=>gs.length-p.1) _ _ _ _ ?_;rintro⟨i,c,st⟩ ⟨hi,hc,hq,hf⟩ ih;simp only at hi hc hq hf ih⊢;refine hD PL 1000 (fun _=>[2,3,4,14,15,16]) (by kernel_rfl) ?_;rw[auy];refine aI.2 ⟨fun aj=>?_,fun aS=>?_⟩
 ·have aj:i<gs.length:=by simpa using aj
  obtain⟨k,nm,ar,aC,ls,v,he,bX,bn⟩:=ra aj ho;rw[dN aj,he,rH]at hf;rw[dN aj,he,e8]at hq;simp only at hf hq;have h1:=Fe c st ls;have h2:=ad0 c st ⟨k,⟨nm,ar,aC⟩,ls,v⟩;simp only at h2;have next:=ih (i+1,(if k=1 then c+1 else c),rG c st ⟨k,⟨nm,ar,aC⟩,ls,v⟩) ⟨by simp;omega,by simp only;split<;>omega,by simp only;omega,hf⟩ (by simp;omega)
  simp only at next
  refine⟨i,rfl,aj,k,nm,ar,aC,_,_,v,bX,(f,(c:Int),st,ls),⟨rfl,rfl,bn.2.1,bn.2.2,by simp only;omega⟩,⟨rfl,trivial⟩,?_⟩;rw[je hl aj];have hw:wI ((c:Int)+1)=((c+1:Nat):Int):=gq (n:=c+1) (lR c) (by omega);refine aI.2 ⟨fun h=>?_,fun h=>?_⟩
  ·have jY:oL ⟨k,⟨nm,ar,aC⟩,ls,v⟩=true:=by simpa[oL]using h
   have e:rG c st ⟨k,⟨nm,ar,aC⟩,ls,v⟩=jm (gg c st ls) v c:=by simp[rG,jY]
   rw[e]at next
   refine⟨(f,gg c st ls,v,(c:Int)),⟨rfl,rfl,by simp only;omega⟩,aI.2 ⟨fun hk=>?_,fun hk=>?_⟩⟩
   ·have hk:k=1:=by simpa using hk
    rw[aY hk]at next
    rw[hw];exact next
   ·have hk:¬k=1:=by simpa using hk
    rw[aB hk]at next
    exact next
  ·have jY:oL ⟨k,⟨nm,ar,aC⟩,ls,v⟩=false:=by simpa[oL]using h
   have e:rG c st ⟨k,⟨nm,ar,aC⟩,ls,v⟩=gg c st ls:=by simp[rG,jY]
   rw[e]at next
   refine aI.2 ⟨fun hk=>?_,fun hk=>?_⟩
   ·have hk:k=1:=by simpa using hk
    rw[aY hk]at next
    rw[hw];exact next
   ·have hk:¬k=1:=by simpa using hk
    rw[aB hk]at next
    exact next
 ·have aS:gs.length<=i:=by simpa using aS
  rw[eT aS,rH]at hf;subst hf;exact⟨rfl,rfl⟩
theorem Yz:bm Z PM:=by refine de PL ?_;rintro⟨f,st⟩ args H ⟨rfl,rfl,ho,hc⟩;have hc:st.2.length+bA f.aO+e8 f.aA<60000:=hc;have hg:=G' f.aA;have h1:=Fe 0 st f.aO;refine eS PL 1000 (fun _=>[2,3,4,14,15,16]) 44 (by kernel_rfl) ?_;simp only[UK];rw[auw];refine⟨(f,0,st,f.aO),⟨rfl,rfl,ho.2.1,ho.2.2.1,by simp only;omega⟩,?_⟩;exact auv (f:=f) ho.2.2.2.1 ho.2.2.2.2 (show f.aA.length<60000 by omega) (0,0,gg 0 st f.aO) ⟨by simp,by simp,by simp only[jB];omega,rfl⟩
theorem YA:bm Z PN:=by refine de Yz ?_;rintro f args H ⟨rfl,rfl⟩;refine eS Yz 1000 (fun _=>[]) 4 (by kernel_rfl) ?_;simp only[UJ];rw[aty];exact⟨rfl,rfl⟩
end
end Go.Cl
namespace Go.Cl
open Go.Ev
noncomputable section
def pV(key:Int->Int)(x:Int):LI->LI
 |[]=>[x]
 |y::l=>if key y>key x then y::pV key x l else x::y::l
def ct(key:Int->Int):LI->LI
 |[]=>[]
 |x::l=>pV key x (ct key l)
def dt(key:Int->Int)(l:LI):Prop:=l.Pairwise (fun x y=>key y<=key x)
def ui(key:Int->Int)(s t:LI):Prop:=dt key t∧∀k,t.filter (fun x=>key x=k)=s.filter (fun x=>key x=k)
theorem acv(key:Int->Int)(x k:Int):∀l:LI,(pV key x l).filter (fun x=>key x=k)=(x::l).filter (fun x=>key x=k)
 |[]=>rfl
 |y::l=>by
  simp only[pV];split
  ·rename_i h;rw[List.filter_cons,acv key x k l];simp only[List.filter_cons];by_cases hx:key x=k
   ·have hy:¬key y=k:=by omega
    simp[hx,hy]
   ·simp[hx]
  ·rfl
theorem acx(key:Int->Int)(x z:Int):∀l:LI,z∈pV key x l↔z=x∨z∈l
 |[]=>by simp[pV]
 |y::l=>by
  simp only[pV];split
  ·simp only[sy,acx key x z l];constructor
   ·rintro(h|h|h)
    ·exact .inr (.inl h)
    ·exact .inl h
    ·exact .inr (.inr h)
   ·rintro(h|h|h)
    ·exact .inr (.inl h)
    ·exact .inl h
    ·exact .inr (.inr h)
  ·simp only[sy]
theorem acu(key:Int->Int)(x:Int):∀l:LI,dt key l->dt key (pV key x l)
 |[],_=>by simp[pV,dt]
 |y::l,h=>by
  unfold dt at h⊢;rw[List.pairwise_cons]at h;simp only[pV];split
  ·rename_i HZ;rw[List.pairwise_cons];refine⟨fun z hz=>?_,acu key x l h.2⟩;rcases(acx key x z l).1 hz with rfl|hz
   ·omega
   ·exact h.1 z hz
  ·rename_i HZ;rw[List.pairwise_cons];refine⟨fun z hz=>?_,List.pairwise_cons.2 h⟩;rcases List.mem_cons.1 hz with rfl|hz
   ·omega
   ·have:=h.1 z hz;omega
theorem px(key:Int->Int):∀s:LI,ui key s (ct key s)
 |[]=>⟨List.Pairwise.nil,fun _=>rfl⟩
 |x::s=>by have ih:=px key s;refine⟨acu key x _ ih.1,fun k=>?_⟩;simp only[ct];rw[acv,List.filter_cons,List.filter_cons,ih.2 k]
theorem DK{key:Int->Int}{s t:LI}(h:∀k,t.filter (fun x=>key x=k)=s.filter (fun x=>key x=k)){x:Int}(hx:x∈t):x∈s:=by have:x∈t.filter (fun y=>key y=key x):=List.mem_filter.2 ⟨hx,by simp⟩;rw[h]at this;exact(List.mem_filter.1 this).1
theorem ui.uY{key:Int->Int}{s t:LI}(h:ui key s t)(x:Int):x∈t↔x∈s:=⟨DK h.2,DK (fun k=>(h.2 k).symm)⟩
theorem Z7{key:Int->Int}:∀{t u:LI},dt key t->dt key u->(∀k,t.filter (fun x=>key x=k)=u.filter (fun x=>key x=k))->t=u
 |[],[],_,_,_=>rfl
 |[],y::u,_,_,h=>by have:=DK (fun k=>(h k).symm) (gi (a:=y) (l:=u));cases this
 |x::t,[],_,_,h=>by have:=DK h (gi (a:=x) (l:=t));cases this
 |x::t,y::u,ht,hu,h=>by
  have hx:=DK h (gi (a:=x) (l:=t));have hy:=DK (fun k=>(h k).symm) (gi (a:=y) (l:=u));unfold dt at ht hu;rw[List.pairwise_cons]at ht hu;have e1:key x<=key y:=by
   rcases List.mem_cons.1 hx with rfl|hx
   ·exact u4 _
   ·exact hu.1 x hx
  have e2:key y<=key x:=by
   rcases List.mem_cons.1 hy with rfl|hy
   ·exact u4 _
   ·exact ht.1 y hy
  have e:key x=key y:=by omega
  have h0:=h (key x);rw[List.filter_cons,List.filter_cons,aY (by simp),aY (by simp[e])]at h0;have HZ:=(List.cons.inj h0).1;subst HZ;rw[Z7 ht.2 hu.2 fun k=>?_];have h1:=h k;rw[List.filter_cons,List.filter_cons]at h1;split at h1
  ·exact(List.cons.inj h1).2
  ·exact h1
theorem ui.eq{key:Int->Int}{s t:LI}(h:ui key s t):ct key s=t:=
 Z7 (px key s).1 h.1 (fun k=>((px key s).2 k).trans (h.2 k).symm)
theorem acw(key:Int->Int)(x:Int):∀l:LI,(pV key x l).length=l.length+1
 |[]=>rfl
 |y::l=>by
  simp only[pV];split
  ·simp[acw key x l]
  ·rfl
theorem py(key:Int->Int):∀s:LI,(ct key s).length=s.length
 |[]=>rfl
 |x::s=>by simp[ct,acw,py key s]
theorem IP{key:Int->Int}{s:LI}(h:dt key s):ct key s=s:=ui.eq ⟨h,fun _=>rfl⟩
theorem agF{key:Int->Int}{s p q:LI}{x:Int}(h:ct key s=p++q)(hq:∀y∈q,key y<key x)(hp:∀y∈p,key x<=key y):ct key (s++[x])=p++x::q:=by
 have hs:=px key s;rw[h]at hs;refine ui.eq ⟨?_,fun k=>?_⟩
 ·have h1:=List.pairwise_append.1 hs.1;refine List.pairwise_append.2 ⟨h1.1,List.pairwise_cons.2 ⟨fun y hy=>Int.le_of_lt (hq y hy),h1.2.1⟩,fun a ha b hb=>?_⟩;rcases List.mem_cons.1 hb with rfl|hb
  ·exact hp a ha
  ·exact h1.2.2 a ha b hb
 ·have h2:=hs.2 k;simp only[List.filter_append,List.filter_cons,List.filter_nil]at h2⊢;rw[←h2];by_cases hk:key x=k
  ·have:q.filter (fun x=>key x=k)=[]:=by rw[List.filter_eq_nil_iff];intro y hy;have:=hq y hy;simp;omega
   simp[hk,this]
  ·simp[hk]
theorem avs{key:Int->Int}{p q:LI}{x:Int}(hd:dt key (p++q))(hp:∀y∈p,key x<key y)(hq:∀y∈q,key y<=key x):ct key (x::(p++q))=p++x::q:=by
 refine ui.eq ⟨?_,fun k=>?_⟩
 ·have h1:=List.pairwise_append.1 hd;refine List.pairwise_append.2 ⟨h1.1,List.pairwise_cons.2 ⟨hq,h1.2.1⟩,fun a ha b hb=>?_⟩;rcases List.mem_cons.1 hb with rfl|hb
  ·exact Int.le_of_lt (hp a ha)
  ·exact h1.2.2 a ha b hb
 ·simp only[List.filter_append,List.filter_cons];by_cases hk:key x=k
  ·have:p.filter (fun x=>key x=k)=[]:=by rw[List.filter_eq_nil_iff];intro y hy;have:=hp y hy;simp;omega
   simp[hk,this]
  ·simp[hk]
theorem avt{key:Int->Int}{A B C D:LI}(h1:dt key (A++B))(h2:dt key (C++D))(hBC:∀x∈B,∀y∈C,key x<key y)(hAD:∀x∈A,∀y∈D,key y<=key x):
 ct key ((A++B)++(C++D))=ct key (A++C)++ct key (B++D):=by
 have k1:=List.pairwise_append.1 h1;have k2:=List.pairwise_append.1 h2;have s1:=px key (A++C);have s2:=px key (B++D);refine ui.eq ⟨List.pairwise_append.2 ⟨s1.1,s2.1,fun a ha b hb=>?_⟩,fun k=>?_⟩
 ·rcases List.mem_append.1 ((s1.uY a).1 ha)with ha|ha<;>rcases List.mem_append.1 ((s2.uY b).1 hb)with hb|hb
  ·exact k1.2.2 a ha b hb
  ·exact hAD a ha b hb
  ·exact Int.le_of_lt (hBC b hb a ha)
  ·exact k2.2.2 a ha b hb
 ·rw[List.filter_append,s1.2 k,s2.2 k];simp only[List.filter_append];have:B.filter (fun x=>key x=k)=[]∨C.filter (fun x=>key x=k)=[]:=by
   by_cases hc:C.filter (fun x=>key x=k)=[]
   ·exact .inr hc
   ·left;obtain⟨y,hy⟩:=List.exists_mem_of_ne_nil _ hc;have hy:=List.mem_filter.1 hy;rw[List.filter_eq_nil_iff];intro x hx;have:=hBC x hx y hy.1;simp at hy⊢;omega
  rcases this with h|h<;>simp[h]
theorem aye{key:Int->Int}(s t:LI):ct key (ct key s++t)=ct key (s++t):=by refine(ui.eq ⟨(px key (s++t)).1,fun k=>?_⟩);rw[(px key (s++t)).2 k,List.filter_append,List.filter_append,(px key s).2 k]
theorem agD{key:Int->Int}(s t:LI):ct key (ct key s++ct key t)=ct key (s++t):=by refine(ui.eq ⟨(px key (s++t)).1,fun k=>?_⟩);rw[(px key (s++t)).2 k,List.filter_append,List.filter_append,(px key s).2 k,(px key t).2 k]
end
end Go.Cl
namespace Go.Cl
open Go.Ev Go.Proofs
noncomputable section
def ady:LV->Option (Prop×AV)
 |[.ck .i64 _]=>some (True,.ai false)
 |_=>none
def s9(a b:Int):Int:=if a<b then-1 else if a>b then 1 else 0
def ZP:LV->Option (Prop×AV)
 |[.ck .i64 a,.ck .i64 b]=>some (True,J (s9 a b))
 |_=>none
def PO:Ev.bz:=eB 97 (eG ady) PN
def PQ:Ev.bz:=eB 57 (eG ZP) PO
def kS(sp:List (Int×c9))(v:Int):Int:=((lk v sp).getD ⟨0,0,0⟩).Cx
def qs(sp:List (Int×c9)):AH:=an [(0,.aw [.aH 1] 101),(1,fV sp)] 2
theorem alg{a b:List (Int×c9)}(h:qs a=qs b):a=b:=by
 have q:=fun i=>congrArg (fun H=>AH.bu H i) h
 simp only[qs,dy]at q;exact IN (dz (q 1))
def QR:dp (List (Int×c9)×Int×Int)where
 ba w A H:=A=[J w.2.1,J w.2.2,.ab 0 0]∧H=qs w.1
 v w:=J (s9 (kS w.1 w.2.2) (kS w.1 w.2.1))
 aN w:=qs w.1
theorem ai7:QR.dx:=by rintro⟨sp,a,b⟩ ⟨zW,a',b'⟩ A H ⟨h1,h2⟩ ⟨k1,k2⟩;have e:=alg (h2.symm.trans k2);rw[h1]at k1;simp only[List.cons.injEq,AV.ck.injEq,true_and,and_true]at k1 e;rw[e,k1.1,k1.2]
def Gf:Ev.bz:=cz 56 (cM QR ai7 cZ) PQ
def hS(sp:List (Int×c9))(l:LI):AH:=an [(0,pZ l),(1,.aw [.aH 2] 101),(2,fV sp)] 3
theorem A7{a b:List (Int×c9)}{l m:LI}(h:hS a l=hS b m):a=b∧l=m:=by
 have q:=fun i=>congrArg (fun H=>AH.bu H i) h
 simp only[hS,dy]at q;exact⟨IN (dz (q 2)),MZ (dz (q 0))⟩
def cF:AV:=.bR (.func 56) [] [.ab 1 0]
def TZ:dp (List (Int×c9)×LI×LI×LI)where
 ba w A H:=A=[.ad 0 (w.2.1++w.2.2.1++w.2.2.2).length 1,J (w.2.1.length:Int),J ((w.2.1++w.2.2.1).length:Int),cF]∧H=hS w.1 (w.2.1++w.2.2.1++w.2.2.2)∧(w.2.1++w.2.2.1++w.2.2.2).length<60000
 v w:=.aJ []
 aN w:=hS w.1 (w.2.1++ct (kS w.1) w.2.2.1++w.2.2.2)
theorem amQ:TZ.dx:=by
 rintro⟨sp,U,X,W⟩ ⟨zW,U',X',W'⟩ A H ⟨h1,h2,_⟩ ⟨k1,k2,_⟩;obtain⟨rfl,e⟩:=A7 (h2.symm.trans k2);rw[h1]at k1;simp only[List.cons.injEq,AV.ck.injEq,AV.ad.injEq,true_and,and_true]at k1 e;have e1:U.length=U'.length:=by omega
 have e2:(U++X).length=(U'++X').length:=by omega
 obtain⟨e3,rfl⟩:=List.append_inj e e2;obtain⟨rfl,rfl⟩:=List.append_inj e3 e1;rfl
def JV:Ev.bz:=cz 120 (cM TZ amQ cZ) Gf
def Wq:dp (List (Int×c9)×LI×LI×LI×LI×LI)where
 ba w A H:=A=[.ad 0 (w.2.1++w.2.2.1++w.2.2.2.1++w.2.2.2.2.1++w.2.2.2.2.2).length 1,J (w.2.1.length:Int),J ((w.2.1++w.2.2.1++w.2.2.2.1).length:Int),J (w.2.2.1.length:Int),cF]∧H=hS w.1 (w.2.1++w.2.2.1++w.2.2.2.1++w.2.2.2.2.1++w.2.2.2.2.2)∧(w.2.1++w.2.2.1++w.2.2.2.1++w.2.2.2.2.1++w.2.2.2.2.2).length<60000∧w.2.2.1.length=w.2.2.2.2.1.length
 v w:=.aJ []
 aN w:=hS w.1 (w.2.1++w.2.2.2.2.1++w.2.2.2.1++w.2.2.1++w.2.2.2.2.2)
theorem avq:Wq.dx:=by
 rintro⟨sp,U,X,V,Y,W⟩ ⟨zW,U',X',V',Y',W'⟩ A H ⟨h1,h2,_,h4⟩ ⟨k1,k2,_,k4⟩;obtain⟨rfl,e⟩:=A7 (h2.symm.trans k2);rw[h1]at k1;simp only[List.cons.injEq,AV.ck.injEq,AV.ad.injEq,true_and,and_true]at k1 e h4 k4;have e1:U.length=U'.length:=by omega
 have e0:X.length=X'.length:=by omega
 have e2:(U++X++V).length=(U'++X'++V').length:=by omega
 have e6:(U++X++V++Y).length=(U'++X'++V'++Y').length:=by rw[bI,bI (bs:=Y'),e2,←h4,←k4,e0]
 obtain⟨e3,rfl⟩:=List.append_inj e e6;obtain⟨e4,rfl⟩:=List.append_inj e3 e2;have e7:(U++X).length=(U'++X').length:=by rw[bI,bI,e1,e0]
 obtain⟨e5,rfl⟩:=List.append_inj e4 e7;obtain⟨rfl,rfl⟩:=List.append_inj e5 e1;rfl
def JW:Ev.bz:=cz 143 (cM Wq avq cZ) JV
def BI:Nat->LN:=kg [(1,[0,1,2,3,8]),(4,[0,1,2,3,8,9])]
theorem auO(a:Int)(L:LT)(Q:QT):
 b8 Z PN (fun _=>[]) L Q 1000 97 [J a] aq=(
 Q (.ai (a !=a)) aq):=by kernel_rfl
theorem atB(a b:Int)(L:LT)(Q:QT):
 b8 Z PO (fun _=>[]) L Q 1000 57 [J a,J b] aq=(
 (an [] 0=aq∧True)∧(an [] 0=aq∧True)∧ah (decide (a<b)) (Q (J (-1)) aq) (ah (decide (a>b)) (Q (J 1) aq) (Q (J 0) aq))):=by kernel_rfl
theorem atA(sp:List (Int×c9))(a b:Int)(L:LT)(Q:QT):
 b8 Z PQ (fun _=>[]) L Q 1000 56 [J a,J b,.ab 0 0] (qs sp)=(
 ∃n:Int,∃aL:Int,∃bD:Int,∃jD:Bool,fX Z 2 108 (bM vS 0 sp) (J b)=some (.au [J n,J aL,J bD],jD)∧(∃cf:Int,∃cK:Int,∃fI:Int,∃vA:Bool,fX Z 2 108 (bM vS 0 sp) (J a)=some (.au [J cf,J cK,J fI],vA)∧(an [] 0=aq∧True)∧Q (J (s9 bD fI)) (qs sp))):=by kernel_rfl
abbrev WA x0 x1 x2 x3:=aQ [(0,.ad 0 x0 1),(1,J x1),(2,J x2),(3,.bR (.func 56) [] [.ab 1 0]),(8,J x3)]
abbrev A3 x0 x1:=an [(0,bp x0 2),(1,.aw [.aH 2] 101),(2,fV x1)] 3
theorem aq8(sp:List (Int×c9))(l:LI)(a b:Int)(L:LT)(Q:QT):
 b8 Z Gf BI L Q 1000 120 [.ad 0 l.length 1,J a,J b,cF] (hS sp l)=(
 L (WA l.length a b (wI (a+1))) (A3 l sp) (ao Z 120 0)):=by kernel_rfl
theorem afE(sp:List (Int×c9))(l:LI)(a b i:Int)(L:LT)(Q:QT):
 cO Z Gf BI L Q 1000 120 3 (aQ [(0,.ad 0 l.length 1),(1,J a),(2,J b),(3,cF),(8,J i)]) (ao Z 120 0) (hS sp l)=(
 ah (decide (i<b)) (L (aQ [(0,.ad 0 l.length 1),(1,J a),(2,J b),(3,.bR (.func 56) [] [.ab 1 0]),(8,J i),(9,J i)]) (A3 l sp) (ao Z 120 1)) (Q (.aJ []) (A3 l sp))):=by kernel_rfl
theorem aq6(sp:List (Int×c9))(l:LI)(a b i j:Int)(L:LT)(Q:QT):
 cO Z Gf BI L Q 1000 120 3 (aQ [(0,.ad 0 l.length 1),(1,J a),(2,J b),(3,cF),(8,J i),(9,J j)]) (ao Z 120 1) (hS sp l)=(
 ah (decide (j>a)) (∃aD:Nat,j=(aD:Int)∧aD<l.length∧(∃n:Int,bQ Z 2 (aX l) (aD*1)=some (J n:AV)∧(∃bU:Nat,wI (j-1)=(bU:Int)∧bU<l.length∧(∃aL:Int,bQ Z 2 (aX l) (bU*1)=some (J aL:AV)∧(∃w:List (Int×c9)×Int×Int,(([J n,J aL,.ab 0 0]:LV)=[J w.2.1,J w.2.2,.ab 0 0]∧qs sp=qs w.1)∧ah (decide (s9 (kS w.1 w.2.2) (kS w.1 w.2.1)<0)) (∃cd:Nat,wI (j-1)=(cd:Int)∧cd<l.length∧(∃bD:Int,bQ Z 2 (aX l) (cd*1)=some (J bD:AV)∧(∃eE:Nat,j=(eE:Int)∧eE<l.length∧(∃cf:Int,bQ Z 2 (aX l) (eE*1)=some (J cf:AV)∧(∃sj:Nat,j=(sj:Int)∧sj<l.length∧sj*1+1<=(aX l).length∧(∃L':Nat,wI (j-1)=(L':Int)∧L'<l.length∧L'*1+1<=(fY (aX l) (sj*1) [J bD]).length∧L (aQ [(0,.ad 0 l.length 1),(1,J a),(2,J b),(3,.bR (.func 56) [] [.ab 1 0]),(8,J i),(9,J (wI (j-1)))]) (an [(0,.aF (fY (fY (aX l) (sj*1) [J bD]) (L'*1) [J cf]) 2),(1,.aw [.aH 2] 101),(2,fV w.1)] 3) (ao Z 120 1))))))) (L (WA l.length a b (wI (i+1))) (A3 l w.1) (ao Z 120 0))))))) (L (WA l.length a b (wI (i+1))) (A3 l sp) (ao Z 120 0))):=by kernel_rfl
theorem ar5(sp:List (Int×c9))(l:LI)(a b n:Int)(L:LT)(Q:QT):
 b8 Z JV (fun _=>[0,1,2,3,10]) L Q 1000 143 [.ad 0 l.length 1,J a,J b,J n,cF] (hS sp l)=(
 L (aQ [(0,.ad 0 l.length 1),(1,J a),(2,J b),(3,J n),(10,J 0)]) (A3 l sp) (ao Z 143 0)):=by kernel_rfl
theorem ar6(sp:List (Int×c9))(l:LI)(a b n i:Int)(L:LT)(Q:QT):
 cO Z JV (fun _=>[0,1,2,3,10]) L Q 1000 143 3 (aQ [(0,.ad 0 l.length 1),(1,J a),(2,J b),(3,J n),(10,J i)]) (ao Z 143 0) (hS sp l)=(
 ah (decide (i<n)) (∃aD:Nat,wI (b+i)=(aD:Int)∧aD<l.length∧(∃aL:Int,bQ Z 2 (aX l) (aD*1)=some (J aL:AV)∧(∃bU:Nat,wI (a+i)=(bU:Int)∧bU<l.length∧(∃bD:Int,bQ Z 2 (aX l) (bU*1)=some (J bD:AV)∧(∃cd:Nat,wI (a+i)=(cd:Int)∧cd<l.length∧cd*1+1<=(aX l).length∧(∃eE:Nat,wI (b+i)=(eE:Int)∧eE<l.length∧eE*1+1<=(fY (aX l) (cd*1) [J aL]).length∧L (aQ [(0,.ad 0 l.length 1),(1,J a),(2,J b),(3,J n),(10,J (wI (i+1)))]) (an [(0,.aF (fY (fY (aX l) (cd*1) [J aL]) (eE*1) [J bD]) 2),(1,.aw [.aH 2] 101),(2,fV sp)] 3) (ao Z 143 0))))))) (Q (.aJ []) (A3 l sp))):=by kernel_rfl
theorem Jh{l:LI}{i:Nat}(h:i<l.length):bQ Z 2 (aX l) (i*1)=some (J (l.getD i 0)):=by rw[Iu,aX,Nat.mul_one,List.getElem?_map,jn h];simp[List.getD,jn h]
theorem qQ{A B:LI}{x:Int}{i:Nat}(h:i=A.length):bQ Z 2 (aX (A++x::B)) (i*1)=some (J x):=by subst h;rw[Jh (by simp)];simp[List.getD]
theorem aoY{l:LI}{i:Nat}(x:Int)(h:i<l.length):fY (aX l) (i*1) [J x]=aX (l.set i x):=by rw[Nat.mul_one,Nm x h]
theorem zM{A B:LI}{x:Int}{i:Nat}(y:Int)(h:i=A.length):fY (aX (A++x::B)) (i*1) [J y]=aX (A++y::B):=by subst h;rw[aoY y (by simp)];simp
theorem yP{a b:Int}:s9 a b<0↔a<b:=by
 unfold s9;split
 ·simp[*]
 ·split<;>simp[*]
theorem YB:bm Z PO:=by
 refine iE YA fun args q v h hq=>?_
 unfold ady at h;split at h<;>cases h;refine eS YA 1000 (fun _=>[]) 6 (by kernel_rfl) ?_;rw[auO];first
  |exact⟨rfl,rfl⟩
  |exact⟨by simp,rfl⟩
  |(refine aI.2 ⟨fun h=>?_,fun h=>?_⟩<;>first|exact⟨rfl,rfl⟩|simp at h)
theorem YC:bm Z PQ:=by
 refine iE YB fun args q v h hq=>?_
 unfold ZP at h;split at h<;>cases h;rename_i a b;refine eS YB 1000 (fun _=>[]) 20 (by kernel_rfl) ?_;rw[atB];refine⟨⟨rfl,trivial⟩,⟨rfl,trivial⟩,aI.2 ⟨fun h=>?_,fun h=>aI.2 ⟨fun h2=>?_,fun h2=>?_⟩⟩⟩
 ·have h:a<b:=by simpa using h
  exact⟨by simp[s9,h],rfl⟩
 ·have h:¬a<b:=by simpa using h
  have h2:a>b:=by simpa using h2
  exact⟨by simp[s9,h,h2],rfl⟩
 ·have h:¬a<b:=by simpa using h
  have h2:¬a>b:=by simpa using h2
  exact⟨by simp[s9,h,h2],rfl⟩
theorem Mw(sp:List (Int×c9))(v:Int):∃a b c:Int,∃d:Bool,fX Z 2 108 (bM vS 0 sp) (J v)=some (.au [J a,J b,J c],d)∧(lk v sp).getD ⟨0,0,0⟩=⟨a,b,c⟩:=by
 rw[sq _ nv];cases hk:lk v sp with
 |none=>exact⟨0,0,0,false,by rw[ahz];rfl,rfl⟩
 |some s=>exact⟨s.Gw,s.Ak,s.Cx,true,rfl,rfl⟩
theorem Gg:bm Z Gf:=by
 refine de YC ?_;rintro⟨sp,a,b⟩ args H ⟨rfl,rfl⟩;refine eS YC 1000 (fun _=>[]) 15 (by kernel_rfl) ?_;simp only[QR];rw[atA];obtain⟨a1,b1,c1,d1,e1,f1⟩:=Mw sp b;obtain⟨a2,b2,c2,d2,e2,f2⟩:=Mw sp a;refine⟨a1,b1,c1,d1,e1,a2,b2,c2,d2,e2,⟨rfl,trivial⟩,?_⟩;have g1:kS sp b=c1:=by rw[kS,f1]
 have g2:kS sp a=c2:=by rw[kS,f2]
 rw[g1,g2];exact⟨rfl,rfl⟩
section
variable{sp:List (Int×c9)}
def I0(l:LI)(a b i:Nat):Tr AV:=aQ [(0,.ad 0 l.length 1),(1,J (a:Int)),(2,J (b:Int)),(3,cF),(8,J (i:Int))]
theorem aq7{az U W s:LI}{x:Int}{n b:Nat}(hn:(U++s++x::W).length<60000)
 (next:∀l:LI,l=U++ct (kS sp) (s++[x])++W->bJ Z 120 53 3 (.aJ []) (hS sp az) (I0 l U.length b ((U++s).length+1)) (hS sp l) (ao Z 120 0)):
 ∀k:LI×LI,(ct (kS sp) s=k.1++k.2∧∀y∈k.2,kS sp y<kS sp x)->
 bJ Z 120 53 3 (.aJ []) (hS sp az) (aQ [(0,.ad 0 (U++k.1++x::(k.2++W)).length 1),(1,J (U.length:Int)),(2,J (b:Int)),(3,cF),(8,J ((U++s).length:Int)),(9,J ((U++k.1).length:Int))]) (hS sp (U++k.1++x::(k.2++W))) (ao Z 120 1):=by
 refine cV (fun k=>k.1.length) _ _ _ _ ?_;rintro⟨p,q⟩ ⟨hs,hq⟩ ih;simp only at hs hq ih⊢;have bF:=py (kS sp) s;rw[hs]at bF;simp only[bI,dv]at bF hn;have hw:wI (((U++s).length:Int)+1)=(((U++s).length+1:Nat):Int):=gq (lR _) (by simp only[bI];omega);have aN:(∀y∈p,kS sp x<=kS sp y)->bJ Z 120 53 3 (.aJ []) (hS sp az) (aQ [(0,.ad 0 (U++p++x::(q++W)).length 1),(1,J (U.length:Int)),(2,J (b:Int)),(3,cF),(8,J (wI (((U++s).length:Int)+1)))]) (hS sp (U++p++x::(q++W))) (ao Z 120 0):=by intro hp;rw[hw];exact next _ (by rw[agF hs hq hp];simp)
 refine hD Gg 1000 BI (by kernel_rfl) ?_;rw[aq6];refine aI.2 ⟨fun h=>?_,fun h=>?_⟩
 ·have h:U.length<(U++p).length:=by have:=gh h;omega
  have hp:p≠[]:=by rintro rfl;simp at h
  obtain⟨p',y,rfl⟩:∃p' y,p=p'++[y]:=⟨p.dropLast,p.getLast hp,(List.dropLast_concat_getLast hp).symm⟩;have hj:(U++(p'++[y])).length=(U++p').length+1:=by simp;omega
  have L9:wI (((U++(p'++[y])).length:Int)-1)=(((U++p').length:Nat):Int):=by rw[hj,cX]<;>simp only[bI,dv,fk]at bF⊢<;>omega
  have e1:U++(p'++[y])++x::(q++W)=(U++p')++y::x::(q++W):=by simp
  refine⟨(U++(p'++[y])).length,rfl,by simp,x,qQ rfl,(U++p').length,L9,by simp,y,by rw[e1];exact qQ rfl,(sp,x,y),⟨rfl,rfl⟩,aI.2 ⟨fun hc=>?_,fun hc=>?_⟩⟩
  ·have hc:kS sp y<kS sp x:=yP.1 (by simpa using hc);have e2:∀z:Int,(U++p')++y::z::(q++W)=(U++p'++[y])++z::(q++W):=by intro z;simp
   have e3:(U++p')++y::y::(q++W)=(U++p')++y::(y::(q++W)):=rfl;have p1:fY (aX (U++(p'++[y])++x::(q++W))) ((U++(p'++[y])).length*1) [J y]=aX ((U++p')++y::(y::(q++W))):=by rw[zM y rfl];simp
   have p2:fY (aX ((U++p')++y::(y::(q++W)))) ((U++p').length*1) [J x]=aX ((U++p')++x::(y::(q++W))):=zM x rfl;refine⟨(U++p').length,L9,by simp,y,by rw[e1];exact qQ rfl,(U++(p'++[y])).length,rfl,by simp,x,qQ rfl,(U++(p'++[y])).length,rfl,by simp,by rw[sH];simp only[bI,dv,fk];omega,(U++p').length,L9,by simp,?_,?_⟩
   ·rw[p1,sH];simp only[bI,dv,fk];omega
   ·rw[p1,p2,L9];have:=ih (p',y::q) ⟨by rw[hs];simp,by
     intro z hz;rcases List.mem_cons.1 hz with rfl|hz
     ·exact hc
     ·exact hq z hz⟩ (by simp)
    simp only at this;have el:(U++p'++x::(y::q++W)).length=(U++(p'++[y])++x::(q++W)).length:=by simp only[bI,dv,fk];omega
    rw[el]at this;exact this
  ·have hc:¬kS sp y<kS sp x:=fun hh=>by have:=yP.2 hh;simp at hc;omega
   refine aN fun z hz=>?_
   have hd:=(px (kS sp) s).1;rw[hs]at hd;have hd:=(List.pairwise_append.1 hd).1;rcases List.mem_append.1 hz with hz|hz
   ·have:=(List.pairwise_append.1 hd).2.2 z hz y (by simp);omega
   ·simp at hz;subst hz;omega
 ·have h:¬U.length<(U++p).length:=by have:=iF h;omega
  have hp:p=[]:=by rw[←List.length_eq_zero_iff];simp only[bI]at h;omega
  subst hp;exact aN (fun z hz=>by cases hz)
theorem aq5{U X W:LI}(hn:(U++X++W).length<60000):
 ∀k:LI×LI×LI,(k.2.2=U++ct (kS sp) k.1++(k.2.1++W)∧k.1++k.2.1=X)->
 bJ Z 120 53 3 (.aJ []) (hS sp (U++ct (kS sp) X++W)) (I0 k.2.2 U.length (U++X).length (U++k.1).length) (hS sp k.2.2) (ao Z 120 0):=by
 refine cV (fun k=>k.2.1.length) _ _ _ _ ?_;rintro⟨s,t,l⟩ ⟨hl,hX⟩ ih;simp only at hl hX ih⊢;subst hX;refine hD Gg 1000 BI (by kernel_rfl) ?_;unfold I0;rw[afE];refine aI.2 ⟨fun h=>?_,fun h=>?_⟩
 ·have h:(U++s).length<(U++(s++t)).length:=by have:=gh h;omega
  cases t with
  |nil=>simp at h
  |cons x t=>
   subst hl;have:=aq7 (sp:=sp) (az:=U++ct (kS sp) (s++x::t)++W) (U:=U) (W:=t++W) (s:=s) (x:=x) (n:=0) (b:=(U++(s++x::t)).length) (by simp only[bI,dv]at hn⊢;omega)
    (by
      intro l hl;have:=ih (s++[x],t,l) ⟨by rw[hl],by simp⟩ (by simp);simp only at this;have e:(U++(s++[x])).length=(U++s).length+1:=by simp;omega
      rw[e]at this;exact this) (ct (kS sp) s,[]) ⟨by simp,by intro y hy;cases hy⟩
   simp only[BX]at this;have e:(U++ct (kS sp) s).length=(U++s).length:=by simp[py]
   rw[e]at this;exact this
 ·have h:¬(U++s).length<(U++(s++t)).length:=by have:=iF h;omega
  have ht:t=[]:=by rw[←List.length_eq_zero_iff];simp only[bI]at h;omega
  subst ht;subst hl;simp only[lh,BX];exact⟨rfl,rfl⟩
end
theorem PR:bm Z JV:=by
 refine de Gg ?_;rintro⟨sp,U,X,W⟩ args H ⟨rfl,rfl,hn⟩;have hn:(U++X++W).length<60000:=hn;refine eS Gg 1000 BI 53 (by kernel_rfl) ?_;simp only[TZ];rw[aq8];have hw:wI ((U.length:Int)+1)=((U.length+1:Nat):Int):=gq (lR _) (by simp only[bI]at hn;omega);rw[hw];cases X with
 |nil=>
  have H0:bJ Z 120 53 3 (.aJ []) (hS sp (U++ct (kS sp) []++W)) (I0 (U++[]++W) U.length (U++[]).length (U.length+1)) (hS sp (U++[]++W)) (ao Z 120 0):=by refine hD Gg 1000 BI (by kernel_rfl) ?_;unfold I0;rw[afE];refine aI.2 ⟨fun h=>?_,fun h=>⟨rfl,rfl⟩⟩;have:=gh h;simp only[lh]at this;omega
  exact H0
 |cons x X=>
  have:=aq5 (sp:=sp) (U:=U) (X:=x::X) (W:=W) hn ([x],X,U++x::X++W) ⟨by simp[ct,pV],rfl⟩;simp only at this;have e:(U++[x]).length=U.length+1:=by simp
  rw[e]at this;exact this
theorem ar4{sp:List (Int×c9)}{U X V Y W:LI}(hn:(U++X++V++Y++W).length<60000)(Ed:X.length=Y.length):
 ∀k:LI×LI×LI×LI×LI,(k.1++k.2.1=X∧k.2.2.1++k.2.2.2.1=Y∧k.1.length=k.2.2.1.length∧k.2.2.2.2=U++k.2.2.1++k.2.1++V++k.1++k.2.2.2.1++W)->
 bJ Z 143 38 3 (.aJ []) (hS sp (U++Y++V++X++W)) (aQ [(0,.ad 0 k.2.2.2.2.length 1),(1,J (U.length:Int)),(2,J ((U++X++V).length:Int)),(3,J (X.length:Int)),(10,J (k.1.length:Int))]) (hS sp k.2.2.2.2) (ao Z 143 0):=by
 refine cV (fun k=>k.2.1.length) _ _ _ _ ?_;rintro⟨X1,X2,Y1,Y2,l⟩ ⟨h1,h2,h3,hl⟩ ih;simp only at h1 h2 h3 hl ih⊢;subst h1 h2;simp only[bI]at Ed hn;refine hD PR 1000 (fun _=>[0,1,2,3,10]) (by kernel_rfl) ?_;rw[ar6];refine aI.2 ⟨fun h=>?_,fun h=>?_⟩
 ·have h:X1.length<(X1++X2).length:=by have:=gh h;omega
  cases X2 with
  |nil=>simp at h
  |cons x X2=>
   cases Y2 with
   |nil=>simp only[dv,fk]at Ed;omega
   |cons y Y2=>
    subst hl;simp only[dv]at Ed hn;have hb:wI (((U++(X1++x::X2)++V).length:Int)+(X1.length:Int))=(((U++Y1++x::(X2++V++X1)).length:Nat):Int):=by rw[cX]<;>(try simp only[bI,dv])<;>omega
    have ha:wI ((U.length:Int)+(X1.length:Int))=(((U++Y1).length:Nat):Int):=by rw[cX]<;>(try simp only[bI])<;>omega
    have e1:∀z:Int,U++Y1++z::X2++V++X1++y::Y2++W=(U++Y1)++z::(X2++V++X1++y::Y2++W):=by intro z;simp
    have e2:∀z u:Int,(U++Y1)++z::(X2++V++X1++u::Y2++W)=(U++Y1++z::(X2++V++X1))++u::(Y2++W):=by intro z u;simp
    have bF:∀z:Int,(U++Y1++z::(X2++V++X1)).length=(U++Y1++x::(X2++V++X1)).length:=by intro z;simp
    have d_:(U++Y1++x::X2++V++X1++y::Y2++W).length=(U++Y1++x::(X2++V++X1)).length+1+(Y2++W).length:=by simp only[bI,dv];omega
    have LS:(U++Y1).length<(U++Y1++x::(X2++V++X1)).length:=by simp only[bI,dv];omega
    have p1:fY (aX (U++Y1++x::X2++V++X1++y::Y2++W)) ((U++Y1).length*1) [J y]=aX ((U++Y1)++y::(X2++V++X1++y::Y2++W)):=by rw[e1];exact zM y rfl
    have p2:fY (aX ((U++Y1)++y::(X2++V++X1++y::Y2++W))) ((U++Y1++x::(X2++V++X1)).length*1) [J x]=aX ((U++Y1++y::(X2++V++X1))++x::(Y2++W)):=by rw[e2];exact zM x (bF y).symm
    refine⟨(U++Y1++x::(X2++V++X1)).length,hb,by omega,y,by rw[e1,e2];exact qQ rfl,(U++Y1).length,ha,by omega,x,by rw[e1];exact qQ rfl,(U++Y1).length,ha,by omega,by rw[sH];omega,(U++Y1++x::(X2++V++X1)).length,hb,by omega,?_,?_⟩
    ·rw[p1,sH];simp only[bI,dv];omega
    ·rw[p1,p2];have hw:wI ((X1.length:Int)+1)=((X1.length+1:Nat):Int):=gq (lR _) (by omega);rw[hw];have:=ih (X1++[x],X2,Y1++[y],Y2,(U++Y1++y::(X2++V++X1))++x::(Y2++W)) ⟨by simp,by simp,by simp[h3],by simp⟩ (by simp);simp only[bI,dv,fk,jI]at this⊢;have el:U.length+Y1.length+(X2.length+V.length+X1.length+1)+(Y2.length+W.length+1)=U.length+Y1.length+(X2.length+1)+V.length+X1.length+(Y2.length+1)+W.length:=by omega
     rw[el]at this;exact this
 ·have h:¬X1.length<(X1++X2).length:=by have:=iF h;omega
  have e1:X2=[]:=by rw[←List.length_eq_zero_iff];simp only[bI]at h;omega
  subst e1;have e2:Y2=[]:=by rw[←List.length_eq_zero_iff];simp only[fk]at Ed;omega
  subst e2;subst hl;simp only[lh];exact⟨rfl,rfl⟩
theorem PT:bm Z JW:=by refine de PR ?_;rintro⟨sp,U,X,V,Y,W⟩ args H ⟨rfl,rfl,hn,Ed⟩;refine eS PR 1000 (fun _=>[0,1,2,3,10]) 38 (by kernel_rfl) ?_;simp only[Wq];rw[ar5];exact ar4 (sp:=sp) (U:=U) (X:=X) (V:=V) (Y:=Y) (W:=W) hn Ed ([],X,[],Y,U++X++V++Y++W) ⟨rfl,rfl,rfl,by simp⟩
def Nx:dp (List (Int×c9)×LI×LI×LI×LI)where
 ba w A H:=A=[.ad 0 (w.2.1++w.2.2.1++w.2.2.2.1++w.2.2.2.2).length 1,J (w.2.1.length:Int),J ((w.2.1++w.2.2.1).length:Int),J ((w.2.1++w.2.2.1++w.2.2.2.1).length:Int),cF]∧H=hS w.1 (w.2.1++w.2.2.1++w.2.2.2.1++w.2.2.2.2)∧(w.2.1++w.2.2.1++w.2.2.2.1++w.2.2.2.2).length<60000∧0<w.2.2.1.length∧0<w.2.2.2.1.length
 v w:=.aJ []
 aN w:=hS w.1 (w.2.1++w.2.2.2.1++w.2.2.1++w.2.2.2.2)
theorem apD:Nx.dx:=by
 rintro⟨sp,U,X,Y,W⟩ ⟨zW,U',X',Y',W'⟩ A H ⟨h1,h2,_⟩ ⟨k1,k2,_⟩;obtain⟨rfl,e⟩:=A7 (h2.symm.trans k2);rw[h1]at k1;simp only[List.cons.injEq,AV.ck.injEq,AV.ad.injEq,true_and,and_true]at k1 e;have e1:U.length=U'.length:=by omega
 have e2:(U++X).length=(U'++X').length:=by omega
 have e3:(U++X++Y).length=(U'++X'++Y').length:=by omega
 obtain⟨e4,rfl⟩:=List.append_inj e e3;obtain⟨e5,rfl⟩:=List.append_inj e4 e2;obtain⟨rfl,rfl⟩:=List.append_inj e5 e1;rfl
def PU:Ev.bz:=cz 134 (cM Nx apD cZ) JW
abbrev WB x0 x1 x2 x3:=aQ [(0,.ad 0 x0 1),(2,J x1),(4,.bR (.func 56) [] [.ab 1 0]),(10,J x2),(11,J x3)]
abbrev A4 x0 x1:=an [(0,bp x0 2),(1,.aw [.aH 2] 101),(2,fV x1)] 3
theorem arI(sp:List (Int×c9))(l:LI)(a m b:Int)(L:LT)(Q:QT):
 b8 Z JW (fun _=>[0,2,4,10,11]) L Q 1000 134 [.ad 0 l.length 1,J a,J m,J b,cF] (hS sp l)=(
 L (WB l.length m (wI (m-a)) (wI (b-m))) (A4 l sp) (ao Z 134 0)):=by kernel_rfl
theorem arJ(sp:List (Int×c9))(l:LI)(m i j:Int)(L:LT)(Q:QT):
 cO Z JW (fun _=>[0,2,4,10,11]) L Q 1000 134 3 (aQ [(0,.ad 0 l.length 1),(2,J m),(4,cF),(10,J i),(11,J j)]) (ao Z 134 0) (hS sp l)=(
 ah (i !=j) (ah (decide (i>j)) (∃w:List (Int×c9)×LI×LI×LI×LI×LI,(([.ad 0 l.length 1,J (wI (m-i)),J m,J j,.bR (.func 56) [] [.ab 1 0]]:LV)=[.ad 0 (w.2.1++w.2.2.1++w.2.2.2.1++w.2.2.2.2.1++w.2.2.2.2.2).length 1,J ((w.2.1.length:Nat):Int),J (((w.2.1++w.2.2.1++w.2.2.2.1).length:Nat):Int),J ((w.2.2.1.length:Nat):Int),.bR (.func 56) [] [.ab 1 0]]∧A4 l sp=hS w.1 (w.2.1++w.2.2.1++w.2.2.2.1++w.2.2.2.2.1++w.2.2.2.2.2)∧(w.2.1++w.2.2.1++w.2.2.2.1++w.2.2.2.2.1++w.2.2.2.2.2).length<60000∧w.2.2.1.length=w.2.2.2.2.1.length)∧L (WB l.length m (wI (i-j)) j) (A4 (w.2.1++w.2.2.2.2.1++w.2.2.2.1++w.2.2.1++w.2.2.2.2.2) w.1) (ao Z 134 0)) (∃w:List (Int×c9)×LI×LI×LI×LI×LI,(([.ad 0 l.length 1,J (wI (m-i)),J (wI (wI (m+j)-i)),J i,.bR (.func 56) [] [.ab 1 0]]:LV)=[.ad 0 (w.2.1++w.2.2.1++w.2.2.2.1++w.2.2.2.2.1++w.2.2.2.2.2).length 1,J ((w.2.1.length:Nat):Int),J (((w.2.1++w.2.2.1++w.2.2.2.1).length:Nat):Int),J ((w.2.2.1.length:Nat):Int),.bR (.func 56) [] [.ab 1 0]]∧A4 l sp=hS w.1 (w.2.1++w.2.2.1++w.2.2.2.1++w.2.2.2.2.1++w.2.2.2.2.2)∧(w.2.1++w.2.2.1++w.2.2.2.1++w.2.2.2.2.1++w.2.2.2.2.2).length<60000∧w.2.2.1.length=w.2.2.2.2.1.length)∧L (WB l.length m i (wI (j-i))) (A4 (w.2.1++w.2.2.2.2.1++w.2.2.2.1++w.2.2.1++w.2.2.2.2.2) w.1) (ao Z 134 0))) (∃w:List (Int×c9)×LI×LI×LI×LI×LI,(([.ad 0 l.length 1,J (wI (m-i)),J m,J i,.bR (.func 56) [] [.ab 1 0]]:LV)=[.ad 0 (w.2.1++w.2.2.1++w.2.2.2.1++w.2.2.2.2.1++w.2.2.2.2.2).length 1,J ((w.2.1.length:Nat):Int),J (((w.2.1++w.2.2.1++w.2.2.2.1).length:Nat):Int),J ((w.2.2.1.length:Nat):Int),.bR (.func 56) [] [.ab 1 0]]∧A4 l sp=hS w.1 (w.2.1++w.2.2.1++w.2.2.2.1++w.2.2.2.2.1++w.2.2.2.2.2)∧(w.2.1++w.2.2.1++w.2.2.2.1++w.2.2.2.2.1++w.2.2.2.2.2).length<60000∧w.2.2.1.length=w.2.2.2.2.1.length)∧Q (.aJ []) (A4 (w.2.1++w.2.2.2.2.1++w.2.2.2.1++w.2.2.1++w.2.2.2.2.2) w.1))):=by kernel_rfl
theorem Qi{l:LI}{n:Nat}(h:n<=l.length):∃a b,l=a++b∧a.length=n:=⟨l.take n,l.drop n,(yc n l).symm,by simp;omega⟩
theorem arH{sp:List (Int×c9)}{az:LI}{m len:Nat}(bF:len<60000):
 ∀k:LI×LI×LI×LI×LI,(k.2.2.2.2=k.1++k.2.1++k.2.2.1++k.2.2.2.1∧k.1++k.2.2.1++k.2.1++k.2.2.2.1=az∧(k.1++k.2.1).length=m∧0<k.2.1.length∧0<k.2.2.1.length∧k.2.2.2.2.length=len)->
 bJ Z 134 58 3 (.aJ []) (hS sp az) (aQ [(0,.ad 0 len 1),(2,J (m:Int)),(4,cF),(10,J (k.2.1.length:Int)),(11,J (k.2.2.1.length:Int))]) (hS sp k.2.2.2.2) (ao Z 134 0):=by
 refine cV (fun k=>k.2.1.length+k.2.2.1.length) _ _ _ _ ?_;rintro⟨U,X,Y,W,l⟩ ⟨hl,hf,hm,hX,hY,d_⟩ ih;simp only at hl hf hm hX hY d_ ih⊢;have hn:U.length+X.length+Y.length+W.length=len:=by rw[←d_,hl];simp only[bI]
 simp only[bI]at hm;rw[←d_];refine hD PT 1000 (fun _=>[0,2,4,10,11]) (by kernel_rfl) ?_;rw[arJ];have ha:wI ((m:Int)-(X.length:Int))=(U.length:Int):=by rw[cX]<;>omega
 refine aI.2 ⟨fun h=>aI.2 ⟨fun h2=>?_,fun h2=>?_⟩,fun h=>?_⟩
 ·have h2:Y.length<X.length:=by have:=gh h2;omega
  obtain⟨Xa,Xb,rfl,Sh⟩:=Qi (l:=X) (n:=Y.length) (by omega);simp only[bI]at hm hX hn h2 ha;have hi:wI (((Xa++Xb).length:Int)-(Y.length:Int))=(Xb.length:Int):=by rw[cX]<;>(try simp only[bI])<;>omega
  refine⟨(sp,U,Xa,Xb,Y,W),⟨?_,?_,?_,Sh⟩,?_⟩
  ·simp only[bI]at ha⊢;rw[ha,hl];simp only[bI,Sh,cF];congr 1
   ·congr 1;omega
   ·congr 2;congr 2;omega
  ·have e:l=U++Xa++Xb++Y++W:=by rw[hl];simp
   simp only;rw[←e];rfl
  ·simp only[bI];omega
  ·rw[hi];have:=ih (U++Y,Xb,Xa,W,U++Y++Xb++Xa++W) ⟨rfl,by rw[←hf];simp,by simp only[bI];omega,by simp only;omega,by simp only;omega,by simp only[bI];omega⟩ (by simp only[bI];omega);simp only[Sh]at this;rw[d_];exact this
 ·have h2:¬Y.length<X.length:=by have:=iF h2;omega
  have h:X.length≠Y.length:=by intro he;rw[he]at h;simp at h
  obtain⟨Ya,Yb,rfl,hYa⟩:=Qi (l:=Y) (n:=Y.length-X.length) (by omega);simp only[bI]at hm hY hn h2 h hYa;have hi:wI (((Ya++Yb).length:Int)-(X.length:Int))=(Ya.length:Int):=by rw[cX]<;>(try simp only[bI])<;>omega
  have hb:wI (wI ((m:Int)+((Ya++Yb).length:Int))-(X.length:Int))=(((U++X++Ya).length:Nat):Int):=by rw[cX (x:=(m:Int)+((Ya++Yb).length:Int)),cX]<;>(try simp only[bI])<;>omega
  refine⟨(sp,U,X,Ya,Yb,W),⟨?_,?_,?_,?_⟩,?_⟩
  ·rw[ha,hb,hl];simp only[nG,cF]
  ·have e:l=U++X++Ya++Yb++W:=by rw[hl];simp
   simp only;rw[←e];rfl
  ·simp only[bI];omega
  ·simp only;omega
  ·rw[hi];have:=ih (U,Yb,Ya,X++W,U++Yb++Ya++X++W) ⟨by simp,by rw[←hf];simp,by simp only[bI];omega,by simp only;omega,by simp only;omega,by simp only[bI];omega⟩ (by simp only[bI];omega);have e:X.length=Yb.length:=by omega
   simp only at this;rw[d_,e];exact this
 ·have h:X.length=Y.length:=by
   have h:(X.length:Int)=(Y.length:Int):=by simpa using h
   omega
  refine⟨(sp,U,X,[],Y,W),⟨?_,?_,?_,h⟩,?_⟩
  ·rw[ha,hl];simp only[lh,bI,cF];congr 3;congr 1;congr 1;omega
  ·have e:l=U++X++[]++Y++W:=by rw[hl];simp
   simp only;rw[←e];rfl
  ·simp only[lh,bI];omega
  ·simp only[lh];rw[hf];exact⟨rfl,rfl⟩
theorem YE:bm Z PU:=by
 refine de PT ?_;rintro⟨sp,U,X,Y,W⟩ args H ⟨rfl,rfl,hn,hX,hY⟩;have hn:(U++X++Y++W).length<60000:=hn;refine eS PT 1000 (fun _=>[0,2,4,10,11]) 58 (by kernel_rfl) ?_;simp only[Nx];rw[arI];have h1:wI (((U++X).length:Int)-(U.length:Int))=(X.length:Int):=by simp only[bI]at hn⊢;rw[cX]<;>omega
 have h2:wI (((U++X++Y).length:Int)-((U++X).length:Int))=(Y.length:Int):=by simp only[bI]at hn⊢;rw[cX]<;>omega
 rw[h1,h2];exact arH (sp:=sp) hn (U,X,Y,W,U++X++Y++W) ⟨rfl,rfl,rfl,hX,hY,rfl⟩
end
end Go.Cl
namespace Go.Cl
open Go.Ev
noncomputable section
theorem yV{key:Int->Int}{l:LI}(h:dt key l){i j:Nat}(mR:i<=j)(hj:j<l.length):key (l.getD j 0)<=key (l.getD i 0):=by
 have hi:i<l.length:=by omega
 simp only[List.getD,jn hj,jn hi,Option.getD_some];rcases Nat.eq_or_lt_of_le mR with rfl|aj
 ·exact u4 _
 ·exact List.pairwise_iff_getElem.1 h i j hi hj aj
theorem K_{A B:LI}{i:Nat}(h:i<A.length):(A++B).getD i 0=A.getD i 0:=by simp[List.getD,List.getElem?_append_left h]
theorem K'{A B:LI}{i:Nat}:(A++B).getD (A.length+i) 0=B.getD i 0:=by simp only[List.getD];rw[Iy (by omega)];congr 2;omega
theorem zE{l:LI}{x:Int}(h:x∈l):∃i,i<l.length∧x=l.getD i 0:=by obtain⟨i,hi,rfl⟩:=List.mem_iff_getElem.1 h;exact⟨i,hi,by simp[List.getD,jn hi]⟩
theorem Ku{key:Int->Int}{A B:LI}(h:dt key (A++B)):dt key A∧dt key B:=⟨(List.pairwise_append.1 h).1,(List.pairwise_append.1 h).2.1⟩
theorem anD{key:Int->Int}{X Y:LI}(hX:dt key X)(hY:dt key Y){i j:Nat}(hi:i<=X.length)(hj:j<=Y.length)
 (ke:i=0∨j=Y.length∨¬key (X.getD (i-1) 0)<key (Y.getD j 0)) (lK:i=X.length∨j=0∨key (X.getD i 0)<key (Y.getD (j-1) 0)):
 ∃A B C D,X=A++B∧Y=C++D∧A.length=i∧C.length=j∧ct key (X++Y)=ct key (A++C)++ct key (B++D)∧dt key A∧dt key B∧dt key C∧dt key D:=by
 refine⟨X.take i,X.drop i,Y.take j,Y.drop j,(yc i X).symm,(yc j Y).symm,by simp;omega,by simp;omega,?_⟩;have eX:=yc i X;have eY:=yc j Y;have Sg:dt key (X.take i++X.drop i):=by rw[eX];exact hX
 have Si:dt key (Y.take j++Y.drop j):=by rw[eY];exact hY
 refine⟨?_,(Ku Sg).1,(Ku Sg).2,(Ku Si).1,(Ku Si).2⟩;have:=avt (A:=X.take i) (B:=X.drop i) (C:=Y.take j) (D:=Y.drop j) Sg Si ?_ ?_
 ·rw[eX,eY]at this;exact this
 ·intro x hx y hy;obtain⟨a,ha,rfl⟩:=zE hx;obtain⟨b,hb,rfl⟩:=zE hy;simp only[List.length_drop]at ha;simp only[List.length_take]at hb;have e1:(X.drop i).getD a 0=X.getD (i+a) 0:=by simp[List.getD]
  have e2:(Y.take j).getD b 0=Y.getD b 0:=by simp only[List.getD,List.getElem?_take,aY (show b<j by omega)]
  rw[e1,e2];rcases lK with h|h|h
  ·omega
  ·omega
  ·have h1:=yV hX (i:=i) (j:=i+a) (by omega) (by omega);have h2:=yV hY (i:=b) (j:=j-1) (by omega) (by omega);omega
 ·intro x hx y hy;obtain⟨a,ha,rfl⟩:=zE hx;obtain⟨b,hb,rfl⟩:=zE hy;simp only[List.length_take]at ha;simp only[List.length_drop]at hb;have e1:(X.take i).getD a 0=X.getD a 0:=by simp only[List.getD,List.getElem?_take,aY (show a<i by omega)]
  have e2:(Y.drop j).getD b 0=Y.getD (j+b) 0:=by simp[List.getD]
  rw[e1,e2];rcases ke with h|h|h
  ·omega
  ·omega
  ·have h1:=yV hX (i:=a) (j:=i-1) (by omega) (by omega);have h2:=yV hY (i:=j) (j:=j+b) (by omega) (by omega);omega
theorem ajr{key:Int->Int}{x:Int}{Y:LI}(hY:dt key Y){j:Nat}(hj:j<=Y.length)(ke:j=0∨key x<key (Y.getD (j-1) 0))(lK:j=Y.length∨¬key x<key (Y.getD j 0)):
 ∃P R,Y=P++R∧P.length=j∧ct key (x::Y)=P++x::R:=by
 have eY:=yc j Y;refine⟨Y.take j,Y.drop j,eY.symm,by simp;omega,?_⟩;have:=avs (key:=key) (p:=Y.take j) (q:=Y.drop j) (x:=x) (by rw[eY];exact hY) ?_ ?_
 ·rw[eY]at this;exact this
 ·intro y hy;obtain⟨b,hb,rfl⟩:=zE hy;simp only[List.length_take]at hb;have e2:(Y.take j).getD b 0=Y.getD b 0:=by simp only[List.getD,List.getElem?_take,aY (show b<j by omega)]
  rw[e2];rcases ke with h|h
  ·omega
  ·have h2:=yV hY (i:=b) (j:=j-1) (by omega) (by omega);omega
 ·intro y hy;obtain⟨b,hb,rfl⟩:=zE hy;simp only[List.length_drop]at hb;have e2:(Y.drop j).getD b 0=Y.getD (j+b) 0:=by simp[List.getD]
  rw[e2];rcases lK with h|h
  ·omega
  ·have h2:=yV hY (i:=j) (j:=j+b) (by omega) (by omega);omega
theorem ajs{key:Int->Int}{y:Int}{X:LI}(hX:dt key X){i:Nat}(hi:i<=X.length)(ke:i=0∨¬key (X.getD (i-1) 0)<key y)(lK:i=X.length∨key (X.getD i 0)<key y):
 ∃P R,X=P++R∧P.length=i∧ct key (X++[y])=P++y::R:=by
 have eX:=yc i X;refine⟨X.take i,X.drop i,eX.symm,by simp;omega,?_⟩;refine agF (by rw[IP hX,eX]) ?_ ?_
 ·intro x hx;obtain⟨a,ha,rfl⟩:=zE hx;simp only[List.length_drop]at ha;have e1:(X.drop i).getD a 0=X.getD (i+a) 0:=by simp[List.getD]
  rw[e1];rcases lK with h|h
  ·omega
  ·have h1:=yV hX (i:=i) (j:=i+a) (by omega) (by omega);omega
 ·intro x hx;obtain⟨a,ha,rfl⟩:=zE hx;simp only[List.length_take]at ha;have e1:(X.take i).getD a 0=X.getD a 0:=by simp only[List.getD,List.getElem?_take,aY (show a<i by omega)]
  rw[e1];rcases ke with h|h
  ·omega
  ·have h1:=yV hX (i:=a) (j:=i-1) (by omega) (by omega);omega
end
end Go.Cl
namespace Go.Cl
open Go.Ev Go.Proofs
noncomputable section
def FF(N:Nat):dp (List (Int×c9)×LI×LI×LI×LI)where
 ba w A H:=A=[.ad 0 (w.2.1++w.2.2.1++w.2.2.2.1++w.2.2.2.2).length 1,J (w.2.1.length:Int),J ((w.2.1++w.2.2.1).length:Int),J ((w.2.1++w.2.2.1++w.2.2.2.1).length:Int),cF]∧H=hS w.1 (w.2.1++w.2.2.1++w.2.2.2.1++w.2.2.2.2)∧(w.2.1++w.2.2.1++w.2.2.2.1++w.2.2.2.2).length<60000∧0<w.2.2.1.length∧0<w.2.2.2.1.length∧
  dt (kS w.1) w.2.2.1∧dt (kS w.1) w.2.2.2.1∧w.2.2.1.length+w.2.2.2.1.length<N
 v w:=.aJ []
 aN w:=hS w.1 (w.2.1++ct (kS w.1) (w.2.2.1++w.2.2.2.1)++w.2.2.2.2)
theorem agX(N:Nat):(FF N).dx:=by
 rintro⟨sp,U,X,Y,W⟩ ⟨zW,U',X',Y',W'⟩ A H ⟨h1,h2,_⟩ ⟨k1,k2,_⟩;obtain⟨rfl,e⟩:=A7 (h2.symm.trans k2);rw[h1]at k1;simp only[List.cons.injEq,AV.ck.injEq,AV.ad.injEq,true_and,and_true]at k1 e;have e1:U.length=U'.length:=by omega
 have e2:(U++X).length=(U'++X').length:=by omega
 have e3:(U++X++Y).length=(U'++X'++Y').length:=by omega
 obtain⟨e4,rfl⟩:=List.append_inj e e3;obtain⟨e5,rfl⟩:=List.append_inj e4 e2;obtain⟨rfl,rfl⟩:=List.append_inj e5 e1;rfl
def r5(N:Nat):Ev.bz:=cz 121 (cM (FF N) (agX N) cZ) PU
def tC:Nat->LN:=kg [(3,[0,1,4,10,11]),(9,[0,10,13]),(15,[0,2,4,14,15]),(21,[0,14,17]),(33,[0,1,2,3,4,18,19,20,21,22])]
abbrev WC x0 x1 x2 x3:=aQ [(0,.ad 0 x0 1),(1,J x1),(4,.bR (.func 56) [] [.ab 1 0]),(10,J x2),(11,J x3)]
abbrev WD x0 x1 x2 x3:=aQ [(0,.ad 0 x0 1),(2,J x1),(4,.bR (.func 56) [] [.ab 1 0]),(14,J x2),(15,J x3)]
abbrev N9 x0 x1 x2 x3 x4 x5 x6 x7 x8:=aQ [(0,.ad 0 x0 1),(1,J x1),(2,J x2),(3,J x3),(4,.bR (.func 56) [] [.ab 1 0]),(18,J x4),(19,J x5),(20,J x6),(21,J x7),(22,J x8)]
abbrev fh x0 x1:=an [(0,bp x0 2),(1,.aw [.aH 2] 101),(2,fV x1)] 3
theorem arj(sp:List (Int×c9))(l:LI)(a m b:Int)(N:Nat)(L:LT)(Q:QT):
 b8 Z (r5 N) tC L Q 2000 121 [.ad 0 l.length 1,J a,J m,J b,cF] (hS sp l)=(
 ah (wI (m-a)==1) (L (WC l.length a m b) (fh l sp) (ao Z 121 0)) (ah (wI (b-m)==1) (L (WD l.length m a m) (fh l sp) (ao Z 121 2)) (ah (decide (m>wI (Int.fdiv (IntKind.u64.wrap (wI (a+b))) 2))) (L (N9 l.length a m b (wI (Int.fdiv (IntKind.u64.wrap (wI (a+b))) 2)) (wI (wI (Int.fdiv (IntKind.u64.wrap (wI (a+b))) 2)+m)) (wI (wI (wI (Int.fdiv (IntKind.u64.wrap (wI (a+b))) 2)+m)-b)) (wI (Int.fdiv (IntKind.u64.wrap (wI (a+b))) 2)) (wI (wI (wI (Int.fdiv (IntKind.u64.wrap (wI (a+b))) 2)+m)-1))) (fh l sp) (ao Z 121 4)) (L (N9 l.length a m b (wI (Int.fdiv (IntKind.u64.wrap (wI (a+b))) 2)) (wI (wI (Int.fdiv (IntKind.u64.wrap (wI (a+b))) 2)+m)) a m (wI (wI (wI (Int.fdiv (IntKind.u64.wrap (wI (a+b))) 2)+m)-1))) (fh l sp) (ao Z 121 4))))):=by kernel_rfl
theorem aq9(sp:List (Int×c9))(l:LI)(a i j:Int)(N:Nat)(L:LT)(Q:QT):
 cO Z (r5 N) tC L Q 2000 121 3 (aQ [(0,.ad 0 l.length 1),(1,J a),(4,cF),(10,J i),(11,J j)]) (ao Z 121 0) (hS sp l)=(
 ah (decide (i<j)) (∃aD:Nat,wI (Int.fdiv (IntKind.u64.wrap (wI (i+j))) 2)=(aD:Int)∧aD<l.length∧(∃n:Int,bQ Z 2 (aX l) (aD*1)=some (J n:AV)∧(∃bU:Nat,a=(bU:Int)∧bU<l.length∧(∃aL:Int,bQ Z 2 (aX l) (bU*1)=some (J aL:AV)∧(∃w:List (Int×c9)×Int×Int,(([J n,J aL,.ab 0 0]:LV)=[J w.2.1,J w.2.2,.ab 0 0]∧qs sp=qs w.1)∧ah (decide (s9 (kS w.1 w.2.2) (kS w.1 w.2.1)<0)) (L (WC l.length a (wI (wI (Int.fdiv (IntKind.u64.wrap (wI (i+j))) 2)+1)) j) (fh l w.1) (ao Z 121 0)) (L (WC l.length a i (wI (Int.fdiv (IntKind.u64.wrap (wI (i+j))) 2))) (fh l w.1) (ao Z 121 0))))))) (L (aQ [(0,.ad 0 l.length 1),(10,J i),(13,J a)]) (fh l sp) (ao Z 121 1))):=by kernel_rfl
theorem arb(sp:List (Int×c9))(l:LI)(i k:Int)(N:Nat)(L:LT)(Q:QT):
 cO Z (r5 N) tC L Q 2000 121 3 (aQ [(0,.ad 0 l.length 1),(10,J i),(13,J k)]) (ao Z 121 1) (hS sp l)=(
 ah (decide (k<wI (i-1))) (∃aD:Nat,wI (k+1)=(aD:Int)∧aD<l.length∧(∃n:Int,bQ Z 2 (aX l) (aD*1)=some (J n:AV)∧(∃bU:Nat,k=(bU:Int)∧bU<l.length∧(∃aL:Int,bQ Z 2 (aX l) (bU*1)=some (J aL:AV)∧(∃cd:Nat,k=(cd:Int)∧cd<l.length∧cd*1+1<=(aX l).length∧(∃eE:Nat,wI (k+1)=(eE:Int)∧eE<l.length∧eE*1+1<=(fY (aX l) (cd*1) [J n]).length∧L (aQ [(0,.ad 0 l.length 1),(10,J i),(13,J (wI (k+1)))]) (an [(0,.aF (fY (fY (aX l) (cd*1) [J n]) (eE*1) [J aL]) 2),(1,.aw [.aH 2] 101),(2,fV sp)] 3) (ao Z 121 1))))))) (Q (.aJ []) (fh l sp))):=by kernel_rfl
theorem ard(sp:List (Int×c9))(l:LI)(m i j:Int)(N:Nat)(L:LT)(Q:QT):
 cO Z (r5 N) tC L Q 2000 121 3 (aQ [(0,.ad 0 l.length 1),(2,J m),(4,cF),(14,J i),(15,J j)]) (ao Z 121 2) (hS sp l)=(
 ah (decide (i<j)) (∃aD:Nat,m=(aD:Int)∧aD<l.length∧(∃n:Int,bQ Z 2 (aX l) (aD*1)=some (J n:AV)∧(∃bU:Nat,wI (Int.fdiv (IntKind.u64.wrap (wI (i+j))) 2)=(bU:Int)∧bU<l.length∧(∃aL:Int,bQ Z 2 (aX l) (bU*1)=some (J aL:AV)∧(∃w:List (Int×c9)×Int×Int,(([J n,J aL,.ab 0 0]:LV)=[J w.2.1,J w.2.2,.ab 0 0]∧qs sp=qs w.1)∧ah (!decide (s9 (kS w.1 w.2.2) (kS w.1 w.2.1)<0)) (L (WD l.length m (wI (wI (Int.fdiv (IntKind.u64.wrap (wI (i+j))) 2)+1)) j) (fh l w.1) (ao Z 121 2)) (L (WD l.length m i (wI (Int.fdiv (IntKind.u64.wrap (wI (i+j))) 2))) (fh l w.1) (ao Z 121 2))))))) (L (aQ [(0,.ad 0 l.length 1),(14,J i),(17,J m)]) (fh l sp) (ao Z 121 3))):=by kernel_rfl
theorem arf(sp:List (Int×c9))(l:LI)(i k:Int)(N:Nat)(L:LT)(Q:QT):
 cO Z (r5 N) tC L Q 2000 121 3 (aQ [(0,.ad 0 l.length 1),(14,J i),(17,J k)]) (ao Z 121 3) (hS sp l)=(
 ah (decide (k>i)) (∃aD:Nat,wI (k-1)=(aD:Int)∧aD<l.length∧(∃n:Int,bQ Z 2 (aX l) (aD*1)=some (J n:AV)∧(∃bU:Nat,k=(bU:Int)∧bU<l.length∧(∃aL:Int,bQ Z 2 (aX l) (bU*1)=some (J aL:AV)∧(∃cd:Nat,k=(cd:Int)∧cd<l.length∧cd*1+1<=(aX l).length∧(∃eE:Nat,wI (k-1)=(eE:Int)∧eE<l.length∧eE*1+1<=(fY (aX l) (cd*1) [J n]).length∧L (aQ [(0,.ad 0 l.length 1),(14,J i),(17,J (wI (k-1)))]) (an [(0,.aF (fY (fY (aX l) (cd*1) [J n]) (eE*1) [J aL]) 2),(1,.aw [.aH 2] 101),(2,fV sp)] 3) (ao Z 121 3))))))) (Q (.aJ []) (fh l sp))):=by kernel_rfl
theorem ari(sp:List (Int×c9))(l:LI)(a m b et n s r p:Int)(N:Nat)(L:LT)(Q:QT):
 cO Z (r5 N) tC L Q 2000 121 3 (aQ [(0,.ad 0 l.length 1),(1,J a),(2,J m),(3,J b),(4,cF),(18,J et),(19,J n),(20,J s),(21,J r),(22,J p)]) (ao Z 121 4) (hS sp l)=(
 ah (decide (s<r)) (∃i:Nat,wI (p-wI (Int.fdiv (IntKind.u64.wrap (wI (s+r))) 2))=(i:Int)∧i<l.length∧(∃aL:Int,bQ Z 2 (aX l) (i*1)=some (J aL:AV)∧(∃aD:Nat,wI (Int.fdiv (IntKind.u64.wrap (wI (s+r))) 2)=(aD:Int)∧aD<l.length∧(∃bD:Int,bQ Z 2 (aX l) (aD*1)=some (J bD:AV)∧(∃w:List (Int×c9)×Int×Int,(([J aL,J bD,.ab 0 0]:LV)=[J w.2.1,J w.2.2,.ab 0 0]∧qs sp=qs w.1)∧ah (!decide (s9 (kS w.1 w.2.2) (kS w.1 w.2.1)<0)) (L (N9 l.length a m b et n (wI (wI (Int.fdiv (IntKind.u64.wrap (wI (s+r))) 2)+1)) r p) (fh l w.1) (ao Z 121 4)) (L (N9 l.length a m b et n s (wI (Int.fdiv (IntKind.u64.wrap (wI (s+r))) 2)) p) (fh l w.1) (ao Z 121 4))))))) (ah (decide (s<m)) (ah (decide (m<wI (n-s))) (∃w:List (Int×c9)×LI×LI×LI×LI,(([.ad 0 l.length 1,J s,J m,J (wI (n-s)),.bR (.func 56) [] [.ab 1 0]]:LV)=[.ad 0 (w.2.1++w.2.2.1++w.2.2.2.1++w.2.2.2.2).length 1,J ((w.2.1.length:Nat):Int),J (((w.2.1++w.2.2.1).length:Nat):Int),J (((w.2.1++w.2.2.1++w.2.2.2.1).length:Nat):Int),.bR (.func 56) [] [.ab 1 0]]∧fh l sp=hS w.1 (w.2.1++w.2.2.1++w.2.2.2.1++w.2.2.2.2)∧(w.2.1++w.2.2.1++w.2.2.2.1++w.2.2.2.2).length<60000∧0<w.2.2.1.length∧0<w.2.2.2.1.length)∧ah (decide (a<s)) (ah (decide (s<et)) (∃ae:List (Int×c9)×LI×LI×LI×LI,(([.ad 0 l.length 1,J a,J s,J et,.bR (.func 56) [] [.ab 1 0]]:LV)=[.ad 0 (ae.2.1++ae.2.2.1++ae.2.2.2.1++ae.2.2.2.2).length 1,J ((ae.2.1.length:Nat):Int),J (((ae.2.1++ae.2.2.1).length:Nat):Int),J (((ae.2.1++ae.2.2.1++ae.2.2.2.1).length:Nat):Int),.bR (.func 56) [] [.ab 1 0]]∧fh (w.2.1++w.2.2.2.1++w.2.2.1++w.2.2.2.2) w.1=hS ae.1 (ae.2.1++ae.2.2.1++ae.2.2.2.1++ae.2.2.2.2)∧(ae.2.1++ae.2.2.1++ae.2.2.2.1++ae.2.2.2.2).length<60000∧0<ae.2.2.1.length∧0<ae.2.2.2.1.length∧dt (kS ae.1) ae.2.2.1∧dt (kS ae.1) ae.2.2.2.1∧ae.2.2.1.length+ae.2.2.2.1.length<N)∧ah (decide (et<wI (n-s))) (ah (decide (wI (n-s)<b)) (∃bh:List (Int×c9)×LI×LI×LI×LI,(([.ad 0 l.length 1,J et,J (wI (n-s)),J b,.bR (.func 56) [] [.ab 1 0]]:LV)=[.ad 0 (bh.2.1++bh.2.2.1++bh.2.2.2.1++bh.2.2.2.2).length 1,J ((bh.2.1.length:Nat):Int),J (((bh.2.1++bh.2.2.1).length:Nat):Int),J (((bh.2.1++bh.2.2.1++bh.2.2.2.1).length:Nat):Int),.bR (.func 56) [] [.ab 1 0]]∧fh (ae.2.1++ct (kS ae.1) (ae.2.2.1++ae.2.2.2.1)++ae.2.2.2.2) ae.1=hS bh.1 (bh.2.1++bh.2.2.1++bh.2.2.2.1++bh.2.2.2.2)∧(bh.2.1++bh.2.2.1++bh.2.2.2.1++bh.2.2.2.2).length<60000∧0<bh.2.2.1.length∧0<bh.2.2.2.1.length∧dt (kS bh.1) bh.2.2.1∧dt (kS bh.1) bh.2.2.2.1∧bh.2.2.1.length+bh.2.2.2.1.length<N)∧Q (.aJ []) (fh (bh.2.1++ct (kS bh.1) (bh.2.2.1++bh.2.2.2.1)++bh.2.2.2.2) bh.1)) (Q (.aJ []) (fh (ae.2.1++ct (kS ae.1) (ae.2.2.1++ae.2.2.2.1)++ae.2.2.2.2) ae.1))) (Q (.aJ []) (fh (ae.2.1++ct (kS ae.1) (ae.2.2.1++ae.2.2.2.1)++ae.2.2.2.2) ae.1))) (ah (decide (et<wI (n-s))) (ah (decide (wI (n-s)<b)) (∃ae:List (Int×c9)×LI×LI×LI×LI,(([.ad 0 l.length 1,J et,J (wI (n-s)),J b,.bR (.func 56) [] [.ab 1 0]]:LV)=[.ad 0 (ae.2.1++ae.2.2.1++ae.2.2.2.1++ae.2.2.2.2).length 1,J ((ae.2.1.length:Nat):Int),J (((ae.2.1++ae.2.2.1).length:Nat):Int),J (((ae.2.1++ae.2.2.1++ae.2.2.2.1).length:Nat):Int),.bR (.func 56) [] [.ab 1 0]]∧fh (w.2.1++w.2.2.2.1++w.2.2.1++w.2.2.2.2) w.1=hS ae.1 (ae.2.1++ae.2.2.1++ae.2.2.2.1++ae.2.2.2.2)∧(ae.2.1++ae.2.2.1++ae.2.2.2.1++ae.2.2.2.2).length<60000∧0<ae.2.2.1.length∧0<ae.2.2.2.1.length∧dt (kS ae.1) ae.2.2.1∧dt (kS ae.1) ae.2.2.2.1∧ae.2.2.1.length+ae.2.2.2.1.length<N)∧Q (.aJ []) (fh (ae.2.1++ct (kS ae.1) (ae.2.2.1++ae.2.2.2.1)++ae.2.2.2.2) ae.1)) (Q (.aJ []) (fh (w.2.1++w.2.2.2.1++w.2.2.1++w.2.2.2.2) w.1))) (Q (.aJ []) (fh (w.2.1++w.2.2.2.1++w.2.2.1++w.2.2.2.2) w.1)))) (ah (decide (et<wI (n-s))) (ah (decide (wI (n-s)<b)) (∃ae:List (Int×c9)×LI×LI×LI×LI,(([.ad 0 l.length 1,J et,J (wI (n-s)),J b,.bR (.func 56) [] [.ab 1 0]]:LV)=[.ad 0 (ae.2.1++ae.2.2.1++ae.2.2.2.1++ae.2.2.2.2).length 1,J ((ae.2.1.length:Nat):Int),J (((ae.2.1++ae.2.2.1).length:Nat):Int),J (((ae.2.1++ae.2.2.1++ae.2.2.2.1).length:Nat):Int),.bR (.func 56) [] [.ab 1 0]]∧fh (w.2.1++w.2.2.2.1++w.2.2.1++w.2.2.2.2) w.1=hS ae.1 (ae.2.1++ae.2.2.1++ae.2.2.2.1++ae.2.2.2.2)∧(ae.2.1++ae.2.2.1++ae.2.2.2.1++ae.2.2.2.2).length<60000∧0<ae.2.2.1.length∧0<ae.2.2.2.1.length∧dt (kS ae.1) ae.2.2.1∧dt (kS ae.1) ae.2.2.2.1∧ae.2.2.1.length+ae.2.2.2.1.length<N)∧Q (.aJ []) (fh (ae.2.1++ct (kS ae.1) (ae.2.2.1++ae.2.2.2.1)++ae.2.2.2.2) ae.1)) (Q (.aJ []) (fh (w.2.1++w.2.2.2.1++w.2.2.1++w.2.2.2.2) w.1))) (Q (.aJ []) (fh (w.2.1++w.2.2.2.1++w.2.2.1++w.2.2.2.2) w.1)))) (ah (decide (a<s)) (ah (decide (s<et)) (∃w:List (Int×c9)×LI×LI×LI×LI,(([.ad 0 l.length 1,J a,J s,J et,.bR (.func 56) [] [.ab 1 0]]:LV)=[.ad 0 (w.2.1++w.2.2.1++w.2.2.2.1++w.2.2.2.2).length 1,J ((w.2.1.length:Nat):Int),J (((w.2.1++w.2.2.1).length:Nat):Int),J (((w.2.1++w.2.2.1++w.2.2.2.1).length:Nat):Int),.bR (.func 56) [] [.ab 1 0]]∧fh l sp=hS w.1 (w.2.1++w.2.2.1++w.2.2.2.1++w.2.2.2.2)∧(w.2.1++w.2.2.1++w.2.2.2.1++w.2.2.2.2).length<60000∧0<w.2.2.1.length∧0<w.2.2.2.1.length∧dt (kS w.1) w.2.2.1∧dt (kS w.1) w.2.2.2.1∧w.2.2.1.length+w.2.2.2.1.length<N)∧ah (decide (et<wI (n-s))) (ah (decide (wI (n-s)<b)) (∃ae:List (Int×c9)×LI×LI×LI×LI,(([.ad 0 l.length 1,J et,J (wI (n-s)),J b,.bR (.func 56) [] [.ab 1 0]]:LV)=[.ad 0 (ae.2.1++ae.2.2.1++ae.2.2.2.1++ae.2.2.2.2).length 1,J ((ae.2.1.length:Nat):Int),J (((ae.2.1++ae.2.2.1).length:Nat):Int),J (((ae.2.1++ae.2.2.1++ae.2.2.2.1).length:Nat):Int),.bR (.func 56) [] [.ab 1 0]]∧fh (w.2.1++ct (kS w.1) (w.2.2.1++w.2.2.2.1)++w.2.2.2.2) w.1=hS ae.1 (ae.2.1++ae.2.2.1++ae.2.2.2.1++ae.2.2.2.2)∧(ae.2.1++ae.2.2.1++ae.2.2.2.1++ae.2.2.2.2).length<60000∧0<ae.2.2.1.length∧0<ae.2.2.2.1.length∧dt (kS ae.1) ae.2.2.1∧dt (kS ae.1) ae.2.2.2.1∧ae.2.2.1.length+ae.2.2.2.1.length<N)∧Q (.aJ []) (fh (ae.2.1++ct (kS ae.1) (ae.2.2.1++ae.2.2.2.1)++ae.2.2.2.2) ae.1)) (Q (.aJ []) (fh (w.2.1++ct (kS w.1) (w.2.2.1++w.2.2.2.1)++w.2.2.2.2) w.1))) (Q (.aJ []) (fh (w.2.1++ct (kS w.1) (w.2.2.1++w.2.2.2.1)++w.2.2.2.2) w.1))) (ah (decide (et<wI (n-s))) (ah (decide (wI (n-s)<b)) (∃w:List (Int×c9)×LI×LI×LI×LI,(([.ad 0 l.length 1,J et,J (wI (n-s)),J b,.bR (.func 56) [] [.ab 1 0]]:LV)=[.ad 0 (w.2.1++w.2.2.1++w.2.2.2.1++w.2.2.2.2).length 1,J ((w.2.1.length:Nat):Int),J (((w.2.1++w.2.2.1).length:Nat):Int),J (((w.2.1++w.2.2.1++w.2.2.2.1).length:Nat):Int),.bR (.func 56) [] [.ab 1 0]]∧fh l sp=hS w.1 (w.2.1++w.2.2.1++w.2.2.2.1++w.2.2.2.2)∧(w.2.1++w.2.2.1++w.2.2.2.1++w.2.2.2.2).length<60000∧0<w.2.2.1.length∧0<w.2.2.2.1.length∧dt (kS w.1) w.2.2.1∧dt (kS w.1) w.2.2.2.1∧w.2.2.1.length+w.2.2.2.1.length<N)∧Q (.aJ []) (fh (w.2.1++ct (kS w.1) (w.2.2.1++w.2.2.2.1)++w.2.2.2.2) w.1)) (Q (.aJ []) (fh l sp))) (Q (.aJ []) (fh l sp)))) (ah (decide (et<wI (n-s))) (ah (decide (wI (n-s)<b)) (∃w:List (Int×c9)×LI×LI×LI×LI,(([.ad 0 l.length 1,J et,J (wI (n-s)),J b,.bR (.func 56) [] [.ab 1 0]]:LV)=[.ad 0 (w.2.1++w.2.2.1++w.2.2.2.1++w.2.2.2.2).length 1,J ((w.2.1.length:Nat):Int),J (((w.2.1++w.2.2.1).length:Nat):Int),J (((w.2.1++w.2.2.1++w.2.2.2.1).length:Nat):Int),.bR (.func 56) [] [.ab 1 0]]∧fh l sp=hS w.1 (w.2.1++w.2.2.1++w.2.2.2.1++w.2.2.2.2)∧(w.2.1++w.2.2.1++w.2.2.2.1++w.2.2.2.2).length<60000∧0<w.2.2.1.length∧0<w.2.2.2.1.length∧dt (kS w.1) w.2.2.1∧dt (kS w.1) w.2.2.2.1∧w.2.2.1.length+w.2.2.2.1.length<N)∧Q (.aJ []) (fh (w.2.1++ct (kS w.1) (w.2.2.1++w.2.2.2.1)++w.2.2.2.2) w.1)) (Q (.aJ []) (fh l sp))) (Q (.aJ []) (fh l sp))))) (ah (decide (a<s)) (ah (decide (s<et)) (∃w:List (Int×c9)×LI×LI×LI×LI,(([.ad 0 l.length 1,J a,J s,J et,.bR (.func 56) [] [.ab 1 0]]:LV)=[.ad 0 (w.2.1++w.2.2.1++w.2.2.2.1++w.2.2.2.2).length 1,J ((w.2.1.length:Nat):Int),J (((w.2.1++w.2.2.1).length:Nat):Int),J (((w.2.1++w.2.2.1++w.2.2.2.1).length:Nat):Int),.bR (.func 56) [] [.ab 1 0]]∧fh l sp=hS w.1 (w.2.1++w.2.2.1++w.2.2.2.1++w.2.2.2.2)∧(w.2.1++w.2.2.1++w.2.2.2.1++w.2.2.2.2).length<60000∧0<w.2.2.1.length∧0<w.2.2.2.1.length∧dt (kS w.1) w.2.2.1∧dt (kS w.1) w.2.2.2.1∧w.2.2.1.length+w.2.2.2.1.length<N)∧ah (decide (et<wI (n-s))) (ah (decide (wI (n-s)<b)) (∃ae:List (Int×c9)×LI×LI×LI×LI,(([.ad 0 l.length 1,J et,J (wI (n-s)),J b,.bR (.func 56) [] [.ab 1 0]]:LV)=[.ad 0 (ae.2.1++ae.2.2.1++ae.2.2.2.1++ae.2.2.2.2).length 1,J ((ae.2.1.length:Nat):Int),J (((ae.2.1++ae.2.2.1).length:Nat):Int),J (((ae.2.1++ae.2.2.1++ae.2.2.2.1).length:Nat):Int),.bR (.func 56) [] [.ab 1 0]]∧fh (w.2.1++ct (kS w.1) (w.2.2.1++w.2.2.2.1)++w.2.2.2.2) w.1=hS ae.1 (ae.2.1++ae.2.2.1++ae.2.2.2.1++ae.2.2.2.2)∧(ae.2.1++ae.2.2.1++ae.2.2.2.1++ae.2.2.2.2).length<60000∧0<ae.2.2.1.length∧0<ae.2.2.2.1.length∧dt (kS ae.1) ae.2.2.1∧dt (kS ae.1) ae.2.2.2.1∧ae.2.2.1.length+ae.2.2.2.1.length<N)∧Q (.aJ []) (fh (ae.2.1++ct (kS ae.1) (ae.2.2.1++ae.2.2.2.1)++ae.2.2.2.2) ae.1)) (Q (.aJ []) (fh (w.2.1++ct (kS w.1) (w.2.2.1++w.2.2.2.1)++w.2.2.2.2) w.1))) (Q (.aJ []) (fh (w.2.1++ct (kS w.1) (w.2.2.1++w.2.2.2.1)++w.2.2.2.2) w.1))) (ah (decide (et<wI (n-s))) (ah (decide (wI (n-s)<b)) (∃w:List (Int×c9)×LI×LI×LI×LI,(([.ad 0 l.length 1,J et,J (wI (n-s)),J b,.bR (.func 56) [] [.ab 1 0]]:LV)=[.ad 0 (w.2.1++w.2.2.1++w.2.2.2.1++w.2.2.2.2).length 1,J ((w.2.1.length:Nat):Int),J (((w.2.1++w.2.2.1).length:Nat):Int),J (((w.2.1++w.2.2.1++w.2.2.2.1).length:Nat):Int),.bR (.func 56) [] [.ab 1 0]]∧fh l sp=hS w.1 (w.2.1++w.2.2.1++w.2.2.2.1++w.2.2.2.2)∧(w.2.1++w.2.2.1++w.2.2.2.1++w.2.2.2.2).length<60000∧0<w.2.2.1.length∧0<w.2.2.2.1.length∧dt (kS w.1) w.2.2.1∧dt (kS w.1) w.2.2.2.1∧w.2.2.1.length+w.2.2.2.1.length<N)∧Q (.aJ []) (fh (w.2.1++ct (kS w.1) (w.2.2.1++w.2.2.2.1)++w.2.2.2.2) w.1)) (Q (.aJ []) (fh l sp))) (Q (.aJ []) (fh l sp)))) (ah (decide (et<wI (n-s))) (ah (decide (wI (n-s)<b)) (∃w:List (Int×c9)×LI×LI×LI×LI,(([.ad 0 l.length 1,J et,J (wI (n-s)),J b,.bR (.func 56) [] [.ab 1 0]]:LV)=[.ad 0 (w.2.1++w.2.2.1++w.2.2.2.1++w.2.2.2.2).length 1,J ((w.2.1.length:Nat):Int),J (((w.2.1++w.2.2.1).length:Nat):Int),J (((w.2.1++w.2.2.1++w.2.2.2.1).length:Nat):Int),.bR (.func 56) [] [.ab 1 0]]∧fh l sp=hS w.1 (w.2.1++w.2.2.1++w.2.2.2.1++w.2.2.2.2)∧(w.2.1++w.2.2.1++w.2.2.2.1++w.2.2.2.2).length<60000∧0<w.2.2.1.length∧0<w.2.2.2.1.length∧dt (kS w.1) w.2.2.1∧dt (kS w.1) w.2.2.2.1∧w.2.2.1.length+w.2.2.2.1.length<N)∧Q (.aJ []) (fh (w.2.1++ct (kS w.1) (w.2.2.1++w.2.2.2.1)++w.2.2.2.2) w.1)) (Q (.aJ []) (fh l sp))) (Q (.aJ []) (fh l sp)))))):=by kernel_rfl
theorem Lu{i j:Nat}(h:i+j<1000000):wI (Int.fdiv (IntKind.u64.wrap (wI ((i:Int)+(j:Int)))) 2)=(((i+j)/ 2:Nat):Int):=by
 rw[cX (x:=(i:Int)+(j:Int)) (by omega) (by omega)];have hu:IntKind.u64.wrap ((i:Int)+(j:Int))=(i:Int)+(j:Int):=IntWalk.u64_in _ (by omega);rw[hu];have e:Int.fdiv ((i:Int)+(j:Int)) 2=(((i+j)/ 2:Nat):Int):=by rw[Int.fdiv_eq_ediv_of_nonneg _ (by omega)];omega
 rw[e,cX]<;>omega
section
variable{sp:List (Int×c9)}{N:Nat}
theorem arc(nU:bm Z (r5 N)){az U P R W:LI}{x:Int}{len:Nat}(hf:az=U++P++x::(R++W))(bF:az.length=len)(hl:len<60000):
 ∀k:LI×LI×LI,(k.1++k.2.1=P∧k.2.2=U++k.1++x::(k.2.1++(R++W)))->
 bJ Z 121 220 3 (.aJ []) (hS sp az) (aQ [(0,.ad 0 len 1),(10,J ((U.length+1+P.length:Nat):Int)),(13,J ((U++k.1).length:Int))]) (hS sp k.2.2) (ao Z 121 1):=by
 refine cV (fun k=>k.2.1.length) _ _ _ _ ?_;rintro⟨P1,P2,l⟩ ⟨hP,jy⟩ ih;simp only at hP jy ih⊢;subst hP;have d_:l.length=len:=by rw[jy,←bF,hf];simp only[bI,dv];omega
 have qC:U.length+P1.length+P2.length+1+R.length+W.length=len:=by rw[←d_,jy];simp only[bI,dv];omega
 rw[←d_];refine hD nU 2000 tC (by kernel_rfl) ?_;rw[arb];have hw:wI (((U.length+1+(P1++P2).length:Nat):Int)-1)=((U.length+(P1++P2).length:Nat):Int):=by simp only[bI];rw[cX]<;>omega
 rw[hw];have hk:wI (((U++P1).length:Int)+1)=(((U++P1).length+1:Nat):Int):=gq (lR _) (by simp only[bI];omega);refine aI.2 ⟨fun h=>?_,fun h=>?_⟩
 ·have h:=gh h;simp only[bI]at h;cases P2 with
  |nil=>simp only[fk]at h;omega
  |cons y P2=>
   simp only[dv]at qC;subst jy;have e1:U++P1++x::(y::P2++(R++W))=(U++P1++[x])++y::(P2++(R++W)):=by simp
   have e2:(U++P1)++y::(y::P2++(R++W))=(U++P1++[y])++y::(P2++(R++W)):=by simp
   have p1:fY (aX (U++P1++x::(y::P2++(R++W)))) ((U++P1).length*1) [J y]=aX ((U++P1)++y::(y::P2++(R++W))):=zM y rfl;have p2:fY (aX ((U++P1)++y::(y::P2++(R++W)))) (((U++P1).length+1)*1) [J x]=aX ((U++P1++[y])++x::(P2++(R++W))):=by rw[e2];exact zM x (by simp only[bI,dv,fk])
   refine⟨(U++P1).length+1,hk,by simp only[bI]at d_⊢;omega,y,by rw[e1];exact qQ (by simp only[bI,dv,fk]),(U++P1).length,rfl,by simp only[bI]at d_⊢;omega,x,qQ rfl,(U++P1).length,rfl,by simp only[bI]at d_⊢;omega,by rw[sH];simp only[bI]at d_⊢;omega,(U++P1).length+1,hk,by simp only[bI]at d_⊢;omega,?_,?_⟩
   ·rw[p1,sH];simp only[bI,dv]at d_⊢;omega
   ·rw[p1,p2,hk];have:=ih (P1++[y],P2,(U++P1++[y])++x::(P2++(R++W))) ⟨by simp,by simp⟩ (by simp);simp only at this;have e:(U++(P1++[y])).length=(U++P1).length+1:=by simp;omega
    rw[e]at this;rw[d_];exact this
 ·have h:=iF h;simp only[bI]at h;have hP:P2=[]:=by rw[←List.length_eq_zero_iff];omega
  subst hP;have:l=az:=by rw[jy,hf];simp
  rw[this];exact⟨rfl,rfl⟩
theorem arh(nU:bm Z (r5 N)){az U P R W:LI}{y:Int}{len:Nat}(hf:az=U++P++y::(R++W))(bF:az.length=len)(hl:len<60000):
 ∀k:LI×LI×LI,(k.1++k.2.1=R∧k.2.2=U++P++k.1++y::(k.2.1++W))->
 bJ Z 121 220 3 (.aJ []) (hS sp az) (aQ [(0,.ad 0 len 1),(14,J ((U++P).length:Int)),(17,J ((U++P++k.1).length:Int))]) (hS sp k.2.2) (ao Z 121 3):=by
 refine cV (fun k=>k.1.length) _ _ _ _ ?_;rintro⟨R1,R2,l⟩ ⟨hR,jy⟩ ih;simp only at hR jy ih⊢;subst hR;have d_:l.length=len:=by rw[jy,←bF,hf];simp only[bI,dv];omega
 have qC:U.length+P.length+R1.length+R2.length+1+W.length=len:=by rw[←d_,jy];simp only[bI,dv];omega
 rw[←d_];refine hD nU 2000 tC (by kernel_rfl) ?_;rw[arf];refine aI.2 ⟨fun h=>?_,fun h=>?_⟩
 ·have h:=gh h;simp only[bI]at h;have hp:R1≠[]:=by rintro rfl;simp only[fk]at h;omega
  obtain⟨R1,z,rfl⟩:∃p' y,R1=p'++[y]:=⟨R1.dropLast,R1.getLast hp,(List.dropLast_concat_getLast hp).symm⟩;subst jy;simp only[bI,dv,fk]at qC;have hk:wI (((U++P++(R1++[z])).length:Int)-1)=(((U++P++R1).length:Nat):Int):=by simp only[bI,dv,fk];rw[cX]<;>omega
  have e1:U++P++(R1++[z])++y::(R2++W)=(U++P++R1)++z::(y::(R2++W)):=by simp
  have p1:fY (aX (U++P++(R1++[z])++y::(R2++W))) ((U++P++(R1++[z])).length*1) [J z]=aX ((U++P++R1)++z::(z::(R2++W))):=by rw[zM z rfl];simp
  have p2:fY (aX ((U++P++R1)++z::(z::(R2++W)))) ((U++P++R1).length*1) [J y]=aX ((U++P++R1)++y::(z::(R2++W))):=zM y rfl;have abT:(U++P++R1).length<(U++P++(R1++[z])++y::(R2++W)).length:=by simp only[bI,dv];omega
  have abU:(U++P++(R1++[z])).length<(U++P++(R1++[z])++y::(R2++W)).length:=by simp only[bI,dv];omega
  refine⟨(U++P++R1).length,hk,abT,z,by rw[e1];exact qQ rfl,(U++P++(R1++[z])).length,rfl,abU,y,qQ rfl,(U++P++(R1++[z])).length,rfl,abU,by rw[sH];omega,(U++P++R1).length,hk,abT,?_,?_⟩
  ·rw[p1,sH];simp only[bI,dv];omega
  ·rw[p1,p2,hk];have:=ih (R1,z::R2,(U++P++R1)++y::(z::(R2++W))) ⟨by simp,by simp⟩ (by simp);simp only at this;rw[d_];exact this
 ·have h:=iF h;simp only[bI]at h;have hP:R1=[]:=by rw[←List.length_eq_zero_iff];omega
  subst hP;have:l=az:=by rw[jy,hf];simp
  rw[this];exact⟨rfl,rfl⟩
theorem ara(nU:bm Z (r5 N)){U Y W:LI}{x:Int}(hl:(U++[x]++Y++W).length<60000)(hY:dt (kS sp) Y):
 ∀k:Nat×Nat,(k.1<=k.2∧k.2<=Y.length∧(k.1=0∨kS sp x<kS sp (Y.getD (k.1-1) 0))∧(k.2=Y.length∨¬kS sp x<kS sp (Y.getD k.2 0)))->
 bJ Z 121 220 3 (.aJ []) (hS sp (U++ct (kS sp) (x::Y)++W)) (aQ [(0,.ad 0 (U++[x]++Y++W).length 1),(1,J (U.length:Int)),(4,cF),(10,J ((U.length+1+k.1:Nat):Int)),(11,J ((U.length+1+k.2:Nat):Int))]) (hS sp (U++[x]++Y++W)) (ao Z 121 0):=by
 refine cV (fun k=>k.2-k.1) _ _ _ _ ?_;rintro⟨i,j⟩ ⟨mR,hj,ke,lK⟩ ih;simp only at mR hj ke lK ih⊢;have d_:(U++[x]++Y++W).length=U.length+1+Y.length+W.length:=by simp only[bI,dv,fk]
 refine hD nU 2000 tC (by kernel_rfl) ?_;rw[aq9];rw[Lu (by omega)];refine aI.2 ⟨fun h=>?_,fun h=>?_⟩
 ·have h:=gh h;have hc:(U.length+1+i+(U.length+1+j))/ 2=U.length+1+(i+j)/ 2:=by omega
  rw[hc];have hg:(U++[x]++Y++W).getD (U.length+1+(i+j)/ 2) 0=Y.getD ((i+j)/ 2) 0:=by
   have e:U++[x]++Y++W=(U++[x])++(Y++W):=by simp
   have e2:U.length+1+(i+j)/ 2=(U++[x]).length+(i+j)/ 2:=by simp
   rw[e,e2,K',K_ (by omega)]
  have hr:=Jh (l:=U++[x]++Y++W) (i:=U.length+1+(i+j)/ 2) (by omega);rw[hg]at hr;have hw:wI (((U.length+1+(i+j)/ 2:Nat):Int)+1)=((U.length+1+((i+j)/ 2+1):Nat):Int):=by rw[cX]<;>omega
  refine⟨U.length+1+(i+j)/ 2,rfl,by omega,_,hr,U.length,rfl,by omega,x,?_,(sp,Y.getD ((i+j)/ 2) 0,x),⟨rfl,rfl⟩,aI.2 ⟨fun hk=>?_,fun hk=>?_⟩⟩
  ·have e:U++[x]++Y++W=U++x::(Y++W):=by simp
   rw[e];exact qQ rfl
  ·have hk:kS sp x<kS sp (Y.getD ((i+j)/ 2) 0):=yP.1 (gh hk);rw[hw];exact ih ((i+j)/ 2+1,j) ⟨by simp only;omega,hj,.inr (by simpa using hk),lK⟩ (by simp only;omega)
  ·have hk:¬kS sp x<kS sp (Y.getD ((i+j)/ 2) 0):=fun hh=>iF hk (yP.2 hh)
   exact ih (i,(i+j)/ 2) ⟨by simp only;omega,by simp only;omega,ke,.inr hk⟩ (by simp only;omega)
 ·have h:=iF h;have hj:i=j:=by omega
  subst hj;obtain⟨P,R,rfl,hP,hs⟩:=ajr hY hj ke lK;have:=arc (sp:=sp) nU (az:=U++ct (kS sp) (x::(P++R))++W) (U:=U) (P:=P) (R:=R) (W:=W) (x:=x) (len:=(U++[x]++(P++R)++W).length) (by rw[hs];simp) (by simp[py];omega) hl ([],P,U++[x]++(P++R)++W) ⟨rfl,by simp⟩;simp only[lh,hP]at this;exact this
theorem are(nU:bm Z (r5 N)){U X W:LI}{y:Int}(hl:(U++X++[y]++W).length<60000)(hX:dt (kS sp) X):
 ∀k:Nat×Nat,(k.1<=k.2∧k.2<=X.length∧(k.1=0∨¬kS sp (X.getD (k.1-1) 0)<kS sp y)∧(k.2=X.length∨kS sp (X.getD k.2 0)<kS sp y))->
 bJ Z 121 220 3 (.aJ []) (hS sp (U++ct (kS sp) (X++[y])++W)) (aQ [(0,.ad 0 (U++X++[y]++W).length 1),(2,J ((U++X).length:Int)),(4,cF),(14,J ((U.length+k.1:Nat):Int)),(15,J ((U.length+k.2:Nat):Int))]) (hS sp (U++X++[y]++W)) (ao Z 121 2):=by
 refine cV (fun k=>k.2-k.1) _ _ _ _ ?_;rintro⟨i,j⟩ ⟨mR,hj,ke,lK⟩ ih;simp only at mR hj ke lK ih⊢;have d_:(U++X++[y]++W).length=U.length+X.length+1+W.length:=by simp only[bI,dv,fk]
 refine hD nU 2000 tC (by kernel_rfl) ?_;rw[ard];rw[Lu (by omega)];refine aI.2 ⟨fun h=>?_,fun h=>?_⟩
 ·have h:=gh h;have hc:(U.length+i+(U.length+j))/ 2=U.length+(i+j)/ 2:=by omega
  rw[hc];have hg:(U++X++[y]++W).getD (U.length+(i+j)/ 2) 0=X.getD ((i+j)/ 2) 0:=by
   have e:U++X++[y]++W=U++(X++([y]++W)):=by simp
   rw[e,K',K_ (by omega)]
  have hr:=Jh (l:=U++X++[y]++W) (i:=U.length+(i+j)/ 2) (by omega);rw[hg]at hr;have hw:wI (((U.length+(i+j)/ 2:Nat):Int)+1)=((U.length+((i+j)/ 2+1):Nat):Int):=by rw[cX]<;>omega
  refine⟨(U++X).length,rfl,by simp only[bI]at d_⊢;omega,y,?_,U.length+(i+j)/ 2,rfl,by omega,_,hr,(sp,y,X.getD ((i+j)/ 2) 0),⟨rfl,rfl⟩,aI.2 ⟨fun hk=>?_,fun hk=>?_⟩⟩
  ·have e:U++X++[y]++W=(U++X)++y::W:=by simp
   rw[e];exact qQ rfl
  ·have hk:¬kS sp (X.getD ((i+j)/ 2) 0)<kS sp y:=fun hh=>by have:=decide_eq_true (yP.2 hh);simp only at hk;rw[this]at hk;cases hk
   rw[hw];exact ih ((i+j)/ 2+1,j) ⟨by simp only;omega,hj,.inr (by simpa using hk),lK⟩ (by simp only;omega)
  ·have hk:kS sp (X.getD ((i+j)/ 2) 0)<kS sp y:=by refine yP.1 (gh ?_);simpa using hk
   exact ih (i,(i+j)/ 2) ⟨by simp only;omega,by simp only;omega,ke,.inr hk⟩ (by simp only;omega)
 ·have h:=iF h;have hj:i=j:=by omega
  subst hj;obtain⟨P,R,rfl,hP,hs⟩:=ajs hX hj ke lK;have:=arh (sp:=sp) nU (az:=U++ct (kS sp) (P++R++[y])++W) (U:=U) (P:=P) (R:=R) (W:=W) (y:=y) (len:=(U++(P++R)++[y]++W).length) (by rw[hs];simp) (by simp[py];omega) hl (R,[],U++(P++R)++[y]++W) ⟨by simp,by simp⟩;simp only[nG]at this;have e:(U++P).length=U.length+i:=by simp[hP]
  rw[e]at this;simp only[nG];exact this
def FO(N:Nat)(Q:AV->AH->Prop)(len:Nat)(et e b:Int)(sp:List (Int×c9))(l:LI):Prop:=
 ah (decide (et<e)) (ah (decide (e<b)) (∃w,(FF N).ba w [.ad 0 len 1,J et,J e,J b,cF] (hS sp l)∧Q (.aJ []) ((FF N).aN w)) (Q (.aJ []) (hS sp l))) (Q (.aJ []) (hS sp l))
def FN(N:Nat)(Q:AV->AH->Prop)(len:Nat)(a s et e b:Int)(sp:List (Int×c9))(l:LI):Prop:=
 ah (decide (a<s)) (ah (decide (s<et)) (∃w,(FF N).ba w [.ad 0 len 1,J a,J s,J et,cF] (hS sp l)∧FO N Q len et e b w.1 (w.2.1++ct (kS w.1) (w.2.2.1++w.2.2.2.1)++w.2.2.2.2)) (FO N Q len et e b sp l)) (FO N Q len et e b sp l)
def avZ(N:Nat)(Q:AV->AH->Prop)(len:Nat)(a m s et e b:Int)(sp:List (Int×c9))(l:LI):Prop:=
 ah (decide (s<m)) (ah (decide (m<e)) (∃w,Nx.ba w [.ad 0 len 1,J s,J m,J e,cF] (hS sp l)∧FN N Q len a s et e b w.1 (w.2.1++w.2.2.2.1++w.2.2.1++w.2.2.2.2)) (FN N Q len a s et e b sp l)) (FN N Q len a s et e b sp l)
theorem cU{b:Bool}{A B:Prop}(h1:b=true->A)(h2:b=false->B):ah b A B:=aI.2 ⟨h1,h2⟩
theorem av2{az U V B D W:LI}(hf:az=U++V++ct (kS sp) (B++D)++W)(hB:dt (kS sp) B)(hD:dt (kS sp) D)(hN:B.length+D.length<N){len:Nat}(bF:(U++V++B++D++W).length=len)(hl:len<60000){et e b:Nat}(h1:et=(U++V).length)(h2:e=(U++V++B).length)(h3:b=(U++V++B++D).length):
 FO N (iS (.aJ []) (hS sp az)) len (et:Int) (e:Int) (b:Int) sp (U++V++B++D++W):=by
 subst h1 h2 h3 bF;have km:B=[]∨D=[]->iS (.aJ []) (hS sp az) (.aJ []) (hS sp (U++V++B++D++W)):=by
  intro h;refine⟨rfl,?_⟩;rw[hf];congr 1;rcases h with rfl|rfl
  ·simp[IP hD]
  ·simp[IP hB]
 refine cU (fun h=>cU (fun h'=>?_) (fun h'=>?_)) (fun h=>?_)
 ·have h:=gh h;have h':=gh h';simp only[bI]at h h';refine⟨(sp,U++V,B,D,W),⟨rfl,rfl,hl,by simp only;omega,by simp only;omega,hB,hD,hN⟩,rfl,?_⟩;rw[hf];rfl
 ·have h':=iF h';simp only[bI]at h';exact km (.inr (by rw[←List.length_eq_zero_iff];omega))
 ·have h':=iF h;simp only[bI]at h';exact km (.inl (by rw[←List.length_eq_zero_iff];omega))
theorem av1{az U A B C D W:LI}(hf:az=U++ct (kS sp) (A++C)++ct (kS sp) (B++D)++W)(hA:dt (kS sp) A)(hC:dt (kS sp) C)(hB:dt (kS sp) B)(hD:dt (kS sp) D)(Sb:A.length+C.length<N)(hN:B.length+D.length<N){len:Nat}(bF:(U++A++C++B++D++W).length=len)(hl:len<60000){a s et e b:Nat}(ha:a=U.length)(hs:s=(U++A).length)(h1:et=(U++A++C).length)(h2:e=(U++A++C++B).length)(h3:b=(U++A++C++B++D).length):
 FN N (iS (.aJ []) (hS sp az)) len (a:Int) (s:Int) (et:Int) (e:Int) (b:Int) sp (U++A++C++B++D++W):=by
 have gC:=py (kS sp) (A++C);simp only[bI]at gC;have done:∀l,l=U++ct (kS sp) (A++C)++B++D++W->FO N (iS (.aJ []) (hS sp az)) len (et:Int) (e:Int) (b:Int) sp l:=by
  intro l h;rw[h];refine av2 hf hB hD hN ?_ hl ?_ ?_ ?_
  ·rw[←bF];simp only[bI];omega
  ·rw[h1];simp only[bI];omega
  ·rw[h2];simp only[bI];omega
  ·rw[h3];simp only[bI];omega
 have km:A=[]∨C=[]->FO N (iS (.aJ []) (hS sp az)) len (et:Int) (e:Int) (b:Int) sp (U++A++C++B++D++W):=by
  intro h;refine done _ ?_;rcases h with rfl|rfl
  ·simp[IP hC]
  ·simp[IP hA]
 subst ha hs h1 bF;refine cU (fun h=>cU (fun h'=>?_) (fun h'=>?_)) (fun h=>?_)
 ·have h:=gh h;have h':=gh h';simp only[bI]at h h';refine⟨(sp,U,A,C,B++D++W),⟨?_,?_,?_,by simp only;omega,by simp only;omega,hA,hC,Sb⟩,?_⟩
  ·simp[cF]
  ·simp only[←nG]
  ·simp only[←nG];exact hl
  ·exact done _ (by simp)
 ·have h':=iF h';simp only[bI]at h';exact km (.inr (by rw[←List.length_eq_zero_iff];omega))
 ·have h':=iF h;simp only[bI]at h';exact km (.inl (by rw[←List.length_eq_zero_iff];omega))
theorem av0{az U A B C D W:LI}(hf:az=U++ct (kS sp) (A++C)++ct (kS sp) (B++D)++W)(hA:dt (kS sp) A)(hC:dt (kS sp) C)(hB:dt (kS sp) B)(hD:dt (kS sp) D)(Sb:A.length+C.length<N)(hN:B.length+D.length<N){len:Nat}(bF:(U++A++B++C++D++W).length=len)(hl:len<60000){a m s et e b:Nat}(ha:a=U.length)(hm:m=(U++A++B).length)(hs:s=(U++A).length)(h1:et=(U++A++C).length)(h2:e=(U++A++B++C).length)(h3:b=(U++A++B++C++D).length):
 avZ N (iS (.aJ []) (hS sp az)) len (a:Int) (m:Int) (s:Int) (et:Int) (e:Int) (b:Int) sp (U++A++B++C++D++W):=by
 have done:∀l,l=U++A++C++B++D++W->FN N (iS (.aJ []) (hS sp az)) len (a:Int) (s:Int) (et:Int) (e:Int) (b:Int) sp l:=by
  intro l h;rw[h];refine av1 hf hA hC hB hD Sb hN ?_ hl ha hs h1 ?_ ?_
  ·rw[←bF];simp only[bI];omega
  ·rw[h2];simp only[bI];omega
  ·rw[h3];simp only[bI];omega
 have km:B=[]∨C=[]->FN N (iS (.aJ []) (hS sp az)) len (a:Int) (s:Int) (et:Int) (e:Int) (b:Int) sp (U++A++B++C++D++W):=by intro h;refine done _ ?_;rcases h with rfl|rfl<;>simp
 subst hm hs h2 bF;refine cU (fun h=>cU (fun h'=>?_) (fun h'=>?_)) (fun h=>?_)
 ·have h:=gh h;have h':=gh h';simp only[bI]at h h';refine⟨(sp,U++A,B,C,D++W),⟨?_,?_,?_,by simp only;omega,by simp only;omega⟩,?_⟩
  ·simp[cF]
  ·simp only[←nG]
  ·simp only[←nG];exact hl
  ·exact done _ (by simp)
 ·have h':=iF h';simp only[bI]at h';exact km (.inr (by rw[←List.length_eq_zero_iff];omega))
 ·have h':=iF h;simp only[bI]at h';exact km (.inl (by rw[←List.length_eq_zero_iff];omega))
theorem afF(nU:bm Z (r5 N)){U X Y W:LI}{M:Nat}(hl:(U++X++Y++W).length<60000)(hX:dt (kS sp) X)(hY:dt (kS sp) Y)(hN:X.length+Y.length<=N)(hM:M=(X.length+Y.length)/ 2)(hx:0<X.length)(hy:0<Y.length):
 ∀k:Nat×Nat,(k.1<=k.2∧k.2<=X.length∧k.2<=M∧M<=k.1+Y.length∧(k.1=0∨M-k.1=Y.length∨¬kS sp (X.getD (k.1-1) 0)<kS sp (Y.getD (M-k.1) 0))∧(k.2=X.length∨M-k.2=0∨kS sp (X.getD k.2 0)<kS sp (Y.getD (M-k.2-1) 0)))->
 bJ Z 121 220 3 (.aJ []) (hS sp (U++ct (kS sp) (X++Y)++W)) (aQ [(0,.ad 0 (U++X++Y++W).length 1),(1,J (U.length:Int)),(2,J ((U++X).length:Int)),(3,J ((U++X++Y).length:Int)),(4,cF),(18,J ((U.length+M:Nat):Int)),(19,J ((U.length+M+(U++X).length:Nat):Int)),(20,J ((U.length+k.1:Nat):Int)),(21,J ((U.length+k.2:Nat):Int)),(22,J ((U.length+M+(U++X).length-1:Nat):Int))]) (hS sp (U++X++Y++W)) (ao Z 121 4):=by
 refine cV (fun k=>k.2-k.1) _ _ _ _ ?_;rintro⟨i,j⟩ ⟨mR,LR,hjM,Sa,ke,lK⟩ ih;simp only at mR LR hjM Sa ke lK ih⊢;have d_:(U++X++Y++W).length=U.length+X.length+Y.length+W.length:=by simp only[bI]
 have Lr:(U++X).length=U.length+X.length:=by simp only[bI]
 refine hD nU 2000 tC (by kernel_rfl) ?_;rw[ari];rw[Lu (by omega)];refine aI.2 ⟨fun h=>?_,fun h=>?_⟩
 ·have h:=gh h;have hc:(U.length+i+(U.length+j))/ 2=U.length+(i+j)/ 2:=by omega
  rw[hc];have hg:(U++X++Y++W).getD (U.length+(i+j)/ 2) 0=X.getD ((i+j)/ 2) 0:=by
   have e:U++X++Y++W=U++(X++(Y++W)):=by simp
   rw[e,K',K_ (by omega)]
  have hr:=Jh (l:=U++X++Y++W) (i:=U.length+(i+j)/ 2) (by omega);rw[hg]at hr;have hp:wI (((U.length+M+(U++X).length-1:Nat):Int)-((U.length+(i+j)/ 2:Nat):Int))=(((U++X).length+(M-(i+j)/ 2-1):Nat):Int):=by rw[cX]<;>omega
  have Be:(U++X++Y++W).getD ((U++X).length+(M-(i+j)/ 2-1)) 0=Y.getD (M-(i+j)/ 2-1) 0:=by
   have e:U++X++Y++W=(U++X)++(Y++W):=by simp
   rw[e,K',K_ (by omega)]
  have xG:=Jh (l:=U++X++Y++W) (i:=(U++X).length+(M-(i+j)/ 2-1)) (by omega);rw[Be]at xG;have hw:wI (((U.length+(i+j)/ 2:Nat):Int)+1)=((U.length+((i+j)/ 2+1):Nat):Int):=by rw[cX]<;>omega
  refine⟨(U++X).length+(M-(i+j)/ 2-1),hp,by omega,_,xG,U.length+(i+j)/ 2,rfl,by omega,_,hr,(sp,Y.getD (M-(i+j)/ 2-1) 0,X.getD ((i+j)/ 2) 0),⟨rfl,rfl⟩,aI.2 ⟨fun hk=>?_,fun hk=>?_⟩⟩
  ·have hk:¬kS sp (X.getD ((i+j)/ 2) 0)<kS sp (Y.getD (M-(i+j)/ 2-1) 0):=fun hh=>by have:=decide_eq_true (yP.2 hh);simp only at hk;rw[this]at hk;cases hk
   rw[hw];refine ih ((i+j)/ 2+1,j) ⟨by simp only;omega,LR,hjM,by simp only;omega,.inr (.inr ?_),lK⟩ (by simp only;omega);have e:M-((i+j)/ 2+1)=M-(i+j)/ 2-1:=by omega
   simp only[Nat.add_sub_cancel];rw[e];exact hk
  ·have hk:kS sp (X.getD ((i+j)/ 2) 0)<kS sp (Y.getD (M-(i+j)/ 2-1) 0):=by refine yP.1 (gh ?_);simpa using hk
   exact ih (i,(i+j)/ 2) ⟨by simp only;omega,by simp only;omega,by simp only;omega,Sa,ke,.inr (.inr hk)⟩ (by simp only;omega)
 ·have h:=iF h;have hj:i=j:=by omega
  subst hj;obtain⟨A,B,C,D,rfl,rfl,hA,hC,hs,dA,dB,dC,dD⟩:=anD hX hY (i:=i) (j:=M-i) LR (by omega) ke lK;simp only[bI]at hM hx hy hN Lr LR Sa;have he:wI (((U.length+M+(U++(A++B)).length:Nat):Int)-((U.length+i:Nat):Int))=(((U++A++B++C).length:Nat):Int):=by simp only[bI]at hl⊢;rw[cX]<;>omega
  rw[he];have key:=av0 (sp:=sp) (N:=N) (az:=U++ct (kS sp) ((A++B)++(C++D))++W) (U:=U) (A:=A) (B:=B) (C:=C) (D:=D) (W:=W) (by rw[hs];simp) dA dC dB dD (by omega) (by omega) rfl (by simpa[nG]using hl)
   (a:=U.length) (m:=(U++(A++B)).length) (s:=U.length+i) (et:=U.length+M) (e:=(U++A++B++C).length) (b:=(U++(A++B)++(C++D)).length) rfl (by simp[nG]) (by simp only[bI];omega) (by simp only[bI];omega) rfl (by simp[nG])
  have e:U++(A++B)++(C++D)++W=U++A++B++C++D++W:=by simp
  rw[e];exact key
theorem afG(nU:bm Z (r5 N)){U X Y W:LI}(hl:(U++X++Y++W).length<60000)(hX:dt (kS sp) X)(hY:dt (kS sp) Y)(hN:X.length+Y.length<=N)(hx:0<X.length)(hy:0<Y.length):
 dT Z 121 [.ad 0 (U++X++Y++W).length 1,J (U.length:Int),J ((U++X).length:Int),J ((U++X++Y).length:Int),cF] (hS sp (U++X++Y++W)) (.aJ []) (hS sp (U++ct (kS sp) (X++Y)++W)):=by
 have d_:(U++X++Y++W).length=U.length+X.length+Y.length+W.length:=by simp only[bI]
 have Lr:(U++X).length=U.length+X.length:=by simp only[bI]
 have axT:(U++X++Y).length=U.length+X.length+Y.length:=by simp only[bI]
 refine eS nU 2000 tC 220 (by kernel_rfl) ?_;rw[arj];have h1:wI (((U++X).length:Int)-(U.length:Int))=(X.length:Int):=by rw[cX]<;>omega
 have h2:wI (((U++X++Y).length:Int)-((U++X).length:Int))=(Y.length:Int):=by rw[cX]<;>omega
 have h3:(U.length+(U++X++Y).length)/ 2=U.length+(X.length+Y.length)/ 2:=by omega
 have h4:wI (((U.length+(X.length+Y.length)/ 2:Nat):Int)+((U++X).length:Int))=((U.length+(X.length+Y.length)/ 2+(U++X).length:Nat):Int):=by rw[cX]<;>omega
 have h5:wI (((U.length+(X.length+Y.length)/ 2+(U++X).length:Nat):Int)-1)=((U.length+(X.length+Y.length)/ 2+(U++X).length-1:Nat):Int):=by rw[cX]<;>omega
 rw[h1,h2,Lu (by omega),h3,h4,h5];refine aI.2 ⟨fun h=>?_,fun h=>aI.2 ⟨fun h'=>?_,fun h'=>aI.2 ⟨fun h6=>?_,fun h6=>?_⟩⟩⟩
 ·have h:X.length=1:=by
   have h:(X.length:Int)=1:=by simpa using h
   omega
  obtain⟨x,rfl⟩:=List.length_eq_one_iff.1 h;have:=ara (sp:=sp) nU hl hY (0,Y.length) ⟨by simp,by simp,.inl rfl,.inl rfl⟩;simp only[Nat.add_zero]at this;have e1:(U++[x]).length=U.length+1:=by simp
  have e2:(U++[x]++Y).length=U.length+1+Y.length:=by simp;omega
  rw[e1,e2];exact this
 ·have h:Y.length=1:=by
   have h:(Y.length:Int)=1:=by simpa using h'
   omega
  obtain⟨y,rfl⟩:=List.length_eq_one_iff.1 h;have:=are (sp:=sp) nU hl hX (0,X.length) ⟨by simp,by simp,.inl rfl,.inl rfl⟩;simp only[Nat.add_zero]at this;rw[←Lr]at this;exact this
 ·have h6:=gh h6;have h7:wI (((U.length+(X.length+Y.length)/ 2+(U++X).length:Nat):Int)-((U++X++Y).length:Int))=((U.length+((X.length+Y.length)/ 2-Y.length):Nat):Int):=by rw[cX]<;>omega
  rw[h7];exact afF (sp:=sp) (M:=(X.length+Y.length)/ 2) nU hl hX hY hN rfl hx hy ((X.length+Y.length)/ 2-Y.length,(X.length+Y.length)/ 2) ⟨by simp only;omega,by simp only;omega,by simp,by simp only;omega,.inr (.inl (by simp only;omega)),.inr (.inl (by simp only;omega))⟩
 ·have h6:=iF h6;have:=afF (sp:=sp) (M:=(X.length+Y.length)/ 2) nU hl hX hY hN rfl hx hy (0,X.length) ⟨by simp,by simp,by simp only;omega,by simp only;omega,.inl rfl,.inl rfl⟩;simp only[Nat.add_zero]at this;rw[←Lr]at this;exact this
end
theorem ahK:∀N,bm Z (r5 N):=by
 refine BZ (e:=FF) (h1:=agX) YE ?_ ?_
 ·rintro⟨sp,U,X,Y,W⟩ args H ⟨_,_,_,_,_,_,_,h⟩;omega
 ·rintro N nU ⟨sp,U,X,Y,W⟩ args H ⟨rfl,rfl,hl,hx,hy,hX,hY,hN⟩;have hN:X.length+Y.length<N+1:=hN;exact afG (sp:=sp) nU hl hX hY (by omega) hx hy
def agW:dp (List (Int×c9)×LI×LI×LI×LI)where
 ba w A H:=A=[.ad 0 (w.2.1++w.2.2.1++w.2.2.2.1++w.2.2.2.2).length 1,J (w.2.1.length:Int),J ((w.2.1++w.2.2.1).length:Int),J ((w.2.1++w.2.2.1++w.2.2.2.1).length:Int),cF]∧H=hS w.1 (w.2.1++w.2.2.1++w.2.2.2.1++w.2.2.2.2)∧(w.2.1++w.2.2.1++w.2.2.2.1++w.2.2.2.2).length<60000∧0<w.2.2.1.length∧0<w.2.2.2.1.length∧
  dt (kS w.1) w.2.2.1∧dt (kS w.1) w.2.2.2.1
 v w:=.aJ []
 aN w:=hS w.1 (w.2.1++ct (kS w.1) (w.2.2.1++w.2.2.2.1)++w.2.2.2.2)
theorem avU:agW.dx:=by
 rintro⟨sp,U,X,Y,W⟩ ⟨zW,U',X',Y',W'⟩ A H ⟨h1,h2,_⟩ ⟨k1,k2,_⟩;obtain⟨rfl,e⟩:=A7 (h2.symm.trans k2);rw[h1]at k1;simp only[List.cons.injEq,AV.ck.injEq,AV.ad.injEq,true_and,and_true]at k1 e;have e1:U.length=U'.length:=by omega
 have e2:(U++X).length=(U'++X').length:=by omega
 have e3:(U++X++Y).length=(U'++X'++Y').length:=by omega
 obtain⟨e4,rfl⟩:=List.append_inj e e3;obtain⟨e5,rfl⟩:=List.append_inj e4 e2;obtain⟨rfl,rfl⟩:=List.append_inj e5 e1;rfl
def CX:Ev.bz:=cz 121 (cM agW avU cZ) PU
theorem Gh:bm Z CX:=by refine de YE ?_;rintro⟨sp,U,X,Y,W⟩ args H ⟨rfl,rfl,hl,hx,hy,hX,hY⟩;exact afG (sp:=sp) (ahK (X.length+Y.length)) hl hX hY (fB _) hx hy
def VY:dp (List (Int×c9)×LI)where
 ba w A H:=A=[.ad 0 w.2.length 1,J (w.2.length:Int),cF]∧H=hS w.1 w.2∧w.2.length<20000
 v w:=.aJ []
 aN w:=hS w.1 (ct (kS w.1) w.2)
theorem auZ:VY.dx:=by rintro⟨sp,l⟩ ⟨zW,l'⟩ A H ⟨h1,h2,_⟩ ⟨k1,k2,_⟩;obtain⟨rfl,rfl⟩:=A7 (h2.symm.trans k2);rfl
def PV:Ev.bz:=cz 96 (cM VY auZ cZ) CX
def Wo:dp (List (Int×c9)×LI)where
 ba w A H:=A=[.ad 0 w.2.length 1,cF]∧H=hS w.1 w.2∧w.2.length<20000
 v w:=.aJ []
 aN w:=hS w.1 (ct (kS w.1) w.2)
theorem avp:Wo.dx:=by rintro⟨sp,l⟩ ⟨zW,l'⟩ A H ⟨h1,h2,_⟩ ⟨k1,k2,_⟩;obtain⟨rfl,rfl⟩:=A7 (h2.symm.trans k2);rfl
def Ax:Ev.bz:=cz 55 (cM Wo avp cZ) PV
def zC:Nat->LN:=kg [(2,[0,1,2,6,7,8]),(7,[0,1,2,6]),(9,[0,1,2,6,7,8])]
abbrev N_ x0 x1 x2 x3 x4:=aQ [(0,.ad 0 x0 1),(1,J x1),(2,.bR (.func 56) [] [.ab 1 0]),(6,J x2),(7,J x3),(8,J x4)]
abbrev rh x0 x1:=an [(0,bp x0 2),(1,.aw [.aH 2] 101),(2,fV x1)] 3
theorem auN(sp:List (Int×c9))(l:LI)(L:LT)(Q:QT):
 b8 Z CX zC L Q 1000 96 [.ad 0 l.length 1,J (l.length:Int),cF] (hS sp l)=(
 L (N_ l.length ((l.length:Nat):Int) 20 0 20) (rh l sp) (ao Z 96 0)):=by kernel_rfl
abbrev WE x0 x1 x2:=aQ [(0,.ad 0 x0 1),(1,J x1),(2,.bR (.func 56) [] [.ab 1 0]),(6,J x2)]
theorem auH(sp:List (Int×c9))(l:LI)(n s a b:Int)(L:LT)(Q:QT):
 cO Z CX zC L Q 1000 96 3 (aQ [(0,.ad 0 l.length 1),(1,J n),(2,cF),(6,J s),(7,J a),(8,J b)]) (ao Z 96 0) (hS sp l)=(
 ah (decide (b<=n)) (∃w:List (Int×c9)×LI×LI×LI,(([.ad 0 l.length 1,J a,J b,.bR (.func 56) [] [.ab 1 0]]:LV)=[.ad 0 (w.2.1++w.2.2.1++w.2.2.2).length 1,J ((w.2.1.length:Nat):Int),J (((w.2.1++w.2.2.1).length:Nat):Int),.bR (.func 56) [] [.ab 1 0]]∧rh l sp=hS w.1 (w.2.1++w.2.2.1++w.2.2.2)∧(w.2.1++w.2.2.1++w.2.2.2).length<60000)∧L (N_ l.length n s b (wI (b+s))) (rh (w.2.1++ct (kS w.1) w.2.2.1++w.2.2.2) w.1) (ao Z 96 0)) (∃w:List (Int×c9)×LI×LI×LI,(([.ad 0 l.length 1,J a,J n,.bR (.func 56) [] [.ab 1 0]]:LV)=[.ad 0 (w.2.1++w.2.2.1++w.2.2.2).length 1,J ((w.2.1.length:Nat):Int),J (((w.2.1++w.2.2.1).length:Nat):Int),.bR (.func 56) [] [.ab 1 0]]∧rh l sp=hS w.1 (w.2.1++w.2.2.1++w.2.2.2)∧(w.2.1++w.2.2.1++w.2.2.2).length<60000)∧L (WE l.length n s) (rh (w.2.1++ct (kS w.1) w.2.2.1++w.2.2.2) w.1) (ao Z 96 1))):=by kernel_rfl
theorem auJ(sp:List (Int×c9))(l:LI)(n s:Int)(L:LT)(Q:QT):
 cO Z CX zC L Q 1000 96 3 (aQ [(0,.ad 0 l.length 1),(1,J n),(2,cF),(6,J s)]) (ao Z 96 1) (hS sp l)=(
 ah (decide (s<n)) (L (N_ l.length n s 0 (wI (2*s))) (rh l sp) (ao Z 96 2)) (Q (.aJ []) (rh l sp))):=by kernel_rfl
theorem auL(sp:List (Int×c9))(l:LI)(n s a b:Int)(L:LT)(Q:QT):
 cO Z CX zC L Q 1000 96 3 (aQ [(0,.ad 0 l.length 1),(1,J n),(2,cF),(6,J s),(7,J a),(8,J b)]) (ao Z 96 2) (hS sp l)=(
 ah (decide (b<=n)) (∃w:List (Int×c9)×LI×LI×LI×LI,(([.ad 0 l.length 1,J a,J (wI (a+s)),J b,.bR (.func 56) [] [.ab 1 0]]:LV)=[.ad 0 (w.2.1++w.2.2.1++w.2.2.2.1++w.2.2.2.2).length 1,J ((w.2.1.length:Nat):Int),J (((w.2.1++w.2.2.1).length:Nat):Int),J (((w.2.1++w.2.2.1++w.2.2.2.1).length:Nat):Int),.bR (.func 56) [] [.ab 1 0]]∧rh l sp=hS w.1 (w.2.1++w.2.2.1++w.2.2.2.1++w.2.2.2.2)∧(w.2.1++w.2.2.1++w.2.2.2.1++w.2.2.2.2).length<60000∧0<w.2.2.1.length∧0<w.2.2.2.1.length∧dt (kS w.1) w.2.2.1∧dt (kS w.1) w.2.2.2.1)∧L (N_ l.length n s b (wI (b+wI (2*s)))) (rh (w.2.1++ct (kS w.1) (w.2.2.1++w.2.2.2.1)++w.2.2.2.2) w.1) (ao Z 96 2)) (ah (decide (wI (a+s)<n)) (∃w:List (Int×c9)×LI×LI×LI×LI,(([.ad 0 l.length 1,J a,J (wI (a+s)),J n,.bR (.func 56) [] [.ab 1 0]]:LV)=[.ad 0 (w.2.1++w.2.2.1++w.2.2.2.1++w.2.2.2.2).length 1,J ((w.2.1.length:Nat):Int),J (((w.2.1++w.2.2.1).length:Nat):Int),J (((w.2.1++w.2.2.1++w.2.2.2.1).length:Nat):Int),.bR (.func 56) [] [.ab 1 0]]∧rh l sp=hS w.1 (w.2.1++w.2.2.1++w.2.2.2.1++w.2.2.2.2)∧(w.2.1++w.2.2.1++w.2.2.2.1++w.2.2.2.2).length<60000∧0<w.2.2.1.length∧0<w.2.2.2.1.length∧dt (kS w.1) w.2.2.1∧dt (kS w.1) w.2.2.2.1)∧L (WE l.length n (wI (s*2))) (rh (w.2.1++ct (kS w.1) (w.2.2.1++w.2.2.2.1)++w.2.2.2.2) w.1) (ao Z 96 1)) (L (WE l.length n (wI (s*2))) (rh l sp) (ao Z 96 1)))):=by kernel_rfl
theorem atz(sp:List (Int×c9))(l:LI)(L:LT)(Q:QT):
 b8 Z PV (fun _=>[]) L Q 1000 55 [.ad 0 l.length 1,cF] (hS sp l)=(
 ∃w:List (Int×c9)×LI,(([.ad 0 l.length 1,J (Int.ofNat l.length),.bR (.func 56) [] [.ab 1 0]]:LV)=[.ad 0 w.2.length 1,J ((w.2.length:Nat):Int),.bR (.func 56) [] [.ab 1 0]]∧rh l sp=hS w.1 w.2∧w.2.length<20000)∧Q (.aJ []) (rh (ct (kS w.1) w.2) w.1)):=by kernel_rfl
def fl(key:Int->Int)(Bs:List LI):LI:=(Bs.map (ct key)).flatten
theorem y_(key:Int->Int):∀Bs:List LI,(fl key Bs).length=Bs.flatten.length
 |[]=>rfl
 |B::Bs=>by have:=y_ key Bs;simp only[fl,List.map_cons,List.flatten_cons,bI,py]at this⊢;omega
theorem aaZ(key:Int->Int)(Bs:List LI)(B:LI):fl key (Bs++[B])=fl key Bs++ct key B:=by simp[fl]
theorem akP(key:Int->Int)(Bs:List LI)(B:LI):fl key (B::Bs)=ct key B++fl key Bs:=by simp[fl]
def F1(s:Nat)(Bs:List LI):Prop:=∀B∈Bs,B.length=s
section
variable{sp:List (Int×c9)}{jb:LI}
theorem auM{s:Nat}(hl:jb.length<20000)(hs:20<=s)(hsn:s<jb.length)
 (next:∀(Ms:List LI) (R l:LI),l=fl (kS sp) Ms++ct (kS sp) R->Ms.flatten++R=jb->F1 (2*s) Ms->R.length<2*s->
   bJ Z 96 63 3 (.aJ []) (hS sp (ct (kS sp) jb)) (aQ [(0,.ad 0 jb.length 1),(1,J (jb.length:Int)),(2,cF),(6,J ((2*s:Nat):Int))]) (hS sp l) (ao Z 96 1)):
 ∀k:List LI×List LI×LI×LI,(k.2.2.2=fl (kS sp) k.1++fl (kS sp) k.2.1++ct (kS sp) k.2.2.1∧k.1.flatten++k.2.1.flatten++k.2.2.1=jb∧F1 (2*s) k.1∧F1 s k.2.1∧k.2.2.1.length<s)->
 bJ Z 96 63 3 (.aJ []) (hS sp (ct (kS sp) jb)) (aQ [(0,.ad 0 jb.length 1),(1,J (jb.length:Int)),(2,cF),(6,J (s:Int)),(7,J (k.1.flatten.length:Int)),(8,J ((k.1.flatten.length+2*s:Nat):Int))]) (hS sp k.2.2.2) (ao Z 96 2):=by
 refine cV (fun k=>k.2.1.length) _ _ _ _ ?_;rintro⟨Ms,Bs,R,l⟩ ⟨d_,ho,hM,hB,hR⟩ ih;simp only at d_ ho hM hB hR ih⊢;have bF:l.length=jb.length:=by rw[d_,←ho];simp only[bI,y_,py]
 have qC:Ms.flatten.length+Bs.flatten.length+R.length=jb.length:=by rw[←ho];simp only[bI]
 rw[←bF];refine hD Gh 1000 zC (by kernel_rfl) ?_;rw[auL];have n_:wI (2*(s:Int))=((2*s:Nat):Int):=by rw[cX]<;>omega
 have rz:wI ((s:Int)*2)=((2*s:Nat):Int):=by rw[cX]<;>omega
 have TN:wI ((Ms.flatten.length:Int)+(s:Int))=((Ms.flatten.length+s:Nat):Int):=by rw[cX]<;>omega
 have hw4:wI (((Ms.flatten.length+2*s:Nat):Int)+((2*s:Nat):Int))=((Ms.flatten.length+2*s+2*s:Nat):Int):=by rw[cX]<;>omega
 rw[n_,rz,TN,hw4];have d:∀x:LI,dt (kS sp) (ct (kS sp) x):=fun x=>(px (kS sp) x).1
 refine cU (fun h=>?_) (fun h=>?_)
 ·have h:=gh h;cases Bs with
  |nil=>simp only[List.flatten_nil,fk]at qC;omega
  |cons B1 Bs=>
   have lI:B1.length=s:=hB B1 (by simp);cases Bs with
   |nil=>simp only[List.flatten_cons,List.flatten_nil,bI,fk]at qC;omega
   |cons B2 Bs=>
    have qu:B2.length=s:=hB B2 (by simp);have e:l=fl (kS sp) Ms++ct (kS sp) B1++ct (kS sp) B2++(fl (kS sp) Bs++ct (kS sp) R):=by rw[d_];simp[akP]
    refine⟨(sp,fl (kS sp) Ms,ct (kS sp) B1,ct (kS sp) B2,fl (kS sp) Bs++ct (kS sp) R),⟨?_,?_,?_,?_,?_,d _,d _⟩,?_⟩
    ·simp only;rw[←e];simp only[bI,y_,py,lI,qu];congr 5;omega
    ·simp only;rw[←e];rfl
    ·simp only;rw[←e];omega
    ·simp only[py];omega
    ·simp only[py];omega
    ·have:=ih (Ms++[B1++B2],Bs,R,fl (kS sp) Ms++ct (kS sp) (ct (kS sp) B1++ct (kS sp) B2)++(fl (kS sp) Bs++ct (kS sp) R)) ⟨by simp only[aaZ,agD,nG],by rw[←ho];simp,by
      intro B hb;rcases List.mem_append.1 hb with hb|hb
      ·exact hM B hb
      ·simp only[nH]at hb;subst hb;simp only[bI];omega,fun B hb=>hB B (by simp[hb]),hR⟩ (by simp only[dv];omega)
     simp only at this;have el:(Ms++[B1++B2]).flatten.length=Ms.flatten.length+2*s:=by simp only[List.flatten_append,List.flatten_cons,List.flatten_nil,lh,bI];omega
     rw[el]at this;rw[bF];exact this
 ·have h:=iF h;cases Bs with
  |nil=>
   simp only[List.flatten_nil,fk]at qC;refine cU (fun h=>?_) (fun h=>?_)
   ·have h:=gh h;omega
   ·have:=next Ms R l (by rw[d_];simp[fl]) (by rw[←ho];simp) hM (by omega)
    rw[bF];exact this
  |cons B1 Bs=>
   have lI:B1.length=s:=hB B1 (by simp);cases Bs with
   |cons B2 Bs=>have qu:B2.length=s:=hB B2 (by simp);simp only[List.flatten_cons,bI]at qC;omega
   |nil=>
    simp only[List.flatten_cons,List.flatten_nil,lh]at qC ho;refine cU (fun h=>?_) (fun h=>?_)
    ·have h:=gh h;have e:l=fl (kS sp) Ms++ct (kS sp) B1++ct (kS sp) R++[]:=by rw[d_];simp[fl]
     refine⟨(sp,fl (kS sp) Ms,ct (kS sp) B1,ct (kS sp) R,[]),⟨?_,?_,?_,?_,?_,d _,d _⟩,?_⟩
     ·simp only;rw[←e];simp only[bI,y_,py,lI,bF];congr 5;omega
     ·simp only;rw[←e];rfl
     ·simp only;rw[←e];omega
     ·simp only[py];omega
     ·simp only[py];omega
     ·have:=next Ms (B1++R) (fl (kS sp) Ms++ct (kS sp) (ct (kS sp) B1++ct (kS sp) R)++[]) (by rw[agD];simp) (by rw[←ho];simp) hM (by simp only[bI];omega)
      rw[bF];exact this
    ·have h:=iF h;have Sd:R=[]:=by rw[←List.length_eq_zero_iff];omega
     subst Sd;have:=next Ms B1 l (by rw[d_];simp[fl,ct]) (by rw[←ho];simp) hM (by omega)
     rw[bF];exact this
theorem auK(hl:jb.length<20000):
 ∀k:Nat×List LI×LI×LI,(k.2.2.2=fl (kS sp) k.2.1++ct (kS sp) k.2.2.1∧k.2.1.flatten++k.2.2.1=jb∧F1 k.1 k.2.1∧k.2.2.1.length<k.1∧20<=k.1)->
 bJ Z 96 63 3 (.aJ []) (hS sp (ct (kS sp) jb)) (aQ [(0,.ad 0 jb.length 1),(1,J (jb.length:Int)),(2,cF),(6,J (k.1:Int))]) (hS sp k.2.2.2) (ao Z 96 1):=by
 refine cV (fun k=>jb.length-k.1) _ _ _ _ ?_;rintro⟨s,Bs,R,l⟩ ⟨d_,ho,hB,hR,hs⟩ ih;simp only at d_ ho hB hR hs ih⊢;have bF:l.length=jb.length:=by rw[d_,←ho];simp only[bI,y_,py]
 have qC:Bs.flatten.length+R.length=jb.length:=by rw[←ho];simp only[bI]
 have key:= @auM sp jb s hl hs;rw[←bF];refine hD Gh 1000 zC (by kernel_rfl) ?_;rw[auJ];refine cU (fun h=>?_) (fun h=>?_)
 ·have h:=gh h;have h:s<jb.length:=by omega
  have:=key h (fun Ms R' l' h1 h2 h3 h4=>ih (2*s,Ms,R',l') ⟨h1,h2,h3,h4,by simp only;omega⟩ (by simp only;omega)) ([],Bs,R,l) ⟨by rw[d_];simp[fl],by rw[←ho];simp,(by intro B hb;cases hb),hB,hR⟩;simp only[List.flatten_nil,fk,jI]at this;have n_:wI (2*(s:Int))=((2*s:Nat):Int):=by rw[cX]<;>omega
  rw[n_,bF];exact this
 ·have h:=iF h;have:l=ct (kS sp) jb:=by
   cases Bs with
   |nil=>rw[d_,←ho];simp[fl]
   |cons B1 Bs=>
    have lI:B1.length=s:=hB B1 (by simp);cases Bs with
    |nil=>
     simp only[List.flatten_cons,List.flatten_nil,lh]at qC ho;have Sd:R=[]:=by rw[←List.length_eq_zero_iff];omega
     subst Sd;rw[d_,←ho];simp[fl,ct]
    |cons B2 Bs=>have qu:B2.length=s:=hB B2 (by simp);simp only[List.flatten_cons,bI]at qC;omega
  rw[this];exact⟨rfl,rfl⟩
theorem auI(hl:jb.length<20000):
 ∀k:List LI×LI×LI,(k.2.2=fl (kS sp) k.1++k.2.1∧k.1.flatten++k.2.1=jb∧F1 20 k.1)->
 bJ Z 96 63 3 (.aJ []) (hS sp (ct (kS sp) jb)) (aQ [(0,.ad 0 jb.length 1),(1,J (jb.length:Int)),(2,cF),(6,J 20),(7,J (k.1.flatten.length:Int)),(8,J ((k.1.flatten.length+20:Nat):Int))]) (hS sp k.2.2) (ao Z 96 0):=by
 refine cV (fun k=>k.2.1.length) _ _ _ _ ?_;rintro⟨Bs,R,l⟩ ⟨d_,ho,hB⟩ ih;simp only at d_ ho hB ih⊢;have bF:l.length=jb.length:=by rw[d_,←ho];simp only[bI,y_]
 have qC:Bs.flatten.length+R.length=jb.length:=by rw[←ho];simp only[bI]
 have key:= @auK sp jb hl;rw[←bF];refine hD Gh 1000 zC (by kernel_rfl) ?_;rw[auH];refine cU (fun h=>?_) (fun h=>?_)
 ·have h:=gh h;obtain⟨X,R,rfl,hX⟩:=Qi (l:=R) (n:=20) (by omega);simp only[bI]at qC;have e:l=fl (kS sp) Bs++X++R:=by rw[d_];simp
  refine⟨(sp,fl (kS sp) Bs,X,R),⟨?_,?_,?_⟩,?_⟩
  ·simp only;rw[←e];simp only[bI,y_,hX,cF]
  ·simp only;rw[←e];rfl
  ·simp only;rw[←e];omega
  ·have:=ih (Bs++[X],R,fl (kS sp) Bs++ct (kS sp) X++R) ⟨by simp only[aaZ],by rw[←ho];simp,by
    intro B hb;rcases List.mem_append.1 hb with hb|hb
    ·exact hB B hb
    ·simp only[nH]at hb;subst hb;exact hX⟩ (by simp only[bI];omega)
   simp only at this;have el:(Bs++[X]).flatten.length=Bs.flatten.length+20:=by simp only[List.flatten_append,List.flatten_cons,List.flatten_nil,lh,bI];omega
   rw[el]at this;have hw:wI (((Bs.flatten.length+20:Nat):Int)+20)=((Bs.flatten.length+20+20:Nat):Int):=by rw[cX]<;>omega
   rw[hw,bF];exact this
 ·have h:=iF h;have e:l=fl (kS sp) Bs++R++[]:=by rw[d_];simp
  refine⟨(sp,fl (kS sp) Bs,R,[]),⟨?_,?_,?_⟩,?_⟩
  ·simp only;rw[←e];simp only[bI,y_,cF,qC,bF]
  ·simp only;rw[←e];rfl
  ·simp only;rw[←e];omega
  ·have:=key (20,Bs,R,fl (kS sp) Bs++ct (kS sp) R++[]) ⟨by simp,ho,hB,by simp only;omega,by simp⟩;rw[bF];exact this
end
theorem YF:bm Z PV:=by refine de Gh ?_;rintro⟨sp,l⟩ args H ⟨rfl,rfl,hl⟩;refine eS Gh 1000 zC 63 (by kernel_rfl) ?_;simp only[VY];rw[auN];exact auI (sp:=sp) (jb:=l) hl ([],l,l) ⟨by simp[fl],by simp,(by intro B hb;cases hb)⟩
theorem CY:bm Z Ax:=by refine de YF ?_;rintro⟨sp,l⟩ args H ⟨rfl,rfl,hl⟩;refine eS YF 1000 (fun _=>[]) 9 (by kernel_rfl) ?_;simp only[Wo];rw[atz];exact⟨(sp,l),⟨rfl,rfl,hl⟩,rfl,rfl⟩
end
end Go.Cl
