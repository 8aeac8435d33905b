/- Part of a proof of ClauseCompiles. -/
import Derived.Test.YtanclcoobcaemaaGreatB5
set_option linter.all false
set_option linter.unusedSectionVars false
set_option maxRecDepth 100000
namespace Go.Cl
open Go.Ev Go.Proofs
variable[Ro]
noncomputable section
def aev:LV->Option (Prop×AV)
 |[.aj [.cM .i64 k,.aa _,.cM .i64 _,.cM .i64 _,.aB _ _ 4,.cM .i64 _]]=>some (True,.aA (decide (k=2∨k=3∨k=4)))
 |_=>none
def Km:Ev.bC:=ft 95 (fy aev) Qs
def vX(c:Int)(st:dM)(g:iP):dM:=if pb g then iR (iJ c st g.cP) g.il c else iJ c st g.cP
def xy:Nat->dM->c7->dM
 |_,st,[]=>st
 |c,st,g::gs=>xy (if g.cQ=1 then c+1 else c) (vX c st g) gs
def yP(f:a9)(st:dM):dM:=xy 0 (iJ 0 st f.aQ) f.au
def Ey(f:a9)(st:dM):AH:=aq [(0,oF .ready (lT 3 4 1 5 6) 2),(1,cj f),(2,j5),(3,cj f),(4,.ay [.ae 7 st.2.length 1] 58),(5,gC),(6,.ay [.aS 8] 101),(7,ql st.2),(8,gA st.1)] 9
def o91(f:a9)(st:dM):AH:=aq [(0,oF .ready (lT 3 4 1 5 6) 2),(1,cj f),(2,j5),(3,cj f),(4,.ay [.ae 9 st.2.length 1] 58),(5,gC),(6,.ay [.aS 8] 101),(7,.bJ []),(8,gA st.1),(9,ql st.2)] 10
def r91(f:a9)(k:Int)(st:dM):AH:=aq [(0,oF .ready (lT 3 4 1 5 6) 2),(1,cj f),(2,j5),(3,cj f),(4,.ay [.ae 11 st.2.length 1] 58),(5,gC),(6,.ay [.aS 8] 101),(7,.bJ []),(8,gA st.1),(9,.ay [.gJ 0] 143),(10,.ay [J k] 3),(11,ql st.2)] 12
theorem ak3{f f':a9}{st mU:dM}(h:Ey f st=Ey f' mU):f=f'∧st=mU:=by
 have q:=fun i=>congrArg (fun H=>AH.bD H i) h
 simp only[Ey,eA]at q;exact⟨SL (dk (q 1)),Prod.ext (Jb (dk (q 8))) (NA (dk (q 7)))⟩
def VW:dP (a9×dM)where
 bN w A H:=A=[.gJ 0,.ad 1 0]∧H=Ey w.1 w.2∧fL w.1∧w.2.2.length+bh w.1.aQ+eg w.1.au<60000
 v w:=.aO []
 aU w:=o91 w.1 (yP w.1 w.2)
theorem anN:VW.dT:=by rintro⟨f,st⟩ ⟨f',mU⟩ A H ⟨h1,h2,_⟩ ⟨k1,k2,_⟩;obtain⟨rfl,rfl⟩:=ak3 (h2.symm.trans k2);rfl
def Qv:Ev.bC:=cB 91 (cO VW anN cV) Km
def VV:dP a9 where
 bN f A H:=A=[.aj (dj f)]∧H=ax
 v f:=.b9 (.func 91) [] [.ad 0 0]
 aU f:=aq [(0,cj f)] 1
theorem anM:VV.dT:=by rintro f f' A H ⟨h1,_⟩ ⟨k1,_⟩;rw[h1]at k1;simp only[List.cons.injEq,AV.aj.injEq,and_true]at k1;rw[sU _ _ k1]
def Qw:Ev.bC:=cB 54 (cO VV anM cV) Qv
theorem auo(k:Int)(nm:LN)(ar aM:Int)(cs:LV)(len:Nat)(v:Int)(L:LT)(Q:QT):
 b_ Z Qs (fun _=>[]) L Q 1000 95 [.aj [J k,.aa nm,J ar,J aM,.aB cs len 4,J v]] ax=(
 ai (k==2) (Q (.aA true) ax) (ai (k==3) (Q (.aA true) ax) (Q (.aA (k==4)) ax))):=by kernel_rfl
abbrev CT x0 x1 x2:=bk [(2,.ad 9 0),(3,.ad 10 0),(4,.b9 (.func 92) [] [.ad 9 0,.ad 10 0]),(14,.aB x0 x1 6),(15,J (Int.ofNat x1)),(16,J x2)]
abbrev abZ x0 x1 x2 x3 x4:=aq [(0,.ay [.gJ 2] 143),(1,.ay [J x0] 3),(2,oF LoopState.ready [(1,.ad 4 0),(2,.ad 7 0),(4,.ad 8 0),(5,.ad 5 0),(21,.b9 (.func 91) [] [.ad 6 0])] 3),(3,j5),(4,cj x1),(5,.ay [.ae 9 x2 1] 58),(6,cj x1),(7,gC),(8,.ay [.aS 10] 101),(9,aD x3 2),(10,gA x4)] 11
abbrev HH x0 x1 x2 x3 x4:=aq [(0,oF LoopState.ready [(1,.ad 3 0),(2,.ad 5 0),(4,.ad 6 0),(5,.ad 4 0),(21,.b9 (.func 91) [] [.ad 1 0])] 2),(1,cj x0),(2,j5),(3,cj x0),(4,.ay [.ae 11 x1 1] 58),(5,gC),(6,.ay [.aS 8] 101),(7,.bJ []),(8,gA x2),(9,.ay [.gJ 0] 143),(10,.ay [J x3] 3),(11,aD x4 2)] 12
theorem auf(f:a9)(st:dM)(L:LT)(Q:QT):
 b_ Z Km (fun _=>[2,3,4,14,15,16]) L Q 1000 91 [.gJ 0,.ad 1 0] (Ey f st)=(
 ∃w:a9×Int×dM×bG,(([.aB (bw f.aQ) f.aQ.length 4,.ad 0 0,.ad 1 0]:LV)=[.aB (bw w.2.2.2) w.2.2.2.length 4,.ad 0 0,.ad 1 0]∧abZ 0 f st.2.length st.2 st.1=hW w.1 w.2.1 w.2.2.1∧eQ w.2.2.2.length∧iS w.2.2.2∧w.2.2.1.2.length+bh w.2.2.2<60000)∧L (CT (ck w.1.au) w.1.au.length 0) (HH w.1 (iJ w.2.1 w.2.2.1 w.2.2.2).2.length (iJ w.2.1 w.2.2.1 w.2.2.2).1 w.2.1 (iJ w.2.1 w.2.2.1 w.2.2.2).2) (ao Z 91 0)):=by kernel_rfl
theorem aug(f:a9)(k:Int)(st:dM)(gs:LV)(gl:Nat)(i:Int)(L:LT)(Q:QT):
 cT Z Km (fun _=>[2,3,4,14,15,16]) L Q 1000 91 9 (CT gs gl i) (ao Z 91 0) (r91 f k st)=(
 ai (decide (i<Int.ofNat gl)) (∃aI:Nat,i=(aI:Int)∧aI<gl∧(∃n:Int,∃s:LN,∃aP:Int,∃bp:Int,∃cs:LV,∃len:Nat,∃bI:Int,((gs.drop (aI*6)).take 6:LV)=[J n,.aa s,J aP,J bp,.aB cs len 4,J bI]∧(∃w:a9×Int×dM×bG,(([.aB cs len 4,.ad 0 0,.ad 1 0]:LV)=[.aB (bw w.2.2.2) w.2.2.2.length 4,.ad 0 0,.ad 1 0]∧abZ k f st.2.length st.2 st.1=hW w.1 w.2.1 w.2.2.1∧eQ w.2.2.2.length∧iS w.2.2.2∧w.2.2.1.2.length+bh w.2.2.2<60000)∧(aq [] 0=ax∧True)∧ai (decide (n=2∨n=3∨n=4)) (∃ab:a9×dM×Int×Int,(([.gJ 0,.aj [J bI,J w.2.1]]:LV)=[.gJ 0,.aj [J ab.2.2.1,J ab.2.2.2]]∧aq [(0,oF LoopState.ready [(1,.ad 2 0),(2,.ad 5 0),(4,.ad 6 0),(5,.ad 3 0),(21,.b9 (.func 91) [] [.ad 4 0])] 1),(1,j5),(2,cj w.1),(3,.ay [.ae 7 (iJ w.2.1 w.2.2.1 w.2.2.2).2.length 1] 58),(4,cj w.1),(5,gC),(6,.ay [.aS 8] 101),(7,aD (iJ w.2.1 w.2.2.1 w.2.2.2).2 2),(8,gA (iJ w.2.1 w.2.2.1 w.2.2.2).1)] 9=hR ab.1 ab.2.1∧ab.2.1.2.length<60000)∧ai (n==1) (L (CT gs gl (wI (i+1))) (HH ab.1 (iR ab.2.1 ab.2.2.1 ab.2.2.2).2.length (iR ab.2.1 ab.2.2.1 ab.2.2.2).1 (wI (w.2.1+1)) (iR ab.2.1 ab.2.2.1 ab.2.2.2).2) (ao Z 91 0)) (L (CT gs gl (wI (i+1))) (HH ab.1 (iR ab.2.1 ab.2.2.1 ab.2.2.2).2.length (iR ab.2.1 ab.2.2.1 ab.2.2.2).1 w.2.1 (iR ab.2.1 ab.2.2.1 ab.2.2.2).2) (ao Z 91 0))) (ai (n==1) (L (CT gs gl (wI (i+1))) (HH w.1 (iJ w.2.1 w.2.2.1 w.2.2.2).2.length (iJ w.2.1 w.2.2.1 w.2.2.2).1 (wI (w.2.1+1)) (iJ w.2.1 w.2.2.1 w.2.2.2).2) (ao Z 91 0)) (L (CT gs gl (wI (i+1))) (HH w.1 (iJ w.2.1 w.2.2.1 w.2.2.2).2.length (iJ w.2.1 w.2.2.1 w.2.2.2).1 w.2.1 (iJ w.2.1 w.2.2.1 w.2.2.2).2) (ao Z 91 0)))))) (Q (.aO []) (aq [(0,oF LoopState.ready [(1,.ad 3 0),(2,.ad 5 0),(4,.ad 6 0),(5,.ad 4 0),(21,.b9 (.func 91) [] [.ad 1 0])] 2),(1,cj f),(2,j5),(3,cj f),(4,.ay [.ae 9 st.2.length 1] 58),(5,gC),(6,.ay [.aS 8] 101),(7,.bJ []),(8,gA st.1),(9,aD st.2 2)] 10))):=by kernel_rfl
theorem as4(f:a9)(L:LT)(Q:QT):
 b_ Z Qv (fun _=>[]) L Q 1000 54 [.aj (dj f)] ax=(
 Q (.b9 (.func 91) [] [.ad 0 0]) (fH f.aH.cL f.aH.ar f.aH.aM (bw f.aQ) f.aQ.length (ck f.au) f.au.length)):=by kernel_rfl
theorem Qt:bn Z Km:=by
 refine jM Y8 fun args q v h hq=>?_
 unfold aev at h;split at h<;>cases h;rename_i k nm ar aM cs len v;refine eS Y8 1000 (fun _=>[]) 16 (by kernel_rfl) ?_
 ·rw[auo];refine aY.2 ⟨fun h=>?_,fun h=>aY.2 ⟨fun h2=>?_,fun h2=>?_⟩⟩
  ·have h:k=2:=by simpa using h
   exact⟨by simp[h],rfl⟩
  ·have h2:k=3:=by simpa using h2
   exact⟨by simp[h2],rfl⟩
  ·have h:¬k=2:=by simpa using h
   have h2:¬k=3:=by simpa using h2
   refine⟨?_,rfl⟩;congr 1;by_cases h3:k=4<;>simp[h,h2,h3]
theorem aeg(c:Int)(st:dM)(g:iP):(vX c st g).2.length<=st.2.length+bh g.cP+1:=by have h1:=FE c st g.cP;have h2:=aef (iJ c st g.cP) g.il c;unfold vX;split<;>omega
theorem aue{f:a9}{aw:dM}{gs:c7}(hl:eQ gs.length)(ho:∀g∈gs,oK g)(hG:gs.length<60000):
 ∀p:Nat×Nat×dM,(p.1<=gs.length∧p.2.1<=p.1∧p.2.2.2.length+eg (gs.drop p.1)<60000∧xy p.2.1 p.2.2 (gs.drop p.1)=aw)->
 bF Z 91 44 9 (.aO []) (o91 f aw) (CT (ck gs) gs.length (p.1:Int)) (r91 f (p.2.1:Int) p.2.2) (ao Z 91 0):=by
 refine cX (fun p=>gs.length-p.1) _ _ _ _ ?_;rintro⟨i,c,st⟩ ⟨hi,hc,hq,hf⟩ ih;simp only at hi hc hq hf ih⊢;refine hD Qt 1000 (fun _=>[2,3,4,14,15,16]) (by kernel_rfl) ?_;rw[aug];refine aY.2 ⟨fun an=>?_,fun a8=>?_⟩
 ·have an:i<gs.length:=by simpa using an
  obtain⟨k,nm,ar,aM,ls,v,he,bU,bq⟩:=o5 an ho;rw[dv an,he,xy]at hf;rw[dv an,he,eg]at hq;simp only at hf hq;have h1:=FE c st ls;have h2:=aeg c st ⟨k,⟨nm,ar,aM⟩,ls,v⟩;simp only at h2;have next:=ih (i+1,(if k=1 then c+1 else c),vX c st ⟨k,⟨nm,ar,aM⟩,ls,v⟩) ⟨by simp;omega,by simp only;split<;>omega,by simp only;omega,hf⟩ (by simp;omega)
  simp only at next
  refine⟨i,rfl,an,k,nm,ar,aM,_,_,v,bU,(f,(c:Int),st,ls),⟨rfl,rfl,bq.2.1,bq.2.2,by simp only;omega⟩,⟨rfl,trivial⟩,?_⟩;rw[iA hl an];have hw:wI ((c:Int)+1)=((c+1:Nat):Int):=fE (n:=c+1) (iz c) (by omega);refine aY.2 ⟨fun h=>?_,fun h=>?_⟩
  ·have kY:pb ⟨k,⟨nm,ar,aM⟩,ls,v⟩=true:=by simpa[pb]using h
   have e:vX c st ⟨k,⟨nm,ar,aM⟩,ls,v⟩=iR (iJ c st ls) v c:=by simp[vX,kY]
   rw[e]at next
   refine⟨(f,iJ c st ls,v,(c:Int)),⟨rfl,rfl,by simp only;omega⟩,aY.2 ⟨fun hk=>?_,fun hk=>?_⟩⟩
   ·have hk:k=1:=by simpa using hk
    rw[aN hk]at next
    rw[hw];exact next
   ·have hk:¬k=1:=by simpa using hk
    rw[az hk]at next
    exact next
  ·have kY:pb ⟨k,⟨nm,ar,aM⟩,ls,v⟩=false:=by simpa[pb]using h
   have e:vX c st ⟨k,⟨nm,ar,aM⟩,ls,v⟩=iJ c st ls:=by simp[vX,kY]
   rw[e]at next
   refine aY.2 ⟨fun hk=>?_,fun hk=>?_⟩
   ·have hk:k=1:=by simpa using hk
    rw[aN hk]at next
    rw[hw];exact next
   ·have hk:¬k=1:=by simpa using hk
    rw[az hk]at next
    exact next
 ·have a8:gs.length<=i:=by simpa using a8
  rw[dV a8,xy]at hf;subst hf;exact⟨rfl,rfl⟩
theorem Y9:bn Z Qv:=by refine dc Qt ?_;rintro⟨f,st⟩ args H ⟨rfl,rfl,ho,hc⟩;have hc:st.2.length+bh f.aQ+eg f.au<60000:=hc;have hg:=Bt f.au;have h1:=FE 0 st f.aQ;refine eS Qt 1000 (fun _=>[2,3,4,14,15,16]) 44 (by kernel_rfl) ?_;simp only[VW];rw[auf];refine⟨(f,0,st,f.aQ),⟨rfl,rfl,ho.2.1,ho.2.2.1,by simp only;omega⟩,?_⟩;exact aue (f:=f) ho.2.2.2.1 ho.2.2.2.2 (show f.au.length<60000 by omega) (0,0,iJ 0 st f.aQ) ⟨by simp,by simp,by simp only[hI];omega,rfl⟩
theorem Y_:bn Z Qw:=by refine dc Y9 ?_;rintro f args H ⟨rfl,rfl⟩;refine eS Y9 1000 (fun _=>[]) 4 (by kernel_rfl) ?_;simp only[VV];rw[as4];exact⟨rfl,rfl⟩
end
end Go.Cl
namespace Go.Cl
open Go.Ev
noncomputable section
def tf(key:Int->Int)(x:Int):LI->LI
 |[]=>[x]
 |y::l=>if key y>key x then y::tf key x l else x::y::l
def cC(key:Int->Int):LI->LI
 |[]=>[]
 |x::l=>tf key x (cC key l)
def dI(key:Int->Int)(l:LI):Prop:=l.Pairwise (fun x y=>key y<=key x)
def tN(key:Int->Int)(s t:LI):Prop:=dI key t∧∀k,t.filter (fun x=>key x=k)=s.filter (fun x=>key x=k)
theorem acW(key:Int->Int)(x k:Int):∀l:LI,(tf key x l).filter (fun x=>key x=k)=(x::l).filter (fun x=>key x=k)
 |[]=>rfl
 |y::l=>by
  simp only[tf];split
  ·rename_i h;rw[List.filter_cons,acW key x k l];simp only[List.filter_cons];by_cases hx:key x=k
   ·have hy:¬key y=k:=by omega
    simp[hx,hy]
   ·simp[hx]
  ·rfl
theorem acY(key:Int->Int)(x z:Int):∀l:LI,z∈tf key x l↔z=x∨z∈l
 |[]=>by simp[tf]
 |y::l=>by
  simp only[tf];split
  ·simp only[ss,acY key x z l];constructor
   ·rintro(h|h|h)
    ·exact .inr (.inl h)
    ·exact .inl h
    ·exact .inr (.inr h)
   ·rintro(h|h|h)
    ·exact .inr (.inl h)
    ·exact .inl h
    ·exact .inr (.inr h)
  ·simp only[ss]
theorem acV(key:Int->Int)(x:Int):∀l:LI,dI key l->dI key (tf key x l)
 |[],_=>by simp[tf,dI]
 |y::l,h=>by
  unfold dI at h⊢;rw[List.pairwise_cons]at h;simp only[tf];split
  ·rename_i Io;rw[List.pairwise_cons];refine⟨fun z hz=>?_,acV key x l h.2⟩;rcases(acY key x z l).1 hz with rfl|hz
   ·omega
   ·exact h.1 z hz
  ·rename_i Io;rw[List.pairwise_cons];refine⟨fun z hz=>?_,List.pairwise_cons.2 h⟩;rcases List.mem_cons.1 hz with rfl|hz
   ·omega
   ·have:=h.1 z hz;omega
theorem qt(key:Int->Int):∀s:LI,tN key s (cC key s)
 |[]=>⟨List.Pairwise.nil,fun _=>rfl⟩
 |x::s=>by have ih:=qt key s;refine⟨acV key x _ ih.1,fun k=>?_⟩;simp only[cC];rw[acW,List.filter_cons,List.filter_cons,ih.2 k]
theorem Ej{key:Int->Int}{s t:LI}(h:∀k,t.filter (fun x=>key x=k)=s.filter (fun x=>key x=k)){x:Int}(hx:x∈t):x∈s:=by have:x∈t.filter (fun y=>key y=key x):=List.mem_filter.2 ⟨hx,by simp⟩;rw[h]at this;exact(List.mem_filter.1 this).1
theorem tN.tl{key:Int->Int}{s t:LI}(h:tN key s t)(x:Int):x∈t↔x∈s:=⟨Ej h.2,Ej (fun k=>(h.2 k).symm)⟩
theorem aaA{key:Int->Int}:∀{t u:LI},dI key t->dI key u->(∀k,t.filter (fun x=>key x=k)=u.filter (fun x=>key x=k))->t=u
 |[],[],_,_,_=>rfl
 |[],y::u,_,_,h=>by have:=Ej (fun k=>(h k).symm) (eP (a:=y) (l:=u));cases this
 |x::t,[],_,_,h=>by have:=Ej h (eP (a:=x) (l:=t));cases this
 |x::t,y::u,ht,hu,h=>by
  have hx:=Ej h (eP (a:=x) (l:=t));have hy:=Ej (fun k=>(h k).symm) (eP (a:=y) (l:=u));unfold dI at ht hu;rw[List.pairwise_cons]at ht hu;have e1:key x<=key y:=by
   rcases List.mem_cons.1 hx with rfl|hx
   ·exact fM _
   ·exact hu.1 x hx
  have e2:key y<=key x:=by
   rcases List.mem_cons.1 hy with rfl|hy
   ·exact fM _
   ·exact ht.1 y hy
  have e:key x=key y:=by omega
  have h0:=h (key x);rw[List.filter_cons,List.filter_cons,aN (by simp),aN (by simp[e])]at h0;have Io:=(List.cons.inj h0).1;subst Io;rw[aaA ht.2 hu.2 fun k=>?_];have h1:=h k;rw[List.filter_cons,List.filter_cons]at h1;split at h1
  ·exact(List.cons.inj h1).2
  ·exact h1
theorem tN.eq{key:Int->Int}{s t:LI}(h:tN key s t):cC key s=t:=
 aaA (qt key s).1 h.1 (fun k=>((qt key s).2 k).trans (h.2 k).symm)
theorem acX(key:Int->Int)(x:Int):∀l:LI,(tf key x l).length=l.length+1
 |[]=>rfl
 |y::l=>by
  simp only[tf];split
  ·simp[acX key x l]
  ·rfl
theorem pk(key:Int->Int):∀s:LI,(cC key s).length=s.length
 |[]=>rfl
 |x::s=>by simp[cC,acX,pk key s]
theorem Jc{key:Int->Int}{s:LI}(h:dI key s):cC key s=s:=tN.eq ⟨h,fun _=>rfl⟩
theorem agu{key:Int->Int}{s p q:LI}{x:Int}(h:cC key s=p++q)(hq:∀y∈q,key y<key x)(hp:∀y∈p,key x<=key y):cC key (s++[x])=p++x::q:=by
 have hs:=qt key s;rw[h]at hs;refine tN.eq ⟨?_,fun k=>?_⟩
 ·have h1:=List.pairwise_append.1 hs.1;refine List.pairwise_append.2 ⟨h1.1,List.pairwise_cons.2 ⟨fun y hy=>Int.le_of_lt (hq y hy),h1.2.1⟩,fun a ha b hb=>?_⟩;rcases List.mem_cons.1 hb with rfl|hb
  ·exact hp a ha
  ·exact h1.2.2 a ha b hb
 ·have h2:=hs.2 k;simp only[List.filter_append,List.filter_cons,List.filter_nil]at h2⊢;rw[←h2];by_cases hk:key x=k
  ·have:q.filter (fun x=>key x=k)=[]:=by rw[List.filter_eq_nil_iff];intro y hy;have:=hq y hy;simp;omega
   simp[hk,this]
  ·simp[hk]
theorem au7{key:Int->Int}{p q:LI}{x:Int}(hd:dI key (p++q))(hp:∀y∈p,key x<key y)(hq:∀y∈q,key y<=key x):cC key (x::(p++q))=p++x::q:=by
 refine tN.eq ⟨?_,fun k=>?_⟩
 ·have h1:=List.pairwise_append.1 hd;refine List.pairwise_append.2 ⟨h1.1,List.pairwise_cons.2 ⟨hq,h1.2.1⟩,fun a ha b hb=>?_⟩;rcases List.mem_cons.1 hb with rfl|hb
  ·exact Int.le_of_lt (hp a ha)
  ·exact h1.2.2 a ha b hb
 ·simp only[List.filter_append,List.filter_cons];by_cases hk:key x=k
  ·have:p.filter (fun x=>key x=k)=[]:=by rw[List.filter_eq_nil_iff];intro y hy;have:=hp y hy;simp;omega
   simp[hk,this]
  ·simp[hk]
theorem au8{key:Int->Int}{A B C D:LI}(h1:dI key (A++B))(h2:dI key (C++D))(hBC:∀x∈B,∀y∈C,key x<key y)(hAD:∀x∈A,∀y∈D,key y<=key x):
 cC key ((A++B)++(C++D))=cC key (A++C)++cC key (B++D):=by
 have k1:=List.pairwise_append.1 h1;have k2:=List.pairwise_append.1 h2;have s1:=qt key (A++C);have s2:=qt key (B++D);refine tN.eq ⟨List.pairwise_append.2 ⟨s1.1,s2.1,fun a ha b hb=>?_⟩,fun k=>?_⟩
 ·rcases List.mem_append.1 ((s1.tl a).1 ha)with ha|ha<;>rcases List.mem_append.1 ((s2.tl b).1 hb)with hb|hb
  ·exact k1.2.2 a ha b hb
  ·exact hAD a ha b hb
  ·exact Int.le_of_lt (hBC b hb a ha)
  ·exact k2.2.2 a ha b hb
 ·rw[List.filter_append,s1.2 k,s2.2 k];simp only[List.filter_append];have:B.filter (fun x=>key x=k)=[]∨C.filter (fun x=>key x=k)=[]:=by
   by_cases hc:C.filter (fun x=>key x=k)=[]
   ·exact .inr hc
   ·left;obtain⟨y,hy⟩:=List.exists_mem_of_ne_nil _ hc;have hy:=List.mem_filter.1 hy;rw[List.filter_eq_nil_iff];intro x hx;have:=hBC x hx y hy.1;simp at hy⊢;omega
  rcases this with h|h<;>simp[h]
theorem axF{key:Int->Int}(s t:LI):cC key (cC key s++t)=cC key (s++t):=by refine(tN.eq ⟨(qt key (s++t)).1,fun k=>?_⟩);rw[(qt key (s++t)).2 k,List.filter_append,List.filter_append,(qt key s).2 k]
theorem agt{key:Int->Int}(s t:LI):cC key (cC key s++cC key t)=cC key (s++t):=by refine(tN.eq ⟨(qt key (s++t)).1,fun k=>?_⟩);rw[(qt key (s++t)).2 k,List.filter_append,List.filter_append,(qt key s).2 k,(qt key t).2 k]
end
end Go.Cl
namespace Go.Cl
open Go.Ev Go.Proofs
variable[Ro]
noncomputable section
def adT:LV->Option (Prop×AV)
 |[.cM .i64 _]=>some (True,.aA false)
 |_=>none
def tV(a b:Int):Int:=if a<b then-1 else if a>b then 1 else 0
def aak:LV->Option (Prop×AV)
 |[.cM .i64 a,.cM .i64 b]=>some (True,J (tV a b))
 |_=>none
def Qx:Ev.bC:=ft 97 (fy adT) Qw
def Qy:Ev.bC:=ft 57 (fy aak) Qx
def kS(sp:List (Int×dE))(v:Int):Int:=((lk v sp).getD ⟨0,0,0⟩).tJ
def qO(sp:List (Int×dE)):AH:=aq [(0,.ay [.aS 1] 101),(1,gA sp)] 2
theorem ak2{a b:List (Int×dE)}(h:qO a=qO b):a=b:=by
 have q:=fun i=>congrArg (fun H=>AH.bD H i) h
 simp only[qO,eA]at q;exact Jb (dk (q 1))
def RD:dP (List (Int×dE)×Int×Int)where
 bN w A H:=A=[J w.2.1,J w.2.2,.ad 0 0]∧H=qO w.1
 v w:=J (tV (kS w.1 w.2.2) (kS w.1 w.2.1))
 aU w:=qO w.1
theorem aiP:RD.dT:=by rintro⟨sp,a,b⟩ ⟨AK,a',b'⟩ A H ⟨h1,h2⟩ ⟨k1,k2⟩;have e:=ak2 (h2.symm.trans k2);rw[h1]at k1;simp only[List.cons.injEq,AV.cM.injEq,true_and,and_true]at k1 e;rw[e,k1.1,k1.2]
def GB:Ev.bC:=cB 56 (cO RD aiP cV) Qy
def hS(sp:List (Int×dE))(l:LI):AH:=aq [(0,ql l),(1,.ay [.aS 2] 101),(2,gA sp)] 3
theorem BK{a b:List (Int×dE)}{l m:LI}(h:hS a l=hS b m):a=b∧l=m:=by
 have q:=fun i=>congrArg (fun H=>AH.bD H i) h
 simp only[hS,eA]at q;exact⟨Jb (dk (q 2)),NA (dk (q 0))⟩
def cF:AV:=.b9 (.func 56) [] [.ad 1 0]
def U2:dP (List (Int×dE)×LI×LI×LI)where
 bN w A H:=A=[.ae 0 (w.2.1++w.2.2.1++w.2.2.2).length 1,J (w.2.1.length:Int),J ((w.2.1++w.2.2.1).length:Int),cF]∧H=hS w.1 (w.2.1++w.2.2.1++w.2.2.2)∧(w.2.1++w.2.2.1++w.2.2.2).length<60000
 v w:=.aO []
 aU w:=hS w.1 (w.2.1++cC (kS w.1) w.2.2.1++w.2.2.2)
theorem amy:U2.dT:=by
 rintro⟨sp,U,X,W⟩ ⟨AK,U',X',W'⟩ A H ⟨h1,h2,_⟩ ⟨k1,k2,_⟩;obtain⟨rfl,e⟩:=BK (h2.symm.trans k2);rw[h1]at k1;simp only[List.cons.injEq,AV.cM.injEq,AV.ae.injEq,true_and,and_true]at k1 e;have e1:U.length=U'.length:=by omega
 have e2:(U++X).length=(U'++X').length:=by omega
 obtain⟨e3,rfl⟩:=List.append_inj e e2;obtain⟨rfl,rfl⟩:=List.append_inj e3 e1;rfl
def Kn:Ev.bC:=cB 120 (cO U2 amy cV) GB
def Xl:dP (List (Int×dE)×LI×LI×LI×LI×LI)where
 bN w A H:=A=[.ae 0 (w.2.1++w.2.2.1++w.2.2.2.1++w.2.2.2.2.1++w.2.2.2.2.2).length 1,J (w.2.1.length:Int),J ((w.2.1++w.2.2.1++w.2.2.2.1).length:Int),J (w.2.2.1.length:Int),cF]∧H=hS w.1 (w.2.1++w.2.2.1++w.2.2.2.1++w.2.2.2.2.1++w.2.2.2.2.2)∧(w.2.1++w.2.2.1++w.2.2.2.1++w.2.2.2.2.1++w.2.2.2.2.2).length<60000∧w.2.2.1.length=w.2.2.2.2.1.length
 v w:=.aO []
 aU w:=hS w.1 (w.2.1++w.2.2.2.2.1++w.2.2.2.1++w.2.2.1++w.2.2.2.2.2)
theorem au6:Xl.dT:=by
 rintro⟨sp,U,X,V,Y,W⟩ ⟨AK,U',X',V',Y',W'⟩ A H ⟨h1,h2,_,h4⟩ ⟨k1,k2,_,k4⟩;obtain⟨rfl,e⟩:=BK (h2.symm.trans k2);rw[h1]at k1;simp only[List.cons.injEq,AV.cM.injEq,AV.ae.injEq,true_and,and_true]at k1 e h4 k4;have e1:U.length=U'.length:=by omega
 have e0:X.length=X'.length:=by omega
 have e2:(U++X++V).length=(U'++X'++V').length:=by omega
 have e6:(U++X++V++Y).length=(U'++X'++V'++Y').length:=by rw[bj,bj (bs:=Y'),e2,←h4,←k4,e0]
 obtain⟨e3,rfl⟩:=List.append_inj e e6;obtain⟨e4,rfl⟩:=List.append_inj e3 e2;have e7:(U++X).length=(U'++X').length:=by rw[bj,bj,e1,e0]
 obtain⟨e5,rfl⟩:=List.append_inj e4 e7;obtain⟨rfl,rfl⟩:=List.append_inj e5 e1;rfl
def Ko:Ev.bC:=cB 143 (cO Xl au6 cV) Kn
def Cp:Nat->LN:=nk [(1,[0,1,2,3,8]),(4,[0,1,2,3,8,9])]
theorem auw(a:Int)(L:LT)(Q:QT):
 b_ Z Qw (fun _=>[]) L Q 1000 97 [J a] ax=(
 Q (.aA (a !=a)) ax):=by kernel_rfl
theorem as7(a b:Int)(L:LT)(Q:QT):
 b_ Z Qx (fun _=>[]) L Q 1000 57 [J a,J b] ax=(
 (aq [] 0=ax∧True)∧(aq [] 0=ax∧True)∧ai (decide (a<b)) (Q (J (-1)) ax) (ai (decide (a>b)) (Q (J 1) ax) (Q (J 0) ax))):=by kernel_rfl
theorem as6(sp:List (Int×dE))(a b:Int)(L:LT)(Q:QT):
 b_ Z Qy (fun _=>[]) L Q 1000 56 [J a,J b,.ad 0 0] (qO sp)=(
 ∃n:Int,∃aP:Int,∃bp:Int,∃iE:Bool,gf Z 2 108 (bK vS 0 sp) (J b)=some (.aj [J n,J aP,J bp],iE)∧(∃bI:Int,∃cS:Int,∃ib:Int,∃tS:Bool,gf Z 2 108 (bK vS 0 sp) (J a)=some (.aj [J bI,J cS,J ib],tS)∧(aq [] 0=ax∧True)∧Q (J (tV bp ib)) (qO sp))):=by kernel_rfl
abbrev Xt x0 x1 x2 x3:=bk [(0,.ae 0 x0 1),(1,J x1),(2,J x2),(3,.b9 (.func 56) [] [.ad 1 0]),(8,J x3)]
abbrev BE x0 x1:=aq [(0,aD x0 2),(1,.ay [.aS 2] 101),(2,gA x1)] 3
theorem aqA(sp:List (Int×dE))(l:LI)(a b:Int)(L:LT)(Q:QT):
 b_ Z GB Cp L Q 1000 120 [.ae 0 l.length 1,J a,J b,cF] (hS sp l)=(
 L (Xt l.length a b (wI (a+1))) (BE l sp) (ao Z 120 0)):=by kernel_rfl
theorem afN(sp:List (Int×dE))(l:LI)(a b i:Int)(L:LT)(Q:QT):
 cT Z GB Cp L Q 1000 120 3 (bk [(0,.ae 0 l.length 1),(1,J a),(2,J b),(3,cF),(8,J i)]) (ao Z 120 0) (hS sp l)=(
 ai (decide (i<b)) (L (bk [(0,.ae 0 l.length 1),(1,J a),(2,J b),(3,.b9 (.func 56) [] [.ad 1 0]),(8,J i),(9,J i)]) (BE l sp) (ao Z 120 1)) (Q (.aO []) (BE l sp))):=by kernel_rfl
theorem aqy(sp:List (Int×dE))(l:LI)(a b i j:Int)(L:LT)(Q:QT):
 cT Z GB Cp L Q 1000 120 3 (bk [(0,.ae 0 l.length 1),(1,J a),(2,J b),(3,cF),(8,J i),(9,J j)]) (ao Z 120 1) (hS sp l)=(
 ai (decide (j>a)) (∃aI:Nat,j=(aI:Int)∧aI<l.length∧(∃n:Int,bA Z 2 (aW l) (aI*1)=some (J n:AV)∧(∃bz:Nat,wI (j-1)=(bz:Int)∧bz<l.length∧(∃aP:Int,bA Z 2 (aW l) (bz*1)=some (J aP:AV)∧(∃w:List (Int×dE)×Int×Int,(([J n,J aP,.ad 0 0]:LV)=[J w.2.1,J w.2.2,.ad 0 0]∧qO sp=qO w.1)∧ai (decide (tV (kS w.1 w.2.2) (kS w.1 w.2.1)<0)) (∃cd:Nat,wI (j-1)=(cd:Int)∧cd<l.length∧(∃bp:Int,bA Z 2 (aW l) (cd*1)=some (J bp:AV)∧(∃dt:Nat,j=(dt:Int)∧dt<l.length∧(∃bI:Int,bA Z 2 (aW l) (dt*1)=some (J bI:AV)∧(∃te:Nat,j=(te:Int)∧te<l.length∧te*1+1<=(aW l).length∧(∃ML:Nat,wI (j-1)=(ML:Int)∧ML<l.length∧ML*1+1<=(fA (aW l) (te*1) [J bp]).length∧L (bk [(0,.ae 0 l.length 1),(1,J a),(2,J b),(3,.b9 (.func 56) [] [.ad 1 0]),(8,J i),(9,J (wI (j-1)))]) (aq [(0,.aL (fA (fA (aW l) (te*1) [J bp]) (ML*1) [J bI]) 2),(1,.ay [.aS 2] 101),(2,gA w.1)] 3) (ao Z 120 1))))))) (L (Xt l.length a b (wI (i+1))) (BE l w.1) (ao Z 120 0))))))) (L (Xt l.length a b (wI (i+1))) (BE l sp) (ao Z 120 0))):=by kernel_rfl
theorem arx(sp:List (Int×dE))(l:LI)(a b n:Int)(L:LT)(Q:QT):
 b_ Z Kn (fun _=>[0,1,2,3,10]) L Q 1000 143 [.ae 0 l.length 1,J a,J b,J n,cF] (hS sp l)=(
 L (bk [(0,.ae 0 l.length 1),(1,J a),(2,J b),(3,J n),(10,J 0)]) (BE l sp) (ao Z 143 0)):=by kernel_rfl
theorem ary(sp:List (Int×dE))(l:LI)(a b n i:Int)(L:LT)(Q:QT):
 cT Z Kn (fun _=>[0,1,2,3,10]) L Q 1000 143 3 (bk [(0,.ae 0 l.length 1),(1,J a),(2,J b),(3,J n),(10,J i)]) (ao Z 143 0) (hS sp l)=(
 ai (decide (i<n)) (∃aI:Nat,wI (b+i)=(aI:Int)∧aI<l.length∧(∃aP:Int,bA Z 2 (aW l) (aI*1)=some (J aP:AV)∧(∃bz:Nat,wI (a+i)=(bz:Int)∧bz<l.length∧(∃bp:Int,bA Z 2 (aW l) (bz*1)=some (J bp:AV)∧(∃cd:Nat,wI (a+i)=(cd:Int)∧cd<l.length∧cd*1+1<=(aW l).length∧(∃dt:Nat,wI (b+i)=(dt:Int)∧dt<l.length∧dt*1+1<=(fA (aW l) (cd*1) [J aP]).length∧L (bk [(0,.ae 0 l.length 1),(1,J a),(2,J b),(3,J n),(10,J (wI (i+1)))]) (aq [(0,.aL (fA (fA (aW l) (cd*1) [J aP]) (dt*1) [J bp]) 2),(1,.ay [.aS 2] 101),(2,gA sp)] 3) (ao Z 143 0))))))) (Q (.aO []) (BE l sp))):=by kernel_rfl
theorem JG{l:LI}{i:Nat}(h:i<l.length):bA Z 2 (aW l) (i*1)=some (J (l.getD i 0)):=by rw[FK,aW,Nat.mul_one,List.getElem?_map,jN h];simp[List.getD,jN h]
theorem qx{A B:LI}{x:Int}{i:Nat}(h:i=A.length):bA Z 2 (aW (A++x::B)) (i*1)=some (J x):=by subst h;rw[JG (by simp)];simp[List.getD]
theorem aoH{l:LI}{i:Nat}(x:Int)(h:i<l.length):fA (aW l) (i*1) [J x]=aW (l.set i x):=by rw[Nat.mul_one,IW x h]
theorem AB{A B:LI}{x:Int}{i:Nat}(y:Int)(h:i=A.length):fA (aW (A++x::B)) (i*1) [J y]=aW (A++y::B):=by subst h;rw[aoH y (by simp)];simp
theorem zr{a b:Int}:tV a b<0↔a<b:=by
 unfold tV;split
 ·simp[*]
 ·split<;>simp[*]
theorem Za:bn Z Qx:=by
 refine jM Y_ fun args q v h hq=>?_
 unfold adT at h;split at h<;>cases h;refine eS Y_ 1000 (fun _=>[]) 6 (by kernel_rfl) ?_;rw[auw];first
  |exact⟨rfl,rfl⟩
  |exact⟨by simp,rfl⟩
  |(refine aY.2 ⟨fun h=>?_,fun h=>?_⟩<;>first|exact⟨rfl,rfl⟩|simp at h)
theorem Zb:bn Z Qy:=by
 refine jM Za fun args q v h hq=>?_
 unfold aak at h;split at h<;>cases h;rename_i a b;refine eS Za 1000 (fun _=>[]) 20 (by kernel_rfl) ?_;rw[as7];refine⟨⟨rfl,trivial⟩,⟨rfl,trivial⟩,aY.2 ⟨fun h=>?_,fun h=>aY.2 ⟨fun h2=>?_,fun h2=>?_⟩⟩⟩
 ·have h:a<b:=by simpa using h
  exact⟨by simp[tV,h],rfl⟩
 ·have h:¬a<b:=by simpa using h
  have h2:a>b:=by simpa using h2
  exact⟨by simp[tV,h,h2],rfl⟩
 ·have h:¬a<b:=by simpa using h
  have h2:¬a>b:=by simpa using h2
  exact⟨by simp[tV,h,h2],rfl⟩
theorem Nb(sp:List (Int×dE))(v:Int):∃a b c:Int,∃d:Bool,gf Z 2 108 (bK vS 0 sp) (J v)=some (.aj [J a,J b,J c],d)∧(lk v sp).getD ⟨0,0,0⟩=⟨a,b,c⟩:=by
 rw[qj _ lz];cases hk:lk v sp with
 |none=>exact⟨0,0,0,false,by rw[ahc];rfl,rfl⟩
 |some s=>exact⟨s.KI,s.tI,s.tJ,true,rfl,rfl⟩
theorem GC:bn Z GB:=by
 refine dc Zb ?_;rintro⟨sp,a,b⟩ args H ⟨rfl,rfl⟩;refine eS Zb 1000 (fun _=>[]) 15 (by kernel_rfl) ?_;simp only[RD];rw[as6];obtain⟨a1,b1,c1,d1,e1,f1⟩:=Nb sp b;obtain⟨a2,b2,c2,d2,e2,f2⟩:=Nb sp a;refine⟨a1,b1,c1,d1,e1,a2,b2,c2,d2,e2,⟨rfl,trivial⟩,?_⟩;have g1:kS sp b=c1:=by rw[kS,f1]
 have g2:kS sp a=c2:=by rw[kS,f2]
 rw[g1,g2];exact⟨rfl,rfl⟩
section
variable{sp:List (Int×dE)}
def Jk(l:LI)(a b i:Nat):Tr AV:=bk [(0,.ae 0 l.length 1),(1,J (a:Int)),(2,J (b:Int)),(3,cF),(8,J (i:Int))]
theorem aqz{aw U W s:LI}{x:Int}{n b:Nat}(hn:(U++s++x::W).length<60000)
 (next:∀l:LI,l=U++cC (kS sp) (s++[x])++W->bF Z 120 53 3 (.aO []) (hS sp aw) (Jk l U.length b ((U++s).length+1)) (hS sp l) (ao Z 120 0)):
 ∀k:LI×LI,(cC (kS sp) s=k.1++k.2∧∀y∈k.2,kS sp y<kS sp x)->
 bF Z 120 53 3 (.aO []) (hS sp aw) (bk [(0,.ae 0 (U++k.1++x::(k.2++W)).length 1),(1,J (U.length:Int)),(2,J (b:Int)),(3,cF),(8,J ((U++s).length:Int)),(9,J ((U++k.1).length:Int))]) (hS sp (U++k.1++x::(k.2++W))) (ao Z 120 1):=by
 refine cX (fun k=>k.1.length) _ _ _ _ ?_;rintro⟨p,q⟩ ⟨hs,hq⟩ ih;simp only at hs hq ih⊢;have bH:=pk (kS sp) s;rw[hs]at bH;simp only[bj,bR]at bH hn;have hw:wI (((U++s).length:Int)+1)=(((U++s).length+1:Nat):Int):=fE (iz _) (by simp only[bj];omega);have aU:(∀y∈p,kS sp x<=kS sp y)->bF Z 120 53 3 (.aO []) (hS sp aw) (bk [(0,.ae 0 (U++p++x::(q++W)).length 1),(1,J (U.length:Int)),(2,J (b:Int)),(3,cF),(8,J (wI (((U++s).length:Int)+1)))]) (hS sp (U++p++x::(q++W))) (ao Z 120 0):=by intro hp;rw[hw];exact next _ (by rw[agu hs hq hp];simp)
 refine hD GC 1000 Cp (by kernel_rfl) ?_;rw[aqy];refine aY.2 ⟨fun h=>?_,fun h=>?_⟩
 ·have h:U.length<(U++p).length:=by have:=dW h;omega
  have hp:p≠[]:=by rintro rfl;simp at h
  obtain⟨p',y,rfl⟩:∃p' y,p=p'++[y]:=⟨p.dropLast,p.getLast hp,(List.dropLast_concat_getLast hp).symm⟩;have hj:(U++(p'++[y])).length=(U++p').length+1:=by simp;omega
  have MJ:wI (((U++(p'++[y])).length:Int)-1)=(((U++p').length:Nat):Int):=by rw[hj,dz]<;>simp only[bj,bR,cI]at bH⊢<;>omega
  have e1:U++(p'++[y])++x::(q++W)=(U++p')++y::x::(q++W):=by simp
  refine⟨(U++(p'++[y])).length,rfl,by simp,x,qx rfl,(U++p').length,MJ,by simp,y,by rw[e1];exact qx rfl,(sp,x,y),⟨rfl,rfl⟩,aY.2 ⟨fun hc=>?_,fun hc=>?_⟩⟩
  ·have hc:kS sp y<kS sp x:=zr.1 (by simpa using hc);have e2:∀z:Int,(U++p')++y::z::(q++W)=(U++p'++[y])++z::(q++W):=by intro z;simp
   have e3:(U++p')++y::y::(q++W)=(U++p')++y::(y::(q++W)):=rfl;have p1:fA (aW (U++(p'++[y])++x::(q++W))) ((U++(p'++[y])).length*1) [J y]=aW ((U++p')++y::(y::(q++W))):=by rw[AB y rfl];simp
   have p2:fA (aW ((U++p')++y::(y::(q++W)))) ((U++p').length*1) [J x]=aW ((U++p')++x::(y::(q++W))):=AB x rfl;refine⟨(U++p').length,MJ,by simp,y,by rw[e1];exact qx rfl,(U++(p'++[y])).length,rfl,by simp,x,qx rfl,(U++(p'++[y])).length,rfl,by simp,by rw[pg];simp only[bj,bR,cI];omega,(U++p').length,MJ,by simp,?_,?_⟩
   ·rw[p1,pg];simp only[bj,bR,cI];omega
   ·rw[p1,p2,MJ];have:=ih (p',y::q) ⟨by rw[hs];simp,by
     intro z hz;rcases List.mem_cons.1 hz with rfl|hz
     ·exact hc
     ·exact hq z hz⟩ (by simp)
    simp only at this;have el:(U++p'++x::(y::q++W)).length=(U++(p'++[y])++x::(q++W)).length:=by simp only[bj,bR,cI];omega
    rw[el]at this;exact this
  ·have hc:¬kS sp y<kS sp x:=fun hh=>by have:=zr.2 hh;simp at hc;omega
   refine aU fun z hz=>?_
   have hd:=(qt (kS sp) s).1;rw[hs]at hd;have hd:=(List.pairwise_append.1 hd).1;rcases List.mem_append.1 hz with hz|hz
   ·have:=(List.pairwise_append.1 hd).2.2 z hz y (by simp);omega
   ·simp at hz;subst hz;omega
 ·have h:¬U.length<(U++p).length:=by have:=eJ h;omega
  have hp:p=[]:=by rw[←List.length_eq_zero_iff];simp only[bj]at h;omega
  subst hp;exact aU (fun z hz=>by cases hz)
theorem aqx{U X W:LI}(hn:(U++X++W).length<60000):
 ∀k:LI×LI×LI,(k.2.2=U++cC (kS sp) k.1++(k.2.1++W)∧k.1++k.2.1=X)->
 bF Z 120 53 3 (.aO []) (hS sp (U++cC (kS sp) X++W)) (Jk k.2.2 U.length (U++X).length (U++k.1).length) (hS sp k.2.2) (ao Z 120 0):=by
 refine cX (fun k=>k.2.1.length) _ _ _ _ ?_;rintro⟨s,t,l⟩ ⟨hl,hX⟩ ih;simp only at hl hX ih⊢;subst hX;refine hD GC 1000 Cp (by kernel_rfl) ?_;unfold Jk;rw[afN];refine aY.2 ⟨fun h=>?_,fun h=>?_⟩
 ·have h:(U++s).length<(U++(s++t)).length:=by have:=dW h;omega
  cases t with
  |nil=>simp at h
  |cons x t=>
   subst hl;have:=aqz (sp:=sp) (aw:=U++cC (kS sp) (s++x::t)++W) (U:=U) (W:=t++W) (s:=s) (x:=x) (n:=0) (b:=(U++(s++x::t)).length) (by simp only[bj,bR]at hn⊢;omega)
    (by
      intro l hl;have:=ih (s++[x],t,l) ⟨by rw[hl],by simp⟩ (by simp);simp only at this;have e:(U++(s++[x])).length=(U++s).length+1:=by simp;omega
      rw[e]at this;exact this) (cC (kS sp) s,[]) ⟨by simp,by intro y hy;cases hy⟩
   simp only[pS]at this;have e:(U++cC (kS sp) s).length=(U++s).length:=by simp[pk]
   rw[e]at this;exact this
 ·have h:¬(U++s).length<(U++(s++t)).length:=by have:=eJ h;omega
  have ht:t=[]:=by rw[←List.length_eq_zero_iff];simp only[bj]at h;omega
  subst ht;subst hl;simp only[gz,pS];exact⟨rfl,rfl⟩
end
theorem Qz:bn Z Kn:=by
 refine dc GC ?_;rintro⟨sp,U,X,W⟩ args H ⟨rfl,rfl,hn⟩;have hn:(U++X++W).length<60000:=hn;refine eS GC 1000 Cp 53 (by kernel_rfl) ?_;simp only[U2];rw[aqA];have hw:wI ((U.length:Int)+1)=((U.length+1:Nat):Int):=fE (iz _) (by simp only[bj]at hn;omega);rw[hw];cases X with
 |nil=>
  have H0:bF Z 120 53 3 (.aO []) (hS sp (U++cC (kS sp) []++W)) (Jk (U++[]++W) U.length (U++[]).length (U.length+1)) (hS sp (U++[]++W)) (ao Z 120 0):=by refine hD GC 1000 Cp (by kernel_rfl) ?_;unfold Jk;rw[afN];refine aY.2 ⟨fun h=>?_,fun h=>⟨rfl,rfl⟩⟩;have:=dW h;simp only[gz]at this;omega
  exact H0
 |cons x X=>
  have:=aqx (sp:=sp) (U:=U) (X:=x::X) (W:=W) hn ([x],X,U++x::X++W) ⟨by simp[cC,tf],rfl⟩;simp only at this;have e:(U++[x]).length=U.length+1:=by simp
  rw[e]at this;exact this
theorem arw{sp:List (Int×dE)}{U X V Y W:LI}(hn:(U++X++V++Y++W).length<60000)(EH:X.length=Y.length):
 ∀k:LI×LI×LI×LI×LI,(k.1++k.2.1=X∧k.2.2.1++k.2.2.2.1=Y∧k.1.length=k.2.2.1.length∧k.2.2.2.2=U++k.2.2.1++k.2.1++V++k.1++k.2.2.2.1++W)->
 bF Z 143 38 3 (.aO []) (hS sp (U++Y++V++X++W)) (bk [(0,.ae 0 k.2.2.2.2.length 1),(1,J (U.length:Int)),(2,J ((U++X++V).length:Int)),(3,J (X.length:Int)),(10,J (k.1.length:Int))]) (hS sp k.2.2.2.2) (ao Z 143 0):=by
 refine cX (fun k=>k.2.1.length) _ _ _ _ ?_;rintro⟨X1,X2,Y1,Y2,l⟩ ⟨h1,h2,h3,hl⟩ ih;simp only at h1 h2 h3 hl ih⊢;subst h1 h2;simp only[bj]at EH hn;refine hD Qz 1000 (fun _=>[0,1,2,3,10]) (by kernel_rfl) ?_;rw[ary];refine aY.2 ⟨fun h=>?_,fun h=>?_⟩
 ·have h:X1.length<(X1++X2).length:=by have:=dW h;omega
  cases X2 with
  |nil=>simp at h
  |cons x X2=>
   cases Y2 with
   |nil=>simp only[bR,cI]at EH;omega
   |cons y Y2=>
    subst hl;simp only[bR]at EH hn;have hb:wI (((U++(X1++x::X2)++V).length:Int)+(X1.length:Int))=(((U++Y1++x::(X2++V++X1)).length:Nat):Int):=by rw[dz]<;>(try simp only[bj,bR])<;>omega
    have ha:wI ((U.length:Int)+(X1.length:Int))=(((U++Y1).length:Nat):Int):=by rw[dz]<;>(try simp only[bj])<;>omega
    have e1:∀z:Int,U++Y1++z::X2++V++X1++y::Y2++W=(U++Y1)++z::(X2++V++X1++y::Y2++W):=by intro z;simp
    have e2:∀z u:Int,(U++Y1)++z::(X2++V++X1++u::Y2++W)=(U++Y1++z::(X2++V++X1))++u::(Y2++W):=by intro z u;simp
    have bH:∀z:Int,(U++Y1++z::(X2++V++X1)).length=(U++Y1++x::(X2++V++X1)).length:=by intro z;simp
    have dY:(U++Y1++x::X2++V++X1++y::Y2++W).length=(U++Y1++x::(X2++V++X1)).length+1+(Y2++W).length:=by simp only[bj,bR];omega
    have hla:(U++Y1).length<(U++Y1++x::(X2++V++X1)).length:=by simp only[bj,bR];omega
    have p1:fA (aW (U++Y1++x::X2++V++X1++y::Y2++W)) ((U++Y1).length*1) [J y]=aW ((U++Y1)++y::(X2++V++X1++y::Y2++W)):=by rw[e1];exact AB y rfl
    have p2:fA (aW ((U++Y1)++y::(X2++V++X1++y::Y2++W))) ((U++Y1++x::(X2++V++X1)).length*1) [J x]=aW ((U++Y1++y::(X2++V++X1))++x::(Y2++W)):=by rw[e2];exact AB x (bH y).symm
    refine⟨(U++Y1++x::(X2++V++X1)).length,hb,by omega,y,by rw[e1,e2];exact qx rfl,(U++Y1).length,ha,by omega,x,by rw[e1];exact qx rfl,(U++Y1).length,ha,by omega,by rw[pg];omega,(U++Y1++x::(X2++V++X1)).length,hb,by omega,?_,?_⟩
    ·rw[p1,pg];simp only[bj,bR];omega
    ·rw[p1,p2];have hw:wI ((X1.length:Int)+1)=((X1.length+1:Nat):Int):=fE (iz _) (by omega);rw[hw];have:=ih (X1++[x],X2,Y1++[y],Y2,(U++Y1++y::(X2++V++X1))++x::(Y2++W)) ⟨by simp,by simp,by simp[h3],by simp⟩ (by simp);simp only[bj,bR,cI,fD]at this⊢;have el:U.length+Y1.length+(X2.length+V.length+X1.length+1)+(Y2.length+W.length+1)=U.length+Y1.length+(X2.length+1)+V.length+X1.length+(Y2.length+1)+W.length:=by omega
     rw[el]at this;exact this
 ·have h:¬X1.length<(X1++X2).length:=by have:=eJ h;omega
  have e1:X2=[]:=by rw[←List.length_eq_zero_iff];simp only[bj]at h;omega
  subst e1;have e2:Y2=[]:=by rw[←List.length_eq_zero_iff];simp only[cI]at EH;omega
  subst e2;subst hl;simp only[gz];exact⟨rfl,rfl⟩
theorem QA:bn Z Ko:=by refine dc Qz ?_;rintro⟨sp,U,X,V,Y,W⟩ args H ⟨rfl,rfl,hn,EH⟩;refine eS Qz 1000 (fun _=>[0,1,2,3,10]) 38 (by kernel_rfl) ?_;simp only[Xl];rw[arx];exact arw (sp:=sp) (U:=U) (X:=X) (V:=V) (Y:=Y) (W:=W) hn EH ([],X,[],Y,U++X++V++Y++W) ⟨rfl,rfl,rfl,by simp⟩
def N2:dP (List (Int×dE)×LI×LI×LI×LI)where
 bN w A H:=A=[.ae 0 (w.2.1++w.2.2.1++w.2.2.2.1++w.2.2.2.2).length 1,J (w.2.1.length:Int),J ((w.2.1++w.2.2.1).length:Int),J ((w.2.1++w.2.2.1++w.2.2.2.1).length:Int),cF]∧H=hS w.1 (w.2.1++w.2.2.1++w.2.2.2.1++w.2.2.2.2)∧(w.2.1++w.2.2.1++w.2.2.2.1++w.2.2.2.2).length<60000∧0<w.2.2.1.length∧0<w.2.2.2.1.length
 v w:=.aO []
 aU w:=hS w.1 (w.2.1++w.2.2.2.1++w.2.2.1++w.2.2.2.2)
theorem apk:N2.dT:=by
 rintro⟨sp,U,X,Y,W⟩ ⟨AK,U',X',Y',W'⟩ A H ⟨h1,h2,_⟩ ⟨k1,k2,_⟩;obtain⟨rfl,e⟩:=BK (h2.symm.trans k2);rw[h1]at k1;simp only[List.cons.injEq,AV.cM.injEq,AV.ae.injEq,true_and,and_true]at k1 e;have e1:U.length=U'.length:=by omega
 have e2:(U++X).length=(U'++X').length:=by omega
 have e3:(U++X++Y).length=(U'++X'++Y').length:=by omega
 obtain⟨e4,rfl⟩:=List.append_inj e e3;obtain⟨e5,rfl⟩:=List.append_inj e4 e2;obtain⟨rfl,rfl⟩:=List.append_inj e5 e1;rfl
def QB:Ev.bC:=cB 134 (cO N2 apk cV) Ko
abbrev Xu x0 x1 x2 x3:=bk [(0,.ae 0 x0 1),(2,J x1),(4,.b9 (.func 56) [] [.ad 1 0]),(10,J x2),(11,J x3)]
abbrev BF x0 x1:=aq [(0,aD x0 2),(1,.ay [.aS 2] 101),(2,gA x1)] 3
theorem aq7(sp:List (Int×dE))(l:LI)(a m b:Int)(L:LT)(Q:QT):
 b_ Z Ko (fun _=>[0,2,4,10,11]) L Q 1000 134 [.ae 0 l.length 1,J a,J m,J b,cF] (hS sp l)=(
 L (Xu l.length m (wI (m-a)) (wI (b-m))) (BF l sp) (ao Z 134 0)):=by kernel_rfl
theorem aq8(sp:List (Int×dE))(l:LI)(m i j:Int)(L:LT)(Q:QT):
 cT Z Ko (fun _=>[0,2,4,10,11]) L Q 1000 134 3 (bk [(0,.ae 0 l.length 1),(2,J m),(4,cF),(10,J i),(11,J j)]) (ao Z 134 0) (hS sp l)=(
 ai (i !=j) (ai (decide (i>j)) (∃w:List (Int×dE)×LI×LI×LI×LI×LI,(([.ae 0 l.length 1,J (wI (m-i)),J m,J j,.b9 (.func 56) [] [.ad 1 0]]:LV)=[.ae 0 (w.2.1++w.2.2.1++w.2.2.2.1++w.2.2.2.2.1++w.2.2.2.2.2).length 1,J ((w.2.1.length:Nat):Int),J (((w.2.1++w.2.2.1++w.2.2.2.1).length:Nat):Int),J ((w.2.2.1.length:Nat):Int),.b9 (.func 56) [] [.ad 1 0]]∧BF l sp=hS w.1 (w.2.1++w.2.2.1++w.2.2.2.1++w.2.2.2.2.1++w.2.2.2.2.2)∧(w.2.1++w.2.2.1++w.2.2.2.1++w.2.2.2.2.1++w.2.2.2.2.2).length<60000∧w.2.2.1.length=w.2.2.2.2.1.length)∧L (Xu l.length m (wI (i-j)) j) (BF (w.2.1++w.2.2.2.2.1++w.2.2.2.1++w.2.2.1++w.2.2.2.2.2) w.1) (ao Z 134 0)) (∃w:List (Int×dE)×LI×LI×LI×LI×LI,(([.ae 0 l.length 1,J (wI (m-i)),J (wI (wI (m+j)-i)),J i,.b9 (.func 56) [] [.ad 1 0]]:LV)=[.ae 0 (w.2.1++w.2.2.1++w.2.2.2.1++w.2.2.2.2.1++w.2.2.2.2.2).length 1,J ((w.2.1.length:Nat):Int),J (((w.2.1++w.2.2.1++w.2.2.2.1).length:Nat):Int),J ((w.2.2.1.length:Nat):Int),.b9 (.func 56) [] [.ad 1 0]]∧BF l sp=hS w.1 (w.2.1++w.2.2.1++w.2.2.2.1++w.2.2.2.2.1++w.2.2.2.2.2)∧(w.2.1++w.2.2.1++w.2.2.2.1++w.2.2.2.2.1++w.2.2.2.2.2).length<60000∧w.2.2.1.length=w.2.2.2.2.1.length)∧L (Xu l.length m i (wI (j-i))) (BF (w.2.1++w.2.2.2.2.1++w.2.2.2.1++w.2.2.1++w.2.2.2.2.2) w.1) (ao Z 134 0))) (∃w:List (Int×dE)×LI×LI×LI×LI×LI,(([.ae 0 l.length 1,J (wI (m-i)),J m,J i,.b9 (.func 56) [] [.ad 1 0]]:LV)=[.ae 0 (w.2.1++w.2.2.1++w.2.2.2.1++w.2.2.2.2.1++w.2.2.2.2.2).length 1,J ((w.2.1.length:Nat):Int),J (((w.2.1++w.2.2.1++w.2.2.2.1).length:Nat):Int),J ((w.2.2.1.length:Nat):Int),.b9 (.func 56) [] [.ad 1 0]]∧BF l sp=hS w.1 (w.2.1++w.2.2.1++w.2.2.2.1++w.2.2.2.2.1++w.2.2.2.2.2)∧(w.2.1++w.2.2.1++w.2.2.2.1++w.2.2.2.2.1++w.2.2.2.2.2).length<60000∧w.2.2.1.length=w.2.2.2.2.1.length)∧Q (.aO []) (BF (w.2.1++w.2.2.2.2.1++w.2.2.2.1++w.2.2.1++w.2.2.2.2.2) w.1))):=by kernel_rfl
theorem Q_{l:LI}{n:Nat}(h:n<=l.length):∃a b,l=a++b∧a.length=n:=⟨l.take n,l.drop n,(uI n l).symm,by simp;omega⟩
theorem aq6{sp:List (Int×dE)}{aw:LI}{m len:Nat}(bH:len<60000):
 ∀k:LI×LI×LI×LI×LI,(k.2.2.2.2=k.1++k.2.1++k.2.2.1++k.2.2.2.1∧k.1++k.2.2.1++k.2.1++k.2.2.2.1=aw∧(k.1++k.2.1).length=m∧0<k.2.1.length∧0<k.2.2.1.length∧k.2.2.2.2.length=len)->
 bF Z 134 58 3 (.aO []) (hS sp aw) (bk [(0,.ae 0 len 1),(2,J (m:Int)),(4,cF),(10,J (k.2.1.length:Int)),(11,J (k.2.2.1.length:Int))]) (hS sp k.2.2.2.2) (ao Z 134 0):=by
 refine cX (fun k=>k.2.1.length+k.2.2.1.length) _ _ _ _ ?_;rintro⟨U,X,Y,W,l⟩ ⟨hl,hf,hm,hX,hY,dY⟩ ih;simp only at hl hf hm hX hY dY ih⊢;have hn:U.length+X.length+Y.length+W.length=len:=by rw[←dY,hl];simp only[bj]
 simp only[bj]at hm;rw[←dY];refine hD QA 1000 (fun _=>[0,2,4,10,11]) (by kernel_rfl) ?_;rw[aq8];have ha:wI ((m:Int)-(X.length:Int))=(U.length:Int):=by rw[dz]<;>omega
 refine aY.2 ⟨fun h=>aY.2 ⟨fun h2=>?_,fun h2=>?_⟩,fun h=>?_⟩
 ·have h2:Y.length<X.length:=by have:=dW h2;omega
  obtain⟨Xa,Xb,rfl,To⟩:=Q_ (l:=X) (n:=Y.length) (by omega);simp only[bj]at hm hX hn h2 ha;have hi:wI (((Xa++Xb).length:Int)-(Y.length:Int))=(Xb.length:Int):=by rw[dz]<;>(try simp only[bj])<;>omega
  refine⟨(sp,U,Xa,Xb,Y,W),⟨?_,?_,?_,To⟩,?_⟩
  ·simp only[bj]at ha⊢;rw[ha,hl];simp only[bj,To,cF];congr 1
   ·congr 1;omega
   ·congr 2;congr 2;omega
  ·have e:l=U++Xa++Xb++Y++W:=by rw[hl];simp
   simp only;rw[←e];rfl
  ·simp only[bj];omega
  ·rw[hi];have:=ih (U++Y,Xb,Xa,W,U++Y++Xb++Xa++W) ⟨rfl,by rw[←hf];simp,by simp only[bj];omega,by simp only;omega,by simp only;omega,by simp only[bj];omega⟩ (by simp only[bj];omega);simp only[To]at this;rw[dY];exact this
 ·have h2:¬Y.length<X.length:=by have:=eJ h2;omega
  have h:X.length≠Y.length:=by intro he;rw[he]at h;simp at h
  obtain⟨Ya,Yb,rfl,hYa⟩:=Q_ (l:=Y) (n:=Y.length-X.length) (by omega);simp only[bj]at hm hY hn h2 h hYa;have hi:wI (((Ya++Yb).length:Int)-(X.length:Int))=(Ya.length:Int):=by rw[dz]<;>(try simp only[bj])<;>omega
  have hb:wI (wI ((m:Int)+((Ya++Yb).length:Int))-(X.length:Int))=(((U++X++Ya).length:Nat):Int):=by rw[dz (x:=(m:Int)+((Ya++Yb).length:Int)),dz]<;>(try simp only[bj])<;>omega
  refine⟨(sp,U,X,Ya,Yb,W),⟨?_,?_,?_,?_⟩,?_⟩
  ·rw[ha,hb,hl];simp only[iy,cF]
  ·have e:l=U++X++Ya++Yb++W:=by rw[hl];simp
   simp only;rw[←e];rfl
  ·simp only[bj];omega
  ·simp only;omega
  ·rw[hi];have:=ih (U,Yb,Ya,X++W,U++Yb++Ya++X++W) ⟨by simp,by rw[←hf];simp,by simp only[bj];omega,by simp only;omega,by simp only;omega,by simp only[bj];omega⟩ (by simp only[bj];omega);have e:X.length=Yb.length:=by omega
   simp only at this;rw[dY,e];exact this
 ·have h:X.length=Y.length:=by
   have h:(X.length:Int)=(Y.length:Int):=by simpa using h
   omega
  refine⟨(sp,U,X,[],Y,W),⟨?_,?_,?_,h⟩,?_⟩
  ·rw[ha,hl];simp only[gz,bj,cF];congr 3;congr 1;congr 1;omega
  ·have e:l=U++X++[]++Y++W:=by rw[hl];simp
   simp only;rw[←e];rfl
  ·simp only[gz,bj];omega
  ·simp only[gz];rw[hf];exact⟨rfl,rfl⟩
theorem Zd:bn Z QB:=by
 refine dc QA ?_;rintro⟨sp,U,X,Y,W⟩ args H ⟨rfl,rfl,hn,hX,hY⟩;have hn:(U++X++Y++W).length<60000:=hn;refine eS QA 1000 (fun _=>[0,2,4,10,11]) 58 (by kernel_rfl) ?_;simp only[N2];rw[aq7];have h1:wI (((U++X).length:Int)-(U.length:Int))=(X.length:Int):=by simp only[bj]at hn⊢;rw[dz]<;>omega
 have h2:wI (((U++X++Y).length:Int)-((U++X).length:Int))=(Y.length:Int):=by simp only[bj]at hn⊢;rw[dz]<;>omega
 rw[h1,h2];exact aq6 (sp:=sp) hn (U,X,Y,W,U++X++Y++W) ⟨rfl,rfl,rfl,hX,hY,rfl⟩
end
end Go.Cl
namespace Go.Cl
open Go.Ev
noncomputable section
theorem zv{key:Int->Int}{l:LI}(h:dI key l){i j:Nat}(o7:i<=j)(hj:j<l.length):key (l.getD j 0)<=key (l.getD i 0):=by
 have hi:i<l.length:=by omega
 simp only[List.getD,jN hj,jN hi,Option.getD_some];rcases Nat.eq_or_lt_of_le o7 with rfl|an
 ·exact fM _
 ·exact List.pairwise_iff_getElem.1 h i j hi hj an
theorem Ls{A B:LI}{i:Nat}(h:i<A.length):(A++B).getD i 0=A.getD i 0:=by simp[List.getD,List.getElem?_append_left h]
theorem Lt{A B:LI}{i:Nat}:(A++B).getD (A.length+i) 0=B.getD i 0:=by simp only[List.getD];rw[xB (by omega)];congr 2;omega
theorem Ar{l:LI}{x:Int}(h:x∈l):∃i,i<l.length∧x=l.getD i 0:=by obtain⟨i,hi,rfl⟩:=List.mem_iff_getElem.1 h;exact⟨i,hi,by simp[List.getD,jN hi]⟩
theorem K1{key:Int->Int}{A B:LI}(h:dI key (A++B)):dI key A∧dI key B:=⟨(List.pairwise_append.1 h).1,(List.pairwise_append.1 h).2.1⟩
theorem ank{key:Int->Int}{X Y:LI}(hX:dI key X)(hY:dI key Y){i j:Nat}(hi:i<=X.length)(hj:j<=Y.length)
 (jb:i=0∨j=Y.length∨¬key (X.getD (i-1) 0)<key (Y.getD j 0)) (l_:i=X.length∨j=0∨key (X.getD i 0)<key (Y.getD (j-1) 0)):
 ∃A B C D,X=A++B∧Y=C++D∧A.length=i∧C.length=j∧cC key (X++Y)=cC key (A++C)++cC key (B++D)∧dI key A∧dI key B∧dI key C∧dI key D:=by
 refine⟨X.take i,X.drop i,Y.take j,Y.drop j,(uI i X).symm,(uI j Y).symm,by simp;omega,by simp;omega,?_⟩;have eX:=uI i X;have eY:=uI j Y;have Tn:dI key (X.take i++X.drop i):=by rw[eX];exact hX
 have Tp:dI key (Y.take j++Y.drop j):=by rw[eY];exact hY
 refine⟨?_,(K1 Tn).1,(K1 Tn).2,(K1 Tp).1,(K1 Tp).2⟩;have:=au8 (A:=X.take i) (B:=X.drop i) (C:=Y.take j) (D:=Y.drop j) Tn Tp ?_ ?_
 ·rw[eX,eY]at this;exact this
 ·intro x hx y hy;obtain⟨a,ha,rfl⟩:=Ar hx;obtain⟨b,hb,rfl⟩:=Ar hy;simp only[List.length_drop]at ha;simp only[List.length_take]at hb;have e1:(X.drop i).getD a 0=X.getD (i+a) 0:=by simp[List.getD]
  have e2:(Y.take j).getD b 0=Y.getD b 0:=by simp only[List.getD,List.getElem?_take,aN (show b<j by omega)]
  rw[e1,e2];rcases l_ with h|h|h
  ·omega
  ·omega
  ·have h1:=zv hX (i:=i) (j:=i+a) (by omega) (by omega);have h2:=zv hY (i:=b) (j:=j-1) (by omega) (by omega);omega
 ·intro x hx y hy;obtain⟨a,ha,rfl⟩:=Ar hx;obtain⟨b,hb,rfl⟩:=Ar hy;simp only[List.length_take]at ha;simp only[List.length_drop]at hb;have e1:(X.take i).getD a 0=X.getD a 0:=by simp only[List.getD,List.getElem?_take,aN (show a<i by omega)]
  have e2:(Y.drop j).getD b 0=Y.getD (j+b) 0:=by simp[List.getD]
  rw[e1,e2];rcases jb with h|h|h
  ·omega
  ·omega
  ·have h1:=zv hX (i:=a) (j:=i-1) (by omega) (by omega);have h2:=zv hY (i:=j) (j:=j+b) (by omega) (by omega);omega
theorem ai6{key:Int->Int}{x:Int}{Y:LI}(hY:dI key Y){j:Nat}(hj:j<=Y.length)(jb:j=0∨key x<key (Y.getD (j-1) 0))(l_:j=Y.length∨¬key x<key (Y.getD j 0)):
 ∃P R,Y=P++R∧P.length=j∧cC key (x::Y)=P++x::R:=by
 have eY:=uI j Y;refine⟨Y.take j,Y.drop j,eY.symm,by simp;omega,?_⟩;have:=au7 (key:=key) (p:=Y.take j) (q:=Y.drop j) (x:=x) (by rw[eY];exact hY) ?_ ?_
 ·rw[eY]at this;exact this
 ·intro y hy;obtain⟨b,hb,rfl⟩:=Ar hy;simp only[List.length_take]at hb;have e2:(Y.take j).getD b 0=Y.getD b 0:=by simp only[List.getD,List.getElem?_take,aN (show b<j by omega)]
  rw[e2];rcases jb with h|h
  ·omega
  ·have h2:=zv hY (i:=b) (j:=j-1) (by omega) (by omega);omega
 ·intro y hy;obtain⟨b,hb,rfl⟩:=Ar hy;simp only[List.length_drop]at hb;have e2:(Y.drop j).getD b 0=Y.getD (j+b) 0:=by simp[List.getD]
  rw[e2];rcases l_ with h|h
  ·omega
  ·have h2:=zv hY (i:=j) (j:=j+b) (by omega) (by omega);omega
theorem ai7{key:Int->Int}{y:Int}{X:LI}(hX:dI key X){i:Nat}(hi:i<=X.length)(jb:i=0∨¬key (X.getD (i-1) 0)<key y)(l_:i=X.length∨key (X.getD i 0)<key y):
 ∃P R,X=P++R∧P.length=i∧cC key (X++[y])=P++y::R:=by
 have eX:=uI i X;refine⟨X.take i,X.drop i,eX.symm,by simp;omega,?_⟩;refine agu (by rw[Jc hX,eX]) ?_ ?_
 ·intro x hx;obtain⟨a,ha,rfl⟩:=Ar hx;simp only[List.length_drop]at ha;have e1:(X.drop i).getD a 0=X.getD (i+a) 0:=by simp[List.getD]
  rw[e1];rcases l_ with h|h
  ·omega
  ·have h1:=zv hX (i:=i) (j:=i+a) (by omega) (by omega);omega
 ·intro x hx;obtain⟨a,ha,rfl⟩:=Ar hx;simp only[List.length_take]at ha;have e1:(X.take i).getD a 0=X.getD a 0:=by simp only[List.getD,List.getElem?_take,aN (show a<i by omega)]
  rw[e1];rcases jb with h|h
  ·omega
  ·have h1:=zv hX (i:=a) (j:=i-1) (by omega) (by omega);omega
end
end Go.Cl
namespace Go.Cl
open Go.Ev Go.Proofs
variable[Ro]
noncomputable section
def F1(N:Nat):dP (List (Int×dE)×LI×LI×LI×LI)where
 bN w A H:=A=[.ae 0 (w.2.1++w.2.2.1++w.2.2.2.1++w.2.2.2.2).length 1,J (w.2.1.length:Int),J ((w.2.1++w.2.2.1).length:Int),J ((w.2.1++w.2.2.1++w.2.2.2.1).length:Int),cF]∧H=hS w.1 (w.2.1++w.2.2.1++w.2.2.2.1++w.2.2.2.2)∧(w.2.1++w.2.2.1++w.2.2.2.1++w.2.2.2.2).length<60000∧0<w.2.2.1.length∧0<w.2.2.2.1.length∧
  dI (kS w.1) w.2.2.1∧dI (kS w.1) w.2.2.2.1∧w.2.2.1.length+w.2.2.2.1.length<N
 v w:=.aO []
 aU w:=hS w.1 (w.2.1++cC (kS w.1) (w.2.2.1++w.2.2.2.1)++w.2.2.2.2)
theorem agD(N:Nat):(F1 N).dT:=by
 rintro⟨sp,U,X,Y,W⟩ ⟨AK,U',X',Y',W'⟩ A H ⟨h1,h2,_⟩ ⟨k1,k2,_⟩;obtain⟨rfl,e⟩:=BK (h2.symm.trans k2);rw[h1]at k1;simp only[List.cons.injEq,AV.cM.injEq,AV.ae.injEq,true_and,and_true]at k1 e;have e1:U.length=U'.length:=by omega
 have e2:(U++X).length=(U'++X').length:=by omega
 have e3:(U++X++Y).length=(U'++X'++Y').length:=by omega
 obtain⟨e4,rfl⟩:=List.append_inj e e3;obtain⟨e5,rfl⟩:=List.append_inj e4 e2;obtain⟨rfl,rfl⟩:=List.append_inj e5 e1;rfl
def sM(N:Nat):Ev.bC:=cB 121 (cO (F1 N) (agD N) cV) QB
def ux:Nat->LN:=nk [(3,[0,1,4,10,11]),(9,[0,10,13]),(15,[0,2,4,14,15]),(21,[0,14,17]),(33,[0,1,2,3,4,18,19,20,21,22])]
abbrev Xv x0 x1 x2 x3:=bk [(0,.ae 0 x0 1),(1,J x1),(4,.b9 (.func 56) [] [.ad 1 0]),(10,J x2),(11,J x3)]
abbrev Xw x0 x1 x2 x3:=bk [(0,.ae 0 x0 1),(2,J x1),(4,.b9 (.func 56) [] [.ad 1 0]),(14,J x2),(15,J x3)]
abbrev OD x0 x1 x2 x3 x4 x5 x6 x7 x8:=bk [(0,.ae 0 x0 1),(1,J x1),(2,J x2),(3,J x3),(4,.b9 (.func 56) [] [.ad 1 0]),(18,J x4),(19,J x5),(20,J x6),(21,J x7),(22,J x8)]
abbrev fw x0 x1:=aq [(0,aD x0 2),(1,.ay [.aS 2] 101),(2,gA x1)] 3
theorem aqK(sp:List (Int×dE))(l:LI)(a m b:Int)(N:Nat)(L:LT)(Q:QT):
 b_ Z (sM N) ux L Q 2000 121 [.ae 0 l.length 1,J a,J m,J b,cF] (hS sp l)=(
 ai (wI (m-a)==1) (L (Xv l.length a m b) (fw l sp) (ao Z 121 0)) (ai (wI (b-m)==1) (L (Xw l.length m a m) (fw l sp) (ao Z 121 2)) (ai (decide (m>wI (Int.fdiv (IntKind.u64.wrap (wI (a+b))) 2))) (L (OD l.length a m b (wI (Int.fdiv (IntKind.u64.wrap (wI (a+b))) 2)) (wI (wI (Int.fdiv (IntKind.u64.wrap (wI (a+b))) 2)+m)) (wI (wI (wI (Int.fdiv (IntKind.u64.wrap (wI (a+b))) 2)+m)-b)) (wI (Int.fdiv (IntKind.u64.wrap (wI (a+b))) 2)) (wI (wI (wI (Int.fdiv (IntKind.u64.wrap (wI (a+b))) 2)+m)-1))) (fw l sp) (ao Z 121 4)) (L (OD l.length a m b (wI (Int.fdiv (IntKind.u64.wrap (wI (a+b))) 2)) (wI (wI (Int.fdiv (IntKind.u64.wrap (wI (a+b))) 2)+m)) a m (wI (wI (wI (Int.fdiv (IntKind.u64.wrap (wI (a+b))) 2)+m)-1))) (fw l sp) (ao Z 121 4))))):=by kernel_rfl
theorem aqB(sp:List (Int×dE))(l:LI)(a i j:Int)(N:Nat)(L:LT)(Q:QT):
 cT Z (sM N) ux L Q 2000 121 3 (bk [(0,.ae 0 l.length 1),(1,J a),(4,cF),(10,J i),(11,J j)]) (ao Z 121 0) (hS sp l)=(
 ai (decide (i<j)) (∃aI:Nat,wI (Int.fdiv (IntKind.u64.wrap (wI (i+j))) 2)=(aI:Int)∧aI<l.length∧(∃n:Int,bA Z 2 (aW l) (aI*1)=some (J n:AV)∧(∃bz:Nat,a=(bz:Int)∧bz<l.length∧(∃aP:Int,bA Z 2 (aW l) (bz*1)=some (J aP:AV)∧(∃w:List (Int×dE)×Int×Int,(([J n,J aP,.ad 0 0]:LV)=[J w.2.1,J w.2.2,.ad 0 0]∧qO sp=qO w.1)∧ai (decide (tV (kS w.1 w.2.2) (kS w.1 w.2.1)<0)) (L (Xv l.length a (wI (wI (Int.fdiv (IntKind.u64.wrap (wI (i+j))) 2)+1)) j) (fw l w.1) (ao Z 121 0)) (L (Xv l.length a i (wI (Int.fdiv (IntKind.u64.wrap (wI (i+j))) 2))) (fw l w.1) (ao Z 121 0))))))) (L (bk [(0,.ae 0 l.length 1),(10,J i),(13,J a)]) (fw l sp) (ao Z 121 1))):=by kernel_rfl
theorem aqD(sp:List (Int×dE))(l:LI)(i k:Int)(N:Nat)(L:LT)(Q:QT):
 cT Z (sM N) ux L Q 2000 121 3 (bk [(0,.ae 0 l.length 1),(10,J i),(13,J k)]) (ao Z 121 1) (hS sp l)=(
 ai (decide (k<wI (i-1))) (∃aI:Nat,wI (k+1)=(aI:Int)∧aI<l.length∧(∃n:Int,bA Z 2 (aW l) (aI*1)=some (J n:AV)∧(∃bz:Nat,k=(bz:Int)∧bz<l.length∧(∃aP:Int,bA Z 2 (aW l) (bz*1)=some (J aP:AV)∧(∃cd:Nat,k=(cd:Int)∧cd<l.length∧cd*1+1<=(aW l).length∧(∃dt:Nat,wI (k+1)=(dt:Int)∧dt<l.length∧dt*1+1<=(fA (aW l) (cd*1) [J n]).length∧L (bk [(0,.ae 0 l.length 1),(10,J i),(13,J (wI (k+1)))]) (aq [(0,.aL (fA (fA (aW l) (cd*1) [J n]) (dt*1) [J aP]) 2),(1,.ay [.aS 2] 101),(2,gA sp)] 3) (ao Z 121 1))))))) (Q (.aO []) (fw l sp))):=by kernel_rfl
theorem aqF(sp:List (Int×dE))(l:LI)(m i j:Int)(N:Nat)(L:LT)(Q:QT):
 cT Z (sM N) ux L Q 2000 121 3 (bk [(0,.ae 0 l.length 1),(2,J m),(4,cF),(14,J i),(15,J j)]) (ao Z 121 2) (hS sp l)=(
 ai (decide (i<j)) (∃aI:Nat,m=(aI:Int)∧aI<l.length∧(∃n:Int,bA Z 2 (aW l) (aI*1)=some (J n:AV)∧(∃bz:Nat,wI (Int.fdiv (IntKind.u64.wrap (wI (i+j))) 2)=(bz:Int)∧bz<l.length∧(∃aP:Int,bA Z 2 (aW l) (bz*1)=some (J aP:AV)∧(∃w:List (Int×dE)×Int×Int,(([J n,J aP,.ad 0 0]:LV)=[J w.2.1,J w.2.2,.ad 0 0]∧qO sp=qO w.1)∧ai (!decide (tV (kS w.1 w.2.2) (kS w.1 w.2.1)<0)) (L (Xw l.length m (wI (wI (Int.fdiv (IntKind.u64.wrap (wI (i+j))) 2)+1)) j) (fw l w.1) (ao Z 121 2)) (L (Xw l.length m i (wI (Int.fdiv (IntKind.u64.wrap (wI (i+j))) 2))) (fw l w.1) (ao Z 121 2))))))) (L (bk [(0,.ae 0 l.length 1),(14,J i),(17,J m)]) (fw l sp) (ao Z 121 3))):=by kernel_rfl
theorem aqH(sp:List (Int×dE))(l:LI)(i k:Int)(N:Nat)(L:LT)(Q:QT):
 cT Z (sM N) ux L Q 2000 121 3 (bk [(0,.ae 0 l.length 1),(14,J i),(17,J k)]) (ao Z 121 3) (hS sp l)=(
 ai (decide (k>i)) (∃aI:Nat,wI (k-1)=(aI:Int)∧aI<l.length∧(∃n:Int,bA Z 2 (aW l) (aI*1)=some (J n:AV)∧(∃bz:Nat,k=(bz:Int)∧bz<l.length∧(∃aP:Int,bA Z 2 (aW l) (bz*1)=some (J aP:AV)∧(∃cd:Nat,k=(cd:Int)∧cd<l.length∧cd*1+1<=(aW l).length∧(∃dt:Nat,wI (k-1)=(dt:Int)∧dt<l.length∧dt*1+1<=(fA (aW l) (cd*1) [J n]).length∧L (bk [(0,.ae 0 l.length 1),(14,J i),(17,J (wI (k-1)))]) (aq [(0,.aL (fA (fA (aW l) (cd*1) [J n]) (dt*1) [J aP]) 2),(1,.ay [.aS 2] 101),(2,gA sp)] 3) (ao Z 121 3))))))) (Q (.aO []) (fw l sp))):=by kernel_rfl
theorem aqJ(sp:List (Int×dE))(l:LI)(a m b eH n s r p:Int)(N:Nat)(L:LT)(Q:QT):
 cT Z (sM N) ux L Q 2000 121 3 (bk [(0,.ae 0 l.length 1),(1,J a),(2,J m),(3,J b),(4,cF),(18,J eH),(19,J n),(20,J s),(21,J r),(22,J p)]) (ao Z 121 4) (hS sp l)=(
 ai (decide (s<r)) (∃i:Nat,wI (p-wI (Int.fdiv (IntKind.u64.wrap (wI (s+r))) 2))=(i:Int)∧i<l.length∧(∃aP:Int,bA Z 2 (aW l) (i*1)=some (J aP:AV)∧(∃aI:Nat,wI (Int.fdiv (IntKind.u64.wrap (wI (s+r))) 2)=(aI:Int)∧aI<l.length∧(∃bp:Int,bA Z 2 (aW l) (aI*1)=some (J bp:AV)∧(∃w:List (Int×dE)×Int×Int,(([J aP,J bp,.ad 0 0]:LV)=[J w.2.1,J w.2.2,.ad 0 0]∧qO sp=qO w.1)∧ai (!decide (tV (kS w.1 w.2.2) (kS w.1 w.2.1)<0)) (L (OD l.length a m b eH n (wI (wI (Int.fdiv (IntKind.u64.wrap (wI (s+r))) 2)+1)) r p) (fw l w.1) (ao Z 121 4)) (L (OD l.length a m b eH n s (wI (Int.fdiv (IntKind.u64.wrap (wI (s+r))) 2)) p) (fw l w.1) (ao Z 121 4))))))) (ai (decide (s<m)) (ai (decide (m<wI (n-s))) (∃w:List (Int×dE)×LI×LI×LI×LI,(([.ae 0 l.length 1,J s,J m,J (wI (n-s)),.b9 (.func 56) [] [.ad 1 0]]:LV)=[.ae 0 (w.2.1++w.2.2.1++w.2.2.2.1++w.2.2.2.2).length 1,J ((w.2.1.length:Nat):Int),J (((w.2.1++w.2.2.1).length:Nat):Int),J (((w.2.1++w.2.2.1++w.2.2.2.1).length:Nat):Int),.b9 (.func 56) [] [.ad 1 0]]∧fw l sp=hS w.1 (w.2.1++w.2.2.1++w.2.2.2.1++w.2.2.2.2)∧(w.2.1++w.2.2.1++w.2.2.2.1++w.2.2.2.2).length<60000∧0<w.2.2.1.length∧0<w.2.2.2.1.length)∧ai (decide (a<s)) (ai (decide (s<eH)) (∃ab:List (Int×dE)×LI×LI×LI×LI,(([.ae 0 l.length 1,J a,J s,J eH,.b9 (.func 56) [] [.ad 1 0]]:LV)=[.ae 0 (ab.2.1++ab.2.2.1++ab.2.2.2.1++ab.2.2.2.2).length 1,J ((ab.2.1.length:Nat):Int),J (((ab.2.1++ab.2.2.1).length:Nat):Int),J (((ab.2.1++ab.2.2.1++ab.2.2.2.1).length:Nat):Int),.b9 (.func 56) [] [.ad 1 0]]∧fw (w.2.1++w.2.2.2.1++w.2.2.1++w.2.2.2.2) w.1=hS ab.1 (ab.2.1++ab.2.2.1++ab.2.2.2.1++ab.2.2.2.2)∧(ab.2.1++ab.2.2.1++ab.2.2.2.1++ab.2.2.2.2).length<60000∧0<ab.2.2.1.length∧0<ab.2.2.2.1.length∧dI (kS ab.1) ab.2.2.1∧dI (kS ab.1) ab.2.2.2.1∧ab.2.2.1.length+ab.2.2.2.1.length<N)∧ai (decide (eH<wI (n-s))) (ai (decide (wI (n-s)<b)) (∃aJ:List (Int×dE)×LI×LI×LI×LI,(([.ae 0 l.length 1,J eH,J (wI (n-s)),J b,.b9 (.func 56) [] [.ad 1 0]]:LV)=[.ae 0 (aJ.2.1++aJ.2.2.1++aJ.2.2.2.1++aJ.2.2.2.2).length 1,J ((aJ.2.1.length:Nat):Int),J (((aJ.2.1++aJ.2.2.1).length:Nat):Int),J (((aJ.2.1++aJ.2.2.1++aJ.2.2.2.1).length:Nat):Int),.b9 (.func 56) [] [.ad 1 0]]∧fw (ab.2.1++cC (kS ab.1) (ab.2.2.1++ab.2.2.2.1)++ab.2.2.2.2) ab.1=hS aJ.1 (aJ.2.1++aJ.2.2.1++aJ.2.2.2.1++aJ.2.2.2.2)∧(aJ.2.1++aJ.2.2.1++aJ.2.2.2.1++aJ.2.2.2.2).length<60000∧0<aJ.2.2.1.length∧0<aJ.2.2.2.1.length∧dI (kS aJ.1) aJ.2.2.1∧dI (kS aJ.1) aJ.2.2.2.1∧aJ.2.2.1.length+aJ.2.2.2.1.length<N)∧Q (.aO []) (fw (aJ.2.1++cC (kS aJ.1) (aJ.2.2.1++aJ.2.2.2.1)++aJ.2.2.2.2) aJ.1)) (Q (.aO []) (fw (ab.2.1++cC (kS ab.1) (ab.2.2.1++ab.2.2.2.1)++ab.2.2.2.2) ab.1))) (Q (.aO []) (fw (ab.2.1++cC (kS ab.1) (ab.2.2.1++ab.2.2.2.1)++ab.2.2.2.2) ab.1))) (ai (decide (eH<wI (n-s))) (ai (decide (wI (n-s)<b)) (∃ab:List (Int×dE)×LI×LI×LI×LI,(([.ae 0 l.length 1,J eH,J (wI (n-s)),J b,.b9 (.func 56) [] [.ad 1 0]]:LV)=[.ae 0 (ab.2.1++ab.2.2.1++ab.2.2.2.1++ab.2.2.2.2).length 1,J ((ab.2.1.length:Nat):Int),J (((ab.2.1++ab.2.2.1).length:Nat):Int),J (((ab.2.1++ab.2.2.1++ab.2.2.2.1).length:Nat):Int),.b9 (.func 56) [] [.ad 1 0]]∧fw (w.2.1++w.2.2.2.1++w.2.2.1++w.2.2.2.2) w.1=hS ab.1 (ab.2.1++ab.2.2.1++ab.2.2.2.1++ab.2.2.2.2)∧(ab.2.1++ab.2.2.1++ab.2.2.2.1++ab.2.2.2.2).length<60000∧0<ab.2.2.1.length∧0<ab.2.2.2.1.length∧dI (kS ab.1) ab.2.2.1∧dI (kS ab.1) ab.2.2.2.1∧ab.2.2.1.length+ab.2.2.2.1.length<N)∧Q (.aO []) (fw (ab.2.1++cC (kS ab.1) (ab.2.2.1++ab.2.2.2.1)++ab.2.2.2.2) ab.1)) (Q (.aO []) (fw (w.2.1++w.2.2.2.1++w.2.2.1++w.2.2.2.2) w.1))) (Q (.aO []) (fw (w.2.1++w.2.2.2.1++w.2.2.1++w.2.2.2.2) w.1)))) (ai (decide (eH<wI (n-s))) (ai (decide (wI (n-s)<b)) (∃ab:List (Int×dE)×LI×LI×LI×LI,(([.ae 0 l.length 1,J eH,J (wI (n-s)),J b,.b9 (.func 56) [] [.ad 1 0]]:LV)=[.ae 0 (ab.2.1++ab.2.2.1++ab.2.2.2.1++ab.2.2.2.2).length 1,J ((ab.2.1.length:Nat):Int),J (((ab.2.1++ab.2.2.1).length:Nat):Int),J (((ab.2.1++ab.2.2.1++ab.2.2.2.1).length:Nat):Int),.b9 (.func 56) [] [.ad 1 0]]∧fw (w.2.1++w.2.2.2.1++w.2.2.1++w.2.2.2.2) w.1=hS ab.1 (ab.2.1++ab.2.2.1++ab.2.2.2.1++ab.2.2.2.2)∧(ab.2.1++ab.2.2.1++ab.2.2.2.1++ab.2.2.2.2).length<60000∧0<ab.2.2.1.length∧0<ab.2.2.2.1.length∧dI (kS ab.1) ab.2.2.1∧dI (kS ab.1) ab.2.2.2.1∧ab.2.2.1.length+ab.2.2.2.1.length<N)∧Q (.aO []) (fw (ab.2.1++cC (kS ab.1) (ab.2.2.1++ab.2.2.2.1)++ab.2.2.2.2) ab.1)) (Q (.aO []) (fw (w.2.1++w.2.2.2.1++w.2.2.1++w.2.2.2.2) w.1))) (Q (.aO []) (fw (w.2.1++w.2.2.2.1++w.2.2.1++w.2.2.2.2) w.1)))) (ai (decide (a<s)) (ai (decide (s<eH)) (∃w:List (Int×dE)×LI×LI×LI×LI,(([.ae 0 l.length 1,J a,J s,J eH,.b9 (.func 56) [] [.ad 1 0]]:LV)=[.ae 0 (w.2.1++w.2.2.1++w.2.2.2.1++w.2.2.2.2).length 1,J ((w.2.1.length:Nat):Int),J (((w.2.1++w.2.2.1).length:Nat):Int),J (((w.2.1++w.2.2.1++w.2.2.2.1).length:Nat):Int),.b9 (.func 56) [] [.ad 1 0]]∧fw l sp=hS w.1 (w.2.1++w.2.2.1++w.2.2.2.1++w.2.2.2.2)∧(w.2.1++w.2.2.1++w.2.2.2.1++w.2.2.2.2).length<60000∧0<w.2.2.1.length∧0<w.2.2.2.1.length∧dI (kS w.1) w.2.2.1∧dI (kS w.1) w.2.2.2.1∧w.2.2.1.length+w.2.2.2.1.length<N)∧ai (decide (eH<wI (n-s))) (ai (decide (wI (n-s)<b)) (∃ab:List (Int×dE)×LI×LI×LI×LI,(([.ae 0 l.length 1,J eH,J (wI (n-s)),J b,.b9 (.func 56) [] [.ad 1 0]]:LV)=[.ae 0 (ab.2.1++ab.2.2.1++ab.2.2.2.1++ab.2.2.2.2).length 1,J ((ab.2.1.length:Nat):Int),J (((ab.2.1++ab.2.2.1).length:Nat):Int),J (((ab.2.1++ab.2.2.1++ab.2.2.2.1).length:Nat):Int),.b9 (.func 56) [] [.ad 1 0]]∧fw (w.2.1++cC (kS w.1) (w.2.2.1++w.2.2.2.1)++w.2.2.2.2) w.1=hS ab.1 (ab.2.1++ab.2.2.1++ab.2.2.2.1++ab.2.2.2.2)∧(ab.2.1++ab.2.2.1++ab.2.2.2.1++ab.2.2.2.2).length<60000∧0<ab.2.2.1.length∧0<ab.2.2.2.1.length∧dI (kS ab.1) ab.2.2.1∧dI (kS ab.1) ab.2.2.2.1∧ab.2.2.1.length+ab.2.2.2.1.length<N)∧Q (.aO []) (fw (ab.2.1++cC (kS ab.1) (ab.2.2.1++ab.2.2.2.1)++ab.2.2.2.2) ab.1)) (Q (.aO []) (fw (w.2.1++cC (kS w.1) (w.2.2.1++w.2.2.2.1)++w.2.2.2.2) w.1))) (Q (.aO []) (fw (w.2.1++cC (kS w.1) (w.2.2.1++w.2.2.2.1)++w.2.2.2.2) w.1))) (ai (decide (eH<wI (n-s))) (ai (decide (wI (n-s)<b)) (∃w:List (Int×dE)×LI×LI×LI×LI,(([.ae 0 l.length 1,J eH,J (wI (n-s)),J b,.b9 (.func 56) [] [.ad 1 0]]:LV)=[.ae 0 (w.2.1++w.2.2.1++w.2.2.2.1++w.2.2.2.2).length 1,J ((w.2.1.length:Nat):Int),J (((w.2.1++w.2.2.1).length:Nat):Int),J (((w.2.1++w.2.2.1++w.2.2.2.1).length:Nat):Int),.b9 (.func 56) [] [.ad 1 0]]∧fw l sp=hS w.1 (w.2.1++w.2.2.1++w.2.2.2.1++w.2.2.2.2)∧(w.2.1++w.2.2.1++w.2.2.2.1++w.2.2.2.2).length<60000∧0<w.2.2.1.length∧0<w.2.2.2.1.length∧dI (kS w.1) w.2.2.1∧dI (kS w.1) w.2.2.2.1∧w.2.2.1.length+w.2.2.2.1.length<N)∧Q (.aO []) (fw (w.2.1++cC (kS w.1) (w.2.2.1++w.2.2.2.1)++w.2.2.2.2) w.1)) (Q (.aO []) (fw l sp))) (Q (.aO []) (fw l sp)))) (ai (decide (eH<wI (n-s))) (ai (decide (wI (n-s)<b)) (∃w:List (Int×dE)×LI×LI×LI×LI,(([.ae 0 l.length 1,J eH,J (wI (n-s)),J b,.b9 (.func 56) [] [.ad 1 0]]:LV)=[.ae 0 (w.2.1++w.2.2.1++w.2.2.2.1++w.2.2.2.2).length 1,J ((w.2.1.length:Nat):Int),J (((w.2.1++w.2.2.1).length:Nat):Int),J (((w.2.1++w.2.2.1++w.2.2.2.1).length:Nat):Int),.b9 (.func 56) [] [.ad 1 0]]∧fw l sp=hS w.1 (w.2.1++w.2.2.1++w.2.2.2.1++w.2.2.2.2)∧(w.2.1++w.2.2.1++w.2.2.2.1++w.2.2.2.2).length<60000∧0<w.2.2.1.length∧0<w.2.2.2.1.length∧dI (kS w.1) w.2.2.1∧dI (kS w.1) w.2.2.2.1∧w.2.2.1.length+w.2.2.2.1.length<N)∧Q (.aO []) (fw (w.2.1++cC (kS w.1) (w.2.2.1++w.2.2.2.1)++w.2.2.2.2) w.1)) (Q (.aO []) (fw l sp))) (Q (.aO []) (fw l sp))))) (ai (decide (a<s)) (ai (decide (s<eH)) (∃w:List (Int×dE)×LI×LI×LI×LI,(([.ae 0 l.length 1,J a,J s,J eH,.b9 (.func 56) [] [.ad 1 0]]:LV)=[.ae 0 (w.2.1++w.2.2.1++w.2.2.2.1++w.2.2.2.2).length 1,J ((w.2.1.length:Nat):Int),J (((w.2.1++w.2.2.1).length:Nat):Int),J (((w.2.1++w.2.2.1++w.2.2.2.1).length:Nat):Int),.b9 (.func 56) [] [.ad 1 0]]∧fw l sp=hS w.1 (w.2.1++w.2.2.1++w.2.2.2.1++w.2.2.2.2)∧(w.2.1++w.2.2.1++w.2.2.2.1++w.2.2.2.2).length<60000∧0<w.2.2.1.length∧0<w.2.2.2.1.length∧dI (kS w.1) w.2.2.1∧dI (kS w.1) w.2.2.2.1∧w.2.2.1.length+w.2.2.2.1.length<N)∧ai (decide (eH<wI (n-s))) (ai (decide (wI (n-s)<b)) (∃ab:List (Int×dE)×LI×LI×LI×LI,(([.ae 0 l.length 1,J eH,J (wI (n-s)),J b,.b9 (.func 56) [] [.ad 1 0]]:LV)=[.ae 0 (ab.2.1++ab.2.2.1++ab.2.2.2.1++ab.2.2.2.2).length 1,J ((ab.2.1.length:Nat):Int),J (((ab.2.1++ab.2.2.1).length:Nat):Int),J (((ab.2.1++ab.2.2.1++ab.2.2.2.1).length:Nat):Int),.b9 (.func 56) [] [.ad 1 0]]∧fw (w.2.1++cC (kS w.1) (w.2.2.1++w.2.2.2.1)++w.2.2.2.2) w.1=hS ab.1 (ab.2.1++ab.2.2.1++ab.2.2.2.1++ab.2.2.2.2)∧(ab.2.1++ab.2.2.1++ab.2.2.2.1++ab.2.2.2.2).length<60000∧0<ab.2.2.1.length∧0<ab.2.2.2.1.length∧dI (kS ab.1) ab.2.2.1∧dI (kS ab.1) ab.2.2.2.1∧ab.2.2.1.length+ab.2.2.2.1.length<N)∧Q (.aO []) (fw (ab.2.1++cC (kS ab.1) (ab.2.2.1++ab.2.2.2.1)++ab.2.2.2.2) ab.1)) (Q (.aO []) (fw (w.2.1++cC (kS w.1) (w.2.2.1++w.2.2.2.1)++w.2.2.2.2) w.1))) (Q (.aO []) (fw (w.2.1++cC (kS w.1) (w.2.2.1++w.2.2.2.1)++w.2.2.2.2) w.1))) (ai (decide (eH<wI (n-s))) (ai (decide (wI (n-s)<b)) (∃w:List (Int×dE)×LI×LI×LI×LI,(([.ae 0 l.length 1,J eH,J (wI (n-s)),J b,.b9 (.func 56) [] [.ad 1 0]]:LV)=[.ae 0 (w.2.1++w.2.2.1++w.2.2.2.1++w.2.2.2.2).length 1,J ((w.2.1.length:Nat):Int),J (((w.2.1++w.2.2.1).length:Nat):Int),J (((w.2.1++w.2.2.1++w.2.2.2.1).length:Nat):Int),.b9 (.func 56) [] [.ad 1 0]]∧fw l sp=hS w.1 (w.2.1++w.2.2.1++w.2.2.2.1++w.2.2.2.2)∧(w.2.1++w.2.2.1++w.2.2.2.1++w.2.2.2.2).length<60000∧0<w.2.2.1.length∧0<w.2.2.2.1.length∧dI (kS w.1) w.2.2.1∧dI (kS w.1) w.2.2.2.1∧w.2.2.1.length+w.2.2.2.1.length<N)∧Q (.aO []) (fw (w.2.1++cC (kS w.1) (w.2.2.1++w.2.2.2.1)++w.2.2.2.2) w.1)) (Q (.aO []) (fw l sp))) (Q (.aO []) (fw l sp)))) (ai (decide (eH<wI (n-s))) (ai (decide (wI (n-s)<b)) (∃w:List (Int×dE)×LI×LI×LI×LI,(([.ae 0 l.length 1,J eH,J (wI (n-s)),J b,.b9 (.func 56) [] [.ad 1 0]]:LV)=[.ae 0 (w.2.1++w.2.2.1++w.2.2.2.1++w.2.2.2.2).length 1,J ((w.2.1.length:Nat):Int),J (((w.2.1++w.2.2.1).length:Nat):Int),J (((w.2.1++w.2.2.1++w.2.2.2.1).length:Nat):Int),.b9 (.func 56) [] [.ad 1 0]]∧fw l sp=hS w.1 (w.2.1++w.2.2.1++w.2.2.2.1++w.2.2.2.2)∧(w.2.1++w.2.2.1++w.2.2.2.1++w.2.2.2.2).length<60000∧0<w.2.2.1.length∧0<w.2.2.2.1.length∧dI (kS w.1) w.2.2.1∧dI (kS w.1) w.2.2.2.1∧w.2.2.1.length+w.2.2.2.1.length<N)∧Q (.aO []) (fw (w.2.1++cC (kS w.1) (w.2.2.1++w.2.2.2.1)++w.2.2.2.2) w.1)) (Q (.aO []) (fw l sp))) (Q (.aO []) (fw l sp)))))):=by kernel_rfl
theorem LR{i j:Nat}(h:i+j<1000000):wI (Int.fdiv (IntKind.u64.wrap (wI ((i:Int)+(j:Int)))) 2)=(((i+j)/ 2:Nat):Int):=by
 rw[dz (x:=(i:Int)+(j:Int)) (by omega) (by omega)];have hu:IntKind.u64.wrap ((i:Int)+(j:Int))=(i:Int)+(j:Int):=IntWalk.u64_in _ (by omega);rw[hu];have e:Int.fdiv ((i:Int)+(j:Int)) 2=(((i+j)/ 2:Nat):Int):=by rw[Int.fdiv_eq_ediv_of_nonneg _ (by omega)];omega
 rw[e,dz]<;>omega
section
variable{sp:List (Int×dE)}{N:Nat}
theorem aqE(ox:bn Z (sM N)){aw U P R W:LI}{x:Int}{len:Nat}(hf:aw=U++P++x::(R++W))(bH:aw.length=len)(hl:len<60000):
 ∀k:LI×LI×LI,(k.1++k.2.1=P∧k.2.2=U++k.1++x::(k.2.1++(R++W)))->
 bF Z 121 220 3 (.aO []) (hS sp aw) (bk [(0,.ae 0 len 1),(10,J ((U.length+1+P.length:Nat):Int)),(13,J ((U++k.1).length:Int))]) (hS sp k.2.2) (ao Z 121 1):=by
 refine cX (fun k=>k.2.1.length) _ _ _ _ ?_;rintro⟨P1,P2,l⟩ ⟨hP,ki⟩ ih;simp only at hP ki ih⊢;subst hP;have dY:l.length=len:=by rw[ki,←bH,hf];simp only[bj,bR];omega
 have q_:U.length+P1.length+P2.length+1+R.length+W.length=len:=by rw[←dY,ki];simp only[bj,bR];omega
 rw[←dY];refine hD ox 2000 ux (by kernel_rfl) ?_;rw[aqD];have hw:wI (((U.length+1+(P1++P2).length:Nat):Int)-1)=((U.length+(P1++P2).length:Nat):Int):=by simp only[bj];rw[dz]<;>omega
 rw[hw];have hk:wI (((U++P1).length:Int)+1)=(((U++P1).length+1:Nat):Int):=fE (iz _) (by simp only[bj];omega);refine aY.2 ⟨fun h=>?_,fun h=>?_⟩
 ·have h:=dW h;simp only[bj]at h;cases P2 with
  |nil=>simp only[cI]at h;omega
  |cons y P2=>
   simp only[bR]at q_;subst ki;have e1:U++P1++x::(y::P2++(R++W))=(U++P1++[x])++y::(P2++(R++W)):=by simp
   have e2:(U++P1)++y::(y::P2++(R++W))=(U++P1++[y])++y::(P2++(R++W)):=by simp
   have p1:fA (aW (U++P1++x::(y::P2++(R++W)))) ((U++P1).length*1) [J y]=aW ((U++P1)++y::(y::P2++(R++W))):=AB y rfl;have p2:fA (aW ((U++P1)++y::(y::P2++(R++W)))) (((U++P1).length+1)*1) [J x]=aW ((U++P1++[y])++x::(P2++(R++W))):=by rw[e2];exact AB x (by simp only[bj,bR,cI])
   refine⟨(U++P1).length+1,hk,by simp only[bj]at dY⊢;omega,y,by rw[e1];exact qx (by simp only[bj,bR,cI]),(U++P1).length,rfl,by simp only[bj]at dY⊢;omega,x,qx rfl,(U++P1).length,rfl,by simp only[bj]at dY⊢;omega,by rw[pg];simp only[bj]at dY⊢;omega,(U++P1).length+1,hk,by simp only[bj]at dY⊢;omega,?_,?_⟩
   ·rw[p1,pg];simp only[bj,bR]at dY⊢;omega
   ·rw[p1,p2,hk];have:=ih (P1++[y],P2,(U++P1++[y])++x::(P2++(R++W))) ⟨by simp,by simp⟩ (by simp);simp only at this;have e:(U++(P1++[y])).length=(U++P1).length+1:=by simp;omega
    rw[e]at this;rw[dY];exact this
 ·have h:=eJ h;simp only[bj]at h;have hP:P2=[]:=by rw[←List.length_eq_zero_iff];omega
  subst hP;have:l=aw:=by rw[ki,hf];simp
  rw[this];exact⟨rfl,rfl⟩
theorem aqI(ox:bn Z (sM N)){aw U P R W:LI}{y:Int}{len:Nat}(hf:aw=U++P++y::(R++W))(bH:aw.length=len)(hl:len<60000):
 ∀k:LI×LI×LI,(k.1++k.2.1=R∧k.2.2=U++P++k.1++y::(k.2.1++W))->
 bF Z 121 220 3 (.aO []) (hS sp aw) (bk [(0,.ae 0 len 1),(14,J ((U++P).length:Int)),(17,J ((U++P++k.1).length:Int))]) (hS sp k.2.2) (ao Z 121 3):=by
 refine cX (fun k=>k.1.length) _ _ _ _ ?_;rintro⟨R1,R2,l⟩ ⟨hR,ki⟩ ih;simp only at hR ki ih⊢;subst hR;have dY:l.length=len:=by rw[ki,←bH,hf];simp only[bj,bR];omega
 have q_:U.length+P.length+R1.length+R2.length+1+W.length=len:=by rw[←dY,ki];simp only[bj,bR];omega
 rw[←dY];refine hD ox 2000 ux (by kernel_rfl) ?_;rw[aqH];refine aY.2 ⟨fun h=>?_,fun h=>?_⟩
 ·have h:=dW h;simp only[bj]at h;have hp:R1≠[]:=by rintro rfl;simp only[cI]at h;omega
  obtain⟨R1,z,rfl⟩:∃p' y,R1=p'++[y]:=⟨R1.dropLast,R1.getLast hp,(List.dropLast_concat_getLast hp).symm⟩;subst ki;simp only[bj,bR,cI]at q_;have hk:wI (((U++P++(R1++[z])).length:Int)-1)=(((U++P++R1).length:Nat):Int):=by simp only[bj,bR,cI];rw[dz]<;>omega
  have e1:U++P++(R1++[z])++y::(R2++W)=(U++P++R1)++z::(y::(R2++W)):=by simp
  have p1:fA (aW (U++P++(R1++[z])++y::(R2++W))) ((U++P++(R1++[z])).length*1) [J z]=aW ((U++P++R1)++z::(z::(R2++W))):=by rw[AB z rfl];simp
  have p2:fA (aW ((U++P++R1)++z::(z::(R2++W)))) ((U++P++R1).length*1) [J y]=aW ((U++P++R1)++y::(z::(R2++W))):=AB y rfl;have acq:(U++P++R1).length<(U++P++(R1++[z])++y::(R2++W)).length:=by simp only[bj,bR];omega
  have Mk:(U++P++(R1++[z])).length<(U++P++(R1++[z])++y::(R2++W)).length:=by simp only[bj,bR];omega
  refine⟨(U++P++R1).length,hk,acq,z,by rw[e1];exact qx rfl,(U++P++(R1++[z])).length,rfl,Mk,y,qx rfl,(U++P++(R1++[z])).length,rfl,Mk,by rw[pg];omega,(U++P++R1).length,hk,acq,?_,?_⟩
  ·rw[p1,pg];simp only[bj,bR];omega
  ·rw[p1,p2,hk];have:=ih (R1,z::R2,(U++P++R1)++y::(z::(R2++W))) ⟨by simp,by simp⟩ (by simp);simp only at this;rw[dY];exact this
 ·have h:=eJ h;simp only[bj]at h;have hP:R1=[]:=by rw[←List.length_eq_zero_iff];omega
  subst hP;have:l=aw:=by rw[ki,hf];simp
  rw[this];exact⟨rfl,rfl⟩
theorem aqC(ox:bn Z (sM N)){U Y W:LI}{x:Int}(hl:(U++[x]++Y++W).length<60000)(hY:dI (kS sp) Y):
 ∀k:Nat×Nat,(k.1<=k.2∧k.2<=Y.length∧(k.1=0∨kS sp x<kS sp (Y.getD (k.1-1) 0))∧(k.2=Y.length∨¬kS sp x<kS sp (Y.getD k.2 0)))->
 bF Z 121 220 3 (.aO []) (hS sp (U++cC (kS sp) (x::Y)++W)) (bk [(0,.ae 0 (U++[x]++Y++W).length 1),(1,J (U.length:Int)),(4,cF),(10,J ((U.length+1+k.1:Nat):Int)),(11,J ((U.length+1+k.2:Nat):Int))]) (hS sp (U++[x]++Y++W)) (ao Z 121 0):=by
 refine cX (fun k=>k.2-k.1) _ _ _ _ ?_;rintro⟨i,j⟩ ⟨o7,hj,jb,l_⟩ ih;simp only at o7 hj jb l_ ih⊢;have dY:(U++[x]++Y++W).length=U.length+1+Y.length+W.length:=by simp only[bj,bR,cI]
 refine hD ox 2000 ux (by kernel_rfl) ?_;rw[aqB];rw[LR (by omega)];refine aY.2 ⟨fun h=>?_,fun h=>?_⟩
 ·have h:=dW h;have hc:(U.length+1+i+(U.length+1+j))/ 2=U.length+1+(i+j)/ 2:=by omega
  rw[hc];have hg:(U++[x]++Y++W).getD (U.length+1+(i+j)/ 2) 0=Y.getD ((i+j)/ 2) 0:=by
   have e:U++[x]++Y++W=(U++[x])++(Y++W):=by simp
   have e2:U.length+1+(i+j)/ 2=(U++[x]).length+(i+j)/ 2:=by simp
   rw[e,e2,Lt,Ls (by omega)]
  have hr:=JG (l:=U++[x]++Y++W) (i:=U.length+1+(i+j)/ 2) (by omega);rw[hg]at hr;have hw:wI (((U.length+1+(i+j)/ 2:Nat):Int)+1)=((U.length+1+((i+j)/ 2+1):Nat):Int):=by rw[dz]<;>omega
  refine⟨U.length+1+(i+j)/ 2,rfl,by omega,_,hr,U.length,rfl,by omega,x,?_,(sp,Y.getD ((i+j)/ 2) 0,x),⟨rfl,rfl⟩,aY.2 ⟨fun hk=>?_,fun hk=>?_⟩⟩
  ·have e:U++[x]++Y++W=U++x::(Y++W):=by simp
   rw[e];exact qx rfl
  ·have hk:kS sp x<kS sp (Y.getD ((i+j)/ 2) 0):=zr.1 (dW hk);rw[hw];exact ih ((i+j)/ 2+1,j) ⟨by simp only;omega,hj,.inr (by simpa using hk),l_⟩ (by simp only;omega)
  ·have hk:¬kS sp x<kS sp (Y.getD ((i+j)/ 2) 0):=fun hh=>eJ hk (zr.2 hh)
   exact ih (i,(i+j)/ 2) ⟨by simp only;omega,by simp only;omega,jb,.inr hk⟩ (by simp only;omega)
 ·have h:=eJ h;have hj:i=j:=by omega
  subst hj;obtain⟨P,R,rfl,hP,hs⟩:=ai6 hY hj jb l_;have:=aqE (sp:=sp) ox (aw:=U++cC (kS sp) (x::(P++R))++W) (U:=U) (P:=P) (R:=R) (W:=W) (x:=x) (len:=(U++[x]++(P++R)++W).length) (by rw[hs];simp) (by simp[pk];omega) hl ([],P,U++[x]++(P++R)++W) ⟨rfl,by simp⟩;simp only[gz,hP]at this;exact this
theorem aqG(ox:bn Z (sM N)){U X W:LI}{y:Int}(hl:(U++X++[y]++W).length<60000)(hX:dI (kS sp) X):
 ∀k:Nat×Nat,(k.1<=k.2∧k.2<=X.length∧(k.1=0∨¬kS sp (X.getD (k.1-1) 0)<kS sp y)∧(k.2=X.length∨kS sp (X.getD k.2 0)<kS sp y))->
 bF Z 121 220 3 (.aO []) (hS sp (U++cC (kS sp) (X++[y])++W)) (bk [(0,.ae 0 (U++X++[y]++W).length 1),(2,J ((U++X).length:Int)),(4,cF),(14,J ((U.length+k.1:Nat):Int)),(15,J ((U.length+k.2:Nat):Int))]) (hS sp (U++X++[y]++W)) (ao Z 121 2):=by
 refine cX (fun k=>k.2-k.1) _ _ _ _ ?_;rintro⟨i,j⟩ ⟨o7,hj,jb,l_⟩ ih;simp only at o7 hj jb l_ ih⊢;have dY:(U++X++[y]++W).length=U.length+X.length+1+W.length:=by simp only[bj,bR,cI]
 refine hD ox 2000 ux (by kernel_rfl) ?_;rw[aqF];rw[LR (by omega)];refine aY.2 ⟨fun h=>?_,fun h=>?_⟩
 ·have h:=dW h;have hc:(U.length+i+(U.length+j))/ 2=U.length+(i+j)/ 2:=by omega
  rw[hc];have hg:(U++X++[y]++W).getD (U.length+(i+j)/ 2) 0=X.getD ((i+j)/ 2) 0:=by
   have e:U++X++[y]++W=U++(X++([y]++W)):=by simp
   rw[e,Lt,Ls (by omega)]
  have hr:=JG (l:=U++X++[y]++W) (i:=U.length+(i+j)/ 2) (by omega);rw[hg]at hr;have hw:wI (((U.length+(i+j)/ 2:Nat):Int)+1)=((U.length+((i+j)/ 2+1):Nat):Int):=by rw[dz]<;>omega
  refine⟨(U++X).length,rfl,by simp only[bj]at dY⊢;omega,y,?_,U.length+(i+j)/ 2,rfl,by omega,_,hr,(sp,y,X.getD ((i+j)/ 2) 0),⟨rfl,rfl⟩,aY.2 ⟨fun hk=>?_,fun hk=>?_⟩⟩
  ·have e:U++X++[y]++W=(U++X)++y::W:=by simp
   rw[e];exact qx rfl
  ·have hk:¬kS sp (X.getD ((i+j)/ 2) 0)<kS sp y:=fun hh=>by have:=decide_eq_true (zr.2 hh);simp only at hk;rw[this]at hk;cases hk
   rw[hw];exact ih ((i+j)/ 2+1,j) ⟨by simp only;omega,hj,.inr (by simpa using hk),l_⟩ (by simp only;omega)
  ·have hk:kS sp (X.getD ((i+j)/ 2) 0)<kS sp y:=by refine zr.1 (dW ?_);simpa using hk
   exact ih (i,(i+j)/ 2) ⟨by simp only;omega,by simp only;omega,jb,.inr hk⟩ (by simp only;omega)
 ·have h:=eJ h;have hj:i=j:=by omega
  subst hj;obtain⟨P,R,rfl,hP,hs⟩:=ai7 hX hj jb l_;have:=aqI (sp:=sp) ox (aw:=U++cC (kS sp) (P++R++[y])++W) (U:=U) (P:=P) (R:=R) (W:=W) (y:=y) (len:=(U++(P++R)++[y]++W).length) (by rw[hs];simp) (by simp[pk];omega) hl (R,[],U++(P++R)++[y]++W) ⟨by simp,by simp⟩;simp only[iy]at this;have e:(U++P).length=U.length+i:=by simp[hP]
  rw[e]at this;simp only[iy];exact this
def Ga(N:Nat)(Q:AV->AH->Prop)(len:Nat)(eH e b:Int)(sp:List (Int×dE))(l:LI):Prop:=
 ai (decide (eH<e)) (ai (decide (e<b)) (∃w,(F1 N).bN w [.ae 0 len 1,J eH,J e,J b,cF] (hS sp l)∧Q (.aO []) ((F1 N).aU w)) (Q (.aO []) (hS sp l))) (Q (.aO []) (hS sp l))
def F'(N:Nat)(Q:AV->AH->Prop)(len:Nat)(a s eH e b:Int)(sp:List (Int×dE))(l:LI):Prop:=
 ai (decide (a<s)) (ai (decide (s<eH)) (∃w,(F1 N).bN w [.ae 0 len 1,J a,J s,J eH,cF] (hS sp l)∧Ga N Q len eH e b w.1 (w.2.1++cC (kS w.1) (w.2.2.1++w.2.2.2.1)++w.2.2.2.2)) (Ga N Q len eH e b sp l)) (Ga N Q len eH e b sp l)
def avt(N:Nat)(Q:AV->AH->Prop)(len:Nat)(a m s eH e b:Int)(sp:List (Int×dE))(l:LI):Prop:=
 ai (decide (s<m)) (ai (decide (m<e)) (∃w,N2.bN w [.ae 0 len 1,J s,J m,J e,cF] (hS sp l)∧F' N Q len a s eH e b w.1 (w.2.1++w.2.2.2.1++w.2.2.1++w.2.2.2.2)) (F' N Q len a s eH e b sp l)) (F' N Q len a s eH e b sp l)
theorem cv{b:Bool}{A B:Prop}(h1:b=true->A)(h2:b=false->B):ai b A B:=aY.2 ⟨h1,h2⟩
theorem avw{aw U V B D W:LI}(hf:aw=U++V++cC (kS sp) (B++D)++W)(hB:dI (kS sp) B)(hD:dI (kS sp) D)(hN:B.length+D.length<N){len:Nat}(bH:(U++V++B++D++W).length=len)(hl:len<60000){eH e b:Nat}(h1:eH=(U++V).length)(h2:e=(U++V++B).length)(h3:b=(U++V++B++D).length):
 Ga N (iI (.aO []) (hS sp aw)) len (eH:Int) (e:Int) (b:Int) sp (U++V++B++D++W):=by
 subst h1 h2 h3 bH;have uL:B=[]∨D=[]->iI (.aO []) (hS sp aw) (.aO []) (hS sp (U++V++B++D++W)):=by
  intro h;refine⟨rfl,?_⟩;rw[hf];congr 1;rcases h with rfl|rfl
  ·simp[Jc hD]
  ·simp[Jc hB]
 refine cv (fun h=>cv (fun h'=>?_) (fun h'=>?_)) (fun h=>?_)
 ·have h:=dW h;have h':=dW h';simp only[bj]at h h';refine⟨(sp,U++V,B,D,W),⟨rfl,rfl,hl,by simp only;omega,by simp only;omega,hB,hD,hN⟩,rfl,?_⟩;rw[hf];rfl
 ·have h':=eJ h';simp only[bj]at h';exact uL (.inr (by rw[←List.length_eq_zero_iff];omega))
 ·have h':=eJ h;simp only[bj]at h';exact uL (.inl (by rw[←List.length_eq_zero_iff];omega))
theorem avv{aw U A B C D W:LI}(hf:aw=U++cC (kS sp) (A++C)++cC (kS sp) (B++D)++W)(hA:dI (kS sp) A)(hC:dI (kS sp) C)(hB:dI (kS sp) B)(hD:dI (kS sp) D)(Tg:A.length+C.length<N)(hN:B.length+D.length<N){len:Nat}(bH:(U++A++C++B++D++W).length=len)(hl:len<60000){a s eH e b:Nat}(ha:a=U.length)(hs:s=(U++A).length)(h1:eH=(U++A++C).length)(h2:e=(U++A++C++B).length)(h3:b=(U++A++C++B++D).length):
 F' N (iI (.aO []) (hS sp aw)) len (a:Int) (s:Int) (eH:Int) (e:Int) (b:Int) sp (U++A++C++B++D++W):=by
 have gM:=pk (kS sp) (A++C);simp only[bj]at gM;have done:∀l,l=U++cC (kS sp) (A++C)++B++D++W->Ga N (iI (.aO []) (hS sp aw)) len (eH:Int) (e:Int) (b:Int) sp l:=by
  intro l h;rw[h];refine avw hf hB hD hN ?_ hl ?_ ?_ ?_
  ·rw[←bH];simp only[bj];omega
  ·rw[h1];simp only[bj];omega
  ·rw[h2];simp only[bj];omega
  ·rw[h3];simp only[bj];omega
 have uL:A=[]∨C=[]->Ga N (iI (.aO []) (hS sp aw)) len (eH:Int) (e:Int) (b:Int) sp (U++A++C++B++D++W):=by
  intro h;refine done _ ?_;rcases h with rfl|rfl
  ·simp[Jc hC]
  ·simp[Jc hA]
 subst ha hs h1 bH;refine cv (fun h=>cv (fun h'=>?_) (fun h'=>?_)) (fun h=>?_)
 ·have h:=dW h;have h':=dW h';simp only[bj]at h h';refine⟨(sp,U,A,C,B++D++W),⟨?_,?_,?_,by simp only;omega,by simp only;omega,hA,hC,Tg⟩,?_⟩
  ·simp[cF]
  ·simp only[←iy]
  ·simp only[←iy];exact hl
  ·exact done _ (by simp)
 ·have h':=eJ h';simp only[bj]at h';exact uL (.inr (by rw[←List.length_eq_zero_iff];omega))
 ·have h':=eJ h;simp only[bj]at h';exact uL (.inl (by rw[←List.length_eq_zero_iff];omega))
theorem avu{aw U A B C D W:LI}(hf:aw=U++cC (kS sp) (A++C)++cC (kS sp) (B++D)++W)(hA:dI (kS sp) A)(hC:dI (kS sp) C)(hB:dI (kS sp) B)(hD:dI (kS sp) D)(Tg:A.length+C.length<N)(hN:B.length+D.length<N){len:Nat}(bH:(U++A++B++C++D++W).length=len)(hl:len<60000){a m s eH e b:Nat}(ha:a=U.length)(hm:m=(U++A++B).length)(hs:s=(U++A).length)(h1:eH=(U++A++C).length)(h2:e=(U++A++B++C).length)(h3:b=(U++A++B++C++D).length):
 avt N (iI (.aO []) (hS sp aw)) len (a:Int) (m:Int) (s:Int) (eH:Int) (e:Int) (b:Int) sp (U++A++B++C++D++W):=by
 have done:∀l,l=U++A++C++B++D++W->F' N (iI (.aO []) (hS sp aw)) len (a:Int) (s:Int) (eH:Int) (e:Int) (b:Int) sp l:=by
  intro l h;rw[h];refine avv hf hA hC hB hD Tg hN ?_ hl ha hs h1 ?_ ?_
  ·rw[←bH];simp only[bj];omega
  ·rw[h2];simp only[bj];omega
  ·rw[h3];simp only[bj];omega
 have uL:B=[]∨C=[]->F' N (iI (.aO []) (hS sp aw)) len (a:Int) (s:Int) (eH:Int) (e:Int) (b:Int) sp (U++A++B++C++D++W):=by intro h;refine done _ ?_;rcases h with rfl|rfl<;>simp
 subst hm hs h2 bH;refine cv (fun h=>cv (fun h'=>?_) (fun h'=>?_)) (fun h=>?_)
 ·have h:=dW h;have h':=dW h';simp only[bj]at h h';refine⟨(sp,U++A,B,C,D++W),⟨?_,?_,?_,by simp only;omega,by simp only;omega⟩,?_⟩
  ·simp[cF]
  ·simp only[←iy]
  ·simp only[←iy];exact hl
  ·exact done _ (by simp)
 ·have h':=eJ h';simp only[bj]at h';exact uL (.inr (by rw[←List.length_eq_zero_iff];omega))
 ·have h':=eJ h;simp only[bj]at h';exact uL (.inl (by rw[←List.length_eq_zero_iff];omega))
theorem afO(ox:bn Z (sM N)){U X Y W:LI}{M:Nat}(hl:(U++X++Y++W).length<60000)(hX:dI (kS sp) X)(hY:dI (kS sp) Y)(hN:X.length+Y.length<=N)(hM:M=(X.length+Y.length)/ 2)(hx:0<X.length)(hy:0<Y.length):
 ∀k:Nat×Nat,(k.1<=k.2∧k.2<=X.length∧k.2<=M∧M<=k.1+Y.length∧(k.1=0∨M-k.1=Y.length∨¬kS sp (X.getD (k.1-1) 0)<kS sp (Y.getD (M-k.1) 0))∧(k.2=X.length∨M-k.2=0∨kS sp (X.getD k.2 0)<kS sp (Y.getD (M-k.2-1) 0)))->
 bF Z 121 220 3 (.aO []) (hS sp (U++cC (kS sp) (X++Y)++W)) (bk [(0,.ae 0 (U++X++Y++W).length 1),(1,J (U.length:Int)),(2,J ((U++X).length:Int)),(3,J ((U++X++Y).length:Int)),(4,cF),(18,J ((U.length+M:Nat):Int)),(19,J ((U.length+M+(U++X).length:Nat):Int)),(20,J ((U.length+k.1:Nat):Int)),(21,J ((U.length+k.2:Nat):Int)),(22,J ((U.length+M+(U++X).length-1:Nat):Int))]) (hS sp (U++X++Y++W)) (ao Z 121 4):=by
 refine cX (fun k=>k.2-k.1) _ _ _ _ ?_;rintro⟨i,j⟩ ⟨o7,Mi,hjM,Tf,jb,l_⟩ ih;simp only at o7 Mi hjM Tf jb l_ ih⊢;have dY:(U++X++Y++W).length=U.length+X.length+Y.length+W.length:=by simp only[bj]
 have LO:(U++X).length=U.length+X.length:=by simp only[bj]
 refine hD ox 2000 ux (by kernel_rfl) ?_;rw[aqJ];rw[LR (by omega)];refine aY.2 ⟨fun h=>?_,fun h=>?_⟩
 ·have h:=dW h;have hc:(U.length+i+(U.length+j))/ 2=U.length+(i+j)/ 2:=by omega
  rw[hc];have hg:(U++X++Y++W).getD (U.length+(i+j)/ 2) 0=X.getD ((i+j)/ 2) 0:=by
   have e:U++X++Y++W=U++(X++(Y++W)):=by simp
   rw[e,Lt,Ls (by omega)]
  have hr:=JG (l:=U++X++Y++W) (i:=U.length+(i+j)/ 2) (by omega);rw[hg]at hr;have hp:wI (((U.length+M+(U++X).length-1:Nat):Int)-((U.length+(i+j)/ 2:Nat):Int))=(((U++X).length+(M-(i+j)/ 2-1):Nat):Int):=by rw[dz]<;>omega
  have yr:(U++X++Y++W).getD ((U++X).length+(M-(i+j)/ 2-1)) 0=Y.getD (M-(i+j)/ 2-1) 0:=by
   have e:U++X++Y++W=(U++X)++(Y++W):=by simp
   rw[e,Lt,Ls (by omega)]
  have yD:=JG (l:=U++X++Y++W) (i:=(U++X).length+(M-(i+j)/ 2-1)) (by omega);rw[yr]at yD;have hw:wI (((U.length+(i+j)/ 2:Nat):Int)+1)=((U.length+((i+j)/ 2+1):Nat):Int):=by rw[dz]<;>omega
  refine⟨(U++X).length+(M-(i+j)/ 2-1),hp,by omega,_,yD,U.length+(i+j)/ 2,rfl,by omega,_,hr,(sp,Y.getD (M-(i+j)/ 2-1) 0,X.getD ((i+j)/ 2) 0),⟨rfl,rfl⟩,aY.2 ⟨fun hk=>?_,fun hk=>?_⟩⟩
  ·have hk:¬kS sp (X.getD ((i+j)/ 2) 0)<kS sp (Y.getD (M-(i+j)/ 2-1) 0):=fun hh=>by have:=decide_eq_true (zr.2 hh);simp only at hk;rw[this]at hk;cases hk
   rw[hw];refine ih ((i+j)/ 2+1,j) ⟨by simp only;omega,Mi,hjM,by simp only;omega,.inr (.inr ?_),l_⟩ (by simp only;omega);have e:M-((i+j)/ 2+1)=M-(i+j)/ 2-1:=by omega
   simp only[Nat.add_sub_cancel];rw[e];exact hk
  ·have hk:kS sp (X.getD ((i+j)/ 2) 0)<kS sp (Y.getD (M-(i+j)/ 2-1) 0):=by refine zr.1 (dW ?_);simpa using hk
   exact ih (i,(i+j)/ 2) ⟨by simp only;omega,by simp only;omega,by simp only;omega,Tf,jb,.inr (.inr hk)⟩ (by simp only;omega)
 ·have h:=eJ h;have hj:i=j:=by omega
  subst hj;obtain⟨A,B,C,D,rfl,rfl,hA,hC,hs,dA,dB,dC,dD⟩:=ank hX hY (i:=i) (j:=M-i) Mi (by omega) jb l_;simp only[bj]at hM hx hy hN LO Mi Tf;have he:wI (((U.length+M+(U++(A++B)).length:Nat):Int)-((U.length+i:Nat):Int))=(((U++A++B++C).length:Nat):Int):=by simp only[bj]at hl⊢;rw[dz]<;>omega
  rw[he];have key:=avu (sp:=sp) (N:=N) (aw:=U++cC (kS sp) ((A++B)++(C++D))++W) (U:=U) (A:=A) (B:=B) (C:=C) (D:=D) (W:=W) (by rw[hs];simp) dA dC dB dD (by omega) (by omega) rfl (by simpa[iy]using hl)
   (a:=U.length) (m:=(U++(A++B)).length) (s:=U.length+i) (eH:=U.length+M) (e:=(U++A++B++C).length) (b:=(U++(A++B)++(C++D)).length) rfl (by simp[iy]) (by simp only[bj];omega) (by simp only[bj];omega) rfl (by simp[iy])
  have e:U++(A++B)++(C++D)++W=U++A++B++C++D++W:=by simp
  rw[e];exact key
theorem afP(ox:bn Z (sM N)){U X Y W:LI}(hl:(U++X++Y++W).length<60000)(hX:dI (kS sp) X)(hY:dI (kS sp) Y)(hN:X.length+Y.length<=N)(hx:0<X.length)(hy:0<Y.length):
 eC Z 121 [.ae 0 (U++X++Y++W).length 1,J (U.length:Int),J ((U++X).length:Int),J ((U++X++Y).length:Int),cF] (hS sp (U++X++Y++W)) (.aO []) (hS sp (U++cC (kS sp) (X++Y)++W)):=by
 have dY:(U++X++Y++W).length=U.length+X.length+Y.length+W.length:=by simp only[bj]
 have LO:(U++X).length=U.length+X.length:=by simp only[bj]
 have axi:(U++X++Y).length=U.length+X.length+Y.length:=by simp only[bj]
 refine eS ox 2000 ux 220 (by kernel_rfl) ?_;rw[aqK];have h1:wI (((U++X).length:Int)-(U.length:Int))=(X.length:Int):=by rw[dz]<;>omega
 have h2:wI (((U++X++Y).length:Int)-((U++X).length:Int))=(Y.length:Int):=by rw[dz]<;>omega
 have h3:(U.length+(U++X++Y).length)/ 2=U.length+(X.length+Y.length)/ 2:=by omega
 have h4:wI (((U.length+(X.length+Y.length)/ 2:Nat):Int)+((U++X).length:Int))=((U.length+(X.length+Y.length)/ 2+(U++X).length:Nat):Int):=by rw[dz]<;>omega
 have h5:wI (((U.length+(X.length+Y.length)/ 2+(U++X).length:Nat):Int)-1)=((U.length+(X.length+Y.length)/ 2+(U++X).length-1:Nat):Int):=by rw[dz]<;>omega
 rw[h1,h2,LR (by omega),h3,h4,h5];refine aY.2 ⟨fun h=>?_,fun h=>aY.2 ⟨fun h'=>?_,fun h'=>aY.2 ⟨fun h6=>?_,fun h6=>?_⟩⟩⟩
 ·have h:X.length=1:=by
   have h:(X.length:Int)=1:=by simpa using h
   omega
  obtain⟨x,rfl⟩:=List.length_eq_one_iff.1 h;have:=aqC (sp:=sp) ox hl hY (0,Y.length) ⟨by simp,by simp,.inl rfl,.inl rfl⟩;simp only[Nat.add_zero]at this;have e1:(U++[x]).length=U.length+1:=by simp
  have e2:(U++[x]++Y).length=U.length+1+Y.length:=by simp;omega
  rw[e1,e2];exact this
 ·have h:Y.length=1:=by
   have h:(Y.length:Int)=1:=by simpa using h'
   omega
  obtain⟨y,rfl⟩:=List.length_eq_one_iff.1 h;have:=aqG (sp:=sp) ox hl hX (0,X.length) ⟨by simp,by simp,.inl rfl,.inl rfl⟩;simp only[Nat.add_zero]at this;rw[←LO]at this;exact this
 ·have h6:=dW h6;have h7:wI (((U.length+(X.length+Y.length)/ 2+(U++X).length:Nat):Int)-((U++X++Y).length:Int))=((U.length+((X.length+Y.length)/ 2-Y.length):Nat):Int):=by rw[dz]<;>omega
  rw[h7];exact afO (sp:=sp) (M:=(X.length+Y.length)/ 2) ox hl hX hY hN rfl hx hy ((X.length+Y.length)/ 2-Y.length,(X.length+Y.length)/ 2) ⟨by simp only;omega,by simp only;omega,by simp,by simp only;omega,.inr (.inl (by simp only;omega)),.inr (.inl (by simp only;omega))⟩
 ·have h6:=eJ h6;have:=afO (sp:=sp) (M:=(X.length+Y.length)/ 2) ox hl hX hY hN rfl hx hy (0,X.length) ⟨by simp,by simp,by simp only;omega,by simp only;omega,.inl rfl,.inl rfl⟩;simp only[Nat.add_zero]at this;rw[←LO]at this;exact this
end
theorem aho:∀N,bn Z (sM N):=by
 refine CE (e:=F1) (h1:=agD) Zd ?_ ?_
 ·rintro⟨sp,U,X,Y,W⟩ args H ⟨_,_,_,_,_,_,_,h⟩;omega
 ·rintro N ox ⟨sp,U,X,Y,W⟩ args H ⟨rfl,rfl,hl,hx,hy,hX,hY,hN⟩;have hN:X.length+Y.length<N+1:=hN;exact afP (sp:=sp) ox hl hX hY (by omega) hx hy
def agC:dP (List (Int×dE)×LI×LI×LI×LI)where
 bN w A H:=A=[.ae 0 (w.2.1++w.2.2.1++w.2.2.2.1++w.2.2.2.2).length 1,J (w.2.1.length:Int),J ((w.2.1++w.2.2.1).length:Int),J ((w.2.1++w.2.2.1++w.2.2.2.1).length:Int),cF]∧H=hS w.1 (w.2.1++w.2.2.1++w.2.2.2.1++w.2.2.2.2)∧(w.2.1++w.2.2.1++w.2.2.2.1++w.2.2.2.2).length<60000∧0<w.2.2.1.length∧0<w.2.2.2.1.length∧
  dI (kS w.1) w.2.2.1∧dI (kS w.1) w.2.2.2.1
 v w:=.aO []
 aU w:=hS w.1 (w.2.1++cC (kS w.1) (w.2.2.1++w.2.2.2.1)++w.2.2.2.2)
theorem avr:agC.dT:=by
 rintro⟨sp,U,X,Y,W⟩ ⟨AK,U',X',Y',W'⟩ A H ⟨h1,h2,_⟩ ⟨k1,k2,_⟩;obtain⟨rfl,e⟩:=BK (h2.symm.trans k2);rw[h1]at k1;simp only[List.cons.injEq,AV.cM.injEq,AV.ae.injEq,true_and,and_true]at k1 e;have e1:U.length=U'.length:=by omega
 have e2:(U++X).length=(U'++X').length:=by omega
 have e3:(U++X++Y).length=(U'++X'++Y').length:=by omega
 obtain⟨e4,rfl⟩:=List.append_inj e e3;obtain⟨e5,rfl⟩:=List.append_inj e4 e2;obtain⟨rfl,rfl⟩:=List.append_inj e5 e1;rfl
def DA:Ev.bC:=cB 121 (cO agC avr cV) QB
theorem GD:bn Z DA:=by refine dc Zd ?_;rintro⟨sp,U,X,Y,W⟩ args H ⟨rfl,rfl,hl,hx,hy,hX,hY⟩;exact afP (sp:=sp) (aho (X.length+Y.length)) hl hX hY (eh _) hx hy
def W8:dP (List (Int×dE)×LI)where
 bN w A H:=A=[.ae 0 w.2.length 1,J (w.2.length:Int),cF]∧H=hS w.1 w.2∧w.2.length<20000
 v w:=.aO []
 aU w:=hS w.1 (cC (kS w.1) w.2)
theorem auL:W8.dT:=by rintro⟨sp,l⟩ ⟨AK,l'⟩ A H ⟨h1,h2,_⟩ ⟨k1,k2,_⟩;obtain⟨rfl,rfl⟩:=BK (h2.symm.trans k2);rfl
def QC:Ev.bC:=cB 96 (cO W8 auL cV) DA
def Xj:dP (List (Int×dE)×LI)where
 bN w A H:=A=[.ae 0 w.2.length 1,cF]∧H=hS w.1 w.2∧w.2.length<20000
 v w:=.aO []
 aU w:=hS w.1 (cC (kS w.1) w.2)
theorem au5:Xj.dT:=by rintro⟨sp,l⟩ ⟨AK,l'⟩ A H ⟨h1,h2,_⟩ ⟨k1,k2,_⟩;obtain⟨rfl,rfl⟩:=BK (h2.symm.trans k2);rfl
def A9:Ev.bC:=cB 55 (cO Xj au5 cV) QC
def Ap:Nat->LN:=nk [(2,[0,1,2,6,7,8]),(7,[0,1,2,6]),(9,[0,1,2,6,7,8])]
abbrev OF x0 x1 x2 x3 x4:=bk [(0,.ae 0 x0 1),(1,J x1),(2,.b9 (.func 56) [] [.ad 1 0]),(6,J x2),(7,J x3),(8,J x4)]
abbrev rW x0 x1:=aq [(0,aD x0 2),(1,.ay [.aS 2] 101),(2,gA x1)] 3
theorem auv(sp:List (Int×dE))(l:LI)(L:LT)(Q:QT):
 b_ Z DA Ap L Q 1000 96 [.ae 0 l.length 1,J (l.length:Int),cF] (hS sp l)=(
 L (OF l.length ((l.length:Nat):Int) 20 0 20) (rW l sp) (ao Z 96 0)):=by kernel_rfl
abbrev Xx x0 x1 x2:=bk [(0,.ae 0 x0 1),(1,J x1),(2,.b9 (.func 56) [] [.ad 1 0]),(6,J x2)]
theorem aup(sp:List (Int×dE))(l:LI)(n s a b:Int)(L:LT)(Q:QT):
 cT Z DA Ap L Q 1000 96 3 (bk [(0,.ae 0 l.length 1),(1,J n),(2,cF),(6,J s),(7,J a),(8,J b)]) (ao Z 96 0) (hS sp l)=(
 ai (decide (b<=n)) (∃w:List (Int×dE)×LI×LI×LI,(([.ae 0 l.length 1,J a,J b,.b9 (.func 56) [] [.ad 1 0]]:LV)=[.ae 0 (w.2.1++w.2.2.1++w.2.2.2).length 1,J ((w.2.1.length:Nat):Int),J (((w.2.1++w.2.2.1).length:Nat):Int),.b9 (.func 56) [] [.ad 1 0]]∧rW l sp=hS w.1 (w.2.1++w.2.2.1++w.2.2.2)∧(w.2.1++w.2.2.1++w.2.2.2).length<60000)∧L (OF l.length n s b (wI (b+s))) (rW (w.2.1++cC (kS w.1) w.2.2.1++w.2.2.2) w.1) (ao Z 96 0)) (∃w:List (Int×dE)×LI×LI×LI,(([.ae 0 l.length 1,J a,J n,.b9 (.func 56) [] [.ad 1 0]]:LV)=[.ae 0 (w.2.1++w.2.2.1++w.2.2.2).length 1,J ((w.2.1.length:Nat):Int),J (((w.2.1++w.2.2.1).length:Nat):Int),.b9 (.func 56) [] [.ad 1 0]]∧rW l sp=hS w.1 (w.2.1++w.2.2.1++w.2.2.2)∧(w.2.1++w.2.2.1++w.2.2.2).length<60000)∧L (Xx l.length n s) (rW (w.2.1++cC (kS w.1) w.2.2.1++w.2.2.2) w.1) (ao Z 96 1))):=by kernel_rfl
theorem aur(sp:List (Int×dE))(l:LI)(n s:Int)(L:LT)(Q:QT):
 cT Z DA Ap L Q 1000 96 3 (bk [(0,.ae 0 l.length 1),(1,J n),(2,cF),(6,J s)]) (ao Z 96 1) (hS sp l)=(
 ai (decide (s<n)) (L (OF l.length n s 0 (wI (2*s))) (rW l sp) (ao Z 96 2)) (Q (.aO []) (rW l sp))):=by kernel_rfl
theorem aut(sp:List (Int×dE))(l:LI)(n s a b:Int)(L:LT)(Q:QT):
 cT Z DA Ap L Q 1000 96 3 (bk [(0,.ae 0 l.length 1),(1,J n),(2,cF),(6,J s),(7,J a),(8,J b)]) (ao Z 96 2) (hS sp l)=(
 ai (decide (b<=n)) (∃w:List (Int×dE)×LI×LI×LI×LI,(([.ae 0 l.length 1,J a,J (wI (a+s)),J b,.b9 (.func 56) [] [.ad 1 0]]:LV)=[.ae 0 (w.2.1++w.2.2.1++w.2.2.2.1++w.2.2.2.2).length 1,J ((w.2.1.length:Nat):Int),J (((w.2.1++w.2.2.1).length:Nat):Int),J (((w.2.1++w.2.2.1++w.2.2.2.1).length:Nat):Int),.b9 (.func 56) [] [.ad 1 0]]∧rW l sp=hS w.1 (w.2.1++w.2.2.1++w.2.2.2.1++w.2.2.2.2)∧(w.2.1++w.2.2.1++w.2.2.2.1++w.2.2.2.2).length<60000∧0<w.2.2.1.length∧0<w.2.2.2.1.length∧dI (kS w.1) w.2.2.1∧dI (kS w.1) w.2.2.2.1)∧L (OF l.length n s b (wI (b+wI (2*s)))) (rW (w.2.1++cC (kS w.1) (w.2.2.1++w.2.2.2.1)++w.2.2.2.2) w.1) (ao Z 96 2)) (ai (decide (wI (a+s)<n)) (∃w:List (Int×dE)×LI×LI×LI×LI,(([.ae 0 l.length 1,J a,J (wI (a+s)),J n,.b9 (.func 56) [] [.ad 1 0]]:LV)=[.ae 0 (w.2.1++w.2.2.1++w.2.2.2.1++w.2.2.2.2).length 1,J ((w.2.1.length:Nat):Int),J (((w.2.1++w.2.2.1).length:Nat):Int),J (((w.2.1++w.2.2.1++w.2.2.2.1).length:Nat):Int),.b9 (.func 56) [] [.ad 1 0]]∧rW l sp=hS w.1 (w.2.1++w.2.2.1++w.2.2.2.1++w.2.2.2.2)∧(w.2.1++w.2.2.1++w.2.2.2.1++w.2.2.2.2).length<60000∧0<w.2.2.1.length∧0<w.2.2.2.1.length∧dI (kS w.1) w.2.2.1∧dI (kS w.1) w.2.2.2.1)∧L (Xx l.length n (wI (s*2))) (rW (w.2.1++cC (kS w.1) (w.2.2.1++w.2.2.2.1)++w.2.2.2.2) w.1) (ao Z 96 1)) (L (Xx l.length n (wI (s*2))) (rW l sp) (ao Z 96 1)))):=by kernel_rfl
theorem as5(sp:List (Int×dE))(l:LI)(L:LT)(Q:QT):
 b_ Z QC (fun _=>[]) L Q 1000 55 [.ae 0 l.length 1,cF] (hS sp l)=(
 ∃w:List (Int×dE)×LI,(([.ae 0 l.length 1,J (Int.ofNat l.length),.b9 (.func 56) [] [.ad 1 0]]:LV)=[.ae 0 w.2.length 1,J ((w.2.length:Nat):Int),.b9 (.func 56) [] [.ad 1 0]]∧rW l sp=hS w.1 w.2∧w.2.length<20000)∧Q (.aO []) (rW (cC (kS w.1) w.2) w.1)):=by kernel_rfl
def fl(key:Int->Int)(Bs:List LI):LI:=(Bs.map (cC key)).flatten
theorem zH(key:Int->Int):∀Bs:List LI,(fl key Bs).length=Bs.flatten.length
 |[]=>rfl
 |B::Bs=>by have:=zH key Bs;simp only[fl,List.map_cons,List.flatten_cons,bj,pk]at this⊢;omega
theorem abu(key:Int->Int)(Bs:List LI)(B:LI):fl key (Bs++[B])=fl key Bs++cC key B:=by simp[fl]
theorem akp(key:Int->Int)(Bs:List LI)(B:LI):fl key (B::Bs)=cC key B++fl key Bs:=by simp[fl]
def Gj(s:Nat)(Bs:List LI):Prop:=∀B∈Bs,B.length=s
section
variable{sp:List (Int×dE)}{jK:LI}
theorem auu{s:Nat}(hl:jK.length<20000)(hs:20<=s)(hsn:s<jK.length)
 (next:∀(Ms:List LI) (R l:LI),l=fl (kS sp) Ms++cC (kS sp) R->Ms.flatten++R=jK->Gj (2*s) Ms->R.length<2*s->
   bF Z 96 63 3 (.aO []) (hS sp (cC (kS sp) jK)) (bk [(0,.ae 0 jK.length 1),(1,J (jK.length:Int)),(2,cF),(6,J ((2*s:Nat):Int))]) (hS sp l) (ao Z 96 1)):
 ∀k:List LI×List LI×LI×LI,(k.2.2.2=fl (kS sp) k.1++fl (kS sp) k.2.1++cC (kS sp) k.2.2.1∧k.1.flatten++k.2.1.flatten++k.2.2.1=jK∧Gj (2*s) k.1∧Gj s k.2.1∧k.2.2.1.length<s)->
 bF Z 96 63 3 (.aO []) (hS sp (cC (kS sp) jK)) (bk [(0,.ae 0 jK.length 1),(1,J (jK.length:Int)),(2,cF),(6,J (s:Int)),(7,J (k.1.flatten.length:Int)),(8,J ((k.1.flatten.length+2*s:Nat):Int))]) (hS sp k.2.2.2) (ao Z 96 2):=by
 refine cX (fun k=>k.2.1.length) _ _ _ _ ?_;rintro⟨Ms,Bs,R,l⟩ ⟨dY,ho,hM,hB,hR⟩ ih;simp only at dY ho hM hB hR ih⊢;have bH:l.length=jK.length:=by rw[dY,←ho];simp only[bj,zH,pk]
 have q_:Ms.flatten.length+Bs.flatten.length+R.length=jK.length:=by rw[←ho];simp only[bj]
 rw[←bH];refine hD GD 1000 Ap (by kernel_rfl) ?_;rw[aut];have tc:wI (2*(s:Int))=((2*s:Nat):Int):=by rw[dz]<;>omega
 have n5:wI ((s:Int)*2)=((2*s:Nat):Int):=by rw[dz]<;>omega
 have UN:wI ((Ms.flatten.length:Int)+(s:Int))=((Ms.flatten.length+s:Nat):Int):=by rw[dz]<;>omega
 have hw4:wI (((Ms.flatten.length+2*s:Nat):Int)+((2*s:Nat):Int))=((Ms.flatten.length+2*s+2*s:Nat):Int):=by rw[dz]<;>omega
 rw[tc,n5,UN,hw4];have d:∀x:LI,dI (kS sp) (cC (kS sp) x):=fun x=>(qt (kS sp) x).1
 refine cv (fun h=>?_) (fun h=>?_)
 ·have h:=dW h;cases Bs with
  |nil=>simp only[List.flatten_nil,cI]at q_;omega
  |cons B1 Bs=>
   have lE:B1.length=s:=hB B1 (by simp);cases Bs with
   |nil=>simp only[List.flatten_cons,List.flatten_nil,bj,cI]at q_;omega
   |cons B2 Bs=>
    have rZ:B2.length=s:=hB B2 (by simp);have e:l=fl (kS sp) Ms++cC (kS sp) B1++cC (kS sp) B2++(fl (kS sp) Bs++cC (kS sp) R):=by rw[dY];simp[akp]
    refine⟨(sp,fl (kS sp) Ms,cC (kS sp) B1,cC (kS sp) B2,fl (kS sp) Bs++cC (kS sp) R),⟨?_,?_,?_,?_,?_,d _,d _⟩,?_⟩
    ·simp only;rw[←e];simp only[bj,zH,pk,lE,rZ];congr 5;omega
    ·simp only;rw[←e];rfl
    ·simp only;rw[←e];omega
    ·simp only[pk];omega
    ·simp only[pk];omega
    ·have:=ih (Ms++[B1++B2],Bs,R,fl (kS sp) Ms++cC (kS sp) (cC (kS sp) B1++cC (kS sp) B2)++(fl (kS sp) Bs++cC (kS sp) R)) ⟨by simp only[abu,agt,iy],by rw[←ho];simp,by
      intro B hb;rcases List.mem_append.1 hb with hb|hb
      ·exact hM B hb
      ·simp only[ko]at hb;subst hb;simp only[bj];omega,fun B hb=>hB B (by simp[hb]),hR⟩ (by simp only[bR];omega)
     simp only at this;have el:(Ms++[B1++B2]).flatten.length=Ms.flatten.length+2*s:=by simp only[List.flatten_append,List.flatten_cons,List.flatten_nil,gz,bj];omega
     rw[el]at this;rw[bH];exact this
 ·have h:=eJ h;cases Bs with
  |nil=>
   simp only[List.flatten_nil,cI]at q_;refine cv (fun h=>?_) (fun h=>?_)
   ·have h:=dW h;omega
   ·have:=next Ms R l (by rw[dY];simp[fl]) (by rw[←ho];simp) hM (by omega)
    rw[bH];exact this
  |cons B1 Bs=>
   have lE:B1.length=s:=hB B1 (by simp);cases Bs with
   |cons B2 Bs=>have rZ:B2.length=s:=hB B2 (by simp);simp only[List.flatten_cons,bj]at q_;omega
   |nil=>
    simp only[List.flatten_cons,List.flatten_nil,gz]at q_ ho;refine cv (fun h=>?_) (fun h=>?_)
    ·have h:=dW h;have e:l=fl (kS sp) Ms++cC (kS sp) B1++cC (kS sp) R++[]:=by rw[dY];simp[fl]
     refine⟨(sp,fl (kS sp) Ms,cC (kS sp) B1,cC (kS sp) R,[]),⟨?_,?_,?_,?_,?_,d _,d _⟩,?_⟩
     ·simp only;rw[←e];simp only[bj,zH,pk,lE,bH];congr 5;omega
     ·simp only;rw[←e];rfl
     ·simp only;rw[←e];omega
     ·simp only[pk];omega
     ·simp only[pk];omega
     ·have:=next Ms (B1++R) (fl (kS sp) Ms++cC (kS sp) (cC (kS sp) B1++cC (kS sp) R)++[]) (by rw[agt];simp) (by rw[←ho];simp) hM (by simp only[bj];omega)
      rw[bH];exact this
    ·have h:=eJ h;have Ti:R=[]:=by rw[←List.length_eq_zero_iff];omega
     subst Ti;have:=next Ms B1 l (by rw[dY];simp[fl,cC]) (by rw[←ho];simp) hM (by omega)
     rw[bH];exact this
theorem aus(hl:jK.length<20000):
 ∀k:Nat×List LI×LI×LI,(k.2.2.2=fl (kS sp) k.2.1++cC (kS sp) k.2.2.1∧k.2.1.flatten++k.2.2.1=jK∧Gj k.1 k.2.1∧k.2.2.1.length<k.1∧20<=k.1)->
 bF Z 96 63 3 (.aO []) (hS sp (cC (kS sp) jK)) (bk [(0,.ae 0 jK.length 1),(1,J (jK.length:Int)),(2,cF),(6,J (k.1:Int))]) (hS sp k.2.2.2) (ao Z 96 1):=by
 refine cX (fun k=>jK.length-k.1) _ _ _ _ ?_;rintro⟨s,Bs,R,l⟩ ⟨dY,ho,hB,hR,hs⟩ ih;simp only at dY ho hB hR hs ih⊢;have bH:l.length=jK.length:=by rw[dY,←ho];simp only[bj,zH,pk]
 have q_:Bs.flatten.length+R.length=jK.length:=by rw[←ho];simp only[bj]
 have key:= @auu _ sp jK s hl hs;rw[←bH];refine hD GD 1000 Ap (by kernel_rfl) ?_;rw[aur];refine cv (fun h=>?_) (fun h=>?_)
 ·have h:=dW h;have h:s<jK.length:=by omega
  have:=key h (fun Ms R' l' h1 h2 h3 h4=>ih (2*s,Ms,R',l') ⟨h1,h2,h3,h4,by simp only;omega⟩ (by simp only;omega)) ([],Bs,R,l) ⟨by rw[dY];simp[fl],by rw[←ho];simp,(by intro B hb;cases hb),hB,hR⟩;simp only[List.flatten_nil,cI,fD]at this;have tc:wI (2*(s:Int))=((2*s:Nat):Int):=by rw[dz]<;>omega
  rw[tc,bH];exact this
 ·have h:=eJ h;have:l=cC (kS sp) jK:=by
   cases Bs with
   |nil=>rw[dY,←ho];simp[fl]
   |cons B1 Bs=>
    have lE:B1.length=s:=hB B1 (by simp);cases Bs with
    |nil=>
     simp only[List.flatten_cons,List.flatten_nil,gz]at q_ ho;have Ti:R=[]:=by rw[←List.length_eq_zero_iff];omega
     subst Ti;rw[dY,←ho];simp[fl,cC]
    |cons B2 Bs=>have rZ:B2.length=s:=hB B2 (by simp);simp only[List.flatten_cons,bj]at q_;omega
  rw[this];exact⟨rfl,rfl⟩
theorem auq(hl:jK.length<20000):
 ∀k:List LI×LI×LI,(k.2.2=fl (kS sp) k.1++k.2.1∧k.1.flatten++k.2.1=jK∧Gj 20 k.1)->
 bF Z 96 63 3 (.aO []) (hS sp (cC (kS sp) jK)) (bk [(0,.ae 0 jK.length 1),(1,J (jK.length:Int)),(2,cF),(6,J 20),(7,J (k.1.flatten.length:Int)),(8,J ((k.1.flatten.length+20:Nat):Int))]) (hS sp k.2.2) (ao Z 96 0):=by
 refine cX (fun k=>k.2.1.length) _ _ _ _ ?_;rintro⟨Bs,R,l⟩ ⟨dY,ho,hB⟩ ih;simp only at dY ho hB ih⊢;have bH:l.length=jK.length:=by rw[dY,←ho];simp only[bj,zH]
 have q_:Bs.flatten.length+R.length=jK.length:=by rw[←ho];simp only[bj]
 have key:= @aus _ sp jK hl;rw[←bH];refine hD GD 1000 Ap (by kernel_rfl) ?_;rw[aup];refine cv (fun h=>?_) (fun h=>?_)
 ·have h:=dW h;obtain⟨X,R,rfl,hX⟩:=Q_ (l:=R) (n:=20) (by omega);simp only[bj]at q_;have e:l=fl (kS sp) Bs++X++R:=by rw[dY];simp
  refine⟨(sp,fl (kS sp) Bs,X,R),⟨?_,?_,?_⟩,?_⟩
  ·simp only;rw[←e];simp only[bj,zH,hX,cF]
  ·simp only;rw[←e];rfl
  ·simp only;rw[←e];omega
  ·have:=ih (Bs++[X],R,fl (kS sp) Bs++cC (kS sp) X++R) ⟨by simp only[abu],by rw[←ho];simp,by
    intro B hb;rcases List.mem_append.1 hb with hb|hb
    ·exact hB B hb
    ·simp only[ko]at hb;subst hb;exact hX⟩ (by simp only[bj];omega)
   simp only at this;have el:(Bs++[X]).flatten.length=Bs.flatten.length+20:=by simp only[List.flatten_append,List.flatten_cons,List.flatten_nil,gz,bj];omega
   rw[el]at this;have hw:wI (((Bs.flatten.length+20:Nat):Int)+20)=((Bs.flatten.length+20+20:Nat):Int):=by rw[dz]<;>omega
   rw[hw,bH];exact this
 ·have h:=eJ h;have e:l=fl (kS sp) Bs++R++[]:=by rw[dY];simp
  refine⟨(sp,fl (kS sp) Bs,R,[]),⟨?_,?_,?_⟩,?_⟩
  ·simp only;rw[←e];simp only[bj,zH,cF,q_,bH]
  ·simp only;rw[←e];rfl
  ·simp only;rw[←e];omega
  ·have:=key (20,Bs,R,fl (kS sp) Bs++cC (kS sp) R++[]) ⟨by simp,ho,hB,by simp only;omega,by simp⟩;rw[bH];exact this
end
theorem Ze:bn Z QC:=by refine dc GD ?_;rintro⟨sp,l⟩ args H ⟨rfl,rfl,hl⟩;refine eS GD 1000 Ap 63 (by kernel_rfl) ?_;simp only[W8];rw[auv];exact auq (sp:=sp) (jK:=l) hl ([],l,l) ⟨by simp[fl],by simp,(by intro B hb;cases hb)⟩
theorem DB:bn Z A9:=by refine dc Ze ?_;rintro⟨sp,l⟩ args H ⟨rfl,rfl,hl⟩;refine eS Ze 1000 (fun _=>[]) 9 (by kernel_rfl) ?_;simp only[Xj];rw[as5];exact⟨(sp,l),⟨rfl,rfl,hl⟩,rfl,rfl⟩
end
end Go.Cl
