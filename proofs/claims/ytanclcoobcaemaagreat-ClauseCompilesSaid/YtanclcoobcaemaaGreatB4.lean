/- Part of a proof of ClauseCompiles. -/
import Derived.Test.YtanclcoobcaemaaGreatB3
set_option linter.all false
set_option linter.unusedSectionVars false
set_option maxRecDepth 100000
namespace Go.Cl
open Go.Ev Go.Proofs
variable[Ro]
noncomputable section
def CG(i:ba)(l:LI)(b:Nat):LI:=
 if b=114 then l++[i.r]else if b=97∧(l=[]∨l.getD 0 0≠i.a)then l++[i.a]else if b=112 then l++jm i.ar else l
def E7:Ev.bC:=cB 116 (cO I0 afk cV) E6
def cf(i:ba):LI:=gO i (iW i.op).1.2.2.2.1
def b8(i:ba):LI:=gO i (iW i.op).1.2.2.2.2
def WM:dP ba where
 bN i A H:=A=[.aj (bP i)]∧H=ax
 v i:=.ae 0 (cf i).length 1
 aU i:=cH (cf i)
def XZ:dP ba where
 bN i A H:=A=[.aj (bP i)]∧H=ax
 v i:=.ae 0 (b8 i).length 1
 aU i:=cH (b8 i)
theorem Zz{i i':ba}{A:LV}(h1:A=[.aj (bP i)])(h2:A=[.aj (bP i')]):i=i':=by rw[h1]at h2;simp only[List.cons.injEq,AV.aj.injEq,and_true]at h2;exact Bm h2
theorem afa:WM.dT:=by rintro i i' A H ⟨h1,_⟩ ⟨h2,_⟩;rw[Zz h1 h2]
theorem ag7:XZ.dT:=by rintro i i' A H ⟨h1,_⟩ ⟨h2,_⟩;rw[Zz h1 h2]
def E8:Ev.bC:=cB 124 (cO WM afa cV) E7
def E9:Ev.bC:=cB 125 (cO XZ ag7 cV) E8
def P6:Ev.bC:=cB 82 (cO WM afa cV) E9
def Ds:Ev.bC:=cB 86 (cO XZ ag7 cV) P6
def Co:Nat->LN:=nk [(5,[1,2,5,6]),(13,[1,2,5,6,7])]
def rU(i:ba)(l:LI):AH:=aq [(0,n6 i),(1,aD l 3)] 2
theorem afM(i:ba)(fs:LN)(L:LT)(Q:QT):
 b_ Z E6 Co L Q 1000 116 [.aj (bP i),.aa fs] ax=(
 (aq [] 0=ax∧True)∧ai (!ca (ba.mk i.op i.r i.a i.n i.cR i.ar)) (Q .bg ax) (L (bk [(1,.aa fs),(2,.ad 0 0),(5,.bg),(6,J 0)]) (aq [(0,n6 i)] 1) (ao Z 116 0))):=by kernel_rfl
abbrev we x0 x1 x2:=bk [(1,.aa x0),(2,.ad 0 0),(5,.ae 1 x1 1),(6,J x2)]
abbrev F3 x0 x1 x2 x3:=bk [(1,.aa x0),(2,.ad 0 0),(5,.ae 1 x1 1),(6,J x2),(7,J x3)]
theorem aqs(i:ba)(fs:LN)(l:LI)(k:Int)(L:LT)(Q:QT):
 cT Z E6 Co L Q 1000 116 0 (we fs l.length k) (ao Z 116 0) (rU i l)=(
 ai (decide (k<Int.ofNat fs.length)) (∃aI:Nat,k=(aI:Int)∧(∃b:Nat,fs[aI]?=some b∧ai (Int.ofNat b==114) (((aW l).length=l.length*1∧l.length+1<=65536∧true=true∧true=true)∧L (we fs (l.length+1) (wI (k+1))) (aq [(0,n6 i),(1,.aL (aW l++[J i.r]) 3)] 2) (ao Z 116 0)) (∃bz:Nat,k=(bz:Int)∧(∃iE:Nat,fs[bz]?=some iE∧ai (Int.ofNat iE==97) (ai (Int.ofNat l.length==0) (((aW l).length=l.length*1∧l.length+1<=65536∧true=true∧true=true)∧L (we fs (l.length+1) (wI (k+1))) (aq [(0,n6 i),(1,.aL (aW l++[J i.a]) 3)] 2) (ao Z 116 0)) (0<l.length∧(∃n:Int,bA Z 3 (aW l) 0=some (J n:AV)∧ai (n !=i.a) (((aW l).length=l.length*1∧l.length+1<=65536∧true=true∧true=true)∧L (we fs (l.length+1) (wI (k+1))) (aq [(0,n6 i),(1,.aL (aW l++[J i.a]) 3)] 2) (ao Z 116 0)) (∃cd:Nat,k=(cd:Int)∧(∃tS:Nat,fs[cd]?=some tS∧ai (Int.ofNat tS==112) (L (F3 fs l.length k 1) (rU i l) (ao Z 116 1)) (L (we fs l.length (wI (k+1))) (rU i l) (ao Z 116 0))))))) (∃cd:Nat,k=(cd:Int)∧(∃tS:Nat,fs[cd]?=some tS∧ai (Int.ofNat tS==112) (L (F3 fs l.length k 1) (rU i l) (ao Z 116 1)) (L (we fs l.length (wI (k+1))) (rU i l) (ao Z 116 0)))))))) (Q (.ae 0 l.length 1) (cH l))):=by kernel_rfl
theorem aqq(i:ba)(fs:LN)(l:LI)(k x:Int)(L:LT)(Q:QT):
 cT Z E6 Co L Q 1000 116 0 (F3 fs l.length k x) (ao Z 116 1) (rU i l)=(
 ai (decide (x<=i.ar)) (((aW l).length=l.length*1∧l.length+1<=65536∧true=true∧true=true)∧L (F3 fs (l.length+1) k (wI (x+1))) (aq [(0,n6 i),(1,.aL (aW l++[J x]) 3)] 2) (ao Z 116 1)) (L (we fs l.length (wI (k+1))) (rU i l) (ao Z 116 0))):=by kernel_rfl
theorem aqO(i:ba)(L:LT)(Q:QT):
 b_ Z E7 (fun _=>[]) L Q 1000 124 [.aj (bP i)] ax=(
 ∃w:Int×kc×Bool,(([J i.op]:LV)=[J w.1]∧aq [] 0=ax∧iW w.1=w.2)∧(∃ab:ba×LN,(([.aj (bP i),.aa w.2.1.2.2.2.1]:LV)=[.aj (bP ab.1),.aa ab.2]∧aq [] 0=ax∧p7 ab.2)∧Q (.ae 0 (gO ab.1 ab.2).length 1) (cH (gO ab.1 ab.2)))):=by kernel_rfl
theorem aqP(i:ba)(L:LT)(Q:QT):
 b_ Z E8 (fun _=>[]) L Q 1000 125 [.aj (bP i)] ax=(
 ∃w:Int×kc×Bool,(([J i.op]:LV)=[J w.1]∧aq [] 0=ax∧iW w.1=w.2)∧(∃ab:ba×LN,(([.aj (bP i),.aa w.2.1.2.2.2.2]:LV)=[.aj (bP ab.1),.aa ab.2]∧aq [] 0=ax∧p7 ab.2)∧Q (.ae 0 (gO ab.1 ab.2).length 1) (cH (gO ab.1 ab.2)))):=by kernel_rfl
theorem atZ(i:ba)(L:LT)(Q:QT):
 b_ Z E9 (fun _=>[]) L Q 1000 82 [.aj (bP i)] ax=(
 ∃w:Int×kc×Bool,(([J i.op]:LV)=[J w.1]∧aq [] 0=ax∧iW w.1=w.2)∧(∃ab:ba×LN,(([.aj (bP i),.aa w.2.1.2.2.2.1]:LV)=[.aj (bP ab.1),.aa ab.2]∧aq [] 0=ax∧p7 ab.2)∧Q (.ae 0 (gO ab.1 ab.2).length 1) (cH (gO ab.1 ab.2)))):=by kernel_rfl
theorem at0(i:ba)(L:LT)(Q:QT):
 b_ Z P6 (fun _=>[]) L Q 1000 86 [.aj (bP i)] ax=(
 ∃w:Int×kc×Bool,(([J i.op]:LV)=[J w.1]∧aq [] 0=ax∧iW w.1=w.2)∧(∃ab:ba×LN,(([.aj (bP i),.aa w.2.1.2.2.2.2]:LV)=[.aj (bP ab.1),.aa ab.2]∧aq [] 0=ax∧p7 ab.2)∧Q (.ae 0 (gO ab.1 ab.2).length 1) (cH (gO ab.1 ab.2)))):=by kernel_rfl
theorem aqr{i:ba}{fs:LN}{aw:LI}{l0:LI}{k:Nat}(h0:0<=i.ar)(h1:i.ar<=4096)(hl:l0.length<=50000)(hk:k<100)
 (next:bF Z 116 66 0 (.ae 0 aw.length 1) (cH aw) (we fs (l0++jm i.ar).length ((k+1:Nat):Int)) (rU i (l0++jm i.ar)) (ao Z 116 0)):
 ∀x:Nat,((x:Int)<=i.ar)->
 bF Z 116 66 0 (.ae 0 aw.length 1) (cH aw) (F3 fs (l0++jm x).length (k:Int) ((x:Int)+1)) (rU i (l0++jm x)) (ao Z 116 1):=by
 refine cX (fun x=>i.ar.toNat-x) _ _ _ _ ?_;rintro x hx ih;refine hD Gs 1000 Co (by kernel_rfl) ?_;rw[aqq];have bH:=MN (x:Int);refine aY.2 ⟨fun an=>?_,fun a8=>?_⟩
 ·have an:(x:Int)<i.ar:=by simp at an;omega
  have e:wI ((x:Int)+1+1)=((x+1:Nat):Int)+1:=by rw[dz (by omega) (by omega)];simp
  have hi:jm ((x:Int)+1)=jm x++[(x:Int)+1]:=(acZ (n:=(x:Int)) (k:=x) (by omega)).resolve_right (by omega);have EV:jm ((x+1:Nat):Int)=jm x++[(x:Int)+1]:=by rw[←hi];simp
  refine⟨⟨by rw[qq];omega,by simp only[bj];omega,rfl,rfl⟩,?_⟩;have nx:=ih (x+1) (by simp;omega) (by omega);have hl3:(l0++jm x++[(x:Int)+1]).length=(l0++jm x).length+1:=bj;rw[EV,←iy,hl3]at nx;simp only[rU,aD,yV _ [(x:Int)+1]]at nx;rw[e];exact nx
 ·have a8:i.ar<=x:=by simp at a8;omega
  have Cc:i.ar=x:=by omega
  rw[Cc]at next
  have e:wI ((k:Int)+1)=((k+1:Nat):Int):=by rw[dz (by omega) (by omega)];simp
  rw[e];exact next
theorem aqp{i:ba}{fs:LN}{aw:LI}(h0:0<=i.ar)(h1:i.ar<=4096)(hf:fs.length<10):∀p:Nat×LI,(p.1<=fs.length∧p.2.length<=5000*p.1∧(fs.drop p.1).foldl (CG i) p.2=aw)->
 bF Z 116 66 0 (.ae 0 aw.length 1) (cH aw) (we fs p.2.length (p.1:Int)) (rU i p.2) (ao Z 116 0):=by
 refine cX (fun p=>fs.length-p.1) _ _ _ _ ?_;rintro⟨k,l⟩ ⟨hk,hl,ng⟩ ih;simp only at hk hl ng ih⊢;refine hD Gs 1000 Co (by kernel_rfl) ?_;rw[aqs];refine aY.2 ⟨fun an=>?_,fun a8=>?_⟩
 ·have an:k<fs.length:=by simpa using an
  rw[dv an,ik]at ng;have e:wI ((k:Int)+1)=((k+1:Nat):Int):=by rw[dz (by omega) (by omega)];simp
  have next:=fun l' (h:l'.length<=5000*(k+1)) (h2:(fs.drop (k+1)).foldl (CG i) l'=aw)=>ih (k+1,l') ⟨by simp;omega,h,h2⟩ (by simp;omega)
  simp only at next
  have CO:∀x:Int,(fs.drop (k+1)).foldl (CG i) (l++[x])=aw->bF Z 116 66 0 (.ae 0 aw.length 1) (cH aw) (we fs (l.length+1) (wI ((k:Int)+1))) (aq [(0,n6 i),(1,.aL (aW l++[J x]) 3)] 2) (ao Z 116 0):=by
   intro x hx;have n1:=next (l++[x]) (by simp;omega) hx
   rw[bj]at n1;simp only[rU,aD,yV l [x]]at n1;rw[e];exact n1
  have bH:((aW l).length=l.length*1∧l.length+1<=65536∧true=true∧true=true):=⟨by rw[qq];omega,by omega,rfl,rfl⟩;have hb:=jN an;refine⟨k,rfl,fs[k],hb,aY.2 ⟨fun h=>?_,fun S5=>?_⟩⟩
  ·have h:fs[k]=114:=by simp at h;omega
   rw[CG,aN h]at ng;exact⟨bH,CO _ ng⟩
  have S5:fs[k]≠114:=by intro h;simp[h]at S5
  rw[CG,az S5]at ng;have agK:(¬(fs[k]=97∧(l=[]∨l.getD 0 0≠i.a)))->∃cd:Nat,((k:Int)=(cd:Int))∧∃tS:Nat,(fs[cd]? =some tS)∧ai ((Int.ofNat tS)==112)
   (bF Z 116 66 0 (.ae 0 aw.length 1) (cH aw) (F3 fs l.length (k:Int) 1) (rU i l) (ao Z 116 1))
   (bF Z 116 66 0 (.ae 0 aw.length 1) (cH aw) (we fs l.length (wI ((k:Int)+1))) (rU i l) (ao Z 116 0)):=by
   intro hn;rw[az hn]at ng;refine⟨k,rfl,fs[k],hb,aY.2 ⟨fun h=>?_,fun h=>?_⟩⟩
   ·have h:fs[k]=112:=by simp at h;omega
    rw[aN h]at ng;have axl:=MN i.ar;have n1:=next (l++jm i.ar) (by simp only[bj];omega) ng
    have n2:=aqr (l0:=l) h0 h1 (by omega) (by omega) n1 0 (by simpa using h0);simpa[jm]using n2
   ·have h:fs[k]≠112:=by intro h2;simp[h2]at h
    rw[az h]at ng;rw[e];exact next l (by omega) ng
  refine⟨k,rfl,fs[k],hb,aY.2 ⟨fun h=>?_,fun Td=>?_⟩⟩
  ·have h:fs[k]=97:=by simp at h;omega
   refine aY.2 ⟨fun h2=>?_,fun h2=>?_⟩
   ·have h2:l=[]:=by simpa using h2
    rw[aN ⟨h,.inl h2⟩]at ng;exact⟨bH,CO _ ng⟩
   ·have h2:l≠[]:=by simpa using h2
    have uh:0<l.length:=List.length_pos_iff.2 h2;refine⟨uh,l.getD 0 0,?_,aY.2 ⟨fun h3=>?_,fun h3=>?_⟩⟩
    ·have:=ia uh;rwa[Nat.zero_mul]at this
    ·have h3:l.getD 0 0≠i.a:=by simpa using h3
     rw[aN ⟨h,.inr h3⟩]at ng;exact⟨bH,CO _ ng⟩
    ·have h3:l.getD 0 0=i.a:=by simpa using h3
     exact agK (by rintro⟨_,h4|h4⟩;exact h2 h4;exact h4 h3)
  ·have Td:fs[k]≠97:=by intro h;simp[h]at Td
   exact agK (fun h=>Td h.1)
 ·have a8:fs.length<=k:=by simpa using a8
  rw[dV a8,List.foldl_nil]at ng;subst ng;exact⟨rfl,rfl⟩
theorem apc{i:ba}{fs:LN}(h:p7 fs)(hF:ca i=true):fs.foldl (CG i) []=gO i fs:=by
 rcases h with rfl|rfl|rfl|rfl|rfl<;>simp[gO,hF,mS,CG]
 by_cases ha:i.a=i.r
 ·simp[ha]
 ·have hb:¬i.r=i.a:=fun h=>ha h.symm
  simp[ha,hb]
theorem aku{fs:LN}(h:p7 fs):fs.length<10:=by rcases h with rfl|rfl|rfl|rfl|rfl<;>simp
theorem YP:bn Z E7:=by
 refine dc Gs ?_;rintro⟨i,fs⟩ args H ⟨rfl,rfl,hf⟩;have hf:p7 fs:=hf;simp only[I0];cases hF:ca i with
 |false=>
  have hr:gO i fs=[]:=by simp[gO,hF]
  rw[hr];have rX:ca ⟨i.op,i.r,i.a,i.n,i.cR,i.ar⟩=false:=hF;refine So ?_;refine eS Gs 1000 Co 66 (by kernel_rfl) ?_;rw[afM];exact⟨⟨rfl,trivial⟩,aY.2 ⟨fun _=>⟨rfl,rfl⟩,fun h=>by rw[rX]at h;cases h⟩⟩
 |true=>have rX:ca ⟨i.op,i.r,i.a,i.n,i.cR,i.ar⟩=true:=hF;have hb:=Ra hF;refine eS Gs 1000 Co 66 (by kernel_rfl) ?_;rw[afM];refine⟨⟨rfl,trivial⟩,aY.2 ⟨fun h=>(by rw[rX]at h;cases h),fun _=>?_⟩⟩;refine xa (n:=1) (l:=[(0,n6 i)]) (T:=[(1,.aa fs),(2,.ad 0 0),(5,.bg),(6,J 0)]) 1 3 [5] ?_ rfl (by kernel_rfl);exact aqp (aw:=gO i fs) hb.1 hb.2 (aku hf) (0,[]) ⟨by simp,by simp,apc hf hF⟩
theorem apt:∀r∈oc,p7 r.2.2.2.1∧p7 r.2.2.2.2:=by intro r hr;simp only[oc,ss,List.mem_nil_iff,or_false]at hr;rcases hr with rfl|rfl|rfl|rfl|rfl|rfl|rfl|rfl|rfl|rfl|rfl|rfl|rfl|rfl|rfl|rfl|rfl|rfl|rfl|rfl|rfl|rfl|rfl|rfl|rfl<;>simp[p7]
theorem wb(k:Int):p7 (iW k).1.2.2.2.1∧p7 (iW k).1.2.2.2.2:=by
 unfold iW;cases hs:nJ k with
 |none=>exact⟨.inl rfl,.inl rfl⟩
 |some r=>exact apt r (Ob hs)
theorem YQ:bn Z E8:=by refine dc YP ?_;rintro i args H ⟨rfl,rfl⟩;refine eS YP 1000 (fun _=>[]) 15 (by kernel_rfl) ?_;rw[aqO];exact⟨(i.op,iW i.op),⟨rfl,rfl,rfl⟩,(i,(iW i.op).1.2.2.2.1),⟨rfl,rfl,(wb _).1⟩,rfl,rfl⟩
theorem YR:bn Z E9:=by refine dc YQ ?_;rintro i args H ⟨rfl,rfl⟩;refine eS YQ 1000 (fun _=>[]) 15 (by kernel_rfl) ?_;rw[aqP];exact⟨(i.op,iW i.op),⟨rfl,rfl,rfl⟩,(i,(iW i.op).1.2.2.2.2),⟨rfl,rfl,(wb _).2⟩,rfl,rfl⟩
theorem YN:bn Z P6:=by refine dc YR ?_;rintro i args H ⟨rfl,rfl⟩;refine eS YR 1000 (fun _=>[]) 15 (by kernel_rfl) ?_;rw[atZ];exact⟨(i.op,iW i.op),⟨rfl,rfl,rfl⟩,(i,(iW i.op).1.2.2.2.1),⟨rfl,rfl,(wb _).1⟩,rfl,rfl⟩
theorem Gp:bn Z Ds:=by refine dc YN ?_;rintro i args H ⟨rfl,rfl⟩;refine eS YN 1000 (fun _=>[]) 15 (by kernel_rfl) ?_;rw[at0];exact⟨(i.op,iW i.op),⟨rfl,rfl,rfl⟩,(i,(iW i.op).1.2.2.2.2),⟨rfl,rfl,(wb _).2⟩,rfl,rfl⟩
def mV(l:LI)(wr:List (Int×Bool)):List (Int×Bool):=l.foldl (fun m r=>up r true m) wr
def dh(wr:List (Int×Bool))(r:Int):Bool:=(lk r wr).getD false
def j0(base:Int)(wr:List (Int×Bool))(r:Int):Bool:=decide (r>base)&& !dh wr r
def lP(base:Int):List (Int×Bool)->bS->Bool
 |_,[]=>true
 |wr,i::l=>if ca i=false∨((i.op=19∨i.op=20)∧i.ar>base)then false
   else if(cf i).any (j0 base wr)then false else lP base (mV (b8 i) wr) l
def kK(l:bS)(base:Int):Bool:=if base<0∨base>4096∨l.length>131072 then false else lP base [] l
structure ie where
 cs:LV
 gq:Nat
 l:bS
def ie.ok(p:ie):Prop:=(p.cs.drop p.gq).take (p.l.length*6)=bZ p.l∧p.l.length<60000
abbrev rV x0:=aq [(0,.aL x0 50)] 1
def gS(p:ie):AH:=rV p.cs
theorem aop{p p':ie}(h:p.ok)(h':p'.ok)(h1:p.cs=p'.cs)(h2:p.gq=p'.gq)(h3:p.l.length=p'.l.length):p=p':=by obtain⟨cs,off,l⟩:=p;obtain⟨cs',axz,l'⟩:=p';simp only at h1 h2 h3;subst h1 h2;have e:=h.1;have e':=h'.1;simp only at e e';rw[h3,e']at e;rw[D_ e]
def JE:dP (ie×Int)where
 bN w A H:=A=[.bB 0 w.1.gq w.1.l.length 0 6 false,J w.2]∧H=gS w.1∧w.1.ok
 v w:=.aA (kK w.1.l w.2)
 aU w:=gS w.1
theorem ak8{p p':ie}(h:gS p=gS p'):p.cs=p'.cs:=by have:=congrArg (fun H=>AH.bD H 0) h;simp only[gS,eA]at this;exact(bc.aL.inj (dk this)).1
theorem FL{w w':ie×Int}{A:LV}{H:AH}(h1:A=[.bB 0 w.1.gq w.1.l.length 0 6 false,J w.2])(h2:H=gS w.1)(h3:w.1.ok)
 (k1:A=[.bB 0 w'.1.gq w'.1.l.length 0 6 false,J w'.2]) (k2:H=gS w'.1) (k3:w'.1.ok):w=w':=by
 obtain⟨p,b⟩:=w;obtain⟨p',b'⟩:=w';rw[h1]at k1;rw[h2]at k2;simp only[List.cons.injEq,AV.bB.injEq,AV.cM.injEq,true_and,and_true]at k1;have e:=aop h3 k3 (ak8 k2) k1.1.1 k1.1.2;simp only at e;rw[e,k1.2]
theorem agR:JE.dT:=by rintro w w' A H ⟨h1,h2,h3⟩ ⟨k1,k2,k3⟩;rw[FL h1 h2 h3 k1 k2 k3]
def Dt:Ev.bC:=cB 107 (cO JE agR cV) Ds
def Ai:Nat->LN:=nk [(5,[1,5,24,25,26]),(10,[1,5,7,24,25,26,50,51,52]),(16,[1,5,24,25,26,67,68,69])]
def mN(wr:List (Int×Bool)):bc:=.bM (bK vB 0 wr) wr.length true
def axG(off len:Nat)(base i:Int):List (Nat×AV):=[(1,J base),(5,.aS 1),(24,.bB 0 off len 0 6 false),(25,J (Int.ofNat len)),(26,J i)]
abbrev F4 x0 x1 x2 x3 x4:=bk [(1,J x0),(5,.aS 1),(24,.bB 0 x1 x2 0 6 x3),(25,J (Int.ofNat x2)),(26,J x4)]
theorem apG(cs:LV)(off len:Nat)(base:Int)(L:LT)(Q:QT):
 b_ Z Ds Ai L Q 1000 107 [.bB 0 off len 0 6 false,J base] (rV cs)=(
 ai (decide (base<0)) (Q (.aA false) (rV cs)) (ai (decide (base>4096)) (Q (.aA false) (rV cs)) (ai (decide (Int.ofNat len>131072)) (Q (.aA false) (rV cs)) (L (F4 base off len false 0) (aq [(0,.aL cs 50),(1,.bM [] 0 true)] 2) (ao Z 107 0))))):=by kernel_rfl
abbrev AP x0 x1 x2 x3 x4 x5 x6:=bk [(1,J x0),(5,.aS 1),(7,.ad 2 0),(24,.bB 0 x1 x2 0 6 x3),(25,J (Int.ofNat x2)),(26,J x4),(50,.ae 3 x5 1),(51,J (Int.ofNat x5)),(52,J x6)]
theorem apH(cs:LV)(off len:Nat)(base i:Int)(wr:List (Int×Bool))(L:LT)(Q:QT):
 cT Z Ds Ai L Q 1000 107 1 (F4 base off len false i) (ao Z 107 0) (aq [(0,.aL cs 50),(1,mN wr)] 2)=(
 ai (decide (i<Int.ofNat len)) (∃aI:Nat,i=(aI:Int)∧aI<len∧(∃n:Int,∃aP:Int,∃bp:Int,∃bI:Int,∃s:LN,∃cS:Int,bA Z 50 cs (off+aI*6)=some (.aj [J n,J aP,J bp,J bI,.aa s,J cS]:AV)∧(aq [] 0=ax∧True)∧ai (!ca (ba.mk n aP bp bI s cS)) (Q (.aA false) (rV cs)) (ai (n==19) (ai (decide (cS>base)) (Q (.aA false) (rV cs)) (∃w:ba,(([.aj [J n,J aP,J bp,J bI,.aa s,J cS]]:LV)=[.aj (bP w)]∧aq [] 0=ax)∧L (AP base off len false i (cf w).length 0) (aq [(0,.aL cs 50),(1,mN wr),(2,.ay [J n,J aP,J bp,J bI,.aa s,J cS] 50),(3,aD (cf w) 3)] 4) (ao Z 107 1))) (ai (n==20) (ai (decide (cS>base)) (Q (.aA false) (rV cs)) (∃w:ba,(([.aj [J n,J aP,J bp,J bI,.aa s,J cS]]:LV)=[.aj (bP w)]∧aq [] 0=ax)∧L (AP base off len false i (cf w).length 0) (aq [(0,.aL cs 50),(1,mN wr),(2,.ay [J n,J aP,J bp,J bI,.aa s,J cS] 50),(3,aD (cf w) 3)] 4) (ao Z 107 1))) (∃w:ba,(([.aj [J n,J aP,J bp,J bI,.aa s,J cS]]:LV)=[.aj (bP w)]∧aq [] 0=ax)∧L (AP base off len false i (cf w).length 0) (aq [(0,.aL cs 50),(1,mN wr),(2,.ay [J n,J aP,J bp,J bI,.aa s,J cS] 50),(3,aD (cf w) 3)] 4) (ao Z 107 1)))))) (Q (.aA true) (rV cs))):=by kernel_rfl
abbrev Ow x0 x1 x2 x3 x4 x5 x6:=bk [(1,J x0),(5,.aS 1),(24,.bB 0 x1 x2 0 6 x3),(25,J (Int.ofNat x2)),(26,J x4),(67,.ae 2 x5 1),(68,J (Int.ofNat x5)),(69,J x6)]
abbrev HE x0 x1 x2 x3:=aq [(0,.aL x0 50),(1,mN x1),(2,n6 x2),(3,aD x3 3)] 4
theorem apI(cs:LV)(off len:Nat)(base i k:Int)(wr:List (Int×Bool))(x:ba)(rs:LI)(L:LT)(Q:QT):
 cT Z Ds Ai L Q 1000 107 1 (AP base off len false i rs.length k) (ao Z 107 1) (HE cs wr x rs)=(
 ai (decide (k<Int.ofNat rs.length)) (∃aI:Nat,k=(aI:Int)∧aI<rs.length∧(∃n:Int,bA Z 3 (aW rs) (aI*1)=some (J n:AV)∧ai (decide (n>base)) (∃b:Bool,∃iE:Bool,gf Z 3 4 (bK vB 0 wr) (J n)=some (.aA b,iE)∧ai (!b) (Q (.aA false) (rV cs)) (L (AP base off len false i rs.length (wI (k+1))) (HE cs wr x rs) (ao Z 107 1))) (L (AP base off len false i rs.length (wI (k+1))) (HE cs wr x rs) (ao Z 107 1)))) (∃w:ba,(([.aj (bP x)]:LV)=[.aj (bP w)]∧aq [] 0=ax)∧L (Ow base off len false i (b8 w).length 0) (aq [(0,.aL cs 50),(1,mN wr),(2,aD (b8 w) 3)] 3) (ao Z 107 2))):=by kernel_rfl
theorem apK(cs:LV)(off len:Nat)(base i k:Int)(wr:List (Int×Bool))(ws:LI)(L:LT)(Q:QT):
 cT Z Ds Ai L Q 1000 107 1 (Ow base off len false i ws.length k) (ao Z 107 2) (aq [(0,.aL cs 50),(1,mN wr),(2,aD ws 3)] 3)=(
 ai (decide (k<Int.ofNat ws.length)) (∃aI:Nat,k=(aI:Int)∧aI<ws.length∧(∃n:Int,bA Z 3 (aW ws) (aI*1)=some (J n:AV)∧(∃bQ:List (AV×AV×Nat),∃c':Nat,lN Z 3 (bK vB 0 wr) wr.length (J n) (.aA true)=some (bQ,c')∧L (Ow base off len false i ws.length (wI (k+1))) (aq [(0,.aL cs 50),(1,.bM bQ c' true),(2,aD ws 3)] 3) (ao Z 107 2)))) (L (F4 base off len false (wI (i+1))) (aq [(0,.aL cs 50),(1,mN wr)] 2) (ao Z 107 0))):=by kernel_rfl
theorem WQ{i:ba}{fs:LN}(h:p7 fs):(gO i fs).length<5000:=by
 unfold gO;split
 ·rename_i hF;have hb:=Ra hF;have hl:=MN i.ar;rcases h with rfl|rfl|rfl|rfl|rfl<;>simp[mS]
  ·split<;>simp
  ·omega
 ·simp
theorem IZ(i:ba):(cf i).length<5000:=WQ (wb _).1
theorem JL(i:ba):(b8 i).length<5000:=WQ (wb _).2
theorem fE{k n:Nat}(h:k<n)(hn:n<1000000):wI ((k:Int)+1)=((k+1:Nat):Int):=by rw[dz (by omega) (by omega)];simp
theorem VD(wr:List (Int×Bool))(r:Int):∃b:Bool,∃iE:Bool,gf Z 3 4 (bK vB 0 wr) (J r)=some (.aA b,iE)∧dh wr r=b:=by
 rw[qj _ yh];unfold dh;cases lk r wr with
 |none=>exact⟨false,false,by rw[Pa];rfl,rfl⟩
 |some b=>exact⟨b,true,rfl,rfl⟩
theorem aom(a b c d e f:AV)(l:LV):bA Z 50 (a::b::c::d::e::f::l) 0=some (.aj [a,b,c,d,e,f]):=by kernel_rfl
theorem aon(cs:LV)(off:Nat):bA Z 50 cs off=bA Z 50 (cs.drop off) 0:=by kernel_rfl
theorem agF{l:LV}{i:ba}(h:l.take 6=bP i):∃r,l=bP i++r:=⟨l.drop 6,by rw[←h,uI]⟩
theorem ie.get{p:ie}(h:p.ok){i:Nat}(hi:i<p.l.length):bA Z 50 p.cs (p.gq+i*6)=some (.aj (bP p.l[i])):=by
 have h1:(p.cs.drop (p.gq+i*6)).take 6=bP p.l[i]:=by have h2:=aaP hi;rw[←h.1,List.drop_take,List.take_take,List.drop_drop]at h2;rwa[Nat.min_eq_left (by omega)]at h2
 obtain⟨r,hr⟩:=agF h1;rw[aon,hr];exact aom _ _ _ _ _ _ _
section
variable{cs:LV}{off len:Nat}{base:Int}{aw:Bool}
theorem apL{i:Int}{C':List (Int×Bool)}{ws:LI}(hw:ws.length<5000)
 (next:bF Z 107 77 1 (.aA aw) (rV cs) (F4 base off len false (wI (i+1))) (aq [(0,.aL cs 50),(1,mN (mV ws C'))] 2) (ao Z 107 0)):
 ∀p:Nat×List (Int×Bool),(p.1<=ws.length∧mV (ws.drop p.1) p.2=mV ws C')->
 bF Z 107 77 1 (.aA aw) (rV cs) (Ow base off len false i ws.length (p.1:Int)) (aq [(0,.aL cs 50),(1,mN p.2),(2,aD ws 3)] 3) (ao Z 107 2):=by
 refine cX (fun p=>ws.length-p.1) _ _ _ _ ?_;rintro⟨k,wr⟩ ⟨hk,hf⟩ ih;simp only at hk hf ih⊢;refine hD Gp 1000 Ai (by kernel_rfl) ?_;rw[apK];refine aY.2 ⟨fun an=>?_,fun a8=>?_⟩
 ·have an:k<ws.length:=by simpa using an
  rw[dv an]at hf;have hg:ws.getD k 0=ws[k]:=by simp[List.getD,jN an]
  refine⟨k,rfl,an,ws[k],by rw[ia an,hg],_,_,pj vB yh,?_⟩;rw[fE an (by omega)];exact ih (k+1,up ws[k] true wr) ⟨by simp;omega,hf⟩ (by simp;omega)
 ·have a8:ws.length<=k:=by simpa using a8
  rw[dV a8]at hf;have hf:wr=mV ws C':=hf;rw[hf];exact next
theorem apJ{i:Int}{wr:List (Int×Bool)}{x:ba}(hb:(cf x).any (j0 base wr)=true->aw=false)
 (next:(cf x).any (j0 base wr)=false->bF Z 107 77 1 (.aA aw) (rV cs) (F4 base off len false (wI (i+1))) (aq [(0,.aL cs 50),(1,mN (mV (b8 x) wr))] 2) (ao Z 107 0)):
 ∀k:Nat,(k<=(cf x).length∧((cf x).drop k).any (j0 base wr)=(cf x).any (j0 base wr))->
 bF Z 107 77 1 (.aA aw) (rV cs) (AP base off len false i (cf x).length (k:Int)) (HE cs wr x (cf x)) (ao Z 107 1):=by
 have hrl:=IZ x;refine cX (fun k=>(cf x).length-k) _ _ _ _ ?_;rintro k ⟨hk,hf⟩ ih;refine hD Gp 1000 Ai (by kernel_rfl) ?_;rw[apI];refine aY.2 ⟨fun an=>?_,fun a8=>?_⟩
 ·have an:k<(cf x).length:=by simpa using an
  rw[dv an,List.any_cons]at hf;have hg:(cf x).getD k 0=(cf x)[k]:=by simp[List.getD,jN an]
  refine⟨k,rfl,an,(cf x)[k],by rw[ia an,hg],?_⟩;rw[fE an (by omega)];obtain⟨b,b1,h1,h2⟩:=VD wr (cf x)[k];refine aY.2 ⟨fun hr=>⟨b,b1,h1,aY.2 ⟨fun h=>?_,fun h=>?_⟩⟩,fun hr=>?_⟩
  ·have:j0 base wr (cf x)[k]=true:=by simp at h hr;simp[j0,h2,hr,h]
   rw[this,Bool.true_or]at hf;rw[hb hf.symm];exact⟨rfl,rfl⟩
  ·have:j0 base wr (cf x)[k]=false:=by simp at h;simp[j0,h2,h]
   rw[this,Bool.false_or]at hf;exact ih (k+1) ⟨by omega,hf⟩ (by omega)
  ·have:j0 base wr (cf x)[k]=false:=by simp[j0,hr]
   rw[this,Bool.false_or]at hf;exact ih (k+1) ⟨by omega,hf⟩ (by omega)
 ·have a8:(cf x).length<=k:=by simpa using a8
  rw[dV a8]at hf;have hf:(cf x).any (j0 base wr)=false:=hf.symm;refine⟨x,⟨rfl,rfl⟩,?_⟩;exact apL (JL x) (next hf) (0,wr) ⟨by simp,rfl⟩
end
theorem apF{p:ie}{base:Int}{aw:Bool}(hp:p.ok):
 ∀q:Nat×List (Int×Bool),(q.1<=p.l.length∧lP base q.2 (p.l.drop q.1)=aw)->
 bF Z 107 77 1 (.aA aw) (gS p) (F4 base p.gq p.l.length false (q.1:Int)) (aq [(0,.aL p.cs 50),(1,mN q.2)] 2) (ao Z 107 0):=by
 refine cX (fun q=>p.l.length-q.1) _ _ _ _ ?_;rintro⟨i,wr⟩ ⟨hi,hf⟩ ih;simp only at hi hf ih⊢;have jG:=hp.2;refine hD Gp 1000 Ai (by kernel_rfl) ?_;rw[apH];refine aY.2 ⟨fun an=>?_,fun a8=>?_⟩
 ·have an:i<p.l.length:=by simpa using an
  have bU:=p.get hp an;rw[dv an,lP]at hf;have next:lP base (mV (b8 p.l[i]) wr) (p.l.drop (i+1))=aw->_:=fun h=>ih (i+1,mV (b8 p.l[i]) wr) ⟨by simp;omega,h⟩ (by simp;omega)
  generalize p.l[i]=x at bU hf next
  obtain⟨o,r,a,n,s,ar⟩:=x;refine⟨i,rfl,an,o,r,a,n,s,ar,bU,⟨rfl,trivial⟩,?_⟩;have rest:¬(ca ⟨o,r,a,n,s,ar⟩=false∨((o=19∨o=20)∧ar>base))->∃w:ba,((([.aj [J o,J r,J a,J n,.aa s,J ar]]:LV)=[.aj [J w.op,J w.r,J w.a,J w.n,.aa w.cR,J w.ar]])∧aq [] 0=ax)∧
   bF Z 107 77 1 (.aA aw) (gS p) (AP base p.gq p.l.length false (i:Int) (cf w).length 0) (HE p.cs wr ⟨o,r,a,n,s,ar⟩ (cf w)) (ao Z 107 1):=by
   intro hn;rw[az hn]at hf;refine⟨⟨o,r,a,n,s,ar⟩,⟨rfl,rfl⟩,?_⟩;refine apJ (i:=(i:Int)) (x:=⟨o,r,a,n,s,ar⟩) (fun hb=>?_) (fun hb=>?_) 0 ⟨by simp,by simp⟩
   ·rw[aN hb]at hf;exact hf.symm
   ·rw[az (by rw[hb];simp)]at hf;rw[fE an (by omega)];exact next hf
  refine aY.2 ⟨fun h=>?_,fun h=>?_⟩
  ·rw[aN (.inl (by simpa using h))]at hf;subst hf;exact⟨rfl,rfl⟩
  have hF:¬ca ⟨o,r,a,n,s,ar⟩=false:=by simpa using h
  refine aY.2 ⟨fun h1=>aY.2 ⟨fun h2=>?_,fun h2=>?_⟩,fun h1=>aY.2 ⟨fun h3=>aY.2 ⟨fun h2=>?_,fun h2=>?_⟩,fun h3=>?_⟩⟩
  ·rw[aN (.inr ⟨.inl (by simpa using h1),by simpa using h2⟩)]at hf;subst hf;exact⟨rfl,rfl⟩
  ·exact rest (by rintro(h|⟨_,h⟩);exact hF h;simp at h2;omega)
  ·rw[aN (.inr ⟨.inr (by simpa using h3),by simpa using h2⟩)]at hf;subst hf;exact⟨rfl,rfl⟩
  ·exact rest (by rintro(h|⟨_,h⟩);exact hF h;simp at h2;omega)
  ·exact rest (by rintro(h|⟨h|h,_⟩);exact hF h;simp at h1;exact h1 h;simp at h3;exact h3 h)
 ·have a8:p.l.length<=i:=by simpa using a8
  rw[dV a8]at hf;subst hf;exact⟨rfl,rfl⟩
theorem Gq:bn Z Dt:=by
 refine dc Gp ?_;rintro⟨p,base⟩ args H ⟨rfl,rfl,hp⟩;have hp:p.ok:=hp;have jG:=hp.2;refine eS Gp 1000 Ai 77 (by kernel_rfl) ?_;simp only[JE,gS];rw[apG];have h3:¬(p.l.length:Int)>131072:=by omega
 refine aY.2 ⟨fun h=>?_,fun h=>aY.2 ⟨fun h2=>?_,fun h2=>aY.2 ⟨fun h4=>?_,fun _=>?_⟩⟩⟩
 ·have:kK p.l base=false:=by simp at h;simp[kK,h]
  rw[this];exact⟨rfl,rfl⟩
 ·have:kK p.l base=false:=by simp at h2;simp[kK,h2]
  rw[this];exact⟨rfl,rfl⟩
 ·simp at h4;omega
 ·have:kK p.l base=lP base [] p.l:=by simp at h h2;unfold kK;rw[az (by omega)]
  rw[this];exact apF hp (0,[]) ⟨by simp,rfl⟩
def P7:Ev.bC:=cB 112 (cO JE agR cV) Dt
def Aj:Nat->LN:=nk [(5,[0,1,5,6]),(11,[0,1,5,6,7,8]),(17,[0,1,5,6,9,10])]
abbrev F5 x0 x1 x2 x3 x4:=bk [(0,.bB 0 x0 x1 0 6 x2),(1,J x3),(5,.aS 1),(6,J x4)]
abbrev yk x0:=aq [(0,.aL x0 50)] 1
theorem ap3(cs:LV)(off len:Nat)(base:Int)(L:LT)(Q:QT):
 b_ Z Dt Aj L Q 1000 112 [.bB 0 off len 0 6 false,J base] (yk cs)=(
 ai (decide (base<0)) (Q (.aA false) (yk cs)) (ai (decide (base>4096)) (Q (.aA false) (yk cs)) (ai (decide (Int.ofNat len>131072)) (Q (.aA false) (yk cs)) (L (F5 off len false base 0) (aq [(0,.aL cs 50),(1,.bM [] 0 true)] 2) (ao Z 112 0))))):=by kernel_rfl
abbrev AQ x0 x1 x2 x3 x4 x5 x6:=bk [(0,.bB 0 x0 x1 0 6 x2),(1,J x3),(5,.aS 1),(6,J x4),(7,.ae 2 x5 1),(8,J x6)]
abbrev vt x0 x1 x2:=aq [(0,.aL x0 50),(1,mN x1),(2,aD x2 3)] 3
theorem ap4(cs:LV)(off len:Nat)(base i:Int)(wr:List (Int×Bool))(L:LT)(Q:QT):
 cT Z Dt Aj L Q 1000 112 1 (F5 off len false base i) (ao Z 112 0) (aq [(0,.aL cs 50),(1,mN wr)] 2)=(
 ai (decide (i<Int.ofNat len)) (∃aI:Nat,i=(aI:Int)∧aI<len∧(∃n:Int,∃aP:Int,∃bp:Int,∃bI:Int,∃s:LN,∃cS:Int,bA Z 50 cs (off+aI*6)=some (.aj [J n,J aP,J bp,J bI,.aa s,J cS]:AV)∧(aq [] 0=ax∧True)∧ai (!ca (ba.mk n aP bp bI s cS)) (Q (.aA false) (yk cs)) (∃bz:Nat,i=(bz:Int)∧bz<len∧(∃ib:Int,bA Z 3 cs (off+bz*6+0)=some (J ib:AV)∧ai (ib==19) (∃cd:Nat,i=(cd:Int)∧cd<len∧(∃jI:Int,bA Z 3 cs (off+cd*6+5)=some (J jI:AV)∧ai (decide (jI>base)) (Q (.aA false) (yk cs)) (∃dt:Nat,i=(dt:Int)∧dt<len∧(∃np:Int,∃oH:Int,∃oI:Int,∃uy:Int,∃dO:LN,∃As:Int,bA Z 50 cs (off+dt*6)=some (.aj [J np,J oH,J oI,J uy,.aa dO,J As]:AV)∧(∃w:ba,(([.aj [J np,J oH,J oI,J uy,.aa dO,J As]]:LV)=[.aj (bP w)]∧aq [] 0=ax)∧L (AQ off len false base i (cf w).length 0) (vt cs wr (cf w)) (ao Z 112 1)))))) (∃cd:Nat,i=(cd:Int)∧cd<len∧(∃jI:Int,bA Z 3 cs (off+cd*6+0)=some (J jI:AV)∧ai (jI==20) (∃dt:Nat,i=(dt:Int)∧dt<len∧(∃np:Int,bA Z 3 cs (off+dt*6+5)=some (J np:AV)∧ai (decide (np>base)) (Q (.aA false) (yk cs)) (∃te:Nat,i=(te:Int)∧te<len∧(∃oH:Int,∃oI:Int,∃uy:Int,∃As:Int,∃dO:LN,∃adR:Int,bA Z 50 cs (off+te*6)=some (.aj [J oH,J oI,J uy,J As,.aa dO,J adR]:AV)∧(∃w:ba,(([.aj [J oH,J oI,J uy,J As,.aa dO,J adR]]:LV)=[.aj (bP w)]∧aq [] 0=ax)∧L (AQ off len false base i (cf w).length 0) (vt cs wr (cf w)) (ao Z 112 1)))))) (∃dt:Nat,i=(dt:Int)∧dt<len∧(∃np:Int,∃oH:Int,∃oI:Int,∃uy:Int,∃dO:LN,∃As:Int,bA Z 50 cs (off+dt*6)=some (.aj [J np,J oH,J oI,J uy,.aa dO,J As]:AV)∧(∃w:ba,(([.aj [J np,J oH,J oI,J uy,.aa dO,J As]]:LV)=[.aj (bP w)]∧aq [] 0=ax)∧L (AQ off len false base i (cf w).length 0) (vt cs wr (cf w)) (ao Z 112 1)))))))))) (Q (.aA true) (yk cs))):=by kernel_rfl
abbrev Ox x0 x1 x2 x3 x4 x5 x6:=bk [(0,.bB 0 x0 x1 0 6 x2),(1,J x3),(5,.aS 1),(6,J x4),(9,.ae 2 x5 1),(10,J x6)]
theorem ap5(cs:LV)(off len:Nat)(base i k:Int)(wr:List (Int×Bool))(rs:LI)(L:LT)(Q:QT):
 cT Z Dt Aj L Q 1000 112 1 (AQ off len false base i rs.length k) (ao Z 112 1) (vt cs wr rs)=(
 ai (decide (k<Int.ofNat rs.length)) (∃aI:Nat,k=(aI:Int)∧aI<rs.length∧(∃n:Int,bA Z 3 (aW rs) (aI*1)=some (J n:AV)∧ai (decide (n>base)) (∃bz:Nat,k=(bz:Int)∧bz<rs.length∧(∃aP:Int,bA Z 3 (aW rs) (bz*1)=some (J aP:AV)∧(∃b:Bool,∃iE:Bool,gf Z 3 4 (bK vB 0 wr) (J aP)=some (.aA b,iE)∧ai (!b) (Q (.aA false) (yk cs)) (L (AQ off len false base i rs.length (wI (k+1))) (vt cs wr rs) (ao Z 112 1))))) (L (AQ off len false base i rs.length (wI (k+1))) (vt cs wr rs) (ao Z 112 1)))) (∃aI:Nat,i=(aI:Int)∧aI<len∧(∃n:Int,∃aP:Int,∃bp:Int,∃bI:Int,∃s:LN,∃cS:Int,bA Z 50 cs (off+aI*6)=some (.aj [J n,J aP,J bp,J bI,.aa s,J cS]:AV)∧(∃w:ba,(([.aj [J n,J aP,J bp,J bI,.aa s,J cS]]:LV)=[.aj (bP w)]∧aq [] 0=ax)∧L (Ox off len false base i (b8 w).length 0) (vt cs wr (b8 w)) (ao Z 112 2))))):=by kernel_rfl
theorem ap7(cs:LV)(off len:Nat)(base i k:Int)(wr:List (Int×Bool))(ws:LI)(L:LT)(Q:QT):
 cT Z Dt Aj L Q 1000 112 1 (Ox off len false base i ws.length k) (ao Z 112 2) (vt cs wr ws)=(
 ai (decide (k<Int.ofNat ws.length)) (∃aI:Nat,k=(aI:Int)∧aI<ws.length∧(∃n:Int,bA Z 3 (aW ws) (aI*1)=some (J n:AV)∧(∃bQ:List (AV×AV×Nat),∃c':Nat,lN Z 3 (bK vB 0 wr) wr.length (J n) (.aA true)=some (bQ,c')∧L (Ox off len false base i ws.length (wI (k+1))) (aq [(0,.aL cs 50),(1,.bM bQ c' true),(2,aD ws 3)] 3) (ao Z 112 2)))) (L (F5 off len false base (wI (i+1))) (aq [(0,.aL cs 50),(1,mN wr)] 2) (ao Z 112 0))):=by kernel_rfl
theorem ie.tQ{p:ie}(h:p.ok){i:Nat}(hi:i<p.l.length):∃r,p.cs.drop (p.gq+i*6)=bP p.l[i]++r:=by
 have h1:(p.cs.drop (p.gq+i*6)).take 6=bP p.l[i]:=by have h2:=aaP hi;rw[←h.1,List.drop_take,List.take_take,List.drop_drop]at h2;rwa[Nat.min_eq_left (by omega)]at h2
 exact agF h1
theorem ie.cell{p:ie}(h:p.ok){i:Nat}(hi:i<p.l.length)(j:Nat)(hj:j<6):bA Z 3 p.cs (p.gq+i*6+j)=(bP p.l[i])[j]? :=by obtain⟨r,hr⟩:=p.tQ h hi;rw[v5,←List.getElem?_drop,hr,List.getElem?_append_left (by rw[Bn];exact hj)]
section
variable{p:ie}{base:Int}{aw:Bool}{i:Nat}
theorem ap8{C':List (Int×Bool)}{ws:LI}(hw:ws.length<5000)
 (next:bF Z 112 102 1 (.aA aw) (gS p) (F5 p.gq p.l.length false base (wI ((i:Int)+1))) (aq [(0,.aL p.cs 50),(1,mN (mV ws C'))] 2) (ao Z 112 0)):
 ∀q:Nat×List (Int×Bool),(q.1<=ws.length∧mV (ws.drop q.1) q.2=mV ws C')->
 bF Z 112 102 1 (.aA aw) (gS p) (Ox p.gq p.l.length false base (i:Int) ws.length (q.1:Int)) (vt p.cs q.2 ws) (ao Z 112 2):=by
 refine cX (fun q=>ws.length-q.1) _ _ _ _ ?_;rintro⟨k,wr⟩ ⟨hk,hf⟩ ih;simp only at hk hf ih⊢;refine hD Gq 1000 Aj (by kernel_rfl) ?_;rw[ap7];refine aY.2 ⟨fun an=>?_,fun a8=>?_⟩
 ·have an:k<ws.length:=by simpa using an
  rw[dv an]at hf;have hg:ws.getD k 0=ws[k]:=by simp[List.getD,jN an]
  refine⟨k,rfl,an,ws[k],by rw[ia an,hg],_,_,pj vB yh,?_⟩;rw[fE an (by omega)];exact ih (k+1,up ws[k] true wr) ⟨by simp;omega,hf⟩ (by simp;omega)
 ·have a8:ws.length<=k:=by simpa using a8
  rw[dV a8]at hf;have hf:wr=mV ws C':=hf;rw[hf];exact next
theorem ap6(hp:p.ok)(hi:i<p.l.length){wr:List (Int×Bool)}{x:ba}(hx:p.l[i]=x)(hb:(cf x).any (j0 base wr)=true->aw=false)
 (next:(cf x).any (j0 base wr)=false->bF Z 112 102 1 (.aA aw) (gS p) (F5 p.gq p.l.length false base (wI ((i:Int)+1))) (aq [(0,.aL p.cs 50),(1,mN (mV (b8 x) wr))] 2) (ao Z 112 0)):
 ∀k:Nat,(k<=(cf x).length∧((cf x).drop k).any (j0 base wr)=(cf x).any (j0 base wr))->
 bF Z 112 102 1 (.aA aw) (gS p) (AQ p.gq p.l.length false base (i:Int) (cf x).length (k:Int)) (vt p.cs wr (cf x)) (ao Z 112 1):=by
 have hrl:=IZ x;refine cX (fun k=>(cf x).length-k) _ _ _ _ ?_;rintro k ⟨hk,hf⟩ ih;refine hD Gq 1000 Aj (by kernel_rfl) ?_;rw[gS,ap5];refine aY.2 ⟨fun an=>?_,fun a8=>?_⟩
 ·have an:k<(cf x).length:=by simpa using an
  rw[dv an,List.any_cons]at hf;have hg:(cf x).getD k 0=(cf x)[k]:=by simp[List.getD,jN an]
  refine⟨k,rfl,an,(cf x)[k],by rw[ia an,hg],?_⟩;rw[fE an (by omega)];obtain⟨b,b1,h1,h2⟩:=VD wr (cf x)[k];refine aY.2 ⟨fun hr=>⟨k,rfl,an,(cf x)[k],by rw[ia an,hg],b,b1,h1,aY.2 ⟨fun h=>?_,fun h=>?_⟩⟩,fun hr=>?_⟩
  ·have:j0 base wr (cf x)[k]=true:=by simp at h hr;simp[j0,h2,hr,h]
   rw[this,Bool.true_or]at hf;rw[hb hf.symm];exact⟨rfl,rfl⟩
  ·have:j0 base wr (cf x)[k]=false:=by simp at h;simp[j0,h2,h]
   rw[this,Bool.false_or]at hf;exact ih (k+1) ⟨by omega,hf⟩ (by omega)
  ·have:j0 base wr (cf x)[k]=false:=by simp[j0,hr]
   rw[this,Bool.false_or]at hf;exact ih (k+1) ⟨by omega,hf⟩ (by omega)
 ·have a8:(cf x).length<=k:=by simpa using a8
  rw[dV a8]at hf;have hf:(cf x).any (j0 base wr)=false:=hf.symm;have bU:=p.get hp hi;rw[hx]at bU;refine⟨i,rfl,hi,x.op,x.r,x.a,x.n,x.cR,x.ar,bU,x,⟨rfl,rfl⟩,?_⟩;exact ap8 (JL x) (next hf) (0,wr) ⟨by simp,rfl⟩
end
theorem ap2{p:ie}{base:Int}{aw:Bool}(hp:p.ok):
 ∀q:Nat×List (Int×Bool),(q.1<=p.l.length∧lP base q.2 (p.l.drop q.1)=aw)->
 bF Z 112 102 1 (.aA aw) (gS p) (F5 p.gq p.l.length false base (q.1:Int)) (aq [(0,.aL p.cs 50),(1,mN q.2)] 2) (ao Z 112 0):=by
 refine cX (fun q=>p.l.length-q.1) _ _ _ _ ?_;rintro⟨i,wr⟩ ⟨hi,hf⟩ ih;simp only at hi hf ih⊢;have jG:=hp.2;refine hD Gq 1000 Aj (by kernel_rfl) ?_;rw[gS,ap4];refine aY.2 ⟨fun an=>?_,fun a8=>?_⟩
 ·have an:i<p.l.length:=by simpa using an
  have bU:=p.get hp an;have r4:=p.cell hp an 0 (by omega);have TG:=p.cell hp an 5 (by omega);rw[dv an,lP]at hf;have next:lP base (mV (b8 p.l[i]) wr) (p.l.drop (i+1))=aw->_:=fun h=>ih (i+1,mV (b8 p.l[i]) wr) ⟨by simp;omega,h⟩ (by simp;omega)
  have hx:p.l[i]=p.l[i]:=rfl;generalize h0:p.l[i]=x at bU hf next r4 TG
  obtain⟨o,r,a,n,s,ar⟩:=x;refine⟨i,rfl,an,o,r,a,n,s,ar,bU,⟨rfl,trivial⟩,?_⟩;have rest:¬(ca ⟨o,r,a,n,s,ar⟩=false∨((o=19∨o=20)∧ar>base))->
   bF Z 112 102 1 (.aA aw) (gS p) (AQ p.gq p.l.length false base (i:Int) (cf ⟨o,r,a,n,s,ar⟩).length ((0:Nat):Int)) (vt p.cs wr (cf ⟨o,r,a,n,s,ar⟩)) (ao Z 112 1):=by
   intro hn;rw[az hn]at hf;refine ap6 hp an h0 (fun hb=>?_) (fun hb=>?_) 0 ⟨by simp,by simp⟩
   ·rw[aN hb]at hf;exact hf.symm
   ·rw[az (by rw[hb];simp)]at hf;rw[fE an (by omega)];exact next hf
  refine aY.2 ⟨fun h=>?_,fun h=>?_⟩
  ·rw[aN (.inl (by simpa using h))]at hf;subst hf;exact⟨rfl,rfl⟩
  have hF:¬ca ⟨o,r,a,n,s,ar⟩=false:=by simpa using h
  refine⟨i,rfl,an,o,r4,?_⟩;refine aY.2 ⟨fun h1=>⟨i,rfl,an,ar,TG,aY.2 ⟨fun h2=>?_,fun h2=>⟨i,rfl,an,o,r,a,n,s,ar,bU,⟨o,r,a,n,s,ar⟩,⟨rfl,rfl⟩,?_⟩⟩⟩,fun h1=>⟨i,rfl,an,o,r4,aY.2 ⟨fun h3=>⟨i,rfl,an,ar,TG,aY.2 ⟨fun h2=>?_,fun h2=>⟨i,rfl,an,o,r,a,n,s,ar,bU,⟨o,r,a,n,s,ar⟩,⟨rfl,rfl⟩,?_⟩⟩⟩,fun h3=>⟨i,rfl,an,o,r,a,n,s,ar,bU,⟨o,r,a,n,s,ar⟩,⟨rfl,rfl⟩,?_⟩⟩⟩⟩
  ·rw[aN (.inr ⟨.inl (by simpa using h1),by simpa using h2⟩)]at hf;subst hf;exact⟨rfl,rfl⟩
  ·exact rest (by rintro(h|⟨_,h⟩);exact hF h;simp at h2;omega)
  ·rw[aN (.inr ⟨.inr (by simpa using h3),by simpa using h2⟩)]at hf;subst hf;exact⟨rfl,rfl⟩
  ·exact rest (by rintro(h|⟨_,h⟩);exact hF h;simp at h2;omega)
  ·exact rest (by rintro(h|⟨h|h,_⟩);exact hF h;simp at h1;exact h1 h;simp at h3;exact h3 h)
 ·have a8:p.l.length<=i:=by simpa using a8
  rw[dV a8]at hf;subst hf;exact⟨rfl,rfl⟩
theorem YO:bn Z P7:=by
 refine dc Gq ?_;rintro⟨p,base⟩ args H ⟨rfl,rfl,hp⟩;have hp:p.ok:=hp;have jG:=hp.2;refine eS Gq 1000 Aj 102 (by kernel_rfl) ?_;simp only[JE,gS];rw[ap3];have h3:¬(p.l.length:Int)>131072:=by omega
 refine aY.2 ⟨fun h=>?_,fun h=>aY.2 ⟨fun h2=>?_,fun h2=>aY.2 ⟨fun h4=>?_,fun _=>?_⟩⟩⟩
 ·have:kK p.l base=false:=by simp at h;simp[kK,h]
  rw[this];exact⟨rfl,rfl⟩
 ·have:kK p.l base=false:=by simp at h2;simp[kK,h2]
  rw[this];exact⟨rfl,rfl⟩
 ·simp at h4;omega
 ·have:kK p.l base=lP base [] p.l:=by simp at h h2;unfold kK;rw[az (by omega)]
  rw[this];exact ap2 hp (0,[]) ⟨by simp,rfl⟩
def fW(l:LI):AH:=aq [(0,.ay [.ae 1 l.length 1] 173),(1,aD l 3)] 2
def Ny(l:LI):AH:=aq [(0,.ay [.ae 2 l.length 1] 173),(1,.bJ []),(2,aD l 3)] 3
theorem EE{l m:LI}(h:fW l=fW m):l=m:=by have:=congrArg (fun H=>AH.bD H 1) h;simp only[fW,eA]at this;exact wa (dk this)
def jz(l:LI)(i j:Nat):LI:=(l.set i (l.getD j 0)).set j (l.getD i 0)
def adh:dP LI where
 bN l A H:=A=[.ae 0 l.length 1]∧H=cH l
 v l:=J (Int.ofNat l.length)
 aU l:=cH l
def adj:dP (LI×Nat×Nat)where
 bN w A H:=A=[.ae 0 w.1.length 1,J (w.2.1:Int),J (w.2.2:Int)]∧H=cH w.1∧w.2.1<w.1.length∧w.2.2<w.1.length
 v w:=.aA (decide (w.1.getD w.2.1 0<w.1.getD w.2.2 0))
 aU w:=cH w.1
def agB:dP (LI×Nat×Nat)where
 bN w A H:=A=[.ae 0 w.1.length 1,J (w.2.1:Int),J (w.2.2:Int)]∧H=cH w.1∧w.2.1<w.1.length∧w.2.2<w.1.length
 v w:=.aO []
 aU w:=cH (jz w.1 w.2.1 w.2.2)
def Wz:dP (LI×Int)where
 bN w A H:=A=[.ad 0 0,.e_ 3 (J w.2)]∧H=fW w.1∧w.1.length<60000
 v w:=.aO []
 aU w:=Ny (w.1++[w.2])
def Wu:dP (LI×Int)where
 bN w A H:=A=[.ad 0 0]∧H=fW (w.1++[w.2])∧w.1.length<60000
 v w:=.e_ 3 (J w.2)
 aU w:=fW w.1
theorem amZ:adh.dT:=by rintro l l' A H ⟨_,h⟩ ⟨_,h'⟩;rw[HN (h.symm.trans h')]
theorem acU{w w':LI×Nat×Nat}{A:LV}{H:AH}(h1:A=[.ae 0 w.1.length 1,J (w.2.1:Int),J (w.2.2:Int)])(h2:H=cH w.1)
 (k1:A=[.ae 0 w'.1.length 1,J (w'.2.1:Int),J (w'.2.2:Int)]) (k2:H=cH w'.1):w=w':=by
 obtain⟨l,i,j⟩:=w;obtain⟨l',i',j'⟩:=w';have e:=HN (h2.symm.trans k2);rw[h1]at k1;simp only[List.cons.injEq,AV.cM.injEq,true_and,and_true]at k1 e;have e1:i=i':=by omega
 have e2:j=j':=by omega
 rw[e,e1,e2]
theorem am0:adj.dT:=by rintro w w' A H ⟨h1,h2,_⟩ ⟨k1,k2,_⟩;rw[acU h1 h2 k1 k2]
theorem avq:agB.dT:=by rintro w w' A H ⟨h1,h2,_⟩ ⟨k1,k2,_⟩;rw[acU h1 h2 k1 k2]
theorem aoF:Wz.dT:=by rintro⟨l,x⟩ ⟨l',x'⟩ A H ⟨h1,h2,_⟩ ⟨k1,k2,_⟩;have e:=EE (h2.symm.trans k2);rw[h1]at k1;simp only[List.cons.injEq,AV.e_.injEq,AV.cM.injEq,true_and,and_true]at k1 e;rw[e,k1]
theorem aoA:Wu.dT:=by rintro⟨l,x⟩ ⟨l',x'⟩ A H ⟨h1,h2,_⟩ ⟨k1,k2,_⟩;have e:=EE (h2.symm.trans k2);have e2:=List.append_inj' e rfl;simp only[List.cons.injEq,and_true]at e2;rw[e2.1,e2.2]
def G1:Ev.bC:=cB 130 (cO adh amZ cV) P7
def G2:Ev.bC:=cB 164 (cO adj am0 cV) G1
def G3:Ev.bC:=cB 167 (cO agB avq cV) G2
def G4:Ev.bC:=cB 166 (cO Wz aoF cV) G3
def G5:Ev.bC:=cB 165 (cO Wu aoA cV) G4
theorem aq1(l:LI)(L:LT)(Q:QT):
 b_ Z P7 (fun _=>[]) L Q 1000 130 [.ae 0 l.length 1] (cH l)=(
 Q (J (Int.ofNat l.length)) (cH l)):=by kernel_rfl
theorem arD(l:LI)(i j:Int)(L:LT)(Q:QT):
 b_ Z G1 (fun _=>[]) L Q 1000 164 [.ae 0 l.length 1,J i,J j] (cH l)=(
 ∃aI:Nat,i=(aI:Int)∧aI<l.length∧(∃n:Int,bA Z 3 (aW l) (aI*1)=some (J n:AV)∧(∃bz:Nat,j=(bz:Int)∧bz<l.length∧(∃aP:Int,bA Z 3 (aW l) (bz*1)=some (J aP:AV)∧Q (.aA (decide (n<aP))) (cH l))))):=by kernel_rfl
theorem arG(l:LI)(i j:Int)(L:LT)(Q:QT):
 b_ Z G2 (fun _=>[]) L Q 1000 167 [.ae 0 l.length 1,J i,J j] (cH l)=(
 ∃aI:Nat,j=(aI:Int)∧aI<l.length∧(∃n:Int,bA Z 3 (aW l) (aI*1)=some (J n:AV)∧(∃bz:Nat,i=(bz:Int)∧bz<l.length∧(∃aP:Int,bA Z 3 (aW l) (bz*1)=some (J aP:AV)∧(∃cd:Nat,i=(cd:Int)∧cd<l.length∧cd*1+1<=(aW l).length∧(∃dt:Nat,j=(dt:Int)∧dt<l.length∧dt*1+1<=(fA (aW l) (cd*1) [J n]).length∧Q (.aO []) (aq [(0,.aL (fA (fA (aW l) (cd*1) [J n]) (dt*1) [J aP]) 3)] 1))))))):=by kernel_rfl
theorem arF(l:LI)(x:Int)(L:LT)(Q:QT):
 b_ Z G3 (fun _=>[]) L Q 1000 166 [.ad 0 0,.e_ 3 (J x)] (fW l)=(
 ((aW l).length=l.length*1∧l.length+1<=65536∧true=true∧true=true)∧Q (.aO []) (aq [(0,.ay [.ae 2 (l.length+1) 1] 173),(1,.bJ []),(2,.aL (aW l++[J x]) 3)] 3)):=by kernel_rfl
theorem arE(l:LI)(L:LT)(Q:QT):
 b_ Z G4 (fun _=>[]) L Q 1000 165 [.ad 0 0] (fW l)=(
 ∃i:Nat,wI (Int.ofNat l.length-1)=(i:Int)∧i<l.length∧(∃n:Int,bA Z 3 (aW l) (i*1)=some (J n:AV)∧1<=l.length∧(∃aI:Nat,wI (Int.ofNat l.length-1)=(aI:Int)∧(0<=aI∧aI<=l.length)∧Q (.e_ 3 (J n)) (aq [(0,.ay [.ae 1 (aI-0) 1] 173),(1,aD l 3)] 2)))):=by kernel_rfl
theorem axf{l:LI}{i:Nat}(h:i<l.length):bA Z 3 (aW l) (i*1)=some (J (l.getD i 0)):=ia h
theorem YT:bn Z G1:=by refine dc YO ?_;rintro l args H ⟨rfl,rfl⟩;refine eS YO 1000 (fun _=>[]) 5 (by kernel_rfl) ?_;rw[aq1];exact⟨rfl,rfl⟩
theorem YU:bn Z G2:=by refine dc YT ?_;rintro⟨l,i,j⟩ args H ⟨rfl,rfl,hi,hj⟩;refine eS YT 1000 (fun _=>[]) 16 (by kernel_rfl) ?_;rw[arD];exact⟨i,rfl,hi,_,ia hi,j,rfl,hj,_,ia hj,rfl,rfl⟩
theorem YV:bn Z G3:=by
 refine dc YU ?_;rintro⟨l,i,j⟩ args H ⟨rfl,rfl,hi,hj⟩;have hi:i<l.length:=hi;have hj:j<l.length:=hj;refine eS YU 1000 (fun _=>[]) 20 (by kernel_rfl) ?_;rw[arG];have e1:fA (aW l) (i*1) [J (l.getD j 0)]=aW (l.set i (l.getD j 0)):=by rw[Nat.mul_one];exact IW _ hi
 have e2:fA (aW (l.set i (l.getD j 0))) (j*1) [J (l.getD i 0)]=aW (jz l i j):=by rw[Nat.mul_one];exact IW _ (by simpa using hj)
 refine⟨j,rfl,hj,_,ia hj,i,rfl,hi,_,ia hi,i,rfl,hi,by show i*1+1<=(aW l).length;rw[qq];omega,j,rfl,hj,by rw[e1,qq,List.length_set];show j*1+1<=l.length;omega,rfl,?_⟩;rw[e1,e2];have:(jz l i j).length=l.length:=by simp[jz]
 rfl
theorem YW:bn Z G4:=by refine dc YV ?_;rintro⟨l,x⟩ args H ⟨rfl,rfl,hl⟩;have hl:l.length<60000:=hl;refine eS YV 1000 (fun _=>[]) 20 (by kernel_rfl) ?_;rw[arF];refine⟨⟨by rw[qq];omega,by omega,rfl,rfl⟩,rfl,?_⟩;simp only[Wz,Ny,aD,yV,bj];rfl
theorem Qh:bn Z G5:=by
 refine dc YW ?_;rintro⟨l,x⟩ args H ⟨rfl,rfl,hl⟩;have hl:l.length<60000:=hl;simp only[Wu];have bH:(l++[x]).length=l.length+1:=by simp
 have e:wI (Int.ofNat (l++[x]).length-1)=((l.length:Nat):Int):=by
  rw[bH];have e0:Int.ofNat (l.length+1)-1=(l.length:Int):=by simp
  rw[e0,dz (by omega) (by omega)]
 have hg:(l++[x]).getD l.length 0=x:=by simp[List.getD]
 have key:eC Z 165 [.ad 0 0] (fW (l++[x])) (.e_ 3 (J x)) (aq [(0,.ay [.ae 1 l.length 1] 173),(1,.aL (aW (l++[x])) 3)] 2):=by refine eS YW 1000 (fun _=>[]) 27 (by kernel_rfl) ?_;rw[arE];exact⟨l.length,e,by omega,x,by rw[ia (by omega),hg],by omega,l.length,e,⟨by omega,by omega⟩,rfl,rfl⟩
 have h2:=K' (g:=1) (new:=aD l 3) key rfl (fun φ e o h=>by
  have h3:=ahm (jB:=3) l.length h;have:(aW (l++[x])).take l.length=aW l:=by rw[yV,←qq l,List.take_left]
  rw[this]at h3;exact h3) rfl (eh 2)
 exact h2
def tD:Nat->LI->Nat->LI
 |0,l,_=>l
 |f+1,l,j=>if(j-1)/ 2=j∨¬l.getD j 0<l.getD ((j-1)/ 2) 0 then l else tD f (jz l ((j-1)/ 2) j) ((j-1)/ 2)
def o0:Nat->LI->Nat->Nat->LI×Nat
 |0,l,i,_=>(l,i)
 |f+1,l,i,n=>
  if 2*i+1>=n then(l,i)
  else
   let j:=if 2*i+2<n∧l.getD (2*i+2) 0<l.getD (2*i+1) 0 then 2*i+2 else 2*i+1
   if¬l.getD j 0<l.getD i 0 then(l,i)else o0 f (jz l i j) j n
def upX:dP (LI×Nat)where
 bN w A H:=A=[.e_ 172 (.ad 0 0),J (w.2:Int)]∧H=fW w.1∧w.2<w.1.length∧w.1.length<60000
 v w:=.aO []
 aU w:=fW (tD (w.2+1) w.1 w.2)
def aaF:dP (LI×Nat×Nat)where
 bN w A H:=A=[.e_ 172 (.ad 0 0),J (w.2.1:Int),J (w.2.2:Int)]∧H=fW w.1∧w.2.2<=w.1.length∧w.1.length<60000∧w.2.1<=w.2.2∧w.2.1<w.1.length
 v w:=.aA (decide ((o0 (w.2.2+1) w.1 w.2.1 w.2.2).2>w.2.1))
 aU w:=fW (o0 (w.2.2+1) w.1 w.2.1 w.2.2).1
def acD:dP (LI×Int)where
 bN w A H:=A=[.e_ 172 (.ad 0 0),.e_ 3 (J w.2)]∧H=fW w.1∧w.1.length<50000
 v w:=.aO []
 aU w:=Ny (tD (w.1.length+1) (w.1++[w.2]) w.1.length)
def mP(l:LI):LI:=(o0 l.length (jz l 0 (l.length-1)) 0 (l.length-1)).1
def acC:dP LI where
 bN l A H:=A=[.e_ 172 (.ad 0 0)]∧H=fW l∧0<l.length∧l.length<50000
 v l:=.e_ 3 (J ((mP l).getD (l.length-1) 0))
 aU l:=fW ((mP l).take (l.length-1))
theorem avE:upX.dT:=by
 rintro⟨l,j⟩ ⟨l',j'⟩ A H ⟨h1,h2,_⟩ ⟨k1,k2,_⟩;have e:=EE (h2.symm.trans k2);rw[h1]at k1;simp only[List.cons.injEq,AV.cM.injEq,true_and,and_true]at k1 e;have e1:j=j':=by omega
 rw[e,e1]
theorem ajc:aaF.dT:=by
 rintro⟨l,i,j⟩ ⟨l',i',j'⟩ A H ⟨h1,h2,_⟩ ⟨k1,k2,_⟩;have e:=EE (h2.symm.trans k2);rw[h1]at k1;simp only[List.cons.injEq,AV.cM.injEq,true_and,and_true]at k1 e;have e1:i=i':=by omega
 have e2:j=j':=by omega
 rw[e,e1,e2]
theorem alZ:acD.dT:=by rintro⟨l,x⟩ ⟨l',x'⟩ A H ⟨h1,h2,_⟩ ⟨k1,k2,_⟩;have e:=EE (h2.symm.trans k2);rw[h1]at k1;simp only[List.cons.injEq,AV.e_.injEq,AV.cM.injEq,true_and,and_true]at k1 e;rw[e,k1]
theorem alW:acC.dT:=by rintro l l' A H ⟨_,h2,_⟩ ⟨_,k2,_⟩;rw[EE (h2.symm.trans k2)]
def G6:Ev.bC:=cB 139 (cO upX avE cV) G5
def G7:Ev.bC:=cB 141 (cO aaF ajc cV) G6
def G8:Ev.bC:=cB 128 (cO acD alZ cV) G7
def G9:Ev.bC:=cB 131 (cO acC alW cV) G8
abbrev Oz x0:=bk [(0,.e_ 172 (.ad 0 0)),(1,J x0)]
theorem arf(l:LI)(j:Int)(L:LT)(Q:QT):
 b_ Z G5 (fun _=>[0,1]) L Q 1000 139 [.e_ 172 (.ad 0 0),J j] (fW l)=(
 L (Oz j) (fW l) (ao Z 139 0)):=by kernel_rfl
abbrev wZ x0 x1:=aq [(0,.ay [.ae 1 x0 1] 173),(1,aD x1 3)] 2
theorem arh(l:LI)(j:Int)(L:LT)(Q:QT):
 cT Z G5 (fun _=>[0,1]) L Q 1000 139 2 (Oz j) (ao Z 139 0) (fW l)=(
 ai (wI (Int.tdiv (wI (j-1)) 2)==j) (Q (.aO []) (fW l)) (∃w:LI×Nat×Nat,(([.ae 0 l.length 1,J j,J (wI (Int.tdiv (wI (j-1)) 2))]:LV)=[.ae 0 w.1.length 1,J ((w.2.1:Nat):Int),J ((w.2.2:Nat):Int)]∧cH l=cH w.1∧w.2.1<w.1.length∧w.2.2<w.1.length)∧ai (!decide (List.getD w.1 w.2.1 0<List.getD w.1 w.2.2 0)) (Q (.aO []) (wZ l.length w.1)) (∃ab:LI×Nat×Nat,(([.ae 0 l.length 1,J (wI (Int.tdiv (wI (j-1)) 2)),J j]:LV)=[.ae 0 ab.1.length 1,J ((ab.2.1:Nat):Int),J ((ab.2.2:Nat):Int)]∧cH w.1=cH ab.1∧ab.2.1<ab.1.length∧ab.2.2<ab.1.length)∧L (Oz (wI (Int.tdiv (wI (j-1)) 2))) (wZ l.length (jz ab.1 ab.2.1 ab.2.2)) (ao Z 139 0)))):=by kernel_rfl
abbrev AR x0 x1 x2:=bk [(0,.e_ 172 (.ad 0 0)),(1,J x0),(2,J x1),(7,J x2)]
theorem arq(l:LI)(i n:Int)(L:LT)(Q:QT):
 b_ Z G6 (fun _=>[0,1,2,7]) L Q 1000 141 [.e_ 172 (.ad 0 0),J i,J n] (fW l)=(
 L (AR i n i) (fW l) (ao Z 141 0)):=by kernel_rfl
theorem ars(l:LI)(i0 i n:Int)(L:LT)(Q:QT):
 cT Z G6 (fun _=>[0,1,2,7]) L Q 1000 141 2 (AR i0 n i) (ao Z 141 0) (fW l)=(
 ai (decide (wI (wI (2*i)+1)>=n)) (Q (.aA (decide (i>i0))) (fW l)) (ai (decide (wI (wI (2*i)+1)<0)) (Q (.aA (decide (i>i0))) (fW l)) (ai (decide (wI (wI (wI (2*i)+1)+1)<n)) (∃w:LI×Nat×Nat,(([.ae 0 l.length 1,J (wI (wI (wI (2*i)+1)+1)),J (wI (wI (2*i)+1))]:LV)=[.ae 0 w.1.length 1,J ((w.2.1:Nat):Int),J ((w.2.2:Nat):Int)]∧cH l=cH w.1∧w.2.1<w.1.length∧w.2.2<w.1.length)∧ai (decide (List.getD w.1 w.2.1 0<List.getD w.1 w.2.2 0)) (∃ab:LI×Nat×Nat,(([.ae 0 l.length 1,J (wI (wI (wI (2*i)+1)+1)),J i]:LV)=[.ae 0 ab.1.length 1,J ((ab.2.1:Nat):Int),J ((ab.2.2:Nat):Int)]∧cH w.1=cH ab.1∧ab.2.1<ab.1.length∧ab.2.2<ab.1.length)∧ai (!decide (List.getD ab.1 ab.2.1 0<List.getD ab.1 ab.2.2 0)) (Q (.aA (decide (i>i0))) (wZ l.length ab.1)) (∃aJ:LI×Nat×Nat,(([.ae 0 l.length 1,J i,J (wI (wI (wI (2*i)+1)+1))]:LV)=[.ae 0 aJ.1.length 1,J ((aJ.2.1:Nat):Int),J ((aJ.2.2:Nat):Int)]∧cH ab.1=cH aJ.1∧aJ.2.1<aJ.1.length∧aJ.2.2<aJ.1.length)∧L (AR i0 n (wI (wI (wI (2*i)+1)+1))) (wZ l.length (jz aJ.1 aJ.2.1 aJ.2.2)) (ao Z 141 0))) (∃ab:LI×Nat×Nat,(([.ae 0 l.length 1,J (wI (wI (2*i)+1)),J i]:LV)=[.ae 0 ab.1.length 1,J ((ab.2.1:Nat):Int),J ((ab.2.2:Nat):Int)]∧cH w.1=cH ab.1∧ab.2.1<ab.1.length∧ab.2.2<ab.1.length)∧ai (!decide (List.getD ab.1 ab.2.1 0<List.getD ab.1 ab.2.2 0)) (Q (.aA (decide (i>i0))) (wZ l.length ab.1)) (∃aJ:LI×Nat×Nat,(([.ae 0 l.length 1,J i,J (wI (wI (2*i)+1))]:LV)=[.ae 0 aJ.1.length 1,J ((aJ.2.1:Nat):Int),J ((aJ.2.2:Nat):Int)]∧cH ab.1=cH aJ.1∧aJ.2.1<aJ.1.length∧aJ.2.2<aJ.1.length)∧L (AR i0 n (wI (wI (2*i)+1))) (wZ l.length (jz aJ.1 aJ.2.1 aJ.2.2)) (ao Z 141 0)))) (∃w:LI×Nat×Nat,(([.ae 0 l.length 1,J (wI (wI (2*i)+1)),J i]:LV)=[.ae 0 w.1.length 1,J ((w.2.1:Nat):Int),J ((w.2.2:Nat):Int)]∧cH l=cH w.1∧w.2.1<w.1.length∧w.2.2<w.1.length)∧ai (!decide (List.getD w.1 w.2.1 0<List.getD w.1 w.2.2 0)) (Q (.aA (decide (i>i0))) (wZ l.length w.1)) (∃ab:LI×Nat×Nat,(([.ae 0 l.length 1,J i,J (wI (wI (2*i)+1))]:LV)=[.ae 0 ab.1.length 1,J ((ab.2.1:Nat):Int),J ((ab.2.2:Nat):Int)]∧cH w.1=cH ab.1∧ab.2.1<ab.1.length∧ab.2.2<ab.1.length)∧L (AR i0 n (wI (wI (2*i)+1))) (wZ l.length (jz ab.1 ab.2.1 ab.2.2)) (ao Z 141 0)))))):=by kernel_rfl
theorem aqV(l:LI)(x:Int)(L:LT)(Q:QT):
 b_ Z G7 (fun _=>[]) L Q 1000 128 [.e_ 172 (.ad 0 0),.e_ 3 (J x)] (fW l)=(
 ∃w:LI×Int,(([.ad 0 0,.e_ 3 (J x)]:LV)=[.ad 0 0,.e_ 3 (J w.2)]∧fW l=fW w.1∧w.1.length<60000)∧(∃ab:LI,(([.ae 0 (w.1++[w.2]).length 1]:LV)=[.ae 0 ab.length 1]∧cH (w.1++[w.2])=cH ab)∧(∃aJ:LI×Nat,(([.e_ 172 (.ad 0 0),J (wI (Int.ofNat ab.length-1))]:LV)=[.e_ 172 (.ad 0 0),J ((aJ.2:Nat):Int)]∧wZ (w.1++[w.2]).length ab=fW aJ.1∧aJ.2<aJ.1.length∧aJ.1.length<60000)∧Q (.aO []) (Ny (tD (aJ.2+1) aJ.1 aJ.2))))):=by kernel_rfl
theorem aq2(l:LI)(L:LT)(Q:QT):
 b_ Z G8 (fun _=>[]) L Q 1000 131 [.e_ 172 (.ad 0 0)] (fW l)=(
 ∃w:LI,(([.ae 0 l.length 1]:LV)=[.ae 0 w.length 1]∧cH l=cH w)∧(∃ab:LI×Nat×Nat,(([.ae 0 l.length 1,J 0,J (wI (Int.ofNat w.length-1))]:LV)=[.ae 0 ab.1.length 1,J ((ab.2.1:Nat):Int),J ((ab.2.2:Nat):Int)]∧cH w=cH ab.1∧ab.2.1<ab.1.length∧ab.2.2<ab.1.length)∧(∃aJ:LI×Nat×Nat,(([.e_ 172 (.ad 0 0),J 0,J (wI (Int.ofNat w.length-1))]:LV)=[.e_ 172 (.ad 0 0),J ((aJ.2.1:Nat):Int),J ((aJ.2.2:Nat):Int)]∧wZ l.length (jz ab.1 ab.2.1 ab.2.2)=fW aJ.1∧aJ.2.2<=aJ.1.length∧aJ.1.length<60000∧aJ.2.1<=aJ.2.2∧aJ.2.1<aJ.1.length)∧(∃cU:LI×Int,(([.ad 0 0]:LV)=[.ad 0 0]∧fW (o0 (aJ.2.2+1) aJ.1 aJ.2.1 aJ.2.2).1=fW (cU.1++[cU.2])∧cU.1.length<60000)∧Q (.e_ 3 (J cU.2)) (fW cU.1))))):=by kernel_rfl
theorem pq(l:LI)(i j:Nat):(jz l i j).length=l.length:=by simp[jz]
theorem aod{j:Nat}(h:j<60000):wI (Int.tdiv (wI ((j:Int)-1)) 2)=(((j-1)/ 2:Nat):Int):=by
 cases j with
 |zero=>rfl
 |succ j=>
  have e0:((j+1:Nat):Int)-1=(j:Int):=by simp
  rw[e0,dz (x:=(j:Int)) (by omega) (by omega),Int.tdiv_eq_ediv_of_nonneg (by omega)];have e1:((j:Int)/ 2)=((j / 2:Nat):Int):=by simp
  rw[e1,dz (by omega) (by omega)];simp
theorem XH:∀(f:Nat) (l:LI) (j:Nat),(tD f l j).length=l.length
 |0,l,j=>rfl
 |f+1,l,j=>by
  unfold tD;split
  ·rfl
  ·rw[XH f,pq]
theorem are{aw:LI}:∀p:Nat×LI×Nat,(p.2.2<p.1∧p.2.2<p.2.1.length∧p.2.1.length<60000∧tD p.1 p.2.1 p.2.2=aw)->
 bF Z 139 23 2 (.aO []) (fW aw) (Oz (p.2.2:Int)) (fW p.2.1) (ao Z 139 0):=by
 refine cX (fun p=>p.1) _ _ _ _ ?_;rintro⟨f,l,j⟩ ⟨h1,h2,h3,hf⟩ ih;simp only at h1 h2 h3 hf ih⊢;obtain⟨f,rfl⟩:∃g,f=g+1:=⟨f-1,by omega⟩;refine hD Qh 1000 (fun _=>[0,1]) (by kernel_rfl) ?_;rw[arh,aod (by omega)];unfold tD at hf;refine aY.2 ⟨fun h=>?_,fun h=>?_⟩
 ·rw[aN (.inl (by simp at h;omega))]at hf;subst hf;exact⟨rfl,rfl⟩
 have h:¬(j-1)/ 2=j:=by simp at h;omega
 have hp:(j-1)/ 2<l.length:=by omega
 refine⟨(l,j,(j-1)/ 2),⟨rfl,rfl,h2,hp⟩,aY.2 ⟨fun h4=>?_,fun h4=>?_⟩⟩
 ·rw[aN (.inr (by simpa using h4))]at hf;subst hf;exact⟨rfl,rfl⟩
 ·have h6:l.getD j 0<l.getD ((j-1)/ 2) 0:=by simpa using h4
  rw[az (by rintro(h5|h5);exact h h5;exact h5 h6)]at hf;refine⟨(l,(j-1)/ 2,j),⟨rfl,rfl,hp,h2⟩,?_⟩;have next:=ih (f,jz l ((j-1)/ 2) j,(j-1)/ 2) ⟨by simp;omega,by simp only[pq];exact hp,by simp only[pq];exact h3,hf⟩ (by simp)
  simp only[fW,pq]at next
  exact next
theorem Qi:bn Z G6:=by refine dc Qh ?_;rintro⟨l,j⟩ args H ⟨rfl,rfl,h1,h2⟩;refine eS Qh 1000 (fun _=>[0,1]) 23 (by kernel_rfl) ?_;rw[arf];exact are (j+1,l,j) ⟨by simp,h1,h2,rfl⟩
theorem RY:∀(f:Nat) (l:LI) (i n:Nat),(o0 f l i n).1.length=l.length
 |0,l,i,n=>rfl
 |f+1,l,i,n=>by
  unfold o0;split
  ·rfl
  ·dsimp only;generalize (if 2*i+2<n∧l.getD (2*i+2) 0<l.getD (2*i+1) 0 then 2*i+2 else 2*i+1)=j;split
   ·rfl
   ·rw[RY f,pq]
theorem w2{i:Nat}(h:i<100000):wI (wI (2*(i:Int))+1)=((2*i+1:Nat):Int):=by rw[dz (x:=2*(i:Int)) (by omega) (by omega),dz (by omega) (by omega)];simp
theorem w3{i:Nat}(h:i<100000):wI (((2*i+1:Nat):Int)+1)=((2*i+2:Nat):Int):=by rw[dz (by omega) (by omega)];simp;omega
theorem arp{i0 n:Nat}{aw:LI×Nat}:∀p:Nat×LI×Nat,(n<p.1+p.2.2+1∧n<=p.2.1.length∧p.2.1.length<60000∧p.2.2<=n∧p.2.2<p.2.1.length∧o0 p.1 p.2.1 p.2.2 n=aw)->
 bF Z 141 48 2 (.aA (decide (aw.2>i0))) (fW aw.1) (AR (i0:Int) (n:Int) (p.2.2:Int)) (fW p.2.1) (ao Z 141 0):=by
 refine cX (fun p=>p.1) _ _ _ _ ?_;rintro⟨f,l,i⟩ ⟨h0,h1,h2,h3,h3',hf⟩ ih;simp only at h0 h1 h2 h3 h3' hf ih⊢;refine hD Qi 1000 (fun _=>[0,1,2,7]) (by kernel_rfl) ?_;rw[ars,w2 (by omega),w3 (by omega)];have abi:(l,i)=aw->iI (.aA (decide (aw.2>i0))) (fW aw.1) (.aA (decide ((i:Int)>(i0:Int)))) (fW l):=by rintro rfl;exact⟨by simp,rfl⟩
 have BR:2*i+1>=n->(l,i)=aw:=by
  intro h;cases f with
  |zero=>exact hf
  |succ f=>unfold o0 at hf;rwa[aN h]at hf
 refine aY.2 ⟨fun h=>abi (BR (by simp at h;omega)),fun h=>?_⟩;have h:2*i+1<n:=by simp at h;omega
 refine aY.2 ⟨fun h=>(by simp at h;omega),fun _=>?_⟩;obtain⟨f,rfl⟩:∃g,f=g+1:=⟨f-1,by omega⟩;unfold o0 at hf;rw[az (by omega)]at hf;have next:∀j,2*i+1<=j->j<n->o0 f (jz l i j) j n=aw->bF Z 141 48 2 (.aA (decide (aw.2>i0))) (fW aw.1) (AR (i0:Int) (n:Int) (j:Int)) (aq [(0,.ay [.ae 1 l.length 1] 173),(1,.aL (aW (jz l i j)) 3)] 2) (ao Z 141 0):=by intro j g1 g2 g3;have nx:=ih (f,jz l i j,j) ⟨by simp;omega,by simp only[pq];exact h1,by simp only[pq];exact h2,by simp;omega,by simp only[pq];omega,g3⟩ (by simp);simp only[fW,pq]at nx⊢;exact nx
 have OO:∀j,2*i+1<=j->j<n->(if¬l.getD j 0<l.getD i 0 then(l,i)else o0 f (jz l i j) j n)=aw->
  ∃ab:LI×Nat×Nat,((([.ae 0 l.length 1,J (j:Int),J (i:Int)]:LV)=[.ae 0 ab.1.length 1,J (ab.2.1:Int),J (ab.2.2:Int)])∧(aq [(0,.aL (aW l) 3)] 1=cH ab.1)∧ab.2.1<ab.1.length∧ab.2.2<ab.1.length)∧
   ai (!(decide (ab.1.getD ab.2.1 0<ab.1.getD ab.2.2 0)))
    (iI (.aA (decide (aw.2>i0))) (fW aw.1) (.aA (decide ((i:Int)>(i0:Int)))) (aq [(0,.ay [.ae 1 l.length 1] 173),(1,.aL (aW ab.1) 3)] 2))
    (∃aJ:LI×Nat×Nat,((([.ae 0 l.length 1,J (i:Int),J (j:Int)]:LV)=[.ae 0 aJ.1.length 1,J (aJ.2.1:Int),J (aJ.2.2:Int)])∧(aq [(0,.aL (aW ab.1) 3)] 1=cH aJ.1)∧aJ.2.1<aJ.1.length∧aJ.2.2<aJ.1.length)∧
      bF Z 141 48 2 (.aA (decide (aw.2>i0))) (fW aw.1) (AR (i0:Int) (n:Int) (j:Int)) (aq [(0,.ay [.ae 1 l.length 1] 173),(1,.aL (aW (jz aJ.1 aJ.2.1 aJ.2.2)) 3)] 2) (ao Z 141 0)):=by
  intro j g1 g2 g3;have hj:j<l.length:=by omega
  have hi:i<l.length:=by omega
  refine⟨(l,j,i),⟨rfl,rfl,hj,hi⟩,aY.2 ⟨fun h5=>?_,fun h5=>?_⟩⟩
  ·rw[aN (by simpa using h5)]at g3;exact abi g3
  ·have h6:l.getD j 0<l.getD i 0:=by simpa using h5
   rw[az (fun h7=>h7 h6)]at g3;exact⟨(l,i,j),⟨rfl,rfl,hi,hj⟩,next j g1 g2 g3⟩
 refine aY.2 ⟨fun h4=>?_,fun h4=>?_⟩
 ·have h4:2*i+2<n:=by simp at h4;omega
  refine⟨(l,2*i+2,2*i+1),⟨rfl,rfl,by show 2*i+2<l.length;omega,by show 2*i+1<l.length;omega⟩,aY.2 ⟨fun h5=>?_,fun h5=>?_⟩⟩
  ·have h5:l.getD (2*i+2) 0<l.getD (2*i+1) 0:=by simpa using h5
   simp only[aN (And.intro h4 h5)]at hf;exact OO (2*i+2) (by omega) h4 hf
  ·have h5:¬l.getD (2*i+2) 0<l.getD (2*i+1) 0:=by simpa using h5
   simp only[az (fun h:2*i+2<n∧l.getD (2*i+2) 0<l.getD (2*i+1) 0=>h5 h.2)]at hf;exact OO (2*i+1) (by omega) h hf
 ·have h4:¬2*i+2<n:=by simp at h4;omega
  simp only[az (fun h:2*i+2<n∧l.getD (2*i+2) 0<l.getD (2*i+1) 0=>h4 h.1)]at hf;exact OO (2*i+1) (by omega) h hf
theorem YX:bn Z G7:=by refine dc Qi ?_;rintro⟨l,i,n⟩ args H ⟨rfl,rfl,h1,h2,h3,h4⟩;refine eS Qi 1000 (fun _=>[0,1,2,7]) 48 (by kernel_rfl) ?_;rw[arq];exact arp (n+1,l,i) ⟨by simp;omega,h1,h2,h3,h4,rfl⟩
theorem YY:bn Z G8:=by
 refine dc YX ?_;rintro⟨l,x⟩ args H ⟨rfl,rfl,hl⟩;have hl:l.length<50000:=hl;refine eS YX 1000 (fun _=>[]) 12 (by kernel_rfl) ?_;rw[aqV];have bH:(l++[x]).length=l.length+1:=by simp
 have e:wI (Int.ofNat (l++[x]).length-1)=((l.length:Nat):Int):=by
  rw[bH];have e0:Int.ofNat (l.length+1)-1=(l.length:Int):=by simp
  rw[e0,dz (by omega) (by omega)]
 exact⟨(l,x),⟨rfl,rfl,by show l.length<60000;omega⟩,l++[x],⟨rfl,rfl⟩,(l++[x],l.length),⟨by rw[e],rfl,by simp,by simp;omega⟩,rfl,rfl⟩
theorem adb{l:LI}(h:0<l.length):l=l.take (l.length-1)++[l.getD (l.length-1) 0]:=by
 have h1:l.length-1<l.length:=by omega
 have:l.drop (l.length-1)=[l.getD (l.length-1) 0]:=by rw[dv h1,dV (by omega)];simp[List.getD,jN h1]
 rw[←this,uI]
theorem Kb:bn Z G9:=by
 refine dc YY ?_;rintro l args H ⟨rfl,rfl,h0,hl⟩;refine eS YY 1000 (fun _=>[]) 15 (by kernel_rfl) ?_;rw[aq2];have e:wI (Int.ofNat l.length-1)=((l.length-1:Nat):Int):=by
  have e0:Int.ofNat l.length-1=((l.length-1:Nat):Int):=by simp;omega
  rw[e0,dz (by omega) (by omega)]
 have jG:(mP l).length=l.length:=by rw[mP,RY,pq]
 have hs:=adb (l:=mP l) (by omega);rw[jG]at hs;have hf:(o0 (l.length-1+1) (jz l 0 (l.length-1)) 0 (l.length-1)).1=mP l:=by rw[mP];congr 2;omega
 refine⟨l,⟨rfl,rfl⟩,(l,0,l.length-1),⟨by rw[e];rfl,rfl,h0,by show l.length-1<l.length;omega⟩,(jz l 0 (l.length-1),0,l.length-1),
  ⟨by rw[e];rfl,by simp only[fW,pq],by simp only[pq];omega,by simp only[pq];omega,by simp,by simp only[pq];exact h0⟩,
  ((mP l).take (l.length-1),(mP l).getD (l.length-1) 0),⟨rfl,?_,by simp;omega⟩,rfl,rfl⟩
 simp only[hf];rw[←hs]
def gT(m:LP):bc:=.bM (bK J 0 m) m.length true
def xp(base k:Int)(m:LP)(r:Int):LP:=if r>base then up r k m else m
def vQ(base:Int):Nat->LP->bS->LP
 |_,m,[]=>m
 |k,m,i::l=>vQ base (k+1) ((cf i++b8 i).foldl (xp base k) m) l
abbrev yl x0 x1:=aq [(0,.aL x0 50),(1,gT x1)] 2
def Vn:dP (ie×Int)where
 bN w A H:=A=[.bB 0 w.1.gq w.1.l.length 0 6 false,J w.2]∧H=gS w.1∧w.1.ok
 v w:=.aS 1
 aU w:=yl w.1.cs (vQ w.2 0 [] w.1.l)
theorem amP:Vn.dT:=by rintro w w' A H ⟨h1,h2,h3⟩ ⟨k1,k2,k3⟩;rw[FL h1 h2 h3 k1 k2 k3]
def Qb:Ev.bC:=cB 126 (cO Vn amP cV) G9
def Ft:Nat->LN:=nk [(3,[1,5,11,12,13]),(6,[1,5,6,11,12,13,22,23,24])]
def fK(r:Int)(m:LP):Int:=(lk r m).getD 0
def Bw(cw:LI)(cA:LP)(use:Int):AH:=aq [(0,.ay [.ad 3 0] 172),(1,.ay [.aS 4] 137),(2,.ay [J use] 3),(3,.ay [.ae 5 cw.length 1] 173),(4,gT cA),(5,aD cw 3)] 6
def aed(cw:LI)(cA:LP)(use:Int):AH:=aq [(0,.ay [.ad 3 0] 172),(1,.ay [.aS 4] 137),(2,.ay [J use] 3),(3,.ay [.ae 6 cw.length 1] 173),(4,gT cA),(5,.bJ []),(6,aD cw 3)] 7
def tw(l:LI)(x:Int):LI:=tD (l.length+1) (l++[x]) l.length
def afl:dP (LI×LP×Int×Int)where
 bN w A H:=A=[J w.2.2.2,.ad 0 0,.ad 1 0,.ad 2 0]∧H=Bw w.1 w.2.1 w.2.2.1∧w.1.length<50000
 v w:=.aO []
 aU w:=aed (tw w.1 (fK w.2.2.2 w.2.1)) w.2.1 (wI (w.2.2.1-1))
theorem apd:afl.dT:=by
 rintro⟨f,m,u,r⟩ ⟨f',m',u',r'⟩ A H ⟨h1,h2,_⟩ ⟨k1,k2,_⟩;have e:=h2.symm.trans k2;rw[h1]at k1;simp only[List.cons.injEq,AV.cM.injEq,true_and,and_true]at k1;have q:=fun i=>congrArg (fun H=>AH.bD H i) e
 simp only[Bw,eA]at q;have e1:=wa (dk (q 5));have e2:=(bc.bM.inj (dk (q 4))).1;have e3:=(bc.ay.inj (dk (q 2))).1;simp only[List.cons.injEq,AV.cM.injEq,true_and,and_true]at e3;rw[k1,e1,rR xJ e2,e3]
def J_:Ev.bC:=cB 127 (cO afl apd cV) Qb
def pQ(m:LP)(r:Int):Int:=(lk r m).getD r
def p9(i:ba)(cA:LP):AH:=aq [(0,n6 i),(1,.ay [.aS 2] 137),(2,gT cA)] 3
def aaj:LV->AH->Option Sp
 |[.ad 0 (.succ 0),.ad 1 0],H=>some (.ex (ba×LP) (fun w=>(H=p9 w.1 w.2,.aO [],p9 ⟨w.1.op,pQ w.2 w.1.r,w.1.a,w.1.n,w.1.cR,w.1.ar⟩ w.2)) (fun w w' h1 h2=>by
   have e:=h1.symm.trans h2;have q:=fun i=>congrArg (fun H=>AH.bD H i) e
   simp only[p9,eA]at q;have e0:=Bm (bc.ay.inj (dk (q 0))).1;have e2:=rR xJ (bc.bM.inj (dk (q 2))).1;rw[e0,e2]))
 |[.ad 0 (.succ (.succ 0)),.ad 1 0],H=>some (.ex (ba×LP) (fun w=>(H=p9 w.1 w.2,.aO [],p9 ⟨w.1.op,w.1.r,pQ w.2 w.1.a,w.1.n,w.1.cR,w.1.ar⟩ w.2)) (fun w w' h1 h2=>by
   have e:=h1.symm.trans h2;have q:=fun i=>congrArg (fun H=>AH.bD H i) e
   simp only[p9,eA]at q;have e0:=Bm (bc.ay.inj (dk (q 0))).1;have e2:=rR xJ (bc.bM.inj (dk (q 2))).1;rw[e0,e2]))
 |_,_=>none
def A8:Ev.bC:=cB 132 aaj J_
abbrev Jp x0 x1 x2 x3 x4:=bk [(1,J x0),(5,.aS 1),(11,.bB 0 x1 x2 0 6 x3),(12,J (Int.ofNat x2)),(13,J x4)]
theorem aqS(cs:LV)(off len:Nat)(base:Int)(L:LT)(Q:QT):
 b_ Z G9 Ft L Q 1000 126 [.bB 0 off len 0 6 false,J base] (aq [(0,.aL cs 50)] 1)=(
 L (Jp base off len false 0) (aq [(0,.aL cs 50),(1,.bM [] 0 true)] 2) (ao Z 126 0)):=by kernel_rfl
abbrev F6 x0 x1 x2 x3 x4 x5 x6 x7:=bk [(1,J x0),(5,.aS 1),(6,J x1),(11,.bB 0 x2 x3 0 6 x4),(12,J (Int.ofNat x3)),(13,J x5),(22,.ae 2 x6 1),(23,J (Int.ofNat x6)),(24,J x7)]
theorem aqT(cs:LV)(off len:Nat)(base i:Int)(m:LP)(L:LT)(Q:QT):
 cT Z G9 Ft L Q 1000 126 1 (Jp base off len false i) (ao Z 126 0) (yl cs m)=(
 ai (decide (i<Int.ofNat len)) (∃aI:Nat,i=(aI:Int)∧aI<len∧(∃n:Int,∃aP:Int,∃bp:Int,∃bI:Int,∃s:LN,∃cS:Int,bA Z 50 cs (off+aI*6)=some (.aj [J n,J aP,J bp,J bI,.aa s,J cS]:AV)∧(∃w:ba,(([.aj [J n,J aP,J bp,J bI,.aa s,J cS]]:LV)=[.aj (bP w)]∧aq [] 0=ax)∧some (.aj [J n,J aP,J bp,J bI,.aa s,J cS]:AV)=some (.aj [J n,J aP,J bp,J bI,.aa s,J cS]:AV)∧(∃ab:ba,(([.aj [J n,J aP,J bp,J bI,.aa s,J cS]]:LV)=[.aj (bP ab)]∧aq [] 0=ax)∧(aW (b8 ab)).length=(b8 ab).length*1∧((b8 ab).length=0->(cf w).length<=65536∧L (F6 base i off len false i (cf w).length 0) (aq [(0,.aL cs 50),(1,gT m),(2,aD (cf w) 3)] 3) (ao Z 126 1))∧(1<=(b8 ab).length->((aW (cf w)).length=(cf w).length*1∧(cf w).length+(b8 ab).length<=65536∧List.all (aW (b8 ab)) AV.ec=true∧List.all (aW (b8 ab)) je=true)∧L (F6 base i off len false i ((cf w).length+(b8 ab).length) 0) (aq [(0,.aL cs 50),(1,gT m),(2,.aL (aW (cf w)++aW (b8 ab)) 3)] 3) (ao Z 126 1)))))) (Q (.aS 1) (yl cs m))):=by kernel_rfl
theorem aqQ(cs:LV)(off len:Nat)(base i k j:Int)(m:LP)(rs:LI)(L:LT)(Q:QT):
 cT Z G9 Ft L Q 1000 126 1 (F6 base k off len false i rs.length j) (ao Z 126 1) (aq [(0,.aL cs 50),(1,gT m),(2,aD rs 3)] 3)=(
 ai (decide (j<Int.ofNat rs.length)) (∃aI:Nat,j=(aI:Int)∧aI<rs.length∧(∃n:Int,bA Z 3 (aW rs) (aI*1)=some (J n:AV)∧ai (decide (n>base)) (∃bQ:List (AV×AV×Nat),∃c':Nat,lN Z 3 (bK J 0 m) m.length (J n) (J k)=some (bQ,c')∧L (F6 base k off len false i rs.length (wI (j+1))) (aq [(0,.aL cs 50),(1,.bM bQ c' true),(2,aD rs 3)] 3) (ao Z 126 1)) (L (F6 base k off len false i rs.length (wI (j+1))) (aq [(0,.aL cs 50),(1,gT m),(2,aD rs 3)] 3) (ao Z 126 1)))) (L (Jp base off len false (wI (i+1))) (yl cs m) (ao Z 126 0))):=by kernel_rfl
theorem aqU(cw:LI)(cA:LP)(use r:Int)(L:LT)(Q:QT):
 b_ Z Qb (fun _=>[]) L Q 1000 127 [J r,.ad 0 0,.ad 1 0,.ad 2 0] (Bw cw cA use)=(
 ∃n:Int,∃b:Bool,gf Z 3 3 (bK J 0 cA) (J r)=some (J n,b)∧(∃w:LI×Int,(([.e_ 172 (.ad 0 0),.e_ 3 (J n)]:LV)=[.e_ 172 (.ad 0 0),.e_ 3 (J w.2)]∧fW cw=fW w.1∧w.1.length<50000)∧Q (.aO []) (aed (tD (w.1.length+1) (w.1++[w.2]) w.1.length) cA (wI (use-1))))):=by kernel_rfl
theorem aq3(i:ba)(cA:LP)(L:LT)(Q:QT):
 b_ Z J_ (fun _=>[]) L Q 1000 132 [.ad 0 1,.ad 1 0] (p9 i cA)=(
 ∃n:Int,∃b:Bool,gf Z 3 3 (bK J 0 cA) (J i.r)=some (J n,b)∧ai b (Q (.aO []) (aq [(0,.ay [J i.op,J n,J i.a,J i.n,.aa i.cR,J i.ar] 50),(1,.ay [.aS 2] 137),(2,gT cA)] 3)) (Q (.aO []) (p9 i cA))):=by kernel_rfl
theorem aq4(i:ba)(cA:LP)(L:LT)(Q:QT):
 b_ Z J_ (fun _=>[]) L Q 1000 132 [.ad 0 2,.ad 1 0] (p9 i cA)=(
 ∃n:Int,∃b:Bool,gf Z 3 3 (bK J 0 cA) (J i.a)=some (J n,b)∧ai b (Q (.aO []) (aq [(0,.ay [J i.op,J i.r,J n,J i.n,.aa i.cR,J i.ar] 50),(1,.ay [.aS 2] 137),(2,gT cA)] 3)) (Q (.aO []) (p9 i cA))):=by kernel_rfl
theorem Cn(m:LP)(r:Int):∃n:Int,∃b:Bool,gf Z 3 3 (bK J 0 m) (J r)=some (J n,b)∧n=fK r m∧(b=true->lk r m=some n)∧(b=false->lk r m=none):=by
 rw[qj _ yh];unfold fK;cases lk r m with
 |none=>exact⟨0,false,by rw[Dd];rfl,rfl,fun h=>(by cases h),fun _=>rfl⟩
 |some n=>exact⟨n,true,rfl,rfl,fun _=>rfl,fun h=>(by cases h)⟩
theorem afQ{cs:LV}{off len:Nat}{base i:Int}{k:Nat}{m0 aw:LP}{rs:LI}(hr:rs.length<20000)
 (next:bF Z 126 37 1 (.aS 1) (yl cs aw) (Jp base off len false (wI (i+1))) (yl cs (rs.foldl (xp base k) m0)) (ao Z 126 0)):
 ∀p:Nat×LP,(p.1<=rs.length∧(rs.drop p.1).foldl (xp base k) p.2=rs.foldl (xp base k) m0)->
 bF Z 126 37 1 (.aS 1) (yl cs aw) (F6 base (k:Int) off len false i rs.length (p.1:Int)) (aq [(0,.aL cs 50),(1,gT p.2),(2,aD rs 3)] 3) (ao Z 126 1):=by
 refine cX (fun p=>rs.length-p.1) _ _ _ _ ?_;rintro⟨j,m⟩ ⟨hj,hf⟩ ih;simp only at hj hf ih⊢;refine hD Kb 1000 Ft (by kernel_rfl) ?_;rw[aqQ];refine aY.2 ⟨fun an=>?_,fun a8=>?_⟩
 ·have an:j<rs.length:=by simpa using an
  rw[dv an,ik]at hf;have hg:rs.getD j 0=rs[j]:=by simp[List.getD,jN an]
  refine⟨j,rfl,an,rs[j],by rw[ia an,hg],?_⟩;rw[fE an (by omega)];refine aY.2 ⟨fun h=>?_,fun h=>?_⟩
  ·have h:rs[j]>base:=by simpa using h
   rw[xp,aN h]at hf;exact⟨_,_,pj J yh,ih (j+1,up rs[j] k m) ⟨by simp;omega,hf⟩ (by simp;omega)⟩
  ·have h:¬rs[j]>base:=by simpa using h
   rw[xp,az h]at hf;exact ih (j+1,m) ⟨by simp;omega,hf⟩ (by simp;omega)
 ·have a8:rs.length<=j:=by simpa using a8
  rw[dV a8]at hf;have hf:m=rs.foldl (xp base k) m0:=hf;rw[hf];exact next
theorem aqR{p:ie}{base:Int}{aw:LP}(hp:p.ok):
 ∀q:Nat×LP,(q.1<=p.l.length∧vQ base q.1 q.2 (p.l.drop q.1)=aw)->
 bF Z 126 37 1 (.aS 1) (yl p.cs aw) (Jp base p.gq p.l.length false (q.1:Int)) (yl p.cs q.2) (ao Z 126 0):=by
 refine cX (fun q=>p.l.length-q.1) _ _ _ _ ?_;rintro⟨i,m⟩ ⟨hi,hf⟩ ih;simp only at hi hf ih⊢;have jG:=hp.2;refine hD Kb 1000 Ft (by kernel_rfl) ?_;rw[aqT];refine aY.2 ⟨fun an=>?_,fun a8=>?_⟩
 ·have an:i<p.l.length:=by simpa using an
  have bU:=p.get hp an;rw[dv an,vQ]at hf;have next:=ih (i+1,(cf p.l[i]++b8 p.l[i]).foldl (xp base i) m) ⟨by simp;omega,hf⟩ (by simp;omega)
  simp only at next
  generalize p.l[i]=x at bU next
  obtain⟨o,r,a,n,s,ar⟩:=x;have hr:=IZ ⟨o,r,a,n,s,ar⟩;have hw:=JL ⟨o,r,a,n,s,ar⟩;rw[←fE an (by omega)]at next
  refine⟨i,rfl,an,o,r,a,n,s,ar,bU,⟨o,r,a,n,s,ar⟩,⟨rfl,rfl⟩,rfl,⟨o,r,a,n,s,ar⟩,⟨rfl,rfl⟩,by rw[qq];omega,fun h0=>⟨by omega,?_⟩,fun h1=>⟨⟨by rw[qq];omega,by omega,(AG _).1,(AG _).2⟩,?_⟩⟩
  ·have he:b8 ⟨o,r,a,n,s,ar⟩=[]:=List.eq_nil_of_length_eq_zero h0;rw[he,gz]at next
   exact afQ (by omega) next (0,m) ⟨by simp,rfl⟩
  ·have nx:=afQ (by rw[bj];omega) next (0,m) ⟨by simp,rfl⟩
   simp only[aD,yV,bj]at nx;exact nx
 ·have a8:p.l.length<=i:=by simpa using a8
  rw[dV a8]at hf;have hf:m=aw:=hf;subst hf;exact⟨rfl,rfl⟩
theorem YS:bn Z Qb:=by refine dc Kb ?_;rintro⟨p,base⟩ args H ⟨rfl,rfl,hp⟩;have hp:p.ok:=hp;refine eS Kb 1000 Ft 37 (by kernel_rfl) ?_;simp only[Vn,gS];rw[aqS];exact aqR hp (0,[]) ⟨by simp,by simp⟩
theorem Qc:bn Z J_:=by refine dc YS ?_;rintro⟨f,m,u,r⟩ args H ⟨rfl,rfl,hl⟩;refine eS YS 1000 (fun _=>[]) 14 (by kernel_rfl) ?_;rw[aqU];obtain⟨n,b,h1,h2,_⟩:=Cn m r;refine⟨n,b,h1,(f,n),⟨rfl,rfl,hl⟩,rfl,?_⟩;subst h2;rfl
theorem Du:bn Z A8:=by
 refine Kz Qc fun args H sp p v H' hs hd hp=>?_
 unfold aaj at hs;split at hs
 ·cases hs;obtain⟨⟨i,m⟩,e⟩:=RV hd;cases e;have hp:H=p9 i m:=hp;subst hp;refine eS Qc 1000 (fun _=>[]) 17 (by kernel_rfl) ?_;rw[aq3];obtain⟨n,b,h1,_,h3,h4⟩:=Cn m i.r;refine⟨n,b,h1,aY.2 ⟨fun h=>⟨rfl,?_⟩,fun h=>⟨rfl,?_⟩⟩⟩
  ·have:pQ m i.r=n:=by unfold pQ;rw[h3 h];rfl
   simp only[this];rfl
  ·have:pQ m i.r=i.r:=by unfold pQ;rw[h4 h];rfl
   simp only[this]
 ·cases hs;obtain⟨⟨i,m⟩,e⟩:=RV hd;cases e;have hp:H=p9 i m:=hp;subst hp;refine eS Qc 1000 (fun _=>[]) 17 (by kernel_rfl) ?_;rw[aq4];obtain⟨n,b,h1,_,h3,h4⟩:=Cn m i.a;refine⟨n,b,h1,aY.2 ⟨fun h=>⟨rfl,?_⟩,fun h=>⟨rfl,?_⟩⟩⟩
  ·have:pQ m i.a=n:=by unfold pQ;rw[h3 h];rfl
   simp only[this];rfl
  ·have:pQ m i.a=i.a:=by unfold pQ;rw[h4 h];rfl
   simp only[this]
 ·cases hs
structure Al where
 aU:bS
 dZ:Int
 cA:LP
 cw:LI
 im:Int
 lj:Int
def Al.oM(s:Al)(r:Int):Al:=⟨s.aU,s.dZ,s.cA,tw s.cw (fK r s.cA),s.im,wI (s.lj-1)⟩
def Al.jg(base:Int)(last:LP)(k:Int)(ws:LI)(s:Al)(r:Int):Al:=if r>base∧fK r last=k∧r∉ws then s.oM r else s
def Al.j8(base:Int)(s:Al)(r:Int):Al:=
 if(lk r s.cA).isSome∨r<=base then s
 else if 0<s.cw.length then⟨s.aU,s.dZ,up r ((mP s.cw).getD (s.cw.length-1) 0) s.cA,(mP s.cw).take (s.cw.length-1),s.im,wI (s.lj+1)⟩
 else⟨s.aU,s.dZ,up r s.im s.cA,s.cw,wI (s.im+1),wI (s.lj+1)⟩
def Al.rD(s:Al):Al:=⟨s.aU,max s.dZ s.lj,s.cA,s.cw,s.im,s.lj⟩
def Al.aw(base:Int)(last:LP)(k:Int)(s:Al)(r:Int):Al:=if r>base∧fK r last=k then s.oM r else s
def wG(m:LP)(i:ba):ba:=⟨i.op,pQ m i.r,pQ m i.a,i.n,i.cR,i.ar⟩
def Al.uS(s:Al)(i:ba):Al:=⟨s.aU++[wG s.cA i],s.dZ,s.cA,s.cw,s.im,s.lj⟩
def Al.tG(base:Int)(last:LP)(k:Int)(s:Al)(i:ba):Al:=
 ((b8 i).foldl (Al.aw base last k) (((b8 i).foldl (Al.j8 base) ((cf i).foldl (Al.jg base last k (b8 i)) s)).rD)).uS i
def Al.sE(base:Int)(last:LP):Nat->Al->bS->Al
 |_,s,[]=>s
 |k,s,i::l=>Al.sE base last (k+1) (s.tG base last k i) l
def wC(base:Int):Al:=⟨[],0,[],[],wI (base+1),0⟩
def u6(l:bS)(base:Int):Al:=(wC base).sE base (vQ base 0 [] l) 0 l
def gH(l:bS):bc:=.aL (bZ l) 50
abbrev uc x0 x1:=aq [(0,.aL x0 50),(1,gH x1)] 2
def Q6:dP (ie×Int)where
 bN w A H:=A=[.bB 0 w.1.gq w.1.l.length 0 6 false,J w.2]∧H=gS w.1∧w.1.ok∧w.1.l.length<12000∧∀x∈w.1.l,(x.op=19∨x.op=20)->x.ar<=w.2
 v w:=.aO [.ae 1 (u6 w.1.l w.2).aU.length 6,J (u6 w.1.l w.2).dZ]
 aU w:=uc w.1.cs (u6 w.1.l w.2).aU
theorem ahJ:Q6.dT:=by rintro w w' A H ⟨h1,h2,h3,_⟩ ⟨k1,k2,k3,_⟩;rw[FL h1 h2 h3 k1 k2 k3]
def Qd:Ev.bC:=cB 108 (cO Q6 ahJ cV) A8
def xv:Nat->LN:=nk [(8,[1,4,5,6,7,8,9,10,11,34,35,36]),(12,[1,4,5,6,7,8,9,10,11,12,13,15,34,35,36,45,46,47]),(18,[1,4,5,6,7,8,9,10,11,12,13,15,34,35,36,71,72,73]),(30,[1,4,5,6,7,8,9,10,11,12,13,34,35,36,114,115,116])]
def qv(s:Al)(base:Int)(off len:Nat)(i:Int)(m1 m2:List (Nat×AV)):Tr AV:=bk ([(1,J base),(4,.ae 1 s.aU.length 6),(5,J s.dZ),(6,.aS 2),(7,.ad 3 0),(8,.ad 4 0),(9,J s.im),(10,.ad 5 0),(11,.b9 (.func 127) [] [.ad 4 0,.ad 3 0,.ad 5 0])]++(m1++([(34,.bB 0 off len 0 6 false),(35,J (Int.ofNat len)),(36,J i)]++m2)))
def Bv(cs:LV)(last:LP)(s:Al):AH:=aq [(0,.aL cs 50),(1,gH s.aU),(2,gT last),(3,.ay [.aS 6] 137),(4,.ay [.ad 7 0] 172),(5,.ay [J s.lj] 3),(6,gT s.cA),(7,.ay [.ae 8 s.cw.length 1] 173),(8,aD s.cw 3)] 9
def Eu(cs:LV)(last:LP)(s:Al)(x:ba)(ws rs:LI):AH:=aq [(0,.aL cs 50),(1,gH s.aU),(2,gT last),(3,.ay [.aS 9] 137),(4,.ay [.ad 10 0] 172),(5,.ay [J s.lj] 3),(6,n6 x),(7,aD ws 3),(8,aD rs 3),(9,gT s.cA),(10,.ay [.ae 11 s.cw.length 1] 173),(11,aD s.cw 3)] 12
def ub(cs:LV)(last:LP)(s:Al)(x:ba)(ws:LI):AH:=aq [(0,.aL cs 50),(1,gH s.aU),(2,gT last),(3,.ay [.aS 8] 137),(4,.ay [.ad 9 0] 172),(5,.ay [J s.lj] 3),(6,n6 x),(7,aD ws 3),(8,gT s.cA),(9,.ay [.ae 10 s.cw.length 1] 173),(10,aD s.cw 3)] 11
theorem apP(cs:LV)(off len:Nat)(base:Int)(L:LT)(Q:QT):
 b_ Z A8 xv L Q 2000 108 [.bB 0 off len 0 6 false,J base] (aq [(0,.aL cs 50)] 1)=(
 ∃w:ie×Int,(([.bB 0 off len 0 6 false,J base]:LV)=[.bB 0 w.1.gq w.1.l.length 0 6 false,J w.2]∧aq [(0,.aL cs 50)] 1=gS w.1∧w.1.ok)∧L (bk [(1,J base),(4,.bg),(5,J 0),(6,.aS 1),(7,.ad 2 0),(8,.ad 3 0),(9,J (wI (base+1))),(10,.ad 4 0),(11,.b9 (.func 127) [] [.ad 3 0,.ad 2 0,.ad 4 0]),(34,.bB 0 off len 0 6 false),(35,J (Int.ofNat len)),(36,J 0)]) (aq [(0,.aL w.1.cs 50),(1,gT (vQ w.2 0 [] w.1.l)),(2,.ay [.aS 5] 137),(3,.ay [.ad 6 0] 172),(4,.ay [J 0] 3),(5,.bM [] 0 true),(6,.ay [.bB 7 0 0 0 1 true] 173),(7,.ay [] 3)] 8) (ao Z 108 0)):=by kernel_rfl
theorem apQ(cs:LV)(last:LP)(s:Al)(base:Int)(off len:Nat)(i:Int)(L:LT)(Q:QT):
 cT Z A8 xv L Q 2000 108 1 (qv s base off len i [] []) (ao Z 108 0) (Bv cs last s)=(
 ai (decide (i<Int.ofNat len)) (∃aI:Nat,i=(aI:Int)∧aI<len∧(∃n:Int,∃aP:Int,∃bp:Int,∃bI:Int,∃dO:LN,∃cS:Int,bA Z 50 cs (off+aI*6)=some (.aj [J n,J aP,J bp,J bI,.aa dO,J cS]:AV)∧(∃w:ba,(([.aj [J n,J aP,J bp,J bI,.aa dO,J cS]]:LV)=[.aj (bP w)]∧aq [] 0=ax)∧some (.aj [J n,J aP,J bp,J bI,.aa dO,J cS]:AV)=some (.aj [J n,J aP,J bp,J bI,.aa dO,J cS]:AV)∧(∃ab:ba,(([.aj [J n,J aP,J bp,J bI,.aa dO,J cS]]:LV)=[.aj (bP ab)]∧aq [] 0=ax)∧L (bk [(1,J base),(4,.ae 1 s.aU.length 6),(5,J s.dZ),(6,.aS 2),(7,.ad 3 0),(8,.ad 4 0),(9,J s.im),(10,.ad 5 0),(11,.b9 (.func 127) [] [.ad 4 0,.ad 3 0,.ad 5 0]),(12,J i),(13,.ad 6 0),(15,.ae 7 (b8 ab).length 1),(34,.bB 0 off len 0 6 false),(35,J (Int.ofNat len)),(36,J i),(45,.ae 8 (cf w).length 1),(46,J (Int.ofNat (cf w).length)),(47,J 0)]) (aq [(0,.aL cs 50),(1,gH s.aU),(2,gT last),(3,.ay [.aS 9] 137),(4,.ay [.ad 10 0] 172),(5,.ay [J s.lj] 3),(6,.ay [J n,J aP,J bp,J bI,.aa dO,J cS] 50),(7,aD (b8 ab) 3),(8,aD (cf w) 3),(9,gT s.cA),(10,.ay [.ae 11 s.cw.length 1] 173),(11,aD s.cw 3)] 12) (ao Z 108 1))))) (Q (.aO [.ae 1 s.aU.length 6,J s.dZ]) (uc cs s.aU))):=by kernel_rfl
theorem apR(cs:LV)(last:LP)(s:Al)(base:Int)(off len:Nat)(i k j:Int)(x:ba)(ws rs:LI)(L:LT)(Q:QT):
 cT Z A8 xv L Q 2000 108 1 (qv s base off len i [(12,J k),(13,.ad 6 0),(15,.ae 7 ws.length 1)] [(45,.ae 8 rs.length 1),(46,J (Int.ofNat rs.length)),(47,J j)]) (ao Z 108 1) (Eu cs last s x ws rs)=(
 ai (decide (j<Int.ofNat rs.length)) (∃aI:Nat,j=(aI:Int)∧aI<rs.length∧(∃n:Int,bA Z 3 (aW rs) (aI*1)=some (J n:AV)∧ai (decide (n>base)) (∃aP:Int,∃b:Bool,gf Z 3 3 (bK J 0 last) (J n)=some (J aP,b)∧ai (aP==k) (∃w:LI,(cH ws=cH w∧ws.length=w.length∧w.length<100000)∧ai (!decide (n∈w)) (∃ab:LI×List (Int×Int)×Int×Int,(([J n,.ad 0 0,.ad 1 0,.ad 2 0]:LV)=[J ab.2.2.2,.ad 0 0,.ad 1 0,.ad 2 0]∧Bw s.cw s.cA s.lj=Bw ab.1 ab.2.1 ab.2.2.1∧ab.1.length<50000)∧L (bk [(1,J base),(4,.ae 1 s.aU.length 6),(5,J s.dZ),(6,.aS 2),(7,.ad 3 0),(8,.ad 4 0),(9,J s.im),(10,.ad 5 0),(11,.b9 (.func 127) [] [.ad 4 0,.ad 3 0,.ad 5 0]),(12,J k),(13,.ad 6 0),(15,.ae 7 ws.length 1),(34,.bB 0 off len 0 6 false),(35,J (Int.ofNat len)),(36,J i),(45,.ae 8 rs.length 1),(46,J (Int.ofNat rs.length)),(47,J (wI (j+1)))]) (aq [(0,.aL cs 50),(1,gH s.aU),(2,gT last),(3,.ay [.aS 9] 137),(4,.ay [.ad 10 0] 172),(5,.ay [J (wI (ab.2.2.1-1))] 3),(6,n6 x),(7,aD w 3),(8,aD rs 3),(9,gT ab.2.1),(10,.ay [.ae 11 (tw ab.1 (fK ab.2.2.2 ab.2.1)).length 1] 173),(11,aD (tw ab.1 (fK ab.2.2.2 ab.2.1)) 3)] 12) (ao Z 108 1)) (L (bk [(1,J base),(4,.ae 1 s.aU.length 6),(5,J s.dZ),(6,.aS 2),(7,.ad 3 0),(8,.ad 4 0),(9,J s.im),(10,.ad 5 0),(11,.b9 (.func 127) [] [.ad 4 0,.ad 3 0,.ad 5 0]),(12,J k),(13,.ad 6 0),(15,.ae 7 ws.length 1),(34,.bB 0 off len 0 6 false),(35,J (Int.ofNat len)),(36,J i),(45,.ae 8 rs.length 1),(46,J (Int.ofNat rs.length)),(47,J (wI (j+1)))]) (Eu cs last s x w rs) (ao Z 108 1))) (L (bk [(1,J base),(4,.ae 1 s.aU.length 6),(5,J s.dZ),(6,.aS 2),(7,.ad 3 0),(8,.ad 4 0),(9,J s.im),(10,.ad 5 0),(11,.b9 (.func 127) [] [.ad 4 0,.ad 3 0,.ad 5 0]),(12,J k),(13,.ad 6 0),(15,.ae 7 ws.length 1),(34,.bB 0 off len 0 6 false),(35,J (Int.ofNat len)),(36,J i),(45,.ae 8 rs.length 1),(46,J (Int.ofNat rs.length)),(47,J (wI (j+1)))]) (Eu cs last s x ws rs) (ao Z 108 1))) (L (bk [(1,J base),(4,.ae 1 s.aU.length 6),(5,J s.dZ),(6,.aS 2),(7,.ad 3 0),(8,.ad 4 0),(9,J s.im),(10,.ad 5 0),(11,.b9 (.func 127) [] [.ad 4 0,.ad 3 0,.ad 5 0]),(12,J k),(13,.ad 6 0),(15,.ae 7 ws.length 1),(34,.bB 0 off len 0 6 false),(35,J (Int.ofNat len)),(36,J i),(45,.ae 8 rs.length 1),(46,J (Int.ofNat rs.length)),(47,J (wI (j+1)))]) (Eu cs last s x ws rs) (ao Z 108 1)))) (L (bk [(1,J base),(4,.ae 1 s.aU.length 6),(5,J s.dZ),(6,.aS 2),(7,.ad 3 0),(8,.ad 4 0),(9,J s.im),(10,.ad 5 0),(11,.b9 (.func 127) [] [.ad 4 0,.ad 3 0,.ad 5 0]),(12,J k),(13,.ad 6 0),(15,.ae 7 ws.length 1),(34,.bB 0 off len 0 6 false),(35,J (Int.ofNat len)),(36,J i),(71,.ae 7 ws.length 1),(72,J (Int.ofNat ws.length)),(73,J 0)]) (ub cs last s x ws) (ao Z 108 2))):=by kernel_rfl
theorem apT(cs:LV)(last:LP)(s:Al)(base:Int)(off len:Nat)(i k j:Int)(x:ba)(ws:LI)(L:LT)(Q:QT):
 cT Z A8 xv L Q 2000 108 1 (qv s base off len i [(12,J k),(13,.ad 6 0),(15,.ae 7 ws.length 1)] [(71,.ae 7 ws.length 1),(72,J (Int.ofNat ws.length)),(73,J j)]) (ao Z 108 2) (ub cs last s x ws)=(
 ai (decide (j<Int.ofNat ws.length)) (∃aI:Nat,j=(aI:Int)∧aI<ws.length∧(∃n:Int,bA Z 3 (aW ws) (aI*1)=some (J n:AV)∧(∃aP:Int,∃b:Bool,gf Z 3 3 (bK J 0 s.cA) (J n)=some (J aP,b)∧ai b (L (bk [(1,J base),(4,.ae 1 s.aU.length 6),(5,J s.dZ),(6,.aS 2),(7,.ad 3 0),(8,.ad 4 0),(9,J s.im),(10,.ad 5 0),(11,.b9 (.func 127) [] [.ad 4 0,.ad 3 0,.ad 5 0]),(12,J k),(13,.ad 6 0),(15,.ae 7 ws.length 1),(34,.bB 0 off len 0 6 false),(35,J (Int.ofNat len)),(36,J i),(71,.ae 7 ws.length 1),(72,J (Int.ofNat ws.length)),(73,J (wI (j+1)))]) (ub cs last s x ws) (ao Z 108 2)) (ai (decide (n<=base)) (L (bk [(1,J base),(4,.ae 1 s.aU.length 6),(5,J s.dZ),(6,.aS 2),(7,.ad 3 0),(8,.ad 4 0),(9,J s.im),(10,.ad 5 0),(11,.b9 (.func 127) [] [.ad 4 0,.ad 3 0,.ad 5 0]),(12,J k),(13,.ad 6 0),(15,.ae 7 ws.length 1),(34,.bB 0 off len 0 6 false),(35,J (Int.ofNat len)),(36,J i),(71,.ae 7 ws.length 1),(72,J (Int.ofNat ws.length)),(73,J (wI (j+1)))]) (ub cs last s x ws) (ao Z 108 2)) (∃w:LI,(([.ae 0 s.cw.length 1]:LV)=[.ae 0 w.length 1]∧cH s.cw=cH w)∧ai (decide (Int.ofNat w.length>0)) (∃ab:LI,(([.e_ 172 (.ad 0 0)]:LV)=[.e_ 172 (.ad 0 0)]∧aq [(0,.ay [.ae 1 s.cw.length 1] 173),(1,aD w 3)] 2=fW ab∧0<ab.length∧ab.length<50000)∧some (.aS 8:AV)=some (.aS 8:AV)∧(∃bQ:List (AV×AV×Nat),∃c':Nat,lN Z 3 (bK J 0 s.cA) s.cA.length (J n) (J (List.getD (mP ab) (ab.length-1) 0))=some (bQ,c')∧L (bk [(1,J base),(4,.ae 1 s.aU.length 6),(5,J s.dZ),(6,.aS 2),(7,.ad 3 0),(8,.ad 4 0),(9,J s.im),(10,.ad 5 0),(11,.b9 (.func 127) [] [.ad 4 0,.ad 3 0,.ad 5 0]),(12,J k),(13,.ad 6 0),(15,.ae 7 ws.length 1),(34,.bB 0 off len 0 6 false),(35,J (Int.ofNat len)),(36,J i),(71,.ae 7 ws.length 1),(72,J (Int.ofNat ws.length)),(73,J (wI (j+1)))]) (aq [(0,.aL cs 50),(1,gH s.aU),(2,gT last),(3,.ay [.aS 8] 137),(4,.ay [.ad 9 0] 172),(5,.ay [J (wI (s.lj+1))] 3),(6,n6 x),(7,aD ws 3),(8,.bM bQ c' true),(9,.ay [.ae 10 ((mP ab).take (ab.length-1)).length 1] 173),(10,aD (List.take (ab.length-1) (mP ab)) 3)] 11) (ao Z 108 2))) (∃bQ:List (AV×AV×Nat),∃c':Nat,lN Z 3 (bK J 0 s.cA) s.cA.length (J n) (J s.im)=some (bQ,c')∧L (bk [(1,J base),(4,.ae 1 s.aU.length 6),(5,J s.dZ),(6,.aS 2),(7,.ad 3 0),(8,.ad 4 0),(9,J (wI (s.im+1))),(10,.ad 5 0),(11,.b9 (.func 127) [] [.ad 4 0,.ad 3 0,.ad 5 0]),(12,J k),(13,.ad 6 0),(15,.ae 7 ws.length 1),(34,.bB 0 off len 0 6 false),(35,J (Int.ofNat len)),(36,J i),(71,.ae 7 ws.length 1),(72,J (Int.ofNat ws.length)),(73,J (wI (j+1)))]) (aq [(0,.aL cs 50),(1,gH s.aU),(2,gT last),(3,.ay [.aS 8] 137),(4,.ay [.ad 9 0] 172),(5,.ay [J (wI (s.lj+1))] 3),(6,n6 x),(7,aD ws 3),(8,.bM bQ c' true),(9,.ay [.ae 10 s.cw.length 1] 173),(10,aD w 3)] 11) (ao Z 108 2))))))) (L (bk [(1,J base),(4,.ae 1 s.aU.length 6),(5,J (if s.lj>s.dZ then s.lj else s.dZ)),(6,.aS 2),(7,.ad 3 0),(8,.ad 4 0),(9,J s.im),(10,.ad 5 0),(11,.b9 (.func 127) [] [.ad 4 0,.ad 3 0,.ad 5 0]),(12,J k),(13,.ad 6 0),(34,.bB 0 off len 0 6 false),(35,J (Int.ofNat len)),(36,J i),(114,.ae 7 ws.length 1),(115,J (Int.ofNat ws.length)),(116,J 0)]) (ub cs last s x ws) (ao Z 108 3))):=by kernel_rfl
theorem apM(cs:LV)(last:LP)(s:Al)(base:Int)(off len:Nat)(i k j:Int)(x:ba)(ws:LI)(L:LT)(Q:QT):
 cT Z A8 xv L Q 2000 108 1 (qv s base off len i [(12,J k),(13,.ad 6 0)] [(114,.ae 7 ws.length 1),(115,J (Int.ofNat ws.length)),(116,J j)]) (ao Z 108 3) (ub cs last s x ws)=(
 ai (decide (j<Int.ofNat ws.length)) (∃aI:Nat,j=(aI:Int)∧aI<ws.length∧(∃n:Int,bA Z 3 (aW ws) (aI*1)=some (J n:AV)∧ai (decide (n>base)) (∃aP:Int,∃b:Bool,gf Z 3 3 (bK J 0 last) (J n)=some (J aP,b)∧ai (aP==k) (∃w:LI×List (Int×Int)×Int×Int,(([J n,.ad 0 0,.ad 1 0,.ad 2 0]:LV)=[J w.2.2.2,.ad 0 0,.ad 1 0,.ad 2 0]∧Bw s.cw s.cA s.lj=Bw w.1 w.2.1 w.2.2.1∧w.1.length<50000)∧L (bk [(1,J base),(4,.ae 1 s.aU.length 6),(5,J s.dZ),(6,.aS 2),(7,.ad 3 0),(8,.ad 4 0),(9,J s.im),(10,.ad 5 0),(11,.b9 (.func 127) [] [.ad 4 0,.ad 3 0,.ad 5 0]),(12,J k),(13,.ad 6 0),(34,.bB 0 off len 0 6 false),(35,J (Int.ofNat len)),(36,J i),(114,.ae 7 ws.length 1),(115,J (Int.ofNat ws.length)),(116,J (wI (j+1)))]) (aq [(0,.aL cs 50),(1,gH s.aU),(2,gT last),(3,.ay [.aS 8] 137),(4,.ay [.ad 9 0] 172),(5,.ay [J (wI (w.2.2.1-1))] 3),(6,n6 x),(7,aD ws 3),(8,gT w.2.1),(9,.ay [.ae 10 (tw w.1 (fK w.2.2.2 w.2.1)).length 1] 173),(10,aD (tw w.1 (fK w.2.2.2 w.2.1)) 3)] 11) (ao Z 108 3)) (L (bk [(1,J base),(4,.ae 1 s.aU.length 6),(5,J s.dZ),(6,.aS 2),(7,.ad 3 0),(8,.ad 4 0),(9,J s.im),(10,.ad 5 0),(11,.b9 (.func 127) [] [.ad 4 0,.ad 3 0,.ad 5 0]),(12,J k),(13,.ad 6 0),(34,.bB 0 off len 0 6 false),(35,J (Int.ofNat len)),(36,J i),(114,.ae 7 ws.length 1),(115,J (Int.ofNat ws.length)),(116,J (wI (j+1)))]) (ub cs last s x ws) (ao Z 108 3))) (L (bk [(1,J base),(4,.ae 1 s.aU.length 6),(5,J s.dZ),(6,.aS 2),(7,.ad 3 0),(8,.ad 4 0),(9,J s.im),(10,.ad 5 0),(11,.b9 (.func 127) [] [.ad 4 0,.ad 3 0,.ad 5 0]),(12,J k),(13,.ad 6 0),(34,.bB 0 off len 0 6 false),(35,J (Int.ofNat len)),(36,J i),(114,.ae 7 ws.length 1),(115,J (Int.ofNat ws.length)),(116,J (wI (j+1)))]) (ub cs last s x ws) (ao Z 108 3)))) (∃w:ba×List (Int×Int),p9 x s.cA=p9 w.1 w.2∧(∃ab:ba×List (Int×Int),p9 (ba.mk w.1.op (pQ w.2 w.1.r) w.1.a w.1.n w.1.cR w.1.ar) w.2=p9 ab.1 ab.2∧((bZ s.aU).length=s.aU.length*6∧s.aU.length+1<=65536∧true=true∧true=true)∧L (bk [(1,J base),(4,.ae 1 (s.aU.length+1) 6),(5,J s.dZ),(6,.aS 2),(7,.ad 3 0),(8,.ad 4 0),(9,J s.im),(10,.ad 5 0),(11,.b9 (.func 127) [] [.ad 4 0,.ad 3 0,.ad 5 0]),(34,.bB 0 off len 0 6 false),(35,J (Int.ofNat len)),(36,J (wI (i+1)))]) (aq [(0,.aL cs 50),(1,.aL (bZ s.aU++bP (ba.mk ab.1.op ab.1.r (pQ ab.2 ab.1.a) ab.1.n ab.1.cR ab.1.ar)) 50),(2,gT last),(3,.ay [.aS 6] 137),(4,.ay [.ad 7 0] 172),(5,.ay [J s.lj] 3),(6,gT ab.2),(7,.ay [.ae 8 s.cw.length 1] 173),(8,aD s.cw 3)] 9) (ao Z 108 0)))):=by kernel_rfl
theorem X0(i:ba):(b8 i).length<=2:=by
 have h:=(wb i.op).2;have h2:(iW i.op).1.2.2.2.2≠[112]:=by
  unfold iW;cases hs:nJ i.op with
  |none=>simp[wk]
  |some r=>have:=Ob hs;simp only[oc,ss,List.mem_nil_iff,or_false]at this;rcases this with rfl|rfl|rfl|rfl|rfl|rfl|rfl|rfl|rfl|rfl|rfl|rfl|rfl|rfl|rfl|rfl|rfl|rfl|rfl|rfl|rfl|rfl|rfl|rfl|rfl<;>simp
 unfold b8 gO;split
 ·rcases h with h|h|h|h|h<;>rw[h]<;>simp[mS]
  ·split<;>simp
  ·exact absurd h h2
 ·simp
def sS(base:Int)(l:LI):Nat:=(l.filter (fun r=>decide (r>base))).length
theorem RF(base:Int)(l:LI):sS base l<=l.length:=List.length_filter_le _ _
theorem anj{n x:Int}(h:x∈jm n):x<=n:=by unfold jm at h;obtain⟨k,h1,rfl⟩:=List.mem_map.1 h;have:=List.mem_range.1 h1;omega
theorem ao8{i:ba}{base:Int}(h:(i.op=19∨i.op=20)->i.ar<=base):sS base (cf i)<=2:=by
 have h0:=(wb i.op).1;have h2:(iW i.op).1.2.2.2.1=[112]->i.op=19∨i.op=20:=by
  unfold iW;cases hs:nJ i.op with
  |none=>simp[wk]
  |some r=>
   have kY:r.1=i.op:=by
    obtain⟨o,a1,a2,a3,a4,a5⟩:=i;cases o with
    |negSucc n=>cases hs
    |ofNat n=>
     simp only at hs;match n,hs with
     |n+1,hs=>
      have hn:∀(l:List kc) (m n:Nat) (r:kc),Av l n=some r->(∀j (h:j<l.length),(l[j]).1=((m+j:Nat):Int))->r.1=((m+n:Nat):Int):=by
       intro l;induction l with
       |nil=>intro m n r h;cases h
       |cons a l ih=>
        intro m n r h hj;cases n with
        |zero=>cases h;have:=hj 0 (by simp);exact this
        |succ n=>have:=ih (m+1) n r h (fun j h=>by have:=hj (j+1) (by simpa using h);simp only[List.getElem_cons_succ]at this;rw[this];congr 1;omega);rw[this];congr 1;omega
      have:=hn oc 1 n r hs (by decide);rw[this];simp;omega
   have:=Ob hs;simp only[oc,ss,List.mem_nil_iff,or_false]at this;intro hr;rw[←kY];rcases this with rfl|rfl|rfl|rfl|rfl|rfl|rfl|rfl|rfl|rfl|rfl|rfl|rfl|rfl|rfl|rfl|rfl|rfl|rfl|rfl|rfl|rfl|rfl|rfl|rfl<;>simp at hr⊢
 unfold cf gO;split
 ·rcases h0 with h1|h1|h1|h1|h1<;>rw[h1]
  ·simp[sS]
  ·refine Nat.le_trans (RF _ _) ?_;simp[mS]
  ·refine Nat.le_trans (RF _ _) ?_;simp[mS]
  ·refine Nat.le_trans (RF _ _) ?_;simp only[ik,List.foldl_nil,mS];simp;split<;>simp
  ·have hb:=h (h2 h1);simp only[ik,List.foldl_nil,mS];simp only[sS];rw[List.filter_eq_nil_iff.2]
   ·simp
   ·intro x hx;simp at hx;have:=anj hx;simp;omega
 ·simp[sS]
theorem aaQ(l:bS)(i:ba):bZ (l++[i])=bZ l++[J i.op,J i.r,J i.a,J i.n,.aa i.cR,J i.ar]:=by rw[zz];rfl
theorem NS(l:LI)(x:Int):(tw l x).length=l.length+1:=by simp[tw,XH]
theorem aeJ(l:LI):(mP l).length=l.length:=by rw[mP,RY,pq]
section
variable{cs:LV}{off len:Nat}{base i k:Int}{aw sF:Al}{x:ba}{ws rs:LI}{last:LP}
theorem apN(hw:ws.length<5000)(ho:sF.aU.length<60000)(next:bF Z 108 148 1 (.aO [.ae 1 aw.aU.length 6,J aw.dZ]) (uc cs aw.aU) (qv (sF.uS x) base off len (wI (i+1)) [] []) (Bv cs last (sF.uS x)) (ao Z 108 0)):
 ∀p:Nat×Al,(p.1<=ws.length∧p.2.cw.length+(ws.length-p.1)<50000∧(ws.drop p.1).foldl (Al.aw base last k) p.2=sF)->
 bF Z 108 148 1 (.aO [.ae 1 aw.aU.length 6,J aw.dZ]) (uc cs aw.aU) (qv p.2 base off len i [(12,J k),(13,.ad 6 0)] [(114,.ae 7 ws.length 1),(115,J (Int.ofNat ws.length)),(116,J (p.1:Int))]) (ub cs last p.2 x ws) (ao Z 108 3):=by
 refine cX (fun p=>ws.length-p.1) _ _ _ _ ?_;rintro⟨j,s⟩ ⟨hj,hb,hf⟩ ih;simp only at hj hb hf ih⊢;refine hD Du 2000 xv (by kernel_rfl) ?_;rw[apM];refine aY.2 ⟨fun an=>?_,fun a8=>?_⟩
 ·have an:j<ws.length:=by simpa using an
  rw[dv an,ik]at hf;have hg:ws.getD j 0=ws[j]:=by simp[List.getD,jN an]
  refine⟨j,rfl,an,ws[j],by rw[ia an,hg],?_⟩;rw[fE an (by omega)];have skip:¬(ws[j]>base∧fK ws[j] last=k)->bF Z 108 148 1 (.aO [.ae 1 aw.aU.length 6,J aw.dZ]) (uc cs aw.aU) (qv s base off len i [(12,J k),(13,.ad 6 0)] [(114,.ae 7 ws.length 1),(115,J (Int.ofNat ws.length)),(116,J ((j+1:Nat):Int))]) (ub cs last s x ws) (ao Z 108 3):=by intro hn;rw[Al.aw,az hn]at hf;exact ih (j+1,s) ⟨by simp;omega,by simp only;omega,hf⟩ (by simp;omega)
  obtain⟨n,b,h1,h2,_⟩:=Cn last ws[j];refine aY.2 ⟨fun hr=>⟨n,b,h1,aY.2 ⟨fun hk=>?_,fun hk=>?_⟩⟩,fun hr=>?_⟩
  ·have hc:ws[j]>base∧fK ws[j] last=k:=⟨by simpa using hr,by rw[←h2];simpa using hk⟩;rw[Al.aw,aN hc]at hf;have jF:s.cw.length<50000:=by omega
   refine⟨(s.cw,s.cA,s.lj,ws[j]),⟨rfl,rfl,jF⟩,?_⟩;exact ih (j+1,s.oM ws[j]) ⟨by simp;omega,by simp only[Al.oM,NS];omega,hf⟩ (by simp;omega)
  ·exact skip (fun h=>by simp at hk;exact hk (h2.trans h.2))
  ·exact skip (fun h=>by simp at hr;omega)
 ·have a8:ws.length<=j:=by simpa using a8
  rw[dV a8]at hf;have hf:s=sF:=hf;subst hf;refine⟨(x,s.cA),rfl,(⟨x.op,pQ s.cA x.r,x.a,x.n,x.cR,x.ar⟩,s.cA),rfl,⟨by rw[o3],by omega,rfl,rfl⟩,?_⟩;have Mr:(s.uS x).aU.length=s.aU.length+1:=by simp[Al.uS]
  simp only[qv,Bv,gH,Mr]at next
  have Mp:bZ (s.uS x).aU=bZ s.aU++[J (wG s.cA x).op,J (wG s.cA x).r,J (wG s.cA x).a,J (wG s.cA x).n,.aa (wG s.cA x).cR,J (wG s.cA x).ar]:=aaQ _ _;rw[Mp]at next
  exact next
theorem apU(hw:ws.length<5000){sW:Al}(n5:sW.cw.length+ws.length<50000)(ho:sF.aU.length<60000)(Uv:ws.foldl (Al.aw base last k) sW.rD=sF)(next:bF Z 108 148 1 (.aO [.ae 1 aw.aU.length 6,J aw.dZ]) (uc cs aw.aU) (qv (sF.uS x) base off len (wI (i+1)) [] []) (Bv cs last (sF.uS x)) (ao Z 108 0)):
 ∀p:Nat×Al,(p.1<=ws.length∧p.2.cw.length<50000∧(ws.drop p.1).foldl (Al.j8 base) p.2=sW)->
 bF Z 108 148 1 (.aO [.ae 1 aw.aU.length 6,J aw.dZ]) (uc cs aw.aU) (qv p.2 base off len i [(12,J k),(13,.ad 6 0),(15,.ae 7 ws.length 1)] [(71,.ae 7 ws.length 1),(72,J (Int.ofNat ws.length)),(73,J (p.1:Int))]) (ub cs last p.2 x ws) (ao Z 108 2):=by
 refine cX (fun p=>ws.length-p.1) _ _ _ _ ?_;rintro⟨j,s⟩ ⟨hj,hb,hf⟩ ih;simp only at hj hb hf ih⊢;refine hD Du 2000 xv (by kernel_rfl) ?_;rw[apT];refine aY.2 ⟨fun an=>?_,fun a8=>?_⟩
 ·have an:j<ws.length:=by simpa using an
  rw[dv an,ik]at hf;have hg:ws.getD j 0=ws[j]:=by simp[List.getD,jN an]
  refine⟨j,rfl,an,ws[j],by rw[ia an,hg],?_⟩;rw[fE an (by omega)];have skip:((lk ws[j] s.cA).isSome∨ws[j]<=base)->bF Z 108 148 1 (.aO [.ae 1 aw.aU.length 6,J aw.dZ]) (uc cs aw.aU) (qv s base off len i [(12,J k),(13,.ad 6 0),(15,.ae 7 ws.length 1)] [(71,.ae 7 ws.length 1),(72,J (Int.ofNat ws.length)),(73,J ((j+1:Nat):Int))]) (ub cs last s x ws) (ao Z 108 2):=by intro hn;rw[Al.j8,aN hn]at hf;exact ih (j+1,s) ⟨by simp;omega,hb,hf⟩ (by simp;omega)
  obtain⟨n,b,h1,h2,h3,h4⟩:=Cn s.cA ws[j];refine⟨n,b,h1,aY.2 ⟨fun h=>skip (.inl (by rw[h3 h];rfl)),fun h=>aY.2 ⟨fun h5=>skip (.inr (by simpa using h5)),fun h5=>?_⟩⟩⟩;have hn:¬((lk ws[j] s.cA).isSome∨ws[j]<=base):=by rw[h4 h];simp at h5⊢;omega
  rw[Al.j8,az hn]at hf;refine⟨s.cw,⟨rfl,rfl⟩,aY.2 ⟨fun h6=>?_,fun h6=>?_⟩⟩
  ·have h6:0<s.cw.length:=by simpa using h6
   rw[aN h6]at hf;refine⟨s.cw,⟨rfl,rfl,h6,hb⟩,rfl,_,_,pj J yh,?_⟩;exact ih (j+1,_) ⟨by simp;omega,by simp only[List.length_take,aeJ];omega,hf⟩ (by simp;omega)
  ·have h6:¬0<s.cw.length:=by simpa using h6
   rw[az h6]at hf;refine⟨_,_,pj J yh,?_⟩;exact ih (j+1,⟨s.aU,s.dZ,up ws[j] s.im s.cA,s.cw,wI (s.im+1),wI (s.lj+1)⟩) ⟨by simp;omega,hb,hf⟩ (by simp;omega)
 ·have a8:ws.length<=j:=by simpa using a8
  rw[dV a8]at hf;have hf:s=sW:=hf;subst hf;have hm:(if s.lj>s.dZ then s.lj else s.dZ)=max s.dZ s.lj:=by split<;>omega
  rw[hm];exact apN hw ho next (0,s.rD) ⟨by simp,by show s.cw.length+(ws.length-0)<50000;simpa using n5,by simpa using Uv⟩
theorem apS(hr:rs.length<5000)(hw:ws.length<5000){sR sW:Al}(hR:sR.cw.length<50000)(hsW:ws.foldl (Al.j8 base) sR=sW)(n5:sW.cw.length+ws.length<50000)(ho:sF.aU.length<60000)(Uv:ws.foldl (Al.aw base last k) sW.rD=sF)(next:bF Z 108 148 1 (.aO [.ae 1 aw.aU.length 6,J aw.dZ]) (uc cs aw.aU) (qv (sF.uS x) base off len (wI (i+1)) [] []) (Bv cs last (sF.uS x)) (ao Z 108 0)):
 ∀p:Nat×Al,(p.1<=rs.length∧p.2.cw.length+sS base (rs.drop p.1)<50000∧(rs.drop p.1).foldl (Al.jg base last k ws) p.2=sR)->
 bF Z 108 148 1 (.aO [.ae 1 aw.aU.length 6,J aw.dZ]) (uc cs aw.aU) (qv p.2 base off len i [(12,J k),(13,.ad 6 0),(15,.ae 7 ws.length 1)] [(45,.ae 8 rs.length 1),(46,J (Int.ofNat rs.length)),(47,J (p.1:Int))]) (Eu cs last p.2 x ws rs) (ao Z 108 1):=by
 refine cX (fun p=>rs.length-p.1) _ _ _ _ ?_;rintro⟨j,s⟩ ⟨hj,hb,hf⟩ ih;simp only at hj hb hf ih⊢;refine hD Du 2000 xv (by kernel_rfl) ?_;rw[apR];refine aY.2 ⟨fun an=>?_,fun a8=>?_⟩
 ·have an:j<rs.length:=by simpa using an
  rw[dv an,ik]at hf;rw[dv an]at hb;have TH:sS base (rs[j]::rs.drop (j+1))=(if rs[j]>base then 1 else 0)+sS base (rs.drop (j+1)):=by simp only[sS,List.filter_cons];by_cases h:rs[j]>base<;>simp[h];omega
  rw[TH]at hb;have hg:rs.getD j 0=rs[j]:=by simp[List.getD,jN an]
  refine⟨j,rfl,an,rs[j],by rw[ia an,hg],?_⟩;rw[fE an (by omega)];have skip:¬(rs[j]>base∧fK rs[j] last=k∧rs[j]∉ws)->bF Z 108 148 1 (.aO [.ae 1 aw.aU.length 6,J aw.dZ]) (uc cs aw.aU) (qv s base off len i [(12,J k),(13,.ad 6 0),(15,.ae 7 ws.length 1)] [(45,.ae 8 rs.length 1),(46,J (Int.ofNat rs.length)),(47,J ((j+1:Nat):Int))]) (Eu cs last s x ws rs) (ao Z 108 1):=by intro hn;rw[Al.jg,az hn]at hf;exact ih (j+1,s) ⟨by simp;omega,by simp only;omega,hf⟩ (by simp;omega)
  obtain⟨n,b,h1,h2,_⟩:=Cn last rs[j];refine aY.2 ⟨fun hr=>⟨n,b,h1,aY.2 ⟨fun hk=>⟨ws,⟨rfl,rfl,by omega⟩,aY.2 ⟨fun hm=>?_,fun hm=>?_⟩⟩,fun hk=>?_⟩⟩,fun hr=>?_⟩
  ·have yD:rs[j]>base:=by simpa using hr
   have hc:rs[j]>base∧fK rs[j] last=k∧rs[j]∉ws:=⟨yD,by rw[←h2];simpa using hk,by simpa using hm⟩;rw[Al.jg,aN hc]at hf;rw[aN yD]at hb;have jF:s.cw.length<50000:=by omega
   refine⟨(s.cw,s.cA,s.lj,rs[j]),⟨rfl,rfl,jF⟩,?_⟩;exact ih (j+1,s.oM rs[j]) ⟨by simp;omega,by simp only[Al.oM,NS];omega,hf⟩ (by simp;omega)
  ·exact skip (fun h=>by simp at hm;exact h.2.2 hm)
  ·exact skip (fun h=>by simp at hk;exact hk (h2.trans h.2.1))
  ·exact skip (fun h=>by simp at hr;omega)
 ·have a8:rs.length<=j:=by simpa using a8
  rw[dV a8]at hf;have hf:s=sR:=hf;subst hf;exact apU hw n5 ho Uv next (0,s) ⟨by simp,hR,by simpa using hsW⟩
end
theorem SP(base:Int)(last:LP)(k:Int)(ws:LI):∀(rs:LI) (s:Al),(rs.foldl (Al.jg base last k ws) s).cw.length<=s.cw.length+sS base rs∧(rs.foldl (Al.jg base last k ws) s).aU=s.aU
 |[],s=>⟨by simp,rfl⟩
 |r::rs,s=>by
  have h:=SP base last k ws rs (s.jg base last k ws r);have TH:sS base (r::rs)=(if r>base then 1 else 0)+sS base rs:=by simp only[sS,List.filter_cons];by_cases h:r>base<;>simp[h];omega
  simp only[ik];rw[TH];have h1:(s.jg base last k ws r).cw.length<=s.cw.length+(if r>base then 1 else 0)∧(s.jg base last k ws r).aU=s.aU:=by
   unfold Al.jg;split
   ·rename_i hc;rw[aN hc.1];exact⟨by simp[Al.oM,NS],rfl⟩
   ·exact⟨by omega,rfl⟩
  exact⟨by omega,h.2.trans h1.2⟩
theorem SR(base:Int):∀(ws:LI) (s:Al),(ws.foldl (Al.j8 base) s).cw.length<=s.cw.length∧(ws.foldl (Al.j8 base) s).aU=s.aU
 |[],s=>⟨by simp,rfl⟩
 |r::ws,s=>by
  have h:=SR base ws (s.j8 base r);simp only[ik];have h1:(s.j8 base r).cw.length<=s.cw.length∧(s.j8 base r).aU=s.aU:=by
   unfold Al.j8;split
   ·exact⟨by omega,rfl⟩
   ·split
    ·exact⟨by simp only[List.length_take,aeJ];omega,rfl⟩
    ·exact⟨by simp,rfl⟩
  exact⟨by omega,h.2.trans h1.2⟩
theorem SO(base:Int)(last:LP)(k:Int):∀(ws:LI) (s:Al),(ws.foldl (Al.aw base last k) s).cw.length<=s.cw.length+ws.length∧(ws.foldl (Al.aw base last k) s).aU=s.aU
 |[],s=>⟨by simp,rfl⟩
 |r::ws,s=>by
  have h:=SO base last k ws (s.aw base last k r);simp only[ik];have h1:(s.aw base last k r).cw.length<=s.cw.length+1∧(s.aw base last k r).aU=s.aU:=by
   unfold Al.aw;split
   ·exact⟨by simp[Al.oM,NS],rfl⟩
   ·exact⟨by omega,rfl⟩
  exact⟨by simp;omega,h.2.trans h1.2⟩
theorem apO{p:ie}{base:Int}{last:LP}{aw:Al}(hp:p.ok)(hl:p.l.length<12000)(hv:∀x∈p.l,(x.op=19∨x.op=20)->x.ar<=base):
 ∀q:Nat×Al,(q.1<=p.l.length∧q.2.cw.length<=4*q.1∧q.2.aU.length=q.1∧Al.sE base last q.1 q.2 (p.l.drop q.1)=aw)->
 bF Z 108 148 1 (.aO [.ae 1 aw.aU.length 6,J aw.dZ]) (uc p.cs aw.aU) (qv q.2 base p.gq p.l.length (q.1:Int) [] []) (Bv p.cs last q.2) (ao Z 108 0):=by
 refine cX (fun q=>p.l.length-q.1) _ _ _ _ ?_;rintro⟨i,s⟩ ⟨hi,hb,ho,hf⟩ ih;simp only at hi hb ho hf ih⊢;refine hD Du 2000 xv (by kernel_rfl) ?_;rw[apQ];refine aY.2 ⟨fun an=>?_,fun a8=>?_⟩
 ·have an:i<p.l.length:=by simpa using an
  have bU:=p.get hp an;have Il:=hv p.l[i] (xC an);rw[dv an,Al.sE]at hf;generalize p.l[i]=x at bU hf Il;have c1:=ao8 Il;have c2:=X0 x;have hr:=IZ x;have hw:=JL x;have a1:=SP base last i (b8 x) (cf x) s;have a2:=SR base (b8 x) ((cf x).foldl (Al.jg base last i (b8 x)) s);have a3:=SO base last i (b8 x) ((b8 x).foldl (Al.j8 base) ((cf x).foldl (Al.jg base last i (b8 x)) s)).rD;have a4:((b8 x).foldl (Al.j8 base) ((cf x).foldl (Al.jg base last i (b8 x)) s)).rD.cw=((b8 x).foldl (Al.j8 base) ((cf x).foldl (Al.jg base last i (b8 x)) s)).cw:=rfl;have a5:((b8 x).foldl (Al.j8 base) ((cf x).foldl (Al.jg base last i (b8 x)) s)).rD.aU=((b8 x).foldl (Al.j8 base) ((cf x).foldl (Al.jg base last i (b8 x)) s)).aU:=rfl;rw[a4]at a3;have ew:((b8 x).foldl (Al.aw base last i) ((b8 x).foldl (Al.j8 base) ((cf x).foldl (Al.jg base last i (b8 x)) s)).rD).aU=s.aU:=by rw[a3.2,a5,a2.2,a1.2]
  have next:=ih (i+1,s.tG base last i x) ⟨by simp;omega,by show((b8 x).foldl (Al.aw base last i) _).cw.length<=4*(i+1);omega,by show(_++[_]).length=i+1;rw[bj,ew,ho];rfl,hf⟩ (by simp;omega)
  simp only at next
  rw[←fE an (by omega)]at next
  obtain⟨o,r,a,n,s',ar⟩:=x;refine⟨i,rfl,an,o,r,a,n,s',ar,bU,⟨o,r,a,n,s',ar⟩,⟨rfl,rfl⟩,rfl,⟨o,r,a,n,s',ar⟩,⟨rfl,rfl⟩,?_⟩;exact apS (x:=⟨o,r,a,n,s',ar⟩) hr hw (by omega) rfl (by omega) (by rw[ew];omega) rfl next (0,s) ⟨by simp,by simp only[hI];omega,by simp⟩
 ·have a8:p.l.length<=i:=by simpa using a8
  rw[dV a8]at hf;have hf:s=aw:=hf;subst hf;exact⟨rfl,rfl⟩
def aeM:List (Nat×Nat):=[(0,0),(8,1),(1,2),(2,3),(3,4),(4,5),(5,6),(6,7),(7,8)]
def U8(cs:LV)(last:LP):List (Nat×bc):=[(0,.aL cs 50),(1,gT last),(2,.ay [.aS 5] 137),(3,.ay [.ad 6 0] 172),(4,.ay [J 0] 3),(5,.bM [] 0 true),(6,.ay [.bB 7 0 0 0 1 true] 173),(7,.ay [] 3)]
def QY(base:Int)(off len:Nat):List (Nat×AV):=[(1,J base),(4,.bg),(5,J 0),(6,.aS 1),(7,.ad 2 0),(8,.ad 3 0),(9,J (wI (base+1))),(10,.ad 4 0),(11,.b9 (.func 127) [] [.ad 3 0,.ad 2 0,.ad 4 0]),(34,.bB 0 off len 0 6 false),(35,J (Int.ofNat len)),(36,J 0)]
theorem avO(cs:LV)(last:LP)(base:Int):om 1 [8,1,2,3,4,3,2,4,0] (aq (AZ 7 (.aL [] 3) (U8 cs last++[(8,.aL [] 50)])) 9)=some ⟨aeM,Bv cs last (wC base)⟩:=by kernel_rfl
theorem avW(base:Int)(off len:Nat):tE (jS aeM) (bk ((At 8 6 [4] (QY base off len)).map fun x=>(x.1,uR 7 x.2))) [1,4,5,6,7,8,9,10,11,34,35,36]=some (qv (wC base) base off len 0 [] []):=by kernel_rfl
theorem Qe:bn Z Qd:=by refine dc Du ?_;rintro⟨p,base⟩ args H ⟨rfl,rfl,hp,hl,hv⟩;have hp:p.ok:=hp;refine eS Du 2000 xv 148 (by kernel_rfl) ?_;simp only[Q6,gS];rw[apP];refine⟨(p,base),⟨rfl,rfl,hp⟩,?_⟩;refine xa (n:=8) (l:=U8 p.cs (vQ base 0 [] p.l)) (T:=QY base p.gq p.l.length) 6 50 [4] ?_ rfl (by kernel_rfl);refine L8 (g:=7) (n:=9) (l:=U8 p.cs (vQ base 0 [] p.l)++[(8,.aL [] 50)]) (T:=At 8 6 [4] (QY base p.gq p.l.length)) (new:=.aL [] 3) ?_ rfl (fun φ e o h=>zj rfl h) rfl (by kernel_rfl);refine dN.rE (by kernel_rfl) (avO p.cs (vQ base 0 [] p.l) base) (avW base p.gq p.l.length) ?_;exact apO hp hl hv (0,wC base) ⟨by simp,by simp[wC],rfl,rfl⟩
end
end Go.Cl
