/- Part of a proof of ClauseValid. -/
import Derived.Test.YtanclcoobcaemaaGreatVB3
set_option linter.all false
set_option linter.unusedSectionVars false
set_option maxRecDepth 100000
namespace Go.Cl
open Go.Ev Go.Proofs
noncomputable section
def B0(i:a9)(l:LI)(b:Nat):LI:=
 if b=114 then l++[i.r]else if b=97∧(l=[]∨l.getD 0 0≠i.a)then l++[i.a]else if b=112 then l++gR i.ar else l
def E7:Ev.bz:=cz 116 (cM IB aeY cZ) E6
def bo(i:a9):LI:=c7 i (dm i.op).1.2.2.2.1
def bj(i:a9):LI:=c7 i (dm i.op).1.2.2.2.2
def Vu:dp a9 where
 ba i A H:=A=[.au (cb i)]∧H=aq
 v i:=.ad 0 (bo i).length 1
 aN i:=cC (bo i)
def Xh:dp a9 where
 ba i A H:=A=[.au (cb i)]∧H=aq
 v i:=.ad 0 (bj i).length 1
 aN i:=cC (bj i)
theorem YY{i i':a9}{A:LV}(h1:A=[.au (cb i)])(h2:A=[.au (cb i')]):i=i':=by rw[h1]at h2;simp only[List.cons.injEq,AV.au.injEq,and_true]at h2;exact Dy h2
theorem aeP:Vu.dx:=by rintro i i' A H ⟨h1,_⟩ ⟨h2,_⟩;rw[YY h1 h2]
theorem ahv:Xh.dx:=by rintro i i' A H ⟨h1,_⟩ ⟨h2,_⟩;rw[YY h1 h2]
def E8:Ev.bz:=cz 124 (cM Vu aeP cZ) E7
def E9:Ev.bz:=cz 125 (cM Xh ahv cZ) E8
def Pj:Ev.bz:=cz 82 (cM Vu aeP cZ) E9
def CL:Ev.bz:=cz 86 (cM Xh ahv cZ) Pj
def BH:Nat->LN:=kg [(5,[1,2,5,6]),(13,[1,2,5,6,7])]
def rb(i:a9)(l:LI):AH:=an [(0,mU i),(1,bp l 3)] 2
theorem afC(i:a9)(fs:LN)(L:LT)(Q:QT):
 b8 Z E6 BH L Q 1000 116 [.au (cb i),.aa fs] aq=(
 (an [] 0=aq∧True)∧ah (!bG (a9.mk i.op i.r i.a i.n i.cH i.ar)) (Q .bB aq) (L (aQ [(1,.aa fs),(2,.ab 0 0),(5,.bB),(6,J 0)]) (an [(0,mU i)] 1) (ao Z 116 0))):=by kernel_rfl
abbrev ve x0 x1 x2:=aQ [(1,.aa x0),(2,.ab 0 0),(5,.ad 1 x1 1),(6,J x2)]
abbrev FI x0 x1 x2 x3:=aQ [(1,.aa x0),(2,.ab 0 0),(5,.ad 1 x1 1),(6,J x2),(7,J x3)]
theorem aqX(i:a9)(fs:LN)(l:LI)(k:Int)(L:LT)(Q:QT):
 cO Z E6 BH L Q 1000 116 0 (ve fs l.length k) (ao Z 116 0) (rb i l)=(
 ah (decide (k<Int.ofNat fs.length)) (∃aD:Nat,k=(aD:Int)∧(∃b:Nat,fs[aD]?=some b∧ah (Int.ofNat b==114) (((aX l).length=l.length*1∧l.length+1<=65536∧true=true∧true=true)∧L (ve fs (l.length+1) (wI (k+1))) (an [(0,mU i),(1,.aF (aX l++[J i.r]) 3)] 2) (ao Z 116 0)) (∃bU:Nat,k=(bU:Int)∧(∃jD:Nat,fs[bU]?=some jD∧ah (Int.ofNat jD==97) (ah (Int.ofNat l.length==0) (((aX l).length=l.length*1∧l.length+1<=65536∧true=true∧true=true)∧L (ve fs (l.length+1) (wI (k+1))) (an [(0,mU i),(1,.aF (aX l++[J i.a]) 3)] 2) (ao Z 116 0)) (0<l.length∧(∃n:Int,bQ Z 3 (aX l) 0=some (J n:AV)∧ah (n !=i.a) (((aX l).length=l.length*1∧l.length+1<=65536∧true=true∧true=true)∧L (ve fs (l.length+1) (wI (k+1))) (an [(0,mU i),(1,.aF (aX l++[J i.a]) 3)] 2) (ao Z 116 0)) (∃cd:Nat,k=(cd:Int)∧(∃vA:Nat,fs[cd]?=some vA∧ah (Int.ofNat vA==112) (L (FI fs l.length k 1) (rb i l) (ao Z 116 1)) (L (ve fs l.length (wI (k+1))) (rb i l) (ao Z 116 0))))))) (∃cd:Nat,k=(cd:Int)∧(∃vA:Nat,fs[cd]?=some vA∧ah (Int.ofNat vA==112) (L (FI fs l.length k 1) (rb i l) (ao Z 116 1)) (L (ve fs l.length (wI (k+1))) (rb i l) (ao Z 116 0)))))))) (Q (.ad 0 l.length 1) (cC l))):=by kernel_rfl
theorem aqV(i:a9)(fs:LN)(l:LI)(k x:Int)(L:LT)(Q:QT):
 cO Z E6 BH L Q 1000 116 0 (FI fs l.length k x) (ao Z 116 1) (rb i l)=(
 ah (decide (x<=i.ar)) (((aX l).length=l.length*1∧l.length+1<=65536∧true=true∧true=true)∧L (FI fs (l.length+1) k (wI (x+1))) (an [(0,mU i),(1,.aF (aX l++[J x]) 3)] 2) (ao Z 116 1)) (L (ve fs l.length (wI (k+1))) (rb i l) (ao Z 116 0))):=by kernel_rfl
theorem aro(i:a9)(L:LT)(Q:QT):
 b8 Z E7 (fun _=>[]) L Q 1000 124 [.au (cb i)] aq=(
 ∃w:Int×jO×Bool,(([J i.op]:LV)=[J w.1]∧an [] 0=aq∧dm w.1=w.2)∧(∃ae:a9×LN,(([.au (cb i),.aa w.2.1.2.2.2.1]:LV)=[.au (cb ae.1),.aa ae.2]∧an [] 0=aq∧pN ae.2)∧Q (.ad 0 (c7 ae.1 ae.2).length 1) (cC (c7 ae.1 ae.2)))):=by kernel_rfl
theorem arp(i:a9)(L:LT)(Q:QT):
 b8 Z E8 (fun _=>[]) L Q 1000 125 [.au (cb i)] aq=(
 ∃w:Int×jO×Bool,(([J i.op]:LV)=[J w.1]∧an [] 0=aq∧dm w.1=w.2)∧(∃ae:a9×LN,(([.au (cb i),.aa w.2.1.2.2.2.2]:LV)=[.au (cb ae.1),.aa ae.2]∧an [] 0=aq∧pN ae.2)∧Q (.ad 0 (c7 ae.1 ae.2).length 1) (cC (c7 ae.1 ae.2)))):=by kernel_rfl
theorem aug(i:a9)(L:LT)(Q:QT):
 b8 Z E9 (fun _=>[]) L Q 1000 82 [.au (cb i)] aq=(
 ∃w:Int×jO×Bool,(([J i.op]:LV)=[J w.1]∧an [] 0=aq∧dm w.1=w.2)∧(∃ae:a9×LN,(([.au (cb i),.aa w.2.1.2.2.2.1]:LV)=[.au (cb ae.1),.aa ae.2]∧an [] 0=aq∧pN ae.2)∧Q (.ad 0 (c7 ae.1 ae.2).length 1) (cC (c7 ae.1 ae.2)))):=by kernel_rfl
theorem aum(i:a9)(L:LT)(Q:QT):
 b8 Z Pj (fun _=>[]) L Q 1000 86 [.au (cb i)] aq=(
 ∃w:Int×jO×Bool,(([J i.op]:LV)=[J w.1]∧an [] 0=aq∧dm w.1=w.2)∧(∃ae:a9×LN,(([.au (cb i),.aa w.2.1.2.2.2.2]:LV)=[.au (cb ae.1),.aa ae.2]∧an [] 0=aq∧pN ae.2)∧Q (.ad 0 (c7 ae.1 ae.2).length 1) (cC (c7 ae.1 ae.2)))):=by kernel_rfl
theorem aqW{i:a9}{fs:LN}{az:LI}{l0:LI}{k:Nat}(h0:0<=i.ar)(h1:i.ar<=4096)(hl:l0.length<=50000)(hk:k<100)
 (next:bJ Z 116 66 0 (.ad 0 az.length 1) (cC az) (ve fs (l0++gR i.ar).length ((k+1:Nat):Int)) (rb i (l0++gR i.ar)) (ao Z 116 0)):
 ∀x:Nat,((x:Int)<=i.ar)->
 bJ Z 116 66 0 (.ad 0 az.length 1) (cC az) (FI fs (l0++gR x).length (k:Int) ((x:Int)+1)) (rb i (l0++gR x)) (ao Z 116 1):=by
 refine cV (fun x=>i.ar.toNat-x) _ _ _ _ ?_;rintro x hx ih;refine hD F_ 1000 BH (by kernel_rfl) ?_;rw[aqV];have bF:=Ma (x:Int);refine aI.2 ⟨fun aj=>?_,fun aS=>?_⟩
 ·have aj:(x:Int)<i.ar:=by simp at aj;omega
  have e:wI ((x:Int)+1+1)=((x+1:Nat):Int)+1:=by rw[cX (by omega) (by omega)];simp
  have hi:gR ((x:Int)+1)=gR x++[(x:Int)+1]:=(acA (n:=(x:Int)) (k:=x) (by omega)).resolve_right (by omega);have En:gR ((x+1:Nat):Int)=gR x++[(x:Int)+1]:=by rw[←hi];simp
  refine⟨⟨by rw[sG];omega,by simp only[bI];omega,rfl,rfl⟩,?_⟩;have nx:=ih (x+1) (by simp;omega) (by omega);have hl3:(l0++gR x++[(x:Int)+1]).length=(l0++gR x).length+1:=bI;rw[En,←nG,hl3]at nx;simp only[rb,bp,zT _ [(x:Int)+1]]at nx;rw[e];exact nx
 ·have aS:i.ar<=x:=by simp at aS;omega
  have xL:i.ar=x:=by omega
  rw[xL]at next
  have e:wI ((k:Int)+1)=((k+1:Nat):Int):=by rw[cX (by omega) (by omega)];simp
  rw[e];exact next
theorem aqU{i:a9}{fs:LN}{az:LI}(h0:0<=i.ar)(h1:i.ar<=4096)(hf:fs.length<10):∀p:Nat×LI,(p.1<=fs.length∧p.2.length<=5000*p.1∧(fs.drop p.1).foldl (B0 i) p.2=az)->
 bJ Z 116 66 0 (.ad 0 az.length 1) (cC az) (ve fs p.2.length (p.1:Int)) (rb i p.2) (ao Z 116 0):=by
 refine cV (fun p=>fs.length-p.1) _ _ _ _ ?_;rintro⟨k,l⟩ ⟨hk,hl,ny⟩ ih;simp only at hk hl ny ih⊢;refine hD F_ 1000 BH (by kernel_rfl) ?_;rw[aqX];refine aI.2 ⟨fun aj=>?_,fun aS=>?_⟩
 ·have aj:k<fs.length:=by simpa using aj
  rw[dN aj,iy]at ny;have e:wI ((k:Int)+1)=((k+1:Nat):Int):=by rw[cX (by omega) (by omega)];simp
  have next:=fun l' (h:l'.length<=5000*(k+1)) (h2:(fs.drop (k+1)).foldl (B0 i) l'=az)=>ih (k+1,l') ⟨by simp;omega,h,h2⟩ (by simp;omega)
  simp only at next
  have Wn:∀x:Int,(fs.drop (k+1)).foldl (B0 i) (l++[x])=az->bJ Z 116 66 0 (.ad 0 az.length 1) (cC az) (ve fs (l.length+1) (wI ((k:Int)+1))) (an [(0,mU i),(1,.aF (aX l++[J x]) 3)] 2) (ao Z 116 0):=by
   intro x hx;have n1:=next (l++[x]) (by simp;omega) hx
   rw[bI]at n1;simp only[rb,bp,zT l [x]]at n1;rw[e];exact n1
  have bF:((aX l).length=l.length*1∧l.length+1<=65536∧true=true∧true=true):=⟨by rw[sG];omega,by omega,rfl,rfl⟩;have hb:=jn aj;refine⟨k,rfl,fs[k],hb,aI.2 ⟨fun h=>?_,fun RT=>?_⟩⟩
  ·have h:fs[k]=114:=by simp at h;omega
   rw[B0,aY h]at ny;exact⟨bF,Wn _ ny⟩
  have RT:fs[k]≠114:=by intro h;simp[h]at RT
  rw[B0,aB RT]at ny;have ag3:(¬(fs[k]=97∧(l=[]∨l.getD 0 0≠i.a)))->∃cd:Nat,((k:Int)=(cd:Int))∧∃vA:Nat,(fs[cd]? =some vA)∧ah ((Int.ofNat vA)==112)
   (bJ Z 116 66 0 (.ad 0 az.length 1) (cC az) (FI fs l.length (k:Int) 1) (rb i l) (ao Z 116 1))
   (bJ Z 116 66 0 (.ad 0 az.length 1) (cC az) (ve fs l.length (wI ((k:Int)+1))) (rb i l) (ao Z 116 0)):=by
   intro hn;rw[aB hn]at ny;refine⟨k,rfl,fs[k],hb,aI.2 ⟨fun h=>?_,fun h=>?_⟩⟩
   ·have h:fs[k]=112:=by simp at h;omega
    rw[aY h]at ny;have Bk:=Ma i.ar;have n1:=next (l++gR i.ar) (by simp only[bI];omega) ny
    have n2:=aqW (l0:=l) h0 h1 (by omega) (by omega) n1 0 (by simpa using h0);simpa[gR]using n2
   ·have h:fs[k]≠112:=by intro h2;simp[h2]at h
    rw[aB h]at ny;rw[e];exact next l (by omega) ny
  refine⟨k,rfl,fs[k],hb,aI.2 ⟨fun h=>?_,fun R0=>?_⟩⟩
  ·have h:fs[k]=97:=by simp at h;omega
   refine aI.2 ⟨fun h2=>?_,fun h2=>?_⟩
   ·have h2:l=[]:=by simpa using h2
    rw[aY ⟨h,.inl h2⟩]at ny;exact⟨bF,Wn _ ny⟩
   ·have h2:l≠[]:=by simpa using h2
    have mT:0<l.length:=List.length_pos_iff.2 h2;refine⟨mT,l.getD 0 0,?_,aI.2 ⟨fun h3=>?_,fun h3=>?_⟩⟩
    ·have:=ja mT;rwa[Nat.zero_mul]at this
    ·have h3:l.getD 0 0≠i.a:=by simpa using h3
     rw[aY ⟨h,.inr h3⟩]at ny;exact⟨bF,Wn _ ny⟩
    ·have h3:l.getD 0 0=i.a:=by simpa using h3
     exact ag3 (by rintro⟨_,h4|h4⟩;exact h2 h4;exact h4 h3)
  ·have R0:fs[k]≠97:=by intro h;simp[h]at R0
   exact ag3 (fun h=>R0 h.1)
 ·have aS:fs.length<=k:=by simpa using aS
  rw[eT aS,List.foldl_nil]at ny;subst ny;exact⟨rfl,rfl⟩
theorem apt{i:a9}{fs:LN}(h:pN fs)(hF:bG i=true):fs.foldl (B0 i) []=c7 i fs:=by
 rcases h with rfl|rfl|rfl|rfl|rfl<;>simp[c7,hF,eI,B0]
 by_cases ha:i.a=i.r
 ·simp[ha]
 ·have hb:¬i.r=i.a:=fun h=>ha h.symm
  simp[ha,hb]
theorem akT{fs:LN}(h:pN fs):fs.length<10:=by rcases h with rfl|rfl|rfl|rfl|rfl<;>simp
theorem Yg:bm Z E7:=by
 refine de F_ ?_;rintro⟨i,fs⟩ args H ⟨rfl,rfl,hf⟩;have hf:pN fs:=hf;simp only[IB];cases hF:bG i with
 |false=>
  have hr:c7 i fs=[]:=by simp[c7,hF]
  rw[hr];have lG:bG ⟨i.op,i.r,i.a,i.n,i.cH,i.ar⟩=false:=hF;refine Rs ?_;refine eS F_ 1000 BH 66 (by kernel_rfl) ?_;rw[afC];exact⟨⟨rfl,trivial⟩,aI.2 ⟨fun _=>⟨rfl,rfl⟩,fun h=>by rw[lG]at h;cases h⟩⟩
 |true=>have lG:bG ⟨i.op,i.r,i.a,i.n,i.cH,i.ar⟩=true:=hF;have hb:=Qj hF;refine eS F_ 1000 BH 66 (by kernel_rfl) ?_;rw[afC];refine⟨⟨rfl,trivial⟩,aI.2 ⟨fun h=>(by rw[lG]at h;cases h),fun _=>?_⟩⟩;refine A' (n:=1) (l:=[(0,mU i)]) (T:=[(1,.aa fs),(2,.ab 0 0),(5,.bB),(6,J 0)]) 1 3 [5] ?_ rfl (by kernel_rfl);exact aqU (az:=c7 i fs) hb.1 hb.2 (akT hf) (0,[]) ⟨by simp,by simp,apt hf hF⟩
theorem apN:∀r∈fe,pN r.2.2.2.1∧pN r.2.2.2.2:=by intro r hr;simp only[fe,sy,List.mem_nil_iff,or_false]at hr;rcases hr with rfl|rfl|rfl|rfl|rfl|rfl|rfl|rfl|rfl|rfl|rfl|rfl|rfl|rfl|rfl|rfl|rfl|rfl|rfl|rfl|rfl|rfl|rfl|rfl|rfl<;>simp[pN]
theorem u9(k:Int):pN (dm k).1.2.2.2.1∧pN (dm k).1.2.2.2.2:=by
 unfold dm;cases hs:eZ k with
 |none=>exact⟨.inl rfl,.inl rfl⟩
 |some r=>exact apN r (NL hs)
theorem Yh:bm Z E8:=by refine de Yg ?_;rintro i args H ⟨rfl,rfl⟩;refine eS Yg 1000 (fun _=>[]) 15 (by kernel_rfl) ?_;rw[aro];exact⟨(i.op,dm i.op),⟨rfl,rfl,rfl⟩,(i,(dm i.op).1.2.2.2.1),⟨rfl,rfl,(u9 _).1⟩,rfl,rfl⟩
theorem Yi:bm Z E9:=by refine de Yh ?_;rintro i args H ⟨rfl,rfl⟩;refine eS Yh 1000 (fun _=>[]) 15 (by kernel_rfl) ?_;rw[arp];exact⟨(i.op,dm i.op),⟨rfl,rfl,rfl⟩,(i,(dm i.op).1.2.2.2.2),⟨rfl,rfl,(u9 _).2⟩,rfl,rfl⟩
theorem Ye:bm Z Pj:=by refine de Yi ?_;rintro i args H ⟨rfl,rfl⟩;refine eS Yi 1000 (fun _=>[]) 15 (by kernel_rfl) ?_;rw[aug];exact⟨(i.op,dm i.op),⟨rfl,rfl,rfl⟩,(i,(dm i.op).1.2.2.2.1),⟨rfl,rfl,(u9 _).1⟩,rfl,rfl⟩
theorem F7:bm Z CL:=by refine de Ye ?_;rintro i args H ⟨rfl,rfl⟩;refine eS Ye 1000 (fun _=>[]) 15 (by kernel_rfl) ?_;rw[aum];exact⟨(i.op,dm i.op),⟨rfl,rfl,rfl⟩,(i,(dm i.op).1.2.2.2.2),⟨rfl,rfl,(u9 _).2⟩,rfl,rfl⟩
def oq(l:LI)(wr:List (Int×Bool)):List (Int×Bool):=l.foldl (fun m r=>up r true m) wr
def du(wr:List (Int×Bool))(r:Int):Bool:=(lk r wr).getD false
def lD(base:Int)(wr:List (Int×Bool))(r:Int):Bool:=decide (r>base)&& !du wr r
def pA(base:Int):List (Int×Bool)->cn->Bool
 |_,[]=>true
 |wr,i::l=>if bG i=false∨((i.op=19∨i.op=20)∧i.ar>base)then false
   else if(bo i).any (lD base wr)then false else pA base (oq (bj i) wr) l
def kq(l:cn)(base:Int):Bool:=if base<0∨base>4096∨l.length>131072 then false else pA base [] l
structure h_ where
 cs:LV
 fW:Nat
 l:cn
def h_.ok(p:h_):Prop:=(p.cs.drop p.fW).take (p.l.length*6)=cw p.l∧p.l.length<60000
abbrev rf x0:=an [(0,.aF x0 50)] 1
def gB(p:h_):AH:=rf p.cs
theorem aoI{p p':h_}(h:p.ok)(h':p'.ok)(h1:p.cs=p'.cs)(h2:p.fW=p'.fW)(h3:p.l.length=p'.l.length):p=p':=by obtain⟨cs,off,l⟩:=p;obtain⟨cs',ax9,l'⟩:=p';simp only at h1 h2 h3;subst h1 h2;have e:=h.1;have e':=h'.1;simp only at e e';rw[h3,e']at e;rw[Dz e]
def Jf:dp (h_×Int)where
 ba w A H:=A=[.bE 0 w.1.fW w.1.l.length 0 6 false,J w.2]∧H=gB w.1∧w.1.ok
 v w:=.ai (kq w.1.l w.2)
 aN w:=gB w.1
theorem aln{p p':h_}(h:gB p=gB p'):p.cs=p'.cs:=by have:=congrArg (fun H=>AH.bu H 0) h;simp only[gB,dy]at this;exact(aZ.aF.inj (dz this)).1
theorem Fj{w w':h_×Int}{A:LV}{H:AH}(h1:A=[.bE 0 w.1.fW w.1.l.length 0 6 false,J w.2])(h2:H=gB w.1)(h3:w.1.ok)
 (k1:A=[.bE 0 w'.1.fW w'.1.l.length 0 6 false,J w'.2]) (k2:H=gB w'.1) (k3:w'.1.ok):w=w':=by
 obtain⟨p,b⟩:=w;obtain⟨p',b'⟩:=w';rw[h1]at k1;rw[h2]at k2;simp only[List.cons.injEq,AV.bE.injEq,AV.ck.injEq,true_and,and_true]at k1;have e:=aoI h3 k3 (aln k2) k1.1.1 k1.1.2;simp only at e;rw[e,k1.2]
theorem aha:Jf.dx:=by rintro w w' A H ⟨h1,h2,h3⟩ ⟨k1,k2,k3⟩;rw[Fj h1 h2 h3 k1 k2 k3]
def CN:Ev.bz:=cz 107 (cM Jf aha cZ) CL
def zx:Nat->LN:=kg [(5,[1,5,24,25,26]),(10,[1,5,7,24,25,26,50,51,52]),(16,[1,5,24,25,26,67,68,69])]
def mb(wr:List (Int×Bool)):aZ:=.bC (bM vB 0 wr) wr.length true
def ayf(off len:Nat)(base i:Int):List (Nat×AV):=[(1,J base),(5,.aH 1),(24,.bE 0 off len 0 6 false),(25,J (Int.ofNat len)),(26,J i)]
abbrev FJ x0 x1 x2 x3 x4:=aQ [(1,J x0),(5,.aH 1),(24,.bE 0 x1 x2 0 6 x3),(25,J (Int.ofNat x2)),(26,J x4)]
theorem ap7(cs:LV)(off len:Nat)(base:Int)(L:LT)(Q:QT):
 b8 Z CL zx L Q 1000 107 [.bE 0 off len 0 6 false,J base] (rf cs)=(
 ah (decide (base<0)) (Q (.ai false) (rf cs)) (ah (decide (base>4096)) (Q (.ai false) (rf cs)) (ah (decide (Int.ofNat len>131072)) (Q (.ai false) (rf cs)) (L (FJ base off len false 0) (an [(0,.aF cs 50),(1,.bC [] 0 true)] 2) (ao Z 107 0))))):=by kernel_rfl
abbrev z9 x0 x1 x2 x3 x4 x5 x6:=aQ [(1,J x0),(5,.aH 1),(7,.ab 2 0),(24,.bE 0 x1 x2 0 6 x3),(25,J (Int.ofNat x2)),(26,J x4),(50,.ad 3 x5 1),(51,J (Int.ofNat x5)),(52,J x6)]
theorem ap8(cs:LV)(off len:Nat)(base i:Int)(wr:List (Int×Bool))(L:LT)(Q:QT):
 cO Z CL zx L Q 1000 107 1 (FJ base off len false i) (ao Z 107 0) (an [(0,.aF cs 50),(1,mb wr)] 2)=(
 ah (decide (i<Int.ofNat len)) (∃aD:Nat,i=(aD:Int)∧aD<len∧(∃n:Int,∃aL:Int,∃bD:Int,∃cf:Int,∃s:LN,∃cK:Int,bQ Z 50 cs (off+aD*6)=some (.au [J n,J aL,J bD,J cf,.aa s,J cK]:AV)∧(an [] 0=aq∧True)∧ah (!bG (a9.mk n aL bD cf s cK)) (Q (.ai false) (rf cs)) (ah (n==19) (ah (decide (cK>base)) (Q (.ai false) (rf cs)) (∃w:a9,(([.au [J n,J aL,J bD,J cf,.aa s,J cK]]:LV)=[.au (cb w)]∧an [] 0=aq)∧L (z9 base off len false i (bo w).length 0) (an [(0,.aF cs 50),(1,mb wr),(2,.aw [J n,J aL,J bD,J cf,.aa s,J cK] 50),(3,bp (bo w) 3)] 4) (ao Z 107 1))) (ah (n==20) (ah (decide (cK>base)) (Q (.ai false) (rf cs)) (∃w:a9,(([.au [J n,J aL,J bD,J cf,.aa s,J cK]]:LV)=[.au (cb w)]∧an [] 0=aq)∧L (z9 base off len false i (bo w).length 0) (an [(0,.aF cs 50),(1,mb wr),(2,.aw [J n,J aL,J bD,J cf,.aa s,J cK] 50),(3,bp (bo w) 3)] 4) (ao Z 107 1))) (∃w:a9,(([.au [J n,J aL,J bD,J cf,.aa s,J cK]]:LV)=[.au (cb w)]∧an [] 0=aq)∧L (z9 base off len false i (bo w).length 0) (an [(0,.aF cs 50),(1,mb wr),(2,.aw [J n,J aL,J bD,J cf,.aa s,J cK] 50),(3,bp (bo w) 3)] 4) (ao Z 107 1)))))) (Q (.ai true) (rf cs))):=by kernel_rfl
abbrev N2 x0 x1 x2 x3 x4 x5 x6:=aQ [(1,J x0),(5,.aH 1),(24,.bE 0 x1 x2 0 6 x3),(25,J (Int.ofNat x2)),(26,J x4),(67,.ad 2 x5 1),(68,J (Int.ofNat x5)),(69,J x6)]
abbrev Hh x0 x1 x2 x3:=an [(0,.aF x0 50),(1,mb x1),(2,mU x2),(3,bp x3 3)] 4
theorem ap9(cs:LV)(off len:Nat)(base i k:Int)(wr:List (Int×Bool))(x:a9)(rs:LI)(L:LT)(Q:QT):
 cO Z CL zx L Q 1000 107 1 (z9 base off len false i rs.length k) (ao Z 107 1) (Hh cs wr x rs)=(
 ah (decide (k<Int.ofNat rs.length)) (∃aD:Nat,k=(aD:Int)∧aD<rs.length∧(∃n:Int,bQ Z 3 (aX rs) (aD*1)=some (J n:AV)∧ah (decide (n>base)) (∃b:Bool,∃jD:Bool,fX Z 3 4 (bM vB 0 wr) (J n)=some (.ai b,jD)∧ah (!b) (Q (.ai false) (rf cs)) (L (z9 base off len false i rs.length (wI (k+1))) (Hh cs wr x rs) (ao Z 107 1))) (L (z9 base off len false i rs.length (wI (k+1))) (Hh cs wr x rs) (ao Z 107 1)))) (∃w:a9,(([.au (cb x)]:LV)=[.au (cb w)]∧an [] 0=aq)∧L (N2 base off len false i (bj w).length 0) (an [(0,.aF cs 50),(1,mb wr),(2,bp (bj w) 3)] 3) (ao Z 107 2))):=by kernel_rfl
theorem aqb(cs:LV)(off len:Nat)(base i k:Int)(wr:List (Int×Bool))(ws:LI)(L:LT)(Q:QT):
 cO Z CL zx L Q 1000 107 1 (N2 base off len false i ws.length k) (ao Z 107 2) (an [(0,.aF cs 50),(1,mb wr),(2,bp ws 3)] 3)=(
 ah (decide (k<Int.ofNat ws.length)) (∃aD:Nat,k=(aD:Int)∧aD<ws.length∧(∃n:Int,bQ Z 3 (aX ws) (aD*1)=some (J n:AV)∧(∃bw:List (AV×AV×Nat),∃c':Nat,jc Z 3 (bM vB 0 wr) wr.length (J n) (.ai true)=some (bw,c')∧L (N2 base off len false i ws.length (wI (k+1))) (an [(0,.aF cs 50),(1,.bC bw c' true),(2,bp ws 3)] 3) (ao Z 107 2)))) (L (FJ base off len false (wI (i+1))) (an [(0,.aF cs 50),(1,mb wr)] 2) (ao Z 107 0))):=by kernel_rfl
theorem Vz{i:a9}{fs:LN}(h:pN fs):(c7 i fs).length<5000:=by
 unfold c7;split
 ·rename_i hF;have hb:=Qj hF;have hl:=Ma i.ar;rcases h with rfl|rfl|rfl|rfl|rfl<;>simp[eI]
  ·split<;>simp
  ·omega
 ·simp
theorem Fw(i:a9):(bo i).length<5000:=Vz (u9 _).1
theorem FX(i:a9):(bj i).length<5000:=Vz (u9 _).2
theorem gq{k n:Nat}(h:k<n)(hn:n<1000000):wI ((k:Int)+1)=((k+1:Nat):Int):=by rw[cX (by omega) (by omega)];simp
theorem Ut(wr:List (Int×Bool))(r:Int):∃b:Bool,∃jD:Bool,fX Z 3 4 (bM vB 0 wr) (J r)=some (.ai b,jD)∧du wr r=b:=by
 rw[sq _ vL];unfold du;cases lk r wr with
 |none=>exact⟨false,false,by rw[Xl];rfl,rfl⟩
 |some b=>exact⟨b,true,rfl,rfl⟩
theorem ael(a b c d e f:AV)(l:LV):bQ Z 50 (a::b::c::d::e::f::l) 0=some (.au [a,b,c,d,e,f]):=by kernel_rfl
theorem aem(cs:LV)(off:Nat):bQ Z 50 cs off=bQ Z 50 (cs.drop off) 0:=by kernel_rfl
theorem WH{l:LV}{i:a9}(h:l.take 6=cb i):∃r,l=cb i++r:=⟨l.drop 6,by rw[←h,yc]⟩
theorem h_.get{p:h_}(h:p.ok){i:Nat}(hi:i<p.l.length):bQ Z 50 p.cs (p.fW+i*6)=some (.au (cb p.l[i])):=by
 have h1:(p.cs.drop (p.fW+i*6)).take 6=cb p.l[i]:=by have h2:=Rj hi;rw[←h.1,List.drop_take,List.take_take,List.drop_drop]at h2;rwa[Nat.min_eq_left (by omega)]at h2
 obtain⟨r,hr⟩:=WH h1;rw[aem,hr];exact ael _ _ _ _ _ _ _
section
variable{cs:LV}{off len:Nat}{base:Int}{az:Bool}
theorem aqc{i:Int}{Cv:List (Int×Bool)}{ws:LI}(hw:ws.length<5000)
 (next:bJ Z 107 77 1 (.ai az) (rf cs) (FJ base off len false (wI (i+1))) (an [(0,.aF cs 50),(1,mb (oq ws Cv))] 2) (ao Z 107 0)):
 ∀p:Nat×List (Int×Bool),(p.1<=ws.length∧oq (ws.drop p.1) p.2=oq ws Cv)->
 bJ Z 107 77 1 (.ai az) (rf cs) (N2 base off len false i ws.length (p.1:Int)) (an [(0,.aF cs 50),(1,mb p.2),(2,bp ws 3)] 3) (ao Z 107 2):=by
 refine cV (fun p=>ws.length-p.1) _ _ _ _ ?_;rintro⟨k,wr⟩ ⟨hk,hf⟩ ih;simp only at hk hf ih⊢;refine hD F7 1000 zx (by kernel_rfl) ?_;rw[aqb];refine aI.2 ⟨fun aj=>?_,fun aS=>?_⟩
 ·have aj:k<ws.length:=by simpa using aj
  rw[dN aj]at hf;have hg:ws.getD k 0=ws[k]:=by simp[List.getD,jn aj]
  refine⟨k,rfl,aj,ws[k],by rw[ja aj,hg],_,_,qb vB vL,?_⟩;rw[gq aj (by omega)];exact ih (k+1,up ws[k] true wr) ⟨by simp;omega,hf⟩ (by simp;omega)
 ·have aS:ws.length<=k:=by simpa using aS
  rw[eT aS]at hf;have hf:wr=oq ws Cv:=hf;rw[hf];exact next
theorem aqa{i:Int}{wr:List (Int×Bool)}{x:a9}(hb:(bo x).any (lD base wr)=true->az=false)
 (next:(bo x).any (lD base wr)=false->bJ Z 107 77 1 (.ai az) (rf cs) (FJ base off len false (wI (i+1))) (an [(0,.aF cs 50),(1,mb (oq (bj x) wr))] 2) (ao Z 107 0)):
 ∀k:Nat,(k<=(bo x).length∧((bo x).drop k).any (lD base wr)=(bo x).any (lD base wr))->
 bJ Z 107 77 1 (.ai az) (rf cs) (z9 base off len false i (bo x).length (k:Int)) (Hh cs wr x (bo x)) (ao Z 107 1):=by
 have hrl:=Fw x;refine cV (fun k=>(bo x).length-k) _ _ _ _ ?_;rintro k ⟨hk,hf⟩ ih;refine hD F7 1000 zx (by kernel_rfl) ?_;rw[ap9];refine aI.2 ⟨fun aj=>?_,fun aS=>?_⟩
 ·have aj:k<(bo x).length:=by simpa using aj
  rw[dN aj,List.any_cons]at hf;have hg:(bo x).getD k 0=(bo x)[k]:=by simp[List.getD,jn aj]
  refine⟨k,rfl,aj,(bo x)[k],by rw[ja aj,hg],?_⟩;rw[gq aj (by omega)];obtain⟨b,b1,h1,h2⟩:=Ut wr (bo x)[k];refine aI.2 ⟨fun hr=>⟨b,b1,h1,aI.2 ⟨fun h=>?_,fun h=>?_⟩⟩,fun hr=>?_⟩
  ·have:lD base wr (bo x)[k]=true:=by simp at h hr;simp[lD,h2,hr,h]
   rw[this,Bool.true_or]at hf;rw[hb hf.symm];exact⟨rfl,rfl⟩
  ·have:lD base wr (bo x)[k]=false:=by simp at h;simp[lD,h2,h]
   rw[this,Bool.false_or]at hf;exact ih (k+1) ⟨by omega,hf⟩ (by omega)
  ·have:lD base wr (bo x)[k]=false:=by simp[lD,hr]
   rw[this,Bool.false_or]at hf;exact ih (k+1) ⟨by omega,hf⟩ (by omega)
 ·have aS:(bo x).length<=k:=by simpa using aS
  rw[eT aS]at hf;have hf:(bo x).any (lD base wr)=false:=hf.symm;refine⟨x,⟨rfl,rfl⟩,?_⟩;exact aqc (FX x) (next hf) (0,wr) ⟨by simp,rfl⟩
end
theorem ap6{p:h_}{base:Int}{az:Bool}(hp:p.ok):
 ∀q:Nat×List (Int×Bool),(q.1<=p.l.length∧pA base q.2 (p.l.drop q.1)=az)->
 bJ Z 107 77 1 (.ai az) (gB p) (FJ base p.fW p.l.length false (q.1:Int)) (an [(0,.aF p.cs 50),(1,mb q.2)] 2) (ao Z 107 0):=by
 refine cV (fun q=>p.l.length-q.1) _ _ _ _ ?_;rintro⟨i,wr⟩ ⟨hi,hf⟩ ih;simp only at hi hf ih⊢;have kH:=hp.2;refine hD F7 1000 zx (by kernel_rfl) ?_;rw[ap8];refine aI.2 ⟨fun aj=>?_,fun aS=>?_⟩
 ·have aj:i<p.l.length:=by simpa using aj
  have bX:=p.get hp aj;rw[dN aj,pA]at hf;have next:pA base (oq (bj p.l[i]) wr) (p.l.drop (i+1))=az->_:=fun h=>ih (i+1,oq (bj p.l[i]) wr) ⟨by simp;omega,h⟩ (by simp;omega)
  generalize p.l[i]=x at bX hf next
  obtain⟨o,r,a,n,s,ar⟩:=x;refine⟨i,rfl,aj,o,r,a,n,s,ar,bX,⟨rfl,trivial⟩,?_⟩;have rest:¬(bG ⟨o,r,a,n,s,ar⟩=false∨((o=19∨o=20)∧ar>base))->∃w:a9,((([.au [J o,J r,J a,J n,.aa s,J ar]]:LV)=[.au [J w.op,J w.r,J w.a,J w.n,.aa w.cH,J w.ar]])∧an [] 0=aq)∧
   bJ Z 107 77 1 (.ai az) (gB p) (z9 base p.fW p.l.length false (i:Int) (bo w).length 0) (Hh p.cs wr ⟨o,r,a,n,s,ar⟩ (bo w)) (ao Z 107 1):=by
   intro hn;rw[aB hn]at hf;refine⟨⟨o,r,a,n,s,ar⟩,⟨rfl,rfl⟩,?_⟩;refine aqa (i:=(i:Int)) (x:=⟨o,r,a,n,s,ar⟩) (fun hb=>?_) (fun hb=>?_) 0 ⟨by simp,by simp⟩
   ·rw[aY hb]at hf;exact hf.symm
   ·rw[aB (by rw[hb];simp)]at hf;rw[gq aj (by omega)];exact next hf
  refine aI.2 ⟨fun h=>?_,fun h=>?_⟩
  ·rw[aY (.inl (by simpa using h))]at hf;subst hf;exact⟨rfl,rfl⟩
  have hF:¬bG ⟨o,r,a,n,s,ar⟩=false:=by simpa using h
  refine aI.2 ⟨fun h1=>aI.2 ⟨fun h2=>?_,fun h2=>?_⟩,fun h1=>aI.2 ⟨fun h3=>aI.2 ⟨fun h2=>?_,fun h2=>?_⟩,fun h3=>?_⟩⟩
  ·rw[aY (.inr ⟨.inl (by simpa using h1),by simpa using h2⟩)]at hf;subst hf;exact⟨rfl,rfl⟩
  ·exact rest (by rintro(h|⟨_,h⟩);exact hF h;simp at h2;omega)
  ·rw[aY (.inr ⟨.inr (by simpa using h3),by simpa using h2⟩)]at hf;subst hf;exact⟨rfl,rfl⟩
  ·exact rest (by rintro(h|⟨_,h⟩);exact hF h;simp at h2;omega)
  ·exact rest (by rintro(h|⟨h|h,_⟩);exact hF h;simp at h1;exact h1 h;simp at h3;exact h3 h)
 ·have aS:p.l.length<=i:=by simpa using aS
  rw[eT aS]at hf;subst hf;exact⟨rfl,rfl⟩
theorem F8:bm Z CN:=by
 refine de F7 ?_;rintro⟨p,base⟩ args H ⟨rfl,rfl,hp⟩;have hp:p.ok:=hp;have kH:=hp.2;refine eS F7 1000 zx 77 (by kernel_rfl) ?_;simp only[Jf,gB];rw[ap7];have h3:¬(p.l.length:Int)>131072:=by omega
 refine aI.2 ⟨fun h=>?_,fun h=>aI.2 ⟨fun h2=>?_,fun h2=>aI.2 ⟨fun h4=>?_,fun _=>?_⟩⟩⟩
 ·have:kq p.l base=false:=by simp at h;simp[kq,h]
  rw[this];exact⟨rfl,rfl⟩
 ·have:kq p.l base=false:=by simp at h2;simp[kq,h2]
  rw[this];exact⟨rfl,rfl⟩
 ·simp at h4;omega
 ·have:kq p.l base=pA base [] p.l:=by simp at h h2;unfold kq;rw[aB (by omega)]
  rw[this];exact ap6 hp (0,[]) ⟨by simp,rfl⟩
def Pk:Ev.bz:=cz 112 (cM Jf aha cZ) CN
def zy:Nat->LN:=kg [(5,[0,1,5,6]),(11,[0,1,5,6,7,8]),(17,[0,1,5,6,9,10])]
abbrev FK x0 x1 x2 x3 x4:=aQ [(0,.bE 0 x0 x1 0 6 x2),(1,J x3),(5,.aH 1),(6,J x4)]
abbrev xo x0:=an [(0,.aF x0 50)] 1
theorem aqy(cs:LV)(off len:Nat)(base:Int)(L:LT)(Q:QT):
 b8 Z CN zy L Q 1000 112 [.bE 0 off len 0 6 false,J base] (xo cs)=(
 ah (decide (base<0)) (Q (.ai false) (xo cs)) (ah (decide (base>4096)) (Q (.ai false) (xo cs)) (ah (decide (Int.ofNat len>131072)) (Q (.ai false) (xo cs)) (L (FK off len false base 0) (an [(0,.aF cs 50),(1,.bC [] 0 true)] 2) (ao Z 112 0))))):=by kernel_rfl
abbrev z_ x0 x1 x2 x3 x4 x5 x6:=aQ [(0,.bE 0 x0 x1 0 6 x2),(1,J x3),(5,.aH 1),(6,J x4),(7,.ad 2 x5 1),(8,J x6)]
abbrev uI x0 x1 x2:=an [(0,.aF x0 50),(1,mb x1),(2,bp x2 3)] 3
theorem aqz(cs:LV)(off len:Nat)(base i:Int)(wr:List (Int×Bool))(L:LT)(Q:QT):
 cO Z CN zy L Q 1000 112 1 (FK off len false base i) (ao Z 112 0) (an [(0,.aF cs 50),(1,mb wr)] 2)=(
 ah (decide (i<Int.ofNat len)) (∃aD:Nat,i=(aD:Int)∧aD<len∧(∃n:Int,∃aL:Int,∃bD:Int,∃cf:Int,∃s:LN,∃cK:Int,bQ Z 50 cs (off+aD*6)=some (.au [J n,J aL,J bD,J cf,.aa s,J cK]:AV)∧(an [] 0=aq∧True)∧ah (!bG (a9.mk n aL bD cf s cK)) (Q (.ai false) (xo cs)) (∃bU:Nat,i=(bU:Int)∧bU<len∧(∃fI:Int,bQ Z 3 cs (off+bU*6+0)=some (J fI:AV)∧ah (fI==19) (∃cd:Nat,i=(cd:Int)∧cd<len∧(∃gS:Int,bQ Z 3 cs (off+cd*6+5)=some (J gS:AV)∧ah (decide (gS>base)) (Q (.ai false) (xo cs)) (∃eE:Nat,i=(eE:Int)∧eE<len∧(∃jZ:Int,∃fT:Int,∃fJ:Int,∃lO:Int,∃db:LN,∃kL:Int,bQ Z 50 cs (off+eE*6)=some (.au [J jZ,J fT,J fJ,J lO,.aa db,J kL]:AV)∧(∃w:a9,(([.au [J jZ,J fT,J fJ,J lO,.aa db,J kL]]:LV)=[.au (cb w)]∧an [] 0=aq)∧L (z_ off len false base i (bo w).length 0) (uI cs wr (bo w)) (ao Z 112 1)))))) (∃cd:Nat,i=(cd:Int)∧cd<len∧(∃gS:Int,bQ Z 3 cs (off+cd*6+0)=some (J gS:AV)∧ah (gS==20) (∃eE:Nat,i=(eE:Int)∧eE<len∧(∃jZ:Int,bQ Z 3 cs (off+eE*6+5)=some (J jZ:AV)∧ah (decide (jZ>base)) (Q (.ai false) (xo cs)) (∃sj:Nat,i=(sj:Int)∧sj<len∧(∃fT:Int,∃fJ:Int,∃lO:Int,∃kL:Int,∃db:LN,∃adw:Int,bQ Z 50 cs (off+sj*6)=some (.au [J fT,J fJ,J lO,J kL,.aa db,J adw]:AV)∧(∃w:a9,(([.au [J fT,J fJ,J lO,J kL,.aa db,J adw]]:LV)=[.au (cb w)]∧an [] 0=aq)∧L (z_ off len false base i (bo w).length 0) (uI cs wr (bo w)) (ao Z 112 1)))))) (∃eE:Nat,i=(eE:Int)∧eE<len∧(∃jZ:Int,∃fT:Int,∃fJ:Int,∃lO:Int,∃db:LN,∃kL:Int,bQ Z 50 cs (off+eE*6)=some (.au [J jZ,J fT,J fJ,J lO,.aa db,J kL]:AV)∧(∃w:a9,(([.au [J jZ,J fT,J fJ,J lO,.aa db,J kL]]:LV)=[.au (cb w)]∧an [] 0=aq)∧L (z_ off len false base i (bo w).length 0) (uI cs wr (bo w)) (ao Z 112 1)))))))))) (Q (.ai true) (xo cs))):=by kernel_rfl
abbrev N3 x0 x1 x2 x3 x4 x5 x6:=aQ [(0,.bE 0 x0 x1 0 6 x2),(1,J x3),(5,.aH 1),(6,J x4),(9,.ad 2 x5 1),(10,J x6)]
theorem aqA(cs:LV)(off len:Nat)(base i k:Int)(wr:List (Int×Bool))(rs:LI)(L:LT)(Q:QT):
 cO Z CN zy L Q 1000 112 1 (z_ off len false base i rs.length k) (ao Z 112 1) (uI cs wr rs)=(
 ah (decide (k<Int.ofNat rs.length)) (∃aD:Nat,k=(aD:Int)∧aD<rs.length∧(∃n:Int,bQ Z 3 (aX rs) (aD*1)=some (J n:AV)∧ah (decide (n>base)) (∃bU:Nat,k=(bU:Int)∧bU<rs.length∧(∃aL:Int,bQ Z 3 (aX rs) (bU*1)=some (J aL:AV)∧(∃b:Bool,∃jD:Bool,fX Z 3 4 (bM vB 0 wr) (J aL)=some (.ai b,jD)∧ah (!b) (Q (.ai false) (xo cs)) (L (z_ off len false base i rs.length (wI (k+1))) (uI cs wr rs) (ao Z 112 1))))) (L (z_ off len false base i rs.length (wI (k+1))) (uI cs wr rs) (ao Z 112 1)))) (∃aD:Nat,i=(aD:Int)∧aD<len∧(∃n:Int,∃aL:Int,∃bD:Int,∃cf:Int,∃s:LN,∃cK:Int,bQ Z 50 cs (off+aD*6)=some (.au [J n,J aL,J bD,J cf,.aa s,J cK]:AV)∧(∃w:a9,(([.au [J n,J aL,J bD,J cf,.aa s,J cK]]:LV)=[.au (cb w)]∧an [] 0=aq)∧L (N3 off len false base i (bj w).length 0) (uI cs wr (bj w)) (ao Z 112 2))))):=by kernel_rfl
theorem aqC(cs:LV)(off len:Nat)(base i k:Int)(wr:List (Int×Bool))(ws:LI)(L:LT)(Q:QT):
 cO Z CN zy L Q 1000 112 1 (N3 off len false base i ws.length k) (ao Z 112 2) (uI cs wr ws)=(
 ah (decide (k<Int.ofNat ws.length)) (∃aD:Nat,k=(aD:Int)∧aD<ws.length∧(∃n:Int,bQ Z 3 (aX ws) (aD*1)=some (J n:AV)∧(∃bw:List (AV×AV×Nat),∃c':Nat,jc Z 3 (bM vB 0 wr) wr.length (J n) (.ai true)=some (bw,c')∧L (N3 off len false base i ws.length (wI (k+1))) (an [(0,.aF cs 50),(1,.bC bw c' true),(2,bp ws 3)] 3) (ao Z 112 2)))) (L (FK off len false base (wI (i+1))) (an [(0,.aF cs 50),(1,mb wr)] 2) (ao Z 112 0))):=by kernel_rfl
theorem h_.uo{p:h_}(h:p.ok){i:Nat}(hi:i<p.l.length):∃r,p.cs.drop (p.fW+i*6)=cb p.l[i]++r:=by
 have h1:(p.cs.drop (p.fW+i*6)).take 6=cb p.l[i]:=by have h2:=Rj hi;rw[←h.1,List.drop_take,List.take_take,List.drop_drop]at h2;rwa[Nat.min_eq_left (by omega)]at h2
 exact WH h1
theorem h_.cell{p:h_}(h:p.ok){i:Nat}(hi:i<p.l.length)(j:Nat)(hj:j<6):bQ Z 3 p.cs (p.fW+i*6+j)=(cb p.l[i])[j]? :=by obtain⟨r,hr⟩:=p.uo h hi;rw[BR,←List.getElem?_drop,hr,List.getElem?_append_left (by rw[AN];exact hj)]
section
variable{p:h_}{base:Int}{az:Bool}{i:Nat}
theorem aqD{Cv:List (Int×Bool)}{ws:LI}(hw:ws.length<5000)
 (next:bJ Z 112 102 1 (.ai az) (gB p) (FK p.fW p.l.length false base (wI ((i:Int)+1))) (an [(0,.aF p.cs 50),(1,mb (oq ws Cv))] 2) (ao Z 112 0)):
 ∀q:Nat×List (Int×Bool),(q.1<=ws.length∧oq (ws.drop q.1) q.2=oq ws Cv)->
 bJ Z 112 102 1 (.ai az) (gB p) (N3 p.fW p.l.length false base (i:Int) ws.length (q.1:Int)) (uI p.cs q.2 ws) (ao Z 112 2):=by
 refine cV (fun q=>ws.length-q.1) _ _ _ _ ?_;rintro⟨k,wr⟩ ⟨hk,hf⟩ ih;simp only at hk hf ih⊢;refine hD F8 1000 zy (by kernel_rfl) ?_;rw[aqC];refine aI.2 ⟨fun aj=>?_,fun aS=>?_⟩
 ·have aj:k<ws.length:=by simpa using aj
  rw[dN aj]at hf;have hg:ws.getD k 0=ws[k]:=by simp[List.getD,jn aj]
  refine⟨k,rfl,aj,ws[k],by rw[ja aj,hg],_,_,qb vB vL,?_⟩;rw[gq aj (by omega)];exact ih (k+1,up ws[k] true wr) ⟨by simp;omega,hf⟩ (by simp;omega)
 ·have aS:ws.length<=k:=by simpa using aS
  rw[eT aS]at hf;have hf:wr=oq ws Cv:=hf;rw[hf];exact next
theorem aqB(hp:p.ok)(hi:i<p.l.length){wr:List (Int×Bool)}{x:a9}(hx:p.l[i]=x)(hb:(bo x).any (lD base wr)=true->az=false)
 (next:(bo x).any (lD base wr)=false->bJ Z 112 102 1 (.ai az) (gB p) (FK p.fW p.l.length false base (wI ((i:Int)+1))) (an [(0,.aF p.cs 50),(1,mb (oq (bj x) wr))] 2) (ao Z 112 0)):
 ∀k:Nat,(k<=(bo x).length∧((bo x).drop k).any (lD base wr)=(bo x).any (lD base wr))->
 bJ Z 112 102 1 (.ai az) (gB p) (z_ p.fW p.l.length false base (i:Int) (bo x).length (k:Int)) (uI p.cs wr (bo x)) (ao Z 112 1):=by
 have hrl:=Fw x;refine cV (fun k=>(bo x).length-k) _ _ _ _ ?_;rintro k ⟨hk,hf⟩ ih;refine hD F8 1000 zy (by kernel_rfl) ?_;rw[gB,aqA];refine aI.2 ⟨fun aj=>?_,fun aS=>?_⟩
 ·have aj:k<(bo x).length:=by simpa using aj
  rw[dN aj,List.any_cons]at hf;have hg:(bo x).getD k 0=(bo x)[k]:=by simp[List.getD,jn aj]
  refine⟨k,rfl,aj,(bo x)[k],by rw[ja aj,hg],?_⟩;rw[gq aj (by omega)];obtain⟨b,b1,h1,h2⟩:=Ut wr (bo x)[k];refine aI.2 ⟨fun hr=>⟨k,rfl,aj,(bo x)[k],by rw[ja aj,hg],b,b1,h1,aI.2 ⟨fun h=>?_,fun h=>?_⟩⟩,fun hr=>?_⟩
  ·have:lD base wr (bo x)[k]=true:=by simp at h hr;simp[lD,h2,hr,h]
   rw[this,Bool.true_or]at hf;rw[hb hf.symm];exact⟨rfl,rfl⟩
  ·have:lD base wr (bo x)[k]=false:=by simp at h;simp[lD,h2,h]
   rw[this,Bool.false_or]at hf;exact ih (k+1) ⟨by omega,hf⟩ (by omega)
  ·have:lD base wr (bo x)[k]=false:=by simp[lD,hr]
   rw[this,Bool.false_or]at hf;exact ih (k+1) ⟨by omega,hf⟩ (by omega)
 ·have aS:(bo x).length<=k:=by simpa using aS
  rw[eT aS]at hf;have hf:(bo x).any (lD base wr)=false:=hf.symm;have bX:=p.get hp hi;rw[hx]at bX;refine⟨i,rfl,hi,x.op,x.r,x.a,x.n,x.cH,x.ar,bX,x,⟨rfl,rfl⟩,?_⟩;exact aqD (FX x) (next hf) (0,wr) ⟨by simp,rfl⟩
end
theorem aqx{p:h_}{base:Int}{az:Bool}(hp:p.ok):
 ∀q:Nat×List (Int×Bool),(q.1<=p.l.length∧pA base q.2 (p.l.drop q.1)=az)->
 bJ Z 112 102 1 (.ai az) (gB p) (FK p.fW p.l.length false base (q.1:Int)) (an [(0,.aF p.cs 50),(1,mb q.2)] 2) (ao Z 112 0):=by
 refine cV (fun q=>p.l.length-q.1) _ _ _ _ ?_;rintro⟨i,wr⟩ ⟨hi,hf⟩ ih;simp only at hi hf ih⊢;have kH:=hp.2;refine hD F8 1000 zy (by kernel_rfl) ?_;rw[gB,aqz];refine aI.2 ⟨fun aj=>?_,fun aS=>?_⟩
 ·have aj:i<p.l.length:=by simpa using aj
  have bX:=p.get hp aj;have xr:=p.cell hp aj 0 (by omega);have Sz:=p.cell hp aj 5 (by omega);rw[dN aj,pA]at hf;have next:pA base (oq (bj p.l[i]) wr) (p.l.drop (i+1))=az->_:=fun h=>ih (i+1,oq (bj p.l[i]) wr) ⟨by simp;omega,h⟩ (by simp;omega)
  have hx:p.l[i]=p.l[i]:=rfl;generalize h0:p.l[i]=x at bX hf next xr Sz
  obtain⟨o,r,a,n,s,ar⟩:=x;refine⟨i,rfl,aj,o,r,a,n,s,ar,bX,⟨rfl,trivial⟩,?_⟩;have rest:¬(bG ⟨o,r,a,n,s,ar⟩=false∨((o=19∨o=20)∧ar>base))->
   bJ Z 112 102 1 (.ai az) (gB p) (z_ p.fW p.l.length false base (i:Int) (bo ⟨o,r,a,n,s,ar⟩).length ((0:Nat):Int)) (uI p.cs wr (bo ⟨o,r,a,n,s,ar⟩)) (ao Z 112 1):=by
   intro hn;rw[aB hn]at hf;refine aqB hp aj h0 (fun hb=>?_) (fun hb=>?_) 0 ⟨by simp,by simp⟩
   ·rw[aY hb]at hf;exact hf.symm
   ·rw[aB (by rw[hb];simp)]at hf;rw[gq aj (by omega)];exact next hf
  refine aI.2 ⟨fun h=>?_,fun h=>?_⟩
  ·rw[aY (.inl (by simpa using h))]at hf;subst hf;exact⟨rfl,rfl⟩
  have hF:¬bG ⟨o,r,a,n,s,ar⟩=false:=by simpa using h
  refine⟨i,rfl,aj,o,xr,?_⟩;refine aI.2 ⟨fun h1=>⟨i,rfl,aj,ar,Sz,aI.2 ⟨fun h2=>?_,fun h2=>⟨i,rfl,aj,o,r,a,n,s,ar,bX,⟨o,r,a,n,s,ar⟩,⟨rfl,rfl⟩,?_⟩⟩⟩,fun h1=>⟨i,rfl,aj,o,xr,aI.2 ⟨fun h3=>⟨i,rfl,aj,ar,Sz,aI.2 ⟨fun h2=>?_,fun h2=>⟨i,rfl,aj,o,r,a,n,s,ar,bX,⟨o,r,a,n,s,ar⟩,⟨rfl,rfl⟩,?_⟩⟩⟩,fun h3=>⟨i,rfl,aj,o,r,a,n,s,ar,bX,⟨o,r,a,n,s,ar⟩,⟨rfl,rfl⟩,?_⟩⟩⟩⟩
  ·rw[aY (.inr ⟨.inl (by simpa using h1),by simpa using h2⟩)]at hf;subst hf;exact⟨rfl,rfl⟩
  ·exact rest (by rintro(h|⟨_,h⟩);exact hF h;simp at h2;omega)
  ·rw[aY (.inr ⟨.inr (by simpa using h3),by simpa using h2⟩)]at hf;subst hf;exact⟨rfl,rfl⟩
  ·exact rest (by rintro(h|⟨_,h⟩);exact hF h;simp at h2;omega)
  ·exact rest (by rintro(h|⟨h|h,_⟩);exact hF h;simp at h1;exact h1 h;simp at h3;exact h3 h)
 ·have aS:p.l.length<=i:=by simpa using aS
  rw[eT aS]at hf;subst hf;exact⟨rfl,rfl⟩
theorem Yf:bm Z Pk:=by
 refine de F8 ?_;rintro⟨p,base⟩ args H ⟨rfl,rfl,hp⟩;have hp:p.ok:=hp;have kH:=hp.2;refine eS F8 1000 zy 102 (by kernel_rfl) ?_;simp only[Jf,gB];rw[aqy];have h3:¬(p.l.length:Int)>131072:=by omega
 refine aI.2 ⟨fun h=>?_,fun h=>aI.2 ⟨fun h2=>?_,fun h2=>aI.2 ⟨fun h4=>?_,fun _=>?_⟩⟩⟩
 ·have:kq p.l base=false:=by simp at h;simp[kq,h]
  rw[this];exact⟨rfl,rfl⟩
 ·have:kq p.l base=false:=by simp at h2;simp[kq,h2]
  rw[this];exact⟨rfl,rfl⟩
 ·simp at h4;omega
 ·have:kq p.l base=pA base [] p.l:=by simp at h h2;unfold kq;rw[aB (by omega)]
  rw[this];exact aqx hp (0,[]) ⟨by simp,rfl⟩
def fD(l:LI):AH:=an [(0,.aw [.ad 1 l.length 1] 173),(1,bp l 3)] 2
def MW(l:LI):AH:=an [(0,.aw [.ad 2 l.length 1] 173),(1,.b9 []),(2,bp l 3)] 3
theorem Eb{l m:LI}(h:fD l=fD m):l=m:=by have:=congrArg (fun H=>AH.bu H 1) h;simp only[fD,dy]at this;exact yf (dz this)
def iW(l:LI)(i j:Nat):LI:=(l.set i (l.getD j 0)).set j (l.getD i 0)
def acX:dp LI where
 ba l A H:=A=[.ad 0 l.length 1]∧H=cC l
 v l:=J (Int.ofNat l.length)
 aN l:=cC l
def ac0:dp (LI×Nat×Nat)where
 ba w A H:=A=[.ad 0 w.1.length 1,J (w.2.1:Int),J (w.2.2:Int)]∧H=cC w.1∧w.2.1<w.1.length∧w.2.2<w.1.length
 v w:=.ai (decide (w.1.getD w.2.1 0<w.1.getD w.2.2 0))
 aN w:=cC w.1
def agV:dp (LI×Nat×Nat)where
 ba w A H:=A=[.ad 0 w.1.length 1,J (w.2.1:Int),J (w.2.2:Int)]∧H=cC w.1∧w.2.1<w.1.length∧w.2.2<w.1.length
 v w:=.aJ []
 aN w:=cC (iW w.1 w.2.1 w.2.2)
def Vh:dp (LI×Int)where
 ba w A H:=A=[.ab 0 0,.eK 3 (J w.2)]∧H=fD w.1∧w.1.length<60000
 v w:=.aJ []
 aN w:=MW (w.1++[w.2])
def Ve:dp (LI×Int)where
 ba w A H:=A=[.ab 0 0]∧H=fD (w.1++[w.2])∧w.1.length<60000
 v w:=.eK 3 (J w.2)
 aN w:=fD w.1
theorem anh:acX.dx:=by rintro l l' A H ⟨_,h⟩ ⟨_,h'⟩;rw[Hp (h.symm.trans h')]
theorem acq{w w':LI×Nat×Nat}{A:LV}{H:AH}(h1:A=[.ad 0 w.1.length 1,J (w.2.1:Int),J (w.2.2:Int)])(h2:H=cC w.1)
 (k1:A=[.ad 0 w'.1.length 1,J (w'.2.1:Int),J (w'.2.2:Int)]) (k2:H=cC w'.1):w=w':=by
 obtain⟨l,i,j⟩:=w;obtain⟨l',i',j'⟩:=w';have e:=Hp (h2.symm.trans k2);rw[h1]at k1;simp only[List.cons.injEq,AV.ck.injEq,true_and,and_true]at k1 e;have e1:i=i':=by omega
 have e2:j=j':=by omega
 rw[e,e1,e2]
theorem ani:ac0.dx:=by rintro w w' A H ⟨h1,h2,_⟩ ⟨k1,k2,_⟩;rw[acq h1 h2 k1 k2]
theorem avT:agV.dx:=by rintro w w' A H ⟨h1,h2,_⟩ ⟨k1,k2,_⟩;rw[acq h1 h2 k1 k2]
theorem aoW:Vh.dx:=by rintro⟨l,x⟩ ⟨l',x'⟩ A H ⟨h1,h2,_⟩ ⟨k1,k2,_⟩;have e:=Eb (h2.symm.trans k2);rw[h1]at k1;simp only[List.cons.injEq,AV.eK.injEq,AV.ck.injEq,true_and,and_true]at k1 e;rw[e,k1]
theorem aoQ:Ve.dx:=by rintro⟨l,x⟩ ⟨l',x'⟩ A H ⟨h1,h2,_⟩ ⟨k1,k2,_⟩;have e:=Eb (h2.symm.trans k2);have e2:=List.append_inj' e rfl;simp only[List.cons.injEq,and_true]at e2;rw[e2.1,e2.2]
def G1:Ev.bz:=cz 130 (cM acX anh cZ) Pk
def G2:Ev.bz:=cz 164 (cM ac0 ani cZ) G1
def G3:Ev.bz:=cz 167 (cM agV avT cZ) G2
def G4:Ev.bz:=cz 166 (cM Vh aoW cZ) G3
def G5:Ev.bz:=cz 165 (cM Ve aoQ cZ) G4
theorem arC(l:LI)(L:LT)(Q:QT):
 b8 Z Pk (fun _=>[]) L Q 1000 130 [.ad 0 l.length 1] (cC l)=(
 Q (J (Int.ofNat l.length)) (cC l)):=by kernel_rfl
theorem asb(l:LI)(i j:Int)(L:LT)(Q:QT):
 b8 Z G1 (fun _=>[]) L Q 1000 164 [.ad 0 l.length 1,J i,J j] (cC l)=(
 ∃aD:Nat,i=(aD:Int)∧aD<l.length∧(∃n:Int,bQ Z 3 (aX l) (aD*1)=some (J n:AV)∧(∃bU:Nat,j=(bU:Int)∧bU<l.length∧(∃aL:Int,bQ Z 3 (aX l) (bU*1)=some (J aL:AV)∧Q (.ai (decide (n<aL))) (cC l))))):=by kernel_rfl
theorem ase(l:LI)(i j:Int)(L:LT)(Q:QT):
 b8 Z G2 (fun _=>[]) L Q 1000 167 [.ad 0 l.length 1,J i,J j] (cC l)=(
 ∃aD:Nat,j=(aD:Int)∧aD<l.length∧(∃n:Int,bQ Z 3 (aX l) (aD*1)=some (J n:AV)∧(∃bU:Nat,i=(bU:Int)∧bU<l.length∧(∃aL:Int,bQ Z 3 (aX l) (bU*1)=some (J aL:AV)∧(∃cd:Nat,i=(cd:Int)∧cd<l.length∧cd*1+1<=(aX l).length∧(∃eE:Nat,j=(eE:Int)∧eE<l.length∧eE*1+1<=(fY (aX l) (cd*1) [J n]).length∧Q (.aJ []) (an [(0,.aF (fY (fY (aX l) (cd*1) [J n]) (eE*1) [J aL]) 3)] 1))))))):=by kernel_rfl
theorem asd(l:LI)(x:Int)(L:LT)(Q:QT):
 b8 Z G3 (fun _=>[]) L Q 1000 166 [.ab 0 0,.eK 3 (J x)] (fD l)=(
 ((aX l).length=l.length*1∧l.length+1<=65536∧true=true∧true=true)∧Q (.aJ []) (an [(0,.aw [.ad 2 (l.length+1) 1] 173),(1,.b9 []),(2,.aF (aX l++[J x]) 3)] 3)):=by kernel_rfl
theorem asc(l:LI)(L:LT)(Q:QT):
 b8 Z G4 (fun _=>[]) L Q 1000 165 [.ab 0 0] (fD l)=(
 ∃i:Nat,wI (Int.ofNat l.length-1)=(i:Int)∧i<l.length∧(∃n:Int,bQ Z 3 (aX l) (i*1)=some (J n:AV)∧1<=l.length∧(∃aD:Nat,wI (Int.ofNat l.length-1)=(aD:Int)∧(0<=aD∧aD<=l.length)∧Q (.eK 3 (J n)) (an [(0,.aw [.ad 1 (aD-0) 1] 173),(1,bp l 3)] 2)))):=by kernel_rfl
theorem axS{l:LI}{i:Nat}(h:i<l.length):bQ Z 3 (aX l) (i*1)=some (J (l.getD i 0)):=ja h
theorem Yk:bm Z G1:=by refine de Yf ?_;rintro l args H ⟨rfl,rfl⟩;refine eS Yf 1000 (fun _=>[]) 5 (by kernel_rfl) ?_;rw[arC];exact⟨rfl,rfl⟩
theorem Yl:bm Z G2:=by refine de Yk ?_;rintro⟨l,i,j⟩ args H ⟨rfl,rfl,hi,hj⟩;refine eS Yk 1000 (fun _=>[]) 16 (by kernel_rfl) ?_;rw[asb];exact⟨i,rfl,hi,_,ja hi,j,rfl,hj,_,ja hj,rfl,rfl⟩
theorem Ym:bm Z G3:=by
 refine de Yl ?_;rintro⟨l,i,j⟩ args H ⟨rfl,rfl,hi,hj⟩;have hi:i<l.length:=hi;have hj:j<l.length:=hj;refine eS Yl 1000 (fun _=>[]) 20 (by kernel_rfl) ?_;rw[ase];have e1:fY (aX l) (i*1) [J (l.getD j 0)]=aX (l.set i (l.getD j 0)):=by rw[Nat.mul_one];exact Nm _ hi
 have e2:fY (aX (l.set i (l.getD j 0))) (j*1) [J (l.getD i 0)]=aX (iW l i j):=by rw[Nat.mul_one];exact Nm _ (by simpa using hj)
 refine⟨j,rfl,hj,_,ja hj,i,rfl,hi,_,ja hi,i,rfl,hi,by show i*1+1<=(aX l).length;rw[sG];omega,j,rfl,hj,by rw[e1,sG,List.length_set];show j*1+1<=l.length;omega,rfl,?_⟩;rw[e1,e2];have:(iW l i j).length=l.length:=by simp[iW]
 rfl
theorem Yn:bm Z G4:=by refine de Ym ?_;rintro⟨l,x⟩ args H ⟨rfl,rfl,hl⟩;have hl:l.length<60000:=hl;refine eS Ym 1000 (fun _=>[]) 20 (by kernel_rfl) ?_;rw[asd];refine⟨⟨by rw[sG];omega,by omega,rfl,rfl⟩,rfl,?_⟩;simp only[Vh,MW,bp,zT,bI];rfl
theorem Pu:bm Z G5:=by
 refine de Yn ?_;rintro⟨l,x⟩ args H ⟨rfl,rfl,hl⟩;have hl:l.length<60000:=hl;simp only[Ve];have bF:(l++[x]).length=l.length+1:=by simp
 have e:wI (Int.ofNat (l++[x]).length-1)=((l.length:Nat):Int):=by
  rw[bF];have e0:Int.ofNat (l.length+1)-1=(l.length:Int):=by simp
  rw[e0,cX (by omega) (by omega)]
 have hg:(l++[x]).getD l.length 0=x:=by simp[List.getD]
 have key:dT Z 165 [.ab 0 0] (fD (l++[x])) (.eK 3 (J x)) (an [(0,.aw [.ad 1 l.length 1] 173),(1,.aF (aX (l++[x])) 3)] 2):=by refine eS Yn 1000 (fun _=>[]) 27 (by kernel_rfl) ?_;rw[asc];exact⟨l.length,e,by omega,x,by rw[ja (by omega),hg],by omega,l.length,e,⟨by omega,by omega⟩,rfl,rfl⟩
 have h2:=KK (g:=1) (new:=bp l 3) key rfl (fun φ e o h=>by
  have h3:=ahI (ic:=3) l.length h;have:(aX (l++[x])).take l.length=aX l:=by rw[zT,←sG l,List.take_left]
  rw[this]at h3;exact h3) rfl (fB 2)
 exact h2
def sO:Nat->LI->Nat->LI
 |0,l,_=>l
 |f+1,l,j=>if(j-1)/ 2=j∨¬l.getD j 0<l.getD ((j-1)/ 2) 0 then l else sO f (iW l ((j-1)/ 2) j) ((j-1)/ 2)
def oB:Nat->LI->Nat->Nat->LI×Nat
 |0,l,i,_=>(l,i)
 |f+1,l,i,n=>
  if 2*i+1>=n then(l,i)
  else
   let j:=if 2*i+2<n∧l.getD (2*i+2) 0<l.getD (2*i+1) 0 then 2*i+2 else 2*i+1
   if¬l.getD j 0<l.getD i 0 then(l,i)else oB f (iW l i j) j n
def upX:dp (LI×Nat)where
 ba w A H:=A=[.eK 172 (.ab 0 0),J (w.2:Int)]∧H=fD w.1∧w.2<w.1.length∧w.1.length<60000
 v w:=.aJ []
 aN w:=fD (sO (w.2+1) w.1 w.2)
def Z_:dp (LI×Nat×Nat)where
 ba w A H:=A=[.eK 172 (.ab 0 0),J (w.2.1:Int),J (w.2.2:Int)]∧H=fD w.1∧w.2.2<=w.1.length∧w.1.length<60000∧w.2.1<=w.2.2∧w.2.1<w.1.length
 v w:=.ai (decide ((oB (w.2.2+1) w.1 w.2.1 w.2.2).2>w.2.1))
 aN w:=fD (oB (w.2.2+1) w.1 w.2.1 w.2.2).1
def ab6:dp (LI×Int)where
 ba w A H:=A=[.eK 172 (.ab 0 0),.eK 3 (J w.2)]∧H=fD w.1∧w.1.length<50000
 v w:=.aJ []
 aN w:=MW (sO (w.1.length+1) (w.1++[w.2]) w.1.length)
def mc(l:LI):LI:=(oB l.length (iW l 0 (l.length-1)) 0 (l.length-1)).1
def ab5:dp LI where
 ba l A H:=A=[.eK 172 (.ab 0 0)]∧H=fD l∧0<l.length∧l.length<50000
 v l:=.eK 3 (J ((mc l).getD (l.length-1) 0))
 aN l:=fD ((mc l).take (l.length-1))
theorem awa:upX.dx:=by
 rintro⟨l,j⟩ ⟨l',j'⟩ A H ⟨h1,h2,_⟩ ⟨k1,k2,_⟩;have e:=Eb (h2.symm.trans k2);rw[h1]at k1;simp only[List.cons.injEq,AV.ck.injEq,true_and,and_true]at k1 e;have e1:j=j':=by omega
 rw[e,e1]
theorem ajA:Z_.dx:=by
 rintro⟨l,i,j⟩ ⟨l',i',j'⟩ A H ⟨h1,h2,_⟩ ⟨k1,k2,_⟩;have e:=Eb (h2.symm.trans k2);rw[h1]at k1;simp only[List.cons.injEq,AV.ck.injEq,true_and,and_true]at k1 e;have e1:i=i':=by omega
 have e2:j=j':=by omega
 rw[e,e1,e2]
theorem amk:ab6.dx:=by rintro⟨l,x⟩ ⟨l',x'⟩ A H ⟨h1,h2,_⟩ ⟨k1,k2,_⟩;have e:=Eb (h2.symm.trans k2);rw[h1]at k1;simp only[List.cons.injEq,AV.eK.injEq,AV.ck.injEq,true_and,and_true]at k1 e;rw[e,k1]
theorem ami:ab5.dx:=by rintro l l' A H ⟨_,h2,_⟩ ⟨_,k2,_⟩;rw[Eb (h2.symm.trans k2)]
def G6:Ev.bz:=cz 139 (cM upX awa cZ) G5
def G7:Ev.bz:=cz 141 (cM Z_ ajA cZ) G6
def G8:Ev.bz:=cz 128 (cM ab6 amk cZ) G7
def G9:Ev.bz:=cz 131 (cM ab5 ami cZ) G8
abbrev N5 x0:=aQ [(0,.eK 172 (.ab 0 0)),(1,J x0)]
theorem arQ(l:LI)(j:Int)(L:LT)(Q:QT):
 b8 Z G5 (fun _=>[0,1]) L Q 1000 139 [.eK 172 (.ab 0 0),J j] (fD l)=(
 L (N5 j) (fD l) (ao Z 139 0)):=by kernel_rfl
abbrev vV x0 x1:=an [(0,.aw [.ad 1 x0 1] 173),(1,bp x1 3)] 2
theorem arR(l:LI)(j:Int)(L:LT)(Q:QT):
 cO Z G5 (fun _=>[0,1]) L Q 1000 139 2 (N5 j) (ao Z 139 0) (fD l)=(
 ah (wI (Int.tdiv (wI (j-1)) 2)==j) (Q (.aJ []) (fD l)) (∃w:LI×Nat×Nat,(([.ad 0 l.length 1,J j,J (wI (Int.tdiv (wI (j-1)) 2))]:LV)=[.ad 0 w.1.length 1,J ((w.2.1:Nat):Int),J ((w.2.2:Nat):Int)]∧cC l=cC w.1∧w.2.1<w.1.length∧w.2.2<w.1.length)∧ah (!decide (List.getD w.1 w.2.1 0<List.getD w.1 w.2.2 0)) (Q (.aJ []) (vV l.length w.1)) (∃ae:LI×Nat×Nat,(([.ad 0 l.length 1,J (wI (Int.tdiv (wI (j-1)) 2)),J j]:LV)=[.ad 0 ae.1.length 1,J ((ae.2.1:Nat):Int),J ((ae.2.2:Nat):Int)]∧cC w.1=cC ae.1∧ae.2.1<ae.1.length∧ae.2.2<ae.1.length)∧L (N5 (wI (Int.tdiv (wI (j-1)) 2))) (vV l.length (iW ae.1 ae.2.1 ae.2.2)) (ao Z 139 0)))):=by kernel_rfl
abbrev Aa x0 x1 x2:=aQ [(0,.eK 172 (.ab 0 0)),(1,J x0),(2,J x1),(7,J x2)]
theorem arZ(l:LI)(i n:Int)(L:LT)(Q:QT):
 b8 Z G6 (fun _=>[0,1,2,7]) L Q 1000 141 [.eK 172 (.ab 0 0),J i,J n] (fD l)=(
 L (Aa i n i) (fD l) (ao Z 141 0)):=by kernel_rfl
theorem ar0(l:LI)(i0 i n:Int)(L:LT)(Q:QT):
 cO Z G6 (fun _=>[0,1,2,7]) L Q 1000 141 2 (Aa i0 n i) (ao Z 141 0) (fD l)=(
 ah (decide (wI (wI (2*i)+1)>=n)) (Q (.ai (decide (i>i0))) (fD l)) (ah (decide (wI (wI (2*i)+1)<0)) (Q (.ai (decide (i>i0))) (fD l)) (ah (decide (wI (wI (wI (2*i)+1)+1)<n)) (∃w:LI×Nat×Nat,(([.ad 0 l.length 1,J (wI (wI (wI (2*i)+1)+1)),J (wI (wI (2*i)+1))]:LV)=[.ad 0 w.1.length 1,J ((w.2.1:Nat):Int),J ((w.2.2:Nat):Int)]∧cC l=cC w.1∧w.2.1<w.1.length∧w.2.2<w.1.length)∧ah (decide (List.getD w.1 w.2.1 0<List.getD w.1 w.2.2 0)) (∃ae:LI×Nat×Nat,(([.ad 0 l.length 1,J (wI (wI (wI (2*i)+1)+1)),J i]:LV)=[.ad 0 ae.1.length 1,J ((ae.2.1:Nat):Int),J ((ae.2.2:Nat):Int)]∧cC w.1=cC ae.1∧ae.2.1<ae.1.length∧ae.2.2<ae.1.length)∧ah (!decide (List.getD ae.1 ae.2.1 0<List.getD ae.1 ae.2.2 0)) (Q (.ai (decide (i>i0))) (vV l.length ae.1)) (∃bh:LI×Nat×Nat,(([.ad 0 l.length 1,J i,J (wI (wI (wI (2*i)+1)+1))]:LV)=[.ad 0 bh.1.length 1,J ((bh.2.1:Nat):Int),J ((bh.2.2:Nat):Int)]∧cC ae.1=cC bh.1∧bh.2.1<bh.1.length∧bh.2.2<bh.1.length)∧L (Aa i0 n (wI (wI (wI (2*i)+1)+1))) (vV l.length (iW bh.1 bh.2.1 bh.2.2)) (ao Z 141 0))) (∃ae:LI×Nat×Nat,(([.ad 0 l.length 1,J (wI (wI (2*i)+1)),J i]:LV)=[.ad 0 ae.1.length 1,J ((ae.2.1:Nat):Int),J ((ae.2.2:Nat):Int)]∧cC w.1=cC ae.1∧ae.2.1<ae.1.length∧ae.2.2<ae.1.length)∧ah (!decide (List.getD ae.1 ae.2.1 0<List.getD ae.1 ae.2.2 0)) (Q (.ai (decide (i>i0))) (vV l.length ae.1)) (∃bh:LI×Nat×Nat,(([.ad 0 l.length 1,J i,J (wI (wI (2*i)+1))]:LV)=[.ad 0 bh.1.length 1,J ((bh.2.1:Nat):Int),J ((bh.2.2:Nat):Int)]∧cC ae.1=cC bh.1∧bh.2.1<bh.1.length∧bh.2.2<bh.1.length)∧L (Aa i0 n (wI (wI (2*i)+1))) (vV l.length (iW bh.1 bh.2.1 bh.2.2)) (ao Z 141 0)))) (∃w:LI×Nat×Nat,(([.ad 0 l.length 1,J (wI (wI (2*i)+1)),J i]:LV)=[.ad 0 w.1.length 1,J ((w.2.1:Nat):Int),J ((w.2.2:Nat):Int)]∧cC l=cC w.1∧w.2.1<w.1.length∧w.2.2<w.1.length)∧ah (!decide (List.getD w.1 w.2.1 0<List.getD w.1 w.2.2 0)) (Q (.ai (decide (i>i0))) (vV l.length w.1)) (∃ae:LI×Nat×Nat,(([.ad 0 l.length 1,J i,J (wI (wI (2*i)+1))]:LV)=[.ad 0 ae.1.length 1,J ((ae.2.1:Nat):Int),J ((ae.2.2:Nat):Int)]∧cC w.1=cC ae.1∧ae.2.1<ae.1.length∧ae.2.2<ae.1.length)∧L (Aa i0 n (wI (wI (2*i)+1))) (vV l.length (iW ae.1 ae.2.1 ae.2.2)) (ao Z 141 0)))))):=by kernel_rfl
theorem arw(l:LI)(x:Int)(L:LT)(Q:QT):
 b8 Z G7 (fun _=>[]) L Q 1000 128 [.eK 172 (.ab 0 0),.eK 3 (J x)] (fD l)=(
 ∃w:LI×Int,(([.ab 0 0,.eK 3 (J x)]:LV)=[.ab 0 0,.eK 3 (J w.2)]∧fD l=fD w.1∧w.1.length<60000)∧(∃ae:LI,(([.ad 0 (w.1++[w.2]).length 1]:LV)=[.ad 0 ae.length 1]∧cC (w.1++[w.2])=cC ae)∧(∃bh:LI×Nat,(([.eK 172 (.ab 0 0),J (wI (Int.ofNat ae.length-1))]:LV)=[.eK 172 (.ab 0 0),J ((bh.2:Nat):Int)]∧vV (w.1++[w.2]).length ae=fD bh.1∧bh.2<bh.1.length∧bh.1.length<60000)∧Q (.aJ []) (MW (sO (bh.2+1) bh.1 bh.2))))):=by kernel_rfl
theorem arD(l:LI)(L:LT)(Q:QT):
 b8 Z G8 (fun _=>[]) L Q 1000 131 [.eK 172 (.ab 0 0)] (fD l)=(
 ∃w:LI,(([.ad 0 l.length 1]:LV)=[.ad 0 w.length 1]∧cC l=cC w)∧(∃ae:LI×Nat×Nat,(([.ad 0 l.length 1,J 0,J (wI (Int.ofNat w.length-1))]:LV)=[.ad 0 ae.1.length 1,J ((ae.2.1:Nat):Int),J ((ae.2.2:Nat):Int)]∧cC w=cC ae.1∧ae.2.1<ae.1.length∧ae.2.2<ae.1.length)∧(∃bh:LI×Nat×Nat,(([.eK 172 (.ab 0 0),J 0,J (wI (Int.ofNat w.length-1))]:LV)=[.eK 172 (.ab 0 0),J ((bh.2.1:Nat):Int),J ((bh.2.2:Nat):Int)]∧vV l.length (iW ae.1 ae.2.1 ae.2.2)=fD bh.1∧bh.2.2<=bh.1.length∧bh.1.length<60000∧bh.2.1<=bh.2.2∧bh.2.1<bh.1.length)∧(∃dQ:LI×Int,(([.ab 0 0]:LV)=[.ab 0 0]∧fD (oB (bh.2.2+1) bh.1 bh.2.1 bh.2.2).1=fD (dQ.1++[dQ.2])∧dQ.1.length<60000)∧Q (.eK 3 (J dQ.2)) (fD dQ.1))))):=by kernel_rfl
theorem oO(l:LI)(i j:Nat):(iW l i j).length=l.length:=by simp[iW]
theorem aoz{j:Nat}(h:j<60000):wI (Int.tdiv (wI ((j:Int)-1)) 2)=(((j-1)/ 2:Nat):Int):=by
 cases j with
 |zero=>rfl
 |succ j=>
  have e0:((j+1:Nat):Int)-1=(j:Int):=by simp
  rw[e0,cX (x:=(j:Int)) (by omega) (by omega),Int.tdiv_eq_ediv_of_nonneg (by omega)];have e1:((j:Int)/ 2)=((j / 2:Nat):Int):=by simp
  rw[e1,cX (by omega) (by omega)];simp
theorem WO:∀(f:Nat) (l:LI) (j:Nat),(sO f l j).length=l.length
 |0,l,j=>rfl
 |f+1,l,j=>by
  unfold sO;split
  ·rfl
  ·rw[WO f,oO]
theorem arP{az:LI}:∀p:Nat×LI×Nat,(p.2.2<p.1∧p.2.2<p.2.1.length∧p.2.1.length<60000∧sO p.1 p.2.1 p.2.2=az)->
 bJ Z 139 23 2 (.aJ []) (fD az) (N5 (p.2.2:Int)) (fD p.2.1) (ao Z 139 0):=by
 refine cV (fun p=>p.1) _ _ _ _ ?_;rintro⟨f,l,j⟩ ⟨h1,h2,h3,hf⟩ ih;simp only at h1 h2 h3 hf ih⊢;obtain⟨f,rfl⟩:∃g,f=g+1:=⟨f-1,by omega⟩;refine hD Pu 1000 (fun _=>[0,1]) (by kernel_rfl) ?_;rw[arR,aoz (by omega)];unfold sO at hf;refine aI.2 ⟨fun h=>?_,fun h=>?_⟩
 ·rw[aY (.inl (by simp at h;omega))]at hf;subst hf;exact⟨rfl,rfl⟩
 have h:¬(j-1)/ 2=j:=by simp at h;omega
 have hp:(j-1)/ 2<l.length:=by omega
 refine⟨(l,j,(j-1)/ 2),⟨rfl,rfl,h2,hp⟩,aI.2 ⟨fun h4=>?_,fun h4=>?_⟩⟩
 ·rw[aY (.inr (by simpa using h4))]at hf;subst hf;exact⟨rfl,rfl⟩
 ·have h6:l.getD j 0<l.getD ((j-1)/ 2) 0:=by simpa using h4
  rw[aB (by rintro(h5|h5);exact h h5;exact h5 h6)]at hf;refine⟨(l,(j-1)/ 2,j),⟨rfl,rfl,hp,h2⟩,?_⟩;have next:=ih (f,iW l ((j-1)/ 2) j,(j-1)/ 2) ⟨by simp;omega,by simp only[oO];exact hp,by simp only[oO];exact h3,hf⟩ (by simp)
  simp only[fD,oO]at next
  exact next
theorem Pv:bm Z G6:=by refine de Pu ?_;rintro⟨l,j⟩ args H ⟨rfl,rfl,h1,h2⟩;refine eS Pu 1000 (fun _=>[0,1]) 23 (by kernel_rfl) ?_;rw[arQ];exact arP (j+1,l,j) ⟨by simp,h1,h2,rfl⟩
theorem Q_:∀(f:Nat) (l:LI) (i n:Nat),(oB f l i n).1.length=l.length
 |0,l,i,n=>rfl
 |f+1,l,i,n=>by
  unfold oB;split
  ·rfl
  ·dsimp only;generalize (if 2*i+2<n∧l.getD (2*i+2) 0<l.getD (2*i+1) 0 then 2*i+2 else 2*i+1)=j;split
   ·rfl
   ·rw[Q_ f,oO]
theorem w2{i:Nat}(h:i<100000):wI (wI (2*(i:Int))+1)=((2*i+1:Nat):Int):=by rw[cX (x:=2*(i:Int)) (by omega) (by omega),cX (by omega) (by omega)];simp
theorem w3{i:Nat}(h:i<100000):wI (((2*i+1:Nat):Int)+1)=((2*i+2:Nat):Int):=by rw[cX (by omega) (by omega)];simp;omega
theorem arY{i0 n:Nat}{az:LI×Nat}:∀p:Nat×LI×Nat,(n<p.1+p.2.2+1∧n<=p.2.1.length∧p.2.1.length<60000∧p.2.2<=n∧p.2.2<p.2.1.length∧oB p.1 p.2.1 p.2.2 n=az)->
 bJ Z 141 48 2 (.ai (decide (az.2>i0))) (fD az.1) (Aa (i0:Int) (n:Int) (p.2.2:Int)) (fD p.2.1) (ao Z 141 0):=by
 refine cV (fun p=>p.1) _ _ _ _ ?_;rintro⟨f,l,i⟩ ⟨h0,h1,h2,h3,h3',hf⟩ ih;simp only at h0 h1 h2 h3 h3' hf ih⊢;refine hD Pv 1000 (fun _=>[0,1,2,7]) (by kernel_rfl) ?_;rw[ar0,w2 (by omega),w3 (by omega)];have aaQ:(l,i)=az->iS (.ai (decide (az.2>i0))) (fD az.1) (.ai (decide ((i:Int)>(i0:Int)))) (fD l):=by rintro rfl;exact⟨by simp,rfl⟩
 have Bc:2*i+1>=n->(l,i)=az:=by
  intro h;cases f with
  |zero=>exact hf
  |succ f=>unfold oB at hf;rwa[aY h]at hf
 refine aI.2 ⟨fun h=>aaQ (Bc (by simp at h;omega)),fun h=>?_⟩;have h:2*i+1<n:=by simp at h;omega
 refine aI.2 ⟨fun h=>(by simp at h;omega),fun _=>?_⟩;obtain⟨f,rfl⟩:∃g,f=g+1:=⟨f-1,by omega⟩;unfold oB at hf;rw[aB (by omega)]at hf;have next:∀j,2*i+1<=j->j<n->oB f (iW l i j) j n=az->bJ Z 141 48 2 (.ai (decide (az.2>i0))) (fD az.1) (Aa (i0:Int) (n:Int) (j:Int)) (an [(0,.aw [.ad 1 l.length 1] 173),(1,.aF (aX (iW l i j)) 3)] 2) (ao Z 141 0):=by intro j g1 g2 g3;have nx:=ih (f,iW l i j,j) ⟨by simp;omega,by simp only[oO];exact h1,by simp only[oO];exact h2,by simp;omega,by simp only[oO];omega,g3⟩ (by simp);simp only[fD,oO]at nx⊢;exact nx
 have Ad:∀j,2*i+1<=j->j<n->(if¬l.getD j 0<l.getD i 0 then(l,i)else oB f (iW l i j) j n)=az->
  ∃ae:LI×Nat×Nat,((([.ad 0 l.length 1,J (j:Int),J (i:Int)]:LV)=[.ad 0 ae.1.length 1,J (ae.2.1:Int),J (ae.2.2:Int)])∧(an [(0,.aF (aX l) 3)] 1=cC ae.1)∧ae.2.1<ae.1.length∧ae.2.2<ae.1.length)∧
   ah (!(decide (ae.1.getD ae.2.1 0<ae.1.getD ae.2.2 0)))
    (iS (.ai (decide (az.2>i0))) (fD az.1) (.ai (decide ((i:Int)>(i0:Int)))) (an [(0,.aw [.ad 1 l.length 1] 173),(1,.aF (aX ae.1) 3)] 2))
    (∃bh:LI×Nat×Nat,((([.ad 0 l.length 1,J (i:Int),J (j:Int)]:LV)=[.ad 0 bh.1.length 1,J (bh.2.1:Int),J (bh.2.2:Int)])∧(an [(0,.aF (aX ae.1) 3)] 1=cC bh.1)∧bh.2.1<bh.1.length∧bh.2.2<bh.1.length)∧
      bJ Z 141 48 2 (.ai (decide (az.2>i0))) (fD az.1) (Aa (i0:Int) (n:Int) (j:Int)) (an [(0,.aw [.ad 1 l.length 1] 173),(1,.aF (aX (iW bh.1 bh.2.1 bh.2.2)) 3)] 2) (ao Z 141 0)):=by
  intro j g1 g2 g3;have hj:j<l.length:=by omega
  have hi:i<l.length:=by omega
  refine⟨(l,j,i),⟨rfl,rfl,hj,hi⟩,aI.2 ⟨fun h5=>?_,fun h5=>?_⟩⟩
  ·rw[aY (by simpa using h5)]at g3;exact aaQ g3
  ·have h6:l.getD j 0<l.getD i 0:=by simpa using h5
   rw[aB (fun h7=>h7 h6)]at g3;exact⟨(l,i,j),⟨rfl,rfl,hi,hj⟩,next j g1 g2 g3⟩
 refine aI.2 ⟨fun h4=>?_,fun h4=>?_⟩
 ·have h4:2*i+2<n:=by simp at h4;omega
  refine⟨(l,2*i+2,2*i+1),⟨rfl,rfl,by show 2*i+2<l.length;omega,by show 2*i+1<l.length;omega⟩,aI.2 ⟨fun h5=>?_,fun h5=>?_⟩⟩
  ·have h5:l.getD (2*i+2) 0<l.getD (2*i+1) 0:=by simpa using h5
   simp only[aY (And.intro h4 h5)]at hf;exact Ad (2*i+2) (by omega) h4 hf
  ·have h5:¬l.getD (2*i+2) 0<l.getD (2*i+1) 0:=by simpa using h5
   simp only[aB (fun h:2*i+2<n∧l.getD (2*i+2) 0<l.getD (2*i+1) 0=>h5 h.2)]at hf;exact Ad (2*i+1) (by omega) h hf
 ·have h4:¬2*i+2<n:=by simp at h4;omega
  simp only[aB (fun h:2*i+2<n∧l.getD (2*i+2) 0<l.getD (2*i+1) 0=>h4 h.1)]at hf;exact Ad (2*i+1) (by omega) h hf
theorem Yo:bm Z G7:=by refine de Pv ?_;rintro⟨l,i,n⟩ args H ⟨rfl,rfl,h1,h2,h3,h4⟩;refine eS Pv 1000 (fun _=>[0,1,2,7]) 48 (by kernel_rfl) ?_;rw[arZ];exact arY (n+1,l,i) ⟨by simp;omega,h1,h2,h3,h4,rfl⟩
theorem Yp:bm Z G8:=by
 refine de Yo ?_;rintro⟨l,x⟩ args H ⟨rfl,rfl,hl⟩;have hl:l.length<50000:=hl;refine eS Yo 1000 (fun _=>[]) 12 (by kernel_rfl) ?_;rw[arw];have bF:(l++[x]).length=l.length+1:=by simp
 have e:wI (Int.ofNat (l++[x]).length-1)=((l.length:Nat):Int):=by
  rw[bF];have e0:Int.ofNat (l.length+1)-1=(l.length:Int):=by simp
  rw[e0,cX (by omega) (by omega)]
 exact⟨(l,x),⟨rfl,rfl,by show l.length<60000;omega⟩,l++[x],⟨rfl,rfl⟩,(l++[x],l.length),⟨by rw[e],rfl,by simp,by simp;omega⟩,rfl,rfl⟩
theorem acT{l:LI}(h:0<l.length):l=l.take (l.length-1)++[l.getD (l.length-1) 0]:=by
 have h1:l.length-1<l.length:=by omega
 have:l.drop (l.length-1)=[l.getD (l.length-1) 0]:=by rw[dN h1,eT (by omega)];simp[List.getD,jn h1]
 rw[←this,yc]
theorem JM:bm Z G9:=by
 refine de Yp ?_;rintro l args H ⟨rfl,rfl,h0,hl⟩;refine eS Yp 1000 (fun _=>[]) 15 (by kernel_rfl) ?_;rw[arD];have e:wI (Int.ofNat l.length-1)=((l.length-1:Nat):Int):=by
  have e0:Int.ofNat l.length-1=((l.length-1:Nat):Int):=by simp;omega
  rw[e0,cX (by omega) (by omega)]
 have kH:(mc l).length=l.length:=by rw[mc,Q_,oO]
 have hs:=acT (l:=mc l) (by omega);rw[kH]at hs;have hf:(oB (l.length-1+1) (iW l 0 (l.length-1)) 0 (l.length-1)).1=mc l:=by rw[mc];congr 2;omega
 refine⟨l,⟨rfl,rfl⟩,(l,0,l.length-1),⟨by rw[e];rfl,rfl,h0,by show l.length-1<l.length;omega⟩,(iW l 0 (l.length-1),0,l.length-1),
  ⟨by rw[e];rfl,by simp only[fD,oO],by simp only[oO];omega,by simp only[oO];omega,by simp,by simp only[oO];exact h0⟩,
  ((mc l).take (l.length-1),(mc l).getD (l.length-1) 0),⟨rfl,?_,by simp;omega⟩,rfl,rfl⟩
 simp only[hf];rw[←hs]
def gy(m:LP):aZ:=.bC (bM J 0 m) m.length true
def wc(base k:Int)(m:LP)(r:Int):LP:=if r>base then up r k m else m
def uW(base:Int):Nat->LP->cn->LP
 |_,m,[]=>m
 |k,m,i::l=>uW base (k+1) ((bo i++bj i).foldl (wc base k) m) l
abbrev xp x0 x1:=an [(0,.aF x0 50),(1,gy x1)] 2
def Uk:dp (h_×Int)where
 ba w A H:=A=[.bE 0 w.1.fW w.1.l.length 0 6 false,J w.2]∧H=gB w.1∧w.1.ok
 v w:=.aH 1
 aN w:=xp w.1.cs (uW w.2 0 [] w.1.l)
theorem am6:Uk.dx:=by rintro w w' A H ⟨h1,h2,h3⟩ ⟨k1,k2,k3⟩;rw[Fj h1 h2 h3 k1 k2 k3]
def Po:Ev.bz:=cz 126 (cM Uk am6 cZ) G9
def EW:Nat->LN:=kg [(3,[1,5,11,12,13]),(6,[1,5,6,11,12,13,22,23,24])]
def fx(r:Int)(m:LP):Int:=(lk r m).getD 0
def AT(cm:LI)(cr:LP)(use:Int):AH:=an [(0,.aw [.ab 3 0] 172),(1,.aw [.aH 4] 137),(2,.aw [J use] 3),(3,.aw [.ad 5 cm.length 1] 173),(4,gy cr),(5,bp cm 3)] 6
def adT(cm:LI)(cr:LP)(use:Int):AH:=an [(0,.aw [.ab 3 0] 172),(1,.aw [.aH 4] 137),(2,.aw [J use] 3),(3,.aw [.ad 6 cm.length 1] 173),(4,gy cr),(5,.b9 []),(6,bp cm 3)] 7
def sx(l:LI)(x:Int):LI:=sO (l.length+1) (l++[x]) l.length
def aeZ:dp (LI×LP×Int×Int)where
 ba w A H:=A=[J w.2.2.2,.ab 0 0,.ab 1 0,.ab 2 0]∧H=AT w.1 w.2.1 w.2.2.1∧w.1.length<50000
 v w:=.aJ []
 aN w:=adT (sx w.1 (fx w.2.2.2 w.2.1)) w.2.1 (wI (w.2.2.1-1))
theorem apu:aeZ.dx:=by
 rintro⟨f,m,u,r⟩ ⟨f',m',u',r'⟩ A H ⟨h1,h2,_⟩ ⟨k1,k2,_⟩;have e:=h2.symm.trans k2;rw[h1]at k1;simp only[List.cons.injEq,AV.ck.injEq,true_and,and_true]at k1;have q:=fun i=>congrArg (fun H=>AH.bu H i) e
 simp only[AT,dy]at q;have e1:=yf (dz (q 5));have e2:=(aZ.bC.inj (dz (q 4))).1;have e3:=(aZ.aw.inj (dz (q 2))).1;simp only[List.cons.injEq,AV.ck.injEq,true_and,and_true]at e3;rw[k1,e1,qY wF e2,e3]
def JJ:Ev.bz:=cz 127 (cM aeZ apu cZ) Po
def pq(m:LP)(r:Int):Int:=(lk r m).getD r
def pO(i:a9)(cr:LP):AH:=an [(0,mU i),(1,.aw [.aH 2] 137),(2,gy cr)] 3
def ZK:LV->AH->Option Sp
 |[.ab 0 (.succ 0),.ab 1 0],H=>some (.ex (a9×LP) (fun w=>(H=pO w.1 w.2,.aJ [],pO ⟨w.1.op,pq w.2 w.1.r,w.1.a,w.1.n,w.1.cH,w.1.ar⟩ w.2)) (fun w w' h1 h2=>by
   have e:=h1.symm.trans h2;have q:=fun i=>congrArg (fun H=>AH.bu H i) e
   simp only[pO,dy]at q;have e0:=Dy (aZ.aw.inj (dz (q 0))).1;have e2:=qY wF (aZ.bC.inj (dz (q 2))).1;rw[e0,e2]))
 |[.ab 0 (.succ (.succ 0)),.ab 1 0],H=>some (.ex (a9×LP) (fun w=>(H=pO w.1 w.2,.aJ [],pO ⟨w.1.op,w.1.r,pq w.2 w.1.a,w.1.n,w.1.cH,w.1.ar⟩ w.2)) (fun w w' h1 h2=>by
   have e:=h1.symm.trans h2;have q:=fun i=>congrArg (fun H=>AH.bu H i) e
   simp only[pO,dy]at q;have e0:=Dy (aZ.aw.inj (dz (q 0))).1;have e2:=qY wF (aZ.bC.inj (dz (q 2))).1;rw[e0,e2]))
 |_,_=>none
def Av:Ev.bz:=cz 132 ZK JJ
abbrev I4 x0 x1 x2 x3 x4:=aQ [(1,J x0),(5,.aH 1),(11,.bE 0 x1 x2 0 6 x3),(12,J (Int.ofNat x2)),(13,J x4)]
theorem art(cs:LV)(off len:Nat)(base:Int)(L:LT)(Q:QT):
 b8 Z G9 EW L Q 1000 126 [.bE 0 off len 0 6 false,J base] (an [(0,.aF cs 50)] 1)=(
 L (I4 base off len false 0) (an [(0,.aF cs 50),(1,.bC [] 0 true)] 2) (ao Z 126 0)):=by kernel_rfl
abbrev FL x0 x1 x2 x3 x4 x5 x6 x7:=aQ [(1,J x0),(5,.aH 1),(6,J x1),(11,.bE 0 x2 x3 0 6 x4),(12,J (Int.ofNat x3)),(13,J x5),(22,.ad 2 x6 1),(23,J (Int.ofNat x6)),(24,J x7)]
theorem aru(cs:LV)(off len:Nat)(base i:Int)(m:LP)(L:LT)(Q:QT):
 cO Z G9 EW L Q 1000 126 1 (I4 base off len false i) (ao Z 126 0) (xp cs m)=(
 ah (decide (i<Int.ofNat len)) (∃aD:Nat,i=(aD:Int)∧aD<len∧(∃n:Int,∃aL:Int,∃bD:Int,∃cf:Int,∃s:LN,∃cK:Int,bQ Z 50 cs (off+aD*6)=some (.au [J n,J aL,J bD,J cf,.aa s,J cK]:AV)∧(∃w:a9,(([.au [J n,J aL,J bD,J cf,.aa s,J cK]]:LV)=[.au (cb w)]∧an [] 0=aq)∧some (.au [J n,J aL,J bD,J cf,.aa s,J cK]:AV)=some (.au [J n,J aL,J bD,J cf,.aa s,J cK]:AV)∧(∃ae:a9,(([.au [J n,J aL,J bD,J cf,.aa s,J cK]]:LV)=[.au (cb ae)]∧an [] 0=aq)∧(aX (bj ae)).length=(bj ae).length*1∧((bj ae).length=0->(bo w).length<=65536∧L (FL base i off len false i (bo w).length 0) (an [(0,.aF cs 50),(1,gy m),(2,bp (bo w) 3)] 3) (ao Z 126 1))∧(1<=(bj ae).length->((aX (bo w)).length=(bo w).length*1∧(bo w).length+(bj ae).length<=65536∧List.all (aX (bj ae)) AV.dR=true∧List.all (aX (bj ae)) iD=true)∧L (FL base i off len false i ((bo w).length+(bj ae).length) 0) (an [(0,.aF cs 50),(1,gy m),(2,.aF (aX (bo w)++aX (bj ae)) 3)] 3) (ao Z 126 1)))))) (Q (.aH 1) (xp cs m))):=by kernel_rfl
theorem arq(cs:LV)(off len:Nat)(base i k j:Int)(m:LP)(rs:LI)(L:LT)(Q:QT):
 cO Z G9 EW L Q 1000 126 1 (FL base k off len false i rs.length j) (ao Z 126 1) (an [(0,.aF cs 50),(1,gy m),(2,bp rs 3)] 3)=(
 ah (decide (j<Int.ofNat rs.length)) (∃aD:Nat,j=(aD:Int)∧aD<rs.length∧(∃n:Int,bQ Z 3 (aX rs) (aD*1)=some (J n:AV)∧ah (decide (n>base)) (∃bw:List (AV×AV×Nat),∃c':Nat,jc Z 3 (bM J 0 m) m.length (J n) (J k)=some (bw,c')∧L (FL base k off len false i rs.length (wI (j+1))) (an [(0,.aF cs 50),(1,.bC bw c' true),(2,bp rs 3)] 3) (ao Z 126 1)) (L (FL base k off len false i rs.length (wI (j+1))) (an [(0,.aF cs 50),(1,gy m),(2,bp rs 3)] 3) (ao Z 126 1)))) (L (I4 base off len false (wI (i+1))) (xp cs m) (ao Z 126 0))):=by kernel_rfl
theorem arv(cm:LI)(cr:LP)(use r:Int)(L:LT)(Q:QT):
 b8 Z Po (fun _=>[]) L Q 1000 127 [J r,.ab 0 0,.ab 1 0,.ab 2 0] (AT cm cr use)=(
 ∃n:Int,∃b:Bool,fX Z 3 3 (bM J 0 cr) (J r)=some (J n,b)∧(∃w:LI×Int,(([.eK 172 (.ab 0 0),.eK 3 (J n)]:LV)=[.eK 172 (.ab 0 0),.eK 3 (J w.2)]∧fD cm=fD w.1∧w.1.length<50000)∧Q (.aJ []) (adT (sO (w.1.length+1) (w.1++[w.2]) w.1.length) cr (wI (use-1))))):=by kernel_rfl
theorem arE(i:a9)(cr:LP)(L:LT)(Q:QT):
 b8 Z JJ (fun _=>[]) L Q 1000 132 [.ab 0 1,.ab 1 0] (pO i cr)=(
 ∃n:Int,∃b:Bool,fX Z 3 3 (bM J 0 cr) (J i.r)=some (J n,b)∧ah b (Q (.aJ []) (an [(0,.aw [J i.op,J n,J i.a,J i.n,.aa i.cH,J i.ar] 50),(1,.aw [.aH 2] 137),(2,gy cr)] 3)) (Q (.aJ []) (pO i cr))):=by kernel_rfl
theorem arF(i:a9)(cr:LP)(L:LT)(Q:QT):
 b8 Z JJ (fun _=>[]) L Q 1000 132 [.ab 0 2,.ab 1 0] (pO i cr)=(
 ∃n:Int,∃b:Bool,fX Z 3 3 (bM J 0 cr) (J i.a)=some (J n,b)∧ah b (Q (.aJ []) (an [(0,.aw [J i.op,J i.r,J n,J i.n,.aa i.cH,J i.ar] 50),(1,.aw [.aH 2] 137),(2,gy cr)] 3)) (Q (.aJ []) (pO i cr))):=by kernel_rfl
theorem BF(m:LP)(r:Int):∃n:Int,∃b:Bool,fX Z 3 3 (bM J 0 m) (J r)=some (J n,b)∧n=fx r m∧(b=true->lk r m=some n)∧(b=false->lk r m=none):=by
 rw[sq _ vL];unfold fx;cases lk r m with
 |none=>exact⟨0,false,by rw[FY];rfl,rfl,fun h=>(by cases h),fun _=>rfl⟩
 |some n=>exact⟨n,true,rfl,rfl,fun _=>rfl,fun h=>(by cases h)⟩
theorem afH{cs:LV}{off len:Nat}{base i:Int}{k:Nat}{m0 az:LP}{rs:LI}(hr:rs.length<20000)
 (next:bJ Z 126 37 1 (.aH 1) (xp cs az) (I4 base off len false (wI (i+1))) (xp cs (rs.foldl (wc base k) m0)) (ao Z 126 0)):
 ∀p:Nat×LP,(p.1<=rs.length∧(rs.drop p.1).foldl (wc base k) p.2=rs.foldl (wc base k) m0)->
 bJ Z 126 37 1 (.aH 1) (xp cs az) (FL base (k:Int) off len false i rs.length (p.1:Int)) (an [(0,.aF cs 50),(1,gy p.2),(2,bp rs 3)] 3) (ao Z 126 1):=by
 refine cV (fun p=>rs.length-p.1) _ _ _ _ ?_;rintro⟨j,m⟩ ⟨hj,hf⟩ ih;simp only at hj hf ih⊢;refine hD JM 1000 EW (by kernel_rfl) ?_;rw[arq];refine aI.2 ⟨fun aj=>?_,fun aS=>?_⟩
 ·have aj:j<rs.length:=by simpa using aj
  rw[dN aj,iy]at hf;have hg:rs.getD j 0=rs[j]:=by simp[List.getD,jn aj]
  refine⟨j,rfl,aj,rs[j],by rw[ja aj,hg],?_⟩;rw[gq aj (by omega)];refine aI.2 ⟨fun h=>?_,fun h=>?_⟩
  ·have h:rs[j]>base:=by simpa using h
   rw[wc,aY h]at hf;exact⟨_,_,qb J vL,ih (j+1,up rs[j] k m) ⟨by simp;omega,hf⟩ (by simp;omega)⟩
  ·have h:¬rs[j]>base:=by simpa using h
   rw[wc,aB h]at hf;exact ih (j+1,m) ⟨by simp;omega,hf⟩ (by simp;omega)
 ·have aS:rs.length<=j:=by simpa using aS
  rw[eT aS]at hf;have hf:m=rs.foldl (wc base k) m0:=hf;rw[hf];exact next
theorem ars{p:h_}{base:Int}{az:LP}(hp:p.ok):
 ∀q:Nat×LP,(q.1<=p.l.length∧uW base q.1 q.2 (p.l.drop q.1)=az)->
 bJ Z 126 37 1 (.aH 1) (xp p.cs az) (I4 base p.fW p.l.length false (q.1:Int)) (xp p.cs q.2) (ao Z 126 0):=by
 refine cV (fun q=>p.l.length-q.1) _ _ _ _ ?_;rintro⟨i,m⟩ ⟨hi,hf⟩ ih;simp only at hi hf ih⊢;have kH:=hp.2;refine hD JM 1000 EW (by kernel_rfl) ?_;rw[aru];refine aI.2 ⟨fun aj=>?_,fun aS=>?_⟩
 ·have aj:i<p.l.length:=by simpa using aj
  have bX:=p.get hp aj;rw[dN aj,uW]at hf;have next:=ih (i+1,(bo p.l[i]++bj p.l[i]).foldl (wc base i) m) ⟨by simp;omega,hf⟩ (by simp;omega)
  simp only at next
  generalize p.l[i]=x at bX next
  obtain⟨o,r,a,n,s,ar⟩:=x;have hr:=Fw ⟨o,r,a,n,s,ar⟩;have hw:=FX ⟨o,r,a,n,s,ar⟩;rw[←gq aj (by omega)]at next
  refine⟨i,rfl,aj,o,r,a,n,s,ar,bX,⟨o,r,a,n,s,ar⟩,⟨rfl,rfl⟩,rfl,⟨o,r,a,n,s,ar⟩,⟨rfl,rfl⟩,by rw[sG];omega,fun h0=>⟨by omega,?_⟩,fun h1=>⟨⟨by rw[sG];omega,by omega,(Cb _).1,(Cb _).2⟩,?_⟩⟩
  ·have he:bj ⟨o,r,a,n,s,ar⟩=[]:=List.eq_nil_of_length_eq_zero h0;rw[he,lh]at next
   exact afH (by omega) next (0,m) ⟨by simp,rfl⟩
  ·have nx:=afH (by rw[bI];omega) next (0,m) ⟨by simp,rfl⟩
   simp only[bp,zT,bI]at nx;exact nx
 ·have aS:p.l.length<=i:=by simpa using aS
  rw[eT aS]at hf;have hf:m=az:=hf;subst hf;exact⟨rfl,rfl⟩
theorem Yj:bm Z Po:=by refine de JM ?_;rintro⟨p,base⟩ args H ⟨rfl,rfl,hp⟩;have hp:p.ok:=hp;refine eS JM 1000 EW 37 (by kernel_rfl) ?_;simp only[Uk,gB];rw[art];exact ars hp (0,[]) ⟨by simp,by simp⟩
theorem Pp:bm Z JJ:=by refine de Yj ?_;rintro⟨f,m,u,r⟩ args H ⟨rfl,rfl,hl⟩;refine eS Yj 1000 (fun _=>[]) 14 (by kernel_rfl) ?_;rw[arv];obtain⟨n,b,h1,h2,_⟩:=BF m r;refine⟨n,b,h1,(f,n),⟨rfl,rfl,hl⟩,rfl,?_⟩;subst h2;rfl
theorem CO:bm Z Av:=by
 refine Gp Pp fun args H sp p v H' hs hd hp=>?_
 unfold ZK at hs;split at hs
 ·cases hs;obtain⟨⟨i,m⟩,e⟩:=Q8 hd;cases e;have hp:H=pO i m:=hp;subst hp;refine eS Pp 1000 (fun _=>[]) 17 (by kernel_rfl) ?_;rw[arE];obtain⟨n,b,h1,_,h3,h4⟩:=BF m i.r;refine⟨n,b,h1,aI.2 ⟨fun h=>⟨rfl,?_⟩,fun h=>⟨rfl,?_⟩⟩⟩
  ·have:pq m i.r=n:=by unfold pq;rw[h3 h];rfl
   simp only[this];rfl
  ·have:pq m i.r=i.r:=by unfold pq;rw[h4 h];rfl
   simp only[this]
 ·cases hs;obtain⟨⟨i,m⟩,e⟩:=Q8 hd;cases e;have hp:H=pO i m:=hp;subst hp;refine eS Pp 1000 (fun _=>[]) 17 (by kernel_rfl) ?_;rw[arF];obtain⟨n,b,h1,_,h3,h4⟩:=BF m i.a;refine⟨n,b,h1,aI.2 ⟨fun h=>⟨rfl,?_⟩,fun h=>⟨rfl,?_⟩⟩⟩
  ·have:pq m i.a=n:=by unfold pq;rw[h3 h];rfl
   simp only[this];rfl
  ·have:pq m i.a=i.a:=by unfold pq;rw[h4 h];rfl
   simp only[this]
 ·cases hs
structure Al where
 aN:cn
 dS:Int
 cr:LP
 cm:LI
 gV:Int
 kO:Int
def Al.oo(s:Al)(r:Int):Al:=⟨s.aN,s.dS,s.cr,sx s.cm (fx r s.cr),s.gV,wI (s.kO-1)⟩
def Al.iH(base:Int)(last:LP)(k:Int)(ws:LI)(s:Al)(r:Int):Al:=if r>base∧fx r last=k∧r∉ws then s.oo r else s
def Al.jJ(base:Int)(s:Al)(r:Int):Al:=
 if(lk r s.cr).isSome∨r<=base then s
 else if 0<s.cm.length then⟨s.aN,s.dS,up r ((mc s.cm).getD (s.cm.length-1) 0) s.cr,(mc s.cm).take (s.cm.length-1),s.gV,wI (s.kO+1)⟩
 else⟨s.aN,s.dS,up r s.gV s.cr,s.cm,wI (s.gV+1),wI (s.kO+1)⟩
def Al.qP(s:Al):Al:=⟨s.aN,max s.dS s.kO,s.cr,s.cm,s.gV,s.kO⟩
def Al.az(base:Int)(last:LP)(k:Int)(s:Al)(r:Int):Al:=if r>base∧fx r last=k then s.oo r else s
def vF(m:LP)(i:a9):a9:=⟨i.op,pq m i.r,pq m i.a,i.n,i.cH,i.ar⟩
def Al.t_(s:Al)(i:a9):Al:=⟨s.aN++[vF s.cr i],s.dS,s.cr,s.cm,s.gV,s.kO⟩
def Al.sS(base:Int)(last:LP)(k:Int)(s:Al)(i:a9):Al:=
 ((bj i).foldl (Al.az base last k) (((bj i).foldl (Al.jJ base) ((bo i).foldl (Al.iH base last k (bj i)) s)).qP)).t_ i
def Al.rV(base:Int)(last:LP):Nat->Al->cn->Al
 |_,s,[]=>s
 |k,s,i::l=>Al.rV base last (k+1) (s.sS base last k i) l
def vu(base:Int):Al:=⟨[],0,[],[],wI (base+1),0⟩
def um(l:cn)(base:Int):Al:=(vu base).rV base (uW base 0 [] l) 0 l
def c_(l:cn):aZ:=.aF (cw l) 50
abbrev tg x0 x1:=an [(0,.aF x0 50),(1,c_ x1)] 2
def Qe:dp (h_×Int)where
 ba w A H:=A=[.bE 0 w.1.fW w.1.l.length 0 6 false,J w.2]∧H=gB w.1∧w.1.ok∧w.1.l.length<12000∧∀x∈w.1.l,(x.op=19∨x.op=20)->x.ar<=w.2
 v w:=.aJ [.ad 1 (um w.1.l w.2).aN.length 6,J (um w.1.l w.2).dS]
 aN w:=tg w.1.cs (um w.1.l w.2).aN
theorem ah5:Qe.dx:=by rintro w w' A H ⟨h1,h2,h3,_⟩ ⟨k1,k2,k3,_⟩;rw[Fj h1 h2 h3 k1 k2 k3]
def Pq:Ev.bz:=cz 108 (cM Qe ah5 cZ) Av
def wi:Nat->LN:=kg [(8,[1,4,5,6,7,8,9,10,11,34,35,36]),(12,[1,4,5,6,7,8,9,10,11,12,13,15,34,35,36,45,46,47]),(18,[1,4,5,6,7,8,9,10,11,12,13,15,34,35,36,71,72,73]),(30,[1,4,5,6,7,8,9,10,11,12,13,34,35,36,114,115,116])]
def qe(s:Al)(base:Int)(off len:Nat)(i:Int)(m1 m2:List (Nat×AV)):Tr AV:=aQ ([(1,J base),(4,.ad 1 s.aN.length 6),(5,J s.dS),(6,.aH 2),(7,.ab 3 0),(8,.ab 4 0),(9,J s.gV),(10,.ab 5 0),(11,.bR (.func 127) [] [.ab 4 0,.ab 3 0,.ab 5 0])]++(m1++([(34,.bE 0 off len 0 6 false),(35,J (Int.ofNat len)),(36,J i)]++m2)))
def AS(cs:LV)(last:LP)(s:Al):AH:=an [(0,.aF cs 50),(1,c_ s.aN),(2,gy last),(3,.aw [.aH 6] 137),(4,.aw [.ab 7 0] 172),(5,.aw [J s.kO] 3),(6,gy s.cr),(7,.aw [.ad 8 s.cm.length 1] 173),(8,bp s.cm 3)] 9
def DU(cs:LV)(last:LP)(s:Al)(x:a9)(ws rs:LI):AH:=an [(0,.aF cs 50),(1,c_ s.aN),(2,gy last),(3,.aw [.aH 9] 137),(4,.aw [.ab 10 0] 172),(5,.aw [J s.kO] 3),(6,mU x),(7,bp ws 3),(8,bp rs 3),(9,gy s.cr),(10,.aw [.ad 11 s.cm.length 1] 173),(11,bp s.cm 3)] 12
def tf(cs:LV)(last:LP)(s:Al)(x:a9)(ws:LI):AH:=an [(0,.aF cs 50),(1,c_ s.aN),(2,gy last),(3,.aw [.aH 8] 137),(4,.aw [.ab 9 0] 172),(5,.aw [J s.kO] 3),(6,mU x),(7,bp ws 3),(8,gy s.cr),(9,.aw [.ad 10 s.cm.length 1] 173),(10,bp s.cm 3)] 11
theorem aqg(cs:LV)(off len:Nat)(base:Int)(L:LT)(Q:QT):
 b8 Z Av wi L Q 2000 108 [.bE 0 off len 0 6 false,J base] (an [(0,.aF cs 50)] 1)=(
 ∃w:h_×Int,(([.bE 0 off len 0 6 false,J base]:LV)=[.bE 0 w.1.fW w.1.l.length 0 6 false,J w.2]∧an [(0,.aF cs 50)] 1=gB w.1∧w.1.ok)∧L (aQ [(1,J base),(4,.bB),(5,J 0),(6,.aH 1),(7,.ab 2 0),(8,.ab 3 0),(9,J (wI (base+1))),(10,.ab 4 0),(11,.bR (.func 127) [] [.ab 3 0,.ab 2 0,.ab 4 0]),(34,.bE 0 off len 0 6 false),(35,J (Int.ofNat len)),(36,J 0)]) (an [(0,.aF w.1.cs 50),(1,gy (uW w.2 0 [] w.1.l)),(2,.aw [.aH 5] 137),(3,.aw [.ab 6 0] 172),(4,.aw [J 0] 3),(5,.bC [] 0 true),(6,.aw [.bE 7 0 0 0 1 true] 173),(7,.aw [] 3)] 8) (ao Z 108 0)):=by kernel_rfl
theorem aqh(cs:LV)(last:LP)(s:Al)(base:Int)(off len:Nat)(i:Int)(L:LT)(Q:QT):
 cO Z Av wi L Q 2000 108 1 (qe s base off len i [] []) (ao Z 108 0) (AS cs last s)=(
 ah (decide (i<Int.ofNat len)) (∃aD:Nat,i=(aD:Int)∧aD<len∧(∃n:Int,∃aL:Int,∃bD:Int,∃cf:Int,∃db:LN,∃cK:Int,bQ Z 50 cs (off+aD*6)=some (.au [J n,J aL,J bD,J cf,.aa db,J cK]:AV)∧(∃w:a9,(([.au [J n,J aL,J bD,J cf,.aa db,J cK]]:LV)=[.au (cb w)]∧an [] 0=aq)∧some (.au [J n,J aL,J bD,J cf,.aa db,J cK]:AV)=some (.au [J n,J aL,J bD,J cf,.aa db,J cK]:AV)∧(∃ae:a9,(([.au [J n,J aL,J bD,J cf,.aa db,J cK]]:LV)=[.au (cb ae)]∧an [] 0=aq)∧L (aQ [(1,J base),(4,.ad 1 s.aN.length 6),(5,J s.dS),(6,.aH 2),(7,.ab 3 0),(8,.ab 4 0),(9,J s.gV),(10,.ab 5 0),(11,.bR (.func 127) [] [.ab 4 0,.ab 3 0,.ab 5 0]),(12,J i),(13,.ab 6 0),(15,.ad 7 (bj ae).length 1),(34,.bE 0 off len 0 6 false),(35,J (Int.ofNat len)),(36,J i),(45,.ad 8 (bo w).length 1),(46,J (Int.ofNat (bo w).length)),(47,J 0)]) (an [(0,.aF cs 50),(1,c_ s.aN),(2,gy last),(3,.aw [.aH 9] 137),(4,.aw [.ab 10 0] 172),(5,.aw [J s.kO] 3),(6,.aw [J n,J aL,J bD,J cf,.aa db,J cK] 50),(7,bp (bj ae) 3),(8,bp (bo w) 3),(9,gy s.cr),(10,.aw [.ad 11 s.cm.length 1] 173),(11,bp s.cm 3)] 12) (ao Z 108 1))))) (Q (.aJ [.ad 1 s.aN.length 6,J s.dS]) (tg cs s.aN))):=by kernel_rfl
theorem aqi(cs:LV)(last:LP)(s:Al)(base:Int)(off len:Nat)(i k j:Int)(x:a9)(ws rs:LI)(L:LT)(Q:QT):
 cO Z Av wi L Q 2000 108 1 (qe s base off len i [(12,J k),(13,.ab 6 0),(15,.ad 7 ws.length 1)] [(45,.ad 8 rs.length 1),(46,J (Int.ofNat rs.length)),(47,J j)]) (ao Z 108 1) (DU cs last s x ws rs)=(
 ah (decide (j<Int.ofNat rs.length)) (∃aD:Nat,j=(aD:Int)∧aD<rs.length∧(∃n:Int,bQ Z 3 (aX rs) (aD*1)=some (J n:AV)∧ah (decide (n>base)) (∃aL:Int,∃b:Bool,fX Z 3 3 (bM J 0 last) (J n)=some (J aL,b)∧ah (aL==k) (∃w:LI,(cC ws=cC w∧ws.length=w.length∧w.length<100000)∧ah (!decide (n∈w)) (∃ae:LI×List (Int×Int)×Int×Int,(([J n,.ab 0 0,.ab 1 0,.ab 2 0]:LV)=[J ae.2.2.2,.ab 0 0,.ab 1 0,.ab 2 0]∧AT s.cm s.cr s.kO=AT ae.1 ae.2.1 ae.2.2.1∧ae.1.length<50000)∧L (aQ [(1,J base),(4,.ad 1 s.aN.length 6),(5,J s.dS),(6,.aH 2),(7,.ab 3 0),(8,.ab 4 0),(9,J s.gV),(10,.ab 5 0),(11,.bR (.func 127) [] [.ab 4 0,.ab 3 0,.ab 5 0]),(12,J k),(13,.ab 6 0),(15,.ad 7 ws.length 1),(34,.bE 0 off len 0 6 false),(35,J (Int.ofNat len)),(36,J i),(45,.ad 8 rs.length 1),(46,J (Int.ofNat rs.length)),(47,J (wI (j+1)))]) (an [(0,.aF cs 50),(1,c_ s.aN),(2,gy last),(3,.aw [.aH 9] 137),(4,.aw [.ab 10 0] 172),(5,.aw [J (wI (ae.2.2.1-1))] 3),(6,mU x),(7,bp w 3),(8,bp rs 3),(9,gy ae.2.1),(10,.aw [.ad 11 (sx ae.1 (fx ae.2.2.2 ae.2.1)).length 1] 173),(11,bp (sx ae.1 (fx ae.2.2.2 ae.2.1)) 3)] 12) (ao Z 108 1)) (L (aQ [(1,J base),(4,.ad 1 s.aN.length 6),(5,J s.dS),(6,.aH 2),(7,.ab 3 0),(8,.ab 4 0),(9,J s.gV),(10,.ab 5 0),(11,.bR (.func 127) [] [.ab 4 0,.ab 3 0,.ab 5 0]),(12,J k),(13,.ab 6 0),(15,.ad 7 ws.length 1),(34,.bE 0 off len 0 6 false),(35,J (Int.ofNat len)),(36,J i),(45,.ad 8 rs.length 1),(46,J (Int.ofNat rs.length)),(47,J (wI (j+1)))]) (DU cs last s x w rs) (ao Z 108 1))) (L (aQ [(1,J base),(4,.ad 1 s.aN.length 6),(5,J s.dS),(6,.aH 2),(7,.ab 3 0),(8,.ab 4 0),(9,J s.gV),(10,.ab 5 0),(11,.bR (.func 127) [] [.ab 4 0,.ab 3 0,.ab 5 0]),(12,J k),(13,.ab 6 0),(15,.ad 7 ws.length 1),(34,.bE 0 off len 0 6 false),(35,J (Int.ofNat len)),(36,J i),(45,.ad 8 rs.length 1),(46,J (Int.ofNat rs.length)),(47,J (wI (j+1)))]) (DU cs last s x ws rs) (ao Z 108 1))) (L (aQ [(1,J base),(4,.ad 1 s.aN.length 6),(5,J s.dS),(6,.aH 2),(7,.ab 3 0),(8,.ab 4 0),(9,J s.gV),(10,.ab 5 0),(11,.bR (.func 127) [] [.ab 4 0,.ab 3 0,.ab 5 0]),(12,J k),(13,.ab 6 0),(15,.ad 7 ws.length 1),(34,.bE 0 off len 0 6 false),(35,J (Int.ofNat len)),(36,J i),(45,.ad 8 rs.length 1),(46,J (Int.ofNat rs.length)),(47,J (wI (j+1)))]) (DU cs last s x ws rs) (ao Z 108 1)))) (L (aQ [(1,J base),(4,.ad 1 s.aN.length 6),(5,J s.dS),(6,.aH 2),(7,.ab 3 0),(8,.ab 4 0),(9,J s.gV),(10,.ab 5 0),(11,.bR (.func 127) [] [.ab 4 0,.ab 3 0,.ab 5 0]),(12,J k),(13,.ab 6 0),(15,.ad 7 ws.length 1),(34,.bE 0 off len 0 6 false),(35,J (Int.ofNat len)),(36,J i),(71,.ad 7 ws.length 1),(72,J (Int.ofNat ws.length)),(73,J 0)]) (tf cs last s x ws) (ao Z 108 2))):=by kernel_rfl
theorem aqk(cs:LV)(last:LP)(s:Al)(base:Int)(off len:Nat)(i k j:Int)(x:a9)(ws:LI)(L:LT)(Q:QT):
 cO Z Av wi L Q 2000 108 1 (qe s base off len i [(12,J k),(13,.ab 6 0),(15,.ad 7 ws.length 1)] [(71,.ad 7 ws.length 1),(72,J (Int.ofNat ws.length)),(73,J j)]) (ao Z 108 2) (tf cs last s x ws)=(
 ah (decide (j<Int.ofNat ws.length)) (∃aD:Nat,j=(aD:Int)∧aD<ws.length∧(∃n:Int,bQ Z 3 (aX ws) (aD*1)=some (J n:AV)∧(∃aL:Int,∃b:Bool,fX Z 3 3 (bM J 0 s.cr) (J n)=some (J aL,b)∧ah b (L (aQ [(1,J base),(4,.ad 1 s.aN.length 6),(5,J s.dS),(6,.aH 2),(7,.ab 3 0),(8,.ab 4 0),(9,J s.gV),(10,.ab 5 0),(11,.bR (.func 127) [] [.ab 4 0,.ab 3 0,.ab 5 0]),(12,J k),(13,.ab 6 0),(15,.ad 7 ws.length 1),(34,.bE 0 off len 0 6 false),(35,J (Int.ofNat len)),(36,J i),(71,.ad 7 ws.length 1),(72,J (Int.ofNat ws.length)),(73,J (wI (j+1)))]) (tf cs last s x ws) (ao Z 108 2)) (ah (decide (n<=base)) (L (aQ [(1,J base),(4,.ad 1 s.aN.length 6),(5,J s.dS),(6,.aH 2),(7,.ab 3 0),(8,.ab 4 0),(9,J s.gV),(10,.ab 5 0),(11,.bR (.func 127) [] [.ab 4 0,.ab 3 0,.ab 5 0]),(12,J k),(13,.ab 6 0),(15,.ad 7 ws.length 1),(34,.bE 0 off len 0 6 false),(35,J (Int.ofNat len)),(36,J i),(71,.ad 7 ws.length 1),(72,J (Int.ofNat ws.length)),(73,J (wI (j+1)))]) (tf cs last s x ws) (ao Z 108 2)) (∃w:LI,(([.ad 0 s.cm.length 1]:LV)=[.ad 0 w.length 1]∧cC s.cm=cC w)∧ah (decide (Int.ofNat w.length>0)) (∃ae:LI,(([.eK 172 (.ab 0 0)]:LV)=[.eK 172 (.ab 0 0)]∧an [(0,.aw [.ad 1 s.cm.length 1] 173),(1,bp w 3)] 2=fD ae∧0<ae.length∧ae.length<50000)∧some (.aH 8:AV)=some (.aH 8:AV)∧(∃bw:List (AV×AV×Nat),∃c':Nat,jc Z 3 (bM J 0 s.cr) s.cr.length (J n) (J (List.getD (mc ae) (ae.length-1) 0))=some (bw,c')∧L (aQ [(1,J base),(4,.ad 1 s.aN.length 6),(5,J s.dS),(6,.aH 2),(7,.ab 3 0),(8,.ab 4 0),(9,J s.gV),(10,.ab 5 0),(11,.bR (.func 127) [] [.ab 4 0,.ab 3 0,.ab 5 0]),(12,J k),(13,.ab 6 0),(15,.ad 7 ws.length 1),(34,.bE 0 off len 0 6 false),(35,J (Int.ofNat len)),(36,J i),(71,.ad 7 ws.length 1),(72,J (Int.ofNat ws.length)),(73,J (wI (j+1)))]) (an [(0,.aF cs 50),(1,c_ s.aN),(2,gy last),(3,.aw [.aH 8] 137),(4,.aw [.ab 9 0] 172),(5,.aw [J (wI (s.kO+1))] 3),(6,mU x),(7,bp ws 3),(8,.bC bw c' true),(9,.aw [.ad 10 ((mc ae).take (ae.length-1)).length 1] 173),(10,bp (List.take (ae.length-1) (mc ae)) 3)] 11) (ao Z 108 2))) (∃bw:List (AV×AV×Nat),∃c':Nat,jc Z 3 (bM J 0 s.cr) s.cr.length (J n) (J s.gV)=some (bw,c')∧L (aQ [(1,J base),(4,.ad 1 s.aN.length 6),(5,J s.dS),(6,.aH 2),(7,.ab 3 0),(8,.ab 4 0),(9,J (wI (s.gV+1))),(10,.ab 5 0),(11,.bR (.func 127) [] [.ab 4 0,.ab 3 0,.ab 5 0]),(12,J k),(13,.ab 6 0),(15,.ad 7 ws.length 1),(34,.bE 0 off len 0 6 false),(35,J (Int.ofNat len)),(36,J i),(71,.ad 7 ws.length 1),(72,J (Int.ofNat ws.length)),(73,J (wI (j+1)))]) (an [(0,.aF cs 50),(1,c_ s.aN),(2,gy last),(3,.aw [.aH 8] 137),(4,.aw [.ab 9 0] 172),(5,.aw [J (wI (s.kO+1))] 3),(6,mU x),(7,bp ws 3),(8,.bC bw c' true),(9,.aw [.ad 10 s.cm.length 1] 173),(10,bp w 3)] 11) (ao Z 108 2))))))) (L (aQ [(1,J base),(4,.ad 1 s.aN.length 6),(5,J (if s.kO>s.dS then s.kO else s.dS)),(6,.aH 2),(7,.ab 3 0),(8,.ab 4 0),(9,J s.gV),(10,.ab 5 0),(11,.bR (.func 127) [] [.ab 4 0,.ab 3 0,.ab 5 0]),(12,J k),(13,.ab 6 0),(34,.bE 0 off len 0 6 false),(35,J (Int.ofNat len)),(36,J i),(114,.ad 7 ws.length 1),(115,J (Int.ofNat ws.length)),(116,J 0)]) (tf cs last s x ws) (ao Z 108 3))):=by kernel_rfl
theorem aqd(cs:LV)(last:LP)(s:Al)(base:Int)(off len:Nat)(i k j:Int)(x:a9)(ws:LI)(L:LT)(Q:QT):
 cO Z Av wi L Q 2000 108 1 (qe s base off len i [(12,J k),(13,.ab 6 0)] [(114,.ad 7 ws.length 1),(115,J (Int.ofNat ws.length)),(116,J j)]) (ao Z 108 3) (tf cs last s x ws)=(
 ah (decide (j<Int.ofNat ws.length)) (∃aD:Nat,j=(aD:Int)∧aD<ws.length∧(∃n:Int,bQ Z 3 (aX ws) (aD*1)=some (J n:AV)∧ah (decide (n>base)) (∃aL:Int,∃b:Bool,fX Z 3 3 (bM J 0 last) (J n)=some (J aL,b)∧ah (aL==k) (∃w:LI×List (Int×Int)×Int×Int,(([J n,.ab 0 0,.ab 1 0,.ab 2 0]:LV)=[J w.2.2.2,.ab 0 0,.ab 1 0,.ab 2 0]∧AT s.cm s.cr s.kO=AT w.1 w.2.1 w.2.2.1∧w.1.length<50000)∧L (aQ [(1,J base),(4,.ad 1 s.aN.length 6),(5,J s.dS),(6,.aH 2),(7,.ab 3 0),(8,.ab 4 0),(9,J s.gV),(10,.ab 5 0),(11,.bR (.func 127) [] [.ab 4 0,.ab 3 0,.ab 5 0]),(12,J k),(13,.ab 6 0),(34,.bE 0 off len 0 6 false),(35,J (Int.ofNat len)),(36,J i),(114,.ad 7 ws.length 1),(115,J (Int.ofNat ws.length)),(116,J (wI (j+1)))]) (an [(0,.aF cs 50),(1,c_ s.aN),(2,gy last),(3,.aw [.aH 8] 137),(4,.aw [.ab 9 0] 172),(5,.aw [J (wI (w.2.2.1-1))] 3),(6,mU x),(7,bp ws 3),(8,gy w.2.1),(9,.aw [.ad 10 (sx w.1 (fx w.2.2.2 w.2.1)).length 1] 173),(10,bp (sx w.1 (fx w.2.2.2 w.2.1)) 3)] 11) (ao Z 108 3)) (L (aQ [(1,J base),(4,.ad 1 s.aN.length 6),(5,J s.dS),(6,.aH 2),(7,.ab 3 0),(8,.ab 4 0),(9,J s.gV),(10,.ab 5 0),(11,.bR (.func 127) [] [.ab 4 0,.ab 3 0,.ab 5 0]),(12,J k),(13,.ab 6 0),(34,.bE 0 off len 0 6 false),(35,J (Int.ofNat len)),(36,J i),(114,.ad 7 ws.length 1),(115,J (Int.ofNat ws.length)),(116,J (wI (j+1)))]) (tf cs last s x ws) (ao Z 108 3))) (L (aQ [(1,J base),(4,.ad 1 s.aN.length 6),(5,J s.dS),(6,.aH 2),(7,.ab 3 0),(8,.ab 4 0),(9,J s.gV),(10,.ab 5 0),(11,.bR (.func 127) [] [.ab 4 0,.ab 3 0,.ab 5 0]),(12,J k),(13,.ab 6 0),(34,.bE 0 off len 0 6 false),(35,J (Int.ofNat len)),(36,J i),(114,.ad 7 ws.length 1),(115,J (Int.ofNat ws.length)),(116,J (wI (j+1)))]) (tf cs last s x ws) (ao Z 108 3)))) (∃w:a9×List (Int×Int),pO x s.cr=pO w.1 w.2∧(∃ae:a9×List (Int×Int),pO (a9.mk w.1.op (pq w.2 w.1.r) w.1.a w.1.n w.1.cH w.1.ar) w.2=pO ae.1 ae.2∧((cw s.aN).length=s.aN.length*6∧s.aN.length+1<=65536∧true=true∧true=true)∧L (aQ [(1,J base),(4,.ad 1 (s.aN.length+1) 6),(5,J s.dS),(6,.aH 2),(7,.ab 3 0),(8,.ab 4 0),(9,J s.gV),(10,.ab 5 0),(11,.bR (.func 127) [] [.ab 4 0,.ab 3 0,.ab 5 0]),(34,.bE 0 off len 0 6 false),(35,J (Int.ofNat len)),(36,J (wI (i+1)))]) (an [(0,.aF cs 50),(1,.aF (cw s.aN++cb (a9.mk ae.1.op ae.1.r (pq ae.2 ae.1.a) ae.1.n ae.1.cH ae.1.ar)) 50),(2,gy last),(3,.aw [.aH 6] 137),(4,.aw [.ab 7 0] 172),(5,.aw [J s.kO] 3),(6,gy ae.2),(7,.aw [.ad 8 s.cm.length 1] 173),(8,bp s.cm 3)] 9) (ao Z 108 0)))):=by kernel_rfl
theorem Xi(i:a9):(bj i).length<=2:=by
 have h:=(u9 i.op).2;have h2:(dm i.op).1.2.2.2.2≠[112]:=by
  unfold dm;cases hs:eZ i.op with
  |none=>simp[sQ]
  |some r=>have:=NL hs;simp only[fe,sy,List.mem_nil_iff,or_false]at this;rcases this with rfl|rfl|rfl|rfl|rfl|rfl|rfl|rfl|rfl|rfl|rfl|rfl|rfl|rfl|rfl|rfl|rfl|rfl|rfl|rfl|rfl|rfl|rfl|rfl|rfl<;>simp
 unfold bj c7;split
 ·rcases h with h|h|h|h|h<;>rw[h]<;>simp[eI]
  ·split<;>simp
  ·exact absurd h h2
 ·simp
def r_(base:Int)(l:LI):Nat:=(l.filter (fun r=>decide (r>base))).length
theorem QU(base:Int)(l:LI):r_ base l<=l.length:=List.length_filter_le _ _
theorem anC{n x:Int}(h:x∈gR n):x<=n:=by unfold gR at h;obtain⟨k,h1,rfl⟩:=List.mem_map.1 h;have:=List.mem_range.1 h1;omega
theorem apq{i:a9}{base:Int}(h:(i.op=19∨i.op=20)->i.ar<=base):r_ base (bo i)<=2:=by
 have h0:=(u9 i.op).1;have h2:(dm i.op).1.2.2.2.1=[112]->i.op=19∨i.op=20:=by
  unfold dm;cases hs:eZ i.op with
  |none=>simp[sQ]
  |some r=>
   have jY:r.1=i.op:=by
    obtain⟨o,a1,a2,a3,a4,a5⟩:=i;cases o with
    |negSucc n=>cases hs
    |ofNat n=>
     simp only at hs;match n,hs with
     |n+1,hs=>
      have hn:∀(l:List jO) (m n:Nat) (r:jO),gp l n=some r->(∀j (h:j<l.length),(l[j]).1=((m+j:Nat):Int))->r.1=((m+n:Nat):Int):=by
       intro l;induction l with
       |nil=>intro m n r h;cases h
       |cons a l ih=>
        intro m n r h hj;cases n with
        |zero=>cases h;have:=hj 0 (by simp);exact this
        |succ n=>have:=ih (m+1) n r h (fun j h=>by have:=hj (j+1) (by simpa using h);simp only[List.getElem_cons_succ]at this;rw[this];congr 1;omega);rw[this];congr 1;omega
      have:=hn fe 1 n r hs (by decide);rw[this];simp;omega
   have:=NL hs;simp only[fe,sy,List.mem_nil_iff,or_false]at this;intro hr;rw[←jY];rcases this with rfl|rfl|rfl|rfl|rfl|rfl|rfl|rfl|rfl|rfl|rfl|rfl|rfl|rfl|rfl|rfl|rfl|rfl|rfl|rfl|rfl|rfl|rfl|rfl|rfl<;>simp at hr⊢
 unfold bo c7;split
 ·rcases h0 with h1|h1|h1|h1|h1<;>rw[h1]
  ·simp[r_]
  ·refine Nat.le_trans (QU _ _) ?_;simp[eI]
  ·refine Nat.le_trans (QU _ _) ?_;simp[eI]
  ·refine Nat.le_trans (QU _ _) ?_;simp only[iy,List.foldl_nil,eI];simp;split<;>simp
  ·have hb:=h (h2 h1);simp only[iy,List.foldl_nil,eI];simp only[r_];rw[List.filter_eq_nil_iff.2]
   ·simp
   ·intro x hx;simp at hx;have:=anC hx;simp;omega
 ·simp[r_]
theorem aan(l:cn)(i:a9):cw (l++[i])=cw l++[J i.op,J i.r,J i.a,J i.n,.aa i.cH,J i.ar]:=by rw[KE];rfl
theorem Nl(l:LI)(x:Int):(sx l x).length=l.length+1:=by simp[sx,WO]
theorem aeu(l:LI):(mc l).length=l.length:=by rw[mc,Q_,oO]
section
variable{cs:LV}{off len:Nat}{base i k:Int}{az sF:Al}{x:a9}{ws rs:LI}{last:LP}
theorem aqe(hw:ws.length<5000)(ho:sF.aN.length<60000)(next:bJ Z 108 148 1 (.aJ [.ad 1 az.aN.length 6,J az.dS]) (tg cs az.aN) (qe (sF.t_ x) base off len (wI (i+1)) [] []) (AS cs last (sF.t_ x)) (ao Z 108 0)):
 ∀p:Nat×Al,(p.1<=ws.length∧p.2.cm.length+(ws.length-p.1)<50000∧(ws.drop p.1).foldl (Al.az base last k) p.2=sF)->
 bJ Z 108 148 1 (.aJ [.ad 1 az.aN.length 6,J az.dS]) (tg cs az.aN) (qe p.2 base off len i [(12,J k),(13,.ab 6 0)] [(114,.ad 7 ws.length 1),(115,J (Int.ofNat ws.length)),(116,J (p.1:Int))]) (tf cs last p.2 x ws) (ao Z 108 3):=by
 refine cV (fun p=>ws.length-p.1) _ _ _ _ ?_;rintro⟨j,s⟩ ⟨hj,hb,hf⟩ ih;simp only at hj hb hf ih⊢;refine hD CO 2000 wi (by kernel_rfl) ?_;rw[aqd];refine aI.2 ⟨fun aj=>?_,fun aS=>?_⟩
 ·have aj:j<ws.length:=by simpa using aj
  rw[dN aj,iy]at hf;have hg:ws.getD j 0=ws[j]:=by simp[List.getD,jn aj]
  refine⟨j,rfl,aj,ws[j],by rw[ja aj,hg],?_⟩;rw[gq aj (by omega)];have skip:¬(ws[j]>base∧fx ws[j] last=k)->bJ Z 108 148 1 (.aJ [.ad 1 az.aN.length 6,J az.dS]) (tg cs az.aN) (qe s base off len i [(12,J k),(13,.ab 6 0)] [(114,.ad 7 ws.length 1),(115,J (Int.ofNat ws.length)),(116,J ((j+1:Nat):Int))]) (tf cs last s x ws) (ao Z 108 3):=by intro hn;rw[Al.az,aB hn]at hf;exact ih (j+1,s) ⟨by simp;omega,by simp only;omega,hf⟩ (by simp;omega)
  obtain⟨n,b,h1,h2,_⟩:=BF last ws[j];refine aI.2 ⟨fun hr=>⟨n,b,h1,aI.2 ⟨fun hk=>?_,fun hk=>?_⟩⟩,fun hr=>?_⟩
  ·have hc:ws[j]>base∧fx ws[j] last=k:=⟨by simpa using hr,by rw[←h2];simpa using hk⟩;rw[Al.az,aY hc]at hf;have rk:s.cm.length<50000:=by omega
   refine⟨(s.cm,s.cr,s.kO,ws[j]),⟨rfl,rfl,rk⟩,?_⟩;exact ih (j+1,s.oo ws[j]) ⟨by simp;omega,by simp only[Al.oo,Nl];omega,hf⟩ (by simp;omega)
  ·exact skip (fun h=>by simp at hk;exact hk (h2.trans h.2))
  ·exact skip (fun h=>by simp at hr;omega)
 ·have aS:ws.length<=j:=by simpa using aS
  rw[eT aS]at hf;have hf:s=sF:=hf;subst hf;refine⟨(x,s.cr),rfl,(⟨x.op,pq s.cr x.r,x.a,x.n,x.cH,x.ar⟩,s.cr),rfl,⟨by rw[xg],by omega,rfl,rfl⟩,?_⟩;have hol:(s.t_ x).aN.length=s.aN.length+1:=by simp[Al.t_]
  simp only[qe,AS,c_,hol]at next
  have hoe:cw (s.t_ x).aN=cw s.aN++[J (vF s.cr x).op,J (vF s.cr x).r,J (vF s.cr x).a,J (vF s.cr x).n,.aa (vF s.cr x).cH,J (vF s.cr x).ar]:=aan _ _;rw[hoe]at next
  exact next
theorem aql(hw:ws.length<5000){sW:Al}(rz:sW.cm.length+ws.length<50000)(ho:sF.aN.length<60000)(Tt:ws.foldl (Al.az base last k) sW.qP=sF)(next:bJ Z 108 148 1 (.aJ [.ad 1 az.aN.length 6,J az.dS]) (tg cs az.aN) (qe (sF.t_ x) base off len (wI (i+1)) [] []) (AS cs last (sF.t_ x)) (ao Z 108 0)):
 ∀p:Nat×Al,(p.1<=ws.length∧p.2.cm.length<50000∧(ws.drop p.1).foldl (Al.jJ base) p.2=sW)->
 bJ Z 108 148 1 (.aJ [.ad 1 az.aN.length 6,J az.dS]) (tg cs az.aN) (qe p.2 base off len i [(12,J k),(13,.ab 6 0),(15,.ad 7 ws.length 1)] [(71,.ad 7 ws.length 1),(72,J (Int.ofNat ws.length)),(73,J (p.1:Int))]) (tf cs last p.2 x ws) (ao Z 108 2):=by
 refine cV (fun p=>ws.length-p.1) _ _ _ _ ?_;rintro⟨j,s⟩ ⟨hj,hb,hf⟩ ih;simp only at hj hb hf ih⊢;refine hD CO 2000 wi (by kernel_rfl) ?_;rw[aqk];refine aI.2 ⟨fun aj=>?_,fun aS=>?_⟩
 ·have aj:j<ws.length:=by simpa using aj
  rw[dN aj,iy]at hf;have hg:ws.getD j 0=ws[j]:=by simp[List.getD,jn aj]
  refine⟨j,rfl,aj,ws[j],by rw[ja aj,hg],?_⟩;rw[gq aj (by omega)];have skip:((lk ws[j] s.cr).isSome∨ws[j]<=base)->bJ Z 108 148 1 (.aJ [.ad 1 az.aN.length 6,J az.dS]) (tg cs az.aN) (qe s base off len i [(12,J k),(13,.ab 6 0),(15,.ad 7 ws.length 1)] [(71,.ad 7 ws.length 1),(72,J (Int.ofNat ws.length)),(73,J ((j+1:Nat):Int))]) (tf cs last s x ws) (ao Z 108 2):=by intro hn;rw[Al.jJ,aY hn]at hf;exact ih (j+1,s) ⟨by simp;omega,hb,hf⟩ (by simp;omega)
  obtain⟨n,b,h1,h2,h3,h4⟩:=BF s.cr ws[j];refine⟨n,b,h1,aI.2 ⟨fun h=>skip (.inl (by rw[h3 h];rfl)),fun h=>aI.2 ⟨fun h5=>skip (.inr (by simpa using h5)),fun h5=>?_⟩⟩⟩;have hn:¬((lk ws[j] s.cr).isSome∨ws[j]<=base):=by rw[h4 h];simp at h5⊢;omega
  rw[Al.jJ,aB hn]at hf;refine⟨s.cm,⟨rfl,rfl⟩,aI.2 ⟨fun h6=>?_,fun h6=>?_⟩⟩
  ·have h6:0<s.cm.length:=by simpa using h6
   rw[aY h6]at hf;refine⟨s.cm,⟨rfl,rfl,h6,hb⟩,rfl,_,_,qb J vL,?_⟩;exact ih (j+1,_) ⟨by simp;omega,by simp only[List.length_take,aeu];omega,hf⟩ (by simp;omega)
  ·have h6:¬0<s.cm.length:=by simpa using h6
   rw[aB h6]at hf;refine⟨_,_,qb J vL,?_⟩;exact ih (j+1,⟨s.aN,s.dS,up ws[j] s.gV s.cr,s.cm,wI (s.gV+1),wI (s.kO+1)⟩) ⟨by simp;omega,hb,hf⟩ (by simp;omega)
 ·have aS:ws.length<=j:=by simpa using aS
  rw[eT aS]at hf;have hf:s=sW:=hf;subst hf;have hm:(if s.kO>s.dS then s.kO else s.dS)=max s.dS s.kO:=by split<;>omega
  rw[hm];exact aqe hw ho next (0,s.qP) ⟨by simp,by show s.cm.length+(ws.length-0)<50000;simpa using rz,by simpa using Tt⟩
theorem aqj(hr:rs.length<5000)(hw:ws.length<5000){sR sW:Al}(hR:sR.cm.length<50000)(hsW:ws.foldl (Al.jJ base) sR=sW)(rz:sW.cm.length+ws.length<50000)(ho:sF.aN.length<60000)(Tt:ws.foldl (Al.az base last k) sW.qP=sF)(next:bJ Z 108 148 1 (.aJ [.ad 1 az.aN.length 6,J az.dS]) (tg cs az.aN) (qe (sF.t_ x) base off len (wI (i+1)) [] []) (AS cs last (sF.t_ x)) (ao Z 108 0)):
 ∀p:Nat×Al,(p.1<=rs.length∧p.2.cm.length+r_ base (rs.drop p.1)<50000∧(rs.drop p.1).foldl (Al.iH base last k ws) p.2=sR)->
 bJ Z 108 148 1 (.aJ [.ad 1 az.aN.length 6,J az.dS]) (tg cs az.aN) (qe p.2 base off len i [(12,J k),(13,.ab 6 0),(15,.ad 7 ws.length 1)] [(45,.ad 8 rs.length 1),(46,J (Int.ofNat rs.length)),(47,J (p.1:Int))]) (DU cs last p.2 x ws rs) (ao Z 108 1):=by
 refine cV (fun p=>rs.length-p.1) _ _ _ _ ?_;rintro⟨j,s⟩ ⟨hj,hb,hf⟩ ih;simp only at hj hb hf ih⊢;refine hD CO 2000 wi (by kernel_rfl) ?_;rw[aqi];refine aI.2 ⟨fun aj=>?_,fun aS=>?_⟩
 ·have aj:j<rs.length:=by simpa using aj
  rw[dN aj,iy]at hf;rw[dN aj]at hb;have SA:r_ base (rs[j]::rs.drop (j+1))=(if rs[j]>base then 1 else 0)+r_ base (rs.drop (j+1)):=by simp only[r_,List.filter_cons];by_cases h:rs[j]>base<;>simp[h];omega
  rw[SA]at hb;have hg:rs.getD j 0=rs[j]:=by simp[List.getD,jn aj]
  refine⟨j,rfl,aj,rs[j],by rw[ja aj,hg],?_⟩;rw[gq aj (by omega)];have skip:¬(rs[j]>base∧fx rs[j] last=k∧rs[j]∉ws)->bJ Z 108 148 1 (.aJ [.ad 1 az.aN.length 6,J az.dS]) (tg cs az.aN) (qe s base off len i [(12,J k),(13,.ab 6 0),(15,.ad 7 ws.length 1)] [(45,.ad 8 rs.length 1),(46,J (Int.ofNat rs.length)),(47,J ((j+1:Nat):Int))]) (DU cs last s x ws rs) (ao Z 108 1):=by intro hn;rw[Al.iH,aB hn]at hf;exact ih (j+1,s) ⟨by simp;omega,by simp only;omega,hf⟩ (by simp;omega)
  obtain⟨n,b,h1,h2,_⟩:=BF last rs[j];refine aI.2 ⟨fun hr=>⟨n,b,h1,aI.2 ⟨fun hk=>⟨ws,⟨rfl,rfl,by omega⟩,aI.2 ⟨fun hm=>?_,fun hm=>?_⟩⟩,fun hk=>?_⟩⟩,fun hr=>?_⟩
  ·have xG:rs[j]>base:=by simpa using hr
   have hc:rs[j]>base∧fx rs[j] last=k∧rs[j]∉ws:=⟨xG,by rw[←h2];simpa using hk,by simpa using hm⟩;rw[Al.iH,aY hc]at hf;rw[aY xG]at hb;have rk:s.cm.length<50000:=by omega
   refine⟨(s.cm,s.cr,s.kO,rs[j]),⟨rfl,rfl,rk⟩,?_⟩;exact ih (j+1,s.oo rs[j]) ⟨by simp;omega,by simp only[Al.oo,Nl];omega,hf⟩ (by simp;omega)
  ·exact skip (fun h=>by simp at hm;exact h.2.2 hm)
  ·exact skip (fun h=>by simp at hk;exact hk (h2.trans h.2.1))
  ·exact skip (fun h=>by simp at hr;omega)
 ·have aS:rs.length<=j:=by simpa using aS
  rw[eT aS]at hf;have hf:s=sR:=hf;subst hf;exact aql hw rz ho Tt next (0,s) ⟨by simp,hR,by simpa using hsW⟩
end
theorem RJ(base:Int)(last:LP)(k:Int)(ws:LI):∀(rs:LI) (s:Al),(rs.foldl (Al.iH base last k ws) s).cm.length<=s.cm.length+r_ base rs∧(rs.foldl (Al.iH base last k ws) s).aN=s.aN
 |[],s=>⟨by simp,rfl⟩
 |r::rs,s=>by
  have h:=RJ base last k ws rs (s.iH base last k ws r);have SA:r_ base (r::rs)=(if r>base then 1 else 0)+r_ base rs:=by simp only[r_,List.filter_cons];by_cases h:r>base<;>simp[h];omega
  simp only[iy];rw[SA];have h1:(s.iH base last k ws r).cm.length<=s.cm.length+(if r>base then 1 else 0)∧(s.iH base last k ws r).aN=s.aN:=by
   unfold Al.iH;split
   ·rename_i hc;rw[aY hc.1];exact⟨by simp[Al.oo,Nl],rfl⟩
   ·exact⟨by omega,rfl⟩
  exact⟨by omega,h.2.trans h1.2⟩
theorem RL(base:Int):∀(ws:LI) (s:Al),(ws.foldl (Al.jJ base) s).cm.length<=s.cm.length∧(ws.foldl (Al.jJ base) s).aN=s.aN
 |[],s=>⟨by simp,rfl⟩
 |r::ws,s=>by
  have h:=RL base ws (s.jJ base r);simp only[iy];have h1:(s.jJ base r).cm.length<=s.cm.length∧(s.jJ base r).aN=s.aN:=by
   unfold Al.jJ;split
   ·exact⟨by omega,rfl⟩
   ·split
    ·exact⟨by simp only[List.length_take,aeu];omega,rfl⟩
    ·exact⟨by simp,rfl⟩
  exact⟨by omega,h.2.trans h1.2⟩
theorem RI(base:Int)(last:LP)(k:Int):∀(ws:LI) (s:Al),(ws.foldl (Al.az base last k) s).cm.length<=s.cm.length+ws.length∧(ws.foldl (Al.az base last k) s).aN=s.aN
 |[],s=>⟨by simp,rfl⟩
 |r::ws,s=>by
  have h:=RI base last k ws (s.az base last k r);simp only[iy];have h1:(s.az base last k r).cm.length<=s.cm.length+1∧(s.az base last k r).aN=s.aN:=by
   unfold Al.az;split
   ·exact⟨by simp[Al.oo,Nl],rfl⟩
   ·exact⟨by omega,rfl⟩
  exact⟨by simp;omega,h.2.trans h1.2⟩
theorem aqf{p:h_}{base:Int}{last:LP}{az:Al}(hp:p.ok)(hl:p.l.length<12000)(hv:∀x∈p.l,(x.op=19∨x.op=20)->x.ar<=base):
 ∀q:Nat×Al,(q.1<=p.l.length∧q.2.cm.length<=4*q.1∧q.2.aN.length=q.1∧Al.rV base last q.1 q.2 (p.l.drop q.1)=az)->
 bJ Z 108 148 1 (.aJ [.ad 1 az.aN.length 6,J az.dS]) (tg p.cs az.aN) (qe q.2 base p.fW p.l.length (q.1:Int) [] []) (AS p.cs last q.2) (ao Z 108 0):=by
 refine cV (fun q=>p.l.length-q.1) _ _ _ _ ?_;rintro⟨i,s⟩ ⟨hi,hb,ho,hf⟩ ih;simp only at hi hb ho hf ih⊢;refine hD CO 2000 wi (by kernel_rfl) ?_;rw[aqh];refine aI.2 ⟨fun aj=>?_,fun aS=>?_⟩
 ·have aj:i<p.l.length:=by simpa using aj
  have bX:=p.get hp aj;have HW:=hv p.l[i] (Fs aj);rw[dN aj,Al.rV]at hf;generalize p.l[i]=x at bX hf HW;have c1:=apq HW;have c2:=Xi x;have hr:=Fw x;have hw:=FX x;have a1:=RJ base last i (bj x) (bo x) s;have a2:=RL base (bj x) ((bo x).foldl (Al.iH base last i (bj x)) s);have a3:=RI base last i (bj x) ((bj x).foldl (Al.jJ base) ((bo x).foldl (Al.iH base last i (bj x)) s)).qP;have a4:((bj x).foldl (Al.jJ base) ((bo x).foldl (Al.iH base last i (bj x)) s)).qP.cm=((bj x).foldl (Al.jJ base) ((bo x).foldl (Al.iH base last i (bj x)) s)).cm:=rfl;have a5:((bj x).foldl (Al.jJ base) ((bo x).foldl (Al.iH base last i (bj x)) s)).qP.aN=((bj x).foldl (Al.jJ base) ((bo x).foldl (Al.iH base last i (bj x)) s)).aN:=rfl;rw[a4]at a3;have dM:((bj x).foldl (Al.az base last i) ((bj x).foldl (Al.jJ base) ((bo x).foldl (Al.iH base last i (bj x)) s)).qP).aN=s.aN:=by rw[a3.2,a5,a2.2,a1.2]
  have next:=ih (i+1,s.sS base last i x) ⟨by simp;omega,by show((bj x).foldl (Al.az base last i) _).cm.length<=4*(i+1);omega,by show(_++[_]).length=i+1;rw[bI,dM,ho];rfl,hf⟩ (by simp;omega)
  simp only at next
  rw[←gq aj (by omega)]at next
  obtain⟨o,r,a,n,s',ar⟩:=x;refine⟨i,rfl,aj,o,r,a,n,s',ar,bX,⟨o,r,a,n,s',ar⟩,⟨rfl,rfl⟩,rfl,⟨o,r,a,n,s',ar⟩,⟨rfl,rfl⟩,?_⟩;exact aqj (x:=⟨o,r,a,n,s',ar⟩) hr hw (by omega) rfl (by omega) (by rw[dM];omega) rfl next (0,s) ⟨by simp,by simp only[jB];omega,by simp⟩
 ·have aS:p.l.length<=i:=by simpa using aS
  rw[eT aS]at hf;have hf:s=az:=hf;subst hf;exact⟨rfl,rfl⟩
def aex:List (Nat×Nat):=[(0,0),(8,1),(1,2),(2,3),(3,4),(4,5),(5,6),(6,7),(7,8)]
def T6(cs:LV)(last:LP):List (Nat×aZ):=[(0,.aF cs 50),(1,gy last),(2,.aw [.aH 5] 137),(3,.aw [.ab 6 0] 172),(4,.aw [J 0] 3),(5,.bC [] 0 true),(6,.aw [.bE 7 0 0 0 1 true] 173),(7,.aw [] 3)]
def P3(base:Int)(off len:Nat):List (Nat×AV):=[(1,J base),(4,.bB),(5,J 0),(6,.aH 1),(7,.ab 2 0),(8,.ab 3 0),(9,J (wI (base+1))),(10,.ab 4 0),(11,.bR (.func 127) [] [.ab 3 0,.ab 2 0,.ab 4 0]),(34,.bE 0 off len 0 6 false),(35,J (Int.ofNat len)),(36,J 0)]
theorem awn(cs:LV)(last:LP)(base:Int):oT 1 [8,1,2,3,4,3,2,4,0] (an (Ah 7 (.aF [] 3) (T6 cs last++[(8,.aF [] 50)])) 9)=some ⟨aex,AS cs last (vu base)⟩:=by kernel_rfl
theorem aws(base:Int)(off len:Nat):tV (jA aex) (aQ ((BM 8 6 [4] (P3 base off len)).map fun x=>(x.1,tY 7 x.2))) [1,4,5,6,7,8,9,10,11,34,35,36]=some (qe (vu base) base off len 0 [] []):=by kernel_rfl
theorem Pr:bm Z Pq:=by refine de CO ?_;rintro⟨p,base⟩ args H ⟨rfl,rfl,hp,hl,hv⟩;have hp:p.ok:=hp;refine eS CO 2000 wi 148 (by kernel_rfl) ?_;simp only[Qe,gB];rw[aqg];refine⟨(p,base),⟨rfl,rfl,hp⟩,?_⟩;refine A' (n:=8) (l:=T6 p.cs (uW base 0 [] p.l)) (T:=P3 base p.fW p.l.length) 6 50 [4] ?_ rfl (by kernel_rfl);refine abE (g:=7) (n:=9) (l:=T6 p.cs (uW base 0 [] p.l)++[(8,.aF [] 50)]) (T:=BM 8 6 [4] (P3 base p.fW p.l.length)) (new:=.aF [] 3) ?_ rfl (fun φ e o h=>CT rfl h) rfl (by kernel_rfl);refine dH.rU (by kernel_rfl) (awn p.cs (uW base 0 [] p.l) base) (aws base p.fW p.l.length) ?_;exact aqf hp hl hv (0,vu base) ⟨by simp,by simp[vu],rfl,rfl⟩
end
end Go.Cl
