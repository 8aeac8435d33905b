/- Part of a proof of ClauseValid. -/
import Derived.Test.YtanclcoobcaemaaGreatVA5
import Derived.Test.YtanclcoobcaemaaGreatProg
import Derived.KernelRfl
set_option linter.all false
set_option linter.unusedSectionVars false
set_option maxRecDepth 100000
namespace Go.Cl
open Go.Ev
noncomputable section
abbrev LT:=Tr AV->AH->List b_->Prop
abbrev QT:=AV->AH->Prop
abbrev J(n:Int):AV:=.ck .i64 n
abbrev wI(n:Int):Int:=IntKind.i64.wrap n
inductive aK where
 |mk (kind n:Int) (name:LN) (args:List aK)
 deriving Inhabited
namespace aK
def df:aK->Int|mk k _ _ _=>k
def n:aK->Int|mk _ n _ _=>n
def f_:aK->LN|mk _ _ s _=>s
def dE:aK->List aK|mk _ _ _ l=>l
end aK
abbrev bH:=List aK
mutual
def cR:aK->LV
 |.mk k n s l=>[.ck .i64 k,.ck .i64 n,.aa s,.ax (aP l) l.length 4]
def aP:bH->LV
 |[]=>[]
 |t::l=>cR t++aP l
end
def axM(t:aK):AV:=.au (cR t)
def ayh(l:bH):AV:=.ax (aP l) l.length 4
theorem Dw(t:aK):(cR t).length=4:=by cases t;simp[cR]
theorem AO:∀l:bH,(aP l).length=l.length*4
 |[]=>rfl
 |t::l=>by simp[aP,Dw,AO l];omega
theorem GS:∀{l:bH} {i:Nat} (h:i<l.length),((aP l).drop (i*4)).take 4=cR l[i]
 |[],i,h=>by simp at h
 |t0::l,0,h=>by simp only[aP,Nat.zero_mul,jB,List.getElem_cons_zero];have:=List.take_left' (l₂:=aP l) (Dw t0);exact this
 |t0::l,i+1,h=>by
  have hl:i<l.length:=by simpa using h
  have:=GS hl;simp only[aP,List.getElem_cons_succ];rw[←this];congr 1;have e:(i+1)*4=(cR t0).length+i*4:=by rw[Dw];omega
  rw[e,List.drop_length_add_append]
mutual
theorem uz:∀{t u:aK},cR t=cR u->t=u
 |.mk k n s l,.mk k' n' s' l',h=>by simp only[cR,List.cons.injEq,AV.ck.injEq,AV.aa.injEq,AV.ax.injEq,true_and,and_true]at h;obtain⟨rfl,rfl,rfl,h,hl⟩:=h;rw[vJ hl h]
theorem vJ:∀{l m:bH},l.length=m.length->aP l=aP m->l=m
 |[],[],_,_=>rfl
 |[],_::_,h,_=>by simp at h
 |_::_,[],h,_=>by simp at h
 |t::l,u::m,hl,h=>by simp only[aP]at h;have h2:=List.append_inj h (by rw[Dw,Dw]);rw[uz h2.1,vJ (by simpa using hl) h2.2]
end
def gL{α:Type}[Inhabited α](f:aK->α)(cells:LV):α:=
 @dite _ (∃t,cR t=cells) (Classical.propDecidable _) (fun h=>f h.choose) (fun _=>default)
theorem yU{α:Type}[Inhabited α](f:aK->α)(t:aK):gL f (cR t)=f t:=by unfold gL;rw[dif_pos ⟨t,rfl⟩];congr 1;exact uz (Exists.choose_spec (⟨t,rfl⟩:∃u,cR u=cR t))
def eF(n:Nat):Prop:=n<9223372036854775808
mutual
def eR:aK->Prop
 |.mk _ _ s l=>eF s.length∧eF l.length∧gU l
def gU:bH->Prop
 |[]=>True
 |t::l=>eR t∧gU l
end
theorem M5:∀{l:bH} {i:Nat} (h:i<l.length),gU l->eR l[i]
 |[],i,h,_=>by simp at h
 |t::l,0,h,ho=>ho.1
 |t::l,i+1,h,ho=>M5 (l:=l) (by simpa using h) ho.2
mutual
def cG:aK->Nat
 |.mk _ _ _ l=>1+bA l
def bA:bH->Nat
 |[]=>0
 |t::l=>cG t+bA l
end
theorem Je:∀{l:bH} {i:Nat} (h:i<l.length),cG l[i]<=bA l
 |[],i,h=>by simp at h
 |t::l,0,h=>by simp only[List.getElem_cons_zero,bA];omega
 |t::l,i+1,h=>by have:=Je (l:=l) (i:=i) (by simpa using h);simp only[List.getElem_cons_succ,bA];omega
theorem cX{x:Int}(h1: -9223372036854775808<=x)(h2:x<=9223372036854775807):wI x=x:=IntWalk.i64_in x (by omega)
end
end Go.Cl
namespace Go.Cl
open Go.Ev Go.Proofs
noncomputable section
def Z:Program:=Tryz.prog
theorem xW:Z.follows .mixedOrders=true:=by kernel_rfl
theorem eS0{P:Program}(dI:P.follows .mixedOrders=true){S:Ev.bz}(hS:bm P S)(n:Nat)(aU:Nat->LN)(nt:Nat){f:Nat}{args:LV}{H:AH}{v:AV}{H1:AH}(n8:(P.funcs[f]?).map (·.ntmps)=some nt)(h:b8 P S aU (bJ P f nt H.bL v H1) (iS v H1) n f args H):dT P f args H v H1:=aj3 dI hS n8 h
theorem eS{S:Ev.bz}(hS:bm Z S)(n:Nat)(aU:Nat->LN)(nt:Nat){f:Nat}{args:LV}{H:AH}{v:AV}{H1:AH}:((Z.funcs[f]?).map (·.ntmps)=some nt)->(b8 Z S aU (bJ Z f nt H.bL v H1) (iS v H1) n f args H)->dT Z f args H v H1:=eS0 xW hS n aU nt
theorem hD0{P:Program}(dI:P.follows .mixedOrders=true){S:Ev.bz}(hS:bm P S)(n:Nat)(aU:Nat->LN){f nt m0:Nat}{t:Tr AV}{todo:List b_}{H:AH}{v:AV}{H1:AH}(n8:(P.funcs[f]?).map (·.ntmps)=some nt)(h:cO P S aU (bJ P f nt m0 v H1) (iS v H1) n f m0 t todo H):bJ P f nt m0 v H1 t H todo:=alL dI hS n8 h
theorem hD{S:Ev.bz}(hS:bm Z S)(n:Nat)(aU:Nat->LN){f nt m0:Nat}{t:Tr AV}{todo:List b_}{H:AH}{v:AV}{H1:AH}:((Z.funcs[f]?).map (·.ntmps)=some nt)->(cO Z S aU (bJ Z f nt m0 v H1) (iS v H1) n f m0 t todo H)->bJ Z f nt m0 v H1 t H todo:=hD0 xW hS n aU
mutual
def qf:Int->aK->Int
 |left,.mk _ _ _ l=>tW (left-1) l
def tW:Int->bH->Int
 |left,[]=>left
 |left,t::l=>if 0<left then tW (qf left t) l else left
end
mutual
theorem ahj:∀(left:Int) (t:aK),1<=left->0<=qf left t∧qf left t<left
 |left,.mk _ _ _ l,h=>by have:=ahl (left-1) l (by omega);simp only[qf];omega
theorem ahl:∀(left:Int) (l:bH),0<=left->0<=tW left l∧tW left l<=left
 |left,[],h=>by simp only[tW];omega
 |left,t::l,h=>by
  simp only[tW];split
  ·rename_i h0;have h1:=ahj left t (by omega);have:=ahl (qf left t) l h1.1;omega
  ·omega
end
def wH(left:Int):AH:=an [(0,.aw [J left] 3),(1,.aw [.bR (.func 119) [] [.ab 0 0,.ab 1 0]] 160)] 2
def W7(N:Nat):LV->AH->Option (Prop×AV×AH)
 |[.au cells,.ab 0 0,.ab 1 0],H=>match H.bu 0 with
  |some (.aw [.ck .i64 left] _)=>some (H=wH left∧(1<=left∧left<=2001)∧∃t,cR t=cells∧eR t∧cG t<N,.aJ [],wH (gL (qf left) cells))
  |_=>none
 |_,_=>none
def Gl(N:Nat):Ev.bz:=eB 119 (W7 N) UE
abbrev N4 x0:=aQ [(1,.ab 0 0),(2,.ab 1 0),(3,.ab 2 0),(4,J x0)]
abbrev Ll x0 x1 x2 x3 x4 x5:=an [(0,.aw [J x0] 3),(1,.aw [.bR (.func 119) [] [.ab 0 0,.ab 1 0]] 160),(2,.aw [J x1,J x2,.aa x3,.ax x4 x5 4] 42)] 3
theorem awA(k n:Int)(s:LN)(cs:LV)(len:Nat)(left:Int)(N:Nat)(L:LT)(Q:QT):
 b8 Z (Gl N) (fun _=>[1,2,3,4]) L Q 1000 119 [.au [J k,J n,.aa s,.ax cs len 4],.ab 0 0,.ab 1 0] (wH left)=(
 L (N4 0) (Ll (wI (left-1)) k n s cs len) (ao Z 119 0)):=by kernel_rfl
abbrev R_ x0:=an [(0,.aw [J x0] 3),(1,.aw [.bR (.func 119) [] [.ab 0 0,.ab 1 0]] 160)] 2
theorem awB(k n i:Int)(s:LN)(cs:LV)(len:Nat)(left:Int)(N:Nat)(L:LT)(Q:QT):
 cO Z (Gl N) (fun _=>[1,2,3,4]) L Q 1000 119 2 (N4 i) (ao Z 119 0) (Ll left k n s cs len)=(
 ah (decide (i<Int.ofNat len))
  (ah (decide (left>0))
    (∃aD:Nat,(i=(aD:Int))∧
      (aD<len)∧
      ∃aL:Int,∃bD:Int,∃db:LN,∃cA:LV,∃cq:Nat,((cs.drop (aD*4)).take 4=[J aL,J bD,.aa db,.ax cA cq 4])∧
      ((R_ left=wH left)∧
      ((1<=left)∧
      left<=2001)∧
      ∃t:aK,(cR t=[J aL,J bD,.aa db,.ax cA cq 4])∧
      (eR t)∧
      cG t<N)∧
      L (N4 (wI (i+1))) (Ll (gL (qf left) [J aL,J bD,.aa db,.ax cA cq 4]) k n s cs len) (ao Z 119 0))
    (Q (.aJ []) (R_ left)))
  (Q (.aJ []) (R_ left))):=by kernel_rfl
theorem awz{k n:Int}{s:LN}{l:bH}{N:Nat}{az:Int}(hS:bm Z (Gl N))(hl:eF l.length)(ho:gU l)(hN:bA l<N):
 ∀p:Nat×Int,(p.1<=l.length∧0<=p.2∧p.2<=2001∧tW p.2 (l.drop p.1)=az)->
 bJ Z 119 25 2 (.aJ []) (wH az) (N4 (p.1:Int))
  (Ll p.2 k n s (aP l) l.length) (ao Z 119 0):=by
 refine cV (fun p=>l.length-p.1) _ _ _ _ ?_;rintro⟨i,left⟩ ⟨hi,h0,h1,hf⟩ ih;simp only at hi h0 h1 hf ih⊢;refine hD hS 1000 (fun _=>[1,2,3,4]) (by kernel_rfl) ?_;rw[awB];refine aI.2 ⟨fun aj=>?_,fun aS=>?_⟩
 ·have aj:i<l.length:=by simpa using aj
  have Hy:l.drop i=l[i]::l.drop (i+1):=List.drop_eq_getElem_cons aj;rw[Hy,tW]at hf;refine aI.2 ⟨fun mT=>?_,fun Ta=>?_⟩
  ·have mT:0<left:=by simpa using mT
   rw[aY mT]at hf;have bX:=GS aj;have bn:=M5 aj ho;have cJ:=Je aj;have hw:=ahj left l[i] (by omega);generalize l[i]=u at bX bn cJ hw hf;obtain⟨k',n',s',l'⟩:=u;refine⟨i,rfl,aj,k',n',s',aP l',l'.length,bX,⟨rfl,⟨by omega,h1⟩,_,rfl,bn,by omega⟩,?_⟩;have e1:wI ((i:Int)+1)=((i+1:Nat):Int):=by unfold eF at hl;rw[cX (by omega) (by omega)];simp
   have e2:gL (qf left) [J k',J n',.aa s',.ax (aP l') l'.length 4]=qf left (.mk k' n' s' l'):=yU (qf left) (.mk k' n' s' l');rw[e1,e2];exact ih (i+1,qf left (.mk k' n' s' l')) ⟨by simp;omega,hw.1,by simp;omega,hf⟩ (by simp;omega)
  ·have Ta:¬0<left:=by simpa using Ta
   rw[aB Ta]at hf;subst hf;exact⟨rfl,rfl⟩
 ·have aS:l.length<=i:=by simpa using aS
  have:l.drop i=[]:=eT aS;rw[this,tW]at hf;subst hf;exact⟨rfl,rfl⟩
theorem awy{k n:Int}{s:LN}{l:bH}{N:Nat}{left:Int}(hS:bm Z (Gl N))(h1:1<=left)(h2:left<=2001)(bn:eR (.mk k n s l))(hN:bA l<N):
 dT Z 119 [.au (cR (.mk k n s l)),.ab 0 0,.ab 1 0] (wH left) (.aJ []) (wH (qf left (.mk k n s l))):=by
 refine eS hS 1000 (fun _=>[1,2,3,4]) 25 (by kernel_rfl) ?_;rw[cR,awA,cX (by omega) (by omega)];exact awz hS bn.2.1 bn.2.2 hN (0,left-1) ⟨by simp,by simp;omega,by simp;omega,rfl⟩
theorem ahQ:∀N,bm Z (Gl N):=by
 refine Vv adE ?_ ?_
 ·intro args H p v H' h;unfold W7 at h;split at h
  ·split at h
   ·cases h;rintro⟨_,_,t,_,_,h⟩;omega
   ·cases h
  ·cases h
 ·intro N hS args H p v H' h hp;unfold W7 at h;split at h
  ·split at h
   ·rename_i left _;cases h;obtain⟨rfl,⟨h1,h2⟩,⟨k,n,s,l⟩,rfl,bn,cJ⟩:=hp;rw[yU];simp only[cG]at cJ;exact awy hS h1 h2 bn (by omega)
   ·cases h
  ·cases h
end
end Go.Cl
namespace Go.Cl
open Go.Ev
noncomputable def aq:AH:=an [] 0
noncomputable def eG(s:LV->Option (Prop×AV)):LV->AH->Option (Prop×AV×AH):=fun args H=>
 match s args with
 |some (p,v)=>some (H=aq∧p,v,aq)
 |none=>none
theorem Vg{s:LV->Option (Prop×AV)}{args:LV}{H:AH}{p:Prop}{v:AV}{H':AH}(h:eG s args H=some (p,v,H')):∃q,s args=some (q,v)∧H'=aq∧(p->H=aq∧q):=by
 unfold eG at h;split at h
 ·rename_i q v' hs;cases h;exact⟨q,hs,rfl,id⟩
 ·cases h
theorem iE{P:Program}{S:Ev.bz}{f:FuncId}{s:LV->Option (Prop×AV)}(hS:bm P S)(h:∀args q v,s args=some (q,v)->q->dT P f args aq v aq)(di:f≠999999:=by first|assumption|decide):bm P (eB f (eG s) S):=by
 refine Az hS fun args H p v H' h1 hp=>?_
 obtain⟨q,h2,rfl,h3⟩:=Vg h1;obtain⟨rfl,hq⟩:=h3 hp;exact h _ _ _ h2 hq
theorem Nk{P:Program}{S:Ev.bz}{f:FuncId}{sN:Nat->LV->Option (Prop×AV)}(hS:bm P S)(h0:∀args q v,sN 0 args=some (q,v)->¬q)
 (kI:∀N,bm P (eB f (eG (sN N)) S)->∀args q v,sN (N+1) args=some (q,v)->q->dT P f args aq v aq) (di:f≠999999:=by first|assumption|decide):∀N,bm P (eB f (eG (sN N)) S):=by
 refine Vv (sN:=fun N=>eG (sN N)) hS ?_ ?_
 ·intro args H p v H' h hp;obtain⟨q,h2,_,h3⟩:=Vg h;exact h0 _ _ _ h2 (h3 hp).2
 ·intro N hN args H p v H' h hp;obtain⟨q,h2,rfl,h3⟩:=Vg h;obtain⟨rfl,hq⟩:=h3 hp;exact kI N hN _ _ _ h2 hq
theorem C_{S:Ev.bz}{f:FuncId}{s:LV->AH->Option (Prop×AV×AH)}{args:LV}{H:AH}{x:Prop×AV×AH}(h:s args H=some x):qm (eB f s S) f args H=some x:=by simp only[qm,eB,cz,Nat.beq_refl,cond_true,Q9,h,ux]
theorem ank{P:Program}{S:Ev.bz}{f:FuncId}{sN:Nat->LV->AH->Option (Prop×AV×AH)}{s:LV->AH->Option (Prop×AV×AH)}(hS:bm P S)(h:∀N,bm P (eB f (sN N) S))
 (hs:∀args H p v H',s args H=some (p,v,H')->p->∃N q,sN N args H=some (q,v,H')∧q) (di:f≠999999:=by first|assumption|decide):bm P (eB f s S):=by
 refine Az hS fun args H p v H' h1 hp=>?_
 obtain⟨N,q,h2,hq⟩:=hs _ _ _ _ _ h1 hp;exact(h N).1 f args H q v H' di (C_ h2) hq
theorem Nj{P:Program}{S:Ev.bz}{f:FuncId}{sN:Nat->LV->Option (Prop×AV)}{s:LV->Option (Prop×AV)}(hS:bm P S)(h:∀N,bm P (eB f (eG (sN N)) S))
 (hs:∀args q v,s args=some (q,v)->q->∃N q',sN N args=some (q',v)∧q') (di:f≠999999:=by first|assumption|decide):bm P (eB f (eG s) S):=by
 refine iE hS fun args q v h1 hq=>?_
 obtain⟨N,q',h2,HS⟩:=hs _ _ _ h1 hq;refine(h N).1 f args aq (aq=aq∧q') v aq di (C_ ?_) ⟨rfl,HS⟩;simp only[eG,h2]
theorem oS:∀t:aK,1<=cG t
 |.mk _ _ _ l=>by simp only[cG];omega
mutual
theorem ahi:∀(left:Int) (t:aK),1<=left->qf left t=max 0 (left-cG t)
 |left,.mk _ _ _ l,h=>by simp only[qf,cG];rw[ahk _ l (by omega)];omega
theorem ahk:∀(left:Int) (l:bH),0<=left->tW left l=max 0 (left-bA l)
 |left,[],h=>by simp only[tW,bA];omega
 |left,t::l,h=>by
  simp only[tW,bA];have:=oS t;split
  ·rw[ahi left t (by omega),ahk _ l (by omega)];omega
  ·omega
end
def dw(t:aK):Int:=min (cG t) 2001
def pY(k n:Int)(s:LN)(len:Nat):Bool:=
 if k=0 then decide (0<=n∧n<=1099511627776∧s.length=0∧len=0)
 else if k=1 then decide (s.length=0∧len=0)
 else if k=2 then decide (n=0∧s.length<=100∧len=0)
 else if k=3 then decide (n=0∧s.length<=100∧0<len∧len<=8)
 else false
mutual
def gT:aK->Bool
 |.mk k n s l=>pY k n s l.length&&g_ l
def g_:bH->Bool
 |[]=>true
 |t::l=>gT t&&g_ l
end
def jd(t:aK):Bool:=decide (cG t<=2000)&&gT t
end Go.Cl
namespace Go.Cl
open Go.Ev
def EK(N:Nat)(cells:LV):Prop:=∃t,cR t=cells∧eR t∧cG t<N
def k9(cells:LV):Prop:=∃t,cR t=cells∧eR t
theorem j_{α:Type}[Inhabited α](f:aK->α)(k n:Int)(s:LN)(l:bH):gL f [J k,J n,.aa s,.ax (aP l) l.length 4]=f (.mk k n s l):=yU f (.mk k n s l)
theorem TY{N:Nat}{k n:Int}{s:LN}{l:bH}(h:eR (.mk k n s l))(h2:cG (.mk k n s l)<N):EK N [J k,J n,.aa s,.ax (aP l) l.length 4]:=⟨_,rfl,h,h2⟩
theorem qD{k n:Int}{s:LN}{l:bH}(h:eR (.mk k n s l)):k9 [J k,J n,.aa s,.ax (aP l) l.length 4]:=⟨_,rfl,h⟩
theorem je{i n:Nat}(h:eF n)(hi:i<n):wI ((i:Int)+1)=((i+1:Nat):Int):=by unfold eF at h;rw[cX (by omega) (by omega)];simp
theorem Cd{l:bH}{i:Nat}(h:i<l.length){N:Nat}(ho:gU l)(hN:bA l<N){P:aK->Prop}(hp:P l[i]):
 ∃k n s m,P (.mk k n s m)∧l[i]=.mk k n s m∧((aP l).drop (i*4)).take 4=[J k,J n,.aa s,.ax (aP m) m.length 4]∧eR (.mk k n s m)∧cG (.mk k n s m)<N:=by
 have bX:=GS h;have bn:=M5 h ho;have cJ:=Je h;generalize l[i]=u at*;obtain⟨k,n,s,m⟩:=u;exact⟨k,n,s,m,hp,rfl,bX,bn,by omega⟩
theorem dN{α:Type}{l:List α}{i:Nat}(h:i<l.length):l.drop i=l[i]::l.drop (i+1):=List.drop_eq_getElem_cons h
end Go.Cl
namespace Go.Cl
open Go.Ev Go.Proofs
noncomputable section
def ahh:LV->AH->Option (Prop×AV×AH)
 |[.au cells,.ab 0 0,.ab 1 0],H=>match H.bu 0 with
  |some (.aw [.ck .i64 left] _)=>some (H=wH left∧(1<=left∧left<=2001)∧k9 cells,.aJ [],wH (gL (qf left) cells))
  |_=>none
 |_,_=>none
def B1:Ev.bz:=eB 119 ahh UE
def NN:LV->Option (Prop×AV)
 |[.au cells]=>some (k9 cells,J (gL dw cells))
 |_=>none
def B2:Ev.bz:=eB 90 (eG NN) B1
def adG:LV->Option (Prop×AV)
 |[.au [.ck .i64 k,.ck .i64 n,.aa s,.ax cs len 4]]=>some (True,.ai (pY k n s len))
 |_=>none
def B3:Ev.bz:=eB 117 (eG adG) B2
def zF(N:Nat):LV->Option (Prop×AV)
 |[.au cells]=>some (EK N cells,.ai (gL gT cells))
 |_=>none
def MT:LV->Option (Prop×AV)
 |[.au cells]=>some (k9 cells,.ai (gL gT cells))
 |_=>none
def JB(N:Nat):Ev.bz:=eB 87 (eG (zF N)) B3
def B4:Ev.bz:=eB 87 (eG MT) B3
def JC(N:Nat):Ev.bz:=eB 118 (eG (zF N)) B4
def B5:Ev.bz:=eB 118 (eG MT) B4
def Kq(N:Nat):LV->Option (Prop×AV)
 |[.au cells,.ck .i64 dS]=>some (EK N cells∧1<=dS∧dS<=2001,J (gL (fun t=>min (cG t) dS) cells))
 |_=>none
def ZX:LV->Option (Prop×AV)
 |[.au cells,.ck .i64 dS]=>some (k9 cells∧1<=dS∧dS<=2001,J (gL (fun t=>min (cG t) dS) cells))
 |_=>none
def JD(N:Nat):Ev.bz:=eB 51 (eG (Kq N)) B5
def B6:Ev.bz:=eB 51 (eG ZX) B5
def B7:Ev.bz:=eB 13 (eG NN) B6
def Oo:LV->Option (Prop×AV)
 |[.au cells]=>some (k9 cells,.ai (gL jd cells))
 |_=>none
def B8:Ev.bz:=eB 46 (eG Oo) B7
def B9:Ev.bz:=eB 89 (eG Oo) B8
theorem auu(k n:Int)(s:LN)(cs:LV)(len:Nat)(L:LT)(Q:QT):
 b8 Z B1 (fun _=>[]) L Q 1000 90 [.au [J k,J n,.aa s,.ax cs len 4]] aq=(
 (an [(0,.aw [J 2001] 3),(1,.aw [.bR (.func 119) [] [.ab 0 0,.ab 1 0]] 160)] 2=wH 2001∧((1:Int)<=2001∧(2001:Int)<=2001)∧k9 [J k,J n,.aa s,.ax cs len 4])∧Q (J (wI (2001-gL (qf 2001) [J k,J n,.aa s,.ax cs len 4]))) aq):=by kernel_rfl
theorem aqY(k n:Int)(s:LN)(cs:LV)(len:Nat)(L:LT)(Q:QT):
 b8 Z B2 (fun _=>[]) L Q 1000 117 [.au [J k,J n,.aa s,.ax cs len 4]] aq=(
 ah (k==0) (ah (decide (n>=0)) (ah (decide (n<=1099511627776)) (ah (dh s []) (Q (.ai (Int.ofNat len==0)) aq) (Q (.ai false) aq)) (Q (.ai false) aq)) (Q (.ai false) aq)) (ah (k==1) (ah (dh s []) (Q (.ai (Int.ofNat len==0)) aq) (Q (.ai false) aq)) (ah (k==2) (ah (n==0) (ah (decide (Int.ofNat s.length<=100)) (Q (.ai (Int.ofNat len==0)) aq) (Q (.ai false) aq)) (Q (.ai false) aq)) (ah (k==3) (ah (n==0) (ah (decide (Int.ofNat s.length<=100)) (ah (decide (Int.ofNat len>=1)) (Q (.ai (decide (Int.ofNat len<=8))) aq) (Q (.ai false) aq)) (Q (.ai false) aq)) (Q (.ai false) aq)) (Q (.ai false) aq))))):=by kernel_rfl
abbrev kE x0 x1 x2 x3 x4:=an [(0,.aw [J x0,J x1,.aa x2,.ax x3 x4 4] 42)] 1
theorem auo(k n:Int)(s:LN)(cs:LV)(len:Nat)(N:Nat)(L:LT)(Q:QT):
 b8 Z (JB N) (fun _=>[1,3]) L Q 1000 87 [.au [J k,J n,.aa s,.ax cs len 4]] aq=(
 (an [] 0=aq∧True)∧ah (!pY k n s len) (Q (.ai false) aq) (L (aQ [(1,.ab 0 0),(3,J 0)]) (kE k n s cs len) (ao Z 87 0))):=by kernel_rfl
theorem aup(k n i:Int)(s:LN)(cs:LV)(len:Nat)(N:Nat)(L:LT)(Q:QT):
 cO Z (JB N) (fun _=>[1,3]) L Q 1000 87 0 (aQ [(1,.ab 0 0),(3,J i)]) (ao Z 87 0) (kE k n s cs len)=(
 ah (decide (i<Int.ofNat len)) (∃aD:Nat,i=(aD:Int)∧aD<len∧(∃aL:Int,∃bD:Int,∃db:LN,∃cA:LV,∃cq:Nat,(cs.drop (aD*4)).take 4=[J aL,J bD,.aa db,.ax cA cq 4]∧(an [] 0=aq∧EK N [J aL,J bD,.aa db,.ax cA cq 4])∧ah (!gL gT [J aL,J bD,.aa db,.ax cA cq 4]) (Q (.ai false) aq) (L (aQ [(1,.ab 0 0),(3,J (wI (i+1)))]) (kE k n s cs len) (ao Z 87 0)))) (Q (.ai true) aq)):=by kernel_rfl
abbrev oP x0 x1:=aQ [(1,.ab 0 0),(3,.ai x0),(4,J x1)]
theorem aq0(k n:Int)(s:LN)(cs:LV)(len:Nat)(N:Nat)(L:LT)(Q:QT):
 b8 Z (JC N) (fun _=>[1,3,4]) L Q 1000 118 [.au [J k,J n,.aa s,.ax cs len 4]] aq=(
 ah (k==0) (ah (decide (n>=0)) (ah (decide (n<=1099511627776)) (ah (dh s []) (L (oP (Int.ofNat len==0) 0) (kE k n s cs len) (ao Z 118 0)) (L (oP false 0) (kE k n s cs len) (ao Z 118 0))) (L (oP false 0) (kE k n s cs len) (ao Z 118 0))) (L (oP false 0) (kE k n s cs len) (ao Z 118 0))) (ah (k==1) (ah (dh s []) (L (oP (Int.ofNat len==0) 0) (kE k n s cs len) (ao Z 118 0)) (L (oP false 0) (kE k n s cs len) (ao Z 118 0))) (ah (k==2) (ah (n==0) (ah (decide (Int.ofNat s.length<=100)) (L (oP (Int.ofNat len==0) 0) (kE k n s cs len) (ao Z 118 0)) (L (oP false 0) (kE k n s cs len) (ao Z 118 0))) (L (oP false 0) (kE k n s cs len) (ao Z 118 0))) (ah (k==3) (ah (n==0) (ah (decide (Int.ofNat s.length<=100)) (ah (decide (Int.ofNat len>0)) (L (oP (decide (Int.ofNat len<=8)) 0) (kE k n s cs len) (ao Z 118 0)) (L (oP false 0) (kE k n s cs len) (ao Z 118 0))) (L (oP false 0) (kE k n s cs len) (ao Z 118 0))) (L (oP false 0) (kE k n s cs len) (ao Z 118 0))) (L (oP false 0) (kE k n s cs len) (ao Z 118 0)))))):=by kernel_rfl
theorem aq1(k n i:Int)(s:LN)(cs:LV)(len:Nat)(ok:Bool)(N:Nat)(L:LT)(Q:QT):
 cO Z (JC N) (fun _=>[1,3,4]) L Q 1000 118 0 (oP ok i) (ao Z 118 0) (kE k n s cs len)=(
 ah (decide (i<Int.ofNat len)) (ah ok (∃aD:Nat,i=(aD:Int)∧aD<len∧(∃aL:Int,∃bD:Int,∃db:LN,∃cA:LV,∃cq:Nat,(cs.drop (aD*4)).take 4=[J aL,J bD,.aa db,.ax cA cq 4]∧(an [] 0=aq∧EK N [J aL,J bD,.aa db,.ax cA cq 4])∧L (oP (gL gT [J aL,J bD,.aa db,.ax cA cq 4]) (wI (i+1))) (kE k n s cs len) (ao Z 118 0))) (Q (.ai ok) aq)) (Q (.ai ok) aq)):=by kernel_rfl
theorem ats(k n dS:Int)(s:LN)(cs:LV)(len:Nat)(N:Nat)(L:LT)(Q:QT):
 b8 Z (JD N) (fun _=>[1,2,5,6]) L Q 1000 51 [.au [J k,J n,.aa s,.ax cs len 4],J dS] aq=(
 L (aQ [(1,J dS),(2,.ab 0 0),(5,J 1),(6,J 0)]) (kE k n s cs len) (ao Z 51 0)):=by kernel_rfl
theorem att(k n dS m i:Int)(s:LN)(cs:LV)(len:Nat)(N:Nat)(L:LT)(Q:QT):
 cO Z (JD N) (fun _=>[1,2,5,6]) L Q 1000 51 0 (aQ [(1,J dS),(2,.ab 0 0),(5,J m),(6,J i)]) (ao Z 51 0) (kE k n s cs len)=(
 ah (decide (i<Int.ofNat len)) (ah (decide (m<dS)) (∃aD:Nat,i=(aD:Int)∧aD<len∧(∃aL:Int,∃bD:Int,∃db:LN,∃cA:LV,∃cq:Nat,(cs.drop (aD*4)).take 4=[J aL,J bD,.aa db,.ax cA cq 4]∧(an [] 0=aq∧EK N [J aL,J bD,.aa db,.ax cA cq 4]∧(1:Int)<=wI (dS-m)∧wI (dS-m)<=2001)∧L (aQ [(1,J dS),(2,.ab 0 0),(5,J (wI (m+gL (fun t=>min ↑(cG t) (wI (dS-m))) [J aL,J bD,.aa db,.ax cA cq 4]))),(6,J (wI (i+1)))]) (kE k n s cs len) (ao Z 51 0))) (Q (J m) aq)) (Q (J m) aq)):=by kernel_rfl
theorem arS(k n:Int)(s:LN)(cs:LV)(len:Nat)(L:LT)(Q:QT):
 b8 Z B6 (fun _=>[]) L Q 1000 13 [.au [J k,J n,.aa s,.ax cs len 4]] aq=(
 (an [] 0=aq∧k9 [J k,J n,.aa s,.ax cs len 4]∧(1:Int)<=2001∧(2001:Int)<=2001)∧Q (J (gL (fun t=>min ↑(cG t) 2001) [J k,J n,.aa s,.ax cs len 4])) aq):=by kernel_rfl
theorem as6(k n:Int)(s:LN)(cs:LV)(len:Nat)(L:LT)(Q:QT):
 b8 Z B7 (fun _=>[]) L Q 1000 46 [.au [J k,J n,.aa s,.ax cs len 4]] aq=(
 (an [] 0=aq∧k9 [J k,J n,.aa s,.ax cs len 4])∧ah (decide (gL dw [J k,J n,.aa s,.ax cs len 4]<=2000)) ((an [] 0=aq∧k9 [J k,J n,.aa s,.ax cs len 4])∧Q (.ai (gL gT [J k,J n,.aa s,.ax cs len 4])) aq) (Q (.ai false) aq)):=by kernel_rfl
theorem aut(k n:Int)(s:LN)(cs:LV)(len:Nat)(L:LT)(Q:QT):
 b8 Z B8 (fun _=>[]) L Q 1000 89 [.au [J k,J n,.aa s,.ax cs len 4]] aq=(
 (an [] 0=aq∧k9 [J k,J n,.aa s,.ax cs len 4])∧ah (decide (gL dw [J k,J n,.aa s,.ax cs len 4]<=2000)) ((an [] 0=aq∧k9 [J k,J n,.aa s,.ax cs len 4])∧Q (.ai (gL gT [J k,J n,.aa s,.ax cs len 4])) aq) (Q (.ai false) aq)):=by kernel_rfl
theorem Xw:bm Z B1:=by
 refine ank adE ahQ ?_;intro args H p v H' h hp;unfold ahh at h;split at h
 ·split at h
  ·rename_i cells H left _ h0;cases h;obtain⟨rfl,hl,t,rfl,ho⟩:=hp;exact⟨cG t+1,_,rfl,rfl,hl,t,rfl,ho,by omega⟩
  ·cases h
 ·cases h
theorem XE:bm Z B2:=by
 refine iE Xw fun args q v h hq=>?_
 unfold NN at h;split at h
 ·cases h;obtain⟨⟨k,n,s,l⟩,rfl,ho⟩:=hq;refine eS Xw 1000 (fun _=>[]) 11 (by kernel_rfl) ?_;rw[cR,auu];refine⟨⟨rfl,⟨by omega,by omega⟩,qD ho⟩,?_⟩;have h1:=ahi 2001 (.mk k n s l) (by omega);have h2:=oS (.mk k n s l);rw[j_,j_,h1,cX (by omega) (by omega)];refine⟨?_,rfl⟩;simp only[dw];congr 1;omega
 ·cases h
theorem XJ:bm Z B3:=by
 refine iE XE fun args q v h hq=>?_
 unfold adG at h;split at h
 ·cases h;refine eS XE 1000 (fun _=>[]) 77 (by kernel_rfl) ?_;rw[aqY]
  (repeat' (refine aI.2 ⟨fun _=>?_,fun _=>?_⟩))
  all_goals
   refine⟨?_,rfl⟩;congr 1
   (rw[Bool.eq_iff_iff];simp_all[pY,kD]<;>(try intros)<;>omega)
 ·cases h
theorem aun{k n:Int}{s:LN}{l:bH}{N:Nat}{az:Bool}(hS:bm Z (JB N))(hl:eF l.length)(ho:gU l)(hN:bA l<N):
 ∀i:Nat,(i<=l.length∧g_ (l.drop i)=az)->
 bJ Z 87 21 0 (.ai az) aq (aQ [(1,.ab 0 0),(3,J (i:Int))])
  (kE k n s (aP l) l.length) (ao Z 87 0):=by
 refine cV (fun i=>l.length-i) _ _ _ _ ?_;rintro i ⟨hi,hf⟩ ih;refine hD hS 1000 (fun _=>[1,3]) (by kernel_rfl) ?_;rw[aup];refine aI.2 ⟨fun aj=>?_,fun aS=>?_⟩
 ·have aj:i<l.length:=by simpa using aj
  rw[dN aj,g_]at hf;obtain⟨k',n',s',l',hf,-,bX,bn,cJ⟩:=Cd aj ho hN (P:=fun u=>(gT u&&g_ (l.drop (i+1)))=az) hf;refine⟨i,rfl,aj,k',n',s',_,_,bX,⟨rfl,TY bn cJ⟩,?_⟩;rw[j_,je hl aj];refine aI.2 ⟨fun h=>?_,fun h=>?_⟩
  ·simp only[Bool.not_eq_true']at h;rw[h]at hf;exact⟨by rw[←hf];rfl,rfl⟩
  ·simp only[Bool.not_eq_false']at h;rw[h,iG]at hf;exact ih (i+1) ⟨by omega,hf⟩ (by omega)
 ·have aS:l.length<=i:=by simpa using aS
  rw[eT aS,g_]at hf;subst hf;exact⟨rfl,rfl⟩
theorem XL:bm Z B4:=by
 refine Nj XJ (sN:=zF) (Nk XJ ?_ ?_) ?_
 ·intro args q v h;unfold zF at h;split at h<;>cases h;rintro⟨t,_,_,h⟩;omega
 ·intro N hS args q v h hq;unfold zF at h;split at h<;>cases h;obtain⟨⟨k,n,s,l⟩,rfl,bn,cJ⟩:=hq;refine eS hS 1000 (fun _=>[1,3]) 21 (by kernel_rfl) ?_;simp only[cG]at cJ;rw[yU,cR];have:=auo k n s (aP l) l.length N;rw[JB]at this;rw[this];refine⟨⟨rfl,trivial⟩,aI.2 ⟨fun h=>?_,fun h=>?_⟩⟩
  ·simp only[Bool.not_eq_true']at h;exact⟨by rw[gT,h];rfl,rfl⟩
  ·simp only[Bool.not_eq_false']at h;exact aun hS bn.2.1 bn.2.2 (by omega) 0 ⟨by omega,by rw[gT,h];rfl⟩
 ·intro args q v h hq;unfold MT at h;split at h<;>cases h;obtain⟨t,rfl,ho⟩:=hq;exact⟨cG t+1,_,rfl,t,rfl,ho,by omega⟩
theorem anW{k n:Int}{s:LN}{len:Nat}:pY k n s len=true->len<=8:=by
 unfold pY;split
 ·simp;omega
 ·split
  ·simp;omega
  ·split
   ·simp;omega
   ·split
    ·simp
    ·simp
theorem aqZ{k n:Int}{s:LN}{l:bH}{N:Nat}{az:Bool}(hS:bm Z (JC N))(hl:eF l.length)(ho:gU l)(hN:bA l<N):
 ∀p:Nat×Bool,(p.1<=l.length∧(p.2&&g_ (l.drop p.1))=az)->
 bJ Z 118 96 0 (.ai az) aq (oP p.2 (p.1:Int))
  (kE k n s (aP l) l.length) (ao Z 118 0):=by
 refine cV (fun p=>l.length-p.1) _ _ _ _ ?_;rintro⟨i,ok⟩ ⟨hi,hf⟩ ih;simp only at hi hf ih⊢;refine hD hS 1000 (fun _=>[1,3,4]) (by kernel_rfl) ?_;rw[aq1];refine aI.2 ⟨fun aj=>?_,fun aS=>?_⟩
 ·have aj:i<l.length:=by simpa using aj
  refine aI.2 ⟨fun h=>?_,fun h=>?_⟩
  ·subst h;rw[dN aj,g_,iG]at hf;obtain⟨k',n',s',l',hf,-,bX,bn,cJ⟩:=Cd aj ho hN (P:=fun u=>(gT u&&g_ (l.drop (i+1)))=az) hf;refine⟨i,rfl,aj,k',n',s',_,_,bX,⟨rfl,TY bn cJ⟩,?_⟩;rw[j_,je hl aj];exact ih (i+1,_) ⟨by simp;omega,hf⟩ (by simp;omega)
  ·subst h;rw[Bool.false_and]at hf;subst hf;exact⟨rfl,rfl⟩
 ·have aS:l.length<=i:=by simpa using aS
  rw[eT aS,g_,Bool.and_true]at hf;subst hf;exact⟨rfl,rfl⟩
theorem XM:bm Z B5:=by
 refine Nj XL (sN:=zF) (Nk XL ?_ ?_) ?_
 ·intro args q v h;unfold zF at h;split at h<;>cases h;rintro⟨t,_,_,h⟩;omega
 ·intro N hS args q v h hq;unfold zF at h;split at h<;>cases h;obtain⟨⟨k,n,s,l⟩,rfl,bn,cJ⟩:=hq;refine eS hS 1000 (fun _=>[1,3,4]) 96 (by kernel_rfl) ?_;simp only[cG]at cJ;rw[yU,cR];have:=aq0 k n s (aP l) l.length N;rw[JC]at this;rw[this];have key:∀b:Bool,b=pY k n s l.length->bJ Z 118 96 0 (.ai (gT (.mk k n s l))) aq (oP b 0)
   (kE k n s (aP l) l.length) (ao Z 118 0):=by
   rintro b rfl;exact aqZ hS bn.2.1 bn.2.2 (by omega) (0,_) ⟨by simp,by rw[gT];rfl⟩
  (repeat' (refine aI.2 ⟨fun _=>?_,fun _=>?_⟩))
  all_goals
   refine key _ ?_
   (rw[Bool.eq_iff_iff];simp_all[pY,kD]<;>(try intros)<;>omega)
 ·intro args q v h hq;unfold MT at h;split at h<;>cases h;obtain⟨t,rfl,ho⟩:=hq;exact⟨cG t+1,_,rfl,t,rfl,ho,by omega⟩
theorem atr{k n dS:Int}{s:LN}{l:bH}{N:Nat}{az:Int}(hS:bm Z (JD N))(S2:1<=dS)(hm2:dS<=2001)(hl:eF l.length)(ho:gU l)(hN:bA l<N):
 ∀p:Nat×Int,(p.1<=l.length∧1<=p.2∧p.2<=dS∧min (p.2+bA (l.drop p.1)) dS=az)->
 bJ Z 51 31 0 (J az) aq (aQ [(1,J dS),(2,.ab 0 0),(5,J p.2),(6,J (p.1:Int))])
  (kE k n s (aP l) l.length) (ao Z 51 0):=by
 refine cV (fun p=>l.length-p.1) _ _ _ _ ?_;rintro⟨i,m⟩ ⟨hi,h1,h2,hf⟩ ih;simp only at hi hf ih h1 h2⊢;refine hD hS 1000 (fun _=>[1,2,5,6]) (by kernel_rfl) ?_;rw[att];refine aI.2 ⟨fun aj=>?_,fun aS=>?_⟩
 ·have aj:i<l.length:=by simpa using aj
  refine aI.2 ⟨fun h=>?_,fun h=>?_⟩
  ·have h:m<dS:=by simpa using h
   rw[dN aj,bA]at hf;obtain⟨k',n',s',l',hf,-,bX,bn,cJ⟩:=Cd aj ho hN (P:=fun u=>min (m+((cG u+bA (l.drop (i+1)):Nat):Int)) dS=az) hf;have hp:=oS (.mk k' n' s' l');refine⟨i,rfl,aj,k',n',s',_,_,bX,⟨rfl,TY bn cJ,?_,?_⟩,?_⟩
   ·rw[cX (by omega) (by omega)];omega
   ·rw[cX (by omega) (by omega)];omega
   ·rw[j_,je hl aj,cX (x:=dS-m) (by omega) (by omega),cX (by omega) (by omega)];exact ih (i+1,_) ⟨by simp;omega,by simp only;omega,by simp only;omega,by simp only;omega⟩ (by simp;omega)
  ·have h:dS<=m:=by simpa using h
   have:az=m:=by omega
   subst this;exact⟨rfl,rfl⟩
 ·have aS:l.length<=i:=by simpa using aS
  rw[eT aS,bA]at hf;have:az=m:=by omega
  subst this;exact⟨rfl,rfl⟩
theorem XN:bm Z B6:=by
 refine Nj XM (sN:=Kq) (Nk XM ?_ ?_) ?_
 ·intro args q v h;unfold Kq at h;split at h<;>cases h;rintro⟨⟨t,_,_,h⟩,_⟩;omega
 ·intro N hS args q v h hq;unfold Kq at h;split at h<;>cases h;obtain⟨⟨⟨k,n,s,l⟩,rfl,bn,cJ⟩,h1,h2⟩:=hq;refine eS hS 1000 (fun _=>[1,2,5,6]) 31 (by kernel_rfl) ?_;simp only[cG]at cJ;rw[yU,cR];have:=fun dS=>ats k n dS s (aP l) l.length N
  rw[JD]at this;rw[this];exact atr hS h1 h2 bn.2.1 bn.2.2 (by omega) (0,1) ⟨by simp,by simp,by simpa using h1,by simp only[cG,jB];omega⟩
 ·intro args q v h hq;unfold ZX at h;split at h<;>cases h;obtain⟨⟨t,rfl,ho⟩,h1⟩:=hq;exact⟨cG t+1,_,rfl,⟨t,rfl,ho,by omega⟩,h1⟩
theorem XO:bm Z B7:=by
 refine iE XN fun args q v h hq=>?_
 unfold NN at h;split at h<;>cases h;obtain⟨⟨k,n,s,l⟩,rfl,ho⟩:=hq;refine eS XN 1000 (fun _=>[]) 5 (by kernel_rfl) ?_;rw[cR,arS];refine⟨⟨rfl,qD ho,by omega,by omega⟩,?_⟩;rw[j_,j_];exact⟨rfl,rfl⟩
theorem ahd(t:aK):jd t=(decide (dw t<=2000)&&gT t):=by
 have:decide (dw t<=2000)=decide (cG t<=2000):=by
  have:dw t<=2000↔cG t<=2000:=by unfold dw;omega
  simp only[this]
 rw[this];rfl
theorem XP:bm Z B8:=by
 refine iE XO fun args q v h hq=>?_
 unfold Oo at h;split at h<;>cases h;obtain⟨⟨k,n,s,l⟩,rfl,ho⟩:=hq;refine eS XO 1000 (fun _=>[]) 10 (by kernel_rfl) ?_;rw[cR,as6,j_,j_,j_,ahd];refine⟨⟨rfl,qD ho⟩,aI.2 ⟨fun h=>?_,fun h=>?_⟩⟩
 ·rw[h];exact⟨⟨rfl,qD ho⟩,rfl,rfl⟩
 ·rw[h];exact⟨rfl,rfl⟩
theorem XQ:bm Z B9:=by
 refine iE XP fun args q v h hq=>?_
 unfold Oo at h;split at h<;>cases h;obtain⟨⟨k,n,s,l⟩,rfl,ho⟩:=hq;refine eS XP 1000 (fun _=>[]) 10 (by kernel_rfl) ?_;rw[cR,aut,j_,j_,j_,ahd];refine⟨⟨rfl,qD ho⟩,aI.2 ⟨fun h=>?_,fun h=>?_⟩⟩
 ·rw[h];exact⟨⟨rfl,qD ho⟩,rfl,rfl⟩
 ·rw[h];exact⟨rfl,rfl⟩
end
end Go.Cl
namespace Go.Cl
open Go.Ev
noncomputable section
structure dG where
 ca:LN
 ar:Int
 aC:Int
 deriving DecidableEq,Inhabited
structure gH where
 cS:Int
 ay:dG
 cx:bH
 gE:Int
 deriving Inhabited
abbrev cY:=List gH
structure bg where
 ay:dG
 aO:bH
 aA:cY
 deriving Inhabited
def GI{α β γ:Type}[Inhabited α](enc:β->γ)(f:β->α)(c:γ):α:=
 @dite _ (∃t,enc t=c) (Classical.propDecidable _) (fun h=>f h.choose) (fun _=>default)
theorem Q6{α β γ:Type}[Inhabited α]{enc:β->γ}(hi:∀a b,enc a=enc b->a=b)(f:β->α)(t:β):GI enc f (enc t)=f t:=by unfold GI;rw[dif_pos ⟨t,rfl⟩];congr 1;exact hi _ _ (Exists.choose_spec (⟨t,rfl⟩:∃u,enc u=enc t))
def KF(l:bH):LV×Nat:=(aP l,l.length)
theorem ajQ(l m:bH)(h:KF l=KF m):l=m:=by simp only[KF,Prod.mk.injEq]at h;exact vJ h.2 h.1
def nr{α:Type}[Inhabited α](f:bH->α)(cs:LV)(len:Nat):α:=GI KF f (cs,len)
theorem xc{α:Type}[Inhabited α](f:bH->α)(l:bH):nr f (aP l) l.length=f l:=Q6 ajQ f l
def zt(cs:LV)(len:Nat):Prop:=∃l,aP l=cs∧l.length=len∧eF l.length∧gU l
theorem Md{l:bH}(h:eF l.length)(ho:gU l):zt (aP l) l.length:=⟨l,rfl,rfl,h,ho⟩
def GR(p:dG):LV:=[.aa p.ca,J p.ar,J p.aC]
def qn(g:gH):LV:=[J g.cS,.aa g.ay.ca,J g.ay.ar,J g.ay.aC,.ax (aP g.cx) g.cx.length 4,J g.gE]
def bN:cY->LV
 |[]=>[]
 |g::l=>qn g++bN l
def ft(f:bg):LV:=[.aa f.ay.ca,J f.ay.ar,J f.ay.aC,.ax (aP f.aO) f.aO.length 4,.ax (bN f.aA) f.aA.length 6]
theorem Dx(g:gH):(qn g).length=6:=rfl
theorem Rg{g h:gH}(e:qn g=qn h):g=h:=by obtain⟨k,⟨a,b,c⟩,l,v⟩:=g;obtain⟨k',⟨a',b',c'⟩,l',v'⟩:=h;simp only[qn,List.cons.injEq,AV.ck.injEq,AV.aa.injEq,AV.ax.injEq,true_and,and_true]at e;obtain⟨rfl,rfl,rfl,rfl,⟨h1,h2⟩,rfl⟩:=e;rw[vJ h2 h1]
theorem KC:∀{l m:cY},l.length=m.length->bN l=bN m->l=m
 |[],[],_,_=>rfl
 |[],_::_,h,_=>by simp at h
 |_::_,[],h,_=>by simp at h
 |t::l,u::m,hl,h=>by simp only[bN]at h;have h2:=List.append_inj h (by rw[Dx,Dx]);rw[Rg h2.1,KC (by simpa using hl) h2.2]
theorem vG(f g:bg)(e:ft f=ft g):f=g:=by obtain⟨⟨a,b,c⟩,l,v⟩:=f;obtain⟨⟨a',b',c'⟩,l',v'⟩:=g;simp only[ft,List.cons.injEq,AV.ck.injEq,AV.aa.injEq,AV.ax.injEq,true_and,and_true]at e;obtain⟨rfl,rfl,rfl,⟨h1,h2⟩,h3,h4⟩:=e;rw[vJ h2 h1,KC h4 h3]
def pJ{α:Type}[Inhabited α](f:bg->α)(cells:LV):α:=GI ft f cells
theorem yT{α:Type}[Inhabited α](f:bg->α)(c:bg):pJ f (ft c)=f c:=Q6 vG f c
def ajv{α:Type}[Inhabited α](f:gH->α)(cells:LV):α:=GI qn f cells
theorem axK{α:Type}[Inhabited α](f:gH->α)(c:gH):ajv f (qn c)=f c:=Q6 (fun _ _ h=>Rg h) f c
def nF(g:gH):Prop:=eF g.ay.ca.length∧eF g.cx.length∧gU g.cx
def hJ(f:bg):Prop:=eF f.ay.ca.length∧eF f.aO.length∧gU f.aO∧eF f.aA.length∧∀g∈f.aA,nF g
def ax2(cells:LV):Prop:=∃g,qn g=cells∧nF g
def By(cells:LV):Prop:=∃f,ft f=cells∧hJ f
theorem aal:∀{l:cY} {i:Nat} (h:i<l.length),((bN l).drop (i*6)).take 6=qn l[i]
 |[],i,h=>by simp at h
 |t0::l,0,h=>by simp only[bN,Nat.zero_mul,jB,List.getElem_cons_zero];exact List.take_left' (l₂:=bN l) (Dx t0)
 |t0::l,i+1,h=>by
  have hl:i<l.length:=by simpa using h
  have:=aal hl;simp only[bN,List.getElem_cons_succ];rw[←this];congr 1;have e:(i+1)*6=(qn t0).length+i*6:=by rw[Dx];omega
  rw[e,List.drop_length_add_append]
def hU(p:dG):Bool:=
 if p.aC=0 then decide (p.ca.length<=100∧0<=p.ar∧p.ar<=8)
 else decide (p.ca.length=0∧1<=p.aC∧p.aC<=1099511627776∧0<=p.ar∧p.ar<=4096)
def tU(v:Int):Bool:=decide (0<=v∧v<=1099511627776)
def ur(g:gH):Bool:=decide (g.ay.ca.length=0∧g.ay.ar=0∧g.ay.aC=0∧g.cx.length=0)
def nT(bP:Bool)(g:gH):Bool:=
 if g.cS=1 then hU g.ay&&decide ((g.cx.length:Int)=g.ay.ar∧g.gE=0)
 else if g.cS=2 then ur g&&tU g.gE&& !bP
 else if g.cS=3∨g.cS=4 then ur g&&tU g.gE
 else if g.cS=5 then ur g&&decide (g.gE=0)
 else false
def jU(left:Int)(l:bH):Bool:=l.all jd&&decide ((bA l:Int)<=left)
theorem qo{left:Int}{l:bH}:jU left l=true↔(∀t∈l,jd t=true)∧(bA l:Int)<=left:=by simp only[jU,cW,List.all_eq_true,mf]
theorem Oi(t:aK)(l:bH):bA (t::l)=cG t+bA l:=rfl
def k6:Bool->Int->cY->Bool
 |_,_,[]=>true
 |bP,left,g::l=>nT bP g&&jU left g.cx&&k6 (bP||g.cS==1) (left-bA g.cx) l
def ez(f:bg):Bool:=hU f.ay&&decide ((f.aO.length:Int)=f.ay.ar)&&jU 131072 f.aO&&k6 false (131072-bA f.aO) f.aA
def p_:Int->bH->Bool×Int
 |left,[]=>(true,left)
 |left,t::l=>if jd t then(if left-dw t<0 then(false,left-dw t)else p_ (left-dw t) l)else(false,left)
theorem Wj{t:aK}(h:jd t=true):dw t=cG t:=by simp only[jd,cW,mf]at h;unfold dw;omega
theorem VN:∀(left:Int) (l:bH),0<=left->(p_ left l).1=jU left l∧(jU left l=true->(p_ left l).2=left-bA l)
 |left,[],h=>by simp[p_,jU,bA,h]
 |left,t::l,h=>by
  simp only[p_];by_cases hv:jd t=true
  ·have hs:=Wj hv;rw[aY hv,hs];split
   ·rename_i aj;have:jU left (t::l)=false:=by rw[Bool.eq_false_iff,Ne,qo,Oi];omega
    rw[this];simp
   ·rename_i aj;have ih:=VN (left-cG t) l (by omega);have e:jU left (t::l)=jU (left-cG t) l:=by rw[Bool.eq_iff_iff,qo,qo,Oi];simp only[sy,forall_eq_or_imp,hv,true_and];constructor<;>(rintro⟨h1,h2⟩;exact⟨h1,by omega⟩)
    rw[e];refine⟨ih.1,fun h=>?_⟩;rw[ih.2 h,bA];omega
  ·rw[aB hv];have hv:jd t=false:=by simpa using hv
   simp[jU,hv]
def rS:Int->bH->Int×Bool
 |n,[]=>(n,true)
 |n,t::l=>if jd t then(if n+dw t>131072 then(n+dw t,false)else rS (n+dw t) l)else(n,false)
theorem WJ:∀(n:Int) (l:bH),n<=131072->(rS n l).2=jU (131072-n) l∧(jU (131072-n) l=true->(rS n l).1=n+bA l)
 |left,[],h=>by simp[rS,jU,bA];omega
 |n,t::l,h=>by
  simp only[rS];by_cases hv:jd t=true
  ·have hs:=Wj hv;rw[aY hv,hs];split
   ·rename_i aj;have:jU (131072-n) (t::l)=false:=by rw[Bool.eq_false_iff,Ne,qo,Oi];omega
    rw[this];simp
   ·rename_i aj;have ih:=WJ (n+cG t) l (by omega);have e:jU (131072-n) (t::l)=jU (131072-(n+cG t)) l:=by rw[Bool.eq_iff_iff,qo,qo,Oi];simp only[sy,forall_eq_or_imp,hv,true_and];constructor<;>(rintro⟨h1,h2⟩;exact⟨h1,by omega⟩)
    rw[e];refine⟨ih.1,fun h=>?_⟩;rw[ih.2 h,bA];omega
  ·rw[aB hv];have hv:jd t=false:=by simpa using hv
   simp[jU,hv]
theorem ra{l:cY}{i:Nat}(h:i<l.length)(ho:∀g∈l,nF g):
 ∃k nm ar aC ls v,l[i]=⟨k,⟨nm,ar,aC⟩,ls,v⟩∧((bN l).drop (i*6)).take 6=[J k,.aa nm,J ar,J aC,.ax (aP ls) ls.length 4,J v]∧nF ⟨k,⟨nm,ar,aC⟩,ls,v⟩:=by
 have bX:=aal h;have bn:=ho l[i] (Fs h);generalize l[i]=u at*;obtain⟨k,⟨nm,ar,aC⟩,ls,v⟩:=u;exact⟨k,nm,ar,aC,ls,v,rfl,bX,bn⟩
theorem pz{l:bH}{i:Nat}(h:i<l.length)(ho:gU l):
 ∃k n s m,l[i]=.mk k n s m∧((aP l).drop (i*4)).take 4=[J k,J n,.aa s,.ax (aP m) m.length 4]∧eR (.mk k n s m):=by
 have bX:=GS h;have bn:=M5 h ho;generalize l[i]=u at*;obtain⟨k,n,s,m⟩:=u;exact⟨k,n,s,m,rfl,bX,bn⟩
theorem IL(t:aK):1<=dw t∧dw t<=2001:=by have:=oS t;unfold dw;omega
end
end Go.Cl
namespace Go.Cl
open Go.Ev Go.Proofs
noncomputable section
def zL:LV->Option (Prop×AV)
 |[.au [.aa nm,.ck .i64 ar,.ck .i64 aC]]=>some (True,.ai (hU ⟨nm,ar,aC⟩))
 |_=>none
def OD:Ev.bz:=eB 52 (eG zL) B9
def Jo:Ev.bz:=eB 50 (eG zL) OD
abbrev oE x0 x1:=an [(0,.aw x0 x1)] 1
def jk(left:Int):AH:=oE [J left] 3
def aff:LV->AH->Option (Prop×AV×AH)
 |[.ab 0 0,.ax cs len 4],H=>match H.bu 0 with
  |some (.aw [.ck .i64 left] _)=>some (H=jk left∧(0<=left∧left<=131072)∧zt cs len,.ai (nr (p_ left) cs len).1,jk (nr (p_ left) cs len).2)
  |_=>none
 |_,_=>none
def Jp:Ev.bz:=eB 53 aff Jo
def ag2:LV->Option (Prop×AV)
 |[.ax cs len 4,.ck .i64 n]=>some ((0<=n∧n<=131072)∧zt cs len,.aJ [J (nr (rS n) cs len).1,.ai (nr (rS n) cs len).2])
 |_=>none
def Jq:Ev.bz:=eB 49 (eG ag2) Jp
def Om:LV->Option (Prop×AV)
 |[.au cells]=>some (By cells,.ai (pJ ez cells))
 |_=>none
def Jr:Ev.bz:=eB 21 (eG Om) Jq
def CH:Ev.bz:=eB 12 (eG Om) Jr
theorem atu(nm:LN)(ar aC:Int)(L:LT)(Q:QT):
 b8 Z B9 (fun _=>[]) L Q 1000 52 [.au [.aa nm,J ar,J aC]] aq=(
 ah (aC==0) (ah (decide (Int.ofNat nm.length<=100)) (ah (decide (ar>=0)) (Q (.ai (decide (ar<=8))) aq) (Q (.ai false) aq)) (Q (.ai false) aq)) (ah (dh nm []) (ah (decide (aC>=1)) (ah (decide (aC<=1099511627776)) (ah (decide (ar>=0)) (Q (.ai (decide (ar<=4096))) aq) (Q (.ai false) aq)) (Q (.ai false) aq)) (Q (.ai false) aq)) (Q (.ai false) aq))):=by kernel_rfl
theorem atq(nm:LN)(ar aC:Int)(L:LT)(Q:QT):
 b8 Z OD (fun _=>[]) L Q 1000 50 [.au [.aa nm,J ar,J aC]] aq=(
 ah (aC==0) (ah (decide (Int.ofNat nm.length<=100)) (ah (decide (ar>=0)) (Q (.ai (decide (ar<=8))) aq) (Q (.ai false) aq)) (Q (.ai false) aq)) (ah (dh nm []) (ah (decide (aC>=1)) (ah (decide (aC<=1099511627776)) (ah (decide (ar>=0)) (Q (.ai (decide (ar<=4096))) aq) (Q (.ai false) aq)) (Q (.ai false) aq)) (Q (.ai false) aq)) (Q (.ai false) aq))):=by kernel_rfl
abbrev Ob x0 x1 x2:=aQ [(0,.ab 0 0),(7,.ax x0 x1 4),(8,J (Int.ofNat x1)),(9,J x2)]
theorem atw(cs:LV)(len:Nat)(left:Int)(L:LT)(Q:QT):
 b8 Z Jo (fun _=>[0,7,8,9]) L Q 1000 53 [.ab 0 0,.ax cs len 4] (jk left)=(
 L (Ob cs len 0) (jk left) (ao Z 53 0)):=by kernel_rfl
theorem atx(cs:LV)(len:Nat)(left i:Int)(L:LT)(Q:QT):
 cO Z Jo (fun _=>[0,7,8,9]) L Q 1000 53 1 (Ob cs len i) (ao Z 53 0) (jk left)=(
 ah (decide (i<Int.ofNat len)) (∃aD:Nat,i=(aD:Int)∧aD<len∧(∃n:Int,∃aL:Int,∃s:LN,∃cA:LV,∃cq:Nat,(cs.drop (aD*4)).take 4=[J n,J aL,.aa s,.ax cA cq 4]∧(an [] 0=aq∧k9 [J n,J aL,.aa s,.ax cA cq 4])∧ah (!gL jd [J n,J aL,.aa s,.ax cA cq 4]) (Q (.ai false) (jk left)) ((an [] 0=aq∧k9 [J n,J aL,.aa s,.ax cA cq 4])∧some (J left:AV)=some (J left:AV)∧ah (decide (wI (left-gL dw [J n,J aL,.aa s,.ax cA cq 4])<0)) (Q (.ai false) (jk (wI (left-gL dw [J n,J aL,.aa s,.ax cA cq 4])))) (L (Ob cs len (wI (i+1))) (jk (wI (left-gL dw [J n,J aL,.aa s,.ax cA cq 4]))) (ao Z 53 0))))) (Q (.ai true) (jk left))):=by kernel_rfl
theorem atf(cs:LV)(len:Nat)(n:Int)(L:LT)(Q:QT):
 b8 Z Jp (fun _=>[0,1,6]) L Q 1000 49 [.ax cs len 4,J n] aq=(
 L (aQ [(0,.ax cs len 4),(1,J n),(6,J 0)]) aq (ao Z 49 0)):=by kernel_rfl
theorem atg(cs:LV)(len:Nat)(n i:Int)(L:LT)(Q:QT):
 cO Z Jp (fun _=>[0,1,6]) L Q 1000 49 0 (aQ [(0,.ax cs len 4),(1,J n),(6,J i)]) (ao Z 49 0) aq=(
 ah (decide (i<Int.ofNat len)) (∃aD:Nat,i=(aD:Int)∧aD<len∧(∃aL:Int,∃bD:Int,∃s:LN,∃cA:LV,∃cq:Nat,(cs.drop (aD*4)).take 4=[J aL,J bD,.aa s,.ax cA cq 4]∧(an [] 0=aq∧k9 [J aL,J bD,.aa s,.ax cA cq 4])∧ah (!gL jd [J aL,J bD,.aa s,.ax cA cq 4]) (Q (.aJ [J n,.ai false]) aq) (∃bU:Nat,i=(bU:Int)∧bU<len∧(∃cf:Int,∃cK:Int,∃db:LN,∃ib:LV,∃ij:Nat,(cs.drop (bU*4)).take 4=[J cf,J cK,.aa db,.ax ib ij 4]∧(an [] 0=aq∧k9 [J cf,J cK,.aa db,.ax ib ij 4])∧ah (decide (wI (n+gL dw [J cf,J cK,.aa db,.ax ib ij 4])>131072)) (Q (.aJ [J (wI (n+gL dw [J cf,J cK,.aa db,.ax ib ij 4])),.ai false]) aq) (L (aQ [(0,.ax cs len 4),(1,J (wI (n+gL dw [J cf,J cK,.aa db,.ax ib ij 4]))),(6,J (wI (i+1)))]) aq (ao Z 49 0)))))) (Q (.aJ [J n,.ai true]) aq)):=by kernel_rfl
abbrev vg x0 x1 x2 x3:=aQ [(3,.ab 0 0),(4,.ai x0),(29,.ax x1 x2 6),(30,J (Int.ofNat x2)),(31,J x3)]
theorem asg(nm:LN)(ar aC:Int)(cs:LV)(len:Nat)(gs:LV)(gl:Nat)(L:LT)(Q:QT):
 b8 Z Jq (fun _=>[3,4,29,30,31]) L Q 1000 21 [.au [.aa nm,J ar,J aC,.ax cs len 4,.ax gs gl 6]] aq=(
 (an [] 0=aq∧True)∧ah (!hU (dG.mk nm ar aC)) (Q (.ai false) aq) (ah (Int.ofNat len !=ar) (Q (.ai false) aq) ((oE [J 131072] 3=jk 131072∧((0:Int)<=131072∧(131072:Int)<=131072)∧zt cs len)∧ah (!(nr (p_ 131072) cs len).1) (Q (.ai false) aq) (L (vg false gs gl 0) (jk (nr (p_ 131072) cs len).2) (ao Z 21 0))))):=by kernel_rfl
theorem ash(bP:Bool)(left i:Int)(gs:LV)(gl:Nat)(L:LT)(Q:QT):
 cO Z Jq (fun _=>[3,4,29,30,31]) L Q 2000 21 0 (vg bP gs gl i) (ao Z 21 0) (jk left)=(
 ah (decide (i<Int.ofNat gl)) (∃aD:Nat,i=(aD:Int)∧aD<gl∧(∃n:Int,∃s:LN,∃aL:Int,∃bD:Int,∃cs:LV,∃len:Nat,∃cf:Int,(gs.drop (aD*6)).take 6=[J n,.aa s,J aL,J bD,.ax cs len 4,J cf]∧ah (dh s []&&(aL==0&&(bD==0&&true))) (ah (n==1) ((an [] 0=aq∧True)∧ah (hU (dG.mk s aL bD)) (ah (Int.ofNat len==aL) (ah (cf==0) ((oE [J left] 3=jk left∧((0:Int)<=left∧left<=131072)∧zt cs len)∧ah (!(nr (p_ left) cs len).1) (Q (.ai false) aq) (L (vg true gs gl (wI (i+1))) (jk (nr (p_ left) cs len).2) (ao Z 21 0))) (Q (.ai false) aq)) (Q (.ai false) aq)) (Q (.ai false) aq)) (ah (n==2) (ah (Int.ofNat len==0) (ah (decide (cf>=0)) (ah (decide (cf<=1099511627776)) (ah (!(!bP)) (Q (.ai false) aq) (L (vg bP gs gl (wI (i+1))) (jk left) (ao Z 21 0))) (Q (.ai false) aq)) (Q (.ai false) aq)) (Q (.ai false) aq)) (ah (n==3) (ah (n==3) (ah (Int.ofNat len==0) (ah (decide (cf>=0)) (ah (!decide (cf<=1099511627776)) (Q (.ai false) aq) (L (vg bP gs gl (wI (i+1))) (jk left) (ao Z 21 0))) (Q (.ai false) aq)) (Q (.ai false) aq)) (ah (n==5) (ah (Int.ofNat len==0) (ah (!(cf==0)) (Q (.ai false) aq) (L (vg bP gs gl (wI (i+1))) (jk left) (ao Z 21 0))) (Q (.ai false) aq)) (Q (.ai false) aq))) (ah (n==4) (ah (Int.ofNat len==0) (ah (decide (cf>=0)) (ah (!decide (cf<=1099511627776)) (Q (.ai false) aq) (L (vg bP gs gl (wI (i+1))) (jk left) (ao Z 21 0))) (Q (.ai false) aq)) (Q (.ai false) aq)) (ah (n==5) (ah (Int.ofNat len==0) (ah (!(cf==0)) (Q (.ai false) aq) (L (vg bP gs gl (wI (i+1))) (jk left) (ao Z 21 0))) (Q (.ai false) aq)) (Q (.ai false) aq)))))) (ah (n==1) ((an [] 0=aq∧True)∧ah (hU (dG.mk s aL bD)) (ah (Int.ofNat len==aL) (ah (cf==0) ((oE [J left] 3=jk left∧((0:Int)<=left∧left<=131072)∧zt cs len)∧ah (!(nr (p_ left) cs len).1) (Q (.ai false) aq) (L (vg true gs gl (wI (i+1))) (jk (nr (p_ left) cs len).2) (ao Z 21 0))) (Q (.ai false) aq)) (Q (.ai false) aq)) (Q (.ai false) aq)) (ah (n==2) (Q (.ai false) aq) (ah (n==3) (ah (n==3) (Q (.ai false) aq) (ah (n==5) (Q (.ai false) aq) (Q (.ai false) aq))) (ah (n==4) (Q (.ai false) aq) (ah (n==5) (Q (.ai false) aq) (Q (.ai false) aq)))))))) (Q (.ai true) aq)):=by kernel_rfl
abbrev rR x0 x1 x2:=aQ [(1,.ab 0 0),(3,J x0),(5,.ai x1),(6,J x2)]
theorem arA(nm:LN)(ar aC:Int)(cs:LV)(len:Nat)(gs:LV)(gl:Nat)(L:LT)(Q:QT):
 b8 Z Jr (fun _=>[1,3,5,6]) L Q 1000 12 [.au [.aa nm,J ar,J aC,.ax cs len 4,.ax gs gl 6]] aq=(
 (an [] 0=aq∧((0:Int)<=0∧(0:Int)<=131072)∧zt cs len)∧ah (!(nr (rS 0) cs len).2) (Q (.ai false) aq) ((an [] 0=aq∧True)∧ah (!hU (dG.mk nm ar aC)) (Q (.ai false) aq) (ah (Int.ofNat len !=ar) (Q (.ai false) aq) (L (rR (nr (rS 0) cs len).1 false 0) (oE [.aa nm,J ar,J aC,.ax cs len 4,.ax gs gl 6] 27) (ao Z 12 0))))):=by kernel_rfl
theorem arB(nm:LN)(ar aC:Int)(cs:LV)(len:Nat)(gs:LV)(gl:Nat)(bP:Bool)(n i:Int)(L:LT)(Q:QT):
 cO Z Jr (fun _=>[1,3,5,6]) L Q 2000 12 0 (rR n bP i) (ao Z 12 0) (oE [.aa nm,J ar,J aC,.ax cs len 4,.ax gs gl 6] 27)=(
 ah (decide (i<Int.ofNat gl)) (∃aD:Nat,i=(aD:Int)∧aD<gl∧(∃aL:Int,∃s:LN,∃bD:Int,∃cf:Int,∃cA:LV,∃cq:Nat,∃cK:Int,(gs.drop (aD*6)).take 6=[J aL,.aa s,J bD,J cf,.ax cA cq 4,J cK]∧ah (aL==1) ((an [] 0=aq∧True)∧ah (!hU (dG.mk s bD cf)) (Q (.ai false) aq) (ah (Int.ofNat cq !=bD) (Q (.ai false) aq) (ah (cK !=0) (Q (.ai false) aq) ((an [] 0=aq∧((0:Int)<=n∧n<=131072)∧zt cA cq)∧ah (!(nr (rS n) cA cq).2) (Q (.ai false) aq) (L (rR (nr (rS n) cA cq).1 true (wI (i+1))) (oE [.aa nm,J ar,J aC,.ax cs len 4,.ax gs gl 6] 27) (ao Z 12 0)))))) (ah (aL==2) (ah (aL==2) (ah (decide (cK<0)) (Q (.ai false) aq) (ah (decide (cK>1099511627776)) (Q (.ai false) aq) (ah (!(dh s []&&(bD==0&&(cf==0&&true)))) (Q (.ai false) aq) (ah (Int.ofNat cq !=0) (Q (.ai false) aq) (ah (aL==2) (ah bP (Q (.ai false) aq) (L (rR n bP (wI (i+1))) (oE [.aa nm,J ar,J aC,.ax cs len 4,.ax gs gl 6] 27) (ao Z 12 0))) (L (rR n bP (wI (i+1))) (oE [.aa nm,J ar,J aC,.ax cs len 4,.ax gs gl 6] 27) (ao Z 12 0))))))) (ah (aL==5) (ah (cK !=0) (Q (.ai false) aq) (ah (!(dh s []&&(bD==0&&(cf==0&&true)))) (Q (.ai false) aq) (ah (Int.ofNat cq !=0) (Q (.ai false) aq) (L (rR n bP (wI (i+1))) (oE [.aa nm,J ar,J aC,.ax cs len 4,.ax gs gl 6] 27) (ao Z 12 0))))) (Q (.ai false) aq))) (ah (aL==3) (ah (aL==3) (ah (decide (cK<0)) (Q (.ai false) aq) (ah (decide (cK>1099511627776)) (Q (.ai false) aq) (ah (!(dh s []&&(bD==0&&(cf==0&&true)))) (Q (.ai false) aq) (ah (Int.ofNat cq !=0) (Q (.ai false) aq) (ah (aL==2) (ah bP (Q (.ai false) aq) (L (rR n bP (wI (i+1))) (oE [.aa nm,J ar,J aC,.ax cs len 4,.ax gs gl 6] 27) (ao Z 12 0))) (L (rR n bP (wI (i+1))) (oE [.aa nm,J ar,J aC,.ax cs len 4,.ax gs gl 6] 27) (ao Z 12 0))))))) (ah (aL==5) (ah (cK !=0) (Q (.ai false) aq) (ah (!(dh s []&&(bD==0&&(cf==0&&true)))) (Q (.ai false) aq) (ah (Int.ofNat cq !=0) (Q (.ai false) aq) (L (rR n bP (wI (i+1))) (oE [.aa nm,J ar,J aC,.ax cs len 4,.ax gs gl 6] 27) (ao Z 12 0))))) (Q (.ai false) aq))) (ah (aL==4) (ah (decide (cK<0)) (Q (.ai false) aq) (ah (decide (cK>1099511627776)) (Q (.ai false) aq) (ah (!(dh s []&&(bD==0&&(cf==0&&true)))) (Q (.ai false) aq) (ah (Int.ofNat cq !=0) (Q (.ai false) aq) (ah (aL==2) (ah bP (Q (.ai false) aq) (L (rR n bP (wI (i+1))) (oE [.aa nm,J ar,J aC,.ax cs len 4,.ax gs gl 6] 27) (ao Z 12 0))) (L (rR n bP (wI (i+1))) (oE [.aa nm,J ar,J aC,.ax cs len 4,.ax gs gl 6] 27) (ao Z 12 0))))))) (ah (aL==5) (ah (cK !=0) (Q (.ai false) aq) (ah (!(dh s []&&(bD==0&&(cf==0&&true)))) (Q (.ai false) aq) (ah (Int.ofNat cq !=0) (Q (.ai false) aq) (L (rR n bP (wI (i+1))) (oE [.aa nm,J ar,J aC,.ax cs len 4,.ax gs gl 6] 27) (ao Z 12 0))))) (Q (.ai false) aq))))))) (Q (.ai true) aq)):=by kernel_rfl
theorem Xs:bm Z OD:=by
 refine iE XQ fun args q v h hq=>?_
 unfold zL at h;split at h<;>cases h;refine eS XQ 1000 (fun _=>[]) 43 (by kernel_rfl) ?_;rw[atu]
 (repeat' (refine aI.2 ⟨fun _=>?_,fun _=>?_⟩))
 all_goals
  refine⟨?_,rfl⟩;congr 1
  (rw[Bool.eq_iff_iff];simp_all[hU,kD]<;>(try intros)<;>omega)
theorem OE:bm Z Jo:=by
 refine iE Xs fun args q v h hq=>?_
 unfold zL at h;split at h<;>cases h;refine eS Xs 1000 (fun _=>[]) 43 (by kernel_rfl) ?_;rw[atq]
 (repeat' (refine aI.2 ⟨fun _=>?_,fun _=>?_⟩))
 all_goals
  refine⟨?_,rfl⟩;congr 1
  (rw[Bool.eq_iff_iff];simp_all[hU,kD]<;>(try intros)<;>omega)
theorem atv{l:bH}{az:Bool×Int}(hl:eF l.length)(ho:gU l):
 ∀p:Nat×Int,(p.1<=l.length∧0<=p.2∧p.2<=131072∧p_ p.2 (l.drop p.1)=az)->
 bJ Z 53 28 1 (.ai az.1) (jk az.2) (Ob (aP l) l.length (p.1:Int)) (jk p.2) (ao Z 53 0):=by
 refine cV (fun p=>l.length-p.1) _ _ _ _ ?_;rintro⟨i,left⟩ ⟨hi,h0,h1,hf⟩ ih;simp only at hi h0 h1 hf ih⊢;refine hD OE 1000 (fun _=>[0,7,8,9]) (by kernel_rfl) ?_;rw[atx];refine aI.2 ⟨fun aj=>?_,fun aS=>?_⟩
 ·have aj:i<l.length:=by simpa using aj
  obtain⟨k,n,s,m,he,bX,bn⟩:=pz aj ho;rw[dN aj,he,p_]at hf;have hs:=IL (.mk k n s m);refine⟨i,rfl,aj,k,n,s,_,_,bX,⟨rfl,qD bn⟩,?_⟩;rw[j_,j_,je hl aj,cX (by omega) (by omega)];refine aI.2 ⟨fun h=>?_,fun h=>?_⟩
  ·have h:¬jd (.mk k n s m)=true:=by simpa using h
   rw[aB h]at hf;subst hf;exact⟨rfl,rfl⟩
  ·have h:jd (.mk k n s m)=true:=by simpa using h
   rw[aY h]at hf;refine⟨⟨rfl,qD bn⟩,rfl,aI.2 ⟨fun h=>?_,fun h=>?_⟩⟩
   ·rw[aY (by simpa using h)]at hf;subst hf;exact⟨rfl,rfl⟩
   ·have h:¬left-dw (.mk k n s m)<0:=by simpa using h
    rw[aB h]at hf;exact ih (i+1,_) ⟨by simp;omega,by simp only;omega,by simp only;omega,hf⟩ (by simp;omega)
 ·have aS:l.length<=i:=by simpa using aS
  rw[eT aS,p_]at hf;subst hf;exact⟨rfl,rfl⟩
theorem OF:bm Z Jp:=by
 refine Az OE fun args H p v H' h hp=>?_
 unfold aff at h;split at h
 ·split at h<;>cases h;obtain⟨rfl,⟨h0,h1⟩,l,rfl,rfl,hl,ho⟩:=hp;refine eS OE 1000 (fun _=>[0,7,8,9]) 28 (by kernel_rfl) ?_;rw[atw,xc];exact atv hl ho (0,_) ⟨by simp,h0,h1,rfl⟩
 ·cases h
theorem ate{l:bH}{az:Int×Bool}(hl:eF l.length)(ho:gU l):
 ∀p:Nat×Int,(p.1<=l.length∧0<=p.2∧p.2<=131072∧rS p.2 (l.drop p.1)=az)->
 bJ Z 49 31 0 (.aJ [J az.1,.ai az.2]) aq (aQ [(0,.ax (aP l) l.length 4),(1,J p.2),(6,J (p.1:Int))]) aq (ao Z 49 0):=by
 refine cV (fun p=>l.length-p.1) _ _ _ _ ?_;rintro⟨i,left⟩ ⟨hi,h0,h1,hf⟩ ih;simp only at hi h0 h1 hf ih⊢;refine hD OF 1000 (fun _=>[0,1,6]) (by kernel_rfl) ?_;rw[atg];refine aI.2 ⟨fun aj=>?_,fun aS=>?_⟩
 ·have aj:i<l.length:=by simpa using aj
  obtain⟨k,n,s,m,he,bX,bn⟩:=pz aj ho;rw[dN aj,he,rS]at hf;have hs:=IL (.mk k n s m);refine⟨i,rfl,aj,k,n,s,_,_,bX,⟨rfl,qD bn⟩,?_⟩;refine aI.2 ⟨fun h=>?_,fun h=>?_⟩
  ·have h:¬jd (.mk k n s m)=true:=by rw[j_]at h;simpa using h
   rw[aB h]at hf;subst hf;exact⟨rfl,rfl⟩
  ·have h:jd (.mk k n s m)=true:=by rw[j_]at h;simpa using h
   rw[aY h]at hf;refine⟨i,rfl,aj,k,n,s,_,_,bX,⟨rfl,qD bn⟩,?_⟩;rw[j_,je hl aj,cX (by omega) (by omega)];refine aI.2 ⟨fun h=>?_,fun h=>?_⟩
   ·rw[aY (by simpa using h)]at hf;subst hf;exact⟨rfl,rfl⟩
   ·have h:¬left+dw (.mk k n s m)>131072:=by simpa using h
    rw[aB h]at hf;exact ih (i+1,_) ⟨by simp;omega,by simp only;omega,by simp only;omega,hf⟩ (by simp;omega)
 ·have aS:l.length<=i:=by simpa using aS
  rw[eT aS,rS]at hf;subst hf;exact⟨rfl,rfl⟩
theorem OG:bm Z Jq:=by
 refine iE OF fun args q v h hq=>?_
 unfold ag2 at h;split at h<;>cases h;obtain⟨⟨h0,h1⟩,l,rfl,rfl,hl,ho⟩:=hq;refine eS OF 1000 (fun _=>[0,1,6]) 31 (by kernel_rfl) ?_;rw[atf,xc];exact ate hl ho (0,_) ⟨by simp,h0,h1,rfl⟩
theorem aaY{left:Int}{l:bH}(h:0<=left)(hl:l.length=0):jU left l=true∧(bA l:Int)=0:=by have:l=[]:=List.length_eq_zero_iff.1 hl;subst this;exact⟨qo.2 ⟨by simp,by simpa[bA]using h⟩,by simp[bA]⟩
theorem KY{left:Int}{l:bH}(h:jU left l=true):0<=left-bA l:=by have:=(qo.1 h).2;omega
theorem asf{l:cY}{az:Bool}(hl:eF l.length)(ho:∀g∈l,nF g):
 ∀p:Nat×Bool×Int,(p.1<=l.length∧0<=p.2.2∧p.2.2<=131072∧k6 p.2.1 p.2.2 (l.drop p.1)=az)->
 bJ Z 21 113 0 (.ai az) aq (vg p.2.1 (bN l) l.length (p.1:Int)) (jk p.2.2) (ao Z 21 0):=by
 refine cV (fun p=>l.length-p.1) _ _ _ _ ?_;rintro⟨i,bP,left⟩ ⟨hi,h0,h1,hf⟩ ih;simp only at hi h0 h1 hf ih⊢;refine hD OG 2000 (fun _=>[3,4,29,30,31]) (by kernel_rfl) ?_;rw[ash];refine aI.2 ⟨fun aj=>?_,fun aS=>?_⟩
 ·have aj:i<l.length:=by simpa using aj
  obtain⟨k,nm,ar,aC,ls,v,he,bX,bn⟩:=ra aj ho;rw[dN aj,he,k6]at hf;simp only at hf;refine⟨i,rfl,aj,k,nm,ar,aC,_,_,v,bX,?_⟩;rw[je hl aj];have lM:(nT bP ⟨k,⟨nm,ar,aC⟩,ls,v⟩=false∨jU left ls=false)->iS (.ai az) aq (.ai false) (an [] 0):=by
   rintro(h|h)
   ·rw[h]at hf;simp at hf;exact⟨by rw[hf],rfl⟩
   ·rw[h]at hf;simp at hf;exact⟨by rw[hf],rfl⟩
  have sm:∀c' BC,nT bP ⟨k,⟨nm,ar,aC⟩,ls,v⟩=true->jU left ls=true->c'=(bP||k==1)->BC=left-bA ls->
   bJ Z 21 113 0 (.ai az) aq (vg c' (bN l) l.length ((i+1:Nat):Int)) (jk BC) (ao Z 21 0):=by
   rintro _ _ h2 h3 rfl rfl;rw[h2,h3,iG,iG]at hf;have:=KY h3;exact ih (i+1,_,_) ⟨by simp;omega,this,by simp only;omega,hf⟩ (by simp;omega)
  have hr:=VN left ls h0;have tq:=fun h=>aaY (l:=ls) h0 h
  have nz:=Md bn.2.1 bn.2.2;simp only at nz;rw[xc,hr.1];clear ih hf bX he aj hi hl ho bn;repeat' first
   |refine aI.2 ⟨fun _=>?_,fun _=>?_⟩
   |refine⟨⟨rfl,trivial⟩,?_⟩
   |refine⟨⟨rfl,⟨h0,h1⟩,nz⟩,?_⟩
   |fail
  all_goals first
   |(refine lM ?_;clear lM sm hr nz;simp_all[nT,ur,tU,kD];done)
   |(refine lM ?_;clear lM sm hr nz;left;simp_all[nT,ur,tU,kD]<;>(try intros)<;>omega)
   |(refine lM ?_;clear lM sm hr nz;left;simp_all[nT,ur,tU,kD]<;>(try intros)<;>simp_all;done)
   |(refine sm _ _ ?_ ?_ ?_ ?_<;>clear lM sm<;>simp_all[nT,ur,tU,kD]<;>omega)
   |(exfalso;clear lM sm hr nz tq;simp_all;done)
 ·have aS:l.length<=i:=by simpa using aS
  rw[eT aS,k6]at hf;subst hf;exact⟨rfl,rfl⟩
theorem OH:bm Z Jr:=by
 refine iE OG fun args q v h hq=>?_
 unfold Om at h;split at h<;>cases h;obtain⟨⟨⟨nm,ar,aC⟩,ls,gs⟩,rfl,ho⟩:=hq;refine eS OG 1000 (fun _=>[3,4,29,30,31]) 113 (by kernel_rfl) ?_;rw[yT,ft,asg,xc];have hr:=VN 131072 ls (by omega);have nz:=Md ho.2.1 ho.2.2.1;simp only at nz;rw[hr.1];refine⟨⟨rfl,trivial⟩,?_⟩;simp only[ez];refine aI.2 ⟨fun h1=>?_,fun h1=>?_⟩
 ·have h1:hU ⟨nm,ar,aC⟩=false:=by simpa using h1
  rw[h1];exact⟨rfl,rfl⟩
 ·have h1:hU ⟨nm,ar,aC⟩=true:=by simpa using h1
  refine aI.2 ⟨fun h2=>?_,fun h2=>?_⟩
  ·have h2:¬((ls.length:Int)=ar):=by simpa using h2
   rw[h1,decide_eq_false h2];exact⟨rfl,rfl⟩
  ·have h2:(ls.length:Int)=ar:=by simpa using h2
   refine⟨⟨rfl,⟨by omega,by omega⟩,nz⟩,aI.2 ⟨fun h3=>?_,fun h3=>?_⟩⟩
   ·have h3:jU 131072 ls=false:=by simpa using h3
    rw[h1,h3];exact⟨by simp,rfl⟩
   ·have h3:jU 131072 ls=true:=by simpa using h3
    rw[h1,h3,decide_eq_true h2,hr.2 h3];have:=KY h3;exact asf ho.2.2.2.1 ho.2.2.2.2 (0,false,_) ⟨by simp,this,by simp only;omega,by simp⟩
theorem arz{nm:LN}{ar aC:Int}{cs:LV}{len:Nat}{l:cY}{az:Bool}(hl:eF l.length)(ho:∀g∈l,nF g):
 ∀p:Nat×Bool×Int,(p.1<=l.length∧0<=p.2.2∧p.2.2<=131072∧k6 p.2.1 (131072-p.2.2) (l.drop p.1)=az)->
 bJ Z 12 123 0 (.ai az) aq (rR p.2.2 p.2.1 (p.1:Int)) (oE [.aa nm,J ar,J aC,.ax cs len 4,.ax (bN l) l.length 6] 27) (ao Z 12 0):=by
 refine cV (fun p=>l.length-p.1) _ _ _ _ ?_;rintro⟨i,bP,n⟩ ⟨hi,h0,h1,hf⟩ ih;simp only at hi h0 h1 hf ih⊢;refine hD OH 2000 (fun _=>[1,3,5,6]) (by kernel_rfl) ?_;rw[arB];refine aI.2 ⟨fun aj=>?_,fun aS=>?_⟩
 ·have aj:i<l.length:=by simpa using aj
  obtain⟨k,ki,jP,j8,ls,v,he,bX,bn⟩:=ra aj ho;rw[dN aj,he,k6]at hf;simp only at hf;refine⟨i,rfl,aj,k,ki,jP,j8,_,_,v,bX,?_⟩;rw[je hl aj];have lM:(nT bP ⟨k,⟨ki,jP,j8⟩,ls,v⟩=false∨jU (131072-n) ls=false)->iS (.ai az) aq (.ai false) (an [] 0):=by
   rintro(h|h)
   ·rw[h]at hf;simp at hf;exact⟨by rw[hf],rfl⟩
   ·rw[h]at hf;simp at hf;exact⟨by rw[hf],rfl⟩
  have sm:∀c' n',nT bP ⟨k,⟨ki,jP,j8⟩,ls,v⟩=true->jU (131072-n) ls=true->c'=(bP||k==1)->n'=n+bA ls->
   bJ Z 12 123 0 (.ai az) aq (rR n' c' ((i+1:Nat):Int)) (oE [.aa nm,J ar,J aC,.ax cs len 4,.ax (bN l) l.length 6] 27) (ao Z 12 0):=by
   rintro _ _ h2 h3 rfl rfl;rw[h2,h3,iG,iG]at hf;have:=KY h3;exact ih (i+1,_,_) ⟨by simp;omega,by simp only;omega,by simp only;omega,by simp only;rw[←hf];congr 1;omega⟩ (by simp;omega)
  have hr:=WJ n ls h1;have tq:=fun h=>aaY (left:=131072-n) (l:=ls) (by omega) h
  have nz:=Md bn.2.1 bn.2.2;simp only at nz;rw[xc,hr.1];clear ih hf bX he aj hi hl ho bn;repeat' first
   |refine aI.2 ⟨fun _=>?_,fun _=>?_⟩
   |refine⟨⟨rfl,trivial⟩,?_⟩
   |refine⟨⟨rfl,⟨h0,h1⟩,nz⟩,?_⟩
   |fail
  all_goals first
   |(refine lM ?_;clear lM sm hr nz;simp_all[nT,ur,tU,kD];done)
   |(refine lM ?_;clear lM sm hr nz;left;simp_all[nT,ur,tU,kD]<;>(try intros)<;>omega)
   |(refine lM ?_;clear lM sm hr nz;left;simp_all[nT,ur,tU,kD]<;>(try intros)<;>simp_all;done)
   |(refine sm _ _ ?_ ?_ ?_ ?_<;>clear lM sm<;>simp_all[nT,ur,tU,kD]<;>omega)
   |(exfalso;clear lM sm hr nz tq;simp_all;done)
 ·have aS:l.length<=i:=by simpa using aS
  rw[eT aS,k6]at hf;subst hf;exact⟨rfl,rfl⟩
theorem F2:bm Z CH:=by
 refine iE OH fun args q v h hq=>?_
 unfold Om at h;split at h<;>cases h;obtain⟨⟨⟨nm,ar,aC⟩,ls,gs⟩,rfl,ho⟩:=hq;refine eS OH 1000 (fun _=>[1,3,5,6]) 123 (by kernel_rfl) ?_;rw[yT,ft,arA,xc];have hr:=WJ 0 ls (by omega);have nz:=Md ho.2.1 ho.2.2.1;simp only at nz;rw[hr.1];refine⟨⟨rfl,⟨by omega,by omega⟩,nz⟩,?_⟩;simp only[ez];have e:(131072:Int)-0=131072:=rfl;rw[e]at hr⊢;refine aI.2 ⟨fun h3=>?_,fun h3=>?_⟩
 ·have h3:jU 131072 ls=false:=by simpa using h3
  rw[h3];exact⟨by simp,rfl⟩
 ·have h3:jU 131072 ls=true:=by simpa using h3
  refine⟨⟨rfl,trivial⟩,aI.2 ⟨fun h1=>?_,fun h1=>?_⟩⟩
  ·have h1:hU ⟨nm,ar,aC⟩=false:=by simpa using h1
   rw[h1];exact⟨rfl,rfl⟩
  ·have h1:hU ⟨nm,ar,aC⟩=true:=by simpa using h1
   refine aI.2 ⟨fun h2=>?_,fun h2=>?_⟩
   ·have h2:¬((ls.length:Int)=ar):=by simpa using h2
    rw[h1,decide_eq_false h2];exact⟨rfl,rfl⟩
   ·have h2:(ls.length:Int)=ar:=by simpa using h2
    rw[h1,h3,decide_eq_true h2,hr.2 h3];have:=KY h3;exact arz ho.2.2.2.1 ho.2.2.2.2 (0,false,_) ⟨by simp,by simp only;omega,by simp only;omega,by simp⟩
def kg:List (Nat×LN)->Nat->LN
 |[],_=>[]
 |(a,l)::m,r=>bif Nat.beq a r then l else kg m r
def nM:Int->bH->Int
 |n,[]=>n
 |n,t::l=>if n<=3000 then nM (n+dw t) l else n
def tX:Int->cY->Bool
 |n,[]=>decide (n>3000)
 |n,g::l=>if g.cx.length>1500 then true else tX (nM n g.cx) l
def pB(f:bg):Bool:=if f.aO.length>1500∨f.aA.length>500 then true else tX (nM 0 f.aO) f.aA
def ahp:LV->Option (Prop×AV)
 |[.au cells]=>some (By cells,.ai (pJ pB cells))
 |_=>none
def OI:Ev.bz:=eB 5 (eG ahp) CH
def zA:Nat->LN:=kg [(5,[1,3,4]),(9,[1,3,5]),(14,[1,3,5,6])]
def fH(nm:LN)(ar aC:Int)(cs:LV)(len:Nat)(gs:LV)(gl:Nat):AH:=an [(0,.aw [.aa nm,J ar,J aC,.ax cs len 4,.ax gs gl 6] 27)] 1
theorem atG(nm:LN)(ar aC:Int)(cs:LV)(len:Nat)(gs:LV)(gl:Nat)(L:LT)(Q:QT):
 b8 Z CH zA L Q 1000 5 [.au [.aa nm,J ar,J aC,.ax cs len 4,.ax gs gl 6]] aq=(
 ah (decide (Int.ofNat len>1500)) (Q (.ai true) aq) (ah (decide (Int.ofNat gl>500)) (Q (.ai true) aq) (L (aQ [(1,.ab 0 0),(3,J 0),(4,J 0)]) (fH nm ar aC cs len gs gl) (ao Z 5 0)))):=by kernel_rfl
abbrev Cp x0 x1:=aQ [(1,.ab 0 0),(3,J x0),(5,J x1)]
theorem atH(nm:LN)(ar aC:Int)(cs:LV)(len:Nat)(gs:LV)(gl:Nat)(n i:Int)(L:LT)(Q:QT):
 cO Z CH zA L Q 1000 5 0 (aQ [(1,.ab 0 0),(3,J n),(4,J i)]) (ao Z 5 0) (fH nm ar aC cs len gs gl)=(
 ah (decide (i<Int.ofNat len)) (ah (decide (n<=3000)) (∃aD:Nat,i=(aD:Int)∧aD<len∧(∃aL:Int,∃bD:Int,∃s:LN,∃cA:LV,∃cq:Nat,(cs.drop (aD*4)).take 4=[J aL,J bD,.aa s,.ax cA cq 4]∧(an [] 0=aq∧k9 [J aL,J bD,.aa s,.ax cA cq 4])∧L (aQ [(1,.ab 0 0),(3,J (wI (n+gL dw [J aL,J bD,.aa s,.ax cA cq 4]))),(4,J (wI (i+1)))]) (fH nm ar aC cs len gs gl) (ao Z 5 0))) (L (Cp n 0) (fH nm ar aC cs len gs gl) (ao Z 5 1))) (L (Cp n 0) (fH nm ar aC cs len gs gl) (ao Z 5 1))):=by kernel_rfl
theorem atI(nm:LN)(ar aC:Int)(cs:LV)(len:Nat)(gs:LV)(gl:Nat)(n i:Int)(L:LT)(Q:QT):
 cO Z CH zA L Q 1000 5 0 (Cp n i) (ao Z 5 1) (fH nm ar aC cs len gs gl)=(
 ah (decide (i<Int.ofNat gl)) (∃aD:Nat,i=(aD:Int)∧aD<gl∧(∃aL:Int,∃s:LN,∃bD:Int,∃cf:Int,∃cA:LV,∃cq:Nat,∃cK:Int,(gs.drop (aD*6)).take 6=[J aL,.aa s,J bD,J cf,.ax cA cq 4,J cK]∧ah (decide (Int.ofNat cq>1500)) (Q (.ai true) aq) (L (aQ [(1,.ab 0 0),(3,J n),(5,J i),(6,J 0)]) (fH nm ar aC cs len gs gl) (ao Z 5 2)))) (Q (.ai (decide (n>3000))) aq)):=by kernel_rfl
theorem atJ(nm:LN)(ar aC:Int)(cs:LV)(len:Nat)(gs:LV)(gl:Nat)(n i k:Int)(L:LT)(Q:QT):
 cO Z CH zA L Q 1000 5 0 (aQ [(1,.ab 0 0),(3,J n),(5,J i),(6,J k)]) (ao Z 5 2) (fH nm ar aC cs len gs gl)=(
 ∃aD:Nat,i=(aD:Int)∧aD<gl∧(∃aL:Int,∃s:LN,∃bD:Int,∃cf:Int,∃cA:LV,∃cq:Nat,∃cK:Int,(gs.drop (aD*6)).take 6=[J aL,.aa s,J bD,J cf,.ax cA cq 4,J cK]∧ah (decide (k<Int.ofNat cq)) (ah (decide (n<=3000)) (∃bU:Nat,i=(bU:Int)∧bU<gl∧(∃fI:Int,∃db:LN,∃gS:Int,∃jZ:Int,∃ib:LV,∃ij:Nat,∃fT:Int,(gs.drop (bU*6)).take 6=[J fI,.aa db,J gS,J jZ,.ax ib ij 4,J fT]∧(∃cd:Nat,k=(cd:Int)∧cd<ij∧(∃fJ:Int,∃lO:Int,∃iI:LN,∃Q2:LV,∃Up:Nat,(ib.drop (cd*4)).take 4=[J fJ,J lO,.aa iI,.ax Q2 Up 4]∧(an [] 0=aq∧k9 [J fJ,J lO,.aa iI,.ax Q2 Up 4])∧L (aQ [(1,.ab 0 0),(3,J (wI (n+gL dw [J fJ,J lO,.aa iI,.ax Q2 Up 4]))),(5,J i),(6,J (wI (k+1)))]) (fH nm ar aC cs len gs gl) (ao Z 5 2))))) (L (Cp n (wI (i+1))) (fH nm ar aC cs len gs gl) (ao Z 5 1))) (L (Cp n (wI (i+1))) (fH nm ar aC cs len gs gl) (ao Z 5 1)))):=by kernel_rfl
theorem agU:∀(n:Int) (l:bH),0<=n->n<=5001->0<=nM n l∧nM n l<=5001
 |n,[],h,h2=>⟨h,h2⟩
 |n,t::l,h,h2=>by
  have:=IL t;simp only[nM];split
  ·exact agU _ l (by omega) (by omega)
  ·exact⟨h,h2⟩
section
variable{nm:LN}{ar aC:Int}{ls:bH}{gs:cY}
theorem atF{az:Bool}{n':Int}{i:Nat}(bn:hJ ⟨⟨nm,ar,aC⟩,ls,gs⟩)(hi:i<gs.length)
 (dM:bJ Z 5 80 0 (.ai az) aq (Cp n' ((i+1:Nat):Int)) (fH nm ar aC (aP ls) ls.length (bN gs) gs.length) (ao Z 5 1)):
 ∀p:Nat×Int,(p.1<=gs[i].cx.length∧0<=p.2∧p.2<=5001∧nM p.2 (gs[i].cx.drop p.1)=n')->
 bJ Z 5 80 0 (.ai az) aq (aQ [(1,.ab 0 0),(3,J p.2),(5,J (i:Int)),(6,J (p.1:Int))]) (fH nm ar aC (aP ls) ls.length (bN gs) gs.length) (ao Z 5 2):=by
 obtain⟨k,ki,jP,j8,ts,v,he,bX,hg⟩:=ra hi bn.2.2.2.2;have vY:=bn.2.2.2.1;simp only at vY;rw[he];refine cV (fun p=>ts.length-p.1) _ _ _ _ ?_;rintro⟨j,n⟩ ⟨hj,h0,h1,hf⟩ ih;simp only at hj h0 h1 hf ih⊢;refine hD F2 1000 zA (by kernel_rfl) ?_;rw[atJ];refine⟨i,rfl,hi,k,ki,jP,j8,_,_,v,bX,?_⟩;refine aI.2 ⟨fun aj=>?_,fun aS=>?_⟩
 ·have aj:j<ts.length:=by simpa using aj
  obtain⟨k1,n1,s1,m1,ze,Bo,Bn⟩:=pz aj hg.2.2;rw[dN aj,ze,nM]at hf;have hs:=IL (.mk k1 n1 s1 m1);refine aI.2 ⟨fun h=>?_,fun h=>?_⟩
  ·have h:n<=3000:=by simpa using h
   rw[aY h]at hf;refine⟨i,rfl,hi,k,ki,jP,j8,_,_,v,bX,j,rfl,aj,k1,n1,s1,_,_,Bo,⟨rfl,qD Bn⟩,?_⟩;rw[j_,je hg.2.1 aj,cX (by omega) (by omega)];exact ih (j+1,_) ⟨by simp;omega,by simp only;omega,by simp only;omega,hf⟩ (by simp;omega)
  ·have h:¬n<=3000:=by simpa using h
   rw[aB h]at hf;subst hf;rw[je vY hi];exact dM
 ·have aS:ts.length<=j:=by simpa using aS
  rw[eT aS,nM]at hf;subst hf;rw[je vY hi];exact dM
theorem afS{az:Bool}(bn:hJ ⟨⟨nm,ar,aC⟩,ls,gs⟩):
 ∀p:Nat×Int,(p.1<=gs.length∧0<=p.2∧p.2<=5001∧tX p.2 (gs.drop p.1)=az)->
 bJ Z 5 80 0 (.ai az) aq (Cp p.2 (p.1:Int)) (fH nm ar aC (aP ls) ls.length (bN gs) gs.length) (ao Z 5 1):=by
 refine cV (fun p=>gs.length-p.1) _ _ _ _ ?_;rintro⟨i,n⟩ ⟨hi,h0,h1,hf⟩ ih;simp only at hi h0 h1 hf ih⊢;refine hD F2 1000 zA (by kernel_rfl) ?_;rw[atI];refine aI.2 ⟨fun aj=>?_,fun aS=>?_⟩
 ·have aj:i<gs.length:=by simpa using aj
  obtain⟨k,ki,jP,j8,ts,v,he,bX,hg⟩:=ra aj bn.2.2.2.2;rw[dN aj,tX]at hf;refine⟨i,rfl,aj,k,ki,jP,j8,_,_,v,bX,?_⟩;refine aI.2 ⟨fun h=>?_,fun h=>?_⟩
  ·rw[aY (by rw[he];simp at h⊢;omega)]at hf;subst hf;exact⟨rfl,rfl⟩
  ·rw[aB (by rw[he];simp at h⊢;omega)]at hf;have hb:=agU n gs[i].cx h0 h1;exact atF bn aj (ih (i+1,_) ⟨by simp;omega,hb.1,hb.2,hf⟩ (by simp;omega)) (0,n) ⟨by simp,h0,h1,by simp⟩
 ·have aS:gs.length<=i:=by simpa using aS
  rw[eT aS,tX]at hf;subst hf;exact⟨rfl,rfl⟩
theorem atE{az:Bool}(bn:hJ ⟨⟨nm,ar,aC⟩,ls,gs⟩):
 ∀p:Nat×Int,(p.1<=ls.length∧0<=p.2∧p.2<=5001∧tX (nM p.2 (ls.drop p.1)) gs=az)->
 bJ Z 5 80 0 (.ai az) aq (aQ [(1,.ab 0 0),(3,J p.2),(4,J (p.1:Int))]) (fH nm ar aC (aP ls) ls.length (bN gs) gs.length) (ao Z 5 0):=by
 have d_:=bn.2.1;simp only at d_;refine cV (fun p=>ls.length-p.1) _ _ _ _ ?_;rintro⟨j,n⟩ ⟨hj,h0,h1,hf⟩ ih;simp only at hj h0 h1 hf ih⊢;refine hD F2 1000 zA (by kernel_rfl) ?_;rw[atH];refine aI.2 ⟨fun aj=>?_,fun aS=>?_⟩
 ·have aj:j<ls.length:=by simpa using aj
  obtain⟨k1,n1,s1,m1,ze,Bo,Bn⟩:=pz aj bn.2.2.1;rw[dN aj,ze,nM]at hf;have hs:=IL (.mk k1 n1 s1 m1);refine aI.2 ⟨fun h=>?_,fun h=>?_⟩
  ·have h:n<=3000:=by simpa using h
   rw[aY h]at hf;refine⟨j,rfl,aj,k1,n1,s1,_,_,Bo,⟨rfl,qD Bn⟩,?_⟩;rw[j_,je d_ aj,cX (by omega) (by omega)];exact ih (j+1,_) ⟨by simp;omega,by simp only;omega,by simp only;omega,hf⟩ (by simp;omega)
  ·have h:¬n<=3000:=by simpa using h
   rw[aB h]at hf;exact afS bn (0,n) ⟨by simp,h0,h1,by simpa using hf⟩
 ·have aS:ls.length<=j:=by simpa using aS
  rw[eT aS,nM]at hf;exact afS bn (0,n) ⟨by simp,h0,h1,by simpa using hf⟩
end
theorem OJ:bm Z OI:=by
 refine iE F2 fun args q v h hq=>?_
 unfold ahp at h;split at h<;>cases h;obtain⟨⟨⟨nm,ar,aC⟩,ls,gs⟩,rfl,ho⟩:=hq;refine eS F2 1000 zA 80 (by kernel_rfl) ?_;rw[yT,ft,atG];simp only[pB];refine aI.2 ⟨fun h1=>?_,fun h1=>?_⟩
 ·rw[aY (by simp at h1;left;omega)];exact⟨rfl,rfl⟩
 ·refine aI.2 ⟨fun h2=>?_,fun h2=>?_⟩
  ·rw[aY (by simp at h2;right;omega)];exact⟨rfl,rfl⟩
  ·rw[aB (by simp at h1 h2;omega)];exact atE ho (0,0) ⟨by simp,by simp,by simp,by simp⟩
section anA
variable{β:Type}(ev:β->AV)
def bM:Nat->List (Int×β)->List (AV×AV×Nat)
 |_,[]=>[]
 |b,(k,v)::l=>(J k,ev v,b)::bM (b+1) l
def axL(l:List (Int×β)):aZ:=.bC (bM ev 0 l) l.length true
def lk(k:Int):List (Int×β)->Option β
 |[]=>none
 |(x,v)::l=>if k=x then some v else lk k l
def up(k:Int)(v:β):List (Int×β)->List (Int×β)
 |[]=>[(k,v)]
 |(x,w)::l=>if k=x then(k,v)::l else(x,w)::up k v l
def ix(k:Int):List (Int×β)->Option Nat
 |[]=>none
 |(x,v)::l=>if k=x then some 0 else(ix k l).map (· +1)
theorem nC(k:Int)(v:β)(j:Int):∀l:List (Int×β),lk j (up k v l)=if j=k then some v else lk j l
 |[]=>by simp only[up,lk]
 |(x,w)::l=>by
  simp only[up];by_cases h:k=x
  ·subst h;rw[aY rfl];simp only[lk];split<;>rfl
  ·rw[aB h];simp only[lk];by_cases h2:j=x
   ·subst h2;rw[aY rfl,aY rfl,aB (fun e=>h e.symm)]
   ·rw[aB h2,aB h2,nC k v j l]
def Gc(P:Program)(kt:TypeId):Prop:=∀a b:Int,ie P 100 kt (J a) (J b)=some (a==b)
variable{P:Program}{kt:TypeId}
theorem RF(hk:Gc P kt)(k:Int):∀(l:List (Int×β)) (b j:Nat),
 kY (ie P 100 kt) (J k) (bM ev b l) j=some (match ix k l,lk k l with|some i,some v=>some (j+i,ev v,b+i)|_,_=>none)
 |[],b,j=>rfl
 |(x,v)::l,b,j=>by
  simp only[bM,kY,hk k x,ix,lk];by_cases h:k=x
  ·subst h;simp
  ·have:(k==x)=false:=by simpa using h
   rw[this,aB h,aB h];simp only;rw[RF hk k l (b+1) (j+1)];cases ix k l<;>cases lk k l<;>simp[Nat.add_assoc,Nat.add_comm 1]
theorem Me{k:Int}:∀{l:List (Int×β)},ix k l=none->lk k l=none∧∀v,up k v l=l++[(k,v)]
 |[],_=>⟨rfl,fun _=>rfl⟩
 |(x,w)::l,h=>by
  simp only[ix]at h;split at h
  ·cases h
  ·rename_i hx;have:=Me (l:=l) (by simpa using h);simp only[lk,up,aB hx,this.1,true_and];intro v;rw[this.2 v];rfl
theorem aaj:∀(l m:List (Int×β)) (b:Nat),bM ev b (l++m)=bM ev b l++bM ev (b+l.length) m
 |[],m,b=>rfl
 |(x,w)::l,m,b=>by simp only[sA,bM,aaj l m (b+1),dv];congr 3;omega
theorem T2{k:Int}:∀{l:List (Int×β)} {i:Nat},ix k l=some i->∀b,(∃v,lk k l=some v)∧tM (bM ev b l) i (J k)=true∧
 (∀v,nJ (bM ev b l) i (fun e=>(J k,ev v,e.2.2))=bM ev b (up k v l))∧∀v,(up k v l).length=l.length
 |[],_,h,_=>by cases h
 |(x,w)::l,i,h,b=>by
  simp only[ix]at h;split at h
  ·rename_i hx;cases h;subst hx;refine⟨⟨w,by simp[lk]⟩,?_,fun v=>by simp[up,bM,nJ],fun v=>by simp[up]⟩;simp[tM,bM,GU,DG]
  ·rename_i hx;obtain⟨i',h',rfl⟩:=Option.map_eq_some_iff.1 h;obtain⟨⟨v,h1⟩,h2,h3,h4⟩:=T2 (l:=l) h' (b+1);refine⟨⟨v,by simp[lk,hx,h1]⟩,?_,fun v=>?_,fun v=>by simp[up,hx,h4]⟩
   ·simpa[tM,bM]using h2
   ·simp only[up,aB hx,bM,nJ,h3]
theorem sq(hk:Gc P kt){e:TypeId}{k:Int}{l:List (Int×β)}{b:Nat}:
 fX P kt e (bM ev b l) (J k)=(match lk k l with|some v=>some (ev v,true)|none=>(ku P e).map (·,false)):=by
 unfold fX;rw[RF ev hk k l b 0];cases hi:ix k l with
 |none=>rw[(Me hi).1]
 |some i=>obtain⟨⟨v,h1⟩,_⟩:=T2 ev hi 0;rw[h1]
theorem qb(hk:Gc P kt){k:Int}{l:List (Int×β)}{v:β}:
 jc P kt (bM ev 0 l) l.length (J k) (ev v)=some (bM ev 0 (up k v l),(up k v l).length):=by
 unfold jc;rw[RF ev hk k l 0 0];cases hi:ix k l with
 |none=>rw[(Me hi).1,(Me hi).2 v,aaj];simp[bM]
 |some i=>obtain⟨⟨w,h1⟩,h2,h3,h4⟩:=T2 ev hi 0;rw[h1];simp only[jI,h2,cond_true,h3,h4]
end anA
theorem nv:Gc Z 2:=fun a b=>by kernel_rfl
theorem vL:Gc Z 3:=fun a b=>by kernel_rfl
theorem FY:ku Z 3=some (J 0):=by kernel_rfl
theorem Xl:ku Z 4=some (.ai false):=by kernel_rfl
def vB(b:Bool):AV:=.ai b
theorem qY{β:Type}{ev:β->AV}(he:∀a b,ev a=ev b->a=b):∀{l m:List (Int×β)} {b:Nat},bM ev b l=bM ev b m->l=m
 |[],[],_,_=>rfl
 |[],_::_,_,h=>by cases h
 |_::_,[],_,h=>by cases h
 |(k,v)::l,(k',v')::m,b,h=>by simp only[bM,List.cons.injEq,Prod.mk.injEq,AV.ck.injEq,true_and,and_true]at h;obtain⟨⟨rfl,h1⟩,h2⟩:=h;rw[he _ _ h1,qY he h2]
theorem wF(a b:Int)(h:J a=J b):a=b:=by cases h;rfl
theorem ag9(a b:Bool)(h:vB a=vB b):a=b:=by cases h;rfl
structure a9 where
 op:Int
 r:Int
 a:Int
 n:Int
 cH:LN
 ar:Int
 deriving DecidableEq,Inhabited
abbrev cn:=List a9
def cb(i:a9):LV:=[J i.op,J i.r,J i.a,J i.n,.aa i.cH,J i.ar]
def cw:cn->LV
 |[]=>[]
 |i::l=>cb i++cw l
theorem Dy{i j:a9}(h:cb i=cb j):i=j:=by obtain⟨a,b,c,d,e,f⟩:=i;obtain⟨a',b',c',d',e',f'⟩:=j;simp only[cb,List.cons.injEq,AV.ck.injEq,AV.aa.injEq,true_and,and_true]at h;obtain⟨rfl,rfl,rfl,rfl,rfl,rfl⟩:=h;rfl
theorem AN(i:a9):(cb i).length=6:=rfl
theorem xg:∀l:cn,(cw l).length=l.length*6
 |[]=>rfl
 |i::l=>by simp[cw,AN,xg l];omega
theorem Dz:∀{l m:cn},cw l=cw m->l=m
 |[],[],_=>rfl
 |[],i::_,h=>by simp[cw,cb]at h
 |i::_,[],h=>by simp[cw,cb]at h
 |t::l,u::m,h=>by simp only[cw]at h;have h2:=List.append_inj h (by rw[AN,AN]);rw[Dy h2.1,Dz h2.2]
theorem KE:∀(l m:cn),cw (l++m)=cw l++cw m
 |[],m=>rfl
 |i::l,m=>by simp[cw,KE l m]
theorem Rj{l:cn}{i:Nat}(h:i<l.length):((cw l).drop (i*6)).take 6=cb l[i]:=by
 induction l generalizing i with
 |nil=>simp at h
 |cons t0 l ih=>
  cases i with
  |zero=>simp only[cw,Nat.zero_mul,jB,List.getElem_cons_zero];exact List.take_left' (l₂:=cw l) (AN t0)
  |succ i=>
   have hl:i<l.length:=by simpa using h
   have:=ih hl;simp only[cw,List.getElem_cons_succ];rw[←this];congr 1;have e:(i+1)*6=(cb t0).length+i*6:=by rw[AN];omega
   rw[e,List.drop_length_add_append]
theorem Ri:∀l:cn,(cw l).all AV.dR=true∧(cw l).all iD=true
 |[]=>⟨rfl,rfl⟩
 |i::l=>by have:=Ri l;simp only[cw,List.all_append,this.1,this.2,Bool.and_true];exact⟨rfl,rfl⟩
structure Em where
 aM:cn
 f:bg
 gF:LP
 a8:LP
 dZ:LP
 du:List (Int×Bool)
 bT:Int
 gN:Bool
def bK(m:Em):AH:=an [
 (0,.aw [.ad 1 m.aM.length 6,.aa m.f.ay.ca,J m.f.ay.ar,J m.f.ay.aC,.ax (aP m.f.aO) m.f.aO.length 4,.ax (bN m.f.aA) m.f.aA.length 6,.aH 2,.aH 3,.aH 4,.aH 5,J m.bT,.ai m.gN] 71),
 (1,.aF (cw m.aM) 50),(2,.bC (bM J 0 m.gF) m.gF.length true),(3,.bC (bM J 0 m.a8) m.a8.length true),(4,.bC (bM J 0 m.dZ) m.dZ.length true),(5,.bC (bM vB 0 m.du) m.du.length true)] 6
theorem GQ{m m':Em}(h:bK m=bK m'):m=m':=by have h0:=congrArg (fun H=>AH.bu H 0) h;have h1:=congrArg (fun H=>AH.bu H 1) h;have h2:=congrArg (fun H=>AH.bu H 2) h;have h3:=congrArg (fun H=>AH.bu H 3) h;have h4:=congrArg (fun H=>AH.bu H 4) h;have h5:=congrArg (fun H=>AH.bu H 5) h;obtain⟨code,⟨⟨a,b,c⟩,l,g⟩,count,a8,dZ,du,next,gN⟩:=m;obtain⟨Km,⟨⟨a',b',c'⟩,l',g'⟩,Q0,U9,WI,T3,wk,ac9⟩:=m';have q0:(some (aZ.aw [.ad 1 code.length 6,.aa a,J b,J c,.ax (aP l) l.length 4,.ax (bN g) g.length 6,.aH 2,.aH 3,.aH 4,.aH 5,J next,.ai gN] 71):Option aZ)=some (aZ.aw [.ad 1 Km.length 6,.aa a',J b',J c',.ax (aP l') l'.length 4,.ax (bN g') g'.length 6,.aH 2,.aH 3,.aH 4,.aH 5,J wk,.ai ac9] 71):=h0;have q1:(some (aZ.aF (cw code) 50))=some (aZ.aF (cw Km) 50):=h1;have q2:some (aZ.bC (bM J 0 count) count.length true)=some (aZ.bC (bM J 0 Q0) Q0.length true):=h2;have q3:some (aZ.bC (bM J 0 a8) a8.length true)=some (aZ.bC (bM J 0 U9) U9.length true):=h3;have q4:some (aZ.bC (bM J 0 dZ) dZ.length true)=some (aZ.bC (bM J 0 WI) WI.length true):=h4;have q5:some (aZ.bC (bM vB 0 du) du.length true)=some (aZ.bC (bM vB 0 T3) T3.length true):=h5;simp only[p9,aZ.aw.injEq,List.cons.injEq,AV.ck.injEq,AV.aa.injEq,AV.ax.injEq,AV.ai.injEq,AV.ad.injEq,true_and,and_true]at q0;simp only[p9,aZ.aF.injEq,aZ.bC.injEq,and_true]at q1 q2 q3 q4 q5;obtain⟨_,rfl,rfl,rfl,⟨k1,k2⟩,⟨k3,k4⟩,rfl,rfl⟩:=q0;rw[Dz q1,vJ k2 k1,KC k4 k3,qY wF q2.1,qY wF q3.1,qY wF q4.1,qY ag9 q5.1]
def jv(m:Em):AH:=an [
 (0,.aw [.ad 6 m.aM.length 6,.aa m.f.ay.ca,J m.f.ay.ar,J m.f.ay.aC,.ax (aP m.f.aO) m.f.aO.length 4,.ax (bN m.f.aA) m.f.aA.length 6,.aH 2,.aH 3,.aH 4,.aH 5,J m.bT,.ai m.gN] 71),
 (1,.b9 []),(2,.bC (bM J 0 m.gF) m.gF.length true),(3,.bC (bM J 0 m.a8) m.a8.length true),(4,.bC (bM J 0 m.dZ) m.dZ.length true),(5,.bC (bM vB 0 m.du) m.du.length true),(6,.aF (cw m.aM) 50)] 7
theorem aak(m:Em):Mv (bK m) (jv m) 1:=by
 refine⟨⟨cw m.aM,50,by rw[bK,dy];rfl,by show(jv m).bu 6=_;rw[jv,dy];rfl⟩,by rw[jv,dy];rfl,rfl,?_⟩;intro id bW h1 h2 h;have h2:id≠6:=h2;rw[jv,dy]at h;rw[bK,dy];simp only[dq]at h⊢;by_cases h3:id=0
 ·subst h3;simp at h;subst h;exact⟨_,rfl,by simp[lj,iN,fi,lN,an]⟩
 ·rw[aB h3,aB h1]at h;rw[aB h3,aB h1];by_cases h4:id=2
  ·subst h4;simp at h;subst h;exact⟨_,rfl,by simp[lj]⟩
  ·by_cases h5:id=3
   ·subst h5;simp at h;subst h;exact⟨_,rfl,by simp[lj]⟩
   ·by_cases h6:id=4
    ·subst h6;simp at h;subst h;exact⟨_,rfl,by simp[lj]⟩
    ·by_cases h7:id=5
     ·subst h7;simp at h;subst h;exact⟨_,rfl,by simp[lj]⟩
     ·simp[h4,h5,h6,h7,h2]at h
theorem BR(cs:LV)(off:Nat):bQ Z 3 cs off=cs[off]? :=by kernel_rfl
theorem Iu(cs:LV)(off:Nat):bQ Z 2 cs off=cs[off]? :=by kernel_rfl
def gM(c:cn)(i:a9):cn:=
 if i.op=10 then
  match c.getLast? with
  |some j=>if j.op=10 then c.dropLast++[⟨j.op,j.r,j.a,wI (j.n+i.n),j.cH,j.ar⟩]else c++[i]
  |none=>c++[i]
 else c++[i]
def Em.aE(m:Em)(i:a9):Em:=⟨gM m.aM i,m.f,m.gF,m.a8,m.dZ,m.du,m.bT,m.gN⟩
def aag:dp (Em×a9)where
 ba w args H:=args=[.ab 0 0,.au (cb w.2)]∧H=bK w.1∧w.1.aM.length<65536
 v w:=.aJ []
 aN w:=jv (w.1.aE w.2)
def Em.bq(m:Em):Em:=⟨m.aM,m.f,m.gF,m.a8,m.dZ,m.du,wI (m.bT+1),m.gN||decide (wI (m.bT+1)>4096)⟩
def Kk:dp Em where
 ba m args H:=args=[.ab 0 0]∧H=bK m
 v m:=J m.bq.bT
 aN m:=bK m.bq
theorem ajL:aag.dx:=by rintro⟨m,i⟩ ⟨m',i'⟩ args H ⟨h1,h2,_⟩ ⟨h3,h4,_⟩;simp only at h1 h2 h3 h4;rw[h1]at h3;rw[h2]at h4;have:=GQ h4;subst this;simp only[List.cons.injEq,AV.au.injEq,true_and,and_true]at h3;rw[Dy h3]
theorem ai2:Kk.dx:=by rintro m m' args H ⟨_,h2⟩ ⟨_,h4⟩;rw[h2]at h4;rw[GQ h4]
def cZ(_:LV)(_:AH):Bool:=true
def OK:Ev.bz:=cz 26 (cM aag ajL cZ) OI
def OL:Ev.bz:=cz 101 (cM Kk ai2 cZ) OK
theorem afM(m:Em)(i:a9)(L:LT)(Q:QT):
 b8 Z OI (fun _=>[]) L Q 1000 26 [.ab 0 0,.au (cb i)] (bK m)=(
 ah (i.op==10) (ah (decide (Int.ofNat m.aM.length>0)) (∃aD:Nat,wI (Int.ofNat m.aM.length-1)=(aD:Int)∧aD<m.aM.length∧(∃n:Int,bQ Z 3 (cw m.aM) (aD*6+0)=some (J n:AV)∧ah (n==10) (∃bU:Nat,wI (Int.ofNat m.aM.length-1)=(bU:Int)∧bU<m.aM.length∧(∃aL:Int,bQ Z 2 (cw m.aM) (bU*6+3)=some (J aL:AV)∧(∃cd:Nat,wI (Int.ofNat m.aM.length-1)=(cd:Int)∧cd<m.aM.length∧cd*6+3+1<=(cw m.aM).length∧Q (.aJ []) (an [(0,.aw [.ad 1 m.aM.length 6,.aa m.f.ay.ca,J m.f.ay.ar,J m.f.ay.aC,.ax (aP m.f.aO) m.f.aO.length 4,.ax (bN m.f.aA) m.f.aA.length 6,.aH 2,.aH 3,.aH 4,.aH 5,J m.bT,.ai m.gN] 71),(1,.aF (fY (cw m.aM) (cd*6+3) [J (wI (aL+i.n))]) 50),(2,.bC (bM J 0 m.gF) m.gF.length true),(3,.bC (bM J 0 m.a8) m.a8.length true),(4,.bC (bM J 0 m.dZ) m.dZ.length true),(5,.bC (bM vB 0 m.du) m.du.length true)] 6)))) (((cw m.aM).length=m.aM.length*6∧m.aM.length+1<=65536∧true=true∧true=true)∧Q (.aJ []) (an [(0,.aw [.ad 6 (m.aM.length+1) 6,.aa m.f.ay.ca,J m.f.ay.ar,J m.f.ay.aC,.ax (aP m.f.aO) m.f.aO.length 4,.ax (bN m.f.aA) m.f.aA.length 6,.aH 2,.aH 3,.aH 4,.aH 5,J m.bT,.ai m.gN] 71),(1,.b9 []),(2,.bC (bM J 0 m.gF) m.gF.length true),(3,.bC (bM J 0 m.a8) m.a8.length true),(4,.bC (bM J 0 m.dZ) m.dZ.length true),(5,.bC (bM vB 0 m.du) m.du.length true),(6,.aF (cw m.aM++cb i) 50)] 7)))) (((cw m.aM).length=m.aM.length*6∧m.aM.length+1<=65536∧true=true∧true=true)∧Q (.aJ []) (an [(0,.aw [.ad 6 (m.aM.length+1) 6,.aa m.f.ay.ca,J m.f.ay.ar,J m.f.ay.aC,.ax (aP m.f.aO) m.f.aO.length 4,.ax (bN m.f.aA) m.f.aA.length 6,.aH 2,.aH 3,.aH 4,.aH 5,J m.bT,.ai m.gN] 71),(1,.b9 []),(2,.bC (bM J 0 m.gF) m.gF.length true),(3,.bC (bM J 0 m.a8) m.a8.length true),(4,.bC (bM J 0 m.dZ) m.dZ.length true),(5,.bC (bM vB 0 m.du) m.du.length true),(6,.aF (cw m.aM++cb i) 50)] 7))) (((cw m.aM).length=m.aM.length*6∧m.aM.length+1<=65536∧true=true∧true=true)∧Q (.aJ []) (an [(0,.aw [.ad 6 (m.aM.length+1) 6,.aa m.f.ay.ca,J m.f.ay.ar,J m.f.ay.aC,.ax (aP m.f.aO) m.f.aO.length 4,.ax (bN m.f.aA) m.f.aA.length 6,.aH 2,.aH 3,.aH 4,.aH 5,J m.bT,.ai m.gN] 71),(1,.b9 []),(2,.bC (bM J 0 m.gF) m.gF.length true),(3,.bC (bM J 0 m.a8) m.a8.length true),(4,.bC (bM J 0 m.dZ) m.dZ.length true),(5,.bC (bM vB 0 m.du) m.du.length true),(6,.aF (cw m.aM++cb i) 50)] 7))):=by kernel_rfl
theorem apX(m:Em)(L:LT)(Q:QT):
 b8 Z OK (fun _=>[]) L Q 1000 101 [.ab 0 0] (bK m)=(
 ah (decide (wI (m.bT+1)>4096)) (Q (J (wI (m.bT+1))) (an [(0,.aw [.ad 1 m.aM.length 6,.aa m.f.ay.ca,J m.f.ay.ar,J m.f.ay.aC,.ax (aP m.f.aO) m.f.aO.length 4,.ax (bN m.f.aA) m.f.aA.length 6,.aH 2,.aH 3,.aH 4,.aH 5,J (wI (m.bT+1)),.ai true] 71),(1,.aF (cw m.aM) 50),(2,.bC (bM J 0 m.gF) m.gF.length true),(3,.bC (bM J 0 m.a8) m.a8.length true),(4,.bC (bM J 0 m.dZ) m.dZ.length true),(5,.bC (bM vB 0 m.du) m.du.length true)] 6)) (Q (J (wI (m.bT+1))) (an [(0,.aw [.ad 1 m.aM.length 6,.aa m.f.ay.ca,J m.f.ay.ar,J m.f.ay.aC,.ax (aP m.f.aO) m.f.aO.length 4,.ax (bN m.f.aA) m.f.aA.length 6,.aH 2,.aH 3,.aH 4,.aH 5,J (wI (m.bT+1)),.ai m.gN] 71),(1,.aF (cw m.aM) 50),(2,.bC (bM J 0 m.gF) m.gF.length true),(3,.bC (bM J 0 m.a8) m.a8.length true),(4,.bC (bM J 0 m.dZ) m.dZ.length true),(5,.bC (bM vB 0 m.du) m.du.length true)] 6))):=by kernel_rfl
theorem aae{c:cn}{i:a9}(h:i.op≠10):gM c i=c++[i]:=by simp[gM,h]
theorem aaf{i:a9}:gM [] i=[i]:=by simp[gM]
theorem Kz{d:cn}{j i:a9}(h:i.op=10):gM (d++[j]) i=if j.op=10 then d++[⟨j.op,j.r,j.a,wI (j.n+i.n),j.cH,j.ar⟩]else d++[j]++[i]:=by simp[gM,h]
theorem AM(c:cn)(i:a9):(gM c i).length<=c.length+1:=by
 rcases List.eq_nil_or_concat c with rfl|⟨d,j,rfl⟩
 ·simp[aaf]
 ·by_cases h:i.op=10
  ·rw[List.concat_eq_append,Kz h];split<;>simp
  ·rw[aae h];simp
theorem DA(d:cn)(j:a9):cw (d++[j])=cw d++cb j:=by rw[KE];simp[cw]
theorem asE(m:Em)(i:a9)(hl:m.aM.length<65536):dT Z 26 [.ab 0 0,.au (cb i)] (bK m) (.aJ []) (jv (m.aE i)):=by
 obtain⟨c,f,count,a8,dZ,du,next,gN⟩:=m;simp only at hl;have bX:(cw c).length=c.length*6:=xg c;have uo:gM c i=c++[i]->∀x:Prop,x->iS (.aJ []) (jv (Em.aE ⟨c,f,count,a8,dZ,du,next,gN⟩ i)) (.aJ []) (an [(0,.aw [.ad 6 (c.length+1) 6,.aa f.ay.ca,J f.ay.ar,J f.ay.aC,.ax (aP f.aO) f.aO.length 4,.ax (bN f.aA) f.aA.length 6,.aH 2,.aH 3,.aH 4,.aH 5,J next,.ai gN] 71),(1,.b9 []),(2,.bC (bM J 0 count) count.length true),(3,.bC (bM J 0 a8) a8.length true),(4,.bC (bM J 0 dZ) dZ.length true),(5,.bC (bM vB 0 du) du.length true),(6,.aF (cw c++cb i) 50)] 7):=by intro h x _;refine⟨rfl,?_⟩;rw[Em.aE,h,jv];simp only[bI,dv,fk,DA]
 by_cases hb:i.op=10∧∃d j,c=d++[j]∧j.op=10
 ·obtain⟨hi,d,j,rfl,hj⟩:=hb;refine Rr (v:=.aJ []) (H:=bK (Em.aE ⟨d++[j],f,count,a8,dZ,du,next,gN⟩ i)) ?_ (aak _) (by simp[fi,iN]) (fB _);refine eS OJ 1000 (fun _=>[]) 53 (by kernel_rfl) ?_;rw[afM];simp only;have bF:(d++[j]).length=d.length+1:=by simp
  have e1:wI (Int.ofNat (d++[j]).length-1)=((d.length:Nat):Int):=by rw[bF]at hl⊢;rw[cX (by simp only[k_];omega) (by simp only[k_];omega)];simp
  have hd:(cw d).length=d.length*6:=xg d;have g0:bQ Z 3 (cw (d++[j])) (d.length*6+0)=some (J j.op):=by rw[BR,DA,Iy (by omega)];simp[hd,cb]
  have g3:bQ Z 2 (cw (d++[j])) (d.length*6+3)=some (J j.n):=by rw[Iu,DA,Iy (by omega)];simp[hd,cb]
  refine aI.2 ⟨fun _=>aI.2 ⟨fun _=>?_,fun h=>?_⟩,fun h=>?_⟩
  ·refine⟨d.length,e1,by simp,j.op,g0,aI.2 ⟨fun _=>?_,fun h=>?_⟩⟩
   ·refine⟨d.length,e1,by simp,j.n,g3,d.length,e1,by simp,by rw[bX,bF];omega,rfl,?_⟩;have:cw (gM (d++[j]) i)=fY (cw (d++[j])) (d.length*6+3) [J (wI (j.n+i.n))]:=by
     rw[Kz hi,aY hj,DA,DA];have:cb j=[J j.op,J j.r,J j.a]++[J j.n,.aa j.cH,J j.ar]:=rfl;have e2:cw d++cb j=(cw d++[J j.op,J j.r,J j.a])++[J j.n,.aa j.cH,J j.ar]:=by rw[this,nG]
     unfold fY;rw[e2,List.take_left' (by simp[hd]),List.drop_append];simp[hd,cb]
    rw[Em.aE,bK];simp only[this];have e3:(gM (d++[j]) i).length=(d++[j]).length:=by rw[Kz hi,aY hj];simp
    rw[e3]
   ·simp[hj]at h
  ·simp at h
  ·simp[hi]at h
 ·refine eS OJ 1000 (fun _=>[]) 53 (by kernel_rfl) ?_;rw[afM];simp only;have Sm:((cw c).length=c.length*6)∧(c.length+1<=65536)∧True∧True:=⟨bX,by omega,trivial,trivial⟩;refine aI.2 ⟨fun h=>aI.2 ⟨fun h2=>?_,fun h2=>?_⟩,fun h=>?_⟩
  ·have h:i.op=10:=by simpa using h
   rcases List.eq_nil_or_concat c with rfl|⟨d,j,rfl⟩
   ·simp at h2
   ·rw[List.concat_eq_append]at*;have hj:j.op≠10:=fun e=>hb ⟨h,d,j,rfl,e⟩
    have bF:(d++[j]).length=d.length+1:=by simp
    have e1:wI (Int.ofNat (d++[j]).length-1)=((d.length:Nat):Int):=by rw[bF]at hl⊢;rw[cX (by simp only[k_];omega) (by simp only[k_];omega)];simp
    have hd:(cw d).length=d.length*6:=xg d;have g0:bQ Z 3 (cw (d++[j])) (d.length*6+0)=some (J j.op):=by rw[BR,DA,Iy (by omega)];simp[hd,cb]
    refine⟨d.length,e1,by simp,j.op,g0,aI.2 ⟨fun h3=>?_,fun _=>?_⟩⟩
    ·exact absurd (by simpa using h3) hj
    ·exact⟨Sm,uo (by rw[Kz h,aB hj]) True trivial⟩
  ·have h2:c=[]:=by simpa using h2
   subst h2;exact⟨Sm,uo aaf True trivial⟩
  ·have h:i.op≠10:=by simpa using h
   exact⟨Sm,uo (aae h) True trivial⟩
theorem Xt:bm Z OK:=by refine de OJ ?_;rintro⟨m,i⟩ args H ⟨rfl,rfl,hl⟩;exact asE m i hl
theorem Xu:bm Z OL:=by
 refine de Xt ?_;rintro m args H ⟨rfl,rfl⟩;refine eS Xt 1000 (fun _=>[]) 22 (by kernel_rfl) ?_;rw[apX];refine aI.2 ⟨fun h=>?_,fun h=>?_⟩
 ·refine⟨rfl,?_⟩;simp only[Kk,Em.bq,bK,h,Bool.or_true]
 ·refine⟨rfl,?_⟩;simp only[Kk,Em.bq,bK,h,Bool.or_false]
def Em.jV(m:Em)(v:Int):Bool:=(lk v m.a8).isNone&&(lk v m.dZ).isNone
def Em.ej(m:Em)(v:Int):Int:=
 match lk v m.a8 with
 |some k=>wI (-k)
 |none=>match lk v m.dZ with
  |some r=>r
  |none=>wI (m.bT+1)
def Em.eH(m:Em)(v:Int):Em:=⟨m.aM,m.f,m.gF,m.a8,bif m.jV v then up v (wI (m.bT+1)) m.dZ else m.dZ,m.du,
 bif m.jV v then wI (m.bT+1)else m.bT,bif m.jV v then m.gN||decide (wI (m.bT+1)>4096)else m.gN⟩
def Vy:dp (Em×Int)where
 ba w args H:=args=[.ab 0 0,J w.2]∧H=bK w.1
 v w:=J (w.1.ej w.2)
 aN w:=bK (w.1.eH w.2)
theorem apr:Vy.dx:=by rintro⟨m,v⟩ ⟨m',v'⟩ args H ⟨h1,h2⟩ ⟨h3,h4⟩;simp only at h1 h2 h3 h4;rw[h2]at h4;rw[h1]at h3;rw[GQ h4];cases h3;rfl
def Em.l9(m:Em)(v:Int):Em:=⟨m.aM,m.f,m.gF,m.a8,m.dZ,up v true m.du,m.bT,m.gN⟩
def Em.ei(m:Em)(v:Int):Bool:=(lk v m.du).getD false
def Em.gO(m:Em)(v first we a:Int):Em:=((m.eH v).aE ⟨bif m.ei v then we else first,m.ej v,a,0,[],0⟩).l9 v
def WT:dp (Em×Int×Int×Int×Int)where
 ba w args H:=args=[.ab 0 0,J w.2.1,J w.2.2.1,J w.2.2.2.1,J w.2.2.2.2]∧H=bK w.1∧w.1.aM.length<65536
 v w:=.aJ []
 aN w:=jv (w.1.gO w.2.1 w.2.2.1 w.2.2.2.1 w.2.2.2.2)
theorem awg:WT.dx:=by rintro⟨m,v,a,b,c⟩ ⟨m',v',a',b',c'⟩ args H ⟨h1,h2,_⟩ ⟨h3,h4,_⟩;simp only at h1 h2 h3 h4;rw[h2]at h4;rw[h1]at h3;rw[GQ h4];cases h3;rfl
def OM:Ev.bz:=cz 102 (cM Vy apr cZ) OL
def ON:Ev.bz:=cz 98 (cM WT awg cZ) OM
theorem apY(m:Em)(v:Int)(L:LT)(Q:QT):
 b8 Z OL (fun _=>[]) L Q 1000 102 [.ab 0 0,J v] (bK m)=(
 ∃n:Int,∃b:Bool,fX Z 2 3 (bM J 0 m.a8) (J v)=some (J n,b)∧ah b (Q (J (wI (0-n))) (bK m)) (∃aL:Int,∃jD:Bool,fX Z 2 3 (bM J 0 m.dZ) (J v)=some (J aL,jD)∧ah (!jD) (∃w:Em,(([.ab 0 0]:LV)=[.ab 0 0]∧bK m=bK w)∧(∃bw:List (AV×AV×Nat),∃c':Nat,jc Z 2 (bM J 0 w.bq.dZ) w.bq.dZ.length (J v) (J w.bq.bT)=some (bw,c')∧Q (J w.bq.bT) (an [(0,.aw [.ad 1 w.bq.aM.length 6,.aa w.bq.f.ay.ca,J w.bq.f.ay.ar,J w.bq.f.ay.aC,.ax (aP w.bq.f.aO) w.bq.f.aO.length 4,.ax (bN w.bq.f.aA) w.bq.f.aA.length 6,.aH 2,.aH 3,.aH 4,.aH 5,J w.bq.bT,.ai w.bq.gN] 71),(1,.aF (cw w.bq.aM) 50),(2,.bC (bM J 0 w.bq.gF) w.bq.gF.length true),(3,.bC (bM J 0 w.bq.a8) w.bq.a8.length true),(4,.bC bw c' true),(5,.bC (bM vB 0 w.bq.du) w.bq.du.length true)] 6))) (Q (J aL) (bK m)))):=by kernel_rfl
theorem auP(m:Em)(v first we a:Int)(L:LT)(Q:QT):
 b8 Z OM (fun _=>[]) L Q 1000 98 [.ab 0 0,J v,J first,J we,J a] (bK m)=(
 ∃b:Bool,∃jD:Bool,fX Z 2 4 (bM vB 0 m.du) (J v)=some (.ai b,jD)∧ah (!b) (∃w:Em×Int,(([.ab 0 0,J v]:LV)=[.ab 0 0,J w.2]∧bK m=bK w.1)∧(∃ae:Em×a9,(([.ab 0 0,.au [J first,J (w.1.ej w.2),J a,J 0,.aa [],J 0]]:LV)=[.ab 0 0,.au (cb ae.2)]∧bK (w.1.eH w.2)=bK ae.1∧ae.1.aM.length<65536)∧(∃bw:List (AV×AV×Nat),∃c':Nat,jc Z 2 (bM vB 0 (ae.1.aE ae.2).du) (ae.1.aE ae.2).du.length (J v) (.ai true)=some (bw,c')∧Q (.aJ []) (an [(0,.aw [.ad 6 (ae.1.aE ae.2).aM.length 6,.aa (ae.1.aE ae.2).f.ay.ca,J (ae.1.aE ae.2).f.ay.ar,J (ae.1.aE ae.2).f.ay.aC,.ax (aP (ae.1.aE ae.2).f.aO) (ae.1.aE ae.2).f.aO.length 4,.ax (bN (ae.1.aE ae.2).f.aA) (ae.1.aE ae.2).f.aA.length 6,.aH 2,.aH 3,.aH 4,.aH 5,J (ae.1.aE ae.2).bT,.ai (ae.1.aE ae.2).gN] 71),(1,.b9 []),(2,.bC (bM J 0 (ae.1.aE ae.2).gF) (ae.1.aE ae.2).gF.length true),(3,.bC (bM J 0 (ae.1.aE ae.2).a8) (ae.1.aE ae.2).a8.length true),(4,.bC (bM J 0 (ae.1.aE ae.2).dZ) (ae.1.aE ae.2).dZ.length true),(5,.bC bw c' true),(6,.aF (cw (ae.1.aE ae.2).aM) 50)] 7)))) (∃w:Em×Int,(([.ab 0 0,J v]:LV)=[.ab 0 0,J w.2]∧bK m=bK w.1)∧(∃ae:Em×a9,(([.ab 0 0,.au [J we,J (w.1.ej w.2),J a,J 0,.aa [],J 0]]:LV)=[.ab 0 0,.au (cb ae.2)]∧bK (w.1.eH w.2)=bK ae.1∧ae.1.aM.length<65536)∧(∃bw:List (AV×AV×Nat),∃c':Nat,jc Z 2 (bM vB 0 (ae.1.aE ae.2).du) (ae.1.aE ae.2).du.length (J v) (.ai true)=some (bw,c')∧Q (.aJ []) (an [(0,.aw [.ad 6 (ae.1.aE ae.2).aM.length 6,.aa (ae.1.aE ae.2).f.ay.ca,J (ae.1.aE ae.2).f.ay.ar,J (ae.1.aE ae.2).f.ay.aC,.ax (aP (ae.1.aE ae.2).f.aO) (ae.1.aE ae.2).f.aO.length 4,.ax (bN (ae.1.aE ae.2).f.aA) (ae.1.aE ae.2).f.aA.length 6,.aH 2,.aH 3,.aH 4,.aH 5,J (ae.1.aE ae.2).bT,.ai (ae.1.aE ae.2).gN] 71),(1,.b9 []),(2,.bC (bM J 0 (ae.1.aE ae.2).gF) (ae.1.aE ae.2).gF.length true),(3,.bC (bM J 0 (ae.1.aE ae.2).a8) (ae.1.aE ae.2).a8.length true),(4,.bC (bM J 0 (ae.1.aE ae.2).dZ) (ae.1.aE ae.2).dZ.length true),(5,.bC bw c' true),(6,.aF (cw (ae.1.aE ae.2).aM) 50)] 7))))):=by kernel_rfl
theorem Xv:bm Z OM:=by
 refine de Xu ?_;rintro⟨m,v⟩ args H ⟨rfl,rfl⟩;refine eS Xu 1000 (fun _=>[]) 41 (by kernel_rfl) ?_;rw[apY];simp only[Vy,Em.ej,Em.eH,Em.jV];cases hp:lk v m.a8 with
 |some k=>refine⟨k,true,by rw[sq _ nv,hp],aI.2 ⟨fun _=>⟨by rw[Int.zero_sub],rfl⟩,fun h=>by cases h⟩⟩
 |none=>
  refine⟨0,false,by rw[sq _ nv,hp,FY];rfl,aI.2 ⟨fun h=>(by cases h),fun _=>?_⟩⟩;cases ht:lk v m.dZ with
  |some r=>refine⟨r,true,by rw[sq _ nv,ht],aI.2 ⟨fun h=>(by cases h),fun _=>⟨rfl,rfl⟩⟩⟩
  |none=>refine⟨0,false,by rw[sq _ nv,ht,FY];rfl,aI.2 ⟨fun _=>?_,fun h=>(by cases h)⟩⟩;refine⟨m,⟨by trivial,rfl⟩,_,_,qb J nv,rfl,rfl⟩
theorem awi(m:Em)(v first we a:Int)(b:Bool)(hb:m.ei v=b):m.gO v first we a=((m.eH v).aE ⟨bif b then we else first,m.ej v,a,0,[],0⟩).l9 v:=by rw[Em.gO,hb]
theorem OO:bm Z ON:=by
 refine de Xv ?_;rintro⟨m,v,first,we,a⟩ args H ⟨rfl,rfl,hl⟩;refine eS Xv 1000 (fun _=>[]) 35 (by kernel_rfl) ?_;rw[auP];have hk:∃b:Bool,∃jD:Bool,fX Z 2 4 (bM vB 0 m.du) (J v)=some (.ai b,jD)∧m.ei v=b:=by
  rw[sq _ nv];unfold Em.ei;cases lk v m.du with
  |none=>exact⟨false,false,by rw[Xl];rfl,rfl⟩
  |some b=>exact⟨b,true,rfl,rfl⟩
 obtain⟨b,b1,h1,h2⟩:=hk;refine⟨b,b1,h1,?_⟩;simp only[WT];rw[awi m v first we a b h2];refine aI.2 ⟨fun h=>?_,fun h=>?_⟩
 ·have h:b=false:=by simpa using h
  subst h;exact⟨(m,v),⟨rfl,rfl⟩,(m.eH v,⟨first,m.ej v,a,0,[],0⟩),⟨rfl,rfl,hl⟩,_,_,qb vB nv,rfl,rfl⟩
 ·have h:b=true:=by simpa using h
  subst h;exact⟨(m,v),⟨rfl,rfl⟩,(m.eH v,⟨we,m.ej v,a,0,[],0⟩),⟨rfl,rfl,hl⟩,_,_,qb vB nv,rfl,rfl⟩
end
end Go.Cl
