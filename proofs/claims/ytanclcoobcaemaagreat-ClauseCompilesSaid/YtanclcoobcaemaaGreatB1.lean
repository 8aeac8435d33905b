/- Part of a proof of ClauseCompiles. -/
import Derived.Test.YtanclcoobcaemaaGreatA5
import Derived.Test.YtanclcoobcaemaaGreatProg
import Derived.KernelRfl
set_option linter.all false
set_option linter.unusedSectionVars false
set_option maxRecDepth 100000
namespace Go.Cl
open Go.Ev
noncomputable section
abbrev LT:=Tr AV->AH->List cg->Prop
abbrev QT:=AV->AH->Prop
abbrev J(n:Int):AV:=.cM .i64 n
abbrev wI(n:Int):Int:=IntKind.i64.wrap n
inductive aK where
 |mk (kind n:Int) (name:LN) (args:List aK)
 deriving Inhabited
namespace aK
def cY:aK->Int|mk k _ _ _=>k
def n:aK->Int|mk _ n _ _=>n
def fZ:aK->LN|mk _ _ s _=>s
def cK:aK->List aK|mk _ _ _ l=>l
end aK
abbrev bG:=List aK
mutual
def dy:aK->LV
 |.mk k n s l=>[.cM .i64 k,.cM .i64 n,.aa s,.aB (bw l) l.length 4]
def bw:bG->LV
 |[]=>[]
 |t::l=>dy t++bw l
end
def aw9(t:aK):AV:=.aj (dy t)
def axI(l:bG):AV:=.aB (bw l) l.length 4
theorem DY(t:aK):(dy t).length=4:=by cases t;simp[dy]
theorem ajz:∀l:bG,(bw l).length=l.length*4
 |[]=>rfl
 |t::l=>by simp[bw,DY,ajz l];omega
theorem Hn:∀{l:bG} {i:Nat} (h:i<l.length),((bw l).drop (i*4)).take 4=dy l[i]
 |[],i,h=>by simp at h
 |t0::l,0,h=>by simp only[bw,Nat.zero_mul,hI,List.getElem_cons_zero];have:=List.take_left' (l₂:=bw l) (DY t0);exact this
 |t0::l,i+1,h=>by
  have hl:i<l.length:=by simpa using h
  have:=Hn hl;simp only[bw,List.getElem_cons_succ];rw[←this];congr 1;have e:(i+1)*4=(dy t0).length+i*4:=by rw[DY];omega
  rw[e,List.drop_length_add_append]
mutual
theorem tY:∀{t u:aK},dy t=dy u->t=u
 |.mk k n s l,.mk k' n' s' l',h=>by simp only[dy,List.cons.injEq,AV.cM.injEq,AV.aa.injEq,AV.aB.injEq,true_and,and_true]at h;obtain⟨rfl,rfl,rfl,h,hl⟩:=h;rw[wP hl h]
theorem wP:∀{l m:bG},l.length=m.length->bw l=bw m->l=m
 |[],[],_,_=>rfl
 |[],_::_,h,_=>by simp at h
 |_::_,[],h,_=>by simp at h
 |t::l,u::m,hl,h=>by simp only[bw]at h;have h2:=List.append_inj h (by rw[DY,DY]);rw[tY h2.1,wP (by simpa using hl) h2.2]
end
def jA{α:Type}[Inhabited α](f:aK->α)(cells:LV):α:=
 @dite _ (∃t,dy t=cells) (Classical.propDecidable _) (fun h=>f h.choose) (fun _=>default)
theorem DP{α:Type}[Inhabited α](f:aK->α)(t:aK):jA f (dy t)=f t:=by unfold jA;rw[dif_pos ⟨t,rfl⟩];congr 1;exact tY (Exists.choose_spec (⟨t,rfl⟩:∃u,dy u=dy t))
def eQ(n:Nat):Prop:=n<9223372036854775808
mutual
def eN:aK->Prop
 |.mk _ _ s l=>eQ s.length∧eQ l.length∧iS l
def iS:bG->Prop
 |[]=>True
 |t::l=>eN t∧iS l
end
theorem ND:∀{l:bG} {i:Nat} (h:i<l.length),iS l->eN l[i]
 |[],i,h,_=>by simp at h
 |t::l,0,h,ho=>ho.1
 |t::l,i+1,h,ho=>ND (l:=l) (by simpa using h) ho.2
mutual
def cD:aK->Nat
 |.mk _ _ _ l=>1+bh l
def bh:bG->Nat
 |[]=>0
 |t::l=>cD t+bh l
end
theorem Gc:∀{l:bG} {i:Nat} (h:i<l.length),cD l[i]<=bh l
 |[],i,h=>by simp at h
 |t::l,0,h=>by simp only[List.getElem_cons_zero,bh];omega
 |t::l,i+1,h=>by have:=Gc (l:=l) (i:=i) (by simpa using h);simp only[List.getElem_cons_succ,bh];omega
theorem dz{x:Int}(h1: -9223372036854775808<=x)(h2:x<=9223372036854775807):wI x=x:=IntWalk.i64_in x (by omega)
end
end Go.Cl
namespace Go.Cl
open Go.Ev Go.Proofs
variable[Ro]
noncomputable section
def Z:Program:=Tryz.prog
theorem yN:Z.follows .mixedOrders=true:=by kernel_rfl
theorem eS0{P:Program}(dQ:P.follows .mixedOrders=true){S:Ev.bC}(hS:bn P S)(n:Nat)(aE:Nat->LN)(nt:Nat){f:Nat}{args:LV}{H:AH}{v:AV}{H1:AH}(oB:(P.funcs[f]?).map (·.ntmps)=some nt)(h:b_ P S aE (bF P f nt H.bW v H1) (iI v H1) n f args H):eC P f args H v H1:=ajF dQ hS oB h
theorem eS{S:Ev.bC}(hS:bn Z S)(n:Nat)(aE:Nat->LN)(nt:Nat){f:Nat}{args:LV}{H:AH}{v:AV}{H1:AH}:((Z.funcs[f]?).map (·.ntmps)=some nt)->(b_ Z S aE (bF Z f nt H.bW v H1) (iI v H1) n f args H)->eC Z f args H v H1:=eS0 yN hS n aE nt
theorem hD0{P:Program}(dQ:P.follows .mixedOrders=true){S:Ev.bC}(hS:bn P S)(n:Nat)(aE:Nat->LN){f nt m0:Nat}{t:Tr AV}{todo:List cg}{H:AH}{v:AV}{H1:AH}(oB:(P.funcs[f]?).map (·.ntmps)=some nt)(h:cT P S aE (bF P f nt m0 v H1) (iI v H1) n f m0 t todo H):bF P f nt m0 v H1 t H todo:=alq dQ hS oB h
theorem hD{S:Ev.bC}(hS:bn Z S)(n:Nat)(aE:Nat->LN){f nt m0:Nat}{t:Tr AV}{todo:List cg}{H:AH}{v:AV}{H1:AH}:((Z.funcs[f]?).map (·.ntmps)=some nt)->(cT Z S aE (bF Z f nt m0 v H1) (iI v H1) n f m0 t todo H)->bF Z f nt m0 v H1 t H todo:=hD0 yN hS n aE
mutual
def qy:Int->aK->Int
 |left,.mk _ _ _ l=>uQ (left-1) l
def uQ:Int->bG->Int
 |left,[]=>left
 |left,t::l=>if 0<left then uQ (qy left t) l else left
end
mutual
theorem agX:∀(left:Int) (t:aK),1<=left->0<=qy left t∧qy left t<left
 |left,.mk _ _ _ l,h=>by have:=agZ (left-1) l (by omega);simp only[qy];omega
theorem agZ:∀(left:Int) (l:bG),0<=left->0<=uQ left l∧uQ left l<=left
 |left,[],h=>by simp only[uQ];omega
 |left,t::l,h=>by
  simp only[uQ];split
  ·rename_i h0;have h1:=agX left t (by omega);have:=agZ (qy left t) l h1.1;omega
  ·omega
end
def xL(left:Int):AH:=aq [(0,.ay [J left] 3),(1,.ay [.b9 (.func 119) [] [.ad 0 0,.ad 1 0]] 160)] 2
def XR(N:Nat):LV->AH->Option (Prop×AV×AH)
 |[.aj cells,.ad 0 0,.ad 1 0],H=>match H.bD 0 with
  |some (.ay [.cM .i64 left] _)=>some (H=xL left∧(1<=left∧left<=2001)∧∃t,dy t=cells∧eN t∧cD t<N,.aO [],xL (jA (qy left) cells))
  |_=>none
 |_,_=>none
def GK(N:Nat):Ev.bC:=ft 119 (XR N) VP
abbrev Oy x0:=bk [(1,.ad 0 0),(2,.ad 1 0),(3,.ad 2 0),(4,J x0)]
abbrev LJ x0 x1 x2 x3 x4 x5:=aq [(0,.ay [J x0] 3),(1,.ay [.b9 (.func 119) [] [.ad 0 0,.ad 1 0]] 160),(2,.ay [J x1,J x2,.aa x3,.aB x4 x5 4] 42)] 3
theorem av4(k n:Int)(s:LN)(cs:LV)(len:Nat)(left:Int)(N:Nat)(L:LT)(Q:QT):
 b_ Z (GK N) (fun _=>[1,2,3,4]) L Q 1000 119 [.aj [J k,J n,.aa s,.aB cs len 4],.ad 0 0,.ad 1 0] (xL left)=(
 L (Oy 0) (LJ (wI (left-1)) k n s cs len) (ao Z 119 0)):=by kernel_rfl
abbrev Te x0:=aq [(0,.ay [J x0] 3),(1,.ay [.b9 (.func 119) [] [.ad 0 0,.ad 1 0]] 160)] 2
theorem av5(k n i:Int)(s:LN)(cs:LV)(len:Nat)(left:Int)(N:Nat)(L:LT)(Q:QT):
 cT Z (GK N) (fun _=>[1,2,3,4]) L Q 1000 119 2 (Oy i) (ao Z 119 0) (LJ left k n s cs len)=(
 ai (decide (i<Int.ofNat len))
  (ai (decide (left>0))
    (∃aI:Nat,(i=(aI:Int))∧
      (aI<len)∧
      ∃aP:Int,∃bp:Int,∃dO:LN,∃cN:LV,∃cz:Nat,((cs.drop (aI*4)).take 4=[J aP,J bp,.aa dO,.aB cN cz 4])∧
      ((Te left=xL left)∧
      ((1<=left)∧
      left<=2001)∧
      ∃t:aK,(dy t=[J aP,J bp,.aa dO,.aB cN cz 4])∧
      (eN t)∧
      cD t<N)∧
      L (Oy (wI (i+1))) (LJ (jA (qy left) [J aP,J bp,.aa dO,.aB cN cz 4]) k n s cs len) (ao Z 119 0))
    (Q (.aO []) (Te left)))
  (Q (.aO []) (Te left))):=by kernel_rfl
theorem av3{k n:Int}{s:LN}{l:bG}{N:Nat}{aw:Int}(hS:bn Z (GK N))(hl:eQ l.length)(ho:iS l)(hN:bh l<N):
 ∀p:Nat×Int,(p.1<=l.length∧0<=p.2∧p.2<=2001∧uQ p.2 (l.drop p.1)=aw)->
 bF Z 119 25 2 (.aO []) (xL aw) (Oy (p.1:Int))
  (LJ p.2 k n s (bw l) l.length) (ao Z 119 0):=by
 refine cX (fun p=>l.length-p.1) _ _ _ _ ?_;rintro⟨i,left⟩ ⟨hi,h0,h1,hf⟩ ih;simp only at hi h0 h1 hf ih⊢;refine hD hS 1000 (fun _=>[1,2,3,4]) (by kernel_rfl) ?_;rw[av5];refine aY.2 ⟨fun an=>?_,fun a8=>?_⟩
 ·have an:i<l.length:=by simpa using an
  have s7:l.drop i=l[i]::l.drop (i+1):=List.drop_eq_getElem_cons an;rw[s7,uQ]at hf;refine aY.2 ⟨fun uh=>?_,fun Mm=>?_⟩
  ·have uh:0<left:=by simpa using uh
   rw[aN uh]at hf;have bU:=Hn an;have bq:=ND an ho;have cW:=Gc an;have hw:=agX left l[i] (by omega);generalize l[i]=u at bU bq cW hw hf;obtain⟨k',n',s',l'⟩:=u;refine⟨i,rfl,an,k',n',s',bw l',l'.length,bU,⟨rfl,⟨by omega,h1⟩,_,rfl,bq,by omega⟩,?_⟩;have e1:wI ((i:Int)+1)=((i+1:Nat):Int):=by unfold eQ at hl;rw[dz (by omega) (by omega)];simp
   have e2:jA (qy left) [J k',J n',.aa s',.aB (bw l') l'.length 4]=qy left (.mk k' n' s' l'):=DP (qy left) (.mk k' n' s' l');rw[e1,e2];exact ih (i+1,qy left (.mk k' n' s' l')) ⟨by simp;omega,hw.1,by simp;omega,hf⟩ (by simp;omega)
  ·have Mm:¬0<left:=by simpa using Mm
   rw[az Mm]at hf;subst hf;exact⟨rfl,rfl⟩
 ·have a8:l.length<=i:=by simpa using a8
  have:l.drop i=[]:=dV a8;rw[this,uQ]at hf;subst hf;exact⟨rfl,rfl⟩
theorem av2{k n:Int}{s:LN}{l:bG}{N:Nat}{left:Int}(hS:bn Z (GK N))(h1:1<=left)(h2:left<=2001)(bq:eN (.mk k n s l))(hN:bh l<N):
 eC Z 119 [.aj (dy (.mk k n s l)),.ad 0 0,.ad 1 0] (xL left) (.aO []) (xL (qy left (.mk k n s l))):=by
 refine eS hS 1000 (fun _=>[1,2,3,4]) 25 (by kernel_rfl) ?_;rw[dy,av4,dz (by omega) (by omega)];exact av3 hS bq.2.1 bq.2.2 hN (0,left-1) ⟨by simp,by simp;omega,by simp;omega,rfl⟩
theorem ahx:∀N,bn Z (GK N):=by
 refine WN ad1 ?_ ?_
 ·intro args H p v H' h;unfold XR at h;split at h
  ·split at h
   ·cases h;rintro⟨_,_,t,_,_,h⟩;omega
   ·cases h
  ·cases h
 ·intro N hS args H p v H' h hp;unfold XR at h;split at h
  ·split at h
   ·rename_i left _;cases h;obtain⟨rfl,⟨h1,h2⟩,⟨k,n,s,l⟩,rfl,bq,cW⟩:=hp;rw[DP];simp only[cD]at cW;exact av2 hS h1 h2 bq (by omega)
   ·cases h
  ·cases h
end
end Go.Cl
namespace Go.Cl
open Go.Ev
variable[Ro]
noncomputable def ax:AH:=aq [] 0
noncomputable def fy(s:LV->Option (Prop×AV)):LV->AH->Option (Prop×AV×AH):=fun args H=>
 match s args with
 |some (p,v)=>some (H=ax∧p,v,ax)
 |none=>none
theorem Wy{s:LV->Option (Prop×AV)}{args:LV}{H:AH}{p:Prop}{v:AV}{H':AH}(h:fy s args H=some (p,v,H')):∃q,s args=some (q,v)∧H'=ax∧(p->H=ax∧q):=by
 unfold fy at h;split at h
 ·rename_i q v' hs;cases h;exact⟨q,hs,rfl,id⟩
 ·cases h
theorem jM{P:Program}{S:Ev.bC}{f:FuncId}{s:LV->Option (Prop×AV)}(hS:bn P S)(h:∀args q v,s args=some (q,v)->q->eC P f args ax v ax)(c6:f≠999999:=by first|assumption|decide):bn P (ft f (fy s) S):=by
 refine Ba hS fun args H p v H' h1 hp=>?_
 obtain⟨q,h2,rfl,h3⟩:=Wy h1;obtain⟨rfl,hq⟩:=h3 hp;exact h _ _ _ h2 hq
theorem Ww{P:Program}{S:Ev.bC}{f:FuncId}{sN:Nat->LV->Option (Prop×AV)}(hS:bn P S)(h0:∀args q v,sN 0 args=some (q,v)->¬q)
 (k6:∀N,bn P (ft f (fy (sN N)) S)->∀args q v,sN (N+1) args=some (q,v)->q->eC P f args ax v ax) (c6:f≠999999:=by first|assumption|decide):∀N,bn P (ft f (fy (sN N)) S):=by
 refine WN (sN:=fun N=>fy (sN N)) hS ?_ ?_
 ·intro args H p v H' h hp;obtain⟨q,h2,_,h3⟩:=Wy h;exact h0 _ _ _ h2 (h3 hp).2
 ·intro N hN args H p v H' h hp;obtain⟨q,h2,rfl,h3⟩:=Wy h;obtain⟨rfl,hq⟩:=h3 hp;exact k6 N hN _ _ _ h2 hq
theorem DD{S:Ev.bC}{f:FuncId}{s:LV->AH->Option (Prop×AV×AH)}{args:LV}{H:AH}{x:Prop×AV×AH}(h:s args H=some x):rQ (ft f s S) f args H=some x:=by simp only[rQ,ft,cB,Nat.beq_refl,cond_true,RW,h,wJ]
theorem am2{P:Program}{S:Ev.bC}{f:FuncId}{sN:Nat->LV->AH->Option (Prop×AV×AH)}{s:LV->AH->Option (Prop×AV×AH)}(hS:bn P S)(h:∀N,bn P (ft f (sN N) S))
 (hs:∀args H p v H',s args H=some (p,v,H')->p->∃N q,sN N args H=some (q,v,H')∧q) (c6:f≠999999:=by first|assumption|decide):bn P (ft f s S):=by
 refine Ba hS fun args H p v H' h1 hp=>?_
 obtain⟨N,q,h2,hq⟩:=hs _ _ _ _ _ h1 hp;exact(h N).1 f args H q v H' c6 (DD h2) hq
theorem Wv{P:Program}{S:Ev.bC}{f:FuncId}{sN:Nat->LV->Option (Prop×AV)}{s:LV->Option (Prop×AV)}(hS:bn P S)(h:∀N,bn P (ft f (fy (sN N)) S))
 (hs:∀args q v,s args=some (q,v)->q->∃N q',sN N args=some (q',v)∧q') (c6:f≠999999:=by first|assumption|decide):bn P (ft f (fy s) S):=by
 refine jM hS fun args q v h1 hq=>?_
 obtain⟨N,q',h2,Ih⟩:=hs _ _ _ h1 hq;refine(h N).1 f args ax (ax=ax∧q') v ax c6 (DD ?_) ⟨rfl,Ih⟩;simp only[fy,h2]
theorem kJ:∀t:aK,1<=cD t
 |.mk _ _ _ l=>by simp only[cD];omega
mutual
theorem agW:∀(left:Int) (t:aK),1<=left->qy left t=max 0 (left-cD t)
 |left,.mk _ _ _ l,h=>by simp only[qy,cD];rw[agY _ l (by omega)];omega
theorem agY:∀(left:Int) (l:bG),0<=left->uQ left l=max 0 (left-bh l)
 |left,[],h=>by simp only[uQ,bh];omega
 |left,t::l,h=>by
  simp only[uQ,bh];have:=kJ t;split
  ·rw[agW left t (by omega),agY _ l (by omega)];omega
  ·omega
end
def dH(t:aK):Int:=min (cD t) 2001
def sk(k n:Int)(s:LN)(len:Nat):Bool:=
 if k=0 then decide (0<=n∧n<=1099511627776∧s.length=0∧len=0)
 else if k=1 then decide (s.length=0∧len=0)
 else if k=2 then decide (n=0∧s.length<=100∧len=0)
 else if k=3 then decide (n=0∧s.length<=100∧0<len∧len<=8)
 else false
mutual
def lL:aK->Bool
 |.mk k n s l=>sk k n s l.length&&n_ l
def n_:bG->Bool
 |[]=>true
 |t::l=>lL t&&n_ l
end
def jX(t:aK):Bool:=decide (cD t<=2000)&&lL t
end Go.Cl
namespace Go.Cl
open Go.Ev
variable[Ro]
def Fl(N:Nat)(cells:LV):Prop:=∃t,dy t=cells∧eN t∧cD t<N
def o_(cells:LV):Prop:=∃t,dy t=cells∧eN t
theorem nY{α:Type}[Inhabited α](f:aK->α)(k n:Int)(s:LN)(l:bG):jA f [J k,J n,.aa s,.aB (bw l) l.length 4]=f (.mk k n s l):=DP f (.mk k n s l)
theorem U1{N:Nat}{k n:Int}{s:LN}{l:bG}(h:eN (.mk k n s l))(h2:cD (.mk k n s l)<N):Fl N [J k,J n,.aa s,.aB (bw l) l.length 4]:=⟨_,rfl,h,h2⟩
theorem um{k n:Int}{s:LN}{l:bG}(h:eN (.mk k n s l)):o_ [J k,J n,.aa s,.aB (bw l) l.length 4]:=⟨_,rfl,h⟩
theorem iA{i n:Nat}(h:eQ n)(hi:i<n):wI ((i:Int)+1)=((i+1:Nat):Int):=by unfold eQ at h;rw[dz (by omega) (by omega)];simp
theorem I4{l:bG}{i:Nat}(h:i<l.length){N:Nat}(ho:iS l)(hN:bh l<N){P:aK->Prop}(hp:P l[i]):
 ∃k n s m,P (.mk k n s m)∧l[i]=.mk k n s m∧((bw l).drop (i*4)).take 4=[J k,J n,.aa s,.aB (bw m) m.length 4]∧eN (.mk k n s m)∧cD (.mk k n s m)<N:=by
 have bU:=Hn h;have bq:=ND h ho;have cW:=Gc h;generalize l[i]=u at*;obtain⟨k,n,s,m⟩:=u;exact⟨k,n,s,m,hp,rfl,bU,bq,by omega⟩
theorem dv{α:Type}{l:List α}{i:Nat}(h:i<l.length):l.drop i=l[i]::l.drop (i+1):=List.drop_eq_getElem_cons h
end Go.Cl
namespace Go.Cl
open Go.Ev Go.Proofs
variable[Ro]
noncomputable section
def agV:LV->AH->Option (Prop×AV×AH)
 |[.aj cells,.ad 0 0,.ad 1 0],H=>match H.bD 0 with
  |some (.ay [.cM .i64 left] _)=>some (H=xL left∧(1<=left∧left<=2001)∧o_ cells,.aO [],xL (jA (qy left) cells))
  |_=>none
 |_,_=>none
def B1:Ev.bC:=ft 119 agV VP
def Oe:LV->Option (Prop×AV)
 |[.aj cells]=>some (o_ cells,J (jA dH cells))
 |_=>none
def B2:Ev.bC:=ft 90 (fy Oe) B1
def ad3:LV->Option (Prop×AV)
 |[.aj [.cM .i64 k,.cM .i64 n,.aa s,.aB cs len 4]]=>some (True,.aA (sk k n s len))
 |_=>none
def B3:Ev.bC:=ft 117 (fy ad3) B2
def Au(N:Nat):LV->Option (Prop×AV)
 |[.aj cells]=>some (Fl N cells,.aA (jA lL cells))
 |_=>none
def Nv:LV->Option (Prop×AV)
 |[.aj cells]=>some (o_ cells,.aA (jA lL cells))
 |_=>none
def J3(N:Nat):Ev.bC:=ft 87 (fy (Au N)) B3
def B4:Ev.bC:=ft 87 (fy Nv) B3
def J4(N:Nat):Ev.bC:=ft 118 (fy (Au N)) B4
def B5:Ev.bC:=ft 118 (fy Nv) B4
def KZ(N:Nat):LV->Option (Prop×AV)
 |[.aj cells,.cM .i64 dZ]=>some (Fl N cells∧1<=dZ∧dZ<=2001,J (jA (fun t=>min (cD t) dZ) cells))
 |_=>none
def aaw:LV->Option (Prop×AV)
 |[.aj cells,.cM .i64 dZ]=>some (o_ cells∧1<=dZ∧dZ<=2001,J (jA (fun t=>min (cD t) dZ) cells))
 |_=>none
def J5(N:Nat):Ev.bC:=ft 51 (fy (KZ N)) B5
def B6:Ev.bC:=ft 51 (fy aaw) B5
def B7:Ev.bC:=ft 13 (fy Oe) B6
def O0:LV->Option (Prop×AV)
 |[.aj cells]=>some (o_ cells,.aA (jA jX cells))
 |_=>none
def B8:Ev.bC:=ft 46 (fy O0) B7
def B9:Ev.bC:=ft 89 (fy O0) B8
theorem aud(k n:Int)(s:LN)(cs:LV)(len:Nat)(L:LT)(Q:QT):
 b_ Z B1 (fun _=>[]) L Q 1000 90 [.aj [J k,J n,.aa s,.aB cs len 4]] ax=(
 (aq [(0,.ay [J 2001] 3),(1,.ay [.b9 (.func 119) [] [.ad 0 0,.ad 1 0]] 160)] 2=xL 2001∧((1:Int)<=2001∧(2001:Int)<=2001)∧o_ [J k,J n,.aa s,.aB cs len 4])∧Q (J (wI (2001-jA (qy 2001) [J k,J n,.aa s,.aB cs len 4]))) ax):=by kernel_rfl
theorem aqt(k n:Int)(s:LN)(cs:LV)(len:Nat)(L:LT)(Q:QT):
 b_ Z B2 (fun _=>[]) L Q 1000 117 [.aj [J k,J n,.aa s,.aB cs len 4]] ax=(
 ai (k==0) (ai (decide (n>=0)) (ai (decide (n<=1099511627776)) (ai (dF s []) (Q (.aA (Int.ofNat len==0)) ax) (Q (.aA false) ax)) (Q (.aA false) ax)) (Q (.aA false) ax)) (ai (k==1) (ai (dF s []) (Q (.aA (Int.ofNat len==0)) ax) (Q (.aA false) ax)) (ai (k==2) (ai (n==0) (ai (decide (Int.ofNat s.length<=100)) (Q (.aA (Int.ofNat len==0)) ax) (Q (.aA false) ax)) (Q (.aA false) ax)) (ai (k==3) (ai (n==0) (ai (decide (Int.ofNat s.length<=100)) (ai (decide (Int.ofNat len>=1)) (Q (.aA (decide (Int.ofNat len<=8))) ax) (Q (.aA false) ax)) (Q (.aA false) ax)) (Q (.aA false) ax)) (Q (.aA false) ax))))):=by kernel_rfl
abbrev kU x0 x1 x2 x3 x4:=aq [(0,.ay [J x0,J x1,.aa x2,.aB x3 x4 4] 42)] 1
theorem at2(k n:Int)(s:LN)(cs:LV)(len:Nat)(N:Nat)(L:LT)(Q:QT):
 b_ Z (J3 N) (fun _=>[1,3]) L Q 1000 87 [.aj [J k,J n,.aa s,.aB cs len 4]] ax=(
 (aq [] 0=ax∧True)∧ai (!sk k n s len) (Q (.aA false) ax) (L (bk [(1,.ad 0 0),(3,J 0)]) (kU k n s cs len) (ao Z 87 0))):=by kernel_rfl
theorem at3(k n i:Int)(s:LN)(cs:LV)(len:Nat)(N:Nat)(L:LT)(Q:QT):
 cT Z (J3 N) (fun _=>[1,3]) L Q 1000 87 0 (bk [(1,.ad 0 0),(3,J i)]) (ao Z 87 0) (kU k n s cs len)=(
 ai (decide (i<Int.ofNat len)) (∃aI:Nat,i=(aI:Int)∧aI<len∧(∃aP:Int,∃bp:Int,∃dO:LN,∃cN:LV,∃cz:Nat,(cs.drop (aI*4)).take 4=[J aP,J bp,.aa dO,.aB cN cz 4]∧(aq [] 0=ax∧Fl N [J aP,J bp,.aa dO,.aB cN cz 4])∧ai (!jA lL [J aP,J bp,.aa dO,.aB cN cz 4]) (Q (.aA false) ax) (L (bk [(1,.ad 0 0),(3,J (wI (i+1)))]) (kU k n s cs len) (ao Z 87 0)))) (Q (.aA true) ax)):=by kernel_rfl
abbrev pt x0 x1:=bk [(1,.ad 0 0),(3,.aA x0),(4,J x1)]
theorem aqv(k n:Int)(s:LN)(cs:LV)(len:Nat)(N:Nat)(L:LT)(Q:QT):
 b_ Z (J4 N) (fun _=>[1,3,4]) L Q 1000 118 [.aj [J k,J n,.aa s,.aB cs len 4]] ax=(
 ai (k==0) (ai (decide (n>=0)) (ai (decide (n<=1099511627776)) (ai (dF s []) (L (pt (Int.ofNat len==0) 0) (kU k n s cs len) (ao Z 118 0)) (L (pt false 0) (kU k n s cs len) (ao Z 118 0))) (L (pt false 0) (kU k n s cs len) (ao Z 118 0))) (L (pt false 0) (kU k n s cs len) (ao Z 118 0))) (ai (k==1) (ai (dF s []) (L (pt (Int.ofNat len==0) 0) (kU k n s cs len) (ao Z 118 0)) (L (pt false 0) (kU k n s cs len) (ao Z 118 0))) (ai (k==2) (ai (n==0) (ai (decide (Int.ofNat s.length<=100)) (L (pt (Int.ofNat len==0) 0) (kU k n s cs len) (ao Z 118 0)) (L (pt false 0) (kU k n s cs len) (ao Z 118 0))) (L (pt false 0) (kU k n s cs len) (ao Z 118 0))) (ai (k==3) (ai (n==0) (ai (decide (Int.ofNat s.length<=100)) (ai (decide (Int.ofNat len>0)) (L (pt (decide (Int.ofNat len<=8)) 0) (kU k n s cs len) (ao Z 118 0)) (L (pt false 0) (kU k n s cs len) (ao Z 118 0))) (L (pt false 0) (kU k n s cs len) (ao Z 118 0))) (L (pt false 0) (kU k n s cs len) (ao Z 118 0))) (L (pt false 0) (kU k n s cs len) (ao Z 118 0)))))):=by kernel_rfl
theorem aqw(k n i:Int)(s:LN)(cs:LV)(len:Nat)(ok:Bool)(N:Nat)(L:LT)(Q:QT):
 cT Z (J4 N) (fun _=>[1,3,4]) L Q 1000 118 0 (pt ok i) (ao Z 118 0) (kU k n s cs len)=(
 ai (decide (i<Int.ofNat len)) (ai ok (∃aI:Nat,i=(aI:Int)∧aI<len∧(∃aP:Int,∃bp:Int,∃dO:LN,∃cN:LV,∃cz:Nat,(cs.drop (aI*4)).take 4=[J aP,J bp,.aa dO,.aB cN cz 4]∧(aq [] 0=ax∧Fl N [J aP,J bp,.aa dO,.aB cN cz 4])∧L (pt (jA lL [J aP,J bp,.aa dO,.aB cN cz 4]) (wI (i+1))) (kU k n s cs len) (ao Z 118 0))) (Q (.aA ok) ax)) (Q (.aA ok) ax)):=by kernel_rfl
theorem asY(k n dZ:Int)(s:LN)(cs:LV)(len:Nat)(N:Nat)(L:LT)(Q:QT):
 b_ Z (J5 N) (fun _=>[1,2,5,6]) L Q 1000 51 [.aj [J k,J n,.aa s,.aB cs len 4],J dZ] ax=(
 L (bk [(1,J dZ),(2,.ad 0 0),(5,J 1),(6,J 0)]) (kU k n s cs len) (ao Z 51 0)):=by kernel_rfl
theorem asZ(k n dZ m i:Int)(s:LN)(cs:LV)(len:Nat)(N:Nat)(L:LT)(Q:QT):
 cT Z (J5 N) (fun _=>[1,2,5,6]) L Q 1000 51 0 (bk [(1,J dZ),(2,.ad 0 0),(5,J m),(6,J i)]) (ao Z 51 0) (kU k n s cs len)=(
 ai (decide (i<Int.ofNat len)) (ai (decide (m<dZ)) (∃aI:Nat,i=(aI:Int)∧aI<len∧(∃aP:Int,∃bp:Int,∃dO:LN,∃cN:LV,∃cz:Nat,(cs.drop (aI*4)).take 4=[J aP,J bp,.aa dO,.aB cN cz 4]∧(aq [] 0=ax∧Fl N [J aP,J bp,.aa dO,.aB cN cz 4]∧(1:Int)<=wI (dZ-m)∧wI (dZ-m)<=2001)∧L (bk [(1,J dZ),(2,.ad 0 0),(5,J (wI (m+jA (fun t=>min ↑(cD t) (wI (dZ-m))) [J aP,J bp,.aa dO,.aB cN cz 4]))),(6,J (wI (i+1)))]) (kU k n s cs len) (ao Z 51 0))) (Q (J m) ax)) (Q (J m) ax)):=by kernel_rfl
theorem ari(k n:Int)(s:LN)(cs:LV)(len:Nat)(L:LT)(Q:QT):
 b_ Z B6 (fun _=>[]) L Q 1000 13 [.aj [J k,J n,.aa s,.aB cs len 4]] ax=(
 (aq [] 0=ax∧o_ [J k,J n,.aa s,.aB cs len 4]∧(1:Int)<=2001∧(2001:Int)<=2001)∧Q (J (jA (fun t=>min ↑(cD t) 2001) [J k,J n,.aa s,.aB cs len 4])) ax):=by kernel_rfl
theorem asR(k n:Int)(s:LN)(cs:LV)(len:Nat)(L:LT)(Q:QT):
 b_ Z B7 (fun _=>[]) L Q 1000 46 [.aj [J k,J n,.aa s,.aB cs len 4]] ax=(
 (aq [] 0=ax∧o_ [J k,J n,.aa s,.aB cs len 4])∧ai (decide (jA dH [J k,J n,.aa s,.aB cs len 4]<=2000)) ((aq [] 0=ax∧o_ [J k,J n,.aa s,.aB cs len 4])∧Q (.aA (jA lL [J k,J n,.aa s,.aB cs len 4])) ax) (Q (.aA false) ax)):=by kernel_rfl
theorem at4(k n:Int)(s:LN)(cs:LV)(len:Nat)(L:LT)(Q:QT):
 b_ Z B8 (fun _=>[]) L Q 1000 89 [.aj [J k,J n,.aa s,.aB cs len 4]] ax=(
 (aq [] 0=ax∧o_ [J k,J n,.aa s,.aB cs len 4])∧ai (decide (jA dH [J k,J n,.aa s,.aB cs len 4]<=2000)) ((aq [] 0=ax∧o_ [J k,J n,.aa s,.aB cs len 4])∧Q (.aA (jA lL [J k,J n,.aa s,.aB cs len 4])) ax) (Q (.aA false) ax)):=by kernel_rfl
theorem Yg:bn Z B1:=by
 refine am2 ad1 ahx ?_;intro args H p v H' h hp;unfold agV at h;split at h
 ·split at h
  ·rename_i cells H left _ h0;cases h;obtain⟨rfl,hl,t,rfl,ho⟩:=hp;exact⟨cD t+1,_,rfl,rfl,hl,t,rfl,ho,by omega⟩
  ·cases h
 ·cases h
theorem Yo:bn Z B2:=by
 refine jM Yg fun args q v h hq=>?_
 unfold Oe at h;split at h
 ·cases h;obtain⟨⟨k,n,s,l⟩,rfl,ho⟩:=hq;refine eS Yg 1000 (fun _=>[]) 11 (by kernel_rfl) ?_;rw[dy,aud];refine⟨⟨rfl,⟨by omega,by omega⟩,um ho⟩,?_⟩;have h1:=agW 2001 (.mk k n s l) (by omega);have h2:=kJ (.mk k n s l);rw[nY,nY,h1,dz (by omega) (by omega)];refine⟨?_,rfl⟩;simp only[dH];congr 1;omega
 ·cases h
theorem Yt:bn Z B3:=by
 refine jM Yo fun args q v h hq=>?_
 unfold ad3 at h;split at h
 ·cases h;refine eS Yo 1000 (fun _=>[]) 77 (by kernel_rfl) ?_;rw[aqt]
  (repeat' (refine aY.2 ⟨fun _=>?_,fun _=>?_⟩))
  all_goals
   refine⟨?_,rfl⟩;congr 1
   (rw[Bool.eq_iff_iff];simp_all[sk,lA]<;>(try intros)<;>omega)
 ·cases h
theorem at1{k n:Int}{s:LN}{l:bG}{N:Nat}{aw:Bool}(hS:bn Z (J3 N))(hl:eQ l.length)(ho:iS l)(hN:bh l<N):
 ∀i:Nat,(i<=l.length∧n_ (l.drop i)=aw)->
 bF Z 87 21 0 (.aA aw) ax (bk [(1,.ad 0 0),(3,J (i:Int))])
  (kU k n s (bw l) l.length) (ao Z 87 0):=by
 refine cX (fun i=>l.length-i) _ _ _ _ ?_;rintro i ⟨hi,hf⟩ ih;refine hD hS 1000 (fun _=>[1,3]) (by kernel_rfl) ?_;rw[at3];refine aY.2 ⟨fun an=>?_,fun a8=>?_⟩
 ·have an:i<l.length:=by simpa using an
  rw[dv an,n_]at hf;obtain⟨k',n',s',l',hf,-,bU,bq,cW⟩:=I4 an ho hN (P:=fun u=>(lL u&&n_ (l.drop (i+1)))=aw) hf;refine⟨i,rfl,an,k',n',s',_,_,bU,⟨rfl,U1 bq cW⟩,?_⟩;rw[nY,iA hl an];refine aY.2 ⟨fun h=>?_,fun h=>?_⟩
  ·simp only[Bool.not_eq_true']at h;rw[h]at hf;exact⟨by rw[←hf];rfl,rfl⟩
  ·simp only[Bool.not_eq_false']at h;rw[h,jf]at hf;exact ih (i+1) ⟨by omega,hf⟩ (by omega)
 ·have a8:l.length<=i:=by simpa using a8
  rw[dV a8,n_]at hf;subst hf;exact⟨rfl,rfl⟩
theorem Yv:bn Z B4:=by
 refine Wv Yt (sN:=Au) (Ww Yt ?_ ?_) ?_
 ·intro args q v h;unfold Au at h;split at h<;>cases h;rintro⟨t,_,_,h⟩;omega
 ·intro N hS args q v h hq;unfold Au at h;split at h<;>cases h;obtain⟨⟨k,n,s,l⟩,rfl,bq,cW⟩:=hq;refine eS hS 1000 (fun _=>[1,3]) 21 (by kernel_rfl) ?_;simp only[cD]at cW;rw[DP,dy];have:=at2 k n s (bw l) l.length N;rw[J3]at this;rw[this];refine⟨⟨rfl,trivial⟩,aY.2 ⟨fun h=>?_,fun h=>?_⟩⟩
  ·simp only[Bool.not_eq_true']at h;exact⟨by rw[lL,h];rfl,rfl⟩
  ·simp only[Bool.not_eq_false']at h;exact at1 hS bq.2.1 bq.2.2 (by omega) 0 ⟨by omega,by rw[lL,h];rfl⟩
 ·intro args q v h hq;unfold Nv at h;split at h<;>cases h;obtain⟨t,rfl,ho⟩:=hq;exact⟨cD t+1,_,rfl,t,rfl,ho,by omega⟩
theorem axy{k n:Int}{s:LN}{len:Nat}:sk k n s len=true->len<=8:=by
 unfold sk;split
 ·simp;omega
 ·split
  ·simp;omega
  ·split
   ·simp;omega
   ·split
    ·simp
    ·simp
theorem aqu{k n:Int}{s:LN}{l:bG}{N:Nat}{aw:Bool}(hS:bn Z (J4 N))(hl:eQ l.length)(ho:iS l)(hN:bh l<N):
 ∀p:Nat×Bool,(p.1<=l.length∧(p.2&&n_ (l.drop p.1))=aw)->
 bF Z 118 96 0 (.aA aw) ax (pt p.2 (p.1:Int))
  (kU k n s (bw l) l.length) (ao Z 118 0):=by
 refine cX (fun p=>l.length-p.1) _ _ _ _ ?_;rintro⟨i,ok⟩ ⟨hi,hf⟩ ih;simp only at hi hf ih⊢;refine hD hS 1000 (fun _=>[1,3,4]) (by kernel_rfl) ?_;rw[aqw];refine aY.2 ⟨fun an=>?_,fun a8=>?_⟩
 ·have an:i<l.length:=by simpa using an
  refine aY.2 ⟨fun h=>?_,fun h=>?_⟩
  ·subst h;rw[dv an,n_,jf]at hf;obtain⟨k',n',s',l',hf,-,bU,bq,cW⟩:=I4 an ho hN (P:=fun u=>(lL u&&n_ (l.drop (i+1)))=aw) hf;refine⟨i,rfl,an,k',n',s',_,_,bU,⟨rfl,U1 bq cW⟩,?_⟩;rw[nY,iA hl an];exact ih (i+1,_) ⟨by simp;omega,hf⟩ (by simp;omega)
  ·subst h;rw[Bool.false_and]at hf;subst hf;exact⟨rfl,rfl⟩
 ·have a8:l.length<=i:=by simpa using a8
  rw[dV a8,n_,Bool.and_true]at hf;subst hf;exact⟨rfl,rfl⟩
theorem Yw:bn Z B5:=by
 refine Wv Yv (sN:=Au) (Ww Yv ?_ ?_) ?_
 ·intro args q v h;unfold Au at h;split at h<;>cases h;rintro⟨t,_,_,h⟩;omega
 ·intro N hS args q v h hq;unfold Au at h;split at h<;>cases h;obtain⟨⟨k,n,s,l⟩,rfl,bq,cW⟩:=hq;refine eS hS 1000 (fun _=>[1,3,4]) 96 (by kernel_rfl) ?_;simp only[cD]at cW;rw[DP,dy];have:=aqv k n s (bw l) l.length N;rw[J4]at this;rw[this];have key:∀b:Bool,b=sk k n s l.length->bF Z 118 96 0 (.aA (lL (.mk k n s l))) ax (pt b 0)
   (kU k n s (bw l) l.length) (ao Z 118 0):=by
   rintro b rfl;exact aqu hS bq.2.1 bq.2.2 (by omega) (0,_) ⟨by simp,by rw[lL];rfl⟩
  (repeat' (refine aY.2 ⟨fun _=>?_,fun _=>?_⟩))
  all_goals
   refine key _ ?_
   (rw[Bool.eq_iff_iff];simp_all[sk,lA]<;>(try intros)<;>omega)
 ·intro args q v h hq;unfold Nv at h;split at h<;>cases h;obtain⟨t,rfl,ho⟩:=hq;exact⟨cD t+1,_,rfl,t,rfl,ho,by omega⟩
theorem asW{k n dZ:Int}{s:LN}{l:bG}{N:Nat}{aw:Int}(hS:bn Z (J5 N))(T9:1<=dZ)(hm2:dZ<=2001)(hl:eQ l.length)(ho:iS l)(hN:bh l<N):
 ∀p:Nat×Int,(p.1<=l.length∧1<=p.2∧p.2<=dZ∧min (p.2+bh (l.drop p.1)) dZ=aw)->
 bF Z 51 31 0 (J aw) ax (bk [(1,J dZ),(2,.ad 0 0),(5,J p.2),(6,J (p.1:Int))])
  (kU k n s (bw l) l.length) (ao Z 51 0):=by
 refine cX (fun p=>l.length-p.1) _ _ _ _ ?_;rintro⟨i,m⟩ ⟨hi,h1,h2,hf⟩ ih;simp only at hi hf ih h1 h2⊢;refine hD hS 1000 (fun _=>[1,2,5,6]) (by kernel_rfl) ?_;rw[asZ];refine aY.2 ⟨fun an=>?_,fun a8=>?_⟩
 ·have an:i<l.length:=by simpa using an
  refine aY.2 ⟨fun h=>?_,fun h=>?_⟩
  ·have h:m<dZ:=by simpa using h
   rw[dv an,bh]at hf;obtain⟨k',n',s',l',hf,-,bU,bq,cW⟩:=I4 an ho hN (P:=fun u=>min (m+((cD u+bh (l.drop (i+1)):Nat):Int)) dZ=aw) hf;have hp:=kJ (.mk k' n' s' l');refine⟨i,rfl,an,k',n',s',_,_,bU,⟨rfl,U1 bq cW,?_,?_⟩,?_⟩
   ·rw[dz (by omega) (by omega)];omega
   ·rw[dz (by omega) (by omega)];omega
   ·rw[nY,iA hl an,dz (x:=dZ-m) (by omega) (by omega),dz (by omega) (by omega)];exact ih (i+1,_) ⟨by simp;omega,by simp only;omega,by simp only;omega,by simp only;omega⟩ (by simp;omega)
  ·have h:dZ<=m:=by simpa using h
   have:aw=m:=by omega
   subst this;exact⟨rfl,rfl⟩
 ·have a8:l.length<=i:=by simpa using a8
  rw[dV a8,bh]at hf;have:aw=m:=by omega
  subst this;exact⟨rfl,rfl⟩
theorem Yx:bn Z B6:=by
 refine Wv Yw (sN:=KZ) (Ww Yw ?_ ?_) ?_
 ·intro args q v h;unfold KZ at h;split at h<;>cases h;rintro⟨⟨t,_,_,h⟩,_⟩;omega
 ·intro N hS args q v h hq;unfold KZ at h;split at h<;>cases h;obtain⟨⟨⟨k,n,s,l⟩,rfl,bq,cW⟩,h1,h2⟩:=hq;refine eS hS 1000 (fun _=>[1,2,5,6]) 31 (by kernel_rfl) ?_;simp only[cD]at cW;rw[DP,dy];have:=fun dZ=>asY k n dZ s (bw l) l.length N
  rw[J5]at this;rw[this];exact asW hS h1 h2 bq.2.1 bq.2.2 (by omega) (0,1) ⟨by simp,by simp,by simpa using h1,by simp only[cD,hI];omega⟩
 ·intro args q v h hq;unfold aaw at h;split at h<;>cases h;obtain⟨⟨t,rfl,ho⟩,h1⟩:=hq;exact⟨cD t+1,_,rfl,⟨t,rfl,ho,by omega⟩,h1⟩
theorem Yy:bn Z B7:=by
 refine jM Yx fun args q v h hq=>?_
 unfold Oe at h;split at h<;>cases h;obtain⟨⟨k,n,s,l⟩,rfl,ho⟩:=hq;refine eS Yx 1000 (fun _=>[]) 5 (by kernel_rfl) ?_;rw[dy,ari];refine⟨⟨rfl,um ho,by omega,by omega⟩,?_⟩;rw[nY,nY];exact⟨rfl,rfl⟩
theorem agU(t:aK):jX t=(decide (dH t<=2000)&&lL t):=by
 have:decide (dH t<=2000)=decide (cD t<=2000):=by
  have:dH t<=2000↔cD t<=2000:=by unfold dH;omega
  simp only[this]
 rw[this];rfl
theorem Yz:bn Z B8:=by
 refine jM Yy fun args q v h hq=>?_
 unfold O0 at h;split at h<;>cases h;obtain⟨⟨k,n,s,l⟩,rfl,ho⟩:=hq;refine eS Yy 1000 (fun _=>[]) 10 (by kernel_rfl) ?_;rw[dy,asR,nY,nY,nY,agU];refine⟨⟨rfl,um ho⟩,aY.2 ⟨fun h=>?_,fun h=>?_⟩⟩
 ·rw[h];exact⟨⟨rfl,um ho⟩,rfl,rfl⟩
 ·rw[h];exact⟨rfl,rfl⟩
theorem YA:bn Z B9:=by
 refine jM Yz fun args q v h hq=>?_
 unfold O0 at h;split at h<;>cases h;obtain⟨⟨k,n,s,l⟩,rfl,ho⟩:=hq;refine eS Yz 1000 (fun _=>[]) 10 (by kernel_rfl) ?_;rw[dy,at4,nY,nY,nY,agU];refine⟨⟨rfl,um ho⟩,aY.2 ⟨fun h=>?_,fun h=>?_⟩⟩
 ·rw[h];exact⟨⟨rfl,um ho⟩,rfl,rfl⟩
 ·rw[h];exact⟨rfl,rfl⟩
end
end Go.Cl
namespace Go.Cl
open Go.Ev
variable[Ro]
noncomputable section
structure d_ where
 cL:LN
 ar:Int
 aM:Int
 deriving DecidableEq,Inhabited
structure iP where
 cQ:Int
 aH:d_
 cP:bG
 il:Int
 deriving Inhabited
abbrev c7:=List iP
structure a9 where
 aH:d_
 aQ:bG
 au:c7
 deriving Inhabited
def Hc{α β γ:Type}[Inhabited α](enc:β->γ)(f:β->α)(c:γ):α:=
 @dite _ (∃t,enc t=c) (Classical.propDecidable _) (fun h=>f h.choose) (fun _=>default)
theorem RU{α β γ:Type}[Inhabited α]{enc:β->γ}(hi:∀a b,enc a=enc b->a=b)(f:β->α)(t:β):Hc enc f (enc t)=f t:=by unfold Hc;rw[dif_pos ⟨t,rfl⟩];congr 1;exact hi _ _ (Exists.choose_spec (⟨t,rfl⟩:∃u,enc u=enc t))
def K8(l:bG):LV×Nat:=(bw l,l.length)
theorem ajr(l m:bG)(h:K8 l=K8 m):l=m:=by simp only[K8,Prod.mk.injEq]at h;exact wP h.2 h.1
def qK{α:Type}[Inhabited α](f:bG->α)(cs:LV)(len:Nat):α:=Hc K8 f (cs,len)
theorem DO{α:Type}[Inhabited α](f:bG->α)(l:bG):qK f (bw l) l.length=f l:=RU ajr f l
def Ae(cs:LV)(len:Nat):Prop:=∃l,bw l=cs∧l.length=len∧eQ l.length∧iS l
theorem MQ{l:bG}(h:eQ l.length)(ho:iS l):Ae (bw l) l.length:=⟨l,rfl,rfl,h,ho⟩
def aw8(p:d_):LV:=[.aa p.cL,J p.ar,J p.aM]
def qM(g:iP):LV:=[J g.cQ,.aa g.aH.cL,J g.aH.ar,J g.aH.aM,.aB (bw g.cP) g.cP.length 4,J g.il]
def ck:c7->LV
 |[]=>[]
 |g::l=>qM g++ck l
def dj(f:a9):LV:=[.aa f.aH.cL,J f.aH.ar,J f.aH.aM,.aB (bw f.aQ) f.aQ.length 4,.aB (ck f.au) f.au.length 6]
theorem D0(g:iP):(qM g).length=6:=rfl
theorem Se{g h:iP}(e:qM g=qM h):g=h:=by obtain⟨k,⟨a,b,c⟩,l,v⟩:=g;obtain⟨k',⟨a',b',c'⟩,l',v'⟩:=h;simp only[qM,List.cons.injEq,AV.cM.injEq,AV.aa.injEq,AV.aB.injEq,true_and,and_true]at e;obtain⟨rfl,rfl,rfl,rfl,⟨h1,h2⟩,rfl⟩:=e;rw[wP h2 h1]
theorem Hi:∀{l m:c7},l.length=m.length->ck l=ck m->l=m
 |[],[],_,_=>rfl
 |[],_::_,h,_=>by simp at h
 |_::_,[],h,_=>by simp at h
 |t::l,u::m,hl,h=>by simp only[ck]at h;have h2:=List.append_inj h (by rw[D0,D0]);rw[Se h2.1,Hi (by simpa using hl) h2.2]
theorem sU(f g:a9)(e:dj f=dj g):f=g:=by obtain⟨⟨a,b,c⟩,l,v⟩:=f;obtain⟨⟨a',b',c'⟩,l',v'⟩:=g;simp only[dj,List.cons.injEq,AV.cM.injEq,AV.aa.injEq,AV.aB.injEq,true_and,and_true]at e;obtain⟨rfl,rfl,rfl,⟨h1,h2⟩,h3,h4⟩:=e;rw[wP h2 h1,Hi h4 h3]
def m_{α:Type}[Inhabited α](f:a9->α)(cells:LV):α:=Hc dj f cells
theorem ye{α:Type}[Inhabited α](f:a9->α)(c:a9):m_ f (dj c)=f c:=RU sU f c
def ai9{α:Type}[Inhabited α](f:iP->α)(cells:LV):α:=Hc qM f cells
theorem aw6{α:Type}[Inhabited α](f:iP->α)(c:iP):ai9 f (qM c)=f c:=RU (fun _ _ h=>Se h) f c
def oK(g:iP):Prop:=eQ g.aH.cL.length∧eQ g.cP.length∧iS g.cP
def fL(f:a9):Prop:=eQ f.aH.cL.length∧eQ f.aQ.length∧iS f.aQ∧eQ f.au.length∧∀g∈f.au,oK g
def axq(cells:LV):Prop:=∃g,qM g=cells∧oK g
def Ab(cells:LV):Prop:=∃f,dj f=cells∧fL f
theorem aaN:∀{l:c7} {i:Nat} (h:i<l.length),((ck l).drop (i*6)).take 6=qM l[i]
 |[],i,h=>by simp at h
 |t0::l,0,h=>by simp only[ck,Nat.zero_mul,hI,List.getElem_cons_zero];exact List.take_left' (l₂:=ck l) (D0 t0)
 |t0::l,i+1,h=>by
  have hl:i<l.length:=by simpa using h
  have:=aaN hl;simp only[ck,List.getElem_cons_succ];rw[←this];congr 1;have e:(i+1)*6=(qM t0).length+i*6:=by rw[D0];omega
  rw[e,List.drop_length_add_append]
def jL(p:d_):Bool:=
 if p.aM=0 then decide (p.cL.length<=100∧0<=p.ar∧p.ar<=8)
 else decide (p.cL.length=0∧1<=p.aM∧p.aM<=1099511627776∧0<=p.ar∧p.ar<=4096)
def xK(v:Int):Bool:=decide (0<=v∧v<=1099511627776)
def u7(g:iP):Bool:=decide (g.aH.cL.length=0∧g.aH.ar=0∧g.aH.aM=0∧g.cP.length=0)
def p8(ji:Bool)(g:iP):Bool:=
 if g.cQ=1 then jL g.aH&&decide ((g.cP.length:Int)=g.aH.ar∧g.il=0)
 else if g.cQ=2 then u7 g&&xK g.il&& !ji
 else if g.cQ=3∨g.cQ=4 then u7 g&&xK g.il
 else if g.cQ=5 then u7 g&&decide (g.il=0)
 else false
def kg(left:Int)(l:bG):Bool:=l.all jX&&decide ((bh l:Int)<=left)
theorem rS{left:Int}{l:bG}:kg left l=true↔(∀t∈l,jX t=true)∧(bh l:Int)<=left:=by simp only[kg,cy,List.all_eq_true,iK]
theorem OV(t:aK)(l:bG):bh (t::l)=cD t+bh l:=rfl
def lC:Bool->Int->c7->Bool
 |_,_,[]=>true
 |ji,left,g::l=>p8 ji g&&kg left g.cP&&lC (ji||g.cQ==1) (left-bh g.cP) l
def ei(f:a9):Bool:=jL f.aH&&decide ((f.aQ.length:Int)=f.aH.ar)&&kg 131072 f.aQ&&lC false (131072-bh f.aQ) f.au
def qp:Int->bG->Bool×Int
 |left,[]=>(true,left)
 |left,t::l=>if jX t then(if left-dH t<0 then(false,left-dH t)else qp (left-dH t) l)else(false,left)
theorem Xf{t:aK}(h:jX t=true):dH t=cD t:=by simp only[jX,cy,iK]at h;unfold dH;omega
theorem W3:∀(left:Int) (l:bG),0<=left->(qp left l).1=kg left l∧(kg left l=true->(qp left l).2=left-bh l)
 |left,[],h=>by simp[qp,kg,bh,h]
 |left,t::l,h=>by
  simp only[qp];by_cases hv:jX t=true
  ·have hs:=Xf hv;rw[aN hv,hs];split
   ·rename_i an;have:kg left (t::l)=false:=by rw[Bool.eq_false_iff,Ne,rS,OV];omega
    rw[this];simp
   ·rename_i an;have ih:=W3 (left-cD t) l (by omega);have e:kg left (t::l)=kg (left-cD t) l:=by rw[Bool.eq_iff_iff,rS,rS,OV];simp only[ss,forall_eq_or_imp,hv,true_and];constructor<;>(rintro⟨h1,h2⟩;exact⟨h1,by omega⟩)
    rw[e];refine⟨ih.1,fun h=>?_⟩;rw[ih.2 h,bh];omega
  ·rw[az hv];have hv:jX t=false:=by simpa using hv
   simp[kg,hv]
def sB:Int->bG->Int×Bool
 |n,[]=>(n,true)
 |n,t::l=>if jX t then(if n+dH t>131072 then(n+dH t,false)else sB (n+dH t) l)else(n,false)
theorem XC:∀(n:Int) (l:bG),n<=131072->(sB n l).2=kg (131072-n) l∧(kg (131072-n) l=true->(sB n l).1=n+bh l)
 |left,[],h=>by simp[sB,kg,bh];omega
 |n,t::l,h=>by
  simp only[sB];by_cases hv:jX t=true
  ·have hs:=Xf hv;rw[aN hv,hs];split
   ·rename_i an;have:kg (131072-n) (t::l)=false:=by rw[Bool.eq_false_iff,Ne,rS,OV];omega
    rw[this];simp
   ·rename_i an;have ih:=XC (n+cD t) l (by omega);have e:kg (131072-n) (t::l)=kg (131072-(n+cD t)) l:=by rw[Bool.eq_iff_iff,rS,rS,OV];simp only[ss,forall_eq_or_imp,hv,true_and];constructor<;>(rintro⟨h1,h2⟩;exact⟨h1,by omega⟩)
    rw[e];refine⟨ih.1,fun h=>?_⟩;rw[ih.2 h,bh];omega
  ·rw[az hv];have hv:jX t=false:=by simpa using hv
   simp[kg,hv]
theorem o5{l:c7}{i:Nat}(h:i<l.length)(ho:∀g∈l,oK g):
 ∃k nm ar aM ls v,l[i]=⟨k,⟨nm,ar,aM⟩,ls,v⟩∧((ck l).drop (i*6)).take 6=[J k,.aa nm,J ar,J aM,.aB (bw ls) ls.length 4,J v]∧oK ⟨k,⟨nm,ar,aM⟩,ls,v⟩:=by
 have bU:=aaN h;have bq:=ho l[i] (xC h);generalize l[i]=u at*;obtain⟨k,⟨nm,ar,aM⟩,ls,v⟩:=u;exact⟨k,nm,ar,aM,ls,v,rfl,bU,bq⟩
theorem oj{l:bG}{i:Nat}(h:i<l.length)(ho:iS l):
 ∃k n s m,l[i]=.mk k n s m∧((bw l).drop (i*4)).take 4=[J k,J n,.aa s,.aB (bw m) m.length 4]∧eN (.mk k n s m):=by
 have bU:=Hn h;have bq:=ND h ho;generalize l[i]=u at*;obtain⟨k,n,s,m⟩:=u;exact⟨k,n,s,m,rfl,bU,bq⟩
theorem I'(t:aK):1<=dH t∧dH t<=2001:=by have:=kJ t;unfold dH;omega
end
end Go.Cl
namespace Go.Cl
open Go.Ev Go.Proofs
variable[Ro]
noncomputable section
def AA:LV->Option (Prop×AV)
 |[.aj [.aa nm,.cM .i64 ar,.cM .i64 aM]]=>some (True,.aA (jL ⟨nm,ar,aM⟩))
 |_=>none
def Pg:Ev.bC:=ft 52 (fy AA) B9
def JQ:Ev.bC:=ft 50 (fy AA) Pg
abbrev o6 x0 x1:=aq [(0,.ay x0 x1)] 1
def jR(left:Int):AH:=o6 [J left] 3
def afv:LV->AH->Option (Prop×AV×AH)
 |[.ad 0 0,.aB cs len 4],H=>match H.bD 0 with
  |some (.ay [.cM .i64 left] _)=>some (H=jR left∧(0<=left∧left<=131072)∧Ae cs len,.aA (qK (qp left) cs len).1,jR (qK (qp left) cs len).2)
  |_=>none
 |_,_=>none
def JR:Ev.bC:=ft 53 afv JQ
def agJ:LV->Option (Prop×AV)
 |[.aB cs len 4,.cM .i64 n]=>some ((0<=n∧n<=131072)∧Ae cs len,.aO [J (qK (sB n) cs len).1,.aA (qK (sB n) cs len).2])
 |_=>none
def JS:Ev.bC:=ft 49 (fy agJ) JR
def OZ:LV->Option (Prop×AV)
 |[.aj cells]=>some (Ab cells,.aA (m_ ei cells))
 |_=>none
def JT:Ev.bC:=ft 21 (fy OZ) JS
def Dp:Ev.bC:=ft 12 (fy OZ) JT
theorem as0(nm:LN)(ar aM:Int)(L:LT)(Q:QT):
 b_ Z B9 (fun _=>[]) L Q 1000 52 [.aj [.aa nm,J ar,J aM]] ax=(
 ai (aM==0) (ai (decide (Int.ofNat nm.length<=100)) (ai (decide (ar>=0)) (Q (.aA (decide (ar<=8))) ax) (Q (.aA false) ax)) (Q (.aA false) ax)) (ai (dF nm []) (ai (decide (aM>=1)) (ai (decide (aM<=1099511627776)) (ai (decide (ar>=0)) (Q (.aA (decide (ar<=4096))) ax) (Q (.aA false) ax)) (Q (.aA false) ax)) (Q (.aA false) ax)) (Q (.aA false) ax))):=by kernel_rfl
theorem asV(nm:LN)(ar aM:Int)(L:LT)(Q:QT):
 b_ Z Pg (fun _=>[]) L Q 1000 50 [.aj [.aa nm,J ar,J aM]] ax=(
 ai (aM==0) (ai (decide (Int.ofNat nm.length<=100)) (ai (decide (ar>=0)) (Q (.aA (decide (ar<=8))) ax) (Q (.aA false) ax)) (Q (.aA false) ax)) (ai (dF nm []) (ai (decide (aM>=1)) (ai (decide (aM<=1099511627776)) (ai (decide (ar>=0)) (Q (.aA (decide (ar<=4096))) ax) (Q (.aA false) ax)) (Q (.aA false) ax)) (Q (.aA false) ax)) (Q (.aA false) ax))):=by kernel_rfl
abbrev OI x0 x1 x2:=bk [(0,.ad 0 0),(7,.aB x0 x1 4),(8,J (Int.ofNat x1)),(9,J x2)]
theorem as2(cs:LV)(len:Nat)(left:Int)(L:LT)(Q:QT):
 b_ Z JQ (fun _=>[0,7,8,9]) L Q 1000 53 [.ad 0 0,.aB cs len 4] (jR left)=(
 L (OI cs len 0) (jR left) (ao Z 53 0)):=by kernel_rfl
theorem as3(cs:LV)(len:Nat)(left i:Int)(L:LT)(Q:QT):
 cT Z JQ (fun _=>[0,7,8,9]) L Q 1000 53 1 (OI cs len i) (ao Z 53 0) (jR left)=(
 ai (decide (i<Int.ofNat len)) (∃aI:Nat,i=(aI:Int)∧aI<len∧(∃n:Int,∃aP:Int,∃s:LN,∃cN:LV,∃cz:Nat,(cs.drop (aI*4)).take 4=[J n,J aP,.aa s,.aB cN cz 4]∧(aq [] 0=ax∧o_ [J n,J aP,.aa s,.aB cN cz 4])∧ai (!jA jX [J n,J aP,.aa s,.aB cN cz 4]) (Q (.aA false) (jR left)) ((aq [] 0=ax∧o_ [J n,J aP,.aa s,.aB cN cz 4])∧some (J left:AV)=some (J left:AV)∧ai (decide (wI (left-jA dH [J n,J aP,.aa s,.aB cN cz 4])<0)) (Q (.aA false) (jR (wI (left-jA dH [J n,J aP,.aa s,.aB cN cz 4])))) (L (OI cs len (wI (i+1))) (jR (wI (left-jA dH [J n,J aP,.aa s,.aB cN cz 4]))) (ao Z 53 0))))) (Q (.aA true) (jR left))):=by kernel_rfl
theorem asT(cs:LV)(len:Nat)(n:Int)(L:LT)(Q:QT):
 b_ Z JR (fun _=>[0,1,6]) L Q 1000 49 [.aB cs len 4,J n] ax=(
 L (bk [(0,.aB cs len 4),(1,J n),(6,J 0)]) ax (ao Z 49 0)):=by kernel_rfl
theorem asU(cs:LV)(len:Nat)(n i:Int)(L:LT)(Q:QT):
 cT Z JR (fun _=>[0,1,6]) L Q 1000 49 0 (bk [(0,.aB cs len 4),(1,J n),(6,J i)]) (ao Z 49 0) ax=(
 ai (decide (i<Int.ofNat len)) (∃aI:Nat,i=(aI:Int)∧aI<len∧(∃aP:Int,∃bp:Int,∃s:LN,∃cN:LV,∃cz:Nat,(cs.drop (aI*4)).take 4=[J aP,J bp,.aa s,.aB cN cz 4]∧(aq [] 0=ax∧o_ [J aP,J bp,.aa s,.aB cN cz 4])∧ai (!jA jX [J aP,J bp,.aa s,.aB cN cz 4]) (Q (.aO [J n,.aA false]) ax) (∃bz:Nat,i=(bz:Int)∧bz<len∧(∃bI:Int,∃cS:Int,∃dO:LN,∃rP:LV,∃sd:Nat,(cs.drop (bz*4)).take 4=[J bI,J cS,.aa dO,.aB rP sd 4]∧(aq [] 0=ax∧o_ [J bI,J cS,.aa dO,.aB rP sd 4])∧ai (decide (wI (n+jA dH [J bI,J cS,.aa dO,.aB rP sd 4])>131072)) (Q (.aO [J (wI (n+jA dH [J bI,J cS,.aa dO,.aB rP sd 4])),.aA false]) ax) (L (bk [(0,.aB cs len 4),(1,J (wI (n+jA dH [J bI,J cS,.aa dO,.aB rP sd 4]))),(6,J (wI (i+1)))]) ax (ao Z 49 0)))))) (Q (.aO [J n,.aA true]) ax)):=by kernel_rfl
abbrev wg x0 x1 x2 x3:=bk [(3,.ad 0 0),(4,.aA x0),(29,.aB x1 x2 6),(30,J (Int.ofNat x2)),(31,J x3)]
theorem arI(nm:LN)(ar aM:Int)(cs:LV)(len:Nat)(gs:LV)(gl:Nat)(L:LT)(Q:QT):
 b_ Z JS (fun _=>[3,4,29,30,31]) L Q 1000 21 [.aj [.aa nm,J ar,J aM,.aB cs len 4,.aB gs gl 6]] ax=(
 (aq [] 0=ax∧True)∧ai (!jL (d_.mk nm ar aM)) (Q (.aA false) ax) (ai (Int.ofNat len !=ar) (Q (.aA false) ax) ((o6 [J 131072] 3=jR 131072∧((0:Int)<=131072∧(131072:Int)<=131072)∧Ae cs len)∧ai (!(qK (qp 131072) cs len).1) (Q (.aA false) ax) (L (wg false gs gl 0) (jR (qK (qp 131072) cs len).2) (ao Z 21 0))))):=by kernel_rfl
theorem arJ(ji:Bool)(left i:Int)(gs:LV)(gl:Nat)(L:LT)(Q:QT):
 cT Z JS (fun _=>[3,4,29,30,31]) L Q 2000 21 0 (wg ji gs gl i) (ao Z 21 0) (jR left)=(
 ai (decide (i<Int.ofNat gl)) (∃aI:Nat,i=(aI:Int)∧aI<gl∧(∃n:Int,∃s:LN,∃aP:Int,∃bp:Int,∃cs:LV,∃len:Nat,∃bI:Int,(gs.drop (aI*6)).take 6=[J n,.aa s,J aP,J bp,.aB cs len 4,J bI]∧ai (dF s []&&(aP==0&&(bp==0&&true))) (ai (n==1) ((aq [] 0=ax∧True)∧ai (jL (d_.mk s aP bp)) (ai (Int.ofNat len==aP) (ai (bI==0) ((o6 [J left] 3=jR left∧((0:Int)<=left∧left<=131072)∧Ae cs len)∧ai (!(qK (qp left) cs len).1) (Q (.aA false) ax) (L (wg true gs gl (wI (i+1))) (jR (qK (qp left) cs len).2) (ao Z 21 0))) (Q (.aA false) ax)) (Q (.aA false) ax)) (Q (.aA false) ax)) (ai (n==2) (ai (Int.ofNat len==0) (ai (decide (bI>=0)) (ai (decide (bI<=1099511627776)) (ai (!(!ji)) (Q (.aA false) ax) (L (wg ji gs gl (wI (i+1))) (jR left) (ao Z 21 0))) (Q (.aA false) ax)) (Q (.aA false) ax)) (Q (.aA false) ax)) (ai (n==3) (ai (n==3) (ai (Int.ofNat len==0) (ai (decide (bI>=0)) (ai (!decide (bI<=1099511627776)) (Q (.aA false) ax) (L (wg ji gs gl (wI (i+1))) (jR left) (ao Z 21 0))) (Q (.aA false) ax)) (Q (.aA false) ax)) (ai (n==5) (ai (Int.ofNat len==0) (ai (!(bI==0)) (Q (.aA false) ax) (L (wg ji gs gl (wI (i+1))) (jR left) (ao Z 21 0))) (Q (.aA false) ax)) (Q (.aA false) ax))) (ai (n==4) (ai (Int.ofNat len==0) (ai (decide (bI>=0)) (ai (!decide (bI<=1099511627776)) (Q (.aA false) ax) (L (wg ji gs gl (wI (i+1))) (jR left) (ao Z 21 0))) (Q (.aA false) ax)) (Q (.aA false) ax)) (ai (n==5) (ai (Int.ofNat len==0) (ai (!(bI==0)) (Q (.aA false) ax) (L (wg ji gs gl (wI (i+1))) (jR left) (ao Z 21 0))) (Q (.aA false) ax)) (Q (.aA false) ax)))))) (ai (n==1) ((aq [] 0=ax∧True)∧ai (jL (d_.mk s aP bp)) (ai (Int.ofNat len==aP) (ai (bI==0) ((o6 [J left] 3=jR left∧((0:Int)<=left∧left<=131072)∧Ae cs len)∧ai (!(qK (qp left) cs len).1) (Q (.aA false) ax) (L (wg true gs gl (wI (i+1))) (jR (qK (qp left) cs len).2) (ao Z 21 0))) (Q (.aA false) ax)) (Q (.aA false) ax)) (Q (.aA false) ax)) (ai (n==2) (Q (.aA false) ax) (ai (n==3) (ai (n==3) (Q (.aA false) ax) (ai (n==5) (Q (.aA false) ax) (Q (.aA false) ax))) (ai (n==4) (Q (.aA false) ax) (ai (n==5) (Q (.aA false) ax) (Q (.aA false) ax)))))))) (Q (.aA true) ax)):=by kernel_rfl
abbrev sA x0 x1 x2:=bk [(1,.ad 0 0),(3,J x0),(5,.aA x1),(6,J x2)]
theorem aqZ(nm:LN)(ar aM:Int)(cs:LV)(len:Nat)(gs:LV)(gl:Nat)(L:LT)(Q:QT):
 b_ Z JT (fun _=>[1,3,5,6]) L Q 1000 12 [.aj [.aa nm,J ar,J aM,.aB cs len 4,.aB gs gl 6]] ax=(
 (aq [] 0=ax∧((0:Int)<=0∧(0:Int)<=131072)∧Ae cs len)∧ai (!(qK (sB 0) cs len).2) (Q (.aA false) ax) ((aq [] 0=ax∧True)∧ai (!jL (d_.mk nm ar aM)) (Q (.aA false) ax) (ai (Int.ofNat len !=ar) (Q (.aA false) ax) (L (sA (qK (sB 0) cs len).1 false 0) (o6 [.aa nm,J ar,J aM,.aB cs len 4,.aB gs gl 6] 27) (ao Z 12 0))))):=by kernel_rfl
theorem aq0(nm:LN)(ar aM:Int)(cs:LV)(len:Nat)(gs:LV)(gl:Nat)(ji:Bool)(n i:Int)(L:LT)(Q:QT):
 cT Z JT (fun _=>[1,3,5,6]) L Q 2000 12 0 (sA n ji i) (ao Z 12 0) (o6 [.aa nm,J ar,J aM,.aB cs len 4,.aB gs gl 6] 27)=(
 ai (decide (i<Int.ofNat gl)) (∃aI:Nat,i=(aI:Int)∧aI<gl∧(∃aP:Int,∃s:LN,∃bp:Int,∃bI:Int,∃cN:LV,∃cz:Nat,∃cS:Int,(gs.drop (aI*6)).take 6=[J aP,.aa s,J bp,J bI,.aB cN cz 4,J cS]∧ai (aP==1) ((aq [] 0=ax∧True)∧ai (!jL (d_.mk s bp bI)) (Q (.aA false) ax) (ai (Int.ofNat cz !=bp) (Q (.aA false) ax) (ai (cS !=0) (Q (.aA false) ax) ((aq [] 0=ax∧((0:Int)<=n∧n<=131072)∧Ae cN cz)∧ai (!(qK (sB n) cN cz).2) (Q (.aA false) ax) (L (sA (qK (sB n) cN cz).1 true (wI (i+1))) (o6 [.aa nm,J ar,J aM,.aB cs len 4,.aB gs gl 6] 27) (ao Z 12 0)))))) (ai (aP==2) (ai (aP==2) (ai (decide (cS<0)) (Q (.aA false) ax) (ai (decide (cS>1099511627776)) (Q (.aA false) ax) (ai (!(dF s []&&(bp==0&&(bI==0&&true)))) (Q (.aA false) ax) (ai (Int.ofNat cz !=0) (Q (.aA false) ax) (ai (aP==2) (ai ji (Q (.aA false) ax) (L (sA n ji (wI (i+1))) (o6 [.aa nm,J ar,J aM,.aB cs len 4,.aB gs gl 6] 27) (ao Z 12 0))) (L (sA n ji (wI (i+1))) (o6 [.aa nm,J ar,J aM,.aB cs len 4,.aB gs gl 6] 27) (ao Z 12 0))))))) (ai (aP==5) (ai (cS !=0) (Q (.aA false) ax) (ai (!(dF s []&&(bp==0&&(bI==0&&true)))) (Q (.aA false) ax) (ai (Int.ofNat cz !=0) (Q (.aA false) ax) (L (sA n ji (wI (i+1))) (o6 [.aa nm,J ar,J aM,.aB cs len 4,.aB gs gl 6] 27) (ao Z 12 0))))) (Q (.aA false) ax))) (ai (aP==3) (ai (aP==3) (ai (decide (cS<0)) (Q (.aA false) ax) (ai (decide (cS>1099511627776)) (Q (.aA false) ax) (ai (!(dF s []&&(bp==0&&(bI==0&&true)))) (Q (.aA false) ax) (ai (Int.ofNat cz !=0) (Q (.aA false) ax) (ai (aP==2) (ai ji (Q (.aA false) ax) (L (sA n ji (wI (i+1))) (o6 [.aa nm,J ar,J aM,.aB cs len 4,.aB gs gl 6] 27) (ao Z 12 0))) (L (sA n ji (wI (i+1))) (o6 [.aa nm,J ar,J aM,.aB cs len 4,.aB gs gl 6] 27) (ao Z 12 0))))))) (ai (aP==5) (ai (cS !=0) (Q (.aA false) ax) (ai (!(dF s []&&(bp==0&&(bI==0&&true)))) (Q (.aA false) ax) (ai (Int.ofNat cz !=0) (Q (.aA false) ax) (L (sA n ji (wI (i+1))) (o6 [.aa nm,J ar,J aM,.aB cs len 4,.aB gs gl 6] 27) (ao Z 12 0))))) (Q (.aA false) ax))) (ai (aP==4) (ai (decide (cS<0)) (Q (.aA false) ax) (ai (decide (cS>1099511627776)) (Q (.aA false) ax) (ai (!(dF s []&&(bp==0&&(bI==0&&true)))) (Q (.aA false) ax) (ai (Int.ofNat cz !=0) (Q (.aA false) ax) (ai (aP==2) (ai ji (Q (.aA false) ax) (L (sA n ji (wI (i+1))) (o6 [.aa nm,J ar,J aM,.aB cs len 4,.aB gs gl 6] 27) (ao Z 12 0))) (L (sA n ji (wI (i+1))) (o6 [.aa nm,J ar,J aM,.aB cs len 4,.aB gs gl 6] 27) (ao Z 12 0))))))) (ai (aP==5) (ai (cS !=0) (Q (.aA false) ax) (ai (!(dF s []&&(bp==0&&(bI==0&&true)))) (Q (.aA false) ax) (ai (Int.ofNat cz !=0) (Q (.aA false) ax) (L (sA n ji (wI (i+1))) (o6 [.aa nm,J ar,J aM,.aB cs len 4,.aB gs gl 6] 27) (ao Z 12 0))))) (Q (.aA false) ax))))))) (Q (.aA true) ax)):=by kernel_rfl
theorem Yc:bn Z Pg:=by
 refine jM YA fun args q v h hq=>?_
 unfold AA at h;split at h<;>cases h;refine eS YA 1000 (fun _=>[]) 43 (by kernel_rfl) ?_;rw[as0]
 (repeat' (refine aY.2 ⟨fun _=>?_,fun _=>?_⟩))
 all_goals
  refine⟨?_,rfl⟩;congr 1
  (rw[Bool.eq_iff_iff];simp_all[jL,lA]<;>(try intros)<;>omega)
theorem Ph:bn Z JQ:=by
 refine jM Yc fun args q v h hq=>?_
 unfold AA at h;split at h<;>cases h;refine eS Yc 1000 (fun _=>[]) 43 (by kernel_rfl) ?_;rw[asV]
 (repeat' (refine aY.2 ⟨fun _=>?_,fun _=>?_⟩))
 all_goals
  refine⟨?_,rfl⟩;congr 1
  (rw[Bool.eq_iff_iff];simp_all[jL,lA]<;>(try intros)<;>omega)
theorem as1{l:bG}{aw:Bool×Int}(hl:eQ l.length)(ho:iS l):
 ∀p:Nat×Int,(p.1<=l.length∧0<=p.2∧p.2<=131072∧qp p.2 (l.drop p.1)=aw)->
 bF Z 53 28 1 (.aA aw.1) (jR aw.2) (OI (bw l) l.length (p.1:Int)) (jR p.2) (ao Z 53 0):=by
 refine cX (fun p=>l.length-p.1) _ _ _ _ ?_;rintro⟨i,left⟩ ⟨hi,h0,h1,hf⟩ ih;simp only at hi h0 h1 hf ih⊢;refine hD Ph 1000 (fun _=>[0,7,8,9]) (by kernel_rfl) ?_;rw[as3];refine aY.2 ⟨fun an=>?_,fun a8=>?_⟩
 ·have an:i<l.length:=by simpa using an
  obtain⟨k,n,s,m,he,bU,bq⟩:=oj an ho;rw[dv an,he,qp]at hf;have hs:=I' (.mk k n s m);refine⟨i,rfl,an,k,n,s,_,_,bU,⟨rfl,um bq⟩,?_⟩;rw[nY,nY,iA hl an,dz (by omega) (by omega)];refine aY.2 ⟨fun h=>?_,fun h=>?_⟩
  ·have h:¬jX (.mk k n s m)=true:=by simpa using h
   rw[az h]at hf;subst hf;exact⟨rfl,rfl⟩
  ·have h:jX (.mk k n s m)=true:=by simpa using h
   rw[aN h]at hf;refine⟨⟨rfl,um bq⟩,rfl,aY.2 ⟨fun h=>?_,fun h=>?_⟩⟩
   ·rw[aN (by simpa using h)]at hf;subst hf;exact⟨rfl,rfl⟩
   ·have h:¬left-dH (.mk k n s m)<0:=by simpa using h
    rw[az h]at hf;exact ih (i+1,_) ⟨by simp;omega,by simp only;omega,by simp only;omega,hf⟩ (by simp;omega)
 ·have a8:l.length<=i:=by simpa using a8
  rw[dV a8,qp]at hf;subst hf;exact⟨rfl,rfl⟩
theorem Pj:bn Z JR:=by
 refine Ba Ph fun args H p v H' h hp=>?_
 unfold afv at h;split at h
 ·split at h<;>cases h;obtain⟨rfl,⟨h0,h1⟩,l,rfl,rfl,hl,ho⟩:=hp;refine eS Ph 1000 (fun _=>[0,7,8,9]) 28 (by kernel_rfl) ?_;rw[as2,DO];exact as1 hl ho (0,_) ⟨by simp,h0,h1,rfl⟩
 ·cases h
theorem asS{l:bG}{aw:Int×Bool}(hl:eQ l.length)(ho:iS l):
 ∀p:Nat×Int,(p.1<=l.length∧0<=p.2∧p.2<=131072∧sB p.2 (l.drop p.1)=aw)->
 bF Z 49 31 0 (.aO [J aw.1,.aA aw.2]) ax (bk [(0,.aB (bw l) l.length 4),(1,J p.2),(6,J (p.1:Int))]) ax (ao Z 49 0):=by
 refine cX (fun p=>l.length-p.1) _ _ _ _ ?_;rintro⟨i,left⟩ ⟨hi,h0,h1,hf⟩ ih;simp only at hi h0 h1 hf ih⊢;refine hD Pj 1000 (fun _=>[0,1,6]) (by kernel_rfl) ?_;rw[asU];refine aY.2 ⟨fun an=>?_,fun a8=>?_⟩
 ·have an:i<l.length:=by simpa using an
  obtain⟨k,n,s,m,he,bU,bq⟩:=oj an ho;rw[dv an,he,sB]at hf;have hs:=I' (.mk k n s m);refine⟨i,rfl,an,k,n,s,_,_,bU,⟨rfl,um bq⟩,?_⟩;refine aY.2 ⟨fun h=>?_,fun h=>?_⟩
  ·have h:¬jX (.mk k n s m)=true:=by rw[nY]at h;simpa using h
   rw[az h]at hf;subst hf;exact⟨rfl,rfl⟩
  ·have h:jX (.mk k n s m)=true:=by rw[nY]at h;simpa using h
   rw[aN h]at hf;refine⟨i,rfl,an,k,n,s,_,_,bU,⟨rfl,um bq⟩,?_⟩;rw[nY,iA hl an,dz (by omega) (by omega)];refine aY.2 ⟨fun h=>?_,fun h=>?_⟩
   ·rw[aN (by simpa using h)]at hf;subst hf;exact⟨rfl,rfl⟩
   ·have h:¬left+dH (.mk k n s m)>131072:=by simpa using h
    rw[az h]at hf;exact ih (i+1,_) ⟨by simp;omega,by simp only;omega,by simp only;omega,hf⟩ (by simp;omega)
 ·have a8:l.length<=i:=by simpa using a8
  rw[dV a8,sB]at hf;subst hf;exact⟨rfl,rfl⟩
theorem Pk:bn Z JS:=by
 refine jM Pj fun args q v h hq=>?_
 unfold agJ at h;split at h<;>cases h;obtain⟨⟨h0,h1⟩,l,rfl,rfl,hl,ho⟩:=hq;refine eS Pj 1000 (fun _=>[0,1,6]) 31 (by kernel_rfl) ?_;rw[asT,DO];exact asS hl ho (0,_) ⟨by simp,h0,h1,rfl⟩
theorem abt{left:Int}{l:bG}(h:0<=left)(hl:l.length=0):kg left l=true∧(bh l:Int)=0:=by have:l=[]:=List.length_eq_zero_iff.1 hl;subst this;exact⟨rS.2 ⟨by simp,by simpa[bh]using h⟩,by simp[bh]⟩
theorem Lk{left:Int}{l:bG}(h:kg left l=true):0<=left-bh l:=by have:=(rS.1 h).2;omega
theorem arH{l:c7}{aw:Bool}(hl:eQ l.length)(ho:∀g∈l,oK g):
 ∀p:Nat×Bool×Int,(p.1<=l.length∧0<=p.2.2∧p.2.2<=131072∧lC p.2.1 p.2.2 (l.drop p.1)=aw)->
 bF Z 21 113 0 (.aA aw) ax (wg p.2.1 (ck l) l.length (p.1:Int)) (jR p.2.2) (ao Z 21 0):=by
 refine cX (fun p=>l.length-p.1) _ _ _ _ ?_;rintro⟨i,ji,left⟩ ⟨hi,h0,h1,hf⟩ ih;simp only at hi h0 h1 hf ih⊢;refine hD Pk 2000 (fun _=>[3,4,29,30,31]) (by kernel_rfl) ?_;rw[arJ];refine aY.2 ⟨fun an=>?_,fun a8=>?_⟩
 ·have an:i<l.length:=by simpa using an
  obtain⟨k,nm,ar,aM,ls,v,he,bU,bq⟩:=o5 an ho;rw[dv an,he,lC]at hf;simp only at hf;refine⟨i,rfl,an,k,nm,ar,aM,_,_,v,bU,?_⟩;rw[iA hl an];have lJ:(p8 ji ⟨k,⟨nm,ar,aM⟩,ls,v⟩=false∨kg left ls=false)->iI (.aA aw) ax (.aA false) (aq [] 0):=by
   rintro(h|h)
   ·rw[h]at hf;simp at hf;exact⟨by rw[hf],rfl⟩
   ·rw[h]at hf;simp at hf;exact⟨by rw[hf],rfl⟩
  have th:∀c' Ci,p8 ji ⟨k,⟨nm,ar,aM⟩,ls,v⟩=true->kg left ls=true->c'=(ji||k==1)->Ci=left-bh ls->
   bF Z 21 113 0 (.aA aw) ax (wg c' (ck l) l.length ((i+1:Nat):Int)) (jR Ci) (ao Z 21 0):=by
   rintro _ _ h2 h3 rfl rfl;rw[h2,h3,jf,jf]at hf;have:=Lk h3;exact ih (i+1,_,_) ⟨by simp;omega,this,by simp only;omega,hf⟩ (by simp;omega)
  have hr:=W3 left ls h0;have uf:=fun h=>abt (l:=ls) h0 h
  have mi:=MQ bq.2.1 bq.2.2;simp only at mi;rw[DO,hr.1];clear ih hf bU he an hi hl ho bq;repeat' first
   |refine aY.2 ⟨fun _=>?_,fun _=>?_⟩
   |refine⟨⟨rfl,trivial⟩,?_⟩
   |refine⟨⟨rfl,⟨h0,h1⟩,mi⟩,?_⟩
   |fail
  all_goals first
   |(refine lJ ?_;clear lJ th hr mi;simp_all[p8,u7,xK,lA];done)
   |(refine lJ ?_;clear lJ th hr mi;left;simp_all[p8,u7,xK,lA]<;>(try intros)<;>omega)
   |(refine lJ ?_;clear lJ th hr mi;left;simp_all[p8,u7,xK,lA]<;>(try intros)<;>simp_all;done)
   |(refine th _ _ ?_ ?_ ?_ ?_<;>clear lJ th<;>simp_all[p8,u7,xK,lA]<;>omega)
   |(exfalso;clear lJ th hr mi uf;simp_all;done)
 ·have a8:l.length<=i:=by simpa using a8
  rw[dV a8,lC]at hf;subst hf;exact⟨rfl,rfl⟩
theorem Pl:bn Z JT:=by
 refine jM Pk fun args q v h hq=>?_
 unfold OZ at h;split at h<;>cases h;obtain⟨⟨⟨nm,ar,aM⟩,ls,gs⟩,rfl,ho⟩:=hq;refine eS Pk 1000 (fun _=>[3,4,29,30,31]) 113 (by kernel_rfl) ?_;rw[ye,dj,arI,DO];have hr:=W3 131072 ls (by omega);have mi:=MQ ho.2.1 ho.2.2.1;simp only at mi;rw[hr.1];refine⟨⟨rfl,trivial⟩,?_⟩;simp only[ei];refine aY.2 ⟨fun h1=>?_,fun h1=>?_⟩
 ·have h1:jL ⟨nm,ar,aM⟩=false:=by simpa using h1
  rw[h1];exact⟨rfl,rfl⟩
 ·have h1:jL ⟨nm,ar,aM⟩=true:=by simpa using h1
  refine aY.2 ⟨fun h2=>?_,fun h2=>?_⟩
  ·have h2:¬((ls.length:Int)=ar):=by simpa using h2
   rw[h1,decide_eq_false h2];exact⟨rfl,rfl⟩
  ·have h2:(ls.length:Int)=ar:=by simpa using h2
   refine⟨⟨rfl,⟨by omega,by omega⟩,mi⟩,aY.2 ⟨fun h3=>?_,fun h3=>?_⟩⟩
   ·have h3:kg 131072 ls=false:=by simpa using h3
    rw[h1,h3];exact⟨by simp,rfl⟩
   ·have h3:kg 131072 ls=true:=by simpa using h3
    rw[h1,h3,decide_eq_true h2,hr.2 h3];have:=Lk h3;exact arH ho.2.2.2.1 ho.2.2.2.2 (0,false,_) ⟨by simp,this,by simp only;omega,by simp⟩
theorem aqY{nm:LN}{ar aM:Int}{cs:LV}{len:Nat}{l:c7}{aw:Bool}(hl:eQ l.length)(ho:∀g∈l,oK g):
 ∀p:Nat×Bool×Int,(p.1<=l.length∧0<=p.2.2∧p.2.2<=131072∧lC p.2.1 (131072-p.2.2) (l.drop p.1)=aw)->
 bF Z 12 123 0 (.aA aw) ax (sA p.2.2 p.2.1 (p.1:Int)) (o6 [.aa nm,J ar,J aM,.aB cs len 4,.aB (ck l) l.length 6] 27) (ao Z 12 0):=by
 refine cX (fun p=>l.length-p.1) _ _ _ _ ?_;rintro⟨i,ji,n⟩ ⟨hi,h0,h1,hf⟩ ih;simp only at hi h0 h1 hf ih⊢;refine hD Pl 2000 (fun _=>[1,3,5,6]) (by kernel_rfl) ?_;rw[aq0];refine aY.2 ⟨fun an=>?_,fun a8=>?_⟩
 ·have an:i<l.length:=by simpa using an
  obtain⟨k,k_,kP,kQ,ls,v,he,bU,bq⟩:=o5 an ho;rw[dv an,he,lC]at hf;simp only at hf;refine⟨i,rfl,an,k,k_,kP,kQ,_,_,v,bU,?_⟩;rw[iA hl an];have lJ:(p8 ji ⟨k,⟨k_,kP,kQ⟩,ls,v⟩=false∨kg (131072-n) ls=false)->iI (.aA aw) ax (.aA false) (aq [] 0):=by
   rintro(h|h)
   ·rw[h]at hf;simp at hf;exact⟨by rw[hf],rfl⟩
   ·rw[h]at hf;simp at hf;exact⟨by rw[hf],rfl⟩
  have th:∀c' n',p8 ji ⟨k,⟨k_,kP,kQ⟩,ls,v⟩=true->kg (131072-n) ls=true->c'=(ji||k==1)->n'=n+bh ls->
   bF Z 12 123 0 (.aA aw) ax (sA n' c' ((i+1:Nat):Int)) (o6 [.aa nm,J ar,J aM,.aB cs len 4,.aB (ck l) l.length 6] 27) (ao Z 12 0):=by
   rintro _ _ h2 h3 rfl rfl;rw[h2,h3,jf,jf]at hf;have:=Lk h3;exact ih (i+1,_,_) ⟨by simp;omega,by simp only;omega,by simp only;omega,by simp only;rw[←hf];congr 1;omega⟩ (by simp;omega)
  have hr:=XC n ls h1;have uf:=fun h=>abt (left:=131072-n) (l:=ls) (by omega) h
  have mi:=MQ bq.2.1 bq.2.2;simp only at mi;rw[DO,hr.1];clear ih hf bU he an hi hl ho bq;repeat' first
   |refine aY.2 ⟨fun _=>?_,fun _=>?_⟩
   |refine⟨⟨rfl,trivial⟩,?_⟩
   |refine⟨⟨rfl,⟨h0,h1⟩,mi⟩,?_⟩
   |fail
  all_goals first
   |(refine lJ ?_;clear lJ th hr mi;simp_all[p8,u7,xK,lA];done)
   |(refine lJ ?_;clear lJ th hr mi;left;simp_all[p8,u7,xK,lA]<;>(try intros)<;>omega)
   |(refine lJ ?_;clear lJ th hr mi;left;simp_all[p8,u7,xK,lA]<;>(try intros)<;>simp_all;done)
   |(refine th _ _ ?_ ?_ ?_ ?_<;>clear lJ th<;>simp_all[p8,u7,xK,lA]<;>omega)
   |(exfalso;clear lJ th hr mi uf;simp_all;done)
 ·have a8:l.length<=i:=by simpa using a8
  rw[dV a8,lC]at hf;subst hf;exact⟨rfl,rfl⟩
theorem Gk:bn Z Dp:=by
 refine jM Pl fun args q v h hq=>?_
 unfold OZ at h;split at h<;>cases h;obtain⟨⟨⟨nm,ar,aM⟩,ls,gs⟩,rfl,ho⟩:=hq;refine eS Pl 1000 (fun _=>[1,3,5,6]) 123 (by kernel_rfl) ?_;rw[ye,dj,aqZ,DO];have hr:=XC 0 ls (by omega);have mi:=MQ ho.2.1 ho.2.2.1;simp only at mi;rw[hr.1];refine⟨⟨rfl,⟨by omega,by omega⟩,mi⟩,?_⟩;simp only[ei];have e:(131072:Int)-0=131072:=rfl;rw[e]at hr⊢;refine aY.2 ⟨fun h3=>?_,fun h3=>?_⟩
 ·have h3:kg 131072 ls=false:=by simpa using h3
  rw[h3];exact⟨by simp,rfl⟩
 ·have h3:kg 131072 ls=true:=by simpa using h3
  refine⟨⟨rfl,trivial⟩,aY.2 ⟨fun h1=>?_,fun h1=>?_⟩⟩
  ·have h1:jL ⟨nm,ar,aM⟩=false:=by simpa using h1
   rw[h1];exact⟨rfl,rfl⟩
  ·have h1:jL ⟨nm,ar,aM⟩=true:=by simpa using h1
   refine aY.2 ⟨fun h2=>?_,fun h2=>?_⟩
   ·have h2:¬((ls.length:Int)=ar):=by simpa using h2
    rw[h1,decide_eq_false h2];exact⟨rfl,rfl⟩
   ·have h2:(ls.length:Int)=ar:=by simpa using h2
    rw[h1,h3,decide_eq_true h2,hr.2 h3];have:=Lk h3;exact aqY ho.2.2.2.1 ho.2.2.2.2 (0,false,_) ⟨by simp,by simp only;omega,by simp only;omega,by simp⟩
def nk:List (Nat×LN)->Nat->LN
 |[],_=>[]
 |(a,l)::m,r=>bif Nat.beq a r then l else nk m r
def oh:Int->bG->Int
 |n,[]=>n
 |n,t::l=>if n<=3000 then oh (n+dH t) l else n
def xM:Int->c7->Bool
 |n,[]=>decide (n>3000)
 |n,g::l=>if g.cP.length>1500 then true else xM (oh n g.cP) l
def wi(f:a9):Bool:=if f.aQ.length>1500∨f.au.length>500 then true else xM (oh 0 f.aQ) f.au
def ag2:LV->Option (Prop×AV)
 |[.aj cells]=>some (Ab cells,.aA (m_ wi cells))
 |_=>none
def Pm:Ev.bC:=ft 5 (fy ag2) Dp
def Am:Nat->LN:=nk [(5,[1,3,4]),(9,[1,3,5]),(14,[1,3,5,6])]
def fH(nm:LN)(ar aM:Int)(cs:LV)(len:Nat)(gs:LV)(gl:Nat):AH:=aq [(0,.ay [.aa nm,J ar,J aM,.aB cs len 4,.aB gs gl 6] 27)] 1
theorem atc(nm:LN)(ar aM:Int)(cs:LV)(len:Nat)(gs:LV)(gl:Nat)(L:LT)(Q:QT):
 b_ Z Dp Am L Q 1000 5 [.aj [.aa nm,J ar,J aM,.aB cs len 4,.aB gs gl 6]] ax=(
 ai (decide (Int.ofNat len>1500)) (Q (.aA true) ax) (ai (decide (Int.ofNat gl>500)) (Q (.aA true) ax) (L (bk [(1,.ad 0 0),(3,J 0),(4,J 0)]) (fH nm ar aM cs len gs gl) (ao Z 5 0)))):=by kernel_rfl
abbrev CW x0 x1:=bk [(1,.ad 0 0),(3,J x0),(5,J x1)]
theorem atd(nm:LN)(ar aM:Int)(cs:LV)(len:Nat)(gs:LV)(gl:Nat)(n i:Int)(L:LT)(Q:QT):
 cT Z Dp Am L Q 1000 5 0 (bk [(1,.ad 0 0),(3,J n),(4,J i)]) (ao Z 5 0) (fH nm ar aM cs len gs gl)=(
 ai (decide (i<Int.ofNat len)) (ai (decide (n<=3000)) (∃aI:Nat,i=(aI:Int)∧aI<len∧(∃aP:Int,∃bp:Int,∃s:LN,∃cN:LV,∃cz:Nat,(cs.drop (aI*4)).take 4=[J aP,J bp,.aa s,.aB cN cz 4]∧(aq [] 0=ax∧o_ [J aP,J bp,.aa s,.aB cN cz 4])∧L (bk [(1,.ad 0 0),(3,J (wI (n+jA dH [J aP,J bp,.aa s,.aB cN cz 4]))),(4,J (wI (i+1)))]) (fH nm ar aM cs len gs gl) (ao Z 5 0))) (L (CW n 0) (fH nm ar aM cs len gs gl) (ao Z 5 1))) (L (CW n 0) (fH nm ar aM cs len gs gl) (ao Z 5 1))):=by kernel_rfl
theorem ate(nm:LN)(ar aM:Int)(cs:LV)(len:Nat)(gs:LV)(gl:Nat)(n i:Int)(L:LT)(Q:QT):
 cT Z Dp Am L Q 1000 5 0 (CW n i) (ao Z 5 1) (fH nm ar aM cs len gs gl)=(
 ai (decide (i<Int.ofNat gl)) (∃aI:Nat,i=(aI:Int)∧aI<gl∧(∃aP:Int,∃s:LN,∃bp:Int,∃bI:Int,∃cN:LV,∃cz:Nat,∃cS:Int,(gs.drop (aI*6)).take 6=[J aP,.aa s,J bp,J bI,.aB cN cz 4,J cS]∧ai (decide (Int.ofNat cz>1500)) (Q (.aA true) ax) (L (bk [(1,.ad 0 0),(3,J n),(5,J i),(6,J 0)]) (fH nm ar aM cs len gs gl) (ao Z 5 2)))) (Q (.aA (decide (n>3000))) ax)):=by kernel_rfl
theorem atf(nm:LN)(ar aM:Int)(cs:LV)(len:Nat)(gs:LV)(gl:Nat)(n i k:Int)(L:LT)(Q:QT):
 cT Z Dp Am L Q 1000 5 0 (bk [(1,.ad 0 0),(3,J n),(5,J i),(6,J k)]) (ao Z 5 2) (fH nm ar aM cs len gs gl)=(
 ∃aI:Nat,i=(aI:Int)∧aI<gl∧(∃aP:Int,∃s:LN,∃bp:Int,∃bI:Int,∃cN:LV,∃cz:Nat,∃cS:Int,(gs.drop (aI*6)).take 6=[J aP,.aa s,J bp,J bI,.aB cN cz 4,J cS]∧ai (decide (k<Int.ofNat cz)) (ai (decide (n<=3000)) (∃bz:Nat,i=(bz:Int)∧bz<gl∧(∃ib:Int,∃dO:LN,∃jI:Int,∃np:Int,∃rP:LV,∃sd:Nat,∃oH:Int,(gs.drop (bz*6)).take 6=[J ib,.aa dO,J jI,J np,.aB rP sd 4,J oH]∧(∃cd:Nat,k=(cd:Int)∧cd<sd∧(∃oI:Int,∃uy:Int,∃uK:LN,∃RM:LV,∃Vu:Nat,(rP.drop (cd*4)).take 4=[J oI,J uy,.aa uK,.aB RM Vu 4]∧(aq [] 0=ax∧o_ [J oI,J uy,.aa uK,.aB RM Vu 4])∧L (bk [(1,.ad 0 0),(3,J (wI (n+jA dH [J oI,J uy,.aa uK,.aB RM Vu 4]))),(5,J i),(6,J (wI (k+1)))]) (fH nm ar aM cs len gs gl) (ao Z 5 2))))) (L (CW n (wI (i+1))) (fH nm ar aM cs len gs gl) (ao Z 5 1))) (L (CW n (wI (i+1))) (fH nm ar aM cs len gs gl) (ao Z 5 1)))):=by kernel_rfl
theorem agA:∀(n:Int) (l:bG),0<=n->n<=5001->0<=oh n l∧oh n l<=5001
 |n,[],h,h2=>⟨h,h2⟩
 |n,t::l,h,h2=>by
  have:=I' t;simp only[oh];split
  ·exact agA _ l (by omega) (by omega)
  ·exact⟨h,h2⟩
section
variable{nm:LN}{ar aM:Int}{ls:bG}{gs:c7}
theorem atb{aw:Bool}{n':Int}{i:Nat}(bq:fL ⟨⟨nm,ar,aM⟩,ls,gs⟩)(hi:i<gs.length)
 (ew:bF Z 5 80 0 (.aA aw) ax (CW n' ((i+1:Nat):Int)) (fH nm ar aM (bw ls) ls.length (ck gs) gs.length) (ao Z 5 1)):
 ∀p:Nat×Int,(p.1<=gs[i].cP.length∧0<=p.2∧p.2<=5001∧oh p.2 (gs[i].cP.drop p.1)=n')->
 bF Z 5 80 0 (.aA aw) ax (bk [(1,.ad 0 0),(3,J p.2),(5,J (i:Int)),(6,J (p.1:Int))]) (fH nm ar aM (bw ls) ls.length (ck gs) gs.length) (ao Z 5 2):=by
 obtain⟨k,k_,kP,kQ,ts,v,he,bU,hg⟩:=o5 hi bq.2.2.2.2;have qV:=bq.2.2.2.1;simp only at qV;rw[he];refine cX (fun p=>ts.length-p.1) _ _ _ _ ?_;rintro⟨j,n⟩ ⟨hj,h0,h1,hf⟩ ih;simp only at hj h0 h1 hf ih⊢;refine hD Gk 1000 Am (by kernel_rfl) ?_;rw[atf];refine⟨i,rfl,hi,k,k_,kP,kQ,_,_,v,bU,?_⟩;refine aY.2 ⟨fun an=>?_,fun a8=>?_⟩
 ·have an:j<ts.length:=by simpa using an
  obtain⟨k1,n1,s1,m1,zP,Uu,Ui⟩:=oj an hg.2.2;rw[dv an,zP,oh]at hf;have hs:=I' (.mk k1 n1 s1 m1);refine aY.2 ⟨fun h=>?_,fun h=>?_⟩
  ·have h:n<=3000:=by simpa using h
   rw[aN h]at hf;refine⟨i,rfl,hi,k,k_,kP,kQ,_,_,v,bU,j,rfl,an,k1,n1,s1,_,_,Uu,⟨rfl,um Ui⟩,?_⟩;rw[nY,iA hg.2.1 an,dz (by omega) (by omega)];exact ih (j+1,_) ⟨by simp;omega,by simp only;omega,by simp only;omega,hf⟩ (by simp;omega)
  ·have h:¬n<=3000:=by simpa using h
   rw[az h]at hf;subst hf;rw[iA qV hi];exact ew
 ·have a8:ts.length<=j:=by simpa using a8
  rw[dV a8,oh]at hf;subst hf;rw[iA qV hi];exact ew
theorem af0{aw:Bool}(bq:fL ⟨⟨nm,ar,aM⟩,ls,gs⟩):
 ∀p:Nat×Int,(p.1<=gs.length∧0<=p.2∧p.2<=5001∧xM p.2 (gs.drop p.1)=aw)->
 bF Z 5 80 0 (.aA aw) ax (CW p.2 (p.1:Int)) (fH nm ar aM (bw ls) ls.length (ck gs) gs.length) (ao Z 5 1):=by
 refine cX (fun p=>gs.length-p.1) _ _ _ _ ?_;rintro⟨i,n⟩ ⟨hi,h0,h1,hf⟩ ih;simp only at hi h0 h1 hf ih⊢;refine hD Gk 1000 Am (by kernel_rfl) ?_;rw[ate];refine aY.2 ⟨fun an=>?_,fun a8=>?_⟩
 ·have an:i<gs.length:=by simpa using an
  obtain⟨k,k_,kP,kQ,ts,v,he,bU,hg⟩:=o5 an bq.2.2.2.2;rw[dv an,xM]at hf;refine⟨i,rfl,an,k,k_,kP,kQ,_,_,v,bU,?_⟩;refine aY.2 ⟨fun h=>?_,fun h=>?_⟩
  ·rw[aN (by rw[he];simp at h⊢;omega)]at hf;subst hf;exact⟨rfl,rfl⟩
  ·rw[az (by rw[he];simp at h⊢;omega)]at hf;have hb:=agA n gs[i].cP h0 h1;exact atb bq an (ih (i+1,_) ⟨by simp;omega,hb.1,hb.2,hf⟩ (by simp;omega)) (0,n) ⟨by simp,h0,h1,by simp⟩
 ·have a8:gs.length<=i:=by simpa using a8
  rw[dV a8,xM]at hf;subst hf;exact⟨rfl,rfl⟩
theorem ata{aw:Bool}(bq:fL ⟨⟨nm,ar,aM⟩,ls,gs⟩):
 ∀p:Nat×Int,(p.1<=ls.length∧0<=p.2∧p.2<=5001∧xM (oh p.2 (ls.drop p.1)) gs=aw)->
 bF Z 5 80 0 (.aA aw) ax (bk [(1,.ad 0 0),(3,J p.2),(4,J (p.1:Int))]) (fH nm ar aM (bw ls) ls.length (ck gs) gs.length) (ao Z 5 0):=by
 have dY:=bq.2.1;simp only at dY;refine cX (fun p=>ls.length-p.1) _ _ _ _ ?_;rintro⟨j,n⟩ ⟨hj,h0,h1,hf⟩ ih;simp only at hj h0 h1 hf ih⊢;refine hD Gk 1000 Am (by kernel_rfl) ?_;rw[atd];refine aY.2 ⟨fun an=>?_,fun a8=>?_⟩
 ·have an:j<ls.length:=by simpa using an
  obtain⟨k1,n1,s1,m1,zP,Uu,Ui⟩:=oj an bq.2.2.1;rw[dv an,zP,oh]at hf;have hs:=I' (.mk k1 n1 s1 m1);refine aY.2 ⟨fun h=>?_,fun h=>?_⟩
  ·have h:n<=3000:=by simpa using h
   rw[aN h]at hf;refine⟨j,rfl,an,k1,n1,s1,_,_,Uu,⟨rfl,um Ui⟩,?_⟩;rw[nY,iA dY an,dz (by omega) (by omega)];exact ih (j+1,_) ⟨by simp;omega,by simp only;omega,by simp only;omega,hf⟩ (by simp;omega)
  ·have h:¬n<=3000:=by simpa using h
   rw[az h]at hf;exact af0 bq (0,n) ⟨by simp,h0,h1,by simpa using hf⟩
 ·have a8:ls.length<=j:=by simpa using a8
  rw[dV a8,oh]at hf;exact af0 bq (0,n) ⟨by simp,h0,h1,by simpa using hf⟩
end
theorem Pn:bn Z Pm:=by
 refine jM Gk fun args q v h hq=>?_
 unfold ag2 at h;split at h<;>cases h;obtain⟨⟨⟨nm,ar,aM⟩,ls,gs⟩,rfl,ho⟩:=hq;refine eS Gk 1000 Am 80 (by kernel_rfl) ?_;rw[ye,dj,atc];simp only[wi];refine aY.2 ⟨fun h1=>?_,fun h1=>?_⟩
 ·rw[aN (by simp at h1;left;omega)];exact⟨rfl,rfl⟩
 ·refine aY.2 ⟨fun h2=>?_,fun h2=>?_⟩
  ·rw[aN (by simp at h2;right;omega)];exact⟨rfl,rfl⟩
  ·rw[az (by simp at h1 h2;omega)];exact ata ho (0,0) ⟨by simp,by simp,by simp,by simp⟩
section anh
variable{β:Type}(ev:β->AV)
def bK:Nat->List (Int×β)->List (AV×AV×Nat)
 |_,[]=>[]
 |b,(k,v)::l=>(J k,ev v,b)::bK (b+1) l
def aw7(l:List (Int×β)):bc:=.bM (bK ev 0 l) l.length true
def lk(k:Int):List (Int×β)->Option β
 |[]=>none
 |(x,v)::l=>if k=x then some v else lk k l
def up(k:Int)(v:β):List (Int×β)->List (Int×β)
 |[]=>[(k,v)]
 |(x,w)::l=>if k=x then(k,v)::l else(x,w)::up k v l
def ix(k:Int):List (Int×β)->Option Nat
 |[]=>none
 |(x,v)::l=>if k=x then some 0 else(ix k l).map (· +1)
theorem lK(k:Int)(v:β)(j:Int):∀l:List (Int×β),lk j (up k v l)=if j=k then some v else lk j l
 |[]=>by simp only[up,lk]
 |(x,w)::l=>by
  simp only[up];by_cases h:k=x
  ·subst h;rw[aN rfl];simp only[lk];split<;>rfl
  ·rw[az h];simp only[lk];by_cases h2:j=x
   ·subst h2;rw[aN rfl,aN rfl,az (fun e=>h e.symm)]
   ·rw[az h2,az h2,lK k v j l]
def Gw(P:Program)(kt:TypeId):Prop:=∀a b:Int,iQ P 100 kt (J a) (J b)=some (a==b)
variable{P:Program}{kt:TypeId}
theorem SH(hk:Gw P kt)(k:Int):∀(l:List (Int×β)) (b j:Nat),
 mE (iQ P 100 kt) (J k) (bK ev b l) j=some (match ix k l,lk k l with|some i,some v=>some (j+i,ev v,b+i)|_,_=>none)
 |[],b,j=>rfl
 |(x,v)::l,b,j=>by
  simp only[bK,mE,hk k x,ix,lk];by_cases h:k=x
  ·subst h;simp
  ·have:(k==x)=false:=by simpa using h
   rw[this,az h,az h];simp only;rw[SH hk k l (b+1) (j+1)];cases ix k l<;>cases lk k l<;>simp[Nat.add_assoc,Nat.add_comm 1]
theorem MS{k:Int}:∀{l:List (Int×β)},ix k l=none->lk k l=none∧∀v,up k v l=l++[(k,v)]
 |[],_=>⟨rfl,fun _=>rfl⟩
 |(x,w)::l,h=>by
  simp only[ix]at h;split at h
  ·cases h
  ·rename_i hx;have:=MS (l:=l) (by simpa using h);simp only[lk,up,az hx,this.1,true_and];intro v;rw[this.2 v];rfl
theorem aaL:∀(l m:List (Int×β)) (b:Nat),bK ev b (l++m)=bK ev b l++bK ev (b+l.length) m
 |[],m,b=>rfl
 |(x,w)::l,m,b=>by simp only[mQ,bK,aaL l m (b+1),bR];congr 3;omega
theorem U4{k:Int}:∀{l:List (Int×β)} {i:Nat},ix k l=some i->∀b,(∃v,lk k l=some v)∧yY (bK ev b l) i (J k)=true∧
 (∀v,pT (bK ev b l) i (fun e=>(J k,ev v,e.2.2))=bK ev b (up k v l))∧∀v,(up k v l).length=l.length
 |[],_,h,_=>by cases h
 |(x,w)::l,i,h,b=>by
  simp only[ix]at h;split at h
  ·rename_i hx;cases h;subst hx;refine⟨⟨w,by simp[lk]⟩,?_,fun v=>by simp[up,bK,pT],fun v=>by simp[up]⟩;simp[yY,bK,Lg,Hp]
  ·rename_i hx;obtain⟨i',h',rfl⟩:=Option.map_eq_some_iff.1 h;obtain⟨⟨v,h1⟩,h2,h3,h4⟩:=U4 (l:=l) h' (b+1);refine⟨⟨v,by simp[lk,hx,h1]⟩,?_,fun v=>?_,fun v=>by simp[up,hx,h4]⟩
   ·simpa[yY,bK]using h2
   ·simp only[up,az hx,bK,pT,h3]
theorem qj(hk:Gw P kt){e:TypeId}{k:Int}{l:List (Int×β)}{b:Nat}:
 gf P kt e (bK ev b l) (J k)=(match lk k l with|some v=>some (ev v,true)|none=>(kM P e).map (·,false)):=by
 unfold gf;rw[SH ev hk k l b 0];cases hi:ix k l with
 |none=>rw[(MS hi).1]
 |some i=>obtain⟨⟨v,h1⟩,_⟩:=U4 ev hi 0;rw[h1]
theorem pj(hk:Gw P kt){k:Int}{l:List (Int×β)}{v:β}:
 lN P kt (bK ev 0 l) l.length (J k) (ev v)=some (bK ev 0 (up k v l),(up k v l).length):=by
 unfold lN;rw[SH ev hk k l 0 0];cases hi:ix k l with
 |none=>rw[(MS hi).1,(MS hi).2 v,aaL];simp[bK]
 |some i=>obtain⟨⟨w,h1⟩,h2,h3,h4⟩:=U4 ev hi 0;rw[h1];simp only[fD,h2,cond_true,h3,h4]
end anh
theorem lz:Gw Z 2:=fun a b=>by kernel_rfl
theorem yh:Gw Z 3:=fun a b=>by kernel_rfl
theorem Dd:kM Z 3=some (J 0):=by kernel_rfl
theorem Pa:kM Z 4=some (.aA false):=by kernel_rfl
def vB(b:Bool):AV:=.aA b
theorem rR{β:Type}{ev:β->AV}(he:∀a b,ev a=ev b->a=b):∀{l m:List (Int×β)} {b:Nat},bK ev b l=bK ev b m->l=m
 |[],[],_,_=>rfl
 |[],_::_,_,h=>by cases h
 |_::_,[],_,h=>by cases h
 |(k,v)::l,(k',v')::m,b,h=>by simp only[bK,List.cons.injEq,Prod.mk.injEq,AV.cM.injEq,true_and,and_true]at h;obtain⟨⟨rfl,h1⟩,h2⟩:=h;rw[he _ _ h1,rR he h2]
theorem xJ(a b:Int)(h:J a=J b):a=b:=by cases h;rfl
theorem agQ(a b:Bool)(h:vB a=vB b):a=b:=by cases h;rfl
structure ba where
 op:Int
 r:Int
 a:Int
 n:Int
 cR:LN
 ar:Int
 deriving DecidableEq,Inhabited
abbrev bS:=List ba
def bP(i:ba):LV:=[J i.op,J i.r,J i.a,J i.n,.aa i.cR,J i.ar]
def bZ:bS->LV
 |[]=>[]
 |i::l=>bP i++bZ l
theorem Bm{i j:ba}(h:bP i=bP j):i=j:=by obtain⟨a,b,c,d,e,f⟩:=i;obtain⟨a',b',c',d',e',f'⟩:=j;simp only[bP,List.cons.injEq,AV.cM.injEq,AV.aa.injEq,true_and,and_true]at h;obtain⟨rfl,rfl,rfl,rfl,rfl,rfl⟩:=h;rfl
theorem Bn(i:ba):(bP i).length=6:=rfl
theorem o3:∀l:bS,(bZ l).length=l.length*6
 |[]=>rfl
 |i::l=>by simp[bZ,Bn,o3 l];omega
theorem D_:∀{l m:bS},bZ l=bZ m->l=m
 |[],[],_=>rfl
 |[],i::_,h=>by simp[bZ,bP]at h
 |i::_,[],h=>by simp[bZ,bP]at h
 |t::l,u::m,h=>by simp only[bZ]at h;have h2:=List.append_inj h (by rw[Bn,Bn]);rw[Bm h2.1,D_ h2.2]
theorem zz:∀(l m:bS),bZ (l++m)=bZ l++bZ m
 |[],m=>rfl
 |i::l,m=>by simp[bZ,zz l m]
theorem aaP{l:bS}{i:Nat}(h:i<l.length):((bZ l).drop (i*6)).take 6=bP l[i]:=by
 induction l generalizing i with
 |nil=>simp at h
 |cons t0 l ih=>
  cases i with
  |zero=>simp only[bZ,Nat.zero_mul,hI,List.getElem_cons_zero];exact List.take_left' (l₂:=bZ l) (Bn t0)
  |succ i=>
   have hl:i<l.length:=by simpa using h
   have:=ih hl;simp only[bZ,List.getElem_cons_succ];rw[←this];congr 1;have e:(i+1)*6=(bP t0).length+i*6:=by rw[Bn];omega
   rw[e,List.drop_length_add_append]
theorem Hj:∀l:bS,(bZ l).all AV.ec=true∧(bZ l).all je=true
 |[]=>⟨rfl,rfl⟩
 |i::l=>by have:=Hj l;simp only[bZ,List.all_append,this.1,this.2,Bool.and_true];exact⟨rfl,rfl⟩
structure Em where
 aX:bS
 f:a9
 hJ:LP
 aC:LP
 bo:LP
 dh:List (Int×Bool)
 cG:Int
 c_:Bool
def bT(m:Em):AH:=aq [
 (0,.ay [.ae 1 m.aX.length 6,.aa m.f.aH.cL,J m.f.aH.ar,J m.f.aH.aM,.aB (bw m.f.aQ) m.f.aQ.length 4,.aB (ck m.f.au) m.f.au.length 6,.aS 2,.aS 3,.aS 4,.aS 5,J m.cG,.aA m.c_] 71),
 (1,.aL (bZ m.aX) 50),(2,.bM (bK J 0 m.hJ) m.hJ.length true),(3,.bM (bK J 0 m.aC) m.aC.length true),(4,.bM (bK J 0 m.bo) m.bo.length true),(5,.bM (bK vB 0 m.dh) m.dh.length true)] 6
theorem Hh{m m':Em}(h:bT m=bT m'):m=m':=by have h0:=congrArg (fun H=>AH.bD H 0) h;have h1:=congrArg (fun H=>AH.bD H 1) h;have h2:=congrArg (fun H=>AH.bD H 2) h;have h3:=congrArg (fun H=>AH.bD H 3) h;have h4:=congrArg (fun H=>AH.bD H 4) h;have h5:=congrArg (fun H=>AH.bD H 5) h;obtain⟨code,⟨⟨a,b,c⟩,l,g⟩,count,aC,bo,dh,next,c_⟩:=m;obtain⟨KW,⟨⟨a',b',c'⟩,l',g'⟩,RL,Wn,XB,U6,vU,adu⟩:=m';have q0:(some (bc.ay [.ae 1 code.length 6,.aa a,J b,J c,.aB (bw l) l.length 4,.aB (ck g) g.length 6,.aS 2,.aS 3,.aS 4,.aS 5,J next,.aA c_] 71):Option bc)=some (bc.ay [.ae 1 KW.length 6,.aa a',J b',J c',.aB (bw l') l'.length 4,.aB (ck g') g'.length 6,.aS 2,.aS 3,.aS 4,.aS 5,J vU,.aA adu] 71):=h0;have q1:(some (bc.aL (bZ code) 50))=some (bc.aL (bZ KW) 50):=h1;have q2:some (bc.bM (bK J 0 count) count.length true)=some (bc.bM (bK J 0 RL) RL.length true):=h2;have q3:some (bc.bM (bK J 0 aC) aC.length true)=some (bc.bM (bK J 0 Wn) Wn.length true):=h3;have q4:some (bc.bM (bK J 0 bo) bo.length true)=some (bc.bM (bK J 0 XB) XB.length true):=h4;have q5:some (bc.bM (bK vB 0 dh) dh.length true)=some (bc.bM (bK vB 0 U6) U6.length true):=h5;simp only[nu,bc.ay.injEq,List.cons.injEq,AV.cM.injEq,AV.aa.injEq,AV.aB.injEq,AV.aA.injEq,AV.ae.injEq,true_and,and_true]at q0;simp only[nu,bc.aL.injEq,bc.bM.injEq,and_true]at q1 q2 q3 q4 q5;obtain⟨_,rfl,rfl,rfl,⟨k1,k2⟩,⟨k3,k4⟩,rfl,rfl⟩:=q0;rw[D_ q1,wP k2 k1,Hi k4 k3,rR xJ q2.1,rR xJ q3.1,rR xJ q4.1,rR agQ q5.1]
def jU(m:Em):AH:=aq [
 (0,.ay [.ae 6 m.aX.length 6,.aa m.f.aH.cL,J m.f.aH.ar,J m.f.aH.aM,.aB (bw m.f.aQ) m.f.aQ.length 4,.aB (ck m.f.au) m.f.au.length 6,.aS 2,.aS 3,.aS 4,.aS 5,J m.cG,.aA m.c_] 71),
 (1,.bJ []),(2,.bM (bK J 0 m.hJ) m.hJ.length true),(3,.bM (bK J 0 m.aC) m.aC.length true),(4,.bM (bK J 0 m.bo) m.bo.length true),(5,.bM (bK vB 0 m.dh) m.dh.length true),(6,.aL (bZ m.aX) 50)] 7
theorem aaM(m:Em):Mv (bT m) (jU m) 1:=by
 refine⟨⟨bZ m.aX,50,by rw[bT,eA];rfl,by show(jU m).bD 6=_;rw[jU,eA];rfl⟩,by rw[jU,eA];rfl,rfl,?_⟩;intro id cp h1 h2 h;have h2:id≠6:=h2;rw[jU,eA]at h;rw[bT,eA];simp only[dL]at h⊢;by_cases h3:id=0
 ·subst h3;simp at h;subst h;exact⟨_,rfl,by simp[lM,iV,eK,jW,aq]⟩
 ·rw[az h3,az h1]at h;rw[az h3,az h1];by_cases h4:id=2
  ·subst h4;simp at h;subst h;exact⟨_,rfl,by simp[lM]⟩
  ·by_cases h5:id=3
   ·subst h5;simp at h;subst h;exact⟨_,rfl,by simp[lM]⟩
   ·by_cases h6:id=4
    ·subst h6;simp at h;subst h;exact⟨_,rfl,by simp[lM]⟩
    ·by_cases h7:id=5
     ·subst h7;simp at h;subst h;exact⟨_,rfl,by simp[lM]⟩
     ·simp[h4,h5,h6,h7,h2]at h
theorem v5(cs:LV)(off:Nat):bA Z 3 cs off=cs[off]? :=by kernel_rfl
theorem FK(cs:LV)(off:Nat):bA Z 2 cs off=cs[off]? :=by kernel_rfl
def jt(c:bS)(i:ba):bS:=
 if i.op=10 then
  match c.getLast? with
  |some j=>if j.op=10 then c.dropLast++[⟨j.op,j.r,j.a,wI (j.n+i.n),j.cR,j.ar⟩]else c++[i]
  |none=>c++[i]
 else c++[i]
def Em.ah(m:Em)(i:ba):Em:=⟨jt m.aX i,m.f,m.hJ,m.aC,m.bo,m.dh,m.cG,m.c_⟩
def DX:dP (Em×ba)where
 bN w args H:=args=[.ad 0 0,.aj (bP w.2)]∧H=bT w.1∧w.1.aX.length<65536
 v w:=.aO []
 aU w:=jU (w.1.ah w.2)
def Em.bX(m:Em):Em:=⟨m.aX,m.f,m.hJ,m.aC,m.bo,m.dh,wI (m.cG+1),m.c_||decide (wI (m.cG+1)>4096)⟩
def KT:dP Em where
 bN m args H:=args=[.ad 0 0]∧H=bT m
 v m:=J m.bX.cG
 aU m:=bT m.bX
theorem ajn:DX.dT:=by rintro⟨m,i⟩ ⟨m',i'⟩ args H ⟨h1,h2,_⟩ ⟨h3,h4,_⟩;simp only at h1 h2 h3 h4;rw[h1]at h3;rw[h2]at h4;have:=Hh h4;subst this;simp only[List.cons.injEq,AV.aj.injEq,true_and,and_true]at h3;rw[Bm h3]
theorem aiN:KT.dT:=by rintro m m' args H ⟨_,h2⟩ ⟨_,h4⟩;rw[h2]at h4;rw[Hh h4]
def cV(_:LV)(_:AH):Bool:=true
def Po:Ev.bC:=cB 26 (cO DX ajn cV) Pm
def Pp:Ev.bC:=cB 101 (cO KT aiN cV) Po
theorem afV(m:Em)(i:ba)(L:LT)(Q:QT):
 b_ Z Pm (fun _=>[]) L Q 1000 26 [.ad 0 0,.aj (bP i)] (bT m)=(
 ai (i.op==10) (ai (decide (Int.ofNat m.aX.length>0)) (∃aI:Nat,wI (Int.ofNat m.aX.length-1)=(aI:Int)∧aI<m.aX.length∧(∃n:Int,bA Z 3 (bZ m.aX) (aI*6+0)=some (J n:AV)∧ai (n==10) (∃bz:Nat,wI (Int.ofNat m.aX.length-1)=(bz:Int)∧bz<m.aX.length∧(∃aP:Int,bA Z 2 (bZ m.aX) (bz*6+3)=some (J aP:AV)∧(∃cd:Nat,wI (Int.ofNat m.aX.length-1)=(cd:Int)∧cd<m.aX.length∧cd*6+3+1<=(bZ m.aX).length∧Q (.aO []) (aq [(0,.ay [.ae 1 m.aX.length 6,.aa m.f.aH.cL,J m.f.aH.ar,J m.f.aH.aM,.aB (bw m.f.aQ) m.f.aQ.length 4,.aB (ck m.f.au) m.f.au.length 6,.aS 2,.aS 3,.aS 4,.aS 5,J m.cG,.aA m.c_] 71),(1,.aL (fA (bZ m.aX) (cd*6+3) [J (wI (aP+i.n))]) 50),(2,.bM (bK J 0 m.hJ) m.hJ.length true),(3,.bM (bK J 0 m.aC) m.aC.length true),(4,.bM (bK J 0 m.bo) m.bo.length true),(5,.bM (bK vB 0 m.dh) m.dh.length true)] 6)))) (((bZ m.aX).length=m.aX.length*6∧m.aX.length+1<=65536∧true=true∧true=true)∧Q (.aO []) (aq [(0,.ay [.ae 6 (m.aX.length+1) 6,.aa m.f.aH.cL,J m.f.aH.ar,J m.f.aH.aM,.aB (bw m.f.aQ) m.f.aQ.length 4,.aB (ck m.f.au) m.f.au.length 6,.aS 2,.aS 3,.aS 4,.aS 5,J m.cG,.aA m.c_] 71),(1,.bJ []),(2,.bM (bK J 0 m.hJ) m.hJ.length true),(3,.bM (bK J 0 m.aC) m.aC.length true),(4,.bM (bK J 0 m.bo) m.bo.length true),(5,.bM (bK vB 0 m.dh) m.dh.length true),(6,.aL (bZ m.aX++bP i) 50)] 7)))) (((bZ m.aX).length=m.aX.length*6∧m.aX.length+1<=65536∧true=true∧true=true)∧Q (.aO []) (aq [(0,.ay [.ae 6 (m.aX.length+1) 6,.aa m.f.aH.cL,J m.f.aH.ar,J m.f.aH.aM,.aB (bw m.f.aQ) m.f.aQ.length 4,.aB (ck m.f.au) m.f.au.length 6,.aS 2,.aS 3,.aS 4,.aS 5,J m.cG,.aA m.c_] 71),(1,.bJ []),(2,.bM (bK J 0 m.hJ) m.hJ.length true),(3,.bM (bK J 0 m.aC) m.aC.length true),(4,.bM (bK J 0 m.bo) m.bo.length true),(5,.bM (bK vB 0 m.dh) m.dh.length true),(6,.aL (bZ m.aX++bP i) 50)] 7))) (((bZ m.aX).length=m.aX.length*6∧m.aX.length+1<=65536∧true=true∧true=true)∧Q (.aO []) (aq [(0,.ay [.ae 6 (m.aX.length+1) 6,.aa m.f.aH.cL,J m.f.aH.ar,J m.f.aH.aM,.aB (bw m.f.aQ) m.f.aQ.length 4,.aB (ck m.f.au) m.f.au.length 6,.aS 2,.aS 3,.aS 4,.aS 5,J m.cG,.aA m.c_] 71),(1,.bJ []),(2,.bM (bK J 0 m.hJ) m.hJ.length true),(3,.bM (bK J 0 m.aC) m.aC.length true),(4,.bM (bK J 0 m.bo) m.bo.length true),(5,.bM (bK vB 0 m.dh) m.dh.length true),(6,.aL (bZ m.aX++bP i) 50)] 7))):=by kernel_rfl
theorem apx(m:Em)(L:LT)(Q:QT):
 b_ Z Po (fun _=>[]) L Q 1000 101 [.ad 0 0] (bT m)=(
 ai (decide (wI (m.cG+1)>4096)) (Q (J (wI (m.cG+1))) (aq [(0,.ay [.ae 1 m.aX.length 6,.aa m.f.aH.cL,J m.f.aH.ar,J m.f.aH.aM,.aB (bw m.f.aQ) m.f.aQ.length 4,.aB (ck m.f.au) m.f.au.length 6,.aS 2,.aS 3,.aS 4,.aS 5,J (wI (m.cG+1)),.aA true] 71),(1,.aL (bZ m.aX) 50),(2,.bM (bK J 0 m.hJ) m.hJ.length true),(3,.bM (bK J 0 m.aC) m.aC.length true),(4,.bM (bK J 0 m.bo) m.bo.length true),(5,.bM (bK vB 0 m.dh) m.dh.length true)] 6)) (Q (J (wI (m.cG+1))) (aq [(0,.ay [.ae 1 m.aX.length 6,.aa m.f.aH.cL,J m.f.aH.ar,J m.f.aH.aM,.aB (bw m.f.aQ) m.f.aQ.length 4,.aB (ck m.f.au) m.f.au.length 6,.aS 2,.aS 3,.aS 4,.aS 5,J (wI (m.cG+1)),.aA m.c_] 71),(1,.aL (bZ m.aX) 50),(2,.bM (bK J 0 m.hJ) m.hJ.length true),(3,.bM (bK J 0 m.aC) m.aC.length true),(4,.bM (bK J 0 m.bo) m.bo.length true),(5,.bM (bK vB 0 m.dh) m.dh.length true)] 6))):=by kernel_rfl
theorem Bl{c:bS}{i:ba}(h:i.op≠10):jt c i=c++[i]:=by simp[jt,h]
theorem K7{i:ba}:jt [] i=[i]:=by simp[jt]
theorem sT{d:bS}{j i:ba}(h:i.op=10):jt (d++[j]) i=if j.op=10 then d++[⟨j.op,j.r,j.a,wI (j.n+i.n),j.cR,j.ar⟩]else d++[j]++[i]:=by simp[jt,h]
theorem zy(c:bS)(i:ba):(jt c i).length<=c.length+1:=by
 rcases List.eq_nil_or_concat c with rfl|⟨d,j,rfl⟩
 ·simp[K7]
 ·by_cases h:i.op=10
  ·rw[List.concat_eq_append,sT h];split<;>simp
  ·rw[Bl h];simp
theorem vh(d:bS)(j:ba):bZ (d++[j])=bZ d++bP j:=by rw[zz];simp[bZ]
theorem ar5(m:Em)(i:ba)(hl:m.aX.length<65536):eC Z 26 [.ad 0 0,.aj (bP i)] (bT m) (.aO []) (jU (m.ah i)):=by
 obtain⟨c,f,count,aC,bo,dh,next,c_⟩:=m;simp only at hl;have bU:(bZ c).length=c.length*6:=o3 c;have tQ:jt c i=c++[i]->∀x:Prop,x->iI (.aO []) (jU (Em.ah ⟨c,f,count,aC,bo,dh,next,c_⟩ i)) (.aO []) (aq [(0,.ay [.ae 6 (c.length+1) 6,.aa f.aH.cL,J f.aH.ar,J f.aH.aM,.aB (bw f.aQ) f.aQ.length 4,.aB (ck f.au) f.au.length 6,.aS 2,.aS 3,.aS 4,.aS 5,J next,.aA c_] 71),(1,.bJ []),(2,.bM (bK J 0 count) count.length true),(3,.bM (bK J 0 aC) aC.length true),(4,.bM (bK J 0 bo) bo.length true),(5,.bM (bK vB 0 dh) dh.length true),(6,.aL (bZ c++bP i) 50)] 7):=by intro h x _;refine⟨rfl,?_⟩;rw[Em.ah,h,jU];simp only[bj,bR,cI,vh]
 by_cases hb:i.op=10∧∃d j,c=d++[j]∧j.op=10
 ·obtain⟨hi,d,j,rfl,hj⟩:=hb;refine Ec (v:=.aO []) (H:=bT (Em.ah ⟨d++[j],f,count,aC,bo,dh,next,c_⟩ i)) ?_ (aaM _) (by simp[eK,iV]) (eh _);refine eS Pn 1000 (fun _=>[]) 53 (by kernel_rfl) ?_;rw[afV];simp only;have bH:(d++[j]).length=d.length+1:=by simp
  have e1:wI (Int.ofNat (d++[j]).length-1)=((d.length:Nat):Int):=by rw[bH]at hl⊢;rw[dz (by simp only[fX];omega) (by simp only[fX];omega)];simp
  have hd:(bZ d).length=d.length*6:=o3 d;have g0:bA Z 3 (bZ (d++[j])) (d.length*6+0)=some (J j.op):=by rw[v5,vh,xB (by omega)];simp[hd,bP]
  have g3:bA Z 2 (bZ (d++[j])) (d.length*6+3)=some (J j.n):=by rw[FK,vh,xB (by omega)];simp[hd,bP]
  refine aY.2 ⟨fun _=>aY.2 ⟨fun _=>?_,fun h=>?_⟩,fun h=>?_⟩
  ·refine⟨d.length,e1,by simp,j.op,g0,aY.2 ⟨fun _=>?_,fun h=>?_⟩⟩
   ·refine⟨d.length,e1,by simp,j.n,g3,d.length,e1,by simp,by rw[bU,bH];omega,rfl,?_⟩;have:bZ (jt (d++[j]) i)=fA (bZ (d++[j])) (d.length*6+3) [J (wI (j.n+i.n))]:=by
     rw[sT hi,aN hj,vh,vh];have:bP j=[J j.op,J j.r,J j.a]++[J j.n,.aa j.cR,J j.ar]:=rfl;have e2:bZ d++bP j=(bZ d++[J j.op,J j.r,J j.a])++[J j.n,.aa j.cR,J j.ar]:=by rw[this,iy]
     unfold fA;rw[e2,List.take_left' (by simp[hd]),List.drop_append];simp[hd,bP]
    rw[Em.ah,bT];simp only[this];have e3:(jt (d++[j]) i).length=(d++[j]).length:=by rw[sT hi,aN hj];simp
    rw[e3]
   ·simp[hj]at h
  ·simp at h
  ·simp[hi]at h
 ·refine eS Pn 1000 (fun _=>[]) 53 (by kernel_rfl) ?_;rw[afV];simp only;have Tu:((bZ c).length=c.length*6)∧(c.length+1<=65536)∧True∧True:=⟨bU,by omega,trivial,trivial⟩;refine aY.2 ⟨fun h=>aY.2 ⟨fun h2=>?_,fun h2=>?_⟩,fun h=>?_⟩
  ·have h:i.op=10:=by simpa using h
   rcases List.eq_nil_or_concat c with rfl|⟨d,j,rfl⟩
   ·simp at h2
   ·rw[List.concat_eq_append]at*;have hj:j.op≠10:=fun e=>hb ⟨h,d,j,rfl,e⟩
    have bH:(d++[j]).length=d.length+1:=by simp
    have e1:wI (Int.ofNat (d++[j]).length-1)=((d.length:Nat):Int):=by rw[bH]at hl⊢;rw[dz (by simp only[fX];omega) (by simp only[fX];omega)];simp
    have hd:(bZ d).length=d.length*6:=o3 d;have g0:bA Z 3 (bZ (d++[j])) (d.length*6+0)=some (J j.op):=by rw[v5,vh,xB (by omega)];simp[hd,bP]
    refine⟨d.length,e1,by simp,j.op,g0,aY.2 ⟨fun h3=>?_,fun _=>?_⟩⟩
    ·exact absurd (by simpa using h3) hj
    ·exact⟨Tu,tQ (by rw[sT h,az hj]) True trivial⟩
  ·have h2:c=[]:=by simpa using h2
   subst h2;exact⟨Tu,tQ K7 True trivial⟩
  ·have h:i.op≠10:=by simpa using h
   exact⟨Tu,tQ (Bl h) True trivial⟩
theorem Yd:bn Z Po:=by refine dc Pn ?_;rintro⟨m,i⟩ args H ⟨rfl,rfl,hl⟩;exact ar5 m i hl
theorem Ye:bn Z Pp:=by
 refine dc Yd ?_;rintro m args H ⟨rfl,rfl⟩;refine eS Yd 1000 (fun _=>[]) 22 (by kernel_rfl) ?_;rw[apx];refine aY.2 ⟨fun h=>?_,fun h=>?_⟩
 ·refine⟨rfl,?_⟩;simp only[KT,Em.bX,bT,h,Bool.or_true]
 ·refine⟨rfl,?_⟩;simp only[KT,Em.bX,bT,h,Bool.or_false]
def Em.mF(m:Em)(v:Int):Bool:=(lk v m.aC).isNone&&(lk v m.bo).isNone
def Em.iU(m:Em)(v:Int):Int:=
 match lk v m.aC with
 |some k=>wI (-k)
 |none=>match lk v m.bo with
  |some r=>r
  |none=>wI (m.cG+1)
def Em.ic(m:Em)(v:Int):Em:=⟨m.aX,m.f,m.hJ,m.aC,bif m.mF v then up v (wI (m.cG+1)) m.bo else m.bo,m.dh,
 bif m.mF v then wI (m.cG+1)else m.cG,bif m.mF v then m.c_||decide (wI (m.cG+1)>4096)else m.c_⟩
def WO:dP (Em×Int)where
 bN w args H:=args=[.ad 0 0,J w.2]∧H=bT w.1
 v w:=J (w.1.iU w.2)
 aU w:=bT (w.1.ic w.2)
theorem apa:WO.dT:=by rintro⟨m,v⟩ ⟨m',v'⟩ args H ⟨h1,h2⟩ ⟨h3,h4⟩;simp only at h1 h2 h3 h4;rw[h2]at h4;rw[h1]at h3;rw[Hh h4];cases h3;rfl
def Em.ur(m:Em)(v:Int):Em:=⟨m.aX,m.f,m.hJ,m.aC,m.bo,up v true m.dh,m.cG,m.c_⟩
def Em.lI(m:Em)(v:Int):Bool:=(lk v m.dh).getD false
def Em.fY(m:Em)(v first uv a:Int):Em:=((m.ic v).ah ⟨bif m.lI v then uv else first,m.iU v,a,0,[],0⟩).ur v
def XM:dP (Em×Int×Int×Int×Int)where
 bN w args H:=args=[.ad 0 0,J w.2.1,J w.2.2.1,J w.2.2.2.1,J w.2.2.2.2]∧H=bT w.1∧w.1.aX.length<65536
 v w:=.aO []
 aU w:=jU (w.1.fY w.2.1 w.2.2.1 w.2.2.2.1 w.2.2.2.2)
theorem avK:XM.dT:=by rintro⟨m,v,a,b,c⟩ ⟨m',v',a',b',c'⟩ args H ⟨h1,h2,_⟩ ⟨h3,h4,_⟩;simp only at h1 h2 h3 h4;rw[h2]at h4;rw[h1]at h3;rw[Hh h4];cases h3;rfl
def Pq:Ev.bC:=cB 102 (cO WO apa cV) Pp
def Pr:Ev.bC:=cB 98 (cO XM avK cV) Pq
theorem apy(m:Em)(v:Int)(L:LT)(Q:QT):
 b_ Z Pp (fun _=>[]) L Q 1000 102 [.ad 0 0,J v] (bT m)=(
 ∃n:Int,∃b:Bool,gf Z 2 3 (bK J 0 m.aC) (J v)=some (J n,b)∧ai b (Q (J (wI (0-n))) (bT m)) (∃aP:Int,∃iE:Bool,gf Z 2 3 (bK J 0 m.bo) (J v)=some (J aP,iE)∧ai (!iE) (∃w:Em,(([.ad 0 0]:LV)=[.ad 0 0]∧bT m=bT w)∧(∃bQ:List (AV×AV×Nat),∃c':Nat,lN Z 2 (bK J 0 w.bX.bo) w.bX.bo.length (J v) (J w.bX.cG)=some (bQ,c')∧Q (J w.bX.cG) (aq [(0,.ay [.ae 1 w.bX.aX.length 6,.aa w.bX.f.aH.cL,J w.bX.f.aH.ar,J w.bX.f.aH.aM,.aB (bw w.bX.f.aQ) w.bX.f.aQ.length 4,.aB (ck w.bX.f.au) w.bX.f.au.length 6,.aS 2,.aS 3,.aS 4,.aS 5,J w.bX.cG,.aA w.bX.c_] 71),(1,.aL (bZ w.bX.aX) 50),(2,.bM (bK J 0 w.bX.hJ) w.bX.hJ.length true),(3,.bM (bK J 0 w.bX.aC) w.bX.aC.length true),(4,.bM bQ c' true),(5,.bM (bK vB 0 w.bX.dh) w.bX.dh.length true)] 6))) (Q (J aP) (bT m)))):=by kernel_rfl
theorem auy(m:Em)(v first uv a:Int)(L:LT)(Q:QT):
 b_ Z Pq (fun _=>[]) L Q 1000 98 [.ad 0 0,J v,J first,J uv,J a] (bT m)=(
 ∃b:Bool,∃iE:Bool,gf Z 2 4 (bK vB 0 m.dh) (J v)=some (.aA b,iE)∧ai (!b) (∃w:Em×Int,(([.ad 0 0,J v]:LV)=[.ad 0 0,J w.2]∧bT m=bT w.1)∧(∃ab:Em×ba,(([.ad 0 0,.aj [J first,J (w.1.iU w.2),J a,J 0,.aa [],J 0]]:LV)=[.ad 0 0,.aj (bP ab.2)]∧bT (w.1.ic w.2)=bT ab.1∧ab.1.aX.length<65536)∧(∃bQ:List (AV×AV×Nat),∃c':Nat,lN Z 2 (bK vB 0 (ab.1.ah ab.2).dh) (ab.1.ah ab.2).dh.length (J v) (.aA true)=some (bQ,c')∧Q (.aO []) (aq [(0,.ay [.ae 6 (ab.1.ah ab.2).aX.length 6,.aa (ab.1.ah ab.2).f.aH.cL,J (ab.1.ah ab.2).f.aH.ar,J (ab.1.ah ab.2).f.aH.aM,.aB (bw (ab.1.ah ab.2).f.aQ) (ab.1.ah ab.2).f.aQ.length 4,.aB (ck (ab.1.ah ab.2).f.au) (ab.1.ah ab.2).f.au.length 6,.aS 2,.aS 3,.aS 4,.aS 5,J (ab.1.ah ab.2).cG,.aA (ab.1.ah ab.2).c_] 71),(1,.bJ []),(2,.bM (bK J 0 (ab.1.ah ab.2).hJ) (ab.1.ah ab.2).hJ.length true),(3,.bM (bK J 0 (ab.1.ah ab.2).aC) (ab.1.ah ab.2).aC.length true),(4,.bM (bK J 0 (ab.1.ah ab.2).bo) (ab.1.ah ab.2).bo.length true),(5,.bM bQ c' true),(6,.aL (bZ (ab.1.ah ab.2).aX) 50)] 7)))) (∃w:Em×Int,(([.ad 0 0,J v]:LV)=[.ad 0 0,J w.2]∧bT m=bT w.1)∧(∃ab:Em×ba,(([.ad 0 0,.aj [J uv,J (w.1.iU w.2),J a,J 0,.aa [],J 0]]:LV)=[.ad 0 0,.aj (bP ab.2)]∧bT (w.1.ic w.2)=bT ab.1∧ab.1.aX.length<65536)∧(∃bQ:List (AV×AV×Nat),∃c':Nat,lN Z 2 (bK vB 0 (ab.1.ah ab.2).dh) (ab.1.ah ab.2).dh.length (J v) (.aA true)=some (bQ,c')∧Q (.aO []) (aq [(0,.ay [.ae 6 (ab.1.ah ab.2).aX.length 6,.aa (ab.1.ah ab.2).f.aH.cL,J (ab.1.ah ab.2).f.aH.ar,J (ab.1.ah ab.2).f.aH.aM,.aB (bw (ab.1.ah ab.2).f.aQ) (ab.1.ah ab.2).f.aQ.length 4,.aB (ck (ab.1.ah ab.2).f.au) (ab.1.ah ab.2).f.au.length 6,.aS 2,.aS 3,.aS 4,.aS 5,J (ab.1.ah ab.2).cG,.aA (ab.1.ah ab.2).c_] 71),(1,.bJ []),(2,.bM (bK J 0 (ab.1.ah ab.2).hJ) (ab.1.ah ab.2).hJ.length true),(3,.bM (bK J 0 (ab.1.ah ab.2).aC) (ab.1.ah ab.2).aC.length true),(4,.bM (bK J 0 (ab.1.ah ab.2).bo) (ab.1.ah ab.2).bo.length true),(5,.bM bQ c' true),(6,.aL (bZ (ab.1.ah ab.2).aX) 50)] 7))))):=by kernel_rfl
theorem Yf:bn Z Pq:=by
 refine dc Ye ?_;rintro⟨m,v⟩ args H ⟨rfl,rfl⟩;refine eS Ye 1000 (fun _=>[]) 41 (by kernel_rfl) ?_;rw[apy];simp only[WO,Em.iU,Em.ic,Em.mF];cases hp:lk v m.aC with
 |some k=>refine⟨k,true,by rw[qj _ lz,hp],aY.2 ⟨fun _=>⟨by rw[Int.zero_sub],rfl⟩,fun h=>by cases h⟩⟩
 |none=>
  refine⟨0,false,by rw[qj _ lz,hp,Dd];rfl,aY.2 ⟨fun h=>(by cases h),fun _=>?_⟩⟩;cases ht:lk v m.bo with
  |some r=>refine⟨r,true,by rw[qj _ lz,ht],aY.2 ⟨fun h=>(by cases h),fun _=>⟨rfl,rfl⟩⟩⟩
  |none=>refine⟨0,false,by rw[qj _ lz,ht,Dd];rfl,aY.2 ⟨fun _=>?_,fun h=>(by cases h)⟩⟩;refine⟨m,⟨by trivial,rfl⟩,_,_,pj J lz,rfl,rfl⟩
theorem avL(m:Em)(v first uv a:Int)(b:Bool)(hb:m.lI v=b):m.fY v first uv a=((m.ic v).ah ⟨bif b then uv else first,m.iU v,a,0,[],0⟩).ur v:=by rw[Em.fY,hb]
theorem Ps:bn Z Pr:=by
 refine dc Yf ?_;rintro⟨m,v,first,uv,a⟩ args H ⟨rfl,rfl,hl⟩;refine eS Yf 1000 (fun _=>[]) 35 (by kernel_rfl) ?_;rw[auy];have hk:∃b:Bool,∃iE:Bool,gf Z 2 4 (bK vB 0 m.dh) (J v)=some (.aA b,iE)∧m.lI v=b:=by
  rw[qj _ lz];unfold Em.lI;cases lk v m.dh with
  |none=>exact⟨false,false,by rw[Pa];rfl,rfl⟩
  |some b=>exact⟨b,true,rfl,rfl⟩
 obtain⟨b,b1,h1,h2⟩:=hk;refine⟨b,b1,h1,?_⟩;simp only[XM];rw[avL m v first uv a b h2];refine aY.2 ⟨fun h=>?_,fun h=>?_⟩
 ·have h:b=false:=by simpa using h
  subst h;exact⟨(m,v),⟨rfl,rfl⟩,(m.ic v,⟨first,m.iU v,a,0,[],0⟩),⟨rfl,rfl,hl⟩,_,_,pj vB lz,rfl,rfl⟩
 ·have h:b=true:=by simpa using h
  subst h;exact⟨(m,v),⟨rfl,rfl⟩,(m.ic v,⟨uv,m.iU v,a,0,[],0⟩),⟨rfl,rfl,hl⟩,_,_,pj vB lz,rfl,rfl⟩
end
end Go.Cl
