/- Part of a proof of AreaLists. -/
import Derived.Test.YtjgjeokjclpjnaaGreatA5
import Derived.Test.YtjgjeokjclpjnaaGreatProg
import Derived.KernelRfl
set_option linter.all false
set_option linter.unusedSectionVars false
set_option maxRecDepth 100000
namespace Go.Cl
open Go.Ev
noncomputable section
abbrev LT:=Tr AV->AH->List dP->Prop
abbrev QT:=AV->AH->Prop
abbrev J(n:Int):AV:=.bU .i64 n
abbrev wI(n:Int):Int:=IntKind.i64.wrap n
inductive aI where
 |mk (kind n:Int) (name:LN) (args:List aI)
 deriving Inhabited
namespace aI
def cq:aI->Int|mk k _ _ _=>k
def n:aI->Int|mk _ n _ _=>n
def cK:aI->LN|mk _ _ s _=>s
def bh:aI->List aI|mk _ _ _ l=>l
end aI
abbrev eK:=List aI
mutual
def aW:aI->LV
 |.mk k n s l=>[.bU .i64 k,.bU .i64 n,.ab s,.ad (aF l) l.length 4]
def aF:eK->LV
 |[]=>[]
 |t::l=>aW t++aF l
end
theorem sE(t):(aW t).length=4:=by cases t;simp[aW]
theorem rV:∀l,(aF l).length=l.length*4
 |[]=>rfl
 |t::l=>by simp[aF,sE,rV l];omega
theorem KI:∀{l i} (h:i<l.length),((aF l).drop (i*4)).take 4=aW l[i]
 |[],i,h=>by simp at h
 |t0::l,0,h=>by simp;have:=xm (l₂:=aF l) (sE t0);exact this
 |t0::l,i+1,h=>by
  have hl:i<l.length:=by simpa using h
  have:=KI hl;simp only[aF,Cz];rw[<-this];have e:(i+1)*4=(aW t0).length+i*4:=by rw[sE];omega
  rw[e,I2]
mutual
theorem m_:∀{t u:aI},aW t=aW u->t=u
 |.mk k n s l,.mk k' n' s' l',h=>by simp only[aW,jn,AV.bU.injEq,AV.ab.injEq,AV.ad.injEq,true_and,and_true]at h;obtain⟨rfl,rfl,rfl,h,hl⟩:=h;rw[tQ hl h]
theorem tQ:∀{l m:eK},l.length=m.length->aF l=aF m->l=m
 |[],[],_,_=>rfl
 |[],_::_,h,_=>by simp at h
 |_::_,[],h,_=>by simp at h
 |t::l,u::m,hl,h=>by simp only[aF]at h;have h2:=l4 h (by rw[sE,sE]);rw[m_ h2.1,tQ (by simpa using hl) h2.2]
end
def ig{α:Type}[Inhabited α](f:aI->α)(cells:LV):α:=
 @dite _ (∃t,aW t=cells) (Classical.propDecidable _) (λh=>f h.choose) (λ_=>default)
theorem DO{α}[Inhabited α](f:aI->α)(t):ig f (aW t)=f t:=by unfold ig;rw[dif_pos ⟨t,rfl⟩];congr 1;exact m_ (Exists.choose_spec (⟨t,rfl⟩:∃u,aW u=aW t))
def dt(n:Nat):Prop:=n<9223372036854775808
mutual
def bL:aI->Prop
 |.mk _ _ s l=>dt s.length/\dt l.length/\fy l
def fy:eK->Prop
 |[]=>True
 |t::l=>bL t/\fy l
end
theorem RQ:∀{l i} (h:i<l.length),fy l->bL l[i]
 |[],i,h,_=>by simp at h
 |t::l,0,h,ho=>ho.1
 |t::l,i+1,h,ho=>RQ (l:=l) (by simpa using h) ho.2
mutual
def bN:aI->Nat
 |.mk _ _ _ l=>1+bM l
def bM:eK->Nat
 |[]=>0
 |t::l=>bN t+bM l
end
theorem Nq:∀{l i} (h:i<l.length),bN l[i]<=bM l
 |[],i,h=>by simp at h
 |t::l,0,h=>by simp only[qdq,bM];omega
 |t::l,i+1,h=>by have:=Nq (by simpa using h);simp only[Cz,bM];omega
theorem cO{x}(h1: -9223372036854775808<=x)(h2:x<=9223372036854775807):wI x=x:=IntWalk.i64_in x (by omega)
end
end Go.Cl
namespace Go.Cl
open Go.Ev Go.Proofs
noncomputable section
def Z:Program:=Tryz.prog
theorem iO:Z.follows .mixedOrders=true:=by kernel_rfl
theorem eS0{P}(cP:P.follows .mixedOrders=true){S}(hS:aU P S)(n aR nt){f args H v H1}(mD:(P.funcs[f]?).map (·.ntmps)=some nt)(h:bI P S aR (br P f nt H.bx v H1) (fA v H1) n f args H):bZ P f args H v H1:=aqy cP hS mD h
theorem eS{S}(hS:aU Z S)(n aR nt){f args H v H1}:((Z.funcs[f]?).map (·.ntmps)=some nt)->(bI Z S aR (br Z f nt H.bx v H1) (fA v H1) n f args H)->bZ Z f args H v H1:=eS0 iO hS n aR nt
theorem hD0{P}(cP:P.follows .mixedOrders=true){S}(hS:aU P S)(n aR){f nt m0 t todo H v H1}(mD:(P.funcs[f]?).map (·.ntmps)=some nt)(h:ck P S aR (br P f nt m0 v H1) (fA v H1) n f m0 t todo H):br P f nt m0 v H1 t H todo:=ash cP hS mD h
theorem hD{S}(hS:aU Z S)(n aR){f nt m0 t todo H v H1}:((Z.funcs[f]?).map (·.ntmps)=some nt)->(ck Z S aR (br Z f nt m0 v H1) (fA v H1) n f m0 t todo H)->br Z f nt m0 v H1 t H todo:=hD0 iO hS n aR
def ntE(f:Nat):Option Nat:=(Z.funcs[f]?).map (·.ntmps)
theorem eE0{P}(cP:P.follows .mixedOrders=true){S n aR f args H v H1 R}(nt)(hS:aU P S)(e:bI P S aR (br P f nt H.bx v H1) (fA v H1) n f args H=R)(h:R)(hn:(P.funcs[f]?).map (·.ntmps)=some nt):bZ P f args H v H1:=eS0 cP hS n aR nt hn (cast e.symm h)
theorem hE0{P}(cP:P.follows .mixedOrders=true){S n aR f nt m0 t todo H v H1 R}(hS:aU P S)(e:ck P S aR (br P f nt m0 v H1) (fA v H1) n f m0 t todo H=R)(h:R)(hn:(P.funcs[f]?).map (·.ntmps)=some nt):br P f nt m0 v H1 t H todo:=hD0 cP hS n aR hn (cast e.symm h)
theorem eE{S n aR f args H v H1 R}(nt)(hS:aU Z S)(e:bI Z S aR (br Z f nt H.bx v H1) (fA v H1) n f args H=R)(h:R)(hn:ntE f=some nt:=by kernel_rfl):bZ Z f args H v H1:=eE0 iO nt hS e h hn
theorem hE{S n aR f nt m0 t todo H v H1 R}(hS:aU Z S)(e:ck Z S aR (br Z f nt m0 v H1) (fA v H1) n f m0 t todo H=R)(h:R)(hn:ntE f=some nt:=by kernel_rfl):br Z f nt m0 v H1 t H todo:=hE0 iO hS e h hn
mutual
def rJ:Int->aI->Int
 |left,.mk _ _ _ l=>wa (left-1) l
def wa:Int->eK->Int
 |left,[]=>left
 |left,t::l=>if 0<left then wa (rJ left t) l else left
end
mutual
theorem amB:∀(left:Int) (t:aI),1<=left->0<=rJ left t/\rJ left t<left
 |left,.mk _ _ _ l,h=>by have:=amD (left-1) l (by omega);simp only[rJ];omega
theorem amD:∀(left:Int) (l:eK),0<=left->0<=wa left l/\wa left l<=left
 |left,[],h=>by simp only[wa];omega
 |left,t::l,h=>by
  simp only[wa];split;next h0=>have h1:=amB left t (by omega);have:=amD (rJ left t) l h1.1;omega
  .omega
end
def za(left:Int):AH:=al [(0,.aj [J left] 3),(1,.aj [.ba (.func 140) [] [.aa 0 0,.aa 1 0]] 216)] 2
def abJ(N:Nat):LV->AH->Option (Prop×AV×AH)
 |[.ah cells,.aa 0 0,.aa 1 0],H=>match H.bf 0 with
  |some (.aj [.bU .i64 left] _)=>some (H=za left/\(1<=left/\left<=2001)/\∃t,aW t=cells/\bL t/\bN t<N,.aC [],za (ig (rJ left) cells))
  |_=>none
 |_,_=>none
def Kc(N:Nat):Ev.bo:=e9 140 (abJ N) Z0
abbrev SU x0:=aB [(1,.aa 0 0),(2,.aa 1 0),(3,.aa 2 0),(4,J x0)]
abbrev Qg x0 x1 x2 x3 x4 x5:=al [(0,.aj [J x0] 3),(1,.aj [.ba (.func 140) [] [.aa 0 0,.aa 1 0]] 216),(2,.aj [J x1,J x2,.ab x3,.ad x4 x5 4] 49)] 3
theorem aDn{k n s cs len left N L Q}:
 bI Z (Kc N) (λ_=>[1,2,3,4]) L Q 1000 140 [.ah [J k,J n,.ab s,.ad cs len 4],.aa 0 0,.aa 1 0] (za left)=(
 L (SU 0) (Qg (wI (left-1)) k n s cs len) (aw Z 140 0)):=by kernel_rfl
abbrev Xt x0:=al [(0,.aj [J x0] 3),(1,.aj [.ba (.func 140) [] [.aa 0 0,.aa 1 0]] 216)] 2
theorem aDo{k n i s cs len left N L Q}:
 ck Z (Kc N) (λ_=>[1,2,3,4]) L Q 1000 140 2 (SU i) (aw Z 140 0) (Qg left k n s cs len)=(
 aq (decide (i<aE len))
  (aq (decide (left>0))
    (∃aL:Nat,(i=(aL:Int))/\
      (aL<len)/\
      ∃aP bA cn bP bH,((cs.drop (aL*4)).take 4=[J aP,J bA,.ab cn,.ad bP bH 4])/\
      ((Xt left=za left)/\
      ((1<=left)/\
      left<=2001)/\
      ∃t,(aW t=[J aP,J bA,.ab cn,.ad bP bH 4])/\
      (bL t)/\
      bN t<N)/\
      L (SU (wI (i+1))) (Qg (ig (rJ left) [J aP,J bA,.ab cn,.ad bP bH 4]) k n s cs len) (aw Z 140 0))
    (Q (.aC []) (Xt left)))
  (Q (.aC []) (Xt left))):=by kernel_rfl
theorem aDm{k n s l N aH}(hS:aU Z (Kc N))(hl:dt l.length)(ho:fy l)(hN:bM l<N):
 ∀p:Nat×Int,(p.1<=l.length/\0<=p.2/\p.2<=2001/\wa p.2 (l.drop p.1)=aH)->
 br Z 140 25 2 (.aC []) (za aH) (SU (p.1:Int))
  (Qg p.2 k n s (aF l) l.length) (aw Z 140 0):=by
 refine dS (λp=>l.length-p.1) _ _ _ _ ?_;rintro⟨i,left⟩ ⟨hi,h0,h1,hf⟩ ih;refine hE hS aDo ?_;refine aD.2 ⟨λax=>?_,λbu=>?_⟩
 .have ax:i<l.length:=by simpa using ax
  have Ew:=List.drop_eq_getElem_cons ax;rw[Ew,wa]at hf;refine aD.2 ⟨λLF=>?_,λYo=>?_⟩
  .have LF:0<left:=by simpa using LF
   rw[aO LF]at hf;have bX:=KI ax;have a_:=RQ ax ho;have cv:=Nq ax;have hw:=amB left l[i] (by omega);generalize l[i]=u at bX a_ cv hw hf;have⟨k',n',s',l'⟩:=u;refine⟨i,rfl,ax,k',n',s',aF l',l'.length,bX,⟨rfl,⟨by omega,h1⟩,_,rfl,a_,by omega⟩,?_⟩;have e1:wI ((i:Int)+1)=((i+1:Nat):Int):=by unfold dt at hl;rw[cO (by omega) (by omega)];simp
   have e2:ig (rJ left) [J k',J n',.ab s',.ad (aF l') l'.length 4]=rJ left (.mk k' n' s' l'):=DO (rJ left) (.mk k' n' s' l');rw[e1,e2];exact ih (i+1,rJ left (.mk k' n' s' l')) ⟨by simp;omega,hw.1,by simp;omega,hf⟩ (by simp;omega)
  .have Yo:¬0<left:=by simpa using Yo
   rw[az Yo]at hf;subst hf;exact⟨rfl,rfl⟩
 .have bu:l.length<=i:=by simpa using bu
  have:=gQ bu;rw[this,wa]at hf;subst hf;exact⟨rfl,rfl⟩
theorem aDl{k n s l N left}(hS:aU Z (Kc N))(h1:1<=left)(h2:left<=2001)(a_:bL (.mk k n s l))(hN:bM l<N):
 bZ Z 140 [.ah (aW (.mk k n s l)),.aa 0 0,.aa 1 0] (za left) (.aC []) (za (rJ left (.mk k n s l))):=by
 refine eS hS 1000 (λ_=>[1,2,3,4]) 25 (by kernel_rfl) ?_;rw[aW,aDn,cO (by omega) (by omega)];exact aDm hS a_.2.1 a_.2.2 hN (0,left-1) ⟨by simp,by simp;omega,by simp;omega,rfl⟩
theorem anE:∀N,aU Z (Kc N):=by
 refine aaM ajp ?_ ?_
 .intro args H p v H' h;unfold abJ at h;split at h
  .split at h
   .cases h;rintro⟨_,_,t,_,_,h⟩;omega
   .cases h
  .cases h
 .intro N hS args H p v H' h hp;unfold abJ at h;split at h
  .split at h;next left _=>cases h;obtain⟨rfl,⟨h1,h2⟩,⟨k,n,s,l⟩,rfl,a_,cv⟩:=hp;rw[DO];simp only[bN]at cv;exact aDl hS h1 h2 a_ (by omega)
   .cases h
  .cases h
end
end Go.Cl
namespace Go.Cl
open Go.Ev
noncomputable def an:AH:=al [] 0
noncomputable def fK(s:LV->Option (Prop×AV)):LV->AH->Option (Prop×AV×AH):=λargs H=>
 match s args with
 |some (p,v)=>some (H=an/\p,v,an)
 |none=>none
theorem aay{s args H p v H'}(h:fK s args H=some (p,v,H')):∃q,s args=some (q,v)/\H'=an/\(p->H=an/\q):=by
 unfold fK at h;split at h;next q v' hs=>cases h;exact⟨q,hs,rfl,id⟩
 .cases h
theorem jD{P S f s}(hS:aU P S)(h:∀args q v,s args=some (q,v)->q->bZ P f args an v an)(cE:f≠999999:=by first|assumption|decide):aU P (e9 f (fK s) S):=by
 refine Gs hS λargs H p v H' h1 hp=>?_
 obtain⟨q,h2,rfl,h3⟩:=aay h1;obtain⟨rfl,hq⟩:=h3 hp;exact h _ _ _ h2 hq
theorem R_{P S f}{sN:Nat->LV->Option (Prop×AV)}(hS:aU P S)(h0:∀args q v,sN 0 args=some (q,v)->¬q)(j5:∀N,aU P (e9 f (fK (sN N)) S)->∀args q v,sN (N+1) args=some (q,v)->q->bZ P f args an v an)(cE:f≠999999:=by first|assumption|decide):∀N,aU P (e9 f (fK (sN N)) S):=by
 refine aaM hS ?_ ?_
 .intro args H p v H' h hp;have⟨q,h2,_,h3⟩:=aay h;exact h0 _ _ _ h2 (h3 hp).2
 .intro N hN args H p v H' h hp;obtain⟨q,h2,rfl,h3⟩:=aay h;obtain⟨rfl,hq⟩:=h3 hp;exact j5 N hN _ _ _ h2 hq
theorem OH{S f s args H x}(h:s args H=some x):oS (e9 f s S) f args H=some x:=by simp only[oS,e9,bR,k7,cond_true,Wr,h,sC]
theorem at8{P S f}{sN:Nat->LV->AH->Option (Prop×AV×AH)}{s}(hS:aU P S)(h:∀N,aU P (e9 f (sN N) S))(hs:∀args H p v H',s args H=some (p,v,H')->p->∃N q,sN N args H=some (q,v,H')/\q)(cE:f≠999999:=by first|assumption|decide):aU P (e9 f s S):=by
 refine Gs hS λargs H p v H' h1 hp=>?_
 have⟨N,q,h2,hq⟩:=hs _ _ _ _ _ h1 hp;exact(h N).1 f args H q v H' cE (OH h2) hq
theorem R5{P S f}{sN:Nat->LV->Option (Prop×AV)}{s}(hS:aU P S)(h:∀N,aU P (e9 f (fK (sN N)) S))(hs:∀args q v,s args=some (q,v)->q->∃N q',sN N args=some (q',v)/\q')(cE:f≠999999:=by first|assumption|decide):aU P (e9 f (fK s) S):=by
 refine jD hS λargs q v h1 hq=>?_
 have⟨N,q',h2,BT⟩:=hs _ _ _ h1 hq;refine(h N).1 f args an (an=an/\q') v an cE (OH ?_) ⟨rfl,BT⟩;simp only[fK,h2]
theorem sk:∀t,1<=bN t
 |.mk _ _ _ l=>by simp only[bN];omega
mutual
theorem amA:∀(left:Int) (t:aI),1<=left->rJ left t=max 0 (left-bN t)
 |left,.mk _ _ _ l,h=>by simp only[rJ,bN];rw[amC _ l (by omega)];omega
theorem amC:∀(left:Int) (l:eK),0<=left->wa left l=max 0 (left-bM l)
 |left,[],h=>by simp only[wa,bM];omega
 |left,t::l,h=>by
  simp only[wa,bM];have:=sk t;split
  .rw[amA left t (by omega),amC _ l (by omega)];omega
  .omega
end
def cU(t:aI):Int:=min (bN t) 2001
def As(k n:Int)(s:LN)(len:Nat):Bool:=
 if k=0 then decide (0<=n/\n<=1099511627776/\s.length=0/\len=0)
 else if k=1 then decide (s.length=0/\len=0)
 else if k=2 then decide (n=0/\s.length<=100/\len=0)
 else if k=3 then decide (n=0/\s.length<=100/\0<len/\len<=8)
 else false
mutual
def iV:aI->Bool
 |.mk k n s l=>As k n s l.length&&pV l
def pV:eK->Bool
 |[]=>true
 |t::l=>iV t&&pV l
end
def eJ(t:aI):Bool:=decide (bN t<=2000)&&iV t
end Go.Cl
namespace Go.Cl
open Go.Ev
def Ip(N:Nat)(cells:LV):Prop:=∃t,aW t=cells/\bL t/\bN t<N
def kU(cells:LV):Prop:=∃t,aW t=cells/\bL t
theorem jV{α}[Inhabited α](f:aI->α)(k n s l):ig f [J k,J n,.ab s,.ad (aF l) l.length 4]=f (.mk k n s l):=DO f (.mk k n s l)
theorem Zd{N k n s l}(h:bL (.mk k n s l))(h2:bN (.mk k n s l)<N):Ip N [J k,J n,.ab s,.ad (aF l) l.length 4]:=⟨_,rfl,h,h2⟩
theorem mE{k n s l}(h:bL (.mk k n s l)):kU [J k,J n,.ab s,.ad (aF l) l.length 4]:=⟨_,rfl,h⟩
theorem lh{i n}(h:dt n)(hi:i<n):wI ((i:Int)+1)=((i+1:Nat):Int):=by unfold dt at h;rw[cO (by omega) (by omega)];simp
theorem xw{l i}(h:i<l.length){N}(ho:fy l)(hN:bM l<N){P:aI->Prop}(hp:P l[i]):
 ∃k n s m,P (.mk k n s m)/\l[i]=.mk k n s m/\((aF l).drop (i*4)).take 4=[J k,J n,.ab s,.ad (aF m) m.length 4]/\bL (.mk k n s m)/\bN (.mk k n s m)<N:=by
 have bX:=KI h;have a_:=RQ h ho;have cv:=Nq h;generalize l[i]=u at*;have⟨k,n,s,m⟩:=u;exact⟨k,n,s,m,hp,rfl,bX,a_,by omega⟩
theorem fY{α:Type}{l:List α}{i}(h:i<l.length):l.drop i=l[i]::l.drop (i+1):=List.drop_eq_getElem_cons h
end Go.Cl
namespace Go.Cl
open Go.Ev Go.Proofs
noncomputable section
def amz:LV->AH->Option (Prop×AV×AH)
 |[.ah cells,.aa 0 0,.aa 1 0],H=>match H.bf 0 with
  |some (.aj [.bU .i64 left] _)=>some (H=za left/\(1<=left/\left<=2001)/\kU cells,.aC [],za (ig (rJ left) cells))
  |_=>none
 |_,_=>none
def B1:Ev.bo:=e9 140 amz Z0
def SB:LV->Option (Prop×AV)
 |[.ah cells]=>some (kU cells,J (ig cU cells))
 |_=>none
def B2:Ev.bo:=e9 103 (fK SB) B1
def ajr:LV->Option (Prop×AV)
 |[.ah [.bU .i64 k,.bU .i64 n,.ab s,.ad cs len 4]]=>some (True,.ao (As k n s len))
 |_=>none
def B3:Ev.bo:=e9 108 (fK ajr) B2
def Ci(N:Nat):LV->Option (Prop×AV)
 |[.ah cells]=>some (Ip N cells,.ao (ig iV cells))
 |_=>none
def RB:LV->Option (Prop×AV)
 |[.ah cells]=>some (kU cells,.ao (ig iV cells))
 |_=>none
def NO(N:Nat):Ev.bo:=e9 70 (fK (Ci N)) B3
def B4:Ev.bo:=e9 70 (fK RB) B3
def NP(N:Nat):Ev.bo:=e9 106 (fK (Ci N)) B4
def B5:Ev.bo:=e9 106 (fK RB) B4
def Pa(N:Nat):LV->Option (Prop×AV)
 |[.ah cells,.bU .i64 dY]=>some (Ip N cells/\1<=dY/\dY<=2001,J (ig (λt=>min (bN t) dY) cells))
 |_=>none
def aeM:LV->Option (Prop×AV)
 |[.ah cells,.bU .i64 dY]=>some (kU cells/\1<=dY/\dY<=2001,J (ig (λt=>min (bN t) dY) cells))
 |_=>none
def NQ(N:Nat):Ev.bo:=e9 107 (fK (Pa N)) B5
def B6:Ev.bo:=e9 107 (fK aeM) B5
def B7:Ev.bo:=e9 69 (fK SB) B6
def Tb:LV->Option (Prop×AV)
 |[.ah cells]=>some (kU cells,.ao (ig eJ cells))
 |_=>none
def B8:Ev.bo:=e9 43 (fK Tb) B7
def B9:Ev.bo:=e9 66 (fK Tb) B8
theorem ayZ{k n s cs len L Q}:
 bI Z B1 (λ_=>[]) L Q 1000 103 [.ah [J k,J n,.ab s,.ad cs len 4]] an=(
 (al [(0,.aj [J 2001] 3),(1,.aj [.ba (.func 140) [] [.aa 0 0,.aa 1 0]] 216)] 2=za 2001/\((1:Int)<=2001/\(2001:Int)<=2001)/\kU [J k,J n,.ab s,.ad cs len 4])/\Q (J (wI (2001-ig (rJ 2001) [J k,J n,.ab s,.ad cs len 4]))) an):=by kernel_rfl
theorem awO{k n s cs len L Q}:
 bI Z B2 (λ_=>[]) L Q 1000 108 [.ah [J k,J n,.ab s,.ad cs len 4]] an=(
 aq (k==0) (aq (decide (n>=0)) (aq (decide (n<=1099511627776)) (aq (bW s []) (Q (.ao (aE len==0)) an) (Q (.ao false) an)) (Q (.ao false) an)) (Q (.ao false) an)) (aq (k==1) (aq (bW s []) (Q (.ao (aE len==0)) an) (Q (.ao false) an)) (aq (k==2) (aq (n==0) (aq (decide (aE s.length<=100)) (Q (.ao (aE len==0)) an) (Q (.ao false) an)) (Q (.ao false) an)) (aq (k==3) (aq (n==0) (aq (decide (aE s.length<=100)) (aq (decide (aE len>=1)) (Q (.ao (decide (aE len<=8))) an) (Q (.ao false) an)) (Q (.ao false) an)) (Q (.ao false) an)) (Q (.ao false) an))))):=by kernel_rfl
abbrev kN x0 x1 x2 x3 x4:=al [(0,.aj [J x0,J x1,.ab x2,.ad x3 x4 4] 49)] 1
theorem ayW{k n s cs len N L Q}:
 bI Z (NO N) (λ_=>[1,3]) L Q 1000 70 [.ah [J k,J n,.ab s,.ad cs len 4]] an=(
 (al [] 0=an/\True)/\aq (!As k n s len) (Q (.ao false) an) (L (aB [(1,.aa 0 0),(3,J 0)]) (kN k n s cs len) (aw Z 70 0))):=by kernel_rfl
theorem ayX{k n i s cs len N L Q}:
 ck Z (NO N) (λ_=>[1,3]) L Q 1000 70 0 (aB [(1,.aa 0 0),(3,J i)]) (aw Z 70 0) (kN k n s cs len)=(
 aq (decide (i<aE len)) (∃aL:Nat,i=(aL:Int)/\aL<len/\(∃aP:Int,∃bA:Int,∃cn:LN,∃bP:LV,∃bH:Nat,(cs.drop (aL*4)).take 4=[J aP,J bA,.ab cn,.ad bP bH 4]/\(al [] 0=an/\Ip N [J aP,J bA,.ab cn,.ad bP bH 4])/\aq (!ig iV [J aP,J bA,.ab cn,.ad bP bH 4]) (Q (.ao false) an) (L (aB [(1,.aa 0 0),(3,J (wI (i+1)))]) (kN k n s cs len) (aw Z 70 0)))) (Q (.ao true) an)):=by kernel_rfl
abbrev pZ x0 x1:=aB [(1,.aa 0 0),(3,.ao x0),(4,J x1)]
theorem awQ{k n s cs len N L Q}:
 bI Z (NP N) (λ_=>[1,3,4]) L Q 1000 106 [.ah [J k,J n,.ab s,.ad cs len 4]] an=(
 aq (k==0) (aq (decide (n>=0)) (aq (decide (n<=1099511627776)) (aq (bW s []) (L (pZ (aE len==0) 0) (kN k n s cs len) (aw Z 106 0)) (L (pZ false 0) (kN k n s cs len) (aw Z 106 0))) (L (pZ false 0) (kN k n s cs len) (aw Z 106 0))) (L (pZ false 0) (kN k n s cs len) (aw Z 106 0))) (aq (k==1) (aq (bW s []) (L (pZ (aE len==0) 0) (kN k n s cs len) (aw Z 106 0)) (L (pZ false 0) (kN k n s cs len) (aw Z 106 0))) (aq (k==2) (aq (n==0) (aq (decide (aE s.length<=100)) (L (pZ (aE len==0) 0) (kN k n s cs len) (aw Z 106 0)) (L (pZ false 0) (kN k n s cs len) (aw Z 106 0))) (L (pZ false 0) (kN k n s cs len) (aw Z 106 0))) (aq (k==3) (aq (n==0) (aq (decide (aE s.length<=100)) (aq (decide (aE len>0)) (L (pZ (decide (aE len<=8)) 0) (kN k n s cs len) (aw Z 106 0)) (L (pZ false 0) (kN k n s cs len) (aw Z 106 0))) (L (pZ false 0) (kN k n s cs len) (aw Z 106 0))) (L (pZ false 0) (kN k n s cs len) (aw Z 106 0))) (L (pZ false 0) (kN k n s cs len) (aw Z 106 0)))))):=by kernel_rfl
theorem awR{k n i s cs len ok N L Q}:
 ck Z (NP N) (λ_=>[1,3,4]) L Q 1000 106 0 (pZ ok i) (aw Z 106 0) (kN k n s cs len)=(
 aq (decide (i<aE len)) (aq ok (∃aL:Nat,i=(aL:Int)/\aL<len/\(∃aP:Int,∃bA:Int,∃cn:LN,∃bP:LV,∃bH:Nat,(cs.drop (aL*4)).take 4=[J aP,J bA,.ab cn,.ad bP bH 4]/\(al [] 0=an/\Ip N [J aP,J bA,.ab cn,.ad bP bH 4])/\L (pZ (ig iV [J aP,J bA,.ab cn,.ad bP bH 4]) (wI (i+1))) (kN k n s cs len) (aw Z 106 0))) (Q (.ao ok) an)) (Q (.ao ok) an)):=by kernel_rfl
theorem ayu{k n dY s cs len N L Q}:
 bI Z (NQ N) (λ_=>[1,2,5,6]) L Q 1000 107 [.ah [J k,J n,.ab s,.ad cs len 4],J dY] an=(
 L (aB [(1,J dY),(2,.aa 0 0),(5,J 1),(6,J 0)]) (kN k n s cs len) (aw Z 107 0)):=by kernel_rfl
theorem ayv{k n dY m i s cs len N L Q}:
 ck Z (NQ N) (λ_=>[1,2,5,6]) L Q 1000 107 0 (aB [(1,J dY),(2,.aa 0 0),(5,J m),(6,J i)]) (aw Z 107 0) (kN k n s cs len)=(
 aq (decide (i<aE len)) (aq (decide (m<dY)) (∃aL:Nat,i=(aL:Int)/\aL<len/\(∃aP:Int,∃bA:Int,∃cn:LN,∃bP:LV,∃bH:Nat,(cs.drop (aL*4)).take 4=[J aP,J bA,.ab cn,.ad bP bH 4]/\(al [] 0=an/\Ip N [J aP,J bA,.ab cn,.ad bP bH 4]/\(1:Int)<=wI (dY-m)/\wI (dY-m)<=2001)/\L (aB [(1,J dY),(2,.aa 0 0),(5,J (wI (m+ig (λt=>min ↑(bN t) (wI (dY-m))) [J aP,J bA,.ab cn,.ad bP bH 4]))),(6,J (wI (i+1)))]) (kN k n s cs len) (aw Z 107 0))) (Q (J m) an)) (Q (J m) an)):=by kernel_rfl
theorem axy{k n s cs len L Q}:
 bI Z B6 (λ_=>[]) L Q 1000 69 [.ah [J k,J n,.ab s,.ad cs len 4]] an=(
 (al [] 0=an/\kU [J k,J n,.ab s,.ad cs len 4]/\(1:Int)<=2001/\(2001:Int)<=2001)/\Q (J (ig (λt=>min ↑(bN t) 2001) [J k,J n,.ab s,.ad cs len 4])) an):=by kernel_rfl
theorem ays{k n s cs len L Q}:
 bI Z B7 (λ_=>[]) L Q 1000 43 [.ah [J k,J n,.ab s,.ad cs len 4]] an=(
 (al [] 0=an/\kU [J k,J n,.ab s,.ad cs len 4])/\aq (decide (ig cU [J k,J n,.ab s,.ad cs len 4]<=2000)) ((al [] 0=an/\kU [J k,J n,.ab s,.ad cs len 4])/\Q (.ao (ig iV [J k,J n,.ab s,.ad cs len 4])) an) (Q (.ao false) an)):=by kernel_rfl
theorem ayY{k n s cs len L Q}:
 bI Z B8 (λ_=>[]) L Q 1000 66 [.ah [J k,J n,.ab s,.ad cs len 4]] an=(
 (al [] 0=an/\kU [J k,J n,.ab s,.ad cs len 4])/\aq (decide (ig cU [J k,J n,.ab s,.ad cs len 4]<=2000)) ((al [] 0=an/\kU [J k,J n,.ab s,.ad cs len 4])/\Q (.ao (ig iV [J k,J n,.ab s,.ad cs len 4])) an) (Q (.ao false) an)):=by kernel_rfl
theorem abX:aU Z B1:=by
 refine at8 ajp anE ?_;intro args H p v H' h hp;unfold amz at h;split at h
 .split at h;next cells H left _ h0=>cases h;obtain⟨rfl,hl,t,rfl,ho⟩:=hp;exact⟨bN t+1,_,rfl,rfl,hl,t,rfl,ho,by omega⟩
  .cases h
 .cases h
theorem ab5:aU Z B2:=by
 refine jD abX λargs q v h hq=>?_
 unfold SB at h;split at h
 .cases h;obtain⟨⟨k,n,s,l⟩,rfl,ho⟩:=hq;refine eS abX 1000 (λ_=>[]) 11 (by kernel_rfl) ?_;rw[aW,ayZ];refine⟨⟨rfl,⟨by omega,by omega⟩,mE ho⟩,?_⟩;have h1:=amA 2001 (.mk k n s l) (by omega);rw[jV,jV,h1,cO (by omega) (by omega)];refine⟨?_,rfl⟩;simp only[cU];congr 1;omega
 .cases h
theorem acb:aU Z B3:=by
 refine jD ab5 λargs q v h hq=>?_
 unfold ajr at h;split at h
 .cases h;refine eE 77 ab5 awO ?_
  (repeat' (refine aD.2 ⟨λ_=>?_,λ_=>?_⟩))
  all_goals
   refine⟨?_,rfl⟩;congr 1
   (rw[rC];simp_all[As,mu]<;>(try intros)<;>omega)
 .cases h
theorem ayV{k n s l N aH}(hS:aU Z (NO N))(hl:dt l.length)(ho:fy l)(hN:bM l<N):
 ∀i:Nat,(i<=l.length/\pV (l.drop i)=aH)->
 br Z 70 21 0 (.ao aH) an (aB [(1,.aa 0 0),(3,J (i:Int))])
  (kN k n s (aF l) l.length) (aw Z 70 0):=by
 refine dS (λi=>l.length-i) _ _ _ _ ?_;rintro i ⟨hi,hf⟩ ih;refine hE hS ayX ?_;refine aD.2 ⟨λax=>?_,λbu=>?_⟩
 .have ax:i<l.length:=by simpa using ax
  rw[fY ax,pV]at hf;obtain⟨k',n',s',l',hf,-,bX,a_,cv⟩:=xw ax ho hN (P:=λu=>(iV u&&pV (l.drop (i+1)))=aH) hf;refine⟨i,rfl,ax,k',n',s',_,_,bX,⟨rfl,Zd a_ cv⟩,?_⟩;rw[jV,lh hl ax];refine aD.2 ⟨λh=>?_,λh=>?_⟩
  .simp at h;rw[h]at hf;exact⟨by rw[<-hf];rfl,rfl⟩
  .simp at h;rw[h,rA]at hf;exact ih (i+1) ⟨by omega,hf⟩ (by omega)
 .have bu:l.length<=i:=by simpa using bu
  rw[gQ bu,pV]at hf;subst hf;exact⟨rfl,rfl⟩
theorem ace:aU Z B4:=by
 refine R5 acb (sN:=Ci) (R_ acb ?_ ?_) ?_
 .intro args q v h;unfold Ci at h;split at h<;>cases h;rintro⟨t,_,_,h⟩;omega
 .intro N hS args q v h hq;unfold Ci at h;split at h<;>cases h;obtain⟨⟨k,n,s,l⟩,rfl,a_,cv⟩:=hq;refine eS hS 1000 (λ_=>[1,3]) 21 (by kernel_rfl) ?_;simp only[bN]at cv;rw[DO,aW];have:= @ayW k n s (aF l) l.length N;rw[NO]at this;rw[this];refine⟨⟨rfl,trivial⟩,aD.2 ⟨λh=>?_,λh=>?_⟩⟩
  .simp at h;exact⟨by rw[iV,h];rfl,rfl⟩
  .simp at h;exact ayV hS a_.2.1 a_.2.2 (by omega) 0 ⟨by omega,by rw[iV,h];rfl⟩
 .intro args q v h hq;unfold RB at h;split at h<;>cases h;obtain⟨t,rfl,ho⟩:=hq;exact⟨bN t+1,_,rfl,t,rfl,ho,by omega⟩
theorem Z1{k n s len}:As k n s len=true->len<=8:=by
 unfold As;split
 .simp;omega
 .split
  .simp;omega
  .split
   .simp;omega
   .split
    .simp
    .simp
theorem awP{k n s l N aH}(hS:aU Z (NP N))(hl:dt l.length)(ho:fy l)(hN:bM l<N):
 ∀p:Nat×Bool,(p.1<=l.length/\(p.2&&pV (l.drop p.1))=aH)->
 br Z 106 96 0 (.ao aH) an (pZ p.2 (p.1:Int))
  (kN k n s (aF l) l.length) (aw Z 106 0):=by
 refine dS (λp=>l.length-p.1) _ _ _ _ ?_;rintro⟨i,ok⟩ ⟨hi,hf⟩ ih;simp only at hi hf ih⊢;refine hE hS awR ?_;refine aD.2 ⟨λax=>?_,λbu=>?_⟩
 .have ax:i<l.length:=by simpa using ax
  refine aD.2 ⟨λh=>?_,λh=>?_⟩
  .subst h;rw[fY ax,pV,rA]at hf;obtain⟨k',n',s',l',hf,-,bX,a_,cv⟩:=xw ax ho hN (P:=λu=>(iV u&&pV (l.drop (i+1)))=aH) hf;refine⟨i,rfl,ax,k',n',s',_,_,bX,⟨rfl,Zd a_ cv⟩,?_⟩;rw[jV,lh hl ax];exact ih (i+1,_) ⟨by simp;omega,hf⟩ (by simp;omega)
  .subst h;rw[tg]at hf;subst hf;exact⟨rfl,rfl⟩
 .have bu:l.length<=i:=by simpa using bu
  rw[gQ bu,pV,yW]at hf;subst hf;exact⟨rfl,rfl⟩
theorem acf:aU Z B5:=by
 refine R5 ace (sN:=Ci) (R_ ace ?_ ?_) ?_
 .intro args q v h;unfold Ci at h;split at h<;>cases h;rintro⟨t,_,_,h⟩;omega
 .intro N hS args q v h hq;unfold Ci at h;split at h<;>cases h;obtain⟨⟨k,n,s,l⟩,rfl,a_,cv⟩:=hq;refine eS hS 1000 (λ_=>[1,3,4]) 96 (by kernel_rfl) ?_;simp only[bN]at cv;rw[DO,aW];have:= @awQ k n s (aF l) l.length N;rw[NP]at this;rw[this];have key:∀b:Bool,b=As k n s l.length->br Z 106 96 0 (.ao (iV (.mk k n s l))) an (pZ b 0)
   (kN k n s (aF l) l.length) (aw Z 106 0):=by
   rintro b rfl;exact awP hS a_.2.1 a_.2.2 (by omega) (0,_) ⟨by simp,by rw[iV];rfl⟩
  (repeat' (refine aD.2 ⟨λ_=>?_,λ_=>?_⟩))
  all_goals
   refine key _ ?_
   (rw[rC];simp_all[As,mu]<;>(try intros)<;>omega)
 .intro args q v h hq;unfold RB at h;split at h<;>cases h;obtain⟨t,rfl,ho⟩:=hq;exact⟨bN t+1,_,rfl,t,rfl,ho,by omega⟩
theorem ayt{k n dY s l N aH}(hS:aU Z (NQ N))(H6:1<=dY)(hm2:dY<=2001)(hl:dt l.length)(ho:fy l)(hN:bM l<N):
 ∀p:Nat×Int,(p.1<=l.length/\1<=p.2/\p.2<=dY/\min (p.2+bM (l.drop p.1)) dY=aH)->
 br Z 107 31 0 (J aH) an (aB [(1,J dY),(2,.aa 0 0),(5,J p.2),(6,J (p.1:Int))])
  (kN k n s (aF l) l.length) (aw Z 107 0):=by
 refine dS (λp=>l.length-p.1) _ _ _ _ ?_;rintro⟨i,m⟩ ⟨hi,h1,h2,hf⟩ ih;refine hE hS ayv ?_;refine aD.2 ⟨λax=>?_,λbu=>?_⟩
 .have ax:i<l.length:=by simpa using ax
  refine aD.2 ⟨λh=>?_,λh=>?_⟩
  .have h:m<dY:=by simpa using h
   rw[fY ax,bM]at hf;obtain⟨k',n',s',l',hf,-,bX,a_,cv⟩:=xw ax ho hN (P:=λu=>min (m+((bN u+bM (l.drop (i+1)):Nat):Int)) dY=aH) hf;refine⟨i,rfl,ax,k',n',s',_,_,bX,⟨rfl,Zd a_ cv,?_,?_⟩,?_⟩
   .rw[cO (by omega) (by omega)];omega
   .rw[cO (by omega) (by omega)];omega
   .rw[jV,lh hl ax,cO (x:=dY-m) (by omega) (by omega),cO (by omega) (by omega)];exact ih (i+1,_) ⟨by simp;omega,by simp only;omega,by simp only;omega,by simp only;omega⟩ (by simp;omega)
  .have h:dY<=m:=by simpa using h
   have:aH=m:=by omega
   subst this;exact⟨rfl,rfl⟩
 .have bu:l.length<=i:=by simpa using bu
  rw[gQ bu,bM]at hf;have:aH=m:=by omega
  subst this;exact⟨rfl,rfl⟩
theorem acg:aU Z B6:=by
 refine R5 acf (sN:=Pa) (R_ acf ?_ ?_) ?_
 .intro args q v h;unfold Pa at h;split at h<;>cases h;rintro⟨⟨t,_,_,h⟩,_⟩;omega
 .intro N hS args q v h hq;unfold Pa at h;split at h<;>cases h;obtain⟨⟨⟨k,n,s,l⟩,rfl,a_,cv⟩,h1,h2⟩:=hq;refine eS hS 1000 (λ_=>[1,2,5,6]) 31 (by kernel_rfl) ?_;simp only[bN]at cv;rw[DO,aW];have:=λdY=> @ayu k n dY s (aF l) l.length N
  rw[NQ]at this;rw[this];exact ayt hS h1 h2 a_.2.1 a_.2.2 (by omega) (0,1) ⟨by simp,by simp,by simpa using h1,by simp only[bN,xf];omega⟩
 .intro args q v h hq;unfold aeM at h;split at h<;>cases h;obtain⟨⟨t,rfl,ho⟩,h1⟩:=hq;exact⟨bN t+1,_,rfl,⟨t,rfl,ho,by omega⟩,h1⟩
theorem ach:aU Z B7:=by
 refine jD acg λargs q v h hq=>?_
 unfold SB at h;split at h<;>cases h;obtain⟨⟨k,n,s,l⟩,rfl,ho⟩:=hq;refine eS acg 1000 (λ_=>[]) 5 (by kernel_rfl) ?_;rw[aW,axy];refine⟨⟨rfl,mE ho,by omega,by omega⟩,?_⟩;rw[jV,jV];exact⟨rfl,rfl⟩
theorem amu(t):eJ t=(decide (cU t<=2000)&&iV t):=by
 have:decide (cU t<=2000)=decide (bN t<=2000):=by
  have:cU t<=2000↔bN t<=2000:=by unfold cU;omega
  simp only[this]
 rw[this];rfl
theorem aci:aU Z B8:=by
 refine jD ach λargs q v h hq=>?_
 unfold Tb at h;split at h<;>cases h;obtain⟨⟨k,n,s,l⟩,rfl,ho⟩:=hq;refine eS ach 1000 (λ_=>[]) 10 (by kernel_rfl) ?_;rw[aW,ays,jV,jV,jV,amu];refine⟨⟨rfl,mE ho⟩,aD.2 ⟨λh=>?_,λh=>?_⟩⟩
 .rw[h];exact⟨⟨rfl,mE ho⟩,rfl,rfl⟩
 .rw[h];exact⟨rfl,rfl⟩
theorem acj:aU Z B9:=by
 refine jD aci λargs q v h hq=>?_
 unfold Tb at h;split at h<;>cases h;obtain⟨⟨k,n,s,l⟩,rfl,ho⟩:=hq;refine eS aci 1000 (λ_=>[]) 10 (by kernel_rfl) ?_;rw[aW,ayY,jV,jV,jV,amu];refine⟨⟨rfl,mE ho⟩,aD.2 ⟨λh=>?_,λh=>?_⟩⟩
 .rw[h];exact⟨⟨rfl,mE ho⟩,rfl,rfl⟩
 .rw[h];exact⟨rfl,rfl⟩
end
end Go.Cl
namespace Go.Cl
open Go.Ev
noncomputable section
structure cV where
 cL:LN
 ar:Int
 au:Int
 deriving DecidableEq,Inhabited
structure qe where
 eO:Int
 aN:cV
 eN:eK
 lG:Int
 deriving Inhabited
abbrev fO:=List qe
structure bG where
 aN:cV
 bC:eK
 aZ:fO
 deriving Inhabited
def Pd{α β γ:Type}[Inhabited α](enc:β->γ)(f:β->α)(c:γ):α:=
 @dite _ (∃t,enc t=c) (Classical.propDecidable _) (λh=>f h.choose) (λ_=>default)
theorem ae0{α β γ}[Inhabited α]{enc:β->γ}(hi:∀a b,enc a=enc b->a=b)(f:β->α)(t):Pd enc f (enc t)=f t:=by unfold Pd;rw[dif_pos ⟨t,rfl⟩];congr 1;exact hi _ _ (Exists.choose_spec (⟨t,rfl⟩:∃u,enc u=enc t))
def Pu(l:eK):LV×Nat:=(aF l,l.length)
theorem aqh(l m)(h:Pu l=Pu m):l=m:=by simp only[Pu,I7]at h;exact tQ h.2 h.1
def zB{α:Type}[Inhabited α](f:eK->α)(cs:LV)(len:Nat):α:=Pd Pu f (cs,len)
theorem Wq{α}[Inhabited α](f:eK->α)(l):zB f (aF l) l.length=f l:=ae0 aqh f l
def LZ(cs:LV)(len:Nat):Prop:=∃l,aF l=cs/\l.length=len/\dt l.length/\fy l
theorem ah7{l}(h:dt l.length)(ho:fy l):LZ (aF l) l.length:=⟨l,rfl,rfl,h,ho⟩
def GZ(p:cV):LV:=[.ab p.cL,J p.ar,J p.au]
def uS(g:qe):LV:=[J g.eO,.ab g.aN.cL,J g.aN.ar,J g.aN.au,.ad (aF g.eN) g.eN.length 4,J g.lG]
def bD:fO->LV
 |[]=>[]
 |g::l=>uS g++bD l
def gH(f:bG):LV:=[.ab f.aN.cL,J f.aN.ar,J f.aN.au,.ad (aF f.bC) f.bC.length 4,.ad (bD f.aZ) f.aZ.length 6]
theorem KF(g):(uS g).length=6:=rfl
theorem afr{g h}(e:uS g=uS h):g=h:=by have⟨k,⟨a,b,c⟩,l,v⟩:=g;have⟨k',⟨a',b',c'⟩,l',v'⟩:=h;simp only[uS,jn,AV.bU.injEq,AV.ab.injEq,AV.ad.injEq,true_and,and_true]at e;obtain⟨rfl,rfl,rfl,rfl,⟨h1,h2⟩,rfl⟩:=e;rw[tQ h2 h1]
theorem Ps:∀{l m},l.length=m.length->bD l=bD m->l=m
 |[],[],_,_=>rfl
 |[],_::_,h,_=>by simp at h
 |_::_,[],h,_=>by simp at h
 |t::l,u::m,hl,h=>by have h2:=l4 h (by rw[KF,KF]);rw[afr h2.1,Ps (by simpa using hl) h2.2]
theorem ye(f g)(e:gH f=gH g):f=g:=by have⟨⟨a,b,c⟩,l,v⟩:=f;have⟨⟨a',b',c'⟩,l',v'⟩:=g;simp only[gH,jn,AV.bU.injEq,AV.ab.injEq,AV.ad.injEq,true_and,and_true]at e;obtain⟨rfl,rfl,rfl,⟨h1,h2⟩,h3,h4⟩:=e;rw[tQ h2 h1,Ps h4 h3]
def DN{α:Type}[Inhabited α](f:bG->α)(cells:LV):α:=Pd gH f cells
theorem Pe{α}[Inhabited α](f:bG->α)(c):DN f (gH c)=f c:=ae0 ye f c
def qA(g:qe):Prop:=dt g.aN.cL.length/\dt g.eN.length/\fy g.eN
def iW(f:bG):Prop:=dt f.aN.cL.length/\dt f.bC.length/\fy f.bC/\dt f.aZ.length/\∀g∈f.aZ,qA g
def Q0(cells:LV):Prop:=∃f,gH f=cells/\iW f
theorem afs:∀{l i} (h:i<l.length),((bD l).drop (i*6)).take 6=uS l[i]
 |[],i,h=>by simp at h
 |t0::l,0,h=>by simp;exact xm (KF t0)
 |t0::l,i+1,h=>by
  have hl:i<l.length:=by simpa using h
  have:=afs hl;simp only[bD,Cz];rw[<-this];have e:(i+1)*6=(uS t0).length+i*6:=by rw[KF];omega
  rw[e,I2]
def pd(p:cV):Bool:=
 if p.au=0 then decide (p.cL.length<=100/\0<=p.ar/\p.ar<=8)
 else decide (p.cL.length=0/\1<=p.au/\p.au<=1099511627776/\0<=p.ar/\p.ar<=4096)
def uE(v:Int):Bool:=decide (0<=v/\v<=1099511627776)
def DF(g:qe):Bool:=decide (g.aN.cL.length=0/\g.aN.ar=0/\g.aN.au=0/\g.eN.length=0)
def Ea(qP:Bool)(g:qe):Bool:=
 if g.eO=1 then pd g.aN&&decide ((g.eN.length:Int)=g.aN.ar/\g.lG=0)
 else if g.eO=2 then DF g&&uE g.lG&& !qP
 else if g.eO=3\/g.eO=4 then DF g&&uE g.lG
 else if g.eO=5 then DF g&&decide (g.lG=0)
 else false
def qn(left:Int)(l:eK):Bool:=l.all eJ&&decide ((bM l:Int)<=left)
theorem D0{left l}:qn left l=true↔(∀t∈l,eJ t=true)/\(bM l:Int)<=left:=by simp only[qn,dk,lZ,Cx]
theorem amd(t l):bM (t::l)=bN t+bM l:=rfl
def uZ:Bool->Int->fO->Bool
 |_,_,[]=>true
 |qP,left,g::l=>Ea qP g&&qn left g.eN&&uZ (qP||g.eO==1) (left-bM g.eN) l
def jM(f:bG):Bool:=pd f.aN&&decide ((f.bC.length:Int)=f.aN.ar)&&qn 131072 f.bC&&uZ false (131072-bM f.bC) f.aZ
def rE:Int->eK->Bool×Int
 |left,[]=>(true,left)
 |left,t::l=>if eJ t then(if left-cU t<0 then(false,left-cU t)else rE (left-cU t) l)else(false,left)
theorem azE{t}(h:eJ t=true):cU t=bN t:=by simp only[eJ,dk,Cx]at h;unfold cU;omega
theorem aaX:∀left l,0<=left->(rE left l).1=qn left l/\(qn left l=true->(rE left l).2=left-bM l)
 |left,[],h=>by simp[rE,qn,bM,h]
 |left,t::l,h=>by
  simp only[rE];by_cases hv:eJ t=true
  .have hs:=azE hv;rw[aO hv,hs];split;next ax=>
    have:qn left (t::l)=false:=by rw[qE,Ne,D0,amd];omega
    rw[this];simp
   next ax=>
    have ih:=aaX (left-bN t) l (by omega);have e:qn left (t::l)=qn (left-bN t) l:=by rw[rC,D0,D0,amd];simp only[dm,forall_eq_or_imp,hv,true_and];constructor<;>(rintro⟨h1,h2⟩;exact⟨h1,by omega⟩)
    rw[e];refine⟨ih.1,λh=>?_⟩;rw[ih.2 h,bM];omega
  .rw[az hv];have hv:eJ t=false:=by simpa using hv
   simp[qn,hv]
theorem By{l i}(h:i<l.length)(ho:∀g∈l,qA g):
 ∃k nm ar au ls v,l[i]=⟨k,⟨nm,ar,au⟩,ls,v⟩/\((bD l).drop (i*6)).take 6=[J k,.ab nm,J ar,J au,.ad (aF ls) ls.length 4,J v]/\qA ⟨k,⟨nm,ar,au⟩,ls,v⟩:=by
 have bX:=afs h;have a_:=ho l[i] (pW h);generalize l[i]=u at*;have⟨k,⟨nm,ar,au⟩,ls,v⟩:=u;exact⟨k,nm,ar,au,ls,v,rfl,bX,a_⟩
theorem y9{l i}(h:i<l.length)(ho:fy l):
 ∃k n s m,l[i]=.mk k n s m/\((aF l).drop (i*4)).take 4=[J k,J n,.ab s,.ad (aF m) m.length 4]/\bL (.mk k n s m):=by
 have bX:=KI h;have a_:=RQ h ho;generalize l[i]=u at*;have⟨k,n,s,m⟩:=u;exact⟨k,n,s,m,rfl,bX,a_⟩
theorem azD(t):1<=cU t/\cU t<=2001:=by have:=sk t;unfold cU;omega
end
end Go.Cl
namespace Go.Cl
open Go.Ev Go.Proofs
noncomputable section
def R4:LV->Option (Prop×AV)
 |[.ah [.ab nm,.bU .i64 ar,.bU .i64 au]]=>some (True,.ao (pd ⟨nm,ar,au⟩))
 |_=>none
def B10:Ev.bo:=e9 119 (fK R4) B9
abbrev NC:Ev.bo:=B10
abbrev Qh x0 x1:=al [(0,.aj x0 x1)] 1
def jJ(left:Int):AH:=Qh [J left] 3
def akF:LV->AH->Option (Prop×AV×AH)
 |[.aa 0 0,.ad cs len 4],H=>match H.bf 0 with
  |some (.aj [.bU .i64 left] _)=>some (H=jJ left/\(0<=left/\left<=131072)/\LZ cs len,.ao (zB (rE left) cs len).1,jJ (zB (rE left) cs len).2)
  |_=>none
 |_,_=>none
def B12:Ev.bo:=e9 120 akF NC
abbrev ND:Ev.bo:=B12
def ams:LV->Option (Prop×AV)
 |[.ah cells]=>some (Q0 cells,.ao (DN jM cells))
 |_=>none
def B14:Ev.bo:=e9 84 (fK ams) ND
abbrev B15:Ev.bo:=B14
theorem ayw{nm ar au L Q}:
 bI Z B9 (λ_=>[]) L Q 1000 119 [.ah [.ab nm,J ar,J au]] an=(
 aq (au==0) (aq (decide (aE nm.length<=100)) (aq (decide (ar>=0)) (Q (.ao (decide (ar<=8))) an) (Q (.ao false) an)) (Q (.ao false) an)) (aq (bW nm []) (aq (decide (au>=1)) (aq (decide (au<=1099511627776)) (aq (decide (ar>=0)) (Q (.ao (decide (ar<=4096))) an) (Q (.ao false) an)) (Q (.ao false) an)) (Q (.ao false) an)) (Q (.ao false) an))):=by kernel_rfl
abbrev S2 x0 x1 x2:=aB [(0,.aa 0 0),(7,.ad x0 x1 4),(8,J (aE x1)),(9,J x2)]
theorem ayy{cs len left L Q}:
 bI Z NC (λ_=>[0,7,8,9]) L Q 1000 120 [.aa 0 0,.ad cs len 4] (jJ left)=(
 L (S2 cs len 0) (jJ left) (aw Z 120 0)):=by kernel_rfl
theorem ayz{cs len left i L Q}:
 ck Z NC (λ_=>[0,7,8,9]) L Q 1000 120 1 (S2 cs len i) (aw Z 120 0) (jJ left)=(
 aq (decide (i<aE len)) (∃aL:Nat,i=(aL:Int)/\aL<len/\(∃n:Int,∃aP:Int,∃s:LN,∃bP:LV,∃bH:Nat,(cs.drop (aL*4)).take 4=[J n,J aP,.ab s,.ad bP bH 4]/\(al [] 0=an/\kU [J n,J aP,.ab s,.ad bP bH 4])/\aq (!ig eJ [J n,J aP,.ab s,.ad bP bH 4]) (Q (.ao false) (jJ left)) ((al [] 0=an/\kU [J n,J aP,.ab s,.ad bP bH 4])/\some (J left:AV)=some (J left:AV)/\aq (decide (wI (left-ig cU [J n,J aP,.ab s,.ad bP bH 4])<0)) (Q (.ao false) (jJ (wI (left-ig cU [J n,J aP,.ab s,.ad bP bH 4])))) (L (S2 cs len (wI (i+1))) (jJ (wI (left-ig cU [J n,J aP,.ab s,.ad bP bH 4]))) (aw Z 120 0))))) (Q (.ao true) (jJ left))):=by kernel_rfl
abbrev xE x0 x1 x2 x3:=aB [(3,.aa 0 0),(4,.ao x0),(29,.ad x1 x2 6),(30,J (aE x2)),(31,J x3)]
theorem axU{nm ar au cs len gs gl L Q}:
 bI Z ND (λ_=>[3,4,29,30,31]) L Q 1000 84 [.ah [.ab nm,J ar,J au,.ad cs len 4,.ad gs gl 6]] an=(
 (al [] 0=an/\True)/\aq (!pd (cV.mk nm ar au)) (Q (.ao false) an) (aq (aE len !=ar) (Q (.ao false) an) ((Qh [J 131072] 3=jJ 131072/\((0:Int)<=131072/\(131072:Int)<=131072)/\LZ cs len)/\aq (!(zB (rE 131072) cs len).1) (Q (.ao false) an) (L (xE false gs gl 0) (jJ (zB (rE 131072) cs len).2) (aw Z 84 0))))):=by kernel_rfl
theorem axV{qP left i gs gl L Q}:
 ck Z ND (λ_=>[3,4,29,30,31]) L Q 2000 84 0 (xE qP gs gl i) (aw Z 84 0) (jJ left)=(
 aq (decide (i<aE gl)) (∃aL:Nat,i=(aL:Int)/\aL<gl/\(∃n:Int,∃s:LN,∃aP:Int,∃bA:Int,∃cs:LV,∃len:Nat,∃cf:Int,(gs.drop (aL*6)).take 6=[J n,.ab s,J aP,J bA,.ad cs len 4,J cf]/\aq (bW s []&&(aP==0&&(bA==0&&true))) (aq (n==1) ((al [] 0=an/\True)/\aq (pd (cV.mk s aP bA)) (aq (aE len==aP) (aq (cf==0) ((Qh [J left] 3=jJ left/\((0:Int)<=left/\left<=131072)/\LZ cs len)/\aq (!(zB (rE left) cs len).1) (Q (.ao false) an) (L (xE true gs gl (wI (i+1))) (jJ (zB (rE left) cs len).2) (aw Z 84 0))) (Q (.ao false) an)) (Q (.ao false) an)) (Q (.ao false) an)) (aq (n==2) (aq (aE len==0) (aq (decide (cf>=0)) (aq (decide (cf<=1099511627776)) (aq (!(!qP)) (Q (.ao false) an) (L (xE qP gs gl (wI (i+1))) (jJ left) (aw Z 84 0))) (Q (.ao false) an)) (Q (.ao false) an)) (Q (.ao false) an)) (aq (n==3) (aq (n==3) (aq (aE len==0) (aq (decide (cf>=0)) (aq (!decide (cf<=1099511627776)) (Q (.ao false) an) (L (xE qP gs gl (wI (i+1))) (jJ left) (aw Z 84 0))) (Q (.ao false) an)) (Q (.ao false) an)) (aq (n==5) (aq (aE len==0) (aq (!(cf==0)) (Q (.ao false) an) (L (xE qP gs gl (wI (i+1))) (jJ left) (aw Z 84 0))) (Q (.ao false) an)) (Q (.ao false) an))) (aq (n==4) (aq (aE len==0) (aq (decide (cf>=0)) (aq (!decide (cf<=1099511627776)) (Q (.ao false) an) (L (xE qP gs gl (wI (i+1))) (jJ left) (aw Z 84 0))) (Q (.ao false) an)) (Q (.ao false) an)) (aq (n==5) (aq (aE len==0) (aq (!(cf==0)) (Q (.ao false) an) (L (xE qP gs gl (wI (i+1))) (jJ left) (aw Z 84 0))) (Q (.ao false) an)) (Q (.ao false) an)))))) (aq (n==1) ((al [] 0=an/\True)/\aq (pd (cV.mk s aP bA)) (aq (aE len==aP) (aq (cf==0) ((Qh [J left] 3=jJ left/\((0:Int)<=left/\left<=131072)/\LZ cs len)/\aq (!(zB (rE left) cs len).1) (Q (.ao false) an) (L (xE true gs gl (wI (i+1))) (jJ (zB (rE left) cs len).2) (aw Z 84 0))) (Q (.ao false) an)) (Q (.ao false) an)) (Q (.ao false) an)) (aq (n==2) (Q (.ao false) an) (aq (n==3) (aq (n==3) (Q (.ao false) an) (aq (n==5) (Q (.ao false) an) (Q (.ao false) an))) (aq (n==4) (Q (.ao false) an) (aq (n==5) (Q (.ao false) an) (Q (.ao false) an)))))))) (Q (.ao true) an)):=by kernel_rfl
theorem amS:aU Z B10:=by
 refine jD acj λargs q v h hq=>?_
 unfold R4 at h;split at h<;>cases h;refine eE 43 acj ayw ?_
 (repeat' (refine aD.2 ⟨λ_=>?_,λ_=>?_⟩))
 all_goals
  refine⟨?_,rfl⟩;congr 1
  (rw[rC];simp_all[pd,mu]<;>(try intros)<;>omega)
theorem Tp:aU Z NC:=amS
theorem ayx{l aH}(hl:dt l.length)(ho:fy l):
 ∀p:Nat×Int,(p.1<=l.length/\0<=p.2/\p.2<=131072/\rE p.2 (l.drop p.1)=aH)->
 br Z 120 28 1 (.ao aH.1) (jJ aH.2) (S2 (aF l) l.length (p.1:Int)) (jJ p.2) (aw Z 120 0):=by
 refine dS (λp=>l.length-p.1) _ _ _ _ ?_;rintro⟨i,left⟩ ⟨hi,h0,h1,hf⟩ ih;refine hE Tp ayz ?_;refine aD.2 ⟨λax=>?_,λbu=>?_⟩
 .have ax:i<l.length:=by simpa using ax
  have⟨k,n,s,m,he,bX,a_⟩:=y9 ax ho;rw[fY ax,he,rE]at hf;have hs:=azD (.mk k n s m);refine⟨i,rfl,ax,k,n,s,_,_,bX,⟨rfl,mE a_⟩,?_⟩;rw[jV,jV,lh hl ax,cO (by omega) (by omega)];refine aD.2 ⟨λh=>?_,λh=>?_⟩
  .have h:¬eJ (.mk k n s m)=true:=by simpa using h
   rw[az h]at hf;subst hf;exact⟨rfl,rfl⟩
  .have h:eJ (.mk k n s m)=true:=by simpa using h
   rw[aO h]at hf;refine⟨⟨rfl,mE a_⟩,rfl,aD.2 ⟨λh=>?_,λh=>?_⟩⟩
   .rw[aO (by simpa using h)]at hf;subst hf;exact⟨rfl,rfl⟩
   .have h:¬left-cU (.mk k n s m)<0:=by simpa using h
    rw[az h]at hf;exact ih (i+1,_) ⟨by simp;omega,by simp only;omega,by simp only;omega,hf⟩ (by simp;omega)
 .have bu:l.length<=i:=by simpa using bu
  rw[gQ bu,rE]at hf;subst hf;exact⟨rfl,rfl⟩
theorem amT:aU Z B12:=by
 refine Gs Tp λargs H p v H' h hp=>?_
 unfold akF at h;split at h
 .split at h<;>cases h;obtain⟨rfl,⟨h0,h1⟩,l,rfl,rfl,hl,ho⟩:=hp;refine eS Tp 1000 (λ_=>[0,7,8,9]) 28 (by kernel_rfl) ?_;rw[ayy,Wq];exact ayx hl ho (0,_) ⟨by simp,h0,h1,rfl⟩
 .cases h
theorem Tq:aU Z ND:=amT
theorem aqW{left l}(h:0<=left)(hl:l.length=0):qn left l=true/\(bM l:Int)=0:=by have:=sb.1 hl;subst this;exact⟨D0.2 ⟨by simp,by simpa[bM]using h⟩,by simp[bM]⟩
theorem af5{left l}(h:qn left l=true):0<=left-bM l:=by have:=(D0.1 h).2;omega
theorem axT{l aH}(hl:dt l.length)(ho:∀g∈l,qA g):
 ∀p:Nat×Bool×Int,(p.1<=l.length/\0<=p.2.2/\p.2.2<=131072/\uZ p.2.1 p.2.2 (l.drop p.1)=aH)->
 br Z 84 113 0 (.ao aH) an (xE p.2.1 (bD l) l.length (p.1:Int)) (jJ p.2.2) (aw Z 84 0):=by
 refine dS (λp=>l.length-p.1) _ _ _ _ ?_;rintro⟨i,qP,left⟩ ⟨hi,h0,h1,hf⟩ ih;simp only at hi h0 h1 hf ih⊢;refine hD Tq 2000 (λ_=>[3,4,29,30,31]) (by kernel_rfl) ?_;rw[axV];refine aD.2 ⟨λax=>?_,λbu=>?_⟩
 .have ax:i<l.length:=by simpa using ax
  obtain⟨k,nm,ar,au,ls,v,he,bX,a_⟩:=By ax ho;rw[fY ax,he,uZ]at hf;simp only at hf;refine⟨i,rfl,ax,k,nm,ar,au,_,_,v,bX,?_⟩;rw[lh hl ax];have rf:(Ea qP ⟨k,⟨nm,ar,au⟩,ls,v⟩=false\/qn left ls=false)->fA (.ao aH) an (.ao false) (al [] 0):=by
   rintro(h|h)
   .rw[h]at hf;simp at hf;exact⟨by rw[hf],rfl⟩
   .rw[h]at hf;simp at hf;exact⟨by rw[hf],rfl⟩
  have Ir:∀c' kV,Ea qP ⟨k,⟨nm,ar,au⟩,ls,v⟩=true->qn left ls=true->c'=(qP||k==1)->kV=left-bM ls->
   br Z 84 113 0 (.ao aH) an (xE c' (bD l) l.length ((i+1:Nat):Int)) (jJ kV) (aw Z 84 0):=by
   rintro _ _ h2 h3 rfl rfl;rw[h2,h3,rA,rA]at hf;have:=af5 h3;exact ih (i+1,_,_) ⟨by simp;omega,this,by simp only;omega,hf⟩ (by simp;omega)
  have hr:=aaX left ls h0;have BR:=λh=>aqW (l:=ls) h0 h
  have EM:=ah7 a_.2.1 a_.2.2;rw[Wq,hr.1];clear ih hf bX he ax hi hl ho a_;repeat' first
   |refine aD.2 ⟨λ_=>?_,λ_=>?_⟩
   |refine⟨⟨rfl,trivial⟩,?_⟩
   |refine⟨⟨rfl,⟨h0,h1⟩,EM⟩,?_⟩
   |fail
  all_goals first
   |(refine rf ?_;clear rf Ir hr EM;simp_all[Ea,DF,uE,mu];done)
   |(refine rf ?_;clear rf Ir hr EM;left;simp_all[Ea,DF,uE,mu]<;>(try intros)<;>omega)
   |(refine rf ?_;clear rf Ir hr EM;left;simp_all[Ea,DF,uE,mu]<;>(try intros)<;>simp_all;done)
   |(refine Ir _ _ ?_ ?_ ?_ ?_<;>clear rf Ir<;>simp_all[Ea,DF,uE,mu]<;>omega)
   |(exfalso;clear rf Ir hr EM BR;simp_all;done)
 .have bu:l.length<=i:=by simpa using bu
  rw[gQ bu,uZ]at hf;subst hf;exact⟨rfl,rfl⟩
theorem amU:aU Z B14:=by
 refine jD Tq λargs q v h hq=>?_
 unfold ams at h;split at h<;>cases h;obtain⟨⟨⟨nm,ar,au⟩,ls,gs⟩,rfl,ho⟩:=hq;refine eS Tq 1000 (λ_=>[3,4,29,30,31]) 113 (by kernel_rfl) ?_;rw[Pe,gH,axU,Wq];have hr:=aaX 131072 ls (by omega);have EM:=ah7 ho.2.1 ho.2.2.1;rw[hr.1];refine⟨⟨rfl,trivial⟩,?_⟩;simp only[jM];refine aD.2 ⟨λh1=>?_,λh1=>?_⟩
 .have h1:pd ⟨nm,ar,au⟩=false:=by simpa using h1
  rw[h1];exact⟨rfl,rfl⟩
 .have h1:pd ⟨nm,ar,au⟩=true:=by simpa using h1
  refine aD.2 ⟨λh2=>?_,λh2=>?_⟩
  .have h2:¬((ls.length:Int)=ar):=by simpa using h2
   rw[h1,decide_eq_false h2];exact⟨rfl,rfl⟩
  .have h2:(ls.length:Int)=ar:=by simpa using h2
   refine⟨⟨rfl,⟨by omega,by omega⟩,EM⟩,aD.2 ⟨λh3=>?_,λh3=>?_⟩⟩
   .have h3:qn 131072 ls=false:=by simpa using h3
    rw[h1,h3];exact⟨by simp,rfl⟩
   .have h3:qn 131072 ls=true:=by simpa using h3
    rw[h1,h3,decide_eq_true h2,hr.2 h3];have:=af5 h3;exact axT ho.2.2.2.1 ho.2.2.2.2 (0,false,_) ⟨by simp,this,by simp only;omega,by simp⟩
theorem amV:aU Z B15:=amU
def fT:List (Nat×LN)->Nat->LN
 |[],_=>[]
 |(a,l)::m,r=>bif Nat.beq a r then l else fT m r
abbrev Ts:Ev.bo:=B15
def fH(nm:LN)(ar au:Int)(cs:LV)(len:Nat)(gs:LV)(gl:Nat):AH:=al [(0,.aj [.ab nm,J ar,J au,.ad cs len 4,.ad gs gl 6] 106)] 1
section
variable{nm:LN}{ar au:Int}{ls:eK}{gs:fO}
end
theorem Tt:aU Z Ts:=amV
section aun
variable{β:Type}(ev:β->AV)
def bJ:Nat->List (Int×β)->List (AV×AV×Nat)
 |_,[]=>[]
 |b,(k,v)::l=>(J k,ev v,b)::bJ (b+1) l
def lk(k:Int):List (Int×β)->Option β
 |[]=>none
 |(x,v)::l=>if k=x then some v else lk k l
def up(k:Int)(v:β):List (Int×β)->List (Int×β)
 |[]=>[(k,v)]
 |(x,w)::l=>if k=x then(k,v)::l else(x,w)::up k v l
def ix(k:Int):List (Int×β)->Option Nat
 |[]=>none
 |(x,v)::l=>if k=x then some 0 else(ix k l).map (· +1)
theorem Re(k v j):∀l:List (Int×β),lk j (up k v l)=if j=k then some v else lk j l
 |[]=>by simp only[up,lk]
 |(x,w)::l=>by
  simp only[up];by_cases h:k=x
  .subst h;rw[aO rfl];simp only[lk];split<;>rfl
  .rw[az h];simp only[lk];by_cases h2:j=x
   .subst h2;rw[aO rfl,aO rfl,az (λe=>h e.symm)]
   .rw[az h2,az h2,Re k v j l]
def JP(P:Program)(kt:TypeId):Prop:=∀a b:Int,ik P 100 kt (J a) (J b)=some (a==b)
variable{P:Program}{kt:TypeId}
theorem W1(hk:JP P kt)(k):∀l b j,
 ou (ik P 100 kt) (J k) (bJ ev b l) j=some (match ix k l,lk k l with|some i,some v=>some (j+i,ev v,b+i)|_,_=>none)
 |[],b,j=>rfl
 |(x,v)::l,b,j=>by
  simp only[bJ,ou,hk k x,ix,lk];by_cases h:k=x
  .subst h;simp
  .have:(k==x)=false:=by simpa using h
   rw[this,az h,az h];rw[W1 hk k l (b+1) (j+1)];cases ix k l<;>cases lk k l<;>simp[Fz,Nat.add_comm 1]
theorem Q3{k}:∀{l:List (Int×β)},ix k l=none->lk k l=none/\∀v,up k v l=l++[(k,v)]
 |[],_=>⟨rfl,λ_=>rfl⟩
 |(x,w)::l,h=>by
  simp only[ix]at h;split at h
  .cases h
  next hx=>have:=Q3 (by simpa using h);simp only[lk,up,az hx,this.1,true_and];intro v;rw[this.2 v];rfl
theorem afm:∀l m b,bJ ev b (l++m)=bJ ev b l++bJ ev (b+l.length) m
 |[],m,b=>rfl
 |(x,w)::l,m,b=>by simp only[oH,bJ,afm l m (b+1),ej];congr 3;omega
theorem Zf{k}:∀{l i},ix k l=some i->∀b,(∃v,lk k l=some v)/\xy (bJ ev b l) i (J k)=true/\
 (∀v,pn (bJ ev b l) i (λe=>(J k,ev v,e.2.2))=bJ ev b (up k v l))/\∀v,(up k v l).length=l.length
 |[],_,h,_=>by cases h
 |(x,w)::l,i,h,b=>by
  simp only[ix]at h;split at h;next hx=>cases h;subst hx;refine⟨⟨w,by simp[lk]⟩,?_,λv=>by simp[up,bJ,pn],λv=>by simp[up]⟩;simp[xy,bJ,Ha,Hb]
  next hx=>
   obtain⟨i',h',rfl⟩:=CA.1 h;have⟨⟨v,h1⟩,h2,h3,h4⟩:=Zf h' (b+1);refine⟨⟨v,by simp[lk,hx,h1]⟩,?_,λv=>?_,λv=>by simp[up,hx,h4]⟩
   .simpa[xy,bJ]using h2
   .simp only[up,az hx,bJ,pn,h3]
theorem o7(hk:JP P kt){e k l b}:
 eT P kt e (bJ ev b l) (J k)=(match lk k l with|some v=>some (ev v,true)|none=>(jZ P e).map (·,false)):=by
 unfold eT;rw[W1 ev hk k l b 0];cases hi:ix k l with
 |none=>rw[(Q3 hi).1]
 |some i=>have⟨⟨v,h1⟩,_⟩:=Zf ev hi 0;rw[h1]
theorem pk(hk:JP P kt){k l v}:
 jX P kt (bJ ev 0 l) l.length (J k) (ev v)=some (bJ ev 0 (up k v l),(up k v l).length):=by
 unfold jX;rw[W1 ev hk k l 0 0];cases hi:ix k l with
 |none=>rw[(Q3 hi).1,(Q3 hi).2 v,afm];simp[bJ]
 |some i=>have⟨⟨w,h1⟩,h2,h3,h4⟩:=Zf ev hi 0;rw[h1];simp only[ki,h2,cond_true,h3,h4]
end aun
theorem jv:JP Z 2:=λa b=>by kernel_rfl
theorem Hc:JP Z 3:=λa b=>by kernel_rfl
theorem F2:jZ Z 3=some (J 0):=by kernel_rfl
theorem abQ:jZ Z 4=some (.ao false):=by kernel_rfl
def vB(b:Bool):AV:=.ao b
theorem rU{β ev}(he:∀a b,ev a=ev b->a=b):∀{l m:List (Int×β)} {b},bJ ev b l=bJ ev b m->l=m
 |[],[],_,_=>rfl
 |[],_::_,_,h=>by cases h
 |_::_,[],_,h=>by cases h
 |(k,v)::l,(k',v')::m,b,h=>by simp only[bJ,jn,I7,AV.bU.injEq,true_and,and_true]at h;obtain⟨⟨rfl,h1⟩,h2⟩:=h;rw[he _ _ h1,rU he h2]
theorem xF(a b)(h:J a=J b):a=b:=by cases h;rfl
theorem amq(a b)(h:vB a=vB b):a=b:=by cases h;rfl
structure et where
 op:Int
 r:Int
 a:Int
 n:Int
 eZ:LN
 ar:Int
 deriving DecidableEq,Inhabited
abbrev gL:=List et
def dq(i:et):LV:=[J i.op,J i.r,J i.a,J i.n,.ab i.eZ,J i.ar]
def cJ:gL->LV
 |[]=>[]
 |i::l=>dq i++cJ l
theorem GV{i j}(h:dq i=dq j):i=j:=by have⟨a,b,c,d,e,f⟩:=i;have⟨a',b',c',d',e',f'⟩:=j;obtain⟨rfl,rfl,rfl,rfl,rfl,rfl⟩:=h;rfl
theorem GW(i):(dq i).length=6:=rfl
theorem Bc:∀l:gL,(cJ l).length=l.length*6
 |[]=>rfl
 |i::l=>by simp[cJ,GW,Bc l];omega
theorem GX:∀{l m},cJ l=cJ m->l=m
 |[],[],_=>rfl
 |[],i::_,h=>by simp[cJ,dq]at h
 |i::_,[],h=>by simp[cJ,dq]at h
 |t::l,u::m,h=>by have h2:=l4 h (by rw[GW,GW]);rw[GV h2.1,GX h2.2]
theorem Pt:∀l m,cJ (l++m)=cJ l++cJ m
 |[],m=>rfl
 |i::l,m=>by simp[cJ,Pt l m]
theorem afv{l i}(h:i<l.length):((cJ l).drop (i*6)).take 6=dq l[i]:=by
 induction l generalizing i with
 |nil=>simp at h
 |cons t0 l ih=>
  cases i with
  |zero=>simp;exact xm (GW t0)
  |succ i=>
   have hl:i<l.length:=by simpa using h
   have:=ih hl;simp only[cJ,Cz];rw[<-this];have e:(i+1)*6=(dq t0).length+i*6:=by rw[GW];omega
   rw[e,I2]
theorem WJ:∀l:gL,(cJ l).all AV.cX=true/\(cJ l).all eG=true
 |[]=>⟨rfl,rfl⟩
 |i::l=>by have:=WJ l;simp only[cJ,sc,this.1,this.2,yW];exact⟨rfl,rfl⟩
structure Em where
 bg:gL
 f:bG
 iv:LP
 bz:LP
 gJ:LP
 eV:List (Int×Bool)
 c9:Int
 iL:Bool
def bQ(m:Em):AH:=al [
 (0,.aj [.ai 1 m.bg.length 6,.ab m.f.aN.cL,J m.f.aN.ar,J m.f.aN.au,.ad (aF m.f.bC) m.f.bC.length 4,.ad (bD m.f.aZ) m.f.aZ.length 6,.aA 2,.aA 3,.aA 4,.aA 5,J m.c9,.ao m.iL] 162),
 (1,.ay (cJ m.bg) 56),(2,.bm (bJ J 0 m.iv) m.iv.length true),(3,.bm (bJ J 0 m.bz) m.bz.length true),(4,.bm (bJ J 0 m.gJ) m.gJ.length true),(5,.bm (bJ vB 0 m.eV) m.eV.length true)] 6
theorem KE{m m'}(h:bQ m=bQ m'):m=m':=by have h0:=congrArg (λH=>AH.bf H 0) h;have h1:=congrArg (λH=>AH.bf H 1) h;have h2:=congrArg (λH=>AH.bf H 2) h;have h3:=congrArg (λH=>AH.bf H 3) h;have h4:=congrArg (λH=>AH.bf H 4) h;have h5:=congrArg (λH=>AH.bf H 5) h;have⟨code,⟨⟨a,b,c⟩,l,g⟩,count,bz,gJ,eV,next,iL⟩:=m;have⟨Wg,⟨⟨a',b',c'⟩,l',g'⟩,Wi,aat,abz,Zi,ajf,aiF⟩:=m';have q0:(some (bk.aj [.ai 1 code.length 6,.ab a,J b,J c,.ad (aF l) l.length 4,.ad (bD g) g.length 6,.aA 2,.aA 3,.aA 4,.aA 5,J next,.ao iL] 162):Option bk)=some (bk.aj [.ai 1 Wg.length 6,.ab a',J b',J c',.ad (aF l') l'.length 4,.ad (bD g') g'.length 6,.aA 2,.aA 3,.aA 4,.aA 5,J ajf,.ao aiF] 162):=h0;have q1:(some (bk.ay (cJ code) 56))=some (bk.ay (cJ Wg) 56):=h1;have q2:some (bk.bm (bJ J 0 count) count.length true)=some (bk.bm (bJ J 0 Wi) Wi.length true):=h2;have q3:some (bk.bm (bJ J 0 bz) bz.length true)=some (bk.bm (bJ J 0 aat) aat.length true):=h3;have q4:some (bk.bm (bJ J 0 gJ) gJ.length true)=some (bk.bm (bJ J 0 abz) abz.length true):=h4;have q5:some (bk.bm (bJ vB 0 eV) eV.length true)=some (bk.bm (bJ vB 0 Zi) Zi.length true):=h5;simp at q0;simp at q1 q2 q3 q4 q5;obtain⟨_,rfl,rfl,rfl,⟨k1,k2⟩,⟨k3,k4⟩,rfl,rfl⟩:=q0;rw[GX q1,tQ k2 k1,Ps k4 k3,rU xF q2.1,rU xF q3.1,rU xF q4.1,rU amq q5.1]
def jW(m:Em):AH:=al [
 (0,.aj [.ai 6 m.bg.length 6,.ab m.f.aN.cL,J m.f.aN.ar,J m.f.aN.au,.ad (aF m.f.bC) m.f.bC.length 4,.ad (bD m.f.aZ) m.f.aZ.length 6,.aA 2,.aA 3,.aA 4,.aA 5,J m.c9,.ao m.iL] 162),
 (1,.bc []),(2,.bm (bJ J 0 m.iv) m.iv.length true),(3,.bm (bJ J 0 m.bz) m.bz.length true),(4,.bm (bJ J 0 m.gJ) m.gJ.length true),(5,.bm (bJ vB 0 m.eV) m.eV.length true),(6,.ay (cJ m.bg) 56)] 7
theorem afo(m):Mv (bQ m) (jW m) 1:=by
 refine⟨⟨cJ m.bg,_,by rw[bQ,eh];rfl,by show(jW m).bf 6=_;rw[jW,eh];rfl⟩,by rw[jW,eh];rfl,rfl,?_,rfl⟩;intro id bB h1 h2 h;have h2:id≠6:=h2;rw[jW,eh]at h;rw[bQ,eh];simp only[cN]at h⊢;by_cases h3:id=0
 .subst h3;simp at h;subst h;exact⟨_,rfl,by simp[lD,j8,eC,kW,al,eg]⟩
 .rw[az h3,az h1]at h;rw[az h3,az h1];by_cases h4:id=2
  .subst h4;simp at h;subst h;exact⟨_,rfl,by simp[lD]⟩
  .by_cases h5:id=3
   .subst h5;simp at h;subst h;exact⟨_,rfl,by simp[lD]⟩
   .by_cases h6:id=4
    .subst h6;simp at h;subst h;exact⟨_,rfl,by simp[lD]⟩
    .by_cases h7:id=5
     .subst h7;simp at h;subst h;exact⟨_,rfl,by simp[lD]⟩
     .simp[h4,h5,h6,h7,h2]at h
theorem ML(cs off):cw Z 3 cs off=cs[off]? :=by kernel_rfl
theorem ajX(cs off):cw Z 2 cs off=cs[off]? :=by kernel_rfl
def nS(c:gL)(i:et):gL:=
 if i.op=10 then
  match c.getLast? with
  |some j=>if j.op=10 then c.dropLast++[⟨j.op,j.r,j.a,wI (j.n+i.n),j.eZ,j.ar⟩]else c++[i]
  |none=>c++[i]
 else c++[i]
def Em.aY(m:Em)(i:et):Em:=⟨nS m.bg i,m.f,m.iv,m.bz,m.gJ,m.eV,m.c9,m.iL⟩
def afg:cx (Em×et)where
 bn w args H:=args=[.aa 0 0,.ah (dq w.2)]/\H=bQ w.1/\w.1.bg.length<4194304
 v w:=.aC []
 aK w:=jW (w.1.aY w.2)
def Em.bY(m:Em):Em:=⟨m.bg,m.f,m.iv,m.bz,m.gJ,m.eV,wI (m.c9+1),m.iL||decide (wI (m.c9+1)>4096)⟩
def O9:cx Em where
 bn m args H:=args=[.aa 0 0]/\H=bQ m
 v m:=J m.bY.c9
 aK m:=bQ m.bY
theorem ap9:afg.cr:=by rintro⟨m,i⟩ ⟨m',i'⟩ args H ⟨h1,h2,_⟩ ⟨h3,h4,_⟩;rw[h1]at h3;rw[h2]at h4;have:=KE h4;subst this;simp at h3;rw[GV h3]
theorem ao4:O9.cr:=by rintro m m' args H ⟨_,h2⟩ ⟨_,h4⟩;rw[h2]at h4;rw[KE h4]
def cD(_:LV)(_:AH):Bool:=true
def Tu:Ev.bo:=bR 89 (ca afg ap9 cD) Ts
def Tv:Ev.bo:=bR 158 (ca O9 ao4 cD) Tu
theorem akZ{m i L Q}:
 bI Z Ts (λ_=>[]) L Q 1000 89 [.aa 0 0,.ah (dq i)] (bQ m)=(
 aq (i.op==10) (aq (decide (Int.ofNat m.bg.length>0)) (∃aL:Nat,wI (Int.ofNat m.bg.length-1)=(aL:Int)/\aL<m.bg.length/\(∃n:Int,cw Z 3 (cJ m.bg) (aL*6+0)=some (J n:AV)/\aq (n==10) (∃cG:Nat,wI (Int.ofNat m.bg.length-1)=(cG:Int)/\cG<m.bg.length/\(∃aP:Int,cw Z 2 (cJ m.bg) (cG*6+3)=some (J aP:AV)/\(∃dO:Nat,wI (Int.ofNat m.bg.length-1)=(dO:Int)/\dO<m.bg.length/\dO*6+3+1<=(cJ m.bg).length/\Q (.aC []) (al [(0,.aj [.ai 1 m.bg.length 6,.ab m.f.aN.cL,J m.f.aN.ar,J m.f.aN.au,.ad (aF m.f.bC) m.f.bC.length 4,.ad (bD m.f.aZ) m.f.aZ.length 6,.aA 2,.aA 3,.aA 4,.aA 5,J m.c9,.ao m.iL] 162),(1,.ay (gg (cJ m.bg) (dO*6+3) [J (wI (aP+i.n))]) 56),(2,.bm (bJ J 0 m.iv) m.iv.length true),(3,.bm (bJ J 0 m.bz) m.bz.length true),(4,.bm (bJ J 0 m.gJ) m.gJ.length true),(5,.bm (bJ vB 0 m.eV) m.eV.length true)] 6)))) (((cJ m.bg).length=m.bg.length*6/\m.bg.length+1<=4194304/\true=true/\true=true)/\Q (.aC []) (al [(0,.aj [.ai 6 (m.bg.length+1) 6,.ab m.f.aN.cL,J m.f.aN.ar,J m.f.aN.au,.ad (aF m.f.bC) m.f.bC.length 4,.ad (bD m.f.aZ) m.f.aZ.length 6,.aA 2,.aA 3,.aA 4,.aA 5,J m.c9,.ao m.iL] 162),(1,.bc []),(2,.bm (bJ J 0 m.iv) m.iv.length true),(3,.bm (bJ J 0 m.bz) m.bz.length true),(4,.bm (bJ J 0 m.gJ) m.gJ.length true),(5,.bm (bJ vB 0 m.eV) m.eV.length true),(6,.ay (cJ m.bg++dq i) 56)] 7)))) (((cJ m.bg).length=m.bg.length*6/\m.bg.length+1<=4194304/\true=true/\true=true)/\Q (.aC []) (al [(0,.aj [.ai 6 (m.bg.length+1) 6,.ab m.f.aN.cL,J m.f.aN.ar,J m.f.aN.au,.ad (aF m.f.bC) m.f.bC.length 4,.ad (bD m.f.aZ) m.f.aZ.length 6,.aA 2,.aA 3,.aA 4,.aA 5,J m.c9,.ao m.iL] 162),(1,.bc []),(2,.bm (bJ J 0 m.iv) m.iv.length true),(3,.bm (bJ J 0 m.bz) m.bz.length true),(4,.bm (bJ J 0 m.gJ) m.gJ.length true),(5,.bm (bJ vB 0 m.eV) m.eV.length true),(6,.ay (cJ m.bg++dq i) 56)] 7))) (((cJ m.bg).length=m.bg.length*6/\m.bg.length+1<=4194304/\true=true/\true=true)/\Q (.aC []) (al [(0,.aj [.ai 6 (m.bg.length+1) 6,.ab m.f.aN.cL,J m.f.aN.ar,J m.f.aN.au,.ad (aF m.f.bC) m.f.bC.length 4,.ad (bD m.f.aZ) m.f.aZ.length 6,.aA 2,.aA 3,.aA 4,.aA 5,J m.c9,.ao m.iL] 162),(1,.bc []),(2,.bm (bJ J 0 m.iv) m.iv.length true),(3,.bm (bJ J 0 m.bz) m.bz.length true),(4,.bm (bJ J 0 m.gJ) m.gJ.length true),(5,.bm (bJ vB 0 m.eV) m.eV.length true),(6,.ay (cJ m.bg++dq i) 56)] 7))):=by kernel_rfl
theorem awq{m L Q}:
 bI Z Tu (λ_=>[]) L Q 1000 158 [.aa 0 0] (bQ m)=(
 aq (decide (wI (m.c9+1)>4096)) (Q (J (wI (m.c9+1))) (al [(0,.aj [.ai 1 m.bg.length 6,.ab m.f.aN.cL,J m.f.aN.ar,J m.f.aN.au,.ad (aF m.f.bC) m.f.bC.length 4,.ad (bD m.f.aZ) m.f.aZ.length 6,.aA 2,.aA 3,.aA 4,.aA 5,J (wI (m.c9+1)),.ao true] 162),(1,.ay (cJ m.bg) 56),(2,.bm (bJ J 0 m.iv) m.iv.length true),(3,.bm (bJ J 0 m.bz) m.bz.length true),(4,.bm (bJ J 0 m.gJ) m.gJ.length true),(5,.bm (bJ vB 0 m.eV) m.eV.length true)] 6)) (Q (J (wI (m.c9+1))) (al [(0,.aj [.ai 1 m.bg.length 6,.ab m.f.aN.cL,J m.f.aN.ar,J m.f.aN.au,.ad (aF m.f.bC) m.f.bC.length 4,.ad (bD m.f.aZ) m.f.aZ.length 6,.aA 2,.aA 3,.aA 4,.aA 5,J (wI (m.c9+1)),.ao m.iL] 162),(1,.ay (cJ m.bg) 56),(2,.bm (bJ J 0 m.iv) m.iv.length true),(3,.bm (bJ J 0 m.bz) m.bz.length true),(4,.bm (bJ J 0 m.gJ) m.gJ.length true),(5,.bm (bJ vB 0 m.eV) m.eV.length true)] 6))):=by kernel_rfl
theorem afe{c i}(h:i.op≠10):nS c i=c++[i]:=by simp[nS,h]
theorem aff{i}:nS [] i=[i]:=by simp[nS]
theorem Pl{d j i}(h:i.op=10):nS (d++[j]) i=if j.op=10 then d++[⟨j.op,j.r,j.a,wI (j.n+i.n),j.eZ,j.ar⟩]else d++[j]++[i]:=by simp[nS,h]
theorem Bb(c i):(nS c i).length<=c.length+1:=by
 rcases List.eq_nil_or_concat c with rfl|⟨d,j,rfl⟩
 .simp[aff]
 .by_cases h:i.op=10
  .rw[List.concat_eq_append,Pl h];split<;>simp
  .rw[afe h];simp
theorem GY(d j):cJ (d++[j])=cJ d++dq j:=by rw[Pt];simp[cJ]
theorem ayh(m i)(hl:m.bg.length<4194304):bZ Z 89 [.aa 0 0,.ah (dq i)] (bQ m) (.aC []) (jW (m.aY i)):=by
 have⟨c,f,count,bz,gJ,eV,next,iL⟩:=m;simp only at hl;have bX:=Bc c;have mh:nS c i=c++[i]->∀x:Prop,x->fA (.aC []) (jW (Em.aY ⟨c,f,count,bz,gJ,eV,next,iL⟩ i)) (.aC []) (al [(0,.aj [.ai 6 (c.length+1) 6,.ab f.aN.cL,J f.aN.ar,J f.aN.au,.ad (aF f.bC) f.bC.length 4,.ad (bD f.aZ) f.aZ.length 6,.aA 2,.aA 3,.aA 4,.aA 5,J next,.ao iL] 162),(1,.bc []),(2,.bm (bJ J 0 count) count.length true),(3,.bm (bJ J 0 bz) bz.length true),(4,.bm (bJ J 0 gJ) gJ.length true),(5,.bm (bJ vB 0 eV) eV.length true),(6,.ay (cJ c++dq i) 56)] 7):=by intro h x _;refine⟨rfl,?_⟩;rw[Em.aY,h,jW];simp only[cI,ej,gW,GY]
 by_cases hb:i.op=10/\∃d j,c=d++[j]/\j.op=10
 .obtain⟨hi,d,j,rfl,hj⟩:=hb;refine DU (v:=.aC []) ?_ (afo _) (by simp[eC,j8]) (cM _);refine eE 53 Tt akZ ?_;have bS:(d++[j]).length=d.length+1:=by simp
  have e1:wI (Int.ofNat (d++[j]).length-1)=((d.length:Nat):Int):=by rw[bS]at hl⊢;rw[cO (by simp only[sa];omega) (by simp;omega)];simp
  have hd:=Bc d;have g0:cw Z 3 (cJ (d++[j])) (d.length*6+0)=some (J j.op):=by rw[ML,GY,MQ (by omega)];simp[hd,dq]
  have g3:cw Z 2 (cJ (d++[j])) (d.length*6+3)=some (J j.n):=by rw[ajX,GY,MQ (by omega)];simp[hd,dq]
  refine aD.2 ⟨λ_=>aD.2 ⟨λ_=>?_,λh=>?_⟩,λh=>?_⟩
  .refine⟨d.length,e1,by simp,j.op,g0,aD.2 ⟨λ_=>?_,λh=>?_⟩⟩
   .refine⟨d.length,e1,by simp,j.n,g3,d.length,e1,by simp,by rw[bX,bS];omega,rfl,?_⟩;have:cJ (nS (d++[j]) i)=gg (cJ (d++[j])) (d.length*6+3) [J (wI (j.n+i.n))]:=by
     rw[Pl hi,aO hj,GY,GY];have:dq j=[J j.op,J j.r,J j.a]++[J j.n,.ab j.eZ,J j.ar]:=rfl;have e2:cJ d++dq j=(cJ d++[J j.op,J j.r,J j.a])++[J j.n,.ab j.eZ,J j.ar]:=by rw[this,j7]
     unfold gg;rw[e2,xm (by simp[hd]),List.drop_append];simp[hd,dq]
    rw[Em.aY,bQ];simp only[this];have e3:(nS (d++[j]) i).length=(d++[j]).length:=by rw[Pl hi,aO hj];simp
    rw[e3]
   .simp[hj]at h
  .simp at h
  .simp[hi]at h
 .refine eE 53 Tt akZ ?_;simp only;have XN:((cJ c).length=c.length*6)/\(c.length+1<=4194304)/\True/\True:=⟨bX,by omega,trivial,trivial⟩;refine aD.2 ⟨λh=>aD.2 ⟨λh2=>?_,λh2=>?_⟩,λh=>?_⟩
  .have h:i.op=10:=by simpa using h
   rcases List.eq_nil_or_concat c with rfl|⟨d,j,rfl⟩
   .simp at h2
   .rw[List.concat_eq_append]at*;have hj:=λe=>hb ⟨h,d,j,rfl,e⟩
    have bS:(d++[j]).length=d.length+1:=by simp
    have e1:wI (Int.ofNat (d++[j]).length-1)=((d.length:Nat):Int):=by rw[bS]at hl⊢;rw[cO (by simp only[sa];omega) (by simp;omega)];simp
    have hd:=Bc d;have g0:cw Z 3 (cJ (d++[j])) (d.length*6+0)=some (J j.op):=by rw[ML,GY,MQ (by omega)];simp[hd,dq]
    refine⟨d.length,e1,by simp,j.op,g0,aD.2 ⟨λh3=>?_,λ_=>?_⟩⟩
    .exact absurd (by simpa using h3) hj
    .exact⟨XN,mh (by rw[Pl h,az hj]) True trivial⟩
  .have h2:c=[]:=by simpa using h2
   subst h2;exact⟨XN,mh aff True trivial⟩
  .have h:i.op≠10:=by simpa using h
   exact⟨XN,mh (afe h) True trivial⟩
theorem abU:aU Z Tu:=by refine cA Tt ?_;rintro⟨m,i⟩ args H ⟨rfl,rfl,hl⟩;exact ayh m i hl
theorem abV:aU Z Tv:=by
 refine cA abU ?_;rintro m args H ⟨rfl,rfl⟩;refine eE 22 abU awq ?_;refine aD.2 ⟨λh=>?_,λh=>?_⟩
 .refine⟨rfl,?_⟩;simp only[O9,Em.bY,bQ,h,Bool.or_true]
 .refine⟨rfl,?_⟩;simp only[O9,Em.bY,bQ,h,Bool.or_false]
def Em.yj(m:Em)(v:Int):Bool:=(lk v m.bz).isNone&&(lk v m.gJ).isNone
def Em.mL(m:Em)(v:Int):Int:=
 match lk v m.bz with
 |some k=>wI (-k)
 |none=>match lk v m.gJ with
  |some r=>r
  |none=>wI (m.c9+1)
def Em.jo(m:Em)(v:Int):Em:=⟨m.bg,m.f,m.iv,m.bz,bif m.yj v then up v (wI (m.c9+1)) m.gJ else m.gJ,m.eV,
 bif m.yj v then wI (m.c9+1)else m.c9,bif m.yj v then m.iL||decide (wI (m.c9+1)>4096)else m.iL⟩
def aaN:cx (Em×Int)where
 bn w args H:=args=[.aa 0 0,J w.2]/\H=bQ w.1
 v w:=J (w.1.mL w.2)
 aK w:=bQ (w.1.jo w.2)
theorem av1:aaN.cr:=by rintro⟨m,v⟩ ⟨m',v'⟩ args H ⟨h1,h2⟩ ⟨h3,h4⟩;simp only at h1 h2 h3 h4;rw[h2]at h4;rw[h1]at h3;rw[KE h4];cases h3;rfl
def Em.Ao(m:Em)(v:Int):Em:=⟨m.bg,m.f,m.iv,m.bz,m.gJ,up v true m.eV,m.c9,m.iL⟩
def Em.ra(m:Em)(v:Int):Bool:=(lk v m.eV).getD false
def Em.nK(m:Em)(v first yH a:Int):Em:=((m.jo v).aY ⟨bif m.ra v then yH else first,m.mL v,a,0,[],0⟩).Ao v
def abI:cx (Em×Int×Int×Int×Int)where
 bn w args H:=args=[.aa 0 0,J w.2.1,J w.2.2.1,J w.2.2.2.1,J w.2.2.2.2]/\H=bQ w.1/\w.1.bg.length<4194304
 v w:=.aC []
 aK w:=jW (w.1.nK w.2.1 w.2.2.1 w.2.2.2.1 w.2.2.2.2)
theorem aC3:abI.cr:=by rintro⟨m,v,a,b,c⟩ ⟨m',v',a',b',c'⟩ args H ⟨h1,h2,_⟩ ⟨h3,h4,_⟩;simp only at h1 h2 h3 h4;rw[h2]at h4;rw[h1]at h3;rw[KE h4];cases h3;rfl
def Tw:Ev.bo:=bR 159 (ca aaN av1 cD) Tv
def Tx:Ev.bo:=bR 155 (ca abI aC3 cD) Tw
theorem awr{m v L Q}:
 bI Z Tv (λ_=>[]) L Q 1000 159 [.aa 0 0,J v] (bQ m)=(
 ∃n b,eT Z 2 3 (bJ J 0 m.bz) (J v)=some (J n,b)/\aq b (Q (J (wI (0-n))) (bQ m)) (∃aP iE,eT Z 2 3 (bJ J 0 m.gJ) (J v)=some (J aP,iE)/\aq (!iE) (∃w,(([.aa 0 0]:LV)=[.aa 0 0]/\bQ m=bQ w)/\(∃bF c',jX Z 2 (bJ J 0 w.bY.gJ) w.bY.gJ.length (J v) (J w.bY.c9)=some (bF,c')/\Q (J w.bY.c9) (al [(0,.aj [.ai 1 w.bY.bg.length 6,.ab w.bY.f.aN.cL,J w.bY.f.aN.ar,J w.bY.f.aN.au,.ad (aF w.bY.f.bC) w.bY.f.bC.length 4,.ad (bD w.bY.f.aZ) w.bY.f.aZ.length 6,.aA 2,.aA 3,.aA 4,.aA 5,J w.bY.c9,.ao w.bY.iL] 162),(1,.ay (cJ w.bY.bg) 56),(2,.bm (bJ J 0 w.bY.iv) w.bY.iv.length true),(3,.bm (bJ J 0 w.bY.bz) w.bY.bz.length true),(4,.bm bF c' true),(5,.bm (bJ vB 0 w.bY.eV) w.bY.eV.length true)] 6))) (Q (J aP) (bQ m)))):=by kernel_rfl
theorem azj{m v first yH a L Q}:
 bI Z Tw (λ_=>[]) L Q 1000 155 [.aa 0 0,J v,J first,J yH,J a] (bQ m)=(
 ∃b iE,eT Z 2 4 (bJ vB 0 m.eV) (J v)=some (.ao b,iE)/\aq (!b) (∃w:Em×Int,(([.aa 0 0,J v]:LV)=[.aa 0 0,J w.2]/\bQ m=bQ w.1)/\(∃ae:Em×et,(([.aa 0 0,.ah [J first,J (w.1.mL w.2),J a,J 0,.ab [],J 0]]:LV)=[.aa 0 0,.ah (dq ae.2)]/\bQ (w.1.jo w.2)=bQ ae.1/\ae.1.bg.length<4194304)/\(∃bF c',jX Z 2 (bJ vB 0 (ae.1.aY ae.2).eV) (ae.1.aY ae.2).eV.length (J v) (.ao true)=some (bF,c')/\Q (.aC []) (al [(0,.aj [.ai 6 (ae.1.aY ae.2).bg.length 6,.ab (ae.1.aY ae.2).f.aN.cL,J (ae.1.aY ae.2).f.aN.ar,J (ae.1.aY ae.2).f.aN.au,.ad (aF (ae.1.aY ae.2).f.bC) (ae.1.aY ae.2).f.bC.length 4,.ad (bD (ae.1.aY ae.2).f.aZ) (ae.1.aY ae.2).f.aZ.length 6,.aA 2,.aA 3,.aA 4,.aA 5,J (ae.1.aY ae.2).c9,.ao (ae.1.aY ae.2).iL] 162),(1,.bc []),(2,.bm (bJ J 0 (ae.1.aY ae.2).iv) (ae.1.aY ae.2).iv.length true),(3,.bm (bJ J 0 (ae.1.aY ae.2).bz) (ae.1.aY ae.2).bz.length true),(4,.bm (bJ J 0 (ae.1.aY ae.2).gJ) (ae.1.aY ae.2).gJ.length true),(5,.bm bF c' true),(6,.ay (cJ (ae.1.aY ae.2).bg) 56)] 7)))) (∃w:Em×Int,(([.aa 0 0,J v]:LV)=[.aa 0 0,J w.2]/\bQ m=bQ w.1)/\(∃ae:Em×et,(([.aa 0 0,.ah [J yH,J (w.1.mL w.2),J a,J 0,.ab [],J 0]]:LV)=[.aa 0 0,.ah (dq ae.2)]/\bQ (w.1.jo w.2)=bQ ae.1/\ae.1.bg.length<4194304)/\(∃bF c',jX Z 2 (bJ vB 0 (ae.1.aY ae.2).eV) (ae.1.aY ae.2).eV.length (J v) (.ao true)=some (bF,c')/\Q (.aC []) (al [(0,.aj [.ai 6 (ae.1.aY ae.2).bg.length 6,.ab (ae.1.aY ae.2).f.aN.cL,J (ae.1.aY ae.2).f.aN.ar,J (ae.1.aY ae.2).f.aN.au,.ad (aF (ae.1.aY ae.2).f.bC) (ae.1.aY ae.2).f.bC.length 4,.ad (bD (ae.1.aY ae.2).f.aZ) (ae.1.aY ae.2).f.aZ.length 6,.aA 2,.aA 3,.aA 4,.aA 5,J (ae.1.aY ae.2).c9,.ao (ae.1.aY ae.2).iL] 162),(1,.bc []),(2,.bm (bJ J 0 (ae.1.aY ae.2).iv) (ae.1.aY ae.2).iv.length true),(3,.bm (bJ J 0 (ae.1.aY ae.2).bz) (ae.1.aY ae.2).bz.length true),(4,.bm (bJ J 0 (ae.1.aY ae.2).gJ) (ae.1.aY ae.2).gJ.length true),(5,.bm bF c' true),(6,.ay (cJ (ae.1.aY ae.2).bg) 56)] 7))))):=by kernel_rfl
theorem abW:aU Z Tw:=by
 refine cA abV ?_;rintro⟨m,v⟩ args H ⟨rfl,rfl⟩;refine eE 41 abV awr ?_;simp only[aaN,Em.mL,Em.jo,Em.yj];cases hp:lk v m.bz with
 |some k=>refine⟨k,true,by rw[o7 _ jv,hp],aD.2 ⟨λ_=>⟨by rw[Int.zero_sub],rfl⟩,λh=>by cases h⟩⟩
 |none=>
  refine⟨0,false,by rw[o7 _ jv,hp,F2];rfl,aD.2 ⟨λh=>(by cases h),λ_=>?_⟩⟩;cases ht:lk v m.gJ with
  |some r=>refine⟨r,true,by rw[o7 _ jv,ht],aD.2 ⟨λh=>(by cases h),λ_=>⟨rfl,rfl⟩⟩⟩
  |none=>refine⟨0,false,by rw[o7 _ jv,ht,F2];rfl,aD.2 ⟨λ_=>?_,λh=>(by cases h)⟩⟩;refine⟨m,⟨by trivial,rfl⟩,_,_,pk J jv,rfl,rfl⟩
theorem aC4(m:Em)(v first yH a b)(hb:m.ra v=b):m.nK v first yH a=((m.jo v).aY ⟨bif b then yH else first,m.mL v,a,0,[],0⟩).Ao v:=by rw[Em.nK,hb]
theorem Ty:aU Z Tx:=by
 refine cA abW ?_;rintro⟨m,v,first,yH,a⟩ args H ⟨rfl,rfl,hl⟩;refine eE 35 abW azj ?_;have hk:∃b:Bool,∃iE:Bool,eT Z 2 4 (bJ vB 0 m.eV) (J v)=some (.ao b,iE)/\m.ra v=b:=by
  rw[o7 _ jv];unfold Em.ra;cases lk v m.eV with
  |none=>exact⟨false,false,by rw[abQ];rfl,rfl⟩
  |some b=>exact⟨b,true,rfl,rfl⟩
 have⟨b,b1,h1,h2⟩:=hk;refine⟨b,b1,h1,?_⟩;simp only[abI];rw[aC4 m v first yH a b h2];refine aD.2 ⟨λh=>?_,λh=>?_⟩
 .have h:b=false:=by simpa using h
  subst h;exact⟨(m,v),⟨rfl,rfl⟩,(m.jo v,⟨first,m.mL v,a,0,[],0⟩),⟨rfl,rfl,hl⟩,_,_,pk vB jv,rfl,rfl⟩
 .have h:b=true:=by simpa using h
  subst h;exact⟨(m,v),⟨rfl,rfl⟩,(m.jo v,⟨yH,m.mL v,a,0,[],0⟩),⟨rfl,rfl,hl⟩,_,_,pk vB jv,rfl,rfl⟩
def lB{W:Type}(args:W->LV)(step:Em->W->Em)(ok:Em->W->Prop):cx (Em×W)where
 bn w A H:=A=.aa 0 0::args w.2/\H=bQ w.1/\ok w.1 w.2
 v w:=.aC []
 aK w:=jW (step w.1 w.2)
theorem ur{W args step}{ok:Em->W->Prop}(hi:∀a b,args a=args b->a=b):(lB args step ok).cr:=by rintro⟨m,w⟩ ⟨m',w'⟩ A H ⟨h1,h2,_⟩ ⟨h3,h4,_⟩;simp only at h1 h2 h3 h4;rw[h2]at h4;rw[h1]at h3;rw[KE h4,hi _ _ (List.cons.inj h3).2]
def Em.qR(m:Em)(v:Int):Int:=(lk v m.iv).getD 0
def aT(w:Int×aI):LV:=[J w.1,.ah (aW w.2)]
theorem zq(a b)(h:aT a=aT b):a=b:=by have⟨a,t⟩:=a;have⟨b,u⟩:=b;simp only[aT,jn,AV.bU.injEq,AV.ah.injEq,true_and,and_true]at h;rw[h.1,m_ h.2]
def tj{W:Type}(m:Em)(_:W):Prop:=m.bg.length<4194304
def aaV{W:Type}(m:Em)(_:W):Prop:=m.bg.length<4194303
def Em.wD(m:Em)(w:Int×aI):Em:=if m.qR w.2.n>1 then m.nK w.2.n 1 2 w.1 else m
def Em.KV(m:Em)(w:Int×aI):Em:=m.aY ⟨3,0,w.1,w.2.n,[],0⟩
def Em.KU(m:Em)(w:Int×aI):Em:=m.aY ⟨4,0,w.1,0,w.2.cK,0⟩
def Em.vM(m:Em)(w:Int×aI):Em:=if m.qR w.2.n>1 then m.nK w.2.n 11 12 w.1 else m.aY ⟨11,w.1,w.1,0,[],0⟩
def Em.MP(m:Em)(w:Int×aI):Em:=m.aY ⟨13,0,w.1,w.2.n,[],0⟩
def Em.MO(m:Em)(w:Int×aI):Em:=m.aY ⟨14,0,w.1,0,w.2.cK,0⟩
def aV(w:Int×Int):LV:=[J w.1,J w.2]
theorem anT(a b)(h:aV a=aV b):a=b:=by have⟨a,t⟩:=a;have⟨b,u⟩:=b;simp only[aV,jn,AV.bU.injEq,true_and,and_true]at h;rw[h.1,h.2]
def a1(v:Int):LV:=[J v]
theorem anR(a b)(h:a1 a=a1 b):a=b:=by cases h;rfl
def Em.lR(m:Em)(w:Int×Int):Em:=bif m.ra w.2 then
 ((m.bY.aY ⟨w.1,m.bY.c9,0,0,[],0⟩).jo w.2).aY ⟨2,(m.bY.aY ⟨w.1,m.bY.c9,0,0,[],0⟩).mL w.2,m.bY.c9,0,[],0⟩
 else((m.jo w.2).aY ⟨w.1,m.mL w.2,0,0,[],0⟩).Ao w.2
def Em.rL(m:Em)(v:Int):Em:=bif m.ra v then(m.jo v).aY ⟨24,m.mL v,0,0,[],0⟩else m
def Tz:Ev.bo:=bR 125 (ca (lB aT Em.wD tj) (ur zq) cD) Tx
def TA:Ev.bo:=bR 126 (ca (lB aT Em.KV tj) (ur zq) cD) Tz
def TB:Ev.bo:=bR 127 (ca (lB aT Em.KU tj) (ur zq) cD) TA
def TC:Ev.bo:=bR 160 (ca (lB aT Em.vM tj) (ur zq) cD) TB
def TD:Ev.bo:=bR 161 (ca (lB aT Em.MP tj) (ur zq) cD) TC
def TE:Ev.bo:=bR 162 (ca (lB aT Em.MO tj) (ur zq) cD) TD
def TF:Ev.bo:=bR 130 (ca (lB aV Em.lR aaV) (ur anT) cD) TE
def TH:Ev.bo:=bR 131 (ca (lB a1 Em.rL tj) (ur anR) cD) TF
theorem ak2{m a k n s cs len L Q}:
 bI Z Tx (λ_=>[]) L Q 1000 125 [.aa 0 0,J a,.ah [J k,J n,.ab s,.ad cs len 4]] (bQ m)=(
 ∃aP:Int,∃b:Bool,eT Z 2 3 (bJ J 0 m.iv) (J n)=some (J aP,b)/\aq (decide (aP>1)) (∃w:Em×Int×Int×Int×Int,(([.aa 0 0,J n,J 1,J 2,J a]:LV)=[.aa 0 0,J w.2.1,J w.2.2.1,J w.2.2.2.1,J w.2.2.2.2]/\bQ m=bQ w.1/\w.1.bg.length<4194304)/\Q (.aC []) (jW (w.1.nK w.2.1 w.2.2.1 w.2.2.2.1 w.2.2.2.2))) (Q (.aC []) (bQ m))):=by kernel_rfl
theorem ayG{m a k n s cs len L Q}:
 bI Z Tz (λ_=>[]) L Q 1000 126 [.aa 0 0,J a,.ah [J k,J n,.ab s,.ad cs len 4]] (bQ m)=(
 ∃w:Em×et,(([.aa 0 0,.ah [J 3,J 0,J a,J n,.ab [],J 0]]:LV)=[.aa 0 0,.ah (dq w.2)]/\bQ m=bQ w.1/\w.1.bg.length<4194304)/\Q (.aC []) (jW (w.1.aY w.2))):=by kernel_rfl
theorem ayH{m a k n s cs len L Q}:
 bI Z TA (λ_=>[]) L Q 1000 127 [.aa 0 0,J a,.ah [J k,J n,.ab s,.ad cs len 4]] (bQ m)=(
 ∃w:Em×et,(([.aa 0 0,.ah [J 4,J 0,J a,J 0,.ab s,J 0]]:LV)=[.aa 0 0,.ah (dq w.2)]/\bQ m=bQ w.1/\w.1.bg.length<4194304)/\Q (.aC []) (jW (w.1.aY w.2))):=by kernel_rfl
theorem aws{m a k n s cs len L Q}:
 bI Z TB (λ_=>[]) L Q 1000 160 [.aa 0 0,J a,.ah [J k,J n,.ab s,.ad cs len 4]] (bQ m)=(
 ∃aP:Int,∃b:Bool,eT Z 2 3 (bJ J 0 m.iv) (J n)=some (J aP,b)/\aq (decide (aP>1)) (∃w:Em×Int×Int×Int×Int,(([.aa 0 0,J n,J 11,J 12,J a]:LV)=[.aa 0 0,J w.2.1,J w.2.2.1,J w.2.2.2.1,J w.2.2.2.2]/\bQ m=bQ w.1/\w.1.bg.length<4194304)/\Q (.aC []) (jW (w.1.nK w.2.1 w.2.2.1 w.2.2.2.1 w.2.2.2.2))) (∃w:Em×et,(([.aa 0 0,.ah [J 11,J a,J a,J 0,.ab [],J 0]]:LV)=[.aa 0 0,.ah (dq w.2)]/\bQ m=bQ w.1/\w.1.bg.length<4194304)/\Q (.aC []) (jW (w.1.aY w.2)))):=by kernel_rfl
theorem awt{m a k n s cs len L Q}:
 bI Z TC (λ_=>[]) L Q 1000 161 [.aa 0 0,J a,.ah [J k,J n,.ab s,.ad cs len 4]] (bQ m)=(
 ∃w:Em×et,(([.aa 0 0,.ah [J 13,J 0,J a,J n,.ab [],J 0]]:LV)=[.aa 0 0,.ah (dq w.2)]/\bQ m=bQ w.1/\w.1.bg.length<4194304)/\Q (.aC []) (jW (w.1.aY w.2))):=by kernel_rfl
theorem awu{m a k n s cs len L Q}:
 bI Z TD (λ_=>[]) L Q 1000 162 [.aa 0 0,J a,.ah [J k,J n,.ab s,.ad cs len 4]] (bQ m)=(
 ∃w:Em×et,(([.aa 0 0,.ah [J 14,J 0,J a,J 0,.ab s,J 0]]:LV)=[.aa 0 0,.ah (dq w.2)]/\bQ m=bQ w.1/\w.1.bg.length<4194304)/\Q (.aC []) (jW (w.1.aY w.2))):=by kernel_rfl
theorem ayL{m op v L Q}:
 bI Z TE (λ_=>[]) L Q 1000 130 [.aa 0 0,J op,J v] (bQ m)=(
 ∃b:Bool,∃iE:Bool,eT Z 2 4 (bJ vB 0 m.eV) (J v)=some (.ao b,iE)/\aq (!b) (∃w:Em×Int,(([.aa 0 0,J v]:LV)=[.aa 0 0,J w.2]/\bQ m=bQ w.1)/\(∃ae:Em×et,(([.aa 0 0,.ah [J op,J (w.1.mL w.2),J 0,J 0,.ab [],J 0]]:LV)=[.aa 0 0,.ah (dq ae.2)]/\bQ (w.1.jo w.2)=bQ ae.1/\ae.1.bg.length<4194304)/\(∃bF:List (AV×AV×Nat),∃c':Nat,jX Z 2 (bJ vB 0 (ae.1.aY ae.2).eV) (ae.1.aY ae.2).eV.length (J v) (.ao true)=some (bF,c')/\Q (.aC []) (al [(0,.aj [.ai 6 (ae.1.aY ae.2).bg.length 6,.ab (ae.1.aY ae.2).f.aN.cL,J (ae.1.aY ae.2).f.aN.ar,J (ae.1.aY ae.2).f.aN.au,.ad (aF (ae.1.aY ae.2).f.bC) (ae.1.aY ae.2).f.bC.length 4,.ad (bD (ae.1.aY ae.2).f.aZ) (ae.1.aY ae.2).f.aZ.length 6,.aA 2,.aA 3,.aA 4,.aA 5,J (ae.1.aY ae.2).c9,.ao (ae.1.aY ae.2).iL] 162),(1,.bc []),(2,.bm (bJ J 0 (ae.1.aY ae.2).iv) (ae.1.aY ae.2).iv.length true),(3,.bm (bJ J 0 (ae.1.aY ae.2).bz) (ae.1.aY ae.2).bz.length true),(4,.bm (bJ J 0 (ae.1.aY ae.2).gJ) (ae.1.aY ae.2).gJ.length true),(5,.bm bF c' true),(6,.ay (cJ (ae.1.aY ae.2).bg) 56)] 7)))) (∃w:Em,(([.aa 0 0]:LV)=[.aa 0 0]/\bQ m=bQ w)/\(∃ae:Em×et,(([.aa 0 0,.ah [J op,J w.bY.c9,J 0,J 0,.ab [],J 0]]:LV)=[.aa 0 0,.ah (dq ae.2)]/\bQ w.bY=bQ ae.1/\ae.1.bg.length<4194304)/\(∃aS:Em×Int,(([.aa 0 0,J v]:LV)=[.aa 0 0,J aS.2]/\bQ (ae.1.aY ae.2)=bQ aS.1)/\(∃c_:Em×et,(([.aa 0 0,.ah [J 2,J (aS.1.mL aS.2),J w.bY.c9,J 0,.ab [],J 0]]:LV)=[.aa 0 0,.ah (dq c_.2)]/\bQ (aS.1.jo aS.2)=bQ c_.1/\c_.1.bg.length<4194304)/\Q (.aC []) (jW (c_.1.aY c_.2))))))):=by kernel_rfl
theorem ak4{m v L Q}:
 bI Z TF (λ_=>[]) L Q 1000 131 [.aa 0 0,J v] (bQ m)=(
 ∃b:Bool,∃iE:Bool,eT Z 2 4 (bJ vB 0 m.eV) (J v)=some (.ao b,iE)/\aq b (∃w:Em×Int,(([.aa 0 0,J v]:LV)=[.aa 0 0,J w.2]/\bQ m=bQ w.1)/\(∃ae:Em×et,(([.aa 0 0,.ah [J 24,J (w.1.mL w.2),J 0,J 0,.ab [],J 0]]:LV)=[.aa 0 0,.ah (dq ae.2)]/\bQ (w.1.jo w.2)=bQ ae.1/\ae.1.bg.length<4194304)/\Q (.aC []) (jW (ae.1.aY ae.2)))) (Q (.aC []) (bQ m))):=by kernel_rfl
theorem Rf(m:Em)(v):∃n:Int,∃b:Bool,eT Z 2 3 (bJ J 0 m.iv) (J v)=some (J n,b)/\m.qR v=n:=by
 rw[o7 _ jv];unfold Em.qR;cases lk v m.iv with
 |none=>exact⟨0,false,by rw[F2];rfl,rfl⟩
 |some b=>exact⟨b,true,rfl,rfl⟩
theorem aiI(m:Em)(v):∃b:Bool,∃iE:Bool,eT Z 2 4 (bJ vB 0 m.eV) (J v)=some (.ao b,iE)/\m.ra v=b:=by
 rw[o7 _ jv];unfold Em.ra;cases lk v m.eV with
 |none=>exact⟨false,false,by rw[abQ];rfl,rfl⟩
 |some b=>exact⟨b,true,rfl,rfl⟩
theorem afD{f args m0 m}(h:bZ Z f args (bQ m0) (.aC []) (bQ m)):bZ Z f args (bQ m0) (.aC []) (jW m):=
 DU h (afo m) (by simp[eC,j8]) (cM _)
theorem abY:aU Z Tz:=by
 refine cA Ty ?_;rintro⟨m,a,⟨k,n,s,l⟩⟩ args H ⟨rfl,rfl,hl⟩;simp only[lB,aT,aW];have⟨c,b,h1,h2⟩:=Rf m n;by_cases hc:c>1
 .refine eE 19 Ty ak2 ?_;refine⟨c,b,h1,aD.2 ⟨λh=>⟨(m,n,1,2,a),⟨rfl,rfl,hl⟩,rfl,?_⟩,λh=>absurd hc (by simpa using h)⟩⟩;have:m.wD (a,.mk k n s l)=m.nK n 1 2 a:=aO (by rw[show(aI.mk k n s l).n=n from rfl,h2];exact hc);rw[this]
 .have:m.wD (a,.mk k n s l)=m:=az (by rw[show(aI.mk k n s l).n=n from rfl,h2];exact hc);rw[this];refine afD ?_;refine eE 19 Ty ak2 ?_;exact⟨c,b,h1,aD.2 ⟨λh=>absurd (by simpa using h) hc,λh=>⟨rfl,rfl⟩⟩⟩
theorem abZ:aU Z TA:=by refine cA abY ?_;rintro⟨m,a,⟨k,n,s,l⟩⟩ args H ⟨rfl,rfl,hl⟩;refine eS abY 1000 (λ_=>[]) 14 (by kernel_rfl) ?_;simp only[lB,aT,aW];rw[ayG];exact⟨(m,⟨3,0,a,n,[],0⟩),⟨rfl,rfl,hl⟩,rfl,rfl⟩
theorem ab0:aU Z TB:=by refine cA abZ ?_;rintro⟨m,a,⟨k,n,s,l⟩⟩ args H ⟨rfl,rfl,hl⟩;refine eS abZ 1000 (λ_=>[]) 14 (by kernel_rfl) ?_;simp only[lB,aT,aW];rw[ayH];exact⟨(m,⟨4,0,a,0,s,0⟩),⟨rfl,rfl,hl⟩,rfl,rfl⟩
theorem ab1:aU Z TC:=by
 refine cA ab0 ?_;rintro⟨m,a,⟨k,n,s,l⟩⟩ args H ⟨rfl,rfl,hl⟩;simp only[lB,aT,aW];have⟨c,b,h1,h2⟩:=Rf m n;refine eE 26 ab0 aws ?_;refine⟨c,b,h1,aD.2 ⟨λh=>⟨(m,n,11,12,a),⟨rfl,rfl,hl⟩,rfl,?_⟩,λh=>⟨(m,⟨11,a,a,0,[],0⟩),⟨rfl,rfl,hl⟩,rfl,?_⟩⟩⟩
 .have hc:c>1:=by simpa using h
  have:m.vM (a,.mk k n s l)=m.nK n 11 12 a:=aO (by rw[show(aI.mk k n s l).n=n from rfl,h2];exact hc);rw[this]
 .have hc:¬c>1:=by simpa using h
  have:m.vM (a,.mk k n s l)=m.aY ⟨11,a,a,0,[],0⟩:=az (by rw[show(aI.mk k n s l).n=n from rfl,h2];exact hc);rw[this]
theorem ab2:aU Z TD:=by refine cA ab1 ?_;rintro⟨m,a,⟨k,n,s,l⟩⟩ args H ⟨rfl,rfl,hl⟩;refine eS ab1 1000 (λ_=>[]) 14 (by kernel_rfl) ?_;simp only[lB,aT,aW];rw[awt];exact⟨(m,⟨13,0,a,n,[],0⟩),⟨rfl,rfl,hl⟩,rfl,rfl⟩
theorem ab3:aU Z TE:=by refine cA ab2 ?_;rintro⟨m,a,⟨k,n,s,l⟩⟩ args H ⟨rfl,rfl,hl⟩;refine eS ab2 1000 (λ_=>[]) 14 (by kernel_rfl) ?_;simp only[lB,aT,aW];rw[awu];exact⟨(m,⟨14,0,a,0,s,0⟩),⟨rfl,rfl,hl⟩,rfl,rfl⟩
theorem TG:aU Z TF:=by
 refine cA ab3 ?_;rintro⟨m,op,v⟩ args H ⟨rfl,rfl,hl⟩;have hl:m.bg.length<4194303:=hl;refine eS ab3 1000 (λ_=>[]) 46 (by kernel_rfl) ?_;simp only[lB,aV];rw[ayL];have⟨b,b1,h1,h2⟩:=aiI m v;refine⟨b,b1,h1,aD.2 ⟨λh=>?_,λh=>?_⟩⟩
 .have h:b=false:=by simpa using h
  have:m.lR (op,v)=((m.jo v).aY ⟨op,m.mL v,0,0,[],0⟩).Ao v:=by simp only[Em.lR,h2,h,cond_false]
  rw[this];exact⟨(m,v),⟨rfl,rfl⟩,(m.jo v,⟨op,m.mL v,0,0,[],0⟩),⟨rfl,rfl,by show m.bg.length<4194304;omega⟩,_,_,pk vB jv,rfl,rfl⟩
 .have h:b=true:=by simpa using h
  have:m.lR (op,v)=((m.bY.aY ⟨op,m.bY.c9,0,0,[],0⟩).jo v).aY ⟨2,(m.bY.aY ⟨op,m.bY.c9,0,0,[],0⟩).mL v,m.bY.c9,0,[],0⟩:=by simp only[Em.lR,h2,h,cond_true]
  rw[this];have bS:=Bb m.bg ⟨op,m.bY.c9,0,0,[],0⟩;exact⟨m,⟨rfl,rfl⟩,(m.bY,⟨op,m.bY.c9,0,0,[],0⟩),⟨rfl,rfl,by show m.bg.length<4194304;omega⟩,(m.bY.aY ⟨op,m.bY.c9,0,0,[],0⟩,v),⟨rfl,rfl⟩,
   ((m.bY.aY ⟨op,m.bY.c9,0,0,[],0⟩).jo v,⟨2,(m.bY.aY ⟨op,m.bY.c9,0,0,[],0⟩).mL v,m.bY.c9,0,[],0⟩),⟨rfl,rfl,by show(nS m.bg _).length<4194304;omega⟩,rfl,rfl⟩
theorem ab4:aU Z TH:=by
 refine cA TG ?_;rintro⟨m,v⟩ args H ⟨rfl,rfl,hl⟩;have hl:=hl;simp only[lB,a1];have⟨b,b1,h1,h2⟩:=aiI m v;cases b with
 |true=>
  refine eE 18 TG ak4 ?_;have:m.rL v=(m.jo v).aY ⟨24,m.mL v,0,0,[],0⟩:=by simp only[Em.rL,h2,cond_true]
  rw[this];exact⟨true,b1,h1,aD.2 ⟨λ_=>⟨(m,v),⟨rfl,rfl⟩,(m.jo v,⟨24,m.mL v,0,0,[],0⟩),⟨rfl,rfl,hl⟩,rfl,rfl⟩,λh=>(by cases h)⟩⟩
 |false=>
  have:m.rL v=m:=by simp only[Em.rL,h2,cond_false]
  rw[this];refine afD ?_;refine eE 18 TG ak4 ?_;exact⟨false,b1,h1,aD.2 ⟨λh=>(by cases h),λh=>⟨rfl,rfl⟩⟩⟩
def fi(m:Em)(g c p t k:Nat):bk:=.aj [.ai g m.bg.length 6,.ab m.f.aN.cL,J m.f.aN.ar,J m.f.aN.au,.ad (aF m.f.bC) m.f.bC.length 4,.ad (bD m.f.aZ) m.f.aZ.length 6,.aA c,.aA p,.aA t,.aA k,J m.c9,.ao m.iL] 162
def fx(m:Em):bk:=.ay (cJ m.bg) 56
def eQ(m:Em):bk:=.bm (bJ J 0 m.iv) m.iv.length true
def eW(m:Em):bk:=.bm (bJ J 0 m.bz) m.bz.length true
def eU(m:Em):bk:=.bm (bJ J 0 m.gJ) m.gJ.length true
def eR(m:Em):bk:=.bm (bJ vB 0 m.eV) m.eV.length true
theorem GR{m m' g c p t k}(h0:fi m g c p t k=fi m' g c p t k)(h1:fx m=fx m')(h2:eQ m=eQ m')(h3:eW m=eW m')(h4:eU m=eU m')(h5:eR m=eR m'):m=m':=by have⟨code,⟨⟨a,b,c⟩,l,g⟩,count,bz,gJ,eV,next,iL⟩:=m;have⟨Wg,⟨⟨a',b',c'⟩,l',g'⟩,Wi,aat,abz,Zi,ajf,aiF⟩:=m';simp only[fi,fx,eQ,eW,eU,eR,bk.aj.injEq,bk.ay.injEq,bk.bm.injEq,jn,AV.bU.injEq,AV.ab.injEq,AV.ad.injEq,AV.ao.injEq,AV.ai.injEq,true_and,and_true]at h0 h1 h2 h3 h4 h5;obtain⟨_,rfl,rfl,rfl,⟨k1,k2⟩,⟨k3,k4⟩,rfl,rfl⟩:=h0;rw[GX h1,tQ k2 k1,Ps k4 k3,rU xF h2.1,rU xF h3.1,rU xF h4.1,rU amq h5.1]
def aX(bs:LI):LV:=bs.map (AV.bU .i64)
def Qb(m:Em)(bs:LI):AH:=al [(0,.aj [.aa 2 0] 157),(1,.aj [.bq 3 0 bs.length bs.length 1 true] 151),(2,fi m 4 5 6 7 8),(3,.dR (aX bs) 3),(4,fx m),(5,eQ m),(6,eW m),(7,eU m),(8,eR m)] 9
def ajz(m:Em)(bs:LI):AH:=al [(0,.aj [.aa 2 0] 157),(1,.aj [.bq 3 0 bs.length bs.length 1 true] 151),(2,fi m 9 5 6 7 8),(3,.dR (aX bs) 3),(4,.bc []),(5,eQ m),(6,eW m),(7,eU m),(8,eR m),(9,fx m)] 10
def Hv(m:Em)(bs:LI):AH:=al [(0,fi m 3 4 5 6 7),(1,.aj [.aa 0 0] 157),(2,.aj [.bq 8 0 bs.length bs.length 1 true] 151),(3,fx m),(4,eQ m),(5,eW m),(6,eU m),(7,eR m),(8,.dR (aX bs) 3)] 9
def yP(m:Em)(bs:LI):AH:=al [(0,fi m 9 4 5 6 7),(1,.aj [.aa 0 0] 157),(2,.aj [.bq 8 0 bs.length bs.length 1 true] 151),(3,.bc []),(4,eQ m),(5,eW m),(6,eU m),(7,eR m),(8,.dR (aX bs) 3),(9,fx m)] 10
theorem auD(m bs):Mv (Hv m bs) (yP m bs) 3:=qz (l':=[(0,fi m 9 4 5 6 7),(1,.aj [.aa 0 0] 157),(2,.aj [.bq 8 0 bs.length bs.length 1 true] 151),(3,.bc []),(4,eQ m),(5,eW m),(6,eU m),(7,eR m),(8,.dR (aX bs) 3)]) rfl rfl rfl
def Em.mj(m:Em)(t:aI)(b:Int):Em:=
 if t.cq=0 then(if m.qR t.n>1 then m.nK t.n 6 7 0 else m.aY ⟨10,0,0,1,[],0⟩)
 else if t.cq=1 then m.aY ⟨8,0,0,t.n,[],0⟩
 else if t.cq=2 then m.aY ⟨9,0,0,0,t.cK,0⟩
 else m.aY ⟨7,b,0,0,[],0⟩
def Em.sw(m:Em)(l:List (aI×Int)):Em:=l.foldl (λm p=>m.mj p.1 p.2) m
def adG:cx (Em×LI×Nat)where
 bn w A H:=A=[J (w.2.2:Int),.aa 0 0,.aa 1 0]/\H=Qb w.1 w.2.1/\w.1.bg.length<4194304/\w.2.2<w.2.1.length
 v w:=.aC []
 aK w:=ajz (w.1.aY ⟨7,w.2.1.getD w.2.2 0,0,0,[],0⟩) w.2.1
def Vp:cx (Em×LI×aI)where
 bn w A H:=A=[.aa 0 0,.ah (aW w.2.2),.ba (.func 172) [] [.aa 1 0,.aa 2 0]]/\H=Hv w.1 w.2.1/\w.1.bg.length+w.2.2.bh.length<4194304/\w.2.1.length=w.2.2.bh.length/\bL w.2.2
 v w:=.aC []
 aK w:=yP (w.1.sw (w.2.2.bh.zip w.2.1)) w.2.1
theorem yY{a b}(h:aX a=aX b):a=b:=by exact(List.map_inj_right (λx y e=>by cases e;rfl)).1 h
theorem au2:adG.cr:=by
 rintro⟨m,bs,i⟩ ⟨m',uO,i'⟩ A H ⟨h1,h2,_⟩ ⟨h3,h4,_⟩;rw[h1]at h3;rw[h2]at h4;have q:=λi=>congrArg (λH=>AH.bf H i) h4
 have e:=GR (m:=m) (dw (q 2)) (dw (q 4)) (dw (q 5)) (dw (q 6)) (dw (q 7)) (dw (q 8));have e2:aX bs=aX uO:=(bk.dR.inj (dw (q 3))).1;have e3:=yY e2;simp at h3;have e4:i=i':=by omega
 rw[e,e3,e4]
theorem au5:Vp.cr:=by
 rintro⟨m,bs,t⟩ ⟨m',uO,t'⟩ A H ⟨h1,h2,_⟩ ⟨h3,h4,_⟩;rw[h1]at h3;rw[h2]at h4;have q:=λi=>congrArg (λH=>AH.bf H i) h4
 have e:=GR (m:=m) (dw (q 0)) (dw (q 3)) (dw (q 4)) (dw (q 5)) (dw (q 6)) (dw (q 7));have e2:aX bs=aX uO:=(bk.dR.inj (dw (q 8))).1;have e3:=yY e2;simp at h3;rw[e,e3,m_ h3]
def NF:Ev.bo:=bR 172 (ca adG au2 cD) TH
def TJ:Ev.bo:=bR 156 (ca Vp au5 cD) NF
theorem aw6{m i bs L Q}:
 bI Z TH (λ_=>[]) L Q 1000 172 [J i,.aa 0 0,.aa 1 0] (Qb m bs)=(
 ∃aL:Nat,i=(aL:Int)/\aL<bs.length/\(∃n,cw Z 3 (aX bs) (0+aL*1)=some (J n:AV)/\(∃w:Em×et,(([.aa 0 0,.ah [J 7,J n,J 0,J 0,.ab [],J 0]]:LV)=[.aa 0 0,.ah (dq w.2)]/\bQ m=bQ w.1/\w.1.bg.length<4194304)/\Q (.aC []) (ajz (w.1.aY w.2) bs)))):=by kernel_rfl
abbrev AL x0 x1 x2:=aB [(0,.aa 0 0),(2,.ba (.func 172) [] [.aa 1 0,.aa 2 0]),(9,.ad x0 x1 4),(10,J (aE x1)),(11,J x2)]
theorem azl{m k n s cs len bs L Q}:
 bI Z NF (λ_=>[0,2,9,10,11]) L Q 1000 156 [.aa 0 0,.ah [J k,J n,.ab s,.ad cs len 4],.ba (.func 172) [] [.aa 1 0,.aa 2 0]] (Hv m bs)=(
 L (AL cs len 0) (Hv m bs) (aw Z 156 0)):=by kernel_rfl
theorem azm{m i cs len bs L Q}:
 ck Z NF (λ_=>[0,2,9,10,11]) L Q 1000 156 9 (AL cs len i) (aw Z 156 0) (yP m bs)=(
 aq (decide (i<aE len)) (∃aL:Nat,i=(aL:Int)/\aL<len/\(∃n aP s bP bH,((cs.drop (aL*4)).take 4:LV)=[J n,J aP,.ab s,.ad bP bH 4]/\aq (n==0) (∃bA b,eT Z 2 3 (bJ J 0 m.iv) (J aP)=some (J bA,b)/\aq (decide (bA>1)) (∃w:Em×Int×Int×Int×Int,(([.aa 0 0,J aP,J 6,J 7,J 0]:LV)=[.aa 0 0,J w.2.1,J w.2.2.1,J w.2.2.2.1,J w.2.2.2.2]/\bQ m=bQ w.1/\w.1.bg.length<4194304)/\L (AL cs len (wI (i+1))) (yP (w.1.nK w.2.1 w.2.2.1 w.2.2.2.1 w.2.2.2.2) bs) (aw Z 156 0)) (∃w:Em×et,(([.aa 0 0,.ah [J 10,J 0,J 0,J 1,.ab [],J 0]]:LV)=[.aa 0 0,.ah (dq w.2)]/\bQ m=bQ w.1/\w.1.bg.length<4194304)/\L (AL cs len (wI (i+1))) (yP (w.1.aY w.2) bs) (aw Z 156 0))) (aq (n==1) (∃w:Em×et,(([.aa 0 0,.ah [J 8,J 0,J 0,J aP,.ab [],J 0]]:LV)=[.aa 0 0,.ah (dq w.2)]/\bQ m=bQ w.1/\w.1.bg.length<4194304)/\L (AL cs len (wI (i+1))) (yP (w.1.aY w.2) bs) (aw Z 156 0)) (aq (n==2) (∃w:Em×et,(([.aa 0 0,.ah [J 9,J 0,J 0,J 0,.ab s,J 0]]:LV)=[.aa 0 0,.ah (dq w.2)]/\bQ m=bQ w.1/\w.1.bg.length<4194304)/\L (AL cs len (wI (i+1))) (yP (w.1.aY w.2) bs) (aw Z 156 0)) (∃w:Em×LI×Nat,(([J i,.aa 0 0,.aa 1 0]:LV)=[J ((w.2.2:Nat):Int),.aa 0 0,.aa 1 0]/\Qb m bs=Qb w.1 w.2.1/\w.1.bg.length<4194304/\w.2.2<w.2.1.length)/\L (AL cs len (wI (i+1))) (al [(0,.aj [.ai 9 (w.1.aY {op:=7,r:=List.getD w.2.1 w.2.2 0,a:=0,n:=0,eZ:=[],ar:=0}).bg.length 6,.ab (w.1.aY {op:=7,r:=List.getD w.2.1 w.2.2 0,a:=0,n:=0,eZ:=[],ar:=0}).f.aN.cL,J (w.1.aY (et.mk 7 (List.getD w.2.1 w.2.2 0) 0 0 [] 0)).f.aN.ar,J (w.1.aY (et.mk 7 (List.getD w.2.1 w.2.2 0) 0 0 [] 0)).f.aN.au,.ad (aF (w.1.aY {op:=7,r:=List.getD w.2.1 w.2.2 0,a:=0,n:=0,eZ:=[],ar:=0}).f.bC) (w.1.aY {op:=7,r:=List.getD w.2.1 w.2.2 0,a:=0,n:=0,eZ:=[],ar:=0}).f.bC.length 4,.ad (bD (w.1.aY {op:=7,r:=List.getD w.2.1 w.2.2 0,a:=0,n:=0,eZ:=[],ar:=0}).f.aZ) (w.1.aY {op:=7,r:=List.getD w.2.1 w.2.2 0,a:=0,n:=0,eZ:=[],ar:=0}).f.aZ.length 6,.aA 4,.aA 5,.aA 6,.aA 7,J (w.1.aY (et.mk 7 (List.getD w.2.1 w.2.2 0) 0 0 [] 0)).c9,.ao (w.1.aY (et.mk 7 (List.getD w.2.1 w.2.2 0) 0 0 [] 0)).iL] 162),(1,.aj [.aa 0 0] 157),(2,.aj [.bq 8 0 w.2.1.length w.2.1.length 1 true] 151),(3,.bc []),(4,eQ (w.1.aY {op:=7,r:=List.getD w.2.1 w.2.2 0,a:=0,n:=0,eZ:=[],ar:=0})),(5,eW (w.1.aY {op:=7,r:=List.getD w.2.1 w.2.2 0,a:=0,n:=0,eZ:=[],ar:=0})),(6,eU (w.1.aY {op:=7,r:=List.getD w.2.1 w.2.2 0,a:=0,n:=0,eZ:=[],ar:=0})),(7,eR (w.1.aY {op:=7,r:=List.getD w.2.1 w.2.2 0,a:=0,n:=0,eZ:=[],ar:=0})),(8,.dR (aX w.2.1) 3),(9,fx (w.1.aY {op:=7,r:=List.getD w.2.1 w.2.2 0,a:=0,n:=0,eZ:=[],ar:=0}))] 10) (aw Z 156 0)))))) (Q (.aC []) (yP m bs))):=by kernel_rfl
theorem TI:aU Z NF:=by refine cA ab4 ?_;rintro⟨m,bs,i⟩ args H ⟨rfl,rfl,hl,hi⟩;have hi:=hi;refine eE 13 ab4 aw6 ?_;refine⟨i,rfl,hi,bs.getD i 0,?_,(m,⟨7,bs.getD i 0,0,0,[],0⟩),⟨rfl,rfl,hl⟩,rfl,rfl⟩;rw[ML,aX,ki,oI,uv,ir hi];simp[List.getD,ir hi]
theorem lz(m:Em)(i):(m.aY i).bg.length<=m.bg.length+1:=Bb _ _
theorem Td(m:Em)(v a b c):(m.nK v a b c).bg.length<=m.bg.length+1:=Bb _ _
theorem adR(m:Em)(t b):(m.mj t b).bg.length<=m.bg.length+1:=by
 unfold Em.mj;split
 .split
  .exact Td _ _ _ _ _
  .exact lz _ _
 .split
  .exact lz _ _
  .split
   .exact lz _ _
   .exact lz _ _
section
variable{m:Em}{k n b:Int}{s:LN}{ts:eK}
theorem aoa(hk:k=0)(hc:m.qR n>1):m.mj (.mk k n s ts) b=m.nK n 6 7 0:=by simp[Em.mj,aI.cq,aI.n,hk,hc]
theorem aob(hk:k=0)(hc:¬m.qR n>1):m.mj (.mk k n s ts) b=m.aY ⟨10,0,0,1,[],0⟩:=by simp[Em.mj,aI.cq,aI.n,hk,hc]
theorem an8(hk:k=1):m.mj (.mk k n s ts) b=m.aY ⟨8,0,0,n,[],0⟩:=by simp[Em.mj,aI.cq,aI.n,hk]
theorem an6(hk:k=2):m.mj (.mk k n s ts) b=m.aY ⟨9,0,0,0,s,0⟩:=by simp[Em.mj,aI.cq,aI.cK,hk]
theorem an9(h0:k≠0)(h1:k≠1)(h2:k≠2):m.mj (.mk k n s ts) b=m.aY ⟨7,b,0,0,[],0⟩:=by simp[Em.mj,aI.cq,h0,h1,h2]
end
theorem azk{l bs M}(hl:dt l.length)(ho:fy l)(hb:bs.length=l.length):
 ∀p:Nat×Em,(p.1<=l.length/\p.2.bg.length+(l.length-p.1)<4194304/\p.2.sw ((l.zip bs).drop p.1)=M)->
 br Z 156 59 9 (.aC []) (yP M bs) (AL (aF l) l.length (p.1:Int)) (yP p.2 bs) (aw Z 156 0):=by
 refine dS (λp=>l.length-p.1) _ _ _ _ ?_;rintro⟨i,m⟩ ⟨hi,hc,hf⟩ ih;simp only at hi hc hf ih⊢;refine hE TI azm ?_;refine aD.2 ⟨λax=>?_,λbu=>?_⟩
 .have ax:i<l.length:=by simpa using ax
  have⟨k,n,s,ts,he,bX,a_⟩:=y9 ax ho;have hz:i<(l.zip bs).length:=by simp;omega
  have hib:i<bs.length:=by omega
  rw[fY hz,List.getElem_zip,he]at hf;have HV:bs.getD i 0=bs[i]:=by simp[List.getD,ir hib]
  refine⟨i,rfl,ax,k,n,s,_,_,bX,?_⟩;rw[lh hl ax];have bS:=adR m (.mk k n s ts) bs[i];have next:=
   ih (i+1,m.mj (.mk k n s ts) bs[i]) ⟨by simp;omega,by simp only;omega,hf⟩ (by simp;omega)
  have⟨c,b,h1,h2⟩:=Rf m n;have hr:m.bg.length<4194304:=by omega
  refine aD.2 ⟨λhk=>?_,λyv=>?_⟩
  .have hk:k=0:=by simpa using hk
   refine⟨c,b,h1,aD.2 ⟨λhc=>?_,λhc=>?_⟩⟩
   .have hc:c>1:=by simpa using hc
    rw[aoa hk (by rw[h2];exact hc)]at next
    exact⟨(m,n,6,7,0),⟨rfl,rfl,hr⟩,next⟩
   .have hc:¬c>1:=by simpa using hc
    rw[aob hk (by rw[h2];exact hc)]at next
    exact⟨(m,⟨10,0,0,1,[],0⟩),⟨rfl,rfl,hr⟩,next⟩
  .have yv:k≠0:=by simpa using yv
   refine aD.2 ⟨λhk=>?_,λqw=>?_⟩
   .have hk:k=1:=by simpa using hk
    rw[an8 hk]at next
    exact⟨(m,⟨8,0,0,n,[],0⟩),⟨rfl,rfl,hr⟩,next⟩
   .have qw:k≠1:=by simpa using qw
    refine aD.2 ⟨λhk=>?_,λoA=>?_⟩
    .have hk:k=2:=by simpa using hk
     rw[an6 hk]at next
     exact⟨(m,⟨9,0,0,0,s,0⟩),⟨rfl,rfl,hr⟩,next⟩
    .have oA:k≠2:=by simpa using oA
     rw[an9 yv qw oA,<-HV]at next
     exact⟨(m,bs,i),⟨rfl,rfl,hr,hib⟩,next⟩
 .have bu:l.length<=i:=by simpa using bu
  rw[gQ (by simp;omega)]at hf;subst hf;exact⟨rfl,rfl⟩
theorem ab6:aU Z TJ:=by
 refine cA TI ?_;rintro⟨m,bs,⟨k,n,s,l⟩⟩ args H ⟨rfl,rfl,hl,hb,ho⟩;simp only[aI.bh]at hl hb;refine eS TI 1000 (λ_=>[0,2,9,10,11]) 59 (by kernel_rfl) ?_;simp only[Vp,aW,aI.bh];rw[azl];refine u9 ?_ (auD m bs) (by kernel_rfl) (t':=AL (aF l) l.length ((0:Nat):Int)) ?_
 .exact azk ho.2.1 ho.2.2 hb (0,m) ⟨by simp,by simpa using hl,by simp⟩
 .intro i a' hi;exact⟨a',hi,vC hi (by simp[eC,j8,kW,Hv,al,eg])⟩
mutual
def Em.pz:Em->Int->aI->Em
 |m,r,.mk k n s l=>((m.jS l).1.aY ⟨15,r,0,0,s,l.length⟩).sw (l.zip (m.jS l).2)
def Em.jS:Em->eK->Em×LI
 |m,[]=>(m,[])
 |m,t::l=>if t.cq=3 then(((m.bY.pz m.bY.c9 t).jS l).1,m.bY.c9::((m.bY.pz m.bY.c9 t).jS l).2)
   else((m.jS l).1,0::(m.jS l).2)
end
def akB(N:Nat)(m:Em)(w:Int×aI):Prop:=m.bg.length+2*bN w.2<4194304/\bL w.2/\bN w.2<N
def JF(N:Nat):Ev.bo:=bR 163 (ca (lB aT (λm w=>m.pz w.1 w.2) (akB N)) (ur zq) cD) TJ
def akC(m:Em)(w:Int×aI):Prop:=m.bg.length+2*bN w.2<4194304/\bL w.2
def NG:Ev.bo:=bR 163 (ca (lB aT (λm w=>m.pz w.1 w.2) akC) (ur zq) cD) TJ
def K0(m:Em)(k n:Int)(s:LN)(cs:LV)(len:Nat)(dR:LV):AH:=al [(0,fi m 9 2 3 4 5),(1,.bc []),(2,eQ m),(3,eW m),(4,eU m),(5,eR m),(6,.aj [.aa 0 0] 157),(7,.aj [J k,J n,.ab s,.ad cs len 4] 49),(8,.aj [.bq 10 0 len len 1 true] 151),(9,fx m),(10,.dR dR 3)] 11
abbrev Jh x0 x1 x2 x3:=aB [(1,J x0),(3,.aa 6 0),(5,.aa 7 0),(6,.aa 8 0),(14,.ad x1 x2 4),(15,J (aE x2)),(16,J x3)]
theorem aww{m r k n s cs len N L Q}:
 bI Z (JF N) (λ_=>[1,3,5,6,14,15,16]) L Q 1000 163 [.aa 0 0,J r,.ah [J k,J n,.ab s,.ad cs len 4]] (bQ m)=(
 ∃i:Nat,aE len=(i:Int)/\i<=4194304/\L (Jh r cs len 0) (al [(0,fi m 1 2 3 4 5),(1,fx m),(2,eQ m),(3,eW m),(4,eU m),(5,eR m),(6,.aj [.aa 0 0] 157),(7,.aj [J k,J n,.ab s,.ad cs len 4] 49),(8,.aj [.bq 9 0 i i 1 true] 151),(9,.dR (j9 [J 0] i) 3)] 10) (aw Z 163 0)):=by kernel_rfl
theorem awx{m r k n i s cs len dR N L Q}:
 ck Z (JF N) (λ_=>[1,3,5,6,14,15,16]) L Q 1000 163 6 (Jh r cs len i) (aw Z 163 0) (K0 m k n s cs len dR)=(
 aq (decide (i<aE len)) (∃aL:Nat,i=(aL:Int)/\aL<len/\(∃aP bA cn bP bH,((cs.drop (aL*4)).take 4:LV)=[J aP,J bA,.ab cn,.ad bP bH 4]/\aq (aP==3) (∃w,(([.aa 0 0]:LV)=[.aa 0 0]/\bQ m=bQ w)/\some (.bq 10 0 len len 1 true:AV)=some (.bq 10 0 len len 1 true:AV)/\(∃cG:Nat,i=(cG:Int)/\cG<len/\0+cG*1+1<=dR.length/\(∃dO:Nat,i=(dO:Int)/\dO<len/\(∃cf,cw Z 3 (gg dR (0+cG*1) [J w.bY.c9]) (0+dO*1)=some (J cf:AV)/\(∃ae:Em×Int×aI,(([.aa 0 0,J cf,.ah [J aP,J bA,.ab cn,.ad bP bH 4]]:LV)=[.aa 0 0,J ae.2.1,.ah (aW ae.2.2)]/\bQ w.bY=bQ ae.1/\akB N ae.1 ae.2)/\L (Jh r cs len (wI (i+1))) (K0 (ae.1.pz ae.2.1 ae.2.2) k n s cs len (gg dR (0+cG*1) [J w.bY.c9])) (aw Z 163 0)))))) (L (Jh r cs len (wI (i+1))) (K0 m k n s cs len dR) (aw Z 163 0)))) (∃w:Em×et,(([.aa 0 0,.ah [J 15,J r,J 0,J 0,.ab s,J (aE len)]]:LV)=[.aa 0 0,.ah (dq w.2)]/\bQ m=bQ w.1/\w.1.bg.length<4194304)/\(∃ae:Em×LI×aI,(([.aa 0 0,.ah [J k,J n,.ab s,.ad cs len 4],.ba (.func 172) [] [.aa 1 0,.aa 2 0]]:LV)=[.aa 0 0,.ah (aW ae.2.2),.ba (.func 172) [] [.aa 1 0,.aa 2 0]]/\al [(0,fi (w.1.aY w.2) 3 4 5 6 7),(1,.aj [.aa 0 0] 157),(2,.aj [.bq 8 0 len len 1 true] 151),(3,fx (w.1.aY w.2)),(4,eQ (w.1.aY w.2)),(5,eW (w.1.aY w.2)),(6,eU (w.1.aY w.2)),(7,eR (w.1.aY w.2)),(8,.dR dR 3)] 9=Hv ae.1 ae.2.1/\ae.1.bg.length+ae.2.2.bh.length<4194304/\ae.2.1.length=ae.2.2.bh.length/\bL ae.2.2)/\Q (.aC []) (jW (ae.1.sw (List.zip ae.2.2.bh ae.2.1)))))):=by kernel_rfl
theorem adW:∀(l) (m:Em),(m.sw l).bg.length<=m.bg.length+l.length
 |[],m=>by simp[Em.sw]
 |(t,b)::l,m=>by have h1:=adR m t b;have h2:=adW l (m.mj t b);simp only[Em.sw,rz,ej]at h2⊢;omega
theorem Kv(m:Em):m.bY.bg=m.bg:=rfl
mutual
theorem V2:∀(m:Em) (r:Int) (t:aI),(m.pz r t).bg.length+1<=m.bg.length+2*bN t
 |m,r,.mk k n s l=>by
  have h1:=V1 m l;have h2:=lz (m.jS l).1 ⟨15,r,0,0,s,l.length⟩;have h3:=adW (l.zip (m.jS l).2) ((m.jS l).1.aY ⟨15,r,0,0,s,l.length⟩);have h4:(l.zip (m.jS l).2).length<=l.length:=by simp;omega
  simp only[Em.pz,bN];omega
theorem V1:∀(m:Em) (l:eK),(m.jS l).1.bg.length+l.length<=m.bg.length+2*bM l
 |m,[]=>by simp[Em.jS,bM]
 |m,t::l=>by
  have hp:=sk t;simp only[Em.jS,bM,ej];split
  .have h1:=V2 m.bY m.bY.c9 t;have h2:=V1 (m.bY.pz m.bY.c9 t) l;rw[Kv]at h1;simp only;omega
  .have h2:=V1 m l;simp only;omega
end
theorem akw{len i}(h:i<len):List.replicate (len-i) (0:Int)=0::List.replicate (len-(i+1)) 0:=by
 have:len-i=(len-(i+1))+1:=by omega
 rw[this,List.replicate_succ]
theorem akM{bn len}(x)(h:bn.length<len):
 gg (aX (bn++List.replicate (len-bn.length) 0)) (0+bn.length*1) [J x]=aX ((bn++[x])++List.replicate (len-(bn.length+1)) 0):=by
 rw[akw h];have e:aX (bn++0::List.replicate (len-(bn.length+1)) 0)=(aX bn++[J 0])++aX (List.replicate (len-(bn.length+1)) 0):=by simp[aX]
 have hl:(aX bn).length=bn.length:=by simp[aX]
 unfold gg;rw[e,List.drop_left' (by simp[hl]),j7,xm (by simp[hl])];simp[aX]
theorem awh{bn:LI}{len}(h:bn.length<len):bn++List.replicate (len-bn.length) 0=(bn++[0])++List.replicate (len-(bn.length+1)) 0:=by rw[akw h];simp
theorem awi{bn rest}(x):cw Z 3 (aX ((bn++[x])++rest)) (0+bn.length*1)=some (J x):=by rw[ML];simp[aX]
theorem awv{k n r s l N M BS}(hS:aU Z (JF N))(ho:bL (.mk k n s l))(hN:bM l<N):
 ∀p:Em×LI,(p.2.length<=l.length/\p.1.bg.length+p.2.length+2*bM (l.drop p.2.length)+2<4194304/\(p.1.jS (l.drop p.2.length)).1=M/\p.2++(p.1.jS (l.drop p.2.length)).2=BS)->
 br Z 163 52 6 (.aC []) (jW ((M.aY ⟨15,r,0,0,s,l.length⟩).sw (l.zip BS))) (Jh r (aF l) l.length (p.2.length:Int))
  (K0 p.1 k n s (aF l) l.length (aX (p.2++List.replicate (l.length-p.2.length) 0))) (aw Z 163 0):=by
 have hl:=ho.2.1;refine dS (λp=>l.length-p.2.length) _ _ _ _ ?_;rintro⟨m,bn⟩ ⟨hi,hc,qu,nz⟩ ih;simp only at hi hc qu nz ih⊢;refine hE hS awx ?_;refine aD.2 ⟨λax=>?_,λbu=>?_⟩
 .have ax:bn.length<l.length:=by simpa using ax
  have⟨k1,n1,s1,m1,he,bX,a_⟩:=y9 ax ho.2.2;have cv:=Nq ax;rw[he]at cv;have LF:=sk (.mk k1 n1 s1 m1);rw[fY ax,he,bM]at hc;rw[fY ax,he,Em.jS]at qu nz;refine⟨bn.length,rfl,ax,k1,n1,s1,_,_,bX,?_⟩;rw[lh hl ax];refine aD.2 ⟨λhk=>?_,λhk=>?_⟩
  .have hk:k1=3:=by simpa using hk
   rw[aO (show(aI.mk k1 n1 s1 m1).cq=3 from hk)]at qu nz;have hb:=V2 m.bY m.bY.c9 (.mk k1 n1 s1 m1);rw[Kv]at hb;refine⟨m,⟨rfl,rfl⟩,rfl,bn.length,rfl,ax,by simp[aX];omega,bn.length,rfl,ax,m.bY.c9,?_,(m.bY,m.bY.c9,.mk k1 n1 s1 m1),⟨rfl,rfl,?_,a_,?_⟩,?_⟩
   .rw[akM _ ax];exact awi _
   .show m.bY.bg.length+_<_;rw[Kv];simp only;omega
   .simp only;omega
   .rw[akM _ ax];have:=ih (m.bY.pz m.bY.c9 (.mk k1 n1 s1 m1),bn++[m.bY.c9]) ⟨by simp;omega,by simp;omega,by simpa using qu,by simpa using nz⟩ (by simp;omega);simp only[cI,ej,gW,ki]at this;exact this
  .have hk:k1≠3:=by simpa using hk
   rw[az (show¬(aI.mk k1 n1 s1 m1).cq=3 from hk)]at qu nz;rw[awh ax];have:=ih (m,bn++[0]) ⟨by simp;omega,by simp;omega,by simpa using qu,by simpa using nz⟩ (by simp;omega);simp only[cI,ej,gW,ki]at this;exact this
 .have bu:l.length<=bn.length:=by simpa using bu
  have fc:bn.length=l.length:=by omega
  rw[gQ bu]at qu nz hc;simp only[Em.jS,jm]at qu nz;subst qu nz;have he:=lz m ⟨15,r,0,0,s,l.length⟩;have h0:List.replicate (l.length-bn.length) (0:Int)=[]:=by rw[fc];simp
  rw[h0,jm,<-fc];refine⟨(m,⟨15,r,0,0,s,l.length⟩),⟨by rw[fc];rfl,rfl,by simp only;omega⟩,(m.aY ⟨15,r,0,0,s,l.length⟩,bn,.mk k n s l),⟨by rw[fc];rfl,rfl,by simp only[aI.bh];omega,by simpa[aI.bh]using fc,ho⟩,rfl,?_⟩;rw[fc];rfl
def ahh(m:Em)(k n:Int)(s:LN)(cs:LV)(len:Nat)(dR:LV):AH:=al [(0,fi m 1 2 3 4 5),(1,fx m),(2,eQ m),(3,eW m),(4,eU m),(5,eR m),(6,.aj [.aa 0 0] 157),(7,.aj [J k,J n,.ab s,.ad cs len 4] 49),(8,.aj [.bq 9 0 len len 1 true] 151),(9,.dR dR 3)] 10
def ahp(m:Em)(k n:Int)(s:LN)(cs:LV)(len:Nat)(dR:LV):AH:=al [(0,fi m 10 2 3 4 5),(1,.bc []),(2,eQ m),(3,eW m),(4,eU m),(5,eR m),(6,.aj [.aa 0 0] 157),(7,.aj [J k,J n,.ab s,.ad cs len 4] 49),(8,.aj [.bq 9 0 len len 1 true] 151),(9,.dR dR 3),(10,fx m)] 11
theorem auw(m k n s cs len dR):Mv (ahh m k n s cs len dR) (ahp m k n s cs len dR) 1:=
 qz (l':=[(0,fi m 10 2 3 4 5),(1,.bc []),(2,eQ m),(3,eW m),(4,eU m),(5,eR m),(6,.aj [.aa 0 0] 157),(7,.aj [J k,J n,.ab s,.ad cs len 4] 49),(8,.aj [.bq 9 0 len len 1 true] 151),(9,.dR dR 3)]) rfl rfl rfl
def al4(r:Int)(cs:LV)(len:Nat)(i:Int):Tr AV:=Jh r cs len i
def aj6:List (Nat×Nat):=[(0,0),(1,1),(2,2),(3,3),(4,4),(5,5),(6,6),(7,7),(8,8),(10,9),(9,10)]
theorem aC8(m k n s cs len dR):l9 6 [6,7,8] (ahp m k n s cs len dR)=some ⟨aj6,K0 m k n s cs len dR⟩:=by kernel_rfl
theorem aDf(r cs len i):qJ (iz aj6) (al4 r cs len i) [1,3,5,6,14,15,16]=some (al4 r cs len i):=by kernel_rfl
theorem akz:∀n,j9 [J 0] n=aX (List.replicate n 0)
 |0=>rfl
 |n+1=>by simp[j9,akz n,aX,List.replicate_succ]
theorem Is:∀l,l.length<=bM l
 |[]=>by simp[bM]
 |t::l=>by have:=sk t;have:=Is l;simp only[bM,ej];omega
theorem akQ{N m r k n s l}(hS:aU Z (JF N))(hc:m.bg.length+2*(1+bM l)<4194304)(ho:bL (.mk k n s l))(hN:bM l<N):
 bZ Z 163 [.aa 0 0,J r,.ah [J k,J n,.ab s,.ad (aF l) l.length 4]] (bQ m) (.aC []) (jW (m.pz r (.mk k n s l))):=by
 refine eE 52 hS aww ?_;have bS:=Is l;refine⟨l.length,rfl,by omega,?_⟩;rw[akz];refine u9 ?_ (auw m k n s (aF l) l.length (aX (List.replicate l.length 0))) (by kernel_rfl) (λi a' hi=>⟨a',hi,vC hi (by simp[eC,kW,ahh,al,eg])⟩);refine cb.sm (by kernel_rfl) (aC8 m k n s (aF l) l.length (aX (List.replicate l.length 0))) (aDf r (aF l) l.length 0) ?_;exact awv hS ho hN (m,[]) ⟨by simp,by simp;omega,rfl,by simp⟩
theorem amW:∀N,aU Z (JF N):=by
 refine yX ab6 ?_ ?_
 .rintro⟨m,r,t⟩ args H ⟨_,_,_,_,h⟩;omega
 .rintro N hS ⟨m,r,⟨k,n,s,l⟩⟩ args H ⟨rfl,rfl,hc,ho,hN⟩;simp only[bN]at hc hN;exact akQ hS hc ho (by omega)
theorem TK:aU Z NG:=by refine cA ab6 ?_;rintro⟨m,r,⟨k,n,s,l⟩⟩ args H ⟨rfl,rfl,hc,ho⟩;simp at hc;exact akQ (amW (bM l+1)) hc ho (by omega)
def Em.pA(m:Em)(w:Int×aI):Em:=
 if w.2.cq=0 then m.vM w else if w.2.cq=1 then m.MP w else if w.2.cq=2 then m.MO w else m.pz w.1 w.2
def Em.fD:Nat->Em->eK->Em
 |_,m,[]=>m
 |i,m,t::l=>Em.fD (i+1) (m.pA (((i+1:Nat):Int),t)) l
def Co(l:eK):Prop:=∀t∈l,0<=t.cq/\t.cq<4
def aG(g:qe):LV:=[.ah (uS g)]
theorem anS(a b)(h:aG a=aG b):a=b:=by simp only[aG,jn,AV.ah.injEq,and_true]at h;exact afr h
def akD(m:Em)(g:qe):Prop:=m.bg.length+2*bM g.eN+1<4194304/\qA g/\Co g.eN
def TL:Ev.bo:=bR 132 (ca (lB aG (λm g=>m.fD 0 g.eN) akD) (ur anS) cD) NG
def B_(a b c d:Nat):bk:=.aj [.ba (.func a) [.aa 0 0] [],.ba (.func b) [.aa 0 0] [],.ba (.func c) [.aa 0 0] [],.ba (.func d) [.aa 0 0] []] 207
def Eh(m:Em):AH:=al [(0,fi m 7 2 3 4 5),(1,.bc []),(2,eQ m),(3,eW m),(4,eU m),(5,eR m),(6,B_ 160 161 162 163),(7,fx m)] 8
abbrev FM x0 x1 x2:=aB [(4,.aa 6 0),(17,.ad x0 x1 4),(18,J (aE x1)),(19,J x2)]
theorem ayN{m k ar au v nm cs len L Q}:
 bI Z NG (λ_=>[4,17,18,19]) L Q 1000 132 [.aa 0 0,.ah [J k,.ab nm,J ar,J au,.ad cs len 4,J v]] (bQ m)=(
 L (FM cs len 0) (al [(0,fi m 1 2 3 4 5),(1,fx m),(2,eQ m),(3,eW m),(4,eU m),(5,eR m),(6,B_ 160 161 162 163)] 7) (aw Z 132 0)):=by kernel_rfl
theorem ayO{m i cs len L Q}:
 ck Z NG (λ_=>[4,17,18,19]) L Q 1000 132 6 (FM cs len i) (aw Z 132 0) (Eh m)=(
 aq (decide (i<aE len)) (∃aL:Nat,i=(aL:Int)/\aL<len/\(∃n aP s bP bH,((cs.drop (aL*4)).take 4:LV)=[J n,J aP,.ab s,.ad bP bH 4]/\((0:Int)<=n/\n<4)/\(n=0->(∃w:Em×Int×aI,(([.aa 0 0,J (wI (i+1)),.ah [J n,J aP,.ab s,.ad bP bH 4]]:LV)=[.aa 0 0,J w.2.1,.ah (aW w.2.2)]/\bQ m=bQ w.1/\tj w.1 w.2)/\L (FM cs len (wI (i+1))) (Eh (w.1.vM w.2)) (aw Z 132 0)))/\(n=1->(∃w:Em×Int×aI,(([.aa 0 0,J (wI (i+1)),.ah [J n,J aP,.ab s,.ad bP bH 4]]:LV)=[.aa 0 0,J w.2.1,.ah (aW w.2.2)]/\bQ m=bQ w.1/\tj w.1 w.2)/\L (FM cs len (wI (i+1))) (Eh (w.1.MP w.2)) (aw Z 132 0)))/\(n=2->(∃w:Em×Int×aI,(([.aa 0 0,J (wI (i+1)),.ah [J n,J aP,.ab s,.ad bP bH 4]]:LV)=[.aa 0 0,J w.2.1,.ah (aW w.2.2)]/\bQ m=bQ w.1/\tj w.1 w.2)/\L (FM cs len (wI (i+1))) (Eh (w.1.MO w.2)) (aw Z 132 0)))/\(n=3->(∃w:Em×Int×aI,(([.aa 0 0,J (wI (i+1)),.ah [J n,J aP,.ab s,.ad bP bH 4]]:LV)=[.aa 0 0,J w.2.1,.ah (aW w.2.2)]/\bQ m=bQ w.1/\akC w.1 w.2)/\L (FM cs len (wI (i+1))) (Eh (w.1.pz w.2.1 w.2.2)) (aw Z 132 0)))/\True)) (Q (.aC []) (jW m))):=by kernel_rfl
theorem akb(m:Em)(w):(m.pA w).bg.length<=m.bg.length+2*bN w.2:=by
 have hp:=sk w.2;unfold Em.pA;split
 .unfold Em.vM;split
  .have:=Td m w.2.n 11 12 w.1;omega
  .have:=lz m ⟨11,w.1,w.1,0,[],0⟩;omega
 .split
  .have:=lz m ⟨13,0,w.1,w.2.n,[],0⟩;unfold Em.MP;omega
  .split
   .have:=lz m ⟨14,0,w.1,0,w.2.cK,0⟩;unfold Em.MO;omega
   .have:=V2 m w.1 w.2;omega
section
variable{m:Em}{k n a:Int}{s:LN}{ts:eK}
theorem avJ(hk:k=0):m.pA (a,.mk k n s ts)=m.vM (a,.mk k n s ts):=by simp[Em.pA,aI.cq,hk]
theorem avH(hk:k=1):m.pA (a,.mk k n s ts)=m.MP (a,.mk k n s ts):=by simp[Em.pA,aI.cq,hk]
theorem avF(hk:k=2):m.pA (a,.mk k n s ts)=m.MO (a,.mk k n s ts):=by simp[Em.pA,aI.cq,hk]
theorem avI(hk:k=3):m.pA (a,.mk k n s ts)=m.pz a (.mk k n s ts):=by simp[Em.pA,aI.cq,hk]
end
theorem ayM{l M}(hl:dt l.length)(ho:fy l)(hk:Co l):
 ∀p:Nat×Em,(p.1<=l.length/\p.2.bg.length+2*bM (l.drop p.1)+1<4194304/\Em.fD p.1 p.2 (l.drop p.1)=M)->
 br Z 132 33 6 (.aC []) (jW M) (FM (aF l) l.length (p.1:Int)) (Eh p.2) (aw Z 132 0):=by
 refine dS (λp=>l.length-p.1) _ _ _ _ ?_;rintro⟨i,m⟩ ⟨hi,hc,hf⟩ ih;refine hE TK ayO ?_;refine aD.2 ⟨λax=>?_,λbu=>?_⟩
 .have ax:i<l.length:=by simpa using ax
  have⟨k,n,s,ts,he,bX,a_⟩:=y9 ax ho;have Ly:=hk l[i] (pW ax);rw[he]at Ly;rw[fY ax,he]at hf hc;simp only[Em.fD,bM]at hf hc;have bS:=akb m (((i+1:Nat):Int),.mk k n s ts);simp only at bS;have hr:m.bg.length<4194304:=by omega
  have Yz:m.bg.length+2*bN (.mk k n s ts)<4194304:=by omega
  have next:=ih (i+1,m.pA (((i+1:Nat):Int),.mk k n s ts)) ⟨by simp;omega,by simp only;omega,hf⟩ (by simp;omega)
  refine⟨i,rfl,ax,k,n,s,_,_,bX,Ly,?_⟩;rw[lh hl ax];refine⟨λh=>?_,λh=>?_,λh=>?_,λh=>?_,trivial⟩
  .rw[avJ h]at next
   exact⟨(m,((i+1:Nat):Int),.mk k n s ts),⟨rfl,rfl,hr⟩,next⟩
  .rw[avH h]at next
   exact⟨(m,((i+1:Nat):Int),.mk k n s ts),⟨rfl,rfl,hr⟩,next⟩
  .rw[avF h]at next
   exact⟨(m,((i+1:Nat):Int),.mk k n s ts),⟨rfl,rfl,hr⟩,next⟩
  .rw[avI h]at next
   exact⟨(m,((i+1:Nat):Int),.mk k n s ts),⟨rfl,rfl,Yz,a_⟩,next⟩
 .have bu:l.length<=i:=by simpa using bu
  rw[gQ bu,Em.fD]at hf;subst hf;exact⟨rfl,rfl⟩
def ahj(m:Em):AH:=al [(0,fi m 1 2 3 4 5),(1,fx m),(2,eQ m),(3,eW m),(4,eU m),(5,eR m),(6,B_ 160 161 162 163)] 7
theorem auC(m):Mv (ahj m) (Eh m) 1:=
 qz (l':=[(0,fi m 7 2 3 4 5),(1,.bc []),(2,eQ m),(3,eW m),(4,eU m),(5,eR m),(6,B_ 160 161 162 163)]) rfl rfl rfl
theorem ab7:aU Z TL:=by refine cA TK ?_;rintro⟨m,⟨k,⟨nm,ar,au⟩,ls,v⟩⟩ args H ⟨rfl,rfl,hc,ho,hk⟩;refine eS TK 1000 (λ_=>[4,17,18,19]) 33 (by kernel_rfl) ?_;simp only[lB,aG,uS];rw[ayN];refine u9 ?_ (auC m) (by kernel_rfl) (λi a' hi=>⟨a',hi,vC hi (by simp[eC,kW,ahj,al,eg])⟩);exact ayM ho.2.1 ho.2.2 hk (0,m) ⟨by simp,by simp;omega,by simp⟩
def Q4(k n:Int)(s:LN)(len:Nat):LV:=
 if k=1 then[J 1,J n,.ab [],J 0]
 else if k=2 then[J 2,J 0,.ab s,J 0]
 else if k=3 then[J 3,J 0,.ab s,J len]
 else[J 0,J 0,.ab [],J 0]
def Zh:LV->Option (Prop×AV)
 |[.ah [.bU .i64 k,.bU .i64 n,.ab s,.ad cs len 4]]=>some (True,.ah (Q4 k n s len))
 |_=>none
def BD(m:Em)(cS:Bool):AH:=al [(0,.aj [.ao cS] 4),(1,.aj [.aa 2 0] 157),(2,fi m 3 4 5 6 7),(3,fx m),(4,eQ m),(5,eW m),(6,eU m),(7,eR m)] 8
def Z8(m:Em)(cS:Bool):AH:=al [(0,.aj [.ao cS] 4),(1,.aj [.aa 2 0] 157),(2,fi m 8 4 5 6 7),(3,.bc []),(4,eQ m),(5,eW m),(6,eU m),(7,eR m),(8,fx m)] 9
theorem auB(m cS):Mv (BD m cS) (Z8 m cS) 3:=
 qz (l':=[(0,.aj [.ao cS] 4),(1,.aj [.aa 2 0] 157),(2,fi m 8 4 5 6 7),(3,.bc []),(4,eQ m),(5,eW m),(6,eU m),(7,eR m)]) rfl rfl rfl
def Em.de(m:Em)(cS:Bool):Em:=bif cS then m.aY ⟨18,0,0,0,[],0⟩else m
def Vo:cx (Em×Bool)where
 bn w A H:=A=[.aa 0 0,.aa 1 0]/\H=BD w.1 w.2/\w.1.bg.length<4194304
 v w:=.aC []
 aK w:=Z8 (w.1.de w.2) w.2
theorem au4:Vo.cr:=by
 rintro⟨m,e⟩ ⟨m',e'⟩ A H ⟨_,h2,_⟩ ⟨_,h4,_⟩;rw[h2]at h4;have q:=λi=>congrArg (λH=>AH.bf H i) h4
 have e1:=GR (m:=m) (dw (q 2)) (dw (q 3)) (dw (q 4)) (dw (q 5)) (dw (q 6)) (dw (q 7));have e2:=(bk.aj.inj (dw (q 0))).1;simp at e2;rw[e1,e2]
def B33:Ev.bo:=e9 93 (fK Zh) TL
abbrev TM:Ev.bo:=B33
def TO:Ev.bo:=bR 129 (ca Vo au4 cD) TM
theorem ayr{k n s cs len L Q}:
 bI Z TL (λ_=>[]) L Q 1000 93 [.ah [J k,J n,.ab s,.ad cs len 4]] an=(
 aq (k==1) (Q (.ah [J 1,J n,.ab [],J 0]) an) (aq (k==2) (Q (.ah [J 2,J 0,.ab s,J 0]) an) (aq (k==3) (Q (.ah [J 3,J 0,.ab s,J (aE len)]) an) (Q (.ah [J 0,J 0,.ab [],J 0]) an)))):=by kernel_rfl
theorem ak3{m cS L Q}:
 bI Z TM (λ_=>[]) L Q 1000 129 [.aa 0 0,.aa 1 0] (BD m cS)=(
 aq cS (∃w:Em×et,(([.aa 0 0,.ah [J 18,J 0,J 0,J 0,.ab [],J 0]]:LV)=[.aa 0 0,.ah (dq w.2)]/\bQ m=bQ w.1/\w.1.bg.length<4194304)/\Q (.aC []) (Z8 (w.1.aY w.2) cS)) (Q (.aC []) (BD m cS))):=by kernel_rfl
theorem ab8:aU Z B33:=by
 refine jD ab7 λargs q v h hq=>?_
 unfold Zh at h;split at h<;>cases h;refine eE 24 ab7 ayr ?_
 (repeat' (refine aD.2 ⟨λ_=>?_,λ_=>?_⟩))
 all_goals
  refine⟨?_,rfl⟩;simp_all[Q4]
theorem TN:aU Z TM:=ab8
theorem ab9:aU Z TO:=by
 refine cA TN ?_;rintro⟨m,cS⟩ args H ⟨rfl,rfl,hl⟩;cases cS with
 |true=>refine eE 8 TN ak3 ?_;exact aD.2 ⟨λ_=>⟨(m,⟨18,0,0,0,[],0⟩),⟨rfl,rfl,hl⟩,rfl,rfl⟩,λh=>(by cases h)⟩
 |false=>refine DU (v:=.aC []) ?_ (auB m false) (by simp[eC,j8,Vo]) (cM _);refine eE 8 TN ak3 ?_;exact aD.2 ⟨λh=>(by cases h),λ_=>⟨rfl,rfl⟩⟩
def LX(v:Int)(m:LP):LP:=up v (wI ((lk v m).getD 0+1)) m
mutual
def tL:LP->aI->LP
 |m,.mk k n _ l=>sB (if k=0 then LX n m else m) l
def sB:LP->eK->LP
 |m,[]=>m
 |m,t::l=>sB (tL m t) l
end
def mH(m:LP):AH:=al [(0,.bm (bJ J 0 m) m.length true)] 1
def aeA(N:Nat):cx (LP×aI)where
 bn w A H:=A=[.aA 0,.ah (aW w.2)]/\H=mH w.1/\bL w.2/\bN w.2<N
 v w:=.aC []
 aK w:=mH (tL w.1 w.2)
theorem aiQ{m m'}(h:mH m=mH m'):m=m':=by have q:=congrArg (λH=>AH.bf H 0) h;have q:=dw q;simp at q;exact rU xF q.1
theorem apd(N):(aeA N).cr:=by rintro⟨m,t⟩ ⟨m',t'⟩ A H ⟨h1,h2,_⟩ ⟨h3,h4,_⟩;simp only at h1 h2 h3 h4;rw[h2]at h4;rw[h1]at h3;simp at h3;rw[aiQ h4,m_ h3]
def JG(N:Nat):Ev.bo:=bR 124 (ca (aeA N) (apd N) cD) TO
def aeB:cx (LP×aI)where
 bn w A H:=A=[.aA 0,.ah (aW w.2)]/\H=mH w.1/\bL w.2
 v w:=.aC []
 aK w:=mH (tL w.1 w.2)
theorem ape:aeB.cr:=by rintro⟨m,t⟩ ⟨m',t'⟩ A H ⟨h1,h2,_⟩ ⟨h3,h4,_⟩;simp only at h1 h2 h3 h4;rw[h2]at h4;rw[h1]at h3;simp at h3;rw[aiQ h4,m_ h3]
def F_:Ev.bo:=bR 124 (ca aeB ape cD) TO
abbrev Nj x0 x1 x2:=aB [(0,.aA 0),(15,.ad x0 x1 4),(16,J (aE x1)),(17,J x2)]
theorem ayE{m k n s cs len N L Q}:
 bI Z (JG N) (λ_=>[0,15,16,17]) L Q 1000 124 [.aA 0,.ah [J k,J n,.ab s,.ad cs len 4]] (mH m)=(
 aq (k==0) (∃aP:Int,∃b:Bool,eT Z 2 3 (bJ J 0 m) (J n)=some (J aP,b)/\(∃bF:List (AV×AV×Nat),∃c':Nat,jX Z 2 (bJ J 0 m) m.length (J n) (J (wI (aP+1)))=some (bF,c')/\L (Nj cs len 0) (al [(0,.bm bF c' true)] 1) (aw Z 124 0))) (L (Nj cs len 0) (mH m) (aw Z 124 0))):=by kernel_rfl
theorem ayF{m i cs len N L Q}:
 ck Z (JG N) (λ_=>[0,15,16,17]) L Q 1000 124 1 (Nj cs len i) (aw Z 124 0) (mH m)=(
 aq (decide (i<aE len)) (∃aL:Nat,i=(aL:Int)/\aL<len/\(∃n:Int,∃aP:Int,∃s:LN,∃bP:LV,∃bH:Nat,((cs.drop (aL*4)).take 4:LV)=[J n,J aP,.ab s,.ad bP bH 4]/\(∃w:List (Int×Int)×aI,(([.aA 0,.ah [J n,J aP,.ab s,.ad bP bH 4]]:LV)=[.aA 0,.ah (aW w.2)]/\mH m=mH w.1/\bL w.2/\bN w.2<N)/\L (Nj cs len (wI (i+1))) (mH (tL w.1 w.2)) (aw Z 124 0)))) (Q (.aC []) (mH m))):=by kernel_rfl
theorem aiH(m v):∃n:Int,∃b:Bool,eT Z 2 3 (bJ J 0 m) (J v)=some (J n,b)/\(lk v m).getD 0=n:=by
 rw[o7 _ jv];cases lk v m with
 |none=>exact⟨0,false,by rw[F2];rfl,rfl⟩
 |some b=>exact⟨b,true,rfl,rfl⟩
theorem ak1{l N M}(hS:aU Z (JG N))(hl:dt l.length)(ho:fy l)(hN:bM l<N):
 ∀p:Nat×LP,(p.1<=l.length/\sB p.2 (l.drop p.1)=M)->
 br Z 124 25 1 (.aC []) (mH M) (Nj (aF l) l.length (p.1:Int)) (mH p.2) (aw Z 124 0):=by
 refine dS (λp=>l.length-p.1) _ _ _ _ ?_;rintro⟨i,m⟩ ⟨hi,hf⟩ ih;refine hE hS ayF ?_;refine aD.2 ⟨λax=>?_,λbu=>?_⟩
 .have ax:i<l.length:=by simpa using ax
  rw[fY ax,sB]at hf;obtain⟨k,n,s,ts,hf,-,bX,a_,cv⟩:=xw ax ho hN (P:=λu=>sB (tL m u) (l.drop (i+1))=M) hf;refine⟨i,rfl,ax,k,n,s,_,_,bX,?_⟩;rw[lh hl ax];exact⟨(m,.mk k n s ts),⟨rfl,rfl,a_,cv⟩,ih (i+1,tL m (.mk k n s ts)) ⟨by simp;omega,hf⟩ (by simp;omega)⟩
 .have bu:l.length<=i:=by simpa using bu
  rw[gQ bu,sB]at hf;subst hf;exact⟨rfl,rfl⟩
theorem ak0{N m k n s l}(hS:aU Z (JG N))(ho:bL (.mk k n s l))(hN:bM l<N):
 bZ Z 124 [.aA 0,.ah [J k,J n,.ab s,.ad (aF l) l.length 4]] (mH m) (.aC []) (mH (tL m (.mk k n s l))):=by
 refine eE 25 hS ayE ?_;refine aD.2 ⟨λhk=>?_,λhk=>?_⟩
 .have hk:k=0:=by simpa using hk
  have⟨c,b,h1,h2⟩:=aiH m n;refine⟨c,b,h1,_,_,pk J jv,?_⟩;exact ak1 hS ho.2.1 ho.2.2 hN (0,up n (wI (c+1)) m) ⟨by simp,by simp only[tL,hk,if_true,LX,h2,xf]⟩
 .have hk:k≠0:=by simpa using hk
  exact ak1 hS ho.2.1 ho.2.2 hN (0,m) ⟨by simp,by simp only[tL,az hk,xf]⟩
theorem amX:∀N,aU Z (JG N):=by
 refine yX ab9 ?_ ?_
 .rintro⟨m,t⟩ args H ⟨_,_,_,h⟩;omega
 .rintro N hS ⟨m,⟨k,n,s,l⟩⟩ args H ⟨rfl,rfl,ho,hN⟩;simp only[bN]at hN;exact ak0 hS ho (by omega)
theorem JH:aU Z F_:=by refine cA ab9 ?_;rintro⟨m,⟨k,n,s,l⟩⟩ args H ⟨rfl,rfl,ho⟩;exact ak0 (amX (bM l+1)) ho (by omega)
def Mf:Nat->LN:=fT [(3,[1,3,12,13,14]),(8,[3,23,24,25]),(11,[3,7,23,24,25,30,31,32])]
def Io(k:Int):Bool:=k==2||k==3||k==4
def We(m:LP)(g:qe):LP:=if Io g.eO then LX g.lG (sB m g.eN)else sB m g.eN
def Wf(m:LP)(l:fO):LP:=l.foldl We m
def uR(f:bG):LP:=Wf (sB [] f.bC) f.aZ
def Wd:cx bG where
 bn f A H:=A=[.ah (gH f)]/\H=an/\iW f
 v f:=.aA 0
 aK f:=mH (uR f)
theorem apc:Wd.cr:=by rintro f g A H ⟨h1,_⟩ ⟨h2,_⟩;rw[h1]at h2;simp at h2;rw[ye _ _ h2]
def NH:Ev.bo:=bR 87 (ca Wd apc cD) F_
def P3(m:LP)(k v ar au:Int)(nm:LN)(cs:LV)(len:Nat):AH:=al [(0,.bm (bJ J 0 m) m.length true),(1,.aj [J k,.ab nm,J ar,J au,.ad cs len 4,J v] 146)] 2
def W0(m:LP)(nm:LN)(ar au:Int)(cs:LV)(len:Nat)(gs:LV)(gl:Nat):AH:=al [(0,.aj [.ab nm,J ar,J au,.ad cs len 4,.ad gs gl 6] 106),(1,.bm (bJ J 0 m) m.length true)] 2
abbrev SN x0 x1 x2:=aB [(1,.aa 0 0),(3,.aA 1),(12,.ad x0 x1 4),(13,J (aE x1)),(14,J x2)]
theorem aya{nm ar au cs len gs gl L Q}:
 bI Z F_ Mf L Q 1000 87 [.ah [.ab nm,J ar,J au,.ad cs len 4,.ad gs gl 6]] an=(
 L (SN cs len 0) (al [(0,.aj [.ab nm,J ar,J au,.ad cs len 4,.ad gs gl 6] 106),(1,.bm [] 0 true)] 2) (aw Z 87 0)):=by kernel_rfl
abbrev v7 x0 x1 x2:=aB [(3,.aA 0),(23,.ad x0 x1 6),(24,J (aE x1)),(25,J x2)]
theorem ayb{m nm ar au i cs len gs gl L Q}:
 ck Z F_ Mf L Q 1000 87 0 (SN cs len i) (aw Z 87 0) (W0 m nm ar au cs len gs gl)=(
 aq (decide (i<aE len)) (∃aL:Nat,i=(aL:Int)/\aL<len/\(∃n:Int,∃aP:Int,∃s:LN,∃bP:LV,∃bH:Nat,((cs.drop (aL*4)).take 4:LV)=[J n,J aP,.ab s,.ad bP bH 4]/\(∃w:List (Int×Int)×aI,(([.aA 0,.ah [J n,J aP,.ab s,.ad bP bH 4]]:LV)=[.aA 0,.ah (aW w.2)]/\mH m=mH w.1/\bL w.2)/\L (SN cs len (wI (i+1))) (W0 (tL w.1 w.2) nm ar au cs len gs gl) (aw Z 87 0)))) (L (v7 gs gl 0) (mH m) (aw Z 87 1))):=by kernel_rfl
abbrev SO x0 x1 x2 x3 x4 x5:=aB [(3,.aA 0),(7,.aa 1 0),(23,.ad x0 x1 6),(24,J (aE x1)),(25,J x2),(30,.ad x3 x4 4),(31,J (aE x4)),(32,J x5)]
theorem ayc{m i gs gl L Q}:
 ck Z F_ Mf L Q 1000 87 0 (v7 gs gl i) (aw Z 87 1) (mH m)=(
 aq (decide (i<aE gl)) (∃aL:Nat,i=(aL:Int)/\aL<gl/\(∃n:Int,∃s:LN,∃aP:Int,∃bA:Int,∃cs:LV,∃len:Nat,∃cf:Int,((gs.drop (aL*6)).take 6:LV)=[J n,.ab s,J aP,J bA,.ad cs len 4,J cf]/\L (SO gs gl i cs len 0) (P3 m n cf aP bA s cs len) (aw Z 87 2))) (Q (.aA 0) (mH m))):=by kernel_rfl
theorem ayd{m i j k v ar au nm cs len gs gl L Q}:
 ck Z F_ Mf L Q 1000 87 0 (SO gs gl i cs len j) (aw Z 87 2) (P3 m k v ar au nm cs len)=(
 aq (decide (j<aE len)) (∃aL:Nat,j=(aL:Int)/\aL<len/\(∃n:Int,∃aP:Int,∃s:LN,∃bP:LV,∃bH:Nat,((cs.drop (aL*4)).take 4:LV)=[J n,J aP,.ab s,.ad bP bH 4]/\(∃w:List (Int×Int)×aI,(([.aA 0,.ah [J n,J aP,.ab s,.ad bP bH 4]]:LV)=[.aA 0,.ah (aW w.2)]/\mH m=mH w.1/\bL w.2)/\L (SO gs gl i cs len (wI (j+1))) (P3 (tL w.1 w.2) k v ar au nm cs len) (aw Z 87 2)))) (aq (k==2) (aq (k==2) (∃n:Int,∃b:Bool,eT Z 2 3 (bJ J 0 m) (J v)=some (J n,b)/\(∃bF:List (AV×AV×Nat),∃c':Nat,jX Z 2 (bJ J 0 m) m.length (J v) (J (wI (n+1)))=some (bF,c')/\L (v7 gs gl (wI (i+1))) (al [(0,.bm bF c' true)] 1) (aw Z 87 1))) (L (v7 gs gl (wI (i+1))) (mH m) (aw Z 87 1))) (aq (k==3) (aq (k==3) (∃n:Int,∃b:Bool,eT Z 2 3 (bJ J 0 m) (J v)=some (J n,b)/\(∃bF:List (AV×AV×Nat),∃c':Nat,jX Z 2 (bJ J 0 m) m.length (J v) (J (wI (n+1)))=some (bF,c')/\L (v7 gs gl (wI (i+1))) (al [(0,.bm bF c' true)] 1) (aw Z 87 1))) (L (v7 gs gl (wI (i+1))) (mH m) (aw Z 87 1))) (aq (k==4) (∃n:Int,∃b:Bool,eT Z 2 3 (bJ J 0 m) (J v)=some (J n,b)/\(∃bF:List (AV×AV×Nat),∃c':Nat,jX Z 2 (bJ J 0 m) m.length (J v) (J (wI (n+1)))=some (bF,c')/\L (v7 gs gl (wI (i+1))) (al [(0,.bm bF c' true)] 1) (aw Z 87 1))) (L (v7 gs gl (wI (i+1))) (mH m) (aw Z 87 1)))))):=by kernel_rfl
theorem ax9{gs M m' i k v ar au nm l}(Lw:dt gs.length)(hi:i<gs.length)(hl:dt l.length)(ho:fy l)(ey:br Z 87 53 0 (.aA 0) (mH M) (v7 (bD gs) gs.length ((i+1:Nat):Int)) (mH m') (aw Z 87 1)):
 ∀p:Nat×LP,(p.1<=l.length/\(if Io k then LX v (sB p.2 (l.drop p.1))else sB p.2 (l.drop p.1))=m')->
 br Z 87 53 0 (.aA 0) (mH M) (SO (bD gs) gs.length (i:Int) (aF l) l.length (p.1:Int)) (P3 p.2 k v ar au nm (aF l) l.length) (aw Z 87 2):=by
 refine dS (λp=>l.length-p.1) _ _ _ _ ?_;rintro⟨j,m⟩ ⟨hj,hf⟩ ih;refine hE JH ayd ?_;refine aD.2 ⟨λax=>?_,λbu=>?_⟩
 .have ax:j<l.length:=by simpa using ax
  have⟨k1,n1,s1,ts,he,bX,a_⟩:=y9 ax ho;rw[fY ax,he]at hf;refine⟨j,rfl,ax,k1,n1,s1,_,_,bX,?_⟩;rw[lh hl ax];exact⟨(m,.mk k1 n1 s1 ts),⟨rfl,rfl,a_⟩,ih (j+1,tL m (.mk k1 n1 s1 ts)) ⟨by simp;omega,hf⟩ (by simp;omega)⟩
 .have bu:l.length<=j:=by simpa using bu
  rw[gQ bu]at hf;simp only[sB]at hf;rw[lh Lw hi];have⟨c,b,h1,h2⟩:=aiH m v;have xJ:Io k=true->∃n:Int,∃b:Bool,(eT Z 2 3 (bJ J 0 m) (J v)=some ((J n,b)))/\∃bF:List (AV×AV×Nat),∃c':Nat,(jX Z 2 (bJ J 0 m) (List.length m) (J v) (J (wI (n+1)))=some ((bF,c')))/\
   br Z 87 53 0 (.aA 0) (mH M) (v7 (bD gs) gs.length ((i+1:Nat):Int)) (al [(0,.bm bF c' true)] 1) (aw Z 87 1):=by
   intro h;rw[aO h]at hf;refine⟨c,b,h1,_,_,pk J jv,?_⟩;rw[<-hf]at ey;simp only[LX,h2]at ey;exact ey
  have no:Io k=false->br Z 87 53 0 (.aA 0) (mH M) (v7 (bD gs) gs.length ((i+1:Nat):Int)) (al [(0,.bm (bJ J 0 m) m.length true)] 1) (aw Z 87 1):=by intro h;rw[az (by simp[h])]at hf;rw[<-hf]at ey;exact ey
  (repeat' (refine aD.2 ⟨λ_=>?_,λ_=>?_⟩))
  all_goals first
   |(refine xJ ?_;clear xJ no;simp_all[Io];done)
   |(refine no ?_;clear xJ no;simp_all[Io];done)
   |(exfalso;clear xJ no;simp_all;done)
theorem ax8{gs M}(Lw:dt gs.length)(H_:∀g∈gs,qA g):
 ∀p:Nat×LP,(p.1<=gs.length/\Wf p.2 (gs.drop p.1)=M)->
 br Z 87 53 0 (.aA 0) (mH M) (v7 (bD gs) gs.length (p.1:Int)) (mH p.2) (aw Z 87 1):=by
 refine dS (λp=>gs.length-p.1) _ _ _ _ ?_;rintro⟨i,m⟩ ⟨hi,hf⟩ ih;refine hE JH ayc ?_;refine aD.2 ⟨λax=>?_,λbu=>?_⟩
 .have ax:i<gs.length:=by simpa using ax
  have⟨k,nm,ar,au,ls,v,he,bX,a_⟩:=By ax H_;rw[fY ax,he]at hf;refine⟨i,rfl,ax,k,nm,ar,au,_,_,v,bX,?_⟩;exact ax9 Lw ax a_.2.1 a_.2.2 (ih (i+1,We m ⟨k,⟨nm,ar,au⟩,ls,v⟩) ⟨by simp;omega,hf⟩ (by simp;omega)) (0,m) ⟨by simp,by simp only[We,xf]⟩
 .have bu:gs.length<=i:=by simpa using bu
  rw[gQ bu]at hf;subst hf;exact⟨rfl,rfl⟩
theorem ax7{gs M nm ar au l}(Lw:dt gs.length)(H_:∀g∈gs,qA g)(hl:dt l.length)(ho:fy l):
 ∀p:Nat×LP,(p.1<=l.length/\Wf (sB p.2 (l.drop p.1)) gs=M)->
 br Z 87 53 0 (.aA 0) (mH M) (SN (aF l) l.length (p.1:Int)) (W0 p.2 nm ar au (aF l) l.length (bD gs) gs.length) (aw Z 87 0):=by
 refine dS (λp=>l.length-p.1) _ _ _ _ ?_;rintro⟨j,m⟩ ⟨hj,hf⟩ ih;refine hE JH ayb ?_;refine aD.2 ⟨λax=>?_,λbu=>?_⟩
 .have ax:j<l.length:=by simpa using ax
  have⟨k1,n1,s1,ts,he,bX,a_⟩:=y9 ax ho;rw[fY ax,he]at hf;refine⟨j,rfl,ax,k1,n1,s1,_,_,bX,?_⟩;rw[lh hl ax];exact⟨(m,.mk k1 n1 s1 ts),⟨rfl,rfl,a_⟩,ih (j+1,tL m (.mk k1 n1 s1 ts)) ⟨by simp;omega,hf⟩ (by simp;omega)⟩
 .have bu:l.length<=j:=by simpa using bu
  rw[gQ bu]at hf;simp only[sB]at hf;exact ax8 Lw H_ (0,m) ⟨by simp,by simpa using hf⟩
theorem TP:aU Z NH:=by refine cA JH ?_;rintro⟨⟨nm,ar,au⟩,l,gs⟩ args H ⟨rfl,rfl,ho⟩;refine eS JH 1000 Mf 53 (by kernel_rfl) ?_;simp only[Wd,gH];rw[aya];exact ax7 ho.2.2.2.1 ho.2.2.2.2 ho.2.1 ho.2.2.1 (0,[]) ⟨by simp,by simp only[uR,xf]⟩
end
end Go.Cl
