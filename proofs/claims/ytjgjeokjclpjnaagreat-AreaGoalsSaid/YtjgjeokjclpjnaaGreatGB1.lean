/- Part of a proof of AreaGoals. -/
import Derived.Test.YtjgjeokjclpjnaaGreatGA5
import Derived.Test.YtjgjeokjclpjnaaGreatProg
import Derived.KernelRfl
set_option linter.all false
set_option linter.unusedSectionVars false
set_option maxRecDepth 100000
namespace Go.Cl
open Go.Ev
noncomputable section
abbrev LT:=Tr AV->AH->List dZ->Prop
abbrev QT:=AV->AH->Prop
abbrev J(n:Int):AV:=.bV .i64 n
abbrev wI(n:Int):Int:=IntKind.i64.wrap n
inductive aF where
 |mk (kind n:Int) (name:LN) (args:List aF)
 deriving Inhabited
namespace aF
def cy:aF->Int|mk k _ _ _=>k
def n:aF->Int|mk _ n _ _=>n
def cO:aF->LN|mk _ _ s _=>s
def bo:aF->List aF|mk _ _ _ l=>l
end aF
abbrev eH:=List aF
mutual
def aU:aF->LV
 |.mk k n s l=>[.bV .i64 k,.bV .i64 n,.ad s,.ah (aH l) l.length 4]
def aH:eH->LV
 |[]=>[]
 |t::l=>aU t++aH l
end
theorem tA(t):(aU t).length=4:=by cases t;simp[aU]
theorem rH:∀l,(aH l).length=l.length*4
 |[]=>rfl
 |t::l=>by simp[aH,tA,rH l];omega
theorem LS:∀{l i} (h:i<l.length),((aH l).drop (i*4)).take 4=aU l[i]
 |[],i,h=>by simp at h
 |t0::l,0,h=>by simp;have:=yh (l₂:=aH l) (tA t0);exact this
 |t0::l,i+1,h=>by
  have hl:i<l.length:=by simpa using h
  have:=LS hl;simp only[aH,DI];rw[<-this];have e:(i+1)*4=(aU t0).length+i*4:=by rw[tA];omega
  rw[e,JR]
mutual
theorem lP:∀{t u:aF},aU t=aU u->t=u
 |.mk k n s l,.mk k' n' s' l',h=>by simp only[aU,iL,AV.bV.injEq,AV.ad.injEq,AV.ah.injEq,true_and,and_true]at h;obtain⟨rfl,rfl,rfl,h,hl⟩:=h;rw[tB hl h]
theorem tB:∀{l m:eH},l.length=m.length->aH l=aH m->l=m
 |[],[],_,_=>rfl
 |[],_::_,h,_=>by simp at h
 |_::_,[],h,_=>by simp at h
 |t::l,u::m,hl,h=>by simp only[aH]at h;have h2:=mr h (by rw[tA,tA]);rw[lP h2.1,tB (by simpa using hl) h2.2]
end
def gX{α:Type}[Inhabited α](f:aF->α)(cells:LV):α:=
 @dite _ (∃t,aU t=cells) (Classical.propDecidable _) (λh=>f h.choose) (λ_=>default)
theorem BZ{α}[Inhabited α](f:aF->α)(t):gX f (aU t)=f t:=by unfold gX;rw[dif_pos ⟨t,rfl⟩];congr 1;exact lP (Exists.choose_spec (⟨t,rfl⟩:∃u,aU u=aU t))
def dk(n:Nat):Prop:=n<9223372036854775808
mutual
def bB:aF->Prop
 |.mk _ _ s l=>dk s.length/\dk l.length/\fK l
def fK:eH->Prop
 |[]=>True
 |t::l=>bB t/\fK l
end
theorem Tj:∀{l i} (h:i<l.length),fK l->bB l[i]
 |[],i,h,_=>by simp at h
 |t::l,0,h,ho=>ho.1
 |t::l,i+1,h,ho=>Tj (l:=l) (by simpa using h) ho.2
mutual
def bM:aF->Nat
 |.mk _ _ _ l=>1+bN l
def bN:eH->Nat
 |[]=>0
 |t::l=>bM t+bN l
end
theorem OM:∀{l i} (h:i<l.length),bM l[i]<=bN l
 |[],i,h=>by simp at h
 |t::l,0,h=>by simp only[qdq,bN];omega
 |t::l,i+1,h=>by have:=OM (by simpa using h);simp only[DI,bN];omega
theorem cH{x}(h1: -9223372036854775808<=x:=by omega)(h2:x<=9223372036854775807:=by omega):wI x=x:=IntWalk.i64_in x (by omega)
theorem ab{p q:Prop}(h:p)(hn:¬p:=by first|decide|omega|(simp;done)|(simp;omega)):q:=absurd h hn
end
end Go.Cl
namespace Go.Cl
open Go.Ev Go.Proofs
noncomputable section
def Z:Program:=Tryz.prog
theorem iJ:Z.follows .mixedOrders=true:=by kernel_rfl
theorem YE{P}(cU:P.follows .mixedOrders=true){S}(hS:aS P S)(n aR nt){f args H v H1}(h:bC P S aR (bu P f nt H.bx v H1) (fJ v H1) n f args H)(mU:(P.funcs[f]?).map (·.ntmps)=some nt):bX P f args H v H1:=asZ cU hS mU h
def Jz(f:Nat):Option Nat:=(Z.funcs[f]?).map (·.ntmps)
theorem eT{S}(hS:aS Z S)(n aR nt){f args H v H1}:(bC Z S aR (bu Z f nt H.bx v H1) (fJ v H1) n f args H)->(hn:Jz f=some nt:=by kernel_rfl)->bX Z f args H v H1:=YE iJ hS n aR nt
theorem eS{S}(hS:aS Z S)(aR nt){f args H v H1}:(bC Z S aR (bu Z f nt H.bx v H1) (fJ v H1) 1000 f args H)->(hn:Jz f=some nt:=by kernel_rfl)->bX Z f args H v H1:=YE iJ hS 1000 aR nt
theorem ZG{P}(cU:P.follows .mixedOrders=true){S}(hS:aS P S)(n aR){f nt m0 t todo H v H1}(h:cg P S aR (bu P f nt m0 v H1) (fJ v H1) n f m0 t todo H)(mU:(P.funcs[f]?).map (·.ntmps)=some nt):bu P f nt m0 v H1 t H todo:=auQ cU hS mU h
theorem hT{S}(hS:aS Z S)(n aR){f nt m0 t todo H v H1}:(cg Z S aR (bu Z f nt m0 v H1) (fJ v H1) n f m0 t todo H)->(hn:Jz f=some nt:=by kernel_rfl)->bu Z f nt m0 v H1 t H todo:=ZG iJ hS n aR
theorem hD{S}(hS:aS Z S)(aR){f nt m0 t todo H v H1}:(cg Z S aR (bu Z f nt m0 v H1) (fJ v H1) 1000 f m0 t todo H)->(hn:Jz f=some nt:=by kernel_rfl)->bu Z f nt m0 v H1 t H todo:=ZG iJ hS 1000 aR
theorem eE0{P}(cU:P.follows .mixedOrders=true){S n aR f args H v H1 R}(nt)(hS:aS P S)(e:bC P S aR (bu P f nt H.bx v H1) (fJ v H1) n f args H=R)(h:R)(hn:(P.funcs[f]?).map (·.ntmps)=some nt):bX P f args H v H1:=YE cU hS n aR nt (cast e.symm h) hn
theorem hE0{P}(cU:P.follows .mixedOrders=true){S n aR f nt m0 t todo H v H1 R}(hS:aS P S)(e:cg P S aR (bu P f nt m0 v H1) (fJ v H1) n f m0 t todo H=R)(h:R)(hn:(P.funcs[f]?).map (·.ntmps)=some nt):bu P f nt m0 v H1 t H todo:=ZG cU hS n aR (cast e.symm h) hn
theorem eE{S n aR f args H v H1 R}(nt)(hS:aS Z S)(e:bC Z S aR (bu Z f nt H.bx v H1) (fJ v H1) n f args H=R)(h:R)(hn:Jz f=some nt:=by kernel_rfl):bX Z f args H v H1:=eE0 iJ nt hS e h hn
theorem hE{S n aR f nt m0 t todo H v H1 R}(hS:aS Z S)(e:cg Z S aR (bu Z f nt m0 v H1) (fJ v H1) n f m0 t todo H=R)(h:R)(hn:Jz f=some nt:=by kernel_rfl):bu Z f nt m0 v H1 t H todo:=hE0 iJ hS e h hn
mutual
def sq:Int->aF->Int
 |left,.mk _ _ _ l=>wY (left-1) l
def wY:Int->eH->Int
 |left,[]=>left
 |left,t::l=>if 0<left then wY (sq left t) l else left
end
mutual
theorem aoK:∀(left:Int) (t:aF),1<=left->0<=sq left t/\sq left t<left
 |left,.mk _ _ _ l,h=>by have:=aoM (left-1) l (by omega);simp only[sq];omega
theorem aoM:∀(left:Int) (l:eH),0<=left->0<=wY left l/\wY left l<=left
 |left,[],h=>by simp only[wY];omega
 |left,t::l,h=>by
  simp only[wY];split;next h0=>have h1:=aoK left t (by omega);have:=aoM (sq left t) l h1.1;omega
  .omega
end
def Ab(left:Int):AH:=aq [(0,.al [J left] 3),(1,.al [.bn (.func 140) [] [.aa 0 0,.aa 1 0]] 216)] 2
def adC(N:Nat):LV->AH->Option (Prop×AV×AH)
 |[.ai cells,.aa 0 0,.aa 1 0],H=>match H.bc 0 with
  |some (.al [.bV .i64 left] _)=>some (H=Ab left/\(1<=left/\left<=2001)/\∃t,aU t=cells/\bB t/\bM t<N,.aC [],Ab (gX (sq left) cells))
  |_=>none
 |_,_=>none
def Lh(N:Nat):Ev.bp:=fk 140 (adC N) abx
abbrev Um x0:=bg [(1,.aa 0 0),(2,.aa 1 0),(3,.aa 2 0),(4,J x0)]
abbrev Rx x0 x1 x2 x3 x4 x5:=aq [(0,.al [J x0] 3),(1,.al [.bn (.func 140) [] [.aa 0 0,.aa 1 0]] 216),(2,.al [J x1,J x2,.ad x3,.ah x4 x5 4] 49)] 3
theorem aGh{k n s cs len left N L Q}:
 bC Z (Lh N) (λ_=>[1,2,3,4]) L Q 1000 140 [.ai [J k,J n,.ad s,.ah cs len 4],.aa 0 0,.aa 1 0] (Ab left)=(
 L (Um 0) (Rx (wI (left-1)) k n s cs len) (ax Z 140 0)):=by kernel_rfl
abbrev ZD x0:=aq [(0,.al [J x0] 3),(1,.al [.bn (.func 140) [] [.aa 0 0,.aa 1 0]] 216)] 2
theorem aGi{k n i s cs len left N L Q}:
 cg Z (Lh N) (λ_=>[1,2,3,4]) L Q 1000 140 2 (Um i) (ax Z 140 0) (Rx left k n s cs len)=(
 aw (decide (i<aP len))
  (aw (decide (left>0))
    (∃aJ:Nat,(i=(aJ:Int))/\
      (aJ<len)/\
      ∃aN bz cr bP bI,((cs.drop (aJ*4)).take 4=[J aN,J bz,.ad cr,.ah bP bI 4])/\
      ((ZD left=Ab left)/\
      ((1<=left)/\
      left<=2001)/\
      ∃t,(aU t=[J aN,J bz,.ad cr,.ah bP bI 4])/\
      (bB t)/\
      bM t<N)/\
      L (Um (wI (i+1))) (Rx (gX (sq left) [J aN,J bz,.ad cr,.ah bP bI 4]) k n s cs len) (ax Z 140 0))
    (Q (.aC []) (ZD left)))
  (Q (.aC []) (ZD left))):=by kernel_rfl
theorem aGg{k n s l N aI}(hS:aS Z (Lh N))(hl:dk l.length)(ho:fK l)(hN:bN l<N):
 ∀p:Nat×Int,(p.1<=l.length/\0<=p.2/\p.2<=2001/\wY p.2 (l.drop p.1)=aI)->
 bu Z 140 25 2 (.aC []) (Ab aI) (Um (p.1:Int))
  (Rx p.2 k n s (aH l) l.length) (ax Z 140 0):=by
 refine dF (λp=>l.length-p.1) _ _ _ _ ?_;rintro⟨i,left⟩ ⟨hi,h0,h1,hf⟩ ih;refine hE hS aGi ?_;refine aD (λay=>?_) λbq=>?_
 .have ay:i<l.length:=by simpa using ay
  have FC:=List.drop_eq_getElem_cons ay;rw[FC,wY]at hf;refine aD (λxN=>?_) λaaj=>?_
  .have xN:0<left:=by simpa using xN
   rw[aL xN]at hf;have b_:=LS ay;have aZ:=Tj ay ho;have cx:=OM ay;have hw:=aoK left l[i] (by omega);generalize l[i]=u at b_ aZ cx hw hf;have⟨k',n',s',l'⟩:=u;refine⟨i,rfl,ay,k',n',s',aH l',l'.length,b_,⟨rfl,⟨by omega,h1⟩,_,rfl,aZ,by omega⟩,?_⟩;have e1:wI ((i:Int)+1)=((i+1:Nat):Int):=by unfold dk at hl;rw[cH];simp
   have e2:gX (sq left) [J k',J n',.ad s',.ah (aH l') l'.length 4]=sq left (.mk k' n' s' l'):=BZ (sq left) (.mk k' n' s' l');rw[e1,e2];exact ih (i+1,sq left (.mk k' n' s' l')) ⟨by simp;omega,hw.1,by simp;omega,hf⟩ (by simp;omega)
  .have aaj:¬0<left:=by simpa using aaj
   rw[az aaj]at hf;subst hf;exact⟨rfl,rfl⟩
 .have bq:l.length<=i:=by simpa using bq
  have:=gR bq;rw[this,wY]at hf;subst hf;exact⟨rfl,rfl⟩
theorem aGf{k n s l N left}(hS:aS Z (Lh N))(h1:1<=left)(h2:left<=2001)(aZ:bB (.mk k n s l))(hN:bN l<N):
 bX Z 140 [.ai (aU (.mk k n s l)),.aa 0 0,.aa 1 0] (Ab left) (.aC []) (Ab (sq left (.mk k n s l))):=by
 refine eS hS (λ_=>[1,2,3,4]) 25 ?_;rw[aU,aGh,cH];exact aGg hS aZ.2.1 aZ.2.2 hN (0,left-1) ⟨by simp,by simp;omega,by simp;omega,rfl⟩
theorem apN:∀N,aS Z (Lh N):=by
 refine acm alp ?_ ?_
 .intro args H p v H' h;unfold adC at h;split at h
  .split at h
   .cases h;rintro⟨_,_,t,_,_,h⟩;omega
   .cases h
  .cases h
 .intro N hS args H p v H' h hp;unfold adC at h;split at h
  .split at h;next left _=>cases h;obtain⟨rfl,⟨h1,h2⟩,⟨k,n,s,l⟩,rfl,aZ,cx⟩:=hp;rw[BZ];simp only[bM]at cx;exact aGf hS h1 h2 aZ (by omega)
   .cases h
  .cases h
end
end Go.Cl
namespace Go.Cl
open Go.Ev
noncomputable def an:AH:=aq [] 0
noncomputable def fY(s:LV->Option (Prop×AV)):LV->AH->Option (Prop×AV×AH):=λargs H=>
 match s args with
 |some (p,v)=>some (H=an/\p,v,an)
 |none=>none
theorem ab6{s args H p v H'}(h:fY s args H=some (p,v,H')):∃q,s args=some (q,v)/\H'=an/\(p->H=an/\q):=by
 unfold fY at h;split at h;next q v' hs=>cases h;exact⟨q,hs,rfl,id⟩
 .cases h
theorem jG{P S f s}(hS:aS P S)(h:∀args q v,s args=some (q,v)->q->bX P f args an v an)(cK:f≠999999:=by first|assumption|decide):aS P (fk f (fY s) S):=by
 refine EH hS λargs H p v H' h1 hp=>?_
 obtain⟨q,h2,rfl,h3⟩:=ab6 h1;obtain⟨rfl,hq⟩:=h3 hp;exact h _ _ _ h2 hq
theorem Ty{P S f}{sN:Nat->LV->Option (Prop×AV)}(hS:aS P S)(h0:∀args q v,sN 0 args=some (q,v)->¬q)(kh:∀N,aS P (fk f (fY (sN N)) S)->∀args q v,sN (N+1) args=some (q,v)->q->bX P f args an v an)(cK:f≠999999:=by first|assumption|decide):∀N,aS P (fk f (fY (sN N)) S):=by
 refine acm hS ?_ ?_
 .intro args H p v H' h hp;have⟨q,h2,_,h3⟩:=ab6 h;exact h0 _ _ _ h2 (h3 hp).2
 .intro N hN args H p v H' h hp;obtain⟨q,h2,rfl,h3⟩:=ab6 h;obtain⟨rfl,hq⟩:=h3 hp;exact kh N hN _ _ _ h2 hq
theorem PU{S f s args H x}(h:s args H=some x):pc (fk f s S) f args H=some x:=by simp only[pc,fk,bR,lC,cond_true,YA,h,tz]
theorem awI{P S f}{sN:Nat->LV->AH->Option (Prop×AV×AH)}{s}(hS:aS P S)(h:∀N,aS P (fk f (sN N) S))(hs:∀args H p v H',s args H=some (p,v,H')->p->∃N q,sN N args H=some (q,v,H')/\q)(cK:f≠999999:=by first|assumption|decide):aS P (fk f s S):=by
 refine EH hS λargs H p v H' h1 hp=>?_
 have⟨N,q,h2,hq⟩:=hs _ _ _ _ _ h1 hp;exact(h N).1 f args H q v H' cK (PU h2) hq
theorem Tx{P S f}{sN:Nat->LV->Option (Prop×AV)}{s}(hS:aS P S)(h:∀N,aS P (fk f (fY (sN N)) S))(hs:∀args q v,s args=some (q,v)->q->∃N q',sN N args=some (q',v)/\q')(cK:f≠999999:=by first|assumption|decide):aS P (fk f (fY s) S):=by
 refine jG hS λargs q v h1 hq=>?_
 have⟨N,q',h2,CX⟩:=hs _ _ _ h1 hq;refine(h N).1 f args an (an=an/\q') v an cK (PU ?_) ⟨rfl,CX⟩;simp only[fY,h2]
theorem ta:∀t,1<=bM t
 |.mk _ _ _ l=>by simp only[bM];omega
mutual
theorem aoJ:∀(left:Int) (t:aF),1<=left->sq left t=max 0 (left-bM t)
 |left,.mk _ _ _ l,h=>by simp only[sq,bM];rw[aoL _ l (by omega)];omega
theorem aoL:∀(left:Int) (l:eH),0<=left->wY left l=max 0 (left-bN l)
 |left,[],h=>by simp only[wY,bN];omega
 |left,t::l,h=>by
  simp only[wY,bN];have:=ta t;split
  .rw[aoJ left t (by omega),aoL _ l (by omega)];omega
  .omega
end
def cW(t:aF):Int:=min (bM t) 2001
def zD(k n:Int)(s:LN)(len:Nat):Bool:=
 if k=0 then decide (0<=n/\n<=1099511627776/\s.length=0/\len=0)
 else if k=1 then decide (s.length=0/\len=0)
 else if k=2 then decide (n=0/\s.length<=100/\len=0)
 else if k=3 then decide (n=0/\s.length<=100/\0<len/\len<=8)
 else false
mutual
def iZ:aF->Bool
 |.mk k n s l=>zD k n s l.length&&qn l
def qn:eH->Bool
 |[]=>true
 |t::l=>iZ t&&qn l
end
def fv(t:aF):Bool:=decide (bM t<=2000)&&iZ t
end Go.Cl
namespace Go.Cl
open Go.Ev
def Jd(N:Nat)(cells:LV):Prop:=∃t,aU t=cells/\bB t/\bM t<N
def kA(cells:LV):Prop:=∃t,aU t=cells/\bB t
theorem jb{α}[Inhabited α](f:aF->α)(k n s l):gX f [J k,J n,.ad s,.ah (aH l) l.length 4]=f (.mk k n s l):=BZ f (.mk k n s l)
theorem aaM{N k n s l}(h:bB (.mk k n s l))(h2:bM (.mk k n s l)<N):Jd N [J k,J n,.ad s,.ah (aH l) l.length 4]:=⟨_,rfl,h,h2⟩
theorem lV{k n s l}(h:bB (.mk k n s l)):kA [J k,J n,.ad s,.ah (aH l) l.length 4]:=⟨_,rfl,h⟩
theorem kU{i n}(h:dk n)(hi:i<n):wI ((i:Int)+1)=((i+1:Nat):Int):=by unfold dk at h;rw[cH];simp
theorem wQ{l i}(h:i<l.length){N}(ho:fK l)(hN:bN l<N){P:aF->Prop}(hp:P l[i]):
 ∃k n s m,P (.mk k n s m)/\l[i]=.mk k n s m/\((aH l).drop (i*4)).take 4=[J k,J n,.ad s,.ah (aH m) m.length 4]/\bB (.mk k n s m)/\bM (.mk k n s m)<N:=by
 have b_:=LS h;have aZ:=Tj h ho;have cx:=OM h;generalize l[i]=u at*;have⟨k,n,s,m⟩:=u;exact⟨k,n,s,m,hp,rfl,b_,aZ,by omega⟩
theorem fV{α:Type}{l:List α}{i}(h:i<l.length):l.drop i=l[i]::l.drop (i+1):=List.drop_eq_getElem_cons h
end Go.Cl
namespace Go.Cl
open Go.Ev Go.Proofs
noncomputable section
def aoI:LV->AH->Option (Prop×AV×AH)
 |[.ai cells,.aa 0 0,.aa 1 0],H=>match H.bc 0 with
  |some (.al [.bV .i64 left] _)=>some (H=Ab left/\(1<=left/\left<=2001)/\kA cells,.aC [],Ab (gX (sq left) cells))
  |_=>none
 |_,_=>none
def B1:Ev.bp:=fk 140 aoI abx
def TZ:LV->Option (Prop×AV)
 |[.ai cells]=>some (kA cells,J (gX cW cells))
 |_=>none
def B2:Ev.bp:=fk 103 (fY TZ) B1
def alr:LV->Option (Prop×AV)
 |[.ai [.bV .i64 k,.bV .i64 n,.ad s,.ah cs len 4]]=>some (True,.au (zD k n s len))
 |_=>none
def B3:Ev.bp:=fk 108 (fY alr) B2
def Dt(N:Nat):LV->Option (Prop×AV)
 |[.ai cells]=>some (Jd N cells,.au (gX iZ cells))
 |_=>none
def S4:LV->Option (Prop×AV)
 |[.ai cells]=>some (kA cells,.au (gX iZ cells))
 |_=>none
def O9(N:Nat):Ev.bp:=fk 70 (fY (Dt N)) B3
def B4:Ev.bp:=fk 70 (fY S4) B3
def O_(N:Nat):Ev.bp:=fk 106 (fY (Dt N)) B4
def B5:Ev.bp:=fk 106 (fY S4) B4
def Qq(N:Nat):LV->Option (Prop×AV)
 |[.ai cells,.bV .i64 ek]=>some (Jd N cells/\1<=ek/\ek<=2001,J (gX (λt=>min (bM t) ek) cells))
 |_=>none
def agB:LV->Option (Prop×AV)
 |[.ai cells,.bV .i64 ek]=>some (kA cells/\1<=ek/\ek<=2001,J (gX (λt=>min (bM t) ek) cells))
 |_=>none
def O'(N:Nat):Ev.bp:=fk 107 (fY (Qq N)) B5
def B6:Ev.bp:=fk 107 (fY agB) B5
def B7:Ev.bp:=fk 69 (fY TZ) B6
def U6:LV->Option (Prop×AV)
 |[.ai cells]=>some (kA cells,.au (gX fv cells))
 |_=>none
def B8:Ev.bp:=fk 43 (fY U6) B7
def B9:Ev.bp:=fk 66 (fY U6) B8
theorem aBw{k n s cs len L Q}:
 bC Z B1 (λ_=>[]) L Q 1000 103 [.ai [J k,J n,.ad s,.ah cs len 4]] an=(
 (aq [(0,.al [J 2001] 3),(1,.al [.bn (.func 140) [] [.aa 0 0,.aa 1 0]] 216)] 2=Ab 2001/\((1:Int)<=2001/\(2001:Int)<=2001)/\kA [J k,J n,.ad s,.ah cs len 4])/\Q (J (wI (2001-gX (sq 2001) [J k,J n,.ad s,.ah cs len 4]))) an):=by kernel_rfl
theorem azm{k n s cs len L Q}:
 bC Z B2 (λ_=>[]) L Q 1000 108 [.ai [J k,J n,.ad s,.ah cs len 4]] an=(
 aw (k==0) (aw (decide (n>=0)) (aw (decide (n<=1099511627776)) (aw (cb s []) (Q (.au (aP len==0)) an) (Q (.au false) an)) (Q (.au false) an)) (Q (.au false) an)) (aw (k==1) (aw (cb s []) (Q (.au (aP len==0)) an) (Q (.au false) an)) (aw (k==2) (aw (n==0) (aw (decide (aP s.length<=100)) (Q (.au (aP len==0)) an) (Q (.au false) an)) (Q (.au false) an)) (aw (k==3) (aw (n==0) (aw (decide (aP s.length<=100)) (aw (decide (aP len>=1)) (Q (.au (decide (aP len<=8))) an) (Q (.au false) an)) (Q (.au false) an)) (Q (.au false) an)) (Q (.au false) an))))):=by kernel_rfl
abbrev k_ x0 x1 x2 x3 x4:=aq [(0,.al [J x0,J x1,.ad x2,.ah x3 x4 4] 49)] 1
theorem aBt{k n s cs len N L Q}:
 bC Z (O9 N) (λ_=>[1,3]) L Q 1000 70 [.ai [J k,J n,.ad s,.ah cs len 4]] an=(
 (aq [] 0=an/\True)/\aw (!zD k n s len) (Q (.au false) an) (L (bg [(1,.aa 0 0),(3,J 0)]) (k_ k n s cs len) (ax Z 70 0))):=by kernel_rfl
theorem aBu{k n i s cs len N L Q}:
 cg Z (O9 N) (λ_=>[1,3]) L Q 1000 70 0 (bg [(1,.aa 0 0),(3,J i)]) (ax Z 70 0) (k_ k n s cs len)=(
 aw (decide (i<aP len)) (∃aJ:Nat,i=(aJ:Int)/\aJ<len/\(∃aN:Int,∃bz:Int,∃cr:LN,∃bP:LV,∃bI:Nat,(cs.drop (aJ*4)).take 4=[J aN,J bz,.ad cr,.ah bP bI 4]/\(aq [] 0=an/\Jd N [J aN,J bz,.ad cr,.ah bP bI 4])/\aw (!gX iZ [J aN,J bz,.ad cr,.ah bP bI 4]) (Q (.au false) an) (L (bg [(1,.aa 0 0),(3,J (wI (i+1)))]) (k_ k n s cs len) (ax Z 70 0)))) (Q (.au true) an)):=by kernel_rfl
abbrev qt x0 x1:=bg [(1,.aa 0 0),(3,.au x0),(4,J x1)]
theorem azo{k n s cs len N L Q}:
 bC Z (O_ N) (λ_=>[1,3,4]) L Q 1000 106 [.ai [J k,J n,.ad s,.ah cs len 4]] an=(
 aw (k==0) (aw (decide (n>=0)) (aw (decide (n<=1099511627776)) (aw (cb s []) (L (qt (aP len==0) 0) (k_ k n s cs len) (ax Z 106 0)) (L (qt false 0) (k_ k n s cs len) (ax Z 106 0))) (L (qt false 0) (k_ k n s cs len) (ax Z 106 0))) (L (qt false 0) (k_ k n s cs len) (ax Z 106 0))) (aw (k==1) (aw (cb s []) (L (qt (aP len==0) 0) (k_ k n s cs len) (ax Z 106 0)) (L (qt false 0) (k_ k n s cs len) (ax Z 106 0))) (aw (k==2) (aw (n==0) (aw (decide (aP s.length<=100)) (L (qt (aP len==0) 0) (k_ k n s cs len) (ax Z 106 0)) (L (qt false 0) (k_ k n s cs len) (ax Z 106 0))) (L (qt false 0) (k_ k n s cs len) (ax Z 106 0))) (aw (k==3) (aw (n==0) (aw (decide (aP s.length<=100)) (aw (decide (aP len>0)) (L (qt (decide (aP len<=8)) 0) (k_ k n s cs len) (ax Z 106 0)) (L (qt false 0) (k_ k n s cs len) (ax Z 106 0))) (L (qt false 0) (k_ k n s cs len) (ax Z 106 0))) (L (qt false 0) (k_ k n s cs len) (ax Z 106 0))) (L (qt false 0) (k_ k n s cs len) (ax Z 106 0)))))):=by kernel_rfl
theorem azp{k n i s cs len ok N L Q}:
 cg Z (O_ N) (λ_=>[1,3,4]) L Q 1000 106 0 (qt ok i) (ax Z 106 0) (k_ k n s cs len)=(
 aw (decide (i<aP len)) (aw ok (∃aJ:Nat,i=(aJ:Int)/\aJ<len/\(∃aN:Int,∃bz:Int,∃cr:LN,∃bP:LV,∃bI:Nat,(cs.drop (aJ*4)).take 4=[J aN,J bz,.ad cr,.ah bP bI 4]/\(aq [] 0=an/\Jd N [J aN,J bz,.ad cr,.ah bP bI 4])/\L (qt (gX iZ [J aN,J bz,.ad cr,.ah bP bI 4]) (wI (i+1))) (k_ k n s cs len) (ax Z 106 0))) (Q (.au ok) an)) (Q (.au ok) an)):=by kernel_rfl
theorem aA1{k n ek s cs len N L Q}:
 bC Z (O' N) (λ_=>[1,2,5,6]) L Q 1000 107 [.ai [J k,J n,.ad s,.ah cs len 4],J ek] an=(
 L (bg [(1,J ek),(2,.aa 0 0),(5,J 1),(6,J 0)]) (k_ k n s cs len) (ax Z 107 0)):=by kernel_rfl
theorem aA2{k n ek m i s cs len N L Q}:
 cg Z (O' N) (λ_=>[1,2,5,6]) L Q 1000 107 0 (bg [(1,J ek),(2,.aa 0 0),(5,J m),(6,J i)]) (ax Z 107 0) (k_ k n s cs len)=(
 aw (decide (i<aP len)) (aw (decide (m<ek)) (∃aJ:Nat,i=(aJ:Int)/\aJ<len/\(∃aN:Int,∃bz:Int,∃cr:LN,∃bP:LV,∃bI:Nat,(cs.drop (aJ*4)).take 4=[J aN,J bz,.ad cr,.ah bP bI 4]/\(aq [] 0=an/\Jd N [J aN,J bz,.ad cr,.ah bP bI 4]/\(1:Int)<=wI (ek-m)/\wI (ek-m)<=2001)/\L (bg [(1,J ek),(2,.aa 0 0),(5,J (wI (m+gX (λt=>min ↑(bM t) (wI (ek-m))) [J aN,J bz,.ad cr,.ah bP bI 4]))),(6,J (wI (i+1)))]) (k_ k n s cs len) (ax Z 107 0))) (Q (J m) an)) (Q (J m) an)):=by kernel_rfl
theorem az6{k n s cs len L Q}:
 bC Z B6 (λ_=>[]) L Q 1000 69 [.ai [J k,J n,.ad s,.ah cs len 4]] an=(
 (aq [] 0=an/\kA [J k,J n,.ad s,.ah cs len 4]/\(1:Int)<=2001/\(2001:Int)<=2001)/\Q (J (gX (λt=>min ↑(bM t) 2001) [J k,J n,.ad s,.ah cs len 4])) an):=by kernel_rfl
theorem aAZ{k n s cs len L Q}:
 bC Z B7 (λ_=>[]) L Q 1000 43 [.ai [J k,J n,.ad s,.ah cs len 4]] an=(
 (aq [] 0=an/\kA [J k,J n,.ad s,.ah cs len 4])/\aw (decide (gX cW [J k,J n,.ad s,.ah cs len 4]<=2000)) ((aq [] 0=an/\kA [J k,J n,.ad s,.ah cs len 4])/\Q (.au (gX iZ [J k,J n,.ad s,.ah cs len 4])) an) (Q (.au false) an)):=by kernel_rfl
theorem aBv{k n s cs len L Q}:
 bC Z B8 (λ_=>[]) L Q 1000 66 [.ai [J k,J n,.ad s,.ah cs len 4]] an=(
 (aq [] 0=an/\kA [J k,J n,.ad s,.ah cs len 4])/\aw (decide (gX cW [J k,J n,.ad s,.ah cs len 4]<=2000)) ((aq [] 0=an/\kA [J k,J n,.ad s,.ah cs len 4])/\Q (.au (gX iZ [J k,J n,.ad s,.ah cs len 4])) an) (Q (.au false) an)):=by kernel_rfl
theorem adQ:aS Z B1:=by
 refine awI alp apN ?_;intro args H p v H' h hp;unfold aoI at h;split at h
 .split at h;next cells H left _ h0=>cases h;obtain⟨rfl,hl,t,rfl,ho⟩:=hp;exact⟨bM t+1,_,rfl,rfl,hl,t,rfl,ho,by omega⟩
  .cases h
 .cases h
theorem adY:aS Z B2:=by
 refine jG adQ λargs q v h hq=>?_
 unfold TZ at h;split at h
 .cases h;obtain⟨⟨k,n,s,l⟩,rfl,ho⟩:=hq;refine eS adQ (λ_=>[]) 11 ?_;rw[aU,aBw];refine⟨⟨rfl,⟨by omega,by omega⟩,lV ho⟩,?_⟩;have h1:=aoJ 2001 (.mk k n s l) (by omega);rw[jb,jb,h1,cH];refine⟨?_,rfl⟩;simp only[cW];congr 1;omega
 .cases h
theorem ad4:aS Z B3:=by
 refine jG adY λargs q v h hq=>?_
 unfold alr at h;split at h
 .cases h;refine eE 77 adY azm ?_
  (repeat' (refine aD (λ_=>?_) λ_=>?_))
  all_goals
   refine⟨?_,rfl⟩;congr 1
   (rw[sc];simp_all[zD,om]<;>(try intros)<;>omega)
 .cases h
theorem aBs{k n s l N aI}(hS:aS Z (O9 N))(hl:dk l.length)(ho:fK l)(hN:bN l<N):
 ∀i:Nat,(i<=l.length/\qn (l.drop i)=aI)->
 bu Z 70 21 0 (.au aI) an (bg [(1,.aa 0 0),(3,J (i:Int))])
  (k_ k n s (aH l) l.length) (ax Z 70 0):=by
 refine dF (λi=>l.length-i) _ _ _ _ ?_;rintro i ⟨hi,hf⟩ ih;refine hE hS aBu ?_;refine aD (λay=>?_) λbq=>?_
 .have ay:i<l.length:=by simpa using ay
  rw[fV ay,qn]at hf;obtain⟨k',n',s',l',hf,-,b_,aZ,cx⟩:=wQ ay ho hN (P:=λu=>(iZ u&&qn (l.drop (i+1)))=aI) hf;refine⟨i,rfl,ay,k',n',s',_,_,b_,⟨rfl,aaM aZ cx⟩,?_⟩;rw[jb,kU hl ay];refine aD (λh=>?_) λh=>?_
  .simp at h;rw[h]at hf;exact⟨by rw[<-hf];rfl,rfl⟩
  .simp at h;rw[h,r7]at hf;exact ih (i+1) ⟨by omega,hf⟩ (by omega)
 .have bq:l.length<=i:=by simpa using bq
  rw[gR bq,qn]at hf;subst hf;exact⟨rfl,rfl⟩
theorem ad6:aS Z B4:=by
 refine Tx ad4 (sN:=Dt) (Ty ad4 ?_ ?_) ?_
 .intro args q v h;unfold Dt at h;split at h<;>cases h;rintro⟨t,_,_,h⟩;omega
 .intro N hS args q v h hq;unfold Dt at h;split at h<;>cases h;obtain⟨⟨k,n,s,l⟩,rfl,aZ,cx⟩:=hq;refine eS hS (λ_=>[1,3]) 21 ?_;simp only[bM]at cx;rw[BZ,aU];have:= @aBt k n s (aH l) l.length N;rw[O9]at this;rw[this];refine⟨⟨rfl,trivial⟩,aD (λh=>?_) λh=>?_⟩
  .simp at h;exact⟨by rw[iZ,h];rfl,rfl⟩
  .simp at h;exact aBs hS aZ.2.1 aZ.2.2 (by omega) 0 ⟨by omega,by rw[iZ,h];rfl⟩
 .intro args q v h hq;unfold S4 at h;split at h<;>cases h;obtain⟨t,rfl,ho⟩:=hq;exact⟨bM t+1,_,rfl,t,rfl,ho,by omega⟩
theorem aby{k n s len}:zD k n s len=true->len<=8:=by
 unfold zD;split
 .simp;omega
 .split
  .simp;omega
  .split
   .simp;omega
   .split
    .simp
    .simp
theorem azn{k n s l N aI}(hS:aS Z (O_ N))(hl:dk l.length)(ho:fK l)(hN:bN l<N):
 ∀p:Nat×Bool,(p.1<=l.length/\(p.2&&qn (l.drop p.1))=aI)->
 bu Z 106 96 0 (.au aI) an (qt p.2 (p.1:Int))
  (k_ k n s (aH l) l.length) (ax Z 106 0):=by
 refine dF (λp=>l.length-p.1) _ _ _ _ ?_;rintro⟨i,ok⟩ ⟨hi,hf⟩ ih;simp only at hi hf ih⊢;refine hE hS azp ?_;refine aD (λay=>?_) λbq=>?_
 .have ay:i<l.length:=by simpa using ay
  refine aD (λh=>?_) λh=>?_
  .subst h;rw[fV ay,qn,r7]at hf;obtain⟨k',n',s',l',hf,-,b_,aZ,cx⟩:=wQ ay ho hN (P:=λu=>(iZ u&&qn (l.drop (i+1)))=aI) hf;refine⟨i,rfl,ay,k',n',s',_,_,b_,⟨rfl,aaM aZ cx⟩,?_⟩;rw[jb,kU hl ay];exact ih (i+1,_) ⟨by simp;omega,hf⟩ (by simp;omega)
  .subst h;rw[sZ]at hf;subst hf;exact⟨rfl,rfl⟩
 .have bq:l.length<=i:=by simpa using bq
  rw[gR bq,qn,Bt]at hf;subst hf;exact⟨rfl,rfl⟩
theorem ad7:aS Z B5:=by
 refine Tx ad6 (sN:=Dt) (Ty ad6 ?_ ?_) ?_
 .intro args q v h;unfold Dt at h;split at h<;>cases h;rintro⟨t,_,_,h⟩;omega
 .intro N hS args q v h hq;unfold Dt at h;split at h<;>cases h;obtain⟨⟨k,n,s,l⟩,rfl,aZ,cx⟩:=hq;refine eS hS (λ_=>[1,3,4]) 96 ?_;simp only[bM]at cx;rw[BZ,aU];have:= @azo k n s (aH l) l.length N;rw[O_]at this;rw[this];have key:∀b:Bool,b=zD k n s l.length->bu Z 106 96 0 (.au (iZ (.mk k n s l))) an (qt b 0)
   (k_ k n s (aH l) l.length) (ax Z 106 0):=by
   rintro b rfl;exact azn hS aZ.2.1 aZ.2.2 (by omega) (0,_) ⟨by simp,by rw[iZ];rfl⟩
  (repeat' (refine aD (λ_=>?_) λ_=>?_))
  all_goals
   refine key _ ?_
   (rw[sc];simp_all[zD,om]<;>(try intros)<;>omega)
 .intro args q v h hq;unfold S4 at h;split at h<;>cases h;obtain⟨t,rfl,ho⟩:=hq;exact⟨bM t+1,_,rfl,t,rfl,ho,by omega⟩
theorem aA0{k n ek s l N aI}(hS:aS Z (O' N))(hm1:1<=ek)(hm2:ek<=2001)(hl:dk l.length)(ho:fK l)(hN:bN l<N):
 ∀p:Nat×Int,(p.1<=l.length/\1<=p.2/\p.2<=ek/\min (p.2+bN (l.drop p.1)) ek=aI)->
 bu Z 107 31 0 (J aI) an (bg [(1,J ek),(2,.aa 0 0),(5,J p.2),(6,J (p.1:Int))])
  (k_ k n s (aH l) l.length) (ax Z 107 0):=by
 refine dF (λp=>l.length-p.1) _ _ _ _ ?_;rintro⟨i,m⟩ ⟨hi,h1,h2,hf⟩ ih;refine hE hS aA2 ?_;refine aD (λay=>?_) λbq=>?_
 .have ay:i<l.length:=by simpa using ay
  refine aD (λh=>?_) λh=>?_
  .have h:m<ek:=by simpa using h
   rw[fV ay,bN]at hf;obtain⟨k',n',s',l',hf,-,b_,aZ,cx⟩:=wQ ay ho hN (P:=λu=>min (m+((bM u+bN (l.drop (i+1)):Nat):Int)) ek=aI) hf;refine⟨i,rfl,ay,k',n',s',_,_,b_,⟨rfl,aaM aZ cx,?_,?_⟩,?_⟩
   .rw[cH];omega
   .rw[cH];omega
   .rw[jb,kU hl ay,cH (x:=ek-m),cH];exact ih (i+1,_) ⟨by simp;omega,by simp only;omega,by simp only;omega,by simp only;omega⟩ (by simp;omega)
  .have h:ek<=m:=by simpa using h
   have:aI=m:=by omega
   subst this;exact⟨rfl,rfl⟩
 .have bq:l.length<=i:=by simpa using bq
  rw[gR bq,bN]at hf;have:aI=m:=by omega
  subst this;exact⟨rfl,rfl⟩
theorem ad8:aS Z B6:=by
 refine Tx ad7 (sN:=Qq) (Ty ad7 ?_ ?_) ?_
 .intro args q v h;unfold Qq at h;split at h<;>cases h;rintro⟨⟨t,_,_,h⟩,_⟩;omega
 .intro N hS args q v h hq;unfold Qq at h;split at h<;>cases h;obtain⟨⟨⟨k,n,s,l⟩,rfl,aZ,cx⟩,h1,h2⟩:=hq;refine eS hS (λ_=>[1,2,5,6]) 31 ?_;simp only[bM]at cx;rw[BZ,aU];have:=λek=> @aA1 k n ek s (aH l) l.length N
  rw[O']at this;rw[this];exact aA0 hS h1 h2 aZ.2.1 aZ.2.2 (by omega) (0,1) ⟨by simp,by simp,by simpa using h1,by simp only[bM,ye];omega⟩
 .intro args q v h hq;unfold agB at h;split at h<;>cases h;obtain⟨⟨t,rfl,ho⟩,h1⟩:=hq;exact⟨bM t+1,_,rfl,⟨t,rfl,ho,by omega⟩,h1⟩
theorem ad9:aS Z B7:=by
 refine jG ad8 λargs q v h hq=>?_
 unfold TZ at h;split at h<;>cases h;obtain⟨⟨k,n,s,l⟩,rfl,ho⟩:=hq;refine eS ad8 (λ_=>[]) 5 ?_;rw[aU,az6];refine⟨⟨rfl,lV ho,by omega,by omega⟩,?_⟩;rw[jb,jb];exact⟨rfl,rfl⟩
theorem aox(t):fv t=(decide (cW t<=2000)&&iZ t):=by
 have:decide (cW t<=2000)=decide (bM t<=2000):=by
  have:cW t<=2000↔bM t<=2000:=by unfold cW;omega
  simp only[this]
 rw[this];rfl
theorem aea:aS Z B8:=by
 refine jG ad9 λargs q v h hq=>?_
 unfold U6 at h;split at h<;>cases h;obtain⟨⟨k,n,s,l⟩,rfl,ho⟩:=hq;refine eS ad9 (λ_=>[]) 10 ?_;rw[aU,aAZ,jb,jb,jb,aox];refine⟨⟨rfl,lV ho⟩,aD (λh=>?_) λh=>?_⟩
 .rw[h];exact⟨⟨rfl,lV ho⟩,rfl,rfl⟩
 .rw[h];exact⟨rfl,rfl⟩
theorem aeb:aS Z B9:=by
 refine jG aea λargs q v h hq=>?_
 unfold U6 at h;split at h<;>cases h;obtain⟨⟨k,n,s,l⟩,rfl,ho⟩:=hq;refine eS aea (λ_=>[]) 10 ?_;rw[aU,aBv,jb,jb,jb,aox];refine⟨⟨rfl,lV ho⟩,aD (λh=>?_) λh=>?_⟩
 .rw[h];exact⟨⟨rfl,lV ho⟩,rfl,rfl⟩
 .rw[h];exact⟨rfl,rfl⟩
end
end Go.Cl
namespace Go.Cl
open Go.Ev
noncomputable section
structure cX where
 cT:LN
 ar:Int
 ao:Int
 deriving DecidableEq,Inhabited
structure qD where
 fM:Int
 aO:cX
 fj:eH
 n7:Int
 deriving Inhabited
abbrev gi:=List qD
structure bG where
 aO:cX
 bL:eH
 ba:gi
 deriving Inhabited
def Qs{α β γ:Type}[Inhabited α](enc:β->γ)(f:β->α)(c:γ):α:=
 @dite _ (∃t,enc t=c) (Classical.propDecidable _) (λh=>f h.choose) (λ_=>default)
theorem agP{α β γ}[Inhabited α]{enc:β->γ}(hi:∀a b,enc a=enc b->a=b)(f:β->α)(t):Qs enc f (enc t)=f t:=by unfold Qs;rw[dif_pos ⟨t,rfl⟩];congr 1;exact hi _ _ (Exists.choose_spec (⟨t,rfl⟩:∃u,enc u=enc t))
def QI(l:eH):LV×Nat:=(aH l,l.length)
theorem asH(l m)(h:QI l=QI m):l=m:=by simp only[QI,JW]at h;exact tB h.2 h.1
def AB{α:Type}[Inhabited α](f:eH->α)(cs:LV)(len:Nat):α:=Qs QI f (cs,len)
theorem Yy{α}[Inhabited α](f:eH->α)(l):AB f (aH l) l.length=f l:=agP asH f l
def M4(cs:LV)(len:Nat):Prop:=∃l,aH l=cs/\l.length=len/\dk l.length/\fK l
theorem aj4{l}(h:dk l.length)(ho:fK l):M4 (aH l) l.length:=⟨l,rfl,rfl,h,ho⟩
def H8(p:cX):LV:=[.ad p.cT,J p.ar,J p.ao]
def vP(g:qD):LV:=[J g.fM,.ad g.aO.cT,J g.aO.ar,J g.aO.ao,.ah (aH g.fj) g.fj.length 4,J g.n7]
def bD:gi->LV
 |[]=>[]
 |g::l=>vP g++bD l
def gP(f:bG):LV:=[.ad f.aO.cT,J f.aO.ar,J f.aO.ao,.ah (aH f.bL) f.bL.length 4,.ah (bD f.ba) f.ba.length 6]
theorem LO(g):(vP g).length=6:=rfl
theorem ahk{g h}(e:vP g=vP h):g=h:=by have⟨k,⟨a,b,c⟩,l,v⟩:=g;have⟨k',⟨a',b',c'⟩,l',v'⟩:=h;simp only[vP,iL,AV.bV.injEq,AV.ad.injEq,AV.ah.injEq,true_and,and_true]at e;obtain⟨rfl,rfl,rfl,rfl,⟨h1,h2⟩,rfl⟩:=e;rw[tB h2 h1]
theorem QG:∀{l m},l.length=m.length->bD l=bD m->l=m
 |[],[],_,_=>rfl
 |[],_::_,h,_=>by simp at h
 |_::_,[],h,_=>by simp at h
 |t::l,u::m,hl,h=>by have h2:=mr h (by rw[LO,LO]);rw[ahk h2.1,QG (by simpa using hl) h2.2]
theorem yY(f g)(e:gP f=gP g):f=g:=by have⟨⟨a,b,c⟩,l,v⟩:=f;have⟨⟨a',b',c'⟩,l',v'⟩:=g;simp only[gP,iL,AV.bV.injEq,AV.ad.injEq,AV.ah.injEq,true_and,and_true]at e;obtain⟨rfl,rfl,rfl,⟨h1,h2⟩,h3,h4⟩:=e;rw[tB h2 h1,QG h4 h3]
def EU{α:Type}[Inhabited α](f:bG->α)(cells:LV):α:=Qs gP f cells
theorem Qt{α}[Inhabited α](f:bG->α)(c):EU f (gP c)=f c:=agP yY f c
def rf(g:qD):Prop:=dk g.aO.cT.length/\dk g.fj.length/\fK g.fj
def ig(f:bG):Prop:=dk f.aO.cT.length/\dk f.bL.length/\fK f.bL/\dk f.ba.length/\∀g∈f.ba,rf g
def Sr(cells:LV):Prop:=∃f,gP f=cells/\ig f
theorem ahl:∀{l i} (h:i<l.length),((bD l).drop (i*6)).take 6=vP l[i]
 |[],i,h=>by simp at h
 |t0::l,0,h=>by simp;exact yh (LO t0)
 |t0::l,i+1,h=>by
  have hl:i<l.length:=by simpa using h
  have:=ahl hl;simp only[bD,DI];rw[<-this];have e:(i+1)*6=(vP t0).length+i*6:=by rw[LO];omega
  rw[e,JR]
def pC(p:cX):Bool:=
 if p.ao=0 then decide (p.cT.length<=100/\0<=p.ar/\p.ar<=8)
 else decide (p.cT.length=0/\1<=p.ao/\p.ao<=1099511627776/\0<=p.ar/\p.ar<=4096)
def vt(v:Int):Bool:=decide (0<=v/\v<=1099511627776)
def EI(g:qD):Bool:=decide (g.aO.cT.length=0/\g.aO.ar=0/\g.aO.ao=0/\g.fj.length=0)
def Fg(rA:Bool)(g:qD):Bool:=
 if g.fM=1 then pC g.aO&&decide ((g.fj.length:Int)=g.aO.ar/\g.n7=0)
 else if g.fM=2 then EI g&&vt g.n7&& !rA
 else if g.fM=3\/g.fM=4 then EI g&&vt g.n7
 else if g.fM=5 then EI g&&decide (g.n7=0)
 else false
def qQ(left:Int)(l:eH):Bool:=l.all fv&&decide ((bN l:Int)<=left)
theorem Fe{left l}:qQ left l=true↔(∀t∈l,fv t=true)/\(bN l:Int)<=left:=by simp only[qQ,dc,mq,DG]
theorem aof(t l):bN (t::l)=bM t+bN l:=rfl
def vY:Bool->Int->gi->Bool
 |_,_,[]=>true
 |rA,left,g::l=>Fg rA g&&qQ left g.fj&&vY (rA||g.fM==1) (left-bN g.fj) l
def jU(f:bG):Bool:=pC f.aO&&decide ((f.bL.length:Int)=f.aO.ar)&&qQ 131072 f.bL&&vY false (131072-bN f.bL) f.ba
def sh:Int->eH->Bool×Int
 |left,[]=>(true,left)
 |left,t::l=>if fv t then(if left-cW t<0 then(false,left-cW t)else sh (left-cW t) l)else(false,left)
theorem aCu{t}(h:fv t=true):cW t=bM t:=by simp only[fv,dc,DG]at h;unfold cW;omega
theorem acy:∀left l,0<=left->(sh left l).1=qQ left l/\(qQ left l=true->(sh left l).2=left-bN l)
 |left,[],h=>by simp[sh,qQ,bN,h]
 |left,t::l,h=>by
  simp only[sh];by_cases hv:fv t=true
  .have hs:=aCu hv;rw[aL hv,hs];split;next ay=>
    have:qQ left (t::l)=false:=by rw[rj,Ne,Fe,aof];omega
    rw[this];simp
   next ay=>
    have ih:=acy (left-bM t) l (by omega);have e:qQ left (t::l)=qQ (left-bM t) l:=by rw[sc,Fe,Fe,aof];simp only[dK,forall_eq_or_imp,hv,true_and];constructor<;>(rintro⟨h1,h2⟩;exact⟨h1,by omega⟩)
    rw[e];refine⟨ih.1,λh=>?_⟩;rw[ih.2 h,bN];omega
  .rw[az hv];have hv:fv t=false:=by simpa using hv
   simp[qQ,hv]
theorem Cx{l i}(h:i<l.length)(ho:∀g∈l,rf g):
 ∃k nm ar ao ls v,l[i]=⟨k,⟨nm,ar,ao⟩,ls,v⟩/\((bD l).drop (i*6)).take 6=[J k,.ad nm,J ar,J ao,.ah (aH ls) ls.length 4,J v]/\rf ⟨k,⟨nm,ar,ao⟩,ls,v⟩:=by
 have b_:=ahl h;have aZ:=ho l[i] (r8 h);generalize l[i]=u at*;have⟨k,⟨nm,ar,ao⟩,ls,v⟩:=u;exact⟨k,nm,ar,ao,ls,v,rfl,b_,aZ⟩
theorem z9{l i}(h:i<l.length)(ho:fK l):
 ∃k n s m,l[i]=.mk k n s m/\((aH l).drop (i*4)).take 4=[J k,J n,.ad s,.ah (aH m) m.length 4]/\bB (.mk k n s m):=by
 have b_:=LS h;have aZ:=Tj h ho;generalize l[i]=u at*;have⟨k,n,s,m⟩:=u;exact⟨k,n,s,m,rfl,b_,aZ⟩
theorem aCt(t):1<=cW t/\cW t<=2001:=by have:=ta t;unfold cW;omega
end
end Go.Cl
namespace Go.Cl
open Go.Ev Go.Proofs
noncomputable section
def Tw:LV->Option (Prop×AV)
 |[.ai [.ad nm,.bV .i64 ar,.bV .i64 ao]]=>some (True,.au (pC ⟨nm,ar,ao⟩))
 |_=>none
def B10:Ev.bp:=fk 119 (fY Tw) B9
abbrev OZ:Ev.bp:=B10
abbrev Ry x0 x1:=aq [(0,.al x0 x1)] 1
def jR(left:Int):AH:=Ry [J left] 3
def amF:LV->AH->Option (Prop×AV×AH)
 |[.aa 0 0,.ah cs len 4],H=>match H.bc 0 with
  |some (.al [.bV .i64 left] _)=>some (H=jR left/\(0<=left/\left<=131072)/\M4 cs len,.au (AB (sh left) cs len).1,jR (AB (sh left) cs len).2)
  |_=>none
 |_,_=>none
def B12:Ev.bp:=fk 120 amF OZ
abbrev O0:Ev.bp:=B12
def aov:LV->Option (Prop×AV)
 |[.ai cells]=>some (Sr cells,.au (EU jU cells))
 |_=>none
def B14:Ev.bp:=fk 84 (fY aov) O0
abbrev B15:Ev.bp:=B14
theorem aA3{nm ar ao L Q}:
 bC Z B9 (λ_=>[]) L Q 1000 119 [.ai [.ad nm,J ar,J ao]] an=(
 aw (ao==0) (aw (decide (aP nm.length<=100)) (aw (decide (ar>=0)) (Q (.au (decide (ar<=8))) an) (Q (.au false) an)) (Q (.au false) an)) (aw (cb nm []) (aw (decide (ao>=1)) (aw (decide (ao<=1099511627776)) (aw (decide (ar>=0)) (Q (.au (decide (ar<=4096))) an) (Q (.au false) an)) (Q (.au false) an)) (Q (.au false) an)) (Q (.au false) an))):=by kernel_rfl
abbrev Uu x0 x1 x2:=bg [(0,.aa 0 0),(7,.ah x0 x1 4),(8,J (aP x1)),(9,J x2)]
theorem aA5{cs len left L Q}:
 bC Z OZ (λ_=>[0,7,8,9]) L Q 1000 120 [.aa 0 0,.ah cs len 4] (jR left)=(
 L (Uu cs len 0) (jR left) (ax Z 120 0)):=by kernel_rfl
theorem aA6{cs len left i L Q}:
 cg Z OZ (λ_=>[0,7,8,9]) L Q 1000 120 1 (Uu cs len i) (ax Z 120 0) (jR left)=(
 aw (decide (i<aP len)) (∃aJ:Nat,i=(aJ:Int)/\aJ<len/\(∃n:Int,∃aN:Int,∃s:LN,∃bP:LV,∃bI:Nat,(cs.drop (aJ*4)).take 4=[J n,J aN,.ad s,.ah bP bI 4]/\(aq [] 0=an/\kA [J n,J aN,.ad s,.ah bP bI 4])/\aw (!gX fv [J n,J aN,.ad s,.ah bP bI 4]) (Q (.au false) (jR left)) ((aq [] 0=an/\kA [J n,J aN,.ad s,.ah bP bI 4])/\some (J left:AV)=some (J left:AV)/\aw (decide (wI (left-gX cW [J n,J aN,.ad s,.ah bP bI 4])<0)) (Q (.au false) (jR (wI (left-gX cW [J n,J aN,.ad s,.ah bP bI 4])))) (L (Uu cs len (wI (i+1))) (jR (wI (left-gX cW [J n,J aN,.ad s,.ah bP bI 4]))) (ax Z 120 0))))) (Q (.au true) (jR left))):=by kernel_rfl
abbrev yw x0 x1 x2 x3:=bg [(3,.aa 0 0),(4,.au x0),(29,.ah x1 x2 6),(30,J (aP x2)),(31,J x3)]
theorem aAr{nm ar ao cs len gs gl L Q}:
 bC Z O0 (λ_=>[3,4,29,30,31]) L Q 1000 84 [.ai [.ad nm,J ar,J ao,.ah cs len 4,.ah gs gl 6]] an=(
 (aq [] 0=an/\True)/\aw (!pC (cX.mk nm ar ao)) (Q (.au false) an) (aw (aP len !=ar) (Q (.au false) an) ((Ry [J 131072] 3=jR 131072/\((0:Int)<=131072/\(131072:Int)<=131072)/\M4 cs len)/\aw (!(AB (sh 131072) cs len).1) (Q (.au false) an) (L (yw false gs gl 0) (jR (AB (sh 131072) cs len).2) (ax Z 84 0))))):=by kernel_rfl
theorem aAs{rA left i gs gl L Q}:
 cg Z O0 (λ_=>[3,4,29,30,31]) L Q 2000 84 0 (yw rA gs gl i) (ax Z 84 0) (jR left)=(
 aw (decide (i<aP gl)) (∃aJ:Nat,i=(aJ:Int)/\aJ<gl/\(∃n:Int,∃s:LN,∃aN:Int,∃bz:Int,∃cs:LV,∃len:Nat,∃ct:Int,(gs.drop (aJ*6)).take 6=[J n,.ad s,J aN,J bz,.ah cs len 4,J ct]/\aw (cb s []&&(aN==0&&(bz==0&&true))) (aw (n==1) ((aq [] 0=an/\True)/\aw (pC (cX.mk s aN bz)) (aw (aP len==aN) (aw (ct==0) ((Ry [J left] 3=jR left/\((0:Int)<=left/\left<=131072)/\M4 cs len)/\aw (!(AB (sh left) cs len).1) (Q (.au false) an) (L (yw true gs gl (wI (i+1))) (jR (AB (sh left) cs len).2) (ax Z 84 0))) (Q (.au false) an)) (Q (.au false) an)) (Q (.au false) an)) (aw (n==2) (aw (aP len==0) (aw (decide (ct>=0)) (aw (decide (ct<=1099511627776)) (aw (!(!rA)) (Q (.au false) an) (L (yw rA gs gl (wI (i+1))) (jR left) (ax Z 84 0))) (Q (.au false) an)) (Q (.au false) an)) (Q (.au false) an)) (aw (n==3) (aw (n==3) (aw (aP len==0) (aw (decide (ct>=0)) (aw (!decide (ct<=1099511627776)) (Q (.au false) an) (L (yw rA gs gl (wI (i+1))) (jR left) (ax Z 84 0))) (Q (.au false) an)) (Q (.au false) an)) (aw (n==5) (aw (aP len==0) (aw (!(ct==0)) (Q (.au false) an) (L (yw rA gs gl (wI (i+1))) (jR left) (ax Z 84 0))) (Q (.au false) an)) (Q (.au false) an))) (aw (n==4) (aw (aP len==0) (aw (decide (ct>=0)) (aw (!decide (ct<=1099511627776)) (Q (.au false) an) (L (yw rA gs gl (wI (i+1))) (jR left) (ax Z 84 0))) (Q (.au false) an)) (Q (.au false) an)) (aw (n==5) (aw (aP len==0) (aw (!(ct==0)) (Q (.au false) an) (L (yw rA gs gl (wI (i+1))) (jR left) (ax Z 84 0))) (Q (.au false) an)) (Q (.au false) an)))))) (aw (n==1) ((aq [] 0=an/\True)/\aw (pC (cX.mk s aN bz)) (aw (aP len==aN) (aw (ct==0) ((Ry [J left] 3=jR left/\((0:Int)<=left/\left<=131072)/\M4 cs len)/\aw (!(AB (sh left) cs len).1) (Q (.au false) an) (L (yw true gs gl (wI (i+1))) (jR (AB (sh left) cs len).2) (ax Z 84 0))) (Q (.au false) an)) (Q (.au false) an)) (Q (.au false) an)) (aw (n==2) (Q (.au false) an) (aw (n==3) (aw (n==3) (Q (.au false) an) (aw (n==5) (Q (.au false) an) (Q (.au false) an))) (aw (n==4) (Q (.au false) an) (aw (n==5) (Q (.au false) an) (Q (.au false) an)))))))) (Q (.au true) an)):=by kernel_rfl
theorem ao1:aS Z B10:=by
 refine jG aeb λargs q v h hq=>?_
 unfold Tw at h;split at h<;>cases h;refine eE 43 aeb aA3 ?_
 (repeat' (refine aD (λ_=>?_) λ_=>?_))
 all_goals
  refine⟨?_,rfl⟩;congr 1
  (rw[sc];simp_all[pC,om]<;>(try intros)<;>omega)
theorem Vj:aS Z OZ:=ao1
theorem aA4{l aI}(hl:dk l.length)(ho:fK l):
 ∀p:Nat×Int,(p.1<=l.length/\0<=p.2/\p.2<=131072/\sh p.2 (l.drop p.1)=aI)->
 bu Z 120 28 1 (.au aI.1) (jR aI.2) (Uu (aH l) l.length (p.1:Int)) (jR p.2) (ax Z 120 0):=by
 refine dF (λp=>l.length-p.1) _ _ _ _ ?_;rintro⟨i,left⟩ ⟨hi,h0,h1,hf⟩ ih;refine hE Vj aA6 ?_;refine aD (λay=>?_) λbq=>?_
 .have ay:i<l.length:=by simpa using ay
  have⟨k,n,s,m,he,b_,aZ⟩:=z9 ay ho;rw[fV ay,he,sh]at hf;have hs:=aCt (.mk k n s m);refine⟨i,rfl,ay,k,n,s,_,_,b_,⟨rfl,lV aZ⟩,?_⟩;rw[jb,jb,kU hl ay,cH];refine aD (λh=>?_) λh=>?_
  .have h:¬fv (.mk k n s m)=true:=by simpa using h
   rw[az h]at hf;subst hf;exact⟨rfl,rfl⟩
  .have h:fv (.mk k n s m)=true:=by simpa using h
   rw[aL h]at hf;refine⟨⟨rfl,lV aZ⟩,rfl,aD (λh=>?_) λh=>?_⟩
   .rw[aL (by simpa using h)]at hf;subst hf;exact⟨rfl,rfl⟩
   .have h:¬left-cW (.mk k n s m)<0:=by simpa using h
    rw[az h]at hf;exact ih (i+1,_) ⟨by simp;omega,by simp only;omega,by simp only;omega,hf⟩ (by simp;omega)
 .have bq:l.length<=i:=by simpa using bq
  rw[gR bq,sh]at hf;subst hf;exact⟨rfl,rfl⟩
theorem ao2:aS Z B12:=by
 refine EH Vj λargs H p v H' h hp=>?_
 unfold amF at h;split at h
 .split at h<;>cases h;obtain⟨rfl,⟨h0,h1⟩,l,rfl,rfl,hl,ho⟩:=hp;refine eS Vj (λ_=>[0,7,8,9]) 28 ?_;rw[aA5,Yy];exact aA4 hl ho (0,_) ⟨by simp,h0,h1,rfl⟩
 .cases h
theorem Vk:aS Z O0:=ao2
theorem atp{left l}(h:0<=left)(hl:l.length=0):qQ left l=true/\(bN l:Int)=0:=by have:=sX.1 hl;subst this;exact⟨Fe.2 ⟨by simp,by simpa[bN]using h⟩,by simp[bN]⟩
theorem ahW{left l}(h:qQ left l=true):0<=left-bN l:=by have:=(Fe.1 h).2;omega
theorem aAq{l aI}(hl:dk l.length)(ho:∀g∈l,rf g):
 ∀p:Nat×Bool×Int,(p.1<=l.length/\0<=p.2.2/\p.2.2<=131072/\vY p.2.1 p.2.2 (l.drop p.1)=aI)->
 bu Z 84 113 0 (.au aI) an (yw p.2.1 (bD l) l.length (p.1:Int)) (jR p.2.2) (ax Z 84 0):=by
 refine dF (λp=>l.length-p.1) _ _ _ _ ?_;rintro⟨i,rA,left⟩ ⟨hi,h0,h1,hf⟩ ih;simp only at hi h0 h1 hf ih⊢;refine hT Vk 2000 (λ_=>[3,4,29,30,31]) ?_;rw[aAs];refine aD (λay=>?_) λbq=>?_
 .have ay:i<l.length:=by simpa using ay
  obtain⟨k,nm,ar,ao,ls,v,he,b_,aZ⟩:=Cx ay ho;rw[fV ay,he,vY]at hf;simp only at hf;refine⟨i,rfl,ay,k,nm,ar,ao,_,_,v,b_,?_⟩;rw[kU hl ay];have xX:(Fg rA ⟨k,⟨nm,ar,ao⟩,ls,v⟩=false\/qQ left ls=false)->fJ (.au aI) an (.au false) (aq [] 0):=by
   rintro(h|h)
   .rw[h]at hf;simp at hf;exact⟨by rw[hf],rfl⟩
   .rw[h]at hf;simp at hf;exact⟨by rw[hf],rfl⟩
  have Jf:∀c' lr,Fg rA ⟨k,⟨nm,ar,ao⟩,ls,v⟩=true->qQ left ls=true->c'=(rA||k==1)->lr=left-bN ls->
   bu Z 84 113 0 (.au aI) an (yw c' (bD l) l.length ((i+1:Nat):Int)) (jR lr) (ax Z 84 0):=by
   rintro _ _ h2 h3 rfl rfl;rw[h2,h3,r7,r7]at hf;have:=ahW h3;exact ih (i+1,_,_) ⟨by simp;omega,this,by simp only;omega,hf⟩ (by simp;omega)
  have hr:=acy left ls h0;have CW:=λh=>atp (l:=ls) h0 h
  have A_:=aj4 aZ.2.1 aZ.2.2;rw[Yy,hr.1];clear ih hf b_ he ay hi hl ho aZ;repeat' first
   |refine aD (λ_=>?_) λ_=>?_
   |refine⟨⟨rfl,trivial⟩,?_⟩
   |refine⟨⟨rfl,⟨h0,h1⟩,A_⟩,?_⟩
   |fail
  all_goals first
   |(refine xX ?_;clear xX Jf hr A_;simp_all[Fg,EI,vt,om];done)
   |(refine xX ?_;clear xX Jf hr A_;left;simp_all[Fg,EI,vt,om]<;>(try intros)<;>omega)
   |(refine xX ?_;clear xX Jf hr A_;left;simp_all[Fg,EI,vt,om]<;>(try intros)<;>simp_all;done)
   |(refine Jf _ _ ?_ ?_ ?_ ?_<;>clear xX Jf<;>simp_all[Fg,EI,vt,om]<;>omega)
   |(exfalso;clear xX Jf hr A_ CW;simp_all;done)
 .have bq:l.length<=i:=by simpa using bq
  rw[gR bq,vY]at hf;subst hf;exact⟨rfl,rfl⟩
theorem ao3:aS Z B14:=by
 refine jG Vk λargs q v h hq=>?_
 unfold aov at h;split at h<;>cases h;obtain⟨⟨⟨nm,ar,ao⟩,ls,gs⟩,rfl,ho⟩:=hq;refine eS Vk (λ_=>[3,4,29,30,31]) 113 ?_;rw[Qt,gP,aAr,Yy];have hr:=acy 131072 ls (by omega);have A_:=aj4 ho.2.1 ho.2.2.1;rw[hr.1];refine⟨⟨rfl,trivial⟩,?_⟩;simp only[jU];refine aD (λh1=>?_) λh1=>?_
 .have h1:pC ⟨nm,ar,ao⟩=false:=by simpa using h1
  rw[h1];exact⟨rfl,rfl⟩
 .have h1:pC ⟨nm,ar,ao⟩=true:=by simpa using h1
  refine aD (λh2=>?_) λh2=>?_
  .have h2:¬((ls.length:Int)=ar):=by simpa using h2
   rw[h1,decide_eq_false h2];exact⟨rfl,rfl⟩
  .have h2:(ls.length:Int)=ar:=by simpa using h2
   refine⟨⟨rfl,⟨by omega,by omega⟩,A_⟩,aD (λh3=>?_) λh3=>?_⟩
   .have h3:qQ 131072 ls=false:=by simpa using h3
    rw[h1,h3];exact⟨by simp,rfl⟩
   .have h3:qQ 131072 ls=true:=by simpa using h3
    rw[h1,h3,decide_eq_true h2,hr.2 h3];have:=ahW h3;exact aAq ho.2.2.2.1 ho.2.2.2.2 (0,false,_) ⟨by simp,this,by simp only;omega,by simp⟩
theorem ao4:aS Z B15:=ao3
def fh:List (Nat×LN)->Nat->LN
 |[],_=>[]
 |(a,l)::m,r=>bif Nat.beq a r then l else fh m r
abbrev Vl:Ev.bp:=B15
def fH(nm:LN)(ar ao:Int)(cs:LV)(len:Nat)(gs:LV)(gl:Nat):AH:=aq [(0,.al [.ad nm,J ar,J ao,.ah cs len 4,.ah gs gl 6] 106)] 1
section
variable{nm:LN}{ar ao:Int}{ls:eH}{gs:gi}
end
theorem Vm:aS Z Vl:=ao4
section awX
variable{β:Type}(ev:β->AV)
def bO:Nat->List (Int×β)->List (AV×AV×Nat)
 |_,[]=>[]
 |b,(k,v)::l=>(J k,ev v,b)::bO (b+1) l
def lk(k:Int):List (Int×β)->Option β
 |[]=>none
 |(x,v)::l=>if k=x then some v else lk k l
def up(k:Int)(v:β):List (Int×β)->List (Int×β)
 |[]=>[(k,v)]
 |(x,w)::l=>if k=x then(k,v)::l else(x,w)::up k v l
def ix(k:Int):List (Int×β)->Option Nat
 |[]=>none
 |(x,v)::l=>if k=x then some 0 else(ix k l).map (· +1)
theorem SG(k v j):∀l:List (Int×β),lk j (up k v l)=if j=k then some v else lk j l
 |[]=>by simp only[up,lk]
 |(x,w)::l=>by
  simp only[up];by_cases h:k=x
  .subst h;rw[aL rfl];simp only[lk];split<;>rfl
  .rw[az h];simp only[lk];by_cases h2:j=x
   .subst h2;rw[aL rfl,aL rfl,az (λe=>h e.symm)]
   .rw[az h2,az h2,SG k v j l]
def KG(P:Program)(kt:TypeId):Prop:=∀a b:Int,iB P 100 kt (J a) (J b)=some (a==b)
variable{P:Program}{kt:TypeId}
theorem Y6(hk:KG P kt)(k):∀l b j,
 oJ (iB P 100 kt) (J k) (bO ev b l) j=some (match ix k l,lk k l with|some i,some v=>some (j+i,ev v,b+i)|_,_=>none)
 |[],b,j=>rfl
 |(x,v)::l,b,j=>by
  simp only[bO,oJ,hk k x,ix,lk];by_cases h:k=x
  .subst h;simp
  .have:(k==x)=false:=by simpa using h
   rw[this,az h,az h];rw[Y6 hk k l (b+1) (j+1)];cases ix k l<;>cases lk k l<;>simp[Gl,Nat.add_comm 1]
theorem Sv{k}:∀{l:List (Int×β)},ix k l=none->lk k l=none/\∀v,up k v l=l++[(k,v)]
 |[],_=>⟨rfl,λ_=>rfl⟩
 |(x,w)::l,h=>by
  simp only[ix]at h;split at h
  .cases h
  next hx=>have:=Sv (by simpa using h);simp only[lk,up,az hx,this.1,true_and];intro v;rw[this.2 v];rfl
theorem ahf:∀l m b,bO ev b (l++m)=bO ev b l++bO ev (b+l.length) m
 |[],m,b=>rfl
 |(x,w)::l,m,b=>by simp only[oC,bO,ahf l m (b+1),ei];congr 3;omega
theorem aaO{k}:∀{l i},ix k l=some i->∀b,(∃v,lk k l=some v)/\yo (bO ev b l) i (J k)=true/\
 (∀v,pH (bO ev b l) i (λe=>(J k,ev v,e.2.2))=bO ev b (up k v l))/\∀v,(up k v l).length=l.length
 |[],_,h,_=>by cases h
 |(x,w)::l,i,h,b=>by
  simp only[ix]at h;split at h;next hx=>cases h;subst hx;refine⟨⟨w,by simp[lk]⟩,?_,λv=>by simp[up,bO,pH],λv=>by simp[up]⟩;simp[yo,bO,Ib,Ic]
  next hx=>
   obtain⟨i',h',rfl⟩:=DJ.1 h;have⟨⟨v,h1⟩,h2,h3,h4⟩:=aaO h' (b+1);refine⟨⟨v,by simp[lk,hx,h1]⟩,?_,λv=>?_,λv=>by simp[up,hx,h4]⟩
   .simpa[yo,bO]using h2
   .simp only[up,az hx,bO,pH,h3]
theorem pv(hk:KG P kt){e k l b}:
 eZ P kt e (bO ev b l) (J k)=(match lk k l with|some v=>some (ev v,true)|none=>(kb P e).map (·,false)):=by
 unfold eZ;rw[Y6 ev hk k l b 0];cases hi:ix k l with
 |none=>rw[(Sv hi).1]
 |some i=>have⟨⟨v,h1⟩,_⟩:=aaO ev hi 0;rw[h1]
theorem pG(hk:KG P kt){k l v}:
 j9 P kt (bO ev 0 l) l.length (J k) (ev v)=some (bO ev 0 (up k v l),(up k v l).length):=by
 unfold j9;rw[Y6 ev hk k l 0 0];cases hi:ix k l with
 |none=>rw[(Sv hi).1,(Sv hi).2 v,ahf];simp[bO]
 |some i=>have⟨⟨w,h1⟩,h2,h3,h4⟩:=aaO ev hi 0;rw[h1];simp only[kD,h2,cond_true,h3,h4]
end awX
theorem jy:KG Z 2:=λa b=>by kernel_rfl
theorem Ie:KG Z 3:=λa b=>by kernel_rfl
theorem GQ:kb Z 3=some (J 0):=by kernel_rfl
theorem adJ:kb Z 4=some (.au false):=by kernel_rfl
def vB(b:Bool):AV:=.au b
theorem sE{β ev}(he:∀a b,ev a=ev b->a=b):∀{l m:List (Int×β)} {b},bO ev b l=bO ev b m->l=m
 |[],[],_,_=>rfl
 |[],_::_,_,h=>by cases h
 |_::_,[],_,h=>by cases h
 |(k,v)::l,(k',v')::m,b,h=>by simp only[bO,iL,JW,AV.bV.injEq,true_and,and_true]at h;obtain⟨⟨rfl,h1⟩,h2⟩:=h;rw[he _ _ h1,sE he h2]
theorem yx(a b)(h:J a=J b):a=b:=by cases h;rfl
theorem aos(a b)(h:vB a=vB b):a=b:=by cases h;rfl
structure eG where
 op:Int
 r:Int
 a:Int
 n:Int
 fx:LN
 ar:Int
 deriving DecidableEq,Inhabited
abbrev iu:=List eG
def dp(i:eG):LV:=[J i.op,J i.r,J i.a,J i.n,.ad i.fx,J i.ar]
def cS:iu->LV
 |[]=>[]
 |i::l=>dp i++cS l
theorem H4{i j}(h:dp i=dp j):i=j:=by have⟨a,b,c,d,e,f⟩:=i;have⟨a',b',c',d',e',f'⟩:=j;obtain⟨rfl,rfl,rfl,rfl,rfl,rfl⟩:=h;rfl
theorem H5(i):(dp i).length=6:=rfl
theorem Cd:∀l:iu,(cS l).length=l.length*6
 |[]=>rfl
 |i::l=>by simp[cS,H5,Cd l];omega
theorem H6:∀{l m},cS l=cS m->l=m
 |[],[],_=>rfl
 |[],i::_,h=>by simp[cS,dp]at h
 |i::_,[],h=>by simp[cS,dp]at h
 |t::l,u::m,h=>by have h2:=mr h (by rw[H5,H5]);rw[H4 h2.1,H6 h2.2]
theorem QH:∀l m,cS (l++m)=cS l++cS m
 |[],m=>rfl
 |i::l,m=>by simp[cS,QH l m]
theorem asF{l i}(h:i<l.length):((cS l).drop (i*6)).take 6=dp l[i]:=by
 induction l generalizing i with
 |nil=>simp at h
 |cons t0 l ih=>
  cases i with
  |zero=>simp;exact yh (H5 t0)
  |succ i=>
   have hl:i<l.length:=by simpa using h
   have:=ih hl;simp only[cS,DI];rw[<-this];have e:(i+1)*6=(dp t0).length+i*6:=by rw[H5];omega
   rw[e,JR]
theorem YO:∀l:iu,(cS l).all AV.cY=true/\(cS l).all eR=true
 |[]=>⟨rfl,rfl⟩
 |i::l=>by have:=YO l;simp only[cS,sY,this.1,this.2,Bt];exact⟨rfl,rfl⟩
structure Em where
 bk:iu
 f:bG
 gJ:LP
 bA:LP
 hJ:LP
 fq:List (Int×Bool)
 c9:Int
 iS:Bool
def bT(m:Em):AH:=aq [
 (0,.al [.aj 1 m.bk.length 6,.ad m.f.aO.cT,J m.f.aO.ar,J m.f.aO.ao,.ah (aH m.f.bL) m.f.bL.length 4,.ah (bD m.f.ba) m.f.ba.length 6,.aB 2,.aB 3,.aB 4,.aB 5,J m.c9,.au m.iS] 162),
 (1,.aA (cS m.bk) 56),(2,.aY (bO J 0 m.gJ) m.gJ.length true),(3,.aY (bO J 0 m.bA) m.bA.length true),(4,.aY (bO J 0 m.hJ) m.hJ.length true),(5,.aY (bO vB 0 m.fq) m.fq.length true)] 6
theorem LL{m m'}(h:bT m=bT m'):m=m':=by have h0:=congrArg (λH=>AH.bc H 0) h;have h1:=congrArg (λH=>AH.bc H 1) h;have h2:=congrArg (λH=>AH.bc H 2) h;have h3:=congrArg (λH=>AH.bc H 3) h;have h4:=congrArg (λH=>AH.bc H 4) h;have h5:=congrArg (λH=>AH.bc H 5) h;have⟨code,⟨⟨a,b,c⟩,l,g⟩,gJ,bA,hJ,fq,next,iS⟩:=m;have⟨Ym,⟨⟨a',b',c'⟩,l',g'⟩,Yr,ab1,adp,aaR,ale,akD⟩:=m';have q0:(some (bf.al [.aj 1 code.length 6,.ad a,J b,J c,.ah (aH l) l.length 4,.ah (bD g) g.length 6,.aB 2,.aB 3,.aB 4,.aB 5,J next,.au iS] 162):Option bf)=some (bf.al [.aj 1 Ym.length 6,.ad a',J b',J c',.ah (aH l') l'.length 4,.ah (bD g') g'.length 6,.aB 2,.aB 3,.aB 4,.aB 5,J ale,.au akD] 162):=h0;have q1:(some (bf.aA (cS code) 56))=some (bf.aA (cS Ym) 56):=h1;have q2:some (bf.aY (bO J 0 gJ) gJ.length true)=some (bf.aY (bO J 0 Yr) Yr.length true):=h2;have q3:some (bf.aY (bO J 0 bA) bA.length true)=some (bf.aY (bO J 0 ab1) ab1.length true):=h3;have q4:some (bf.aY (bO J 0 hJ) hJ.length true)=some (bf.aY (bO J 0 adp) adp.length true):=h4;have q5:some (bf.aY (bO vB 0 fq) fq.length true)=some (bf.aY (bO vB 0 aaR) aaR.length true):=h5;simp at q0;simp at q1 q2 q3 q4 q5;obtain⟨_,rfl,rfl,rfl,⟨k1,k2⟩,⟨k3,k4⟩,rfl,rfl⟩:=q0;rw[H6 q1,tB k2 k1,QG k4 k3,sE yx q2.1,sE yx q3.1,sE yx q4.1,sE aos q5.1]
def j8(m:Em):AH:=aq [
 (0,.al [.aj 6 m.bk.length 6,.ad m.f.aO.cT,J m.f.aO.ar,J m.f.aO.ao,.ah (aH m.f.bL) m.f.bL.length 4,.ah (bD m.f.ba) m.f.ba.length 6,.aB 2,.aB 3,.aB 4,.aB 5,J m.c9,.au m.iS] 162),
 (1,.bm []),(2,.aY (bO J 0 m.gJ) m.gJ.length true),(3,.aY (bO J 0 m.bA) m.bA.length true),(4,.aY (bO J 0 m.hJ) m.hJ.length true),(5,.aY (bO vB 0 m.fq) m.fq.length true),(6,.aA (cS m.bk) 56)] 7
theorem ahh(m):Mv (bT m) (j8 m) 1:=by
 refine⟨⟨cS m.bk,_,by rw[bT,ey];rfl,by show(j8 m).bc 6=_;rw[j8,ey];rfl⟩,by rw[j8,ey];rfl,rfl,?_,rfl⟩;intro id bE h1 h2 h;have h2:id≠6:=h2;rw[j8,ey]at h;rw[bT,ey];simp only[cR]at h⊢;by_cases h3:id=0
 .subst h3;simp at h;subst h;exact⟨_,rfl,by simp[lX,nY,eM,lu,aq,eA]⟩
 .rw[az h3,az h1]at h;rw[az h3,az h1];by_cases h4:id=2
  .subst h4;simp at h;subst h;exact⟨_,rfl,by simp[lX]⟩
  .by_cases h5:id=3
   .subst h5;simp at h;subst h;exact⟨_,rfl,by simp[lX]⟩
   .by_cases h6:id=4
    .subst h6;simp at h;subst h;exact⟨_,rfl,by simp[lX]⟩
    .by_cases h7:id=5
     .subst h7;simp at h;subst h;exact⟨_,rfl,by simp[lX]⟩
     .simp[h4,h5,h6,h7,h2]at h
theorem NM(cs off):cz Z 3 cs off=cs[off]? :=by kernel_rfl
theorem alT(cs off):cz Z 2 cs off=cs[off]? :=by kernel_rfl
def p6(c:iu)(i:eG):iu:=
 if i.op=10 then
  match c.getLast? with
  |some j=>if j.op=10 then c.dropLast++[⟨j.op,j.r,j.a,wI (j.n+i.n),j.fx,j.ar⟩]else c++[i]
  |none=>c++[i]
 else c++[i]
def Em.a_(m:Em)(i:eG):Em:=⟨p6 m.bk i,m.f,m.gJ,m.bA,m.hJ,m.fq,m.c9,m.iS⟩
def ag5:cq (Em×eG)where
 bh w args H:=args=[.aa 0 0,.ai (dp w.2)]/\H=bT w.1/\w.1.bk.length<4194304
 v w:=.aC []
 aK w:=j8 (w.1.a_ w.2)
def Em.ca(m:Em):Em:=⟨m.bk,m.f,m.gJ,m.bA,m.hJ,m.fq,wI (m.c9+1),m.iS||decide (wI (m.c9+1)>4096)⟩
def Qm:cq Em where
 bh m args H:=args=[.aa 0 0]/\H=bT m
 v m:=J m.ca.c9
 aK m:=bT m.ca
theorem asy:ag5.ck:=by rintro⟨m,i⟩ ⟨m',i'⟩ args H ⟨h1,h2,_⟩ ⟨h3,h4,_⟩;rw[h1]at h3;rw[h2]at h4;have:=LL h4;subst this;simp at h3;rw[H4 h3]
theorem arl:Qm.ck:=by rintro m m' args H ⟨_,h2⟩ ⟨_,h4⟩;rw[h2]at h4;rw[LL h4]
def cB(_:LV)(_:AH):Bool:=true
def Vn:Ev.bp:=bR 89 (bW ag5 asy cB) Vl
def Vo:Ev.bp:=bR 158 (bW Qm arl cB) Vn
theorem amW{m i L Q}:
 bC Z Vl (λ_=>[]) L Q 1000 89 [.aa 0 0,.ai (dp i)] (bT m)=(
 aw (i.op==10) (aw (decide (Int.ofNat m.bk.length>0)) (∃aJ:Nat,wI (Int.ofNat m.bk.length-1)=(aJ:Int)/\aJ<m.bk.length/\(∃n:Int,cz Z 3 (cS m.bk) (aJ*6+0)=some (J n:AV)/\aw (n==10) (∃cN:Nat,wI (Int.ofNat m.bk.length-1)=(cN:Int)/\cN<m.bk.length/\(∃aN:Int,cz Z 2 (cS m.bk) (cN*6+3)=some (J aN:AV)/\(∃ew:Nat,wI (Int.ofNat m.bk.length-1)=(ew:Int)/\ew<m.bk.length/\ew*6+3+1<=(cS m.bk).length/\Q (.aC []) (aq [(0,.al [.aj 1 m.bk.length 6,.ad m.f.aO.cT,J m.f.aO.ar,J m.f.aO.ao,.ah (aH m.f.bL) m.f.bL.length 4,.ah (bD m.f.ba) m.f.ba.length 6,.aB 2,.aB 3,.aB 4,.aB 5,J m.c9,.au m.iS] 162),(1,.aA (gE (cS m.bk) (ew*6+3) [J (wI (aN+i.n))]) 56),(2,.aY (bO J 0 m.gJ) m.gJ.length true),(3,.aY (bO J 0 m.bA) m.bA.length true),(4,.aY (bO J 0 m.hJ) m.hJ.length true),(5,.aY (bO vB 0 m.fq) m.fq.length true)] 6)))) (((cS m.bk).length=m.bk.length*6/\m.bk.length+1<=4194304/\true=true/\true=true)/\Q (.aC []) (aq [(0,.al [.aj 6 (m.bk.length+1) 6,.ad m.f.aO.cT,J m.f.aO.ar,J m.f.aO.ao,.ah (aH m.f.bL) m.f.bL.length 4,.ah (bD m.f.ba) m.f.ba.length 6,.aB 2,.aB 3,.aB 4,.aB 5,J m.c9,.au m.iS] 162),(1,.bm []),(2,.aY (bO J 0 m.gJ) m.gJ.length true),(3,.aY (bO J 0 m.bA) m.bA.length true),(4,.aY (bO J 0 m.hJ) m.hJ.length true),(5,.aY (bO vB 0 m.fq) m.fq.length true),(6,.aA (cS m.bk++dp i) 56)] 7)))) (((cS m.bk).length=m.bk.length*6/\m.bk.length+1<=4194304/\true=true/\true=true)/\Q (.aC []) (aq [(0,.al [.aj 6 (m.bk.length+1) 6,.ad m.f.aO.cT,J m.f.aO.ar,J m.f.aO.ao,.ah (aH m.f.bL) m.f.bL.length 4,.ah (bD m.f.ba) m.f.ba.length 6,.aB 2,.aB 3,.aB 4,.aB 5,J m.c9,.au m.iS] 162),(1,.bm []),(2,.aY (bO J 0 m.gJ) m.gJ.length true),(3,.aY (bO J 0 m.bA) m.bA.length true),(4,.aY (bO J 0 m.hJ) m.hJ.length true),(5,.aY (bO vB 0 m.fq) m.fq.length true),(6,.aA (cS m.bk++dp i) 56)] 7))) (((cS m.bk).length=m.bk.length*6/\m.bk.length+1<=4194304/\true=true/\true=true)/\Q (.aC []) (aq [(0,.al [.aj 6 (m.bk.length+1) 6,.ad m.f.aO.cT,J m.f.aO.ar,J m.f.aO.ao,.ah (aH m.f.bL) m.f.bL.length 4,.ah (bD m.f.ba) m.f.ba.length 6,.aB 2,.aB 3,.aB 4,.aB 5,J m.c9,.au m.iS] 162),(1,.bm []),(2,.aY (bO J 0 m.gJ) m.gJ.length true),(3,.aY (bO J 0 m.bA) m.bA.length true),(4,.aY (bO J 0 m.hJ) m.hJ.length true),(5,.aY (bO vB 0 m.fq) m.fq.length true),(6,.aA (cS m.bk++dp i) 56)] 7))):=by kernel_rfl
theorem ayY{m L Q}:
 bC Z Vn (λ_=>[]) L Q 1000 158 [.aa 0 0] (bT m)=(
 aw (decide (wI (m.c9+1)>4096)) (Q (J (wI (m.c9+1))) (aq [(0,.al [.aj 1 m.bk.length 6,.ad m.f.aO.cT,J m.f.aO.ar,J m.f.aO.ao,.ah (aH m.f.bL) m.f.bL.length 4,.ah (bD m.f.ba) m.f.ba.length 6,.aB 2,.aB 3,.aB 4,.aB 5,J (wI (m.c9+1)),.au true] 162),(1,.aA (cS m.bk) 56),(2,.aY (bO J 0 m.gJ) m.gJ.length true),(3,.aY (bO J 0 m.bA) m.bA.length true),(4,.aY (bO J 0 m.hJ) m.hJ.length true),(5,.aY (bO vB 0 m.fq) m.fq.length true)] 6)) (Q (J (wI (m.c9+1))) (aq [(0,.al [.aj 1 m.bk.length 6,.ad m.f.aO.cT,J m.f.aO.ar,J m.f.aO.ao,.ah (aH m.f.bL) m.f.bL.length 4,.ah (bD m.f.ba) m.f.ba.length 6,.aB 2,.aB 3,.aB 4,.aB 5,J (wI (m.c9+1)),.au m.iS] 162),(1,.aA (cS m.bk) 56),(2,.aY (bO J 0 m.gJ) m.gJ.length true),(3,.aY (bO J 0 m.bA) m.bA.length true),(4,.aY (bO J 0 m.hJ) m.hJ.length true),(5,.aY (bO vB 0 m.fq) m.fq.length true)] 6))):=by kernel_rfl
theorem ag3{c i}(h:i.op≠10):p6 c i=c++[i]:=by simp[p6,h]
theorem ag4{i}:p6 [] i=[i]:=by simp[p6]
theorem QB{d j i}(h:i.op=10):p6 (d++[j]) i=if j.op=10 then d++[⟨j.op,j.r,j.a,wI (j.n+i.n),j.fx,j.ar⟩]else d++[j]++[i]:=by simp[p6,h]
theorem Cc(c i):(p6 c i).length<=c.length+1:=by
 rcases List.eq_nil_or_concat c with rfl|⟨d,j,rfl⟩
 .simp[ag4]
 .by_cases h:i.op=10
  .rw[List.concat_eq_append,QB h];split<;>simp
  .rw[ag3 h];simp
theorem H7(d j):cS (d++[j])=cS d++dp j:=by rw[QH];simp[cS]
theorem aAO(m i)(hl:m.bk.length<4194304):bX Z 89 [.aa 0 0,.ai (dp i)] (bT m) (.aC []) (j8 (m.a_ i)):=by
 have⟨c,f,gJ,bA,hJ,fq,next,iS⟩:=m;simp only at hl;have b_:=Cd c;have rz:p6 c i=c++[i]->∀x:Prop,x->fJ (.aC []) (j8 (Em.a_ ⟨c,f,gJ,bA,hJ,fq,next,iS⟩ i)) (.aC []) (aq [(0,.al [.aj 6 (c.length+1) 6,.ad f.aO.cT,J f.aO.ar,J f.aO.ao,.ah (aH f.bL) f.bL.length 4,.ah (bD f.ba) f.ba.length 6,.aB 2,.aB 3,.aB 4,.aB 5,J next,.au iS] 162),(1,.bm []),(2,.aY (bO J 0 gJ) gJ.length true),(3,.aY (bO J 0 bA) bA.length true),(4,.aY (bO J 0 hJ) hJ.length true),(5,.aY (bO vB 0 fq) fq.length true),(6,.aA (cS c++dp i) 56)] 7):=by intro h x _;refine⟨rfl,?_⟩;rw[Em.a_,h,j8];simp only[cL,ei,gY,H7]
 by_cases hb:i.op=10/\∃d j,c=d++[j]/\j.op=10
 .obtain⟨hi,d,j,rfl,hj⟩:=hb;refine E_ (v:=.aC []) ?_ (ahh _) (by simp[eM,nY]) (cE _);refine eE 53 Vm amW ?_;have bS:(d++[j]).length=d.length+1:=by simp
  have e1:wI (Int.ofNat (d++[j]).length-1)=((d.length:Nat):Int):=by rw[bS]at hl⊢;rw[cH (by simp only[r6];omega) (by simp;omega)];simp
  have hd:=Cd d;have g0:cz Z 3 (cS (d++[j])) (d.length*6+0)=some (J j.op):=by rw[NM,H7,JN (by omega)];simp[hd,dp]
  have g3:cz Z 2 (cS (d++[j])) (d.length*6+3)=some (J j.n):=by rw[alT,H7,JN (by omega)];simp[hd,dp]
  refine aD (λ_=>aD (λ_=>?_) λh=>?_) λh=>?_
  .refine⟨d.length,e1,by simp,j.op,g0,aD (λ_=>?_) λh=>?_⟩
   .refine⟨d.length,e1,by simp,j.n,g3,d.length,e1,by simp,by rw[b_,bS];omega,rfl,?_⟩;have:cS (p6 (d++[j]) i)=gE (cS (d++[j])) (d.length*6+3) [J (wI (j.n+i.n))]:=by
     rw[QB hi,aL hj,H7,H7];have:dp j=[J j.op,J j.r,J j.a]++[J j.n,.ad j.fx,J j.ar]:=rfl;have e2:cS d++dp j=(cS d++[J j.op,J j.r,J j.a])++[J j.n,.ad j.fx,J j.ar]:=by rw[this,km]
     unfold gE;rw[e2,yh (by simp[hd]),List.drop_append];simp[hd,dp]
    rw[Em.a_,bT];simp only[this];have e3:(p6 (d++[j]) i).length=(d++[j]).length:=by rw[QB hi,aL hj];simp
    rw[e3]
   .simp[hj]at h
  .simp at h
  .simp[hi]at h
 .refine eE 53 Vm amW ?_;simp only;have Z0:((cS c).length=c.length*6)/\(c.length+1<=4194304)/\True/\True:=⟨b_,by omega,trivial,trivial⟩;refine aD (λh=>aD (λh2=>?_) λh2=>?_) λh=>?_
  .have h:i.op=10:=by simpa using h
   rcases List.eq_nil_or_concat c with rfl|⟨d,j,rfl⟩
   .simp at h2
   .rw[List.concat_eq_append]at*;have hj:=λe=>hb ⟨h,d,j,rfl,e⟩
    have bS:(d++[j]).length=d.length+1:=by simp
    have e1:wI (Int.ofNat (d++[j]).length-1)=((d.length:Nat):Int):=by rw[bS]at hl⊢;rw[cH (by simp only[r6];omega) (by simp;omega)];simp
    have hd:=Cd d;have g0:cz Z 3 (cS (d++[j])) (d.length*6+0)=some (J j.op):=by rw[NM,H7,JN (by omega)];simp[hd,dp]
    refine⟨d.length,e1,by simp,j.op,g0,aD (λh3=>?_) λ_=>?_⟩
    .exact absurd (by simpa using h3) hj
    .exact⟨Z0,rz (by rw[QB h,az hj]) True trivial⟩
  .have h2:c=[]:=by simpa using h2
   subst h2;exact⟨Z0,rz ag4 True trivial⟩
  .have h:i.op≠10:=by simpa using h
   exact⟨Z0,rz (ag3 h) True trivial⟩
theorem adN:aS Z Vn:=by refine cu Vm ?_;rintro⟨m,i⟩ args H ⟨rfl,rfl,hl⟩;exact aAO m i hl
theorem adO:aS Z Vo:=by
 refine cu adN ?_;rintro m args H ⟨rfl,rfl⟩;refine eE 22 adN ayY ?_;refine aD (λh=>?_) λh=>?_
 .refine⟨rfl,?_⟩;simp only[Qm,Em.ca,bT,h,Bool.or_true]
 .refine⟨rfl,?_⟩;simp only[Qm,Em.ca,bT,h,Bool.or_false]
def Em.y8(m:Em)(v:Int):Bool:=(lk v m.bA).isNone&&(lk v m.hJ).isNone
def Em.mZ(m:Em)(v:Int):Int:=
 match lk v m.bA with
 |some k=>wI (-k)
 |none=>match lk v m.hJ with
  |some r=>r
  |none=>wI (m.c9+1)
def Em.jq(m:Em)(v:Int):Em:=⟨m.bk,m.f,m.gJ,m.bA,bif m.y8 v then up v (wI (m.c9+1)) m.hJ else m.hJ,m.fq,
 bif m.y8 v then wI (m.c9+1)else m.c9,bif m.y8 v then m.iS||decide (wI (m.c9+1)>4096)else m.iS⟩
def acn:cq (Em×Int)where
 bh w args H:=args=[.aa 0 0,J w.2]/\H=bT w.1
 v w:=J (w.1.mZ w.2)
 aK w:=bT (w.1.jq w.2)
theorem ayy:acn.ck:=by rintro⟨m,v⟩ ⟨m',v'⟩ args H ⟨h1,h2⟩ ⟨h3,h4⟩;simp only at h1 h2 h3 h4;rw[h2]at h4;rw[h1]at h3;rw[LL h4];cases h3;rfl
def Em.Be(m:Em)(v:Int):Em:=⟨m.bk,m.f,m.gJ,m.bA,m.hJ,up v true m.fq,m.c9,m.iS⟩
def Em.rM(m:Em)(v:Int):Bool:=(lk v m.fq).getD false
def Em.n8(m:Em)(v first zv a:Int):Em:=((m.jq v).a_ ⟨bif m.rM v then zv else first,m.mZ v,a,0,[],0⟩).Be v
def adB:cq (Em×Int×Int×Int×Int)where
 bh w args H:=args=[.aa 0 0,J w.2.1,J w.2.2.1,J w.2.2.2.1,J w.2.2.2.2]/\H=bT w.1/\w.1.bk.length<4194304
 v w:=.aC []
 aK w:=j8 (w.1.n8 w.2.1 w.2.2.1 w.2.2.2.1 w.2.2.2.2)
theorem aFW:adB.ck:=by rintro⟨m,v,a,b,c⟩ ⟨m',v',a',b',c'⟩ args H ⟨h1,h2,_⟩ ⟨h3,h4,_⟩;simp only at h1 h2 h3 h4;rw[h2]at h4;rw[h1]at h3;rw[LL h4];cases h3;rfl
def Vp:Ev.bp:=bR 159 (bW acn ayy cB) Vo
def Vq:Ev.bp:=bR 155 (bW adB aFW cB) Vp
theorem ayZ{m v L Q}:
 bC Z Vo (λ_=>[]) L Q 1000 159 [.aa 0 0,J v] (bT m)=(
 ∃n b,eZ Z 2 3 (bO J 0 m.bA) (J v)=some (J n,b)/\aw b (Q (J (wI (0-n))) (bT m)) (∃aN gA,eZ Z 2 3 (bO J 0 m.hJ) (J v)=some (J aN,gA)/\aw (!gA) (∃w,(([.aa 0 0]:LV)=[.aa 0 0]/\bT m=bT w)/\(∃bJ c',j9 Z 2 (bO J 0 w.ca.hJ) w.ca.hJ.length (J v) (J w.ca.c9)=some (bJ,c')/\Q (J w.ca.c9) (aq [(0,.al [.aj 1 w.ca.bk.length 6,.ad w.ca.f.aO.cT,J w.ca.f.aO.ar,J w.ca.f.aO.ao,.ah (aH w.ca.f.bL) w.ca.f.bL.length 4,.ah (bD w.ca.f.ba) w.ca.f.ba.length 6,.aB 2,.aB 3,.aB 4,.aB 5,J w.ca.c9,.au w.ca.iS] 162),(1,.aA (cS w.ca.bk) 56),(2,.aY (bO J 0 w.ca.gJ) w.ca.gJ.length true),(3,.aY (bO J 0 w.ca.bA) w.ca.bA.length true),(4,.aY bJ c' true),(5,.aY (bO vB 0 w.ca.fq) w.ca.fq.length true)] 6))) (Q (J aN) (bT m)))):=by kernel_rfl
theorem aBQ{m v first zv a L Q}:
 bC Z Vp (λ_=>[]) L Q 1000 155 [.aa 0 0,J v,J first,J zv,J a] (bT m)=(
 ∃b gA,eZ Z 2 4 (bO vB 0 m.fq) (J v)=some (.au b,gA)/\aw (!b) (∃w:Em×Int,(([.aa 0 0,J v]:LV)=[.aa 0 0,J w.2]/\bT m=bT w.1)/\(∃ae:Em×eG,(([.aa 0 0,.ai [J first,J (w.1.mZ w.2),J a,J 0,.ad [],J 0]]:LV)=[.aa 0 0,.ai (dp ae.2)]/\bT (w.1.jq w.2)=bT ae.1/\ae.1.bk.length<4194304)/\(∃bJ c',j9 Z 2 (bO vB 0 (ae.1.a_ ae.2).fq) (ae.1.a_ ae.2).fq.length (J v) (.au true)=some (bJ,c')/\Q (.aC []) (aq [(0,.al [.aj 6 (ae.1.a_ ae.2).bk.length 6,.ad (ae.1.a_ ae.2).f.aO.cT,J (ae.1.a_ ae.2).f.aO.ar,J (ae.1.a_ ae.2).f.aO.ao,.ah (aH (ae.1.a_ ae.2).f.bL) (ae.1.a_ ae.2).f.bL.length 4,.ah (bD (ae.1.a_ ae.2).f.ba) (ae.1.a_ ae.2).f.ba.length 6,.aB 2,.aB 3,.aB 4,.aB 5,J (ae.1.a_ ae.2).c9,.au (ae.1.a_ ae.2).iS] 162),(1,.bm []),(2,.aY (bO J 0 (ae.1.a_ ae.2).gJ) (ae.1.a_ ae.2).gJ.length true),(3,.aY (bO J 0 (ae.1.a_ ae.2).bA) (ae.1.a_ ae.2).bA.length true),(4,.aY (bO J 0 (ae.1.a_ ae.2).hJ) (ae.1.a_ ae.2).hJ.length true),(5,.aY bJ c' true),(6,.aA (cS (ae.1.a_ ae.2).bk) 56)] 7)))) (∃w:Em×Int,(([.aa 0 0,J v]:LV)=[.aa 0 0,J w.2]/\bT m=bT w.1)/\(∃ae:Em×eG,(([.aa 0 0,.ai [J zv,J (w.1.mZ w.2),J a,J 0,.ad [],J 0]]:LV)=[.aa 0 0,.ai (dp ae.2)]/\bT (w.1.jq w.2)=bT ae.1/\ae.1.bk.length<4194304)/\(∃bJ c',j9 Z 2 (bO vB 0 (ae.1.a_ ae.2).fq) (ae.1.a_ ae.2).fq.length (J v) (.au true)=some (bJ,c')/\Q (.aC []) (aq [(0,.al [.aj 6 (ae.1.a_ ae.2).bk.length 6,.ad (ae.1.a_ ae.2).f.aO.cT,J (ae.1.a_ ae.2).f.aO.ar,J (ae.1.a_ ae.2).f.aO.ao,.ah (aH (ae.1.a_ ae.2).f.bL) (ae.1.a_ ae.2).f.bL.length 4,.ah (bD (ae.1.a_ ae.2).f.ba) (ae.1.a_ ae.2).f.ba.length 6,.aB 2,.aB 3,.aB 4,.aB 5,J (ae.1.a_ ae.2).c9,.au (ae.1.a_ ae.2).iS] 162),(1,.bm []),(2,.aY (bO J 0 (ae.1.a_ ae.2).gJ) (ae.1.a_ ae.2).gJ.length true),(3,.aY (bO J 0 (ae.1.a_ ae.2).bA) (ae.1.a_ ae.2).bA.length true),(4,.aY (bO J 0 (ae.1.a_ ae.2).hJ) (ae.1.a_ ae.2).hJ.length true),(5,.aY bJ c' true),(6,.aA (cS (ae.1.a_ ae.2).bk) 56)] 7))))):=by kernel_rfl
theorem adP:aS Z Vp:=by
 refine cu adO ?_;rintro⟨m,v⟩ args H ⟨rfl,rfl⟩;refine eE 41 adO ayZ ?_;simp only[acn,Em.mZ,Em.jq,Em.y8];cases hp:lk v m.bA with
 |some k=>refine⟨k,true,by rw[pv _ jy,hp],aD (λ_=>⟨by rw[Int.zero_sub],rfl⟩) λh=>by cases h⟩
 |none=>
  refine⟨0,false,by rw[pv _ jy,hp,GQ];rfl,aD (λh=>(by cases h)) λ_=>?_⟩;cases ht:lk v m.hJ with
  |some r=>refine⟨r,true,by rw[pv _ jy,ht],aD (λh=>(by cases h)) λ_=>⟨rfl,rfl⟩⟩
  |none=>refine⟨0,false,by rw[pv _ jy,ht,GQ];rfl,aD (λ_=>?_) λh=>(by cases h)⟩;refine⟨m,⟨by trivial,rfl⟩,_,_,pG J jy,rfl,rfl⟩
theorem aFX(m:Em)(v first zv a b)(hb:m.rM v=b):m.n8 v first zv a=((m.jq v).a_ ⟨bif b then zv else first,m.mZ v,a,0,[],0⟩).Be v:=by rw[Em.n8,hb]
theorem Vr:aS Z Vq:=by
 refine cu adP ?_;rintro⟨m,v,first,zv,a⟩ args H ⟨rfl,rfl,hl⟩;refine eE 35 adP aBQ ?_;have hk:∃b:Bool,∃gA:Bool,eZ Z 2 4 (bO vB 0 m.fq) (J v)=some (.au b,gA)/\m.rM v=b:=by
  rw[pv _ jy];unfold Em.rM;cases lk v m.fq with
  |none=>exact⟨false,false,by rw[adJ];rfl,rfl⟩
  |some b=>exact⟨b,true,rfl,rfl⟩
 have⟨b,b1,h1,h2⟩:=hk;refine⟨b,b1,h1,?_⟩;simp only[adB];rw[aFX m v first zv a b h2];refine aD (λh=>?_) λh=>?_
 .have h:b=false:=by simpa using h
  subst h;exact⟨(m,v),⟨rfl,rfl⟩,(m.jq v,⟨first,m.mZ v,a,0,[],0⟩),⟨rfl,rfl,hl⟩,_,_,pG vB jy,rfl,rfl⟩
 .have h:b=true:=by simpa using h
  subst h;exact⟨(m,v),⟨rfl,rfl⟩,(m.jq v,⟨zv,m.mZ v,a,0,[],0⟩),⟨rfl,rfl,hl⟩,_,_,pG vB jy,rfl,rfl⟩
def lW{W:Type}(args:W->LV)(step:Em->W->Em)(ok:Em->W->Prop):cq (Em×W)where
 bh w A H:=A=.aa 0 0::args w.2/\H=bT w.1/\ok w.1 w.2
 v w:=.aC []
 aK w:=j8 (step w.1 w.2)
theorem ve{W args step}{ok:Em->W->Prop}(hi:∀a b,args a=args b->a=b):(lW args step ok).ck:=by rintro⟨m,w⟩ ⟨m',w'⟩ A H ⟨h1,h2,_⟩ ⟨h3,h4,_⟩;simp only at h1 h2 h3 h4;rw[h2]at h4;rw[h1]at h3;rw[LL h4,hi _ _ (List.cons.inj h3).2]
def Em.qM(m:Em)(v:Int):Int:=(lk v m.gJ).getD 0
def aT(w:Int×aF):LV:=[J w.1,.ai (aU w.2)]
theorem As(a b)(h:aT a=aT b):a=b:=by have⟨a,t⟩:=a;have⟨b,u⟩:=b;simp only[aT,iL,AV.bV.injEq,AV.ai.injEq,true_and,and_true]at h;rw[h.1,lP h.2]
def uh{W:Type}(m:Em)(_:W):Prop:=m.bk.length<4194304
def acw{W:Type}(m:Em)(_:W):Prop:=m.bk.length<4194303
def Em.xC(m:Em)(w:Int×aF):Em:=if m.qM w.2.n>1 then m.n8 w.2.n 1 2 w.1 else m
def Em.L6(m:Em)(w:Int×aF):Em:=m.a_ ⟨3,0,w.1,w.2.n,[],0⟩
def Em.L5(m:Em)(w:Int×aF):Em:=m.a_ ⟨4,0,w.1,0,w.2.cO,0⟩
def Em.wG(m:Em)(w:Int×aF):Em:=if m.qM w.2.n>1 then m.n8 w.2.n 11 12 w.1 else m.a_ ⟨11,w.1,w.1,0,[],0⟩
def Em.NR(m:Em)(w:Int×aF):Em:=m.a_ ⟨13,0,w.1,w.2.n,[],0⟩
def Em.NQ(m:Em)(w:Int×aF):Em:=m.a_ ⟨14,0,w.1,0,w.2.cO,0⟩
def aV(w:Int×Int):LV:=[J w.1,J w.2]
theorem ap3(a b)(h:aV a=aV b):a=b:=by have⟨a,t⟩:=a;have⟨b,u⟩:=b;simp only[aV,iL,AV.bV.injEq,true_and,and_true]at h;rw[h.1,h.2]
def a1(v:Int):LV:=[J v]
theorem ap1(a b)(h:a1 a=a1 b):a=b:=by cases h;rfl
def Em.nN(m:Em)(w:Int×Int):Em:=bif m.rM w.2 then
 ((m.ca.a_ ⟨w.1,m.ca.c9,0,0,[],0⟩).jq w.2).a_ ⟨2,(m.ca.a_ ⟨w.1,m.ca.c9,0,0,[],0⟩).mZ w.2,m.ca.c9,0,[],0⟩
 else((m.jq w.2).a_ ⟨w.1,m.mZ w.2,0,0,[],0⟩).Be w.2
def Em.sv(m:Em)(v:Int):Em:=bif m.rM v then(m.jq v).a_ ⟨24,m.mZ v,0,0,[],0⟩else m
def Vs:Ev.bp:=bR 125 (bW (lW aT Em.xC uh) (ve As) cB) Vq
def Vt:Ev.bp:=bR 126 (bW (lW aT Em.L6 uh) (ve As) cB) Vs
def Vu:Ev.bp:=bR 127 (bW (lW aT Em.L5 uh) (ve As) cB) Vt
def Vv:Ev.bp:=bR 160 (bW (lW aT Em.wG uh) (ve As) cB) Vu
def Vx:Ev.bp:=bR 161 (bW (lW aT Em.NR uh) (ve As) cB) Vv
def Vy:Ev.bp:=bR 162 (bW (lW aT Em.NQ uh) (ve As) cB) Vx
def Vz:Ev.bp:=bR 130 (bW (lW aV Em.nN acw) (ve ap3) cB) Vy
def VB:Ev.bp:=bR 131 (bW (lW a1 Em.sv uh) (ve ap1) cB) Vz
theorem amZ{m a k n s cs len L Q}:
 bC Z Vq (λ_=>[]) L Q 1000 125 [.aa 0 0,J a,.ai [J k,J n,.ad s,.ah cs len 4]] (bT m)=(
 ∃aN:Int,∃b:Bool,eZ Z 2 3 (bO J 0 m.gJ) (J n)=some (J aN,b)/\aw (decide (aN>1)) (∃w:Em×Int×Int×Int×Int,(([.aa 0 0,J n,J 1,J 2,J a]:LV)=[.aa 0 0,J w.2.1,J w.2.2.1,J w.2.2.2.1,J w.2.2.2.2]/\bT m=bT w.1/\w.1.bk.length<4194304)/\Q (.aC []) (j8 (w.1.n8 w.2.1 w.2.2.1 w.2.2.2.1 w.2.2.2.2))) (Q (.aC []) (bT m))):=by kernel_rfl
theorem aBd{m a k n s cs len L Q}:
 bC Z Vs (λ_=>[]) L Q 1000 126 [.aa 0 0,J a,.ai [J k,J n,.ad s,.ah cs len 4]] (bT m)=(
 ∃w:Em×eG,(([.aa 0 0,.ai [J 3,J 0,J a,J n,.ad [],J 0]]:LV)=[.aa 0 0,.ai (dp w.2)]/\bT m=bT w.1/\w.1.bk.length<4194304)/\Q (.aC []) (j8 (w.1.a_ w.2))):=by kernel_rfl
theorem aBe{m a k n s cs len L Q}:
 bC Z Vt (λ_=>[]) L Q 1000 127 [.aa 0 0,J a,.ai [J k,J n,.ad s,.ah cs len 4]] (bT m)=(
 ∃w:Em×eG,(([.aa 0 0,.ai [J 4,J 0,J a,J 0,.ad s,J 0]]:LV)=[.aa 0 0,.ai (dp w.2)]/\bT m=bT w.1/\w.1.bk.length<4194304)/\Q (.aC []) (j8 (w.1.a_ w.2))):=by kernel_rfl
theorem ay0{m a k n s cs len L Q}:
 bC Z Vu (λ_=>[]) L Q 1000 160 [.aa 0 0,J a,.ai [J k,J n,.ad s,.ah cs len 4]] (bT m)=(
 ∃aN:Int,∃b:Bool,eZ Z 2 3 (bO J 0 m.gJ) (J n)=some (J aN,b)/\aw (decide (aN>1)) (∃w:Em×Int×Int×Int×Int,(([.aa 0 0,J n,J 11,J 12,J a]:LV)=[.aa 0 0,J w.2.1,J w.2.2.1,J w.2.2.2.1,J w.2.2.2.2]/\bT m=bT w.1/\w.1.bk.length<4194304)/\Q (.aC []) (j8 (w.1.n8 w.2.1 w.2.2.1 w.2.2.2.1 w.2.2.2.2))) (∃w:Em×eG,(([.aa 0 0,.ai [J 11,J a,J a,J 0,.ad [],J 0]]:LV)=[.aa 0 0,.ai (dp w.2)]/\bT m=bT w.1/\w.1.bk.length<4194304)/\Q (.aC []) (j8 (w.1.a_ w.2)))):=by kernel_rfl
theorem ay1{m a k n s cs len L Q}:
 bC Z Vv (λ_=>[]) L Q 1000 161 [.aa 0 0,J a,.ai [J k,J n,.ad s,.ah cs len 4]] (bT m)=(
 ∃w:Em×eG,(([.aa 0 0,.ai [J 13,J 0,J a,J n,.ad [],J 0]]:LV)=[.aa 0 0,.ai (dp w.2)]/\bT m=bT w.1/\w.1.bk.length<4194304)/\Q (.aC []) (j8 (w.1.a_ w.2))):=by kernel_rfl
theorem ay2{m a k n s cs len L Q}:
 bC Z Vx (λ_=>[]) L Q 1000 162 [.aa 0 0,J a,.ai [J k,J n,.ad s,.ah cs len 4]] (bT m)=(
 ∃w:Em×eG,(([.aa 0 0,.ai [J 14,J 0,J a,J 0,.ad s,J 0]]:LV)=[.aa 0 0,.ai (dp w.2)]/\bT m=bT w.1/\w.1.bk.length<4194304)/\Q (.aC []) (j8 (w.1.a_ w.2))):=by kernel_rfl
theorem aBi{m op v L Q}:
 bC Z Vy (λ_=>[]) L Q 1000 130 [.aa 0 0,J op,J v] (bT m)=(
 ∃b:Bool,∃gA:Bool,eZ Z 2 4 (bO vB 0 m.fq) (J v)=some (.au b,gA)/\aw (!b) (∃w:Em×Int,(([.aa 0 0,J v]:LV)=[.aa 0 0,J w.2]/\bT m=bT w.1)/\(∃ae:Em×eG,(([.aa 0 0,.ai [J op,J (w.1.mZ w.2),J 0,J 0,.ad [],J 0]]:LV)=[.aa 0 0,.ai (dp ae.2)]/\bT (w.1.jq w.2)=bT ae.1/\ae.1.bk.length<4194304)/\(∃bJ:List (AV×AV×Nat),∃c':Nat,j9 Z 2 (bO vB 0 (ae.1.a_ ae.2).fq) (ae.1.a_ ae.2).fq.length (J v) (.au true)=some (bJ,c')/\Q (.aC []) (aq [(0,.al [.aj 6 (ae.1.a_ ae.2).bk.length 6,.ad (ae.1.a_ ae.2).f.aO.cT,J (ae.1.a_ ae.2).f.aO.ar,J (ae.1.a_ ae.2).f.aO.ao,.ah (aH (ae.1.a_ ae.2).f.bL) (ae.1.a_ ae.2).f.bL.length 4,.ah (bD (ae.1.a_ ae.2).f.ba) (ae.1.a_ ae.2).f.ba.length 6,.aB 2,.aB 3,.aB 4,.aB 5,J (ae.1.a_ ae.2).c9,.au (ae.1.a_ ae.2).iS] 162),(1,.bm []),(2,.aY (bO J 0 (ae.1.a_ ae.2).gJ) (ae.1.a_ ae.2).gJ.length true),(3,.aY (bO J 0 (ae.1.a_ ae.2).bA) (ae.1.a_ ae.2).bA.length true),(4,.aY (bO J 0 (ae.1.a_ ae.2).hJ) (ae.1.a_ ae.2).hJ.length true),(5,.aY bJ c' true),(6,.aA (cS (ae.1.a_ ae.2).bk) 56)] 7)))) (∃w:Em,(([.aa 0 0]:LV)=[.aa 0 0]/\bT m=bT w)/\(∃ae:Em×eG,(([.aa 0 0,.ai [J op,J w.ca.c9,J 0,J 0,.ad [],J 0]]:LV)=[.aa 0 0,.ai (dp ae.2)]/\bT w.ca=bT ae.1/\ae.1.bk.length<4194304)/\(∃aE:Em×Int,(([.aa 0 0,J v]:LV)=[.aa 0 0,J aE.2]/\bT (ae.1.a_ ae.2)=bT aE.1)/\(∃bQ:Em×eG,(([.aa 0 0,.ai [J 2,J (aE.1.mZ aE.2),J w.ca.c9,J 0,.ad [],J 0]]:LV)=[.aa 0 0,.ai (dp bQ.2)]/\bT (aE.1.jq aE.2)=bT bQ.1/\bQ.1.bk.length<4194304)/\Q (.aC []) (j8 (bQ.1.a_ bQ.2))))))):=by kernel_rfl
theorem am1{m v L Q}:
 bC Z Vz (λ_=>[]) L Q 1000 131 [.aa 0 0,J v] (bT m)=(
 ∃b:Bool,∃gA:Bool,eZ Z 2 4 (bO vB 0 m.fq) (J v)=some (.au b,gA)/\aw b (∃w:Em×Int,(([.aa 0 0,J v]:LV)=[.aa 0 0,J w.2]/\bT m=bT w.1)/\(∃ae:Em×eG,(([.aa 0 0,.ai [J 24,J (w.1.mZ w.2),J 0,J 0,.ad [],J 0]]:LV)=[.aa 0 0,.ai (dp ae.2)]/\bT (w.1.jq w.2)=bT ae.1/\ae.1.bk.length<4194304)/\Q (.aC []) (j8 (ae.1.a_ ae.2)))) (Q (.aC []) (bT m))):=by kernel_rfl
theorem SH(m:Em)(v):∃n:Int,∃b:Bool,eZ Z 2 3 (bO J 0 m.gJ) (J v)=some (J n,b)/\m.qM v=n:=by
 rw[pv _ jy];unfold Em.qM;cases lk v m.gJ with
 |none=>exact⟨0,false,by rw[GQ];rfl,rfl⟩
 |some b=>exact⟨b,true,rfl,rfl⟩
theorem akG(m:Em)(v):∃b:Bool,∃gA:Bool,eZ Z 2 4 (bO vB 0 m.fq) (J v)=some (.au b,gA)/\m.rM v=b:=by
 rw[pv _ jy];unfold Em.rM;cases lk v m.fq with
 |none=>exact⟨false,false,by rw[adJ];rfl,rfl⟩
 |some b=>exact⟨b,true,rfl,rfl⟩
theorem ahv{f args m0 m}(h:bX Z f args (bT m0) (.aC []) (bT m)):bX Z f args (bT m0) (.aC []) (j8 m):=
 E_ h (ahh m) (by simp[eM,nY]) (cE _)
theorem adR:aS Z Vs:=by
 refine cu Vr ?_;rintro⟨m,a,⟨k,n,s,l⟩⟩ args H ⟨rfl,rfl,hl⟩;simp only[lW,aT,aU];have⟨c,b,h1,h2⟩:=SH m n;by_cases hc:c>1
 .refine eE 19 Vr amZ ?_;refine⟨c,b,h1,aD (λh=>⟨(m,n,1,2,a),⟨rfl,rfl,hl⟩,rfl,?_⟩) λh=>absurd hc (by simpa using h)⟩;have:m.xC (a,.mk k n s l)=m.n8 n 1 2 a:=aL (by rw[show(aF.mk k n s l).n=n from rfl,h2];exact hc);rw[this]
 .have:m.xC (a,.mk k n s l)=m:=az (by rw[show(aF.mk k n s l).n=n from rfl,h2];exact hc);rw[this];refine ahv ?_;refine eE 19 Vr amZ ?_;exact⟨c,b,h1,aD (λh=>absurd (by simpa using h) hc) λh=>⟨rfl,rfl⟩⟩
theorem adS:aS Z Vt:=by refine cu adR ?_;rintro⟨m,a,⟨k,n,s,l⟩⟩ args H ⟨rfl,rfl,hl⟩;refine eS adR (λ_=>[]) 14 ?_;simp only[lW,aT,aU];rw[aBd];exact⟨(m,⟨3,0,a,n,[],0⟩),⟨rfl,rfl,hl⟩,rfl,rfl⟩
theorem adT:aS Z Vu:=by refine cu adS ?_;rintro⟨m,a,⟨k,n,s,l⟩⟩ args H ⟨rfl,rfl,hl⟩;refine eS adS (λ_=>[]) 14 ?_;simp only[lW,aT,aU];rw[aBe];exact⟨(m,⟨4,0,a,0,s,0⟩),⟨rfl,rfl,hl⟩,rfl,rfl⟩
theorem adU:aS Z Vv:=by
 refine cu adT ?_;rintro⟨m,a,⟨k,n,s,l⟩⟩ args H ⟨rfl,rfl,hl⟩;simp only[lW,aT,aU];have⟨c,b,h1,h2⟩:=SH m n;refine eE 26 adT ay0 ?_;refine⟨c,b,h1,aD (λh=>⟨(m,n,11,12,a),⟨rfl,rfl,hl⟩,rfl,?_⟩) λh=>⟨(m,⟨11,a,a,0,[],0⟩),⟨rfl,rfl,hl⟩,rfl,?_⟩⟩
 .have hc:c>1:=by simpa using h
  have:m.wG (a,.mk k n s l)=m.n8 n 11 12 a:=aL (by rw[show(aF.mk k n s l).n=n from rfl,h2];exact hc);rw[this]
 .have hc:¬c>1:=by simpa using h
  have:m.wG (a,.mk k n s l)=m.a_ ⟨11,a,a,0,[],0⟩:=az (by rw[show(aF.mk k n s l).n=n from rfl,h2];exact hc);rw[this]
theorem adV:aS Z Vx:=by refine cu adU ?_;rintro⟨m,a,⟨k,n,s,l⟩⟩ args H ⟨rfl,rfl,hl⟩;refine eS adU (λ_=>[]) 14 ?_;simp only[lW,aT,aU];rw[ay1];exact⟨(m,⟨13,0,a,n,[],0⟩),⟨rfl,rfl,hl⟩,rfl,rfl⟩
theorem adW:aS Z Vy:=by refine cu adV ?_;rintro⟨m,a,⟨k,n,s,l⟩⟩ args H ⟨rfl,rfl,hl⟩;refine eS adV (λ_=>[]) 14 ?_;simp only[lW,aT,aU];rw[ay2];exact⟨(m,⟨14,0,a,0,s,0⟩),⟨rfl,rfl,hl⟩,rfl,rfl⟩
theorem VA:aS Z Vz:=by
 refine cu adW ?_;rintro⟨m,op,v⟩ args H ⟨rfl,rfl,hl⟩;have hl:m.bk.length<4194303:=hl;refine eS adW (λ_=>[]) 46 ?_;simp only[lW,aV];rw[aBi];have⟨b,b1,h1,h2⟩:=akG m v;refine⟨b,b1,h1,aD (λh=>?_) λh=>?_⟩
 .have h:b=false:=by simpa using h
  have:m.nN (op,v)=((m.jq v).a_ ⟨op,m.mZ v,0,0,[],0⟩).Be v:=by simp only[Em.nN,h2,h,cond_false]
  rw[this];exact⟨(m,v),⟨rfl,rfl⟩,(m.jq v,⟨op,m.mZ v,0,0,[],0⟩),⟨rfl,rfl,by show m.bk.length<4194304;omega⟩,_,_,pG vB jy,rfl,rfl⟩
 .have h:b=true:=by simpa using h
  have:m.nN (op,v)=((m.ca.a_ ⟨op,m.ca.c9,0,0,[],0⟩).jq v).a_ ⟨2,(m.ca.a_ ⟨op,m.ca.c9,0,0,[],0⟩).mZ v,m.ca.c9,0,[],0⟩:=by simp only[Em.nN,h2,h,cond_true]
  rw[this];have bS:=Cc m.bk ⟨op,m.ca.c9,0,0,[],0⟩;exact⟨m,⟨rfl,rfl⟩,(m.ca,⟨op,m.ca.c9,0,0,[],0⟩),⟨rfl,rfl,by show m.bk.length<4194304;omega⟩,(m.ca.a_ ⟨op,m.ca.c9,0,0,[],0⟩,v),⟨rfl,rfl⟩,
   ((m.ca.a_ ⟨op,m.ca.c9,0,0,[],0⟩).jq v,⟨2,(m.ca.a_ ⟨op,m.ca.c9,0,0,[],0⟩).mZ v,m.ca.c9,0,[],0⟩),⟨rfl,rfl,by show(p6 m.bk _).length<4194304;omega⟩,rfl,rfl⟩
theorem adX:aS Z VB:=by
 refine cu VA ?_;rintro⟨m,v⟩ args H ⟨rfl,rfl,hl⟩;have hl:=hl;simp only[lW,a1];have⟨b,b1,h1,h2⟩:=akG m v;cases b with
 |true=>
  refine eE 18 VA am1 ?_;have:m.sv v=(m.jq v).a_ ⟨24,m.mZ v,0,0,[],0⟩:=by simp only[Em.sv,h2,cond_true]
  rw[this];exact⟨true,b1,h1,aD (λ_=>⟨(m,v),⟨rfl,rfl⟩,(m.jq v,⟨24,m.mZ v,0,0,[],0⟩),⟨rfl,rfl,hl⟩,rfl,rfl⟩) λh=>(by cases h)⟩
 |false=>
  have:m.sv v=m:=by simp only[Em.sv,h2,cond_false]
  rw[this];refine ahv ?_;refine eE 18 VA am1 ?_;exact⟨false,b1,h1,aD (λh=>(by cases h)) λh=>⟨rfl,rfl⟩⟩
def fF(m:Em)(g c p t k:Nat):bf:=.al [.aj g m.bk.length 6,.ad m.f.aO.cT,J m.f.aO.ar,J m.f.aO.ao,.ah (aH m.f.bL) m.f.bL.length 4,.ah (bD m.f.ba) m.f.ba.length 6,.aB c,.aB p,.aB t,.aB k,J m.c9,.au m.iS] 162
def fP(m:Em):bf:=.aA (cS m.bk) 56
def fe(m:Em):bf:=.aY (bO J 0 m.gJ) m.gJ.length true
def ft(m:Em):bf:=.aY (bO J 0 m.bA) m.bA.length true
def fi(m:Em):bf:=.aY (bO J 0 m.hJ) m.hJ.length true
def fg(m:Em):bf:=.aY (bO vB 0 m.fq) m.fq.length true
theorem HW{m m' g c p t k}(h0:fF m g c p t k=fF m' g c p t k)(h1:fP m=fP m')(h2:fe m=fe m')(h3:ft m=ft m')(h4:fi m=fi m')(h5:fg m=fg m'):m=m':=by have⟨code,⟨⟨a,b,c⟩,l,g⟩,gJ,bA,hJ,fq,next,iS⟩:=m;have⟨Ym,⟨⟨a',b',c'⟩,l',g'⟩,Yr,ab1,adp,aaR,ale,akD⟩:=m';simp only[fF,fP,fe,ft,fi,fg,bf.al.injEq,bf.aA.injEq,bf.aY.injEq,iL,AV.bV.injEq,AV.ad.injEq,AV.ah.injEq,AV.au.injEq,AV.aj.injEq,true_and,and_true]at h0 h1 h2 h3 h4 h5;obtain⟨_,rfl,rfl,rfl,⟨k1,k2⟩,⟨k3,k4⟩,rfl,rfl⟩:=h0;rw[H6 h1,tB k2 k1,QG k4 k3,sE yx h2.1,sE yx h3.1,sE yx h4.1,sE aos h5.1]
def aX(bs:LI):LV:=bs.map (AV.bV .i64)
def Rr(m:Em)(bs:LI):AH:=aq [(0,.al [.aa 2 0] 157),(1,.al [.bw 3 0 bs.length bs.length 1 true] 151),(2,fF m 4 5 6 7 8),(3,.dU (aX bs) 3),(4,fP m),(5,fe m),(6,ft m),(7,fi m),(8,fg m)] 9
def alz(m:Em)(bs:LI):AH:=aq [(0,.al [.aa 2 0] 157),(1,.al [.bw 3 0 bs.length bs.length 1 true] 151),(2,fF m 9 5 6 7 8),(3,.dU (aX bs) 3),(4,.bm []),(5,fe m),(6,ft m),(7,fi m),(8,fg m),(9,fP m)] 10
def IA(m:Em)(bs:LI):AH:=aq [(0,fF m 3 4 5 6 7),(1,.al [.aa 0 0] 157),(2,.al [.bw 8 0 bs.length bs.length 1 true] 151),(3,fP m),(4,fe m),(5,ft m),(6,fi m),(7,fg m),(8,.dU (aX bs) 3)] 9
def zF(m:Em)(bs:LI):AH:=aq [(0,fF m 9 4 5 6 7),(1,.al [.aa 0 0] 157),(2,.al [.bw 8 0 bs.length bs.length 1 true] 151),(3,.bm []),(4,fe m),(5,ft m),(6,fi m),(7,fg m),(8,.dU (aX bs) 3),(9,fP m)] 10
theorem axc(m bs):Mv (IA m bs) (zF m bs) 3:=qk (l':=[(0,fF m 9 4 5 6 7),(1,.al [.aa 0 0] 157),(2,.al [.bw 8 0 bs.length bs.length 1 true] 151),(3,.bm []),(4,fe m),(5,ft m),(6,fi m),(7,fg m),(8,.dU (aX bs) 3)]) rfl rfl rfl
def Em.mK(m:Em)(t:aF)(b:Int):Em:=
 if t.cy=0 then(if m.qM t.n>1 then m.n8 t.n 6 7 0 else m.a_ ⟨10,0,0,1,[],0⟩)
 else if t.cy=1 then m.a_ ⟨8,0,0,t.n,[],0⟩
 else if t.cy=2 then m.a_ ⟨9,0,0,0,t.cO,0⟩
 else m.a_ ⟨7,b,0,0,[],0⟩
def Em.tp(m:Em)(l:List (aF×Int)):Em:=l.foldl (λm p=>m.mK p.1 p.2) m
def afv:cq (Em×LI×Nat)where
 bh w A H:=A=[J (w.2.2:Int),.aa 0 0,.aa 1 0]/\H=Rr w.1 w.2.1/\w.1.bk.length<4194304/\w.2.2<w.2.1.length
 v w:=.aC []
 aK w:=alz (w.1.a_ ⟨7,w.2.1.getD w.2.2 0,0,0,[],0⟩) w.2.1
def Xq:cq (Em×LI×aF)where
 bh w A H:=A=[.aa 0 0,.ai (aU w.2.2),.bn (.func 172) [] [.aa 1 0,.aa 2 0]]/\H=IA w.1 w.2.1/\w.1.bk.length+w.2.2.bo.length<4194304/\w.2.1.length=w.2.2.bo.length/\bB w.2.2
 v w:=.aC []
 aK w:=zF (w.1.tp (w.2.2.bo.zip w.2.1)) w.2.1
theorem zQ{a b}(h:aX a=aX b):a=b:=by exact(List.map_inj_right (λx y e=>by cases e;rfl)).1 h
theorem axB:afv.ck:=by
 rintro⟨m,bs,i⟩ ⟨m',vL,i'⟩ A H ⟨h1,h2,_⟩ ⟨h3,h4,_⟩;rw[h1]at h3;rw[h2]at h4;have q:=λi=>congrArg (λH=>AH.bc H i) h4
 have e:=HW (m:=m) (de (q 2)) (de (q 4)) (de (q 5)) (de (q 6)) (de (q 7)) (de (q 8));have e2:aX bs=aX vL:=(bf.dU.inj (de (q 3))).1;have e3:=zQ e2;simp at h3;have e4:i=i':=by omega
 rw[e,e3,e4]
theorem axE:Xq.ck:=by
 rintro⟨m,bs,t⟩ ⟨m',vL,t'⟩ A H ⟨h1,h2,_⟩ ⟨h3,h4,_⟩;rw[h1]at h3;rw[h2]at h4;have q:=λi=>congrArg (λH=>AH.bc H i) h4
 have e:=HW (m:=m) (de (q 0)) (de (q 3)) (de (q 4)) (de (q 5)) (de (q 6)) (de (q 7));have e2:aX bs=aX vL:=(bf.dU.inj (de (q 8))).1;have e3:=zQ e2;simp at h3;rw[e,e3,lP h3]
def O1:Ev.bp:=bR 172 (bW afv axB cB) VB
def VD:Ev.bp:=bR 156 (bW Xq axE cB) O1
theorem azE{m i bs L Q}:
 bC Z VB (λ_=>[]) L Q 1000 172 [J i,.aa 0 0,.aa 1 0] (Rr m bs)=(
 ∃aJ:Nat,i=(aJ:Int)/\aJ<bs.length/\(∃n,cz Z 3 (aX bs) (0+aJ*1)=some (J n:AV)/\(∃w:Em×eG,(([.aa 0 0,.ai [J 7,J n,J 0,J 0,.ad [],J 0]]:LV)=[.aa 0 0,.ai (dp w.2)]/\bT m=bT w.1/\w.1.bk.length<4194304)/\Q (.aC []) (alz (w.1.a_ w.2) bs)))):=by kernel_rfl
abbrev BD x0 x1 x2:=bg [(0,.aa 0 0),(2,.bn (.func 172) [] [.aa 1 0,.aa 2 0]),(9,.ah x0 x1 4),(10,J (aP x1)),(11,J x2)]
theorem aBS{m k n s cs len bs L Q}:
 bC Z O1 (λ_=>[0,2,9,10,11]) L Q 1000 156 [.aa 0 0,.ai [J k,J n,.ad s,.ah cs len 4],.bn (.func 172) [] [.aa 1 0,.aa 2 0]] (IA m bs)=(
 L (BD cs len 0) (IA m bs) (ax Z 156 0)):=by kernel_rfl
theorem aBT{m i cs len bs L Q}:
 cg Z O1 (λ_=>[0,2,9,10,11]) L Q 1000 156 9 (BD cs len i) (ax Z 156 0) (zF m bs)=(
 aw (decide (i<aP len)) (∃aJ:Nat,i=(aJ:Int)/\aJ<len/\(∃n aN s bP bI,((cs.drop (aJ*4)).take 4:LV)=[J n,J aN,.ad s,.ah bP bI 4]/\aw (n==0) (∃bz b,eZ Z 2 3 (bO J 0 m.gJ) (J aN)=some (J bz,b)/\aw (decide (bz>1)) (∃w:Em×Int×Int×Int×Int,(([.aa 0 0,J aN,J 6,J 7,J 0]:LV)=[.aa 0 0,J w.2.1,J w.2.2.1,J w.2.2.2.1,J w.2.2.2.2]/\bT m=bT w.1/\w.1.bk.length<4194304)/\L (BD cs len (wI (i+1))) (zF (w.1.n8 w.2.1 w.2.2.1 w.2.2.2.1 w.2.2.2.2) bs) (ax Z 156 0)) (∃w:Em×eG,(([.aa 0 0,.ai [J 10,J 0,J 0,J 1,.ad [],J 0]]:LV)=[.aa 0 0,.ai (dp w.2)]/\bT m=bT w.1/\w.1.bk.length<4194304)/\L (BD cs len (wI (i+1))) (zF (w.1.a_ w.2) bs) (ax Z 156 0))) (aw (n==1) (∃w:Em×eG,(([.aa 0 0,.ai [J 8,J 0,J 0,J aN,.ad [],J 0]]:LV)=[.aa 0 0,.ai (dp w.2)]/\bT m=bT w.1/\w.1.bk.length<4194304)/\L (BD cs len (wI (i+1))) (zF (w.1.a_ w.2) bs) (ax Z 156 0)) (aw (n==2) (∃w:Em×eG,(([.aa 0 0,.ai [J 9,J 0,J 0,J 0,.ad s,J 0]]:LV)=[.aa 0 0,.ai (dp w.2)]/\bT m=bT w.1/\w.1.bk.length<4194304)/\L (BD cs len (wI (i+1))) (zF (w.1.a_ w.2) bs) (ax Z 156 0)) (∃w:Em×LI×Nat,(([J i,.aa 0 0,.aa 1 0]:LV)=[J ((w.2.2:Nat):Int),.aa 0 0,.aa 1 0]/\Rr m bs=Rr w.1 w.2.1/\w.1.bk.length<4194304/\w.2.2<w.2.1.length)/\L (BD cs len (wI (i+1))) (aq [(0,.al [.aj 9 (w.1.a_ {op:=7,r:=List.getD w.2.1 w.2.2 0,a:=0,n:=0,fx:=[],ar:=0}).bk.length 6,.ad (w.1.a_ {op:=7,r:=List.getD w.2.1 w.2.2 0,a:=0,n:=0,fx:=[],ar:=0}).f.aO.cT,J (w.1.a_ (eG.mk 7 (List.getD w.2.1 w.2.2 0) 0 0 [] 0)).f.aO.ar,J (w.1.a_ (eG.mk 7 (List.getD w.2.1 w.2.2 0) 0 0 [] 0)).f.aO.ao,.ah (aH (w.1.a_ {op:=7,r:=List.getD w.2.1 w.2.2 0,a:=0,n:=0,fx:=[],ar:=0}).f.bL) (w.1.a_ {op:=7,r:=List.getD w.2.1 w.2.2 0,a:=0,n:=0,fx:=[],ar:=0}).f.bL.length 4,.ah (bD (w.1.a_ {op:=7,r:=List.getD w.2.1 w.2.2 0,a:=0,n:=0,fx:=[],ar:=0}).f.ba) (w.1.a_ {op:=7,r:=List.getD w.2.1 w.2.2 0,a:=0,n:=0,fx:=[],ar:=0}).f.ba.length 6,.aB 4,.aB 5,.aB 6,.aB 7,J (w.1.a_ (eG.mk 7 (List.getD w.2.1 w.2.2 0) 0 0 [] 0)).c9,.au (w.1.a_ (eG.mk 7 (List.getD w.2.1 w.2.2 0) 0 0 [] 0)).iS] 162),(1,.al [.aa 0 0] 157),(2,.al [.bw 8 0 w.2.1.length w.2.1.length 1 true] 151),(3,.bm []),(4,fe (w.1.a_ {op:=7,r:=List.getD w.2.1 w.2.2 0,a:=0,n:=0,fx:=[],ar:=0})),(5,ft (w.1.a_ {op:=7,r:=List.getD w.2.1 w.2.2 0,a:=0,n:=0,fx:=[],ar:=0})),(6,fi (w.1.a_ {op:=7,r:=List.getD w.2.1 w.2.2 0,a:=0,n:=0,fx:=[],ar:=0})),(7,fg (w.1.a_ {op:=7,r:=List.getD w.2.1 w.2.2 0,a:=0,n:=0,fx:=[],ar:=0})),(8,.dU (aX w.2.1) 3),(9,fP (w.1.a_ {op:=7,r:=List.getD w.2.1 w.2.2 0,a:=0,n:=0,fx:=[],ar:=0}))] 10) (ax Z 156 0)))))) (Q (.aC []) (zF m bs))):=by kernel_rfl
theorem VC:aS Z O1:=by refine cu adX ?_;rintro⟨m,bs,i⟩ args H ⟨rfl,rfl,hl,hi⟩;have hi:=hi;refine eE 13 adX azE ?_;refine⟨i,rfl,hi,bs.getD i 0,?_,(m,⟨7,bs.getD i 0,0,0,[],0⟩),⟨rfl,rfl,hl⟩,rfl,rfl⟩;rw[NM,aX,kD,mu,sa,gS hi];simp[List.getD,gS hi]
theorem lO(m:Em)(i):(m.a_ i).bk.length<=m.bk.length+1:=Cc _ _
theorem U7(m:Em)(v a b c):(m.n8 v a b c).bk.length<=m.bk.length+1:=Cc _ _
theorem afI(m:Em)(t b):(m.mK t b).bk.length<=m.bk.length+1:=by
 unfold Em.mK;split
 .split
  .exact U7 _ _ _ _ _
  .exact lO _ _
 .split
  .exact lO _ _
  .split
   .exact lO _ _
   .exact lO _ _
section
variable{m:Em}{k n b:Int}{s:LN}{ts:eH}
theorem aql(hk:k=0)(hc:m.qM n>1):m.mK (.mk k n s ts) b=m.n8 n 6 7 0:=by simp[Em.mK,aF.cy,aF.n,hk,hc]
theorem aqm(hk:k=0)(hc:¬m.qM n>1):m.mK (.mk k n s ts) b=m.a_ ⟨10,0,0,1,[],0⟩:=by simp[Em.mK,aF.cy,aF.n,hk,hc]
theorem aqj(hk:k=1):m.mK (.mk k n s ts) b=m.a_ ⟨8,0,0,n,[],0⟩:=by simp[Em.mK,aF.cy,aF.n,hk]
theorem aqh(hk:k=2):m.mK (.mk k n s ts) b=m.a_ ⟨9,0,0,0,s,0⟩:=by simp[Em.mK,aF.cy,aF.cO,hk]
theorem aqk(h0:k≠0)(h1:k≠1)(h2:k≠2):m.mK (.mk k n s ts) b=m.a_ ⟨7,b,0,0,[],0⟩:=by simp[Em.mK,aF.cy,h0,h1,h2]
end
theorem aBR{l bs M}(hl:dk l.length)(ho:fK l)(hb:bs.length=l.length):
 ∀p:Nat×Em,(p.1<=l.length/\p.2.bk.length+(l.length-p.1)<4194304/\p.2.tp ((l.zip bs).drop p.1)=M)->
 bu Z 156 59 9 (.aC []) (zF M bs) (BD (aH l) l.length (p.1:Int)) (zF p.2 bs) (ax Z 156 0):=by
 refine dF (λp=>l.length-p.1) _ _ _ _ ?_;rintro⟨i,m⟩ ⟨hi,hc,hf⟩ ih;simp only at hi hc hf ih⊢;refine hE VC aBT ?_;refine aD (λay=>?_) λbq=>?_
 .have ay:i<l.length:=by simpa using ay
  have⟨k,n,s,ts,he,b_,aZ⟩:=z9 ay ho;have hz:i<(l.zip bs).length:=by simp;omega
  have hib:i<bs.length:=by omega
  rw[fV hz,List.getElem_zip,he]at hf;have IW:bs.getD i 0=bs[i]:=by simp[List.getD,gS hib]
  refine⟨i,rfl,ay,k,n,s,_,_,b_,?_⟩;rw[kU hl ay];have bS:=afI m (.mk k n s ts) bs[i];have next:=
   ih (i+1,m.mK (.mk k n s ts) bs[i]) ⟨by simp;omega,by simp only;omega,hf⟩ (by simp;omega)
  have⟨c,b,h1,h2⟩:=SH m n;have hr:m.bk.length<4194304:=by omega
  refine aD (λhk=>?_) λzl=>?_
  .have hk:k=0:=by simpa using hk
   refine⟨c,b,h1,aD (λhc=>?_) λhc=>?_⟩
   .have hc:c>1:=by simpa using hc
    rw[aql hk (by rw[h2];exact hc)]at next
    exact⟨(m,n,6,7,0),⟨rfl,rfl,hr⟩,next⟩
   .have hc:¬c>1:=by simpa using hc
    rw[aqm hk (by rw[h2];exact hc)]at next
    exact⟨(m,⟨10,0,0,1,[],0⟩),⟨rfl,rfl,hr⟩,next⟩
  .have zl:k≠0:=by simpa using zl
   refine aD (λhk=>?_) λqY=>?_
   .have hk:k=1:=by simpa using hk
    rw[aqj hk]at next
    exact⟨(m,⟨8,0,0,n,[],0⟩),⟨rfl,rfl,hr⟩,next⟩
   .have qY:k≠1:=by simpa using qY
    refine aD (λhk=>?_) λoP=>?_
    .have hk:k=2:=by simpa using hk
     rw[aqh hk]at next
     exact⟨(m,⟨9,0,0,0,s,0⟩),⟨rfl,rfl,hr⟩,next⟩
    .have oP:k≠2:=by simpa using oP
     rw[aqk zl qY oP,<-IW]at next
     exact⟨(m,bs,i),⟨rfl,rfl,hr,hib⟩,next⟩
 .have bq:l.length<=i:=by simpa using bq
  rw[gR (by simp;omega)]at hf;subst hf;exact⟨rfl,rfl⟩
theorem adZ:aS Z VD:=by
 refine cu VC ?_;rintro⟨m,bs,⟨k,n,s,l⟩⟩ args H ⟨rfl,rfl,hl,hb,ho⟩;simp only[aF.bo]at hl hb;refine eS VC (λ_=>[0,2,9,10,11]) 59 ?_;simp only[Xq,aU,aF.bo];rw[aBS];refine uT ?_ (axc m bs) (t':=BD (aH l) l.length ((0:Nat):Int)) ?_
 .exact aBR ho.2.1 ho.2.2 hb (0,m) ⟨by simp,by simpa using hl,by simp⟩
 .intro i a' hi;exact⟨a',hi,wz hi (by simp[eM,nY,lu,IA,aq,eA])⟩
mutual
def Em.pN:Em->Int->aF->Em
 |m,r,.mk k n s l=>((m.j5 l).1.a_ ⟨15,r,0,0,s,l.length⟩).tp (l.zip (m.j5 l).2)
def Em.j5:Em->eH->Em×LI
 |m,[]=>(m,[])
 |m,t::l=>if t.cy=3 then(((m.ca.pN m.ca.c9 t).j5 l).1,m.ca.c9::((m.ca.pN m.ca.c9 t).j5 l).2)
   else((m.j5 l).1,0::(m.j5 l).2)
end
def amB(N:Nat)(m:Em)(w:Int×aF):Prop:=m.bk.length+2*bM w.2<4194304/\bB w.2/\bM w.2<N
def Kv(N:Nat):Ev.bp:=bR 163 (bW (lW aT (λm w=>m.pN w.1 w.2) (amB N)) (ve As) cB) VD
def amC(m:Em)(w:Int×aF):Prop:=m.bk.length+2*bM w.2<4194304/\bB w.2
def O2:Ev.bp:=bR 163 (bW (lW aT (λm w=>m.pN w.1 w.2) amC) (ve As) cB) VD
def Mb(m:Em)(k n:Int)(s:LN)(cs:LV)(len:Nat)(dU:LV):AH:=aq [(0,fF m 9 2 3 4 5),(1,.bm []),(2,fe m),(3,ft m),(4,fi m),(5,fg m),(6,.al [.aa 0 0] 157),(7,.al [J k,J n,.ad s,.ah cs len 4] 49),(8,.al [.bw 10 0 len len 1 true] 151),(9,fP m),(10,.dU dU 3)] 11
abbrev J6 x0 x1 x2 x3:=bg [(1,J x0),(3,.aa 6 0),(5,.aa 7 0),(6,.aa 8 0),(14,.ah x1 x2 4),(15,J (aP x2)),(16,J x3)]
theorem ay4{m r k n s cs len N L Q}:
 bC Z (Kv N) (λ_=>[1,3,5,6,14,15,16]) L Q 1000 163 [.aa 0 0,J r,.ai [J k,J n,.ad s,.ah cs len 4]] (bT m)=(
 ∃i:Nat,aP len=(i:Int)/\i<=4194304/\L (J6 r cs len 0) (aq [(0,fF m 1 2 3 4 5),(1,fP m),(2,fe m),(3,ft m),(4,fi m),(5,fg m),(6,.al [.aa 0 0] 157),(7,.al [J k,J n,.ad s,.ah cs len 4] 49),(8,.al [.bw 9 0 i i 1 true] 151),(9,.dU (kR [J 0] i) 3)] 10) (ax Z 163 0)):=by kernel_rfl
theorem ay5{m r k n i s cs len dU N L Q}:
 cg Z (Kv N) (λ_=>[1,3,5,6,14,15,16]) L Q 1000 163 6 (J6 r cs len i) (ax Z 163 0) (Mb m k n s cs len dU)=(
 aw (decide (i<aP len)) (∃aJ:Nat,i=(aJ:Int)/\aJ<len/\(∃aN bz cr bP bI,((cs.drop (aJ*4)).take 4:LV)=[J aN,J bz,.ad cr,.ah bP bI 4]/\aw (aN==3) (∃w,(([.aa 0 0]:LV)=[.aa 0 0]/\bT m=bT w)/\some (.bw 10 0 len len 1 true:AV)=some (.bw 10 0 len len 1 true:AV)/\(∃cN:Nat,i=(cN:Int)/\cN<len/\0+cN*1+1<=dU.length/\(∃ew:Nat,i=(ew:Int)/\ew<len/\(∃ct,cz Z 3 (gE dU (0+cN*1) [J w.ca.c9]) (0+ew*1)=some (J ct:AV)/\(∃ae:Em×Int×aF,(([.aa 0 0,J ct,.ai [J aN,J bz,.ad cr,.ah bP bI 4]]:LV)=[.aa 0 0,J ae.2.1,.ai (aU ae.2.2)]/\bT w.ca=bT ae.1/\amB N ae.1 ae.2)/\L (J6 r cs len (wI (i+1))) (Mb (ae.1.pN ae.2.1 ae.2.2) k n s cs len (gE dU (0+cN*1) [J w.ca.c9])) (ax Z 163 0)))))) (L (J6 r cs len (wI (i+1))) (Mb m k n s cs len dU) (ax Z 163 0)))) (∃w:Em×eG,(([.aa 0 0,.ai [J 15,J r,J 0,J 0,.ad s,J (aP len)]]:LV)=[.aa 0 0,.ai (dp w.2)]/\bT m=bT w.1/\w.1.bk.length<4194304)/\(∃ae:Em×LI×aF,(([.aa 0 0,.ai [J k,J n,.ad s,.ah cs len 4],.bn (.func 172) [] [.aa 1 0,.aa 2 0]]:LV)=[.aa 0 0,.ai (aU ae.2.2),.bn (.func 172) [] [.aa 1 0,.aa 2 0]]/\aq [(0,fF (w.1.a_ w.2) 3 4 5 6 7),(1,.al [.aa 0 0] 157),(2,.al [.bw 8 0 len len 1 true] 151),(3,fP (w.1.a_ w.2)),(4,fe (w.1.a_ w.2)),(5,ft (w.1.a_ w.2)),(6,fi (w.1.a_ w.2)),(7,fg (w.1.a_ w.2)),(8,.dU dU 3)] 9=IA ae.1 ae.2.1/\ae.1.bk.length+ae.2.2.bo.length<4194304/\ae.2.1.length=ae.2.2.bo.length/\bB ae.2.2)/\Q (.aC []) (j8 (ae.1.tp (List.zip ae.2.2.bo ae.2.1)))))):=by kernel_rfl
theorem afM:∀(l) (m:Em),(m.tp l).bk.length<=m.bk.length+l.length
 |[],m=>by simp[Em.tp]
 |(t,b)::l,m=>by have h1:=afI m t b;have h2:=afM l (m.mK t b);simp only[Em.tp,sV,ei]at h2⊢;omega
theorem LA(m:Em):m.ca.bk=m.bk:=rfl
mutual
theorem X6:∀(m:Em) (r:Int) (t:aF),(m.pN r t).bk.length+1<=m.bk.length+2*bM t
 |m,r,.mk k n s l=>by
  have h1:=X5 m l;have h2:=lO (m.j5 l).1 ⟨15,r,0,0,s,l.length⟩;have h3:=afM (l.zip (m.j5 l).2) ((m.j5 l).1.a_ ⟨15,r,0,0,s,l.length⟩);have h4:(l.zip (m.j5 l).2).length<=l.length:=by simp;omega
  simp only[Em.pN,bM];omega
theorem X5:∀(m:Em) (l:eH),(m.j5 l).1.bk.length+l.length<=m.bk.length+2*bN l
 |m,[]=>by simp[Em.j5,bN]
 |m,t::l=>by
  have hp:=ta t;simp only[Em.j5,bN,ei];split
  .have h1:=X6 m.ca m.ca.c9 t;have h2:=X5 (m.ca.pN m.ca.c9 t) l;rw[LA]at h1;simp only;omega
  .have h2:=X5 m l;simp only;omega
end
theorem amu{len i}(h:i<len):List.replicate (len-i) (0:Int)=0::List.replicate (len-(i+1)) 0:=by
 have:len-i=(len-(i+1))+1:=by omega
 rw[this,List.replicate_succ]
theorem amK{bh len}(x)(h:bh.length<len):
 gE (aX (bh++List.replicate (len-bh.length) 0)) (0+bh.length*1) [J x]=aX ((bh++[x])++List.replicate (len-(bh.length+1)) 0):=by
 rw[amu h];have e:aX (bh++0::List.replicate (len-(bh.length+1)) 0)=(aX bh++[J 0])++aX (List.replicate (len-(bh.length+1)) 0):=by simp[aX]
 have hl:(aX bh).length=bh.length:=by simp[aX]
 unfold gE;rw[e,List.drop_left' (by simp[hl]),km,yh (by simp[hl])];simp[aX]
theorem ayP{bh:LI}{len}(h:bh.length<len):bh++List.replicate (len-bh.length) 0=(bh++[0])++List.replicate (len-(bh.length+1)) 0:=by rw[amu h];simp
theorem ayQ{bh rest}(x):cz Z 3 (aX ((bh++[x])++rest)) (0+bh.length*1)=some (J x):=by rw[NM];simp[aX]
theorem ay3{k n r s l N M BS}(hS:aS Z (Kv N))(ho:bB (.mk k n s l))(hN:bN l<N):
 ∀p:Em×LI,(p.2.length<=l.length/\p.1.bk.length+p.2.length+2*bN (l.drop p.2.length)+2<4194304/\(p.1.j5 (l.drop p.2.length)).1=M/\p.2++(p.1.j5 (l.drop p.2.length)).2=BS)->
 bu Z 163 52 6 (.aC []) (j8 ((M.a_ ⟨15,r,0,0,s,l.length⟩).tp (l.zip BS))) (J6 r (aH l) l.length (p.2.length:Int))
  (Mb p.1 k n s (aH l) l.length (aX (p.2++List.replicate (l.length-p.2.length) 0))) (ax Z 163 0):=by
 have hl:=ho.2.1;refine dF (λp=>l.length-p.2.length) _ _ _ _ ?_;rintro⟨m,bh⟩ ⟨hi,hc,pj,mR⟩ ih;simp only at hi hc pj mR ih⊢;refine hE hS ay5 ?_;refine aD (λay=>?_) λbq=>?_
 .have ay:bh.length<l.length:=by simpa using ay
  have⟨k1,n1,s1,m1,he,b_,aZ⟩:=z9 ay ho.2.2;have cx:=OM ay;rw[he]at cx;have xN:=ta (.mk k1 n1 s1 m1);rw[fV ay,he,bN]at hc;rw[fV ay,he,Em.j5]at pj mR;refine⟨bh.length,rfl,ay,k1,n1,s1,_,_,b_,?_⟩;rw[kU hl ay];refine aD (λhk=>?_) λhk=>?_
  .have hk:k1=3:=by simpa using hk
   rw[aL (show(aF.mk k1 n1 s1 m1).cy=3 from hk)]at pj mR;have hb:=X6 m.ca m.ca.c9 (.mk k1 n1 s1 m1);rw[LA]at hb;refine⟨m,⟨rfl,rfl⟩,rfl,bh.length,rfl,ay,by simp[aX];omega,bh.length,rfl,ay,m.ca.c9,?_,(m.ca,m.ca.c9,.mk k1 n1 s1 m1),⟨rfl,rfl,?_,aZ,?_⟩,?_⟩
   .rw[amK _ ay];exact ayQ _
   .show m.ca.bk.length+_<_;rw[LA];simp only;omega
   .simp only;omega
   .rw[amK _ ay];have:=ih (m.ca.pN m.ca.c9 (.mk k1 n1 s1 m1),bh++[m.ca.c9]) ⟨by simp;omega,by simp;omega,by simpa using pj,by simpa using mR⟩ (by simp;omega);simp only[cL,ei,gY,kD]at this;exact this
  .have hk:k1≠3:=by simpa using hk
   rw[az (show¬(aF.mk k1 n1 s1 m1).cy=3 from hk)]at pj mR;rw[ayP ay];have:=ih (m,bh++[0]) ⟨by simp;omega,by simp;omega,by simpa using pj,by simpa using mR⟩ (by simp;omega);simp only[cL,ei,gY,kD]at this;exact this
 .have bq:l.length<=bh.length:=by simpa using bq
  have fy:bh.length=l.length:=by omega
  rw[gR bq]at pj mR hc;simp only[Em.j5,jH]at pj mR;subst pj mR;have he:=lO m ⟨15,r,0,0,s,l.length⟩;have h0:List.replicate (l.length-bh.length) (0:Int)=[]:=by rw[fy];simp
  rw[h0,jH,<-fy];refine⟨(m,⟨15,r,0,0,s,l.length⟩),⟨by rw[fy];rfl,rfl,by simp only;omega⟩,(m.a_ ⟨15,r,0,0,s,l.length⟩,bh,.mk k n s l),⟨by rw[fy];rfl,rfl,by simp only[aF.bo];omega,by simpa[aF.bo]using fy,ho⟩,rfl,?_⟩;rw[fy];rfl
def ajd(m:Em)(k n:Int)(s:LN)(cs:LV)(len:Nat)(dU:LV):AH:=aq [(0,fF m 1 2 3 4 5),(1,fP m),(2,fe m),(3,ft m),(4,fi m),(5,fg m),(6,.al [.aa 0 0] 157),(7,.al [J k,J n,.ad s,.ah cs len 4] 49),(8,.al [.bw 9 0 len len 1 true] 151),(9,.dU dU 3)] 10
def ajl(m:Em)(k n:Int)(s:LN)(cs:LV)(len:Nat)(dU:LV):AH:=aq [(0,fF m 10 2 3 4 5),(1,.bm []),(2,fe m),(3,ft m),(4,fi m),(5,fg m),(6,.al [.aa 0 0] 157),(7,.al [J k,J n,.ad s,.ah cs len 4] 49),(8,.al [.bw 9 0 len len 1 true] 151),(9,.dU dU 3),(10,fP m)] 11
theorem aw6(m k n s cs len dU):Mv (ajd m k n s cs len dU) (ajl m k n s cs len dU) 1:=
 qk (l':=[(0,fF m 10 2 3 4 5),(1,.bm []),(2,fe m),(3,ft m),(4,fi m),(5,fg m),(6,.al [.aa 0 0] 157),(7,.al [J k,J n,.ad s,.ah cs len 4] 49),(8,.al [.bw 9 0 len len 1 true] 151),(9,.dU dU 3)]) rfl rfl rfl
def an4(r:Int)(cs:LV)(len:Nat)(i:Int):Tr AV:=J6 r cs len i
def al4:List (Nat×Nat):=[(0,0),(1,1),(2,2),(3,3),(4,4),(5,5),(6,6),(7,7),(8,8),(10,9),(9,10)]
theorem aF1(m k n s cs len dU):mB 6 [6,7,8] (ajl m k n s cs len dU)=some ⟨al4,Mb m k n s cs len dU⟩:=by kernel_rfl
theorem aF8(r cs len i):rn (iK al4) (an4 r cs len i) [1,3,5,6,14,15,16]=some (an4 r cs len i):=by kernel_rfl
theorem amx:∀n,kR [J 0] n=aX (List.replicate n 0)
 |0=>rfl
 |n+1=>by simp[kR,amx n,aX,List.replicate_succ]
theorem Jh:∀l,l.length<=bN l
 |[]=>by simp[bN]
 |t::l=>by have:=ta t;have:=Jh l;simp only[bN,ei];omega
theorem amN{N m r k n s l}(hS:aS Z (Kv N))(hc:m.bk.length+2*(1+bN l)<4194304)(ho:bB (.mk k n s l))(hN:bN l<N):
 bX Z 163 [.aa 0 0,J r,.ai [J k,J n,.ad s,.ah (aH l) l.length 4]] (bT m) (.aC []) (j8 (m.pN r (.mk k n s l))):=by
 refine eE 52 hS ay4 ?_;have bS:=Jh l;refine⟨l.length,rfl,by omega,?_⟩;rw[amx];refine uT ?_ (aw6 m k n s (aH l) l.length (aX (List.replicate l.length 0))) (λi a' hi=>⟨a',hi,wz hi (by simp[eM,lu,ajd,aq,eA])⟩);refine cj.tb (by kernel_rfl) (aF1 m k n s (aH l) l.length (aX (List.replicate l.length 0))) (aF8 r (aH l) l.length 0) ?_;exact ay3 hS ho hN (m,[]) ⟨by simp,by simp;omega,rfl,by simp⟩
theorem ao5:∀N,aS Z (Kv N):=by
 refine yl adZ ?_ ?_
 .rintro⟨m,r,t⟩ args H ⟨_,_,_,_,h⟩;omega
 .rintro N hS ⟨m,r,⟨k,n,s,l⟩⟩ args H ⟨rfl,rfl,hc,ho,hN⟩;simp only[bM]at hc hN;exact amN hS hc ho (by omega)
theorem VE:aS Z O2:=by refine cu adZ ?_;rintro⟨m,r,⟨k,n,s,l⟩⟩ args H ⟨rfl,rfl,hc,ho⟩;simp at hc;exact amN (ao5 (bN l+1)) hc ho (by omega)
def Em.pO(m:Em)(w:Int×aF):Em:=
 if w.2.cy=0 then m.wG w else if w.2.cy=1 then m.NR w else if w.2.cy=2 then m.NQ w else m.pN w.1 w.2
def Em.fZ:Nat->Em->eH->Em
 |_,m,[]=>m
 |i,m,t::l=>Em.fZ (i+1) (m.pO (((i+1:Nat):Int),t)) l
def Dy(l:eH):Prop:=∀t∈l,0<=t.cy/\t.cy<4
def aG(g:qD):LV:=[.ai (vP g)]
theorem ap2(a b)(h:aG a=aG b):a=b:=by simp only[aG,iL,AV.ai.injEq,and_true]at h;exact ahk h
def amD(m:Em)(g:qD):Prop:=m.bk.length+2*bN g.fj+1<4194304/\rf g/\Dy g.fj
def VF:Ev.bp:=bR 132 (bW (lW aG (λm g=>m.fZ 0 g.fj) amD) (ve ap2) cB) O2
def Di(a b c d:Nat):bf:=.al [.bn (.func a) [.aa 0 0] [],.bn (.func b) [.aa 0 0] [],.bn (.func c) [.aa 0 0] [],.bn (.func d) [.aa 0 0] []] 207
def Fo(m:Em):AH:=aq [(0,fF m 7 2 3 4 5),(1,.bm []),(2,fe m),(3,ft m),(4,fi m),(5,fg m),(6,Di 160 161 162 163),(7,fP m)] 8
abbrev GC x0 x1 x2:=bg [(4,.aa 6 0),(17,.ah x0 x1 4),(18,J (aP x1)),(19,J x2)]
theorem aBk{m k ar ao v nm cs len L Q}:
 bC Z O2 (λ_=>[4,17,18,19]) L Q 1000 132 [.aa 0 0,.ai [J k,.ad nm,J ar,J ao,.ah cs len 4,J v]] (bT m)=(
 L (GC cs len 0) (aq [(0,fF m 1 2 3 4 5),(1,fP m),(2,fe m),(3,ft m),(4,fi m),(5,fg m),(6,Di 160 161 162 163)] 7) (ax Z 132 0)):=by kernel_rfl
theorem aBl{m i cs len L Q}:
 cg Z O2 (λ_=>[4,17,18,19]) L Q 1000 132 6 (GC cs len i) (ax Z 132 0) (Fo m)=(
 aw (decide (i<aP len)) (∃aJ:Nat,i=(aJ:Int)/\aJ<len/\(∃n aN s bP bI,((cs.drop (aJ*4)).take 4:LV)=[J n,J aN,.ad s,.ah bP bI 4]/\((0:Int)<=n/\n<4)/\(n=0->(∃w:Em×Int×aF,(([.aa 0 0,J (wI (i+1)),.ai [J n,J aN,.ad s,.ah bP bI 4]]:LV)=[.aa 0 0,J w.2.1,.ai (aU w.2.2)]/\bT m=bT w.1/\uh w.1 w.2)/\L (GC cs len (wI (i+1))) (Fo (w.1.wG w.2)) (ax Z 132 0)))/\(n=1->(∃w:Em×Int×aF,(([.aa 0 0,J (wI (i+1)),.ai [J n,J aN,.ad s,.ah bP bI 4]]:LV)=[.aa 0 0,J w.2.1,.ai (aU w.2.2)]/\bT m=bT w.1/\uh w.1 w.2)/\L (GC cs len (wI (i+1))) (Fo (w.1.NR w.2)) (ax Z 132 0)))/\(n=2->(∃w:Em×Int×aF,(([.aa 0 0,J (wI (i+1)),.ai [J n,J aN,.ad s,.ah bP bI 4]]:LV)=[.aa 0 0,J w.2.1,.ai (aU w.2.2)]/\bT m=bT w.1/\uh w.1 w.2)/\L (GC cs len (wI (i+1))) (Fo (w.1.NQ w.2)) (ax Z 132 0)))/\(n=3->(∃w:Em×Int×aF,(([.aa 0 0,J (wI (i+1)),.ai [J n,J aN,.ad s,.ah bP bI 4]]:LV)=[.aa 0 0,J w.2.1,.ai (aU w.2.2)]/\bT m=bT w.1/\amC w.1 w.2)/\L (GC cs len (wI (i+1))) (Fo (w.1.pN w.2.1 w.2.2)) (ax Z 132 0)))/\True)) (Q (.aC []) (j8 m))):=by kernel_rfl
theorem ama(m:Em)(w):(m.pO w).bk.length<=m.bk.length+2*bM w.2:=by
 have hp:=ta w.2;unfold Em.pO;split
 .unfold Em.wG;split
  .have:=U7 m w.2.n 11 12 w.1;omega
  .have:=lO m ⟨11,w.1,w.1,0,[],0⟩;omega
 .split
  .have:=lO m ⟨13,0,w.1,w.2.n,[],0⟩;unfold Em.NR;omega
  .split
   .have:=lO m ⟨14,0,w.1,0,w.2.cO,0⟩;unfold Em.NQ;omega
   .have:=X6 m w.1 w.2;omega
section
variable{m:Em}{k n a:Int}{s:LN}{ts:eH}
theorem ayh(hk:k=0):m.pO (a,.mk k n s ts)=m.wG (a,.mk k n s ts):=by simp[Em.pO,aF.cy,hk]
theorem ayf(hk:k=1):m.pO (a,.mk k n s ts)=m.NR (a,.mk k n s ts):=by simp[Em.pO,aF.cy,hk]
theorem ayd(hk:k=2):m.pO (a,.mk k n s ts)=m.NQ (a,.mk k n s ts):=by simp[Em.pO,aF.cy,hk]
theorem ayg(hk:k=3):m.pO (a,.mk k n s ts)=m.pN a (.mk k n s ts):=by simp[Em.pO,aF.cy,hk]
end
theorem aBj{l M}(hl:dk l.length)(ho:fK l)(hk:Dy l):
 ∀p:Nat×Em,(p.1<=l.length/\p.2.bk.length+2*bN (l.drop p.1)+1<4194304/\Em.fZ p.1 p.2 (l.drop p.1)=M)->
 bu Z 132 33 6 (.aC []) (j8 M) (GC (aH l) l.length (p.1:Int)) (Fo p.2) (ax Z 132 0):=by
 refine dF (λp=>l.length-p.1) _ _ _ _ ?_;rintro⟨i,m⟩ ⟨hi,hc,hf⟩ ih;refine hE VE aBl ?_;refine aD (λay=>?_) λbq=>?_
 .have ay:i<l.length:=by simpa using ay
  have⟨k,n,s,ts,he,b_,aZ⟩:=z9 ay ho;have MJ:=hk l[i] (r8 ay);rw[he]at MJ;rw[fV ay,he]at hf hc;simp only[Em.fZ,bN]at hf hc;have bS:=ama m (((i+1:Nat):Int),.mk k n s ts);simp only at bS;have hr:m.bk.length<4194304:=by omega
  have hrb:m.bk.length+2*bM (.mk k n s ts)<4194304:=by omega
  have next:=ih (i+1,m.pO (((i+1:Nat):Int),.mk k n s ts)) ⟨by simp;omega,by simp only;omega,hf⟩ (by simp;omega)
  refine⟨i,rfl,ay,k,n,s,_,_,b_,MJ,?_⟩;rw[kU hl ay];refine⟨λh=>?_,λh=>?_,λh=>?_,λh=>?_,trivial⟩
  .rw[ayh h]at next
   exact⟨(m,((i+1:Nat):Int),.mk k n s ts),⟨rfl,rfl,hr⟩,next⟩
  .rw[ayf h]at next
   exact⟨(m,((i+1:Nat):Int),.mk k n s ts),⟨rfl,rfl,hr⟩,next⟩
  .rw[ayd h]at next
   exact⟨(m,((i+1:Nat):Int),.mk k n s ts),⟨rfl,rfl,hr⟩,next⟩
  .rw[ayg h]at next
   exact⟨(m,((i+1:Nat):Int),.mk k n s ts),⟨rfl,rfl,hrb,aZ⟩,next⟩
 .have bq:l.length<=i:=by simpa using bq
  rw[gR bq,Em.fZ]at hf;subst hf;exact⟨rfl,rfl⟩
def ajf(m:Em):AH:=aq [(0,fF m 1 2 3 4 5),(1,fP m),(2,fe m),(3,ft m),(4,fi m),(5,fg m),(6,Di 160 161 162 163)] 7
theorem axb(m):Mv (ajf m) (Fo m) 1:=
 qk (l':=[(0,fF m 7 2 3 4 5),(1,.bm []),(2,fe m),(3,ft m),(4,fi m),(5,fg m),(6,Di 160 161 162 163)]) rfl rfl rfl
theorem ad0:aS Z VF:=by refine cu VE ?_;rintro⟨m,⟨k,⟨nm,ar,ao⟩,ls,v⟩⟩ args H ⟨rfl,rfl,hc,ho,hk⟩;refine eS VE (λ_=>[4,17,18,19]) 33 ?_;simp only[lW,aG,vP];rw[aBk];refine uT ?_ (axb m) (λi a' hi=>⟨a',hi,wz hi (by simp[eM,lu,ajf,aq,eA])⟩);exact aBj ho.2.1 ho.2.2 hk (0,m) ⟨by simp,by simp;omega,by simp⟩
def Sx(k n:Int)(s:LN)(len:Nat):LV:=
 if k=1 then[J 1,J n,.ad [],J 0]
 else if k=2 then[J 2,J 0,.ad s,J 0]
 else if k=3 then[J 3,J 0,.ad s,J len]
 else[J 0,J 0,.ad [],J 0]
def aaQ:LV->Option (Prop×AV)
 |[.ai [.bV .i64 k,.bV .i64 n,.ad s,.ah cs len 4]]=>some (True,.ai (Sx k n s len))
 |_=>none
def CC(m:Em)(c_:Bool):AH:=aq [(0,.al [.au c_] 4),(1,.al [.aa 2 0] 157),(2,fF m 3 4 5 6 7),(3,fP m),(4,fe m),(5,ft m),(6,fi m),(7,fg m)] 8
def o63(m:Em)(c_:Bool):AH:=aq [(0,.al [.au c_] 4),(1,.al [.aa 2 0] 157),(2,fF m 8 4 5 6 7),(3,.bm []),(4,fe m),(5,ft m),(6,fi m),(7,fg m),(8,fP m)] 9
theorem axa(m c_):Mv (CC m c_) (o63 m c_) 3:=
 qk (l':=[(0,.al [.au c_] 4),(1,.al [.aa 2 0] 157),(2,fF m 8 4 5 6 7),(3,.bm []),(4,fe m),(5,ft m),(6,fi m),(7,fg m)]) rfl rfl rfl
def Em.df(m:Em)(c_:Bool):Em:=bif c_ then m.a_ ⟨18,0,0,0,[],0⟩else m
def Xp:cq (Em×Bool)where
 bh w A H:=A=[.aa 0 0,.aa 1 0]/\H=CC w.1 w.2/\w.1.bk.length<4194304
 v w:=.aC []
 aK w:=o63 (w.1.df w.2) w.2
theorem axD:Xp.ck:=by
 rintro⟨m,e⟩ ⟨m',e'⟩ A H ⟨_,h2,_⟩ ⟨_,h4,_⟩;rw[h2]at h4;have q:=λi=>congrArg (λH=>AH.bc H i) h4
 have e1:=HW (m:=m) (de (q 2)) (de (q 3)) (de (q 4)) (de (q 5)) (de (q 6)) (de (q 7));have e2:=(bf.al.inj (de (q 0))).1;simp at e2;rw[e1,e2]
def B33:Ev.bp:=fk 93 (fY aaQ) VF
abbrev VG:Ev.bp:=B33
def VI:Ev.bp:=bR 129 (bW Xp axD cB) VG
theorem aAY{k n s cs len L Q}:
 bC Z VF (λ_=>[]) L Q 1000 93 [.ai [J k,J n,.ad s,.ah cs len 4]] an=(
 aw (k==1) (Q (.ai [J 1,J n,.ad [],J 0]) an) (aw (k==2) (Q (.ai [J 2,J 0,.ad s,J 0]) an) (aw (k==3) (Q (.ai [J 3,J 0,.ad s,J (aP len)]) an) (Q (.ai [J 0,J 0,.ad [],J 0]) an)))):=by kernel_rfl
theorem am0{m c_ L Q}:
 bC Z VG (λ_=>[]) L Q 1000 129 [.aa 0 0,.aa 1 0] (CC m c_)=(
 aw c_ (∃w:Em×eG,(([.aa 0 0,.ai [J 18,J 0,J 0,J 0,.ad [],J 0]]:LV)=[.aa 0 0,.ai (dp w.2)]/\bT m=bT w.1/\w.1.bk.length<4194304)/\Q (.aC []) (o63 (w.1.a_ w.2) c_)) (Q (.aC []) (CC m c_))):=by kernel_rfl
theorem ad1:aS Z B33:=by
 refine jG ad0 λargs q v h hq=>?_
 unfold aaQ at h;split at h<;>cases h;refine eE 24 ad0 aAY ?_
 (repeat' (refine aD (λ_=>?_) λ_=>?_))
 all_goals
  refine⟨?_,rfl⟩;simp_all[Sx]
theorem VH:aS Z VG:=ad1
theorem ad2:aS Z VI:=by
 refine cu VH ?_;rintro⟨m,c_⟩ args H ⟨rfl,rfl,hl⟩;cases c_ with
 |true=>refine eE 8 VH am0 ?_;exact aD (λ_=>⟨(m,⟨18,0,0,0,[],0⟩),⟨rfl,rfl,hl⟩,rfl,rfl⟩) λh=>(by cases h)
 |false=>refine E_ (v:=.aC []) ?_ (axa m false) (by simp[eM,nY,Xp]) (cE _);refine eE 8 VH am0 ?_;exact aD (λh=>(by cases h)) λ_=>⟨rfl,rfl⟩
def M0(v:Int)(m:LP):LP:=up v (wI ((lk v m).getD 0+1)) m
mutual
def uJ:LP->aF->LP
 |m,.mk k n _ l=>tw (if k=0 then M0 n m else m) l
def tw:LP->eH->LP
 |m,[]=>m
 |m,t::l=>tw (uJ m t) l
end
def mH(m:LP):AH:=aq [(0,.aY (bO J 0 m) m.length true)] 1
def agr(N:Nat):cq (LP×aF)where
 bh w A H:=A=[.aB 0,.ai (aU w.2)]/\H=mH w.1/\bB w.2/\bM w.2<N
 v w:=.aC []
 aK w:=mH (uJ w.1 w.2)
theorem akT{m m'}(h:mH m=mH m'):m=m':=by have q:=congrArg (λH=>AH.bc H 0) h;have q:=de q;simp at q;exact sE yx q.1
theorem arw(N):(agr N).ck:=by rintro⟨m,t⟩ ⟨m',t'⟩ A H ⟨h1,h2,_⟩ ⟨h3,h4,_⟩;simp only at h1 h2 h3 h4;rw[h2]at h4;rw[h1]at h3;simp at h3;rw[akT h4,lP h3]
def Kx(N:Nat):Ev.bp:=bR 124 (bW (agr N) (arw N) cB) VI
def ags:cq (LP×aF)where
 bh w A H:=A=[.aB 0,.ai (aU w.2)]/\H=mH w.1/\bB w.2
 v w:=.aC []
 aK w:=mH (uJ w.1 w.2)
theorem arx:ags.ck:=by rintro⟨m,t⟩ ⟨m',t'⟩ A H ⟨h1,h2,_⟩ ⟨h3,h4,_⟩;simp only at h1 h2 h3 h4;rw[h2]at h4;rw[h1]at h3;simp at h3;rw[akT h4,lP h3]
def G0:Ev.bp:=bR 124 (bW ags arx cB) VI
abbrev Ov x0 x1 x2:=bg [(0,.aB 0),(15,.ah x0 x1 4),(16,J (aP x1)),(17,J x2)]
theorem aBb{m k n s cs len N L Q}:
 bC Z (Kx N) (λ_=>[0,15,16,17]) L Q 1000 124 [.aB 0,.ai [J k,J n,.ad s,.ah cs len 4]] (mH m)=(
 aw (k==0) (∃aN:Int,∃b:Bool,eZ Z 2 3 (bO J 0 m) (J n)=some (J aN,b)/\(∃bJ:List (AV×AV×Nat),∃c':Nat,j9 Z 2 (bO J 0 m) m.length (J n) (J (wI (aN+1)))=some (bJ,c')/\L (Ov cs len 0) (aq [(0,.aY bJ c' true)] 1) (ax Z 124 0))) (L (Ov cs len 0) (mH m) (ax Z 124 0))):=by kernel_rfl
theorem aBc{m i cs len N L Q}:
 cg Z (Kx N) (λ_=>[0,15,16,17]) L Q 1000 124 1 (Ov cs len i) (ax Z 124 0) (mH m)=(
 aw (decide (i<aP len)) (∃aJ:Nat,i=(aJ:Int)/\aJ<len/\(∃n:Int,∃aN:Int,∃s:LN,∃bP:LV,∃bI:Nat,((cs.drop (aJ*4)).take 4:LV)=[J n,J aN,.ad s,.ah bP bI 4]/\(∃w:List (Int×Int)×aF,(([.aB 0,.ai [J n,J aN,.ad s,.ah bP bI 4]]:LV)=[.aB 0,.ai (aU w.2)]/\mH m=mH w.1/\bB w.2/\bM w.2<N)/\L (Ov cs len (wI (i+1))) (mH (uJ w.1 w.2)) (ax Z 124 0)))) (Q (.aC []) (mH m))):=by kernel_rfl
theorem akF(m v):∃n:Int,∃b:Bool,eZ Z 2 3 (bO J 0 m) (J v)=some (J n,b)/\(lk v m).getD 0=n:=by
 rw[pv _ jy];cases lk v m with
 |none=>exact⟨0,false,by rw[GQ];rfl,rfl⟩
 |some b=>exact⟨b,true,rfl,rfl⟩
theorem amY{l N M}(hS:aS Z (Kx N))(hl:dk l.length)(ho:fK l)(hN:bN l<N):
 ∀p:Nat×LP,(p.1<=l.length/\tw p.2 (l.drop p.1)=M)->
 bu Z 124 25 1 (.aC []) (mH M) (Ov (aH l) l.length (p.1:Int)) (mH p.2) (ax Z 124 0):=by
 refine dF (λp=>l.length-p.1) _ _ _ _ ?_;rintro⟨i,m⟩ ⟨hi,hf⟩ ih;refine hE hS aBc ?_;refine aD (λay=>?_) λbq=>?_
 .have ay:i<l.length:=by simpa using ay
  rw[fV ay,tw]at hf;obtain⟨k,n,s,ts,hf,-,b_,aZ,cx⟩:=wQ ay ho hN (P:=λu=>tw (uJ m u) (l.drop (i+1))=M) hf;refine⟨i,rfl,ay,k,n,s,_,_,b_,?_⟩;rw[kU hl ay];exact⟨(m,.mk k n s ts),⟨rfl,rfl,aZ,cx⟩,ih (i+1,uJ m (.mk k n s ts)) ⟨by simp;omega,hf⟩ (by simp;omega)⟩
 .have bq:l.length<=i:=by simpa using bq
  rw[gR bq,tw]at hf;subst hf;exact⟨rfl,rfl⟩
theorem amX{N m k n s l}(hS:aS Z (Kx N))(ho:bB (.mk k n s l))(hN:bN l<N):
 bX Z 124 [.aB 0,.ai [J k,J n,.ad s,.ah (aH l) l.length 4]] (mH m) (.aC []) (mH (uJ m (.mk k n s l))):=by
 refine eE 25 hS aBb ?_;refine aD (λhk=>?_) λhk=>?_
 .have hk:k=0:=by simpa using hk
  have⟨c,b,h1,h2⟩:=akF m n;refine⟨c,b,h1,_,_,pG J jy,?_⟩;exact amY hS ho.2.1 ho.2.2 hN (0,up n (wI (c+1)) m) ⟨by simp,by simp only[uJ,hk,if_true,M0,h2,ye]⟩
 .have hk:k≠0:=by simpa using hk
  exact amY hS ho.2.1 ho.2.2 hN (0,m) ⟨by simp,by simp only[uJ,az hk,ye]⟩
theorem ao6:∀N,aS Z (Kx N):=by
 refine yl ad2 ?_ ?_
 .rintro⟨m,t⟩ args H ⟨_,_,_,h⟩;omega
 .rintro N hS ⟨m,⟨k,n,s,l⟩⟩ args H ⟨rfl,rfl,ho,hN⟩;simp only[bM]at hN;exact amX hS ho (by omega)
theorem Ky:aS Z G0:=by refine cu ad2 ?_;rintro⟨m,⟨k,n,s,l⟩⟩ args H ⟨rfl,rfl,ho⟩;exact amX (ao6 (bN l+1)) ho (by omega)
def Ni:Nat->LN:=fh [(3,[1,3,12,13,14]),(8,[3,23,24,25]),(11,[3,7,23,24,25,30,31,32])]
def Jc(k:Int):Bool:=k==2||k==3||k==4
def Yj(m:LP)(g:qD):LP:=if Jc g.fM then M0 g.n7 (tw m g.fj)else tw m g.fj
def Yk(m:LP)(l:gi):LP:=l.foldl Yj m
def vO(f:bG):LP:=Yk (tw [] f.bL) f.ba
def Yi:cq bG where
 bh f A H:=A=[.ai (gP f)]/\H=an/\ig f
 v f:=.aB 0
 aK f:=mH (vO f)
theorem arv:Yi.ck:=by rintro f g A H ⟨h1,_⟩ ⟨h2,_⟩;rw[h1]at h2;simp at h2;rw[yY _ _ h2]
def O3:Ev.bp:=bR 87 (bW Yi arv cB) G0
def Rj(m:LP)(k v ar ao:Int)(nm:LN)(cs:LV)(len:Nat):AH:=aq [(0,.aY (bO J 0 m) m.length true),(1,.al [J k,.ad nm,J ar,J ao,.ah cs len 4,J v] 146)] 2
def Y3(m:LP)(nm:LN)(ar ao:Int)(cs:LV)(len:Nat)(gs:LV)(gl:Nat):AH:=aq [(0,.al [.ad nm,J ar,J ao,.ah cs len 4,.ah gs gl 6] 106),(1,.aY (bO J 0 m) m.length true)] 2
abbrev Ug x0 x1 x2:=bg [(1,.aa 0 0),(3,.aB 1),(12,.ah x0 x1 4),(13,J (aP x1)),(14,J x2)]
theorem aAH{nm ar ao cs len gs gl L Q}:
 bC Z G0 Ni L Q 1000 87 [.ai [.ad nm,J ar,J ao,.ah cs len 4,.ah gs gl 6]] an=(
 L (Ug cs len 0) (aq [(0,.al [.ad nm,J ar,J ao,.ah cs len 4,.ah gs gl 6] 106),(1,.aY [] 0 true)] 2) (ax Z 87 0)):=by kernel_rfl
abbrev wV x0 x1 x2:=bg [(3,.aB 0),(23,.ah x0 x1 6),(24,J (aP x1)),(25,J x2)]
theorem aAI{m nm ar ao i cs len gs gl L Q}:
 cg Z G0 Ni L Q 1000 87 0 (Ug cs len i) (ax Z 87 0) (Y3 m nm ar ao cs len gs gl)=(
 aw (decide (i<aP len)) (∃aJ:Nat,i=(aJ:Int)/\aJ<len/\(∃n:Int,∃aN:Int,∃s:LN,∃bP:LV,∃bI:Nat,((cs.drop (aJ*4)).take 4:LV)=[J n,J aN,.ad s,.ah bP bI 4]/\(∃w:List (Int×Int)×aF,(([.aB 0,.ai [J n,J aN,.ad s,.ah bP bI 4]]:LV)=[.aB 0,.ai (aU w.2)]/\mH m=mH w.1/\bB w.2)/\L (Ug cs len (wI (i+1))) (Y3 (uJ w.1 w.2) nm ar ao cs len gs gl) (ax Z 87 0)))) (L (wV gs gl 0) (mH m) (ax Z 87 1))):=by kernel_rfl
abbrev Uh x0 x1 x2 x3 x4 x5:=bg [(3,.aB 0),(7,.aa 1 0),(23,.ah x0 x1 6),(24,J (aP x1)),(25,J x2),(30,.ah x3 x4 4),(31,J (aP x4)),(32,J x5)]
theorem aAJ{m i gs gl L Q}:
 cg Z G0 Ni L Q 1000 87 0 (wV gs gl i) (ax Z 87 1) (mH m)=(
 aw (decide (i<aP gl)) (∃aJ:Nat,i=(aJ:Int)/\aJ<gl/\(∃n:Int,∃s:LN,∃aN:Int,∃bz:Int,∃cs:LV,∃len:Nat,∃ct:Int,((gs.drop (aJ*6)).take 6:LV)=[J n,.ad s,J aN,J bz,.ah cs len 4,J ct]/\L (Uh gs gl i cs len 0) (Rj m n ct aN bz s cs len) (ax Z 87 2))) (Q (.aB 0) (mH m))):=by kernel_rfl
theorem aAK{m i j k v ar ao nm cs len gs gl L Q}:
 cg Z G0 Ni L Q 1000 87 0 (Uh gs gl i cs len j) (ax Z 87 2) (Rj m k v ar ao nm cs len)=(
 aw (decide (j<aP len)) (∃aJ:Nat,j=(aJ:Int)/\aJ<len/\(∃n:Int,∃aN:Int,∃s:LN,∃bP:LV,∃bI:Nat,((cs.drop (aJ*4)).take 4:LV)=[J n,J aN,.ad s,.ah bP bI 4]/\(∃w:List (Int×Int)×aF,(([.aB 0,.ai [J n,J aN,.ad s,.ah bP bI 4]]:LV)=[.aB 0,.ai (aU w.2)]/\mH m=mH w.1/\bB w.2)/\L (Uh gs gl i cs len (wI (j+1))) (Rj (uJ w.1 w.2) k v ar ao nm cs len) (ax Z 87 2)))) (aw (k==2) (aw (k==2) (∃n:Int,∃b:Bool,eZ Z 2 3 (bO J 0 m) (J v)=some (J n,b)/\(∃bJ:List (AV×AV×Nat),∃c':Nat,j9 Z 2 (bO J 0 m) m.length (J v) (J (wI (n+1)))=some (bJ,c')/\L (wV gs gl (wI (i+1))) (aq [(0,.aY bJ c' true)] 1) (ax Z 87 1))) (L (wV gs gl (wI (i+1))) (mH m) (ax Z 87 1))) (aw (k==3) (aw (k==3) (∃n:Int,∃b:Bool,eZ Z 2 3 (bO J 0 m) (J v)=some (J n,b)/\(∃bJ:List (AV×AV×Nat),∃c':Nat,j9 Z 2 (bO J 0 m) m.length (J v) (J (wI (n+1)))=some (bJ,c')/\L (wV gs gl (wI (i+1))) (aq [(0,.aY bJ c' true)] 1) (ax Z 87 1))) (L (wV gs gl (wI (i+1))) (mH m) (ax Z 87 1))) (aw (k==4) (∃n:Int,∃b:Bool,eZ Z 2 3 (bO J 0 m) (J v)=some (J n,b)/\(∃bJ:List (AV×AV×Nat),∃c':Nat,j9 Z 2 (bO J 0 m) m.length (J v) (J (wI (n+1)))=some (bJ,c')/\L (wV gs gl (wI (i+1))) (aq [(0,.aY bJ c' true)] 1) (ax Z 87 1))) (L (wV gs gl (wI (i+1))) (mH m) (ax Z 87 1)))))):=by kernel_rfl
theorem aAG{gs M m' i k v ar ao nm l}(MH:dk gs.length)(hi:i<gs.length)(hl:dk l.length)(ho:fK l)(eJ:bu Z 87 53 0 (.aB 0) (mH M) (wV (bD gs) gs.length ((i+1:Nat):Int)) (mH m') (ax Z 87 1)):
 ∀p:Nat×LP,(p.1<=l.length/\(if Jc k then M0 v (tw p.2 (l.drop p.1))else tw p.2 (l.drop p.1))=m')->
 bu Z 87 53 0 (.aB 0) (mH M) (Uh (bD gs) gs.length (i:Int) (aH l) l.length (p.1:Int)) (Rj p.2 k v ar ao nm (aH l) l.length) (ax Z 87 2):=by
 refine dF (λp=>l.length-p.1) _ _ _ _ ?_;rintro⟨j,m⟩ ⟨hj,hf⟩ ih;refine hE Ky aAK ?_;refine aD (λay=>?_) λbq=>?_
 .have ay:j<l.length:=by simpa using ay
  have⟨k1,n1,s1,ts,he,b_,aZ⟩:=z9 ay ho;rw[fV ay,he]at hf;refine⟨j,rfl,ay,k1,n1,s1,_,_,b_,?_⟩;rw[kU hl ay];exact⟨(m,.mk k1 n1 s1 ts),⟨rfl,rfl,aZ⟩,ih (j+1,uJ m (.mk k1 n1 s1 ts)) ⟨by simp;omega,hf⟩ (by simp;omega)⟩
 .have bq:l.length<=j:=by simpa using bq
  rw[gR bq]at hf;simp only[tw]at hf;rw[kU MH hi];have⟨c,b,h1,h2⟩:=akF m v;have yB:Jc k=true->∃n:Int,∃b:Bool,(eZ Z 2 3 (bO J 0 m) (J v)=some ((J n,b)))/\∃bJ:List (AV×AV×Nat),∃c':Nat,(j9 Z 2 (bO J 0 m) (List.length m) (J v) (J (wI (n+1)))=some ((bJ,c')))/\
   bu Z 87 53 0 (.aB 0) (mH M) (wV (bD gs) gs.length ((i+1:Nat):Int)) (aq [(0,.aY bJ c' true)] 1) (ax Z 87 1):=by
   intro h;rw[aL h]at hf;refine⟨c,b,h1,_,_,pG J jy,?_⟩;rw[<-hf]at eJ;simp only[M0,h2]at eJ;exact eJ
  have no:Jc k=false->bu Z 87 53 0 (.aB 0) (mH M) (wV (bD gs) gs.length ((i+1:Nat):Int)) (aq [(0,.aY (bO J 0 m) m.length true)] 1) (ax Z 87 1):=by intro h;rw[az (by simp[h])]at hf;rw[<-hf]at eJ;exact eJ
  (repeat' (refine aD (λ_=>?_) λ_=>?_))
  all_goals first
   |(refine yB ?_;clear yB no;simp_all[Jc];done)
   |(refine no ?_;clear yB no;simp_all[Jc];done)
   |(exfalso;clear yB no;simp_all;done)
theorem aAF{gs M}(MH:dk gs.length)(I5:∀g∈gs,rf g):
 ∀p:Nat×LP,(p.1<=gs.length/\Yk p.2 (gs.drop p.1)=M)->
 bu Z 87 53 0 (.aB 0) (mH M) (wV (bD gs) gs.length (p.1:Int)) (mH p.2) (ax Z 87 1):=by
 refine dF (λp=>gs.length-p.1) _ _ _ _ ?_;rintro⟨i,m⟩ ⟨hi,hf⟩ ih;refine hE Ky aAJ ?_;refine aD (λay=>?_) λbq=>?_
 .have ay:i<gs.length:=by simpa using ay
  have⟨k,nm,ar,ao,ls,v,he,b_,aZ⟩:=Cx ay I5;rw[fV ay,he]at hf;refine⟨i,rfl,ay,k,nm,ar,ao,_,_,v,b_,?_⟩;exact aAG MH ay aZ.2.1 aZ.2.2 (ih (i+1,Yj m ⟨k,⟨nm,ar,ao⟩,ls,v⟩) ⟨by simp;omega,hf⟩ (by simp;omega)) (0,m) ⟨by simp,by simp only[Yj,ye]⟩
 .have bq:gs.length<=i:=by simpa using bq
  rw[gR bq]at hf;subst hf;exact⟨rfl,rfl⟩
theorem aAE{gs M nm ar ao l}(MH:dk gs.length)(I5:∀g∈gs,rf g)(hl:dk l.length)(ho:fK l):
 ∀p:Nat×LP,(p.1<=l.length/\Yk (tw p.2 (l.drop p.1)) gs=M)->
 bu Z 87 53 0 (.aB 0) (mH M) (Ug (aH l) l.length (p.1:Int)) (Y3 p.2 nm ar ao (aH l) l.length (bD gs) gs.length) (ax Z 87 0):=by
 refine dF (λp=>l.length-p.1) _ _ _ _ ?_;rintro⟨j,m⟩ ⟨hj,hf⟩ ih;refine hE Ky aAI ?_;refine aD (λay=>?_) λbq=>?_
 .have ay:j<l.length:=by simpa using ay
  have⟨k1,n1,s1,ts,he,b_,aZ⟩:=z9 ay ho;rw[fV ay,he]at hf;refine⟨j,rfl,ay,k1,n1,s1,_,_,b_,?_⟩;rw[kU hl ay];exact⟨(m,.mk k1 n1 s1 ts),⟨rfl,rfl,aZ⟩,ih (j+1,uJ m (.mk k1 n1 s1 ts)) ⟨by simp;omega,hf⟩ (by simp;omega)⟩
 .have bq:l.length<=j:=by simpa using bq
  rw[gR bq]at hf;simp only[tw]at hf;exact aAF MH I5 (0,m) ⟨by simp,by simpa using hf⟩
theorem VJ:aS Z O3:=by refine cu Ky ?_;rintro⟨⟨nm,ar,ao⟩,l,gs⟩ args H ⟨rfl,rfl,ho⟩;refine eS Ky Ni 53 ?_;simp only[Yi,gP];rw[aAH];exact aAE ho.2.2.2.1 ho.2.2.2.2 ho.2.1 ho.2.2.1 (0,[]) ⟨by simp,by simp only[vO,ye]⟩
structure mI where
 cC:LI
 bA:LI
 aR:LI
def QE(c:mI):LV:=[.aj 0 c.cC.length 1,.aj 1 c.bA.length 1,.aj 2 c.aR.length 1]
def yR(c:mI):AH:=aq [(0,.aA (aX c.cC) 3),(1,.aA (aX c.bA) 2),(2,.aA (aX c.aR) 3)] 3
def xU:gi->Bool
 |[]=>false
 |[_]=>false
 |g::l=>g.fM==1||xU l
def sH(f:bG)(c:mI):Bool:=xU f.ba||decide (0<c.bA.length)
def YY:cq (bG×mI)where
 bh w A H:=A=[.ai (gP w.1),.ai (QE w.2)]/\H=yR w.2/\ig w.1
 v w:=.au (sH w.1 w.2)
 aK w:=yR w.2
theorem arj{c d}(h:yR c=yR d):c=d:=by
 have q:=λi=>congrArg (λH=>AH.bc H i) h
 have q0:=de (q 0);have q1:=de (q 1);have q2:=de (q 2);have⟨a,b,e⟩:=c;have⟨a',b',e'⟩:=d;rw[mI.mk.injEq];exact⟨zQ (bf.aA.inj q0).1,zQ (bf.aA.inj q1).1,zQ (bf.aA.inj q2).1⟩
theorem ata:YY.ck:=by rintro⟨f,c⟩ ⟨f',c'⟩ A H ⟨h1,h2,_⟩ ⟨h3,h4,_⟩;rw[h2]at h4;rw[h1]at h3;have:=arj h4;subst this;simp at h3;rw[yY _ _ h3]
def VK:Ev.bp:=bR 88 (bW YY ata cB) O3
def h25(nm:LN)(ar ao:Int)(cs:LV)(len:Nat)(gs:LV)(gl:Nat)(c:mI):AH:=aq [(0,.aA (aX c.cC) 3),(1,.aA (aX c.bA) 2),(2,.aA (aX c.aR) 3),(3,.al [.ad nm,J ar,J ao,.ah cs len 4,.ah gs gl 6] 106),(4,.al (QE c) 153)] 5
abbrev Ow x0 x1 x2:=bg [(2,.aa 3 0),(3,.aa 4 0),(8,.ah x0 x1 6),(9,J (Int.ofNat x1)),(10,J x2)]
theorem aAM{nm ar ao cs len gs gl c L Q}:
 bC Z O3 (λ_=>[2,3,8,9,10]) L Q 1000 88 [.ai [.ad nm,J ar,J ao,.ah cs len 4,.ah gs gl 6],.ai (QE c)] (yR c)=(
 L (Ow gs gl 0) (aq [(0,.aA (aX c.cC) 3),(1,.aA (aX c.bA) 2),(2,.aA (aX c.aR) 3),(3,.al [.ad nm,J ar,J ao,.ah cs len 4,.ah gs gl 6] 106),(4,.al [.aj 0 c.cC.length 1,.aj 1 c.bA.length 1,.aj 2 c.aR.length 1] 153)] 5) (ax Z 88 0)):=by kernel_rfl
theorem aAN{nm ar ao i cs len gs gl c L Q}:
 cg Z O3 (λ_=>[2,3,8,9,10]) L Q 1000 88 3 (Ow gs gl i) (ax Z 88 0) (h25 nm ar ao cs len gs gl c)=(
 aw (decide (i<Int.ofNat gl)) (∃aJ:Nat,i=(aJ:Int)/\aJ<gl/\(∃n:Int,∃s:LN,∃aN:Int,∃bz:Int,∃bP:LV,∃bI:Nat,∃ct:Int,((gs.drop (aJ*6)).take 6:LV)=[J n,.ad s,J aN,J bz,.ah bP bI 4,J ct]/\aw (n==1) (aw (decide (i<wI (Int.ofNat gl-1))) (Q (.au true) (yR c)) (L (Ow gs gl (wI (i+1))) (aq [(0,.aA (aX c.cC) 3),(1,.aA (aX c.bA) 2),(2,.aA (aX c.aR) 3),(3,.al [.ad nm,J ar,J ao,.ah cs len 4,.ah gs gl 6] 106),(4,.al [.aj 0 c.cC.length 1,.aj 1 c.bA.length 1,.aj 2 c.aR.length 1] 153)] 5) (ax Z 88 0))) (L (Ow gs gl (wI (i+1))) (aq [(0,.aA (aX c.cC) 3),(1,.aA (aX c.bA) 2),(2,.aA (aX c.aR) 3),(3,.al [.ad nm,J ar,J ao,.ah cs len 4,.ah gs gl 6] 106),(4,.al [.aj 0 c.cC.length 1,.aj 1 c.bA.length 1,.aj 2 c.aR.length 1] 153)] 5) (ax Z 88 0)))) (Q (.au (decide (Int.ofNat c.bA.length>0))) (yR c))):=by kernel_rfl
theorem avT{gs:gi}{i}(h:i<gs.length):xU (gs.drop i)=((gs[i].fM==1&&decide (i+1<gs.length))||xU (gs.drop (i+1))):=by
 rw[fV h];cases hd:gs.drop (i+1)with
 |nil=>
  have:¬i+1<gs.length:=by have:=List.drop_eq_nil_iff.1 hd;omega
  simp[xU,this]
 |cons g l=>
  have:i+1<gs.length:=by
   rcases Gk (i+1) gs.length with h|h
   .exact h
   .rw[gR h]at hd;cases hd
  simp[xU,this]
theorem aAL{nm ar ao cs len gs c aI}(hl:dk gs.length)(ho:∀g∈gs,rf g):
 ∀i:Nat,(i<=gs.length/\(xU (gs.drop i)||decide (0<c.bA.length))=aI)->
 bu Z 88 31 3 (.au aI) (yR c) (Ow (bD gs) gs.length (i:Int)) (h25 nm ar ao cs len (bD gs) gs.length c) (ax Z 88 0):=by
 refine dF (λi=>gs.length-i) _ _ _ _ ?_;rintro i ⟨hi,hf⟩ ih;refine hE VJ aAN ?_;refine aD (λay=>?_) λbq=>?_
 .have ay:i<gs.length:=by simpa using ay
  have⟨k,oS,XD,XO,ls,v,he,b_,aZ⟩:=Cx ay ho;rw[avT ay,he]at hf;refine⟨i,rfl,ay,k,oS,XD,XO,_,_,v,b_,?_⟩;have e:wI (Int.ofNat gs.length-1)=(gs.length:Int)-1:=by unfold dk at hl;rw[cH (by simp;omega) (by simp;omega)];simp
  rw[kU hl ay,e];refine aD (λhk=>aD (λh2=>?_) λh2=>?_) λhk=>?_
  .have h2:i+1<gs.length:=by simp at h2;omega
   simp[hk,h2]at hf;exact⟨by rw[<-hf],rfl⟩
  .have h2:¬i+1<gs.length:=by simp at h2;omega
   simp only[h2,decide_false,Gm,Bool.false_or]at hf;exact ih (i+1) ⟨by omega,hf⟩ (by omega)
  .simp only[hk,sZ,Bool.false_or]at hf;exact ih (i+1) ⟨by omega,hf⟩ (by omega)
 .have bq:gs.length<=i:=by simpa using bq
  rw[gR bq]at hf;subst hf;exact⟨by simp[xU],rfl⟩
theorem ad3:aS Z VK:=by refine cu VJ ?_;rintro⟨⟨⟨nm,ar,ao⟩,l,gs⟩,c⟩ args H ⟨rfl,rfl,ho⟩;refine eS VJ (λ_=>[2,3,8,9,10]) 31 ?_;simp only[YY,gP];rw[aAM];exact aAL ho.2.2.2.1 ho.2.2.2.2 0 ⟨by omega,by simp only[sH,ye]⟩
def AJ(w:Int×aF):LV:=J w.1::aU w.2
def oi:List (Int×aF)->LV
 |[]=>[]
 |w::l=>AJ w++oi l
theorem QM(w):(AJ w).length=5:=by simp[AJ,tA]
theorem YU:∀l,(oi l).length=l.length*5
 |[]=>rfl
 |t::l=>by simp[oi,QM,YU l];omega
theorem ahp:∀l m:List (Int×aF),oi (l++m)=oi l++oi m
 |[],m=>rfl
 |t::l,m=>by simp[oi,ahp l m]
theorem asU{a b}(h:AJ a=AJ b):a=b:=by have⟨r,t⟩:=a;have⟨r',t'⟩:=b;simp only[AJ,iL,AV.bV.injEq,true_and]at h;obtain⟨rfl,h⟩:=h;rw[lP h]
theorem YT:∀{l m},oi l=oi m->l=m
 |[],[],_=>rfl
 |[],i::_,h=>by simp[oi,AJ]at h
 |i::_,[],h=>by simp[oi,AJ]at h
 |t::l,u::m,h=>by have h2:=mr h (by rw[QM,QM]);rw[asU h2.1,YT h2.2]
def Tf(l:List (Int×aF)):Prop:=∀w∈l,bB w.2
def fL:List (Int×aF)->Nat
 |[]=>0
 |w::l=>1+2*bN w.2.bo+fL l
theorem N_:∀l m:List (Int×aF),fL (l++m)=fL l+fL m
 |[],m=>by simp[fL]
 |t::l,m=>by simp[fL,N_ l m];omega
theorem aks:∀l,l.length<=fL l
 |[]=>by simp
 |t::l=>by have:=aks l;simp only[fL,ei];omega
def Em.jt(m:Em)(t:aF):Em×List (Int×aF):=
 if t.cy=0 then(if m.qM t.n>1 then m.n8 t.n 6 7 0 else m.a_ ⟨10,0,0,1,[],0⟩,[])
 else if t.cy=1 then(m.a_ ⟨8,0,0,t.n,[],0⟩,[])
 else if t.cy=2 then(m.a_ ⟨9,0,0,0,t.cO,0⟩,[])
 else(m.ca.a_ ⟨6,m.ca.c9,0,0,[],0⟩,[(m.ca.c9,t)])
def Em.ju:Em->List (Int×aF)->eH->Em×List (Int×aF)
 |m,q,[]=>(m,q)
 |m,q,t::l=>Em.ju (m.jt t).1 (q++(m.jt t).2) l
def Em.vU:Nat->Em->List (Int×aF)->Em
 |0,m,_=>m
 |_+1,m,[]=>m
 |n+1,m,w::q=>Em.vU n ((m.a_ ⟨5,0,w.1,0,w.2.cO,w.2.bo.length⟩).ju q w.2.bo).1 ((m.a_ ⟨5,0,w.1,0,w.2.cO,w.2.bo.length⟩).ju q w.2.bo).2
def Em.Is(m:Em)(w:Int×aF):Em:=Em.vU (fL [w]+1) m [w]
def kJ(i:Nat):bf:=.al [.aa i 0] 157
def oX(q:List (Int×aF)):bf:=.aA (oi q) 228
def wO(w:Int×aF):bf:=.al [J w.1,J w.2.cy,J w.2.n,.ad w.2.cO,.ah (aH w.2.bo) w.2.bo.length 4] 228
theorem aGe{w w'}(h:wO w=wO w'):w=w':=by have⟨r,⟨k,n,s,l⟩⟩:=w;have⟨r',⟨k',n',s',l'⟩⟩:=w';simp only[wO,aF.cy,aF.n,aF.cO,aF.bo,bf.al.injEq,iL,AV.bV.injEq,AV.ad.injEq,AV.ah.injEq,true_and,and_true]at h;obtain⟨rfl,rfl,rfl,rfl,h1,h2⟩:=h;rw[tB h2 h1]
def Zt(m:Em)(q:List (Int×aF))(w:Int×aF):AH:=aq [(0,kJ 3),(1,.al [.aj 4 q.length 5] 229),(2,wO w),(3,fF m 5 6 7 8 9),(4,oX q),(5,fP m),(6,fe m),(7,ft m),(8,fi m),(9,fg m)] 10
def aly(m:Em)(q:List (Int×aF))(w:Int×aF):AH:=aq [(0,kJ 3),(1,.al [.aj 10 q.length 5] 229),(2,wO w),(3,fF m 11 6 7 8 9),(4,.bm []),(5,.bm []),(6,fe m),(7,ft m),(8,fi m),(9,fg m),(10,oX q),(11,fP m)] 12
def Mf(m:Em)(q:List (Int×aF))(w:Int×aF):AH:=aq [(0,fF m 4 5 6 7 8),(1,kJ 0),(2,.al [.bw 9 5 q.length 0 5 false] 229),(3,wO w),(4,fP m),(5,fe m),(6,ft m),(7,fi m),(8,fg m),(9,oX (w::q))] 10
def ajH(m:Em)(q:List (Int×aF))(w:Int×aF):AH:=aq [(0,fF m 10 5 6 7 8),(1,kJ 0),(2,.al [.bw 9 5 q.length 0 5 false] 229),(3,wO w),(4,.bm []),(5,fe m),(6,ft m),(7,fi m),(8,fg m),(9,oX (w::q)),(10,fP m)] 11
def NA(m:Em)(q:List (Int×aF))(w:Int×aF):AH:=aq [(0,fF m 10 5 6 7 8),(1,kJ 0),(2,.al [.aj 11 q.length 5] 229),(3,wO w),(4,.bm []),(5,fe m),(6,ft m),(7,fi m),(8,fg m),(9,.bm []),(10,fP m),(11,oX q)] 12
def Xo:cq (Em×List (Int×aF)×(Int×aF)×Nat)where
 bh w A H:=A=[J (w.2.2.2:Int),.aa 0 0,.aa 1 0,.aa 2 0]/\H=Zt w.1 w.2.1 w.2.2.1/\w.1.bk.length<4194304/\w.2.1.length<4194304/\w.2.2.2<w.2.2.1.2.bo.length
 v w:=.aC []
 aK w:=aly (w.1.ca.a_ ⟨6,w.1.ca.c9,0,0,[],0⟩) (w.2.1++[(w.1.ca.c9,w.2.2.1.2.bo.getD w.2.2.2 default)]) w.2.2.1
def Xs:cq (Em×List (Int×aF)×(Int×aF))where
 bh w A H:=A=[.aa 0 0,.ai (aU w.2.2.2),.bn (.func 157) [] [.aa 1 0,.aa 2 0,.aa 3 0]]/\H=Mf w.1 w.2.1 w.2.2/\w.1.bk.length+fL w.2.1+2*bN w.2.2.2.bo<4194304/\bB w.2.2.2
 v w:=.aC []
 aK w:=NA (w.1.ju w.2.1 w.2.2.2.bo).1 (w.1.ju w.2.1 w.2.2.2.bo).2 w.2.2
theorem axA:Xo.ck:=by
 rintro⟨m,q,w,i⟩ ⟨m',q',w',i'⟩ A H ⟨h1,h2,_⟩ ⟨h3,h4,_⟩;simp only at h1 h2 h3 h4;rw[h1]at h3;rw[h2]at h4;have k:=λi=>congrArg (λH=>AH.bc H i) h4
 have e:=HW (de (k 3)) (de (k 5)) (de (k 6)) (de (k 7)) (de (k 8)) (de (k 9));have e2:=YT (bf.aA.inj (de (k 4))).1;have e3:=aGe (de (k 2));simp at h3;have e4:i=i':=by omega
 rw[e,e2,e3,e4]
theorem axF:Xs.ck:=by
 rintro⟨m,q,w⟩ ⟨m',q',w'⟩ A H ⟨h1,h2,_⟩ ⟨h3,h4,_⟩;simp only at h1 h2 h3 h4;rw[h1]at h3;rw[h2]at h4;have k:=λi=>congrArg (λH=>AH.bc H i) h4
 have e:=HW (de (k 0)) (de (k 4)) (de (k 5)) (de (k 6)) (de (k 7)) (de (k 8));have e2:=YT (bf.aA.inj (de (k 9))).1;rw[iL]at e2;rw[e,e2.1,e2.2]
def O4:Ev.bp:=bR 157 (bW Xo axA cB) VK
def O5:Ev.bp:=bR 156 (bW Xs axF cB) O4
theorem aFu{l i}(h:i<l.length):∃k n s m,l[i]=.mk k n s m/\((aH l).drop (i*4)).take 4=[J k,J n,.ad s,.ah (aH m) m.length 4]:=by have b_:=LS h;generalize l[i]=u at*;have⟨k,n,s,m⟩:=u;exact⟨k,n,s,m,rfl,b_⟩
theorem ayX{m i r k n s cs len q L Q}:
 bC Z VK (λ_=>[]) L Q 1000 157 [J i,.aa 0 0,.aa 1 0,.aa 2 0] (aq [(0,kJ 3),(1,.al [.aj 4 q.length 5] 229),(2,.al [J r,J k,J n,.ad s,.ah cs len 4] 228),(3,fF m 5 6 7 8 9),(4,oX q),(5,fP m),(6,fe m),(7,ft m),(8,fi m),(9,fg m)] 10)=(
 ∃w,(([.aa 0 0]:LV)=[.aa 0 0]/\bT m=bT w)/\(∃ae:Em×eG,(([.aa 0 0,.ai [J 6,J w.ca.c9,J 0,J 0,.ad [],J 0]]:LV)=[.aa 0 0,.ai (dp ae.2)]/\bT w.ca=bT ae.1/\ae.1.bk.length<4194304)/\(∃aJ:Nat,i=(aJ:Int)/\aJ<len/\(∃aN bz cr bP bI,((cs.drop (aJ*4)).take 4:LV)=[J aN,J bz,.ad cr,.ah bP bI 4]/\((oi q).length=q.length*5/\q.length+1<=4194304/\true=true/\true=true)/\Q (.aC []) (aq [(0,kJ 3),(1,.al [.aj 10 (q.length+1) 5] 229),(2,.al [J r,J k,J n,.ad s,.ah cs len 4] 228),(3,fF (ae.1.a_ ae.2) 11 6 7 8 9),(4,.bm []),(5,.bm []),(6,fe (ae.1.a_ ae.2)),(7,ft (ae.1.a_ ae.2)),(8,fi (ae.1.a_ ae.2)),(9,fg (ae.1.a_ ae.2)),(10,.aA (oi q++[J w.ca.c9,J aN,J bz,.ad cr,.ah bP bI 4]) 228),(11,fP (ae.1.a_ ae.2))] 12))))):=by kernel_rfl
abbrev DZ x0 x1 x2:=bg [(0,.aa 0 0),(2,.bn (.func 157) [] [.aa 1 0,.aa 2 0,.aa 3 0]),(9,.ah x0 x1 4),(10,J (aP x1)),(11,J x2)]
theorem aBV{m}{q:List (Int×aF)}{dU r k n s cs len L Q}:
 bC Z O4 (λ_=>[0,2,9,10,11]) L Q 1000 156 [.aa 0 0,.ai [J k,J n,.ad s,.ah cs len 4],.bn (.func 157) [] [.aa 1 0,.aa 2 0,.aa 3 0]] (aq [(0,fF m 4 5 6 7 8),(1,kJ 0),(2,.al [.bw 9 5 q.length 0 5 false] 229),(3,.al [J r,J k,J n,.ad s,.ah cs len 4] 228),(4,fP m),(5,fe m),(6,ft m),(7,fi m),(8,fg m),(9,.aA dU 228)] 10)=(
 L (DZ cs len 0) (aq [(0,fF m 4 5 6 7 8),(1,kJ 0),(2,.al [.bw 9 5 q.length 0 5 false] 229),(3,.al [J r,J k,J n,.ad s,.ah cs len 4] 228),(4,fP m),(5,fe m),(6,ft m),(7,fi m),(8,fg m),(9,.aA dU 228)] 10) (ax Z 156 0)):=by kernel_rfl
abbrev IC x0 x1 x2 x3 x4 x5 x6 x7 x8:=aq [(0,fF x0 10 5 6 7 8),(1,kJ 0),(2,.al [.aj 11 x1 5] 229),(3,.al [J x2,J x3,J x4,.ad x5,.ah x6 x7 4] 228),(4,.bm []),(5,fe x0),(6,ft x0),(7,fi x0),(8,fg x0),(9,.bm []),(10,fP x0),(11,oX x8)] 12
theorem aBW{m i q r k n s cs len L Q}:
 cg Z O4 (λ_=>[0,2,9,10,11]) L Q 1000 156 10 (DZ cs len i) (ax Z 156 0) (IC m q.length r k n s cs len q)=(
 aw (decide (i<aP len)) (∃aJ:Nat,i=(aJ:Int)/\aJ<len/\(∃aN bz cr bP bI,((cs.drop (aJ*4)).take 4:LV)=[J aN,J bz,.ad cr,.ah bP bI 4]/\aw (aN==0) (∃ct b,eZ Z 2 3 (bO J 0 m.gJ) (J bz)=some (J ct,b)/\aw (decide (ct>1)) (∃w:Em×Int×Int×Int×Int,(([.aa 0 0,J bz,J 6,J 7,J 0]:LV)=[.aa 0 0,J w.2.1,J w.2.2.1,J w.2.2.2.1,J w.2.2.2.2]/\bT m=bT w.1/\w.1.bk.length<4194304)/\L (DZ cs len (wI (i+1))) (IC (w.1.n8 w.2.1 w.2.2.1 w.2.2.2.1 w.2.2.2.2) q.length r k n s cs len q) (ax Z 156 0)) (∃w:Em×eG,(([.aa 0 0,.ai [J 10,J 0,J 0,J 1,.ad [],J 0]]:LV)=[.aa 0 0,.ai (dp w.2)]/\bT m=bT w.1/\w.1.bk.length<4194304)/\L (DZ cs len (wI (i+1))) (IC (w.1.a_ w.2) q.length r k n s cs len q) (ax Z 156 0))) (aw (aN==1) (∃w:Em×eG,(([.aa 0 0,.ai [J 8,J 0,J 0,J bz,.ad [],J 0]]:LV)=[.aa 0 0,.ai (dp w.2)]/\bT m=bT w.1/\w.1.bk.length<4194304)/\L (DZ cs len (wI (i+1))) (IC (w.1.a_ w.2) q.length r k n s cs len q) (ax Z 156 0)) (aw (aN==2) (∃w:Em×eG,(([.aa 0 0,.ai [J 9,J 0,J 0,J 0,.ad cr,J 0]]:LV)=[.aa 0 0,.ai (dp w.2)]/\bT m=bT w.1/\w.1.bk.length<4194304)/\L (DZ cs len (wI (i+1))) (IC (w.1.a_ w.2) q.length r k n s cs len q) (ax Z 156 0)) (∃w:Em×List (Int×aF)×(Int×aF)×Nat,(([J i,.aa 0 0,.aa 1 0,.aa 2 0]:LV)=[J ((w.2.2.2:Nat):Int),.aa 0 0,.aa 1 0,.aa 2 0]/\aq [(0,kJ 3),(1,.al [.aj 4 q.length 5] 229),(2,.al [J r,J k,J n,.ad s,.ah cs len 4] 228),(3,fF m 5 6 7 8 9),(4,oX q),(5,fP m),(6,fe m),(7,ft m),(8,fi m),(9,fg m)] 10=Zt w.1 w.2.1 w.2.2.1/\w.1.bk.length<4194304/\w.2.1.length<4194304/\w.2.2.2<w.2.2.1.2.bo.length)/\L (DZ cs len (wI (i+1))) (aq [(0,.al [.aj 10 (w.1.ca.a_ {op:=6,r:=w.1.ca.c9,a:=0,n:=0,fx:=[],ar:=0}).bk.length 6,.ad (w.1.ca.a_ {op:=6,r:=w.1.ca.c9,a:=0,n:=0,fx:=[],ar:=0}).f.aO.cT,J (w.1.ca.a_ (eG.mk 6 w.1.ca.c9 0 0 [] 0)).f.aO.ar,J (w.1.ca.a_ (eG.mk 6 w.1.ca.c9 0 0 [] 0)).f.aO.ao,.ah (aH (w.1.ca.a_ {op:=6,r:=w.1.ca.c9,a:=0,n:=0,fx:=[],ar:=0}).f.bL) (w.1.ca.a_ {op:=6,r:=w.1.ca.c9,a:=0,n:=0,fx:=[],ar:=0}).f.bL.length 4,.ah (bD (w.1.ca.a_ {op:=6,r:=w.1.ca.c9,a:=0,n:=0,fx:=[],ar:=0}).f.ba) (w.1.ca.a_ {op:=6,r:=w.1.ca.c9,a:=0,n:=0,fx:=[],ar:=0}).f.ba.length 6,.aB 5,.aB 6,.aB 7,.aB 8,J (w.1.ca.a_ (eG.mk 6 w.1.ca.c9 0 0 [] 0)).c9,.au (w.1.ca.a_ (eG.mk 6 w.1.ca.c9 0 0 [] 0)).iS] 162),(1,kJ 0),(2,.al [.aj 11 (w.2.1++[Prod.mk w.1.ca.c9 (List.getD w.2.2.1.2.bo w.2.2.2 Inhabited.default)]).length 5] 229),(3,wO w.2.2.1),(4,.bm []),(5,fe (w.1.ca.a_ {op:=6,r:=w.1.ca.c9,a:=0,n:=0,fx:=[],ar:=0})),(6,ft (w.1.ca.a_ {op:=6,r:=w.1.ca.c9,a:=0,n:=0,fx:=[],ar:=0})),(7,fi (w.1.ca.a_ {op:=6,r:=w.1.ca.c9,a:=0,n:=0,fx:=[],ar:=0})),(8,fg (w.1.ca.a_ {op:=6,r:=w.1.ca.c9,a:=0,n:=0,fx:=[],ar:=0})),(9,.bm []),(10,fP (w.1.ca.a_ {op:=6,r:=w.1.ca.c9,a:=0,n:=0,fx:=[],ar:=0})),(11,oX (w.2.1++[(w.1.ca.c9,List.getD w.2.2.1.2.bo w.2.2.2 default)]))] 12) (ax Z 156 0)))))) (Q (.aC []) (IC m q.length r k n s cs len q))):=by kernel_rfl
theorem asK(q r k n s l):oi (q++[(r,.mk k n s l)])=oi q++[J r,J k,J n,.ad s,.ah (aH l) l.length 4]:=by rw[ahp];rfl
theorem VL:aS Z O4:=by
 refine cu ad3 ?_;rintro⟨m,q,⟨r,⟨k,n,s,l⟩⟩,i⟩ args H ⟨rfl,rfl,hl,hq,hi⟩;simp only at hl hq;have hi:i<l.length:=hi;refine eS ad3 (λ_=>[]) 25 ?_;simp only[Zt,wO,aF.cy,aF.n,aF.cO,aF.bo];rw[ayX];have⟨k',n',s',ts,he,b_⟩:=aFu hi;refine⟨m,⟨rfl,rfl⟩,(m.ca,⟨6,m.ca.c9,0,0,[],0⟩),⟨rfl,rfl,hl⟩,i,rfl,hi,k',n',s',_,_,b_,⟨YU q,by omega,rfl,rfl⟩,rfl,?_⟩;have hg:l.getD i default=.mk k' n' s' ts:=by simp[List.getD,gS hi,he]
 simp only[Xo,aly,oX,wO,aF.bo,aF.cy,aF.n,aF.cO,hg,asK,cL,ei,gY,kD]
theorem afJ(m:Em)(t):(m.jt t).1.bk.length+fL (m.jt t).2<=m.bk.length+2*bM t:=by
 have hp:=ta t;unfold Em.jt;split
 .split
  .have:=U7 m t.n 6 7 0;simp only[fL];omega
  .have:=lO m ⟨10,0,0,1,[],0⟩;simp only[fL];omega
 .split
  .have:=lO m ⟨8,0,0,t.n,[],0⟩;simp only[fL];omega
  .split
   .have:=lO m ⟨9,0,0,0,t.cO,0⟩;simp only[fL];omega
   .have:=lO m.ca ⟨6,m.ca.c9,0,0,[],0⟩;rw[LA]at this;have⟨k,n,s,l⟩:=t;simp only[fL,bM,aF.bo];omega
theorem XE:∀(l) (m:Em) (q),(m.ju q l).1.bk.length+fL (m.ju q l).2<=m.bk.length+fL q+2*bN l
 |[],m,q=>by simp[Em.ju]
 |t::l,m,q=>by have h1:=afJ m t;have h2:=XE l (m.jt t).1 (q++(m.jt t).2);rw[N_]at h2;simp only[Em.ju,bN];omega
section
variable{m:Em}{k n:Int}{s:LN}{ts:eH}
theorem aqr(hk:k=0)(hc:m.qM n>1):m.jt (.mk k n s ts)=(m.n8 n 6 7 0,[]):=by simp[Em.jt,aF.cy,aF.n,hk,hc]
theorem aqs(hk:k=0)(hc:¬m.qM n>1):m.jt (.mk k n s ts)=(m.a_ ⟨10,0,0,1,[],0⟩,[]):=by simp[Em.jt,aF.cy,aF.n,hk,hc]
theorem aqo(hk:k=1):m.jt (.mk k n s ts)=(m.a_ ⟨8,0,0,n,[],0⟩,[]):=by simp[Em.jt,aF.cy,aF.n,hk]
theorem aqn(hk:k=2):m.jt (.mk k n s ts)=(m.a_ ⟨9,0,0,0,s,0⟩,[]):=by simp[Em.jt,aF.cy,aF.cO,hk]
theorem aqq(h0:k≠0)(h1:k≠1)(h2:k≠2):m.jt (.mk k n s ts)=(m.ca.a_ ⟨6,m.ca.c9,0,0,[],0⟩,[(m.ca.c9,.mk k n s ts)]):=by simp[Em.jt,aF.cy,h0,h1,h2]
end
theorem aBU{l r k0 n0 s0 M Qu}(hl:dk l.length)(ho:fK l):
 ∀p:Nat×Em×List (Int×aF),(p.1<=l.length/\p.2.1.bk.length+fL p.2.2+2*bN (l.drop p.1)<4194304/\p.2.1.ju p.2.2 (l.drop p.1)=(M,Qu))->
 bu Z 156 59 10 (.aC []) (NA M Qu (r,.mk k0 n0 s0 l)) (DZ (aH l) l.length (p.1:Int)) (NA p.2.1 p.2.2 (r,.mk k0 n0 s0 l)) (ax Z 156 0):=by
 refine dF (λp=>l.length-p.1) _ _ _ _ ?_;rintro⟨i,m,q⟩ ⟨hi,hc,hf⟩ ih;refine hD VL (λ_=>[0,2,9,10,11]) ?_;simp only[NA,wO,aF.cy,aF.n,aF.cO,aF.bo];rw[aBW];refine aD (λay=>?_) λbq=>?_
 .have ay:i<l.length:=by simpa using ay
  have⟨k,n,s,ts,he,b_,aZ⟩:=z9 ay ho;rw[fV ay,he]at hf hc;simp only[Em.ju,bN]at hf hc;refine⟨i,rfl,ay,k,n,s,_,_,b_,?_⟩;rw[kU hl ay];have bS:=afJ m (.mk k n s ts);have hq:=aks q;have next:=ih (i+1,(m.jt (.mk k n s ts)).1,q++(m.jt (.mk k n s ts)).2) ⟨by simp;omega,by simp only[N_];omega,hf⟩ (by simp;omega)
  have⟨c,b,h1,h2⟩:=SH m n;have hr:m.bk.length<4194304:=by omega
  refine aD (λhk=>?_) λzl=>?_
  .have hk:k=0:=by simpa using hk
   refine⟨c,b,h1,aD (λhc=>?_) λhc=>?_⟩
   .have hc:c>1:=by simpa using hc
    rw[aqr hk (by rw[h2];exact hc),jH]at next
    exact⟨(m,n,6,7,0),⟨rfl,rfl,hr⟩,next⟩
   .have hc:¬c>1:=by simpa using hc
    rw[aqs hk (by rw[h2];exact hc),jH]at next
    exact⟨(m,⟨10,0,0,1,[],0⟩),⟨rfl,rfl,hr⟩,next⟩
  .have zl:k≠0:=by simpa using zl
   refine aD (λhk=>?_) λqY=>?_
   .have hk:k=1:=by simpa using hk
    rw[aqo hk,jH]at next
    exact⟨(m,⟨8,0,0,n,[],0⟩),⟨rfl,rfl,hr⟩,next⟩
   .have qY:k≠1:=by simpa using qY
    refine aD (λhk=>?_) λoP=>?_
    .have hk:k=2:=by simpa using hk
     rw[aqn hk,jH]at next
     exact⟨(m,⟨9,0,0,0,s,0⟩),⟨rfl,rfl,hr⟩,next⟩
    .have oP:k≠2:=by simpa using oP
     rw[aqq zl qY oP]at next
     have hg:l.getD i default=.mk k n s ts:=by simp[List.getD,gS ay,he]
     rw[<-hg]at next
     exact⟨(m,q,(r,.mk k0 n0 s0 l),i),⟨rfl,rfl,hr,by show q.length<4194304;omega,ay⟩,next⟩
 .have bq:l.length<=i:=by simpa using bq
  rw[gR bq,Em.ju]at hf;cases hf;exact⟨rfl,rfl⟩
theorem axd(m q w):Mv (Mf m q w) (ajH m q w) 4:=
 qk (l':=[(0,fF m 10 5 6 7 8),(1,kJ 0),(2,.al [.bw 9 5 q.length 0 5 false] 229),(3,wO w),(4,.bm []),(5,fe m),(6,ft m),(7,fi m),(8,fg m),(9,oX (w::q))]) rfl rfl rfl
theorem ar7(m q w):lL 10 (ajH m q w) (NA m q w) (λφ aQ=>φ 11=none/\aQ=AD 9 5 11 φ):=by
 have h:=aw4 (xx:=none) (m0:=10) (g:=9) (k:=5) (n:=11) (l:=[(0,fF m 10 5 6 7 8),(1,kJ 0),(2,.al [.bw 9 5 q.length 0 5 false] 229),(3,wO w),(4,.bm []),(5,fe m),(6,ft m),(7,fi m),(8,fg m),(9,oX (w::q)),(10,fP m)]) rfl rfl rfl (by rw[YU];simp;omega);have e:(oi (w::q)).drop 5=oi q:=by rw[oi,<-QM w,qbe]
 rw[e]at h;exact h
theorem VM:aS Z O5:=by
 refine cu VL ?_;rintro⟨m,q,⟨r,⟨k,n,s,l⟩⟩⟩ args H ⟨rfl,rfl,hl,ho⟩;simp only[aF.bo]at hl;refine eS VL (λ_=>[0,2,9,10,11]) 59 ?_;simp only[Xs,aU,aF.bo,Mf,wO,aF.cy,aF.n,aF.cO];rw[oX,aBV];refine uT ?_ (axd m q (r,.mk k n s l)) (λi a' hi=>⟨a',hi,wz hi (by simp[eM,nY,lu,Mf,aq,eA])⟩);refine ai3 ?_ (ar7 m q (r,.mk k n s l)) (by kernel_rfl) (λφ aQ hR i a' hi=>⟨a',hi,λx hx=>?_⟩)
 .exact aBU ho.2.1 ho.2.2 (0,m,q) ⟨by simp,by simpa using hl,by simp⟩
 .obtain⟨h1,rfl⟩:=hR;exact VR.ez (YB h1) _ _ hx
def amE(m:Em)(w:Int×aF):Prop:=m.bk.length+fL [w]<4194304/\bB w.2
def O6:Ev.bp:=bR 128 (bW (lW aT Em.Is amE) (ve As) cB) O5
def Ru(m:Em)(q:List (Int×aF)):AH:=aq [(0,fF m 8 2 3 4 5),(1,.bm []),(2,fe m),(3,ft m),(4,fi m),(5,fg m),(6,kJ 0),(7,.al [.aj 9 q.length 5] 229),(8,fP m),(9,oX q)] 10
abbrev Ox:=bg [(3,.aa 6 0),(6,.aa 7 0)]
theorem aBg{m a k n s cs len L Q}:
 bC Z O5 (λ_=>[3,6]) L Q 1000 128 [.aa 0 0,J a,.ai [J k,J n,.ad s,.ah cs len 4]] (bT m)=(
 L (Ox) (aq [(0,fF m 1 2 3 4 5),(1,fP m),(2,fe m),(3,ft m),(4,fi m),(5,fg m),(6,kJ 0),(7,.al [.bw 8 0 1 1 5 true] 229),(8,.al [J a,J k,J n,.ad s,.ah cs len 4] 228)] 9) (ax Z 128 0)):=by kernel_rfl
theorem aBh{m q L Q}:
 cg Z O5 (λ_=>[3,6]) L Q 1000 128 6 (Ox) (ax Z 128 0) (Ru m q)=(
 aw (decide (aP q.length>0)) (0<q.length/\(∃n aN bz s cs len,cz Z 228 (oi q) 0=some (.ai [J n,J aN,J bz,.ad s,.ah cs len 4]:AV)/\1<=q.length/\(1<=q.length/\q.length<=q.length)/\(∃w:Em×eG,(([.aa 0 0,.ai [J 5,J 0,J n,J 0,.ad s,J (aP len)]]:LV)=[.aa 0 0,.ai (dp w.2)]/\bT m=bT w.1/\w.1.bk.length<4194304)/\(∃ae:Em×List (Int×aF)×Int×aF,(([.aa 0 0,.ai [J aN,J bz,.ad s,.ah cs len 4],.bn (.func 157) [] [.aa 1 0,.aa 2 0,.aa 3 0]]:LV)=[.aa 0 0,.ai (aU ae.2.2.2),.bn (.func 157) [] [.aa 1 0,.aa 2 0,.aa 3 0]]/\aq [(0,fF (w.1.a_ w.2) 4 5 6 7 8),(1,kJ 0),(2,.al [.bw 9 5 (q.length-1) 0 5 false] 229),(3,.al [J n,J aN,J bz,.ad s,.ah cs len 4] 228),(4,fP (w.1.a_ w.2)),(5,fe (w.1.a_ w.2)),(6,ft (w.1.a_ w.2)),(7,fi (w.1.a_ w.2)),(8,fg (w.1.a_ w.2)),(9,oX q)] 10=Mf ae.1 ae.2.1 ae.2.2/\ae.1.bk.length+fL ae.2.1+2*bN ae.2.2.2.bo<4194304/\bB ae.2.2.2)/\L (Ox) (Ru (ae.1.ju ae.2.1 ae.2.2.2.bo).1 (ae.1.ju ae.2.1 ae.2.2.2.bo).2) (ax Z 128 0))))) (Q (.aC []) (j8 m))):=by kernel_rfl
theorem afK(m:Em)(t):fL (m.jt t).2<=2*bM t:=by
 unfold Em.jt;split
 .simp only[fL];omega
 .split
  .simp only[fL];omega
  .split
   .simp only[fL];omega
   .have⟨k,n,s,l⟩:=t;simp only[fL,bM,aF.bo];omega
theorem afO:∀(l) (m:Em) (q),fL (m.ju q l).2<=fL q+2*bN l
 |[],m,q=>by simp[Em.ju]
 |t::l,m,q=>by have h1:=afK m t;have h2:=afO l (m.jt t).1 (q++(m.jt t).2);rw[N_]at h2;simp only[Em.ju,bN];omega
theorem aqp{m:Em}{t}(h:bB t):Tf (m.jt t).2:=by
 intro w hw;unfold Em.jt at hw;split at hw
 .simp at hw
 .split at hw
  .simp at hw
  .split at hw
   .simp at hw
   .simp at hw;subst hw;exact h
theorem afN:∀{l} {m:Em} {q},fK l->Tf q->Tf (m.ju q l).2
 |[],m,q,_,hq=>hq
 |t::l,m,q,hl,hq=>afN (l:=l) hl.2 (λw hw=>by
   rcases iW.1 hw with h|h
   .exact hq w h
   .exact aqp hl.1 w h)
theorem axS(a b c d e l):cz Z 228 (a::b::c::d::e::l) 0=some (.ai [a,b,c,d,e]):=by kernel_rfl
theorem ain:∀(n) (m:Em) (q),(m.vU n q).bk.length<=m.bk.length+fL q
 |0,m,q=>by simp[Em.vU]
 |n+1,m,[]=>by simp[Em.vU]
 |n+1,m,w::q=>by have h0:=lO m ⟨5,0,w.1,0,w.2.cO,w.2.bo.length⟩;have h1:=XE w.2.bo (m.a_ ⟨5,0,w.1,0,w.2.cO,w.2.bo.length⟩) q;have h2:=ain n ((m.a_ ⟨5,0,w.1,0,w.2.cO,w.2.bo.length⟩).ju q w.2.bo).1 ((m.a_ ⟨5,0,w.1,0,w.2.cO,w.2.bo.length⟩).ju q w.2.bo).2;simp only[Em.vU,fL];omega
theorem aBf{M}:
 ∀p:Nat×Em×List (Int×aF),(fL p.2.2<p.1/\p.2.1.bk.length+fL p.2.2<4194304/\Tf p.2.2/\p.2.1.vU p.1 p.2.2=M)->
 bu Z 128 39 6 (.aC []) (j8 M) (Ox) (Ru p.2.1 p.2.2) (ax Z 128 0):=by
 refine dF (λp=>p.1) _ _ _ _ ?_;rintro⟨f,m,q⟩ ⟨hq,hc,ho,hf⟩ ih;refine hE VM aBh ?_;obtain⟨f,rfl⟩:∃g,f=g+1:=⟨f-1,by omega⟩;cases q with
 |nil=>
  refine aD (λh=>(by simp at h)) λ_=>?_
  subst hf;exact⟨rfl,rfl⟩
 |cons w q=>
  refine aD (λ_=>?_) λh=>ab h
  have⟨r,⟨k,n,s,l⟩⟩:=w;simp only[fL,aF.bo]at hq hc;have aZ:=ho (r,.mk k n s l) (by simp);have h0:=lO m ⟨5,0,r,0,s,l.length⟩;have h1:=XE l (m.a_ ⟨5,0,r,0,s,l.length⟩) q;have h2:=afO l (m.a_ ⟨5,0,r,0,s,l.length⟩) q;refine⟨by simp,r,k,n,s,_,_,axS _ _ _ _ _ _,by simp,⟨by simp,by simp⟩,(m,⟨5,0,r,0,s,l.length⟩),⟨rfl,rfl,by show m.bk.length<4194304;omega⟩,(m.a_ ⟨5,0,r,0,s,l.length⟩,q,(r,.mk k n s l)),⟨rfl,rfl,by simp only[aF.bo];omega,aZ⟩,?_⟩;exact ih (f,((m.a_ ⟨5,0,r,0,s,l.length⟩).ju q l).1,((m.a_ ⟨5,0,r,0,s,l.length⟩).ju q l).2) ⟨by simp only;omega,by simp only;omega,afN aZ.2.2 (λw hw=>ho w (by simp[hw])),hf⟩ (by simp)
def l62(m:Em)(w:Int×aF):List (Nat×bf):=[(0,fF m 1 2 3 4 5),(1,fP m),(2,fe m),(3,ft m),(4,fi m),(5,fg m),(6,kJ 0),(7,.al [.bw 8 0 1 1 5 true] 229),(8,.al (AJ w) 228)]
def i62(m:Em)(w:Int×aF):AH:=aq [(0,fF m 1 2 3 4 5),(1,fP m),(2,fe m),(3,ft m),(4,fi m),(5,fg m),(6,kJ 0),(7,.al [.aj 8 1 5] 229),(8,oX [w])] 9
def j62(m:Em)(w:Int×aF):AH:=aq [(0,fF m 9 2 3 4 5),(1,.bm []),(2,fe m),(3,ft m),(4,fi m),(5,fg m),(6,kJ 0),(7,.al [.aj 8 1 5] 229),(8,oX [w]),(9,fP m)] 10
theorem aGn(m w):lL 6 (aq (l62 m w) 9) (i62 m w) (λφ aQ=>aQ=φ):=by have h:=Nt (xx:=none) (m0:=6) (g:=8) (n:=9) (l:=l62 m w) (new:=oX [w]) rfl (λφ e o h=>by have:=sB (h_:=150) (by have⟨r,⟨k,n,s,l⟩⟩:=w;rfl) h;simp only[oX,oi,jH];exact this) rfl;exact h
theorem aw9(m w):Mv (i62 m w) (j62 m w) 1:=
 qk (l':=[(0,fF m 9 2 3 4 5),(1,.bm []),(2,fe m),(3,ft m),(4,fi m),(5,fg m),(6,kJ 0),(7,.al [.aj 8 1 5] 229),(8,oX [w])]) rfl rfl rfl
def t62:Tr AV:=Ox
def al6:List (Nat×Nat):=[(0,0),(1,1),(2,2),(3,3),(4,4),(5,5),(6,6),(7,7),(9,8),(8,9)]
theorem aF4(m w):mB 6 [6,7] (j62 m w)=some ⟨al6,Ru m [w]⟩:=by kernel_rfl
theorem aGa:rn (iK al6) t62 [3,6]=some t62:=by kernel_rfl
theorem VN:aS Z O6:=by refine cu VM ?_;rintro⟨m,a,⟨k,n,s,l⟩⟩ args H ⟨rfl,rfl,hc,ho⟩;refine eS VM (λ_=>[3,6]) 39 ?_;simp only[lW,aT,aU];rw[aBg];refine ai3 ?_ (aGn m (a,.mk k n s l)) (by kernel_rfl) (λφ aQ hR i a' hi=>⟨a',hi,λx hx=>by rw[hR];exact hx⟩);refine uT ?_ (aw9 m (a,.mk k n s l)) (λi a' hi=>⟨a',hi,wz hi (by simp[eM,lu,i62,aq,eA])⟩);refine cj.tb (by kernel_rfl) (aF4 m (a,.mk k n s l)) aGa ?_;exact aBf (fL [(a,.mk k n s l)]+1,m,[(a,.mk k n s l)]) ⟨by simp,hc,by intro w hw;simp at hw;subst hw;exact ho,rfl⟩
def Em.sw(m:Em)(w:Int×aF):Em:=
 if w.2.cy=0 then m.xC w else if w.2.cy=1 then m.L6 w else if w.2.cy=2 then m.L5 w else m.Is w
def Em.jO:Nat->Em->eH->Em
 |_,m,[]=>m
 |i,m,t::l=>Em.jO (i+1) (m.sw (((i+1:Nat):Int),t)) l
def a0(_:Unit):LV:=[]
def acx(m:Em)(_:Unit):Prop:=m.bk.length+2*bN m.f.bL+1<4194304/\dk m.f.bL.length/\fK m.f.bL/\Dy m.f.bL
def O7:Ev.bp:=bR 90 (bW (lW a0 (λm _=>m.jO 0 m.f.bL) acx) (ve (λ_ _ _=>rfl)) cB) O6
def Fj(m:Em):AH:=aq [(0,fF m 7 2 3 4 5),(1,.bm []),(2,fe m),(3,ft m),(4,fi m),(5,fg m),(6,Di 125 126 127 128),(7,fP m)] 8
abbrev GD x0 x1 x2:=bg [(2,.aa 6 0),(18,.ah x0 x1 4),(19,J (aP x1)),(20,J x2)]
theorem aAQ{m L Q}:
 bC Z O6 (λ_=>[2,18,19,20]) L Q 1000 90 [.aa 0 0] (bT m)=(
 L (GD (aH m.f.bL) m.f.bL.length 0) (aq [(0,fF m 1 2 3 4 5),(1,fP m),(2,fe m),(3,ft m),(4,fi m),(5,fg m),(6,Di 125 126 127 128)] 7) (ax Z 90 0)):=by kernel_rfl
theorem aAR{m i cs len L Q}:
 cg Z O6 (λ_=>[2,18,19,20]) L Q 1000 90 6 (GD cs len i) (ax Z 90 0) (Fj m)=(
 aw (decide (i<aP len)) (∃aJ:Nat,i=(aJ:Int)/\aJ<len/\(∃n:Int,∃aN:Int,∃s:LN,∃bP:LV,∃bI:Nat,((cs.drop (aJ*4)).take 4:LV)=[J n,J aN,.ad s,.ah bP bI 4]/\((0:Int)<=n/\n<4)/\(n=0->(∃w:Em×Int×aF,(([.aa 0 0,J (wI (i+1)),.ai [J n,J aN,.ad s,.ah bP bI 4]]:LV)=[.aa 0 0,J w.2.1,.ai (aU w.2.2)]/\bT m=bT w.1/\uh w.1 w.2)/\L (GD cs len (wI (i+1))) (Fj (w.1.xC w.2)) (ax Z 90 0)))/\(n=1->(∃w:Em×Int×aF,(([.aa 0 0,J (wI (i+1)),.ai [J n,J aN,.ad s,.ah bP bI 4]]:LV)=[.aa 0 0,J w.2.1,.ai (aU w.2.2)]/\bT m=bT w.1/\uh w.1 w.2)/\L (GD cs len (wI (i+1))) (Fj (w.1.L6 w.2)) (ax Z 90 0)))/\(n=2->(∃w:Em×Int×aF,(([.aa 0 0,J (wI (i+1)),.ai [J n,J aN,.ad s,.ah bP bI 4]]:LV)=[.aa 0 0,J w.2.1,.ai (aU w.2.2)]/\bT m=bT w.1/\uh w.1 w.2)/\L (GD cs len (wI (i+1))) (Fj (w.1.L5 w.2)) (ax Z 90 0)))/\(n=3->(∃w:Em×Int×aF,(([.aa 0 0,J (wI (i+1)),.ai [J n,J aN,.ad s,.ah bP bI 4]]:LV)=[.aa 0 0,J w.2.1,.ai (aU w.2.2)]/\bT m=bT w.1/\amE w.1 w.2)/\L (GD cs len (wI (i+1))) (Fj (w.1.Is w.2)) (ax Z 90 0)))/\True)) (Q (.aC []) (j8 m))):=by kernel_rfl
theorem atN(m:Em)(w):(m.sw w).bk.length<=m.bk.length+2*bM w.2:=by
 have hp:=ta w.2;unfold Em.sw;split
 .unfold Em.xC;split
  .have:=U7 m w.2.n 1 2 w.1;omega
  .omega
 .split
  .have:=lO m ⟨3,0,w.1,w.2.n,[],0⟩;unfold Em.L6;omega
  .split
   .have:=lO m ⟨4,0,w.1,0,w.2.cO,0⟩;unfold Em.L5;omega
   .have:=ain (fL [w]+1) m [w];have⟨r,⟨k,n,s,l⟩⟩:=w;unfold Em.Is;simp only[fL,bM,aF.bo]at this⊢;omega
section
variable{m:Em}{k n a:Int}{s:LN}{ts:eH}
theorem atP(hk:k=0):m.sw (a,.mk k n s ts)=m.xC (a,.mk k n s ts):=by simp[Em.sw,aF.cy,hk]
theorem atM(hk:k=1):m.sw (a,.mk k n s ts)=m.L6 (a,.mk k n s ts):=by simp[Em.sw,aF.cy,hk]
theorem atK(hk:k=2):m.sw (a,.mk k n s ts)=m.L5 (a,.mk k n s ts):=by simp[Em.sw,aF.cy,hk]
theorem atO(hk:k=3):m.sw (a,.mk k n s ts)=m.Is (a,.mk k n s ts):=by simp[Em.sw,aF.cy,hk]
end
theorem aAP{l M}(hl:dk l.length)(ho:fK l)(hk:Dy l):
 ∀p:Nat×Em,(p.1<=l.length/\p.2.bk.length+2*bN (l.drop p.1)+1<4194304/\Em.jO p.1 p.2 (l.drop p.1)=M)->
 bu Z 90 34 6 (.aC []) (j8 M) (GD (aH l) l.length (p.1:Int)) (Fj p.2) (ax Z 90 0):=by
 refine dF (λp=>l.length-p.1) _ _ _ _ ?_;rintro⟨i,m⟩ ⟨hi,hc,hf⟩ ih;refine hE VN aAR ?_;refine aD (λay=>?_) λbq=>?_
 .have ay:i<l.length:=by simpa using ay
  have⟨k,n,s,ts,he,b_,aZ⟩:=z9 ay ho;have MJ:=hk l[i] (r8 ay);rw[he]at MJ;rw[fV ay,he]at hf hc;simp only[Em.jO,bN]at hf hc;have bS:=atN m (((i+1:Nat):Int),.mk k n s ts);simp only at bS;have hr:m.bk.length<4194304:=by omega
  have hrb:m.bk.length+fL [(((i+1:Nat):Int),aF.mk k n s ts)]<4194304:=by simp only[fL,aF.bo,bM]at hc⊢;omega
  have next:=ih (i+1,m.sw (((i+1:Nat):Int),.mk k n s ts)) ⟨by simp;omega,by simp only;omega,hf⟩ (by simp;omega)
  refine⟨i,rfl,ay,k,n,s,_,_,b_,MJ,?_⟩;rw[kU hl ay];refine⟨λh=>?_,λh=>?_,λh=>?_,λh=>?_,trivial⟩
  .rw[atP h]at next
   exact⟨(m,((i+1:Nat):Int),.mk k n s ts),⟨rfl,rfl,hr⟩,next⟩
  .rw[atM h]at next
   exact⟨(m,((i+1:Nat):Int),.mk k n s ts),⟨rfl,rfl,hr⟩,next⟩
  .rw[atK h]at next
   exact⟨(m,((i+1:Nat):Int),.mk k n s ts),⟨rfl,rfl,hr⟩,next⟩
  .rw[atO h]at next
   exact⟨(m,((i+1:Nat):Int),.mk k n s ts),⟨rfl,rfl,hrb,aZ⟩,next⟩
 .have bq:l.length<=i:=by simpa using bq
  rw[gR bq,Em.jO]at hf;subst hf;exact⟨rfl,rfl⟩
def aje(m:Em):AH:=aq [(0,fF m 1 2 3 4 5),(1,fP m),(2,fe m),(3,ft m),(4,fi m),(5,fg m),(6,Di 125 126 127 128)] 7
theorem aw7(m):Mv (aje m) (Fj m) 1:=
 qk (l':=[(0,fF m 7 2 3 4 5),(1,.bm []),(2,fe m),(3,ft m),(4,fi m),(5,fg m),(6,Di 125 126 127 128)]) rfl rfl rfl
theorem VO:aS Z O7:=by refine cu VN ?_;rintro⟨m,u⟩ args H ⟨rfl,rfl,hc,hl,ho,hk⟩;refine eS VN (λ_=>[2,18,19,20]) 34 ?_;simp only[lW,a0];rw[aAQ];refine uT ?_ (aw7 m) (λi a' hi=>⟨a',hi,wz hi (by simp[eM,lu,aje,aq,eA])⟩);exact aAP hl ho hk (0,m) ⟨by simp,by simp;omega,by simp⟩
def Em.DT(m:Em)(n:Int):Em:=⟨m.bk,m.f,m.gJ,m.bA,m.hJ,m.fq,n,m.iS⟩
def Em.ba(c:mI)(base:LI)(c_:Bool):Nat->Int->Em->gi->Em
 |_,_,m,[]=>(m.df c_).a_ ⟨21,0,0,0,[],0⟩
 |i,size,m,g::l=>
  if g.fM=2 then Em.ba c base c_ (i+1) size (m.nN (22,g.n7)) l
  else if g.fM=3 then Em.ba c base c_ (i+1) size (m.nN (23,g.n7)) l
  else if g.fM=4 then Em.ba c base c_ (i+1) size (m.sv g.n7) l
  else if g.fM=5 then m.a_ ⟨25,0,0,0,[],0⟩
  else if g.fM=1 then
   match l with
   |[]=>((m.fZ 0 g.fj).df c_).a_ ⟨20,0,0,g.aO.ao,g.aO.cT,g.aO.ar⟩
   |_::_=>if size>c.aR.getD i 0 then Em.ba c base c_ (i+1) (c.aR.getD i 0) ((((m.fZ 0 g.fj).a_ ⟨17,0,0,c.aR.getD i 0,[],0⟩).a_ ⟨19,0,0,g.aO.ao,g.aO.cT,g.aO.ar⟩).DT (base.getD (c.cC.getD i 0+1).toNat 0)) l
    else Em.ba c base c_ (i+1) size (((m.fZ 0 g.fj).a_ ⟨19,0,0,g.aO.ao,g.aO.cT,g.aO.ar⟩).DT (base.getD (c.cC.getD i 0+1).toNat 0)) l
  else Em.ba c base c_ (i+1) size m l
def oM:gi->Nat
 |[]=>4
 |g::l=>2*bN g.fj+4+oM l
def LK(c:mI):LV:=[.aj 1 c.cC.length 1,.aj 2 c.bA.length 1,.aj 3 c.aR.length 1]
def bH(l:LI)(t:TypeId):bf:=.aA (aX l) t
def Fk(m:Em)(c:mI)(base:LI):AH:=aq [(0,fF m 5 6 7 8 9),(1,bH c.cC 3),(2,bH c.bA 2),(3,bH c.aR 3),(4,bH base 3),(5,fP m),(6,fe m),(7,ft m),(8,fi m),(9,fg m)] 10
def Nz(m:Em)(c:mI)(base:LI):AH:=aq [(0,fF m 10 6 7 8 9),(1,bH c.cC 3),(2,bH c.bA 2),(3,bH c.aR 3),(4,bH base 3),(5,.bm []),(6,fe m),(7,ft m),(8,fi m),(9,fg m),(10,fP m)] 11
abbrev Mi x0 x1 x2 x3 x4 x5 x6:=aq [(0,fF x0 13 6 7 8 9),(1,bH x1 3),(2,bH x2 2),(3,bH x3 3),(4,bH x4 3),(5,.bm []),(6,fe x0),(7,ft x0),(8,fi x0),(9,fg x0),(10,kJ 0),(11,.al x5 153),(12,.al [.au x6] 4),(13,fP x0)] 14
def r28(m:Em)(c:mI)(base:LI)(c_:Bool):AH:=Mi m c.cC c.bA c.aR base (LK c) c_
def i28(m:Em)(c:mI)(base:LI)(c_:Bool):AH:=aq [(0,fF m 5 6 7 8 9),(1,bH c.cC 3),(2,bH c.bA 2),(3,bH c.aR 3),(4,bH base 3),(5,fP m),(6,fe m),(7,ft m),(8,fi m),(9,fg m),(10,kJ 0),(11,.al (LK c) 153),(12,.al [.au c_] 4)] 13
abbrev D0 x0 x1 x2 x3 x4:=bg [(2,.aj 4 x0 1),(4,.aa 10 0),(5,.aa 11 0),(8,J x1),(9,.bn (.func 129) [] [.aa 12 0,.aa 10 0]),(22,.ah x2 x3 6),(23,J (Int.ofNat x3)),(24,J x4)]
def t28(bl:Nat)(size:Int)(gs:LV)(gl:Nat)(i:Int):Tr AV:=D0 bl size gs gl i
structure KD(c:mI)(base:LI)(gs:gi):Prop where
 len:dk gs.length
 ok:∀g∈gs,rf g
 ks:∀g∈gs,Dy g.fj
 aR:c.aR.length=gs.length
 cC:c.cC.length=gs.length
 base:∀i,∀h:i<gs.length,gs[i].fM=1->0<=c.cC.getD i 0/\c.cC.getD i 0+1<base.length/\c.cC.getD i 0<1000000
def X28:cq (Em×mI×LI×Bool)where
 bh w A H:=A=[.aa 0 0,.ai (LK w.2.1),.aj 4 w.2.2.1.length 1,.au w.2.2.2]/\H=Fk w.1 w.2.1 w.2.2.1/\w.1.bk.length+oM w.1.f.ba<4194304/\KD w.2.1 w.2.2.1 w.1.f.ba
 v w:=.aC []
 aK w:=Nz (Em.ba w.2.1 w.2.2.1 w.2.2.2 0 w.2.1.bA.length w.1 w.1.f.ba) w.2.1 w.2.2.1
theorem zR{l m t}(h:bH l t=bH m t):l=m:=zQ (bf.aA.inj h).1
theorem axC:X28.ck:=by
 rintro⟨m,⟨c1,c2,c3⟩,b,e⟩ ⟨m',⟨c1',c2',c3'⟩,b',e'⟩ A H ⟨h1,h2,_⟩ ⟨h3,h4,_⟩;rw[h1]at h3;rw[h2]at h4;have k:=λi=>congrArg (λH=>AH.bc H i) h4
 simp only[Fk,ey]at k;have e0:=HW (de (k 0)) (de (k 5)) (de (k 6)) (de (k 7)) (de (k 8)) (de (k 9));have e1:=zR (de (k 1));have e2:=zR (de (k 2));have e3:=zR (de (k 3));have e4:=zR (de (k 4));simp at h3;rw[e0,e1,e2,e3,e4,h3.2.2]
def O8:Ev.bp:=bR 91 (bW X28 axC cB) O7
theorem aAT{m c base c_ L Q}:
 bC Z O7 (λ_=>[2,4,5,8,9,22,23,24]) L Q 1000 91 [.aa 0 0,.ai (LK c),.aj 4 base.length 1,.au c_] (Fk m c base)=(
 L (D0 base.length (Int.ofNat c.bA.length) (bD m.f.ba) m.f.ba.length 0) (aq [(0,fF m 5 6 7 8 9),(1,bH c.cC 3),(2,bH c.bA 2),(3,bH c.aR 3),(4,bH base 3),(5,fP m),(6,fe m),(7,ft m),(8,fi m),(9,fg m),(10,kJ 0),(11,.al [.aj 1 c.cC.length 1,.aj 2 c.bA.length 1,.aj 3 c.aR.length 1] 153),(12,.al [.au c_] 4)] 13) (ax Z 91 0)):=by kernel_rfl
theorem aAU{m c base c_ size i gs gl L Q}:
 cg Z O7 (λ_=>[2,4,5,8,9,22,23,24]) L Q 1000 91 10 (t28 base.length size gs gl i) (ax Z 91 0) (r28 m c base c_)=(
 aw (decide (i<Int.ofNat gl)) (∃aJ:Nat,i=(aJ:Int)/\aJ<gl/\(∃n s aN bz cs len ct,((gs.drop (aJ*6)).take 6:LV)=[J n,.ad s,J aN,J bz,.ah cs len 4,J ct]/\aw (n==2) (∃w:Em×Int×Int,(([.aa 0 0,J 22,J ct]:LV)=[.aa 0 0,J w.2.1,J w.2.2]/\bT m=bT w.1/\acw w.1 w.2)/\L (D0 base.length size gs gl (wI (i+1))) (Mi (Em.nN w.1 w.2) c.cC c.bA c.aR base [.aj 1 c.cC.length 1,.aj 2 c.bA.length 1,.aj 3 c.aR.length 1] c_) (ax Z 91 0)) (aw (n==3) (∃w:Em×Int×Int,(([.aa 0 0,J 23,J ct]:LV)=[.aa 0 0,J w.2.1,J w.2.2]/\bT m=bT w.1/\acw w.1 w.2)/\L (D0 base.length size gs gl (wI (i+1))) (Mi (Em.nN w.1 w.2) c.cC c.bA c.aR base [.aj 1 c.cC.length 1,.aj 2 c.bA.length 1,.aj 3 c.aR.length 1] c_) (ax Z 91 0)) (aw (n==4) (∃w:Em×Int,(([.aa 0 0,J ct]:LV)=[.aa 0 0,J w.2]/\bT m=bT w.1/\uh w.1 w.2)/\L (D0 base.length size gs gl (wI (i+1))) (Mi (Em.sv w.1 w.2) c.cC c.bA c.aR base [.aj 1 c.cC.length 1,.aj 2 c.bA.length 1,.aj 3 c.aR.length 1] c_) (ax Z 91 0)) (aw (n==5) (∃w:Em×eG,(([.aa 0 0,.ai [J 25,J 0,J 0,J 0,.ad [],J 0]]:LV)=[.aa 0 0,.ai (dp w.2)]/\bT m=bT w.1/\w.1.bk.length<4194304)/\Q (.aC []) (Nz (Em.a_ w.1 w.2) c base)) (aw (n==1) (∃w:Em×qD,(([.aa 0 0,.ai [J n,.ad s,J aN,J bz,.ah cs len 4,J ct]]:LV)=[.aa 0 0,.ai [J w.2.fM,.ad w.2.aO.cT,J w.2.aO.ar,J w.2.aO.ao,.ah (aH w.2.fj) w.2.fj.length 4,J w.2.n7]]/\bT m=bT w.1/\amD w.1 w.2)/\aw (i==wI (Int.ofNat m.f.ba.length-1)) (∃ae:Em×Bool,(([.aa 0 0,.aa 1 0]:LV)=[.aa 0 0,.aa 1 0]/\CC (Em.fZ 0 w.1 w.2.fj) c_=CC ae.1 ae.2/\ae.1.bk.length<4194304)/\(∃aE:Em×eG,(([.aa 0 0,.ai [J 20,J 0,J 0,J bz,.ad s,J aN]]:LV)=[.aa 0 0,.ai (dp aE.2)]/\bT (Em.df ae.1 ae.2)=bT aE.1/\aE.1.bk.length<4194304)/\Q (.aC []) (Nz (Em.a_ aE.1 aE.2) c base))) (∃cN:Nat,i=(cN:Int)/\cN<c.aR.length/\(∃dm,cz Z 3 (aX c.aR) (cN*1)=some (J dm:AV)/\aw (decide (size>dm)) (∃ew:Nat,i=(ew:Int)/\ew<c.aR.length/\(∃kC,cz Z 3 (aX c.aR) (ew*1)=some (J kC:AV)/\(∃ae:Em×eG,(([.aa 0 0,.ai [J 17,J 0,J 0,J kC,.ad [],J 0]]:LV)=[.aa 0 0,.ai (dp ae.2)]/\bT (Em.fZ 0 w.1 w.2.fj)=bT ae.1/\ae.1.bk.length<4194304)/\(∃aE:Em×eG,(([.aa 0 0,.ai [J 19,J 0,J 0,J bz,.ad s,J aN]]:LV)=[.aa 0 0,.ai (dp aE.2)]/\bT (Em.a_ ae.1 ae.2)=bT aE.1/\aE.1.bk.length<4194304)/\(∃ia:Nat,i=(ia:Int)/\ia<c.cC.length/\(∃ql,cz Z 3 (aX c.cC) (ia*1)=some (J ql:AV)/\(∃Bc:Nat,wI (ql+1)=(Bc:Int)/\Bc<base.length/\(∃n_7:Int,cz Z 3 (aX base) (Bc*1)=some (J n_7:AV)/\L (D0 base.length kC gs gl (wI (i+1))) (aq [(0,.al [.aj 13 (Em.a_ aE.1 aE.2).bk.length 6,.ad (Em.a_ aE.1 aE.2).f.aO.cT,J (Em.a_ aE.1 aE.2).f.aO.ar,J (Em.a_ aE.1 aE.2).f.aO.ao,.ah (aH (Em.a_ aE.1 aE.2).f.bL) (Em.a_ aE.1 aE.2).f.bL.length 4,.ah (bD (Em.a_ aE.1 aE.2).f.ba) (Em.a_ aE.1 aE.2).f.ba.length 6,.aB 6,.aB 7,.aB 8,.aB 9,J n_7,.au (Em.a_ aE.1 aE.2).iS] 162),(1,bH c.cC 3),(2,bH c.bA 2),(3,bH c.aR 3),(4,bH base 3),(5,.bm []),(6,fe (Em.a_ aE.1 aE.2)),(7,ft (Em.a_ aE.1 aE.2)),(8,fi (Em.a_ aE.1 aE.2)),(9,fg (Em.a_ aE.1 aE.2)),(10,kJ 0),(11,.al [.aj 1 c.cC.length 1,.aj 2 c.bA.length 1,.aj 3 c.aR.length 1] 153),(12,.al [.au c_] 4),(13,fP (Em.a_ aE.1 aE.2))] 14) (ax Z 91 0))))))))) (∃ae:Em×eG,(([.aa 0 0,.ai [J 19,J 0,J 0,J bz,.ad s,J aN]]:LV)=[.aa 0 0,.ai (dp ae.2)]/\bT (Em.fZ 0 w.1 w.2.fj)=bT ae.1/\ae.1.bk.length<4194304)/\(∃ew:Nat,i=(ew:Int)/\ew<c.cC.length/\(∃kC:Int,cz Z 3 (aX c.cC) (ew*1)=some (J kC:AV)/\(∃ia:Nat,wI (kC+1)=(ia:Int)/\ia<base.length/\(∃ql:Int,cz Z 3 (aX base) (ia*1)=some (J ql:AV)/\L (D0 base.length size gs gl (wI (i+1))) (aq [(0,.al [.aj 13 (Em.a_ ae.1 ae.2).bk.length 6,.ad (Em.a_ ae.1 ae.2).f.aO.cT,J (Em.a_ ae.1 ae.2).f.aO.ar,J (Em.a_ ae.1 ae.2).f.aO.ao,.ah (aH (Em.a_ ae.1 ae.2).f.bL) (Em.a_ ae.1 ae.2).f.bL.length 4,.ah (bD (Em.a_ ae.1 ae.2).f.ba) (Em.a_ ae.1 ae.2).f.ba.length 6,.aB 6,.aB 7,.aB 8,.aB 9,J ql,.au (Em.a_ ae.1 ae.2).iS] 162),(1,bH c.cC 3),(2,bH c.bA 2),(3,bH c.aR 3),(4,bH base 3),(5,.bm []),(6,fe (Em.a_ ae.1 ae.2)),(7,ft (Em.a_ ae.1 ae.2)),(8,fi (Em.a_ ae.1 ae.2)),(9,fg (Em.a_ ae.1 ae.2)),(10,kJ 0),(11,.al [.aj 1 c.cC.length 1,.aj 2 c.bA.length 1,.aj 3 c.aR.length 1] 153),(12,.al [.au c_] 4),(13,fP (Em.a_ ae.1 ae.2))] 14) (ax Z 91 0))))))))) (L (D0 base.length size gs gl (wI (i+1))) (Mi m c.cC c.bA c.aR base [.aj 1 c.cC.length 1,.aj 2 c.bA.length 1,.aj 3 c.aR.length 1] c_) (ax Z 91 0)))))))) (∃w:Em×Bool,(([.aa 0 0,.aa 1 0]:LV)=[.aa 0 0,.aa 1 0]/\CC m c_=CC w.1 w.2/\w.1.bk.length<4194304)/\(∃ae:Em×eG,(([.aa 0 0,.ai [J 21,J 0,J 0,J 0,.ad [],J 0]]:LV)=[.aa 0 0,.ai (dp ae.2)]/\bT (Em.df w.1 w.2)=bT ae.1/\ae.1.bk.length<4194304)/\Q (.aC []) (Nz (Em.a_ ae.1 ae.2) c base)))):=by kernel_rfl
theorem aqi(m:Em)(t b):(m.mK t b).f=m.f:=by
 unfold Em.mK;split
 .split<;>rfl
 .split
  .rfl
  .split<;>rfl
theorem afL:∀(l) (m:Em),(m.tp l).f=m.f
 |[],m=>rfl
 |(t,b)::l,m=>by have h2:=afL l (m.mK t b);simp only[Em.tp,sV]at h2⊢;rw[h2,aqi]
mutual
theorem af9:∀(m:Em) (r:Int) (t:aF),(m.pN r t).f=m.f
 |m,r,.mk k n s l=>by simp only[Em.pN,afL];exact X4 m l
theorem X4:∀(m:Em) (l:eH),(m.j5 l).1.f=m.f
 |m,[]=>rfl
 |m,t::l=>by
  simp only[Em.j5];split
  .rw[X4,af9];rfl
  .rw[X4]
end
theorem aye(m:Em)(w):(m.pO w).f=m.f:=by
 unfold Em.pO;split
 .unfold Em.wG;split<;>rfl
 .split
  .rfl
  .split
   .rfl
   .exact af9 _ _ _
theorem aca:∀l i m,(Em.fZ i m l).f=m.f
 |[],i,m=>rfl
 |t::l,i,m=>by rw[Em.fZ,aca l,aye]
theorem ame:∀l i m,(Em.fZ i m l).bk.length<=m.bk.length+2*bN l
 |[],i,m=>by simp[Em.fZ]
 |t::l,i,m=>by have h1:=ama m (((i+1:Nat):Int),t);have h2:=ame l (i+1) (m.pO (((i+1:Nat):Int),t));simp only[Em.fZ,bN];simp only at h1;omega
theorem aih(m:Em)(e):(m.df e).bk.length<=m.bk.length+1:=by
 cases e
 .show m.bk.length<=_;omega
 .exact lO m _
theorem ai8(m:Em)(w):(m.nN w).bk.length<=m.bk.length+2:=by
 unfold Em.nN;cases m.rM w.2
 .have:=lO (m.jq w.2) ⟨w.1,m.mZ w.2,0,0,[],0⟩;have e:(m.jq w.2).bk=m.bk:=rfl;rw[e]at this;show((m.jq w.2).a_ _).bk.length<=_;omega
 .have h1:=lO m.ca ⟨w.1,m.ca.c9,0,0,[],0⟩;rw[LA]at h1;have h2:=lO ((m.ca.a_ ⟨w.1,m.ca.c9,0,0,[],0⟩).jq w.2) ⟨2,(m.ca.a_ ⟨w.1,m.ca.c9,0,0,[],0⟩).mZ w.2,m.ca.c9,0,[],0⟩;have e:((m.ca.a_ ⟨w.1,m.ca.c9,0,0,[],0⟩).jq w.2).bk=(m.ca.a_ ⟨w.1,m.ca.c9,0,0,[],0⟩).bk:=rfl;rw[e]at h2;simp;omega
theorem ai7(m:Em)(w):(m.nN w).f=m.f:=by unfold Em.nN;cases m.rM w.2<;>rfl
theorem arR(m:Em)(v):(m.sv v).bk.length<=m.bk.length+1:=by
 unfold Em.sv;cases m.rM v
 .show m.bk.length<=_;omega
 .exact lO (m.jq v) _
theorem arN(m:Em)(v):(m.sv v).f=m.f:=by unfold Em.sv;cases m.rM v<;>rfl
theorem aiI:∀l,4<=oM l
 |[]=>by simp[oM]
 |g::l=>by have:=aiI l;simp only[oM];omega
theorem oy{l i}(h:i<l.length):cz Z 3 (aX l) (i*1)=some (J (l.getD i 0)):=by rw[NM,aX,mu,sa,gS h];simp[List.getD,gS h]
section
variable{c:mI}{base:LI}{c_:Bool}{i:Nat}{size:Int}{m:Em}{g:qD}{l:gi}
theorem aud:Em.ba c base c_ i size m []=(m.df c_).a_ ⟨21,0,0,0,[],0⟩:=rfl
theorem aub(h:g.fM=2):Em.ba c base c_ i size m (g::l)=Em.ba c base c_ (i+1) size (m.nN (22,g.n7)) l:=by simp[Em.ba,h]
theorem auc(h:g.fM=3):Em.ba c base c_ i size m (g::l)=Em.ba c base c_ (i+1) size (m.nN (23,g.n7)) l:=by simp[Em.ba,h]
theorem at8(h:g.fM=4):Em.ba c base c_ i size m (g::l)=Em.ba c base c_ (i+1) size (m.sv g.n7) l:=by simp[Em.ba,h]
theorem at9(h:g.fM=5):Em.ba c base c_ i size m (g::l)=m.a_ ⟨25,0,0,0,[],0⟩:=by simp[Em.ba,h]
theorem aua(h:g.fM=1):Em.ba c base c_ i size m [g]=((m.fZ 0 g.fj).df c_).a_ ⟨20,0,0,g.aO.ao,g.aO.cT,g.aO.ar⟩:=by simp[Em.ba,h]
theorem auf(h:g.fM=1)(hl:l≠[])(hs:size>c.aR.getD i 0):Em.ba c base c_ i size m (g::l)=Em.ba c base c_ (i+1) (c.aR.getD i 0) ((((m.fZ 0 g.fj).a_ ⟨17,0,0,c.aR.getD i 0,[],0⟩).a_ ⟨19,0,0,g.aO.ao,g.aO.cT,g.aO.ar⟩).DT (base.getD (c.cC.getD i 0+1).toNat 0)) l:=by
 cases l with
 |nil=>exact absurd rfl hl
 |cons a l=>rw[Em.ba];simp only[h];rw[az (by omega),az (by omega),az (by omega),az (by omega),aL trivial,aL hs]
theorem at7(h:g.fM=1)(hl:l≠[])(hs:¬size>c.aR.getD i 0):Em.ba c base c_ i size m (g::l)=Em.ba c base c_ (i+1) size (((m.fZ 0 g.fj).a_ ⟨19,0,0,g.aO.ao,g.aO.cT,g.aO.ar⟩).DT (base.getD (c.cC.getD i 0+1).toNat 0)) l:=by
 cases l with
 |nil=>exact absurd rfl hl
 |cons a l=>rw[Em.ba];simp only[h];rw[az (by omega),az (by omega),az (by omega),az (by omega),aL trivial,az hs]
theorem aue(h1:g.fM≠1)(h2:g.fM≠2)(h3:g.fM≠3)(h4:g.fM≠4)(h5:g.fM≠5):Em.ba c base c_ i size m (g::l)=Em.ba c base c_ (i+1) size m l:=by simp[Em.ba,h1,h2,h3,h4,h5]
end
theorem aAS{gs c base c_ M}(hg:KD c base gs):
 ∀p:Nat×Int×Em,(p.1<=gs.length/\p.2.2.bk.length+oM (gs.drop p.1)<4194304/\p.2.2.f.ba.length=gs.length/\Em.ba c base c_ p.1 p.2.1 p.2.2 (gs.drop p.1)=M)->
 bu Z 91 132 10 (.aC []) (Nz M c base) (t28 base.length p.2.1 (bD gs) gs.length (p.1:Int)) (r28 p.2.2 c base c_) (ax Z 91 0):=by
 refine dF (λp=>gs.length-p.1) _ _ _ _ ?_;rintro⟨i,size,m⟩ ⟨hi,hc,hm,hf⟩ ih;simp only at hi hc hm hf ih⊢;refine hE VO aAU ?_;have xN:=aiI (gs.drop i);refine aD (λay=>?_) λbq=>?_
 .have ay:i<gs.length:=by simpa using ay
  have⟨k,nm,ar,ao,ls,v,he,b_,aZ⟩:=Cx ay hg.ok;have I0:=hg.ks gs[i] (r8 ay);have ai0:=hg.base i ay;rw[he]at I0 ai0;rw[fV ay,he]at hf hc;simp only[oM]at hc;refine⟨i,rfl,ay,k,nm,ar,ao,_,_,v,b_,?_⟩;rw[kU hg.len ay];have e:wI (Int.ofNat m.f.ba.length-1)=(gs.length:Int)-1:=by have hl:=hg.len;unfold dk at hl;rw[hm,cH (by simp;omega) (by simp;omega)];simp
  rw[e];have next:=λano m' (h:m'.bk.length+oM (gs.drop (i+1))<4194304) (h2:m'.f.ba.length=gs.length) (h3:Em.ba c base c_ (i+1) ano m' (gs.drop (i+1))=M)=>ih (i+1,ano,m') ⟨by simp;omega,h,h2,h3⟩ (by simp;omega)
  have hr:m.bk.length<4194304:=by omega
  refine aD (λhk=>?_) λoP=>?_
  .have hk:k=2:=by simpa using hk
   rw[aub hk]at hf;have h1:=ai8 m (22,v);have n1:=next _ (m.nN (22,v)) (by omega) (by rw[ai7];exact hm) hf
   exact⟨(m,(22,v)),⟨rfl,rfl,by show m.bk.length<4194303;omega⟩,n1⟩
  have oP:k≠2:=by simpa using oP
  refine aD (λhk=>?_) λhk3=>?_
  .have hk:k=3:=by simpa using hk
   rw[auc hk]at hf;have h1:=ai8 m (23,v);have n1:=next _ (m.nN (23,v)) (by omega) (by rw[ai7];exact hm) hf
   exact⟨(m,(23,v)),⟨rfl,rfl,by show m.bk.length<4194303;omega⟩,n1⟩
  have hk3:k≠3:=by simpa using hk3
  refine aD (λhk=>?_) λhk4=>?_
  .have hk:k=4:=by simpa using hk
   rw[at8 hk]at hf;have h1:=arR m v;have n1:=next _ (m.sv v) (by omega) (by rw[arN];exact hm) hf
   exact⟨(m,v),⟨rfl,rfl,hr⟩,n1⟩
  have hk4:k≠4:=by simpa using hk4
  refine aD (λhk=>?_) λhk5=>?_
  .have hk:k=5:=by simpa using hk
   rw[at9 hk]at hf;subst hf;exact⟨(m,⟨25,0,0,0,[],0⟩),⟨rfl,rfl,hr⟩,rfl,rfl⟩
  have hk5:k≠5:=by simpa using hk5
  refine aD (λhk=>?_) λqY=>?_
  .have hk:k=1:=by simpa using hk
   have⟨b1,b2,b3⟩:=ai0 hk;have h1:=ame ls 0 m;refine⟨(m,⟨k,⟨nm,ar,ao⟩,ls,v⟩),⟨rfl,rfl,by show m.bk.length+2*bN ls+1<4194304;omega,aZ,I0⟩,?_⟩;refine aD (λML=>?_) λML=>?_
   .have ML:(i:Int)=(gs.length:Int)-1:=by simpa using ML
    have hd:gs.drop (i+1)=[]:=gR (by omega);rw[hd,aua hk]at hf;have h2:=aih (m.fZ 0 ls) c_;subst hf;exact⟨(m.fZ 0 ls,c_),⟨rfl,rfl,by show(m.fZ 0 ls).bk.length<4194304;omega⟩,((m.fZ 0 ls).df c_,⟨20,0,0,ao,nm,ar⟩),⟨rfl,rfl,by show((m.fZ 0 ls).df c_).bk.length<4194304;omega⟩,rfl,rfl⟩
   .have ML:¬(i:Int)=(gs.length:Int)-1:=by simpa using ML
    have hd:gs.drop (i+1)≠[]:=by intro h;have:=List.drop_eq_nil_iff.1 h;omega
    have xK:i<c.aR.length:=by rw[hg.aR];exact ay
    have A5:i<c.cC.length:=by rw[hg.cC];exact ay
    have eo:wI (c.cC.getD i 0+1)=(((c.cC.getD i 0+1).toNat:Nat):Int):=by rw[cH,Int.toNat_of_nonneg (by omega)]
    have RO:(c.cC.getD i 0+1).toNat<base.length:=by omega
    refine⟨i,rfl,xK,_,oy xK,aD (λhs=>?_) λhs=>?_⟩
    .have hs:size>c.aR.getD i 0:=by simpa using hs
     rw[auf hk hd hs]at hf;have h2:=lO (m.fZ 0 ls) ⟨17,0,0,c.aR.getD i 0,[],0⟩;have h3:=lO ((m.fZ 0 ls).a_ ⟨17,0,0,c.aR.getD i 0,[],0⟩) ⟨19,0,0,ao,nm,ar⟩;have n1:=next _ ((((m.fZ 0 ls).a_ ⟨17,0,0,c.aR.getD i 0,[],0⟩).a_ ⟨19,0,0,ao,nm,ar⟩).DT (base.getD (c.cC.getD i 0+1).toNat 0))
      (by have e:∀(x:Em) n,(x.DT n).bk=x.bk:=λ_ _=>rfl
          rw[e];omega) (by show(Em.fZ 0 m ls).f.ba.length=_;rw[aca];exact hm) hf
     exact⟨i,rfl,xK,_,oy xK,(m.fZ 0 ls,⟨17,0,0,c.aR.getD i 0,[],0⟩),⟨rfl,rfl,by show(m.fZ 0 ls).bk.length<4194304;omega⟩,
      ((m.fZ 0 ls).a_ ⟨17,0,0,c.aR.getD i 0,[],0⟩,⟨19,0,0,ao,nm,ar⟩),⟨rfl,rfl,by show((m.fZ 0 ls).a_ _).bk.length<4194304;omega⟩,i,rfl,A5,_,oy A5,_,eo,RO,_,oy RO,n1⟩
    .have hs:¬size>c.aR.getD i 0:=by simpa using hs
     rw[at7 hk hd hs]at hf;have h3:=lO (m.fZ 0 ls) ⟨19,0,0,ao,nm,ar⟩;have n1:=next _ (((m.fZ 0 ls).a_ ⟨19,0,0,ao,nm,ar⟩).DT (base.getD (c.cC.getD i 0+1).toNat 0))
      (by have e:∀(x:Em) n,(x.DT n).bk=x.bk:=λ_ _=>rfl
          rw[e];omega) (by show(Em.fZ 0 m ls).f.ba.length=_;rw[aca];exact hm) hf
     exact⟨(m.fZ 0 ls,⟨19,0,0,ao,nm,ar⟩),⟨rfl,rfl,by show(m.fZ 0 ls).bk.length<4194304;omega⟩,i,rfl,A5,_,oy A5,_,eo,RO,_,oy RO,n1⟩
  have qY:k≠1:=by simpa using qY
  rw[aue qY oP hk3 hk4 hk5]at hf;exact next _ m (by omega) hm hf
 .have bq:gs.length<=i:=by simpa using bq
  rw[gR bq,aud]at hf;have h2:=aih m c_;subst hf;exact⟨(m,c_),⟨rfl,rfl,by show m.bk.length<4194304;omega⟩,(m.df c_,⟨21,0,0,0,[],0⟩),⟨rfl,rfl,by show(m.df c_).bk.length<4194304;omega⟩,rfl,rfl⟩
theorem aw8(m c base c_):Mv (i28 m c base c_) (r28 m c base c_) 5:=
 qk (l':=[(0,fF m 13 6 7 8 9),(1,bH c.cC 3),(2,bH c.bA 2),(3,bH c.aR 3),(4,bH base 3),(5,.bm []),(6,fe m),(7,ft m),(8,fi m),(9,fg m),(10,kJ 0),(11,.al (LK c) 153),(12,.al [.au c_] 4)]) rfl rfl rfl
theorem VP:aS Z O8:=by refine cu VO ?_;rintro⟨m,c,base,c_⟩ args H ⟨rfl,rfl,hc,hg⟩;refine eS VO (λ_=>[2,4,5,8,9,22,23,24]) 132 ?_;simp;rw[aAT];refine uT ?_ (aw8 m c base c_) (λi a' hi=>⟨a',hi,wz hi (by simp[eM,nY,lu,i28,aq,eA])⟩);exact aAS hg (0,_,m) ⟨by simp,by simpa using hc,rfl,by simp⟩
def yO:LI->Int->gi->LI
 |d,c,[]=>d++[c]
 |d,c,g::gs=>if g.fM=1 then yO (d++[max c (g.fj.length:Int)]) 0 gs else yO d c gs
def gH(f:bG):LI:=yO [] f.bL.length f.ba
def dJ(l:LI):AH:=aq [(0,bH l 3)] 1
def XU:cq bG where
 bh f A H:=A=[.ai (gP f)]/\H=an/\ig f/\f.ba.length<1200000
 v f:=.aj 0 (gH f).length 1
 aK f:=dJ (gH f)
theorem aqC:XU.ck:=by rintro f f' A H ⟨h1,_⟩ ⟨h3,_⟩;rw[h1]at h3;simp at h3;rw[yY _ _ h3]
def VQ:Ev.bp:=bR 86 (bW XU aqC cB) O8
theorem aAC{nm ar ao cs len gs gl L Q}:
 bC Z O8 (λ_=>[3,12,13,14]) L Q 1000 86 [.ai [.ad nm,J ar,J ao,.ah cs len 4,.ah gs gl 6]] an=(
 L (bg [(3,.bw 0 0 1 1 1 true),(12,.ah gs gl 6),(13,J (aP gl)),(14,J 0)]) (jR (aP len)) (ax Z 86 0)):=by kernel_rfl
abbrev Ui x0 x1 x2 x3:=bg [(3,.aj 0 x0 1),(12,.ah x1 x2 6),(13,J (aP x2)),(14,J x3)]
theorem aAD{i gs gl l L Q}:
 cg Z O8 (λ_=>[3,12,13,14]) L Q 1000 86 0 (Ui l.length gs gl i) (ax Z 86 0) (dJ l)=(
 aw (decide (i<aP gl)) (∃aJ:Nat,i=(aJ:Int)/\aJ<gl/\(∃n s aN bz cs len ct,((gs.drop (aJ*6)).take 6:LV)=[J n,.ad s,J aN,J bz,.ah cs len 4,J ct]/\aw (n==1) (∃cN:Nat,wI (aP l.length-1)=(cN:Int)/\cN<l.length/\(∃dm,cz Z 3 (aX l) (cN*1)=some (J dm:AV)/\(∃ew:Nat,wI (aP l.length-1)=(ew:Int)/\ew<l.length/\ew*1+1<=(aX l).length/\((gE (aX l) (ew*1) [J (if aP len>dm then aP len else dm)]).length=l.length*1/\l.length+1<=4194304/\true=true/\true=true)/\L (Ui (l.length+1) gs gl (wI (i+1))) (aq [(0,.aA (gE (aX l) (ew*1) [J (if aP len>dm then aP len else dm)]++[J 0]) 3)] 1) (ax Z 86 0)))) (L (Ui l.length gs gl (wI (i+1))) (dJ l) (ax Z 86 0)))) (Q (.aj 0 l.length 1) (dJ l))):=by kernel_rfl
theorem Bv(l):(aX l).length=l.length:=by simp[aX]
theorem Od(l m):aX (l++m)=aX l++aX m:=by simp[aX]
theorem TA{l i}(x)(h:i<l.length):gE (aX l) i [J x]=aX (l.set i x):=by unfold gE aX;rw[List.map_set,List.set_eq_take_append_cons_drop,aL (by simpa using h)];rfl
theorem Oe(l):(aX l).all AV.cY=true/\(aX l).all eR=true:=by constructor<;>(rw[mq];intro x hx;obtain⟨n,_,rfl⟩:=sb.1 hx;rfl)
theorem aAB{gs aI}(hl:dk gs.length)(ho:∀g∈gs,rf g):
 ∀p:Nat×LI×Int,(p.1<=gs.length/\p.2.1.length+(gs.length-p.1)<1300000/\yO p.2.1 p.2.2 (gs.drop p.1)=aI)->
 bu Z 86 40 0 (.aj 0 aI.length 1) (dJ aI) (Ui (p.2.1++[p.2.2]).length (bD gs) gs.length (p.1:Int)) (dJ (p.2.1++[p.2.2])) (ax Z 86 0):=by
 refine dF (λp=>gs.length-p.1) _ _ _ _ ?_;rintro⟨i,d,c⟩ ⟨hi,hc,hf⟩ ih;simp only at hi hc hf ih⊢;refine hE VP aAD ?_;refine aD (λay=>?_) λbq=>?_
 .have ay:i<gs.length:=by simpa using ay
  have⟨k,nm,ar,ao,ls,v,he,b_,aZ⟩:=Cx ay ho;rw[fV ay,he]at hf;refine⟨i,rfl,ay,k,nm,ar,ao,_,_,v,b_,?_⟩;rw[kU hl ay];refine aD (λhk=>?_) λhk=>?_
  .have hk:k=1:=by simpa using hk
   simp only[yO,hk,if_true]at hf;have e:wI (aP (d++[c]).length-1)=((d.length:Nat):Int):=by
    have e0:aP (d++[c]).length-1=(d.length:Int):=by simp
    rw[e0,cH]
   have hd:d.length<(d++[c]).length:=by simp
   have hg:(d++[c]).getD d.length 0=c:=by simp[List.getD]
   have lj:(d++[c]).set d.length (max c (ls.length:Int))=d++[max c (ls.length:Int)]:=by simp
   have R3:(if aP ls.length>c then aP ls.length else c)=max c (ls.length:Int):=by simp;split<;>omega
   refine⟨d.length,e,hd,c,by rw[oy hd,hg],d.length,e,hd,by rw[Bv];simp,?_⟩;rw[mu,R3,TA _ hd,lj];refine⟨⟨by rw[Bv];simp,by simp;omega,rfl,rfl⟩,?_⟩;have next:=ih (i+1,d++[max c (ls.length:Int)],0) ⟨by simp;omega,by simp;omega,hf⟩ (by simp;omega)
   simp only[dJ,bH,Od (d++[max c (ls.length:Int)]) [0]]at next
   have e2:(d++[max c (ls.length:Int)]++[0]).length=(d++[c]).length+1:=by simp
   rw[e2]at next
   exact next
  .have hk:k≠1:=by simpa using hk
   simp only[yO,hk,if_false]at hf;exact ih (i+1,d,c) ⟨by simp;omega,by simp;omega,hf⟩ (by simp;omega)
 .have bq:gs.length<=i:=by simpa using bq
  rw[gR bq,yO]at hf;subst hf;exact⟨rfl,rfl⟩
theorem ad5:aS Z VQ:=by refine cu VP ?_;rintro⟨⟨nm,ar,ao⟩,l,gs⟩ args H ⟨rfl,rfl,ho,hg⟩;simp only at hg;refine eS VP (λ_=>[3,12,13,14]) 40 ?_;simp only[XU,gP];rw[aAC];refine zi (g:=0) (new:=bH [(l.length:Int)] 3) ?_ rfl (λφ e o h=>sB (Oe _).2 h) rfl;exact aAB ho.2.2.2.1 ho.2.2.2.2 (0,[],(l.length:Int)) ⟨by simp,by simp;omega,rfl⟩
abbrev ry:=Int×LN×LN×LN×LN
def DU:List ry:=[
 (1,[103,101,116,95,118,97,114],[114,97],[97],[114]),
 (2,[103,101,116,95,118,97,108],[114,97],[114,97],[]),
 (3,[103,101,116,95,105,110,116],[97,110],[97],[]),
 (4,[103,101,116,95,97,116,111,109],[97,115],[97],[]),
 (5,[103,101,116,95,115,116,114,117,99,116],[97,102],[97],[]),
 (6,[97,114,103,95,118,97,114],[114],[],[114]),
 (7,[97,114,103,95,118,97,108],[114],[114],[]),
 (8,[97,114,103,95,105,110,116],[110],[],[]),
 (9,[97,114,103,95,97,116,111,109],[115],[],[]),
 (10,[97,114,103,95,118,111,105,100],[118],[],[]),
 (11,[112,117,116,95,118,97,114],[114,97],[],[114,97]),
 (12,[112,117,116,95,118,97,108],[114,97],[114],[97]),
 (13,[112,117,116,95,105,110,116],[97,110],[],[97]),
 (14,[112,117,116,95,97,116,111,109],[97,115],[],[97]),
 (15,[112,117,116,95,115,116,114,117,99,116],[114,102],[],[114]),
 (16,[97,108,108,111,99,97,116,101],[99],[],[]),
 (17,[116,114,105,109],[99],[],[]),
 (18,[102,114,101,101],[],[],[]),
 (19,[99,97,108,108],[112],[112],[]),
 (20,[101,120,101,99,117,116,101],[112],[112],[]),
 (21,[112,114,111,99,101,101,100],[],[],[]),
 (22,[108,101,118,101,108],[114],[],[114]),
 (23,[109,97,114,107],[114],[],[114]),
 (24,[99,117,116],[114],[114],[]),
 (25,[102,97,105,108],[],[],[])]
def asL(r:ry):LV:=[J r.1,.ad r.2.1,.ad r.2.2.1,.ad r.2.2.2.1,.ad r.2.2.2.2]
def asM:List ry->LV
 |[]=>[]
 |r::l=>asL r++asM l
def H9(r:ry):LV:=[.ad r.2.1,.ad r.2.2.1,.ad r.2.2.2.1,.ad r.2.2.2.2]
def ahq:List ry->LV
 |[]=>[]
 |r::l=>H9 r++ahq l
def GR:ry:=(0,[],[],[],[])
def S9:List ry->Nat->Option ry
 |[],_=>none
 |r::_,0=>some r
 |_::l,i+1=>S9 l i
def yu:Int->Option ry
 |.ofNat 0=>none
 |.ofNat (n+1)=>S9 DU n
 |.negSucc _=>none
def acN:LV->Option (Prop×AV)
 |[.bV .i64 k]=>some (True,match yu k with|some r=>.aC [.ai (H9 r),.au true]|none=>.aC [.ai (H9 GR),.au false])
 |_=>none
def ann:LV->Option (Prop×AV)
 |[]=>some (True,.ai (ahq (GR::DU)))
 |_=>none
def mC(r:Int):Bool:=decide (1<=r/\r<=4096)
def pF(r:Int):Bool:=decide (r≠0/\-4096<=r/\r<=4096)
def ajI(i:eG):Bool:=pC ⟨i.fx,i.ar,i.n⟩
def amp:LV->Option (Prop×AV)
 |[.bV .i64 r,.au x]=>some (True,.au (bif x then mC r else pF r))
 |_=>none
def al1:LV->Option (Prop×AV)
 |[.ai [.bV .i64 _,.bV .i64 _,.bV .i64 _,.bV .i64 n,.ad s,.bV .i64 ar]]=>some (True,.au (pC ⟨s,ar,n⟩))
 |_=>none
def D1:Ev.bp:=fk 194 (fY Tw) VQ
def D2:Ev.bp:=fk 185 (fY al1) D1
def D3:Ev.bp:=fk 184 (fY amp) D2
abbrev D4:Ev.bp:=D3
abbrev D5:Ev.bp:=D4
abbrev D6:Ev.bp:=D5
abbrev D7:Ev.bp:=D6
def D8:Ev.bp:=fk 192 (fY ann) D7
def D9:Ev.bp:=fk 186 (fY acN) D8
abbrev D10:Ev.bp:=D9
abbrev Pb:Ev.bp:=D10
theorem aAl{nm ar ao L Q}:
 bC Z VQ (λ_=>[]) L Q 1000 194 [.ai [.ad nm,J ar,J ao]] an=(
 aw (ao==0) (aw (decide (aP nm.length<=100)) (aw (decide (ar>=0)) (Q (.au (decide (ar<=8))) an) (Q (.au false) an)) (Q (.au false) an)) (aw (cb nm []) (aw (decide (ao>=1)) (aw (decide (ao<=1099511627776)) (aw (decide (ar>=0)) (Q (.au (decide (ar<=4096))) an) (Q (.au false) an)) (Q (.au false) an)) (Q (.au false) an)) (Q (.au false) an))):=by kernel_rfl
theorem azZ{o r a n s ar L Q}:
 bC Z D1 (λ_=>[]) L Q 1000 185 [.ai [J o,J r,J a,J n,.ad s,J ar]] an=(
 aw (n==0) (aw (decide (aP s.length<=100)) (aw (decide (ar>=0)) (Q (.au (decide (ar<=8))) an) (Q (.au false) an)) (Q (.au false) an)) (aw (cb s []) (aw (decide (n>=1)) (aw (decide (n<=1099511627776)) (aw (decide (ar>=0)) (Q (.au (decide (ar<=4096))) an) (Q (.au false) an)) (Q (.au false) an)) (Q (.au false) an)) (Q (.au false) an))):=by kernel_rfl
theorem azY{r x L Q}:
 bC Z D2 (λ_=>[]) L Q 1000 184 [J r,.au x] an=(
 aw (decide (r>=1)) (aw (decide (r<=4096)) (Q (.au true) an) (aw (!x) (aw (decide (r<=-1)) (Q (.au (decide (r>=-4096))) an) (Q (.au false) an)) (Q (.au false) an))) (aw (!x) (aw (decide (r<=-1)) (Q (.au (decide (r>=-4096))) an) (Q (.au false) an)) (Q (.au false) an))):=by kernel_rfl
theorem aAi{L Q}:
 bC Z D7 (λ_=>[]) L Q 1000 192 [] an=(
 Q (.ai [.ad [],.ad [],.ad [],.ad [],.ad [103,101,116,95,118,97,114],.ad [114,97],.ad [97],.ad [114],.ad [103,101,116,95,118,97,108],.ad [114,97],.ad [114,97],.ad [],.ad [103,101,116,95,105,110,116],.ad [97,110],.ad [97],.ad [],.ad [103,101,116,95,97,116,111,109],.ad [97,115],.ad [97],.ad [],.ad [103,101,116,95,115,116,114,117,99,116],.ad [97,102],.ad [97],.ad [],.ad [97,114,103,95,118,97,114],.ad [114],.ad [],.ad [114],.ad [97,114,103,95,118,97,108],.ad [114],.ad [114],.ad [],.ad [97,114,103,95,105,110,116],.ad [110],.ad [],.ad [],.ad [97,114,103,95,97,116,111,109],.ad [115],.ad [],.ad [],.ad [97,114,103,95,118,111,105,100],.ad [118],.ad [],.ad [],.ad [112,117,116,95,118,97,114],.ad [114,97],.ad [],.ad [114,97],.ad [112,117,116,95,118,97,108],.ad [114,97],.ad [114],.ad [97],.ad [112,117,116,95,105,110,116],.ad [97,110],.ad [],.ad [97],.ad [112,117,116,95,97,116,111,109],.ad [97,115],.ad [],.ad [97],.ad [112,117,116,95,115,116,114,117,99,116],.ad [114,102],.ad [],.ad [114],.ad [97,108,108,111,99,97,116,101],.ad [99],.ad [],.ad [],.ad [116,114,105,109],.ad [99],.ad [],.ad [],.ad [102,114,101,101],.ad [],.ad [],.ad [],.ad [99,97,108,108],.ad [112],.ad [112],.ad [],.ad [101,120,101,99,117,116,101],.ad [112],.ad [112],.ad [],.ad [112,114,111,99,101,101,100],.ad [],.ad [],.ad [],.ad [108,101,118,101,108],.ad [114],.ad [],.ad [114],.ad [109,97,114,107],.ad [114],.ad [],.ad [114],.ad [99,117,116],.ad [114],.ad [114],.ad [],.ad [102,97,105,108],.ad [],.ad [],.ad []]) an):=by kernel_rfl
theorem az0{k L Q}:
 bC Z D8 (λ_=>[]) L Q 1000 186 [J k] an=(
 aw (decide (k<1)) (Q (.aC [.ai [.ad [],.ad [],.ad [],.ad []],.au false]) an) (aw (decide (k>25)) (Q (.aC [.ai [.ad [],.ad [],.ad [],.ad []],.au false]) an) ((aq [] 0=an/\True)/\((0:Int)<=k/\k<26)/\(k=0->Q (.aC [.ai [.ad [],.ad [],.ad [],.ad []],.au true]) an)/\(k=1->Q (.aC [.ai [.ad [103,101,116,95,118,97,114],.ad [114,97],.ad [97],.ad [114]],.au true]) an)/\(k=2->Q (.aC [.ai [.ad [103,101,116,95,118,97,108],.ad [114,97],.ad [114,97],.ad []],.au true]) an)/\(k=3->Q (.aC [.ai [.ad [103,101,116,95,105,110,116],.ad [97,110],.ad [97],.ad []],.au true]) an)/\(k=4->Q (.aC [.ai [.ad [103,101,116,95,97,116,111,109],.ad [97,115],.ad [97],.ad []],.au true]) an)/\(k=5->Q (.aC [.ai [.ad [103,101,116,95,115,116,114,117,99,116],.ad [97,102],.ad [97],.ad []],.au true]) an)/\(k=6->Q (.aC [.ai [.ad [97,114,103,95,118,97,114],.ad [114],.ad [],.ad [114]],.au true]) an)/\(k=7->Q (.aC [.ai [.ad [97,114,103,95,118,97,108],.ad [114],.ad [114],.ad []],.au true]) an)/\(k=8->Q (.aC [.ai [.ad [97,114,103,95,105,110,116],.ad [110],.ad [],.ad []],.au true]) an)/\(k=9->Q (.aC [.ai [.ad [97,114,103,95,97,116,111,109],.ad [115],.ad [],.ad []],.au true]) an)/\(k=10->Q (.aC [.ai [.ad [97,114,103,95,118,111,105,100],.ad [118],.ad [],.ad []],.au true]) an)/\(k=11->Q (.aC [.ai [.ad [112,117,116,95,118,97,114],.ad [114,97],.ad [],.ad [114,97]],.au true]) an)/\(k=12->Q (.aC [.ai [.ad [112,117,116,95,118,97,108],.ad [114,97],.ad [114],.ad [97]],.au true]) an)/\(k=13->Q (.aC [.ai [.ad [112,117,116,95,105,110,116],.ad [97,110],.ad [],.ad [97]],.au true]) an)/\(k=14->Q (.aC [.ai [.ad [112,117,116,95,97,116,111,109],.ad [97,115],.ad [],.ad [97]],.au true]) an)/\(k=15->Q (.aC [.ai [.ad [112,117,116,95,115,116,114,117,99,116],.ad [114,102],.ad [],.ad [114]],.au true]) an)/\(k=16->Q (.aC [.ai [.ad [97,108,108,111,99,97,116,101],.ad [99],.ad [],.ad []],.au true]) an)/\(k=17->Q (.aC [.ai [.ad [116,114,105,109],.ad [99],.ad [],.ad []],.au true]) an)/\(k=18->Q (.aC [.ai [.ad [102,114,101,101],.ad [],.ad [],.ad []],.au true]) an)/\(k=19->Q (.aC [.ai [.ad [99,97,108,108],.ad [112],.ad [112],.ad []],.au true]) an)/\(k=20->Q (.aC [.ai [.ad [101,120,101,99,117,116,101],.ad [112],.ad [112],.ad []],.au true]) an)/\(k=21->Q (.aC [.ai [.ad [112,114,111,99,101,101,100],.ad [],.ad [],.ad []],.au true]) an)/\(k=22->Q (.aC [.ai [.ad [108,101,118,101,108],.ad [114],.ad [],.ad [114]],.au true]) an)/\(k=23->Q (.aC [.ai [.ad [109,97,114,107],.ad [114],.ad [],.ad [114]],.au true]) an)/\(k=24->Q (.aC [.ai [.ad [99,117,116],.ad [114],.ad [114],.ad []],.au true]) an)/\(k=25->Q (.aC [.ai [.ad [102,97,105,108],.ad [],.ad [],.ad []],.au true]) an)/\True))):=by kernel_rfl
theorem aee:aS Z D1:=by
 refine jG ad5 λargs q v h hq=>?_
 unfold Tw at h;split at h<;>cases h;refine eE 43 ad5 aAl ?_
 (repeat' (refine aD (λ_=>?_) λ_=>?_))
 all_goals
  refine⟨?_,rfl⟩;congr 1
  (rw[sc];simp_all[pC,om]<;>(try intros)<;>omega)
theorem aef:aS Z D2:=by
 refine jG aee λargs q v h hq=>?_
 unfold al1 at h;split at h<;>cases h;refine eE 43 aee azZ ?_
 (repeat' (refine aD (λ_=>?_) λ_=>?_))
 all_goals
  refine⟨?_,rfl⟩;congr 1
  (rw[sc];simp_all[pC,om]<;>(try intros)<;>omega)
theorem apa:aS Z D3:=by
 refine jG aef λargs q v h hq=>?_
 unfold amp at h;split at h<;>cases h;refine eE 23 aef azY ?_;rename_i r x;cases x;all_goals
  (repeat' (refine aD (λ_=>?_) λ_=>?_))
  all_goals
   refine⟨?_,rfl⟩;congr 1
   (rw[sc];simp_all[pF,mC]<;>(try intros)<;>omega)
theorem apb:aS Z D4:=apa
theorem apc:aS Z D5:=apb
theorem apd:aS Z D6:=apc
theorem aeg:aS Z D7:=apd
theorem aeh:aS Z D8:=by
 refine jG aeg λargs q v h hq=>?_
 unfold ann at h;split at h<;>cases h;refine eE 27 aeg aAi ?_;exact⟨rfl,rfl⟩
theorem aCs{k}(h:k<1):yu k=none:=by
 cases k with
 |ofNat n=>
  cases n with
  |zero=>rfl
  |succ n=>exfalso;simp at h;omega
 |negSucc n=>rfl
theorem aCr{k}(h:k>25):yu k=none:=by obtain⟨n,rfl⟩:∃n:Nat,k=aP (n+26):=⟨(k-26).toNat,by simp;omega⟩;rfl
theorem aei:aS Z D9:=by
 refine jG aeh λargs q v h hq=>?_
 unfold acN at h;split at h<;>cases h;rename_i k;refine eE 14 aeh az0 ?_;refine aD (λh1=>?_) λh1=>?_
 .have h1:k<1:=by simpa using h1
  rw[aCs h1];exact⟨rfl,rfl⟩
 have h1:¬k<1:=by simpa using h1
 refine aD (λh2=>?_) λh2=>?_
 .have h2:k>25:=by simpa using h2
  rw[aCr h2];exact⟨rfl,rfl⟩
 have h2:¬k>25:=by simpa using h2
 refine⟨⟨rfl,trivial⟩,⟨by omega,by omega⟩,λh=>ab h,?_⟩;repeat' (first|exact trivial|refine⟨λh=>?_,?_⟩|fail)
 all_goals
  subst h;exact⟨rfl,rfl⟩
theorem ao8:aS Z D10:=aei
theorem aec:aS Z Pb:=ao8
def Uf(i:eG):Bool:=decide ((i.fx.length:Int)<=100/\1<=i.ar/\i.ar<=8)
def qS(i:eG):Bool:=
 if i.op=1\/i.op=2\/i.op=11\/i.op=12 then pF i.r&&mC i.a&&decide (i.n=0/\i.fx=[]/\i.ar=0)
 else if i.op=3\/i.op=13 then mC i.a&&decide (i.r=0/\i.fx=[]/\i.ar=0)
 else if i.op=4\/i.op=14 then mC i.a&&decide ((i.fx.length:Int)<=100/\i.r=0/\i.n=0/\i.ar=0)
 else if i.op=5 then mC i.a&&Uf i&&decide (i.r=0/\i.n=0)
 else if i.op=15 then pF i.r&&Uf i&&decide (i.a=0/\i.n=0)
 else if i.op=6\/i.op=7\/i.op=22\/i.op=23\/i.op=24 then pF i.r&&decide (i.a=0/\i.n=0/\i.fx=[]/\i.ar=0)
 else if i.op=8 then decide (i.r=0/\i.a=0/\i.fx=[]/\i.ar=0)
 else if i.op=9 then decide ((i.fx.length:Int)<=100/\i.r=0/\i.a=0/\i.n=0/\i.ar=0)
 else if i.op=10 then decide (1<=i.n/\i.n<=8/\i.r=0/\i.a=0/\i.fx=[]/\i.ar=0)
 else if i.op=16\/i.op=17 then decide (0<=i.n/\i.n<=4096/\i.r=0/\i.a=0/\i.fx=[]/\i.ar=0)
 else if i.op=19\/i.op=20 then ajI i&&decide (i.r=0/\i.a=0)
 else if i.op=18\/i.op=21\/i.op=25 then decide (i.r=0/\i.a=0/\i.n=0/\i.fx=[]/\i.ar=0)
 else false
def Rg:LV->Option (Prop×AV)
 |[.ai [.bV .i64 o,.bV .i64 r,.bV .i64 a,.bV .i64 n,.ad s,.bV .i64 ar]]=>some (True,.au (qS ⟨o,r,a,n,s,ar⟩))
 |_=>none
def Pc:Ev.bp:=fk 193 (fY Rg) Pb
abbrev tT:Prop:=aq [] 0=an/\True
def L1(r a n:Int)(s:LN)(ar:Int):Nat->Bool
 |0|_+26=>false
 |1|2|11|12=>pF r&&mC a&&decide (n=0/\s=[]/\ar=0)
 |3|13=>mC a&&decide (r=0/\s=[]/\ar=0)
 |4|14=>mC a&&decide ((s.length:Int)<=100/\r=0/\n=0/\ar=0)
 |5=>mC a&&(decide ((s.length:Int)<=100/\1<=ar/\ar<=8))&&decide (r=0/\n=0)
 |6|7|22|23|24=>pF r&&decide (a=0/\n=0/\s=[]/\ar=0)
 |8=>decide (r=0/\a=0/\s=[]/\ar=0)
 |9=>decide ((s.length:Int)<=100/\r=0/\a=0/\n=0/\ar=0)
 |10=>decide (1<=n/\n<=8/\r=0/\a=0/\s=[]/\ar=0)
 |15=>pF r&&(decide ((s.length:Int)<=100/\1<=ar/\ar<=8))&&decide (a=0/\n=0)
 |16|17=>decide (0<=n/\n<=4096/\r=0/\a=0/\s=[]/\ar=0)
 |18|21|25=>decide (r=0/\a=0/\n=0/\s=[]/\ar=0)
 |19|20=>pC ⟨s,ar,n⟩&&decide (r=0/\a=0)
theorem ah3(r a n s ar):∀k:Nat,qS ⟨.ofNat k,r,a,n,s,ar⟩=L1 r a n s ar k
 |0|1|2|3|4|5|6|7|8|9|10|11|12|13|14|15|16|17|18|19|20|21|22|23|24|25|m+26=>rfl
def apY(r a n:Int)(s:LN)(ar:Int)(B:Bool->Prop):Nat->Prop
 |0|_+26=>tT/\B false
 |1|2|11|12=>tT/\aw (r !=0) (aw (decide (r>=-4096)) (aw (decide (r<=4096)) (aw (decide (a>=1)) (aw (decide (a<=4096)) (B (true&&(r==r&&(a==a&&(n==0&&(cb s []&&(ar==0&&true))))))) (B false)) (B false)) (B false)) (B false)) (B false)
 |3|13=>tT/\aw (decide (a>=1)) (aw (decide (a<=4096)) (B (true&&(r==0&&(a==a&&(n==n&&(cb s []&&(ar==0&&true))))))) (B false)) (B false)
 |4|14=>tT/\aw (decide (a>=1)) (aw (decide (a<=4096)) (aw (decide (aP s.length<=100)) (B (true&&(r==0&&(a==a&&(n==0&&(cb s s&&(ar==0&&true))))))) (B false)) (B false)) (B false)
 |5=>tT/\aw (decide (a>=1)) (some (J ar:AV)=some (J ar:AV)/\aw (decide (a<=4096)) (aw (decide (aP s.length<=100)) (aw (decide (ar>=1)) (aw (decide (ar<=8)) (B (true&&(r==0&&(a==a&&(n==0&&(cb s s&&(ar==ar&&true))))))) (B false)) (B false)) (B false)) (B false)) (some (J ar:AV)=some (J ar:AV)/\B false)
 |6|7|22|23|24=>tT/\aw (r !=0) (aw (decide (r>=-4096)) (aw (decide (r<=4096)) (B (true&&(r==r&&(a==0&&(n==0&&(cb s []&&(ar==0&&true))))))) (B false)) (B false)) (B false)
 |8=>tT/\B (true&&(r==0&&(a==0&&(n==n&&(cb s []&&(ar==0&&true))))))
 |9=>tT/\aw (decide (aP s.length<=100)) (B (true&&(r==0&&(a==0&&(n==0&&(cb s s&&(ar==0&&true))))))) (B false)
 |10=>tT/\aw (decide (n>=1)) (aw (decide (n<=8)) (B (true&&(r==0&&(a==0&&(n==n&&(cb s []&&(ar==0&&true))))))) (B false)) (B false)
 |15=>tT/\aw (r !=0) (aw (decide (r>=-4096)) (some (J ar:AV)=some (J ar:AV)/\aw (decide (r<=4096)) (aw (decide (aP s.length<=100)) (aw (decide (ar>=1)) (aw (decide (ar<=8)) (B (true&&(r==r&&(a==0&&(n==0&&(cb s s&&(ar==ar&&true))))))) (B false)) (B false)) (B false)) (B false)) (some (J ar:AV)=some (J ar:AV)/\B false)) (some (J ar:AV)=some (J ar:AV)/\B false)
 |16|17=>tT/\aw (decide (n>=0)) (aw (decide (n<=4096)) (B (true&&(r==0&&(a==0&&(n==n&&(cb s []&&(ar==0&&true))))))) (B false)) (B false)
 |18|21|25=>tT/\B (true&&(r==0&&(a==0&&(n==0&&(cb s []&&(ar==0&&true))))))
 |19|20=>tT/\some (J n:AV)=some (J n:AV)/\some (J ar:AV)=some (J ar:AV)/\some (J n:AV)=some (J n:AV)/\tT/\aw (pC (cX.mk s ar n)) (B (true&&(r==0&&(a==0&&(n==n&&(cb s s&&(ar==ar&&true))))))) (B false)
theorem aAj{r a n s ar L Q}:∀k:Nat,
 bC Z Pb (λ_=>[1000000]) L Q 3000 193 [.ai [J (.ofNat k),J r,J a,J n,.ad s,J ar]] an=apY r a n s ar (λb=>Q (.au b) an) k
 |0|1|2|3|4|5|6|7|8|9|10|11|12|13|14|15|16|17|18|19|20|21|22|23|24|25|m+26=>by kernel_rfl
theorem aAk{m r a n s ar L Q}:
 bC Z Pb (λ_=>[1000000]) L Q 3000 193 [.ai [J (.negSucc m),J r,J a,J n,.ad s,J ar]] an=((tT)/\Q (.au false) an):=by kernel_rfl
theorem aed:aS Z Pc:=by
 refine jG aec λargs q v h hq=>?_
 unfold Rg at h;split at h<;>cases h;rename_i o r a n s ar;refine eT aec 3000 (λ_=>[1000000]) 163 ?_;cases o with
 |negSucc m=>rw[aAk,show qS ⟨.negSucc m,r,a,n,s,ar⟩=false from rfl];exact⟨⟨rfl,trivial⟩,rfl,rfl⟩
 |ofNat k=>
  rw[aAj,ah3];match k with
  |0=>?_|1=>?_|2=>?_|3=>?_|4=>?_|5=>?_|6=>?_|7=>?_|8=>?_|9=>?_|10=>?_|11=>?_|12=>?_|13=>?_|14=>?_|15=>?_|16=>?_|17=>?_|18=>?_|19=>?_|20=>?_|21=>?_|22=>?_|23=>?_|24=>?_|25=>?_|m+26=>?_
  all_goals
   repeat' (first|(refine aD (λ_=>?_) λ_=>?_)|(refine⟨⟨rfl,trivial⟩,?_⟩)|(refine⟨(rfl:some _=some _),?_⟩)|fail)
  all_goals
   refine⟨?_,rfl⟩;first
   |rfl
   |(congr 1;(rw[sc];simp_all[L1,pF,mC,om]<;>(try intros)<;>omega))
   |(congr 1;simp_all[L1];done)
   |fail
def D13:Ev.bp:=fk 173 (fY Rg) Pc
def apX(r a n:Int)(s:LN)(ar:Int)(B:Bool->Prop):Nat->Prop
 |0|_+26=>aw (decide (aP s.length<=100)) (aw (decide (ar>=1)) (B false) (B false)) (B false)
 |1|2|11|12=>aw (decide (aP s.length<=100)) (aw (decide (ar>=1)) (tT/\aw (pF r) (tT/\aw (mC a) (B (true&&(r==r&&(a==a&&(n==0&&(cb s []&&(ar==0&&true))))))) (B false)) (B false)) (tT/\aw (pF r) (tT/\aw (mC a) (B (true&&(r==r&&(a==a&&(n==0&&(cb s []&&(ar==0&&true))))))) (B false)) (B false))) (tT/\aw (pF r) (tT/\aw (mC a) (B (true&&(r==r&&(a==a&&(n==0&&(cb s []&&(ar==0&&true))))))) (B false)) (B false))
 |3|13=>aw (decide (aP s.length<=100)) (aw (decide (ar>=1)) (tT/\aw (mC a) (B (true&&(r==0&&(a==a&&(n==n&&(cb s []&&(ar==0&&true))))))) (B false)) (tT/\aw (mC a) (B (true&&(r==0&&(a==a&&(n==n&&(cb s []&&(ar==0&&true))))))) (B false))) (tT/\aw (mC a) (B (true&&(r==0&&(a==a&&(n==n&&(cb s []&&(ar==0&&true))))))) (B false))
 |4|14=>aw (decide (aP s.length<=100)) (aw (decide (ar>=1)) (tT/\aw (mC a) (aw (decide (aP s.length<=100)) (B (true&&(r==0&&(a==a&&(n==0&&(cb s s&&(ar==0&&true))))))) (B false)) (B false)) (tT/\aw (mC a) (aw (decide (aP s.length<=100)) (B (true&&(r==0&&(a==a&&(n==0&&(cb s s&&(ar==0&&true))))))) (B false)) (B false))) (tT/\aw (mC a) (aw (decide (aP s.length<=100)) (B (true&&(r==0&&(a==a&&(n==0&&(cb s s&&(ar==0&&true))))))) (B false)) (B false))
 |5=>aw (decide (aP s.length<=100)) (aw (decide (ar>=1)) (tT/\aw (mC a) (aw (decide (ar<=8)) (B (true&&(r==0&&(a==a&&(n==0&&(cb s s&&(ar==ar&&true))))))) (B false)) (B false)) (tT/\aw (mC a) (B false) (B false))) (tT/\aw (mC a) (B false) (B false))
 |6|7|22|23|24=>aw (decide (aP s.length<=100)) (aw (decide (ar>=1)) (tT/\aw (pF r) (B (true&&(r==r&&(a==0&&(n==0&&(cb s []&&(ar==0&&true))))))) (B false)) (tT/\aw (pF r) (B (true&&(r==r&&(a==0&&(n==0&&(cb s []&&(ar==0&&true))))))) (B false))) (tT/\aw (pF r) (B (true&&(r==r&&(a==0&&(n==0&&(cb s []&&(ar==0&&true))))))) (B false))
 |8=>aw (decide (aP s.length<=100)) (aw (decide (ar>=1)) (B (true&&(r==0&&(a==0&&(n==n&&(cb s []&&(ar==0&&true))))))) (B (true&&(r==0&&(a==0&&(n==n&&(cb s []&&(ar==0&&true)))))))) (B (true&&(r==0&&(a==0&&(n==n&&(cb s []&&(ar==0&&true)))))))
 |9=>aw (decide (aP s.length<=100)) (aw (decide (ar>=1)) (aw (decide (aP s.length<=100)) (B (true&&(r==0&&(a==0&&(n==0&&(cb s s&&(ar==0&&true))))))) (B false)) (aw (decide (aP s.length<=100)) (B (true&&(r==0&&(a==0&&(n==0&&(cb s s&&(ar==0&&true))))))) (B false))) (aw (decide (aP s.length<=100)) (B (true&&(r==0&&(a==0&&(n==0&&(cb s s&&(ar==0&&true))))))) (B false))
 |10=>aw (decide (aP s.length<=100)) (aw (decide (ar>=1)) (aw (decide (n>=1)) (aw (decide (n<=8)) (B (true&&(r==0&&(a==0&&(n==n&&(cb s []&&(ar==0&&true))))))) (B false)) (B false)) (aw (decide (n>=1)) (aw (decide (n<=8)) (B (true&&(r==0&&(a==0&&(n==n&&(cb s []&&(ar==0&&true))))))) (B false)) (B false))) (aw (decide (n>=1)) (aw (decide (n<=8)) (B (true&&(r==0&&(a==0&&(n==n&&(cb s []&&(ar==0&&true))))))) (B false)) (B false))
 |15=>aw (decide (aP s.length<=100)) (aw (decide (ar>=1)) (tT/\aw (pF r) (aw (decide (ar<=8)) (B (true&&(r==r&&(a==0&&(n==0&&(cb s s&&(ar==ar&&true))))))) (B false)) (B false)) (tT/\aw (pF r) (B false) (B false))) (tT/\aw (pF r) (B false) (B false))
 |16|17=>aw (decide (aP s.length<=100)) (aw (decide (ar>=1)) (aw (decide (n>=0)) (aw (decide (n<=4096)) (B (true&&(r==0&&(a==0&&(n==n&&(cb s []&&(ar==0&&true))))))) (B false)) (B false)) (aw (decide (n>=0)) (aw (decide (n<=4096)) (B (true&&(r==0&&(a==0&&(n==n&&(cb s []&&(ar==0&&true))))))) (B false)) (B false))) (aw (decide (n>=0)) (aw (decide (n<=4096)) (B (true&&(r==0&&(a==0&&(n==n&&(cb s []&&(ar==0&&true))))))) (B false)) (B false))
 |18|21|25=>aw (decide (aP s.length<=100)) (aw (decide (ar>=1)) (B (true&&(r==0&&(a==0&&(n==0&&(cb s []&&(ar==0&&true))))))) (B (true&&(r==0&&(a==0&&(n==0&&(cb s []&&(ar==0&&true)))))))) (B (true&&(r==0&&(a==0&&(n==0&&(cb s []&&(ar==0&&true)))))))
 |19|20=>aw (decide (aP s.length<=100)) (aw (decide (ar>=1)) (tT/\aw (pC (cX.mk s ar n)) (aw (r==0) (B (a==0)) (B false)) (B false)) (tT/\aw (pC (cX.mk s ar n)) (aw (r==0) (B (a==0)) (B false)) (B false))) (tT/\aw (pC (cX.mk s ar n)) (aw (r==0) (B (a==0)) (B false)) (B false))
theorem azF{r a n s ar L Q}:∀k,
 bC Z Pc (λ_=>[1000000]) L Q 3000 173 [.ai [J (.ofNat k),J r,J a,J n,.ad s,J ar]] an=apX r a n s ar (λb=>Q (.au b) an) k
 |0|1|2|3|4|5|6|7|8|9|10|11|12|13|14|15|16|17|18|19|20|21|22|23|24|25|m+26=>by kernel_rfl
theorem azG{m r a n s ar L Q}:
 bC Z Pc (λ_=>[1000000]) L Q 3000 173 [.ai [J (.negSucc m),J r,J a,J n,.ad s,J ar]] an=(aw (decide (aP s.length<=100)) (aw (decide (ar>=1)) (Q (.au false) an) (Q (.au false) an)) (Q (.au false) an)):=by kernel_rfl
theorem ao9:aS Z D13:=by
 refine jG aed λargs q v h hq=>?_
 unfold Rg at h;split at h<;>cases h;rename_i o r a n s ar;refine eT aed 3000 (λ_=>[1000000]) 231 ?_;cases o with
 |negSucc m=>
  rw[azG,show qS ⟨.negSucc m,r,a,n,s,ar⟩=false from rfl];repeat' (first|(refine aD (λ_=>?_) λ_=>?_)|(refine⟨⟨rfl,trivial⟩,?_⟩)|(refine⟨(rfl:some _=some _),?_⟩)|fail)
  all_goals exact⟨rfl,rfl⟩
 |ofNat k=>
  rw[azF,ah3];match k with
  |0=>?_|1=>?_|2=>?_|3=>?_|4=>?_|5=>?_|6=>?_|7=>?_|8=>?_|9=>?_|10=>?_|11=>?_|12=>?_|13=>?_|14=>?_|15=>?_|16=>?_|17=>?_|18=>?_|19=>?_|20=>?_|21=>?_|22=>?_|23=>?_|24=>?_|25=>?_|m+26=>?_
  all_goals
   repeat' (first|(refine aD (λ_=>?_) λ_=>?_)|(refine⟨⟨rfl,trivial⟩,?_⟩)|(refine⟨(rfl:some _=some _),?_⟩)|fail)
  all_goals
   refine⟨?_,rfl⟩;first
   |rfl
   |(congr 1;(rw[sc];simp_all[L1,pF,mC,om]<;>(try intros)<;>omega))
   |(congr 1;simp_all[L1];done)
   |fail
def qs(k:Int):ry×Bool:=match yu k with|some r=>(r,true)|none=>(GR,false)
def shX:cq (Int×ry×Bool)where
 bh w A H:=A=[J w.1]/\H=an/\qs w.1=w.2
 v w:=.aC [.ai [.ad w.2.1.2.1,.ad w.2.1.2.2.1,.ad w.2.1.2.2.2.1,.ad w.2.1.2.2.2.2],.au w.2.2]
 aK w:=an
theorem aCq{w w':Int×ry×Bool}{A}(h1:A=[J w.1])(h2:qs w.1=w.2)(h3:A=[J w'.1])(h4:qs w'.1=w'.2):w=w':=by rw[h1]at h3;simp at h3;have⟨a,b⟩:=w;have⟨a',b'⟩:=w';simp only at h3 h2 h4;subst h3;rw[<-h2,<-h4]
theorem aCp:shX.ck:=by rintro w w' A H ⟨h1,_,h2⟩ ⟨h3,_,h4⟩;rw[aCq h1 h2 h3 h4]
def E1:Ev.bp:=bR 186 (bW shX aCp cB) D13
abbrev E2:Ev.bp:=E1
abbrev E3:Ev.bp:=E2
theorem apg:aS Z E1:=by
 refine cu ao9 ?_;rintro⟨k,w,b⟩ args H ⟨rfl,rfl,h⟩;refine aei.1 186 _ an (an=an/\True) _ an (by decide) (PU ?_) ⟨rfl,trivial⟩;have h:(match yu k with|some r=>(r,true)|none=>(GR,false))=(w,b):=h;have e:acN [J k]=some (True,.aC [.ai (H9 w),.au b]):=by
  show some (True,(match yu k with|some r=>AV.aC [.ai (H9 r),.au true]|none=>AV.aC [.ai (H9 GR),.au false]))=_;cases hs:yu k with
  |none=>rw[hs]at h;cases h;rfl
  |some r=>rw[hs]at h;cases h;rfl
 unfold fY;rw[e];rfl
theorem aph:aS Z E2:=apg
theorem alv:∀{l i r},S9 l i=some r->r∈l
 |[],_,_,h=>by cases h
 |_::_,0,_,h=>by cases h;exact dY
 |_::l,i+1,_,h=>en _ (alv h)
theorem acO{k r}(h:yu k=some r):r∈DU:=by
 cases k with
 |ofNat n=>
  cases n with
  |zero=>cases h
  |succ n=>exact alv h
 |negSucc n=>cases h
theorem KA:aS Z E3:=aph
theorem as1{P f args Lq H H2 H' v R}(h:bX P f Lq H2 v H')(hm:lL H.bx H H2 R)(hn:H2.bx=H.bx)(ha:∀φ aQ,R φ aQ->∀l,br φ args l->br aQ Lq l):bX P f args H v H':=by intro φ w bs args' cs hv hw hl;have⟨_,hm⟩:=hm;have⟨kV,k1,k2,k3⟩:=hm φ bs w (cE _) hw;have⟨aQ,w',g1,g2,g3,g4⟩:=h kV w bs args' cs (ha _ _ k3 _ hv) k1 hl;rw[hn]at g2;exact⟨aQ,w',g1,k2.1.rr g2,⟨g3.1,k2.2.qB g3.2⟩,g4⟩
theorem as0{P f args H' v l}(h:bX P f args (dJ l) v H'):bX P f args (aq [(0,.al (aX l) 3)] 1) v H':=
 as1 h (Nt (g:=0) rfl (λφ e o h=>sB (Oe _).2 h) rfl) rfl (λφ aQ hR l hl=>by subst hR;exact hl)
theorem apz{φ vs el h_ e o}(h:OR φ (.aA vs el) e o):OR φ (.al vs h_) e o:=by have⟨cs,kL,h1,h2,h3,h4,h5⟩:=h;exact⟨cs,kL,h1,h2,h3,br.kW (dE.wD φ) _ _ h4,h5⟩
theorem HT{W g u x}(h:tz (.ex W g u)=some x):∃w,x=g w:=by
 simp only[tz]at h;by_cases hw:∃w,(g w).1
 .rw[dif_pos hw]at h;cases h;exact⟨_,rfl⟩
 .rw[dif_neg hw]at h;cases h
theorem ZR{l m}(h:dJ l=dJ m):l=m:=by have:=congrArg (λH=>AH.bc H 0) h;exact zR (de this)
def ra:LI->Int->Int->Int
 |[],_,_=> -1
 |x::l,a,k=>if a=x then k else ra l a (k+1)
theorem Su:∀l a k,0<=k->(0<=ra l a k↔a∈l)
 |[],a,k,h=>by simp[ra]
 |x::l,a,k,h=>by
  unfold ra;split;next hx=>simp[hx,h]
  next hx=>rw[Su l a (k+1) (by omega)];simp[hx]
def TX(r:LI->Int->AV):LV->AH->Option Sp
 |[.aM,.bV .i64 a],H=>some (.yU (H=an,r [] a,an))
 |[.aj 0 len 1,.bV .i64 a],H=>match H.bc 0 with
  |some (.al [.bV .i64 x] _)=>some (.yU (H=aq [(0,.al [J x] 3)] 1/\len=1,r [x] a,aq [(0,.al [J x] 3)] 1))
  |some (.aA _ _)=>some (.ex LI (λl=>((H=dJ l/\len=l.length/\l.length<2000000),r l a,dJ l)) (λw w' h1 h2=>by rw[ZR (h1.1.symm.trans h2.1)]))
  |_=>none
 |_,_=>none
def E4:Ev.bp:=bR 189 (TX λl a=>J (ra l a 0)) E3
def E5:Ev.bp:=bR 179 (TX λl a=>.au (decide (a∈l))) E4
theorem am6{P S f r}(hS:aS P S)(hr:∀l a,wZ 0 (r l a)=r l a/\jx (r l a)=.gG (r l a))(h1:∀a,bX P f [.aM,J a] an (r [] a) an)(h3:∀l a,l.length<2000000->bX P f [.aj 0 l.length 1,J a] (dJ l) (r l a) (dJ l))(cK:f≠999999:=by first|assumption|decide):aS P (bR f (TX r) S):=by
 refine xp hS λargs H sp p v H' hs hd hp=>?_
 unfold TX at hs;split at hs
 .cases hs;cases hd;cases hp;exact h1 _
 .split at hs
  .cases hs;cases hd;obtain⟨rfl,rfl⟩:=hp;rename_i a _ x _ _;have h4:=Ia (g:=0) (new:=.al [J x] 3) (as0 (h3 [x] a (by simp))) rfl (λφ e o h=>apz h) rfl (cE _) (hr _ _).2;rw[(hr _ _).1]at h4;exact h4
  .cases hs;have⟨l,e⟩:=HT hd;cases e;obtain⟨rfl,rfl,h⟩:=hp;exact h3 l _ h
  .cases hs
 .cases hs
theorem az9{a L Q}:
 bC Z E3 (λ_=>[0,1,7,8]) L Q 1000 189 [.aM,J a] an=(
 L (bg [(0,.aM),(1,J a),(7,J 0),(8,J 0)]) an (ax Z 189 0)):=by kernel_rfl
abbrev Uj x0 x1 x2:=bg [(0,.aj 0 x0 1),(1,J x1),(7,J (aP x0)),(8,J x2)]
theorem az7{l a L Q}:
 bC Z E3 (λ_=>[0,1,7,8]) L Q 1000 189 [.aj 0 l.length 1,J a] (dJ l)=(
 L (Uj l.length a 0) (dJ l) (ax Z 189 0)):=by kernel_rfl
theorem aAb{a i L Q}:
 cg Z E3 (λ_=>[0,1,7,8]) L Q 1000 189 0 (bg [(0,.aM),(1,J a),(7,J 0),(8,J i)]) (ax Z 189 0) an=(
 aw (decide (i<0)) False (Q (J (-1)) an)):=by kernel_rfl
theorem aAa{l a i L Q}:
 cg Z E3 (λ_=>[0,1,7,8]) L Q 1000 189 1 (Uj l.length a i) (ax Z 189 0) (dJ l)=(
 aw (decide (i<aP l.length)) (∃aJ:Nat,i=(aJ:Int)/\aJ<l.length/\(∃n:Int,cz Z 3 (aX l) (aJ*1)=some (J n:AV)/\aw (a==n) (Q (J i) (dJ l)) (L (Uj l.length a (wI (i+1))) (dJ l) (ax Z 189 0)))) (Q (J (-1)) (dJ l))):=by kernel_rfl
theorem azQ{a L Q}:
 bC Z E4 (λ_=>[]) L Q 1000 179 [.aM,J a] an=(
 aq [] 0=an/\Q (.au false) an):=by kernel_rfl
theorem azP{l a L Q}:
 bC Z E4 (λ_=>[]) L Q 1000 179 [.aj 0 l.length 1,J a] (dJ l)=(
 ∃w:LI,(dJ l=dJ w/\l.length=w.length/\w.length<2000000)/\Q (.au (decide (ra w a 0>=0))) (dJ w)):=by kernel_rfl
theorem az8{l a aI}(hl:l.length<2000000):∀i:Nat,(i<=l.length/\ra (l.drop i) a i=aI)->
 bu Z 189 19 1 (J aI) (dJ l) (Uj l.length a (i:Int)) (dJ l) (ax Z 189 0):=by
 refine dF (λi=>l.length-i) _ _ _ _ ?_;rintro i ⟨hi,hf⟩ ih;refine hE KA aAa ?_;refine aD (λay=>?_) λbq=>?_
 .have ay:i<l.length:=by simpa using ay
  rw[fV ay]at hf;have hg:l.getD i 0=l[i]:=by simp[List.getD,gS ay]
  refine⟨i,rfl,ay,l[i],by rw[oy ay,hg],aD (λh=>?_) λh=>?_⟩
  .have h:a=l[i]:=by simpa using h
   rw[ra,aL h]at hf;subst hf;exact⟨rfl,rfl⟩
  .have h:¬a=l[i]:=by simpa using h
   rw[ra,az h]at hf;have e:wI ((i:Int)+1)=((i+1:Nat):Int):=by rw[cH];simp
   rw[e];exact ih (i+1) ⟨by omega,by simpa using hf⟩ (by omega)
 .have bq:l.length<=i:=by simpa using bq
  rw[gR bq]at hf;subst hf;exact⟨rfl,rfl⟩
theorem VU:aS Z E4:=by
 refine am6 KA (λ_ _=>⟨rfl,rfl⟩) (λa=>?_) (λl a hl=>?_)
 .refine eE 19 KA az9 ?_;refine hD KA (λ_=>[0,1,7,8]) ?_;rw[show an.bx=0 from rfl,aAb];exact⟨rfl,rfl⟩
 .refine eE 19 KA az7 ?_;exact az8 hl 0 ⟨by simp,rfl⟩
theorem atH(l a):decide (ra l a 0>=0)=decide (a∈l):=by rw[decide_eq_decide];exact Su l a 0 (DH 0)
theorem An:aS Z E5:=by
 refine am6 VU (λ_ _=>⟨rfl,rfl⟩) (λa=>?_) (λl a hl=>?_)
 .refine eE 9 VU azQ ?_;exact⟨rfl,by simp,rfl⟩
 .refine eE 9 VU azP ?_;exact⟨l,⟨rfl,rfl,hl⟩,by rw[atH],rfl⟩
end
end Go.Cl
