/- Part of a proof of AreaLists. -/
import Derived.Test.YtjgjeokjclpjnaaGreatB8
set_option linter.all false
set_option linter.unusedSectionVars false
set_option maxRecDepth 100000
namespace Go.Cl
open Go.Ev Go.Proofs
noncomputable section
def gF(P:Int->Int->Prop)(l:gL):Prop:=∀x∈l,(x.op=19\/x.op=20)->P x.n x.ar
theorem gF.aY{P c i}(h:gF P c)(hi:(i.op=19\/i.op=20)->P i.n i.ar):gF P (nS c i):=by
 have mh:=λx hx=>(ia.1 hx).elim (h x) λhx=>by rw[oe.1 hx];exact hi
 unfold nS;split
 .split
  .split;next hj=>
    intro x hx ho;rcases ia.1 hx with hx|hx
    .exact h x ((List.dropLast_sublist c).subset hx) ho
    .rw[oe.1 hx]at ho;simp at ho;omega
   .exact mh
  .exact mh
 .exact mh
theorem gF.age{P}:∀(l c:gL),(∀i∈l,i.op≠19/\i.op≠20)->gF P c->gF P (l.foldl nS c)
 |[],c,_,h=>h
 |i::l,c,hi,h=>gF.age l _ (λj hj=>hi j (dZ _ hj)) (h.aY λho=>by have:=hi i (dJ ..);omega)
theorem cg.Dj{P n m m'}(h:cg n m m')(hc:gF P m.bg):gF P m'.bg:=by have⟨⟨l,e,_,hl⟩,_⟩:=h;rw[e];exact gF.age l _ hl hc
theorem gF.DS{P}{m:Em}(i)(h:gF P m.bg)(hi:(i.op=19\/i.op=20)->P i.n i.ar):gF P (m.aY i).bg:=h.aY hi
theorem agF{P}(c base cS):∀l i size m,(∀g∈l,g.eO=1->P g.aN.au g.aN.ar)->gF P m.bg->gF P (Em.aZ c base cS i size m l).bg
 |[],i,size,m,hg,hm=>((cg.de m cS).Dj hm).DS ⟨21,0,0,0,[],0⟩ λho=>by simp at ho
 |g::l,i,size,m,hg,hm=>by
  have next:=λm1 FG=>agF c base cS l (i+1) FG m1 λq hq=>hg q (dZ _ hq)
  unfold Em.aZ;split
  .exact next _ _ ((cg.lR m (22,g.lG) (by simp)).Dj hm)
  split
  .exact next _ _ ((cg.lR m (23,g.lG) (by simp)).Dj hm)
  split
  .exact next _ _ ((cg.cut m g.lG).Dj hm)
  split
  .exact hm.DS ⟨25,0,0,0,[],0⟩ λho=>by simp at ho
  split;next hk=>
   have hp:=(cg.fD g.eN 0 m).Dj hm;have hq:=hg g (dJ ..) hk;cases l with
   |nil=>exact((cg.de _ cS).Dj hp).DS ⟨20,0,0,g.aN.au,g.aN.cL,g.aN.ar⟩ λ_=>hq
   |cons g' l=>
    simp only;split
    .exact next _ _ ((hp.DS ⟨17,0,0,c.aR.getD i 0,[],0⟩ λho=>by simp at ho).DS ⟨19,0,0,g.aN.au,g.aN.cL,g.aN.ar⟩ λ_=>hq)
    .exact next _ _ (hp.DS ⟨19,0,0,g.aN.au,g.aN.cL,g.aN.ar⟩ λ_=>hq)
  .exact next _ _ hm
theorem gF.mh{P a b}(h:gF P a)(h2:gF P b):gF P (a++b):=λx hx=>(ia.1 hx).elim (h x) (h2 x)
theorem akO{P}(base last):∀l k s,gF P l->gF P s.aK->gF P (Al.run base last k s l).aK
 |[],k,s,_,h=>h
 |i::l,k,s,hl,h=>by
  have a1:=PU base last k (ec i) (ek i) s;have a2:=PV base (ec i) ((ek i).foldl (Al.lC base last k (ec i)) s);have a3:=PR base last k (ec i) ((ec i).foldl (Al.mO base) ((ek i).foldl (Al.lC base last k (ec i)) s)).v8;refine akO base last l (k+1) _ (λx hx=>hl x (dZ _ hx)) ?_;show gF P (_++[_]);rw[a3.2,show((ec i).foldl (Al.mO base) ((ek i).foldl (Al.lC base last k (ec i)) s)).v8.aK=((ec i).foldl (Al.mO base) ((ek i).foldl (Al.lC base last k (ec i)) s)).aK from rfl,a2.2,a1.2];refine h.mh λx hx=>?_
  rw[oe.1 hx];exact hl i (dJ ..)
theorem aoo{P l base}(h:gF P l):gF P (fk l base).1:=by
 unfold fk;split
 .exact akO _ _ l 0 _ h λx hx=>by cases hx
 .exact λx hx=>by cases hx
theorem VF{P code base}(h:gF P code):∀todo i fr part l,i+todo.length=code.length->fr<=i->l.length<=fr->gF P l->
 gF P (sx code base i fr part l todo).1/\(sx code base i fr part l todo).1.length<=code.length
 |[],i,fr,part,l,hi,hf,hl,ho=>⟨ho,by simp only[sx,gW]at hi⊢;omega⟩
 |x::todo,i,fr,part,l,hi,hf,hl,ho=>by
  simp at hi;unfold sx;split
  .exact VF h todo (i+1) fr part l (by omega) (by omega) hl ho
  .split
   .exact⟨λy hy=>(by cases hy),gq _⟩
   .have h1:gF P ((code.drop fr).take (i+1-fr)):=λy hy=>h y (Fu (CE hy))
    have h2:=ad3 ((code.drop fr).take (i+1-fr)) (base.getD part 0);refine VF h todo (i+1) (i+1) (part+1) _ (by omega) (cM _) ?_ (ho.mh (aoo h1));simp at h2⊢;omega
theorem aeD{P f i}(he:(gp f i).2=0)(hg:∀g∈f.aZ,g.eO=1->P g.aN.au g.aN.ar):
 (gp f i).1.id=i/\(gp f i).1.aN=f.aN/\(gp f i).1.iC=rf nD f.bC/\gF P (gp f i).1.gi/\(gp f i).1.gi.length<=131072:=by
 unfold gp at he⊢;split at he
 .cases he
 next h1=>
  rw[az h1];split at he;next h2=>exact absurd he h2
  next h2=>
   rw[az h2];refine⟨rfl,rfl,rfl,?_⟩;replace h2:=CG.1 h2;unfold mn at h2⊢;split at h2
   .cases h2
   next h3=>
    rw[az h3];have h0:gF P (mZ (bw f)).bg:=λx hx=>absurd (show x∈([]:gL)from hx) (by simp)
    have h4:gF P (rT (bw f)).bg:=by
     unfold rT;cases qm (bw f) (eu (bw f))with
     |true=>exact gF.DS ⟨16,0,0,((jc (bw f)).length:Int),[],0⟩ h0 λho=>by simp at ho
     |false=>exact h0
    have hf:((rT (bw f)).i_ 0 (rT (bw f)).f.bC).f=bw f:=by rw[(cg.i_ (rT (bw f)).f.bC 0 (rT (bw f))).f];unfold rT;cases qm (bw f) (eu (bw f))<;>rfl
    have h5:gF P (lx (bw f)).bg:=by refine agF _ _ _ _ _ _ _ (λg qv=>?_) ((cg.i_ _ 0 _).Dj h4);rw[hf]at qv;exact hg g (Wn _ _ qv)
    have h6:=VF (base:=fW (bw f)) h5 (lx (bw f)).bg 0 0 0 [] (ki _) (cM _) (cM _) λx hx=>by cases hx
    exact⟨h6.1,kF h6.2 (by omega)⟩
def lr(l:List fu):List (fu×ib):=l.flatMap λp=>p.bO.map λs=>(p,s)
theorem Wx{σ}(iA):∀(l) (st:σ),tN iA st l=(lr l).foldl (λst x=>iA st x.1 x.2) st
 |[],st=>rfl
 |p::l,st=>by
  show tN iA (p.bO.foldl (λst s=>iA st p s) st) l=_;have e:lr (p::l)=(p.bO.map λs=>(p,s))++lr l:=by simp[lr]
  rw[Wx iA l,e,I8,List.foldl_map]
theorem Kj:∀l,(lr l).length=j6 l
 |[]=>rfl
 |p::l=>by have:=Kj l;simp only[lr,j6,qeh,cI,og,gR,List.sum_cons]at this⊢;omega
theorem Vu{l x}:x∈lr l↔x.1∈l/\x.2∈x.1.bO:=by
 simp only[lr,List.mem_flatMap,nJ];constructor
 .rintro⟨p,h1,s,h2,rfl⟩;exact⟨h1,h2⟩
 .rintro⟨h1,h2⟩;exact⟨_,h1,_,h2,rfl⟩
theorem nO.qR{p}:∀{new na all},nO na all new->(new.flatten.map bG.aN).count p<=2/\∀f∈new.flatten,na<=f.aN.au/\f.aN.au<na+new.length/\f.aN.cL=[]/\ko all f.aZ
 |[],na,all,h=>⟨by simp,λf hf=>by cases hf⟩
 |l::new,na,all,h=>by
  have⟨h1,h2⟩:=nO.qR (p:=p) h.2;have⟨⟨_,h3,ar,h4⟩,_⟩:=h;simp only[Fs,qF,List.count_append,ej];refine⟨?_,λf hf=>?_⟩
  .by_cases hp:p.au=na
   .have h5:(new.flatten.map bG.aN).count p=0:=List.count_eq_zero.2 λhm=>by obtain⟨f,h6,rfl⟩:=nJ.1 hm;have:=h2 f h6;omega
    have h6:=List.count_le_length (a:=p) (l:=l.map bG.aN);rw[og]at h6;omega
   .have h5:(l.map bG.aN).count p=0:=List.count_eq_zero.2 λhm=>by obtain⟨f,h6,rfl⟩:=nJ.1 hm;rw[(h4 f h6).2.1]at hp;exact hp rfl
    omega
  .rcases ia.1 hf with hf|hf
   .have:=h4 f hf;rw[this.2.1];exact⟨Aw _,by simp only;omega,rfl,this.2.2⟩
   .have:=h2 f hf;exact⟨by omega,by omega,this.2.2⟩
theorem ajY:∀l x,(∀f∈l,0<=f.aN.au/\f.aN.au<2000000000000)->x<=Cq x l/\∀f∈l,f.aN.au<Cq x l
 |[],x,_=>⟨Aw _,λf hf=>by cases hf⟩
 |f::l,x,h=>by
  have h0:=h f (dJ ..);have hw:wI (f.aN.au+1)=f.aN.au+1:=cO (by omega) (by omega);have h1:=ajY l (if wI (f.aN.au+1)>x then wI (f.aN.au+1)else x) λg hg=>h g (dZ _ hg)
  rw[hw]at h1;simp only[Cq,rz,hw]at h1⊢;refine⟨?_,λg hg=>?_⟩
  .have:=h1.1;split at this<;>omega
  .rcases dm.1 hg with rfl|hg
   .have:=h1.1;split at this<;>omega
   .exact h1.2 g hg
structure ack(P:Int->Int->Prop)(l:List bG)(bs:List fG):Prop where
 IY:bs.map fG.aN=l.map bG.aN
 code:∀b∈bs,b.gi.length<=131072/\gF P b.gi
theorem aeH{P}:∀l z,(ie z l).2.2=0->(∀f∈l,∀g∈f.aZ,g.eO=1->P g.aN.au g.aN.ar)->0<=z.id->z.id+(l.length:Int)<2000000000000->
 (ie z l).1={z with id:=z.id+l.length}/\ack P l (ie z l).2.1/\∀b∈(ie z l).2.1,z.id<=b.id
 |[],z,_,_,_,_=>⟨by simp[ie],⟨rfl,λb hb=>by cases hb⟩,λb hb=>by cases hb⟩
 |f::l,z,h,hg,h0,h1=>by
  simp only[ie,ej]at h h1⊢;have hw:z.tk={z with id:=z.id+1}:=by unfold Ar.tk;rw[cO (by omega) (by omega)]
  have hi:FQ z=z.id:=by unfold FQ;rw[cO (x:=z.id+1) (by omega) (by omega),cO (by omega) (by omega)];omega
  split at h;next hc=>exact absurd h hc
  next hc=>
   rw[az hc];have hc:=CG.1 hc;have⟨a1,a2,a3⟩:=aeH l z.tk h (λq hq=>hg q (dZ _ hq)) (by rw[hw];simp only;omega) (by rw[hw];simp only;omega);have⟨c1,c2,c3,c4,c5⟩:=aeD hc (hg f (dJ ..));rw[hi]at c1 c2 c3 c4 c5;rw[hi];refine⟨?_,⟨?_,λb hb=>?_⟩,λb hb=>?_⟩
   .rw[a1,hw];simp;omega
   .simp only[gR,c2,a2.IY]
   .rcases dm.1 hb with rfl|hb
    .exact⟨c5,c4⟩
    .exact a2.code b hb
   .rcases dm.1 hb with rfl|hb
    .rw[c1];exact Aw _
    .have:=a3 b hb;rw[hw]at this;simp only at this;omega
theorem apj{P f l z i}(h:(mo z i (f::l)).2.2=0)(hg:∀f'∈f::l,∀g∈f'.aZ,g.eO=1->P g.aN.au g.aN.ar)(h0:0<=z.id)(h1:z.id+(l.length:Int)<2000000000000):
 (mo z i (f::l)).1={z with id:=z.id+l.length,au:=Cq z.au (f::l)}/\ack P (f::l) (mo z i (f::l)).2.1/\
 (∃b∈(mo z i (f::l)).2.1,b.id=i)/\∀b∈(mo z i (f::l)).2.1,z.id<=b.id\/(b.id=i/\b.aN=f.aN/\b.iC=rf nD f.bC):=by
 simp only[mo]at h⊢;split at h;next hc=>exact absurd h hc
 next hc=>
  split at h;next qs=>exact absurd h qs
  next qs=>
   rw[az hc,az qs];have hc:=CG.1 hc;have⟨a1,a2,a3⟩:=aeH l z (CG.1 qs) (λq hq=>hg q (dZ _ hq)) h0 h1;have⟨c1,c2,c3,c4,c5⟩:=aeD hc (hg f (dJ ..));refine⟨by rw[a1];rfl,⟨by simp only[gR,c2,a2.IY],λb hb=>?_⟩,⟨_,dJ ..,c1⟩,λb hb=>?_⟩
   .rcases dm.1 hb with rfl|hb
    .exact⟨c5,c4⟩
    .exact a2.code b hb
   .rcases dm.1 hb with rfl|hb
    .exact .inr ⟨c1,c2,c3⟩
    .exact .inl (a3 b hb)
def AS(ps:List cV)(n ar:Int):Prop:=n=0\/n=1099511627776\/n=1099511627775\/(⟨[],ar,n⟩:cV)∈ps
theorem AS.mono{a b}(h:∀p∈a,p∈b){n ar}(hc:AS a n ar):AS b n ar:=by
 rcases hc with h1|h1|h1|h1
 .exact .inl h1
 .exact .inr (.inl h1)
 .exact .inr (.inr (.inl h1))
 .exact .inr (.inr (.inr (h _ h1)))
theorem gF.mono{P Q}(h:∀n ar,P n ar->Q n ar){l}(hc:gF P l):gF Q l:=λx hx ho=>h _ _ (hc x hx ho)
theorem aqY{c a tr}(hc:rm c)(hv:jt c=true)(h1:1<=a)(h2:a<=1099511623776):
 ∃f l,sG c a tr=f::l/\f.aN=Fo c/\f.bC=c.1.bh.map dj/\l.length<=4000/\(∀f'∈l,a<=f'.aN.au/\f'.aN.au<a+2000)/\
  (∀p,(l.map bG.aN).count p<=2)/\∀f'∈f::l,∀g∈f'.aZ,g.eO=1->AS (l.map bG.aN) g.aN.au g.aN.ar:=by
 have⟨new,hn⟩:=W3 tr hc.1 hc.2 hv h1 h2;have zU:=λp=>nO.qR (p:=p) hn.ok
 have iK:∀gs,ko new gs->∀g∈gs,g.eO=1->AS (new.flatten.map bG.aN) g.aN.au g.aN.ar:=by
  intro gs QC g hg hk;rcases(QC g hg).2 hk with h3|h3|h3|⟨l,hl,f,hf,hp⟩
  .exact .inl h3
  .exact .inr (.inl h3)
  .exact .inr (.inr (.inl h3))
  .have nz:=List.mem_flatten.2 ⟨l,hl,hf⟩;have:=((zU ⟨[],0,0⟩).2 f nz).2.2.1;refine .inr (.inr (.inr (nJ.2 ⟨f,nz,?_⟩)));rw[hp,<-this]
 refine⟨_,_,by unfold sG zP;rw[hn.au],rfl,rfl,?_,λf' hf=>?_,λp=>(zU p).1,λf' hf=>?_⟩
 .have:=aga λl hl=>(nO.Fi hn.ok l hl).elim λn hn=>hn.2.1
  have:=hn.len;omega
 .have:=(zU ⟨[],0,0⟩).2 f' hf;have:=hn.len;omega
 .rcases dm.1 hf with rfl|hf
  .exact iK _ hn.V6
  .exact iK _ ((zU ⟨[],0,0⟩).2 f' hf).2.2.2
structure JO(sD:List (fu×ib))(st:S3)(bl:List fG):Prop where
 cW:st.cW.flatten=bl
 n:bl.length<=4001*sD.length
 au:1<=st.z.au
 id:4294967296<=st.z.id/\st.z.id<=4294967296+bl.length
 own:∀x∈sD,∃b∈bl,b.id=x.2.id
 who:∀b∈bl,4294967296<=b.id\/∃x∈sD,b.id=x.2.id/\b.aN=Fo x.2.c/\b.iC=rf nD (x.2.c.1.bh.map dj)
 lt:∀b∈bl,b.aN.au<st.z.au
 qR:∀p:cV,p.au≠0->(bl.map fG.aN).count p<=2
 code:∀b∈bl,b.gi.length<=131072/\gF (AS (bl.map fG.aN)) b.gi
theorem al1{tr st s}(h:(jF tr st s).e=0):st.e=0:=by
 unfold jF at h;split at h;next h1=>exact absurd h h1
 next h1=>exact CG.1 h1
theorem atm{tr st x sD bl}(h:JO sD st bl)(hn:sD.length<=1000)(hc:rm x.2.c)(he:(jF tr st x.2).e=0):∃bl',JO (sD++[x]) (jF tr st x.2) bl':=by
 have h0:=al1 he;unfold jF at he⊢;rw[az (λhh=>hh h0)]at he⊢;split at he;next h1=>exact absurd he h1
 next h1=>
  rw[az h1];have⟨_,_,hv,ha1,ha2,pP,_⟩:=PO hc h1;have⟨f,l,e1,e2,e3,e4,e5,e6,e7⟩:=aqY (tr:=tr) hc hv ha1 ha2;rw[pP,e1]at he⊢;have hbn:=h.n;have dE:=h.id;have⟨c1,c2,⟨b0,c3,c4⟩,c5⟩:=apj he e7 (by omega) (by omega);generalize mo st.z x.2.id (f::l)=r at c1 c2 c3 c5 he⊢;have⟨z',bs,e'⟩:=r;have Ln:bs.length=l.length+1:=by have:=congrArg List.length c2.IY;simpa using this
  have hax:∀f'∈f::l,0<=f'.aN.au/\f'.aN.au<2000000000000:=by
   intro f' hf;rcases dm.1 hf with rfl|hf
   .rw[e2];exact⟨Aw _,by simp[Fo]⟩
   .have:=e5 f' hf;omega
  have EF:=ajY (f::l) st.z.au hax;have hpr:∀b∈bs,∃f'∈f::l,b.aN=f'.aN:=by
   intro b hb;have:b.aN∈(f::l).map bG.aN:=by rw[<-c2.IY];exact vP hb
   have⟨f',h3,h4⟩:=nJ.1 this;exact⟨f',h3,h4.symm⟩
  refine⟨bl++bs,?_,?_,?_,?_,?_,?_,?_,?_,?_⟩
  .simp only[qes,h.cW,Fs,MT,jm]
  .simp;omega
  .rw[c1];simp only;omega
  .rw[c1];simp;omega
  .intro y hy;rcases ia.1 hy with hy|hy
   .have⟨b,h3,h4⟩:=h.own y hy;exact⟨b,I5 _ h3,h4⟩
   .rw[oe.1 hy];exact⟨b0,List.mem_append_right _ c3,c4⟩
  .intro b hb;rcases ia.1 hb with hb|hb
   .rcases h.who b hb with h3|⟨y,h3,h4⟩
    .exact .inl h3
    .exact .inr ⟨y,I5 _ h3,h4⟩
   .rcases c5 b hb with h3|⟨h3,h4,h5⟩
    .exact .inl (by omega)
    .exact .inr ⟨x,List.mem_append_right _ (oe.2 rfl),h3,h4.trans e2,by rw[h5,e3]⟩
  .intro b hb;rw[c1];simp only;rcases ia.1 hb with hb|hb
   .have:=h.lt b hb;omega
   .have⟨f',h3,h4⟩:=hpr b hb;rw[h4];exact EF.2 f' h3
  .intro p hp;rw[qF,List.count_append,c2.IY];by_cases ax:p.au<st.z.au
   .have:((f::l).map bG.aN).count p=0:=List.count_eq_zero.2 λhm=>by
     obtain⟨f',h3,rfl⟩:=nJ.1 hm;rcases dm.1 h3 with rfl|h3
     .rw[e2]at hp;exact hp rfl
     .have:=e5 f' h3;omega
    have:=h.qR p hp;omega
   .have h3:(bl.map fG.aN).count p=0:=List.count_eq_zero.2 λhm=>by obtain⟨b,h3,rfl⟩:=nJ.1 hm;have:=h.lt b h3;omega
    have h4:((f::l).map bG.aN).count p=(l.map bG.aN).count p:=by rw[gR,List.count_cons_of_ne];intro hf;rw[<-hf,e2]at hp;exact hp rfl
    have:=e6 p;omega
  .intro b hb;rcases ia.1 hb with hb|hb
   .have⟨h3,h4⟩:=h.code b hb;exact⟨h3,h4.mono λn ar=>AS.mono λp hp=>by rw[qF];exact I5 _ hp⟩
   .have⟨h3,h4⟩:=c2.code b hb;exact⟨h3,h4.mono λn ar=>AS.mono λp hp=>by rw[qF,c2.IY];exact List.mem_append_right _ (dZ _ hp)⟩
theorem ahZ{tr}:∀todo sD st,(st.e=0->∃bl,JO sD st bl)->(∀x∈todo,rm x.2.c)->sD.length+todo.length<=1000->(todo.foldl (λst x=>jF tr st x.2) st).e=0->∃bl,JO (sD++todo) (todo.foldl (λst x=>jF tr st x.2) st) bl
 |[],sD,st,h,_,_,he=>by rw[jm];exact h he
 |x::todo,sD,st,h,hc,hl,he=>by
  simp at hl;have:=ahZ todo (sD++[x]) (jF tr st x.2) (λh1=>?_) (λy hy=>hc y (dZ _ hy)) (by simp;omega) he
  .rw[j7]at this;exact this
  .have⟨bl,hb⟩:=h (al1 h1);exact atm hb (by omega) (hc x (dJ ..)) h1
theorem amn{X xc tr l}(hc:∀x∈lr l,rm x.2.c)(hl:(lr l).length<=500)(he:(ft (fj X xc) tr l).e=0):∃bl,JO (lr l) (ft (fj X xc) tr l) bl:=by unfold ft at he⊢;rw[Wx]at he⊢;have:=ahZ (lr l) [] ⟨fj X xc,0,[],[]⟩ (λ_=>⟨[],rfl,cM _,by simp[fj],by simp[fj],λx hx=>(by cases hx),λx hx=>(by cases hx),λx hx=>(by cases hx),λp hp=>by simp,λx hx=>(by cases hx)⟩) hc (by simp;omega) he;simpa using this
structure OG(next:Int)(p:fu)(s:ib):Prop where
 id:1<=s.id/\s.id<next
 body:jt s.c=true
 aN:Fo s.c=fC p
theorem aBS{next p bE s}(h:vZ next p bE s=true):OG next p s/\s.id∉bE:=by simp only[vZ,dk,yT,decide_eq_false_iff_not,beq_iff_eq]at h;have⟨⟨⟨⟨⟨h1,h2⟩,h3⟩,h4⟩,h5⟩,h6⟩:=h;refine⟨⟨⟨by omega,by omega⟩,h4,?_⟩,h3⟩;rw[mu]at h5;simp only[Fo,fC,dQ h5,h6]
theorem aex{next p}:∀{l bE xz},yc next p bE l=some xz->xz=bE++l.map ib.id/\(∀s∈l,OG next p s)/\(bE.Nodup->xz.Nodup)
 |[],bE,xz,h=>by simp only[yc,pg]at h;subst h;exact⟨by simp,λs hs=>(by cases hs),id⟩
 |s::l,bE,xz,h=>by
  simp only[yc]at h;split at h;next hs=>
   have⟨h1,h2⟩:=aBS hs;have⟨h3,h4,h5⟩:=aex h;refine⟨by rw[h3,j7];rfl,λx hx=>?_,λhn=>h5 ?_⟩
   .rcases dm.1 hx with rfl|hx
    .exact h1
    .exact h4 x hx
   .rw[List.nodup_append];exact⟨hn,by simp,λa ha b hb=>by rw[oe.1 hb];rintro rfl;exact h2 ha⟩
  .cases h
theorem aj4{next}:∀{l q bE},uu next q bE l=true->(∀x∈lr l,OG next x.1 x.2)/\(bE.Nodup->(bE++(lr l).map λx=>x.2.id).Nodup)
 |[],q,bE,h=>⟨λx hx=>(by cases hx),λhn=>by simpa[lr]using hn⟩
 |p::l,q,bE,h=>by
  simp only[uu]at h;split at h
  .split at h;next xz hs=>
    have⟨h1,h2,h3⟩:=aex hs;have⟨h4,h5⟩:=aj4 h;have e:lr (p::l)=(p.bO.map λs=>(p,s))++lr l:=by simp[lr]
    rw[e];refine⟨λx hx=>?_,λhn=>?_⟩
    .rcases ia.1 hx with hx|hx
     .obtain⟨s,hs,rfl⟩:=nJ.1 hx;exact h2 s hs
     .exact h4 x hx
    .have:=h5 (h3 hn);rw[h1]at this;rw[qF,List.map_map,<-j7];exact this
   .cases h
  .cases h
theorem Y8:∀(n:Nat) (l:LI),l.Nodup->(∀x∈l,0<=x/\x<(n:Int))->l.length<=n
 |0,[],_,_=>cM _
 |0,x::l,_,h=>by have:=h x (dJ ..);omega
 |n+1,l,hn,h=>by
  by_cases hm:(n:Int)∈l
  .have h1:=Y8 n (l.erase (n:Int)) (hn.erase _) λx hx=>by have h2:=(hn.mem_erase_iff).1 hx;have h3:=h x h2.2;have h4:=h2.1;omega
   rw[List.length_erase_of_mem hm]at h1;omega
  .have h1:=Y8 n l hn λx hx=>by
    have h3:=h x hx;have h4:x≠n:=by rintro rfl;exact hm hx
    omega
   omega
theorem al9:∀l n,0<=n->n+(j6 l:Int)<4611686018427387904->y8 n l=n+j6 l
 |[],n,_,_=>by simp[y8,j6]
 |p::l,n,h0,h1=>by
  have e:j6 (p::l)=p.bO.length+j6 l:=by simp[j6]
  rw[e]at h1⊢;rw[y8,cO (by omega) (by omega),al9 l _ (by omega) (by omega)];omega
structure anN(d:Db):Prop where
 gD:d.gD.length<=500
 bO:(lr d.gD).length<=500
 st:∀x∈lr d.gD,OG 4294967296 x.1 x.2
 aM:((lr d.gD).map λx=>x.2.id).Nodup
 prs:(d.gD.map fC).Nodup
theorem Tc{d}(h:oj d=true):anN d:=by
 have hn:=amv h;simp only[oj,dk,yT,decide_eq_false_iff_not]at h;have⟨⟨⟨⟨h1,h2⟩,h3⟩,h4⟩,h5⟩:=h;have⟨h6,h7⟩:=aj4 h5;have h8:=h7 CI;rw[Cy]at h8;have h9:=Y8 4294967296 _ h8 λx hx=>by obtain⟨y,hy,rfl⟩:=nJ.1 hx;have:=(h6 y hy).id;omega
 rw[og]at h9;have BA:=Kj d.gD;rw[al9 _ 0 (Aw _) (by omega)]at h4;refine⟨by omega,by omega,λx hx=>?_,h8,hn⟩;have:=h6 x hx;exact⟨⟨this.id.1,by have:=this.id.2;omega⟩,this.body,this.aN⟩
def n6(q:cV)(m:List En):Option LI:=(fZ q m).map En.aM
def mM(q:cV)(m:List En):LI:=(n6 q m).getD []
theorem afk{p q n aM}:∀m,fZ q (p7 p n aM m)=if q=p then(fZ q m).map (λe=>{e with n:=n,aM:=aM})else fZ q m
 |[]=>by simp[p7,fZ]
 |e::m=>by
  have ih:=afk (p:=p) (q:=q) (n:=n) (aM:=aM) m;simp only[p7];by_cases hp:p=e.p
  .subst hp;simp only[if_true,fZ];by_cases hq:q=e.p
   .simp only[hq,if_true,qC]
   .simp only[hq,if_false]
  .simp only[hp,if_false,fZ];by_cases hq:q=e.p
   .simp only[aO hq];rw[az λh=>hp (h.symm.trans hq)]
   .simp only[az hq];exact ih
theorem afj{p q c}(h:q≠p):∀m,fZ q (m++[⟨p,0,[],c⟩])=fZ q m
 |[]=>by simp[fZ,h]
 |e::m=>by simp only[oH,fZ,afj h m]
theorem ahR(k:Ks)(p q i):n6 q (k.tA p i).m=if q=p then some (mM p k.m++[i])else n6 q k.m:=by
 unfold n6 mM;show Option.map En.aM (fZ q (p7 p k.xc ((iT p k.m k.c).aM++[i]) (ql p k.m k.c).1))=_;rw[afk];by_cases h:q=p
 .subst h;rw[aO rfl,aO rfl,Pz,iT,n6];cases fZ q k.m<;>rfl
 .rw[az h,az h];unfold ql;cases fZ p k.m with
  |some e=>rfl
  |none=>rw[afj h]
theorem aaZ(k:Ks)(p q i):mM q (k.tA p i).m=mM q k.m++(if q=p then[i]else[]):=by
 unfold mM;rw[ahR];by_cases h:q=p
 .subst h;rw[aO rfl,aO rfl];rfl
 .rw[az h,az h,jm]
def own(q:cV)(l:List fG):LI:=(l.filter λb=>decide (b.aN=q)).map fG.id
theorem akK{q}(hq:q.au≠0):∀l k,mM q (nQ k l).m=mM q k.m++own q l
 |[],k=>by simp[nQ,own]
 |b::l,k=>by
  have ih:=akK hq l (if b.aN.au≠0 then k.tA b.aN b.id else k);show mM q (nQ (if b.aN.au≠0 then k.tA b.aN b.id else k) l).m=_;rw[ih];by_cases hb:b.aN=q
  .rw[aO (by rw[hb];exact hq),aaZ,aO hb.symm];simp[own,hb]
  .have:own q (b::l)=own q l:=by simp[own,hb]
   rw[this];split
   .rw[aaZ,az λh=>hb h.symm,jm]
   .rfl
theorem agj{q}(hq:q.au≠0):∀(l:List (Int×List fG)) (st),mM q (l.foldl pr st).m=mM q st.m++own q (l.flatMap Prod.snd)
 |[],st=>by simp[own]
 |x::l,st=>by rw[rz,agj hq l];show mM q (nQ _ x.2).m++_=_;rw[akK hq,j7];simp[own]
theorem agh:∀(l:List (Int×List fG)) (st),(l.foldl pr st).z.mP=st.z.mP++e_ (l.flatMap Prod.snd)/\(l.foldl pr st).z.na=st.z.na+(l.flatMap Prod.snd).length
 |[],st=>by simp[e_]
 |x::l,st=>by have⟨h1,h2⟩:=agh l (pr st x);rw[rz,h1,h2];simp only[pr,vr,qeh,WG,cI,j7,Fz,and_self]
theorem abR{α β:Type}:∀(a:List α) (b:List (List β)),a.length=b.length->(a.zip b).flatMap Prod.snd=b.flatten
 |[],[],_=>rfl
 |[],_::_,h=>by simp at h
 |_::_,[],h=>by simp at h
 |x::a,y::b,h=>by simp[abR a b (by simpa using h)]
structure UY(X0:Nat->Option bk)(c0:Nat)(st:S5):Prop where
 xc:c0<=st.z.xc
 X:∀i,i<c0->st.z.X i=X0 i
 nm:∀e∈st.m,e.aM≠[]->c0<=e.n
theorem amp{p n aM}:∀{m x},x∈p7 p n aM m->x∈m\/x.n=n
 |e::m,x,h=>by
  simp only[p7]at h;split at h
  .rcases dm.1 h with rfl|h
   .exact .inr rfl
   .exact .inl (dZ _ h)
  .rcases dm.1 h with rfl|h
   .exact .inl (dJ ..)
   .exact(amp h).imp (dZ _) id
theorem aqB{p m c x}(h:x∈(ql p m c).1):x∈m\/x.aM=[]:=by
 unfold ql at h;split at h
 .exact .inl h
 .rcases ia.1 h with h|h
  .exact .inl h
  .rw[oe.1 h];exact .inr rfl
theorem atu{X0 c0 st}(h:UY X0 c0 st)(p i):UY X0 c0 (iu st p i):=by
 have hx:=h.xc;have Qw:(iT p st.m st.z.nc).aM≠[]->c0<=(iT p st.m st.z.nc).n:=by
  unfold iT;cases he:fZ p st.m with
  |some e=>exact h.nm e (GS he).1
  |none=>exact λh0=>absurd rfl h0
 refine⟨Nat.le_succ_of_le hx,λj hj=>?_,λe he cE=>?_⟩
 .show ze st.z.X st.z.xc (st.k.nm p) (iT p st.m st.z.nc).aM.length _ _ j=_;have e1:Nat.beq j st.z.xc=false:=by
   cases hb:Nat.beq j st.z.xc with
   |false=>rfl
   |true=>have:=dG hb;omega
  have e2:(Nat.beq j (st.k.nm p)&& !Nat.beq (iT p st.m st.z.nc).aM.length 0)=false:=by
   by_cases h0:(iT p st.m st.z.nc).aM=[]
   .rw[h0];simp
   .cases hb:Nat.beq j (st.k.nm p)with
    |false=>rfl
    |true=>have hb:=dG hb;have:=Qw h0;unfold Ks.nm at hb;rw[az (show¬(iT p st.k.m st.k.c).aM=[]from h0)]at hb;have hb:j=(iT p st.m st.z.nc).n:=hb;omega
  simp only[ze,e1,e2,cond_false];exact h.X j hj
 .rcases amp (show e∈p7 p st.z.xc _ (ql p st.m st.z.nc).1 from he)with h1|h1
  .rcases aqB h1 with h1|h1
   .exact h.nm e h1 cE
   .exact absurd h1 cE
  .rw[h1];exact hx
theorem akL{q}(p):∀(ss:List ib) (st),mM q (ss.foldl (λst s=>iu st (fC p) s.id) st).m=mM q st.m++(if q=fC p then ss.map ib.id else[])/\((n6 q st.m).isSome->(n6 q (ss.foldl (λst s=>iu st (fC p) s.id) st).m).isSome)
 |[],st=>by simp
 |s::ss,st=>by
  have⟨h1,h2⟩:=akL (q:=q) p ss (iu st (fC p) s.id);have h3:mM q (iu st (fC p) s.id).m=_:=aaZ st.k (fC p) q s.id;have h4:n6 q (iu st (fC p) s.id).m=_:=ahR st.k (fC p) q s.id;refine⟨?_,λh=>h2 ?_⟩
  .rw[rz,h1,h3];by_cases h:q=fC p
   .simp only[aO h,gR,j7];rfl
   .simp only[az h,jm];rfl
  .rw[h4];split
   .rfl
   .exact h
theorem ago{q}:∀l st,(l.map fC).Nodup->(q∉l.map fC->mM q (oU st l).m=mM q st.m)/\(∀p∈l,q=fC p->mM q (oU st l).m=mM q st.m++p.bO.map ib.id)/\((n6 q st.m).isSome->(n6 q (oU st l).m).isSome)
 |[],st,_=>⟨λ_=>rfl,λp hp=>(by cases hp),λh=>h⟩
 |p::l,st,hn=>by
  rw[gR,uw]at hn;have⟨h1,h2,h3⟩:=ago (q:=q) l (p.bO.foldl (λst s=>iu st (fC p) s.id) st) hn.2;have⟨h4,h5⟩:=akL (q:=q) p p.bO st;have e:oU st (p::l)=oU (p.bO.foldl (λst s=>iu st (fC p) s.id) st) l:=rfl;rw[e];refine⟨λhq=>?_,λr hr hq=>?_,λh=>h3 (h5 h)⟩
  .rw[gR,dm,not_or]at hq;rw[h1 hq.2,h4,az hq.1,jm]
  .rcases dm.1 hr with rfl|hr
   .rw[h1 (by rw[hq];exact hn.1),h4,aO hq]
   .have cE:q≠fC p:=by rw[hq];intro hh;exact hn.1 (hh▸vP hr)
    rw[h2 r hr hq,h4,az cE,jm]
theorem auJ:∀{l k p},p∈l->n6 (fC p) (o_ k l)=some []:=by
 intro l k p hp;unfold n6;cases h:fZ (fC p) (o_ k l)with
 |some e=>rw[qC,(yM (GS h).1).2.2.1]
 |none=>
  exfalso;have hm:∀{l:List fu} {k:Nat},p∈l->∃e∈o_ k l,e.p=fC p:=by
   intro l;induction l with
   |nil=>intro k h;cases h
   |cons x l ih=>
    intro k h;rcases dm.1 h with rfl|h
    .exact⟨_,dJ ..,rfl⟩
    .have⟨e,h1,h2⟩:=ih (k:=k+1) h;exact⟨e,dZ _ h1,h2⟩
  have⟨e,h1,h2⟩:=hm (k:=k) hp;exact WB h e h1 h2
theorem aiA{m p aM X c xc L}(hk:Ks.OK ⟨m,c,X,xc⟩ L)(h:n6 p m=some aM):∃n,wW m p=(n,aM,true)/\(aM≠[]->X n=some (.ay (aX aM) 2)/\n<xc)/\aM.length<=L:=by
 unfold n6 at h;cases he:fZ p m with
 |none=>rw[he]at h;cases h
 |some e=>
  rw[he]at h;obtain rfl:e.aM=aM:=by simpa using h
  have⟨h1,h2⟩:=GS he;unfold wW;rw[he];refine⟨_,rfl,λcE=>?_,hk.len e h1⟩;rw[az cE];exact⟨(hk.vW e h1 cE).2,(hk.vW e h1 cE).1⟩
theorem ajs:∀{l},pV l=true->∀t∈l,iV t=true/\bN t<=bM l
 |u::l,h,t,ht=>by
  simp only[pV,dk]at h;simp only[bM];rcases dm.1 ht with rfl|ht
  .exact⟨h.1,by omega⟩
  .have:=ajs h.2 t ht;exact⟨this.1,by omega⟩
theorem aoi{c}(h:eJ c=true):∀t∈c.bh,eJ t=true:=by have⟨k,n,s,l⟩:=c;have h1:=y' h;have h2:=Ns h;simp only[iV,dk,bN]at h1 h2;intro t ht;have:=ajs h2.2 t ht;simp only[eJ,this.1,yW];exact decide_eq_true (by omega)
theorem atw{c}(h:jt c=true):rf nD (c.1.bh.map dj)=vt c.1.bh:=by
 have h1:=aoi (Kp h).1;cases hl:c.1.bh with
 |nil=>rfl
 |cons t l=>have ht:=h1 t (by rw[hl];exact dJ ..);simp only[gR,rf,vt,ao6 ht,um];rw[az (by rw[ht];decide)]
theorem aiV{α β:Type}{f:α->β}:∀{l:List α},(l.map f).Nodup->∀{x y},x∈l->y∈l->f x=f y->x=y
 |a::l,hn,x,y,hx,hy,h=>by
  rw[gR,uw]at hn;rcases dm.1 hx with h1|h1<;>rcases dm.1 hy with h2|h2
  .rw[h1,h2]
  .exact absurd (by rw[<-h1,h];exact vP h2) hn.1
  .exact absurd (by rw[<-h2,<-h];exact vP h1) hn.1
  .exact aiV hn.2 h1 h2 h
theorem af4{i l}(h:∃b∈l,b.id=i):∃b,tV i l=some b/\b∈l/\b.id=i:=by
 unfold tV;cases hf:l.find? λb=>b.id==i with
 |none=>have⟨b,hb,hi⟩:=h;have:=List.find?_eq_none.1 hf b hb;rw[hi]at this;simp at this
 |some b=>have h1:=List.find?_some hf;exact⟨b,rfl,List.mem_of_find?_eq_some hf,by simpa using h1⟩
theorem ajT(q):∀l,(own q l).length=(l.map fG.aN).count q
 |[]=>rfl
 |b::l=>by
  have ih:=ajT q l;by_cases h:b.aN=q
  .have e:own q (b::l)=b.id::own q l:=by simp[own,h]
   rw[e,gR,h,List.count_cons_self,ej,ih]
  .have e:own q (b::l)=own q l:=by simp[own,h]
   rw[e,gR,List.count_cons_of_ne h,ih]
theorem avg{q l i}(h:i∈own q l):∃b∈l,b.id=i:=by have⟨b,hb,h2⟩:=nJ.1 h;exact⟨b,(vU.1 hb).1,h2⟩
section
variable{X:Nat->Option bk}{xc:Nat}{nx:Int}{tr:Bool}{l:List fu}
theorem aeY(hd:vG ⟨nx,l⟩):∀x∈lr l,rm x.2.c:=λx hx=>(hd.2 x.1 (Vu.1 hx).1).2.2 x.2 (Vu.1 hx).2
theorem aCw(a:LI)(b)(h:a.length=b.length):sj (a.zip b)=b.flatten.length:=by rw[<-abR a b h,sj,List.length_flatMap]
theorem aCO(hd:vG ⟨nx,l⟩):DE (fj X xc) ⟨nx,l⟩ tr:=by
 have bS:=amo (fj X xc) tr l;have zU:=aCQ (fj X xc) tr l;refine⟨hd,λhv=>?_,amv,aCR _ _ _,⟨bS,λhv=>?_⟩,λhv he b hb=>?_,λhv he=>?_,λhv he=>aCT _ _ _⟩
 .have vd:=Tc hv;have h1:=vd.gD;have h2:=vd.bO;have h3:=Kj l;simp only at h1 h2;exact⟨by simp only;omega,by simp only;omega,λp hp s hs=>(hd.2 p hp).2.2 s hs⟩
 .have h2:=(Tc hv).bO;have h3:=Kj l;simp only at h2⊢;omega
 .have:=amm (fj X xc) tr l (λp hp s hs=>(hd.2 p hp).2.2 s hs) he b hb;exact⟨this.1,by omega⟩
 .have h2:=(Tc hv).bO;have⟨bl,hb⟩:=amn (aeY hd) h2 he;have:=hb.n;simp only at h2 bS⊢;rw[aCw _ _ bS,hb.cW];omega
theorem aCU(XR:∀b∈(ft (fj X xc) tr l).cW,b≠[]):∃L,wS L (pv (fj X xc) tr l):=by
 have⟨a3,i3,ET⟩:=Nr tr l (fj X xc);have BL:wS 0 ⟨(ft (fj X xc) tr l).z,[],[]⟩:=by rw[ET];exact⟨rfl,⟨CI,λe h=>(by cases h),CI,λe h=>(by cases h),λe h=>(by cases h),λe h=>(by cases h),λe h=>(by cases h)⟩,⟨rfl,cM _⟩,⟨rfl,cM _⟩,rfl,rfl⟩
 exact⟨_,QY (λx hx=>XR x.2 (List.of_mem_zip hx).2) BL⟩
structure NX(z:Ar)(k:Nat)(f:S5):Prop where
 Y9:An k f
 L1:UY z.X z.xc f
 add:f.z.mP=z.mP/\f.z.na=z.na
 mI:f.z.mI=z.mI
theorem agd{z}:∀(todo:List (fu×ib)) (k st),NX z k st->NX z (k+todo.length) (todo.foldl (λst x=>iu st (fC x.1) x.2.id) st)
 |[],k,st,h=>h
 |x::todo,k,st,h=>by have:=agd todo (k+1) (iu st (fC x.1) x.2.id) ⟨ah0 h.Y9,atu h.L1 _ _,h.add,h.mI⟩;rw[ej,show k+(todo.length+1)=k+1+todo.length by omega];exact this
theorem aq5{z}(hn:(l.map fC).Nodup):NX z (lr l).length (oU (sH z l) l):=by
 have h0:NX z 0 (sH z l):=by refine⟨⟨rfl,?_⟩,⟨cM _,λi _=>rfl,λe he cE=>absurd (yM (show e∈o_ 0 l from he)).2.2.1 cE⟩,⟨rfl,rfl⟩,rfl⟩;have:=aja (X:=z.X) (xc:=z.xc) (k:=0) hn;rw[ki]at this;exact this
 have:=agd (lr l) 0 _ h0;rw[ki]at this;unfold oU;rw[Wx];exact this
theorem atU(hd:vG ⟨nx,l⟩)(hv:oj ⟨nx,l⟩=true)(he:(ft (fj X xc) tr l).e=0):∃bl,DC (FV (fj X xc) tr l).z bl l:=by
 have vd:=Tc hv;have ke:=vd.bO;have kP:=vd.gD;have zZ:=vd.aM;have fJ:=vd.st;have Yv:=vd.prs;simp only at ke kP zZ fJ Yv;have⟨bl,hb⟩:=amn (aeY hd) ke he;have hn:=hb.n;have bS:=amo (fj X xc) tr l;have XR:=amm (fj X xc) tr l (λp hp s hs=>(hd.2 p hp).2.2 s hs) he;have⟨L7,h7⟩:=aCU λb hb=>(XR b hb).1
 have Y3:=abR _ _ bS;rw[hb.cW]at Y3;have⟨a3,i3,ET⟩:=Nr tr l (fj X xc);have bX:∀q:cV,q.au≠0->mM q (pv (fj X xc) tr l).m=own q bl:=by intro q hq;have:=agj hq ((ft (fj X xc) tr l).aM.zip (ft (fj X xc) tr l).cW) ⟨(ft (fj X xc) tr l).z,[],[]⟩;rw[Y3]at this;exact this
 have La:(pv (fj X xc) tr l).z.mP=e_ bl/\(pv (fj X xc) tr l).z.na=bl.length:=by have:=agh ((ft (fj X xc) tr l).aM.zip (ft (fj X xc) tr l).cW) ⟨(ft (fj X xc) tr l).z,[],[]⟩;rw[Y3]at this;unfold pv;rw[this.1,this.2,ET];exact⟨rfl,ki _⟩
 have hf:=aq5 (z:=(pv (fj X xc) tr l).z) Yv;have hr5:=λq=>ago (q:=q) l (sH (pv (fj X xc) tr l).z l) Yv
 show∃bl,DC (oU (sH (pv (fj X xc) tr l).z l) l).z bl l;generalize oU (sH (pv (fj X xc) tr l).z l) l=st at hf hr5⊢;have ag6:∀p∈l,p.bO.length<=500:=by intro p hp;have h2:=Kx hp;have h3:=Kj l;omega
 refine⟨bl,⟨hf.add.1.trans La.1,hf.add.2.trans La.2,by omega⟩,⟨by omega,λp hp=>⟨by have:=ag6 p hp;omega,λs hs=>(hd.2 p hp).2.2 s hs⟩⟩,λp hp=>?_,λp hp s hs=>?_,λb il=>by have:=(hb.code b il).1;omega,λb il x hx ho h0 h1 h2=>?_⟩
 .have⟨_,g2,g3⟩:=hr5 (fC p);have g4:=auJ (k:=0) hp;have g5:=g3 (by rw[show n6 (fC p) (sH _ l).m=some []from g4];rfl);have g6:=g2 p hp rfl;rw[show mM (fC p) (sH _ l).m=[]by unfold mM;rw[show n6 (fC p) (sH _ l).m=some []from g4];rfl,Cy]at g6;have g7:n6 (fC p) st.m=some (p.bO.map ib.id):=by have⟨aM,hi⟩:=Si.1 g5;rw[hi];unfold mM at g6;rw[hi]at g6;rw[<-g6];rfl
  have⟨n,k1,k2,k3⟩:=aiA hf.Y9.2 g7;exact⟨st.m,n,hf.Y9.1,k1,λcE=>(k2 cE).1,by rw[og];have:=ag6 p hp;omega⟩
 .have hx:(p,s)∈lr l:=Vu.2 ⟨hp,hs⟩;have⟨b,k1,k2,k3⟩:=af4 (hb.own _ hx);have Ig:=fJ _ hx;refine⟨b,k1,?_⟩;rcases hb.who b k2 with h3|⟨y,h3,h4,h5,h6⟩
  .have:=Ig.id;omega
  .obtain rfl:=aiV zZ h3 hx (h4.symm.trans k3);exact⟨h5.trans Ig.aN,h6.trans (atw Ig.body)⟩
 .rcases(hb.code b il).2 x hx ho with h3|h3|h3|h3
  .exact absurd h3 h0
  .exact absurd h3 h1
  .exact absurd h3 h2
  .have hq:=bX ⟨[],x.ar,x.n⟩ h0;have Yj:=hb.qR ⟨[],x.ar,x.n⟩ h0;rw[<-ajT]at Yj;have⟨b',Es,Ic⟩:=nJ.1 h3;have LB:b'.id∈own ⟨[],x.ar,x.n⟩ bl:=vP (vU.2 ⟨Es,by simp[Ic]⟩);cases ED:own ⟨[],x.ar,x.n⟩ bl with
   |nil=>rw[ED]at LB;cases LB
   |cons i l2=>
    rw[ED]at hq Yj;have g7:n6 ⟨[],x.ar,x.n⟩ (pv (fj X xc) tr l).m=some (i::l2):=by
     unfold mM at hq;cases hi:n6 ⟨[],x.ar,x.n⟩ (pv (fj X xc) tr l).m with
     |none=>rw[hi]at hq;cases hq
     |some aM=>rw[hi]at hq;rw[<-hq];rfl
    have⟨n,k1,k2,k3⟩:=aiA h7.ok g7;have⟨b2,k4,_⟩:=af4 (avg (l:=bl) (i:=i) (by rw[ED];exact dJ ..));simp at Yj;refine⟨i,l2,⟨(pv (fj X xc) tr l).m,n,?_,k1,λcE=>?_,by simp;omega⟩,by omega,b2,k4⟩
    .show(if x.n=0 then _ else _)=_;rw[az h0,hf.mI];exact h7.mI
    .have⟨k5,k6⟩:=k2 cE;rw[hf.L1.X n k6];exact k5
theorem atS(hd:vG ⟨nx,l⟩):∃X' Js,bZ Z 3 [.ah (lA ⟨nx,l⟩),.ao tr] (b_ X xc [] 0) (.ao true) (b_ X' Js [] 0):=by
 refine atT ano (aCO hd) λh=>?_
 unfold AN at h⊢;by_cases hv:oj ⟨nx,l⟩=false
 .rw[aO hv]at h;cases h
 .rw[az hv]at h⊢;by_cases he:(ft (fj X xc) tr l).e=0
  .rw[az (λh=>h he)];exact atU hd (by simpa using hv) he
  .rw[aO he]at h;exact absurd h he
end
end
end Go.Cl
