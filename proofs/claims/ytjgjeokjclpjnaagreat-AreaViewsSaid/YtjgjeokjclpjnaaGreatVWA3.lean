/- Part of a proof of AreaViews. -/
import Derived.Test.YtjgjeokjclpjnaaGreatVWA2
import Derived.RangeFuncLeaves
import Derived.RangeFuncRecord
set_option linter.all false
set_option linter.unusedSectionVars false
namespace Go.Ev
noncomputable section
theorem QE(m i):rn m i=m.testBit i:=by
 rw[Nat.testBit];show Nat.beq ((m>>>i)&&& 1) 1=_;rw[Nat.and_comm 1];have h:(m>>>i)&&& 1=0\/(m>>>i)&&& 1=1:=by
  grind
 rcases h with h|h<;>rw[h]<;>rfl
theorem WV(a b i):rn (Nat.lor a b) i=(rn a i||rn b i):=by rw[QE,QE,QE];exact Nat.testBit_or a b i
theorem aoD(j i):rn (Nat.pow 2 j) i=decide (j=i):=by rw[QE];show(2^j).testBit i=_;rw[Nat.testBit_two_pow]
theorem aoE(i):rn 0 i=false:=by rw[QE,Nat.zero_testBit]
def lE(ms:LN)(i j:Nat):Prop:=∃m,ms[i]? =some m/\rn m j=true
theorem MX{ms i j}:(ms[i]?).any (rn · j)=true↔lE ms i j:=by unfold lE;cases h:ms[i]? <;>simp
def u_(ms:LN):LN->LN->Prop
 |_,[]=>True
 |done,i::l=>(∀j,lE ms i j->j∈done)/\i∉done/\u_ ms (i::done) l
def rY(ms:LN)(done:LN):Prop:=∀i∈done,∀j,lE ms i j->j∈done
theorem rY.Kf{ms done i}(h:rY ms done)(hi:∀j,lE ms i j->j∈done):rY ms (i::done):=by
 intro k hk j hj;rcases dU.1 hk with rfl|hk
 .grind
 .exact dZ _ (h k hk j hj)
theorem rY.nil(ms):rY ms []:=by intro i hi;cases hi
theorem u_.Yt{ms}:∀{l done i},u_ ms done l->i∈l->i∉done
 |[],_,_,_,h=>by cases h
 |x::l,done,i,⟨_,h2,h3⟩,h=>by
  rcases dU.1 h with rfl|h
  .exact h2
  .exact λhd=>h3.Yt h (dZ _ hd)
def MU(ef:LN)(s:Option Nat)(e:Edge):Option Nat:=
 match s with
 |none=>none
 |some s=>bif Region.binds .any e then(match ef[e.on]? with
   |some n=>some (Nat.lor (Nat.lor s (Nat.pow 2 e.on)) n)
   |none=>none)else some s
theorem aqT(ef):∀es:List Edge,es.foldl (MU ef) none=none
 |[]=>rfl
 |e::es=>by simp;exact aqT ef es
theorem afm(ef):∀(es:List Edge) (s m),es.foldl (MU ef) (some s)=some m->
 (∀e∈es,Region.binds .any e=true->e.on<ef.length)/\
 (∀j,rn m j=true->rn s j=true\/∃e∈es,Region.binds .any e=true/\(e.on=j\/∃n,ef[e.on]? =some n/\rn n j=true))
 |[],s,m,h=>by
  grind
 |e::es,s,m,h=>by
  simp at h;cases hb:Region.binds .any e with
  |false=>
   simp only[MU,hb,cond_false]at h;have⟨h1,h2⟩:=afm ef es s m h
   grind
  |true=>
   simp only[MU,hb,cond_true]at h;cases ha:ef[e.on]? with
   |none=>rw[ha]at h;simp only at h;rw[aqT]at h;cases h
   |some n=>
    rw[ha]at h;have⟨h1,h2⟩:=afm ef es _ m h;refine⟨λe' kU hb'=>?_,λj hj=>?_⟩
    .grind
    .rcases h2 j hj with h|⟨e',kU,h⟩
     .rw[WV,WV,aoD]at h
      grind
     .grind
theorem aqU:∀l ef ms,Jb l ef=some ms->
 (∃t,ms=ef++t/\t.length=l.length)/\
 ∀i o,l[i]? =some o->(∀e∈o.after.toList,Region.binds .any e=true->e.on<ef.length+i)/\
  ∀j,lE ms (ef.length+i) j->∃e∈o.after.toList,Region.binds .any e=true/\(e.on=j\/lE ms e.on j)
 |[],ef,ms,h=>by cases h;simp_all
 |o::l,ef,ms,h=>by
  change (match o.after.toList.foldl (MU ef) (some 0)with|none=>none|some m=>Jb l (ef++[m]))=some ms at h;cases hm:o.after.toList.foldl (MU ef) (some 0)with
  |none=>rw[hm]at h;cases h
  |some m=>
   rw[hm]at h;obtain⟨⟨t,rfl,ht⟩,h2⟩:=aqU l (ef++[m]) ms h;have⟨g1,g2⟩:=afm ef _ 0 m hm;refine⟨⟨m::t,by simp,by simp[ht]⟩,λi o' pN=>?_⟩;cases i with
   |zero=>
    cases pN;refine⟨by simpa using g1,λj hj=>?_⟩;have⟨m',zL,hb⟩:=hj;have:m'=m:=by
     grind
    subst this;rcases g2 j hb with h|⟨e,he,aB8,h⟩
    .rw[aoE]at h;cases h
    .refine⟨e,he,aB8,h.imp_right ?_⟩;rintro⟨n,hn,FQ⟩;have ae:=(qed.1 hn).1;exact⟨n,by grind,FQ⟩
   |succ i=>
    have:=h2 i o' (by simpa using pN);have he:ef.length+(i+1)=(ef++[m]).length+i:=by simp;omega
    rw[he];exact this
theorem ar4:∀{l l':LN},l.Nodup->(∀x∈l,x∈l')->l.length<=l'.length
 |[],_,_,_=>eh _
 |a::l,l',hn,hs=>by
  have⟨h1,h2⟩:=uN.1 hn;have ha:=hs a (dk ..);have:=ar4 h2 (λx hx=>by
   have cx:x≠a:=λe=>h1 (e▸hx)
   exact(List.mem_erase_of_ne cx).2 (hs x (dZ _ hx)))
  grind
section
variable{ops:Array Oper}{ms:LN}
def Uw(ops:Array Oper)(j0:Array Bool)(done:LN):Prop:=
 j0.size=ops.size/\∀i,i<ops.size->j0[i]? =some (decide (i∈done))
theorem Uw.getD{j0 done}(h:Uw ops j0 done){i}(hi:i<ops.size)(b):j0.getD i b=decide (i∈done):=by rw[Sj,h.2 i hi];rfl
theorem an3(Mu:Jb ops.toList []=some ms):∀lZ t j0 done,Uw ops j0 done->rY ms done->(∀i∈done,i<ops.size)->done.Nodup->done.length+lZ=ops.size->
 u_ ms done (Region.linearise.go .any ops lZ t j0 [])/\(∀i,i<ops.size->i∈done\/i∈Region.linearise.go .any ops lZ t j0 [])/\(∀i∈Region.linearise.go .any ops lZ t j0 [],i<ops.size)
 |0,t,j0,done,hL,hc,ae,hn,bB=>by
  refine⟨trivial,λi hi=>.inl ?_,λ_ h=>by cases h⟩;refine Decidable.byContradiction λvD=>?_
  have:=ar4 (uN.2 ⟨vD,hn⟩) (λx hx=>by
   rcases dU.1 hx with rfl|hx
   .exact Nm.2 hi
   .exact Nm.2 (ae x hx))
  simp at this;omega
 |lZ+1,t,j0,done,hL,hc,ae,hn,bB=>by
  have aeg:=(aqU ops.toList [] ms Mu).2;have apc:∀i,i∈Region.ready .any ops j0↔i<ops.size/\i∉done/\∃o,ops[i]? =some o/\∀e∈o.after.toList,Region.binds .any e=true->e.on∈done:=by
   intro i;simp only[Region.ready,xz,Nm];refine and_congr_right λhi=>?_
   rw[hL.getD hi];have ho:=DQ hi;rw[ho];simp only[uL,Y0,cT,yV,decide_eq_false_iff_not,lN,exists_eq_left'];refine and_congr_right λ_=>?_
   rw[<-Array.all_toList,oC];refine forall_congr' λe=>forall_congr' λhe=>?_
   cases hb:Region.binds .any e with
   |false=>simp
   |true=>have Dv:=(aeg i ops[i] (by rw[yU];exact ho)).1 e he hb;simp at Dv;rw[hL.getD (Nat.lt_trans Dv hi)];simp
  change u_ ms done (match(Region.ready .any ops j0)[t%(Region.ready .any ops j0).length]? with
   |some i=>Region.linearise.go .any ops lZ (t /(Region.ready .any ops j0).length) (j0.setIfInBounds i true) [i]
   |none=>[].reverse)/\(∀i,i<ops.size->i∈done\/i∈(match(Region.ready .any ops j0)[t%(Region.ready .any ops j0).length]? with
   |some i=>Region.linearise.go .any ops lZ (t /(Region.ready .any ops j0).length) (j0.setIfInBounds i true) [i]
   |none=>[].reverse))/\(∀i∈(match(Region.ready .any ops j0)[t%(Region.ready .any ops j0).length]? with
   |some i=>Region.linearise.go .any ops lZ (t /(Region.ready .any ops j0).length) (j0.setIfInBounds i true) [i]
   |none=>[].reverse),i<ops.size)
  cases hi:(Region.ready .any ops j0)[t%(Region.ready .any ops j0).length]? with
  |none=>
   have FT:Region.ready .any ops j0=[]:=by
    cases hr:Region.ready .any ops j0 with
    |nil=>rfl
    |cons x xs=>rw[hr]at hi;have ae:t%(x::xs).length<(x::xs).length:=Nat.mod_lt _ (by simp);simp at hi;simp at ae;omega
   refine⟨trivial,λi hi=>.inl ?_,λ_ h=>by cases h⟩;induction i using Nat.strongRecOn with
   |ind i ih=>
    refine Decidable.byContradiction λvD=>?_
    have ho:=DQ hi;have:=(apc i).2 ⟨hi,vD,_,ho,λe he hb=>by have Dv:=(aeg i ops[i] (by rw[yU];exact ho)).1 e he hb;simp at Dv;exact ih e.on Dv (Nat.lt_trans Dv hi)⟩;rw[FT]at this;cases this
  |some i=>
   simp;rw[linearise_go_acc,List.reverse_singleton,List.singleton_append];have⟨hi1,ID,o,ho,hi3⟩:=(apc i).1 (Nk hi);have vC:∀j,lE ms i j->j∈done:=by
    intro j hj;have:=(aeg i o (by rw[yU];exact ho)).2 j (by simpa using hj);have⟨e,he,hb,h⟩:=this;have Dv:=hi3 e he hb;rcases h with rfl|h
    .exact Dv
    .exact hc _ Dv _ h
   have hL':Uw ops (j0.setIfInBounds i true) (i::done):=by
    refine⟨by simp[hL.1],λk hk=>?_⟩;rw[qem];by_cases FN:i=k
    .subst FN;simp[hL.1,hi1]
    .rw[aw FN,hL.2 k hk];have:k≠i:=λe=>FN e.symm
     simp[this]
   have⟨h1,h2,h3⟩:=an3 Mu lZ (t /(Region.ready .any ops j0).length) (j0.setIfInBounds i true) (i::done) hL' (hc.Kf vC)
    (λx hx=>by rcases dU.1 hx with rfl|hx;exact hi1;exact ae x hx) (uN.2 ⟨ID,hn⟩) (by simp;omega)
   refine⟨⟨vC,ID,h1⟩,λk hk=>?_,λk hk=>?_⟩
   .grind
   .rcases dU.1 hk with rfl|hk
    .exact hi1
    .exact h3 k hk
theorem aJs{P:Program}(hm:P.follows .mixedOrders=true)(Mu:Jb ops.toList []=some ms)(t):
 u_ ms [] (Region.schedule (P.follows .mixedOrders) ops t)/\(∀i,i<ops.size->i∈Region.schedule (P.follows .mixedOrders) ops t)/\(∀i∈Region.schedule (P.follows .mixedOrders) ops t,i<ops.size):=by
 have he:Region.schedule (P.follows .mixedOrders) ops t=Region.linearise.go .any ops ops.size t (Array.replicate ops.size false) []:=by simp[Region.schedule,hm,Region.linearise]
 rw[he];have⟨h1,h2,h3⟩:=an3 Mu ops.size t (Array.replicate ops.size false) [] ⟨by simp,λi hi=>by simp[hi]⟩ (rY.nil ms) (λ_ h=>by cases h) DW (by simp)
 grind
theorem ak0:∀f yn left done l,KU ops ms f yn left=some l->(∀j,rn yn j=true->j∈done)->(∀i∈left,i∉done)->
 u_ ms done l/\(∀i∈left,i∈l)/\∀i∈l,i∈left
 |0,yn,left,done,l,h,hg,hl=>by have⟨h1,h2⟩:=di h;cases h2;rw[List.isEmpty_iff]at h1;subst h1;exact⟨trivial,(λ_ h=>by cases h),(λ_ h=>by cases h)⟩
 |f+1,yn,left,done,l,h,hg,hl=>by
  simp only[KU]at h;have key:∀i,i∈left->(match ms[i]? with|some m=>Nat.beq (Nat.lor m yn) yn|none=>false)=true->
   (KU ops ms f (Nat.lor yn (Nat.pow 2 i)) (left.filter λj=> !Nat.beq i j)).map (i:: ·)=some l->
   u_ ms done l/\(∀i∈left,i∈l)/\∀i∈l,i∈left:=by
   intro i hi hr h;cases hm:ms[i]? with
   |none=>rw[hm]at hr;cases hr
   |some m=>
    rw[hm]at hr;have hr:=dN hr;cases ha:KU ops ms f (Nat.lor yn (Nat.pow 2 i)) (left.filter λj=> !Nat.beq i j)with
    |none=>rw[ha]at h;cases h
    |some l'=>
     rw[ha]at h;cases h;have⟨h1,h2,h3⟩:=ak0 f _ _ (i::done) l' ha (λj hj=>by
      rw[WV,aoD]at hj;simp at hj;rcases hj with h|h
      .exact dZ _ (hg j h)
      .exact h▸dk ..) (λk hk=>by
      have⟨sw,pL⟩:=xz.1 hk;intro hd;rcases dU.1 hd with rfl|hd
      .simp at pL
      .exact hl k sw hd)
     refine⟨⟨?_,hl i hi,h1⟩,?_,?_⟩
     .rintro j ⟨m',zL,hb⟩;rw[hm]at zL;cases zL;refine hg j ?_;rw[<-hr,WV,hb];rfl
     .intro k hk;by_cases FN:k=i
      .exact FN▸dk ..
      .refine dZ _ (h2 k (xz.2 ⟨hk,?_⟩));simp;exact sI.2 λh=>FN (dN h).symm
     .grind
  split at h
  .have⟨h1,h2⟩:=di h;cases h2;rw[List.isEmpty_iff]at h1;subst h1;exact⟨trivial,(λ_ h=>by cases h),(λ_ h=>by cases h)⟩
  next i hp=>
   grind
theorem afG:∀aI post c last,zY ops ms last (aI++c::post)=true->
 (∃e∈aI,lE ms c e)\/((∀e,last=some e->lE ms c e)/\∀i∈aI,(ops[i]?).any (tG ·.op)=true)
 |[],post,c,last,h=>by simp only[rG,zY,cT]at h;refine .inr ⟨?_,λ_ h=>by cases h⟩;rintro e rfl;exact MX.1 h.1
 |i::aI,post,c,last,h=>by
  simp only[j3,zY,cT]at h;have⟨h1,h2⟩:=h;cases hl:(ops[i]?).any (tG ·.op)with
  |true=>
   rw[hl]at h2;simp at h2;rcases afG aI post c last h2 with⟨e,he,h⟩|⟨h,h'⟩
   .grind
   .grind
  |false=>
   rw[hl]at h2;simp at h2;rcases afG aI post c (some i) h2 with⟨e,he,h⟩|⟨h,h'⟩
   .grind
   .grind
theorem afH:∀aI post last,zY ops ms last (aI++post)=true->∃aDI,zY ops ms aDI post=true
 |[],post,last,h=>⟨last,h⟩
 |i::aI,post,last,h=>by simp only[j3,zY,cT]at h;exact afH aI post _ h.2
def jy(ops:Array Oper)(j:Nat):Option Tmp:=(ops[j]?).bind (·.dst)
theorem ars:∀{l:List Oper} {i j:Nat} {o o' t},zX (l.filterMap (·.dst))=true->l[i]? =some o->l[j]? =some o'->o.dst=some t->o'.dst=some t->i=j
 |[],i,j,o,o',t,_,h,_,_,_=>by simp at h
 |x::l,i,j,o,o',t,hn,hi,hj,ho,pN=>by
  have aP1:∀{k:Nat} {o:Oper},l[k]? =some o->o.dst=some t->t∈l.filterMap (·.dst):=λhk hd=>Sn.2 ⟨_,Nk hk,hd⟩
  have ov:x.dst=some t->t∈l.filterMap (·.dst)->False:=by intro hd hm;rw[List.filterMap_cons,hd]at hn;simp only[zX,cT,yV]at hn;have:=hn.1;rw[List.any_eq_false]at this;exact this t hm (by simp)
  have htl:zX (l.filterMap (·.dst))=true:=by
   rw[List.filterMap_cons]at hn;cases hd:x.dst with
   |none=>rw[hd]at hn;exact hn
   |some d=>rw[hd]at hn;simp only[zX,cT]at hn;exact hn.2
  cases i with
  |zero=>
   grind
  |succ i=>
   cases j with
   |zero=>grind
   |succ j=>exact congrArg (· +1) (ars htl (by simpa using hi) (by simpa using hj) ho pN)
structure zm(ops:Array Oper)(ms:LN):Prop where
 zg:∀i j t,jy ops i=some t->jy ops j=some t->i=j
 afS:∀i j o t,ops[i]? =some o->t∈SU o->jy ops j=some t->i=j\/lE ms i j\/lE ms j i
 guard:∀i o g b,ops[i]? =some o->o.guard=some (g,b)->lE ms i g
theorem arM:∀{l},RT ms l=true->∀o i g b,(o,i)∈l->o.guard=some (g,b)->lE ms i g
 |[],_,o,i,g,b,h,_=>by cases h
 |(o',i')::l,hk,o,i,g,b,h,hg=>by
  simp only[RT,cT]at hk;rcases dU.1 h with he|h
  .cases he;rw[hg]at hk;exact MX.1 hk.1
  .exact arM hk.2 o i g b h hg
theorem Yi{i o}(h:ops[i]? =some o):(o,i)∈ops.toList.zipIdx:=by
 grind
theorem PV{j t}(h:jy ops j=some t):∃o,ops[j]? =some o/\o.dst=some t:=by
 unfold jy at h
 grind
theorem zm.of(h:afK ops ms=true)(hg:RT ms ops.toList.zipIdx=true):zm ops ms:=by
 unfold afK at h;simp only[cT]at h;have⟨h1,h2⟩:=h;rw[oC]at h2;refine⟨?_,?_,?_⟩
 .intro i j t hi hj;have⟨o,ho,hd⟩:=PV hi;have⟨o',pN,vw⟩:=PV hj;exact ars h1 (by rw[yU];exact ho) (by rw[yU];exact pN) hd vw
 .intro i j o t ho ht hj;have⟨o',pN,vw⟩:=PV hj;have h3:=h2 _ (Yi ho);simp only[oC]at h3;have h4:=h3 _ (Yi pN);simp only[vw,Sm,yV,MX]at h4;rcases h4 with((h|h)|h)|h
  .simp_all
  .rw[List.any_eq_false]at h;exact(h t (DV _ ht) (by simp)).elim
  .exact .inr (.inl h)
  .exact .inr (.inr h)
 .intro i o g b ho QR;exact arM hg o i g b (Yi ho) QR
theorem aFt{pl}(h:Nd ops=some pl):
 Jb ops.toList []=some pl.ms/\u_ pl.ms [] pl.Hu/\(∀i,i<ops.size↔i∈pl.Hu)/\zY ops pl.ms none pl.Hu=true/\zm ops pl.ms:=by
 unfold Nd at h;split at h
 .cases h
 next ms Mu=>
  split at h
  .cases h
  next l hl=>have⟨h1,h2⟩:=di h;cases h2;simp at h1;have⟨g1,g2,g3⟩:=ak0 ops.size 0 (List.range ops.size) [] l hl (λj hj=>by rw[aoE]at hj;cases hj) (λ_ _ h=>by cases h);exact⟨Mu,g1,λi=>⟨λhi=>g2 i (Nm.2 hi),λhi=>Nm.1 (g3 i hi)⟩,h1.1.1,zm.of h1.1.2 h1.2⟩
theorem ap9{i t}:aeS ops ms i t=true↔∃j,jy ops j=some t/\¬lE ms i j:=by
 unfold aeS;rw[List.any_eq_true];constructor
 .rintro⟨⟨o,j⟩,hm,h⟩;rw[List.mem_zipIdx_iff_getElem?]at hm;simp at h;refine⟨j,?_,λhn=>?_⟩
  .have ho:ops[j]? =some o:=by simpa using hm
   unfold jy;rw[ho];cases hd:o.dst with
   |none=>rw[hd]at h;simp at h
   |some d=>simp_all
  .rw[<-MX]at hn;grind
 .rintro⟨j,hj,hn⟩;have⟨o,ho,hd⟩:=PV hj;refine⟨(o,j),Yi ho,?_⟩;simp only[hd,cT,yV];exact⟨by simp,sI.2 λh=>hn (MX.1 h)⟩
end
section
variable{P:Program}{O:Operand->Option AV}{H H':AH}
theorem alw(hm:∀id ob,H.aR id=some ob->H'.aR id=some ob){id vs}(h:H.rU id=some vs):H'.rU id=some vs:=by
 unfold AH.rU at h⊢
 grind
theorem aAA(hm:∀id ob,H.aR id=some ob->H'.aR id=some ob){m es}(h:Ff H m=some es):Ff H' m=some es:=by
 unfold Ff at h⊢
 grind
theorem aD3(hm:∀id ob,H.aR id=some ob->H'.aR id=some ob){x n}(h:I4 H x=some n):I4 H' x=some n:=by
 unfold I4 at h⊢
 grind
theorem aMY{op}(h:XE op=true)(H H'):gh P O H op=gh P O H' op:=by cases op<;>first|rfl|(simp[XE]at h)
theorem aFW(hm:∀id ob,H.aR id=some ob->H'.aR id=some ob)(hX:H'.x=H.x){op v}(h:gh P O H op=some v):gh P O H' op=some v:=by
 cases op<;>simp only[gh]at h⊢<;>try (first|exact h|cases h;done)
 case load t a=>
  unfold XQ at h⊢;split at h
  .unfold vJ at h⊢;split at h
   .cases h
   next hc=>rw[alw hm hc];exact h
  .exact h
  .unfold tJ at h⊢;rw[wa hX];exact h
  .cases h
 case slice t x lo hi mx=>
  unfold DK at h⊢;split at h
  .split at h
   .exact h
   .exact h
   .exact h
   .exact h
   .exact h
   .exact h
   .split at h;next hs hc=>simp only[hs,alw hm hc];exact h
    .cases h
   .cases h
  .cases h
 case lookup t x k ok=>
  unfold Rp at h⊢;split at h
  .obtain⟨v0,h0,rfl⟩:=vN h;have hn:∀e o,mc P H' e o=mc P H e o:=λe o=>by unfold mc;rw[hX]
   rw[hn];refine Gs.2 ⟨v0,?_,rfl⟩;revert h0;intro h;unfold Rt at h⊢;have⟨h1,h⟩:=di h;rw[h1];simp;split at h;next he=>rw[aAA hm he];exact h
   .cases h
  .cases h
 case call c=>
  have⟨callee,args,argTypes⟩:=c;cases callee<;>simp only at h⊢<;>try (cases h;done)
  unfold aeO at h⊢;split at h
  .unfold XO at h⊢;split at h
   .unfold aeP at h⊢;split at h
    .exact h
    .have⟨h1,h⟩:=di h;rw[h1];cases hl:I4 H _ with
     |none=>rw[hl]at h;cases h
     |some n=>rw[aD3 hm hl];rw[hl]at h;exact h
    .cases h
   .exact h
   .exact h
   .exact h
   .cases h
  .cases h
end
mutual
theorem acj:∀{a b:AV},om a b=true->a=b
 |.ai a,b,h=>by cases b<;>simp[om]at h;rw[h]
 |.bD j a,b,h=>by cases b<;>simp[om]at h;rw[h.1,h.2]
 |.ao a,b,h=>by
  cases b<;>simp only[om]at h<;>try (cases h;done)
  rw[pB,DP]at h;rw[h]
 |.aa a o,b,h=>by
  cases b<;>simp only[om,cT]at h<;>try (cases h;done)
  rw[dN h.1,dN h.2]
 |.kZ,b,h=>by cases b<;>first|rfl|(simp only[om]at h;cases h)
 |.bK a1 a2 a3 a4 a5 a6,b,h=>by
  cases b<;>simp only[om,cT,beq_iff_eq]at h<;>try (cases h;done)
  obtain⟨⟨⟨⟨⟨h1,h2⟩,h3⟩,h4⟩,h5⟩,h6⟩:=h;rw[dN h1,dN h2,dN h3,dN h4,dN h5,h6]
 |.aM,b,h=>by cases b<;>first|rfl|(simp only[om]at h;cases h)
 |.aS a,b,h=>by
  cases b<;>simp only[om]at h<;>try (cases h;done)
  rw[dN h]
 |.oz,b,h=>by cases b<;>first|rfl|(simp only[om]at h;cases h)
 |.cw f l c,b,h=>by
  cases b<;>simp only[om,cT,DP]at h<;>try (cases h;done)
  obtain⟨⟨h1,h2⟩,h3⟩:=h;rw[h1,PC h2,PC h3]
 |.ib a,b,h=>by
  cases b<;>simp only[om]at h<;>try (cases h;done)
  rw[dN h]
 |.rV,b,h=>by cases b<;>first|rfl|(simp only[om]at h;cases h)
 |.ep t v,b,h=>by
  cases b<;>simp only[om,cT]at h<;>try (cases h;done)
  rw[dN h.1,acj h.2]
 |.ml,b,h=>by cases b<;>first|rfl|(simp only[om]at h;cases h)
 |.aj l,b,h=>by
  cases b<;>simp only[om]at h<;>try (cases h;done)
  rw[PC h]
 |.aL l,b,h=>by
  cases b<;>simp only[om]at h<;>try (cases h;done)
  rw[PC h]
 |.yk a,b,h=>by
  cases b<;>simp only[om]at h<;>try (cases h;done)
  rw[dN h]
theorem PC:∀{l m:LV},CU l m=true->l=m
 |[],[],_=>rfl
 |[],_::_,h=>by simp[CU]at h
 |_::_,[],h=>by simp[CU]at h
 |a::l,b::m,h=>by simp only[CU,cT]at h;rw[acj h.1,PC h.2]
end
theorem aJp{a b}(h:Ze a b=true):a=b:=by
 rcases(Sm _ _).mp h with h|h
 .exact acj h
 .grind
section
variable{P:Program}{b:Frame}{a:Act}{k:List Item}{cs:List Frame}{w:World}{ops:Array Oper}
theorem BR{o}(ro O)(h:∀c,o.op≠.defer c):o.semAt ro O=execOp O o:=Oper.semAt_eq ro O o h
theorem asw{op}(h:qp op=true)(c):op≠.defer c:=by rintro rfl;cases h
theorem aqP{O op r}(h:sD P O op=some r)(c):op≠.defer c:=by rintro rfl;cases h
theorem LJ{i rest o}(ho:ops[i]? =some o)(v):
 (b.atR a (.inRegion ops (i::rest)::k)).finish v=b.atR (a.put o.dst v) (.inRegion ops rest::k):=by
 rw[Frame.finish_atR,ho];rfl
theorem Nt{i rest o}(ho:ops[i]? =some o)(hw:Region.wanted o (yielded ops a.tmps)=true){v w'}(hr:(o.semAt b.roundOf a.eval).run P w=.ok (.value v) w'\/((o.semAt b.roundOf a.eval).run P w=.ok .skip w'/\v=undef)):
 step P (lone (b.atR a (.inRegion ops (i::rest)::k)) cs w)=.next (lone (b.atR (a.put o.dst v) (.inRegion ops rest::k)) cs w'):=by
 have hg:=stepGR_op (P:=P) (b:=b) (k:=k) (cs:=cs) (w:=w) (rest:=rest) ho hw;refine step_lone_go ?_;rw[hg,<-LJ ho];rcases hr with hr|⟨hr,rfl⟩<;>simp[stepG.apply,hr]
theorem aMU{i rest o}(ho:ops[i]? =some o)(hw:Region.wanted o (yielded ops a.tmps)=true){f args w'}(hr:(o.semAt b.roundOf a.eval).run P w=.ok (.enter f args) w'):
 step P (lone (b.atR a (.inRegion ops (i::rest)::k)) cs w)=.next (lone (Frame.enter P f args .normal) (b.atR a (.inRegion ops (i::rest)::k)::cs) w'):=by
 have hg:=stepGR_op (P:=P) (b:=b) (k:=k) (cs:=cs) (w:=w) (rest:=rest) ho hw;exact step_lone_go (by rw[hg];simp[stepG.apply,hr,Frame.atR])
theorem aMW{i rest o}(ho:ops[i]? =some o)(hw:Region.wanted o (yielded ops a.tmps)=true){l f tmps assign body w'}(hr:(o.semAt b.roundOf a.eval).run P w=.ok (.round l f tmps assign body) w'):
 step P (lone (b.atR a (.inRegion ops (i::rest)::k)) cs w)=.next (lone (Frame.round l f tmps assign body .normal) (b.atR a (.inRegion ops (i::rest)::k)::cs) w'):=by
 have hg:=stepGR_op (P:=P) (b:=b) (k:=k) (cs:=cs) (w:=w) (rest:=rest) ho hw;exact step_lone_go (by rw[hg];simp[stepG.apply,hr,Frame.atR])
theorem aMV{i rest o}(ho:ops[i]? =some o)(hw:Region.wanted o (yielded ops a.tmps)=true){v w'}(hr:(o.semAt b.roundOf a.eval).run P w=.halt (.panic v) w'):
 step P (lone (b.atR a (.inRegion ops (i::rest)::k)) cs w)=.next (lone ((b.atR a (.inRegion ops (i::rest)::k)).raise [{v,recovered:=false}]) cs w'):=by
 have hg:=stepGR_op (P:=P) (b:=b) (k:=k) (cs:=cs) (w:=w) (rest:=rest) ho hw;refine step_lone_go ?_;rw[hg];simp[stepG.apply,hr]
theorem aMT{i rest o}(ho:ops[i]? =some o)(hw:Region.wanted o (yielded ops a.tmps)=true){d w'}(hr:(o.semAt b.roundOf a.eval).run P w=.ok (.defer d) w'):
 step P (lone (b.atR a (.inRegion ops (i::rest)::k)) cs w)=.next (lone (b.atR ({a with defers:=d::a.defers}.put o.dst undef) (.inRegion ops rest::k)) cs w'):=by
 have hg:=stepGR_op (P:=P) (b:=b) (k:=k) (cs:=cs) (w:=w) (rest:=rest) ho hw;refine step_lone_go ?_;have:({b.atR a (.inRegion ops (i::rest)::k)with defers:=d::a.defers}:Frame).finish undef=
  b.atR ({a with defers:=d::a.defers}.put o.dst undef) (.inRegion ops rest::k):=by
  have:=Frame.finish_atR b {a with defers:=d::a.defers} ops i rest k undef;rw[ho]at this;exact this
 rw[hg];simp only[stepG.apply,Sem.runT_eq,hr,GStep.bare_after];exact congrArg (λfr=>GStep.go {frame:=fr,callers:=cs,status:=.running,dying:=none} w') this
end
theorem TR.put{I t t' nt}{a:Act}{dst x v}(h:TR I t nt a.tmps)(hs:pZ nt t dst x=some t')(hv:VR I x v):TR I t' nt (a.put dst v).tmps:=by
 cases dst with
 |none=>cases hs;exact h
 |some d=>
  have⟨h1,h2⟩:=di hs;cases h2;have hd:=qA h1;refine⟨by show(a.tmps.setIfInBounds d v).size=nt;rw[Array.size_setIfInBounds];exact h.1,λi x' hx=>?_⟩;show∃v',(a.tmps.setIfInBounds d v)[i]? =some v'/\_;rw[qem];by_cases hi:d=i
  .subst hi;rw[Tr.lL]at hx;simp at hx;subst hx;rw[aP rfl,aP (by rw[h.1];exact hd)];exact⟨v,rfl,hv⟩
  .rw[Tr.lL]at hx;rw[aw hi];exact h.2 i x' (by grind)
theorem TR.xD{I t nt}{a:Act}(h:TR I t nt a.tmps)(l):oN I (iC t) a.eval l:=by
 intro x _ v hx;cases x with
 |tmp i=>have⟨v',h1,h2⟩:=h.2 i v hx;show VR I v (a.tmps.getD i undef);rw[Sj,h1];exact h2
 |const c=>exact acH hx
 |global g=>cases hx;rfl
 |func f=>cases hx;exact⟨#[],#[],rfl,rfl,mq,mq⟩
def CR(I:bZ):Hw->List PanicEntry->Prop
 |[],l=>l=[]
 |(v,r)::c,l=>∃v' l',l={v:=v',recovered:=r}::l'/\VR I v v'/\CR I c l'
def KB(Dc Da:LN)(j:Nat):Prop:=j∈Da/\j∉Dc
def abE(ops:Array Oper)(bt cur:Tr AV)(Dc Da:LN)(t:Tmp)(a:AV):Prop:=
 (∃j,KB Dc Da j/\jy ops j=some t/\bt.bL t=some a)\/((∀j,KB Dc Da j->jy ops j≠some t)/\cur.bL t=some a)
def OV(ops:Array Oper)(ms:LN)(bt cur:Tr AV)(j:Nat)(o:Oper)(O:Operand->Option AV):Prop:=
 ∀x∈o.op.operands.toList,O x=KW (zv ops ms bt cur j) x
def KA(P:Program)(ops:Array Oper)(ms:LN)(bt cur:Tr AV)(H:AH)(I:bZ)(m:Nat)(iW:Nat->Option Nat)(j:Nat)(o:Oper)(b:Bool)(v:AV):Prop:=
 (b=false/\v=.mK)\/
 (b=true/\qp o.op=true/\∃O,OV ops ms bt cur j o O/\gh P O H o.op=some v)\/
 (b=true/\∃O ob g id,OV ops ms bt cur j o O/\sD P O o.op=some (ob,g)/\v=g id/\iW j=some id/\m<=id/\I id=none/\H.aR id=some ob)
structure r8(P:Program)(ops:Array Oper)(ms:LN)(bt:Tr AV)(nt:Nat)(bs:fM)(m:Nat)(iW:Nat->Option Nat)(Dc Da:LN)(cur:Tr AV)(H:AH)(I:bZ)(w:World)(tmps:Array Value):Prop where
 wr:WR I bs H w
 hb:gY bs w
 hm:m<=H.br
 Ht:tmps.size=nt
 tr:∀t a,abE ops bt cur Dc Da t a->∃v,tmps[t]? =some v/\VR I a v
 un:∀t,(∀j∈Da,jy ops j≠some t)->cur.bL t=bt.bL t
 aW:∀j id,iW j=some id->id<H.br
 inj:∀j j' id,iW j=some id->iW j'=some id->j=j'
 YS:∀j,KB Dc Da j->∃o b v,ops[j]? =some o/\n_ ops o cur.bL=some b/\(∀d,o.dst=some d->d<nt/\cur.bL d=some v)/\KA P ops ms bt cur H I m iW j o b v
section
variable{P:Program}{call:uo}{ops:Array Oper}{ms:LN}{bt cur my:Tr AV}{nt:Nat}{bs:fM}{m:Nat}{iW:Nat->Option Nat}{Dc Da:LN}{H H':AH}{I aK:bZ}{w:World}{tmps:Array Value}
theorem VY{i t}(h:∃j,jy ops j=some t/\¬lE ms i j):zv ops ms bt cur i t=bt.bL t:=by unfold zv;rw[ap9.2 h];rfl
theorem VZ{i t}(h:¬∃j,jy ops j=some t/\¬lE ms i j):zv ops ms bt cur i t=cur.bL t:=by unfold zv;rw[sI.2 λhl=>h (ap9.1 hl)];rfl
theorem am8{j i s}(Mj:∀d,s=some d->jy ops i=some d)(hi:i∉Da)(hn:∀k,lE ms j k->k∈Da)(hk:∀t,s≠some t->my.bL t=cur.bL t):zv ops ms bt my j=zv ops ms bt cur j:=by
 funext t;by_cases hl:∃k,jy ops k=some t/\¬lE ms j k
 .rw[VY hl,VY hl]
 .rw[VZ hl,VZ hl]
  grind
theorem aho(jc:zm ops ms){j i o s}(ho:ops[j]? =some o)(Mj:∀d,s=some d->jy ops i=some d)(hi:i∉Da)(hn:∀k,lE ms j k->k∈Da)(hk:∀t,s≠some t->my.bL t=cur.bL t):n_ ops o my.bL=n_ ops o cur.bL:=by
 unfold n_;split
 .rfl
 next g rO hg=>
  have QR:=hn g (jc.guard j o g rO ho hg);split
  .rfl
  next d hd=>
   have:=hk d λhs=>by
    have:=jc.zg g i d hd (Mj d hs)
    grind
   rw[this]
theorem Zg{o i v}(ho:ops[i]? =some o)(h:pZ nt cur o.dst v=some my):
 (∀d,o.dst=some d->d<nt/\my.bL d=some v/\jy ops i=some d)/\(∀t,jy ops i≠some t->my.bL t=cur.bL t):=by
 have Mi:jy ops i=o.dst:=by unfold jy;rw[ho];rfl
 rw[Mi];cases hd:o.dst with
 |none=>rw[hd]at h;cases h;grind
 |some d=>
  rw[hd]at h;have⟨h1,h2⟩:=di h;cases h2;refine⟨?_,?_⟩
  .intro d' vw;cases vw;exact⟨qA h1,by rw[Tr.lL];simp,rfl⟩
  .intro t ht;rw[Tr.lL,aw]
   grind
theorem KA.MM{j i o s b v}(h:KA P ops ms bt cur H I m iW j o b v)(Mj:∀d,s=some d->jy ops i=some d)(hi:i∉Da)(hn:∀k,lE ms j k->k∈Da)(hk:∀t,s≠some t->my.bL t=cur.bL t):KA P ops ms bt my H I m iW j o b v:=by unfold KA OV at h⊢;rw[am8 Mj hi hn hk];exact h
theorem r8.adv(jc:zm ops ms)(h:r8 P ops ms bt nt bs m iW Dc Da cur H I w tmps){i o}(ho:ops[i]? =some o)(hi:i∉Da)(vC:∀j,lE ms i j->j∈Da)(fW:rY ms Da)(tD:∀j∈Dc,j∈Da)(hl:tG o.op=true\/n_ ops o cur.bL=some false)(hs:qy P call ops ms bt Da i nt cur H o=.go my H'):
 ∃yG,r8 P ops ms bt nt bs m yG Dc (i::Da) my H' I w tmps/\cz m I H I H':=by
 have aCv:=λhd=>hi (tD i hd)
 have aCR:∀t∈SU o,cur.bL t=zv ops ms bt cur i t:=by
  intro t ht;by_cases hl:∃k,jy ops k=some t/\¬lE ms i k
  .rw[VY hl];have⟨k,hk,hnk⟩:=hl;have aCy:k∉Da:=by
    intro wU;rcases jc.afS i k o t ho ht hk with rfl|hh|hh
    .exact hi wU
    .exact hnk hh
    .exact hi (fW k wU i hh)
   exact h.un t λj hj hd=>by have:=jc.zg j k t hd hk;subst this;exact aCy hj
  .rw[VZ hl]
 have Mm:∀acL,(∀t,jy ops i≠some t->acL.bL t=cur.bL t)->OV ops ms bt acL i o (iC cur):=by
  intro acL hk x hx;rw[am8 (λd h=>h) hi vC hk];cases x with
  |tmp t=>exact aCR t (Sn.2 ⟨.tmp t,hx,rfl⟩)
  |const c=>rfl
  |global g=>rfl
  |func f=>rfl
 have key:∀(v:AV) (H1:AH) (yG:Nat->Option Nat) (b:Bool),pZ nt cur o.dst v=some my->n_ ops o cur.bL=some b->WR I bs H1 w->H.br<=H1.br->
  (∀j id,yG j=some id->id<H1.br)->(∀j j' id,yG j=some id->yG j'=some id->j=j')->(∀j,j≠i->yG j=iW j)->
  (∀id ob,H.aR id=some ob->H1.aR id=some ob)->H1.x=H.x->
  KA P ops ms bt my H1 I m yG i o b v->r8 P ops ms bt nt bs m yG Dc (i::Da) my H1 I w tmps:=by
  intro v H1 yG b l6 sB hwr yB IE aCw FW ao6 hX wX;have⟨g1,g2⟩:=Zg ho l6;refine⟨hwr,h.hb,lz h.hm yB,h.Ht,?_,?_,IE,aCw,?_⟩
  .intro t a hv;refine h.tr t a ?_;rcases hv with⟨j,⟨yw,Mr⟩,hd,hb⟩|⟨ov,hc⟩
   .rcases dU.1 yw with rfl|yw
    .refine .inr ⟨λk hk wU=>?_,?_⟩
     .have:=jc.zg k j t wU hd;subst this;exact hi hk.1
     .rw[h.un t λk hk wU=>?_]
      .exact hb
      .have:=jc.zg k j t wU hd;subst this;exact hi hk
    .exact .inl ⟨j,⟨yw,Mr⟩,hd,hb⟩
   .refine .inr ⟨λk hk=>ov k ⟨dZ _ hk.1,hk.2⟩,?_⟩;rw[<-g2 t (ov i ⟨dk ..,aCv⟩)];exact hc
  .intro t ht;rw[g2 t (ht i (dk ..))];exact h.un t λj hj=>ht j (dZ _ hj)
  .intro j ⟨yw,Mr⟩;rcases dU.1 yw with rfl|yw
   .exact⟨o,b,v,ho,by rw[aho jc ho (λd h=>h) hi vC g2];exact sB,λd hd=>⟨(g1 d hd).1,(g1 d hd).2.1⟩,wX⟩
   .have hji:j≠i:=λe=>hi (e▸yw)
    have⟨o',b',v',p1,p2,p3,p4⟩:=h.YS j ⟨yw,Mr⟩;refine⟨o',b',v',p1,by rw[aho jc p1 (λd h=>h) hi (fW j yw) g2];exact p2,λd hd=>⟨(p3 d hd).1,?_⟩,?_⟩
    .rw[g2 d λvw=>?_]
     .exact(p3 d hd).2
     .have:jy ops j=some d:=by unfold jy;rw[p1];exact hd
      exact hji (jc.zg j i d this vw)
    .have p5:=p4.MM (λd h=>h) hi (fW j yw) g2;rcases p5 with p|⟨p,q,O,e,r⟩|⟨p,O,ob,g,id,e,q1,q2,q3,q4,q5,q6⟩
     .exact .inl p
     .exact .inr (.inl ⟨p,q,O,e,aFW ao6 hX r⟩)
     .exact .inr (.inr ⟨p,O,ob,g,id,e,q1,q2,by rw[FW j hji];exact q3,q4,q5,ao6 _ _ q6⟩)
 unfold qy at hs;split at hs
 .cases hs
 next b sB=>
  cases b with
  |false=>
   simp only[cond_false,uH]at hs;split at hs;next t l6=>cases hs;exact⟨iW,key .mK H iW false l6 sB h.wr (ct _) h.aW h.inj (λ_ _=>rfl) (λ_ _ h=>h) rfl (.inl aA),cz.ka _ _ _⟩
   .cases hs
  |true=>
   simp at hs;cases hr:qp o.op with
   |true=>
    rw[hr]at hs;simp only[cond_true,R0]at hs;split at hs;next v hv=>
     simp only[uH]at hs;split at hs;next t l6=>cases hs;exact⟨iW,key v H iW true l6 sB h.wr (ct _) h.aW h.inj (λ_ _=>rfl) (λ_ _ h=>h) rfl (.inr (.inl ⟨rfl,hr,iC cur,Mm _ (Zg ho l6).2,hv⟩)),cz.ka _ _ _⟩
     .cases hs
    .cases hs
   |false=>
    rw[hr]at hs;simp at hs;cases yy:uD o.op with
    |false=>
     rcases hl with hl|hl
     .simp[tG,hr,yy]at hl
     .rw[sB]at hl;cases hl
    |true=>
     rw[yy]at hs;simp at hs;cases yx:sD P (iC cur) o.op with
     |none=>rw[yx]at hs;simp[Gi]at hs
     |some r=>
      have⟨ob,g⟩:=r;have⟨hh,n,xx⟩:=H;rw[yx]at hs;simp only[Gi,uH]at hs;split at hs;next t l6=>
       cases hs;have W8:=h.wr.Bd (ct _);refine⟨λj=>if j=i then some n else iW j,?_,cz.new h.hm ob⟩;refine key (g n) _ _ true l6 sB (h.wr.new ob) (by rw[tO];exact Nat.le_succ _) ?_ ?_ (λj hj=>aw hj) ?_ (Cd _ _) ?_
       .intro j id hj;rw[tO];split at hj
        .cases hj;exact kr _
        .exact Gx (h.aW j id hj)
       .intro j j' id hj FM;split at hj<;>split at FM;next e1 e2=>rw[e1,e2]
        .cases hj;have:=h.aW _ _ FM;exact absurd this (Nat.lt_irrefl _)
        .cases FM;have:=h.aW _ _ hj;exact absurd this (Nat.lt_irrefl _)
        .exact h.inj j j' id hj FM
       .intro id bu eW;rw[nY,aw]
        .exact eW
        .intro e;have:=h.wr.nx id bu eW;rw[e]at this;exact Nat.lt_irrefl _ this
       .exact .inr (.inr ⟨rfl,iC cur,ob,g,n,Mm _ (Zg ho l6).2,yx,rfl,aP rfl,h.hm,W8,by rw[nY,aP rfl]⟩)
      .cases hs
end
section
variable{P:Program}{call:uo}{ops:Array Oper}{ms:LN}{bt cur my:Tr AV}{nt:Nat}{bs:fM}{m:Nat}{iW:Nat->Option Nat}{Dc Da:LN}{H H':AH}{I aK:bZ}{w w':World}{a:Act}
theorem ahp{o b}(h:n_ ops o cur.bL=some b)(hv:∀g rO d x,o.guard=some (g,rO)->jy ops g=some d->cur.bL d=some x->∃v,a.tmps[d]? =some v/\VR I x v):
 Region.wanted o (yielded ops a.tmps)=b:=by
 unfold n_ at h;unfold Region.wanted;split at h;next hg=>cases h;rw[hg]
 next g rO hg=>
  rw[hg];simp only;split at h
  .cases h
  next d hd=>
   have hy:yielded ops a.tmps g=(match a.tmps[d]? with|some (.bool b)=>some b|_=>none):=by unfold yielded;rw[hd];rfl
   rw[hy];split at h;next x hx=>
    cases h;have⟨v,h1,h2⟩:=hv g rO d _ hg hd hx;subst h2
    grind
   next hx=>cases h;have⟨v,h1,h2⟩:=hv g rO d _ hg hd hx;obtain⟨l,rfl,_⟩:=h2;rw[h1];rfl
   .cases h
theorem ak9{get l}(h:∀t,.tmp t∈l->∀x,get t=some x->∃v,a.tmps[t]? =some v/\VR I x v):oN I (KW get) a.eval l:=by
 intro x hx v hv;cases x with
 |tmp i=>have⟨v',h1,h2⟩:=h i hx v hv;show VR I v (a.tmps.getD i undef);rw[Sj,h1];exact h2
 |const c=>exact acH hv
 |global g=>cases hv;rfl
 |func f=>cases hv;exact⟨#[],#[],rfl,rfl,mq,mq⟩
theorem aso{d v}(h:d<a.tmps.size):(a.put (some d) v).tmps[d]? =some v:=by
 show(a.tmps.setIfInBounds d v)[d]? =some v
 grind
theorem asl{s t v}(h:s≠some t):(a.put s v).tmps[t]? =a.tmps[t]? :=by
 cases s with
 |none=>rfl
 |some d=>
  show(a.tmps.setIfInBounds d v)[t]? =_
  grind
theorem asn{s v}:(a.put s v).tmps.size=a.tmps.size:=by
 cases s with
 |none=>rfl
 |some d=>exact Array.size_setIfInBounds ..
theorem Gn{s v}:(a.put s v).defers=a.defers:=by cases s<;>rfl
theorem r8.guard(jc:zm ops ms)(h:r8 P ops ms bt nt bs m iW Dc Da cur H I w a.tmps){c o}(ho:ops[c]? =some o)(vC:∀j,lE ms c j->j∈Dc){b}(hw:n_ ops o cur.bL=some b):
 Region.wanted o (yielded ops a.tmps)=b:=by
 refine ahp hw λg rO d x hg hd hx=>h.tr d x (.inr ⟨λj hj ry=>?_,hx⟩)
 have:=jc.zg g j d hd ry;subst this;exact hj.2 (vC _ (jc.guard c o _ rO ho hg))
theorem r8.exec(jc:zm ops ms)(h:r8 P ops ms bt nt bs m iW Dc Da cur H I w a.tmps){c}(hp:KB Dc Da c)(vC:∀j,lE ms c j->j∈Dc)(fW:rY ms Dc):
 ∃aK w' a',(∀(b:Frame) (k cs rest),step P (lone (b.atR a (.inRegion ops (c::rest)::k)) cs w)=.next (lone (b.atR a' (.inRegion ops rest::k)) cs w'))/\a'.defers=a.defers/\
  r8 P ops ms bt nt bs m iW (c::Dc) Da cur H aK w' a'.tmps/\cz m I H aK H/\cM bs w w':=by
 have⟨o,b,v,ho,sB,Mj,wX⟩:=h.YS c hp;have Mi:jy ops c=o.dst:=by unfold jy;rw[ho];rfl
 have qn:=h.guard jc ho vC sB;have wZ:∀O,OV ops ms bt cur c o O->oN I O a.eval o.op.operands.toList:=by
  intro O he x hx y hy;rw[he x hx]at hy;refine ak9 (λt ht z hz=>h.tr t z ?_) x hx y hy;have htt:t∈SU o:=Sn.2 ⟨.tmp t,ht,rfl⟩;by_cases hl:∃k,jy ops k=some t/\¬lE ms c k
  .rw[VY hl]at hz;have⟨k,hk,hnk⟩:=hl;by_cases hkp:KB Dc Da k
   .exact .inl ⟨k,hkp,hk,hz⟩
   .have aCz:k∉Dc:=by
     intro wU;rcases jc.afS c k o t ho htt hk with rfl|hh|hh
     .exact hp.2 wU
     .exact hnk hh
     .exact hp.2 (fW k wU c hh)
    refine .inr ⟨λj hj hd=>?_,?_⟩
    .have:=jc.zg j k t hd hk;subst this;exact hkp hj
    .rw[h.un t λj hj hd=>?_]
     .exact hz
     .have:=jc.zg j k t hd hk;subst this;exact hkp ⟨hj,aCz⟩
  .rw[VZ hl]at hz;refine .inr ⟨λj hj hd=>?_,hz⟩;exact hj.2 (vC j (qau λhn=>hl ⟨j,hd,hn⟩))
 have key:∀(aK:bZ) (w':World) (v':Value),WR aK bs H w'->cz m I H aK H->cM bs w w'->VR aK v v'->
  (∀j id,j≠c->iW j=some id->I id=none->aK id=none)->r8 P ops ms bt nt bs m iW (c::Dc) Da cur H aK w' (a.put o.dst v').tmps:=by
  intro aK w' v' hwr zH hk hv IE;refine⟨hwr,h.hb.Hr hk.1,h.hm,by rw[asn];exact h.Ht,?_,h.un,h.aW,h.inj,?_⟩
  .intro t x hx;by_cases Bu:o.dst=some t
   .have hd:=Mj t Bu;have rz:¬∃j,KB (c::Dc) Da j/\jy ops j=some t:=by rintro⟨j,hj,ry⟩;have:=jc.zg j c t ry (by rw[Mi];exact Bu);subst this;exact hj.2 (dk ..)
    rcases hx with⟨j,hj,ry,_⟩|⟨_,hx⟩
    .exact(rz ⟨j,hj,ry⟩).elim
    .rw[hd.2]at hx;cases hx;rw[Bu];exact⟨v',aso (by rw[h.Ht];exact hd.1),hv⟩
   .rw[asl Bu];have:abE ops bt cur Dc Da t x:=by
     rcases hx with⟨j,hj,ry,hb⟩|⟨ov,hx⟩
     .exact .inl ⟨j,⟨hj.1,λhd=>hj.2 (dZ _ hd)⟩,ry,hb⟩
     .refine .inr ⟨λj hj ry=>?_,hx⟩;by_cases IF:j=c
      .subst IF;exact Bu (by rw[<-Mi];exact ry)
      .refine ov j ⟨hj.1,λhd=>?_⟩ ry;rcases dU.1 hd with e|hd
       .exact IF e
       .exact hj.2 hd
    have⟨u,h1,h2⟩:=h.tr t x this;exact⟨u,h1,h2.d_ zH.1⟩
  .intro j hj;have IF:j≠c:=λe=>hj.2 (e▸dk ..)
   have⟨o',b',ZV,p1,p2,p3,p4⟩:=h.YS j ⟨hj.1,λhd=>hj.2 (dZ _ hd)⟩;refine⟨o',b',ZV,p1,p2,p3,?_⟩;rcases p4 with p|p|⟨p,O,ob,g,id,e,q1,q2,q3,q4,q5,q6⟩
   .exact .inl p
   .exact .inr (.inl p)
   .exact .inr (.inr ⟨p,O,ob,g,id,e,q1,q2,q3,q4,IE j id IF q3 q5,q6⟩)
 rcases wX with⟨rfl,rfl⟩|⟨rfl,hr,O,Mm,aCQ⟩|⟨rfl,O,ob,g,id,Mm,ao4,rfl,dw,ad4,Xh,eW⟩
 .refine⟨I,w,a.put o.dst undef,λb k cs rest=>?_,Gn,key I w undef h.wr (cz.ka _ _ _) (cM.kP _ _) (NF I) (λ_ _ _ _ h=>h),cz.ka _ _ _,cM.kP _ _⟩;have:=stepR_op_skip (P:=P) (b:=b) (a:=a) (k:=k) (cs:=cs) (w:=w) (ops:=ops) (i:=c) (rest:=rest) (by simp[ho,qn]);simpa[ho]using this
 .have⟨v',h1,h2⟩:=asx h.wr (wZ O Mm) aCQ;exact⟨I,w,a.put o.dst v',λb k cs rest=>Nt ho qn (.inl (by rw[BR _ _ (asw hr)];exact h1)),Gn,key I w v' h.wr (cz.ka _ _ _) (cM.kP _ _) h2 (λ_ _ _ _ h=>h),cz.ka _ _ _,cM.kP _ _⟩
 .have⟨o',n,f,h1,h2,h3,h4⟩:=aqQ (wZ O Mm) ao4;have cr:=PD (e:=⟨w.heap.size,0,n⟩) Xh;have zH:cz m I H (jU I id ⟨w.heap.size,0,n⟩) H:=⟨cr,ct _,λi hi hn=>⟨by rw[EO];rw[aw (by omega)];exact hn,.inl rfl⟩,.of rfl rfl⟩;have hk:=cM.aaS h.hb o';refine⟨jU I id ⟨w.heap.size,0,n⟩,w.alloc o',a.put o.dst (f w.heap.size),λb k cs rest=>Nt ho qn (.inl (by rw[BR _ _ (aqP ao4)];exact h1 w)),Gn,?_,zH,hk⟩;refine key _ _ _ (h.wr.alf Xh eW h.hb h2) zH hk (h3 _ id _ (nN ..)) ?_;intro j ij hj aCx hn;rw[EO];rw[aw]
  .exact hn
  .intro e;subst e;exact hj (h.inj j c _ aCx dw)
end
def axb(P:Program)(m:Nat)(bs:fM)(I:bZ)(H:AH)(w:World)(fr:Frame)(cs:List Frame)(r:mL):Prop:=
 ∃aK w',WR aK bs r.H w'/\cz m I H aK r.H/\cM bs w w'/\match r.e with
  |.gJ v=>∃v',VR aK v v'/\Steps P (lone fr cs w) (lone (fr.finish v') cs w')
  |.dI c=>∃c',CR aK c c'/\Steps P (lone fr cs w) (lone (fr.raise c') cs w')
def Ux(P:Program)(call:uo)(b:Frame)(ops:Array Oper)(k:List Item)(cs:List Frame)(bs:fM):Prop:=
 ∀(a:Act) (i:Nat) (rest:LN) (o:Oper) (I:bZ) (H:AH) (w:World) (m:Nat) (aD:jf) (r:mL),m<=H.br->gY bs w->ops[i]? =some o->Region.wanted o (yielded ops a.tmps)=true->WR I bs H w->
  o.semAt b.roundOf a.eval=execOp a.eval o->ur P m bs I H w (execOp a.eval o) aD->lI P call H none aD=some r->axb P m bs I H w (b.atR a (.inRegion ops (i::rest)::k)) cs r
theorem auj{P ops ms bt cur H}:∀{l},JC P ops ms bt cur H l=true->∀j∈l,∃o b,ops[j]? =some o/\n_ ops o cur.bL=some b/\
 (b=true->∃v,gh P (KW (zv ops ms bt cur j)) H o.op=some v/\∀d,o.dst=some d->cur.bL d=some v)
 |[],_,j,hj=>by cases hj
 |x::l,h,j,hj=>by
  simp only[JC,cT]at h;have⟨h1,h2⟩:=h;rcases dU.1 hj with rfl|hj
  .split at h1
   .cases h1
   next o ho=>
    split at h1
    .cases h1
    next hw=>
     grind
    next hw=>
     split at h1;next v d hv hd=>
      refine⟨o,true,ho,hw,λ_=>⟨v,hv,λd' vw=>?_⟩⟩;rw[hd]at vw;cases vw;cases hc:cur.bL d with
      |none=>rw[hc]at h1;cases h1
      |some y=>rw[hc]at h1;simp at h1;rw[aJp h1]
     next v hv hd=>
      grind
     .cases h1
  .exact auj h2 j hj
theorem aAL(t):∀l i a,(LC t l).bL i=some a->i∉l/\t.bL i=some a:=by
 intro l;induction l generalizing t with
 |nil=>intro i a h;exact⟨(λh=>by cases h),h⟩
 |cons d l ih=>
  intro i a h;have⟨h1,h2⟩:=ih _ i a h;rw[Tr.aBg]at h2
  grind
section
variable{P:Program}{call:uo}{ops:Array Oper}{ms:LN}{bt cur my:Tr AV}{nt:Nat}{bs:fM}{m:Nat}{iW:Nat->Option Nat}{Dc Da:LN}{H H':AH}{I aK:bZ}{w w':World}{a:Act}{b:Frame}{k:List Item}{cs:List Frame}
def zo(P:Program)(ops:Array Oper)(bt:Tr AV)(nt:Nat)(bs:fM)(m:Nat)(I:bZ)(H:AH)(w:World)(b:Frame)(k:List Item)(cs:List Frame)(cl:LN)(a:Act):Uy->Prop
 |.aC t H'=>∃aK w' a',Steps P (lone (b.atR a (.inRegion ops cl::k)) cs w) (lone (b.atR a' (.inRegion ops []::k)) cs w')/\a'.defers=a.defers/\TR aK t nt a'.tmps/\WR aK bs H' w'/\cz m I H aK H'/\cM bs w w'
 |.dI c H'=>∃aK w' a' Vk c',Steps P (lone (b.atR a (.inRegion ops cl::k)) cs w) (lone ((b.atR a' (.inRegion ops Vk::k)).raise c') cs w')/\a'.defers=a.defers/\TR aK (LC bt (Lk ops)) nt a'.tmps/\WR aK bs H' w'/\cz m I H aK H'/\cM bs w w'/\CR aK c c'
 |.eO _=>True
theorem zo.step{cl Vk a a' w w' r}(hs:Steps P (lone (b.atR a (.inRegion ops cl::k)) cs w) (lone (b.atR a' (.inRegion ops Vk::k)) cs w'))(hd:a'.defers=a.defers)(he:cz m I H aK H')(hk:cM bs w w')(h:zo P ops bt nt bs m aK H' w' b k cs Vk a' r):zo P ops bt nt bs m I H w b k cs cl a r:=by
 cases r with
 |aC t H1=>have⟨kC,w1,a1,g1,g2,g3,g4,g5,g6⟩:=h;exact⟨kC,w1,a1,hs.trans g1,g2.trans hd,g3,g4,he.wq g5,hk.um g6⟩
 |dI c H1=>have⟨kC,w1,a1,cl1,c1,g1,g2,g3,g4,g5,g6,g7⟩:=h;exact⟨kC,w1,a1,cl1,c1,hs.trans g1,g2.trans hd,g3,g4,he.wq g5,hk.um g6,g7⟩
 |eO s=>trivial
theorem r8.aNn(jc:zm ops ms)(ox:Ux P call b ops k cs bs)(h:r8 P ops ms bt nt bs m iW Dc Da cur H I w a.tmps){c o}(ho:ops[c]? =some o)(hi:c∉Da)(vC:∀j,lE ms c j->j∈Dc)(fW:rY ms Da)(tD:∀j∈Dc,j∈Da)(hl:tG o.op=false)(sB:n_ ops o cur.bL=some true)(rest):
 match qy P call ops ms bt Da c nt cur H o with
 |.go my H'=>∃aK w' a',Steps P (lone (b.atR a (.inRegion ops (c::rest)::k)) cs w) (lone (b.atR a' (.inRegion ops rest::k)) cs w')/\a'.defers=a.defers/\
   r8 P ops ms bt nt bs m iW (c::Dc) (c::Da) my H' aK w' a'.tmps/\cz m I H aK H'/\cM bs w w'
 |.dI ch H'=>zo P ops bt nt bs m I H w b k cs (c::rest) a (.dI ch H')
 |.eO _=>True:=by
 have Mi:jy ops c=o.dst:=by unfold jy;rw[ho];rfl
 have qn:=h.guard jc ho vC sB;have wZ:oN I (iC cur) a.eval o.op.operands.toList:=by
  intro x hx y hy;have hae:∀x,iC cur x=KW cur.bL x:=λx=>by cases x<;>rfl
  rw[hae]at hy;refine ak9 (λt ht z hz=>h.tr t z (.inr ⟨λj hj ry=>?_,hz⟩)) x hx y hy;have htt:t∈SU o:=Sn.2 ⟨.tmp t,ht,rfl⟩;rcases jc.afS c j o t ho htt ry with rfl|hh|hh
  .exact hi hj.1
  .exact hj.2 (vC j hh)
  .exact hi (fW j hj.1 c hh)
 simp only[tG,Bool.or_eq_false_iff]at hl;unfold qy;rw[sB];simp only[cond_true,hl.1,hl.2,cond_false];unfold YO;cases eC:ot P (iC cur) H o.op with
 |none=>trivial
 |some aD=>
  simp only;cases kg:lI P call H none aD with
  |none=>trivial
  |some r=>
   have kf:∀c,o.op≠.defer c:=by
    intro cc gL;rw[gL]at eC;simp only[ot,L6]at eC;split at eC
    .split at eC;next fn first mw l _ _=>
      cases hy:yJ fn with
      |true=>rw[hy]at eC;cases eC
      |false=>rw[hy]at eC;cases eC;simp[lI]at kg
     .cases eC
    .cases eC
   have IN:=aoM h.wr h.hb (ct _) wZ eC;have⟨aK,w',g1,g2,g3,g4⟩:=ox a c rest o I H w H.br aD r (ct _) h.hb ho qn h.wr (BR _ _ kf) IN kg;have⟨e,up,H1⟩:=r;cases e with
   |dI ch=>
    have⟨c',hc,tC⟩:=g4;refine⟨aK,w',a,c::rest,c',tC,rfl,⟨h.Ht,λi x hx=>?_⟩,g1,g2.mono h.hm,g3,hc⟩;have⟨Bv,yF⟩:=aAL bt (Lk ops) i x hx;have kf:∀j,jy ops j≠some i:=by intro j hj;have⟨o',pN,vw⟩:=PV hj;exact Bv (Sn.2 ⟨o',Array.mem_toList_iff.2 (Array.mem_of_getElem? pN),vw⟩)
    have⟨v,q1,q2⟩:=h.tr i x (.inr ⟨λj _=>kf j,by rw[h.un i λj _=>kf j];exact yF⟩);exact⟨v,q1,q2.d_ g2.1⟩
   |gJ v=>
    simp only[YP];cases l6:pZ nt cur o.dst v with
    |none=>trivial
    |some my=>
     simp only;cases fw:JC P ops ms bt my H1 (UR ops ms Da c)with
     |false=>trivial
     |true=>
      simp;have⟨v',hv,tC⟩:=g4;rw[LJ ho]at tC;have⟨s1,s2⟩:=Zg ho l6;refine⟨aK,w',a.put o.dst v',tC,Gn,?_,g2.mono h.hm,g3⟩;refine⟨g1,h.hb.Hr g3.1,lz h.hm g2.2.1,by rw[asn];exact h.Ht,?_,?_,λj id hj=>Nl (h.aW j id hj) g2.2.1,h.inj,?_⟩
      .intro t x hx;by_cases Bu:o.dst=some t
       .have hd:=s1 t Bu;rcases hx with⟨j,hj,ry,_⟩|⟨_,hx⟩
        .have:=jc.zg j c t ry hd.2.2;subst this;exact(hj.2 (dk ..)).elim
        .rw[hd.2.1]at hx;cases hx;rw[Bu];exact⟨v',aso (by rw[h.Ht];exact hd.1),hv⟩
       .rw[asl Bu];have aC6:abE ops bt cur Dc Da t x:=by
         rcases hx with⟨j,hj,ry,hb⟩|⟨ov,hx⟩
         .rcases dU.1 hj.1 with rfl|yw
          .exact(hj.2 (dk ..)).elim
          .exact .inl ⟨j,⟨yw,λhd=>hj.2 (dZ _ hd)⟩,ry,hb⟩
         .refine .inr ⟨λj hj ry=>?_,by rw[<-s2 t (by rw[Mi];exact Bu)];exact hx⟩;refine ov j ⟨dZ _ hj.1,λhd=>?_⟩ ry;rcases dU.1 hd with rfl|hd
          .exact hi hj.1
          .exact hj.2 hd
        have⟨u,q1,q2⟩:=h.tr t x aC6;exact⟨u,q1,q2.d_ g2.1⟩
      .intro t ht;rw[s2 t (ht c (dk ..))];exact h.un t λj hj=>ht j (dZ _ hj)
      .intro j hj;have IF:j≠c:=λe=>hj.2 (e▸dk ..)
       have W_:j∈Da:=by
        rcases dU.1 hj.1 with e|hd
        .exact(IF e).elim
        .exact hd
       have aoY:=λhd=>hj.2 (dZ _ hd)
       have⟨o',b',ZV,p1,p2,p3,p4⟩:=h.YS j ⟨W_,aoY⟩;have yE:=aho jc p1 (λd h=>h) hi (fW j W_) s2;have hdj:∀d,o'.dst=some d->my.bL d=cur.bL d:=by
        intro d hd;refine s2 d λvw=>?_
        have:jy ops j=some d:=by unfold jy;rw[p1];exact hd
        exact IF (jc.zg j c d this vw)
       have p5:=p4.MM (λd h=>h) hi (fW j W_) s2;rcases p5 with⟨rfl,rfl⟩|⟨rfl,q,O,e,r⟩|⟨rfl,O,ob,g,id,e,q1,q2,q3,q4,q5,q6⟩
       .exact⟨o',false,_,p1,by rw[yE];exact p2,λd hd=>⟨(p3 d hd).1,by rw[hdj d hd];exact(p3 d hd).2⟩,.inl aA⟩
       .by_cases Rd:XE o'.op=true
        .exact⟨o',true,ZV,p1,by rw[yE];exact p2,λd hd=>⟨(p3 d hd).1,by rw[hdj d hd];exact(p3 d hd).2⟩,.inr (.inl ⟨rfl,q,O,e,by rw[aMY Rd H1 H];exact r⟩)⟩
        have hag:j∈UR ops ms Da c:=by refine xz.2 ⟨W_,?_⟩;rw[p1];simp only[BM,q,pW,yV,cT,sI.2 Rd,true_and];exact sI.2 λhh=>aoY (vC j (MX.1 hh))
        have⟨o2,b2,t1,t2,t3⟩:=auj fw j hag;rw[p1]at t1;cases t1;rw[yE,p2]at t2;cases t2;have⟨v2,t4,t5⟩:=t3 rfl;exact⟨o',true,v2,p1,by rw[yE];exact p2,λd hd=>⟨(p3 d hd).1,t5 d hd⟩,.inr (.inl ⟨rfl,q,_,λ_ _=>rfl,t4⟩)⟩
       .have⟨u1,u2⟩:=g2.2.2.1 id (h.aW j id q3) q5;have u2:H1.aR id=H.aR id:=by
         rcases u2 with u2|⟨vs,el,u2⟩
         .exact u2
         .rw[q6]at u2;cases u2;exact absurd rfl (aEm q1 vs el)
        exact⟨o',true,ZV,p1,by rw[yE];exact p2,λd hd=>⟨(p3 d hd).1,by rw[hdj d hd];exact(p3 d hd).2⟩,.inr (.inr ⟨rfl,O,ob,g,id,e,q1,q2,q3,q4,u1,by rw[u2];exact q6⟩)⟩
theorem akJ(jc:zm ops ms):∀(aI) {post c Da iW cur H},r8 P ops ms bt nt bs m iW Dc Da cur H I w a.tmps->rY ms Da->(∀j∈Dc,j∈Da)->
 u_ ms Da (aI++c::post)->(∀i∈aI,(ops[i]?).any (tG ·.op)=true)->
 (∃s,vO P call ops ms bt nt (aI++c::post) Da cur H=.eO s)\/
 ∃yG Km my H',r8 P ops ms bt nt bs m yG Dc Km my H' I w a.tmps/\vO P call ops ms bt nt (aI++c::post) Da cur H=vO P call ops ms bt nt (c::post) Km my H'/\cz m I H I H'/\
  rY ms Km/\(∀j∈Dc,j∈Km)/\u_ ms Km (c::post)/\(∀j,j∈Km↔j∈Da\/j∈aI)
 |[],post,c,Da,iW,cur,H,h,fW,tD,ht,hl=>.inr ⟨iW,Da,cur,H,h,rfl,cz.ka _ _ _,fW,tD,ht,by simp⟩
 |i::aI,post,c,Da,iW,cur,H,h,fW,tD,ht,hl=>by
  have⟨t1,t2,t3⟩:=ht;have zK:=hl i (dk ..);cases ho:ops[i]? with
  |none=>rw[ho]at zK;cases zK
  |some o=>
   rw[ho]at zK;simp at zK;simp only[j3,vO,ho];cases hs:qy P call ops ms bt Da i nt cur H o with
   |eO s=>exact .inl ⟨s,rfl⟩
   |dI ch H1=>
    exfalso;unfold qy at hs;split at hs
    .cases hs
    next b hb=>
     cases b with
     |false=>simp only[cond_false,uH]at hs;split at hs<;>cases hs
     |true=>
      simp at hs;cases hr:qp o.op with
      |true=>
       rw[hr]at hs;simp only[cond_true,R0]at hs;split at hs
       .simp only[uH]at hs;split at hs<;>cases hs
       .cases hs
      |false=>
       rw[hr]at hs;simp at hs;have:uD o.op=true:=by simpa[tG,hr]using zK
       rw[this]at hs;simp at hs;cases yx:sD P (iC cur) o.op with
       |none=>rw[yx]at hs;simp[Gi]at hs
       |some r=>have⟨ob,g⟩:=r;obtain⟨hh,n⟩:=H;rw[yx]at hs;simp only[Gi,uH]at hs;split at hs<;>cases hs
   |go my H'=>
    have⟨yG,g1,g2⟩:=h.adv jc ho t2 t1 fW tD (.inl zK) hs;rcases akJ jc aI g1 (fW.Kf t1) (λj hj=>dZ _ (tD j hj)) t3 (λj hj=>hl j (dZ _ hj))with⟨s,hs⟩|⟨apr,Hx,EY,H2,q1,q2,q3,q4,q5,q6,q7⟩
    .exact .inl ⟨s,hs⟩
    .refine .inr ⟨apr,Hx,EY,H2,q1,q2,g2.wq q3,q4,q5,q6,λj=>?_⟩
     grind
theorem afY(jc:zm ops ms)(ox:Ux P call b ops k cs bs):∀(cl) {rest Da Dc last iW cur H I w a},
 u_ ms Dc cl->rY ms Dc->u_ ms Da rest->rY ms Da->(∀j∈Dc,j∈Da)->(∀j∈cl,j∈Da\/j∈rest)->(∀j∈rest,j∈cl)->(∀j∈Da,j∈Dc\/j∈cl)->zY ops ms last rest=true->
 r8 P ops ms bt nt bs m iW Dc Da cur H I w a.tmps->zo P ops bt nt bs m I H w b k cs cl a (vO P call ops ms bt nt rest Da cur H)
 |[],rest,Da,Dc,last,iW,cur,H,I,w,a,ht,hc,IP,wR,tD,h1,h2,h3,aN,h=>by
  have:=List.eq_nil_iff_forall_not_mem.2 λj hj=>by cases h2 j hj
  subst this;refine⟨I,w,a,Steps.refl P _,rfl,⟨h.Ht,λi x hx=>h.tr i x (.inr ⟨λj hj=>?_,hx⟩)⟩,h.wr,cz.ka _ _ _,cM.kP _ _⟩;rcases h3 j hj.1 with hd|hd
  .exact(hj.2 hd).elim
  .cases hd
 |c::cl,rest,Da,Dc,last,iW,cur,H,I,w,a,ht,hc,IP,wR,tD,h1,h2,h3,aN,h=>by
  have⟨t1,t2,t3⟩:=ht;have alr:∀{rest Da:LN} {last:Option Nat} {iW:Nat->Option Nat} {cur:Tr AV} {H:AH},c∈Da->u_ ms Da rest->rY ms Da->(∀j∈Dc,j∈Da)->(∀j∈c::cl,j∈Da\/j∈rest)->(∀j∈rest,j∈c::cl)->(∀j∈Da,j∈Dc\/j∈c::cl)->zY ops ms last rest=true->
   r8 P ops ms bt nt bs m iW Dc Da cur H I w a.tmps->zo P ops bt nt bs m I H w b k cs (c::cl) a (vO P call ops ms bt nt rest Da cur H):=by
   intro rest Da last iW cur H Mg IP wR tD h1 h2 h3 aN h;have⟨aK,w',a',s1,s2,s3,s4,s5⟩:=h.exec jc ⟨Mg,t2⟩ t1 hc;refine zo.step (.one (s1 b k cs cl)) s2 s4 s5 ?_;refine afY jc ox cl t3 (hc.Kf t1) IP wR (λj hj=>?_) (λj hj=>h1 j (dZ _ hj)) (λj hj=>?_) (λj hj=>?_) aN s3
   .rcases dU.1 hj with rfl|hj
    .exact Mg
    .exact tD j hj
   .rcases dU.1 (h2 j hj)with rfl|FM
    .exact(IP.Yt hj Mg).elim
    .exact FM
   .rcases h3 j hj with hd|hd
    .exact .inl (dZ _ hd)
    .rcases dU.1 hd with rfl|hd
     .exact .inl (dk ..)
     .exact .inr hd
  by_cases Mg:c∈Da
  .exact alr Mg IP wR tD h1 h2 h3 aN h
  .have FH:=(h1 c (dk ..)).resolve_left Mg;obtain⟨aI,post,rfl⟩:=List.append_of_mem FH;have aCM:∀i∈aI,(ops[i]?).any (tG ·.op)=true:=by
    rcases afG aI post c last aN with⟨e,he,hn⟩|⟨_,hh⟩
    .have:=tD e (t1 e hn);exact(IP.Yt (DV _ he) this).elim
    .exact hh
   rcases akJ jc aI h wR tD IP aCM with⟨s,hs⟩|⟨apr,Hx,EY,H2,q1,q2,q3,q4,q5,q6,q7⟩
   .rw[hs];trivial
   .rw[q2];refine zo.step (Steps.refl P _) rfl q3 (cM.kP _ _) ?_;have⟨u1,u2,u3⟩:=q6;have⟨aDJ,Q5⟩:=afH aI (c::post) last aN;have Xi:=afH [c] post aDJ Q5;have m1:∀j∈c::cl,j∈c::Hx\/j∈post:=by
     intro j hj;rcases h1 j hj with hh|hh
     .exact .inl (dZ _ ((q7 j).2 (.inl hh)))
     .rcases iK.1 hh with hh|hh
      .exact .inl (dZ _ ((q7 j).2 (.inr hh)))
      .rcases dU.1 hh with rfl|hh
       .exact .inl (dk ..)
       .exact .inr hh
    have m2:=λj hj=>h2 j (List.mem_append_right _ (dZ _ hj))
    have m3:∀j∈c::Hx,j∈Dc\/j∈c::cl:=by
     intro j hj;rcases dU.1 hj with rfl|hj
     .exact .inr (dk ..)
     .rcases(q7 j).1 hj with hh|hh
      .exact h3 j hh
      .exact .inr (h2 j (DV _ hh))
    simp only[vO];cases ho:ops[c]? with
    |none=>trivial
    |some o=>
     simp only;have⟨aP6,Xi⟩:=Xi;by_cases Br:tG o.op=true\/n_ ops o EY.bL=some false
     .cases hs:qy P call ops ms bt Hx c nt EY H2 o with
      |eO s=>trivial
      |dI ch H3=>
       exfalso;unfold qy at hs;split at hs
       .cases hs
       next bb hb=>
        cases bb with
        |false=>simp only[cond_false,uH]at hs;split at hs<;>cases hs
        |true=>
         have Br:=Br.resolve_right (by rw[hb];simp);simp at hs;cases hr:qp o.op with
         |true=>
          rw[hr]at hs;simp only[cond_true,R0]at hs;split at hs
          .simp only[uH]at hs;split at hs<;>cases hs
          .cases hs
         |false=>
          rw[hr]at hs;simp at hs;have:uD o.op=true:=by simpa[tG,hr]using Br
          rw[this]at hs;simp at hs;cases yx:sD P (iC EY) o.op with
          |none=>rw[yx]at hs;simp[Gi]at hs
          |some r=>have⟨ob,g⟩:=r;obtain⟨hh,n⟩:=H2;rw[yx]at hs;simp only[Gi,uH]at hs;split at hs<;>cases hs
      |go azj H3=>have⟨aP4,g1,g2⟩:=q1.adv jc ho u2 u1 q4 q5 Br hs;refine zo.step (Steps.refl P _) rfl g2 (cM.kP _ _) ?_;exact alr (dk ..) u3 (q4.Kf u1) (λj hj=>dZ _ (q5 j hj)) m1 m2 m3 Xi g1
     .cases hw:n_ ops o EY.bL with
      |none=>
       have:qy P call ops ms bt Hx c nt EY H2 o=.eO "guard" :=by unfold qy;rw[hw]
       rw[this];trivial
      |some bb=>
       have hbt:bb=true:=by
        cases bb with
        |true=>rfl
        |false=>exact(Br (.inr hw)).elim
       subst hbt;have My:=sI.2 λhh=>Br (.inl hh)
       have FL:=q1.aNn jc ox ho u2 t1 q4 q5 My hw cl;cases hs:qy P call ops ms bt Hx c nt EY H2 o with
       |eO s=>trivial
       |dI ch H3=>rw[hs]at FL;exact FL
       |go azj H3=>
        rw[hs]at FL;have⟨aK,w',a',s1,s2,s3,s4,s5⟩:=FL;refine zo.step s1 s2 s4 s5 ?_;refine afY jc ox cl t3 (hc.Kf t1) u3 (q4.Kf u1) (λj hj=>?_) (λj hj=>m1 j (dZ _ hj)) (λj hj=>?_) (λj hj=>?_) Xi s3
        .rcases dU.1 hj with rfl|hj
         .exact dk ..
         .exact dZ _ (q5 j hj)
        .rcases dU.1 (m2 j hj)with rfl|FM
         .exact(u3.Yt hj (dk ..)).elim
         .exact FM
        .rcases m3 j hj with hd|hd
         .exact .inl (dZ _ hd)
         .rcases dU.1 hd with rfl|hd
          .exact .inl (dk ..)
          .exact .inr hd
theorem aFh{pl}(kL:Nd ops=some pl)(cJ:P.follows .mixedOrders=true)(ox:Ux P call b ops k cs bs)(t)(hw:WR I bs H w)(hb:gY bs w)(hm:m<=H.br)(ht:TR I bt nt a.tmps):
 zo P ops bt nt bs m I H w b k cs (Region.schedule (P.follows .mixedOrders) ops t) a (vO P call ops pl.ms bt nt pl.Hu [] bt H):=by
 have⟨h1,h2,h3,h4,jc⟩:=aFt kL;have⟨g1,g2,g3⟩:=aJs cJ h1 t;refine afY jc ox _ (iW:=λ_=>none) g1 (rY.nil _) h2 (rY.nil _) (λ_ h=>h) (λj hj=>.inr ((h3 j).1 (g3 j hj))) (λj hj=>g2 j ((h3 j).2 hj)) (λj hj=>by cases hj) h4 ?_;refine⟨hw,hb,hm,ht.1,λt x hx=>?_,λ_ _=>rfl,(λ_ _ h=>by cases h),(λ_ _ _ h=>by cases h),(λj hj=>by cases hj.1)⟩;rcases hx with⟨j,hj,_⟩|⟨_,hx⟩
 .cases hj.1
 .exact ht.2 t x hx
end
def MR(I:bZ):qU->FrameMode->Prop
 |.gI,m=>m=.run
 |.jR,m=>m=.returning
 |.mj c,m=>∃c',m=.panicking c'/\CR I c c'
def IR(I:bZ):dQ->Item->Prop
 |.gP c,x=>x=.code c
 |.xO id,x=>x=.inBlock id
 |.sY b,x=>x=.inLoop b
 |.wo b,x=>x=.inScope b
 |.Hp l,x=>∃e,I l=some e/\x=.inRangeFunc e.b
 |.Ez l,x=>∃e,I l=some e/\x=.endRangeFunc e.b
 |.Cz,x=>x=.beginRound
 |.gW ops i rest,x=>x=.inRegion ops (List.range' i rest.length)/\rest=ops.toList.drop i
def kE(I:bZ):List dQ->List Item->Prop
 |[],l=>l=[]
 |x::xs,l=>∃y ys,l=y::ys/\IR I x y/\kE I xs ys
def RR(I:bZ):Option Nat->Option Nat->Prop
 |none,r=>r=none
 |some l,r=>∃e,I l=some e/\r=some e.b
def KR:Option qU->CallKind->Prop
 |none,k=>k=.normal
 |some _,k=>k=.deferred
structure FR(I:bZ)(fr:gw)(b:Frame)(a:Act):Prop where
 fn:b.fn=fr.fn
 tr:TR I fr.Cy fr.nt a.tmps
 dr:qV I fr.TH a.defers
 kD:RR I fr.rT b.roundOf
 lD:KR fr.up b.kind
 qX:fr.up.isSome=true->fr.rT=none
def wv(I:bZ)(fr:gw)(cf:Frame):Prop:=
 match fr.nI with
 |.gI=>∃(b:Frame) (a:Act) (todo:List Item),cf=b.atR a todo/\FR I fr b a/\kE I fr.Ke todo
 |m=>FR I fr cf ⟨cf.tmps,cf.defers⟩/\MR I m cf.mode
def lG(I:bZ)(up:Option qU)(cs:List Frame):Prop:=
 match up with
 |none=>True
 |some u=>∃c cs',cs=c::cs'/\MR I u c.mode
def ER(I:bZ):T8->Ending->Prop
 |.gJ v,e=>∃v',e=.returned v'/\VR I v v'
 |.dI c,e=>∃c',e=.panicked c'/\CR I c c'
def qW(P:Program)(aK:bZ)(w:World)(w':World)(cf:Frame)(cs:List Frame)(r:mL):Option qU->Option Nat->Prop
 |none,none=>∃kI e',ER aK r.e e'/\Steps P (lone cf cs w) (lone kI cs w')/\kI.leaving P w' e'/\kI.fn=cf.fn
 |some _,_=>∃c cs' uA u' kI e',cs=c::cs'/\r.up=some uA/\MR aK uA u'/\ER aK r.e e'/\Steps P (lone cf cs w) (lone kI ({c with mode:=u'}::cs') w')/\kI.kind=.deferred/\kI.going P w' e'
 |none,some _=>∀c cs',cs=c::cs'->match r.e with
  |.gJ v=>∃v',VR aK v v'/\Steps P (lone cf cs w) (lone (c.finish v') cs' w')
  |.dI ch=>∃wD,CR aK ch wD/\Steps P (lone cf cs w) (lone (c.raise wD) cs' w')
def xY(P:Program)(m:Nat)(bs:fM)(I:bZ)(H:AH)(w:World)(cf:Frame)(cs:List Frame)(r:mL)(up:Option qU)(round:Option Nat):Prop:=
 ∃aK w',WR aK bs r.H w'/\cz m I H aK r.H/\cM bs w w'/\qW P aK w w' cf cs r up round
def TX(P:Program)(call:gw->AH->Option mL):Prop:=
 ∀(fr:gw) (H:AH) (r:mL),call fr H=some r->∀(I:bZ) (w:World) (m:Nat) (bs:fM) (cf:Frame) (cs:List Frame),WR I bs H w->gY bs w->m<=H.br->wv I fr cf->lG I fr.up cs->xY P m bs I H w cf cs r fr.up fr.rT
def Uv(P:Program)(K:Ph):Prop:=
 ∀(f:FuncId) (args:LV) (H:AH) (v:AV) (H':AH),K f args H=some (v,H')->∀(I:bZ) (w:World) (m:Nat) (bs:fM) (args':Array Value) (cs:List Frame),bf I args args'.toList->WR I bs H w->gY bs w->m<=H.br->
  xY P m bs I H w (Frame.enter P f args' .normal) cs ⟨jX v,none,H'⟩ none none
structure nJ(P:Program)(call:uo):Prop where
 go:TX P call.go
 gU:Uv P call.gU
section
variable{P:Program}{call:uo}{bs:fM}{m:Nat}{H:AH}{I:bZ}{w:World}
theorem am7{go}(hc:TX P go){f args args' up r}(h:(P8 P f args up).bind (go · H)=some r)(ha:bf I args args'.toList)(hw:WR I bs H w)(hb:gY bs w)(hm:m<=H.br){cs}(hu:lG I up cs){kind}(hk:KR up kind):xY P m bs I H w (Frame.enter P f args' kind) cs r up none:=by
 cases he:P8 P f args up with
 |none=>rw[he]at h;cases h
 |some fr=>
  rw[he]at h;simp at h;unfold P8 at he;split at he;next fn jY=>
   split at he;next c aCa=>
    have⟨cr,he⟩:=di he;have cr:=qA cr;cases he;have bB:args'.size<=fn.ntmps:=by have:=ha.je;simp at this;omega
    refine hc _ H r h I w m bs _ cs hw hb hm ?_ hu;let b:Frame:={(default:Frame)with fn:=f,kind:=kind,roundOf:=none}
    refine⟨b,{tmps:=args'++Array.replicate (fn.ntmps-args'.size) undef,defers:=[]},[.code c],?_,⟨rfl,⟨?_,?_⟩,rfl,rfl,hk,λ_=>rfl⟩,⟨_,_,rfl,rfl,rfl⟩⟩
    .simp[Frame.enter,Frame.atR,jY,aCa,b]
    .simp;omega
    .intro i x hx;rw[Tr.anY]at hx;split at hx;next hi=>
      simp at hx;have⟨v,h1,h2⟩:=ha.get hx
      grind
     .cases hx
   .cases he
  .cases he
theorem adf(hc:nJ P call){f args args' up r}(h:P9 P call f args up H=some r)(ha:bf I args args'.toList)(hw:WR I bs H w)(hb:gY bs w)(hm:m<=H.br){cs}(hu:lG I up cs){kind}(hk:KR up kind):xY P m bs I H w (Frame.enter P f args' kind) cs r up none:=by
 unfold P9 at h;split at h;next v H' Xe=>cases h;have hk':=hk;subst hk';exact hc.gU f args H v H' Xe I w m bs args' cs ha hw hb hm
 .exact am7 hc.go h ha hw hb hm hu hk
theorem anP(nt):∀l:List (Tmp×AV),l.foldl (λt (p,a)=>t.bind λt=>pZ nt t (some p) a) none=none
 |[]=>rfl
 |_::l=>by simp;exact anP nt l
theorem anO{nt}:∀(ps:List Tmp) (as vs) {t t' tmps},bf I as vs->TR I t nt tmps->
 (ps.zip as).foldl (λt (p,a)=>t.bind λt=>pZ nt t (some p) a) (some t)=some t'->TR I t' nt ((ps.zip vs).foldl (λtmps (t,a)=>tmps.setIfInBounds t a) tmps)
 |[],as,vs,t,t',tmps,_,ht,h=>by simp_all
 |p::ps,[],vs,t,t',tmps,ha,ht,h=>by subst ha;simp_all
 |p::ps,a::as,vs,t,t',tmps,ha,ht,h=>by
  obtain⟨v,eA,rfl,hv,jd⟩:=ha;simp at h⊢;cases hs:pZ nt t (some p) a with
  |none=>rw[hs,anP]at h;cases h
  |some t1=>rw[hs]at h;have:=TR.put (a:=⟨tmps,[]⟩) ht hs hv;exact anO ps as eA jd this h
theorem aGb(hc:nJ P call){l ob e args args' r}(eW:H.aR l=some ob)(h:(D0 ob l args).bind (call.go · H)=some r)(he:I l=some e)(ha:bf I args args'.toList)(hw:WR I bs H w)(hb:gY bs w)(hm:m<=H.br)(cs):
 ∃f tmps assign body,(Instr.yield e.b args').run P w=.ok (.round e.b f tmps assign body) w/\xY P m bs I H w (Frame.round e.b f tmps assign body .normal) cs r none (some l):=by
 unfold D0 at h;split at h;next st p fn tmps nt params assign body d=>
  cases bB:Nat.beq args.length params.length with
  |false=>rw[bB]at h;cases h
  |true=>
   rw[bB]at h;simp at h;have bB:=dN bB;obtain⟨o,hg,qG,ed,rfl,hd,ht⟩:=hw.ey l _ e eW he;split at h;next t' W7=>
    simp at h;have ca:args'.size=params.length:=by have:=ha.je;simp at this;omega
    refine⟨fn,(params.toArray.zip args').foldl (λtmps (t,a)=>tmps.setIfInBounds t a) qG,assign,body,?_,?_⟩
    .exact run_yield hg (by simpa using ca)
    .refine hc.go _ H r h I w m bs _ cs hw hb hm ?_ trivial;let b:Frame:={(default:Frame)with fn:=fn,kind:=.normal,roundOf:=some e.b}
     refine⟨b,{tmps:=(params.toArray.zip args').foldl (λtmps (t,a)=>tmps.setIfInBounds t a) qG,defers:=[]},[.code assign,.beginRound,.code body],?_,⟨rfl,?_,rfl,⟨e,he,rfl⟩,rfl,λh=>by cases h⟩,⟨_,_,rfl,rfl,_,_,rfl,rfl,_,_,rfl,rfl,rfl⟩⟩
     .simp[Frame.round,Frame.atR,b]
     .have:=anO params args args'.toList ha ht W7;have e1:(params.toArray.zip args').foldl (λtmps (t,a)=>tmps.setIfInBounds t a) qG=(params.zip args'.toList).foldl (λtmps (t,a)=>tmps.setIfInBounds t a) qG:=by rw[<-Array.foldl_toList,Array.toList_zip]
      grind
   .cases h
 .cases h
theorem agy{fr acN c cs S4 r round}(h:xY P m bs I H w fr (c::cs) r none round)(hs:Steps P (lone acN cs S4) (lone fr (c::cs) w))(hk:cM bs S4 w):
 ∃aK w',WR aK bs r.H w'/\cz m I H aK r.H/\cM bs S4 w'/\match r.e with
 |.gJ v=>∃v',VR aK v v'/\Steps P (lone acN cs S4) (lone (c.finish v') cs w')
 |.dI ch=>∃c',CR aK ch c'/\Steps P (lone acN cs S4) (lone (c.raise c') cs w'):=by
 have⟨aK,w',h1,h2,h3,h4⟩:=h;refine⟨aK,w',h1,h2,hk.um h3,?_⟩;cases round with
 |none=>
  have⟨kI,e',he,fw,hl,_⟩:=h4;have⟨e,up,H1⟩:=r;cases e with
  |gJ v=>obtain⟨v',rfl,hv⟩:=he;exact⟨v',hv,hs.trans (fw.trans (.one (step_leave_returned hl)))⟩
  |dI ch=>obtain⟨c',rfl,hv⟩:=he;exact⟨c',hv,hs.trans (fw.trans (.one (step_leave_panicked hl)))⟩
 |some l=>
  have:=h4 c cs rfl;have⟨e,up,H1⟩:=r;cases e with
  |gJ v=>have⟨v',hv,fw⟩:=this;exact⟨v',hv,hs.trans fw⟩
  |dI ch=>have⟨v',hv,fw⟩:=this;exact⟨v',hv,hs.trans fw⟩
theorem arW(hc:nJ P call)(b ops k cs):Ux P call b ops k cs bs:=by
 intro a i rest o I H w m aD r hm hb ho sB hw aef eC kg;cases aD with
 |gQ v H'=>cases kg;have⟨aK,w',v',h1,h2,h3,h4,h5⟩:=eC;refine⟨aK,w',h3,h4,h5,v',h2,?_⟩;rw[LJ ho];exact .one (Nt ho sB (by rw[aef];exact h1))
 |rW f args=>have⟨args',h1,h2⟩:=eC;have:=adf (cs:=b.atR a (.inRegion ops (i::rest)::k)::cs) hc kg h2 hw hb hm trivial rfl;exact agy this (.one (aMU ho sB (by rw[aef];exact h1))) (cM.kP _ _)
 |xR l args=>
  have⟨e,args',h0,h1,h2⟩:=eC;simp only[lI]at kg;split at kg;next ob eW=>have⟨f,tmps,assign,body,g1,g2⟩:=aGb hc eW kg h0 h2 hw hb hm (b.atR a (.inRegion ops (i::rest)::k)::cs);exact agy g2 (.one (aMW ho sB (by rw[aef,h1];exact g1))) (cM.kP _ _)
  .cases kg
 |zh d=>cases kg
 |xQ v=>cases kg
 |zi=>cases kg
end
theorem CR.mono{I E}(h:dp I E):∀{c l},CR I c l->CR E c l
 |[],_,hc=>hc
 |(v,r)::c,l,hc=>by obtain⟨v',l',rfl,h1,h2⟩:=hc;exact⟨v',l',rfl,VR.d_ h _ _ h1,CR.mono h h2⟩
theorem MR.mono{I E}(h:dp I E){m fm}(hm:MR I m fm):MR E m fm:=by
 cases m with
 |gI=>exact hm
 |jR=>exact hm
 |mj c=>have⟨c',h1,h2⟩:=hm;exact⟨c',h1,h2.mono h⟩
theorem IR.mono{I E}(h:dp I E){x y}(hx:IR I x y):IR E x y:=by
 cases x<;>first
  |exact hx
  |(have⟨e,h1,h2⟩:=hx;exact⟨e,h _ _ h1,h2⟩)
theorem kE.OI{I E}(h:dp I E):∀{xs ys},kE I xs ys->kE E xs ys
 |[],_,hx=>hx
 |x::xs,ys,hx=>by obtain⟨y,uh,rfl,h1,h2⟩:=hx;exact⟨y,uh,rfl,h1.mono h,kE.OI h h2⟩
theorem RR.mono{I E}(h:dp I E){r r'}(hr:RR I r r'):RR E r r':=by
 cases r with
 |none=>exact hr
 |some l=>have⟨e,h1,h2⟩:=hr;exact⟨e,h _ _ h1,h2⟩
theorem FR.CB{I E}(h:dp I E){fr b a}(hf:FR I fr b a):FR E fr b a:=
 ⟨hf.fn,hf.tr.mono h,hf.dr.Kh h,hf.kD.mono h,hf.lD,hf.qX⟩
theorem lG.mono{I E}(h:dp I E){up cs}(hu:lG I up cs):lG E up cs:=by
 cases up with
 |none=>trivial
 |some u=>have⟨c,cs',h1,h2⟩:=hu;exact⟨c,cs',h1,h2.mono h⟩
def AK(up:Option qU)(cs mS:List Frame):Prop:=
 match up with
 |none=>mS=cs
 |some _=>∃c cs' u,cs=c::cs'/\mS={c with mode:=u}::cs'
theorem AK.Kg{I up cs}(h:lG I up cs):AK up cs cs:=by
 cases up with
 |none=>rfl
 |some u=>obtain⟨c,cs',rfl,_⟩:=h;exact⟨c,cs',c.mode,rfl,rfl⟩
def lF(P:Program)(m:Nat)(bs:fM)(I:bZ)(H:AH)(w:World)(fr:gw)(cf:Frame)(cs:List Frame):kF->Prop
 |.go fr' H'=>∃aK w' kI mS,Steps P (lone cf cs w) (lone kI mS w')/\wv aK fr' kI/\lG aK fr'.up mS/\AK fr.up cs mS/\fr'.rT=fr.rT/\fr'.up.isSome=fr.up.isSome/\
   WR aK bs H' w'/\cz m I H aK H'/\cM bs w w'/\kI.fn=cf.fn
 |.CC r=>xY P m bs I H w cf cs r fr.up fr.rT
 |.eO _=>True
section
variable{P:Program}{call:uo}{bs:fM}{m:Nat}{H H':AH}{I aK:bZ}{w w':World}{fr fr':gw}{b:Frame}{a a':Act}{todo rM:List Item}{cs:List Frame}
theorem Fx(hs:Steps P (lone (b.atR a todo) cs w) (lone (b.atR a' rM) cs w'))(hf:FR aK fr' b a')(hr:fr'.nI=.gI)(hi:kE aK fr'.Ke rM)(hw:WR aK bs H' w')(he:cz m I H aK H')(hk:cM bs w w')
 (yD:fr'.up=fr.up) (fY:fr'.rT=fr.rT) (hu:lG I fr.up cs):lF P m bs I H w fr (b.atR a todo) cs (.go fr' H'):=by
 refine⟨aK,w',b.atR a' rM,cs,hs,?_,?_,AK.Kg hu,fY,by rw[yD],hw,he,hk,rfl⟩
 .unfold wv
  grind
 .rw[yD];exact hu.mono he.1
theorem v8{k}(dP:fr.nI=.gI)(hs:Steps P (lone (b.atR a todo) cs w) (lone (b.atR a rM) cs w'))(yE:w'.heap=w.heap)(hf:FR I fr b a)(hi:kE I k rM)(hw:WR I bs H w)(hu:lG I fr.up cs)(fw:xZ w w':=by exact⟨rfl,rfl,rfl⟩):
 lF P m bs I H w fr (b.atR a todo) cs (to fr H k):=by
 have⟨fn,tmps,nt,td,defers,mode,up,round⟩:=fr;exact Fx hs ⟨hf.fn,hf.tr,hf.dr,hf.kD,hf.lD,hf.qX⟩ dP hi (hw.sM yE) (cz.ka _ _ _) (cM.sM yE fw) rfl rfl hu
theorem kE.ZO{x xs ys}(h:kE I (x::xs) ys):∃y uh,ys=y::uh/\IR I x y/\kE I xs uh:=h
theorem anm:∀{k ys id},kE I k ys->match Ih id k with|some k'=>∃uh,exitTo id ys=some uh/\kE I k' uh|none=>exitTo id ys=none
 |[],ys,id,h=>by cases h;rfl
 |x::k,ys,id,h=>by
  obtain⟨y,uh,rfl,h1,h2⟩:=h;have ih:=anm (id:=id) h2;cases x with
  |xO ij=>
   cases h1;simp only[Ih,exitTo]
   grind
  |gP c=>cases h1;exact ih
  |sY c=>cases h1;exact ih
  |wo c=>cases h1;exact ih
  |Hp l=>obtain⟨e,_,rfl⟩:=h1;exact ih
  |Ez l=>obtain⟨e,_,rfl⟩:=h1;exact ih
  |Cz=>cases h1;exact ih
  |gW ops i l=>obtain⟨rfl,_⟩:=h1;exact ih
theorem an9:∀{k ys l},kE I k ys->match LY l k with|some k'=>∃uh,gotoIn l ys=some uh/\kE I k' uh|none=>gotoIn l ys=none
 |[],ys,id,h=>by cases h;rfl
 |x::k,ys,id,h=>by
  obtain⟨y,uh,rfl,h1,h2⟩:=h;have ih:=an9 (l:=id) h2;cases x with
  |wo c=>
   cases h1;simp only[LY,gotoIn];cases hl:findLabel c id with
   |some rest=>exact⟨_,rfl,_,_,rfl,rfl,_,_,rfl,rfl,h2⟩
   |none=>exact ih
  |gP c=>cases h1;exact ih
  |sY c=>cases h1;exact ih
  |xO c=>cases h1;exact ih
  |Hp l=>obtain⟨e,_,rfl⟩:=h1;exact ih
  |Ez l=>obtain⟨e,_,rfl⟩:=h1;exact ih
  |Cz=>cases h1;exact ih
  |gW ops i l=>obtain⟨rfl,_⟩:=h1;exact ih
theorem WR.loop(hw:WR I bs H w){l d st kv p p' fn tmps nt ps x y e}(he:I l=some e)(ho:H.aR l=some (.gX st p fn tmps nt ps x y d)):
 ∃r:Loop,w.heap[e.b]? =some (.loop r)/\r.state=st/\r.pending=p/\WR I bs (H.cE l (.gX kv p' fn tmps nt ps x y d)) (w.putObj e.b (.loop {r with state:=kv,pending:=p'}))/\cM bs w (w.putObj e.b (.loop {r with state:=kv,pending:=p'})):=by
 obtain⟨o,hg,qG,ed,rfl,hd,ht⟩:=hw.ey l _ e ho he;have ae:=(hw.lt l e he).1;refine⟨_,hg,rfl,rfl,?_,?_⟩
 .exact hw.put ho rfl he World.putObj_size (λb hb=>World.putObj_heap_other hb) ⟨_,World.putObj_heap_same ae,qG,ed,rfl,hd,ht⟩
 .exact cM.RS hw he World.putObj_size (λb hb=>World.putObj_heap_other hb)
theorem XS(dP:fr.nI=.gI)(hf:FR I fr b a)(hw:WR I bs H w)(hu:lG I fr.up cs){qs}(h1:b.roundOf=none->(qs=none\/qs=some .ret)->step P (lone (b.atR a todo) cs w)=.next (lone {b.atR a todo with mode:=.returning} cs w))(h2:∀l c cs' v w',cs=c::cs'->b.roundOf=some l->b.kind=.normal->(Instr.endRound l qs).run P w=.ok v w'->step P (lone (b.atR a todo) (c::cs') w)=.next (lone (c.finish v) cs' w')):
 lF P m bs I H w fr (b.atR a todo) cs (xh fr H qs):=by
 have⟨fn,tmps,nt,td,defers,mode,up,round⟩:=fr;cases dP;cases round with
 |none=>
  have fY:=hf.kD;have key:(qs=none\/qs=some .ret)->lF P m bs I H w ⟨fn,tmps,nt,td,defers,.gI,up,none⟩ (b.atR a todo) cs (.go ⟨fn,tmps,nt,td,defers,.jR,up,none⟩ H):=by intro hj;refine⟨I,w,{b.atR a todo with mode:=.returning},cs,.one (h1 fY hj),⟨⟨hf.fn,hf.tr,hf.dr,hf.kD,hf.lD,hf.qX⟩,rfl⟩,hu,AK.Kg hu,rfl,rfl,hw,cz.ka _ _ _,cM.kP _ _,rfl⟩
  simp only[xh];split
  .exact key (.inl rfl)
  .exact key (.inr rfl)
  .trivial
 |some l=>
  have⟨e,he,fY⟩:=hf.kD;simp only[xh,aeV];split;next st p lf lt ln ps x y d eW=>
   have yD:up=none:=by
    cases up with
    |none=>rfl
    |some u=>have:=hf.qX rfl;cases this
   subst yD;have fw:(if qs.isNone then LoopState.ready else .done)=(bif qs.isNone then .ready else .done):=by cases qs<;>rfl
   have⟨r,hg,_,_,sA,pL⟩:=hw.loop (kv:=bif qs.isNone then .ready else .done) (p':=qs) he eW;refine⟨I,_,sA,cz.p_ he _,pL,?_⟩;intro c cs' gA;have hr:=run_endRound (P:=P) qs hg;rw[fw]at hr;subst gA;exact⟨_,rfl,.one (h2 e.b c cs' _ _ rfl fY hf.lD hr)⟩
  .trivial
theorem aDY(dP:fr.nI=.gI)(hf:FR I fr b a)(hw:WR I bs H w)(hu:lG I fr.up cs):lF P m bs I H w fr (b.atR a []) cs (xh fr H none):=
 XS dP hf hw hu (λhb _=>stepR_end hb) (λl c cs' v w' _ fY hk hr=>stepR_round_end fY hk hr)
theorem aD1(dP:fr.nI=.gI)(hf:FR I fr b a)(hw:WR I bs H w)(hu:lG I fr.up cs){k}:lF P m bs I H w fr (b.atR a (.code .ret::k)) cs (xh fr H (some .ret)):=
 XS dP hf hw hu (λhb _=>stepR_ret hb) (λl c cs' v w' _ fY hk hr=>stepR_round_ret fY hk hr)
theorem aDZ(dP:fr.nI=.gI)(hf:FR I fr b a)(hw:WR I bs H w)(hu:lG I fr.up cs){k id}(hx:exitTo id k=none):lF P m bs I H w fr (b.atR a (.code (.exit id)::k)) cs (xh fr H (some (.exit id))):=
 XS dP hf hw hu (λ_ h=>by grind) (λl c cs' v w' _ fY hk hr=>stepR_round_exit fY hk hx hr)
theorem aD0(dP:fr.nI=.gI)(hf:FR I fr b a)(hw:WR I bs H w)(hu:lG I fr.up cs){k id}(hx:gotoIn id k=none):lF P m bs I H w fr (b.atR a (.code (.goto id)::k)) cs (xh fr H (some (.goto id))):=
 XS dP hf hw hu (λ_ h=>by grind) (λl c cs' v w' _ fY hk hr=>stepR_round_goto fY hk hx hr)
theorem ayb(dP:fr.nI=.gI)(hf:FR I fr b a)(hw:WR I bs H w)(hu:lG I fr.up cs){k ks}(hi:kE I k ks):lF P m bs I H w fr (b.atR a (.beginRound::ks)) cs (Zt fr H k):=by
 have⟨fn,tmps,nt,td,defers,mode,up,round⟩:=fr;cases dP;cases round with
 |none=>trivial
 |some l=>
  have⟨e,he,fY⟩:=hf.kD;simp only[Zt];split;next p lf lt ln ps x y d eW=>
   have⟨r,hg,fw,hp,sA,pL⟩:=hw.loop (kv:=.busy) (p':=p) he eW;have hr:=run_beginRound (P:=P) hg fw;have e2:({r with state:=.busy,pending:=p}:Loop)={r with state:=.busy}:=by rw[<-hp]
   rw[e2]at sA pL;exact Fx (.one (stepR_beginRound fY hr)) ⟨hf.fn,hf.tr,hf.dr,hf.kD,hf.lD,hf.qX⟩ rfl hi sA (cz.p_ he _) pL rfl rfl hu
  .trivial
theorem aAr(dP:fr.nI=.gI)(hf:FR I fr b a)(hw:WR I bs H w)(hu:lG I fr.up cs){l e}(he:I l=some e){k ks}(hi:kE I k ks):lF P m bs I H w fr (b.atR a (.endRangeFunc e.b::ks)) cs (Zu fr H l k):=by
 have key:∀(st:LoopState) p lf lt ln ps x y d,H.aR l=some (.gX st p lf lt ln ps x y d)->st≠.busy->lF P m bs I H w fr (b.atR a (.endRangeFunc e.b::ks)) cs (to fr (H.cE l (.gX .exhausted p lf lt ln ps x y d)) (YT p k)):=by
  intro st p lf lt ln ps x y d eW fw;have⟨r,hg,aCU,hp,sA,pL⟩:=hw.loop (kv:=.exhausted) (p':=p) he eW;have hr:=run_endLoop (P:=P) hg (by rw[aCU];exact fw);rw[hp]at hr;have⟨fn,tmps,nt,td,defers,mode,up,round⟩:=fr;cases dP;refine Fx (.one (stepR_endRangeFunc hr)) ⟨hf.fn,hf.tr,hf.dr,hf.kD,hf.lD,hf.qX⟩ rfl ?_ sA (cz.p_ he _) pL rfl rfl hu;cases p with
  |none=>exact hi
  |some c=>exact⟨_,_,rfl,rfl,hi⟩
 unfold Zu;split;next eW=>grind
 next eW=>grind
 .trivial
end
section
variable{P:Program}{call:uo}{bs:fM}{m:Nat}{H H':AH}{I aK:bZ}{w w':World}{fr fr':gw}{b:Frame}{a a':Act}{todo rM:List Item}{cs:List Frame}
theorem RV{o v v' auv}(dP:fr.nI=.gI)(hs:Steps P (lone (b.atR a todo) cs w) (lone (b.atR (a.put o.dst v') rM) cs w'))(hf:FR aK fr b a)(hv:VR aK v v')(hi:kE aK auv rM)(hw:WR aK bs H' w')(he:cz m I H aK H')(hk:cM bs w w')(hu:lG I fr.up cs):lF P m bs I H w fr (b.atR a todo) cs (tS fr o auv v H'):=by
 have⟨fn,tmps,nt,td,defers,mode,up,round⟩:=fr;cases dP;simp only[tS];split;next t l6=>exact Fx hs ⟨hf.fn,TR.put hf.tr l6 hv,by rw[Gn];exact hf.dr,hf.kD,hf.lD,hf.qX⟩ rfl hi hw he hk rfl rfl hu
 .trivial
theorem af9{c c'}(dP:fr.nI=.gI)(hs:Steps P (lone (b.atR a todo) cs w) (lone ((b.atR a' rM).raise c') cs w'))(hd:a'.defers=a.defers){t}(ht:TR aK t fr.nt a'.tmps){k}(hf:FR I fr b a)(hc:CR aK c c')(hw:WR aK bs H' w')(he:cz m I H aK H')(hk:cM bs w w')(hu:lG I fr.up cs):lF P m bs I H w fr (b.atR a todo) cs (.go ⟨fr.fn,t,fr.nt,k,fr.TH,Ae fr.nI c,fr.up,fr.rT⟩ H'):=by have⟨fn,tmps,nt,td,defers,mode,up,round⟩:=fr;cases dP;have W5:=hf.CB he.1;refine⟨aK,w',(b.atR a' rM).raise c',cs,hs,⟨⟨hf.fn,ht,?_,W5.kD,hf.lD,hf.qX⟩,⟨c',rfl,hc⟩⟩,hu.mono he.1,AK.Kg hu,rfl,rfl,hw,he,hk,rfl⟩;show qV aK defers a'.defers;rw[hd];exact W5.dr
theorem atp{ops:Array Oper}{i o rest}(h:o::rest=ops.toList.drop i):ops[i]? =some o/\rest=ops.toList.drop (i+1):=by
 constructor
 .have:(ops.toList.drop i)[0]? =some o:=by rw[<-h];rfl
  grind
 .have:(ops.toList.drop i).drop 1=rest:=by rw[<-h];rfl
  simp_all
theorem aum{ops k i rest o}(ho:ops[i]? =some o)(hw:Region.wanted o (yielded ops a.tmps)=true)(hb:b.roundOf=none)(hr:(o.semAt b.roundOf a.eval).run P w=.ok .recover w'):
 step P (lone (b.atR a (.inRegion ops (i::rest)::k)) cs w)=match tryRecover (b.atR a (.inRegion ops (i::rest)::k)) cs with
  |some (v,cs')=>.next (lone (b.atR (a.put o.dst v) (.inRegion ops rest::k)) cs' w')
  |none=>.next (lone (b.atR (a.put o.dst .nilIface) (.inRegion ops rest::k)) cs w'):=by
 have hg:=stepGR_op (P:=P) (b:=b) (k:=k) (cs:=cs) (w:=w) (rest:=rest) ho hw;have fY:(b.atR a (.inRegion ops (i::rest)::k)).roundOf=none:=hb;cases ht:tryRecover (b.atR a (.inRegion ops (i::rest)::k)) cs with
 |none=>refine step_lone_go ?_;rw[hg,<-LJ ho];simp[stepG.apply,hr,fY,ht]
 |some r=>have⟨v,cs'⟩:=r;refine step_lone_go ?_;rw[hg,<-LJ ho];simp[stepG.apply,hr,fY,ht]
theorem aJt(hc:nJ P call)(dP:fr.nI=.gI)(hf:FR I fr b a)(hw:WR I bs H w)(hb:gY bs w)(hm:m<=H.br)(hu:lG I fr.up cs){ops i o rest k ks}(IB:o::rest=ops.toList.drop i)(hi:kE I k ks):lF P m bs I H w fr (b.atR a (.inRegion ops (List.range' i (rest.length+1))::ks)) cs (BV P call fr H ops i o rest k):=by
 obtain⟨ho,aed⟩:=atp IB;rw[List.range'_succ];have w_:=hf.tr;have Ds:∀{E:bZ},dp I E->kE E (.gW ops (Nat.succ i) rest::k) (.inRegion ops (List.range' (i+1) rest.length)::ks):=λh=>⟨_,_,rfl,⟨rfl,aed⟩,hi.OI h⟩
 have wZ:oN I (iC fr.Cy) a.eval o.op.operands.toList:=TR.xD w_ _;obtain⟨fn,tmps,nt,td,defers,mode,up,round⟩:=fr;cases dP;simp only at w_ wZ;simp only[BV];cases sB:n_ ops o tmps.bL with
 |none=>trivial
 |some bb=>
  simp only;have qn:Region.wanted o (yielded ops a.tmps)=bb:=ahp (cur:=tmps) sB λg rO d x _ _ hx=>w_.2 d x hx
  cases bb with
  |false=>simp only[cond_false];refine RV (v':=undef) rfl (.one ?_) hf (NF I) (Ds (dp.refl I)) hw (cz.ka _ _ _) (cM.kP _ _) hu;have:=stepR_op_skip (P:=P) (b:=b) (a:=a) (k:=ks) (cs:=cs) (w:=w) (ops:=ops) (i:=i) (rest:=List.range' (i+1) rest.length) (by simp[ho,qn]);simpa[ho]using this
  |true=>
   simp only[cond_true];cases hr:qp o.op with
   |true=>
    simp only[cond_true];cases hv:gh P (iC tmps) H o.op with
    |none=>trivial
    |some v=>obtain⟨v',h1,h2⟩:=asx hw wZ hv;simp only[agE];exact RV rfl (.one (Nt ho qn (.inl (by rw[BR _ _ (asw hr)];exact h1)))) hf h2 (Ds (dp.refl I)) hw (cz.ka _ _ _) (cM.kP _ _) hu
   |false=>
    simp only[cond_false];cases yy:uD o.op with
    |true=>
     simp only[cond_true];cases yx:sD P (iC tmps) o.op with
     |none=>trivial
     |some r=>obtain⟨ob,g⟩:=r;obtain⟨hh,n⟩:=H;obtain⟨o',sz,f,h1,h2,h3,h4⟩:=aqQ wZ yx;obtain⟨g1,g2,g3⟩:=hw.BD hb h2 hm;simp only[agD];exact RV rfl (.one (Nt ho qn (.inl (by rw[BR _ _ (aqP yx)];exact h1 w)))) (hf.CB g2.1) (h3 _ n _ (nN ..)) (Ds g2.1) g1 g2 g3 hu
    |false=>
     simp only[cond_false];cases eC:ot P (iC tmps) H o.op with
     |none=>trivial
     |some aD=>
      have IN:=aoM hw hb hm wZ eC;have aCt:∀r,lI P call H none aD=some r->lF P m bs I H w ⟨fn,tmps,nt,td,defers,.gI,up,round⟩ (b.atR a (.inRegion ops (i::List.range' (i+1) rest.length)::ks)) cs
       (BT ⟨fn,tmps,nt,td,defers,.gI,up,round⟩ o (.gW ops (Nat.succ i) rest::k) (some r)):=by
       intro r kg;have kf:∀c,o.op≠.defer c:=by
        intro cc gL;rw[gL]at eC;simp only[ot,L6]at eC;split at eC
        .split at eC;next fn first mw l _ _=>
          cases hy:yJ fn with
          |true=>rw[hy]at eC;cases eC
          |false=>rw[hy]at eC;cases eC;simp[lI]at kg
         .cases eC
        .cases eC
       have⟨aK,w',g1,g2,g3,g4⟩:=arW hc b ops ks cs a i (List.range' (i+1) rest.length) o I H w m aD r hm hb ho qn hw (BR _ _ kf) IN kg;have⟨e,NG,H1⟩:=r;cases e with
       |gJ v=>have⟨v',hv,tC⟩:=g4;rw[LJ ho]at tC;exact RV rfl tC (hf.CB g2.1) hv (Ds g2.1) g1 g2 g3 hu
       |dI c=>have⟨c',FH,tC⟩:=g4;exact af9 rfl tC rfl (w_.mono g2.1) hf FH g1 g2 g3 hu
      have kg:lF P m bs I H w ⟨fn,tmps,nt,td,defers,.gI,up,round⟩ (b.atR a (.inRegion ops (i::List.range' (i+1) rest.length)::ks)) cs
       (BT ⟨fn,tmps,nt,td,defers,.gI,up,round⟩ o (.gW ops (Nat.succ i) rest::k) (lI P call H none aD)):=by
       cases hd:lI P call H none aD with
       |none=>trivial
       |some r=>exact aCt r hd
      cases aD with
      |gQ v H1=>exact kg
      |rW f args=>exact kg
      |xR l args=>exact kg
      |zh d=>
       simp only[Ak,atn];split;next e=>
        cases e;split;next t l6=>have⟨d',h1,h2⟩:=IN;have fY:=hf.kD;refine Fx (.one (aMT ho qn (by rw[fY];exact h1))) ⟨hf.fn,TR.put w_ l6 (NF I),?_,hf.kD,hf.lD,hf.qX⟩ rfl (Ds (dp.refl I)) hw (cz.ka _ _ _) (cM.kP _ _) rfl rfl hu;rw[Gn];exact⟨d',a.defers,rfl,h2,hf.dr⟩
        .trivial
       .trivial
      |xQ v=>
       have⟨v',h1,h2⟩:=IN;have kf:∀c,o.op≠.defer c:=by
        intro cc gL;rw[gL]at eC;simp only[ot,L6]at eC;split at eC
        .split at eC;next fn first mw l _ _=>
          cases hy:yJ fn with
          |true=>rw[hy]at eC;cases eC
          |false=>rw[hy]at eC;cases eC
         .cases eC
        .cases eC
       exact af9 rfl (.one (aMV ho qn (by rw[BR _ _ kf];exact h1))) rfl w_ hf ⟨v',[],rfl,h2,rfl⟩ hw (cz.ka _ _ _) (cM.kP _ _) hu
      |zi=>
       have kf:∀c,o.op≠.defer c:=by
        intro cc gL;rw[gL]at eC;simp only[ot,L6]at eC;split at eC
        .split at eC;next fn first mw l _ _=>
          cases hy:yJ fn with
          |true=>rw[hy]at eC;cases eC
          |false=>rw[hy]at eC;cases eC
         .cases eC
        .cases eC
       simp only[Ak,ato];have Xh:∀(fY:round=none),(∀v M9,up≠some (.mj ((v,false)::M9)))->∀t,pZ nt tmps o.dst .ml=some t->
        lF P m bs I H w ⟨fn,tmps,nt,td,defers,.gI,up,round⟩ (b.atR a (.inRegion ops (i::List.range' (i+1) rest.length)::ks)) cs (.go ⟨fn,t,nt,.gW ops (Nat.succ i) rest::k,defers,.gI,up,round⟩ H):=by
        intro fY ov t l6;subst fY;have kW:=aum (k:=ks) (cs:=cs) (rest:=List.range' (i+1) rest.length) ho qn hf.kD (by rw[BR _ _ kf];exact IN);have aei:tryRecover (b.atR a (.inRegion ops (i::List.range' (i+1) rest.length)::ks)) cs=none:=by
         cases up with
         |none=>have hk:=hf.lD;unfold tryRecover;rw[show(b.atR a (.inRegion ops (i::List.range' (i+1) rest.length)::ks)).kind=b.kind from rfl,hk]
         |some u=>
          obtain⟨c,cs',rfl,yz⟩:=hu;have hk:=hf.lD;unfold tryRecover;rw[show(b.atR a (.inRegion ops (i::List.range' (i+1) rest.length)::ks)).kind=b.kind from rfl,hk];simp only;cases u with
          |gI=>rw[yz]
          |jR=>rw[yz]
          |mj ch=>
           have⟨wD,e1,QH⟩:=yz;rw[e1];cases ch with
           |nil=>simp only[CR]at QH;subst QH;rfl
           |cons x ch=>
            have⟨v,rec⟩:=x;obtain⟨v',l',rfl,_,_⟩:=QH;cases rec with
            |false=>exact(ov v ch rfl).elim
            |true=>rfl
        rw[aei]at kW;exact Fx (.one kW) ⟨hf.fn,TR.put w_ l6 (show VR I .ml .nilIface from rfl),by rw[Gn];exact hf.dr,hf.kD,hf.lD,hf.qX⟩ rfl (Ds (dp.refl I)) hw (cz.ka _ _ _) (cM.kP _ _) rfl rfl hu
       split;next v M9 e=>
        cases e;split;next t l6=>
         have kW:=aum (k:=ks) (cs:=cs) (rest:=List.range' (i+1) rest.length) ho qn hf.kD (by rw[BR _ _ kf];exact IN);obtain⟨c,cs',rfl,wD,e1,QH⟩:=hu;obtain⟨v',l',rfl,hv,hl⟩:=QH;have hk:=hf.lD;have aei:tryRecover (b.atR a (.inRegion ops (i::List.range' (i+1) rest.length)::ks)) (c::cs')=some (v',{c with mode:=.panicking ({v:=v',recovered:=true}::l')}::cs'):=by unfold tryRecover;rw[show(b.atR a (.inRegion ops (i::List.range' (i+1) rest.length)::ks)).kind=b.kind from rfl,hk];simp only[e1]
         rw[aei]at kW;refine⟨I,w,_,_,.one kW,⟨b,_,_,rfl,⟨hf.fn,TR.put w_ l6 hv,by rw[Gn];exact hf.dr,hf.kD,hf.lD,hf.qX⟩,Ds (dp.refl I)⟩,⟨_,_,rfl,_,rfl,v',l',rfl,hv,hl⟩,⟨c,cs',_,rfl,rfl⟩,rfl,rfl,hw,cz.ka _ _ _,cM.kP _ _,rfl⟩
        .trivial
       next ov e=>
        cases e;split;next t l6=>exact Xh rfl (λv M9 hh=>ov v M9 hh) t l6
        .trivial
       .trivial
end
section
variable{P:Program}{call:uo}{bs:fM}{m:Nat}{H H':AH}{I aK:bZ}{w w':World}{fr fr':gw}{b:Frame}{a a':Act}{todo rM:List Item}{cs:List Frame}
theorem aMO{c k}:step P (lone (b.atR a (.code (.scope c)::k)) cs w)=.next (lone (b.atR a (.code c::.inScope c::k)) cs w):=
 step_lone_go (by simp[stepG,stepG.exec,Frame.atR])
theorem aMN{c k}:step P (lone (b.atR a (.inScope c::k)) cs w)=.next (lone (b.atR a k) cs w):=
 step_lone_go (by simp[stepG,stepG.exec,Frame.atR])
theorem aF0(cJ:P.follows .mixedOrders=true)(hc:nJ P call)(dP:fr.nI=.gI)(hf:FR I fr b a)(hw:WR I bs H w)(hb:gY bs w)(hm:m<=H.br)(hu:lG I fr.up cs){id ops te k ks}(hi:kE I k ks):lF P m bs I H w fr (b.atR a (.code (.region id ops te)::ks)) cs (SI P call fr H ops te k):=by
 cases te with
 |false=>refine v8 dP (.one stepR_region) rfl hf ⟨_,_,rfl,⟨?_,rfl⟩,hi⟩ hw hu;rw[Array.length_toList,List.range_eq_range']
 |true=>
  have⟨fn,tmps,nt,td,defers,mode,up,round⟩:=fr;cases dP;simp only[SI,cond_true];cases kL:Nd ops with
  |none=>trivial
  |some pl=>
   simp only;have yE:WR I bs H {w with drawn:=w.drawn+1}:=hw.sM rfl;have h0:=stepR_region_draw (P:=P) (b:=b) (a:=a) (k:=ks) (cs:=cs) (w:=w) (ops:=ops) (id:=id);have aea:=aFh kL cJ (arW hc b ops ks cs) (w.tape w.drawn (.order b.fn id)) yE hb hm hf.tr;have Bp:cM bs w {w with drawn:=w.drawn+1}:=cM.sM rfl;generalize vO P call ops pl.ms tmps nt pl.Hu [] tmps H=r at aea;cases r with
   |eO s=>trivial
   |aC t H1=>have⟨kC,w1,a1,g1,g2,g3,g4,g5,g6⟩:=aea;have rr:=hf.CB g5.1;exact Fx (.head h0 (g1.trans (.one stepR_region_end))) ⟨hf.fn,g3,by rw[g2];exact rr.dr,rr.kD,hf.lD,hf.qX⟩ rfl (hi.OI g5.1) g4 g5 (Bp.um g6) rfl rfl hu
   |dI c H1=>have⟨kC,w1,a1,cl1,c1,g1,g2,g3,g4,g5,g6,g7⟩:=aea;exact af9 rfl (.head h0 g1) g2 g3 hf g7 g4 g5 (Bp.um g6) hu
theorem qV.aiG:∀{as ds sa tf},qV I as ds->qV I sa tf->qV I (as++sa) (ds++tf)
 |[],ds,sa,tf,h,h'=>by cases h;exact h'
 |x::as,ds,sa,tf,h,h'=>by obtain⟨d,ds1,rfl,h1,h2⟩:=h;exact⟨d,ds1++tf,rfl,h1,qV.aiG h2 h'⟩
theorem ass(hc:nJ P call)(dP:fr.nI=.gI)(hf:FR I fr b a)(hu:lG I fr.up cs){f params assign body k ks}(hi:kE I k ks){kC h n xx w1 d ed mark afl}(l8:WR kC bs ⟨h,n,xx⟩ w1)(he1:cz m I H kC ⟨h,n,xx⟩)(sw:cM bs w w1)(ke:gY bs w1)(hm1:m<=n)(hd:kC d=some ed)(aCD:qV kC mark afl)(QL:(Instr.enterLoop b.fn a.tmps params assign body b.roundOf).run P w=.ok (w1.heap.size,afl) (w1.alloc (.loop {state:=.ready,pending:=none,fn:=b.fn,tmps:=a.tmps,params,assign,body,defers:=ed.b}))):
 lF P m bs I H w fr (b.atR a (.code (.rangeFunc f params assign body)::ks)) cs (VU P call fr f params assign body k (some (d,mark,⟨h,n,xx⟩))):=by
 have⟨fn,tmps,nt,td,defers,mode,up,round⟩:=fr;cases dP;simp only[VU];have rr:=hf.CB he1.1;have jY:=hf.fn;have⟨g1,g2,g3⟩:=l8.BD (n:=0) (ob:=.gX .ready none fn tmps nt params.toList assign body d) (o':=.loop {state:=.ready,pending:=none,fn:=b.fn,tmps:=a.tmps,params,assign,body,defers:=ed.b}) ke
  (λE bb hI=>⟨a.tmps,ed,by simp[jY],hI _ _ hd,rr.tr.mono hI⟩) hm1
 have ql:=rr.CB g2.1;have zE:=he1.wq g2;have aCF:(AH.mk h n xx).br=n:=rfl;rw[aCF]at g1 g2 ql zE;have hyv:VR (jU kC n ⟨w1.heap.size,0,0⟩) (.ib n) (.func (.yield w1.heap.size) #[] #[]):=⟨_,nN ..,rfl⟩;cases hr:(iC tmps f).bind λg=>(P_ (AW P g [.ib n])).bind (lI P call (AH.eH ⟨h,n,xx⟩ (.gX .ready none fn tmps nt params.toList assign body d)) none)with
 |none=>trivial
 |some r=>
  cases hg:iC tmps f with
  |none=>rw[hg]at hr;cases hr
  |some g=>
   rw[hg]at hr;simp at hr;cases wR:AW P g [.ib n]with
   |none=>rw[wR]at hr;cases hr
   |some aD=>
    rw[wR]at hr;have hgv:=TR.xD ql.tr [f] f (by simp) g hg;have gA:=(Vh (m:=m) (base:=bs) (H:=AH.eH ⟨h,n,xx⟩ (.gX .ready none fn tmps nt params.toList assign body d)) wR hgv ⟨_,_,rfl,hyv,rfl⟩).1
     (w1.alloc (.loop {state:=.ready,pending:=none,fn:=b.fn,tmps:=a.tmps,params,assign,body,defers:=ed.b}))
    cases aD with
    |rW g' args=>
     have⟨args',h1,h2⟩:=gA;rw[Sem.run_bind]at h1;cases hdv:(Deferred.ofValue (a.eval f) #[.func (.yield w1.heap.size) #[] #[]]).run P (w1.alloc (.loop {state:=.ready,pending:=none,fn:=b.fn,tmps:=a.tmps,params,assign,body,defers:=ed.b}))with
     |halt x w2=>rw[hdv]at h1;cases h1
     |ok d2 w2=>
      rw[hdv]at h1;simp at h1;have kW:=stepR_rangeFunc (k:=ks) (cs:=cs) QL (by have hk:a.eval (.const (.func (.yield w1.heap.size) #[] #[]))=.func (.yield w1.heap.size) #[] #[]:=rfl;simpa[resolve,rangeCall,hk]using hdv) h1;have hrk:=adf (cs:=b.atR {a with defers:=afl++a.defers} (.inRangeFunc w1.heap.size::ks)::cs) hc hr h2 g1 (ke.Hr g3.1) (lz hm1 g2.2.1) trivial rfl;have⟨D3,w3,q1,q2,q3,q4⟩:=agy hrk (.one kW) (sw.um g3);have QM:=ql.CB q2.1;have IC:=zE.wq q2;have hn3:=q2.1 _ _ (nN ..);have ao5:=((aCD.Kh g2.1).Kh q2.1).aiG QM.dr;have⟨e,NG,H3⟩:=r;cases e with
      |gJ v=>have⟨v',hv,tC⟩:=q4;rw[finish_atR_inRangeFunc]at tC;exact Fx tC ⟨hf.fn,QM.tr,ao5,QM.kD,hf.lD,hf.qX⟩ rfl ⟨_,_,rfl,⟨_,hn3,rfl⟩,hi.OI IC.1⟩ q1 IC q3 rfl rfl hu
      |dI c=>have⟨c',FH,tC⟩:=q4;exact⟨D3,w3,_,cs,tC,⟨⟨hf.fn,QM.tr,ao5,QM.kD,hf.lD,hf.qX⟩,⟨c',rfl,FH⟩⟩,hu.mono IC.1,AK.Kg hu,rfl,rfl,q1,IC,q3,rfl⟩
    |_=>cases hr
theorem aFK(hc:nJ P call)(dP:fr.nI=.gI)(hf:FR I fr b a)(hw:WR I bs H w)(hb:gY bs w)(hm:m<=H.br)(hu:lG I fr.up cs){f params assign body k ks}(hi:kE I k ks):lF P m bs I H w fr (b.atR a (.code (.rangeFunc f params assign body)::ks)) cs (Zw P call fr H f params assign body k):=by
 have⟨fn,tmps,nt,td,defers,mode,up,round⟩:=fr;cases dP;simp only[Zw];cases round with
 |none=>have⟨h,n,xx⟩:=H;have⟨g1,g2,g3⟩:=hw.BD (n:=0) (ob:=.qR (some [])) hb (λE bb hI=>⟨[],rfl,rfl⟩) hm;have fY:=hf.kD;have QL:=run_enterLoop_outer (P:=P) (w:=w) b.fn a.tmps params assign body;rw[<-fY]at QL;have ca:(w.alloc (.deferred (some []))).heap.size=w.heap.size+1:=ab1 _ _;rw[<-ca]at QL;exact ass hc rfl hf hu hi g1 g2 g3 (hb.Hr g3.1) (lz hm g2.2.1) (nN ..) ⟨_,_,rfl,⟨_,nN ..,rfl⟩,rfl⟩ QL
 |some l=>
  have⟨e,he,fY⟩:=hf.kD;simp only[ae5];cases eW:H.aR l with
  |none=>trivial
  |some ob=>
   cases ob with
   |gX st p lf lt ln ps x y d=>obtain⟨o,hg,qG,ed,rfl,hd,ht⟩:=hw.ey l _ e eW he;have⟨h,n,xx⟩:=H;refine ass hc rfl hf hu hi hw (cz.ka _ _ _) (cM.kP _ _) hb hm hd rfl ?_;rw[fY];unfold Instr.enterLoop;simp only[Sem.run_bind,run_getLoop hg,run_newObj_alloc,Result.andThen,Sem.run_pure]
   |_=>trivial
theorem ay5(cJ:P.follows .mixedOrders=true)(hc:nJ P call)(dP:fr.nI=.gI)(hf:FR I fr b a)(hw:WR I bs H w)(hb:gY bs w)(hm:m<=H.br)(hu:lG I fr.up cs){c k ks}(hi:kE I k ks):lF P m bs I H w fr (b.atR a (.code c::ks)) cs (Ao P call fr H k c):=by
 cases c with
 |ret=>exact aD1 dP hf hw hu
 |skip=>exact v8 dP (.one stepR_skip) rfl hf hi hw hu
 |label l=>exact v8 dP (.one stepR_label) rfl hf hi hw hu
 |seq x y=>exact v8 dP (.one stepR_seq) rfl hf ⟨_,_,rfl,rfl,_,_,rfl,rfl,hi⟩ hw hu
 |cond c ZQ VC=>
  simp only[Ao];cases hv:iC fr.Cy c with
  |none=>trivial
  |some v=>
   cases v with
   |ai t=>have:=TR.xD hf.tr [c] c (by simp) _ hv;refine v8 dP (.one (stepR_cond this)) rfl hf ⟨_,_,rfl,?_,hi⟩ hw hu;cases t<;>rfl
   |_=>trivial
 |block id body=>exact v8 dP (.one stepR_block) rfl hf ⟨_,_,rfl,rfl,_,_,rfl,rfl,hi⟩ hw hu
 |loop body=>exact v8 dP (.one stepR_loop) rfl hf ⟨_,_,rfl,rfl,_,_,rfl,rfl,hi⟩ hw hu
 |scope body=>exact v8 dP (.one aMO) rfl hf ⟨_,_,rfl,rfl,_,_,rfl,rfl,hi⟩ hw hu
 |exit id=>
  have:=anm (id:=id) hi;simp only[Ao];cases hx:Ih id k with
  |none=>rw[hx]at this;exact aDZ dP hf hw hu this
  |some k'=>rw[hx]at this;have⟨uh,h1,h2⟩:=this;exact v8 dP (.one (stepR_exit h1)) rfl hf h2 hw hu
 |goto l=>
  have:=an9 (l:=l) hi;simp only[Ao];cases hx:LY l k with
  |none=>rw[hx]at this;exact aD0 dP hf hw hu this
  |some k'=>rw[hx]at this;have⟨uh,h1,h2⟩:=this;exact v8 dP (.one (stepR_goto h1)) rfl hf h2 hw hu
 |region id ops te=>exact aF0 cJ hc dP hf hw hb hm hu hi
 |rangeFunc f params assign body=>exact aFK hc dP hf hw hb hm hu hi
 |refuse why=>trivial
theorem aMP(cJ:P.follows .mixedOrders=true)(hc:nJ P call)(dP:fr.nI=.gI)(hf:FR I fr b a)(hw:WR I bs H w)(hb:gY bs w)(hm:m<=H.br)(hu:lG I fr.up cs)(hi:kE I fr.Ke todo):
 lF P m bs I H w fr (b.atR a todo) cs (sP P call fr H):=by
 have⟨fn,tmps,nt,td,defers,mode,up,round⟩:=fr;cases td with
 |nil=>cases hi;exact aDY dP hf hw hu
 |cons x k=>
  obtain⟨y,ks,rfl,h1,h2⟩:=hi;cases x with
  |gP c=>cases h1;exact ay5 cJ hc dP hf hw hb hm hu h2
  |xO id=>cases h1;exact v8 dP (.one stepR_inBlock) rfl hf h2 hw hu
  |wo c=>cases h1;exact v8 dP (.one aMN) rfl hf h2 hw hu
  |sY c=>cases h1;exact v8 dP (.one stepR_inLoop) rfl hf ⟨_,_,rfl,rfl,_,_,rfl,rfl,h2⟩ hw hu
  |Hp l=>trivial
  |Ez l=>obtain⟨e,he,rfl⟩:=h1;exact aAr dP hf hw hu he h2
  |Cz=>cases h1;exact ayb dP hf hw hu h2
  |gW ops i l=>
   obtain⟨rfl,IB⟩:=h1;cases l with
   |nil=>exact v8 dP (.one stepR_region_end) rfl hf h2 hw hu
   |cons o rest=>exact aJt hc dP hf hw hb hm hu IB h2
end
section
variable{P:Program}{call:uo}{bs:fM}{m:Nat}{H H':AH}{I aK:bZ}{w w':World}{fr fr':gw}{cf:Frame}{cs:List Frame}
def YK(tmps:Array Value):ResultVar->Sem Value
 |.tmp t=>pure (tmps.getD t undef)
 |.cell a t=>do loadVar t (<-asAddr (tmps.getD a undef))
theorem agq{nt t tmps}(hw:WR I bs H w)(ht:TR I t nt tmps):∀l vs,uO P H t l=some vs->∃eA,(l.mapM (YK tmps)).run P w=.ok eA w/\bf I vs eA
 |[],vs,h=>by cases h;exact⟨[],rfl,rfl⟩
 |.tmp i::l,vs,h=>by
  simp only[uO]at h;split at h;next v hv=>
   cases hr:uO P H t l with
   |none=>rw[hr]at h;cases h
   |some Z1=>
    rw[hr]at h;cases h;have⟨eA,h1,h2⟩:=agq hw ht l Z1 hr;have⟨v',h3,h4⟩:=ht.2 i v hv;refine⟨v'::eA,?_,v',eA,rfl,h4,h2⟩;have e:tmps.getD i undef=v':=by rw[Sj,h3];rfl
    rw[List.mapM_cons];simp only[YK,Sem.run_bind,Sem.run_pure,Result.andThen_ok,h1,e]
  .cases h
 |.cell i ty::l,vs,h=>by
  simp only[uO]at h;split at h;next id off hp=>
   split at h;next v hv=>
    cases hr:uO P H t l with
    |none=>rw[hr]at h;cases h
    |some Z1=>
     rw[hr]at h;cases h;have⟨eA,h1,h2⟩:=agq hw ht l Z1 hr;have⟨vp,h3,e,he,h4⟩:=ht.2 i _ hp;have⟨v',h5,h6⟩:=ae2 hw hv he;refine⟨v'::eA,?_,v',eA,rfl,h6,h2⟩;have e1:tmps.getD i undef=.pointer (some ⟨e.b,e.o+off,none⟩):=by rw[Sj,h3,<-h4];rfl
     rw[List.mapM_cons];simp only[YK,Sem.run_bind,e1,asAddr,Sem.run_pure,Result.andThen_ok,h5,h1]
   .cases h
  .cases h
theorem aF5{nt t tmps}(hw:WR I bs H w)(ht:TR I t nt tmps){fn vs}(h:uO P H t fn.results.toList=some vs):∃v',(results fn tmps).run P w=.ok v' w/\VR I (Ee vs) v':=by
 have⟨eA,h1,h2⟩:=agq hw ht _ vs h;have e:results fn tmps=(do let vs<-fn.results.mapM (YK tmps);pure (if h:vs.size=1 then vs[0]else .tuple vs)):=by rfl
 rw[e,Array.mapM_eq_mapM_toList];simp only[map_eq_pure_bind,bind_assoc,pure_bind,Sem.run_bind,h1,Result.andThen_ok,Sem.run_pure];refine⟨_,rfl,?_⟩;cases vs with
 |nil=>subst h2;exact⟨#[],rfl,rfl⟩
 |cons v vs=>
  obtain⟨v',p7,rfl,hv,jd⟩:=h2;cases vs with
  |nil=>subst jd;exact hv
  |cons v2 vs=>obtain⟨v2',vs3,rfl,Xr,aC7⟩:=jd;exact⟨(v'::v2'::vs3).toArray,by simp,v',v2'::vs3,rfl,hv,v2',vs3,rfl,Xr,aC7⟩
theorem CR.arp:∀{c l},CR I c l->l.dropWhile (!·.goexit)=[]
 |[],l,h=>by cases h;rfl
 |(v,r)::c,l,h=>by obtain⟨v',l',rfl,_,h2⟩:=h;simp;exact h2.arp
theorem aJv{u fm}(h:MR I u fm):MR I (ats u) (settle fm):=by
 cases u with
 |gI=>cases h;rfl
 |jR=>cases h;rfl
 |mj c=>
  obtain⟨c',rfl,hc⟩:=h;cases c with
  |nil=>cases hc;exact⟨[],rfl,rfl⟩
  |cons x c=>
   have⟨v,r⟩:=x;obtain⟨v',l',rfl,h1,h2⟩:=hc;cases r with
   |true=>show settle _=_;simp only[settle,h2.arp]
   |false=>exact⟨_,rfl,v',l',rfl,h1,h2⟩
theorem CR.aiF:∀{c l c' l'},CR I c l->CR I c' l'->CR I (c++c') (l++l')
 |[],l,c',l',h,h'=>by cases h;exact h'
 |(v,r)::c,l,c',l',h,h'=>by obtain⟨v',l1,rfl,h1,h2⟩:=h;exact⟨v',l1++l',rfl,h1,CR.aiF h2 h'⟩
theorem aFJ{u fm c c'}(h:MR I u fm)(hc:CR I c c'):MR I (Ae u c) (raised fm c'):=by
 cases u with
 |gI=>cases h;exact⟨c',rfl,hc⟩
 |jR=>cases h;exact⟨c',rfl,hc⟩
 |mj o=>obtain⟨o',rfl,ho⟩:=h;exact⟨_,rfl,hc.aiF ho⟩
theorem wv.aD{fn tmps nt todo rM defers ds mode u up round}(hf:FR I ⟨fn,tmps,nt,todo,defers,mode,up,round⟩ cf ⟨cf.tmps,cf.defers⟩){tf fm}(hd:qV I ds tf)(hm:MR I u fm)(hu:u≠.gI):wv I ⟨fn,tmps,nt,rM,ds,u,up,round⟩ {cf with defers:=tf,mode:=fm}:=by
 have:FR I ⟨fn,tmps,nt,rM,ds,u,up,round⟩ {cf with defers:=tf,mode:=fm} ⟨cf.tmps,tf⟩:=⟨hf.fn,hf.tr,hd,hf.kD,hf.lD,hf.qX⟩;cases u with
 |gI=>exact(hu rfl).elim
 |jR=>exact⟨this,hm⟩
 |mj c=>exact⟨this,hm⟩
theorem aul(hc:nJ P call)(eC:fr.nI≠.gI)(hf:FR I fr cf ⟨cf.tmps,cf.defers⟩)(FP:MR I fr.nI cf.mode)(hw:WR I bs H w)(hb:gY bs w)(hm:m<=H.br)(hu:lG I fr.up cs):
 lF P m bs I H w fr cf cs (GL P call fr H):=by
 have⟨fn,tmps,nt,todo,defers,mode,up,round⟩:=fr;have Bl:cf.mode≠.run:=by
  intro e;cases mode with
  |gI=>exact eC rfl
  |jR=>rw[e]at FP;cases FP
  |mj c=>have⟨c',h1,_⟩:=FP;rw[e]at h1;cases h1
 simp only[GL];cases defers with
 |nil=>
  have FT:=hf.dr;simp only[M_];have aC:∀(e:T8) (e':Ending),ER I e e'->(cf.kind=.normal->cf.leaving P w e')->cf.going P w e'->
   (∀c cs',cs=c::cs'->cf.kind=.normal->match e with|.gJ v=>∃v',VR I v v'/\Steps P (lone cf cs w) (lone (c.finish v') cs' w)|.dI ch=>∃wD,CR I ch wD/\Steps P (lone cf cs w) (lone (c.raise wD) cs' w))->
   xY P m bs I H w cf cs ⟨e,up,H⟩ up round:=by
   intro e e' pJ vA o0 wY;refine⟨I,w,hw,cz.ka _ _ _,cM.kP _ _,?_⟩;cases up with
   |none=>
    have hk:=hf.lD;cases round with
    |none=>exact⟨cf,e',pJ,Steps.refl P _,vA hk,rfl⟩
    |some l=>exact λc cs' h=>wY c cs' h hk
   |some u=>obtain⟨c,cs',rfl,yz⟩:=hu;exact⟨c,cs',u,c.mode,cf,e',rfl,rfl,yz,pJ,Steps.refl P _,hf.lD,o0⟩
  cases mode with
  |gI=>trivial
  |mj ch=>
   cases jY:(P.funcs[fn]?).isSome with
   |false=>trivial
   |true=>simp;have⟨LL,QQ⟩:=qeu.1 jY;have⟨wD,h1,h2⟩:=FP;have QP:=hf.fn;have vA:cf.leaving P w (.panicked wD):=⟨h1,FT,LL,by rw[QP];exact QQ⟩;refine aC (.dI ch) (.panicked wD) ⟨wD,rfl,h2⟩ (λ_=>vA) ⟨h1,FT,LL,by rw[QP];exact QQ⟩ (λc cs' gA _=>?_);subst gA;exact⟨wD,h2,.one (step_leave_panicked vA)⟩
  |jR=>
   cases QQ:P.funcs[fn]? with
   |none=>trivial
   |some LL=>
    simp only;cases hr:uO P H tmps LL.results.toList with
    |none=>trivial
    |some vs=>
     have⟨v',h1,h2⟩:=aF5 hw hf.tr hr;have QP:=hf.fn;have vA:cf.kind=.normal->cf.leaving P w (.returned v'):=λhk=>⟨FP,FT,hk,LL,by rw[QP];exact QQ,h1⟩
     refine aC (.gJ (Ee vs)) (.returned v') ⟨v',rfl,h2⟩ vA ⟨FP,FT,LL,by rw[QP];exact QQ,h1⟩ (λc cs' gA hk=>?_);subst gA;exact⟨v',h2,.one (step_leave_returned (vA hk))⟩
 |cons d ds=>
  have⟨d',tf,ig,hd,hdr⟩:=hf.dr;cases d with
  |pr r=>
   obtain⟨e,he,rfl⟩:=hd;simp only;split;next eW=>
    obtain⟨o,hg,l',rfl,QY⟩:=hw.ey r _ e eW he;subst QY;have ae:=(hw.lt r e he).1;have hk:=run_takeDeferred (P:=P) hg;have kW:=step_collected (cs:=cs) Bl ig rfl hk;refine⟨I,w.putObj e.b (.deferred none),{cf with defers:=tf},cs,.one kW,?_,hu,AK.Kg hu,rfl,rfl,?_,cz.p_ he _,?_,rfl⟩
    .exact wv.aD hf hdr FP eC
    .exact hw.put eW rfl he World.putObj_size (λb hb=>World.putObj_heap_other hb) ⟨_,World.putObj_heap_same ae,rfl⟩
    .exact cM.RS hw he World.putObj_size (λb hb=>World.putObj_heap_other hb)
   .trivial
  |xN f mw args=>
   obtain⟨yd,args',rfl,hy,FG,nS⟩:=hd;simp only;cases wR:AW P (.cw f [] mw) args with
   |none=>trivial
   |some aD=>
    have gA:=(Vh (m:=m) (base:=bs) (H:=H) (vf:=.func f #[] yd) wR ?_ nS).1 w
    .cases aD with
     |rW g l=>
      simp only[P_,sH];cases kg:lI P call H (some mode) (.rW g l)with
      |none=>trivial
      |some r=>
       have⟨aDH,h1,h2⟩:=gA;have tA:(invoke (.fn f yd) args').run P w=.ok (.enter g aDH) w:=by
        have e1:(do let d<-Deferred.ofValue (.func f #[] yd) args';invoke d.target d.args:Sem Next)=invoke (.fn f yd) args':=by simp[Deferred.ofValue]
        rw[<-e1];exact h1
       have kW:=step_defer (cs:=cs) Bl ig rfl tA;have hrk:=adf (cs:={cf with defers:=tf}::cs) hc kg h2 hw hb hm (up:=some mode) ⟨_,_,rfl,FP⟩ rfl;have⟨kC,w1,q1,q2,q3,c,cs',uA,u',HN,e1,gL,yD,yz,pJ,tC,wU,o0⟩:=hrk;cases gL;have⟨ee,upp,H1⟩:=r;subst yD;have rr:=hf.CB q2.1;have aCg:=hdr.Kh q2.1;have ad4:∀(u2:qU) (V8:FrameMode),MR kC u2 V8->step P (lone HN ({ {cf with defers:=tf}with mode:=u'}::cs) w1)=.next (lone { { {cf with defers:=tf}with mode:=u'}with mode:=V8} cs w1)->
        lF P m bs I H w ⟨fn,tmps,nt,todo,.xN f mw args::ds,mode,up,round⟩ cf cs (afR ⟨fn,tmps,nt,todo,.xN f mw args::ds,mode,up,round⟩ ds u2 H1):=by
        intro u2 V8 Q0 fw;have aoU:u2≠.gI->lF P m bs I H w ⟨fn,tmps,nt,todo,.xN f mw args::ds,mode,up,round⟩ cf cs (.go ⟨fn,tmps,nt,todo,ds,u2,up,round⟩ H1):=λcx=>
         ⟨kC,w1,{cf with defers:=tf,mode:=V8},cs,.head kW (tC.trans (.one fw)),wv.aD rr aCg Q0 cx,hu.mono q2.1,AK.Kg hu,rfl,rfl,q1,q2,q3,rfl⟩
        cases u2 with
        |gI=>trivial
        |jR=>exact aoU (by simp)
        |mj cc=>exact aoU (by simp)
       cases ee with
       |gJ v=>obtain⟨v',rfl,hv⟩:=pJ;exact ad4 _ _ (aJv yz) (step_going_returned wU o0)
       |dI ch=>obtain⟨wD,rfl,hv⟩:=pJ;exact ad4 _ _ (aFJ yz hv) (step_going_panicked o0)
     |_=>trivial
    .cases f<;>first
      |exact⟨#[],yd,rfl,hy,rfl,FG⟩
      |(cases hy;done)
end
section
variable{P:Program}
theorem agW(cJ:P.follows .mixedOrders=true){call}(hc:nJ P call)(fr H I w m bs cf cs)(hw:WR I bs H w)(hb:gY bs w)(hm:m<=H.br)(hf:wv I fr cf)(hu:lG I fr.up cs):lF P m bs I H w fr cf cs (kN P call fr H):=by
 have⟨fn,tmps,nt,todo,defers,mode,up,round⟩:=fr;cases mode with
 |gI=>obtain⟨b,a,ML,rfl,h1,h2⟩:=hf;exact aMP cJ hc rfl h1 hw hb hm hu h2
 |jR=>have⟨h1,h2⟩:=hf;exact aul hc (by simp) h1 h2 hw hb hm hu
 |mj c=>have⟨h1,h2⟩:=hf;exact aul hc (by simp) h1 h2 hw hb hm hu
theorem xY.after{m bs I aK H H' w w' cf kI cs mS r up NG round}(hs:Steps P (lone cf cs w) (lone kI mS w'))(gA:AK up cs mS)(yD:NG.isSome=up.isSome)(he:cz m I H aK H')(hk:cM bs w w')(jY:kI.fn=cf.fn)(h:xY P m bs aK H' w' kI mS r NG round):xY P m bs I H w cf cs r up round:=by
 have⟨kC,w1,h1,h2,h3,h4⟩:=h;refine⟨kC,w1,h1,he.wq h2,hk.um h3,?_⟩;cases up with
 |none=>
  cases NG with
  |some u=>cases yD
  |none=>
   have gA:mS=cs:=gA;subst gA;cases round with
   |none=>have⟨c1,e1,g1,g2,g3,g4⟩:=h4;exact⟨c1,e1,g1,hs.trans g2,g3,g4.trans jY⟩
   |some l=>
    intro c cs' gL;have:=h4 c cs' gL;have⟨e,upr,H1⟩:=r;cases e with
    |gJ v=>have⟨v',g1,g2⟩:=this;exact⟨v',g1,hs.trans g2⟩
    |dI ch=>have⟨v',g1,g2⟩:=this;exact⟨v',g1,hs.trans g2⟩
 |some u=>
  cases NG with
  |none=>cases yD
  |some u'=>obtain⟨c,cs',u2,rfl,rfl⟩:=gA;have⟨c1,re,uA,u3,HN,e1,g1,g2,g3,g4,g5,g6,g7⟩:=h4;cases g1;exact⟨c,cs',uA,u3,HN,e1,rfl,g2,g3,g4,hs.trans g5,g6,g7⟩
theorem Zd(cJ:P.follows .mixedOrders=true){K}(hK:Uv P K):∀n,TX P (run P K n)
 |0=>by intro fr H r h;cases h
 |n+1=>by
  intro fr H r h I w m bs cf cs hw hb hm hf hu;have kW:=agW cJ (call:=⟨run P K n,K⟩) ⟨Zd cJ hK n,hK⟩ fr H I w m bs cf cs hw hb hm hf hu;simp only[run]at h;cases hs:kN P ⟨run P K n,K⟩ fr H with
  |eO s=>rw[hs]at h;cases h
  |CC r'=>rw[hs]at h kW;cases h;exact kW
  |go fr' H'=>rw[hs]at h kW;have⟨aK,w',kI,mS,g1,g2,g3,g4,g5,g6,g7,g8,g9,Qe⟩:=kW;have:=Zd cJ hK n fr' H' r h aK w' m bs kI mS g7 (hb.Hr g9.1) (lz hm g8.2.1) g2 g3;rw[g5]at this;exact xY.after g1 g4 g6 g8 g9 Qe this
theorem afA:Uv P RQ:=by intro f args H v H' h;cases h
end
end
end Go.Ev
