/- Part of a proof of AreaGoals. -/
import Derived.Test.YtjgjeokjclpjnaaGreatGA2
import Derived.RangeFuncLeaves
import Derived.RangeFuncRecord
set_option linter.all false
set_option linter.unusedSectionVars false
namespace Go.Ev
noncomputable section
theorem Mr(m i):qe m i=m.testBit i:=by
 rw[Nat.testBit];show Nat.beq ((m>>>i)&&& 1) 1=_;rw[Nat.and_comm 1];have h:(m>>>i)&&& 1=0\/(m>>>i)&&& 1=1:=by rw[Nat.and_one_is_mod];omega
 rcases h with h|h<;>rw[h]<;>rfl
theorem RM(a b i):qe (Nat.lor a b) i=(qe a i||qe b i):=by rw[Mr,Mr,Mr];exact Nat.testBit_or a b i
theorem aiX(j i):qe (Nat.pow 2 j) i=decide (j=i):=by rw[Mr];show(2^j).testBit i=_;rw[Nat.testBit_two_pow]
theorem aiY(i):qe 0 i=false:=by rw[Mr,Nat.zero_testBit]
def kG(ms:LN)(i j:Nat):Prop:=∃m,ms[i]? =some m/\qe m j=true
theorem Jw{ms i j}:(ms[i]?).any (qe · j)=true↔kG ms i j:=by unfold kG;cases h:ms[i]? <;>simp
def tn(ms:LN):LN->LN->Prop
 |_,[]=>True
 |done,i::l=>(∀j,kG ms i j->j∈done)/\i∉done/\tn ms (i::done) l
def qC(ms:LN)(done:LN):Prop:=∀i∈done,∀j,kG ms i j->j∈done
theorem qC.GW{ms done i}(h:qC ms done)(hi:∀j,kG ms i j->j∈done):qC ms (i::done):=by
 intro k hk j hj;rcases dK.1 hk with rfl|hk
 .exact en _ (hi j hj)
 .exact en _ (h k hk j hj)
theorem qC.nil(ms):qC ms []:=by intro i hi;cases hi
theorem tn.S8{ms}:∀{l done i},tn ms done l->i∈l->i∉done
 |[],_,_,_,h=>by cases h
 |x::l,done,i,⟨_,h2,h3⟩,h=>by
  rcases dK.1 h with rfl|h
  .exact h2
  .exact λhd=>h3.S8 h (en _ hd)
def Js(gV:LN)(s:Option Nat)(e:Edge):Option Nat:=
 match s with
 |none=>none
 |some s=>bif Region.binds .any e then(match gV[e.on]? with
   |some n=>some (Nat.lor (Nat.lor s (Nat.pow 2 e.on)) n)
   |none=>none)else some s
theorem akY(gV):∀es:List Edge,es.foldl (Js gV) none=none
 |[]=>rfl
 |e::es=>by simp;exact akY gV es
theorem abn(gV):∀(es:List Edge) (s m),es.foldl (Js gV) (some s)=some m->
 (∀e∈es,Region.binds .any e=true->e.on<gV.length)/\
 (∀j,qe m j=true->qe s j=true\/∃e∈es,Region.binds .any e=true/\(e.on=j\/∃n,gV[e.on]? =some n/\qe n j=true))
 |[],s,m,h=>by cases h;exact⟨(λ_ h=>by cases h),λj hj=>.inl hj⟩
 |e::es,s,m,h=>by
  simp at h;cases hb:Region.binds .any e with
  |false=>
   simp only[Js,hb,cond_false]at h;have⟨h1,h2⟩:=abn gV es s m h;refine⟨λe' iC Mt=>?_,λj hj=>?_⟩
   .rcases dK.1 iC with rfl|iC
    .rw[hb]at Mt;cases Mt
    .exact h1 e' iC Mt
   .rcases h2 j hj with h|⟨e',iC,h⟩
    .exact .inl h
    .exact .inr ⟨e',en _ iC,h⟩
  |true=>
   simp only[Js,hb,cond_true]at h;cases ha:gV[e.on]? with
   |none=>rw[ha]at h;simp only at h;rw[akY]at h;cases h
   |some n=>
    rw[ha]at h;have⟨h1,h2⟩:=abn gV es _ m h;refine⟨λe' iC Mt=>?_,λj hj=>?_⟩
    .rcases dK.1 iC with rfl|iC
     .exact(NW.1 ha).1
     .exact h1 e' iC Mt
    .rcases h2 j hj with h|⟨e',iC,h⟩
     .rw[RM,RM,aiX]at h;simp at h;rcases h with(h|h)|h
      .exact .inl h
      .exact .inr ⟨e,dY ..,hb,.inl h⟩
      .exact .inr ⟨e,dY ..,hb,.inr ⟨n,ha,h⟩⟩
     .exact .inr ⟨e',en _ iC,h⟩
theorem akZ:∀l gV ms,F_ l gV=some ms->
 (∃t,ms=gV++t/\t.length=l.length)/\
 ∀i o,l[i]? =some o->(∀e∈o.after.toList,Region.binds .any e=true->e.on<gV.length+i)/\
  ∀j,kG ms (gV.length+i) j->∃e∈o.after.toList,Region.binds .any e=true/\(e.on=j\/kG ms e.on j)
 |[],gV,ms,h=>by cases h;exact⟨⟨[],by simp,rfl⟩,λi o h=>by simp at h⟩
 |o::l,gV,ms,h=>by
  change (match o.after.toList.foldl (Js gV) (some 0)with|none=>none|some m=>F_ l (gV++[m]))=some ms at h;cases hm:o.after.toList.foldl (Js gV) (some 0)with
  |none=>rw[hm]at h;cases h
  |some m=>
   rw[hm]at h;obtain⟨⟨t,rfl,ht⟩,h2⟩:=akZ l (gV++[m]) ms h;have⟨g1,g2⟩:=abn gV _ 0 m hm;refine⟨⟨m::t,by simp,by simp[ht]⟩,λi o' nO=>?_⟩;cases i with
   |zero=>
    cases nO;refine⟨by simpa using g1,λj hj=>?_⟩;have⟨m',uW,hb⟩:=hj;have:m'=m:=by simp at uW;exact uW.symm
    subst this;rcases g2 j hb with h|⟨e,he,auE,h⟩
    .rw[aiY]at h;cases h
    .refine⟨e,he,auE,h.imp_right ?_⟩;rintro⟨n,hn,CT⟩;have ay:=(NW.1 hn).1;exact⟨n,by rw[km,List.getElem?_append_left ay];exact hn,CT⟩
   |succ i=>
    have:=h2 i o' (by simpa using nO);have he:gV.length+(i+1)=(gV++[m]).length+i:=by simp;omega
    rw[he];exact this
theorem alV:∀{l l':LN},l.Nodup->(∀x∈l,x∈l')->l.length<=l'.length
 |[],_,_,_=>fu _
 |a::l,l',hn,hs=>by
  have⟨h1,h2⟩:=wL.1 hn;have ha:=hs a (dY ..);have:=alV h2 (λx hx=>by
   have cK:x≠a:=λe=>h1 (e▸hx)
   exact(List.mem_erase_of_ne cK).2 (hs x (en _ hx)))
  rw[List.length_erase_of_mem ha]at this;have hp:=List.length_pos_of_mem ha;simp;omega
section
variable{ops:Array Oper}{ms:LN}
def PD(ops:Array Oper)(jD:Array Bool)(done:LN):Prop:=
 jD.size=ops.size/\∀i,i<ops.size->jD[i]? =some (decide (i∈done))
theorem PD.getD{jD done}(h:PD ops jD done){i}(hi:i<ops.size)(b):jD.getD i b=decide (i∈done):=by rw[NV,h.2 i hi];rfl
theorem ais(I2:F_ ops.toList []=some ms):∀k9 t jD done,PD ops jD done->qC ms done->(∀i∈done,i<ops.size)->done.Nodup->done.length+k9=ops.size->
 tn ms done (Region.linearise.go .any ops k9 t jD [])/\(∀i,i<ops.size->i∈done\/i∈Region.linearise.go .any ops k9 t jD [])/\(∀i∈Region.linearise.go .any ops k9 t jD [],i<ops.size)
 |0,t,jD,done,hL,hc,ay,hn,bS=>by
  refine⟨trivial,λi hi=>.inl ?_,λ_ h=>by cases h⟩;refine Decidable.byContradiction λtR=>?_
  have:=alV (wL.2 ⟨tR,hn⟩) (λx hx=>by
   rcases dK.1 hx with rfl|hx
   .exact JY.2 hi
   .exact JY.2 (ay x hx))
  simp at this;omega
 |k9+1,t,jD,done,hL,hc,ay,hn,bS=>by
  have aat:=(akZ ops.toList [] ms I2).2;have ajv:∀i,i∈Region.ready .any ops jD↔i<ops.size/\i∉done/\∃o,ops[i]? =some o/\∀e∈o.after.toList,Region.binds .any e=true->e.on∈done:=by
   intro i;simp only[Region.ready,zN,JY];refine and_congr_right λhi=>?_
   rw[hL.getD hi];have ho:=Bn hi;rw[ho];simp only[r9,TH,dc,zL,decide_eq_false_iff_not,nX,exists_eq_left'];refine and_congr_right λ_=>?_
   rw[<-Array.all_toList,mq];refine forall_congr' λe=>forall_congr' λhe=>?_
   cases hb:Region.binds .any e with
   |false=>simp
   |true=>have A6:=(aat i ops[i] (by rw[wK];exact ho)).1 e he hb;simp at A6;rw[hL.getD (Nat.lt_trans A6 hi)];simp
  change tn ms done (match(Region.ready .any ops jD)[t%(Region.ready .any ops jD).length]? with
   |some i=>Region.linearise.go .any ops k9 (t /(Region.ready .any ops jD).length) (jD.setIfInBounds i true) [i]
   |none=>[].reverse)/\(∀i,i<ops.size->i∈done\/i∈(match(Region.ready .any ops jD)[t%(Region.ready .any ops jD).length]? with
   |some i=>Region.linearise.go .any ops k9 (t /(Region.ready .any ops jD).length) (jD.setIfInBounds i true) [i]
   |none=>[].reverse))/\(∀i∈(match(Region.ready .any ops jD)[t%(Region.ready .any ops jD).length]? with
   |some i=>Region.linearise.go .any ops k9 (t /(Region.ready .any ops jD).length) (jD.setIfInBounds i true) [i]
   |none=>[].reverse),i<ops.size)
  cases hi:(Region.ready .any ops jD)[t%(Region.ready .any ops jD).length]? with
  |none=>
   have CW:Region.ready .any ops jD=[]:=by
    cases hr:Region.ready .any ops jD with
    |nil=>rfl
    |cons x xs=>rw[hr]at hi;have ay:t%(x::xs).length<(x::xs).length:=Nat.mod_lt _ (by simp);simp at hi;simp at ay;omega
   refine⟨trivial,λi hi=>.inl ?_,λ_ h=>by cases h⟩;induction i using Nat.strongRecOn with
   |ind i ih=>
    refine Decidable.byContradiction λtR=>?_
    have ho:=Bn hi;have:=(ajv i).2 ⟨hi,tR,_,ho,λe he hb=>by have A6:=(aat i ops[i] (by rw[wK];exact ho)).1 e he hb;simp at A6;exact ih e.on A6 (Nat.lt_trans A6 hi)⟩;rw[CW]at this;cases this
  |some i=>
   simp;rw[linearise_go_acc,List.reverse_singleton,List.singleton_append];have⟨hi1,RY,o,ho,hi3⟩:=(ajv i).1 (JU hi);have tQ:∀j,kG ms i j->j∈done:=by
    intro j hj;have:=(aat i o (by rw[wK];exact ho)).2 j (by simpa using hj);have⟨e,he,hb,h⟩:=this;have A6:=hi3 e he hb;rcases h with rfl|h
    .exact A6
    .exact hc _ A6 _ h
   have hL':PD ops (jD.setIfInBounds i true) (i::done):=by
    refine⟨by simp[hL.1],λk hk=>?_⟩;rw[TF];by_cases IZ:i=k
    .subst IZ;simp[hL.1,hi1]
    .rw[az IZ,hL.2 k hk];have:k≠i:=λe=>IZ e.symm
     simp[this]
   have⟨h1,h2,h3⟩:=ais I2 k9 (t /(Region.ready .any ops jD).length) (jD.setIfInBounds i true) (i::done) hL' (hc.GW tQ)
    (λx hx=>by rcases dK.1 hx with rfl|hx;exact hi1;exact ay x hx) (wL.2 ⟨RY,hn⟩) (by simp;omega)
   refine⟨⟨tQ,RY,h1⟩,λk hk=>?_,λk hk=>?_⟩
   .rcases h2 k hk with h|h
    .rcases dK.1 h with rfl|h
     .exact .inr (dY ..)
     .exact .inl h
    .exact .inr (en _ h)
   .rcases dK.1 hk with rfl|hk
    .exact hi1
    .exact h3 k hk
theorem aB0{P:Program}(hm:P.follows .mixedOrders=true)(I2:F_ ops.toList []=some ms)(t):
 tn ms [] (Region.schedule (P.follows .mixedOrders) ops t)/\(∀i,i<ops.size->i∈Region.schedule (P.follows .mixedOrders) ops t)/\(∀i∈Region.schedule (P.follows .mixedOrders) ops t,i<ops.size):=by
 have he:Region.schedule (P.follows .mixedOrders) ops t=Region.linearise.go .any ops ops.size t (Array.replicate ops.size false) []:=by simp[Region.schedule,hm,Region.linearise]
 rw[he];have⟨h1,h2,h3⟩:=ais I2 ops.size t (Array.replicate ops.size false) [] ⟨by simp,λi hi=>by simp[hi]⟩ (qC.nil ms) (λ_ h=>by cases h) zP (by simp);exact⟨h1,λi hi=>by simpa using h2 i hi,h3⟩
theorem afR:∀f vZ left done l,Hy ops ms f vZ left=some l->(∀j,qe vZ j=true->j∈done)->(∀i∈left,i∉done)->
 tn ms done l/\(∀i∈left,i∈l)/\∀i∈l,i∈left
 |0,vZ,left,done,l,h,hg,hl=>by have⟨h1,h2⟩:=dj h;cases h2;rw[List.isEmpty_iff]at h1;subst h1;exact⟨trivial,(λ_ h=>by cases h),(λ_ h=>by cases h)⟩
 |f+1,vZ,left,done,l,h,hg,hl=>by
  simp only[Hy]at h;have key:∀i,i∈left->(match ms[i]? with|some m=>Nat.beq (Nat.lor m vZ) vZ|none=>false)=true->
   (Hy ops ms f (Nat.lor vZ (Nat.pow 2 i)) (left.filter λj=> !Nat.beq i j)).map (i:: ·)=some l->
   tn ms done l/\(∀i∈left,i∈l)/\∀i∈l,i∈left:=by
   intro i hi hr h;cases hm:ms[i]? with
   |none=>rw[hm]at hr;cases hr
   |some m=>
    rw[hm]at hr;have hr:=dw hr;cases ha:Hy ops ms f (Nat.lor vZ (Nat.pow 2 i)) (left.filter λj=> !Nat.beq i j)with
    |none=>rw[ha]at h;cases h
    |some l'=>
     rw[ha]at h;cases h;have⟨h1,h2,h3⟩:=afR f _ _ (i::done) l' ha (λj hj=>by
      rw[RM,aiX]at hj;simp at hj;rcases hj with h|h
      .exact en _ (hg j h)
      .exact h▸dY ..) (λk hk=>by
      have⟨qY,oP⟩:=zN.1 hk;intro hd;rcases dK.1 hd with rfl|hd
      .simp at oP
      .exact hl k qY hd)
     refine⟨⟨?_,hl i hi,h1⟩,?_,?_⟩
     .rintro j ⟨m',uW,hb⟩;rw[hm]at uW;cases uW;refine hg j ?_;rw[<-hr,RM,hb];rfl
     .intro k hk;by_cases IZ:k=i
      .exact IZ▸dY ..
      .refine en _ (h2 k (zN.2 ⟨hk,?_⟩));simp;exact rj.2 λh=>IZ (dw h).symm
     .intro k hk;rcases dK.1 hk with rfl|hk
      .exact hi
      .exact(zN.1 (h3 k hk)).1
  split at h
  .have⟨h1,h2⟩:=dj h;cases h2;rw[List.isEmpty_iff]at h1;subst h1;exact⟨trivial,(λ_ h=>by cases h),(λ_ h=>by cases h)⟩
  next i hp=>
   split at hp;next i' hf=>cases hp;have:=List.find?_some hf;simp at this;exact key i (List.mem_of_find?_eq_some hf) this.1 h
   .exact key i (List.mem_of_find?_eq_some hp) (by have:=List.find?_some hp;exact this) h
theorem abF:∀bh post c last,ya ops ms last (bh++c::post)=true->
 (∃e∈bh,kG ms c e)\/((∀e,last=some e->kG ms c e)/\∀i∈bh,(ops[i]?).any (rN ·.op)=true)
 |[],post,c,last,h=>by simp only[zK,ya,dc]at h;refine .inr ⟨?_,λ_ h=>by cases h⟩;rintro e rfl;exact Jw.1 h.1
 |i::bh,post,c,last,h=>by
  simp only[oC,ya,dc]at h;have⟨h1,h2⟩:=h;cases hl:(ops[i]?).any (rN ·.op)with
  |true=>
   rw[hl]at h2;simp at h2;rcases abF bh post c last h2 with⟨e,he,h⟩|⟨h,h'⟩
   .exact .inl ⟨e,en _ he,h⟩
   .refine .inr ⟨h,λk hk=>?_⟩;rcases dK.1 hk with rfl|hk
    .exact hl
    .exact h' k hk
  |false=>
   rw[hl]at h2;simp at h2;rcases abF bh post c (some i) h2 with⟨e,he,h⟩|⟨h,h'⟩
   .exact .inl ⟨e,en _ he,h⟩
   .exact .inl ⟨i,dY ..,h i rfl⟩
theorem abG:∀bh post last,ya ops ms last (bh++post)=true->∃awj,ya ops ms awj post=true
 |[],post,last,h=>⟨last,h⟩
 |i::bh,post,last,h=>by simp only[oC,ya,dc]at h;exact abG bh post _ h.2
def jc(ops:Array Oper)(j:Nat):Option Tmp:=(ops[j]?).bind (·.dst)
theorem als:∀{l:List Oper} {i j:Nat} {o o' t},x_ (l.filterMap (·.dst))=true->l[i]? =some o->l[j]? =some o'->o.dst=some t->o'.dst=some t->i=j
 |[],i,j,o,o',t,_,h,_,_,_=>by simp at h
 |x::l,i,j,o,o',t,hn,hi,hj,ho,nO=>by
  have ajn:∀{k:Nat} {o:Oper},l[k]? =some o->o.dst=some t->t∈l.filterMap (·.dst):=λhk hd=>NX.2 ⟨_,JU hk,hd⟩
  have mh:x.dst=some t->t∈l.filterMap (·.dst)->False:=by intro hd hm;rw[List.filterMap_cons,hd]at hn;simp only[x_,dc,zL]at hn;have:=hn.1;rw[List.any_eq_false]at this;exact this t hm (by simp)
  have htl:x_ (l.filterMap (·.dst))=true:=by
   rw[List.filterMap_cons]at hn;cases hd:x.dst with
   |none=>rw[hd]at hn;exact hn
   |some d=>rw[hd]at hn;simp only[x_,dc]at hn;exact hn.2
  cases i with
  |zero=>
   cases hi;cases j with
   |zero=>rfl
   |succ j=>exact(mh ho (ajn (by simpa using hj) nO)).elim
  |succ i=>
   cases j with
   |zero=>cases hj;exact(mh nO (ajn (by simpa using hi) ho)).elim
   |succ j=>exact congrArg (· +1) (als htl (by simpa using hi) (by simpa using hj) ho nO)
structure xk(ops:Array Oper)(ms:LN):Prop where
 xa:∀i j t,jc ops i=some t->jc ops j=some t->i=j
 abU:∀i j o t,ops[i]? =some o->t∈OJ o->jc ops j=some t->i=j\/kG ms i j\/kG ms j i
 guard:∀i o g b,ops[i]? =some o->o.guard=some (g,b)->kG ms i g
theorem alJ:∀{l},NC ms l=true->∀o i g b,(o,i)∈l->o.guard=some (g,b)->kG ms i g
 |[],_,o,i,g,b,h,_=>by cases h
 |(o',i')::l,hk,o,i,g,b,h,hg=>by
  simp only[NC,dc]at hk;rcases dK.1 h with he|h
  .cases he;rw[hg]at hk;exact Jw.1 hk.1
  .exact alJ hk.2 o i g b h hg
theorem SS{i o}(h:ops[i]? =some o):(o,i)∈ops.toList.zipIdx:=by rw[List.mem_zipIdx_iff_getElem?];simpa using h
theorem LG{j t}(h:jc ops j=some t):∃o,ops[j]? =some o/\o.dst=some t:=by
 unfold jc at h;cases ho:ops[j]? with
 |none=>rw[ho]at h;cases h
 |some o=>rw[ho]at h;exact⟨o,rfl,h⟩
theorem xk.of(h:abJ ops ms=true)(hg:NC ms ops.toList.zipIdx=true):xk ops ms:=by
 unfold abJ at h;simp only[dc]at h;have⟨h1,h2⟩:=h;rw[mq]at h2;refine⟨?_,?_,?_⟩
 .intro i j t hi hj;have⟨o,ho,hd⟩:=LG hi;have⟨o',nO,qW⟩:=LG hj;exact als h1 (by rw[wK];exact ho) (by rw[wK];exact nO) hd qW
 .intro i j o t ho ht hj;have⟨o',nO,qW⟩:=LG hj;have h3:=h2 _ (SS ho);simp only[mq]at h3;have h4:=h3 _ (SS nO);simp only[qW,TG,zL,Jw]at h4;rcases h4 with((h|h)|h)|h
  .exact .inl (dw h)
  .rw[List.any_eq_false]at h;exact(h t (TE _ ht) (by simp)).elim
  .exact .inr (.inl h)
  .exact .inr (.inr h)
 .intro i o g b ho IW;exact alJ hg o i g b (SS ho) IW
theorem ax3{pl}(h:JL ops=some pl):
 F_ ops.toList []=some pl.ms/\tn pl.ms [] pl.Er/\(∀i,i<ops.size↔i∈pl.Er)/\ya ops pl.ms none pl.Er=true/\xk ops pl.ms:=by
 unfold JL at h;split at h
 .cases h
 next ms I2=>
  split at h
  .cases h
  next l hl=>have⟨h1,h2⟩:=dj h;cases h2;simp at h1;have⟨g1,g2,g3⟩:=afR ops.size 0 (List.range ops.size) [] l hl (λj hj=>by rw[aiY]at hj;cases hj) (λ_ _ h=>by cases h);exact⟨I2,g1,λi=>⟨λhi=>g2 i (JY.2 hi),λhi=>JY.1 (g3 i hi)⟩,h1.1.1,xk.of h1.1.2 h1.2⟩
theorem akn{i t}:aa2 ops ms i t=true↔∃j,jc ops j=some t/\¬kG ms i j:=by
 unfold aa2;rw[List.any_eq_true];constructor
 .rintro⟨⟨o,j⟩,hm,h⟩;rw[List.mem_zipIdx_iff_getElem?]at hm;simp at h;refine⟨j,?_,λhn=>?_⟩
  .have ho:ops[j]? =some o:=by simpa using hm
   unfold jc;rw[ho];cases hd:o.dst with
   |none=>rw[hd]at h;simp at h
   |some d=>rw[hd]at h;simp only at h;show o.dst=some t;rw[hd];exact congrArg some (dw h.1)
  .rw[<-Jw]at hn;rw[hn]at h;exact absurd h.2 (by simp)
 .rintro⟨j,hj,hn⟩;have⟨o,ho,hd⟩:=LG hj;refine⟨(o,j),SS ho,?_⟩;simp only[hd,dc,zL];exact⟨by simp,rj.2 λh=>hn (Jw.1 h)⟩
end
section
variable{P:Program}{ρ:Operand->Option AV}{H H':AH}
theorem agj(hm:∀id ob,H.bc id=some ob->H'.bc id=some ob){id vs}(h:H.qy id=some vs):H'.qy id=some vs:=by
 unfold AH.qy at h⊢;split at h;next ho=>rw[hm _ _ ho];exact h
 next ho=>rw[hm _ _ ho];exact h
 next ho=>rw[hm _ _ ho];exact h
 .cases h
theorem as6(hm:∀id ob,H.bc id=some ob->H'.bc id=some ob){m es}(h:Cg H m=some es):Cg H' m=some es:=by
 unfold Cg at h⊢;cases m<;>simp only at h⊢<;>try (cases h;done)
 case mW=>exact h
 case aB id=>
  split at h;next ho=>rw[hm _ _ ho];exact h
  .cases h
theorem awB(hm:∀id ob,H.bc id=some ob->H'.bc id=some ob){x n}(h:F4 H x=some n):F4 H' x=some n:=by
 unfold F4 at h⊢;cases x<;>simp only at h⊢<;>try (first|exact h|cases h;done)
 case aB id=>
  split at h;next ho=>rw[hm _ _ ho];exact h
  .cases h
theorem aE3{op}(h:Ss op=true)(H H'):f_ P ρ H op=f_ P ρ H' op:=by cases op<;>first|rfl|(simp[Ss]at h)
theorem ayv(hm:∀id ob,H.bc id=some ob->H'.bc id=some ob)(hX:H'.x=H.x){op v}(h:f_ P ρ H op=some v):f_ P ρ H' op=some v:=by
 cases op<;>simp only[f_]at h⊢<;>try (first|exact h|cases h;done)
 case load t a=>
  unfold SA at h⊢;split at h
  .unfold t_ at h⊢;split at h
   .cases h
   next hc=>rw[agj hm hc];exact h
  .exact h
  .unfold pt at h⊢;rw[ux hX];exact h
  .cases h
 case slice t x lo hi mx=>
  unfold Dk at h⊢;split at h
  .split at h
   .exact h
   .exact h
   .exact h
   .exact h
   .exact h
   .exact h
   .split at h;next hs hc=>simp only[hs,agj hm hc];exact h
    .cases h
   .cases h
  .cases h
 case lookup t x k ok=>
  unfold M8 at h⊢;split at h
  .obtain⟨v0,h0,rfl⟩:=ud h;have hn:∀e o,lv P H' e o=lv P H e o:=λe o=>by unfold lv;rw[hX]
   rw[hn];refine DJ.2 ⟨v0,?_,rfl⟩;revert h0;intro h;unfold Nd at h⊢;have⟨h1,h⟩:=dj h;rw[h1];simp;split at h;next he=>rw[as6 hm he];exact h
   .cases h
  .cases h
 case call c=>
  have⟨callee,args,argTypes⟩:=c;cases callee<;>simp only at h⊢<;>try (cases h;done)
  unfold aaX at h⊢;split at h
  .unfold Sy at h⊢;split at h
   .unfold aaY at h⊢;split at h
    .exact h
    .have⟨h1,h⟩:=dj h;rw[h1];cases hl:F4 H _ with
     |none=>rw[hl]at h;cases h
     |some n=>rw[awB hm hl];rw[hl]at h;exact h
    .cases h
   .exact h
   .exact h
   .exact h
   .cases h
  .cases h
end
mutual
theorem XV:∀{a b:AV},nE a b=true->a=b
 |.au a,b,h=>by cases b<;>simp[nE]at h;rw[h]
 |.bV j a,b,h=>by cases b<;>simp[nE]at h;rw[h.1,h.2]
 |.ad a,b,h=>by
  cases b<;>simp only[nE]at h<;>try (cases h;done)
  rw[om,DG]at h;rw[h]
 |.aa a o,b,h=>by
  cases b<;>simp only[nE,dc]at h<;>try (cases h;done)
  rw[dw h.1,dw h.2]
 |.kP,b,h=>by cases b<;>first|rfl|(simp only[nE]at h;cases h)
 |.bw a1 a2 a3 a4 a5 a6,b,h=>by
  cases b<;>simp only[nE,dc,beq_iff_eq]at h<;>try (cases h;done)
  obtain⟨⟨⟨⟨⟨h1,h2⟩,h3⟩,h4⟩,h5⟩,h6⟩:=h;rw[dw h1,dw h2,dw h3,dw h4,dw h5,h6]
 |.aM,b,h=>by cases b<;>first|rfl|(simp only[nE]at h;cases h)
 |.aB a,b,h=>by
  cases b<;>simp only[nE]at h<;>try (cases h;done)
  rw[dw h]
 |.mW,b,h=>by cases b<;>first|rfl|(simp only[nE]at h;cases h)
 |.bn f l c,b,h=>by
  cases b<;>simp only[nE,dc,DG]at h<;>try (cases h;done)
  obtain⟨⟨h1,h2⟩,h3⟩:=h;rw[h1,Lt h2,Lt h3]
 |.gN a,b,h=>by
  cases b<;>simp only[nE]at h<;>try (cases h;done)
  rw[dw h]
 |.qz,b,h=>by cases b<;>first|rfl|(simp only[nE]at h;cases h)
 |.ec t v,b,h=>by
  cases b<;>simp only[nE,dc]at h<;>try (cases h;done)
  rw[dw h.1,XV h.2]
 |.lJ,b,h=>by cases b<;>first|rfl|(simp only[nE]at h;cases h)
 |.ai l,b,h=>by
  cases b<;>simp only[nE]at h<;>try (cases h;done)
  rw[Lt h]
 |.aC l,b,h=>by
  cases b<;>simp only[nE]at h<;>try (cases h;done)
  rw[Lt h]
 |.vV a,b,h=>by
  cases b<;>simp only[nE]at h<;>try (cases h;done)
  rw[dw h]
theorem Lt:∀{l m:LV},Ax l m=true->l=m
 |[],[],_=>rfl
 |[],_::_,h=>by simp[Ax]at h
 |_::_,[],h=>by simp[Ax]at h
 |a::l,b::m,h=>by simp only[Ax,dc]at h;rw[XV h.1,Lt h.2]
end
theorem aBX{a b}(h:TW a b=true):a=b:=by
 rcases(TG _ _).mp h with h|h
 .exact XV h
 .exact @dX _ (Classical.propDecidable _) h
section
variable{P:Program}{b:Frame}{a:Act}{k:List Item}{cs:List Frame}{w:World}{ops:Array Oper}
theorem zT{o}(ro ρ)(h:∀c,o.op≠.defer c):o.semAt ro ρ=execOp ρ o:=Oper.semAt_eq ro ρ o h
theorem aml{op}(h:pq op=true)(c):op≠.defer c:=by rintro rfl;cases h
theorem akU{ρ op r}(h:rb P ρ op=some r)(c):op≠.defer c:=by rintro rfl;cases h
theorem Io{i rest o}(ho:ops[i]? =some o)(v):
 (b.atR a (.inRegion ops (i::rest)::k)).finish v=b.atR (a.put o.dst v) (.inRegion ops rest::k):=by
 rw[Frame.finish_atR,ho];rfl
theorem J4{i rest o}(ho:ops[i]? =some o)(hw:Region.wanted o (yielded ops a.tmps)=true){v w'}(hr:(o.semAt b.roundOf a.eval).run P w=.ok (.value v) w'\/((o.semAt b.roundOf a.eval).run P w=.ok .skip w'/\v=undef)):
 step P (lone (b.atR a (.inRegion ops (i::rest)::k)) cs w)=.next (lone (b.atR (a.put o.dst v) (.inRegion ops rest::k)) cs w'):=by
 have hg:=stepGR_op (P:=P) (b:=b) (k:=k) (cs:=cs) (w:=w) (rest:=rest) ho hw;refine step_lone_go ?_;rw[hg,<-Io ho];rcases hr with hr|⟨hr,rfl⟩<;>simp[stepG.apply,hr]
theorem aEZ{i rest o}(ho:ops[i]? =some o)(hw:Region.wanted o (yielded ops a.tmps)=true){f args w'}(hr:(o.semAt b.roundOf a.eval).run P w=.ok (.enter f args) w'):
 step P (lone (b.atR a (.inRegion ops (i::rest)::k)) cs w)=.next (lone (Frame.enter P f args .normal) (b.atR a (.inRegion ops (i::rest)::k)::cs) w'):=by
 have hg:=stepGR_op (P:=P) (b:=b) (k:=k) (cs:=cs) (w:=w) (rest:=rest) ho hw;exact step_lone_go (by rw[hg];simp[stepG.apply,hr,Frame.atR])
theorem aE1{i rest o}(ho:ops[i]? =some o)(hw:Region.wanted o (yielded ops a.tmps)=true){l f tmps assign body w'}(hr:(o.semAt b.roundOf a.eval).run P w=.ok (.round l f tmps assign body) w'):
 step P (lone (b.atR a (.inRegion ops (i::rest)::k)) cs w)=.next (lone (Frame.round l f tmps assign body .normal) (b.atR a (.inRegion ops (i::rest)::k)::cs) w'):=by
 have hg:=stepGR_op (P:=P) (b:=b) (k:=k) (cs:=cs) (w:=w) (rest:=rest) ho hw;exact step_lone_go (by rw[hg];simp[stepG.apply,hr,Frame.atR])
theorem aE0{i rest o}(ho:ops[i]? =some o)(hw:Region.wanted o (yielded ops a.tmps)=true){v w'}(hr:(o.semAt b.roundOf a.eval).run P w=.halt (.panic v) w'):
 step P (lone (b.atR a (.inRegion ops (i::rest)::k)) cs w)=.next (lone ((b.atR a (.inRegion ops (i::rest)::k)).raise [{v,recovered:=false}]) cs w'):=by
 have hg:=stepGR_op (P:=P) (b:=b) (k:=k) (cs:=cs) (w:=w) (rest:=rest) ho hw;refine step_lone_go ?_;rw[hg];simp[stepG.apply,hr]
theorem aEY{i rest o}(ho:ops[i]? =some o)(hw:Region.wanted o (yielded ops a.tmps)=true){d w'}(hr:(o.semAt b.roundOf a.eval).run P w=.ok (.defer d) w'):
 step P (lone (b.atR a (.inRegion ops (i::rest)::k)) cs w)=.next (lone (b.atR ({a with defers:=d::a.defers}.put o.dst undef) (.inRegion ops rest::k)) cs w'):=by
 have hg:=stepGR_op (P:=P) (b:=b) (k:=k) (cs:=cs) (w:=w) (rest:=rest) ho hw;refine step_lone_go ?_;have:({b.atR a (.inRegion ops (i::rest)::k)with defers:=d::a.defers}:Frame).finish undef=
  b.atR ({a with defers:=d::a.defers}.put o.dst undef) (.inRegion ops rest::k):=by
  have:=Frame.finish_atR b {a with defers:=d::a.defers} ops i rest k undef;rw[ho]at this;exact this
 rw[hg];simp only[stepG.apply,Sem.runT_eq,hr,GStep.bare_after];exact congrArg (λfr=>GStep.go {frame:=fr,callers:=cs,status:=.running,dying:=none} w') this
end
theorem TR.put{φ t t' nt}{a:Act}{dst x v}(h:TR φ t nt a.tmps)(hs:oY nt t dst x=some t')(hv:VR φ x v):TR φ t' nt (a.put dst v).tmps:=by
 cases dst with
 |none=>cases hs;exact h
 |some d=>
  have⟨h1,h2⟩:=dj hs;cases h2;have hd:=pE h1;refine⟨by show(a.tmps.setIfInBounds d v).size=nt;rw[Array.size_setIfInBounds];exact h.1,λi x' hx=>?_⟩;show∃v',(a.tmps.setIfInBounds d v)[i]? =some v'/\_;rw[TF];by_cases hi:d=i
  .subst hi;rw[Tr.kM]at hx;simp at hx;subst hx;rw[aL rfl,aL (by rw[h.1];exact hd)];exact⟨v,rfl,hv⟩
  .rw[Tr.kM]at hx;rw[az hi];exact h.2 i x' (by simpa[hi,Ne.symm hi]using hx)
theorem TR.vq{φ t nt}{a:Act}(h:TR φ t nt a.tmps)(l):n_ φ (iG t) a.eval l:=by
 intro x _ v hx;cases x with
 |tmp i=>have⟨v',h1,h2⟩:=h.2 i v hx;show VR φ v (a.tmps.getD i undef);rw[NV,h1];exact h2
 |const c=>exact Yq hx
 |global g=>cases hx;rfl
 |func f=>cases hx;exact⟨#[],#[],rfl,rfl,l8,l8⟩
def CR(φ:cn):Eu->List PanicEntry->Prop
 |[],l=>l=[]
 |(v,r)::c,l=>∃v' l',l={v:=v',recovered:=r}::l'/\VR φ v v'/\CR φ c l'
def Hp(Dc Da:LN)(j:Nat):Prop:=j∈Da/\j∉Dc
def Xn(ops:Array Oper)(bt cur:Tr AV)(Dc Da:LN)(t:Tmp)(a:AV):Prop:=
 (∃j,Hp Dc Da j/\jc ops j=some t/\bt.bZ t=some a)\/((∀j,Hp Dc Da j->jc ops j≠some t)/\cur.bZ t=some a)
def KB(ops:Array Oper)(ms:LN)(bt cur:Tr AV)(j:Nat)(o:Oper)(ρ:Operand->Option AV):Prop:=
 ∀x∈o.op.operands.toList,ρ x=HA (xw ops ms bt cur j) x
def Ho(P:Program)(ops:Array Oper)(ms:LN)(bt cur:Tr AV)(H:AH)(φ:cn)(m:Nat)(iI:Nat->Option Nat)(j:Nat)(o:Oper)(b:Bool)(v:AV):Prop:=
 (b=false/\v=.l5)\/
 (b=true/\pq o.op=true/\∃ρ,KB ops ms bt cur j o ρ/\f_ P ρ H o.op=some v)\/
 (b=true/\∃ρ ob g id,KB ops ms bt cur j o ρ/\rb P ρ o.op=some (ob,g)/\v=g id/\iI j=some id/\m<=id/\φ id=none/\H.bc id=some ob)
structure qF(P:Program)(ops:Array Oper)(ms:LN)(bt:Tr AV)(nt:Nat)(bs:fN)(m:Nat)(iI:Nat->Option Nat)(Dc Da:LN)(cur:Tr AV)(H:AH)(φ:cn)(w:World)(tmps:Array Value):Prop where
 wr:WR φ bs H w
 hb:iv bs w
 hm:m<=H.bx
 Ep:tmps.size=nt
 tr:∀t a,Xn ops bt cur Dc Da t a->∃v,tmps[t]? =some v/\VR φ a v
 un:∀t,(∀j∈Da,jc ops j≠some t)->cur.bZ t=bt.bZ t
 aW:∀j id,iI j=some id->id<H.bx
 inj:∀j j' id,iI j=some id->iI j'=some id->j=j'
 Tu:∀j,Hp Dc Da j->∃o b v,ops[j]? =some o/\nj ops o cur.bZ=some b/\(∀d,o.dst=some d->d<nt/\cur.bZ d=some v)/\Ho P ops ms bt cur H φ m iI j o b v
section
variable{P:Program}{call:sA}{ops:Array Oper}{ms:LN}{bt cur lN:Tr AV}{nt:Nat}{bs:fN}{m:Nat}{iI:Nat->Option Nat}{Dc Da:LN}{H H':AH}{φ aQ:cn}{w:World}{tmps:Array Value}
theorem QU{i t}(h:∃j,jc ops j=some t/\¬kG ms i j):xw ops ms bt cur i t=bt.bZ t:=by unfold xw;rw[akn.2 h];rfl
theorem QV{i t}(h:¬∃j,jc ops j=some t/\¬kG ms i j):xw ops ms bt cur i t=cur.bZ t:=by unfold xw;rw[rj.2 λhl=>h (akn.1 hl)];rfl
theorem ahA{j i s}(FD:∀d,s=some d->jc ops i=some d)(hi:i∉Da)(hn:∀k,kG ms j k->k∈Da)(hk:∀t,s≠some t->lN.bZ t=cur.bZ t):xw ops ms bt lN j=xw ops ms bt cur j:=by
 funext t;by_cases hl:∃k,jc ops k=some t/\¬kG ms j k
 .rw[QU hl,QU hl]
 .rw[QV hl,QV hl];refine hk t λhs=>?_
  have hd:=FD t hs;exact hi (hn i (qau λh=>hl ⟨i,hd,h⟩))
theorem adD(iP:xk ops ms){j i o s}(ho:ops[j]? =some o)(FD:∀d,s=some d->jc ops i=some d)(hi:i∉Da)(hn:∀k,kG ms j k->k∈Da)(hk:∀t,s≠some t->lN.bZ t=cur.bZ t):nj ops o lN.bZ=nj ops o cur.bZ:=by
 unfold nj;split
 .rfl
 next g pL hg=>
  have IW:=hn g (iP.guard j o g pL ho hg);split
  .rfl
  next d hd=>
   have:=hk d λhs=>by have:=iP.xa g i d hd (FD d hs);subst this;exact hi IW
   rw[this]
theorem TY{o i v}(ho:ops[i]? =some o)(h:oY nt cur o.dst v=some lN):
 (∀d,o.dst=some d->d<nt/\lN.bZ d=some v/\jc ops i=some d)/\(∀t,jc ops i≠some t->lN.bZ t=cur.bZ t):=by
 have IS:jc ops i=o.dst:=by unfold jc;rw[ho];rfl
 rw[IS];cases hd:o.dst with
 |none=>rw[hd]at h;cases h;exact⟨(λd h=>by cases h),λ_ _=>rfl⟩
 |some d=>
  rw[hd]at h;have⟨h1,h2⟩:=dj h;cases h2;refine⟨?_,?_⟩
  .intro d' qW;cases qW;exact⟨pE h1,by rw[Tr.kM];simp,rfl⟩
  .intro t ht;rw[Tr.kM,az];intro e;exact ht (by rw[e])
theorem Ho.Dh{j i o s b v}(h:Ho P ops ms bt cur H φ m iI j o b v)(FD:∀d,s=some d->jc ops i=some d)(hi:i∉Da)(hn:∀k,kG ms j k->k∈Da)(hk:∀t,s≠some t->lN.bZ t=cur.bZ t):Ho P ops ms bt lN H φ m iI j o b v:=by unfold Ho KB at h⊢;rw[ahA FD hi hn hk];exact h
theorem qF.adv(iP:xk ops ms)(h:qF P ops ms bt nt bs m iI Dc Da cur H φ w tmps){i o}(ho:ops[i]? =some o)(hi:i∉Da)(tQ:∀j,kG ms i j->j∈Da)(kv:qC ms Da)(tV:∀j∈Dc,j∈Da)(hl:rN o.op=true\/nj ops o cur.bZ=some false)(hs:pA P call ops ms bt Da i nt cur H o=.go lN H'):
 ∃wm,qF P ops ms bt nt bs m wm Dc (i::Da) lN H' φ w tmps/\cI m φ H φ H':=by
 have au0:=λhd=>hi (tV i hd)
 have avq:∀t∈OJ o,cur.bZ t=xw ops ms bt cur i t:=by
  intro t ht;by_cases hl:∃k,jc ops k=some t/\¬kG ms i k
  .rw[QU hl];have⟨k,hk,hnk⟩:=hl;have au3:k∉Da:=by
    intro uV;rcases iP.abU i k o t ho ht hk with rfl|hh|hh
    .exact hi uV
    .exact hnk hh
    .exact hi (kv k uV i hh)
   exact h.un t λj hj hd=>by have:=iP.xa j k t hd hk;subst this;exact au3 hj
  .rw[QV hl]
 have IU:∀Yu,(∀t,jc ops i≠some t->Yu.bZ t=cur.bZ t)->KB ops ms bt Yu i o (iG cur):=by
  intro Yu hk x hx;rw[ahA (λd h=>h) hi tQ hk];cases x with
  |tmp t=>exact avq t (NX.2 ⟨.tmp t,hx,rfl⟩)
  |const c=>rfl
  |global g=>rfl
  |func f=>rfl
 have key:∀(v:AV) (H1:AH) (wm:Nat->Option Nat) (b:Bool),oY nt cur o.dst v=some lN->nj ops o cur.bZ=some b->WR φ bs H1 w->H.bx<=H1.bx->
  (∀j id,wm j=some id->id<H1.bx)->(∀j j' id,wm j=some id->wm j'=some id->j=j')->(∀j,j≠i->wm j=iI j)->
  (∀id ob,H.bc id=some ob->H1.bc id=some ob)->H1.x=H.x->
  Ho P ops ms bt lN H1 φ m wm i o b v->qF P ops ms bt nt bs m wm Dc (i::Da) lN H1 φ w tmps:=by
  intro v H1 wm b lj q_ hwr wh aad au1 CY ajp hX uY;have⟨g1,g2⟩:=TY ho lj;refine⟨hwr,h.hb,kQ h.hm wh,h.Ep,?_,?_,aad,au1,?_⟩
  .intro t a hv;refine h.tr t a ?_;rcases hv with⟨j,⟨wb,IY⟩,hd,hb⟩|⟨mh,hc⟩
   .rcases dK.1 wb with rfl|wb
    .refine .inr ⟨λk hk uV=>?_,?_⟩
     .have:=iP.xa k j t uV hd;subst this;exact hi hk.1
     .rw[h.un t λk hk uV=>?_]
      .exact hb
      .have:=iP.xa k j t uV hd;subst this;exact hi hk
    .exact .inl ⟨j,⟨wb,IY⟩,hd,hb⟩
   .refine .inr ⟨λk hk=>mh k ⟨en _ hk.1,hk.2⟩,?_⟩;rw[<-g2 t (mh i ⟨dY ..,au0⟩)];exact hc
  .intro t ht;rw[g2 t (ht i (dY ..))];exact h.un t λj hj=>ht j (en _ hj)
  .intro j ⟨wb,IY⟩;rcases dK.1 wb with rfl|wb
   .exact⟨o,b,v,ho,by rw[adD iP ho (λd h=>h) hi tQ g2];exact q_,λd hd=>⟨(g1 d hd).1,(g1 d hd).2.1⟩,uY⟩
   .have hji:j≠i:=λe=>hi (e▸wb)
    have⟨o',b',v',p1,p2,p3,p4⟩:=h.Tu j ⟨wb,IY⟩;refine⟨o',b',v',p1,by rw[adD iP p1 (λd h=>h) hi (kv j wb) g2];exact p2,λd hd=>⟨(p3 d hd).1,?_⟩,?_⟩
    .rw[g2 d λqW=>?_]
     .exact(p3 d hd).2
     .have:jc ops j=some d:=by unfold jc;rw[p1];exact hd
      exact hji (iP.xa j i d this qW)
    .have p5:=p4.Dh (λd h=>h) hi (kv j wb) g2;rcases p5 with p|⟨p,q,ρ,e,r⟩|⟨p,ρ,ob,g,id,e,q1,q2,q3,q4,q5,q6⟩
     .exact .inl p
     .exact .inr (.inl ⟨p,q,ρ,e,ayv ajp hX r⟩)
     .exact .inr (.inr ⟨p,ρ,ob,g,id,e,q1,q2,by rw[CY j hji];exact q3,q4,q5,ajp _ _ q6⟩)
 unfold pA at hs;split at hs
 .cases hs
 next b q_=>
  cases b with
  |false=>
   simp only[cond_false,sS]at hs;split at hs;next t lj=>cases hs;exact⟨iI,key .l5 H iI false lj q_ h.wr (cE _) h.aW h.inj (λ_ _=>rfl) (λ_ _ h=>h) rfl (.inl ⟨rfl,rfl⟩),cI.jX _ _ _⟩
   .cases hs
  |true=>
   simp at hs;cases hr:pq o.op with
   |true=>
    rw[hr]at hs;simp only[cond_true,NL]at hs;split at hs;next v hv=>
     simp only[sS]at hs;split at hs;next t lj=>cases hs;exact⟨iI,key v H iI true lj q_ h.wr (cE _) h.aW h.inj (λ_ _=>rfl) (λ_ _ h=>h) rfl (.inr (.inl ⟨rfl,hr,iG cur,IU _ (TY ho lj).2,hv⟩)),cI.jX _ _ _⟩
     .cases hs
    .cases hs
   |false=>
    rw[hr]at hs;simp at hs;cases zn:sO o.op with
    |false=>
     rcases hl with hl|hl
     .simp[rN,hr,zn]at hl
     .rw[q_]at hl;cases hl
    |true=>
     rw[zn]at hs;simp at hs;cases we:rb P (iG cur) o.op with
     |none=>rw[we]at hs;simp[Dz]at hs
     |some r=>
      have⟨ob,g⟩:=r;have⟨hh,n,xx⟩:=H;rw[we]at hs;simp only[Dz,sS]at hs;split at hs;next t lj=>
       cases hs;have RW:=h.wr.y8 (cE _);refine⟨λj=>if j=i then some n else iI j,?_,cI.new h.hm ob⟩;refine key (g n) _ _ true lj q_ (h.wr.new ob) (by rw[rU];exact Nat.le_succ _) ?_ ?_ (λj hj=>az hj) ?_ (Ae _ _) ?_
       .intro j id hj;rw[rU];split at hj
        .cases hj;exact lA _
        .exact DM (h.aW j id hj)
       .intro j j' id hj CN;split at hj<;>split at CN;next e1 e2=>rw[e1,e2]
        .cases hj;have:=h.aW _ _ CN;exact absurd this (Nat.lt_irrefl _)
        .cases CN;have:=h.aW _ _ hj;exact absurd this (Nat.lt_irrefl _)
        .exact h.inj j j' id hj CN
       .intro id bE eU;rw[ml,az]
        .exact eU
        .intro e;have:=h.wr.nx id bE eU;rw[e]at this;exact Nat.lt_irrefl _ this
       .exact .inr (.inr ⟨rfl,iG cur,ob,g,n,IU _ (TY ho lj).2,we,rfl,aL rfl,h.hm,RW,by rw[ml,aL rfl]⟩)
      .cases hs
end
section
variable{P:Program}{call:sA}{ops:Array Oper}{ms:LN}{bt cur lN:Tr AV}{nt:Nat}{bs:fN}{m:Nat}{iI:Nat->Option Nat}{Dc Da:LN}{H H':AH}{φ aQ:cn}{w w':World}{a:Act}
theorem adE{o b}(h:nj ops o cur.bZ=some b)(hv:∀g pL d x,o.guard=some (g,pL)->jc ops g=some d->cur.bZ d=some x->∃v,a.tmps[d]? =some v/\VR φ x v):
 Region.wanted o (yielded ops a.tmps)=b:=by
 unfold nj at h;unfold Region.wanted;split at h;next hg=>cases h;rw[hg]
 next g pL hg=>
  rw[hg];simp only;split at h
  .cases h
  next d hd=>
   have hy:yielded ops a.tmps g=(match a.tmps[d]? with|some (.bool b)=>some b|_=>none):=by unfold yielded;rw[hd];rfl
   rw[hy];split at h;next x hx=>cases h;have⟨v,h1,h2⟩:=hv g pL d _ hg hd hx;subst h2;rw[h1];cases x<;>cases pL<;>rfl
   next hx=>cases h;have⟨v,h1,h2⟩:=hv g pL d _ hg hd hx;obtain⟨l,rfl,_⟩:=h2;rw[h1];rfl
   .cases h
theorem af1{get l}(h:∀t,.tmp t∈l->∀x,get t=some x->∃v,a.tmps[t]? =some v/\VR φ x v):n_ φ (HA get) a.eval l:=by
 intro x hx v hv;cases x with
 |tmp i=>have⟨v',h1,h2⟩:=h i hx v hv;show VR φ v (a.tmps.getD i undef);rw[NV,h1];exact h2
 |const c=>exact Yq hv
 |global g=>cases hv;rfl
 |func f=>cases hv;exact⟨#[],#[],rfl,rfl,l8,l8⟩
theorem amd{d v}(h:d<a.tmps.size):(a.put (some d) v).tmps[d]? =some v:=by show(a.tmps.setIfInBounds d v)[d]? =some v;rw[TF,aL rfl,aL h]
theorem amb{s t v}(h:s≠some t):(a.put s v).tmps[t]? =a.tmps[t]? :=by
 cases s with
 |none=>rfl
 |some d=>show(a.tmps.setIfInBounds d v)[t]? =_;rw[TF,az (λe=>h (by rw[e]))]
theorem amc{s v}:(a.put s v).tmps.size=a.tmps.size:=by
 cases s with
 |none=>rfl
 |some d=>exact Array.size_setIfInBounds ..
theorem DF{s v}:(a.put s v).defers=a.defers:=by cases s<;>rfl
theorem qF.guard(iP:xk ops ms)(h:qF P ops ms bt nt bs m iI Dc Da cur H φ w a.tmps){c o}(ho:ops[c]? =some o)(tQ:∀j,kG ms c j->j∈Dc){b}(hw:nj ops o cur.bZ=some b):
 Region.wanted o (yielded ops a.tmps)=b:=by
 refine adE hw λg pL d x hg hd hx=>h.tr d x (.inr ⟨λj hj qg=>?_,hx⟩)
 have:=iP.xa g j d hd qg;subst this;exact hj.2 (tQ _ (iP.guard c o _ pL ho hg))
theorem qF.exec(iP:xk ops ms)(h:qF P ops ms bt nt bs m iI Dc Da cur H φ w a.tmps){c}(hp:Hp Dc Da c)(tQ:∀j,kG ms c j->j∈Dc)(kv:qC ms Dc):
 ∃aQ w' a',(∀(b:Frame) (k cs rest),step P (lone (b.atR a (.inRegion ops (c::rest)::k)) cs w)=.next (lone (b.atR a' (.inRegion ops rest::k)) cs w'))/\a'.defers=a.defers/\
  qF P ops ms bt nt bs m iI (c::Dc) Da cur H aQ w' a'.tmps/\cI m φ H aQ H/\cZ bs w w':=by
 have⟨o,b,v,ho,q_,FD,uY⟩:=h.Tu c hp;have IS:jc ops c=o.dst:=by unfold jc;rw[ho];rfl
 have pn:=h.guard iP ho tQ q_;have u0:∀ρ,KB ops ms bt cur c o ρ->n_ φ ρ a.eval o.op.operands.toList:=by
  intro ρ he x hx y hy;rw[he x hx]at hy;refine af1 (λt ht z hz=>h.tr t z ?_) x hx y hy;have htt:t∈OJ o:=NX.2 ⟨.tmp t,ht,rfl⟩;by_cases hl:∃k,jc ops k=some t/\¬kG ms c k
  .rw[QU hl]at hz;have⟨k,hk,hnk⟩:=hl;by_cases hkp:Hp Dc Da k
   .exact .inl ⟨k,hkp,hk,hz⟩
   .have au4:k∉Dc:=by
     intro uV;rcases iP.abU c k o t ho htt hk with rfl|hh|hh
     .exact hp.2 uV
     .exact hnk hh
     .exact hp.2 (kv k uV c hh)
    refine .inr ⟨λj hj hd=>?_,?_⟩
    .have:=iP.xa j k t hd hk;subst this;exact hkp hj
    .rw[h.un t λj hj hd=>?_]
     .exact hz
     .have:=iP.xa j k t hd hk;subst this;exact hkp ⟨hj,au4⟩
  .rw[QV hl]at hz;refine .inr ⟨λj hj hd=>?_,hz⟩;exact hj.2 (tQ j (qau λhn=>hl ⟨j,hd,hn⟩))
 have key:∀(aQ:cn) (w':World) (v':Value),WR aQ bs H w'->cI m φ H aQ H->cZ bs w w'->VR aQ v v'->
  (∀j id,j≠c->iI j=some id->φ id=none->aQ id=none)->qF P ops ms bt nt bs m iI (c::Dc) Da cur H aQ w' (a.put o.dst v').tmps:=by
  intro aQ w' v' hwr xI hk hv aad;refine⟨hwr,h.hb.Eo hk.1,h.hm,by rw[amc];exact h.Ep,?_,h.un,h.aW,h.inj,?_⟩
  .intro t x hx;by_cases zp:o.dst=some t
   .have hd:=FD t zp;have qh:¬∃j,Hp (c::Dc) Da j/\jc ops j=some t:=by rintro⟨j,hj,qg⟩;have:=iP.xa j c t qg (by rw[IS];exact zp);subst this;exact hj.2 (dY ..)
    rcases hx with⟨j,hj,qg,_⟩|⟨_,hx⟩
    .exact(qh ⟨j,hj,qg⟩).elim
    .rw[hd.2]at hx;cases hx;rw[zp];exact⟨v',amd (by rw[h.Ep];exact hd.1),hv⟩
   .rw[amb zp];have:Xn ops bt cur Dc Da t x:=by
     rcases hx with⟨j,hj,qg,hb⟩|⟨mh,hx⟩
     .exact .inl ⟨j,⟨hj.1,λhd=>hj.2 (en _ hd)⟩,qg,hb⟩
     .refine .inr ⟨λj hj qg=>?_,hx⟩;by_cases FH:j=c
      .subst FH;exact zp (by rw[<-IS];exact qg)
      .refine mh j ⟨hj.1,λhd=>?_⟩ qg;rcases dK.1 hd with e|hd
       .exact FH e
       .exact hj.2 hd
    have⟨u,h1,h2⟩:=h.tr t x this;exact⟨u,h1,h2.ez xI.1⟩
  .intro j hj;have FH:j≠c:=λe=>hj.2 (e▸dY ..)
   have⟨o',b',U4,p1,p2,p3,p4⟩:=h.Tu j ⟨hj.1,λhd=>hj.2 (en _ hd)⟩;refine⟨o',b',U4,p1,p2,p3,?_⟩;rcases p4 with p|p|⟨p,ρ,ob,g,id,e,q1,q2,q3,q4,q5,q6⟩
   .exact .inl p
   .exact .inr (.inl p)
   .exact .inr (.inr ⟨p,ρ,ob,g,id,e,q1,q2,q3,q4,aad j id FH q3 q5,q6⟩)
 rcases uY with⟨rfl,rfl⟩|⟨rfl,hr,ρ,IU,avo⟩|⟨rfl,ρ,ob,g,id,IU,ajm,rfl,dv,aah,R5,eU⟩
 .refine⟨φ,w,a.put o.dst undef,λb k cs rest=>?_,DF,key φ w undef h.wr (cI.jX _ _ _) (cZ.kr _ _) (Kc φ) (λ_ _ _ _ h=>h),cI.jX _ _ _,cZ.kr _ _⟩;have:=stepR_op_skip (P:=P) (b:=b) (a:=a) (k:=k) (cs:=cs) (w:=w) (ops:=ops) (i:=c) (rest:=rest) (by simp[ho,pn]);simpa[ho]using this
 .have⟨v',h1,h2⟩:=amm h.wr (u0 ρ IU) avo;exact⟨φ,w,a.put o.dst v',λb k cs rest=>J4 ho pn (.inl (by rw[zT _ _ (aml hr)];exact h1)),DF,key φ w v' h.wr (cI.jX _ _ _) (cZ.kr _ _) h2 (λ_ _ _ _ h=>h),cI.jX _ _ _,cZ.kr _ _⟩
 .have⟨o',n,f,h1,h2,h3,h4⟩:=akV (u0 ρ IU) ajm;have cA:=Lv (e:=⟨w.heap.size,0,n⟩) R5;have xI:cI m φ H (jv φ id ⟨w.heap.size,0,n⟩) H:=⟨cA,cE _,λi hi hn=>⟨by rw[BU];rw[az (by omega)];exact hn,.inl rfl⟩,.of rfl rfl⟩;have hk:=cZ.alloc h.hb o';refine⟨jv φ id ⟨w.heap.size,0,n⟩,w.alloc o',a.put o.dst (f w.heap.size),λb k cs rest=>J4 ho pn (.inl (by rw[zT _ _ (akU ajm)];exact h1 w)),DF,?_,xI,hk⟩;refine key _ _ _ (h.wr.af5 R5 eU h.hb h2) xI hk (h3 _ id _ (mL ..)) ?_;intro j iq hj au2 hn;rw[BU];rw[az]
  .exact hn
  .intro e;subst e;exact hj (h.inj j c _ au2 dv)
end
def apM(P:Program)(m:Nat)(bs:fN)(φ:cn)(H:AH)(w:World)(fr:Frame)(cs:List Frame)(r:l6):Prop:=
 ∃aQ w',WR aQ bs r.H w'/\cI m φ H aQ r.H/\cZ bs w w'/\match r.e with
  |.gG v=>∃v',VR aQ v v'/\Steps P (lone fr cs w) (lone (fr.finish v') cs w')
  |.dN c=>∃c',CR aQ c c'/\Steps P (lone fr cs w) (lone (fr.raise c') cs w')
def PG(P:Program)(call:sA)(b:Frame)(ops:Array Oper)(k:List Item)(cs:List Frame)(bs:fN):Prop:=
 ∀(a:Act) (i:Nat) (rest:LN) (o:Oper) (φ:cn) (H:AH) (w:World) (m:Nat) (aK:iT) (r:l6),m<=H.bx->iv bs w->ops[i]? =some o->Region.wanted o (yielded ops a.tmps)=true->WR φ bs H w->
  o.semAt b.roundOf a.eval=execOp a.eval o->sC P m bs φ H w (execOp a.eval o) aK->kK P call H none aK=some r->apM P m bs φ H w (b.atR a (.inRegion ops (i::rest)::k)) cs r
theorem anX{P ops ms bt cur H}:∀{l},Gz P ops ms bt cur H l=true->∀j∈l,∃o b,ops[j]? =some o/\nj ops o cur.bZ=some b/\
 (b=true->∃v,f_ P (HA (xw ops ms bt cur j)) H o.op=some v/\∀d,o.dst=some d->cur.bZ d=some v)
 |[],_,j,hj=>by cases hj
 |x::l,h,j,hj=>by
  simp only[Gz,dc]at h;have⟨h1,h2⟩:=h;rcases dK.1 hj with rfl|hj
  .split at h1
   .cases h1
   next o ho=>
    split at h1
    .cases h1
    next hw=>exact⟨o,false,ho,hw,λh=>by cases h⟩
    next hw=>
     split at h1;next v d hv hd=>
      refine⟨o,true,ho,hw,λ_=>⟨v,hv,λd' qW=>?_⟩⟩;rw[hd]at qW;cases qW;cases hc:cur.bZ d with
      |none=>rw[hc]at h1;cases h1
      |some y=>rw[hc]at h1;simp at h1;rw[aBX h1]
     next v hv hd=>refine⟨o,true,ho,hw,λ_=>⟨v,hv,λd' qW=>?_⟩⟩;rw[hd]at qW;cases qW
     .cases h1
  .exact anX h2 j hj
theorem atf(t):∀l i a,(Ig t l).bZ i=some a->i∉l/\t.bZ i=some a:=by
 intro l;induction l generalizing t with
 |nil=>intro i a h;exact⟨(λh=>by cases h),h⟩
 |cons d l ih=>
  intro i a h;have⟨h1,h2⟩:=ih _ i a h;rw[Tr.atL]at h2;split at h2
  .cases h2
  next cK=>
   refine⟨λhm=>?_,h2⟩;rcases dK.1 hm with rfl|hm
   .exact cK rfl
   .exact h1 hm
section
variable{P:Program}{call:sA}{ops:Array Oper}{ms:LN}{bt cur lN:Tr AV}{nt:Nat}{bs:fN}{m:Nat}{iI:Nat->Option Nat}{Dc Da:LN}{H H':AH}{φ aQ:cn}{w w':World}{a:Act}{b:Frame}{k:List Item}{cs:List Frame}
def xm(P:Program)(ops:Array Oper)(bt:Tr AV)(nt:Nat)(bs:fN)(m:Nat)(φ:cn)(H:AH)(w:World)(b:Frame)(k:List Item)(cs:List Frame)(cl:LN)(a:Act):PH->Prop
 |.aI t H'=>∃aQ w' a',Steps P (lone (b.atR a (.inRegion ops cl::k)) cs w) (lone (b.atR a' (.inRegion ops []::k)) cs w')/\a'.defers=a.defers/\TR aQ t nt a'.tmps/\WR aQ bs H' w'/\cI m φ H aQ H'/\cZ bs w w'
 |.dN c H'=>∃aQ w' a' Qn c',Steps P (lone (b.atR a (.inRegion ops cl::k)) cs w) (lone ((b.atR a' (.inRegion ops Qn::k)).raise c') cs w')/\a'.defers=a.defers/\TR aQ (Ig bt (HV ops)) nt a'.tmps/\WR aQ bs H' w'/\cI m φ H aQ H'/\cZ bs w w'/\CR aQ c c'
 |.eV _=>True
theorem xm.step{cl Qn a a' w w' r}(hs:Steps P (lone (b.atR a (.inRegion ops cl::k)) cs w) (lone (b.atR a' (.inRegion ops Qn::k)) cs w'))(hd:a'.defers=a.defers)(he:cI m φ H aQ H')(hk:cZ bs w w')(h:xm P ops bt nt bs m aQ H' w' b k cs Qn a' r):xm P ops bt nt bs m φ H w b k cs cl a r:=by
 cases r with
 |aI t H1=>have⟨jW,w1,a1,g1,g2,g3,g4,g5,g6⟩:=h;exact⟨jW,w1,a1,hs.trans g1,g2.trans hd,g3,g4,he.uB g5,hk.tf g6⟩
 |dN c H1=>have⟨jW,w1,a1,cl1,c1,g1,g2,g3,g4,g5,g6,g7⟩:=h;exact⟨jW,w1,a1,cl1,c1,hs.trans g1,g2.trans hd,g3,g4,he.uB g5,hk.tf g6,g7⟩
 |eV s=>trivial
theorem qF.aFs(iP:xk ops ms)(nR:PG P call b ops k cs bs)(h:qF P ops ms bt nt bs m iI Dc Da cur H φ w a.tmps){c o}(ho:ops[c]? =some o)(hi:c∉Da)(tQ:∀j,kG ms c j->j∈Dc)(kv:qC ms Da)(tV:∀j∈Dc,j∈Da)(hl:rN o.op=false)(q_:nj ops o cur.bZ=some true)(rest):
 match pA P call ops ms bt Da c nt cur H o with
 |.go lN H'=>∃aQ w' a',Steps P (lone (b.atR a (.inRegion ops (c::rest)::k)) cs w) (lone (b.atR a' (.inRegion ops rest::k)) cs w')/\a'.defers=a.defers/\
   qF P ops ms bt nt bs m iI (c::Dc) (c::Da) lN H' aQ w' a'.tmps/\cI m φ H aQ H'/\cZ bs w w'
 |.dN ch H'=>xm P ops bt nt bs m φ H w b k cs (c::rest) a (.dN ch H')
 |.eV _=>True:=by
 have IS:jc ops c=o.dst:=by unfold jc;rw[ho];rfl
 have pn:=h.guard iP ho tQ q_;have u0:n_ φ (iG cur) a.eval o.op.operands.toList:=by
  intro x hx y hy;have hae:∀x,iG cur x=HA cur.bZ x:=λx=>by cases x<;>rfl
  rw[hae]at hy;refine af1 (λt ht z hz=>h.tr t z (.inr ⟨λj hj qg=>?_,hz⟩)) x hx y hy;have htt:t∈OJ o:=NX.2 ⟨.tmp t,ht,rfl⟩;rcases iP.abU c j o t ho htt qg with rfl|hh|hh
  .exact hi hj.1
  .exact hj.2 (tQ j hh)
  .exact hi (kv j hj.1 c hh)
 simp only[rN,Bool.or_eq_false_iff]at hl;unfold pA;rw[q_];simp only[cond_true,hl.1,hl.2,cond_false];unfold To;cases eJ:nM P (iG cur) H o.op with
 |none=>trivial
 |some aK=>
  simp only;cases jP:kK P call H none aK with
  |none=>trivial
  |some r=>
   have ov:∀c,o.op≠.defer c:=by
    intro cc jN;rw[jN]at eJ;simp only[nM,IE]at eJ;split at eJ
    .split at eJ;next fn first lM l _ _=>
      cases hy:wq fn with
      |true=>rw[hy]at eJ;cases eJ
      |false=>rw[hy]at eJ;cases eJ;simp[kK]at jP
     .cases eJ
    .cases eJ
   have FO:=ai6 h.wr h.hb (cE _) u0 eJ;have⟨aQ,w',g1,g2,g3,g4⟩:=nR a c rest o φ H w H.bx aK r (cE _) h.hb ho pn h.wr (zT _ _ ov) FO jP;have⟨e,up,H1⟩:=r;cases e with
   |dN ch=>
    have⟨c',hc,rK⟩:=g4;refine⟨aQ,w',a,c::rest,c',rK,rfl,⟨h.Ep,λi x hx=>?_⟩,g1,g2.mono h.hm,g3,hc⟩;have⟨zq,C_⟩:=atf bt (HV ops) i x hx;have ov:∀j,jc ops j≠some i:=by intro j hj;have⟨o',nO,qW⟩:=LG hj;exact zq (NX.2 ⟨o',Array.mem_toList_iff.2 (Array.mem_of_getElem? nO),qW⟩)
    have⟨v,q1,q2⟩:=h.tr i x (.inr ⟨λj _=>ov j,by rw[h.un i λj _=>ov j];exact C_⟩);exact⟨v,q1,q2.ez g2.1⟩
   |gG v=>
    simp only[Tp];cases lj:oY nt cur o.dst v with
    |none=>trivial
    |some lN=>
     simp only;cases gK:Gz P ops ms bt lN H1 (PV ops ms Da c)with
     |false=>trivial
     |true=>
      simp;have⟨v',hv,rK⟩:=g4;rw[Io ho]at rK;have⟨s1,s2⟩:=TY ho lj;refine⟨aQ,w',a.put o.dst v',rK,DF,?_,g2.mono h.hm,g3⟩;refine⟨g1,h.hb.Eo g3.1,kQ h.hm g2.2.1,by rw[amc];exact h.Ep,?_,?_,λj id hj=>JX (h.aW j id hj) g2.2.1,h.inj,?_⟩
      .intro t x hx;by_cases zp:o.dst=some t
       .have hd:=s1 t zp;rcases hx with⟨j,hj,qg,_⟩|⟨_,hx⟩
        .have:=iP.xa j c t qg hd.2.2;subst this;exact(hj.2 (dY ..)).elim
        .rw[hd.2.1]at hx;cases hx;rw[zp];exact⟨v',amd (by rw[h.Ep];exact hd.1),hv⟩
       .rw[amb zp];have avG:Xn ops bt cur Dc Da t x:=by
         rcases hx with⟨j,hj,qg,hb⟩|⟨mh,hx⟩
         .rcases dK.1 hj.1 with rfl|wb
          .exact(hj.2 (dY ..)).elim
          .exact .inl ⟨j,⟨wb,λhd=>hj.2 (en _ hd)⟩,qg,hb⟩
         .refine .inr ⟨λj hj qg=>?_,by rw[<-s2 t (by rw[IS];exact zp)];exact hx⟩;refine mh j ⟨en _ hj.1,λhd=>?_⟩ qg;rcases dK.1 hd with rfl|hd
          .exact hi hj.1
          .exact hj.2 hd
        have⟨u,q1,q2⟩:=h.tr t x avG;exact⟨u,q1,q2.ez g2.1⟩
      .intro t ht;rw[s2 t (ht c (dY ..))];exact h.un t λj hj=>ht j (en _ hj)
      .intro j hj;have FH:j≠c:=λe=>hj.2 (e▸dY ..)
       have RZ:j∈Da:=by
        rcases dK.1 hj.1 with e|hd
        .exact(FH e).elim
        .exact hd
       have ajg:=λhd=>hj.2 (en _ hd)
       have⟨o',b',U4,p1,p2,p3,p4⟩:=h.Tu j ⟨RZ,ajg⟩;have wk:=adD iP p1 (λd h=>h) hi (kv j RZ) s2;have Z5:∀d,o'.dst=some d->lN.bZ d=cur.bZ d:=by
        intro d hd;refine s2 d λqW=>?_
        have:jc ops j=some d:=by unfold jc;rw[p1];exact hd
        exact FH (iP.xa j c d this qW)
       have p5:=p4.Dh (λd h=>h) hi (kv j RZ) s2;rcases p5 with⟨rfl,rfl⟩|⟨rfl,q,ρ,e,r⟩|⟨rfl,ρ,ob,g,id,e,q1,q2,q3,q4,q5,q6⟩
       .exact⟨o',false,_,p1,by rw[wk];exact p2,λd hd=>⟨(p3 d hd).1,by rw[Z5 d hd];exact(p3 d hd).2⟩,.inl ⟨rfl,rfl⟩⟩
       .by_cases MU:Ss o'.op=true
        .exact⟨o',true,U4,p1,by rw[wk];exact p2,λd hd=>⟨(p3 d hd).1,by rw[Z5 d hd];exact(p3 d hd).2⟩,.inr (.inl ⟨rfl,q,ρ,e,by rw[aE3 MU H1 H];exact r⟩)⟩
        have ZX:j∈PV ops ms Da c:=by refine zN.2 ⟨RZ,?_⟩;rw[p1];simp only[zM,q,r7,zL,dc,rj.2 MU,true_and];exact rj.2 λhh=>ajg (tQ j (Jw.1 hh))
        have⟨o2,b2,t1,t2,t3⟩:=anX gK j ZX;rw[p1]at t1;cases t1;rw[wk,p2]at t2;cases t2;have⟨v2,t4,t5⟩:=t3 rfl;exact⟨o',true,v2,p1,by rw[wk];exact p2,λd hd=>⟨(p3 d hd).1,t5 d hd⟩,.inr (.inl ⟨rfl,q,_,λ_ _=>rfl,t4⟩)⟩
       .have⟨u1,u2⟩:=g2.2.2.1 id (h.aW j id q3) q5;have u2:H1.bc id=H.bc id:=by
         rcases u2 with u2|⟨vs,el,u2⟩
         .exact u2
         .rw[q6]at u2;cases u2;exact absurd rfl (awW q1 vs el)
        exact⟨o',true,U4,p1,by rw[wk];exact p2,λd hd=>⟨(p3 d hd).1,by rw[Z5 d hd];exact(p3 d hd).2⟩,.inr (.inr ⟨rfl,ρ,ob,g,id,e,q1,q2,q3,q4,u1,by rw[u2];exact q6⟩)⟩
theorem afy(iP:xk ops ms):∀(bh) {post c Da iI cur H},qF P ops ms bt nt bs m iI Dc Da cur H φ w a.tmps->qC ms Da->(∀j∈Dc,j∈Da)->
 tn ms Da (bh++c::post)->(∀i∈bh,(ops[i]?).any (rN ·.op)=true)->
 (∃s,ue P call ops ms bt nt (bh++c::post) Da cur H=.eV s)\/
 ∃wm Ha lN H',qF P ops ms bt nt bs m wm Dc Ha lN H' φ w a.tmps/\ue P call ops ms bt nt (bh++c::post) Da cur H=ue P call ops ms bt nt (c::post) Ha lN H'/\cI m φ H φ H'/\
  qC ms Ha/\(∀j∈Dc,j∈Ha)/\tn ms Ha (c::post)/\(∀j,j∈Ha↔j∈Da\/j∈bh)
 |[],post,c,Da,iI,cur,H,h,kv,tV,ht,hl=>.inr ⟨iI,Da,cur,H,h,rfl,cI.jX _ _ _,kv,tV,ht,by simp⟩
 |i::bh,post,c,Da,iI,cur,H,h,kv,tV,ht,hl=>by
  have⟨t1,t2,t3⟩:=ht;have xK:=hl i (dY ..);cases ho:ops[i]? with
  |none=>rw[ho]at xK;cases xK
  |some o=>
   rw[ho]at xK;simp at xK;simp only[oC,ue,ho];cases hs:pA P call ops ms bt Da i nt cur H o with
   |eV s=>exact .inl ⟨s,rfl⟩
   |dN ch H1=>
    exfalso;unfold pA at hs;split at hs
    .cases hs
    next b hb=>
     cases b with
     |false=>simp only[cond_false,sS]at hs;split at hs<;>cases hs
     |true=>
      simp at hs;cases hr:pq o.op with
      |true=>
       rw[hr]at hs;simp only[cond_true,NL]at hs;split at hs
       .simp only[sS]at hs;split at hs<;>cases hs
       .cases hs
      |false=>
       rw[hr]at hs;simp at hs;have:sO o.op=true:=by simpa[rN,hr]using xK
       rw[this]at hs;simp at hs;cases we:rb P (iG cur) o.op with
       |none=>rw[we]at hs;simp[Dz]at hs
       |some r=>have⟨ob,g⟩:=r;obtain⟨hh,n⟩:=H;rw[we]at hs;simp only[Dz,sS]at hs;split at hs<;>cases hs
   |go lN H'=>
    have⟨wm,g1,g2⟩:=h.adv iP ho t2 t1 kv tV (.inl xK) hs;rcases afy iP bh g1 (kv.GW t1) (λj hj=>en _ (tV j hj)) t3 (λj hj=>hl j (en _ hj))with⟨s,hs⟩|⟨ajJ,Ew,BY,H2,q1,q2,q3,q4,q5,q6,q7⟩
    .exact .inl ⟨s,hs⟩
    .refine .inr ⟨ajJ,Ew,BY,H2,q1,q2,g2.uB q3,q4,q5,q6,λj=>?_⟩;rw[q7];simp;constructor
     .rintro((h|h)|h)
      .exact .inr (.inl h)
      .exact .inl h
      .exact .inr (.inr h)
     .rintro(h|h|h)
      .exact .inl (.inr h)
      .exact .inl (.inl h)
      .exact .inr h
theorem abZ(iP:xk ops ms)(nR:PG P call b ops k cs bs):∀(cl) {rest Da Dc last iI cur H φ w a},
 tn ms Dc cl->qC ms Dc->tn ms Da rest->qC ms Da->(∀j∈Dc,j∈Da)->(∀j∈cl,j∈Da\/j∈rest)->(∀j∈rest,j∈cl)->(∀j∈Da,j∈Dc\/j∈cl)->ya ops ms last rest=true->
 qF P ops ms bt nt bs m iI Dc Da cur H φ w a.tmps->xm P ops bt nt bs m φ H w b k cs cl a (ue P call ops ms bt nt rest Da cur H)
 |[],rest,Da,Dc,last,iI,cur,H,φ,w,a,ht,hc,FP,uS,tV,h1,h2,h3,aZ,h=>by
  have:=List.eq_nil_iff_forall_not_mem.2 λj hj=>by cases h2 j hj
  subst this;refine⟨φ,w,a,Steps.refl P _,rfl,⟨h.Ep,λi x hx=>h.tr i x (.inr ⟨λj hj=>?_,hx⟩)⟩,h.wr,cI.jX _ _ _,cZ.kr _ _⟩;rcases h3 j hj.1 with hd|hd
  .exact(hj.2 hd).elim
  .cases hd
 |c::cl,rest,Da,Dc,last,iI,cur,H,φ,w,a,ht,hc,FP,uS,tV,h1,h2,h3,aZ,h=>by
  have⟨t1,t2,t3⟩:=ht;have agf:∀{rest Da:LN} {last:Option Nat} {iI:Nat->Option Nat} {cur:Tr AV} {H:AH},c∈Da->tn ms Da rest->qC ms Da->(∀j∈Dc,j∈Da)->(∀j∈c::cl,j∈Da\/j∈rest)->(∀j∈rest,j∈c::cl)->(∀j∈Da,j∈Dc\/j∈c::cl)->ya ops ms last rest=true->
   qF P ops ms bt nt bs m iI Dc Da cur H φ w a.tmps->xm P ops bt nt bs m φ H w b k cs (c::cl) a (ue P call ops ms bt nt rest Da cur H):=by
   intro rest Da last iI cur H IP FP uS tV h1 h2 h3 aZ h;have⟨aQ,w',a',s1,s2,s3,s4,s5⟩:=h.exec iP ⟨IP,t2⟩ t1 hc;refine xm.step (.one (s1 b k cs cl)) s2 s4 s5 ?_;refine abZ iP nR cl t3 (hc.GW t1) FP uS (λj hj=>?_) (λj hj=>h1 j (en _ hj)) (λj hj=>?_) (λj hj=>?_) aZ s3
   .rcases dK.1 hj with rfl|hj
    .exact IP
    .exact tV j hj
   .rcases dK.1 (h2 j hj)with rfl|CN
    .exact(FP.S8 hj IP).elim
    .exact CN
   .rcases h3 j hj with hd|hd
    .exact .inl (en _ hd)
    .rcases dK.1 hd with rfl|hd
     .exact .inl (dY ..)
     .exact .inr hd
  by_cases IP:c∈Da
  .exact agf IP FP uS tV h1 h2 h3 aZ h
  .have CI:=(h1 c (dY ..)).resolve_left IP;obtain⟨bh,post,rfl⟩:=List.append_of_mem CI;have avk:∀i∈bh,(ops[i]?).any (rN ·.op)=true:=by
    rcases abF bh post c last aZ with⟨e,he,hn⟩|⟨_,hh⟩
    .have:=tV e (t1 e hn);exact(FP.S8 (TE _ he) this).elim
    .exact hh
   rcases afy iP bh h uS tV FP avk with⟨s,hs⟩|⟨ajJ,Ew,BY,H2,q1,q2,q3,q4,q5,q6,q7⟩
   .rw[hs];trivial
   .rw[q2];refine xm.step (Steps.refl P _) rfl q3 (cZ.kr _ _) ?_;have⟨u1,u2,u3⟩:=q6;have⟨awk,MM⟩:=abG bh (c::post) last aZ;have R_:=abG [c] post awk MM;have m1:∀j∈c::cl,j∈c::Ew\/j∈post:=by
     intro j hj;rcases h1 j hj with hh|hh
     .exact .inl (en _ ((q7 j).2 (.inl hh)))
     .rcases iW.1 hh with hh|hh
      .exact .inl (en _ ((q7 j).2 (.inr hh)))
      .rcases dK.1 hh with rfl|hh
       .exact .inl (dY ..)
       .exact .inr hh
    have m2:=λj hj=>h2 j (List.mem_append_right _ (en _ hj))
    have m3:∀j∈c::Ew,j∈Dc\/j∈c::cl:=by
     intro j hj;rcases dK.1 hj with rfl|hj
     .exact .inr (dY ..)
     .rcases(q7 j).1 hj with hh|hh
      .exact h3 j hh
      .exact .inr (h2 j (TE _ hh))
    simp only[ue];cases ho:ops[c]? with
    |none=>trivial
    |some o=>
     simp only;have⟨aHR,R_⟩:=R_;by_cases zm:rN o.op=true\/nj ops o BY.bZ=some false
     .cases hs:pA P call ops ms bt Ew c nt BY H2 o with
      |eV s=>trivial
      |dN ch H3=>
       exfalso;unfold pA at hs;split at hs
       .cases hs
       next bb hb=>
        cases bb with
        |false=>simp only[cond_false,sS]at hs;split at hs<;>cases hs
        |true=>
         have zm:=zm.resolve_right (by rw[hb];simp);simp at hs;cases hr:pq o.op with
         |true=>
          rw[hr]at hs;simp only[cond_true,NL]at hs;split at hs
          .simp only[sS]at hs;split at hs<;>cases hs
          .cases hs
         |false=>
          rw[hr]at hs;simp at hs;have:sO o.op=true:=by simpa[rN,hr]using zm
          rw[this]at hs;simp at hs;cases we:rb P (iG BY) o.op with
          |none=>rw[we]at hs;simp[Dz]at hs
          |some r=>have⟨ob,g⟩:=r;obtain⟨hh,n⟩:=H2;rw[we]at hs;simp only[Dz,sS]at hs;split at hs<;>cases hs
      |go arM H3=>have⟨aHP,g1,g2⟩:=q1.adv iP ho u2 u1 q4 q5 zm hs;refine xm.step (Steps.refl P _) rfl g2 (cZ.kr _ _) ?_;exact agf (dY ..) u3 (q4.GW u1) (λj hj=>en _ (q5 j hj)) m1 m2 m3 R_ g1
     .cases hw:nj ops o BY.bZ with
      |none=>
       have:pA P call ops ms bt Ew c nt BY H2 o=.eV "guard" :=by unfold pA;rw[hw]
       rw[this];trivial
      |some bb=>
       have hbt:bb=true:=by
        cases bb with
        |true=>rfl
        |false=>exact(zm (.inr hw)).elim
       subst hbt;have I3:=rj.2 λhh=>zm (.inl hh)
       have CL:=q1.aFs iP nR ho u2 t1 q4 q5 I3 hw cl;cases hs:pA P call ops ms bt Ew c nt BY H2 o with
       |eV s=>trivial
       |dN ch H3=>rw[hs]at CL;exact CL
       |go arM H3=>
        rw[hs]at CL;have⟨aQ,w',a',s1,s2,s3,s4,s5⟩:=CL;refine xm.step s1 s2 s4 s5 ?_;refine abZ iP nR cl t3 (hc.GW t1) u3 (q4.GW u1) (λj hj=>?_) (λj hj=>m1 j (en _ hj)) (λj hj=>?_) (λj hj=>?_) R_ s3
        .rcases dK.1 hj with rfl|hj
         .exact dY ..
         .exact en _ (q5 j hj)
        .rcases dK.1 (m2 j hj)with rfl|CN
         .exact(u3.S8 hj (dY ..)).elim
         .exact CN
        .rcases m3 j hj with hd|hd
         .exact .inl (en _ hd)
         .rcases dK.1 hd with rfl|hd
          .exact .inl (dY ..)
          .exact .inr hd
theorem axR{pl}(mi:JL ops=some pl)(cU:P.follows .mixedOrders=true)(nR:PG P call b ops k cs bs)(t)(hw:WR φ bs H w)(hb:iv bs w)(hm:m<=H.bx)(ht:TR φ bt nt a.tmps):
 xm P ops bt nt bs m φ H w b k cs (Region.schedule (P.follows .mixedOrders) ops t) a (ue P call ops pl.ms bt nt pl.Er [] bt H):=by
 have⟨h1,h2,h3,h4,iP⟩:=ax3 mi;have⟨g1,g2,g3⟩:=aB0 cU h1 t;refine abZ iP nR _ (iI:=λ_=>none) g1 (qC.nil _) h2 (qC.nil _) (λ_ h=>h) (λj hj=>.inr ((h3 j).1 (g3 j hj))) (λj hj=>g2 j ((h3 j).2 hj)) (λj hj=>by cases hj) h4 ?_;refine⟨hw,hb,hm,ht.1,λt x hx=>?_,λ_ _=>rfl,(λ_ _ h=>by cases h),(λ_ _ _ h=>by cases h),(λj hj=>by cases hj.1)⟩;rcases hx with⟨j,hj,_⟩|⟨_,hx⟩
 .cases hj.1
 .exact ht.2 t x hx
end
def MR(φ:cn):pS->FrameMode->Prop
 |.gF,m=>m=.run
 |.i_,m=>m=.returning
 |.lI c,m=>∃c',m=.panicking c'/\CR φ c c'
def IR(φ:cn):dZ->Item->Prop
 |.gM c,x=>x=.code c
 |.vw id,x=>x=.inBlock id
 |.rq b,x=>x=.inLoop b
 |.uz b,x=>x=.inScope b
 |.Ek l,x=>∃e,φ l=some e/\x=.inRangeFunc e.b
 |.BJ l,x=>∃e,φ l=some e/\x=.endRangeFunc e.b
 |.Ai,x=>x=.beginRound
 |.ik ops i rest,x=>x=.inRegion ops (List.range' i rest.length)/\rest=ops.toList.drop i
def jZ(φ:cn):List dZ->List Item->Prop
 |[],l=>l=[]
 |x::xs,l=>∃y ys,l=y::ys/\IR φ x y/\jZ φ xs ys
def RR(φ:cn):Option Nat->Option Nat->Prop
 |none,r=>r=none
 |some l,r=>∃e,φ l=some e/\r=some e.b
def KR:Option pS->CallKind->Prop
 |none,k=>k=.normal
 |some _,k=>k=.deferred
structure FR(φ:cn)(fr:gg)(b:Frame)(a:Act):Prop where
 fn:b.fn=fr.fn
 tr:TR φ fr.Ah fr.nt a.tmps
 dr:pU φ fr.OX a.defers
 jY:RR φ fr.qx b.roundOf
 kF:KR fr.up b.kind
 pW:fr.up.isSome=true->fr.qx=none
def uC(φ:cn)(fr:gg)(cv:Frame):Prop:=
 match fr.mE with
 |.gF=>∃(b:Frame) (a:Act) (todo:List Item),cv=b.atR a todo/\FR φ fr b a/\jZ φ fr.GV todo
 |m=>FR φ fr cv ⟨cv.tmps,cv.defers⟩/\MR φ m cv.mode
def kI(φ:cn)(up:Option pS)(cs:List Frame):Prop:=
 match up with
 |none=>True
 |some u=>∃c cs',cs=c::cs'/\MR φ u c.mode
def ER(φ:cn):Pd->Ending->Prop
 |.gG v,e=>∃v',e=.returned v'/\VR φ v v'
 |.dN c,e=>∃c',e=.panicked c'/\CR φ c c'
def pV(P:Program)(aQ:cn)(w:World)(w':World)(cv:Frame)(cs:List Frame)(r:l6):Option pS->Option Nat->Prop
 |none,none=>∃j7 e',ER aQ r.e e'/\Steps P (lone cv cs w) (lone j7 cs w')/\j7.leaving P w' e'/\j7.fn=cv.fn
 |some _,_=>∃c cs' uA u' j7 e',cs=c::cs'/\r.up=some uA/\MR aQ uA u'/\ER aQ r.e e'/\Steps P (lone cv cs w) (lone j7 ({c with mode:=u'}::cs') w')/\j7.kind=.deferred/\j7.going P w' e'
 |none,some _=>∀c cs',cs=c::cs'->match r.e with
  |.gG v=>∃v',VR aQ v v'/\Steps P (lone cv cs w) (lone (c.finish v') cs' w')
  |.dN ch=>∃uH,CR aQ ch uH/\Steps P (lone cv cs w) (lone (c.raise uH) cs' w')
def vH(P:Program)(m:Nat)(bs:fN)(φ:cn)(H:AH)(w:World)(cv:Frame)(cs:List Frame)(r:l6)(up:Option pS)(round:Option Nat):Prop:=
 ∃aQ w',WR aQ bs r.H w'/\cI m φ H aQ r.H/\cZ bs w w'/\pV P aQ w w' cv cs r up round
def Pa(P:Program)(call:gg->AH->Option l6):Prop:=
 ∀(fr:gg) (H:AH) (r:l6),call fr H=some r->∀(φ:cn) (w:World) (m:Nat) (bs:fN) (cv:Frame) (cs:List Frame),WR φ bs H w->iv bs w->m<=H.bx->uC φ fr cv->kI φ fr.up cs->vH P m bs φ H w cv cs r fr.up fr.qx
def PC(P:Program)(K:KY):Prop:=
 ∀(f:FuncId) (args:LV) (H:AH) (v:AV) (H':AH),K f args H=some (v,H')->∀(φ:cn) (w:World) (m:Nat) (bs:fN) (args':Array Value) (cs:List Frame),br φ args args'.toList->WR φ bs H w->iv bs w->m<=H.bx->
  vH P m bs φ H w (Frame.enter P f args' .normal) cs ⟨jx v,none,H'⟩ none none
structure mG(P:Program)(call:sA):Prop where
 go:Pa P call.go
 fq:PC P call.fq
section
variable{P:Program}{call:sA}{bs:fN}{m:Nat}{H:AH}{φ:cn}{w:World}
theorem ahz{go}(hc:Pa P go){f args args' up r}(h:(LW P f args up).bind (go · H)=some r)(ha:br φ args args'.toList)(hw:WR φ bs H w)(hb:iv bs w)(hm:m<=H.bx){cs}(hu:kI φ up cs){kind}(hk:KR up kind):vH P m bs φ H w (Frame.enter P f args' kind) cs r up none:=by
 cases he:LW P f args up with
 |none=>rw[he]at h;cases h
 |some fr=>
  rw[he]at h;simp at h;unfold LW at he;split at he;next fn jz=>
   split at he;next c auF=>
    have⟨cA,he⟩:=dj he;have cA:=pE cA;cases he;have bS:args'.size<=fn.ntmps:=by have:=ha.jh;simp at this;omega
    refine hc _ H r h φ w m bs _ cs hw hb hm ?_ hu;let b:Frame:={(default:Frame)with fn:=f,kind:=kind,roundOf:=none}
    refine⟨b,{tmps:=args'++Array.replicate (fn.ntmps-args'.size) undef,defers:=[]},[.code c],?_,⟨rfl,⟨?_,?_⟩,rfl,rfl,hk,λ_=>rfl⟩,⟨_,_,rfl,rfl,rfl⟩⟩
    .simp[Frame.enter,Frame.atR,jz,auF,b]
    .simp;omega
    .intro i x hx;rw[Tr.aim]at hx;split at hx;next hi=>
      simp at hx;have⟨v,h1,h2⟩:=ha.get hx;refine⟨v,?_,h2⟩;rw[Array.getElem?_append_left]
      .simpa using h1
      .have:=(NW.1 h1).1;simpa using this
     .cases hx
   .cases he
  .cases he
theorem YW(hc:mG P call){f args args' up r}(h:LX P call f args up H=some r)(ha:br φ args args'.toList)(hw:WR φ bs H w)(hb:iv bs w)(hm:m<=H.bx){cs}(hu:kI φ up cs){kind}(hk:KR up kind):vH P m bs φ H w (Frame.enter P f args' kind) cs r up none:=by
 unfold LX at h;split at h;next v H' hkn=>cases h;have hk':=hk;subst hk';exact hc.fq f args H v H' hkn φ w m bs args' cs ha hw hb hm
 .exact ahz hc.go h ha hw hb hm hu hk
theorem aib(nt):∀l:List (Tmp×AV),l.foldl (λt (p,a)=>t.bind λt=>oY nt t (some p) a) none=none
 |[]=>rfl
 |_::l=>by simp;exact aib nt l
theorem aia{nt}:∀(ps:List Tmp) (as vs) {t t' tmps},br φ as vs->TR φ t nt tmps->
 (ps.zip as).foldl (λt (p,a)=>t.bind λt=>oY nt t (some p) a) (some t)=some t'->TR φ t' nt ((ps.zip vs).foldl (λtmps (t,a)=>tmps.setIfInBounds t a) tmps)
 |[],as,vs,t,t',tmps,_,ht,h=>by simp at h;subst h;simpa using ht
 |p::ps,[],vs,t,t',tmps,ha,ht,h=>by subst ha;simp at h;subst h;simpa using ht
 |p::ps,a::as,vs,t,t',tmps,ha,ht,h=>by
  obtain⟨v,eF,rfl,hv,jC⟩:=ha;simp at h⊢;cases hs:oY nt t (some p) a with
  |none=>rw[hs,aib]at h;cases h
  |some t1=>rw[hs]at h;have:=TR.put (a:=⟨tmps,[]⟩) ht hs hv;exact aia ps as eF jC this h
theorem ayL(hc:mG P call){l ob e args args' r}(eU:H.bc l=some ob)(h:(Bu ob l args).bind (call.go · H)=some r)(he:φ l=some e)(ha:br φ args args'.toList)(hw:WR φ bs H w)(hb:iv bs w)(hm:m<=H.bx)(cs):
 ∃f tmps assign body,(Instr.yield e.b args').run P w=.ok (.round e.b f tmps assign body) w/\vH P m bs φ H w (Frame.round e.b f tmps assign body .normal) cs r none (some l):=by
 unfold Bu at h;split at h;next st p fn tmps nt params assign body d=>
  cases bS:Nat.beq args.length params.length with
  |false=>rw[bS]at h;cases h
  |true=>
   rw[bS]at h;simp at h;have bS:=dw bS;obtain⟨o,hg,o5,ed,rfl,hd,ht⟩:=hw.eI l _ e eU he;split at h;next t' RV=>
    simp at h;have cx:args'.size=params.length:=by have:=ha.jh;simp at this;omega
    refine⟨fn,(params.toArray.zip args').foldl (λtmps (t,a)=>tmps.setIfInBounds t a) o5,assign,body,?_,?_⟩
    .exact run_yield hg (by simpa using cx)
    .refine hc.go _ H r h φ w m bs _ cs hw hb hm ?_ trivial;let b:Frame:={(default:Frame)with fn:=fn,kind:=.normal,roundOf:=some e.b}
     refine⟨b,{tmps:=(params.toArray.zip args').foldl (λtmps (t,a)=>tmps.setIfInBounds t a) o5,defers:=[]},[.code assign,.beginRound,.code body],?_,⟨rfl,?_,rfl,⟨e,he,rfl⟩,rfl,λh=>by cases h⟩,⟨_,_,rfl,rfl,_,_,rfl,rfl,_,_,rfl,rfl,rfl⟩⟩
     .simp[Frame.round,Frame.atR,b]
     .have:=aia params args args'.toList ha ht RV;have e1:(params.toArray.zip args').foldl (λtmps (t,a)=>tmps.setIfInBounds t a) o5=(params.zip args'.toList).foldl (λtmps (t,a)=>tmps.setIfInBounds t a) o5:=by rw[<-Array.foldl_toList,Array.toList_zip]
      rw[show(({tmps:=(params.toArray.zip args').foldl (λtmps (t,a)=>tmps.setIfInBounds t a) o5,defers:=[]}:Act)).tmps=_ from e1];exact this
   .cases h
 .cases h
theorem acE{fr Yw c cs OU r round}(h:vH P m bs φ H w fr (c::cs) r none round)(hs:Steps P (lone Yw cs OU) (lone fr (c::cs) w))(hk:cZ bs OU w):
 ∃aQ w',WR aQ bs r.H w'/\cI m φ H aQ r.H/\cZ bs OU w'/\match r.e with
 |.gG v=>∃v',VR aQ v v'/\Steps P (lone Yw cs OU) (lone (c.finish v') cs w')
 |.dN ch=>∃c',CR aQ ch c'/\Steps P (lone Yw cs OU) (lone (c.raise c') cs w'):=by
 have⟨aQ,w',h1,h2,h3,h4⟩:=h;refine⟨aQ,w',h1,h2,hk.tf h3,?_⟩;cases round with
 |none=>
  have⟨j7,e',he,gK,hl,_⟩:=h4;have⟨e,up,H1⟩:=r;cases e with
  |gG v=>obtain⟨v',rfl,hv⟩:=he;exact⟨v',hv,hs.trans (gK.trans (.one (step_leave_returned hl)))⟩
  |dN ch=>obtain⟨c',rfl,hv⟩:=he;exact⟨c',hv,hs.trans (gK.trans (.one (step_leave_panicked hl)))⟩
 |some l=>
  have:=h4 c cs rfl;have⟨e,up,H1⟩:=r;cases e with
  |gG v=>have⟨v',hv,gK⟩:=this;exact⟨v',hv,hs.trans gK⟩
  |dN ch=>have⟨v',hv,gK⟩:=this;exact⟨v',hv,hs.trans gK⟩
theorem alQ(hc:mG P call)(b ops k cs):PG P call b ops k cs bs:=by
 intro a i rest o φ H w m aK r hm hb ho q_ hw aas eJ jP;cases aK with
 |gU v H'=>cases jP;have⟨aQ,w',v',h1,h2,h3,h4,h5⟩:=eJ;refine⟨aQ,w',h3,h4,h5,v',h2,?_⟩;rw[Io ho];exact .one (J4 ho q_ (by rw[aas];exact h1))
 |qA f args=>have⟨args',h1,h2⟩:=eJ;have:=YW (cs:=b.atR a (.inRegion ops (i::rest)::k)::cs) hc jP h2 hw hb hm trivial rfl;exact acE this (.one (aEZ ho q_ (by rw[aas];exact h1))) (cZ.kr _ _)
 |vD l args=>
  have⟨e,args',h0,h1,h2⟩:=eJ;simp only[kK]at jP;split at jP;next ob eU=>have⟨f,tmps,assign,body,g1,g2⟩:=ayL hc eU jP h0 h2 hw hb hm (b.atR a (.inRegion ops (i::rest)::k)::cs);exact acE g2 (.one (aE1 ho q_ (by rw[aas,h1];exact g1))) (cZ.kr _ _)
  .cases jP
 |xd d=>cases jP
 |vC v=>cases jP
 |xe=>cases jP
end
theorem CR.mono{φ ψ}(h:dE φ ψ):∀{c l},CR φ c l->CR ψ c l
 |[],_,hc=>hc
 |(v,r)::c,l,hc=>by obtain⟨v',l',rfl,h1,h2⟩:=hc;exact⟨v',l',rfl,VR.ez h _ _ h1,CR.mono h h2⟩
theorem MR.mono{φ ψ}(h:dE φ ψ){m fm}(hm:MR φ m fm):MR ψ m fm:=by
 cases m with
 |gF=>exact hm
 |i_=>exact hm
 |lI c=>have⟨c',h1,h2⟩:=hm;exact⟨c',h1,h2.mono h⟩
theorem IR.mono{φ ψ}(h:dE φ ψ){x y}(hx:IR φ x y):IR ψ x y:=by
 cases x<;>first
  |exact hx
  |(have⟨e,h1,h2⟩:=hx;exact⟨e,h _ _ h1,h2⟩)
theorem jZ.Kn{φ ψ}(h:dE φ ψ):∀{xs ys},jZ φ xs ys->jZ ψ xs ys
 |[],_,hx=>hx
 |x::xs,ys,hx=>by obtain⟨y,su,rfl,h1,h2⟩:=hx;exact⟨y,su,rfl,h1.mono h,jZ.Kn h h2⟩
theorem RR.mono{φ ψ}(h:dE φ ψ){r r'}(hr:RR φ r r'):RR ψ r r':=by
 cases r with
 |none=>exact hr
 |some l=>have⟨e,h1,h2⟩:=hr;exact⟨e,h _ _ h1,h2⟩
theorem FR.Ak{φ ψ}(h:dE φ ψ){fr b a}(hf:FR φ fr b a):FR ψ fr b a:=
 ⟨hf.fn,hf.tr.mono h,hf.dr.GY h,hf.jY.mono h,hf.kF,hf.pW⟩
theorem kI.mono{φ ψ}(h:dE φ ψ){up cs}(hu:kI φ up cs):kI ψ up cs:=by
 cases up with
 |none=>trivial
 |some u=>have⟨c,cs',h1,h2⟩:=hu;exact⟨c,cs',h1,h2.mono h⟩
def yG(up:Option pS)(cs pb:List Frame):Prop:=
 match up with
 |none=>pb=cs
 |some _=>∃c cs' u,cs=c::cs'/\pb={c with mode:=u}::cs'
theorem yG.GX{φ up cs}(h:kI φ up cs):yG up cs cs:=by
 cases up with
 |none=>rfl
 |some u=>obtain⟨c,cs',rfl,_⟩:=h;exact⟨c,cs',c.mode,rfl,rfl⟩
def kH(P:Program)(m:Nat)(bs:fN)(φ:cn)(H:AH)(w:World)(fr:gg)(cv:Frame)(cs:List Frame):j0->Prop
 |.go fr' H'=>∃aQ w' j7 pb,Steps P (lone cv cs w) (lone j7 pb w')/\uC aQ fr' j7/\kI aQ fr'.up pb/\yG fr.up cs pb/\fr'.qx=fr.qx/\fr'.up.isSome=fr.up.isSome/\
   WR aQ bs H' w'/\cI m φ H aQ H'/\cZ bs w w'/\j7.fn=cv.fn
 |.Am r=>vH P m bs φ H w cv cs r fr.up fr.qx
 |.eV _=>True
section
variable{P:Program}{call:sA}{bs:fN}{m:Nat}{H H':AH}{φ aQ:cn}{w w':World}{fr fr':gg}{b:Frame}{a a':Act}{todo pJ:List Item}{cs:List Frame}
theorem y9(hs:Steps P (lone (b.atR a todo) cs w) (lone (b.atR a' pJ) cs w'))(hf:FR aQ fr' b a')(hr:fr'.mE=.gF)(hi:jZ aQ fr'.GV pJ)(hw:WR aQ bs H' w')(he:cI m φ H aQ H')(hk:cZ bs w w')
 (xP:fr'.up=fr.up) (gw:fr'.qx=fr.qx) (hu:kI φ fr.up cs):kH P m bs φ H w fr (b.atR a todo) cs (.go fr' H'):=by
 refine⟨aQ,w',b.atR a' pJ,cs,hs,?_,?_,yG.GX hu,gw,by rw[xP],hw,he,hk,rfl⟩
 .unfold uC;rw[hr];exact⟨b,a',pJ,rfl,hf,hi⟩
 .rw[xP];exact hu.mono he.1
theorem uq{k}(dW:fr.mE=.gF)(hs:Steps P (lone (b.atR a todo) cs w) (lone (b.atR a pJ) cs w'))(wk:w'.heap=w.heap)(hf:FR φ fr b a)(hi:jZ φ k pJ)(hw:WR φ bs H w)(hu:kI φ fr.up cs)(gK:vJ w w':=by exact⟨rfl,rfl,rfl⟩):
 kH P m bs φ H w fr (b.atR a todo) cs (to fr H k):=by
 have⟨fn,tmps,nt,td,defers,mode,up,round⟩:=fr;exact y9 hs ⟨hf.fn,hf.tr,hf.dr,hf.jY,hf.kF,hf.pW⟩ dW hi (hw.sj wk) (cI.jX _ _ _) (cZ.sj wk gK) rfl rfl hu
theorem jZ.UU{x xs ys}(h:jZ φ (x::xs) ys):∃y su,ys=y::su/\IR φ x y/\jZ φ xs su:=h
theorem ahK:∀{k ys id},jZ φ k ys->match Fc id k with|some k'=>∃su,exitTo id ys=some su/\jZ φ k' su|none=>exitTo id ys=none
 |[],ys,id,h=>by cases h;rfl
 |x::k,ys,id,h=>by
  obtain⟨y,su,rfl,h1,h2⟩:=h;have ih:=ahK (id:=id) h2;cases x with
  |vw iq=>
   cases h1;simp only[Fc,exitTo];by_cases he:(iq==id)=true
   .rw[aL he,aL he];exact⟨_,rfl,h2⟩
   .rw[az he,az he];exact ih
  |gM c=>cases h1;exact ih
  |rq c=>cases h1;exact ih
  |uz c=>cases h1;exact ih
  |Ek l=>obtain⟨e,_,rfl⟩:=h1;exact ih
  |BJ l=>obtain⟨e,_,rfl⟩:=h1;exact ih
  |Ai=>cases h1;exact ih
  |ik ops i l=>obtain⟨rfl,_⟩:=h1;exact ih
theorem aiv:∀{k ys l},jZ φ k ys->match Iv l k with|some k'=>∃su,gotoIn l ys=some su/\jZ φ k' su|none=>gotoIn l ys=none
 |[],ys,id,h=>by cases h;rfl
 |x::k,ys,id,h=>by
  obtain⟨y,su,rfl,h1,h2⟩:=h;have ih:=aiv (l:=id) h2;cases x with
  |uz c=>
   cases h1;simp only[Iv,gotoIn];cases hl:findLabel c id with
   |some rest=>exact⟨_,rfl,_,_,rfl,rfl,_,_,rfl,rfl,h2⟩
   |none=>exact ih
  |gM c=>cases h1;exact ih
  |rq c=>cases h1;exact ih
  |vw c=>cases h1;exact ih
  |Ek l=>obtain⟨e,_,rfl⟩:=h1;exact ih
  |BJ l=>obtain⟨e,_,rfl⟩:=h1;exact ih
  |Ai=>cases h1;exact ih
  |ik ops i l=>obtain⟨rfl,_⟩:=h1;exact ih
theorem WR.loop(hw:WR φ bs H w){l d st jT p p' fn tmps nt ps x y e}(he:φ l=some e)(ho:H.bc l=some (.hQ st p fn tmps nt ps x y d)):
 ∃r:Loop,w.heap[e.b]? =some (.loop r)/\r.state=st/\r.pending=p/\WR φ bs (H.cV l (.hQ jT p' fn tmps nt ps x y d)) (w.putObj e.b (.loop {r with state:=jT,pending:=p'}))/\cZ bs w (w.putObj e.b (.loop {r with state:=jT,pending:=p'})):=by
 obtain⟨o,hg,o5,ed,rfl,hd,ht⟩:=hw.eI l _ e ho he;have ay:=(hw.lt l e he).1;refine⟨_,hg,rfl,rfl,?_,?_⟩
 .exact hw.put ho rfl he World.putObj_size (λb hb=>World.putObj_heap_other hb) ⟨_,World.putObj_heap_same ay,o5,ed,rfl,hd,ht⟩
 .exact cZ.NB hw he World.putObj_size (λb hb=>World.putObj_heap_other hb)
theorem SC(dW:fr.mE=.gF)(hf:FR φ fr b a)(hw:WR φ bs H w)(hu:kI φ fr.up cs){pr}(h1:b.roundOf=none->(pr=none\/pr=some .ret)->step P (lone (b.atR a todo) cs w)=.next (lone {b.atR a todo with mode:=.returning} cs w))(h2:∀l c cs' v w',cs=c::cs'->b.roundOf=some l->b.kind=.normal->(Instr.endRound l pr).run P w=.ok v w'->step P (lone (b.atR a todo) (c::cs') w)=.next (lone (c.finish v) cs' w')):
 kH P m bs φ H w fr (b.atR a todo) cs (u9 fr H pr):=by
 have⟨fn,tmps,nt,td,defers,mode,up,round⟩:=fr;cases dW;cases round with
 |none=>
  have gw:=hf.jY;have key:(pr=none\/pr=some .ret)->kH P m bs φ H w ⟨fn,tmps,nt,td,defers,.gF,up,none⟩ (b.atR a todo) cs (.go ⟨fn,tmps,nt,td,defers,.i_,up,none⟩ H):=by intro hj;refine⟨φ,w,{b.atR a todo with mode:=.returning},cs,.one (h1 gw hj),⟨⟨hf.fn,hf.tr,hf.dr,hf.jY,hf.kF,hf.pW⟩,rfl⟩,hu,yG.GX hu,rfl,rfl,hw,cI.jX _ _ _,cZ.kr _ _,rfl⟩
  simp only[u9];split
  .exact key (.inl rfl)
  .exact key (.inr rfl)
  .trivial
 |some l=>
  have⟨e,he,gw⟩:=hf.jY;simp only[u9,aa3];split;next st p lf lt ln ps x y d eU=>
   have xP:up=none:=by
    cases up with
    |none=>rfl
    |some u=>have:=hf.pW rfl;cases this
   subst xP;have gK:(if pr.isNone then LoopState.ready else .done)=(bif pr.isNone then .ready else .done):=by cases pr<;>rfl
   have⟨r,hg,_,_,tW,oP⟩:=hw.loop (jT:=bif pr.isNone then .ready else .done) (p':=pr) he eU;refine⟨φ,_,tW,cI.o8 he _,oP,?_⟩;intro c cs' gQ;have hr:=run_endRound (P:=P) pr hg;rw[gK]at hr;subst gQ;exact⟨_,rfl,.one (h2 e.b c cs' _ _ rfl gw hf.kF hr)⟩
  .trivial
theorem aww(dW:fr.mE=.gF)(hf:FR φ fr b a)(hw:WR φ bs H w)(hu:kI φ fr.up cs):kH P m bs φ H w fr (b.atR a []) cs (u9 fr H none):=
 SC dW hf hw hu (λhb _=>stepR_end hb) (λl c cs' v w' _ gw hk hr=>stepR_round_end gw hk hr)
theorem awz(dW:fr.mE=.gF)(hf:FR φ fr b a)(hw:WR φ bs H w)(hu:kI φ fr.up cs){k}:kH P m bs φ H w fr (b.atR a (.code .ret::k)) cs (u9 fr H (some .ret)):=
 SC dW hf hw hu (λhb _=>stepR_ret hb) (λl c cs' v w' _ gw hk hr=>stepR_round_ret gw hk hr)
theorem awx(dW:fr.mE=.gF)(hf:FR φ fr b a)(hw:WR φ bs H w)(hu:kI φ fr.up cs){k id}(hx:exitTo id k=none):kH P m bs φ H w fr (b.atR a (.code (.exit id)::k)) cs (u9 fr H (some (.exit id))):=
 SC dW hf hw hu (λ_ h=>by rcases h with h|h<;>cases h) (λl c cs' v w' _ gw hk hr=>stepR_round_exit gw hk hx hr)
theorem awy(dW:fr.mE=.gF)(hf:FR φ fr b a)(hw:WR φ bs H w)(hu:kI φ fr.up cs){k id}(hx:gotoIn id k=none):kH P m bs φ H w fr (b.atR a (.code (.goto id)::k)) cs (u9 fr H (some (.goto id))):=
 SC dW hf hw hu (λ_ h=>by rcases h with h|h<;>cases h) (λl c cs' v w' _ gw hk hr=>stepR_round_goto gw hk hx hr)
theorem aqG(dW:fr.mE=.gF)(hf:FR φ fr b a)(hw:WR φ bs H w)(hu:kI φ fr.up cs){k ks}(hi:jZ φ k ks):kH P m bs φ H w fr (b.atR a (.beginRound::ks)) cs (Ub fr H k):=by
 have⟨fn,tmps,nt,td,defers,mode,up,round⟩:=fr;cases dW;cases round with
 |none=>trivial
 |some l=>
  have⟨e,he,gw⟩:=hf.jY;simp only[Ub];split;next p lf lt ln ps x y d eU=>
   have⟨r,hg,gK,hp,tW,oP⟩:=hw.loop (jT:=.busy) (p':=p) he eU;have hr:=run_beginRound (P:=P) hg gK;have e2:({r with state:=.busy,pending:=p}:Loop)={r with state:=.busy}:=by rw[<-hp]
   rw[e2]at tW oP;exact y9 (.one (stepR_beginRound gw hr)) ⟨hf.fn,hf.tr,hf.dr,hf.jY,hf.kF,hf.pW⟩ rfl hi tW (cI.o8 he _) oP rfl rfl hu
  .trivial
theorem asW(dW:fr.mE=.gF)(hf:FR φ fr b a)(hw:WR φ bs H w)(hu:kI φ fr.up cs){l e}(he:φ l=some e){k ks}(hi:jZ φ k ks):kH P m bs φ H w fr (b.atR a (.endRangeFunc e.b::ks)) cs (Uc fr H l k):=by
 have key:∀(st:LoopState) p lf lt ln ps x y d,H.bc l=some (.hQ st p lf lt ln ps x y d)->st≠.busy->kH P m bs φ H w fr (b.atR a (.endRangeFunc e.b::ks)) cs (to fr (H.cV l (.hQ .exhausted p lf lt ln ps x y d)) (Tv p k)):=by
  intro st p lf lt ln ps x y d eU gK;have⟨r,hg,avt,hp,tW,oP⟩:=hw.loop (jT:=.exhausted) (p':=p) he eU;have hr:=run_endLoop (P:=P) hg (by rw[avt];exact gK);rw[hp]at hr;have⟨fn,tmps,nt,td,defers,mode,up,round⟩:=fr;cases dW;refine y9 (.one (stepR_endRangeFunc hr)) ⟨hf.fn,hf.tr,hf.dr,hf.jY,hf.kF,hf.pW⟩ rfl ?_ tW (cI.o8 he _) oP rfl rfl hu;cases p with
  |none=>exact hi
  |some c=>exact⟨_,_,rfl,rfl,hi⟩
 unfold Uc;split;next eU=>exact key _ _ _ _ _ _ _ _ _ eU (by simp)
 next eU=>exact key _ _ _ _ _ _ _ _ _ eU (by simp)
 .trivial
end
section
variable{P:Program}{call:sA}{bs:fN}{m:Nat}{H H':AH}{φ aQ:cn}{w w':World}{fr fr':gg}{b:Frame}{a a':Act}{todo pJ:List Item}{cs:List Frame}
theorem NF{o v v' an9}(dW:fr.mE=.gF)(hs:Steps P (lone (b.atR a todo) cs w) (lone (b.atR (a.put o.dst v') pJ) cs w'))(hf:FR aQ fr b a)(hv:VR aQ v v')(hi:jZ aQ an9 pJ)(hw:WR aQ bs H' w')(he:cI m φ H aQ H')(hk:cZ bs w w')(hu:kI φ fr.up cs):kH P m bs φ H w fr (b.atR a todo) cs (rW fr o an9 v H'):=by
 have⟨fn,tmps,nt,td,defers,mode,up,round⟩:=fr;cases dW;simp only[rW];split;next t lj=>exact y9 hs ⟨hf.fn,TR.put hf.tr lj hv,by rw[DF];exact hf.dr,hf.jY,hf.kF,hf.pW⟩ rfl hi hw he hk rfl rfl hu
 .trivial
theorem acb{c c'}(dW:fr.mE=.gF)(hs:Steps P (lone (b.atR a todo) cs w) (lone ((b.atR a' pJ).raise c') cs w'))(hd:a'.defers=a.defers){t}(ht:TR aQ t fr.nt a'.tmps){k}(hf:FR φ fr b a)(hc:CR aQ c c')(hw:WR aQ bs H' w')(he:cI m φ H aQ H')(hk:cZ bs w w')(hu:kI φ fr.up cs):kH P m bs φ H w fr (b.atR a todo) cs (.go ⟨fr.fn,t,fr.nt,k,fr.OX,yk fr.mE c,fr.up,fr.qx⟩ H'):=by have⟨fn,tmps,nt,td,defers,mode,up,round⟩:=fr;cases dW;have RT:=hf.Ak he.1;refine⟨aQ,w',(b.atR a' pJ).raise c',cs,hs,⟨⟨hf.fn,ht,?_,RT.jY,hf.kF,hf.pW⟩,⟨c',rfl,hc⟩⟩,hu.mono he.1,yG.GX hu,rfl,rfl,hw,he,hk,rfl⟩;show pU aQ defers a'.defers;rw[hd];exact RT.dr
theorem anc{ops:Array Oper}{i o rest}(h:o::rest=ops.toList.drop i):ops[i]? =some o/\rest=ops.toList.drop (i+1):=by
 constructor
 .have:(ops.toList.drop i)[0]? =some o:=by rw[<-h];rfl
  rw[vj]at this;simpa using this
 .have:(ops.toList.drop i).drop 1=rest:=by rw[<-h];rfl
  rw[wM]at this;exact this.symm
theorem an0{ops k i rest o}(ho:ops[i]? =some o)(hw:Region.wanted o (yielded ops a.tmps)=true)(hb:b.roundOf=none)(hr:(o.semAt b.roundOf a.eval).run P w=.ok .recover w'):
 step P (lone (b.atR a (.inRegion ops (i::rest)::k)) cs w)=match tryRecover (b.atR a (.inRegion ops (i::rest)::k)) cs with
  |some (v,cs')=>.next (lone (b.atR (a.put o.dst v) (.inRegion ops rest::k)) cs' w')
  |none=>.next (lone (b.atR (a.put o.dst .nilIface) (.inRegion ops rest::k)) cs w'):=by
 have hg:=stepGR_op (P:=P) (b:=b) (k:=k) (cs:=cs) (w:=w) (rest:=rest) ho hw;have gw:(b.atR a (.inRegion ops (i::rest)::k)).roundOf=none:=hb;cases ht:tryRecover (b.atR a (.inRegion ops (i::rest)::k)) cs with
 |none=>refine step_lone_go ?_;rw[hg,<-Io ho];simp[stepG.apply,hr,gw,ht]
 |some r=>have⟨v,cs'⟩:=r;refine step_lone_go ?_;rw[hg,<-Io ho];simp[stepG.apply,hr,gw,ht]
theorem aB1(hc:mG P call)(dW:fr.mE=.gF)(hf:FR φ fr b a)(hw:WR φ bs H w)(hb:iv bs w)(hm:m<=H.bx)(hu:kI φ fr.up cs){ops i o rest k ks}(FC:o::rest=ops.toList.drop i)(hi:jZ φ k ks):kH P m bs φ H w fr (b.atR a (.inRegion ops (List.range' i (rest.length+1))::ks)) cs (zW P call fr H ops i o rest k):=by
 obtain⟨ho,aaq⟩:=anc FC;rw[List.range'_succ];have u4:=hf.tr;have A3:∀{ψ:cn},dE φ ψ->jZ ψ (.ik ops (Nat.succ i) rest::k) (.inRegion ops (List.range' (i+1) rest.length)::ks):=λh=>⟨_,_,rfl,⟨rfl,aaq⟩,hi.Kn h⟩
 have u0:n_ φ (iG fr.Ah) a.eval o.op.operands.toList:=TR.vq u4 _;obtain⟨fn,tmps,nt,td,defers,mode,up,round⟩:=fr;cases dW;simp only at u4 u0;simp only[zW];cases q_:nj ops o tmps.bZ with
 |none=>trivial
 |some bb=>
  simp only;have pn:Region.wanted o (yielded ops a.tmps)=bb:=adE (cur:=tmps) q_ λg pL d x _ _ hx=>u4.2 d x hx
  cases bb with
  |false=>simp only[cond_false];refine NF (v':=undef) rfl (.one ?_) hf (Kc φ) (A3 (dE.refl φ)) hw (cI.jX _ _ _) (cZ.kr _ _) hu;have:=stepR_op_skip (P:=P) (b:=b) (a:=a) (k:=ks) (cs:=cs) (w:=w) (ops:=ops) (i:=i) (rest:=List.range' (i+1) rest.length) (by simp[ho,pn]);simpa[ho]using this
  |true=>
   simp only[cond_true];cases hr:pq o.op with
   |true=>
    simp only[cond_true];cases hv:f_ P (iG tmps) H o.op with
    |none=>trivial
    |some v=>obtain⟨v',h1,h2⟩:=amm hw u0 hv;simp only[acJ];exact NF rfl (.one (J4 ho pn (.inl (by rw[zT _ _ (aml hr)];exact h1)))) hf h2 (A3 (dE.refl φ)) hw (cI.jX _ _ _) (cZ.kr _ _) hu
   |false=>
    simp only[cond_false];cases zn:sO o.op with
    |true=>
     simp only[cond_true];cases we:rb P (iG tmps) o.op with
     |none=>trivial
     |some r=>obtain⟨ob,g⟩:=r;obtain⟨hh,n⟩:=H;obtain⟨o',sz,f,h1,h2,h3,h4⟩:=akV u0 we;obtain⟨g1,g2,g3⟩:=hw.zy hb h2 hm;simp only[acI];exact NF rfl (.one (J4 ho pn (.inl (by rw[zT _ _ (akU we)];exact h1 w)))) (hf.Ak g2.1) (h3 _ n _ (mL ..)) (A3 g2.1) g1 g2 g3 hu
    |false=>
     simp only[cond_false];cases eJ:nM P (iG tmps) H o.op with
     |none=>trivial
     |some aK=>
      have FO:=ai6 hw hb hm u0 eJ;have auZ:∀r,kK P call H none aK=some r->kH P m bs φ H w ⟨fn,tmps,nt,td,defers,.gF,up,round⟩ (b.atR a (.inRegion ops (i::List.range' (i+1) rest.length)::ks)) cs
       (zU ⟨fn,tmps,nt,td,defers,.gF,up,round⟩ o (.ik ops (Nat.succ i) rest::k) (some r)):=by
       intro r jP;have ov:∀c,o.op≠.defer c:=by
        intro cc jN;rw[jN]at eJ;simp only[nM,IE]at eJ;split at eJ
        .split at eJ;next fn first lM l _ _=>
          cases hy:wq fn with
          |true=>rw[hy]at eJ;cases eJ
          |false=>rw[hy]at eJ;cases eJ;simp[kK]at jP
         .cases eJ
        .cases eJ
       have⟨aQ,w',g1,g2,g3,g4⟩:=alQ hc b ops ks cs a i (List.range' (i+1) rest.length) o φ H w m aK r hm hb ho pn hw (zT _ _ ov) FO jP;have⟨e,Kd,H1⟩:=r;cases e with
       |gG v=>have⟨v',hv,rK⟩:=g4;rw[Io ho]at rK;exact NF rfl rK (hf.Ak g2.1) hv (A3 g2.1) g1 g2 g3 hu
       |dN c=>have⟨c',CI,rK⟩:=g4;exact acb rfl rK rfl (u4.mono g2.1) hf CI g1 g2 g3 hu
      have jP:kH P m bs φ H w ⟨fn,tmps,nt,td,defers,.gF,up,round⟩ (b.atR a (.inRegion ops (i::List.range' (i+1) rest.length)::ks)) cs
       (zU ⟨fn,tmps,nt,td,defers,.gF,up,round⟩ o (.ik ops (Nat.succ i) rest::k) (kK P call H none aK)):=by
       cases hd:kK P call H none aK with
       |none=>trivial
       |some r=>exact auZ r hd
      cases aK with
      |gU v H1=>exact jP
      |qA f args=>exact jP
      |vD l args=>exact jP
      |xd d=>
       simp only[yq,ana];split;next e=>
        cases e;split;next t lj=>have⟨d',h1,h2⟩:=FO;have gw:=hf.jY;refine y9 (.one (aEY ho pn (by rw[gw];exact h1))) ⟨hf.fn,TR.put u4 lj (Kc φ),?_,hf.jY,hf.kF,hf.pW⟩ rfl (A3 (dE.refl φ)) hw (cI.jX _ _ _) (cZ.kr _ _) rfl rfl hu;rw[DF];exact⟨d',a.defers,rfl,h2,hf.dr⟩
        .trivial
       .trivial
      |vC v=>
       have⟨v',h1,h2⟩:=FO;have ov:∀c,o.op≠.defer c:=by
        intro cc jN;rw[jN]at eJ;simp only[nM,IE]at eJ;split at eJ
        .split at eJ;next fn first lM l _ _=>
          cases hy:wq fn with
          |true=>rw[hy]at eJ;cases eJ
          |false=>rw[hy]at eJ;cases eJ
         .cases eJ
        .cases eJ
       exact acb rfl (.one (aE0 ho pn (by rw[zT _ _ ov];exact h1))) rfl u4 hf ⟨v',[],rfl,h2,rfl⟩ hw (cI.jX _ _ _) (cZ.kr _ _) hu
      |xe=>
       have ov:∀c,o.op≠.defer c:=by
        intro cc jN;rw[jN]at eJ;simp only[nM,IE]at eJ;split at eJ
        .split at eJ;next fn first lM l _ _=>
          cases hy:wq fn with
          |true=>rw[hy]at eJ;cases eJ
          |false=>rw[hy]at eJ;cases eJ
         .cases eJ
        .cases eJ
       simp only[yq,anb];have R5:∀(gw:round=none),(∀v JH,up≠some (.lI ((v,false)::JH)))->∀t,oY nt tmps o.dst .lJ=some t->
        kH P m bs φ H w ⟨fn,tmps,nt,td,defers,.gF,up,round⟩ (b.atR a (.inRegion ops (i::List.range' (i+1) rest.length)::ks)) cs (.go ⟨fn,t,nt,.ik ops (Nat.succ i) rest::k,defers,.gF,up,round⟩ H):=by
        intro gw mh t lj;subst gw;have kh:=an0 (k:=ks) (cs:=cs) (rest:=List.range' (i+1) rest.length) ho pn hf.jY (by rw[zT _ _ ov];exact FO);have aav:tryRecover (b.atR a (.inRegion ops (i::List.range' (i+1) rest.length)::ks)) cs=none:=by
         cases up with
         |none=>have hk:=hf.kF;unfold tryRecover;rw[show(b.atR a (.inRegion ops (i::List.range' (i+1) rest.length)::ks)).kind=b.kind from rfl,hk]
         |some u=>
          obtain⟨c,cs',rfl,wg⟩:=hu;have hk:=hf.kF;unfold tryRecover;rw[show(b.atR a (.inRegion ops (i::List.range' (i+1) rest.length)::ks)).kind=b.kind from rfl,hk];simp only;cases u with
          |gF=>rw[wg]
          |i_=>rw[wg]
          |lI ch=>
           have⟨uH,e1,Mx⟩:=wg;rw[e1];cases ch with
           |nil=>simp only[CR]at Mx;subst Mx;rfl
           |cons x ch=>
            have⟨v,rec⟩:=x;obtain⟨v',l',rfl,_,_⟩:=Mx;cases rec with
            |false=>exact(mh v ch rfl).elim
            |true=>rfl
        rw[aav]at kh;exact y9 (.one kh) ⟨hf.fn,TR.put u4 lj (show VR φ .lJ .nilIface from rfl),by rw[DF];exact hf.dr,hf.jY,hf.kF,hf.pW⟩ rfl (A3 (dE.refl φ)) hw (cI.jX _ _ _) (cZ.kr _ _) rfl rfl hu
       split;next v JH e=>
        cases e;split;next t lj=>
         have kh:=an0 (k:=ks) (cs:=cs) (rest:=List.range' (i+1) rest.length) ho pn hf.jY (by rw[zT _ _ ov];exact FO);obtain⟨c,cs',rfl,uH,e1,Mx⟩:=hu;obtain⟨v',l',rfl,hv,hl⟩:=Mx;have hk:=hf.kF;have aav:tryRecover (b.atR a (.inRegion ops (i::List.range' (i+1) rest.length)::ks)) (c::cs')=some (v',{c with mode:=.panicking ({v:=v',recovered:=true}::l')}::cs'):=by unfold tryRecover;rw[show(b.atR a (.inRegion ops (i::List.range' (i+1) rest.length)::ks)).kind=b.kind from rfl,hk];simp only[e1]
         rw[aav]at kh;refine⟨φ,w,_,_,.one kh,⟨b,_,_,rfl,⟨hf.fn,TR.put u4 lj hv,by rw[DF];exact hf.dr,hf.jY,hf.kF,hf.pW⟩,A3 (dE.refl φ)⟩,⟨_,_,rfl,_,rfl,v',l',rfl,hv,hl⟩,⟨c,cs',_,rfl,rfl⟩,rfl,rfl,hw,cI.jX _ _ _,cZ.kr _ _,rfl⟩
        .trivial
       next mh e=>
        cases e;split;next t lj=>exact R5 rfl (λv JH hh=>mh v JH hh) t lj
        .trivial
       .trivial
end
section
variable{P:Program}{call:sA}{bs:fN}{m:Nat}{H H':AH}{φ aQ:cn}{w w':World}{fr fr':gg}{b:Frame}{a a':Act}{todo pJ:List Item}{cs:List Frame}
theorem aET{c k}:step P (lone (b.atR a (.code (.scope c)::k)) cs w)=.next (lone (b.atR a (.code c::.inScope c::k)) cs w):=
 step_lone_go (by simp[stepG,stepG.exec,Frame.atR])
theorem aES{c k}:step P (lone (b.atR a (.inScope c::k)) cs w)=.next (lone (b.atR a k) cs w):=
 step_lone_go (by simp[stepG,stepG.exec,Frame.atR])
theorem ayz(cU:P.follows .mixedOrders=true)(hc:mG P call)(dW:fr.mE=.gF)(hf:FR φ fr b a)(hw:WR φ bs H w)(hb:iv bs w)(hm:m<=H.bx)(hu:kI φ fr.up cs){id ops rD k ks}(hi:jZ φ k ks):kH P m bs φ H w fr (b.atR a (.code (.region id ops rD)::ks)) cs (Oo P call fr H ops rD k):=by
 cases rD with
 |false=>refine uq dW (.one stepR_region) rfl hf ⟨_,_,rfl,⟨?_,rfl⟩,hi⟩ hw hu;rw[Array.length_toList,List.range_eq_range']
 |true=>
  have⟨fn,tmps,nt,td,defers,mode,up,round⟩:=fr;cases dW;simp only[Oo,cond_true];cases mi:JL ops with
  |none=>trivial
  |some pl=>
   simp only;have wk:WR φ bs H {w with drawn:=w.drawn+1}:=hw.sj rfl;have h0:=stepR_region_draw (P:=P) (b:=b) (a:=a) (k:=ks) (cs:=cs) (w:=w) (ops:=ops) (id:=id);have aal:=axR mi cU (alQ hc b ops ks cs) (w.tape w.drawn (.order b.fn id)) wk hb hm hf.tr;have zl:cZ bs w {w with drawn:=w.drawn+1}:=cZ.sj rfl;generalize ue P call ops pl.ms tmps nt pl.Er [] tmps H=r at aal;cases r with
   |eV s=>trivial
   |aI t H1=>have⟨jW,w1,a1,g1,g2,g3,g4,g5,g6⟩:=aal;have pj:=hf.Ak g5.1;exact y9 (.head h0 (g1.trans (.one stepR_region_end))) ⟨hf.fn,g3,by rw[g2];exact pj.dr,pj.jY,hf.kF,hf.pW⟩ rfl (hi.Kn g5.1) g4 g5 (zl.tf g6) rfl rfl hu
   |dN c H1=>have⟨jW,w1,a1,cl1,c1,g1,g2,g3,g4,g5,g6,g7⟩:=aal;exact acb rfl (.head h0 g1) g2 g3 hf g7 g4 g5 (zl.tf g6) hu
theorem pU.adM:∀{as ds qI rE},pU φ as ds->pU φ qI rE->pU φ (as++qI) (ds++rE)
 |[],ds,qI,rE,h,h'=>by cases h;exact h'
 |x::as,ds,qI,rE,h,h'=>by obtain⟨d,ds1,rfl,h1,h2⟩:=h;exact⟨d,ds1++rE,rfl,h1,pU.adM h2 h'⟩
theorem amh(hc:mG P call)(dW:fr.mE=.gF)(hf:FR φ fr b a)(hu:kI φ fr.up cs){f params assign body k ks}(hi:jZ φ k ks){jW h n xx w1 d ed mark abm}(ll:WR jW bs ⟨h,n,xx⟩ w1)(he1:cI m φ H jW ⟨h,n,xx⟩)(qY:cZ bs w w1)(mQ:iv bs w1)(hm1:m<=n)(hd:jW d=some ed)(au9:pU jW mark abm)(MC:(Instr.enterLoop b.fn a.tmps params assign body b.roundOf).run P w=.ok (w1.heap.size,abm) (w1.alloc (.loop {state:=.ready,pending:=none,fn:=b.fn,tmps:=a.tmps,params,assign,body,defers:=ed.b}))):
 kH P m bs φ H w fr (b.atR a (.code (.rangeFunc f params assign body)::ks)) cs (QQ P call fr f params assign body k (some (d,mark,⟨h,n,xx⟩))):=by
 have⟨fn,tmps,nt,td,defers,mode,up,round⟩:=fr;cases dW;simp only[QQ];have pj:=hf.Ak he1.1;have jz:=hf.fn;have⟨g1,g2,g3⟩:=ll.zy (n:=0) (ob:=.hQ .ready none fn tmps nt params.toList assign body d) (o':=.loop {state:=.ready,pending:=none,fn:=b.fn,tmps:=a.tmps,params,assign,body,defers:=ed.b}) mQ
  (λψ bb hψ=>⟨a.tmps,ed,by simp[jz],hψ _ _ hd,pj.tr.mono hψ⟩) hm1
 have mR:=pj.Ak g2.1;have xG:=he1.uB g2;have avb:(AH.mk h n xx).bx=n:=rfl;rw[avb]at g1 g2 mR xG;have hyv:VR (jv jW n ⟨w1.heap.size,0,0⟩) (.gN n) (.func (.yield w1.heap.size) #[] #[]):=⟨_,mL ..,rfl⟩;cases hr:(iG tmps f).bind λg=>(LY (yP P g [.gN n])).bind (kK P call (AH.eN ⟨h,n,xx⟩ (.hQ .ready none fn tmps nt params.toList assign body d)) none)with
 |none=>trivial
 |some r=>
  cases hg:iG tmps f with
  |none=>rw[hg]at hr;cases hr
  |some g=>
   rw[hg]at hr;simp at hr;cases uS:yP P g [.gN n]with
   |none=>rw[uS]at hr;cases hr
   |some aK=>
    rw[uS]at hr;have hgv:=TR.vq mR.tr [f] f (by simp) g hg;have gQ:=(Qj (m:=m) (base:=bs) (H:=AH.eN ⟨h,n,xx⟩ (.hQ .ready none fn tmps nt params.toList assign body d)) uS hgv ⟨_,_,rfl,hyv,rfl⟩).1
     (w1.alloc (.loop {state:=.ready,pending:=none,fn:=b.fn,tmps:=a.tmps,params,assign,body,defers:=ed.b}))
    cases aK with
    |qA g' args=>
     have⟨args',h1,h2⟩:=gQ;rw[Sem.run_bind]at h1;cases Z7:(Deferred.ofValue (a.eval f) #[.func (.yield w1.heap.size) #[] #[]]).run P (w1.alloc (.loop {state:=.ready,pending:=none,fn:=b.fn,tmps:=a.tmps,params,assign,body,defers:=ed.b}))with
     |halt x w2=>rw[Z7]at h1;cases h1
     |ok d2 w2=>
      rw[Z7]at h1;simp at h1;have kh:=stepR_rangeFunc (k:=ks) (cs:=cs) MC (by have hk:a.eval (.const (.func (.yield w1.heap.size) #[] #[]))=.func (.yield w1.heap.size) #[] #[]:=rfl;simpa[resolve,rangeCall,hk]using Z7) h1;have hrk:=YW (cs:=b.atR {a with defers:=abm++a.defers} (.inRangeFunc w1.heap.size::ks)::cs) hc hr h2 g1 (mQ.Eo g3.1) (kQ hm1 g2.2.1) trivial rfl;have⟨φ3,w3,q1,q2,q3,q4⟩:=acE hrk (.one kh) (qY.tf g3);have MD:=mR.Ak q2.1;have FE:=xG.uB q2;have hn3:=q2.1 _ _ (mL ..);have ajo:=((au9.GY g2.1).GY q2.1).adM MD.dr;have⟨e,Kd,H3⟩:=r;cases e with
      |gG v=>have⟨v',hv,rK⟩:=q4;rw[finish_atR_inRangeFunc]at rK;exact y9 rK ⟨hf.fn,MD.tr,ajo,MD.jY,hf.kF,hf.pW⟩ rfl ⟨_,_,rfl,⟨_,hn3,rfl⟩,hi.Kn FE.1⟩ q1 FE q3 rfl rfl hu
      |dN c=>have⟨c',CI,rK⟩:=q4;exact⟨φ3,w3,_,cs,rK,⟨⟨hf.fn,MD.tr,ajo,MD.jY,hf.kF,hf.pW⟩,⟨c',rfl,CI⟩⟩,hu.mono FE.1,yG.GX hu,rfl,rfl,q1,FE,q3,rfl⟩
    |_=>cases hr
theorem ayj(hc:mG P call)(dW:fr.mE=.gF)(hf:FR φ fr b a)(hw:WR φ bs H w)(hb:iv bs w)(hm:m<=H.bx)(hu:kI φ fr.up cs){f params assign body k ks}(hi:jZ φ k ks):kH P m bs φ H w fr (b.atR a (.code (.rangeFunc f params assign body)::ks)) cs (Ue P call fr H f params assign body k):=by
 have⟨fn,tmps,nt,td,defers,mode,up,round⟩:=fr;cases dW;simp only[Ue];cases round with
 |none=>have⟨h,n,xx⟩:=H;have⟨g1,g2,g3⟩:=hw.zy (n:=0) (ob:=.pP (some [])) hb (λψ bb hψ=>⟨[],rfl,rfl⟩) hm;have gw:=hf.jY;have MC:=run_enterLoop_outer (P:=P) (w:=w) b.fn a.tmps params assign body;rw[<-gw]at MC;have cx:(w.alloc (.deferred (some []))).heap.size=w.heap.size+1:=Xy _ _;rw[<-cx]at MC;exact amh hc rfl hf hu hi g1 g2 g3 (hb.Eo g3.1) (kQ hm g2.2.1) (mL ..) ⟨_,_,rfl,⟨_,mL ..,rfl⟩,rfl⟩ MC
 |some l=>
  have⟨e,he,gw⟩:=hf.jY;simp only[abb];cases eU:H.bc l with
  |none=>trivial
  |some ob=>
   cases ob with
   |hQ st p lf lt ln ps x y d=>obtain⟨o,hg,o5,ed,rfl,hd,ht⟩:=hw.eI l _ e eU he;have⟨h,n,xx⟩:=H;refine amh hc rfl hf hu hi hw (cI.jX _ _ _) (cZ.kr _ _) hb hm hd rfl ?_;rw[gw];unfold Instr.enterLoop;simp only[Sem.run_bind,run_getLoop hg,run_newObj_alloc,Result.andThen,Sem.run_pure]
   |_=>trivial
theorem arA(cU:P.follows .mixedOrders=true)(hc:mG P call)(dW:fr.mE=.gF)(hf:FR φ fr b a)(hw:WR φ bs H w)(hb:iv bs w)(hm:m<=H.bx)(hu:kI φ fr.up cs){c k ks}(hi:jZ φ k ks):kH P m bs φ H w fr (b.atR a (.code c::ks)) cs (yv P call fr H k c):=by
 cases c with
 |ret=>exact awz dW hf hw hu
 |skip=>exact uq dW (.one stepR_skip) rfl hf hi hw hu
 |label l=>exact uq dW (.one stepR_label) rfl hf hi hw hu
 |seq x y=>exact uq dW (.one stepR_seq) rfl hf ⟨_,_,rfl,rfl,_,_,rfl,rfl,hi⟩ hw hu
 |cond c UX QA=>
  simp only[yv];cases hv:iG fr.Ah c with
  |none=>trivial
  |some v=>
   cases v with
   |au t=>have:=TR.vq hf.tr [c] c (by simp) _ hv;refine uq dW (.one (stepR_cond this)) rfl hf ⟨_,_,rfl,?_,hi⟩ hw hu;cases t<;>rfl
   |_=>trivial
 |block id body=>exact uq dW (.one stepR_block) rfl hf ⟨_,_,rfl,rfl,_,_,rfl,rfl,hi⟩ hw hu
 |loop body=>exact uq dW (.one stepR_loop) rfl hf ⟨_,_,rfl,rfl,_,_,rfl,rfl,hi⟩ hw hu
 |scope body=>exact uq dW (.one aET) rfl hf ⟨_,_,rfl,rfl,_,_,rfl,rfl,hi⟩ hw hu
 |exit id=>
  have:=ahK (id:=id) hi;simp only[yv];cases hx:Fc id k with
  |none=>rw[hx]at this;exact awx dW hf hw hu this
  |some k'=>rw[hx]at this;have⟨su,h1,h2⟩:=this;exact uq dW (.one (stepR_exit h1)) rfl hf h2 hw hu
 |goto l=>
  have:=aiv (l:=l) hi;simp only[yv];cases hx:Iv l k with
  |none=>rw[hx]at this;exact awy dW hf hw hu this
  |some k'=>rw[hx]at this;have⟨su,h1,h2⟩:=this;exact uq dW (.one (stepR_goto h1)) rfl hf h2 hw hu
 |region id ops rD=>exact ayz cU hc dW hf hw hb hm hu hi
 |rangeFunc f params assign body=>exact ayj hc dW hf hw hb hm hu hi
 |refuse why=>trivial
theorem aEU(cU:P.follows .mixedOrders=true)(hc:mG P call)(dW:fr.mE=.gF)(hf:FR φ fr b a)(hw:WR φ bs H w)(hb:iv bs w)(hm:m<=H.bx)(hu:kI φ fr.up cs)(hi:jZ φ fr.GV todo):
 kH P m bs φ H w fr (b.atR a todo) cs (rl P call fr H):=by
 have⟨fn,tmps,nt,td,defers,mode,up,round⟩:=fr;cases td with
 |nil=>cases hi;exact aww dW hf hw hu
 |cons x k=>
  obtain⟨y,ks,rfl,h1,h2⟩:=hi;cases x with
  |gM c=>cases h1;exact arA cU hc dW hf hw hb hm hu h2
  |vw id=>cases h1;exact uq dW (.one stepR_inBlock) rfl hf h2 hw hu
  |uz c=>cases h1;exact uq dW (.one aES) rfl hf h2 hw hu
  |rq c=>cases h1;exact uq dW (.one stepR_inLoop) rfl hf ⟨_,_,rfl,rfl,_,_,rfl,rfl,h2⟩ hw hu
  |Ek l=>trivial
  |BJ l=>obtain⟨e,he,rfl⟩:=h1;exact asW dW hf hw hu he h2
  |Ai=>cases h1;exact aqG dW hf hw hu h2
  |ik ops i l=>
   obtain⟨rfl,FC⟩:=h1;cases l with
   |nil=>exact uq dW (.one stepR_region_end) rfl hf h2 hw hu
   |cons o rest=>exact aB1 hc dW hf hw hb hm hu FC h2
end
section
variable{P:Program}{call:sA}{bs:fN}{m:Nat}{H H':AH}{φ aQ:cn}{w w':World}{fr fr':gg}{cv:Frame}{cs:List Frame}
def Tk(tmps:Array Value):ResultVar->Sem Value
 |.tmp t=>pure (tmps.getD t undef)
 |.cell a t=>do loadVar t (<-asAddr (tmps.getD a undef))
theorem acs{nt t tmps}(hw:WR φ bs H w)(ht:TR φ t nt tmps):∀l vs,s7 P H t l=some vs->∃eF,(l.mapM (Tk tmps)).run P w=.ok eF w/\br φ vs eF
 |[],vs,h=>by cases h;exact⟨[],rfl,rfl⟩
 |.tmp i::l,vs,h=>by
  simp only[s7]at h;split at h;next v hv=>
   cases hr:s7 P H t l with
   |none=>rw[hr]at h;cases h
   |some U_=>
    rw[hr]at h;cases h;have⟨eF,h1,h2⟩:=acs hw ht l U_ hr;have⟨v',h3,h4⟩:=ht.2 i v hv;refine⟨v'::eF,?_,v',eF,rfl,h4,h2⟩;have e:tmps.getD i undef=v':=by rw[NV,h3];rfl
    rw[List.mapM_cons];simp only[Tk,Sem.run_bind,Sem.run_pure,Result.andThen_ok,h1,e]
  .cases h
 |.cell i ty::l,vs,h=>by
  simp only[s7]at h;split at h;next id off hp=>
   split at h;next v hv=>
    cases hr:s7 P H t l with
    |none=>rw[hr]at h;cases h
    |some U_=>
     rw[hr]at h;cases h;have⟨eF,h1,h2⟩:=acs hw ht l U_ hr;have⟨vp,h3,e,he,h4⟩:=ht.2 i _ hp;have⟨v',h5,h6⟩:=aa9 hw hv he;refine⟨v'::eF,?_,v',eF,rfl,h6,h2⟩;have e1:tmps.getD i undef=.pointer (some ⟨e.b,e.o+off,none⟩):=by rw[NV,h3,<-h4];rfl
     rw[List.mapM_cons];simp only[Tk,Sem.run_bind,e1,asAddr,Sem.run_pure,Result.andThen_ok,h5,h1]
   .cases h
  .cases h
theorem ayE{nt t tmps}(hw:WR φ bs H w)(ht:TR φ t nt tmps){fn vs}(h:s7 P H t fn.results.toList=some vs):∃v',(results fn tmps).run P w=.ok v' w/\VR φ (BF vs) v':=by
 have⟨eF,h1,h2⟩:=acs hw ht _ vs h;have e:results fn tmps=(do let vs<-fn.results.mapM (Tk tmps);pure (if h:vs.size=1 then vs[0]else .tuple vs)):=by rfl
 rw[e,Array.mapM_eq_mapM_toList];simp only[map_eq_pure_bind,bind_assoc,pure_bind,Sem.run_bind,h1,Result.andThen_ok,Sem.run_pure];refine⟨_,rfl,?_⟩;cases vs with
 |nil=>subst h2;exact⟨#[],rfl,rfl⟩
 |cons v vs=>
  obtain⟨v',vs2,rfl,hv,jC⟩:=h2;cases vs with
  |nil=>subst jC;exact hv
  |cons v2 vs=>obtain⟨v2',vs3,rfl,CZ,avH⟩:=jC;exact⟨(v'::v2'::vs3).toArray,by simp,v',v2'::vs3,rfl,hv,v2',vs3,rfl,CZ,avH⟩
theorem CR.alq:∀{c l},CR φ c l->l.dropWhile (!·.goexit)=[]
 |[],l,h=>by cases h;rfl
 |(v,r)::c,l,h=>by obtain⟨v',l',rfl,_,h2⟩:=h;simp;exact h2.alq
theorem aB3{u fm}(h:MR φ u fm):MR φ (ang u) (settle fm):=by
 cases u with
 |gF=>cases h;rfl
 |i_=>cases h;rfl
 |lI c=>
  obtain⟨c',rfl,hc⟩:=h;cases c with
  |nil=>cases hc;exact⟨[],rfl,rfl⟩
  |cons x c=>
   have⟨v,r⟩:=x;obtain⟨v',l',rfl,h1,h2⟩:=hc;cases r with
   |true=>show settle _=_;simp only[settle,h2.alq]
   |false=>exact⟨_,rfl,v',l',rfl,h1,h2⟩
theorem CR.adL:∀{c l c' l'},CR φ c l->CR φ c' l'->CR φ (c++c') (l++l')
 |[],l,c',l',h,h'=>by cases h;exact h'
 |(v,r)::c,l,c',l',h,h'=>by obtain⟨v',l1,rfl,h1,h2⟩:=h;exact⟨v',l1++l',rfl,h1,CR.adL h2 h'⟩
theorem ayi{u fm c c'}(h:MR φ u fm)(hc:CR φ c c'):MR φ (yk u c) (raised fm c'):=by
 cases u with
 |gF=>cases h;exact⟨c',rfl,hc⟩
 |i_=>cases h;exact⟨c',rfl,hc⟩
 |lI o=>obtain⟨o',rfl,ho⟩:=h;exact⟨_,rfl,hc.adL ho⟩
theorem uC.aK{fn tmps nt todo pJ defers ds mode u up round}(hf:FR φ ⟨fn,tmps,nt,todo,defers,mode,up,round⟩ cv ⟨cv.tmps,cv.defers⟩){rE fm}(hd:pU φ ds rE)(hm:MR φ u fm)(hu:u≠.gF):uC φ ⟨fn,tmps,nt,pJ,ds,u,up,round⟩ {cv with defers:=rE,mode:=fm}:=by
 have:FR φ ⟨fn,tmps,nt,pJ,ds,u,up,round⟩ {cv with defers:=rE,mode:=fm} ⟨cv.tmps,rE⟩:=⟨hf.fn,hf.tr,hd,hf.jY,hf.kF,hf.pW⟩;cases u with
 |gF=>exact(hu rfl).elim
 |i_=>exact⟨this,hm⟩
 |lI c=>exact⟨this,hm⟩
theorem anZ(hc:mG P call)(eJ:fr.mE≠.gF)(hf:FR φ fr cv ⟨cv.tmps,cv.defers⟩)(CO:MR φ fr.mE cv.mode)(hw:WR φ bs H w)(hb:iv bs w)(hm:m<=H.bx)(hu:kI φ fr.up cs):
 kH P m bs φ H w fr cv cs (DV P call fr H):=by
 have⟨fn,tmps,nt,todo,defers,mode,up,round⟩:=fr;have hcm:cv.mode≠.run:=by
  intro e;cases mode with
  |gF=>exact eJ rfl
  |i_=>rw[e]at CO;cases CO
  |lI c=>have⟨c',h1,_⟩:=CO;rw[e]at h1;cases h1
 simp only[DV];cases defers with
 |nil=>
  have CW:=hf.dr;simp only[JI];have aI:∀(e:Pd) (e':Ending),ER φ e e'->(cv.kind=.normal->cv.leaving P w e')->cv.going P w e'->
   (∀c cs',cs=c::cs'->cv.kind=.normal->match e with|.gG v=>∃v',VR φ v v'/\Steps P (lone cv cs w) (lone (c.finish v') cs' w)|.dN ch=>∃uH,CR φ ch uH/\Steps P (lone cv cs w) (lone (c.raise uH) cs' w))->
   vH P m bs φ H w cv cs ⟨e,up,H⟩ up round:=by
   intro e e' uU tO kO uZ;refine⟨φ,w,hw,cI.jX _ _ _,cZ.kr _ _,?_⟩;cases up with
   |none=>
    have hk:=hf.kF;cases round with
    |none=>exact⟨cv,e',uU,Steps.refl P _,tO hk,rfl⟩
    |some l=>exact λc cs' h=>uZ c cs' h hk
   |some u=>obtain⟨c,cs',rfl,wg⟩:=hu;exact⟨c,cs',u,c.mode,cv,e',rfl,rfl,wg,uU,Steps.refl P _,hf.kF,kO⟩
  cases mode with
  |gF=>trivial
  |lI ch=>
   cases jz:(P.funcs[fn]?).isSome with
   |false=>trivial
   |true=>simp;have⟨Ip,MG⟩:=qeu.1 jz;have⟨uH,h1,h2⟩:=CO;have MF:=hf.fn;have tO:cv.leaving P w (.panicked uH):=⟨h1,CW,Ip,by rw[MF];exact MG⟩;refine aI (.dN ch) (.panicked uH) ⟨uH,rfl,h2⟩ (λ_=>tO) ⟨h1,CW,Ip,by rw[MF];exact MG⟩ (λc cs' gQ _=>?_);subst gQ;exact⟨uH,h2,.one (step_leave_panicked tO)⟩
  |i_=>
   cases MG:P.funcs[fn]? with
   |none=>trivial
   |some Ip=>
    simp only;cases hr:s7 P H tmps Ip.results.toList with
    |none=>trivial
    |some vs=>
     have⟨v',h1,h2⟩:=ayE hw hf.tr hr;have MF:=hf.fn;have tO:cv.kind=.normal->cv.leaving P w (.returned v'):=λhk=>⟨CO,CW,hk,Ip,by rw[MF];exact MG,h1⟩
     refine aI (.gG (BF vs)) (.returned v') ⟨v',rfl,h2⟩ tO ⟨CO,CW,Ip,by rw[MF];exact MG,h1⟩ (λc cs' gQ hk=>?_);subst gQ;exact⟨v',h2,.one (step_leave_returned (tO hk))⟩
 |cons d ds=>
  have⟨d',rE,gC,hd,hdr⟩:=hf.dr;cases d with
  |oH r=>
   obtain⟨e,he,rfl⟩:=hd;simp only;split;next eU=>
    obtain⟨o,hg,l',rfl,MK⟩:=hw.eI r _ e eU he;subst MK;have ay:=(hw.lt r e he).1;have hk:=run_takeDeferred (P:=P) hg;have kh:=step_collected (cs:=cs) hcm gC rfl hk;refine⟨φ,w.putObj e.b (.deferred none),{cv with defers:=rE},cs,.one kh,?_,hu,yG.GX hu,rfl,rfl,?_,cI.o8 he _,?_,rfl⟩
    .exact uC.aK hf hdr CO eJ
    .exact hw.put eU rfl he World.putObj_size (λb hb=>World.putObj_heap_other hb) ⟨_,World.putObj_heap_same ay,rfl⟩
    .exact cZ.NB hw he World.putObj_size (λb hb=>World.putObj_heap_other hb)
   .trivial
  |vu f lM args=>
   obtain⟨vN,args',rfl,hy,CH,mP⟩:=hd;simp only;cases uS:yP P (.bn f [] lM) args with
   |none=>trivial
   |some aK=>
    have gQ:=(Qj (m:=m) (base:=bs) (H:=H) (vf:=.func f #[] vN) uS ?_ mP).1 w
    .cases aK with
     |qA g l=>
      simp only[LY,ri];cases jP:kK P call H (some mode) (.qA g l)with
      |none=>trivial
      |some r=>
       have⟨awi,h1,h2⟩:=gQ;have pk:(invoke (.fn f vN) args').run P w=.ok (.enter g awi) w:=by
        have e1:(do let d<-Deferred.ofValue (.func f #[] vN) args';invoke d.target d.args:Sem Next)=invoke (.fn f vN) args':=by simp[Deferred.ofValue]
        rw[<-e1];exact h1
       have kh:=step_defer (cs:=cs) hcm gC rfl pk;have hrk:=YW (cs:={cv with defers:=rE}::cs) hc jP h2 hw hb hm (up:=some mode) ⟨_,_,rfl,CO⟩ rfl;have⟨jW,w1,q1,q2,q3,c,cs',uA,u',EM,e1,jN,xP,wg,uU,rK,uV,kO⟩:=hrk;cases jN;have⟨ee,upp,H1⟩:=r;subst xP;have pj:=hf.Ak q2.1;have auK:=hdr.GY q2.1;have aah:∀(u2:pS) (Rd:FrameMode),MR jW u2 Rd->step P (lone EM ({ {cv with defers:=rE}with mode:=u'}::cs) w1)=.next (lone { { {cv with defers:=rE}with mode:=u'}with mode:=Rd} cs w1)->
        kH P m bs φ H w ⟨fn,tmps,nt,todo,.vu f lM args::ds,mode,up,round⟩ cv cs (abS ⟨fn,tmps,nt,todo,.vu f lM args::ds,mode,up,round⟩ ds u2 H1):=by
        intro u2 Rd hm2 gK;have ajc:u2≠.gF->kH P m bs φ H w ⟨fn,tmps,nt,todo,.vu f lM args::ds,mode,up,round⟩ cv cs (.go ⟨fn,tmps,nt,todo,ds,u2,up,round⟩ H1):=λcK=>
         ⟨jW,w1,{cv with defers:=rE,mode:=Rd},cs,.head kh (rK.trans (.one gK)),uC.aK pj auK hm2 cK,hu.mono q2.1,yG.GX hu,rfl,rfl,q1,q2,q3,rfl⟩
        cases u2 with
        |gF=>trivial
        |i_=>exact ajc (by simp)
        |lI cc=>exact ajc (by simp)
       cases ee with
       |gG v=>obtain⟨v',rfl,hv⟩:=uU;exact aah _ _ (aB3 wg) (step_going_returned uV kO)
       |dN ch=>obtain⟨uH,rfl,hv⟩:=uU;exact aah _ _ (ayi wg hv) (step_going_panicked kO)
     |_=>trivial
    .cases f<;>first
      |exact⟨#[],vN,rfl,hy,rfl,CH⟩
      |(cases hy;done)
end
section
variable{P:Program}
theorem ac1(cU:P.follows .mixedOrders=true){call}(hc:mG P call)(fr H φ w m bs cv cs)(hw:WR φ bs H w)(hb:iv bs w)(hm:m<=H.bx)(hf:uC φ fr cv)(hu:kI φ fr.up cs):kH P m bs φ H w fr cv cs (j_ P call fr H):=by
 have⟨fn,tmps,nt,todo,defers,mode,up,round⟩:=fr;cases mode with
 |gF=>obtain⟨b,a,Je,rfl,h1,h2⟩:=hf;exact aEU cU hc rfl h1 hw hb hm hu h2
 |i_=>have⟨h1,h2⟩:=hf;exact anZ hc (by simp) h1 h2 hw hb hm hu
 |lI c=>have⟨h1,h2⟩:=hf;exact anZ hc (by simp) h1 h2 hw hb hm hu
theorem vH.after{m bs φ aQ H H' w w' cv j7 cs pb r up Kd round}(hs:Steps P (lone cv cs w) (lone j7 pb w'))(gQ:yG up cs pb)(xP:Kd.isSome=up.isSome)(he:cI m φ H aQ H')(hk:cZ bs w w')(jz:j7.fn=cv.fn)(h:vH P m bs aQ H' w' j7 pb r Kd round):vH P m bs φ H w cv cs r up round:=by
 have⟨jW,w1,h1,h2,h3,h4⟩:=h;refine⟨jW,w1,h1,he.uB h2,hk.tf h3,?_⟩;cases up with
 |none=>
  cases Kd with
  |some u=>cases xP
  |none=>
   have gQ:pb=cs:=gQ;subst gQ;cases round with
   |none=>have⟨c1,e1,g1,g2,g3,g4⟩:=h4;exact⟨c1,e1,g1,hs.trans g2,g3,g4.trans jz⟩
   |some l=>
    intro c cs' jN;have:=h4 c cs' jN;have⟨e,upr,H1⟩:=r;cases e with
    |gG v=>have⟨v',g1,g2⟩:=this;exact⟨v',g1,hs.trans g2⟩
    |dN ch=>have⟨v',g1,g2⟩:=this;exact⟨v',g1,hs.trans g2⟩
 |some u=>
  cases Kd with
  |none=>cases xP
  |some u'=>obtain⟨c,cs',u2,rfl,rfl⟩:=gQ;have⟨c1,AA,uA,u3,EM,e1,g1,g2,g3,g4,g5,g6,g7⟩:=h4;cases g1;exact⟨c,cs',uA,u3,EM,e1,rfl,g2,g3,g4,hs.trans g5,g6,g7⟩
theorem TV(cU:P.follows .mixedOrders=true){K}(hK:PC P K):∀n,Pa P (run P K n)
 |0=>by intro fr H r h;cases h
 |n+1=>by
  intro fr H r h φ w m bs cv cs hw hb hm hf hu;have kh:=ac1 cU (call:=⟨run P K n,K⟩) ⟨TV cU hK n,hK⟩ fr H φ w m bs cv cs hw hb hm hf hu;simp only[run]at h;cases hs:j_ P ⟨run P K n,K⟩ fr H with
  |eV s=>rw[hs]at h;cases h
  |Am r'=>rw[hs]at h kh;cases h;exact kh
  |go fr' H'=>rw[hs]at h kh;have⟨aQ,w',j7,pb,g1,g2,g3,g4,g5,g6,g7,g8,g9,L3⟩:=kh;have:=TV cU hK n fr' H' r h aQ w' m bs j7 pb g7 (hb.Eo g9.1) (kQ hm g8.2.1) g2 g3;rw[g5]at this;exact vH.after g1 g4 g6 g8 g9 L3 this
theorem abA:PC P Ny:=by intro f args H v H' h;cases h
end
end
end Go.Ev
