/- Part of a proof of AreaLists. -/
import Derived.Test.YtjgjeokjclpjnaaGreatA2
import Derived.RangeFuncLeaves
import Derived.RangeFuncRecord
set_option linter.all false
set_option linter.unusedSectionVars false
namespace Go.Ev
noncomputable section
theorem Lm(m i):pN m i=m.testBit i:=by
 rw[Nat.testBit];show Nat.beq ((m>>>i)&&& 1) 1=_;rw[Nat.and_comm 1];have h:(m>>>i)&&& 1=0\/(m>>>i)&&& 1=1:=by rw[Nat.and_one_is_mod];omega
 rcases h with h|h<;>rw[h]<;>rfl
theorem Qq(a b i):pN (Nat.lor a b) i=(pN a i||pN b i):=by rw[Lm,Lm,Lm];exact Nat.testBit_or a b i
theorem ag0(j i):pN (Nat.pow 2 j) i=decide (j=i):=by rw[Lm];show(2^j).testBit i=_;rw[Nat.testBit_two_pow]
theorem ag1(i):pN 0 i=false:=by rw[Lm,Nat.zero_testBit]
def kq(ms:LN)(i j:Nat):Prop:=∃m,ms[i]? =some m/\pN m j=true
theorem II{ms i j}:(ms[i]?).any (pN · j)=true↔kq ms i j:=by unfold kq;cases h:ms[i]? <;>simp
def sv(ms:LN):LN->LN->Prop
 |_,[]=>True
 |done,i::l=>(∀j,kq ms i j->j∈done)/\i∉done/\sv ms (i::done) l
def qd(ms:LN)(done:LN):Prop:=∀i∈done,∀j,kq ms i j->j∈done
theorem qd.F6{ms done i}(h:qd ms done)(hi:∀j,kq ms i j->j∈done):qd ms (i::done):=by
 intro k hk j hj;rcases dm.1 hk with rfl|hk
 .exact dZ _ (hi j hj)
 .exact dZ _ (h k hk j hj)
theorem qd.nil(ms):qd ms []:=by intro i hi;cases hi
theorem sv.RD{ms}:∀{l done i},sv ms done l->i∈l->i∉done
 |[],_,_,_,h=>by cases h
 |x::l,done,i,⟨_,h2,h3⟩,h=>by
  rcases dm.1 h with rfl|h
  .exact h2
  .exact λhd=>h3.RD h (dZ _ hd)
def ID(gM:LN)(s:Option Nat)(e:Edge):Option Nat:=
 match s with
 |none=>none
 |some s=>bif Region.binds .any e then(match gM[e.on]? with
   |some n=>some (Nat.lor (Nat.lor s (Nat.pow 2 e.on)) n)
   |none=>none)else some s
theorem aiW(gM):∀es:List Edge,es.foldl (ID gM) none=none
 |[]=>rfl
 |e::es=>by simp;exact aiW gM es
theorem ZP(gM):∀(es:List Edge) (s m),es.foldl (ID gM) (some s)=some m->
 (∀e∈es,Region.binds .any e=true->e.on<gM.length)/\
 (∀j,pN m j=true->pN s j=true\/∃e∈es,Region.binds .any e=true/\(e.on=j\/∃n,gM[e.on]? =some n/\pN n j=true))
 |[],s,m,h=>by cases h;exact⟨(λ_ h=>by cases h),λj hj=>.inl hj⟩
 |e::es,s,m,h=>by
  simp at h;cases hb:Region.binds .any e with
  |false=>
   simp only[ID,hb,cond_false]at h;have⟨h1,h2⟩:=ZP gM es s m h;refine⟨λe' im Es=>?_,λj hj=>?_⟩
   .rcases dm.1 im with rfl|im
    .rw[hb]at Es;cases Es
    .exact h1 e' im Es
   .rcases h2 j hj with h|⟨e',im,h⟩
    .exact .inl h
    .exact .inr ⟨e',dZ _ im,h⟩
  |true=>
   simp only[ID,hb,cond_true]at h;cases ha:gM[e.on]? with
   |none=>rw[ha]at h;simp only at h;rw[aiW]at h;cases h
   |some n=>
    rw[ha]at h;have⟨h1,h2⟩:=ZP gM es _ m h;refine⟨λe' im Es=>?_,λj hj=>?_⟩
    .rcases dm.1 im with rfl|im
     .exact(MW.1 ha).1
     .exact h1 e' im Es
    .rcases h2 j hj with h|⟨e',im,h⟩
     .rw[Qq,Qq,ag0]at h;simp at h;rcases h with(h|h)|h
      .exact .inl h
      .exact .inr ⟨e,dJ ..,hb,.inl h⟩
      .exact .inr ⟨e,dJ ..,hb,.inr ⟨n,ha,h⟩⟩
     .exact .inr ⟨e',dZ _ im,h⟩
theorem aiX:∀l gM ms,Fh l gM=some ms->
 (∃t,ms=gM++t/\t.length=l.length)/\
 ∀i o,l[i]? =some o->(∀e∈o.after.toList,Region.binds .any e=true->e.on<gM.length+i)/\
  ∀j,kq ms (gM.length+i) j->∃e∈o.after.toList,Region.binds .any e=true/\(e.on=j\/kq ms e.on j)
 |[],gM,ms,h=>by cases h;exact⟨⟨[],by simp,rfl⟩,λi o h=>by simp at h⟩
 |o::l,gM,ms,h=>by
  change (match o.after.toList.foldl (ID gM) (some 0)with|none=>none|some m=>Fh l (gM++[m]))=some ms at h;cases hm:o.after.toList.foldl (ID gM) (some 0)with
  |none=>rw[hm]at h;cases h
  |some m=>
   rw[hm]at h;obtain⟨⟨t,rfl,ht⟩,h2⟩:=aiX l (gM++[m]) ms h;have⟨g1,g2⟩:=ZP gM _ 0 m hm;refine⟨⟨m::t,by simp,by simp[ht]⟩,λi o' nA=>?_⟩;cases i with
   |zero=>
    cases nA;refine⟨by simpa using g1,λj hj=>?_⟩;have⟨m',ud,hb⟩:=hj;have:m'=m:=by simp at ud;exact ud.symm
    subst this;rcases g2 j hb with h|⟨e,he,ar6,h⟩
    .rw[ag1]at h;cases h
    .refine⟨e,he,ar6,h.imp_right ?_⟩;rintro⟨n,hn,BQ⟩;have ax:=(MW.1 hn).1;exact⟨n,by rw[j7,List.getElem?_append_left ax];exact hn,BQ⟩
   |succ i=>
    have:=h2 i o' (by simpa using nA);have he:gM.length+(i+1)=(gM++[m]).length+i:=by simp;omega
    rw[he];exact this
theorem ajZ:∀{l l':LN},l.Nodup->(∀x∈l,x∈l')->l.length<=l'.length
 |[],_,_,_=>gq _
 |a::l,l',hn,hs=>by
  have⟨h1,h2⟩:=uw.1 hn;have ha:=hs a (dJ ..);have:=ajZ h2 (λx hx=>by
   have cE:x≠a:=λe=>h1 (e▸hx)
   exact(List.mem_erase_of_ne cE).2 (hs x (dZ _ hx)))
  rw[List.length_erase_of_mem ha]at this;have hp:=List.length_pos_of_mem ha;simp;omega
section
variable{ops:Array Oper}{ms:LN}
def Ow(ops:Array Oper)(jB:Array Bool)(done:LN):Prop:=
 jB.size=ops.size/\∀i,i<ops.size->jB[i]? =some (decide (i∈done))
theorem Ow.getD{jB done}(h:Ow ops jB done){i}(hi:i<ops.size)(b):jB.getD i b=decide (i∈done):=by rw[MV,h.2 i hi];rfl
theorem agA(H7:Fh ops.toList []=some ms):∀kM t jB done,Ow ops jB done->qd ms done->(∀i∈done,i<ops.size)->done.Nodup->done.length+kM=ops.size->
 sv ms done (Region.linearise.go .any ops kM t jB [])/\(∀i,i<ops.size->i∈done\/i∈Region.linearise.go .any ops kM t jB [])/\(∀i∈Region.linearise.go .any ops kM t jB [],i<ops.size)
 |0,t,jB,done,hL,hc,ax,hn,bS=>by
  refine⟨trivial,λi hi=>.inl ?_,λ_ h=>by cases h⟩;refine Decidable.byContradiction λsV=>?_
  have:=ajZ (uw.2 ⟨sV,hn⟩) (λx hx=>by
   rcases dm.1 hx with rfl|hx
   .exact I9.2 hi
   .exact I9.2 (ax x hx))
  simp at this;omega
 |kM+1,t,jB,done,hL,hc,ax,hn,bS=>by
  have YF:=(aiX ops.toList [] ms H7).2;have ahx:∀i,i∈Region.ready .any ops jB↔i<ops.size/\i∉done/\∃o,ops[i]? =some o/\∀e∈o.after.toList,Region.binds .any e=true->e.on∈done:=by
   intro i;simp only[Region.ready,vU,I9];refine and_congr_right λhi=>?_
   rw[hL.getD hi];have ho:=Ax hi;rw[ho];simp only[qC,Sh,dk,yT,decide_eq_false_iff_not,pg,exists_eq_left'];refine and_congr_right λ_=>?_
   rw[<-Array.all_toList,lZ];refine forall_congr' λe=>forall_congr' λhe=>?_
   cases hb:Region.binds .any e with
   |false=>simp
   |true=>have Ae:=(YF i ops[i] (by rw[vO];exact ho)).1 e he hb;simp at Ae;rw[hL.getD (Nat.lt_trans Ae hi)];simp
  change sv ms done (match(Region.ready .any ops jB)[t%(Region.ready .any ops jB).length]? with
   |some i=>Region.linearise.go .any ops kM (t /(Region.ready .any ops jB).length) (jB.setIfInBounds i true) [i]
   |none=>[].reverse)/\(∀i,i<ops.size->i∈done\/i∈(match(Region.ready .any ops jB)[t%(Region.ready .any ops jB).length]? with
   |some i=>Region.linearise.go .any ops kM (t /(Region.ready .any ops jB).length) (jB.setIfInBounds i true) [i]
   |none=>[].reverse))/\(∀i∈(match(Region.ready .any ops jB)[t%(Region.ready .any ops jB).length]? with
   |some i=>Region.linearise.go .any ops kM (t /(Region.ready .any ops jB).length) (jB.setIfInBounds i true) [i]
   |none=>[].reverse),i<ops.size)
  cases hi:(Region.ready .any ops jB)[t%(Region.ready .any ops jB).length]? with
  |none=>
   have BR:Region.ready .any ops jB=[]:=by
    cases hr:Region.ready .any ops jB with
    |nil=>rfl
    |cons x xs=>rw[hr]at hi;have ax:t%(x::xs).length<(x::xs).length:=Nat.mod_lt _ (by simp);simp at hi;simp at ax;omega
   refine⟨trivial,λi hi=>.inl ?_,λ_ h=>by cases h⟩;induction i using Nat.strongRecOn with
   |ind i ih=>
    refine Decidable.byContradiction λsV=>?_
    have ho:=Ax hi;have:=(ahx i).2 ⟨hi,sV,_,ho,λe he hb=>by have Ae:=(YF i ops[i] (by rw[vO];exact ho)).1 e he hb;simp at Ae;exact ih e.on Ae (Nat.lt_trans Ae hi)⟩;rw[BR]at this;cases this
  |some i=>
   simp;rw[linearise_go_acc,List.reverse_singleton,List.singleton_append];have⟨X8,QD,o,ho,hi3⟩:=(ahx i).1 (I4 hi);have sU:∀j,kq ms i j->j∈done:=by
    intro j hj;have:=(YF i o (by rw[vO];exact ho)).2 j (by simpa using hj);have⟨e,he,hb,h⟩:=this;have Ae:=hi3 e he hb;rcases h with rfl|h
    .exact Ae
    .exact hc _ Ae _ h
   have hL':Ow ops (jB.setIfInBounds i true) (i::done):=by
    refine⟨by simp[hL.1],λk hk=>?_⟩;rw[Sf];by_cases HZ:i=k
    .subst HZ;simp[hL.1,X8]
    .rw[az HZ,hL.2 k hk];have:k≠i:=λe=>HZ e.symm
     simp[this]
   have⟨h1,h2,h3⟩:=agA H7 kM (t /(Region.ready .any ops jB).length) (jB.setIfInBounds i true) (i::done) hL' (hc.F6 sU)
    (λx hx=>by rcases dm.1 hx with rfl|hx;exact X8;exact ax x hx) (uw.2 ⟨QD,hn⟩) (by simp;omega)
   refine⟨⟨sU,QD,h1⟩,λk hk=>?_,λk hk=>?_⟩
   .rcases h2 k hk with h|h
    .rcases dm.1 h with rfl|h
     .exact .inr (dJ ..)
     .exact .inl h
    .exact .inr (dZ _ h)
   .rcases dm.1 hk with rfl|hk
    .exact X8
    .exact h3 k hk
theorem azt{P:Program}(hm:P.follows .mixedOrders=true)(H7:Fh ops.toList []=some ms)(t):
 sv ms [] (Region.schedule (P.follows .mixedOrders) ops t)/\(∀i,i<ops.size->i∈Region.schedule (P.follows .mixedOrders) ops t)/\(∀i∈Region.schedule (P.follows .mixedOrders) ops t,i<ops.size):=by
 have he:Region.schedule (P.follows .mixedOrders) ops t=Region.linearise.go .any ops ops.size t (Array.replicate ops.size false) []:=by simp[Region.schedule,hm,Region.linearise]
 rw[he];have⟨h1,h2,h3⟩:=agA H7 ops.size t (Array.replicate ops.size false) [] ⟨by simp,λi hi=>by simp[hi]⟩ (qd.nil ms) (λ_ h=>by cases h) CI (by simp);exact⟨h1,λi hi=>by simpa using h2 i hi,h3⟩
theorem ad1:∀f u0 left done l,Gx ops ms f u0 left=some l->(∀j,pN u0 j=true->j∈done)->(∀i∈left,i∉done)->
 sv ms done l/\(∀i∈left,i∈l)/\∀i∈l,i∈left
 |0,u0,left,done,l,h,hg,hl=>by have⟨h1,h2⟩:=dn h;cases h2;rw[List.isEmpty_iff]at h1;subst h1;exact⟨trivial,(λ_ h=>by cases h),(λ_ h=>by cases h)⟩
 |f+1,u0,left,done,l,h,hg,hl=>by
  simp only[Gx]at h;have key:∀i,i∈left->(match ms[i]? with|some m=>Nat.beq (Nat.lor m u0) u0|none=>false)=true->
   (Gx ops ms f (Nat.lor u0 (Nat.pow 2 i)) (left.filter λj=> !Nat.beq i j)).map (i:: ·)=some l->
   sv ms done l/\(∀i∈left,i∈l)/\∀i∈l,i∈left:=by
   intro i hi hr h;cases hm:ms[i]? with
   |none=>rw[hm]at hr;cases hr
   |some m=>
    rw[hm]at hr;have hr:=dG hr;cases ha:Gx ops ms f (Nat.lor u0 (Nat.pow 2 i)) (left.filter λj=> !Nat.beq i j)with
    |none=>rw[ha]at h;cases h
    |some l'=>
     rw[ha]at h;cases h;have⟨h1,h2,h3⟩:=ad1 f _ _ (i::done) l' ha (λj hj=>by
      rw[Qq,ag0]at hj;simp at hj;rcases hj with h|h
      .exact dZ _ (hg j h)
      .exact h▸dJ ..) (λk hk=>by
      have⟨qw,oA⟩:=vU.1 hk;intro hd;rcases dm.1 hd with rfl|hd
      .simp at oA
      .exact hl k qw hd)
     refine⟨⟨?_,hl i hi,h1⟩,?_,?_⟩
     .rintro j ⟨m',ud,hb⟩;rw[hm]at ud;cases ud;refine hg j ?_;rw[<-hr,Qq,hb];rfl
     .intro k hk;by_cases HZ:k=i
      .exact HZ▸dJ ..
      .refine dZ _ (h2 k (vU.2 ⟨hk,?_⟩));simp;exact qE.2 λh=>HZ (dG h).symm
     .intro k hk;rcases dm.1 hk with rfl|hk
      .exact hi
      .exact(vU.1 (h3 k hk)).1
  split at h
  .have⟨h1,h2⟩:=dn h;cases h2;rw[List.isEmpty_iff]at h1;subst h1;exact⟨trivial,(λ_ h=>by cases h),(λ_ h=>by cases h)⟩
  next i hp=>
   split at hp;next i' hf=>cases hp;have:=List.find?_some hf;simp at this;exact key i (List.mem_of_find?_eq_some hf) this.1 h
   .exact key i (List.mem_of_find?_eq_some hp) (by have:=List.find?_some hp;exact this) h
theorem aab:∀bn post c last,wZ ops ms last (bn++c::post)=true->
 (∃e∈bn,kq ms c e)\/((∀e,last=some e->kq ms c e)/\∀i∈bn,(ops[i]?).any (rb ·.op)=true)
 |[],post,c,last,h=>by simp only[Cy,wZ,dk]at h;refine .inr ⟨?_,λ_ h=>by cases h⟩;rintro e rfl;exact II.1 h.1
 |i::bn,post,c,last,h=>by
  simp only[oH,wZ,dk]at h;have⟨h1,h2⟩:=h;cases hl:(ops[i]?).any (rb ·.op)with
  |true=>
   rw[hl]at h2;simp at h2;rcases aab bn post c last h2 with⟨e,he,h⟩|⟨h,h'⟩
   .exact .inl ⟨e,dZ _ he,h⟩
   .refine .inr ⟨h,λk hk=>?_⟩;rcases dm.1 hk with rfl|hk
    .exact hl
    .exact h' k hk
  |false=>
   rw[hl]at h2;simp at h2;rcases aab bn post c (some i) h2 with⟨e,he,h⟩|⟨h,h'⟩
   .exact .inl ⟨e,dZ _ he,h⟩
   .exact .inl ⟨i,dJ ..,h i rfl⟩
theorem aac:∀bn post last,wZ ops ms last (bn++post)=true->∃atM,wZ ops ms atM post=true
 |[],post,last,h=>⟨last,h⟩
 |i::bn,post,last,h=>by simp only[oH,wZ,dk]at h;exact aac bn post _ h.2
def iZ(ops:Array Oper)(j:Nat):Option Tmp:=(ops[j]?).bind (·.dst)
theorem ajt:∀{l:List Oper} {i j:Nat} {o o' t},wY (l.filterMap (·.dst))=true->l[i]? =some o->l[j]? =some o'->o.dst=some t->o'.dst=some t->i=j
 |[],i,j,o,o',t,_,h,_,_,_=>by simp at h
 |x::l,i,j,o,o',t,hn,hi,hj,ho,nA=>by
  have LB:∀{k:Nat} {o:Oper},l[k]? =some o->o.dst=some t->t∈l.filterMap (·.dst):=λhk hd=>MY.2 ⟨_,I4 hk,hd⟩
  have lU:x.dst=some t->t∈l.filterMap (·.dst)->False:=by intro hd hm;rw[List.filterMap_cons,hd]at hn;simp only[wY,dk,yT]at hn;have:=hn.1;rw[List.any_eq_false]at this;exact this t hm (by simp)
  have htl:wY (l.filterMap (·.dst))=true:=by
   rw[List.filterMap_cons]at hn;cases hd:x.dst with
   |none=>rw[hd]at hn;exact hn
   |some d=>rw[hd]at hn;simp only[wY,dk]at hn;exact hn.2
  cases i with
  |zero=>
   cases hi;cases j with
   |zero=>rfl
   |succ j=>exact(lU ho (LB (by simpa using hj) nA)).elim
  |succ i=>
   cases j with
   |zero=>cases hj;exact(lU nA (LB (by simpa using hi) ho)).elim
   |succ j=>exact congrArg (· +1) (ajt htl (by simpa using hi) (by simpa using hj) ho nA)
structure wm(ops:Array Oper)(ms:LN):Prop where
 we:∀i j t,iZ ops i=some t->iZ ops j=some t->i=j
 aan:∀i j o t,ops[i]? =some o->t∈No o->iZ ops j=some t->i=j\/kq ms i j\/kq ms j i
 guard:∀i o g b,ops[i]? =some o->o.guard=some (g,b)->kq ms i g
theorem ajJ:∀{l},MC ms l=true->∀o i g b,(o,i)∈l->o.guard=some (g,b)->kq ms i g
 |[],_,o,i,g,b,h,_=>by cases h
 |(o',i')::l,hk,o,i,g,b,h,hg=>by
  simp only[MC,dk]at hk;rcases dm.1 h with he|h
  .cases he;rw[hg]at hk;exact II.1 hk.1
  .exact ajJ hk.2 o i g b h hg
theorem Ro{i o}(h:ops[i]? =some o):(o,i)∈ops.toList.zipIdx:=by rw[List.mem_zipIdx_iff_getElem?];simpa using h
theorem KA{j t}(h:iZ ops j=some t):∃o,ops[j]? =some o/\o.dst=some t:=by
 unfold iZ at h;cases ho:ops[j]? with
 |none=>rw[ho]at h;cases h
 |some o=>rw[ho]at h;exact⟨o,rfl,h⟩
theorem wm.of(h:aaf ops ms=true)(hg:MC ms ops.toList.zipIdx=true):wm ops ms:=by
 unfold aaf at h;simp only[dk]at h;have⟨h1,h2⟩:=h;rw[lZ]at h2;refine⟨?_,?_,?_⟩
 .intro i j t hi hj;have⟨o,ho,hd⟩:=KA hi;have⟨o',nA,qt⟩:=KA hj;exact ajt h1 (by rw[vO];exact ho) (by rw[vO];exact nA) hd qt
 .intro i j o t ho ht hj;have⟨o',nA,qt⟩:=KA hj;have h3:=h2 _ (Ro ho);simp only[lZ]at h3;have h4:=h3 _ (Ro nA);simp only[qt,Sg,yT,II]at h4;rcases h4 with((h|h)|h)|h
  .exact .inl (dG h)
  .rw[List.any_eq_false]at h;exact(h t (I5 _ ht) (by simp)).elim
  .exact .inr (.inl h)
  .exact .inr (.inr h)
 .intro i o g b ho HV;exact ajJ hg o i g b (Ro ho) HV
theorem avv{pl}(h:IX ops=some pl):
 Fh ops.toList []=some pl.ms/\sv pl.ms [] pl.Dp/\(∀i,i<ops.size↔i∈pl.Dp)/\wZ ops pl.ms none pl.Dp=true/\wm ops pl.ms:=by
 unfold IX at h;split at h
 .cases h
 next ms H7=>
  split at h
  .cases h
  next l hl=>have⟨h1,h2⟩:=dn h;cases h2;simp at h1;have⟨g1,g2,g3⟩:=ad1 ops.size 0 (List.range ops.size) [] l hl (λj hj=>by rw[ag1]at hj;cases hj) (λ_ _ h=>by cases h);exact⟨H7,g1,λi=>⟨λhi=>g2 i (I9.2 hi),λhi=>I9.1 (g3 i hi)⟩,h1.1.1,wm.of h1.1.2 h1.2⟩
theorem aiq{i t}:Zt ops ms i t=true↔∃j,iZ ops j=some t/\¬kq ms i j:=by
 unfold Zt;rw[List.any_eq_true];constructor
 .rintro⟨⟨o,j⟩,hm,h⟩;rw[List.mem_zipIdx_iff_getElem?]at hm;simp at h;refine⟨j,?_,λhn=>?_⟩
  .have ho:ops[j]? =some o:=by simpa using hm
   unfold iZ;rw[ho];cases hd:o.dst with
   |none=>rw[hd]at h;simp at h
   |some d=>rw[hd]at h;simp only at h;show o.dst=some t;rw[hd];exact congrArg some (dG h.1)
  .rw[<-II]at hn;rw[hn]at h;exact absurd h.2 (by simp)
 .rintro⟨j,hj,hn⟩;have⟨o,ho,hd⟩:=KA hj;refine⟨(o,j),Ro ho,?_⟩;simp only[hd,dk,yT];exact⟨by simp,qE.2 λh=>hn (II.1 h)⟩
end
section
variable{P:Program}{ρ:Operand->Option AV}{H H':AH}
theorem aeu(hm:∀id ob,H.bf id=some ob->H'.bf id=some ob){id vs}(h:H.p9 id=some vs):H'.p9 id=some vs:=by
 unfold AH.p9 at h⊢;split at h;next ho=>rw[hm _ _ ho];exact h
 next ho=>rw[hm _ _ ho];exact h
 next ho=>rw[hm _ _ ho];exact h
 .cases h
theorem aqE(hm:∀id ob,H.bf id=some ob->H'.bf id=some ob){m es}(h:Bg H m=some es):Bg H' m=some es:=by
 unfold Bg at h⊢;cases m<;>simp only at h⊢<;>try (cases h;done)
 case mF=>exact h
 case aA id=>
  split at h;next ho=>rw[hm _ _ ho];exact h
  .cases h
theorem at2(hm:∀id ob,H.bf id=some ob->H'.bf id=some ob){x n}(h:E' H x=some n):E' H' x=some n:=by
 unfold E' at h⊢;cases x<;>simp only at h⊢<;>try (first|exact h|cases h;done)
 case aA id=>
  split at h;next ho=>rw[hm _ _ ho];exact h
  .cases h
theorem aB7{op}(h:Q1 op=true)(H H'):fL P ρ H op=fL P ρ H' op:=by cases op<;>first|rfl|(simp[Q1]at h)
theorem avY(hm:∀id ob,H.bf id=some ob->H'.bf id=some ob)(hX:H'.x=H.x){op v}(h:fL P ρ H op=some v):fL P ρ H' op=some v:=by
 cases op<;>simp only[fL]at h⊢<;>try (first|exact h|cases h;done)
 case load t a=>
  unfold Q9 at h⊢;split at h
  .unfold s9 at h⊢;split at h
   .cases h
   next hc=>rw[aeu hm hc];exact h
  .exact h
  .unfold Ma at h⊢;rw[tw hX];exact h
  .cases h
 case slice t x lo hi mx=>
  unfold Ca at h⊢;split at h
  .split at h
   .exact h
   .exact h
   .exact h
   .exact h
   .exact h
   .exact h
   .split at h;next hs hc=>simp only[hs,aeu hm hc];exact h
    .cases h
   .cases h
  .cases h
 case lookup t x k ok=>
  unfold L4 at h⊢;split at h
  .obtain⟨v0,h0,rfl⟩:=tb h;have hn:∀e o,kX P H' e o=kX P H e o:=λe o=>by unfold kX;rw[hX]
   rw[hn];refine CA.2 ⟨v0,?_,rfl⟩;revert h0;intro h;unfold Mb at h⊢;have⟨h1,h⟩:=dn h;rw[h1];simp;split at h;next he=>rw[aqE hm he];exact h
   .cases h
  .cases h
 case call c=>
  have⟨callee,args,argTypes⟩:=c;cases callee<;>simp only at h⊢<;>try (cases h;done)
  unfold Zo at h⊢;split at h
  .unfold Q7 at h⊢;split at h
   .unfold Zp at h⊢;split at h
    .exact h
    .have⟨h1,h⟩:=dn h;rw[h1];cases hl:E' H _ with
     |none=>rw[hl]at h;cases h
     |some n=>rw[at2 hm hl];rw[hl]at h;exact h
    .cases h
   .exact h
   .exact h
   .exact h
   .cases h
  .cases h
end
mutual
theorem VU:∀{a b:AV},mW a b=true->a=b
 |.ao a,b,h=>by cases b<;>simp[mW]at h;rw[h]
 |.bU j a,b,h=>by cases b<;>simp[mW]at h;rw[h.1,h.2]
 |.ab a,b,h=>by
  cases b<;>simp only[mW]at h<;>try (cases h;done)
  rw[mu,Cx]at h;rw[h]
 |.aa a o,b,h=>by
  cases b<;>simp only[mW,dk]at h<;>try (cases h;done)
  rw[dG h.1,dG h.2]
 |.kE,b,h=>by cases b<;>first|rfl|(simp only[mW]at h;cases h)
 |.bq a1 a2 a3 a4 a5 a6,b,h=>by
  cases b<;>simp only[mW,dk,beq_iff_eq]at h<;>try (cases h;done)
  obtain⟨⟨⟨⟨⟨h1,h2⟩,h3⟩,h4⟩,h5⟩,h6⟩:=h;rw[dG h1,dG h2,dG h3,dG h4,dG h5,h6]
 |.aJ,b,h=>by cases b<;>first|rfl|(simp only[mW]at h;cases h)
 |.aA a,b,h=>by
  cases b<;>simp only[mW]at h<;>try (cases h;done)
  rw[dG h]
 |.mF,b,h=>by cases b<;>first|rfl|(simp only[mW]at h;cases h)
 |.ba f l c,b,h=>by
  cases b<;>simp only[mW,dk,Cx]at h<;>try (cases h;done)
  obtain⟨⟨h1,h2⟩,h3⟩:=h;rw[h1,Km h2,Km h3]
 |.gz a,b,h=>by
  cases b<;>simp only[mW]at h<;>try (cases h;done)
  rw[dG h]
 |.p_,b,h=>by cases b<;>first|rfl|(simp only[mW]at h;cases h)
 |.dT t v,b,h=>by
  cases b<;>simp only[mW,dk]at h<;>try (cases h;done)
  rw[dG h.1,VU h.2]
 |.lq,b,h=>by cases b<;>first|rfl|(simp only[mW]at h;cases h)
 |.ah l,b,h=>by
  cases b<;>simp only[mW]at h<;>try (cases h;done)
  rw[Km h]
 |.aC l,b,h=>by
  cases b<;>simp only[mW]at h<;>try (cases h;done)
  rw[Km h]
 |.uW a,b,h=>by
  cases b<;>simp only[mW]at h<;>try (cases h;done)
  rw[dG h]
theorem Km:∀{l m:LV},zw l m=true->l=m
 |[],[],_=>rfl
 |[],_::_,h=>by simp[zw]at h
 |_::_,[],h=>by simp[zw]at h
 |a::l,b::m,h=>by simp only[zw,dk]at h;rw[VU h.1,Km h.2]
end
theorem azq{a b}(h:Sy a b=true):a=b:=by
 rcases(Sg _ _).mp h with h|h
 .exact VU h
 .exact @dQ _ (Classical.propDecidable _) h
section
variable{P:Program}{b:Frame}{a:Act}{k:List Item}{cs:List Frame}{w:World}{ops:Array Oper}
theorem yZ{o}(ro ρ)(h:∀c,o.op≠.defer c):o.semAt ro ρ=execOp ρ o:=Oper.semAt_eq ro ρ o h
theorem akn{op}(h:o0 op=true)(c):op≠.defer c:=by rintro rfl;cases h
theorem aiR{ρ op r}(h:qy P ρ op=some r)(c):op≠.defer c:=by rintro rfl;cases h
theorem Hi{i rest o}(ho:ops[i]? =some o)(v):
 (b.atR a (.inRegion ops (i::rest)::k)).finish v=b.atR (a.put o.dst v) (.inRegion ops rest::k):=by
 rw[Frame.finish_atR,ho];rfl
theorem Jf{i rest o}(ho:ops[i]? =some o)(hw:Region.wanted o (yielded ops a.tmps)=true){v w'}(hr:(o.semAt b.roundOf a.eval).run P w=.ok (.value v) w'\/((o.semAt b.roundOf a.eval).run P w=.ok .skip w'/\v=undef)):
 step P (lone (b.atR a (.inRegion ops (i::rest)::k)) cs w)=.next (lone (b.atR (a.put o.dst v) (.inRegion ops rest::k)) cs w'):=by
 have hg:=stepGR_op (P:=P) (b:=b) (k:=k) (cs:=cs) (w:=w) (rest:=rest) ho hw;refine step_lone_go ?_;rw[hg,<-Hi ho];rcases hr with hr|⟨hr,rfl⟩<;>simp[stepG.apply,hr]
theorem aB3{i rest o}(ho:ops[i]? =some o)(hw:Region.wanted o (yielded ops a.tmps)=true){f args w'}(hr:(o.semAt b.roundOf a.eval).run P w=.ok (.enter f args) w'):
 step P (lone (b.atR a (.inRegion ops (i::rest)::k)) cs w)=.next (lone (Frame.enter P f args .normal) (b.atR a (.inRegion ops (i::rest)::k)::cs) w'):=by
 have hg:=stepGR_op (P:=P) (b:=b) (k:=k) (cs:=cs) (w:=w) (rest:=rest) ho hw;exact step_lone_go (by rw[hg];simp[stepG.apply,hr,Frame.atR])
theorem aB5{i rest o}(ho:ops[i]? =some o)(hw:Region.wanted o (yielded ops a.tmps)=true){l f tmps assign body w'}(hr:(o.semAt b.roundOf a.eval).run P w=.ok (.round l f tmps assign body) w'):
 step P (lone (b.atR a (.inRegion ops (i::rest)::k)) cs w)=.next (lone (Frame.round l f tmps assign body .normal) (b.atR a (.inRegion ops (i::rest)::k)::cs) w'):=by
 have hg:=stepGR_op (P:=P) (b:=b) (k:=k) (cs:=cs) (w:=w) (rest:=rest) ho hw;exact step_lone_go (by rw[hg];simp[stepG.apply,hr,Frame.atR])
theorem aB4{i rest o}(ho:ops[i]? =some o)(hw:Region.wanted o (yielded ops a.tmps)=true){v w'}(hr:(o.semAt b.roundOf a.eval).run P w=.halt (.panic v) w'):
 step P (lone (b.atR a (.inRegion ops (i::rest)::k)) cs w)=.next (lone ((b.atR a (.inRegion ops (i::rest)::k)).raise [{v,recovered:=false}]) cs w'):=by
 have hg:=stepGR_op (P:=P) (b:=b) (k:=k) (cs:=cs) (w:=w) (rest:=rest) ho hw;refine step_lone_go ?_;rw[hg];simp[stepG.apply,hr]
theorem aB2{i rest o}(ho:ops[i]? =some o)(hw:Region.wanted o (yielded ops a.tmps)=true){d w'}(hr:(o.semAt b.roundOf a.eval).run P w=.ok (.defer d) w'):
 step P (lone (b.atR a (.inRegion ops (i::rest)::k)) cs w)=.next (lone (b.atR ({a with defers:=d::a.defers}.put o.dst undef) (.inRegion ops rest::k)) cs w'):=by
 have hg:=stepGR_op (P:=P) (b:=b) (k:=k) (cs:=cs) (w:=w) (rest:=rest) ho hw;refine step_lone_go ?_;have:({b.atR a (.inRegion ops (i::rest)::k)with defers:=d::a.defers}:Frame).finish undef=
  b.atR ({a with defers:=d::a.defers}.put o.dst undef) (.inRegion ops rest::k):=by
  have:=Frame.finish_atR b {a with defers:=d::a.defers} ops i rest k undef;rw[ho]at this;exact this
 rw[hg];simp only[stepG.apply,Sem.runT_eq,hr,GStep.bare_after];exact congrArg (λfr=>GStep.go {frame:=fr,callers:=cs,status:=.running,dying:=none} w') this
end
theorem TR.put{φ t t' nt}{a:Act}{dst x v}(h:TR φ t nt a.tmps)(hs:oK nt t dst x=some t')(hv:VR φ x v):TR φ t' nt (a.put dst v).tmps:=by
 cases dst with
 |none=>cases hs;exact h
 |some d=>
  have⟨h1,h2⟩:=dn hs;cases h2;have hd:=ph h1;refine⟨by show(a.tmps.setIfInBounds d v).size=nt;rw[Array.size_setIfInBounds];exact h.1,λi x' hx=>?_⟩;show∃v',(a.tmps.setIfInBounds d v)[i]? =some v'/\_;rw[Sf];by_cases hi:d=i
  .subst hi;rw[Tr.kD]at hx;simp at hx;subst hx;rw[aO rfl,aO (by rw[h.1];exact hd)];exact⟨v,rfl,hv⟩
  .rw[Tr.kD]at hx;rw[az hi];exact h.2 i x' (by simpa[hi,Ne.symm hi]using hx)
theorem TR.uB{φ t nt}{a:Act}(h:TR φ t nt a.tmps)(l):nP φ (iw t) a.eval l:=by
 intro x _ v hx;cases x with
 |tmp i=>have⟨v',h1,h2⟩:=h.2 i v hx;show VR φ v (a.tmps.getD i undef);rw[MV,h1];exact h2
 |const c=>exact Wh hx
 |global g=>cases hx;rfl
 |func f=>cases hx;exact⟨#[],#[],rfl,rfl,lK,lK⟩
def CR(φ:cj):Ds->List PanicEntry->Prop
 |[],l=>l=[]
 |(v,r)::c,l=>∃v' l',l={v:=v',recovered:=r}::l'/\VR φ v v'/\CR φ c l'
def Gn(Dc Da:LN)(j:Nat):Prop:=j∈Da/\j∉Dc
def Vm(ops:Array Oper)(bt cur:Tr AV)(Dc Da:LN)(t:Tmp)(a:AV):Prop:=
 (∃j,Gn Dc Da j/\iZ ops j=some t/\bt.bT t=some a)\/((∀j,Gn Dc Da j->iZ ops j≠some t)/\cur.bT t=some a)
def JK(ops:Array Oper)(ms:LN)(bt cur:Tr AV)(j:Nat)(o:Oper)(ρ:Operand->Option AV):Prop:=
 ∀x∈o.op.operands.toList,ρ x=Gz (wy ops ms bt cur j) x
def Gm(P:Program)(ops:Array Oper)(ms:LN)(bt cur:Tr AV)(H:AH)(φ:cj)(m:Nat)(iy:Nat->Option Nat)(j:Nat)(o:Oper)(b:Bool)(v:AV):Prop:=
 (b=false/\v=.lI)\/
 (b=true/\o0 o.op=true/\∃ρ,JK ops ms bt cur j o ρ/\fL P ρ H o.op=some v)\/
 (b=true/\∃ρ ob g id,JK ops ms bt cur j o ρ/\qy P ρ o.op=some (ob,g)/\v=g id/\iy j=some id/\m<=id/\φ id=none/\H.bf id=some ob)
structure qf(P:Program)(ops:Array Oper)(ms:LN)(bt:Tr AV)(nt:Nat)(bs:fv)(m:Nat)(iy:Nat->Option Nat)(Dc Da:LN)(cur:Tr AV)(H:AH)(φ:cj)(w:World)(tmps:Array Value):Prop where
 wr:WR φ bs H w
 hb:hQ bs w
 hm:m<=H.bx
 Dn:tmps.size=nt
 tr:∀t a,Vm ops bt cur Dc Da t a->∃v,tmps[t]? =some v/\VR φ a v
 un:∀t,(∀j∈Da,iZ ops j≠some t)->cur.bT t=bt.bT t
 aM:∀j id,iy j=some id->id<H.bx
 inj:∀j j' id,iy j=some id->iy j'=some id->j=j'
 R0:∀j,Gn Dc Da j->∃o b v,ops[j]? =some o/\mN ops o cur.bT=some b/\(∀d,o.dst=some d->d<nt/\cur.bT d=some v)/\Gm P ops ms bt cur H φ m iy j o b v
section
variable{P:Program}{call:rO}{ops:Array Oper}{ms:LN}{bt cur lv:Tr AV}{nt:Nat}{bs:fv}{m:Nat}{iy:Nat->Option Nat}{Dc Da:LN}{H H':AH}{φ aQ:cj}{w:World}{tmps:Array Value}
theorem PD{i t}(h:∃j,iZ ops j=some t/\¬kq ms i j):wy ops ms bt cur i t=bt.bT t:=by unfold wy;rw[aiq.2 h];rfl
theorem PF{i t}(h:¬∃j,iZ ops j=some t/\¬kq ms i j):wy ops ms bt cur i t=cur.bT t:=by unfold wy;rw[qE.2 λhl=>h (aiq.1 hl)];rfl
theorem afI{j i s}(Ex:∀d,s=some d->iZ ops i=some d)(hi:i∉Da)(hn:∀k,kq ms j k->k∈Da)(hk:∀t,s≠some t->lv.bT t=cur.bT t):wy ops ms bt lv j=wy ops ms bt cur j:=by
 funext t;by_cases hl:∃k,iZ ops k=some t/\¬kq ms j k
 .rw[PD hl,PD hl]
 .rw[PF hl,PF hl];refine hk t λhs=>?_
  have hd:=Ex t hs;exact hi (hn i (qau λh=>hl ⟨i,hd,h⟩))
theorem abK(iI:wm ops ms){j i o s}(ho:ops[j]? =some o)(Ex:∀d,s=some d->iZ ops i=some d)(hi:i∉Da)(hn:∀k,kq ms j k->k∈Da)(hk:∀t,s≠some t->lv.bT t=cur.bT t):mN ops o lv.bT=mN ops o cur.bT:=by
 unfold mN;split
 .rfl
 next g py hg=>
  have HV:=hn g (iI.guard j o g py ho hg);split
  .rfl
  next d hd=>
   have:=hk d λhs=>by have:=iI.we g i d hd (Ex d hs);subst this;exact hi HV
   rw[this]
theorem SA{o i v}(ho:ops[i]? =some o)(h:oK nt cur o.dst v=some lv):
 (∀d,o.dst=some d->d<nt/\lv.bT d=some v/\iZ ops i=some d)/\(∀t,iZ ops i≠some t->lv.bT t=cur.bT t):=by
 have HL:iZ ops i=o.dst:=by unfold iZ;rw[ho];rfl
 rw[HL];cases hd:o.dst with
 |none=>rw[hd]at h;cases h;exact⟨(λd h=>by cases h),λ_ _=>rfl⟩
 |some d=>
  rw[hd]at h;have⟨h1,h2⟩:=dn h;cases h2;refine⟨?_,?_⟩
  .intro d' qt;cases qt;exact⟨ph h1,by rw[Tr.kD];simp,rfl⟩
  .intro t ht;rw[Tr.kD,az];intro e;exact ht (by rw[e])
theorem Gm.L1{j i o s b v}(h:Gm P ops ms bt cur H φ m iy j o b v)(Ex:∀d,s=some d->iZ ops i=some d)(hi:i∉Da)(hn:∀k,kq ms j k->k∈Da)(hk:∀t,s≠some t->lv.bT t=cur.bT t):Gm P ops ms bt lv H φ m iy j o b v:=by unfold Gm JK at h⊢;rw[afI Ex hi hn hk];exact h
theorem qf.adv(iI:wm ops ms)(h:qf P ops ms bt nt bs m iy Dc Da cur H φ w tmps){i o}(ho:ops[i]? =some o)(hi:i∉Da)(sU:∀j,kq ms i j->j∈Da)(ke:qd ms Da)(sZ:∀j∈Dc,j∈Da)(hl:rb o.op=true\/mN ops o cur.bT=some false)(hs:pc P call ops ms bt Da i nt cur H o=.go lv H'):
 ∃vn,qf P ops ms bt nt bs m vn Dc (i::Da) lv H' φ w tmps/\cH m φ H φ H':=by
 have ass:=λhd=>hi (sZ i hd)
 have asQ:∀t∈No o,cur.bT t=wy ops ms bt cur i t:=by
  intro t ht;by_cases hl:∃k,iZ ops k=some t/\¬kq ms i k
  .rw[PD hl];have⟨k,hk,Yp⟩:=hl;have asv:k∉Da:=by
    intro uc;rcases iI.aan i k o t ho ht hk with rfl|hh|hh
    .exact hi uc
    .exact Yp hh
    .exact hi (ke k uc i hh)
   exact h.un t λj hj hd=>by have:=iI.we j k t hd hk;subst this;exact asv hj
  .rw[PF hl]
 have HT:∀Wl,(∀t,iZ ops i≠some t->Wl.bT t=cur.bT t)->JK ops ms bt Wl i o (iw cur):=by
  intro Wl hk x hx;rw[afI (λd h=>h) hi sU hk];cases x with
  |tmp t=>exact asQ t (MY.2 ⟨.tmp t,hx,rfl⟩)
  |const c=>rfl
  |global g=>rfl
  |func f=>rfl
 have key:∀(v:AV) (H1:AH) (vn:Nat->Option Nat) (b:Bool),oK nt cur o.dst v=some lv->mN ops o cur.bT=some b->WR φ bs H1 w->H.bx<=H1.bx->
  (∀j id,vn j=some id->id<H1.bx)->(∀j j' id,vn j=some id->vn j'=some id->j=j')->(∀j,j≠i->vn j=iy j)->
  (∀id ob,H.bf id=some ob->H1.bf id=some ob)->H1.x=H.x->
  Gm P ops ms bt lv H1 φ m vn i o b v->qf P ops ms bt nt bs m vn Dc (i::Da) lv H1 φ w tmps:=by
  intro v H1 vn b kQ qx YW vj zZ ast BU ahs hX uf;have⟨g1,g2⟩:=SA ho kQ;refine⟨YW,h.hb,kF h.hm vj,h.Dn,?_,?_,zZ,ast,?_⟩
  .intro t a hv;refine h.tr t a ?_;rcases hv with⟨j,⟨ve,HX⟩,hd,hb⟩|⟨lU,hc⟩
   .rcases dm.1 ve with rfl|ve
    .refine .inr ⟨λk hk uc=>?_,?_⟩
     .have:=iI.we k j t uc hd;subst this;exact hi hk.1
     .rw[h.un t λk hk uc=>?_]
      .exact hb
      .have:=iI.we k j t uc hd;subst this;exact hi hk
    .exact .inl ⟨j,⟨ve,HX⟩,hd,hb⟩
   .refine .inr ⟨λk hk=>lU k ⟨dZ _ hk.1,hk.2⟩,?_⟩;rw[<-g2 t (lU i ⟨dJ ..,ass⟩)];exact hc
  .intro t ht;rw[g2 t (ht i (dJ ..))];exact h.un t λj hj=>ht j (dZ _ hj)
  .intro j ⟨ve,HX⟩;rcases dm.1 ve with rfl|ve
   .exact⟨o,b,v,ho,by rw[abK iI ho (λd h=>h) hi sU g2];exact qx,λd hd=>⟨(g1 d hd).1,(g1 d hd).2.1⟩,uf⟩
   .have HY:j≠i:=λe=>hi (e▸ve)
    have⟨o',b',v',p1,p2,p3,p4⟩:=h.R0 j ⟨ve,HX⟩;refine⟨o',b',v',p1,by rw[abK iI p1 (λd h=>h) hi (ke j ve) g2];exact p2,λd hd=>⟨(p3 d hd).1,?_⟩,?_⟩
    .rw[g2 d λqt=>?_]
     .exact(p3 d hd).2
     .have:iZ ops j=some d:=by unfold iZ;rw[p1];exact hd
      exact HY (iI.we j i d this qt)
    .have p5:=p4.L1 (λd h=>h) hi (ke j ve) g2;rcases p5 with p|⟨p,q,ρ,e,r⟩|⟨p,ρ,ob,g,id,e,q1,q2,q3,q4,q5,q6⟩
     .exact .inl p
     .exact .inr (.inl ⟨p,q,ρ,e,avY ahs hX r⟩)
     .exact .inr (.inr ⟨p,ρ,ob,g,id,e,q1,q2,by rw[BU j HY];exact q3,q4,q5,ahs _ _ q6⟩)
 unfold pc at hs;split at hs
 .cases hs
 next b qx=>
  cases b with
  |false=>
   simp only[cond_false,r8]at hs;split at hs;next t kQ=>cases hs;exact⟨iy,key .lI H iy false kQ qx h.wr (cM _) h.aM h.inj (λ_ _=>rfl) (λ_ _ h=>h) rfl (.inl ⟨rfl,rfl⟩),cH.jO _ _ _⟩
   .cases hs
  |true=>
   simp at hs;cases hr:o0 o.op with
   |true=>
    rw[hr]at hs;simp only[cond_true,MJ]at hs;split at hs;next v hv=>
     simp only[r8]at hs;split at hs;next t kQ=>cases hs;exact⟨iy,key v H iy true kQ qx h.wr (cM _) h.aM h.inj (λ_ _=>rfl) (λ_ _ h=>h) rfl (.inr (.inl ⟨rfl,hr,iw cur,HT _ (SA ho kQ).2,hv⟩)),cH.jO _ _ _⟩
     .cases hs
    .cases hs
   |false=>
    rw[hr]at hs;simp at hs;cases yx:r6 o.op with
    |false=>
     rcases hl with hl|hl
     .simp[rb,hr,yx]at hl
     .rw[qx]at hl;cases hl
    |true=>
     rw[yx]at hs;simp at hs;cases vh:qy P (iw cur) o.op with
     |none=>rw[vh]at hs;simp[Cp]at hs
     |some r=>
      have⟨ob,g⟩:=r;have⟨hh,n,xx⟩:=H;rw[vh]at hs;simp only[Cp,r8]at hs;split at hs;next t kQ=>
       cases hs;have QA:=h.wr.yj (cM _);refine⟨λj=>if j=i then some n else iy j,?_,cH.new h.hm ob⟩;refine key (g n) _ _ true kQ qx (h.wr.new ob) (by rw[rk];exact Nat.le_succ _) ?_ ?_ (λj hj=>az hj) ?_ (zd _ _) ?_
       .intro j id hj;rw[rk];split at hj
        .cases hj;exact lY _
        .exact Fx (h.aM j id hj)
       .intro j j' id hj BM;split at hj<;>split at BM;next e1 e2=>rw[e1,e2]
        .cases hj;have:=h.aM _ _ BM;exact absurd this (Nat.lt_irrefl _)
        .cases BM;have:=h.aM _ _ hj;exact absurd this (Nat.lt_irrefl _)
        .exact h.inj j j' id hj BM
       .intro id bB eH;rw[lW,az]
        .exact eH
        .intro e;have:=h.wr.nx id bB eH;rw[e]at this;exact Nat.lt_irrefl _ this
       .exact .inr (.inr ⟨rfl,iw cur,ob,g,n,HT _ (SA ho kQ).2,vh,rfl,aO rfl,h.hm,QA,by rw[lW,aO rfl]⟩)
      .cases hs
end
section
variable{P:Program}{call:rO}{ops:Array Oper}{ms:LN}{bt cur lv:Tr AV}{nt:Nat}{bs:fv}{m:Nat}{iy:Nat->Option Nat}{Dc Da:LN}{H H':AH}{φ aQ:cj}{w w':World}{a:Act}
theorem abL{o b}(h:mN ops o cur.bT=some b)(hv:∀g py d x,o.guard=some (g,py)->iZ ops g=some d->cur.bT d=some x->∃v,a.tmps[d]? =some v/\VR φ x v):
 Region.wanted o (yielded ops a.tmps)=b:=by
 unfold mN at h;unfold Region.wanted;split at h;next hg=>cases h;rw[hg]
 next g py hg=>
  rw[hg];simp only;split at h
  .cases h
  next d hd=>
   have hy:yielded ops a.tmps g=(match a.tmps[d]? with|some (.bool b)=>some b|_=>none):=by unfold yielded;rw[hd];rfl
   rw[hy];split at h;next x hx=>cases h;have⟨v,h1,h2⟩:=hv g py d _ hg hd hx;subst h2;rw[h1];cases x<;>cases py<;>rfl
   next hx=>cases h;have⟨v,h1,h2⟩:=hv g py d _ hg hd hx;obtain⟨l,rfl,_⟩:=h2;rw[h1];rfl
   .cases h
theorem aeb{get l}(h:∀t,.tmp t∈l->∀x,get t=some x->∃v,a.tmps[t]? =some v/\VR φ x v):nP φ (Gz get) a.eval l:=by
 intro x hx v hv;cases x with
 |tmp i=>have⟨v',h1,h2⟩:=h i hx v hv;show VR φ v (a.tmps.getD i undef);rw[MV,h1];exact h2
 |const c=>exact Wh hv
 |global g=>cases hv;rfl
 |func f=>cases hv;exact⟨#[],#[],rfl,rfl,lK,lK⟩
theorem ake{d v}(h:d<a.tmps.size):(a.put (some d) v).tmps[d]? =some v:=by show(a.tmps.setIfInBounds d v)[d]? =some v;rw[Sf,aO rfl,aO h]
theorem akc{s t v}(h:s≠some t):(a.put s v).tmps[t]? =a.tmps[t]? :=by
 cases s with
 |none=>rfl
 |some d=>show(a.tmps.setIfInBounds d v)[t]? =_;rw[Sf,az (λe=>h (by rw[e]))]
theorem akd{s v}:(a.put s v).tmps.size=a.tmps.size:=by
 cases s with
 |none=>rfl
 |some d=>exact Array.size_setIfInBounds ..
theorem Cv{s v}:(a.put s v).defers=a.defers:=by cases s<;>rfl
theorem qf.guard(iI:wm ops ms)(h:qf P ops ms bt nt bs m iy Dc Da cur H φ w a.tmps){c o}(ho:ops[c]? =some o)(sU:∀j,kq ms c j->j∈Dc){b}(hw:mN ops o cur.bT=some b):
 Region.wanted o (yielded ops a.tmps)=b:=by
 refine abL hw λg py d x hg hd hx=>h.tr d x (.inr ⟨λj hj pR=>?_,hx⟩)
 have:=iI.we g j d hd pR;subst this;exact hj.2 (sU _ (iI.guard c o _ py ho hg))
theorem qf.exec(iI:wm ops ms)(h:qf P ops ms bt nt bs m iy Dc Da cur H φ w a.tmps){c}(hp:Gn Dc Da c)(sU:∀j,kq ms c j->j∈Dc)(ke:qd ms Dc):
 ∃aQ w' a',(∀(b:Frame) (k cs rest),step P (lone (b.atR a (.inRegion ops (c::rest)::k)) cs w)=.next (lone (b.atR a' (.inRegion ops rest::k)) cs w'))/\a'.defers=a.defers/\
  qf P ops ms bt nt bs m iy (c::Dc) Da cur H aQ w' a'.tmps/\cH m φ H aQ H/\cY bs w w':=by
 have⟨o,b,v,ho,qx,Ex,uf⟩:=h.R0 c hp;have HL:iZ ops c=o.dst:=by unfold iZ;rw[ho];rfl
 have oZ:=h.guard iI ho sU qx;have uh:∀ρ,JK ops ms bt cur c o ρ->nP φ ρ a.eval o.op.operands.toList:=by
  intro ρ he x hx y hy;rw[he x hx]at hy;refine aeb (λt ht z hz=>h.tr t z ?_) x hx y hy;have YI:t∈No o:=MY.2 ⟨.tmp t,ht,rfl⟩;by_cases hl:∃k,iZ ops k=some t/\¬kq ms c k
  .rw[PD hl]at hz;have⟨k,hk,Yp⟩:=hl;by_cases Yg:Gn Dc Da k
   .exact .inl ⟨k,Yg,hk,hz⟩
   .have asw:k∉Dc:=by
     intro uc;rcases iI.aan c k o t ho YI hk with rfl|hh|hh
     .exact hp.2 uc
     .exact Yp hh
     .exact hp.2 (ke k uc c hh)
    refine .inr ⟨λj hj hd=>?_,?_⟩
    .have:=iI.we j k t hd hk;subst this;exact Yg hj
    .rw[h.un t λj hj hd=>?_]
     .exact hz
     .have:=iI.we j k t hd hk;subst this;exact Yg ⟨hj,asw⟩
  .rw[PF hl]at hz;refine .inr ⟨λj hj hd=>?_,hz⟩;exact hj.2 (sU j (qau λhn=>hl ⟨j,hd,hn⟩))
 have key:∀(aQ:cj) (w':World) (v':Value),WR aQ bs H w'->cH m φ H aQ H->cY bs w w'->VR aQ v v'->
  (∀j id,j≠c->iy j=some id->φ id=none->aQ id=none)->qf P ops ms bt nt bs m iy (c::Dc) Da cur H aQ w' (a.put o.dst v').tmps:=by
  intro aQ w' v' YW wJ hk hv zZ;refine⟨YW,h.hb.Dm hk.1,h.hm,by rw[akd];exact h.Dn,?_,h.un,h.aM,h.inj,?_⟩
  .intro t x hx;by_cases yA:o.dst=some t
   .have hd:=Ex t yA;have pS:¬∃j,Gn (c::Dc) Da j/\iZ ops j=some t:=by rintro⟨j,hj,pR⟩;have:=iI.we j c t pR (by rw[HL];exact yA);subst this;exact hj.2 (dJ ..)
    rcases hx with⟨j,hj,pR,_⟩|⟨_,hx⟩
    .exact(pS ⟨j,hj,pR⟩).elim
    .rw[hd.2]at hx;cases hx;rw[yA];exact⟨v',ake (by rw[h.Dn];exact hd.1),hv⟩
   .rw[akc yA];have:Vm ops bt cur Dc Da t x:=by
     rcases hx with⟨j,hj,pR,hb⟩|⟨lU,hx⟩
     .exact .inl ⟨j,⟨hj.1,λhd=>hj.2 (dZ _ hd)⟩,pR,hb⟩
     .refine .inr ⟨λj hj pR=>?_,hx⟩;by_cases EB:j=c
      .subst EB;exact yA (by rw[<-HL];exact pR)
      .refine lU j ⟨hj.1,λhd=>?_⟩ pR;rcases dm.1 hd with e|hd
       .exact EB e
       .exact hj.2 hd
    have⟨u,h1,h2⟩:=h.tr t x this;exact⟨u,h1,h2.ef wJ.1⟩
  .intro j hj;have EB:j≠c:=λe=>hj.2 (e▸dJ ..)
   have⟨o',b',Ta,p1,p2,p3,p4⟩:=h.R0 j ⟨hj.1,λhd=>hj.2 (dZ _ hd)⟩;refine⟨o',b',Ta,p1,p2,p3,?_⟩;rcases p4 with p|p|⟨p,ρ,ob,g,id,e,q1,q2,q3,q4,q5,q6⟩
   .exact .inl p
   .exact .inr (.inl p)
   .exact .inr (.inr ⟨p,ρ,ob,g,id,e,q1,q2,q3,q4,zZ j id EB q3 q5,q6⟩)
 rcases uf with⟨rfl,rfl⟩|⟨rfl,hr,ρ,HT,asO⟩|⟨rfl,ρ,ob,g,id,HT,ahq,rfl,dE,Ym,QI,eH⟩
 .refine⟨φ,w,a.put o.dst undef,λb k cs rest=>?_,Cv,key φ w undef h.wr (cH.jO _ _ _) (cY.ka _ _) (Jn φ) (λ_ _ _ _ h=>h),cH.jO _ _ _,cY.ka _ _⟩;have:=stepR_op_skip (P:=P) (b:=b) (a:=a) (k:=k) (cs:=cs) (w:=w) (ops:=ops) (i:=c) (rest:=rest) (by simp[ho,oZ]);simpa[ho]using this
 .have⟨v',h1,h2⟩:=ako h.wr (uh ρ HT) asO;exact⟨φ,w,a.put o.dst v',λb k cs rest=>Jf ho oZ (.inl (by rw[yZ _ _ (akn hr)];exact h1)),Cv,key φ w v' h.wr (cH.jO _ _ _) (cY.ka _ _) h2 (λ_ _ _ _ h=>h),cH.jO _ _ _,cY.ka _ _⟩
 .have⟨o',n,f,h1,h2,h3,h4⟩:=aiS (uh ρ HT) ahq;have cu:=Ko (e:=⟨w.heap.size,0,n⟩) QI;have wJ:cH m φ H (js φ id ⟨w.heap.size,0,n⟩) H:=⟨cu,cM _,λi hi hn=>⟨by rw[A1];rw[az (by omega)];exact hn,.inl rfl⟩,.of rfl rfl⟩;have hk:=cY.alloc h.hb o';refine⟨js φ id ⟨w.heap.size,0,n⟩,w.alloc o',a.put o.dst (f w.heap.size),λb k cs rest=>Jf ho oZ (.inl (by rw[yZ _ _ (aiR ahq)];exact h1 w)),Cv,?_,wJ,hk⟩;refine key _ _ _ (h.wr.aeg QI eH h.hb h2) wJ hk (h3 _ id _ (ml ..)) ?_;intro j g_ hj asu hn;rw[A1];rw[az]
  .exact hn
  .intro e;subst e;exact hj (h.inj j c _ asu dE)
end
def anD(P:Program)(m:Nat)(bs:fv)(φ:cj)(H:AH)(w:World)(fr:Frame)(cs:List Frame)(r:lJ):Prop:=
 ∃aQ w',WR aQ bs r.H w'/\cH m φ H aQ r.H/\cY bs w w'/\match r.e with
  |.gk v=>∃v',VR aQ v v'/\Steps P (lone fr cs w) (lone (fr.finish v') cs w')
  |.dH c=>∃c',CR aQ c c'/\Steps P (lone fr cs w) (lone (fr.raise c') cs w')
def Oy(P:Program)(call:rO)(b:Frame)(ops:Array Oper)(k:List Item)(cs:List Frame)(bs:fv):Prop:=
 ∀(a:Act) (i:Nat) (rest:LN) (o:Oper) (φ:cj) (H:AH) (w:World) (m:Nat) (aK:iM) (r:lJ),m<=H.bx->hQ bs w->ops[i]? =some o->Region.wanted o (yielded ops a.tmps)=true->WR φ bs H w->
  o.semAt b.roundOf a.eval=execOp a.eval o->rR P m bs φ H w (execOp a.eval o) aK->kA P call H none aK=some r->anD P m bs φ H w (b.atR a (.inRegion ops (i::rest)::k)) cs r
theorem alV{P ops ms bt cur H}:∀{l},FK P ops ms bt cur H l=true->∀j∈l,∃o b,ops[j]? =some o/\mN ops o cur.bT=some b/\
 (b=true->∃v,fL P (Gz (wy ops ms bt cur j)) H o.op=some v/\∀d,o.dst=some d->cur.bT d=some v)
 |[],_,j,hj=>by cases hj
 |x::l,h,j,hj=>by
  simp only[FK,dk]at h;have⟨h1,h2⟩:=h;rcases dm.1 hj with rfl|hj
  .split at h1
   .cases h1
   next o ho=>
    split at h1
    .cases h1
    next hw=>exact⟨o,false,ho,hw,λh=>by cases h⟩
    next hw=>
     split at h1;next v d hv hd=>
      refine⟨o,true,ho,hw,λ_=>⟨v,hv,λd' qt=>?_⟩⟩;rw[hd]at qt;cases qt;cases hc:cur.bT d with
      |none=>rw[hc]at h1;cases h1
      |some y=>rw[hc]at h1;simp at h1;rw[azq h1]
     next v hv hd=>refine⟨o,true,ho,hw,λ_=>⟨v,hv,λd' qt=>?_⟩⟩;rw[hd]at qt;cases qt
     .cases h1
  .exact alV h2 j hj
theorem aqN(t):∀l i a,(Hd t l).bT i=some a->i∉l/\t.bT i=some a:=by
 intro l;induction l generalizing t with
 |nil=>intro i a h;exact⟨(λh=>by cases h),h⟩
 |cons d l ih=>
  intro i a h;have⟨h1,h2⟩:=ih _ i a h;rw[Tr.arf]at h2;split at h2
  .cases h2
  next cE=>
   refine⟨λhm=>?_,h2⟩;rcases dm.1 hm with rfl|hm
   .exact cE rfl
   .exact h1 hm
section
variable{P:Program}{call:rO}{ops:Array Oper}{ms:LN}{bt cur lv:Tr AV}{nt:Nat}{bs:fv}{m:Nat}{iy:Nat->Option Nat}{Dc Da:LN}{H H':AH}{φ aQ:cj}{w w':World}{a:Act}{b:Frame}{k:List Item}{cs:List Frame}
def wo(P:Program)(ops:Array Oper)(bt:Tr AV)(nt:Nat)(bs:fv)(m:Nat)(φ:cj)(H:AH)(w:World)(b:Frame)(k:List Item)(cs:List Frame)(cl:LN)(a:Act):Oz->Prop
 |.aH t H'=>∃aQ w' a',Steps P (lone (b.atR a (.inRegion ops cl::k)) cs w) (lone (b.atR a' (.inRegion ops []::k)) cs w')/\a'.defers=a.defers/\TR aQ t nt a'.tmps/\WR aQ bs H' w'/\cH m φ H aQ H'/\cY bs w w'
 |.dH c H'=>∃aQ w' a' O_ c',Steps P (lone (b.atR a (.inRegion ops cl::k)) cs w) (lone ((b.atR a' (.inRegion ops O_::k)).raise c') cs w')/\a'.defers=a.defers/\TR aQ (Hd bt (GQ ops)) nt a'.tmps/\WR aQ bs H' w'/\cH m φ H aQ H'/\cY bs w w'/\CR aQ c c'
 |.eI _=>True
theorem wo.step{cl O_ a a' w w' r}(hs:Steps P (lone (b.atR a (.inRegion ops cl::k)) cs w) (lone (b.atR a' (.inRegion ops O_::k)) cs w'))(hd:a'.defers=a.defers)(he:cH m φ H aQ H')(hk:cY bs w w')(h:wo P ops bt nt bs m aQ H' w' b k cs O_ a' r):wo P ops bt nt bs m φ H w b k cs cl a r:=by
 cases r with
 |aH t H1=>have⟨jN,w1,a1,g1,g2,g3,g4,g5,g6⟩:=h;exact⟨jN,w1,a1,hs.trans g1,g2.trans hd,g3,g4,he.tC g5,hk.so g6⟩
 |dH c H1=>have⟨jN,w1,a1,cl1,c1,g1,g2,g3,g4,g5,g6,g7⟩:=h;exact⟨jN,w1,a1,cl1,c1,hs.trans g1,g2.trans hd,g3,g4,he.tC g5,hk.so g6,g7⟩
 |eI s=>trivial
theorem qf.aCv(iI:wm ops ms)(nC:Oy P call b ops k cs bs)(h:qf P ops ms bt nt bs m iy Dc Da cur H φ w a.tmps){c o}(ho:ops[c]? =some o)(hi:c∉Da)(sU:∀j,kq ms c j->j∈Dc)(ke:qd ms Da)(sZ:∀j∈Dc,j∈Da)(hl:rb o.op=false)(qx:mN ops o cur.bT=some true)(rest):
 match pc P call ops ms bt Da c nt cur H o with
 |.go lv H'=>∃aQ w' a',Steps P (lone (b.atR a (.inRegion ops (c::rest)::k)) cs w) (lone (b.atR a' (.inRegion ops rest::k)) cs w')/\a'.defers=a.defers/\
   qf P ops ms bt nt bs m iy (c::Dc) (c::Da) lv H' aQ w' a'.tmps/\cH m φ H aQ H'/\cY bs w w'
 |.dH ch H'=>wo P ops bt nt bs m φ H w b k cs (c::rest) a (.dH ch H')
 |.eI _=>True:=by
 have HL:iZ ops c=o.dst:=by unfold iZ;rw[ho];rfl
 have oZ:=h.guard iI ho sU qx;have uh:nP φ (iw cur) a.eval o.op.operands.toList:=by
  intro x hx y hy;have hae:∀x,iw cur x=Gz cur.bT x:=λx=>by cases x<;>rfl
  rw[hae]at hy;refine aeb (λt ht z hz=>h.tr t z (.inr ⟨λj hj pR=>?_,hz⟩)) x hx y hy;have YI:t∈No o:=MY.2 ⟨.tmp t,ht,rfl⟩;rcases iI.aan c j o t ho YI pR with rfl|hh|hh
  .exact hi hj.1
  .exact hj.2 (sU j hh)
  .exact hi (ke j hj.1 c hh)
 simp only[rb,Bool.or_eq_false_iff]at hl;unfold pc;rw[qx];simp only[cond_true,hl.1,hl.2,cond_false];unfold RW;cases ey:nu P (iw cur) H o.op with
 |none=>trivial
 |some aK=>
  simp only;cases jH:kA P call H none aK with
  |none=>trivial
  |some r=>
   have nY:∀c,o.op≠.defer c:=by
    intro cc jG;rw[jG]at ey;simp only[nu,Hz]at ey;split at ey
    .split at ey;next fn first lu l _ _=>
      cases hy:vq fn with
      |true=>rw[hy]at ey;cases ey
      |false=>rw[hy]at ey;cases ey;simp[kA]at jH
     .cases ey
    .cases ey
   have EJ:=aha h.wr h.hb (cM _) uh ey;have⟨aQ,w',g1,g2,g3,g4⟩:=nC a c rest o φ H w H.bx aK r (cM _) h.hb ho oZ h.wr (yZ _ _ nY) EJ jH;have⟨e,up,H1⟩:=r;cases e with
   |dH ch=>
    have⟨c',hc,qZ⟩:=g4;refine⟨aQ,w',a,c::rest,c',qZ,rfl,⟨h.Dn,λi x hx=>?_⟩,g1,g2.mono h.hm,g3,hc⟩;have⟨yC,BW⟩:=aqN bt (GQ ops) i x hx;have nY:∀j,iZ ops j≠some i:=by intro j hj;have⟨o',nA,qt⟩:=KA hj;exact yC (MY.2 ⟨o',Array.mem_toList_iff.2 (Array.mem_of_getElem? nA),qt⟩)
    have⟨v,q1,q2⟩:=h.tr i x (.inr ⟨λj _=>nY j,by rw[h.un i λj _=>nY j];exact BW⟩);exact⟨v,q1,q2.ef g2.1⟩
   |gk v=>
    simp only[RX];cases kQ:oK nt cur o.dst v with
    |none=>trivial
    |some lv=>
     simp only;cases fJ:FK P ops ms bt lv H1 (OI ops ms Da c)with
     |false=>trivial
     |true=>
      simp;have⟨v',hv,qZ⟩:=g4;rw[Hi ho]at qZ;have⟨s1,s2⟩:=SA ho kQ;refine⟨aQ,w',a.put o.dst v',qZ,Cv,?_,g2.mono h.hm,g3⟩;refine⟨g1,h.hb.Dm g3.1,kF h.hm g2.2.1,by rw[akd];exact h.Dn,?_,?_,λj id hj=>MX (h.aM j id hj) g2.2.1,h.inj,?_⟩
      .intro t x hx;by_cases yA:o.dst=some t
       .have hd:=s1 t yA;rcases hx with⟨j,hj,pR,_⟩|⟨_,hx⟩
        .have:=iI.we j c t pR hd.2.2;subst this;exact(hj.2 (dJ ..)).elim
        .rw[hd.2.1]at hx;cases hx;rw[yA];exact⟨v',ake (by rw[h.Dn];exact hd.1),hv⟩
       .rw[akc yA];have as7:Vm ops bt cur Dc Da t x:=by
         rcases hx with⟨j,hj,pR,hb⟩|⟨lU,hx⟩
         .rcases dm.1 hj.1 with rfl|ve
          .exact(hj.2 (dJ ..)).elim
          .exact .inl ⟨j,⟨ve,λhd=>hj.2 (dZ _ hd)⟩,pR,hb⟩
         .refine .inr ⟨λj hj pR=>?_,by rw[<-s2 t (by rw[HL];exact yA)];exact hx⟩;refine lU j ⟨dZ _ hj.1,λhd=>?_⟩ pR;rcases dm.1 hd with rfl|hd
          .exact hi hj.1
          .exact hj.2 hd
        have⟨u,q1,q2⟩:=h.tr t x as7;exact⟨u,q1,q2.ef g2.1⟩
      .intro t ht;rw[s2 t (ht c (dJ ..))];exact h.un t λj hj=>ht j (dZ _ hj)
      .intro j hj;have EB:j≠c:=λe=>hj.2 (e▸dJ ..)
       have QE:j∈Da:=by
        rcases dm.1 hj.1 with e|hd
        .exact(EB e).elim
        .exact hd
       have ahk:=λhd=>hj.2 (dZ _ hd)
       have⟨o',b',Ta,p1,p2,p3,p4⟩:=h.R0 j ⟨QE,ahk⟩;have vl:=abK iI p1 (λd h=>h) hi (ke j QE) s2;have XT:∀d,o'.dst=some d->lv.bT d=cur.bT d:=by
        intro d hd;refine s2 d λqt=>?_
        have:iZ ops j=some d:=by unfold iZ;rw[p1];exact hd
        exact EB (iI.we j c d this qt)
       have p5:=p4.L1 (λd h=>h) hi (ke j QE) s2;rcases p5 with⟨rfl,rfl⟩|⟨rfl,q,ρ,e,r⟩|⟨rfl,ρ,ob,g,id,e,q1,q2,q3,q4,q5,q6⟩
       .exact⟨o',false,_,p1,by rw[vl];exact p2,λd hd=>⟨(p3 d hd).1,by rw[XT d hd];exact(p3 d hd).2⟩,.inl ⟨rfl,rfl⟩⟩
       .by_cases LM:Q1 o'.op=true
        .exact⟨o',true,Ta,p1,by rw[vl];exact p2,λd hd=>⟨(p3 d hd).1,by rw[XT d hd];exact(p3 d hd).2⟩,.inr (.inl ⟨rfl,q,ρ,e,by rw[aB7 LM H1 H];exact r⟩)⟩
        have XK:j∈OI ops ms Da c:=by refine vU.2 ⟨QE,?_⟩;rw[p1];simp only[yU,q,rA,yT,dk,qE.2 LM,true_and];exact qE.2 λhh=>ahk (sU j (II.1 hh))
        have⟨o2,b2,t1,t2,t3⟩:=alV fJ j XK;rw[p1]at t1;cases t1;rw[vl,p2]at t2;cases t2;have⟨v2,t4,t5⟩:=t3 rfl;exact⟨o',true,v2,p1,by rw[vl];exact p2,λd hd=>⟨(p3 d hd).1,t5 d hd⟩,.inr (.inl ⟨rfl,q,_,λ_ _=>rfl,t4⟩)⟩
       .have⟨u1,u2⟩:=g2.2.2.1 id (h.aM j id q3) q5;have u2:H1.bf id=H.bf id:=by
         rcases u2 with u2|⟨vs,el,u2⟩
         .exact u2
         .rw[q6]at u2;cases u2;exact absurd rfl (aum q1 vs el)
        exact⟨o',true,Ta,p1,by rw[vl];exact p2,λd hd=>⟨(p3 d hd).1,by rw[XT d hd];exact(p3 d hd).2⟩,.inr (.inr ⟨rfl,ρ,ob,g,id,e,q1,q2,q3,q4,u1,by rw[u2];exact q6⟩)⟩
theorem adJ(iI:wm ops ms):∀(bn) {post c Da iy cur H},qf P ops ms bt nt bs m iy Dc Da cur H φ w a.tmps->qd ms Da->(∀j∈Dc,j∈Da)->
 sv ms Da (bn++c::post)->(∀i∈bn,(ops[i]?).any (rb ·.op)=true)->
 (∃s,te P call ops ms bt nt (bn++c::post) Da cur H=.eI s)\/
 ∃vn Ga lv H',qf P ops ms bt nt bs m vn Dc Ga lv H' φ w a.tmps/\te P call ops ms bt nt (bn++c::post) Da cur H=te P call ops ms bt nt (c::post) Ga lv H'/\cH m φ H φ H'/\
  qd ms Ga/\(∀j∈Dc,j∈Ga)/\sv ms Ga (c::post)/\(∀j,j∈Ga↔j∈Da\/j∈bn)
 |[],post,c,Da,iy,cur,H,h,ke,sZ,ht,hl=>.inr ⟨iy,Da,cur,H,h,rfl,cH.jO _ _ _,ke,sZ,ht,by simp⟩
 |i::bn,post,c,Da,iy,cur,H,h,ke,sZ,ht,hl=>by
  have⟨t1,t2,t3⟩:=ht;have vg:=hl i (dJ ..);cases ho:ops[i]? with
  |none=>rw[ho]at vg;cases vg
  |some o=>
   rw[ho]at vg;simp at vg;simp only[oH,te,ho];cases hs:pc P call ops ms bt Da i nt cur H o with
   |eI s=>exact .inl ⟨s,rfl⟩
   |dH ch H1=>
    exfalso;unfold pc at hs;split at hs
    .cases hs
    next b hb=>
     cases b with
     |false=>simp only[cond_false,r8]at hs;split at hs<;>cases hs
     |true=>
      simp at hs;cases hr:o0 o.op with
      |true=>
       rw[hr]at hs;simp only[cond_true,MJ]at hs;split at hs
       .simp only[r8]at hs;split at hs<;>cases hs
       .cases hs
      |false=>
       rw[hr]at hs;simp at hs;have:r6 o.op=true:=by simpa[rb,hr]using vg
       rw[this]at hs;simp at hs;cases vh:qy P (iw cur) o.op with
       |none=>rw[vh]at hs;simp[Cp]at hs
       |some r=>have⟨ob,g⟩:=r;obtain⟨hh,n⟩:=H;rw[vh]at hs;simp only[Cp,r8]at hs;split at hs<;>cases hs
   |go lv H'=>
    have⟨vn,g1,g2⟩:=h.adv iI ho t2 t1 ke sZ (.inl vg) hs;rcases adJ iI bn g1 (ke.F6 t1) (λj hj=>dZ _ (sZ j hj)) t3 (λj hj=>hl j (dZ _ hj))with⟨s,hs⟩|⟨ahM,Dt,A6,H2,q1,q2,q3,q4,q5,q6,q7⟩
    .exact .inl ⟨s,hs⟩
    .refine .inr ⟨ahM,Dt,A6,H2,q1,q2,g2.tC q3,q4,q5,q6,λj=>?_⟩;rw[q7];simp;constructor
     .rintro((h|h)|h)
      .exact .inr (.inl h)
      .exact .inl h
      .exact .inr (.inr h)
     .rintro(h|h|h)
      .exact .inl (.inr h)
      .exact .inl (.inl h)
      .exact .inr h
theorem aas(iI:wm ops ms)(nC:Oy P call b ops k cs bs):∀(cl) {rest Da Dc last iy cur H φ w a},
 sv ms Dc cl->qd ms Dc->sv ms Da rest->qd ms Da->(∀j∈Dc,j∈Da)->(∀j∈cl,j∈Da\/j∈rest)->(∀j∈rest,j∈cl)->(∀j∈Da,j∈Dc\/j∈cl)->wZ ops ms last rest=true->
 qf P ops ms bt nt bs m iy Dc Da cur H φ w a.tmps->wo P ops bt nt bs m φ H w b k cs cl a (te P call ops ms bt nt rest Da cur H)
 |[],rest,Da,Dc,last,iy,cur,H,φ,w,a,ht,hc,EK,t_,sZ,h1,h2,h3,a_,h=>by
  have:=List.eq_nil_iff_forall_not_mem.2 λj hj=>by cases h2 j hj
  subst this;refine⟨φ,w,a,Steps.refl P _,rfl,⟨h.Dn,λi x hx=>h.tr i x (.inr ⟨λj hj=>?_,hx⟩)⟩,h.wr,cH.jO _ _ _,cY.ka _ _⟩;rcases h3 j hj.1 with hd|hd
  .exact(hj.2 hd).elim
  .cases hd
 |c::cl,rest,Da,Dc,last,iy,cur,H,φ,w,a,ht,hc,EK,t_,sZ,h1,h2,h3,a_,h=>by
  have⟨t1,t2,t3⟩:=ht;have aer:∀{rest Da:LN} {last:Option Nat} {iy:Nat->Option Nat} {cur:Tr AV} {H:AH},c∈Da->sv ms Da rest->qd ms Da->(∀j∈Dc,j∈Da)->(∀j∈c::cl,j∈Da\/j∈rest)->(∀j∈rest,j∈c::cl)->(∀j∈Da,j∈Dc\/j∈c::cl)->wZ ops ms last rest=true->
   qf P ops ms bt nt bs m iy Dc Da cur H φ w a.tmps->wo P ops bt nt bs m φ H w b k cs (c::cl) a (te P call ops ms bt nt rest Da cur H):=by
   intro rest Da last iy cur H HJ EK t_ sZ h1 h2 h3 a_ h;have⟨aQ,w',a',s1,s2,s3,s4,s5⟩:=h.exec iI ⟨HJ,t2⟩ t1 hc;refine wo.step (.one (s1 b k cs cl)) s2 s4 s5 ?_;refine aas iI nC cl t3 (hc.F6 t1) EK t_ (λj hj=>?_) (λj hj=>h1 j (dZ _ hj)) (λj hj=>?_) (λj hj=>?_) a_ s3
   .rcases dm.1 hj with rfl|hj
    .exact HJ
    .exact sZ j hj
   .rcases dm.1 (h2 j hj)with rfl|BM
    .exact(EK.RD hj HJ).elim
    .exact BM
   .rcases h3 j hj with hd|hd
    .exact .inl (dZ _ hd)
    .rcases dm.1 hd with rfl|hd
     .exact .inl (dJ ..)
     .exact .inr hd
  by_cases HJ:c∈Da
  .exact aer HJ EK t_ sZ h1 h2 h3 a_ h
  .have BH:=(h1 c (dJ ..)).resolve_left HJ;obtain⟨bn,post,rfl⟩:=List.append_of_mem BH;have asK:∀i∈bn,(ops[i]?).any (rb ·.op)=true:=by
    rcases aab bn post c last a_ with⟨e,he,hn⟩|⟨_,hh⟩
    .have:=sZ e (t1 e hn);exact(EK.RD (I5 _ he) this).elim
    .exact hh
   rcases adJ iI bn h t_ sZ EK asK with⟨s,hs⟩|⟨ahM,Dt,A6,H2,q1,q2,q3,q4,q5,q6,q7⟩
   .rw[hs];trivial
   .rw[q2];refine wo.step (Steps.refl P _) rfl q3 (cY.ka _ _) ?_;have⟨u1,u2,u3⟩:=q6;have⟨atN,Yq⟩:=aac bn (c::post) last a_;have QJ:=aac [c] post atN Yq;have m1:∀j∈c::cl,j∈c::Dt\/j∈post:=by
     intro j hj;rcases h1 j hj with hh|hh
     .exact .inl (dZ _ ((q7 j).2 (.inl hh)))
     .rcases ia.1 hh with hh|hh
      .exact .inl (dZ _ ((q7 j).2 (.inr hh)))
      .rcases dm.1 hh with rfl|hh
       .exact .inl (dJ ..)
       .exact .inr hh
    have m2:=λj hj=>h2 j (List.mem_append_right _ (dZ _ hj))
    have m3:∀j∈c::Dt,j∈Dc\/j∈c::cl:=by
     intro j hj;rcases dm.1 hj with rfl|hj
     .exact .inr (dJ ..)
     .rcases(q7 j).1 hj with hh|hh
      .exact h3 j hh
      .exact .inr (h2 j (I5 _ hh))
    simp only[te];cases ho:ops[c]? with
    |none=>trivial
    |some o=>
     simp only;have⟨aEV,QJ⟩:=QJ;by_cases yw:rb o.op=true\/mN ops o A6.bT=some false
     .cases hs:pc P call ops ms bt Dt c nt A6 H2 o with
      |eI s=>trivial
      |dH ch H3=>
       exfalso;unfold pc at hs;split at hs
       .cases hs
       next bb hb=>
        cases bb with
        |false=>simp only[cond_false,r8]at hs;split at hs<;>cases hs
        |true=>
         have yw:=yw.resolve_right (by rw[hb];simp);simp at hs;cases hr:o0 o.op with
         |true=>
          rw[hr]at hs;simp only[cond_true,MJ]at hs;split at hs
          .simp only[r8]at hs;split at hs<;>cases hs
          .cases hs
         |false=>
          rw[hr]at hs;simp at hs;have:r6 o.op=true:=by simpa[rb,hr]using yw
          rw[this]at hs;simp at hs;cases vh:qy P (iw A6) o.op with
          |none=>rw[vh]at hs;simp[Cp]at hs
          |some r=>have⟨ob,g⟩:=r;obtain⟨hh,n⟩:=H2;rw[vh]at hs;simp only[Cp,r8]at hs;split at hs<;>cases hs
      |go apq H3=>have⟨aET,g1,g2⟩:=q1.adv iI ho u2 u1 q4 q5 yw hs;refine wo.step (Steps.refl P _) rfl g2 (cY.ka _ _) ?_;exact aer (dJ ..) u3 (q4.F6 u1) (λj hj=>dZ _ (q5 j hj)) m1 m2 m3 QJ g1
     .cases hw:mN ops o A6.bT with
      |none=>
       have:pc P call ops ms bt Dt c nt A6 H2 o=.eI "guard" :=by unfold pc;rw[hw]
       rw[this];trivial
      |some bb=>
       have hbt:bb=true:=by
        cases bb with
        |true=>rfl
        |false=>exact(yw (.inr hw)).elim
       subst hbt;have H8:=qE.2 λhh=>yw (.inl hh)
       have BK:=q1.aCv iI nC ho u2 t1 q4 q5 H8 hw cl;cases hs:pc P call ops ms bt Dt c nt A6 H2 o with
       |eI s=>trivial
       |dH ch H3=>rw[hs]at BK;exact BK
       |go apq H3=>
        rw[hs]at BK;have⟨aQ,w',a',s1,s2,s3,s4,s5⟩:=BK;refine wo.step s1 s2 s4 s5 ?_;refine aas iI nC cl t3 (hc.F6 t1) u3 (q4.F6 u1) (λj hj=>?_) (λj hj=>m1 j (dZ _ hj)) (λj hj=>?_) (λj hj=>?_) QJ s3
        .rcases dm.1 hj with rfl|hj
         .exact dJ ..
         .exact dZ _ (q5 j hj)
        .rcases dm.1 (m2 j hj)with rfl|BM
         .exact(u3.RD hj (dJ ..)).elim
         .exact BM
        .rcases m3 j hj with hd|hd
         .exact .inl (dZ _ hd)
         .rcases dm.1 hd with rfl|hd
          .exact .inl (dJ ..)
          .exact .inr hd
theorem avi{pl}(kP:IX ops=some pl)(cP:P.follows .mixedOrders=true)(nC:Oy P call b ops k cs bs)(t)(hw:WR φ bs H w)(hb:hQ bs w)(hm:m<=H.bx)(ht:TR φ bt nt a.tmps):
 wo P ops bt nt bs m φ H w b k cs (Region.schedule (P.follows .mixedOrders) ops t) a (te P call ops pl.ms bt nt pl.Dp [] bt H):=by
 have⟨h1,h2,h3,h4,iI⟩:=avv kP;have⟨g1,g2,g3⟩:=azt cP h1 t;refine aas iI nC _ (iy:=λ_=>none) g1 (qd.nil _) h2 (qd.nil _) (λ_ h=>h) (λj hj=>.inr ((h3 j).1 (g3 j hj))) (λj hj=>g2 j ((h3 j).2 hj)) (λj hj=>by cases hj) h4 ?_;refine⟨hw,hb,hm,ht.1,λt x hx=>?_,λ_ _=>rfl,(λ_ _ h=>by cases h),(λ_ _ _ h=>by cases h),(λj hj=>by cases hj.1)⟩;rcases hx with⟨j,hj,_⟩|⟨_,hx⟩
 .cases hj.1
 .exact ht.2 t x hx
end
def MR(φ:cj):pE->FrameMode->Prop
 |.gj,m=>m=.run
 |.iX,m=>m=.returning
 |.ll c,m=>∃c',m=.panicking c'/\CR φ c c'
def IR(φ:cj):dP->Item->Prop
 |.gy c,x=>x=.code c
 |.uG id,x=>x=.inBlock id
 |.qK b,x=>x=.inLoop b
 |.tB b,x=>x=.inScope b
 |.Dk l,x=>∃e,φ l=some e/\x=.inRangeFunc e.b
 |.AQ l,x=>∃e,φ l=some e/\x=.endRangeFunc e.b
 |.zi,x=>x=.beginRound
 |.gY ops i rest,x=>x=.inRegion ops (List.range' i rest.length)/\rest=ops.toList.drop i
def jQ(φ:cj):List dP->List Item->Prop
 |[],l=>l=[]
 |x::xs,l=>∃y ys,l=y::ys/\IR φ x y/\jQ φ xs ys
def RR(φ:cj):Option Nat->Option Nat->Prop
 |none,r=>r=none
 |some l,r=>∃e,φ l=some e/\r=some e.b
def KR:Option pE->CallKind->Prop
 |none,k=>k=.normal
 |some _,k=>k=.deferred
structure FR(φ:cj)(fr:fN)(b:Frame)(a:Act):Prop where
 fn:b.fn=fr.fn
 tr:TR φ fr.zh fr.nt a.tmps
 dr:pF φ fr.NA a.defers
 jP:RR φ fr.p8 b.roundOf
 km:KR fr.up b.kind
 pH:fr.up.isSome=true->fr.p8=none
def tD(φ:cj)(fr:fN)(cp:Frame):Prop:=
 match fr.mc with
 |.gj=>∃(b:Frame) (a:Act) (todo:List Item),cp=b.atR a todo/\FR φ fr b a/\jQ φ fr.F5 todo
 |m=>FR φ fr cp ⟨cp.tmps,cp.defers⟩/\MR φ m cp.mode
def ku(φ:cj)(up:Option pE)(cs:List Frame):Prop:=
 match up with
 |none=>True
 |some u=>∃c cs',cs=c::cs'/\MR φ u c.mode
def ER(φ:cj):NT->Ending->Prop
 |.gk v,e=>∃v',e=.returned v'/\VR φ v v'
 |.dH c,e=>∃c',e=.panicked c'/\CR φ c c'
def pG(P:Program)(aQ:cj)(w:World)(w':World)(cp:Frame)(cs:List Frame)(r:lJ):Option pE->Option Nat->Prop
 |none,none=>∃jU e',ER aQ r.e e'/\Steps P (lone cp cs w) (lone jU cs w')/\jU.leaving P w' e'/\jU.fn=cp.fn
 |some _,_=>∃c cs' uA u' jU e',cs=c::cs'/\r.up=some uA/\MR aQ uA u'/\ER aQ r.e e'/\Steps P (lone cp cs w) (lone jU ({c with mode:=u'}::cs') w')/\jU.kind=.deferred/\jU.going P w' e'
 |none,some _=>∀c cs',cs=c::cs'->match r.e with
  |.gk v=>∃v',VR aQ v v'/\Steps P (lone cp cs w) (lone (c.finish v') cs' w')
  |.dH ch=>∃tJ,CR aQ ch tJ/\Steps P (lone cp cs w) (lone (c.raise tJ) cs' w')
def uL(P:Program)(m:Nat)(bs:fv)(φ:cj)(H:AH)(w:World)(cp:Frame)(cs:List Frame)(r:lJ)(up:Option pE)(round:Option Nat):Prop:=
 ∃aQ w',WR aQ bs r.H w'/\cH m φ H aQ r.H/\cY bs w w'/\pG P aQ w w' cp cs r up round
def gF(P:Program)(call:fN->AH->Option lJ):Prop:=
 ∀(fr:fN) (H:AH) (r:lJ),call fr H=some r->∀(φ:cj) (w:World) (m:Nat) (bs:fv) (cp:Frame) (cs:List Frame),WR φ bs H w->hQ bs w->m<=H.bx->tD φ fr cp->ku φ fr.up cs->uL P m bs φ H w cp cs r fr.up fr.p8
def Ou(P:Program)(K:J6):Prop:=
 ∀(f:FuncId) (args:LV) (H:AH) (v:AV) (H':AH),K f args H=some (v,H')->∀(φ:cj) (w:World) (m:Nat) (bs:fv) (args':Array Value) (cs:List Frame),bp φ args args'.toList->WR φ bs H w->hQ bs w->m<=H.bx->
  uL P m bs φ H w (Frame.enter P f args' .normal) cs ⟨ju v,none,H'⟩ none none
structure mf(P:Program)(call:rO):Prop where
 go:gF P call.go
 eV:Ou P call.eV
section
variable{P:Program}{call:rO}{bs:fv}{m:Nat}{H:AH}{φ:cj}{w:World}
theorem afH{go}(hc:gF P go){f args args' up r}(h:(KK P f args up).bind (go · H)=some r)(ha:bp φ args args'.toList)(hw:WR φ bs H w)(hb:hQ bs w)(hm:m<=H.bx){cs}(hu:ku φ up cs){kind}(hk:KR up kind):uL P m bs φ H w (Frame.enter P f args' kind) cs r up none:=by
 cases he:KK P f args up with
 |none=>rw[he]at h;cases h
 |some fr=>
  rw[he]at h;simp at h;unfold KK at he;split at he;next fn jw=>
   split at he;next c ar7=>
    have⟨cu,he⟩:=dn he;have cu:=ph cu;cases he;have bS:args'.size<=fn.ntmps:=by have:=ha.jf;simp at this;omega
    refine hc _ H r h φ w m bs _ cs hw hb hm ?_ hu;let b:Frame:={(default:Frame)with fn:=f,kind:=kind,roundOf:=none}
    refine⟨b,{tmps:=args'++Array.replicate (fn.ntmps-args'.size) undef,defers:=[]},[.code c],?_,⟨rfl,⟨?_,?_⟩,rfl,rfl,hk,λ_=>rfl⟩,⟨_,_,rfl,rfl,rfl⟩⟩
    .simp[Frame.enter,Frame.atR,jw,ar7,b]
    .simp;omega
    .intro i x hx;rw[Tr.agw]at hx;split at hx;next hi=>
      simp at hx;have⟨v,h1,h2⟩:=ha.get hx;refine⟨v,?_,h2⟩;rw[Array.getElem?_append_left]
      .simpa using h1
      .have:=(MW.1 h1).1;simpa using this
     .cases hx
   .cases he
  .cases he
theorem WT(hc:mf P call){f args args' up r}(h:KL P call f args up H=some r)(ha:bp φ args args'.toList)(hw:WR φ bs H w)(hb:hQ bs w)(hm:m<=H.bx){cs}(hu:ku φ up cs){kind}(hk:KR up kind):uL P m bs φ H w (Frame.enter P f args' kind) cs r up none:=by
 unfold KL at h;split at h;next v H' hkn=>cases h;have hk':=hk;subst hk';exact hc.eV f args H v H' hkn φ w m bs args' cs ha hw hb hm
 .exact afH hc.go h ha hw hb hm hu hk
theorem agl(nt):∀l:List (Tmp×AV),l.foldl (λt (p,a)=>t.bind λt=>oK nt t (some p) a) none=none
 |[]=>rfl
 |_::l=>by simp;exact agl nt l
theorem agk{nt}:∀(ps:List Tmp) (as vs) {t t' tmps},bp φ as vs->TR φ t nt tmps->
 (ps.zip as).foldl (λt (p,a)=>t.bind λt=>oK nt t (some p) a) (some t)=some t'->TR φ t' nt ((ps.zip vs).foldl (λtmps (t,a)=>tmps.setIfInBounds t a) tmps)
 |[],as,vs,t,t',tmps,_,ht,h=>by simp at h;subst h;simpa using ht
 |p::ps,[],vs,t,t',tmps,ha,ht,h=>by subst ha;simp at h;subst h;simpa using ht
 |p::ps,a::as,vs,t,t',tmps,ha,ht,h=>by
  obtain⟨v,ep,rfl,hv,jA⟩:=ha;simp at h⊢;cases hs:oK nt t (some p) a with
  |none=>rw[hs,agl]at h;cases h
  |some t1=>rw[hs]at h;have:=TR.put (a:=⟨tmps,[]⟩) ht hs hv;exact agk ps as ep jA this h
theorem awd(hc:mf P call){l ob e args args' r}(eH:H.bf l=some ob)(h:(AA ob l args).bind (call.go · H)=some r)(he:φ l=some e)(ha:bp φ args args'.toList)(hw:WR φ bs H w)(hb:hQ bs w)(hm:m<=H.bx)(cs):
 ∃f tmps assign body,(Instr.yield e.b args').run P w=.ok (.round e.b f tmps assign body) w/\uL P m bs φ H w (Frame.round e.b f tmps assign body .normal) cs r none (some l):=by
 unfold AA at h;split at h;next st p fn tmps nt params assign body d=>
  cases bS:Nat.beq args.length params.length with
  |false=>rw[bS]at h;cases h
  |true=>
   rw[bS]at h;simp at h;have bS:=dG bS;obtain⟨o,hg,oM,ed,rfl,hd,ht⟩:=hw.ew l _ e eH he;split at h;next t' Qz=>
    simp at h;have cv:args'.size=params.length:=by have:=ha.jf;simp at this;omega
    refine⟨fn,(params.toArray.zip args').foldl (λtmps (t,a)=>tmps.setIfInBounds t a) oM,assign,body,?_,?_⟩
    .exact run_yield hg (by simpa using cv)
    .refine hc.go _ H r h φ w m bs _ cs hw hb hm ?_ trivial;let b:Frame:={(default:Frame)with fn:=fn,kind:=.normal,roundOf:=some e.b}
     refine⟨b,{tmps:=(params.toArray.zip args').foldl (λtmps (t,a)=>tmps.setIfInBounds t a) oM,defers:=[]},[.code assign,.beginRound,.code body],?_,⟨rfl,?_,rfl,⟨e,he,rfl⟩,rfl,λh=>by cases h⟩,⟨_,_,rfl,rfl,_,_,rfl,rfl,_,_,rfl,rfl,rfl⟩⟩
     .simp[Frame.round,Frame.atR,b]
     .have:=agk params args args'.toList ha ht Qz;have e1:(params.toArray.zip args').foldl (λtmps (t,a)=>tmps.setIfInBounds t a) oM=(params.zip args'.toList).foldl (λtmps (t,a)=>tmps.setIfInBounds t a) oM:=by rw[<-Array.foldl_toList,Array.toList_zip]
      rw[show(({tmps:=(params.toArray.zip args').foldl (λtmps (t,a)=>tmps.setIfInBounds t a) oM,defers:=[]}:Act)).tmps=_ from e1];exact this
   .cases h
 .cases h
theorem aa2{fr Wo c cs Nx r round}(h:uL P m bs φ H w fr (c::cs) r none round)(hs:Steps P (lone Wo cs Nx) (lone fr (c::cs) w))(hk:cY bs Nx w):
 ∃aQ w',WR aQ bs r.H w'/\cH m φ H aQ r.H/\cY bs Nx w'/\match r.e with
 |.gk v=>∃v',VR aQ v v'/\Steps P (lone Wo cs Nx) (lone (c.finish v') cs w')
 |.dH ch=>∃c',CR aQ ch c'/\Steps P (lone Wo cs Nx) (lone (c.raise c') cs w'):=by
 have⟨aQ,w',h1,h2,h3,h4⟩:=h;refine⟨aQ,w',h1,h2,hk.so h3,?_⟩;cases round with
 |none=>
  have⟨jU,e',he,fJ,hl,_⟩:=h4;have⟨e,up,H1⟩:=r;cases e with
  |gk v=>obtain⟨v',rfl,hv⟩:=he;exact⟨v',hv,hs.trans (fJ.trans (.one (step_leave_returned hl)))⟩
  |dH ch=>obtain⟨c',rfl,hv⟩:=he;exact⟨c',hv,hs.trans (fJ.trans (.one (step_leave_panicked hl)))⟩
 |some l=>
  have:=h4 c cs rfl;have⟨e,up,H1⟩:=r;cases e with
  |gk v=>have⟨v',hv,fJ⟩:=this;exact⟨v',hv,hs.trans fJ⟩
  |dH ch=>have⟨v',hv,fJ⟩:=this;exact⟨v',hv,hs.trans fJ⟩
theorem ajS(hc:mf P call)(b ops k cs):Oy P call b ops k cs bs:=by
 intro a i rest o φ H w m aK r hm hb ho qx hw YE ey jH;cases aK with
 |gE v H'=>cases jH;have⟨aQ,w',v',h1,h2,h3,h4,h5⟩:=ey;refine⟨aQ,w',h3,h4,h5,v',h2,?_⟩;rw[Hi ho];exact .one (Jf ho qx (by rw[YE];exact h1))
 |qc f args=>have⟨args',h1,h2⟩:=ey;have:=WT (cs:=b.atR a (.inRegion ops (i::rest)::k)::cs) hc jH h2 hw hb hm trivial rfl;exact aa2 this (.one (aB3 ho qx (by rw[YE];exact h1))) (cY.ka _ _)
 |uJ l args=>
  have⟨e,args',h0,h1,h2⟩:=ey;simp only[kA]at jH;split at jH;next ob eH=>have⟨f,tmps,assign,body,g1,g2⟩:=awd hc eH jH h0 h2 hw hb hm (b.atR a (.inRegion ops (i::rest)::k)::cs);exact aa2 g2 (.one (aB5 ho qx (by rw[YE,h1];exact g1))) (cY.ka _ _)
  .cases jH
 |wg d=>cases jH
 |uI v=>cases jH
 |wh=>cases jH
end
theorem CR.mono{φ ψ}(h:dv φ ψ):∀{c l},CR φ c l->CR ψ c l
 |[],_,hc=>hc
 |(v,r)::c,l,hc=>by obtain⟨v',l',rfl,h1,h2⟩:=hc;exact⟨v',l',rfl,VR.ef h _ _ h1,CR.mono h h2⟩
theorem MR.mono{φ ψ}(h:dv φ ψ){m fm}(hm:MR φ m fm):MR ψ m fm:=by
 cases m with
 |gj=>exact hm
 |iX=>exact hm
 |ll c=>have⟨c',h1,h2⟩:=hm;exact⟨c',h1,h2.mono h⟩
theorem IR.mono{φ ψ}(h:dv φ ψ){x y}(hx:IR φ x y):IR ψ x y:=by
 cases x<;>first
  |exact hx
  |(have⟨e,h1,h2⟩:=hx;exact⟨e,h _ _ h1,h2⟩)
theorem jQ.Jy{φ ψ}(h:dv φ ψ):∀{xs ys},jQ φ xs ys->jQ ψ xs ys
 |[],_,hx=>hx
 |x::xs,ys,hx=>by obtain⟨y,rK,rfl,h1,h2⟩:=hx;exact⟨y,rK,rfl,h1.mono h,jQ.Jy h h2⟩
theorem RR.mono{φ ψ}(h:dv φ ψ){r r'}(hr:RR φ r r'):RR ψ r r':=by
 cases r with
 |none=>exact hr
 |some l=>have⟨e,h1,h2⟩:=hr;exact⟨e,h _ _ h1,h2⟩
theorem FR.zk{φ ψ}(h:dv φ ψ){fr b a}(hf:FR φ fr b a):FR ψ fr b a:=
 ⟨hf.fn,hf.tr.mono h,hf.dr.F8 h,hf.jP.mono h,hf.km,hf.pH⟩
theorem ku.mono{φ ψ}(h:dv φ ψ){up cs}(hu:ku φ up cs):ku ψ up cs:=by
 cases up with
 |none=>trivial
 |some u=>have⟨c,cs',h1,h2⟩:=hu;exact⟨c,cs',h1,h2.mono h⟩
def xP(up:Option pE)(cs oQ:List Frame):Prop:=
 match up with
 |none=>oQ=cs
 |some _=>∃c cs' u,cs=c::cs'/\oQ={c with mode:=u}::cs'
theorem xP.F7{φ up cs}(h:ku φ up cs):xP up cs cs:=by
 cases up with
 |none=>rfl
 |some u=>obtain⟨c,cs',rfl,_⟩:=h;exact⟨c,cs',c.mode,rfl,rfl⟩
def kr(P:Program)(m:Nat)(bs:fv)(φ:cj)(H:AH)(w:World)(fr:fN)(cp:Frame)(cs:List Frame):jR->Prop
 |.go fr' H'=>∃aQ w' jU oQ,Steps P (lone cp cs w) (lone jU oQ w')/\tD aQ fr' jU/\ku aQ fr'.up oQ/\xP fr.up cs oQ/\fr'.p8=fr.p8/\fr'.up.isSome=fr.up.isSome/\
   WR aQ bs H' w'/\cH m φ H aQ H'/\cY bs w w'/\jU.fn=cp.fn
 |.zl r=>uL P m bs φ H w cp cs r fr.up fr.p8
 |.eI _=>True
section
variable{P:Program}{call:rO}{bs:fv}{m:Nat}{H H':AH}{φ aQ:cj}{w w':World}{fr fr':fN}{b:Frame}{a a':Act}{todo pt:List Item}{cs:List Frame}
theorem Bv(hs:Steps P (lone (b.atR a todo) cs w) (lone (b.atR a' pt) cs w'))(hf:FR aQ fr' b a')(hr:fr'.mc=.gj)(hi:jQ aQ fr'.F5 pt)(hw:WR aQ bs H' w')(he:cH m φ H aQ H')(hk:cY bs w w')
 (Ai:fr'.up=fr.up) (fS:fr'.p8=fr.p8) (hu:ku φ fr.up cs):kr P m bs φ H w fr (b.atR a todo) cs (.go fr' H'):=by
 refine⟨aQ,w',b.atR a' pt,cs,hs,?_,?_,xP.F7 hu,fS,by rw[Ai],hw,he,hk,rfl⟩
 .unfold tD;rw[hr];exact⟨b,a',pt,rfl,hf,hi⟩
 .rw[Ai];exact hu.mono he.1
theorem tq{k}(dN:fr.mc=.gj)(hs:Steps P (lone (b.atR a todo) cs w) (lone (b.atR a pt) cs w'))(vl:w'.heap=w.heap)(hf:FR φ fr b a)(hi:jQ φ k pt)(hw:WR φ bs H w)(hu:ku φ fr.up cs)(fJ:uM w w':=by exact⟨rfl,rfl,rfl⟩):
 kr P m bs φ H w fr (b.atR a todo) cs (to fr H k):=by
 have⟨fn,tmps,nt,td,defers,mode,up,round⟩:=fr;exact Bv hs ⟨hf.fn,hf.tr,hf.dr,hf.jP,hf.km,hf.pH⟩ dN hi (hw.rF vl) (cH.jO _ _ _) (cY.rF vl fJ) rfl rfl hu
theorem jQ.S4{x xs ys}(h:jQ φ (x::xs) ys):∃y rK,ys=y::rK/\IR φ x y/\jQ φ xs rK:=h
theorem afR:∀{k ys id},jQ φ k ys->match DZ id k with|some k'=>∃rK,exitTo id ys=some rK/\jQ φ k' rK|none=>exitTo id ys=none
 |[],ys,id,h=>by cases h;rfl
 |x::k,ys,id,h=>by
  obtain⟨y,rK,rfl,h1,h2⟩:=h;have ih:=afR (id:=id) h2;cases x with
  |uG g_=>
   cases h1;simp only[DZ,exitTo];by_cases he:(g_==id)=true
   .rw[aO he,aO he];exact⟨_,rfl,h2⟩
   .rw[az he,az he];exact ih
  |gy c=>cases h1;exact ih
  |qK c=>cases h1;exact ih
  |tB c=>cases h1;exact ih
  |Dk l=>obtain⟨e,_,rfl⟩:=h1;exact ih
  |AQ l=>obtain⟨e,_,rfl⟩:=h1;exact ih
  |zi=>cases h1;exact ih
  |gY ops i l=>obtain⟨rfl,_⟩:=h1;exact ih
theorem agH:∀{k ys l},jQ φ k ys->match Hp l k with|some k'=>∃rK,gotoIn l ys=some rK/\jQ φ k' rK|none=>gotoIn l ys=none
 |[],ys,id,h=>by cases h;rfl
 |x::k,ys,id,h=>by
  obtain⟨y,rK,rfl,h1,h2⟩:=h;have ih:=agH (l:=id) h2;cases x with
  |tB c=>
   cases h1;simp only[Hp,gotoIn];cases hl:findLabel c id with
   |some rest=>exact⟨_,rfl,_,_,rfl,rfl,_,_,rfl,rfl,h2⟩
   |none=>exact ih
  |gy c=>cases h1;exact ih
  |qK c=>cases h1;exact ih
  |uG c=>cases h1;exact ih
  |Dk l=>obtain⟨e,_,rfl⟩:=h1;exact ih
  |AQ l=>obtain⟨e,_,rfl⟩:=h1;exact ih
  |zi=>cases h1;exact ih
  |gY ops i l=>obtain⟨rfl,_⟩:=h1;exact ih
theorem WR.loop(hw:WR φ bs H w){l d st jL p p' fn tmps nt ps x y e}(he:φ l=some e)(ho:H.bf l=some (.gK st p fn tmps nt ps x y d)):
 ∃r:Loop,w.heap[e.b]? =some (.loop r)/\r.state=st/\r.pending=p/\WR φ bs (H.cQ l (.gK jL p' fn tmps nt ps x y d)) (w.putObj e.b (.loop {r with state:=jL,pending:=p'}))/\cY bs w (w.putObj e.b (.loop {r with state:=jL,pending:=p'})):=by
 obtain⟨o,hg,oM,ed,rfl,hd,ht⟩:=hw.ew l _ e ho he;have ax:=(hw.lt l e he).1;refine⟨_,hg,rfl,rfl,?_,?_⟩
 .exact hw.put ho rfl he World.putObj_size (λb hb=>World.putObj_heap_other hb) ⟨_,World.putObj_heap_same ax,oM,ed,rfl,hd,ht⟩
 .exact cY.MB hw he World.putObj_size (λb hb=>World.putObj_heap_other hb)
theorem Ra(dN:fr.mc=.gj)(hf:FR φ fr b a)(hw:WR φ bs H w)(hu:ku φ fr.up cs){o5}(h1:b.roundOf=none->(o5=none\/o5=some .ret)->step P (lone (b.atR a todo) cs w)=.next (lone {b.atR a todo with mode:=.returning} cs w))(h2:∀l c cs' v w',cs=c::cs'->b.roundOf=some l->b.kind=.normal->(Instr.endRound l o5).run P w=.ok v w'->step P (lone (b.atR a todo) (c::cs') w)=.next (lone (c.finish v) cs' w')):
 kr P m bs φ H w fr (b.atR a todo) cs (uo fr H o5):=by
 have⟨fn,tmps,nt,td,defers,mode,up,round⟩:=fr;cases dN;cases round with
 |none=>
  have fS:=hf.jP;have key:(o5=none\/o5=some .ret)->kr P m bs φ H w ⟨fn,tmps,nt,td,defers,.gj,up,none⟩ (b.atR a todo) cs (.go ⟨fn,tmps,nt,td,defers,.iX,up,none⟩ H):=by intro hj;refine⟨φ,w,{b.atR a todo with mode:=.returning},cs,.one (h1 fS hj),⟨⟨hf.fn,hf.tr,hf.dr,hf.jP,hf.km,hf.pH⟩,rfl⟩,hu,xP.F7 hu,rfl,rfl,hw,cH.jO _ _ _,cY.ka _ _,rfl⟩
  simp only[uo];split
  .exact key (.inl rfl)
  .exact key (.inr rfl)
  .trivial
 |some l=>
  have⟨e,he,fS⟩:=hf.jP;simp only[uo,Zu];split;next st p lf lt ln ps x y d eH=>
   have Ai:up=none:=by
    cases up with
    |none=>rfl
    |some u=>have:=hf.pH rfl;cases this
   subst Ai;have fJ:(if o5.isNone then LoopState.ready else .done)=(bif o5.isNone then .ready else .done):=by cases o5<;>rfl
   have⟨r,hg,_,_,s6,oA⟩:=hw.loop (jL:=bif o5.isNone then .ready else .done) (p':=o5) he eH;refine⟨φ,_,s6,cH.oN he _,oA,?_⟩;intro c cs' gC;have hr:=run_endRound (P:=P) o5 hg;rw[fJ]at hr;subst gC;exact⟨_,rfl,.one (h2 e.b c cs' _ _ rfl fS hf.km hr)⟩
  .trivial
theorem atX(dN:fr.mc=.gj)(hf:FR φ fr b a)(hw:WR φ bs H w)(hu:ku φ fr.up cs):kr P m bs φ H w fr (b.atR a []) cs (uo fr H none):=
 Ra dN hf hw hu (λhb _=>stepR_end hb) (λl c cs' v w' _ fS hk hr=>stepR_round_end fS hk hr)
theorem at0(dN:fr.mc=.gj)(hf:FR φ fr b a)(hw:WR φ bs H w)(hu:ku φ fr.up cs){k}:kr P m bs φ H w fr (b.atR a (.code .ret::k)) cs (uo fr H (some .ret)):=
 Ra dN hf hw hu (λhb _=>stepR_ret hb) (λl c cs' v w' _ fS hk hr=>stepR_round_ret fS hk hr)
theorem atY(dN:fr.mc=.gj)(hf:FR φ fr b a)(hw:WR φ bs H w)(hu:ku φ fr.up cs){k id}(hx:exitTo id k=none):kr P m bs φ H w fr (b.atR a (.code (.exit id)::k)) cs (uo fr H (some (.exit id))):=
 Ra dN hf hw hu (λ_ h=>by rcases h with h|h<;>cases h) (λl c cs' v w' _ fS hk hr=>stepR_round_exit fS hk hx hr)
theorem atZ(dN:fr.mc=.gj)(hf:FR φ fr b a)(hw:WR φ bs H w)(hu:ku φ fr.up cs){k id}(hx:gotoIn id k=none):kr P m bs φ H w fr (b.atR a (.code (.goto id)::k)) cs (uo fr H (some (.goto id))):=
 Ra dN hf hw hu (λ_ h=>by rcases h with h|h<;>cases h) (λl c cs' v w' _ fS hk hr=>stepR_round_goto fS hk hx hr)
theorem aow(dN:fr.mc=.gj)(hf:FR φ fr b a)(hw:WR φ bs H w)(hu:ku φ fr.up cs){k ks}(hi:jQ φ k ks):kr P m bs φ H w fr (b.atR a (.beginRound::ks)) cs (SI fr H k):=by
 have⟨fn,tmps,nt,td,defers,mode,up,round⟩:=fr;cases dN;cases round with
 |none=>trivial
 |some l=>
  have⟨e,he,fS⟩:=hf.jP;simp only[SI];split;next p lf lt ln ps x y d eH=>
   have⟨r,hg,fJ,hp,s6,oA⟩:=hw.loop (jL:=.busy) (p':=p) he eH;have hr:=run_beginRound (P:=P) hg fJ;have e2:({r with state:=.busy,pending:=p}:Loop)={r with state:=.busy}:=by rw[<-hp]
   rw[e2]at s6 oA;exact Bv (.one (stepR_beginRound fS hr)) ⟨hf.fn,hf.tr,hf.dr,hf.jP,hf.km,hf.pH⟩ rfl hi s6 (cH.oN he _) oA rfl rfl hu
  .trivial
theorem aqw(dN:fr.mc=.gj)(hf:FR φ fr b a)(hw:WR φ bs H w)(hu:ku φ fr.up cs){l e}(he:φ l=some e){k ks}(hi:jQ φ k ks):kr P m bs φ H w fr (b.atR a (.endRangeFunc e.b::ks)) cs (SJ fr H l k):=by
 have key:∀(st:LoopState) p lf lt ln ps x y d,H.bf l=some (.gK st p lf lt ln ps x y d)->st≠.busy->kr P m bs φ H w fr (b.atR a (.endRangeFunc e.b::ks)) cs (to fr (H.cQ l (.gK .exhausted p lf lt ln ps x y d)) (R3 p k)):=by
  intro st p lf lt ln ps x y d eH fJ;have⟨r,hg,asT,hp,s6,oA⟩:=hw.loop (jL:=.exhausted) (p':=p) he eH;have hr:=run_endLoop (P:=P) hg (by rw[asT];exact fJ);rw[hp]at hr;have⟨fn,tmps,nt,td,defers,mode,up,round⟩:=fr;cases dN;refine Bv (.one (stepR_endRangeFunc hr)) ⟨hf.fn,hf.tr,hf.dr,hf.jP,hf.km,hf.pH⟩ rfl ?_ s6 (cH.oN he _) oA rfl rfl hu;cases p with
  |none=>exact hi
  |some c=>exact⟨_,_,rfl,rfl,hi⟩
 unfold SJ;split;next eH=>exact key _ _ _ _ _ _ _ _ _ eH (by simp)
 next eH=>exact key _ _ _ _ _ _ _ _ _ eH (by simp)
 .trivial
end
section
variable{P:Program}{call:rO}{bs:fv}{m:Nat}{H H':AH}{φ aQ:cj}{w w':World}{fr fr':fN}{b:Frame}{a a':Act}{todo pt:List Item}{cs:List Frame}
theorem ME{o v v' al8}(dN:fr.mc=.gj)(hs:Steps P (lone (b.atR a todo) cs w) (lone (b.atR (a.put o.dst v') pt) cs w'))(hf:FR aQ fr b a)(hv:VR aQ v v')(hi:jQ aQ al8 pt)(hw:WR aQ bs H' w')(he:cH m φ H aQ H')(hk:cY bs w w')(hu:ku φ fr.up cs):kr P m bs φ H w fr (b.atR a todo) cs (rn fr o al8 v H'):=by
 have⟨fn,tmps,nt,td,defers,mode,up,round⟩:=fr;cases dN;simp only[rn];split;next t kQ=>exact Bv hs ⟨hf.fn,TR.put hf.tr kQ hv,by rw[Cv];exact hf.dr,hf.jP,hf.km,hf.pH⟩ rfl hi hw he hk rfl rfl hu
 .trivial
theorem aaD{c c'}(dN:fr.mc=.gj)(hs:Steps P (lone (b.atR a todo) cs w) (lone ((b.atR a' pt).raise c') cs w'))(hd:a'.defers=a.defers){t}(ht:TR aQ t fr.nt a'.tmps){k}(hf:FR φ fr b a)(hc:CR aQ c c')(hw:WR aQ bs H' w')(he:cH m φ H aQ H')(hk:cY bs w w')(hu:ku φ fr.up cs):kr P m bs φ H w fr (b.atR a todo) cs (.go ⟨fr.fn,t,fr.nt,k,fr.NA,xq fr.mc c,fr.up,fr.p8⟩ H'):=by have⟨fn,tmps,nt,td,defers,mode,up,round⟩:=fr;cases dN;have Qx:=hf.zk he.1;refine⟨aQ,w',(b.atR a' pt).raise c',cs,hs,⟨⟨hf.fn,ht,?_,Qx.jP,hf.km,hf.pH⟩,⟨c',rfl,hc⟩⟩,hu.mono he.1,xP.F7 hu,rfl,rfl,hw,he,hk,rfl⟩;show pF aQ defers a'.defers;rw[hd];exact Qx.dr
theorem ale{ops:Array Oper}{i o rest}(h:o::rest=ops.toList.drop i):ops[i]? =some o/\rest=ops.toList.drop (i+1):=by
 constructor
 .have:(ops.toList.drop i)[0]? =some o:=by rw[<-h];rfl
  rw[tf]at this;simpa using this
 .have:(ops.toList.drop i).drop 1=rest:=by rw[<-h];rfl
  rw[xk]at this;exact this.symm
theorem alZ{ops k i rest o}(ho:ops[i]? =some o)(hw:Region.wanted o (yielded ops a.tmps)=true)(hb:b.roundOf=none)(hr:(o.semAt b.roundOf a.eval).run P w=.ok .recover w'):
 step P (lone (b.atR a (.inRegion ops (i::rest)::k)) cs w)=match tryRecover (b.atR a (.inRegion ops (i::rest)::k)) cs with
  |some (v,cs')=>.next (lone (b.atR (a.put o.dst v) (.inRegion ops rest::k)) cs' w')
  |none=>.next (lone (b.atR (a.put o.dst .nilIface) (.inRegion ops rest::k)) cs w'):=by
 have hg:=stepGR_op (P:=P) (b:=b) (k:=k) (cs:=cs) (w:=w) (rest:=rest) ho hw;have fS:(b.atR a (.inRegion ops (i::rest)::k)).roundOf=none:=hb;cases ht:tryRecover (b.atR a (.inRegion ops (i::rest)::k)) cs with
 |none=>refine step_lone_go ?_;rw[hg,<-Hi ho];simp[stepG.apply,hr,fS,ht]
 |some r=>have⟨v,cs'⟩:=r;refine step_lone_go ?_;rw[hg,<-Hi ho];simp[stepG.apply,hr,fS,ht]
theorem azu(hc:mf P call)(dN:fr.mc=.gj)(hf:FR φ fr b a)(hw:WR φ bs H w)(hb:hQ bs w)(hm:m<=H.bx)(hu:ku φ fr.up cs){ops i o rest k ks}(Ew:o::rest=ops.toList.drop i)(hi:jQ φ k ks):kr P m bs φ H w fr (b.atR a (.inRegion ops (List.range' i (rest.length+1))::ks)) cs (y6 P call fr H ops i o rest k):=by
 obtain⟨ho,YA⟩:=ale Ew;rw[List.range'_succ];have ui:=hf.tr;have z_:∀{ψ:cj},dv φ ψ->jQ ψ (.gY ops (Nat.succ i) rest::k) (.inRegion ops (List.range' (i+1) rest.length)::ks):=λh=>⟨_,_,rfl,⟨rfl,YA⟩,hi.Jy h⟩
 have uh:nP φ (iw fr.zh) a.eval o.op.operands.toList:=TR.uB ui _;obtain⟨fn,tmps,nt,td,defers,mode,up,round⟩:=fr;cases dN;simp only at ui uh;simp only[y6];cases qx:mN ops o tmps.bT with
 |none=>trivial
 |some bb=>
  simp only;have oZ:Region.wanted o (yielded ops a.tmps)=bb:=abL (cur:=tmps) qx λg py d x _ _ hx=>ui.2 d x hx
  cases bb with
  |false=>simp only[cond_false];refine ME (v':=undef) rfl (.one ?_) hf (Jn φ) (z_ (dv.refl φ)) hw (cH.jO _ _ _) (cY.ka _ _) hu;have:=stepR_op_skip (P:=P) (b:=b) (a:=a) (k:=ks) (cs:=cs) (w:=w) (ops:=ops) (i:=i) (rest:=List.range' (i+1) rest.length) (by simp[ho,oZ]);simpa[ho]using this
  |true=>
   simp only[cond_true];cases hr:o0 o.op with
   |true=>
    simp only[cond_true];cases hv:fL P (iw tmps) H o.op with
    |none=>trivial
    |some v=>obtain⟨v',h1,h2⟩:=ako hw uh hv;simp only[aa7];exact ME rfl (.one (Jf ho oZ (.inl (by rw[yZ _ _ (akn hr)];exact h1)))) hf h2 (z_ (dv.refl φ)) hw (cH.jO _ _ _) (cY.ka _ _) hu
   |false=>
    simp only[cond_false];cases yx:r6 o.op with
    |true=>
     simp only[cond_true];cases vh:qy P (iw tmps) o.op with
     |none=>trivial
     |some r=>obtain⟨ob,g⟩:=r;obtain⟨hh,n⟩:=H;obtain⟨o',sz,f,h1,h2,h3,h4⟩:=aiS uh vh;obtain⟨g1,g2,g3⟩:=hw.yK hb h2 hm;simp only[aa6];exact ME rfl (.one (Jf ho oZ (.inl (by rw[yZ _ _ (aiR vh)];exact h1 w)))) (hf.zk g2.1) (h3 _ n _ (ml ..)) (z_ g2.1) g1 g2 g3 hu
    |false=>
     simp only[cond_false];cases ey:nu P (iw tmps) H o.op with
     |none=>trivial
     |some aK=>
      have EJ:=aha hw hb hm uh ey;have asq:∀r,kA P call H none aK=some r->kr P m bs φ H w ⟨fn,tmps,nt,td,defers,.gj,up,round⟩ (b.atR a (.inRegion ops (i::List.range' (i+1) rest.length)::ks)) cs
       (y4 ⟨fn,tmps,nt,td,defers,.gj,up,round⟩ o (.gY ops (Nat.succ i) rest::k) (some r)):=by
       intro r jH;have nY:∀c,o.op≠.defer c:=by
        intro cc jG;rw[jG]at ey;simp only[nu,Hz]at ey;split at ey
        .split at ey;next fn first lu l _ _=>
          cases hy:vq fn with
          |true=>rw[hy]at ey;cases ey
          |false=>rw[hy]at ey;cases ey;simp[kA]at jH
         .cases ey
        .cases ey
       have⟨aQ,w',g1,g2,g3,g4⟩:=ajS hc b ops ks cs a i (List.range' (i+1) rest.length) o φ H w m aK r hm hb ho oZ hw (yZ _ _ nY) EJ jH;have⟨e,Jo,H1⟩:=r;cases e with
       |gk v=>have⟨v',hv,qZ⟩:=g4;rw[Hi ho]at qZ;exact ME rfl qZ (hf.zk g2.1) hv (z_ g2.1) g1 g2 g3 hu
       |dH c=>have⟨c',BH,qZ⟩:=g4;exact aaD rfl qZ rfl (ui.mono g2.1) hf BH g1 g2 g3 hu
      have jH:kr P m bs φ H w ⟨fn,tmps,nt,td,defers,.gj,up,round⟩ (b.atR a (.inRegion ops (i::List.range' (i+1) rest.length)::ks)) cs
       (y4 ⟨fn,tmps,nt,td,defers,.gj,up,round⟩ o (.gY ops (Nat.succ i) rest::k) (kA P call H none aK)):=by
       cases hd:kA P call H none aK with
       |none=>trivial
       |some r=>exact asq r hd
      cases aK with
      |gE v H1=>exact jH
      |qc f args=>exact jH
      |uJ l args=>exact jH
      |wg d=>
       simp only[xA,alc];split;next e=>
        cases e;split;next t kQ=>have⟨d',h1,h2⟩:=EJ;have fS:=hf.jP;refine Bv (.one (aB2 ho oZ (by rw[fS];exact h1))) ⟨hf.fn,TR.put ui kQ (Jn φ),?_,hf.jP,hf.km,hf.pH⟩ rfl (z_ (dv.refl φ)) hw (cH.jO _ _ _) (cY.ka _ _) rfl rfl hu;rw[Cv];exact⟨d',a.defers,rfl,h2,hf.dr⟩
        .trivial
       .trivial
      |uI v=>
       have⟨v',h1,h2⟩:=EJ;have nY:∀c,o.op≠.defer c:=by
        intro cc jG;rw[jG]at ey;simp only[nu,Hz]at ey;split at ey
        .split at ey;next fn first lu l _ _=>
          cases hy:vq fn with
          |true=>rw[hy]at ey;cases ey
          |false=>rw[hy]at ey;cases ey
         .cases ey
        .cases ey
       exact aaD rfl (.one (aB4 ho oZ (by rw[yZ _ _ nY];exact h1))) rfl ui hf ⟨v',[],rfl,h2,rfl⟩ hw (cH.jO _ _ _) (cY.ka _ _) hu
      |wh=>
       have nY:∀c,o.op≠.defer c:=by
        intro cc jG;rw[jG]at ey;simp only[nu,Hz]at ey;split at ey
        .split at ey;next fn first lu l _ _=>
          cases hy:vq fn with
          |true=>rw[hy]at ey;cases ey
          |false=>rw[hy]at ey;cases ey
         .cases ey
        .cases ey
       simp only[xA,ald];have QI:∀(fS:round=none),(∀v IT,up≠some (.ll ((v,false)::IT)))->∀t,oK nt tmps o.dst .lq=some t->
        kr P m bs φ H w ⟨fn,tmps,nt,td,defers,.gj,up,round⟩ (b.atR a (.inRegion ops (i::List.range' (i+1) rest.length)::ks)) cs (.go ⟨fn,t,nt,.gY ops (Nat.succ i) rest::k,defers,.gj,up,round⟩ H):=by
        intro fS lU t kQ;subst fS;have j5:=alZ (k:=ks) (cs:=cs) (rest:=List.range' (i+1) rest.length) ho oZ hf.jP (by rw[yZ _ _ nY];exact EJ);have YH:tryRecover (b.atR a (.inRegion ops (i::List.range' (i+1) rest.length)::ks)) cs=none:=by
         cases up with
         |none=>have hk:=hf.km;unfold tryRecover;rw[show(b.atR a (.inRegion ops (i::List.range' (i+1) rest.length)::ks)).kind=b.kind from rfl,hk]
         |some u=>
          obtain⟨c,cs',rfl,vi⟩:=hu;have hk:=hf.km;unfold tryRecover;rw[show(b.atR a (.inRegion ops (i::List.range' (i+1) rest.length)::ks)).kind=b.kind from rfl,hk];simp only;cases u with
          |gj=>rw[vi]
          |iX=>rw[vi]
          |ll ch=>
           have⟨tJ,e1,Lo⟩:=vi;rw[e1];cases ch with
           |nil=>simp only[CR]at Lo;subst Lo;rfl
           |cons x ch=>
            have⟨v,rec⟩:=x;obtain⟨v',l',rfl,_,_⟩:=Lo;cases rec with
            |false=>exact(lU v ch rfl).elim
            |true=>rfl
        rw[YH]at j5;exact Bv (.one j5) ⟨hf.fn,TR.put ui kQ (show VR φ .lq .nilIface from rfl),by rw[Cv];exact hf.dr,hf.jP,hf.km,hf.pH⟩ rfl (z_ (dv.refl φ)) hw (cH.jO _ _ _) (cY.ka _ _) rfl rfl hu
       split;next v IT e=>
        cases e;split;next t kQ=>
         have j5:=alZ (k:=ks) (cs:=cs) (rest:=List.range' (i+1) rest.length) ho oZ hf.jP (by rw[yZ _ _ nY];exact EJ);obtain⟨c,cs',rfl,tJ,e1,Lo⟩:=hu;obtain⟨v',l',rfl,hv,hl⟩:=Lo;have hk:=hf.km;have YH:tryRecover (b.atR a (.inRegion ops (i::List.range' (i+1) rest.length)::ks)) (c::cs')=some (v',{c with mode:=.panicking ({v:=v',recovered:=true}::l')}::cs'):=by unfold tryRecover;rw[show(b.atR a (.inRegion ops (i::List.range' (i+1) rest.length)::ks)).kind=b.kind from rfl,hk];simp only[e1]
         rw[YH]at j5;refine⟨φ,w,_,_,.one j5,⟨b,_,_,rfl,⟨hf.fn,TR.put ui kQ hv,by rw[Cv];exact hf.dr,hf.jP,hf.km,hf.pH⟩,z_ (dv.refl φ)⟩,⟨_,_,rfl,_,rfl,v',l',rfl,hv,hl⟩,⟨c,cs',_,rfl,rfl⟩,rfl,rfl,hw,cH.jO _ _ _,cY.ka _ _,rfl⟩
        .trivial
       next lU e=>
        cases e;split;next t kQ=>exact QI rfl (λv IT hh=>lU v IT hh) t kQ
        .trivial
       .trivial
end
section
variable{P:Program}{call:rO}{bs:fv}{m:Nat}{H H':AH}{φ aQ:cj}{w w':World}{fr fr':fN}{b:Frame}{a a':Act}{todo pt:List Item}{cs:List Frame}
theorem aBX{c k}:step P (lone (b.atR a (.code (.scope c)::k)) cs w)=.next (lone (b.atR a (.code c::.inScope c::k)) cs w):=
 step_lone_go (by simp[stepG,stepG.exec,Frame.atR])
theorem aBW{c k}:step P (lone (b.atR a (.inScope c::k)) cs w)=.next (lone (b.atR a k) cs w):=
 step_lone_go (by simp[stepG,stepG.exec,Frame.atR])
theorem av2(cP:P.follows .mixedOrders=true)(hc:mf P call)(dN:fr.mc=.gj)(hf:FR φ fr b a)(hw:WR φ bs H w)(hb:hQ bs w)(hm:m<=H.bx)(hu:ku φ fr.up cs){id ops qT k ks}(hi:jQ φ k ks):kr P m bs φ H w fr (b.atR a (.code (.region id ops qT)::ks)) cs (Nf P call fr H ops qT k):=by
 cases qT with
 |false=>refine tq dN (.one stepR_region) rfl hf ⟨_,_,rfl,⟨?_,rfl⟩,hi⟩ hw hu;rw[Array.length_toList,List.range_eq_range']
 |true=>
  have⟨fn,tmps,nt,td,defers,mode,up,round⟩:=fr;cases dN;simp only[Nf,cond_true];cases kP:IX ops with
  |none=>trivial
  |some pl=>
   simp only;have vl:WR φ bs H {w with drawn:=w.drawn+1}:=hw.rF rfl;have h0:=stepR_region_draw (P:=P) (b:=b) (a:=a) (k:=ks) (cs:=cs) (w:=w) (ops:=ops) (id:=id);have Yt:=avi kP cP (ajS hc b ops ks cs) (w.tape w.drawn (.order b.fn id)) vl hb hm hf.tr;have yv:cY bs w {w with drawn:=w.drawn+1}:=cY.rF rfl;generalize te P call ops pl.ms tmps nt pl.Dp [] tmps H=r at Yt;cases r with
   |eI s=>trivial
   |aH t H1=>have⟨jN,w1,a1,g1,g2,g3,g4,g5,g6⟩:=Yt;have qu:=hf.zk g5.1;exact Bv (.head h0 (g1.trans (.one stepR_region_end))) ⟨hf.fn,g3,by rw[g2];exact qu.dr,qu.jP,hf.km,hf.pH⟩ rfl (hi.Jy g5.1) g4 g5 (yv.so g6) rfl rfl hu
   |dH c H1=>have⟨jN,w1,a1,cl1,c1,g1,g2,g3,g4,g5,g6,g7⟩:=Yt;exact aaD rfl (.head h0 g1) g2 g3 hf g7 g4 g5 (yv.so g6) hu
theorem pF.abT:∀{as ds qh qU},pF φ as ds->pF φ qh qU->pF φ (as++qh) (ds++qU)
 |[],ds,qh,qU,h,h'=>by cases h;exact h'
 |x::as,ds,qh,qU,h,h'=>by obtain⟨d,ds1,rfl,h1,h2⟩:=h;exact⟨d,ds1++qU,rfl,h1,pF.abT h2 h'⟩
theorem akj(hc:mf P call)(dN:fr.mc=.gj)(hf:FR φ fr b a)(hu:ku φ fr.up cs){f params assign body k ks}(hi:jQ φ k ks){jN h n xx w1 d ed mark ZO}(kR:WR jN bs ⟨h,n,xx⟩ w1)(he1:cH m φ H jN ⟨h,n,xx⟩)(qw:cY bs w w1)(mA:hQ bs w1)(H6:m<=n)(hd:jN d=some ed)(asA:pF jN mark ZO)(Lr:(Instr.enterLoop b.fn a.tmps params assign body b.roundOf).run P w=.ok (w1.heap.size,ZO) (w1.alloc (.loop {state:=.ready,pending:=none,fn:=b.fn,tmps:=a.tmps,params,assign,body,defers:=ed.b}))):
 kr P m bs φ H w fr (b.atR a (.code (.rangeFunc f params assign body)::ks)) cs (PA P call fr f params assign body k (some (d,mark,⟨h,n,xx⟩))):=by
 have⟨fn,tmps,nt,td,defers,mode,up,round⟩:=fr;cases dN;simp only[PA];have qu:=hf.zk he1.1;have jw:=hf.fn;have⟨g1,g2,g3⟩:=kR.yK (n:=0) (ob:=.gK .ready none fn tmps nt params.toList assign body d) (o':=.loop {state:=.ready,pending:=none,fn:=b.fn,tmps:=a.tmps,params,assign,body,defers:=ed.b}) mA
  (λψ bb Y4=>⟨a.tmps,ed,by simp[jw],Y4 _ _ hd,qu.tr.mono Y4⟩) H6
 have nz:=qu.zk g2.1;have wG:=he1.tC g2;have asC:(AH.mk h n xx).bx=n:=rfl;rw[asC]at g1 g2 nz wG;have hyv:VR (js jN n ⟨w1.heap.size,0,0⟩) (.gz n) (.func (.yield w1.heap.size) #[] #[]):=⟨_,ml ..,rfl⟩;cases hr:(iw tmps f).bind λg=>(KM (x9 P g [.gz n])).bind (kA P call (AH.eD ⟨h,n,xx⟩ (.gK .ready none fn tmps nt params.toList assign body d)) none)with
 |none=>trivial
 |some r=>
  cases hg:iw tmps f with
  |none=>rw[hg]at hr;cases hr
  |some g=>
   rw[hg]at hr;simp at hr;cases t_:x9 P g [.gz n]with
   |none=>rw[t_]at hr;cases hr
   |some aK=>
    rw[t_]at hr;have hgv:=TR.uB nz.tr [f] f (by simp) g hg;have gC:=(O7 (m:=m) (base:=bs) (H:=AH.eD ⟨h,n,xx⟩ (.gK .ready none fn tmps nt params.toList assign body d)) t_ hgv ⟨_,_,rfl,hyv,rfl⟩).1
     (w1.alloc (.loop {state:=.ready,pending:=none,fn:=b.fn,tmps:=a.tmps,params,assign,body,defers:=ed.b}))
    cases aK with
    |qc g' args=>
     have⟨args',h1,h2⟩:=gC;rw[Sem.run_bind]at h1;cases XV:(Deferred.ofValue (a.eval f) #[.func (.yield w1.heap.size) #[] #[]]).run P (w1.alloc (.loop {state:=.ready,pending:=none,fn:=b.fn,tmps:=a.tmps,params,assign,body,defers:=ed.b}))with
     |halt x w2=>rw[XV]at h1;cases h1
     |ok d2 w2=>
      rw[XV]at h1;simp at h1;have j5:=stepR_rangeFunc (k:=ks) (cs:=cs) Lr (by have hk:a.eval (.const (.func (.yield w1.heap.size) #[] #[]))=.func (.yield w1.heap.size) #[] #[]:=rfl;simpa[resolve,rangeCall,hk]using XV) h1;have YC:=WT (cs:=b.atR {a with defers:=ZO++a.defers} (.inRangeFunc w1.heap.size::ks)::cs) hc hr h2 g1 (mA.Dm g3.1) (kF H6 g2.2.1) trivial rfl;have⟨φ3,w3,q1,q2,q3,q4⟩:=aa2 YC (.one j5) (qw.so g3);have Ls:=nz.zk q2.1;have Ey:=wG.tC q2;have hn3:=q2.1 _ _ (ml ..);have ahr:=((asA.F8 g2.1).F8 q2.1).abT Ls.dr;have⟨e,Jo,H3⟩:=r;cases e with
      |gk v=>have⟨v',hv,qZ⟩:=q4;rw[finish_atR_inRangeFunc]at qZ;exact Bv qZ ⟨hf.fn,Ls.tr,ahr,Ls.jP,hf.km,hf.pH⟩ rfl ⟨_,_,rfl,⟨_,hn3,rfl⟩,hi.Jy Ey.1⟩ q1 Ey q3 rfl rfl hu
      |dH c=>have⟨c',BH,qZ⟩:=q4;exact⟨φ3,w3,_,cs,qZ,⟨⟨hf.fn,Ls.tr,ahr,Ls.jP,hf.km,hf.pH⟩,⟨c',rfl,BH⟩⟩,hu.mono Ey.1,xP.F7 hu,rfl,rfl,q1,Ey,q3,rfl⟩
    |_=>cases hr
theorem avM(hc:mf P call)(dN:fr.mc=.gj)(hf:FR φ fr b a)(hw:WR φ bs H w)(hb:hQ bs w)(hm:m<=H.bx)(hu:ku φ fr.up cs){f params assign body k ks}(hi:jQ φ k ks):kr P m bs φ H w fr (b.atR a (.code (.rangeFunc f params assign body)::ks)) cs (SL P call fr H f params assign body k):=by
 have⟨fn,tmps,nt,td,defers,mode,up,round⟩:=fr;cases dN;simp only[SL];cases round with
 |none=>have⟨h,n,xx⟩:=H;have⟨g1,g2,g3⟩:=hw.yK (n:=0) (ob:=.pB (some [])) hb (λψ bb Y4=>⟨[],rfl,rfl⟩) hm;have fS:=hf.jP;have Lr:=run_enterLoop_outer (P:=P) (w:=w) b.fn a.tmps params assign body;rw[<-fS]at Lr;have cv:(w.alloc (.deferred (some []))).heap.size=w.heap.size+1:=Vv _ _;rw[<-cv]at Lr;exact akj hc rfl hf hu hi g1 g2 g3 (hb.Dm g3.1) (kF hm g2.2.1) (ml ..) ⟨_,_,rfl,⟨_,ml ..,rfl⟩,rfl⟩ Lr
 |some l=>
  have⟨e,he,fS⟩:=hf.jP;simp only[ZD];cases eH:H.bf l with
  |none=>trivial
  |some ob=>
   cases ob with
   |gK st p lf lt ln ps x y d=>obtain⟨o,hg,oM,ed,rfl,hd,ht⟩:=hw.ew l _ e eH he;have⟨h,n,xx⟩:=H;refine akj hc rfl hf hu hi hw (cH.jO _ _ _) (cY.ka _ _) hb hm hd rfl ?_;rw[fS];unfold Instr.enterLoop;simp only[Sem.run_bind,run_getLoop hg,run_newObj_alloc,Result.andThen,Sem.run_pure]
   |_=>trivial
theorem apg(cP:P.follows .mixedOrders=true)(hc:mf P call)(dN:fr.mc=.gj)(hf:FR φ fr b a)(hw:WR φ bs H w)(hb:hQ bs w)(hm:m<=H.bx)(hu:ku φ fr.up cs){c k ks}(hi:jQ φ k ks):kr P m bs φ H w fr (b.atR a (.code c::ks)) cs (xD P call fr H k c):=by
 cases c with
 |ret=>exact at0 dN hf hw hu
 |skip=>exact tq dN (.one stepR_skip) rfl hf hi hw hu
 |label l=>exact tq dN (.one stepR_label) rfl hf hi hw hu
 |seq x y=>exact tq dN (.one stepR_seq) rfl hf ⟨_,_,rfl,rfl,_,_,rfl,rfl,hi⟩ hw hu
 |cond c S8 Pk=>
  simp only[xD];cases hv:iw fr.zh c with
  |none=>trivial
  |some v=>
   cases v with
   |ao t=>have:=TR.uB hf.tr [c] c (by simp) _ hv;refine tq dN (.one (stepR_cond this)) rfl hf ⟨_,_,rfl,?_,hi⟩ hw hu;cases t<;>rfl
   |_=>trivial
 |block id body=>exact tq dN (.one stepR_block) rfl hf ⟨_,_,rfl,rfl,_,_,rfl,rfl,hi⟩ hw hu
 |loop body=>exact tq dN (.one stepR_loop) rfl hf ⟨_,_,rfl,rfl,_,_,rfl,rfl,hi⟩ hw hu
 |scope body=>exact tq dN (.one aBX) rfl hf ⟨_,_,rfl,rfl,_,_,rfl,rfl,hi⟩ hw hu
 |exit id=>
  have:=afR (id:=id) hi;simp only[xD];cases hx:DZ id k with
  |none=>rw[hx]at this;exact atY dN hf hw hu this
  |some k'=>rw[hx]at this;have⟨rK,h1,h2⟩:=this;exact tq dN (.one (stepR_exit h1)) rfl hf h2 hw hu
 |goto l=>
  have:=agH (l:=l) hi;simp only[xD];cases hx:Hp l k with
  |none=>rw[hx]at this;exact atZ dN hf hw hu this
  |some k'=>rw[hx]at this;have⟨rK,h1,h2⟩:=this;exact tq dN (.one (stepR_goto h1)) rfl hf h2 hw hu
 |region id ops qT=>exact av2 cP hc dN hf hw hb hm hu hi
 |rangeFunc f params assign body=>exact avM hc dN hf hw hb hm hu hi
 |refuse why=>trivial
theorem aBY(cP:P.follows .mixedOrders=true)(hc:mf P call)(dN:fr.mc=.gj)(hf:FR φ fr b a)(hw:WR φ bs H w)(hb:hQ bs w)(hm:m<=H.bx)(hu:ku φ fr.up cs)(hi:jQ φ fr.F5 todo):
 kr P m bs φ H w fr (b.atR a todo) cs (qH P call fr H):=by
 have⟨fn,tmps,nt,td,defers,mode,up,round⟩:=fr;cases td with
 |nil=>cases hi;exact atX dN hf hw hu
 |cons x k=>
  obtain⟨y,ks,rfl,h1,h2⟩:=hi;cases x with
  |gy c=>cases h1;exact apg cP hc dN hf hw hb hm hu h2
  |uG id=>cases h1;exact tq dN (.one stepR_inBlock) rfl hf h2 hw hu
  |tB c=>cases h1;exact tq dN (.one aBW) rfl hf h2 hw hu
  |qK c=>cases h1;exact tq dN (.one stepR_inLoop) rfl hf ⟨_,_,rfl,rfl,_,_,rfl,rfl,h2⟩ hw hu
  |Dk l=>trivial
  |AQ l=>obtain⟨e,he,rfl⟩:=h1;exact aqw dN hf hw hu he h2
  |zi=>cases h1;exact aow dN hf hw hu h2
  |gY ops i l=>
   obtain⟨rfl,Ew⟩:=h1;cases l with
   |nil=>exact tq dN (.one stepR_region_end) rfl hf h2 hw hu
   |cons o rest=>exact azu hc dN hf hw hb hm hu Ew h2
end
section
variable{P:Program}{call:rO}{bs:fv}{m:Nat}{H H':AH}{φ aQ:cj}{w w':World}{fr fr':fN}{cp:Frame}{cs:List Frame}
def RS(tmps:Array Value):ResultVar->Sem Value
 |.tmp t=>pure (tmps.getD t undef)
 |.cell a t=>do loadVar t (<-asAddr (tmps.getD a undef))
theorem aaS{nt t tmps}(hw:WR φ bs H w)(ht:TR φ t nt tmps):∀l vs,sd P H t l=some vs->∃ep,(l.mapM (RS tmps)).run P w=.ok ep w/\bp φ vs ep
 |[],vs,h=>by cases h;exact⟨[],rfl,rfl⟩
 |.tmp i::l,vs,h=>by
  simp only[sd]at h;split at h;next v hv=>
   cases hr:sd P H t l with
   |none=>rw[hr]at h;cases h
   |some Tg=>
    rw[hr]at h;cases h;have⟨ep,h1,h2⟩:=aaS hw ht l Tg hr;have⟨v',h3,h4⟩:=ht.2 i v hv;refine⟨v'::ep,?_,v',ep,rfl,h4,h2⟩;have e:tmps.getD i undef=v':=by rw[MV,h3];rfl
    rw[List.mapM_cons];simp only[RS,Sem.run_bind,Sem.run_pure,Result.andThen_ok,h1,e]
  .cases h
 |.cell i ty::l,vs,h=>by
  simp only[sd]at h;split at h;next id off hp=>
   split at h;next v hv=>
    cases hr:sd P H t l with
    |none=>rw[hr]at h;cases h
    |some Tg=>
     rw[hr]at h;cases h;have⟨ep,h1,h2⟩:=aaS hw ht l Tg hr;have⟨vp,h3,e,he,h4⟩:=ht.2 i _ hp;have⟨v',h5,h6⟩:=ZA hw hv he;refine⟨v'::ep,?_,v',ep,rfl,h6,h2⟩;have e1:tmps.getD i undef=.pointer (some ⟨e.b,e.o+off,none⟩):=by rw[MV,h3,<-h4];rfl
     rw[List.mapM_cons];simp only[RS,Sem.run_bind,e1,asAddr,Sem.run_pure,Result.andThen_ok,h5,h1]
   .cases h
  .cases h
theorem av7{nt t tmps}(hw:WR φ bs H w)(ht:TR φ t nt tmps){fn vs}(h:sd P H t fn.results.toList=some vs):∃v',(results fn tmps).run P w=.ok v' w/\VR φ (AM vs) v':=by
 have⟨ep,h1,h2⟩:=aaS hw ht _ vs h;have e:results fn tmps=(do let vs<-fn.results.mapM (RS tmps);pure (if h:vs.size=1 then vs[0]else .tuple vs)):=by rfl
 rw[e,Array.mapM_eq_mapM_toList];simp only[map_eq_pure_bind,bind_assoc,pure_bind,Sem.run_bind,h1,Result.andThen_ok,Sem.run_pure];refine⟨_,rfl,?_⟩;cases vs with
 |nil=>subst h2;exact⟨#[],rfl,rfl⟩
 |cons v vs=>
  obtain⟨v',vs2,rfl,hv,jA⟩:=h2;cases vs with
  |nil=>subst jA;exact hv
  |cons v2 vs=>obtain⟨v2',vs3,rfl,QR,as8⟩:=jA;exact⟨(v'::v2'::vs3).toArray,by simp,v',v2'::vs3,rfl,hv,v2',vs3,rfl,QR,as8⟩
theorem CR.ajq:∀{c l},CR φ c l->l.dropWhile (!·.goexit)=[]
 |[],l,h=>by cases h;rfl
 |(v,r)::c,l,h=>by obtain⟨v',l',rfl,_,h2⟩:=h;simp;exact h2.ajq
theorem azw{u fm}(h:MR φ u fm):MR φ (alh u) (settle fm):=by
 cases u with
 |gj=>cases h;rfl
 |iX=>cases h;rfl
 |ll c=>
  obtain⟨c',rfl,hc⟩:=h;cases c with
  |nil=>cases hc;exact⟨[],rfl,rfl⟩
  |cons x c=>
   have⟨v,r⟩:=x;obtain⟨v',l',rfl,h1,h2⟩:=hc;cases r with
   |true=>show settle _=_;simp only[settle,h2.ajq]
   |false=>exact⟨_,rfl,v',l',rfl,h1,h2⟩
theorem CR.abS:∀{c l c' l'},CR φ c l->CR φ c' l'->CR φ (c++c') (l++l')
 |[],l,c',l',h,h'=>by cases h;exact h'
 |(v,r)::c,l,c',l',h,h'=>by obtain⟨v',l1,rfl,h1,h2⟩:=h;exact⟨v',l1++l',rfl,h1,CR.abS h2 h'⟩
theorem avL{u fm c c'}(h:MR φ u fm)(hc:CR φ c c'):MR φ (xq u c) (raised fm c'):=by
 cases u with
 |gj=>cases h;exact⟨c',rfl,hc⟩
 |iX=>cases h;exact⟨c',rfl,hc⟩
 |ll o=>obtain⟨o',rfl,ho⟩:=h;exact⟨_,rfl,hc.abS ho⟩
theorem tD.aK{fn tmps nt todo pt defers ds mode u up round}(hf:FR φ ⟨fn,tmps,nt,todo,defers,mode,up,round⟩ cp ⟨cp.tmps,cp.defers⟩){qU fm}(hd:pF φ ds qU)(hm:MR φ u fm)(hu:u≠.gj):tD φ ⟨fn,tmps,nt,pt,ds,u,up,round⟩ {cp with defers:=qU,mode:=fm}:=by
 have:FR φ ⟨fn,tmps,nt,pt,ds,u,up,round⟩ {cp with defers:=qU,mode:=fm} ⟨cp.tmps,qU⟩:=⟨hf.fn,hf.tr,hd,hf.jP,hf.km,hf.pH⟩;cases u with
 |gj=>exact(hu rfl).elim
 |iX=>exact⟨this,hm⟩
 |ll c=>exact⟨this,hm⟩
theorem alY(hc:mf P call)(ey:fr.mc≠.gj)(hf:FR φ fr cp ⟨cp.tmps,cp.defers⟩)(BN:MR φ fr.mc cp.mode)(hw:WR φ bs H w)(hb:hQ bs w)(hm:m<=H.bx)(hu:ku φ fr.up cs):
 kr P m bs φ H w fr cp cs (CS P call fr H):=by
 have⟨fn,tmps,nt,todo,defers,mode,up,round⟩:=fr;have hcm:cp.mode≠.run:=by
  intro e;cases mode with
  |gj=>exact ey rfl
  |iX=>rw[e]at BN;cases BN
  |ll c=>have⟨c',h1,_⟩:=BN;rw[e]at h1;cases h1
 simp only[CS];cases defers with
 |nil=>
  have BR:=hf.dr;simp only[IU];have aH:∀(e:NT) (e':Ending),ER φ e e'->(cp.kind=.normal->cp.leaving P w e')->cp.going P w e'->
   (∀c cs',cs=c::cs'->cp.kind=.normal->match e with|.gk v=>∃v',VR φ v v'/\Steps P (lone cp cs w) (lone (c.finish v') cs' w)|.dH ch=>∃tJ,CR φ ch tJ/\Steps P (lone cp cs w) (lone (c.raise tJ) cs' w))->
   uL P m bs φ H w cp cs ⟨e,up,H⟩ up round:=by
   intro e e' ub sT nV ug;refine⟨φ,w,hw,cH.jO _ _ _,cY.ka _ _,?_⟩;cases up with
   |none=>
    have hk:=hf.km;cases round with
    |none=>exact⟨cp,e',ub,Steps.refl P _,sT hk,rfl⟩
    |some l=>exact λc cs' h=>ug c cs' h hk
   |some u=>obtain⟨c,cs',rfl,vi⟩:=hu;exact⟨c,cs',u,c.mode,cp,e',rfl,rfl,vi,ub,Steps.refl P _,hf.km,nV⟩
  cases mode with
  |gj=>trivial
  |ll ch=>
   cases jw:(P.funcs[fn]?).isSome with
   |false=>trivial
   |true=>simp;have⟨Hj,Lv⟩:=Si.1 jw;have⟨tJ,h1,h2⟩:=BN;have Lu:=hf.fn;have sT:cp.leaving P w (.panicked tJ):=⟨h1,BR,Hj,by rw[Lu];exact Lv⟩;refine aH (.dH ch) (.panicked tJ) ⟨tJ,rfl,h2⟩ (λ_=>sT) ⟨h1,BR,Hj,by rw[Lu];exact Lv⟩ (λc cs' gC _=>?_);subst gC;exact⟨tJ,h2,.one (step_leave_panicked sT)⟩
  |iX=>
   cases Lv:P.funcs[fn]? with
   |none=>trivial
   |some Hj=>
    simp only;cases hr:sd P H tmps Hj.results.toList with
    |none=>trivial
    |some vs=>
     have⟨v',h1,h2⟩:=av7 hw hf.tr hr;have Lu:=hf.fn;have sT:cp.kind=.normal->cp.leaving P w (.returned v'):=λhk=>⟨BN,BR,hk,Hj,by rw[Lu];exact Lv,h1⟩
     refine aH (.gk (AM vs)) (.returned v') ⟨v',rfl,h2⟩ sT ⟨BN,BR,Hj,by rw[Lu];exact Lv,h1⟩ (λc cs' gC hk=>?_);subst gC;exact⟨v',h2,.one (step_leave_returned (sT hk))⟩
 |cons d ds=>
  have⟨d',qU,gU,hd,hdr⟩:=hf.dr;cases d with
  |oo r=>
   obtain⟨e,he,rfl⟩:=hd;simp only;split;next eH=>
    obtain⟨o,hg,l',rfl,Lz⟩:=hw.ew r _ e eH he;subst Lz;have ax:=(hw.lt r e he).1;have hk:=run_takeDeferred (P:=P) hg;have j5:=step_collected (cs:=cs) hcm gU rfl hk;refine⟨φ,w.putObj e.b (.deferred none),{cp with defers:=qU},cs,.one j5,?_,hu,xP.F7 hu,rfl,rfl,?_,cH.oN he _,?_,rfl⟩
    .exact tD.aK hf hdr BN ey
    .exact hw.put eH rfl he World.putObj_size (λb hb=>World.putObj_heap_other hb) ⟨_,World.putObj_heap_same ax,rfl⟩
    .exact cY.MB hw he World.putObj_size (λb hb=>World.putObj_heap_other hb)
   .trivial
  |uF f lu args=>
   obtain⟨uQ,args',rfl,hy,BG,mz⟩:=hd;simp only;cases t_:x9 P (.ba f [] lu) args with
   |none=>trivial
   |some aK=>
    have gC:=(O7 (m:=m) (base:=bs) (H:=H) (vf:=.func f #[] uQ) t_ ?_ mz).1 w
    .cases aK with
     |qc g l=>
      simp only[KM,qD];cases jH:kA P call H (some mode) (.qc g l)with
      |none=>trivial
      |some r=>
       have⟨atL,h1,h2⟩:=gC;have oX:(invoke (.fn f uQ) args').run P w=.ok (.enter g atL) w:=by
        have e1:(do let d<-Deferred.ofValue (.func f #[] uQ) args';invoke d.target d.args:Sem Next)=invoke (.fn f uQ) args':=by simp[Deferred.ofValue]
        rw[<-e1];exact h1
       have j5:=step_defer (cs:=cs) hcm gU rfl oX;have YC:=WT (cs:={cp with defers:=qU}::cs) hc jH h2 hw hb hm (up:=some mode) ⟨_,_,rfl,BN⟩ rfl;have⟨jN,w1,q1,q2,q3,c,cs',uA,u',DJ,e1,jG,Ai,vi,ub,qZ,uc,nV⟩:=YC;cases jG;have⟨ee,upp,H1⟩:=r;subst Ai;have qu:=hf.zk q2.1;have asc:=hdr.F8 q2.1;have Ym:∀(u2:pE) (PQ:FrameMode),MR jN u2 PQ->step P (lone DJ ({ {cp with defers:=qU}with mode:=u'}::cs) w1)=.next (lone { { {cp with defers:=qU}with mode:=u'}with mode:=PQ} cs w1)->
        kr P m bs φ H w ⟨fn,tmps,nt,todo,.uF f lu args::ds,mode,up,round⟩ cp cs (aam ⟨fn,tmps,nt,todo,.uF f lu args::ds,mode,up,round⟩ ds u2 H1):=by
        intro u2 PQ hm2 fJ;have ahg:u2≠.gj->kr P m bs φ H w ⟨fn,tmps,nt,todo,.uF f lu args::ds,mode,up,round⟩ cp cs (.go ⟨fn,tmps,nt,todo,ds,u2,up,round⟩ H1):=λcE=>
         ⟨jN,w1,{cp with defers:=qU,mode:=PQ},cs,.head j5 (qZ.trans (.one fJ)),tD.aK qu asc hm2 cE,hu.mono q2.1,xP.F7 hu,rfl,rfl,q1,q2,q3,rfl⟩
        cases u2 with
        |gj=>trivial
        |iX=>exact ahg (by simp)
        |ll cc=>exact ahg (by simp)
       cases ee with
       |gk v=>obtain⟨v',rfl,hv⟩:=ub;exact Ym _ _ (azw vi) (step_going_returned uc nV)
       |dH ch=>obtain⟨tJ,rfl,hv⟩:=ub;exact Ym _ _ (avL vi hv) (step_going_panicked nV)
     |_=>trivial
    .cases f<;>first
      |exact⟨#[],uQ,rfl,hy,rfl,BG⟩
      |(cases hy;done)
end
section
variable{P:Program}
theorem abo(cP:P.follows .mixedOrders=true){call}(hc:mf P call)(fr H φ w m bs cp cs)(hw:WR φ bs H w)(hb:hQ bs w)(hm:m<=H.bx)(hf:tD φ fr cp)(hu:ku φ fr.up cs):kr P m bs φ H w fr cp cs (jY P call fr H):=by
 have⟨fn,tmps,nt,todo,defers,mode,up,round⟩:=fr;cases mode with
 |gj=>obtain⟨b,a,Iq,rfl,h1,h2⟩:=hf;exact aBY cP hc rfl h1 hw hb hm hu h2
 |iX=>have⟨h1,h2⟩:=hf;exact alY hc (by simp) h1 h2 hw hb hm hu
 |ll c=>have⟨h1,h2⟩:=hf;exact alY hc (by simp) h1 h2 hw hb hm hu
theorem uL.after{m bs φ aQ H H' w w' cp jU cs oQ r up Jo round}(hs:Steps P (lone cp cs w) (lone jU oQ w'))(gC:xP up cs oQ)(Ai:Jo.isSome=up.isSome)(he:cH m φ H aQ H')(hk:cY bs w w')(jw:jU.fn=cp.fn)(h:uL P m bs aQ H' w' jU oQ r Jo round):uL P m bs φ H w cp cs r up round:=by
 have⟨jN,w1,h1,h2,h3,h4⟩:=h;refine⟨jN,w1,h1,he.tC h2,hk.so h3,?_⟩;cases up with
 |none=>
  cases Jo with
  |some u=>cases Ai
  |none=>
   have gC:oQ=cs:=gC;subst gC;cases round with
   |none=>have⟨c1,e1,g1,g2,g3,g4⟩:=h4;exact⟨c1,e1,g1,hs.trans g2,g3,g4.trans jw⟩
   |some l=>
    intro c cs' jG;have:=h4 c cs' jG;have⟨e,upr,H1⟩:=r;cases e with
    |gk v=>have⟨v',g1,g2⟩:=this;exact⟨v',g1,hs.trans g2⟩
    |dH ch=>have⟨v',g1,g2⟩:=this;exact⟨v',g1,hs.trans g2⟩
 |some u=>
  cases Jo with
  |none=>cases Ai
  |some u'=>obtain⟨c,cs',u2,rfl,rfl⟩:=gC;have⟨c1,zA,uA,u3,DJ,e1,g1,g2,g3,g4,g5,g6,g7⟩:=h4;cases g1;exact⟨c,cs',uA,u3,DJ,e1,rfl,g2,g3,g4,hs.trans g5,g6,g7⟩
theorem Sx(cP:P.follows .mixedOrders=true){K}(hK:Ou P K):∀n,gF P (run P K n)
 |0=>by intro fr H r h;cases h
 |n+1=>by
  intro fr H r h φ w m bs cp cs hw hb hm hf hu;have j5:=abo cP (call:=⟨run P K n,K⟩) ⟨Sx cP hK n,hK⟩ fr H φ w m bs cp cs hw hb hm hf hu;simp only[run]at h;cases hs:jY P ⟨run P K n,K⟩ fr H with
  |eI s=>rw[hs]at h;cases h
  |zl r'=>rw[hs]at h j5;cases h;exact j5
  |go fr' H'=>rw[hs]at h j5;have⟨aQ,w',jU,oQ,g1,g2,g3,g4,g5,g6,g7,g8,g9,KT⟩:=j5;have:=Sx cP hK n fr' H' r h aQ w' m bs jU oQ g7 (hb.Dm g9.1) (kF hm g8.2.1) g2 g3;rw[g5]at this;exact uL.after g1 g4 g6 g8 g9 KT this
theorem Z3:Ou P Mx:=by intro f args H v H' h;cases h
end
end
end Go.Ev
