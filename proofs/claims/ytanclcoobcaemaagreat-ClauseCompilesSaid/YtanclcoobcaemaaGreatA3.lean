/- Part of a proof of ClauseCompiles. -/
import Derived.Test.YtanclcoobcaemaaGreatA2
import Derived.RangeFuncLeaves
import Derived.RangeFuncRecord
set_option linter.all false
set_option linter.unusedSectionVars false
namespace Go.Ev
variable[Ro]
theorem HS(m i:Nat):oy m i=m.testBit i:=by
 unfold oy;rw[Nat.testBit];show Nat.beq ((m>>>i)&&& 1) 1=_;rw[Nat.and_comm 1];have h:(m>>>i)&&& 1=0∨(m>>>i)&&& 1=1:=by rw[Nat.and_one_is_mod];omega
 rcases h with h|h<;>rw[h]<;>rfl
theorem LU(a b i:Nat):oy (Nat.lor a b) i=(oy a i||oy b i):=by rw[HS,HS,HS];exact Nat.testBit_or a b i
theorem ab3(j i:Nat):oy (Nat.pow 2 j) i=decide (j=i):=by rw[HS];show(2^j).testBit i=_;rw[Nat.testBit_two_pow]
theorem ab4(i:Nat):oy 0 i=false:=by rw[HS,Nat.zero_testBit]
def kb(ms:LN)(i j:Nat):Prop:=∃m,ms[i]? =some m∧oy m j=true
theorem FD{ms:LN}{i j:Nat}:(ms[i]?).any (oy · j)=true↔kb ms i j:=by unfold kb;cases h:ms[i]? <;>simp
def rK(ms:LN):LN->LN->Prop
 |_,[]=>True
 |done,i::l=>(∀j,kb ms i j->j∈done)∧i∉done∧rK ms (i::done) l
def pB(ms:LN)(done:LN):Prop:=∀i∈done,∀j,kb ms i j->j∈done
theorem pB.Di{ms:LN}{done:LN}{i:Nat}(h:pB ms done)(hi:∀j,kb ms i j->j∈done):pB ms (i::done):=by
 intro k hk j hj;rcases List.mem_cons.1 hk with rfl|hk
 ·exact eE _ (hi j hj)
 ·exact eE _ (h k hk j hj)
theorem pB.nil(ms:LN):pB ms []:=by intro i hi;cases hi
theorem rK.Nx{ms:LN}:∀{l done:LN} {i:Nat},rK ms done l->i∈l->i∉done
 |[],_,_,_,h=>by cases h
 |x::l,done,i,⟨_,h2,h3⟩,h=>by
  rcases List.mem_cons.1 h with rfl|h
  ·exact h2
  ·exact fun hd=>h3.Nx h (eE _ hd)
def Fz(gK:LN)(s:Option Nat)(e:Edge):Option Nat:=
 match s with
 |none=>none
 |some s=>bif Region.binds .any e then(match gK[e.on]? with
   |some n=>some (Nat.lor (Nat.lor s (Nat.pow 2 e.on)) n)
   |none=>none)else some s
theorem adH(gK:LN):∀es:List Edge,es.foldl (Fz gK) none=none
 |[]=>rfl
 |e::es=>by simp only[ik];exact adH gK es
theorem VG(gK:LN):∀(es:List Edge) (s m:Nat),es.foldl (Fz gK) (some s)=some m->
 (∀e∈es,Region.binds .any e=true->e.on<gK.length)∧
 (∀j,oy m j=true->oy s j=true∨∃e∈es,Region.binds .any e=true∧(e.on=j∨∃n,gK[e.on]? =some n∧oy n j=true))
 |[],s,m,h=>by cases h;exact⟨(fun _ h=>by cases h),fun j hj=>.inl hj⟩
 |e::es,s,m,h=>by
  simp only[ik]at h;cases hb:Region.binds .any e with
  |false=>
   simp only[Fz,hb,cond_false]at h;obtain⟨h1,h2⟩:=VG gK es s m h;refine⟨fun e' r6 HT=>?_,fun j hj=>?_⟩
   ·rcases List.mem_cons.1 r6 with rfl|r6
    ·rw[hb]at HT;cases HT
    ·exact h1 e' r6 HT
   ·rcases h2 j hj with h|⟨e',r6,h⟩
    ·exact .inl h
    ·exact .inr ⟨e',eE _ r6,h⟩
  |true=>
   simp only[Fz,hb,cond_true]at h;cases ha:gK[e.on]? with
   |none=>rw[ha]at h;simp only at h;rw[adH]at h;cases h
   |some n=>
    rw[ha]at h;simp only at h;obtain⟨h1,h2⟩:=VG gK es _ m h;refine⟨fun e' r6 HT=>?_,fun j hj=>?_⟩
    ·rcases List.mem_cons.1 r6 with rfl|r6
     ·exact(List.getElem?_eq_some_iff.1 ha).1
     ·exact h1 e' r6 HT
    ·rcases h2 j hj with h|⟨e',r6,h⟩
     ·rw[LU,LU,ab3]at h;simp only[Bool.or_eq_true,iK]at h;rcases h with(h|h)|h
      ·exact .inl h
      ·exact .inr ⟨e,eP ..,hb,.inl h⟩
      ·exact .inr ⟨e,eP ..,hb,.inr ⟨n,ha,h⟩⟩
     ·exact .inr ⟨e',eE _ r6,h⟩
theorem adI:∀(l:List Oper) (gK ms:LN),Aq l gK=some ms->
 (∃t,ms=gK++t∧t.length=l.length)∧
 ∀i o,l[i]? =some o->(∀e∈o.after.toList,Region.binds .any e=true->e.on<gK.length+i)∧
  ∀j,kb ms (gK.length+i) j->∃e∈o.after.toList,Region.binds .any e=true∧(e.on=j∨kb ms e.on j)
 |[],gK,ms,h=>by cases h;exact⟨⟨[],by simp,rfl⟩,fun i o h=>by simp at h⟩
 |o::l,gK,ms,h=>by
  unfold Aq at h;change (match o.after.toList.foldl (Fz gK) (some 0)with|none=>none|some m=>Aq l (gK++[m]))=some ms at h;cases hm:o.after.toList.foldl (Fz gK) (some 0)with
  |none=>rw[hm]at h;cases h
  |some m=>
   rw[hm]at h;simp only at h;obtain⟨⟨t,rfl,ht⟩,h2⟩:=adI l (gK++[m]) ms h;obtain⟨g1,g2⟩:=VG gK _ 0 m hm;refine⟨⟨m::t,by simp,by simp[ht]⟩,fun i o' ug=>?_⟩;cases i with
   |zero=>
    cases ug;refine⟨by simpa using g1,fun j hj=>?_⟩;obtain⟨m',vH,hb⟩:=hj;have:m'=m:=by simp at vH;exact vH.symm
    subst this;rcases g2 j hb with h|⟨e,he,alf,h⟩
    ·rw[ab4]at h;cases h
    ·refine⟨e,he,alf,h.imp_right ?_⟩;rintro⟨n,hn,Uf⟩;have an:=(List.getElem?_eq_some_iff.1 hn).1;exact⟨n,by rw[iy,List.getElem?_append_left an];exact hn,Uf⟩
   |succ i=>
    have:=h2 i o' (by simpa using ug);have he:gK.length+(i+1)=(gK++[m]).length+i:=by simp;omega
    rw[he];exact this
theorem aeF:∀{l l':LN},l.Nodup->(∀x∈l,x∈l')->l.length<=l'.length
 |[],_,_,_=>Nat.zero_le _
 |a::l,l',hn,hs=>by
  obtain⟨h1,h2⟩:=List.nodup_cons.1 hn;have ha:=hs a (eP ..);have:=aeF (l':=l'.erase a) h2 (fun x hx=>by
   have c6:x≠a:=fun e=>h1 (e▸hx)
   exact(List.mem_erase_of_ne c6).2 (hs x (eE _ hx)))
  rw[List.length_erase_of_mem ha]at this;have hp:0<l'.length:=List.length_pos_of_mem ha;simp only[bR];omega
section
variable{ops:Array Oper}{ms:LN}
def Kg(ops:Array Oper)(jw:Array Bool)(done:LN):Prop:=
 jw.size=ops.size∧∀i,i<ops.size->jw[i]? =some (decide (i∈done))
theorem Kg.getD{jw:Array Bool}{done:LN}(h:Kg ops jw done){i:Nat}(hi:i<ops.size)(b:Bool):jw.getD i b=decide (i∈done):=by rw[Array.getD_eq_getD_getElem?,h.2 i hi];rfl
theorem abR(E0:Aq ops.toList []=some ms):∀(l5 t:Nat) (jw:Array Bool) (done:LN),Kg ops jw done->pB ms done->(∀i∈done,i<ops.size)->done.Nodup->done.length+l5=ops.size->
 rK ms done (Region.linearise.go .any ops l5 t jw [])∧(∀i,i<ops.size->i∈done∨i∈Region.linearise.go .any ops l5 t jw [])∧(∀i∈Region.linearise.go .any ops l5 t jw [],i<ops.size)
 |0,t,jw,done,hL,hc,an,hn,bH=>by
  simp only[Region.linearise.go,List.reverse_nil];refine⟨trivial,fun i hi=>.inl ?_,fun _ h=>by cases h⟩;refine Decidable.byContradiction fun r8=>?_
  have:=aeF (l:=i::done) (l':=List.range ops.size) (List.nodup_cons.2 ⟨r8,hn⟩) (fun x hx=>by
   rcases List.mem_cons.1 hx with rfl|hx
   ·exact List.mem_range.2 hi
   ·exact List.mem_range.2 (an x hx))
  simp at this;omega
 |l5+1,t,jw,done,hL,hc,an,hn,bH=>by
  have Ux:=(adI ops.toList [] ms E0).2;have acE:∀i,i∈Region.ready .any ops jw↔i<ops.size∧i∉done∧∃o,ops[i]? =some o∧∀e∈o.after.toList,Region.binds .any e=true->e.on∈done:=by
   intro i;simp only[Region.ready,List.mem_filter,List.mem_range];refine and_congr_right fun hi=>?_
   rw[hL.getD hi];have ho:ops[i]? =some ops[i]:=Array.getElem?_eq_getElem hi;rw[ho];simp only[Option.map_some,Option.getD_some,cy,Bool.not_eq_true',decide_eq_false_iff_not,nu,exists_eq_left'];refine and_congr_right fun _=>?_
   rw[←Array.all_toList,List.all_eq_true];refine forall_congr' fun e=>forall_congr' fun he=>?_
   cases hb:Region.binds .any e with
   |false=>simp
   |true=>have yB:=(Ux i ops[i] (by rw[Array.getElem?_toList];exact ho)).1 e he hb;simp only[cI,fD]at yB;rw[hL.getD (Nat.lt_trans yB hi)];simp
  simp only[Region.linearise.go];change rK ms done (match(Region.ready .any ops jw)[t%(Region.ready .any ops jw).length]? with
   |some i=>Region.linearise.go .any ops l5 (t /(Region.ready .any ops jw).length) (jw.setIfInBounds i true) [i]
   |none=>[].reverse)∧(∀i,i<ops.size->i∈done∨i∈(match(Region.ready .any ops jw)[t%(Region.ready .any ops jw).length]? with
   |some i=>Region.linearise.go .any ops l5 (t /(Region.ready .any ops jw).length) (jw.setIfInBounds i true) [i]
   |none=>[].reverse))∧(∀i∈(match(Region.ready .any ops jw)[t%(Region.ready .any ops jw).length]? with
   |some i=>Region.linearise.go .any ops l5 (t /(Region.ready .any ops jw).length) (jw.setIfInBounds i true) [i]
   |none=>[].reverse),i<ops.size)
  cases hi:(Region.ready .any ops jw)[t%(Region.ready .any ops jw).length]? with
  |none=>
   have uf:Region.ready .any ops jw=[]:=by
    cases hr:Region.ready .any ops jw with
    |nil=>rfl
    |cons x xs=>rw[hr]at hi;have an:t%(x::xs).length<(x::xs).length:=Nat.mod_lt _ (by simp);simp at hi;simp at an;omega
   refine⟨trivial,fun i hi=>.inl ?_,fun _ h=>by cases h⟩;induction i using Nat.strongRecOn with
   |ind i ih=>
    refine Decidable.byContradiction fun r8=>?_
    have ho:ops[i]? =some ops[i]:=Array.getElem?_eq_getElem hi;have:i∈Region.ready .any ops jw:=(acE i).2 ⟨hi,r8,_,ho,fun e he hb=>by have yB:=(Ux i ops[i] (by rw[Array.getElem?_toList];exact ho)).1 e he hb;simp only[cI,fD]at yB;exact ih e.on yB (Nat.lt_trans yB hi)⟩;rw[uf]at this;cases this
  |some i=>
   simp only[];rw[linearise_go_acc,List.reverse_singleton,List.singleton_append];obtain⟨TQ,EV,o,ho,hi3⟩:=(acE i).1 (List.mem_of_getElem? hi);have qW:∀j,kb ms i j->j∈done:=by
    intro j hj;have:=(Ux i o (by rw[Array.getElem?_toList];exact ho)).2 j (by simpa using hj);obtain⟨e,he,hb,h⟩:=this;have yB:=hi3 e he hb;rcases h with rfl|h
    ·exact yB
    ·exact hc _ yB _ h
   have hL':Kg ops (jw.setIfInBounds i true) (i::done):=by
    refine⟨by simp[hL.1],fun k hk=>?_⟩;rw[Array.getElem?_setIfInBounds];by_cases xb:i=k
    ·subst xb;simp[hL.1,TQ]
    ·rw[az xb,hL.2 k hk];have:k≠i:=fun e=>xb e.symm
     simp[this]
   obtain⟨h1,h2,h3⟩:=abR E0 l5 (t /(Region.ready .any ops jw).length) (jw.setIfInBounds i true) (i::done) hL' (hc.Di qW)
    (fun x hx=>by rcases List.mem_cons.1 hx with rfl|hx;exact TQ;exact an x hx) (List.nodup_cons.2 ⟨EV,hn⟩) (by simp;omega)
   refine⟨⟨qW,EV,h1⟩,fun k hk=>?_,fun k hk=>?_⟩
   ·rcases h2 k hk with h|h
    ·rcases List.mem_cons.1 h with rfl|h
     ·exact .inr (eP ..)
     ·exact .inl h
    ·exact .inr (eE _ h)
   ·rcases List.mem_cons.1 hk with rfl|hk
    ·exact TQ
    ·exact h3 k hk
theorem auM{P:Program}(hm:P.follows .mixedOrders=true)(E0:Aq ops.toList []=some ms)(t:Nat):
 rK ms [] (Region.schedule (P.follows .mixedOrders) ops t)∧(∀i,i<ops.size->i∈Region.schedule (P.follows .mixedOrders) ops t)∧(∀i∈Region.schedule (P.follows .mixedOrders) ops t,i<ops.size):=by
 have he:Region.schedule (P.follows .mixedOrders) ops t=Region.linearise.go .any ops ops.size t (Array.replicate ops.size false) []:=by simp[Region.schedule,hm,Region.linearise]
 rw[he];obtain⟨h1,h2,h3⟩:=abR E0 ops.size t (Array.replicate ops.size false) [] ⟨by simp,fun i hi=>by simp[hi]⟩ (pB.nil ms) (fun _ h=>by cases h) List.nodup_nil (by simp);exact⟨h1,fun i hi=>by simpa using h2 i hi,h3⟩
theorem ZS:∀(f ua:Nat) (left done l:LN),Bc ops ms f ua left=some l->(∀j,oy ua j=true->j∈done)->(∀i∈left,i∉done)->
 rK ms done l∧(∀i∈left,i∈l)∧∀i∈l,i∈left
 |0,ua,left,done,l,h,hg,hl=>by simp only[Bc]at h;obtain⟨h1,h2⟩:=di h;cases h2;rw[List.isEmpty_iff]at h1;subst h1;exact⟨trivial,(fun _ h=>by cases h),(fun _ h=>by cases h)⟩
 |f+1,ua,left,done,l,h,hg,hl=>by
  simp only[Bc]at h;have key:∀i,i∈left->(match ms[i]? with|some m=>Nat.beq (Nat.lor m ua) ua|none=>false)=true->
   (Bc ops ms f (Nat.lor ua (Nat.pow 2 i)) (left.filter fun j=> !Nat.beq i j)).map (i:: ·)=some l->
   rK ms done l∧(∀i∈left,i∈l)∧∀i∈l,i∈left:=by
   intro i hi hr h;cases hm:ms[i]? with
   |none=>rw[hm]at hr;cases hr
   |some m=>
    rw[hm]at hr;simp only at hr;have hr:=eI hr;cases ha:Bc ops ms f (Nat.lor ua (Nat.pow 2 i)) (left.filter fun j=> !Nat.beq i j)with
    |none=>rw[ha]at h;cases h
    |some l'=>
     rw[ha]at h;cases h;obtain⟨h1,h2,h3⟩:=ZS f _ _ (i::done) l' ha (fun j hj=>by
      rw[LU,ab3]at hj;simp only[Bool.or_eq_true,iK]at hj;rcases hj with h|h
      ·exact eE _ (hg j h)
      ·exact h▸eP ..) (fun k hk=>by
      obtain⟨kX,nZ⟩:=List.mem_filter.1 hk;intro hd;rcases List.mem_cons.1 hd with rfl|hd
      ·simp at nZ
      ·exact hl k kX hd)
     refine⟨⟨?_,hl i hi,h1⟩,?_,?_⟩
     ·rintro j ⟨m',vH,hb⟩;rw[hm]at vH;cases vH;refine hg j ?_;rw[←hr,LU,hb];rfl
     ·intro k hk;by_cases xb:k=i
      ·exact xb▸eP ..
      ·refine eE _ (h2 k (List.mem_filter.2 ⟨hk,?_⟩));simp only[Bool.not_eq_true'];exact Bool.eq_false_iff.2 fun h=>xb (eI h).symm
     ·intro k hk;rcases List.mem_cons.1 hk with rfl|hk
      ·exact hi
      ·exact(List.mem_filter.1 (h3 k hk)).1
  split at h
  ·obtain⟨h1,h2⟩:=di h;cases h2;rw[List.isEmpty_iff]at h1;subst h1;exact⟨trivial,(fun _ h=>by cases h),(fun _ h=>by cases h)⟩
  ·rename_i i hp;split at hp
   ·rename_i i' hf;cases hp;have:=List.find?_some hf;simp only[cy]at this;exact key i (List.mem_of_find?_eq_some hf) this.1 h
   ·exact key i (List.mem_of_find?_eq_some hp) (by have:=List.find?_some hp;exact this) h
theorem V4:∀(bN post:LN) (c:Nat) (last:Option Nat),uC ops ms last (bN++c::post)=true->
 (∃e∈bN,kb ms c e)∨((∀e,last=some e->kb ms c e)∧∀i∈bN,(ops[i]?).any (o9 ·.op)=true)
 |[],post,c,last,h=>by simp only[pS,uC,cy]at h;refine .inr ⟨?_,fun _ h=>by cases h⟩;rintro e rfl;exact FD.1 h.1
 |i::bN,post,c,last,h=>by
  simp only[mQ,uC,cy]at h;obtain⟨h1,h2⟩:=h;cases hl:(ops[i]?).any (o9 ·.op)with
  |true=>
   rw[hl]at h2;simp only[cond_true]at h2;rcases V4 bN post c last h2 with⟨e,he,h⟩|⟨h,h'⟩
   ·exact .inl ⟨e,eE _ he,h⟩
   ·refine .inr ⟨h,fun k hk=>?_⟩;rcases List.mem_cons.1 hk with rfl|hk
    ·exact hl
    ·exact h' k hk
  |false=>
   rw[hl]at h2;simp only[cond_false]at h2;rcases V4 bN post c (some i) h2 with⟨e,he,h⟩|⟨h,h'⟩
   ·exact .inl ⟨e,eE _ he,h⟩
   ·exact .inl ⟨i,eP ..,h i rfl⟩
theorem V5:∀(bN post:LN) (last:Option Nat),uC ops ms last (bN++post)=true->∃amJ,uC ops ms amJ post=true
 |[],post,last,h=>⟨last,h⟩
 |i::bN,post,last,h=>by simp only[mQ,uC,cy]at h;exact V5 bN post _ h.2
def jl(ops:Array Oper)(j:Nat):Option Tmp:=(ops[j]?).bind (·.dst)
theorem ad5:∀{l:List Oper} {i j:Nat} {o o':Oper} {t:Tmp},vV (l.filterMap (·.dst))=true->l[i]? =some o->l[j]? =some o'->o.dst=some t->o'.dst=some t->i=j
 |[],i,j,o,o',t,_,h,_,_,_=>by simp at h
 |x::l,i,j,o,o',t,hn,hi,hj,ho,ug=>by
  have EZ:∀{k:Nat} {o:Oper},l[k]? =some o->o.dst=some t->t∈l.filterMap (·.dst):=fun hk hd=>List.mem_filterMap.2 ⟨_,List.mem_of_getElem? hk,hd⟩
  have iH:x.dst=some t->t∈l.filterMap (·.dst)->False:=by intro hd hm;rw[List.filterMap_cons,hd]at hn;simp only[vV,cy,Bool.not_eq_true']at hn;have:=hn.1;rw[List.any_eq_false]at this;exact this t hm (by simp)
  have htl:vV (l.filterMap (·.dst))=true:=by
   rw[List.filterMap_cons]at hn;cases hd:x.dst with
   |none=>rw[hd]at hn;exact hn
   |some d=>rw[hd]at hn;simp only[vV,cy]at hn;exact hn.2
  cases i with
  |zero=>
   cases hi;cases j with
   |zero=>rfl
   |succ j=>exact(iH ho (EZ (by simpa using hj) ug)).elim
  |succ i=>
   cases j with
   |zero=>cases hj;exact(iH ug (EZ (by simpa using hi) ho)).elim
   |succ j=>exact congrArg (· +1) (ad5 htl (by simpa using hi) (by simpa using hj) ho ug)
structure uZ(ops:Array Oper)(ms:LN):Prop where
 uU:∀i j t,jl ops i=some t->jl ops j=some t->i=j
 Wi:∀i j o t,ops[i]? =some o->t∈JC o->jl ops j=some t->i=j∨kb ms i j∨kb ms j i
 guard:∀i o g b,ops[i]? =some o->o.guard=some (g,b)->kb ms i g
theorem ael:∀{l:List (Oper×Nat)},IH ms l=true->∀o i g b,(o,i)∈l->o.guard=some (g,b)->kb ms i g
 |[],_,o,i,g,b,h,_=>by cases h
 |(o',i')::l,hk,o,i,g,b,h,hg=>by
  simp only[IH,cy]at hk;rcases List.mem_cons.1 h with he|h
  ·cases he;rw[hg]at hk;exact FD.1 hk.1
  ·exact ael hk.2 o i g b h hg
theorem Ni{i:Nat}{o:Oper}(h:ops[i]? =some o):(o,i)∈ops.toList.zipIdx:=by rw[List.mem_zipIdx_iff_getElem?];simpa using h
theorem He{j:Nat}{t:Tmp}(h:jl ops j=some t):∃o,ops[j]? =some o∧o.dst=some t:=by
 unfold jl at h;cases ho:ops[j]? with
 |none=>rw[ho]at h;cases h
 |some o=>rw[ho]at h;exact⟨o,rfl,h⟩
theorem uZ.of(h:V7 ops ms=true)(hg:IH ms ops.toList.zipIdx=true):uZ ops ms:=by
 unfold V7 at h;simp only[cy]at h;obtain⟨h1,h2⟩:=h;rw[List.all_eq_true]at h2;refine⟨?_,?_,?_⟩
 ·intro i j t hi hj;obtain⟨o,ho,hd⟩:=He hi;obtain⟨o',ug,pK⟩:=He hj;exact ad5 h1 (by rw[Array.getElem?_toList];exact ho) (by rw[Array.getElem?_toList];exact ug) hd pK
 ·intro i j o t ho ht hj;obtain⟨o',ug,pK⟩:=He hj;have h3:=h2 _ (Ni ho);simp only[List.all_eq_true]at h3;have h4:=h3 _ (Ni ug);simp only[pK,Bool.or_eq_true,Bool.not_eq_true',FD]at h4;rcases h4 with((h|h)|h)|h
  ·exact .inl (eI h)
  ·rw[List.any_eq_false]at h;exact(h t (List.mem_append_left _ ht) (by simp)).elim
  ·exact .inr (.inl h)
  ·exact .inr (.inr h)
 ·intro i o g b ho H5;exact ael hg o i g b (Ni ho) H5
theorem aox{pl:Qo}(h:FM ops=some pl):
 Aq ops.toList []=some pl.ms∧rK pl.ms [] pl.A4∧(∀i,i<ops.size↔i∈pl.A4)∧uC ops pl.ms none pl.A4=true∧uZ ops pl.ms:=by
 unfold FM at h;split at h
 ·cases h
 ·rename_i ms E0;split at h
  ·cases h
  ·rename_i l hl;obtain⟨h1,h2⟩:=di h;cases h2;simp only[cy]at h1;obtain⟨g1,g2,g3⟩:=ZS ops.size 0 (List.range ops.size) [] l hl (fun j hj=>by rw[ab4]at hj;cases hj) (fun _ _ h=>by cases h);exact⟨E0,g1,fun i=>⟨fun hi=>g2 i (List.mem_range.2 hi),fun hi=>List.mem_range.1 (g3 i hi)⟩,h1.1.1,uZ.of h1.1.2 h1.2⟩
theorem adf{i:Nat}{t:Tmp}:Vs ops ms i t=true↔∃j,jl ops j=some t∧¬kb ms i j:=by
 unfold Vs;rw[List.any_eq_true];constructor
 ·rintro⟨⟨o,j⟩,hm,h⟩;rw[List.mem_zipIdx_iff_getElem?]at hm;simp only[cy,Bool.not_eq_true']at h;refine⟨j,?_,fun hn=>?_⟩
  ·have ho:ops[j]? =some o:=by simpa using hm
   unfold jl;rw[ho];cases hd:o.dst with
   |none=>rw[hd]at h;simp at h
   |some d=>rw[hd]at h;simp only at h;show o.dst=some t;rw[hd];exact congrArg some (eI h.1)
  ·rw[←FD]at hn;rw[hn]at h;exact absurd h.2 (by simp)
 ·rintro⟨j,hj,hn⟩;obtain⟨o,ho,hd⟩:=He hj;refine⟨(o,j),Ni ho,?_⟩;simp only[hd,cy,Bool.not_eq_true'];exact⟨by simp,Bool.eq_false_iff.2 fun h=>hn (FD.1 h)⟩
end
section
variable{P:Program}{ρ:Operand->Option AV}{H H':AH}
theorem aah(hm:∀id ob,H.bD id=some ob->H'.bD id=some ob){id:Nat}{vs:LV}(h:H.oo id=some vs):H'.oo id=some vs:=by
 unfold AH.oo at h⊢;split at h
 ·rename_i ho;rw[hm _ _ ho];exact h
 ·rename_i ho;rw[hm _ _ ho];exact h
 ·rename_i ho;rw[hm _ _ ho];exact h
 ·rename_i ho;rw[hm _ _ ho];exact h
 ·cases h
theorem aio(hm:∀id ob,H.bD id=some ob->H'.bD id=some ob){m:AV}{es:List (AV×AV)}(h:DJ H m=some es):wQ H' m=none∧DJ H' m=some es:=by
 unfold DJ at h⊢;unfold wQ;split at h
 ·split at h
  ·rename_i ho;simp only[hm _ _ ho];exact⟨trivial,h⟩
  ·cases h
 ·cases h
theorem ajK(hm:∀id ob,H.bD id=some ob->H'.bD id=some ob){m:AV}{es:List (AV×AV×Nat)}(h:wQ H m=some es):wQ H' m=some es:=by
 unfold wQ at h⊢;cases m<;>simp only at h⊢<;>try (cases h;done)
 case nF=>exact h
 case aS id=>
  split at h
  ·rename_i ho;rw[hm _ _ ho];exact h
  ·cases h
theorem amX(hm:∀id ob,H.bD id=some ob->H'.bD id=some ob){x:AV}{n:Nat}(h:Cj H x=some n):Cj H' x=some n:=by
 unfold Cj at h⊢;cases x<;>simp only at h⊢<;>try (first|exact h|cases h;done)
 case aS id=>
  split at h
  ·rename_i ho;rw[hm _ _ ho];exact h
  ·cases h
theorem avm{op:Op}(h:MP op=true)(H H':AH):gg P ρ H op=gg P ρ H' op:=by cases op<;>first|rfl|(simp[MP]at h)
theorem ao4(hm:∀id ob,H.bD id=some ob->H'.bD id=some ob){op:Op}{v:AV}(h:gg P ρ H op=some v):gg P ρ H' op=some v:=by
 cases op<;>simp only[gg]at h⊢<;>try (first|exact h|cases h;done)
 case load t a=>
  unfold Iw at h⊢;split at h
  ·unfold se at h⊢;split at h
   ·cases h
   ·rename_i hc;rw[aah hm hc];exact h
  ·exact h
  ·cases h
 case slice t x lo hi mx=>
  unfold yJ at h⊢;split at h
  ·split at h
   ·exact h
   ·exact h
   ·exact h
   ·exact h
   ·exact h
   ·split at h
    ·rename_i hs hc;simp only[hs,aah hm hc];exact h
    ·cases h
   ·cases h
  ·cases h
 case lookup t x k ok=>
  unfold Fq at h⊢;split at h
  ·unfold Fs at h⊢;obtain⟨h1,h⟩:=di h;rw[h1];simp only[cond_true];split at h
   ·rename_i he;rw[ajK hm he];exact h
   ·split at h
    ·rename_i he;obtain⟨e1,e2⟩:=aio hm he;rw[e1,e2];exact h
    ·cases h
  ·cases h
 case call c=>
  obtain⟨callee,args,argTypes⟩:=c;cases callee<;>simp only at h⊢<;>try (cases h;done)
  unfold Vb at h⊢;split at h
  ·unfold MZ at h⊢;split at h
   ·unfold Vg at h⊢;split at h
    ·exact h
    ·obtain⟨h1,h⟩:=di h;rw[h1];simp only[cond_true];cases hl:Cj H _ with
     |none=>rw[hl]at h;cases h
     |some n=>rw[amX hm hl];rw[hl]at h;exact h
    ·cases h
   ·exact h
   ·exact h
   ·exact h
   ·cases h
  ·cases h
end
mutual
theorem Rr:∀{a b:AV},mZ a b=true->a=b
 |.aA a,b,h=>by cases b<;>simp[mZ]at h;rw[h]
 |.cM j a,b,h=>by cases b<;>simp[mZ]at h;rw[h.1,h.2]
 |.aa a,b,h=>by
  cases b<;>simp only[mZ]at h<;>try (cases h;done)
  rw[lA,iK]at h;rw[h]
 |.ad a o,b,h=>by
  cases b<;>simp only[mZ,cy]at h<;>try (cases h;done)
  rw[eI h.1,eI h.2]
 |.pd,b,h=>by cases b<;>first|rfl|(simp only[mZ]at h;cases h)
 |.bB a1 a2 a3 a4 a5 a6,b,h=>by
  cases b<;>simp only[mZ,cy,beq_iff_eq]at h<;>try (cases h;done)
  obtain⟨⟨⟨⟨⟨h1,h2⟩,h3⟩,h4⟩,h5⟩,h6⟩:=h;rw[eI h1,eI h2,eI h3,eI h4,eI h5,h6]
 |.bg,b,h=>by cases b<;>first|rfl|(simp only[mZ]at h;cases h)
 |.aS a,b,h=>by
  cases b<;>simp only[mZ]at h<;>try (cases h;done)
  rw[eI h]
 |.nF,b,h=>by cases b<;>first|rfl|(simp only[mZ]at h;cases h)
 |.b9 f l c,b,h=>by
  cases b<;>simp only[mZ,cy,iK]at h<;>try (cases h;done)
  obtain⟨⟨h1,h2⟩,h3⟩:=h;rw[h1,GV h2,GV h3]
 |.gJ a,b,h=>by
  cases b<;>simp only[mZ]at h<;>try (cases h;done)
  rw[eI h]
 |.qA,b,h=>by cases b<;>first|rfl|(simp only[mZ]at h;cases h)
 |.e_ t v,b,h=>by
  cases b<;>simp only[mZ,cy]at h<;>try (cases h;done)
  rw[eI h.1,Rr h.2]
 |.my,b,h=>by cases b<;>first|rfl|(simp only[mZ]at h;cases h)
 |.aj l,b,h=>by
  cases b<;>simp only[mZ]at h<;>try (cases h;done)
  rw[GV h]
 |.aO l,b,h=>by
  cases b<;>simp only[mZ]at h<;>try (cases h;done)
  rw[GV h]
 |.vo a,b,h=>by
  cases b<;>simp only[mZ]at h<;>try (cases h;done)
  rw[eI h]
theorem GV:∀{l m:LV},yc l m=true->l=m
 |[],[],_=>rfl
 |[],_::_,h=>by simp[yc]at h
 |_::_,[],h=>by simp[yc]at h
 |a::l,b::m,h=>by simp only[yc,cy]at h;rw[Rr h.1,GV h.2]
end
theorem auJ{a b:AV}(h:I6 a b=true):a=b:=by
 unfold I6 at h;rcases(Bool.or_eq_true _ _).mp h with h|h
 ·exact Rr h
 ·exact @dW _ (Classical.propDecidable _) h
section
variable{P:Program}{b:Frame}{a:Act}{k:List Item}{cs:List Frame}{w:World}{ops:Array Oper}
theorem y5{o:Oper}(ro:Option Nat)(ρ:Operand->Value)(h:∀c,o.op≠.defer c):o.semAt ro ρ=execOp ρ o:=Oper.semAt_eq ro ρ o h
theorem afc{op:Op}(h:n7 op=true)(c:Call):op≠.defer c:=by rintro rfl;cases h
theorem adE{ρ:Operand->Option AV}{op:Op}{r:bc×(Nat->AV)}(h:n8 P ρ op=some r)(c:Call):op≠.defer c:=by rintro rfl;cases h
theorem Ek{i:Nat}{rest:LN}{o:Oper}(ho:ops[i]? =some o)(v:Value):
 (b.atR a (.inRegion ops (i::rest)::k)).finish v=b.atR (a.put o.dst v) (.inRegion ops rest::k):=by
 rw[Frame.finish_atR,ho];rfl
theorem Jj{i:Nat}{rest:LN}{o:Oper}(ho:ops[i]? =some o)(hw:Region.wanted o (yielded ops a.tmps)=true){v:Value}{w':World}
 (hr:(o.semAt b.roundOf a.eval).run P w=.ok (.value v) w'∨((o.semAt b.roundOf a.eval).run P w=.ok .skip w'∧v=undef)):
 step P (lone (b.atR a (.inRegion ops (i::rest)::k)) cs w)=.next (lone (b.atR (a.put o.dst v) (.inRegion ops rest::k)) cs w'):=by
 have hg:=stepGR_op (P:=P) (b:=b) (k:=k) (cs:=cs) (w:=w) (rest:=rest) ho hw;refine step_lone_go ?_;rw[hg,←Ek ho];rcases hr with hr|⟨hr,rfl⟩<;>simp[stepG.apply,hr]
theorem avi{i:Nat}{rest:LN}{o:Oper}(ho:ops[i]? =some o)(hw:Region.wanted o (yielded ops a.tmps)=true){f:FuncId}{args:Array Value}{w':World}
 (hr:(o.semAt b.roundOf a.eval).run P w=.ok (.enter f args) w'):
 step P (lone (b.atR a (.inRegion ops (i::rest)::k)) cs w)=.next (lone (Frame.enter P f args .normal) (b.atR a (.inRegion ops (i::rest)::k)::cs) w'):=by
 have hg:=stepGR_op (P:=P) (b:=b) (k:=k) (cs:=cs) (w:=w) (rest:=rest) ho hw;exact step_lone_go (by rw[hg];simp[stepG.apply,hr,Frame.atR])
theorem avk{i:Nat}{rest:LN}{o:Oper}(ho:ops[i]? =some o)(hw:Region.wanted o (yielded ops a.tmps)=true){l f:Nat}{tmps:Array Value}{assign body:Code}{w':World}
 (hr:(o.semAt b.roundOf a.eval).run P w=.ok (.round l f tmps assign body) w'):
 step P (lone (b.atR a (.inRegion ops (i::rest)::k)) cs w)=.next (lone (Frame.round l f tmps assign body .normal) (b.atR a (.inRegion ops (i::rest)::k)::cs) w'):=by
 have hg:=stepGR_op (P:=P) (b:=b) (k:=k) (cs:=cs) (w:=w) (rest:=rest) ho hw;exact step_lone_go (by rw[hg];simp[stepG.apply,hr,Frame.atR])
theorem avj{i:Nat}{rest:LN}{o:Oper}(ho:ops[i]? =some o)(hw:Region.wanted o (yielded ops a.tmps)=true){v:Value}{w':World}
 (hr:(o.semAt b.roundOf a.eval).run P w=.halt (.panic v) w'):
 step P (lone (b.atR a (.inRegion ops (i::rest)::k)) cs w)=.next (lone ((b.atR a (.inRegion ops (i::rest)::k)).raise [{v,recovered:=false}]) cs w'):=by
 have hg:=stepGR_op (P:=P) (b:=b) (k:=k) (cs:=cs) (w:=w) (rest:=rest) ho hw;refine step_lone_go ?_;rw[hg];simp[stepG.apply,hr]
theorem avh{i:Nat}{rest:LN}{o:Oper}(ho:ops[i]? =some o)(hw:Region.wanted o (yielded ops a.tmps)=true){d:Deferred}{w':World}
 (hr:(o.semAt b.roundOf a.eval).run P w=.ok (.defer d) w'):
 step P (lone (b.atR a (.inRegion ops (i::rest)::k)) cs w)=.next (lone (b.atR ({a with defers:=d::a.defers}.put o.dst undef) (.inRegion ops rest::k)) cs w'):=by
 have hg:=stepGR_op (P:=P) (b:=b) (k:=k) (cs:=cs) (w:=w) (rest:=rest) ho hw;refine step_lone_go ?_;have:({b.atR a (.inRegion ops (i::rest)::k)with defers:=d::a.defers}:Frame).finish undef=
  b.atR ({a with defers:=d::a.defers}.put o.dst undef) (.inRegion ops rest::k):=by
  have:=Frame.finish_atR b {a with defers:=d::a.defers} ops i rest k undef;rw[ho]at this;exact this
 rw[hg];simp only[stepG.apply,Sem.runT_eq,hr,GStep.bare_after];exact congrArg (fun fr=>GStep.go {frame:=fr,callers:=cs,status:=.running,dying:=none} w') this
end
theorem TR.put{φ:bu}{t t':Tr AV}{nt:Nat}{a:Act}{dst:Option Tmp}{x:AV}{v:Value}(h:TR φ t nt a.tmps)(hs:mT nt t dst x=some t')(hv:VR φ x v):TR φ t' nt (a.put dst v).tmps:=by
 cases dst with
 |none=>cases hs;exact h
 |some d=>
  simp only[mT]at hs;obtain⟨h1,h2⟩:=di hs;cases h2;have hd:d<nt:=Nat.le_of_ble_eq_true h1;refine⟨by show(a.tmps.setIfInBounds d v).size=nt;rw[Array.size_setIfInBounds];exact h.1,fun i x' hx=>?_⟩;show∃v',(a.tmps.setIfInBounds d v)[i]? =some v'∧_;rw[Array.getElem?_setIfInBounds];by_cases hi:d=i
  ·subst hi;rw[Tr.lB]at hx;simp at hx;subst hx;rw[aN rfl,aN (by rw[h.1];exact hd)];exact⟨v,rfl,hv⟩
  ·rw[Tr.lB]at hx;rw[az hi];exact h.2 i x' (by simpa[hi,Ne.symm hi]using hx)
theorem TR.oM{φ:bu}{t:Tr AV}{nt:Nat}{a:Act}(h:TR φ t nt a.tmps)(l:List Operand):mX φ (iD t) a.eval l:=by
 intro x _ v hx;cases x with
 |tmp i=>obtain⟨v',h1,h2⟩:=h.2 i v hx;show VR φ v (a.tmps.getD i undef);rw[Array.getD_eq_getD_getElem?,h1];exact h2
 |const c=>exact RK hx
 |global g=>cases hx;rfl
 |func f=>cases hx;exact⟨#[],#[],rfl,rfl,lX,lX⟩
def CR(φ:bu):rH->List PanicEntry->Prop
 |[],l=>l=[]
 |(v,r)::c,l=>∃v' l',l={v:=v',recovered:=r}::l'∧VR φ v v'∧CR φ c l'
def Dz(Dc Da:LN)(j:Nat):Prop:=j∈Da∧j∉Dc
def Q0(ops:Array Oper)(bt cur:Tr AV)(Dc Da:LN)(t:Tmp)(a:AV):Prop:=
 (∃j,Dz Dc Da j∧jl ops j=some t∧bt.cb t=some a)∨((∀j,Dz Dc Da j->jl ops j≠some t)∧cur.cb t=some a)
def Gt(ops:Array Oper)(ms:LN)(bt cur:Tr AV)(j:Nat)(o:Oper)(ρ:Operand->Option AV):Prop:=
 ∀x∈o.op.operands.toList,ρ x=DH (vi ops ms bt cur j) x
def Dy(P:Program)(ops:Array Oper)(ms:LN)(bt cur:Tr AV)(H:AH)(φ:bu)(m:Nat)(iv:Nat->Option Nat)(j:Nat)(o:Oper)(b:Bool)(v:AV):Prop:=
 (b=false∧v=.lU)∨
 (b=true∧n7 o.op=true∧∃ρ,Gt ops ms bt cur j o ρ∧gg P ρ H o.op=some v)∨
 (b=true∧∃ρ ob g id,Gt ops ms bt cur j o ρ∧n8 P ρ o.op=some (ob,g)∧v=g id∧iv j=some id∧m<=id∧φ id=none∧H.bD id=some ob)
structure pC(P:Program)(ops:Array Oper)(ms:LN)(bt:Tr AV)(nt:Nat)(bs:ez)(m:Nat)(iv:Nat->Option Nat)(Dc Da:LN)(cur:Tr AV)(H:AH)(φ:bu)(w:World)(tmps:Array Value):Prop where
 wr:WR φ bs H w
 hb:gQ bs w
 hm:m<=H.bW
 A3:tmps.size=nt
 tr:∀t a,Q0 ops bt cur Dc Da t a->∃v,tmps[t]? =some v∧VR φ a v
 un:∀t,(∀j∈Da,jl ops j≠some t)->cur.cb t=bt.cb t
 z9:∀j id,iv j=some id->id<H.bW
 inj:∀j j' id,iv j=some id->iv j'=some id->j=j'
 NP:∀j,Dz Dc Da j->∃o b v,ops[j]? =some o∧kL ops o cur.cb=some b∧(∀d,o.dst=some d->d<nt∧cur.cb d=some v)∧Dy P ops ms bt cur H φ m iv j o b v
section
variable{P:Program}{call:iO}{ops:Array Oper}{ms:LN}{bt cur jP:Tr AV}{nt:Nat}{bs:ez}{m:Nat}{iv:Nat->Option Nat}{Dc Da:LN}{H H':AH}{φ bf:bu}{w:World}{tmps:Array Value}
theorem Le{i:Nat}{t:Tmp}(h:∃j,jl ops j=some t∧¬kb ms i j):vi ops ms bt cur i t=bt.cb t:=by unfold vi;rw[adf.2 h];rfl
theorem Lf{i:Nat}{t:Tmp}(h:¬∃j,jl ops j=some t∧¬kb ms i j):vi ops ms bt cur i t=cur.cb t:=by unfold vi;rw[Bool.eq_false_iff.2 fun hl=>h (adf.1 hl)];rfl
theorem aa4{j i:Nat}{s:Option Tmp}(BP:∀d,s=some d->jl ops i=some d)(hi:i∉Da)(hn:∀k,kb ms j k->k∈Da)
 (hk:∀t,s≠some t->jP.cb t=cur.cb t):vi ops ms bt jP j=vi ops ms bt cur j:=by
 funext t;by_cases hl:∃k,jl ops k=some t∧¬kb ms j k
 ·rw[Le hl,Le hl]
 ·rw[Lf hl,Lf hl];refine hk t fun hs=>?_
  have hd:=BP t hs;exact hi (hn i (ml fun h=>hl ⟨i,hd,h⟩))
theorem XS(iG:uZ ops ms){j i:Nat}{o:Oper}{s:Option Tmp}(ho:ops[j]? =some o)(BP:∀d,s=some d->jl ops i=some d)(hi:i∉Da)(hn:∀k,kb ms j k->k∈Da)
 (hk:∀t,s≠some t->jP.cb t=cur.cb t):kL ops o jP.cb=kL ops o cur.cb:=by
 unfold kL;split
 ·rfl
 ·rename_i g pw hg;have H5:=hn g (iG.guard j o g pw ho hg);split
  ·rfl
  ·rename_i d hd;have:jP.cb d=cur.cb d:=hk d fun hs=>by have:=iG.uU g i d hd (BP d hs);subst this;exact hi H5
   rw[this]
theorem N9{o:Oper}{i:Nat}{v:AV}(ho:ops[i]? =some o)(h:mT nt cur o.dst v=some jP):
 (∀d,o.dst=some d->d<nt∧jP.cb d=some v∧jl ops i=some d)∧(∀t,jl ops i≠some t->jP.cb t=cur.cb t):=by
 have EP:jl ops i=o.dst:=by unfold jl;rw[ho];rfl
 rw[EP];cases hd:o.dst with
 |none=>rw[hd]at h;cases h;exact⟨(fun d h=>by cases h),fun _ _=>rfl⟩
 |some d=>
  rw[hd]at h;simp only[mT]at h;obtain⟨h1,h2⟩:=di h;cases h2;refine⟨?_,?_⟩
  ·intro d' pK;cases pK;exact⟨Nat.le_of_ble_eq_true h1,by rw[Tr.lB];simp,rfl⟩
  ·intro t ht;rw[Tr.lB,az];intro e;exact ht (by rw[e])
theorem Dy.ac2{j i:Nat}{o:Oper}{s:Option Tmp}{b:Bool}{v:AV}(h:Dy P ops ms bt cur H φ m iv j o b v)(BP:∀d,s=some d->jl ops i=some d)(hi:i∉Da)(hn:∀k,kb ms j k->k∈Da)
 (hk:∀t,s≠some t->jP.cb t=cur.cb t):Dy P ops ms bt jP H φ m iv j o b v:=by
 unfold Dy Gt at h⊢;rw[aa4 BP hi hn hk];exact h
theorem pC.ZC(iG:uZ ops ms)(h:pC P ops ms bt nt bs m iv Dc Da cur H φ w tmps){i:Nat}{o:Oper}(ho:ops[i]? =some o)(hi:i∉Da)(qW:∀j,kb ms i j->j∈Da)
 (jC:pB ms Da) (qZ:∀j∈Dc,j∈Da) (hl:o9 o.op=true∨kL ops o cur.cb=some false) (hs:pc P call ops ms bt Da i nt cur H o=.go jP H'):
 ∃uk,pC P ops ms bt nt bs m uk Dc (i::Da) jP H' φ w tmps∧da m φ H φ H':=by
 have alC:i∉Dc:=fun hd=>hi (qZ i hd)
 have al5:∀t∈JC o,cur.cb t=vi ops ms bt cur i t:=by
  intro t ht;by_cases hl:∃k,jl ops k=some t∧¬kb ms i k
  ·rw[Le hl];obtain⟨k,hk,H9⟩:=hl;have alG:k∉Da:=by
    intro s_;rcases iG.Wi i k o t ho ht hk with rfl|hh|hh
    ·exact hi s_
    ·exact H9 hh
    ·exact hi (jC k s_ i hh)
   exact h.un t fun j hj hd=>by have:=iG.uU j k t hd hk;subst this;exact alG hj
  ·rw[Lf hl]
 have yo:∀RO,(∀t,jl ops i≠some t->RO.cb t=cur.cb t)->Gt ops ms bt RO i o (iD cur):=by
  intro RO hk x hx;rw[aa4 (fun d h=>h) hi qW hk];cases x with
  |tmp t=>exact al5 t (List.mem_filterMap.2 ⟨.tmp t,hx,rfl⟩)
  |const c=>rfl
  |global g=>rfl
  |func f=>rfl
 have key:∀(v:AV) (H1:AH) (uk:Nat->Option Nat) (b:Bool),mT nt cur o.dst v=some jP->kL ops o cur.cb=some b->WR φ bs H1 w->H.bW<=H1.bW->
  (∀j id,uk j=some id->id<H1.bW)->(∀j j' id,uk j=some id->uk j'=some id->j=j')->(∀j,j≠i->uk j=iv j)->
  (∀id ob,H.bD id=some ob->H1.bD id=some ob)->
  Dy P ops ms bt jP H1 φ m uk i o b v->pC P ops ms bt nt bs m uk Dc (i::Da) jP H1 φ w tmps:=by
  intro v H1 uk b kC pM xm xd TW alD zX acw qY;obtain⟨g1,g2⟩:=N9 ho kC;refine⟨xm,h.hb,Nat.le_trans h.hm xd,h.A3,?_,?_,TW,alD,?_⟩
  ·intro t a hv;refine h.tr t a ?_;rcases hv with⟨j,⟨s8,Mf⟩,hd,hb⟩|⟨iH,hc⟩
   ·rcases List.mem_cons.1 s8 with rfl|s8
    ·refine .inr ⟨fun k hk s_=>?_,?_⟩
     ·have:=iG.uU k j t s_ hd;subst this;exact hi hk.1
     ·rw[h.un t fun k hk s_=>?_]
      ·exact hb
      ·have:=iG.uU k j t s_ hd;subst this;exact hi hk
    ·exact .inl ⟨j,⟨s8,Mf⟩,hd,hb⟩
   ·refine .inr ⟨fun k hk=>iH k ⟨eE _ hk.1,hk.2⟩,?_⟩;rw[←g2 t (iH i ⟨eP ..,alC⟩)];exact hc
  ·intro t ht;rw[g2 t (ht i (eP ..))];exact h.un t fun j hj=>ht j (eE _ hj)
  ·intro j ⟨s8,Mf⟩;rcases List.mem_cons.1 s8 with rfl|s8
   ·exact⟨o,b,v,ho,by rw[XS iG ho (fun d h=>h) hi qW g2];exact pM,fun d hd=>⟨(g1 d hd).1,(g1 d hd).2.1⟩,qY⟩
   ·have hji:j≠i:=fun e=>hi (e▸s8)
    obtain⟨o',b',v',p1,p2,p3,p4⟩:=h.NP j ⟨s8,Mf⟩;refine⟨o',b',v',p1,by rw[XS iG p1 (fun d h=>h) hi (jC j s8) g2];exact p2,fun d hd=>⟨(p3 d hd).1,?_⟩,?_⟩
    ·rw[g2 d fun pK=>?_]
     ·exact(p3 d hd).2
     ·have:jl ops j=some d:=by unfold jl;rw[p1];exact hd
      exact hji (iG.uU j i d this pK)
    ·have p5:=p4.ac2 (jP:=jP) (fun d h=>h) hi (jC j s8) g2;rcases p5 with p|⟨p,q,ρ,e,r⟩|⟨p,ρ,ob,g,id,e,q1,q2,q3,q4,q5,q6⟩
     ·exact .inl p
     ·exact .inr (.inl ⟨p,q,ρ,e,ao4 acw r⟩)
     ·exact .inr (.inr ⟨p,ρ,ob,g,id,e,q1,q2,by rw[zX j hji];exact q3,q4,q5,acw _ _ q6⟩)
 unfold pc at hs;split at hs
 ·cases hs
 ·rename_i b pM;cases b with
  |false=>
   simp only[cond_false,rq]at hs;split at hs
   ·rename_i t kC;cases hs;exact⟨iv,key .lU H iv false kC pM h.wr (eh _) h.z9 h.inj (fun _ _=>rfl) (fun _ _ h=>h) (.inl ⟨rfl,rfl⟩),da.j9 _ _ _⟩
   ·cases hs
  |true=>
   simp only[cond_true]at hs;cases hr:n7 o.op with
   |true=>
    rw[hr]at hs;simp only[cond_true,IL]at hs;split at hs
    ·rename_i v hv;simp only[rq]at hs;split at hs
     ·rename_i t kC;cases hs;exact⟨iv,key v H iv true kC pM h.wr (eh _) h.z9 h.inj (fun _ _=>rfl) (fun _ _ h=>h) (.inr (.inl ⟨rfl,hr,iD cur,yo _ (N9 ho kC).2,hv⟩)),da.j9 _ _ _⟩
     ·cases hs
    ·cases hs
   |false=>
    rw[hr]at hs;simp only[cond_false]at hs;cases xc:qg o.op with
    |false=>
     rcases hl with hl|hl
     ·simp[o9,hr,xc]at hl
     ·rw[pM]at hl;cases hl
    |true=>
     rw[xc]at hs;simp only[cond_true]at hs;cases ue:n8 P (iD cur) o.op with
     |none=>rw[ue]at hs;simp[Az]at hs
     |some r=>
      obtain⟨ob,g⟩:=r;obtain⟨hh,n⟩:=H;rw[ue]at hs;simp only[Az,rq]at hs;split at hs
      ·rename_i t kC;cases hs;have Mb:=h.wr.mF (eh _);refine⟨fun j=>if j=i then some n else iv j,?_,da.new h.hm ob⟩;refine key (g n) _ _ true kC pM (h.wr.new ob) (by rw[yO];exact Nat.le_succ _) ?_ ?_ (fun j hj=>az hj) ?_ ?_
       ·intro j id hj;rw[yO];split at hj
        ·cases hj;exact iz _
        ·exact Nat.lt_succ_of_lt (h.z9 j id hj)
       ·intro j j' id hj r7;split at hj<;>split at r7
        ·rename_i e1 e2;rw[e1,e2]
        ·cases hj;have:=h.z9 _ _ r7;exact absurd this (Nat.lt_irrefl _)
        ·cases r7;have:=h.z9 _ _ hj;exact absurd this (Nat.lt_irrefl _)
        ·exact h.inj j j' id hj r7
       ·intro id cp gE;rw[uB,az]
        ·exact gE
        ·intro e;have:=h.wr.nx id cp gE;rw[e]at this;exact Nat.lt_irrefl _ this
       ·exact .inr (.inr ⟨rfl,iD cur,ob,g,n,yo _ (N9 ho kC).2,ue,rfl,aN rfl,h.hm,Mb,by rw[uB,aN rfl]⟩)
      ·cases hs
end
section
variable{P:Program}{call:iO}{ops:Array Oper}{ms:LN}{bt cur jP:Tr AV}{nt:Nat}{bs:ez}{m:Nat}{iv:Nat->Option Nat}{Dc Da:LN}{H H':AH}{φ bf:bu}{w w':World}{a:Act}
theorem ag0{o:Oper}{b:Bool}(h:kL ops o cur.cb=some b)(hv:∀g pw d x,o.guard=some (g,pw)->jl ops g=some d->cur.cb d=some x->∃v,a.tmps[d]? =some v∧VR φ x v):
 Region.wanted o (yielded ops a.tmps)=b:=by
 unfold kL at h;unfold Region.wanted;split at h
 ·rename_i hg;cases h;rw[hg]
 ·rename_i g pw hg;rw[hg];simp only;split at h
  ·cases h
  ·rename_i d hd;have hy:yielded ops a.tmps g=(match a.tmps[d]? with|some (.bool b)=>some b|_=>none):=by unfold yielded;rw[hd];rfl
   rw[hy];split at h
   ·rename_i x hx;cases h;obtain⟨v,h1,h2⟩:=hv g pw d _ hg hd hx;simp only[VR]at h2;subst h2;rw[h1];cases x<;>cases pw<;>rfl
   ·rename_i hx;cases h;obtain⟨v,h1,h2⟩:=hv g pw d _ hg hd hx;obtain⟨l,rfl,_⟩:=h2;rw[h1];rfl
   ·cases h
theorem Z1{get:Tmp->Option AV}{l:List Operand}(h:∀t,.tmp t∈l->∀x,get t=some x->∃v,a.tmps[t]? =some v∧VR φ x v):mX φ (DH get) a.eval l:=by
 intro x hx v hv;cases x with
 |tmp i=>obtain⟨v',h1,h2⟩:=h i hx v hv;show VR φ v (a.tmps.getD i undef);rw[Array.getD_eq_getD_getElem?,h1];exact h2
 |const c=>exact RK hv
 |global g=>cases hv;rfl
 |func f=>cases hv;exact⟨#[],#[],rfl,rfl,lX,lX⟩
theorem ae1{d:Tmp}{v:Value}(h:d<a.tmps.size):(a.put (some d) v).tmps[d]? =some v:=by show(a.tmps.setIfInBounds d v)[d]? =some v;rw[Array.getElem?_setIfInBounds,aN rfl,aN h]
theorem aeZ{s:Option Tmp}{t:Tmp}{v:Value}(h:s≠some t):(a.put s v).tmps[t]? =a.tmps[t]? :=by
 cases s with
 |none=>rfl
 |some d=>show(a.tmps.setIfInBounds d v)[t]? =_;rw[Array.getElem?_setIfInBounds,az (fun e=>h (by rw[e]))]
theorem ae0{s:Option Tmp}{v:Value}:(a.put s v).tmps.size=a.tmps.size:=by
 cases s with
 |none=>rfl
 |some d=>exact Array.size_setIfInBounds ..
theorem AD{s:Option Tmp}{v:Value}:(a.put s v).defers=a.defers:=by cases s<;>rfl
theorem pC.guard(iG:uZ ops ms)(h:pC P ops ms bt nt bs m iv Dc Da cur H φ w a.tmps){c:Nat}{o:Oper}(ho:ops[c]? =some o)(qW:∀j,kb ms c j->j∈Dc){b:Bool}(hw:kL ops o cur.cb=some b):
 Region.wanted o (yielded ops a.tmps)=b:=by
 refine ag0 hw fun g pw d x hg hd hx=>h.tr d x (.inr ⟨fun j hj o8=>?_,hx⟩)
 have:=iG.uU g j d hd o8;subst this;exact hj.2 (qW _ (iG.guard c o _ pw ho hg))
theorem pC.exec(iG:uZ ops ms)(h:pC P ops ms bt nt bs m iv Dc Da cur H φ w a.tmps){c:Nat}(hp:Dz Dc Da c)(qW:∀j,kb ms c j->j∈Dc)(jC:pB ms Dc):
 ∃bf w' a',(∀(b:Frame) (k:List Item) (cs:List Frame) (rest:LN),step P (lone (b.atR a (.inRegion ops (c::rest)::k)) cs w)=.next (lone (b.atR a' (.inRegion ops rest::k)) cs w'))∧a'.defers=a.defers∧
  pC P ops ms bt nt bs m iv (c::Dc) Da cur H bf w' a'.tmps∧da m φ H bf H∧dm bs w w':=by
 obtain⟨o,b,v,ho,pM,BP,qY⟩:=h.NP c hp;have EP:jl ops c=o.dst:=by unfold jl;rw[ho];rfl
 have pN:=h.guard iG ho qW pM;have vN:∀ρ,Gt ops ms bt cur c o ρ->mX φ ρ a.eval o.op.operands.toList:=by
  intro ρ he x hx y hy;rw[he x hx]at hy;refine Z1 (l:=o.op.operands.toList) (fun t ht z hz=>h.tr t z ?_) x hx y hy;have UB:t∈JC o:=List.mem_filterMap.2 ⟨.tmp t,ht,rfl⟩;by_cases hl:∃k,jl ops k=some t∧¬kb ms c k
  ·rw[Le hl]at hz;obtain⟨k,hk,H9⟩:=hl;by_cases T4:Dz Dc Da k
   ·exact .inl ⟨k,T4,hk,hz⟩
   ·have alH:k∉Dc:=by
     intro s_;rcases iG.Wi c k o t ho UB hk with rfl|hh|hh
     ·exact hp.2 s_
     ·exact H9 hh
     ·exact hp.2 (jC k s_ c hh)
    refine .inr ⟨fun j hj hd=>?_,?_⟩
    ·have:=iG.uU j k t hd hk;subst this;exact T4 hj
    ·rw[h.un t fun j hj hd=>?_]
     ·exact hz
     ·have:=iG.uU j k t hd hk;subst this;exact T4 ⟨hj,alH⟩
  ·rw[Lf hl]at hz;refine .inr ⟨fun j hj hd=>?_,hz⟩;exact hj.2 (qW j (ml fun hn=>hl ⟨j,hd,hn⟩))
 have key:∀(bf:bu) (w':World) (v':Value),WR bf bs H w'->da m φ H bf H->dm bs w w'->VR bf v v'->
  (∀j id,j≠c->iv j=some id->φ id=none->bf id=none)->pC P ops ms bt nt bs m iv (c::Dc) Da cur H bf w' (a.put o.dst v').tmps:=by
  intro bf w' v' xm zS hk hv TW;refine⟨xm,h.hb.Dl hk.1,h.hm,by rw[ae0];exact h.A3,?_,h.un,h.z9,h.inj,?_⟩
  ·intro t x hx;by_cases xh:o.dst=some t
   ·have hd:=BP t xh;have H_:¬∃j,Dz (c::Dc) Da j∧jl ops j=some t:=by rintro⟨j,hj,o8⟩;have:=iG.uU j c t o8 (by rw[EP];exact xh);subst this;exact hj.2 (eP ..)
    rcases hx with⟨j,hj,o8,_⟩|⟨_,hx⟩
    ·exact(H_ ⟨j,hj,o8⟩).elim
    ·rw[hd.2]at hx;cases hx;rw[xh];exact⟨v',ae1 (by rw[h.A3];exact hd.1),hv⟩
   ·rw[aeZ xh];have:Q0 ops bt cur Dc Da t x:=by
     rcases hx with⟨j,hj,o8,hb⟩|⟨iH,hx⟩
     ·exact .inl ⟨j,⟨hj.1,fun hd=>hj.2 (eE _ hd)⟩,o8,hb⟩
     ·refine .inr ⟨fun j hj o8=>?_,hx⟩;by_cases BW:j=c
      ·subst BW;exact xh (by rw[←EP];exact o8)
      ·refine iH j ⟨hj.1,fun hd=>?_⟩ o8;rcases List.mem_cons.1 hd with e|hd
       ·exact BW e
       ·exact hj.2 hd
    obtain⟨u,h1,h2⟩:=h.tr t x this;exact⟨u,h1,h2.qC zS.1⟩
  ·intro j hj;have BW:j≠c:=fun e=>hj.2 (e▸eP ..)
   obtain⟨o',b',OX,p1,p2,p3,p4⟩:=h.NP j ⟨hj.1,fun hd=>hj.2 (eE _ hd)⟩;refine⟨o',b',OX,p1,p2,p3,?_⟩;rcases p4 with p|p|⟨p,ρ,ob,g,id,e,q1,q2,q3,q4,q5,q6⟩
   ·exact .inl p
   ·exact .inr (.inl p)
   ·exact .inr (.inr ⟨p,ρ,ob,g,id,e,q1,q2,q3,q4,TW j id BW q3 q5,q6⟩)
 rcases qY with⟨rfl,rfl⟩|⟨rfl,hr,ρ,yo,My⟩|⟨rfl,ρ,ob,g,id,yo,acs,rfl,dn,T',Mn,gE⟩
 ·refine⟨φ,w,a.put o.dst undef,fun b k cs rest=>?_,AD,key φ w undef h.wr (da.j9 _ _ _) (dm.kN _ _) (Gd φ) (fun _ _ _ _ h=>h),da.j9 _ _ _,dm.kN _ _⟩;have:=stepR_op_skip (P:=P) (b:=b) (a:=a) (k:=k) (cs:=cs) (w:=w) (ops:=ops) (i:=c) (rest:=rest) (by simp[ho,pN]);simpa[ho]using this
 ·obtain⟨v',h1,h2⟩:=afd h.wr (vN ρ yo) My;exact⟨φ,w,a.put o.dst v',fun b k cs rest=>Jj ho pN (.inl (by rw[y5 _ _ (afc hr)];exact h1)),AD,key φ w v' h.wr (da.j9 _ _ _) (dm.kN _ _) h2 (fun _ _ _ _ h=>h),da.j9 _ _ _,dm.kN _ _⟩
 ·obtain⟨o',n,f,h1,h2,h3,h4⟩:=adF (vN ρ yo) acs;have de:=KL (e:=⟨w.heap.size,0,n⟩) Mn;have zS:da m φ H (j4 φ id ⟨w.heap.size,0,n⟩) H:=⟨de,eh _,fun i hi hn=>⟨by unfold j4;rw[az (by omega)];exact hn,.inl rfl⟩⟩;have hk:=dm.alloc h.hb o';refine⟨j4 φ id ⟨w.heap.size,0,n⟩,w.alloc o',a.put o.dst (f w.heap.size),fun b k cs rest=>Jj ho pN (.inl (by rw[y5 _ _ (adE acs)];exact h1 w)),AD,?_,zS,hk⟩;refine key _ _ _ (h.wr.Z8 Mn gE h.hb h2) zS hk (h3 _ id _ (ov ..)) ?_;intro j jH hj alF hn;unfold j4;rw[az]
  ·exact hn
  ·intro e;subst e;exact hj (h.inj j c _ alF dn)
end
def ahw(P:Program)(m:Nat)(bs:ez)(φ:bu)(H:AH)(w:World)(fr:Frame)(cs:List Frame)(r:gh):Prop:=
 ∃bf w',WR bf bs r.H w'∧da m φ H bf r.H∧dm bs w w'∧match r.e with
  |.gy v=>∃v',VR bf v v'∧Steps P (lone fr cs w) (lone (fr.finish v') cs w')
  |.iT c=>∃c',CR bf c c'∧Steps P (lone fr cs w) (lone (fr.raise c') cs w')
def Ki(P:Program)(call:iO)(b:Frame)(ops:Array Oper)(k:List Item)(cs:List Frame)(bs:ez):Prop:=
 ∀(a:Act) (i:Nat) (rest:LN) (o:Oper) (φ:bu) (H:AH) (w:World) (m:Nat) (aU:fU) (r:gh),m<=H.bW->gQ bs w->ops[i]? =some o->Region.wanted o (yielded ops a.tmps)=true->WR φ bs H w->
  o.semAt b.roundOf a.eval=execOp a.eval o->oT P m bs φ H w (execOp a.eval o) aU->ny P call H none aU=some r->ahw P m bs φ H w (b.atR a (.inRegion ops (i::rest)::k)) cs r
theorem agv{P:Program}{ops:Array Oper}{ms:LN}{bt cur:Tr AV}{H:AH}:∀{l:LN},CQ P ops ms bt cur H l=true->∀j∈l,∃o b,ops[j]? =some o∧kL ops o cur.cb=some b∧
 (b=true->∃v,gg P (DH (vi ops ms bt cur j)) H o.op=some v∧∀d,o.dst=some d->cur.cb d=some v)
 |[],_,j,hj=>by cases hj
 |x::l,h,j,hj=>by
  simp only[CQ,cy]at h;obtain⟨h1,h2⟩:=h;rcases List.mem_cons.1 hj with rfl|hj
  ·split at h1
   ·cases h1
   ·rename_i o ho;split at h1
    ·cases h1
    ·rename_i hw;exact⟨o,false,ho,hw,fun h=>by cases h⟩
    ·rename_i hw;split at h1
     ·rename_i v d hv hd;refine⟨o,true,ho,hw,fun _=>⟨v,hv,fun d' pK=>?_⟩⟩;rw[hd]at pK;cases pK;cases hc:cur.cb d with
      |none=>rw[hc]at h1;cases h1
      |some y=>rw[hc]at h1;simp only[Option.any_some]at h1;rw[auJ h1]
     ·rename_i v hv hd;refine⟨o,true,ho,hw,fun _=>⟨v,hv,fun d' pK=>?_⟩⟩;rw[hd]at pK;cases pK
     ·cases h1
  ·exact agv h2 j hj
theorem ajR(t:Tr AV):∀(l:List Tmp) (i:Nat) (a:AV),(Li t l).cb i=some a->i∉l∧t.cb i=some a:=by
 intro l;induction l generalizing t with
 |nil=>intro i a h;exact⟨(fun h=>by cases h),h⟩
 |cons d l ih=>
  intro i a h;obtain⟨h1,h2⟩:=ih _ i a h;rw[Tr.akD]at h2;split at h2
  ·cases h2
  ·rename_i c6;refine⟨fun hm=>?_,h2⟩;rcases List.mem_cons.1 hm with rfl|hm
   ·exact c6 rfl
   ·exact h1 hm
section
variable{P:Program}{call:iO}{ops:Array Oper}{ms:LN}{bt cur jP:Tr AV}{nt:Nat}{bs:ez}{m:Nat}{iv:Nat->Option Nat}{Dc Da:LN}{H H':AH}{φ bf:bu}{w w':World}{a:Act}{b:Frame}{k:List Item}{cs:List Frame}
def u0(P:Program)(ops:Array Oper)(bt:Tr AV)(nt:Nat)(bs:ez)(m:Nat)(φ:bu)(H:AH)(w:World)(b:Frame)(k:List Item)(cs:List Frame)(cl:LN)(a:Act):Kj->Prop
 |.aw t H'=>∃bf w' a',Steps P (lone (b.atR a (.inRegion ops cl::k)) cs w) (lone (b.atR a' (.inRegion ops []::k)) cs w')∧a'.defers=a.defers∧TR bf t nt a'.tmps∧WR bf bs H' w'∧da m φ H bf H'∧dm bs w w'
 |.iT c H'=>∃bf w' a' KU c',Steps P (lone (b.atR a (.inRegion ops cl::k)) cs w) (lone ((b.atR a' (.inRegion ops KU::k)).raise c') cs w')∧a'.defers=a.defers∧TR bf (Li bt (K4 ops)) nt a'.tmps∧WR bf bs H' w'∧da m φ H bf H'∧dm bs w w'∧CR bf c c'
 |.ey _=>True
theorem u0.step{cl KU:LN}{a a':Act}{w w':World}{r:Kj}(hs:Steps P (lone (b.atR a (.inRegion ops cl::k)) cs w) (lone (b.atR a' (.inRegion ops KU::k)) cs w'))(hd:a'.defers=a.defers)
 (he:da m φ H bf H') (hk:dm bs w w') (h:u0 P ops bt nt bs m bf H' w' b k cs KU a' r):u0 P ops bt nt bs m φ H w b k cs cl a r:=by
 cases r with
 |aw t H1=>obtain⟨mW,w1,a1,g1,g2,g3,g4,g5,g6⟩:=h;exact⟨mW,w1,a1,hs.trans g1,g2.trans hd,g3,g4,he.zc g5,hk.uV g6⟩
 |iT c H1=>obtain⟨mW,w1,a1,cl1,c1,g1,g2,g3,g4,g5,g6,g7⟩:=h;exact⟨mW,w1,a1,cl1,c1,hs.trans g1,g2.trans hd,g3,g4,he.zc g5,hk.uV g6,g7⟩
 |ey s=>trivial
theorem pC.avC(iG:uZ ops ms)(kY:Ki P call b ops k cs bs)(h:pC P ops ms bt nt bs m iv Dc Da cur H φ w a.tmps){c:Nat}{o:Oper}(ho:ops[c]? =some o)(hi:c∉Da)
 (qW:∀j,kb ms c j->j∈Dc) (jC:pB ms Da) (qZ:∀j∈Dc,j∈Da) (hl:o9 o.op=false) (pM:kL ops o cur.cb=some true) (rest:LN):
 match pc P call ops ms bt Da c nt cur H o with
 |.go jP H'=>∃bf w' a',Steps P (lone (b.atR a (.inRegion ops (c::rest)::k)) cs w) (lone (b.atR a' (.inRegion ops rest::k)) cs w')∧a'.defers=a.defers∧
   pC P ops ms bt nt bs m iv (c::Dc) (c::Da) jP H' bf w' a'.tmps∧da m φ H bf H'∧dm bs w w'
 |.iT ch H'=>u0 P ops bt nt bs m φ H w b k cs (c::rest) a (.iT ch H')
 |.ey _=>True:=by
 have EP:jl ops c=o.dst:=by unfold jl;rw[ho];rfl
 have pN:=h.guard iG ho qW pM;have axm:∀j,kb ms c j->j∈Da:=fun j hj=>qZ j (qW j hj)
 have vN:mX φ (iD cur) a.eval o.op.operands.toList:=by
  intro x hx y hy;have hae:∀x,iD cur x=DH cur.cb x:=fun x=>by cases x<;>rfl
  rw[hae]at hy;refine Z1 (l:=o.op.operands.toList) (fun t ht z hz=>h.tr t z (.inr ⟨fun j hj o8=>?_,hz⟩)) x hx y hy;have UB:t∈JC o:=List.mem_filterMap.2 ⟨.tmp t,ht,rfl⟩;rcases iG.Wi c j o t ho UB o8 with rfl|hh|hh
  ·exact hi hj.1
  ·exact hj.2 (qW j hh)
  ·exact hi (jC j hj.1 c hh)
 simp only[o9,Bool.or_eq_false_iff]at hl;unfold pc;rw[pM];simp only[cond_true,hl.1,hl.2,cond_false];unfold Wk;cases ew:oz P (iD cur) H o.op with
 |none=>trivial
 |some aU=>
  simp only;cases kB:ny P call H none aU with
  |none=>trivial
  |some r=>
   have mb:∀c,o.op≠.defer c:=by
    intro cc lF;rw[lF]at ew;simp only[oz,BH]at ew;split at ew
    ·split at ew
     ·rename_i fn first kv l _ _
      cases hy:uo fn with
      |true=>rw[hy]at ew;cases ew
      |false=>rw[hy]at ew;cases ew;simp[ny]at kB
     ·cases ew
    ·cases ew
   have z6:=acf (P:=P) (m:=H.bW) h.wr h.hb (eh _) vN ew;obtain⟨bf,w',g1,g2,g3,g4⟩:=kY a c rest o φ H w H.bW aU r (eh _) h.hb ho pN h.wr (y5 _ _ mb) z6 kB;obtain⟨e,up,H1⟩:=r;simp only at g1 g2 g3 g4;cases e with
   |iT ch=>
    simp only[NN];obtain⟨c',hc,qe⟩:=g4;refine⟨bf,w',a,c::rest,c',qe,rfl,⟨h.A3,fun i x hx=>?_⟩,g1,g2.mono h.hm,g3,hc⟩;obtain⟨hx1,Cc⟩:=ajR bt (K4 ops) i x hx;have mb:∀j,jl ops j≠some i:=by intro j hj;obtain⟨o',ug,pK⟩:=He hj;exact hx1 (List.mem_filterMap.2 ⟨o',Array.mem_toList_iff.2 (Array.mem_of_getElem? ug),pK⟩)
    obtain⟨v,q1,q2⟩:=h.tr i x (.inr ⟨fun j _=>mb j,by rw[h.un i fun j _=>mb j];exact Cc⟩);exact⟨v,q1,q2.qC g2.1⟩
   |gy v=>
    simp only[NN];cases kC:mT nt cur o.dst v with
    |none=>trivial
    |some jP=>
     simp only;cases gM:CQ P ops ms bt jP H1 (KA ops ms Da c)with
     |false=>trivial
     |true=>
      simp only[cond_true];obtain⟨v',hv,qe⟩:=g4;rw[Ek ho]at qe;obtain⟨s1,s2⟩:=N9 ho kC;refine⟨bf,w',a.put o.dst v',qe,AD,?_,g2.mono h.hm,g3⟩;refine⟨g1,h.hb.Dl g3.1,Nat.le_trans h.hm g2.2.1,by rw[ae0];exact h.A3,?_,?_,fun j id hj=>Nat.lt_of_lt_of_le (h.z9 j id hj) g2.2.1,h.inj,?_⟩
      ·intro t x hx;by_cases xh:o.dst=some t
       ·have hd:=s1 t xh;rcases hx with⟨j,hj,o8,_⟩|⟨_,hx⟩
        ·have:=iG.uU j c t o8 hd.2.2;subst this;exact(hj.2 (eP ..)).elim
        ·rw[hd.2.1]at hx;cases hx;rw[xh];exact⟨v',ae1 (by rw[h.A3];exact hd.1),hv⟩
       ·rw[aeZ xh];have amh:Q0 ops bt cur Dc Da t x:=by
         rcases hx with⟨j,hj,o8,hb⟩|⟨iH,hx⟩
         ·rcases List.mem_cons.1 hj.1 with rfl|s8
          ·exact(hj.2 (eP ..)).elim
          ·exact .inl ⟨j,⟨s8,fun hd=>hj.2 (eE _ hd)⟩,o8,hb⟩
         ·refine .inr ⟨fun j hj o8=>?_,by rw[←s2 t (by rw[EP];exact xh)];exact hx⟩;refine iH j ⟨eE _ hj.1,fun hd=>?_⟩ o8;rcases List.mem_cons.1 hd with rfl|hd
          ·exact hi hj.1
          ·exact hj.2 hd
        obtain⟨u,q1,q2⟩:=h.tr t x amh;exact⟨u,q1,q2.qC g2.1⟩
      ·intro t ht;rw[s2 t (ht c (eP ..))];exact h.un t fun j hj=>ht j (eE _ hj)
      ·intro j hj;have BW:j≠c:=fun e=>hj.2 (e▸eP ..)
       have Mh:j∈Da:=by
        rcases List.mem_cons.1 hj.1 with e|hd
        ·exact(BW e).elim
        ·exact hd
       have acp:j∉Dc:=fun hd=>hj.2 (eE _ hd)
       obtain⟨o',b',OX,p1,p2,p3,p4⟩:=h.NP j ⟨Mh,acp⟩;have sb:kL ops o' jP.cb=kL ops o' cur.cb:=XS iG p1 (fun d h=>h) hi (jC j Mh) s2;have TI:∀d,o'.dst=some d->jP.cb d=cur.cb d:=by
        intro d hd;refine s2 d fun pK=>?_
        have:jl ops j=some d:=by unfold jl;rw[p1];exact hd
        exact BW (iG.uU j c d this pK)
       have p5:=p4.ac2 (jP:=jP) (fun d h=>h) hi (jC j Mh) s2;rcases p5 with⟨rfl,rfl⟩|⟨rfl,q,ρ,e,r⟩|⟨rfl,ρ,ob,g,id,e,q1,q2,q3,q4,q5,q6⟩
       ·exact⟨o',false,_,p1,by rw[sb];exact p2,fun d hd=>⟨(p3 d hd).1,by rw[TI d hd];exact(p3 d hd).2⟩,.inl ⟨rfl,rfl⟩⟩
       ·by_cases acG:MP o'.op=true
        ·exact⟨o',true,OX,p1,by rw[sb];exact p2,fun d hd=>⟨(p3 d hd).1,by rw[TI d hd];exact(p3 d hd).2⟩,.inr (.inl ⟨rfl,q,ρ,e,by rw[avm acG H1 H];exact r⟩)⟩
        have zL:j∈KA ops ms Da c:=by refine List.mem_filter.2 ⟨Mh,?_⟩;rw[p1];simp only[Option.any_some,q,jf,Bool.not_eq_true',cy,Bool.eq_false_iff.2 acG,true_and];exact Bool.eq_false_iff.2 fun hh=>acp (qW j (FD.1 hh))
        obtain⟨o2,b2,t1,t2,t3⟩:=agv gM j zL;rw[p1]at t1;cases t1;rw[sb,p2]at t2;cases t2;obtain⟨v2,t4,t5⟩:=t3 rfl;exact⟨o',true,v2,p1,by rw[sb];exact p2,fun d hd=>⟨(p3 d hd).1,t5 d hd⟩,.inr (.inl ⟨rfl,q,_,fun _ _=>rfl,t4⟩)⟩
       ·obtain⟨u1,u2⟩:=g2.2.2 id (h.z9 j id q3) q5;have u2:H1.bD id=H.bD id:=by
         rcases u2 with u2|⟨vs,el,u2⟩
         ·exact u2
         ·rw[q6]at u2;cases u2;exact absurd rfl (ang q1 vs el)
        exact⟨o',true,OX,p1,by rw[sb];exact p2,fun d hd=>⟨(p3 d hd).1,by rw[TI d hd];exact(p3 d hd).2⟩,.inr (.inr ⟨rfl,ρ,ob,g,id,e,q1,q2,q3,q4,u1,by rw[u2];exact q6⟩)⟩
theorem ZD(iG:uZ ops ms):∀(bN:LN) {post:LN} {c:Nat} {Da:LN} {iv:Nat->Option Nat} {cur:Tr AV} {H:AH},pC P ops ms bt nt bs m iv Dc Da cur H φ w a.tmps->pB ms Da->(∀j∈Dc,j∈Da)->
 rK ms Da (bN++c::post)->(∀i∈bN,(ops[i]?).any (o9 ·.op)=true)->
 (∃s,sm P call ops ms bt nt (bN++c::post) Da cur H=.ey s)∨
 ∃uk Dr jP H',pC P ops ms bt nt bs m uk Dc Dr jP H' φ w a.tmps∧sm P call ops ms bt nt (bN++c::post) Da cur H=sm P call ops ms bt nt (c::post) Dr jP H'∧da m φ H φ H'∧
  pB ms Dr∧(∀j∈Dc,j∈Dr)∧rK ms Dr (c::post)∧(∀j,j∈Dr↔j∈Da∨j∈bN)
 |[],post,c,Da,iv,cur,H,h,jC,qZ,ht,hl=>.inr ⟨iv,Da,cur,H,h,rfl,da.j9 _ _ _,jC,qZ,ht,by simp⟩
 |i::bN,post,c,Da,iv,cur,H,h,jC,qZ,ht,hl=>by
  obtain⟨t1,t2,t3⟩:=ht;have vG:=hl i (eP ..);cases ho:ops[i]? with
  |none=>rw[ho]at vG;cases vG
  |some o=>
   rw[ho]at vG;simp only[Option.any_some]at vG;simp only[mQ,sm,ho];cases hs:pc P call ops ms bt Da i nt cur H o with
   |ey s=>exact .inl ⟨s,rfl⟩
   |iT ch H1=>
    exfalso;unfold pc at hs;split at hs
    ·cases hs
    ·rename_i b hb;cases b with
     |false=>simp only[cond_false,rq]at hs;split at hs<;>cases hs
     |true=>
      simp only[cond_true]at hs;cases hr:n7 o.op with
      |true=>
       rw[hr]at hs;simp only[cond_true,IL]at hs;split at hs
       ·simp only[rq]at hs;split at hs<;>cases hs
       ·cases hs
      |false=>
       rw[hr]at hs;simp only[cond_false]at hs;have:qg o.op=true:=by simpa[o9,hr]using vG
       rw[this]at hs;simp only[cond_true]at hs;cases ue:n8 P (iD cur) o.op with
       |none=>rw[ue]at hs;simp[Az]at hs
       |some r=>obtain⟨ob,g⟩:=r;obtain⟨hh,n⟩:=H;rw[ue]at hs;simp only[Az,rq]at hs;split at hs<;>cases hs
   |go jP H'=>
    obtain⟨uk,g1,g2⟩:=h.ZC iG ho t2 t1 jC qZ (.inl vG) hs;rcases ZD iG bN (post:=post) (c:=c) g1 (jC.Di t1) (fun j hj=>eE _ (qZ j hj)) t3 (fun j hj=>hl j (eE _ hj))with⟨s,hs⟩|⟨acS,A7,zu,H2,q1,q2,q3,q4,q5,q6,q7⟩
    ·exact .inl ⟨s,hs⟩
    ·refine .inr ⟨acS,A7,zu,H2,q1,q2,g2.zc q3,q4,q5,q6,fun j=>?_⟩;rw[q7];simp only[ss];constructor
     ·rintro((h|h)|h)
      ·exact .inr (.inl h)
      ·exact .inl h
      ·exact .inr (.inr h)
     ·rintro(h|h|h)
      ·exact .inl (.inr h)
      ·exact .inl (.inl h)
      ·exact .inr h
theorem Wm(iG:uZ ops ms)(kY:Ki P call b ops k cs bs):∀(cl:LN) {rest Da Dc:LN} {last:Option Nat} {iv:Nat->Option Nat} {cur:Tr AV} {H:AH} {φ:bu} {w:World} {a:Act},
 rK ms Dc cl->pB ms Dc->rK ms Da rest->pB ms Da->(∀j∈Dc,j∈Da)->(∀j∈cl,j∈Da∨j∈rest)->(∀j∈rest,j∈cl)->(∀j∈Da,j∈Dc∨j∈cl)->uC ops ms last rest=true->
 pC P ops ms bt nt bs m iv Dc Da cur H φ w a.tmps->u0 P ops bt nt bs m φ H w b k cs cl a (sm P call ops ms bt nt rest Da cur H)
 |[],rest,Da,Dc,last,iv,cur,H,φ,w,a,ht,hc,B_,vu,qZ,h1,h2,h3,bq,h=>by
  have:rest=[]:=List.eq_nil_iff_forall_not_mem.2 fun j hj=>by cases h2 j hj
  subst this;refine⟨φ,w,a,Steps.refl P _,rfl,⟨h.A3,fun i x hx=>h.tr i x (.inr ⟨fun j hj=>?_,hx⟩)⟩,h.wr,da.j9 _ _ _,dm.kN _ _⟩;rcases h3 j hj.1 with hd|hd
  ·exact(hj.2 hd).elim
  ·cases hd
 |c::cl,rest,Da,Dc,last,iv,cur,H,φ,w,a,ht,hc,B_,vu,qZ,h1,h2,h3,bq,h=>by
  obtain⟨t1,t2,t3⟩:=ht;have aae:∀{rest Da:LN} {last:Option Nat} {iv:Nat->Option Nat} {cur:Tr AV} {H:AH},c∈Da->rK ms Da rest->pB ms Da->(∀j∈Dc,j∈Da)->(∀j∈c::cl,j∈Da∨j∈rest)->(∀j∈rest,j∈c::cl)->(∀j∈Da,j∈Dc∨j∈c::cl)->uC ops ms last rest=true->
   pC P ops ms bt nt bs m iv Dc Da cur H φ w a.tmps->u0 P ops bt nt bs m φ H w b k cs (c::cl) a (sm P call ops ms bt nt rest Da cur H):=by
   intro rest Da last iv cur H EL B_ vu qZ h1 h2 h3 bq h;obtain⟨bf,w',a',s1,s2,s3,s4,s5⟩:=h.exec iG ⟨EL,t2⟩ t1 hc;refine u0.step (.one (s1 b k cs cl)) s2 s4 s5 ?_;refine Wm iG kY cl t3 (hc.Di t1) B_ vu (fun j hj=>?_) (fun j hj=>h1 j (eE _ hj)) (fun j hj=>?_) (fun j hj=>?_) bq s3
   ·rcases List.mem_cons.1 hj with rfl|hj
    ·exact EL
    ·exact qZ j hj
   ·rcases List.mem_cons.1 (h2 j hj)with rfl|r7
    ·exact(B_.Nx hj EL).elim
    ·exact r7
   ·rcases h3 j hj with hd|hd
    ·exact .inl (eE _ hd)
    ·rcases List.mem_cons.1 hd with rfl|hd
     ·exact .inl (eP ..)
     ·exact .inr hd
  by_cases EL:c∈Da
  ·exact aae EL B_ vu qZ h1 h2 h3 bq h
  ·have zO:c∈rest:=(h1 c (eP ..)).resolve_left EL;obtain⟨bN,post,rfl⟩:=List.append_of_mem zO;have alY:∀i∈bN,(ops[i]?).any (o9 ·.op)=true:=by
    rcases V4 bN post c last bq with⟨e,he,hn⟩|⟨_,hh⟩
    ·have:=qZ e (t1 e hn);exact(B_.Nx (List.mem_append_left _ he) this).elim
    ·exact hh
   rcases ZD (call:=call) iG bN (post:=post) (c:=c) h vu qZ B_ alY with⟨s,hs⟩|⟨acS,A7,zu,H2,q1,q2,q3,q4,q5,q6,q7⟩
   ·rw[hs];trivial
   ·rw[q2];refine u0.step (Steps.refl P _) rfl q3 (dm.kN _ _) ?_;obtain⟨u1,u2,u3⟩:=q6;obtain⟨amK,alS⟩:=V5 bN (c::post) last bq;have Mq:∃ada,uC ops ms ada post=true:=V5 [c] post amK alS;have m1:∀j∈c::cl,j∈c::A7∨j∈post:=by
     intro j hj;rcases h1 j hj with hh|hh
     ·exact .inl (eE _ ((q7 j).2 (.inl hh)))
     ·rcases List.mem_append.1 hh with hh|hh
      ·exact .inl (eE _ ((q7 j).2 (.inr hh)))
      ·rcases List.mem_cons.1 hh with rfl|hh
       ·exact .inl (eP ..)
       ·exact .inr hh
    have m2:∀j∈post,j∈c::cl:=fun j hj=>h2 j (List.mem_append_right _ (eE _ hj))
    have m3:∀j∈c::A7,j∈Dc∨j∈c::cl:=by
     intro j hj;rcases List.mem_cons.1 hj with rfl|hj
     ·exact .inr (eP ..)
     ·rcases(q7 j).1 hj with hh|hh
      ·exact h3 j hh
      ·exact .inr (h2 j (List.mem_append_left _ hh))
    simp only[sm];cases ho:ops[c]? with
    |none=>trivial
    |some o=>
     simp only;obtain⟨ada,Mq⟩:=Mq;by_cases yw:o9 o.op=true∨kL ops o zu.cb=some false
     ·cases hs:pc P call ops ms bt A7 c nt zu H2 o with
      |ey s=>trivial
      |iT ch H3=>
       exfalso;unfold pc at hs;split at hs
       ·cases hs
       ·rename_i bb hb;cases bb with
        |false=>simp only[cond_false,rq]at hs;split at hs<;>cases hs
        |true=>
         have yw:o9 o.op=true:=yw.resolve_right (by rw[hb];simp);simp only[cond_true]at hs;cases hr:n7 o.op with
         |true=>
          rw[hr]at hs;simp only[cond_true,IL]at hs;split at hs
          ·simp only[rq]at hs;split at hs<;>cases hs
          ·cases hs
         |false=>
          rw[hr]at hs;simp only[cond_false]at hs;have:qg o.op=true:=by simpa[o9,hr]using yw
          rw[this]at hs;simp only[cond_true]at hs;cases ue:n8 P (iD zu) o.op with
          |none=>rw[ue]at hs;simp[Az]at hs
          |some r=>obtain⟨ob,g⟩:=r;obtain⟨hh,n⟩:=H2;rw[ue]at hs;simp only[Az,rq]at hs;split at hs<;>cases hs
      |go ai3 H3=>simp only;obtain⟨axp,g1,g2⟩:=q1.ZC iG ho u2 u1 q4 q5 yw hs;refine u0.step (Steps.refl P _) rfl g2 (dm.kN _ _) ?_;exact aae (eP ..) u3 (q4.Di u1) (fun j hj=>eE _ (q5 j hj)) m1 m2 m3 Mq g1
     ·cases hw:kL ops o zu.cb with
      |none=>
       have:pc P call ops ms bt A7 c nt zu H2 o=.ey "guard" :=by unfold pc;rw[hw]
       rw[this];trivial
      |some bb=>
       have hbt:bb=true:=by
        cases bb with
        |true=>rfl
        |false=>exact(yw (.inr hw)).elim
       subst hbt;have yy:o9 o.op=false:=Bool.eq_false_iff.2 fun hh=>yw (.inl hh)
       have EU:=q1.avC (call:=call) iG kY ho u2 t1 q4 q5 yy hw cl;cases hs:pc P call ops ms bt A7 c nt zu H2 o with
       |ey s=>trivial
       |iT ch H3=>rw[hs]at EU;exact EU
       |go ai3 H3=>
        rw[hs]at EU;obtain⟨bf,w',a',s1,s2,s3,s4,s5⟩:=EU;refine u0.step s1 s2 s4 s5 ?_;refine Wm iG kY cl t3 (hc.Di t1) u3 (q4.Di u1) (fun j hj=>?_) (fun j hj=>m1 j (eE _ hj)) (fun j hj=>?_) (fun j hj=>?_) Mq s3
        ·rcases List.mem_cons.1 hj with rfl|hj
         ·exact eP ..
         ·exact eE _ (q5 j hj)
        ·rcases List.mem_cons.1 (m2 j hj)with rfl|r7
         ·exact(u3.Nx hj (eP ..)).elim
         ·exact r7
        ·rcases m3 j hj with hd|hd
         ·exact .inl (eE _ hd)
         ·rcases List.mem_cons.1 hd with rfl|hd
          ·exact .inl (eP ..)
          ·exact .inr hd
theorem aoe{pl:Qo}(jG:FM ops=some pl)(dQ:P.follows .mixedOrders=true)(kY:Ki P call b ops k cs bs)(t:Nat)(hw:WR φ bs H w)(hb:gQ bs w)(hm:m<=H.bW)(ht:TR φ bt nt a.tmps):
 u0 P ops bt nt bs m φ H w b k cs (Region.schedule (P.follows .mixedOrders) ops t) a (sm P call ops pl.ms bt nt pl.A4 [] bt H):=by
 obtain⟨h1,h2,h3,h4,iG⟩:=aox jG;obtain⟨g1,g2,g3⟩:=auM dQ h1 t;refine Wm iG kY _ (iv:=fun _=>none) g1 (pB.nil _) h2 (pB.nil _) (fun _ h=>h) (fun j hj=>.inr ((h3 j).1 (g3 j hj))) (fun j hj=>g2 j ((h3 j).2 hj)) (fun j hj=>by cases hj) h4 ?_;refine⟨hw,hb,hm,ht.1,fun t x hx=>?_,fun _ _=>rfl,(fun _ _ h=>by cases h),(fun _ _ _ h=>by cases h),(fun j hj=>by cases hj.1)⟩;rcases hx with⟨j,hj,_⟩|⟨_,hx⟩
 ·cases hj.1
 ·exact ht.2 t x hx
end
def MR(φ:bu):iq->FrameMode->Prop
 |.fO,m=>m=.run
 |.pA,m=>m=.returning
 |.oq c,m=>∃c',m=.panicking c'∧CR φ c c'
def IR(φ:bu):cg->Item->Prop
 |.f_ c,x=>x=.code c
 |.tK id,x=>x=.inBlock id
 |.pz b,x=>x=.inLoop b
 |.sH b,x=>x=.inScope b
 |.A1 l,x=>∃e,φ l=some e∧x=.inRangeFunc e.b
 |.zb l,x=>∃e,φ l=some e∧x=.endRangeFunc e.b
 |.xQ,x=>x=.beginRound
 |.jT ops i rest,x=>x=.inRegion ops (List.range' i rest.length)∧rest=ops.toList.drop i
def jY(φ:bu):List cg->List Item->Prop
 |[],l=>l=[]
 |x::xs,l=>∃y ys,l=y::ys∧IR φ x y∧jY φ xs ys
def RR(φ:bu):Option Nat->Option Nat->Prop
 |none,r=>r=none
 |some l,r=>∃e,φ l=some e∧r=some e.b
def KR:Option iq->CallKind->Prop
 |none,k=>k=.normal
 |some _,k=>k=.deferred
structure FR(φ:bu)(fr:cZ)(b:Frame)(a:Act):Prop where
 fn:b.fn=fr.fn
 tr:TR φ fr.py fr.nt a.tmps
 dr:nw φ fr.JP a.defers
 j_:RR φ fr.px b.roundOf
 lV:KR fr.up b.kind
 pF:fr.up.isSome=true->fr.px=none
def tM(φ:bu)(fr:cZ)(cJ:Frame):Prop:=
 match fr.lS with
 |.fO=>∃(b:Frame) (a:Act) (todo:List Item),cJ=b.atR a todo∧FR φ fr b a∧jY φ fr.A0 todo
 |m=>FR φ fr cJ ⟨cJ.tmps,cJ.defers⟩∧MR φ m cJ.mode
def ku(φ:bu)(up:Option iq)(cs:List Frame):Prop:=
 match up with
 |none=>True
 |some u=>∃c cs',cs=c::cs'∧MR φ u c.mode
def ER(φ:bu):P_->Ending->Prop
 |.gy v,e=>∃v',e=.returned v'∧VR φ v v'
 |.iT c,e=>∃c',e=.panicked c'∧CR φ c c'
def wy(P:Program)(bf:bu)(w:World)(w':World)(cJ:Frame)(cs:List Frame)(r:gh):Option iq->Option Nat->Prop
 |none,none=>∃jj e',ER bf r.e e'∧Steps P (lone cJ cs w) (lone jj cs w')∧jj.leaving P w' e'∧jj.fn=cJ.fn
 |some _,_=>∃c cs' uA u' jj e',cs=c::cs'∧r.up=some uA∧MR bf uA u'∧ER bf r.e e'∧Steps P (lone cJ cs w) (lone jj ({c with mode:=u'}::cs') w')∧jj.kind=.deferred∧jj.going P w' e'
 |none,some _=>∀c cs',cs=c::cs'->match r.e with
  |.gy v=>∃v',VR bf v v'∧Steps P (lone cJ cs w) (lone (c.finish v') cs' w')
  |.iT ch=>∃sQ,CR bf ch sQ∧Steps P (lone cJ cs w) (lone (c.raise sQ) cs' w')
def tO(P:Program)(m:Nat)(bs:ez)(φ:bu)(H:AH)(w:World)(cJ:Frame)(cs:List Frame)(r:gh)(up:Option iq)(round:Option Nat):Prop:=
 ∃bf w',WR bf bs r.H w'∧da m φ H bf r.H∧dm bs w w'∧wy P bf w w' cJ cs r up round
def J6(P:Program)(call:cZ->AH->Option gh):Prop:=
 ∀(fr:cZ) (H:AH) (r:gh),call fr H=some r->∀(φ:bu) (w:World) (m:Nat) (bs:ez) (cJ:Frame) (cs:List Frame),WR φ bs H w->gQ bs w->m<=H.bW->tM φ fr cJ->ku φ fr.up cs->tO P m bs φ H w cJ cs r fr.up fr.px
def Dw(P:Program)(K:qH):Prop:=
 ∀(f:FuncId) (args:LV) (H:AH) (v:AV) (H':AH),K f args H=some (v,H')->∀(φ:bu) (w:World) (m:Nat) (bs:ez) (args':Array Value) (cs:List Frame),bm φ args args'.toList->WR φ bs H w->gQ bs w->m<=H.bW->
  tO P m bs φ H w (Frame.enter P f args' .normal) cs ⟨.gy v,none,H'⟩ none none
structure oQ(P:Program)(call:iO):Prop where
 go:J6 P call.go
 dh:Dw P call.dh
section
variable{P:Program}{call:iO}{bs:ez}{m:Nat}{H:AH}{φ:bu}{w:World}
theorem St{go:cZ->AH->Option gh}(hc:J6 P go){f:FuncId}{args:LV}{args':Array Value}{up:Option iq}{r:gh}(h:(Ed P f args up).bind (go · H)=some r)(ha:bm φ args args'.toList)(hw:WR φ bs H w)(hb:gQ bs w)(hm:m<=H.bW)
 {cs:List Frame} (hu:ku φ up cs) {kind:CallKind} (hk:KR up kind):tO P m bs φ H w (Frame.enter P f args' kind) cs r up none:=by
 cases he:Ed P f args up with
 |none=>rw[he]at h;cases h
 |some fr=>
  rw[he]at h;simp only[Option.bind_some]at h;unfold Ed at he;split at he
  ·rename_i fn eD;split at he
   ·rename_i c alg;obtain⟨de,he⟩:=di he;have de:=Nat.le_of_ble_eq_true de;cases he;have bH:args'.size<=fn.ntmps:=by have:=ha.ka;simp at this;omega
    refine hc _ H r h φ w m bs _ cs hw hb hm ?_ hu;let b:Frame:={(default:Frame)with fn:=f,kind:=kind,roundOf:=none}
    refine⟨b,{tmps:=args'++Array.replicate (fn.ntmps-args'.size) undef,defers:=[]},[.code c],?_,⟨rfl,⟨?_,?_⟩,rfl,rfl,hk,fun _=>rfl⟩,⟨_,_,rfl,rfl,rfl⟩⟩
    ·simp[Frame.enter,Frame.atR,eD,alg,b]
    ·simp;omega
    ·intro i x hx;rw[Tr.abK]at hx;split at hx
     ·rename_i hi;simp only[Nat.sub_zero]at hx;obtain⟨v,h1,h2⟩:=ha.get hx;refine⟨v,?_,h2⟩;rw[Array.getElem?_append_left]
      ·simpa using h1
      ·have:=(List.getElem?_eq_some_iff.1 h1).1;simpa using this
     ·cases hx
   ·cases he
  ·cases he
theorem Su(hc:oQ P call){f:FuncId}{args:LV}{args':Array Value}{up:Option iq}{r:gh}(h:La P call f args up H=some r)(ha:bm φ args args'.toList)(hw:WR φ bs H w)(hb:gQ bs w)(hm:m<=H.bW)
 {cs:List Frame} (hu:ku φ up cs) {kind:CallKind} (hk:KR up kind):tO P m bs φ H w (Frame.enter P f args' kind) cs r up none:=by
 unfold La at h;split at h
 ·rename_i v H' T3;cases h;have hk':kind=.normal:=hk;subst hk';exact hc.dh f args H v H' T3 φ w m bs args' cs ha hw hb hm
 ·exact St hc.go h ha hw hb hm hu hk
theorem abA(nt:Nat):∀l:List (Tmp×AV),l.foldl (fun t (p,a)=>t.bind fun t=>mT nt t (some p) a) none=none
 |[]=>rfl
 |_::l=>by simp only[ik];exact abA nt l
theorem aby{nt:Nat}:∀(ps:List Tmp) (as:LV) (vs:List Value) {t t':Tr AV} {tmps:Array Value},bm φ as vs->TR φ t nt tmps->
 (ps.zip as).foldl (fun t (p,a)=>t.bind fun t=>mT nt t (some p) a) (some t)=some t'->TR φ t' nt ((ps.zip vs).foldl (fun tmps (t,a)=>tmps.setIfInBounds t a) tmps)
 |[],as,vs,t,t',tmps,_,ht,h=>by simp at h;subst h;simpa using ht
 |p::ps,[],vs,t,t',tmps,ha,ht,h=>by simp only[bm]at ha;subst ha;simp at h;subst h;simpa using ht
 |p::ps,a::as,vs,t,t',tmps,ha,ht,h=>by
  obtain⟨v,eT,rfl,hv,jc⟩:=ha;simp only[List.zip_cons_cons,ik,Option.bind_some]at h⊢;cases hs:mT nt t (some p) a with
  |none=>rw[hs,abA]at h;cases h
  |some t1=>rw[hs]at h;have:=TR.put (a:=⟨tmps,[]⟩) ht hs hv;exact aby ps as eT jc this h
theorem apn(hc:oQ P call){l:Nat}{ob:bc}{e:PE}{args:LV}{args':Array Value}{r:gh}(gE:H.bD l=some ob)(h:(yU ob l args).bind (call.go · H)=some r)(he:φ l=some e)(ha:bm φ args args'.toList)
 (hw:WR φ bs H w) (hb:gQ bs w) (hm:m<=H.bW) (cs:List Frame):
 ∃f tmps assign body,(Instr.yield e.b args').run P w=.ok (.round e.b f tmps assign body) w∧tO P m bs φ H w (Frame.round e.b f tmps assign body .normal) cs r none (some l):=by
 unfold yU at h;split at h
 ·rename_i st p fn tmps nt params assign body d;cases bH:Nat.beq args.length params.length with
  |false=>rw[bH]at h;cases h
  |true=>
   rw[bH]at h;simp only[cond_true]at h;have bH:=eI bH;obtain⟨o,hg,nL,ed,rfl,hd,ht⟩:=hw.fP l _ e gE he;split at h
   ·rename_i t' Ma;simp only[Option.bind_some]at h;have cW:args'.size=params.length:=by have:=ha.ka;simp at this;omega
    refine⟨fn,(params.toArray.zip args').foldl (fun tmps (t,a)=>tmps.setIfInBounds t a) nL,assign,body,?_,?_⟩
    ·exact run_yield hg (by simpa using cW)
    ·refine hc.go _ H r h φ w m bs _ cs hw hb hm ?_ trivial;let b:Frame:={(default:Frame)with fn:=fn,kind:=.normal,roundOf:=some e.b}
     refine⟨b,{tmps:=(params.toArray.zip args').foldl (fun tmps (t,a)=>tmps.setIfInBounds t a) nL,defers:=[]},[.code assign,.beginRound,.code body],?_,⟨rfl,?_,rfl,⟨e,he,rfl⟩,rfl,fun h=>by cases h⟩,⟨_,_,rfl,rfl,_,_,rfl,rfl,_,_,rfl,rfl,rfl⟩⟩
     ·simp[Frame.round,Frame.atR,b]
     ·have:=aby params args args'.toList ha ht Ma;have e1:(params.toArray.zip args').foldl (fun tmps (t,a)=>tmps.setIfInBounds t a) nL=(params.zip args'.toList).foldl (fun tmps (t,a)=>tmps.setIfInBounds t a) nL:=by rw[←Array.foldl_toList,Array.toList_zip]
      rw[show(({tmps:=(params.toArray.zip args').foldl (fun tmps (t,a)=>tmps.setIfInBounds t a) nL,defers:=[]}:Act)).tmps=_ from e1];exact this
   ·cases h
 ·cases h
theorem W5{fr:Frame}{RT c:Frame}{cs:List Frame}{JN:World}{r:gh}{round:Option Nat}(h:tO P m bs φ H w fr (c::cs) r none round)(hs:Steps P (lone RT cs JN) (lone fr (c::cs) w))(hk:dm bs JN w):
 ∃bf w',WR bf bs r.H w'∧da m φ H bf r.H∧dm bs JN w'∧match r.e with
 |.gy v=>∃v',VR bf v v'∧Steps P (lone RT cs JN) (lone (c.finish v') cs w')
 |.iT ch=>∃c',CR bf ch c'∧Steps P (lone RT cs JN) (lone (c.raise c') cs w'):=by
 obtain⟨bf,w',h1,h2,h3,h4⟩:=h;refine⟨bf,w',h1,h2,hk.uV h3,?_⟩;cases round with
 |none=>
  obtain⟨jj,e',he,gM,hl,_⟩:=h4;obtain⟨e,up,H1⟩:=r;cases e with
  |gy v=>obtain⟨v',rfl,hv⟩:=he;exact⟨v',hv,hs.trans (gM.trans (.one (step_leave_returned hl)))⟩
  |iT ch=>obtain⟨c',rfl,hv⟩:=he;exact⟨c',hv,hs.trans (gM.trans (.one (step_leave_panicked hl)))⟩
 |some l=>
  have:=h4 c cs rfl;obtain⟨e,up,H1⟩:=r;cases e with
  |gy v=>obtain⟨v',hv,gM⟩:=this;exact⟨v',hv,hs.trans gM⟩
  |iT ch=>obtain⟨v',hv,gM⟩:=this;exact⟨v',hv,hs.trans gM⟩
theorem aew(hc:oQ P call)(b:Frame)(ops:Array Oper)(k:List Item)(cs:List Frame):Ki P call b ops k cs bs:=by
 intro a i rest o φ H w m aU r hm hb ho pM hw Uw ew kB;cases aU with
 |iC v H'=>cases kB;obtain⟨bf,w',v',h1,h2,h3,h4,h5⟩:=ew;refine⟨bf,w',h3,h4,h5,v',h2,?_⟩;rw[Ek ho];exact .one (Jj ho pM (by rw[Uw];exact h1))
 |qB f args=>obtain⟨args',h1,h2⟩:=ew;have:=Su (cs:=b.atR a (.inRegion ops (i::rest)::k)::cs) hc kB h2 hw hb hm trivial (kind:=.normal) rfl;exact W5 this (.one (avi ho pM (by rw[Uw];exact h1))) (dm.kN _ _)
 |uW l args=>
  obtain⟨e,args',h0,h1,h2⟩:=ew;simp only[ny]at kB;split at kB
  ·rename_i ob gE;obtain⟨f,tmps,assign,body,g1,g2⟩:=apn (m:=m) hc gE kB h0 h2 hw hb hm (b.atR a (.inRegion ops (i::rest)::k)::cs);exact W5 g2 (.one (avk ho pM (by rw[Uw,h1];exact g1))) (dm.kN _ _)
  ·cases kB
 |xR d=>cases kB
 |xS v=>cases kB
 |xU=>cases kB
end
theorem CR.mono{φ ψ:bu}(h:fq φ ψ):∀{c:rH} {l:List PanicEntry},CR φ c l->CR ψ c l
 |[],_,hc=>hc
 |(v,r)::c,l,hc=>by obtain⟨v',l',rfl,h1,h2⟩:=hc;exact⟨v',l',rfl,VR.qC h _ _ h1,CR.mono h h2⟩
theorem MR.mono{φ ψ:bu}(h:fq φ ψ){m:iq}{fm:FrameMode}(hm:MR φ m fm):MR ψ m fm:=by
 cases m with
 |fO=>exact hm
 |pA=>exact hm
 |oq c=>obtain⟨c',h1,h2⟩:=hm;exact⟨c',h1,h2.mono h⟩
theorem IR.mono{φ ψ:bu}(h:fq φ ψ){x:cg}{y:Item}(hx:IR φ x y):IR ψ x y:=by
 cases x<;>first
  |exact hx
  |(obtain⟨e,h1,h2⟩:=hx;exact⟨e,h _ _ h1,h2⟩)
theorem jY.mono{φ ψ:bu}(h:fq φ ψ):∀{xs:List cg} {ys:List Item},jY φ xs ys->jY ψ xs ys
 |[],_,hx=>hx
 |x::xs,ys,hx=>by obtain⟨y,qz,rfl,h1,h2⟩:=hx;exact⟨y,qz,rfl,h1.mono h,jY.mono h h2⟩
theorem RR.mono{φ ψ:bu}(h:fq φ ψ){r r':Option Nat}(hr:RR φ r r'):RR ψ r r':=by
 cases r with
 |none=>exact hr
 |some l=>obtain⟨e,h1,h2⟩:=hr;exact⟨e,h _ _ h1,h2⟩
theorem FR.zd{φ ψ:bu}(h:fq φ ψ){fr:cZ}{b:Frame}{a:Act}(hf:FR φ fr b a):FR ψ fr b a:=
 ⟨hf.fn,hf.tr.mono h,hf.dr.Dk h,hf.j_.mono h,hf.lV,hf.pF⟩
theorem ku.mono{φ ψ:bu}(h:fq φ ψ){up:Option iq}{cs:List Frame}(hu:ku φ up cs):ku ψ up cs:=by
 cases up with
 |none=>trivial
 |some u=>obtain⟨c,cs',h1,h2⟩:=hu;exact⟨c,cs',h1,h2.mono h⟩
def wv(up:Option iq)(cs oZ:List Frame):Prop:=
 match up with
 |none=>oZ=cs
 |some _=>∃c cs' u,cs=c::cs'∧oZ={c with mode:=u}::cs'
theorem wv.Dj{φ:bu}{up:Option iq}{cs:List Frame}(h:ku φ up cs):wv up cs cs:=by
 cases up with
 |none=>rfl
 |some u=>obtain⟨c,cs',rfl,_⟩:=h;exact⟨c,cs',c.mode,rfl,rfl⟩
def kO(P:Program)(m:Nat)(bs:ez)(φ:bu)(H:AH)(w:World)(fr:cZ)(cJ:Frame)(cs:List Frame):eU->Prop
 |.go fr' H'=>∃bf w' jj oZ,Steps P (lone cJ cs w) (lone jj oZ w')∧tM bf fr' jj∧ku bf fr'.up oZ∧wv fr.up cs oZ∧fr'.px=fr.px∧fr'.up.isSome=fr.up.isSome∧
   WR bf bs H' w'∧da m φ H bf H'∧dm bs w w'∧jj.fn=cJ.fn
 |.xV r=>tO P m bs φ H w cJ cs r fr.up fr.px
 |.ey _=>True
section
variable{P:Program}{call:iO}{bs:ez}{m:Nat}{H H':AH}{φ bf:bu}{w w':World}{fr fr':cZ}{b:Frame}{a a':Act}{todo rC:List Item}{cs:List Frame}
theorem zI(hs:Steps P (lone (b.atR a todo) cs w) (lone (b.atR a' rC) cs w'))(hf:FR bf fr' b a')(hr:fr'.lS=.fO)(hi:jY bf fr'.A0 rC)(hw:WR bf bs H' w')(he:da m φ H bf H')(hk:dm bs w w')
 (xj:fr'.up=fr.up) (gF:fr'.px=fr.px) (hu:ku φ fr.up cs):kO P m bs φ H w fr (b.atR a todo) cs (.go fr' H'):=by
 refine⟨bf,w',b.atR a' rC,cs,hs,?_,?_,wv.Dj hu,gF,by rw[xj],hw,he,hk,rfl⟩
 ·unfold tM;rw[hr];exact⟨b,a',rC,rfl,hf,hi⟩
 ·rw[xj];exact hu.mono he.1
theorem sC{k:List cg}(dU:fr.lS=.fO)(hs:Steps P (lone (b.atR a todo) cs w) (lone (b.atR a rC) cs w'))(sb:w'.heap=w.heap)(hf:FR φ fr b a)(hi:jY φ k rC)(hw:WR φ bs H w)(hu:ku φ fr.up cs)(gM:u5 w w':=by exact⟨rfl,rfl,rfl⟩):
 kO P m bs φ H w fr (b.atR a todo) cs (to fr H k):=by
 obtain⟨fn,tmps,nt,td,defers,mode,up,round⟩:=fr;exact zI hs ⟨hf.fn,hf.tr,hf.dr,hf.j_,hf.lV,hf.pF⟩ dU hi (hw.uM sb) (da.j9 _ _ _) (dm.uM sb gM) rfl rfl hu
theorem jY.OO{x:cg}{xs:List cg}{ys:List Item}(h:jY φ (x::xs) ys):∃y qz,ys=y::qz∧IR φ x y∧jY φ xs qz:=h
theorem axc:∀(c:Code) (l:Nat),findLabel c l=findLabel c l:=fun _ _=>rfl
theorem abd:∀{k:List cg} {ys:List Item} {id:Nat},jY φ k ys->match zC id k with|some k'=>∃qz,exitTo id ys=some qz∧jY φ k' qz|none=>exitTo id ys=none
 |[],ys,id,h=>by cases h;rfl
 |x::k,ys,id,h=>by
  obtain⟨y,qz,rfl,h1,h2⟩:=h;have ih:=abd (id:=id) h2;cases x with
  |tK jH=>
   cases h1;simp only[zC,exitTo];by_cases he:(jH==id)=true
   ·rw[aN he,aN he];exact⟨_,rfl,h2⟩
   ·rw[az he,az he];exact ih
  |f_ c=>cases h1;exact ih
  |pz c=>cases h1;exact ih
  |sH c=>cases h1;exact ih
  |A1 l=>obtain⟨e,_,rfl⟩:=h1;exact ih
  |zb l=>obtain⟨e,_,rfl⟩:=h1;exact ih
  |xQ=>cases h1;exact ih
  |jT ops i l=>obtain⟨rfl,_⟩:=h1;exact ih
theorem abV:∀{k:List cg} {ys:List Item} {l:Nat},jY φ k ys->match Br l k with|some k'=>∃qz,gotoIn l ys=some qz∧jY φ k' qz|none=>gotoIn l ys=none
 |[],ys,id,h=>by cases h;rfl
 |x::k,ys,id,h=>by
  obtain⟨y,qz,rfl,h1,h2⟩:=h;have ih:=abV (l:=id) h2;cases x with
  |sH c=>
   cases h1;simp only[Br,gotoIn];cases hl:findLabel c id with
   |some rest=>exact⟨_,rfl,_,_,rfl,rfl,_,_,rfl,rfl,h2⟩
   |none=>exact ih
  |f_ c=>cases h1;exact ih
  |pz c=>cases h1;exact ih
  |tK c=>cases h1;exact ih
  |A1 l=>obtain⟨e,_,rfl⟩:=h1;exact ih
  |zb l=>obtain⟨e,_,rfl⟩:=h1;exact ih
  |xQ=>cases h1;exact ih
  |jT ops i l=>obtain⟨rfl,_⟩:=h1;exact ih
theorem WR.loop(hw:WR φ bs H w){l d:Nat}{st mU:LoopState}{p p':Option Code}{fn:Nat}{tmps:Tr AV}{nt:Nat}{ps:List Tmp}{x y:Code}{e:PE}(he:φ l=some e)(ho:H.bD l=some (.gG st p fn tmps nt ps x y d)):
 ∃r:Loop,w.heap[e.b]? =some (.loop r)∧r.state=st∧r.pending=p∧WR φ bs (H.dS l (.gG mU p' fn tmps nt ps x y d)) (w.putObj e.b (.loop {r with state:=mU,pending:=p'}))∧dm bs w (w.putObj e.b (.loop {r with state:=mU,pending:=p'})):=by
 obtain⟨o,hg,nL,ed,rfl,hd,ht⟩:=hw.fP l _ e ho he;have an:=(hw.lt l e he).1;refine⟨_,hg,rfl,rfl,?_,?_⟩
 ·exact hw.put ho rfl he World.putObj_size (fun b hb=>World.putObj_heap_other hb) ⟨_,World.putObj_heap_same an,nL,ed,rfl,hd,ht⟩
 ·exact dm.IG hw he World.putObj_size (fun b hb=>World.putObj_heap_other hb)
theorem M5(dU:fr.lS=.fO)(hf:FR φ fr b a)(hw:WR φ bs H w)(hu:ku φ fr.up cs){oE:Option Code}
 (h1:b.roundOf=none->(oE=none∨oE=some .ret)->step P (lone (b.atR a todo) cs w)=.next (lone {b.atR a todo with mode:=.returning} cs w))
 (h2:∀l c cs' v w',cs=c::cs'->b.roundOf=some l->b.kind=.normal->(Instr.endRound l oE).run P w=.ok v w'->step P (lone (b.atR a todo) (c::cs') w)=.next (lone (c.finish v) cs' w')):
 kO P m bs φ H w fr (b.atR a todo) cs (ri fr H oE):=by
 obtain⟨fn,tmps,nt,td,defers,mode,up,round⟩:=fr;cases dU;cases round with
 |none=>
  have gF:b.roundOf=none:=hf.j_;have key:(oE=none∨oE=some .ret)->kO P m bs φ H w ⟨fn,tmps,nt,td,defers,.fO,up,none⟩ (b.atR a todo) cs (.go ⟨fn,tmps,nt,td,defers,.pA,up,none⟩ H):=by intro hj;refine⟨φ,w,{b.atR a todo with mode:=.returning},cs,.one (h1 gF hj),⟨⟨hf.fn,hf.tr,hf.dr,hf.j_,hf.lV,hf.pF⟩,rfl⟩,hu,wv.Dj hu,rfl,rfl,hw,da.j9 _ _ _,dm.kN _ _,rfl⟩
  simp only[ri];split
  ·exact key (.inl rfl)
  ·exact key (.inr rfl)
  ·trivial
 |some l=>
  obtain⟨e,he,gF⟩:=hf.j_;simp only[ri,Vt];split
  ·rename_i st p lf lt ln ps x y d gE;have xj:up=none:=by
    cases up with
    |none=>rfl
    |some u=>have:=hf.pF rfl;cases this
   subst xj;have gM:(if oE.isNone then LoopState.ready else .done)=(bif oE.isNone then .ready else .done):=by cases oE<;>rfl
   obtain⟨r,hg,_,_,n5,nZ⟩:=hw.loop (mU:=bif oE.isNone then .ready else .done) (p':=oE) he gE;refine⟨φ,_,n5,da.nQ he _,nZ,?_⟩;intro c cs' iu;have hr:=run_endRound (P:=P) oE hg;rw[gM]at hr;subst iu;exact⟨_,rfl,.one (h2 e.b c cs' _ _ rfl gF hf.lV hr)⟩
  ·trivial
theorem amT(dU:fr.lS=.fO)(hf:FR φ fr b a)(hw:WR φ bs H w)(hu:ku φ fr.up cs):kO P m bs φ H w fr (b.atR a []) cs (ri fr H none):=
 M5 dU hf hw hu (fun hb _=>stepR_end hb) (fun l c cs' v w' _ gF hk hr=>stepR_round_end gF hk hr)
theorem amW(dU:fr.lS=.fO)(hf:FR φ fr b a)(hw:WR φ bs H w)(hu:ku φ fr.up cs){k:List Item}:kO P m bs φ H w fr (b.atR a (.code .ret::k)) cs (ri fr H (some .ret)):=
 M5 dU hf hw hu (fun hb _=>stepR_ret hb) (fun l c cs' v w' _ gF hk hr=>stepR_round_ret gF hk hr)
theorem amU(dU:fr.lS=.fO)(hf:FR φ fr b a)(hw:WR φ bs H w)(hu:ku φ fr.up cs){k:List Item}{id:Nat}(hx:exitTo id k=none):kO P m bs φ H w fr (b.atR a (.code (.exit id)::k)) cs (ri fr H (some (.exit id))):=
 M5 dU hf hw hu (fun _ h=>by rcases h with h|h<;>cases h) (fun l c cs' v w' _ gF hk hr=>stepR_round_exit gF hk hx hr)
theorem amV(dU:fr.lS=.fO)(hf:FR φ fr b a)(hw:WR φ bs H w)(hu:ku φ fr.up cs){k:List Item}{id:Nat}(hx:gotoIn id k=none):kO P m bs φ H w fr (b.atR a (.code (.goto id)::k)) cs (ri fr H (some (.goto id))):=
 M5 dU hf hw hu (fun _ h=>by rcases h with h|h<;>cases h) (fun l c cs' v w' _ gF hk hr=>stepR_round_goto gF hk hx hr)
theorem air(dU:fr.lS=.fO)(hf:FR φ fr b a)(hw:WR φ bs H w)(hu:ku φ fr.up cs){k:List cg}{ks:List Item}(hi:jY φ k ks):kO P m bs φ H w fr (b.atR a (.beginRound::ks)) cs (Je fr H k):=by
 obtain⟨fn,tmps,nt,td,defers,mode,up,round⟩:=fr;cases dU;cases round with
 |none=>trivial
 |some l=>
  obtain⟨e,he,gF⟩:=hf.j_;simp only[Je];split
  ·rename_i p lf lt ln ps x y d gE;obtain⟨r,hg,gM,hp,n5,nZ⟩:=hw.loop (mU:=.busy) (p':=p) he gE;have hr:=run_beginRound (P:=P) hg gM;have e2:({r with state:=.busy,pending:=p}:Loop)={r with state:=.busy}:=by rw[←hp]
   rw[e2]at n5 nZ;exact zI (.one (stepR_beginRound gF hr)) ⟨hf.fn,hf.tr,hf.dr,hf.j_,hf.lV,hf.pF⟩ rfl hi n5 (da.nQ he _) nZ rfl rfl hu
  ·trivial
theorem ajB(dU:fr.lS=.fO)(hf:FR φ fr b a)(hw:WR φ bs H w)(hu:ku φ fr.up cs){l:Nat}{e:PE}(he:φ l=some e){k:List cg}{ks:List Item}(hi:jY φ k ks):kO P m bs φ H w fr (b.atR a (.endRangeFunc e.b::ks)) cs (Jg fr H l k):=by
 have key:∀(st:LoopState) p lf lt ln ps x y d,H.bD l=some (.gG st p lf lt ln ps x y d)->st≠.busy->kO P m bs φ H w fr (b.atR a (.endRangeFunc e.b::ks)) cs (to fr (H.dS l (.gG .exhausted p lf lt ln ps x y d)) (NQ p k)):=by
  intro st p lf lt ln ps x y d gE gM;obtain⟨r,hg,al7,hp,n5,nZ⟩:=hw.loop (mU:=.exhausted) (p':=p) he gE;have hr:=run_endLoop (P:=P) hg (by rw[al7];exact gM);rw[hp]at hr;obtain⟨fn,tmps,nt,td,defers,mode,up,round⟩:=fr;cases dU;refine zI (.one (stepR_endRangeFunc hr)) ⟨hf.fn,hf.tr,hf.dr,hf.j_,hf.lV,hf.pF⟩ rfl ?_ n5 (da.nQ he _) nZ rfl rfl hu;cases p with
  |none=>exact hi
  |some c=>exact⟨_,_,rfl,rfl,hi⟩
 unfold Jg;split
 ·rename_i gE;exact key _ _ _ _ _ _ _ _ _ gE (by simp)
 ·rename_i gE;exact key _ _ _ _ _ _ _ _ _ gE (by simp)
 ·trivial
end
section
variable{P:Program}{call:iO}{bs:ez}{m:Nat}{H H':AH}{φ bf:bu}{w w':World}{fr fr':cZ}{b:Frame}{a a':Act}{todo rC:List Item}{cs:List Frame}
theorem NH{o:Oper}{v:AV}{v':Value}{agL:List cg}(dU:fr.lS=.fO)(hs:Steps P (lone (b.atR a todo) cs w) (lone (b.atR (a.put o.dst v') rC) cs w'))(hf:FR bf fr b a)(hv:VR bf v v')(hi:jY bf agL rC)
 (hw:WR bf bs H' w') (he:da m φ H bf H') (hk:dm bs w w') (hu:ku φ fr.up cs):kO P m bs φ H w fr (b.atR a todo) cs (rp fr o agL v H'):=by
 obtain⟨fn,tmps,nt,td,defers,mode,up,round⟩:=fr;cases dU;simp only[rp];split
 ·rename_i t kC;exact zI hs ⟨hf.fn,TR.put hf.tr kC hv,by rw[AD];exact hf.dr,hf.j_,hf.lV,hf.pF⟩ rfl hi hw he hk rfl rfl hu
 ·trivial
theorem WD{c:rH}{c':List PanicEntry}(dU:fr.lS=.fO)(hs:Steps P (lone (b.atR a todo) cs w) (lone ((b.atR a' rC).raise c') cs w'))(hd:a'.defers=a.defers){t:Tr AV}(ht:TR bf t fr.nt a'.tmps){k:List cg}(hf:FR φ fr b a)(hc:CR bf c c')
 (hw:WR bf bs H' w') (he:da m φ H bf H') (hk:dm bs w w') (hu:ku φ fr.up cs):kO P m bs φ H w fr (b.atR a todo) cs (.go ⟨fr.fn,t,fr.nt,k,fr.JP,FN fr.lS c,fr.up,fr.px⟩ H'):=by
 obtain⟨fn,tmps,nt,td,defers,mode,up,round⟩:=fr;cases dU;have L9:=hf.zd he.1;refine⟨bf,w',(b.atR a' rC).raise c',cs,hs,⟨⟨hf.fn,ht,?_,L9.j_,hf.lV,hf.pF⟩,⟨c',rfl,hc⟩⟩,hu.mono he.1,wv.Dj hu,rfl,rfl,hw,he,hk,rfl⟩;show nw bf defers a'.defers;rw[hd];exact L9.dr
theorem auV{ops:Array Oper}{i:Nat}{o:Oper}{rest:List Oper}(h:o::rest=ops.toList.drop i):ops[i]? =some o∧rest=ops.toList.drop (i+1):=by
 constructor
 ·have:(ops.toList.drop i)[0]? =some o:=by rw[←h];rfl
  rw[List.getElem?_drop]at this;simpa using this
 ·have:(ops.toList.drop i).drop 1=rest:=by rw[←h];rfl
  rw[List.drop_drop]at this;exact this.symm
theorem agz{ops:Array Oper}{k:List Item}{i:Nat}{rest:LN}{o:Oper}(ho:ops[i]? =some o)(hw:Region.wanted o (yielded ops a.tmps)=true)(hb:b.roundOf=none)
 (hr:(o.semAt b.roundOf a.eval).run P w=.ok .recover w'):
 step P (lone (b.atR a (.inRegion ops (i::rest)::k)) cs w)=match tryRecover (b.atR a (.inRegion ops (i::rest)::k)) cs with
  |some (v,cs')=>.next (lone (b.atR (a.put o.dst v) (.inRegion ops rest::k)) cs' w')
  |none=>.next (lone (b.atR (a.put o.dst .nilIface) (.inRegion ops rest::k)) cs w'):=by
 have hg:=stepGR_op (P:=P) (b:=b) (k:=k) (cs:=cs) (w:=w) (rest:=rest) ho hw;have gF:(b.atR a (.inRegion ops (i::rest)::k)).roundOf=none:=hb;cases ht:tryRecover (b.atR a (.inRegion ops (i::rest)::k)) cs with
 |none=>simp only;refine step_lone_go ?_;rw[hg,←Ek ho];simp[stepG.apply,hr,gF,ht]
 |some r=>obtain⟨v,cs'⟩:=r;simp only;refine step_lone_go ?_;rw[hg,←Ek ho];simp[stepG.apply,hr,gF,ht]
theorem auW(hc:oQ P call)(dU:fr.lS=.fO)(hf:FR φ fr b a)(hw:WR φ bs H w)(hb:gQ bs w)(hm:m<=H.bW)(hu:ku φ fr.up cs){ops:Array Oper}{i:Nat}{o:Oper}{rest:List Oper}{k:List cg}{ks:List Item}(s7:o::rest=ops.toList.drop i)
 (hi:jY φ k ks):kO P m bs φ H w fr (b.atR a (.inRegion ops (List.range' i (rest.length+1))::ks)) cs (y7 P call fr H ops i o rest k):=by
 obtain⟨ho,al4⟩:=auV s7;rw[List.range'_succ];have xi:=hf.tr;have BV:∀{ψ:bu},fq φ ψ->jY ψ (.jT ops (Nat.succ i) rest::k) (.inRegion ops (List.range' (i+1) rest.length)::ks):=fun h=>⟨_,_,rfl,⟨rfl,al4⟩,hi.mono h⟩
 have vN:mX φ (iD fr.py) a.eval o.op.operands.toList:=TR.oM xi _;obtain⟨fn,tmps,nt,td,defers,mode,up,round⟩:=fr;cases dU;simp only at xi vN;simp only[y7];cases pM:kL ops o tmps.cb with
 |none=>trivial
 |some bb=>
  simp only;have pN:Region.wanted o (yielded ops a.tmps)=bb:=ag0 (cur:=tmps) pM fun g pw d x _ _ hx=>xi.2 d x hx
  cases bb with
  |false=>simp only[cond_false];refine NH (v':=undef) rfl (.one ?_) hf (Gd φ) (BV (fq.tL φ)) hw (da.j9 _ _ _) (dm.kN _ _) hu;have:=stepR_op_skip (P:=P) (b:=b) (a:=a) (k:=ks) (cs:=cs) (w:=w) (ops:=ops) (i:=i) (rest:=List.range' (i+1) rest.length) (by simp[ho,pN]);simpa[ho]using this
  |true=>
   simp only[cond_true];cases hr:n7 o.op with
   |true=>
    simp only[cond_true];cases hv:gg P (iD tmps) H o.op with
    |none=>trivial
    |some v=>obtain⟨v',h1,h2⟩:=afd hw vN hv;simp only[FU];exact NH (v':=v') rfl (.one (Jj ho pN (.inl (by rw[y5 _ _ (afc hr)];exact h1)))) hf h2 (BV (fq.tL φ)) hw (da.j9 _ _ _) (dm.kN _ _) hu
   |false=>
    simp only[cond_false];cases xc:qg o.op with
    |true=>
     simp only[cond_true];cases ue:n8 P (iD tmps) o.op with
     |none=>trivial
     |some r=>obtain⟨ob,g⟩:=r;obtain⟨hh,n⟩:=H;obtain⟨o',sz,f,h1,h2,h3,h4⟩:=adF vN ue;obtain⟨g1,g2,g3⟩:=hw.yM (m:=m) (n:=sz) hb h2 hm;simp only[CL];exact NH (v':=f w.heap.size) rfl (.one (Jj ho pN (.inl (by rw[y5 _ _ (adE ue)];exact h1 w)))) (hf.zd g2.1) (h3 _ n _ (ov ..)) (BV g2.1) g1 g2 g3 hu
    |false=>
     simp only[cond_false];cases ew:oz P (iD tmps) H o.op with
     |none=>trivial
     |some aU=>
      have z6:=acf (P:=P) (m:=m) hw hb hm vN ew;have alB:∀r,ny P call H none aU=some r->kO P m bs φ H w ⟨fn,tmps,nt,td,defers,.fO,up,round⟩ (b.atR a (.inRegion ops (i::List.range' (i+1) rest.length)::ks)) cs
       (FV ⟨fn,tmps,nt,td,defers,.fO,up,round⟩ o (.jT ops (Nat.succ i) rest::k) (some r)):=by
       intro r kB;have mb:∀c,o.op≠.defer c:=by
        intro cc lF;rw[lF]at ew;simp only[oz,BH]at ew;split at ew
        ·split at ew
         ·rename_i fn first kv l _ _
          cases hy:uo fn with
          |true=>rw[hy]at ew;cases ew
          |false=>rw[hy]at ew;cases ew;simp[ny]at kB
         ·cases ew
        ·cases ew
       obtain⟨bf,w',g1,g2,g3,g4⟩:=aew hc b ops ks cs a i (List.range' (i+1) rest.length) o φ H w m aU r hm hb ho pN hw (y5 _ _ mb) z6 kB;obtain⟨e,Ge,H1⟩:=r;cases e with
       |gy v=>obtain⟨v',hv,qe⟩:=g4;rw[Ek ho]at qe;exact NH rfl qe (hf.zd g2.1) hv (BV g2.1) g1 g2 g3 hu
       |iT c=>obtain⟨c',zO,qe⟩:=g4;exact WD (fr:=⟨fn,tmps,nt,td,defers,.fO,up,round⟩) rfl qe rfl (xi.mono g2.1) hf zO g1 g2 g3 hu
      have kB:kO P m bs φ H w ⟨fn,tmps,nt,td,defers,.fO,up,round⟩ (b.atR a (.inRegion ops (i::List.range' (i+1) rest.length)::ks)) cs
       (FV ⟨fn,tmps,nt,td,defers,.fO,up,round⟩ o (.jT ops (Nat.succ i) rest::k) (ny P call H none aU)):=by
       cases hd:ny P call H none aU with
       |none=>trivial
       |some r=>exact alB r hd
      have axo:∀{c:Call},o.op=.defer c->round=none->o.semAt b.roundOf a.eval=execOp a.eval o:=by intro c _ gF;subst gF;have:b.roundOf=none:=hf.j_;rw[this];rfl
      cases aU with
      |iC v H1=>exact kB
      |qB f args=>exact kB
      |uW l args=>exact kB
      |xR d=>
       simp only[xE,aga];split
       ·rename_i e;cases e;split
        ·rename_i t kC;obtain⟨d',h1,h2⟩:=z6;have gF:b.roundOf=none:=hf.j_;refine zI (.one (avh ho pN (by rw[gF];exact h1))) ⟨hf.fn,TR.put (a:=⟨a.tmps,d'::a.defers⟩) xi kC (Gd φ),?_,hf.j_,hf.lV,hf.pF⟩ rfl (BV (fq.tL φ)) hw (da.j9 _ _ _) (dm.kN _ _) rfl rfl hu;rw[AD];exact⟨d',a.defers,rfl,h2,hf.dr⟩
        ·trivial
       ·trivial
      |xS v=>
       obtain⟨v',h1,h2⟩:=z6;have mb:∀c,o.op≠.defer c:=by
        intro cc lF;rw[lF]at ew;simp only[oz,BH]at ew;split at ew
        ·split at ew
         ·rename_i fn first kv l _ _
          cases hy:uo fn with
          |true=>rw[hy]at ew;cases ew
          |false=>rw[hy]at ew;cases ew
         ·cases ew
        ·cases ew
       exact WD (fr:=⟨fn,tmps,nt,td,defers,.fO,up,round⟩) (c':=[{v:=v',recovered:=false}]) rfl (.one (avj ho pN (by rw[y5 _ _ mb];exact h1))) rfl xi hf ⟨v',[],rfl,h2,rfl⟩ hw (da.j9 _ _ _) (dm.kN _ _) hu
      |xU=>
       have mb:∀c,o.op≠.defer c:=by
        intro cc lF;rw[lF]at ew;simp only[oz,BH]at ew;split at ew
        ·split at ew
         ·rename_i fn first kv l _ _
          cases hy:uo fn with
          |true=>rw[hy]at ew;cases ew
          |false=>rw[hy]at ew;cases ew
         ·cases ew
        ·cases ew
       simp only[oT]at z6;simp only[xE,agb];have Mn:∀(gF:round=none),(∀v FI,up≠some (.oq ((v,false)::FI)))->∀t,mT nt tmps o.dst .my=some t->
        kO P m bs φ H w ⟨fn,tmps,nt,td,defers,.fO,up,round⟩ (b.atR a (.inRegion ops (i::List.range' (i+1) rest.length)::ks)) cs (.go ⟨fn,t,nt,.jT ops (Nat.succ i) rest::k,defers,.fO,up,round⟩ H):=by
        intro gF iH t kC;subst gF;have k6:=agz (P:=P) (b:=b) (k:=ks) (cs:=cs) (w:=w) (w':=w) (rest:=List.range' (i+1) rest.length) ho pN hf.j_ (by rw[y5 _ _ mb];exact z6);have UA:tryRecover (b.atR a (.inRegion ops (i::List.range' (i+1) rest.length)::ks)) cs=none:=by
         cases up with
         |none=>have hk:b.kind=.normal:=hf.lV;unfold tryRecover;rw[show(b.atR a (.inRegion ops (i::List.range' (i+1) rest.length)::ks)).kind=b.kind from rfl,hk]
         |some u=>
          obtain⟨c,cs',rfl,zU⟩:=hu;have hk:b.kind=.deferred:=hf.lV;unfold tryRecover;rw[show(b.atR a (.inRegion ops (i::List.range' (i+1) rest.length)::ks)).kind=b.kind from rfl,hk];simp only;cases u with
          |fO=>rw[zU]
          |pA=>rw[zU]
          |oq ch=>
           obtain⟨sQ,e1,zN⟩:=zU;rw[e1];cases ch with
           |nil=>simp only[CR]at zN;subst zN;rfl
           |cons x ch=>
            obtain⟨v,rec⟩:=x;obtain⟨v',l',rfl,_,_⟩:=zN;cases rec with
            |false=>exact(iH v ch rfl).elim
            |true=>rfl
        rw[UA]at k6;exact zI (.one k6) ⟨hf.fn,TR.put xi kC (show VR φ .my .nilIface from rfl),by rw[AD];exact hf.dr,hf.j_,hf.lV,hf.pF⟩ rfl (BV (fq.tL φ)) hw (da.j9 _ _ _) (dm.kN _ _) rfl rfl hu
       split
       ·rename_i v FI e;cases e;split
        ·rename_i t kC;have k6:=agz (P:=P) (b:=b) (k:=ks) (cs:=cs) (w:=w) (w':=w) (rest:=List.range' (i+1) rest.length) ho pN hf.j_ (by rw[y5 _ _ mb];exact z6);obtain⟨c,cs',rfl,sQ,e1,zN⟩:=hu;obtain⟨v',l',rfl,hv,hl⟩:=zN;have hk:b.kind=.deferred:=hf.lV;have UA:tryRecover (b.atR a (.inRegion ops (i::List.range' (i+1) rest.length)::ks)) (c::cs')=some (v',{c with mode:=.panicking ({v:=v',recovered:=true}::l')}::cs'):=by unfold tryRecover;rw[show(b.atR a (.inRegion ops (i::List.range' (i+1) rest.length)::ks)).kind=b.kind from rfl,hk];simp only[e1]
         rw[UA]at k6;refine⟨φ,w,_,_,.one k6,⟨b,_,_,rfl,⟨hf.fn,TR.put xi kC hv,by rw[AD];exact hf.dr,hf.j_,hf.lV,hf.pF⟩,BV (fq.tL φ)⟩,⟨_,_,rfl,_,rfl,v',l',rfl,hv,hl⟩,⟨c,cs',_,rfl,rfl⟩,rfl,rfl,hw,da.j9 _ _ _,dm.kN _ _,rfl⟩
        ·trivial
       ·rename_i iH e;cases e;split
        ·rename_i t kC;exact Mn rfl (fun v FI hh=>iH v FI hh) t kC
        ·trivial
       ·trivial
end
section
variable{P:Program}{call:iO}{bs:ez}{m:Nat}{H H':AH}{φ bf:bu}{w w':World}{fr fr':cZ}{b:Frame}{a a':Act}{todo rC:List Item}{cs:List Frame}
theorem avd{c:Code}{k:List Item}:step P (lone (b.atR a (.code (.scope c)::k)) cs w)=.next (lone (b.atR a (.code c::.inScope c::k)) cs w):=
 step_lone_go (by simp[stepG,stepG.exec,Frame.atR])
theorem avc{c:Code}{k:List Item}:step P (lone (b.atR a (.inScope c::k)) cs w)=.next (lone (b.atR a k) cs w):=
 step_lone_go (by simp[stepG,stepG.exec,Frame.atR])
theorem apb(dQ:P.follows .mixedOrders=true)(hc:oQ P call)(dU:fr.lS=.fO)(hf:FR φ fr b a)(hw:WR φ bs H w)(hb:gQ bs w)(hm:m<=H.bW)(hu:ku φ fr.up cs){id:Nat}{ops:Array Oper}{pZ:Bool}{k:List cg}{ks:List Item}
 (hi:jY φ k ks):kO P m bs φ H w fr (b.atR a (.code (.region id ops pZ)::ks)) cs (FY P call fr H ops pZ k):=by
 cases pZ with
 |false=>simp only[FY,cond_false];refine sC dU (.one stepR_region) rfl hf ⟨_,_,rfl,⟨?_,rfl⟩,hi⟩ hw hu;rw[Array.length_toList,List.range_eq_range']
 |true=>
  obtain⟨fn,tmps,nt,td,defers,mode,up,round⟩:=fr;cases dU;simp only[FY,cond_true];cases jG:FM ops with
  |none=>trivial
  |some pl=>
   simp only;have sb:WR φ bs H {w with drawn:=w.drawn+1}:=hw.uM rfl;have h0:=stepR_region_draw (P:=P) (b:=b) (a:=a) (k:=ks) (cs:=cs) (w:=w) (ops:=ops) (id:=id);have Um:=aoe (call:=call) (k:=ks) jG dQ (aew (bs:=bs) hc b ops ks cs) (w.tape w.drawn (.order b.fn id)) sb hb hm hf.tr;have s9:dm bs w {w with drawn:=w.drawn+1}:=dm.uM rfl;generalize sm P call ops pl.ms tmps nt pl.A4 [] tmps H=r at Um;cases r with
   |ey s=>trivial
   |aw t H1=>obtain⟨mW,w1,a1,g1,g2,g3,g4,g5,g6⟩:=Um;simp only[NM];have kz:=hf.zd g5.1;exact zI (.head h0 (g1.trans (.one stepR_region_end))) ⟨hf.fn,g3,by rw[g2];exact kz.dr,kz.j_,hf.lV,hf.pF⟩ rfl (hi.mono g5.1) g4 g5 (s9.uV g6) rfl rfl hu
   |iT c H1=>obtain⟨mW,w1,a1,cl1,c1,g1,g2,g3,g4,g5,g6,g7⟩:=Um;simp only[NM];exact WD (fr:=⟨fn,tmps,nt,td,defers,.fO,up,round⟩) (k:=k) rfl (.head h0 g1) g2 g3 hf g7 g4 g5 (s9.uV g6) hu
theorem nw.X9:∀{as:List iZ} {ds:List Deferred} {pG:List iZ} {p6:List Deferred},nw φ as ds->nw φ pG p6->nw φ (as++pG) (ds++p6)
 |[],ds,pG,p6,h,h'=>by cases h;exact h'
 |x::as,ds,pG,p6,h,h'=>by obtain⟨d,ds1,rfl,h1,h2⟩:=h;exact⟨d,ds1++p6,rfl,h1,nw.X9 h2 h'⟩
theorem ae6(hc:oQ P call)(dU:fr.lS=.fO)(hf:FR φ fr b a)(hu:ku φ fr.up cs){f:Operand}{params:Array Tmp}{assign body:Code}{k:List cg}{ks:List Item}(hi:jY φ k ks)
 {mW:bu} {h:Tr bc} {n:Nat} {w1:World} {d:Nat} {ed:PE} {mark:List iZ} {Iz:List Deferred} (tc:WR mW bs ⟨h,n⟩ w1) (zP:da m φ H mW ⟨h,n⟩) (kX:dm bs w w1) (lE:gQ bs w1) (T9:m<=n) (hd:mW d=some ed) (alL:nw mW mark Iz)
 (qS:(Instr.enterLoop b.fn a.tmps params assign body b.roundOf).run P w=.ok (w1.heap.size,Iz) (w1.alloc (.loop {state:=.ready,pending:=none,fn:=b.fn,tmps:=a.tmps,params,assign,body,defers:=ed.b}))):
 kO P m bs φ H w fr (b.atR a (.code (.rangeFunc f params assign body)::ks)) cs (Lb P call fr f params assign body k (some (d,mark,⟨h,n⟩))):=by
 obtain⟨fn,tmps,nt,td,defers,mode,up,round⟩:=fr;cases dU;simp only[Lb];have kz:=hf.zd zP.1;have eD:b.fn=fn:=hf.fn;obtain⟨g1,g2,g3⟩:=tc.yM (m:=m) (n:=0) (ob:=.gG .ready none fn tmps nt params.toList assign body d) (o':=.loop {state:=.ready,pending:=none,fn:=b.fn,tmps:=a.tmps,params,assign,body,defers:=ed.b}) lE
  (fun ψ bb UW=>⟨a.tmps,ed,by simp[eD],UW _ _ hd,kz.tr.mono UW⟩) T9
 have jV:=kz.zd g2.1;have L4:=zP.zc g2;have alN:(AH.mk h n).bW=n:=rfl;rw[alN]at g1 g2 jV L4;have hyv:VR (j4 mW n ⟨w1.heap.size,0,0⟩) (.gJ n) (.func (.yield w1.heap.size) #[] #[]):=⟨_,ov ..,rfl⟩;cases hr:(iD tmps f).bind fun g=>(Ee (wF P g [.gJ n])).bind (ny P call (AH.iN ⟨h,n⟩ (.gG .ready none fn tmps nt params.toList assign body d)) none)with
 |none=>trivial
 |some r=>
  cases hg:iD tmps f with
  |none=>rw[hg]at hr;cases hr
  |some g=>
   rw[hg]at hr;simp only[Option.bind_some]at hr;cases vu:wF P g [.gJ n]with
   |none=>rw[vu]at hr;cases hr
   |some aU=>
    rw[vu]at hr;have Me:=TR.oM jV.tr [f] f (by simp) g hg;have iu:=(KN (P:=P) (m:=m) (base:=bs) (H:=AH.iN ⟨h,n⟩ (.gG .ready none fn tmps nt params.toList assign body d)) (AU:= #[.func (.yield w1.heap.size) #[] #[]]) vu Me ⟨_,_,rfl,hyv,rfl⟩).1
     (w1.alloc (.loop {state:=.ready,pending:=none,fn:=b.fn,tmps:=a.tmps,params,assign,body,defers:=ed.b}))
    cases aU with
    |qB g' args=>
     simp only[Ee,Option.bind_some]at hr;obtain⟨args',h1,h2⟩:=iu;rw[Sem.run_bind]at h1;cases TJ:(Deferred.ofValue (a.eval f) #[.func (.yield w1.heap.size) #[] #[]]).run P (w1.alloc (.loop {state:=.ready,pending:=none,fn:=b.fn,tmps:=a.tmps,params,assign,body,defers:=ed.b}))with
     |halt x w2=>rw[TJ]at h1;cases h1
     |ok d2 w2=>
      rw[TJ]at h1;simp only[Result.andThen_ok]at h1;have k6:=stepR_rangeFunc (P:=P) (b:=b) (a:=a) (k:=ks) (cs:=cs) (w:=w) (g:=f) qS (d:=d2) (w₁':=w2) (by have hk:a.eval (.const (.func (.yield w1.heap.size) #[] #[]))=.func (.yield w1.heap.size) #[] #[]:=rfl;simpa[resolve,rangeCall,hk]using TJ) h1;have Ut:=Su (cs:=b.atR {a with defers:=Iz++a.defers} (.inRangeFunc w1.heap.size::ks)::cs) (m:=m) hc hr h2 g1 (lE.Dl g3.1) (Nat.le_trans T9 g2.2.1) trivial (kind:=.normal) rfl;obtain⟨X7,w3,q1,q2,q3,q4⟩:=W5 Ut (.one k6) (kX.uV g3);have HW:=jV.zd q2.1;have L5:=L4.zc q2;have hn3:X7 n=some ⟨w1.heap.size,0,0⟩:=q2.1 _ _ (ov ..);have acv:nw X7 (mark++defers) (Iz++a.defers):=((alL.Dk g2.1).Dk q2.1).X9 HW.dr;obtain⟨e,Ge,H3⟩:=r;cases e with
      |gy v=>obtain⟨v',hv,qe⟩:=q4;rw[finish_atR_inRangeFunc]at qe;exact zI qe ⟨hf.fn,HW.tr,acv,HW.j_,hf.lV,hf.pF⟩ rfl ⟨_,_,rfl,⟨_,hn3,rfl⟩,hi.mono L5.1⟩ q1 L5 q3 rfl rfl hu
      |iT c=>obtain⟨c',zO,qe⟩:=q4;exact⟨X7,w3,_,cs,qe,⟨⟨hf.fn,HW.tr,acv,HW.j_,hf.lV,hf.pF⟩,⟨c',rfl,zO⟩⟩,hu.mono L5.1,wv.Dj hu,rfl,rfl,q1,L5,q3,rfl⟩
    |_=>cases hr
theorem aoU(hc:oQ P call)(dU:fr.lS=.fO)(hf:FR φ fr b a)(hw:WR φ bs H w)(hb:gQ bs w)(hm:m<=H.bW)(hu:ku φ fr.up cs){f:Operand}{params:Array Tmp}{assign body:Code}{k:List cg}{ks:List Item}
 (hi:jY φ k ks):kO P m bs φ H w fr (b.atR a (.code (.rangeFunc f params assign body)::ks)) cs (Ji P call fr H f params assign body k):=by
 obtain⟨fn,tmps,nt,td,defers,mode,up,round⟩:=fr;cases dU;simp only[Ji];cases round with
 |none=>obtain⟨h,n⟩:=H;simp only[Nc];obtain⟨g1,g2,g3⟩:=hw.yM (m:=m) (n:=0) (ob:=.oP (some [])) (o':=.deferred (some [])) hb (fun ψ bb UW=>⟨[],rfl,rfl⟩) hm;have gF:b.roundOf=none:=hf.j_;have qS:=run_enterLoop_outer (P:=P) (w:=w) b.fn a.tmps params assign body;rw[←gF]at qS;have cW:(w.alloc (.deferred (some []))).heap.size=w.heap.size+1:=Q7 _ _;rw[←cW]at qS;exact ae6 hc rfl hf hu hi g1 g2 g3 (hb.Dl g3.1) (Nat.le_trans hm g2.2.1) (ov ..) ⟨_,_,rfl,⟨_,ov ..,rfl⟩,rfl⟩ qS
 |some l=>
  obtain⟨e,he,gF⟩:=hf.j_;simp only[Nc];cases gE:H.bD l with
  |none=>trivial
  |some ob=>
   cases ob with
   |gG st p lf lt ln ps x y d=>simp only;obtain⟨o,hg,nL,ed,rfl,hd,ht⟩:=hw.fP l _ e gE he;obtain⟨h,n⟩:=H;refine ae6 hc rfl hf hu hi hw (da.j9 _ _ _) (dm.kN _ _) hb hm hd (Iz:=[]) rfl ?_;rw[gF];unfold Instr.enterLoop;simp only[Sem.run_bind,run_getLoop hg,run_newObj_alloc,Result.andThen,Sem.run_pure]
   |_=>trivial
theorem aiZ(dQ:P.follows .mixedOrders=true)(hc:oQ P call)(dU:fr.lS=.fO)(hf:FR φ fr b a)(hw:WR φ bs H w)(hb:gQ bs w)(hm:m<=H.bW)(hu:ku φ fr.up cs){c:Code}{k:List cg}{ks:List Item}
 (hi:jY φ k ks):kO P m bs φ H w fr (b.atR a (.code c::ks)) cs (wc P call fr H k c):=by
 cases c with
 |ret=>exact amW dU hf hw hu
 |skip=>exact sC dU (.one stepR_skip) rfl hf hi hw hu
 |label l=>exact sC dU (.one stepR_label) rfl hf hi hw hu
 |seq x y=>exact sC dU (.one stepR_seq) rfl hf ⟨_,_,rfl,rfl,_,_,rfl,rfl,hi⟩ hw hu
 |cond c Gb DV=>
  simp only[wc];cases hv:iD fr.py c with
  |none=>trivial
  |some v=>
   cases v with
   |aA t=>have:=TR.oM hf.tr [c] c (by simp) _ hv;simp only[VR]at this;refine sC dU (.one (stepR_cond this)) rfl hf ⟨_,_,rfl,?_,hi⟩ hw hu;cases t<;>rfl
   |_=>trivial
 |block id body=>exact sC dU (.one stepR_block) rfl hf ⟨_,_,rfl,rfl,_,_,rfl,rfl,hi⟩ hw hu
 |loop body=>exact sC dU (.one stepR_loop) rfl hf ⟨_,_,rfl,rfl,_,_,rfl,rfl,hi⟩ hw hu
 |scope body=>exact sC dU (.one avd) rfl hf ⟨_,_,rfl,rfl,_,_,rfl,rfl,hi⟩ hw hu
 |exit id=>
  have:=abd (id:=id) hi;simp only[wc];cases hx:zC id k with
  |none=>rw[hx]at this;exact amU dU hf hw hu this
  |some k'=>rw[hx]at this;obtain⟨qz,h1,h2⟩:=this;exact sC dU (.one (stepR_exit h1)) rfl hf h2 hw hu
 |goto l=>
  have:=abV (l:=l) hi;simp only[wc];cases hx:Br l k with
  |none=>rw[hx]at this;exact amV dU hf hw hu this
  |some k'=>rw[hx]at this;obtain⟨qz,h1,h2⟩:=this;exact sC dU (.one (stepR_goto h1)) rfl hf h2 hw hu
 |region id ops pZ=>exact apb dQ hc dU hf hw hb hm hu hi
 |rangeFunc f params assign body=>exact aoU hc dU hf hw hb hm hu hi
 |refuse XT=>trivial
theorem ave(dQ:P.follows .mixedOrders=true)(hc:oQ P call)(dU:fr.lS=.fO)(hf:FR φ fr b a)(hw:WR φ bs H w)(hb:gQ bs w)(hm:m<=H.bW)(hu:ku φ fr.up cs)(hi:jY φ fr.A0 todo):
 kO P m bs φ H w fr (b.atR a todo) cs (sx P call fr H):=by
 obtain⟨fn,tmps,nt,td,defers,mode,up,round⟩:=fr;cases td with
 |nil=>cases hi;exact amT dU hf hw hu
 |cons x k=>
  obtain⟨y,ks,rfl,h1,h2⟩:=hi;simp only[sx];cases x with
  |f_ c=>cases h1;exact aiZ dQ hc dU hf hw hb hm hu h2
  |tK id=>cases h1;exact sC dU (.one stepR_inBlock) rfl hf h2 hw hu
  |sH c=>cases h1;exact sC dU (.one avc) rfl hf h2 hw hu
  |pz c=>cases h1;exact sC dU (.one stepR_inLoop) rfl hf ⟨_,_,rfl,rfl,_,_,rfl,rfl,h2⟩ hw hu
  |A1 l=>trivial
  |zb l=>obtain⟨e,he,rfl⟩:=h1;exact ajB dU hf hw hu he h2
  |xQ=>cases h1;exact air dU hf hw hu h2
  |jT ops i l=>
   obtain⟨rfl,s7⟩:=h1;cases l with
   |nil=>exact sC dU (.one stepR_region_end) rfl hf h2 hw hu
   |cons o rest=>exact auW hc dU hf hw hb hm hu s7 h2
end
section
variable{P:Program}{call:iO}{bs:ez}{m:Nat}{H H':AH}{φ bf:bu}{w w':World}{fr fr':cZ}{cJ:Frame}{cs:List Frame}
def NI(tmps:Array Value):ResultVar->Sem Value
 |.tmp t=>pure (tmps.getD t undef)
 |.cell a t=>do loadVar t (←asAddr (tmps.getD a undef))
theorem WY{nt:Nat}{t:Tr AV}{tmps:Array Value}(hw:WR φ bs H w)(ht:TR φ t nt tmps):∀(l:List ResultVar) (vs:LV),rz P H t l=some vs->∃eT,(l.mapM (NI tmps)).run P w=.ok eT w∧bm φ vs eT
 |[],vs,h=>by cases h;exact⟨[],rfl,rfl⟩
 |.tmp i::l,vs,h=>by
  simp only[rz]at h;split at h
  ·rename_i v hv;cases hr:rz P H t l with
   |none=>rw[hr]at h;cases h
   |some XP=>
    rw[hr]at h;cases h;obtain⟨eT,h1,h2⟩:=WY hw ht l XP hr;obtain⟨v',h3,h4⟩:=ht.2 i v hv;refine⟨v'::eT,?_,v',eT,rfl,h4,h2⟩;have e:tmps.getD i undef=v':=by rw[Array.getD_eq_getD_getElem?,h3];rfl
    rw[List.mapM_cons];simp only[NI,Sem.run_bind,Sem.run_pure,Result.andThen_ok,h1,e]
  ·cases h
 |.cell i ty::l,vs,h=>by
  simp only[rz]at h;split at h
  ·rename_i id off hp;split at h
   ·rename_i v hv;cases hr:rz P H t l with
    |none=>rw[hr]at h;cases h
    |some XP=>
     rw[hr]at h;cases h;obtain⟨eT,h1,h2⟩:=WY hw ht l XP hr;obtain⟨vp,h3,e,he,h4⟩:=ht.2 i _ hp;obtain⟨v',h5,h6⟩:=VC hw hv he;refine⟨v'::eT,?_,v',eT,rfl,h6,h2⟩;have e1:tmps.getD i undef=.pointer (some ⟨e.b,e.o+off,none⟩):=by rw[Array.getD_eq_getD_getElem?,h3,←h4];rfl
     rw[List.mapM_cons];simp only[NI,Sem.run_bind,e1,asAddr,Sem.run_pure,Result.andThen_ok,h5,h1]
   ·cases h
  ·cases h
theorem aph{nt:Nat}{t:Tr AV}{tmps:Array Value}(hw:WR φ bs H w)(ht:TR φ t nt tmps){fn:Func}{vs:LV}(h:rz P H t fn.results.toList=some vs):∃v',(results fn tmps).run P w=.ok v' w∧VR φ (y' vs) v':=by
 obtain⟨eT,h1,h2⟩:=WY hw ht _ vs h;have e:results fn tmps=(do let vs←fn.results.mapM (NI tmps);pure (if h:vs.size=1 then vs[0]else .tuple vs)):=by unfold results;rfl
 rw[e,Array.mapM_eq_mapM_toList];simp only[map_eq_pure_bind,bind_assoc,pure_bind,Sem.run_bind,h1,Result.andThen_ok,Sem.run_pure];refine⟨_,rfl,?_⟩;cases vs with
 |nil=>simp only[bm]at h2;subst h2;exact⟨#[],rfl,rfl⟩
 |cons v vs=>
  obtain⟨v',vs2,rfl,hv,jc⟩:=h2;cases vs with
  |nil=>simp only[bm]at jc;subst jc;exact hv
  |cons v2 vs=>obtain⟨XJ,XQ,rfl,hv2,ami⟩:=jc;exact⟨(v'::XJ::XQ).toArray,by simp,v',XJ::XQ,rfl,hv,XJ,XQ,rfl,hv2,ami⟩
theorem CR.ad2:∀{c:rH} {l:List PanicEntry},CR φ c l->l.dropWhile (!·.goexit)=[]
 |[],l,h=>by cases h;rfl
 |(v,r)::c,l,h=>by obtain⟨v',l',rfl,_,h2⟩:=h;simp only[List.dropWhile_cons];exact h2.ad2
theorem auX{u:iq}{fm:FrameMode}(h:MR φ u fm):MR φ (age u) (settle fm):=by
 cases u with
 |fO=>cases h;rfl
 |pA=>cases h;rfl
 |oq c=>
  obtain⟨c',rfl,hc⟩:=h;cases c with
  |nil=>cases hc;exact⟨[],rfl,rfl⟩
  |cons x c=>
   obtain⟨v,r⟩:=x;obtain⟨v',l',rfl,h1,h2⟩:=hc;cases r with
   |true=>show settle _=_;simp only[settle,h2.ad2]
   |false=>exact⟨_,rfl,v',l',rfl,h1,h2⟩
theorem CR.X8:∀{c:rH} {l:List PanicEntry} {c':rH} {l':List PanicEntry},CR φ c l->CR φ c' l'->CR φ (c++c') (l++l')
 |[],l,c',l',h,h'=>by cases h;exact h'
 |(v,r)::c,l,c',l',h,h'=>by obtain⟨v',l1,rfl,h1,h2⟩:=h;exact⟨v',l1++l',rfl,h1,CR.X8 h2 h'⟩
theorem aoT{u:iq}{fm:FrameMode}{c:rH}{c':List PanicEntry}(h:MR φ u fm)(hc:CR φ c c'):MR φ (FN u c) (raised fm c'):=by
 cases u with
 |fO=>cases h;exact⟨c',rfl,hc⟩
 |pA=>cases h;exact⟨c',rfl,hc⟩
 |oq o=>obtain⟨o',rfl,ho⟩:=h;exact⟨_,rfl,hc.X8 ho⟩
theorem axA{u:iq}(hu':u≠.fO){fn:Nat}{tmps:Tr AV}{nt:Nat}{todo:List cg}{ds:List iZ}{up:Option iq}{round:Option Nat}{a:Act}(hs:Steps P (lone cJ cs w) (lone {cJ with defers:=a.defers,mode:=a.tmps.size|>fun _=>cJ.mode} cs w')):True:=trivial
theorem tM.aU{fn:Nat}{tmps:Tr AV}{nt:Nat}{todo rC:List cg}{defers ds:List iZ}{mode u:iq}{up:Option iq}{round:Option Nat}(hf:FR φ ⟨fn,tmps,nt,todo,defers,mode,up,round⟩ cJ ⟨cJ.tmps,cJ.defers⟩){p6:List Deferred}{fm:FrameMode}
 (hd:nw φ ds p6) (hm:MR φ u fm) (hu:u≠.fO):tM φ ⟨fn,tmps,nt,rC,ds,u,up,round⟩ {cJ with defers:=p6,mode:=fm}:=by
 have:FR φ ⟨fn,tmps,nt,rC,ds,u,up,round⟩ {cJ with defers:=p6,mode:=fm} ⟨cJ.tmps,p6⟩:=⟨hf.fn,hf.tr,hd,hf.j_,hf.lV,hf.pF⟩;cases u with
 |fO=>exact(hu rfl).elim
 |pA=>exact⟨this,hm⟩
 |oq c=>exact⟨this,hm⟩
theorem agy(hc:oQ P call)(ew:fr.lS≠.fO)(hf:FR φ fr cJ ⟨cJ.tmps,cJ.defers⟩)(yx:MR φ fr.lS cJ.mode)(hw:WR φ bs H w)(hb:gQ bs w)(hm:m<=H.bW)(hu:ku φ fr.up cs):
 kO P m bs φ H w fr cJ cs (AL P call fr H):=by
 obtain⟨fn,tmps,nt,todo,defers,mode,up,round⟩:=fr;simp only at yx hu;have hcm:cJ.mode≠.run:=by
  intro e;cases mode with
  |fO=>exact ew rfl
  |pA=>rw[e]at yx;cases yx
  |oq c=>obtain⟨c',h1,_⟩:=yx;rw[e]at h1;cases h1
 simp only[AL];cases defers with
 |nil=>
  have uf:cJ.defers=[]:=hf.dr;simp only[NL];have aw:∀(e:P_) (e':Ending),ER φ e e'->(cJ.kind=.normal->cJ.leaving P w e')->cJ.going P w e'->
   (∀c cs',cs=c::cs'->cJ.kind=.normal->match e with|.gy v=>∃v',VR φ v v'∧Steps P (lone cJ cs w) (lone (c.finish v') cs' w)|.iT ch=>∃sQ,CR φ ch sQ∧Steps P (lone cJ cs w) (lone (c.raise sQ) cs' w))->
   tO P m bs φ H w cJ cs ⟨e,up,H⟩ up round:=by
   intro e e' yp km lG vM;refine⟨φ,w,hw,da.j9 _ _ _,dm.kN _ _,?_⟩;cases up with
   |none=>
    have hk:cJ.kind=.normal:=hf.lV;cases round with
    |none=>exact⟨cJ,e',yp,Steps.refl P _,km hk,rfl⟩
    |some l=>exact fun c cs' h=>vM c cs' h hk
   |some u=>obtain⟨c,cs',rfl,zU⟩:=hu;exact⟨c,cs',u,c.mode,cJ,e',rfl,rfl,zU,yp,Steps.refl P _,hf.lV,lG⟩
  cases mode with
  |fO=>trivial
  |oq ch=>
   simp only;cases eD:(P.funcs[fn]?).isSome with
   |false=>trivial
   |true=>simp only[cond_true];obtain⟨En,HZ⟩:=Option.isSome_iff_exists.1 eD;obtain⟨sQ,h1,h2⟩:=yx;have HY:cJ.fn=fn:=hf.fn;have km:cJ.leaving P w (.panicked sQ):=⟨h1,uf,En,by rw[HY];exact HZ⟩;refine aw (.iT ch) (.panicked sQ) ⟨sQ,rfl,h2⟩ (fun _=>km) ⟨h1,uf,En,by rw[HY];exact HZ⟩ (fun c cs' iu _=>?_);subst iu;exact⟨sQ,h2,.one (step_leave_panicked km)⟩
  |pA=>
   simp only;cases HZ:P.funcs[fn]? with
   |none=>trivial
   |some En=>
    simp only;cases hr:rz P H tmps En.results.toList with
    |none=>trivial
    |some vs=>
     simp only;obtain⟨v',h1,h2⟩:=aph (P:=P) hw hf.tr hr;have HY:cJ.fn=fn:=hf.fn;have km:cJ.kind=.normal->cJ.leaving P w (.returned v'):=fun hk=>⟨yx,uf,hk,En,by rw[HY];exact HZ,h1⟩
     refine aw (.gy (y' vs)) (.returned v') ⟨v',rfl,h2⟩ km ⟨yx,uf,En,by rw[HY];exact HZ,h1⟩ (fun c cs' iu hk=>?_);subst iu;exact⟨v',h2,.one (step_leave_returned (km hk))⟩
 |cons d ds=>
  obtain⟨d',p6,nf,hd,hdr⟩:=hf.dr;simp only at nf;cases d with
  |nP r=>
   obtain⟨e,he,rfl⟩:=hd;simp only;split
   ·rename_i gE;obtain⟨o,hg,l',rfl,yu⟩:=hw.fP r _ e gE he;simp only[nw]at yu;subst yu;have an:=(hw.lt r e he).1;have hk:=run_takeDeferred (P:=P) hg;have k6:=step_collected (cs:=cs) hcm nf rfl hk;refine⟨φ,w.putObj e.b (.deferred none),{cJ with defers:=p6},cs,.one k6,?_,hu,wv.Dj hu,rfl,rfl,?_,da.nQ he _,?_,rfl⟩
    ·exact tM.aU hf hdr yx ew
    ·exact hw.put gE rfl he World.putObj_size (fun b hb=>World.putObj_heap_other hb) ⟨_,World.putObj_heap_same an,rfl⟩
    ·exact dm.IG hw he World.putObj_size (fun b hb=>World.putObj_heap_other hb)
   ·trivial
  |xP f kv args=>
   obtain⟨tU,args',rfl,hy,EM,l6⟩:=hd;simp only;cases vu:wF P (.b9 f [] kv) args with
   |none=>trivial
   |some aU=>
    have iu:=(KN (P:=P) (m:=m) (base:=bs) (H:=H) (φ:=φ) (vf:=.func f #[] tU) (AU:=args') vu ?_ l6).1 w
    ·cases aU with
     |qB g l=>
      simp only[Ee,Option.bind_some];cases kB:ny P call H (some mode) (.qB g l)with
      |none=>trivial
      |some r=>
       obtain⟨amI,h1,h2⟩:=iu;have alE:(invoke (.fn f tU) args').run P w=.ok (.enter g amI) w:=by
        have e1:(do let d←Deferred.ofValue (.func f #[] tU) args';invoke d.target d.args:Sem Next)=invoke (.fn f tU) args':=by simp[Deferred.ofValue]
        rw[←e1];exact h1
       have k6:=step_defer (cs:=cs) hcm nf rfl alE;have Ut:=Su (m:=m) (cs:={cJ with defers:=p6}::cs) hc kB h2 hw hb hm (up:=some mode) ⟨_,_,rfl,yx⟩ (kind:=.deferred) rfl;obtain⟨mW,w1,q1,q2,q3,c,cs',uA,u',Bh,e1,lF,xj,zU,yp,qe,s_,lG⟩:=Ut;cases lF;obtain⟨ee,upp,H1⟩:=r;simp only at xj;subst xj;have kz:=hf.zd q2.1;have alm:=hdr.Dk q2.1;have T':∀(u2:iq) (Lm:FrameMode),MR mW u2 Lm->step P (lone Bh ({ {cJ with defers:=p6}with mode:=u'}::cs) w1)=.next (lone { { {cJ with defers:=p6}with mode:=u'}with mode:=Lm} cs w1)->
        kO P m bs φ H w ⟨fn,tmps,nt,todo,.xP f kv args::ds,mode,up,round⟩ cJ cs (We ⟨fn,tmps,nt,todo,.xP f kv args::ds,mode,up,round⟩ ds u2 H1):=by
        intro u2 Lm hm2 gM;have acm:u2≠.fO->kO P m bs φ H w ⟨fn,tmps,nt,todo,.xP f kv args::ds,mode,up,round⟩ cJ cs (.go ⟨fn,tmps,nt,todo,ds,u2,up,round⟩ H1):=fun c6=>
         ⟨mW,w1,{cJ with defers:=p6,mode:=Lm},cs,.head k6 (qe.trans (.one gM)),tM.aU kz alm hm2 c6,hu.mono q2.1,wv.Dj hu,rfl,rfl,q1,q2,q3,rfl⟩
        cases u2 with
        |fO=>trivial
        |pA=>exact acm (by simp)
        |oq cc=>exact acm (by simp)
       cases ee with
       |gy v=>obtain⟨v',rfl,hv⟩:=yp;simp only[Wf];exact T' _ _ (auX zU) (step_going_returned s_ lG)
       |iT ch=>obtain⟨sQ,rfl,hv⟩:=yp;simp only[Wf];exact T' _ _ (aoT zU hv) (step_going_panicked lG)
     |_=>trivial
    ·cases f<;>first
      |exact⟨#[],tU,rfl,hy,rfl,EM⟩
      |(cases hy;done)
end
section
variable{P:Program}
theorem Xp(dQ:P.follows .mixedOrders=true){call:iO}(hc:oQ P call)(fr:cZ)(H:AH)(φ:bu)(w:World)(m:Nat)(bs:ez)(cJ:Frame)(cs:List Frame)(hw:WR φ bs H w)(hb:gQ bs w)(hm:m<=H.bW)
 (hf:tM φ fr cJ) (hu:ku φ fr.up cs):kO P m bs φ H w fr cJ cs (mn P call fr H):=by
 obtain⟨fn,tmps,nt,todo,defers,mode,up,round⟩:=fr;cases mode with
 |fO=>obtain⟨b,a,Fm,rfl,h1,h2⟩:=hf;exact ave dQ hc rfl h1 hw hb hm hu h2
 |pA=>obtain⟨h1,h2⟩:=hf;exact agy hc (by simp) h1 h2 hw hb hm hu
 |oq c=>obtain⟨h1,h2⟩:=hf;exact agy hc (by simp) h1 h2 hw hb hm hu
theorem tO.after{m:Nat}{bs:ez}{φ bf:bu}{H H':AH}{w w':World}{cJ jj:Frame}{cs oZ:List Frame}{r:gh}{up Ge:Option iq}{round:Option Nat}(hs:Steps P (lone cJ cs w) (lone jj oZ w'))(iu:wv up cs oZ)(xj:Ge.isSome=up.isSome)
 (he:da m φ H bf H') (hk:dm bs w w') (eD:jj.fn=cJ.fn) (h:tO P m bs bf H' w' jj oZ r Ge round):tO P m bs φ H w cJ cs r up round:=by
 obtain⟨mW,w1,h1,h2,h3,h4⟩:=h;refine⟨mW,w1,h1,he.zc h2,hk.uV h3,?_⟩;cases up with
 |none=>
  cases Ge with
  |some u=>cases xj
  |none=>
   have iu:oZ=cs:=iu;subst iu;cases round with
   |none=>obtain⟨c1,e1,g1,g2,g3,g4⟩:=h4;exact⟨c1,e1,g1,hs.trans g2,g3,g4.trans eD⟩
   |some l=>
    intro c cs' lF;have:=h4 c cs' lF;obtain⟨e,upr,H1⟩:=r;cases e with
    |gy v=>obtain⟨v',g1,g2⟩:=this;exact⟨v',g1,hs.trans g2⟩
    |iT ch=>obtain⟨v',g1,g2⟩:=this;exact⟨v',g1,hs.trans g2⟩
 |some u=>
  cases Ge with
  |none=>cases xj
  |some u'=>obtain⟨c,cs',u2,rfl,rfl⟩:=iu;obtain⟨c1,cs1,uA,u3,Bh,e1,g1,g2,g3,g4,g5,g6,g7⟩:=h4;cases g1;exact⟨c,cs',uA,u3,Bh,e1,rfl,g2,g3,g4,hs.trans g5,g6,g7⟩
theorem N7(dQ:P.follows .mixedOrders=true){K:qH}(hK:Dw P K):∀n,J6 P (uY P K n)
 |0=>by intro fr H r h;cases h
 |n+1=>by
  intro fr H r h φ w m bs cJ cs hw hb hm hf hu;have k6:=Xp dQ (call:=⟨uY P K n,K⟩) ⟨N7 dQ hK n,hK⟩ fr H φ w m bs cJ cs hw hb hm hf hu;simp only[uY]at h;cases hs:mn P ⟨uY P K n,K⟩ fr H with
  |ey s=>rw[hs]at h;cases h
  |xV r'=>rw[hs]at h k6;cases h;exact k6
  |go fr' H'=>rw[hs]at h k6;obtain⟨bf,w',jj,oZ,g1,g2,g3,g4,g5,g6,g7,g8,g9,SS⟩:=k6;have:=N7 dQ hK n fr' H' r h bf w' m bs jj oZ g7 (hb.Dl g9.1) (Nat.le_trans hm g8.2.1) g2 g3;rw[g5]at this;exact tO.after g1 g4 g6 g8 g9 SS this
theorem ajU(dQ:P.follows .mixedOrders=true){K:qH}(hK:Dw P K){n:Nat}{f:FuncId}{args:LV}{args':Array Value}{H:AH}{r:gh}{φ:bu}{bs:ez}{w:World}(h:eval P K n f args H=some r)(ha:bm φ args args'.toList)(hw:WR φ bs H w)(hb:gQ bs w):
 Calls P f args' w fun e w'=>∃bf,ER bf r.e e∧WR bf bs r.H w'∧fq φ bf∧dm bs w w':=by
 intro cs;obtain⟨bf,w',h1,h2,h3,jj,e',h4,h5,h6,h7⟩:=St (m:=0) (cs:=cs) (N7 dQ hK n) h ha hw hb (Nat.zero_le _) trivial (kind:=.normal) rfl;refine⟨e',w',jj,⟨bf,h4,h1,h2.1,h3⟩,?_,h7,h6⟩;cases e' with
 |outgrown=>
  obtain⟨re,_,_⟩:=r;cases re with
  |gy v=>obtain⟨v',h,_⟩:=h4;cases h
  |iT c=>obtain⟨v',h,_⟩:=h4;cases h
 |returned v=>exact h5
 |panicked c=>exact h5
theorem anJ:Dw P ad6:=by intro f args H v H' h;cases h
theorem axb(dQ:P.follows .mixedOrders=true){K:qH}(hK:Dw P K){n:Nat}{f:FuncId}{b:Bool}{up:Option iq}{H:AH}{w:World}(gF:∀b o,Ro.ro b=some o->b<w.heap.size∧w.heap[b]? =some o)(h:eval P K n f [] ⟨.gB,0⟩=some ⟨.gy (.aA b),up,H⟩):
 Calls P f #[] w fun e w'=>e=.returned (.bool b)∧dm (FH w) w w':=by
 have hw:WR (fun _=>none) (FH w) ⟨.gB,0⟩ w:=⟨(fun i ob e h=>by cases h),(fun i _ ob _ e _ h=>by cases h),(fun i e h=>by cases h),(fun i ob h=>by cases h),gF⟩;intro cs;obtain⟨e,w',fr,⟨bf,⟨v',rfl,hv⟩,_,_,hk⟩,h2⟩:=ajU dQ hK h (args':= #[]) (φ:=fun _=>none) rfl hw (gQ.old w) cs;simp only[VR]at hv;subst hv;exact⟨_,w',fr,⟨rfl,hk⟩,h2⟩
end
end Go.Ev
namespace Go.Ev
noncomputable section
def GR(tmps:Tr AV)(x:Operand):Option AV:=
 @Operand.rec (fun _=>Tr AV->Option AV) (fun t tmps=>Tr.cb tmps t) (fun v _=>Dn v) (fun g _=>some (.vo g)) (fun f _=>some (.b9 (.func f) [] [])) x tmps
theorem KJ:GR=iD:=by funext t x;cases x<;>rfl
abbrev QX:=Program->(Operand->Option AV)->AH->Option AV
def mR:QX:=fun _ _ _=>none
def afb(op:Op):QX:=
 @Op.rec (fun _=>QX)
  (fun x _ ρ _=>ρ x)
  (fun x _ ρ _=>ρ x)
  (fun c a b _ ρ _=>M3 ρ c a b)
  (fun _=>mR)
  (fun _ _=>mR)
  (fun t kH P ρ _=>MY P ρ t kH)
  (fun _ _ _=>mR)
  (fun _ _ _ _=>mR)
  (fun t a P ρ H=>Iw P ρ H t a)
  (fun _ _ _=>mR)
  (fun _=>mR) (fun _=>mR)
  (fun x _ ρ _=>Vk ρ x)
  (fun op t x y _ P ρ _=>MX P ρ op t x y)
  (fun op _ x P ρ _=>Vm P ρ op x)
  (fun oN dst x P ρ _=>Vc P ρ oN dst x)
  (fun _ _=>mR)
  (fun t x P ρ _=>Vi P ρ t x)
  (fun fn first kv _ ρ _=>Vh ρ fn first kv)
  (fun _ _=>mR)
  (fun _ _=>mR)
  (fun _ _ _=>mR)
  (fun t x lo hi mx P ρ H=>yJ P ρ H t x lo hi mx)
  (fun s x f P ρ _=>Vf P ρ s x f)
  (fun t x f P ρ _=>Ve P ρ t x f)
  (fun t x i P ρ _=>Iv P ρ t x i)
  (fun t x i P ρ _=>Iu P ρ t x i)
  (fun t x k ok P ρ H=>Fq P ρ H t x k ok)
  (fun _ _ _ _=>mR)
  (fun _ _ _=>mR)
  (fun _ _ _ _=>mR)
  (fun _ _=>mR)
  (fun _ _=>mR)
  (fun _=>mR)
  (fun x _ nT ok P ρ _=>Vl P ρ x nT ok)
  (fun x i _ ρ _=>Vd ρ x i)
  (fun c P ρ H=>gg P ρ H (.call c))
  (fun _=>mR)
  (fun _=>mR)
  (fun _=>mR)
  (fun _ _=>mR)
  (fun _ _ _=>mR)
  (fun _ _=>mR)
  op
theorem ao5(op:Op)(P:Program)(ρ:Operand->Option AV)(H:AH):afb op P ρ H=gg P ρ H op:=by cases op<;>rfl
abbrev Qk:=Program->(Operand->Option AV)->AH->Option fU
def jD:Qk:=fun _ _ _=>none
def acd(op:Op):Qk:=
 @Op.rec (fun _=>Qk)
  (fun _=>jD) (fun _=>jD) (fun _ _ _=>jD) (fun _=>jD) (fun _ _=>jD) (fun _ _=>jD) (fun _ _ _=>jD)
  (fun t m k x P ρ H=>zK P ρ H t m k x)
  (fun _ _=>jD)
  (fun t a x P ρ H=>EG P ρ H t a x)
  (fun _=>jD) (fun _=>jD) (fun _=>jD) (fun _ _ _ _ _=>jD) (fun _ _ _=>jD) (fun _ _ _=>jD) (fun _ _=>jD) (fun _ _=>jD) (fun _ _ _=>jD)
  (fun _ _=>jD) (fun _ _=>jD) (fun _ _ _=>jD) (fun _ _ _ _ _=>jD) (fun _ _ _=>jD) (fun _ _ _=>jD) (fun _ _ _=>jD) (fun _ _ _=>jD) (fun _ _ _ _=>jD)
  (fun t m k x P ρ H=>zK P ρ H t m k x)
  (fun t m k P ρ H=>HK P ρ H t m k)
  (fun _ m s x _ ρ H=>HJ ρ H m s x)
  (fun t x P ρ H=>HM P ρ H t x)
  (fun it tg _ ρ H=>HL ρ H it tg)
  (fun it _ ρ H=>LL ρ H it)
  (fun _ _ _ _=>jD) (fun _ _=>jD)
  (fun c P ρ H=>LK P ρ H c)
  (fun _=>jD)
  (fun c _ ρ _=>BH ρ c)
  (fun x _ ρ _=>Th ρ x)
  (fun _ _=>jD) (fun _ _ _=>jD) (fun _ _=>jD)
  op
theorem alu(op:Op)(P:Program)(ρ:Operand->Option AV)(H:AH):acd op P ρ H=oz P ρ H op:=by cases op<;>rfl
abbrev zm:=Nat->Tr AV->Nat->List iZ->iq->Option iq->Option Nat->List cg->AV->AH->eU
def aeo:zm:=fun fn tmps nt defers mode up round todo _ H=>.go ⟨fn,tmps,nt,todo,defers,mode,up,round⟩ H
def aep(d:Tmp):zm:=fun fn tmps nt defers mode up round todo v H=>.go ⟨fn,tmps.iY d v,nt,todo,defers,mode,up,round⟩ H
def aeq(_:Tmp):zm:=fun _ _ _ _ _ _ _ _ _ _=>.ey "dst"
def aer(d:Tmp):zm:=fun fn tmps nt=> @Bool.rec (fun _=>Tmp->zm) aeq aep (Nat.ble (Nat.succ d) nt) d fn tmps nt
def anT:Nat->Tr AV->Nat->List cg->List iZ->iq->Option iq->Option Nat->Oper->List cg->AV->AH->eU:=
 fun fn tmps nt _ defers mode up round o todo v H=> @Option.rec Tmp (fun _=>zm) aeo aer (Oper.dst o) fn tmps nt defers mode up round todo v H
def V8(fr:cZ)(o:Oper)(todo:List cg)(v:AV)(H:AH):eU:=
 @cZ.rec (fun _=>Oper->List cg->AV->AH->eU) anT fr o todo v H
theorem aen(fr:cZ)(o:Oper)(todo:List cg)(v:AV)(H:AH):V8 fr o todo v H=rp fr o todo v H:=by
 obtain⟨fn,tmps,nt,td,defers,mode,up,round⟩:=fr;show @Option.rec Tmp (fun _=>zm) aeo aer (Oper.dst o) fn tmps nt defers mode up round todo v H=_;unfold rp mT;cases o.dst with
 |none=>rfl
 |some d=>
  show @Bool.rec (fun _=>Tmp->zm) aeq aep (Nat.ble (d+1) nt) d fn tmps nt defers mode up round todo v H=
   (match(bif Nat.ble (d+1) nt then some (tmps.iY d v)else none)with
     |some t=>eU.go ⟨fn,t,nt,todo,defers,mode,up,round⟩ H
     |none=>.ey "dst")
  cases Nat.ble (d+1) nt<;>rfl
def auT:cZ->Oper->List cg->AH->eU:=fun _ _ _ _=>.ey "read"
def auU:AV->cZ->Oper->List cg->AH->eU:=fun v fr o todo H=>V8 fr o todo v H
def Xd(r:Option AV)(fr:cZ)(o:Oper)(todo:List cg)(H:AH):eU:=
 @Option.rec AV (fun _=>cZ->Oper->List cg->AH->eU) auT auU r fr o todo H
theorem auS(r:Option AV)(fr:cZ)(o:Oper)(todo:List cg)(H:AH):Xd r fr o todo H=FU fr o todo H r:=by
 cases r with
 |none=>rfl
 |some v=>exact aen fr o todo v H
abbrev oS:=Program->iO->cZ->AH->Array Oper->Nat->Oper->List Oper->List cg->eU
def an7:oS:=fun P _ fr H ops i o rest k=>Xd (afb (Oper.op o) P (GR (cZ.py fr)) H) fr o (.jT ops (Nat.succ i) rest::k) H
def an5:oS:=fun P _ fr H ops i o rest k=>CL fr o (.jT ops (Nat.succ i) rest::k) H (n8 P (GR (cZ.py fr)) (Oper.op o))
def an4:oS:=fun P call fr H ops i o rest k=>xE P call fr o (.jT ops (Nat.succ i) rest::k) H (acd (Oper.op o) P (GR (cZ.py fr)) H)
def Wa:oS:=fun P call fr H ops i o=> @Bool.rec (fun _=>oS) an4 an5 (qg (Oper.op o)) P call fr H ops i o
def NJ:oS:=fun P call fr H ops i o=> @Bool.rec (fun _=>oS) Wa an7 (n7 (Oper.op o)) P call fr H ops i o
def an6:oS:=fun _ _ fr H ops i o rest k=>V8 fr o (.jT ops (Nat.succ i) rest::k) .lU H
def V9:oS:=fun _ _ _ _ _ _ _ _ _=>.ey "guard"
def V_(b:Bool):oS:= @Bool.rec (fun _=>oS) an6 NJ b
def an2:oS:=fun P call fr H ops i o=> @Option.rec Bool (fun _=>oS) V9 V_ (kL ops o (Tr.cb (cZ.py fr))) P call fr H ops i o
def an3(_:Nat×Bool):oS:=an2
def Oi:oS:=fun P call fr H ops i o=> @Option.rec (Nat×Bool) (fun _=>oS) NJ an3 (Oper.guard o) P call fr H ops i o
theorem an8(P:Program)(call:iO)(fr:cZ)(H:AH)(ops:Array Oper)(i:Nat)(o:Oper)(rest:List Oper)(k:List cg):
 NJ P call fr H ops i o rest k=(bif n7 o.op then FU fr o (.jT ops (Nat.succ i) rest::k) H (gg P (iD fr.py) H o.op)
  else bif qg o.op then CL fr o (.jT ops (Nat.succ i) rest::k) H (n8 P (iD fr.py) o.op)
  else xE P call fr o (.jT ops (Nat.succ i) rest::k) H (oz P (iD fr.py) H o.op)):=by
 unfold NJ;cases n7 o.op with
 |true=>show Xd _ _ _ _ _=_;rw[auS,ao5,KJ];rfl
 |false=>
  show Wa _ _ _ _ _ _ _ _ _=_;unfold Wa;cases qg o.op with
  |true=>show CL _ _ _ _ _=_;rw[KJ];rfl
  |false=>show xE _ _ _ _ _ _ _=_;rw[alu,KJ];rfl
theorem avf(P:Program)(call:iO)(fr:cZ)(H:AH)(ops:Array Oper)(i:Nat)(o:Oper)(rest:List Oper)(k:List cg):
 Oi P call fr H ops i o rest k=y7 P call fr H ops i o rest k:=by
 obtain⟨fn,tmps,nt,td,defers,mode,up,round⟩:=fr;unfold y7;have key:∀(w:Option Bool),@Option.rec Bool (fun _=>oS) V9 V_ w P call ⟨fn,tmps,nt,td,defers,mode,up,round⟩ H ops i o rest k=(match w with
  |none=>.ey "guard"
  |some b=>bif b then
    bif n7 o.op then FU ⟨fn,tmps,nt,td,defers,mode,up,round⟩ o (.jT ops (Nat.succ i) rest::k) H (gg P (iD tmps) H o.op)
    else bif qg o.op then CL ⟨fn,tmps,nt,td,defers,mode,up,round⟩ o (.jT ops (Nat.succ i) rest::k) H (n8 P (iD tmps) o.op)
    else xE P call ⟨fn,tmps,nt,td,defers,mode,up,round⟩ o (.jT ops (Nat.succ i) rest::k) H (oz P (iD tmps) H o.op)
   else rp ⟨fn,tmps,nt,td,defers,mode,up,round⟩ o (.jT ops (Nat.succ i) rest::k) .lU H):=by
  intro w;cases w with
  |none=>rfl
  |some b=>
   cases b with
   |true=>exact an8 P call _ H ops i o rest k
   |false=>exact aen ⟨fn,tmps,nt,td,defers,mode,up,round⟩ o _ _ _
 have hk:Oi P call ⟨fn,tmps,nt,td,defers,mode,up,round⟩ H ops i o rest k=
  @Option.rec Bool (fun _=>oS) V9 V_ (kL ops o tmps.cb) P call ⟨fn,tmps,nt,td,defers,mode,up,round⟩ H ops i o rest k:=by
  unfold Oi;cases hg:o.guard with
  |none=>
   have hw:kL ops o tmps.cb=some true:=by unfold kL;rw[hg]
   rw[hw];rfl
  |some g=>rfl
 rw[hk];exact key _
def avz:Nat->Tr AV->Nat->List cg->List iZ->iq->Option iq->Option Nat->AH->List cg->eU:=
 fun fn tmps nt _ defers mode up round H k=>.go ⟨fn,tmps,nt,k,defers,mode,up,round⟩ H
def y_(fr:cZ)(H:AH)(k:List cg):eU:= @cZ.rec (fun _=>AH->List cg->eU) avz fr H k
theorem OT(fr:cZ)(H:AH)(k:List cg):y_ fr H k=to fr H k:=by cases fr;rfl
abbrev zf:=Program->iO->cZ->AH->List cg->eU
def KM:zf:=fun _ _ fr H k=>y_ fr H k
def aiC(_:Nat)(ops:Array Oper)(pZ:Bool):zf:=
 @Bool.rec (fun _=>Array Oper->zf) (fun ops _ _ fr H k=>y_ fr H (.jT ops 0 (Array.toList ops)::k)) (fun ops P call fr H k=>FY P call fr H ops true k) pZ ops
def agw(c:Code):zf:=
 @Code.rec (fun _=>zf)
  KM
  aiC
  (fun a b _ _ _ _ fr H k=>y_ fr H (.f_ a::.f_ b::k))
  (fun c Gb DV _ _ _ _ fr H k=>Jf fr H Gb DV k (GR (cZ.py fr) c))
  (fun id body _ _ _ fr H k=>y_ fr H (.f_ body::.tK id::k))
  (fun body _ _ _ fr H k=>y_ fr H (.f_ body::.pz body::k))
  (fun f params assign body _ _ P call fr H k=>Ji P call fr H f params assign body k)
  (fun id _ _ fr H k=>Jh fr H (.exit id) (zC id k))
  (fun body _ _ _ fr H k=>y_ fr H (.f_ body::.sH body::k))
  (fun _=>KM)
  (fun l _ _ fr H k=>Jh fr H (.goto l) (Br l k))
  (fun _ _ fr H _=>ri fr H (some .ret))
  (fun _ _ _ _ _ _=>.ey "refuse")
  c
theorem ava(c:Code)(P:Program)(call:iO)(fr:cZ)(H:AH)(k:List cg):agw c P call fr H k=wc P call fr H k c:=by
 cases c<;>first
  |exact OT _ _ _
  |(show Jf _ _ _ _ _ _=_;rw[KJ];rfl)
  |rfl
  |skip
 case region id ops pZ=>
  cases pZ
  ·exact OT _ _ _
  ·rfl
def amp:Program->iO->cZ->AH->Array Oper->Nat->List cg->eU:=fun _ _ fr H _ _ k=>y_ fr H k
def amo(o:Oper)(rest:List Oper)(_:Program->iO->cZ->AH->Array Oper->Nat->List cg->eU):Program->iO->cZ->AH->Array Oper->Nat->List cg->eU:=
 fun P call fr H ops i k=>Oi P call fr H ops i o rest k
def amn(ops:Array Oper)(i:Nat)(l:List Oper):zf:=fun P call fr H k=>
 @List.rec Oper (fun _=>Program->iO->cZ->AH->Array Oper->Nat->List cg->eU) amp amo l P call fr H ops i k
def agx(x:cg):zf:=
 @cg.rec (fun _=>zf)
  agw
  (fun _=>KM)
  (fun body _ _ fr H k=>y_ fr H (.f_ body::.pz body::k))
  (fun _=>KM)
  (fun _ _ _ _ _ _=>.ey "inRangeFunc")
  (fun l _ _ fr H k=>Jg fr H l k)
  (fun _ _ fr H k=>Je fr H k)
  amn
  x
theorem avb(x:cg)(P:Program)(call:iO)(fr:cZ)(H:AH)(k:List cg):agx x P call fr H k=tA P call fr H k x:=by
 cases x<;>first
  |exact ava _ _ _ _ _ _
  |exact OT _ _ _
  |rfl
  |skip
 case jT ops i l=>
  cases l with
  |nil=>exact OT _ _ _
  |cons o rest=>exact avf _ _ _ _ _ _ _ _ _
def aoS:Program->iO->cZ->AH->eU:=fun _ _ fr H=>ri fr H none
def aoR(x:cg)(k:List cg)(_:Program->iO->cZ->AH->eU):Program->iO->cZ->AH->eU:=fun P call fr H=>agx x P call fr H k
def ane:Program->iO->cZ->AH->eU:=fun P call fr H=>
 @List.rec cg (fun _=>Program->iO->cZ->AH->eU) aoS aoR (cZ.A0 fr) P call fr H
def anb:Program->iO->cZ->AH->eU:=AL
def anc(_:rH):Program->iO->cZ->AH->eU:=AL
def Xo(P:Program)(call:iO)(fr:cZ)(H:AH):eU:=
 @iq.rec (fun _=>Program->iO->cZ->AH->eU) ane anb anc (cZ.lS fr) P call fr H
theorem au9(P:Program)(call:iO)(fr:cZ)(H:AH):Xo P call fr H=mn P call fr H:=by
 obtain⟨fn,tmps,nt,td,defers,mode,up,round⟩:=fr;cases mode with
 |fO=>
  cases td with
  |nil=>rfl
  |cons x k=>exact avb x P call _ H k
 |pA=>rfl
 |oq c=>rfl
abbrev xZ:=cZ->AH->Option gh
def afC(fr:cZ)(H:AH):xZ->Option gh:=fun c=>c fr H
def afA(r:gh):xZ->Option gh:=fun _=>some r
def afD(_:String):xZ->Option gh:=fun _=>none
def apv(_:Nat)(c:Program->qH->xZ):Program->qH->xZ:=fun P K fr H=>
 @eU.rec (fun _=>xZ->Option gh) afC afA afD (Xo P ⟨c P K,K⟩ fr H) (c P K)
def N6(n:Nat):Program->qH->xZ:= @Nat.rec (fun _=>Program->qH->xZ) (fun _ _ _ _=>none) apv n
theorem afB(P:Program)(K:qH):∀n,N6 n P K=uY P K n
 |0=>rfl
 |n+1=>by
  have ih:=afB P K n;funext fr H;show @eU.rec (fun _=>xZ->Option gh) afC afA afD (Xo P ⟨N6 n P K,K⟩ fr H) (N6 n P K)=_;rw[au9,ih];show _=match mn P ⟨uY P K n,K⟩ fr H with
   |.go fr' H'=>uY P K n fr' H'
   |.xV r=>some r
   |.ey _=>none
  cases mn P ⟨uY P K n,K⟩ fr H<;>rfl
def SB(P:Program)(K:qH)(n:Nat)(f:FuncId)(args:LV)(H:AH):Option gh:=(Ed P f args none).bind fun fr=>N6 n P K fr H
theorem ajT(P:Program)(K:qH)(n:Nat)(f:FuncId)(args:LV)(H:AH):SB P K n f args H=eval P K n f args H:=by unfold SB eval;rw[afB]
end
end Go.Ev
