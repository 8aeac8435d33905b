/- Part of a proof of ClauseValid. -/
import Derived.Test.YtanclcoobcaemaaGreatVA2
import Derived.RangeFuncLeaves
import Derived.RangeFuncRecord
set_option linter.all false
set_option linter.unusedSectionVars false
namespace Go.Ev
theorem Hu(m i:Nat):nV m i=m.testBit i:=by
 unfold nV;rw[Nat.testBit];show Nat.beq ((m>>>i)&&& 1) 1=_;rw[Nat.and_comm 1];have h:(m>>>i)&&& 1=0∨(m>>>i)&&& 1=1:=by rw[Nat.and_one_is_mod];omega
 rcases h with h|h<;>rw[h]<;>rfl
theorem Lx(a b i:Nat):nV (Nat.lor a b) i=(nV a i||nV b i):=by rw[Hu,Hu,Hu];exact Nat.testBit_or a b i
theorem aby(j i:Nat):nV (Nat.pow 2 j) i=decide (j=i):=by rw[Hu];show(2^j).testBit i=_;rw[Nat.testBit_two_pow]
theorem abz(i:Nat):nV 0 i=false:=by rw[Hu,Nat.zero_testBit]
def jN(ms:LN)(i j:Nat):Prop:=∃m,ms[i]? =some m∧nV m j=true
theorem Fb{ms:LN}{i j:Nat}:(ms[i]?).any (nV · j)=true↔jN ms i j:=by unfold jN;cases h:ms[i]? <;>simp
def qT(ms:LN):LN->LN->Prop
 |_,[]=>True
 |done,i::l=>(∀j,jN ms i j->j∈done)∧i∉done∧qT ms (i::done) l
def o5(ms:LN)(done:LN):Prop:=∀i∈done,∀j,jN ms i j->j∈done
theorem o5.Cy{ms:LN}{done:LN}{i:Nat}(h:o5 ms done)(hi:∀j,jN ms i j->j∈done):o5 ms (i::done):=by
 intro k hk j hj;rcases List.mem_cons.1 hk with rfl|hk
 ·exact fF _ (hi j hj)
 ·exact fF _ (h k hk j hj)
theorem o5.nil(ms:LN):o5 ms []:=by intro i hi;cases hi
theorem qT.MV{ms:LN}:∀{l done:LN} {i:Nat},qT ms done l->i∈l->i∉done
 |[],_,_,_,h=>by cases h
 |x::l,done,i,⟨_,h2,h3⟩,h=>by
  rcases List.mem_cons.1 h with rfl|h
  ·exact h2
  ·exact fun hd=>h3.MV h (fF _ hd)
def E0(gj:LN)(s:Option Nat)(e:Edge):Option Nat:=
 match s with
 |none=>none
 |some s=>bif Region.binds .any e then(match gj[e.on]? with
   |some n=>some (Nat.lor (Nat.lor s (Nat.pow 2 e.on)) n)
   |none=>none)else some s
theorem adm(gj:LN):∀es:List Edge,es.foldl (E0 gj) none=none
 |[]=>rfl
 |e::es=>by simp only[iy];exact adm gj es
theorem Uw(gj:LN):∀(es:List Edge) (s m:Nat),es.foldl (E0 gj) (some s)=some m->
 (∀e∈es,Region.binds .any e=true->e.on<gj.length)∧
 (∀j,nV m j=true->nV s j=true∨∃e∈es,Region.binds .any e=true∧(e.on=j∨∃n,gj[e.on]? =some n∧nV n j=true))
 |[],s,m,h=>by cases h;exact⟨(fun _ h=>by cases h),fun j hj=>.inl hj⟩
 |e::es,s,m,h=>by
  simp only[iy]at h;cases hb:Region.binds .any e with
  |false=>
   simp only[E0,hb,cond_false]at h;obtain⟨h1,h2⟩:=Uw gj es s m h;refine⟨fun e' rj sc=>?_,fun j hj=>?_⟩
   ·rcases List.mem_cons.1 rj with rfl|rj
    ·rw[hb]at sc;cases sc
    ·exact h1 e' rj sc
   ·rcases h2 j hj with h|⟨e',rj,h⟩
    ·exact .inl h
    ·exact .inr ⟨e',fF _ rj,h⟩
  |true=>
   simp only[E0,hb,cond_true]at h;cases ha:gj[e.on]? with
   |none=>rw[ha]at h;simp only at h;rw[adm]at h;cases h
   |some n=>
    rw[ha]at h;simp only at h;obtain⟨h1,h2⟩:=Uw gj es _ m h;refine⟨fun e' rj sc=>?_,fun j hj=>?_⟩
    ·rcases List.mem_cons.1 rj with rfl|rj
     ·exact(List.getElem?_eq_some_iff.1 ha).1
     ·exact h1 e' rj sc
    ·rcases h2 j hj with h|⟨e',rj,h⟩
     ·rw[Lx,Lx,aby]at h;simp only[Bool.or_eq_true,mf]at h;rcases h with(h|h)|h
      ·exact .inl h
      ·exact .inr ⟨e,gi ..,hb,.inl h⟩
      ·exact .inr ⟨e,gi ..,hb,.inr ⟨n,ha,h⟩⟩
     ·exact .inr ⟨e',fF _ rj,h⟩
theorem adn:∀(l:List Oper) (gj ms:LN),zD l gj=some ms->
 (∃t,ms=gj++t∧t.length=l.length)∧
 ∀i o,l[i]? =some o->(∀e∈o.after.toList,Region.binds .any e=true->e.on<gj.length+i)∧
  ∀j,jN ms (gj.length+i) j->∃e∈o.after.toList,Region.binds .any e=true∧(e.on=j∨jN ms e.on j)
 |[],gj,ms,h=>by cases h;exact⟨⟨[],by simp,rfl⟩,fun i o h=>by simp at h⟩
 |o::l,gj,ms,h=>by
  unfold zD at h;change (match o.after.toList.foldl (E0 gj) (some 0)with|none=>none|some m=>zD l (gj++[m]))=some ms at h;cases hm:o.after.toList.foldl (E0 gj) (some 0)with
  |none=>rw[hm]at h;cases h
  |some m=>
   rw[hm]at h;simp only at h;obtain⟨⟨t,rfl,ht⟩,h2⟩:=adn l (gj++[m]) ms h;obtain⟨g1,g2⟩:=Uw gj _ 0 m hm;refine⟨⟨m::t,by simp,by simp[ht]⟩,fun i o' pR=>?_⟩;cases i with
   |zero=>
    cases pR;refine⟨by simpa using g1,fun j hj=>?_⟩;obtain⟨m',rp,hb⟩:=hj;have:m'=m:=by simp at rp;exact rp.symm
    subst this;rcases g2 j hb with h|⟨e,he,alx,h⟩
    ·rw[abz]at h;cases h
    ·refine⟨e,he,alx,h.imp_right ?_⟩;rintro⟨n,hn,S_⟩;have aj:=(List.getElem?_eq_some_iff.1 hn).1;exact⟨n,by rw[nG,List.getElem?_append_left aj];exact hn,S_⟩
   |succ i=>
    have:=h2 i o' (by simpa using pR);have he:gj.length+(i+1)=(gj++[m]).length+i:=by simp;omega
    rw[he];exact this
theorem aer:∀{l l':LN},l.Nodup->(∀x∈l,x∈l')->l.length<=l'.length
 |[],_,_,_=>Nat.zero_le _
 |a::l,l',hn,hs=>by
  obtain⟨h1,h2⟩:=List.nodup_cons.1 hn;have ha:=hs a (gi ..);have:=aer (l':=l'.erase a) h2 (fun x hx=>by
   have di:x≠a:=fun e=>h1 (e▸hx)
   exact(List.mem_erase_of_ne di).2 (hs x (fF _ hx)))
  rw[List.length_erase_of_mem ha]at this;have hp:0<l'.length:=List.length_pos_of_mem ha;simp only[dv];omega
section
variable{ops:Array Oper}{ms:LN}
def JP(ops:Array Oper)(iT:Array Bool)(done:LN):Prop:=
 iT.size=ops.size∧∀i,i<ops.size->iT[i]? =some (decide (i∈done))
theorem JP.getD{iT:Array Bool}{done:LN}(h:JP ops iT done){i:Nat}(hi:i<ops.size)(b:Bool):iT.getD i b=decide (i∈done):=by rw[Array.getD_eq_getD_getElem?,h.2 i hi];rfl
theorem abg(Et:zD ops.toList []=some ms):∀(lF t:Nat) (iT:Array Bool) (done:LN),JP ops iT done->o5 ms done->(∀i∈done,i<ops.size)->done.Nodup->done.length+lF=ops.size->
 qT ms done (Region.linearise.go .any ops lF t iT [])∧(∀i,i<ops.size->i∈done∨i∈Region.linearise.go .any ops lF t iT [])∧(∀i∈Region.linearise.go .any ops lF t iT [],i<ops.size)
 |0,t,iT,done,hL,hc,aj,hn,bF=>by
  simp only[Region.linearise.go,List.reverse_nil];refine⟨trivial,fun i hi=>.inl ?_,fun _ h=>by cases h⟩;refine Decidable.byContradiction fun rq=>?_
  have:=aer (l:=i::done) (l':=List.range ops.size) (List.nodup_cons.2 ⟨rq,hn⟩) (fun x hx=>by
   rcases List.mem_cons.1 hx with rfl|hx
   ·exact List.mem_range.2 hi
   ·exact List.mem_range.2 (aj x hx))
  simp at this;omega
 |lF+1,t,iT,done,hL,hc,aj,hn,bF=>by
  have Tv:=(adn ops.toList [] ms Et).2;have ab7:∀i,i∈Region.ready .any ops iT↔i<ops.size∧i∉done∧∃o,ops[i]? =some o∧∀e∈o.after.toList,Region.binds .any e=true->e.on∈done:=by
   intro i;simp only[Region.ready,List.mem_filter,List.mem_range];refine and_congr_right fun hi=>?_
   rw[hL.getD hi];have ho:ops[i]? =some ops[i]:=Array.getElem?_eq_getElem hi;rw[ho];simp only[Option.map_some,Option.getD_some,cW,Bool.not_eq_true',decide_eq_false_iff_not,p9,exists_eq_left'];refine and_congr_right fun _=>?_
   rw[←Array.all_toList,List.all_eq_true];refine forall_congr' fun e=>forall_congr' fun he=>?_
   cases hb:Region.binds .any e with
   |false=>simp
   |true=>have xE:=(Tv i ops[i] (by rw[Array.getElem?_toList];exact ho)).1 e he hb;simp only[fk,jI]at xE;rw[hL.getD (Nat.lt_trans xE hi)];simp
  simp only[Region.linearise.go];change qT ms done (match(Region.ready .any ops iT)[t%(Region.ready .any ops iT).length]? with
   |some i=>Region.linearise.go .any ops lF (t /(Region.ready .any ops iT).length) (iT.setIfInBounds i true) [i]
   |none=>[].reverse)∧(∀i,i<ops.size->i∈done∨i∈(match(Region.ready .any ops iT)[t%(Region.ready .any ops iT).length]? with
   |some i=>Region.linearise.go .any ops lF (t /(Region.ready .any ops iT).length) (iT.setIfInBounds i true) [i]
   |none=>[].reverse))∧(∀i∈(match(Region.ready .any ops iT)[t%(Region.ready .any ops iT).length]? with
   |some i=>Region.linearise.go .any ops lF (t /(Region.ready .any ops iT).length) (iT.setIfInBounds i true) [i]
   |none=>[].reverse),i<ops.size)
  cases hi:(Region.ready .any ops iT)[t%(Region.ready .any ops iT).length]? with
  |none=>
   have tq:Region.ready .any ops iT=[]:=by
    cases hr:Region.ready .any ops iT with
    |nil=>rfl
    |cons x xs=>rw[hr]at hi;have aj:t%(x::xs).length<(x::xs).length:=Nat.mod_lt _ (by simp);simp at hi;simp at aj;omega
   refine⟨trivial,fun i hi=>.inl ?_,fun _ h=>by cases h⟩;induction i using Nat.strongRecOn with
   |ind i ih=>
    refine Decidable.byContradiction fun rq=>?_
    have ho:ops[i]? =some ops[i]:=Array.getElem?_eq_getElem hi;have:i∈Region.ready .any ops iT:=(ab7 i).2 ⟨hi,rq,_,ho,fun e he hb=>by have xE:=(Tv i ops[i] (by rw[Array.getElem?_toList];exact ho)).1 e he hb;simp only[fk,jI]at xE;exact ih e.on xE (Nat.lt_trans xE hi)⟩;rw[tq]at this;cases this
  |some i=>
   simp only[];rw[linearise_go_acc,List.reverse_singleton,List.singleton_append];obtain⟨SL,En,o,ho,hi3⟩:=(ab7 i).1 (List.mem_of_getElem? hi);have qy:∀j,jN ms i j->j∈done:=by
    intro j hj;have:=(Tv i o (by rw[Array.getElem?_toList];exact ho)).2 j (by simpa using hj);obtain⟨e,he,hb,h⟩:=this;have xE:=hi3 e he hb;rcases h with rfl|h
    ·exact xE
    ·exact hc _ xE _ h
   have hL':JP ops (iT.setIfInBounds i true) (i::done):=by
    refine⟨by simp[hL.1],fun k hk=>?_⟩;rw[Array.getElem?_setIfInBounds];by_cases v5:i=k
    ·subst v5;simp[hL.1,SL]
    ·rw[aB v5,hL.2 k hk];have:k≠i:=fun e=>v5 e.symm
     simp[this]
   obtain⟨h1,h2,h3⟩:=abg Et lF (t /(Region.ready .any ops iT).length) (iT.setIfInBounds i true) (i::done) hL' (hc.Cy qy)
    (fun x hx=>by rcases List.mem_cons.1 hx with rfl|hx;exact SL;exact aj x hx) (List.nodup_cons.2 ⟨En,hn⟩) (by simp;omega)
   refine⟨⟨qy,En,h1⟩,fun k hk=>?_,fun k hk=>?_⟩
   ·rcases h2 k hk with h|h
    ·rcases List.mem_cons.1 h with rfl|h
     ·exact .inr (gi ..)
     ·exact .inl h
    ·exact .inr (fF _ h)
   ·rcases List.mem_cons.1 hk with rfl|hk
    ·exact SL
    ·exact h3 k hk
theorem au0{P:Program}(hm:P.follows .mixedOrders=true)(Et:zD ops.toList []=some ms)(t:Nat):
 qT ms [] (Region.schedule (P.follows .mixedOrders) ops t)∧(∀i,i<ops.size->i∈Region.schedule (P.follows .mixedOrders) ops t)∧(∀i∈Region.schedule (P.follows .mixedOrders) ops t,i<ops.size):=by
 have he:Region.schedule (P.follows .mixedOrders) ops t=Region.linearise.go .any ops ops.size t (Array.replicate ops.size false) []:=by simp[Region.schedule,hm,Region.linearise]
 rw[he];obtain⟨h1,h2,h3⟩:=abg Et ops.size t (Array.replicate ops.size false) [] ⟨by simp,fun i hi=>by simp[hi]⟩ (o5.nil ms) (fun _ h=>by cases h) List.nodup_nil (by simp);exact⟨h1,fun i hi=>by simpa using h2 i hi,h3⟩
theorem Zj:∀(f te:Nat) (left done l:LN),AB ops ms f te left=some l->(∀j,nV te j=true->j∈done)->(∀i∈left,i∉done)->
 qT ms done l∧(∀i∈left,i∈l)∧∀i∈l,i∈left
 |0,te,left,done,l,h,hg,hl=>by simp only[AB]at h;obtain⟨h1,h2⟩:=c6 h;cases h2;rw[List.isEmpty_iff]at h1;subst h1;exact⟨trivial,(fun _ h=>by cases h),(fun _ h=>by cases h)⟩
 |f+1,te,left,done,l,h,hg,hl=>by
  simp only[AB]at h;have key:∀i,i∈left->(match ms[i]? with|some m=>Nat.beq (Nat.lor m te) te|none=>false)=true->
   (AB ops ms f (Nat.lor te (Nat.pow 2 i)) (left.filter fun j=> !Nat.beq i j)).map (i:: ·)=some l->
   qT ms done l∧(∀i∈left,i∈l)∧∀i∈l,i∈left:=by
   intro i hi hr h;cases hm:ms[i]? with
   |none=>rw[hm]at hr;cases hr
   |some m=>
    rw[hm]at hr;simp only at hr;have hr:=eu hr;cases ha:AB ops ms f (Nat.lor te (Nat.pow 2 i)) (left.filter fun j=> !Nat.beq i j)with
    |none=>rw[ha]at h;cases h
    |some l'=>
     rw[ha]at h;cases h;obtain⟨h1,h2,h3⟩:=Zj f _ _ (i::done) l' ha (fun j hj=>by
      rw[Lx,aby]at hj;simp only[Bool.or_eq_true,mf]at hj;rcases hj with h|h
      ·exact fF _ (hg j h)
      ·exact h▸gi ..) (fun k hk=>by
      obtain⟨iM,iA⟩:=List.mem_filter.1 hk;intro hd;rcases List.mem_cons.1 hd with rfl|hd
      ·simp at iA
      ·exact hl k iM hd)
     refine⟨⟨?_,hl i hi,h1⟩,?_,?_⟩
     ·rintro j ⟨m',rp,hb⟩;rw[hm]at rp;cases rp;refine hg j ?_;rw[←hr,Lx,hb];rfl
     ·intro k hk;by_cases v5:k=i
      ·exact v5▸gi ..
      ·refine fF _ (h2 k (List.mem_filter.2 ⟨hk,?_⟩));simp only[Bool.not_eq_true'];exact Bool.eq_false_iff.2 fun h=>v5 (eu h).symm
     ·intro k hk;rcases List.mem_cons.1 hk with rfl|hk
      ·exact hi
      ·exact(List.mem_filter.1 (h3 k hk)).1
  split at h
  ·obtain⟨h1,h2⟩:=c6 h;cases h2;rw[List.isEmpty_iff]at h1;subst h1;exact⟨trivial,(fun _ h=>by cases h),(fun _ h=>by cases h)⟩
  ·rename_i i hp;split at hp
   ·rename_i i' hf;cases hp;have:=List.find?_some hf;simp only[cW]at this;exact key i (List.mem_of_find?_eq_some hf) this.1 h
   ·exact key i (List.mem_of_find?_eq_some hp) (by have:=List.find?_some hp;exact this) h
theorem UP:∀(ba post:LN) (c:Nat) (last:Option Nat),tG ops ms last (ba++c::post)=true->
 (∃e∈ba,jN ms c e)∨((∀e,last=some e->jN ms c e)∧∀i∈ba,(ops[i]?).any (oJ ·.op)=true)
 |[],post,c,last,h=>by simp only[BX,tG,cW]at h;refine .inr ⟨?_,fun _ h=>by cases h⟩;rintro e rfl;exact Fb.1 h.1
 |i::ba,post,c,last,h=>by
  simp only[sA,tG,cW]at h;obtain⟨h1,h2⟩:=h;cases hl:(ops[i]?).any (oJ ·.op)with
  |true=>
   rw[hl]at h2;simp only[cond_true]at h2;rcases UP ba post c last h2 with⟨e,he,h⟩|⟨h,h'⟩
   ·exact .inl ⟨e,fF _ he,h⟩
   ·refine .inr ⟨h,fun k hk=>?_⟩;rcases List.mem_cons.1 hk with rfl|hk
    ·exact hl
    ·exact h' k hk
  |false=>
   rw[hl]at h2;simp only[cond_false]at h2;rcases UP ba post c (some i) h2 with⟨e,he,h⟩|⟨h,h'⟩
   ·exact .inl ⟨e,fF _ he,h⟩
   ·exact .inl ⟨i,gi ..,h i rfl⟩
theorem UQ:∀(ba post:LN) (last:Option Nat),tG ops ms last (ba++post)=true->∃am2,tG ops ms am2 post=true
 |[],post,last,h=>⟨last,h⟩
 |i::ba,post,last,h=>by simp only[sA,tG,cW]at h;exact UQ ba post _ h.2
def iK(ops:Array Oper)(j:Nat):Option Tmp:=(ops[j]?).bind (·.dst)
theorem adJ:∀{l:List Oper} {i j:Nat} {o o':Oper} {t:Tmp},u0 (l.filterMap (·.dst))=true->l[i]? =some o->l[j]? =some o'->o.dst=some t->o'.dst=some t->i=j
 |[],i,j,o,o',t,_,h,_,_,_=>by simp at h
 |x::l,i,j,o,o',t,hn,hi,hj,ho,pR=>by
  have Es:∀{k:Nat} {o:Oper},l[k]? =some o->o.dst=some t->t∈l.filterMap (·.dst):=fun hk hd=>List.mem_filterMap.2 ⟨_,List.mem_of_getElem? hk,hd⟩
  have jX:x.dst=some t->t∈l.filterMap (·.dst)->False:=by intro hd hm;rw[List.filterMap_cons,hd]at hn;simp only[u0,cW,Bool.not_eq_true']at hn;have:=hn.1;rw[List.any_eq_false]at this;exact this t hm (by simp)
  have htl:u0 (l.filterMap (·.dst))=true:=by
   rw[List.filterMap_cons]at hn;cases hd:x.dst with
   |none=>rw[hd]at hn;exact hn
   |some d=>rw[hd]at hn;simp only[u0,cW]at hn;exact hn.2
  cases i with
  |zero=>
   cases hi;cases j with
   |zero=>rfl
   |succ j=>exact(jX ho (Es (by simpa using hj) pR)).elim
  |succ i=>
   cases j with
   |zero=>cases hj;exact(jX pR (Es (by simpa using hi) ho)).elim
   |succ j=>exact congrArg (· +1) (adJ htl (by simpa using hi) (by simpa using hj) ho pR)
structure uh(ops:Array Oper)(ms:LN):Prop where
 uc:∀i j t,iK ops i=some t->iK ops j=some t->i=j
 U4:∀i j o t,ops[i]? =some o->t∈Jb o->iK ops j=some t->i=j∨jN ms i j∨jN ms j i
 guard:∀i o g b,ops[i]? =some o->o.guard=some (g,b)->jN ms i g
theorem ad7:∀{l:List (Oper×Nat)},Ip ms l=true->∀o i g b,(o,i)∈l->o.guard=some (g,b)->jN ms i g
 |[],_,o,i,g,b,h,_=>by cases h
 |(o',i')::l,hk,o,i,g,b,h,hg=>by
  simp only[Ip,cW]at hk;rcases List.mem_cons.1 h with he|h
  ·cases he;rw[hg]at hk;exact Fb.1 hk.1
  ·exact ad7 hk.2 o i g b h hg
theorem MI{i:Nat}{o:Oper}(h:ops[i]? =some o):(o,i)∈ops.toList.zipIdx:=by rw[List.mem_zipIdx_iff_getElem?];simpa using h
theorem GM{j:Nat}{t:Tmp}(h:iK ops j=some t):∃o,ops[j]? =some o∧o.dst=some t:=by
 unfold iK at h;cases ho:ops[j]? with
 |none=>rw[ho]at h;cases h
 |some o=>rw[ho]at h;exact⟨o,rfl,h⟩
theorem uh.of(h:UT ops ms=true)(hg:Ip ms ops.toList.zipIdx=true):uh ops ms:=by
 unfold UT at h;simp only[cW]at h;obtain⟨h1,h2⟩:=h;rw[List.all_eq_true]at h2;refine⟨?_,?_,?_⟩
 ·intro i j t hi hj;obtain⟨o,ho,hd⟩:=GM hi;obtain⟨o',pR,pg⟩:=GM hj;exact adJ h1 (by rw[Array.getElem?_toList];exact ho) (by rw[Array.getElem?_toList];exact pR) hd pg
 ·intro i j o t ho ht hj;obtain⟨o',pR,pg⟩:=GM hj;have h3:=h2 _ (MI ho);simp only[List.all_eq_true]at h3;have h4:=h3 _ (MI pR);simp only[pg,Bool.or_eq_true,Bool.not_eq_true',Fb]at h4;rcases h4 with((h|h)|h)|h
  ·exact .inl (eu h)
  ·rw[List.any_eq_false]at h;exact(h t (List.mem_append_left _ ht) (by simp)).elim
  ·exact .inr (.inl h)
  ·exact .inr (.inr h)
 ·intro i o g b ho HH;exact ad7 hg o i g b (MI ho) HH
theorem aoO{pl:PF}(h:Fm ops=some pl):
 zD ops.toList []=some pl.ms∧qT pl.ms [] pl.Ar∧(∀i,i<ops.size↔i∈pl.Ar)∧tG ops pl.ms none pl.Ar=true∧uh ops pl.ms:=by
 unfold Fm at h;split at h
 ·cases h
 ·rename_i ms Et;split at h
  ·cases h
  ·rename_i l hl;obtain⟨h1,h2⟩:=c6 h;cases h2;simp only[cW]at h1;obtain⟨g1,g2,g3⟩:=Zj ops.size 0 (List.range ops.size) [] l hl (fun j hj=>by rw[abz]at hj;cases hj) (fun _ _ h=>by cases h);exact⟨Et,g1,fun i=>⟨fun hi=>g2 i (List.mem_range.2 hi),fun hi=>List.mem_range.1 (g3 i hi)⟩,h1.1.1,uh.of h1.1.2 h1.2⟩
theorem acV{i:Nat}{t:Tmp}:Un ops ms i t=true↔∃j,iK ops j=some t∧¬jN ms i j:=by
 unfold Un;rw[List.any_eq_true];constructor
 ·rintro⟨⟨o,j⟩,hm,h⟩;rw[List.mem_zipIdx_iff_getElem?]at hm;simp only[cW,Bool.not_eq_true']at h;refine⟨j,?_,fun hn=>?_⟩
  ·have ho:ops[j]? =some o:=by simpa using hm
   unfold iK;rw[ho];cases hd:o.dst with
   |none=>rw[hd]at h;simp at h
   |some d=>rw[hd]at h;simp only at h;show o.dst=some t;rw[hd];exact congrArg some (eu h.1)
  ·rw[←Fb]at hn;rw[hn]at h;exact absurd h.2 (by simp)
 ·rintro⟨j,hj,hn⟩;obtain⟨o,ho,hd⟩:=GM hj;refine⟨(o,j),MI ho,?_⟩;simp only[hd,cW,Bool.not_eq_true'];exact⟨by simp,Bool.eq_false_iff.2 fun h=>hn (Fb.1 h)⟩
end
section
variable{P:Program}{ρ:Operand->Option AV}{H H':AH}
theorem ZI(hm:∀id ob,H.bu id=some ob->H'.bu id=some ob){id:Nat}{vs:LV}(h:H.nP id=some vs):H'.nP id=some vs:=by
 unfold AH.nP at h⊢;split at h
 ·rename_i ho;rw[hm _ _ ho];exact h
 ·rename_i ho;rw[hm _ _ ho];exact h
 ·rename_i ho;rw[hm _ _ ho];exact h
 ·rename_i ho;rw[hm _ _ ho];exact h
 ·cases h
theorem aiC(hm:∀id ob,H.bu id=some ob->H'.bu id=some ob){m:AV}{es:List (AV×AV)}(h:Dh H m=some es):vK H' m=none∧Dh H' m=some es:=by
 unfold Dh at h⊢;unfold vK;split at h
 ·split at h
  ·rename_i ho;simp only[hm _ _ ho];exact⟨trivial,h⟩
  ·cases h
 ·cases h
theorem aj8(hm:∀id ob,H.bu id=some ob->H'.bu id=some ob){m:AV}{es:List (AV×AV×Nat)}(h:vK H m=some es):vK H' m=some es:=by
 unfold vK at h⊢;cases m<;>simp only at h⊢<;>try (cases h;done)
 case mF=>exact h
 case aH id=>
  split at h
  ·rename_i ho;rw[hm _ _ ho];exact h
  ·cases h
theorem anf(hm:∀id ob,H.bu id=some ob->H'.bu id=some ob){x:AV}{n:Nat}(h:BD H x=some n):BD H' x=some n:=by
 unfold BD at h⊢;cases x<;>simp only at h⊢<;>try (first|exact h|cases h;done)
 case aH id=>
  split at h
  ·rename_i ho;rw[hm _ _ ho];exact h
  ·cases h
theorem avP{op:Op}(h:Mc op=true)(H H':AH):fK P ρ H op=fK P ρ H' op:=by cases op<;>first|rfl|(simp[Mc]at h)
theorem apk(hm:∀id ob,H.bu id=some ob->H'.bu id=some ob){op:Op}{v:AV}(h:fK P ρ H op=some v):fK P ρ H' op=some v:=by
 cases op<;>simp only[fK]at h⊢<;>try (first|exact h|cases h;done)
 case load t a=>
  unfold H_ at h⊢;split at h
  ·unfold rB at h⊢;split at h
   ·cases h
   ·rename_i hc;rw[ZI hm hc];exact h
  ·exact h
  ·cases h
 case slice t x lo hi mx=>
  unfold xR at h⊢;split at h
  ·split at h
   ·exact h
   ·exact h
   ·exact h
   ·exact h
   ·exact h
   ·split at h
    ·rename_i hs hc;simp only[hs,ZI hm hc];exact h
    ·cases h
   ·cases h
  ·cases h
 case lookup t x k ok=>
  unfold ET at h⊢;split at h
  ·unfold EU at h⊢;obtain⟨h1,h⟩:=c6 h;rw[h1];simp only[cond_true];split at h
   ·rename_i he;rw[aj8 hm he];exact h
   ·split at h
    ·rename_i he;obtain⟨e1,e2⟩:=aiC hm he;rw[e1,e2];exact h
    ·cases h
  ·cases h
 case call c=>
  obtain⟨callee,args,argTypes⟩:=c;cases callee<;>simp only at h⊢<;>try (cases h;done)
  unfold T_ at h⊢;split at h
  ·unfold Mk at h⊢;split at h
   ·unfold Ud at h⊢;split at h
    ·exact h
    ·obtain⟨h1,h⟩:=c6 h;rw[h1];simp only[cond_true];cases hl:BD H _ with
     |none=>rw[hl]at h;cases h
     |some n=>rw[anf hm hl];rw[hl]at h;exact h
    ·cases h
   ·exact h
   ·exact h
   ·exact h
   ·cases h
  ·cases h
end
mutual
theorem QC:∀{a b:AV},mu a b=true->a=b
 |.ai a,b,h=>by cases b<;>simp[mu]at h;rw[h]
 |.ck j a,b,h=>by cases b<;>simp[mu]at h;rw[h.1,h.2]
 |.aa a,b,h=>by
  cases b<;>simp only[mu]at h<;>try (cases h;done)
  rw[kD,mf]at h;rw[h]
 |.ab a o,b,h=>by
  cases b<;>simp only[mu,cW]at h<;>try (cases h;done)
  rw[eu h.1,eu h.2]
 |.om,b,h=>by cases b<;>first|rfl|(simp only[mu]at h;cases h)
 |.bE a1 a2 a3 a4 a5 a6,b,h=>by
  cases b<;>simp only[mu,cW,beq_iff_eq]at h<;>try (cases h;done)
  obtain⟨⟨⟨⟨⟨h1,h2⟩,h3⟩,h4⟩,h5⟩,h6⟩:=h;rw[eu h1,eu h2,eu h3,eu h4,eu h5,h6]
 |.bB,b,h=>by cases b<;>first|rfl|(simp only[mu]at h;cases h)
 |.aH a,b,h=>by
  cases b<;>simp only[mu]at h<;>try (cases h;done)
  rw[eu h]
 |.mF,b,h=>by cases b<;>first|rfl|(simp only[mu]at h;cases h)
 |.bR f l c,b,h=>by
  cases b<;>simp only[mu,cW,mf]at h<;>try (cases h;done)
  obtain⟨⟨h1,h2⟩,h3⟩:=h;rw[h1,Gy h2,Gy h3]
 |.gd a,b,h=>by
  cases b<;>simp only[mu]at h<;>try (cases h;done)
  rw[eu h]
 |.pC,b,h=>by cases b<;>first|rfl|(simp only[mu]at h;cases h)
 |.eK t v,b,h=>by
  cases b<;>simp only[mu,cW]at h<;>try (cases h;done)
  rw[eu h.1,QC h.2]
 |.ly,b,h=>by cases b<;>first|rfl|(simp only[mu]at h;cases h)
 |.au l,b,h=>by
  cases b<;>simp only[mu]at h<;>try (cases h;done)
  rw[Gy h]
 |.aJ l,b,h=>by
  cases b<;>simp only[mu]at h<;>try (cases h;done)
  rw[Gy h]
 |.tc a,b,h=>by
  cases b<;>simp only[mu]at h<;>try (cases h;done)
  rw[eu h]
theorem Gy:∀{l m:LV},w_ l m=true->l=m
 |[],[],_=>rfl
 |[],_::_,h=>by simp[w_]at h
 |_::_,[],h=>by simp[w_]at h
 |a::l,b::m,h=>by simp only[w_,cW]at h;rw[QC h.1,Gy h.2]
end
theorem auX{a b:AV}(h:IG a b=true):a=b:=by
 unfold IG at h;rcases(Bool.or_eq_true _ _).mp h with h|h
 ·exact QC h
 ·exact @gh _ (Classical.propDecidable _) h
section
variable{P:Program}{b:Frame}{a:Act}{k:List Item}{cs:List Frame}{w:World}{ops:Array Oper}
theorem yh{o:Oper}(ro:Option Nat)(ρ:Operand->Value)(h:∀c,o.op≠.defer c):o.semAt ro ρ=execOp ρ o:=Oper.semAt_eq ro ρ o h
theorem aeR{op:Op}(h:nA op=true)(c:Call):op≠.defer c:=by rintro rfl;cases h
theorem adj{ρ:Operand->Option AV}{op:Op}{r:aZ×(Nat->AV)}(h:nD P ρ op=some r)(c:Call):op≠.defer c:=by rintro rfl;cases h
theorem DL{i:Nat}{rest:LN}{o:Oper}(ho:ops[i]? =some o)(v:Value):
 (b.atR a (.inRegion ops (i::rest)::k)).finish v=b.atR (a.put o.dst v) (.inRegion ops rest::k):=by
 rw[Frame.finish_atR,ho];rfl
theorem IZ{i:Nat}{rest:LN}{o:Oper}(ho:ops[i]? =some o)(hw:Region.wanted o (yielded ops a.tmps)=true){v:Value}{w':World}
 (hr:(o.semAt b.roundOf a.eval).run P w=.ok (.value v) w'∨((o.semAt b.roundOf a.eval).run P w=.ok .skip w'∧v=undef)):
 step P (lone (b.atR a (.inRegion ops (i::rest)::k)) cs w)=.next (lone (b.atR (a.put o.dst v) (.inRegion ops rest::k)) cs w'):=by
 have hg:=stepGR_op (P:=P) (b:=b) (k:=k) (cs:=cs) (w:=w) (rest:=rest) ho hw;refine step_lone_go ?_;rw[hg,←DL ho];rcases hr with hr|⟨hr,rfl⟩<;>simp[stepG.apply,hr]
theorem avJ{i:Nat}{rest:LN}{o:Oper}(ho:ops[i]? =some o)(hw:Region.wanted o (yielded ops a.tmps)=true){f:FuncId}{args:Array Value}{w':World}
 (hr:(o.semAt b.roundOf a.eval).run P w=.ok (.enter f args) w'):
 step P (lone (b.atR a (.inRegion ops (i::rest)::k)) cs w)=.next (lone (Frame.enter P f args .normal) (b.atR a (.inRegion ops (i::rest)::k)::cs) w'):=by
 have hg:=stepGR_op (P:=P) (b:=b) (k:=k) (cs:=cs) (w:=w) (rest:=rest) ho hw;exact step_lone_go (by rw[hg];simp[stepG.apply,hr,Frame.atR])
theorem avL{i:Nat}{rest:LN}{o:Oper}(ho:ops[i]? =some o)(hw:Region.wanted o (yielded ops a.tmps)=true){l f:Nat}{tmps:Array Value}{assign body:Code}{w':World}
 (hr:(o.semAt b.roundOf a.eval).run P w=.ok (.round l f tmps assign body) w'):
 step P (lone (b.atR a (.inRegion ops (i::rest)::k)) cs w)=.next (lone (Frame.round l f tmps assign body .normal) (b.atR a (.inRegion ops (i::rest)::k)::cs) w'):=by
 have hg:=stepGR_op (P:=P) (b:=b) (k:=k) (cs:=cs) (w:=w) (rest:=rest) ho hw;exact step_lone_go (by rw[hg];simp[stepG.apply,hr,Frame.atR])
theorem avK{i:Nat}{rest:LN}{o:Oper}(ho:ops[i]? =some o)(hw:Region.wanted o (yielded ops a.tmps)=true){v:Value}{w':World}
 (hr:(o.semAt b.roundOf a.eval).run P w=.halt (.panic v) w'):
 step P (lone (b.atR a (.inRegion ops (i::rest)::k)) cs w)=.next (lone ((b.atR a (.inRegion ops (i::rest)::k)).raise [{v,recovered:=false}]) cs w'):=by
 have hg:=stepGR_op (P:=P) (b:=b) (k:=k) (cs:=cs) (w:=w) (rest:=rest) ho hw;refine step_lone_go ?_;rw[hg];simp[stepG.apply,hr]
theorem avI{i:Nat}{rest:LN}{o:Oper}(ho:ops[i]? =some o)(hw:Region.wanted o (yielded ops a.tmps)=true){d:Deferred}{w':World}
 (hr:(o.semAt b.roundOf a.eval).run P w=.ok (.defer d) w'):
 step P (lone (b.atR a (.inRegion ops (i::rest)::k)) cs w)=.next (lone (b.atR ({a with defers:=d::a.defers}.put o.dst undef) (.inRegion ops rest::k)) cs w'):=by
 have hg:=stepGR_op (P:=P) (b:=b) (k:=k) (cs:=cs) (w:=w) (rest:=rest) ho hw;refine step_lone_go ?_;have:({b.atR a (.inRegion ops (i::rest)::k)with defers:=d::a.defers}:Frame).finish undef=
  b.atR ({a with defers:=d::a.defers}.put o.dst undef) (.inRegion ops rest::k):=by
  have:=Frame.finish_atR b {a with defers:=d::a.defers} ops i rest k undef;rw[ho]at this;exact this
 rw[hg];simp only[stepG.apply,Sem.runT_eq,hr,GStep.bare_after];exact congrArg (fun fr=>GStep.go {frame:=fr,callers:=cs,status:=.running,dying:=none} w') this
end
theorem TR.put{φ:bf}{t t':Tr AV}{nt:Nat}{a:Act}{dst:Option Tmp}{x:AV}{v:Value}(h:TR φ t nt a.tmps)(hs:mh nt t dst x=some t')(hv:VR φ x v):TR φ t' nt (a.put dst v).tmps:=by
 cases dst with
 |none=>cases hs;exact h
 |some d=>
  simp only[mh]at hs;obtain⟨h1,h2⟩:=c6 hs;cases h2;have hd:d<nt:=Nat.le_of_ble_eq_true h1;refine⟨by show(a.tmps.setIfInBounds d v).size=nt;rw[Array.size_setIfInBounds];exact h.1,fun i x' hx=>?_⟩;show∃v',(a.tmps.setIfInBounds d v)[i]? =some v'∧_;rw[Array.getElem?_setIfInBounds];by_cases hi:d=i
  ·subst hi;rw[Tr.kZ]at hx;simp at hx;subst hx;rw[aY rfl,aY (by rw[h.1];exact hd)];exact⟨v,rfl,hv⟩
  ·rw[Tr.kZ]at hx;rw[aB hi];exact h.2 i x' (by simpa[hi,Ne.symm hi]using hx)
theorem TR.oo{φ:bf}{t:Tr AV}{nt:Nat}{a:Act}(h:TR φ t nt a.tmps)(l:List Operand):mr φ (ia t) a.eval l:=by
 intro x _ v hx;cases x with
 |tmp i=>obtain⟨v',h1,h2⟩:=h.2 i v hx;show VR φ v (a.tmps.getD i undef);rw[Array.getD_eq_getD_getElem?,h1];exact h2
 |const c=>exact QZ hx
 |global g=>cases hx;rfl
 |func f=>cases hx;exact⟨#[],#[],rfl,rfl,nj,nj⟩
def CR(φ:bf):qS->List PanicEntry->Prop
 |[],l=>l=[]
 |(v,r)::c,l=>∃v' l',l={v:=v',recovered:=r}::l'∧VR φ v v'∧CR φ c l'
def CW(Dc Da:LN)(j:Nat):Prop:=j∈Da∧j∉Dc
def P7(ops:Array Oper)(bt cur:Tr AV)(Dc Da:LN)(t:Tmp)(a:AV):Prop:=
 (∃j,CW Dc Da j∧iK ops j=some t∧bt.bV t=some a)∨((∀j,CW Dc Da j->iK ops j≠some t)∧cur.bV t=some a)
def F'(ops:Array Oper)(ms:LN)(bt cur:Tr AV)(j:Nat)(o:Oper)(ρ:Operand->Option AV):Prop:=
 ∀x∈o.op.operands.toList,ρ x=Df (uC ops ms bt cur j) x
def CV(P:Program)(ops:Array Oper)(ms:LN)(bt cur:Tr AV)(H:AH)(φ:bf)(m:Nat)(gZ:Nat->Option Nat)(j:Nat)(o:Oper)(b:Bool)(v:AV):Prop:=
 (b=false∧v=.lz)∨
 (b=true∧nA o.op=true∧∃ρ,F' ops ms bt cur j o ρ∧fK P ρ H o.op=some v)∨
 (b=true∧∃ρ ob g id,F' ops ms bt cur j o ρ∧nD P ρ o.op=some (ob,g)∧v=g id∧gZ j=some id∧m<=id∧φ id=none∧H.bu id=some ob)
structure o7(P:Program)(ops:Array Oper)(ms:LN)(bt:Tr AV)(nt:Nat)(bs:dX)(m:Nat)(gZ:Nat->Option Nat)(Dc Da:LN)(cur:Tr AV)(H:AH)(φ:bf)(w:World)(tmps:Array Value):Prop where
 wr:WR φ bs H w
 hb:gA bs w
 hm:m<=H.bL
 Aq:tmps.size=nt
 tr:∀t a,P7 ops bt cur Dc Da t a->∃v,tmps[t]? =some v∧VR φ a v
 un:∀t,(∀j∈Da,iK ops j≠some t)->cur.bV t=bt.bV t
 zp:∀j id,gZ j=some id->id<H.bL
 inj:∀j j' id,gZ j=some id->gZ j'=some id->j=j'
 Nh:∀j,CW Dc Da j->∃o b v,ops[j]? =some o∧kr ops o cur.bV=some b∧(∀d,o.dst=some d->d<nt∧cur.bV d=some v)∧CV P ops ms bt cur H φ m gZ j o b v
section
variable{P:Program}{call:iu}{ops:Array Oper}{ms:LN}{bt cur jg:Tr AV}{nt:Nat}{bs:dX}{m:Nat}{gZ:Nat->Option Nat}{Dc Da:LN}{H H':AH}{φ aW:bf}{w:World}{tmps:Array Value}
theorem KP{i:Nat}{t:Tmp}(h:∃j,iK ops j=some t∧¬jN ms i j):uC ops ms bt cur i t=bt.bV t:=by unfold uC;rw[acV.2 h];rfl
theorem KQ{i:Nat}{t:Tmp}(h:¬∃j,iK ops j=some t∧¬jN ms i j):uC ops ms bt cur i t=cur.bV t:=by unfold uC;rw[Bool.eq_false_iff.2 fun hl=>h (acV.1 hl)];rfl
theorem aaB{j i:Nat}{s:Option Tmp}(A_:∀d,s=some d->iK ops i=some d)(hi:i∉Da)(hn:∀k,jN ms j k->k∈Da)
 (hk:∀t,s≠some t->jg.bV t=cur.bV t):uC ops ms bt jg j=uC ops ms bt cur j:=by
 funext t;by_cases hl:∃k,iK ops k=some t∧¬jN ms j k
 ·rw[KP hl,KP hl]
 ·rw[KQ hl,KQ hl];refine hk t fun hs=>?_
  have hd:=A_ t hs;exact hi (hn i (tL fun h=>hl ⟨i,hd,h⟩))
theorem W8(ig:uh ops ms){j i:Nat}{o:Oper}{s:Option Tmp}(ho:ops[j]? =some o)(A_:∀d,s=some d->iK ops i=some d)(hi:i∉Da)(hn:∀k,jN ms j k->k∈Da)
 (hk:∀t,s≠some t->jg.bV t=cur.bV t):kr ops o jg.bV=kr ops o cur.bV:=by
 unfold kr;split
 ·rfl
 ·rename_i g oV hg;have HH:=hn g (ig.guard j o g oV ho hg);split
  ·rfl
  ·rename_i d hd;have:jg.bV d=cur.bV d:=hk d fun hs=>by have:=ig.uc g i d hd (A_ d hs);subst this;exact hi HH
   rw[this]
theorem NF{o:Oper}{i:Nat}{v:AV}(ho:ops[i]? =some o)(h:mh nt cur o.dst v=some jg):
 (∀d,o.dst=some d->d<nt∧jg.bV d=some v∧iK ops i=some d)∧(∀t,iK ops i≠some t->jg.bV t=cur.bV t):=by
 have Ei:iK ops i=o.dst:=by unfold iK;rw[ho];rfl
 rw[Ei];cases hd:o.dst with
 |none=>rw[hd]at h;cases h;exact⟨(fun d h=>by cases h),fun _ _=>rfl⟩
 |some d=>
  rw[hd]at h;simp only[mh]at h;obtain⟨h1,h2⟩:=c6 h;cases h2;refine⟨?_,?_⟩
  ·intro d' pg;cases pg;exact⟨Nat.le_of_ble_eq_true h1,by rw[Tr.kZ];simp,rfl⟩
  ·intro t ht;rw[Tr.kZ,aB];intro e;exact ht (by rw[e])
theorem CV.acJ{j i:Nat}{o:Oper}{s:Option Tmp}{b:Bool}{v:AV}(h:CV P ops ms bt cur H φ m gZ j o b v)(A_:∀d,s=some d->iK ops i=some d)(hi:i∉Da)(hn:∀k,jN ms j k->k∈Da)
 (hk:∀t,s≠some t->jg.bV t=cur.bV t):CV P ops ms bt jg H φ m gZ j o b v:=by
 unfold CV F' at h⊢;rw[aaB A_ hi hn hk];exact h
theorem o7.Y0(ig:uh ops ms)(h:o7 P ops ms bt nt bs m gZ Dc Da cur H φ w tmps){i:Nat}{o:Oper}(ho:ops[i]? =some o)(hi:i∉Da)(qy:∀j,jN ms i j->j∈Da)
 (lZ:o5 ms Da) (qB:∀j∈Dc,j∈Da) (hl:oJ o.op=true∨kr ops o cur.bV=some false) (hs:oM P call ops ms bt Da i nt cur H o=.go jg H'):
 ∃tA,o7 P ops ms bt nt bs m tA Dc (i::Da) jg H' φ w tmps∧cQ m φ H φ H':=by
 have alW:i∉Dc:=fun hd=>hi (qB i hd)
 have amn:∀t∈Jb o,cur.bV t=uC ops ms bt cur i t:=by
  intro t ht;by_cases hl:∃k,iK ops k=some t∧¬jN ms i k
  ·rw[KP hl];obtain⟨k,hk,xB⟩:=hl;have al3:k∉Da:=by
    intro si;rcases ig.U4 i k o t ho ht hk with rfl|hh|hh
    ·exact hi si
    ·exact xB hh
    ·exact hi (lZ k si i hh)
   exact h.un t fun j hj hd=>by have:=ig.uc j k t hd hk;subst this;exact al3 hj
  ·rw[KQ hl]
 have uL:∀Q3,(∀t,iK ops i≠some t->Q3.bV t=cur.bV t)->F' ops ms bt Q3 i o (ia cur):=by
  intro Q3 hk x hx;rw[aaB (fun d h=>h) hi qy hk];cases x with
  |tmp t=>exact amn t (List.mem_filterMap.2 ⟨.tmp t,hx,rfl⟩)
  |const c=>rfl
  |global g=>rfl
  |func f=>rfl
 have key:∀(v:AV) (H1:AH) (tA:Nat->Option Nat) (b:Bool),mh nt cur o.dst v=some jg->kr ops o cur.bV=some b->WR φ bs H1 w->H.bL<=H1.bL->
  (∀j id,tA j=some id->id<H1.bL)->(∀j j' id,tA j=some id->tA j'=some id->j=j')->(∀j,j≠i->tA j=gZ j)->
  (∀id ob,H.bu id=some ob->H1.bu id=some ob)->
  CV P ops ms bt jg H1 φ m tA i o b v->o7 P ops ms bt nt bs m tA Dc (i::Da) jg H1 φ w tmps:=by
  intro v H1 tA b l6 ph tz zj SP alZ zk abZ Tk;obtain⟨g1,g2⟩:=NF ho l6;refine⟨tz,h.hb,Nat.le_trans h.hm zj,h.Aq,?_,?_,SP,alZ,?_⟩
  ·intro t a hv;refine h.tr t a ?_;rcases hv with⟨j,⟨sh,LO⟩,hd,hb⟩|⟨jX,hc⟩
   ·rcases List.mem_cons.1 sh with rfl|sh
    ·refine .inr ⟨fun k hk si=>?_,?_⟩
     ·have:=ig.uc k j t si hd;subst this;exact hi hk.1
     ·rw[h.un t fun k hk si=>?_]
      ·exact hb
      ·have:=ig.uc k j t si hd;subst this;exact hi hk
    ·exact .inl ⟨j,⟨sh,LO⟩,hd,hb⟩
   ·refine .inr ⟨fun k hk=>jX k ⟨fF _ hk.1,hk.2⟩,?_⟩;rw[←g2 t (jX i ⟨gi ..,alW⟩)];exact hc
  ·intro t ht;rw[g2 t (ht i (gi ..))];exact h.un t fun j hj=>ht j (fF _ hj)
  ·intro j ⟨sh,LO⟩;rcases List.mem_cons.1 sh with rfl|sh
   ·exact⟨o,b,v,ho,by rw[W8 ig ho (fun d h=>h) hi qy g2];exact ph,fun d hd=>⟨(g1 d hd).1,(g1 d hd).2.1⟩,Tk⟩
   ·have hji:j≠i:=fun e=>hi (e▸sh)
    obtain⟨o',b',v',p1,p2,p3,p4⟩:=h.Nh j ⟨sh,LO⟩;refine⟨o',b',v',p1,by rw[W8 ig p1 (fun d h=>h) hi (lZ j sh) g2];exact p2,fun d hd=>⟨(p3 d hd).1,?_⟩,?_⟩
    ·rw[g2 d fun pg=>?_]
     ·exact(p3 d hd).2
     ·have:iK ops j=some d:=by unfold iK;rw[p1];exact hd
      exact hji (ig.uc j i d this pg)
    ·have p5:=p4.acJ (jg:=jg) (fun d h=>h) hi (lZ j sh) g2;rcases p5 with p|⟨p,q,ρ,e,r⟩|⟨p,ρ,ob,g,id,e,q1,q2,q3,q4,q5,q6⟩
     ·exact .inl p
     ·exact .inr (.inl ⟨p,q,ρ,e,apk abZ r⟩)
     ·exact .inr (.inr ⟨p,ρ,ob,g,id,e,q1,q2,by rw[zk j hji];exact q3,q4,q5,abZ _ _ q6⟩)
 unfold oM at hs;split at hs
 ·cases hs
 ·rename_i b ph;cases b with
  |false=>
   simp only[cond_false,qJ]at hs;split at hs
   ·rename_i t l6;cases hs;exact⟨gZ,key .lz H gZ false l6 ph h.wr (fB _) h.zp h.inj (fun _ _=>rfl) (fun _ _ h=>h) (.inl ⟨rfl,rfl⟩),cQ.jK _ _ _⟩
   ·cases hs
  |true=>
   simp only[cond_true]at hs;cases hr:nA o.op with
   |true=>
    rw[hr]at hs;simp only[cond_true,It]at hs;split at hs
    ·rename_i v hv;simp only[qJ]at hs;split at hs
     ·rename_i t l6;cases hs;exact⟨gZ,key v H gZ true l6 ph h.wr (fB _) h.zp h.inj (fun _ _=>rfl) (fun _ _ h=>h) (.inr (.inl ⟨rfl,hr,ia cur,uL _ (NF ho l6).2,hv⟩)),cQ.jK _ _ _⟩
     ·cases hs
    ·cases hs
   |false=>
    rw[hr]at hs;simp only[cond_false]at hs;cases v8:pW o.op with
    |false=>
     rcases hl with hl|hl
     ·simp[oJ,hr,v8]at hl
     ·rw[ph]at hl;cases hl
    |true=>
     rw[v8]at hs;simp only[cond_true]at hs;cases tn:nD P (ia cur) o.op with
     |none=>rw[tn]at hs;simp[zK]at hs
     |some r=>
      obtain⟨ob,g⟩:=r;obtain⟨hh,n⟩:=H;rw[tn]at hs;simp only[zK,qJ]at hs;split at hs
      ·rename_i t l6;cases hs;have vX:=h.wr.jV (fB _);refine⟨fun j=>if j=i then some n else gZ j,?_,cQ.new h.hm ob⟩;refine key (g n) _ _ true l6 ph (h.wr.new ob) (by rw[x9];exact Nat.le_succ _) ?_ ?_ (fun j hj=>aB hj) ?_ ?_
       ·intro j id hj;rw[x9];split at hj
        ·cases hj;exact lR _
        ·exact Nat.lt_succ_of_lt (h.zp j id hj)
       ·intro j j' id hj rl;split at hj<;>split at rl
        ·rename_i e1 e2;rw[e1,e2]
        ·cases hj;have:=h.zp _ _ rl;exact absurd this (Nat.lt_irrefl _)
        ·cases rl;have:=h.zp _ _ hj;exact absurd this (Nat.lt_irrefl _)
        ·exact h.inj j j' id hj rl
       ·intro id bW fv;rw[rF,aB]
        ·exact fv
        ·intro e;have:=h.wr.nx id bW fv;rw[e]at this;exact Nat.lt_irrefl _ this
       ·exact .inr (.inr ⟨rfl,ia cur,ob,g,n,uL _ (NF ho l6).2,tn,rfl,aY rfl,h.hm,vX,by rw[rF,aY rfl]⟩)
      ·cases hs
end
section
variable{P:Program}{call:iu}{ops:Array Oper}{ms:LN}{bt cur jg:Tr AV}{nt:Nat}{bs:dX}{m:Nat}{gZ:Nat->Option Nat}{Dc Da:LN}{H H':AH}{φ aW:bf}{w w':World}{a:Act}
theorem ahm{o:Oper}{b:Bool}(h:kr ops o cur.bV=some b)(hv:∀g oV d x,o.guard=some (g,oV)->iK ops g=some d->cur.bV d=some x->∃v,a.tmps[d]? =some v∧VR φ x v):
 Region.wanted o (yielded ops a.tmps)=b:=by
 unfold kr at h;unfold Region.wanted;split at h
 ·rename_i hg;cases h;rw[hg]
 ·rename_i g oV hg;rw[hg];simp only;split at h
  ·cases h
  ·rename_i d hd;have hy:yielded ops a.tmps g=(match a.tmps[d]? with|some (.bool b)=>some b|_=>none):=by unfold yielded;rw[hd];rfl
   rw[hy];split at h
   ·rename_i x hx;cases h;obtain⟨v,h1,h2⟩:=hv g oV d _ hg hd hx;simp only[VR]at h2;subst h2;rw[h1];cases x<;>cases oV<;>rfl
   ·rename_i hx;cases h;obtain⟨v,h1,h2⟩:=hv g oV d _ hg hd hx;obtain⟨l,rfl,_⟩:=h2;rw[h1];rfl
   ·cases h
theorem Zq{get:Tmp->Option AV}{l:List Operand}(h:∀t,.tmp t∈l->∀x,get t=some x->∃v,a.tmps[t]? =some v∧VR φ x v):mr φ (Df get) a.eval l:=by
 intro x hx v hv;cases x with
 |tmp i=>obtain⟨v',h1,h2⟩:=h i hx v hv;show VR φ v (a.tmps.getD i undef);rw[Array.getD_eq_getD_getElem?,h1];exact h2
 |const c=>exact QZ hv
 |global g=>cases hv;rfl
 |func f=>cases hv;exact⟨#[],#[],rfl,rfl,nj,nj⟩
theorem aeH{d:Tmp}{v:Value}(h:d<a.tmps.size):(a.put (some d) v).tmps[d]? =some v:=by show(a.tmps.setIfInBounds d v)[d]? =some v;rw[Array.getElem?_setIfInBounds,aY rfl,aY h]
theorem aeE{s:Option Tmp}{t:Tmp}{v:Value}(h:s≠some t):(a.put s v).tmps[t]? =a.tmps[t]? :=by
 cases s with
 |none=>rfl
 |some d=>show(a.tmps.setIfInBounds d v)[t]? =_;rw[Array.getElem?_setIfInBounds,aB (fun e=>h (by rw[e]))]
theorem aeG{s:Option Tmp}{v:Value}:(a.put s v).tmps.size=a.tmps.size:=by
 cases s with
 |none=>rfl
 |some d=>exact Array.size_setIfInBounds ..
theorem zN{s:Option Tmp}{v:Value}:(a.put s v).defers=a.defers:=by cases s<;>rfl
theorem o7.guard(ig:uh ops ms)(h:o7 P ops ms bt nt bs m gZ Dc Da cur H φ w a.tmps){c:Nat}{o:Oper}(ho:ops[c]? =some o)(qy:∀j,jN ms c j->j∈Dc){b:Bool}(hw:kr ops o cur.bV=some b):
 Region.wanted o (yielded ops a.tmps)=b:=by
 refine ahm hw fun g oV d x hg hd hx=>h.tr d x (.inr ⟨fun j hj oG=>?_,hx⟩)
 have:=ig.uc g j d hd oG;subst this;exact hj.2 (qy _ (ig.guard c o _ oV ho hg))
theorem o7.exec(ig:uh ops ms)(h:o7 P ops ms bt nt bs m gZ Dc Da cur H φ w a.tmps){c:Nat}(hp:CW Dc Da c)(qy:∀j,jN ms c j->j∈Dc)(lZ:o5 ms Dc):
 ∃aW w' a',(∀(b:Frame) (k:List Item) (cs:List Frame) (rest:LN),step P (lone (b.atR a (.inRegion ops (c::rest)::k)) cs w)=.next (lone (b.atR a' (.inRegion ops rest::k)) cs w'))∧a'.defers=a.defers∧
  o7 P ops ms bt nt bs m gZ (c::Dc) Da cur H aW w' a'.tmps∧cQ m φ H aW H∧c8 bs w w':=by
 obtain⟨o,b,v,ho,ph,A_,Tk⟩:=h.Nh c hp;have Ei:iK ops c=o.dst:=by unfold iK;rw[ho];rfl
 have pj:=h.guard ig ho qy ph;have uV:∀ρ,F' ops ms bt cur c o ρ->mr φ ρ a.eval o.op.operands.toList:=by
  intro ρ he x hx y hy;rw[he x hx]at hy;refine Zq (l:=o.op.operands.toList) (fun t ht z hz=>h.tr t z ?_) x hx y hy;have TA:t∈Jb o:=List.mem_filterMap.2 ⟨.tmp t,ht,rfl⟩;by_cases hl:∃k,iK ops k=some t∧¬jN ms c k
  ·rw[KP hl]at hz;obtain⟨k,hk,xB⟩:=hl;by_cases SY:CW Dc Da k
   ·exact .inl ⟨k,SY,hk,hz⟩
   ·have al4:k∉Dc:=by
     intro si;rcases ig.U4 c k o t ho TA hk with rfl|hh|hh
     ·exact hp.2 si
     ·exact xB hh
     ·exact hp.2 (lZ k si c hh)
    refine .inr ⟨fun j hj hd=>?_,?_⟩
    ·have:=ig.uc j k t hd hk;subst this;exact SY hj
    ·rw[h.un t fun j hj hd=>?_]
     ·exact hz
     ·have:=ig.uc j k t hd hk;subst this;exact SY ⟨hj,al4⟩
  ·rw[KQ hl]at hz;refine .inr ⟨fun j hj hd=>?_,hz⟩;exact hj.2 (qy j (tL fun hn=>hl ⟨j,hd,hn⟩))
 have key:∀(aW:bf) (w':World) (v':Value),WR aW bs H w'->cQ m φ H aW H->c8 bs w w'->VR aW v v'->
  (∀j id,j≠c->gZ j=some id->φ id=none->aW id=none)->o7 P ops ms bt nt bs m gZ (c::Dc) Da cur H aW w' (a.put o.dst v').tmps:=by
  intro aW w' v' tz zh hk hv SP;refine⟨tz,h.hb.CB hk.1,h.hm,by rw[aeG];exact h.Aq,?_,h.un,h.zp,h.inj,?_⟩
  ·intro t x hx;by_cases v_:o.dst=some t
   ·have hd:=A_ t v_;have Tc:¬∃j,CW (c::Dc) Da j∧iK ops j=some t:=by rintro⟨j,hj,oG⟩;have:=ig.uc j c t oG (by rw[Ei];exact v_);subst this;exact hj.2 (gi ..)
    rcases hx with⟨j,hj,oG,_⟩|⟨_,hx⟩
    ·exact(Tc ⟨j,hj,oG⟩).elim
    ·rw[hd.2]at hx;cases hx;rw[v_];exact⟨v',aeH (by rw[h.Aq];exact hd.1),hv⟩
   ·rw[aeE v_];have:P7 ops bt cur Dc Da t x:=by
     rcases hx with⟨j,hj,oG,hb⟩|⟨jX,hx⟩
     ·exact .inl ⟨j,⟨hj.1,fun hd=>hj.2 (fF _ hd)⟩,oG,hb⟩
     ·refine .inr ⟨fun j hj oG=>?_,hx⟩;by_cases Bi:j=c
      ·subst Bi;exact v_ (by rw[←Ei];exact oG)
      ·refine jX j ⟨hj.1,fun hd=>?_⟩ oG;rcases List.mem_cons.1 hd with e|hd
       ·exact Bi e
       ·exact hj.2 hd
    obtain⟨u,h1,h2⟩:=h.tr t x this;exact⟨u,h1,h2.gW zh.1⟩
  ·intro j hj;have Bi:j≠c:=fun e=>hj.2 (e▸gi ..)
   obtain⟨o',b',Ol,p1,p2,p3,p4⟩:=h.Nh j ⟨hj.1,fun hd=>hj.2 (fF _ hd)⟩;refine⟨o',b',Ol,p1,p2,p3,?_⟩;rcases p4 with p|p|⟨p,ρ,ob,g,id,e,q1,q2,q3,q4,q5,q6⟩
   ·exact .inl p
   ·exact .inr (.inl p)
   ·exact .inr (.inr ⟨p,ρ,ob,g,id,e,q1,q2,q3,q4,SP j id Bi q3 q5,q6⟩)
 rcases Tk with⟨rfl,rfl⟩|⟨rfl,hr,ρ,uL,EB⟩|⟨rfl,ρ,ob,g,id,uL,abW,rfl,dF,S4,LX,fv⟩
 ·refine⟨φ,w,a.put o.dst undef,fun b k cs rest=>?_,zN,key φ w undef h.wr (cQ.jK _ _ _) (c8.kv _ _) (FQ φ) (fun _ _ _ _ h=>h),cQ.jK _ _ _,c8.kv _ _⟩;have:=stepR_op_skip (P:=P) (b:=b) (a:=a) (k:=k) (cs:=cs) (w:=w) (ops:=ops) (i:=c) (rest:=rest) (by simp[ho,pj]);simpa[ho]using this
 ·obtain⟨v',h1,h2⟩:=aeT h.wr (uV ρ uL) EB;exact⟨φ,w,a.put o.dst v',fun b k cs rest=>IZ ho pj (.inl (by rw[yh _ _ (aeR hr)];exact h1)),zN,key φ w v' h.wr (cQ.jK _ _ _) (c8.kv _ _) h2 (fun _ _ _ _ h=>h),cQ.jK _ _ _,c8.kv _ _⟩
 ·obtain⟨o',n,f,h1,h2,h3,h4⟩:=adk (uV ρ uL) abW;have cI:=Ke (e:=⟨w.heap.size,0,n⟩) LX;have zh:cQ m φ H (js φ id ⟨w.heap.size,0,n⟩) H:=⟨cI,fB _,fun i hi hn=>⟨by rw[Zx];rw[aB (by omega)];exact hn,.inl rfl⟩⟩;have hk:=c8.alloc h.hb o';refine⟨js φ id ⟨w.heap.size,0,n⟩,w.alloc o',a.put o.dst (f w.heap.size),fun b k cs rest=>IZ ho pj (.inl (by rw[yh _ _ (adj abW)];exact h1 w)),zN,?_,zh,hk⟩;refine key _ _ _ (h.wr.Zy LX fv h.hb h2) zh hk (h3 _ id _ (mM ..)) ?_;intro j iC hj al2 hn;rw[Zx];rw[aB]
  ·exact hn
  ·intro e;subst e;exact hj (h.inj j c _ al2 dF)
end
def ahP(P:Program)(m:Nat)(bs:dX)(φ:bf)(H:AH)(w:World)(fr:Frame)(cs:List Frame)(r:fM):Prop:=
 ∃aW w',WR aW bs r.H w'∧cQ m φ H aW r.H∧c8 bs w w'∧match r.e with
  |.fQ v=>∃v',VR aW v v'∧Steps P (lone fr cs w) (lone (fr.finish v') cs w')
  |.iw c=>∃c',CR aW c c'∧Steps P (lone fr cs w) (lone (fr.raise c') cs w')
def JQ(P:Program)(call:iu)(b:Frame)(ops:Array Oper)(k:List Item)(cs:List Frame)(bs:dX):Prop:=
 ∀(a:Act) (i:Nat) (rest:LN) (o:Oper) (φ:bf) (H:AH) (w:World) (m:Nat) (aN:fC) (r:fM),m<=H.bL->gA bs w->ops[i]? =some o->Region.wanted o (yielded ops a.tmps)=true->WR φ bs H w->
  o.semAt b.roundOf a.eval=execOp a.eval o->ow P m bs φ H w (execOp a.eval o) aN->mO P call H none aN=some r->ahP P m bs φ H w (b.atR a (.inRegion ops (i::rest)::k)) cs r
theorem agH{P:Program}{ops:Array Oper}{ms:LN}{bt cur:Tr AV}{H:AH}:∀{l:LN},Cj P ops ms bt cur H l=true->∀j∈l,∃o b,ops[j]? =some o∧kr ops o cur.bV=some b∧
 (b=true->∃v,fK P (Df (uC ops ms bt cur j)) H o.op=some v∧∀d,o.dst=some d->cur.bV d=some v)
 |[],_,j,hj=>by cases hj
 |x::l,h,j,hj=>by
  simp only[Cj,cW]at h;obtain⟨h1,h2⟩:=h;rcases List.mem_cons.1 hj with rfl|hj
  ·split at h1
   ·cases h1
   ·rename_i o ho;split at h1
    ·cases h1
    ·rename_i hw;exact⟨o,false,ho,hw,fun h=>by cases h⟩
    ·rename_i hw;split at h1
     ·rename_i v d hv hd;refine⟨o,true,ho,hw,fun _=>⟨v,hv,fun d' pg=>?_⟩⟩;rw[hd]at pg;cases pg;cases hc:cur.bV d with
      |none=>rw[hc]at h1;cases h1
      |some y=>rw[hc]at h1;simp only[Option.any_some]at h1;rw[auX h1]
     ·rename_i v hv hd;refine⟨o,true,ho,hw,fun _=>⟨v,hv,fun d' pg=>?_⟩⟩;rw[hd]at pg;cases pg
     ·cases h1
  ·exact agH h2 j hj
theorem akf(t:Tr AV):∀(l:List Tmp) (i:Nat) (a:AV),(KV t l).bV i=some a->i∉l∧t.bV i=some a:=by
 intro l;induction l generalizing t with
 |nil=>intro i a h;exact⟨(fun h=>by cases h),h⟩
 |cons d l ih=>
  intro i a h;obtain⟨h1,h2⟩:=ih _ i a h;rw[Tr.akZ]at h2;split at h2
  ·cases h2
  ·rename_i di;refine⟨fun hm=>?_,h2⟩;rcases List.mem_cons.1 hm with rfl|hm
   ·exact di rfl
   ·exact h1 hm
section
variable{P:Program}{call:iu}{ops:Array Oper}{ms:LN}{bt cur jg:Tr AV}{nt:Nat}{bs:dX}{m:Nat}{gZ:Nat->Option Nat}{Dc Da:LN}{H H':AH}{φ aW:bf}{w w':World}{a:Act}{b:Frame}{k:List Item}{cs:List Frame}
def uj(P:Program)(ops:Array Oper)(bt:Tr AV)(nt:Nat)(bs:dX)(m:Nat)(φ:bf)(H:AH)(w:World)(b:Frame)(k:List Item)(cs:List Frame)(cl:LN)(a:Act):JR->Prop
 |.az t H'=>∃aW w' a',Steps P (lone (b.atR a (.inRegion ops cl::k)) cs w) (lone (b.atR a' (.inRegion ops []::k)) cs w')∧a'.defers=a.defers∧TR aW t nt a'.tmps∧WR aW bs H' w'∧cQ m φ H aW H'∧c8 bs w w'
 |.iw c H'=>∃aW w' a' Kl c',Steps P (lone (b.atR a (.inRegion ops cl::k)) cs w) (lone ((b.atR a' (.inRegion ops Kl::k)).raise c') cs w')∧a'.defers=a.defers∧TR aW (KV bt (Kw ops)) nt a'.tmps∧WR aW bs H' w'∧cQ m φ H aW H'∧c8 bs w w'∧CR aW c c'
 |.dY _=>True
theorem uj.step{cl Kl:LN}{a a':Act}{w w':World}{r:JR}(hs:Steps P (lone (b.atR a (.inRegion ops cl::k)) cs w) (lone (b.atR a' (.inRegion ops Kl::k)) cs w'))(hd:a'.defers=a.defers)
 (he:cQ m φ H aW H') (hk:c8 bs w w') (h:uj P ops bt nt bs m aW H' w' b k cs Kl a' r):uj P ops bt nt bs m φ H w b k cs cl a r:=by
 cases r with
 |az t H1=>obtain⟨mi,w1,a1,g1,g2,g3,g4,g5,g6⟩:=h;exact⟨mi,w1,a1,hs.trans g1,g2.trans hd,g3,g4,he.yy g5,hk.ud g6⟩
 |iw c H1=>obtain⟨mi,w1,a1,ZM,c1,g1,g2,g3,g4,g5,g6,g7⟩:=h;exact⟨mi,w1,a1,ZM,c1,hs.trans g1,g2.trans hd,g3,g4,he.yy g5,hk.ud g6,g7⟩
 |dY s=>trivial
theorem o7.av8(ig:uh ops ms)(jY:JQ P call b ops k cs bs)(h:o7 P ops ms bt nt bs m gZ Dc Da cur H φ w a.tmps){c:Nat}{o:Oper}(ho:ops[c]? =some o)(hi:c∉Da)
 (qy:∀j,jN ms c j->j∈Dc) (lZ:o5 ms Da) (qB:∀j∈Dc,j∈Da) (hl:oJ o.op=false) (ph:kr ops o cur.bV=some true) (rest:LN):
 match oM P call ops ms bt Da c nt cur H o with
 |.go jg H'=>∃aW w' a',Steps P (lone (b.atR a (.inRegion ops (c::rest)::k)) cs w) (lone (b.atR a' (.inRegion ops rest::k)) cs w')∧a'.defers=a.defers∧
   o7 P ops ms bt nt bs m gZ (c::Dc) (c::Da) jg H' aW w' a'.tmps∧cQ m φ H aW H'∧c8 bs w w'
 |.iw ch H'=>uj P ops bt nt bs m φ H w b k cs (c::rest) a (.iw ch H')
 |.dY _=>True:=by
 have Ei:iK ops c=o.dst:=by unfold iK;rw[ho];rfl
 have pj:=h.guard ig ho qy ph;have axX:∀j,jN ms c j->j∈Da:=fun j hj=>qB j (qy j hj)
 have uV:mr φ (ia cur) a.eval o.op.operands.toList:=by
  intro x hx y hy;have hae:∀x,ia cur x=Df cur.bV x:=fun x=>by cases x<;>rfl
  rw[hae]at hy;refine Zq (l:=o.op.operands.toList) (fun t ht z hz=>h.tr t z (.inr ⟨fun j hj oG=>?_,hz⟩)) x hx y hy;have TA:t∈Jb o:=List.mem_filterMap.2 ⟨.tmp t,ht,rfl⟩;rcases ig.U4 c j o t ho TA oG with rfl|hh|hh
  ·exact hi hj.1
  ·exact hj.2 (qy j hh)
  ·exact hi (lZ j hj.1 c hh)
 simp only[oJ,Bool.or_eq_false_iff]at hl;unfold oM;rw[ph];simp only[cond_true,hl.1,hl.2,cond_false];unfold U6;cases dM:nY P (ia cur) H o.op with
 |none=>trivial
 |some aN=>
  simp only;cases kf:mO P call H none aN with
  |none=>trivial
  |some r=>
   have oH:∀c,o.op≠.defer c:=by
    intro cc mB;rw[mB]at dM;simp only[nY,A5]at dM;split at dM
    ·split at dM
     ·rename_i fn first j9 l _ _
      cases hy:tB fn with
      |true=>rw[hy]at dM;cases dM
      |false=>rw[hy]at dM;cases dM;simp[mO]at kf
     ·cases dM
    ·cases dM
   have zl:=abI (P:=P) (m:=H.bL) h.wr h.hb (fB _) uV dM;obtain⟨aW,w',g1,g2,g3,g4⟩:=jY a c rest o φ H w H.bL aN r (fB _) h.hb ho pj h.wr (yh _ _ oH) zl kf;obtain⟨e,up,H1⟩:=r;simp only at g1 g2 g3 g4;cases e with
   |iw ch=>
    simp only[Nf];obtain⟨c',hc,pS⟩:=g4;refine⟨aW,w',a,c::rest,c',pS,rfl,⟨h.Aq,fun i x hx=>?_⟩,g1,g2.mono h.hm,g3,hc⟩;obtain⟨hx1,xL⟩:=akf bt (Kw ops) i x hx;have oH:∀j,iK ops j≠some i:=by intro j hj;obtain⟨o',pR,pg⟩:=GM hj;exact hx1 (List.mem_filterMap.2 ⟨o',Array.mem_toList_iff.2 (Array.mem_of_getElem? pR),pg⟩)
    obtain⟨v,q1,q2⟩:=h.tr i x (.inr ⟨fun j _=>oH j,by rw[h.un i fun j _=>oH j];exact xL⟩);exact⟨v,q1,q2.gW g2.1⟩
   |fQ v=>
    simp only[Nf];cases l6:mh nt cur o.dst v with
    |none=>trivial
    |some jg=>
     simp only;cases gC:Cj P ops ms bt jg H1 (J4 ops ms Da c)with
     |false=>trivial
     |true=>
      simp only[cond_true];obtain⟨v',hv,pS⟩:=g4;rw[DL ho]at pS;obtain⟨s1,s2⟩:=NF ho l6;refine⟨aW,w',a.put o.dst v',pS,zN,?_,g2.mono h.hm,g3⟩;refine⟨g1,h.hb.CB g3.1,Nat.le_trans h.hm g2.2.1,by rw[aeG];exact h.Aq,?_,?_,fun j id hj=>Nat.lt_of_lt_of_le (h.zp j id hj) g2.2.1,h.inj,?_⟩
      ·intro t x hx;by_cases v_:o.dst=some t
       ·have hd:=s1 t v_;rcases hx with⟨j,hj,oG,_⟩|⟨_,hx⟩
        ·have:=ig.uc j c t oG hd.2.2;subst this;exact(hj.2 (gi ..)).elim
        ·rw[hd.2.1]at hx;cases hx;rw[v_];exact⟨v',aeH (by rw[h.Aq];exact hd.1),hv⟩
       ·rw[aeE v_];have amA:P7 ops bt cur Dc Da t x:=by
         rcases hx with⟨j,hj,oG,hb⟩|⟨jX,hx⟩
         ·rcases List.mem_cons.1 hj.1 with rfl|sh
          ·exact(hj.2 (gi ..)).elim
          ·exact .inl ⟨j,⟨sh,fun hd=>hj.2 (fF _ hd)⟩,oG,hb⟩
         ·refine .inr ⟨fun j hj oG=>?_,by rw[←s2 t (by rw[Ei];exact v_)];exact hx⟩;refine jX j ⟨fF _ hj.1,fun hd=>?_⟩ oG;rcases List.mem_cons.1 hd with rfl|hd
          ·exact hi hj.1
          ·exact hj.2 hd
        obtain⟨u,q1,q2⟩:=h.tr t x amA;exact⟨u,q1,q2.gW g2.1⟩
      ·intro t ht;rw[s2 t (ht c (gi ..))];exact h.un t fun j hj=>ht j (fF _ hj)
      ·intro j hj;have Bi:j≠c:=fun e=>hj.2 (e▸gi ..)
       have LQ:j∈Da:=by
        rcases List.mem_cons.1 hj.1 with e|hd
        ·exact(Bi e).elim
        ·exact hd
       have abS:j∉Dc:=fun hd=>hj.2 (fF _ hd)
       obtain⟨o',b',Ol,p1,p2,p3,p4⟩:=h.Nh j ⟨LQ,abS⟩;have ry:kr ops o' jg.bV=kr ops o' cur.bV:=W8 ig p1 (fun d h=>h) hi (lZ j LQ) s2;have SB:∀d,o'.dst=some d->jg.bV d=cur.bV d:=by
        intro d hd;refine s2 d fun pg=>?_
        have:iK ops j=some d:=by unfold iK;rw[p1];exact hd
        exact Bi (ig.uc j c d this pg)
       have p5:=p4.acJ (jg:=jg) (fun d h=>h) hi (lZ j LQ) s2;rcases p5 with⟨rfl,rfl⟩|⟨rfl,q,ρ,e,r⟩|⟨rfl,ρ,ob,g,id,e,q1,q2,q3,q4,q5,q6⟩
       ·exact⟨o',false,_,p1,by rw[ry];exact p2,fun d hd=>⟨(p3 d hd).1,by rw[SB d hd];exact(p3 d hd).2⟩,.inl ⟨rfl,rfl⟩⟩
       ·by_cases ab9:Mc o'.op=true
        ·exact⟨o',true,Ol,p1,by rw[ry];exact p2,fun d hd=>⟨(p3 d hd).1,by rw[SB d hd];exact(p3 d hd).2⟩,.inr (.inl ⟨rfl,q,ρ,e,by rw[avP ab9 H1 H];exact r⟩)⟩
        have Sk:j∈J4 ops ms Da c:=by refine List.mem_filter.2 ⟨LQ,?_⟩;rw[p1];simp only[Option.any_some,q,iG,Bool.not_eq_true',cW,Bool.eq_false_iff.2 ab9,true_and];exact Bool.eq_false_iff.2 fun hh=>abS (qy j (Fb.1 hh))
        obtain⟨o2,b2,t1,t2,t3⟩:=agH gC j Sk;rw[p1]at t1;cases t1;rw[ry,p2]at t2;cases t2;obtain⟨v2,t4,t5⟩:=t3 rfl;exact⟨o',true,v2,p1,by rw[ry];exact p2,fun d hd=>⟨(p3 d hd).1,t5 d hd⟩,.inr (.inl ⟨rfl,q,_,fun _ _=>rfl,t4⟩)⟩
       ·obtain⟨u1,u2⟩:=g2.2.2 id (h.zp j id q3) q5;have u2:H1.bu id=H.bu id:=by
         rcases u2 with u2|⟨vs,el,u2⟩
         ·exact u2
         ·rw[q6]at u2;cases u2;exact absurd rfl (anz q1 vs el)
        exact⟨o',true,Ol,p1,by rw[ry];exact p2,fun d hd=>⟨(p3 d hd).1,by rw[SB d hd];exact(p3 d hd).2⟩,.inr (.inr ⟨rfl,ρ,ob,g,id,e,q1,q2,q3,q4,u1,by rw[u2];exact q6⟩)⟩
theorem Y3(ig:uh ops ms):∀(ba:LN) {post:LN} {c:Nat} {Da:LN} {gZ:Nat->Option Nat} {cur:Tr AV} {H:AH},o7 P ops ms bt nt bs m gZ Dc Da cur H φ w a.tmps->o5 ms Da->(∀j∈Dc,j∈Da)->
 qT ms Da (ba++c::post)->(∀i∈ba,(ops[i]?).any (oJ ·.op)=true)->
 (∃s,rJ P call ops ms bt nt (ba++c::post) Da cur H=.dY s)∨
 ∃tA CJ jg H',o7 P ops ms bt nt bs m tA Dc CJ jg H' φ w a.tmps∧rJ P call ops ms bt nt (ba++c::post) Da cur H=rJ P call ops ms bt nt (c::post) CJ jg H'∧cQ m φ H φ H'∧
  o5 ms CJ∧(∀j∈Dc,j∈CJ)∧qT ms CJ (c::post)∧(∀j,j∈CJ↔j∈Da∨j∈ba)
 |[],post,c,Da,gZ,cur,H,h,lZ,qB,ht,hl=>.inr ⟨gZ,Da,cur,H,h,rfl,cQ.jK _ _ _,lZ,qB,ht,by simp⟩
 |i::ba,post,c,Da,gZ,cur,H,h,lZ,qB,ht,hl=>by
  obtain⟨t1,t2,t3⟩:=ht;have uP:=hl i (gi ..);cases ho:ops[i]? with
  |none=>rw[ho]at uP;cases uP
  |some o=>
   rw[ho]at uP;simp only[Option.any_some]at uP;simp only[sA,rJ,ho];cases hs:oM P call ops ms bt Da i nt cur H o with
   |dY s=>exact .inl ⟨s,rfl⟩
   |iw ch H1=>
    exfalso;unfold oM at hs;split at hs
    ·cases hs
    ·rename_i b hb;cases b with
     |false=>simp only[cond_false,qJ]at hs;split at hs<;>cases hs
     |true=>
      simp only[cond_true]at hs;cases hr:nA o.op with
      |true=>
       rw[hr]at hs;simp only[cond_true,It]at hs;split at hs
       ·simp only[qJ]at hs;split at hs<;>cases hs
       ·cases hs
      |false=>
       rw[hr]at hs;simp only[cond_false]at hs;have:pW o.op=true:=by simpa[oJ,hr]using uP
       rw[this]at hs;simp only[cond_true]at hs;cases tn:nD P (ia cur) o.op with
       |none=>rw[tn]at hs;simp[zK]at hs
       |some r=>obtain⟨ob,g⟩:=r;obtain⟨hh,n⟩:=H;rw[tn]at hs;simp only[zK,qJ]at hs;split at hs<;>cases hs
   |go jg H'=>
    obtain⟨tA,g1,g2⟩:=h.Y0 ig ho t2 t1 lZ qB (.inl uP) hs;rcases Y3 ig ba (post:=post) (c:=c) g1 (lZ.Cy t1) (fun j hj=>fF _ (qB j hj)) t3 (fun j hj=>hl j (fF _ hj))with⟨s,hs⟩|⟨aco,Au,yS,H2,q1,q2,q3,q4,q5,q6,q7⟩
    ·exact .inl ⟨s,hs⟩
    ·refine .inr ⟨aco,Au,yS,H2,q1,q2,g2.yy q3,q4,q5,q6,fun j=>?_⟩;rw[q7];simp only[sy];constructor
     ·rintro((h|h)|h)
      ·exact .inr (.inl h)
      ·exact .inl h
      ·exact .inr (.inr h)
     ·rintro(h|h|h)
      ·exact .inl (.inr h)
      ·exact .inl (.inl h)
      ·exact .inr h
theorem U8(ig:uh ops ms)(jY:JQ P call b ops k cs bs):∀(cl:LN) {rest Da Dc:LN} {last:Option Nat} {gZ:Nat->Option Nat} {cur:Tr AV} {H:AH} {φ:bf} {w:World} {a:Act},
 qT ms Dc cl->o5 ms Dc->qT ms Da rest->o5 ms Da->(∀j∈Dc,j∈Da)->(∀j∈cl,j∈Da∨j∈rest)->(∀j∈rest,j∈cl)->(∀j∈Da,j∈Dc∨j∈cl)->tG ops ms last rest=true->
 o7 P ops ms bt nt bs m gZ Dc Da cur H φ w a.tmps->uj P ops bt nt bs m φ H w b k cs cl a (rJ P call ops ms bt nt rest Da cur H)
 |[],rest,Da,Dc,last,gZ,cur,H,φ,w,a,ht,hc,Br,uJ,qB,h1,h2,h3,bn,h=>by
  have:rest=[]:=List.eq_nil_iff_forall_not_mem.2 fun j hj=>by cases h2 j hj
  subst this;refine⟨φ,w,a,Steps.refl P _,rfl,⟨h.Aq,fun i x hx=>h.tr i x (.inr ⟨fun j hj=>?_,hx⟩)⟩,h.wr,cQ.jK _ _ _,c8.kv _ _⟩;rcases h3 j hj.1 with hd|hd
  ·exact(hj.2 hd).elim
  ·cases hd
 |c::cl,rest,Da,Dc,last,gZ,cur,H,φ,w,a,ht,hc,Br,uJ,qB,h1,h2,h3,bn,h=>by
  obtain⟨t1,t2,t3⟩:=ht;have ZF:∀{rest Da:LN} {last:Option Nat} {gZ:Nat->Option Nat} {cur:Tr AV} {H:AH},c∈Da->qT ms Da rest->o5 ms Da->(∀j∈Dc,j∈Da)->(∀j∈c::cl,j∈Da∨j∈rest)->(∀j∈rest,j∈c::cl)->(∀j∈Da,j∈Dc∨j∈c::cl)->tG ops ms last rest=true->
   o7 P ops ms bt nt bs m gZ Dc Da cur H φ w a.tmps->uj P ops bt nt bs m φ H w b k cs (c::cl) a (rJ P call ops ms bt nt rest Da cur H):=by
   intro rest Da last gZ cur H Ef Br uJ qB h1 h2 h3 bn h;obtain⟨aW,w',a',s1,s2,s3,s4,s5⟩:=h.exec ig ⟨Ef,t2⟩ t1 hc;refine uj.step (.one (s1 b k cs cl)) s2 s4 s5 ?_;refine U8 ig jY cl t3 (hc.Cy t1) Br uJ (fun j hj=>?_) (fun j hj=>h1 j (fF _ hj)) (fun j hj=>?_) (fun j hj=>?_) bn s3
   ·rcases List.mem_cons.1 hj with rfl|hj
    ·exact Ef
    ·exact qB j hj
   ·rcases List.mem_cons.1 (h2 j hj)with rfl|rl
    ·exact(Br.MV hj Ef).elim
    ·exact rl
   ·rcases h3 j hj with hd|hd
    ·exact .inl (fF _ hd)
    ·rcases List.mem_cons.1 hd with rfl|hd
     ·exact .inl (gi ..)
     ·exact .inr hd
  by_cases Ef:c∈Da
  ·exact ZF Ef Br uJ qB h1 h2 h3 bn h
  ·have vW:c∈rest:=(h1 c (gi ..)).resolve_left Ef;obtain⟨ba,post,rfl⟩:=List.append_of_mem vW;have amj:∀i∈ba,(ops[i]?).any (oJ ·.op)=true:=by
    rcases UP ba post c last bn with⟨e,he,hn⟩|⟨_,hh⟩
    ·have:=qB e (t1 e hn);exact(Br.MV (List.mem_append_left _ he) this).elim
    ·exact hh
   rcases Y3 (call:=call) ig ba (post:=post) (c:=c) h uJ qB Br amj with⟨s,hs⟩|⟨aco,Au,yS,H2,q1,q2,q3,q4,q5,q6,q7⟩
   ·rw[hs];trivial
   ·rw[q2];refine uj.step (Steps.refl P _) rfl q3 (c8.kv _ _) ?_;obtain⟨u1,u2,u3⟩:=q6;obtain⟨am3,ame⟩:=UQ ba (c::post) last bn;have LZ:∃acS,tG ops ms acS post=true:=UQ [c] post am3 ame;have m1:∀j∈c::cl,j∈c::Au∨j∈post:=by
     intro j hj;rcases h1 j hj with hh|hh
     ·exact .inl (fF _ ((q7 j).2 (.inl hh)))
     ·rcases List.mem_append.1 hh with hh|hh
      ·exact .inl (fF _ ((q7 j).2 (.inr hh)))
      ·rcases List.mem_cons.1 hh with rfl|hh
       ·exact .inl (gi ..)
       ·exact .inr hh
    have m2:∀j∈post,j∈c::cl:=fun j hj=>h2 j (List.mem_append_right _ (fF _ hj))
    have m3:∀j∈c::Au,j∈Dc∨j∈c::cl:=by
     intro j hj;rcases List.mem_cons.1 hj with rfl|hj
     ·exact .inr (gi ..)
     ·rcases(q7 j).1 hj with hh|hh
      ·exact h3 j hh
      ·exact .inr (h2 j (List.mem_append_left _ hh))
    simp only[rJ];cases ho:ops[c]? with
    |none=>trivial
    |some o=>
     simp only;obtain⟨acS,LZ⟩:=LZ;by_cases xz:oJ o.op=true∨kr ops o yS.bV=some false
     ·cases hs:oM P call ops ms bt Au c nt yS H2 o with
      |dY s=>trivial
      |iw ch H3=>
       exfalso;unfold oM at hs;split at hs
       ·cases hs
       ·rename_i bb hb;cases bb with
        |false=>simp only[cond_false,qJ]at hs;split at hs<;>cases hs
        |true=>
         have xz:oJ o.op=true:=xz.resolve_right (by rw[hb];simp);simp only[cond_true]at hs;cases hr:nA o.op with
         |true=>
          rw[hr]at hs;simp only[cond_true,It]at hs;split at hs
          ·simp only[qJ]at hs;split at hs<;>cases hs
          ·cases hs
         |false=>
          rw[hr]at hs;simp only[cond_false]at hs;have:pW o.op=true:=by simpa[oJ,hr]using xz
          rw[this]at hs;simp only[cond_true]at hs;cases tn:nD P (ia yS) o.op with
          |none=>rw[tn]at hs;simp[zK]at hs
          |some r=>obtain⟨ob,g⟩:=r;obtain⟨hh,n⟩:=H2;rw[tn]at hs;simp only[zK,qJ]at hs;split at hs<;>cases hs
      |go ajo H3=>simp only;obtain⟨ax1,g1,g2⟩:=q1.Y0 ig ho u2 u1 q4 q5 xz hs;refine uj.step (Steps.refl P _) rfl g2 (c8.kv _ _) ?_;exact ZF (gi ..) u3 (q4.Cy u1) (fun j hj=>fF _ (q5 j hj)) m1 m2 m3 LZ g1
     ·cases hw:kr ops o yS.bV with
      |none=>
       have:oM P call ops ms bt Au c nt yS H2 o=.dY "guard" :=by unfold oM;rw[hw]
       rw[this];trivial
      |some bb=>
       have hbt:bb=true:=by
        cases bb with
        |true=>rfl
        |false=>exact(xz (.inr hw)).elim
       subst hbt;have xC:oJ o.op=false:=Bool.eq_false_iff.2 fun hh=>xz (.inl hh)
       have El:=q1.av8 (call:=call) ig jY ho u2 t1 q4 q5 xC hw cl;cases hs:oM P call ops ms bt Au c nt yS H2 o with
       |dY s=>trivial
       |iw ch H3=>rw[hs]at El;exact El
       |go ajo H3=>
        rw[hs]at El;obtain⟨aW,w',a',s1,s2,s3,s4,s5⟩:=El;refine uj.step s1 s2 s4 s5 ?_;refine U8 ig jY cl t3 (hc.Cy t1) u3 (q4.Cy u1) (fun j hj=>?_) (fun j hj=>m1 j (fF _ hj)) (fun j hj=>?_) (fun j hj=>?_) LZ s3
        ·rcases List.mem_cons.1 hj with rfl|hj
         ·exact gi ..
         ·exact fF _ (q5 j hj)
        ·rcases List.mem_cons.1 (m2 j hj)with rfl|rl
         ·exact(u3.MV hj (gi ..)).elim
         ·exact rl
        ·rcases m3 j hj with hd|hd
         ·exact .inl (fF _ hd)
         ·rcases List.mem_cons.1 hd with rfl|hd
          ·exact .inl (gi ..)
          ·exact .inr hd
theorem aoA{pl:PF}(kH:Fm ops=some pl)(dI:P.follows .mixedOrders=true)(jY:JQ P call b ops k cs bs)(t:Nat)(hw:WR φ bs H w)(hb:gA bs w)(hm:m<=H.bL)(ht:TR φ bt nt a.tmps):
 uj P ops bt nt bs m φ H w b k cs (Region.schedule (P.follows .mixedOrders) ops t) a (rJ P call ops pl.ms bt nt pl.Ar [] bt H):=by
 obtain⟨h1,h2,h3,h4,ig⟩:=aoO kH;obtain⟨g1,g2,g3⟩:=au0 dI h1 t;refine U8 ig jY _ (gZ:=fun _=>none) g1 (o5.nil _) h2 (o5.nil _) (fun _ h=>h) (fun j hj=>.inr ((h3 j).1 (g3 j hj))) (fun j hj=>g2 j ((h3 j).2 hj)) (fun j hj=>by cases hj) h4 ?_;refine⟨hw,hb,hm,ht.1,fun t x hx=>?_,fun _ _=>rfl,(fun _ _ h=>by cases h),(fun _ _ _ h=>by cases h),(fun j hj=>by cases hj.1)⟩;rcases hx with⟨j,hj,_⟩|⟨_,hx⟩
 ·cases hj.1
 ·exact ht.2 t x hx
end
def MR(φ:bf):gX->FrameMode->Prop
 |.fy,m=>m=.run
 |.o4,m=>m=.returning
 |.nQ c,m=>∃c',m=.panicking c'∧CR φ c c'
def IR(φ:bf):b_->Item->Prop
 |.fG c,x=>x=.code c
 |.sT id,x=>x=.inBlock id
 |.o3 b,x=>x=.inLoop b
 |.rX b,x=>x=.inScope b
 |.An l,x=>∃e,φ l=some e∧x=.inRangeFunc e.b
 |.yx l,x=>∃e,φ l=some e∧x=.endRangeFunc e.b
 |.wL,x=>x=.beginRound
 |.jr ops i rest,x=>x=.inRegion ops (List.range' i rest.length)∧rest=ops.toList.drop i
def jC(φ:bf):List b_->List Item->Prop
 |[],l=>l=[]
 |x::xs,l=>∃y ys,l=y::ys∧IR φ x y∧jC φ xs ys
def RR(φ:bf):Option Nat->Option Nat->Prop
 |none,r=>r=none
 |some l,r=>∃e,φ l=some e∧r=some e.b
def KR:Option gX->CallKind->Prop
 |none,k=>k=.normal
 |some _,k=>k=.deferred
structure FR(φ:bf)(fr:cN)(b:Frame)(a:Act):Prop where
 fn:b.fn=fr.fn
 tr:TR φ fr.o0 fr.nt a.tmps
 dr:mK φ fr.Jn a.defers
 jL:RR φ fr.oZ b.roundOf
 lA:KR fr.up b.kind
 o9:fr.up.isSome=true->fr.oZ=none
def sV(φ:bf)(fr:cN)(cy:Frame):Prop:=
 match fr.lx with
 |.fy=>∃(b:Frame) (a:Act) (todo:List Item),cy=b.atR a todo∧FR φ fr b a∧jC φ fr.Am todo
 |m=>FR φ fr cy ⟨cy.tmps,cy.defers⟩∧MR φ m cy.mode
def j7(φ:bf)(up:Option gX)(cs:List Frame):Prop:=
 match up with
 |none=>True
 |some u=>∃c cs',cs=c::cs'∧MR φ u c.mode
def ER(φ:bf):Pn->Ending->Prop
 |.fQ v,e=>∃v',e=.returned v'∧VR φ v v'
 |.iw c,e=>∃c',e=.panicked c'∧CR φ c c'
def vq(P:Program)(aW:bf)(w:World)(w':World)(cy:Frame)(cs:List Frame)(r:fM):Option gX->Option Nat->Prop
 |none,none=>∃iJ e',ER aW r.e e'∧Steps P (lone cy cs w) (lone iJ cs w')∧iJ.leaving P w' e'∧iJ.fn=cy.fn
 |some _,_=>∃c cs' uA u' iJ e',cs=c::cs'∧r.up=some uA∧MR aW uA u'∧ER aW r.e e'∧Steps P (lone cy cs w) (lone iJ ({c with mode:=u'}::cs') w')∧iJ.kind=.deferred∧iJ.going P w' e'
 |none,some _=>∀c cs',cs=c::cs'->match r.e with
  |.fQ v=>∃v',VR aW v v'∧Steps P (lone cy cs w) (lone (c.finish v') cs' w')
  |.iw ch=>∃r9,CR aW ch r9∧Steps P (lone cy cs w) (lone (c.raise r9) cs' w')
def sX(P:Program)(m:Nat)(bs:dX)(φ:bf)(H:AH)(w:World)(cy:Frame)(cs:List Frame)(r:fM)(up:Option gX)(round:Option Nat):Prop:=
 ∃aW w',WR aW bs r.H w'∧cQ m φ H aW r.H∧c8 bs w w'∧vq P aW w w' cy cs r up round
def JE(P:Program)(call:cN->AH->Option fM):Prop:=
 ∀(fr:cN) (H:AH) (r:fM),call fr H=some r->∀(φ:bf) (w:World) (m:Nat) (bs:dX) (cy:Frame) (cs:List Frame),WR φ bs H w->gA bs w->m<=H.bL->sV φ fr cy->j7 φ fr.up cs->sX P m bs φ H w cy cs r fr.up fr.oZ
def CS(P:Program)(K:qk):Prop:=
 ∀(f:FuncId) (args:LV) (H:AH) (v:AV) (H':AH),K f args H=some (v,H')->∀(φ:bf) (w:World) (m:Nat) (bs:dX) (args':Array Value) (cs:List Frame),bc φ args args'.toList->WR φ bs H w->gA bs w->m<=H.bL->
  sX P m bs φ H w (Frame.enter P f args' .normal) cs ⟨.fQ v,none,H'⟩ none none
structure ou(P:Program)(call:iu):Prop where
 go:JE P call.go
 du:CS P call.du
section
variable{P:Program}{call:iu}{bs:dX}{m:Nat}{H:AH}{φ:bf}{w:World}
theorem Ru{go:cN->AH->Option fM}(hc:JE P go){f:FuncId}{args:LV}{args':Array Value}{up:Option gX}{r:fM}(h:(DE P f args up).bind (go · H)=some r)(ha:bc φ args args'.toList)(hw:WR φ bs H w)(hb:gA bs w)(hm:m<=H.bL)
 {cs:List Frame} (hu:j7 φ up cs) {kind:CallKind} (hk:KR up kind):sX P m bs φ H w (Frame.enter P f args' kind) cs r up none:=by
 cases he:DE P f args up with
 |none=>rw[he]at h;cases h
 |some fr=>
  rw[he]at h;simp only[Option.bind_some]at h;unfold DE at he;split at he
  ·rename_i fn jW;split at he
   ·rename_i c aly;obtain⟨cI,he⟩:=c6 he;have cI:=Nat.le_of_ble_eq_true cI;cases he;have bF:args'.size<=fn.ntmps:=by have:=ha.jM;simp at this;omega
    refine hc _ H r h φ w m bs _ cs hw hb hm ?_ hu;let b:Frame:={(default:Frame)with fn:=f,kind:=kind,roundOf:=none}
    refine⟨b,{tmps:=args'++Array.replicate (fn.ntmps-args'.size) undef,defers:=[]},[.code c],?_,⟨rfl,⟨?_,?_⟩,rfl,rfl,hk,fun _=>rfl⟩,⟨_,_,rfl,rfl,rfl⟩⟩
    ·simp[Frame.enter,Frame.atR,jW,aly,b]
    ·simp;omega
    ·intro i x hx;rw[Tr.abd]at hx;split at hx
     ·rename_i hi;simp only[Nat.sub_zero]at hx;obtain⟨v,h1,h2⟩:=ha.get hx;refine⟨v,?_,h2⟩;rw[Array.getElem?_append_left]
      ·simpa using h1
      ·have:=(List.getElem?_eq_some_iff.1 h1).1;simpa using this
     ·cases hx
   ·cases he
  ·cases he
theorem Rv(hc:ou P call){f:FuncId}{args:LV}{args':Array Value}{up:Option gX}{r:fM}(h:KL P call f args up H=some r)(ha:bc φ args args'.toList)(hw:WR φ bs H w)(hb:gA bs w)(hm:m<=H.bL)
 {cs:List Frame} (hu:j7 φ up cs) {kind:CallKind} (hk:KR up kind):sX P m bs φ H w (Frame.enter P f args' kind) cs r up none:=by
 unfold KL at h;split at h
 ·rename_i v H' rm;cases h;have HJ:kind=.normal:=hk;subst HJ;exact hc.du f args H v H' rm φ w m bs args' cs ha hw hb hm
 ·exact Ru hc.go h ha hw hb hm hu hk
theorem aa2(nt:Nat):∀l:List (Tmp×AV),l.foldl (fun t (p,a)=>t.bind fun t=>mh nt t (some p) a) none=none
 |[]=>rfl
 |_::l=>by simp only[iy];exact aa2 nt l
theorem aa1{nt:Nat}:∀(ps:List Tmp) (as:LV) (vs:List Value) {t t':Tr AV} {tmps:Array Value},bc φ as vs->TR φ t nt tmps->
 (ps.zip as).foldl (fun t (p,a)=>t.bind fun t=>mh nt t (some p) a) (some t)=some t'->TR φ t' nt ((ps.zip vs).foldl (fun tmps (t,a)=>tmps.setIfInBounds t a) tmps)
 |[],as,vs,t,t',tmps,_,ht,h=>by simp at h;subst h;simpa using ht
 |p::ps,[],vs,t,t',tmps,ha,ht,h=>by simp only[bc]at ha;subst ha;simp at h;subst h;simpa using ht
 |p::ps,a::as,vs,t,t',tmps,ha,ht,h=>by
  obtain⟨v,eV,rfl,hv,iB⟩:=ha;simp only[List.zip_cons_cons,iy,Option.bind_some]at h⊢;cases hs:mh nt t (some p) a with
  |none=>rw[hs,aa2]at h;cases h
  |some t1=>rw[hs]at h;have:=TR.put (a:=⟨tmps,[]⟩) ht hs hv;exact aa1 ps as eV iB this h
theorem apG(hc:ou P call){l:Nat}{ob:aZ}{e:PE}{args:LV}{args':Array Value}{r:fM}(fv:H.bu l=some ob)(h:(yd ob l args).bind (call.go · H)=some r)(he:φ l=some e)(ha:bc φ args args'.toList)
 (hw:WR φ bs H w) (hb:gA bs w) (hm:m<=H.bL) (cs:List Frame):
 ∃f tmps assign body,(Instr.yield e.b args').run P w=.ok (.round e.b f tmps assign body) w∧sX P m bs φ H w (Frame.round e.b f tmps assign body .normal) cs r none (some l):=by
 unfold yd at h;split at h
 ·rename_i st p fn tmps nt params assign body d;cases bF:Nat.beq args.length params.length with
  |false=>rw[bF]at h;cases h
  |true=>
   rw[bF]at h;simp only[cond_true]at h;have bF:=eu bF;obtain⟨o,hg,nc,ed,rfl,hd,ht⟩:=hw.ey l _ e fv he;split at h
   ·rename_i t' LL;simp only[Option.bind_some]at h;have cJ:args'.size=params.length:=by have:=ha.jM;simp at this;omega
    refine⟨fn,(params.toArray.zip args').foldl (fun tmps (t,a)=>tmps.setIfInBounds t a) nc,assign,body,?_,?_⟩
    ·exact run_yield hg (by simpa using cJ)
    ·refine hc.go _ H r h φ w m bs _ cs hw hb hm ?_ trivial;let b:Frame:={(default:Frame)with fn:=fn,kind:=.normal,roundOf:=some e.b}
     refine⟨b,{tmps:=(params.toArray.zip args').foldl (fun tmps (t,a)=>tmps.setIfInBounds t a) nc,defers:=[]},[.code assign,.beginRound,.code body],?_,⟨rfl,?_,rfl,⟨e,he,rfl⟩,rfl,fun h=>by cases h⟩,⟨_,_,rfl,rfl,_,_,rfl,rfl,_,_,rfl,rfl,rfl⟩⟩
     ·simp[Frame.round,Frame.atR,b]
     ·have:=aa1 params args args'.toList ha ht LL;have e1:(params.toArray.zip args').foldl (fun tmps (t,a)=>tmps.setIfInBounds t a) nc=(params.zip args'.toList).foldl (fun tmps (t,a)=>tmps.setIfInBounds t a) nc:=by rw[←Array.foldl_toList,Array.toList_zip]
      rw[show(({tmps:=(params.toArray.zip args').foldl (fun tmps (t,a)=>tmps.setIfInBounds t a) nc,defers:=[]}:Act)).tmps=_ from e1];exact this
   ·cases h
 ·cases h
theorem VP{fr:Frame}{Q5 c:Frame}{cs:List Frame}{Jl:World}{r:fM}{round:Option Nat}(h:sX P m bs φ H w fr (c::cs) r none round)(hs:Steps P (lone Q5 cs Jl) (lone fr (c::cs) w))(hk:c8 bs Jl w):
 ∃aW w',WR aW bs r.H w'∧cQ m φ H aW r.H∧c8 bs Jl w'∧match r.e with
 |.fQ v=>∃v',VR aW v v'∧Steps P (lone Q5 cs Jl) (lone (c.finish v') cs w')
 |.iw ch=>∃c',CR aW ch c'∧Steps P (lone Q5 cs Jl) (lone (c.raise c') cs w'):=by
 obtain⟨aW,w',h1,h2,h3,h4⟩:=h;refine⟨aW,w',h1,h2,hk.ud h3,?_⟩;cases round with
 |none=>
  obtain⟨iJ,e',he,gC,hl,_⟩:=h4;obtain⟨e,up,H1⟩:=r;cases e with
  |fQ v=>obtain⟨v',rfl,hv⟩:=he;exact⟨v',hv,hs.trans (gC.trans (.one (step_leave_returned hl)))⟩
  |iw ch=>obtain⟨c',rfl,hv⟩:=he;exact⟨c',hv,hs.trans (gC.trans (.one (step_leave_panicked hl)))⟩
 |some l=>
  have:=h4 c cs rfl;obtain⟨e,up,H1⟩:=r;cases e with
  |fQ v=>obtain⟨v',hv,gC⟩:=this;exact⟨v',hv,hs.trans gC⟩
  |iw ch=>obtain⟨v',hv,gC⟩:=this;exact⟨v',hv,hs.trans gC⟩
theorem aei(hc:ou P call)(b:Frame)(ops:Array Oper)(k:List Item)(cs:List Frame):JQ P call b ops k cs bs:=by
 intro a i rest o φ H w m aN r hm hb ho ph hw Tu dM kf;cases aN with
 |hZ v H'=>cases kf;obtain⟨aW,w',v',h1,h2,h3,h4,h5⟩:=dM;refine⟨aW,w',h3,h4,h5,v',h2,?_⟩;rw[DL ho];exact .one (IZ ho ph (by rw[Tu];exact h1))
 |qi f args=>obtain⟨args',h1,h2⟩:=dM;have:=Rv (cs:=b.atR a (.inRegion ops (i::rest)::k)::cs) hc kf h2 hw hb hm trivial (kind:=.normal) rfl;exact VP this (.one (avJ ho ph (by rw[Tu];exact h1))) (c8.kv _ _)
 |ue l args=>
  obtain⟨e,args',h0,h1,h2⟩:=dM;simp only[mO]at kf;split at kf
  ·rename_i ob fv;obtain⟨f,tmps,assign,body,g1,g2⟩:=apG (m:=m) hc fv kf h0 h2 hw hb hm (b.atR a (.inRegion ops (i::rest)::k)::cs);exact VP g2 (.one (avL ho ph (by rw[Tu,h1];exact g1))) (c8.kv _ _)
  ·cases kf
 |wM d=>cases kf
 |wN v=>cases kf
 |wP=>cases kf
end
theorem CR.mono{φ ψ:bf}(h:eg φ ψ):∀{c:qS} {l:List PanicEntry},CR φ c l->CR ψ c l
 |[],_,hc=>hc
 |(v,r)::c,l,hc=>by obtain⟨v',l',rfl,h1,h2⟩:=hc;exact⟨v',l',rfl,VR.gW h _ _ h1,CR.mono h h2⟩
theorem MR.mono{φ ψ:bf}(h:eg φ ψ){m:gX}{fm:FrameMode}(hm:MR φ m fm):MR ψ m fm:=by
 cases m with
 |fy=>exact hm
 |o4=>exact hm
 |nQ c=>obtain⟨c',h1,h2⟩:=hm;exact⟨c',h1,h2.mono h⟩
theorem IR.mono{φ ψ:bf}(h:eg φ ψ){x:b_}{y:Item}(hx:IR φ x y):IR ψ x y:=by
 cases x<;>first
  |exact hx
  |(obtain⟨e,h1,h2⟩:=hx;exact⟨e,h _ _ h1,h2⟩)
theorem jC.mono{φ ψ:bf}(h:eg φ ψ):∀{xs:List b_} {ys:List Item},jC φ xs ys->jC ψ xs ys
 |[],_,hx=>hx
 |x::xs,ys,hx=>by obtain⟨y,qg,rfl,h1,h2⟩:=hx;exact⟨y,qg,rfl,h1.mono h,jC.mono h h2⟩
theorem RR.mono{φ ψ:bf}(h:eg φ ψ){r r':Option Nat}(hr:RR φ r r'):RR ψ r r':=by
 cases r with
 |none=>exact hr
 |some l=>obtain⟨e,h1,h2⟩:=hr;exact⟨e,h _ _ h1,h2⟩
theorem FR.yz{φ ψ:bf}(h:eg φ ψ){fr:cN}{b:Frame}{a:Act}(hf:FR φ fr b a):FR ψ fr b a:=
 ⟨hf.fn,hf.tr.mono h,hf.dr.CA h,hf.jL.mono h,hf.lA,hf.o9⟩
theorem j7.mono{φ ψ:bf}(h:eg φ ψ){up:Option gX}{cs:List Frame}(hu:j7 φ up cs):j7 ψ up cs:=by
 cases up with
 |none=>trivial
 |some u=>obtain⟨c,cs',h1,h2⟩:=hu;exact⟨c,cs',h1,h2.mono h⟩
def vn(up:Option gX)(cs oA:List Frame):Prop:=
 match up with
 |none=>oA=cs
 |some _=>∃c cs' u,cs=c::cs'∧oA={c with mode:=u}::cs'
theorem vn.Cz{φ:bf}{up:Option gX}{cs:List Frame}(h:j7 φ up cs):vn up cs cs:=by
 cases up with
 |none=>rfl
 |some u=>obtain⟨c,cs',rfl,_⟩:=h;exact⟨c,cs',c.mode,rfl,rfl⟩
def kz(P:Program)(m:Nat)(bs:dX)(φ:bf)(H:AH)(w:World)(fr:cN)(cy:Frame)(cs:List Frame):eM->Prop
 |.go fr' H'=>∃aW w' iJ oA,Steps P (lone cy cs w) (lone iJ oA w')∧sV aW fr' iJ∧j7 aW fr'.up oA∧vn fr.up cs oA∧fr'.oZ=fr.oZ∧fr'.up.isSome=fr.up.isSome∧
   WR aW bs H' w'∧cQ m φ H aW H'∧c8 bs w w'∧iJ.fn=cy.fn
 |.wQ r=>sX P m bs φ H w cy cs r fr.up fr.oZ
 |.dY _=>True
section
variable{P:Program}{call:iu}{bs:dX}{m:Nat}{H H':AH}{φ aW:bf}{w w':World}{fr fr':cN}{b:Frame}{a a':Act}{todo qO:List Item}{cs:List Frame}
theorem za(hs:Steps P (lone (b.atR a todo) cs w) (lone (b.atR a' qO) cs w'))(hf:FR aW fr' b a')(hr:fr'.lx=.fy)(hi:jC aW fr'.Am qO)(hw:WR aW bs H' w')(he:cQ m φ H aW H')(hk:c8 bs w w')
 (tw:fr'.up=fr.up) (fE:fr'.oZ=fr.oZ) (hu:j7 φ fr.up cs):kz P m bs φ H w fr (b.atR a todo) cs (.go fr' H'):=by
 refine⟨aW,w',b.atR a' qO,cs,hs,?_,?_,vn.Cz hu,fE,by rw[tw],hw,he,hk,rfl⟩
 ·unfold sV;rw[hr];exact⟨b,a',qO,rfl,hf,hi⟩
 ·rw[tw];exact hu.mono he.1
theorem rT{k:List b_}(dK:fr.lx=.fy)(hs:Steps P (lone (b.atR a todo) cs w) (lone (b.atR a qO) cs w'))(ry:w'.heap=w.heap)(hf:FR φ fr b a)(hi:jC φ k qO)(hw:WR φ bs H w)(hu:j7 φ fr.up cs)(gC:uk w w':=by exact⟨rfl,rfl,rfl⟩):
 kz P m bs φ H w fr (b.atR a todo) cs (to fr H k):=by
 obtain⟨fn,tmps,nt,td,defers,mode,up,round⟩:=fr;exact za hs ⟨hf.fn,hf.tr,hf.dr,hf.jL,hf.lA,hf.o9⟩ dK hi (hw.tN ry) (cQ.jK _ _ _) (c8.tN ry gC) rfl rfl hu
theorem jC.Ad{x:b_}{xs:List b_}{ys:List Item}(h:jC φ (x::xs) ys):∃y qg,ys=y::qg∧IR φ x y∧jC φ xs qg:=h
theorem axQ:∀(c:Code) (l:Nat),findLabel c l=findLabel c l:=fun _ _=>rfl
theorem aaK:∀{k:List b_} {ys:List Item} {id:Nat},jC φ k ys->match y5 id k with|some k'=>∃qg,exitTo id ys=some qg∧jC φ k' qg|none=>exitTo id ys=none
 |[],ys,id,h=>by cases h;rfl
 |x::k,ys,id,h=>by
  obtain⟨y,qg,rfl,h1,h2⟩:=h;have ih:=aaK (id:=id) h2;cases x with
  |sT iC=>
   cases h1;simp only[y5,exitTo];by_cases he:(iC==id)=true
   ·rw[aY he,aY he];exact⟨_,rfl,h2⟩
   ·rw[aB he,aB he];exact ih
  |fG c=>cases h1;exact ih
  |o3 c=>cases h1;exact ih
  |rX c=>cases h1;exact ih
  |An l=>obtain⟨e,_,rfl⟩:=h1;exact ih
  |yx l=>obtain⟨e,_,rfl⟩:=h1;exact ih
  |wL=>cases h1;exact ih
  |jr ops i l=>obtain⟨rfl,_⟩:=h1;exact ih
theorem abm:∀{k:List b_} {ys:List Item} {l:Nat},jC φ k ys->match AR l k with|some k'=>∃qg,gotoIn l ys=some qg∧jC φ k' qg|none=>gotoIn l ys=none
 |[],ys,id,h=>by cases h;rfl
 |x::k,ys,id,h=>by
  obtain⟨y,qg,rfl,h1,h2⟩:=h;have ih:=abm (l:=id) h2;cases x with
  |rX c=>
   cases h1;simp only[AR,gotoIn];cases hl:findLabel c id with
   |some rest=>exact⟨_,rfl,_,_,rfl,rfl,_,_,rfl,rfl,h2⟩
   |none=>exact ih
  |fG c=>cases h1;exact ih
  |o3 c=>cases h1;exact ih
  |sT c=>cases h1;exact ih
  |An l=>obtain⟨e,_,rfl⟩:=h1;exact ih
  |yx l=>obtain⟨e,_,rfl⟩:=h1;exact ih
  |wL=>cases h1;exact ih
  |jr ops i l=>obtain⟨rfl,_⟩:=h1;exact ih
theorem WR.loop(hw:WR φ bs H w){l d:Nat}{st kN:LoopState}{p p':Option Code}{fn:Nat}{tmps:Tr AV}{nt:Nat}{ps:List Tmp}{x y:Code}{e:PE}(he:φ l=some e)(ho:H.bu l=some (.gb st p fn tmps nt ps x y d)):
 ∃r:Loop,w.heap[e.b]? =some (.loop r)∧r.state=st∧r.pending=p∧WR φ bs (H.dL l (.gb kN p' fn tmps nt ps x y d)) (w.putObj e.b (.loop {r with state:=kN,pending:=p'}))∧c8 bs w (w.putObj e.b (.loop {r with state:=kN,pending:=p'})):=by
 obtain⟨o,hg,nc,ed,rfl,hd,ht⟩:=hw.ey l _ e ho he;have aj:=(hw.lt l e he).1;refine⟨_,hg,rfl,rfl,?_,?_⟩
 ·exact hw.put ho rfl he World.putObj_size (fun b hb=>World.putObj_heap_other hb) ⟨_,World.putObj_heap_same aj,nc,ed,rfl,hd,ht⟩
 ·exact c8.Io hw he World.putObj_size (fun b hb=>World.putObj_heap_other hb)
theorem Mo(dK:fr.lx=.fy)(hf:FR φ fr b a)(hw:WR φ bs H w)(hu:j7 φ fr.up cs){oe:Option Code}
 (h1:b.roundOf=none->(oe=none∨oe=some .ret)->step P (lone (b.atR a todo) cs w)=.next (lone {b.atR a todo with mode:=.returning} cs w))
 (h2:∀l c cs' v w',cs=c::cs'->b.roundOf=some l->b.kind=.normal->(Instr.endRound l oe).run P w=.ok v w'->step P (lone (b.atR a todo) (c::cs') w)=.next (lone (c.finish v) cs' w')):
 kz P m bs φ H w fr (b.atR a todo) cs (qF fr H oe):=by
 obtain⟨fn,tmps,nt,td,defers,mode,up,round⟩:=fr;cases dK;cases round with
 |none=>
  have fE:b.roundOf=none:=hf.jL;have key:(oe=none∨oe=some .ret)->kz P m bs φ H w ⟨fn,tmps,nt,td,defers,.fy,up,none⟩ (b.atR a todo) cs (.go ⟨fn,tmps,nt,td,defers,.o4,up,none⟩ H):=by intro hj;refine⟨φ,w,{b.atR a todo with mode:=.returning},cs,.one (h1 fE hj),⟨⟨hf.fn,hf.tr,hf.dr,hf.jL,hf.lA,hf.o9⟩,rfl⟩,hu,vn.Cz hu,rfl,rfl,hw,cQ.jK _ _ _,c8.kv _ _,rfl⟩
  simp only[qF];split
  ·exact key (.inl rfl)
  ·exact key (.inr rfl)
  ·trivial
 |some l=>
  obtain⟨e,he,fE⟩:=hf.jL;simp only[qF,Uo];split
  ·rename_i st p lf lt ln ps x y d fv;have tw:up=none:=by
    cases up with
    |none=>rfl
    |some u=>have:=hf.o9 rfl;cases this
   subst tw;have gC:(if oe.isNone then LoopState.ready else .done)=(bif oe.isNone then .ready else .done):=by cases oe<;>rfl
   obtain⟨r,hg,_,_,rz,iA⟩:=hw.loop (kN:=bif oe.isNone then .ready else .done) (p':=oe) he fv;refine⟨φ,_,rz,cQ.nh he _,iA,?_⟩;intro c cs' gY;have hr:=run_endRound (P:=P) oe hg;rw[gC]at hr;subst gY;exact⟨_,rfl,.one (h2 e.b c cs' _ _ rfl fE hf.lA hr)⟩
  ·trivial
theorem ana(dK:fr.lx=.fy)(hf:FR φ fr b a)(hw:WR φ bs H w)(hu:j7 φ fr.up cs):kz P m bs φ H w fr (b.atR a []) cs (qF fr H none):=
 Mo dK hf hw hu (fun hb _=>stepR_end hb) (fun l c cs' v w' _ fE hk hr=>stepR_round_end fE hk hr)
theorem ane(dK:fr.lx=.fy)(hf:FR φ fr b a)(hw:WR φ bs H w)(hu:j7 φ fr.up cs){k:List Item}:kz P m bs φ H w fr (b.atR a (.code .ret::k)) cs (qF fr H (some .ret)):=
 Mo dK hf hw hu (fun hb _=>stepR_ret hb) (fun l c cs' v w' _ fE hk hr=>stepR_round_ret fE hk hr)
theorem anb(dK:fr.lx=.fy)(hf:FR φ fr b a)(hw:WR φ bs H w)(hu:j7 φ fr.up cs){k:List Item}{id:Nat}(hx:exitTo id k=none):kz P m bs φ H w fr (b.atR a (.code (.exit id)::k)) cs (qF fr H (some (.exit id))):=
 Mo dK hf hw hu (fun _ h=>by rcases h with h|h<;>cases h) (fun l c cs' v w' _ fE hk hr=>stepR_round_exit fE hk hx hr)
theorem anc(dK:fr.lx=.fy)(hf:FR φ fr b a)(hw:WR φ bs H w)(hu:j7 φ fr.up cs){k:List Item}{id:Nat}(hx:gotoIn id k=none):kz P m bs φ H w fr (b.atR a (.code (.goto id)::k)) cs (qF fr H (some (.goto id))):=
 Mo dK hf hw hu (fun _ h=>by rcases h with h|h<;>cases h) (fun l c cs' v w' _ fE hk hr=>stepR_round_goto fE hk hx hr)
theorem aiG(dK:fr.lx=.fy)(hf:FR φ fr b a)(hw:WR φ bs H w)(hu:j7 φ fr.up cs){k:List b_}{ks:List Item}(hi:jC φ k ks):kz P m bs φ H w fr (b.atR a (.beginRound::ks)) cs (IS fr H k):=by
 obtain⟨fn,tmps,nt,td,defers,mode,up,round⟩:=fr;cases dK;cases round with
 |none=>trivial
 |some l=>
  obtain⟨e,he,fE⟩:=hf.jL;simp only[IS];split
  ·rename_i p lf lt ln ps x y d fv;obtain⟨r,hg,gC,hp,rz,iA⟩:=hw.loop (kN:=.busy) (p':=p) he fv;have hr:=run_beginRound (P:=P) hg gC;have e2:({r with state:=.busy,pending:=p}:Loop)={r with state:=.busy}:=by rw[←hp]
   rw[e2]at rz iA;exact za (.one (stepR_beginRound fE hr)) ⟨hf.fn,hf.tr,hf.dr,hf.jL,hf.lA,hf.o9⟩ rfl hi rz (cQ.nh he _) iA rfl rfl hu
  ·trivial
theorem ajZ(dK:fr.lx=.fy)(hf:FR φ fr b a)(hw:WR φ bs H w)(hu:j7 φ fr.up cs){l:Nat}{e:PE}(he:φ l=some e){k:List b_}{ks:List Item}(hi:jC φ k ks):kz P m bs φ H w fr (b.atR a (.endRangeFunc e.b::ks)) cs (IU fr H l k):=by
 have key:∀(st:LoopState) p lf lt ln ps x y d,H.bu l=some (.gb st p lf lt ln ps x y d)->st≠.busy->kz P m bs φ H w fr (b.atR a (.endRangeFunc e.b::ks)) cs (to fr (H.dL l (.gb .exhausted p lf lt ln ps x y d)) (Ni p k)):=by
  intro st p lf lt ln ps x y d fv gC;obtain⟨r,hg,amq,hp,rz,iA⟩:=hw.loop (kN:=.exhausted) (p':=p) he fv;have hr:=run_endLoop (P:=P) hg (by rw[amq];exact gC);rw[hp]at hr;obtain⟨fn,tmps,nt,td,defers,mode,up,round⟩:=fr;cases dK;refine za (.one (stepR_endRangeFunc hr)) ⟨hf.fn,hf.tr,hf.dr,hf.jL,hf.lA,hf.o9⟩ rfl ?_ rz (cQ.nh he _) iA rfl rfl hu;cases p with
  |none=>exact hi
  |some c=>exact⟨_,_,rfl,rfl,hi⟩
 unfold IU;split
 ·rename_i fv;exact key _ _ _ _ _ _ _ _ _ fv (by simp)
 ·rename_i fv;exact key _ _ _ _ _ _ _ _ _ fv (by simp)
 ·trivial
end
section
variable{P:Program}{call:iu}{bs:dX}{m:Nat}{H H':AH}{φ aW:bf}{w w':World}{fr fr':cN}{b:Frame}{a a':Act}{todo qO:List Item}{cs:List Frame}
theorem M8{o:Oper}{v:AV}{v':Value}{ag4:List b_}(dK:fr.lx=.fy)(hs:Steps P (lone (b.atR a todo) cs w) (lone (b.atR (a.put o.dst v') qO) cs w'))(hf:FR aW fr b a)(hv:VR aW v v')(hi:jC aW ag4 qO)
 (hw:WR aW bs H' w') (he:cQ m φ H aW H') (hk:c8 bs w w') (hu:j7 φ fr.up cs):kz P m bs φ H w fr (b.atR a todo) cs (qI fr o ag4 v H'):=by
 obtain⟨fn,tmps,nt,td,defers,mode,up,round⟩:=fr;cases dK;simp only[qI];split
 ·rename_i t l6;exact za hs ⟨hf.fn,TR.put hf.tr l6 hv,by rw[zN];exact hf.dr,hf.jL,hf.lA,hf.o9⟩ rfl hi hw he hk rfl rfl hu
 ·trivial
theorem Vm{c:qS}{c':List PanicEntry}(dK:fr.lx=.fy)(hs:Steps P (lone (b.atR a todo) cs w) (lone ((b.atR a' qO).raise c') cs w'))(hd:a'.defers=a.defers){t:Tr AV}(ht:TR aW t fr.nt a'.tmps){k:List b_}(hf:FR φ fr b a)(hc:CR aW c c')
 (hw:WR aW bs H' w') (he:cQ m φ H aW H') (hk:c8 bs w w') (hu:j7 φ fr.up cs):kz P m bs φ H w fr (b.atR a todo) cs (.go ⟨fr.fn,t,fr.nt,k,fr.Jn,Ft fr.lx c,fr.up,fr.oZ⟩ H'):=by
 obtain⟨fn,tmps,nt,td,defers,mode,up,round⟩:=fr;cases dK;have Bb:=hf.yz he.1;refine⟨aW,w',(b.atR a' qO).raise c',cs,hs,⟨⟨hf.fn,ht,?_,Bb.jL,hf.lA,hf.o9⟩,⟨c',rfl,hc⟩⟩,hu.mono he.1,vn.Cz hu,rfl,rfl,hw,he,hk,rfl⟩;show mK aW defers a'.defers;rw[hd];exact Bb.dr
theorem au6{ops:Array Oper}{i:Nat}{o:Oper}{rest:List Oper}(h:o::rest=ops.toList.drop i):ops[i]? =some o∧rest=ops.toList.drop (i+1):=by
 constructor
 ·have:(ops.toList.drop i)[0]? =some o:=by rw[←h];rfl
  rw[List.getElem?_drop]at this;simpa using this
 ·have:(ops.toList.drop i).drop 1=rest:=by rw[←h];rfl
  rw[List.drop_drop]at this;exact this.symm
theorem agQ{ops:Array Oper}{k:List Item}{i:Nat}{rest:LN}{o:Oper}(ho:ops[i]? =some o)(hw:Region.wanted o (yielded ops a.tmps)=true)(hb:b.roundOf=none)
 (hr:(o.semAt b.roundOf a.eval).run P w=.ok .recover w'):
 step P (lone (b.atR a (.inRegion ops (i::rest)::k)) cs w)=match tryRecover (b.atR a (.inRegion ops (i::rest)::k)) cs with
  |some (v,cs')=>.next (lone (b.atR (a.put o.dst v) (.inRegion ops rest::k)) cs' w')
  |none=>.next (lone (b.atR (a.put o.dst .nilIface) (.inRegion ops rest::k)) cs w'):=by
 have hg:=stepGR_op (P:=P) (b:=b) (k:=k) (cs:=cs) (w:=w) (rest:=rest) ho hw;have fE:(b.atR a (.inRegion ops (i::rest)::k)).roundOf=none:=hb;cases ht:tryRecover (b.atR a (.inRegion ops (i::rest)::k)) cs with
 |none=>simp only;refine step_lone_go ?_;rw[hg,←DL ho];simp[stepG.apply,hr,fE,ht]
 |some r=>obtain⟨v,cs'⟩:=r;simp only;refine step_lone_go ?_;rw[hg,←DL ho];simp[stepG.apply,hr,fE,ht]
theorem au7(hc:ou P call)(dK:fr.lx=.fy)(hf:FR φ fr b a)(hw:WR φ bs H w)(hb:gA bs w)(hm:m<=H.bL)(hu:j7 φ fr.up cs){ops:Array Oper}{i:Nat}{o:Oper}{rest:List Oper}{k:List b_}{ks:List Item}(Hy:o::rest=ops.toList.drop i)
 (hi:jC φ k ks):kz P m bs φ H w fr (b.atR a (.inRegion ops (List.range' i (rest.length+1))::ks)) cs (ym P call fr H ops i o rest k):=by
 obtain⟨ho,qA⟩:=au6 Hy;rw[List.range'_succ];have wa:=hf.tr;have Bh:∀{ψ:bf},eg φ ψ->jC ψ (.jr ops (Nat.succ i) rest::k) (.inRegion ops (List.range' (i+1) rest.length)::ks):=fun h=>⟨_,_,rfl,⟨rfl,qA⟩,hi.mono h⟩
 have uV:mr φ (ia fr.o0) a.eval o.op.operands.toList:=TR.oo wa _;obtain⟨fn,tmps,nt,td,defers,mode,up,round⟩:=fr;cases dK;simp only at wa uV;simp only[ym];cases ph:kr ops o tmps.bV with
 |none=>trivial
 |some bb=>
  simp only;have pj:Region.wanted o (yielded ops a.tmps)=bb:=ahm (cur:=tmps) ph fun g oV d x _ _ hx=>wa.2 d x hx
  cases bb with
  |false=>simp only[cond_false];refine M8 (v':=undef) rfl (.one ?_) hf (FQ φ) (Bh (eg.sU φ)) hw (cQ.jK _ _ _) (c8.kv _ _) hu;have:=stepR_op_skip (P:=P) (b:=b) (a:=a) (k:=ks) (cs:=cs) (w:=w) (ops:=ops) (i:=i) (rest:=List.range' (i+1) rest.length) (by simp[ho,pj]);simpa[ho]using this
  |true=>
   simp only[cond_true];cases hr:nA o.op with
   |true=>
    simp only[cond_true];cases hv:fK P (ia tmps) H o.op with
    |none=>trivial
    |some v=>obtain⟨v',h1,h2⟩:=aeT hw uV hv;simp only[Fz];exact M8 (v':=v') rfl (.one (IZ ho pj (.inl (by rw[yh _ _ (aeR hr)];exact h1)))) hf h2 (Bh (eg.sU φ)) hw (cQ.jK _ _ _) (c8.kv _ _) hu
   |false=>
    simp only[cond_false];cases v8:pW o.op with
    |true=>
     simp only[cond_true];cases tn:nD P (ia tmps) o.op with
     |none=>trivial
     |some r=>obtain⟨ob,g⟩:=r;obtain⟨hh,n⟩:=H;obtain⟨o',sz,f,h1,h2,h3,h4⟩:=adk uV tn;obtain⟨g1,g2,g3⟩:=hw.xV (m:=m) (n:=sz) hb h2 hm;simp only[Cg];exact M8 (v':=f w.heap.size) rfl (.one (IZ ho pj (.inl (by rw[yh _ _ (adj tn)];exact h1 w)))) (hf.yz g2.1) (h3 _ n _ (mM ..)) (Bh g2.1) g1 g2 g3 hu
    |false=>
     simp only[cond_false];cases dM:nY P (ia tmps) H o.op with
     |none=>trivial
     |some aN=>
      have zl:=abI (P:=P) (m:=m) hw hb hm uV dM;have alV:∀r,mO P call H none aN=some r->kz P m bs φ H w ⟨fn,tmps,nt,td,defers,.fy,up,round⟩ (b.atR a (.inRegion ops (i::List.range' (i+1) rest.length)::ks)) cs
       (FA ⟨fn,tmps,nt,td,defers,.fy,up,round⟩ o (.jr ops (Nat.succ i) rest::k) (some r)):=by
       intro r kf;have oH:∀c,o.op≠.defer c:=by
        intro cc mB;rw[mB]at dM;simp only[nY,A5]at dM;split at dM
        ·split at dM
         ·rename_i fn first j9 l _ _
          cases hy:tB fn with
          |true=>rw[hy]at dM;cases dM
          |false=>rw[hy]at dM;cases dM;simp[mO]at kf
         ·cases dM
        ·cases dM
       obtain⟨aW,w',g1,g2,g3,g4⟩:=aei hc b ops ks cs a i (List.range' (i+1) rest.length) o φ H w m aN r hm hb ho pj hw (yh _ _ oH) zl kf;obtain⟨e,FT,H1⟩:=r;cases e with
       |fQ v=>obtain⟨v',hv,pS⟩:=g4;rw[DL ho]at pS;exact M8 rfl pS (hf.yz g2.1) hv (Bh g2.1) g1 g2 g3 hu
       |iw c=>obtain⟨c',vW,pS⟩:=g4;exact Vm (fr:=⟨fn,tmps,nt,td,defers,.fy,up,round⟩) rfl pS rfl (wa.mono g2.1) hf vW g1 g2 g3 hu
      have kf:kz P m bs φ H w ⟨fn,tmps,nt,td,defers,.fy,up,round⟩ (b.atR a (.inRegion ops (i::List.range' (i+1) rest.length)::ks)) cs
       (FA ⟨fn,tmps,nt,td,defers,.fy,up,round⟩ o (.jr ops (Nat.succ i) rest::k) (mO P call H none aN)):=by
       cases hd:mO P call H none aN with
       |none=>trivial
       |some r=>exact alV r hd
      have ax0:∀{c:Call},o.op=.defer c->round=none->o.semAt b.roundOf a.eval=execOp a.eval o:=by intro c _ fE;subst fE;have:b.roundOf=none:=hf.jL;rw[this];rfl
      cases aN with
      |hZ v H1=>exact kf
      |qi f args=>exact kf
      |ue l args=>exact kf
      |wM d=>
       simp only[wA,af3];split
       ·rename_i e;cases e;split
        ·rename_i t l6;obtain⟨d',h1,h2⟩:=zl;have fE:b.roundOf=none:=hf.jL;refine za (.one (avI ho pj (by rw[fE];exact h1))) ⟨hf.fn,TR.put (a:=⟨a.tmps,d'::a.defers⟩) wa l6 (FQ φ),?_,hf.jL,hf.lA,hf.o9⟩ rfl (Bh (eg.sU φ)) hw (cQ.jK _ _ _) (c8.kv _ _) rfl rfl hu;rw[zN];exact⟨d',a.defers,rfl,h2,hf.dr⟩
        ·trivial
       ·trivial
      |wN v=>
       obtain⟨v',h1,h2⟩:=zl;have oH:∀c,o.op≠.defer c:=by
        intro cc mB;rw[mB]at dM;simp only[nY,A5]at dM;split at dM
        ·split at dM
         ·rename_i fn first j9 l _ _
          cases hy:tB fn with
          |true=>rw[hy]at dM;cases dM
          |false=>rw[hy]at dM;cases dM
         ·cases dM
        ·cases dM
       exact Vm (fr:=⟨fn,tmps,nt,td,defers,.fy,up,round⟩) (c':=[{v:=v',recovered:=false}]) rfl (.one (avK ho pj (by rw[yh _ _ oH];exact h1))) rfl wa hf ⟨v',[],rfl,h2,rfl⟩ hw (cQ.jK _ _ _) (c8.kv _ _) hu
      |wP=>
       have oH:∀c,o.op≠.defer c:=by
        intro cc mB;rw[mB]at dM;simp only[nY,A5]at dM;split at dM
        ·split at dM
         ·rename_i fn first j9 l _ _
          cases hy:tB fn with
          |true=>rw[hy]at dM;cases dM
          |false=>rw[hy]at dM;cases dM
         ·cases dM
        ·cases dM
       simp only[ow]at zl;simp only[wA,af4];have LX:∀(fE:round=none),(∀v Fh,up≠some (.nQ ((v,false)::Fh)))->∀t,mh nt tmps o.dst .ly=some t->
        kz P m bs φ H w ⟨fn,tmps,nt,td,defers,.fy,up,round⟩ (b.atR a (.inRegion ops (i::List.range' (i+1) rest.length)::ks)) cs (.go ⟨fn,t,nt,.jr ops (Nat.succ i) rest::k,defers,.fy,up,round⟩ H):=by
        intro fE jX t l6;subst fE;have kI:=agQ (P:=P) (b:=b) (k:=ks) (cs:=cs) (w:=w) (w':=w) (rest:=List.range' (i+1) rest.length) ho pj hf.jL (by rw[yh _ _ oH];exact zl);have Tz:tryRecover (b.atR a (.inRegion ops (i::List.range' (i+1) rest.length)::ks)) cs=none:=by
         cases up with
         |none=>have hk:b.kind=.normal:=hf.lA;unfold tryRecover;rw[show(b.atR a (.inRegion ops (i::List.range' (i+1) rest.length)::ks)).kind=b.kind from rfl,hk]
         |some u=>
          obtain⟨c,cs',rfl,zi⟩:=hu;have hk:b.kind=.deferred:=hf.lA;unfold tryRecover;rw[show(b.atR a (.inRegion ops (i::List.range' (i+1) rest.length)::ks)).kind=b.kind from rfl,hk];simp only;cases u with
          |fy=>rw[zi]
          |o4=>rw[zi]
          |nQ ch=>
           obtain⟨r9,e1,Hv⟩:=zi;rw[e1];cases ch with
           |nil=>simp only[CR]at Hv;subst Hv;rfl
           |cons x ch=>
            obtain⟨v,rec⟩:=x;obtain⟨v',l',rfl,_,_⟩:=Hv;cases rec with
            |false=>exact(jX v ch rfl).elim
            |true=>rfl
        rw[Tz]at kI;exact za (.one kI) ⟨hf.fn,TR.put wa l6 (show VR φ .ly .nilIface from rfl),by rw[zN];exact hf.dr,hf.jL,hf.lA,hf.o9⟩ rfl (Bh (eg.sU φ)) hw (cQ.jK _ _ _) (c8.kv _ _) rfl rfl hu
       split
       ·rename_i v Fh e;cases e;split
        ·rename_i t l6;have kI:=agQ (P:=P) (b:=b) (k:=ks) (cs:=cs) (w:=w) (w':=w) (rest:=List.range' (i+1) rest.length) ho pj hf.jL (by rw[yh _ _ oH];exact zl);obtain⟨c,cs',rfl,r9,e1,Hv⟩:=hu;obtain⟨v',l',rfl,hv,hl⟩:=Hv;have hk:b.kind=.deferred:=hf.lA;have Tz:tryRecover (b.atR a (.inRegion ops (i::List.range' (i+1) rest.length)::ks)) (c::cs')=some (v',{c with mode:=.panicking ({v:=v',recovered:=true}::l')}::cs'):=by unfold tryRecover;rw[show(b.atR a (.inRegion ops (i::List.range' (i+1) rest.length)::ks)).kind=b.kind from rfl,hk];simp only[e1]
         rw[Tz]at kI;refine⟨φ,w,_,_,.one kI,⟨b,_,_,rfl,⟨hf.fn,TR.put wa l6 hv,by rw[zN];exact hf.dr,hf.jL,hf.lA,hf.o9⟩,Bh (eg.sU φ)⟩,⟨_,_,rfl,_,rfl,v',l',rfl,hv,hl⟩,⟨c,cs',_,rfl,rfl⟩,rfl,rfl,hw,cQ.jK _ _ _,c8.kv _ _,rfl⟩
        ·trivial
       ·rename_i jX e;cases e;split
        ·rename_i t l6;exact LX rfl (fun v Fh hh=>jX v Fh hh) t l6
        ·trivial
       ·trivial
end
section
variable{P:Program}{call:iu}{bs:dX}{m:Nat}{H H':AH}{φ aW:bf}{w w':World}{fr fr':cN}{b:Frame}{a a':Act}{todo qO:List Item}{cs:List Frame}
theorem avy{c:Code}{k:List Item}:step P (lone (b.atR a (.code (.scope c)::k)) cs w)=.next (lone (b.atR a (.code c::.inScope c::k)) cs w):=
 step_lone_go (by simp[stepG,stepG.exec,Frame.atR])
theorem avx{c:Code}{k:List Item}:step P (lone (b.atR a (.inScope c::k)) cs w)=.next (lone (b.atR a k) cs w):=
 step_lone_go (by simp[stepG,stepG.exec,Frame.atR])
theorem aps(dI:P.follows .mixedOrders=true)(hc:ou P call)(dK:fr.lx=.fy)(hf:FR φ fr b a)(hw:WR φ bs H w)(hb:gA bs w)(hm:m<=H.bL)(hu:j7 φ fr.up cs){id:Nat}{ops:Array Oper}{pK:Bool}{k:List b_}{ks:List Item}
 (hi:jC φ k ks):kz P m bs φ H w fr (b.atR a (.code (.region id ops pK)::ks)) cs (FC P call fr H ops pK k):=by
 cases pK with
 |false=>simp only[FC,cond_false];refine rT dK (.one stepR_region) rfl hf ⟨_,_,rfl,⟨?_,rfl⟩,hi⟩ hw hu;rw[Array.length_toList,List.range_eq_range']
 |true=>
  obtain⟨fn,tmps,nt,td,defers,mode,up,round⟩:=fr;cases dK;simp only[FC,cond_true];cases kH:Fm ops with
  |none=>trivial
  |some pl=>
   simp only;have ry:WR φ bs H {w with drawn:=w.drawn+1}:=hw.tN rfl;have h0:=stepR_region_draw (P:=P) (b:=b) (a:=a) (k:=ks) (cs:=cs) (w:=w) (ops:=ops) (id:=id);have Th:=aoA (call:=call) (k:=ks) kH dI (aei (bs:=bs) hc b ops ks cs) (w.tape w.drawn (.order b.fn id)) ry hb hm hf.tr;have qx:c8 bs w {w with drawn:=w.drawn+1}:=c8.tN rfl;generalize rJ P call ops pl.ms tmps nt pl.Ar [] tmps H=r at Th;cases r with
   |dY s=>trivial
   |az t H1=>obtain⟨mi,w1,a1,g1,g2,g3,g4,g5,g6⟩:=Th;simp only[Nd];have n5:=hf.yz g5.1;exact za (.head h0 (g1.trans (.one stepR_region_end))) ⟨hf.fn,g3,by rw[g2];exact n5.dr,n5.jL,hf.lA,hf.o9⟩ rfl (hi.mono g5.1) g4 g5 (qx.ud g6) rfl rfl hu
   |iw c H1=>obtain⟨mi,w1,a1,ZM,c1,g1,g2,g3,g4,g5,g6,g7⟩:=Th;simp only[Nd];exact Vm (fr:=⟨fn,tmps,nt,td,defers,.fy,up,round⟩) (k:=k) rfl (.head h0 g1) g2 g3 hf g7 g4 g5 (qx.ud g6) hu
theorem mK.Xq:∀{as:List ir} {ds:List Deferred} {o_:List ir} {pL:List Deferred},mK φ as ds->mK φ o_ pL->mK φ (as++o_) (ds++pL)
 |[],ds,o_,pL,h,h'=>by cases h;exact h'
 |x::as,ds,o_,pL,h,h'=>by obtain⟨d,ds1,rfl,h1,h2⟩:=h;exact⟨d,ds1++pL,rfl,h1,mK.Xq h2 h'⟩
theorem aeM(hc:ou P call)(dK:fr.lx=.fy)(hf:FR φ fr b a)(hu:j7 φ fr.up cs){f:Operand}{params:Array Tmp}{assign body:Code}{k:List b_}{ks:List Item}(hi:jC φ k ks)
 {mi:bf} {h:Tr aZ} {n:Nat} {w1:World} {d:Nat} {ed:PE} {mark:List ir} {Ie:List Deferred} (n_:WR mi bs ⟨h,n⟩ w1) (ze:cQ m φ H mi ⟨h,n⟩) (iM:c8 bs w w1) (lI:gA bs w1) (S2:m<=n) (hd:mi d=some ed) (al9:mK mi mark Ie)
 (qw:(Instr.enterLoop b.fn a.tmps params assign body b.roundOf).run P w=.ok (w1.heap.size,Ie) (w1.alloc (.loop {state:=.ready,pending:=none,fn:=b.fn,tmps:=a.tmps,params,assign,body,defers:=ed.b}))):
 kz P m bs φ H w fr (b.atR a (.code (.rangeFunc f params assign body)::ks)) cs (KM P call fr f params assign body k (some (d,mark,⟨h,n⟩))):=by
 obtain⟨fn,tmps,nt,td,defers,mode,up,round⟩:=fr;cases dK;simp only[KM];have n5:=hf.yz ze.1;have jW:b.fn=fn:=hf.fn;obtain⟨g1,g2,g3⟩:=n_.xV (m:=m) (n:=0) (ob:=.gb .ready none fn tmps nt params.toList assign body d) (o':=.loop {state:=.ready,pending:=none,fn:=b.fn,tmps:=a.tmps,params,assign,body,defers:=ed.b}) lI
  (fun ψ bb TU=>⟨a.tmps,ed,by simp[jW],TU _ _ hd,n5.tr.mono TU⟩) S2
 have jw:=n5.yz g2.1;have LF:=ze.yy g2;have uT:(AH.mk h n).bL=n:=rfl;rw[uT]at g1 g2 jw LF;have hyv:VR (js mi n ⟨w1.heap.size,0,0⟩) (.gd n) (.func (.yield w1.heap.size) #[] #[]):=⟨_,mM ..,rfl⟩;cases hr:(ia tmps f).bind fun g=>(DF (vE P g [.gd n])).bind (mO P call (AH.iq ⟨h,n⟩ (.gb .ready none fn tmps nt params.toList assign body d)) none)with
 |none=>trivial
 |some r=>
  cases hg:ia tmps f with
  |none=>rw[hg]at hr;cases hr
  |some g=>
   rw[hg]at hr;simp only[Option.bind_some]at hr;cases uJ:vE P g [.gd n]with
   |none=>rw[uJ]at hr;cases hr
   |some aN=>
    rw[uJ]at hr;have hgv:=TR.oo jw.tr [f] f (by simp) g hg;have gY:=(Kg (P:=P) (m:=m) (base:=bs) (H:=AH.iq ⟨h,n⟩ (.gb .ready none fn tmps nt params.toList assign body d)) (Ae:= #[.func (.yield w1.heap.size) #[] #[]]) uJ hgv ⟨_,_,rfl,hyv,rfl⟩).1
     (w1.alloc (.loop {state:=.ready,pending:=none,fn:=b.fn,tmps:=a.tmps,params,assign,body,defers:=ed.b}))
    cases aN with
    |qi g' args=>
     simp only[DF,Option.bind_some]at hr;obtain⟨args',h1,h2⟩:=gY;rw[Sem.run_bind]at h1;cases SC:(Deferred.ofValue (a.eval f) #[.func (.yield w1.heap.size) #[] #[]]).run P (w1.alloc (.loop {state:=.ready,pending:=none,fn:=b.fn,tmps:=a.tmps,params,assign,body,defers:=ed.b}))with
     |halt x w2=>rw[SC]at h1;cases h1
     |ok d2 w2=>
      rw[SC]at h1;simp only[Result.andThen_ok]at h1;have kI:=stepR_rangeFunc (P:=P) (b:=b) (a:=a) (k:=ks) (cs:=cs) (w:=w) (g:=f) qw (d:=d2) (w₁':=w2) (by have hk:a.eval (.const (.func (.yield w1.heap.size) #[] #[]))=.func (.yield w1.heap.size) #[] #[]:=rfl;simpa[resolve,rangeCall,hk]using SC) h1;have Ts:=Rv (cs:=b.atR {a with defers:=Ie++a.defers} (.inRangeFunc w1.heap.size::ks)::cs) (m:=m) hc hr h2 g1 (lI.CB g3.1) (Nat.le_trans S2 g2.2.1) trivial (kind:=.normal) rfl;obtain⟨Xo,w3,q1,q2,q3,q4⟩:=VP Ts (.one kI) (iM.ud g3);have HB:=jw.yz q2.1;have LG:=LF.yy q2;have hn3:Xo n=some ⟨w1.heap.size,0,0⟩:=q2.1 _ _ (mM ..);have abY:mK Xo (mark++defers) (Ie++a.defers):=((al9.CA g2.1).CA q2.1).Xq HB.dr;obtain⟨e,FT,H3⟩:=r;cases e with
      |fQ v=>obtain⟨v',hv,pS⟩:=q4;rw[finish_atR_inRangeFunc]at pS;exact za pS ⟨hf.fn,HB.tr,abY,HB.jL,hf.lA,hf.o9⟩ rfl ⟨_,_,rfl,⟨_,hn3,rfl⟩,hi.mono LG.1⟩ q1 LG q3 rfl rfl hu
      |iw c=>obtain⟨c',vW,pS⟩:=q4;exact⟨Xo,w3,_,cs,pS,⟨⟨hf.fn,HB.tr,abY,HB.jL,hf.lA,hf.o9⟩,⟨c',rfl,vW⟩⟩,hu.mono LG.1,vn.Cz hu,rfl,rfl,q1,LG,q3,rfl⟩
    |_=>cases hr
theorem ao9(hc:ou P call)(dK:fr.lx=.fy)(hf:FR φ fr b a)(hw:WR φ bs H w)(hb:gA bs w)(hm:m<=H.bL)(hu:j7 φ fr.up cs){f:Operand}{params:Array Tmp}{assign body:Code}{k:List b_}{ks:List Item}
 (hi:jC φ k ks):kz P m bs φ H w fr (b.atR a (.code (.rangeFunc f params assign body)::ks)) cs (IW P call fr H f params assign body k):=by
 obtain⟨fn,tmps,nt,td,defers,mode,up,round⟩:=fr;cases dK;simp only[IW];cases round with
 |none=>obtain⟨h,n⟩:=H;simp only[Mx];obtain⟨g1,g2,g3⟩:=hw.xV (m:=m) (n:=0) (ob:=.ot (some [])) (o':=.deferred (some [])) hb (fun ψ bb TU=>⟨[],rfl,rfl⟩) hm;have fE:b.roundOf=none:=hf.jL;have qw:=run_enterLoop_outer (P:=P) (w:=w) b.fn a.tmps params assign body;rw[←fE]at qw;have cJ:(w.alloc (.deferred (some []))).heap.size=w.heap.size+1:=Qf _ _;rw[←cJ]at qw;exact aeM hc rfl hf hu hi g1 g2 g3 (hb.CB g3.1) (Nat.le_trans hm g2.2.1) (mM ..) ⟨_,_,rfl,⟨_,mM ..,rfl⟩,rfl⟩ qw
 |some l=>
  obtain⟨e,he,fE⟩:=hf.jL;simp only[Mx];cases fv:H.bu l with
  |none=>trivial
  |some ob=>
   cases ob with
   |gb st p lf lt ln ps x y d=>simp only;obtain⟨o,hg,nc,ed,rfl,hd,ht⟩:=hw.ey l _ e fv he;obtain⟨h,n⟩:=H;refine aeM hc rfl hf hu hi hw (cQ.jK _ _ _) (c8.kv _ _) hb hm hd (Ie:=[]) rfl ?_;rw[fE];unfold Instr.enterLoop;simp only[Sem.run_bind,run_getLoop hg,run_newObj_alloc,Result.andThen,Sem.run_pure]
   |_=>trivial
theorem aji(dI:P.follows .mixedOrders=true)(hc:ou P call)(dK:fr.lx=.fy)(hf:FR φ fr b a)(hw:WR φ bs H w)(hb:gA bs w)(hm:m<=H.bL)(hu:j7 φ fr.up cs){c:Code}{k:List b_}{ks:List Item}
 (hi:jC φ k ks):kz P m bs φ H w fr (b.atR a (.code c::ks)) cs (u_ P call fr H k c):=by
 cases c with
 |ret=>exact ane dK hf hw hu
 |skip=>exact rT dK (.one stepR_skip) rfl hf hi hw hu
 |label l=>exact rT dK (.one stepR_label) rfl hf hi hw hu
 |seq x y=>exact rT dK (.one stepR_seq) rfl hf ⟨_,_,rfl,rfl,_,_,rfl,rfl,hi⟩ hw hu
 |cond c FP Ds=>
  simp only[u_];cases hv:ia fr.o0 c with
  |none=>trivial
  |some v=>
   cases v with
   |ai t=>have:=TR.oo hf.tr [c] c (by simp) _ hv;simp only[VR]at this;refine rT dK (.one (stepR_cond this)) rfl hf ⟨_,_,rfl,?_,hi⟩ hw hu;cases t<;>rfl
   |_=>trivial
 |block id body=>exact rT dK (.one stepR_block) rfl hf ⟨_,_,rfl,rfl,_,_,rfl,rfl,hi⟩ hw hu
 |loop body=>exact rT dK (.one stepR_loop) rfl hf ⟨_,_,rfl,rfl,_,_,rfl,rfl,hi⟩ hw hu
 |scope body=>exact rT dK (.one avy) rfl hf ⟨_,_,rfl,rfl,_,_,rfl,rfl,hi⟩ hw hu
 |exit id=>
  have:=aaK (id:=id) hi;simp only[u_];cases hx:y5 id k with
  |none=>rw[hx]at this;exact anb dK hf hw hu this
  |some k'=>rw[hx]at this;obtain⟨qg,h1,h2⟩:=this;exact rT dK (.one (stepR_exit h1)) rfl hf h2 hw hu
 |goto l=>
  have:=abm (l:=l) hi;simp only[u_];cases hx:AR l k with
  |none=>rw[hx]at this;exact anc dK hf hw hu this
  |some k'=>rw[hx]at this;obtain⟨qg,h1,h2⟩:=this;exact rT dK (.one (stepR_goto h1)) rfl hf h2 hw hu
 |region id ops pK=>exact aps dI hc dK hf hw hb hm hu hi
 |rangeFunc f params assign body=>exact ao9 hc dK hf hw hb hm hu hi
 |refuse W9=>trivial
theorem avz(dI:P.follows .mixedOrders=true)(hc:ou P call)(dK:fr.lx=.fy)(hf:FR φ fr b a)(hw:WR φ bs H w)(hb:gA bs w)(hm:m<=H.bL)(hu:j7 φ fr.up cs)(hi:jC φ fr.Am todo):
 kz P m bs φ H w fr (b.atR a todo) cs (rQ P call fr H):=by
 obtain⟨fn,tmps,nt,td,defers,mode,up,round⟩:=fr;cases td with
 |nil=>cases hi;exact ana dK hf hw hu
 |cons x k=>
  obtain⟨y,ks,rfl,h1,h2⟩:=hi;simp only[rQ];cases x with
  |fG c=>cases h1;exact aji dI hc dK hf hw hb hm hu h2
  |sT id=>cases h1;exact rT dK (.one stepR_inBlock) rfl hf h2 hw hu
  |rX c=>cases h1;exact rT dK (.one avx) rfl hf h2 hw hu
  |o3 c=>cases h1;exact rT dK (.one stepR_inLoop) rfl hf ⟨_,_,rfl,rfl,_,_,rfl,rfl,h2⟩ hw hu
  |An l=>trivial
  |yx l=>obtain⟨e,he,rfl⟩:=h1;exact ajZ dK hf hw hu he h2
  |wL=>cases h1;exact aiG dK hf hw hu h2
  |jr ops i l=>
   obtain⟨rfl,Hy⟩:=h1;cases l with
   |nil=>exact rT dK (.one stepR_region_end) rfl hf h2 hw hu
   |cons o rest=>exact au7 hc dK hf hw hb hm hu Hy h2
end
section
variable{P:Program}{call:iu}{bs:dX}{m:Nat}{H H':AH}{φ aW:bf}{w w':World}{fr fr':cN}{cy:Frame}{cs:List Frame}
def M9(tmps:Array Value):ResultVar->Sem Value
 |.tmp t=>pure (tmps.getD t undef)
 |.cell a t=>do loadVar t (←asAddr (tmps.getD a undef))
theorem VI{nt:Nat}{t:Tr AV}{tmps:Array Value}(hw:WR φ bs H w)(ht:TR φ t nt tmps):∀(l:List ResultVar) (vs:LV),qM P H t l=some vs->∃eV,(l.mapM (M9 tmps)).run P w=.ok eV w∧bc φ vs eV
 |[],vs,h=>by cases h;exact⟨[],rfl,rfl⟩
 |.tmp i::l,vs,h=>by
  simp only[qM]at h;split at h
  ·rename_i v hv;cases hr:qM P H t l with
   |none=>rw[hr]at h;cases h
   |some WZ=>
    rw[hr]at h;cases h;obtain⟨eV,h1,h2⟩:=VI hw ht l WZ hr;obtain⟨v',h3,h4⟩:=ht.2 i v hv;refine⟨v'::eV,?_,v',eV,rfl,h4,h2⟩;have e:tmps.getD i undef=v':=by rw[Array.getD_eq_getD_getElem?,h3];rfl
    rw[List.mapM_cons];simp only[M9,Sem.run_bind,Sem.run_pure,Result.andThen_ok,h1,e]
  ·cases h
 |.cell i ty::l,vs,h=>by
  simp only[qM]at h;split at h
  ·rename_i id off hp;split at h
   ·rename_i v hv;cases hr:qM P H t l with
    |none=>rw[hr]at h;cases h
    |some WZ=>
     rw[hr]at h;cases h;obtain⟨eV,h1,h2⟩:=VI hw ht l WZ hr;obtain⟨vp,h3,e,he,h4⟩:=ht.2 i _ hp;obtain⟨v',h5,h6⟩:=Us hw hv he;refine⟨v'::eV,?_,v',eV,rfl,h6,h2⟩;have e1:tmps.getD i undef=.pointer (some ⟨e.b,e.o+off,none⟩):=by rw[Array.getD_eq_getD_getElem?,h3,←h4];rfl
     rw[List.mapM_cons];simp only[M9,Sem.run_bind,e1,asAddr,Sem.run_pure,Result.andThen_ok,h5,h1]
   ·cases h
  ·cases h
theorem apA{nt:Nat}{t:Tr AV}{tmps:Array Value}(hw:WR φ bs H w)(ht:TR φ t nt tmps){fn:Func}{vs:LV}(h:qM P H t fn.results.toList=some vs):∃v',(results fn tmps).run P w=.ok v' w∧VR φ (yr vs) v':=by
 obtain⟨eV,h1,h2⟩:=VI hw ht _ vs h;have e:results fn tmps=(do let vs←fn.results.mapM (M9 tmps);pure (if h:vs.size=1 then vs[0]else .tuple vs)):=by unfold results;rfl
 rw[e,Array.mapM_eq_mapM_toList];simp only[map_eq_pure_bind,bind_assoc,pure_bind,Sem.run_bind,h1,Result.andThen_ok,Sem.run_pure];refine⟨_,rfl,?_⟩;cases vs with
 |nil=>simp only[bc]at h2;subst h2;exact⟨#[],rfl,rfl⟩
 |cons v vs=>
  obtain⟨v',vs2,rfl,hv,iB⟩:=h2;cases vs with
  |nil=>simp only[bc]at iB;subst iB;exact hv
  |cons v2 vs=>obtain⟨WS,W0,rfl,TD,amB⟩:=iB;exact⟨(v'::WS::W0).toArray,by simp,v',WS::W0,rfl,hv,WS,W0,rfl,TD,amB⟩
theorem CR.adF:∀{c:qS} {l:List PanicEntry},CR φ c l->l.dropWhile (!·.goexit)=[]
 |[],l,h=>by cases h;rfl
 |(v,r)::c,l,h=>by obtain⟨v',l',rfl,_,h2⟩:=h;simp only[List.dropWhile_cons];exact h2.adF
theorem au8{u:gX}{fm:FrameMode}(h:MR φ u fm):MR φ (af7 u) (settle fm):=by
 cases u with
 |fy=>cases h;rfl
 |o4=>cases h;rfl
 |nQ c=>
  obtain⟨c',rfl,hc⟩:=h;cases c with
  |nil=>cases hc;exact⟨[],rfl,rfl⟩
  |cons x c=>
   obtain⟨v,r⟩:=x;obtain⟨v',l',rfl,h1,h2⟩:=hc;cases r with
   |true=>show settle _=_;simp only[settle,h2.adF]
   |false=>exact⟨_,rfl,v',l',rfl,h1,h2⟩
theorem CR.Xp:∀{c:qS} {l:List PanicEntry} {c':qS} {l':List PanicEntry},CR φ c l->CR φ c' l'->CR φ (c++c') (l++l')
 |[],l,c',l',h,h'=>by cases h;exact h'
 |(v,r)::c,l,c',l',h,h'=>by obtain⟨v',l1,rfl,h1,h2⟩:=h;exact⟨v',l1++l',rfl,h1,CR.Xp h2 h'⟩
theorem ao8{u:gX}{fm:FrameMode}{c:qS}{c':List PanicEntry}(h:MR φ u fm)(hc:CR φ c c'):MR φ (Ft u c) (raised fm c'):=by
 cases u with
 |fy=>cases h;exact⟨c',rfl,hc⟩
 |o4=>cases h;exact⟨c',rfl,hc⟩
 |nQ o=>obtain⟨o',rfl,ho⟩:=h;exact⟨_,rfl,hc.Xp ho⟩
theorem aya{u:gX}(hu':u≠.fy){fn:Nat}{tmps:Tr AV}{nt:Nat}{todo:List b_}{ds:List ir}{up:Option gX}{round:Option Nat}{a:Act}(hs:Steps P (lone cy cs w) (lone {cy with defers:=a.defers,mode:=a.tmps.size|>fun _=>cy.mode} cs w')):True:=trivial
theorem sV.aN{fn:Nat}{tmps:Tr AV}{nt:Nat}{todo qO:List b_}{defers ds:List ir}{mode u:gX}{up:Option gX}{round:Option Nat}(hf:FR φ ⟨fn,tmps,nt,todo,defers,mode,up,round⟩ cy ⟨cy.tmps,cy.defers⟩){pL:List Deferred}{fm:FrameMode}
 (hd:mK φ ds pL) (hm:MR φ u fm) (hu:u≠.fy):sV φ ⟨fn,tmps,nt,qO,ds,u,up,round⟩ {cy with defers:=pL,mode:=fm}:=by
 have:FR φ ⟨fn,tmps,nt,qO,ds,u,up,round⟩ {cy with defers:=pL,mode:=fm} ⟨cy.tmps,pL⟩:=⟨hf.fn,hf.tr,hd,hf.jL,hf.lA,hf.o9⟩;cases u with
 |fy=>exact(hu rfl).elim
 |o4=>exact⟨this,hm⟩
 |nQ c=>exact⟨this,hm⟩
theorem agN(hc:ou P call)(dM:fr.lx≠.fy)(hf:FR φ fr cy ⟨cy.tmps,cy.defers⟩)(xA:MR φ fr.lx cy.mode)(hw:WR φ bs H w)(hb:gA bs w)(hm:m<=H.bL)(hu:j7 φ fr.up cs):
 kz P m bs φ H w fr cy cs (zX P call fr H):=by
 obtain⟨fn,tmps,nt,todo,defers,mode,up,round⟩:=fr;simp only at xA hu;have hcm:cy.mode≠.run:=by
  intro e;cases mode with
  |fy=>exact dM rfl
  |o4=>rw[e]at xA;cases xA
  |nQ c=>obtain⟨c',h1,_⟩:=xA;rw[e]at h1;cases h1
 simp only[zX];cases defers with
 |nil=>
  have tq:cy.defers=[]:=hf.dr;simp only[Na];have az:∀(e:Pn) (e':Ending),ER φ e e'->(cy.kind=.normal->cy.leaving P w e')->cy.going P w e'->
   (∀c cs',cs=c::cs'->cy.kind=.normal->match e with|.fQ v=>∃v',VR φ v v'∧Steps P (lone cy cs w) (lone (c.finish v') cs' w)|.iw ch=>∃r9,CR φ ch r9∧Steps P (lone cy cs w) (lone (c.raise r9) cs' w))->
   sX P m bs φ H w cy cs ⟨e,up,H⟩ up round:=by
   intro e e' xv n7 n6 qz;refine⟨φ,w,hw,cQ.jK _ _ _,c8.kv _ _,?_⟩;cases up with
   |none=>
    have hk:cy.kind=.normal:=hf.lA;cases round with
    |none=>exact⟨cy,e',xv,Steps.refl P _,n7 hk,rfl⟩
    |some l=>exact fun c cs' h=>qz c cs' h hk
   |some u=>obtain⟨c,cs',rfl,zi⟩:=hu;exact⟨c,cs',u,c.mode,cy,e',rfl,rfl,zi,xv,Steps.refl P _,hf.lA,n6⟩
  cases mode with
  |fy=>trivial
  |nQ ch=>
   simp only;cases jW:(P.funcs[fn]?).isSome with
   |false=>trivial
   |true=>simp only[cond_true];obtain⟨DM,HE⟩:=Option.isSome_iff_exists.1 jW;obtain⟨r9,h1,h2⟩:=xA;have HD:cy.fn=fn:=hf.fn;have n7:cy.leaving P w (.panicked r9):=⟨h1,tq,DM,by rw[HD];exact HE⟩;refine az (.iw ch) (.panicked r9) ⟨r9,rfl,h2⟩ (fun _=>n7) ⟨h1,tq,DM,by rw[HD];exact HE⟩ (fun c cs' gY _=>?_);subst gY;exact⟨r9,h2,.one (step_leave_panicked n7)⟩
  |o4=>
   simp only;cases HE:P.funcs[fn]? with
   |none=>trivial
   |some DM=>
    simp only;cases hr:qM P H tmps DM.results.toList with
    |none=>trivial
    |some vs=>
     simp only;obtain⟨v',h1,h2⟩:=apA (P:=P) hw hf.tr hr;have HD:cy.fn=fn:=hf.fn;have n7:cy.kind=.normal->cy.leaving P w (.returned v'):=fun hk=>⟨xA,tq,hk,DM,by rw[HD];exact HE,h1⟩
     refine az (.fQ (yr vs)) (.returned v') ⟨v',rfl,h2⟩ n7 ⟨xA,tq,DM,by rw[HD];exact HE,h1⟩ (fun c cs' gY hk=>?_);subst gY;exact⟨v',h2,.one (step_leave_returned (n7 hk))⟩
 |cons d ds=>
  obtain⟨d',pL,k7,hd,hdr⟩:=hf.dr;simp only at k7;cases d with
  |ng r=>
   obtain⟨e,he,rfl⟩:=hd;simp only;split
   ·rename_i fv;obtain⟨o,hg,l',rfl,uO⟩:=hw.ey r _ e fv he;simp only[mK]at uO;subst uO;have aj:=(hw.lt r e he).1;have hk:=run_takeDeferred (P:=P) hg;have kI:=step_collected (cs:=cs) hcm k7 rfl hk;refine⟨φ,w.putObj e.b (.deferred none),{cy with defers:=pL},cs,.one kI,?_,hu,vn.Cz hu,rfl,rfl,?_,cQ.nh he _,?_,rfl⟩
    ·exact sV.aN hf hdr xA dM
    ·exact hw.put fv rfl he World.putObj_size (fun b hb=>World.putObj_heap_other hb) ⟨_,World.putObj_heap_same aj,rfl⟩
    ·exact c8.Io hw he World.putObj_size (fun b hb=>World.putObj_heap_other hb)
   ·trivial
  |wK f j9 args=>
   obtain⟨s7,args',rfl,hy,Eg,lH⟩:=hd;simp only;cases uJ:vE P (.bR f [] j9) args with
   |none=>trivial
   |some aN=>
    have gY:=(Kg (P:=P) (m:=m) (base:=bs) (H:=H) (φ:=φ) (vf:=.func f #[] s7) (Ae:=args') uJ ?_ lH).1 w
    ·cases aN with
     |qi g l=>
      simp only[DF,Option.bind_some];cases kf:mO P call H (some mode) (.qi g l)with
      |none=>trivial
      |some r=>
       obtain⟨am1,h1,h2⟩:=gY;have al1:(invoke (.fn f s7) args').run P w=.ok (.enter g am1) w:=by
        have e1:(do let d←Deferred.ofValue (.func f #[] s7) args';invoke d.target d.args:Sem Next)=invoke (.fn f s7) args':=by simp[Deferred.ofValue]
        rw[←e1];exact h1
       have kI:=step_defer (cs:=cs) hcm k7 rfl al1;have Ts:=Rv (m:=m) (cs:={cy with defers:=pL}::cs) hc kf h2 hw hb hm (up:=some mode) ⟨_,_,rfl,xA⟩ (kind:=.deferred) rfl;obtain⟨mi,w1,q1,q2,q3,c,cs',uA,u',AG,e1,mB,tw,zi,xv,pS,si,n6⟩:=Ts;cases mB;obtain⟨ee,upp,H1⟩:=r;simp only at tw;subst tw;have n5:=hf.yz q2.1;have alG:=hdr.CA q2.1;have S4:∀(u2:gX) (K0:FrameMode),MR mi u2 K0->step P (lone AG ({ {cy with defers:=pL}with mode:=u'}::cs) w1)=.next (lone { { {cy with defers:=pL}with mode:=u'}with mode:=K0} cs w1)->
        kz P m bs φ H w ⟨fn,tmps,nt,todo,.wK f j9 args::ds,mode,up,round⟩ cy cs (U2 ⟨fn,tmps,nt,todo,.wK f j9 args::ds,mode,up,round⟩ ds u2 H1):=by
        intro u2 K0 hm2 gC;have abQ:u2≠.fy->kz P m bs φ H w ⟨fn,tmps,nt,todo,.wK f j9 args::ds,mode,up,round⟩ cy cs (.go ⟨fn,tmps,nt,todo,ds,u2,up,round⟩ H1):=fun di=>
         ⟨mi,w1,{cy with defers:=pL,mode:=K0},cs,.head kI (pS.trans (.one gC)),sV.aN n5 alG hm2 di,hu.mono q2.1,vn.Cz hu,rfl,rfl,q1,q2,q3,rfl⟩
        cases u2 with
        |fy=>trivial
        |o4=>exact abQ (by simp)
        |nQ cc=>exact abQ (by simp)
       cases ee with
       |fQ v=>obtain⟨v',rfl,hv⟩:=xv;simp only[U3];exact S4 _ _ (au8 zi) (step_going_returned si n6)
       |iw ch=>obtain⟨r9,rfl,hv⟩:=xv;simp only[U3];exact S4 _ _ (ao8 zi hv) (step_going_panicked n6)
     |_=>trivial
    ·cases f<;>first
      |exact⟨#[],s7,rfl,hy,rfl,Eg⟩
      |(cases hy;done)
end
section
variable{P:Program}
theorem Wv(dI:P.follows .mixedOrders=true){call:iu}(hc:ou P call)(fr:cN)(H:AH)(φ:bf)(w:World)(m:Nat)(bs:dX)(cy:Frame)(cs:List Frame)(hw:WR φ bs H w)(hb:gA bs w)(hm:m<=H.bL)
 (hf:sV φ fr cy) (hu:j7 φ fr.up cs):kz P m bs φ H w fr cy cs (jo P call fr H):=by
 obtain⟨fn,tmps,nt,todo,defers,mode,up,round⟩:=fr;cases mode with
 |fy=>obtain⟨b,a,EL,rfl,h1,h2⟩:=hf;exact avz dI hc rfl h1 hw hb hm hu h2
 |o4=>obtain⟨h1,h2⟩:=hf;exact agN hc (by simp) h1 h2 hw hb hm hu
 |nQ c=>obtain⟨h1,h2⟩:=hf;exact agN hc (by simp) h1 h2 hw hb hm hu
theorem sX.after{m:Nat}{bs:dX}{φ aW:bf}{H H':AH}{w w':World}{cy iJ:Frame}{cs oA:List Frame}{r:fM}{up FT:Option gX}{round:Option Nat}(hs:Steps P (lone cy cs w) (lone iJ oA w'))(gY:vn up cs oA)(tw:FT.isSome=up.isSome)
 (he:cQ m φ H aW H') (hk:c8 bs w w') (jW:iJ.fn=cy.fn) (h:sX P m bs aW H' w' iJ oA r FT round):sX P m bs φ H w cy cs r up round:=by
 obtain⟨mi,w1,h1,h2,h3,h4⟩:=h;refine⟨mi,w1,h1,he.yy h2,hk.ud h3,?_⟩;cases up with
 |none=>
  cases FT with
  |some u=>cases tw
  |none=>
   have gY:oA=cs:=gY;subst gY;cases round with
   |none=>obtain⟨c1,e1,g1,g2,g3,g4⟩:=h4;exact⟨c1,e1,g1,hs.trans g2,g3,g4.trans jW⟩
   |some l=>
    intro c cs' mB;have:=h4 c cs' mB;obtain⟨e,upr,H1⟩:=r;cases e with
    |fQ v=>obtain⟨v',g1,g2⟩:=this;exact⟨v',g1,hs.trans g2⟩
    |iw ch=>obtain⟨v',g1,g2⟩:=this;exact⟨v',g1,hs.trans g2⟩
 |some u=>
  cases FT with
  |none=>cases tw
  |some u'=>obtain⟨c,cs',u2,rfl,rfl⟩:=gY;obtain⟨c1,Q1,uA,u3,AG,e1,g1,g2,g3,g4,g5,g6,g7⟩:=h4;cases g1;exact⟨c,cs',uA,u3,AG,e1,rfl,g2,g3,g4,hs.trans g5,g6,g7⟩
theorem NA(dI:P.follows .mixedOrders=true){K:qk}(hK:CS P K):∀n,JE P (ug P K n)
 |0=>by intro fr H r h;cases h
 |n+1=>by
  intro fr H r h φ w m bs cy cs hw hb hm hf hu;have kI:=Wv dI (call:=⟨ug P K n,K⟩) ⟨NA dI hK n,hK⟩ fr H φ w m bs cy cs hw hb hm hf hu;simp only[ug]at h;cases hs:jo P ⟨ug P K n,K⟩ fr H with
  |dY s=>rw[hs]at h;cases h
  |wQ r'=>rw[hs]at h kI;cases h;exact kI
  |go fr' H'=>rw[hs]at h kI;obtain⟨aW,w',iJ,oA,g1,g2,g3,g4,g5,g6,g7,g8,g9,RN⟩:=kI;have:=NA dI hK n fr' H' r h aW w' m bs iJ oA g7 (hb.CB g9.1) (Nat.le_trans hm g8.2.1) g2 g3;rw[g5]at this;exact sX.after g1 g4 g6 g8 g9 RN this
theorem aki(dI:P.follows .mixedOrders=true){K:qk}(hK:CS P K){n:Nat}{f:FuncId}{args:LV}{args':Array Value}{H:AH}{r:fM}{φ:bf}{bs:dX}{w:World}(h:eval P K n f args H=some r)(ha:bc φ args args'.toList)(hw:WR φ bs H w)(hb:gA bs w):
 Calls P f args' w fun e w'=>∃aW,ER aW r.e e∧WR aW bs r.H w'∧eg φ aW∧c8 bs w w':=by
 intro cs;obtain⟨aW,w',h1,h2,h3,iJ,e',h4,h5,h6,h7⟩:=Ru (m:=0) (cs:=cs) (NA dI hK n) h ha hw hb (Nat.zero_le _) trivial (kind:=.normal) rfl;refine⟨e',w',iJ,⟨aW,h4,h1,h2.1,h3⟩,?_,h7,h6⟩;cases e' with
 |outgrown=>
  obtain⟨re,_,_⟩:=r;cases re with
  |fQ v=>obtain⟨v',h,_⟩:=h4;cases h
  |iw c=>obtain⟨v',h,_⟩:=h4;cases h
 |returned v=>exact h5
 |panicked c=>exact h5
theorem anX:CS P adK:=by intro f args H v H' h;cases h
theorem axP(dI:P.follows .mixedOrders=true){K:qk}(hK:CS P K){n:Nat}{f:FuncId}{b:Bool}{up:Option gX}{H:AH}{w:World}(h:eval P K n f [] ⟨.fL,0⟩=some ⟨.fQ (.ai b),up,H⟩):
 Calls P f #[] w fun e w'=>e=.returned (.bool b)∧c8 (M6 w) w w':=by
 have hw:WR ⟨fun _=>none,fun _=>none⟩ (M6 w) ⟨.fL,0⟩ w:=⟨(fun i ob e h=>by cases h),(fun i _ ob _ e _ h=>by cases h),(fun i e h=>by cases h),(fun i ob h=>by cases h),(fun b o h=>by cases h)⟩;intro cs;obtain⟨e,w',fr,⟨aW,⟨v',rfl,hv⟩,_,_,hk⟩,h2⟩:=aki dI hK h (args':= #[]) (φ:=⟨fun _=>none,fun _=>none⟩) rfl hw (gA.old w) cs;simp only[VR]at hv;subst hv;exact⟨_,w',fr,⟨rfl,hk⟩,h2⟩
end
noncomputable section
def Gx(tmps:Tr AV)(x:Operand):Option AV:=
 @Operand.rec (fun _=>Tr AV->Option AV) (fun t tmps=>Tr.bV tmps t) (fun v _=>CG v) (fun g _=>some (.tc g)) (fun f _=>some (.bR (.func f) [] [])) x tmps
theorem Kb:Gx=ia:=by funext t x;cases x<;>rfl
abbrev P0:=Program->(Operand->Option AV)->AH->Option AV
def mg:P0:=fun _ _ _=>none
def aeQ(op:Op):P0:=
 @Op.rec (fun _=>P0)
  (fun x _ ρ _=>ρ x)
  (fun x _ ρ _=>ρ x)
  (fun c a b _ ρ _=>Mm ρ c a b)
  (fun _=>mg)
  (fun _ _=>mg)
  (fun t kj P ρ _=>Mj P ρ t kj)
  (fun _ _ _=>mg)
  (fun _ _ _ _=>mg)
  (fun t a P ρ H=>H_ P ρ H t a)
  (fun _ _ _=>mg)
  (fun _=>mg) (fun _=>mg)
  (fun x _ ρ _=>Uh ρ x)
  (fun op t x y _ P ρ _=>Mi P ρ op t x y)
  (fun op _ x P ρ _=>Uj P ρ op x)
  (fun lv dst x P ρ _=>T' P ρ lv dst x)
  (fun _ _=>mg)
  (fun t x P ρ _=>Uf P ρ t x)
  (fun fn first j9 _ ρ _=>Ue ρ fn first j9)
  (fun _ _=>mg)
  (fun _ _=>mg)
  (fun _ _ _=>mg)
  (fun t x lo hi mx P ρ H=>xR P ρ H t x lo hi mx)
  (fun s x f P ρ _=>Uc P ρ s x f)
  (fun t x f P ρ _=>Ub P ρ t x f)
  (fun t x i P ρ _=>H9 P ρ t x i)
  (fun t x i P ρ _=>H8 P ρ t x i)
  (fun t x k ok P ρ H=>ET P ρ H t x k ok)
  (fun _ _ _ _=>mg)
  (fun _ _ _=>mg)
  (fun _ _ _ _=>mg)
  (fun _ _=>mg)
  (fun _ _=>mg)
  (fun _=>mg)
  (fun x _ np ok P ρ _=>Ui P ρ x np ok)
  (fun x i _ ρ _=>Ua ρ x i)
  (fun c P ρ H=>fK P ρ H (.call c))
  (fun _=>mg)
  (fun _=>mg)
  (fun _=>mg)
  (fun _ _=>mg)
  (fun _ _ _=>mg)
  (fun _ _=>mg)
  op
theorem apl(op:Op)(P:Program)(ρ:Operand->Option AV)(H:AH):aeQ op P ρ H=fK P ρ H op:=by cases op<;>rfl
abbrev Px:=Program->(Operand->Option AV)->AH->Option fC
def iZ:Px:=fun _ _ _=>none
def abG(op:Op):Px:=
 @Op.rec (fun _=>Px)
  (fun _=>iZ) (fun _=>iZ) (fun _ _ _=>iZ) (fun _=>iZ) (fun _ _=>iZ) (fun _ _=>iZ) (fun _ _ _=>iZ)
  (fun t m k x P ρ H=>zc P ρ H t m k x)
  (fun _ _=>iZ)
  (fun t a x P ρ H=>Ec P ρ H t a x)
  (fun _=>iZ) (fun _=>iZ) (fun _=>iZ) (fun _ _ _ _ _=>iZ) (fun _ _ _=>iZ) (fun _ _ _=>iZ) (fun _ _=>iZ) (fun _ _=>iZ) (fun _ _ _=>iZ)
  (fun _ _=>iZ) (fun _ _=>iZ) (fun _ _ _=>iZ) (fun _ _ _ _ _=>iZ) (fun _ _ _=>iZ) (fun _ _ _=>iZ) (fun _ _ _=>iZ) (fun _ _ _=>iZ) (fun _ _ _ _=>iZ)
  (fun t m k x P ρ H=>zc P ρ H t m k x)
  (fun t m k P ρ H=>Hm P ρ H t m k)
  (fun _ m s x _ ρ H=>Hl ρ H m s x)
  (fun t x P ρ H=>Ho P ρ H t x)
  (fun it sk _ ρ H=>Hn ρ H it sk)
  (fun it _ ρ H=>Lo ρ H it)
  (fun _ _ _ _=>iZ) (fun _ _=>iZ)
  (fun c P ρ H=>Lm P ρ H c)
  (fun _=>iZ)
  (fun c _ ρ _=>A5 ρ c)
  (fun x _ ρ _=>Sc ρ x)
  (fun _ _=>iZ) (fun _ _ _=>iZ) (fun _ _=>iZ)
  op
theorem alO(op:Op)(P:Program)(ρ:Operand->Option AV)(H:AH):abG op P ρ H=nY P ρ H op:=by cases op<;>rfl
abbrev yJ:=Nat->Tr AV->Nat->List ir->gX->Option gX->Option Nat->List b_->AV->AH->eM
def aea:yJ:=fun fn tmps nt defers mode up round todo _ H=>.go ⟨fn,tmps,nt,todo,defers,mode,up,round⟩ H
def aeb(d:Tmp):yJ:=fun fn tmps nt defers mode up round todo v H=>.go ⟨fn,tmps.iz d v,nt,todo,defers,mode,up,round⟩ H
def aec(_:Tmp):yJ:=fun _ _ _ _ _ _ _ _ _ _=>.dY "dst"
def aed(d:Tmp):yJ:=fun fn tmps nt=> @Bool.rec (fun _=>Tmp->yJ) aec aeb (Nat.ble (Nat.succ d) nt) d fn tmps nt
def aob:Nat->Tr AV->Nat->List b_->List ir->gX->Option gX->Option Nat->Oper->List b_->AV->AH->eM:=
 fun fn tmps nt _ defers mode up round o todo v H=> @Option.rec Tmp (fun _=>yJ) aea aed (Oper.dst o) fn tmps nt defers mode up round todo v H
def UU(fr:cN)(o:Oper)(todo:List b_)(v:AV)(H:AH):eM:=
 @cN.rec (fun _=>Oper->List b_->AV->AH->eM) aob fr o todo v H
theorem ad9(fr:cN)(o:Oper)(todo:List b_)(v:AV)(H:AH):UU fr o todo v H=qI fr o todo v H:=by
 obtain⟨fn,tmps,nt,td,defers,mode,up,round⟩:=fr;show @Option.rec Tmp (fun _=>yJ) aea aed (Oper.dst o) fn tmps nt defers mode up round todo v H=_;unfold qI mh;cases o.dst with
 |none=>rfl
 |some d=>
  show @Bool.rec (fun _=>Tmp->yJ) aec aeb (Nat.ble (d+1) nt) d fn tmps nt defers mode up round todo v H=
   (match(bif Nat.ble (d+1) nt then some (tmps.iz d v)else none)with
     |some t=>eM.go ⟨fn,t,nt,todo,defers,mode,up,round⟩ H
     |none=>.dY "dst")
  cases Nat.ble (d+1) nt<;>rfl
def au4:cN->Oper->List b_->AH->eM:=fun _ _ _ _=>.dY "read"
def au5:AV->cN->Oper->List b_->AH->eM:=fun v fr o todo H=>UU fr o todo v H
def V_(r:Option AV)(fr:cN)(o:Oper)(todo:List b_)(H:AH):eM:=
 @Option.rec AV (fun _=>cN->Oper->List b_->AH->eM) au4 au5 r fr o todo H
theorem au3(r:Option AV)(fr:cN)(o:Oper)(todo:List b_)(H:AH):V_ r fr o todo H=Fz fr o todo H r:=by
 cases r with
 |none=>rfl
 |some v=>exact ad9 fr o todo v H
abbrev ov:=Program->iu->cN->AH->Array Oper->Nat->Oper->List Oper->List b_->eM
def aop:ov:=fun P _ fr H ops i o rest k=>V_ (aeQ (Oper.op o) P (Gx (cN.o0 fr)) H) fr o (.jr ops (Nat.succ i) rest::k) H
def aon:ov:=fun P _ fr H ops i o rest k=>Cg fr o (.jr ops (Nat.succ i) rest::k) H (nD P (Gx (cN.o0 fr)) (Oper.op o))
def aom:ov:=fun P call fr H ops i o rest k=>wA P call fr o (.jr ops (Nat.succ i) rest::k) H (abG (Oper.op o) P (Gx (cN.o0 fr)) H)
def UY:ov:=fun P call fr H ops i o=> @Bool.rec (fun _=>ov) aom aon (pW (Oper.op o)) P call fr H ops i o
def M_:ov:=fun P call fr H ops i o=> @Bool.rec (fun _=>ov) UY aop (nA (Oper.op o)) P call fr H ops i o
def aoo:ov:=fun _ _ fr H ops i o rest k=>UU fr o (.jr ops (Nat.succ i) rest::k) .lz H
def UW:ov:=fun _ _ _ _ _ _ _ _ _=>.dY "guard"
def UX(b:Bool):ov:= @Bool.rec (fun _=>ov) aoo M_ b
def aoj:ov:=fun P call fr H ops i o=> @Option.rec Bool (fun _=>ov) UW UX (kr ops o (Tr.bV (cN.o0 fr))) P call fr H ops i o
def aol(_:Nat×Bool):ov:=aoj
def NS:ov:=fun P call fr H ops i o=> @Option.rec (Nat×Bool) (fun _=>ov) M_ aol (Oper.guard o) P call fr H ops i o
theorem aoq(P:Program)(call:iu)(fr:cN)(H:AH)(ops:Array Oper)(i:Nat)(o:Oper)(rest:List Oper)(k:List b_):
 M_ P call fr H ops i o rest k=(bif nA o.op then Fz fr o (.jr ops (Nat.succ i) rest::k) H (fK P (ia fr.o0) H o.op)
  else bif pW o.op then Cg fr o (.jr ops (Nat.succ i) rest::k) H (nD P (ia fr.o0) o.op)
  else wA P call fr o (.jr ops (Nat.succ i) rest::k) H (nY P (ia fr.o0) H o.op)):=by
 unfold M_;cases nA o.op with
 |true=>show V_ _ _ _ _ _=_;rw[au3,apl,Kb];rfl
 |false=>
  show UY _ _ _ _ _ _ _ _ _=_;unfold UY;cases pW o.op with
  |true=>show Cg _ _ _ _ _=_;rw[Kb];rfl
  |false=>show wA _ _ _ _ _ _ _=_;rw[alO,Kb];rfl
theorem avA(P:Program)(call:iu)(fr:cN)(H:AH)(ops:Array Oper)(i:Nat)(o:Oper)(rest:List Oper)(k:List b_):
 NS P call fr H ops i o rest k=ym P call fr H ops i o rest k:=by
 obtain⟨fn,tmps,nt,td,defers,mode,up,round⟩:=fr;unfold ym;have key:∀(w:Option Bool),@Option.rec Bool (fun _=>ov) UW UX w P call ⟨fn,tmps,nt,td,defers,mode,up,round⟩ H ops i o rest k=(match w with
  |none=>.dY "guard"
  |some b=>bif b then
    bif nA o.op then Fz ⟨fn,tmps,nt,td,defers,mode,up,round⟩ o (.jr ops (Nat.succ i) rest::k) H (fK P (ia tmps) H o.op)
    else bif pW o.op then Cg ⟨fn,tmps,nt,td,defers,mode,up,round⟩ o (.jr ops (Nat.succ i) rest::k) H (nD P (ia tmps) o.op)
    else wA P call ⟨fn,tmps,nt,td,defers,mode,up,round⟩ o (.jr ops (Nat.succ i) rest::k) H (nY P (ia tmps) H o.op)
   else qI ⟨fn,tmps,nt,td,defers,mode,up,round⟩ o (.jr ops (Nat.succ i) rest::k) .lz H):=by
  intro w;cases w with
  |none=>rfl
  |some b=>
   cases b with
   |true=>exact aoq P call _ H ops i o rest k
   |false=>exact ad9 ⟨fn,tmps,nt,td,defers,mode,up,round⟩ o _ _ _
 have hk:NS P call ⟨fn,tmps,nt,td,defers,mode,up,round⟩ H ops i o rest k=
  @Option.rec Bool (fun _=>ov) UW UX (kr ops o tmps.bV) P call ⟨fn,tmps,nt,td,defers,mode,up,round⟩ H ops i o rest k:=by
  unfold NS;cases hg:o.guard with
  |none=>
   have hw:kr ops o tmps.bV=some true:=by unfold kr;rw[hg]
   rw[hw];rfl
  |some g=>rfl
 rw[hk];exact key _
def av5:Nat->Tr AV->Nat->List b_->List ir->gX->Option gX->Option Nat->AH->List b_->eM:=
 fun fn tmps nt _ defers mode up round H k=>.go ⟨fn,tmps,nt,k,defers,mode,up,round⟩ H
def yq(fr:cN)(H:AH)(k:List b_):eM:= @cN.rec (fun _=>AH->List b_->eM) av5 fr H k
theorem Og(fr:cN)(H:AH)(k:List b_):yq fr H k=to fr H k:=by cases fr;rfl
abbrev yD:=Program->iu->cN->AH->List b_->eM
def Kf:yD:=fun _ _ fr H k=>yq fr H k
def aiR(_:Nat)(ops:Array Oper)(pK:Bool):yD:=
 @Bool.rec (fun _=>Array Oper->yD) (fun ops _ _ fr H k=>yq fr H (.jr ops 0 (Array.toList ops)::k)) (fun ops P call fr H k=>FC P call fr H ops true k) pK ops
def agJ(c:Code):yD:=
 @Code.rec (fun _=>yD)
  Kf
  aiR
  (fun a b _ _ _ _ fr H k=>yq fr H (.fG a::.fG b::k))
  (fun c FP Ds _ _ _ _ fr H k=>IT fr H FP Ds k (Gx (cN.o0 fr) c))
  (fun id body _ _ _ fr H k=>yq fr H (.fG body::.sT id::k))
  (fun body _ _ _ fr H k=>yq fr H (.fG body::.o3 body::k))
  (fun f params assign body _ _ P call fr H k=>IW P call fr H f params assign body k)
  (fun id _ _ fr H k=>IV fr H (.exit id) (y5 id k))
  (fun body _ _ _ fr H k=>yq fr H (.fG body::.rX body::k))
  (fun _=>Kf)
  (fun l _ _ fr H k=>IV fr H (.goto l) (AR l k))
  (fun _ _ fr H _=>qF fr H (some .ret))
  (fun _ _ _ _ _ _=>.dY "refuse")
  c
theorem avv(c:Code)(P:Program)(call:iu)(fr:cN)(H:AH)(k:List b_):agJ c P call fr H k=u_ P call fr H k c:=by
 cases c<;>first
  |exact Og _ _ _
  |(show IT _ _ _ _ _ _=_;rw[Kb];rfl)
  |rfl
  |skip
 case region id ops pK=>
  cases pK
  ·exact Og _ _ _
  ·rfl
def amI:Program->iu->cN->AH->Array Oper->Nat->List b_->eM:=fun _ _ fr H _ _ k=>yq fr H k
def amH(o:Oper)(rest:List Oper)(_:Program->iu->cN->AH->Array Oper->Nat->List b_->eM):Program->iu->cN->AH->Array Oper->Nat->List b_->eM:=
 fun P call fr H ops i k=>NS P call fr H ops i o rest k
def amG(ops:Array Oper)(i:Nat)(l:List Oper):yD:=fun P call fr H k=>
 @List.rec Oper (fun _=>Program->iu->cN->AH->Array Oper->Nat->List b_->eM) amI amH l P call fr H ops i k
def agM(x:b_):yD:=
 @b_.rec (fun _=>yD)
  agJ
  (fun _=>Kf)
  (fun body _ _ fr H k=>yq fr H (.fG body::.o3 body::k))
  (fun _=>Kf)
  (fun _ _ _ _ _ _=>.dY "inRangeFunc")
  (fun l _ _ fr H k=>IU fr H l k)
  (fun _ _ fr H k=>IS fr H k)
  amG
  x
theorem avw(x:b_)(P:Program)(call:iu)(fr:cN)(H:AH)(k:List b_):agM x P call fr H k=sJ P call fr H k x:=by
 cases x<;>first
  |exact avv _ _ _ _ _ _
  |exact Og _ _ _
  |rfl
  |skip
 case jr ops i l=>
  cases l with
  |nil=>exact Og _ _ _
  |cons o rest=>exact avA _ _ _ _ _ _ _ _ _
def ao7:Program->iu->cN->AH->eM:=fun _ _ fr H=>qF fr H none
def ao6(x:b_)(k:List b_)(_:Program->iu->cN->AH->eM):Program->iu->cN->AH->eM:=fun P call fr H=>agM x P call fr H k
def anw:Program->iu->cN->AH->eM:=fun P call fr H=>
 @List.rec b_ (fun _=>Program->iu->cN->AH->eM) ao7 ao6 (cN.Am fr) P call fr H
def anu:Program->iu->cN->AH->eM:=zX
def anv(_:qS):Program->iu->cN->AH->eM:=zX
def Wt(P:Program)(call:iu)(fr:cN)(H:AH):eM:=
 @gX.rec (fun _=>Program->iu->cN->AH->eM) anw anu anv (cN.lx fr) P call fr H
theorem avu(P:Program)(call:iu)(fr:cN)(H:AH):Wt P call fr H=jo P call fr H:=by
 obtain⟨fn,tmps,nt,td,defers,mode,up,round⟩:=fr;cases mode with
 |fy=>
  cases td with
  |nil=>rfl
  |cons x k=>exact avw x P call _ H k
 |o4=>rfl
 |nQ c=>rfl
abbrev wU:=cN->AH->Option fM
def afl(fr:cN)(H:AH):wU->Option fM:=fun c=>c fr H
def afj(r:fM):wU->Option fM:=fun _=>some r
def afn(_:String):wU->Option fM:=fun _=>none
def iO(_:Nat)(c:Program->qk->wU):Program->qk->wU:=fun P K fr H=>
 @eM.rec (fun _=>wU->Option fM) afl afj afn (Wt P ⟨c P K,K⟩ fr H) (c P K)
def Nz(n:Nat):Program->qk->wU:= @Nat.rec (fun _=>Program->qk->wU) (fun _ _ _ _=>none) iO n
theorem afk(P:Program)(K:qk):∀n,Nz n P K=ug P K n
 |0=>rfl
 |n+1=>by
  have ih:=afk P K n;funext fr H;show @eM.rec (fun _=>wU->Option fM) afl afj afn (Wt P ⟨Nz n P K,K⟩ fr H) (Nz n P K)=_;rw[avu,ih];show _=match jo P ⟨ug P K n,K⟩ fr H with
   |.go fr' H'=>ug P K n fr' H'
   |.wQ r=>some r
   |.dY _=>none
  cases jo P ⟨ug P K n,K⟩ fr H<;>rfl
def RA(P:Program)(K:qk)(n:Nat)(f:FuncId)(args:LV)(H:AH):Option fM:=(DE P f args none).bind fun fr=>Nz n P K fr H
theorem akh(P:Program)(K:qk)(n:Nat)(f:FuncId)(args:LV)(H:AH):RA P K n f args H=eval P K n f args H:=by unfold RA eval;rw[afk]
end
end Go.Ev
