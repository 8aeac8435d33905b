/- Part of a proof of ClauseCompiles. -/
import Derived.Test.YtanclcoobcaemaaGreatB12
import Derived.Test.YtanclcoobcaemaaGreatRows
import Derived.ProofKit
set_option linter.all false
set_option linter.unusedSectionVars false
namespace Go.Cl
open Go.Ev Go.Proofs
@[reducible] def qo (w:World):Ro:=⟨fun b=>w.heap[b]?⟩
section
variable[Ro]
theorem afz{α:Type}{Ok:α->Prop}(e:α->List AV)(sz:Nat)(fV:List Value):∀(len off:Nat),(∀i,i<len->∃x,Ok x∧bm gU (e x) ((fV.drop (off+i*sz)).take sz))->∃l:List α,l.length=len∧(∀x∈l,Ok x)∧bm gU (l.flatMap e) ((fV.drop off).take (len*sz))
 |0,off,_=>⟨[],rfl,(fun x hx=>by cases hx),by simp[bm]⟩
 |len+1,off,h=>by
  obtain⟨x,h1,h2⟩:=h 0 (by omega);obtain⟨l,h3,h4,h5⟩:=afz e sz fV len (off+sz) (fun i hi=>by
   obtain⟨y,q1,q2⟩:=h (i+1) (by omega);refine⟨y,q1,?_⟩;have:off+sz+i*sz=off+(i+1)*sz:=by rw[Nat.add_mul];omega
   rw[this];exact q2)
  refine⟨x::l,by simp[h3],fun y hy=>?_,?_⟩
  ·rcases List.mem_cons.1 hy with rfl|hy
   ·exact h1
   ·exact h4 y hy
  ·have e1:(len+1)*sz=sz+len*sz:=by rw[Nat.add_mul];omega
   rw[List.flatMap_cons,e1,List.take_add,List.drop_drop];rw[Nat.zero_mul,Nat.add_zero]at h2;exact bm.xW h2 h5
end
theorem Sl(l:List aK):bw l=l.flatMap dy:=by
 induction l with
 |nil=>rfl
 |cons t l ih=>rw[bw,List.flatMap_cons,ih]
theorem ajp(l:List iP):ck l=l.flatMap qM:=by
 induction l with
 |nil=>rfl
 |cons t l ih=>rw[ck,List.flatMap_cons,ih]
theorem NC:∀{l:List aK},(∀t∈l,eN t)->iS l
 |[],_=>trivial
 |t::l,h=>⟨h t (List.mem_cons_self ..),NC (fun x hx=>h x (List.mem_cons_of_mem _ hx))⟩
theorem aiJ{w:World}{a:Addr}{sz len:Nat}(cW:0<sz)(hl:0<len)(h:∀i,i<len->∃cs,w.cells? 0 (a.add (i*sz)) sz=some cs):
 ∃fV el fz,w.heap[a.block]? =some (.cells fV el fz)∧a.spot=none∧∀i,i<len->w.cells? 0 (a.add (i*sz)) sz=some ((fV.toList.drop (a.off+i*sz)).take sz)∧a.off+i*sz+sz<=fV.size:=by
 obtain⟨kT,h0⟩:=h 0 hl;obtain⟨_,l0,c0⟩:=World.cells?_some h0;have e0:=c0 0 cW;have ha0:(a.add (0*sz)).add 0=a:=by simp[Addr.add]
 rw[ha0]at e0;have r4:∃v,kT[0]? =some v:=⟨kT[0]'(by omega),by simp[l0,cW]⟩;obtain⟨v,hv⟩:=r4;rw[hv]at e0;have key:∃fV el fz,w.heap[a.block]? =some (.cells fV el fz)∧a.spot=none:=by
  unfold World.cell? at e0;split at e0
  ·rename_i c el fz hh;split at e0
   ·cases e0
   ·rename_i hs;exact⟨c,el,fz,hh,by simpa using hs⟩
  ·cases e0
 obtain⟨fV,el,fz,hh,hs⟩:=key;refine⟨fV,el,fz,hh,hs,fun i hi=>?_⟩;obtain⟨cs,hc⟩:=h i hi;obtain⟨_,l1,c1⟩:=World.cells?_some hc;have EN:∀j,j<sz->fV[a.off+i*sz+j]? =cs[j]? :=by
  intro j hj;rw[←c1 j hj];have hb:((a.add (i*sz)).add j).block=a.block:=by unfold Addr.add;split<;>split<;>rfl
  have ho:((a.add (i*sz)).add j).off=a.off+i*sz+j:=by unfold Addr.add;split<;>split<;>simp_all<;>omega
  have xg:((a.add (i*sz)).add j).spot=none:=by unfold Addr.add;split<;>split<;>simp_all
  unfold World.cell?;rw[hb,hh];simp only[xg,ho];rfl
 have alh:a.off+i*sz+sz<=fV.size:=by
  have:=EN (sz-1) (by omega);have al6:cs[sz-1]? =some (cs[sz-1]'(by omega)):=by simp
  rw[al6]at this;have:=(Array.getElem?_eq_some_iff.1 this).1;omega
 refine⟨?_,alh⟩;rw[hc];congr 1;apply List.ext_getElem?;intro j;by_cases hj:j<sz
 ·rw[List.getElem?_take,if_pos hj,List.getElem?_drop,←EN j hj];simp
 ·rw[List.getElem?_eq_none (by omega),List.getElem?_eq_none (by simp;omega)]
section
variable{H:Type}{enc:TypeId×Value->H}{w:World}{kI:Nat->Bool}{mJ:Bool}
theorem avM{α:Type}{Ok:α->Prop}(e:α->List AV)(sz:Nat)(cW:0<sz)(bH:∀x,(e x).length=sz){a:Addr}{len cap:Nat}(EM:len<=cap)
 (h:∀i,i<len->∃cs,w.cells? 0 (a.add (i*sz)) sz=some cs∧∃x,Ok x∧ @bm (qo w) gU (e x) cs):
 ∃l:List α,l.length=len∧(∀x∈l,Ok x)∧ @VR (qo w) gU (.aB (l.flatMap e) l.length sz) (.slice (some a) len cap):=by
 letI:=qo w
 by_cases h0:len=0
 ·subst h0;refine⟨[],rfl,(fun x hx=>by cases hx),?_⟩;exact⟨some a,cap,rfl,by simp,.inl rfl⟩
 ·obtain⟨fV,el,fz,h1,h2,h3⟩:=aiJ cW (by omega) (fun i hi=>(h i hi).imp fun cs hh=>hh.1);obtain⟨l,l1,l2,l3⟩:=afz e sz fV.toList len a.off (Ok:=Ok) (fun i hi=>by obtain⟨cs,q1,x,q2,q3⟩:=h i hi;rw[(h3 i hi).1]at q1;obtain rfl:=Option.some.inj q1;exact⟨x,q2,q3⟩);have jF:(l.flatMap e).length=l.length*sz:=by
   clear l1 l2 l3;induction l with
   |nil=>simp
   |cons x l ih=>rw[List.flatMap_cons,List.length_append,bH,ih,List.length_cons,Nat.add_mul];omega
  refine⟨l,l1,l2,?_⟩;obtain⟨b,x,sp⟩:=a;simp only at h2;subst h2;refine⟨some ⟨b,x,none⟩,cap,by rw[l1],jF,.inr ⟨b,x,fV,el,fz,rfl,by rw[l1];exact EM,h1,?_,?_⟩⟩
  ·rw[jF,l1];have:=(h3 (len-1) (by omega)).2;have e1:(len-1)*sz+sz=len*sz:=by
    have:len=(len-1)+1:=by omega
    rw[this,Nat.add_mul];simp
   simp only at this;omega
  ·rw[jF,l1];exact l3
theorem KQ:Tryz.prog.cellsOf 42=4:=by kernel_rfl
theorem aag:Tryz.prog.cellsOf 46=6:=by kernel_rfl
theorem aiI:Tryz.prog.cellsOf 27=5:=by kernel_rfl
theorem aaf:Tryz.prog.cellsOf 23=3:=by kernel_rfl
theorem RB:Tryz.prog.cellsOf 24=1:=by kernel_rfl
theorem aiH:Tryz.prog.cellsOf 25=1:=by kernel_rfl
theorem u_:Tryz.prog.cellsOf 2=1∧Tryz.prog.cellsOf 3=1∧Tryz.prog.cellsOf 9=1:=⟨by kernel_rfl,by kernel_rfl,by kernel_rfl⟩
end
section
variable{H:Type}{enc:TypeId×Value->H}{w:World}{kI:Nat->Bool}{mJ:Bool}
theorem NK{α:Type}{Ok:α->Prop}(e:α->List AV)(t el:TypeId)(sz:Nat)(cW:0<sz)(bH:∀x,(e x).length=sz)(ht:Tryz.prog.underlying t=some (.slice el))(hc:Tryz.prog.cellsOf el=sz){l5:Nat}{cs:List Value}{x:DataW H×List MemPlace}
 (ih:∀n,n<l5->∀cs x,DataW.trod enc Tryz.prog w 0 kI mJ n el cs=some x->∃t,Ok t∧ @bm (qo w) gU (e t) cs)
 (h:DataW.trod enc Tryz.prog w 0 kI mJ l5 t cs=some x):∃(l:List α) (v:Value),cs=[v]∧eQ l.length∧(∀x∈l,Ok x)∧ @VR (qo w) gU (.aB (l.flatMap e) l.length sz) v:=by
 letI:=qo w
 rcases DataW.trod_slice ht h with⟨rfl,_⟩|⟨a,len,cap,aaK,rest,n,hn,rfl,_,_,h1,h2,h3,h4,_,_⟩
 ·exact⟨[],_,rfl,by show 0<_;decide,(fun x hx=>by cases hx),none,0,rfl,by simp,.inl rfl⟩
 ·rw[hc]at h4;obtain⟨l,l1,l2,l3⟩:=avM (w:=w) (Ok:=Ok) (a:=a) (len:=len) (cap:=cap) e sz cW bH h1 (fun i hi=>by
   have:=h4 i hi;have hs:aaK[i]? =some (aaK[i]'(by omega)):=by simp
   rw[hs]at this;obtain⟨cs,q1,q2⟩:=Option.bind_eq_some_iff.1 this;exact⟨cs,q1,ih n (by omega) cs _ q2⟩)
  exact⟨l,_,rfl,by unfold eQ;unfold maxLen at h2;omega,l2,l3⟩
set_option maxRecDepth 1000000 in
theorem aet(l5:Nat):∀(cs:List Value) (x:DataW H×List MemPlace),DataW.trod enc Tryz.prog w 0 kI mJ l5 42 cs=some x->∃t,eN t∧ @bm (qo w) gU (dy t) cs:=by
 letI:=qo w
 induction l5 using Nat.strongRecOn with
 |_ l5 ih=>
  intro cs x h;obtain⟨xs,n,hn,_,hl,hx,hp⟩:=DataW.trod_struct Tryz.underlying42 h;rw[KQ]at hl;match cs,hl with
  |[c0,c1,c2,c3],_=>
   match xs,hx with
   |[y0,y1,y2,y3],_=>have p0:DataW.trod enc Tryz.prog w 0 kI mJ n 3 (([c0,c1,c2,c3].drop 0).take (Tryz.prog.cellsOf 3))=some y0:=hp 0 _ rfl;have p1:DataW.trod enc Tryz.prog w 0 kI mJ n 2 (([c0,c1,c2,c3].drop 1).take (Tryz.prog.cellsOf 2))=some y1:=hp 1 _ rfl;have p2:DataW.trod enc Tryz.prog w 0 kI mJ n 9 (([c0,c1,c2,c3].drop 2).take (Tryz.prog.cellsOf 9))=some y2:=hp 2 _ rfl;have p3:DataW.trod enc Tryz.prog w 0 kI mJ n 24 (([c0,c1,c2,c3].drop 3).take (Tryz.prog.cellsOf 24))=some y3:=hp 3 _ rfl;rw[u_.2.1]at p0;rw[u_.1]at p1;rw[u_.2.2]at p2;rw[RB]at p3;obtain⟨k,e0,_⟩:=DataW.trod_int Tryz.underlying3 p0;obtain⟨m,e1,_⟩:=DataW.trod_int Tryz.underlying2 p1;obtain⟨s,e2,_,hs⟩:=DataW.trod_string Tryz.underlying9 p2;obtain⟨l,v,e3,l1,l2,l3⟩:=NK (Ok:=eN) dy 24 42 4 (by decide) (fun t=>by cases t;rfl) Tryz.underlying24 KQ (fun q hq=>ih q (by omega)) p3;simp only[List.drop_zero,List.drop_succ_cons,List.take_succ_cons,List.take_zero,List.cons.injEq,and_true]at e0 e1 e2 e3;subst e0 e1 e2 e3;rw[←Sl]at l3;refine⟨.mk k m (gV s) l,⟨?_,l1,NC l2⟩,_,_,rfl,rfl,_,_,rfl,rfl,_,_,rfl,⟨s,rfl,rfl⟩,_,_,rfl,l3,rfl⟩;unfold eQ;unfold maxLen at hs;rw[uP];omega
set_option maxRecDepth 1000000 in
theorem aob(l5:Nat)(cs:List Value)(x:DataW H×List MemPlace)(h:DataW.trod enc Tryz.prog w 0 kI mJ l5 46 cs=some x):∃g,oK g∧ @bm (qo w) gU (qM g) cs:=by
 letI:=qo w
 obtain⟨xs,n,hn,_,hl,hx,hp⟩:=DataW.trod_struct Tryz.underlying46 h;rw[aag]at hl;match cs,hl with
 |[c0,c1,c2,c3,c4,c5],_=>
  match xs,hx with
  |[y0,y1,y2,y3],_=>
   have p0:DataW.trod enc Tryz.prog w 0 kI mJ n 3 (([c0,c1,c2,c3,c4,c5].drop 0).take (Tryz.prog.cellsOf 3))=some y0:=hp 0 _ rfl;have p1:DataW.trod enc Tryz.prog w 0 kI mJ n 23 (([c0,c1,c2,c3,c4,c5].drop 1).take (Tryz.prog.cellsOf 23))=some y1:=hp 1 _ rfl;have p2:DataW.trod enc Tryz.prog w 0 kI mJ n 24 (([c0,c1,c2,c3,c4,c5].drop 4).take (Tryz.prog.cellsOf 24))=some y2:=hp 2 _ rfl;have p3:DataW.trod enc Tryz.prog w 0 kI mJ n 2 (([c0,c1,c2,c3,c4,c5].drop 5).take (Tryz.prog.cellsOf 2))=some y3:=hp 3 _ rfl;rw[u_.2.1]at p0;rw[aaf]at p1;rw[RB]at p2;rw[u_.1]at p3;obtain⟨k,e0,_⟩:=DataW.trod_int Tryz.underlying3 p0;obtain⟨X4,n2,Uf,_,ki,Cc,xf⟩:=DataW.trod_struct Tryz.underlying23 p1;obtain⟨l,v,e4,l1,l2,l3⟩:=NK (Ok:=eN) dy 24 42 4 (by decide) (fun t=>by cases t;rfl) Tryz.underlying24 KQ (fun q hq=>aet q) p2;obtain⟨z,e5,_⟩:=DataW.trod_int Tryz.underlying2 p3;match X4,Cc with
   |[w0,w1,w2],_=>have r0:DataW.trod enc Tryz.prog w 0 kI mJ n2 9 (([c1,c2,c3].drop 0).take (Tryz.prog.cellsOf 9))=some w0:=xf 0 _ rfl;have r1:DataW.trod enc Tryz.prog w 0 kI mJ n2 3 (([c1,c2,c3].drop 1).take (Tryz.prog.cellsOf 3))=some w1:=xf 1 _ rfl;have r2:DataW.trod enc Tryz.prog w 0 kI mJ n2 2 (([c1,c2,c3].drop 2).take (Tryz.prog.cellsOf 2))=some w2:=xf 2 _ rfl;rw[u_.2.2]at r0;rw[u_.2.1]at r1;rw[u_.1]at r2;obtain⟨s,e1,_,hs⟩:=DataW.trod_string Tryz.underlying9 r0;obtain⟨ar,e2,_⟩:=DataW.trod_int Tryz.underlying3 r1;obtain⟨aM,e3,_⟩:=DataW.trod_int Tryz.underlying2 r2;simp only[List.drop_zero,List.drop_succ_cons,List.take_succ_cons,List.take_zero,List.cons.injEq,and_true]at e0 e1 e2 e3 e4 e5;subst e0 e1 e2 e3 e4 e5;rw[←Sl]at l3;refine⟨⟨k,⟨gV s,ar,aM⟩,l,z⟩,⟨?_,l1,NC l2⟩,_,_,rfl,rfl,_,_,rfl,⟨s,rfl,rfl⟩,_,_,rfl,rfl,_,_,rfl,rfl,_,_,rfl,l3,_,_,rfl,rfl,rfl⟩;unfold eQ;unfold maxLen at hs;rw[uP];omega
set_option maxRecDepth 1000000 in
theorem aoa(l5:Nat)(cs:List Value)(x:DataW H×List MemPlace)(h:DataW.trod enc Tryz.prog w 0 kI mJ l5 27 cs=some x):∃f,fL f∧ @bm (qo w) gU (dj f) cs:=by
 letI:=qo w
 obtain⟨xs,n,hn,_,hl,hx,hp⟩:=DataW.trod_struct Tryz.underlying27 h;rw[aiI]at hl;match cs,hl with
 |[c0,c1,c2,c3,c4],_=>
  match xs,hx with
  |[y0,y1,y2],_=>
   have p1:DataW.trod enc Tryz.prog w 0 kI mJ n 23 (([c0,c1,c2,c3,c4].drop 0).take (Tryz.prog.cellsOf 23))=some y0:=hp 0 _ rfl;have p2:DataW.trod enc Tryz.prog w 0 kI mJ n 24 (([c0,c1,c2,c3,c4].drop 3).take (Tryz.prog.cellsOf 24))=some y1:=hp 1 _ rfl;have p3:DataW.trod enc Tryz.prog w 0 kI mJ n 25 (([c0,c1,c2,c3,c4].drop 4).take (Tryz.prog.cellsOf 25))=some y2:=hp 2 _ rfl;rw[aaf]at p1;rw[RB]at p2;rw[aiH]at p3;obtain⟨X4,n2,Uf,_,ki,Cc,xf⟩:=DataW.trod_struct Tryz.underlying23 p1;obtain⟨l,v,e4,l1,l2,l3⟩:=NK (Ok:=eN) dy 24 42 4 (by decide) (fun t=>by cases t;rfl) Tryz.underlying24 KQ (fun q hq=>aet q) p2;obtain⟨gs,v2,e5,g1,g2,g3⟩:=NK (Ok:=oK) qM 25 46 6 (by decide) D0 Tryz.underlying25 aag (fun q hq=>aob q) p3;match X4,Cc with
   |[w0,w1,w2],_=>have r0:DataW.trod enc Tryz.prog w 0 kI mJ n2 9 (([c0,c1,c2].drop 0).take (Tryz.prog.cellsOf 9))=some w0:=xf 0 _ rfl;have r1:DataW.trod enc Tryz.prog w 0 kI mJ n2 3 (([c0,c1,c2].drop 1).take (Tryz.prog.cellsOf 3))=some w1:=xf 1 _ rfl;have r2:DataW.trod enc Tryz.prog w 0 kI mJ n2 2 (([c0,c1,c2].drop 2).take (Tryz.prog.cellsOf 2))=some w2:=xf 2 _ rfl;rw[u_.2.2]at r0;rw[u_.2.1]at r1;rw[u_.1]at r2;obtain⟨s,e1,_,hs⟩:=DataW.trod_string Tryz.underlying9 r0;obtain⟨ar,e2,_⟩:=DataW.trod_int Tryz.underlying3 r1;obtain⟨aM,e3,_⟩:=DataW.trod_int Tryz.underlying2 r2;simp only[List.drop_zero,List.drop_succ_cons,List.take_succ_cons,List.take_zero,List.cons.injEq,and_true]at e1 e2 e3 e4 e5;subst e1 e2 e3 e4 e5;rw[←Sl]at l3;rw[←ajp]at g3;refine⟨⟨⟨gV s,ar,aM⟩,l,gs⟩,⟨?_,l1,NC l2,g1,g2⟩,_,_,rfl,⟨s,rfl,rfl⟩,_,_,rfl,rfl,_,_,rfl,rfl,_,_,rfl,l3,_,_,rfl,g3,rfl⟩;unfold eQ;unfold maxLen at hs;rw[uP];omega
end
end Go.Cl
