/- Part of a proof of ClauseValid. -/
import Derived.Test.YtanclcoobcaemaaGreatVB10
import Derived.Test.YtanclcoobcaemaaGreatRows
import Derived.ProofKit
set_option linter.all false
set_option linter.unusedSectionVars false
namespace Go.Cl
open Go.Ev Go.Proofs
@[reducible] def wz (w:World):bf:=⟨fun _=>none,fun b=>w.heap[b]?⟩
section
theorem afi{φ:bf}{α:Type}{Ok:α->Prop}(e:α->List AV)(sz:Nat)(eC:List Value):∀(len off:Nat),(∀i,i<len->∃x,Ok x∧bc φ (e x) ((eC.drop (off+i*sz)).take sz))->∃l:List α,l.length=len∧(∀x∈l,Ok x)∧bc φ (l.flatMap e) ((eC.drop off).take (len*sz))
 |0,off,_=>⟨[],rfl,(fun x hx=>by cases hx),by simp[bc]⟩
 |len+1,off,h=>by
  obtain⟨x,h1,h2⟩:=h 0 (by omega);obtain⟨l,h3,h4,h5⟩:=afi e sz eC len (off+sz) (fun i hi=>by
   obtain⟨y,q1,q2⟩:=h (i+1) (by omega);refine⟨y,q1,?_⟩;have:off+sz+i*sz=off+(i+1)*sz:=by rw[Nat.add_mul];omega
   rw[this];exact q2)
  refine⟨x::l,by simp[h3],fun y hy=>?_,?_⟩
  ·rcases List.mem_cons.1 hy with rfl|hy
   ·exact h1
   ·exact h4 y hy
  ·have e1:(len+1)*sz=sz+len*sz:=by rw[Nat.add_mul];omega
   rw[List.flatMap_cons,e1,List.take_add,List.drop_drop];rw[Nat.zero_mul,Nat.add_zero]at h2;exact bc.wR h2 h5
end
theorem Rq(l:List aK):aP l=l.flatMap cR:=by
 induction l with
 |nil=>rfl
 |cons t l ih=>rw[aP,List.flatMap_cons,ih]
theorem ajP(l:List gH):bN l=l.flatMap qn:=by
 induction l with
 |nil=>rfl
 |cons t l ih=>rw[bN,List.flatMap_cons,ih]
theorem M4:∀{l:List aK},(∀t∈l,eR t)->gU l
 |[],_=>trivial
 |t::l,h=>⟨h t (List.mem_cons_self ..),M4 (fun x hx=>h x (List.mem_cons_of_mem _ hx))⟩
theorem aiZ{w:World}{a:Addr}{sz len:Nat}(cJ:0<sz)(hl:0<len)(h:∀i,i<len->∃cs,w.cells? 0 (a.add (i*sz)) sz=some cs):
 ∃eC el fz,w.heap[a.block]? =some (.cells eC el fz)∧a.spot=none∧∀i,i<len->w.cells? 0 (a.add (i*sz)) sz=some ((eC.toList.drop (a.off+i*sz)).take sz)∧a.off+i*sz+sz<=eC.size:=by
 obtain⟨kB,h0⟩:=h 0 hl;obtain⟨_,l0,c0⟩:=World.cells?_some h0;have e0:=c0 0 cJ;have ha0:(a.add (0*sz)).add 0=a:=by simp[Addr.add]
 rw[ha0]at e0;have xr:∃v,kB[0]? =some v:=⟨kB[0]'(by omega),by simp[l0,cJ]⟩;obtain⟨v,hv⟩:=xr;rw[hv]at e0;have key:∃eC el fz,w.heap[a.block]? =some (.cells eC el fz)∧a.spot=none:=by
  unfold World.cell? at e0;split at e0
  ·rename_i c el fz hh;split at e0
   ·cases e0
   ·rename_i hs;exact⟨c,el,fz,hh,by simpa using hs⟩
  ·cases e0
 obtain⟨eC,el,fz,hh,hs⟩:=key;refine⟨eC,el,fz,hh,hs,fun i hi=>?_⟩;obtain⟨cs,hc⟩:=h i hi;obtain⟨_,l1,c1⟩:=World.cells?_some hc;have Eh:∀j,j<sz->eC[a.off+i*sz+j]? =cs[j]? :=by
  intro j hj;rw[←c1 j hj];have hb:((a.add (i*sz)).add j).block=a.block:=by unfold Addr.add;split<;>split<;>rfl
  have ho:((a.add (i*sz)).add j).off=a.off+i*sz+j:=by unfold Addr.add;split<;>split<;>simp_all<;>omega
  have zm:((a.add (i*sz)).add j).spot=none:=by unfold Addr.add;split<;>split<;>simp_all
  unfold World.cell?;rw[hb,hh];simp only[zm,ho];rfl
 have alz:a.off+i*sz+sz<=eC.size:=by
  have:=Eh (sz-1) (by omega);have amo:cs[sz-1]? =some (cs[sz-1]'(by omega)):=by simp
  rw[amo]at this;have:=(Array.getElem?_eq_some_iff.1 this).1;omega
 refine⟨?_,alz⟩;rw[hc];congr 1;apply List.ext_getElem?;intro j;by_cases hj:j<sz
 ·rw[List.getElem?_take,if_pos hj,List.getElem?_drop,←Eh j hj];simp
 ·rw[List.getElem?_eq_none (by omega),List.getElem?_eq_none (by simp;omega)]
section
variable{H:Type}{enc:TypeId×Value->H}{w:World}{kp:Nat->Bool}{l5:Bool}
theorem awl{α:Type}{Ok:α->Prop}(e:α->List AV)(sz:Nat)(cJ:0<sz)(bF:∀x,(e x).length=sz){a:Addr}{len cap:Nat}(Eg:len<=cap)
 (h:∀i,i<len->∃cs,w.cells? 0 (a.add (i*sz)) sz=some cs∧∃x,Ok x∧bc (wz w) (e x) cs):
 ∃l:List α,l.length=len∧(∀x∈l,Ok x)∧VR (wz w) (.ax (l.flatMap e) l.length sz) (.slice (some a) len cap):=by
 by_cases h0:len=0
 ·subst h0;refine⟨[],rfl,(fun x hx=>by cases hx),?_⟩;exact⟨some a,cap,rfl,by simp,.inl rfl⟩
 ·obtain⟨eC,el,fz,h1,h2,h3⟩:=aiZ cJ (by omega) (fun i hi=>(h i hi).imp fun cs hh=>hh.1);obtain⟨l,l1,l2,l3⟩:=afi e sz eC.toList len a.off (Ok:=Ok) (fun i hi=>by obtain⟨cs,q1,x,q2,q3⟩:=h i hi;rw[(h3 i hi).1]at q1;obtain rfl:=Option.some.inj q1;exact⟨x,q2,q3⟩);have rk:(l.flatMap e).length=l.length*sz:=by
   clear l1 l2 l3;induction l with
   |nil=>simp
   |cons x l ih=>rw[List.flatMap_cons,List.length_append,bF,ih,List.length_cons,Nat.add_mul];omega
  refine⟨l,l1,l2,?_⟩;obtain⟨b,x,sp⟩:=a;simp only at h2;subst h2;refine⟨some ⟨b,x,none⟩,cap,by rw[l1],rk,.inr ⟨b,x,eC,el,fz,rfl,by rw[l1];exact Eg,h1,?_,?_⟩⟩
  ·rw[rk,l1];have:=(h3 (len-1) (by omega)).2;have e1:(len-1)*sz+sz=len*sz:=by
    have:len=(len-1)+1:=by omega
    rw[this,Nat.add_mul];simp
   simp only at this;omega
  ·rw[rk,l1];exact l3
theorem Ki:Tryz.prog.cellsOf 42=4:=by kernel_rfl
theorem ZH:Tryz.prog.cellsOf 46=6:=by kernel_rfl
theorem aiY:Tryz.prog.cellsOf 27=5:=by kernel_rfl
theorem ZG:Tryz.prog.cellsOf 23=3:=by kernel_rfl
theorem QO:Tryz.prog.cellsOf 24=1:=by kernel_rfl
theorem aiX:Tryz.prog.cellsOf 25=1:=by kernel_rfl
theorem uv:Tryz.prog.cellsOf 2=1∧Tryz.prog.cellsOf 3=1∧Tryz.prog.cellsOf 9=1:=⟨by kernel_rfl,by kernel_rfl,by kernel_rfl⟩
end
section
variable{H:Type}{enc:TypeId×Value->H}{w:World}{kp:Nat->Bool}{l5:Bool}
theorem M'{α:Type}{Ok:α->Prop}(e:α->List AV)(t el:TypeId)(sz:Nat)(cJ:0<sz)(bF:∀x,(e x).length=sz)(ht:Tryz.prog.underlying t=some (.slice el))(hc:Tryz.prog.cellsOf el=sz){lF:Nat}{cs:List Value}{x:DataW H×List MemPlace}
 (ih:∀n,n<lF->∀cs x,DataW.trod enc Tryz.prog w 0 kp l5 n el cs=some x->∃t,Ok t∧bc (wz w) (e t) cs)
 (h:DataW.trod enc Tryz.prog w 0 kp l5 lF t cs=some x):∃(l:List α) (v:Value),cs=[v]∧eF l.length∧(∀x∈l,Ok x)∧VR (wz w) (.ax (l.flatMap e) l.length sz) v:=by
 rcases DataW.trod_slice ht h with⟨rfl,_⟩|⟨a,len,cap,aac,rest,n,hn,rfl,_,_,h1,h2,h3,h4,_,_⟩
 ·exact⟨[],_,rfl,by show 0<_;decide,(fun x hx=>by cases hx),none,0,rfl,by simp,.inl rfl⟩
 ·rw[hc]at h4;obtain⟨l,l1,l2,l3⟩:=awl (w:=w) (Ok:=Ok) (a:=a) (len:=len) (cap:=cap) e sz cJ bF h1 (fun i hi=>by
   have:=h4 i hi;have hs:aac[i]? =some (aac[i]'(by omega)):=by simp
   rw[hs]at this;obtain⟨cs,q1,q2⟩:=Option.bind_eq_some_iff.1 this;exact⟨cs,q1,ih n (by omega) cs _ q2⟩)
  exact⟨l,_,rfl,by unfold eF;unfold maxLen at h2;omega,l2,l3⟩
set_option maxRecDepth 1000000 in
theorem aef(lF:Nat):∀(cs:List Value) (x:DataW H×List MemPlace),DataW.trod enc Tryz.prog w 0 kp l5 lF 42 cs=some x->∃t,eR t∧bc (wz w) (cR t) cs:=by
 induction lF using Nat.strongRecOn with
 |_ lF ih=>
  intro cs x h;obtain⟨xs,n,hn,_,hl,hx,hp⟩:=DataW.trod_struct Tryz.underlying42 h;rw[Ki]at hl;match cs,hl with
  |[c0,c1,c2,c3],_=>
   match xs,hx with
   |[y0,y1,y2,y3],_=>have p0:DataW.trod enc Tryz.prog w 0 kp l5 n 3 (([c0,c1,c2,c3].drop 0).take (Tryz.prog.cellsOf 3))=some y0:=hp 0 _ rfl;have p1:DataW.trod enc Tryz.prog w 0 kp l5 n 2 (([c0,c1,c2,c3].drop 1).take (Tryz.prog.cellsOf 2))=some y1:=hp 1 _ rfl;have p2:DataW.trod enc Tryz.prog w 0 kp l5 n 9 (([c0,c1,c2,c3].drop 2).take (Tryz.prog.cellsOf 9))=some y2:=hp 2 _ rfl;have p3:DataW.trod enc Tryz.prog w 0 kp l5 n 24 (([c0,c1,c2,c3].drop 3).take (Tryz.prog.cellsOf 24))=some y3:=hp 3 _ rfl;rw[uv.2.1]at p0;rw[uv.1]at p1;rw[uv.2.2]at p2;rw[QO]at p3;obtain⟨k,e0,_⟩:=DataW.trod_int Tryz.underlying3 p0;obtain⟨m,e1,_⟩:=DataW.trod_int Tryz.underlying2 p1;obtain⟨s,e2,_,hs⟩:=DataW.trod_string Tryz.underlying9 p2;obtain⟨l,v,e3,l1,l2,l3⟩:=M' (Ok:=eR) cR 24 42 4 (by decide) (fun t=>by cases t;rfl) Tryz.underlying24 Ki (fun q hq=>ih q (by omega)) p3;simp only[List.drop_zero,List.drop_succ_cons,List.take_succ_cons,List.take_zero,List.cons.injEq,and_true]at e0 e1 e2 e3;subst e0 e1 e2 e3;rw[←Rq]at l3;refine⟨.mk k m (fo s) l,⟨?_,l1,M4 l2⟩,_,_,rfl,rfl,_,_,rfl,rfl,_,_,rfl,⟨s,rfl,rfl⟩,_,_,rfl,l3,rfl⟩;unfold eF;unfold maxLen at hs;rw[tS];omega
set_option maxRecDepth 1000000 in
theorem aot(lF:Nat)(cs:List Value)(x:DataW H×List MemPlace)(h:DataW.trod enc Tryz.prog w 0 kp l5 lF 46 cs=some x):∃g,nF g∧bc (wz w) (qn g) cs:=by
 obtain⟨xs,n,hn,_,hl,hx,hp⟩:=DataW.trod_struct Tryz.underlying46 h;rw[ZH]at hl;match cs,hl with
 |[c0,c1,c2,c3,c4,c5],_=>
  match xs,hx with
  |[y0,y1,y2,y3],_=>
   have p0:DataW.trod enc Tryz.prog w 0 kp l5 n 3 (([c0,c1,c2,c3,c4,c5].drop 0).take (Tryz.prog.cellsOf 3))=some y0:=hp 0 _ rfl;have p1:DataW.trod enc Tryz.prog w 0 kp l5 n 23 (([c0,c1,c2,c3,c4,c5].drop 1).take (Tryz.prog.cellsOf 23))=some y1:=hp 1 _ rfl;have p2:DataW.trod enc Tryz.prog w 0 kp l5 n 24 (([c0,c1,c2,c3,c4,c5].drop 4).take (Tryz.prog.cellsOf 24))=some y2:=hp 2 _ rfl;have p3:DataW.trod enc Tryz.prog w 0 kp l5 n 2 (([c0,c1,c2,c3,c4,c5].drop 5).take (Tryz.prog.cellsOf 2))=some y3:=hp 3 _ rfl;rw[uv.2.1]at p0;rw[ZG]at p1;rw[QO]at p2;rw[uv.1]at p3;obtain⟨k,e0,_⟩:=DataW.trod_int Tryz.underlying3 p0;obtain⟨Xk,n2,S_,_,jy,xL,uU⟩:=DataW.trod_struct Tryz.underlying23 p1;obtain⟨l,v,e4,l1,l2,l3⟩:=M' (Ok:=eR) cR 24 42 4 (by decide) (fun t=>by cases t;rfl) Tryz.underlying24 Ki (fun q hq=>aef q) p2;obtain⟨z,e5,_⟩:=DataW.trod_int Tryz.underlying2 p3;match Xk,xL with
   |[w0,w1,w2],_=>have r0:DataW.trod enc Tryz.prog w 0 kp l5 n2 9 (([c1,c2,c3].drop 0).take (Tryz.prog.cellsOf 9))=some w0:=uU 0 _ rfl;have r1:DataW.trod enc Tryz.prog w 0 kp l5 n2 3 (([c1,c2,c3].drop 1).take (Tryz.prog.cellsOf 3))=some w1:=uU 1 _ rfl;have r2:DataW.trod enc Tryz.prog w 0 kp l5 n2 2 (([c1,c2,c3].drop 2).take (Tryz.prog.cellsOf 2))=some w2:=uU 2 _ rfl;rw[uv.2.2]at r0;rw[uv.2.1]at r1;rw[uv.1]at r2;obtain⟨s,e1,_,hs⟩:=DataW.trod_string Tryz.underlying9 r0;obtain⟨ar,e2,_⟩:=DataW.trod_int Tryz.underlying3 r1;obtain⟨aC,e3,_⟩:=DataW.trod_int Tryz.underlying2 r2;simp only[List.drop_zero,List.drop_succ_cons,List.take_succ_cons,List.take_zero,List.cons.injEq,and_true]at e0 e1 e2 e3 e4 e5;subst e0 e1 e2 e3 e4 e5;rw[←Rq]at l3;refine⟨⟨k,⟨fo s,ar,aC⟩,l,z⟩,⟨?_,l1,M4 l2⟩,_,_,rfl,rfl,_,_,rfl,⟨s,rfl,rfl⟩,_,_,rfl,rfl,_,_,rfl,rfl,_,_,rfl,l3,_,_,rfl,rfl,rfl⟩;unfold eF;unfold maxLen at hs;rw[tS];omega
set_option maxRecDepth 1000000 in
theorem aos(lF:Nat)(cs:List Value)(x:DataW H×List MemPlace)(h:DataW.trod enc Tryz.prog w 0 kp l5 lF 27 cs=some x):∃f,hJ f∧bc (wz w) (ft f) cs:=by
 obtain⟨xs,n,hn,_,hl,hx,hp⟩:=DataW.trod_struct Tryz.underlying27 h;rw[aiY]at hl;match cs,hl with
 |[c0,c1,c2,c3,c4],_=>
  match xs,hx with
  |[y0,y1,y2],_=>
   have p1:DataW.trod enc Tryz.prog w 0 kp l5 n 23 (([c0,c1,c2,c3,c4].drop 0).take (Tryz.prog.cellsOf 23))=some y0:=hp 0 _ rfl;have p2:DataW.trod enc Tryz.prog w 0 kp l5 n 24 (([c0,c1,c2,c3,c4].drop 3).take (Tryz.prog.cellsOf 24))=some y1:=hp 1 _ rfl;have p3:DataW.trod enc Tryz.prog w 0 kp l5 n 25 (([c0,c1,c2,c3,c4].drop 4).take (Tryz.prog.cellsOf 25))=some y2:=hp 2 _ rfl;rw[ZG]at p1;rw[QO]at p2;rw[aiX]at p3;obtain⟨Xk,n2,S_,_,jy,xL,uU⟩:=DataW.trod_struct Tryz.underlying23 p1;obtain⟨l,v,e4,l1,l2,l3⟩:=M' (Ok:=eR) cR 24 42 4 (by decide) (fun t=>by cases t;rfl) Tryz.underlying24 Ki (fun q hq=>aef q) p2;obtain⟨gs,v2,e5,g1,g2,g3⟩:=M' (Ok:=nF) qn 25 46 6 (by decide) Dx Tryz.underlying25 ZH (fun q hq=>aot q) p3;match Xk,xL with
   |[w0,w1,w2],_=>have r0:DataW.trod enc Tryz.prog w 0 kp l5 n2 9 (([c0,c1,c2].drop 0).take (Tryz.prog.cellsOf 9))=some w0:=uU 0 _ rfl;have r1:DataW.trod enc Tryz.prog w 0 kp l5 n2 3 (([c0,c1,c2].drop 1).take (Tryz.prog.cellsOf 3))=some w1:=uU 1 _ rfl;have r2:DataW.trod enc Tryz.prog w 0 kp l5 n2 2 (([c0,c1,c2].drop 2).take (Tryz.prog.cellsOf 2))=some w2:=uU 2 _ rfl;rw[uv.2.2]at r0;rw[uv.2.1]at r1;rw[uv.1]at r2;obtain⟨s,e1,_,hs⟩:=DataW.trod_string Tryz.underlying9 r0;obtain⟨ar,e2,_⟩:=DataW.trod_int Tryz.underlying3 r1;obtain⟨aC,e3,_⟩:=DataW.trod_int Tryz.underlying2 r2;simp only[List.drop_zero,List.drop_succ_cons,List.take_succ_cons,List.take_zero,List.cons.injEq,and_true]at e1 e2 e3 e4 e5;subst e1 e2 e3 e4 e5;rw[←Rq]at l3;rw[←ajP]at g3;refine⟨⟨⟨fo s,ar,aC⟩,l,gs⟩,⟨?_,l1,M4 l2,g1,g2⟩,_,_,rfl,⟨s,rfl,rfl⟩,_,_,rfl,rfl,_,_,rfl,rfl,_,_,rfl,l3,_,_,rfl,g3,rfl⟩;unfold eF;unfold maxLen at hs;rw[tS];omega
end
end Go.Cl
