/- Part of a proof of AreaLists. -/
import Derived.Test.YtjgjeokjclpjnaaGreatB9
import Derived.Test.YtjgjeokjclpjnaaGreatRows
import Derived.ProofKit
set_option linter.all false
set_option linter.unusedSectionVars false
namespace Go.Cl
open Go.Ev Go.Proofs
@[reducible] def xu (w:World):cj:=⟨λ_=>none,λb=>w.heap[b]?,λ_=>none⟩
section
theorem akN{φ}{α:Type}{Ok:α->Prop}(e sz)(eA:List Value):∀len off,(∀i,i<len->∃x,Ok x/\bp φ (e x) ((eA.drop (off+i*sz)).take sz))->∃l:List α,l.length=len/\(∀x∈l,Ok x)/\bp φ (l.flatMap e) ((eA.drop off).take (len*sz))
 |0,off,_=>⟨[],rfl,(λx hx=>by cases hx),by simp[bp]⟩
 |len+1,off,h=>by
  have⟨x,h1,h2⟩:=h 0 (by omega);obtain⟨l,h3,h4,h5⟩:=akN e sz eA len (off+sz) (λi hi=>by
   have⟨y,q1,q2⟩:=h (i+1) (by omega);refine⟨y,q1,?_⟩;have:off+sz+i*sz=off+(i+1)*sz:=by rw[Nat.add_mul];omega
   rw[this];exact q2)
  refine⟨x::l,by simp[h3],λy hy=>?_,?_⟩
  .rcases List.mem_cons.1 hy with rfl|hy
   .exact h1
   .exact h4 y hy
  .have e1:(len+1)*sz=sz+len*sz:=by rw[Nat.add_mul];omega
   rw[List.flatMap_cons,e1,List.take_add,List.drop_drop];rw[Nat.zero_mul,Nat.add_zero]at h2;exact bp.wi h2 h5
end
theorem aqp(l):aF l=l.flatMap aW:=by
 induction l with
 |nil=>rfl
 |cons t l ih=>rw[aF,List.flatMap_cons,ih]
theorem aqn(l):mr l=l.flatMap qW:=by
 induction l with
 |nil=>rfl
 |cons t l ih=>rw[mr,List.flatMap_cons,ih]
theorem aqj(l):fo l=l.flatMap zJ:=by
 induction l with
 |nil=>rfl
 |cons t l ih=>rw[fo,List.flatMap_cons,ih]
theorem ajL:∀{l},(∀t∈l,bL t)->fy l
 |[],_=>trivial
 |t::l,h=>⟨h t (List.mem_cons_self ..),ajL (λx hx=>h x (List.mem_cons_of_mem _ hx))⟩
theorem ao1{w:World}{a:Addr}{sz len}(cv:0<sz)(hl:0<len)(h:∀i,i<len->∃cs,w.cells? 0 (a.add (i*sz)) sz=some cs):
 ∃eA el fz,w.heap[a.block]? =some (.cells eA el fz)/\a.spot=none/\∀i,i<len->w.cells? 0 (a.add (i*sz)) sz=some ((eA.toList.drop (a.off+i*sz)).take sz)/\a.off+i*sz+sz<=eA.size:=by
 have⟨mq,h0⟩:=h 0 hl;have⟨_,l0,c0⟩:=World.cells?_some h0;have e0:=c0 0 cv;have ha0:(a.add (0*sz)).add 0=a:=by simp[Addr.add]
 rw[ha0]at e0;have zT:∃v,mq[0]? =some v:=⟨mq[0]'(by omega),by simp[l0,cv]⟩;have⟨v,hv⟩:=zT;rw[hv]at e0;have key:∃eA el fz,w.heap[a.block]? =some (.cells eA el fz)/\a.spot=none:=by
  unfold World.cell? at e0;split at e0;next c el fz hh=>
   split at e0
   .cases e0
   next hs=>exact⟨c,el,fz,hh,by simpa using hs⟩
  .cases e0
 have⟨eA,el,fz,hh,hs⟩:=key;refine⟨eA,el,fz,hh,hs,λi hi=>?_⟩;have⟨cs,hc⟩:=h i hi;have⟨_,l1,c1⟩:=World.cells?_some hc;have HK:∀j,j<sz->eA[a.off+i*sz+j]? =cs[j]? :=by
  intro j hj;rw[<-c1 j hj];have hb:((a.add (i*sz)).add j).block=a.block:=by unfold Addr.add;split<;>split<;>rfl
  have ho:((a.add (i*sz)).add j).off=a.off+i*sz+j:=by unfold Addr.add;split<;>split<;>simp_all<;>omega
  have hsp:((a.add (i*sz)).add j).spot=none:=by unfold Addr.add;split<;>split<;>simp_all
  unfold World.cell?;rw[hb,hh];simp only[hsp,ho];rfl
 have ar8:a.off+i*sz+sz<=eA.size:=by
  have:=HK (sz-1) (by omega);have asS:cs[sz-1]? =some (cs[sz-1]'(by omega)):=by simp
  rw[asS]at this;have:=(Array.getElem?_eq_some_iff.1 this).1;omega
 refine⟨?_,ar8⟩;rw[hc];congr 1;apply List.ext_getElem?;intro j;by_cases hj:j<sz
 .rw[List.getElem?_take,if_pos hj,List.getElem?_drop,<-HK j hj];simp
 .rw[List.getElem?_eq_none (by omega),List.getElem?_eq_none (by simp;omega)]
section
variable{H:Type}{enc:TypeId×Value->H}{w:World}{lF:Nat->Bool}{nU:Bool}
theorem aC7{α:Type}{Ok:α->Prop}(e sz)(cv:0<sz)(bS:∀x,(e x).length=sz){a len cap}(BG:len<=cap)(h:∀i,i<len->∃cs,w.cells? 0 (a.add (i*sz)) sz=some cs/\∃x,Ok x/\bp (xu w) (e x) cs):
 ∃l:List α,l.length=len/\(∀x∈l,Ok x)/\VR (xu w) (.ad (l.flatMap e) l.length sz) (.slice (some a) len cap):=by
 by_cases h0:len=0
 .subst h0;refine⟨[],rfl,(λx hx=>by cases hx),?_⟩;exact⟨some a,cap,rfl,by simp,.inl rfl⟩
 .have⟨eA,el,fz,h1,h2,h3⟩:=ao1 cv (by omega) (λi hi=>(h i hi).imp λcs hh=>hh.1);obtain⟨l,l1,l2,l3⟩:=akN e sz eA.toList len a.off (λi hi=>by have⟨cs,q1,x,q2,q3⟩:=h i hi;rw[(h3 i hi).1]at q1;obtain rfl:=Option.some.inj q1;exact⟨x,q2,q3⟩);have pP:(l.flatMap e).length=l.length*sz:=by
   clear l1 l2 l3;induction l with
   |nil=>simp
   |cons x l ih=>rw[List.flatMap_cons,List.length_append,bS,ih,List.length_cons,Nat.add_mul];omega
  refine⟨l,l1,l2,?_⟩;have⟨b,x,sp⟩:=a;subst h2;refine⟨some ⟨b,x,none⟩,cap,by rw[l1],pP,.inr ⟨b,x,eA,el,fz,rfl,by rw[l1];exact BG,h1,?_,?_⟩⟩
  .rw[pP,l1];have:=(h3 (len-1) (by omega)).2;have e1:(len-1)*sz+sz=len*sz:=by
    have:len=(len-1)+1:=by omega
    rw[this,Nat.add_mul];simp
   simp only at this;omega
  .rw[pP,l1];exact l3
theorem V8:Tryz.prog.cellsOf 49=4:=by kernel_rfl
theorem aoZ:Tryz.prog.cellsOf 47=1:=by kernel_rfl
theorem DI:Tryz.prog.cellsOf 2=1/\Tryz.prog.cellsOf 3=1/\Tryz.prog.cellsOf 9=1:=⟨by kernel_rfl,by kernel_rfl,by kernel_rfl⟩
theorem aoY:Tryz.prog.cellsOf 4=1:=by kernel_rfl
theorem aoV:Tryz.prog.cellsOf 22=1:=by kernel_rfl
theorem aoW:Tryz.prog.cellsOf 24=2:=by kernel_rfl
theorem aoX:Tryz.prog.cellsOf 32=1:=by kernel_rfl
theorem aes:Tryz.prog.cellsOf 34=4:=by kernel_rfl
theorem ao0:Tryz.prog.cellsOf 51=8:=by kernel_rfl
theorem aet:Tryz.prog.cellsOf 53=9:=by kernel_rfl
end
section
variable{H:Type}{enc:TypeId×Value->H}{w:World}{lF:Nat->Bool}{nU:Bool}
theorem aaj{α:Type}{Ok:α->Prop}(e t el sz)(cv:0<sz)(bS:∀x,(e x).length=sz)(ht:Tryz.prog.underlying t=some (.slice el))(hc:Tryz.prog.cellsOf el=sz){kM cs x}(ih:∀n,n<kM->∀cs x,DataW.trod enc Tryz.prog w 0 lF nU n el cs=some x->∃t,Ok t/\bp (xu w) (e t) cs)(h:DataW.trod enc Tryz.prog w 0 lF nU kM t cs=some x):∃(l:List α) (v:Value),cs=[v]/\dt l.length/\(∀x∈l,Ok x)/\VR (xu w) (.ad (l.flatMap e) l.length sz) v:=by
 rcases DataW.trod_slice ht h with⟨rfl,_⟩|⟨a,len,cap,afd,rest,n,hn,rfl,_,_,h1,h2,h3,h4,_,_⟩
 .exact⟨[],_,rfl,by show 0<_;decide,(λx hx=>by cases hx),none,0,rfl,by simp,.inl rfl⟩
 .rw[hc]at h4;have⟨l,l1,l2,l3⟩:=aC7 (w:=w) (Ok:=Ok) (a:=a) e sz cv bS h1 (λi hi=>by
   have:=h4 i hi;have hs:afd[i]? =some (afd[i]'(by omega)):=by simp
   rw[hs]at this;have⟨cs,q1,q2⟩:=Option.bind_eq_some_iff.1 this;exact⟨cs,q1,ih n (by omega) cs _ q2⟩)
  exact⟨l,_,rfl,by unfold dt;unfold maxLen at h2;omega,l2,l3⟩
set_option maxRecDepth 1000000 in
theorem ajQ(kM):∀cs x,DataW.trod enc Tryz.prog w 0 lF nU kM 49 cs=some x->∃t,bL t/\bp (xu w) (aW t) cs:=by
 induction kM using Nat.strongRecOn with
 |_ kM ih=>
  intro cs x h;have⟨xs,n,hn,_,hl,hx,hp⟩:=DataW.trod_struct Tryz.underlying49 h;rw[V8]at hl;match cs,hl with
  |[c0,c1,c2,c3],_=>
   match xs,hx with
   |[y0,y1,y2,y3],_=>have p0:DataW.trod enc Tryz.prog w 0 lF nU n 3 (([c0,c1,c2,c3].drop 0).take (Tryz.prog.cellsOf 3))=some y0:=hp 0 _ rfl;have p1:DataW.trod enc Tryz.prog w 0 lF nU n 2 (([c0,c1,c2,c3].drop 1).take (Tryz.prog.cellsOf 2))=some y1:=hp 1 _ rfl;have p2:DataW.trod enc Tryz.prog w 0 lF nU n 9 (([c0,c1,c2,c3].drop 2).take (Tryz.prog.cellsOf 9))=some y2:=hp 2 _ rfl;have p3:DataW.trod enc Tryz.prog w 0 lF nU n 47 (([c0,c1,c2,c3].drop 3).take (Tryz.prog.cellsOf 47))=some y3:=hp 3 _ rfl;rw[DI.2.1]at p0;rw[DI.1]at p1;rw[DI.2.2]at p2;rw[aoZ]at p3;have⟨k,e0,_⟩:=DataW.trod_int Tryz.underlying3 p0;have⟨m,e1,_⟩:=DataW.trod_int Tryz.underlying2 p1;have⟨s,e2,_,hs⟩:=DataW.trod_string Tryz.underlying9 p2;have⟨l,v,e3,l1,l2,l3⟩:=aaj aW 47 49 4 (by decide) (λt=>by cases t;rfl) Tryz.underlying47 V8 (λq hq=>ih q (by omega)) p3;simp at e0 e1 e2 e3;subst e0 e1 e2 e3;rw[<-aqp]at l3;refine⟨.mk k m (du s) l,⟨?_,l1,ajL l2⟩,_,_,rfl,rfl,_,_,rfl,rfl,_,_,rfl,⟨s,rfl,rfl⟩,_,_,rfl,l3,rfl⟩;unfold dt;unfold maxLen at hs;rw[y7];omega
set_option maxRecDepth 1000000 in
theorem avb(kM cs x)(h:DataW.trod enc Tryz.prog w 0 lF nU kM 53 cs=some x):∃s:ib,rm s.c/\bp (xu w) (qW s) cs:=by
 have⟨xs,n,hn,_,hl,hx,hp⟩:=DataW.trod_struct Tryz.underlying53 h;rw[aet]at hl;match cs,hl with
 |[c0,c1,c2,c3,c4,c5,c6,c7,c8],_=>
  match xs,hx with
  |[y0,y1],_=>
   have p0:DataW.trod enc Tryz.prog w 0 lF nU n 2 (([c0,c1,c2,c3,c4,c5,c6,c7,c8].drop 0).take (Tryz.prog.cellsOf 2))=some y0:=hp 0 _ rfl;have p1:DataW.trod enc Tryz.prog w 0 lF nU n 51 (([c0,c1,c2,c3,c4,c5,c6,c7,c8].drop 1).take (Tryz.prog.cellsOf 51))=some y1:=hp 1 _ rfl;rw[DI.1]at p0;rw[ao0]at p1;have⟨k,e0,_⟩:=DataW.trod_int Tryz.underlying2 p0;have⟨xs2,n2,BQ,_,h_,BW,EE⟩:=DataW.trod_struct Tryz.underlying51 p1;match xs2,BW with
   |[w0,w1],_=>have r0:DataW.trod enc Tryz.prog w 0 lF nU n2 49 (([c1,c2,c3,c4,c5,c6,c7,c8].drop 0).take (Tryz.prog.cellsOf 49))=some w0:=EE 0 _ rfl;have r1:DataW.trod enc Tryz.prog w 0 lF nU n2 49 (([c1,c2,c3,c4,c5,c6,c7,c8].drop 4).take (Tryz.prog.cellsOf 49))=some w1:=EE 1 _ rfl;rw[V8]at r0 r1;have⟨t,t1,t2⟩:=ajQ _ _ _ r0;have⟨u,u1,u2⟩:=ajQ _ _ _ r1;simp at e0 t2 u2;subst e0;exact⟨⟨k,t,u⟩,⟨t1,u1⟩,_,_,rfl,rfl,bp.wi t2 u2⟩
set_option maxRecDepth 1000000 in
theorem ava(kM cs x)(h:DataW.trod enc Tryz.prog w 0 lF nU kM 34 cs=some x):∃p:fu,RL p/\bp (xu w) (zJ p) cs:=by
 have⟨xs,n,hn,_,hl,hx,hp⟩:=DataW.trod_struct Tryz.underlying34 h;rw[aes]at hl;match cs,hl with
 |[c0,c1,c2,c3],_=>
  match xs,hx with
  |[y0,y1,y2,y3],_=>have p0:DataW.trod enc Tryz.prog w 0 lF nU n 9 (([c0,c1,c2,c3].drop 0).take (Tryz.prog.cellsOf 9))=some y0:=hp 0 _ rfl;have p1:DataW.trod enc Tryz.prog w 0 lF nU n 3 (([c0,c1,c2,c3].drop 1).take (Tryz.prog.cellsOf 3))=some y1:=hp 1 _ rfl;have p2:DataW.trod enc Tryz.prog w 0 lF nU n 4 (([c0,c1,c2,c3].drop 2).take (Tryz.prog.cellsOf 4))=some y2:=hp 2 _ rfl;have p3:DataW.trod enc Tryz.prog w 0 lF nU n 32 (([c0,c1,c2,c3].drop 3).take (Tryz.prog.cellsOf 32))=some y3:=hp 3 _ rfl;rw[DI.2.2]at p0;rw[DI.2.1]at p1;rw[aoY]at p2;rw[aoX]at p3;have⟨s,e0,_,hs⟩:=DataW.trod_string Tryz.underlying9 p0;have⟨m,e1,_⟩:=DataW.trod_int Tryz.underlying3 p1;have⟨b,e2,_⟩:=DataW.trod_bool Tryz.underlying4 p2;have⟨l,v,e3,l1,l2,l3⟩:=aaj qW 32 53 9 (by decide) Pv Tryz.underlying32 aet (λq _=>avb q) p3;simp at e0 e1 e2 e3;subst e0 e1 e2 e3;rw[<-aqn]at l3;refine⟨⟨du s,m,b,l⟩,⟨?_,l1,l2⟩,_,_,rfl,⟨s,rfl,rfl⟩,_,_,rfl,rfl,_,_,rfl,rfl,_,_,rfl,l3,rfl⟩;unfold dt;unfold maxLen at hs;rw[y7];omega
set_option maxRecDepth 1000000 in
theorem au9(kM cs x)(h:DataW.trod enc Tryz.prog w 0 lF nU kM 24 cs=some x):∃d,vG d/\bp (xu w) (lA d) cs:=by
 have⟨xs,n,hn,_,hl,hx,hp⟩:=DataW.trod_struct Tryz.underlying24 h;rw[aoW]at hl;match cs,hl with
 |[c0,c1],_=>
  match xs,hx with
  |[y0,y1],_=>have p0:DataW.trod enc Tryz.prog w 0 lF nU n 2 (([c0,c1].drop 0).take (Tryz.prog.cellsOf 2))=some y0:=hp 0 _ rfl;have p1:DataW.trod enc Tryz.prog w 0 lF nU n 22 (([c0,c1].drop 1).take (Tryz.prog.cellsOf 22))=some y1:=hp 1 _ rfl;rw[DI.1]at p0;rw[aoV]at p1;have⟨k,e0,_⟩:=DataW.trod_int Tryz.underlying2 p0;have⟨l,v,e1,l1,l2,l3⟩:=aaj zJ 22 34 4 (by decide) (λ_=>rfl) Tryz.underlying22 aes (λq _=>ava q) p1;simp at e0 e1;subst e0 e1;rw[<-aqj]at l3;exact⟨⟨k,l⟩,⟨l1,l2⟩,_,_,rfl,rfl,_,_,rfl,l3,rfl⟩
end
end Go.Cl
