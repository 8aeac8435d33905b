/- Part of a proof of AreaGoals. -/
import Derived.Test.YtjgjeokjclpjnaaGreatGB5
import Derived.Test.YtjgjeokjclpjnaaGreatRows
import Derived.ProofKit
set_option linter.all false
set_option linter.unusedSectionVars false
namespace Go.Cl
open Go.Ev Go.Proofs
@[reducible] def yn (w:World):cn:=⟨λ_=>none,λb=>w.heap[b]?,λ_=>none⟩
section
theorem amL{φ}{α:Type}{Ok:α->Prop}(e sz)(eK:List Value):∀len off,(∀i,i<len->∃x,Ok x/\br φ (e x) ((eK.drop (off+i*sz)).take sz))->∃l:List α,l.length=len/\(∀x∈l,Ok x)/\br φ (l.flatMap e) ((eK.drop off).take (len*sz))
 |0,off,_=>⟨[],rfl,(λx hx=>by cases hx),by simp[br]⟩
 |len+1,off,h=>by
  have⟨x,h1,h2⟩:=h 0 (by omega);obtain⟨l,h3,h4,h5⟩:=amL e sz eK len (off+sz) (λi hi=>by
   have⟨y,q1,q2⟩:=h (i+1) (by omega);refine⟨y,q1,?_⟩;have:off+sz+i*sz=off+(i+1)*sz:=by rw[Nat.add_mul];omega
   rw[this];exact q2)
  refine⟨x::l,by simp[h3],λy hy=>?_,?_⟩
  .rcases List.mem_cons.1 hy with rfl|hy
   .exact h1
   .exact h4 y hy
  .have e1:(len+1)*sz=sz+len*sz:=by rw[Nat.add_mul];omega
   rw[List.flatMap_cons,e1,List.take_add,List.drop_drop];rw[Nat.zero_mul,Nat.add_zero]at h2;exact br.xf h2 h5
end
theorem asP(l):aH l=l.flatMap aU:=by
 induction l with
 |nil=>rfl
 |cons t l ih=>rw[aH,List.flatMap_cons,ih]
theorem asN(l):oj l=l.flatMap rG:=by
 induction l with
 |nil=>rfl
 |cons t l ih=>rw[oj,List.flatMap_cons,ih]
theorem asJ(l):fW l=l.flatMap AI:=by
 induction l with
 |nil=>rfl
 |cons t l ih=>rw[fW,List.flatMap_cons,ih]
theorem alL:∀{l},(∀t∈l,bB t)->fK l
 |[],_=>trivial
 |t::l,h=>⟨h t (List.mem_cons_self ..),alL (λx hx=>h x (List.mem_cons_of_mem _ hx))⟩
theorem ari{w:World}{a:Addr}{sz len}(cx:0<sz)(hl:0<len)(h:∀i,i<len->∃cs,w.cells? 0 (a.add (i*sz)) sz=some cs):
 ∃eK el fz,w.heap[a.block]? =some (.cells eK el fz)/\a.spot=none/\∀i,i<len->w.cells? 0 (a.add (i*sz)) sz=some ((eK.toList.drop (a.off+i*sz)).take sz)/\a.off+i*sz+sz<=eK.size:=by
 have⟨mM,h0⟩:=h 0 hl;have⟨_,l0,c0⟩:=World.cells?_some h0;have e0:=c0 0 cx;have RJ:(a.add (0*sz)).add 0=a:=by simp[Addr.add]
 rw[RJ]at e0;have AU:∃v,mM[0]? =some v:=⟨mM[0]'(by omega),by simp[l0,cx]⟩;have⟨v,hv⟩:=AU;rw[hv]at e0;have key:∃eK el fz,w.heap[a.block]? =some (.cells eK el fz)/\a.spot=none:=by
  unfold World.cell? at e0;split at e0;next c el fz hh=>
   split at e0
   .cases e0
   next hs=>exact⟨c,el,fz,hh,by simpa using hs⟩
  .cases e0
 have⟨eK,el,fz,hh,hs⟩:=key;refine⟨eK,el,fz,hh,hs,λi hi=>?_⟩;have⟨cs,hc⟩:=h i hi;have⟨_,l1,c1⟩:=World.cells?_some hc;have IQ:∀j,j<sz->eK[a.off+i*sz+j]? =cs[j]? :=by
  intro j hj;rw[<-c1 j hj];have hb:((a.add (i*sz)).add j).block=a.block:=by unfold Addr.add;split<;>split<;>rfl
  have ho:((a.add (i*sz)).add j).off=a.off+i*sz+j:=by unfold Addr.add;split<;>split<;>simp_all<;>omega
  have hsp:((a.add (i*sz)).add j).spot=none:=by unfold Addr.add;split<;>split<;>simp_all
  unfold World.cell?;rw[hb,hh];simp only[hsp,ho];rfl
 have auG:a.off+i*sz+sz<=eK.size:=by
  have:=IQ (sz-1) (by omega);have avs:cs[sz-1]? =some (cs[sz-1]'(by omega)):=by simp
  rw[avs]at this;have:=(Array.getElem?_eq_some_iff.1 this).1;omega
 refine⟨?_,auG⟩;rw[hc];congr 1;apply List.ext_getElem?;intro j;by_cases hj:j<sz
 .rw[List.getElem?_take,if_pos hj,List.getElem?_drop,<-IQ j hj];simp
 .rw[List.getElem?_eq_none (by omega),List.getElem?_eq_none (by simp;omega)]
section
variable{H:Type}{enc:TypeId×Value->H}{w:World}{lZ:Nat->Bool}{oq:Bool}
theorem aF0{α:Type}{Ok:α->Prop}(e sz)(cx:0<sz)(bS:∀x,(e x).length=sz){a len cap}(CH:len<=cap)(h:∀i,i<len->∃cs,w.cells? 0 (a.add (i*sz)) sz=some cs/\∃x,Ok x/\br (yn w) (e x) cs):
 ∃l:List α,l.length=len/\(∀x∈l,Ok x)/\VR (yn w) (.ah (l.flatMap e) l.length sz) (.slice (some a) len cap):=by
 by_cases h0:len=0
 .subst h0;refine⟨[],rfl,(λx hx=>by cases hx),?_⟩;exact⟨some a,cap,rfl,by simp,.inl rfl⟩
 .have⟨eK,el,fz,h1,h2,h3⟩:=ari cx (by omega) (λi hi=>(h i hi).imp λcs hh=>hh.1);obtain⟨l,l1,l2,l3⟩:=amL e sz eK.toList len a.off (λi hi=>by have⟨cs,q1,x,q2,q3⟩:=h i hi;rw[(h3 i hi).1]at q1;obtain rfl:=Option.some.inj q1;exact⟨x,q2,q3⟩);have kN:(l.flatMap e).length=l.length*sz:=by
   clear l1 l2 l3;induction l with
   |nil=>simp
   |cons x l ih=>rw[List.flatMap_cons,List.length_append,bS,ih,List.length_cons,Nat.add_mul];omega
  refine⟨l,l1,l2,?_⟩;have⟨b,x,sp⟩:=a;subst h2;refine⟨some ⟨b,x,none⟩,cap,by rw[l1],kN,.inr ⟨b,x,eK,el,fz,rfl,by rw[l1];exact CH,h1,?_,?_⟩⟩
  .rw[kN,l1];have:=(h3 (len-1) (by omega)).2;have e1:(len-1)*sz+sz=len*sz:=by
    have:len=(len-1)+1:=by omega
    rw[this,Nat.add_mul];simp
   simp only at this;omega
  .rw[kN,l1];exact l3
theorem Yc:Tryz.prog.cellsOf 49=4:=by kernel_rfl
theorem arf:Tryz.prog.cellsOf 47=1:=by kernel_rfl
theorem EL:Tryz.prog.cellsOf 2=1/\Tryz.prog.cellsOf 3=1/\Tryz.prog.cellsOf 9=1:=⟨by kernel_rfl,by kernel_rfl,by kernel_rfl⟩
theorem are:Tryz.prog.cellsOf 4=1:=by kernel_rfl
theorem arb:Tryz.prog.cellsOf 22=1:=by kernel_rfl
theorem arc:Tryz.prog.cellsOf 24=2:=by kernel_rfl
theorem ard:Tryz.prog.cellsOf 32=1:=by kernel_rfl
theorem agh:Tryz.prog.cellsOf 34=4:=by kernel_rfl
theorem arh:Tryz.prog.cellsOf 51=8:=by kernel_rfl
theorem agi:Tryz.prog.cellsOf 53=9:=by kernel_rfl
end
section
variable{H:Type}{enc:TypeId×Value->H}{w:World}{lZ:Nat->Bool}{oq:Bool}
theorem abO{α:Type}{Ok:α->Prop}(e t el sz)(cx:0<sz)(bS:∀x,(e x).length=sz)(ht:Tryz.prog.underlying t=some (.slice el))(hc:Tryz.prog.cellsOf el=sz){k9 cs x}(ih:∀n,n<k9->∀cs x,DataW.trod enc Tryz.prog w 0 lZ oq n el cs=some x->∃t,Ok t/\br (yn w) (e t) cs)(h:DataW.trod enc Tryz.prog w 0 lZ oq k9 t cs=some x):∃(l:List α) (v:Value),cs=[v]/\dk l.length/\(∀x∈l,Ok x)/\VR (yn w) (.ah (l.flatMap e) l.length sz) v:=by
 rcases DataW.trod_slice ht h with⟨rfl,_⟩|⟨a,len,cap,ag2,rest,n,hn,rfl,_,_,h1,h2,h3,h4,_,_⟩
 .exact⟨[],_,rfl,by show 0<_;decide,(λx hx=>by cases hx),none,0,rfl,by simp,.inl rfl⟩
 .rw[hc]at h4;have⟨l,l1,l2,l3⟩:=aF0 (w:=w) (Ok:=Ok) (a:=a) e sz cx bS h1 (λi hi=>by
   have:=h4 i hi;have hs:ag2[i]? =some (ag2[i]'(by omega)):=by simp
   rw[hs]at this;have⟨cs,q1,q2⟩:=Option.bind_eq_some_iff.1 this;exact⟨cs,q1,ih n (by omega) cs _ q2⟩)
  exact⟨l,_,rfl,by unfold dk;unfold maxLen at h2;omega,l2,l3⟩
set_option maxRecDepth 1000000 in
theorem abP(k9):∀cs x,DataW.trod enc Tryz.prog w 0 lZ oq k9 49 cs=some x->∃t,bB t/\br (yn w) (aU t) cs:=by
 induction k9 using Nat.strongRecOn with
 |_ k9 ih=>
  intro cs x h;have⟨xs,n,hn,_,hl,hx,hp⟩:=DataW.trod_struct Tryz.underlying49 h;rw[Yc]at hl;match cs,hl with
  |[c0,c1,c2,c3],_=>
   match xs,hx with
   |[y0,y1,y2,y3],_=>have p0:DataW.trod enc Tryz.prog w 0 lZ oq n 3 (([c0,c1,c2,c3].drop 0).take (Tryz.prog.cellsOf 3))=some y0:=hp 0 _ rfl;have p1:DataW.trod enc Tryz.prog w 0 lZ oq n 2 (([c0,c1,c2,c3].drop 1).take (Tryz.prog.cellsOf 2))=some y1:=hp 1 _ rfl;have p2:DataW.trod enc Tryz.prog w 0 lZ oq n 9 (([c0,c1,c2,c3].drop 2).take (Tryz.prog.cellsOf 9))=some y2:=hp 2 _ rfl;have p3:DataW.trod enc Tryz.prog w 0 lZ oq n 47 (([c0,c1,c2,c3].drop 3).take (Tryz.prog.cellsOf 47))=some y3:=hp 3 _ rfl;rw[EL.2.1]at p0;rw[EL.1]at p1;rw[EL.2.2]at p2;rw[arf]at p3;have⟨k,e0,_⟩:=DataW.trod_int Tryz.underlying3 p0;have⟨m,e1,_⟩:=DataW.trod_int Tryz.underlying2 p1;have⟨s,e2,_,hs⟩:=DataW.trod_string Tryz.underlying9 p2;have⟨l,v,e3,l1,l2,l3⟩:=abO aU 47 49 4 (by decide) (λt=>by cases t;rfl) Tryz.underlying47 Yc (λq hq=>ih q (by omega)) p3;simp at e0 e1 e2 e3;subst e0 e1 e2 e3;rw[<-asP]at l3;refine⟨.mk k m (dL s) l,⟨?_,l1,alL l2⟩,_,_,rfl,rfl,_,_,rfl,rfl,_,_,rfl,⟨s,rfl,rfl⟩,_,_,rfl,l3,rfl⟩;unfold dk;unfold maxLen at hs;rw[zY];omega
set_option maxRecDepth 1000000 in
theorem axK(k9 cs x)(h:DataW.trod enc Tryz.prog w 0 lZ oq k9 53 cs=some x):∃s:j3,ub s.c/\br (yn w) (rG s) cs:=by
 have⟨xs,n,hn,_,hl,hx,hp⟩:=DataW.trod_struct Tryz.underlying53 h;rw[agi]at hl;match cs,hl with
 |[c0,c1,c2,c3,c4,c5,c6,c7,c8],_=>
  match xs,hx with
  |[y0,y1],_=>
   have p0:DataW.trod enc Tryz.prog w 0 lZ oq n 2 (([c0,c1,c2,c3,c4,c5,c6,c7,c8].drop 0).take (Tryz.prog.cellsOf 2))=some y0:=hp 0 _ rfl;have p1:DataW.trod enc Tryz.prog w 0 lZ oq n 51 (([c0,c1,c2,c3,c4,c5,c6,c7,c8].drop 1).take (Tryz.prog.cellsOf 51))=some y1:=hp 1 _ rfl;rw[EL.1]at p0;rw[arh]at p1;have⟨k,e0,_⟩:=DataW.trod_int Tryz.underlying2 p0;have⟨xs2,n2,CT,_,iH,C_,FJ⟩:=DataW.trod_struct Tryz.underlying51 p1;match xs2,C_ with
   |[w0,w1],_=>have r0:DataW.trod enc Tryz.prog w 0 lZ oq n2 49 (([c1,c2,c3,c4,c5,c6,c7,c8].drop 0).take (Tryz.prog.cellsOf 49))=some w0:=FJ 0 _ rfl;have r1:DataW.trod enc Tryz.prog w 0 lZ oq n2 49 (([c1,c2,c3,c4,c5,c6,c7,c8].drop 4).take (Tryz.prog.cellsOf 49))=some w1:=FJ 1 _ rfl;rw[Yc]at r0 r1;have⟨t,t1,t2⟩:=abP _ _ _ r0;have⟨u,u1,u2⟩:=abP _ _ _ r1;simp at e0 t2 u2;subst e0;exact⟨⟨k,t,u⟩,⟨t1,u1⟩,_,_,rfl,rfl,br.xf t2 u2⟩
set_option maxRecDepth 1000000 in
theorem axJ(k9 cs x)(h:DataW.trod enc Tryz.prog w 0 lZ oq k9 34 cs=some x):∃p:gj,Te p/\br (yn w) (AI p) cs:=by
 have⟨xs,n,hn,_,hl,hx,hp⟩:=DataW.trod_struct Tryz.underlying34 h;rw[agh]at hl;match cs,hl with
 |[c0,c1,c2,c3],_=>
  match xs,hx with
  |[y0,y1,y2,y3],_=>have p0:DataW.trod enc Tryz.prog w 0 lZ oq n 9 (([c0,c1,c2,c3].drop 0).take (Tryz.prog.cellsOf 9))=some y0:=hp 0 _ rfl;have p1:DataW.trod enc Tryz.prog w 0 lZ oq n 3 (([c0,c1,c2,c3].drop 1).take (Tryz.prog.cellsOf 3))=some y1:=hp 1 _ rfl;have p2:DataW.trod enc Tryz.prog w 0 lZ oq n 4 (([c0,c1,c2,c3].drop 2).take (Tryz.prog.cellsOf 4))=some y2:=hp 2 _ rfl;have p3:DataW.trod enc Tryz.prog w 0 lZ oq n 32 (([c0,c1,c2,c3].drop 3).take (Tryz.prog.cellsOf 32))=some y3:=hp 3 _ rfl;rw[EL.2.2]at p0;rw[EL.2.1]at p1;rw[are]at p2;rw[ard]at p3;have⟨s,e0,_,hs⟩:=DataW.trod_string Tryz.underlying9 p0;have⟨m,e1,_⟩:=DataW.trod_int Tryz.underlying3 p1;have⟨b,e2,_⟩:=DataW.trod_bool Tryz.underlying4 p2;have⟨l,v,e3,l1,l2,l3⟩:=abO rG 32 53 9 (by decide) QK Tryz.underlying32 agi (λq _=>axK q) p3;simp at e0 e1 e2 e3;subst e0 e1 e2 e3;rw[<-asN]at l3;refine⟨⟨dL s,m,b,l⟩,⟨?_,l1,l2⟩,_,_,rfl,⟨s,rfl,rfl⟩,_,_,rfl,rfl,_,_,rfl,rfl,_,_,rfl,l3,rfl⟩;unfold dk;unfold maxLen at hs;rw[zY];omega
set_option maxRecDepth 1000000 in
theorem axI(k9 cs x)(h:DataW.trod enc Tryz.prog w 0 lZ oq k9 24 cs=some x):∃d,uc d/\br (yn w) (lQ d) cs:=by
 have⟨xs,n,hn,_,hl,hx,hp⟩:=DataW.trod_struct Tryz.underlying24 h;rw[arc]at hl;match cs,hl with
 |[c0,c1],_=>
  match xs,hx with
  |[y0,y1],_=>have p0:DataW.trod enc Tryz.prog w 0 lZ oq n 2 (([c0,c1].drop 0).take (Tryz.prog.cellsOf 2))=some y0:=hp 0 _ rfl;have p1:DataW.trod enc Tryz.prog w 0 lZ oq n 22 (([c0,c1].drop 1).take (Tryz.prog.cellsOf 22))=some y1:=hp 1 _ rfl;rw[EL.1]at p0;rw[arb]at p1;have⟨k,e0,_⟩:=DataW.trod_int Tryz.underlying2 p0;have⟨l,v,e1,l1,l2,l3⟩:=abO AI 22 34 4 (by decide) (λ_=>rfl) Tryz.underlying22 agh (λq _=>axJ q) p1;simp at e0 e1;subst e0 e1;rw[<-asJ]at l3;exact⟨⟨k,l⟩,⟨l1,l2⟩,_,_,rfl,rfl,_,_,rfl,l3,rfl⟩
end
end Go.Cl
