/- Part of a proof of AreaViews. -/
import Derived.Test.YtjgjeokjclpjnaaGreatVWB5
import Derived.Test.YtjgjeokjclpjnaaGreatRows
import Derived.ProofKit
set_option linter.all false
set_option linter.unusedSectionVars false
namespace Go.Cl
open Go.Ev Go.Proofs
@[reducible] def Ag (w:World):bZ:=⟨λ_=>none,λb=>w.heap[b]?,λ_=>none⟩
section
theorem asY{I}{F:Type}{Ok:F->Prop}(e sz)(dL:List Value):∀len off,(∀i,i<len->∃x,Ok x/\bf I (e x) ((dL.drop (off+i*sz)).take sz))->∃l:List F,l.length=len/\(∀x∈l,Ok x)/\bf I (l.flatMap e) ((dL.drop off).take (len*sz))
 |0,off,_=>⟨[],rfl,(λx hx=>by cases hx),by simp[bf]⟩
 |len+1,off,h=>by
  have⟨x,h1,h2⟩:=h 0 (by omega);obtain⟨l,h3,h4,h5⟩:=asY e sz dL len (off+sz) (λi hi=>by
   have⟨y,q1,q2⟩:=h (i+1) (by omega);refine⟨y,q1,?_⟩;have:off+sz+i*sz=off+(i+1)*sz:=by rw[Nat.add_mul];omega
   rw[this];exact q2)
  refine⟨x::l,by simp[h3],λy hy=>?_,?_⟩
  .rcases List.mem_cons.1 hy with rfl|hy
   .exact h1
   .exact h4 y hy
  .have e1:(len+1)*sz=sz+len*sz:=by rw[Nat.add_mul];omega
   rw[List.flatMap_cons,e1,List.take_add,List.drop_drop];rw[Nat.zero_mul,Nat.add_zero]at h2;exact bf.xS h2 h5
end
theorem aAk(l):az l=l.flatMap bn:=by
 induction l with
 |nil=>rfl
 |cons t l ih=>rw[az,List.flatMap_cons,ih]
theorem aAh(l):ew l=l.flatMap pA:=by
 induction l with
 |nil=>rfl
 |cons t l ih=>rw[ew,List.flatMap_cons,ih]
theorem aAd(l):cR l=l.flatMap tn:=by
 induction l with
 |nil=>rfl
 |cons t l ih=>rw[cR,List.flatMap_cons,ih]
theorem arP:∀{l},(∀t∈l,bA t)->fe l
 |[],_=>trivial
 |t::l,h=>⟨h t (List.mem_cons_self ..),arP (λx hx=>h x (List.mem_cons_of_mem _ hx))⟩
theorem ayS{w:World}{a:Addr}{sz len}(ca:0<sz)(hl:0<len)(h:∀i,i<len->∃cs,w.cells? 0 (a.add (i*sz)) sz=some cs):
 ∃dL el fz,w.heap[a.block]? =some (.cells dL el fz)/\a.spot=none/\∀i,i<len->w.cells? 0 (a.add (i*sz)) sz=some ((dL.toList.drop (a.off+i*sz)).take sz)/\a.off+i*sz+sz<=dL.size:=by
 have⟨nP,h0⟩:=h 0 hl;have⟨_,l0,c0⟩:=World.cells?_some h0;have e0:=c0 0 ca;have ha0:(a.add (0*sz)).add 0=a:=by simp[Addr.add]
 rw[ha0]at e0;have Dj:∃v,nP[0]? =some v:=⟨nP[0]'(by omega),by simp[l0,ca]⟩;have⟨v,hv⟩:=Dj;rw[hv]at e0;have key:∃dL el fz,w.heap[a.block]? =some (.cells dL el fz)/\a.spot=none:=by
  unfold World.cell? at e0;split at e0;next c el fz hh=>
   split at e0
   .cases e0
   next hs=>exact⟨c,el,fz,hh,by simpa using hs⟩
  .cases e0
 have⟨dL,el,fz,hh,hs⟩:=key;refine⟨dL,el,fz,hh,hs,λi hi=>?_⟩;have⟨cs,hc⟩:=h i hi;have⟨_,l1,c1⟩:=World.cells?_some hc;have Mh:∀j,j<sz->dL[a.off+i*sz+j]? =cs[j]? :=by
  intro j hj;rw[<-c1 j hj];have hb:((a.add (i*sz)).add j).block=a.block:=by unfold Addr.add;split<;>split<;>rfl
  have ho:((a.add (i*sz)).add j).off=a.off+i*sz+j:=by unfold Addr.add;split<;>split<;>simp_all<;>omega
  have hsp:((a.add (i*sz)).add j).spot=none:=by unfold Addr.add;split<;>split<;>simp_all
  unfold World.cell?;rw[hb,hh];simp only[hsp,ho];rfl
 have aCb:a.off+i*sz+sz<=dL.size:=by
  have:=Mh (sz-1) (by omega);have aCT:cs[sz-1]? =some (cs[sz-1]'(by omega)):=by simp
  rw[aCT]at this;have:=(Array.getElem?_eq_some_iff.1 this).1;omega
 refine⟨?_,aCb⟩;rw[hc];congr 1;apply List.ext_getElem?;intro j;by_cases hj:j<sz
 .rw[List.getElem?_take,if_pos hj,List.getElem?_drop,<-Mh j hj];simp
 .rw[List.getElem?_eq_none (by omega),List.getElem?_eq_none (by simp;omega)]
section
variable{H:Type}{enc:TypeId×Value->H}{w:World}{mI:Nat->Bool}{oZ:Bool}
theorem aN6{F:Type}{Ok:F->Prop}(e sz)(ca:0<sz)(bB:∀x,(e x).length=sz){a len cap}(FG:len<=cap)(h:∀i,i<len->∃cs,w.cells? 0 (a.add (i*sz)) sz=some cs/\∃x,Ok x/\bf (Ag w) (e x) cs):
 ∃l:List F,l.length=len/\(∀x∈l,Ok x)/\VR (Ag w) (.aq (l.flatMap e) l.length sz) (.slice (some a) len cap):=by
 by_cases h0:len=0
 .subst h0;refine⟨[],rfl,(λx hx=>by cases hx),?_⟩;exact⟨some a,cap,rfl,by simp,.inl rfl⟩
 .have⟨dL,el,fz,h1,h2,h3⟩:=ayS ca (by omega) (λi hi=>(h i hi).imp λcs hh=>hh.1);obtain⟨l,l1,l2,l3⟩:=asY e sz dL.toList len a.off (λi hi=>by have⟨cs,q1,x,q2,q3⟩:=h i hi;rw[(h3 i hi).1]at q1;obtain rfl:=Option.some.inj q1;exact⟨x,q2,q3⟩);have pK:(l.flatMap e).length=l.length*sz:=by
   clear l1 l2 l3;induction l with
   |nil=>simp
   |cons x l ih=>rw[List.flatMap_cons,List.length_append,bB,ih,List.length_cons,Nat.add_mul];omega
  refine⟨l,l1,l2,?_⟩;have⟨b,x,sp⟩:=a;subst h2;refine⟨some ⟨b,x,none⟩,cap,by rw[l1],pK,.inr ⟨b,x,dL,el,fz,rfl,by rw[l1];exact FG,h1,?_,?_⟩⟩
  .rw[pK,l1];have:=(h3 (len-1) (by omega)).2;have e1:(len-1)*sz+sz=len*sz:=by
    have:len=(len-1)+1:=by omega
    rw[this,Nat.add_mul];simp
   simp only at this;omega
  .rw[pK,l1];exact l3
theorem acw:Tryz.prog.cellsOf 49=4:=by kernel_rfl
theorem ayQ:Tryz.prog.cellsOf 47=1:=by kernel_rfl
theorem HM:Tryz.prog.cellsOf 2=1/\Tryz.prog.cellsOf 3=1/\Tryz.prog.cellsOf 9=1:=⟨by kernel_rfl,by kernel_rfl,by kernel_rfl⟩
theorem ayP:Tryz.prog.cellsOf 4=1:=by kernel_rfl
theorem ayM:Tryz.prog.cellsOf 22=1:=by kernel_rfl
theorem ayN:Tryz.prog.cellsOf 24=2:=by kernel_rfl
theorem ayO:Tryz.prog.cellsOf 32=1:=by kernel_rfl
theorem alu:Tryz.prog.cellsOf 34=4:=by kernel_rfl
theorem ayR:Tryz.prog.cellsOf 51=8:=by kernel_rfl
theorem alv:Tryz.prog.cellsOf 53=9:=by kernel_rfl
end
section
variable{H:Type}{enc:TypeId×Value->H}{w:World}{mI:Nat->Bool}{oZ:Bool}
theorem afO{F:Type}{Ok:F->Prop}(e t el sz)(ca:0<sz)(bB:∀x,(e x).length=sz)(ht:Tryz.prog.underlying t=some (.slice el))(hc:Tryz.prog.cellsOf el=sz){lZ cs x}(ih:∀n,n<lZ->∀cs x,DataW.trod enc Tryz.prog w 0 mI oZ n el cs=some x->∃t,Ok t/\bf (Ag w) (e t) cs)(h:DataW.trod enc Tryz.prog w 0 mI oZ lZ t cs=some x):∃(l:List F) (v:Value),cs=[v]/\cV l.length/\(∀x∈l,Ok x)/\VR (Ag w) (.aq (l.flatMap e) l.length sz) v:=by
 rcases DataW.trod_slice ht h with⟨rfl,_⟩|⟨a,len,cap,amy,rest,n,hn,rfl,_,_,h1,h2,h3,h4,_,_⟩
 .exact⟨[],_,rfl,by show 0<_;decide,(λx hx=>by cases hx),none,0,rfl,by simp,.inl rfl⟩
 .rw[hc]at h4;have⟨l,l1,l2,l3⟩:=aN6 (w:=w) (Ok:=Ok) (a:=a) e sz ca bB h1 (λi hi=>by
   have:=h4 i hi;have hs:amy[i]? =some (amy[i]'(by omega)):=by simp
   rw[hs]at this;have⟨cs,q1,q2⟩:=Option.bind_eq_some_iff.1 this;exact⟨cs,q1,ih n (by omega) cs _ q2⟩)
  exact⟨l,_,rfl,by unfold cV;unfold maxLen at h2;omega,l2,l3⟩
set_option maxRecDepth 1000000 in
theorem arU(lZ):∀cs x,DataW.trod enc Tryz.prog w 0 mI oZ lZ 49 cs=some x->∃t,bA t/\bf (Ag w) (bn t) cs:=by
 induction lZ using Nat.strongRecOn with
 |_ lZ ih=>
  intro cs x h;have⟨xs,n,hn,_,hl,hx,hp⟩:=DataW.trod_struct Tryz.underlying49 h;rw[acw]at hl;match cs,hl with
  |[c0,c1,c2,c3],_=>
   match xs,hx with
   |[y0,y1,y2,y3],_=>have p0:DataW.trod enc Tryz.prog w 0 mI oZ n 3 (([c0,c1,c2,c3].drop 0).take (Tryz.prog.cellsOf 3))=some y0:=hp 0 _ rfl;have p1:DataW.trod enc Tryz.prog w 0 mI oZ n 2 (([c0,c1,c2,c3].drop 1).take (Tryz.prog.cellsOf 2))=some y1:=hp 1 _ rfl;have p2:DataW.trod enc Tryz.prog w 0 mI oZ n 9 (([c0,c1,c2,c3].drop 2).take (Tryz.prog.cellsOf 9))=some y2:=hp 2 _ rfl;have p3:DataW.trod enc Tryz.prog w 0 mI oZ n 47 (([c0,c1,c2,c3].drop 3).take (Tryz.prog.cellsOf 47))=some y3:=hp 3 _ rfl;rw[HM.2.1]at p0;rw[HM.1]at p1;rw[HM.2.2]at p2;rw[ayQ]at p3;have⟨k,e0,_⟩:=DataW.trod_int Tryz.underlying3 p0;have⟨m,e1,_⟩:=DataW.trod_int Tryz.underlying2 p1;have⟨s,e2,_,hs⟩:=DataW.trod_string Tryz.underlying9 p2;have⟨l,v,e3,l1,l2,l3⟩:=afO bn 47 49 4 (by decide) (λt=>by cases t;rfl) Tryz.underlying47 acw (λq hq=>ih q (by omega)) p3;simp at e0 e1 e2 e3;subst e0 e1 e2 e3;rw[<-aAk]at l3;refine⟨.mk k m (fg s) l,⟨?_,l1,arP l2⟩,_,_,rfl,rfl,_,_,rfl,rfl,_,_,rfl,⟨s,rfl,rfl⟩,_,_,rfl,l3,rfl⟩;unfold cV;unfold maxLen at hs;rw[BW];omega
set_option maxRecDepth 1000000 in
theorem aFb(lZ cs x)(h:DataW.trod enc Tryz.prog w 0 mI oZ lZ 53 cs=some x):∃s:eK,pa s.c/\bf (Ag w) (pA s) cs:=by
 have⟨xs,n,hn,_,hl,hx,hp⟩:=DataW.trod_struct Tryz.underlying53 h;rw[alv]at hl;match cs,hl with
 |[c0,c1,c2,c3,c4,c5,c6,c7,c8],_=>
  match xs,hx with
  |[y0,y1],_=>
   have p0:DataW.trod enc Tryz.prog w 0 mI oZ n 2 (([c0,c1,c2,c3,c4,c5,c6,c7,c8].drop 0).take (Tryz.prog.cellsOf 2))=some y0:=hp 0 _ rfl;have p1:DataW.trod enc Tryz.prog w 0 mI oZ n 51 (([c0,c1,c2,c3,c4,c5,c6,c7,c8].drop 1).take (Tryz.prog.cellsOf 51))=some y1:=hp 1 _ rfl;rw[HM.1]at p0;rw[ayR]at p1;have⟨k,e0,_⟩:=DataW.trod_int Tryz.underlying2 p0;have⟨xs2,n2,FQ,_,gM,yF,IH⟩:=DataW.trod_struct Tryz.underlying51 p1;match xs2,yF with
   |[w0,w1],_=>have r0:DataW.trod enc Tryz.prog w 0 mI oZ n2 49 (([c1,c2,c3,c4,c5,c6,c7,c8].drop 0).take (Tryz.prog.cellsOf 49))=some w0:=IH 0 _ rfl;have r1:DataW.trod enc Tryz.prog w 0 mI oZ n2 49 (([c1,c2,c3,c4,c5,c6,c7,c8].drop 4).take (Tryz.prog.cellsOf 49))=some w1:=IH 1 _ rfl;rw[acw]at r0 r1;have⟨t,t1,t2⟩:=arU _ _ _ r0;have⟨u,u1,u2⟩:=arU _ _ _ r1;simp at e0 t2 u2;subst e0;exact⟨⟨k,t,u⟩,⟨t1,u1⟩,_,_,rfl,rfl,bf.xS t2 u2⟩
set_option maxRecDepth 1000000 in
theorem aFa(lZ cs x)(h:DataW.trod enc Tryz.prog w 0 mI oZ lZ 34 cs=some x):∃p:cB,Jj p/\bf (Ag w) (tn p) cs:=by
 have⟨xs,n,hn,_,hl,hx,hp⟩:=DataW.trod_struct Tryz.underlying34 h;rw[alu]at hl;match cs,hl with
 |[c0,c1,c2,c3],_=>
  match xs,hx with
  |[y0,y1,y2,y3],_=>have p0:DataW.trod enc Tryz.prog w 0 mI oZ n 9 (([c0,c1,c2,c3].drop 0).take (Tryz.prog.cellsOf 9))=some y0:=hp 0 _ rfl;have p1:DataW.trod enc Tryz.prog w 0 mI oZ n 3 (([c0,c1,c2,c3].drop 1).take (Tryz.prog.cellsOf 3))=some y1:=hp 1 _ rfl;have p2:DataW.trod enc Tryz.prog w 0 mI oZ n 4 (([c0,c1,c2,c3].drop 2).take (Tryz.prog.cellsOf 4))=some y2:=hp 2 _ rfl;have p3:DataW.trod enc Tryz.prog w 0 mI oZ n 32 (([c0,c1,c2,c3].drop 3).take (Tryz.prog.cellsOf 32))=some y3:=hp 3 _ rfl;rw[HM.2.2]at p0;rw[HM.2.1]at p1;rw[ayP]at p2;rw[ayO]at p3;have⟨s,e0,_,hs⟩:=DataW.trod_string Tryz.underlying9 p0;have⟨m,e1,_⟩:=DataW.trod_int Tryz.underlying3 p1;have⟨b,e2,_⟩:=DataW.trod_bool Tryz.underlying4 p2;have⟨l,v,e3,l1,l2,l3⟩:=afO pA 32 53 9 (by decide) P4 Tryz.underlying32 alv (λq _=>aFb q) p3;simp at e0 e1 e2 e3;subst e0 e1 e2 e3;rw[<-aAh]at l3;refine⟨⟨fg s,m,b,l⟩,⟨?_,l1,l2⟩,_,_,rfl,⟨s,rfl,rfl⟩,_,_,rfl,rfl,_,_,rfl,rfl,_,_,rfl,l3,rfl⟩;unfold cV;unfold maxLen at hs;rw[BW];omega
set_option maxRecDepth 1000000 in
theorem aE9(lZ cs x)(h:DataW.trod enc Tryz.prog w 0 mI oZ lZ 24 cs=some x):∃d,mD d/\bf (Ag w) (iU d) cs:=by
 have⟨xs,n,hn,_,hl,hx,hp⟩:=DataW.trod_struct Tryz.underlying24 h;rw[ayN]at hl;match cs,hl with
 |[c0,c1],_=>
  match xs,hx with
  |[y0,y1],_=>have p0:DataW.trod enc Tryz.prog w 0 mI oZ n 2 (([c0,c1].drop 0).take (Tryz.prog.cellsOf 2))=some y0:=hp 0 _ rfl;have p1:DataW.trod enc Tryz.prog w 0 mI oZ n 22 (([c0,c1].drop 1).take (Tryz.prog.cellsOf 22))=some y1:=hp 1 _ rfl;rw[HM.1]at p0;rw[ayM]at p1;have⟨k,e0,_⟩:=DataW.trod_int Tryz.underlying2 p0;have⟨l,v,e1,l1,l2,l3⟩:=afO tn 22 34 4 (by decide) (λ_=>rfl) Tryz.underlying22 alu (λq _=>aFa q) p1;simp at e0 e1;subst e0 e1;rw[<-aAd]at l3;exact⟨⟨k,l⟩,⟨l1,l2⟩,_,_,rfl,rfl,_,_,rfl,l3,rfl⟩
end
end Go.Cl
