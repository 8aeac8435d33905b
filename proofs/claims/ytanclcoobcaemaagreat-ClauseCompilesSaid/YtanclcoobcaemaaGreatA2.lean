/- Part of a proof of ClauseCompiles. -/
import Derived.Test.YtanclcoobcaemaaGreatA1
import Derived.Laws.RangeString
set_option linter.all false
set_option linter.unusedSectionVars false
namespace Go.Ev
variable[Ro]
section
variable{P:Program}{φ:bu}{ρ:Operand->Option AV}{ev:Operand->Value}
theorem N0(z:LV)(n:Nat):(jq z n).length=n*z.length:=by
 induction n with
 |zero=>simp[jq]
 |succ n ih=>simp[jq,ih,Nat.succ_mul];omega
theorem afp(z:LV):∀(n i:Nat),i<n*z.length->(jq z n)[i]? =z[i%z.length]?
 |0,i,h=>by simp at h
 |n+1,i,h=>by
  simp only[jq];by_cases h1:i<z.length
  ·rw[List.getElem?_append_left h1,Nat.mod_eq_of_lt h1]
  ·have h2:z.length<=i:=by omega
   rw[xB h2,afp z n (i-z.length) (by rw[Nat.succ_mul]at h;omega),←Nat.mod_eq_sub_mod h2]
theorem afq{z:LV}(h:z.all AV.ec=true):∀n,(jq z n).all AV.ec=true
 |0=>rfl
 |n+1=>by show(z++jq z n).all AV.ec=true;rw[List.all_append,h,afq h n];rfl
theorem N1{z:LV}{zs:Array Value}(hz:bm φ z zs.toList)(n:Nat):bm φ (jq z n) ((Array.range (n*zs.size)).map (zs[· %zs.size]!)).toList:=by
 have hl:z.length=zs.size:=by have:=hz.ka;simpa using this
 refine QZ (by simp[N0,hl]) ?_;intro i a v h1 h2;have hi:i<n*zs.size:=by
  rcases Nat.lt_or_ge i (n*zs.size)with h|h
  ·exact h
  ·rw[List.getElem?_eq_none (by rw[N0,hl];exact h)]at h1;cases h1
 rw[afp z n i (by rw[hl];exact hi),hl]at h1;obtain⟨x,h3,h4⟩:=hz.get h1
 have hs:i%zs.size<zs.size:=Nat.mod_lt _ (by rcases Nat.eq_zero_or_pos zs.size with h|h;· rw[h]at hi;simp at hi
                                             ·exact h)
 simp only[Array.toList_map,Array.toList_range,List.getElem?_map,List.getElem?_range hi,Option.map_some,nu]at h2;subst h2;have:zs[i%zs.size]! =x:=by
  rw[getElem!_pos zs _ hs];have h5:zs[i%zs.size]? =some x:=by simpa using h3
  rw[getElem?_pos zs _ hs]at h5;exact dk h5
 rw[this];exact h4
theorem KB{o:Obj}(w:World):(newObj o).run P w=.ok w.heap.size (w.alloc o):=rfl
theorem ang{ρ:Operand->Option AV}{op:Op}{ob:bc}{g:Nat->AV}(h:n8 P ρ op=some (ob,g))(vs:LV)(el:TypeId):ob≠.aL vs el:=by
 have hc:∀{g g':Nat->AV} {cs:LV} {elem:TypeId} {ob:bc},A5 g cs elem=some (ob,g')->ob≠.aL vs el:=by intro g g' cs elem ob h;unfold A5 at h;obtain⟨_,h⟩:=di h;cases h;exact fun h=>by cases h
 cases op<;>simp only[n8]at h<;>try (cases h;done)
 case alloc e=>unfold U9 at h;split at h<;>first|exact hc h|cases h
 case box e x=>unfold U_ at h;split at h<;>first|exact hc h|cases h
 case buildSlice t len kH=>
  unfold Va at h;split at h
  ·split at h
   ·unfold Rv at h;obtain⟨_,h⟩:=di h;split at h<;>first|exact hc h|cases h
   ·cases h
  ·cases h
 case makeMap t r=>unfold Vj at h;split at h<;>first|(cases h;exact fun h=>by cases h)|cases h
 case makeSlice t len cap=>
  unfold M0 at h;split at h
  ·split at h
   ·cases hk:sc cap
    ·rw[hk]at h;simp only[cond_false]at h;unfold Ng at h;obtain⟨_,h⟩:=di h;cases h;exact fun h=>by cases h
    ·rw[hk]at h;simp only[cond_true]at h;unfold VE at h;obtain⟨_,h⟩:=di h;cases h;unfold CK;intro hh;cases hb:Nat.ble _ 64<;>rw[hb]at hh<;>cases hh
   ·cases h
  ·cases h
def Y5(P:Program)(φ:bu)(s:Sem Next)(ob:bc)(g:Nat->AV):Prop:=
 ∃(o':Obj) (n:Nat) (f:Nat->Value),(∀w,s.run P w=.ok (.value (f w.heap.size)) (w.alloc o'))∧(∀ψ b,fq φ ψ->OR ψ ob ⟨b,0,n⟩ o')∧
  (∀(ψ:bu) id b,ψ id=some ⟨b,0,n⟩->VR ψ (g id) (f b))∧ob.aE=true
theorem RC{g g':Nat->AV}{cs:LV}{elem:TypeId}{ob:bc}(h:A5 g cs elem=some (ob,g')):cs.all AV.ec=true∧ob=.ay cs elem∧g'=g:=by unfold A5 at h;obtain⟨h1,h2⟩:=di h;cases h2;exact⟨h1,rfl,rfl⟩
theorem GZ{cs:LV}{vs:Array Value}{elem el:TypeId}(h:bm φ cs vs.toList)(h1:cs.all AV.ec=true):∀ψ b,fq φ ψ->OR ψ (.ay cs elem) ⟨b,0,vs.size⟩ (.cells vs el (0,0)):=by
 intro ψ b de;refine⟨vs,el,rfl,rfl,?_,?_,h1⟩
 ·have:=h.ka;simp at this⊢;omega
 ·have hl:=h.ka;simp only[hI];rw[hl,List.take_length];exact bm.pW de _ _ h
theorem aps(z:LV)(c:Nat)(elem:TypeId):(CK z c elem).aE=true:=by unfold CK;cases Nat.ble c 64<;>rfl
theorem apr{ψ:bu}{z:LV}{c:Nat}{elem:TypeId}{e:PE}{o:Obj}(h:OR ψ (.ay (jq z c) elem) e o):OR ψ (CK z c elem) e o:=by unfold CK;cases Nat.ble c 64<;>exact h
theorem ZW(ψ:bu)(id b n:Nat)(h:ψ id=some ⟨b,0,n⟩):VR ψ (KG id) (.pointer (some ⟨b,0,none⟩)):=by simp only[KG,VR];exact⟨_,h,rfl⟩
theorem Z0(ψ:bu)(id b n len cap sz:Nat)(h:ψ id=some ⟨b,0,n⟩)(hn:n=cap*sz)(hl:len<=cap):VR ψ (Bd len cap sz id) (.slice (some ⟨b,0,none⟩) len cap):=by simp only[Bd,VR];exact⟨_,0,cap,h,rfl,.inr rfl,hl,fun _=>rfl,by simp[hn]⟩
theorem Ei{s:Sem Value}{v:Value}{w w':World}(h:s.run P w=.ok v w'):(do pure (.value (←s)):Sem Next).run P w=.ok (.value v) w':=by simp[h]
theorem FO(f:Nat->Value):(Array.range 0).map f= #[]:=by
 apply Array.ext
 ·simp
 ·intro i h1 h2;simp at h2
theorem adF{o:Oper}{ob:bc}{g:Nat->AV}(hr:mX φ ρ ev o.op.operands.toList)(h:n8 P ρ o.op=some (ob,g)):Y5 P φ (execOp ev o) ob g:=by
 cases o with
 |mk dst op type pos after guard=>
 simp only at hr h;cases op<;>simp only[n8]at h<;>try (cases h;done)
 case alloc e=>
  unfold U9 at h;split at h
  ·rename_i z hz;obtain⟨vz,h1,h2⟩:=xN (φ:=φ) hz;obtain⟨h3,rfl,rfl⟩:=RC h;refine⟨.cells vz.cells e (0,0),vz.cells.size,fun b=>.pointer (some ⟨b,0,none⟩),fun w=>?_,GZ (AV.sP h1) h3,fun ψ id b hh=>ZW ψ id b _ hh,rfl⟩;simp only[execOp];refine Ei ?_;simp[Instr.alloc,h2 w,newVar,newRow]
  ·cases h
 case box e x=>
  unfold U_ at h;split at h
  ·rename_i a ha;obtain⟨h3,rfl,rfl⟩:=RC h;have h1:=hr x (by simp[Op.operands]) _ ha;refine⟨.cells (ev x).cells e (0,0),(ev x).cells.size,fun b=>.pointer (some ⟨b,0,none⟩),fun w=>?_,GZ (AV.sP h1) h3,fun ψ id b hh=>ZW ψ id b _ hh,rfl⟩;simp only[execOp];refine Ei ?_;simp[Instr.box,newVar,newRow]
  ·cases h
 case buildSlice t len kH=>
  unfold Va at h;split at h
  ·rename_i elem ps hu hp;split at h
   ·rename_i s z hs hz;obtain⟨vz,h1,h2⟩:=xN (φ:=φ) hz;unfold Rv at h;obtain⟨hb,h⟩:=di h;simp only[cy,Nat.ble_eq]at hb;obtain⟨lE,rZ⟩:=hb;have Iq:z.eB.length=s:=eI rZ;split at h
    ·rename_i cs hf;obtain⟨h3,rfl,rfl⟩:=RC h;have nj:=AV.sP h1;have oD:vz.cells.size=s:=by have:=nj.ka;simp at this;omega
     have qc:=KD (ev:=ev) (hr.ot (l':=kH.toList.map (·.2)) (fun x hx=>by simpa[Op.operands]using hx)) hp;obtain⟨r',h4,h5⟩:=Lj qc (N1 nj len) hf;have bH:cs.length=len*s:=by
      have:∀(ps:List (Nat×AV)) (c c':LV),wS (fun i=>some (i*s,s)) c ps=some c'->c'.length=c.length:=by
       intro ps;induction ps with
       |nil=>intro c c' h;simp only[wS]at h;cases h;rfl
       |cons p ps ih=>
        intro c c' h;obtain⟨i,v⟩:=p;simp only[wS]at h;obtain⟨_,h⟩:=di h;split at h
        ·cases h
        ·rename_i c1 Ul;obtain⟨de,rfl⟩:=WA Ul;rw[ih _ _ h];simp;omega
      rw[this _ _ _ hf,N0,Iq]
     have r_:r'.size=len*s:=by have:=h5.ka;simp at this;omega
     refine⟨.cells r' elem (0,0),r'.size,fun b=>.slice (some ⟨b,0,none⟩) len len,fun w=>?_,GZ h5 h3,fun ψ id b hh=>Z0 ψ id b _ len len s hh r_ (eh _),rfl⟩;simp only[execOp];refine Ei ?_;have de:¬(len*s>2^24):=by omega
     have HX:Instr.fill (fun i=>some (i*s,s)) ((Array.range (len*s)).map (fun x=>(if len*s=0 then #[]else vz.cells)[x%(if len*s=0 then #[]else vz.cells).size]!)) (kH.map fun x=>(x.1,ev x.2)).toList=some r':=by
      rw[oD]at h4;by_cases h0:len*s=0
      ·simp only[h0,if_true]at h4⊢;rw[FO]at h4⊢;simpa using h4
      ·simp only[h0,if_false];rw[oD];simpa using h4
     by_cases h0:len*s=0
     ·simp only[h0,if_true]at HX;rw[FO]at HX;simp only[Instr.buildSlice,Sem.run_bind,run_underlying hu w,Result.andThen_ok,jy hs w,az de,aN h0,Sem.run_pure];simp only[h0,FO,HX,newRow,Sem.run_bind,KB,Result.andThen_ok,Sem.run_pure]
     ·simp only[h0,if_false]at HX;simp only[Instr.buildSlice,Sem.run_bind,run_underlying hu w,Result.andThen_ok,jy hs w,az de,az h0,h2 w,Sem.run_pure,HX,newRow,KB]
    ·cases h
   ·cases h
  ·cases h
 case makeMap t r=>
  unfold Vj at h;have key:∀e:TypeId×TypeId,P.underlying t=some (.map e.1 e.2)->(r.map ev=none∨∃k n,r.map ev=some (.int k n))->∀p,ob=.bM [] 0 p∧g=.aS->Y5 P φ (execOp ev {dst,op:=.makeMap t r,type,pos,after,guard}) ob g:=by
   intro e hu hv p ⟨h1,h2⟩;subst h1 h2;refine⟨.map #[] 0,0,fun b=>.map (some b),fun w=>?_,fun ψ b _=>⟨#[],rfl,by simp[dx],fun _=>by simp[dx]⟩,fun ψ id b hh=>by simp only[VR];exact⟨_,hh,rfl⟩,rfl⟩;simp only[execOp];refine Ei ?_;rcases hv with hv|⟨k,n,hv⟩
   ·simp[Instr.makeMap,hv]
   ·simp[Instr.makeMap,hv,run_underlying hu w,asInt,asIntOf]
  split at h
  ·rename_i a b hu r_;cases h;rcases IK (hr.ot (l':=r.toList) (fun y hy=>by cases r<;>simp at hy;subst hy;simp[Op.operands])) r_ with⟨_,h⟩|⟨_,_,e,_⟩
   ·exact key (a,b) hu (.inl h) _ ⟨rfl,rfl⟩
   ·cases e
  ·rename_i a b k n hu r_;cases h;rcases IK (hr.ot (l':=r.toList) (fun y hy=>by cases r<;>simp at hy;subst hy;simp[Op.operands])) r_ with⟨e,_⟩|⟨x,v,e,hv,hx⟩
   ·cases e
   ·cases e;simp only[VR]at hx;exact key (a,b) hu (.inr ⟨k,n,by rw[hv,hx]⟩) _ ⟨rfl,rfl⟩
  ·cases h
 case makeSlice t len cap=>
  unfold M0 at h;split at h
  ·rename_i elem l c hu hl hc;have yu:=hr len (by simp[Op.operands]) _ hl;have qQ:=hr cap (by simp[Op.operands]) _ hc;simp only[VR]at yu qQ;split at h
   ·rename_i s z h_ hs hz l9;obtain⟨vz,h1,h2⟩:=xN (φ:=φ) hz;obtain⟨b1,b2,b3,b4,b5,b6,hg,gE⟩:l<=c∧c<=65536∧h_<=65536∧s<=65536∧Nat.beq z.eB.length s=true∧z.eB.all AV.ec=true∧g=Bd l c s∧
     (ob=CK z.eB c elem∨(ob=W4 z.eB c elem∧z.eB.all je=true)):=by
     cases hk:sc cap
     ·rw[hk]at h;unfold Ng at h;obtain⟨hb,h⟩:=di h;simp only[cy,Nat.ble_eq]at hb;obtain⟨⟨⟨⟨⟨⟨b1,b2⟩,b3⟩,b4⟩,b5⟩,b6⟩,b7⟩:=hb;simp only[nu,Prod.mk.injEq]at h;exact⟨b1,b2,b3,b4,b5,b6,h.2.symm,.inr ⟨h.1.symm,b7⟩⟩
     ·rw[hk]at h;unfold VE at h;obtain⟨hb,h⟩:=di h;simp only[cy,Nat.ble_eq]at hb;obtain⟨⟨⟨⟨⟨b1,b2⟩,b3⟩,b4⟩,b5⟩,b6⟩:=hb;simp only[nu,Prod.mk.injEq]at h;exact⟨b1,b2,b3,b4,b5,b6,h.2.symm,.inl h.1.symm⟩
    have Iq:z.eB.length=s:=eI b5;have h3:(jq z.eB c).all AV.ec=true:=afq b6 c;subst hg;have nj:=AV.sP h1;have oD:vz.cells.size=s:=by have:=nj.ka;simp at this;omega
    have h5:=N1 nj c;rw[oD]at h5;refine⟨.cells ((Array.range (c*s)).map (vz.cells[· %s]!)) elem (0,0),c*s,fun b=>.slice (some ⟨b,0,none⟩) l c,fun w=>?_,?_,fun ψ id b hh=>Z0 ψ id b _ l c s hh rfl b1,by rcases gE with rfl|⟨rfl,_⟩;exact aps _ _ _;rfl⟩
    ·simp only[execOp];refine Ei ?_;obtain⟨ti,Ca,Ik⟩:=RA l9 w;have UO:IntKind.i64.wrap (l:Int)=l:=IntWalk.i64_in _ (by omega);have pN:IntKind.i64.wrap (c:Int)=c:=IntWalk.i64_in _ (by omega);have Ud:(h_:Int)*c<=2^48:=by
      have:h_*c<=65536*65536:=Nat.mul_le_mul b3 b2;have h':((h_*c:Nat):Int)<=((65536*65536:Nat):Int):=by exact_mod_cast this
      simp only[Int.natCast_mul]at h';omega
     have t1:¬((c:Int)<0∨ti.bytes*(c:Int)>2^48):=by rw[Ik];omega
     have t2:¬((l:Int)<0):=by omega
     have t3:¬((l:Int)>c):=by omega
     have t4:¬(((((c:Int)<0)∨281474976710656<(ti.bytes:Int)*(c:Int))∨(l:Int)<0)∨c<l):=by omega
     by_cases h0:c*s=0
     ·simp[Instr.makeSlice,run_underlying hu w,yu,qQ,asInt,asIntOf,Ca,UO,pN,jy hs w,h0,newRow];rw[az t4,FO,FO]
     ·simp[Instr.makeSlice,run_underlying hu w,yu,qQ,asInt,asIntOf,Ca,UO,pN,jy hs w,h0,newRow];rw[az t4];simp[h2 w,oD]
    ·have:=GZ (el:=elem) (elem:=elem) h5 h3;intro ψ b de;rcases gE with rfl|⟨rfl,hp⟩
     ·refine apr ?_;simpa using this ψ b de
     ·have amm:=bm.sJ (ψ:=gU) _ _ (by rw[yS];exact hp) nj;have h50:=N1 amm c;rw[oD]at h50;have:=GZ (el:=elem) (elem:=elem) h50 h3 gU b (fq.tL _);have h51:OR gU (.ay (jq z.eB c) elem) ⟨b,0,c*s⟩ (.cells ((Array.range (c*s)).map (vz.cells[· %s]!)) elem (0,0)):=by simpa using this
      exact h51
   ·cases h
  ·cases h
end
section
variable{φ:bu}{base:ez}{H:AH}{w:World}
@[simp] theorem tq (H:AH) (id jH:Nat) (o:bc):(H.dS id o).bD jH=if jH=id then some o else H.bD jH:=by cases H;simp[AH.dS,AH.bD,Tr.lB]
@[simp] theorem pP (H:AH) (id:Nat) (o:bc):(H.dS id o).bW=H.bW:=by cases H;rfl
@[simp] theorem uB (H:AH) (jH:Nat) (o:bc):(H.iN o).bD jH=if jH=H.bW then some o else H.bD jH:=by cases H;simp[AH.iN,AH.bD,Tr.lB]
@[simp] theorem yO (H:AH) (o:bc):(H.iN o).bW=H.bW+1:=by cases H;rfl
theorem dx.mono{φ ψ:bu}(h:fq φ ψ):∀{es:List (AV×AV×Nat)} {ms:List MapEntry},dx φ es ms->dx ψ es ms
 |[],_,h1=>by simpa[dx]using h1
 |(k,v,b)::es,_,h1=>by simp only[dx]at h1⊢;obtain⟨m,ms,rfl,h2,h3,h4,h5⟩:=h1;exact⟨m,ms,rfl,VR.qC h _ _ h2,VR.qC h _ _ h3,h4,dx.mono h h5⟩
theorem DR.mono{φ ψ:bu}(h:fq φ ψ){a:iZ}{d:Deferred}(h1:DR φ a d):DR ψ a d:=by
 cases a with
 |xP fn cap args=>obtain⟨c',a',e,hy,h2,h3⟩:=h1;exact⟨c',a',e,hy,bm.pW h _ _ h2,bm.pW h _ _ h3⟩
 |nP r=>obtain⟨e,h2,h3⟩:=h1;exact⟨e,h _ _ h2,h3⟩
theorem nw.Dk{φ ψ:bu}(h:fq φ ψ):∀{as:List iZ} {ds:List Deferred},nw φ as ds->nw ψ as ds
 |[],_,h1=>by simpa[nw]using h1
 |a::as,_,h1=>by simp only[nw]at h1⊢;obtain⟨d,ds,rfl,h2,h3⟩:=h1;exact⟨d,ds,rfl,h2.mono h,nw.Dk h h3⟩
theorem TR.mono{φ ψ:bu}(h:fq φ ψ){t:Tr AV}{nt:Nat}{tmps:Array Value}(h1:TR φ t nt tmps):TR ψ t nt tmps:=
 ⟨h1.1,fun i a hi=>let⟨v,h2,h3⟩:=h1.2 i a hi;⟨v,h2,VR.qC h _ _ h3⟩⟩
theorem OR.Gi{φ ψ:bu}(h:fq φ ψ){ob:bc}{e:PE}{o:Obj}(h1:OR φ ob e o):OR ψ ob e o:=by
 cases ob with
 |ay vs elem=>obtain⟨cs,el,rfl,h2,h3,h4,h5⟩:=h1;exact⟨cs,el,rfl,h2,h3,bm.pW h _ _ h4,h5⟩
 |bM es db p=>obtain⟨bQ,rfl,h2,h3⟩:=h1;exact⟨bQ,rfl,h2.mono h,h3⟩
 |c9 vs elem=>exact h1
 |aL vs elem=>exact h1
 |rB s pos=>exact h1
 |sI m og iL y8=>
  obtain⟨m',rfl,h0,h2⟩:=h1;refine⟨m',rfl,h0,?_⟩;cases m with
  |none=>exact h2
  |some id=>obtain⟨e,h3,h4⟩:=h2;exact⟨e,h _ _ h3,h4⟩
 |gG st p fn tmps nt ps a b d=>obtain⟨nL,ed,rfl,h2,h3⟩:=h1;exact⟨nL,ed,rfl,h _ _ h2,h3.mono h⟩
 |oP ds=>
  cases ds with
  |none=>exact h1
  |some l=>obtain⟨l',rfl,h2⟩:=h1;exact⟨l',rfl,h2.Dk h⟩
 |bJ vs=>trivial
 |v8 z n elem=>obtain⟨cs,el,rfl,h2,h3,h4,h5⟩:=h1;exact⟨cs,el,rfl,h2,h3,bm.pW h _ _ h4,h5⟩
 |Rn es=>obtain⟨l,bQ,c,rfl,h2,h3⟩:=h1;exact⟨l,bQ,c,rfl,h2,h3.mono h⟩
def da(m:Nat)(φ:bu)(H:AH)(ψ:bu)(H':AH):Prop:=
 fq φ ψ∧H.bW<=H'.bW∧∀id,id<m->φ id=none->ψ id=none∧(H'.bD id=H.bD id∨∃vs el,H.bD id=some (.aL vs el))
theorem da.j9(m:Nat)(φ:bu)(H:AH):da m φ H φ H:=⟨fq.tL φ,eh _,fun _ _ h=>⟨h,.inl rfl⟩⟩
theorem da.zc{m:Nat}{φ ψ χ:bu}{H H' Y3:AH}(h:da m φ H ψ H')(h':da m ψ H' χ Y3):da m φ H χ Y3:=
 ⟨h.1.trans h'.1,Nat.le_trans h.2.1 h'.2.1,fun id hm hn=>by
   obtain⟨h1,h2⟩:=h.2.2 id hm hn;obtain⟨h3,h4⟩:=h'.2.2 id hm h1;refine⟨h3,?_⟩;rcases h2 with h2|h2
   ·rw[h2]at h4;exact h4
   ·exact .inr h2⟩
theorem da.mono{m n:Nat}{φ ψ:bu}{H H':AH}(h:da n φ H ψ H')(hm:m<=n):da m φ H ψ H':=
 ⟨h.1,h.2.1,fun id hi hn=>h.2.2 id (Nat.lt_of_lt_of_le hi hm) hn⟩
def u5(w w':World):Prop:=w'.os=w.os∧w'.tape=w.tape∧w'.output=w.output
theorem u5.refl(w:World):u5 w w:=⟨rfl,rfl,rfl⟩
theorem u5.trans{w w' JI:World}(h:u5 w w')(h':u5 w' JI):u5 w JI:=⟨h'.1.trans h.1,h'.2.1.trans h.2.1,h'.2.2.trans h.2.2⟩
def dm(base:ez)(w w':World):Prop:=w.heap.size<=w'.heap.size∧(∀b,base b->w'.heap[b]? =w.heap[b]?)∧u5 w w'
theorem dm.kN(base:ez)(w:World):dm base w w:=⟨eh _,fun _ _=>rfl,u5.refl w⟩
theorem dm.uV{base:ez}{w w' JI:World}(h:dm base w w')(h':dm base w' JI):dm base w JI:=
 ⟨Nat.le_trans h.1 h'.1,fun b hb=>(h'.2.1 b hb).trans (h.2.1 b hb),h.2.2.trans h'.2.2⟩
theorem Q7(w:World)(o:Obj):(w.alloc o).heap.size=w.heap.size+1:=by show(w.heap.push o).size=_;simp
theorem ZF(w:World)(o:Obj){b:Nat}(h:b<w.heap.size):(w.alloc o).heap[b]? =w.heap[b]? :=by show(w.heap.push o)[b]? =_;simp[Array.getElem?_push,Nat.ne_of_lt h]
theorem ahK(w:World)(o:Obj):(w.alloc o).heap[w.heap.size]? =some o:=by show(w.heap.push o)[w.heap.size]? =_;simp
def j4(φ:bu)(id:Nat)(e:PE):bu:=fun i=>if i=id then some e else φ i
theorem ov(φ:bu)(id:Nat)(e:PE):j4 φ id e id=some e:=by simp[j4]
theorem KL{φ:bu}{id:Nat}{e:PE}(h:φ id=none):fq φ (j4 φ id e):=by
 intro i e' hi;by_cases zT:i=id
 ·subst zT;rw[h]at hi;cases hi
 ·simp[j4,zT,hi]
theorem WR.mF(hw:WR φ base H w){id:Nat}(h:H.bW<=id):φ id=none:=by
 cases he:φ id with
 |none=>rfl
 |some e=>have:=(hw.lt id e he).2.2;omega
theorem WR.Z8(hw:WR φ base H w){id n:Nat}{ob:bc}{o':Obj}(dn:φ id=none)(ho:H.bD id=some ob)(hb:gQ base w)
 (r9:∀ψ b,fq φ ψ->OR ψ ob ⟨b,0,n⟩ o'):
 WR (j4 φ id ⟨w.heap.size,0,n⟩) base H (w.alloc o'):=by
 have cW:(w.alloc o').heap.size=w.heap.size+1:=Q7 _ _;have oC:∀b,b<w.heap.size->(w.alloc o').heap[b]? =w.heap[b]? :=fun b hb=>ZF _ _ hb
 have H8:(w.alloc o').heap[w.heap.size]? =some o':=ahK _ _;have de:=KL (e:=⟨w.heap.size,0,n⟩) dn;refine⟨?_,?_,?_,hw.nx,fun b o h=>⟨(hw.ro b o h).1,by rw[oC _ (hb _ (hw.ro b o h).1)];exact(hw.ro b o h).2⟩⟩
 ·intro i cp e h1 h2;by_cases hi:i=id
  ·subst hi;rw[ov]at h2;cases h2;rw[ho]at h1;cases h1;exact⟨o',H8,r9 _ _ de⟩
  ·simp only[j4,az hi]at h2;obtain⟨o,h3,h4⟩:=hw.fP i cp e h1 h2;exact⟨o,by rw[oC _ (hw.lt i e h2).1];exact h3,h4.Gi de⟩
 ·intro i i' kF oJ e e' h1 l1 h2 h3 l2 h4 he;by_cases hi:i=id<;>by_cases eW:i'=id
  ·rw[hi,eW]
  ·simp only[j4,az eW]at h4;subst hi;rw[ov]at h2;cases h2;have:=(hw.lt i' e' h4).1;simp only at he;omega
  ·simp only[j4,az hi]at h2;subst eW;rw[ov]at h4;cases h4;have:=(hw.lt i e h2).1;simp only at he;omega
  ·simp only[j4,az hi]at h2;simp only[j4,az eW]at h4;exact hw.lW i i' kF oJ e e' h1 l1 h2 h3 l2 h4 he
 ·intro i e h2;by_cases hi:i=id
  ·subst hi;rw[ov]at h2;cases h2;exact⟨by rw[cW];exact iz _,fun h=>Nat.lt_irrefl _ (hb _ h),hw.nx _ _ ho⟩
  ·simp only[j4,az hi]at h2;have:=hw.lt i e h2;exact⟨by rw[cW];omega,this.2⟩
theorem WR.new(hw:WR φ base H w)(ob:bc):WR φ base (H.iN ob) w:=by
 have hf:=hw.mF (eh H.bW);have c6:∀{id e},φ id=some e->id≠H.bW:=fun h e=>by rw[e,hf]at h;cases h
 refine⟨?_,?_,?_,?_,hw.ro⟩
 ·intro i cp e h1 h2;rw[uB,az (c6 h2)]at h1;exact hw.fP i cp e h1 h2
 ·intro i i' kF oJ e e' h1 l1 h2 h3 l2 h4 he;rw[uB,az (c6 h2)]at h1;rw[uB,az (c6 h4)]at h3;exact hw.lW i i' kF oJ e e' h1 l1 h2 h3 l2 h4 he
 ·intro i e h;have:=hw.lt i e h;exact⟨this.1,this.2.1,by rw[yO];omega⟩
 ·intro i cp h;rw[uB]at h;rw[yO];split at h
  ·omega
  ·have:=hw.nx _ _ h;omega
theorem da.new{m:Nat}(hm:m<=H.bW)(ob:bc):da m φ H φ (H.iN ob):=
 ⟨fq.tL φ,by rw[yO];omega,fun id hi hn=>⟨hn,.inl (by rw[uB,az (by omega)])⟩⟩
theorem dm.alloc{base:ez}{w:World}(hb:gQ base w)(o:Obj):dm base w (w.alloc o):=
 ⟨by rw[Q7];omega,fun b h=>ZF _ _ (hb b h),rfl,rfl,rfl⟩
theorem WR.put(hw:WR φ base H w){id:Nat}{ob cp:bc}{e:PE}{w':World}(ho:H.bD id=some ob)(hl:ob.aE=true)(he:φ id=some e)
 (cW:w'.heap.size=w.heap.size) (Mt:∀b,b≠e.b->w'.heap[b]? =w.heap[b]?) (H8:∃o',w'.heap[e.b]? =some o'∧OR φ cp e o'):WR φ base (H.dS id cp) w':=by
 refine⟨?_,?_,?_,?_,fun b o h=>⟨(hw.ro b o h).1,by rw[Mt b (fun hb=>(hw.lt id e he).2.1 (hb▸(hw.ro b o h).1))];exact(hw.ro b o h).2⟩⟩
 ·intro i kF e1 h1 h2;rw[tq]at h1;by_cases hi:i=id
  ·subst hi;rw[aN rfl]at h1;cases h1;rw[he]at h2;cases h2;exact H8
  ·rw[az hi]at h1;by_cases mK:kF.aE=true
   ·obtain⟨o,h3,h4⟩:=hw.fP i kF e1 h1 h2;have hb:e1.b≠e.b:=fun h=>hi (hw.lW i id kF ob e1 e h1 mK h2 ho hl he h)
    exact⟨o,by rw[Mt _ hb];exact h3,h4⟩
   ·cases kF<;>simp[bc.aE]at mK;have h5:=(hw.lt i e1 h2).1;refine⟨w'.heap[e1.b]'(by rw[cW];exact h5),by simp[cW,h5],trivial⟩
 ·intro i i' kF oJ e1 e2 h1 l1 h2 h3 l2 h4 hb;rw[tq]at h1 h3;by_cases hi:i=id<;>by_cases eW:i'=id
  ·rw[hi,eW]
  ·subst hi;rw[az eW]at h3;exact hw.lW i i' ob oJ e1 e2 ho hl h2 h3 l2 h4 hb
  ·subst eW;rw[az hi]at h1;exact hw.lW i i' kF ob e1 e2 h1 l1 h2 ho hl h4 hb
  ·rw[az hi]at h1;rw[az eW]at h3;exact hw.lW i i' kF oJ e1 e2 h1 l1 h2 h3 l2 h4 hb
 ·intro i e1 h;have:=hw.lt i e1 h;exact⟨by rw[cW];exact this.1,this.2.1,by rw[pP];exact this.2.2⟩
 ·intro i kF h;rw[tq]at h;rw[pP];split at h
  ·rename_i e;subst e;exact hw.nx _ _ ho
  ·exact hw.nx _ _ h
theorem da.nQ{m id:Nat}{e:PE}(he:φ id=some e)(ob:bc):da m φ H φ (H.dS id ob):=
 ⟨fq.tL φ,by rw[pP];omega,fun i _ hn=>⟨hn,.inl (by rw[tq,az (fun h=>by subst h;rw[he]at hn;cases hn)])⟩⟩
theorem da.aL{m id:Nat}{vs:LV}{el:TypeId}(ho:H.bD id=some (.aL vs el))(ob:bc):da m φ H φ (H.dS id ob):=
 ⟨fq.tL φ,by rw[pP];omega,fun i _ hn=>⟨hn,by
   by_cases hi:i=id
   ·subst hi;exact .inr ⟨vs,el,ho⟩
   ·exact .inl (by rw[tq,az hi])⟩⟩
theorem dm.IG(hw:WR φ base H w){id:Nat}{e:PE}{w':World}(he:φ id=some e)(cW:w'.heap.size=w.heap.size)(Mt:∀b,b≠e.b->w'.heap[b]? =w.heap[b]?)(hs:u5 w w':=by exact⟨rfl,rfl,rfl⟩):dm base w w':=
 ⟨by omega,fun b hb=>Mt b (fun h=>(hw.lt id e he).2.1 (h▸hb)),hs⟩
theorem WR.uM(hw:WR φ base H w){w':World}(h:w'.heap=w.heap):WR φ base H w':=
 ⟨fun i ob e h1 h2=>by rw[h];exact hw.fP i ob e h1 h2,hw.lW,fun i e h1=>by rw[h];exact hw.lt i e h1,hw.nx,fun b o h1=>by rw[h];exact hw.ro b o h1⟩
theorem dm.uM{w':World}(h:w'.heap=w.heap)(hs:u5 w w':=by exact⟨rfl,rfl,rfl⟩):dm base w w':=⟨by rw[h];exact eh _,fun b _=>by rw[h],hs⟩
theorem WR.yI(hw:WR φ base H w){id:Nat}{ob:bc}{vs:LV}(ho:H.bD id=some ob):WR φ base (H.dS id (.bJ vs)) w:=by
 refine⟨?_,?_,?_,?_,hw.ro⟩
 ·intro i kF e1 h1 h2;rw[tq]at h1;by_cases hi:i=id
  ·subst hi;rw[aN rfl]at h1;cases h1;have h5:=(hw.lt i e1 h2).1;exact⟨w.heap[e1.b],by simp[h5],trivial⟩
  ·rw[az hi]at h1;exact hw.fP i kF e1 h1 h2
 ·intro i i' kF oJ e1 e2 h1 l1 h2 h3 l2 h4 hb;rw[tq]at h1 h3;by_cases hi:i=id
  ·subst hi;rw[aN rfl]at h1;cases h1;simp[bc.aE]at l1
  ·by_cases eW:i'=id
   ·subst eW;rw[aN rfl]at h3;cases h3;simp[bc.aE]at l2
   ·rw[az hi]at h1;rw[az eW]at h3;exact hw.lW i i' kF oJ e1 e2 h1 l1 h2 h3 l2 h4 hb
 ·intro i e1 h;have:=hw.lt i e1 h;exact⟨this.1,this.2.1,by rw[pP];exact this.2.2⟩
 ·intro i kF h;rw[tq]at h;rw[pP];split at h
  ·rename_i e;subst e;exact hw.nx _ _ ho
  ·exact hw.nx _ _ h
end
section
variable{P:Program}{φ:bu}{base:ez}{H:AH}{w:World}{ρ:Operand->Option AV}{ev:Operand->Value}
def gi(P:Program)(m:Nat)(base:ez)(φ:bu)(H:AH)(w:World)(s:Sem Next)(v:AV)(H':AH):Prop:=
 ∃(bf:bu) (w':World) (v':Value),(s.run P w=.ok (.value v') w'∨(s.run P w=.ok .skip w'∧v'=undef))∧VR bf v v'∧WR bf base H' w'∧da m φ H bf H'∧dm base w w'
def oT(P:Program)(m:Nat)(base:ez)(φ:bu)(H:AH)(w:World)(s:Sem Next):fU->Prop
 |.iC v H'=>gi P m base φ H w s v H'
 |.qB f args=>∃args':Array Value,s.run P w=.ok (.enter f args') w∧bm φ args args'.toList
 |.uW l args=>∃(e:PE) (args':Array Value),φ l=some e∧s.run P w=(Instr.yield e.b args').run P w∧bm φ args args'.toList
 |.xR d=>∃d',s.run P w=.ok (.defer d') w∧DR φ d d'
 |.xS v=>∃v',s.run P w=.halt (.panic v') w∧VR φ v v'
 |.xU=>s.run P w=.ok .recover w
theorem Gd(φ:bu):VR φ .lU undef:=⟨#[],rfl,lX⟩
theorem auP(cur xs:List Value)(o off L:Nat)(h1:o+L<=cur.length)(h2:off+xs.length<=L):
 ((cur.take (o+off)++xs++cur.drop (o+off+xs.length)).drop o).take L=((cur.drop o).take L).take off++(xs++((cur.drop o).take L).drop (off+xs.length)):=by
 apply List.ext_getElem?;intro i;by_cases hL:i<L
 ·rw[List.getElem?_take_of_lt hL,List.getElem?_drop,iy];simp only[List.getElem?_append,List.length_take,List.length_drop];rw[show min (o+off) cur.length=o+off by omega,show min off (min L (cur.length-o))=off by omega];by_cases h3:i<off
  ·rw[aN (by omega),aN h3,List.getElem?_take_of_lt (by omega),List.getElem?_take_of_lt h3,List.getElem?_take_of_lt hL,List.getElem?_drop]
  ·rw[az (by omega),az h3];rw[show o+i-(o+off)=i-off by omega];by_cases h4:i-off<xs.length
   ·rw[aN h4,aN h4]
   ·rw[az h4,az h4,List.getElem?_drop,List.getElem?_drop,List.getElem?_take_of_lt (by omega),List.getElem?_drop];congr 1;omega
 ·rw[List.getElem?_eq_none (by simp;omega),List.getElem?_eq_none (by simp;omega)]
theorem I9(w:World)(g:Nat)(cs:Array Value):(w.setRow g cs).heap.size=w.heap.size:=by unfold World.setRow;simp
theorem I8(w:World)(g:Nat)(cs:Array Value){b:Nat}(h:b≠g):(w.setRow g cs).heap[b]? =w.heap[b]? :=by unfold World.setRow;simp only[Array.getElem?_modify];rw[az (fun e=>h e.symm)]
theorem WR.O4(hw:WR φ base H w){ψ:bu}{id off:Nat}{vs r cells:LV}{el:TypeId}{CZ:List Value}{e:PE}{ob cp:bc}(ho:H.bD id=some ob)(nh:ob.aE=true)(gE:∀o,OR φ ob e o->OR ψ (.ay vs el) e o)(he:φ id=some e)
 (hp:sq vs off cells=some r) (hc:bm ψ cells CZ) (h1:cells.all AV.ec=true) (xc:∀o,OR ψ (.ay r el) e o->OR φ cp e o):
 ∃w',(storeCells ⟨e.b,e.o+off,none⟩ CZ).run P w=.ok () w'∧WR φ base (H.dS id cp) w'∧dm base w w':=by
 obtain⟨o,hg,r9⟩:=hw.fP id _ e ho he;obtain⟨cs,jB,rfl,cW,de,hv,ni⟩:=gE o r9;obtain⟨alJ,rfl⟩:=WA hp;have hl:=hc.ka;have dU:=run_storeCells_at P e.b (e.o+off) jB CZ 0 cs w hg (by simp;omega) (AV.aes hc h1);simp only[Nat.add_zero]at dU;refine⟨_,dU,?_,?_⟩
 ·refine hw.put ho nh he (I9 _ _ _) (fun b hb=>I8 _ _ _ hb) ⟨_,setRow_heap w e.b cs _ jB _ hg,?_⟩;refine xc _ ⟨_,jB,rfl,?_,?_,?_,?_⟩
  ·simp;omega
  ·simp;omega
  ·have bH:(vs.take off++(cells++vs.drop (off+cells.length))).length=vs.length:=by simp;omega
   rw[bH];have:=auP cs.toList CZ e.o off vs.length (by simp;omega) (by omega);rw[this];exact hv.put hc
  ·simp only[List.all_append,cy];refine⟨?_,h1,?_⟩
   ·rw[List.all_eq_true]at ni⊢;exact fun x hx=>ni x (List.mem_of_mem_take hx)
   ·rw[List.all_eq_true]at ni⊢;exact fun x hx=>ni x (List.mem_of_mem_drop hx)
 ·exact dm.IG hw he (I9 _ _ _) (fun b hb=>I8 _ _ _ hb)
theorem WR.Gf(hw:WR φ base H w){id off:Nat}{vs r cells:LV}{el:TypeId}{CZ:List Value}{e:PE}{ob:bc}(ho:H.bD id=some ob)(nh:ob.aE=true)(gE:∀o,OR φ ob e o->OR φ (.ay vs el) e o)(he:φ id=some e)
 (hp:sq vs off cells=some r) (hc:bm φ cells CZ) (h1:cells.all AV.ec=true):
 ∃w',(storeCells ⟨e.b,e.o+off,none⟩ CZ).run P w=.ok () w'∧WR φ base (H.dS id (.ay r el)) w'∧dm base w w':=
 hw.O4 ho nh gE he hp hc h1 (fun _ h=>h)
theorem avn(hw:WR φ base H w){t:TypeId}{id off:Nat}{v:AV}{vv:Value}{H':AH}{e:PE}(h:FZ P H t id off v=some H')(he:φ id=some e)(hv:VR φ v vv):
 ∃w',(storeVar t ⟨e.b,e.o+off,none⟩ vv).run P w=.ok () w'∧WR φ base H' w'∧dm base w w'∧∀m,da m φ H φ H':=by
 unfold FZ at h;split at h
 ·rename_i vs el s ho hs;obtain⟨hb,h⟩:=di h;simp only[cy]at hb;obtain⟨r,hr,rfl⟩:=uE h;have hc:=AV.sP hv;have bH:vv.cells.size=s:=by have h1:=hc.ka;have h2:=eI hb.1;simp at h1;omega
  obtain⟨w',h1,h2,h3⟩:=hw.Gf (P:=P) ho rfl (fun o h=>h) he hr hc hb.2;refine⟨w',?_,h2,h3,fun m=>da.nQ he _⟩;simp[storeVar,jy hs w,bH,h1]
 ·rename_i z n el s ho hs;obtain⟨hb,h⟩:=di h;simp only[cy]at hb;obtain⟨r,hr,rfl⟩:=uE h;have hc:=AV.sP hv;have bH:vv.cells.size=s:=by have h1:=hc.ka;have h2:=eI hb.1;simp at h1;omega
  obtain⟨w',h1,h2,h3⟩:=hw.Gf (P:=P) (vs:=jq z n) (el:=el) ho rfl (fun o h=>h) he hr hc hb.2;refine⟨w',?_,h2,h3,fun m=>da.nQ he _⟩;simp[storeVar,jy hs w,bH,h1]
 ·rename_i vs el s ho hs;obtain⟨hb,hq⟩:=di h;clear h;simp only[cy]at hb;obtain⟨r,hr,rfl⟩:=uE hq;have hc:=AV.sP hv;have bH:vv.cells.size=s:=by have h1:=hc.ka;have h2:=eI hb.1.1;simp at h1;omega
  have r4:=bm.sJ (ψ:=gU) _ _ (by rw[yS];exact hb.2) hc;obtain⟨w',h1,h2,h3⟩:=hw.O4 (P:=P) (ψ:=gU) (vs:=vs) (el:=el) (cp:=.c9 r el) ho rfl (fun o h=>h) he hr r4 hb.1.2 (fun o h=>h);refine⟨w',?_,h2,h3,fun m=>da.nQ he _⟩;simp[storeVar,jy hs w,bH,h1]
 ·rename_i vs el s ho hs;obtain⟨hb,hq⟩:=di h;clear h;simp only[cy]at hb;obtain⟨r,hr,rfl⟩:=uE hq;have hc:=AV.sP hv;have bH:vv.cells.size=s:=by have h1:=hc.ka;have h2:=eI hb.1.1;simp at h1;omega
  have r4:=bm.sJ (ψ:=gU) _ _ (by rw[yS];exact hb.2) hc;obtain⟨w',h1,h2,h3⟩:=hw.O4 (P:=P) (ψ:=gU) (vs:=vs) (el:=el) (cp:=.aL r el) ho rfl (fun o h=>h) he hr r4 hb.1.2 (fun o h=>h);refine⟨w',?_,h2,h3,fun m=>da.nQ he _⟩;simp[storeVar,jy hs w,bH,h1]
 ·cases h
end
section
variable{P:Program}{φ:bu}{base:ez}{H:AH}{w:World}{ρ:Operand->Option AV}{ev:Operand->Value}
theorem aa7{a b:AV}{va vb:Value}(h:Hp a b=true)(ha:VR φ a va)(hb:VR φ b vb)(n:Nat):va=vb∧Instr.sameBits n va vb=true:=by
 unfold Hp at h;split at h
 ·simp only[cy,iK]at h;obtain⟨rfl,rfl⟩:=h;simp only[VR]at ha hb;subst ha hb;exact⟨rfl,by cases n<;>simp[Instr.sameBits]⟩
 ·rw[lA,iK]at h;subst h;obtain⟨x,rfl,h1⟩:=ha;obtain⟨y,rfl,h2⟩:=hb;have:=XF (h1.trans h2.symm);subst this;exact⟨rfl,by cases n<;>simp[Instr.sameBits,beq_toListBytes]⟩
 ·simp only[beq_iff_eq]at h;subst h;simp only[VR]at ha hb;subst ha hb;exact⟨rfl,by cases n<;>simp[Instr.sameBits]⟩
 ·cases h
theorem aa9:∀{as bs:LV} {va vb:List Value},Eg as bs=true->bm φ as va->bm φ bs vb->∀n,va=vb∧(va.zip vb).all (fun p=>Instr.sameBits n p.1 p.2)=true
 |[],[],va,vb,_,ha,hb,n=>by simp only[bm]at ha hb;subst ha hb;simp
 |a::as,b::bs,va,vb,h,ha,hb,n=>by simp only[bm]at ha hb;obtain⟨x,xs,rfl,h1,h2⟩:=ha;obtain⟨y,ys,rfl,h3,h4⟩:=hb;simp only[Eg,cy]at h;obtain⟨e1,e2⟩:=aa7 h.1 h1 h3 n;obtain⟨e3,e4⟩:=aa9 h.2 h2 h4 n;subst e1 e3;exact⟨rfl,by simp only[List.zip_cons_cons,List.all_cons,cy];exact⟨e2,e4⟩⟩
 |[],_::_,_,_,h,_,_,_=>by simp[Eg]at h
 |_::_,[],_,_,h,_,_,_=>by simp[Eg]at h
theorem aa8{a b:AV}{va vb:Value}(h:Lg a b=true)(ha:VR φ a va)(hb:VR φ b vb)(n:Nat):va=vb∧Instr.sameBits (n+1) va vb=true:=by
 unfold Lg at h;split at h
 ·obtain⟨x,rfl,h1⟩:=ha;obtain⟨y,rfl,h2⟩:=hb;obtain⟨e,e2⟩:=aa9 h h1 h2 n;have:x=y:=by cases x;cases y;simpa using e
  subst this;exact⟨rfl,by simp only[Instr.sameBits,beq_self_eq_true,jf];exact e2⟩
 ·exact aa7 h ha hb (n+1)
theorem ac3{old new:Value}(h:Instr.sameBits 10000 old new=true)(w:World):(Instr.keyThatStays old new).run P w=.ok new w:=by unfold Instr.keyThatStays;rw[aN h];rfl
theorem dx.get:∀{es:List (AV×AV×Nat)} {ms:List MapEntry},dx φ es ms->∀{i:Nat} {k v:AV} {b:Nat},es[i]? =some (k,v,b)->∃m,ms[i]? =some m∧VR φ k m.key∧VR φ v m.val∧m.born=b
 |[],_,_,i,_,_,_,h=>by simp at h
 |(k,v,b)::es,_,he,i,k',v',b',h=>by
  simp only[dx]at he;obtain⟨m,ms,rfl,h1,h2,h3,h4⟩:=he;cases i with
  |zero=>simp at h;obtain⟨rfl,rfl,rfl⟩:=h;exact⟨m,rfl,h1,h2,h3⟩
  |succ i=>simp only[List.getElem?_cons_succ]at h⊢;exact dx.get h4 h
theorem dx.A2{f:AV×AV×Nat->AV×AV×Nat}{g:MapEntry->MapEntry}:∀{es:List (AV×AV×Nat)} {ms:List MapEntry},dx φ es ms->∀{i:Nat},
 (∀k v b m,es[i]? =some (k,v,b)->ms[i]? =some m->VR φ k m.key->VR φ v m.val->m.born=b->VR φ (f (k,v,b)).1 (g m).key∧VR φ (f (k,v,b)).2.1 (g m).val∧(g m).born=(f (k,v,b)).2.2)->
 dx φ (pT es i f) (ms.modify i g)
 |[],_,he,i,_=>by simp only[dx]at he;subst he;simp[pT,dx]
 |(k,v,b)::es,_,he,i,h=>by
  simp only[dx]at he;obtain⟨m,ms,rfl,h1,h2,h3,h4⟩:=he;cases i with
  |zero=>obtain⟨e1,e2,e3⟩:=h k v b m rfl rfl h1 h2 h3;simp only[pT,List.modify_zero_cons];exact⟨g m,ms,rfl,e1,e2,e3,h4⟩
  |succ i=>simp only[pT,List.modify_succ_cons];exact⟨m,_,rfl,h1,h2,h3,dx.A2 h4 (fun k v b m a1 a2=>h k v b m (by simpa using a1) (by simpa using a2))⟩
theorem dx.Gh:∀{es bQ:List (AV×AV×Nat)} {ms Nm:List MapEntry},dx φ es ms->dx φ bQ Nm->dx φ (es++bQ) (ms++Nm)
 |[],_,_,_,he,h'=>by simp only[dx]at he;subst he;simpa using h'
 |(k,v,b)::es,_,_,_,he,h'=>by simp only[dx]at he;obtain⟨m,ms,rfl,h1,h2,h3,h4⟩:=he;exact⟨m,_,rfl,h1,h2,h3,dx.Gh h4 h'⟩
theorem dx.Pd:∀{es:List (AV×AV×Nat)} {ms:List MapEntry},dx φ es ms->∀i,dx φ (zA es i) (ms.eraseIdx i)
 |[],_,he,i=>by simp only[dx]at he;subst he;simp[zA,dx]
 |(k,v,b)::es,_,he,i=>by
  simp only[dx]at he;obtain⟨m,ms,rfl,h1,h2,h3,h4⟩:=he;cases i with
  |zero=>simpa[zA]using h4
  |succ i=>simp only[zA,List.eraseIdx_cons_succ];exact⟨m,_,rfl,h1,h2,h3,dx.Pd h4 i⟩
theorem dx.abn:∀{es:List (AV×AV×Nat)} {ms:List MapEntry},dx φ es ms->∀(b:Nat),ms.findIdx? (fun e=>(e.born:Int)==(b:Int))=es.findIdx? (fun e=>Nat.beq e.2.2 b)
 |[],_,he,b=>by simp only[dx]at he;subst he;simp
 |(k,v,b')::es,_,he,b=>by
  simp only[dx]at he;obtain⟨m,ms,rfl,h1,h2,h3,h4⟩:=he;simp only[List.findIdx?_cons];have e1:((m.born:Int)==(b:Int))=Nat.beq b' b:=by rw[Tr.vT,h3,Bool.eq_iff_iff];simp;omega
  rw[e1,dx.abn h4 b]
theorem TM{r:Nat}{o o':Obj}(hb:w.heap[r]? =some o):(w.heap.setIfInBounds r o')[r]? =some o'∧∀r',r'≠r->(w.heap.setIfInBounds r o')[r']? =w.heap[r']? :=by have an:r<w.heap.size:=(Array.getElem?_eq_some_iff.1 hb).1;exact⟨by simp[an],fun r' c6=>by simp[Ne.symm c6]⟩
theorem WR.AJ(hw:WR φ base H w){id:Nat}{ob cp:bc}{e:PE}{o o':Obj}(ho:H.bD id=some ob)(hl:ob.aE=true)(he:φ id=some e)(hg:w.heap[e.b]? =some o)(hc:o.isCells=false)(r9:OR φ cp e o'):
 ∃w',(setObj e.b o').run P w=.ok () w'∧WR φ base (H.dS id cp) w'∧dm base w w':=by
 have hs:=TM (o':=o') hg;refine⟨_,agc (P:=P) hg hc,hw.put ho hl he (by simp) (fun b hb=>hs.2 b hb) ⟨o',hs.1,r9⟩,dm.IG hw he (by simp) (fun b hb=>hs.2 b hb)⟩
theorem Wt{kt:TypeId}{k:AV}(hp:ru P kt k=true):∃d,P.underlying kt=some d:=by
 cases T5:P.underlying kt with
 |none=>simp[ru,T5]at hp
 |some d=>exact⟨d,rfl⟩
theorem Ll{p:Bool}{k v:AV}{vk vv:Value}(h:wU p k v=true)(hk:VR φ k vk)(hv:VR φ v vv)(hp:p=true):VR gU k vk∧VR gU v vv:=by subst hp;simp only[wU,cond_true,cy]at h;exact⟨VR.pure k vk h.1 hk,VR.pure v vv h.2 hv⟩
theorem adG(hw:WR φ base H w){t:TypeId}{m k v:AV}{vm vk vv:Value}{H':AH}(h:Fy P H t m k v=some H')(hm:VR φ m vm)(hk:VR φ k vk)(hv:VR φ v vv):
 ∃w',(Instr.mapUpdate t vm vk vv).run P w=.ok () w'∧WR φ base H' w'∧dm base w w'∧∀m,da m φ H φ H':=by
 unfold Fy at h;split at h
 ·rename_i kt elem id hu;split at h
  ·rename_i es db p ho;obtain⟨e,he,rfl⟩:=hm;obtain⟨o,hg,bQ,rfl,jE,yC⟩:=hw.fP id _ e ho he;obtain⟨hpf,h⟩:=di h;simp only[cy]at hpf;obtain⟨hp,kA⟩:=hpf;have kA:=Ll kA hk hv;obtain⟨d,hd⟩:=Wt hp;have r5:=KS (φ:=φ) hp hk false 9998 w;split at h
   ·rename_i i x b hf;obtain⟨B0,h⟩:=di h;cases h;obtain⟨r',h1,h2⟩:=zG hd hk jE hf w;obtain⟨me,k0,rfl,e3,e4,e5,e6⟩:=h2.at;have R0:bQ[i]? =some me:=by simpa using e4
    have zX:vk=me.key∧Instr.sameBits 10000 me.key vk=true:=by unfold yY at B0;rw[e3]at B0;obtain⟨m',a1,a2,_,_⟩:=jE.get e3;rw[e4]at a1;cases a1;have:=aa8 B0 a2 hk 9999;exact⟨this.1.symm,this.2⟩
    obtain⟨w',b1,b2,b3⟩:=hw.AJ (P:=P) (cp:=.bM (pT es i fun e=>(k,v,e.2.2)) db p) (o':=.map (bQ.modify i fun e=>{e with key:=vk,val:=vv}) db) ho rfl he hg rfl
     ⟨_,rfl,by rw[Array.toList_modify];exact⟨jE.A2 (fun k v b m _ _ _ _ hb=>⟨hk,hv,hb⟩),fun hp=>(yC hp).A2 (fun k v b m _ _ _ _ hb=>⟨(kA hp).1,(kA hp).2,hb⟩)⟩⟩
    refine⟨w',?_,b2,b3,fun m=>da.nQ he _⟩;simp only[Instr.mapUpdate,Sem.run_bind,run_underlying hu w,Result.andThen_ok,qN (P:=P) hg rfl,r5,h1,R0,Option.map_some,Option.getD_some,ac3 (P:=P) zX.2,b1]
   ·rename_i hf;cases h;obtain⟨r',h1,h2⟩:=zG hd hk jE hf w;simp only[zg]at h2;subst h2;obtain⟨w',b1,b2,b3⟩:=hw.AJ (P:=P) (cp:=.bM (es++[(k,v,db)]) (db+1) p) (o':=.map (bQ.push {key:=vk,val:=vv,born:=db}) (db+1)) ho rfl he hg rfl
     ⟨_,rfl,by rw[Array.toList_push];exact⟨jE.Gh ⟨_,[],rfl,hk,hv,rfl,by simp[dx]⟩,fun hp=>(yC hp).Gh ⟨_,[],rfl,(kA hp).1,(kA hp).2,rfl,by simp[dx]⟩⟩⟩
    refine⟨w',?_,b2,b3,fun m=>da.nQ he _⟩;simp only[Instr.mapUpdate,Sem.run_bind,run_underlying hu w,Result.andThen_ok,qN (P:=P) hg rfl,r5,h1,b1]
   ·cases h
  ·cases h
 ·cases h
end
section
variable{P:Program}{φ:bu}{base:ez}{m:Nat}{H:AH}{w:World}{ρ:Operand->Option AV}{ev:Operand->Value}
theorem gi.of{s:Sem Value}{v:AV}{H':AH}{bf:bu}{w':World}{v':Value}(h:s.run P w=.ok v' w')(hv:VR bf v v')(hw:WR bf base H' w')(he:da m φ H bf H')(hk:dm base w w'):
 gi P m base φ H w (do pure (.value (←s)):Sem Next) v H':=⟨bf,w',v',.inl (Ei h),hv,hw,he,hk⟩
theorem gi.skip{s:Sem Unit}{H':AH}{bf:bu}{w':World}(h:s.run P w=.ok () w')(hw:WR bf base H' w')(he:da m φ H bf H')(hk:dm base w w'):
 gi P m base φ H w (do s;pure .skip:Sem Next) .lU H':=⟨bf,w',undef,.inr ⟨by simp[h],rfl⟩,Gd _,hw,he,hk⟩
theorem Wj{a b:AV}{x y:Value}(ha:VR φ a x)(hb:VR φ b y):VR φ (.aO [a,b]) (.tuple #[x,y]):=⟨_,rfl,pE.2 ⟨ha,nS hb⟩⟩
theorem agM{a b c:AV}{x y z:Value}(ha:VR φ a x)(hb:VR φ b y)(hc:VR φ c z):VR φ (.aO [a,b,c]) (.tuple #[x,y,z]):=⟨_,rfl,pE.2 ⟨ha,pE.2 ⟨hb,nS hc⟩⟩⟩
theorem ajM(hw:WR φ base H w){t kt elem:TypeId}{id:Nat}{key:AV}{vk:Value}{e:PE}{aU:fU}(hu:P.underlying t=some (.map kt elem))(h:Lc P H kt elem id key=some aU)(he:φ id=some e)(hk:VR φ key vk):
 ∃v H',aU=.iC v H'∧gi P m base φ H w (do pure (.value (←Instr.mapEntry t (.map (some e.b)) vk)):Sem Next) v H':=by
 unfold Lc at h;split at h
 ·rename_i es db p ho;obtain⟨o,hg,bQ,rfl,jE,yC⟩:=hw.fP id _ e ho he;obtain⟨hp,h⟩:=di h;obtain⟨d,hd⟩:=Wt hp;have r5:=KS (φ:=φ) hp hk false 9998 w;split at h
  ·rename_i i x b hf;obtain⟨acF,h⟩:=di h;simp only[cy]at acF;obtain⟨B0,kA⟩:=acF;have kA:=Ll (φ:=φ) (vv:=.pointer none) kA hk (by simp[VR]);cases h;obtain⟨r',h1,h2⟩:=zG hd hk jE hf w;obtain⟨me,k0,rfl,e3,e4,e5,e6⟩:=h2.at;have R0:bQ[i]? =some me:=by simpa using e4
   have zX:vk=me.key∧Instr.sameBits 10000 me.key vk=true:=by unfold yY at B0;rw[e3]at B0;obtain⟨m',a1,a2,_,_⟩:=jE.get e3;rw[e4]at a1;cases a1;have:=aa8 B0 a2 hk 9999;exact⟨this.1.symm,this.2⟩
   obtain⟨w',b1,b2,b3⟩:=hw.AJ (P:=P) (cp:=.bM (pT es i fun e=>(key,e.2)) db p) (o':=.map (bQ.modify i fun e=>{e with key:=vk}) db) ho rfl he hg rfl
    ⟨_,rfl,by rw[Array.toList_modify];exact⟨jE.A2 (fun k v b m _ _ _ hv hb=>⟨hk,hv,hb⟩),fun hp=>(yC hp).A2 (fun k v b m _ _ _ hv hb=>⟨(kA hp).1,hv,hb⟩)⟩⟩
   refine⟨_,_,rfl,gi.of (v':=.tuple #[me.val,goInt me.born]) ?_ (Wj e5 (by rw[e6];exact vq b)) b2 (da.nQ he _) b3⟩;simp only[Instr.mapEntry,Sem.run_bind,run_underlying hu w,Result.andThen_ok,qN (P:=P) hg rfl,r5,h1,R0,Option.map_some,Option.getD_some,ac3 (P:=P) zX.2,b1,Sem.run_pure]
  ·rename_i hf;split at h
   ·rename_i z hz;obtain⟨kA,h⟩:=di h;cases h;obtain⟨vz,Ip,UU⟩:=xN (φ:=φ) hz;have kA:=Ll kA hk Ip;obtain⟨r',h1,h2⟩:=zG hd hk jE hf w;simp only[zg]at h2;subst h2;obtain⟨w',b1,b2,b3⟩:=hw.AJ (P:=P) (cp:=.bM (es++[(key,z,db)]) (db+1) p) (o':=.map (bQ.push {key:=vk,val:=vz,born:=db}) (db+1)) ho rfl he hg rfl
     ⟨_,rfl,by rw[Array.toList_push];exact⟨jE.Gh ⟨_,[],rfl,hk,Ip,rfl,by simp[dx]⟩,fun hp=>(yC hp).Gh ⟨_,[],rfl,(kA hp).1,(kA hp).2,rfl,by simp[dx]⟩⟩⟩
    refine⟨_,_,rfl,gi.of (v':=.tuple #[vz,goInt db]) ?_ (Wj Ip (vq db)) b2 (da.nQ he _) b3⟩;simp only[Instr.mapEntry,Sem.run_bind,run_underlying hu w,Result.andThen_ok,qN (P:=P) hg rfl,r5,h1,UU w,b1,Sem.run_pure]
   ·cases h
  ·cases h
 ·cases h
theorem ajN(hw:WR φ base H w){t:TypeId}{id born:Nat}{k:IntKind}{v:AV}{vv:Value}{e:PE}{aU:fU}(h:Ld H id born v=some aU)(he:φ id=some e)(hv:VR φ v vv):
 ∃H',aU=.iC .lU H'∧gi P m base φ H w (do Instr.entryStore t (.map (some e.b)) (.int k (born:Int)) vv;pure .skip:Sem Next) .lU H':=by
 unfold Ld at h;split at h
 ·rename_i es db p ho;obtain⟨o,hg,bQ,rfl,jE,yC⟩:=hw.fP id _ e ho he;split at h
  ·rename_i i hi;obtain⟨kA,h⟩:=di h;have kA:=Ll (φ:=φ) (vk:=.pointer none) kA (by simp[VR]) hv;cases h;have hf:=jE.abn born;rw[hi]at hf;have L9:bQ.findIdx? (fun e=>(e.born:Int)==(born:Int))=some i:=by cases bQ;simpa using hf
   obtain⟨w',b1,b2,b3⟩:=hw.AJ (P:=P) (cp:=.bM (pT es i fun e=>(e.1,v,e.2.2)) db p) (o':=.map (bQ.modify i fun e=>{e with val:=vv}) db) ho rfl he hg rfl
    ⟨_,rfl,by rw[Array.toList_modify];exact⟨jE.A2 (fun k v b m _ _ hk _ hb=>⟨hk,hv,hb⟩),fun hp=>(yC hp).A2 (fun k v b m _ _ hk _ hb=>⟨hk,(kA hp).2,hb⟩)⟩⟩
   refine⟨_,rfl,gi.skip ?_ b2 (da.nQ he _) b3⟩;simp only[Instr.entryStore,Sem.run_bind,qN (P:=P) hg rfl,Result.andThen_ok,asInt,asIntOf,Sem.run_pure,L9,b1]
  ·cases h
 ·cases h
theorem WR.yM(hw:WR φ base H w)(hb:gQ base w){ob:bc}{o':Obj}{n:Nat}(r9:∀ψ b,fq φ ψ->OR ψ ob ⟨b,0,n⟩ o')(hm:m<=H.bW):
 WR (j4 φ H.bW ⟨w.heap.size,0,n⟩) base (H.iN ob) (w.alloc o')∧da m φ H (j4 φ H.bW ⟨w.heap.size,0,n⟩) (H.iN ob)∧dm base w (w.alloc o'):=by
 have hf:=hw.mF (eh H.bW);refine⟨(hw.new ob).Z8 hf (by simp) hb r9,?_,dm.alloc hb o'⟩;refine⟨KL hf,by rw[yO];omega,fun id hi hn=>⟨?_,.inl (by rw[uB,az (by omega)])⟩⟩;simp only[j4];rw[az (by omega)];exact hn
theorem U3(n:Nat):VR (j4 φ H.bW ⟨w.heap.size,0,n⟩) (.ad H.bW 0) (.pointer (some ⟨w.heap.size,0,none⟩)):=by simp only[VR];exact⟨_,ov _ _ _,rfl⟩
theorem ala(hw:WR φ base H w)(hb:gQ base w)(hm:m<=H.bW){t:TypeId}{x:Operand}{aU:fU}(hr:∀a,ρ x=some a->VR φ a (ev x))(h:HM P ρ H t x=some aU):
 ∃v H',aU=.iC v H'∧gi P m base φ H w (do pure (.value (←Instr.range t (ev x))):Sem Next) v H':=by
 unfold HM at h;split at h
 ·rename_i s hu hx;cases h;obtain⟨b,hv,rfl⟩:=hr _ hx;obtain⟨h1,h2,h3⟩:=hw.yM (m:=m) hb (ob:=.rB (gV b) 0) (o':=.stringIter b 0) (n:=0) (fun ψ b' _=>⟨b,rfl,rfl,rfl⟩) hm;refine⟨_,_,rfl,gi.of (v':=.pointer (some ⟨w.heap.size,0,none⟩)) ?_ (U3 _) h1 h2 h3⟩;simp[Instr.range,run_underlying hu w,hv]
 ·rename_i kt el hu hx;cases h;have hv:=hr _ hx;simp only[VR]at hv;obtain⟨h1,h2,h3⟩:=hw.yM (m:=m) hb (ob:=.sI none 0 [] 0) (o':=.mapIter none 0 #[] 0) (n:=0) (fun ψ b' _=>⟨none,rfl,rfl,rfl⟩) hm;refine⟨_,_,rfl,gi.of (v':=.pointer (some ⟨w.heap.size,0,none⟩)) ?_ (U3 _) h1 h2 h3⟩;simp[Instr.range,run_underlying hu w,hv]
 ·rename_i kt el id hu hx;obtain⟨e,he,hv⟩:=hr _ hx;unfold ae4 at h;split at h
  ·rename_i es db p ho;cases h;obtain⟨o,hg,bQ,rfl,jE,_⟩:=hw.fP id _ e ho he;obtain⟨h1,h2,h3⟩:=hw.yM (m:=m) hb (ob:=.sI (some id) db [] db) (o':=.mapIter (some e.b) db #[] db) (n:=0) (fun ψ b' de=>⟨some e.b,rfl,rfl,e,de _ _ he,rfl⟩) hm;refine⟨_,_,rfl,gi.of (v':=.pointer (some ⟨w.heap.size,0,none⟩)) ?_ (U3 _) h1 h2 h3⟩;simp[Instr.range,run_underlying hu w,hv,qN (P:=P) hg rfl]
  ·cases h
 ·cases h
theorem aja(hw:WR φ base H w){ts:Array TypeId}{T:TypeId}{id:Nat}{key:AV}{vk:Value}{e:PE}{aU:fU}{vs:Array Value}(h:DQ P H ts id key=some aU)(he:φ id=some e)(hk:VR φ key vk)
 (hv:vs.toList=[.map (some e.b),vk]):
 ∃v H',aU=.iC v H'∧gi P m base φ H w (do pure (.value (←Builtin.delete_ ts T vs)):Sem Next) v H':=by
 have v0:vs[0]? =some (.map (some e.b)):=by rw[←Array.getElem?_toList,hv];rfl
 have v1:vs[1]? =some vk:=by rw[←Array.getElem?_toList,hv];rfl
 unfold DQ at h;split at h
 ·rename_i kt el es db p hu ho;obtain⟨o,hg,bQ,rfl,jE,yC⟩:=hw.fP id _ e ho he;obtain⟨hp,h⟩:=di h;obtain⟨d,hd⟩:=Wt hp;have r5:=KS (φ:=φ) hp hk bQ.isEmpty 9998 w;cases ht:ts[0]? with
  |none=>simp[ht]at hu
  |some t=>
   simp only[ht,Option.bind_some]at hu;split at h
   ·rename_i i x b hf;cases h;obtain⟨r',h1,h2⟩:=zG hd hk jE hf w;obtain⟨me,k0,rfl,e3,e4,e5,e6⟩:=h2.at;obtain⟨w',b1,b2,b3⟩:=hw.AJ (P:=P) (cp:=.bM (zA es i) db p) (o':=.map (bQ.eraseIdxIfInBounds i) db) ho rfl he hg rfl
     ⟨_,rfl,by
       have:(bQ.eraseIdxIfInBounds i).toList=bQ.toList.eraseIdx i:=by simp
       rw[this];exact⟨jE.Pd i,fun hp=>(yC hp).Pd i⟩⟩
    refine⟨_,_,rfl,gi.of (v':=.tuple #[]) ?_ (Gd _) b2 (da.nQ he _) b3⟩;simp only[Builtin.delete_,ht,v0,v1,Sem.run_bind,run_underlying hu w,Result.andThen_ok,qN (P:=P) hg rfl,r5,h1,b1,Sem.run_pure]
   ·rename_i hf;cases h;obtain⟨r',h1,h2⟩:=zG hd hk jE hf w;simp only[zg]at h2;subst h2;have an:e.b<w.heap.size:=(hw.lt id e he).1;have zX:w.heap.setIfInBounds e.b (.map bQ db)=w.heap:=by
     apply Array.ext_getElem?;intro j;by_cases hj:j=e.b
     ·subst hj;rw[(TM hg).1,hg]
     ·rw[(TM hg).2 j hj]
    refine⟨_,_,rfl,gi.of (bf:=φ) (w':={w with heap:=w.heap.setIfInBounds e.b (.map bQ db)}) (v':=.tuple #[]) ?_ (Gd _) (hw.uM zX) (da.j9 _ _ _) (dm.uM zX)⟩;simp only[Builtin.delete_,ht,v0,v1,Sem.run_bind,run_underlying hu w,Result.andThen_ok,qN (P:=P) hg rfl,r5,h1,agc (P:=P) (o':=.map bQ db) hg rfl,Sem.run_pure]
   ·cases h
 ·cases h
end
section
variable{P:Program}{φ:bu}{base:ez}{m:Nat}{H:AH}{w:World}{ρ:Operand->Option AV}{ev:Operand->Value}
theorem dx.X_(q:Nat->Bool):∀{es:List (AV×AV×Nat)} {ms:List MapEntry},dx φ es ms->dx φ (es.filter fun e=>q e.2.2) (ms.filter fun x=>q x.born)
 |[],_,h=>by simp only[dx]at h;subst h;simp[dx]
 |(k,v,b)::es,_,h=>by
  simp only[dx]at h;obtain⟨x,ms,rfl,h1,h2,h3,h4⟩:=h;have ih:=dx.X_ q h4;by_cases hq:q b=true
  ·rw[List.filter_cons_of_pos (by simpa using hq),List.filter_cons_of_pos (by simpa[h3]using hq)];exact⟨x,_,rfl,h1,h2,h3,ih⟩
  ·rw[List.filter_cons_of_neg (by simpa using hq),List.filter_cons_of_neg (by simpa[h3]using hq)];exact ih
theorem dx.all(q:Nat->Bool):∀{es:List (AV×AV×Nat)} {ms:List MapEntry},dx φ es ms->ms.all (fun x=>q x.born)=es.all (fun e=>q e.2.2)
 |[],_,h=>by simp only[dx]at h;subst h;simp
 |(k,v,b)::es,_,h=>by simp only[dx]at h;obtain⟨x,ms,rfl,h1,h2,h3,h4⟩:=h;simp only[List.all_cons,dx.all q h4,h3]
theorem adX{it:Value}{T:TypeId}(h:(Instr.next it false T).run P w=.ok (.tuple #[.bool false]) w)(hw:WR φ base H w):gi P m base φ H w (do pure (.value (←Instr.next it false T)):Sem Next) (.aO [.aA false]) H:=
 gi.of h ⟨_,rfl,nS (by simp[VR])⟩ hw (da.j9 _ _ _) (dm.kN _ _)
theorem auN(iL:LN)(b:Nat):iL.toArray.contains b=iL.any (Nat.beq b):=by
 rw[Bool.eq_iff_iff];simp only[List.contains_toArray,List.contains_iff_mem,List.any_eq_true];constructor
 ·intro h;exact⟨b,h,by simp⟩
 ·rintro⟨x,h1,h2⟩;have:=eI h2;subst this;exact h1
theorem anG(hw:WR φ base H w){r mm og last db:Nat}{iL:LN}{es:List (AV×AV×Nat)}{er em:PE}{aU:fU}{T:TypeId}
 (h:VO H r mm og iL last es db=some aU) (hr:H.bD r=some (.sI (some mm) og iL last)) (yp:φ r=some er) {p:Bool} (ho:H.bD mm=some (.bM es db p)) (zR:φ mm=some em):
 ∃v H',aU=.iC v H'∧gi P m base φ H w (do pure (.value (←Instr.next (.pointer (some ⟨er.b,0,none⟩)) false T)):Sem Next) v H':=by
 obtain⟨o,hg,m',rfl,alw,vH⟩:=hw.fP r _ er hr yp;obtain⟨e',r6,rfl⟩:=vH;rw[zR]at r6;cases r6;obtain⟨o2,yr,bQ,rfl,jE,-⟩:=hw.fP mm _ em ho zR;have h1:=qN (P:=P) hg rfl;have h2:=qN (P:=P) yr rfl;unfold VO at h;cases hc:(!iL.isEmpty&& !es.isEmpty&&es.all (fun e=>Nat.ble last e.2.2));case true=>rw[hc]at h;cases h
 rw[hc]at h;simp only[cond_false]at h;have ud:(!iL.toArray.isEmpty&& !bQ.isEmpty&&bQ.all (fun x=>decide (x.born>=last)))=false:=by
  have e1:iL.toArray.isEmpty=iL.isEmpty:=by cases iL<;>rfl
  have e2:bQ.isEmpty=es.isEmpty:=by have:=jE.Pe;cases es<;>cases bQ<;>rename_i l<;>cases l<;>simp at this⊢
  have e3:bQ.all (fun x=>decide (x.born>=last))=es.all (fun e=>Nat.ble last e.2.2):=by rw[←jE.all (fun b=>Nat.ble last b),←Array.all_toList];congr 1;funext x;rw[Bool.eq_iff_iff];simp
  rw[e1,e2,e3];exact hc
 have EW:dx φ (es.filter fun e=> !iL.any (Nat.beq e.2.2)) (bQ.filter fun e=> !iL.toArray.contains e.born).toList:=by
  have:=jE.X_ (fun b=> !iL.any (Nat.beq b));rw[Array.toList_filter];have e:(fun(e:MapEntry)=> !iL.toArray.contains e.born)=(fun(x:MapEntry)=>(fun b=> !iL.any (Nat.beq b)) x.born):=by funext x;simp only[auN]
  rw[e];exact this
 generalize es.filter (fun e=> !iL.any (Nat.beq e.2.2))=left at h EW;generalize hL:bQ.filter (fun e=> !iL.toArray.contains e.born)=Ci at EW;split at h
 ·simp only[FJ]at h;cases h;simp only[dx]at EW;have yv:Ci= #[]:=by cases Ci;simpa using EW
  subst yv;refine⟨_,_,rfl,adX ?_ hw⟩;have hf:(Question.mapNext 1).forced=true:=rfl;simp only[Instr.next,Sem.run_bind,h1,Result.andThen_ok,h2,ud,hL];simp[hf]
 ·rename_i e;obtain⟨hb,h⟩:=di h;cases h;obtain⟨k,v,b⟩:=e;simp only[dx]at EW;obtain⟨x,ms,hx,a1,a2,a3,rfl⟩:=EW;have mK:Ci= #[x]:=by cases Ci;simpa using hx
  subst mK;have an:b<og:=by have:=Nat.le_of_ble_eq_true hb;simp at this;omega
  obtain⟨w',b1,b2,b3⟩:=hw.AJ (P:=P) (cp:=.sI (some mm) og (iL++[b]) db) (o':=.mapIter (some em.b) og (iL++[b]).toArray db) hr rfl yp hg rfl
   ⟨some em.b,rfl,alw,em,zR,rfl⟩
  refine⟨_,_,rfl,gi.of (v':=.tuple #[.bool true,x.key,x.val]) ?_ (agM (by simp[VR]) a1 a2) b2 (da.nQ yp _) b3⟩;have hf:(Question.mapNext 1).forced=true:=rfl;have MK:x.born<og:=by rw[a3];exact an
  have o1:(#[x]:Array MapEntry).filter (fun e=>decide (e.born<og))= #[x]:=by simp[MK]
  have o2:(#[x]:Array MapEntry).filter (fun e=>decide (e.born>=og))= #[]:=by simp;omega
  simp only[Instr.next,Sem.run_bind,h1,Result.andThen_ok,h2,ud,hL,o1,o2];simp[hf];rw[a3,b1];rfl
 ·cases h
theorem ak7(hw:WR φ base H w){it:Operand}{tg:Bool}{aU:fU}{T:TypeId}(hr:∀a,ρ it=some a->VR φ a (ev it))(h:HL ρ H it tg=some aU):
 ∃v H',aU=.iC v H'∧gi P m base φ H w (do pure (.value (←Instr.next (ev it) tg T)):Sem Next) v H':=by
 unfold HL at h;split at h
 ·rename_i r hx;obtain⟨e,he,hv⟩:=hr _ hx;unfold adV at h;split at h
  ·rename_i s pos ho;obtain⟨o,hg,b,rfl,rfl,h0⟩:=hw.fP r _ e ho he;have h1:=qN (P:=P) hg rfl;rw[h0]at hv;unfold adW at h;split at h
   ·rename_i hn;simp only[FJ]at h;cases h;have an:¬pos<b.size:=by intro an;rw[List.getElem?_eq_none_iff,uP]at hn;omega
    refine⟨_,_,rfl,gi.of (v':=.tuple #[.bool false]) ?_ ⟨_,rfl,nS (by simp[VR])⟩ hw (da.j9 _ _ _) (dm.kN _ _)⟩;simp[Instr.next,hv,h1,an]
   ·rename_i c hc;obtain⟨hb,h⟩:=di h;cases h;have an:pos<b.size:=by
     rcases Nat.lt_or_ge pos b.size with h|h
     ·exact h
     ·rw[List.getElem?_eq_none (by rw[uP];exact h)]at hc;cases hc
    have hcb:(b[pos]'an).toNat=c:=by
     simp only[gV,List.getElem?_map]at hc;have hl:pos<b.data.toList.length:=by simpa using an
     rw[jN hl]at hc;simp only[Option.map_some,nu]at hc;exact hc
    have hd:=decode_ascii b pos an (by have:=Nat.le_of_ble_eq_true hb;omega);obtain⟨w',b1,b2,b3⟩:=hw.AJ (P:=P) (cp:=.rB (gV b) (pos+1)) (o':=.stringIter b (pos+1)) ho rfl he hg rfl ⟨b,rfl,rfl,h0⟩;refine⟨_,_,rfl,gi.of (v':=.tuple #[.bool true,goInt pos,.int .i32 c]) ?_ (agM (by simp[VR]) (vq pos) (by simp[VR])) b2 (da.nQ he _) b3⟩;rw[hcb]at hd;simp[Instr.next,hv,h1,an,hd,b1]
  ·rename_i og iL last ho;obtain⟨o,hg,m',rfl,h0,rfl⟩:=hw.fP r _ e ho he;have h1:=qN (P:=P) hg rfl;rw[h0]at hv;simp only[FJ]at h;cases h;refine⟨_,_,rfl,?_⟩;rw[hv];exact adX (by simp[Instr.next,h1]) hw
  ·rename_i mm og iL last ho;split at h
   ·rename_i es db p Ug;obtain⟨o,hg,m',rfl,h0,em,zR,_⟩:=hw.fP r _ e ho he;rw[hv,h0];exact anG hw h ho he Ug zR
   ·cases h
  ·cases h
 ·cases h
theorem ak5(hw:WR φ base H w){it:Operand}{aU:fU}(hr:∀a,ρ it=some a->VR φ a (ev it))(h:LL ρ H it=some aU):
 ∃v H',aU=.iC v H'∧gi P m base φ H w (do pure (.value (←Instr.entry (ev it))):Sem Next) v H':=by
 unfold LL at h;split at h
 ·rename_i r hx;obtain⟨e,he,hv⟩:=hr _ hx;split at h
  ·rename_i mm og iL y8 ho;obtain⟨o,hg,m',rfl,h0,em,zR,rfl⟩:=hw.fP r _ e ho he;rw[h0]at hv;have h1:=qN (P:=P) hg rfl;unfold aa3 at h;split at h
   ·rename_i y6 es db p hs Ug;obtain⟨o2,yr,bQ,rfl,jE,-⟩:=hw.fP mm _ em Ug zR;have h2:=qN (P:=P) yr rfl;obtain⟨hb,h⟩:=di h;have hc:db=y8:=eI hb;split at h
    ·rename_i x hx;cases h;have key:∀{es:List (AV×AV×Nat)} {ms:List MapEntry},dx φ es ms->es.find? (fun e=>Nat.beq e.2.2 y6)=some x->∃y,ms.find? (fun y=>y.born==y6)=some y∧VR φ x.1 y.key∧VR φ x.2.1 y.val:=by
      intro es;induction es with
      |nil=>intro ms _ h;simp at h
      |cons p es ih=>
       obtain⟨k,v,b⟩:=p;intro ms jE h;simp only[dx]at jE;obtain⟨y,ms,rfl,a1,a2,a3,a4⟩:=jE;rw[List.find?_cons]at h;cases hq:Nat.beq b y6
       ·rw[hq]at h;obtain⟨z,b1,b2⟩:=ih a4 h;refine⟨z,?_,b2⟩;rw[List.find?_cons];have:(y.born==y6)=false:=by rw[a3];rw[Tr.vT]at hq;simpa using hq
        rw[this];exact b1
       ·rw[hq]at h;cases h;refine⟨y,?_,a1,a2⟩;rw[List.find?_cons];have:(y.born==y6)=true:=by rw[a3];have:=eI hq;simp[this]
        rw[this]
     obtain⟨y,b1,b2,b3⟩:=key jE hx;have b1':bQ.find? (fun y=>y.born==y6)=some y:=by cases bQ;simpa using b1
     refine⟨_,_,rfl,gi.of (v':=.tuple #[y.key,y.val]) ?_ (Wj b2 b3) hw (da.j9 _ _ _) (dm.kN _ _)⟩;have yF:iL.toArray.back? =some y6:=by simpa using hs
     subst hc;simp[Instr.entry,hv,h1,yF,h2,b1']
    ·cases h
   ·cases h
  ·cases h
 ·cases h
end
section
variable{P:Program}{φ:bu}{base:ez}{m:Nat}{H:AH}{w:World}{ρ:Operand->Option AV}{ev:Operand->Value}
theorem abW(Nr:Nat):∀(r c:Nat),Builtin.growBy Nr r c<=max c (Nr+(Nr+768)/ 4)
 |0,c=>by simp[Builtin.growBy];omega
 |r+1,c=>by
  simp only[Builtin.growBy];split
  ·omega
  ·have:=abW Nr r (c+(c+768)/ 4);omega
theorem anH{Np c:Nat}(h:c<Np):Builtin.nextslicecap Np c<=2*Np+192:=by
 unfold Builtin.nextslicecap;split
 ·omega
 ·split
  ·omega
  ·have:=abW Np 4 c;omega
def Cf:TypeDesc->Bool
 |.int _=>true
 |_=>false
def GL(P:Program)(φ:bu)(w:World)(argTypes:Array TypeId)(elem:TypeId)(sz n:Nat)(l:LV)(x:Value):Prop:=
 ∃xt d,∃cs:Array Value,argTypes[1]? =some xt∧P.underlying xt=some d∧bm φ l cs.toList∧l.length=n*sz∧
  ((Cf d=false∧(∀w,(Builtin.lenOf x).run P w=.ok n w)∧(∀w',w'.heap=w.heap->(Builtin.firstCells sz n x).run P w'=.ok cs w'))∨
   (Cf d=true∧x=.int .i64 (n:Int)∧n<=65536∧∀w',(if n*sz=0 then pure #[]else do pure (Builtin.zeroCells (←zeroValue elem).cells n):Sem (Array Value)).run P w'=.ok cs w'))
theorem Hf(hw:WR φ base H w){sz n:Nat}{l:LV}{x:AV}{vx:Value}(h:tX H sz x=some (n,l))(hx:VR φ x vx):
 ∃cs:Array Value,bm φ l cs.toList∧l.length=n*sz∧(∀w,(Builtin.lenOf vx).run P w=.ok n w)∧(∀w',w'.heap=w.heap->(Builtin.firstCells sz n vx).run P w'=.ok cs w'):=by
 unfold tX at h;split at h
 ·cases h;simp only[VR]at hx;subst hx;exact⟨#[],lX,by simp,fun w=>by simp[Builtin.lenOf],fun w' _=>by simp[Builtin.firstCells]⟩
 ·rename_i id off len cap s ex;obtain⟨hb,h⟩:=di h;have hs:s=sz:=eI hb;subst hs;split at h
  ·rename_i vs jc;obtain⟨r,hr,h⟩:=uE h;cases h;obtain⟨rfl,bH⟩:=yZ hr;obtain⟨e,y,c,he,rfl,hy,nD,qT,jv⟩:=hx;obtain⟨cs,el,hg,cW,de,hv,h1⟩:=hw.Dm jc he;by_cases h0:n*s=0
   ·refine⟨#[],?_,by simp[h0],fun w=>by simp[Builtin.lenOf],fun w' _=>?_⟩
    ·rw[h0];simp[bm]
    ·simp[Builtin.firstCells,h0,loadCells,loadCellsFrom]
   ·have T8:n≠0:=by rintro rfl;simp at h0
    have mL:y=e.o+off:=by rcases hy with h|h<;>omega
    subst mL;have oA:off+n*s<=vs.length:=by simp at bH;omega
    refine⟨((cs.toList.drop (e.o+off)).take (n*s)).toArray,?_,bH,fun w=>by simp[Builtin.lenOf],fun w' hh=>?_⟩
    ·have h2:=(hv.uX off).sK (n*s);have e2:(((cs.toList.drop e.o).take vs.length).drop off).take (n*s)=(cs.toList.drop (e.o+off)).take (n*s):=by rw[List.drop_take,List.drop_drop,List.take_take];congr 1;omega
     rw[e2]at h2;simpa using h2
    ·have:=yX (P:=P) (w:=w') (n:=n*s) (o:=e.o+off) (by rw[hh];exact hg) (by omega);simp[Builtin.firstCells,this]
  ·cases h
 ·rename_i s;obtain⟨hb,h⟩:=di h;have hs:sz=1:=eI hb;subst hs;cases h;obtain⟨b,rfl,rfl⟩:=hx;refine⟨b.data.map fun c=>.int .u8 c.toNat,?_,by simp,fun w=>by simp[Builtin.lenOf,uP],fun w' _=>?_⟩
  ·refine QZ (by simp[gV]) ?_;intro i a v h1 h2;simp only[gV,List.getElem?_map,Array.toList_map]at h1 h2;cases hq:b.data.toList[i]? with
   |none=>simp[hq]at h1
   |some u=>simp only[hq,Option.map_some,nu]at h1 h2;subst h1 h2;simp[VR]
  ·have:b.extract 0 b.size=b:=by apply XF;simp[gV]
   simp[Builtin.firstCells,uP,this]
 ·rename_i cs len s;obtain⟨hb,hq⟩:=di h;clear h;have hs:s=sz:=eI hb;subst hs;injection hq with hq
  injection hq with h1 h2
  subst h1 h2;obtain⟨a,c,rfl,bH,hd⟩:=hx;clear hb;by_cases h0:len*s=0
  ·have yv:cs=[]:=List.eq_nil_of_length_eq_zero (by omega);subst yv;refine⟨#[],lX,by simp[h0],fun w=>by simp[Builtin.lenOf],fun w' _=>?_⟩;cases a<;>simp[Builtin.firstCells,h0,loadCells,loadCellsFrom]
  ·have Ml:len≠0:=by rintro rfl;simp at h0
   rcases hd with hd|⟨b,x,fV,el,fz,rfl,nD,gF,cW,hv⟩
   ·exact absurd hd Ml
   ·refine⟨((fV.toList.drop x).take (len*s)).toArray,?_,bH,fun w=>by simp[Builtin.lenOf],fun w' hh=>?_⟩
    ·rw[bH]at hv;have hv:=bm.pW (fq.gU φ) _ _ hv;simpa using hv
    ·have:=yX (P:=P) (w:=w') (n:=len*s) (o:=x) (by rw[hh];exact(hw.ro _ _ gF).2) (by omega);simp[Builtin.firstCells,this]
 ·rename_i id len s;obtain⟨hb,hq⟩:=di h;clear h;have hs:s=sz:=eI hb;subst hs;clear hb;split at hq
  ·rename_i vs el ho;obtain⟨hl,hq⟩:=di hq;have hl:=eI hl;injection hq with hq
   injection hq with h1 h2
   subst h1 h2;rcases hx with⟨rfl,rfl⟩|⟨e,y,c,he,rfl,hy,nD,jv⟩
   ·have yv:vs=[]:=List.eq_nil_of_length_eq_zero (by omega);subst yv;exact⟨#[],lX,by simp,fun w=>by simp[Builtin.lenOf],fun w' _=>by simp[Builtin.firstCells]⟩
   ·by_cases h0:len*s=0
    ·have yv:vs=[]:=List.eq_nil_of_length_eq_zero (by omega);subst yv;exact⟨#[],lX,by simp[h0],fun w=>by simp[Builtin.lenOf],fun w' _=>by simp[Builtin.firstCells,h0,loadCells,loadCellsFrom]⟩
    ·have T8:len≠0:=by rintro rfl;simp at h0
     have mL:y=e.o:=by rcases hy with h|h<;>omega
     subst mL;obtain⟨cs,jB,hg,cW,de,hv,h1⟩:=hw.Dm (show H.oo id=some vs by simp[AH.oo,ho]) he;refine⟨((cs.toList.drop e.o).take (len*s)).toArray,by rw[hl]at hv;simpa using hv,hl,fun w=>by simp[Builtin.lenOf],fun w' hh=>?_⟩;have:=yX (P:=P) (w:=w') (n:=len*s) (o:=e.o) (by rw[hh];exact hg) (by omega);simp[Builtin.firstCells,this]
  ·cases hq
 ·cases h
theorem avx(hw:WR φ base H w){argTypes:Array TypeId}{elem:TypeId}{sz n:Nat}{l:LV}{x:AV}{vx:Value}
 (h:JB P H argTypes elem sz x=some (n,l)) (hx:VR φ x vx):GL P φ w argTypes elem sz n l vx:=by
 unfold JB at h;cases ht:argTypes[1]? with
 |none=>simp[ht]at h
 |some xt=>
  simp only[ht,Option.bind_some]at h;split at h
  ·rename_i k hu;split at h
   ·rename_i n' z hz;obtain⟨hc,h⟩:=di h;cases h;simp only[cy,Nat.ble_eq]at hc;obtain⟨hn,hl⟩:=hc;have Iq:z.eB.length=sz:=eI hl;simp only[VR]at hx;subst hx;obtain⟨vz,h1,h2⟩:=xN (φ:=φ) hz;have nj:=AV.sP h1;have oD:vz.cells.size=sz:=by have:=nj.ka;simp at this;omega
    have vN:=N1 nj n;refine⟨xt,_,((Array.range (n*vz.cells.size)).map (vz.cells[· %vz.cells.size]!)),ht,hu,vN,by rw[N0,Iq],.inr ⟨rfl,rfl,hn,fun w'=>?_⟩⟩;by_cases h0:n*sz=0
    ·rw[aN h0,oD,h0,FO];rfl
    ·rw[az h0];simp[h2 w',Builtin.zeroCells]
   ·cases h
  ·rename_i d r8 hu;obtain⟨cs,h1,h2,h3,h4⟩:=Hf (P:=P) hw h hx;refine⟨xt,d,cs,ht,hu,h1,h2,.inl ⟨?_,h3,h4⟩⟩;cases d<;>first
    |rfl
    |(exact absurd rfl (r8 _))
  ·cases h
theorem ak0(hw:WR φ base H w){ψ:bu}{elem:TypeId}{id off len sz n c:Nat}{l old vs:LV}{mC:TypeId}{e:PE}{cs:Array Value}{gn Cv:bc}(hm:m<=H.bW)(ho:H.bD id=some gn)(nh:gn.aE=true)(gE:∀o,OR φ gn e o->OR ψ (.ay vs mC) e o)(he:φ id=some e)
 (xc:∀χ e o,fq φ χ->OR ψ (.ay (old++l) elem) e o->OR χ Cv e o) (oC:ph vs off (len*sz)=some old) (hl:bm ψ l cs.toList) (hln:l.length=n*sz) (h1:(old++l).all AV.ec=true) (jv:e.o+off+c*sz<=e.n) (hc:len+n<=c):
 ∃w',(storeCells ⟨e.b,e.o+off+len*sz,none⟩ cs.toList).run P w=.ok () w'∧
  WR (j4 φ H.bW ⟨e.b,e.o+off,e.n⟩) base ((H.dS id (.bJ [])).iN Cv) w'∧
  da m φ H (j4 φ H.bW ⟨e.b,e.o+off,e.n⟩) ((H.dS id (.bJ [])).iN Cv)∧dm base w w':=by
 obtain⟨o,hg,r9⟩:=hw.fP id _ e ho he;obtain⟨kT,jB,rfl,cW,de,hv,ni⟩:=gE o r9;obtain⟨rfl,bH⟩:=yZ oC;have dY:=hl.ka;have Ud:len*sz+n*sz<=c*sz:=by rw[←Nat.add_mul];exact Nat.mul_le_mul_right sz hc
 have Hy:=h1;rw[List.all_append,cy]at Hy;have dU:=run_storeCells_at P e.b (e.o+off+len*sz) jB cs.toList 0 kT w hg (by omega) (AV.aes hl Hy.2);simp only[Nat.add_zero]at dU;have Mb:=hw.mF (eh H.bW);have T7:=KL (e:=⟨e.b,e.o+off,e.n⟩) Mb;have axk:id≠H.bW:=fun h=>by rw[h,Mb]at he;cases he
 refine⟨_,dU,?_,?_,dm.IG hw he (I9 _ _ _) (fun b hb=>I8 _ _ _ hb)⟩
 ·have hk:=hw.yI (vs:=[]) ho;refine⟨?_,?_,?_,?_,fun b o h=>⟨(hw.ro b o h).1,(I8 _ _ _ (show b≠e.b from fun hb=>(hw.lt id e he).2.1 (by have:=(hw.ro b o h).1;rwa[hb]at this))).trans (hw.ro b o h).2⟩⟩
  ·intro i ob e1 a1 a2;rw[uB,pP]at a1;by_cases hi:i=H.bW
   ·subst hi;rw[aN rfl]at a1;cases a1;rw[ov]at a2;cases a2;refine⟨_,setRow_heap w e.b kT _ jB _ hg,xc _ _ _ T7 ⟨_,jB,rfl,?_,?_,?_,h1⟩⟩
    ·have iu:cs.size=n*sz:=by simp at dY;omega
     simp;omega
    ·simp at bH⊢;omega
    ·have EX:(List.take (len*sz) (List.drop off vs)++l).length=len*sz+n*sz:=by simp at bH⊢;omega
     rw[EX];have oA:len*sz=0∨off+len*sz<=vs.length:=by simp at bH;omega
     have e3:((List.take (e.o+off+len*sz) kT.toList++cs.toList++List.drop (e.o+off+len*sz+cs.toList.length) kT.toList).drop (e.o+off)).take (len*sz+n*sz)=(kT.toList.drop (e.o+off)).take (len*sz)++cs.toList:=by
      apply List.ext_getElem?;intro j;by_cases hj:j<len*sz+n*sz
      ·rw[List.getElem?_take_of_lt hj,List.getElem?_drop,iy];simp only[List.getElem?_append,List.length_take,List.length_drop];rw[show min (e.o+off+len*sz) kT.toList.length=e.o+off+len*sz by simp;omega,show min (len*sz) (kT.toList.length-(e.o+off))=len*sz by simp;omega];by_cases h3:j<len*sz
       ·rw[aN (by omega),aN h3,List.getElem?_take_of_lt (by omega),List.getElem?_take_of_lt h3,List.getElem?_drop]
       ·rw[az (by omega),az h3,show e.o+off+j-(e.o+off+len*sz)=j-len*sz by omega,aN (by omega)]
      ·rw[List.getElem?_eq_none (by simp;omega),List.getElem?_eq_none (by simp;simp at dY;omega)]
     show bm ψ _ (((List.take (e.o+off+len*sz) kT.toList++cs.toList++List.drop (e.o+off+len*sz+cs.toList.length) kT.toList).drop (e.o+off)).take (len*sz+n*sz));rw[e3];refine bm.xW ?_ hl;have h2:=(hv.uX off).sK (len*sz);have e2:(((kT.toList.drop e.o).take vs.length).drop off).take (len*sz)=(kT.toList.drop (e.o+off)).take (len*sz):=by
      rcases oA with oA|oA
      ·simp[oA]
      ·rw[List.drop_take,List.drop_drop,List.take_take];congr 1;omega
     rw[e2]at h2;exact h2
   ·rw[az hi]at a1;simp only[j4,az hi]at a2;by_cases mK:ob.aE=true
    ·have zT:i≠id:=by rintro rfl;rw[tq,aN rfl]at a1;cases a1;simp[bc.aE]at mK
     rw[tq,az zT]at a1;obtain⟨o,h3,h4⟩:=hw.fP i ob e1 a1 a2;have hb:e1.b≠e.b:=fun h=>zT (hw.lW i id ob _ e1 e a1 mK a2 ho nh he h)
     exact⟨o,by rw[I8 _ _ _ hb];exact h3,h4.Gi T7⟩
    ·cases ob<;>simp[bc.aE]at mK;have h5:=(hw.lt i e1 a2).1;rw[←I9 w e.b (List.take (e.o+off+len*sz) kT.toList++cs.toList++List.drop (e.o+off+len*sz+cs.toList.length) kT.toList).toArray]at h5;exact⟨_,Array.getElem?_eq_getElem h5,trivial⟩
  ·intro i i' kF oJ e1 e2 a1 l1 a2 a3 l2 a4 hb;rw[uB,pP]at a1 a3;have M8:∀{i ob},i≠H.bW->(H.dS id (.bJ [])).bD i=some ob->ob.aE=true->i≠id∧H.bD i=some ob:=by
    intro i ob hi h hl;have zT:i≠id:=by rintro rfl;rw[tq,aN rfl]at h;cases h;simp[bc.aE]at hl
    rw[tq,az zT]at h;exact⟨zT,h⟩
   by_cases hi:i=H.bW<;>by_cases eW:i'=H.bW
   ·rw[hi,eW]
   ·exfalso;subst hi;rw[ov]at a2;cases a2;rw[az eW]at a3;simp only[j4,az eW]at a4;obtain⟨n1,n2⟩:=M8 eW a3 l2;exact n1 (hw.lW i' id oJ _ e2 e n2 l2 a4 ho nh he hb.symm)
   ·exfalso;subst eW;rw[ov]at a4;cases a4;rw[az hi]at a1;simp only[j4,az hi]at a2;obtain⟨n1,n2⟩:=M8 hi a1 l1;exact n1 (hw.lW i id kF _ e1 e n2 l1 a2 ho nh he hb)
   ·rw[az hi]at a1;rw[az eW]at a3;simp only[j4,az hi]at a2;simp only[j4,az eW]at a4;obtain⟨_,n2⟩:=M8 hi a1 l1;obtain⟨_,n4⟩:=M8 eW a3 l2;exact hw.lW i i' kF oJ e1 e2 n2 l1 a2 n4 l2 a4 hb
  ·intro i e1 a2;rw[I9,yO,pP];by_cases hi:i=H.bW
   ·subst hi;rw[ov]at a2;cases a2;have:=hw.lt id e he;exact⟨this.1,this.2.1,by omega⟩
   ·simp only[j4,az hi]at a2;have:=hw.lt i e1 a2;exact⟨this.1,this.2.1,by omega⟩
  ·intro i ob a1;rw[uB,pP]at a1;rw[yO,pP];by_cases hi:i=H.bW
   ·omega
   ·rw[az hi]at a1;have:=hk.nx i ob a1;rw[pP]at this;omega
 ·refine⟨T7,by rw[yO,pP];omega,fun i hi hn=>⟨?_,?_⟩⟩
  ·simp only[j4];rw[az (by omega)];exact hn
  ·exact .inl (by rw[uB,pP,az (by omega),tq,az (fun h=>by subst h;rw[he]at hn;cases hn)])
end
section
variable{P:Program}{φ:bu}{base:ez}{m:Nat}{H:AH}{w:World}{ρ:Operand->Option AV}{ev:Operand->Value}
theorem GQ{ts:Array TypeId}{T t elem:TypeId}{vs:Array Value}{x:Value}{a:Option Addr}{len c sz n h_:Nat}{l:LV}(ht:ts[0]? =some t)(hu:P.underlying t=some (.slice elem))
 (v0:vs[0]? =some (.slice a len c)) (v1:vs[1]? =some x) (hs:dH P elem=some sz) (l9:u9 P elem=some h_) (hb:h_<=65536) (mg:GL P φ w ts elem sz n l x) (jv:len+n<=c):
 ∃cs:Array Value,bm φ l cs.toList∧l.length=n*sz∧∀w',(match a with|some a=>storeCells (a.add (len*sz)) cs.toList|none=>pure ():Sem Unit).run P w=.ok () w'->
  (Builtin.append_ ts T vs).run P w=.ok (.slice a (len+n) c) w':=by
 obtain⟨xt,d,cs,t1,tu,h1,h2,h3⟩:=mg;refine⟨cs,h1,h2,fun w' gM=>?_⟩;unfold Builtin.append_;simp only[ht,v0,v1,Sem.run_bind,run_underlying hu w,Result.andThen_ok,jy hs w,t1,run_underlying tu w];rcases h3 with⟨hd,hn,hc⟩|⟨hd,rfl,hn,hc⟩
 ·have qQ:=hc w rfl;have hz:∀(α:Type) (f:Bool->α),(f (match d with|.int _=>true|_=>false))=f false:=by intro α f;cases d<;>first|rfl|(simp[Cf]at hd)
  split
  ·simp[Cf]at hd
  ·simp only[Sem.run_pure,Result.andThen_ok,Bool.false_eq_true,if_false,Sem.run_bind,hn w,aN jv,Bool.not_false,if_true,qQ];cases a with
   |none=>simp only[Sem.run_pure,Result.ok.injEq,true_and]at gM;subst gM;rfl
   |some a=>simp only[Sem.run_bind,gM,Result.andThen_ok,Sem.run_pure]
 ·have qQ:=hc w;have UP:IntKind.i64.wrap (n:Int)=n:=IntWalk.i64_in _ (by omega);obtain⟨ti,Ca,Ik⟩:=RA l9 w;have Ud:(n:Int)*h_<=2^48:=by
   have:n*h_<=65536*65536:=Nat.mul_le_mul hn hb;have h':((n*h_:Nat):Int)<=((65536*65536:Nat):Int):=by exact_mod_cast this
   simp only[Int.natCast_mul]at h';omega
  have q1:¬((n:Int)<0):=by omega
  have q2:¬((n:Int)*(ti.bytes:Int)>2^48):=by rw[Ik];omega
  split
  ·simp only[Sem.run_pure,Result.andThen_ok,if_true,Sem.run_bind,asInt,asIntOf,UP,az q1,Ca,az q2,Int.toNat_natCast,aN jv,Bool.not_true,Bool.false_eq_true,if_false,qQ];cases a with
   |none=>simp only[Sem.run_pure,Result.ok.injEq,true_and]at gM;subst gM;rfl
   |some a=>simp only[Sem.run_bind,gM,Result.andThen_ok,Sem.run_pure]
  ·rename_i r8;cases d<;>first|(exact absurd rfl (r8 _))|(simp[Cf]at hd)
theorem Q9{ts:Array TypeId}{T t elem:TypeId}{vs:Array Value}{x:Value}{a:Option Addr}{len c sz n h_:Nat}{l:LV}{old zs:Array Value}(ht:ts[0]? =some t)(hu:P.underlying t=some (.slice elem))
 (v0:vs[0]? =some (.slice a len c)) (v1:vs[1]? =some x) (hs:dH P elem=some sz) (l9:u9 P elem=some h_) (hb:h_<=65536) (mg:GL P φ w ts elem sz n l x) (jv:c<len+n) (EY:len+n<=65536)
 {vz:Value} (hz:∀w,(zeroValue elem).run P w=.ok vz w) (oC:∀w',w'.heap=w.heap->(Builtin.firstCells sz len (.slice a len c)).run P w'=.ok old w') (oD:zs=vz.cells):
 ∃(cs:Array Value) (kE:Nat),len+n<=kE∧bm φ l cs.toList∧l.length=n*sz∧
  (Builtin.append_ ts T vs).run P w=.ok (.slice (some ⟨w.heap.size,0,none⟩) (len+n) kE) (w.drew.alloc (.cells (old++cs++Builtin.zeroCells zs (kE-(len+n))) elem (0,0))):=by
 obtain⟨xt,d,cs,t1,tu,h1,h2,h3⟩:=mg;subst oD;refine⟨cs,(Question.appendCap (len+n) c elem).cut (w.tape w.drawn (.appendCap (len+n) c elem)),?_,h1,h2,?_⟩
 ·simp only[Question.cut];omega
 have iH:¬(len+n<=c):=by omega
 obtain⟨ti,Ca,Ik⟩:=RA l9 w;have ab6:¬(((len+n:Nat):Int)>IntKind.i64.max):=by
  have:IntKind.i64.max=9223372036854775807:=by rfl
  rw[this];omega
 have EM:¬(Builtin.nextslicecap (len+n) c*ti.bytes>2^48):=by have h4:=anH jv;have h5:Builtin.nextslicecap (len+n) c*ti.bytes<=200000*65536:=Nat.mul_le_mul (by omega) (by omega);omega
 have Uz:∀w',(typeInfo elem).run P w'=.ok ti w':=by
  intro w';cases hq:P.info? elem with
  |none=>simp[u9,hq]at l9
  |some i=>have:=run_typeInfo w hq;rw[Ca]at this;cases this;exact run_typeInfo w' hq
 have acj:(Question.appendCap (len+n) c elem).forced=false:=rfl;have acx:=oC w.drew rfl;unfold Builtin.append_;simp only[ht,v0,v1,Sem.run_bind,run_underlying hu w,Result.andThen_ok,jy hs w,t1,run_underlying tu w];rcases h3 with⟨hd,hn,hc⟩|⟨hd,rfl,hn,hc⟩
 ·have qQ:=hc w.drew rfl;split
  ·simp[Cf]at hd
  ·simp only[Sem.run_pure,Result.andThen_ok,Bool.false_eq_true,if_false,Sem.run_bind,hn w,az iH,Bool.not_false,if_true];simp only[Uz,Result.andThen_ok];rw[az (fun h=>ab6 h.1)];simp only[Sem.run_bind,Uz,Result.andThen_ok,az EM,run_choose_drew,acj,Bool.false_eq_true,if_false,run_askRoom,acx,qQ,hz,newRow,KB,Sem.run_pure];rfl
 ·have qQ:=hc w.drew;have UP:IntKind.i64.wrap (n:Int)=n:=IntWalk.i64_in _ (by omega);have Ud:(n:Int)*h_<=2^48:=by
   have:n*h_<=65536*65536:=Nat.mul_le_mul hn hb;have h':((n*h_:Nat):Int)<=((65536*65536:Nat):Int):=by exact_mod_cast this
   simp only[Int.natCast_mul]at h';omega
  have q1:¬((n:Int)<0):=by omega
  have q2:¬((n:Int)*(ti.bytes:Int)>2^48):=by rw[Ik];omega
  split
  ·simp only[Sem.run_pure,Result.andThen_ok,if_true,Sem.run_bind,asInt,asIntOf,UP,az q1,Ca,az q2,Int.toNat_natCast,az iH,Bool.not_true,Bool.false_eq_true,if_false];rw[az (fun h=>ab6 h.1)];simp only[Sem.run_bind,Uz,Result.andThen_ok,az EM,run_choose_drew,acj,Bool.false_eq_true,if_false,run_askRoom,acx,qQ,hz,newRow,KB,Sem.run_pure];rfl
  ·rename_i r8;cases d<;>first|(exact absurd rfl (r8 _))|(simp[Cf]at hd)
end
section
variable{P:Program}{φ:bu}{base:ez}{m:Nat}{H:AH}{w:World}{ρ:Operand->Option AV}{ev:Operand->Value}
theorem Xk{l:LV}{all kI:Array Value}{elem el:TypeId}{n:Nat}(h:bm φ l all.toList)(h1:l.all AV.ec=true)(hn:all.size+kI.size=n):
 ∀ψ b,fq φ ψ->OR ψ (.ay l elem) ⟨b,0,n⟩ (.cells (all++kI) el (0,0)):=by
 intro ψ b de;have hl:=h.ka;refine⟨_,el,rfl,by simp;omega,by simp at hl⊢;omega,?_,h1⟩;have:((all++kI).toList.drop 0).take l.length=all.toList:=by simp only[hI,Array.toList_append];rw[hl,List.take_left'];rfl
 rw[this];exact bm.pW de _ _ h
theorem X6(z:Array Value)(n:Nat):(Builtin.zeroCells z n).size=n*z.size:=by simp[Builtin.zeroCells]
theorem LB(hw:WR φ base H w)(hb:gQ base w)(hm:m<=H.bW){ψ:bu}{ts:Array TypeId}{T t elem mC:TypeId}{vs:Array Value}{v:AV}{vx:Value}{sz k h_ id off len y c:Nat}{e:PE}{l old cells:LV}{vz:Value}{gn Cv:bc}(yI:Bool)
 (ht:ts[0]? =some t) (hu:P.underlying t=some (.slice elem)) (v0:vs[0]? =some (.slice (some ⟨e.b,y,none⟩) len c)) (v1:vs[1]? =some vx) (hs:dH P elem=some sz) (l9:u9 P elem=some h_) (kh:h_<=65536)
 (oD:vz.cells.size=sz) (nj:∀w,(zeroValue elem).run P w=.ok vz w) (mg:GL P φ w ts elem sz (k+1) l vx) (EY:len+(k+1)<=65536)
 (he:φ id=some e) (hy:c=0∨y=e.o+off) (nD:len<=c) (jv:e.o+off+c*sz<=e.n) (alI:yI=false->c<len+(k+1))
 (ho:H.bD id=some gn) (nh:gn.aE=true) (gE:∀o,OR φ gn e o->OR ψ (.ay cells mC) e o) (xc:∀χ e o,fq φ χ->OR ψ (.ay (old++l) elem) e o->OR χ Cv e o)
 (oC:ph cells off (len*sz)=some old) (Ie:∀vs,bm φ l vs->bm ψ l vs) (ni:(old++l).all AV.ec=true)
 (xl:∀(χ:bu) (e':PE) (x c':Nat),χ H.bW=some e'->x=e'.o->len+(k+1)<=c'->e'.o+c'*sz<=e'.n->VR χ v (.slice (some ⟨e'.b,x,none⟩) (len+(k+1)) c')):
 gi P m base φ H w (do pure (.value (←Builtin.append_ ts T vs)):Sem Next) v (AH.iN (bif yI then H.dS id (.bJ [])else H) Cv):=by
 have HU:WR φ base H w.drew:=hw.uM rfl;obtain⟨o,hg,r9⟩:=hw.fP id _ e ho he;obtain⟨kT,jB,rfl,cW,de,jc,_⟩:=gE o r9;obtain⟨Fb,Fc⟩:=yZ oC;by_cases hr:len+(k+1)<=c
 ·
  have kX:yI=true:=by
   cases yI
   ·have:=alI rfl;omega
   ·rfl
  subst kX;simp only[cond_true];have mL:y=e.o+off:=by rcases hy with h|h<;>omega
  subst mL;obtain⟨cs,h1,h2,h3⟩:=GQ (P:=P) (T:=T) ht hu v0 v1 hs l9 kh mg hr;obtain⟨w',b1,b2,b3,b4⟩:=ak0 (P:=P) (elem:=elem) hw hm ho nh gE he xc oC (Ie _ h1) h2 ni jv hr;have h4:=h3 w' (by simp only[ya];exact b1);exact gi.of h4 (xl _ ⟨e.b,e.o+off,e.n⟩ (e.o+off) c (ov _ _ _) rfl hr jv) b2 b3 b4
 ·
  have alx:∃FG:Array Value,bm ψ old FG.toList∧∀w',w'.heap=w.heap->(Builtin.firstCells sz len (.slice (some ⟨e.b,y,none⟩) len c)).run P w'=.ok FG w':=by
   by_cases h0:len*sz=0
   ·refine⟨#[],?_,fun w' _=>by simp[Builtin.firstCells,h0,loadCells,loadCellsFrom]⟩;have:old=[]:=by rw[h0]at Fc;exact List.eq_nil_of_length_eq_zero Fc
    rw[this];exact lX
   ·have T8:len≠0:=by rintro rfl;simp at h0
    have mL:y=e.o+off:=by rcases hy with h|h<;>omega
    subst mL;have oA:off+len*sz<=cells.length:=by rw[Fb]at Fc;simp at Fc;omega
    refine⟨((kT.toList.drop (e.o+off)).take (len*sz)).toArray,?_,fun w' hh=>?_⟩
    ·have h2:=(jc.uX off).sK (len*sz);have e2:(((kT.toList.drop e.o).take cells.length).drop off).take (len*sz)=(kT.toList.drop (e.o+off)).take (len*sz):=by rw[List.drop_take,List.drop_drop,List.take_take];congr 1;omega
     rw[e2]at h2;rw[Fb];simpa using h2
    ·have:=yX (P:=P) (w:=w') (n:=len*sz) (o:=e.o+off) (by rw[hh];exact hg) (by omega);simp[Builtin.firstCells,this]
  obtain⟨FG,o1,o2⟩:=alx;obtain⟨cs,kE,alO,h1,h2,h3⟩:=Q9 (P:=P) (T:=T) ht hu v0 v1 hs l9 kh mg (by omega) EY nj o2 rfl;have iu:cs.size=(k+1)*sz:=by have:=h1.ka;simp at this;omega
  have hos:FG.size=len*sz:=by have:=o1.ka;simp at this;omega
  have Ij:(FG++cs).size+(Builtin.zeroCells vz.cells (kE-(len+(k+1)))).size=kE*sz:=by
   rw[X6,oD];have h6:len*sz+(k+1)*sz+(kE-(len+(k+1)))*sz=kE*sz:=by rw[←Nat.add_mul,←Nat.add_mul];congr 1;omega
   rw[Array.size_append,iu,hos];omega
  have Tt:bm ψ (old++l) (FG++cs).toList:=by rw[Array.toList_append];exact o1.xW (Ie _ h1)
  have aw:∀H1:AH,WR φ base H1 w.drew->H1.bW=H.bW->da m φ H φ H1->
   gi P m base φ H w (do pure (.value (←Builtin.append_ ts T vs)):Sem Next) v (AH.iN H1 Cv):=by
   intro H1 tc hn1 zS;obtain⟨a1,a2,a3⟩:=tc.yM (m:=m) (show gQ base w.drew from hb) (fun χ b de=>xc χ _ _ de (Xk (elem:=elem) (el:=elem) Tt ni Ij ψ b (fq.tL _))) (by omega);refine gi.of h3 ?_ a1 (zS.zc a2) ((dm.uM (base:=base) (w':=w.drew) rfl).uV a3);rw[hn1];exact xl _ _ 0 kE (ov _ _ _) rfl alO (by show 0+kE*sz<=kE*sz;omega)
  cases yI
  ·simp only[cond_false];exact aw _ HU rfl (da.j9 _ _ _)
  ·simp only[cond_true];exact aw _ (HU.yI ho) (pP _ _ _) (da.nQ he _)
theorem ahQ(hw:WR φ base H w)(hb:gQ base w)(hm:m<=H.bW){ts:Array TypeId}{T t elem:TypeId}{vs:Array Value}{s v:AV}{JH vx:Value}{sz n h_:Nat}{l:LV}{H':AH}{z:AV}{vz:Value}
 (ht:ts[0]? =some t) (hu:P.underlying t=some (.slice elem)) (v0:vs[0]? =some JH) (v1:vs[1]? =some vx) (hs:dH P elem=some sz) (l9:u9 P elem=some h_) (kh:h_<=65536)
 (hz:VR φ z vz) (nj:∀w,(zeroValue elem).run P w=.ok vz w) (Iq:z.eB.length=sz) (mg:GL P φ w ts elem sz n l vx) (hv:VR φ s JH) (h:rM H elem sz s n l=some (v,H')):
 gi P m base φ H w (do pure (.value (←Builtin.append_ ts T vs)):Sem Next) v H':=by
 have oD:vz.cells.size=sz:=by have:=(AV.sP hz).ka;simp at this;omega
 have HU:WR φ base H w.drew:=hw.uM rfl;unfold rM at h;split at h
 ·simp only[VR]at hv;subst hv;cases n with
  |zero=>cases h;obtain⟨cs,h1,h2,h3⟩:=GQ (P:=P) (T:=T) ht hu v0 v1 hs l9 kh mg (eh _);exact gi.of (h3 w rfl) (by simp[VR]) hw (da.j9 _ _ _) (dm.kN _ _)
  |succ k=>
   obtain⟨hc,h⟩:=di h;cases h;simp only[cy,Nat.ble_eq]at hc;obtain⟨cs,kE,de,h1,h2,h3⟩:=Q9 (P:=P) (T:=T) (old:= #[]) (a:=none) (len:=0) (c:=0) ht hu v0 v1 hs l9 kh mg (by omega) (by omega) nj (fun w' _=>by simp[Builtin.firstCells]) rfl;have iu:cs.size=(k+1)*sz:=by have:=h1.ka;simp at this;omega
   have Ij:(#[]++cs).size+(Builtin.zeroCells vz.cells (kE-(0+(k+1)))).size=kE*sz:=by
    rw[X6,oD];have h6:(k+1)*sz+(kE-(0+(k+1)))*sz=kE*sz:=by rw[←Nat.add_mul];congr 1;omega
    rw[Array.size_append,iu];simp only[List.size_toArray,cI];omega
   obtain⟨a1,a2,a3⟩:=HU.yM (m:=m) (show gQ base w.drew from hb) (Xk (elem:=elem) (el:=elem) (by simpa using h1) hc.2 Ij) hm;refine gi.of h3 ?_ a1 a2 ((dm.uM (base:=base) (w':=w.drew) rfl).uV a3);simp only[VR];refine⟨_,0,kE,ov _ _ _,by rw[fD];rfl,.inr rfl,by omega,(fun h=>by cases h),?_⟩;show 0+0+kE*sz<=kE*sz;omega
 ·rename_i id off len cap mr ex;obtain⟨hc,h⟩:=di h;simp only[cy,Nat.ble_eq]at hc;have MC:sz=mr:=eI hc.1;subst MC;have xk:=hv;obtain⟨e,y,c,he,rfl,hy,nD,qT,jv⟩:=hv;cases n with
  |zero=>
   cases h;obtain⟨cs,h1,h2,h3⟩:=GQ (P:=P) (T:=T) ht hu v0 v1 hs l9 kh mg (by omega);have iu:cs.toList=[]:=by have:=h1.ka;rw[h2]at this;simpa using this.symm
   refine gi.of (h3 w (by rw[iu];rfl)) xk hw (da.j9 _ _ _) (dm.kN _ _)
  |succ k=>
   simp only at h;have ud:∀{kl:Bool},(ex&&Nat.ble (cap+1) (len+(k+1)))=kl->kl=true->c<len+(k+1):=by
    intro kl h1 h2;subst h2;cases ex
    ·simp at h1
    ·have:=qT rfl;simp only[jf,Nat.ble_eq]at h1;omega
   have xl:∀(χ:bu) (e':PE) (x c':Nat),χ H.bW=some e'->x=e'.o->len+(k+1)<=c'->e'.o+c'*sz<=e'.n->VR χ (.bB H.bW 0 (len+(k+1)) 1 sz false) (.slice (some ⟨e'.b,x,none⟩) (len+(k+1)) c'):=by intro χ e' x c' h1 h2 h3 h4;simp only[VR];exact⟨e',x,c',h1,rfl,.inr (by simpa using h2),h3,(fun h=>by cases h),by simpa using h4⟩
   have TX:∀(kl:Bool) (x y:AH),(bif kl then x else y)=(bif !kl then y else x):=by intro kl x y;cases kl<;>rfl
   unfold LA at h;split at h
   ·rename_i cells mC ho;split at h
    ·rename_i old oC;obtain⟨ni,hq⟩:=di h;clear h;cases hq;rw[TX];exact LB (P:=P) (ψ:=φ) (elem:=elem) hw hb hm _ ht hu v0 v1 hs l9 kh oD nj mg hc.2 he hy nD jv (fun hk=>ud rfl (by simpa using hk)) ho rfl (fun o h=>h) (fun χ e o de h=>h.Gi de) oC (fun _ h=>h) ni xl
    ·cases h
   ·rename_i cells mC ho;split at h
    ·rename_i old oC;obtain⟨ni,hq⟩:=di h;clear h;simp only[cy]at ni;cases hq;rw[TX];obtain⟨o,hg,kT,jB,rfl,cW,de,jc,wW⟩:=hw.fP id _ e ho he;obtain⟨Fb,Fc⟩:=yZ oC;have Uj:(old++l).all AV.ec=true:=by rw[List.all_append,cy];refine⟨?_,ni.1⟩;rw[Fb];rw[List.all_eq_true]at wW⊢;exact fun x hx=>wW x (List.mem_of_mem_drop (List.mem_of_mem_take hx))
     exact LB (P:=P) (ψ:=gU) (elem:=elem) (mC:=elem) hw hb hm _ ht hu v0 v1 hs l9 kh oD nj mg hc.2 he hy nD jv (fun hk=>ud rfl (by simpa using hk)) ho rfl (fun o h=>h) (fun χ e o de h=>h) oC (fun vs h=>bm.sJ _ _ (by rw[yS];exact ni.2) h) Uj xl
    ·cases h
   ·rename_i cells mC ho;split at h
    ·rename_i old oC;obtain⟨ni,hq⟩:=di h;clear h;simp only[cy]at ni;cases hq;rw[TX];obtain⟨o,hg,kT,jB,rfl,cW,de,jc,wW⟩:=hw.fP id _ e ho he;obtain⟨Fb,Fc⟩:=yZ oC;have Uj:(old++l).all AV.ec=true:=by rw[List.all_append,cy];refine⟨?_,ni.1⟩;rw[Fb];rw[List.all_eq_true]at wW⊢;exact fun x hx=>wW x (List.mem_of_mem_drop (List.mem_of_mem_take hx))
     exact LB (P:=P) (ψ:=gU) (elem:=elem) (mC:=elem) hw hb hm _ ht hu v0 v1 hs l9 kh oD nj mg hc.2 he hy nD jv (fun hk=>ud rfl (by simpa using hk)) ho rfl (fun o h=>h) (fun χ e o de h=>h) oC (fun vs h=>bm.sJ _ _ (by rw[yS];exact ni.2) h) Uj xl
    ·cases h
   ·cases h
 ·rename_i id len mr;obtain⟨hc,hq⟩:=di h;clear h;simp only[cy,Nat.ble_eq]at hc;have MC:sz=mr:=eI hc.1;subst MC;have xk:=hv;cases n with
  |zero=>
   cases hq;rcases hv with⟨rfl,rfl⟩|⟨e,y,c,he,rfl,hy,nD,jv⟩
   ·obtain⟨cs,h1,h2,h3⟩:=GQ (P:=P) (T:=T) ht hu v0 v1 hs l9 kh mg (eh _);exact gi.of (h3 w rfl) xk hw (da.j9 _ _ _) (dm.kN _ _)
   ·obtain⟨cs,h1,h2,h3⟩:=GQ (P:=P) (T:=T) ht hu v0 v1 hs l9 kh mg (by omega);have iu:cs.toList=[]:=by have:=h1.ka;rw[h2]at this;simpa using this.symm
    exact gi.of (h3 w (by rw[iu];rfl)) xk hw (da.j9 _ _ _) (dm.kN _ _)
  |succ k=>
   simp only at hq;unfold S2 at hq;split at hq
   ·rename_i cells mC ho;obtain⟨lF,hq⟩:=di hq;simp only[cy]at lF;obtain⟨⟨hl,HB⟩,jG⟩:=lF;have hl:=eI hl;cases hq;have Ie:∀vs,bm φ l vs->bm gU l vs:=fun vs h=>bm.sJ _ _ (by rw[yS];exact jG) h
    rcases hv with⟨rfl,rfl⟩|⟨e,y,c,he,rfl,hy,nD,jv⟩
    ·have yv:cells=[]:=List.eq_nil_of_length_eq_zero (by omega);subst yv;obtain⟨cs,kE,de,h1,h2,h3⟩:=Q9 (P:=P) (T:=T) (old:= #[]) (a:=none) (len:=0) (c:=0) ht hu v0 v1 hs l9 kh mg (by omega) (by omega) nj (fun w' _=>by simp[Builtin.firstCells]) rfl;have iu:cs.size=(k+1)*sz:=by have:=h1.ka;simp at this;omega
     have Ij:(#[]++cs).size+(Builtin.zeroCells vz.cells (kE-(0+(k+1)))).size=kE*sz:=by
      rw[X6,oD];have h6:(k+1)*sz+(kE-(0+(k+1)))*sz=kE*sz:=by rw[←Nat.add_mul];congr 1;omega
      rw[Array.size_append,iu];simp only[List.size_toArray,cI];omega
     obtain⟨a1,a2,a3⟩:=(HU.yI ho).yM (m:=m) (show gQ base w.drew from hb) (fun χ b de=>(show OR χ (.aL ([]++l) elem) _ _ from Xk (elem:=elem) (el:=elem) (by simpa using Ie _ h1) (by simpa using HB) Ij gU b (fq.tL _))) (by rw[pP];exact hm);refine gi.of h3 ?_ a1 ((da.aL ho _).zc a2) ((dm.uM (base:=base) (w':=w.drew) rfl).uV a3);simp only[VR];right;rw[pP];exact⟨_,0,kE,ov _ _ _,by simp,.inr rfl,by omega,by show 0+kE*sz<=kE*sz;omega⟩
    ·obtain⟨o,hg,kT,jB,rfl,cW,de,jc,wW⟩:=hw.fP id _ e ho he;have oC:ph cells 0 (len*sz)=some cells:=by
      have e0:(cells.drop 0).take (len*sz)=cells:=by rw[hI,←hl,List.take_length]
      unfold ph;simp only[e0,hl,Tr.vT,decide_true,cond_true]
     exact LB (P:=P) (ψ:=gU) (elem:=elem) (mC:=elem) (off:=0) hw hb hm true ht hu v0 v1 hs l9 kh oD nj mg hc.2 he (by simpa using hy) nD (by simpa using jv) (fun h=>by cases h) ho rfl (fun o h=>h) (fun χ e o de h=>h) oC Ie
      (by rw[List.all_append,cy];exact⟨wW,HB⟩)
      (fun χ e' x c' h1 h2 h3 h4=>by simp only[VR];exact .inr ⟨e',x,c',h1,rfl,.inr h2,h3,h4⟩)
   ·cases hq
 ·cases h
theorem ahP(hw:WR φ base H w)(hb:gQ base w)(hm:m<=H.bW){ts:Array TypeId}{T:TypeId}{vs:Array Value}{s x v:AV}{JH vx:Value}{H':AH}
 (v0:vs[0]? =some JH) (v1:vs[1]? =some vx) (hv:VR φ s JH) (hx:VR φ x vx) (h:DF P H ts s x=some (v,H')):
 gi P m base φ H w (do pure (.value (←Builtin.append_ ts T vs)):Sem Next) v H':=by
 unfold DF at h;cases ht:ts[0]? with
 |none=>simp[ht]at h
 |some t=>
  simp only[ht,Option.bind_some]at h;split at h
  ·rename_i elem hu;split at h
   ·rename_i sz h_ hs l9;obtain⟨hc,h⟩:=di h;simp only[cy,Nat.ble_eq]at hc;obtain⟨kh,hz⟩:=hc;split at h
    ·rename_i n l mg;cases Cd:kM P elem with
     |none=>simp[Cd]at hz
     |some z=>simp only[Cd,Option.any_some]at hz;obtain⟨vz,z1,z2⟩:=xN (φ:=φ) Cd;exact ahQ hw hb hm ht hu v0 v1 hs l9 kh z1 z2 (eI hz) (avx hw mg hx) hv h
    ·cases h
   ·cases h
  ·cases h
end
section
variable{P:Program}{φ:bu}{base:ez}{m:Nat}{H:AH}{w:World}{ρ:Operand->Option AV}{ev:Operand->Value}
theorem K6(hw:WR φ base H w){sz n:Nat}{l:LV}{x:AV}{vx:Value}(h:tX H sz x=some (n,l))(hx:VR φ x vx){k:Nat}(hk:k<=n):
 ∃cs:Array Value,bm φ (l.take (k*sz)) cs.toList∧(Builtin.firstCells sz k vx).run P w=.ok cs w:=by
 unfold tX at h;split at h
 ·cases h;simp only[VR]at hx;subst hx;exact⟨#[],by simp[bm],by simp[Builtin.firstCells]⟩
 ·rename_i id off len cap s ex;obtain⟨hb,h⟩:=di h;have hs:s=sz:=eI hb;subst hs;split at h
  ·rename_i vs jc;obtain⟨r,hr,h⟩:=uE h;cases h;obtain⟨rfl,bH⟩:=yZ hr;obtain⟨e,y,c,he,rfl,hy,nD,qT,jv⟩:=hx;obtain⟨cs,el,hg,cW,de,hv,h1⟩:=hw.Dm jc he;have vE:k*s<=n*s:=Nat.mul_le_mul_right s hk;by_cases h0:k*s=0
   ·refine⟨#[],?_,?_⟩
    ·rw[h0];simp[bm]
    ·simp[Builtin.firstCells,h0,loadCells,loadCellsFrom]
   ·have s9:k≠0:=by rintro rfl;simp at h0
    have mL:y=e.o+off:=by rcases hy with h|h<;>omega
    subst mL;have oA:off+n*s<=vs.length:=by simp at bH;omega
    refine⟨((cs.toList.drop (e.o+off)).take (k*s)).toArray,?_,?_⟩
    ·rw[List.take_take,Nat.min_eq_left vE];have h2:=(hv.uX off).sK (k*s);have e2:(((cs.toList.drop e.o).take vs.length).drop off).take (k*s)=(cs.toList.drop (e.o+off)).take (k*s):=by rw[List.drop_take,List.drop_drop,List.take_take];congr 1;omega
     rw[e2]at h2;simpa using h2
    ·have:=yX (P:=P) (w:=w) (n:=k*s) (o:=e.o+off) hg (by omega);simp[Builtin.firstCells,this]
  ·cases h
 ·rename_i s;obtain⟨hb,h⟩:=di h;have hs:sz=1:=eI hb;subst hs;cases h;obtain⟨b,rfl,rfl⟩:=hx;refine⟨(b.extract 0 k).data.map fun c=>.int .u8 c.toNat,?_,by simp[Builtin.firstCells]⟩;rw[uP]at hk;refine QZ ?_ ?_
  ·simp[gV]
  ·intro i a v h1 h2;have hi:i<k:=by
    rcases Nat.lt_or_ge i k with h|h
    ·exact h
    ·rw[List.getElem?_eq_none (by simp;omega)]at h1;cases h1
   rw[List.getElem?_take_of_lt (by omega)]at h1;simp only[gV,List.getElem?_map]at h1;simp only[ByteArray.data_extract,Array.toList_map,Array.toList_extract,List.getElem?_map,List.extract_eq_take_drop,hI,Nat.sub_zero,List.getElem?_take_of_lt hi]at h2;cases hq:b.data.toList[i]? with
   |none=>simp[hq]at h1
   |some u=>simp only[hq,Option.map_some,nu]at h1 h2;subst h1 h2;simp[VR]
 ·rename_i cs len s;obtain⟨hb,hq⟩:=di h;clear h;have hs:s=sz:=eI hb;subst hs;injection hq with hq
  injection hq with h1 h2
  subst h1 h2;obtain⟨a,c,rfl,bH,hd⟩:=hx;clear hb;have vE:k*s<=len*s:=Nat.mul_le_mul_right s hk;by_cases h0:k*s=0
  ·refine⟨#[],by rw[h0];simp[bm],?_⟩;cases a<;>simp[Builtin.firstCells,h0,loadCells,loadCellsFrom]
  ·have Ml:len≠0:=by rintro rfl;simp at hk;subst hk;simp at h0
   rcases hd with hd|⟨b,x,fV,el,fz,rfl,nD,gF,cW,hv⟩
   ·exact absurd hd Ml
   ·refine⟨((fV.toList.drop x).take (k*s)).toArray,?_,?_⟩
    ·have h2:=(bm.pW (fq.gU φ) _ _ hv).sK (k*s);rw[List.take_take,Nat.min_eq_left (by omega)]at h2;simpa using h2
    ·have:=yX (P:=P) (w:=w) (n:=k*s) (o:=x) (hw.ro _ _ gF).2 (by omega);simp[Builtin.firstCells,this]
 ·rename_i id len s;obtain⟨hb,hq⟩:=di h;clear h;have hs:s=sz:=eI hb;subst hs;clear hb;split at hq
  ·rename_i vs el ho;obtain⟨hl,hq⟩:=di hq;have hl:=eI hl;injection hq with hq
   injection hq with h1 h2
   subst h1 h2;have vE:k*s<=len*s:=Nat.mul_le_mul_right s hk;rcases hx with⟨rfl,rfl⟩|⟨e,y,c,he,rfl,hy,nD,jv⟩
   ·have s9:k=0:=by omega
    subst s9;exact⟨#[],by simp[bm],by simp[Builtin.firstCells]⟩
   ·by_cases h0:k*s=0
    ·refine⟨#[],by rw[h0];simp[bm],?_⟩;simp[Builtin.firstCells,h0,loadCells,loadCellsFrom]
    ·have T8:len≠0:=by rintro rfl;simp at hk;subst hk;simp at h0
     have mL:y=e.o:=by rcases hy with h|h<;>omega
     subst mL;obtain⟨cs,jB,hg,cW,de,hv,h1⟩:=hw.Dm (show H.oo id=some vs by simp[AH.oo,ho]) he;refine⟨((cs.toList.drop e.o).take (k*s)).toArray,?_,?_⟩
     ·have h2:=hv.sK (k*s);rw[List.take_take,Nat.min_eq_left (by omega)]at h2;simpa using h2
     ·have:=yX (P:=P) (w:=w) (n:=k*s) (o:=e.o) hg (by omega);simp[Builtin.firstCells,this]
  ·cases hq
 ·cases h
theorem ai1(hw:WR φ base H w){ts:Array TypeId}{T:TypeId}{vs:Array Value}{d x v:AV}{vd vx:Value}{H':AH}
 (v0:vs[0]? =some vd) (v1:vs[1]? =some vx) (hd:VR φ d vd) (hx:VR φ x vx) (h:KY P H ts d x=some (v,H')):
 gi P m base φ H w (do pure (.value (←Builtin.copy_ ts T vs)):Sem Next) v H':=by
 unfold KY at h;cases ht:ts[0]? with
 |none=>simp[ht]at h
 |some t=>
  simp only[ht,Option.bind_some]at h;split at h
  ·rename_i elem hu;split at h
   ·rename_i sz hs;split at h
    ·rename_i n l qS;cases h;simp only[VR]at hd;subst hd;obtain⟨cs,h1,h2⟩:=K6 (P:=P) hw qS hx (k:=Nat.min n 0) (by simp);obtain⟨_,_,_,bH,_⟩:=Hf (P:=P) hw qS hx;refine gi.of (w':=w) (v':=goInt 0) ?_ (vq 0) hw (da.j9 _ _ _) (dm.kN _ _);simp only[Builtin.copy_,ht,v0,v1,Sem.run_bind,run_underlying hu w,Result.andThen_ok,bH w,jy hs w,h2,Sem.run_pure];simp
    ·rename_i id off len cap mr ex n l qS;obtain⟨hb,hq⟩:=di h;clear h;rw[cy]at hb;obtain⟨hb,ni⟩:=hb;have yF:sz=mr:=eI hb;subst yF;obtain⟨e,y,c,he,rfl,hy,nD,qT,jv⟩:=hd;unfold aav at hq;split at hq
     ·rename_i cells mC ho;split at hq
      ·rename_i r hp;cases hq;obtain⟨cs,h1,h2⟩:=K6 (P:=P) hw qS hx (k:=Nat.min n len) (Nat.min_le_left _ _);obtain⟨kT,g1,g2,bH,_⟩:=Hf (P:=P) hw qS hx;obtain⟨w',b1,b2,b3⟩:=hw.Gf (P:=P) ho rfl (fun o h=>h) he hp h1 ni;refine gi.of (w':=w') (v':=goInt (Nat.min n len)) ?_ (vq _) b2 (da.nQ he _) b3;have gM:(storeCells ⟨e.b,y,none⟩ cs.toList).run P w=.ok () w':=by
        by_cases h0:Nat.min n len=0
        ·have:cs.toList=[]:=by rw[h0]at h1;simpa[bm]using h1
         rw[this]at b1⊢;exact b1
        ·have:len≠0:=by rintro rfl;simp at h0
         have mL:y=e.o+off:=by rcases hy with h|h<;>omega
         rw[mL];exact b1
       simp only[Builtin.copy_,ht,v0,v1,Sem.run_bind,run_underlying hu w,Result.andThen_ok,bH w,jy hs w,h2,gM,Sem.run_pure]
      ·cases hq
     ·rename_i z nn mC ho;split at hq
      ·rename_i r hp;cases hq;obtain⟨cs,h1,h2⟩:=K6 (P:=P) hw qS hx (k:=Nat.min n len) (Nat.min_le_left _ _);obtain⟨kT,g1,g2,bH,_⟩:=Hf (P:=P) hw qS hx;obtain⟨w',b1,b2,b3⟩:=hw.Gf (P:=P) (vs:=jq z nn) (el:=mC) ho rfl (fun o h=>h) he hp h1 ni;refine gi.of (w':=w') (v':=goInt (Nat.min n len)) ?_ (vq _) b2 (da.nQ he _) b3;have gM:(storeCells ⟨e.b,y,none⟩ cs.toList).run P w=.ok () w':=by
        by_cases h0:Nat.min n len=0
        ·have:cs.toList=[]:=by rw[h0]at h1;simpa[bm]using h1
         rw[this]at b1⊢;exact b1
        ·have:len≠0:=by rintro rfl;simp at h0
         have mL:y=e.o+off:=by rcases hy with h|h<;>omega
         rw[mL];exact b1
       simp only[Builtin.copy_,ht,v0,v1,Sem.run_bind,run_underlying hu w,Result.andThen_ok,bH w,jy hs w,h2,gM,Sem.run_pure]
      ·cases hq
     ·rename_i cells mC ho;split at hq
      ·rename_i r hp;obtain⟨qX,hq⟩:=di hq;cases hq;obtain⟨cs,h1,h2⟩:=K6 (P:=P) hw qS hx (k:=Nat.min n len) (Nat.min_le_left _ _);obtain⟨kT,g1,g2,bH,_⟩:=Hf (P:=P) hw qS hx;have Bu:=bm.sJ (ψ:=gU) _ _ (by rw[yS];exact qX) h1;obtain⟨w',b1,b2,b3⟩:=hw.O4 (P:=P) (ψ:=gU) (vs:=cells) (el:=mC) (cp:=.c9 r mC) ho rfl (fun o h=>h) he hp Bu ni (fun o h=>h);refine gi.of (w':=w') (v':=goInt (Nat.min n len)) ?_ (vq _) b2 (da.nQ he _) b3;have gM:(storeCells ⟨e.b,y,none⟩ cs.toList).run P w=.ok () w':=by
        by_cases h0:Nat.min n len=0
        ·have:cs.toList=[]:=by rw[h0]at h1;simpa[bm]using h1
         rw[this]at b1⊢;exact b1
        ·have:len≠0:=by rintro rfl;simp at h0
         have mL:y=e.o+off:=by rcases hy with h|h<;>omega
         rw[mL];exact b1
       simp only[Builtin.copy_,ht,v0,v1,Sem.run_bind,run_underlying hu w,Result.andThen_ok,bH w,jy hs w,h2,gM,Sem.run_pure]
      ·cases hq
     ·cases hq
    ·cases h
   ·cases h
  ·cases h
end
section
variable{P:Program}{φ:bu}{base:ez}{m:Nat}{H:AH}{w:World}{ρ:Operand->Option AV}{ev:Operand->Value}
theorem aiD{g:FuncId}{fn:Func}{args:Array Value}(hf:P.funcs[g]? =some fn)(hb:fn.body.isSome=true)(hn:(fn.name== "runtime.NumGoroutine")=false)(w:World):
 (callFunc g args).run P w=.ok (.enter g args) w:=by
 have h1:¬(fn.body.isNone=true):=by cases h:fn.body<;>simp[h]at hb⊢
 have h2:¬((fn.name== "runtime.NumGoroutine")=true):=by rw[hn];simp
 simp only[callFunc,Sem.run_bind,run_program,Result.andThen_ok,hf,az h2,az h1,Sem.run_pure]
theorem KN{f:AV}{args:LV}{vf:Value}{AU:Array Value}{aU:fU}(h:wF P f args=some aU)(hf:VR φ f vf)(ha:bm φ args AU.toList):
 (∀w,oT P m base φ H w (do let d←Deferred.ofValue vf AU;invoke d.target d.args:Sem Next) aU)∧((∃g l,aU=.qB g l)∨∃r l,aU=.uW r l):=by
 unfold wF at h;split at h
 ·rename_i g first kv
  obtain⟨f',c',rfl,hy,h1,h2⟩:=hf;split at h
  ·rename_i fn eD;obtain⟨hb,h⟩:=di h;cases h;simp only[cy,Bool.not_eq_true']at hb;refine⟨fun w=>⟨f'++AU++c',?_,?_⟩,.inl ⟨_,_,rfl⟩⟩
   ·simp[Deferred.ofValue,invoke,aiD eD hb.1 hb.2 w]
   ·rw[Array.toList_append,Array.toList_append];exact(h1.xW ha).xW h2
  ·cases h
 ·rename_i l;cases h;obtain⟨e,he,rfl⟩:=hf;refine⟨fun w=>⟨e,AU,he,?_,ha⟩,.inr ⟨_,_,rfl⟩⟩;simp[Deferred.ofValue,invoke]
 ·cases h
theorem anl(hw:WR φ base H w){t:TypeId}{v v':AV}{f:FuncId}{vv:Value}{name:String}(h:VJ P H t v name=some (f,v'))(hv:VR φ v vv)(n:Nat):
 ∃AY,VR φ v' AY∧(method (n+1) t vv name).run P w=.ok (f,AY) w:=by
 unfold VJ at h;split at h
 ·rename_i i hi;split at h
  ·rename_i mt hm;unfold aff at h;have acz:∀{c:Bool} {f0:FuncId},(bif mt.path.isEmpty then some (f0,v)else none)=some (f,v')->mt.path= #[]∧f0=f∧v'=v:=by intro c f0 h;obtain⟨h1,h2⟩:=di h;cases h2;exact⟨Array.isEmpty_iff.1 h1,rfl,rfl⟩
   split at h
   ·rename_i f0 el eD hu;obtain⟨h1,rfl,rfl⟩:=acz (c:=true) h;exact⟨_,hv,by simp[method,run_typeInfo w hi,hm,h1,follow,eD,receiverAt,run_underlying hu w,Place.get]⟩
   ·rename_i f0 el eD hu;obtain⟨hp,h⟩:=di h;have h1:mt.path= #[]:=Array.isEmpty_iff.1 hp;split at h
    ·rename_i id off;split at h
     ·rename_i v2 hl;cases h;obtain⟨e,he,rfl⟩:=hv;obtain⟨AY,k1,k2⟩:=VC hw hl he;refine⟨AY,k2,?_⟩;have ali:∀(a:Addr) (s:String),(Builtin.ssaWrapNilChk_ #[t] t #[.pointer (some a),strVal "",strVal s]).run P w=.ok (.pointer (some a)) w:=by intro a s;unfold Builtin.ssaWrapNilChk_ strVal;rfl
      simp[method,run_typeInfo w hi,hm,h1,follow,eD,receiverAt,run_underlying hu w,Place.get,ali,asAddr,k1]
     ·cases h
    ·cases h
   ·rename_i f0 d H_ eD hu;obtain⟨h1,rfl,rfl⟩:=acz (c:=true) h;refine⟨_,hv,?_⟩;simp only[method,Sem.run_bind,run_typeInfo w hi,Result.andThen_ok,hm,h1,follow,eD,Sem.run_pure];simp only[receiverAt,Sem.run_bind,run_underlying hu w,Result.andThen_ok];cases d<;>first
     |(exact absurd rfl (H_ _))
     |simp[Place.get]
   ·cases h
  ·cases h
 ·cases h
end
section
variable{P:Program}{φ:bu}{base:ez}{m:Nat}{H:AH}{w:World}{ρ:Operand->Option AV}{ev:Operand->Value}
theorem ak6(hw:WR φ base H w){o:Oper}{r:Operand}{name:String}{args:Array Operand}{argTypes:Array TypeId}{aU:fU}
 (ho:o.op=.call {callee:=.invoke r name,args,argTypes}) (hr:mX φ ρ ev (r::args.toList)) (h:LM P ρ H r name args=some aU):
 oT P m base φ H w (execOp ev o) aU:=by
 unfold LM at h;split at h
 ·rename_i t v l e1 e2;split at h
  ·rename_i f v' alM;have l6:=zo (hr.ot (l':=args.toList) (fun x hx=>eE _ hx)) e2;obtain⟨vv,hv,hvv⟩:=hr r (eP ..) _ e1;obtain⟨AY,amj,dU⟩:=anl hw alM hvv (P.types.size+Made.depth-1);have hd:1<=Made.depth:=by decide
   have hfu:P.types.size+Made.depth-1+1=P.types.size+Made.depth:=by omega
   rw[hfu]at dU;have L2:=KN (P:=P) (m:=m) (base:=base) (H:=H) (φ:=φ) (vf:=.func (.func f) #[] #[]) (AU:= #[AY]++args.map ev) h ⟨#[],#[],rfl,rfl,lX,lX⟩ (by rw[Array.toList_append];exact pE.2 ⟨amj,by simpa using l6⟩);have h0:=L2.1 w;have zS:(#[ev r]++args.map ev).extract 1 (#[ev r]++args.map ev).size=args.map ev:=by apply Array.ext';simp;exact List.take_of_length_le (by simp)
   have e0:(execOp ev o).run P w=(do let d←Deferred.ofValue (.func (.func f) #[] #[]) (#[AY]++args.map ev);invoke d.target d.args:Sem Next).run P w:=by
    have g0:(#[ev r]++args.map ev)[0]? =some (ev r):=by rw[←Array.getElem?_toList,Array.toList_append];rfl
    have ge:(execOp ev o).run P w=(callMethod (ev r) name (args.map ev)).run P w:=by obtain⟨d,op,ty,p,af,gu⟩:=o;cases ho;have e1:execOp ev {dst:=d,op:=.call {callee:=.invoke r name,args,argTypes},type:=ty,pos:=p,after:=af,guard:=gu}=(do let d←resolve ev {callee:=.invoke r name,args,argTypes} ty;invoke d.target d.args:Sem Next):=rfl;have e2:resolve ev {callee:=.invoke r name,args,argTypes} ty=(pure {target:=.fn (.method name) #[],args:= #[ev r]++args.map ev}:Sem Deferred):=rfl;rw[e1,e2,Sem.run_bind,Sem.run_pure,Result.andThen_ok];simp only[invoke,g0,zS]
    rw[ge,hv];have e3:(callMethod (.iface t vv) name (args.map ev)).run P w=(callFunc f (#[AY]++args.map ev)).run P w:=by simp only[callMethod,Sem.run_bind,run_program,Result.andThen_ok,dU]
    rw[e3];simp only[Deferred.ofValue,Sem.run_bind,Sem.run_pure,Result.andThen_ok,invoke];simp
   rcases L2.2 with⟨g,l',rfl⟩|⟨g,l',rfl⟩
   ·obtain⟨args',a1,a2⟩:=h0;exact⟨args',by rw[e0];exact a1,a2⟩
   ·obtain⟨e,args',a0,a1,a2⟩:=h0;exact⟨e,args',a0,by rw[e0];exact a1,a2⟩
  ·cases h
 ·cases h
end
section
variable{P:Program}{φ:bu}{base:ez}{m:Nat}{H:AH}{w:World}{ρ:Operand->Option AV}{ev:Operand->Value}
theorem ak4{o:Oper}{b:Builtin}{args:Array Operand}{argTypes:Array TypeId}{aU:fU}{l:LV}
 (ho:o.op=.call {callee:=.builtin b,args,argTypes}) (hw:WR φ base H w) (hb:gQ base w) (hm:m<=H.bW) (jc:bm φ l (args.map ev).toList) (h:Ez P H b l argTypes=some aU):
 oT P m base φ H w (execOp ev o) aU:=by
 have dU:∀s:Sem Next,(∀Ha,builtin b argTypes o.type Ha (args.map ev)=s)->(execOp ev o).run P w=s.run P w:=by intro s hs;obtain⟨d,op,ty,p,af,gu⟩:=o;cases ho;have e1:execOp ev {dst:=d,op:=.call {callee:=.builtin b,args,argTypes},type:=ty,pos:=p,after:=af,guard:=gu}=(do let d←resolve ev {callee:=.builtin b,args,argTypes} ty;invoke d.target d.args:Sem Next):=rfl;have e2:resolve ev {callee:=.builtin b,args,argTypes} ty=(pure {target:=.builtin b argTypes ty (args.map fun|.const _=>true|_=>false),args:=args.map ev}:Sem Deferred):=rfl;rw[e1,e2,Sem.run_bind,Sem.run_pure,Result.andThen_ok];rw[←hs (args.map fun|.const _=>true|_=>false)];rfl
 have Vz:∀(s:Sem Next) v H',(∀Ha,builtin b argTypes o.type Ha (args.map ev)=s)->gi P m base φ H w s v H'->oT P m base φ H w (execOp ev o) (.iC v H'):=by intro s v H' hs ⟨bf,w',v',h1,h2⟩;exact⟨bf,w',v',by rw[dU s hs];exact h1,h2⟩
 unfold Ez at h;split at h
 ·rename_i s x;simp only[bm]at jc;obtain⟨v0,r1,e1,xk,v1,r2,rfl,z7,rfl⟩:=jc;have g0:(args.map ev)[0]? =some v0:=by rw[←Array.getElem?_toList,e1];rfl
  have g1:(args.map ev)[1]? =some v1:=by rw[←Array.getElem?_toList,e1];rfl
  cases ha:DF P H argTypes s x with
  |none=>simp[ha,Cy]at h
  |some r=>obtain⟨v,H'⟩:=r;simp only[ha,Cy]at h;cases h;exact Vz _ _ _ (fun _=>rfl) (ahP (P:=P) (m:=m) (T:=o.type) hw hb hm g0 g1 xk z7 ha)
 ·rename_i s x;simp only[bm]at jc;obtain⟨v0,r1,e1,xk,v1,r2,rfl,z7,rfl⟩:=jc;have g0:(args.map ev)[0]? =some v0:=by rw[←Array.getElem?_toList,e1];rfl
  have g1:(args.map ev)[1]? =some v1:=by rw[←Array.getElem?_toList,e1];rfl
  cases ha:KY P H argTypes s x with
  |none=>simp[ha,Cy]at h
  |some r=>obtain⟨v,H'⟩:=r;simp only[ha,Cy]at h;cases h;exact Vz _ _ _ (fun _=>rfl) (ai1 (P:=P) (m:=m) (T:=o.type) hw g0 g1 xk z7 ha)
 ·cases h;simp only[oT];rw[dU (pure .recover) (fun _=>rfl)];rfl
 ·rename_i id k;simp only[bm]at jc;obtain⟨v0,r1,e1,xk,v1,r2,rfl,z7,rfl⟩:=jc;obtain⟨e,he,rfl⟩:=xk;obtain⟨v,H',rfl,h1⟩:=aja (P:=P) (m:=m) (T:=o.type) hw h he z7 e1;exact Vz _ _ _ (fun _=>rfl) h1
 ·cases h
end
section
variable{P:Program}{φ:bu}{base:ez}{m:Nat}{H:AH}{w:World}{ρ:Operand->Option AV}{ev:Operand->Value}
theorem acf{o:Oper}{aU:fU}(hw:WR φ base H w)(hb:gQ base w)(hm:m<=H.bW)(hr:mX φ ρ ev o.op.operands.toList)(h:oz P ρ H o.op=some aU):oT P m base φ H w (execOp ev o) aU:=by
 cases o with
 |mk dst op type pos after guard=>
 simp only at hr h;cases op<;>simp only[oz]at h<;>try (cases h;done)
 case store t a x=>
  unfold EG at h;split at h
  ·rename_i id off v ha hx;obtain⟨e,he,hv⟩:=hr a (by simp[Op.operands]) _ ha;cases hs:FZ P H t id off v with
   |none=>simp[hs,uG]at h
   |some H'=>simp only[hs,uG]at h;cases h;obtain⟨w',h1,h2,h3,h4⟩:=avn (P:=P) hw hs he (hr x (by simp[Op.operands]) _ hx);simp only[oT,execOp];exact gi.skip (by simp[Instr.storeAt,Instr.sureAddr,hv,h1]) h2 (h4 m) h3
  ·cases h
 case mapUpdate t mm k x=>
  unfold zK at h;split at h
  ·rename_i am ak av e1 e2 e3;cases hs:Fy P H t am ak av with
   |none=>simp[hs,uG]at h
   |some H'=>simp only[hs,uG]at h;cases h;obtain⟨w',h1,h2,h3,h4⟩:=adG (P:=P) hw hs (hr mm (by simp[Op.operands]) _ e1) (hr k (by simp[Op.operands]) _ e2) (hr x (by simp[Op.operands]) _ e3);simp only[oT,execOp];exact gi.skip h1 h2 (h4 m) h3
  ·cases h
 case insert t mm k x=>
  unfold zK at h;split at h
  ·rename_i am ak av e1 e2 e3;cases hs:Fy P H t am ak av with
   |none=>simp[hs,uG]at h
   |some H'=>simp only[hs,uG]at h;cases h;obtain⟨w',h1,h2,h3,h4⟩:=adG (P:=P) hw hs (hr mm (by simp[Op.operands]) _ e1) (hr k (by simp[Op.operands]) _ e2) (hr x (by simp[Op.operands]) _ e3);simp only[oT,execOp];exact gi.skip h1 h2 (h4 m) h3
  ·cases h
 case mapEntry t mm k=>
  unfold HK at h;split at h
  ·rename_i kt elem id key hu e1 e2;obtain⟨e,he,hv⟩:=hr mm (by simp[Op.operands]) _ e1;obtain⟨v,H',rfl,h1⟩:=ajM (P:=P) (m:=m) hw hu h he (hr k (by simp[Op.operands]) _ e2);simp only[oT,execOp,hv];exact h1
  ·cases h
 case entryStore t mm s x=>
  unfold HJ at h;split at h
  ·rename_i id k born v e1 e2 e3;obtain⟨e,he,hv⟩:=hr mm (by simp[Op.operands]) _ e1;have hs:=hr s (by simp[Op.operands]) _ e2;simp only[VR]at hs;obtain⟨H',rfl,h1⟩:=ajN (P:=P) (m:=m) (t:=t) (k:=k) hw h he (hr x (by simp[Op.operands]) _ e3);simp only[oT,execOp,hv,hs];exact h1
  ·cases h
 case range t x=>obtain⟨v,H',rfl,h1⟩:=ala (P:=P) (m:=m) hw hb hm (fun a ha=>hr x (by simp[Op.operands]) a ha) h;simp only[oT,execOp];exact h1
 case next it tg=>obtain⟨v,H',rfl,h1⟩:=ak7 (P:=P) (m:=m) (T:=type) hw (fun a ha=>hr it (by simp[Op.operands]) a ha) h;simp only[oT,execOp];exact h1
 case entry it=>obtain⟨v,H',rfl,h1⟩:=ak5 (P:=P) (m:=m) hw (fun a ha=>hr it (by simp[Op.operands]) a ha) h;simp only[oT,execOp];exact h1
 case panic x=>
  unfold Th at h;split at h
  ·rename_i t a hx;cases h;have hv:=hr x (by simp[Op.operands]) _ hx;have MF:=hv;obtain⟨va,e,_⟩:=MF;simp only[oT,execOp];exact⟨ev x,by simp[Instr.panic,e],hv⟩
  ·cases h
 case defer c=>
  unfold BH at h;obtain⟨callee,args,argTypes⟩:=c;cases callee<;>simp only at h<;>try (cases h;done)
  rename_i f;split at h
  ·rename_i fn first kv l e1 e2
   cases hy:uo fn;case true=>rw[hy]at h;cases h
   rw[hy]at h;simp only[cond_false]at h;cases h;have l6:=zo (hr.ot (l':=args.toList) (fun x hx=>by simp[Op.operands,Call.operands];exact .inr (by simpa using hx))) e2;obtain⟨f',c',hv,_,h1,h2⟩:=hr f (by simp[Op.operands,Call.operands]) _ e1;simp only[oT,execOp];refine⟨{target:=.fn fn c',args:=f'++args.map ev},by simp[resolve,hv,Deferred.ofValue],c',f'++args.map ev,rfl,hy,h2,?_⟩;rw[Array.toList_append];exact h1.xW (by simpa using l6)
  ·cases h
 case call c=>
  unfold LK at h;obtain⟨callee,args,argTypes⟩:=c;cases callee<;>simp only at h;case value f=>
   unfold Tk at h;split at h
   ·rename_i g l e1 e2;have l6:=zo (hr.ot (l':=args.toList) (fun x hx=>by simp[Op.operands,Call.operands];exact .inr (by simpa using hx))) e2;have:=(KN (P:=P) (m:=m) (base:=base) (H:=H) (AU:=args.map ev) h (hr f (by simp[Op.operands,Call.operands]) _ e1) (by simpa using l6)).1 w;simpa only[execOp,resolve]using this
   ·cases h
  case invoke r name=>exact ak6 hw rfl (hr.ot (l':=r::args.toList) (fun x hx=>by simp[Op.operands,Call.operands];simpa using hx)) h
  case builtin b=>
   split at h
   ·rename_i l hl;have l6:=zo (hr.ot (l':=args.toList) (fun x hx=>by simp[Op.operands,Call.operands];simpa using hx)) hl;exact ak4 rfl hw hb hm (by simpa using l6) h
   ·cases h
end
end Go.Ev
