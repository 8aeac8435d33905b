/- Part of a proof of ClauseValid. -/
import Derived.Test.YtanclcoobcaemaaGreatVA1
import Derived.Laws.RangeString
set_option linter.all false
set_option linter.unusedSectionVars false
namespace Go.Ev
section
variable{P:Program}{φ:bf}{ρ:Operand->Option AV}{ev:Operand->Value}
theorem Nv(z:LV)(n:Nat):(iU z n).length=n*z.length:=by
 induction n with
 |zero=>simp[iU]
 |succ n ih=>simp[iU,ih,Nat.succ_mul];omega
theorem ae8(z:LV):∀(n i:Nat),i<n*z.length->(iU z n)[i]? =z[i%z.length]?
 |0,i,h=>by simp at h
 |n+1,i,h=>by
  simp only[iU];by_cases h1:i<z.length
  ·rw[List.getElem?_append_left h1,Nat.mod_eq_of_lt h1]
  ·have h2:z.length<=i:=by omega
   rw[Iy h2,ae8 z n (i-z.length) (by rw[Nat.succ_mul]at h;omega),←Nat.mod_eq_sub_mod h2]
theorem ae9{z:LV}(h:z.all AV.dR=true):∀n,(iU z n).all AV.dR=true
 |0=>rfl
 |n+1=>by show(z++iU z n).all AV.dR=true;rw[List.all_append,h,ae9 h n];rfl
theorem Nw{z:LV}{zs:Array Value}(hz:bc φ z zs.toList)(n:Nat):bc φ (iU z n) ((Array.range (n*zs.size)).map (zs[· %zs.size]!)).toList:=by
 have hl:z.length=zs.size:=by have:=hz.jM;simpa using this
 refine P6 (by simp[Nv,hl]) ?_;intro i a v h1 h2;have hi:i<n*zs.size:=by
  rcases Nat.lt_or_ge i (n*zs.size)with h|h
  ·exact h
  ·rw[List.getElem?_eq_none (by rw[Nv,hl];exact h)]at h1;cases h1
 rw[ae8 z n i (by rw[hl];exact hi),hl]at h1;obtain⟨x,h3,h4⟩:=hz.get h1
 have hs:i%zs.size<zs.size:=Nat.mod_lt _ (by rcases Nat.eq_zero_or_pos zs.size with h|h;· rw[h]at hi;simp at hi
                                             ·exact h)
 simp only[Array.toList_map,Array.toList_range,List.getElem?_map,List.getElem?_range hi,Option.map_some,p9]at h2;subst h2;have:zs[i%zs.size]! =x:=by
  rw[getElem!_pos zs _ hs];have h5:zs[i%zs.size]? =some x:=by simpa using h3
  rw[getElem?_pos zs _ hs]at h5;exact dz h5
 rw[this];exact h4
theorem J6{o:Obj}(w:World):(newObj o).run P w=.ok w.heap.size (w.alloc o):=rfl
theorem anz{ρ:Operand->Option AV}{op:Op}{ob:aZ}{g:Nat->AV}(h:nD P ρ op=some (ob,g))(vs:LV)(el:TypeId):ob≠.aF vs el:=by
 have hc:∀{g g':Nat->AV} {cs:LV} {elem:TypeId} {ob:aZ},As g cs elem=some (ob,g')->ob≠.aF vs el:=by intro g g' cs elem ob h;unfold As at h;obtain⟨_,h⟩:=c6 h;cases h;exact fun h=>by cases h
 cases op<;>simp only[nD]at h<;>try (cases h;done)
 case alloc e=>unfold T7 at h;split at h<;>first|exact hc h|cases h
 case box e x=>unfold T8 at h;split at h<;>first|exact hc h|cases h
 case buildSlice t len kj=>
  unfold T9 at h;split at h
  ·split at h
   ·unfold QG at h;obtain⟨_,h⟩:=c6 h;split at h<;>first|exact hc h|cases h
   ·cases h
  ·cases h
 case makeMap t r=>unfold Ug at h;split at h<;>first|(cases h;exact fun h=>by cases h)|cases h
 case makeSlice t len cap=>
  unfold Ml at h;split at h
  ·split at h
   ·cases hk:rA cap
    ·rw[hk]at h;simp only[cond_false]at h;unfold MH at h;obtain⟨_,h⟩:=c6 h;cases h;exact fun h=>by cases h
    ·rw[hk]at h;simp only[cond_true]at h;unfold Uu at h;obtain⟨_,h⟩:=c6 h;cases h;unfold Cc;intro hh;cases hb:Nat.ble _ 64<;>rw[hb]at hh<;>cases hh
   ·cases h
  ·cases h
def Yu(P:Program)(φ:bf)(s:Sem Next)(ob:aZ)(g:Nat->AV):Prop:=
 ∃(o':Obj) (n:Nat) (f:Nat->Value),(∀w,s.run P w=.ok (.value (f w.heap.size)) (w.alloc o'))∧(∀ψ b,eg φ ψ->OR ψ ob ⟨b,0,n⟩ o')∧
  (∀(ψ:bf) id b,ψ id=some ⟨b,0,n⟩->VR ψ (g id) (f b))∧ob.aU=true
theorem QP{g g':Nat->AV}{cs:LV}{elem:TypeId}{ob:aZ}(h:As g cs elem=some (ob,g')):cs.all AV.dR=true∧ob=.aw cs elem∧g'=g:=by unfold As at h;obtain⟨h1,h2⟩:=c6 h;cases h2;exact⟨h1,rfl,rfl⟩
theorem GD{cs:LV}{vs:Array Value}{elem el:TypeId}(h:bc φ cs vs.toList)(h1:cs.all AV.dR=true):∀ψ b,eg φ ψ->OR ψ (.aw cs elem) ⟨b,0,vs.size⟩ (.cells vs el (0,0)):=by
 intro ψ b cI;refine⟨vs,el,rfl,rfl,?_,?_,h1⟩
 ·have:=h.jM;simp at this⊢;omega
 ·have hl:=h.jM;simp only[jB];rw[hl,List.take_length];exact bc.kQ cI _ _ h
theorem apK(z:LV)(c:Nat)(elem:TypeId):(Cc z c elem).aU=true:=by unfold Cc;cases Nat.ble c 64<;>rfl
theorem apJ{ψ:bf}{z:LV}{c:Nat}{elem:TypeId}{e:PE}{o:Obj}(h:OR ψ (.aw (iU z c) elem) e o):OR ψ (Cc z c elem) e o:=by unfold Cc;cases Nat.ble c 64<;>exact h
theorem Zl(ψ:bf)(id b n:Nat)(h:ψ id=some ⟨b,0,n⟩):VR ψ (J' id) (.pointer (some ⟨b,0,none⟩)):=by simp only[J',VR];exact⟨_,h,rfl⟩
theorem Zp(ψ:bf)(id b n len cap sz:Nat)(h:ψ id=some ⟨b,0,n⟩)(hn:n=cap*sz)(hl:len<=cap):VR ψ (AD len cap sz id) (.slice (some ⟨b,0,none⟩) len cap):=by simp only[AD,VR];exact⟨_,0,cap,h,rfl,.inr rfl,hl,fun _=>rfl,by simp[hn]⟩
theorem DJ{s:Sem Value}{v:Value}{w w':World}(h:s.run P w=.ok v w'):(do pure (.value (←s)):Sem Next).run P w=.ok (.value v) w':=by simp[h]
theorem Fu(f:Nat->Value):(Array.range 0).map f= #[]:=by
 apply Array.ext
 ·simp
 ·intro i h1 h2;simp at h2
theorem adk{o:Oper}{ob:aZ}{g:Nat->AV}(hr:mr φ ρ ev o.op.operands.toList)(h:nD P ρ o.op=some (ob,g)):Yu P φ (execOp ev o) ob g:=by
 cases o with
 |mk dst op type pos after guard=>
 simp only at hr h;cases op<;>simp only[nD]at h<;>try (cases h;done)
 case alloc e=>
  unfold T7 at h;split at h
  ·rename_i z hz;obtain⟨vz,h1,h2⟩:=wJ (φ:=φ) hz;obtain⟨h3,rfl,rfl⟩:=QP h;refine⟨.cells vz.cells e (0,0),vz.cells.size,fun b=>.pointer (some ⟨b,0,none⟩),fun w=>?_,GD (AV.r8 h1) h3,fun ψ id b hh=>Zl ψ id b _ hh,rfl⟩;simp only[execOp];refine DJ ?_;simp[Instr.alloc,h2 w,newVar,newRow]
  ·cases h
 case box e x=>
  unfold T8 at h;split at h
  ·rename_i a ha;obtain⟨h3,rfl,rfl⟩:=QP h;have h1:=hr x (by simp[Op.operands]) _ ha;refine⟨.cells (ev x).cells e (0,0),(ev x).cells.size,fun b=>.pointer (some ⟨b,0,none⟩),fun w=>?_,GD (AV.r8 h1) h3,fun ψ id b hh=>Zl ψ id b _ hh,rfl⟩;simp only[execOp];refine DJ ?_;simp[Instr.box,newVar,newRow]
  ·cases h
 case buildSlice t len kj=>
  unfold T9 at h;split at h
  ·rename_i elem ps hu hp;split at h
   ·rename_i s z hs hz;obtain⟨vz,h1,h2⟩:=wJ (φ:=φ) hz;unfold QG at h;obtain⟨hb,h⟩:=c6 h;simp only[cW,Nat.ble_eq]at hb;obtain⟨lI,qu⟩:=hb;have Bv:z.ek.length=s:=eu qu;split at h
    ·rename_i cs hf;obtain⟨h3,rfl,rfl⟩:=QP h;have mE:=AV.r8 h1;have oa:vz.cells.size=s:=by have:=mE.jM;simp at this;omega
     have HP:=J8 (ev:=ev) (hr.nR (l':=kj.toList.map (·.2)) (fun x hx=>by simpa[Op.operands]using hx)) hp;obtain⟨r',h4,h5⟩:=KX HP (Nw mE len) hf;have bF:cs.length=len*s:=by
      have:∀(ps:List (Nat×AV)) (c c':LV),vM (fun i=>some (i*s,s)) c ps=some c'->c'.length=c.length:=by
       intro ps;induction ps with
       |nil=>intro c c' h;simp only[vM]at h;cases h;rfl
       |cons p ps ih=>
        intro c c' h;obtain⟨i,v⟩:=p;simp only[vM]at h;obtain⟨_,h⟩:=c6 h;split at h
        ·cases h
        ·rename_i c1 Ez;obtain⟨cI,rfl⟩:=Vi Ez;rw[ih _ _ h];simp;omega
      rw[this _ _ _ hf,Nv,Bv]
     have ru:r'.size=len*s:=by have:=h5.jM;simp at this;omega
     refine⟨.cells r' elem (0,0),r'.size,fun b=>.slice (some ⟨b,0,none⟩) len len,fun w=>?_,GD h5 h3,fun ψ id b hh=>Zp ψ id b _ len len s hh ru (fB _),rfl⟩;simp only[execOp];refine DJ ?_;have cI:¬(len*s>2^24):=by omega
     have HC:Instr.fill (fun i=>some (i*s,s)) ((Array.range (len*s)).map (fun x=>(if len*s=0 then #[]else vz.cells)[x%(if len*s=0 then #[]else vz.cells).size]!)) (kj.map fun x=>(x.1,ev x.2)).toList=some r':=by
      rw[oa]at h4;by_cases h0:len*s=0
      ·simp only[h0,if_true]at h4⊢;rw[Fu]at h4⊢;simpa using h4
      ·simp only[h0,if_false];rw[oa];simpa using h4
     by_cases h0:len*s=0
     ·simp only[h0,if_true]at HC;rw[Fu]at HC;simp only[Instr.buildSlice,Sem.run_bind,run_underlying hu w,Result.andThen_ok,iV hs w,aB cI,aY h0,Sem.run_pure];simp only[h0,Fu,HC,newRow,Sem.run_bind,J6,Result.andThen_ok,Sem.run_pure]
     ·simp only[h0,if_false]at HC;simp only[Instr.buildSlice,Sem.run_bind,run_underlying hu w,Result.andThen_ok,iV hs w,aB cI,aB h0,h2 w,Sem.run_pure,HC,newRow,J6]
    ·cases h
   ·cases h
  ·cases h
 case makeMap t r=>
  unfold Ug at h;have key:∀e:TypeId×TypeId,P.underlying t=some (.map e.1 e.2)->(r.map ev=none∨∃k n,r.map ev=some (.int k n))->∀p,ob=.bC [] 0 p∧g=.aH->Yu P φ (execOp ev {dst,op:=.makeMap t r,type,pos,after,guard}) ob g:=by
   intro e hu hv p ⟨h1,h2⟩;subst h1 h2;refine⟨.map #[] 0,0,fun b=>.map (some b),fun w=>?_,fun ψ b _=>⟨#[],rfl,by simp[dk],fun _=>by simp[dk]⟩,fun ψ id b hh=>by simp only[VR];exact⟨_,hh,rfl⟩,rfl⟩;simp only[execOp];refine DJ ?_;rcases hv with hv|⟨k,n,hv⟩
   ·simp[Instr.makeMap,hv]
   ·simp[Instr.makeMap,hv,run_underlying hu w,asInt,asIntOf]
  split at h
  ·rename_i a b hu ru;cases h;rcases Is (hr.nR (l':=r.toList) (fun y hy=>by cases r<;>simp at hy;subst hy;simp[Op.operands])) ru with⟨_,h⟩|⟨_,_,e,_⟩
   ·exact key (a,b) hu (.inl h) _ ⟨rfl,rfl⟩
   ·cases e
  ·rename_i a b k n hu ru;cases h;rcases Is (hr.nR (l':=r.toList) (fun y hy=>by cases r<;>simp at hy;subst hy;simp[Op.operands])) ru with⟨e,_⟩|⟨x,v,e,hv,hx⟩
   ·cases e
   ·cases e;simp only[VR]at hx;exact key (a,b) hu (.inr ⟨k,n,by rw[hv,hx]⟩) _ ⟨rfl,rfl⟩
  ·cases h
 case makeSlice t len cap=>
  unfold Ml at h;split at h
  ·rename_i elem l c hu hl hc;have uO:=hr len (by simp[Op.operands]) _ hl;have qv:=hr cap (by simp[Op.operands]) _ hc;simp only[VR]at uO qv;split at h
   ·rename_i s z gK hs hz lJ;obtain⟨vz,h1,h2⟩:=wJ (φ:=φ) hz;obtain⟨b1,b2,b3,b4,b5,b6,hg,fv⟩:l<=c∧c<=65536∧gK<=65536∧s<=65536∧Nat.beq z.ek.length s=true∧z.ek.all AV.dR=true∧g=AD l c s∧
     (ob=Cc z.ek c elem∨(ob=VO z.ek c elem∧z.ek.all iD=true)):=by
     cases hk:rA cap
     ·rw[hk]at h;unfold MH at h;obtain⟨hb,h⟩:=c6 h;simp only[cW,Nat.ble_eq]at hb;obtain⟨⟨⟨⟨⟨⟨b1,b2⟩,b3⟩,b4⟩,b5⟩,b6⟩,b7⟩:=hb;simp only[p9,Prod.mk.injEq]at h;exact⟨b1,b2,b3,b4,b5,b6,h.2.symm,.inr ⟨h.1.symm,b7⟩⟩
     ·rw[hk]at h;unfold Uu at h;obtain⟨hb,h⟩:=c6 h;simp only[cW,Nat.ble_eq]at hb;obtain⟨⟨⟨⟨⟨b1,b2⟩,b3⟩,b4⟩,b5⟩,b6⟩:=hb;simp only[p9,Prod.mk.injEq]at h;exact⟨b1,b2,b3,b4,b5,b6,h.2.symm,.inl h.1.symm⟩
    have Bv:z.ek.length=s:=eu b5;have h3:(iU z.ek c).all AV.dR=true:=ae9 b6 c;subst hg;have mE:=AV.r8 h1;have oa:vz.cells.size=s:=by have:=mE.jM;simp at this;omega
    have h5:=Nw mE c;rw[oa]at h5;refine⟨.cells ((Array.range (c*s)).map (vz.cells[· %s]!)) elem (0,0),c*s,fun b=>.slice (some ⟨b,0,none⟩) l c,fun w=>?_,?_,fun ψ id b hh=>Zp ψ id b _ l c s hh rfl b1,by rcases fv with rfl|⟨rfl,_⟩;exact apK _ _ _;rfl⟩
    ·simp only[execOp];refine DJ ?_;obtain⟨ti,Bt,HV⟩:=QM lJ w;have TO:IntKind.i64.wrap (l:Int)=l:=IntWalk.i64_in _ (by omega);have pj:IntKind.i64.wrap (c:Int)=c:=IntWalk.i64_in _ (by omega);have S8:(gK:Int)*c<=2^48:=by
      have:gK*c<=65536*65536:=Nat.mul_le_mul b3 b2;have h':((gK*c:Nat):Int)<=((65536*65536:Nat):Int):=by exact_mod_cast this
      simp only[Int.natCast_mul]at h';omega
     have t1:¬((c:Int)<0∨ti.bytes*(c:Int)>2^48):=by rw[HV];omega
     have t2:¬((l:Int)<0):=by omega
     have t3:¬((l:Int)>c):=by omega
     have t4:¬(((((c:Int)<0)∨281474976710656<(ti.bytes:Int)*(c:Int))∨(l:Int)<0)∨c<l):=by omega
     by_cases h0:c*s=0
     ·simp[Instr.makeSlice,run_underlying hu w,uO,qv,asInt,asIntOf,Bt,TO,pj,iV hs w,h0,newRow];rw[aB t4,Fu,Fu]
     ·simp[Instr.makeSlice,run_underlying hu w,uO,qv,asInt,asIntOf,Bt,TO,pj,iV hs w,h0,newRow];rw[aB t4];simp[h2 w,oa]
    ·have:=GD (el:=elem) (elem:=elem) h5 h3;intro ψ b cI;rcases fv with rfl|⟨rfl,hp⟩
     ·refine apJ ?_;simpa using this ψ b cI
     ·have amF:=bc.yB (ψ:=φ.pu) _ _ (by rw[ya];exact hp) mE;have h50:=Nw amF c;rw[oa]at h50;have:=GD (el:=elem) (elem:=elem) h50 h3 φ.pu b (eg.sU _);have h51:OR φ.pu (.aw (iU z.ek c) elem) ⟨b,0,c*s⟩ (.cells ((Array.range (c*s)).map (vz.cells[· %s]!)) elem (0,0)):=by simpa using this
      exact Yv cI h51
   ·cases h
  ·cases h
end
section
variable{φ:bf}{base:dX}{H:AH}{w:World}
@[simp] theorem pt (H:AH) (id iC:Nat) (o:aZ):(H.dL id o).bu iC=if iC=id then some o else H.bu iC:=by cases H;simp[AH.dL,AH.bu,Tr.kZ]
@[simp] theorem oK (H:AH) (id:Nat) (o:aZ):(H.dL id o).bL=H.bL:=by cases H;rfl
@[simp] theorem rF (H:AH) (iC:Nat) (o:aZ):(H.iq o).bu iC=if iC=H.bL then some o else H.bu iC:=by cases H;simp[AH.iq,AH.bu,Tr.kZ]
@[simp] theorem x9 (H:AH) (o:aZ):(H.iq o).bL=H.bL+1:=by cases H;rfl
theorem dk.Ap{φ ψ:bf}(h:eg φ ψ):∀{es:List (AV×AV×Nat)} {ms:List MapEntry},dk φ es ms->dk ψ es ms
 |[],_,h1=>by simpa[dk]using h1
 |(k,v,b)::es,_,h1=>by simp only[dk]at h1⊢;obtain⟨m,ms,rfl,h2,h3,h4,h5⟩:=h1;exact⟨m,ms,rfl,VR.gW h _ _ h2,VR.gW h _ _ h3,h4,dk.Ap h h5⟩
theorem DR.mono{φ ψ:bf}(h:eg φ ψ){a:ir}{d:Deferred}(h1:DR φ a d):DR ψ a d:=by
 cases a with
 |wK fn cap args=>obtain⟨c',a',e,hy,h2,h3⟩:=h1;exact⟨c',a',e,hy,bc.kQ h _ _ h2,bc.kQ h _ _ h3⟩
 |ng r=>obtain⟨e,h2,h3⟩:=h1;exact⟨e,h _ _ h2,h3⟩
theorem mK.CA{φ ψ:bf}(h:eg φ ψ):∀{as:List ir} {ds:List Deferred},mK φ as ds->mK ψ as ds
 |[],_,h1=>by simpa[mK]using h1
 |a::as,_,h1=>by simp only[mK]at h1⊢;obtain⟨d,ds,rfl,h2,h3⟩:=h1;exact⟨d,ds,rfl,h2.mono h,mK.CA h h3⟩
theorem TR.mono{φ ψ:bf}(h:eg φ ψ){t:Tr AV}{nt:Nat}{tmps:Array Value}(h1:TR φ t nt tmps):TR ψ t nt tmps:=
 ⟨h1.1,fun i a hi=>let⟨v,h2,h3⟩:=h1.2 i a hi;⟨v,h2,VR.gW h _ _ h3⟩⟩
theorem OR.CC{φ ψ:bf}(h:eg φ ψ){ob:aZ}{e:PE}{o:Obj}(h1:OR φ ob e o):OR ψ ob e o:=by
 cases ob with
 |aw vs elem=>obtain⟨cs,el,rfl,h2,h3,h4,h5⟩:=h1;exact⟨cs,el,rfl,h2,h3,bc.kQ h _ _ h4,h5⟩
 |bC es cT p=>obtain⟨bw,rfl,h2,h3⟩:=h1;exact⟨bw,rfl,h2.Ap h,fun hp=>(h3 hp).Ap h.pu⟩
 |eh vs elem=>obtain⟨cs,el,rfl,h2,h3,h4,h5⟩:=h1;exact⟨cs,el,rfl,h2,h3,bc.kQ h.pu _ _ h4,h5⟩
 |aF vs elem=>obtain⟨cs,el,rfl,h2,h3,h4,h5⟩:=h1;exact⟨cs,el,rfl,h2,h3,bc.kQ h.pu _ _ h4,h5⟩
 |qN s pos=>exact h1
 |rY m nK im yo=>
  obtain⟨m',rfl,h0,h2⟩:=h1;refine⟨m',rfl,h0,?_⟩;cases m with
  |none=>exact h2
  |some id=>obtain⟨e,h3,h4⟩:=h2;exact⟨e,h _ _ h3,h4⟩
 |gb st p fn tmps nt ps a b d=>obtain⟨nc,ed,rfl,h2,h3⟩:=h1;exact⟨nc,ed,rfl,h _ _ h2,h3.mono h⟩
 |ot ds=>
  cases ds with
  |none=>exact h1
  |some l=>obtain⟨l',rfl,h2⟩:=h1;exact⟨l',rfl,h2.CA h⟩
 |b9 vs=>trivial
 |u7 z n elem=>obtain⟨cs,el,rfl,h2,h3,h4,h5⟩:=h1;exact⟨cs,el,rfl,h2,h3,bc.kQ h _ _ h4,h5⟩
 |Qx es=>obtain⟨l,bw,c,rfl,h2,h3⟩:=h1;exact⟨l,bw,c,rfl,h2,h3.Ap h⟩
def cQ(m:Nat)(φ:bf)(H:AH)(ψ:bf)(H':AH):Prop:=
 eg φ ψ∧H.bL<=H'.bL∧∀id,id<m->φ id=none->ψ id=none∧(H'.bu id=H.bu id∨∃vs el,H.bu id=some (.aF vs el))
theorem cQ.jK(m:Nat)(φ:bf)(H:AH):cQ m φ H φ H:=⟨eg.sU φ,fB _,fun _ _ h=>⟨h,.inl rfl⟩⟩
theorem cQ.yy{m:Nat}{φ ψ χ:bf}{H H' Ys:AH}(h:cQ m φ H ψ H')(h':cQ m ψ H' χ Ys):cQ m φ H χ Ys:=
 ⟨h.1.trans h'.1,Nat.le_trans h.2.1 h'.2.1,fun id hm hn=>by
   obtain⟨h1,h2⟩:=h.2.2 id hm hn;obtain⟨h3,h4⟩:=h'.2.2 id hm h1;refine⟨h3,?_⟩;rcases h2 with h2|h2
   ·rw[h2]at h4;exact h4
   ·exact .inr h2⟩
theorem cQ.mono{m n:Nat}{φ ψ:bf}{H H':AH}(h:cQ n φ H ψ H')(hm:m<=n):cQ m φ H ψ H':=
 ⟨h.1,h.2.1,fun id hi hn=>h.2.2 id (Nat.lt_of_lt_of_le hi hm) hn⟩
def uk(w w':World):Prop:=w'.os=w.os∧w'.tape=w.tape∧w'.output=w.output
theorem uk.refl(w:World):uk w w:=⟨rfl,rfl,rfl⟩
theorem uk.trans{w w' Jj:World}(h:uk w w')(h':uk w' Jj):uk w Jj:=⟨h'.1.trans h.1,h'.2.1.trans h.2.1,h'.2.2.trans h.2.2⟩
def c8(base:dX)(w w':World):Prop:=w.heap.size<=w'.heap.size∧(∀b,base b->w'.heap[b]? =w.heap[b]?)∧uk w w'
theorem c8.kv(base:dX)(w:World):c8 base w w:=⟨fB _,fun _ _=>rfl,uk.refl w⟩
theorem c8.ud{base:dX}{w w' Jj:World}(h:c8 base w w')(h':c8 base w' Jj):c8 base w Jj:=
 ⟨Nat.le_trans h.1 h'.1,fun b hb=>(h'.2.1 b hb).trans (h.2.1 b hb),h.2.2.trans h'.2.2⟩
theorem Qf(w:World)(o:Obj):(w.alloc o).heap.size=w.heap.size+1:=by show(w.heap.push o).size=_;simp
theorem Y6(w:World)(o:Obj){b:Nat}(h:b<w.heap.size):(w.alloc o).heap[b]? =w.heap[b]? :=by show(w.heap.push o)[b]? =_;simp[Array.getElem?_push,Nat.ne_of_lt h]
theorem ah6(w:World)(o:Obj):(w.alloc o).heap[w.heap.size]? =some o:=by show(w.heap.push o)[w.heap.size]? =_;simp
def js(φ:bf)(id:Nat)(e:PE):bf:=⟨fun i=>if i=id then some e else φ i,φ.ro⟩
theorem Zx(φ:bf)(id:Nat)(e:PE)(i:Nat):js φ id e i=if i=id then some e else φ i:=rfl
theorem mM(φ:bf)(id:Nat)(e:PE):js φ id e id=some e:=by simp[js]
theorem Ke{φ:bf}{id:Nat}{e:PE}(h:φ id=none):eg φ (js φ id e):=by
 refine⟨fun i e' hi=>?_,fun _ _ h=>h⟩;by_cases vZ:i=id
 ·subst vZ;rw[h]at hi;cases hi
 ·simp[js,vZ,hi]
theorem WR.jV(hw:WR φ base H w){id:Nat}(h:H.bL<=id):φ id=none:=by
 cases he:φ id with
 |none=>rfl
 |some e=>have:=(hw.lt id e he).2.2;omega
theorem WR.Zy(hw:WR φ base H w){id n:Nat}{ob:aZ}{o':Obj}(dF:φ id=none)(ho:H.bu id=some ob)(hb:gA base w)
 (rr:∀ψ b,eg φ ψ->OR ψ ob ⟨b,0,n⟩ o'):
 WR (js φ id ⟨w.heap.size,0,n⟩) base H (w.alloc o'):=by
 have cJ:(w.alloc o').heap.size=w.heap.size+1:=Qf _ _;have n9:∀b,b<w.heap.size->(w.alloc o').heap[b]? =w.heap[b]? :=fun b hb=>Y6 _ _ hb
 have Bm:(w.alloc o').heap[w.heap.size]? =some o':=ah6 _ _;have cI:=Ke (e:=⟨w.heap.size,0,n⟩) dF;refine⟨?_,?_,?_,hw.nx,hw.sE rfl (fun b o h=>n9 _ (hw.apC h)) fun i bW e h1 l1 h2=>?_⟩
 ·intro i bW e h1 h2;by_cases hi:i=id
  ·subst hi;rw[mM]at h2;cases h2;rw[ho]at h1;cases h1;exact⟨o',Bm,rr _ _ cI⟩
  ·simp only[js,aB hi]at h2;obtain⟨o,h3,h4⟩:=hw.ey i bW e h1 h2;exact⟨o,by rw[n9 _ (hw.lt i e h2).1];exact h3,h4.CC cI⟩
 ·intro i i' jl oj e e' h1 l1 h2 h3 l2 h4 he;by_cases hi:i=id<;>by_cases eO:i'=id
  ·rw[hi,eO]
  ·simp only[js,aB eO]at h4;subst hi;rw[mM]at h2;cases h2;have:=(hw.lt i' e' h4).1;simp only at he;omega
  ·simp only[js,aB hi]at h2;subst eO;rw[mM]at h4;cases h4;have:=(hw.lt i e h2).1;simp only at he;omega
  ·simp only[js,aB hi]at h2;simp only[js,aB eO]at h4;exact hw.kx i i' jl oj e e' h1 l1 h2 h3 l2 h4 he
 ·intro i e h2;by_cases hi:i=id
  ·subst hi;rw[mM]at h2;cases h2;exact⟨by rw[cJ];exact lR _,fun h=>Nat.lt_irrefl _ (hb _ h),hw.nx _ _ ho⟩
  ·simp only[js,aB hi]at h2;have:=hw.lt i e h2;exact⟨by rw[cJ];omega,this.2⟩
 ·by_cases hi:i=id
  ·subst hi;rw[mM]at h2;cases h2;exact .inr (fB _)
  ·simp only[js,aB hi]at h2;exact .inl ⟨i,bW,e,h1,l1,h2,rfl⟩
theorem WR.new(hw:WR φ base H w)(ob:aZ):WR φ base (H.iq ob) w:=by
 have hf:=hw.jV (fB H.bL);have di:∀{id e},φ id=some e->id≠H.bL:=fun h e=>by rw[e,hf]at h;cases h
 refine⟨?_,?_,?_,?_,hw.sE rfl (fun _ _ _=>rfl) fun i bW e h1 l1 h2=>.inl ⟨i,bW,e,by rw[rF,aB (di h2)]at h1;exact h1,l1,h2,rfl⟩⟩
 ·intro i bW e h1 h2;rw[rF,aB (di h2)]at h1;exact hw.ey i bW e h1 h2
 ·intro i i' jl oj e e' h1 l1 h2 h3 l2 h4 he;rw[rF,aB (di h2)]at h1;rw[rF,aB (di h4)]at h3;exact hw.kx i i' jl oj e e' h1 l1 h2 h3 l2 h4 he
 ·intro i e h;have:=hw.lt i e h;exact⟨this.1,this.2.1,by rw[x9];omega⟩
 ·intro i bW h;rw[rF]at h;rw[x9];split at h
  ·omega
  ·have:=hw.nx _ _ h;omega
theorem cQ.new{m:Nat}(hm:m<=H.bL)(ob:aZ):cQ m φ H φ (H.iq ob):=
 ⟨eg.sU φ,by rw[x9];omega,fun id hi hn=>⟨hn,.inl (by rw[rF,aB (by omega)])⟩⟩
theorem c8.alloc{base:dX}{w:World}(hb:gA base w)(o:Obj):c8 base w (w.alloc o):=
 ⟨by rw[Qf];omega,fun b h=>Y6 _ _ (hb b h),rfl,rfl,rfl⟩
theorem WR.put(hw:WR φ base H w){id:Nat}{ob bW:aZ}{e:PE}{w':World}(ho:H.bu id=some ob)(hl:ob.aU=true)(he:φ id=some e)
 (cJ:w'.heap.size=w.heap.size) (L0:∀b,b≠e.b->w'.heap[b]? =w.heap[b]?) (Bm:∃o',w'.heap[e.b]? =some o'∧OR φ bW e o'):WR φ base (H.dL id bW) w':=by
 refine⟨?_,?_,?_,?_,hw.sE rfl (fun b o h=>L0 b (fun hb=>(hw.ro b o h).2 id ob e ho hl he hb.symm)) fun i jl e1 h1 l1 h2=>.inl ?_⟩
 ·intro i jl e1 h1 h2;rw[pt]at h1;by_cases hi:i=id
  ·subst hi;rw[aY rfl]at h1;cases h1;rw[he]at h2;cases h2;exact Bm
  ·rw[aB hi]at h1;by_cases pQ:jl.aU=true
   ·obtain⟨o,h3,h4⟩:=hw.ey i jl e1 h1 h2;have hb:e1.b≠e.b:=fun h=>hi (hw.kx i id jl ob e1 e h1 pQ h2 ho hl he h)
    exact⟨o,by rw[L0 _ hb];exact h3,h4⟩
   ·cases jl<;>simp[aZ.aU]at pQ;have h5:=(hw.lt i e1 h2).1;refine⟨w'.heap[e1.b]'(by rw[cJ];exact h5),by simp[cJ,h5],trivial⟩
 ·intro i i' jl oj e1 e2 h1 l1 h2 h3 l2 h4 hb;rw[pt]at h1 h3;by_cases hi:i=id<;>by_cases eO:i'=id
  ·rw[hi,eO]
  ·subst hi;rw[aB eO]at h3;exact hw.kx i i' ob oj e1 e2 ho hl h2 h3 l2 h4 hb
  ·subst eO;rw[aB hi]at h1;exact hw.kx i i' jl ob e1 e2 h1 l1 h2 ho hl h4 hb
  ·rw[aB hi]at h1;rw[aB eO]at h3;exact hw.kx i i' jl oj e1 e2 h1 l1 h2 h3 l2 h4 hb
 ·intro i e1 h;have:=hw.lt i e1 h;exact⟨by rw[cJ];exact this.1,this.2.1,by rw[oK];exact this.2.2⟩
 ·intro i jl h;rw[pt]at h;rw[oK];split at h
  ·rename_i e;subst e;exact hw.nx _ _ ho
  ·exact hw.nx _ _ h
 ·rw[pt]at h1;by_cases hi:i=id
  ·subst hi;rw[he]at h2;cases h2;exact⟨i,ob,e,ho,hl,he,rfl⟩
  ·rw[aB hi]at h1;exact⟨i,jl,e1,h1,l1,h2,rfl⟩
theorem cQ.nh{m id:Nat}{e:PE}(he:φ id=some e)(ob:aZ):cQ m φ H φ (H.dL id ob):=
 ⟨eg.sU φ,by rw[oK];omega,fun i _ hn=>⟨hn,.inl (by rw[pt,aB (fun h=>by subst h;rw[he]at hn;cases hn)])⟩⟩
theorem cQ.aF{m id:Nat}{vs:LV}{el:TypeId}(ho:H.bu id=some (.aF vs el))(ob:aZ):cQ m φ H φ (H.dL id ob):=
 ⟨eg.sU φ,by rw[oK];omega,fun i _ hn=>⟨hn,by
   by_cases hi:i=id
   ·subst hi;exact .inr ⟨vs,el,ho⟩
   ·exact .inl (by rw[pt,aB hi])⟩⟩
theorem c8.Io(hw:WR φ base H w){id:Nat}{e:PE}{w':World}(he:φ id=some e)(cJ:w'.heap.size=w.heap.size)(L0:∀b,b≠e.b->w'.heap[b]? =w.heap[b]?)(hs:uk w w':=by exact⟨rfl,rfl,rfl⟩):c8 base w w':=
 ⟨by omega,fun b hb=>L0 b (fun h=>(hw.lt id e he).2.1 (h▸hb)),hs⟩
theorem WR.tN(hw:WR φ base H w){w':World}(h:w'.heap=w.heap):WR φ base H w':=
 ⟨fun i ob e h1 h2=>by rw[h];exact hw.ey i ob e h1 h2,hw.kx,fun i e h1=>by rw[h];exact hw.lt i e h1,hw.nx,fun b o h1=>by rw[h];exact hw.ro b o h1⟩
theorem c8.tN{w':World}(h:w'.heap=w.heap)(hs:uk w w':=by exact⟨rfl,rfl,rfl⟩):c8 base w w':=⟨by rw[h];exact fB _,fun b _=>by rw[h],hs⟩
theorem WR.xQ(hw:WR φ base H w){id:Nat}{ob:aZ}{vs:LV}(ho:H.bu id=some ob):WR φ base (H.dL id (.b9 vs)) w:=by
 refine⟨?_,?_,?_,?_,hw.sE rfl (fun _ _ _=>rfl) fun i jl e1 h1 l1 h2=>.inl ?_⟩
 ·intro i jl e1 h1 h2;rw[pt]at h1;by_cases hi:i=id
  ·subst hi;rw[aY rfl]at h1;cases h1;have h5:=(hw.lt i e1 h2).1;exact⟨w.heap[e1.b],by simp[h5],trivial⟩
  ·rw[aB hi]at h1;exact hw.ey i jl e1 h1 h2
 ·intro i i' jl oj e1 e2 h1 l1 h2 h3 l2 h4 hb;rw[pt]at h1 h3;by_cases hi:i=id
  ·subst hi;rw[aY rfl]at h1;cases h1;simp[aZ.aU]at l1
  ·by_cases eO:i'=id
   ·subst eO;rw[aY rfl]at h3;cases h3;simp[aZ.aU]at l2
   ·rw[aB hi]at h1;rw[aB eO]at h3;exact hw.kx i i' jl oj e1 e2 h1 l1 h2 h3 l2 h4 hb
 ·intro i e1 h;have:=hw.lt i e1 h;exact⟨this.1,this.2.1,by rw[oK];exact this.2.2⟩
 ·intro i jl h;rw[pt]at h;rw[oK];split at h
  ·rename_i e;subst e;exact hw.nx _ _ ho
  ·exact hw.nx _ _ h
 ·rw[pt]at h1;by_cases hi:i=id
  ·subst hi;rw[aY rfl]at h1;cases h1;simp[aZ.aU]at l1
  ·rw[aB hi]at h1;exact⟨i,jl,e1,h1,l1,h2,rfl⟩
end
section
variable{P:Program}{φ:bf}{base:dX}{H:AH}{w:World}{ρ:Operand->Option AV}{ev:Operand->Value}
def fN(P:Program)(m:Nat)(base:dX)(φ:bf)(H:AH)(w:World)(s:Sem Next)(v:AV)(H':AH):Prop:=
 ∃(aW:bf) (w':World) (v':Value),(s.run P w=.ok (.value v') w'∨(s.run P w=.ok .skip w'∧v'=undef))∧VR aW v v'∧WR aW base H' w'∧cQ m φ H aW H'∧c8 base w w'
def ow(P:Program)(m:Nat)(base:dX)(φ:bf)(H:AH)(w:World)(s:Sem Next):fC->Prop
 |.hZ v H'=>fN P m base φ H w s v H'
 |.qi f args=>∃args':Array Value,s.run P w=.ok (.enter f args') w∧bc φ args args'.toList
 |.ue l args=>∃(e:PE) (args':Array Value),φ l=some e∧s.run P w=(Instr.yield e.b args').run P w∧bc φ args args'.toList
 |.wM d=>∃d',s.run P w=.ok (.defer d') w∧DR φ d d'
 |.wN v=>∃v',s.run P w=.halt (.panic v') w∧VR φ v v'
 |.wP=>s.run P w=.ok .recover w
theorem FQ(φ:bf):VR φ .lz undef:=⟨#[],rfl,nj⟩
theorem au2(cur xs:List Value)(o off L:Nat)(h1:o+L<=cur.length)(h2:off+xs.length<=L):
 ((cur.take (o+off)++xs++cur.drop (o+off+xs.length)).drop o).take L=((cur.drop o).take L).take off++(xs++((cur.drop o).take L).drop (off+xs.length)):=by
 apply List.ext_getElem?;intro i;by_cases hL:i<L
 ·rw[List.getElem?_take_of_lt hL,List.getElem?_drop,nG];simp only[List.getElem?_append,List.length_take,List.length_drop];rw[show min (o+off) cur.length=o+off by omega,show min off (min L (cur.length-o))=off by omega];by_cases h3:i<off
  ·rw[aY (by omega),aY h3,List.getElem?_take_of_lt (by omega),List.getElem?_take_of_lt h3,List.getElem?_take_of_lt hL,List.getElem?_drop]
  ·rw[aB (by omega),aB h3];rw[show o+i-(o+off)=i-off by omega];by_cases h4:i-off<xs.length
   ·rw[aY h4,aY h4]
   ·rw[aB h4,aB h4,List.getElem?_drop,List.getElem?_drop,List.getElem?_take_of_lt (by omega),List.getElem?_drop];congr 1;omega
 ·rw[List.getElem?_eq_none (by simp;omega),List.getElem?_eq_none (by simp;omega)]
theorem IJ(w:World)(g:Nat)(cs:Array Value):(w.setRow g cs).heap.size=w.heap.size:=by unfold World.setRow;simp
theorem II(w:World)(g:Nat)(cs:Array Value){b:Nat}(h:b≠g):(w.setRow g cs).heap[b]? =w.heap[b]? :=by unfold World.setRow;simp only[Array.getElem?_modify];rw[aB (fun e=>h e.symm)]
theorem WR.Ou(hw:WR φ base H w){ψ:bf}{id off:Nat}{vs r cells:LV}{el:TypeId}{Cs:List Value}{e:PE}{ob bW:aZ}(ho:H.bu id=some ob)(k8:ob.aU=true)(fv:∀o,OR φ ob e o->OR ψ (.aw vs el) e o)(he:φ id=some e)
 (hp:rK vs off cells=some r) (hc:bc ψ cells Cs) (h1:cells.all AV.dR=true) (v8:∀o,OR ψ (.aw r el) e o->OR φ bW e o):
 ∃w',(storeCells ⟨e.b,e.o+off,none⟩ Cs).run P w=.ok () w'∧WR φ base (H.dL id bW) w'∧c8 base w w':=by
 obtain⟨o,hg,rr⟩:=hw.ey id _ e ho he;obtain⟨cs,ic,rfl,cJ,cI,hv,mC⟩:=fv o rr;obtain⟨al7,rfl⟩:=Vi hp;have hl:=hc.jM;have dK:=run_storeCells_at P e.b (e.o+off) ic Cs 0 cs w hg (by simp;omega) (AV.aee hc h1);simp only[Nat.add_zero]at dK;refine⟨_,dK,?_,?_⟩
 ·refine hw.put ho k8 he (IJ _ _ _) (fun b hb=>II _ _ _ hb) ⟨_,setRow_heap w e.b cs _ ic _ hg,?_⟩;refine v8 _ ⟨_,ic,rfl,?_,?_,?_,?_⟩
  ·simp;omega
  ·simp;omega
  ·have bF:(vs.take off++(cells++vs.drop (off+cells.length))).length=vs.length:=by simp;omega
   rw[bF];have:=au2 cs.toList Cs e.o off vs.length (by simp;omega) (by omega);rw[this];exact hv.put hc
  ·simp only[List.all_append,cW];refine⟨?_,h1,?_⟩
   ·rw[List.all_eq_true]at mC⊢;exact fun x hx=>mC x (List.mem_of_mem_take hx)
   ·rw[List.all_eq_true]at mC⊢;exact fun x hx=>mC x (List.mem_of_mem_drop hx)
 ·exact c8.Io hw he (IJ _ _ _) (fun b hb=>II _ _ _ hb)
theorem WR.FW(hw:WR φ base H w){id off:Nat}{vs r cells:LV}{el:TypeId}{Cs:List Value}{e:PE}{ob:aZ}(ho:H.bu id=some ob)(k8:ob.aU=true)(fv:∀o,OR φ ob e o->OR φ (.aw vs el) e o)(he:φ id=some e)
 (hp:rK vs off cells=some r) (hc:bc φ cells Cs) (h1:cells.all AV.dR=true):
 ∃w',(storeCells ⟨e.b,e.o+off,none⟩ Cs).run P w=.ok () w'∧WR φ base (H.dL id (.aw r el)) w'∧c8 base w w':=
 hw.Ou ho k8 fv he hp hc h1 (fun _ h=>h)
theorem avQ(hw:WR φ base H w){t:TypeId}{id off:Nat}{v:AV}{vv:Value}{H':AH}{e:PE}(h:FE P H t id off v=some H')(he:φ id=some e)(hv:VR φ v vv):
 ∃w',(storeVar t ⟨e.b,e.o+off,none⟩ vv).run P w=.ok () w'∧WR φ base H' w'∧c8 base w w'∧∀m,cQ m φ H φ H':=by
 unfold FE at h;split at h
 ·rename_i vs el s ho hs;obtain⟨hb,h⟩:=c6 h;simp only[cW]at hb;obtain⟨r,hr,rfl⟩:=tI h;have hc:=AV.r8 hv;have bF:vv.cells.size=s:=by have h1:=hc.jM;have h2:=eu hb.1;simp at h1;omega
  obtain⟨w',h1,h2,h3⟩:=hw.FW (P:=P) ho rfl (fun o h=>h) he hr hc hb.2;refine⟨w',?_,h2,h3,fun m=>cQ.nh he _⟩;simp[storeVar,iV hs w,bF,h1]
 ·rename_i z n el s ho hs;obtain⟨hb,h⟩:=c6 h;simp only[cW]at hb;obtain⟨r,hr,rfl⟩:=tI h;have hc:=AV.r8 hv;have bF:vv.cells.size=s:=by have h1:=hc.jM;have h2:=eu hb.1;simp at h1;omega
  obtain⟨w',h1,h2,h3⟩:=hw.FW (P:=P) (vs:=iU z n) (el:=el) ho rfl (fun o h=>h) he hr hc hb.2;refine⟨w',?_,h2,h3,fun m=>cQ.nh he _⟩;simp[storeVar,iV hs w,bF,h1]
 ·rename_i vs el s ho hs;obtain⟨hb,hq⟩:=c6 h;clear h;simp only[cW]at hb;obtain⟨r,hr,rfl⟩:=tI hq;have hc:=AV.r8 hv;have bF:vv.cells.size=s:=by have h1:=hc.jM;have h2:=eu hb.1.1;simp at h1;omega
  have xr:=bc.yB (ψ:=φ.pu) _ _ (by rw[ya];exact hb.2) hc;obtain⟨w',h1,h2,h3⟩:=hw.Ou (P:=P) (ψ:=φ.pu) (vs:=vs) (el:=el) (bW:=.eh r el) ho rfl (fun o h=>h) he hr xr hb.1.2 (fun o h=>h);refine⟨w',?_,h2,h3,fun m=>cQ.nh he _⟩;simp[storeVar,iV hs w,bF,h1]
 ·rename_i vs el s ho hs;obtain⟨hb,hq⟩:=c6 h;clear h;simp only[cW]at hb;obtain⟨r,hr,rfl⟩:=tI hq;have hc:=AV.r8 hv;have bF:vv.cells.size=s:=by have h1:=hc.jM;have h2:=eu hb.1.1;simp at h1;omega
  have xr:=bc.yB (ψ:=φ.pu) _ _ (by rw[ya];exact hb.2) hc;obtain⟨w',h1,h2,h3⟩:=hw.Ou (P:=P) (ψ:=φ.pu) (vs:=vs) (el:=el) (bW:=.aF r el) ho rfl (fun o h=>h) he hr xr hb.1.2 (fun o h=>h);refine⟨w',?_,h2,h3,fun m=>cQ.nh he _⟩;simp[storeVar,iV hs w,bF,h1]
 ·cases h
end
section
variable{P:Program}{φ:bf}{base:dX}{H:AH}{w:World}{ρ:Operand->Option AV}{ev:Operand->Value}
theorem aaE{a b:AV}{va vb:Value}(h:DG a b=true)(ha:VR φ a va)(hb:VR φ b vb)(n:Nat):va=vb∧Instr.sameBits n va vb=true:=by
 unfold DG at h;split at h
 ·simp only[cW,mf]at h;obtain⟨rfl,rfl⟩:=h;simp only[VR]at ha hb;subst ha hb;exact⟨rfl,by cases n<;>simp[Instr.sameBits]⟩
 ·rw[kD,mf]at h;subst h;obtain⟨x,rfl,h1⟩:=ha;obtain⟨y,rfl,h2⟩:=hb;have:=WM (h1.trans h2.symm);subst this;exact⟨rfl,by cases n<;>simp[Instr.sameBits,beq_toListBytes]⟩
 ·simp only[beq_iff_eq]at h;subst h;simp only[VR]at ha hb;subst ha hb;exact⟨rfl,by cases n<;>simp[Instr.sameBits]⟩
 ·cases h
theorem aaG:∀{as bs:LV} {va vb:List Value},DH as bs=true->bc φ as va->bc φ bs vb->∀n,va=vb∧(va.zip vb).all (fun p=>Instr.sameBits n p.1 p.2)=true
 |[],[],va,vb,_,ha,hb,n=>by simp only[bc]at ha hb;subst ha hb;simp
 |a::as,b::bs,va,vb,h,ha,hb,n=>by simp only[bc]at ha hb;obtain⟨x,xs,rfl,h1,h2⟩:=ha;obtain⟨y,ys,rfl,h3,h4⟩:=hb;simp only[DH,cW]at h;obtain⟨e1,e2⟩:=aaE h.1 h1 h3 n;obtain⟨e3,e4⟩:=aaG h.2 h2 h4 n;subst e1 e3;exact⟨rfl,by simp only[List.zip_cons_cons,List.all_cons,cW];exact⟨e2,e4⟩⟩
 |[],_::_,_,_,h,_,_,_=>by simp[DH]at h
 |_::_,[],_,_,h,_,_,_=>by simp[DH]at h
theorem aaF{a b:AV}{va vb:Value}(h:GU a b=true)(ha:VR φ a va)(hb:VR φ b vb)(n:Nat):va=vb∧Instr.sameBits (n+1) va vb=true:=by
 unfold GU at h;split at h
 ·obtain⟨x,rfl,h1⟩:=ha;obtain⟨y,rfl,h2⟩:=hb;obtain⟨e,e2⟩:=aaG h h1 h2 n;have:x=y:=by cases x;cases y;simpa using e
  subst this;exact⟨rfl,by simp only[Instr.sameBits,beq_self_eq_true,iG];exact e2⟩
 ·exact aaE h ha hb (n+1)
theorem acL{old new:Value}(h:Instr.sameBits 10000 old new=true)(w:World):(Instr.keyThatStays old new).run P w=.ok new w:=by unfold Instr.keyThatStays;rw[aY h];rfl
theorem dk.get:∀{es:List (AV×AV×Nat)} {ms:List MapEntry},dk φ es ms->∀{i:Nat} {k v:AV} {b:Nat},es[i]? =some (k,v,b)->∃m,ms[i]? =some m∧VR φ k m.key∧VR φ v m.val∧m.born=b
 |[],_,_,i,_,_,_,h=>by simp at h
 |(k,v,b)::es,_,he,i,k',v',b',h=>by
  simp only[dk]at he;obtain⟨m,ms,rfl,h1,h2,h3,h4⟩:=he;cases i with
  |zero=>simp at h;obtain⟨rfl,rfl,rfl⟩:=h;exact⟨m,rfl,h1,h2,h3⟩
  |succ i=>simp only[List.getElem?_cons_succ]at h⊢;exact dk.get h4 h
theorem dk.Ao{f:AV×AV×Nat->AV×AV×Nat}{g:MapEntry->MapEntry}:∀{es:List (AV×AV×Nat)} {ms:List MapEntry},dk φ es ms->∀{i:Nat},
 (∀k v b m,es[i]? =some (k,v,b)->ms[i]? =some m->VR φ k m.key->VR φ v m.val->m.born=b->VR φ (f (k,v,b)).1 (g m).key∧VR φ (f (k,v,b)).2.1 (g m).val∧(g m).born=(f (k,v,b)).2.2)->
 dk φ (nJ es i f) (ms.modify i g)
 |[],_,he,i,_=>by simp only[dk]at he;subst he;simp[nJ,dk]
 |(k,v,b)::es,_,he,i,h=>by
  simp only[dk]at he;obtain⟨m,ms,rfl,h1,h2,h3,h4⟩:=he;cases i with
  |zero=>obtain⟨e1,e2,e3⟩:=h k v b m rfl rfl h1 h2 h3;simp only[nJ,List.modify_zero_cons];exact⟨g m,ms,rfl,e1,e2,e3,h4⟩
  |succ i=>simp only[nJ,List.modify_succ_cons];exact⟨m,_,rfl,h1,h2,h3,dk.Ao h4 (fun k v b m a1 a2=>h k v b m (by simpa using a1) (by simpa using a2))⟩
theorem dk.F0:∀{es bw:List (AV×AV×Nat)} {ms MM:List MapEntry},dk φ es ms->dk φ bw MM->dk φ (es++bw) (ms++MM)
 |[],_,_,_,he,h'=>by simp only[dk]at he;subst he;simpa using h'
 |(k,v,b)::es,_,_,_,he,h'=>by simp only[dk]at he;obtain⟨m,ms,rfl,h1,h2,h3,h4⟩:=he;exact⟨m,_,rfl,h1,h2,h3,dk.F0 h4 h'⟩
theorem dk.OB:∀{es:List (AV×AV×Nat)} {ms:List MapEntry},dk φ es ms->∀i,dk φ (uD es i) (ms.eraseIdx i)
 |[],_,he,i=>by simp only[dk]at he;subst he;simp[uD,dk]
 |(k,v,b)::es,_,he,i=>by
  simp only[dk]at he;obtain⟨m,ms,rfl,h1,h2,h3,h4⟩:=he;cases i with
  |zero=>simpa[uD]using h4
  |succ i=>simp only[uD,List.eraseIdx_cons_succ];exact⟨m,_,rfl,h1,h2,h3,dk.OB h4 i⟩
theorem dk.aaU:∀{es:List (AV×AV×Nat)} {ms:List MapEntry},dk φ es ms->∀(b:Nat),ms.findIdx? (fun e=>(e.born:Int)==(b:Int))=es.findIdx? (fun e=>Nat.beq e.2.2 b)
 |[],_,he,b=>by simp only[dk]at he;subst he;simp
 |(k,v,b')::es,_,he,b=>by
  simp only[dk]at he;obtain⟨m,ms,rfl,h1,h2,h3,h4⟩:=he;simp only[List.findIdx?_cons];have e1:((m.born:Int)==(b:Int))=Nat.beq b' b:=by rw[Tr.uZ,h3,Bool.eq_iff_iff];simp;omega
  rw[e1,dk.aaU h4 b]
theorem SF{r:Nat}{o o':Obj}(hb:w.heap[r]? =some o):(w.heap.setIfInBounds r o')[r]? =some o'∧∀r',r'≠r->(w.heap.setIfInBounds r o')[r']? =w.heap[r']? :=by have aj:r<w.heap.size:=(Array.getElem?_eq_some_iff.1 hb).1;exact⟨by simp[aj],fun r' di=>by simp[Ne.symm di]⟩
theorem WR.zU(hw:WR φ base H w){id:Nat}{ob bW:aZ}{e:PE}{o o':Obj}(ho:H.bu id=some ob)(hl:ob.aU=true)(he:φ id=some e)(hg:w.heap[e.b]? =some o)(hc:o.isCells=false)(rr:OR φ bW e o'):
 ∃w',(setObj e.b o').run P w=.ok () w'∧WR φ base (H.dL id bW) w'∧c8 base w w':=by
 have hs:=SF (o':=o') hg;refine⟨_,af5 (P:=P) hg hc,hw.put ho hl he (by simp) (fun b hb=>hs.2 b hb) ⟨o',hs.1,rr⟩,c8.Io hw he (by simp) (fun b hb=>hs.2 b hb)⟩
theorem Vd{kt:TypeId}{k:AV}(hp:qK P kt k=true):∃d,P.underlying kt=some d:=by
 cases SZ:P.underlying kt with
 |none=>simp[qK,SZ]at hp
 |some d=>exact⟨d,rfl⟩
theorem KZ{p:Bool}{k v:AV}{vk vv:Value}(h:vO p k v=true)(hk:VR φ k vk)(hv:VR φ v vv)(hp:p=true):VR φ.pu k vk∧VR φ.pu v vv:=by subst hp;simp only[vO,cond_true,cW]at h;exact⟨VR.pure k vk h.1 hk,VR.pure v vv h.2 hv⟩
theorem adl(hw:WR φ base H w){t:TypeId}{m k v:AV}{vm vk vv:Value}{H':AH}(h:EZ P H t m k v=some H')(hm:VR φ m vm)(hk:VR φ k vk)(hv:VR φ v vv):
 ∃w',(Instr.mapUpdate t vm vk vv).run P w=.ok () w'∧WR φ base H' w'∧c8 base w w'∧∀m,cQ m φ H φ H':=by
 unfold EZ at h;split at h
 ·rename_i kt elem id hu;split at h
  ·rename_i es cT p ho;obtain⟨e,he,rfl⟩:=hm;obtain⟨o,hg,bw,rfl,i_,xF⟩:=hw.ey id _ e ho he;obtain⟨hpf,h⟩:=c6 h;simp only[cW]at hpf;obtain⟨hp,kb⟩:=hpf;have kb:=KZ kb hk hv;obtain⟨d,hd⟩:=Vd hp;have pP:=Kj (φ:=φ) hp hk false 9998 w;split at h
   ·rename_i i x b hf;obtain⟨Bq,h⟩:=c6 h;cases h;obtain⟨r',h1,h2⟩:=y9 hd hk i_ hf w;obtain⟨me,k0,rfl,e3,e4,e5,e6⟩:=h2.at;have Rb:bw[i]? =some me:=by simpa using e4
    have zk:vk=me.key∧Instr.sameBits 10000 me.key vk=true:=by unfold tM at Bq;rw[e3]at Bq;obtain⟨m',a1,a2,_,_⟩:=i_.get e3;rw[e4]at a1;cases a1;have:=aaF Bq a2 hk 9999;exact⟨this.1.symm,this.2⟩
    obtain⟨w',b1,b2,b3⟩:=hw.zU (P:=P) (bW:=.bC (nJ es i fun e=>(k,v,e.2.2)) cT p) (o':=.map (bw.modify i fun e=>{e with key:=vk,val:=vv}) cT) ho rfl he hg rfl
     ⟨_,rfl,by rw[Array.toList_modify];exact⟨i_.Ao (fun k v b m _ _ _ _ hb=>⟨hk,hv,hb⟩),fun hp=>(xF hp).Ao (fun k v b m _ _ _ _ hb=>⟨(kb hp).1,(kb hp).2,hb⟩)⟩⟩
    refine⟨w',?_,b2,b3,fun m=>cQ.nh he _⟩;simp only[Instr.mapUpdate,Sem.run_bind,run_underlying hu w,Result.andThen_ok,qq (P:=P) hg rfl,pP,h1,Rb,Option.map_some,Option.getD_some,acL (P:=P) zk.2,b1]
   ·rename_i hf;cases h;obtain⟨r',h1,h2⟩:=y9 hd hk i_ hf w;simp only[yE]at h2;subst h2;obtain⟨w',b1,b2,b3⟩:=hw.zU (P:=P) (bW:=.bC (es++[(k,v,cT)]) (cT+1) p) (o':=.map (bw.push {key:=vk,val:=vv,born:=cT}) (cT+1)) ho rfl he hg rfl
     ⟨_,rfl,by rw[Array.toList_push];exact⟨i_.F0 ⟨_,[],rfl,hk,hv,rfl,by simp[dk]⟩,fun hp=>(xF hp).F0 ⟨_,[],rfl,(kb hp).1,(kb hp).2,rfl,by simp[dk]⟩⟩⟩
    refine⟨w',?_,b2,b3,fun m=>cQ.nh he _⟩;simp only[Instr.mapUpdate,Sem.run_bind,run_underlying hu w,Result.andThen_ok,qq (P:=P) hg rfl,pP,h1,b1]
   ·cases h
  ·cases h
 ·cases h
end
section
variable{P:Program}{φ:bf}{base:dX}{m:Nat}{H:AH}{w:World}{ρ:Operand->Option AV}{ev:Operand->Value}
theorem fN.of{s:Sem Value}{v:AV}{H':AH}{aW:bf}{w':World}{v':Value}(h:s.run P w=.ok v' w')(hv:VR aW v v')(hw:WR aW base H' w')(he:cQ m φ H aW H')(hk:c8 base w w'):
 fN P m base φ H w (do pure (.value (←s)):Sem Next) v H':=⟨aW,w',v',.inl (DJ h),hv,hw,he,hk⟩
theorem fN.skip{s:Sem Unit}{H':AH}{aW:bf}{w':World}(h:s.run P w=.ok () w')(hw:WR aW base H' w')(he:cQ m φ H aW H')(hk:c8 base w w'):
 fN P m base φ H w (do s;pure .skip:Sem Next) .lz H':=⟨aW,w',undef,.inr ⟨by simp[h],rfl⟩,FQ _,hw,he,hk⟩
theorem U5{a b:AV}{x y:Value}(ha:VR φ a x)(hb:VR φ b y):VR φ (.aJ [a,b]) (.tuple #[x,y]):=⟨_,rfl,o8.2 ⟨ha,nk hb⟩⟩
theorem ag5{a b c:AV}{x y z:Value}(ha:VR φ a x)(hb:VR φ b y)(hc:VR φ c z):VR φ (.aJ [a,b,c]) (.tuple #[x,y,z]):=⟨_,rfl,o8.2 ⟨ha,o8.2 ⟨hb,nk hc⟩⟩⟩
theorem aka(hw:WR φ base H w){t kt elem:TypeId}{id:Nat}{key:AV}{vk:Value}{e:PE}{aN:fC}(hu:P.underlying t=some (.map kt elem))(h:KN P H kt elem id key=some aN)(he:φ id=some e)(hk:VR φ key vk):
 ∃v H',aN=.hZ v H'∧fN P m base φ H w (do pure (.value (←Instr.mapEntry t (.map (some e.b)) vk)):Sem Next) v H':=by
 unfold KN at h;split at h
 ·rename_i es cT p ho;obtain⟨o,hg,bw,rfl,i_,xF⟩:=hw.ey id _ e ho he;obtain⟨hp,h⟩:=c6 h;obtain⟨d,hd⟩:=Vd hp;have pP:=Kj (φ:=φ) hp hk false 9998 w;split at h
  ·rename_i i x b hf;obtain⟨ab8,h⟩:=c6 h;simp only[cW]at ab8;obtain⟨Bq,kb⟩:=ab8;have kb:=KZ (φ:=φ) (vv:=.pointer none) kb hk (by simp[VR]);cases h;obtain⟨r',h1,h2⟩:=y9 hd hk i_ hf w;obtain⟨me,k0,rfl,e3,e4,e5,e6⟩:=h2.at;have Rb:bw[i]? =some me:=by simpa using e4
   have zk:vk=me.key∧Instr.sameBits 10000 me.key vk=true:=by unfold tM at Bq;rw[e3]at Bq;obtain⟨m',a1,a2,_,_⟩:=i_.get e3;rw[e4]at a1;cases a1;have:=aaF Bq a2 hk 9999;exact⟨this.1.symm,this.2⟩
   obtain⟨w',b1,b2,b3⟩:=hw.zU (P:=P) (bW:=.bC (nJ es i fun e=>(key,e.2)) cT p) (o':=.map (bw.modify i fun e=>{e with key:=vk}) cT) ho rfl he hg rfl
    ⟨_,rfl,by rw[Array.toList_modify];exact⟨i_.Ao (fun k v b m _ _ _ hv hb=>⟨hk,hv,hb⟩),fun hp=>(xF hp).Ao (fun k v b m _ _ _ hv hb=>⟨(kb hp).1,hv,hb⟩)⟩⟩
   refine⟨_,_,rfl,fN.of (v':=.tuple #[me.val,goInt me.born]) ?_ (U5 e5 (by rw[e6];exact uF b)) b2 (cQ.nh he _) b3⟩;simp only[Instr.mapEntry,Sem.run_bind,run_underlying hu w,Result.andThen_ok,qq (P:=P) hg rfl,pP,h1,Rb,Option.map_some,Option.getD_some,acL (P:=P) zk.2,b1,Sem.run_pure]
  ·rename_i hf;split at h
   ·rename_i z hz;obtain⟨kb,h⟩:=c6 h;cases h;obtain⟨vz,H4,TT⟩:=wJ (φ:=φ) hz;have kb:=KZ kb hk H4;obtain⟨r',h1,h2⟩:=y9 hd hk i_ hf w;simp only[yE]at h2;subst h2;obtain⟨w',b1,b2,b3⟩:=hw.zU (P:=P) (bW:=.bC (es++[(key,z,cT)]) (cT+1) p) (o':=.map (bw.push {key:=vk,val:=vz,born:=cT}) (cT+1)) ho rfl he hg rfl
     ⟨_,rfl,by rw[Array.toList_push];exact⟨i_.F0 ⟨_,[],rfl,hk,H4,rfl,by simp[dk]⟩,fun hp=>(xF hp).F0 ⟨_,[],rfl,(kb hp).1,(kb hp).2,rfl,by simp[dk]⟩⟩⟩
    refine⟨_,_,rfl,fN.of (v':=.tuple #[vz,goInt cT]) ?_ (U5 H4 (uF cT)) b2 (cQ.nh he _) b3⟩;simp only[Instr.mapEntry,Sem.run_bind,run_underlying hu w,Result.andThen_ok,qq (P:=P) hg rfl,pP,h1,TT w,b1,Sem.run_pure]
   ·cases h
  ·cases h
 ·cases h
theorem akb(hw:WR φ base H w){t:TypeId}{id born:Nat}{k:IntKind}{v:AV}{vv:Value}{e:PE}{aN:fC}(h:KO H id born v=some aN)(he:φ id=some e)(hv:VR φ v vv):
 ∃H',aN=.hZ .lz H'∧fN P m base φ H w (do Instr.entryStore t (.map (some e.b)) (.int k (born:Int)) vv;pure .skip:Sem Next) .lz H':=by
 unfold KO at h;split at h
 ·rename_i es cT p ho;obtain⟨o,hg,bw,rfl,i_,xF⟩:=hw.ey id _ e ho he;split at h
  ·rename_i i hi;obtain⟨kb,h⟩:=c6 h;have kb:=KZ (φ:=φ) (vk:=.pointer none) kb (by simp[VR]) hv;cases h;have hf:=i_.aaU born;rw[hi]at hf;have Bb:bw.findIdx? (fun e=>(e.born:Int)==(born:Int))=some i:=by cases bw;simpa using hf
   obtain⟨w',b1,b2,b3⟩:=hw.zU (P:=P) (bW:=.bC (nJ es i fun e=>(e.1,v,e.2.2)) cT p) (o':=.map (bw.modify i fun e=>{e with val:=vv}) cT) ho rfl he hg rfl
    ⟨_,rfl,by rw[Array.toList_modify];exact⟨i_.Ao (fun k v b m _ _ hk _ hb=>⟨hk,hv,hb⟩),fun hp=>(xF hp).Ao (fun k v b m _ _ hk _ hb=>⟨hk,(kb hp).2,hb⟩)⟩⟩
   refine⟨_,rfl,fN.skip ?_ b2 (cQ.nh he _) b3⟩;simp only[Instr.entryStore,Sem.run_bind,qq (P:=P) hg rfl,Result.andThen_ok,asInt,asIntOf,Sem.run_pure,Bb,b1]
  ·cases h
 ·cases h
theorem WR.xV(hw:WR φ base H w)(hb:gA base w){ob:aZ}{o':Obj}{n:Nat}(rr:∀ψ b,eg φ ψ->OR ψ ob ⟨b,0,n⟩ o')(hm:m<=H.bL):
 WR (js φ H.bL ⟨w.heap.size,0,n⟩) base (H.iq ob) (w.alloc o')∧cQ m φ H (js φ H.bL ⟨w.heap.size,0,n⟩) (H.iq ob)∧c8 base w (w.alloc o'):=by
 have hf:=hw.jV (fB H.bL);refine⟨(hw.new ob).Zy hf (by simp) hb rr,?_,c8.alloc hb o'⟩;refine⟨Ke hf,by rw[x9];omega,fun id hi hn=>⟨?_,.inl (by rw[rF,aB (by omega)])⟩⟩;simp only[js];rw[aB (by omega)];exact hn
theorem T0(n:Nat):VR (js φ H.bL ⟨w.heap.size,0,n⟩) (.ab H.bL 0) (.pointer (some ⟨w.heap.size,0,none⟩)):=by simp only[VR];exact⟨_,mM _ _ _,rfl⟩
theorem alp(hw:WR φ base H w)(hb:gA base w)(hm:m<=H.bL){t:TypeId}{x:Operand}{aN:fC}(hr:∀a,ρ x=some a->VR φ a (ev x))(h:Ho P ρ H t x=some aN):
 ∃v H',aN=.hZ v H'∧fN P m base φ H w (do pure (.value (←Instr.range t (ev x))):Sem Next) v H':=by
 unfold Ho at h;split at h
 ·rename_i s hu hx;cases h;obtain⟨b,hv,rfl⟩:=hr _ hx;obtain⟨h1,h2,h3⟩:=hw.xV (m:=m) hb (ob:=.qN (fo b) 0) (o':=.stringIter b 0) (n:=0) (fun ψ b' _=>⟨b,rfl,rfl,rfl⟩) hm;refine⟨_,_,rfl,fN.of (v':=.pointer (some ⟨w.heap.size,0,none⟩)) ?_ (T0 _) h1 h2 h3⟩;simp[Instr.range,run_underlying hu w,hv]
 ·rename_i kt el hu hx;cases h;have hv:=hr _ hx;simp only[VR]at hv;obtain⟨h1,h2,h3⟩:=hw.xV (m:=m) hb (ob:=.rY none 0 [] 0) (o':=.mapIter none 0 #[] 0) (n:=0) (fun ψ b' _=>⟨none,rfl,rfl,rfl⟩) hm;refine⟨_,_,rfl,fN.of (v':=.pointer (some ⟨w.heap.size,0,none⟩)) ?_ (T0 _) h1 h2 h3⟩;simp[Instr.range,run_underlying hu w,hv]
 ·rename_i kt el id hu hx;obtain⟨e,he,hv⟩:=hr _ hx;unfold aeK at h;split at h
  ·rename_i es cT p ho;cases h;obtain⟨o,hg,bw,rfl,i_,_⟩:=hw.ey id _ e ho he;obtain⟨h1,h2,h3⟩:=hw.xV (m:=m) hb (ob:=.rY (some id) cT [] cT) (o':=.mapIter (some e.b) cT #[] cT) (n:=0) (fun ψ b' cI=>⟨some e.b,rfl,rfl,e,cI _ _ he,rfl⟩) hm;refine⟨_,_,rfl,fN.of (v':=.pointer (some ⟨w.heap.size,0,none⟩)) ?_ (T0 _) h1 h2 h3⟩;simp[Instr.range,run_underlying hu w,hv,qq (P:=P) hg rfl]
  ·cases h
 ·cases h
theorem ajx(hw:WR φ base H w){ts:Array TypeId}{T:TypeId}{id:Nat}{key:AV}{vk:Value}{e:PE}{aN:fC}{vs:Array Value}(h:Dm P H ts id key=some aN)(he:φ id=some e)(hk:VR φ key vk)
 (hv:vs.toList=[.map (some e.b),vk]):
 ∃v H',aN=.hZ v H'∧fN P m base φ H w (do pure (.value (←Builtin.delete_ ts T vs)):Sem Next) v H':=by
 have v0:vs[0]? =some (.map (some e.b)):=by rw[←Array.getElem?_toList,hv];rfl
 have v1:vs[1]? =some vk:=by rw[←Array.getElem?_toList,hv];rfl
 unfold Dm at h;split at h
 ·rename_i kt el es cT p hu ho;obtain⟨o,hg,bw,rfl,i_,xF⟩:=hw.ey id _ e ho he;obtain⟨hp,h⟩:=c6 h;obtain⟨d,hd⟩:=Vd hp;have pP:=Kj (φ:=φ) hp hk bw.isEmpty 9998 w;cases ht:ts[0]? with
  |none=>simp[ht]at hu
  |some t=>
   simp only[ht,Option.bind_some]at hu;split at h
   ·rename_i i x b hf;cases h;obtain⟨r',h1,h2⟩:=y9 hd hk i_ hf w;obtain⟨me,k0,rfl,e3,e4,e5,e6⟩:=h2.at;obtain⟨w',b1,b2,b3⟩:=hw.zU (P:=P) (bW:=.bC (uD es i) cT p) (o':=.map (bw.eraseIdxIfInBounds i) cT) ho rfl he hg rfl
     ⟨_,rfl,by
       have:(bw.eraseIdxIfInBounds i).toList=bw.toList.eraseIdx i:=by simp
       rw[this];exact⟨i_.OB i,fun hp=>(xF hp).OB i⟩⟩
    refine⟨_,_,rfl,fN.of (v':=.tuple #[]) ?_ (FQ _) b2 (cQ.nh he _) b3⟩;simp only[Builtin.delete_,ht,v0,v1,Sem.run_bind,run_underlying hu w,Result.andThen_ok,qq (P:=P) hg rfl,pP,h1,b1,Sem.run_pure]
   ·rename_i hf;cases h;obtain⟨r',h1,h2⟩:=y9 hd hk i_ hf w;simp only[yE]at h2;subst h2;have aj:e.b<w.heap.size:=(hw.lt id e he).1;have zk:w.heap.setIfInBounds e.b (.map bw cT)=w.heap:=by
     apply Array.ext_getElem?;intro j;by_cases hj:j=e.b
     ·subst hj;rw[(SF hg).1,hg]
     ·rw[(SF hg).2 j hj]
    refine⟨_,_,rfl,fN.of (aW:=φ) (w':={w with heap:=w.heap.setIfInBounds e.b (.map bw cT)}) (v':=.tuple #[]) ?_ (FQ _) (hw.tN zk) (cQ.jK _ _ _) (c8.tN zk)⟩;simp only[Builtin.delete_,ht,v0,v1,Sem.run_bind,run_underlying hu w,Result.andThen_ok,qq (P:=P) hg rfl,pP,h1,af5 (P:=P) (o':=.map bw cT) hg rfl,Sem.run_pure]
   ·cases h
 ·cases h
end
section
variable{P:Program}{φ:bf}{base:dX}{m:Nat}{H:AH}{w:World}{ρ:Operand->Option AV}{ev:Operand->Value}
theorem dk.Xr(q:Nat->Bool):∀{es:List (AV×AV×Nat)} {ms:List MapEntry},dk φ es ms->dk φ (es.filter fun e=>q e.2.2) (ms.filter fun x=>q x.born)
 |[],_,h=>by simp only[dk]at h;subst h;simp[dk]
 |(k,v,b)::es,_,h=>by
  simp only[dk]at h;obtain⟨x,ms,rfl,h1,h2,h3,h4⟩:=h;have ih:=dk.Xr q h4;by_cases hq:q b=true
  ·rw[List.filter_cons_of_pos (by simpa using hq),List.filter_cons_of_pos (by simpa[h3]using hq)];exact⟨x,_,rfl,h1,h2,h3,ih⟩
  ·rw[List.filter_cons_of_neg (by simpa using hq),List.filter_cons_of_neg (by simpa[h3]using hq)];exact ih
theorem dk.all(q:Nat->Bool):∀{es:List (AV×AV×Nat)} {ms:List MapEntry},dk φ es ms->ms.all (fun x=>q x.born)=es.all (fun e=>q e.2.2)
 |[],_,h=>by simp only[dk]at h;subst h;simp
 |(k,v,b)::es,_,h=>by simp only[dk]at h;obtain⟨x,ms,rfl,h1,h2,h3,h4⟩:=h;simp only[List.all_cons,dk.all q h4,h3]
theorem adB{it:Value}{T:TypeId}(h:(Instr.next it false T).run P w=.ok (.tuple #[.bool false]) w)(hw:WR φ base H w):fN P m base φ H w (do pure (.value (←Instr.next it false T)):Sem Next) (.aJ [.ai false]) H:=
 fN.of h ⟨_,rfl,nk (by simp[VR])⟩ hw (cQ.jK _ _ _) (c8.kv _ _)
theorem au1(im:LN)(b:Nat):im.toArray.contains b=im.any (Nat.beq b):=by
 rw[Bool.eq_iff_iff];simp only[List.contains_toArray,List.contains_iff_mem,List.any_eq_true];constructor
 ·intro h;exact⟨b,h,by simp⟩
 ·rintro⟨x,h1,h2⟩;have:=eu h2;subst this;exact h1
theorem anT(hw:WR φ base H w){r mm nK last cT:Nat}{im:LN}{es:List (AV×AV×Nat)}{er em:PE}{aN:fC}{T:TypeId}
 (h:UC H r mm nK im last es cT=some aN) (hr:H.bu r=some (.rY (some mm) nK im last)) (xv:φ r=some er) {p:Bool} (ho:H.bu mm=some (.bC es cT p)) (Ba:φ mm=some em):
 ∃v H',aN=.hZ v H'∧fN P m base φ H w (do pure (.value (←Instr.next (.pointer (some ⟨er.b,0,none⟩)) false T)):Sem Next) v H':=by
 obtain⟨o,hg,m',rfl,alQ,rp⟩:=hw.ey r _ er hr xv;obtain⟨e',rj,rfl⟩:=rp;rw[Ba]at rj;cases rj;obtain⟨o2,Be,bw,rfl,i_,-⟩:=hw.ey mm _ em ho Ba;have h1:=qq (P:=P) hg rfl;have h2:=qq (P:=P) Be rfl;unfold UC at h;cases hc:(!im.isEmpty&& !es.isEmpty&&es.all (fun e=>Nat.ble last e.2.2));case true=>rw[hc]at h;cases h
 rw[hc]at h;simp only[cond_false]at h;have xu:(!im.toArray.isEmpty&& !bw.isEmpty&&bw.all (fun x=>decide (x.born>=last)))=false:=by
  have e1:im.toArray.isEmpty=im.isEmpty:=by cases im<;>rfl
  have e2:bw.isEmpty=es.isEmpty:=by have:=i_.OC;cases es<;>cases bw<;>rename_i l<;>cases l<;>simp at this⊢
  have e3:bw.all (fun x=>decide (x.born>=last))=es.all (fun e=>Nat.ble last e.2.2):=by rw[←i_.all (fun b=>Nat.ble last b),←Array.all_toList];congr 1;funext x;rw[Bool.eq_iff_iff];simp
  rw[e1,e2,e3];exact hc
 have Eo:dk φ (es.filter fun e=> !im.any (Nat.beq e.2.2)) (bw.filter fun e=> !im.toArray.contains e.born).toList:=by
  have:=i_.Xr (fun b=> !im.any (Nat.beq b));rw[Array.toList_filter];have e:(fun(e:MapEntry)=> !im.toArray.contains e.born)=(fun(x:MapEntry)=>(fun b=> !im.any (Nat.beq b)) x.born):=by funext x;simp only[au1]
  rw[e];exact this
 generalize es.filter (fun e=> !im.any (Nat.beq e.2.2))=left at h Eo;generalize hL:bw.filter (fun e=> !im.toArray.contains e.born)=BC at Eo;split at h
 ·simp only[Fi]at h;cases h;simp only[dk]at Eo;have v7:BC= #[]:=by cases BC;simpa using Eo
  subst v7;refine⟨_,_,rfl,adB ?_ hw⟩;have hf:(Question.mapNext 1).forced=true:=rfl;simp only[Instr.next,Sem.run_bind,h1,Result.andThen_ok,h2,xu,hL];simp[hf]
 ·rename_i e;obtain⟨hb,h⟩:=c6 h;cases h;obtain⟨k,v,b⟩:=e;simp only[dk]at Eo;obtain⟨x,ms,hx,a1,a2,a3,rfl⟩:=Eo;have pQ:BC= #[x]:=by cases BC;simpa using hx
  subst pQ;have aj:b<nK:=by have:=Nat.le_of_ble_eq_true hb;simp at this;omega
  obtain⟨w',b1,b2,b3⟩:=hw.zU (P:=P) (bW:=.rY (some mm) nK (im++[b]) cT) (o':=.mapIter (some em.b) nK (im++[b]).toArray cT) hr rfl xv hg rfl
   ⟨some em.b,rfl,alQ,em,Ba,rfl⟩
  refine⟨_,_,rfl,fN.of (v':=.tuple #[.bool true,x.key,x.val]) ?_ (ag5 (by simp[VR]) a1 a2) b2 (cQ.nh xv _) b3⟩;have hf:(Question.mapNext 1).forced=true:=rfl;have L_:x.born<nK:=by rw[a3];exact aj
  have o1:(#[x]:Array MapEntry).filter (fun e=>decide (e.born<nK))= #[x]:=by simp[L_]
  have o2:(#[x]:Array MapEntry).filter (fun e=>decide (e.born>=nK))= #[]:=by simp;omega
  simp only[Instr.next,Sem.run_bind,h1,Result.andThen_ok,h2,xu,hL,o1,o2];simp[hf];rw[a3,b1];rfl
 ·cases h
theorem alm(hw:WR φ base H w){it:Operand}{sk:Bool}{aN:fC}{T:TypeId}(hr:∀a,ρ it=some a->VR φ a (ev it))(h:Hn ρ H it sk=some aN):
 ∃v H',aN=.hZ v H'∧fN P m base φ H w (do pure (.value (←Instr.next (ev it) sk T)):Sem Next) v H':=by
 unfold Hn at h;split at h
 ·rename_i r hx;obtain⟨e,he,hv⟩:=hr _ hx;unfold adz at h;split at h
  ·rename_i s pos ho;obtain⟨o,hg,b,rfl,rfl,h0⟩:=hw.ey r _ e ho he;have h1:=qq (P:=P) hg rfl;rw[h0]at hv;unfold adA at h;split at h
   ·rename_i hn;simp only[Fi]at h;cases h;have aj:¬pos<b.size:=by intro aj;rw[List.getElem?_eq_none_iff,tS]at hn;omega
    refine⟨_,_,rfl,fN.of (v':=.tuple #[.bool false]) ?_ ⟨_,rfl,nk (by simp[VR])⟩ hw (cQ.jK _ _ _) (c8.kv _ _)⟩;simp[Instr.next,hv,h1,aj]
   ·rename_i c hc;obtain⟨hb,h⟩:=c6 h;cases h;have aj:pos<b.size:=by
     rcases Nat.lt_or_ge pos b.size with h|h
     ·exact h
     ·rw[List.getElem?_eq_none (by rw[tS];exact h)]at hc;cases hc
    have hcb:(b[pos]'aj).toNat=c:=by
     simp only[fo,List.getElem?_map]at hc;have hl:pos<b.data.toList.length:=by simpa using aj
     rw[jn hl]at hc;simp only[Option.map_some,p9]at hc;exact hc
    have hd:=decode_ascii b pos aj (by have:=Nat.le_of_ble_eq_true hb;omega);obtain⟨w',b1,b2,b3⟩:=hw.zU (P:=P) (bW:=.qN (fo b) (pos+1)) (o':=.stringIter b (pos+1)) ho rfl he hg rfl ⟨b,rfl,rfl,h0⟩;refine⟨_,_,rfl,fN.of (v':=.tuple #[.bool true,goInt pos,.int .i32 c]) ?_ (ag5 (by simp[VR]) (uF pos) (by simp[VR])) b2 (cQ.nh he _) b3⟩;rw[hcb]at hd;simp[Instr.next,hv,h1,aj,hd,b1]
  ·rename_i nK im last ho;obtain⟨o,hg,m',rfl,h0,rfl⟩:=hw.ey r _ e ho he;have h1:=qq (P:=P) hg rfl;rw[h0]at hv;simp only[Fi]at h;cases h;refine⟨_,_,rfl,?_⟩;rw[hv];exact adB (by simp[Instr.next,h1]) hw
  ·rename_i mm nK im last ho;split at h
   ·rename_i es cT p Td;obtain⟨o,hg,m',rfl,h0,em,Ba,_⟩:=hw.ey r _ e ho he;rw[hv,h0];exact anT hw h ho he Td Ba
   ·cases h
  ·cases h
 ·cases h
theorem alj(hw:WR φ base H w){it:Operand}{aN:fC}(hr:∀a,ρ it=some a->VR φ a (ev it))(h:Lo ρ H it=some aN):
 ∃v H',aN=.hZ v H'∧fN P m base φ H w (do pure (.value (←Instr.entry (ev it))):Sem Next) v H':=by
 unfold Lo at h;split at h
 ·rename_i r hx;obtain⟨e,he,hv⟩:=hr _ hx;split at h
  ·rename_i mm nK im yo ho;obtain⟨o,hg,m',rfl,h0,em,Ba,rfl⟩:=hw.ey r _ e ho he;rw[h0]at hv;have h1:=qq (P:=P) hg rfl;unfold aaA at h;split at h
   ·rename_i yk es cT p hs Td;obtain⟨o2,Be,bw,rfl,i_,-⟩:=hw.ey mm _ em Td Ba;have h2:=qq (P:=P) Be rfl;obtain⟨hb,h⟩:=c6 h;have hc:cT=yo:=eu hb;split at h
    ·rename_i x hx;cases h;have key:∀{es:List (AV×AV×Nat)} {ms:List MapEntry},dk φ es ms->es.find? (fun e=>Nat.beq e.2.2 yk)=some x->∃y,ms.find? (fun y=>y.born==yk)=some y∧VR φ x.1 y.key∧VR φ x.2.1 y.val:=by
      intro es;induction es with
      |nil=>intro ms _ h;simp at h
      |cons p es ih=>
       obtain⟨k,v,b⟩:=p;intro ms i_ h;simp only[dk]at i_;obtain⟨y,ms,rfl,a1,a2,a3,a4⟩:=i_;rw[List.find?_cons]at h;cases hq:Nat.beq b yk
       ·rw[hq]at h;obtain⟨z,b1,b2⟩:=ih a4 h;refine⟨z,?_,b2⟩;rw[List.find?_cons];have:(y.born==yk)=false:=by rw[a3];rw[Tr.uZ]at hq;simpa using hq
        rw[this];exact b1
       ·rw[hq]at h;cases h;refine⟨y,?_,a1,a2⟩;rw[List.find?_cons];have:(y.born==yk)=true:=by rw[a3];have:=eu hq;simp[this]
        rw[this]
     obtain⟨y,b1,b2,b3⟩:=key i_ hx;have b1':bw.find? (fun y=>y.born==yk)=some y:=by cases bw;simpa using b1
     refine⟨_,_,rfl,fN.of (v':=.tuple #[y.key,y.val]) ?_ (U5 b2 b3) hw (cQ.jK _ _ _) (c8.kv _ _)⟩;have xI:im.toArray.back? =some yk:=by simpa using hs
     subst hc;simp[Instr.entry,hv,h1,xI,h2,b1']
    ·cases h
   ·cases h
  ·cases h
 ·cases h
end
section
variable{P:Program}{φ:bf}{base:dX}{m:Nat}{H:AH}{w:World}{ρ:Operand->Option AV}{ev:Operand->Value}
theorem abn(MQ:Nat):∀(r c:Nat),Builtin.growBy MQ r c<=max c (MQ+(MQ+768)/ 4)
 |0,c=>by simp[Builtin.growBy];omega
 |r+1,c=>by
  simp only[Builtin.growBy];split
  ·omega
  ·have:=abn MQ r (c+(c+768)/ 4);omega
theorem anU{MP c:Nat}(h:c<MP):Builtin.nextslicecap MP c<=2*MP+192:=by
 unfold Builtin.nextslicecap;split
 ·omega
 ·split
  ·omega
  ·have:=abn MP 4 c;omega
def Bz:TypeDesc->Bool
 |.int _=>true
 |_=>false
def Gm(P:Program)(φ:bf)(w:World)(argTypes:Array TypeId)(elem:TypeId)(sz n:Nat)(l:LV)(x:Value):Prop:=
 ∃xt d,∃cs:Array Value,argTypes[1]? =some xt∧P.underlying xt=some d∧bc φ l cs.toList∧l.length=n*sz∧
  ((Bz d=false∧(∀w,(Builtin.lenOf x).run P w=.ok n w)∧(∀w',w'.heap=w.heap->(Builtin.firstCells sz n x).run P w'=.ok cs w'))∨
   (Bz d=true∧x=.int .i64 (n:Int)∧n<=65536∧∀w',(if n*sz=0 then pure #[]else do pure (Builtin.zeroCells (←zeroValue elem).cells n):Sem (Array Value)).run P w'=.ok cs w'))
theorem GO(hw:WR φ base H w){sz n:Nat}{l:LV}{x:AV}{vx:Value}(h:ta H sz x=some (n,l))(hx:VR φ x vx):
 ∃cs:Array Value,bc φ l cs.toList∧l.length=n*sz∧(∀w,(Builtin.lenOf vx).run P w=.ok n w)∧(∀w',w'.heap=w.heap->(Builtin.firstCells sz n vx).run P w'=.ok cs w'):=by
 unfold ta at h;split at h
 ·cases h;simp only[VR]at hx;subst hx;exact⟨#[],nj,by simp,fun w=>by simp[Builtin.lenOf],fun w' _=>by simp[Builtin.firstCells]⟩
 ·rename_i id off len cap s ex;obtain⟨hb,h⟩:=c6 h;have hs:s=sz:=eu hb;subst hs;split at h
  ·rename_i vs iB;obtain⟨r,hr,h⟩:=tI h;cases h;obtain⟨rfl,bF⟩:=yg hr;obtain⟨e,y,c,he,rfl,hy,mS,nZ,jz⟩:=hx;obtain⟨cs,el,hg,cJ,cI,hv,h1⟩:=hw.CE iB he;by_cases h0:n*s=0
   ·refine⟨#[],?_,by simp[h0],fun w=>by simp[Builtin.lenOf],fun w' _=>?_⟩
    ·rw[h0];simp[bc]
    ·simp[Builtin.firstCells,h0,loadCells,loadCellsFrom]
   ·have S1:n≠0:=by rintro rfl;simp at h0
    have l8:y=e.o+off:=by rcases hy with h|h<;>omega
    subst l8;have kc:off+n*s<=vs.length:=by simp at bF;omega
    refine⟨((cs.toList.drop (e.o+off)).take (n*s)).toArray,?_,bF,fun w=>by simp[Builtin.lenOf],fun w' hh=>?_⟩
    ·have h2:=(hv.uf off).rZ (n*s);have e2:(((cs.toList.drop e.o).take vs.length).drop off).take (n*s)=(cs.toList.drop (e.o+off)).take (n*s):=by rw[List.drop_take,List.drop_drop,List.take_take];congr 1;omega
     rw[e2]at h2;simpa using h2
    ·have:=ye (P:=P) (w:=w') (n:=n*s) (o:=e.o+off) (by rw[hh];exact hg) (by omega);simp[Builtin.firstCells,this]
  ·cases h
 ·rename_i s;obtain⟨hb,h⟩:=c6 h;have hs:sz=1:=eu hb;subst hs;cases h;obtain⟨b,rfl,rfl⟩:=hx;refine⟨b.data.map fun c=>.int .u8 c.toNat,?_,by simp,fun w=>by simp[Builtin.lenOf,tS],fun w' _=>?_⟩
  ·refine P6 (by simp[fo]) ?_;intro i a v h1 h2;simp only[fo,List.getElem?_map,Array.toList_map]at h1 h2;cases hq:b.data.toList[i]? with
   |none=>simp[hq]at h1
   |some u=>simp only[hq,Option.map_some,p9]at h1 h2;subst h1 h2;simp[VR]
  ·have:b.extract 0 b.size=b:=by apply WM;simp[fo]
   simp[Builtin.firstCells,tS,this]
 ·rename_i cs len s;obtain⟨hb,hq⟩:=c6 h;clear h;have hs:s=sz:=eu hb;subst hs;injection hq with hq
  injection hq with h1 h2
  subst h1 h2;obtain⟨a,c,rfl,bF,hd⟩:=hx;clear hb;by_cases h0:len*s=0
  ·have v7:cs=[]:=List.eq_nil_of_length_eq_zero (by omega);subst v7;refine⟨#[],nj,by simp[h0],fun w=>by simp[Builtin.lenOf],fun w' _=>?_⟩;cases a<;>simp[Builtin.firstCells,h0,loadCells,loadCellsFrom]
  ·have LW:len≠0:=by rintro rfl;simp at h0
   rcases hd with hd|⟨b,x,eC,el,fz,rfl,mS,fE,cJ,hv⟩
   ·exact absurd hd LW
   ·refine⟨((eC.toList.drop x).take (len*s)).toArray,?_,bF,fun w=>by simp[Builtin.lenOf],fun w' hh=>?_⟩
    ·rw[bF]at hv;have hv:=bc.kQ (eg.BT φ) _ _ hv;simpa using hv
    ·have:=ye (P:=P) (w:=w') (n:=len*s) (o:=x) (by rw[hh];exact(hw.ro _ _ fE).1.2) (by omega);simp[Builtin.firstCells,this]
 ·rename_i id len s;obtain⟨hb,hq⟩:=c6 h;clear h;have hs:s=sz:=eu hb;subst hs;clear hb;split at hq
  ·rename_i vs el ho;obtain⟨hl,hq⟩:=c6 hq;have hl:=eu hl;injection hq with hq
   injection hq with h1 h2
   subst h1 h2;rcases hx with⟨rfl,rfl⟩|⟨e,y,c,he,rfl,hy,mS,jz⟩
   ·have v7:vs=[]:=List.eq_nil_of_length_eq_zero (by omega);subst v7;exact⟨#[],nj,by simp,fun w=>by simp[Builtin.lenOf],fun w' _=>by simp[Builtin.firstCells]⟩
   ·by_cases h0:len*s=0
    ·have v7:vs=[]:=List.eq_nil_of_length_eq_zero (by omega);subst v7;exact⟨#[],nj,by simp[h0],fun w=>by simp[Builtin.lenOf],fun w' _=>by simp[Builtin.firstCells,h0,loadCells,loadCellsFrom]⟩
    ·have S1:len≠0:=by rintro rfl;simp at h0
     have l8:y=e.o:=by rcases hy with h|h<;>omega
     subst l8;obtain⟨cs,ic,hg,cJ,cI,hv,h1⟩:=hw.CE (show H.nP id=some vs by simp[AH.nP,ho]) he;refine⟨((cs.toList.drop e.o).take (len*s)).toArray,by rw[hl]at hv;simpa using hv,hl,fun w=>by simp[Builtin.lenOf],fun w' hh=>?_⟩;have:=ye (P:=P) (w:=w') (n:=len*s) (o:=e.o) (by rw[hh];exact hg) (by omega);simp[Builtin.firstCells,this]
  ·cases hq
 ·cases h
theorem av3(hw:WR φ base H w){argTypes:Array TypeId}{elem:TypeId}{sz n:Nat}{l:LV}{x:AV}{vx:Value}
 (h:Ja P H argTypes elem sz x=some (n,l)) (hx:VR φ x vx):Gm P φ w argTypes elem sz n l vx:=by
 unfold Ja at h;cases ht:argTypes[1]? with
 |none=>simp[ht]at h
 |some xt=>
  simp only[ht,Option.bind_some]at h;split at h
  ·rename_i k hu;split at h
   ·rename_i n' z hz;obtain⟨hc,h⟩:=c6 h;cases h;simp only[cW,Nat.ble_eq]at hc;obtain⟨hn,hl⟩:=hc;have Bv:z.ek.length=sz:=eu hl;simp only[VR]at hx;subst hx;obtain⟨vz,h1,h2⟩:=wJ (φ:=φ) hz;have mE:=AV.r8 h1;have oa:vz.cells.size=sz:=by have:=mE.jM;simp at this;omega
    have uV:=Nw mE n;refine⟨xt,_,((Array.range (n*vz.cells.size)).map (vz.cells[· %vz.cells.size]!)),ht,hu,uV,by rw[Nv,Bv],.inr ⟨rfl,rfl,hn,fun w'=>?_⟩⟩;by_cases h0:n*sz=0
    ·rw[aY h0,oa,h0,Fu];rfl
    ·rw[aB h0];simp[h2 w',Builtin.zeroCells]
   ·cases h
  ·rename_i d rq hu;obtain⟨cs,h1,h2,h3,h4⟩:=GO (P:=P) hw h hx;refine⟨xt,d,cs,ht,hu,h1,h2,.inl ⟨?_,h3,h4⟩⟩;cases d<;>first
    |rfl
    |(exact absurd rfl (rq _))
  ·cases h
theorem alf(hw:WR φ base H w){ψ:bf}{elem:TypeId}{id off len sz n c:Nat}{l old vs:LV}{jT:TypeId}{e:PE}{cs:Array Value}{ec BO:aZ}(hm:m<=H.bL)(ho:H.bu id=some ec)(k8:ec.aU=true)(fv:∀o,OR φ ec e o->OR ψ (.aw vs jT) e o)(he:φ id=some e)
 (v8:∀χ e o,eg φ χ->OR ψ (.aw (old++l) elem) e o->OR χ BO e o) (n9:oN vs off (len*sz)=some old) (hl:bc ψ l cs.toList) (hln:l.length=n*sz) (h1:(old++l).all AV.dR=true) (jz:e.o+off+c*sz<=e.n) (hc:len+n<=c):
 ∃w',(storeCells ⟨e.b,e.o+off+len*sz,none⟩ cs.toList).run P w=.ok () w'∧
  WR (js φ H.bL ⟨e.b,e.o+off,e.n⟩) base ((H.dL id (.b9 [])).iq BO) w'∧
  cQ m φ H (js φ H.bL ⟨e.b,e.o+off,e.n⟩) ((H.dL id (.b9 [])).iq BO)∧c8 base w w':=by
 obtain⟨o,hg,rr⟩:=hw.ey id _ e ho he;obtain⟨kB,ic,rfl,cJ,cI,hv,mC⟩:=fv o rr;obtain⟨rfl,bF⟩:=yg n9;have d_:=hl.jM;have S8:len*sz+n*sz<=c*sz:=by rw[←Nat.add_mul];exact Nat.mul_le_mul_right sz hc
 have Ha:=h1;rw[List.all_append,cW]at Ha;have dK:=run_storeCells_at P e.b (e.o+off+len*sz) ic cs.toList 0 kB w hg (by omega) (AV.aee hl Ha.2);simp only[Nat.add_zero]at dK;have vX:=hw.jV (fB H.bL);have S0:=Ke (e:=⟨e.b,e.o+off,e.n⟩) vX;have axW:id≠H.bL:=fun h=>by rw[h,vX]at he;cases he
 refine⟨_,dK,?_,?_,c8.Io hw he (IJ _ _ _) (fun b hb=>II _ _ _ hb)⟩
 ·have hk:=hw.xQ (vs:=[]) ho;refine⟨?_,?_,?_,?_,hw.sE rfl (fun b o h=>II _ _ _ (fun hb=>(hw.ro b o h).2 id _ e ho k8 he hb.symm)) fun i ob e1 a1 l1 a2=>.inl ?_⟩
  ·intro i ob e1 a1 a2;rw[rF,oK]at a1;by_cases hi:i=H.bL
   ·subst hi;rw[aY rfl]at a1;cases a1;rw[mM]at a2;cases a2;refine⟨_,setRow_heap w e.b kB _ ic _ hg,v8 _ _ _ S0 ⟨_,ic,rfl,?_,?_,?_,h1⟩⟩
    ·have gY:cs.size=n*sz:=by simp at d_;omega
     simp;omega
    ·simp at bF⊢;omega
    ·have Ep:(List.take (len*sz) (List.drop off vs)++l).length=len*sz+n*sz:=by simp at bF⊢;omega
     rw[Ep];have kc:len*sz=0∨off+len*sz<=vs.length:=by simp at bF;omega
     have e3:((List.take (e.o+off+len*sz) kB.toList++cs.toList++List.drop (e.o+off+len*sz+cs.toList.length) kB.toList).drop (e.o+off)).take (len*sz+n*sz)=(kB.toList.drop (e.o+off)).take (len*sz)++cs.toList:=by
      apply List.ext_getElem?;intro j;by_cases hj:j<len*sz+n*sz
      ·rw[List.getElem?_take_of_lt hj,List.getElem?_drop,nG];simp only[List.getElem?_append,List.length_take,List.length_drop];rw[show min (e.o+off+len*sz) kB.toList.length=e.o+off+len*sz by simp;omega,show min (len*sz) (kB.toList.length-(e.o+off))=len*sz by simp;omega];by_cases h3:j<len*sz
       ·rw[aY (by omega),aY h3,List.getElem?_take_of_lt (by omega),List.getElem?_take_of_lt h3,List.getElem?_drop]
       ·rw[aB (by omega),aB h3,show e.o+off+j-(e.o+off+len*sz)=j-len*sz by omega,aY (by omega)]
      ·rw[List.getElem?_eq_none (by simp;omega),List.getElem?_eq_none (by simp;simp at d_;omega)]
     show bc ψ _ (((List.take (e.o+off+len*sz) kB.toList++cs.toList++List.drop (e.o+off+len*sz+cs.toList.length) kB.toList).drop (e.o+off)).take (len*sz+n*sz));rw[e3];refine bc.wR ?_ hl;have h2:=(hv.uf off).rZ (len*sz);have e2:(((kB.toList.drop e.o).take vs.length).drop off).take (len*sz)=(kB.toList.drop (e.o+off)).take (len*sz):=by
      rcases kc with kc|kc
      ·simp[kc]
      ·rw[List.drop_take,List.drop_drop,List.take_take];congr 1;omega
     rw[e2]at h2;exact h2
   ·rw[aB hi]at a1;simp only[js,aB hi]at a2;by_cases pQ:ob.aU=true
    ·have vZ:i≠id:=by rintro rfl;rw[pt,aY rfl]at a1;cases a1;simp[aZ.aU]at pQ
     rw[pt,aB vZ]at a1;obtain⟨o,h3,h4⟩:=hw.ey i ob e1 a1 a2;have hb:e1.b≠e.b:=fun h=>vZ (hw.kx i id ob _ e1 e a1 pQ a2 ho k8 he h)
     exact⟨o,by rw[II _ _ _ hb];exact h3,h4.CC S0⟩
    ·cases ob<;>simp[aZ.aU]at pQ;have h5:=(hw.lt i e1 a2).1;rw[←IJ w e.b (List.take (e.o+off+len*sz) kB.toList++cs.toList++List.drop (e.o+off+len*sz+cs.toList.length) kB.toList).toArray]at h5;exact⟨_,Array.getElem?_eq_getElem h5,trivial⟩
  ·intro i i' jl oj e1 e2 a1 l1 a2 a3 l2 a4 hb;rw[rF,oK]at a1 a3;have Mr:∀{i ob},i≠H.bL->(H.dL id (.b9 [])).bu i=some ob->ob.aU=true->i≠id∧H.bu i=some ob:=by
    intro i ob hi h hl;have vZ:i≠id:=by rintro rfl;rw[pt,aY rfl]at h;cases h;simp[aZ.aU]at hl
    rw[pt,aB vZ]at h;exact⟨vZ,h⟩
   by_cases hi:i=H.bL<;>by_cases eO:i'=H.bL
   ·rw[hi,eO]
   ·exfalso;subst hi;rw[mM]at a2;cases a2;rw[aB eO]at a3;simp only[js,aB eO]at a4;obtain⟨n1,n2⟩:=Mr eO a3 l2;exact n1 (hw.kx i' id oj _ e2 e n2 l2 a4 ho k8 he hb.symm)
   ·exfalso;subst eO;rw[mM]at a4;cases a4;rw[aB hi]at a1;simp only[js,aB hi]at a2;obtain⟨n1,n2⟩:=Mr hi a1 l1;exact n1 (hw.kx i id jl _ e1 e n2 l1 a2 ho k8 he hb)
   ·rw[aB hi]at a1;rw[aB eO]at a3;simp only[js,aB hi]at a2;simp only[js,aB eO]at a4;obtain⟨_,n2⟩:=Mr hi a1 l1;obtain⟨_,n4⟩:=Mr eO a3 l2;exact hw.kx i i' jl oj e1 e2 n2 l1 a2 n4 l2 a4 hb
  ·intro i e1 a2;rw[IJ,x9,oK];by_cases hi:i=H.bL
   ·subst hi;rw[mM]at a2;cases a2;have:=hw.lt id e he;exact⟨this.1,this.2.1,by omega⟩
   ·simp only[js,aB hi]at a2;have:=hw.lt i e1 a2;exact⟨this.1,this.2.1,by omega⟩
  ·intro i ob a1;rw[rF,oK]at a1;rw[x9,oK];by_cases hi:i=H.bL
   ·omega
   ·rw[aB hi]at a1;have:=hk.nx i ob a1;rw[oK]at this;omega
  ·rw[rF,oK]at a1;by_cases hi:i=H.bL
   ·subst hi;rw[mM]at a2;cases a2;exact⟨id,_,e,ho,k8,he,rfl⟩
   ·rw[aB hi]at a1;simp only[js,aB hi]at a2;have vZ:i≠id:=by rintro rfl;rw[pt,aY rfl]at a1;cases a1;simp[aZ.aU]at l1
    rw[pt,aB vZ]at a1;exact⟨i,ob,e1,a1,l1,a2,rfl⟩
 ·refine⟨S0,by rw[x9,oK];omega,fun i hi hn=>⟨?_,?_⟩⟩
  ·simp only[js];rw[aB (by omega)];exact hn
  ·exact .inl (by rw[rF,oK,aB (by omega),pt,aB (fun h=>by subst h;rw[he]at hn;cases hn)])
end
section
variable{P:Program}{φ:bf}{base:dX}{m:Nat}{H:AH}{w:World}{ρ:Operand->Option AV}{ev:Operand->Value}
theorem Gu{ts:Array TypeId}{T t elem:TypeId}{vs:Array Value}{x:Value}{a:Option Addr}{len c sz n gK:Nat}{l:LV}(ht:ts[0]? =some t)(hu:P.underlying t=some (.slice elem))
 (v0:vs[0]? =some (.slice a len c)) (v1:vs[1]? =some x) (hs:dw P elem=some sz) (lJ:uu P elem=some gK) (hb:gK<=65536) (lL:Gm P φ w ts elem sz n l x) (jz:len+n<=c):
 ∃cs:Array Value,bc φ l cs.toList∧l.length=n*sz∧∀w',(match a with|some a=>storeCells (a.add (len*sz)) cs.toList|none=>pure ():Sem Unit).run P w=.ok () w'->
  (Builtin.append_ ts T vs).run P w=.ok (.slice a (len+n) c) w':=by
 obtain⟨xt,d,cs,t1,tu,h1,h2,h3⟩:=lL;refine⟨cs,h1,h2,fun w' gC=>?_⟩;unfold Builtin.append_;simp only[ht,v0,v1,Sem.run_bind,run_underlying hu w,Result.andThen_ok,iV hs w,t1,run_underlying tu w];rcases h3 with⟨hd,hn,hc⟩|⟨hd,rfl,hn,hc⟩
 ·have qv:=hc w rfl;have hz:∀(α:Type) (f:Bool->α),(f (match d with|.int _=>true|_=>false))=f false:=by intro α f;cases d<;>first|rfl|(simp[Bz]at hd)
  split
  ·simp[Bz]at hd
  ·simp only[Sem.run_pure,Result.andThen_ok,Bool.false_eq_true,if_false,Sem.run_bind,hn w,aY jz,Bool.not_false,if_true,qv];cases a with
   |none=>simp only[Sem.run_pure,Result.ok.injEq,true_and]at gC;subst gC;rfl
   |some a=>simp only[Sem.run_bind,gC,Result.andThen_ok,Sem.run_pure]
 ·have qv:=hc w;have TP:IntKind.i64.wrap (n:Int)=n:=IntWalk.i64_in _ (by omega);obtain⟨ti,Bt,HV⟩:=QM lJ w;have S8:(n:Int)*gK<=2^48:=by
   have:n*gK<=65536*65536:=Nat.mul_le_mul hn hb;have h':((n*gK:Nat):Int)<=((65536*65536:Nat):Int):=by exact_mod_cast this
   simp only[Int.natCast_mul]at h';omega
  have q1:¬((n:Int)<0):=by omega
  have q2:¬((n:Int)*(ti.bytes:Int)>2^48):=by rw[HV];omega
  split
  ·simp only[Sem.run_pure,Result.andThen_ok,if_true,Sem.run_bind,asInt,asIntOf,TP,aB q1,Bt,aB q2,Int.toNat_natCast,aY jz,Bool.not_true,Bool.false_eq_true,if_false,qv];cases a with
   |none=>simp only[Sem.run_pure,Result.ok.injEq,true_and]at gC;subst gC;rfl
   |some a=>simp only[Sem.run_bind,gC,Result.andThen_ok,Sem.run_pure]
  ·rename_i rq;cases d<;>first|(exact absurd rfl (rq _))|(simp[Bz]at hd)
theorem Qh{ts:Array TypeId}{T t elem:TypeId}{vs:Array Value}{x:Value}{a:Option Addr}{len c sz n gK:Nat}{l:LV}{old zs:Array Value}(ht:ts[0]? =some t)(hu:P.underlying t=some (.slice elem))
 (v0:vs[0]? =some (.slice a len c)) (v1:vs[1]? =some x) (hs:dw P elem=some sz) (lJ:uu P elem=some gK) (hb:gK<=65536) (lL:Gm P φ w ts elem sz n l x) (jz:c<len+n) (LU:len+n<=65536)
 {vz:Value} (hz:∀w,(zeroValue elem).run P w=.ok vz w) (n9:∀w',w'.heap=w.heap->(Builtin.firstCells sz len (.slice a len c)).run P w'=.ok old w') (oa:zs=vz.cells):
 ∃(cs:Array Value) (kh:Nat),len+n<=kh∧bc φ l cs.toList∧l.length=n*sz∧
  (Builtin.append_ ts T vs).run P w=.ok (.slice (some ⟨w.heap.size,0,none⟩) (len+n) kh) (w.drew.alloc (.cells (old++cs++Builtin.zeroCells zs (kh-(len+n))) elem (0,0))):=by
 obtain⟨xt,d,cs,t1,tu,h1,h2,h3⟩:=lL;subst oa;refine⟨cs,(Question.appendCap (len+n) c elem).cut (w.tape w.drawn (.appendCap (len+n) c elem)),?_,h1,h2,?_⟩
 ·simp only[Question.cut];omega
 have jX:¬(len+n<=c):=by omega
 obtain⟨ti,Bt,HV⟩:=QM lJ w;have abC:¬(((len+n:Nat):Int)>IntKind.i64.max):=by
  have:IntKind.i64.max=9223372036854775807:=by rfl
  rw[this];omega
 have Eg:¬(Builtin.nextslicecap (len+n) c*ti.bytes>2^48):=by have h4:=anU jz;have h5:Builtin.nextslicecap (len+n) c*ti.bytes<=200000*65536:=Nat.mul_le_mul (by omega) (by omega);omega
 have Ty:∀w',(typeInfo elem).run P w'=.ok ti w':=by
  intro w';cases hq:P.info? elem with
  |none=>simp[uu,hq]at lJ
  |some i=>have:=run_typeInfo w hq;rw[Bt]at this;cases this;exact run_typeInfo w' hq
 have abN:(Question.appendCap (len+n) c elem).forced=false:=rfl;have ab0:=n9 w.drew rfl;unfold Builtin.append_;simp only[ht,v0,v1,Sem.run_bind,run_underlying hu w,Result.andThen_ok,iV hs w,t1,run_underlying tu w];rcases h3 with⟨hd,hn,hc⟩|⟨hd,rfl,hn,hc⟩
 ·have qv:=hc w.drew rfl;split
  ·simp[Bz]at hd
  ·simp only[Sem.run_pure,Result.andThen_ok,Bool.false_eq_true,if_false,Sem.run_bind,hn w,aB jX,Bool.not_false,if_true];simp only[Ty,Result.andThen_ok];rw[aB (fun h=>abC h.1)];simp only[Sem.run_bind,Ty,Result.andThen_ok,aB Eg,run_choose_drew,abN,Bool.false_eq_true,if_false,run_askRoom,ab0,qv,hz,newRow,J6,Sem.run_pure];rfl
 ·have qv:=hc w.drew;have TP:IntKind.i64.wrap (n:Int)=n:=IntWalk.i64_in _ (by omega);have S8:(n:Int)*gK<=2^48:=by
   have:n*gK<=65536*65536:=Nat.mul_le_mul hn hb;have h':((n*gK:Nat):Int)<=((65536*65536:Nat):Int):=by exact_mod_cast this
   simp only[Int.natCast_mul]at h';omega
  have q1:¬((n:Int)<0):=by omega
  have q2:¬((n:Int)*(ti.bytes:Int)>2^48):=by rw[HV];omega
  split
  ·simp only[Sem.run_pure,Result.andThen_ok,if_true,Sem.run_bind,asInt,asIntOf,TP,aB q1,Bt,aB q2,Int.toNat_natCast,aB jX,Bool.not_true,Bool.false_eq_true,if_false];rw[aB (fun h=>abC h.1)];simp only[Sem.run_bind,Ty,Result.andThen_ok,aB Eg,run_choose_drew,abN,Bool.false_eq_true,if_false,run_askRoom,ab0,qv,hz,newRow,J6,Sem.run_pure];rfl
  ·rename_i rq;cases d<;>first|(exact absurd rfl (rq _))|(simp[Bz]at hd)
end
section
variable{P:Program}{φ:bf}{base:dX}{m:Nat}{H:AH}{w:World}{ρ:Operand->Option AV}{ev:Operand->Value}
theorem Wp{l:LV}{all kp:Array Value}{elem el:TypeId}{n:Nat}(h:bc φ l all.toList)(h1:l.all AV.dR=true)(hn:all.size+kp.size=n):
 ∀ψ b,eg φ ψ->OR ψ (.aw l elem) ⟨b,0,n⟩ (.cells (all++kp) el (0,0)):=by
 intro ψ b cI;have hl:=h.jM;refine⟨_,el,rfl,by simp;omega,by simp at hl⊢;omega,?_,h1⟩;have:((all++kp).toList.drop 0).take l.length=all.toList:=by simp only[jB,Array.toList_append];rw[hl,List.take_left'];rfl
 rw[this];exact bc.kQ cI _ _ h
theorem Xn(z:Array Value)(n:Nat):(Builtin.zeroCells z n).size=n*z.size:=by simp[Builtin.zeroCells]
theorem Ld(hw:WR φ base H w)(hb:gA base w)(hm:m<=H.bL){ψ:bf}{ts:Array TypeId}{T t elem jT:TypeId}{vs:Array Value}{v:AV}{vx:Value}{sz k gK id off len y c:Nat}{e:PE}{l old cells:LV}{vz:Value}{ec BO:aZ}(xQ:Bool)
 (ht:ts[0]? =some t) (hu:P.underlying t=some (.slice elem)) (v0:vs[0]? =some (.slice (some ⟨e.b,y,none⟩) len c)) (v1:vs[1]? =some vx) (hs:dw P elem=some sz) (lJ:uu P elem=some gK) (iR:gK<=65536)
 (oa:vz.cells.size=sz) (mE:∀w,(zeroValue elem).run P w=.ok vz w) (lL:Gm P φ w ts elem sz (k+1) l vx) (LU:len+(k+1)<=65536)
 (he:φ id=some e) (hy:c=0∨y=e.o+off) (mS:len<=c) (jz:e.o+off+c*sz<=e.n) (al6:xQ=false->c<len+(k+1))
 (ho:H.bu id=some ec) (k8:ec.aU=true) (fv:∀o,OR φ ec e o->OR ψ (.aw cells jT) e o) (v8:∀χ e o,eg φ χ->OR ψ (.aw (old++l) elem) e o->OR χ BO e o)
 (n9:oN cells off (len*sz)=some old) (HR:∀vs,bc φ l vs->bc ψ l vs) (mC:(old++l).all AV.dR=true)
 (pU:∀(χ:bf) (e':PE) (x c':Nat),χ H.bL=some e'->x=e'.o->len+(k+1)<=c'->e'.o+c'*sz<=e'.n->VR χ v (.slice (some ⟨e'.b,x,none⟩) (len+(k+1)) c')):
 fN P m base φ H w (do pure (.value (←Builtin.append_ ts T vs)):Sem Next) v (AH.iq (bif xQ then H.dL id (.b9 [])else H) BO):=by
 have Hx:WR φ base H w.drew:=hw.tN rfl;obtain⟨o,hg,rr⟩:=hw.ey id _ e ho he;obtain⟨kB,ic,rfl,cJ,cI,iB,_⟩:=fv o rr;obtain⟨Ex,Ey⟩:=yg n9;by_cases hr:len+(k+1)<=c
 ·
  have iM:xQ=true:=by
   cases xQ
   ·have:=al6 rfl;omega
   ·rfl
  subst iM;simp only[cond_true];have l8:y=e.o+off:=by rcases hy with h|h<;>omega
  subst l8;obtain⟨cs,h1,h2,h3⟩:=Gu (P:=P) (T:=T) ht hu v0 v1 hs lJ iR lL hr;obtain⟨w',b1,b2,b3,b4⟩:=alf (P:=P) (elem:=elem) hw hm ho k8 fv he v8 n9 (HR _ h1) h2 mC jz hr;have h4:=h3 w' (by simp only[wW];exact b1);exact fN.of h4 (pU _ ⟨e.b,e.o+off,e.n⟩ (e.o+off) c (mM _ _ _) rfl hr jz) b2 b3 b4
 ·
  have alR:∃Fg:Array Value,bc ψ old Fg.toList∧∀w',w'.heap=w.heap->(Builtin.firstCells sz len (.slice (some ⟨e.b,y,none⟩) len c)).run P w'=.ok Fg w':=by
   by_cases h0:len*sz=0
   ·refine⟨#[],?_,fun w' _=>by simp[Builtin.firstCells,h0,loadCells,loadCellsFrom]⟩;have:old=[]:=by rw[h0]at Ey;exact List.eq_nil_of_length_eq_zero Ey
    rw[this];exact nj
   ·have S1:len≠0:=by rintro rfl;simp at h0
    have l8:y=e.o+off:=by rcases hy with h|h<;>omega
    subst l8;have kc:off+len*sz<=cells.length:=by rw[Ex]at Ey;simp at Ey;omega
    refine⟨((kB.toList.drop (e.o+off)).take (len*sz)).toArray,?_,fun w' hh=>?_⟩
    ·have h2:=(iB.uf off).rZ (len*sz);have e2:(((kB.toList.drop e.o).take cells.length).drop off).take (len*sz)=(kB.toList.drop (e.o+off)).take (len*sz):=by rw[List.drop_take,List.drop_drop,List.take_take];congr 1;omega
     rw[e2]at h2;rw[Ex];simpa using h2
    ·have:=ye (P:=P) (w:=w') (n:=len*sz) (o:=e.o+off) (by rw[hh];exact hg) (by omega);simp[Builtin.firstCells,this]
  obtain⟨Fg,o1,o2⟩:=alR;obtain⟨cs,kh,amb,h1,h2,h3⟩:=Qh (P:=P) (T:=T) ht hu v0 v1 hs lJ iR lL (by omega) LU mE o2 rfl;have gY:cs.size=(k+1)*sz:=by have:=h1.jM;simp at this;omega
  have hos:Fg.size=len*sz:=by have:=o1.jM;simp at this;omega
  have HU:(Fg++cs).size+(Builtin.zeroCells vz.cells (kh-(len+(k+1)))).size=kh*sz:=by
   rw[Xn,oa];have h6:len*sz+(k+1)*sz+(kh-(len+(k+1)))*sz=kh*sz:=by rw[←Nat.add_mul,←Nat.add_mul];congr 1;omega
   rw[Array.size_append,gY,hos];omega
  have Lv:bc ψ (old++l) (Fg++cs).toList:=by rw[Array.toList_append];exact o1.wR (HR _ h1)
  have az:∀H1:AH,WR φ base H1 w.drew->H1.bL=H.bL->cQ m φ H φ H1->
   fN P m base φ H w (do pure (.value (←Builtin.append_ ts T vs)):Sem Next) v (AH.iq H1 BO):=by
   intro H1 n_ hn1 zh;obtain⟨a1,a2,a3⟩:=n_.xV (m:=m) (show gA base w.drew from hb) (fun χ b cI=>v8 χ _ _ cI (Wp (elem:=elem) (el:=elem) Lv mC HU ψ b (eg.sU _))) (by omega);refine fN.of h3 ?_ a1 (zh.yy a2) ((c8.tN (base:=base) (w':=w.drew) rfl).ud a3);rw[hn1];exact pU _ _ 0 kh (mM _ _ _) rfl amb (by show 0+kh*sz<=kh*sz;omega)
  cases xQ
  ·simp only[cond_false];exact az _ Hx rfl (cQ.jK _ _ _)
  ·simp only[cond_true];exact az _ (Hx.xQ ho) (oK _ _ _) (cQ.nh he _)
theorem aic(hw:WR φ base H w)(hb:gA base w)(hm:m<=H.bL){ts:Array TypeId}{T t elem:TypeId}{vs:Array Value}{s v:AV}{Ji vx:Value}{sz n gK:Nat}{l:LV}{H':AH}{z:AV}{vz:Value}
 (ht:ts[0]? =some t) (hu:P.underlying t=some (.slice elem)) (v0:vs[0]? =some Ji) (v1:vs[1]? =some vx) (hs:dw P elem=some sz) (lJ:uu P elem=some gK) (iR:gK<=65536)
 (hz:VR φ z vz) (mE:∀w,(zeroValue elem).run P w=.ok vz w) (Bv:z.ek.length=sz) (lL:Gm P φ w ts elem sz n l vx) (hv:VR φ s Ji) (h:qU H elem sz s n l=some (v,H')):
 fN P m base φ H w (do pure (.value (←Builtin.append_ ts T vs)):Sem Next) v H':=by
 have oa:vz.cells.size=sz:=by have:=(AV.r8 hz).jM;simp at this;omega
 have Hx:WR φ base H w.drew:=hw.tN rfl;unfold qU at h;split at h
 ·simp only[VR]at hv;subst hv;cases n with
  |zero=>cases h;obtain⟨cs,h1,h2,h3⟩:=Gu (P:=P) (T:=T) ht hu v0 v1 hs lJ iR lL (fB _);exact fN.of (h3 w rfl) (by simp[VR]) hw (cQ.jK _ _ _) (c8.kv _ _)
  |succ k=>
   obtain⟨hc,h⟩:=c6 h;cases h;simp only[cW,Nat.ble_eq]at hc;obtain⟨cs,kh,cI,h1,h2,h3⟩:=Qh (P:=P) (T:=T) (old:= #[]) (a:=none) (len:=0) (c:=0) ht hu v0 v1 hs lJ iR lL (by omega) (by omega) mE (fun w' _=>by simp[Builtin.firstCells]) rfl;have gY:cs.size=(k+1)*sz:=by have:=h1.jM;simp at this;omega
   have HU:(#[]++cs).size+(Builtin.zeroCells vz.cells (kh-(0+(k+1)))).size=kh*sz:=by
    rw[Xn,oa];have h6:(k+1)*sz+(kh-(0+(k+1)))*sz=kh*sz:=by rw[←Nat.add_mul];congr 1;omega
    rw[Array.size_append,gY];simp only[List.size_toArray,fk];omega
   obtain⟨a1,a2,a3⟩:=Hx.xV (m:=m) (show gA base w.drew from hb) (Wp (elem:=elem) (el:=elem) (by simpa using h1) hc.2 HU) hm;refine fN.of h3 ?_ a1 a2 ((c8.tN (base:=base) (w':=w.drew) rfl).ud a3);simp only[VR];refine⟨_,0,kh,mM _ _ _,by rw[jI];rfl,.inr rfl,by omega,(fun h=>by cases h),?_⟩;show 0+0+kh*sz<=kh*sz;omega
 ·rename_i id off len cap lU ex;obtain⟨hc,h⟩:=c6 h;simp only[cW,Nat.ble_eq]at hc;have L4:sz=lU:=eu hc.1;subst L4;have wb:=hv;obtain⟨e,y,c,he,rfl,hy,mS,nZ,jz⟩:=hv;cases n with
  |zero=>
   cases h;obtain⟨cs,h1,h2,h3⟩:=Gu (P:=P) (T:=T) ht hu v0 v1 hs lJ iR lL (by omega);have gY:cs.toList=[]:=by have:=h1.jM;rw[h2]at this;simpa using this.symm
   refine fN.of (h3 w (by rw[gY];rfl)) wb hw (cQ.jK _ _ _) (c8.kv _ _)
  |succ k=>
   simp only at h;have xu:∀{kl:Bool},(ex&&Nat.ble (cap+1) (len+(k+1)))=kl->kl=true->c<len+(k+1):=by
    intro kl h1 h2;subst h2;cases ex
    ·simp at h1
    ·have:=nZ rfl;simp only[iG,Nat.ble_eq]at h1;omega
   have pU:∀(χ:bf) (e':PE) (x c':Nat),χ H.bL=some e'->x=e'.o->len+(k+1)<=c'->e'.o+c'*sz<=e'.n->VR χ (.bE H.bL 0 (len+(k+1)) 1 sz false) (.slice (some ⟨e'.b,x,none⟩) (len+(k+1)) c'):=by intro χ e' x c' h1 h2 h3 h4;simp only[VR];exact⟨e',x,c',h1,rfl,.inr (by simpa using h2),h3,(fun h=>by cases h),by simpa using h4⟩
   have SQ:∀(kl:Bool) (x y:AH),(bif kl then x else y)=(bif !kl then y else x):=by intro kl x y;cases kl<;>rfl
   unfold Lc at h;split at h
   ·rename_i cells jT ho;split at h
    ·rename_i old n9;obtain⟨mC,hq⟩:=c6 h;clear h;cases hq;rw[SQ];exact Ld (P:=P) (ψ:=φ) (elem:=elem) hw hb hm _ ht hu v0 v1 hs lJ iR oa mE lL hc.2 he hy mS jz (fun hk=>xu rfl (by simpa using hk)) ho rfl (fun o h=>h) (fun χ e o cI h=>h.CC cI) n9 (fun _ h=>h) mC pU
    ·cases h
   ·rename_i cells jT ho;split at h
    ·rename_i old n9;obtain⟨mC,hq⟩:=c6 h;clear h;simp only[cW]at mC;cases hq;rw[SQ];obtain⟨o,hg,kB,ic,rfl,cJ,cI,iB,vP⟩:=hw.ey id _ e ho he;obtain⟨Ex,Ey⟩:=yg n9;have Tg:(old++l).all AV.dR=true:=by rw[List.all_append,cW];refine⟨?_,mC.1⟩;rw[Ex];rw[List.all_eq_true]at vP⊢;exact fun x hx=>vP x (List.mem_of_mem_drop (List.mem_of_mem_take hx))
     exact Ld (P:=P) (ψ:=φ.pu) (elem:=elem) (jT:=elem) hw hb hm _ ht hu v0 v1 hs lJ iR oa mE lL hc.2 he hy mS jz (fun hk=>xu rfl (by simpa using hk)) ho rfl (fun o h=>h) (fun χ e o cI h=>Yv cI h) n9 (fun vs h=>bc.yB _ _ (by rw[ya];exact mC.2) h) Tg pU
    ·cases h
   ·rename_i cells jT ho;split at h
    ·rename_i old n9;obtain⟨mC,hq⟩:=c6 h;clear h;simp only[cW]at mC;cases hq;rw[SQ];obtain⟨o,hg,kB,ic,rfl,cJ,cI,iB,vP⟩:=hw.ey id _ e ho he;obtain⟨Ex,Ey⟩:=yg n9;have Tg:(old++l).all AV.dR=true:=by rw[List.all_append,cW];refine⟨?_,mC.1⟩;rw[Ex];rw[List.all_eq_true]at vP⊢;exact fun x hx=>vP x (List.mem_of_mem_drop (List.mem_of_mem_take hx))
     exact Ld (P:=P) (ψ:=φ.pu) (elem:=elem) (jT:=elem) hw hb hm _ ht hu v0 v1 hs lJ iR oa mE lL hc.2 he hy mS jz (fun hk=>xu rfl (by simpa using hk)) ho rfl (fun o h=>h) (fun χ e o cI h=>PD cI h) n9 (fun vs h=>bc.yB _ _ (by rw[ya];exact mC.2) h) Tg pU
    ·cases h
   ·cases h
 ·rename_i id len lU;obtain⟨hc,hq⟩:=c6 h;clear h;simp only[cW,Nat.ble_eq]at hc;have L4:sz=lU:=eu hc.1;subst L4;have wb:=hv;cases n with
  |zero=>
   cases hq;rcases hv with⟨rfl,rfl⟩|⟨e,y,c,he,rfl,hy,mS,jz⟩
   ·obtain⟨cs,h1,h2,h3⟩:=Gu (P:=P) (T:=T) ht hu v0 v1 hs lJ iR lL (fB _);exact fN.of (h3 w rfl) wb hw (cQ.jK _ _ _) (c8.kv _ _)
   ·obtain⟨cs,h1,h2,h3⟩:=Gu (P:=P) (T:=T) ht hu v0 v1 hs lJ iR lL (by omega);have gY:cs.toList=[]:=by have:=h1.jM;rw[h2]at this;simpa using this.symm
    exact fN.of (h3 w (by rw[gY];rfl)) wb hw (cQ.jK _ _ _) (c8.kv _ _)
  |succ k=>
   simp only at hq;unfold RQ at hq;split at hq
   ·rename_i cells jT ho;obtain⟨mB,hq⟩:=c6 hq;simp only[cW]at mB;obtain⟨⟨hl,Hd⟩,kH⟩:=mB;have hl:=eu hl;cases hq;have HR:∀vs,bc φ l vs->bc φ.pu l vs:=fun vs h=>bc.yB _ _ (by rw[ya];exact kH) h
    rcases hv with⟨rfl,rfl⟩|⟨e,y,c,he,rfl,hy,mS,jz⟩
    ·have v7:cells=[]:=List.eq_nil_of_length_eq_zero (by omega);subst v7;obtain⟨cs,kh,cI,h1,h2,h3⟩:=Qh (P:=P) (T:=T) (old:= #[]) (a:=none) (len:=0) (c:=0) ht hu v0 v1 hs lJ iR lL (by omega) (by omega) mE (fun w' _=>by simp[Builtin.firstCells]) rfl;have gY:cs.size=(k+1)*sz:=by have:=h1.jM;simp at this;omega
     have HU:(#[]++cs).size+(Builtin.zeroCells vz.cells (kh-(0+(k+1)))).size=kh*sz:=by
      rw[Xn,oa];have h6:(k+1)*sz+(kh-(0+(k+1)))*sz=kh*sz:=by rw[←Nat.add_mul];congr 1;omega
      rw[Array.size_append,gY];simp only[List.size_toArray,fk];omega
     obtain⟨a1,a2,a3⟩:=(Hx.xQ ho).xV (m:=m) (show gA base w.drew from hb) (fun χ b cI=>PD cI (el:=elem) (vs:=[]++l) (Wp (elem:=elem) (el:=elem) (by simpa using HR _ h1) (by simpa using Hd) HU φ.pu b (eg.sU _))) (by rw[oK];exact hm);refine fN.of h3 ?_ a1 ((cQ.aF ho _).yy a2) ((c8.tN (base:=base) (w':=w.drew) rfl).ud a3);simp only[VR];right;rw[oK];exact⟨_,0,kh,mM _ _ _,by simp,.inr rfl,by omega,by show 0+kh*sz<=kh*sz;omega⟩
    ·obtain⟨o,hg,kB,ic,rfl,cJ,cI,iB,vP⟩:=hw.ey id _ e ho he;have n9:oN cells 0 (len*sz)=some cells:=by
      have e0:(cells.drop 0).take (len*sz)=cells:=by rw[jB,←hl,List.take_length]
      unfold oN;simp only[e0,hl,Tr.uZ,decide_true,cond_true]
     exact Ld (P:=P) (ψ:=φ.pu) (elem:=elem) (jT:=elem) (off:=0) hw hb hm true ht hu v0 v1 hs lJ iR oa mE lL hc.2 he (by simpa using hy) mS (by simpa using jz) (fun h=>by cases h) ho rfl (fun o h=>h) (fun χ e o cI h=>PD cI h) n9 HR
      (by rw[List.all_append,cW];exact⟨vP,Hd⟩)
      (fun χ e' x c' h1 h2 h3 h4=>by simp only[VR];exact .inr ⟨e',x,c',h1,rfl,.inr h2,h3,h4⟩)
   ·cases hq
 ·cases h
theorem aib(hw:WR φ base H w)(hb:gA base w)(hm:m<=H.bL){ts:Array TypeId}{T:TypeId}{vs:Array Value}{s x v:AV}{Ji vx:Value}{H':AH}
 (v0:vs[0]? =some Ji) (v1:vs[1]? =some vx) (hv:VR φ s Ji) (hx:VR φ x vx) (h:Dd P H ts s x=some (v,H')):
 fN P m base φ H w (do pure (.value (←Builtin.append_ ts T vs)):Sem Next) v H':=by
 unfold Dd at h;cases ht:ts[0]? with
 |none=>simp[ht]at h
 |some t=>
  simp only[ht,Option.bind_some]at h;split at h
  ·rename_i elem hu;split at h
   ·rename_i sz gK hs lJ;obtain⟨hc,h⟩:=c6 h;simp only[cW,Nat.ble_eq]at hc;obtain⟨iR,hz⟩:=hc;split at h
    ·rename_i n l lL;cases Bw:ku P elem with
     |none=>simp[Bw]at hz
     |some z=>simp only[Bw,Option.any_some]at hz;obtain⟨vz,z1,z2⟩:=wJ (φ:=φ) Bw;exact aic hw hb hm ht hu v0 v1 hs lJ iR z1 z2 (eu hz) (av3 hw lL hx) hv h
    ·cases h
   ·cases h
  ·cases h
end
section
variable{P:Program}{φ:bf}{base:dX}{m:Nat}{H:AH}{w:World}{ρ:Operand->Option AV}{ev:Operand->Value}
theorem Ky(hw:WR φ base H w){sz n:Nat}{l:LV}{x:AV}{vx:Value}(h:ta H sz x=some (n,l))(hx:VR φ x vx){k:Nat}(hk:k<=n):
 ∃cs:Array Value,bc φ (l.take (k*sz)) cs.toList∧(Builtin.firstCells sz k vx).run P w=.ok cs w:=by
 unfold ta at h;split at h
 ·cases h;simp only[VR]at hx;subst hx;exact⟨#[],by simp[bc],by simp[Builtin.firstCells]⟩
 ·rename_i id off len cap s ex;obtain⟨hb,h⟩:=c6 h;have hs:s=sz:=eu hb;subst hs;split at h
  ·rename_i vs iB;obtain⟨r,hr,h⟩:=tI h;cases h;obtain⟨rfl,bF⟩:=yg hr;obtain⟨e,y,c,he,rfl,hy,mS,nZ,jz⟩:=hx;obtain⟨cs,el,hg,cJ,cI,hv,h1⟩:=hw.CE iB he;have uN:k*s<=n*s:=Nat.mul_le_mul_right s hk;by_cases h0:k*s=0
   ·refine⟨#[],?_,?_⟩
    ·rw[h0];simp[bc]
    ·simp[Builtin.firstCells,h0,loadCells,loadCellsFrom]
   ·have qx:k≠0:=by rintro rfl;simp at h0
    have l8:y=e.o+off:=by rcases hy with h|h<;>omega
    subst l8;have kc:off+n*s<=vs.length:=by simp at bF;omega
    refine⟨((cs.toList.drop (e.o+off)).take (k*s)).toArray,?_,?_⟩
    ·rw[List.take_take,Nat.min_eq_left uN];have h2:=(hv.uf off).rZ (k*s);have e2:(((cs.toList.drop e.o).take vs.length).drop off).take (k*s)=(cs.toList.drop (e.o+off)).take (k*s):=by rw[List.drop_take,List.drop_drop,List.take_take];congr 1;omega
     rw[e2]at h2;simpa using h2
    ·have:=ye (P:=P) (w:=w) (n:=k*s) (o:=e.o+off) hg (by omega);simp[Builtin.firstCells,this]
  ·cases h
 ·rename_i s;obtain⟨hb,h⟩:=c6 h;have hs:sz=1:=eu hb;subst hs;cases h;obtain⟨b,rfl,rfl⟩:=hx;refine⟨(b.extract 0 k).data.map fun c=>.int .u8 c.toNat,?_,by simp[Builtin.firstCells]⟩;rw[tS]at hk;refine P6 ?_ ?_
  ·simp[fo]
  ·intro i a v h1 h2;have hi:i<k:=by
    rcases Nat.lt_or_ge i k with h|h
    ·exact h
    ·rw[List.getElem?_eq_none (by simp;omega)]at h1;cases h1
   rw[List.getElem?_take_of_lt (by omega)]at h1;simp only[fo,List.getElem?_map]at h1;simp only[ByteArray.data_extract,Array.toList_map,Array.toList_extract,List.getElem?_map,List.extract_eq_take_drop,jB,Nat.sub_zero,List.getElem?_take_of_lt hi]at h2;cases hq:b.data.toList[i]? with
   |none=>simp[hq]at h1
   |some u=>simp only[hq,Option.map_some,p9]at h1 h2;subst h1 h2;simp[VR]
 ·rename_i cs len s;obtain⟨hb,hq⟩:=c6 h;clear h;have hs:s=sz:=eu hb;subst hs;injection hq with hq
  injection hq with h1 h2
  subst h1 h2;obtain⟨a,c,rfl,bF,hd⟩:=hx;clear hb;have uN:k*s<=len*s:=Nat.mul_le_mul_right s hk;by_cases h0:k*s=0
  ·refine⟨#[],by rw[h0];simp[bc],?_⟩;cases a<;>simp[Builtin.firstCells,h0,loadCells,loadCellsFrom]
  ·have LW:len≠0:=by rintro rfl;simp at hk;subst hk;simp at h0
   rcases hd with hd|⟨b,x,eC,el,fz,rfl,mS,fE,cJ,hv⟩
   ·exact absurd hd LW
   ·refine⟨((eC.toList.drop x).take (k*s)).toArray,?_,?_⟩
    ·have h2:=(bc.kQ (eg.BT φ) _ _ hv).rZ (k*s);rw[List.take_take,Nat.min_eq_left (by omega)]at h2;simpa using h2
    ·have:=ye (P:=P) (w:=w) (n:=k*s) (o:=x) (hw.ro _ _ fE).1.2 (by omega);simp[Builtin.firstCells,this]
 ·rename_i id len s;obtain⟨hb,hq⟩:=c6 h;clear h;have hs:s=sz:=eu hb;subst hs;clear hb;split at hq
  ·rename_i vs el ho;obtain⟨hl,hq⟩:=c6 hq;have hl:=eu hl;injection hq with hq
   injection hq with h1 h2
   subst h1 h2;have uN:k*s<=len*s:=Nat.mul_le_mul_right s hk;rcases hx with⟨rfl,rfl⟩|⟨e,y,c,he,rfl,hy,mS,jz⟩
   ·have qx:k=0:=by omega
    subst qx;exact⟨#[],by simp[bc],by simp[Builtin.firstCells]⟩
   ·by_cases h0:k*s=0
    ·refine⟨#[],by rw[h0];simp[bc],?_⟩;simp[Builtin.firstCells,h0,loadCells,loadCellsFrom]
    ·have S1:len≠0:=by rintro rfl;simp at hk;subst hk;simp at h0
     have l8:y=e.o:=by rcases hy with h|h<;>omega
     subst l8;obtain⟨cs,ic,hg,cJ,cI,hv,h1⟩:=hw.CE (show H.nP id=some vs by simp[AH.nP,ho]) he;refine⟨((cs.toList.drop e.o).take (k*s)).toArray,?_,?_⟩
     ·have h2:=hv.rZ (k*s);rw[List.take_take,Nat.min_eq_left (by omega)]at h2;simpa using h2
     ·have:=ye (P:=P) (w:=w) (n:=k*s) (o:=e.o) hg (by omega);simp[Builtin.firstCells,this]
  ·cases hq
 ·cases h
theorem ajm(hw:WR φ base H w){ts:Array TypeId}{T:TypeId}{vs:Array Value}{d x v:AV}{vd vx:Value}{H':AH}
 (v0:vs[0]? =some vd) (v1:vs[1]? =some vx) (hd:VR φ d vd) (hx:VR φ x vx) (h:Kp P H ts d x=some (v,H')):
 fN P m base φ H w (do pure (.value (←Builtin.copy_ ts T vs)):Sem Next) v H':=by
 unfold Kp at h;cases ht:ts[0]? with
 |none=>simp[ht]at h
 |some t=>
  simp only[ht,Option.bind_some]at h;split at h
  ·rename_i elem hu;split at h
   ·rename_i sz hs;split at h
    ·rename_i n l qw;cases h;simp only[VR]at hd;subst hd;obtain⟨cs,h1,h2⟩:=Ky (P:=P) hw qw hx (k:=Nat.min n 0) (by simp);obtain⟨_,_,_,bF,_⟩:=GO (P:=P) hw qw hx;refine fN.of (w':=w) (v':=goInt 0) ?_ (uF 0) hw (cQ.jK _ _ _) (c8.kv _ _);simp only[Builtin.copy_,ht,v0,v1,Sem.run_bind,run_underlying hu w,Result.andThen_ok,bF w,iV hs w,h2,Sem.run_pure];simp
    ·rename_i id off len cap lU ex n l qw;obtain⟨hb,hq⟩:=c6 h;clear h;rw[cW]at hb;obtain⟨hb,mC⟩:=hb;have xI:sz=lU:=eu hb;subst xI;obtain⟨e,y,c,he,rfl,hy,mS,nZ,jz⟩:=hd;unfold ZW at hq;split at hq
     ·rename_i cells jT ho;split at hq
      ·rename_i r hp;cases hq;obtain⟨cs,h1,h2⟩:=Ky (P:=P) hw qw hx (k:=Nat.min n len) (Nat.min_le_left _ _);obtain⟨kB,g1,g2,bF,_⟩:=GO (P:=P) hw qw hx;obtain⟨w',b1,b2,b3⟩:=hw.FW (P:=P) ho rfl (fun o h=>h) he hp h1 mC;refine fN.of (w':=w') (v':=goInt (Nat.min n len)) ?_ (uF _) b2 (cQ.nh he _) b3;have gC:(storeCells ⟨e.b,y,none⟩ cs.toList).run P w=.ok () w':=by
        by_cases h0:Nat.min n len=0
        ·have:cs.toList=[]:=by rw[h0]at h1;simpa[bc]using h1
         rw[this]at b1⊢;exact b1
        ·have:len≠0:=by rintro rfl;simp at h0
         have l8:y=e.o+off:=by rcases hy with h|h<;>omega
         rw[l8];exact b1
       simp only[Builtin.copy_,ht,v0,v1,Sem.run_bind,run_underlying hu w,Result.andThen_ok,bF w,iV hs w,h2,gC,Sem.run_pure]
      ·cases hq
     ·rename_i z nn jT ho;split at hq
      ·rename_i r hp;cases hq;obtain⟨cs,h1,h2⟩:=Ky (P:=P) hw qw hx (k:=Nat.min n len) (Nat.min_le_left _ _);obtain⟨kB,g1,g2,bF,_⟩:=GO (P:=P) hw qw hx;obtain⟨w',b1,b2,b3⟩:=hw.FW (P:=P) (vs:=iU z nn) (el:=jT) ho rfl (fun o h=>h) he hp h1 mC;refine fN.of (w':=w') (v':=goInt (Nat.min n len)) ?_ (uF _) b2 (cQ.nh he _) b3;have gC:(storeCells ⟨e.b,y,none⟩ cs.toList).run P w=.ok () w':=by
        by_cases h0:Nat.min n len=0
        ·have:cs.toList=[]:=by rw[h0]at h1;simpa[bc]using h1
         rw[this]at b1⊢;exact b1
        ·have:len≠0:=by rintro rfl;simp at h0
         have l8:y=e.o+off:=by rcases hy with h|h<;>omega
         rw[l8];exact b1
       simp only[Builtin.copy_,ht,v0,v1,Sem.run_bind,run_underlying hu w,Result.andThen_ok,bF w,iV hs w,h2,gC,Sem.run_pure]
      ·cases hq
     ·rename_i cells jT ho;split at hq
      ·rename_i r hp;obtain⟨hpu,hq⟩:=c6 hq;cases hq;obtain⟨cs,h1,h2⟩:=Ky (P:=P) hw qw hx (k:=Nat.min n len) (Nat.min_le_left _ _);obtain⟨kB,g1,g2,bF,_⟩:=GO (P:=P) hw qw hx;have mQ:=bc.yB (ψ:=φ.pu) _ _ (by rw[ya];exact hpu) h1;obtain⟨w',b1,b2,b3⟩:=hw.Ou (P:=P) (ψ:=φ.pu) (vs:=cells) (el:=jT) (bW:=.eh r jT) ho rfl (fun o h=>h) he hp mQ mC (fun o h=>h);refine fN.of (w':=w') (v':=goInt (Nat.min n len)) ?_ (uF _) b2 (cQ.nh he _) b3;have gC:(storeCells ⟨e.b,y,none⟩ cs.toList).run P w=.ok () w':=by
        by_cases h0:Nat.min n len=0
        ·have:cs.toList=[]:=by rw[h0]at h1;simpa[bc]using h1
         rw[this]at b1⊢;exact b1
        ·have:len≠0:=by rintro rfl;simp at h0
         have l8:y=e.o+off:=by rcases hy with h|h<;>omega
         rw[l8];exact b1
       simp only[Builtin.copy_,ht,v0,v1,Sem.run_bind,run_underlying hu w,Result.andThen_ok,bF w,iV hs w,h2,gC,Sem.run_pure]
      ·cases hq
     ·cases hq
    ·cases h
   ·cases h
  ·cases h
end
section
variable{P:Program}{φ:bf}{base:dX}{m:Nat}{H:AH}{w:World}{ρ:Operand->Option AV}{ev:Operand->Value}
theorem aiS{g:FuncId}{fn:Func}{args:Array Value}(hf:P.funcs[g]? =some fn)(hb:fn.body.isSome=true)(hn:(fn.name== "runtime.NumGoroutine")=false)(w:World):
 (callFunc g args).run P w=.ok (.enter g args) w:=by
 have h1:¬(fn.body.isNone=true):=by cases h:fn.body<;>simp[h]at hb⊢
 have h2:¬((fn.name== "runtime.NumGoroutine")=true):=by rw[hn];simp
 simp only[callFunc,Sem.run_bind,run_program,Result.andThen_ok,hf,aB h2,aB h1,Sem.run_pure]
theorem Kg{f:AV}{args:LV}{vf:Value}{Ae:Array Value}{aN:fC}(h:vE P f args=some aN)(hf:VR φ f vf)(ha:bc φ args Ae.toList):
 (∀w,ow P m base φ H w (do let d←Deferred.ofValue vf Ae;invoke d.target d.args:Sem Next) aN)∧((∃g l,aN=.qi g l)∨∃r l,aN=.ue r l):=by
 unfold vE at h;split at h
 ·rename_i g first j9
  obtain⟨f',c',rfl,hy,h1,h2⟩:=hf;split at h
  ·rename_i fn jW;obtain⟨hb,h⟩:=c6 h;cases h;simp only[cW,Bool.not_eq_true']at hb;refine⟨fun w=>⟨f'++Ae++c',?_,?_⟩,.inl ⟨_,_,rfl⟩⟩
   ·simp[Deferred.ofValue,invoke,aiS jW hb.1 hb.2 w]
   ·rw[Array.toList_append,Array.toList_append];exact(h1.wR ha).wR h2
  ·cases h
 ·rename_i l;cases h;obtain⟨e,he,rfl⟩:=hf;refine⟨fun w=>⟨e,Ae,he,?_,ha⟩,.inr ⟨_,_,rfl⟩⟩;simp[Deferred.ofValue,invoke]
 ·cases h
theorem anE(hw:WR φ base H w){t:TypeId}{v v':AV}{f:FuncId}{vv:Value}{name:String}(h:Ux P H t v name=some (f,v'))(hv:VR φ v vv)(n:Nat):
 ∃Ag,VR φ v' Ag∧(method (n+1) t vv name).run P w=.ok (f,Ag) w:=by
 unfold Ux at h;split at h
 ·rename_i i hi;split at h
  ·rename_i mt hm;unfold aeV at h;have ab2:∀{c:Bool} {f0:FuncId},(bif mt.path.isEmpty then some (f0,v)else none)=some (f,v')->mt.path= #[]∧f0=f∧v'=v:=by intro c f0 h;obtain⟨h1,h2⟩:=c6 h;cases h2;exact⟨Array.isEmpty_iff.1 h1,rfl,rfl⟩
   split at h
   ·rename_i f0 el jW hu;obtain⟨h1,rfl,rfl⟩:=ab2 (c:=true) h;exact⟨_,hv,by simp[method,run_typeInfo w hi,hm,h1,follow,jW,receiverAt,run_underlying hu w,Place.get]⟩
   ·rename_i f0 el jW hu;obtain⟨hp,h⟩:=c6 h;have h1:mt.path= #[]:=Array.isEmpty_iff.1 hp;split at h
    ·rename_i id off;split at h
     ·rename_i v2 hl;cases h;obtain⟨e,he,rfl⟩:=hv;obtain⟨Ag,k1,k2⟩:=Us hw hl he;refine⟨Ag,k2,?_⟩;have alC:∀(a:Addr) (s:String),(Builtin.ssaWrapNilChk_ #[t] t #[.pointer (some a),strVal "",strVal s]).run P w=.ok (.pointer (some a)) w:=by intro a s;unfold Builtin.ssaWrapNilChk_ strVal;rfl
      simp[method,run_typeInfo w hi,hm,h1,follow,jW,receiverAt,run_underlying hu w,Place.get,alC,asAddr,k1]
     ·cases h
    ·cases h
   ·rename_i f0 d Tc jW hu;obtain⟨h1,rfl,rfl⟩:=ab2 (c:=true) h;refine⟨_,hv,?_⟩;simp only[method,Sem.run_bind,run_typeInfo w hi,Result.andThen_ok,hm,h1,follow,jW,Sem.run_pure];simp only[receiverAt,Sem.run_bind,run_underlying hu w,Result.andThen_ok];cases d<;>first
     |(exact absurd rfl (Tc _))
     |simp[Place.get]
   ·cases h
  ·cases h
 ·cases h
end
section
variable{P:Program}{φ:bf}{base:dX}{m:Nat}{H:AH}{w:World}{ρ:Operand->Option AV}{ev:Operand->Value}
theorem alk(hw:WR φ base H w){o:Oper}{r:Operand}{name:String}{args:Array Operand}{argTypes:Array TypeId}{aN:fC}
 (ho:o.op=.call {callee:=.invoke r name,args,argTypes}) (hr:mr φ ρ ev (r::args.toList)) (h:Lp P ρ H r name args=some aN):
 ow P m base φ H w (execOp ev o) aN:=by
 unfold Lp at h;split at h
 ·rename_i t v l e1 e2;split at h
  ·rename_i f v' ama;have lH:=yL (hr.nR (l':=args.toList) (fun x hx=>fF _ hx)) e2;obtain⟨vv,hv,TM⟩:=hr r (gi ..) _ e1;obtain⟨Ag,amC,dK⟩:=anE hw ama TM (P.types.size+Made.depth-1);have hd:1<=Made.depth:=by decide
   have hfu:P.types.size+Made.depth-1+1=P.types.size+Made.depth:=by omega
   rw[hfu]at dK;have LD:=Kg (P:=P) (m:=m) (base:=base) (H:=H) (φ:=φ) (vf:=.func (.func f) #[] #[]) (Ae:= #[Ag]++args.map ev) h ⟨#[],#[],rfl,rfl,nj,nj⟩ (by rw[Array.toList_append];exact o8.2 ⟨amC,by simpa using lH⟩);have h0:=LD.1 w;have zh:(#[ev r]++args.map ev).extract 1 (#[ev r]++args.map ev).size=args.map ev:=by apply Array.ext';simp;exact List.take_of_length_le (by simp)
   have e0:(execOp ev o).run P w=(do let d←Deferred.ofValue (.func (.func f) #[] #[]) (#[Ag]++args.map ev);invoke d.target d.args:Sem Next).run P w:=by
    have g0:(#[ev r]++args.map ev)[0]? =some (ev r):=by rw[←Array.getElem?_toList,Array.toList_append];rfl
    have ge:(execOp ev o).run P w=(callMethod (ev r) name (args.map ev)).run P w:=by obtain⟨d,op,ty,p,af,gu⟩:=o;cases ho;have e1:execOp ev {dst:=d,op:=.call {callee:=.invoke r name,args,argTypes},type:=ty,pos:=p,after:=af,guard:=gu}=(do let d←resolve ev {callee:=.invoke r name,args,argTypes} ty;invoke d.target d.args:Sem Next):=rfl;have e2:resolve ev {callee:=.invoke r name,args,argTypes} ty=(pure {target:=.fn (.method name) #[],args:= #[ev r]++args.map ev}:Sem Deferred):=rfl;rw[e1,e2,Sem.run_bind,Sem.run_pure,Result.andThen_ok];simp only[invoke,g0,zh]
    rw[ge,hv];have e3:(callMethod (.iface t vv) name (args.map ev)).run P w=(callFunc f (#[Ag]++args.map ev)).run P w:=by simp only[callMethod,Sem.run_bind,run_program,Result.andThen_ok,dK]
    rw[e3];simp only[Deferred.ofValue,Sem.run_bind,Sem.run_pure,Result.andThen_ok,invoke];simp
   rcases LD.2 with⟨g,l',rfl⟩|⟨g,l',rfl⟩
   ·obtain⟨args',a1,a2⟩:=h0;exact⟨args',by rw[e0];exact a1,a2⟩
   ·obtain⟨e,args',a0,a1,a2⟩:=h0;exact⟨e,args',a0,by rw[e0];exact a1,a2⟩
  ·cases h
 ·cases h
end
section
variable{P:Program}{φ:bf}{base:dX}{m:Nat}{H:AH}{w:World}{ρ:Operand->Option AV}{ev:Operand->Value}
theorem ali{o:Oper}{b:Builtin}{args:Array Operand}{argTypes:Array TypeId}{aN:fC}{l:LV}
 (ho:o.op=.call {callee:=.builtin b,args,argTypes}) (hw:WR φ base H w) (hb:gA base w) (hm:m<=H.bL) (iB:bc φ l (args.map ev).toList) (h:DY P H b l argTypes=some aN):
 ow P m base φ H w (execOp ev o) aN:=by
 have dK:∀s:Sem Next,(∀GH,builtin b argTypes o.type GH (args.map ev)=s)->(execOp ev o).run P w=s.run P w:=by intro s hs;obtain⟨d,op,ty,p,af,gu⟩:=o;cases ho;have e1:execOp ev {dst:=d,op:=.call {callee:=.builtin b,args,argTypes},type:=ty,pos:=p,after:=af,guard:=gu}=(do let d←resolve ev {callee:=.builtin b,args,argTypes} ty;invoke d.target d.args:Sem Next):=rfl;have e2:resolve ev {callee:=.builtin b,args,argTypes} ty=(pure {target:=.builtin b argTypes ty (args.map fun|.const _=>true|_=>false),args:=args.map ev}:Sem Deferred):=rfl;rw[e1,e2,Sem.run_bind,Sem.run_pure,Result.andThen_ok];rw[←hs (args.map fun|.const _=>true|_=>false)];rfl
 have Uq:∀(s:Sem Next) v H',(∀GH,builtin b argTypes o.type GH (args.map ev)=s)->fN P m base φ H w s v H'->ow P m base φ H w (execOp ev o) (.hZ v H'):=by intro s v H' hs ⟨aW,w',v',h1,h2⟩;exact⟨aW,w',v',by rw[dK s hs];exact h1,h2⟩
 unfold DY at h;split at h
 ·rename_i s x;simp only[bc]at iB;obtain⟨v0,r1,e1,wb,v1,r2,rfl,zn,rfl⟩:=iB;have g0:(args.map ev)[0]? =some v0:=by rw[←Array.getElem?_toList,e1];rfl
  have g1:(args.map ev)[1]? =some v1:=by rw[←Array.getElem?_toList,e1];rfl
  cases ha:Dd P H argTypes s x with
  |none=>simp[ha,BP]at h
  |some r=>obtain⟨v,H'⟩:=r;simp only[ha,BP]at h;cases h;exact Uq _ _ _ (fun _=>rfl) (aib (P:=P) (m:=m) (T:=o.type) hw hb hm g0 g1 wb zn ha)
 ·rename_i s x;simp only[bc]at iB;obtain⟨v0,r1,e1,wb,v1,r2,rfl,zn,rfl⟩:=iB;have g0:(args.map ev)[0]? =some v0:=by rw[←Array.getElem?_toList,e1];rfl
  have g1:(args.map ev)[1]? =some v1:=by rw[←Array.getElem?_toList,e1];rfl
  cases ha:Kp P H argTypes s x with
  |none=>simp[ha,BP]at h
  |some r=>obtain⟨v,H'⟩:=r;simp only[ha,BP]at h;cases h;exact Uq _ _ _ (fun _=>rfl) (ajm (P:=P) (m:=m) (T:=o.type) hw g0 g1 wb zn ha)
 ·cases h;simp only[ow];rw[dK (pure .recover) (fun _=>rfl)];rfl
 ·rename_i id k;simp only[bc]at iB;obtain⟨v0,r1,e1,wb,v1,r2,rfl,zn,rfl⟩:=iB;obtain⟨e,he,rfl⟩:=wb;obtain⟨v,H',rfl,h1⟩:=ajx (P:=P) (m:=m) (T:=o.type) hw h he zn e1;exact Uq _ _ _ (fun _=>rfl) h1
 ·cases h
end
section
variable{P:Program}{φ:bf}{base:dX}{m:Nat}{H:AH}{w:World}{ρ:Operand->Option AV}{ev:Operand->Value}
theorem abI{o:Oper}{aN:fC}(hw:WR φ base H w)(hb:gA base w)(hm:m<=H.bL)(hr:mr φ ρ ev o.op.operands.toList)(h:nY P ρ H o.op=some aN):ow P m base φ H w (execOp ev o) aN:=by
 cases o with
 |mk dst op type pos after guard=>
 simp only at hr h;cases op<;>simp only[nY]at h<;>try (cases h;done)
 case store t a x=>
  unfold Ec at h;split at h
  ·rename_i id off v ha hx;obtain⟨e,he,hv⟩:=hr a (by simp[Op.operands]) _ ha;cases hs:FE P H t id off v with
   |none=>simp[hs,tK]at h
   |some H'=>simp only[hs,tK]at h;cases h;obtain⟨w',h1,h2,h3,h4⟩:=avQ (P:=P) hw hs he (hr x (by simp[Op.operands]) _ hx);simp only[ow,execOp];exact fN.skip (by simp[Instr.storeAt,Instr.sureAddr,hv,h1]) h2 (h4 m) h3
  ·cases h
 case mapUpdate t mm k x=>
  unfold zc at h;split at h
  ·rename_i am ak av e1 e2 e3;cases hs:EZ P H t am ak av with
   |none=>simp[hs,tK]at h
   |some H'=>simp only[hs,tK]at h;cases h;obtain⟨w',h1,h2,h3,h4⟩:=adl (P:=P) hw hs (hr mm (by simp[Op.operands]) _ e1) (hr k (by simp[Op.operands]) _ e2) (hr x (by simp[Op.operands]) _ e3);simp only[ow,execOp];exact fN.skip h1 h2 (h4 m) h3
  ·cases h
 case insert t mm k x=>
  unfold zc at h;split at h
  ·rename_i am ak av e1 e2 e3;cases hs:EZ P H t am ak av with
   |none=>simp[hs,tK]at h
   |some H'=>simp only[hs,tK]at h;cases h;obtain⟨w',h1,h2,h3,h4⟩:=adl (P:=P) hw hs (hr mm (by simp[Op.operands]) _ e1) (hr k (by simp[Op.operands]) _ e2) (hr x (by simp[Op.operands]) _ e3);simp only[ow,execOp];exact fN.skip h1 h2 (h4 m) h3
  ·cases h
 case mapEntry t mm k=>
  unfold Hm at h;split at h
  ·rename_i kt elem id key hu e1 e2;obtain⟨e,he,hv⟩:=hr mm (by simp[Op.operands]) _ e1;obtain⟨v,H',rfl,h1⟩:=aka (P:=P) (m:=m) hw hu h he (hr k (by simp[Op.operands]) _ e2);simp only[ow,execOp,hv];exact h1
  ·cases h
 case entryStore t mm s x=>
  unfold Hl at h;split at h
  ·rename_i id k born v e1 e2 e3;obtain⟨e,he,hv⟩:=hr mm (by simp[Op.operands]) _ e1;have hs:=hr s (by simp[Op.operands]) _ e2;simp only[VR]at hs;obtain⟨H',rfl,h1⟩:=akb (P:=P) (m:=m) (t:=t) (k:=k) hw h he (hr x (by simp[Op.operands]) _ e3);simp only[ow,execOp,hv,hs];exact h1
  ·cases h
 case range t x=>obtain⟨v,H',rfl,h1⟩:=alp (P:=P) (m:=m) hw hb hm (fun a ha=>hr x (by simp[Op.operands]) a ha) h;simp only[ow,execOp];exact h1
 case next it sk=>obtain⟨v,H',rfl,h1⟩:=alm (P:=P) (m:=m) (T:=type) hw (fun a ha=>hr it (by simp[Op.operands]) a ha) h;simp only[ow,execOp];exact h1
 case entry it=>obtain⟨v,H',rfl,h1⟩:=alj (P:=P) (m:=m) hw (fun a ha=>hr it (by simp[Op.operands]) a ha) h;simp only[ow,execOp];exact h1
 case panic x=>
  unfold Sc at h;split at h
  ·rename_i t a hx;cases h;have hv:=hr x (by simp[Op.operands]) _ hx;have hv':=hv;obtain⟨va,e,_⟩:=hv';simp only[ow,execOp];exact⟨ev x,by simp[Instr.panic,e],hv⟩
  ·cases h
 case defer c=>
  unfold A5 at h;obtain⟨callee,args,argTypes⟩:=c;cases callee<;>simp only at h<;>try (cases h;done)
  rename_i f;split at h
  ·rename_i fn first j9 l e1 e2
   cases hy:tB fn;case true=>rw[hy]at h;cases h
   rw[hy]at h;simp only[cond_false]at h;cases h;have lH:=yL (hr.nR (l':=args.toList) (fun x hx=>by simp[Op.operands,Call.operands];exact .inr (by simpa using hx))) e2;obtain⟨f',c',hv,_,h1,h2⟩:=hr f (by simp[Op.operands,Call.operands]) _ e1;simp only[ow,execOp];refine⟨{target:=.fn fn c',args:=f'++args.map ev},by simp[resolve,hv,Deferred.ofValue],c',f'++args.map ev,rfl,hy,h2,?_⟩;rw[Array.toList_append];exact h1.wR (by simpa using lH)
  ·cases h
 case call c=>
  unfold Lm at h;obtain⟨callee,args,argTypes⟩:=c;cases callee<;>simp only at h;case value f=>
   unfold Se at h;split at h
   ·rename_i g l e1 e2;have lH:=yL (hr.nR (l':=args.toList) (fun x hx=>by simp[Op.operands,Call.operands];exact .inr (by simpa using hx))) e2;have:=(Kg (P:=P) (m:=m) (base:=base) (H:=H) (Ae:=args.map ev) h (hr f (by simp[Op.operands,Call.operands]) _ e1) (by simpa using lH)).1 w;simpa only[execOp,resolve]using this
   ·cases h
  case invoke r name=>exact alk hw rfl (hr.nR (l':=r::args.toList) (fun x hx=>by simp[Op.operands,Call.operands];simpa using hx)) h
  case builtin b=>
   split at h
   ·rename_i l hl;have lH:=yL (hr.nR (l':=args.toList) (fun x hx=>by simp[Op.operands,Call.operands];simpa using hx)) hl;exact ali rfl hw hb hm (by simpa using lH) h
   ·cases h
end
end Go.Ev
