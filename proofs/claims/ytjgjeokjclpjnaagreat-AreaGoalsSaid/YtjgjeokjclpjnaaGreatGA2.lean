/- Part of a proof of AreaGoals. -/
import Derived.Test.YtjgjeokjclpjnaaGreatGA1
import Derived.Laws.RangeString
set_option linter.all false
set_option linter.unusedSectionVars false
namespace Go.Ev
noncomputable section
section
variable{P:Program}{φ:cn}{ρ:Operand->Option AV}{ev:Operand->Value}
theorem TQ(z n):(kR z n).length=n*z.length:=by
 induction n with
 |zero=>simp[kR]
 |succ n ih=>simp[kR,ih,Nat.succ_mul];omega
theorem amv(z):∀n i,i<n*z.length->(kR z n)[i]? =z[i%z.length]?
 |0,i,h=>by simp at h
 |n+1,i,h=>by
  simp only[kR];by_cases h1:i<z.length
  .rw[List.getElem?_append_left h1,Nat.mod_eq_of_lt h1]
  .have h2:z.length<=i:=by omega
   rw[JN h2,amv z n (i-z.length) (by rw[Nat.succ_mul]at h;omega),<-Nat.mod_eq_sub_mod h2]
theorem amw{z}(h:z.all AV.cY=true):∀n,(kR z n).all AV.cY=true
 |0=>rfl
 |n+1=>by show(z++kR z n).all AV.cY=true;rw[sY,h,amw h n];rfl
theorem TS{z}{zs:Array Value}(hz:br φ z zs.toList)(n):br φ (kR z n) ((Array.range (n*zs.size)).map (zs[· %zs.size]!)).toList:=by
 have hl:z.length=zs.size:=by have:=hz.jh;simpa using this
 refine afs (by simp[TQ,hl]) ?_;intro i a v h1 h2;have hi:i<n*zs.size:=by
  rcases Gk i (n*zs.size)with h|h
  .exact h
  .rw[Bo (by rw[TQ,hl];exact h)]at h1;cases h1
 rw[amv z n i (by rw[hl];exact hi),hl]at h1;have⟨x,h3,h4⟩:=hz.get h1
 have hs:i%zs.size<zs.size:=Nat.mod_lt _ (by rcases JV zs.size with h|h;. rw[h]at hi;simp at hi
                                             .exact h)
 simp only[Array.toList_map,Array.toList_range,sa,List.getElem?_range hi,r9,nX]at h2;subst h2;have:zs[i%zs.size]! =x:=by
  rw[getElem!_pos zs _ hs];have h5:zs[i%zs.size]? =some x:=by simpa using h3
  rw[getElem?_pos zs _ hs]at h5;exact de h5
 rw[this];exact h4
theorem PW{o}(w):(newObj o).run P w=.ok w.heap.size (w.alloc o):=rfl
theorem awW{ρ op ob g}(h:rb P ρ op=some (ob,g))(vs el):ob≠.aA vs el:=by
 have hc:∀{g g':Nat->AV} {cs:LV} {elem:TypeId} {ob:bf},Kr g cs elem=some (ob,g')->ob≠.aA vs el:=by intro g g' cs elem ob h;have⟨_,h⟩:=dj h;cases h;exact λh=>by cases h
 cases op<;>simp only[rb]at h<;>try (cases h;done)
 case alloc e=>unfold aaT at h;split at h<;>first|exact hc h|cases h
 case box e x=>unfold aaU at h;split at h<;>first|exact hc h|cases h
 case buildSlice t len oB=>
  unfold aaW at h;split at h
  .split at h
   .unfold X3 at h;have⟨_,h⟩:=dj h;split at h<;>first|exact hc h|cases h
   .cases h
  .cases h
 case makeMap t r=>unfold aaZ at h;split at h<;>first|(cases h;exact λh=>by cases h)|cases h
 case makeSlice t len cap=>
  unfold SB at h;split at h
  .split at h
   .cases hk:tX cap
    .rw[hk]at h;simp at h;have⟨_,h⟩:=dj h;cases h;exact λh=>by cases h
    .rw[hk]at h;simp at h;have⟨_,h⟩:=dj h;cases h;exact λh=>by cases h
   .cases h
  .cases h
def ae2(P:Program)(φ:cn)(s:Sem Next)(ob:bf)(g:Nat->AV):Prop:=
 ∃(o':Obj) (n:Nat) (f:Nat->Value),(∀w,s.run P w=.ok (.value (f w.heap.size)) (w.alloc o'))/\(∀ψ b,dE φ ψ->OR ψ ob ⟨b,0,n⟩ o')/\
  (∀(ψ:cn) id b,ψ id=some ⟨b,0,n⟩->VR ψ (g id) (f b))/\ob.aR=true
theorem Yd{g g' cs elem ob}(h:Kr g cs elem=some (ob,g')):cs.all AV.cY=true/\ob=.al cs elem/\g'=g:=by have⟨h1,h2⟩:=dj h;cases h2;exact⟨h1,rfl,rfl⟩
theorem Lz{cs vs elem el}(h:br φ cs vs.toList)(h1:cs.all AV.cY=true):∀ψ b,dE φ ψ->OR ψ (.al cs elem) ⟨b,0,vs.size⟩ (.cells vs el (0,0)):=by
 intro ψ b cA;refine⟨vs,el,rfl,rfl,?_,?_,h1⟩
 .have:=h.jh;simp at this⊢;omega
 .have hl:=h.jh;simp;rw[hl,s6];exact br.kW cA _ _ h
theorem afU(ψ id b n)(h:ψ id=some ⟨b,0,n⟩):VR ψ (XL id) (.pointer (some ⟨b,0,none⟩)):=by exact⟨_,h,rfl⟩
theorem afZ(ψ id b n len cap sz)(h:ψ id=some ⟨b,0,n⟩)(hn:n=cap*sz)(hl:len<=cap):VR ψ (Hz len cap sz id) (.slice (some ⟨b,0,none⟩) len cap):=by exact⟨_,0,cap,h,rfl,.inr rfl,hl,λ_=>rfl,by simp[hn]⟩
theorem Ii{s v w w'}(h:s.run P w=.ok v w'):(do pure (.value (<-s)):Sem Next).run P w=.ok (.value v) w':=by simp[h]
theorem J0(f:Nat->Value):(Array.range 0).map f= #[]:=by
 apply Array.ext
 .simp
 .intro i h1 h2;simp at h2
theorem akV{o ob g}(hr:n_ φ ρ ev o.op.operands.toList)(h:rb P ρ o.op=some (ob,g)):ae2 P φ (execOp ev o) ob g:=by
 cases o with
 |mk dst op type pos after guard=>
 simp only at hr h;cases op<;>simp only[rb]at h<;>try (cases h;done)
 case alloc e=>
  unfold aaT at h;split at h;next z hz=>obtain⟨vz,h1,h2⟩:=Ag (φ:=φ) hz;obtain⟨h3,rfl,rfl⟩:=Yd h;refine⟨.cells vz.cells e (0,0),vz.cells.size,λb=>.pointer (some ⟨b,0,none⟩),λw=>?_,Lz (AV.tv h1) h3,λψ id b hh=>afU ψ id b _ hh,rfl⟩;simp only[execOp];refine Ii ?_;simp[Instr.alloc,h2 w,newVar,newRow]
  .cases h
 case box e x=>
  unfold aaU at h;split at h;next a ha=>obtain⟨h3,rfl,rfl⟩:=Yd h;have h1:=hr x (by simp[Op.operands]) _ ha;refine⟨.cells (ev x).cells e (0,0),(ev x).cells.size,λb=>.pointer (some ⟨b,0,none⟩),λw=>?_,Lz (AV.tv h1) h3,λψ id b hh=>afU ψ id b _ hh,rfl⟩;simp only[execOp];refine Ii ?_;simp[Instr.box,newVar,newRow]
  .cases h
 case buildSlice t len oB=>
  unfold aaW at h;split at h;next elem ps hu hp=>
   split at h;next s z hs hz=>
    obtain⟨vz,h1,h2⟩:=Ag (φ:=φ) hz;unfold X3 at h;obtain⟨hb,h⟩:=dj h;simp only[dc,vl]at hb;obtain⟨mQ,iQ⟩:=hb;have zr:z.dQ.length=s:=dw iQ;split at h;next cs hf=>
     obtain⟨h3,rfl,rfl⟩:=Yd h;have kz:=AV.tv h1;have ox:vz.cells.size=s:=by have:=kz.jh;simp at this;omega
     have FK:=P0 (hr.pQ (λx hx=>by simpa[Op.operands]using hx)) hp;obtain⟨r',h4,h5⟩:=Ra FK (TS kz len) hf;have bS:cs.length=len*s:=by
      have:∀(ps:List (Nat×AV)) (c c':LV),AM (λi=>some (i*s,s)) c ps=some c'->c'.length=c.length:=by
       intro ps;induction ps with
       |nil=>intro c c' h;simp only[AM]at h;cases h;rfl
       |cons p ps ih=>
        intro c c' h;obtain⟨i,v⟩:=p;simp only[AM]at h;obtain⟨_,h⟩:=dj h;split at h
        .cases h
        next c1 MN=>obtain⟨cA,rfl⟩:=TB MN;rw[ih _ _ h];simp;omega
      rw[this _ _ _ hf,TQ,zr]
     have A8:r'.size=len*s:=by have:=h5.jh;simp at this;omega
     refine⟨.cells r' elem (0,0),r'.size,λb=>.slice (some ⟨b,0,none⟩) len len,λw=>?_,Lz h5 h3,λψ id b hh=>afZ ψ id b _ len len s hh A8 (cE _),rfl⟩;simp only[execOp];refine Ii ?_;have cA:¬(len*s>2^24):=by omega
     have ME:Instr.fill (λi=>some (i*s,s)) ((Array.range (len*s)).map (λx=>(if len*s=0 then #[]else vz.cells)[x%(if len*s=0 then #[]else vz.cells).size]!)) (oB.map λx=>(x.1,ev x.2)).toList=some r':=by
      rw[ox]at h4;by_cases h0:len*s=0
      .simp only[h0,if_true]at h4⊢;rw[J0]at h4⊢;simpa using h4
      .simp only[h0,if_false];rw[ox];simpa using h4
     by_cases h0:len*s=0
     .simp only[h0,if_true]at ME;rw[J0]at ME;simp only[Instr.buildSlice,Sem.run_bind,run_underlying hu w,Result.andThen_ok,jI hs w,az cA,aL h0,Sem.run_pure];simp only[h0,J0,ME,newRow,Sem.run_bind,PW,Result.andThen_ok,Sem.run_pure]
     .simp only[h0,if_false]at ME;simp only[Instr.buildSlice,Sem.run_bind,run_underlying hu w,Result.andThen_ok,jI hs w,az cA,az h0,h2 w,Sem.run_pure,ME,newRow,PW]
    .cases h
   .cases h
  .cases h
 case makeMap t r=>
  unfold aaZ at h;have key:∀e:TypeId×TypeId,P.underlying t=some (.map e.1 e.2)->(r.map ev=none\/∃k n,r.map ev=some (.int k n))->∀p,ob=.aY [] 0 p/\g=.aB->ae2 P φ (execOp ev {dst,op:=.makeMap t r,type,pos,after,guard}) ob g:=by
   intro e hu hv p ⟨h1,h2⟩;subst h1 h2;refine⟨.map #[] 0,0,λb=>.map (some b),λw=>?_,λψ b _=>⟨#[],rfl,by simp[dP],λ_=>by simp[dP]⟩,λψ id b hh=>by simp only[VR];exact⟨_,hh,rfl⟩,rfl⟩;simp only[execOp];refine Ii ?_;rcases hv with hv|⟨k,n,hv⟩
   .simp[Instr.makeMap,hv]
   .simp[Instr.makeMap,hv,run_underlying hu w,asInt,asIntOf]
  split at h;next a b hu A8=>
   cases h;rcases NI (hr.pQ (λy hy=>by cases r<;>simp at hy;subst hy;simp[Op.operands])) A8 with⟨_,h⟩|⟨_,_,e,_⟩
   .exact key (a,b) hu (.inl h) _ ⟨rfl,rfl⟩
   .cases e
  next a b k n hu A8=>
   cases h;rcases NI (hr.pQ (λy hy=>by cases r<;>simp at hy;subst hy;simp[Op.operands])) A8 with⟨e,_⟩|⟨x,v,e,hv,hx⟩
   .cases e
   .cases e;simp only[VR]at hx;exact key (a,b) hu (.inr ⟨k,n,by rw[hv,hx]⟩) _ ⟨rfl,rfl⟩
  .cases h
 case makeSlice t len cap=>
  unfold SB at h;split at h;next elem l c hu hl hc=>
   have MK:=hr len (by simp[Op.operands]) _ hl;have uR:=hr cap (by simp[Op.operands]) _ hc;simp only[VR]at MK uR;split at h;next s z gB hs hz jl=>
    obtain⟨vz,h1,h2⟩:=Ag (φ:=φ) hz;obtain⟨b1,b2,b3,b4,b5,b6,hg,eU⟩:l<=c/\c<=4194304/\gB<=4194304/\s<=4194304/\Nat.beq z.dQ.length s=true/\z.dQ.all AV.cY=true/\g=Hz l c s/\
     (ob=.al (kR z.dQ c) elem\/(ob=acA z.dQ c elem/\z.dQ.all eR=true)):=by
     cases hk:tX cap
     .rw[hk]at h;unfold abj at h;obtain⟨hb,h⟩:=dj h;simp only[dc,vl]at hb;obtain⟨⟨⟨⟨⟨⟨b1,b2⟩,b3⟩,b4⟩,b5⟩,b6⟩,b7⟩:=hb;simp only[nX,JW]at h;exact⟨b1,b2,b3,b4,b5,b6,h.2.symm,.inr ⟨h.1.symm,b7⟩⟩
     .rw[hk]at h;unfold akW at h;obtain⟨hb,h⟩:=dj h;simp only[dc,vl]at hb;obtain⟨⟨⟨⟨⟨b1,b2⟩,b3⟩,b4⟩,b5⟩,b6⟩:=hb;simp only[nX,JW]at h;exact⟨b1,b2,b3,b4,b5,b6,h.2.symm,.inl h.1.symm⟩
    have zr:=dw b5;have h3:=amw b6 c;subst hg;have kz:=AV.tv h1;have ox:vz.cells.size=s:=by have:=kz.jh;simp at this;omega
    have h5:=TS kz c;rw[ox]at h5;refine⟨.cells ((Array.range (c*s)).map (vz.cells[· %s]!)) elem (0,0),c*s,λb=>.slice (some ⟨b,0,none⟩) l c,λw=>?_,?_,λψ id b hh=>afZ ψ id b _ l c s hh rfl b1,by rcases eU with rfl|⟨rfl,_⟩<;>rfl⟩
    .simp;refine Ii ?_;have⟨ti,FQ,MV⟩:=X9 jl w;have hwl:IntKind.i64.wrap (l:Int)=l:=IntWalk.i64_in _ (by omega);have pn:IntKind.i64.wrap (c:Int)=c:=IntWalk.i64_in _ (by omega);have aai:(gB:Int)*c<=2^48:=by
      have:=Nat.mul_le_mul b3 b2;have h':((gB*c:Nat):Int)<=((4194304*4194304:Nat):Int):=by exact_mod_cast this
      simp at h';omega
     have t1:¬((c:Int)<0\/ti.bytes*(c:Int)>2^48):=by rw[MV];omega
     have t4:¬(((((c:Int)<0)\/281474976710656<(ti.bytes:Int)*(c:Int))\/(l:Int)<0)\/c<l):=by omega
     by_cases h0:c*s=0
     .simp[Instr.makeSlice,run_underlying hu w,MK,uR,asInt,asIntOf,FQ,hwl,pn,jI hs w,h0,newRow];rw[az t4,J0,J0]
     .simp[Instr.makeSlice,run_underlying hu w,MK,uR,asInt,asIntOf,FQ,hwl,pn,jI hs w,h0,newRow];rw[az t4];simp[h2 w,ox]
    .have:=Lz (el:=elem) (elem:=elem) h5 h3;intro ψ b cA;rcases eU with rfl|⟨rfl,hp⟩
     .simpa using this ψ b cA
     .have avK:=br.xg (ψ:=φ.pu) _ _ (by rw[wF];exact hp) kz;have h50:=TS avK c;rw[ox]at h50;have:=Lz (el:=elem) (elem:=elem) h50 h3 φ.pu b (dE.refl _);have h51:OR φ.pu (.al (kR z.dQ c) elem) ⟨b,0,c*s⟩ (.cells ((Array.range (c*s)).map (vz.cells[· %s]!)) elem (0,0)):=by simpa using this
      exact ae4 cA h51
   .cases h
  .cases h
end
section
variable{φ:cn}{base:fN}{H:AH}{w:World}
@[simp] theorem oV (H:AH) (id iq:Nat) (o:bf):(H.cV id o).bc iq=if iq=id then some o else H.bc iq:=by cases H;simp[AH.cV,AH.bc,Tr.kM]
@[simp] theorem nW (H:AH) (id:Nat) (o:bf):(H.cV id o).bx=H.bx:=by cases H;rfl
@[simp] theorem ml (H:AH) (iq:Nat) (o:bf):(H.eN o).bc iq=if iq=H.bx then some o else H.bc iq:=by cases H;simp[AH.eN,AH.bc,Tr.kM]
@[simp] theorem rU (H:AH) (o:bf):(H.eN o).bx=H.bx+1:=by cases H;rfl
@[simp] theorem yz (H:AH) (id:Nat) (o:bf):(H.cV id o).x=H.x:=by cases H;rfl
@[simp] theorem Ae (H:AH) (o:bf):(H.eN o).x=H.x:=by cases H;rfl
theorem dP.GZ{φ ψ}(h:dE φ ψ):∀{es ms},dP φ es ms->dP ψ es ms
 |[],_,h1=>by simpa[dP]using h1
 |(k,v,b)::es,_,h1=>by obtain⟨m,ms,rfl,h2,h3,h4,h5⟩:=h1;exact⟨m,ms,rfl,VR.ez h _ _ h2,VR.ez h _ _ h3,h4,dP.GZ h h5⟩
theorem DR.mono{φ ψ}(h:dE φ ψ){a d}(h1:DR φ a d):DR ψ a d:=by
 cases a with
 |vu fn cap args=>have⟨c',a',e,hy,h2,h3⟩:=h1;exact⟨c',a',e,hy,br.kW h _ _ h2,br.kW h _ _ h3⟩
 |oH r=>have⟨e,h2,h3⟩:=h1;exact⟨e,h _ _ h2,h3⟩
theorem pU.GY{φ ψ}(h:dE φ ψ):∀{as ds},pU φ as ds->pU ψ as ds
 |[],_,h1=>by simpa[pU]using h1
 |a::as,_,h1=>by obtain⟨d,ds,rfl,h2,h3⟩:=h1;exact⟨d,ds,rfl,h2.mono h,pU.GY h h3⟩
theorem TR.mono{φ ψ}(h:dE φ ψ){t nt tmps}(h1:TR φ t nt tmps):TR ψ t nt tmps:=
 ⟨h1.1,λi a hi=>let⟨v,h2,h3⟩:=h1.2 i a hi;⟨v,h2,VR.ez h _ _ h3⟩⟩
theorem OR.tg{φ ψ}(h:dE φ ψ){ob e o}(h1:OR φ ob e o):OR ψ ob e o:=by
 cases ob with
 |al vs elem=>obtain⟨cs,el,rfl,h2,h3,h4,h5⟩:=h1;exact⟨cs,el,rfl,h2,h3,br.kW h _ _ h4,h5⟩
 |aY es clock p=>obtain⟨bJ,rfl,h2,h3⟩:=h1;exact⟨bJ,rfl,h2.GZ h,λhp=>(h3 hp).GZ h.pu⟩
 |dU vs elem=>obtain⟨cs,el,rfl,h2,h3,h4,h5⟩:=h1;exact⟨cs,el,rfl,h2,h3,br.kW h.pu _ _ h4,h5⟩
 |aA vs elem=>obtain⟨cs,el,rfl,h2,h3,h4,h5⟩:=h1;exact⟨cs,el,rfl,h2,h3,br.kW h.pu _ _ h4,h5⟩
 |uk s pos=>exact h1
 |jg m since bK DW=>
  obtain⟨m',rfl,h0,h2⟩:=h1;refine⟨m',rfl,h0,?_⟩;cases m with
  |none=>exact h2
  |some id=>have⟨e,h3,h4⟩:=h2;exact⟨e,h _ _ h3,h4⟩
 |hQ st p fn tmps nt ps a b d=>obtain⟨o5,ed,rfl,h2,h3⟩:=h1;exact⟨o5,ed,rfl,h _ _ h2,h3.mono h⟩
 |pP ds=>
  cases ds with
  |none=>exact h1
  |some l=>obtain⟨l',rfl,h2⟩:=h1;exact⟨l',rfl,h2.GY h⟩
 |bm vs=>trivial
def NoX(H:AH)(φ ψ:cn):Prop:=H.x=none->∀n e,ψ.xs n=some e->φ.xs n=some e
def nB(φ:cn)(H:AH)(ψ:cn)(H':AH):Prop:=(H'.x=none↔H.x=none)/\NoX H' φ ψ
theorem nB.refl(φ H):nB φ H φ H:=⟨Iff.rfl,λ_ _ _ h=>h⟩
theorem nB.of{φ ψ H H'}(h:H'.x=H.x)(hx:ψ.xs=φ.xs):nB φ H ψ H':=⟨by rw[h],λ_ n e h1=>by rw[hx]at h1;exact h1⟩
theorem nB.qB{φ ψ χ H H' KE}(h:nB φ H ψ H')(h':nB ψ H' χ KE):nB φ H χ KE:=
 ⟨h'.1.trans h.1,λhx n e h1=>h.2 (h'.1.1 hx) n e (h'.2 hx n e h1)⟩
def cI(m:Nat)(φ:cn)(H:AH)(ψ:cn)(H':AH):Prop:=
 dE φ ψ/\H.bx<=H'.bx/\(∀id,id<m->φ id=none->ψ id=none/\(H'.bc id=H.bc id\/∃vs el,H.bc id=some (.aA vs el)))/\nB φ H ψ H'
theorem cI.jX(m φ H):cI m φ H φ H:=⟨dE.refl φ,cE _,λ_ _ h=>⟨h,.inl rfl⟩,nB.refl φ H⟩
theorem cI.uB{m φ ψ χ H H' KE}(h:cI m φ H ψ H')(h':cI m ψ H' χ KE):cI m φ H χ KE:=
 ⟨h.1.Ko h'.1,kQ h.2.1 h'.2.1,λid hm hn=>by
   have⟨h1,h2⟩:=h.2.2.1 id hm hn;have⟨h3,h4⟩:=h'.2.2.1 id hm h1;refine⟨h3,?_⟩;rcases h2 with h2|h2
   .rw[h2]at h4;exact h4
   .exact .inr h2,h.2.2.2.qB h'.2.2.2⟩
theorem cI.mono{m n φ ψ H H'}(h:cI n φ H ψ H')(hm:m<=n):cI m φ H ψ H':=
 ⟨h.1,h.2.1,λid hi hn=>h.2.2.1 id (JX hi hm) hn,h.2.2.2⟩
def vJ(w w':World):Prop:=w'.os=w.os/\w'.tape=w.tape/\w'.output=w.output
theorem vJ.refl(w):vJ w w:=⟨rfl,rfl,rfl⟩
theorem vJ.trans{w w' OT}(h:vJ w w')(h':vJ w' OT):vJ w OT:=⟨h'.1.trans h.1,h'.2.1.trans h.2.1,h'.2.2.trans h.2.2⟩
def cZ(base:fN)(w w':World):Prop:=w.heap.size<=w'.heap.size/\(∀b,base b->w'.heap[b]? =w.heap[b]?)/\vJ w w'
theorem cZ.kr(base w):cZ base w w:=⟨cE _,λ_ _=>rfl,vJ.refl w⟩
theorem cZ.tf{base w w' OT}(h:cZ base w w')(h':cZ base w' OT):cZ base w OT:=
 ⟨kQ h.1 h'.1,λb hb=>(h'.2.1 b hb).trans (h.2.1 b hb),h.2.2.trans h'.2.2⟩
theorem Xy(w:World)(o):(w.alloc o).heap.size=w.heap.size+1:=by simp
theorem afC(w:World)(o){b}(h:b<w.heap.size):(w.alloc o).heap[b]? =w.heap[b]? :=by show(w.heap.push o)[b]? =_;simp[Array.getElem?_push,Nat.ne_of_lt h]
theorem aqb(w:World)(o):(w.alloc o).heap[w.heap.size]? =some o:=by show(w.heap.push o)[w.heap.size]? =_;simp
def jv(φ:cn)(id:Nat)(e:PE):cn:=⟨λi=>if i=id then some e else φ i,φ.ro,φ.xs⟩
theorem BU(φ id e i):jv φ id e i=if i=id then some e else φ i:=rfl
theorem mL(φ id e):jv φ id e id=some e:=by simp[jv]
theorem Lv{φ id e}(h:φ id=none):dE φ (jv φ id e):=by
 refine⟨λi e' hi=>?_,λ_ _ h=>h,λ_ _ h=>h⟩;by_cases zk:i=id
 .subst zk;rw[h]at hi;cases hi
 .simp[jv,zk,hi]
theorem WR.y8(hw:WR φ base H w){id}(h:H.bx<=id):φ id=none:=by
 cases he:φ id with
 |none=>rfl
 |some e=>have:=(hw.lt id e he).2.2;omega
theorem WR.af5(hw:WR φ base H w){id n ob o'}(dv:φ id=none)(ho:H.bc id=some ob)(hb:iv base w)(tS:∀ψ b,dE φ ψ->OR ψ ob ⟨b,0,n⟩ o'):
 WR (jv φ id ⟨w.heap.size,0,n⟩) base H (w.alloc o'):=by
 have cx:(w.alloc o').heap.size=w.heap.size+1:=Xy _ _;have nP:∀b,b<w.heap.size->(w.alloc o').heap[b]? =w.heap[b]? :=λb hb=>afC _ _ hb
 have FI:(w.alloc o').heap[w.heap.size]? =some o':=aqb _ _;have cA:=Lv (e:=⟨w.heap.size,0,n⟩) dv;refine⟨?_,?_,?_,hw.nx,hw.s8 rfl rfl rfl (λb h=>nP _ (hw.akb h)) λi bE e h1 l1 h2=>?_⟩
 .intro i bE e h1 h2;by_cases hi:i=id
  .subst hi;rw[mL]at h2;cases h2;rw[ho]at h1;cases h1;exact⟨o',FI,tS _ _ cA⟩
  .simp only[jv,az hi]at h2;have⟨o,h3,h4⟩:=hw.eI i bE e h1 h2;exact⟨o,by rw[nP _ (hw.lt i e h2).1];exact h3,h4.tg cA⟩
 .intro i i' dn ie e e' h1 l1 h2 h3 l2 h4 he;by_cases hi:i=id<;>by_cases eD:i'=id
  .rw[hi,eD]
  .simp only[jv,az eD]at h4;subst hi;rw[mL]at h2;cases h2;have:=(hw.lt i' e' h4).1;simp only at he;omega
  .simp only[jv,az hi]at h2;subst eD;rw[mL]at h4;cases h4;have:=(hw.lt i e h2).1;simp only at he;omega
  .simp only[jv,az hi]at h2;simp only[jv,az eD]at h4;exact hw.ji i i' dn ie e e' h1 l1 h2 h3 l2 h4 he
 .intro i e h2;by_cases hi:i=id
  .subst hi;rw[mL]at h2;cases h2;exact⟨by rw[cx];exact lA _,λh=>Nat.lt_irrefl _ (hb _ h),hw.nx _ _ ho⟩
  .simp only[jv,az hi]at h2;have:=hw.lt i e h2;exact⟨by rw[cx];omega,this.2⟩
 .by_cases hi:i=id
  .subst hi;rw[mL]at h2;cases h2;exact .inr (cE _)
  .simp only[jv,az hi]at h2;exact .inl ⟨i,bE,e,h1,l1,h2,rfl⟩
theorem WR.new(hw:WR φ base H w)(ob):WR φ base (H.eN ob) w:=by
 have hf:=hw.y8 (cE H.bx);have cK:∀{id e},φ id=some e->id≠H.bx:=λh e=>by rw[e,hf]at h;cases h
 refine⟨?_,?_,?_,?_,hw.s8 rfl rfl (Ae H ob) (λ_ _=>rfl) λi bE e h1 l1 h2=>.inl ⟨i,bE,e,by rw[ml,az (cK h2)]at h1;exact h1,l1,h2,rfl⟩⟩
 .intro i bE e h1 h2;rw[ml,az (cK h2)]at h1;exact hw.eI i bE e h1 h2
 .intro i i' dn ie e e' h1 l1 h2 h3 l2 h4 he;rw[ml,az (cK h2)]at h1;rw[ml,az (cK h4)]at h3;exact hw.ji i i' dn ie e e' h1 l1 h2 h3 l2 h4 he
 .intro i e h;have:=hw.lt i e h;exact⟨this.1,this.2.1,by rw[rU];omega⟩
 .intro i bE h;rw[ml]at h;rw[rU];split at h
  .omega
  .have:=hw.nx _ _ h;omega
theorem cI.new{m}(hm:m<=H.bx)(ob):cI m φ H φ (H.eN ob):=
 ⟨dE.refl φ,by rw[rU];omega,λid hi hn=>⟨hn,.inl (by rw[ml,az (by omega)])⟩,.of (Ae _ _) rfl⟩
theorem cZ.alloc{base w}(hb:iv base w)(o):cZ base w (w.alloc o):=
 ⟨by rw[Xy];omega,λb h=>afC _ _ (hb b h),rfl,rfl,rfl⟩
theorem WR.put(hw:WR φ base H w){id ob bE e w'}(ho:H.bc id=some ob)(hl:ob.aR=true)(he:φ id=some e)(cx:w'.heap.size=w.heap.size)(wi:∀b,b≠e.b->w'.heap[b]? =w.heap[b]?)(FI:∃o',w'.heap[e.b]? =some o'/\OR φ bE e o'):WR φ base (H.cV id bE) w':=by
 refine⟨?_,?_,?_,?_,hw.s8 rfl rfl (yz H id bE) (λb h=>wi b (λhb=>hw.aaP h ho hl he hb.symm)) λi dn e1 h1 l1 h2=>.inl ?_⟩
 .intro i dn e1 h1 h2;rw[oV]at h1;by_cases hi:i=id
  .subst hi;rw[aL rfl]at h1;cases h1;rw[he]at h2;cases h2;exact FI
  .rw[az hi]at h1;by_cases mS:dn.aR=true
   .have⟨o,h3,h4⟩:=hw.eI i dn e1 h1 h2;have hb:=λh=>hi (hw.ji i id dn ob e1 e h1 mS h2 ho hl he h)
    exact⟨o,by rw[wi _ hb];exact h3,h4⟩
   .cases dn<;>simp[bf.aR]at mS;have h5:=(hw.lt i e1 h2).1;refine⟨w'.heap[e1.b]'(by rw[cx];exact h5),by simp[cx,h5],trivial⟩
 .intro i i' dn ie e1 e2 h1 l1 h2 h3 l2 h4 hb;rw[oV]at h1 h3;by_cases hi:i=id<;>by_cases eD:i'=id
  .rw[hi,eD]
  .subst hi;rw[az eD]at h3;exact hw.ji i i' ob ie e1 e2 ho hl h2 h3 l2 h4 hb
  .subst eD;rw[az hi]at h1;exact hw.ji i i' dn ob e1 e2 h1 l1 h2 ho hl h4 hb
  .rw[az hi]at h1;rw[az eD]at h3;exact hw.ji i i' dn ie e1 e2 h1 l1 h2 h3 l2 h4 hb
 .intro i e1 h;have:=hw.lt i e1 h;exact⟨by rw[cx];exact this.1,this.2.1,by rw[nW];exact this.2.2⟩
 .intro i dn h;rw[oV]at h;rw[nW];split at h;next e=>subst e;exact hw.nx _ _ ho
  .exact hw.nx _ _ h
 .rw[oV]at h1;by_cases hi:i=id
  .subst hi;rw[he]at h2;cases h2;exact⟨i,ob,e,ho,hl,he,rfl⟩
  .rw[az hi]at h1;exact⟨i,dn,e1,h1,l1,h2,rfl⟩
theorem cI.o8{m id e}(he:φ id=some e)(ob):cI m φ H φ (H.cV id ob):=
 ⟨dE.refl φ,by rw[nW];omega,λi _ hn=>⟨hn,.inl (by rw[oV,az (λh=>by subst h;rw[he]at hn;cases hn)])⟩,.of (yz _ _ _) rfl⟩
theorem cI.aA{m id vs el}(ho:H.bc id=some (.aA vs el))(ob):cI m φ H φ (H.cV id ob):=
 ⟨dE.refl φ,by rw[nW];omega,λi _ hn=>⟨hn,by
   by_cases hi:i=id
   .subst hi;exact .inr ⟨vs,el,ho⟩
   .exact .inl (by rw[oV,az hi])⟩,.of (yz _ _ _) rfl⟩
theorem cZ.NB(hw:WR φ base H w){id e w'}(he:φ id=some e)(cx:w'.heap.size=w.heap.size)(wi:∀b,b≠e.b->w'.heap[b]? =w.heap[b]?)(hs:vJ w w':=by exact⟨rfl,rfl,rfl⟩):cZ base w w':=
 ⟨by omega,λb hb=>wi b (λh=>(hw.lt id e he).2.1 (h▸hb)),hs⟩
theorem WR.sj(hw:WR φ base H w){w'}(h:w'.heap=w.heap):WR φ base H w':=
 ⟨λi ob e h1 h2=>by rw[h];exact hw.eI i ob e h1 h2,hw.ji,λi e h1=>by rw[h];exact hw.lt i e h1,hw.nx,hw.s8 rfl rfl rfl (λb _=>by rw[h]) λid ob e h1 l1 h2=>.inl ⟨id,ob,e,h1,l1,h2,rfl⟩⟩
theorem cZ.sj{w'}(h:w'.heap=w.heap)(hs:vJ w w':=by exact⟨rfl,rfl,rfl⟩):cZ base w w':=⟨by rw[h];exact cE _,λb _=>by rw[h],hs⟩
theorem WR.zu(hw:WR φ base H w){id ob vs}(ho:H.bc id=some ob):WR φ base (H.cV id (.bm vs)) w:=by
 refine⟨?_,?_,?_,?_,hw.s8 rfl rfl (yz H id _) (λ_ _=>rfl) λi dn e1 h1 l1 h2=>.inl ?_⟩
 .intro i dn e1 h1 h2;rw[oV]at h1;by_cases hi:i=id
  .subst hi;rw[aL rfl]at h1;cases h1;have h5:=(hw.lt i e1 h2).1;exact⟨w.heap[e1.b],by simp[h5],trivial⟩
  .rw[az hi]at h1;exact hw.eI i dn e1 h1 h2
 .intro i i' dn ie e1 e2 h1 l1 h2 h3 l2 h4 hb;rw[oV]at h1 h3;by_cases hi:i=id
  .subst hi;rw[aL rfl]at h1;cases h1;simp[bf.aR]at l1
  .by_cases eD:i'=id
   .subst eD;rw[aL rfl]at h3;cases h3;simp[bf.aR]at l2
   .rw[az hi]at h1;rw[az eD]at h3;exact hw.ji i i' dn ie e1 e2 h1 l1 h2 h3 l2 h4 hb
 .intro i e1 h;have:=hw.lt i e1 h;exact⟨this.1,this.2.1,by rw[nW];exact this.2.2⟩
 .intro i dn h;rw[oV]at h;rw[nW];split at h;next e=>subst e;exact hw.nx _ _ ho
  .exact hw.nx _ _ h
 .rw[oV]at h1;by_cases hi:i=id
  .subst hi;rw[aL rfl]at h1;cases h1;simp[bf.aR]at l1
  .rw[az hi]at h1;exact⟨i,dn,e1,h1,l1,h2,rfl⟩
theorem py(H:AH)(n i o):(H.n9 n o).bc i=H.bc i:=by have⟨h,k,x⟩:=H;cases x<;>rfl
theorem Ds(H:AH)(n o):(H.n9 n o).bx=H.bx:=by have⟨h,k,x⟩:=H;cases x<;>rfl
theorem Va(H:AH)(n i){o}(h:(H.n9 n none).gT i=some o):H.gT i=some o/\i≠n:=by
 have⟨a,k,x⟩:=H;cases x with
 |none=>cases h
 |some X=>
  have h:(bif Nat.beq i n then none else X.g i)=some o:=h;rw[Tr.ua,Tr.BT]at h;split at h
  .cases h
  .exact⟨h,by assumption⟩
theorem aoS(H:AH)(n o):((H.n9 n o).x=none↔H.x=none):=by have⟨h,k,x⟩:=H;cases x<;>simp[AH.n9]
theorem aoT{H:AH}{n o X}(h:(H.n9 n o).x=some X):∃X0,H.x=some X0/\X.n=X0.n:=by
 have⟨a,k,x⟩:=H;cases x with
 |none=>cases h
 |some X0=>cases h;exact⟨X0,rfl,rfl⟩
theorem WR.aGy(hw:WR φ base H w)(n):WR φ base (H.n9 n none) w:=by
 refine⟨λi ob e h1 h2=>hw.eI i ob e (by rw[py]at h1;exact h1) h2,λi i' ob bE e e' h1 l1 h2 h3 l2 h4 hb=>hw.ji i i' ob bE e e' (by rw[py]at h1;exact h1) l1 h2 (by rw[py]at h3;exact h3) l2 h4 hb,
  λi e h=>by rw[Ds];exact hw.lt i e h,λi ob h=>by rw[py]at h;rw[Ds];exact hw.nx i ob h,⟨λb o h=>?_,λi ob h=>?_,λi i' ob bE e e' h1 h2 h3 h4 hb=>?_,λX h i e h1=>?_⟩⟩
 .exact⟨(hw.ro b o h).1,λid ob e h1=>(hw.ro b o h).2 id ob e (by rw[py]at h1;exact h1)⟩
 .have⟨h1,_⟩:=Va H n i h;have⟨e,o,q1,q2,q3,q4,q5⟩:=hw.wx.xo i ob h1;exact⟨e,o,q1,q2,q3,q4,λid dn e1 h2=>q5 id dn e1 (by rw[py]at h2;exact h2)⟩
 .exact hw.wx.xi i i' ob bE e e' (Va H n i h1).1 (Va H n i' h2).1 h3 h4 hb
 .have⟨X0,h2,h3⟩:=aoT h;rw[h3];exact hw.wx.xl X0 h2 i e h1
theorem WR.import(hw:WR φ base H w){n ob e}(ho:H.gT n=some ob)(he:φ.xs n=some e)(hm:∀{o},OR φ.pu ob e o->OR φ ob e o){m}(hmn:m<=H.bx):
 WR (jv φ H.bx e) base ((H.n9 n none).eN ob) w/\cI m φ H (jv φ H.bx e) ((H.n9 n none).eN ob):=by
 have ll:=hw.aGy n;have hf:=hw.y8 (cE H.bx);have cA:=Lv (e:=e) hf;have⟨e',o,q1,q2,q3,q4,q5⟩:=hw.wx.xo n ob ho;rw[he]at q1;cases q1;have wh:(H.n9 n none).bx=H.bx:=Ds _ _ _;refine⟨⟨λi dn e1 h1 h2=>?_,λi i' dn ie e1 e2 h1 l1 h2 h3 l2 h4 hb=>?_,λi e1 h=>?_,λi dn h=>?_,⟨λb o' h=>?_,λi dn h=>?_,λi i' dn ie e1 e2 h1 h2 h3 h4 hb=>?_,λX h i e1 h1=>?_⟩⟩,
  cA,by rw[rU,wh];omega,λi hi hn=>⟨by rw[BU,az (by omega)];exact hn,.inl (by rw[ml,wh,az (by omega),py])⟩,?_⟩
 .rw[ml,wh]at h1;rw[BU]at h2;by_cases hi:i=H.bx
  .rw[aL hi]at h1 h2;cases h1;cases h2;exact⟨o,q2.2,(hm q3).tg cA⟩
  .rw[az hi]at h1 h2;have⟨o1,h3,h4⟩:=ll.eI i dn e1 h1 h2;exact⟨o1,h3,h4.tg cA⟩
 .rw[ml,wh]at h1 h3;rw[BU]at h2 h4;by_cases hi:i=H.bx<;>by_cases eD:i'=H.bx
  .rw[hi,eD]
  .rw[aL hi]at h1 h2;cases h1;cases h2;rw[az eD]at h3 h4;rw[py]at h3;exact absurd hb.symm (q5 i' ie e2 h3 l2 h4)
  .rw[aL eD]at h3 h4;cases h3;cases h4;rw[az hi]at h1 h2;rw[py]at h1;exact absurd hb (q5 i dn e1 h1 l1 h2)
  .rw[az hi]at h1 h2;rw[az eD]at h3 h4;exact ll.ji i i' dn ie e1 e2 h1 l1 h2 h3 l2 h4 hb
 .rw[rU,wh];rw[BU]at h;by_cases hi:i=H.bx
  .rw[aL hi]at h;cases h;exact⟨(NS.1 q2.2).1,q2.1,by omega⟩
  .rw[az hi]at h;have:=hw.lt i e1 h;exact⟨this.1,this.2.1,by omega⟩
 .rw[ml,wh]at h;rw[rU,wh];by_cases hi:i=H.bx
  .omega
  .rw[az hi]at h;have:=ll.nx i dn h;rw[wh]at this;omega
 .have h:φ.ro b=some o':=h;refine⟨(hw.ro b o' h).1,λid dn e1 h1 l1 h2=>?_⟩;rw[ml,wh]at h1;rw[BU]at h2;by_cases hi:id=H.bx
  .rw[aL hi]at h2;cases h2;intro hb;rw[hb,h]at q4;cases q4
  .rw[az hi]at h1 h2;rw[py]at h1;exact(hw.ro b o' h).2 id dn e1 h1 l1 h2
 .rw[ux (Ae _ _)]at h;have⟨h1,cK⟩:=Va H n i h;have⟨e1,o1,r1,r2,r3,r4,r5⟩:=hw.wx.xo i dn h1;refine⟨e1,o1,r1,r2,r3,r4,λid ie e2 h2 l2 h3=>?_⟩;rw[ml,wh]at h2;rw[BU]at h3;by_cases hi:id=H.bx
  .rw[aL hi]at h3;cases h3;exact λhb=>cK (hw.wx.xi i n dn ob e1 _ h1 ho r1 he hb.symm)
  .rw[az hi]at h2 h3;rw[py]at h2;exact r5 id ie e2 h2 l2 h3
 .rw[ux (Ae _ _)]at h1 h2;exact ll.wx.xi i i' dn ie e1 e2 h1 h2 h3 h4 hb
 .rw[Ae]at h;exact ll.wx.xl X h i e1 h1
 .refine⟨by rw[Ae];exact aoS _ _ _,λ_ i e1 h=>h⟩
theorem WR.Vi(hw:WR φ base H w){id ob e}(ho:H.bc id=some ob)(hl:ob.aR=true)(he:φ id=some e)(hm:∀{o},OR φ ob e o->OR φ.pu ob e o){nm H'}(hx:AH.OV (H.cV id (.bm [])) ob=some (nm,H'))(m):
 ∃aQ:cn,aQ.xs nm=some e/\WR aQ base H' w/\cI m φ H aQ H':=by
 have ll:=hw.zu (vs:=[]) ho;have xI:=cI.o8 (H:=H) (m:=m) he (.bm []);have mT:∀i dn e1,(H.cV id (.bm [])).bc i=some dn->dn.aR=true->φ i=some e1->e1.b≠e.b:=by
  intro i dn e1 h1 l1 h2 hb;rw[oV]at h1;by_cases hi:i=id
  .rw[aL hi]at h1;cases h1;cases l1
  .rw[az hi]at h1;exact hi (hw.ji i id dn ob e1 e h1 l1 h2 ho hl he hb)
 have⟨o,q1,q2⟩:=hw.eI id ob e ho he;have q3:=(hw.lt id e he).2.1;have q4:φ.ro e.b=none:=by
  cases hr:φ.ro e.b with
  |none=>rfl
  |some o'=>exact absurd rfl ((hw.ro _ o' hr).2 id ob e ho hl he)
 have q5:∀n dn e1,H.gT n=some dn->φ.xs n=some e1->e1.b≠e.b:=by intro n dn e1 h1 h2 hb;have⟨e2,o2,r1,r2,r3,r4,r5⟩:=hw.wx.xo n dn h1;rw[h2]at r1;cases r1;exact r5 id ob e ho hl he hb.symm
 have FV:∀n,(H.cV id (.bm [])).gT n=H.gT n:=ux (yz _ _ _);generalize H.cV id (.bm [])=H1 at ll hx xI mT FV;have⟨h,k,x⟩:=H1;cases x with
 |none=>cases hx
 |some X=>
  cases hx;have iR:=λn e' h=>ll.wx.xl X rfl n e' h
  let aQ:cn:=⟨φ.f,φ.ro,λi=>if i=X.n then some e else φ.xs i⟩
  have cK:∀{n e'},φ.xs n=some e'->n≠X.n:=λh=>Nat.ne_of_lt (iR _ _ h)
  have cA:dE φ aQ:=⟨λ_ _ h=>h,λ_ _ h=>h,λn e' h=>by show(if n=X.n then some e else φ.xs n)=_;rw[az (cK h)];exact h⟩;have hg:∀n,(⟨h,k,some ⟨(X.set X.n (some ob)).g,X.n+1⟩⟩:AH).gT n=if n=X.n then some ob else H.gT n:=by intro n;show(bif Nat.beq n X.n then some ob else X.g n)=_;rw[Tr.ua,Tr.BT,<-FV n];rfl
  have MY:∀n,aQ.xs n=if n=X.n then some e else φ.xs n:=λ_=>rfl
  have I4:aQ.xs X.n=some e:=by rw[MY,aL rfl]
  refine⟨aQ,I4,⟨λi dn e1 h1 h2=>?_,ll.ji,ll.lt,ll.nx,⟨ll.wx.ro,λn dn h1=>?_,λn n' dn ie e1 e2 h1 h2 h3 h4 hb=>?_,λX' hX n e1 h1=>?_⟩⟩,xI.uB ⟨cA,cE _,λi _ hn=>⟨hn,.inl rfl⟩,⟨by simp,λh=>by cases h⟩⟩⟩
  .have⟨o1,h3,h4⟩:=ll.eI i dn e1 h1 h2;exact⟨o1,h3,h4.tg cA⟩
  .rw[hg]at h1;by_cases hn:n=X.n
   .rw[aL hn]at h1;cases h1;subst hn;exact⟨e,o,I4,⟨q3,q1⟩,(hm q2).tg cA.pu,q4,mT⟩
   .rw[az hn]at h1;have⟨e2,o2,r1,r2,r3,r4,r5⟩:=ll.wx.xo n dn ((FV n).trans h1);exact⟨e2,o2,cA.xs _ _ r1,r2,r3.tg cA.pu,r4,r5⟩
  .rw[hg]at h1 h2;rw[MY]at h3 h4;by_cases hn:n=X.n<;>by_cases CS:n'=X.n
   .rw[hn,CS]
   .rw[aL hn]at h1 h3;cases h3;rw[az CS]at h2 h4;exact absurd hb.symm (q5 n' ie e2 h2 h4)
   .rw[aL CS]at h2 h4;cases h4;rw[az hn]at h1 h3;exact absurd hb (q5 n dn e1 h1 h3)
   .rw[az hn]at h1 h3;rw[az CS]at h2 h4;exact hw.wx.xi n n' dn ie e1 e2 h1 h2 h3 h4 hb
  .cases hX;rw[MY]at h1;by_cases hn:n=X.n
   .show n<X.n+1;omega
   .rw[az hn]at h1;have:=iR n e1 h1;show n<X.n+1;omega
theorem aoU{H:AH}{n ob bE}(ho:H.gT n=some ob)(i):(H.n9 n (some bE)).gT i=if i=n then some bE else H.gT i:=by
 have⟨a,k,x⟩:=H;cases x with
 |none=>cases ho
 |some X=>show(bif Nat.beq i n then some bE else X.g i)=_;rw[Tr.ua,Tr.BT];rfl
theorem WR.aGD(hw:WR φ base H w){n ob bE e w'}(ho:H.gT n=some ob)(he:φ.xs n=some e)(cx:w'.heap.size=w.heap.size)(wi:∀b,b≠e.b->w'.heap[b]? =w.heap[b]?)(FI:∃o',w'.heap[e.b]? =some o'/\OR φ.pu bE e o'):WR φ base (H.n9 n (some bE)) w':=by
 have⟨e',o,q1,q2,q3,q4,q5⟩:=hw.wx.xo n ob ho;rw[he]at q1;cases q1;refine⟨λi dn e1 h1 h2=>?_,λi i' dn ie e1 e2 h1 l1 h2 h3 l2 h4 hb=>hw.ji i i' dn ie e1 e2 (by rw[py]at h1;exact h1) l1 h2 (by rw[py]at h3;exact h3) l2 h4 hb,
  λi e1 h=>by rw[Ds,cx];exact hw.lt i e1 h,λi dn h=>by rw[py]at h;rw[Ds];exact hw.nx i dn h,⟨λb o' h=>?_,λi dn h=>?_,λi i' dn ie e1 e2 h1 h2 h3 h4 hb=>?_,λX h i e1 h1=>?_⟩⟩
 .rw[py]at h1;by_cases mS:dn.aR=true
  .have⟨o1,h3,h4⟩:=hw.eI i dn e1 h1 h2;exact⟨o1,by rw[wi _ (q5 i dn e1 h1 mS h2)];exact h3,h4⟩
  .cases dn<;>simp[bf.aR]at mS;have h5:=(hw.lt i e1 h2).1;refine⟨w'.heap[e1.b]'(by rw[cx];exact h5),by simp[cx,h5],trivial⟩
 .have⟨⟨k1,k2⟩,k3⟩:=hw.ro b o' h;have hb:b≠e.b:=by rintro rfl;rw[q4]at h;cases h
  exact⟨⟨k1,(wi b hb).trans k2⟩,λid dn e1 h1=>k3 id dn e1 (by rw[py]at h1;exact h1)⟩
 .rw[aoU ho]at h;by_cases hi:i=n
  .rw[aL hi]at h;cases h;subst hi;have⟨o',r1,r2⟩:=FI;exact⟨e,o',he,⟨q2.1,r1⟩,r2,q4,λid ie e2 h1=>q5 id ie e2 (by rw[py]at h1;exact h1)⟩
  .rw[az hi]at h;have⟨e1,o1,r1,r2,r3,r4,r5⟩:=hw.wx.xo i dn h;have hb:=λhb=>hi (hw.wx.xi i n dn ob e1 e h ho r1 he hb)
   exact⟨e1,o1,r1,⟨r2.1,(wi _ hb).trans r2.2⟩,r3,r4,λid ie e2 h1=>r5 id ie e2 (by rw[py]at h1;exact h1)⟩
 .have ao:∀{j bc},(H.n9 n (some bE)).gT j=some bc->∃axr,H.gT j=some axr:=by
   intro j bc h;rw[aoU ho]at h;by_cases hj:j=n
   .rw[hj];exact⟨ob,ho⟩
   .rw[az hj]at h;exact⟨bc,h⟩
  have⟨o1,g1⟩:=ao h1;have⟨o2,g2⟩:=ao h2;exact hw.wx.xi i i' o1 o2 e1 e2 g1 g2 h3 h4 hb
 .have⟨X0,h2,h3⟩:=aoT h;rw[h3];exact hw.wx.xl X0 h2 i e1 h1
theorem cI.n9{m n o}:cI m φ H φ (H.n9 n o):=
 ⟨dE.refl φ,by rw[Ds];exact cE _,λi _ hn=>⟨hn,.inl (py _ _ _ _)⟩,aoS _ _ _,λ_ _ _ h=>h⟩
theorem cZ.axu(hw:WR φ base H w){n ob e w'}(ho:H.gT n=some ob)(he:φ.xs n=some e)(cx:w'.heap.size=w.heap.size)(wi:∀b,b≠e.b->w'.heap[b]? =w.heap[b]?)(hs:vJ w w':=by exact⟨rfl,rfl,rfl⟩):cZ base w w':=by have⟨e',o,q1,q2,_⟩:=hw.wx.xo n ob ho;rw[he]at q1;cases q1;exact⟨by omega,λb hb=>wi b (λh=>q2.1 (h▸hb)),hs⟩
end
section
variable{P:Program}{φ:cn}{base:fN}{H:AH}{w:World}{ρ:Operand->Option AV}{ev:Operand->Value}
def fc(P:Program)(m:Nat)(base:fN)(φ:cn)(H:AH)(w:World)(s:Sem Next)(v:AV)(H':AH):Prop:=
 ∃(aQ:cn) (w':World) (v':Value),(s.run P w=.ok (.value v') w'\/(s.run P w=.ok .skip w'/\v'=undef))/\VR aQ v v'/\WR aQ base H' w'/\cI m φ H aQ H'/\cZ base w w'
def sC(P:Program)(m:Nat)(base:fN)(φ:cn)(H:AH)(w:World)(s:Sem Next):iT->Prop
 |.gU v H'=>fc P m base φ H w s v H'
 |.qA f args=>∃args':Array Value,s.run P w=.ok (.enter f args') w/\br φ args args'.toList
 |.vD l args=>∃(e:PE) (args':Array Value),φ l=some e/\s.run P w=(Instr.yield e.b args').run P w/\br φ args args'.toList
 |.xd d=>∃d',s.run P w=.ok (.defer d') w/\DR φ d d'
 |.vC v=>∃v',s.run P w=.halt (.panic v') w/\VR φ v v'
 |.xe=>s.run P w=.ok .recover w
theorem Kc(φ):VR φ .l5 undef:=⟨#[],rfl,l8⟩
theorem am8(cur xs:List Value)(o off L)(h1:o+L<=cur.length)(h2:off+xs.length<=L):
 ((cur.take (o+off)++xs++cur.drop (o+off+xs.length)).drop o).take L=((cur.drop o).take L).take off++(xs++((cur.drop o).take L).drop (off+xs.length)):=by
 apply TJ;intro i;by_cases hL:i<L
 .rw[yf hL,vj,km];simp only[List.getElem?_append,wJ,qeb];rw[show min (o+off) cur.length=o+off by omega,show min off (min L (cur.length-o))=off by omega];by_cases h3:i<off
  .rw[aL (by omega),aL h3,yf (by omega),yf h3,yf hL,vj]
  .rw[az (by omega),az h3];rw[show o+i-(o+off)=i-off by omega];by_cases h4:i-off<xs.length
   .rw[aL h4,aL h4]
   .rw[az h4,az h4,vj,vj,yf (by omega),vj];congr 1;omega
 .rw[Bo (by simp;omega),Bo (by simp;omega)]
theorem Gs(w:World)(g cs):(w.setRow g cs).heap.size=w.heap.size:=by simp
theorem Gr(w:World)(g cs){b}(h:b≠g):(w.setRow g cs).heap[b]? =w.heap[b]? :=by unfold World.setRow;simp only[Array.getElem?_modify];rw[az (λe=>h e.symm)]
theorem WR.adH(hw:WR φ base H w){ψ id off vs r cells el GK e ob bE}(ho:H.bc id=some ob)(mT:ob.aR=true)(eU:∀o,OR φ ob e o->OR ψ (.al vs el) e o)(he:φ id=some e)(hp:yd vs off cells=some r)(hc:br ψ cells GK)(h1:cells.all AV.cY=true)(zn:∀o,OR ψ (.al r el) e o->OR φ bE e o):
 ∃w',(storeCells ⟨e.b,e.o+off,none⟩ GK).run P w=.ok () w'/\WR φ base (H.cV id bE) w'/\cZ base w w':=by
 have⟨o,hg,tS⟩:=hw.eI id _ e ho he;obtain⟨cs,h_,rfl,cx,cA,hv,nQ⟩:=eU o tS;obtain⟨aji,rfl⟩:=TB hp;have hl:=hc.jh;have dW:=run_storeCells_at P e.b (e.o+off) h_ GK 0 cs w hg (by simp;omega) (AV.abM hc h1);simp only[Gi]at dW;refine⟨_,dW,?_,?_⟩
 .refine hw.put ho mT he (Gs _ _ _) (λb hb=>Gr _ _ _ hb) ⟨_,setRow_heap w e.b cs _ h_ _ hg,?_⟩;refine zn _ ⟨_,h_,rfl,?_,?_,?_,?_⟩
  .simp;omega
  .simp;omega
  .have bS:(vs.take off++(cells++vs.drop (off+cells.length))).length=vs.length:=by simp;omega
   rw[bS];have:=am8 cs.toList GK e.o off vs.length (by simp;omega) (by omega);rw[this];exact hv.put hc
  .simp only[sY,dc];refine⟨?_,h1,?_⟩
   .rw[mq]at nQ⊢;exact λx hx=>nQ x (Gh hx)
   .rw[mq]at nQ⊢;exact λx hx=>nQ x (JT hx)
 .exact cZ.NB hw he (Gs _ _ _) (λb hb=>Gr _ _ _ hb)
theorem WR.aGv(hw:WR φ base H w){id off vs r cells el GK e ob}(ho:H.bc id=some ob)(mT:ob.aR=true)(eU:∀o,OR φ ob e o->OR φ (.al vs el) e o)(he:φ id=some e)(hp:yd vs off cells=some r)(hc:br φ cells GK)(h1:cells.all AV.cY=true):
 ∃w',(storeCells ⟨e.b,e.o+off,none⟩ GK).run P w=.ok () w'/\WR φ base (H.cV id (.al r el)) w'/\cZ base w w':=
 hw.adH ho mT eU he hp hc h1 (λ_ h=>h)
theorem aE4(hw:WR φ base H w){t id off v vv H' e}(h:J5 P H t id off v=some H')(he:φ id=some e)(hv:VR φ v vv):
 ∃w',(storeVar t ⟨e.b,e.o+off,none⟩ vv).run P w=.ok () w'/\WR φ base H' w'/\cZ base w w'/\∀m,cI m φ H φ H':=by
 unfold J5 at h;split at h;next vs el s ho hs=>
  have⟨hb,h⟩:=dj h;simp only[dc]at hb;obtain⟨r,hr,rfl⟩:=ud h;have hc:=AV.tv hv;have bS:vv.cells.size=s:=by have h1:=hc.jh;have h2:=dw hb.1;simp at h1;omega
  have⟨w',h1,h2,h3⟩:=hw.aGv (P:=P) ho rfl (λo h=>h) he hr hc hb.2;refine⟨w',?_,h2,h3,λm=>cI.o8 he _⟩;simp[storeVar,jI hs w,bS,h1]
 next vs el s ho hs=>
  have⟨hb,hq⟩:=dj h;simp only[dc]at hb;obtain⟨r,hr,rfl⟩:=ud hq;have hc:=AV.tv hv;have bS:vv.cells.size=s:=by have h1:=hc.jh;have h2:=dw hb.1.1;simp at h1;omega
  have AU:=br.xg (ψ:=φ.pu) _ _ (by rw[wF];exact hb.2) hc;have⟨w',h1,h2,h3⟩:=hw.adH (P:=P) (el:=el) (bE:=.dU r el) ho rfl (λo h=>h) he hr AU hb.1.2 (λo h=>h);refine⟨w',?_,h2,h3,λm=>cI.o8 he _⟩;simp[storeVar,jI hs w,bS,h1]
 next vs el s ho hs=>
  have⟨hb,hq⟩:=dj h;simp only[dc]at hb;obtain⟨r,hr,rfl⟩:=ud hq;have hc:=AV.tv hv;have bS:vv.cells.size=s:=by have h1:=hc.jh;have h2:=dw hb.1.1;simp at h1;omega
  have AU:=br.xg (ψ:=φ.pu) _ _ (by rw[wF];exact hb.2) hc;have⟨w',h1,h2,h3⟩:=hw.adH (P:=P) (el:=el) (bE:=.aA r el) ho rfl (λo h=>h) he hr AU hb.1.2 (λo h=>h);refine⟨w',?_,h2,h3,λm=>cI.o8 he _⟩;simp[storeVar,jI hs w,bS,h1]
 .cases h
theorem aE5(hw:WR φ base H w){t n off v vv H' e}(h:Oq P H t n off v=some H')(he:φ.xs n=some e)(hv:VR φ v vv):
 ∃w',(storeVar t ⟨e.b,e.o+off,none⟩ vv).run P w=.ok () w'/\WR φ base H' w'/\cZ base w w'/\∀m,cI m φ H φ H':=by
 unfold Oq at h;split at h;next vs el s ho hs=>
  have⟨hb,h⟩:=dj h;simp only[dc]at hb;obtain⟨r,hr,rfl⟩:=ud h;have hc:=AV.tv hv;have bS:vv.cells.size=s:=by have h1:=hc.jh;have h2:=dw hb.1.1;simp at h1;omega
  have AU:=br.xg (ψ:=φ.pu) _ _ (by rw[wF];exact hb.2) hc;have⟨cs,h_,hg,cx,cA,jC,nQ⟩:=hw.yQ (show yQ (H.gT n)=some vs by rw[ho];rfl) he;obtain⟨aji,rfl⟩:=TB hr;have hl:=AU.jh;have dW:=run_storeCells_at P e.b (e.o+off) h_ vv.cells.toList 0 cs w hg (by simp at hl⊢;omega) (AV.abM AU hb.1.2);simp only[Gi]at dW;refine⟨_,by simp only[storeVar,Sem.run_bind,jI hs w,Result.andThen_ok,bS];rw[az (λh=>h rfl)];exact dW,?_,cZ.axu hw ho he (Gs _ _ _) (λb hb=>Gr _ _ _ hb),λm=>cI.n9⟩;refine hw.aGD ho he (Gs _ _ _) (λb hb=>Gr _ _ _ hb) ⟨_,setRow_heap w e.b cs _ h_ _ hg,?_⟩;refine⟨_,h_,rfl,?_,?_,?_,?_⟩
  .simp at hl⊢;omega
  .simp at hl⊢;omega
  .have bS:(vs.take off++(v.dQ++vs.drop (off+v.dQ.length))).length=vs.length:=by simp;omega
   rw[bS];have:=am8 cs.toList vv.cells.toList e.o off vs.length (by simp;omega) (by omega);rw[this];exact jC.put AU
  .simp only[sY,dc];rw[mq]at nQ;refine⟨?_,hb.1.2,?_⟩
   .rw[mq];exact λx hx=>nQ x (Gh hx)
   .rw[mq];exact λx hx=>nQ x (JT hx)
 .cases h
end
section
variable{P:Program}{φ:cn}{base:fN}{H:AH}{w:World}{ρ:Operand->Option AV}{ev:Operand->Value}
theorem ahC{a b va vb}(h:Ic a b=true)(ha:VR φ a va)(hb:VR φ b vb)(n):va=vb/\Instr.sameBits n va vb=true:=by
 unfold Ic at h;split at h
 .simp at h;obtain⟨rfl,rfl⟩:=h;subst ha hb;exact⟨rfl,by cases n<;>simp[Instr.sameBits]⟩
 .rw[om,DG]at h;subst h;obtain⟨x,rfl,h1⟩:=ha;obtain⟨y,rfl,h2⟩:=hb;have:=ads (h1.trans h2.symm);subst this;exact⟨rfl,by cases n<;>simp[Instr.sameBits,beq_toListBytes]⟩
 .simp at h;subst h;subst ha hb;exact⟨rfl,by cases n<;>simp[Instr.sameBits]⟩
 .cases h
theorem ahE:∀{as bs va vb},Fa as bs=true->br φ as va->br φ bs vb->∀n,va=vb/\(va.zip vb).all (λp=>Instr.sameBits n p.1 p.2)=true
 |[],[],va,vb,_,ha,hb,n=>by simp only[br]at ha hb;subst ha hb;simp
 |a::as,b::bs,va,vb,h,ha,hb,n=>by obtain⟨x,xs,rfl,h1,h2⟩:=ha;obtain⟨y,ys,rfl,h3,h4⟩:=hb;simp only[Fa,dc]at h;have⟨e1,e2⟩:=ahC h.1 h1 h3 n;have⟨e3,e4⟩:=ahE h.2 h2 h4 n;subst e1 e3;exact⟨rfl,by simp only[List.zip_cons_cons,List.all_cons,dc];exact⟨e2,e4⟩⟩
 |[],_::_,_,_,h,_,_,_=>by simp[Fa]at h
 |_::_,[],_,_,h,_,_,_=>by simp[Fa]at h
theorem ahD{a b va vb}(h:Ib a b=true)(ha:VR φ a va)(hb:VR φ b vb)(n):va=vb/\Instr.sameBits (n+1) va vb=true:=by
 unfold Ib at h;split at h
 .obtain⟨x,rfl,h1⟩:=ha;obtain⟨y,rfl,h2⟩:=hb;have⟨e,e2⟩:=ahE h h1 h2 n;have:x=y:=by cases x;cases y;simpa using e
  subst this;exact⟨rfl,by simp only[Instr.sameBits,beq_self_eq_true,r7];exact e2⟩
 .exact ahC h ha hb (n+1)
theorem akc{old new}(h:Instr.sameBits 10000 old new=true)(w):(Instr.keyThatStays old new).run P w=.ok new w:=by unfold Instr.keyThatStays;rw[aL h];rfl
theorem dP.get:∀{es ms},dP φ es ms->∀{i:Nat} {k v b},es[i]? =some (k,v,b)->∃m,ms[i]? =some m/\VR φ k m.key/\VR φ v m.val/\m.born=b
 |[],_,_,i,_,_,_,h=>by simp at h
 |(k,v,b)::es,_,he,i,k',v',b',h=>by
  obtain⟨m,ms,rfl,h1,h2,h3,h4⟩:=he;cases i with
  |zero=>simp at h;obtain⟨rfl,rfl,rfl⟩:=h;exact⟨m,rfl,h1,h2,h3⟩
  |succ i=>simp at h⊢;exact dP.get h4 h
theorem dP.El{f g}:∀{es ms},dP φ es ms->∀{i},
 (∀k v b m,es[i]? =some (k,v,b)->ms[i]? =some m->VR φ k m.key->VR φ v m.val->m.born=b->VR φ (f (k,v,b)).1 (g m).key/\VR φ (f (k,v,b)).2.1 (g m).val/\(g m).born=(f (k,v,b)).2.2)->
 dP φ (pH es i f) (ms.modify i g)
 |[],_,he,i,_=>by simp only[dP]at he;subst he;simp[pH,dP]
 |(k,v,b)::es,_,he,i,h=>by
  obtain⟨m,ms,rfl,h1,h2,h3,h4⟩:=he;cases i with
  |zero=>have⟨e1,e2,e3⟩:=h k v b m rfl rfl h1 h2 h3;simp;exact⟨g m,ms,rfl,e1,e2,e3,h4⟩
  |succ i=>simp;exact⟨m,_,rfl,h1,h2,h3,dP.El h4 (λk v b m a1 a2=>h k v b m (by simpa using a1) (by simpa using a2))⟩
theorem dP.Kl:∀{es bJ ms SW},dP φ es ms->dP φ bJ SW->dP φ (es++bJ) (ms++SW)
 |[],_,_,_,he,h'=>by simp only[dP]at he;subst he;simpa using h'
 |(k,v,b)::es,_,_,_,he,h'=>by obtain⟨m,ms,rfl,h1,h2,h3,h4⟩:=he;exact⟨m,_,rfl,h1,h2,h3,dP.Kl h4 h'⟩
theorem dP.Vg:∀{es ms},dP φ es ms->∀i,dP φ (AL es i) (ms.eraseIdx i)
 |[],_,he,i=>by simp only[dP]at he;subst he;simp[AL,dP]
 |(k,v,b)::es,_,he,i=>by
  obtain⟨m,ms,rfl,h1,h2,h3,h4⟩:=he;cases i with
  |zero=>simpa[AL]using h4
  |succ i=>simp;exact⟨m,_,rfl,h1,h2,h3,dP.Vg h4 i⟩
theorem dP.ahU:∀{es ms},dP φ es ms->∀(b:Nat),ms.findIdx? (λe=>(e.born:Int)==(b:Int))=es.findIdx? (λe=>Nat.beq e.2.2 b)
 |[],_,he,b=>by simp only[dP]at he;subst he;simp
 |(k,v,b')::es,_,he,b=>by
  obtain⟨m,ms,rfl,h1,h2,h3,h4⟩:=he;simp only[List.findIdx?_cons];have e1:((m.born:Int)==(b:Int))=Nat.beq b' b:=by rw[Tr.ua,h3,sc];simp;omega
  rw[e1,dP.ahU h4 b]
theorem Z_{r o o'}(hb:w.heap[r]? =some o):(w.heap.setIfInBounds r o')[r]? =some o'/\∀r',r'≠r->(w.heap.setIfInBounds r o')[r']? =w.heap[r']? :=by have ay:=(NS.1 hb).1;exact⟨by simp[ay],λr' cK=>by simp[Ne.symm cK]⟩
theorem WR.Bx(hw:WR φ base H w){id ob bE e o o'}(ho:H.bc id=some ob)(hl:ob.aR=true)(he:φ id=some e)(hg:w.heap[e.b]? =some o)(hc:o.isCells=false)(tS:OR φ bE e o'):
 ∃w',(setObj e.b o').run P w=.ok () w'/\WR φ base (H.cV id bE) w'/\cZ base w w':=by
 have hs:=Z_ (o':=o') hg;refine⟨_,anf hg hc,hw.put ho hl he (by simp) (λb hb=>hs.2 b hb) ⟨o',hs.1,tS⟩,cZ.NB hw he (by simp) (λb hb=>hs.2 b hb)⟩
theorem ab4{kt k}(hp:sT P kt k=true):∃d,P.underlying kt=some d:=by
 cases hkt:P.underlying kt with
 |none=>simp[sT,hkt]at hp
 |some d=>exact⟨d,rfl⟩
theorem Rb{p k v vk vv}(h:vT p k v=true)(hk:VR φ k vk)(hv:VR φ v vv)(hp:p=true):VR φ.pu k vk/\VR φ.pu v vv:=by subst hp;simp only[vT,cond_true,dc]at h;exact⟨VR.Es k vk h.1 hk,VR.Es v vv h.2 hv⟩
theorem akX(hw:WR φ base H w){t m k v vm vk vv H'}(h:Jr P H t m k v=some H')(hm:VR φ m vm)(hk:VR φ k vk)(hv:VR φ v vv):
 ∃w',(Instr.mapUpdate t vm vk vv).run P w=.ok () w'/\WR φ base H' w'/\cZ base w w'/\∀m,cI m φ H φ H':=by
 unfold Jr at h;split at h;next kt elem id hu=>
  split at h;next es clock p ho=>
   obtain⟨e,he,rfl⟩:=hm;obtain⟨o,hg,bJ,rfl,jm,A7⟩:=hw.eI id _ e ho he;have⟨hpf,h⟩:=dj h;simp at hpf;have⟨hp,kg⟩:=hpf;have kg:=Rb kg hk hv;have⟨d,hd⟩:=ab4 hp;have tM:=Ql hp hk false 9998 w;split at h;next i x b hf=>
    have⟨FN,h⟩:=dj h;cases h;have⟨r',h1,h2⟩:=Cp hd hk jm hf w;obtain⟨me,k0,rfl,e3,e4,e5,e6⟩:=h2.at;have YD:bJ[i]? =some me:=by simpa using e4
    have CY:vk=me.key/\Instr.sameBits 10000 me.key vk=true:=by unfold yo at FN;rw[e3]at FN;have⟨m',a1,a2,_,_⟩:=jm.get e3;rw[e4]at a1;cases a1;have:=ahD FN a2 hk 9999;exact⟨this.1.symm,this.2⟩
    have⟨w',b1,b2,b3⟩:=hw.Bx (P:=P) (bE:=.aY (pH es i λe=>(k,v,e.2.2)) clock p) (o':=.map (bJ.modify i λe=>{e with key:=vk,val:=vv}) clock) ho rfl he hg rfl
     ⟨_,rfl,by rw[Array.toList_modify];exact⟨jm.El (λk v b m _ _ _ _ hb=>⟨hk,hv,hb⟩),λhp=>(A7 hp).El (λk v b m _ _ _ _ hb=>⟨(kg hp).1,(kg hp).2,hb⟩)⟩⟩
    refine⟨w',?_,b2,b3,λm=>cI.o8 he _⟩;simp only[Instr.mapUpdate,Sem.run_bind,run_underlying hu w,Result.andThen_ok,qT hg rfl,tM,h1,YD,r9,TH,akc CY.2,b1]
   next hf=>
    cases h;have⟨r',h1,h2⟩:=Cp hd hk jm hf w;subst h2;have⟨w',b1,b2,b3⟩:=hw.Bx (P:=P) (bE:=.aY (es++[(k,v,clock)]) (clock+1) p) (o':=.map (bJ.push {key:=vk,val:=vv,born:=clock}) (clock+1)) ho rfl he hg rfl
     ⟨_,rfl,by rw[Array.toList_push];exact⟨jm.Kl ⟨_,[],rfl,hk,hv,rfl,by simp[dP]⟩,λhp=>(A7 hp).Kl ⟨_,[],rfl,(kg hp).1,(kg hp).2,rfl,by simp[dP]⟩⟩⟩
    refine⟨w',?_,b2,b3,λm=>cI.o8 he _⟩;simp only[Instr.mapUpdate,Sem.run_bind,run_underlying hu w,Result.andThen_ok,qT hg rfl,tM,h1,b1]
   .cases h
  .cases h
 .cases h
end
section
variable{P:Program}{φ:cn}{base:fN}{m:Nat}{H:AH}{w:World}{ρ:Operand->Option AV}{ev:Operand->Value}
theorem fc.of{s v H' aQ w' v'}(h:s.run P w=.ok v' w')(hv:VR aQ v v')(hw:WR aQ base H' w')(he:cI m φ H aQ H')(hk:cZ base w w'):
 fc P m base φ H w (do pure (.value (<-s)):Sem Next) v H':=⟨aQ,w',v',.inl (Ii h),hv,hw,he,hk⟩
theorem fc.Kq{s H' aQ w'}(h:s.run P w=.ok () w')(hw:WR aQ base H' w')(he:cI m φ H aQ H')(hk:cZ base w w'):
 fc P m base φ H w (do s;pure .skip:Sem Next) .l5 H':=⟨aQ,w',undef,.inr ⟨by simp[h],rfl⟩,Kc _,hw,he,hk⟩
theorem abV{a b x y}(ha:VR φ a x)(hb:VR φ b y):VR φ (.aC [a,b]) (.tuple #[x,y]):=⟨_,rfl,qH.2 ⟨ha,pa hb⟩⟩
theorem adt{a b c x y z}(ha:VR φ a x)(hb:VR φ b y)(hc:VR φ c z):VR φ (.aC [a,b,c]) (.tuple #[x,y,z]):=⟨_,rfl,qH.2 ⟨ha,qH.2 ⟨hb,pa hc⟩⟩⟩
theorem as8(hw:WR φ base H w){t kt elem id key vk e aK}(hu:P.underlying t=some (.map kt elem))(h:QR P H kt elem id key=some aK)(he:φ id=some e)(hk:VR φ key vk):
 ∃v H',aK=.gU v H'/\fc P m base φ H w (do pure (.value (<-Instr.mapEntry t (.map (some e.b)) vk)):Sem Next) v H':=by
 unfold QR at h;split at h;next es clock p ho=>
  obtain⟨o,hg,bJ,rfl,jm,A7⟩:=hw.eI id _ e ho he;have⟨hp,h⟩:=dj h;have⟨d,hd⟩:=ab4 hp;have tM:=Ql hp hk false 9998 w;split at h;next i x b hf=>
   have⟨ajw,h⟩:=dj h;simp at ajw;have⟨FN,kg⟩:=ajw;have kg:=Rb (vv:=.pointer none) kg hk (by simp[VR]);cases h;have⟨r',h1,h2⟩:=Cp hd hk jm hf w;obtain⟨me,k0,rfl,e3,e4,e5,e6⟩:=h2.at;have YD:bJ[i]? =some me:=by simpa using e4
   have CY:vk=me.key/\Instr.sameBits 10000 me.key vk=true:=by unfold yo at FN;rw[e3]at FN;have⟨m',a1,a2,_,_⟩:=jm.get e3;rw[e4]at a1;cases a1;have:=ahD FN a2 hk 9999;exact⟨this.1.symm,this.2⟩
   have⟨w',b1,b2,b3⟩:=hw.Bx (P:=P) (bE:=.aY (pH es i λe=>(key,e.2)) clock p) (o':=.map (bJ.modify i λe=>{e with key:=vk}) clock) ho rfl he hg rfl
    ⟨_,rfl,by rw[Array.toList_modify];exact⟨jm.El (λk v b m _ _ _ hv hb=>⟨hk,hv,hb⟩),λhp=>(A7 hp).El (λk v b m _ _ _ hv hb=>⟨(kg hp).1,hv,hb⟩)⟩⟩
   refine⟨_,_,rfl,fc.of (v':=.tuple #[me.val,goInt me.born]) ?_ (abV (abB e5) (by rw[e6];exact Ff b)) b2 (cI.o8 he _) b3⟩;simp only[Instr.mapEntry,Sem.run_bind,run_underlying hu w,Result.andThen_ok,qT hg rfl,tM,h1,YD,r9,TH,akc CY.2,b1,Sem.run_pure]
  next hf=>
   split at h;next z hz=>
    have⟨kg,h⟩:=dj h;cases h;have⟨vz,MZ,hz2⟩:=Ag (φ:=φ) hz;have kg:=Rb kg hk MZ;have⟨r',h1,h2⟩:=Cp hd hk jm hf w;subst h2;have⟨w',b1,b2,b3⟩:=hw.Bx (P:=P) (bE:=.aY (es++[(key,z,clock)]) (clock+1) p) (o':=.map (bJ.push {key:=vk,val:=vz,born:=clock}) (clock+1)) ho rfl he hg rfl
     ⟨_,rfl,by rw[Array.toList_push];exact⟨jm.Kl ⟨_,[],rfl,hk,MZ,rfl,by simp[dP]⟩,λhp=>(A7 hp).Kl ⟨_,[],rfl,(kg hp).1,(kg hp).2,rfl,by simp[dP]⟩⟩⟩
    refine⟨_,_,rfl,fc.of ?_ (abV (abB MZ) (Ff clock)) b2 (cI.o8 he _) b3⟩;simp only[Instr.mapEntry,Sem.run_bind,run_underlying hu w,Result.andThen_ok,qT hg rfl,tM,h1,hz2 w,b1,Sem.run_pure]
   .cases h
  .cases h
 .cases h
theorem as9(hw:WR φ base H w){t id born k v vv e aK}(h:QS H id born v=some aK)(he:φ id=some e)(hv:VR φ v vv):
 ∃H',aK=.gU .l5 H'/\fc P m base φ H w (do Instr.entryStore t (.map (some e.b)) (.int k (born:Int)) vv;pure .skip:Sem Next) .l5 H':=by
 unfold QS at h;split at h;next es clock p ho=>
  obtain⟨o,hg,bJ,rfl,jm,A7⟩:=hw.eI id _ e ho he;split at h;next i hi=>
   have⟨kg,h⟩:=dj h;have kg:=Rb (vk:=.pointer none) kg (by simp[VR]) hv;cases h;have hf:=jm.ahU born;rw[hi]at hf;have RT:bJ.findIdx? (λe=>(e.born:Int)==(born:Int))=some i:=by cases bJ;simpa using hf
   have⟨w',b1,b2,b3⟩:=hw.Bx (P:=P) (bE:=.aY (pH es i λe=>(e.1,v,e.2.2)) clock p) (o':=.map (bJ.modify i λe=>{e with val:=vv}) clock) ho rfl he hg rfl
    ⟨_,rfl,by rw[Array.toList_modify];exact⟨jm.El (λk v b m _ _ hk _ hb=>⟨hk,hv,hb⟩),λhp=>(A7 hp).El (λk v b m _ _ hk _ hb=>⟨hk,(kg hp).2,hb⟩)⟩⟩
   refine⟨_,rfl,fc.Kq ?_ b2 (cI.o8 he _) b3⟩;simp only[Instr.entryStore,Sem.run_bind,qT hg rfl,Result.andThen_ok,asInt,asIntOf,Sem.run_pure,RT,b1]
  .cases h
 .cases h
theorem WR.zy(hw:WR φ base H w)(hb:iv base w){ob o' n}(tS:∀ψ b,dE φ ψ->OR ψ ob ⟨b,0,n⟩ o')(hm:m<=H.bx):
 WR (jv φ H.bx ⟨w.heap.size,0,n⟩) base (H.eN ob) (w.alloc o')/\cI m φ H (jv φ H.bx ⟨w.heap.size,0,n⟩) (H.eN ob)/\cZ base w (w.alloc o'):=by
 have hf:=hw.y8 (cE H.bx);refine⟨(hw.new ob).af5 hf (by simp) hb tS,?_,cZ.alloc hb o'⟩;refine⟨Lv hf,by rw[rU];omega,λid hi hn=>⟨?_,.inl (by rw[ml,az (by omega)])⟩,.of (Ae _ _) rfl⟩;simp only[jv];rw[az (by omega)];exact hn
theorem aaN(n):VR (jv φ H.bx ⟨w.heap.size,0,n⟩) (.aa H.bx 0) (.pointer (some ⟨w.heap.size,0,none⟩)):=by exact⟨_,mL _ _ _,rfl⟩
theorem auw(hw:WR φ base H w)(hb:iv base w)(hm:m<=H.bx){t x aK}(hr:∀a,ρ x=some a->VR φ a (ev x))(h:RF P ρ H t x=some aK):
 ∃v H',aK=.gU v H'/\fc P m base φ H w (do pure (.value (<-Instr.range t (ev x))):Sem Next) v H':=by
 unfold RF at h;split at h;next s hu hx=>cases h;obtain⟨b,hv,rfl⟩:=hr _ hx;have⟨h1,h2,h3⟩:=hw.zy hb (ob:=.uk (dL b) 0) (n:=0) (λψ b' _=>⟨b,rfl,rfl,rfl⟩) hm;refine⟨_,_,rfl,fc.of ?_ (aaN _) h1 h2 h3⟩;simp[Instr.range,run_underlying hu w,hv]
 next kt el hu hx=>cases h;have hv:=hr _ hx;simp only[VR]at hv;have⟨h1,h2,h3⟩:=hw.zy hb (ob:=.jg none 0 [] 0) (n:=0) (λψ b' _=>⟨none,rfl,rfl,rfl⟩) hm;refine⟨_,_,rfl,fc.of ?_ (aaN _) h1 h2 h3⟩;simp[Instr.range,run_underlying hu w,hv]
 next kt el id hu hx=>
  have⟨e,he,hv⟩:=hr _ hx;unfold amf at h;split at h;next es clock p ho=>cases h;obtain⟨o,hg,bJ,rfl,jm,_⟩:=hw.eI id _ e ho he;have⟨h1,h2,h3⟩:=hw.zy hb (ob:=.jg (some id) clock [] clock) (n:=0) (λψ b' cA=>⟨some e.b,rfl,rfl,e,cA _ _ he,rfl⟩) hm;refine⟨_,_,rfl,fc.of ?_ (aaN _) h1 h2 h3⟩;simp[Instr.range,run_underlying hu w,hv,qT hg rfl]
  .cases h
 .cases h
theorem ar5(hw:WR φ base H w){ts T id key vk e aK vs}(h:HR P H ts id key=some aK)(he:φ id=some e)(hk:VR φ key vk)(hv:vs.toList=[.map (some e.b),vk]):
 ∃v H',aK=.gU v H'/\fc P m base φ H w (do pure (.value (<-Builtin.delete_ ts T vs)):Sem Next) v H':=by
 have v0:vs[0]? =some (.map (some e.b)):=by rw[<-wK,hv];rfl
 have v1:vs[1]? =some vk:=by rw[<-wK,hv];rfl
 unfold HR at h;split at h;next kt el es clock p hu ho=>
  obtain⟨o,hg,bJ,rfl,jm,A7⟩:=hw.eI id _ e ho he;have⟨hp,h⟩:=dj h;have⟨d,hd⟩:=ab4 hp;have tM:=Ql hp hk bJ.isEmpty 9998 w;cases ht:ts[0]? with
  |none=>simp[ht]at hu
  |some t=>
   simp only[ht,ri]at hu;split at h;next i x b hf=>
    cases h;have⟨r',h1,h2⟩:=Cp hd hk jm hf w;obtain⟨me,k0,rfl,e3,e4,e5,e6⟩:=h2.at;have⟨w',b1,b2,b3⟩:=hw.Bx (P:=P) (bE:=.aY (AL es i) clock p) (o':=.map (bJ.eraseIdxIfInBounds i) clock) ho rfl he hg rfl
     ⟨_,rfl,by
       have:(bJ.eraseIdxIfInBounds i).toList=bJ.toList.eraseIdx i:=by simp
       rw[this];exact⟨jm.Vg i,λhp=>(A7 hp).Vg i⟩⟩
    refine⟨_,_,rfl,fc.of (v':=.tuple #[]) ?_ (Kc _) b2 (cI.o8 he _) b3⟩;simp only[Builtin.delete_,ht,v0,v1,Sem.run_bind,run_underlying hu w,Result.andThen_ok,qT hg rfl,tM,h1,b1,Sem.run_pure]
   next hf=>
    cases h;have⟨r',h1,h2⟩:=Cp hd hk jm hf w;subst h2;have CY:w.heap.setIfInBounds e.b (.map bJ clock)=w.heap:=by
     apply Array.ext_getElem?;intro j;by_cases hj:j=e.b
     .subst hj;rw[(Z_ hg).1,hg]
     .rw[(Z_ hg).2 j hj]
    refine⟨_,_,rfl,fc.of (w':={w with heap:=w.heap.setIfInBounds e.b (.map bJ clock)}) (v':=.tuple #[]) ?_ (Kc _) (hw.sj CY) (cI.jX _ _ _) (cZ.sj CY)⟩;simp only[Builtin.delete_,ht,v0,v1,Sem.run_bind,run_underlying hu w,Result.andThen_ok,qT hg rfl,tM,h1,anf hg rfl,Sem.run_pure]
   .cases h
 .cases h
end
section
variable{P:Program}{φ:cn}{base:fN}{m:Nat}{H:AH}{w:World}{ρ:Operand->Option AV}{ev:Operand->Value}
theorem dP.Vh(q:Nat->Bool):∀{es ms},dP φ es ms->dP φ (es.filter λe=>q e.2.2) (ms.filter λx=>q x.born)
 |[],_,h=>by simp only[dP]at h;subst h;simp[dP]
 |(k,v,b)::es,_,h=>by
  obtain⟨x,ms,rfl,h1,h2,h3,h4⟩:=h;have ih:=dP.Vh q h4;by_cases hq:q b=true
  .rw[List.filter_cons_of_pos (by simpa using hq),List.filter_cons_of_pos (by simpa[h3]using hq)];exact⟨x,_,rfl,h1,h2,h3,ih⟩
  .rw[List.filter_cons_of_neg (by simpa using hq),List.filter_cons_of_neg (by simpa[h3]using hq)];exact ih
theorem dP.all(q:Nat->Bool):∀{es ms},dP φ es ms->ms.all (λx=>q x.born)=es.all (λe=>q e.2.2)
 |[],_,h=>by simp only[dP]at h;subst h;simp
 |(k,v,b)::es,_,h=>by obtain⟨x,ms,rfl,h1,h2,h3,h4⟩:=h;simp only[List.all_cons,dP.all q h4,h3]
theorem alg{it T}(h:(Instr.next it false T).run P w=.ok (.tuple #[.bool false]) w)(hw:WR φ base H w):fc P m base φ H w (do pure (.value (<-Instr.next it false T)):Sem Next) (.aC [.au false]) H:=
 fc.of h ⟨_,rfl,pa (by simp[VR])⟩ hw (cI.jX _ _ _) (cZ.kr _ _)
theorem am7(bK:LN)(b):bK.toArray.contains b=bK.any (Nat.beq b):=by
 rw[sc];simp only[List.contains_toArray,List.contains_iff_mem,List.any_eq_true];constructor
 .intro h;exact⟨b,h,by simp⟩
 .rintro⟨x,h1,h2⟩;have:=dw h2;subst this;exact h1
theorem axl(hw:WR φ base H w){r mm since last clock bK es er em aK T}(h:Jx H r mm since bK last es clock=some aK)(hr:H.bc r=some (.jg (some mm) since bK last))(uU:φ r=some er){p}(ho:H.bc mm=some (.aY es clock p))(qX:φ mm=some em):
 ∃v H',aK=.gU v H'/\fc P m base φ H w (do pure (.value (<-Instr.next (.pointer (some ⟨er.b,0,none⟩)) false T)):Sem Next) v H':=by
 obtain⟨o,hg,m',rfl,aaa,uW⟩:=hw.eI r _ er hr uU;obtain⟨e',iC,rfl⟩:=uW;rw[qX]at iC;cases iC;obtain⟨o2,tN,bJ,rfl,jm,-⟩:=hw.eI mm _ em ho qX;have h1:=qT (P:=P) hg rfl;have h2:=qT (P:=P) tN rfl;unfold Jx at h;cases hc:(!bK.isEmpty&& !es.isEmpty&&es.all (λe=>Nat.ble last e.2.2));case true=>rw[hc]at h;cases h
 rw[hc]at h;simp at h;have xF:(!bK.toArray.isEmpty&& !bJ.isEmpty&&bJ.all (λx=>decide (x.born>=last)))=false:=by
  have e1:bK.toArray.isEmpty=bK.isEmpty:=by cases bK<;>rfl
  have e2:bJ.isEmpty=es.isEmpty:=by have:=jm.Km;cases es<;>cases bJ<;>rename_i l<;>cases l<;>simp at this⊢
  have e3:bJ.all (λx=>decide (x.born>=last))=es.all (λe=>Nat.ble last e.2.2):=by rw[<-jm.all (λb=>Nat.ble last b),<-Array.all_toList];congr 1;funext x;rw[sc];simp
  rw[e1,e2,e3];exact hc
 have xJ:dP φ (es.filter λe=> !bK.any (Nat.beq e.2.2)) (bJ.filter λe=> !bK.toArray.contains e.born).toList:=by
  have:=jm.Vh (λb=> !bK.any (Nat.beq b));rw[Array.toList_filter];have e:(λ(e:MapEntry)=> !bK.toArray.contains e.born)=(λx=>(λb=> !bK.any (Nat.beq b)) x.born):=by simp only[am7]
  rw[e];exact this
 generalize es.filter (λe=> !bK.any (Nat.beq e.2.2))=left at h xJ;generalize hL:bJ.filter (λe=> !bK.toArray.contains e.born)=lr at xJ;split at h
 .simp only[NJ]at h;cases h;simp only[dP]at xJ;have sJ:lr= #[]:=by cases lr;simpa using xJ
  subst sJ;refine⟨_,_,rfl,alg ?_ hw⟩;have hf:(Question.mapNext 1).forced=true:=rfl;simp only[Instr.next,Sem.run_bind,h1,Result.andThen_ok,h2,xF,hL];simp[hf]
 next e=>
  have⟨hb,h⟩:=dj h;cases h;have⟨k,v,b⟩:=e;obtain⟨x,ms,hx,a1,a2,a3,rfl⟩:=xJ;have mS:lr= #[x]:=by cases lr;simpa using hx
  subst mS;have ay:b<since:=by have:=pE hb;simp at this;omega
  have⟨w',b1,b2,b3⟩:=hw.Bx (P:=P) (bE:=.jg (some mm) since (bK++[b]) clock) hr rfl uU hg rfl
   ⟨some em.b,rfl,aaa,em,qX,rfl⟩
  refine⟨_,_,rfl,fc.of (v':=.tuple #[.bool true,x.key,x.val]) ?_ (adt (by simp[VR]) a1 a2) b2 (cI.o8 uU _) b3⟩;have hf:(Question.mapNext 1).forced=true:=rfl;have hxb:x.born<since:=by rw[a3];exact ay
  have o1:(#[x]:Array MapEntry).filter (λe=>decide (e.born<since))= #[x]:=by simp[hxb]
  have o2:(#[x]:Array MapEntry).filter (λe=>decide (e.born>=since))= #[]:=by simp;omega
  simp only[Instr.next,Sem.run_bind,h1,Result.andThen_ok,h2,xF,hL,o1,o2];simp[hf];rw[a3,b1];rfl
 .cases h
theorem aut(hw:WR φ base H w){it xW aK T}(hr:∀a,ρ it=some a->VR φ a (ev it))(h:IH ρ H it xW=some aK):
 ∃v H',aK=.gU v H'/\fc P m base φ H w (do pure (.value (<-Instr.next (ev it) xW T)):Sem Next) v H':=by
 unfold IH at h;split at h;next r hx=>
  have⟨e,he,hv⟩:=hr _ hx;unfold abu at h;split at h;next s pos ho=>
   obtain⟨o,hg,b,rfl,rfl,h0⟩:=hw.eI r _ e ho he;have h1:=qT (P:=P) hg rfl;rw[h0]at hv;unfold alf at h;split at h;next hn=>
    cases h;have ay:¬pos<b.size:=by intro ay;rw[List.getElem?_eq_none_iff,zY]at hn;omega
    refine⟨_,_,rfl,fc.of (v':=.tuple #[.bool false]) ?_ ⟨_,rfl,pa (by simp[VR])⟩ hw (cI.jX _ _ _) (cZ.kr _ _)⟩;simp[Instr.next,hv,h1,ay]
   next c hc=>
    have⟨hb,h⟩:=dj h;cases h;have ay:pos<b.size:=by
     rcases Gk pos b.size with h|h
     .exact h
     .rw[Bo (by rw[zY];exact h)]at hc;cases hc
    have hcb:(b[pos]'ay).toNat=c:=by
     simp only[dL,sa]at hc;have hl:pos<b.data.toList.length:=by simpa using ay
     rw[gS hl]at hc;simp at hc;exact hc
    have hd:=decode_ascii b pos ay (by have:=pE hb;omega);have⟨w',b1,b2,b3⟩:=hw.Bx (P:=P) (bE:=.uk (dL b) (pos+1)) ho rfl he hg rfl ⟨b,rfl,rfl,h0⟩;refine⟨_,_,rfl,fc.of (v':=.tuple #[.bool true,goInt pos,.int .i32 c]) ?_ (adt (by simp[VR]) (Ff pos) (by simp[VR])) b2 (cI.o8 he _) b3⟩;rw[hcb]at hd;simp[Instr.next,hv,h1,ay,hd,b1]
  next since bK last ho=>obtain⟨o,hg,m',rfl,h0,rfl⟩:=hw.eI r _ e ho he;have h1:=qT (P:=P) hg rfl;rw[h0]at hv;cases h;refine⟨_,_,rfl,?_⟩;rw[hv];exact alg (by simp[Instr.next,h1]) hw
  next mm since bK last ho=>
   split at h;next es clock p ho2=>obtain⟨o,hg,m',rfl,h0,em,qX,_⟩:=hw.eI r _ e ho he;rw[hv,h0];exact axl hw h ho he ho2 qX
   .cases h
  .cases h
 .cases h
theorem aup(hw:WR φ base H w){it aK}(hr:∀a,ρ it=some a->VR φ a (ev it))(h:Fs ρ H it=some aK):
 ∃v H',aK=.gU v H'/\fc P m base φ H w (do pure (.value (<-Instr.entry (ev it))):Sem Next) v H':=by
 unfold Fs at h;split at h;next r hx=>
  have⟨e,he,hv⟩:=hr _ hx;split at h;next mm since bK DW ho=>
   obtain⟨o,hg,m',rfl,h0,em,qX,rfl⟩:=hw.eI r _ e ho he;rw[h0]at hv;have h1:=qT (P:=P) hg rfl;unfold YX at h;split at h;next Bz es clock p hs ho2=>
    obtain⟨o2,tN,bJ,rfl,jm,-⟩:=hw.eI mm _ em ho2 qX;have h2:=qT (P:=P) tN rfl;have⟨hb,h⟩:=dj h;have hc:=dw hb;split at h;next x hx=>
     cases h;have key:∀{es:List (AV×AV×Nat)} {ms:List MapEntry},dP φ es ms->es.find? (λe=>Nat.beq e.2.2 Bz)=some x->∃y,ms.find? (λy=>y.born==Bz)=some y/\VR φ x.1 y.key/\VR φ x.2.1 y.val:=by
      intro es;induction es with
      |nil=>intro ms _ h;simp at h
      |cons p es ih=>
       have⟨k,v,b⟩:=p;intro ms jm h;obtain⟨y,ms,rfl,a1,a2,a3,a4⟩:=jm;rw[List.find?_cons]at h;cases hq:Nat.beq b Bz
       .rw[hq]at h;have⟨z,b1,b2⟩:=ih a4 h;refine⟨z,?_,b2⟩;rw[List.find?_cons];have:(y.born==Bz)=false:=by rw[a3];rw[Tr.ua]at hq;simpa using hq
        rw[this];exact b1
       .rw[hq]at h;cases h;refine⟨y,?_,a1,a2⟩;rw[List.find?_cons];have:(y.born==Bz)=true:=by rw[a3];have:=dw hq;simp[this]
        rw[this]
     have⟨y,b1,b2,b3⟩:=key jm hx;have XP:bJ.find? (λy=>y.born==Bz)=some y:=by cases bJ;simpa using b1
     refine⟨_,_,rfl,fc.of ?_ (abV b2 b3) hw (cI.jX _ _ _) (cZ.kr _ _)⟩;have A9:bK.toArray.back? =some Bz:=by simpa using hs
     subst hc;simp[Instr.entry,hv,h1,A9,h2,XP]
    .cases h
   .cases h
  .cases h
 .cases h
end
section
variable{P:Program}{φ:cn}{base:fN}{m:Nat}{H:AH}{w:World}{ρ:Operand->Option AV}{ev:Operand->Value}
theorem aiB(S0):∀r c,Builtin.growBy S0 r c<=max c (S0+(S0+768)/ 4)
 |0,c=>by simp[Builtin.growBy];omega
 |r+1,c=>by
  simp only[Builtin.growBy];split
  .omega
  .have:=aiB S0 r (c+(c+768)/ 4);omega
theorem axn{SZ c}(h:c<SZ):Builtin.nextslicecap SZ c<=2*SZ+192:=by
 unfold Builtin.nextslicecap;split
 .omega
 .split
  .omega
  .have:=aiB SZ 4 c;omega
def Jb:TypeDesc->Bool
 |.int _=>true
 |_=>false
def yK(P:Program)(φ:cn)(w:World)(argTypes:Array TypeId)(elem:TypeId)(sz n:Nat)(l:LV)(x:Value):Prop:=
 ∃xt d,∃cs:Array Value,argTypes[1]? =some xt/\P.underlying xt=some d/\br φ l cs.toList/\l.length=n*sz/\
  ((Jb d=false/\(∀w,(Builtin.lenOf x).run P w=.ok n w)/\(∀w',w'.heap=w.heap->(Builtin.firstCells sz n x).run P w'=.ok cs w'))\/
   (Jb d=true/\x=.int .i64 (n:Int)/\n<=4194304/\∀w',(if n*sz=0 then pure #[]else do pure (Builtin.zeroCells (<-zeroValue elem).cells n):Sem (Array Value)).run P w'=.ok cs w'))
theorem asx(hw:WR φ base H w){sz n l x vx}(h:xr H sz x=some (n,l))(hx:VR φ x vx):
 ∃cs:Array Value,br φ l cs.toList/\l.length=n*sz/\(∀w,(Builtin.lenOf vx).run P w=.ok n w)/\(∀w',w'.heap=w.heap->(Builtin.firstCells sz n vx).run P w'=.ok cs w'):=by
 unfold xr at h;split at h
 .cases h;simp only[VR]at hx;subst hx;exact⟨#[],l8,by simp,λw=>by simp[Builtin.lenOf],λw' _=>by simp[Builtin.firstCells]⟩
 .cases h;obtain⟨a,rfl⟩:=hx;exact⟨#[],l8,by simp,λw=>by simp[Builtin.lenOf],λw' _=>by cases a<;>simp[Builtin.firstCells,loadCells,loadCellsFrom]⟩
 next id len s=>
  obtain⟨hb,hq⟩:=dj h;clear h;have hs:=dw hb;subst hs;clear hb;split at hq
  .cases hq;rcases hx with⟨_,rfl⟩|⟨e,y,c,he,rfl,hy,ot,jQ⟩
   .exact⟨#[],l8,by simp,λw=>by simp[Builtin.lenOf],λw' _=>by simp[Builtin.firstCells]⟩
   .exact⟨#[],l8,by simp,λw=>by simp[Builtin.lenOf],λw' _=>by simp[Builtin.firstCells,loadCells,loadCellsFrom]⟩
  next len=>
   split at hq;next vs el ho=>
    obtain⟨hl,hq⟩:=dj hq;have hl:=dw hl;injection hq with hq
    injection hq with h1 h2
    subst h1 h2;have hl:vs.length=(len+1)*s:=hl;show∃cs:Array Value,br φ vs cs.toList/\vs.length=(len+1)*s/\_;rcases hx with⟨h0,_⟩|⟨e,y,c,he,rfl,hy,ot,jQ⟩
    .cases h0
    .by_cases h0:(len+1)*s=0
     .have sJ:vs=[]:=mo (by omega);subst sJ;exact⟨#[],l8,by simp[h0],λw=>by simp[Builtin.lenOf],λw' _=>by simp[Builtin.firstCells,h0,loadCells,loadCellsFrom]⟩
     .have sL:y=e.o:=by rcases hy with h|h<;>omega
      subst sL;obtain⟨cs,h_,hg,cx,cA,hv,h1⟩:=hw.yQ (show yQ (H.gT id)=some vs by simp[yQ,ho]) he;have hv:=br.kW (dE.wD φ) _ _ hv;refine⟨((cs.toList.drop e.o).take ((len+1)*s)).toArray,by rw[hl]at hv;simpa using hv,hl,λw=>by simp[Builtin.lenOf],λw' hh=>?_⟩;have:=Gq (P:=P) (n:=(len+1)*s) (o:=e.o) (by rw[hh];exact hg) (by omega);simp[Builtin.firstCells,this]
   .cases hq
 next id off len cap s ex=>
  obtain⟨hb,h⟩:=dj h;have hs:=dw hb;subst hs;split at h;next vs jC=>
   have⟨r,hr,h⟩:=ud h;cases h;obtain⟨rfl,bS⟩:=DS hr;obtain⟨e,y,c,he,rfl,hy,ot,xH,jQ⟩:=hx;have⟨cs,el,hg,cx,cA,hv,h1⟩:=hw.OY jC he;by_cases h0:n*s=0
   .refine⟨#[],?_,by simp[h0],λw=>by simp[Builtin.lenOf],λw' _=>?_⟩
    .rw[h0];simp[br]
    .simp[Builtin.firstCells,h0,loadCells,loadCellsFrom]
   .have ajj:n≠0:=by rintro rfl;simp at h0
    have sL:y=e.o+off:=by rcases hy with h|h<;>omega
    subst sL;have jd:off+n*s<=vs.length:=by simp at bS;omega
    refine⟨((cs.toList.drop (e.o+off)).take (n*s)).toArray,?_,bS,λw=>by simp[Builtin.lenOf],λw' hh=>?_⟩
    .have h2:=(hv.yD off).yE (n*s);have e2:(((cs.toList.drop e.o).take vs.length).drop off).take (n*s)=(cs.toList.drop (e.o+off)).take (n*s):=by rw[zO,wM,Bq];congr 1;omega
     rw[e2]at h2;simpa using h2
    .have:=Gq (P:=P) (n:=n*s) (o:=e.o+off) (by rw[hh];exact hg) (by omega);simp[Builtin.firstCells,this]
  .cases h
 next s=>
  have⟨hb,h⟩:=dj h;have hs:=dw hb;subst hs;cases h;obtain⟨b,rfl,rfl⟩:=hx;refine⟨b.data.map λc=>.int .u8 c.toNat,?_,by simp,λw=>by simp[Builtin.lenOf,zY],λw' _=>?_⟩
  .refine afs (by simp[dL]) ?_;intro i a v h1 h2;simp only[dL,sa,Array.toList_map]at h1 h2;cases hq:b.data.toList[i]? with
   |none=>simp[hq]at h1
   |some u=>simp only[hq,r9,nX]at h1 h2;subst h1 h2;simp[VR]
  .have:b.extract 0 b.size=b:=by apply ads;simp[dL]
   simp[Builtin.firstCells,zY,this]
 next cs len s=>
  have⟨hb,hq⟩:=dj h;have hs:=dw hb;subst hs;injection hq with hq
  injection hq with h1 h2
  subst h1 h2;obtain⟨a,c,rfl,bS,hd⟩:=hx;by_cases h0:len*s=0
  .have sJ:cs=[]:=mo (by omega);subst sJ;refine⟨#[],l8,by simp[h0],λw=>by simp[Builtin.lenOf],λw' _=>?_⟩;cases a<;>simp[Builtin.firstCells,h0,loadCells,loadCellsFrom]
  .have hn0:len≠0:=by rintro rfl;simp at h0
   rcases hd with hd|⟨b,x,eK,el,fz,rfl,ot,gw,cx,hv⟩
   .exact absurd hd hn0
   .refine⟨((eK.toList.drop x).take (len*s)).toArray,?_,bS,λw=>by simp[Builtin.lenOf],λw' hh=>?_⟩
    .rw[bS]at hv;have hv:=br.kW (dE.wD φ) _ _ hv;simpa using hv
    .have:=Gq (P:=P) (n:=len*s) (o:=x) (by rw[hh];exact(hw.ro _ _ gw).1.2) (by omega);simp[Builtin.firstCells,this]
 next id len s=>
  have⟨hb,hq⟩:=dj h;have hs:=dw hb;subst hs;split at hq;next vs el ho=>
   have⟨hl,hq⟩:=dj hq;have hl:=dw hl;injection hq with hq
   injection hq with h1 h2
   subst h1 h2;rcases hx with⟨rfl,rfl⟩|⟨e,y,c,he,rfl,hy,ot,jQ⟩
   .have sJ:vs=[]:=mo (by omega);subst sJ;exact⟨#[],l8,by simp,λw=>by simp[Builtin.lenOf],λw' _=>by simp[Builtin.firstCells]⟩
   .by_cases h0:len*s=0
    .have sJ:vs=[]:=mo (by omega);subst sJ;exact⟨#[],l8,by simp[h0],λw=>by simp[Builtin.lenOf],λw' _=>by simp[Builtin.firstCells,h0,loadCells,loadCellsFrom]⟩
    .have ajj:len≠0:=by rintro rfl;simp at h0
     have sL:y=e.o:=by rcases hy with h|h<;>omega
     subst sL;have⟨cs,h_,hg,cx,cA,hv,h1⟩:=hw.OY (show H.qy id=some vs by simp[AH.qy,ho]) he;refine⟨((cs.toList.drop e.o).take (len*s)).toArray,by rw[hl]at hv;simpa using hv,hl,λw=>by simp[Builtin.lenOf],λw' hh=>?_⟩;have:=Gq (P:=P) (n:=len*s) (o:=e.o) (by rw[hh];exact hg) (by omega);simp[Builtin.firstCells,this]
  .cases hq
 .cases h
theorem aFl(hw:WR φ base H w){argTypes elem sz n l x vx}(h:GH P H argTypes elem sz x=some (n,l))(hx:VR φ x vx):yK P φ w argTypes elem sz n l vx:=by
 unfold GH at h;cases ht:argTypes[1]? with
 |none=>simp[ht]at h
 |some xt=>
  simp only[ht,ri]at h;split at h;next k hu=>
   split at h;next n' z hz=>
    have⟨hc,h⟩:=dj h;cases h;simp only[dc,vl]at hc;have⟨hn,hl⟩:=hc;have zr:=dw hl;simp at hx;subst hx;have⟨vz,h1,h2⟩:=Ag (φ:=φ) hz;have kz:=AV.tv h1;have ox:vz.cells.size=sz:=by have:=kz.jh;simp at this;omega
    have u0:=TS kz n;refine⟨xt,_,((Array.range (n*vz.cells.size)).map (vz.cells[· %vz.cells.size]!)),ht,hu,u0,by rw[TQ,zr],.inr ⟨rfl,rfl,hn,λw'=>?_⟩⟩;by_cases h0:n*sz=0
    .rw[aL h0,ox,h0,J0];rfl
    .rw[az h0];simp[h2 w',Builtin.zeroCells]
   .cases h
  next d tR hu=>
   have⟨cs,h1,h2,h3,h4⟩:=asx (P:=P) hw h hx;refine⟨xt,d,cs,ht,hu,h1,h2,.inl ⟨?_,h3,h4⟩⟩;cases d<;>first
    |rfl
    |(exact absurd rfl (tR _))
  .cases h
theorem auj(hw:WR φ base H w){ψ elem id off len sz n c l old vs kL e}{cs:Array Value}{ef Gd}(hm:m<=H.bx)(ho:H.bc id=some ef)(mT:ef.aR=true)(eU:∀o,OR φ ef e o->OR ψ (.al vs kL) e o)(he:φ id=some e)(zn:∀χ e o,dE φ χ->OR ψ (.al (old++l) elem) e o->OR χ Gd e o)(nP:oE vs off (len*sz)=some old)(hl:br ψ l cs.toList)(hln:l.length=n*sz)(h1:(old++l).all AV.cY=true)(jQ:e.o+off+c*sz<=e.n)(hc:len+n<=c):
 ∃w',(storeCells ⟨e.b,e.o+off+len*sz,none⟩ cs.toList).run P w=.ok () w'/\
  WR (jv φ H.bx ⟨e.b,e.o+off,e.n⟩) base ((H.cV id (.bm [])).eN Gd) w'/\
  cI m φ H (jv φ H.bx ⟨e.b,e.o+off,e.n⟩) ((H.cV id (.bm [])).eN Gd)/\cZ base w w':=by
 obtain⟨o,hg,tS⟩:=hw.eI id _ e ho he;obtain⟨mM,h_,rfl,cx,cA,hv,nQ⟩:=eU o tS;obtain⟨rfl,bS⟩:=DS nP;have fy:=hl.jh;have aai:len*sz+n*sz<=c*sz:=by rw[<-yi];exact TD sz hc
 have L_:=h1;rw[sY,dc]at L_;have dW:=run_storeCells_at P e.b (e.o+off+len*sz) h_ cs.toList 0 mM w hg (by omega) (AV.abM hl L_.2);simp only[Gi]at dW;have RW:=hw.y8 (cE H.bx);have aaf:=Lv (e:=⟨e.b,e.o+off,e.n⟩) RW;have aHM:id≠H.bx:=λh=>by rw[h,RW]at he;cases he
 refine⟨_,dW,?_,?_,cZ.NB hw he (Gs _ _ _) (λb hb=>Gr _ _ _ hb)⟩
 .have hk:=hw.zu (vs:=[]) ho;refine⟨?_,?_,?_,?_,hw.s8 rfl rfl (by rw[Ae,yz]) (λb h=>Gr _ _ _ (λhb=>hw.aaP h ho mT he hb.symm)) λi ob e1 a1 l1 a2=>.inl ?_⟩
  .intro i ob e1 a1 a2;rw[ml,nW]at a1;by_cases hi:i=H.bx
   .subst hi;rw[aL rfl]at a1;cases a1;rw[mL]at a2;cases a2;refine⟨_,setRow_heap w e.b mM _ h_ _ hg,zn _ _ _ aaf ⟨_,h_,rfl,?_,?_,?_,h1⟩⟩
    .have gQ:cs.size=n*sz:=by simp at fy;omega
     simp;omega
    .simp at bS⊢;omega
    .have I1:(List.take (len*sz) (List.drop off vs)++l).length=len*sz+n*sz:=by simp at bS⊢;omega
     rw[I1];have jd:len*sz=0\/off+len*sz<=vs.length:=by simp at bS;omega
     have e3:((List.take (e.o+off+len*sz) mM.toList++cs.toList++List.drop (e.o+off+len*sz+cs.toList.length) mM.toList).drop (e.o+off)).take (len*sz+n*sz)=(mM.toList.drop (e.o+off)).take (len*sz)++cs.toList:=by
      apply TJ;intro j;by_cases hj:j<len*sz+n*sz
      .rw[yf hj,vj,km];simp only[List.getElem?_append,wJ,qeb];rw[show min (e.o+off+len*sz) mM.toList.length=e.o+off+len*sz by simp;omega,show min (len*sz) (mM.toList.length-(e.o+off))=len*sz by simp;omega];by_cases h3:j<len*sz
       .rw[aL (by omega),aL h3,yf (by omega),yf h3,vj]
       .rw[az (by omega),az h3,show e.o+off+j-(e.o+off+len*sz)=j-len*sz by omega,aL (by omega)]
      .rw[Bo (by simp;omega),Bo (by simp;simp at fy;omega)]
     show br ψ _ (((List.take (e.o+off+len*sz) mM.toList++cs.toList++List.drop (e.o+off+len*sz+cs.toList.length) mM.toList).drop (e.o+off)).take (len*sz+n*sz));rw[e3];refine br.xf ?_ hl;have h2:=(hv.yD off).yE (len*sz);have e2:(((mM.toList.drop e.o).take vs.length).drop off).take (len*sz)=(mM.toList.drop (e.o+off)).take (len*sz):=by
      rcases jd with jd|jd
      .simp[jd]
      .rw[zO,wM,Bq];congr 1;omega
     rw[e2]at h2;exact h2
   .rw[az hi]at a1;simp only[jv,az hi]at a2;by_cases mS:ob.aR=true
    .have zk:i≠id:=by rintro rfl;rw[oV,aL rfl]at a1;cases a1;simp[bf.aR]at mS
     rw[oV,az zk]at a1;obtain⟨o,h3,h4⟩:=hw.eI i ob e1 a1 a2;have hb:=λh=>zk (hw.ji i id ob _ e1 e a1 mS a2 ho mT he h)
     exact⟨o,by rw[Gr _ _ _ hb];exact h3,h4.tg aaf⟩
    .cases ob<;>simp[bf.aR]at mS;have h5:=(hw.lt i e1 a2).1;rw[<-Gs w e.b (List.take (e.o+off+len*sz) mM.toList++cs.toList++List.drop (e.o+off+len*sz+cs.toList.length) mM.toList).toArray]at h5;exact⟨_,Bn h5,trivial⟩
  .intro i i' dn ie e1 e2 a1 l1 a2 a3 l2 a4 hb;rw[ml,nW]at a1 a3;have SE:∀{i ob},i≠H.bx->(H.cV id (.bm [])).bc i=some ob->ob.aR=true->i≠id/\H.bc i=some ob:=by
    intro i ob hi h hl;have zk:i≠id:=by rintro rfl;rw[oV,aL rfl]at h;cases h;simp[bf.aR]at hl
    rw[oV,az zk]at h;exact⟨zk,h⟩
   by_cases hi:i=H.bx<;>by_cases eD:i'=H.bx
   .rw[hi,eD]
   .exfalso;subst hi;rw[mL]at a2;cases a2;rw[az eD]at a3;simp only[jv,az eD]at a4;obtain⟨n1,n2⟩:=SE eD a3 l2;exact n1 (hw.ji i' id ie _ e2 e n2 l2 a4 ho mT he hb.symm)
   .exfalso;subst eD;rw[mL]at a4;cases a4;rw[az hi]at a1;simp only[jv,az hi]at a2;have⟨n1,n2⟩:=SE hi a1 l1;exact n1 (hw.ji i id dn _ e1 e n2 l1 a2 ho mT he hb)
   .rw[az hi]at a1;rw[az eD]at a3;simp only[jv,az hi]at a2;simp only[jv,az eD]at a4;have⟨_,n2⟩:=SE hi a1 l1;have⟨_,n4⟩:=SE eD a3 l2;exact hw.ji i i' dn ie e1 e2 n2 l1 a2 n4 l2 a4 hb
  .intro i e1 a2;rw[Gs,rU,nW];by_cases hi:i=H.bx
   .subst hi;rw[mL]at a2;cases a2;have:=hw.lt id e he;exact⟨this.1,this.2.1,by omega⟩
   .simp only[jv,az hi]at a2;have:=hw.lt i e1 a2;exact⟨this.1,this.2.1,by omega⟩
  .intro i ob a1;rw[ml,nW]at a1;rw[rU,nW];by_cases hi:i=H.bx
   .omega
   .rw[az hi]at a1;have:=hk.nx i ob a1;rw[nW]at this;omega
  .rw[ml,nW]at a1;by_cases hi:i=H.bx
   .subst hi;rw[mL]at a2;cases a2;exact⟨id,_,e,ho,mT,he,rfl⟩
   .rw[az hi]at a1;simp only[jv,az hi]at a2;have zk:i≠id:=by rintro rfl;rw[oV,aL rfl]at a1;cases a1;simp[bf.aR]at l1
    rw[oV,az zk]at a1;exact⟨i,ob,e1,a1,l1,a2,rfl⟩
 .refine⟨aaf,by rw[rU,nW];omega,λi hi hn=>⟨?_,?_⟩,.of (by rw[Ae,yz]) rfl⟩
  .simp only[jv];rw[az (by omega)];exact hn
  .exact .inl (by rw[ml,nW,az (by omega),oV,az (λh=>by subst h;rw[he]at hn;cases hn)])
end
section
variable{P:Program}{φ:cn}{base:fN}{m:Nat}{H:AH}{w:World}{ρ:Operand->Option AV}{ev:Operand->Value}
theorem BQ{ts T t elem vs x a len c sz n gB l}(ht:ts[0]? =some t)(hu:P.underlying t=some (.slice elem))(v0:vs[0]? =some (.slice a len c))(v1:vs[1]? =some x)(hs:cW P elem=some sz)(jl:uG P elem=some gB)(hb:gB<=4194304)(jB:yK P φ w ts elem sz n l x)(jQ:len+n<=c):
 ∃cs:Array Value,br φ l cs.toList/\l.length=n*sz/\∀w',(match a with|some a=>storeCells (a.add (len*sz)) cs.toList|none=>pure ():Sem Unit).run P w=.ok () w'->
  (Builtin.append_ ts T vs).run P w=.ok (.slice a (len+n) c) w':=by
 obtain⟨xt,d,cs,t1,tu,h1,h2,h3⟩:=jB;refine⟨cs,h1,h2,λw' gK=>?_⟩;unfold Builtin.append_;simp only[ht,v0,v1,Sem.run_bind,run_underlying hu w,Result.andThen_ok,jI hs w,t1,run_underlying tu w];rcases h3 with⟨hd,hn,hc⟩|⟨hd,rfl,hn,hc⟩
 .have uR:=hc w rfl;split
  .simp[Jb]at hd
  .simp only[Sem.run_pure,Result.andThen_ok,JQ,if_false,Sem.run_bind,hn w,aL jQ,Bool.not_false,if_true,uR];cases a with
   |none=>simp at gK;subst gK;rfl
   |some a=>simp only[Sem.run_bind,gK,Result.andThen_ok,Sem.run_pure]
 .have uR:=hc w;have hwn:IntKind.i64.wrap (n:Int)=n:=IntWalk.i64_in _ (by omega);have⟨ti,FQ,MV⟩:=X9 jl w;have aai:(n:Int)*gB<=2^48:=by
   have:=Nat.mul_le_mul hn hb;have h':((n*gB:Nat):Int)<=((4194304*4194304:Nat):Int):=by exact_mod_cast this
   simp at h';omega
  have q1:¬((n:Int)<0):=by omega
  have q2:¬((n:Int)*(ti.bytes:Int)>2^48):=by rw[MV];omega
  split
  .simp only[Sem.run_pure,Result.andThen_ok,if_true,Sem.run_bind,asInt,asIntOf,hwn,az q1,FQ,az q2,Int.toNat_natCast,aL jQ,Bool.not_true,JQ,if_false,uR];cases a with
   |none=>simp at gK;subst gK;rfl
   |some a=>simp only[Sem.run_bind,gK,Result.andThen_ok,Sem.run_pure]
  next tR=>cases d<;>first|(exact absurd rfl (tR _))|(simp[Jb]at hd)
theorem P3{ts T t elem vs x a len c sz n gB l old zs}(ht:ts[0]? =some t)(hu:P.underlying t=some (.slice elem))(v0:vs[0]? =some (.slice a len c))(v1:vs[1]? =some x)(hs:cW P elem=some sz)(jl:uG P elem=some gB)(hb:gB<=4194304)(jB:yK P φ w ts elem sz n l x)(jQ:c<len+n)(R3:len+n<=4194304){vz}(hz:∀w,(zeroValue elem).run P w=.ok vz w)(nP:∀w',w'.heap=w.heap->(Builtin.firstCells sz len (.slice a len c)).run P w'=.ok old w')(ox:zs=vz.cells):
 ∃(cs:Array Value) (iY:Nat),len+n<=iY/\br φ l cs.toList/\l.length=n*sz/\
  (Builtin.append_ ts T vs).run P w=.ok (.slice (some ⟨w.heap.size,0,none⟩) (len+n) iY) (w.drew.alloc (.cells (old++cs++Builtin.zeroCells zs (iY-(len+n))) elem (0,0))):=by
 obtain⟨xt,d,cs,t1,tu,h1,h2,h3⟩:=jB;subst ox;refine⟨cs,(Question.appendCap (len+n) c elem).cut (w.tape w.drawn (.appendCap (len+n) c elem)),?_,h1,h2,?_⟩
 .simp only[Question.cut];omega
 have mh:¬(len+n<=c):=by omega
 obtain⟨ti,FQ,MV⟩:=X9 jl w;have ai1:¬(((len+n:Nat):Int)>IntKind.i64.max):=by
  have:IntKind.i64.max=9223372036854775807:=by rfl
  rw[this];omega
 have CH:¬(Builtin.nextslicecap (len+n) c*ti.bytes>2^48):=by have h4:=axn jQ;have h5:Builtin.nextslicecap (len+n) c*ti.bytes<=16000000*4194304:=Nat.mul_le_mul (by omega) (by omega);omega
 have aau:∀w',(typeInfo elem).run P w'=.ok ti w':=by
  intro w';cases hq:P.info? elem with
  |none=>simp[uG,hq]at jl
  |some i=>have:=run_typeInfo w hq;rw[FQ]at this;cases this;exact run_typeInfo w' hq
 have ai9:(Question.appendCap (len+n) c elem).forced=false:=rfl;have ajr:=nP w.drew rfl;unfold Builtin.append_;simp only[ht,v0,v1,Sem.run_bind,run_underlying hu w,Result.andThen_ok,jI hs w,t1,run_underlying tu w];rcases h3 with⟨hd,hn,hc⟩|⟨hd,rfl,hn,hc⟩
 .have uR:=hc w.drew rfl;split
  .simp[Jb]at hd
  .simp only[Sem.run_pure,Result.andThen_ok,JQ,if_false,Sem.run_bind,hn w,az mh,Bool.not_false,if_true];simp only[aau,Result.andThen_ok];rw[az (λh=>ai1 h.1)];simp only[Sem.run_bind,aau,Result.andThen_ok,az CH,run_choose_drew,ai9,JQ,if_false,run_askRoom,ajr,uR,hz,newRow,PW,Sem.run_pure];rfl
 .have uR:=hc w.drew;have hwn:IntKind.i64.wrap (n:Int)=n:=IntWalk.i64_in _ (by omega);have aai:(n:Int)*gB<=2^48:=by
   have:=Nat.mul_le_mul hn hb;have h':((n*gB:Nat):Int)<=((4194304*4194304:Nat):Int):=by exact_mod_cast this
   simp at h';omega
  have q1:¬((n:Int)<0):=by omega
  have q2:¬((n:Int)*(ti.bytes:Int)>2^48):=by rw[MV];omega
  split
  .simp only[Sem.run_pure,Result.andThen_ok,if_true,Sem.run_bind,asInt,asIntOf,hwn,az q1,FQ,az q2,Int.toNat_natCast,az mh,Bool.not_true,JQ,if_false];rw[az (λh=>ai1 h.1)];simp only[Sem.run_bind,aau,Result.andThen_ok,az CH,run_choose_drew,ai9,JQ,if_false,run_askRoom,ajr,uR,hz,newRow,PW,Sem.run_pure];rfl
  next tR=>cases d<;>first|(exact absurd rfl (tR _))|(simp[Jb]at hd)
end
section
variable{P:Program}{φ:cn}{base:fN}{m:Nat}{H:AH}{w:World}{ρ:Operand->Option AV}{ev:Operand->Value}
theorem Ua{l all lZ elem el n}(h:br φ l all.toList)(h1:l.all AV.cY=true)(hn:all.size+lZ.size=n):
 ∀ψ b,dE φ ψ->OR ψ (.al l elem) ⟨b,0,n⟩ (.cells (all++lZ) el (0,0)):=by
 intro ψ b cA;have hl:=h.jh;refine⟨_,el,rfl,by simp;omega,by simp at hl⊢;omega,?_,h1⟩;have:((all++lZ).toList.drop 0).take l.length=all.toList:=by simp;rw[hl,yh];rfl
 rw[this];exact br.kW cA _ _ h
theorem Vc(z n):(Builtin.zeroCells z n).size=n*z.size:=by simp[Builtin.zeroCells]
theorem Ro(hw:WR φ base H w)(hb:iv base w)(hm:m<=H.bx){ψ ts T t elem kL vs v vx sz k gB id off len y c e l old cells vz ef Gd}(zu)(ht:ts[0]? =some t)(hu:P.underlying t=some (.slice elem))(v0:vs[0]? =some (.slice (some ⟨e.b,y,none⟩) len c))(v1:vs[1]? =some vx)(hs:cW P elem=some sz)(jl:uG P elem=some gB)(fI:gB<=4194304)(ox:vz.cells.size=sz)(kz:∀w,(zeroValue elem).run P w=.ok vz w)(jB:yK P φ w ts elem sz (k+1) l vx)(R3:len+(k+1)<=4194304)(he:φ id=some e)(hy:c=0\/y=e.o+off)(ot:len<=c)(jQ:e.o+off+c*sz<=e.n)(au5:zu=false->c<len+(k+1))(ho:H.bc id=some ef)(mT:ef.aR=true)(eU:∀o,OR φ ef e o->OR ψ (.al cells kL) e o)(zn:∀χ e o,dE φ χ->OR ψ (.al (old++l) elem) e o->OR χ Gd e o)(nP:oE cells off (len*sz)=some old)(MO:∀vs,br φ l vs->br ψ l vs)(nQ:(old++l).all AV.cY=true)(xQ:∀χ e' x c',χ H.bx=some e'->x=e'.o->len+(k+1)<=c'->e'.o+c'*sz<=e'.n->VR χ v (.slice (some ⟨e'.b,x,none⟩) (len+(k+1)) c')):
 fc P m base φ H w (do pure (.value (<-Builtin.append_ ts T vs)):Sem Next) v (AH.eN (bif zu then H.cV id (.bm [])else H) Gd):=by
 have FB:WR φ base H w.drew:=hw.sj rfl;have⟨o,hg,tS⟩:=hw.eI id _ e ho he;obtain⟨mM,h_,rfl,cx,cA,jC,_⟩:=eU o tS;have⟨I6,I7⟩:=DS nP;by_cases hr:len+(k+1)<=c
 .
  have qY:zu=true:=by
   cases zu
   .have:=au5 rfl;omega
   .rfl
  subst qY;simp;have sL:y=e.o+off:=by rcases hy with h|h<;>omega
  subst sL;have⟨cs,h1,h2,h3⟩:=BQ (T:=T) ht hu v0 v1 hs jl fI jB hr;have⟨w',b1,b2,b3,b4⟩:=auj (P:=P) hw hm ho mT eU he zn nP (MO _ h1) h2 nQ jQ hr;have h4:=h3 w' (by simp only[yL];exact b1);exact fc.of h4 (xQ _ ⟨e.b,e.o+off,e.n⟩ (e.o+off) c (mL _ _ _) rfl hr jQ) b2 b3 b4
 .
  have auW:∃JF:Array Value,br ψ old JF.toList/\∀w',w'.heap=w.heap->(Builtin.firstCells sz len (.slice (some ⟨e.b,y,none⟩) len c)).run P w'=.ok JF w':=by
   by_cases h0:len*sz=0
   .refine⟨#[],?_,λw' _=>by simp[Builtin.firstCells,h0,loadCells,loadCellsFrom]⟩;have:old=[]:=by rw[h0]at I7;exact mo I7
    rw[this];exact l8
   .have ajj:len≠0:=by rintro rfl;simp at h0
    have sL:y=e.o+off:=by rcases hy with h|h<;>omega
    subst sL;have jd:off+len*sz<=cells.length:=by rw[I6]at I7;simp at I7;omega
    refine⟨((mM.toList.drop (e.o+off)).take (len*sz)).toArray,?_,λw' hh=>?_⟩
    .have h2:=(jC.yD off).yE (len*sz);have e2:(((mM.toList.drop e.o).take cells.length).drop off).take (len*sz)=(mM.toList.drop (e.o+off)).take (len*sz):=by rw[zO,wM,Bq];congr 1;omega
     rw[e2]at h2;rw[I6];simpa using h2
    .have:=Gq (P:=P) (n:=len*sz) (o:=e.o+off) (by rw[hh];exact hg) (by omega);simp[Builtin.firstCells,this]
  have⟨JF,o1,o2⟩:=auW;have⟨cs,iY,avc,h1,h2,h3⟩:=P3 (T:=T) ht hu v0 v1 hs jl fI jB (by omega) R3 kz o2 rfl;have gQ:cs.size=(k+1)*sz:=by have:=h1.jh;simp at this;omega
  have Sa:JF.size=len*sz:=by have:=o1.jh;simp at this;omega
  have FM:(JF++cs).size+(Builtin.zeroCells vz.cells (iY-(len+(k+1)))).size=iY*sz:=by
   rw[Vc,ox];have h6:len*sz+(k+1)*sz+(iY-(len+(k+1)))*sz=iY*sz:=by rw[<-yi,<-yi];congr 1;omega
   rw[Array.size_append,gQ,Sa];omega
  have v_:br ψ (old++l) (JF++cs).toList:=by rw[DK];exact o1.xf (MO _ h1)
  have aI:∀H1:AH,WR φ base H1 w.drew->H1.bx=H.bx->cI m φ H φ H1->
   fc P m base φ H w (do pure (.value (<-Builtin.append_ ts T vs)):Sem Next) v (AH.eN H1 Gd):=by
   intro H1 ll hn1 xI;have⟨a1,a2,a3⟩:=ll.zy (m:=m) (show iv base w.drew from hb) (λχ b cA=>zn χ _ _ cA (Ua (el:=elem) v_ nQ FM ψ b (dE.refl _))) (by omega);refine fc.of h3 ?_ a1 (xI.uB a2) ((cZ.sj rfl).tf a3);rw[hn1];exact xQ _ _ 0 iY (mL _ _ _) rfl avc (by show 0+iY*sz<=iY*sz;omega)
  cases zu
  .simp;exact aI _ FB rfl (cI.jX _ _ _)
  .simp;exact aI _ (FB.zu ho) (nW _ _ _) (cI.o8 he _)
theorem aiC(hw:WR φ base H w)(hb:iv base w)(hm:m<=H.bx){ts T t elem vs v wX vx sz k gB id len l H' z vz}(ht:ts[0]? =some t)(hu:P.underlying t=some (.slice elem))(v0:vs[0]? =some wX)(v1:vs[1]? =some vx)(hs:cW P elem=some sz)(jl:uG P elem=some gB)(fI:gB<=4194304)(hz:VR φ z vz)(kz:∀w,(zeroValue elem).run P w=.ok vz w)(zr:z.dQ.length=sz)(jB:yK P φ w ts elem sz (k+1) l vx)(hv:VR φ (.aj id len sz) wX)(qV:len+(k+1)<=4194304)(hq:v5 H elem id len sz (k+1) l=some (v,H')):
 fc P m base φ H w (do pure (.value (<-Builtin.append_ ts T vs)):Sem Next) v H':=by
 have ox:vz.cells.size=sz:=by have:=(AV.tv hz).jh;simp at this;omega
 have FB:WR φ base H w.drew:=hw.sj rfl;unfold v5 at hq;split at hq;next cells kL ho=>
  have⟨jN,hq⟩:=dj hq;simp only[dc]at jN;have⟨⟨hl,Mc⟩,mi⟩:=jN;have hl:=dw hl;cases hq;have MO:∀vs,br φ l vs->br φ.pu l vs:=λvs h=>br.xg _ _ (by rw[wF];exact mi) h
  rcases hv with⟨rfl,rfl⟩|⟨e,y,c,he,rfl,hy,ot,jQ⟩
  .have sJ:cells=[]:=mo (by omega);subst sJ;have⟨cs,iY,cA,h1,h2,h3⟩:=P3 (T:=T) (old:= #[]) ht hu v0 v1 hs jl fI jB (by omega) (by omega) kz (λw' _=>by simp[Builtin.firstCells]) rfl;have gQ:cs.size=(k+1)*sz:=by have:=h1.jh;simp at this;omega
   have FM:(#[]++cs).size+(Builtin.zeroCells vz.cells (iY-(0+(k+1)))).size=iY*sz:=by
    rw[Vc,ox];have h6:(k+1)*sz+(iY-(0+(k+1)))*sz=iY*sz:=by rw[<-yi];congr 1;omega
    rw[Array.size_append,gQ];simp only[List.size_toArray,gY];omega
   obtain⟨a1,a2,a3⟩:=(FB.zu ho).zy (show iv base w.drew from hb) (λχ b cA=>WS cA (el:=elem) (Ua (by simpa using MO _ h1) (by simpa using Mc) FM φ.pu b (dE.refl _))) (by rw[nW];exact hm);refine fc.of h3 ?_ a1 ((cI.aA ho _).uB a2) ((cZ.sj rfl).tf a3);right;rw[nW];exact⟨_,0,iY,mL _ _ _,by simp,.inr rfl,by omega,by show 0+iY*sz<=iY*sz;omega⟩
  .obtain⟨o,hg,mM,h_,rfl,cx,cA,jC,za⟩:=hw.eI id _ e ho he;have nP:oE cells 0 (len*sz)=some cells:=by
    have e0:(cells.drop 0).take (len*sz)=cells:=by rw[ye,<-hl,s6]
    unfold oE;simp only[e0,hl,Tr.ua,decide_true,cond_true]
   exact Ro (kL:=elem) hw hb hm true ht hu v0 v1 hs jl fI ox kz jB qV he (by simpa using hy) ot (by simpa using jQ) (λh=>by cases h) ho rfl (λo h=>h) (λχ e o cA h=>WS cA h) nP MO
    (by rw[sY,dc];exact⟨za,Mc⟩)
    (λχ e' x c' h1 h2 h3 h4=>by simp only[VR];exact .inr ⟨e',x,c',h1,rfl,.inr h2,h3,h4⟩)
 .cases hq
theorem yK.mono{φ ψ}(h:dE φ ψ){w ts elem sz n l x}(h1:yK P φ w ts elem sz n l x):yK P ψ w ts elem sz n l x:=
 let⟨xt,d,cs,a,b,c,r⟩:=h1
 ⟨xt,d,cs,a,b,br.kW h _ _ c,r⟩
theorem axP{m sz r v H' s}(hr:∀v H1,r=some (v,H1)->fc P m base φ H w s v H1)(hz:∀id len g_ H1,r=some (.aj id len g_,H1)->g_=sz/\len≠0)(h:Ge sz r=some (v,H')):fc P m base φ H w s v H':=by
 unfold Ge at h;split at h;next id len g_ H1=>
  obtain⟨rfl,sJ⟩:=hz _ _ _ _ rfl;have⟨jW,w1,v1,h1,h2,h3,h4,h5⟩:=hr _ _ rfl;have⟨⟨nm,H2⟩,hx,h⟩:=ud h;cases h;rcases h2 with⟨h0,_⟩|⟨e,x,c,he,hv⟩
  .exact absurd h0 sJ
  .unfold QZ at hx;split at hx;next vs el ho=>have⟨kV,g1,g2,g3⟩:=h3.Vi ho rfl he (λh=>h) hx m;exact⟨kV,w1,v1,h1,(by simp;exact .inr ⟨e,x,c,g1,hv.1,hv.2.1,hv.2.2.1,hv.2.2.2,sJ⟩),g2,h4.uB g3,h5⟩
   next vs el ho=>have⟨hp,hq⟩:=dj hx;have⟨kV,g1,g2,g3⟩:=h3.Vi ho rfl he (λh=>let⟨cs,el,a,b,c,d,f⟩:=h;⟨cs,el,a,b,c,br.xg _ _ (by rw[wF];exact hp) d,f⟩) hq m;exact⟨kV,w1,v1,h1,(by simp;exact .inr ⟨e,x,c,g1,hv.1,hv.2.1,hv.2.2.1,hv.2.2.2,sJ⟩),g2,h4.uB g3,h5⟩
   .cases hx
 .cases h
theorem auh{H elem id len sz n l v H'}(h:v5 H elem id len sz n l=some (v,H')):v=.aj H.bx (len+n) sz:=by
 unfold v5 at h;split at h
 .have⟨_,h⟩:=dj h;cases h;rfl
 .cases h
theorem aui(hw:WR φ base H w)(hb:iv base w)(hm:m<=H.bx){ts T t elem vs v wX vx sz k gB id len l H' z vz}(ht:ts[0]? =some t)(hu:P.underlying t=some (.slice elem))(v0:vs[0]? =some wX)(v1:vs[1]? =some vx)(hs:cW P elem=some sz)(jl:uG P elem=some gB)(fI:gB<=4194304)(hz:VR φ z vz)(kz:∀w,(zeroValue elem).run P w=.ok vz w)(zr:z.dQ.length=sz)(jB:yK P φ w ts elem sz (k+1) l vx)(hv:VR φ (.fE id len sz) wX)(qV:len+(k+1)<=4194304)(hq:Iw H elem id len sz (k+1) l=some (v,H')):
 fc P m base φ H w (do pure (.value (<-Builtin.append_ ts T vs)):Sem Next) v H':=by
 have Na:∀{Ve:cn} {H0:AH} {i:Nat},WR Ve base H0 w->cI m φ H Ve H0->m<=H0.bx->VR Ve (.aj i len sz) wX->Ge sz (v5 H0 elem i len sz (k+1) l)=some (v,H')->fc P m base φ H w (do pure (.value (<-Builtin.append_ ts T vs)):Sem Next) v H':=by
  intro Ve H0 i g1 g2 g3 g4 g5;have⟨jW,w1,v1,h1,h2,h3,h4,h5⟩:=axP (s:=(do pure (.value (<-Builtin.append_ ts T vs)):Sem Next))
   (λv H1 h=>aiC g1 hb g3 ht hu v0 v1 hs jl fI (VR.ez g2.1 _ _ hz) kz zr (jB.mono g2.1) g4 qV h)
   (λid cG g_ H1 h=>by have:=auh h;cases this;exact⟨rfl,by omega⟩) g5
  exact⟨jW,w1,v1,h1,h2,h3,g2.uB h4,h5⟩
 unfold Iw at hq;split at hq
 .refine Na (hw.new (.aA [] elem)) (cI.new hm _) (by rw[rU];omega) ?_ hq;rcases hv with⟨_,rfl⟩|⟨e,x,c,he,rfl,hy,ot,jQ,h0⟩
  .exact .inl ⟨rfl,rfl⟩
  .exact absurd rfl h0
 .split at hq;next len i H0 hi=>
   unfold Sn at hi;split at hi;next U_ el ho=>
    cases hi;rcases hv with⟨h0,_⟩|⟨e,x,c,he,hv⟩
    .cases h0
    .have⟨g1,g2⟩:=hw.import ho he (λh=>h) hm;exact Na g1 g2 (by rw[rU,Ds];omega) (by simp;exact .inr ⟨e,x,c,mL _ _ _,hv.1,hv.2.1,hv.2.2.1,hv.2.2.2.1⟩) hq
   .cases hi
  .cases hq
theorem aqf(hw:WR φ base H w)(hb:iv base w)(hm:m<=H.bx){ts T t elem vs s v wX vx sz n gB l H' z vz}(ht:ts[0]? =some t)(hu:P.underlying t=some (.slice elem))(v0:vs[0]? =some wX)(v1:vs[1]? =some vx)(hs:cW P elem=some sz)(jl:uG P elem=some gB)(fI:gB<=4194304)(hz:VR φ z vz)(kz:∀w,(zeroValue elem).run P w=.ok vz w)(zr:z.dQ.length=sz)(jB:yK P φ w ts elem sz n l vx)(hv:VR φ s wX)(h:mJ H elem sz s n l=some (v,H')):
 fc P m base φ H w (do pure (.value (<-Builtin.append_ ts T vs)):Sem Next) v H':=by
 have ox:vz.cells.size=sz:=by have:=(AV.tv hz).jh;simp at this;omega
 have FB:WR φ base H w.drew:=hw.sj rfl;unfold mJ at h;split at h
 .obtain⟨a,rfl⟩:=hv;cases n with
  |zero=>
   cases h;obtain⟨cs,h1,h2,h3⟩:=BQ (P:=P) (T:=T) ht hu v0 v1 hs jl fI jB (cE _);have gQ:cs.toList=[]:=by have:=h1.jh;rw[h2]at this;simpa using this.symm
   exact fc.of (h3 w (by rw[gQ];cases a<;>rfl)) (by simp[VR]) hw (cI.jX _ _ _) (cZ.kr _ _)
  |succ k=>
   obtain⟨hc,h⟩:=dj h;cases h;simp only[dc,vl]at hc;obtain⟨cs,iY,cA,h1,h2,h3⟩:=P3 (P:=P) (T:=T) (old:= #[]) (a:=a) (len:=0) (c:=0) ht hu v0 v1 hs jl fI jB (by omega) (by omega) kz (λw' _=>by cases a<;>simp[Builtin.firstCells,loadCells,loadCellsFrom]) rfl;have gQ:cs.size=(k+1)*sz:=by have:=h1.jh;simp at this;omega
   have FM:(#[]++cs).size+(Builtin.zeroCells vz.cells (iY-(0+(k+1)))).size=iY*sz:=by
    rw[Vc,ox];have h6:(k+1)*sz+(iY-(0+(k+1)))*sz=iY*sz:=by rw[<-yi];congr 1;omega
    rw[Array.size_append,gQ];simp only[List.size_toArray,gY];omega
   obtain⟨a1,a2,a3⟩:=FB.zy (m:=m) (show iv base w.drew from hb) (Ua (elem:=elem) (el:=elem) (by simpa using h1) hc.2 FM) hm;refine fc.of h3 ?_ a1 a2 ((cZ.sj (base:=base) (w':=w.drew) rfl).tf a3);simp only[VR];refine⟨_,0,iY,mL _ _ _,by rw[kD];rfl,.inr rfl,by omega,(λh=>by cases h),?_⟩;show 0+0+iY*sz<=iY*sz;omega
 next id len g_=>
  obtain⟨hc,hq⟩:=dj h;clear h;simp only[dc,vl]at hc;have I8:sz=g_:=dw hc.1;subst I8;have u5:=hv;cases n with
  |zero=>
   cases hq;rcases hv with⟨rfl,rfl⟩|⟨e,y,c,he,rfl,hy,ot,jQ⟩
   .obtain⟨cs,h1,h2,h3⟩:=BQ (P:=P) (T:=T) ht hu v0 v1 hs jl fI jB (cE _);exact fc.of (h3 w rfl) u5 hw (cI.jX _ _ _) (cZ.kr _ _)
   .obtain⟨cs,h1,h2,h3⟩:=BQ (P:=P) (T:=T) ht hu v0 v1 hs jl fI jB (by omega);have gQ:cs.toList=[]:=by have:=h1.jh;rw[h2]at this;simpa using this.symm
    exact fc.of (h3 w (by rw[gQ];rfl)) u5 hw (cI.jX _ _ _) (cZ.kr _ _)
  |succ k=>exact aui hw hb hm ht hu v0 v1 hs jl fI hz kz zr jB hv hc.2 hq
 .simp only[VR]at hv;subst hv;cases n with
  |zero=>cases h;obtain⟨cs,h1,h2,h3⟩:=BQ (P:=P) (T:=T) ht hu v0 v1 hs jl fI jB (cE _);exact fc.of (h3 w rfl) (by simp[VR]) hw (cI.jX _ _ _) (cZ.kr _ _)
  |succ k=>
   obtain⟨hc,h⟩:=dj h;cases h;simp only[dc,vl]at hc;obtain⟨cs,iY,cA,h1,h2,h3⟩:=P3 (P:=P) (T:=T) (old:= #[]) (a:=none) (len:=0) ht hu v0 v1 hs jl fI jB (by omega) (by omega) kz (λw' _=>by simp[Builtin.firstCells]) rfl;have gQ:cs.size=(k+1)*sz:=by have:=h1.jh;simp at this;omega
   have FM:(#[]++cs).size+(Builtin.zeroCells vz.cells (iY-(0+(k+1)))).size=iY*sz:=by
    rw[Vc,ox];have h6:(k+1)*sz+(iY-(0+(k+1)))*sz=iY*sz:=by rw[<-yi];congr 1;omega
    rw[Array.size_append,gQ];simp only[List.size_toArray,gY];omega
   obtain⟨a1,a2,a3⟩:=FB.zy (show iv base w.drew from hb) (Ua (by simpa using h1) hc.2 FM) hm;refine fc.of h3 ?_ a1 a2 ((cZ.sj rfl).tf a3);simp only[VR];refine⟨_,0,iY,mL _ _ _,by rw[kD];rfl,.inr rfl,by omega,(λh=>by cases h),?_⟩;show 0+0+iY*sz<=iY*sz;omega
 next id off len cap g_ ex=>
  obtain⟨hc,h⟩:=dj h;simp only[dc,vl]at hc;have I8:=dw hc.1;subst I8;have u5:=hv;obtain⟨e,y,c,he,rfl,hy,ot,xH,jQ⟩:=hv;cases n with
  |zero=>
   cases h;obtain⟨cs,h1,h2,h3⟩:=BQ ht hu v0 v1 hs jl fI jB (by omega);have gQ:cs.toList=[]:=by have:=h1.jh;rw[h2]at this;simpa using this.symm
   refine fc.of (h3 w (by rw[gQ];rfl)) u5 hw (cI.jX _ _ _) (cZ.kr _ _)
  |succ k=>
   simp only at h;have xF:∀{kl:Bool},(ex&&Nat.ble (cap+1) (len+(k+1)))=kl->kl=true->c<len+(k+1):=by
    intro kl h1 h2;subst h2;cases ex
    .simp at h1
    .have:=xH rfl;simp only[r7,vl]at h1;omega
   have xQ:∀(χ:cn) (e':PE) (x c':Nat),χ H.bx=some e'->x=e'.o->len+(k+1)<=c'->e'.o+c'*sz<=e'.n->VR χ (.bw H.bx 0 (len+(k+1)) 1 sz false) (.slice (some ⟨e'.b,x,none⟩) (len+(k+1)) c'):=by intro χ e' x c' h1 h2 h3 h4;exact⟨e',x,c',h1,rfl,.inr (by simpa using h2),h3,(λh=>by cases h),by simpa using h4⟩
   have hif:∀(kl:Bool) (x y:AH),(bif kl then x else y)=(bif !kl then y else x):=by intro kl x y;cases kl<;>rfl
   unfold Fh at h;split at h;next cells kL ho=>
    split at h;next old nP=>have⟨nQ,hq⟩:=dj h;cases hq;rw[hif];exact Ro hw hb hm _ ht hu v0 v1 hs jl fI ox kz jB hc.2 he hy ot jQ (λhk=>xF rfl (by simpa using hk)) ho rfl (λo h=>h) (λχ e o cA h=>h.tg cA) nP (λ_ h=>h) nQ xQ
    .cases h
   next cells kL ho=>
    split at h;next old nP=>
     have⟨nQ,hq⟩:=dj h;simp only[dc]at nQ;cases hq;rw[hif];obtain⟨o,hg,mM,h_,rfl,cx,cA,jC,za⟩:=hw.eI id _ e ho he;have⟨I6,I7⟩:=DS nP;have aak:(old++l).all AV.cY=true:=by rw[sY,dc];refine⟨?_,nQ.1⟩;rw[I6];rw[mq]at za⊢;exact λx hx=>za x (JT (Gh hx))
     exact Ro (kL:=elem) hw hb hm _ ht hu v0 v1 hs jl fI ox kz jB hc.2 he hy ot jQ (λhk=>xF rfl (by simpa using hk)) ho rfl (λo h=>h) (λχ e o cA h=>ae4 cA h) nP (λvs h=>br.xg _ _ (by rw[wF];exact nQ.2) h) aak xQ
    .cases h
   next cells kL ho=>
    split at h;next old nP=>
     have⟨nQ,hq⟩:=dj h;simp only[dc]at nQ;cases hq;rw[hif];obtain⟨o,hg,mM,h_,rfl,cx,cA,jC,za⟩:=hw.eI id _ e ho he;have⟨I6,I7⟩:=DS nP;have aak:(old++l).all AV.cY=true:=by rw[sY,dc];refine⟨?_,nQ.1⟩;rw[I6];rw[mq]at za⊢;exact λx hx=>za x (JT (Gh hx))
     exact Ro (kL:=elem) hw hb hm _ ht hu v0 v1 hs jl fI ox kz jB hc.2 he hy ot jQ (λhk=>xF rfl (by simpa using hk)) ho rfl (λo h=>h) (λχ e o cA h=>WS cA h) nP (λvs h=>br.xg _ _ (by rw[wF];exact nQ.2) h) aak xQ
    .cases h
   .cases h
 next id len g_=>
  have⟨hc,hq⟩:=dj h;simp only[dc,vl]at hc;have I8:=dw hc.1;subst I8;have u5:=hv;cases n with
  |zero=>
   cases hq;rcases hv with⟨rfl,rfl⟩|⟨e,y,c,he,rfl,hy,ot,jQ⟩
   .have⟨cs,h1,h2,h3⟩:=BQ (T:=T) ht hu v0 v1 hs jl fI jB (cE _);exact fc.of (h3 w rfl) u5 hw (cI.jX _ _ _) (cZ.kr _ _)
   .have⟨cs,h1,h2,h3⟩:=BQ (T:=T) ht hu v0 v1 hs jl fI jB (by omega);have gQ:cs.toList=[]:=by have:=h1.jh;rw[h2]at this;simpa using this.symm
    exact fc.of (h3 w (by rw[gQ];rfl)) u5 hw (cI.jX _ _ _) (cZ.kr _ _)
  |succ k=>exact aiC hw hb hm ht hu v0 v1 hs jl fI hz kz zr jB hv hc.2 hq
 .cases h
theorem fc.aA{s v H'}(h:fc P m base φ H w s v H'):fc P m base φ H w s v (y' v H'):=by
 have⟨aQ,w',v',h1,h2,h3,h4,h5⟩:=h;refine⟨aQ,w',v',h1,h2,?_,?_,h5⟩;all_goals
  unfold y';split;next id off len cap sz ex=>
   have⟨e,_,_,he,_⟩:=h2;split;next vs el ho=>
    cases hp:vs.all eR
    .first|exact h3|exact h4
    .first
      |(refine h3.put ho rfl he rfl (λ_ _=>rfl) ?_
        have⟨o,k1,cs,kL,k2,k3,k4,k5,k6⟩:=h3.eI id _ e ho he;exact⟨o,k1,cs,kL,k2,k3,k4,br.xg _ _ (by rw[wF];exact hp) k5,k6⟩)
      |exact h4.uB (cI.o8 he _)
   .first|exact h3|exact h4
  .first|exact h3|exact h4
theorem aqe(hw:WR φ base H w)(hb:iv base w)(hm:m<=H.bx){ts T vs s x v wX vx H'}(v0:vs[0]? =some wX)(v1:vs[1]? =some vx)(hv:VR φ s wX)(hx:VR φ x vx)(h:Hx P H ts s x=some (v,H')):
 fc P m base φ H w (do pure (.value (<-Builtin.append_ ts T vs)):Sem Next) v H':=by
 unfold Hx at h;cases ht:ts[0]? with
 |none=>simp[ht]at h
 |some t=>
  simp only[ht,ri]at h;split at h;next elem hu=>
   split at h;next sz gB hs jl=>
    have⟨hc,h⟩:=dj h;simp at hc;have⟨fI,hz⟩:=hc;split at h;next n l jB=>
     cases Bb:kb P elem with
     |none=>simp[Bb]at hz
     |some z=>
      simp only[Bb,zM]at hz;have⟨vz,z1,z2⟩:=Ag (φ:=φ) Bb;split at h;next v2 H2 ha=>
       cases h;have:=aqf (T:=T) hw hb hm ht hu v0 v1 hs jl fI z1 z2 (dw hz) (aFl hw jB hx) hv ha;cases M3 x&& !Nat.beq n 0
       .exact this
       .exact this.aA
      .cases h
    .cases h
   .cases h
  .cases h
end
section
variable{P:Program}{φ:cn}{base:fN}{m:Nat}{H:AH}{w:World}{ρ:Operand->Option AV}{ev:Operand->Value}
theorem aq6{g fn args}(hf:P.funcs[g]? =some fn)(hb:fn.body.isSome=true)(hn:(fn.name== "runtime.NumGoroutine")=false)(w):
 (callFunc g args).run P w=.ok (.enter g args) w:=by
 have h1:¬(fn.body.isNone=true):=by cases h:fn.body<;>simp[h]at hb⊢
 have h2:¬((fn.name== "runtime.NumGoroutine")=true):=by rw[hn];simp
 simp only[callFunc,Sem.run_bind,run_program,Result.andThen_ok,hf,az h2,az h1,Sem.run_pure]
theorem Qj{f args vf Kf aK}(h:yP P f args=some aK)(hf:VR φ f vf)(ha:br φ args Kf.toList):
 (∀w,sC P m base φ H w (do let d<-Deferred.ofValue vf Kf;invoke d.target d.args:Sem Next) aK)/\((∃g l,aK=.qA g l)\/∃r l,aK=.vD r l):=by
 unfold yP at h;split at h;next g first lM=>
  obtain⟨f',c',rfl,hy,h1,h2⟩:=hf;split at h;next fn jz=>
   have⟨hb,h⟩:=dj h;cases h;simp only[dc,zL]at hb;refine⟨λw=>⟨f'++Kf++c',?_,?_⟩,.inl ⟨_,_,rfl⟩⟩
   .simp[Deferred.ofValue,invoke,aq6 jz hb.1 hb.2 w]
   .rw[DK,DK];exact(h1.xf ha).xf h2
  .cases h
 next l=>cases h;obtain⟨e,he,rfl⟩:=hf;refine⟨λw=>⟨e,Kf,he,?_,ha⟩,.inr ⟨_,_,rfl⟩⟩;simp[Deferred.ofValue,invoke]
 .cases h
theorem aw2(hw:WR φ base H w){t v v' f vv name}(h:abo P H t v name=some (f,v'))(hv:VR φ v vv)(n):
 ∃Ef,VR φ v' Ef/\(method (n+1) t vv name).run P w=.ok (f,Ef) w:=by
 unfold abo at h;split at h;next i hi=>
  split at h;next mt hm=>
   unfold amo at h;have ajs:∀{c:Bool} {f0:FuncId},(bif mt.path.isEmpty then some (f0,v)else none)=some (f,v')->mt.path= #[]/\f0=f/\v'=v:=by intro c f0 h;have⟨h1,h2⟩:=dj h;cases h2;exact⟨NY.1 h1,rfl,rfl⟩
   split at h;next f0 el jz hu=>obtain⟨h1,rfl,rfl⟩:=ajs (c:=true) h;exact⟨_,hv,by simp[method,run_typeInfo w hi,hm,h1,follow,jz,receiverAt,run_underlying hu w,Place.get]⟩
   next f0 el jz hu=>
    have⟨hp,h⟩:=dj h;have h1:=NY.1 hp;split at h;next id off=>
     split at h;next v2 hl=>
      cases h;obtain⟨e,he,rfl⟩:=hv;have⟨Ef,k1,k2⟩:=aa9 hw hl he;refine⟨Ef,k2,?_⟩;have auI:∀(a:Addr) (s:String),(Builtin.ssaWrapNilChk_ #[t] t #[.pointer (some a),strVal "",strVal s]).run P w=.ok (.pointer (some a)) w:=by intro a s;rfl
      simp[method,run_typeInfo w hi,hm,h1,follow,jz,receiverAt,run_underlying hu w,Place.get,auI,asAddr,k1]
     .cases h
    .cases h
   next f0 d qh jz hu=>
    obtain⟨h1,rfl,rfl⟩:=ajs (c:=true) h;refine⟨_,hv,?_⟩;simp only[method,Sem.run_bind,run_typeInfo w hi,Result.andThen_ok,hm,h1,follow,jz,Sem.run_pure];simp only[receiverAt,Sem.run_bind,run_underlying hu w,Result.andThen_ok];cases d<;>first
     |(exact absurd rfl (qh _))
     |simp[Place.get]
   .cases h
  .cases h
 .cases h
end
section
variable{P:Program}{φ:cn}{base:fN}{m:Nat}{H:AH}{w:World}{ρ:Operand->Option AV}{ev:Operand->Value}
theorem aur(hw:WR φ base H w){o r name args argTypes aK}(ho:o.op=.call {callee:=.invoke r name,args,argTypes})(hr:n_ φ ρ ev (r::args.toList))(h:RB P ρ H r name args=some aK):
 sC P m base φ H w (execOp ev o) aK:=by
 unfold RB at h;split at h;next t v l e1 e2=>
  split at h;next f v' ava=>
   have mP:=BR (hr.pQ (λx hx=>en _ hx)) e2;have⟨vv,hv,hvv⟩:=hr r (dY ..) _ e1;have⟨Ef,avI,dW⟩:=aw2 hw ava hvv (P.types.size+Made.depth-1);have hd:1<=Made.depth:=by decide
   have hfu:P.types.size+Made.depth-1+1=P.types.size+Made.depth:=by omega
   rw[hfu]at dW;have FA:=Qj (m:=m) (base:=base) (H:=H) (Kf:= #[Ef]++args.map ev) h ⟨#[],#[],rfl,rfl,l8,l8⟩ (by rw[DK];exact qH.2 ⟨avI,by simpa using mP⟩);have h0:=FA.1 w;have xI:(#[ev r]++args.map ev).extract 1 (#[ev r]++args.map ev).size=args.map ev:=by apply Array.ext';simp;exact Br (by simp)
   have e0:(execOp ev o).run P w=(do let d<-Deferred.ofValue (.func (.func f) #[] #[]) (#[Ef]++args.map ev);invoke d.target d.args:Sem Next).run P w:=by
    have g0:(#[ev r]++args.map ev)[0]? =some (ev r):=by rw[<-wK,DK];rfl
    have ge:(execOp ev o).run P w=(callMethod (ev r) name (args.map ev)).run P w:=by have⟨d,op,ty,p,af,gu⟩:=o;cases ho;have e1:execOp ev {dst:=d,op:=.call {callee:=.invoke r name,args,argTypes},type:=ty,pos:=p,after:=af,guard:=gu}=(do let d<-resolve ev {callee:=.invoke r name,args,argTypes} ty;invoke d.target d.args:Sem Next):=rfl;have e2:resolve ev {callee:=.invoke r name,args,argTypes} ty=(pure {target:=.fn (.method name) #[],args:= #[ev r]++args.map ev}:Sem Deferred):=rfl;rw[e1,e2,Sem.run_bind,Sem.run_pure,Result.andThen_ok];simp only[invoke,g0,xI]
    rw[ge,hv];have e3:(callMethod (.iface t vv) name (args.map ev)).run P w=(callFunc f (#[Ef]++args.map ev)).run P w:=by simp only[callMethod,Sem.run_bind,run_program,Result.andThen_ok,dW]
    rw[e3];simp only[Deferred.ofValue,Sem.run_bind,Sem.run_pure,Result.andThen_ok,invoke];simp
   rcases FA.2 with⟨g,l',rfl⟩|⟨g,l',rfl⟩
   .have⟨args',a1,a2⟩:=h0;exact⟨args',by rw[e0];exact a1,a2⟩
   .have⟨e,args',a0,a1,a2⟩:=h0;exact⟨e,args',a0,by rw[e0];exact a1,a2⟩
  .cases h
 .cases h
end
section
variable{P:Program}{φ:cn}{base:fN}{m:Nat}{H:AH}{w:World}{ρ:Operand->Option AV}{ev:Operand->Value}
theorem auo{o b args argTypes aK l}(ho:o.op=.call {callee:=.builtin b,args,argTypes})(hw:WR φ base H w)(hb:iv base w)(hm:m<=H.bx)(jC:br φ l (args.map ev).toList)(h:IB P H b l argTypes=some aK):
 sC P m base φ H w (execOp ev o) aK:=by
 have dW:∀s:Sem Next,(∀LB,builtin b argTypes o.type LB (args.map ev)=s)->(execOp ev o).run P w=s.run P w:=by intro s hs;have⟨d,op,ty,p,af,gu⟩:=o;cases ho;have e1:execOp ev {dst:=d,op:=.call {callee:=.builtin b,args,argTypes},type:=ty,pos:=p,after:=af,guard:=gu}=(do let d<-resolve ev {callee:=.builtin b,args,argTypes} ty;invoke d.target d.args:Sem Next):=rfl;have e2:resolve ev {callee:=.builtin b,args,argTypes} ty=(pure {target:=.builtin b argTypes ty (args.map λ|.const _=>true|_=>false),args:=args.map ev}:Sem Deferred):=rfl;rw[e1,e2,Sem.run_bind,Sem.run_pure,Result.andThen_ok];rw[<-hs (args.map λ|.const _=>true|_=>false)];rfl
 have Na:∀(s:Sem Next) v H',(∀LB,builtin b argTypes o.type LB (args.map ev)=s)->fc P m base φ H w s v H'->sC P m base φ H w (execOp ev o) (.gU v H'):=by intro s v H' hs ⟨aQ,w',v',h1,h2⟩;exact⟨aQ,w',v',by rw[dW s hs];exact h1,h2⟩
 unfold IB at h;split at h;next s x=>
  obtain⟨v0,r1,e1,u5,v1,r2,rfl,FT,rfl⟩:=jC;have g0:(args.map ev)[0]? =some v0:=by rw[<-wK,e1];rfl
  have g1:(args.map ev)[1]? =some v1:=by rw[<-wK,e1];rfl
  cases ha:Hx P H argTypes s x with
  |none=>simp[ha,Tm]at h
  |some r=>have⟨v,H'⟩:=r;simp only[ha,Tm]at h;cases h;exact Na _ _ _ (λ_=>rfl) (aqe hw hb hm g0 g1 u5 FT ha)
 .cases h;simp only[sC];rw[dW (pure .recover) (λ_=>rfl)];rfl
 next id k=>obtain⟨v0,r1,e1,u5,v1,r2,rfl,FT,rfl⟩:=jC;obtain⟨e,he,rfl⟩:=u5;obtain⟨v,H',rfl,h1⟩:=ar5 hw h he FT e1;exact Na _ _ _ (λ_=>rfl) h1
 .cases h
end
section
variable{P:Program}{φ:cn}{base:fN}{m:Nat}{H:AH}{w:World}{ρ:Operand->Option AV}{ev:Operand->Value}
theorem ai6{o aK}(hw:WR φ base H w)(hb:iv base w)(hm:m<=H.bx)(hr:n_ φ ρ ev o.op.operands.toList)(h:nM P ρ H o.op=some aK):sC P m base φ H w (execOp ev o) aK:=by
 cases o with
 |mk dst op type pos after guard=>
 simp only at hr h;cases op<;>simp only[nM]at h<;>try (cases h;done)
 case store t a x=>
  unfold II at h;split at h;next id off v ha hx=>
   obtain⟨e,he,hv⟩:=hr a (by simp[Op.operands]) _ ha;cases hs:J5 P H t id off v with
   |none=>simp[hs,rY]at h
   |some H'=>simp only[hs,rY]at h;cases h;obtain⟨w',h1,h2,h3,h4⟩:=aE4 (P:=P) hw hs he (hr x (by simp[Op.operands]) _ hx);simp only[sC,execOp];exact fc.Kq (by simp[Instr.storeAt,Instr.sureAddr,hv,h1]) h2 (h4 m) h3
  next n off v ha hx=>
   obtain⟨e,he,hv⟩:=hr a (by simp[Op.operands]) _ ha;cases hs:Oq P H t n off v with
   |none=>simp[hs,rY]at h
   |some H'=>simp only[hs,rY]at h;cases h;obtain⟨w',h1,h2,h3,h4⟩:=aE5 (P:=P) hw hs he (hr x (by simp[Op.operands]) _ hx);simp only[sC,execOp];exact fc.Kq (by simp[Instr.storeAt,Instr.sureAddr,hv,h1]) h2 (h4 m) h3
  .cases h
 case mapUpdate t mm k x=>
  unfold IG at h;split at h;next am ak av e1 e2 e3=>
   cases hs:Jr P H t am ak av with
   |none=>simp[hs,rY]at h
   |some H'=>simp only[hs,rY]at h;cases h;obtain⟨w',h1,h2,h3,h4⟩:=akX (P:=P) hw hs (hr mm (by simp[Op.operands]) _ e1) (hr k (by simp[Op.operands]) _ e2) (hr x (by simp[Op.operands]) _ e3);simp only[sC,execOp];exact fc.Kq h1 h2 (h4 m) h3
  .cases h
 case insert t mm k x=>
  unfold IG at h;split at h;next am ak av e1 e2 e3=>
   cases hs:Jr P H t am ak av with
   |none=>simp[hs,rY]at h
   |some H'=>simp only[hs,rY]at h;cases h;obtain⟨w',h1,h2,h3,h4⟩:=akX (P:=P) hw hs (hr mm (by simp[Op.operands]) _ e1) (hr k (by simp[Op.operands]) _ e2) (hr x (by simp[Op.operands]) _ e3);simp only[sC,execOp];exact fc.Kq h1 h2 (h4 m) h3
  .cases h
 case mapEntry t mm k=>
  unfold Mn at h;split at h;next kt elem id key hu e1 e2=>have⟨e,he,hv⟩:=hr mm (by simp[Op.operands]) _ e1;obtain⟨v,H',rfl,h1⟩:=as8 (P:=P) (m:=m) hw hu h he (hr k (by simp[Op.operands]) _ e2);simp only[sC,execOp,hv];exact h1
  .cases h
 case entryStore t mm s x=>
  unfold Rz at h;split at h;next id k born v e1 e2 e3=>have⟨e,he,hv⟩:=hr mm (by simp[Op.operands]) _ e1;have hs:=hr s (by simp[Op.operands]) _ e2;simp only[VR]at hs;obtain⟨H',rfl,h1⟩:=as9 (P:=P) (m:=m) (t:=t) (k:=k) hw h he (hr x (by simp[Op.operands]) _ e3);simp only[sC,execOp,hv,hs];exact h1
  .cases h
 case range t x=>obtain⟨v,H',rfl,h1⟩:=auw (P:=P) (m:=m) hw hb hm (λa ha=>hr x (by simp[Op.operands]) a ha) h;exact h1
 case next it xW=>obtain⟨v,H',rfl,h1⟩:=aut (P:=P) (m:=m) (T:=type) hw (λa ha=>hr it (by simp[Op.operands]) a ha) h;exact h1
 case entry it=>obtain⟨v,H',rfl,h1⟩:=aup (P:=P) (m:=m) hw (λa ha=>hr it (by simp[Op.operands]) a ha) h;exact h1
 case panic x=>
  unfold ZP at h;split at h;next t a hx=>cases h;have hv:=hr x (by simp[Op.operands]) _ hx;have I':=hv;have⟨va,e,_⟩:=I';simp only[sC,execOp];exact⟨ev x,by simp[Instr.panic,e],hv⟩
  .cases h
 case defer c=>
  unfold IE at h;have⟨callee,args,argTypes⟩:=c;cases callee<;>simp only at h<;>try (cases h;done)
  rename_i f;split at h;next fn first lM l e1 e2=>
   cases hy:wq fn;case true=>rw[hy]at h;cases h
   rw[hy]at h;simp at h;cases h;have mP:=BR (hr.pQ (l':=args.toList) (λx hx=>by simp[Op.operands,Call.operands];exact .inr (by simpa using hx))) e2;have⟨f',c',hv,_,h1,h2⟩:=hr f (by simp[Op.operands,Call.operands]) _ e1;simp only[sC,execOp];refine⟨{target:=.fn fn c',args:=f'++args.map ev},by simp[resolve,hv,Deferred.ofValue],c',f'++args.map ev,rfl,hy,h2,?_⟩;rw[DK];exact h1.xf (by simpa using mP)
  .cases h
 case call c=>
  unfold ZE at h;have⟨callee,args,argTypes⟩:=c;cases callee<;>simp only at h;case value f=>
   unfold ZS at h;split at h;next g l e1 e2=>have mP:=BR (hr.pQ (l':=args.toList) (λx hx=>by simp[Op.operands,Call.operands];exact .inr (by simpa using hx))) e2;have:=(Qj (P:=P) (m:=m) (base:=base) (H:=H) (Kf:=args.map ev) h (hr f (by simp[Op.operands,Call.operands]) _ e1) (by simpa using mP)).1 w;simpa only[execOp,resolve]using this
   .cases h
  case invoke r name=>exact aur hw rfl (hr.pQ (l':=r::args.toList) (λx hx=>by simp[Op.operands,Call.operands];simpa using hx)) h
  case builtin b=>
   split at h;next l hl=>have mP:=BR (hr.pQ (l':=args.toList) (λx hx=>by simp[Op.operands,Call.operands];simpa using hx)) hl;exact auo rfl hw hb hm (by simpa using mP) h
   .cases h
end
end
end Go.Ev
