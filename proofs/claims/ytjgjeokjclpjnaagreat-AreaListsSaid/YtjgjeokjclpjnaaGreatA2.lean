/- Part of a proof of AreaLists. -/
import Derived.Test.YtjgjeokjclpjnaaGreatA1
import Derived.Laws.RangeString
set_option linter.all false
set_option linter.unusedSectionVars false
namespace Go.Ev
noncomputable section
section
variable{P:Program}{φ:cj}{ρ:Operand->Option AV}{ev:Operand->Value}
theorem St(z n):(j9 z n).length=n*z.length:=by
 induction n with
 |zero=>simp[j9]
 |succ n ih=>simp[j9,ih,Nat.succ_mul];omega
theorem akx(z):∀n i,i<n*z.length->(j9 z n)[i]? =z[i%z.length]?
 |0,i,h=>by simp at h
 |n+1,i,h=>by
  simp only[j9];by_cases h1:i<z.length
  .rw[List.getElem?_append_left h1,Nat.mod_eq_of_lt h1]
  .have h2:z.length<=i:=by omega
   rw[MQ h2,akx z n (i-z.length) (by rw[Nat.succ_mul]at h;omega),<-Nat.mod_eq_sub_mod h2]
theorem aky{z}(h:z.all AV.cX=true):∀n,(j9 z n).all AV.cX=true
 |0=>rfl
 |n+1=>by show(z++j9 z n).all AV.cX=true;rw[sc,h,aky h n];rfl
theorem Su{z}{zs:Array Value}(hz:bp φ z zs.toList)(n):bp φ (j9 z n) ((Array.range (n*zs.size)).map (zs[· %zs.size]!)).toList:=by
 have hl:z.length=zs.size:=by have:=hz.jf;simpa using this
 refine adD (by simp[St,hl]) ?_;intro i a v h1 h2;have hi:i<n*zs.size:=by
  rcases Fy i (n*zs.size)with h|h
  .exact h
  .rw[Ay (by rw[St,hl];exact h)]at h1;cases h1
 rw[akx z n i (by rw[hl];exact hi),hl]at h1;have⟨x,h3,h4⟩:=hz.get h1
 have hs:i%zs.size<zs.size:=Nat.mod_lt _ (by rcases I6 zs.size with h|h;. rw[h]at hi;simp at hi
                                             .exact h)
 simp only[Array.toList_map,Array.toList_range,uv,List.getElem?_range hi,qC,pg]at h2;subst h2;have:zs[i%zs.size]! =x:=by
  rw[getElem!_pos zs _ hs];have h5:zs[i%zs.size]? =some x:=by simpa using h3
  rw[getElem?_pos zs _ hs]at h5;exact dw h5
 rw[this];exact h4
theorem OJ{o}(w):(newObj o).run P w=.ok w.heap.size (w.alloc o):=rfl
theorem aum{ρ op ob g}(h:qy P ρ op=some (ob,g))(vs el):ob≠.ay vs el:=by
 have hc:∀{g g':Nat->AV} {cs:LV} {elem:TypeId} {ob:bk},JC g cs elem=some (ob,g')->ob≠.ay vs el:=by intro g g' cs elem ob h;have⟨_,h⟩:=dn h;cases h;exact λh=>by cases h
 cases op<;>simp only[qy]at h<;>try (cases h;done)
 case alloc e=>unfold Zk at h;split at h<;>first|exact hc h|cases h
 case box e x=>unfold Zl at h;split at h<;>first|exact hc h|cases h
 case buildSlice t len n_=>
  unfold Zn at h;split at h
  .split at h
   .unfold VZ at h;have⟨_,h⟩:=dn h;split at h<;>first|exact hc h|cases h
   .cases h
  .cases h
 case makeMap t r=>unfold Zq at h;split at h<;>first|(cases h;exact λh=>by cases h)|cases h
 case makeSlice t len cap=>
  unfold Q_ at h;split at h
  .split at h
   .cases hk:s7 cap
    .rw[hk]at h;simp at h;have⟨_,h⟩:=dn h;cases h;exact λh=>by cases h
    .rw[hk]at h;simp at h;have⟨_,h⟩:=dn h;cases h;exact λh=>by cases h
   .cases h
  .cases h
def adg(P:Program)(φ:cj)(s:Sem Next)(ob:bk)(g:Nat->AV):Prop:=
 ∃(o':Obj) (n:Nat) (f:Nat->Value),(∀w,s.run P w=.ok (.value (f w.heap.size)) (w.alloc o'))/\(∀ψ b,dv φ ψ->OR ψ ob ⟨b,0,n⟩ o')/\
  (∀(ψ:cj) id b,ψ id=some ⟨b,0,n⟩->VR ψ (g id) (f b))/\ob.aR=true
theorem V9{g g' cs elem ob}(h:JC g cs elem=some (ob,g')):cs.all AV.cX=true/\ob=.aj cs elem/\g'=g:=by have⟨h1,h2⟩:=dn h;cases h2;exact⟨h1,rfl,rfl⟩
theorem Ku{cs vs elem el}(h:bp φ cs vs.toList)(h1:cs.all AV.cX=true):∀ψ b,dv φ ψ->OR ψ (.aj cs elem) ⟨b,0,vs.size⟩ (.cells vs el (0,0)):=by
 intro ψ b cu;refine⟨vs,el,rfl,rfl,?_,?_,h1⟩
 .have:=h.jf;simp at this⊢;omega
 .have hl:=h.jf;simp;rw[hl,vT];exact bp.kI cu _ _ h
theorem ad5(ψ id b n)(h:ψ id=some ⟨b,0,n⟩):VR ψ (VI id) (.pointer (some ⟨b,0,none⟩)):=by exact⟨_,h,rfl⟩
theorem ad9(ψ id b n len cap sz)(h:ψ id=some ⟨b,0,n⟩)(hn:n=cap*sz)(hl:len<=cap):VR ψ (Gy len cap sz id) (.slice (some ⟨b,0,none⟩) len cap):=by exact⟨_,0,cap,h,rfl,.inr rfl,hl,λ_=>rfl,by simp[hn]⟩
theorem Hf{s v w w'}(h:s.run P w=.ok v w'):(do pure (.value (<-s)):Sem Next).run P w=.ok (.value v) w':=by simp[h]
theorem Ja(f:Nat->Value):(Array.range 0).map f= #[]:=by
 apply Array.ext
 .simp
 .intro i h1 h2;simp at h2
theorem aiS{o ob g}(hr:nP φ ρ ev o.op.operands.toList)(h:qy P ρ o.op=some (ob,g)):adg P φ (execOp ev o) ob g:=by
 cases o with
 |mk dst op type pos after guard=>
 simp only at hr h;cases op<;>simp only[qy]at h<;>try (cases h;done)
 case alloc e=>
  unfold Zk at h;split at h;next z hz=>obtain⟨vz,h1,h2⟩:=zg (φ:=φ) hz;obtain⟨h3,rfl,rfl⟩:=V9 h;refine⟨.cells vz.cells e (0,0),vz.cells.size,λb=>.pointer (some ⟨b,0,none⟩),λw=>?_,Ku (AV.sA h1) h3,λψ id b hh=>ad5 ψ id b _ hh,rfl⟩;simp only[execOp];refine Hf ?_;simp[Instr.alloc,h2 w,newVar,newRow]
  .cases h
 case box e x=>
  unfold Zl at h;split at h;next a ha=>obtain⟨h3,rfl,rfl⟩:=V9 h;have h1:=hr x (by simp[Op.operands]) _ ha;refine⟨.cells (ev x).cells e (0,0),(ev x).cells.size,λb=>.pointer (some ⟨b,0,none⟩),λw=>?_,Ku (AV.sA h1) h3,λψ id b hh=>ad5 ψ id b _ hh,rfl⟩;simp only[execOp];refine Hf ?_;simp[Instr.box,newVar,newRow]
  .cases h
 case buildSlice t len n_=>
  unfold Zn at h;split at h;next elem ps hu hp=>
   split at h;next s z hs hz=>
    obtain⟨vz,h1,h2⟩:=zg (φ:=φ) hz;unfold VZ at h;obtain⟨hb,h⟩:=dn h;simp only[dk,ux]at hb;obtain⟨mA,il⟩:=hb;have yD:z.dK.length=s:=dG il;split at h;next cs hf=>
     obtain⟨h3,rfl,rfl⟩:=V9 h;have kf:=AV.sA h1;have n5:vz.cells.size=s:=by have:=kf.jf;simp at this;omega
     have EF:=OO (hr.pC (λx hx=>by simpa[Op.operands]using hx)) hp;obtain⟨r',h4,h5⟩:=PM EF (Su kf len) hf;have bS:cs.length=len*s:=by
      have:∀(ps:List (Nat×AV)) (c c':LV),zN (λi=>some (i*s,s)) c ps=some c'->c'.length=c.length:=by
       intro ps;induction ps with
       |nil=>intro c c' h;simp only[zN]at h;cases h;rfl
       |cons p ps ih=>
        intro c c' h;obtain⟨i,v⟩:=p;simp only[zN]at h;obtain⟨_,h⟩:=dn h;split at h
        .cases h
        next c1 LD=>obtain⟨cu,rfl⟩:=Sc LD;rw[ih _ _ h];simp;omega
      rw[this _ _ _ hf,St,yD]
     have Ag:r'.size=len*s:=by have:=h5.jf;simp at this;omega
     refine⟨.cells r' elem (0,0),r'.size,λb=>.slice (some ⟨b,0,none⟩) len len,λw=>?_,Ku h5 h3,λψ id b hh=>ad9 ψ id b _ len len s hh Ag (cM _),rfl⟩;simp only[execOp];refine Hf ?_;have cu:¬(len*s>2^24):=by omega
     have Lt:Instr.fill (λi=>some (i*s,s)) ((Array.range (len*s)).map (λx=>(if len*s=0 then #[]else vz.cells)[x%(if len*s=0 then #[]else vz.cells).size]!)) (n_.map λx=>(x.1,ev x.2)).toList=some r':=by
      rw[n5]at h4;by_cases h0:len*s=0
      .simp only[h0,if_true]at h4⊢;rw[Ja]at h4⊢;simpa using h4
      .simp only[h0,if_false];rw[n5];simpa using h4
     by_cases h0:len*s=0
     .simp only[h0,if_true]at Lt;rw[Ja]at Lt;simp only[Instr.buildSlice,Sem.run_bind,run_underlying hu w,Result.andThen_ok,jE hs w,az cu,aO h0,Sem.run_pure];simp only[h0,Ja,Lt,newRow,Sem.run_bind,OJ,Result.andThen_ok,Sem.run_pure]
     .simp only[h0,if_false]at Lt;simp only[Instr.buildSlice,Sem.run_bind,run_underlying hu w,Result.andThen_ok,jE hs w,az cu,az h0,h2 w,Sem.run_pure,Lt,newRow,OJ]
    .cases h
   .cases h
  .cases h
 case makeMap t r=>
  unfold Zq at h;have key:∀e:TypeId×TypeId,P.underlying t=some (.map e.1 e.2)->(r.map ev=none\/∃k n,r.map ev=some (.int k n))->∀p,ob=.bm [] 0 p/\g=.aA->adg P φ (execOp ev {dst,op:=.makeMap t r,type,pos,after,guard}) ob g:=by
   intro e hu hv p ⟨h1,h2⟩;subst h1 h2;refine⟨.map #[] 0,0,λb=>.map (some b),λw=>?_,λψ b _=>⟨#[],rfl,by simp[dI],λ_=>by simp[dI]⟩,λψ id b hh=>by simp only[VR];exact⟨_,hh,rfl⟩,rfl⟩;simp only[execOp];refine Hf ?_;rcases hv with hv|⟨k,n,hv⟩
   .simp[Instr.makeMap,hv]
   .simp[Instr.makeMap,hv,run_underlying hu w,asInt,asIntOf]
  split at h;next a b hu Ag=>
   cases h;rcases MH (hr.pC (λy hy=>by cases r<;>simp at hy;subst hy;simp[Op.operands])) Ag with⟨_,h⟩|⟨_,_,e,_⟩
   .exact key (a,b) hu (.inl h) _ ⟨rfl,rfl⟩
   .cases e
  next a b k n hu Ag=>
   cases h;rcases MH (hr.pC (λy hy=>by cases r<;>simp at hy;subst hy;simp[Op.operands])) Ag with⟨e,_⟩|⟨x,v,e,hv,hx⟩
   .cases e
   .cases e;simp only[VR]at hx;exact key (a,b) hu (.inr ⟨k,n,by rw[hv,hx]⟩) _ ⟨rfl,rfl⟩
  .cases h
 case makeSlice t len cap=>
  unfold Q_ at h;split at h;next elem l c hu hl hc=>
   have Lz:=hr len (by simp[Op.operands]) _ hl;have tZ:=hr cap (by simp[Op.operands]) _ hc;simp only[VR]at Lz tZ;split at h;next s z fX hs hz jj=>
    obtain⟨vz,h1,h2⟩:=zg (φ:=φ) hz;obtain⟨b1,b2,b3,b4,b5,b6,hg,eH⟩:l<=c/\c<=4194304/\fX<=4194304/\s<=4194304/\Nat.beq z.dK.length s=true/\z.dK.all AV.cX=true/\g=Gy l c s/\
     (ob=.aj (j9 z.dK c) elem\/(ob=aaY z.dK c elem/\z.dK.all eG=true)):=by
     cases hk:s7 cap
     .rw[hk]at h;unfold ZL at h;obtain⟨hb,h⟩:=dn h;simp only[dk,ux]at hb;obtain⟨⟨⟨⟨⟨⟨b1,b2⟩,b3⟩,b4⟩,b5⟩,b6⟩,b7⟩:=hb;simp only[pg,I7]at h;exact⟨b1,b2,b3,b4,b5,b6,h.2.symm,.inr ⟨h.1.symm,b7⟩⟩
     .rw[hk]at h;unfold aiT at h;obtain⟨hb,h⟩:=dn h;simp only[dk,ux]at hb;obtain⟨⟨⟨⟨⟨b1,b2⟩,b3⟩,b4⟩,b5⟩,b6⟩:=hb;simp only[pg,I7]at h;exact⟨b1,b2,b3,b4,b5,b6,h.2.symm,.inl h.1.symm⟩
    have yD:=dG b5;have h3:=aky b6 c;subst hg;have kf:=AV.sA h1;have n5:vz.cells.size=s:=by have:=kf.jf;simp at this;omega
    have h5:=Su kf c;rw[n5]at h5;refine⟨.cells ((Array.range (c*s)).map (vz.cells[· %s]!)) elem (0,0),c*s,λb=>.slice (some ⟨b,0,none⟩) l c,λw=>?_,?_,λψ id b hh=>ad9 ψ id b _ l c s hh rfl b1,by rcases eH with rfl|⟨rfl,_⟩<;>rfl⟩
    .simp;refine Hf ?_;have⟨ti,EL,LO⟩:=V5 jj w;have hwl:IntKind.i64.wrap (l:Int)=l:=IntWalk.i64_in _ (by omega);have oZ:IntKind.i64.wrap (c:Int)=c:=IntWalk.i64_in _ (by omega);have Yn:(fX:Int)*c<=2^48:=by
      have:=Nat.mul_le_mul b3 b2;have h':((fX*c:Nat):Int)<=((4194304*4194304:Nat):Int):=by exact_mod_cast this
      simp at h';omega
     have t1:¬((c:Int)<0\/ti.bytes*(c:Int)>2^48):=by rw[LO];omega
     have t4:¬(((((c:Int)<0)\/281474976710656<(ti.bytes:Int)*(c:Int))\/(l:Int)<0)\/c<l):=by omega
     by_cases h0:c*s=0
     .simp[Instr.makeSlice,run_underlying hu w,Lz,tZ,asInt,asIntOf,EL,hwl,oZ,jE hs w,h0,newRow];rw[az t4,Ja,Ja]
     .simp[Instr.makeSlice,run_underlying hu w,Lz,tZ,asInt,asIntOf,EL,hwl,oZ,jE hs w,h0,newRow];rw[az t4];simp[h2 w,n5]
    .have:=Ku (el:=elem) (elem:=elem) h5 h3;intro ψ b cu;rcases eH with rfl|⟨rfl,hp⟩
     .simpa using this ψ b cu
     .have atb:=bp.wj (ψ:=φ.pu) _ _ (by rw[vL];exact hp) kf;have h50:=Su atb c;rw[n5]at h50;have:=Ku (el:=elem) (elem:=elem) h50 h3 φ.pu b (dv.refl _);have h51:OR φ.pu (.aj (j9 z.dK c) elem) ⟨b,0,c*s⟩ (.cells ((Array.range (c*s)).map (vz.cells[· %s]!)) elem (0,0)):=by simpa using this
      exact adj cu h51
   .cases h
  .cases h
end
section
variable{φ:cj}{base:fv}{H:AH}{w:World}
@[simp] theorem oF (H:AH) (id g_:Nat) (o:bk):(H.cQ id o).bf g_=if g_=id then some o else H.bf g_:=by cases H;simp[AH.cQ,AH.bf,Tr.kD]
@[simp] theorem nI (H:AH) (id:Nat) (o:bk):(H.cQ id o).bx=H.bx:=by cases H;rfl
@[simp] theorem lW (H:AH) (g_:Nat) (o:bk):(H.eD o).bf g_=if g_=H.bx then some o else H.bf g_:=by cases H;simp[AH.eD,AH.bf,Tr.kD]
@[simp] theorem rk (H:AH) (o:bk):(H.eD o).bx=H.bx+1:=by cases H;rfl
@[simp] theorem xH (H:AH) (id:Nat) (o:bk):(H.cQ id o).x=H.x:=by cases H;rfl
@[simp] theorem zd (H:AH) (o:bk):(H.eD o).x=H.x:=by cases H;rfl
theorem dI.F9{φ ψ}(h:dv φ ψ):∀{es ms},dI φ es ms->dI ψ es ms
 |[],_,h1=>by simpa[dI]using h1
 |(k,v,b)::es,_,h1=>by obtain⟨m,ms,rfl,h2,h3,h4,h5⟩:=h1;exact⟨m,ms,rfl,VR.ef h _ _ h2,VR.ef h _ _ h3,h4,dI.F9 h h5⟩
theorem DR.mono{φ ψ}(h:dv φ ψ){a d}(h1:DR φ a d):DR ψ a d:=by
 cases a with
 |uF fn cap args=>have⟨c',a',e,hy,h2,h3⟩:=h1;exact⟨c',a',e,hy,bp.kI h _ _ h2,bp.kI h _ _ h3⟩
 |oo r=>have⟨e,h2,h3⟩:=h1;exact⟨e,h _ _ h2,h3⟩
theorem pF.F8{φ ψ}(h:dv φ ψ):∀{as ds},pF φ as ds->pF ψ as ds
 |[],_,h1=>by simpa[pF]using h1
 |a::as,_,h1=>by obtain⟨d,ds,rfl,h2,h3⟩:=h1;exact⟨d,ds,rfl,h2.mono h,pF.F8 h h3⟩
theorem TR.mono{φ ψ}(h:dv φ ψ){t nt tmps}(h1:TR φ t nt tmps):TR ψ t nt tmps:=
 ⟨h1.1,λi a hi=>let⟨v,h2,h3⟩:=h1.2 i a hi;⟨v,h2,VR.ef h _ _ h3⟩⟩
theorem OR.sq{φ ψ}(h:dv φ ψ){ob e o}(h1:OR φ ob e o):OR ψ ob e o:=by
 cases ob with
 |aj vs elem=>obtain⟨cs,el,rfl,h2,h3,h4,h5⟩:=h1;exact⟨cs,el,rfl,h2,h3,bp.kI h _ _ h4,h5⟩
 |bm es clock p=>obtain⟨bF,rfl,h2,h3⟩:=h1;exact⟨bF,rfl,h2.F9 h,λhp=>(h3 hp).F9 h.pu⟩
 |dR vs elem=>obtain⟨cs,el,rfl,h2,h3,h4,h5⟩:=h1;exact⟨cs,el,rfl,h2,h3,bp.kI h.pu _ _ h4,h5⟩
 |ay vs elem=>obtain⟨cs,el,rfl,h2,h3,h4,h5⟩:=h1;exact⟨cs,el,rfl,h2,h3,bp.kI h.pu _ _ h4,h5⟩
 |tp s pos=>exact h1
 |je m since bE CT=>
  obtain⟨m',rfl,h0,h2⟩:=h1;refine⟨m',rfl,h0,?_⟩;cases m with
  |none=>exact h2
  |some id=>have⟨e,h3,h4⟩:=h2;exact⟨e,h _ _ h3,h4⟩
 |gK st p fn tmps nt ps a b d=>obtain⟨oM,ed,rfl,h2,h3⟩:=h1;exact⟨oM,ed,rfl,h _ _ h2,h3.mono h⟩
 |pB ds=>
  cases ds with
  |none=>exact h1
  |some l=>obtain⟨l',rfl,h2⟩:=h1;exact⟨l',rfl,h2.F8 h⟩
 |bc vs=>trivial
def NoX(H:AH)(φ ψ:cj):Prop:=H.x=none->∀n e,ψ.xs n=some e->φ.xs n=some e
def mT(φ:cj)(H:AH)(ψ:cj)(H':AH):Prop:=(H'.x=none↔H.x=none)/\NoX H' φ ψ
theorem mT.refl(φ H):mT φ H φ H:=⟨Iff.rfl,λ_ _ _ h=>h⟩
theorem mT.of{φ ψ H H'}(h:H'.x=H.x)(hx:ψ.xs=φ.xs):mT φ H ψ H':=⟨by rw[h],λ_ n e h1=>by rw[hx]at h1;exact h1⟩
theorem mT.qL{φ ψ χ H H' JN}(h:mT φ H ψ H')(h':mT ψ H' χ JN):mT φ H χ JN:=
 ⟨h'.1.trans h.1,λhx n e h1=>h.2 (h'.1.1 hx) n e (h'.2 hx n e h1)⟩
def cH(m:Nat)(φ:cj)(H:AH)(ψ:cj)(H':AH):Prop:=
 dv φ ψ/\H.bx<=H'.bx/\(∀id,id<m->φ id=none->ψ id=none/\(H'.bf id=H.bf id\/∃vs el,H.bf id=some (.ay vs el)))/\mT φ H ψ H'
theorem cH.jO(m φ H):cH m φ H φ H:=⟨dv.refl φ,cM _,λ_ _ h=>⟨h,.inl rfl⟩,mT.refl φ H⟩
theorem cH.tC{m φ ψ χ H H' JN}(h:cH m φ H ψ H')(h':cH m ψ H' χ JN):cH m φ H χ JN:=
 ⟨h.1.Jz h'.1,kF h.2.1 h'.2.1,λid hm hn=>by
   have⟨h1,h2⟩:=h.2.2.1 id hm hn;have⟨h3,h4⟩:=h'.2.2.1 id hm h1;refine⟨h3,?_⟩;rcases h2 with h2|h2
   .rw[h2]at h4;exact h4
   .exact .inr h2,h.2.2.2.qL h'.2.2.2⟩
theorem cH.mono{m n φ ψ H H'}(h:cH n φ H ψ H')(hm:m<=n):cH m φ H ψ H':=
 ⟨h.1,h.2.1,λid hi hn=>h.2.2.1 id (MX hi hm) hn,h.2.2.2⟩
def uM(w w':World):Prop:=w'.os=w.os/\w'.tape=w.tape/\w'.output=w.output
theorem uM.refl(w):uM w w:=⟨rfl,rfl,rfl⟩
theorem uM.trans{w w' Nw}(h:uM w w')(h':uM w' Nw):uM w Nw:=⟨h'.1.trans h.1,h'.2.1.trans h.2.1,h'.2.2.trans h.2.2⟩
def cY(base:fv)(w w':World):Prop:=w.heap.size<=w'.heap.size/\(∀b,base b->w'.heap[b]? =w.heap[b]?)/\uM w w'
theorem cY.ka(base w):cY base w w:=⟨cM _,λ_ _=>rfl,uM.refl w⟩
theorem cY.so{base w w' Nw}(h:cY base w w')(h':cY base w' Nw):cY base w Nw:=
 ⟨kF h.1 h'.1,λb hb=>(h'.2.1 b hb).trans (h.2.1 b hb),h.2.2.trans h'.2.2⟩
theorem Vv(w:World)(o):(w.alloc o).heap.size=w.heap.size+1:=by simp
theorem adL(w:World)(o){b}(h:b<w.heap.size):(w.alloc o).heap[b]? =w.heap[b]? :=by show(w.heap.push o)[b]? =_;simp[Array.getElem?_push,Nat.ne_of_lt h]
theorem an0(w:World)(o):(w.alloc o).heap[w.heap.size]? =some o:=by show(w.heap.push o)[w.heap.size]? =_;simp
def js(φ:cj)(id:Nat)(e:PE):cj:=⟨λi=>if i=id then some e else φ i,φ.ro,φ.xs⟩
theorem A1(φ id e i):js φ id e i=if i=id then some e else φ i:=rfl
theorem ml(φ id e):js φ id e id=some e:=by simp[js]
theorem Ko{φ id e}(h:φ id=none):dv φ (js φ id e):=by
 refine⟨λi e' hi=>?_,λ_ _ h=>h,λ_ _ h=>h⟩;by_cases yu:i=id
 .subst yu;rw[h]at hi;cases hi
 .simp[js,yu,hi]
theorem WR.yj(hw:WR φ base H w){id}(h:H.bx<=id):φ id=none:=by
 cases he:φ id with
 |none=>rfl
 |some e=>have:=(hw.lt id e he).2.2;omega
theorem WR.aeg(hw:WR φ base H w){id n ob o'}(dE:φ id=none)(ho:H.bf id=some ob)(hb:hQ base w)(sY:∀ψ b,dv φ ψ->OR ψ ob ⟨b,0,n⟩ o'):
 WR (js φ id ⟨w.heap.size,0,n⟩) base H (w.alloc o'):=by
 have cv:(w.alloc o').heap.size=w.heap.size+1:=Vv _ _;have oY:∀b,b<w.heap.size->(w.alloc o').heap[b]? =w.heap[b]? :=λb hb=>adL _ _ hb
 have LC:(w.alloc o').heap[w.heap.size]? =some o':=an0 _ _;have cu:=Ko (e:=⟨w.heap.size,0,n⟩) dE;refine⟨?_,?_,?_,hw.nx,hw.se rfl rfl rfl (λb h=>oY _ (hw.aid h)) λi bB e h1 l1 h2=>?_⟩
 .intro i bB e h1 h2;by_cases hi:i=id
  .subst hi;rw[ml]at h2;cases h2;rw[ho]at h1;cases h1;exact⟨o',LC,sY _ _ cu⟩
  .simp only[js,az hi]at h2;have⟨o,h3,h4⟩:=hw.ew i bB e h1 h2;exact⟨o,by rw[oY _ (hw.lt i e h2).1];exact h3,h4.sq cu⟩
 .intro i i' dp gV e e' h1 l1 h2 h3 l2 h4 he;by_cases hi:i=id<;>by_cases ei:i'=id
  .rw[hi,ei]
  .simp only[js,az ei]at h4;subst hi;rw[ml]at h2;cases h2;have:=(hw.lt i' e' h4).1;simp only at he;omega
  .simp only[js,az hi]at h2;subst ei;rw[ml]at h4;cases h4;have:=(hw.lt i e h2).1;simp only at he;omega
  .simp only[js,az hi]at h2;simp only[js,az ei]at h4;exact hw.jg i i' dp gV e e' h1 l1 h2 h3 l2 h4 he
 .intro i e h2;by_cases hi:i=id
  .subst hi;rw[ml]at h2;cases h2;exact⟨by rw[cv];exact lY _,λh=>Nat.lt_irrefl _ (hb _ h),hw.nx _ _ ho⟩
  .simp only[js,az hi]at h2;have:=hw.lt i e h2;exact⟨by rw[cv];omega,this.2⟩
 .by_cases hi:i=id
  .subst hi;rw[ml]at h2;cases h2;exact .inr (cM _)
  .simp only[js,az hi]at h2;exact .inl ⟨i,bB,e,h1,l1,h2,rfl⟩
theorem WR.new(hw:WR φ base H w)(ob):WR φ base (H.eD ob) w:=by
 have hf:=hw.yj (cM H.bx);have cE:∀{id e},φ id=some e->id≠H.bx:=λh e=>by rw[e,hf]at h;cases h
 refine⟨?_,?_,?_,?_,hw.se rfl rfl (zd H ob) (λ_ _=>rfl) λi bB e h1 l1 h2=>.inl ⟨i,bB,e,by rw[lW,az (cE h2)]at h1;exact h1,l1,h2,rfl⟩⟩
 .intro i bB e h1 h2;rw[lW,az (cE h2)]at h1;exact hw.ew i bB e h1 h2
 .intro i i' dp gV e e' h1 l1 h2 h3 l2 h4 he;rw[lW,az (cE h2)]at h1;rw[lW,az (cE h4)]at h3;exact hw.jg i i' dp gV e e' h1 l1 h2 h3 l2 h4 he
 .intro i e h;have:=hw.lt i e h;exact⟨this.1,this.2.1,by rw[rk];omega⟩
 .intro i bB h;rw[lW]at h;rw[rk];split at h
  .omega
  .have:=hw.nx _ _ h;omega
theorem cH.new{m}(hm:m<=H.bx)(ob):cH m φ H φ (H.eD ob):=
 ⟨dv.refl φ,by rw[rk];omega,λid hi hn=>⟨hn,.inl (by rw[lW,az (by omega)])⟩,.of (zd _ _) rfl⟩
theorem cY.alloc{base w}(hb:hQ base w)(o):cY base w (w.alloc o):=
 ⟨by rw[Vv];omega,λb h=>adL _ _ (hb b h),rfl,rfl,rfl⟩
theorem WR.put(hw:WR φ base H w){id ob bB e w'}(ho:H.bf id=some ob)(hl:ob.aR=true)(he:φ id=some e)(cv:w'.heap.size=w.heap.size)(yz:∀b,b≠e.b->w'.heap[b]? =w.heap[b]?)(LC:∃o',w'.heap[e.b]? =some o'/\OR φ bB e o'):WR φ base (H.cQ id bB) w':=by
 refine⟨?_,?_,?_,?_,hw.se rfl rfl (xH H id bB) (λb h=>yz b (λhb=>hw.Zg h ho hl he hb.symm)) λi dp e1 h1 l1 h2=>.inl ?_⟩
 .intro i dp e1 h1 h2;rw[oF]at h1;by_cases hi:i=id
  .subst hi;rw[aO rfl]at h1;cases h1;rw[he]at h2;cases h2;exact LC
  .rw[az hi]at h1;by_cases mB:dp.aR=true
   .have⟨o,h3,h4⟩:=hw.ew i dp e1 h1 h2;have hb:=λh=>hi (hw.jg i id dp ob e1 e h1 mB h2 ho hl he h)
    exact⟨o,by rw[yz _ hb];exact h3,h4⟩
   .cases dp<;>simp[bk.aR]at mB;have h5:=(hw.lt i e1 h2).1;refine⟨w'.heap[e1.b]'(by rw[cv];exact h5),by simp[cv,h5],trivial⟩
 .intro i i' dp gV e1 e2 h1 l1 h2 h3 l2 h4 hb;rw[oF]at h1 h3;by_cases hi:i=id<;>by_cases ei:i'=id
  .rw[hi,ei]
  .subst hi;rw[az ei]at h3;exact hw.jg i i' ob gV e1 e2 ho hl h2 h3 l2 h4 hb
  .subst ei;rw[az hi]at h1;exact hw.jg i i' dp ob e1 e2 h1 l1 h2 ho hl h4 hb
  .rw[az hi]at h1;rw[az ei]at h3;exact hw.jg i i' dp gV e1 e2 h1 l1 h2 h3 l2 h4 hb
 .intro i e1 h;have:=hw.lt i e1 h;exact⟨by rw[cv];exact this.1,this.2.1,by rw[nI];exact this.2.2⟩
 .intro i dp h;rw[oF]at h;rw[nI];split at h;next e=>subst e;exact hw.nx _ _ ho
  .exact hw.nx _ _ h
 .rw[oF]at h1;by_cases hi:i=id
  .subst hi;rw[he]at h2;cases h2;exact⟨i,ob,e,ho,hl,he,rfl⟩
  .rw[az hi]at h1;exact⟨i,dp,e1,h1,l1,h2,rfl⟩
theorem cH.oN{m id e}(he:φ id=some e)(ob):cH m φ H φ (H.cQ id ob):=
 ⟨dv.refl φ,by rw[nI];omega,λi _ hn=>⟨hn,.inl (by rw[oF,az (λh=>by subst h;rw[he]at hn;cases hn)])⟩,.of (xH _ _ _) rfl⟩
theorem cH.ay{m id vs el}(ho:H.bf id=some (.ay vs el))(ob):cH m φ H φ (H.cQ id ob):=
 ⟨dv.refl φ,by rw[nI];omega,λi _ hn=>⟨hn,by
   by_cases hi:i=id
   .subst hi;exact .inr ⟨vs,el,ho⟩
   .exact .inl (by rw[oF,az hi])⟩,.of (xH _ _ _) rfl⟩
theorem cY.MB(hw:WR φ base H w){id e w'}(he:φ id=some e)(cv:w'.heap.size=w.heap.size)(yz:∀b,b≠e.b->w'.heap[b]? =w.heap[b]?)(hs:uM w w':=by exact⟨rfl,rfl,rfl⟩):cY base w w':=
 ⟨by omega,λb hb=>yz b (λh=>(hw.lt id e he).2.1 (h▸hb)),hs⟩
theorem WR.rF(hw:WR φ base H w){w'}(h:w'.heap=w.heap):WR φ base H w':=
 ⟨λi ob e h1 h2=>by rw[h];exact hw.ew i ob e h1 h2,hw.jg,λi e h1=>by rw[h];exact hw.lt i e h1,hw.nx,hw.se rfl rfl rfl (λb _=>by rw[h]) λid ob e h1 l1 h2=>.inl ⟨id,ob,e,h1,l1,h2,rfl⟩⟩
theorem cY.rF{w'}(h:w'.heap=w.heap)(hs:uM w w':=by exact⟨rfl,rfl,rfl⟩):cY base w w':=⟨by rw[h];exact cM _,λb _=>by rw[h],hs⟩
theorem WR.yG(hw:WR φ base H w){id ob vs}(ho:H.bf id=some ob):WR φ base (H.cQ id (.bc vs)) w:=by
 refine⟨?_,?_,?_,?_,hw.se rfl rfl (xH H id _) (λ_ _=>rfl) λi dp e1 h1 l1 h2=>.inl ?_⟩
 .intro i dp e1 h1 h2;rw[oF]at h1;by_cases hi:i=id
  .subst hi;rw[aO rfl]at h1;cases h1;have h5:=(hw.lt i e1 h2).1;exact⟨w.heap[e1.b],by simp[h5],trivial⟩
  .rw[az hi]at h1;exact hw.ew i dp e1 h1 h2
 .intro i i' dp gV e1 e2 h1 l1 h2 h3 l2 h4 hb;rw[oF]at h1 h3;by_cases hi:i=id
  .subst hi;rw[aO rfl]at h1;cases h1;simp[bk.aR]at l1
  .by_cases ei:i'=id
   .subst ei;rw[aO rfl]at h3;cases h3;simp[bk.aR]at l2
   .rw[az hi]at h1;rw[az ei]at h3;exact hw.jg i i' dp gV e1 e2 h1 l1 h2 h3 l2 h4 hb
 .intro i e1 h;have:=hw.lt i e1 h;exact⟨this.1,this.2.1,by rw[nI];exact this.2.2⟩
 .intro i dp h;rw[oF]at h;rw[nI];split at h;next e=>subst e;exact hw.nx _ _ ho
  .exact hw.nx _ _ h
 .rw[oF]at h1;by_cases hi:i=id
  .subst hi;rw[aO rfl]at h1;cases h1;simp[bk.aR]at l1
  .rw[az hi]at h1;exact⟨i,dp,e1,h1,l1,h2,rfl⟩
theorem pa(H:AH)(n i o):(H.nM n o).bf i=H.bf i:=by have⟨h,k,x⟩:=H;cases x<;>rfl
theorem Cg(H:AH)(n o):(H.nM n o).bx=H.bx:=by have⟨h,k,x⟩:=H;cases x<;>rfl
theorem Th(H:AH)(n i){o}(h:(H.nM n none).hJ i=some o):H.hJ i=some o/\i≠n:=by
 have⟨a,k,x⟩:=H;cases x with
 |none=>cases h
 |some X=>
  have h:(bif Nat.beq i n then none else X.g i)=some o:=h;rw[Tr.s_,Tr.A0]at h;split at h
  .cases h
  .exact⟨h,by assumption⟩
theorem amJ(H:AH)(n o):((H.nM n o).x=none↔H.x=none):=by have⟨h,k,x⟩:=H;cases x<;>simp[AH.nM]
theorem amK{H:AH}{n o X}(h:(H.nM n o).x=some X):∃X0,H.x=some X0/\X.n=X0.n:=by
 have⟨a,k,x⟩:=H;cases x with
 |none=>cases h
 |some X0=>cases h;exact⟨X0,rfl,rfl⟩
theorem WR.aDE(hw:WR φ base H w)(n):WR φ base (H.nM n none) w:=by
 refine⟨λi ob e h1 h2=>hw.ew i ob e (by rw[pa]at h1;exact h1) h2,λi i' ob bB e e' h1 l1 h2 h3 l2 h4 hb=>hw.jg i i' ob bB e e' (by rw[pa]at h1;exact h1) l1 h2 (by rw[pa]at h3;exact h3) l2 h4 hb,
  λi e h=>by rw[Cg];exact hw.lt i e h,λi ob h=>by rw[pa]at h;rw[Cg];exact hw.nx i ob h,⟨λb o h=>?_,λi ob h=>?_,λi i' ob bB e e' h1 h2 h3 h4 hb=>?_,λX h i e h1=>?_⟩⟩
 .exact⟨(hw.ro b o h).1,λid ob e h1=>(hw.ro b o h).2 id ob e (by rw[pa]at h1;exact h1)⟩
 .have⟨h1,_⟩:=Th H n i h;have⟨e,o,q1,q2,q3,q4,q5⟩:=hw.wx.xo i ob h1;exact⟨e,o,q1,q2,q3,q4,λid dp e1 h2=>q5 id dp e1 (by rw[pa]at h2;exact h2)⟩
 .exact hw.wx.xi i i' ob bB e e' (Th H n i h1).1 (Th H n i' h2).1 h3 h4 hb
 .have⟨X0,h2,h3⟩:=amK h;rw[h3];exact hw.wx.xl X0 h2 i e h1
theorem WR.import(hw:WR φ base H w){n ob e}(ho:H.hJ n=some ob)(he:φ.xs n=some e)(hm:∀{o},OR φ.pu ob e o->OR φ ob e o){m}(hmn:m<=H.bx):
 WR (js φ H.bx e) base ((H.nM n none).eD ob) w/\cH m φ H (js φ H.bx e) ((H.nM n none).eD ob):=by
 have kR:=hw.aDE n;have hf:=hw.yj (cM H.bx);have cu:=Ko (e:=e) hf;have⟨e',o,q1,q2,q3,q4,q5⟩:=hw.wx.xo n ob ho;rw[he]at q1;cases q1;have vj:(H.nM n none).bx=H.bx:=Cg _ _ _;refine⟨⟨λi dp e1 h1 h2=>?_,λi i' dp gV e1 e2 h1 l1 h2 h3 l2 h4 hb=>?_,λi e1 h=>?_,λi dp h=>?_,⟨λb o' h=>?_,λi dp h=>?_,λi i' dp gV e1 e2 h1 h2 h3 h4 hb=>?_,λX h i e1 h1=>?_⟩⟩,
  cu,by rw[rk,vj];omega,λi hi hn=>⟨by rw[A1,az (by omega)];exact hn,.inl (by rw[lW,vj,az (by omega),pa])⟩,?_⟩
 .rw[lW,vj]at h1;rw[A1]at h2;by_cases hi:i=H.bx
  .rw[aO hi]at h1 h2;cases h1;cases h2;exact⟨o,q2.2,(hm q3).sq cu⟩
  .rw[az hi]at h1 h2;have⟨o1,h3,h4⟩:=kR.ew i dp e1 h1 h2;exact⟨o1,h3,h4.sq cu⟩
 .rw[lW,vj]at h1 h3;rw[A1]at h2 h4;by_cases hi:i=H.bx<;>by_cases ei:i'=H.bx
  .rw[hi,ei]
  .rw[aO hi]at h1 h2;cases h1;cases h2;rw[az ei]at h3 h4;rw[pa]at h3;exact absurd hb.symm (q5 i' gV e2 h3 l2 h4)
  .rw[aO ei]at h3 h4;cases h3;cases h4;rw[az hi]at h1 h2;rw[pa]at h1;exact absurd hb (q5 i dp e1 h1 l1 h2)
  .rw[az hi]at h1 h2;rw[az ei]at h3 h4;exact kR.jg i i' dp gV e1 e2 h1 l1 h2 h3 l2 h4 hb
 .rw[rk,vj];rw[A1]at h;by_cases hi:i=H.bx
  .rw[aO hi]at h;cases h;exact⟨(MS.1 q2.2).1,q2.1,by omega⟩
  .rw[az hi]at h;have:=hw.lt i e1 h;exact⟨this.1,this.2.1,by omega⟩
 .rw[lW,vj]at h;rw[rk,vj];by_cases hi:i=H.bx
  .omega
  .rw[az hi]at h;have:=kR.nx i dp h;rw[vj]at this;omega
 .have h:φ.ro b=some o':=h;refine⟨(hw.ro b o' h).1,λid dp e1 h1 l1 h2=>?_⟩;rw[lW,vj]at h1;rw[A1]at h2;by_cases hi:id=H.bx
  .rw[aO hi]at h2;cases h2;intro hb;rw[hb,h]at q4;cases q4
  .rw[az hi]at h1 h2;rw[pa]at h1;exact(hw.ro b o' h).2 id dp e1 h1 l1 h2
 .rw[tw (zd _ _)]at h;have⟨h1,cE⟩:=Th H n i h;have⟨e1,o1,r1,r2,r3,r4,r5⟩:=hw.wx.xo i dp h1;refine⟨e1,o1,r1,r2,r3,r4,λid gV e2 h2 l2 h3=>?_⟩;rw[lW,vj]at h2;rw[A1]at h3;by_cases hi:id=H.bx
  .rw[aO hi]at h3;cases h3;exact λhb=>cE (hw.wx.xi i n dp ob e1 _ h1 ho r1 he hb.symm)
  .rw[az hi]at h2 h3;rw[pa]at h2;exact r5 id gV e2 h2 l2 h3
 .rw[tw (zd _ _)]at h1 h2;exact kR.wx.xi i i' dp gV e1 e2 h1 h2 h3 h4 hb
 .rw[zd]at h;exact kR.wx.xl X h i e1 h1
 .refine⟨by rw[zd];exact amJ _ _ _,λ_ i e1 h=>h⟩
theorem WR.To(hw:WR φ base H w){id ob e}(ho:H.bf id=some ob)(hl:ob.aR=true)(he:φ id=some e)(hm:∀{o},OR φ ob e o->OR φ.pu ob e o){nm H'}(hx:AH.Ny (H.cQ id (.bc [])) ob=some (nm,H'))(m):
 ∃aQ:cj,aQ.xs nm=some e/\WR aQ base H' w/\cH m φ H aQ H':=by
 have kR:=hw.yG (vs:=[]) ho;have wJ:=cH.oN (H:=H) (m:=m) he (.bc []);have mC:∀i dp e1,(H.cQ id (.bc [])).bf i=some dp->dp.aR=true->φ i=some e1->e1.b≠e.b:=by
  intro i dp e1 h1 l1 h2 hb;rw[oF]at h1;by_cases hi:i=id
  .rw[aO hi]at h1;cases h1;cases l1
  .rw[az hi]at h1;exact hi (hw.jg i id dp ob e1 e h1 l1 h2 ho hl he hb)
 have⟨o,q1,q2⟩:=hw.ew id ob e ho he;have q3:=(hw.lt id e he).2.1;have q4:φ.ro e.b=none:=by
  cases hr:φ.ro e.b with
  |none=>rfl
  |some o'=>exact absurd rfl ((hw.ro _ o' hr).2 id ob e ho hl he)
 have q5:∀n dp e1,H.hJ n=some dp->φ.xs n=some e1->e1.b≠e.b:=by intro n dp e1 h1 h2 hb;have⟨e2,o2,r1,r2,r3,r4,r5⟩:=hw.wx.xo n dp h1;rw[h2]at r1;cases r1;exact r5 id ob e ho hl he hb.symm
 have EP:∀n,(H.cQ id (.bc [])).hJ n=H.hJ n:=tw (xH _ _ _);generalize H.cQ id (.bc [])=H1 at kR hx wJ mC EP;have⟨h,k,x⟩:=H1;cases x with
 |none=>cases hx
 |some X=>
  cases hx;have iJ:=λn e' h=>kR.wx.xl X rfl n e' h
  let aQ:cj:=⟨φ.f,φ.ro,λi=>if i=X.n then some e else φ.xs i⟩
  have cE:∀{n e'},φ.xs n=some e'->n≠X.n:=λh=>Nat.ne_of_lt (iJ _ _ h)
  have cu:dv φ aQ:=⟨λ_ _ h=>h,λ_ _ h=>h,λn e' h=>by show(if n=X.n then some e else φ.xs n)=_;rw[az (cE h)];exact h⟩;have hg:∀n,(⟨h,k,some ⟨(X.set X.n (some ob)).g,X.n+1⟩⟩:AH).hJ n=if n=X.n then some ob else H.hJ n:=by intro n;show(bif Nat.beq n X.n then some ob else X.g n)=_;rw[Tr.s_,Tr.A0,<-EP n];rfl
  have LU:∀n,aQ.xs n=if n=X.n then some e else φ.xs n:=λ_=>rfl
  have H9:aQ.xs X.n=some e:=by rw[LU,aO rfl]
  refine⟨aQ,H9,⟨λi dp e1 h1 h2=>?_,kR.jg,kR.lt,kR.nx,⟨kR.wx.ro,λn dp h1=>?_,λn n' dp gV e1 e2 h1 h2 h3 h4 hb=>?_,λX' hX n e1 h1=>?_⟩⟩,wJ.tC ⟨cu,cM _,λi _ hn=>⟨hn,.inl rfl⟩,⟨by simp,λh=>by cases h⟩⟩⟩
  .have⟨o1,h3,h4⟩:=kR.ew i dp e1 h1 h2;exact⟨o1,h3,h4.sq cu⟩
  .rw[hg]at h1;by_cases hn:n=X.n
   .rw[aO hn]at h1;cases h1;subst hn;exact⟨e,o,H9,⟨q3,q1⟩,(hm q2).sq cu.pu,q4,mC⟩
   .rw[az hn]at h1;have⟨e2,o2,r1,r2,r3,r4,r5⟩:=kR.wx.xo n dp ((EP n).trans h1);exact⟨e2,o2,cu.xs _ _ r1,r2,r3.sq cu.pu,r4,r5⟩
  .rw[hg]at h1 h2;rw[LU]at h3 h4;by_cases hn:n=X.n<;>by_cases BP:n'=X.n
   .rw[hn,BP]
   .rw[aO hn]at h1 h3;cases h3;rw[az BP]at h2 h4;exact absurd hb.symm (q5 n' gV e2 h2 h4)
   .rw[aO BP]at h2 h4;cases h4;rw[az hn]at h1 h3;exact absurd hb (q5 n dp e1 h1 h3)
   .rw[az hn]at h1 h3;rw[az BP]at h2 h4;exact hw.wx.xi n n' dp gV e1 e2 h1 h2 h3 h4 hb
  .cases hX;rw[LU]at h1;by_cases hn:n=X.n
   .show n<X.n+1;omega
   .rw[az hn]at h1;have:=iJ n e1 h1;show n<X.n+1;omega
theorem amL{H:AH}{n ob bB}(ho:H.hJ n=some ob)(i):(H.nM n (some bB)).hJ i=if i=n then some bB else H.hJ i:=by
 have⟨a,k,x⟩:=H;cases x with
 |none=>cases ho
 |some X=>show(bif Nat.beq i n then some bB else X.g i)=_;rw[Tr.s_,Tr.A0];rfl
theorem WR.aDJ(hw:WR φ base H w){n ob bB e w'}(ho:H.hJ n=some ob)(he:φ.xs n=some e)(cv:w'.heap.size=w.heap.size)(yz:∀b,b≠e.b->w'.heap[b]? =w.heap[b]?)(LC:∃o',w'.heap[e.b]? =some o'/\OR φ.pu bB e o'):WR φ base (H.nM n (some bB)) w':=by
 have⟨e',o,q1,q2,q3,q4,q5⟩:=hw.wx.xo n ob ho;rw[he]at q1;cases q1;refine⟨λi dp e1 h1 h2=>?_,λi i' dp gV e1 e2 h1 l1 h2 h3 l2 h4 hb=>hw.jg i i' dp gV e1 e2 (by rw[pa]at h1;exact h1) l1 h2 (by rw[pa]at h3;exact h3) l2 h4 hb,
  λi e1 h=>by rw[Cg,cv];exact hw.lt i e1 h,λi dp h=>by rw[pa]at h;rw[Cg];exact hw.nx i dp h,⟨λb o' h=>?_,λi dp h=>?_,λi i' dp gV e1 e2 h1 h2 h3 h4 hb=>?_,λX h i e1 h1=>?_⟩⟩
 .rw[pa]at h1;by_cases mB:dp.aR=true
  .have⟨o1,h3,h4⟩:=hw.ew i dp e1 h1 h2;exact⟨o1,by rw[yz _ (q5 i dp e1 h1 mB h2)];exact h3,h4⟩
  .cases dp<;>simp[bk.aR]at mB;have h5:=(hw.lt i e1 h2).1;refine⟨w'.heap[e1.b]'(by rw[cv];exact h5),by simp[cv,h5],trivial⟩
 .have⟨⟨k1,k2⟩,k3⟩:=hw.ro b o' h;have hb:b≠e.b:=by rintro rfl;rw[q4]at h;cases h
  exact⟨⟨k1,(yz b hb).trans k2⟩,λid dp e1 h1=>k3 id dp e1 (by rw[pa]at h1;exact h1)⟩
 .rw[amL ho]at h;by_cases hi:i=n
  .rw[aO hi]at h;cases h;subst hi;have⟨o',r1,r2⟩:=LC;exact⟨e,o',he,⟨q2.1,r1⟩,r2,q4,λid gV e2 h1=>q5 id gV e2 (by rw[pa]at h1;exact h1)⟩
  .rw[az hi]at h;have⟨e1,o1,r1,r2,r3,r4,r5⟩:=hw.wx.xo i dp h;have hb:=λhb=>hi (hw.wx.xi i n dp ob e1 e h ho r1 he hb)
   exact⟨e1,o1,r1,⟨r2.1,(yz _ hb).trans r2.2⟩,r3,r4,λid gV e2 h1=>r5 id gV e2 (by rw[pa]at h1;exact h1)⟩
 .have au:∀{j bf},(H.nM n (some bB)).hJ j=some bf->∃auT,H.hJ j=some auT:=by
   intro j bf h;rw[amL ho]at h;by_cases hj:j=n
   .rw[hj];exact⟨ob,ho⟩
   .rw[az hj]at h;exact⟨bf,h⟩
  have⟨o1,g1⟩:=au h1;have⟨o2,g2⟩:=au h2;exact hw.wx.xi i i' o1 o2 e1 e2 g1 g2 h3 h4 hb
 .have⟨X0,h2,h3⟩:=amK h;rw[h3];exact hw.wx.xl X0 h2 i e1 h1
theorem cH.nM{m n o}:cH m φ H φ (H.nM n o):=
 ⟨dv.refl φ,by rw[Cg];exact cM _,λi _ hn=>⟨hn,.inl (pa _ _ _ _)⟩,amJ _ _ _,λ_ _ _ h=>h⟩
theorem cY.auW(hw:WR φ base H w){n ob e w'}(ho:H.hJ n=some ob)(he:φ.xs n=some e)(cv:w'.heap.size=w.heap.size)(yz:∀b,b≠e.b->w'.heap[b]? =w.heap[b]?)(hs:uM w w':=by exact⟨rfl,rfl,rfl⟩):cY base w w':=by have⟨e',o,q1,q2,_⟩:=hw.wx.xo n ob ho;rw[he]at q1;cases q1;exact⟨by omega,λb hb=>yz b (λh=>q2.1 (h▸hb)),hs⟩
end
section
variable{P:Program}{φ:cj}{base:fv}{H:AH}{w:World}{ρ:Operand->Option AV}{ev:Operand->Value}
def eP(P:Program)(m:Nat)(base:fv)(φ:cj)(H:AH)(w:World)(s:Sem Next)(v:AV)(H':AH):Prop:=
 ∃(aQ:cj) (w':World) (v':Value),(s.run P w=.ok (.value v') w'\/(s.run P w=.ok .skip w'/\v'=undef))/\VR aQ v v'/\WR aQ base H' w'/\cH m φ H aQ H'/\cY base w w'
def rR(P:Program)(m:Nat)(base:fv)(φ:cj)(H:AH)(w:World)(s:Sem Next):iM->Prop
 |.gE v H'=>eP P m base φ H w s v H'
 |.qc f args=>∃args':Array Value,s.run P w=.ok (.enter f args') w/\bp φ args args'.toList
 |.uJ l args=>∃(e:PE) (args':Array Value),φ l=some e/\s.run P w=(Instr.yield e.b args').run P w/\bp φ args args'.toList
 |.wg d=>∃d',s.run P w=.ok (.defer d') w/\DR φ d d'
 |.uI v=>∃v',s.run P w=.halt (.panic v') w/\VR φ v v'
 |.wh=>s.run P w=.ok .recover w
theorem Jn(φ):VR φ .lI undef:=⟨#[],rfl,lK⟩
theorem alb(cur xs:List Value)(o off L)(h1:o+L<=cur.length)(h2:off+xs.length<=L):
 ((cur.take (o+off)++xs++cur.drop (o+off+xs.length)).drop o).take L=((cur.drop o).take L).take off++(xs++((cur.drop o).take L).drop (off+xs.length)):=by
 apply Sk;intro i;by_cases hL:i<L
 .rw[xh hL,tf,j7];simp only[List.getElem?_append,vN,qeb];rw[show min (o+off) cur.length=o+off by omega,show min off (min L (cur.length-o))=off by omega];by_cases h3:i<off
  .rw[aO (by omega),aO h3,xh (by omega),xh h3,xh hL,tf]
  .rw[az (by omega),az h3];rw[show o+i-(o+off)=i-off by omega];by_cases h4:i-off<xs.length
   .rw[aO h4,aO h4]
   .rw[az h4,az h4,tf,tf,xh (by omega),tf];congr 1;omega
 .rw[Ay (by simp;omega),Ay (by simp;omega)]
theorem FE(w:World)(g cs):(w.setRow g cs).heap.size=w.heap.size:=by simp
theorem FD(w:World)(g cs){b}(h:b≠g):(w.setRow g cs).heap[b]? =w.heap[b]? :=by unfold World.setRow;simp only[Array.getElem?_modify];rw[az (λe=>h e.symm)]
theorem WR.abO(hw:WR φ base H w){ψ id off vs r cells el FX e ob bB}(ho:H.bf id=some ob)(mC:ob.aR=true)(eH:∀o,OR φ ob e o->OR ψ (.aj vs el) e o)(he:φ id=some e)(hp:xe vs off cells=some r)(hc:bp ψ cells FX)(h1:cells.all AV.cX=true)(yx:∀o,OR ψ (.aj r el) e o->OR φ bB e o):
 ∃w',(storeCells ⟨e.b,e.o+off,none⟩ FX).run P w=.ok () w'/\WR φ base (H.cQ id bB) w'/\cY base w w':=by
 have⟨o,hg,sY⟩:=hw.ew id _ e ho he;obtain⟨cs,gO,rfl,cv,cu,hv,nB⟩:=eH o sY;obtain⟨ahm,rfl⟩:=Sc hp;have hl:=hc.jf;have dN:=run_storeCells_at P e.b (e.o+off) gO FX 0 cs w hg (by simp;omega) (AV.aah hc h1);simp only[I3]at dN;refine⟨_,dN,?_,?_⟩
 .refine hw.put ho mC he (FE _ _ _) (λb hb=>FD _ _ _ hb) ⟨_,setRow_heap w e.b cs _ gO _ hg,?_⟩;refine yx _ ⟨_,gO,rfl,?_,?_,?_,?_⟩
  .simp;omega
  .simp;omega
  .have bS:(vs.take off++(cells++vs.drop (off+cells.length))).length=vs.length:=by simp;omega
   rw[bS];have:=alb cs.toList FX e.o off vs.length (by simp;omega) (by omega);rw[this];exact hv.put hc
  .simp only[sc,dk];refine⟨?_,h1,?_⟩
   .rw[lZ]at nB⊢;exact λx hx=>nB x (CE hx)
   .rw[lZ]at nB⊢;exact λx hx=>nB x (Fu hx)
 .exact cY.MB hw he (FE _ _ _) (λb hb=>FD _ _ _ hb)
theorem WR.aDB(hw:WR φ base H w){id off vs r cells el FX e ob}(ho:H.bf id=some ob)(mC:ob.aR=true)(eH:∀o,OR φ ob e o->OR φ (.aj vs el) e o)(he:φ id=some e)(hp:xe vs off cells=some r)(hc:bp φ cells FX)(h1:cells.all AV.cX=true):
 ∃w',(storeCells ⟨e.b,e.o+off,none⟩ FX).run P w=.ok () w'/\WR φ base (H.cQ id (.aj r el)) w'/\cY base w w':=
 hw.abO ho mC eH he hp hc h1 (λ_ h=>h)
theorem aB8(hw:WR φ base H w){t id off v vv H' e}(h:Jg P H t id off v=some H')(he:φ id=some e)(hv:VR φ v vv):
 ∃w',(storeVar t ⟨e.b,e.o+off,none⟩ vv).run P w=.ok () w'/\WR φ base H' w'/\cY base w w'/\∀m,cH m φ H φ H':=by
 unfold Jg at h;split at h;next vs el s ho hs=>
  have⟨hb,h⟩:=dn h;simp only[dk]at hb;obtain⟨r,hr,rfl⟩:=tb h;have hc:=AV.sA hv;have bS:vv.cells.size=s:=by have h1:=hc.jf;have h2:=dG hb.1;simp at h1;omega
  have⟨w',h1,h2,h3⟩:=hw.aDB (P:=P) ho rfl (λo h=>h) he hr hc hb.2;refine⟨w',?_,h2,h3,λm=>cH.oN he _⟩;simp[storeVar,jE hs w,bS,h1]
 next vs el s ho hs=>
  have⟨hb,hq⟩:=dn h;simp only[dk]at hb;obtain⟨r,hr,rfl⟩:=tb hq;have hc:=AV.sA hv;have bS:vv.cells.size=s:=by have h1:=hc.jf;have h2:=dG hb.1.1;simp at h1;omega
  have zT:=bp.wj (ψ:=φ.pu) _ _ (by rw[vL];exact hb.2) hc;have⟨w',h1,h2,h3⟩:=hw.abO (P:=P) (el:=el) (bB:=.dR r el) ho rfl (λo h=>h) he hr zT hb.1.2 (λo h=>h);refine⟨w',?_,h2,h3,λm=>cH.oN he _⟩;simp[storeVar,jE hs w,bS,h1]
 next vs el s ho hs=>
  have⟨hb,hq⟩:=dn h;simp only[dk]at hb;obtain⟨r,hr,rfl⟩:=tb hq;have hc:=AV.sA hv;have bS:vv.cells.size=s:=by have h1:=hc.jf;have h2:=dG hb.1.1;simp at h1;omega
  have zT:=bp.wj (ψ:=φ.pu) _ _ (by rw[vL];exact hb.2) hc;have⟨w',h1,h2,h3⟩:=hw.abO (P:=P) (el:=el) (bB:=.ay r el) ho rfl (λo h=>h) he hr zT hb.1.2 (λo h=>h);refine⟨w',?_,h2,h3,λm=>cH.oN he _⟩;simp[storeVar,jE hs w,bS,h1]
 .cases h
theorem aB9(hw:WR φ base H w){t n off v vv H' e}(h:Ng P H t n off v=some H')(he:φ.xs n=some e)(hv:VR φ v vv):
 ∃w',(storeVar t ⟨e.b,e.o+off,none⟩ vv).run P w=.ok () w'/\WR φ base H' w'/\cY base w w'/\∀m,cH m φ H φ H':=by
 unfold Ng at h;split at h;next vs el s ho hs=>
  have⟨hb,h⟩:=dn h;simp only[dk]at hb;obtain⟨r,hr,rfl⟩:=tb h;have hc:=AV.sA hv;have bS:vv.cells.size=s:=by have h1:=hc.jf;have h2:=dG hb.1.1;simp at h1;omega
  have zT:=bp.wj (ψ:=φ.pu) _ _ (by rw[vL];exact hb.2) hc;have⟨cs,gO,hg,cv,cu,jA,nB⟩:=hw.x_ (show x_ (H.hJ n)=some vs by rw[ho];rfl) he;obtain⟨ahm,rfl⟩:=Sc hr;have hl:=zT.jf;have dN:=run_storeCells_at P e.b (e.o+off) gO vv.cells.toList 0 cs w hg (by simp at hl⊢;omega) (AV.aah zT hb.1.2);simp only[I3]at dN;refine⟨_,by simp only[storeVar,Sem.run_bind,jE hs w,Result.andThen_ok,bS];rw[az (λh=>h rfl)];exact dN,?_,cY.auW hw ho he (FE _ _ _) (λb hb=>FD _ _ _ hb),λm=>cH.nM⟩;refine hw.aDJ ho he (FE _ _ _) (λb hb=>FD _ _ _ hb) ⟨_,setRow_heap w e.b cs _ gO _ hg,?_⟩;refine⟨_,gO,rfl,?_,?_,?_,?_⟩
  .simp at hl⊢;omega
  .simp at hl⊢;omega
  .have bS:(vs.take off++(v.dK++vs.drop (off+v.dK.length))).length=vs.length:=by simp;omega
   rw[bS];have:=alb cs.toList vv.cells.toList e.o off vs.length (by simp;omega) (by omega);rw[this];exact jA.put zT
  .simp only[sc,dk];rw[lZ]at nB;refine⟨?_,hb.1.2,?_⟩
   .rw[lZ];exact λx hx=>nB x (CE hx)
   .rw[lZ];exact λx hx=>nB x (Fu hx)
 .cases h
end
section
variable{P:Program}{φ:cj}{base:fv}{H:AH}{w:World}{ρ:Operand->Option AV}{ev:Operand->Value}
theorem afK{a b va vb}(h:Hb a b=true)(ha:VR φ a va)(hb:VR φ b vb)(n):va=vb/\Instr.sameBits n va vb=true:=by
 unfold Hb at h;split at h
 .simp at h;obtain⟨rfl,rfl⟩:=h;subst ha hb;exact⟨rfl,by cases n<;>simp[Instr.sameBits]⟩
 .rw[mu,Cx]at h;subst h;obtain⟨x,rfl,h1⟩:=ha;obtain⟨y,rfl,h2⟩:=hb;have:=abC (h1.trans h2.symm);subst this;exact⟨rfl,by cases n<;>simp[Instr.sameBits,beq_toListBytes]⟩
 .simp at h;subst h;subst ha hb;exact⟨rfl,by cases n<;>simp[Instr.sameBits]⟩
 .cases h
theorem afM:∀{as bs va vb},DW as bs=true->bp φ as va->bp φ bs vb->∀n,va=vb/\(va.zip vb).all (λp=>Instr.sameBits n p.1 p.2)=true
 |[],[],va,vb,_,ha,hb,n=>by simp only[bp]at ha hb;subst ha hb;simp
 |a::as,b::bs,va,vb,h,ha,hb,n=>by obtain⟨x,xs,rfl,h1,h2⟩:=ha;obtain⟨y,ys,rfl,h3,h4⟩:=hb;simp only[DW,dk]at h;have⟨e1,e2⟩:=afK h.1 h1 h3 n;have⟨e3,e4⟩:=afM h.2 h2 h4 n;subst e1 e3;exact⟨rfl,by simp only[List.zip_cons_cons,List.all_cons,dk];exact⟨e2,e4⟩⟩
 |[],_::_,_,_,h,_,_,_=>by simp[DW]at h
 |_::_,[],_,_,h,_,_,_=>by simp[DW]at h
theorem afL{a b va vb}(h:Ha a b=true)(ha:VR φ a va)(hb:VR φ b vb)(n):va=vb/\Instr.sameBits (n+1) va vb=true:=by
 unfold Ha at h;split at h
 .obtain⟨x,rfl,h1⟩:=ha;obtain⟨y,rfl,h2⟩:=hb;have⟨e,e2⟩:=afM h h1 h2 n;have:x=y:=by cases x;cases y;simpa using e
  subst this;exact⟨rfl,by simp only[Instr.sameBits,beq_self_eq_true,rA];exact e2⟩
 .exact afK h ha hb (n+1)
theorem aie{old new}(h:Instr.sameBits 10000 old new=true)(w):(Instr.keyThatStays old new).run P w=.ok new w:=by unfold Instr.keyThatStays;rw[aO h];rfl
theorem dI.get:∀{es ms},dI φ es ms->∀{i:Nat} {k v b},es[i]? =some (k,v,b)->∃m,ms[i]? =some m/\VR φ k m.key/\VR φ v m.val/\m.born=b
 |[],_,_,i,_,_,_,h=>by simp at h
 |(k,v,b)::es,_,he,i,k',v',b',h=>by
  obtain⟨m,ms,rfl,h1,h2,h3,h4⟩:=he;cases i with
  |zero=>simp at h;obtain⟨rfl,rfl,rfl⟩:=h;exact⟨m,rfl,h1,h2,h3⟩
  |succ i=>simp at h⊢;exact dI.get h4 h
theorem dI.Dl{f g}:∀{es ms},dI φ es ms->∀{i},
 (∀k v b m,es[i]? =some (k,v,b)->ms[i]? =some m->VR φ k m.key->VR φ v m.val->m.born=b->VR φ (f (k,v,b)).1 (g m).key/\VR φ (f (k,v,b)).2.1 (g m).val/\(g m).born=(f (k,v,b)).2.2)->
 dI φ (pn es i f) (ms.modify i g)
 |[],_,he,i,_=>by simp only[dI]at he;subst he;simp[pn,dI]
 |(k,v,b)::es,_,he,i,h=>by
  obtain⟨m,ms,rfl,h1,h2,h3,h4⟩:=he;cases i with
  |zero=>have⟨e1,e2,e3⟩:=h k v b m rfl rfl h1 h2 h3;simp;exact⟨g m,ms,rfl,e1,e2,e3,h4⟩
  |succ i=>simp;exact⟨m,_,rfl,h1,h2,h3,dI.Dl h4 (λk v b m a1 a2=>h k v b m (by simpa using a1) (by simpa using a2))⟩
theorem dI.Jw:∀{es bF ms Rr},dI φ es ms->dI φ bF Rr->dI φ (es++bF) (ms++Rr)
 |[],_,_,_,he,h'=>by simp only[dI]at he;subst he;simpa using h'
 |(k,v,b)::es,_,_,_,he,h'=>by obtain⟨m,ms,rfl,h1,h2,h3,h4⟩:=he;exact⟨m,_,rfl,h1,h2,h3,dI.Jw h4 h'⟩
theorem dI.Tm:∀{es ms},dI φ es ms->∀i,dI φ (DX es i) (ms.eraseIdx i)
 |[],_,he,i=>by simp only[dI]at he;subst he;simp[DX,dI]
 |(k,v,b)::es,_,he,i=>by
  obtain⟨m,ms,rfl,h1,h2,h3,h4⟩:=he;cases i with
  |zero=>simpa[DX]using h4
  |succ i=>simp;exact⟨m,_,rfl,h1,h2,h3,dI.Tm h4 i⟩
theorem dI.af2:∀{es ms},dI φ es ms->∀(b:Nat),ms.findIdx? (λe=>(e.born:Int)==(b:Int))=es.findIdx? (λe=>Nat.beq e.2.2 b)
 |[],_,he,b=>by simp only[dI]at he;subst he;simp
 |(k,v,b')::es,_,he,b=>by
  obtain⟨m,ms,rfl,h1,h2,h3,h4⟩:=he;simp only[List.findIdx?_cons];have e1:((m.born:Int)==(b:Int))=Nat.beq b' b:=by rw[Tr.s_,h3,rC];simp;omega
  rw[e1,dI.af2 h4 b]
theorem XY{r o o'}(hb:w.heap[r]? =some o):(w.heap.setIfInBounds r o')[r]? =some o'/\∀r',r'≠r->(w.heap.setIfInBounds r o')[r']? =w.heap[r']? :=by have ax:=(MS.1 hb).1;exact⟨by simp[ax],λr' cE=>by simp[Ne.symm cE]⟩
theorem WR.AE(hw:WR φ base H w){id ob bB e o o'}(ho:H.bf id=some ob)(hl:ob.aR=true)(he:φ id=some e)(hg:w.heap[e.b]? =some o)(hc:o.isCells=false)(sY:OR φ bB e o'):
 ∃w',(setObj e.b o').run P w=.ok () w'/\WR φ base (H.cQ id bB) w'/\cY base w w':=by
 have hs:=XY (o':=o') hg;refine⟨_,alg hg hc,hw.put ho hl he (by simp) (λb hb=>hs.2 b hb) ⟨o',hs.1,sY⟩,cY.MB hw he (by simp) (λb hb=>hs.2 b hb)⟩
theorem aaw{kt k}(hp:r9 P kt k=true):∃d,P.underlying kt=some d:=by
 cases Yh:P.underlying kt with
 |none=>simp[r9,Yh]at hp
 |some d=>exact⟨d,rfl⟩
theorem PN{p k v vk vv}(h:uU p k v=true)(hk:VR φ k vk)(hv:VR φ v vv)(hp:p=true):VR φ.pu k vk/\VR φ.pu v vv:=by subst hp;simp only[uU,cond_true,dk]at h;exact⟨VR.Dq k vk h.1 hk,VR.Dq v vv h.2 hv⟩
theorem aiU(hw:WR φ base H w){t m k v vm vk vv H'}(h:IC P H t m k v=some H')(hm:VR φ m vm)(hk:VR φ k vk)(hv:VR φ v vv):
 ∃w',(Instr.mapUpdate t vm vk vv).run P w=.ok () w'/\WR φ base H' w'/\cY base w w'/\∀m,cH m φ H φ H':=by
 unfold IC at h;split at h;next kt elem id hu=>
  split at h;next es clock p ho=>
   obtain⟨e,he,rfl⟩:=hm;obtain⟨o,hg,bF,rfl,jk,Af⟩:=hw.ew id _ e ho he;have⟨hpf,h⟩:=dn h;simp at hpf;have⟨hp,j4⟩:=hpf;have j4:=PN j4 hk hv;have⟨d,hd⟩:=aaw hp;have sQ:=O8 hp hk false 9998 w;split at h;next i x b hf=>
    have⟨EI,h⟩:=dn h;cases h;have⟨r',h1,h2⟩:=Bo hd hk jk hf w;obtain⟨me,k0,rfl,e3,e4,e5,e6⟩:=h2.at;have Wv:bF[i]? =some me:=by simpa using e4
    have BU:vk=me.key/\Instr.sameBits 10000 me.key vk=true:=by unfold xy at EI;rw[e3]at EI;have⟨m',a1,a2,_,_⟩:=jk.get e3;rw[e4]at a1;cases a1;have:=afL EI a2 hk 9999;exact⟨this.1.symm,this.2⟩
    have⟨w',b1,b2,b3⟩:=hw.AE (P:=P) (bB:=.bm (pn es i λe=>(k,v,e.2.2)) clock p) (o':=.map (bF.modify i λe=>{e with key:=vk,val:=vv}) clock) ho rfl he hg rfl
     ⟨_,rfl,by rw[Array.toList_modify];exact⟨jk.Dl (λk v b m _ _ _ _ hb=>⟨hk,hv,hb⟩),λhp=>(Af hp).Dl (λk v b m _ _ _ _ hb=>⟨(j4 hp).1,(j4 hp).2,hb⟩)⟩⟩
    refine⟨w',?_,b2,b3,λm=>cH.oN he _⟩;simp only[Instr.mapUpdate,Sem.run_bind,run_underlying hu w,Result.andThen_ok,qq hg rfl,sQ,h1,Wv,qC,Sh,aie BU.2,b1]
   next hf=>
    cases h;have⟨r',h1,h2⟩:=Bo hd hk jk hf w;subst h2;have⟨w',b1,b2,b3⟩:=hw.AE (P:=P) (bB:=.bm (es++[(k,v,clock)]) (clock+1) p) (o':=.map (bF.push {key:=vk,val:=vv,born:=clock}) (clock+1)) ho rfl he hg rfl
     ⟨_,rfl,by rw[Array.toList_push];exact⟨jk.Jw ⟨_,[],rfl,hk,hv,rfl,by simp[dI]⟩,λhp=>(Af hp).Jw ⟨_,[],rfl,(j4 hp).1,(j4 hp).2,rfl,by simp[dI]⟩⟩⟩
    refine⟨w',?_,b2,b3,λm=>cH.oN he _⟩;simp only[Instr.mapUpdate,Sem.run_bind,run_underlying hu w,Result.andThen_ok,qq hg rfl,sQ,h1,b1]
   .cases h
  .cases h
 .cases h
end
section
variable{P:Program}{φ:cj}{base:fv}{m:Nat}{H:AH}{w:World}{ρ:Operand->Option AV}{ev:Operand->Value}
theorem eP.of{s v H' aQ w' v'}(h:s.run P w=.ok v' w')(hv:VR aQ v v')(hw:WR aQ base H' w')(he:cH m φ H aQ H')(hk:cY base w w'):
 eP P m base φ H w (do pure (.value (<-s)):Sem Next) v H':=⟨aQ,w',v',.inl (Hf h),hv,hw,he,hk⟩
theorem eP.JB{s H' aQ w'}(h:s.run P w=.ok () w')(hw:WR aQ base H' w')(he:cH m φ H aQ H')(hk:cY base w w'):
 eP P m base φ H w (do s;pure .skip:Sem Next) .lI H':=⟨aQ,w',undef,.inr ⟨by simp[h],rfl⟩,Jn _,hw,he,hk⟩
theorem aao{a b x y}(ha:VR φ a x)(hb:VR φ b y):VR φ (.aC [a,b]) (.tuple #[x,y]):=⟨_,rfl,qg.2 ⟨ha,oP hb⟩⟩
theorem abD{a b c x y z}(ha:VR φ a x)(hb:VR φ b y)(hc:VR φ c z):VR φ (.aC [a,b,c]) (.tuple #[x,y,z]):=⟨_,rfl,qg.2 ⟨ha,qg.2 ⟨hb,oP hc⟩⟩⟩
theorem aqG(hw:WR φ base H w){t kt elem id key vk e aK}(hu:P.underlying t=some (.map kt elem))(h:PB P H kt elem id key=some aK)(he:φ id=some e)(hk:VR φ key vk):
 ∃v H',aK=.gE v H'/\eP P m base φ H w (do pure (.value (<-Instr.mapEntry t (.map (some e.b)) vk)):Sem Next) v H':=by
 unfold PB at h;split at h;next es clock p ho=>
  obtain⟨o,hg,bF,rfl,jk,Af⟩:=hw.ew id _ e ho he;have⟨hp,h⟩:=dn h;have⟨d,hd⟩:=aaw hp;have sQ:=O8 hp hk false 9998 w;split at h;next i x b hf=>
   have⟨ahy,h⟩:=dn h;simp at ahy;have⟨EI,j4⟩:=ahy;have j4:=PN (vv:=.pointer none) j4 hk (by simp[VR]);cases h;have⟨r',h1,h2⟩:=Bo hd hk jk hf w;obtain⟨me,k0,rfl,e3,e4,e5,e6⟩:=h2.at;have Wv:bF[i]? =some me:=by simpa using e4
   have BU:vk=me.key/\Instr.sameBits 10000 me.key vk=true:=by unfold xy at EI;rw[e3]at EI;have⟨m',a1,a2,_,_⟩:=jk.get e3;rw[e4]at a1;cases a1;have:=afL EI a2 hk 9999;exact⟨this.1.symm,this.2⟩
   have⟨w',b1,b2,b3⟩:=hw.AE (P:=P) (bB:=.bm (pn es i λe=>(key,e.2)) clock p) (o':=.map (bF.modify i λe=>{e with key:=vk}) clock) ho rfl he hg rfl
    ⟨_,rfl,by rw[Array.toList_modify];exact⟨jk.Dl (λk v b m _ _ _ hv hb=>⟨hk,hv,hb⟩),λhp=>(Af hp).Dl (λk v b m _ _ _ hv hb=>⟨(j4 hp).1,hv,hb⟩)⟩⟩
   refine⟨_,_,rfl,eP.of (v':=.tuple #[me.val,goInt me.born]) ?_ (aao (Z4 e5) (by rw[e6];exact D_ b)) b2 (cH.oN he _) b3⟩;simp only[Instr.mapEntry,Sem.run_bind,run_underlying hu w,Result.andThen_ok,qq hg rfl,sQ,h1,Wv,qC,Sh,aie BU.2,b1,Sem.run_pure]
  next hf=>
   split at h;next z hz=>
    have⟨j4,h⟩:=dn h;cases h;have⟨vz,LW,Y0⟩:=zg (φ:=φ) hz;have j4:=PN j4 hk LW;have⟨r',h1,h2⟩:=Bo hd hk jk hf w;subst h2;have⟨w',b1,b2,b3⟩:=hw.AE (P:=P) (bB:=.bm (es++[(key,z,clock)]) (clock+1) p) (o':=.map (bF.push {key:=vk,val:=vz,born:=clock}) (clock+1)) ho rfl he hg rfl
     ⟨_,rfl,by rw[Array.toList_push];exact⟨jk.Jw ⟨_,[],rfl,hk,LW,rfl,by simp[dI]⟩,λhp=>(Af hp).Jw ⟨_,[],rfl,(j4 hp).1,(j4 hp).2,rfl,by simp[dI]⟩⟩⟩
    refine⟨_,_,rfl,eP.of ?_ (aao (Z4 LW) (D_ clock)) b2 (cH.oN he _) b3⟩;simp only[Instr.mapEntry,Sem.run_bind,run_underlying hu w,Result.andThen_ok,qq hg rfl,sQ,h1,Y0 w,b1,Sem.run_pure]
   .cases h
  .cases h
 .cases h
theorem aqH(hw:WR φ base H w){t id born k v vv e aK}(h:PC H id born v=some aK)(he:φ id=some e)(hv:VR φ v vv):
 ∃H',aK=.gE .lI H'/\eP P m base φ H w (do Instr.entryStore t (.map (some e.b)) (.int k (born:Int)) vv;pure .skip:Sem Next) .lI H':=by
 unfold PC at h;split at h;next es clock p ho=>
  obtain⟨o,hg,bF,rfl,jk,Af⟩:=hw.ew id _ e ho he;split at h;next i hi=>
   have⟨j4,h⟩:=dn h;have j4:=PN (vk:=.pointer none) j4 (by simp[VR]) hv;cases h;have hf:=jk.af2 born;rw[hi]at hf;have Qx:bF.findIdx? (λe=>(e.born:Int)==(born:Int))=some i:=by cases bF;simpa using hf
   have⟨w',b1,b2,b3⟩:=hw.AE (P:=P) (bB:=.bm (pn es i λe=>(e.1,v,e.2.2)) clock p) (o':=.map (bF.modify i λe=>{e with val:=vv}) clock) ho rfl he hg rfl
    ⟨_,rfl,by rw[Array.toList_modify];exact⟨jk.Dl (λk v b m _ _ hk _ hb=>⟨hk,hv,hb⟩),λhp=>(Af hp).Dl (λk v b m _ _ hk _ hb=>⟨hk,(j4 hp).2,hb⟩)⟩⟩
   refine⟨_,rfl,eP.JB ?_ b2 (cH.oN he _) b3⟩;simp only[Instr.entryStore,Sem.run_bind,qq hg rfl,Result.andThen_ok,asInt,asIntOf,Sem.run_pure,Qx,b1]
  .cases h
 .cases h
theorem WR.yK(hw:WR φ base H w)(hb:hQ base w){ob o' n}(sY:∀ψ b,dv φ ψ->OR ψ ob ⟨b,0,n⟩ o')(hm:m<=H.bx):
 WR (js φ H.bx ⟨w.heap.size,0,n⟩) base (H.eD ob) (w.alloc o')/\cH m φ H (js φ H.bx ⟨w.heap.size,0,n⟩) (H.eD ob)/\cY base w (w.alloc o'):=by
 have hf:=hw.yj (cM H.bx);refine⟨(hw.new ob).aeg hf (by simp) hb sY,?_,cY.alloc hb o'⟩;refine⟨Ko hf,by rw[rk];omega,λid hi hn=>⟨?_,.inl (by rw[lW,az (by omega)])⟩,.of (zd _ _) rfl⟩;simp only[js];rw[az (by omega)];exact hn
theorem Ze(n):VR (js φ H.bx ⟨w.heap.size,0,n⟩) (.aa H.bx 0) (.pointer (some ⟨w.heap.size,0,none⟩)):=by exact⟨_,ml _ _ _,rfl⟩
theorem arX(hw:WR φ base H w)(hb:hQ base w)(hm:m<=H.bx){t x aK}(hr:∀a,ρ x=some a->VR φ a (ev x))(h:Qk P ρ H t x=some aK):
 ∃v H',aK=.gE v H'/\eP P m base φ H w (do pure (.value (<-Instr.range t (ev x))):Sem Next) v H':=by
 unfold Qk at h;split at h;next s hu hx=>cases h;obtain⟨b,hv,rfl⟩:=hr _ hx;have⟨h1,h2,h3⟩:=hw.yK hb (ob:=.tp (du b) 0) (n:=0) (λψ b' _=>⟨b,rfl,rfl,rfl⟩) hm;refine⟨_,_,rfl,eP.of ?_ (Ze _) h1 h2 h3⟩;simp[Instr.range,run_underlying hu w,hv]
 next kt el hu hx=>cases h;have hv:=hr _ hx;simp only[VR]at hv;have⟨h1,h2,h3⟩:=hw.yK hb (ob:=.je none 0 [] 0) (n:=0) (λψ b' _=>⟨none,rfl,rfl,rfl⟩) hm;refine⟨_,_,rfl,eP.of ?_ (Ze _) h1 h2 h3⟩;simp[Instr.range,run_underlying hu w,hv]
 next kt el id hu hx=>
  have⟨e,he,hv⟩:=hr _ hx;unfold akh at h;split at h;next es clock p ho=>cases h;obtain⟨o,hg,bF,rfl,jk,_⟩:=hw.ew id _ e ho he;have⟨h1,h2,h3⟩:=hw.yK hb (ob:=.je (some id) clock [] clock) (n:=0) (λψ b' cu=>⟨some e.b,rfl,rfl,e,cu _ _ he,rfl⟩) hm;refine⟨_,_,rfl,eP.of ?_ (Ze _) h1 h2 h3⟩;simp[Instr.range,run_underlying hu w,hv,qq hg rfl]
  .cases h
 .cases h
theorem apG(hw:WR φ base H w){ts T id key vk e aK vs}(h:GM P H ts id key=some aK)(he:φ id=some e)(hk:VR φ key vk)(hv:vs.toList=[.map (some e.b),vk]):
 ∃v H',aK=.gE v H'/\eP P m base φ H w (do pure (.value (<-Builtin.delete_ ts T vs)):Sem Next) v H':=by
 have v0:vs[0]? =some (.map (some e.b)):=by rw[<-vO,hv];rfl
 have v1:vs[1]? =some vk:=by rw[<-vO,hv];rfl
 unfold GM at h;split at h;next kt el es clock p hu ho=>
  obtain⟨o,hg,bF,rfl,jk,Af⟩:=hw.ew id _ e ho he;have⟨hp,h⟩:=dn h;have⟨d,hd⟩:=aaw hp;have sQ:=O8 hp hk bF.isEmpty 9998 w;cases ht:ts[0]? with
  |none=>simp[ht]at hu
  |some t=>
   simp only[ht,qD]at hu;split at h;next i x b hf=>
    cases h;have⟨r',h1,h2⟩:=Bo hd hk jk hf w;obtain⟨me,k0,rfl,e3,e4,e5,e6⟩:=h2.at;have⟨w',b1,b2,b3⟩:=hw.AE (P:=P) (bB:=.bm (DX es i) clock p) (o':=.map (bF.eraseIdxIfInBounds i) clock) ho rfl he hg rfl
     ⟨_,rfl,by
       have:(bF.eraseIdxIfInBounds i).toList=bF.toList.eraseIdx i:=by simp
       rw[this];exact⟨jk.Tm i,λhp=>(Af hp).Tm i⟩⟩
    refine⟨_,_,rfl,eP.of (v':=.tuple #[]) ?_ (Jn _) b2 (cH.oN he _) b3⟩;simp only[Builtin.delete_,ht,v0,v1,Sem.run_bind,run_underlying hu w,Result.andThen_ok,qq hg rfl,sQ,h1,b1,Sem.run_pure]
   next hf=>
    cases h;have⟨r',h1,h2⟩:=Bo hd hk jk hf w;subst h2;have BU:w.heap.setIfInBounds e.b (.map bF clock)=w.heap:=by
     apply Array.ext_getElem?;intro j;by_cases hj:j=e.b
     .subst hj;rw[(XY hg).1,hg]
     .rw[(XY hg).2 j hj]
    refine⟨_,_,rfl,eP.of (w':={w with heap:=w.heap.setIfInBounds e.b (.map bF clock)}) (v':=.tuple #[]) ?_ (Jn _) (hw.rF BU) (cH.jO _ _ _) (cY.rF BU)⟩;simp only[Builtin.delete_,ht,v0,v1,Sem.run_bind,run_underlying hu w,Result.andThen_ok,qq hg rfl,sQ,h1,alg hg rfl,Sem.run_pure]
   .cases h
 .cases h
end
section
variable{P:Program}{φ:cj}{base:fv}{m:Nat}{H:AH}{w:World}{ρ:Operand->Option AV}{ev:Operand->Value}
theorem dI.Tn(q:Nat->Bool):∀{es ms},dI φ es ms->dI φ (es.filter λe=>q e.2.2) (ms.filter λx=>q x.born)
 |[],_,h=>by simp only[dI]at h;subst h;simp[dI]
 |(k,v,b)::es,_,h=>by
  obtain⟨x,ms,rfl,h1,h2,h3,h4⟩:=h;have ih:=dI.Tn q h4;by_cases hq:q b=true
  .rw[List.filter_cons_of_pos (by simpa using hq),List.filter_cons_of_pos (by simpa[h3]using hq)];exact⟨x,_,rfl,h1,h2,h3,ih⟩
  .rw[List.filter_cons_of_neg (by simpa using hq),List.filter_cons_of_neg (by simpa[h3]using hq)];exact ih
theorem dI.all(q:Nat->Bool):∀{es ms},dI φ es ms->ms.all (λx=>q x.born)=es.all (λe=>q e.2.2)
 |[],_,h=>by simp only[dI]at h;subst h;simp
 |(k,v,b)::es,_,h=>by obtain⟨x,ms,rfl,h1,h2,h3,h4⟩:=h;simp only[List.all_cons,dI.all q h4,h3]
theorem ajh{it T}(h:(Instr.next it false T).run P w=.ok (.tuple #[.bool false]) w)(hw:WR φ base H w):eP P m base φ H w (do pure (.value (<-Instr.next it false T)):Sem Next) (.aC [.ao false]) H:=
 eP.of h ⟨_,rfl,oP (by simp[VR])⟩ hw (cH.jO _ _ _) (cY.ka _ _)
theorem ala(bE:LN)(b):bE.toArray.contains b=bE.any (Nat.beq b):=by
 rw[rC];simp only[List.contains_toArray,List.contains_iff_mem,List.any_eq_true];constructor
 .intro h;exact⟨b,h,by simp⟩
 .rintro⟨x,h1,h2⟩;have:=dG h2;subst this;exact h1
theorem auM(hw:WR φ base H w){r mm since last clock bE es er em aK T}(h:IJ H r mm since bE last es clock=some aK)(hr:H.bf r=some (.je (some mm) since bE last))(ub:φ r=some er){p}(ho:H.bf mm=some (.bm es clock p))(ua:φ mm=some em):
 ∃v H',aK=.gE v H'/\eP P m base φ H w (do pure (.value (<-Instr.next (.pointer (some ⟨er.b,0,none⟩)) false T)):Sem Next) v H':=by
 obtain⟨o,hg,m',rfl,X3,ud⟩:=hw.ew r _ er hr ub;obtain⟨e',im,rfl⟩:=ud;rw[ua]at im;cases im;obtain⟨o2,qv,bF,rfl,jk,-⟩:=hw.ew mm _ em ho ua;have h1:=qq (P:=P) hg rfl;have h2:=qq (P:=P) qv rfl;unfold IJ at h;cases hc:(!bE.isEmpty&& !es.isEmpty&&es.all (λe=>Nat.ble last e.2.2));case true=>rw[hc]at h;cases h
 rw[hc]at h;simp at h;have wF:(!bE.toArray.isEmpty&& !bF.isEmpty&&bF.all (λx=>decide (x.born>=last)))=false:=by
  have e1:bE.toArray.isEmpty=bE.isEmpty:=by cases bE<;>rfl
  have e2:bF.isEmpty=es.isEmpty:=by have:=jk.Jx;cases es<;>cases bF<;>rename_i l<;>cases l<;>simp at this⊢
  have e3:bF.all (λx=>decide (x.born>=last))=es.all (λe=>Nat.ble last e.2.2):=by rw[<-jk.all (λb=>Nat.ble last b),<-Array.all_toList];congr 1;funext x;rw[rC];simp
  rw[e1,e2,e3];exact hc
 have wK:dI φ (es.filter λe=> !bE.any (Nat.beq e.2.2)) (bF.filter λe=> !bE.toArray.contains e.born).toList:=by
  have:=jk.Tn (λb=> !bE.any (Nat.beq b));rw[Array.toList_filter];have e:(λ(e:MapEntry)=> !bE.toArray.contains e.born)=(λx=>(λb=> !bE.any (Nat.beq b)) x.born):=by simp only[ala]
  rw[e];exact this
 generalize es.filter (λe=> !bE.any (Nat.beq e.2.2))=left at h wK;generalize hL:bF.filter (λe=> !bE.toArray.contains e.born)=kV at wK;split at h
 .simp only[MI]at h;cases h;simp only[dI]at wK;have rW:kV= #[]:=by cases kV;simpa using wK
  subst rW;refine⟨_,_,rfl,ajh ?_ hw⟩;have hf:(Question.mapNext 1).forced=true:=rfl;simp only[Instr.next,Sem.run_bind,h1,Result.andThen_ok,h2,wF,hL];simp[hf]
 next e=>
  have⟨hb,h⟩:=dn h;cases h;have⟨k,v,b⟩:=e;obtain⟨x,ms,hx,a1,a2,a3,rfl⟩:=wK;have mB:kV= #[x]:=by cases kV;simpa using hx
  subst mB;have ax:b<since:=by have:=ph hb;simp at this;omega
  have⟨w',b1,b2,b3⟩:=hw.AE (P:=P) (bB:=.je (some mm) since (bE++[b]) clock) hr rfl ub hg rfl
   ⟨some em.b,rfl,X3,em,ua,rfl⟩
  refine⟨_,_,rfl,eP.of (v':=.tuple #[.bool true,x.key,x.val]) ?_ (abD (by simp[VR]) a1 a2) b2 (cH.oN ub _) b3⟩;have hf:(Question.mapNext 1).forced=true:=rfl;have YY:x.born<since:=by rw[a3];exact ax
  have o1:(#[x]:Array MapEntry).filter (λe=>decide (e.born<since))= #[x]:=by simp[YY]
  have o2:(#[x]:Array MapEntry).filter (λe=>decide (e.born>=since))= #[]:=by simp;omega
  simp only[Instr.next,Sem.run_bind,h1,Result.andThen_ok,h2,wF,hL,o1,o2];simp[hf];rw[a3,b1];rfl
 .cases h
theorem arU(hw:WR φ base H w){it wT aK T}(hr:∀a,ρ it=some a->VR φ a (ev it))(h:HC ρ H it wT=some aK):
 ∃v H',aK=.gE v H'/\eP P m base φ H w (do pure (.value (<-Instr.next (ev it) wT T)):Sem Next) v H':=by
 unfold HC at h;split at h;next r hx=>
  have⟨e,he,hv⟩:=hr _ hx;unfold ZV at h;split at h;next s pos ho=>
   obtain⟨o,hg,b,rfl,rfl,h0⟩:=hw.ew r _ e ho he;have h1:=qq (P:=P) hg rfl;rw[h0]at hv;unfold ajg at h;split at h;next hn=>
    cases h;have ax:¬pos<b.size:=by intro ax;rw[List.getElem?_eq_none_iff,y7]at hn;omega
    refine⟨_,_,rfl,eP.of (v':=.tuple #[.bool false]) ?_ ⟨_,rfl,oP (by simp[VR])⟩ hw (cH.jO _ _ _) (cY.ka _ _)⟩;simp[Instr.next,hv,h1,ax]
   next c hc=>
    have⟨hb,h⟩:=dn h;cases h;have ax:pos<b.size:=by
     rcases Fy pos b.size with h|h
     .exact h
     .rw[Ay (by rw[y7];exact h)]at hc;cases hc
    have hcb:(b[pos]'ax).toNat=c:=by
     simp only[du,uv]at hc;have hl:pos<b.data.toList.length:=by simpa using ax
     rw[ir hl]at hc;simp at hc;exact hc
    have hd:=decode_ascii b pos ax (by have:=ph hb;omega);have⟨w',b1,b2,b3⟩:=hw.AE (P:=P) (bB:=.tp (du b) (pos+1)) ho rfl he hg rfl ⟨b,rfl,rfl,h0⟩;refine⟨_,_,rfl,eP.of (v':=.tuple #[.bool true,goInt pos,.int .i32 c]) ?_ (abD (by simp[VR]) (D_ pos) (by simp[VR])) b2 (cH.oN he _) b3⟩;rw[hcb]at hd;simp[Instr.next,hv,h1,ax,hd,b1]
  next since bE last ho=>obtain⟨o,hg,m',rfl,h0,rfl⟩:=hw.ew r _ e ho he;have h1:=qq (P:=P) hg rfl;rw[h0]at hv;cases h;refine⟨_,_,rfl,?_⟩;rw[hv];exact ajh (by simp[Instr.next,h1]) hw
  next mm since bE last ho=>
   split at h;next es clock p ED=>obtain⟨o,hg,m',rfl,h0,em,ua,_⟩:=hw.ew r _ e ho he;rw[hv,h0];exact auM hw h ho he ED ua
   .cases h
  .cases h
 .cases h
theorem arR(hw:WR φ base H w){it aK}(hr:∀a,ρ it=some a->VR φ a (ev it))(h:Ek ρ H it=some aK):
 ∃v H',aK=.gE v H'/\eP P m base φ H w (do pure (.value (<-Instr.entry (ev it))):Sem Next) v H':=by
 unfold Ek at h;split at h;next r hx=>
  have⟨e,he,hv⟩:=hr _ hx;split at h;next mm since bE CT ho=>
   obtain⟨o,hg,m',rfl,h0,em,ua,rfl⟩:=hw.ew r _ e ho he;rw[h0]at hv;have h1:=qq (P:=P) hg rfl;unfold WU at h;split at h;next AG es clock p hs ED=>
    obtain⟨o2,qv,bF,rfl,jk,-⟩:=hw.ew mm _ em ED ua;have h2:=qq (P:=P) qv rfl;have⟨hb,h⟩:=dn h;have hc:=dG hb;split at h;next x hx=>
     cases h;have key:∀{es:List (AV×AV×Nat)} {ms:List MapEntry},dI φ es ms->es.find? (λe=>Nat.beq e.2.2 AG)=some x->∃y,ms.find? (λy=>y.born==AG)=some y/\VR φ x.1 y.key/\VR φ x.2.1 y.val:=by
      intro es;induction es with
      |nil=>intro ms _ h;simp at h
      |cons p es ih=>
       have⟨k,v,b⟩:=p;intro ms jk h;obtain⟨y,ms,rfl,a1,a2,a3,a4⟩:=jk;rw[List.find?_cons]at h;cases hq:Nat.beq b AG
       .rw[hq]at h;have⟨z,b1,b2⟩:=ih a4 h;refine⟨z,?_,b2⟩;rw[List.find?_cons];have:(y.born==AG)=false:=by rw[a3];rw[Tr.s_]at hq;simpa using hq
        rw[this];exact b1
       .rw[hq]at h;cases h;refine⟨y,?_,a1,a2⟩;rw[List.find?_cons];have:(y.born==AG)=true:=by rw[a3];have:=dG hq;simp[this]
        rw[this]
     have⟨y,b1,b2,b3⟩:=key jk hx;have VM:bF.find? (λy=>y.born==AG)=some y:=by cases bF;simpa using b1
     refine⟨_,_,rfl,eP.of ?_ (aao b2 b3) hw (cH.jO _ _ _) (cY.ka _ _)⟩;have Ah:bE.toArray.back? =some AG:=by simpa using hs
     subst hc;simp[Instr.entry,hv,h1,Ah,h2,VM]
    .cases h
   .cases h
  .cases h
 .cases h
end
section
variable{P:Program}{φ:cj}{base:fv}{m:Nat}{H:AH}{w:World}{ρ:Operand->Option AV}{ev:Operand->Value}
theorem agL(Rx):∀r c,Builtin.growBy Rx r c<=max c (Rx+(Rx+768)/ 4)
 |0,c=>by simp[Builtin.growBy];omega
 |r+1,c=>by
  simp only[Builtin.growBy];split
  .omega
  .have:=agL Rx r (c+(c+768)/ 4);omega
theorem auP{Rv c}(h:c<Rv):Builtin.nextslicecap Rv c<=2*Rv+192:=by
 unfold Builtin.nextslicecap;split
 .omega
 .split
  .omega
  .have:=agL Rv 4 c;omega
def Im:TypeDesc->Bool
 |.int _=>true
 |_=>false
def xV(P:Program)(φ:cj)(w:World)(argTypes:Array TypeId)(elem:TypeId)(sz n:Nat)(l:LV)(x:Value):Prop:=
 ∃xt d,∃cs:Array Value,argTypes[1]? =some xt/\P.underlying xt=some d/\bp φ l cs.toList/\l.length=n*sz/\
  ((Im d=false/\(∀w,(Builtin.lenOf x).run P w=.ok n w)/\(∀w',w'.heap=w.heap->(Builtin.firstCells sz n x).run P w'=.ok cs w'))\/
   (Im d=true/\x=.int .i64 (n:Int)/\n<=4194304/\∀w',(if n*sz=0 then pure #[]else do pure (Builtin.zeroCells (<-zeroValue elem).cells n):Sem (Array Value)).run P w'=.ok cs w'))
theorem ap8(hw:WR φ base H w){sz n l x vx}(h:wu H sz x=some (n,l))(hx:VR φ x vx):
 ∃cs:Array Value,bp φ l cs.toList/\l.length=n*sz/\(∀w,(Builtin.lenOf vx).run P w=.ok n w)/\(∀w',w'.heap=w.heap->(Builtin.firstCells sz n vx).run P w'=.ok cs w'):=by
 unfold wu at h;split at h
 .cases h;simp only[VR]at hx;subst hx;exact⟨#[],lK,by simp,λw=>by simp[Builtin.lenOf],λw' _=>by simp[Builtin.firstCells]⟩
 .cases h;obtain⟨a,rfl⟩:=hx;exact⟨#[],lK,by simp,λw=>by simp[Builtin.lenOf],λw' _=>by cases a<;>simp[Builtin.firstCells,loadCells,loadCellsFrom]⟩
 next id len s=>
  obtain⟨hb,hq⟩:=dn h;clear h;have hs:=dG hb;subst hs;clear hb;split at hq
  .cases hq;rcases hx with⟨_,rfl⟩|⟨e,y,c,he,rfl,hy,nW,jI⟩
   .exact⟨#[],lK,by simp,λw=>by simp[Builtin.lenOf],λw' _=>by simp[Builtin.firstCells]⟩
   .exact⟨#[],lK,by simp,λw=>by simp[Builtin.lenOf],λw' _=>by simp[Builtin.firstCells,loadCells,loadCellsFrom]⟩
  next len=>
   split at hq;next vs el ho=>
    obtain⟨hl,hq⟩:=dn hq;have hl:=dG hl;injection hq with hq
    injection hq with h1 h2
    subst h1 h2;have hl:vs.length=(len+1)*s:=hl;show∃cs:Array Value,bp φ vs cs.toList/\vs.length=(len+1)*s/\_;rcases hx with⟨h0,_⟩|⟨e,y,c,he,rfl,hy,nW,jI⟩
    .cases h0
    .by_cases h0:(len+1)*s=0
     .have rW:vs=[]:=mJ (by omega);subst rW;exact⟨#[],lK,by simp[h0],λw=>by simp[Builtin.lenOf],λw' _=>by simp[Builtin.firstCells,h0,loadCells,loadCellsFrom]⟩
     .have rY:y=e.o:=by rcases hy with h|h<;>omega
      subst rY;obtain⟨cs,gO,hg,cv,cu,hv,h1⟩:=hw.x_ (show x_ (H.hJ id)=some vs by simp[x_,ho]) he;have hv:=bp.kI (dv.vJ φ) _ _ hv;refine⟨((cs.toList.drop e.o).take ((len+1)*s)).toArray,by rw[hl]at hv;simpa using hv,hl,λw=>by simp[Builtin.lenOf],λw' hh=>?_⟩;have:=FC (P:=P) (n:=(len+1)*s) (o:=e.o) (by rw[hh];exact hg) (by omega);simp[Builtin.firstCells,this]
   .cases hq
 next id off len cap s ex=>
  obtain⟨hb,h⟩:=dn h;have hs:=dG hb;subst hs;split at h;next vs jA=>
   have⟨r,hr,h⟩:=tb h;cases h;obtain⟨rfl,bS⟩:=CN hr;obtain⟨e,y,c,he,rfl,hy,nW,wH,jI⟩:=hx;have⟨cs,el,hg,cv,cu,hv,h1⟩:=hw.NB jA he;by_cases h0:n*s=0
   .refine⟨#[],?_,by simp[h0],λw=>by simp[Builtin.lenOf],λw' _=>?_⟩
    .rw[h0];simp[bp]
    .simp[Builtin.firstCells,h0,loadCells,loadCellsFrom]
   .have ahn:n≠0:=by rintro rfl;simp at h0
    have rY:y=e.o+off:=by rcases hy with h|h<;>omega
    subst rY;have iK:off+n*s<=vs.length:=by simp at bS;omega
    refine⟨((cs.toList.drop (e.o+off)).take (n*s)).toArray,?_,bS,λw=>by simp[Builtin.lenOf],λw' hh=>?_⟩
    .have h2:=(hv.xM off).xN (n*s);have e2:(((cs.toList.drop e.o).take vs.length).drop off).take (n*s)=(cs.toList.drop (e.o+off)).take (n*s):=by rw[yV,xk,Az];congr 1;omega
     rw[e2]at h2;simpa using h2
    .have:=FC (P:=P) (n:=n*s) (o:=e.o+off) (by rw[hh];exact hg) (by omega);simp[Builtin.firstCells,this]
  .cases h
 next s=>
  have⟨hb,h⟩:=dn h;have hs:=dG hb;subst hs;cases h;obtain⟨b,rfl,rfl⟩:=hx;refine⟨b.data.map λc=>.int .u8 c.toNat,?_,by simp,λw=>by simp[Builtin.lenOf,y7],λw' _=>?_⟩
  .refine adD (by simp[du]) ?_;intro i a v h1 h2;simp only[du,uv,Array.toList_map]at h1 h2;cases hq:b.data.toList[i]? with
   |none=>simp[hq]at h1
   |some u=>simp only[hq,qC,pg]at h1 h2;subst h1 h2;simp[VR]
  .have:b.extract 0 b.size=b:=by apply abC;simp[du]
   simp[Builtin.firstCells,y7,this]
 next cs len s=>
  have⟨hb,hq⟩:=dn h;have hs:=dG hb;subst hs;injection hq with hq
  injection hq with h1 h2
  subst h1 h2;obtain⟨a,c,rfl,bS,hd⟩:=hx;by_cases h0:len*s=0
  .have rW:cs=[]:=mJ (by omega);subst rW;refine⟨#[],lK,by simp[h0],λw=>by simp[Builtin.lenOf],λw' _=>?_⟩;cases a<;>simp[Builtin.firstCells,h0,loadCells,loadCellsFrom]
  .have hn0:len≠0:=by rintro rfl;simp at h0
   rcases hd with hd|⟨b,x,eA,el,fz,rfl,nW,fS,cv,hv⟩
   .exact absurd hd hn0
   .refine⟨((eA.toList.drop x).take (len*s)).toArray,?_,bS,λw=>by simp[Builtin.lenOf],λw' hh=>?_⟩
    .rw[bS]at hv;have hv:=bp.kI (dv.vJ φ) _ _ hv;simpa using hv
    .have:=FC (P:=P) (n:=len*s) (o:=x) (by rw[hh];exact(hw.ro _ _ fS).1.2) (by omega);simp[Builtin.firstCells,this]
 next id len s=>
  have⟨hb,hq⟩:=dn h;have hs:=dG hb;subst hs;split at hq;next vs el ho=>
   have⟨hl,hq⟩:=dn hq;have hl:=dG hl;injection hq with hq
   injection hq with h1 h2
   subst h1 h2;rcases hx with⟨rfl,rfl⟩|⟨e,y,c,he,rfl,hy,nW,jI⟩
   .have rW:vs=[]:=mJ (by omega);subst rW;exact⟨#[],lK,by simp,λw=>by simp[Builtin.lenOf],λw' _=>by simp[Builtin.firstCells]⟩
   .by_cases h0:len*s=0
    .have rW:vs=[]:=mJ (by omega);subst rW;exact⟨#[],lK,by simp[h0],λw=>by simp[Builtin.lenOf],λw' _=>by simp[Builtin.firstCells,h0,loadCells,loadCellsFrom]⟩
    .have ahn:len≠0:=by rintro rfl;simp at h0
     have rY:y=e.o:=by rcases hy with h|h<;>omega
     subst rY;have⟨cs,gO,hg,cv,cu,hv,h1⟩:=hw.NB (show H.p9 id=some vs by simp[AH.p9,ho]) he;refine⟨((cs.toList.drop e.o).take (len*s)).toArray,by rw[hl]at hv;simpa using hv,hl,λw=>by simp[Builtin.lenOf],λw' hh=>?_⟩;have:=FC (P:=P) (n:=len*s) (o:=e.o) (by rw[hh];exact hg) (by omega);simp[Builtin.firstCells,this]
  .cases hq
 .cases h
theorem aCo(hw:WR φ base H w){argTypes elem sz n l x vx}(h:FP P H argTypes elem sz x=some (n,l))(hx:VR φ x vx):xV P φ w argTypes elem sz n l vx:=by
 unfold FP at h;cases ht:argTypes[1]? with
 |none=>simp[ht]at h
 |some xt=>
  simp only[ht,qD]at h;split at h;next k hu=>
   split at h;next n' z hz=>
    have⟨hc,h⟩:=dn h;cases h;simp only[dk,ux]at hc;have⟨hn,hl⟩:=hc;have yD:=dG hl;simp at hx;subst hx;have⟨vz,h1,h2⟩:=zg (φ:=φ) hz;have kf:=AV.sA h1;have n5:vz.cells.size=sz:=by have:=kf.jf;simp at this;omega
    have uh:=Su kf n;refine⟨xt,_,((Array.range (n*vz.cells.size)).map (vz.cells[· %vz.cells.size]!)),ht,hu,uh,by rw[St,yD],.inr ⟨rfl,rfl,hn,λw'=>?_⟩⟩;by_cases h0:n*sz=0
    .rw[aO h0,n5,h0,Ja];rfl
    .rw[az h0];simp[h2 w',Builtin.zeroCells]
   .cases h
  next d sV hu=>
   have⟨cs,h1,h2,h3,h4⟩:=ap8 (P:=P) hw h hx;refine⟨xt,d,cs,ht,hu,h1,h2,.inl ⟨?_,h3,h4⟩⟩;cases d<;>first
    |rfl
    |(exact absurd rfl (sV _))
  .cases h
theorem arL(hw:WR φ base H w){ψ elem id off len sz n c l old vs kB e}{cs:Array Value}{dV Fl}(hm:m<=H.bx)(ho:H.bf id=some dV)(mC:dV.aR=true)(eH:∀o,OR φ dV e o->OR ψ (.aj vs kB) e o)(he:φ id=some e)(yx:∀χ e o,dv φ χ->OR ψ (.aj (old++l) elem) e o->OR χ Fl e o)(oY:oi vs off (len*sz)=some old)(hl:bp ψ l cs.toList)(hln:l.length=n*sz)(h1:(old++l).all AV.cX=true)(jI:e.o+off+c*sz<=e.n)(hc:len+n<=c):
 ∃w',(storeCells ⟨e.b,e.o+off+len*sz,none⟩ cs.toList).run P w=.ok () w'/\
  WR (js φ H.bx ⟨e.b,e.o+off,e.n⟩) base ((H.cQ id (.bc [])).eD Fl) w'/\
  cH m φ H (js φ H.bx ⟨e.b,e.o+off,e.n⟩) ((H.cQ id (.bc [])).eD Fl)/\cY base w w':=by
 obtain⟨o,hg,sY⟩:=hw.ew id _ e ho he;obtain⟨mq,gO,rfl,cv,cu,hv,nB⟩:=eH o sY;obtain⟨rfl,bS⟩:=CN oY;have fc:=hl.jf;have Yn:len*sz+n*sz<=c*sz:=by rw[<-xp];exact Se sz hc
 have KY:=h1;rw[sc,dk]at KY;have dN:=run_storeCells_at P e.b (e.o+off+len*sz) gO cs.toList 0 mq w hg (by omega) (AV.aah hl KY.2);simp only[I3]at dN;have QA:=hw.yj (cM H.bx);have Yi:=Ko (e:=⟨e.b,e.o+off,e.n⟩) QA;have aEQ:id≠H.bx:=λh=>by rw[h,QA]at he;cases he
 refine⟨_,dN,?_,?_,cY.MB hw he (FE _ _ _) (λb hb=>FD _ _ _ hb)⟩
 .have hk:=hw.yG (vs:=[]) ho;refine⟨?_,?_,?_,?_,hw.se rfl rfl (by rw[zd,xH]) (λb h=>FD _ _ _ (λhb=>hw.Zg h ho mC he hb.symm)) λi ob e1 a1 l1 a2=>.inl ?_⟩
  .intro i ob e1 a1 a2;rw[lW,nI]at a1;by_cases hi:i=H.bx
   .subst hi;rw[aO rfl]at a1;cases a1;rw[ml]at a2;cases a2;refine⟨_,setRow_heap w e.b mq _ gO _ hg,yx _ _ _ Yi ⟨_,gO,rfl,?_,?_,?_,h1⟩⟩
    .have gC:cs.size=n*sz:=by simp at fc;omega
     simp;omega
    .simp at bS⊢;omega
    .have H5:(List.take (len*sz) (List.drop off vs)++l).length=len*sz+n*sz:=by simp at bS⊢;omega
     rw[H5];have iK:len*sz=0\/off+len*sz<=vs.length:=by simp at bS;omega
     have e3:((List.take (e.o+off+len*sz) mq.toList++cs.toList++List.drop (e.o+off+len*sz+cs.toList.length) mq.toList).drop (e.o+off)).take (len*sz+n*sz)=(mq.toList.drop (e.o+off)).take (len*sz)++cs.toList:=by
      apply Sk;intro j;by_cases hj:j<len*sz+n*sz
      .rw[xh hj,tf,j7];simp only[List.getElem?_append,vN,qeb];rw[show min (e.o+off+len*sz) mq.toList.length=e.o+off+len*sz by simp;omega,show min (len*sz) (mq.toList.length-(e.o+off))=len*sz by simp;omega];by_cases h3:j<len*sz
       .rw[aO (by omega),aO h3,xh (by omega),xh h3,tf]
       .rw[az (by omega),az h3,show e.o+off+j-(e.o+off+len*sz)=j-len*sz by omega,aO (by omega)]
      .rw[Ay (by simp;omega),Ay (by simp;simp at fc;omega)]
     show bp ψ _ (((List.take (e.o+off+len*sz) mq.toList++cs.toList++List.drop (e.o+off+len*sz+cs.toList.length) mq.toList).drop (e.o+off)).take (len*sz+n*sz));rw[e3];refine bp.wi ?_ hl;have h2:=(hv.xM off).xN (len*sz);have e2:(((mq.toList.drop e.o).take vs.length).drop off).take (len*sz)=(mq.toList.drop (e.o+off)).take (len*sz):=by
      rcases iK with iK|iK
      .simp[iK]
      .rw[yV,xk,Az];congr 1;omega
     rw[e2]at h2;exact h2
   .rw[az hi]at a1;simp only[js,az hi]at a2;by_cases mB:ob.aR=true
    .have yu:i≠id:=by rintro rfl;rw[oF,aO rfl]at a1;cases a1;simp[bk.aR]at mB
     rw[oF,az yu]at a1;obtain⟨o,h3,h4⟩:=hw.ew i ob e1 a1 a2;have hb:=λh=>yu (hw.jg i id ob _ e1 e a1 mB a2 ho mC he h)
     exact⟨o,by rw[FD _ _ _ hb];exact h3,h4.sq Yi⟩
    .cases ob<;>simp[bk.aR]at mB;have h5:=(hw.lt i e1 a2).1;rw[<-FE w e.b (List.take (e.o+off+len*sz) mq.toList++cs.toList++List.drop (e.o+off+len*sz+cs.toList.length) mq.toList).toArray]at h5;exact⟨_,Ax h5,trivial⟩
  .intro i i' dp gV e1 e2 a1 l1 a2 a3 l2 a4 hb;rw[lW,nI]at a1 a3;have Rc:∀{i ob},i≠H.bx->(H.cQ id (.bc [])).bf i=some ob->ob.aR=true->i≠id/\H.bf i=some ob:=by
    intro i ob hi h hl;have yu:i≠id:=by rintro rfl;rw[oF,aO rfl]at h;cases h;simp[bk.aR]at hl
    rw[oF,az yu]at h;exact⟨yu,h⟩
   by_cases hi:i=H.bx<;>by_cases ei:i'=H.bx
   .rw[hi,ei]
   .exfalso;subst hi;rw[ml]at a2;cases a2;rw[az ei]at a3;simp only[js,az ei]at a4;obtain⟨n1,n2⟩:=Rc ei a3 l2;exact n1 (hw.jg i' id gV _ e2 e n2 l2 a4 ho mC he hb.symm)
   .exfalso;subst ei;rw[ml]at a4;cases a4;rw[az hi]at a1;simp only[js,az hi]at a2;have⟨n1,n2⟩:=Rc hi a1 l1;exact n1 (hw.jg i id dp _ e1 e n2 l1 a2 ho mC he hb)
   .rw[az hi]at a1;rw[az ei]at a3;simp only[js,az hi]at a2;simp only[js,az ei]at a4;have⟨_,n2⟩:=Rc hi a1 l1;have⟨_,n4⟩:=Rc ei a3 l2;exact hw.jg i i' dp gV e1 e2 n2 l1 a2 n4 l2 a4 hb
  .intro i e1 a2;rw[FE,rk,nI];by_cases hi:i=H.bx
   .subst hi;rw[ml]at a2;cases a2;have:=hw.lt id e he;exact⟨this.1,this.2.1,by omega⟩
   .simp only[js,az hi]at a2;have:=hw.lt i e1 a2;exact⟨this.1,this.2.1,by omega⟩
  .intro i ob a1;rw[lW,nI]at a1;rw[rk,nI];by_cases hi:i=H.bx
   .omega
   .rw[az hi]at a1;have:=hk.nx i ob a1;rw[nI]at this;omega
  .rw[lW,nI]at a1;by_cases hi:i=H.bx
   .subst hi;rw[ml]at a2;cases a2;exact⟨id,_,e,ho,mC,he,rfl⟩
   .rw[az hi]at a1;simp only[js,az hi]at a2;have yu:i≠id:=by rintro rfl;rw[oF,aO rfl]at a1;cases a1;simp[bk.aR]at l1
    rw[oF,az yu]at a1;exact⟨i,ob,e1,a1,l1,a2,rfl⟩
 .refine⟨Yi,by rw[rk,nI];omega,λi hi hn=>⟨?_,?_⟩,.of (by rw[zd,xH]) rfl⟩
  .simp only[js];rw[az (by omega)];exact hn
  .exact .inl (by rw[lW,nI,az (by omega),oF,az (λh=>by subst h;rw[he]at hn;cases hn)])
end
section
variable{P:Program}{φ:cj}{base:fv}{m:Nat}{H:AH}{w:World}{ρ:Operand->Option AV}{ev:Operand->Value}
theorem AY{ts T t elem vs x a len c sz n fX l}(ht:ts[0]? =some t)(hu:P.underlying t=some (.slice elem))(v0:vs[0]? =some (.slice a len c))(v1:vs[1]? =some x)(hs:cU P elem=some sz)(jj:tI P elem=some fX)(hb:fX<=4194304)(jz:xV P φ w ts elem sz n l x)(jI:len+n<=c):
 ∃cs:Array Value,bp φ l cs.toList/\l.length=n*sz/\∀w',(match a with|some a=>storeCells (a.add (len*sz)) cs.toList|none=>pure ():Sem Unit).run P w=.ok () w'->
  (Builtin.append_ ts T vs).run P w=.ok (.slice a (len+n) c) w':=by
 obtain⟨xt,d,cs,t1,tu,h1,h2,h3⟩:=jz;refine⟨cs,h1,h2,λw' fJ=>?_⟩;unfold Builtin.append_;simp only[ht,v0,v1,Sem.run_bind,run_underlying hu w,Result.andThen_ok,jE hs w,t1,run_underlying tu w];rcases h3 with⟨hd,hn,hc⟩|⟨hd,rfl,hn,hc⟩
 .have tZ:=hc w rfl;split
  .simp[Im]at hd
  .simp only[Sem.run_pure,Result.andThen_ok,I1,if_false,Sem.run_bind,hn w,aO jI,Bool.not_false,if_true,tZ];cases a with
   |none=>simp at fJ;subst fJ;rfl
   |some a=>simp only[Sem.run_bind,fJ,Result.andThen_ok,Sem.run_pure]
 .have tZ:=hc w;have YV:IntKind.i64.wrap (n:Int)=n:=IntWalk.i64_in _ (by omega);have⟨ti,EL,LO⟩:=V5 jj w;have Yn:(n:Int)*fX<=2^48:=by
   have:=Nat.mul_le_mul hn hb;have h':((n*fX:Nat):Int)<=((4194304*4194304:Nat):Int):=by exact_mod_cast this
   simp at h';omega
  have q1:¬((n:Int)<0):=by omega
  have q2:¬((n:Int)*(ti.bytes:Int)>2^48):=by rw[LO];omega
  split
  .simp only[Sem.run_pure,Result.andThen_ok,if_true,Sem.run_bind,asInt,asIntOf,YV,az q1,EL,az q2,Int.toNat_natCast,aO jI,Bool.not_true,I1,if_false,tZ];cases a with
   |none=>simp at fJ;subst fJ;rfl
   |some a=>simp only[Sem.run_bind,fJ,Result.andThen_ok,Sem.run_pure]
  next sV=>cases d<;>first|(exact absurd rfl (sV _))|(simp[Im]at hd)
theorem OP{ts T t elem vs x a len c sz n fX l old zs}(ht:ts[0]? =some t)(hu:P.underlying t=some (.slice elem))(v0:vs[0]? =some (.slice a len c))(v1:vs[1]? =some x)(hs:cU P elem=some sz)(jj:tI P elem=some fX)(hb:fX<=4194304)(jz:xV P φ w ts elem sz n l x)(jI:c<len+n)(QG:len+n<=4194304){vz}(hz:∀w,(zeroValue elem).run P w=.ok vz w)(oY:∀w',w'.heap=w.heap->(Builtin.firstCells sz len (.slice a len c)).run P w'=.ok old w')(n5:zs=vz.cells):
 ∃(cs:Array Value) (iU:Nat),len+n<=iU/\bp φ l cs.toList/\l.length=n*sz/\
  (Builtin.append_ ts T vs).run P w=.ok (.slice (some ⟨w.heap.size,0,none⟩) (len+n) iU) (w.drew.alloc (.cells (old++cs++Builtin.zeroCells zs (iU-(len+n))) elem (0,0))):=by
 obtain⟨xt,d,cs,t1,tu,h1,h2,h3⟩:=jz;subst n5;refine⟨cs,(Question.appendCap (len+n) c elem).cut (w.tape w.drawn (.appendCap (len+n) c elem)),?_,h1,h2,?_⟩
 .simp only[Question.cut];omega
 have lU:¬(len+n<=c):=by omega
 obtain⟨ti,EL,LO⟩:=V5 jj w;have ag4:¬(((len+n:Nat):Int)>IntKind.i64.max):=by
  have:IntKind.i64.max=9223372036854775807:=by rfl
  rw[this];omega
 have BG:¬(Builtin.nextslicecap (len+n) c*ti.bytes>2^48):=by have h4:=auP jI;have h5:Builtin.nextslicecap (len+n) c*ti.bytes<=16000000*4194304:=Nat.mul_le_mul (by omega) (by omega);omega
 have YG:∀w',(typeInfo elem).run P w'=.ok ti w':=by
  intro w';cases hq:P.info? elem with
  |none=>simp[tI,hq]at jj
  |some i=>have:=run_typeInfo w hq;rw[EL]at this;cases this;exact run_typeInfo w' hq
 have ahd:(Question.appendCap (len+n) c elem).forced=false:=rfl;have aht:=oY w.drew rfl;unfold Builtin.append_;simp only[ht,v0,v1,Sem.run_bind,run_underlying hu w,Result.andThen_ok,jE hs w,t1,run_underlying tu w];rcases h3 with⟨hd,hn,hc⟩|⟨hd,rfl,hn,hc⟩
 .have tZ:=hc w.drew rfl;split
  .simp[Im]at hd
  .simp only[Sem.run_pure,Result.andThen_ok,I1,if_false,Sem.run_bind,hn w,az lU,Bool.not_false,if_true];simp only[YG,Result.andThen_ok];rw[az (λh=>ag4 h.1)];simp only[Sem.run_bind,YG,Result.andThen_ok,az BG,run_choose_drew,ahd,I1,if_false,run_askRoom,aht,tZ,hz,newRow,OJ,Sem.run_pure];rfl
 .have tZ:=hc w.drew;have YV:IntKind.i64.wrap (n:Int)=n:=IntWalk.i64_in _ (by omega);have Yn:(n:Int)*fX<=2^48:=by
   have:=Nat.mul_le_mul hn hb;have h':((n*fX:Nat):Int)<=((4194304*4194304:Nat):Int):=by exact_mod_cast this
   simp at h';omega
  have q1:¬((n:Int)<0):=by omega
  have q2:¬((n:Int)*(ti.bytes:Int)>2^48):=by rw[LO];omega
  split
  .simp only[Sem.run_pure,Result.andThen_ok,if_true,Sem.run_bind,asInt,asIntOf,YV,az q1,EL,az q2,Int.toNat_natCast,az lU,Bool.not_true,I1,if_false];rw[az (λh=>ag4 h.1)];simp only[Sem.run_bind,YG,Result.andThen_ok,az BG,run_choose_drew,ahd,I1,if_false,run_askRoom,aht,tZ,hz,newRow,OJ,Sem.run_pure];rfl
  next sV=>cases d<;>first|(exact absurd rfl (sV _))|(simp[Im]at hd)
end
section
variable{P:Program}{φ:cj}{base:fv}{m:Nat}{H:AH}{w:World}{ρ:Operand->Option AV}{ev:Operand->Value}
theorem SH{l all lF elem el n}(h:bp φ l all.toList)(h1:l.all AV.cX=true)(hn:all.size+lF.size=n):
 ∀ψ b,dv φ ψ->OR ψ (.aj l elem) ⟨b,0,n⟩ (.cells (all++lF) el (0,0)):=by
 intro ψ b cu;have hl:=h.jf;refine⟨_,el,rfl,by simp;omega,by simp at hl⊢;omega,?_,h1⟩;have:((all++lF).toList.drop 0).take l.length=all.toList:=by simp;rw[hl,xm];rfl
 rw[this];exact bp.kI cu _ _ h
theorem Tj(z n):(Builtin.zeroCells z n).size=n*z.size:=by simp[Builtin.zeroCells]
theorem P_(hw:WR φ base H w)(hb:hQ base w)(hm:m<=H.bx){ψ ts T t elem kB vs v vx sz k fX id off len y c e l old cells vz dV Fl}(yG)(ht:ts[0]? =some t)(hu:P.underlying t=some (.slice elem))(v0:vs[0]? =some (.slice (some ⟨e.b,y,none⟩) len c))(v1:vs[1]? =some vx)(hs:cU P elem=some sz)(jj:tI P elem=some fX)(fp:fX<=4194304)(n5:vz.cells.size=sz)(kf:∀w,(zeroValue elem).run P w=.ok vz w)(jz:xV P φ w ts elem sz (k+1) l vx)(QG:len+(k+1)<=4194304)(he:φ id=some e)(hy:c=0\/y=e.o+off)(nW:len<=c)(jI:e.o+off+c*sz<=e.n)(asx:yG=false->c<len+(k+1))(ho:H.bf id=some dV)(mC:dV.aR=true)(eH:∀o,OR φ dV e o->OR ψ (.aj cells kB) e o)(yx:∀χ e o,dv φ χ->OR ψ (.aj (old++l) elem) e o->OR χ Fl e o)(oY:oi cells off (len*sz)=some old)(LG:∀vs,bp φ l vs->bp ψ l vs)(nB:(old++l).all AV.cX=true)(yB:∀χ e' x c',χ H.bx=some e'->x=e'.o->len+(k+1)<=c'->e'.o+c'*sz<=e'.n->VR χ v (.slice (some ⟨e'.b,x,none⟩) (len+(k+1)) c')):
 eP P m base φ H w (do pure (.value (<-Builtin.append_ ts T vs)):Sem Next) v (AH.eD (bif yG then H.cQ id (.bc [])else H) Fl):=by
 have Eu:WR φ base H w.drew:=hw.rF rfl;have⟨o,hg,sY⟩:=hw.ew id _ e ho he;obtain⟨mq,gO,rfl,cv,cu,jA,_⟩:=eH o sY;have⟨Ia,Ib⟩:=CN oY;by_cases hr:len+(k+1)<=c
 .
  have qw:yG=true:=by
   cases yG
   .have:=asx rfl;omega
   .rfl
  subst qw;simp;have rY:y=e.o+off:=by rcases hy with h|h<;>omega
  subst rY;have⟨cs,h1,h2,h3⟩:=AY (T:=T) ht hu v0 v1 hs jj fp jz hr;have⟨w',b1,b2,b3,b4⟩:=arL (P:=P) hw hm ho mC eH he yx oY (LG _ h1) h2 nB jI hr;have h4:=h3 w' (by simp only[xX];exact b1);exact eP.of h4 (yB _ ⟨e.b,e.o+off,e.n⟩ (e.o+off) c (ml _ _ _) rfl hr jI) b2 b3 b4
 .
  have aso:∃IQ:Array Value,bp ψ old IQ.toList/\∀w',w'.heap=w.heap->(Builtin.firstCells sz len (.slice (some ⟨e.b,y,none⟩) len c)).run P w'=.ok IQ w':=by
   by_cases h0:len*sz=0
   .refine⟨#[],?_,λw' _=>by simp[Builtin.firstCells,h0,loadCells,loadCellsFrom]⟩;have:old=[]:=by rw[h0]at Ib;exact mJ Ib
    rw[this];exact lK
   .have ahn:len≠0:=by rintro rfl;simp at h0
    have rY:y=e.o+off:=by rcases hy with h|h<;>omega
    subst rY;have iK:off+len*sz<=cells.length:=by rw[Ia]at Ib;simp at Ib;omega
    refine⟨((mq.toList.drop (e.o+off)).take (len*sz)).toArray,?_,λw' hh=>?_⟩
    .have h2:=(jA.xM off).xN (len*sz);have e2:(((mq.toList.drop e.o).take cells.length).drop off).take (len*sz)=(mq.toList.drop (e.o+off)).take (len*sz):=by rw[yV,xk,Az];congr 1;omega
     rw[e2]at h2;rw[Ia];simpa using h2
    .have:=FC (P:=P) (n:=len*sz) (o:=e.o+off) (by rw[hh];exact hg) (by omega);simp[Builtin.firstCells,this]
  have⟨IQ,o1,o2⟩:=aso;have⟨cs,iU,asD,h1,h2,h3⟩:=OP (T:=T) ht hu v0 v1 hs jj fp jz (by omega) QG kf o2 rfl;have gC:cs.size=(k+1)*sz:=by have:=h1.jf;simp at this;omega
  have QK:IQ.size=len*sz:=by have:=o1.jf;simp at this;omega
  have EH:(IQ++cs).size+(Builtin.zeroCells vz.cells (iU-(len+(k+1)))).size=iU*sz:=by
   rw[Tj,n5];have h6:len*sz+(k+1)*sz+(iU-(len+(k+1)))*sz=iU*sz:=by rw[<-xp,<-xp];congr 1;omega
   rw[Array.size_append,gC,QK];omega
  have u7:bp ψ (old++l) (IQ++cs).toList:=by rw[CC];exact o1.wi (LG _ h1)
  have aH:∀H1:AH,WR φ base H1 w.drew->H1.bx=H.bx->cH m φ H φ H1->
   eP P m base φ H w (do pure (.value (<-Builtin.append_ ts T vs)):Sem Next) v (AH.eD H1 Fl):=by
   intro H1 kR hn1 wJ;have⟨a1,a2,a3⟩:=kR.yK (m:=m) (show hQ base w.drew from hb) (λχ b cu=>yx χ _ _ cu (SH (el:=elem) u7 nB EH ψ b (dv.refl _))) (by omega);refine eP.of h3 ?_ a1 (wJ.tC a2) ((cY.rF rfl).so a3);rw[hn1];exact yB _ _ 0 iU (ml _ _ _) rfl asD (by show 0+iU*sz<=iU*sz;omega)
  cases yG
  .simp;exact aH _ Eu rfl (cH.jO _ _ _)
  .simp;exact aH _ (Eu.yG ho) (nI _ _ _) (cH.oN he _)
theorem agM(hw:WR φ base H w)(hb:hQ base w)(hm:m<=H.bx){ts T t elem vs v v_ vx sz k fX id len l H' z vz}(ht:ts[0]? =some t)(hu:P.underlying t=some (.slice elem))(v0:vs[0]? =some v_)(v1:vs[1]? =some vx)(hs:cU P elem=some sz)(jj:tI P elem=some fX)(fp:fX<=4194304)(hz:VR φ z vz)(kf:∀w,(zeroValue elem).run P w=.ok vz w)(yD:z.dK.length=sz)(jz:xV P φ w ts elem sz (k+1) l vx)(hv:VR φ (.ai id len sz) v_)(qs:len+(k+1)<=4194304)(hq:u4 H elem id len sz (k+1) l=some (v,H')):
 eP P m base φ H w (do pure (.value (<-Builtin.append_ ts T vs)):Sem Next) v H':=by
 have n5:vz.cells.size=sz:=by have:=(AV.sA hz).jf;simp at this;omega
 have Eu:WR φ base H w.drew:=hw.rF rfl;unfold u4 at hq;split at hq;next cells kB ho=>
  have⟨jG,hq⟩:=dn hq;simp only[dk]at jG;have⟨⟨hl,K_⟩,kP⟩:=jG;have hl:=dG hl;cases hq;have LG:∀vs,bp φ l vs->bp φ.pu l vs:=λvs h=>bp.wj _ _ (by rw[vL];exact kP) h
  rcases hv with⟨rfl,rfl⟩|⟨e,y,c,he,rfl,hy,nW,jI⟩
  .have rW:cells=[]:=mJ (by omega);subst rW;have⟨cs,iU,cu,h1,h2,h3⟩:=OP (T:=T) (old:= #[]) ht hu v0 v1 hs jj fp jz (by omega) (by omega) kf (λw' _=>by simp[Builtin.firstCells]) rfl;have gC:cs.size=(k+1)*sz:=by have:=h1.jf;simp at this;omega
   have EH:(#[]++cs).size+(Builtin.zeroCells vz.cells (iU-(0+(k+1)))).size=iU*sz:=by
    rw[Tj,n5];have h6:(k+1)*sz+(iU-(0+(k+1)))*sz=iU*sz:=by rw[<-xp];congr 1;omega
    rw[Array.size_append,gC];simp only[List.size_toArray,gW];omega
   obtain⟨a1,a2,a3⟩:=(Eu.yG ho).yK (show hQ base w.drew from hb) (λχ b cu=>U2 cu (el:=elem) (SH (by simpa using LG _ h1) (by simpa using K_) EH φ.pu b (dv.refl _))) (by rw[nI];exact hm);refine eP.of h3 ?_ a1 ((cH.ay ho _).tC a2) ((cY.rF rfl).so a3);right;rw[nI];exact⟨_,0,iU,ml _ _ _,by simp,.inr rfl,by omega,by show 0+iU*sz<=iU*sz;omega⟩
  .obtain⟨o,hg,mq,gO,rfl,cv,cu,jA,ym⟩:=hw.ew id _ e ho he;have oY:oi cells 0 (len*sz)=some cells:=by
    have e0:(cells.drop 0).take (len*sz)=cells:=by rw[xf,<-hl,vT]
    unfold oi;simp only[e0,hl,Tr.s_,decide_true,cond_true]
   exact P_ (kB:=elem) hw hb hm true ht hu v0 v1 hs jj fp n5 kf jz qs he (by simpa using hy) nW (by simpa using jI) (λh=>by cases h) ho rfl (λo h=>h) (λχ e o cu h=>U2 cu h) oY LG
    (by rw[sc,dk];exact⟨ym,K_⟩)
    (λχ e' x c' h1 h2 h3 h4=>by simp only[VR];exact .inr ⟨e',x,c',h1,rfl,.inr h2,h3,h4⟩)
 .cases hq
theorem xV.mono{φ ψ}(h:dv φ ψ){w ts elem sz n l x}(h1:xV P φ w ts elem sz n l x):xV P ψ w ts elem sz n l x:=
 let⟨xt,d,cs,a,b,c,r⟩:=h1
 ⟨xt,d,cs,a,b,bp.kI h _ _ c,r⟩
theorem avf{m sz r v H' s}(hr:∀v H1,r=some (v,H1)->eP P m base φ H w s v H1)(hz:∀id len gI H1,r=some (.ai id len gI,H1)->gI=sz/\len≠0)(h:Fm sz r=some (v,H')):eP P m base φ H w s v H':=by
 unfold Fm at h;split at h;next id len gI H1=>
  obtain⟨rfl,rW⟩:=hz _ _ _ _ rfl;have⟨jN,w1,v1,h1,h2,h3,h4,h5⟩:=hr _ _ rfl;have⟨⟨nm,H2⟩,hx,h⟩:=tb h;cases h;rcases h2 with⟨h0,_⟩|⟨e,x,c,he,hv⟩
  .exact absurd h0 rW
  .unfold PI at hx;split at hx;next vs el ho=>have⟨lH,g1,g2,g3⟩:=h3.To ho rfl he (λh=>h) hx m;exact⟨lH,w1,v1,h1,(by simp;exact .inr ⟨e,x,c,g1,hv.1,hv.2.1,hv.2.2.1,hv.2.2.2,rW⟩),g2,h4.tC g3,h5⟩
   next vs el ho=>have⟨hp,hq⟩:=dn hx;have⟨lH,g1,g2,g3⟩:=h3.To ho rfl he (λh=>let⟨cs,el,a,b,c,d,f⟩:=h;⟨cs,el,a,b,c,bp.wj _ _ (by rw[vL];exact hp) d,f⟩) hq m;exact⟨lH,w1,v1,h1,(by simp;exact .inr ⟨e,x,c,g1,hv.1,hv.2.1,hv.2.2.1,hv.2.2.2,rW⟩),g2,h4.tC g3,h5⟩
   .cases hx
 .cases h
theorem arI{H elem id len sz n l v H'}(h:u4 H elem id len sz n l=some (v,H')):v=.ai H.bx (len+n) sz:=by
 unfold u4 at h;split at h
 .have⟨_,h⟩:=dn h;cases h;rfl
 .cases h
theorem arJ(hw:WR φ base H w)(hb:hQ base w)(hm:m<=H.bx){ts T t elem vs v v_ vx sz k fX id len l H' z vz}(ht:ts[0]? =some t)(hu:P.underlying t=some (.slice elem))(v0:vs[0]? =some v_)(v1:vs[1]? =some vx)(hs:cU P elem=some sz)(jj:tI P elem=some fX)(fp:fX<=4194304)(hz:VR φ z vz)(kf:∀w,(zeroValue elem).run P w=.ok vz w)(yD:z.dK.length=sz)(jz:xV P φ w ts elem sz (k+1) l vx)(hv:VR φ (.fF id len sz) v_)(qs:len+(k+1)<=4194304)(hq:Hq H elem id len sz (k+1) l=some (v,H')):
 eP P m base φ H w (do pure (.value (<-Builtin.append_ ts T vs)):Sem Next) v H':=by
 have L8:∀{Tk:cj} {H0:AH} {i:Nat},WR Tk base H0 w->cH m φ H Tk H0->m<=H0.bx->VR Tk (.ai i len sz) v_->Fm sz (u4 H0 elem i len sz (k+1) l)=some (v,H')->eP P m base φ H w (do pure (.value (<-Builtin.append_ ts T vs)):Sem Next) v H':=by
  intro Tk H0 i g1 g2 g3 g4 g5;have⟨jN,w1,v1,h1,h2,h3,h4,h5⟩:=avf (s:=(do pure (.value (<-Builtin.append_ ts T vs)):Sem Next))
   (λv H1 h=>agM g1 hb g3 ht hu v0 v1 hs jj fp (VR.ef g2.1 _ _ hz) kf yD (jz.mono g2.1) g4 qs h)
   (λid cB gI H1 h=>by have:=arI h;cases this;exact⟨rfl,by omega⟩) g5
  exact⟨jN,w1,v1,h1,h2,h3,g2.tC h4,h5⟩
 unfold Hq at hq;split at hq
 .refine L8 (hw.new (.ay [] elem)) (cH.new hm _) (by rw[rk];omega) ?_ hq;rcases hv with⟨_,rfl⟩|⟨e,x,c,he,rfl,hy,nW,jI,h0⟩
  .exact .inl ⟨rfl,rfl⟩
  .exact absurd rfl h0
 .split at hq;next len i H0 hi=>
   unfold QX at hi;split at hi;next Tg el ho=>
    cases hi;rcases hv with⟨h0,_⟩|⟨e,x,c,he,hv⟩
    .cases h0
    .have⟨g1,g2⟩:=hw.import ho he (λh=>h) hm;exact L8 g1 g2 (by rw[rk,Cg];omega) (by simp;exact .inr ⟨e,x,c,ml _ _ _,hv.1,hv.2.1,hv.2.2.1,hv.2.2.2.1⟩) hq
   .cases hi
  .cases hq
theorem an4(hw:WR φ base H w)(hb:hQ base w)(hm:m<=H.bx){ts T t elem vs s v v_ vx sz n fX l H' z vz}(ht:ts[0]? =some t)(hu:P.underlying t=some (.slice elem))(v0:vs[0]? =some v_)(v1:vs[1]? =some vx)(hs:cU P elem=some sz)(jj:tI P elem=some fX)(fp:fX<=4194304)(hz:VR φ z vz)(kf:∀w,(zeroValue elem).run P w=.ok vz w)(yD:z.dK.length=sz)(jz:xV P φ w ts elem sz n l vx)(hv:VR φ s v_)(h:mi H elem sz s n l=some (v,H')):
 eP P m base φ H w (do pure (.value (<-Builtin.append_ ts T vs)):Sem Next) v H':=by
 have n5:vz.cells.size=sz:=by have:=(AV.sA hz).jf;simp at this;omega
 have Eu:WR φ base H w.drew:=hw.rF rfl;unfold mi at h;split at h
 .obtain⟨a,rfl⟩:=hv;cases n with
  |zero=>
   cases h;obtain⟨cs,h1,h2,h3⟩:=AY (P:=P) (T:=T) ht hu v0 v1 hs jj fp jz (cM _);have gC:cs.toList=[]:=by have:=h1.jf;rw[h2]at this;simpa using this.symm
   exact eP.of (h3 w (by rw[gC];cases a<;>rfl)) (by simp[VR]) hw (cH.jO _ _ _) (cY.ka _ _)
  |succ k=>
   obtain⟨hc,h⟩:=dn h;cases h;simp only[dk,ux]at hc;obtain⟨cs,iU,cu,h1,h2,h3⟩:=OP (P:=P) (T:=T) (old:= #[]) (a:=a) (len:=0) (c:=0) ht hu v0 v1 hs jj fp jz (by omega) (by omega) kf (λw' _=>by cases a<;>simp[Builtin.firstCells,loadCells,loadCellsFrom]) rfl;have gC:cs.size=(k+1)*sz:=by have:=h1.jf;simp at this;omega
   have EH:(#[]++cs).size+(Builtin.zeroCells vz.cells (iU-(0+(k+1)))).size=iU*sz:=by
    rw[Tj,n5];have h6:(k+1)*sz+(iU-(0+(k+1)))*sz=iU*sz:=by rw[<-xp];congr 1;omega
    rw[Array.size_append,gC];simp only[List.size_toArray,gW];omega
   obtain⟨a1,a2,a3⟩:=Eu.yK (m:=m) (show hQ base w.drew from hb) (SH (elem:=elem) (el:=elem) (by simpa using h1) hc.2 EH) hm;refine eP.of h3 ?_ a1 a2 ((cY.rF (base:=base) (w':=w.drew) rfl).so a3);simp only[VR];refine⟨_,0,iU,ml _ _ _,by rw[ki];rfl,.inr rfl,by omega,(λh=>by cases h),?_⟩;show 0+0+iU*sz<=iU*sz;omega
 next id len gI=>
  obtain⟨hc,hq⟩:=dn h;clear h;simp only[dk,ux]at hc;have Ih:sz=gI:=dG hc.1;subst Ih;have uj:=hv;cases n with
  |zero=>
   cases hq;rcases hv with⟨rfl,rfl⟩|⟨e,y,c,he,rfl,hy,nW,jI⟩
   .obtain⟨cs,h1,h2,h3⟩:=AY (P:=P) (T:=T) ht hu v0 v1 hs jj fp jz (cM _);exact eP.of (h3 w rfl) uj hw (cH.jO _ _ _) (cY.ka _ _)
   .obtain⟨cs,h1,h2,h3⟩:=AY (P:=P) (T:=T) ht hu v0 v1 hs jj fp jz (by omega);have gC:cs.toList=[]:=by have:=h1.jf;rw[h2]at this;simpa using this.symm
    exact eP.of (h3 w (by rw[gC];rfl)) uj hw (cH.jO _ _ _) (cY.ka _ _)
  |succ k=>exact arJ hw hb hm ht hu v0 v1 hs jj fp hz kf yD jz hv hc.2 hq
 .simp only[VR]at hv;subst hv;cases n with
  |zero=>cases h;obtain⟨cs,h1,h2,h3⟩:=AY (P:=P) (T:=T) ht hu v0 v1 hs jj fp jz (cM _);exact eP.of (h3 w rfl) (by simp[VR]) hw (cH.jO _ _ _) (cY.ka _ _)
  |succ k=>
   obtain⟨hc,h⟩:=dn h;cases h;simp only[dk,ux]at hc;obtain⟨cs,iU,cu,h1,h2,h3⟩:=OP (P:=P) (T:=T) (old:= #[]) (a:=none) (len:=0) ht hu v0 v1 hs jj fp jz (by omega) (by omega) kf (λw' _=>by simp[Builtin.firstCells]) rfl;have gC:cs.size=(k+1)*sz:=by have:=h1.jf;simp at this;omega
   have EH:(#[]++cs).size+(Builtin.zeroCells vz.cells (iU-(0+(k+1)))).size=iU*sz:=by
    rw[Tj,n5];have h6:(k+1)*sz+(iU-(0+(k+1)))*sz=iU*sz:=by rw[<-xp];congr 1;omega
    rw[Array.size_append,gC];simp only[List.size_toArray,gW];omega
   obtain⟨a1,a2,a3⟩:=Eu.yK (show hQ base w.drew from hb) (SH (by simpa using h1) hc.2 EH) hm;refine eP.of h3 ?_ a1 a2 ((cY.rF rfl).so a3);simp only[VR];refine⟨_,0,iU,ml _ _ _,by rw[ki];rfl,.inr rfl,by omega,(λh=>by cases h),?_⟩;show 0+0+iU*sz<=iU*sz;omega
 next id off len cap gI ex=>
  obtain⟨hc,h⟩:=dn h;simp only[dk,ux]at hc;have Ih:=dG hc.1;subst Ih;have uj:=hv;obtain⟨e,y,c,he,rfl,hy,nW,wH,jI⟩:=hv;cases n with
  |zero=>
   cases h;obtain⟨cs,h1,h2,h3⟩:=AY ht hu v0 v1 hs jj fp jz (by omega);have gC:cs.toList=[]:=by have:=h1.jf;rw[h2]at this;simpa using this.symm
   refine eP.of (h3 w (by rw[gC];rfl)) uj hw (cH.jO _ _ _) (cY.ka _ _)
  |succ k=>
   simp only at h;have wF:∀{kl:Bool},(ex&&Nat.ble (cap+1) (len+(k+1)))=kl->kl=true->c<len+(k+1):=by
    intro kl h1 h2;subst h2;cases ex
    .simp at h1
    .have:=wH rfl;simp only[rA,ux]at h1;omega
   have yB:∀(χ:cj) (e':PE) (x c':Nat),χ H.bx=some e'->x=e'.o->len+(k+1)<=c'->e'.o+c'*sz<=e'.n->VR χ (.bq H.bx 0 (len+(k+1)) 1 sz false) (.slice (some ⟨e'.b,x,none⟩) (len+(k+1)) c'):=by intro χ e' x c' h1 h2 h3 h4;exact⟨e',x,c',h1,rfl,.inr (by simpa using h2),h3,(λh=>by cases h),by simpa using h4⟩
   have X9:∀(kl:Bool) (x y:AH),(bif kl then x else y)=(bif !kl then y else x):=by intro kl x y;cases kl<;>rfl
   unfold Eb at h;split at h;next cells kB ho=>
    split at h;next old oY=>have⟨nB,hq⟩:=dn h;cases hq;rw[X9];exact P_ hw hb hm _ ht hu v0 v1 hs jj fp n5 kf jz hc.2 he hy nW jI (λhk=>wF rfl (by simpa using hk)) ho rfl (λo h=>h) (λχ e o cu h=>h.sq cu) oY (λ_ h=>h) nB yB
    .cases h
   next cells kB ho=>
    split at h;next old oY=>
     have⟨nB,hq⟩:=dn h;simp only[dk]at nB;cases hq;rw[X9];obtain⟨o,hg,mq,gO,rfl,cv,cu,jA,ym⟩:=hw.ew id _ e ho he;have⟨Ia,Ib⟩:=CN oY;have Yr:(old++l).all AV.cX=true:=by rw[sc,dk];refine⟨?_,nB.1⟩;rw[Ia];rw[lZ]at ym⊢;exact λx hx=>ym x (Fu (CE hx))
     exact P_ (kB:=elem) hw hb hm _ ht hu v0 v1 hs jj fp n5 kf jz hc.2 he hy nW jI (λhk=>wF rfl (by simpa using hk)) ho rfl (λo h=>h) (λχ e o cu h=>adj cu h) oY (λvs h=>bp.wj _ _ (by rw[vL];exact nB.2) h) Yr yB
    .cases h
   next cells kB ho=>
    split at h;next old oY=>
     have⟨nB,hq⟩:=dn h;simp only[dk]at nB;cases hq;rw[X9];obtain⟨o,hg,mq,gO,rfl,cv,cu,jA,ym⟩:=hw.ew id _ e ho he;have⟨Ia,Ib⟩:=CN oY;have Yr:(old++l).all AV.cX=true:=by rw[sc,dk];refine⟨?_,nB.1⟩;rw[Ia];rw[lZ]at ym⊢;exact λx hx=>ym x (Fu (CE hx))
     exact P_ (kB:=elem) hw hb hm _ ht hu v0 v1 hs jj fp n5 kf jz hc.2 he hy nW jI (λhk=>wF rfl (by simpa using hk)) ho rfl (λo h=>h) (λχ e o cu h=>U2 cu h) oY (λvs h=>bp.wj _ _ (by rw[vL];exact nB.2) h) Yr yB
    .cases h
   .cases h
 next id len gI=>
  have⟨hc,hq⟩:=dn h;simp only[dk,ux]at hc;have Ih:=dG hc.1;subst Ih;have uj:=hv;cases n with
  |zero=>
   cases hq;rcases hv with⟨rfl,rfl⟩|⟨e,y,c,he,rfl,hy,nW,jI⟩
   .have⟨cs,h1,h2,h3⟩:=AY (T:=T) ht hu v0 v1 hs jj fp jz (cM _);exact eP.of (h3 w rfl) uj hw (cH.jO _ _ _) (cY.ka _ _)
   .have⟨cs,h1,h2,h3⟩:=AY (T:=T) ht hu v0 v1 hs jj fp jz (by omega);have gC:cs.toList=[]:=by have:=h1.jf;rw[h2]at this;simpa using this.symm
    exact eP.of (h3 w (by rw[gC];rfl)) uj hw (cH.jO _ _ _) (cY.ka _ _)
  |succ k=>exact agM hw hb hm ht hu v0 v1 hs jj fp hz kf yD jz hv hc.2 hq
 .cases h
theorem eP.ay{s v H'}(h:eP P m base φ H w s v H'):eP P m base φ H w s v (yl v H'):=by
 have⟨aQ,w',v',h1,h2,h3,h4,h5⟩:=h;refine⟨aQ,w',v',h1,h2,?_,?_,h5⟩;all_goals
  unfold yl;split;next id off len cap sz ex=>
   have⟨e,_,_,he,_⟩:=h2;split;next vs el ho=>
    cases hp:vs.all eG
    .first|exact h3|exact h4
    .first
      |(refine h3.put ho rfl he rfl (λ_ _=>rfl) ?_
        have⟨o,k1,cs,kB,k2,k3,k4,k5,k6⟩:=h3.ew id _ e ho he;exact⟨o,k1,cs,kB,k2,k3,k4,bp.wj _ _ (by rw[vL];exact hp) k5,k6⟩)
      |exact h4.tC (cH.oN he _)
   .first|exact h3|exact h4
  .first|exact h3|exact h4
theorem an3(hw:WR φ base H w)(hb:hQ base w)(hm:m<=H.bx){ts T vs s x v v_ vx H'}(v0:vs[0]? =some v_)(v1:vs[1]? =some vx)(hv:VR φ s v_)(hx:VR φ x vx)(h:Gv P H ts s x=some (v,H')):
 eP P m base φ H w (do pure (.value (<-Builtin.append_ ts T vs)):Sem Next) v H':=by
 unfold Gv at h;cases ht:ts[0]? with
 |none=>simp[ht]at h
 |some t=>
  simp only[ht,qD]at h;split at h;next elem hu=>
   split at h;next sz fX hs jj=>
    have⟨hc,h⟩:=dn h;simp at hc;have⟨fp,hz⟩:=hc;split at h;next n l jz=>
     cases Ak:jZ P elem with
     |none=>simp[Ak]at hz
     |some z=>
      simp only[Ak,yU]at hz;have⟨vz,z1,z2⟩:=zg (φ:=φ) Ak;split at h;next v2 H2 ha=>
       cases h;have:=an4 (T:=T) hw hb hm ht hu v0 v1 hs jj fp z1 z2 (dG hz) (aCo hw jz hx) hv ha;cases LY x&& !Nat.beq n 0
       .exact this
       .exact this.ay
      .cases h
    .cases h
   .cases h
  .cases h
end
section
variable{P:Program}{φ:cj}{base:fv}{m:Nat}{H:AH}{w:World}{ρ:Operand->Option AV}{ev:Operand->Value}
theorem aoQ{g fn args}(hf:P.funcs[g]? =some fn)(hb:fn.body.isSome=true)(hn:(fn.name== "runtime.NumGoroutine")=false)(w):
 (callFunc g args).run P w=.ok (.enter g args) w:=by
 have h1:¬(fn.body.isNone=true):=by cases h:fn.body<;>simp[h]at hb⊢
 have h2:¬((fn.name== "runtime.NumGoroutine")=true):=by rw[hn];simp
 simp only[callFunc,Sem.run_bind,run_program,Result.andThen_ok,hf,az h2,az h1,Sem.run_pure]
theorem O7{f args vf Jp aK}(h:x9 P f args=some aK)(hf:VR φ f vf)(ha:bp φ args Jp.toList):
 (∀w,rR P m base φ H w (do let d<-Deferred.ofValue vf Jp;invoke d.target d.args:Sem Next) aK)/\((∃g l,aK=.qc g l)\/∃r l,aK=.uJ r l):=by
 unfold x9 at h;split at h;next g first lu=>
  obtain⟨f',c',rfl,hy,h1,h2⟩:=hf;split at h;next fn jw=>
   have⟨hb,h⟩:=dn h;cases h;simp only[dk,yT]at hb;refine⟨λw=>⟨f'++Jp++c',?_,?_⟩,.inl ⟨_,_,rfl⟩⟩
   .simp[Deferred.ofValue,invoke,aoQ jw hb.1 hb.2 w]
   .rw[CC,CC];exact(h1.wi ha).wi h2
  .cases h
 next l=>cases h;obtain⟨e,he,rfl⟩:=hf;refine⟨λw=>⟨e,Jp,he,?_,ha⟩,.inr ⟨_,_,rfl⟩⟩;simp[Deferred.ofValue,invoke]
 .cases h
theorem aus(hw:WR φ base H w){t v v' f vv name}(h:ZQ P H t v name=some (f,v'))(hv:VR φ v vv)(n):
 ∃Dd,VR φ v' Dd/\(method (n+1) t vv name).run P w=.ok (f,Dd) w:=by
 unfold ZQ at h;split at h;next i hi=>
  split at h;next mt hm=>
   unfold akq at h;have ahu:∀{c:Bool} {f0:FuncId},(bif mt.path.isEmpty then some (f0,v)else none)=some (f,v')->mt.path= #[]/\f0=f/\v'=v:=by intro c f0 h;have⟨h1,h2⟩:=dn h;cases h2;exact⟨MZ.1 h1,rfl,rfl⟩
   split at h;next f0 el jw hu=>obtain⟨h1,rfl,rfl⟩:=ahu (c:=true) h;exact⟨_,hv,by simp[method,run_typeInfo w hi,hm,h1,follow,jw,receiverAt,run_underlying hu w,Place.get]⟩
   next f0 el jw hu=>
    have⟨hp,h⟩:=dn h;have h1:=MZ.1 hp;split at h;next id off=>
     split at h;next v2 hl=>
      cases h;obtain⟨e,he,rfl⟩:=hv;have⟨Dd,k1,k2⟩:=ZA hw hl he;refine⟨Dd,k2,?_⟩;have asa:∀(a:Addr) (s:String),(Builtin.ssaWrapNilChk_ #[t] t #[.pointer (some a),strVal "",strVal s]).run P w=.ok (.pointer (some a)) w:=by intro a s;rfl
      simp[method,run_typeInfo w hi,hm,h1,follow,jw,receiverAt,run_underlying hu w,Place.get,asa,asAddr,k1]
     .cases h
    .cases h
   next f0 d pS jw hu=>
    obtain⟨h1,rfl,rfl⟩:=ahu (c:=true) h;refine⟨_,hv,?_⟩;simp only[method,Sem.run_bind,run_typeInfo w hi,Result.andThen_ok,hm,h1,follow,jw,Sem.run_pure];simp only[receiverAt,Sem.run_bind,run_underlying hu w,Result.andThen_ok];cases d<;>first
     |(exact absurd rfl (pS _))
     |simp[Place.get]
   .cases h
  .cases h
 .cases h
end
section
variable{P:Program}{φ:cj}{base:fv}{m:Nat}{H:AH}{w:World}{ρ:Operand->Option AV}{ev:Operand->Value}
theorem arS(hw:WR φ base H w){o r name args argTypes aK}(ho:o.op=.call {callee:=.invoke r name,args,argTypes})(hr:nP φ ρ ev (r::args.toList))(h:Qj P ρ H r name args=some aK):
 rR P m base φ H w (execOp ev o) aK:=by
 unfold Qj at h;split at h;next t v l e1 e2=>
  split at h;next f v' asB=>
   have mz:=AZ (hr.pC (λx hx=>dZ _ hx)) e2;have⟨vv,hv,hvv⟩:=hr r (dJ ..) _ e1;have⟨Dd,as9,dN⟩:=aus hw asB hvv (P.types.size+Made.depth-1);have hd:1<=Made.depth:=by decide
   have hfu:P.types.size+Made.depth-1+1=P.types.size+Made.depth:=by omega
   rw[hfu]at dN;have Et:=O7 (m:=m) (base:=base) (H:=H) (Jp:= #[Dd]++args.map ev) h ⟨#[],#[],rfl,rfl,lK,lK⟩ (by rw[CC];exact qg.2 ⟨as9,by simpa using mz⟩);have h0:=Et.1 w;have wJ:(#[ev r]++args.map ev).extract 1 (#[ev r]++args.map ev).size=args.map ev:=by apply Array.ext';simp;exact CB (by simp)
   have e0:(execOp ev o).run P w=(do let d<-Deferred.ofValue (.func (.func f) #[] #[]) (#[Dd]++args.map ev);invoke d.target d.args:Sem Next).run P w:=by
    have g0:(#[ev r]++args.map ev)[0]? =some (ev r):=by rw[<-vO,CC];rfl
    have ge:(execOp ev o).run P w=(callMethod (ev r) name (args.map ev)).run P w:=by have⟨d,op,ty,p,af,gu⟩:=o;cases ho;have e1:execOp ev {dst:=d,op:=.call {callee:=.invoke r name,args,argTypes},type:=ty,pos:=p,after:=af,guard:=gu}=(do let d<-resolve ev {callee:=.invoke r name,args,argTypes} ty;invoke d.target d.args:Sem Next):=rfl;have e2:resolve ev {callee:=.invoke r name,args,argTypes} ty=(pure {target:=.fn (.method name) #[],args:= #[ev r]++args.map ev}:Sem Deferred):=rfl;rw[e1,e2,Sem.run_bind,Sem.run_pure,Result.andThen_ok];simp only[invoke,g0,wJ]
    rw[ge,hv];have e3:(callMethod (.iface t vv) name (args.map ev)).run P w=(callFunc f (#[Dd]++args.map ev)).run P w:=by simp only[callMethod,Sem.run_bind,run_program,Result.andThen_ok,dN]
    rw[e3];simp only[Deferred.ofValue,Sem.run_bind,Sem.run_pure,Result.andThen_ok,invoke];simp
   rcases Et.2 with⟨g,l',rfl⟩|⟨g,l',rfl⟩
   .have⟨args',a1,a2⟩:=h0;exact⟨args',by rw[e0];exact a1,a2⟩
   .have⟨e,args',a0,a1,a2⟩:=h0;exact⟨e,args',a0,by rw[e0];exact a1,a2⟩
  .cases h
 .cases h
end
section
variable{P:Program}{φ:cj}{base:fv}{m:Nat}{H:AH}{w:World}{ρ:Operand->Option AV}{ev:Operand->Value}
theorem arQ{o b args argTypes aK l}(ho:o.op=.call {callee:=.builtin b,args,argTypes})(hw:WR φ base H w)(hb:hQ base w)(hm:m<=H.bx)(jA:bp φ l (args.map ev).toList)(h:Hw P H b l argTypes=some aK):
 rR P m base φ H w (execOp ev o) aK:=by
 have dN:∀s:Sem Next,(∀Ky,builtin b argTypes o.type Ky (args.map ev)=s)->(execOp ev o).run P w=s.run P w:=by intro s hs;have⟨d,op,ty,p,af,gu⟩:=o;cases ho;have e1:execOp ev {dst:=d,op:=.call {callee:=.builtin b,args,argTypes},type:=ty,pos:=p,after:=af,guard:=gu}=(do let d<-resolve ev {callee:=.builtin b,args,argTypes} ty;invoke d.target d.args:Sem Next):=rfl;have e2:resolve ev {callee:=.builtin b,args,argTypes} ty=(pure {target:=.builtin b argTypes ty (args.map λ|.const _=>true|_=>false),args:=args.map ev}:Sem Deferred):=rfl;rw[e1,e2,Sem.run_bind,Sem.run_pure,Result.andThen_ok];rw[<-hs (args.map λ|.const _=>true|_=>false)];rfl
 have L8:∀(s:Sem Next) v H',(∀Ky,builtin b argTypes o.type Ky (args.map ev)=s)->eP P m base φ H w s v H'->rR P m base φ H w (execOp ev o) (.gE v H'):=by intro s v H' hs ⟨aQ,w',v',h1,h2⟩;exact⟨aQ,w',v',by rw[dN s hs];exact h1,h2⟩
 unfold Hw at h;split at h;next s x=>
  obtain⟨v0,r1,e1,uj,v1,r2,rfl,EN,rfl⟩:=jA;have g0:(args.map ev)[0]? =some v0:=by rw[<-vO,e1];rfl
  have g1:(args.map ev)[1]? =some v1:=by rw[<-vO,e1];rfl
  cases ha:Gv P H argTypes s x with
  |none=>simp[ha,RV]at h
  |some r=>have⟨v,H'⟩:=r;simp only[ha,RV]at h;cases h;exact L8 _ _ _ (λ_=>rfl) (an3 hw hb hm g0 g1 uj EN ha)
 .cases h;simp only[rR];rw[dN (pure .recover) (λ_=>rfl)];rfl
 next id k=>obtain⟨v0,r1,e1,uj,v1,r2,rfl,EN,rfl⟩:=jA;obtain⟨e,he,rfl⟩:=uj;obtain⟨v,H',rfl,h1⟩:=apG hw h he EN e1;exact L8 _ _ _ (λ_=>rfl) h1
 .cases h
end
section
variable{P:Program}{φ:cj}{base:fv}{m:Nat}{H:AH}{w:World}{ρ:Operand->Option AV}{ev:Operand->Value}
theorem aha{o aK}(hw:WR φ base H w)(hb:hQ base w)(hm:m<=H.bx)(hr:nP φ ρ ev o.op.operands.toList)(h:nu P ρ H o.op=some aK):rR P m base φ H w (execOp ev o) aK:=by
 cases o with
 |mk dst op type pos after guard=>
 simp only at hr h;cases op<;>simp only[nu]at h<;>try (cases h;done)
 case store t a x=>
  unfold HD at h;split at h;next id off v ha hx=>
   obtain⟨e,he,hv⟩:=hr a (by simp[Op.operands]) _ ha;cases hs:Jg P H t id off v with
   |none=>simp[hs,rq]at h
   |some H'=>simp only[hs,rq]at h;cases h;obtain⟨w',h1,h2,h3,h4⟩:=aB8 (P:=P) hw hs he (hr x (by simp[Op.operands]) _ hx);simp only[rR,execOp];exact eP.JB (by simp[Instr.storeAt,Instr.sureAddr,hv,h1]) h2 (h4 m) h3
  next n off v ha hx=>
   obtain⟨e,he,hv⟩:=hr a (by simp[Op.operands]) _ ha;cases hs:Ng P H t n off v with
   |none=>simp[hs,rq]at h
   |some H'=>simp only[hs,rq]at h;cases h;obtain⟨w',h1,h2,h3,h4⟩:=aB9 (P:=P) hw hs he (hr x (by simp[Op.operands]) _ hx);simp only[rR,execOp];exact eP.JB (by simp[Instr.storeAt,Instr.sureAddr,hv,h1]) h2 (h4 m) h3
  .cases h
 case mapUpdate t mm k x=>
  unfold HB at h;split at h;next am ak av e1 e2 e3=>
   cases hs:IC P H t am ak av with
   |none=>simp[hs,rq]at h
   |some H'=>simp only[hs,rq]at h;cases h;obtain⟨w',h1,h2,h3,h4⟩:=aiU (P:=P) hw hs (hr mm (by simp[Op.operands]) _ e1) (hr k (by simp[Op.operands]) _ e2) (hr x (by simp[Op.operands]) _ e3);simp only[rR,execOp];exact eP.JB h1 h2 (h4 m) h3
  .cases h
 case insert t mm k x=>
  unfold HB at h;split at h;next am ak av e1 e2 e3=>
   cases hs:IC P H t am ak av with
   |none=>simp[hs,rq]at h
   |some H'=>simp only[hs,rq]at h;cases h;obtain⟨w',h1,h2,h3,h4⟩:=aiU (P:=P) hw hs (hr mm (by simp[Op.operands]) _ e1) (hr k (by simp[Op.operands]) _ e2) (hr x (by simp[Op.operands]) _ e3);simp only[rR,execOp];exact eP.JB h1 h2 (h4 m) h3
  .cases h
 case mapEntry t mm k=>
  unfold Li at h;split at h;next kt elem id key hu e1 e2=>have⟨e,he,hv⟩:=hr mm (by simp[Op.operands]) _ e1;obtain⟨v,H',rfl,h1⟩:=aqG (P:=P) (m:=m) hw hu h he (hr k (by simp[Op.operands]) _ e2);simp only[rR,execOp,hv];exact h1
  .cases h
 case entryStore t mm s x=>
  unfold Qi at h;split at h;next id k born v e1 e2 e3=>have⟨e,he,hv⟩:=hr mm (by simp[Op.operands]) _ e1;have hs:=hr s (by simp[Op.operands]) _ e2;simp only[VR]at hs;obtain⟨H',rfl,h1⟩:=aqH (P:=P) (m:=m) (t:=t) (k:=k) hw h he (hr x (by simp[Op.operands]) _ e3);simp only[rR,execOp,hv,hs];exact h1
  .cases h
 case range t x=>obtain⟨v,H',rfl,h1⟩:=arX (P:=P) (m:=m) hw hb hm (λa ha=>hr x (by simp[Op.operands]) a ha) h;exact h1
 case next it wT=>obtain⟨v,H',rfl,h1⟩:=arU (P:=P) (m:=m) (T:=type) hw (λa ha=>hr it (by simp[Op.operands]) a ha) h;exact h1
 case entry it=>obtain⟨v,H',rfl,h1⟩:=arR (P:=P) (m:=m) hw (λa ha=>hr it (by simp[Op.operands]) a ha) h;exact h1
 case panic x=>
  unfold XA at h;split at h;next t a hx=>cases h;have hv:=hr x (by simp[Op.operands]) _ hx;have Ij:=hv;have⟨va,e,_⟩:=Ij;simp only[rR,execOp];exact⟨ev x,by simp[Instr.panic,e],hv⟩
  .cases h
 case defer c=>
  unfold Hz at h;have⟨callee,args,argTypes⟩:=c;cases callee<;>simp only at h<;>try (cases h;done)
  rename_i f;split at h;next fn first lu l e1 e2=>
   cases hy:vq fn;case true=>rw[hy]at h;cases h
   rw[hy]at h;simp at h;cases h;have mz:=AZ (hr.pC (l':=args.toList) (λx hx=>by simp[Op.operands,Call.operands];exact .inr (by simpa using hx))) e2;have⟨f',c',hv,_,h1,h2⟩:=hr f (by simp[Op.operands,Call.operands]) _ e1;simp only[rR,execOp];refine⟨{target:=.fn fn c',args:=f'++args.map ev},by simp[resolve,hv,Deferred.ofValue],c',f'++args.map ev,rfl,hy,h2,?_⟩;rw[CC];exact h1.wi (by simpa using mz)
  .cases h
 case call c=>
  unfold Xu at h;have⟨callee,args,argTypes⟩:=c;cases callee<;>simp only at h;case value f=>
   unfold XE at h;split at h;next g l e1 e2=>have mz:=AZ (hr.pC (l':=args.toList) (λx hx=>by simp[Op.operands,Call.operands];exact .inr (by simpa using hx))) e2;have:=(O7 (P:=P) (m:=m) (base:=base) (H:=H) (Jp:=args.map ev) h (hr f (by simp[Op.operands,Call.operands]) _ e1) (by simpa using mz)).1 w;simpa only[execOp,resolve]using this
   .cases h
  case invoke r name=>exact arS hw rfl (hr.pC (l':=r::args.toList) (λx hx=>by simp[Op.operands,Call.operands];simpa using hx)) h
  case builtin b=>
   split at h;next l hl=>have mz:=AZ (hr.pC (l':=args.toList) (λx hx=>by simp[Op.operands,Call.operands];simpa using hx)) hl;exact arQ rfl hw hb hm (by simpa using mz) h
   .cases h
end
end
end Go.Ev
