/- Part of a proof of AreaViews. -/
import Derived.Test.YtjgjeokjclpjnaaGreatVWA1
import Derived.Laws.RangeString
set_option linter.all false
set_option linter.unusedSectionVars false
namespace Go.Ev
noncomputable section
section
variable{P:Program}{I:bZ}{O:Operand->Option AV}{ev:Operand->Value}
theorem ago(z n):(lA z n).length=n*z.length:=by
 induction n with
 |zero=>simp[lA]
 |succ n ih=>simp[lA,ih,Nat.succ_mul];omega
theorem asG(z):∀n i,i<n*z.length->(lA z n)[i]? =z[i%z.length]?
 |0,i,h=>by simp at h
 |n+1,i,h=>by
  simp only[lA];by_cases h1:i<z.length
  .rw[List.getElem?_append_left h1,Nat.mod_eq_of_lt h1]
  .have h2:z.length<=i:=by omega
   rw[Se h2,asG z n (i-z.length) (by rw[Nat.succ_mul]at h;omega),<-Nat.mod_eq_sub_mod h2]
theorem asH{z}(h:z.all AV.dH=true):∀n,(lA z n).all AV.dH=true
 |0=>rfl
 |n+1=>by show(z++lA z n).all AV.dH=true;rw[sK,h,asH h n];rfl
theorem Za{z}{zs:Array Value}(hz:bf I z zs.toList)(n):bf I (lA z n) ((Array.range (n*zs.size)).map (zs[· %zs.size]!)).toList:=by
 have hl:z.length=zs.size:=by have:=hz.je;simpa using this
 refine akk (by simp[ago,hl]) ?_;intro i a v h1 h2;have hi:i<n*zs.size:=by
  grind
 rw[asG z n i (by rw[hl];exact hi),hl]at h1;have⟨x,h3,h4⟩:=hz.get h1
 grind
theorem US{o}(w):(newObj o).run P w=.ok w.heap.size (w.alloc o):=rfl
theorem aEm{O op ob g}(h:sD P O op=some (ob,g))(vs el):ob≠.au vs el:=by
 have hc:∀{g g':Nat->AV} {cs:LV} {elem:TypeId} {ob:aO},OM g cs elem=some (ob,g')->ob≠.au vs el:=by
  intro g g' cs elem ob h;have⟨_,h⟩:=di h
  grind
 cases op<;>simp only[sD]at h<;>try (cases h;done)
 case alloc e=>unfold aeK at h;split at h<;>first|exact hc h|cases h
 case box e x=>unfold aeL at h;split at h<;>first|exact hc h|cases h
 case buildSlice t len pb=>
  unfold aeN at h;split at h
  .split at h
   .unfold acn at h
    grind
   .cases h
  .cases h
 case makeMap t r=>unfold aeQ at h;split at h<;>first|(cases h;exact λh=>by cases h)|cases h
 case makeSlice t len cap=>
  unfold XR at h;split at h
  .split at h
   .cases hk:vF cap
    .rw[hk]at h;simp at h;have⟨_,h⟩:=di h;cases h;exact λh=>by cases h
    .rw[hk]at h;simp at h;have⟨_,h⟩:=di h
     grind
   .cases h
  .cases h
def ajW(P:Program)(I:bZ)(s:Sem Next)(ob:aO)(g:Nat->AV):Prop:=
 ∃(o':Obj) (n:Nat) (f:Nat->Value),(∀w,s.run P w=.ok (.value (f w.heap.size)) (w.alloc o'))/\(∀E b,dp I E->OR E ob ⟨b,0,n⟩ o')/\
  (∀(E:bZ) id b,E id=some ⟨b,0,n⟩->VR E (g id) (f b))/\ob.aQ=true
theorem acx{g g' cs elem ob}(h:OM g cs elem=some (ob,g')):cs.all AV.dH=true/\ob=.ah cs elem/\g'=g:=by
 have⟨h1,h2⟩:=di h
 grind
theorem PK{cs vs elem el}(h:bf I cs vs.toList)(h1:cs.all AV.dH=true):∀E b,dp I E->OR E (.ah cs elem) ⟨b,0,vs.size⟩ (.cells vs el (0,0)):=by
 intro E b cr;refine⟨vs,el,rfl,rfl,?_,?_,h1⟩
 .have:=h.je;simp at this⊢;omega
 .have hl:=h.je;simp;rw[hl,pX];exact bf.ll cr _ _ h
theorem ak3(E id b n)(h:E id=some ⟨b,0,n⟩):VR E (acb id) (.pointer (some ⟨b,0,none⟩)):=by exact⟨_,h,rfl⟩
theorem ak7(E id b n len cap sz)(h:E id=some ⟨b,0,n⟩)(hn:n=cap*sz)(hl:len<=cap):VR E (KV len cap sz id) (.slice (some ⟨b,0,none⟩) len cap):=by exact⟨_,0,cap,h,rfl,.inr rfl,hl,λ_=>rfl,by simp[hn]⟩
theorem LF{s v w w'}(h:s.run P w=.ok v w'):(do pure (.value (<-s)):Sem Next).run P w=.ok (.value v) w':=by simp[h]
theorem Sr(f:Nat->Value):(Array.range 0).map f= #[]:=by
 grind
theorem aqQ{o ob g}(hr:oN I O ev o.op.operands.toList)(h:sD P O o.op=some (ob,g)):ajW P I (execOp ev o) ob g:=by
 cases o with
 |mk dst op type pos after guard=>
 simp only at hr h;cases op<;>simp only[sD]at h<;>try (cases h;done)
 case alloc e=>
  unfold aeK at h;split at h;next z hz=>obtain⟨vz,h1,h2⟩:=Ch (I:=I) hz;obtain⟨h3,rfl,rfl⟩:=acx h;refine⟨.cells vz.cells e (0,0),vz.cells.size,λb=>.pointer (some ⟨b,0,none⟩),λw=>?_,PK (AV.vh h1) h3,λE id b hh=>ak3 E id b _ hh,rfl⟩;simp only[execOp];refine LF ?_;simp[Instr.alloc,h2 w,newVar,newRow]
  .cases h
 case box e x=>
  unfold aeL at h;split at h;next a ha=>obtain⟨h3,rfl,rfl⟩:=acx h;have h1:=hr x (by simp[Op.operands]) _ ha;refine⟨.cells (ev x).cells e (0,0),(ev x).cells.size,λb=>.pointer (some ⟨b,0,none⟩),λw=>?_,PK (AV.vh h1) h3,λE id b hh=>ak3 E id b _ hh,rfl⟩;simp only[execOp];refine LF ?_;simp[Instr.box,newVar,newRow]
  .cases h
 case buildSlice t len pb=>
  unfold aeN at h;split at h;next elem ps hu hp=>
   split at h;next s z hs hz=>
    obtain⟨vz,h1,h2⟩:=Ch (I:=I) hz;unfold acn at h;obtain⟨hb,h⟩:=di h;simp only[cT,vU]at hb;obtain⟨ke,ie⟩:=hb;have Bx:z.dO.length=s:=dN ie;split at h;next cs hf=>
     obtain⟨h3,rfl,rfl⟩:=acx h;have kX:=AV.vh h1;have pO:vz.cells.size=s:=by have:=kX.je;simp at this;omega
     have ME:=UX (hr.qS (λx hx=>by simpa[Op.operands]using hx)) hp;obtain⟨r',h4,h5⟩:=V5 ME (Za kX len) hf;have bB:cs.length=len*s:=by
      have:∀(ps:List (Nat×AV)) (c c':LV),Dd (λi=>some (i*s,s)) c ps=some c'->c'.length=c.length:=by
       intro ps;induction ps with
       |nil=>intro c c' h;simp only[Dd]at h;cases h;rfl
       |cons p ps ih=>
        intro c c' h;obtain⟨i,v⟩:=p;simp only[Dd]at h;obtain⟨_,h⟩:=di h;split at h
        .cases h
        next c1 Q6=>obtain⟨cr,rfl⟩:=YY Q6;rw[ih _ _ h];simp;omega
      rw[this _ _ _ hf,ago,Bx]
     have Dx:r'.size=len*s:=by have:=h5.je;simp at this;omega
     refine⟨.cells r' elem (0,0),r'.size,λb=>.slice (some ⟨b,0,none⟩) len len,λw=>?_,PK h5 h3,λE id b hh=>ak7 E id b _ len len s hh Dx (ct _),rfl⟩;simp only[execOp];refine LF ?_;have cr:¬(len*s>2^24):=by omega
     have QN:Instr.fill (λi=>some (i*s,s)) ((Array.range (len*s)).map (λx=>(if len*s=0 then #[]else vz.cells)[x%(if len*s=0 then #[]else vz.cells).size]!)) (pb.map λx=>(x.1,ev x.2)).toList=some r':=by
      rw[pO]at h4;by_cases h0:len*s=0
      .simp only[h0,if_true]at h4⊢;rw[Sr]at h4⊢;simpa using h4
      .simp only[h0,if_false];rw[pO];simpa using h4
     by_cases h0:len*s=0
     .simp only[h0,if_true]at QN;rw[Sr]at QN;simp only[Instr.buildSlice,Sem.run_bind,run_underlying hu w,Result.andThen_ok,j6 hs w,aw cr,aP h0,Sem.run_pure];simp only[h0,Sr,QN,newRow,Sem.run_bind,US,Result.andThen_ok,Sem.run_pure]
     .simp only[h0,if_false]at QN;simp only[Instr.buildSlice,Sem.run_bind,run_underlying hu w,Result.andThen_ok,j6 hs w,aw cr,aw h0,h2 w,Sem.run_pure,QN,newRow,US]
    .cases h
   .cases h
  .cases h
 case makeMap t r=>
  unfold aeQ at h;have key:∀e:TypeId×TypeId,P.underlying t=some (.map e.1 e.2)->(r.map ev=none\/∃k n,r.map ev=some (.int k n))->∀p,ob=.bI [] 0 p/\g=.aS->ajW P I (execOp ev {dst,op:=.makeMap t r,type,pos,after,guard}) ob g:=by
   intro e hu hv p ⟨h1,h2⟩;subst h1 h2;refine⟨.map #[] 0,0,λb=>.map (some b),λw=>?_,λE b _=>⟨#[],rfl,by simp[dK],λ_=>by simp[dK]⟩,λE id b hh=>by simp only[VR];exact⟨_,hh,rfl⟩,rfl⟩;simp only[execOp];refine LF ?_;rcases hv with hv|⟨k,n,hv⟩
   .simp[Instr.makeMap,hv]
   .simp[Instr.makeMap,hv,run_underlying hu w,asInt,asIntOf]
  split at h;next a b hu Dx=>
   cases h;rcases RY (hr.qS (λy hy=>by cases r<;>simp at hy;subst hy;simp[Op.operands])) Dx with⟨_,h⟩|⟨_,_,e,_⟩
   .exact key (a,b) hu (.inl h) _ aA
   .cases e
  next a b k n hu Dx=>
   cases h;rcases RY (hr.qS (λy hy=>by cases r<;>simp at hy;subst hy;simp[Op.operands])) Dx with⟨e,_⟩|⟨x,v,e,hv,hx⟩
   .cases e
   .cases e;simp only[VR]at hx;exact key (a,b) hu (.inr ⟨k,n,by rw[hv,hx]⟩) _ aA
  .cases h
 case makeSlice t len cap=>
  unfold XR at h;split at h;next elem l c hu hl hc=>
   have QY:=hr len (by simp[Op.operands]) _ hl;have wQ:=hr cap (by simp[Op.operands]) _ hc;simp only[VR]at QY wQ;split at h;next s z gE hs hz jq=>
    obtain⟨vz,h1,h2⟩:=Ch (I:=I) hz;obtain⟨b1,b2,b3,b4,b5,b6,hg,eW⟩:l<=c/\c<=4194304/\gE<=4194304/\s<=4194304/\Nat.beq z.dO.length s=true/\z.dO.all AV.dH=true/\g=KV l c s/\
     (ob=.ah (lA z.dO c) elem\/(ob=agv z.dO c elem/\z.dO.all f_=true)):=by
     cases hk:vF cap
     .rw[hk]at h;unfold afi at h;obtain⟨hb,h⟩:=di h;simp only[cT,vU]at hb;obtain⟨⟨⟨⟨⟨⟨b1,b2⟩,b3⟩,b4⟩,b5⟩,b6⟩,b7⟩:=hb;simp only[lN,Js]at h;exact⟨b1,b2,b3,b4,b5,b6,h.2.symm,.inr ⟨h.1.symm,b7⟩⟩
     .rw[hk]at h;unfold aqR at h;obtain⟨hb,h⟩:=di h;simp only[cT,vU]at hb;obtain⟨⟨⟨⟨⟨b1,b2⟩,b3⟩,b4⟩,b5⟩,b6⟩:=hb;simp only[lN,Js]at h;exact⟨b1,b2,b3,b4,b5,b6,h.2.symm,.inl h.1.symm⟩
    have Bx:=dN b5;have h3:=asH b6 c;subst hg;have kX:=AV.vh h1;have pO:vz.cells.size=s:=by have:=kX.je;simp at this;omega
    have h5:=Za kX c;rw[pO]at h5;refine⟨.cells ((Array.range (c*s)).map (vz.cells[· %s]!)) elem (0,0),c*s,λb=>.slice (some ⟨b,0,none⟩) l c,λw=>?_,?_,λE id b hh=>ak7 E id b _ l c s hh rfl b1,by rcases eW with rfl|⟨rfl,_⟩<;>rfl⟩
    .simp;refine LF ?_;have⟨ti,FY,Rf⟩:=acs jq w;have hwl:IntKind.i64.wrap (l:Int)=l:=IntWalk.i64_in _ (by omega);have qn:IntKind.i64.wrap (c:Int)=c:=IntWalk.i64_in _ (by omega);have ad5:(gE:Int)*c<=2^48:=by
      have:=Nat.mul_le_mul b3 b2;have h':((gE*c:Nat):Int)<=((4194304*4194304:Nat):Int):=by exact_mod_cast this
      simp at h';omega
     have t1:¬((c:Int)<0\/ti.bytes*(c:Int)>2^48):=by rw[Rf];omega
     have t4:¬(((((c:Int)<0)\/281474976710656<(ti.bytes:Int)*(c:Int))\/(l:Int)<0)\/c<l):=by omega
     by_cases h0:c*s=0
     .simp[Instr.makeSlice,run_underlying hu w,QY,wQ,asInt,asIntOf,FY,hwl,qn,j6 hs w,h0,newRow];rw[aw t4,Sr,Sr]
     .simp[Instr.makeSlice,run_underlying hu w,QY,wQ,asInt,asIntOf,FY,hwl,qn,j6 hs w,h0,newRow];rw[aw t4];simp[h2 w,pO]
    .have:=PK (el:=elem) (elem:=elem) h5 h3;intro E b cr;rcases eW with rfl|⟨rfl,hp⟩
     .simpa using this E b cr
     .have aDa:=bf.xU (E:=I.pu) _ _ (by rw[xu];exact hp) kX;have h50:=Za aDa c;rw[pO]at h50;have:=PK (el:=elem) (elem:=elem) h50 h3 I.pu b (dp.refl _);have h51:OR I.pu (.ah (lA z.dO c) elem) ⟨b,0,c*s⟩ (.cells ((Array.range (c*s)).map (vz.cells[· %s]!)) elem (0,0)):=by simpa using this
      exact ajZ cr h51
   .cases h
  .cases h
end
section
variable{I:bZ}{base:fM}{H:AH}{w:World}
@[simp] theorem pV (H:AH) (id ij:Nat) (o:aO):(H.cE id o).aR ij=if ij=id then some o else H.aR ij:=by cases H;simp[AH.cE,AH.aR,Tr.lL]
@[simp] theorem pQ (H:AH) (id:Nat) (o:aO):(H.cE id o).br=H.br:=by cases H;rfl
@[simp] theorem nY (H:AH) (ij:Nat) (o:aO):(H.eH o).aR ij=if ij=H.br then some o else H.aR ij:=by cases H;simp[AH.eH,AH.aR,Tr.lL]
@[simp] theorem tO (H:AH) (o:aO):(H.eH o).br=H.br+1:=by cases H;rfl
@[simp] theorem Au (H:AH) (id:Nat) (o:aO):(H.cE id o).x=H.x:=by cases H;rfl
@[simp] theorem Cd (H:AH) (o:aO):(H.eH o).x=H.x:=by cases H;rfl
theorem dK.Ki{I E}(h:dp I E):∀{es ms},dK I es ms->dK E es ms
 |[],_,h1=>by simpa[dK]using h1
 |(k,v,b)::es,_,h1=>by obtain⟨m,ms,rfl,h2,h3,h4,h5⟩:=h1;exact⟨m,ms,rfl,VR.d_ h _ _ h2,VR.d_ h _ _ h3,h4,dK.Ki h h5⟩
theorem DR.mono{I E}(h:dp I E){a d}(h1:DR I a d):DR E a d:=by
 cases a with
 |xN fn cap args=>have⟨c',a',e,hy,h2,h3⟩:=h1;exact⟨c',a',e,hy,bf.ll h _ _ h2,bf.ll h _ _ h3⟩
 |pr r=>have⟨e,h2,h3⟩:=h1;exact⟨e,h _ _ h2,h3⟩
theorem qV.Kh{I E}(h:dp I E):∀{as ds},qV I as ds->qV E as ds
 |[],_,h1=>by simpa[qV]using h1
 |a::as,_,h1=>by obtain⟨d,ds,rfl,h2,h3⟩:=h1;exact⟨d,ds,rfl,h2.mono h,qV.Kh h h3⟩
theorem TR.mono{I E}(h:dp I E){t nt tmps}(h1:TR I t nt tmps):TR E t nt tmps:=
 ⟨h1.1,λi a hi=>let⟨v,h2,h3⟩:=h1.2 i a hi;⟨v,h2,VR.d_ h _ _ h3⟩⟩
theorem OR.s6{I E}(h:dp I E){ob e o}(h1:OR I ob e o):OR E ob e o:=by
 cases ob with
 |ah vs elem=>obtain⟨cs,el,rfl,h2,h3,h4,h5⟩:=h1;exact⟨cs,el,rfl,h2,h3,bf.ll h _ _ h4,h5⟩
 |bI es clock p=>obtain⟨bF,rfl,h2,h3⟩:=h1;exact⟨bF,rfl,h2.Ki h,λhp=>(h3 hp).Ki h.pu⟩
 |dE vs elem=>obtain⟨cs,el,rfl,h2,h3,h4,h5⟩:=h1;exact⟨cs,el,rfl,h2,h3,bf.ll h.pu _ _ h4,h5⟩
 |au vs elem=>obtain⟨cs,el,rfl,h2,h3,h4,h5⟩:=h1;exact⟨cs,el,rfl,h2,h3,bf.ll h.pu _ _ h4,h5⟩
 |vZ s pos=>exact h1
 |iZ m since seen GM=>
  obtain⟨m',rfl,h0,h2⟩:=h1;refine⟨m',rfl,h0,?_⟩;cases m with
  |none=>exact h2
  |some id=>have⟨e,h3,h4⟩:=h2;exact⟨e,h _ _ h3,h4⟩
 |gX st p fn tmps nt ps a b d=>obtain⟨qG,ed,rfl,h2,h3⟩:=h1;exact⟨qG,ed,rfl,h _ _ h2,h3.mono h⟩
 |qR ds=>
  cases ds with
  |none=>exact h1
  |some l=>obtain⟨l',rfl,h2⟩:=h1;exact⟨l',rfl,h2.Kh h⟩
 |bg vs=>trivial
def NoX(H:AH)(I E:bZ):Prop:=H.x=none->∀n e,E.xs n=some e->I.xs n=some e
def oj(I:bZ)(H:AH)(E:bZ)(H':AH):Prop:=(H'.x=none↔H.x=none)/\NoX H' I E
theorem oj.refl(I H):oj I H I H:=⟨Iff.rfl,λ_ _ _ h=>h⟩
theorem oj.of{I E H H'}(h:H'.x=H.x)(hx:E.xs=I.xs):oj I H E H':=⟨by rw[h],λ_ n e h1=>by rw[hx]at h1;exact h1⟩
theorem oj.rX{I E K H H' O0}(h:oj I H E H')(h':oj E H' K O0):oj I H K O0:=
 ⟨h'.1.trans h.1,λhx n e h1=>h.2 (h'.1.1 hx) n e (h'.2 hx n e h1)⟩
def cz(m:Nat)(I:bZ)(H:AH)(E:bZ)(H':AH):Prop:=
 dp I E/\H.br<=H'.br/\(∀id,id<m->I id=none->E id=none/\(H'.aR id=H.aR id\/∃vs el,H.aR id=some (.au vs el)))/\oj I H E H'
theorem cz.ka(m I H):cz m I H I H:=⟨dp.refl I,ct _,λ_ _ h=>⟨h,.inl rfl⟩,oj.refl I H⟩
theorem cz.wq{m I E K H H' O0}(h:cz m I H E H')(h':cz m E H' K O0):cz m I H K O0:=
 ⟨h.1.Kj h'.1,lz h.2.1 h'.2.1,λid hm hn=>by
   have⟨h1,h2⟩:=h.2.2.1 id hm hn;have⟨h3,h4⟩:=h'.2.2.1 id hm h1;refine⟨h3,?_⟩;rcases h2 with h2|h2
   .rw[h2]at h4;exact h4
   .exact .inr h2,h.2.2.2.rX h'.2.2.2⟩
theorem cz.mono{m n I E H H'}(h:cz n I H E H')(hm:m<=n):cz m I H E H':=
 ⟨h.1,h.2.1,λid hi hn=>h.2.2.1 id (Nl hi hm) hn,h.2.2.2⟩
def xZ(w w':World):Prop:=w'.os=w.os/\w'.tape=w.tape/\w'.output=w.output
theorem xZ.refl(w):xZ w w:=⟨rfl,rfl,rfl⟩
theorem xZ.trans{w w' S1}(h:xZ w w')(h':xZ w' S1):xZ w S1:=⟨h'.1.trans h.1,h'.2.1.trans h.2.1,h'.2.2.trans h.2.2⟩
def cM(base:fM)(w w':World):Prop:=w.heap.size<=w'.heap.size/\(∀b,base b->w'.heap[b]? =w.heap[b]?)/\xZ w w'
theorem cM.kP(base w):cM base w w:=⟨ct _,λ_ _=>rfl,xZ.refl w⟩
theorem cM.um{base w w' S1}(h:cM base w w')(h':cM base w' S1):cM base w S1:=
 ⟨lz h.1 h'.1,λb hb=>(h'.2.1 b hb).trans (h.2.1 b hb),h.2.2.trans h'.2.2⟩
theorem ab1(w:World)(o):(w.alloc o).heap.size=w.heap.size+1:=by simp
theorem Pw(w:World)(o){b}(h:b<w.heap.size):(w.alloc o).heap[b]? =w.heap[b]? :=by show(w.heap.push o)[b]? =_;grind
theorem axD(w:World)(o):(w.alloc o).heap[w.heap.size]? =some o:=by show(w.heap.push o)[w.heap.size]? =_;simp
def jU(I:bZ)(id:Nat)(e:PE):bZ:=⟨λi=>if i=id then some e else I i,I.ro,I.xs⟩
theorem EO(I id e i):jU I id e i=if i=id then some e else I i:=rfl
theorem nN(I id e):jU I id e id=some e:=by simp[jU]
theorem PD{I id e}(h:I id=none):dp I (jU I id e):=by
 refine⟨λi e' hi=>?_,λ_ _ h=>h,λ_ _ h=>h⟩;by_cases Dr:i=id
 .grind
 .simp[jU,Dr,hi]
theorem WR.Bd(hw:WR I base H w){id}(h:H.br<=id):I id=none:=by
 cases he:I id with
 |none=>rfl
 |some e=>have:=(hw.lt id e he).2.2;omega
theorem WR.alf(hw:WR I base H w){id n ob o'}(dw:I id=none)(ho:H.aR id=some ob)(hb:gY base w)(wV:∀E b,dp I E->OR E ob ⟨b,0,n⟩ o'):
 WR (jU I id ⟨w.heap.size,0,n⟩) base H (w.alloc o'):=by
 have ca:(w.alloc o').heap.size=w.heap.size+1:=ab1 _ _;have o5:∀b,b<w.heap.size->(w.alloc o').heap[b]? =w.heap[b]? :=λb hb=>Pw _ _ hb
 have Q4:(w.alloc o').heap[w.heap.size]? =some o':=axD _ _;have cr:=PD (e:=⟨w.heap.size,0,n⟩) dw;refine⟨?_,?_,?_,hw.nx,hw.uP rfl rfl rfl (λb h=>o5 _ (hw.apU h)) λi bu e h1 l1 h2=>?_⟩
 .intro i bu e h1 h2;by_cases hi:i=id
  .subst hi;rw[nN]at h2;grind
  .simp only[jU,aw hi]at h2;have⟨o,h3,h4⟩:=hw.ey i bu e h1 h2;exact⟨o,by grind,h4.s6 cr⟩
 .intro i i' dz iz e e' h1 l1 h2 h3 l2 h4 he;by_cases hi:i=id<;>by_cases en:i'=id
  .rw[hi,en]
  .simp only[jU,aw en]at h4;subst hi;rw[nN]at h2;cases h2;have:=(hw.lt i' e' h4).1;simp only at he;omega
  .simp only[jU,aw hi]at h2;subst en;rw[nN]at h4;cases h4;have:=(hw.lt i e h2).1;simp only at he;omega
  .simp only[jU,aw hi]at h2;simp only[jU,aw en]at h4;exact hw.jx i i' dz iz e e' h1 l1 h2 h3 l2 h4 he
 .intro i e h2;by_cases hi:i=id
  .subst hi;rw[nN]at h2;cases h2;exact⟨by grind,λh=>Nat.lt_irrefl _ (hb _ h),hw.nx _ _ ho⟩
  .simp only[jU,aw hi]at h2;have:=hw.lt i e h2
   grind
 .by_cases hi:i=id
  .subst hi;rw[nN]at h2;grind
  .simp only[jU,aw hi]at h2
   grind
theorem WR.new(hw:WR I base H w)(ob):WR I base (H.eH ob) w:=by
 have hf:=hw.Bd (ct H.br);have cx:∀{id e},I id=some e->id≠H.br:=λh e=>by rw[e,hf]at h;cases h
 refine⟨?_,?_,?_,?_,hw.uP rfl rfl (Cd H ob) (λ_ _=>rfl) λi bu e h1 l1 h2=>.inl ⟨i,bu,e,by simp_all,l1,h2,rfl⟩⟩
 .intro i bu e h1 h2;rw[nY,aw (cx h2)]at h1;exact hw.ey i bu e h1 h2
 .intro i i' dz iz e e' h1 l1 h2 h3 l2 h4 he;rw[nY,aw (cx h2)]at h1;rw[nY,aw (cx h4)]at h3;exact hw.jx i i' dz iz e e' h1 l1 h2 h3 l2 h4 he
 .intro i e h;have:=hw.lt i e h;exact⟨this.1,this.2.1,by rw[tO];omega⟩
 .intro i bu h;rw[nY]at h;rw[tO];split at h
  .omega
  .have:=hw.nx _ _ h;omega
theorem cz.new{m}(hm:m<=H.br)(ob):cz m I H I (H.eH ob):=
 ⟨dp.refl I,by rw[tO];omega,λid hi hn=>⟨hn,.inl (by rw[nY,aw (by omega)])⟩,.of (Cd _ _) rfl⟩
theorem cM.aaS{base w}(hb:gY base w)(o):cM base w (w.alloc o):=
 ⟨by rw[ab1];omega,λb h=>Pw _ _ (hb b h),rfl,rfl,rfl⟩
theorem WR.put(hw:WR I base H w){id ob bu e w'}(ho:H.aR id=some ob)(hl:ob.aQ=true)(he:I id=some e)(ca:w'.heap.size=w.heap.size)(FU:∀b,b≠e.b->w'.heap[b]? =w.heap[b]?)(Q4:∃o',w'.heap[e.b]? =some o'/\OR I bu e o'):WR I base (H.cE id bu) w':=by
 refine⟨?_,?_,?_,?_,hw.uP rfl rfl (Au H id bu) (λb h=>FU b (λhb=>hw.aeG h ho hl he hb.symm)) λi dz e1 h1 l1 h2=>.inl ?_⟩
 .intro i dz e1 h1 h2;rw[pV]at h1;by_cases hi:i=id
  .grind
  .rw[aw hi]at h1;by_cases pM:dz.aQ=true
   .have⟨o,h3,h4⟩:=hw.ey i dz e1 h1 h2;have hb:=λh=>hi (hw.jx i id dz ob e1 e h1 pM h2 ho hl he h)
    grind
   .cases dz<;>simp[aO.aQ]at pM;have h5:=(hw.lt i e1 h2).1;refine⟨w'.heap[e1.b]'(by rw[ca];exact h5),by simp[ca,h5],trivial⟩
 .intro i i' dz iz e1 e2 h1 l1 h2 h3 l2 h4 hb;rw[pV]at h1 h3;by_cases hi:i=id<;>by_cases en:i'=id
  .rw[hi,en]
  .subst hi;rw[aw en]at h3;exact hw.jx i i' ob iz e1 e2 ho hl h2 h3 l2 h4 hb
  .subst en;rw[aw hi]at h1;exact hw.jx i i' dz ob e1 e2 h1 l1 h2 ho hl h4 hb
  .rw[aw hi]at h1;rw[aw en]at h3;exact hw.jx i i' dz iz e1 e2 h1 l1 h2 h3 l2 h4 hb
 .intro i e1 h;have:=hw.lt i e1 h;simp_all
 .intro i dz h;rw[pV]at h;rw[pQ];split at h;next e=>subst e;exact hw.nx _ _ ho
  .exact hw.nx _ _ h
 .rw[pV]at h1
  grind
theorem cz.p_{m id e}(he:I id=some e)(ob):cz m I H I (H.cE id ob):=
 ⟨dp.refl I,by rw[pQ];omega,λi _ hn=>⟨hn,.inl (by rw[pV,aw (λh=>by grind)])⟩,.of (Au _ _ _) rfl⟩
theorem cz.au{m id vs el}(ho:H.aR id=some (.au vs el))(ob):cz m I H I (H.cE id ob):=
 ⟨dp.refl I,by rw[pQ];omega,λi _ hn=>⟨hn,by
   by_cases hi:i=id
   .grind
   .exact .inl (by rw[pV,aw hi])⟩,.of (Au _ _ _) rfl⟩
theorem cM.RS(hw:WR I base H w){id e w'}(he:I id=some e)(ca:w'.heap.size=w.heap.size)(FU:∀b,b≠e.b->w'.heap[b]? =w.heap[b]?)(hs:xZ w w':=by exact⟨rfl,rfl,rfl⟩):cM base w w':=
 ⟨by omega,λb hb=>FU b (λh=>(hw.lt id e he).2.1 (h▸hb)),hs⟩
theorem WR.sM(hw:WR I base H w){w'}(h:w'.heap=w.heap):WR I base H w':=
 ⟨λi ob e h1 h2=>by rw[h];exact hw.ey i ob e h1 h2,hw.jx,λi e h1=>by rw[h];exact hw.lt i e h1,hw.nx,hw.uP rfl rfl rfl (λb _=>by rw[h]) λid ob e h1 l1 h2=>.inl ⟨id,ob,e,h1,l1,h2,rfl⟩⟩
theorem cM.sM{w'}(h:w'.heap=w.heap)(hs:xZ w w':=by exact⟨rfl,rfl,rfl⟩):cM base w w':=⟨by rw[h];exact ct _,λb _=>by rw[h],hs⟩
theorem WR.By(hw:WR I base H w){id ob vs}(ho:H.aR id=some ob):WR I base (H.cE id (.bg vs)) w:=by
 refine⟨?_,?_,?_,?_,hw.uP rfl rfl (Au H id _) (λ_ _=>rfl) λi dz e1 h1 l1 h2=>.inl ?_⟩
 .intro i dz e1 h1 h2;rw[pV]at h1;by_cases hi:i=id
  .subst hi;rw[aP rfl]at h1;cases h1;have h5:=(hw.lt i e1 h2).1;exact⟨w.heap[e1.b],by simp[h5],trivial⟩
  .rw[aw hi]at h1;exact hw.ey i dz e1 h1 h2
 .intro i i' dz iz e1 e2 h1 l1 h2 h3 l2 h4 hb;rw[pV]at h1 h3;by_cases hi:i=id
  .subst hi;rw[aP rfl]at h1;cases h1;simp[aO.aQ]at l1
  .by_cases en:i'=id
   .subst en;rw[aP rfl]at h3;cases h3;simp[aO.aQ]at l2
   .rw[aw hi]at h1;rw[aw en]at h3;exact hw.jx i i' dz iz e1 e2 h1 l1 h2 h3 l2 h4 hb
 .intro i e1 h;have:=hw.lt i e1 h;simp_all
 .intro i dz h;rw[pV]at h;rw[pQ];split at h;next e=>subst e;exact hw.nx _ _ ho
  .exact hw.nx _ _ h
 .rw[pV]at h1;by_cases hi:i=id
  .subst hi;rw[aP rfl]at h1;cases h1;simp[aO.aQ]at l1
  .grind
theorem qw(H:AH)(n i o):(H.oH n o).aR i=H.aR i:=by have⟨h,k,x⟩:=H;cases x<;>rfl
theorem Ga(H:AH)(n o):(H.oH n o).br=H.br:=by have⟨h,k,x⟩:=H;cases x<;>rfl
theorem Z2(H:AH)(n i){o}(h:(H.oH n none).gO i=some o):H.gO i=some o/\i≠n:=by
 have⟨a,k,x⟩:=H;cases x with
 |none=>cases h
 |some X=>
  have h:(bif Nat.beq i n then none else X.g i)=some o:=h;rw[Tr.xp,Tr.EM]at h;split at h
  .cases h
  .exact⟨h,by assumption⟩
theorem avh(H:AH)(n o):((H.oH n o).x=none↔H.x=none):=by have⟨h,k,x⟩:=H;cases x<;>simp[AH.oH]
theorem avi{H:AH}{n o X}(h:(H.oH n o).x=some X):∃X0,H.x=some X0/\X.n=X0.n:=by
 have⟨a,k,x⟩:=H;cases x with
 |none=>cases h
 |some X0=>cases h;exact⟨X0,rfl,rfl⟩
theorem WR.aOG(hw:WR I base H w)(n):WR I base (H.oH n none) w:=by
 refine⟨λi ob e h1 h2=>hw.ey i ob e (by rw[qw]at h1;exact h1) h2,λi i' ob bu e e' h1 l1 h2 h3 l2 h4 hb=>hw.jx i i' ob bu e e' (by rw[qw]at h1;exact h1) l1 h2 (by rw[qw]at h3;exact h3) l2 h4 hb,
  λi e h=>by rw[Ga];exact hw.lt i e h,λi ob h=>by rw[qw]at h;rw[Ga];exact hw.nx i ob h,⟨λb o h=>?_,λi ob h=>?_,λi i' ob bu e e' h1 h2 h3 h4 hb=>?_,λX h i e h1=>?_⟩⟩
 .exact⟨(hw.ro b o h).1,λid ob e h1=>(hw.ro b o h).2 id ob e (by rw[qw]at h1;exact h1)⟩
 .have⟨h1,_⟩:=Z2 H n i h;have⟨e,o,q1,q2,q3,q4,q5⟩:=hw.wx.xo i ob h1;exact⟨e,o,q1,q2,q3,q4,λid dz e1 h2=>q5 id dz e1 (by rw[qw]at h2;exact h2)⟩
 .exact hw.wx.xi i i' ob bu e e' (Z2 H n i h1).1 (Z2 H n i' h2).1 h3 h4 hb
 .have⟨X0,h2,h3⟩:=avi h;rw[h3];exact hw.wx.xl X0 h2 i e h1
theorem WR.import(hw:WR I base H w){n ob e}(ho:H.gO n=some ob)(he:I.xs n=some e)(hm:∀{o},OR I.pu ob e o->OR I ob e o){m}(hmn:m<=H.br):
 WR (jU I H.br e) base ((H.oH n none).eH ob) w/\cz m I H (jU I H.br e) ((H.oH n none).eH ob):=by
 have l8:=hw.aOG n;have hf:=hw.Bd (ct H.br);have cr:=PD (e:=e) hf;have⟨e',o,q1,q2,q3,q4,q5⟩:=hw.wx.xo n ob ho;rw[he]at q1;cases q1;have yB:(H.oH n none).br=H.br:=Ga _ _ _;refine⟨⟨λi dz e1 h1 h2=>?_,λi i' dz iz e1 e2 h1 l1 h2 h3 l2 h4 hb=>?_,λi e1 h=>?_,λi dz h=>?_,⟨λb o' h=>?_,λi dz h=>?_,λi i' dz iz e1 e2 h1 h2 h3 h4 hb=>?_,λX h i e1 h1=>?_⟩⟩,
  cr,by rw[tO,yB];omega,λi hi hn=>⟨by rw[EO,aw (by omega)];exact hn,.inl (by rw[nY,yB,aw (by omega),qw])⟩,?_⟩
 .rw[nY,yB]at h1;rw[EO]at h2;by_cases hi:i=H.br
  .rw[aP hi]at h1 h2;cases h1;cases h2;exact⟨o,q2.2,(hm q3).s6 cr⟩
  .rw[aw hi]at h1 h2;have⟨o1,h3,h4⟩:=l8.ey i dz e1 h1 h2;exact⟨o1,h3,h4.s6 cr⟩
 .rw[nY,yB]at h1 h3;rw[EO]at h2 h4;by_cases hi:i=H.br<;>by_cases en:i'=H.br
  .rw[hi,en]
  .rw[aP hi]at h1 h2;cases h1;cases h2;rw[aw en]at h3 h4;rw[qw]at h3;exact absurd hb.symm (q5 i' iz e2 h3 l2 h4)
  .rw[aP en]at h3 h4;cases h3;cases h4;rw[aw hi]at h1 h2;rw[qw]at h1;exact absurd hb (q5 i dz e1 h1 l1 h2)
  .rw[aw hi]at h1 h2;rw[aw en]at h3 h4;exact l8.jx i i' dz iz e1 e2 h1 l1 h2 h3 l2 h4 hb
 .rw[tO,yB];rw[EO]at h;by_cases hi:i=H.br
  .grind
  .rw[aw hi]at h;have:=hw.lt i e1 h;exact⟨this.1,this.2.1,by omega⟩
 .rw[nY,yB]at h;rw[tO,yB];by_cases hi:i=H.br
  .omega
  .rw[aw hi]at h;have:=l8.nx i dz h;rw[yB]at this;omega
 .have h:I.ro b=some o':=h;refine⟨(hw.ro b o' h).1,λid dz e1 h1 l1 h2=>?_⟩;rw[nY,yB]at h1;rw[EO]at h2;by_cases hi:id=H.br
  .grind
  .rw[aw hi]at h1 h2;rw[qw]at h1;exact(hw.ro b o' h).2 id dz e1 h1 l1 h2
 .rw[wa (Cd _ _)]at h;have⟨h1,cx⟩:=Z2 H n i h;have⟨e1,o1,r1,r2,r3,r4,r5⟩:=hw.wx.xo i dz h1;refine⟨e1,o1,r1,r2,r3,r4,λid iz e2 h2 l2 h3=>?_⟩;rw[nY,yB]at h2;rw[EO]at h3;by_cases hi:id=H.br
  .rw[aP hi]at h3;cases h3;exact λhb=>cx (hw.wx.xi i n dz ob e1 _ h1 ho r1 he hb.symm)
  .rw[aw hi]at h2 h3;rw[qw]at h2;exact r5 id iz e2 h2 l2 h3
 .rw[wa (Cd _ _)]at h1 h2;exact l8.wx.xi i i' dz iz e1 e2 h1 h2 h3 h4 hb
 .rw[Cd]at h;exact l8.wx.xl X h i e1 h1
 .refine⟨by rw[Cd];exact avh _ _ _,λ_ i e1 h=>h⟩
theorem WR.aaT(hw:WR I base H w){id ob e}(ho:H.aR id=some ob)(hl:ob.aQ=true)(he:I id=some e)(hm:∀{o},OR I ob e o->OR I.pu ob e o){nm H'}(hx:AH.S6 (H.cE id (.bg [])) ob=some (nm,H'))(m):
 ∃aK:bZ,aK.xs nm=some e/\WR aK base H' w/\cz m I H aK H':=by
 have l8:=hw.By (vs:=[]) ho;have zH:=cz.p_ (H:=H) (m:=m) he (.bg []);have nT:∀i dz e1,(H.cE id (.bg [])).aR i=some dz->dz.aQ=true->I i=some e1->e1.b≠e.b:=by
  intro i dz e1 h1 l1 h2 hb;rw[pV]at h1;by_cases hi:i=id
  .rw[aP hi]at h1;cases h1;cases l1
  .rw[aw hi]at h1;exact hi (hw.jx i id dz ob e1 e h1 l1 h2 ho hl he hb)
 have⟨o,q1,q2⟩:=hw.ey id ob e ho he;have q3:=(hw.lt id e he).2.1;have q4:I.ro e.b=none:=by
  cases hr:I.ro e.b with
  |none=>rfl
  |some o'=>exact absurd rfl ((hw.ro _ o' hr).2 id ob e ho hl he)
 have q5:∀n dz e1,H.gO n=some dz->I.xs n=some e1->e1.b≠e.b:=by intro n dz e1 h1 h2 hb;have⟨e2,o2,r1,r2,r3,r4,r5⟩:=hw.wx.xo n dz h1;rw[h2]at r1;cases r1;exact r5 id ob e ho hl he hb.symm
 have IS:∀n,(H.cE id (.bg [])).gO n=H.gO n:=wa (Au _ _ _);generalize H.cE id (.bg [])=H1 at l8 hx zH nT IS;have⟨h,k,x⟩:=H1;cases x with
 |none=>cases hx
 |some X=>
  cases hx;have jj:=λn e' h=>l8.wx.xl X rfl n e' h
  let aK:bZ:=⟨I.f,I.ro,λi=>if i=X.n then some e else I.xs i⟩
  have cx:∀{n e'},I.xs n=some e'->n≠X.n:=λh=>Nat.ne_of_lt (jj _ _ h)
  have cr:dp I aK:=⟨λ_ _ h=>h,λ_ _ h=>h,λn e' h=>by show(if n=X.n then some e else I.xs n)=_;rw[aw (cx h)];exact h⟩;have hg:∀n,(⟨h,k,some ⟨(X.set X.n (some ob)).g,X.n+1⟩⟩:AH).gO n=if n=X.n then some ob else H.gO n:=by intro n;show(bif Nat.beq n X.n then some ob else X.g n)=_;rw[Tr.xp,Tr.EM,<-IS n];rfl
  have Xv:∀n,aK.xs n=if n=X.n then some e else I.xs n:=λ_=>rfl
  have Mz:aK.xs X.n=some e:=by rw[Xv,aP rfl]
  refine⟨aK,Mz,⟨λi dz e1 h1 h2=>?_,l8.jx,l8.lt,l8.nx,⟨l8.wx.ro,λn dz h1=>?_,λn n' dz iz e1 e2 h1 h2 h3 h4 hb=>?_,λX' hX n e1 h1=>?_⟩⟩,zH.wq ⟨cr,ct _,λi _ hn=>⟨hn,.inl rfl⟩,⟨by simp,λh=>by cases h⟩⟩⟩
  .have⟨o1,h3,h4⟩:=l8.ey i dz e1 h1 h2;exact⟨o1,h3,h4.s6 cr⟩
  .rw[hg]at h1;by_cases hn:n=X.n
   .rw[aP hn]at h1;cases h1;subst hn;exact⟨e,o,Mz,⟨q3,q1⟩,(hm q2).s6 cr.pu,q4,nT⟩
   .rw[aw hn]at h1;have⟨e2,o2,r1,r2,r3,r4,r5⟩:=l8.wx.xo n dz ((IS n).trans h1);exact⟨e2,o2,cr.xs _ _ r1,r2,r3.s6 cr.pu,r4,r5⟩
  .rw[hg]at h1 h2;rw[Xv]at h3 h4;by_cases hn:n=X.n<;>by_cases Mx:n'=X.n
   .rw[hn,Mx]
   .grind
   .grind
   .rw[aw hn]at h1 h3;rw[aw Mx]at h2 h4;exact hw.wx.xi n n' dz iz e1 e2 h1 h2 h3 h4 hb
  .grind
theorem avj{H:AH}{n ob bu}(ho:H.gO n=some ob)(i):(H.oH n (some bu)).gO i=if i=n then some bu else H.gO i:=by
 have⟨a,k,x⟩:=H;cases x with
 |none=>cases ho
 |some X=>show(bif Nat.beq i n then some bu else X.g i)=_;rw[Tr.xp,Tr.EM];rfl
theorem WR.aOK(hw:WR I base H w){n ob bu e w'}(ho:H.gO n=some ob)(he:I.xs n=some e)(ca:w'.heap.size=w.heap.size)(FU:∀b,b≠e.b->w'.heap[b]? =w.heap[b]?)(Q4:∃o',w'.heap[e.b]? =some o'/\OR I.pu bu e o'):WR I base (H.oH n (some bu)) w':=by
 have⟨e',o,q1,q2,q3,q4,q5⟩:=hw.wx.xo n ob ho;rw[he]at q1;cases q1;refine⟨λi dz e1 h1 h2=>?_,λi i' dz iz e1 e2 h1 l1 h2 h3 l2 h4 hb=>hw.jx i i' dz iz e1 e2 (by rw[qw]at h1;exact h1) l1 h2 (by rw[qw]at h3;exact h3) l2 h4 hb,
  λi e1 h=>by rw[Ga,ca];exact hw.lt i e1 h,λi dz h=>by rw[qw]at h;rw[Ga];exact hw.nx i dz h,⟨λb o' h=>?_,λi dz h=>?_,λi i' dz iz e1 e2 h1 h2 h3 h4 hb=>?_,λX h i e1 h1=>?_⟩⟩
 .rw[qw]at h1;by_cases pM:dz.aQ=true
  .have⟨o1,h3,h4⟩:=hw.ey i dz e1 h1 h2
   grind
  .cases dz<;>simp[aO.aQ]at pM;have h5:=(hw.lt i e1 h2).1;refine⟨w'.heap[e1.b]'(by rw[ca];exact h5),by simp[ca,h5],trivial⟩
 .have⟨⟨k1,k2⟩,k3⟩:=hw.ro b o' h;have hb:b≠e.b:=by grind
  exact⟨⟨k1,(FU b hb).trans k2⟩,λid dz e1 h1=>k3 id dz e1 (by rw[qw]at h1;exact h1)⟩
 .rw[avj ho]at h;by_cases hi:i=n
  .rw[aP hi]at h;cases h;subst hi;have⟨o',r1,r2⟩:=Q4;exact⟨e,o',he,⟨q2.1,r1⟩,r2,q4,λid iz e2 h1=>q5 id iz e2 (by rw[qw]at h1;exact h1)⟩
  .rw[aw hi]at h;have⟨e1,o1,r1,r2,r3,r4,r5⟩:=hw.wx.xo i dz h;have hb:=λhb=>hi (hw.wx.xi i n dz ob e1 e h ho r1 he hb)
   exact⟨e1,o1,r1,⟨r2.1,(FU _ hb).trans r2.2⟩,r3,r4,λid iz e2 h1=>r5 id iz e2 (by rw[qw]at h1;exact h1)⟩
 .have an:∀{j aR},(H.oH n (some bu)).gO j=some aR->∃aES,H.gO j=some aES:=by
   intro j aR h;rw[avj ho]at h
   grind
  have⟨o1,g1⟩:=an h1;have⟨o2,g2⟩:=an h2;exact hw.wx.xi i i' o1 o2 e1 e2 g1 g2 h3 h4 hb
 .have⟨X0,h2,h3⟩:=avi h;rw[h3];exact hw.wx.xl X0 h2 i e1 h1
theorem cz.oH{m n o}:cz m I H I (H.oH n o):=
 ⟨dp.refl I,by rw[Ga];exact ct _,λi _ hn=>⟨hn,.inl (qw _ _ _ _)⟩,avh _ _ _,λ_ _ _ h=>h⟩
theorem cM.aEV(hw:WR I base H w){n ob e w'}(ho:H.gO n=some ob)(he:I.xs n=some e)(ca:w'.heap.size=w.heap.size)(FU:∀b,b≠e.b->w'.heap[b]? =w.heap[b]?)(hs:xZ w w':=by exact⟨rfl,rfl,rfl⟩):cM base w w':=by have⟨e',o,q1,q2,_⟩:=hw.wx.xo n ob ho;rw[he]at q1;cases q1;exact⟨by omega,λb hb=>FU b (λh=>q2.1 (h▸hb)),hs⟩
end
section
variable{P:Program}{I:bZ}{base:fM}{H:AH}{w:World}{O:Operand->Option AV}{ev:Operand->Value}
def eL(P:Program)(m:Nat)(base:fM)(I:bZ)(H:AH)(w:World)(s:Sem Next)(v:AV)(H':AH):Prop:=
 ∃(aK:bZ) (w':World) (v':Value),(s.run P w=.ok (.value v') w'\/(s.run P w=.ok .skip w'/\v'=undef))/\VR aK v v'/\WR aK base H' w'/\cz m I H aK H'/\cM base w w'
def ur(P:Program)(m:Nat)(base:fM)(I:bZ)(H:AH)(w:World)(s:Sem Next):jf->Prop
 |.gQ v H'=>eL P m base I H w s v H'
 |.rW f args=>∃args':Array Value,s.run P w=.ok (.enter f args') w/\bf I args args'.toList
 |.xR l args=>∃(e:PE) (args':Array Value),I l=some e/\s.run P w=(Instr.yield e.b args').run P w/\bf I args args'.toList
 |.zh d=>∃d',s.run P w=.ok (.defer d') w/\DR I d d'
 |.xQ v=>∃v',s.run P w=.halt (.panic v') w/\VR I v v'
 |.zi=>s.run P w=.ok .recover w
theorem NF(I):VR I .mK undef:=⟨#[],rfl,mq⟩
theorem atm(cur xs:List Value)(o off L)(h1:o+L<=cur.length)(h2:off+xs.length<=L):
 ((cur.take (o+off)++xs++cur.drop (o+off+xs.length)).drop o).take L=((cur.drop o).take L).take off++(xs++((cur.drop o).take L).drop (off+xs.length)):=by
 apply Y3;intro i;by_cases hL:i<L
 .rw[Ab hL,vR,jE];simp only[List.getElem?_append,rH,qeb];rw[show min (o+off) cur.length=o+off by omega,show min off (min L (cur.length-o))=off by omega];by_cases h3:i<off
  .rw[aP (by omega),aP h3,Ab (by omega),Ab h3,Ab hL,vR]
  .rw[aw (by omega),aw h3];rw[show o+i-(o+off)=i-off by omega];by_cases h4:i-off<xs.length
   .rw[aP h4,aP h4]
   .rw[aw h4,aw h4,vR,vR,Ab (by omega),vR];congr 1;omega
 .rw[Sf (by simp;omega),Sf (by simp;omega)]
theorem Jx(w:World)(g cs):(w.setRow g cs).heap.size=w.heap.size:=by simp
theorem Jw(w:World)(g cs){b}(h:b≠g):(w.setRow g cs).heap[b]? =w.heap[b]? :=by
 unfold World.setRow
 grind
theorem WR.ahs(hw:WR I base H w){E id off vs r cells el JN e ob bu}(ho:H.aR id=some ob)(nT:ob.aQ=true)(eW:∀o,OR I ob e o->OR E (.ah vs el) e o)(he:I id=some e)(hp:Aa vs off cells=some r)(hc:bf E cells JN)(h1:cells.all AV.dH=true)(yy:∀o,OR E (.ah r el) e o->OR I bu e o):
 ∃w',(storeCells ⟨e.b,e.o+off,none⟩ JN).run P w=.ok () w'/\WR I base (H.cE id bu) w'/\cM base w w':=by
 have⟨o,hg,wV⟩:=hw.ey id _ e ho he;obtain⟨cs,hJ,rfl,ca,cr,hv,ow⟩:=eW o wV;obtain⟨ao0,rfl⟩:=YY hp;have hl:=hc.je;have dP:=run_storeCells_at P e.b (e.o+off) hJ JN 0 cs w hg (by simp;omega) (AV.afM hc h1);simp only[Gu]at dP;refine⟨_,dP,?_,?_⟩
 .refine hw.put ho nT he (Jx _ _ _) (λb hb=>Jw _ _ _ hb) ⟨_,setRow_heap w e.b cs _ hJ _ hg,?_⟩;refine yy _ ⟨_,hJ,rfl,?_,?_,?_,?_⟩
  .simp;omega
  .simp;omega
  .have bB:(vs.take off++(cells++vs.drop (off+cells.length))).length=vs.length:=by simp;omega
   rw[bB];have:=atm cs.toList JN e.o off vs.length (by simp;omega) (by omega);rw[this];exact hv.put hc
  .simp only[sK,cT];refine⟨?_,h1,?_⟩
   .rw[oC]at ow⊢;exact λx hx=>ow x (Jp hx)
   .rw[oC]at ow⊢;exact λx hx=>ow x (Nj hx)
 .exact cM.RS hw he (Jx _ _ _) (λb hb=>Jw _ _ _ hb)
theorem WR.aOD(hw:WR I base H w){id off vs r cells el JN e ob}(ho:H.aR id=some ob)(nT:ob.aQ=true)(eW:∀o,OR I ob e o->OR I (.ah vs el) e o)(he:I id=some e)(hp:Aa vs off cells=some r)(hc:bf I cells JN)(h1:cells.all AV.dH=true):
 ∃w',(storeCells ⟨e.b,e.o+off,none⟩ JN).run P w=.ok () w'/\WR I base (H.cE id (.ah r el)) w'/\cM base w w':=
 hw.ahs ho nT eW he hp hc h1 (λ_ h=>h)
theorem aMZ(hw:WR I base H w){t id off v vv H' e}(h:Nu P H t id off v=some H')(he:I id=some e)(hv:VR I v vv):
 ∃w',(storeVar t ⟨e.b,e.o+off,none⟩ vv).run P w=.ok () w'/\WR I base H' w'/\cM base w w'/\∀m,cz m I H I H':=by
 unfold Nu at h;split at h;next vs el s ho hs=>
  have⟨hb,h⟩:=di h;simp only[cT]at hb;obtain⟨r,hr,rfl⟩:=vN h;have hc:=AV.vh hv;have bB:vv.cells.size=s:=by have h1:=hc.je;have h2:=dN hb.1;simp at h1;omega
  have⟨w',h1,h2,h3⟩:=hw.aOD (P:=P) ho rfl (λo h=>h) he hr hc hb.2;refine⟨w',?_,h2,h3,λm=>cz.p_ he _⟩;simp[storeVar,j6 hs w,bB,h1]
 next vs el s ho hs=>
  have⟨hb,hq⟩:=di h;simp only[cT]at hb;obtain⟨r,hr,rfl⟩:=vN hq;have hc:=AV.vh hv;have bB:vv.cells.size=s:=by have h1:=hc.je;have h2:=dN hb.1.1;simp at h1;omega
  have Dj:=bf.xU (E:=I.pu) _ _ (by rw[xu];exact hb.2) hc;have⟨w',h1,h2,h3⟩:=hw.ahs (P:=P) (el:=el) (bu:=.dE r el) ho rfl (λo h=>h) he hr Dj hb.1.2 (λo h=>h);refine⟨w',?_,h2,h3,λm=>cz.p_ he _⟩;simp[storeVar,j6 hs w,bB,h1]
 next vs el s ho hs=>
  have⟨hb,hq⟩:=di h;simp only[cT]at hb;obtain⟨r,hr,rfl⟩:=vN hq;have hc:=AV.vh hv;have bB:vv.cells.size=s:=by have h1:=hc.je;have h2:=dN hb.1.1;simp at h1;omega
  have Dj:=bf.xU (E:=I.pu) _ _ (by rw[xu];exact hb.2) hc;have⟨w',h1,h2,h3⟩:=hw.ahs (P:=P) (el:=el) (bu:=.au r el) ho rfl (λo h=>h) he hr Dj hb.1.2 (λo h=>h);refine⟨w',?_,h2,h3,λm=>cz.p_ he _⟩;simp[storeVar,j6 hs w,bB,h1]
 .cases h
theorem aM0(hw:WR I base H w){t n off v vv H' e}(h:SJ P H t n off v=some H')(he:I.xs n=some e)(hv:VR I v vv):
 ∃w',(storeVar t ⟨e.b,e.o+off,none⟩ vv).run P w=.ok () w'/\WR I base H' w'/\cM base w w'/\∀m,cz m I H I H':=by
 unfold SJ at h;split at h;next vs el s ho hs=>
  have⟨hb,h⟩:=di h;simp only[cT]at hb;obtain⟨r,hr,rfl⟩:=vN h;have hc:=AV.vh hv;have bB:vv.cells.size=s:=by have h1:=hc.je;have h2:=dN hb.1.1;simp at h1;omega
  have Dj:=bf.xU (E:=I.pu) _ _ (by rw[xu];exact hb.2) hc;have⟨cs,hJ,hg,ca,cr,jd,ow⟩:=hw.AX (show AX (H.gO n)=some vs by rw[ho];rfl) he;obtain⟨ao0,rfl⟩:=YY hr;have hl:=Dj.je;have dP:=run_storeCells_at P e.b (e.o+off) hJ vv.cells.toList 0 cs w hg (by simp at hl⊢;omega) (AV.afM Dj hb.1.2);simp only[Gu]at dP;refine⟨_,by simp only[storeVar,Sem.run_bind,j6 hs w,Result.andThen_ok,bB];rw[aw (λh=>h rfl)];exact dP,?_,cM.aEV hw ho he (Jx _ _ _) (λb hb=>Jw _ _ _ hb),λm=>cz.oH⟩;refine hw.aOK ho he (Jx _ _ _) (λb hb=>Jw _ _ _ hb) ⟨_,setRow_heap w e.b cs _ hJ _ hg,?_⟩;refine⟨_,hJ,rfl,?_,?_,?_,?_⟩
  .simp at hl⊢;omega
  .simp at hl⊢;omega
  .have bB:(vs.take off++(v.dO++vs.drop (off+v.dO.length))).length=vs.length:=by simp;omega
   rw[bB];have:=atm cs.toList vv.cells.toList e.o off vs.length (by simp;omega) (by omega);rw[this];exact jd.put Dj
  .simp only[sK,cT];rw[oC]at ow;refine⟨?_,hb.1.2,?_⟩
   .rw[oC];exact λx hx=>ow x (Jp hx)
   .rw[oC];exact λx hx=>ow x (Nj hx)
 .cases h
end
section
variable{P:Program}{I:bZ}{base:fM}{H:AH}{w:World}{O:Operand->Option AV}{ev:Operand->Value}
theorem anb{a b va vb}(h:Lz a b=true)(ha:VR I a va)(hb:VR I b vb)(n):va=vb/\Instr.sameBits n va vb=true:=by
 unfold Lz at h;split at h
 .simp at h;obtain⟨rfl,rfl⟩:=h;subst ha hb;exact⟨rfl,by cases n<;>simp[Instr.sameBits]⟩
 .rw[pB,DP]at h;subst h;obtain⟨x,rfl,h1⟩:=ha;obtain⟨y,rfl,h2⟩:=hb;have:=aha (h1.trans h2.symm);subst this;exact⟨rfl,by cases n<;>simp[Instr.sameBits,beq_toListBytes]⟩
 .simp at h;subst h;subst ha hb;exact⟨rfl,by cases n<;>simp[Instr.sameBits]⟩
 .cases h
theorem ane:∀{as bs va vb},Ie as bs=true->bf I as va->bf I bs vb->∀n,va=vb/\(va.zip vb).all (λp=>Instr.sameBits n p.1 p.2)=true
 |[],[],va,vb,_,ha,hb,n=>by simp only[bf]at ha hb;subst ha hb;simp
 |a::as,b::bs,va,vb,h,ha,hb,n=>by obtain⟨x,xs,rfl,h1,h2⟩:=ha;obtain⟨y,ys,rfl,h3,h4⟩:=hb;simp only[Ie,cT]at h;have⟨e1,e2⟩:=anb h.1 h1 h3 n;have⟨e3,e4⟩:=ane h.2 h2 h4 n;simp_all
 |[],_::_,_,_,h,_,_,_=>by simp[Ie]at h
 |_::_,[],_,_,h,_,_,_=>by simp[Ie]at h
theorem anc{a b va vb}(h:Ly a b=true)(ha:VR I a va)(hb:VR I b vb)(n):va=vb/\Instr.sameBits (n+1) va vb=true:=by
 unfold Ly at h;split at h
 .obtain⟨x,rfl,h1⟩:=ha;obtain⟨y,rfl,h2⟩:=hb;have⟨e,e2⟩:=ane h h1 h2 n;have:x=y:=by simp_all
  subst this;exact⟨rfl,by simp only[Instr.sameBits,beq_self_eq_true,pW];exact e2⟩
 .exact anb h ha hb (n+1)
theorem apV{old new}(h:Instr.sameBits 10000 old new=true)(w):(Instr.keyThatStays old new).run P w=.ok new w:=by unfold Instr.keyThatStays;rw[aP h];rfl
theorem dK.get:∀{es ms},dK I es ms->∀{i:Nat} {k v b},es[i]? =some (k,v,b)->∃m,ms[i]? =some m/\VR I k m.key/\VR I v m.val/\m.born=b
 |[],_,_,i,_,_,_,h=>by simp at h
 |(k,v,b)::es,_,he,i,k',v',b',h=>by
  obtain⟨m,ms,rfl,h1,h2,h3,h4⟩:=he;cases i with
  |zero=>grind
  |succ i=>simp at h⊢;exact dK.get h4 h
theorem dK.Hq{f g}:∀{es ms},dK I es ms->∀{i},
 (∀k v b m,es[i]? =some (k,v,b)->ms[i]? =some m->VR I k m.key->VR I v m.val->m.born=b->VR I (f (k,v,b)).1 (g m).key/\VR I (f (k,v,b)).2.1 (g m).val/\(g m).born=(f (k,v,b)).2.2)->
 dK I (qF es i f) (ms.modify i g)
 |[],_,he,i,_=>by simp only[dK]at he;subst he;simp[qF,dK]
 |(k,v,b)::es,_,he,i,h=>by
  obtain⟨m,ms,rfl,h1,h2,h3,h4⟩:=he;cases i with
  |zero=>have⟨e1,e2,e3⟩:=h k v b m rfl rfl h1 h2 h3;simp;exact⟨g m,ms,rfl,e1,e2,e3,h4⟩
  |succ i=>simp;exact⟨m,_,rfl,h1,h2,h3,dK.Hq h4 (λk v b m a1 a2=>h k v b m (by simpa using a1) (by simpa using a2))⟩
theorem dK.OG:∀{es bF ms Yk},dK I es ms->dK I bF Yk->dK I (es++bF) (ms++Yk)
 |[],_,_,_,he,h'=>by simp only[dK]at he;subst he;simpa using h'
 |(k,v,b)::es,_,_,_,he,h'=>by obtain⟨m,ms,rfl,h1,h2,h3,h4⟩:=he;exact⟨m,_,rfl,h1,h2,h3,dK.OG h4 h'⟩
theorem dK.aaQ:∀{es ms},dK I es ms->∀i,dK I (C' es i) (ms.eraseIdx i)
 |[],_,he,i=>by simp only[dK]at he;subst he;simp[C',dK]
 |(k,v,b)::es,_,he,i=>by
  obtain⟨m,ms,rfl,h1,h2,h3,h4⟩:=he;cases i with
  |zero=>simpa[C']using h4
  |succ i=>simp;exact⟨m,_,rfl,h1,h2,h3,dK.aaQ h4 i⟩
theorem dK.anv:∀{es ms},dK I es ms->∀(b:Nat),ms.findIdx? (λe=>(e.born:Int)==(b:Int))=es.findIdx? (λe=>Nat.beq e.2.2 b)
 |[],_,he,b=>by simp only[dK]at he;subst he;simp
 |(k,v,b')::es,_,he,b=>by
  obtain⟨m,ms,rfl,h1,h2,h3,h4⟩:=he;simp only[List.findIdx?_cons];have e1:((m.born:Int)==(b:Int))=Nat.beq b' b:=by rw[Tr.xp,h3,sL];simp;omega
  rw[e1,dK.anv h4 b]
theorem aCo{r o o'}(hb:w.heap[r]? =some o):(w.heap.setIfInBounds r o')[r]? =some o'/\∀r',r'≠r->(w.heap.setIfInBounds r o')[r']? =w.heap[r']? :=by
 grind
theorem WR.Ea(hw:WR I base H w){id ob bu e o o'}(ho:H.aR id=some ob)(hl:ob.aQ=true)(he:I id=some e)(hg:w.heap[e.b]? =some o)(hc:o.isCells=false)(wV:OR I bu e o'):
 ∃w',(setObj e.b o').run P w=.ok () w'/\WR I base (H.cE id bu) w'/\cM base w w':=by
 have hs:=aCo (o':=o') hg;refine⟨_,atr hg hc,hw.put ho hl he (by simp) (λb hb=>hs.2 b hb) ⟨o',hs.1,wV⟩,cM.RS hw he (by simp) (λb hb=>hs.2 b hb)⟩
theorem af2{kt k}(hp:uI P kt k=true):∃d,P.underlying kt=some d:=by
 cases hkt:P.underlying kt with
 |none=>simp[uI,hkt]at hp
 |some d=>exact⟨d,rfl⟩
theorem V7{p k v vk vv}(h:yi p k v=true)(hk:VR I k vk)(hv:VR I v vv)(hp:p=true):VR I.pu k vk/\VR I.pu v vv:=by subst hp;simp only[yi,cond_true,cT]at h;exact⟨VR.EB k vk h.1 hk,VR.EB v vv h.2 hv⟩
theorem aqS(hw:WR I base H w){t m k v vm vk vv H'}(h:MT P H t m k v=some H')(hm:VR I m vm)(hk:VR I k vk)(hv:VR I v vv):
 ∃w',(Instr.mapUpdate t vm vk vv).run P w=.ok () w'/\WR I base H' w'/\cM base w w'/\∀m,cz m I H I H':=by
 unfold MT at h;split at h;next kt elem id hu=>
  split at h;next es clock p ho=>
   obtain⟨e,he,rfl⟩:=hm;obtain⟨o,hg,bF,rfl,jM,Dw⟩:=hw.ey id _ e ho he;have⟨hpf,h⟩:=di h;simp at hpf;have⟨hp,kV⟩:=hpf;have kV:=V7 kV hk hv;have⟨d,hd⟩:=af2 hp;have rq:=Vi hp hk false 9998 w;split at h;next i x b hf=>
    have⟨IM,h⟩:=di h;cases h;have⟨r',h1,h2⟩:=Fo hd hk jM hf w;obtain⟨me,k0,rfl,e3,e4,e5,e6⟩:=h2.at;have e4':bF[i]? =some me:=by simpa using e4
    have FW:vk=me.key/\Instr.sameBits 10000 me.key vk=true:=by unfold Aj at IM;rw[e3]at IM;have⟨m',a1,a2,_,_⟩:=jM.get e3;rw[e4]at a1;cases a1;have:=anc IM a2 hk 9999;exact⟨this.1.symm,this.2⟩
    have⟨w',b1,b2,b3⟩:=hw.Ea (P:=P) (bu:=.bI (qF es i λe=>(k,v,e.2.2)) clock p) (o':=.map (bF.modify i λe=>{e with key:=vk,val:=vv}) clock) ho rfl he hg rfl
     ⟨_,rfl,by rw[Array.toList_modify];exact⟨jM.Hq (λk v b m _ _ _ _ hb=>⟨hk,hv,hb⟩),λhp=>(Dw hp).Hq (λk v b m _ _ _ _ hb=>⟨(kV hp).1,(kV hp).2,hb⟩)⟩⟩
    refine⟨w',?_,b2,b3,λm=>cz.p_ he _⟩;simp only[Instr.mapUpdate,Sem.run_bind,run_underlying hu w,Result.andThen_ok,so hg rfl,rq,h1,e4',uL,Y0,apV FW.2,b1]
   next hf=>
    cases h;have⟨r',h1,h2⟩:=Fo hd hk jM hf w;subst h2;have⟨w',b1,b2,b3⟩:=hw.Ea (P:=P) (bu:=.bI (es++[(k,v,clock)]) (clock+1) p) (o':=.map (bF.push {key:=vk,val:=vv,born:=clock}) (clock+1)) ho rfl he hg rfl
     ⟨_,rfl,by rw[Array.toList_push];exact⟨jM.OG ⟨_,[],rfl,hk,hv,rfl,by simp[dK]⟩,λhp=>(Dw hp).OG ⟨_,[],rfl,(kV hp).1,(kV hp).2,rfl,by simp[dK]⟩⟩⟩
    refine⟨w',?_,b2,b3,λm=>cz.p_ he _⟩;simp only[Instr.mapUpdate,Sem.run_bind,run_underlying hu w,Result.andThen_ok,so hg rfl,rq,h1,b1]
   .cases h
  .cases h
 .cases h
end
section
variable{P:Program}{I:bZ}{base:fM}{m:Nat}{H:AH}{w:World}{O:Operand->Option AV}{ev:Operand->Value}
theorem eL.of{s v H' aK w' v'}(h:s.run P w=.ok v' w')(hv:VR aK v v')(hw:WR aK base H' w')(he:cz m I H aK H')(hk:cM base w w'):
 eL P m base I H w (do pure (.value (<-s)):Sem Next) v H':=⟨aK,w',v',.inl (LF h),hv,hw,he,hk⟩
theorem eL.OL{s H' aK w'}(h:s.run P w=.ok () w')(hw:WR aK base H' w')(he:cz m I H aK H')(hk:cM base w w'):
 eL P m base I H w (do s;pure .skip:Sem Next) .mK H':=⟨aK,w',undef,.inr ⟨by simp[h],rfl⟩,NF _,hw,he,hk⟩
theorem afT{a b x y}(ha:VR I a x)(hb:VR I b y):VR I (.aL [a,b]) (.tuple #[x,y]):=⟨_,rfl,r_.2 ⟨ha,pt hb⟩⟩
theorem ahd{a b c x y z}(ha:VR I a x)(hb:VR I b y)(hc:VR I c z):VR I (.aL [a,b,c]) (.tuple #[x,y,z]):=⟨_,rfl,r_.2 ⟨ha,r_.2 ⟨hb,pt hc⟩⟩⟩
theorem aAC(hw:WR I base H w){t kt elem id key vk e aD}(hu:P.underlying t=some (.map kt elem))(h:VV P H kt elem id key=some aD)(he:I id=some e)(hk:VR I key vk):
 ∃v H',aD=.gQ v H'/\eL P m base I H w (do pure (.value (<-Instr.mapEntry t (.map (some e.b)) vk)):Sem Next) v H':=by
 unfold VV at h;split at h;next es clock p ho=>
  obtain⟨o,hg,bF,rfl,jM,Dw⟩:=hw.ey id _ e ho he;have⟨hp,h⟩:=di h;have⟨d,hd⟩:=af2 hp;have rq:=Vi hp hk false 9998 w;split at h;next i x b hf=>
   have⟨apd,h⟩:=di h;simp at apd;have⟨IM,kV⟩:=apd;have kV:=V7 (vv:=.pointer none) kV hk (by simp[VR]);cases h;have⟨r',h1,h2⟩:=Fo hd hk jM hf w;obtain⟨me,k0,rfl,e3,e4,e5,e6⟩:=h2.at;have e4':bF[i]? =some me:=by simpa using e4
   have FW:vk=me.key/\Instr.sameBits 10000 me.key vk=true:=by unfold Aj at IM;rw[e3]at IM;have⟨m',a1,a2,_,_⟩:=jM.get e3;rw[e4]at a1;cases a1;have:=anc IM a2 hk 9999;exact⟨this.1.symm,this.2⟩
   have⟨w',b1,b2,b3⟩:=hw.Ea (P:=P) (bu:=.bI (qF es i λe=>(key,e.2)) clock p) (o':=.map (bF.modify i λe=>{e with key:=vk}) clock) ho rfl he hg rfl
    ⟨_,rfl,by rw[Array.toList_modify];exact⟨jM.Hq (λk v b m _ _ _ hv hb=>⟨hk,hv,hb⟩),λhp=>(Dw hp).Hq (λk v b m _ _ _ hv hb=>⟨(kV hp).1,hv,hb⟩)⟩⟩
   refine⟨_,_,rfl,eL.of (v':=.tuple #[me.val,goInt me.born]) ?_ (afT (afB e5) (by rw[e6];exact Im b)) b2 (cz.p_ he _) b3⟩;simp only[Instr.mapEntry,Sem.run_bind,run_underlying hu w,Result.andThen_ok,so hg rfl,rq,h1,e4',uL,Y0,apV FW.2,b1,Sem.run_pure]
  next hf=>
   split at h;next z hz=>
    have⟨kV,h⟩:=di h;cases h;have⟨vz,Ri,hz2⟩:=Ch (I:=I) hz;have kV:=V7 kV hk Ri;have⟨r',h1,h2⟩:=Fo hd hk jM hf w;subst h2;have⟨w',b1,b2,b3⟩:=hw.Ea (P:=P) (bu:=.bI (es++[(key,z,clock)]) (clock+1) p) (o':=.map (bF.push {key:=vk,val:=vz,born:=clock}) (clock+1)) ho rfl he hg rfl
     ⟨_,rfl,by rw[Array.toList_push];exact⟨jM.OG ⟨_,[],rfl,hk,Ri,rfl,by simp[dK]⟩,λhp=>(Dw hp).OG ⟨_,[],rfl,(kV hp).1,(kV hp).2,rfl,by simp[dK]⟩⟩⟩
    refine⟨_,_,rfl,eL.of ?_ (afT (afB Ri) (Im clock)) b2 (cz.p_ he _) b3⟩;simp only[Instr.mapEntry,Sem.run_bind,run_underlying hu w,Result.andThen_ok,so hg rfl,rq,h1,hz2 w,b1,Sem.run_pure]
   .cases h
  .cases h
 .cases h
theorem aAD(hw:WR I base H w){t id born k v vv e aD}(h:VX H id born v=some aD)(he:I id=some e)(hv:VR I v vv):
 ∃H',aD=.gQ .mK H'/\eL P m base I H w (do Instr.entryStore t (.map (some e.b)) (.int k (born:Int)) vv;pure .skip:Sem Next) .mK H':=by
 unfold VX at h;split at h;next es clock p ho=>
  obtain⟨o,hg,bF,rfl,jM,Dw⟩:=hw.ey id _ e ho he;split at h;next i hi=>
   have⟨kV,h⟩:=di h;have kV:=V7 (vk:=.pointer none) kV (by simp[VR]) hv;cases h;have hf:=jM.anv born;rw[hi]at hf;have W5:bF.findIdx? (λe=>(e.born:Int)==(born:Int))=some i:=by cases bF;simpa using hf
   have⟨w',b1,b2,b3⟩:=hw.Ea (P:=P) (bu:=.bI (qF es i λe=>(e.1,v,e.2.2)) clock p) (o':=.map (bF.modify i λe=>{e with val:=vv}) clock) ho rfl he hg rfl
    ⟨_,rfl,by rw[Array.toList_modify];exact⟨jM.Hq (λk v b m _ _ hk _ hb=>⟨hk,hv,hb⟩),λhp=>(Dw hp).Hq (λk v b m _ _ hk _ hb=>⟨hk,(kV hp).2,hb⟩)⟩⟩
   refine⟨_,rfl,eL.OL ?_ b2 (cz.p_ he _) b3⟩;simp only[Instr.entryStore,Sem.run_bind,so hg rfl,Result.andThen_ok,asInt,asIntOf,Sem.run_pure,W5,b1]
  .cases h
 .cases h
theorem WR.BD(hw:WR I base H w)(hb:gY base w){ob o' n}(wV:∀E b,dp I E->OR E ob ⟨b,0,n⟩ o')(hm:m<=H.br):
 WR (jU I H.br ⟨w.heap.size,0,n⟩) base (H.eH ob) (w.alloc o')/\cz m I H (jU I H.br ⟨w.heap.size,0,n⟩) (H.eH ob)/\cM base w (w.alloc o'):=by
 have hf:=hw.Bd (ct H.br);refine⟨(hw.new ob).alf hf (by simp) hb wV,?_,cM.aaS hb o'⟩;refine⟨PD hf,by rw[tO];omega,λid hi hn=>⟨?_,.inl (by rw[nY,aw (by omega)])⟩,.of (Cd _ _) rfl⟩;simp only[jU]
 grind
theorem aeC(n):VR (jU I H.br ⟨w.heap.size,0,n⟩) (.aa H.br 0) (.pointer (some ⟨w.heap.size,0,none⟩)):=by exact⟨_,nN _ _ _,rfl⟩
theorem aB0(hw:WR I base H w)(hb:gY base w)(hm:m<=H.br){t x aD}(hr:∀a,O x=some a->VR I a (ev x))(h:WN P O H t x=some aD):
 ∃v H',aD=.gQ v H'/\eL P m base I H w (do pure (.value (<-Instr.range t (ev x))):Sem Next) v H':=by
 unfold WN at h;split at h;next s hu hx=>cases h;obtain⟨b,hv,rfl⟩:=hr _ hx;have⟨h1,h2,h3⟩:=hw.BD hb (ob:=.vZ (fg b) 0) (n:=0) (λE b' _=>⟨b,rfl,rfl,rfl⟩) hm;refine⟨_,_,rfl,eL.of ?_ (aeC _) h1 h2 h3⟩;simp[Instr.range,run_underlying hu w,hv]
 next kt el hu hx=>cases h;have hv:=hr _ hx;simp only[VR]at hv;have⟨h1,h2,h3⟩:=hw.BD hb (ob:=.iZ none 0 [] 0) (n:=0) (λE b' _=>⟨none,rfl,rfl,rfl⟩) hm;refine⟨_,_,rfl,eL.of ?_ (aeC _) h1 h2 h3⟩;simp[Instr.range,run_underlying hu w,hv]
 next kt el id hu hx=>
  have⟨e,he,hv⟩:=hr _ hx;unfold asq at h;split at h;next es clock p ho=>cases h;obtain⟨o,hg,bF,rfl,jM,_⟩:=hw.ey id _ e ho he;have⟨h1,h2,h3⟩:=hw.BD hb (ob:=.iZ (some id) clock [] clock) (n:=0) (λE b' cr=>⟨some e.b,rfl,rfl,e,cr _ _ he,rfl⟩) hm;refine⟨_,_,rfl,eL.of ?_ (aeC _) h1 h2 h3⟩;simp[Instr.range,run_underlying hu w,hv,so hg rfl]
  .cases h
 .cases h
theorem azC(hw:WR I base H w){ts T id key vk e aD vs}(h:Li P H ts id key=some aD)(he:I id=some e)(hk:VR I key vk)(hv:vs.toList=[.map (some e.b),vk]):
 ∃v H',aD=.gQ v H'/\eL P m base I H w (do pure (.value (<-Builtin.delete_ ts T vs)):Sem Next) v H':=by
 have v0:vs[0]? =some (.map (some e.b)):=by rw[<-yU,hv];rfl
 have v1:vs[1]? =some vk:=by rw[<-yU,hv];rfl
 unfold Li at h;split at h;next kt el es clock p hu ho=>
  obtain⟨o,hg,bF,rfl,jM,Dw⟩:=hw.ey id _ e ho he;have⟨hp,h⟩:=di h;have⟨d,hd⟩:=af2 hp;have rq:=Vi hp hk bF.isEmpty 9998 w;cases ht:ts[0]? with
  |none=>simp[ht]at hu
  |some t=>
   simp only[ht,sH]at hu;split at h;next i x b hf=>
    cases h;have⟨r',h1,h2⟩:=Fo hd hk jM hf w;obtain⟨me,k0,rfl,e3,e4,e5,e6⟩:=h2.at;have⟨w',b1,b2,b3⟩:=hw.Ea (P:=P) (bu:=.bI (C' es i) clock p) (o':=.map (bF.eraseIdxIfInBounds i) clock) ho rfl he hg rfl
     ⟨_,rfl,by
       have:(bF.eraseIdxIfInBounds i).toList=bF.toList.eraseIdx i:=by simp
       rw[this];exact⟨jM.aaQ i,λhp=>(Dw hp).aaQ i⟩⟩
    refine⟨_,_,rfl,eL.of (v':=.tuple #[]) ?_ (NF _) b2 (cz.p_ he _) b3⟩;simp only[Builtin.delete_,ht,v0,v1,Sem.run_bind,run_underlying hu w,Result.andThen_ok,so hg rfl,rq,h1,b1,Sem.run_pure]
   next hf=>
    cases h;have⟨r',h1,h2⟩:=Fo hd hk jM hf w;subst h2;have FW:w.heap.setIfInBounds e.b (.map bF clock)=w.heap:=by
     grind
    refine⟨_,_,rfl,eL.of (w':={w with heap:=w.heap.setIfInBounds e.b (.map bF clock)}) (v':=.tuple #[]) ?_ (NF _) (hw.sM FW) (cz.ka _ _ _) (cM.sM FW)⟩;simp only[Builtin.delete_,ht,v0,v1,Sem.run_bind,run_underlying hu w,Result.andThen_ok,so hg rfl,rq,h1,atr hg rfl,Sem.run_pure]
   .cases h
 .cases h
end
section
variable{P:Program}{I:bZ}{base:fM}{m:Nat}{H:AH}{w:World}{O:Operand->Option AV}{ev:Operand->Value}
theorem dK.aaR(q:Nat->Bool):∀{es ms},dK I es ms->dK I (es.filter λe=>q e.2.2) (ms.filter λx=>q x.born)
 |[],_,h=>by simp only[dK]at h;subst h;simp[dK]
 |(k,v,b)::es,_,h=>by
  obtain⟨x,ms,rfl,h1,h2,h3,h4⟩:=h;have ih:=dK.aaR q h4;by_cases hq:q b=true
  .rw[List.filter_cons_of_pos (by simpa using hq),List.filter_cons_of_pos (by simpa[h3]using hq)];exact⟨x,_,rfl,h1,h2,h3,ih⟩
  .grind
theorem dK.all(q:Nat->Bool):∀{es ms},dK I es ms->ms.all (λx=>q x.born)=es.all (λe=>q e.2.2)
 |[],_,h=>by simp only[dK]at h;subst h;simp
 |(k,v,b)::es,_,h=>by obtain⟨x,ms,rfl,h1,h2,h3,h4⟩:=h;simp only[List.all_cons,dK.all q h4,h3]
theorem arb{it T}(h:(Instr.next it false T).run P w=.ok (.tuple #[.bool false]) w)(hw:WR I base H w):eL P m base I H w (do pure (.value (<-Instr.next it false T)):Sem Next) (.aL [.ai false]) H:=
 eL.of h ⟨_,rfl,pt (by simp[VR])⟩ hw (cz.ka _ _ _) (cM.kP _ _)
theorem atl(seen:LN)(b):seen.toArray.contains b=seen.any (Nat.beq b):=by rw[sL];simp_all
theorem aEM(hw:WR I base H w){r mm since last clock seen es er em aD T}(h:MY H r mm since seen last es clock=some aD)(hr:H.aR r=some (.iZ (some mm) since seen last))(pJ:I r=some er){p}(ho:H.aR mm=some (.bI es clock p))(wT:I mm=some em):
 ∃v H',aD=.gQ v H'/\eL P m base I H w (do pure (.value (<-Instr.next (.pointer (some ⟨er.b,0,none⟩)) false T)):Sem Next) v H':=by
 obtain⟨o,hg,m',rfl,adZ,zL⟩:=hw.ey r _ er hr pJ;obtain⟨e',kU,rfl⟩:=zL;rw[wT]at kU;cases kU;obtain⟨o2,tz,bF,rfl,jM,-⟩:=hw.ey mm _ em ho wT;have h1:=so (P:=P) hg rfl;have h2:=so (P:=P) tz rfl;unfold MY at h;cases hc:(!seen.isEmpty&& !es.isEmpty&&es.all (λe=>Nat.ble last e.2.2));case true=>rw[hc]at h;cases h
 rw[hc]at h;simp at h;have zD:(!seen.toArray.isEmpty&& !bF.isEmpty&&bF.all (λx=>decide (x.born>=last)))=false:=by
  have e1:seen.toArray.isEmpty=seen.isEmpty:=by cases seen<;>rfl
  have e2:bF.isEmpty=es.isEmpty:=by have:=jM.OH;cases es<;>cases bF<;>rename_i l<;>cases l<;>simp at this⊢
  have e3:bF.all (λx=>decide (x.born>=last))=es.all (λe=>Nat.ble last e.2.2):=by rw[<-jM.all (λb=>Nat.ble last b),<-Array.all_toList];congr 1;funext x;rw[sL];simp
  rw[e1,e2,e3];exact hc
 have zJ:dK I (es.filter λe=> !seen.any (Nat.beq e.2.2)) (bF.filter λe=> !seen.toArray.contains e.born).toList:=by
  have:=jM.aaR (λb=> !seen.any (Nat.beq b));rw[Array.toList_filter];have e:(λ(e:MapEntry)=> !seen.toArray.contains e.born)=(λx=>(λb=> !seen.any (Nat.beq b)) x.born):=by simp only[atl]
  rw[e];exact this
 generalize es.filter (λe=> !seen.any (Nat.beq e.2.2))=left at h zJ;generalize hL:bF.filter (λe=> !seen.toArray.contains e.born)=l_ at zJ;split at h
 .simp only[RZ]at h;cases h;simp only[dK]at zJ;have qm:l_= #[]:=by cases l_;simpa using zJ
  subst qm;refine⟨_,_,rfl,arb ?_ hw⟩;have hf:(Question.mapNext 1).forced=true:=rfl;simp only[Instr.next,Sem.run_bind,h1,Result.andThen_ok,h2,zD,hL];simp[hf]
 next e=>
  have⟨hb,h⟩:=di h;cases h;have⟨k,v,b⟩:=e;obtain⟨x,ms,hx,a1,a2,a3,rfl⟩:=zJ;have pM:l_= #[x]:=by cases l_;simpa using hx
  subst pM;have ae:b<since:=by have:=qA hb;simp at this;omega
  have⟨w',b1,b2,b3⟩:=hw.Ea (P:=P) (bu:=.iZ (some mm) since (seen++[b]) clock) hr rfl pJ hg rfl
   ⟨some em.b,rfl,adZ,em,wT,rfl⟩
  refine⟨_,_,rfl,eL.of (v':=.tuple #[.bool true,x.key,x.val]) ?_ (ahd (by simp[VR]) a1 a2) b2 (cz.p_ pJ _) b3⟩;have hf:(Question.mapNext 1).forced=true:=rfl;have hxb:x.born<since:=by rw[a3];exact ae
  have o1:(#[x]:Array MapEntry).filter (λe=>decide (e.born<since))= #[x]:=by simp[hxb]
  have o2:(#[x]:Array MapEntry).filter (λe=>decide (e.born>=since))= #[]:=by simp;omega
  simp only[Instr.next,Sem.run_bind,h1,Result.andThen_ok,h2,zD,hL,o1,o2];simp[hf];rw[a3,b1];rfl
 .cases h
theorem aBX(hw:WR I base H w){it zR aD T}(hr:∀a,O it=some a->VR I a (ev it))(h:L9 O H it zR=some aD):
 ∃v H',aD=.gQ v H'/\eL P m base I H w (do pure (.value (<-Instr.next (ev it) zR T)):Sem Next) v H':=by
 unfold L9 at h;split at h;next r hx=>
  have⟨e,he,hv⟩:=hr _ hx;unfold afu at h;split at h;next s pos ho=>
   obtain⟨o,hg,b,rfl,rfl,h0⟩:=hw.ey r _ e ho he;have h1:=so (P:=P) hg rfl;rw[h0]at hv;unfold ara at h;split at h;next hn=>
    cases h;have ae:¬pos<b.size:=by intro ae;rw[List.getElem?_eq_none_iff,BW]at hn;omega
    refine⟨_,_,rfl,eL.of (v':=.tuple #[.bool false]) ?_ ⟨_,rfl,pt (by simp[VR])⟩ hw (cz.ka _ _ _) (cM.kP _ _)⟩;simp[Instr.next,hv,h1,ae]
   next c hc=>
    have⟨hb,h⟩:=di h;cases h;have ae:pos<b.size:=by
     rcases qer pos b.size with h|h
     .exact h
     .rw[Sf (by rw[BW];exact h)]at hc;cases hc
    have hcb:(b[pos]'ae).toNat=c:=by
     simp only[fg,sJ]at hc;have hl:pos<b.data.toList.length:=by simpa using ae
     rw[gg hl]at hc;simp at hc;exact hc
    have hd:=decode_ascii b pos ae (by have:=qA hb;omega);have⟨w',b1,b2,b3⟩:=hw.Ea (P:=P) (bu:=.vZ (fg b) (pos+1)) ho rfl he hg rfl ⟨b,rfl,rfl,h0⟩;refine⟨_,_,rfl,eL.of (v':=.tuple #[.bool true,goInt pos,.int .i32 c]) ?_ (ahd (by simp[VR]) (Im pos) (by simp[VR])) b2 (cz.p_ he _) b3⟩;rw[hcb]at hd;simp[Instr.next,hv,h1,ae,hd,b1]
  next since seen last ho=>obtain⟨o,hg,m',rfl,h0,rfl⟩:=hw.ey r _ e ho he;have h1:=so (P:=P) hg rfl;rw[h0]at hv;cases h;refine⟨_,_,rfl,?_⟩;rw[hv];exact arb (by simp[Instr.next,h1]) hw
  next mm since seen last ho=>
   split at h;next es clock p ho2=>obtain⟨o,hg,m',rfl,h0,em,wT,_⟩:=hw.ey r _ e ho he;rw[hv,h0];exact aEM hw h ho he ho2 wT
   .cases h
  .cases h
 .cases h
theorem aBT(hw:WR I base H w){it aD}(hr:∀a,O it=some a->VR I a (ev it))(h:Di O H it=some aD):
 ∃v H',aD=.gQ v H'/\eL P m base I H w (do pure (.value (<-Instr.entry (ev it))):Sem Next) v H':=by
 unfold Di at h;split at h;next r hx=>
  have⟨e,he,hv⟩:=hr _ hx;split at h;next mm since seen GM ho=>
   obtain⟨o,hg,m',rfl,h0,em,wT,rfl⟩:=hw.ey r _ e ho he;rw[h0]at hv;have h1:=so (P:=P) hg rfl;unfold VW at h;split at h;next GJ es clock p hs ho2=>
    obtain⟨o2,tz,bF,rfl,jM,-⟩:=hw.ey mm _ em ho2 wT;have h2:=so (P:=P) tz rfl;have⟨hb,h⟩:=di h;have hc:=dN hb;split at h;next x hx=>
     cases h;have key:∀{es:List (AV×AV×Nat)} {ms:List MapEntry},dK I es ms->es.find? (λe=>Nat.beq e.2.2 GJ)=some x->∃y,ms.find? (λy=>y.born==GJ)=some y/\VR I x.1 y.key/\VR I x.2.1 y.val:=by
      intro es;induction es with
      |nil=>intro ms _ h;simp at h
      |cons p es ih=>
       have⟨k,v,b⟩:=p;intro ms jM h;obtain⟨y,ms,rfl,a1,a2,a3,a4⟩:=jM;rw[List.find?_cons]at h;cases hq:Nat.beq b GJ
       .rw[hq]at h;have⟨z,b1,b2⟩:=ih a4 h;refine⟨z,?_,b2⟩;rw[List.find?_cons];have:(y.born==GJ)=false:=by rw[a3];rw[Tr.xp]at hq;simpa using hq
        rw[this];exact b1
       .rw[hq]at h;cases h;simp_all
     have⟨y,b1,b2,b3⟩:=key jM hx;have b1':bF.find? (λy=>y.born==GJ)=some y:=by cases bF;simpa using b1
     refine⟨_,_,rfl,eL.of ?_ (afT b2 b3) hw (cz.ka _ _ _) (cM.kP _ _)⟩;have Dy:seen.toArray.back? =some GJ:=by simpa using hs
     subst hc;simp[Instr.entry,hv,h1,Dy,h2,b1']
    .cases h
   .cases h
  .cases h
 .cases h
end
section
variable{P:Program}{I:bZ}{base:fM}{m:Nat}{H:AH}{w:World}{O:Operand->Option AV}{ev:Operand->Value}
theorem aog(Yp):∀r c,Builtin.growBy Yp r c<=max c (Yp+(Yp+768)/ 4)
 |0,c=>by simp[Builtin.growBy];omega
 |r+1,c=>by
  simp only[Builtin.growBy];split
  .omega
  .have:=aog Yp r (c+(c+768)/ 4);omega
theorem aEN{Yo c}(h:c<Yo):Builtin.nextslicecap Yo c<=2*Yo+192:=by
 unfold Builtin.nextslicecap;split
 .omega
 .split
  .omega
  .have:=aog Yo 4 c;omega
def MI:TypeDesc->Bool
 |.int _=>true
 |_=>false
def AO(P:Program)(I:bZ)(w:World)(argTypes:Array TypeId)(elem:TypeId)(sz n:Nat)(l:LV)(x:Value):Prop:=
 ∃xt d,∃cs:Array Value,argTypes[1]? =some xt/\P.underlying xt=some d/\bf I l cs.toList/\l.length=n*sz/\
  ((MI d=false/\(∀w,(Builtin.lenOf x).run P w=.ok n w)/\(∀w',w'.heap=w.heap->(Builtin.firstCells sz n x).run P w'=.ok cs w'))\/
   (MI d=true/\x=.int .i64 (n:Int)/\n<=4194304/\∀w',(if n*sz=0 then pure #[]else do pure (Builtin.zeroCells (<-zeroValue elem).cells n):Sem (Array Value)).run P w'=.ok cs w'))
theorem az3(hw:WR I base H w){sz n l x vx}(h:zt H sz x=some (n,l))(hx:VR I x vx):
 ∃cs:Array Value,bf I l cs.toList/\l.length=n*sz/\(∀w,(Builtin.lenOf vx).run P w=.ok n w)/\(∀w',w'.heap=w.heap->(Builtin.firstCells sz n vx).run P w'=.ok cs w'):=by
 unfold zt at h;split at h
 .cases h;simp only[VR]at hx;subst hx;exact⟨#[],mq,by simp,λw=>by simp[Builtin.lenOf],λw' _=>by simp[Builtin.firstCells]⟩
 .cases h;obtain⟨a,rfl⟩:=hx;exact⟨#[],mq,by simp,λw=>by simp[Builtin.lenOf],λw' _=>by cases a<;>simp[Builtin.firstCells,loadCells,loadCellsFrom]⟩
 next id len s=>
  obtain⟨hb,hq⟩:=di h;clear h;have hs:=dN hb;subst hs;clear hb;split at hq
  .cases hq;rcases hx with⟨_,rfl⟩|⟨e,y,c,he,rfl,hy,ou,kh⟩
   .exact⟨#[],mq,by simp,λw=>by simp[Builtin.lenOf],λw' _=>by simp[Builtin.firstCells]⟩
   .exact⟨#[],mq,by simp,λw=>by simp[Builtin.lenOf],λw' _=>by simp[Builtin.firstCells,loadCells,loadCellsFrom]⟩
  next len=>
   split at hq;next vs el ho=>
    obtain⟨hl,hq⟩:=di hq;have hl:=dN hl;injection hq with hq
    injection hq with h1 h2
    subst h1 h2;have hl:vs.length=(len+1)*s:=hl;show∃cs:Array Value,bf I vs cs.toList/\vs.length=(len+1)*s/\_;rcases hx with⟨h0,_⟩|⟨e,y,c,he,rfl,hy,ou,kh⟩
    .cases h0
    .by_cases h0:(len+1)*s=0
     .have qm:vs=[]:=mE (by omega);subst qm;exact⟨#[],mq,by simp[h0],λw=>by simp[Builtin.lenOf],λw' _=>by simp[Builtin.firstCells,h0,loadCells,loadCellsFrom]⟩
     .have uB:y=e.o:=by rcases hy with h|h<;>omega
      subst uB;obtain⟨cs,hJ,hg,ca,cr,hv,h1⟩:=hw.AX (show AX (H.gO id)=some vs by simp[AX,ho]) he;have hv:=bf.ll (dp.xr I) _ _ hv;refine⟨((cs.toList.drop e.o).take ((len+1)*s)).toArray,by rw[hl]at hv;simpa using hv,hl,λw=>by simp[Builtin.lenOf],λw' hh=>?_⟩;have:=GD (P:=P) (n:=(len+1)*s) (o:=e.o) (by rw[hh];exact hg) (by omega);simp[Builtin.firstCells,this]
   .cases hq
 next id off len cap s ex=>
  obtain⟨hb,h⟩:=di h;have hs:=dN hb;subst hs;split at h;next vs jd=>
   have⟨r,hr,h⟩:=vN h;cases h;obtain⟨rfl,bB⟩:=GF hr;obtain⟨e,y,c,he,rfl,hy,ou,Dm,kh⟩:=hx;have⟨cs,el,hg,ca,cr,hv,h1⟩:=hw.TI jd he;by_cases h0:n*s=0
   .refine⟨#[],?_,by simp[h0],λw=>by simp[Builtin.lenOf],λw' _=>?_⟩
    .rw[h0];simp[bf]
    .simp[Builtin.firstCells,h0,loadCells,loadCellsFrom]
   .have ao1:n≠0:=by rintro rfl;simp at h0
    have uB:y=e.o+off:=by rcases hy with h|h<;>omega
    subst uB;have fX:off+n*s<=vs.length:=by simp at bB;omega
    refine⟨((cs.toList.drop (e.o+off)).take (n*s)).toArray,?_,bB,λw=>by simp[Builtin.lenOf],λw' hh=>?_⟩
    .have h2:=(hv.AJ off).zj (n*s);have e2:(((cs.toList.drop e.o).take vs.length).drop off).take (n*s)=(cs.toList.drop (e.o+off)).take (n*s):=by rw[BO,Ad,Gq];congr 1;omega
     rw[e2]at h2;simpa using h2
    .have:=GD (P:=P) (n:=n*s) (o:=e.o+off) (by rw[hh];exact hg) (by omega);simp[Builtin.firstCells,this]
  .cases h
 next s=>
  have⟨hb,h⟩:=di h;have hs:=dN hb;subst hs;cases h;obtain⟨b,rfl,rfl⟩:=hx;refine⟨b.data.map λc=>.int .u8 c.toNat,?_,by simp,λw=>by simp[Builtin.lenOf,BW],λw' _=>?_⟩
  .refine akk (by simp[fg]) ?_;intro i a v h1 h2;simp only[fg,sJ,Array.toList_map]at h1 h2;cases hq:b.data.toList[i]? with
   |none=>simp[hq]at h1
   |some u=>simp only[hq,uL,lN]at h1 h2;subst h1 h2;simp[VR]
  .have:b.extract 0 b.size=b:=by apply aha;simp[fg]
   simp[Builtin.firstCells,BW,this]
 next cs len s=>
  have⟨hb,hq⟩:=di h;have hs:=dN hb;subst hs;injection hq with hq
  injection hq with h1 h2
  subst h1 h2;obtain⟨a,c,rfl,bB,hd⟩:=hx;by_cases h0:len*s=0
  .have qm:cs=[]:=mE (by omega);subst qm;refine⟨#[],mq,by simp[h0],λw=>by simp[Builtin.lenOf],λw' _=>?_⟩;cases a<;>simp[Builtin.firstCells,h0,loadCells,loadCellsFrom]
  .have hn0:len≠0:=by rintro rfl;simp at h0
   rcases hd with hd|⟨b,x,dL,el,fz,rfl,ou,fY,ca,hv⟩
   .exact absurd hd hn0
   .refine⟨((dL.toList.drop x).take (len*s)).toArray,?_,bB,λw=>by simp[Builtin.lenOf],λw' hh=>?_⟩
    .rw[bB]at hv;have hv:=bf.ll (dp.xr I) _ _ hv;simpa using hv
    .have:=GD (P:=P) (n:=len*s) (o:=x) (by rw[hh];exact(hw.ro _ _ fY).1.2) (by omega);simp[Builtin.firstCells,this]
 next id len s=>
  have⟨hb,hq⟩:=di h;have hs:=dN hb;subst hs;split at hq;next vs el ho=>
   have⟨hl,hq⟩:=di hq;have hl:=dN hl;injection hq with hq
   injection hq with h1 h2
   subst h1 h2;rcases hx with⟨rfl,rfl⟩|⟨e,y,c,he,rfl,hy,ou,kh⟩
   .have qm:vs=[]:=mE (by omega);subst qm;exact⟨#[],mq,by simp,λw=>by simp[Builtin.lenOf],λw' _=>by simp[Builtin.firstCells]⟩
   .by_cases h0:len*s=0
    .have qm:vs=[]:=mE (by omega);subst qm;exact⟨#[],mq,by simp[h0],λw=>by simp[Builtin.lenOf],λw' _=>by simp[Builtin.firstCells,h0,loadCells,loadCellsFrom]⟩
    .have ao1:len≠0:=by rintro rfl;simp at h0
     have uB:y=e.o:=by rcases hy with h|h<;>omega
     subst uB;have⟨cs,hJ,hg,ca,cr,hv,h1⟩:=hw.TI (show H.rU id=some vs by simp[AH.rU,ho]) he;refine⟨((cs.toList.drop e.o).take (len*s)).toArray,by rw[hl]at hv;simpa using hv,hl,λw=>by simp[Builtin.lenOf],λw' hh=>?_⟩;have:=GD (P:=P) (n:=len*s) (o:=e.o) (by rw[hh];exact hg) (by omega);simp[Builtin.firstCells,this]
  .cases hq
 .cases h
theorem aNg(hw:WR I base H w){argTypes elem sz n l x vx}(h:JK P H argTypes elem sz x=some (n,l))(hx:VR I x vx):AO P I w argTypes elem sz n l vx:=by
 unfold JK at h;cases ht:argTypes[1]? with
 |none=>simp[ht]at h
 |some xt=>
  simp only[ht,sH]at h;split at h;next k hu=>
   split at h;next n' z hz=>
    have⟨hc,h⟩:=di h;cases h;simp only[cT,vU]at hc;have⟨hn,hl⟩:=hc;have Bx:=dN hl;simp at hx;subst hx;have⟨vz,h1,h2⟩:=Ch (I:=I) hz;have kX:=AV.vh h1;have pO:vz.cells.size=sz:=by have:=kX.je;simp at this;omega
    have wZ:=Za kX n;refine⟨xt,_,((Array.range (n*vz.cells.size)).map (vz.cells[· %vz.cells.size]!)),ht,hu,wZ,by rw[ago,Bx],.inr ⟨rfl,rfl,hn,λw'=>?_⟩⟩;by_cases h0:n*sz=0
    .simp_all
    .rw[aw h0];simp[h2 w',Builtin.zeroCells]
   .cases h
  next d vD hu=>
   have⟨cs,h1,h2,h3,h4⟩:=az3 (P:=P) hw h hx;refine⟨xt,d,cs,ht,hu,h1,h2,.inl ⟨?_,h3,h4⟩⟩;cases d<;>first
    |rfl
    |(exact absurd rfl (vD _))
  .cases h
theorem aBK(hw:WR I base H w){E elem id off len sz n c l old vs lJ e}{cs:Array Value}{dW Ji}(hm:m<=H.br)(ho:H.aR id=some dW)(nT:dW.aQ=true)(eW:∀o,OR I dW e o->OR E (.ah vs lJ) e o)(he:I id=some e)(yy:∀K e o,dp I K->OR E (.ah (old++l) elem) e o->OR K Ji e o)(o5:qD vs off (len*sz)=some old)(hl:bf E l cs.toList)(hln:l.length=n*sz)(h1:(old++l).all AV.dH=true)(kh:e.o+off+c*sz<=e.n)(hc:len+n<=c):
 ∃w',(storeCells ⟨e.b,e.o+off+len*sz,none⟩ cs.toList).run P w=.ok () w'/\
  WR (jU I H.br ⟨e.b,e.o+off,e.n⟩) base ((H.cE id (.bg [])).eH Ji) w'/\
  cz m I H (jU I H.br ⟨e.b,e.o+off,e.n⟩) ((H.cE id (.bg [])).eH Ji)/\cM base w w':=by
 obtain⟨o,hg,wV⟩:=hw.ey id _ e ho he;obtain⟨nP,hJ,rfl,ca,cr,hv,ow⟩:=eW o wV;obtain⟨rfl,bB⟩:=GF o5;have eV:=hl.je;have ad5:len*sz+n*sz<=c*sz:=by rw[<-yW];exact Sg sz hc
 have Qi:=h1;rw[sK,cT]at Qi;have dP:=run_storeCells_at P e.b (e.o+off+len*sz) hJ cs.toList 0 nP w hg (by omega) (AV.afM hl Qi.2);simp only[Gu]at dP;have W8:=hw.Bd (ct H.br);have ad2:=PD (e:=⟨e.b,e.o+off,e.n⟩) W8;have aP0:id≠H.br:=λh=>by rw[h,W8]at he;cases he
 refine⟨_,dP,?_,?_,cM.RS hw he (Jx _ _ _) (λb hb=>Jw _ _ _ hb)⟩
 .have hk:=hw.By (vs:=[]) ho;refine⟨?_,?_,?_,?_,hw.uP rfl rfl (by rw[Cd,Au]) (λb h=>Jw _ _ _ (λhb=>hw.aeG h ho nT he hb.symm)) λi ob e1 a1 l1 a2=>.inl ?_⟩
  .intro i ob e1 a1 a2;rw[nY,pQ]at a1;by_cases hi:i=H.br
   .subst hi;rw[aP rfl]at a1;cases a1;rw[nN]at a2;cases a2;refine⟨_,setRow_heap w e.b nP _ hJ _ hg,yy _ _ _ ad2 ⟨_,hJ,rfl,?_,?_,?_,h1⟩⟩
    .have gA:cs.size=n*sz:=by simp at eV;omega
     simp;omega
    .simp at bB⊢;omega
    .have Bq:(List.take (len*sz) (List.drop off vs)++l).length=len*sz+n*sz:=by simp at bB⊢;omega
     rw[Bq];have fX:len*sz=0\/off+len*sz<=vs.length:=by simp at bB;omega
     have e3:((List.take (e.o+off+len*sz) nP.toList++cs.toList++List.drop (e.o+off+len*sz+cs.toList.length) nP.toList).drop (e.o+off)).take (len*sz+n*sz)=(nP.toList.drop (e.o+off)).take (len*sz)++cs.toList:=by
      apply Y3;intro j;by_cases hj:j<len*sz+n*sz
      .rw[Ab hj,vR,jE];simp only[List.getElem?_append,rH,qeb];rw[show min (e.o+off+len*sz) nP.toList.length=e.o+off+len*sz by simp;omega,show min (len*sz) (nP.toList.length-(e.o+off))=len*sz by simp;omega];by_cases h3:j<len*sz
       .rw[aP (by omega),aP h3,Ab (by omega),Ab h3,vR]
       .rw[aw (by omega),aw h3,show e.o+off+j-(e.o+off+len*sz)=j-len*sz by omega,aP (by omega)]
      .rw[Sf (by simp;omega),Sf (by simp;simp at eV;omega)]
     show bf E _ (((List.take (e.o+off+len*sz) nP.toList++cs.toList++List.drop (e.o+off+len*sz+cs.toList.length) nP.toList).drop (e.o+off)).take (len*sz+n*sz));rw[e3];refine bf.xS ?_ hl;have h2:=(hv.AJ off).zj (len*sz);have e2:(((nP.toList.drop e.o).take vs.length).drop off).take (len*sz)=(nP.toList.drop (e.o+off)).take (len*sz):=by
      rcases fX with fX|fX
      .simp[fX]
      .rw[BO,Ad,Gq];congr 1;omega
     rw[e2]at h2;exact h2
   .rw[aw hi]at a1;simp only[jU,aw hi]at a2;by_cases pM:ob.aQ=true
    .have Dr:i≠id:=by rintro rfl;rw[pV,aP rfl]at a1;cases a1;simp[aO.aQ]at pM
     rw[pV,aw Dr]at a1;obtain⟨o,h3,h4⟩:=hw.ey i ob e1 a1 a2;have hb:=λh=>Dr (hw.jx i id ob _ e1 e a1 pM a2 ho nT he h)
     exact⟨o,by rw[Jw _ _ _ hb];exact h3,h4.s6 ad2⟩
    .cases ob<;>simp[aO.aQ]at pM;have h5:=(hw.lt i e1 a2).1;rw[<-Jx w e.b (List.take (e.o+off+len*sz) nP.toList++cs.toList++List.drop (e.o+off+len*sz+cs.toList.length) nP.toList).toArray]at h5;exact⟨_,DQ h5,trivial⟩
  .intro i i' dz iz e1 e2 a1 l1 a2 a3 l2 a4 hb;rw[nY,pQ]at a1 a3;have XW:∀{i ob},i≠H.br->(H.cE id (.bg [])).aR i=some ob->ob.aQ=true->i≠id/\H.aR i=some ob:=by
    intro i ob hi h hl;have Dr:i≠id:=by rintro rfl;rw[pV,aP rfl]at h;cases h;simp[aO.aQ]at hl
    rw[pV,aw Dr]at h;exact⟨Dr,h⟩
   by_cases hi:i=H.br<;>by_cases en:i'=H.br
   .rw[hi,en]
   .exfalso;subst hi;rw[nN]at a2;cases a2;rw[aw en]at a3;simp only[jU,aw en]at a4;obtain⟨n1,n2⟩:=XW en a3 l2;exact n1 (hw.jx i' id iz _ e2 e n2 l2 a4 ho nT he hb.symm)
   .exfalso;subst en;rw[nN]at a4;cases a4;rw[aw hi]at a1;simp only[jU,aw hi]at a2;have⟨n1,n2⟩:=XW hi a1 l1;exact n1 (hw.jx i id dz _ e1 e n2 l1 a2 ho nT he hb)
   .rw[aw hi]at a1;rw[aw en]at a3;simp only[jU,aw hi]at a2;simp only[jU,aw en]at a4;have⟨_,n2⟩:=XW hi a1 l1;have⟨_,n4⟩:=XW en a3 l2;exact hw.jx i i' dz iz e1 e2 n2 l1 a2 n4 l2 a4 hb
  .intro i e1 a2;rw[Jx,tO,pQ];by_cases hi:i=H.br
   .subst hi;rw[nN]at a2;cases a2;have:=hw.lt id e he;exact⟨this.1,this.2.1,by omega⟩
   .simp only[jU,aw hi]at a2;have:=hw.lt i e1 a2;exact⟨this.1,this.2.1,by omega⟩
  .intro i ob a1;rw[nY,pQ]at a1;rw[tO,pQ];by_cases hi:i=H.br
   .omega
   .rw[aw hi]at a1;have:=hk.nx i ob a1;rw[pQ]at this;omega
  .rw[nY,pQ]at a1;by_cases hi:i=H.br
   .subst hi;rw[nN]at a2;cases a2;exact⟨id,_,e,ho,nT,he,rfl⟩
   .rw[aw hi]at a1;simp only[jU,aw hi]at a2;have Dr:i≠id:=by rintro rfl;rw[pV,aP rfl]at a1;cases a1;simp[aO.aQ]at l1
    rw[pV,aw Dr]at a1;exact⟨i,ob,e1,a1,l1,a2,rfl⟩
 .refine⟨ad2,by rw[tO,pQ];omega,λi hi hn=>⟨?_,?_⟩,.of (by rw[Cd,Au]) rfl⟩
  .simp only[jU];rw[aw (by omega)];exact hn
  .exact .inl (by rw[nY,pQ,aw (by omega),pV,aw (λh=>by subst h;rw[he]at hn;cases hn)])
end
section
variable{P:Program}{I:bZ}{base:fM}{m:Nat}{H:AH}{w:World}{O:Operand->Option AV}{ev:Operand->Value}
theorem CQ{ts T t elem vs x a len c sz n gE l}(ht:ts[0]? =some t)(hu:P.underlying t=some (.slice elem))(v0:vs[0]? =some (.slice a len c))(v1:vs[1]? =some x)(hs:cy P elem=some sz)(jq:wC P elem=some gE)(hb:gE<=4194304)(jz:AO P I w ts elem sz n l x)(kh:len+n<=c):
 ∃cs:Array Value,bf I l cs.toList/\l.length=n*sz/\∀w',(match a with|some a=>storeCells (a.add (len*sz)) cs.toList|none=>pure ():Sem Unit).run P w=.ok () w'->
  (Builtin.append_ ts T vs).run P w=.ok (.slice a (len+n) c) w':=by
 obtain⟨xt,d,cs,t1,tu,h1,h2,h3⟩:=jz;refine⟨cs,h1,h2,λw' fw=>?_⟩;unfold Builtin.append_;simp only[ht,v0,v1,Sem.run_bind,run_underlying hu w,Result.andThen_ok,j6 hs w,t1,run_underlying tu w];rcases h3 with⟨hd,hn,hc⟩|⟨hd,rfl,hn,hc⟩
 .have wQ:=hc w rfl;split
  .simp[MI]at hd
  .simp only[Sem.run_pure,Result.andThen_ok,Nh,if_false,Sem.run_bind,hn w,aP kh,Bool.not_false,if_true,wQ];cases a with
   |none=>simp at fw;subst fw;rfl
   |some a=>simp only[Sem.run_bind,fw,Result.andThen_ok,Sem.run_pure]
 .have wQ:=hc w;have hwn:IntKind.i64.wrap (n:Int)=n:=IntWalk.i64_in _ (by omega);have⟨ti,FY,Rf⟩:=acs jq w;have ad5:(n:Int)*gE<=2^48:=by
   have:=Nat.mul_le_mul hn hb;have h':((n*gE:Nat):Int)<=((4194304*4194304:Nat):Int):=by exact_mod_cast this
   simp at h';omega
  have q1:¬((n:Int)<0):=by omega
  have q2:¬((n:Int)*(ti.bytes:Int)>2^48):=by rw[Rf];omega
  split
  .simp only[Sem.run_pure,Result.andThen_ok,if_true,Sem.run_bind,asInt,asIntOf,hwn,aw q1,FY,aw q2,Int.toNat_natCast,aP kh,Bool.not_true,Nh,if_false,wQ];cases a with
   |none=>simp at fw;subst fw;rfl
   |some a=>simp only[Sem.run_bind,fw,Result.andThen_ok,Sem.run_pure]
  next vD=>cases d<;>first|(exact absurd rfl (vD _))|(simp[MI]at hd)
theorem Py{ts T t elem vs x a len c sz n gE l old zs}(ht:ts[0]? =some t)(hu:P.underlying t=some (.slice elem))(v0:vs[0]? =some (.slice a len c))(v1:vs[1]? =some x)(hs:cy P elem=some sz)(jq:wC P elem=some gE)(hb:gE<=4194304)(jz:AO P I w ts elem sz n l x)(kh:c<len+n)(Xf:len+n<=4194304){vz}(hz:∀w,(zeroValue elem).run P w=.ok vz w)(o5:∀w',w'.heap=w.heap->(Builtin.firstCells sz len (.slice a len c)).run P w'=.ok old w')(pO:zs=vz.cells):
 ∃(cs:Array Value) (iI:Nat),len+n<=iI/\bf I l cs.toList/\l.length=n*sz/\
  (Builtin.append_ ts T vs).run P w=.ok (.slice (some ⟨w.heap.size,0,none⟩) (len+n) iI) (w.drew.alloc (.cells (old++cs++Builtin.zeroCells zs (iI-(len+n))) elem (0,0))):=by
 obtain⟨xt,d,cs,t1,tu,h1,h2,h3⟩:=jz;subst pO;refine⟨cs,(Question.appendCap (len+n) c elem).cut (w.tape w.drawn (.appendCap (len+n) c elem)),?_,h1,h2,?_⟩
 .simp only[Question.cut];omega
 have ov:¬(len+n<=c):=by omega
 obtain⟨ti,FY,Rf⟩:=acs jq w;have aoH:¬(((len+n:Nat):Int)>IntKind.i64.max):=by
  have:IntKind.i64.max=9223372036854775807:=by rfl
  rw[this];omega
 have FG:¬(Builtin.nextslicecap (len+n) c*ti.bytes>2^48):=by have h4:=aEN kh;have h5:Builtin.nextslicecap (len+n) c*ti.bytes<=16000000*4194304:=Nat.mul_le_mul (by omega) (by omega);omega
 have aeh:∀w',(typeInfo elem).run P w'=.ok ti w':=by
  intro w';cases hq:P.info? elem with
  |none=>simp[wC,hq]at jq
  |some i=>have:=run_typeInfo w hq;rw[FY]at this;cases this;exact run_typeInfo w' hq
 have aoP:(Question.appendCap (len+n) c elem).forced=false:=rfl;have ao7:=o5 w.drew rfl;unfold Builtin.append_;simp only[ht,v0,v1,Sem.run_bind,run_underlying hu w,Result.andThen_ok,j6 hs w,t1,run_underlying tu w];rcases h3 with⟨hd,hn,hc⟩|⟨hd,rfl,hn,hc⟩
 .have wQ:=hc w.drew rfl;split
  .simp[MI]at hd
  .simp only[Sem.run_pure,Result.andThen_ok,Nh,if_false,Sem.run_bind,hn w,aw ov,Bool.not_false,if_true];simp only[aeh,Result.andThen_ok];rw[aw (λh=>aoH h.1)];simp only[Sem.run_bind,aeh,Result.andThen_ok,aw FG,run_choose_drew,aoP,Nh,if_false,run_askRoom,ao7,wQ,hz,newRow,US,Sem.run_pure];rfl
 .have wQ:=hc w.drew;have hwn:IntKind.i64.wrap (n:Int)=n:=IntWalk.i64_in _ (by omega);have ad5:(n:Int)*gE<=2^48:=by
   have:=Nat.mul_le_mul hn hb;have h':((n*gE:Nat):Int)<=((4194304*4194304:Nat):Int):=by exact_mod_cast this
   simp at h';omega
  have q1:¬((n:Int)<0):=by omega
  have q2:¬((n:Int)*(ti.bytes:Int)>2^48):=by rw[Rf];omega
  split
  .simp only[Sem.run_pure,Result.andThen_ok,if_true,Sem.run_bind,asInt,asIntOf,hwn,aw q1,FY,aw q2,Int.toNat_natCast,aw ov,Bool.not_true,Nh,if_false];rw[aw (λh=>aoH h.1)];simp only[Sem.run_bind,aeh,Result.andThen_ok,aw FG,run_choose_drew,aoP,Nh,if_false,run_askRoom,ao7,wQ,hz,newRow,US,Sem.run_pure];rfl
  next vD=>cases d<;>first|(exact absurd rfl (vD _))|(simp[MI]at hd)
end
section
variable{P:Program}{I:bZ}{base:fM}{m:Nat}{H:AH}{w:World}{O:Operand->Option AV}{ev:Operand->Value}
theorem Zs{l all mI elem el n}(h:bf I l all.toList)(h1:l.all AV.dH=true)(hn:all.size+mI.size=n):
 ∀E b,dp I E->OR E (.ah l elem) ⟨b,0,n⟩ (.cells (all++mI) el (0,0)):=by
 intro E b cr;have hl:=h.je;refine⟨_,el,rfl,by simp;omega,by simp at hl⊢;omega,?_,h1⟩;have:((all++mI).toList.drop 0).take l.length=all.toList:=by simp;rw[hl,xA];rfl
 rw[this];exact bf.ll cr _ _ h
theorem Z5(z n):(Builtin.zeroCells z n).size=n*z.size:=by simp[Builtin.zeroCells]
theorem Wn(hw:WR I base H w)(hb:gY base w)(hm:m<=H.br){E ts T t elem lJ vs v vx sz k gE id off len y c e l old cells vz dW Ji}(By)(ht:ts[0]? =some t)(hu:P.underlying t=some (.slice elem))(v0:vs[0]? =some (.slice (some ⟨e.b,y,none⟩) len c))(v1:vs[1]? =some vx)(hs:cy P elem=some sz)(jq:wC P elem=some gE)(fo:gE<=4194304)(pO:vz.cells.size=sz)(kX:∀w,(zeroValue elem).run P w=.ok vz w)(jz:AO P I w ts elem sz (k+1) l vx)(Xf:len+(k+1)<=4194304)(he:I id=some e)(hy:c=0\/y=e.o+off)(ou:len<=c)(kh:e.o+off+c*sz<=e.n)(aCA:By=false->c<len+(k+1))(ho:H.aR id=some dW)(nT:dW.aQ=true)(eW:∀o,OR I dW e o->OR E (.ah cells lJ) e o)(yy:∀K e o,dp I K->OR E (.ah (old++l) elem) e o->OR K Ji e o)(o5:qD cells off (len*sz)=some old)(Q8:∀vs,bf I l vs->bf E l vs)(ow:(old++l).all AV.dH=true)(zO:∀K e' x c',K H.br=some e'->x=e'.o->len+(k+1)<=c'->e'.o+c'*sz<=e'.n->VR K v (.slice (some ⟨e'.b,x,none⟩) (len+(k+1)) c')):
 eL P m base I H w (do pure (.value (<-Builtin.append_ ts T vs)):Sem Next) v (AH.eH (bif By then H.cE id (.bg [])else H) Ji):=by
 have FI:WR I base H w.drew:=hw.sM rfl;have⟨o,hg,wV⟩:=hw.ey id _ e ho he;obtain⟨nP,hJ,rfl,ca,cr,jd,_⟩:=eW o wV;have⟨MC,MD⟩:=GF o5;by_cases hr:len+(k+1)<=c
 .
  have sw:By=true:=by
   cases By
   .have:=aCA rfl;omega
   .rfl
  subst sw;simp;have uB:y=e.o+off:=by rcases hy with h|h<;>omega
  subst uB;have⟨cs,h1,h2,h3⟩:=CQ (T:=T) ht hu v0 v1 hs jq fo jz hr;have⟨w',b1,b2,b3,b4⟩:=aBK (P:=P) hw hm ho nT eW he yy o5 (Q8 _ h1) h2 ow kh hr;have h4:=h3 w' (by simp only[zp];exact b1);exact eL.of h4 (zO _ ⟨e.b,e.o+off,e.n⟩ (e.o+off) c (nN _ _ _) rfl hr kh) b2 b3 b4
 .
  have ad0:∃M7:Array Value,bf E old M7.toList/\∀w',w'.heap=w.heap->(Builtin.firstCells sz len (.slice (some ⟨e.b,y,none⟩) len c)).run P w'=.ok M7 w':=by
   by_cases h0:len*sz=0
   .refine⟨#[],?_,λw' _=>by simp[Builtin.firstCells,h0,loadCells,loadCellsFrom]⟩;have:old=[]:=by rw[h0]at MD;exact mE MD
    rw[this];exact mq
   .have ao1:len≠0:=by rintro rfl;simp at h0
    have uB:y=e.o+off:=by rcases hy with h|h<;>omega
    subst uB;have fX:off+len*sz<=cells.length:=by rw[MC]at MD;simp at MD;omega
    refine⟨((nP.toList.drop (e.o+off)).take (len*sz)).toArray,?_,λw' hh=>?_⟩
    .have h2:=(jd.AJ off).zj (len*sz);have e2:(((nP.toList.drop e.o).take cells.length).drop off).take (len*sz)=(nP.toList.drop (e.o+off)).take (len*sz):=by rw[BO,Ad,Gq];congr 1;omega
     rw[e2]at h2;rw[MC];simpa using h2
    .have:=GD (P:=P) (n:=len*sz) (o:=e.o+off) (by rw[hh];exact hg) (by omega);simp[Builtin.firstCells,this]
  have⟨M7,o1,o2⟩:=ad0;have⟨cs,iI,ad8,h1,h2,h3⟩:=Py (T:=T) ht hu v0 v1 hs jq fo jz (by omega) Xf kX o2 rfl;have gA:cs.size=(k+1)*sz:=by have:=h1.je;simp at this;omega
  have Xj:M7.size=len*sz:=by have:=o1.je;simp at this;omega
  have IL:(M7++cs).size+(Builtin.zeroCells vz.cells (iI-(len+(k+1)))).size=iI*sz:=by
   rw[Z5,pO];have h6:len*sz+(k+1)*sz+(iI-(len+(k+1)))*sz=iI*sz:=by rw[<-yW,<-yW];congr 1;omega
   rw[Array.size_append,gA,Xj];omega
  have tv:bf E (old++l) (M7++cs).toList:=by rw[DT];exact o1.xS (Q8 _ h1)
  have aC:∀H1:AH,WR I base H1 w.drew->H1.br=H.br->cz m I H I H1->
   eL P m base I H w (do pure (.value (<-Builtin.append_ ts T vs)):Sem Next) v (AH.eH H1 Ji):=by
   intro H1 l8 hn1 zH;have⟨a1,a2,a3⟩:=l8.BD (m:=m) (show gY base w.drew from hb) (λK b cr=>yy K _ _ cr (Zs (el:=elem) tv ow IL E b (dp.refl _))) (by omega);refine eL.of h3 ?_ a1 (zH.wq a2) ((cM.sM rfl).um a3);rw[hn1];exact zO _ _ 0 iI (nN _ _ _) rfl ad8 (by show 0+iI*sz<=iI*sz;omega)
  cases By
  .simp;exact aC _ FI rfl (cz.ka _ _ _)
  .simp;exact aC _ (FI.By ho) (pQ _ _ _) (cz.p_ he _)
theorem aoh(hw:WR I base H w)(hb:gY base w)(hm:m<=H.br){ts T t elem vs v y8 vx sz k gE id len l H' z vz}(ht:ts[0]? =some t)(hu:P.underlying t=some (.slice elem))(v0:vs[0]? =some y8)(v1:vs[1]? =some vx)(hs:cy P elem=some sz)(jq:wC P elem=some gE)(fo:gE<=4194304)(hz:VR I z vz)(kX:∀w,(zeroValue elem).run P w=.ok vz w)(Bx:z.dO.length=sz)(jz:AO P I w ts elem sz (k+1) l vx)(hv:VR I (.ad id len sz) y8)(pI:len+(k+1)<=4194304)(hq:yo H elem id len sz (k+1) l=some (v,H')):
 eL P m base I H w (do pure (.value (<-Builtin.append_ ts T vs)):Sem Next) v H':=by
 have pO:vz.cells.size=sz:=by have:=(AV.vh hz).je;simp at this;omega
 have FI:WR I base H w.drew:=hw.sM rfl;unfold yo at hq;split at hq;next cells lJ ho=>
  have⟨gL,hq⟩:=di hq;simp only[cT]at gL;have⟨⟨hl,Qn⟩,kL⟩:=gL;have hl:=dN hl;cases hq;have Q8:∀vs,bf I l vs->bf I.pu l vs:=λvs h=>bf.xU _ _ (by rw[xu];exact kL) h
  rcases hv with⟨rfl,rfl⟩|⟨e,y,c,he,rfl,hy,ou,kh⟩
  .have qm:cells=[]:=mE (by omega);subst qm;have⟨cs,iI,cr,h1,h2,h3⟩:=Py (T:=T) (old:= #[]) ht hu v0 v1 hs jq fo jz (by omega) (by omega) kX (λw' _=>by simp[Builtin.firstCells]) rfl;have gA:cs.size=(k+1)*sz:=by have:=h1.je;simp at this;omega
   have IL:(#[]++cs).size+(Builtin.zeroCells vz.cells (iI-(0+(k+1)))).size=iI*sz:=by
    rw[Z5,pO];have h6:(k+1)*sz+(iI-(0+(k+1)))*sz=iI*sz:=by rw[<-yW];congr 1;omega
    grind
   obtain⟨a1,a2,a3⟩:=(FI.By ho).BD (show gY base w.drew from hb) (λK b cr=>abu cr (el:=elem) (Zs (by simpa using Q8 _ h1) (by simpa using Qn) IL I.pu b (dp.refl _))) (by rw[pQ];exact hm);refine eL.of h3 ?_ a1 ((cz.au ho _).wq a2) ((cM.sM rfl).um a3);right;rw[pQ];exact⟨_,0,iI,nN _ _ _,by simp,.inr rfl,by omega,by show 0+iI*sz<=iI*sz;omega⟩
  .obtain⟨o,hg,nP,hJ,rfl,ca,cr,jd,Bg⟩:=hw.ey id _ e ho he;have o5:qD cells 0 (len*sz)=some cells:=by
    have e0:(cells.drop 0).take (len*sz)=cells:=by rw[xw,<-hl,pX]
    unfold qD
    grind
   exact Wn (lJ:=elem) hw hb hm true ht hu v0 v1 hs jq fo pO kX jz pI he (by simpa using hy) ou (by simpa using kh) (λh=>by cases h) ho rfl (λo h=>h) (λK e o cr h=>abu cr h) o5 Q8
    (by rw[sK,cT];exact⟨Bg,Qn⟩)
    (λK e' x c' h1 h2 h3 h4=>by simp only[VR];exact .inr ⟨e',x,c',h1,rfl,.inr h2,h3,h4⟩)
 .cases hq
theorem AO.mono{I E}(h:dp I E){w ts elem sz n l x}(h1:AO P I w ts elem sz n l x):AO P E w ts elem sz n l x:=
 let⟨xt,d,cs,a,b,c,r⟩:=h1
 ⟨xt,d,cs,a,b,bf.ll h _ _ c,r⟩
theorem aFf{m sz r v H' s}(hr:∀v H1,r=some (v,H1)->eL P m base I H w s v H1)(hz:∀id len gk H1,r=some (.ad id len gk,H1)->gk=sz/\len≠0)(h:Jl sz r=some (v,H')):eL P m base I H w s v H':=by
 unfold Jl at h;split at h;next id len gk H1=>
  obtain⟨rfl,qm⟩:=hz _ _ _ _ rfl;have⟨kC,w1,v1,h1,h2,h3,h4,h5⟩:=hr _ _ rfl;have⟨⟨nm,H2⟩,hx,h⟩:=vN h;cases h;rcases h2 with⟨h0,_⟩|⟨e,x,c,he,hv⟩
  .exact absurd h0 qm
  .unfold V3 at hx;split at hx;next vs el ho=>have⟨lU,g1,g2,g3⟩:=h3.aaT ho rfl he (λh=>h) hx m;exact⟨lU,w1,v1,h1,(by simp;exact .inr ⟨e,x,c,g1,hv.1,hv.2.1,hv.2.2.1,hv.2.2.2,qm⟩),g2,h4.wq g3,h5⟩
   next vs el ho=>have⟨hp,hq⟩:=di hx;have⟨lU,g1,g2,g3⟩:=h3.aaT ho rfl he (λh=>let⟨cs,el,a,b,c,d,f⟩:=h;⟨cs,el,a,b,c,bf.xU _ _ (by rw[xu];exact hp) d,f⟩) hq m;exact⟨lU,w1,v1,h1,(by simp;exact .inr ⟨e,x,c,g1,hv.1,hv.2.1,hv.2.2.1,hv.2.2.2,qm⟩),g2,h4.wq g3,h5⟩
   .cases hx
 .cases h
theorem aBI{H elem id len sz n l v H'}(h:yo H elem id len sz n l=some (v,H')):v=.ad H.br (len+n) sz:=by
 unfold yo at h
 grind
theorem aBJ(hw:WR I base H w)(hb:gY base w)(hm:m<=H.br){ts T t elem vs v y8 vx sz k gE id len l H' z vz}(ht:ts[0]? =some t)(hu:P.underlying t=some (.slice elem))(v0:vs[0]? =some y8)(v1:vs[1]? =some vx)(hs:cy P elem=some sz)(jq:wC P elem=some gE)(fo:gE<=4194304)(hz:VR I z vz)(kX:∀w,(zeroValue elem).run P w=.ok vz w)(Bx:z.dO.length=sz)(jz:AO P I w ts elem sz (k+1) l vx)(hv:VR I (.gV id len sz) y8)(pI:len+(k+1)<=4194304)(hq:LZ H elem id len sz (k+1) l=some (v,H')):
 eL P m base I H w (do pure (.value (<-Builtin.append_ ts T vs)):Sem Next) v H':=by
 have Rr:∀{q0:bZ} {H0:AH} {i:Nat},WR q0 base H0 w->cz m I H q0 H0->m<=H0.br->VR q0 (.ad i len sz) y8->Jl sz (yo H0 elem i len sz (k+1) l)=some (v,H')->eL P m base I H w (do pure (.value (<-Builtin.append_ ts T vs)):Sem Next) v H':=by
  intro q0 H0 i g1 g2 g3 g4 g5;have⟨kC,w1,v1,h1,h2,h3,h4,h5⟩:=aFf (s:=(do pure (.value (<-Builtin.append_ ts T vs)):Sem Next))
   (λv H1 h=>aoh g1 hb g3 ht hu v0 v1 hs jq fo (VR.d_ g2.1 _ _ hz) kX Bx (jz.mono g2.1) g4 pI h)
   (λid len' gk H1 h=>by have:=aBI h;cases this;exact⟨rfl,by omega⟩) g5
  exact⟨kC,w1,v1,h1,h2,h3,g2.wq h4,h5⟩
 unfold LZ at hq;split at hq
 .refine Rr (hw.new (.au [] elem)) (cz.new hm _) (by rw[tO];omega) ?_ hq;rcases hv with⟨_,rfl⟩|⟨e,x,c,he,rfl,hy,ou,kh,h0⟩
  .exact .inl aA
  .exact absurd rfl h0
 .split at hq;next len i H0 hi=>
   unfold Xy at hi;split at hi;next Z1 el ho=>
    cases hi;rcases hv with⟨h0,_⟩|⟨e,x,c,he,hv⟩
    .cases h0
    .have⟨g1,g2⟩:=hw.import ho he (λh=>h) hm;exact Rr g1 g2 (by rw[tO,Ga];omega) (by simp;exact .inr ⟨e,x,c,nN _ _ _,hv.1,hv.2.1,hv.2.2.1,hv.2.2.2.1⟩) hq
   .cases hi
  .cases hq
theorem WR.ayf{o:Obj}(hw:WR I base H w)(hb:gY base w):WR ⟨I.f,λb=>if b=w.heap.size then some o else I.ro b,I.xs⟩ base H (w.alloc o)/\dp I ⟨I.f,λb=>if b=w.heap.size then some o else I.ro b,I.xs⟩:=by
 have Q4:(w.alloc o).heap[w.heap.size]? =some o:=by show(w.heap.push o)[w.heap.size]? =_;simp
 have kL:dp I ⟨I.f,λb=>if b=w.heap.size then some o else I.ro b,I.xs⟩:=by
  refine⟨λ_ _ h=>h,λb o' h=>?_,λ_ _ h=>h⟩;have h1:=(hw.ro b o' h).1.2
  grind
 refine⟨⟨λid ob e h1 h2=>?_,hw.jx,λid e h=>?_,hw.nx,⟨λb o' h=>?_,λn ob h=>?_,hw.wx.xi,hw.wx.xl⟩⟩,kL⟩
 .have⟨o1,h3,h4⟩:=hw.ey id ob e h1 h2;exact⟨o1,by rw[Pw w o (Sh.1 h3).1];exact h3,h4.s6 kL⟩
 .have⟨h1,h2,h3⟩:=hw.lt id e h
  grind
 .by_cases QF:b=w.heap.size
  .subst QF;have h:(if w.heap.size=w.heap.size then some o else I.ro w.heap.size)=some o':=h;rw[aP rfl]at h;cases h;refine⟨⟨λhh=>absurd (hb _ hh) (by omega),Q4⟩,λid ob e h1 h2 h3=>?_⟩;have:=(hw.lt id e h3).1;omega
  .have h:(if b=w.heap.size then some o else I.ro b)=some o':=h;rw[aw QF]at h;have⟨⟨h1,h2⟩,h3⟩:=hw.ro b o' h;exact⟨⟨h1,by rw[Pw w o (Sh.1 h2).1];exact h2⟩,h3⟩
 .have⟨e,o1,h1,⟨h2,h3⟩,h4,h5,h6⟩:=hw.wx.xo n ob h;have ae:=(Sh.1 h3).1;refine⟨e,o1,h1,⟨h2,by rw[Pw w o ae];exact h3⟩,h4.s6 kL.pu,?_,h6⟩
  grind
theorem axI(hw:WR I base H w)(hb:gY base w)(hm:m<=H.br){ts T t elem vs s v y8 vx sz n gE l H' z vz}(ht:ts[0]? =some t)(hu:P.underlying t=some (.slice elem))(v0:vs[0]? =some y8)(v1:vs[1]? =some vx)(hs:cy P elem=some sz)(jq:wC P elem=some gE)(fo:gE<=4194304)(hz:VR I z vz)(kX:∀w,(zeroValue elem).run P w=.ok vz w)(Bx:z.dO.length=sz)(jz:AO P I w ts elem sz n l vx)(hv:VR I s y8)(h:mM H elem sz s n l=some (v,H')):
 eL P m base I H w (do pure (.value (<-Builtin.append_ ts T vs)):Sem Next) v H':=by
 have pO:vz.cells.size=sz:=by have:=(AV.vh hz).je;simp at this;omega
 have FI:WR I base H w.drew:=hw.sM rfl;unfold mM at h;split at h;next cs len gk=>
  have⟨hc,hq⟩:=di h;clear h;simp only[cT,vU]at hc;have FX:=dN hc.1.1;subst FX;cases hq;obtain⟨a,rfl,bB,hd⟩:=hv;have kL:∀vs,bf I l vs->bf I.pu l vs:=λvs h=>bf.xU _ _ (by rw[xu];exact hc.2) h
  cases n with
  |zero=>
   obtain⟨re,h1,h2,h3⟩:=CQ (P:=P) (T:=T) ht hu v0 v1 hs jq fo jz (ct _);have gA:re.toList=[]:=by have:=h1.je;rw[h2]at this;simpa using this.symm
   have qm:l=[]:=mE (by rw[h2];simp);refine eL.of (h3 w (by rw[gA];cases a<;>rfl)) ?_ hw (cz.ka _ _ _) (cM.kP _ _);rw[qm,jt];refine⟨a,len,rfl,bB,?_⟩;rcases hd with hd|⟨b,x,dL,el,fz,k1,k2,k3,k4⟩
   .exact .inl hd
   .exact .inr ⟨b,x,dL,el,fz,k1,ct _,k2,k3,k4⟩
  |succ k=>
   have ad0:∃old:Array Value,bf I.pu cs old.toList/\∀w',w'.heap=w.heap->(Builtin.firstCells sz len (.slice a len len)).run P w'=.ok old w':=by
    by_cases h0:len*sz=0
    .have h1:cs=[]:=mE (by omega);exact⟨#[],by rw[h1];exact mq,λw' _=>by cases a<;>simp[Builtin.firstCells,h0,loadCells,loadCellsFrom]⟩
    .rcases hd with hd|⟨b,x,dL,el,fz,rfl,k2,k3,k4⟩
     .rw[hd]at h0;simp at h0
     .refine⟨((dL.toList.drop x).take cs.length).toArray,by simpa using k4,λw' hh=>?_⟩;have hg:=(hw.ro b _ k2).1.2;have:=GD (P:=P) (w:=w') (n:=cs.length) (o:=x) (by rw[hh];exact hg) k3;rw[bB]at this⊢;simp[Builtin.firstCells,this]
   obtain⟨old,o1,o2⟩:=ad0;obtain⟨re,iI,ad8,h1,h2,h3⟩:=Py (T:=T) ht hu v0 v1 hs jq fo jz (by omega) hc.1.2 kX o2 rfl;have o5:cs.length=old.size:=by have:=o1.je;rwa[Array.length_toList]at this
   have aPY:l.length=re.size:=by have:=h1.je;rwa[Array.length_toList]at this
   have⟨g1,g2⟩:=FI.ayf (o:=.cells (old++re++Builtin.zeroCells vz.cells (iI-(len+(k+1)))) elem (0,0)) (show gY base w.drew from hb);refine eL.of h3 ?_ g1 ⟨g2,ct _,λid _ hn=>⟨hn,.inl rfl⟩,.of rfl rfl⟩ ((cM.sM (base:=base) (w':=w.drew) rfl).um (cM.aaS (show gY base w.drew from hb) _));refine⟨_,iI,rfl,by rw[cj,bB,h2,<-yW],.inr ⟨_,0,_,elem,(0,0),rfl,ad8,aP rfl,?_,?_⟩⟩
   .simp only[Array.size_append,cj];omega
   .have e:(((old++re++Builtin.zeroCells vz.cells (iI-(len+(k+1)))).toList.drop 0).take (cs++l).length)=(old++re).toList:=by
     have e2:(cs++l).length=(old++re).toList.length:=by simp;omega
     have e3:=Array.toList_append (xs:=old++re) (ys:=Builtin.zeroCells vz.cells (iI-(len+(k+1))));rw[e2,xw,e3];exact xA rfl
    rw[e,DT];exact bf.ll g2.pu _ _ (o1.xS (kL _ h1))
 .obtain⟨a,rfl⟩:=hv;cases n with
  |zero=>
   cases h;obtain⟨cs,h1,h2,h3⟩:=CQ (P:=P) (T:=T) ht hu v0 v1 hs jq fo jz (ct _);have gA:cs.toList=[]:=by have:=h1.je;rw[h2]at this;simpa using this.symm
   exact eL.of (h3 w (by rw[gA];cases a<;>rfl)) (by simp[VR]) hw (cz.ka _ _ _) (cM.kP _ _)
  |succ k=>
   obtain⟨hc,h⟩:=di h;cases h;simp only[cT,vU]at hc;obtain⟨cs,iI,cr,h1,h2,h3⟩:=Py (P:=P) (T:=T) (old:= #[]) (a:=a) (len:=0) (c:=0) ht hu v0 v1 hs jq fo jz (by omega) (by omega) kX (λw' _=>by cases a<;>simp[Builtin.firstCells,loadCells,loadCellsFrom]) rfl;have gA:cs.size=(k+1)*sz:=by have:=h1.je;simp at this;omega
   have IL:(#[]++cs).size+(Builtin.zeroCells vz.cells (iI-(0+(k+1)))).size=iI*sz:=by
    rw[Z5,pO];have h6:(k+1)*sz+(iI-(0+(k+1)))*sz=iI*sz:=by rw[<-yW];congr 1;omega
    rw[Array.size_append,gA];simp only[List.size_toArray,gH];omega
   obtain⟨a1,a2,a3⟩:=FI.BD (m:=m) (show gY base w.drew from hb) (Zs (elem:=elem) (el:=elem) (by simpa using h1) hc.2 IL) hm;refine eL.of h3 ?_ a1 a2 ((cM.sM (base:=base) (w':=w.drew) rfl).um a3);simp only[VR];refine⟨_,0,iI,nN _ _ _,by rw[lx];rfl,.inr rfl,by omega,(λh=>by cases h),?_⟩;show 0+0+iI*sz<=iI*sz;omega
 next id len gk=>
  obtain⟨hc,hq⟩:=di h;clear h;simp only[cT,vU]at hc;have FX:sz=gk:=dN hc.1;subst FX;have xa:=hv;cases n with
  |zero=>
   cases hq;rcases hv with⟨rfl,rfl⟩|⟨e,y,c,he,rfl,hy,ou,kh⟩
   .obtain⟨cs,h1,h2,h3⟩:=CQ (P:=P) (T:=T) ht hu v0 v1 hs jq fo jz (ct _);exact eL.of (h3 w rfl) xa hw (cz.ka _ _ _) (cM.kP _ _)
   .obtain⟨cs,h1,h2,h3⟩:=CQ (P:=P) (T:=T) ht hu v0 v1 hs jq fo jz (by omega);have gA:cs.toList=[]:=by have:=h1.je;rw[h2]at this;simpa using this.symm
    exact eL.of (h3 w (by rw[gA];rfl)) xa hw (cz.ka _ _ _) (cM.kP _ _)
  |succ k=>exact aBJ hw hb hm ht hu v0 v1 hs jq fo hz kX Bx jz hv hc.2 hq
 .simp only[VR]at hv;subst hv;cases n with
  |zero=>cases h;obtain⟨cs,h1,h2,h3⟩:=CQ (P:=P) (T:=T) ht hu v0 v1 hs jq fo jz (ct _);exact eL.of (h3 w rfl) (by simp[VR]) hw (cz.ka _ _ _) (cM.kP _ _)
  |succ k=>
   obtain⟨hc,h⟩:=di h;cases h;simp only[cT,vU]at hc;obtain⟨cs,iI,cr,h1,h2,h3⟩:=Py (P:=P) (T:=T) (old:= #[]) (a:=none) (len:=0) ht hu v0 v1 hs jq fo jz (by omega) (by omega) kX (λw' _=>by simp[Builtin.firstCells]) rfl;have gA:cs.size=(k+1)*sz:=by have:=h1.je;simp at this;omega
   have IL:(#[]++cs).size+(Builtin.zeroCells vz.cells (iI-(0+(k+1)))).size=iI*sz:=by
    rw[Z5,pO];have h6:(k+1)*sz+(iI-(0+(k+1)))*sz=iI*sz:=by rw[<-yW];congr 1;omega
    rw[Array.size_append,gA];simp only[List.size_toArray,gH];omega
   obtain⟨a1,a2,a3⟩:=FI.BD (show gY base w.drew from hb) (Zs (by simpa using h1) hc.2 IL) hm;refine eL.of h3 ?_ a1 a2 ((cM.sM rfl).um a3);simp only[VR];refine⟨_,0,iI,nN _ _ _,by rw[lx];rfl,.inr rfl,by omega,(λh=>by cases h),?_⟩;show 0+0+iI*sz<=iI*sz;omega
 next id off len cap gk ex=>
  obtain⟨hc,h⟩:=di h;simp only[cT,vU]at hc;have FX:=dN hc.1;subst FX;have xa:=hv;obtain⟨e,y,c,he,rfl,hy,ou,Dm,kh⟩:=hv;cases n with
  |zero=>
   cases h;obtain⟨cs,h1,h2,h3⟩:=CQ ht hu v0 v1 hs jq fo jz (by omega);have gA:cs.toList=[]:=by have:=h1.je;rw[h2]at this;simpa using this.symm
   refine eL.of (h3 w (by rw[gA];rfl)) xa hw (cz.ka _ _ _) (cM.kP _ _)
  |succ k=>
   simp only at h;have zD:∀{kl:Bool},(ex&&Nat.ble (cap+1) (len+(k+1)))=kl->kl=true->c<len+(k+1):=by
    intro kl h1 h2;subst h2;cases ex
    .simp at h1
    .have:=Dm rfl;simp only[pW,vU]at h1;omega
   have zO:∀(K:bZ) (e':PE) (x c':Nat),K H.br=some e'->x=e'.o->len+(k+1)<=c'->e'.o+c'*sz<=e'.n->VR K (.bK H.br 0 (len+(k+1)) 1 sz false) (.slice (some ⟨e'.b,x,none⟩) (len+(k+1)) c'):=by intro K e' x c' h1 h2 h3 h4;exact⟨e',x,c',h1,rfl,.inr (by simpa using h2),h3,(λh=>by cases h),by simpa using h4⟩
   have hif:∀(kl:Bool) (x y:AH),(bif kl then x else y)=(bif !kl then y else x):=by intro kl x y;cases kl<;>rfl
   unfold Ip at h;split at h;next cells lJ ho=>
    split at h;next old o5=>have⟨ow,hq⟩:=di h;cases hq;rw[hif];exact Wn hw hb hm _ ht hu v0 v1 hs jq fo pO kX jz hc.2 he hy ou kh (λhk=>zD rfl (by simpa using hk)) ho rfl (λo h=>h) (λK e o cr h=>h.s6 cr) o5 (λ_ h=>h) ow zO
    .cases h
   next cells lJ ho=>
    split at h;next old o5=>
     have⟨ow,hq⟩:=di h;simp only[cT]at ow;cases hq;rw[hif];obtain⟨o,hg,nP,hJ,rfl,ca,cr,jd,Bg⟩:=hw.ey id _ e ho he;have⟨MC,MD⟩:=GF o5;have ad9:(old++l).all AV.dH=true:=by rw[sK,cT];refine⟨?_,ow.1⟩;rw[MC];rw[oC]at Bg⊢;exact λx hx=>Bg x (Nj (Jp hx))
     exact Wn (lJ:=elem) hw hb hm _ ht hu v0 v1 hs jq fo pO kX jz hc.2 he hy ou kh (λhk=>zD rfl (by simpa using hk)) ho rfl (λo h=>h) (λK e o cr h=>ajZ cr h) o5 (λvs h=>bf.xU _ _ (by rw[xu];exact ow.2) h) ad9 zO
    .cases h
   next cells lJ ho=>
    split at h;next old o5=>
     have⟨ow,hq⟩:=di h;simp only[cT]at ow;cases hq;rw[hif];obtain⟨o,hg,nP,hJ,rfl,ca,cr,jd,Bg⟩:=hw.ey id _ e ho he;have⟨MC,MD⟩:=GF o5;have ad9:(old++l).all AV.dH=true:=by rw[sK,cT];refine⟨?_,ow.1⟩;rw[MC];rw[oC]at Bg⊢;exact λx hx=>Bg x (Nj (Jp hx))
     exact Wn (lJ:=elem) hw hb hm _ ht hu v0 v1 hs jq fo pO kX jz hc.2 he hy ou kh (λhk=>zD rfl (by simpa using hk)) ho rfl (λo h=>h) (λK e o cr h=>abu cr h) o5 (λvs h=>bf.xU _ _ (by rw[xu];exact ow.2) h) ad9 zO
    .cases h
   .cases h
 next id len gk=>
  have⟨hc,hq⟩:=di h;simp only[cT,vU]at hc;have FX:=dN hc.1;subst FX;have xa:=hv;cases n with
  |zero=>
   cases hq;rcases hv with⟨rfl,rfl⟩|⟨e,y,c,he,rfl,hy,ou,kh⟩
   .have⟨cs,h1,h2,h3⟩:=CQ (T:=T) ht hu v0 v1 hs jq fo jz (ct _);exact eL.of (h3 w rfl) xa hw (cz.ka _ _ _) (cM.kP _ _)
   .have⟨cs,h1,h2,h3⟩:=CQ (T:=T) ht hu v0 v1 hs jq fo jz (by omega);have gA:cs.toList=[]:=by have:=h1.je;rw[h2]at this;simpa using this.symm
    exact eL.of (h3 w (by rw[gA];rfl)) xa hw (cz.ka _ _ _) (cM.kP _ _)
  |succ k=>exact aoh hw hb hm ht hu v0 v1 hs jq fo hz kX Bx jz hv hc.2 hq
 .cases h
theorem eL.au{s v H'}(h:eL P m base I H w s v H'):eL P m base I H w s v (zB v H'):=by
 have⟨aK,w',v',h1,h2,h3,h4,h5⟩:=h;refine⟨aK,w',v',h1,h2,?_,?_,h5⟩;all_goals
  unfold zB;split;next id off len cap sz ex=>
   have⟨e,_,_,he,_⟩:=h2;split;next vs el ho=>
    cases hp:vs.all f_
    .first|exact h3|exact h4
    .first
      |(refine h3.put ho rfl he rfl (λ_ _=>rfl) ?_
        have⟨o,k1,cs,lJ,k2,k3,k4,k5,k6⟩:=h3.ey id _ e ho he;exact⟨o,k1,cs,lJ,k2,k3,k4,bf.xU _ _ (by rw[xu];exact hp) k5,k6⟩)
      |exact h4.wq (cz.p_ he _)
   .first|exact h3|exact h4
  .first|exact h3|exact h4
theorem axH(hw:WR I base H w)(hb:gY base w)(hm:m<=H.br){ts T vs s x v y8 vx H'}(v0:vs[0]? =some y8)(v1:vs[1]? =some vx)(hv:VR I s y8)(hx:VR I x vx)(h:KT P H ts s x=some (v,H')):
 eL P m base I H w (do pure (.value (<-Builtin.append_ ts T vs)):Sem Next) v H':=by
 unfold KT at h;cases ht:ts[0]? with
 |none=>simp[ht]at h
 |some t=>
  simp only[ht,sH]at h;split at h;next elem hu=>
   split at h;next sz gE hs jq=>
    have⟨hc,h⟩:=di h;simp at hc;have⟨fo,hz⟩:=hc;split at h;next n l jz=>
     cases DF:kA P elem with
     |none=>simp[DF]at hz
     |some z=>
      simp only[DF,BM]at hz;have⟨vz,z1,z2⟩:=Ch (I:=I) DF;split at h;next v2 H2 ha=>
       cases h;have:=axI (T:=T) hw hb hm ht hu v0 v1 hs jq fo z1 z2 (dN hz) (aNg hw jz hx) hv ha;cases Rl x&& !Nat.beq n 0
       .exact this
       .exact this.au
      .cases h
    .cases h
   .cases h
  .cases h
end
section
variable{P:Program}{I:bZ}{base:fM}{m:Nat}{H:AH}{w:World}{O:Operand->Option AV}{ev:Operand->Value}
theorem ayG{g fn args}(hf:P.funcs[g]? =some fn)(hb:fn.body.isSome=true)(hn:(fn.name== "runtime.NumGoroutine")=false)(w):
 (callFunc g args).run P w=.ok (.enter g args) w:=by
 have h1:¬(fn.body.isNone=true):=by cases h:fn.body<;>simp[h]at hb⊢
 have h2:¬((fn.name== "runtime.NumGoroutine")=true):=by rw[hn];simp
 simp only[callFunc,Sem.run_bind,run_program,Result.andThen_ok,hf,aw h2,aw h1,Sem.run_pure]
theorem Vh{f args vf NH aD}(h:AW P f args=some aD)(hf:VR I f vf)(ha:bf I args NH.toList):
 (∀w,ur P m base I H w (do let d<-Deferred.ofValue vf NH;invoke d.target d.args:Sem Next) aD)/\((∃g l,aD=.rW g l)\/∃r l,aD=.xR r l):=by
 unfold AW at h;split at h;next g first mw=>
  obtain⟨f',c',rfl,hy,h1,h2⟩:=hf;split at h;next fn jY=>
   have⟨hb,h⟩:=di h;cases h;simp only[cT,yV]at hb;refine⟨λw=>⟨f'++NH++c',?_,?_⟩,.inl ⟨_,_,rfl⟩⟩
   .simp[Deferred.ofValue,invoke,ayG jY hb.1 hb.2 w]
   .rw[DT,DT];exact(h1.xS ha).xS h2
  .cases h
 next l=>cases h;obtain⟨e,he,rfl⟩:=hf;refine⟨λw=>⟨e,NH,he,?_,ha⟩,.inr ⟨_,_,rfl⟩⟩;simp[Deferred.ofValue,invoke]
 .cases h
theorem aEt(hw:WR I base H w){t v v' f vv name}(h:afo P H t v name=some (f,v'))(hv:VR I v vv)(n):
 ∃GW,VR I v' GW/\(method (n+1) t vv name).run P w=.ok (f,GW) w:=by
 unfold afo at h;split at h;next i hi=>
  split at h;next mt hm=>
   unfold asz at h;have ao8:∀{c:Bool} {f0:FuncId},(bif mt.path.isEmpty then some (f0,v)else none)=some (f,v')->mt.path= #[]/\f0=f/\v'=v:=by intro c f0 h;have⟨h1,h2⟩:=di h;cases h2;exact⟨So.1 h1,rfl,rfl⟩
   split at h;next f0 el jY hu=>obtain⟨h1,rfl,rfl⟩:=ao8 (c:=true) h;exact⟨_,hv,by simp[method,run_typeInfo w hi,hm,h1,follow,jY,receiverAt,run_underlying hu w,Place.get]⟩
   next f0 el jY hu=>
    have⟨hp,h⟩:=di h;have h1:=So.1 hp;split at h;next id off=>
     split at h;next v2 hl=>
      cases h;obtain⟨e,he,rfl⟩:=hv;have⟨GW,k1,k2⟩:=ae2 hw hl he;refine⟨GW,k2,?_⟩;have aCd:∀(a:Addr) (s:String),(Builtin.ssaWrapNilChk_ #[t] t #[.pointer (some a),strVal "",strVal s]).run P w=.ok (.pointer (some a)) w:=by intro a s;rfl
      simp[method,run_typeInfo w hi,hm,h1,follow,jY,receiverAt,run_underlying hu w,Place.get,aCd,asAddr,k1]
     .cases h
    .cases h
   next f0 d rz jY hu=>
    obtain⟨h1,rfl,rfl⟩:=ao8 (c:=true) h;refine⟨_,hv,?_⟩;simp only[method,Sem.run_bind,run_typeInfo w hi,Result.andThen_ok,hm,h1,follow,jY,Sem.run_pure];simp only[receiverAt,Sem.run_bind,run_underlying hu w,Result.andThen_ok];cases d<;>first
     |(exact absurd rfl (rz _))
     |simp[Place.get]
   .cases h
  .cases h
 .cases h
end
section
variable{P:Program}{I:bZ}{base:fM}{m:Nat}{H:AH}{w:World}{O:Operand->Option AV}{ev:Operand->Value}
theorem aBV(hw:WR I base H w){o r name args argTypes aD}(ho:o.op=.call {callee:=.invoke r name,args,argTypes})(hr:oN I O ev (r::args.toList))(h:WI P O H r name args=some aD):
 ur P m base I H w (execOp ev o) aD:=by
 unfold WI at h;split at h;next t v l e1 e2=>
  split at h;next f v' aCE=>
   have nS:=EL (hr.qS (λx hx=>dZ _ hx)) e2;have⟨vv,hv,hvv⟩:=hr r (dk ..) _ e1;have⟨GW,aC8,dP⟩:=aEt hw aCE hvv (P.types.size+Made.depth-1);have hd:1<=Made.depth:=by decide
   have hfu:P.types.size+Made.depth-1+1=P.types.size+Made.depth:=by omega
   rw[hfu]at dP;have IA:=Vh (m:=m) (base:=base) (H:=H) (NH:= #[GW]++args.map ev) h ⟨#[],#[],rfl,rfl,mq,mq⟩ (by rw[DT];exact r_.2 ⟨aC8,by simpa using nS⟩);have h0:=IA.1 w;have zH:(#[ev r]++args.map ev).extract 1 (#[ev r]++args.map ev).size=args.map ev:=by apply Array.ext';simp;exact BN (by simp)
   have e0:(execOp ev o).run P w=(do let d<-Deferred.ofValue (.func (.func f) #[] #[]) (#[GW]++args.map ev);invoke d.target d.args:Sem Next).run P w:=by
    have g0:(#[ev r]++args.map ev)[0]? =some (ev r):=by rw[<-yU,DT];rfl
    have ge:(execOp ev o).run P w=(callMethod (ev r) name (args.map ev)).run P w:=by have⟨d,op,ty,p,af,gu⟩:=o;cases ho;have e1:execOp ev {dst:=d,op:=.call {callee:=.invoke r name,args,argTypes},type:=ty,pos:=p,after:=af,guard:=gu}=(do let d<-resolve ev {callee:=.invoke r name,args,argTypes} ty;invoke d.target d.args:Sem Next):=rfl;have e2:resolve ev {callee:=.invoke r name,args,argTypes} ty=(pure {target:=.fn (.method name) #[],args:= #[ev r]++args.map ev}:Sem Deferred):=rfl;rw[e1,e2,Sem.run_bind,Sem.run_pure,Result.andThen_ok];simp only[invoke,g0,zH]
    rw[ge,hv];have e3:(callMethod (.iface t vv) name (args.map ev)).run P w=(callFunc f (#[GW]++args.map ev)).run P w:=by simp only[callMethod,Sem.run_bind,run_program,Result.andThen_ok,dP]
    rw[e3];simp only[Deferred.ofValue,Sem.run_bind,Sem.run_pure,Result.andThen_ok,invoke];simp
   rcases IA.2 with⟨g,l',rfl⟩|⟨g,l',rfl⟩
   .have⟨args',a1,a2⟩:=h0;exact⟨args',by rw[e0];exact a1,a2⟩
   .have⟨e,args',a0,a1,a2⟩:=h0;exact⟨e,args',a0,by rw[e0];exact a1,a2⟩
  .cases h
 .cases h
end
section
variable{P:Program}{I:bZ}{base:fM}{m:Nat}{H:AH}{w:World}{O:Operand->Option AV}{ev:Operand->Value}
theorem aBR{o b args argTypes aD l}(ho:o.op=.call {callee:=.builtin b,args,argTypes})(hw:WR I base H w)(hb:gY base w)(hm:m<=H.br)(jd:bf I l (args.map ev).toList)(h:L5 P H b l argTypes=some aD):
 ur P m base I H w (execOp ev o) aD:=by
 have dP:∀s:Sem Next,(∀PR,builtin b argTypes o.type PR (args.map ev)=s)->(execOp ev o).run P w=s.run P w:=by intro s hs;have⟨d,op,ty,p,af,gu⟩:=o;cases ho;have e1:execOp ev {dst:=d,op:=.call {callee:=.builtin b,args,argTypes},type:=ty,pos:=p,after:=af,guard:=gu}=(do let d<-resolve ev {callee:=.builtin b,args,argTypes} ty;invoke d.target d.args:Sem Next):=rfl;have e2:resolve ev {callee:=.builtin b,args,argTypes} ty=(pure {target:=.builtin b argTypes ty (args.map λ|.const _=>true|_=>false),args:=args.map ev}:Sem Deferred):=rfl;rw[e1,e2,Sem.run_bind,Sem.run_pure,Result.andThen_ok];rw[<-hs (args.map λ|.const _=>true|_=>false)];rfl
 have Rr:∀(s:Sem Next) v H',(∀PR,builtin b argTypes o.type PR (args.map ev)=s)->eL P m base I H w s v H'->ur P m base I H w (execOp ev o) (.gQ v H'):=by intro s v H' hs ⟨aK,w',v',h1,h2⟩;exact⟨aK,w',v',by rw[dP s hs];exact h1,h2⟩
 unfold L5 at h;split at h;next s x=>
  obtain⟨v0,r1,e1,xa,v1,r2,rfl,xd,rfl⟩:=jd;have g0:(args.map ev)[0]? =some v0:=by rw[<-yU,e1];rfl
  have g1:(args.map ev)[1]? =some v1:=by rw[<-yU,e1];rfl
  cases ha:KT P H argTypes s x with
  |none=>simp[ha,YM]at h
  |some r=>have⟨v,H'⟩:=r;simp only[ha,YM]at h;cases h;exact Rr _ _ _ (λ_=>rfl) (axH hw hb hm g0 g1 xa xd ha)
 .cases h;simp only[ur];rw[dP (pure .recover) (λ_=>rfl)];rfl
 next id k=>obtain⟨v0,r1,e1,xa,v1,r2,rfl,xd,rfl⟩:=jd;obtain⟨e,he,rfl⟩:=xa;obtain⟨v,H',rfl,h1⟩:=azC hw h he xd e1;exact Rr _ _ _ (λ_=>rfl) h1
 .cases h
end
section
variable{P:Program}{I:bZ}{base:fM}{m:Nat}{H:AH}{w:World}{O:Operand->Option AV}{ev:Operand->Value}
theorem aoM{o aD}(hw:WR I base H w)(hb:gY base w)(hm:m<=H.br)(hr:oN I O ev o.op.operands.toList)(h:ot P O H o.op=some aD):ur P m base I H w (execOp ev o) aD:=by
 cases o with
 |mk dst op type pos after guard=>
 simp only at hr h;cases op<;>simp only[ot]at h<;>try (cases h;done)
 case store t a x=>
  unfold L_ at h;split at h;next id off v ha hx=>
   obtain⟨e,he,hv⟩:=hr a (by simp[Op.operands]) _ ha;cases hs:Nu P H t id off v with
   |none=>simp[hs,tV]at h
   |some H'=>simp only[hs,tV]at h;cases h;obtain⟨w',h1,h2,h3,h4⟩:=aMZ (P:=P) hw hs he (hr x (by simp[Op.operands]) _ hx);simp only[ur,execOp];exact eL.OL (by simp[Instr.storeAt,Instr.sureAddr,hv,h1]) h2 (h4 m) h3
  next n off v ha hx=>
   obtain⟨e,he,hv⟩:=hr a (by simp[Op.operands]) _ ha;cases hs:SJ P H t n off v with
   |none=>simp[hs,tV]at h
   |some H'=>simp only[hs,tV]at h;cases h;obtain⟨w',h1,h2,h3,h4⟩:=aM0 (P:=P) hw hs he (hr x (by simp[Op.operands]) _ hx);simp only[ur,execOp];exact eL.OL (by simp[Instr.storeAt,Instr.sureAddr,hv,h1]) h2 (h4 m) h3
  .cases h
 case mapUpdate t mm k x=>
  unfold L8 at h;split at h;next am ak av e1 e2 e3=>
   cases hs:MT P H t am ak av with
   |none=>simp[hs,tV]at h
   |some H'=>simp only[hs,tV]at h;cases h;obtain⟨w',h1,h2,h3,h4⟩:=aqS (P:=P) hw hs (hr mm (by simp[Op.operands]) _ e1) (hr k (by simp[Op.operands]) _ e2) (hr x (by simp[Op.operands]) _ e3);simp only[ur,execOp];exact eL.OL h1 h2 (h4 m) h3
  .cases h
 case insert t mm k x=>
  unfold L8 at h;split at h;next am ak av e1 e2 e3=>
   cases hs:MT P H t am ak av with
   |none=>simp[hs,tV]at h
   |some H'=>simp only[hs,tV]at h;cases h;obtain⟨w',h1,h2,h3,h4⟩:=aqS (P:=P) hw hs (hr mm (by simp[Op.operands]) _ e1) (hr k (by simp[Op.operands]) _ e2) (hr x (by simp[Op.operands]) _ e3);simp only[ur,execOp];exact eL.OL h1 h2 (h4 m) h3
  .cases h
 case mapEntry t mm k=>
  unfold QB at h;split at h;next kt elem id key hu e1 e2=>have⟨e,he,hv⟩:=hr mm (by simp[Op.operands]) _ e1;obtain⟨v,H',rfl,h1⟩:=aAC (P:=P) (m:=m) hw hu h he (hr k (by simp[Op.operands]) _ e2);simp only[ur,execOp,hv];exact h1
  .cases h
 case entryStore t mm s x=>
  unfold WH at h;split at h;next id k born v e1 e2 e3=>have⟨e,he,hv⟩:=hr mm (by simp[Op.operands]) _ e1;have hs:=hr s (by simp[Op.operands]) _ e2;simp only[VR]at hs;obtain⟨H',rfl,h1⟩:=aAD (P:=P) (m:=m) (t:=t) (k:=k) hw h he (hr x (by simp[Op.operands]) _ e3);simp only[ur,execOp,hv,hs];exact h1
  .cases h
 case range t x=>obtain⟨v,H',rfl,h1⟩:=aB0 (P:=P) (m:=m) hw hb hm (λa ha=>hr x (by simp[Op.operands]) a ha) h;exact h1
 case next it zR=>obtain⟨v,H',rfl,h1⟩:=aBX (P:=P) (m:=m) (T:=type) hw (λa ha=>hr it (by simp[Op.operands]) a ha) h;exact h1
 case entry it=>obtain⟨v,H',rfl,h1⟩:=aBT (P:=P) (m:=m) hw (λa ha=>hr it (by simp[Op.operands]) a ha) h;exact h1
 case panic x=>
  unfold adN at h;split at h;next t a hx=>cases h;have hv:=hr x (by simp[Op.operands]) _ hx;have DD:=hv;have⟨va,e,_⟩:=DD;simp only[ur,execOp];exact⟨ev x,by simp[Instr.panic,e],hv⟩
  .cases h
 case defer c=>
  unfold L6 at h;have⟨callee,args,argTypes⟩:=c;cases callee<;>simp only at h<;>try (cases h;done)
  rename_i f;split at h;next fn first mw l e1 e2=>
   cases hy:yJ fn;case true=>rw[hy]at h;cases h
   rw[hy]at h;simp at h;cases h;have nS:=EL (hr.qS (l':=args.toList) (λx hx=>by simp[Op.operands,Call.operands];exact .inr (by simpa using hx))) e2;have⟨f',c',hv,_,h1,h2⟩:=hr f (by simp[Op.operands,Call.operands]) _ e1;simp only[ur,execOp];refine⟨{target:=.fn fn c',args:=f'++args.map ev},by simp[resolve,hv,Deferred.ofValue],c',f'++args.map ev,rfl,hy,h2,?_⟩;rw[DT];exact h1.xS (by simpa using nS)
  .cases h
 case call c=>
  unfold adM at h;have⟨callee,args,argTypes⟩:=c;cases callee<;>simp only at h;case value f=>
   unfold adQ at h;split at h;next g l e1 e2=>have nS:=EL (hr.qS (l':=args.toList) (λx hx=>by simp[Op.operands,Call.operands];exact .inr (by simpa using hx))) e2;have:=(Vh (P:=P) (m:=m) (base:=base) (H:=H) (NH:=args.map ev) h (hr f (by simp[Op.operands,Call.operands]) _ e1) (by simpa using nS)).1 w;simpa only[execOp,resolve]using this
   .cases h
  case invoke r name=>exact aBV hw rfl (hr.qS (l':=r::args.toList) (λx hx=>by simp[Op.operands,Call.operands];simpa using hx)) h
  case builtin b=>
   split at h;next l hl=>have nS:=EL (hr.qS (l':=args.toList) (λx hx=>by simp[Op.operands,Call.operands];simpa using hx)) hl;exact aBR rfl hw hb hm (by simpa using nS) h
   .cases h
end
end
end Go.Ev
