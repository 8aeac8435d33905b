/- Part of a proof of ClauseValid. -/
import Derived.Test.YtanclcoobcaemaaGreatVB9
set_option linter.all false
set_option linter.unusedSectionVars false
set_option maxRecDepth 100000
namespace Go.Cl
open Go.Ev Go.Proofs
noncomputable section
mutual
def kU(e:Int):aK->aK
 |.mk k n s l=>.mk k (if k=0 then n+e else n) s (gI e l)
def gI(e:Int):bH->bH
 |[]=>[]
 |t::l=>kU e t::gI e l
end
def iQ(e:Int)(g:gH):gH:=⟨g.cS,g.ay,gI e g.cx,if g.cS=2∨g.cS=3∨g.cS=4 then g.gE+e else g.gE⟩
def mL(e:Int)(f:bg):bg:=⟨f.ay,gI e f.aO,f.aA.map (iQ e)⟩
def gD{β:Type}(e:Int)(m:List (Int×β)):List (Int×β):=m.map fun p=>(p.1+e,p.2)
section
variable{β:Type}{e:Int}
theorem uX(v:Int):∀m:List (Int×β),lk (v+e) (gD e m)=lk v m
 |[]=>rfl
 |(x,w)::m=>by
  have ih:=uX v m;unfold gD at ih⊢;simp only[List.map_cons,lk];by_cases h:v=x
  ·subst h;simp
  ·rw[if_neg (by omega),if_neg h];exact ih
theorem Cq(v:Int)(x:β):∀m:List (Int×β),up (v+e) x (gD e m)=gD e (up v x m)
 |[]=>rfl
 |(y,w)::m=>by
  have ih:=Cq v x m;unfold gD at ih⊢;simp only[List.map_cons,up];by_cases h:v=y
  ·subst h;simp
  ·rw[if_neg (by omega),if_neg h,ih];rfl
end
theorem C'(e:Int):∀l:bH,(gI e l).length=l.length
 |[]=>rfl
 |t::l=>by simp[gI,C' e l]
section
variable{e:Int}
theorem Gq(t:aK):(kU e t).df=t.df:=by cases t;rfl
theorem Gr(t:aK):(kU e t).f_=t.f_:=by cases t;rfl
theorem ah3(t:aK):(kU e t).dE=gI e t.dE:=by cases t;rfl
theorem J2{t:aK}(h:t.df=0):(kU e t).n=t.n+e:=by obtain⟨k,n,s,l⟩:=t;exact if_pos h
theorem J3{t:aK}(h:t.df≠0):(kU e t).n=t.n:=by obtain⟨k,n,s,l⟩:=t;exact if_neg h
theorem acr(v:Int)(m:List (Int×Int)):xO (v+e) (gD e m)=gD e (xO v m):=by unfold xO;rw[uX,Cq]
mutual
theorem aje:∀(t:aK) (m:List (Int×Int)),pI (gD e m) (kU e t)=gD e (pI m t)
 |.mk k n s l,m=>by
  simp only[kU,pI];by_cases h:k=0
  ·rw[if_pos h,if_pos h,if_pos h,acr];exact GG l _
  ·rw[if_neg h,if_neg h];exact GG l _
theorem GG:∀(l:bH) (m:List (Int×Int)),lE (gD e m) (gI e l)=gD e (lE m l)
 |[],m=>rfl
 |t::l,m=>by simp only[gI,lE,aje t m,GG l]
end
theorem amO{g:gH}(h:xP g.cS=true):(iQ e g).gE=g.gE+e:=by unfold xP at h;simp only[Bool.or_eq_true,beq_iff_eq]at h;exact if_pos (by omega)
theorem ajc(m:List (Int×Int))(g:gH):yQ (gD e m) (iQ e g)=gD e (yQ m g):=by
 unfold yQ;show(if xP g.cS=true then xO (iQ e g).gE (lE (gD e m) (gI e g.cx))else lE (gD e m) (gI e g.cx))=_;rw[GG];split
 ·rename_i h;rw[amO h,acr]
 ·rfl
theorem ZQ:∀(l:cY) (m:List (Int×Int)),xb (gD e m) (l.map (iQ e))=gD e (xb m l)
 |[],m=>rfl
 |g::l,m=>by have:=ZQ l (yQ m g);unfold xb at this⊢;simp only[List.map_cons,List.foldl_cons,ajc];exact this
theorem ajb(f:bg):ql (mL e f)=gD e (ql f):=by unfold ql;have:lE [] (gI e f.aO)=gD e (lE [] f.aO):=GG f.aO [];show xb (lE [] (gI e f.aO)) (f.aA.map (iQ e))=_;rw[this,ZQ]
def qd(e:Int)(st:dg):dg:=(gD e st.1,st.2.map (· +e))
theorem adY(st:dg)(v c:Int):jm (qd e st) (v+e) c=qd e (jm st v c):=by
 unfold jm qd;simp only[uX];cases lk v st.1 with
 |none=>simp only[Cq,List.length_map,List.map_append,List.map_cons,List.map_nil]
 |some s=>simp only[Cq]
mutual
theorem an7(c:Int):∀(t:aK) (st:dg),lP c (qd e st) (kU e t)=qd e (lP c st t)
 |.mk k n s l,st=>by
  simp only[kU,lP];by_cases h:k=0
  ·rw[if_pos h,if_pos h,if_pos h,adY]
  ·rw[if_neg h,if_neg h];exact MY c l st
theorem MY(c:Int):∀(l:bH) (st:dg),gg c (qd e st) (gI e l)=qd e (gg c st l)
 |[],st=>rfl
 |t::l,st=>by simp only[gI,gg,an7 c t st,MY c l]
end
theorem aok{g:gH}(h:oL g=true):(iQ e g).gE=g.gE+e:=if_pos (of_decide_eq_true h)
theorem an5(c:Int)(st:dg)(g:gH):rG c (qd e st) (iQ e g)=qd e (rG c st g):=by
 unfold rG;show(if oL g=true then jm (gg c (qd e st) (gI e g.cx)) (iQ e g).gE c else gg c (qd e st) (gI e g.cx))=_;rw[MY];split
 ·rename_i h;rw[aok h,adY]
 ·rfl
theorem ad2:∀(l:cY) (c:Nat) (st:dg),rH c (qd e st) (l.map (iQ e))=qd e (rH c st l)
 |[],c,st=>rfl
 |g::l,c,st=>by simp only[List.map_cons,rH,an5];exact ad2 l _ _
theorem adW(f:bg):ik (mL e f)=qd e (ik f):=by unfold ik wm;have:gg 0 ([],[]) (gI e f.aO)=qd e (gg 0 ([],[]) f.aO):=MY 0 f.aO ([],[]);show rH 0 (gg 0 ([],[]) (gI e f.aO)) (f.aA.map (iQ e))=_;rw[this,ad2]
theorem acI(sp:List (Int×c9))(v:Int):kS (gD e sp) (v+e)=kS sp v:=by unfold kS;rw[uX]
theorem ajn(sp:List (Int×c9))(v:Int):s_ (gD e sp) (v+e)=s_ sp v:=by unfold s_ Ib;rw[uX]
theorem acy{sp:List (Int×c9)}(x:Int):∀l:List Int,pV (kS (gD e sp)) (x+e) (l.map (· +e))=(pV (kS sp) x l).map (· +e)
 |[]=>rfl
 |y::l=>by
  simp only[List.map_cons,pV,acI];split
  ·rw[acy x l];rfl
  ·rfl
theorem agE{sp:List (Int×c9)}:∀l:List Int,ct (kS (gD e sp)) (l.map (· +e))=(ct (kS sp) l).map (· +e)
 |[]=>rfl
 |x::l=>by simp only[List.map_cons,ct,agE l,acy]
theorem Iv(f:bg):dV (mL e f)=(dV f).map (· +e):=by
 unfold dV;rw[adW];unfold qd;simp only;rw[←agE,List.filter_map];have:(s_ (gD e (ik f).1)∘fun x=>x+e)=s_ (ik f).1:=by funext v;exact ajn (ik f).1 v
 rw[this]
theorem aeq:∀(l:List Int) (i:Nat) (m:List (Int×Int)),mG i (gD e m) (l.map (· +e))=gD e (mG i m l)
 |[],i,m=>rfl
 |v::l,i,m=>by simp only[List.map_cons,mG,Cq];exact aeq l (i+1) _
theorem ac7(sp:List (Int×c9))(c:Int):∀l:List Int,og (gD e sp) c (l.map (· +e))=og sp c l
 |[]=>rfl
 |v::l=>by simp only[List.map_cons,og,acI,ac7 sp c l]
theorem ac5(sp:List (Int×c9))(a8:List Int):∀(l:cY) (c:Nat),pk (gD e sp) (a8.map (· +e)) c (l.map (iQ e))=pk sp a8 c l
 |[],c=>rfl
 |g::l,c=>by simp only[List.map_cons,pk,ac7];rw[ac5 sp a8 l];rfl
theorem ad6:∀(l:cY) (c:Nat),p6 c (l.map (iQ e))=p6 c l
 |[],c=>rfl
 |g::l,c=>by simp only[List.map_cons,p6];rw[ad6 l];rfl
theorem QB:∀(l:cY) (d:List Int) (c:Int),kA d c (l.map (iQ e))=kA d c l
 |[],d,c=>rfl
 |g::l,d,c=>by simp only[List.map_cons,kA];have h1:(iQ e g).cS=g.cS:=rfl;have h2:(iQ e g).cx.length=g.cx.length:=C' e g.cx;rw[h1,h2,QB l,QB l]
theorem Qz(f:bg):ep (mL e f)=ep f:=by unfold ep;show kA [] ((gI e f.aO).length:Int) (f.aA.map (iQ e))=_;rw[C',QB]
theorem acs:∀l:cY,oI (l.map (iQ e))=oI l
 |[]=>rfl
 |[_]=>rfl
 |g::g'::l=>by have:=acs (g'::l);simp only[List.map_cons,oI]at this⊢;rw[this];rfl
theorem ZL(f:bg):dc (mL e f)=⟨(dc f).cg,(dc f).a8.map (· +e),(dc f).aU⟩:=by unfold dc;rw[Iv,adW];show(⟨p6 0 (f.aA.map (iQ e)),_,pk (gD e (ik f).1) _ 0 (f.aA.map (iQ e))⟩:gP)=_;rw[ad6,ac5]
theorem aaC(f:bg):iY (mL e f) (dc (mL e f))=iY f (dc f):=by rw[ZL];unfold iY;show(oI (f.aA.map (iQ e))||decide (0<((dc f).a8.map (· +e)).length))=_;rw[acs,List.length_map]
def fj(e:Int)(m:Em):Em:=⟨m.aM,mL e m.f,gD e m.gF,gD e m.a8,gD e m.dZ,gD e m.du,m.bT,m.gN⟩
theorem Ch(m:Em)(i:a9):(fj e m).aE i=fj e (m.aE i):=rfl
theorem agc(m:Em):(fj e m).bq=fj e m.bq:=rfl
theorem agk(m:Em):(fj e m).bT=m.bT:=rfl
theorem avc(m:Em)(v:Int):(fj e m).jV (v+e)=m.jV v:=by unfold Em.jV;show((lk (v+e) (gD e m.a8)).isNone&&(lk (v+e) (gD e m.dZ)).isNone)=_;rw[uX,uX]
theorem We(m:Em)(v:Int):(fj e m).ej (v+e)=m.ej v:=by
 unfold Em.ej;show(match lk (v+e) (gD e m.a8)with|some k=>wI (-k)|none=>match lk (v+e) (gD e m.dZ)with|some r=>r|none=>wI (m.bT+1))=_;rw[uX,uX];cases lk v m.a8 with
 |some k=>rfl
 |none=>cases lk v m.dZ<;>rfl
theorem Wd(m:Em)(v:Int):(fj e m).eH (v+e)=fj e (m.eH v):=by
 have h:=avc (e:=e) m v;unfold Em.eH;rw[h];unfold fj;cases m.jV v
 ·rfl
 ·simp only[cond_true,Cq]
theorem agj(m:Em)(v:Int):(fj e m).l9 (v+e)=fj e (m.l9 v):=by unfold Em.l9 fj;simp only[Cq]
theorem Wc(m:Em)(v:Int):(fj e m).ei (v+e)=m.ei v:=by unfold Em.ei;show(lk (v+e) (gD e m.du)).getD false=_;rw[uX]
theorem NH(m:Em)(v:Int):(fj e m).qX (v+e)=m.qX v:=by unfold Em.qX;show(lk (v+e) (gD e m.gF)).getD 0=_;rw[uX]
theorem NI(m:Em)(v a b c:Int):(fj e m).gO (v+e) a b c=fj e (m.gO v a b c):=by unfold Em.gO;rw[Wd,Wc,We,Ch,agj]
theorem au9(m:Em)(t:aK)(b:Int):(fj e m).e9 (kU e t) b=fj e (m.e9 t b):=by
 unfold Em.e9;rw[Gq,Gr];by_cases h:t.df=0
 ·rw[if_pos h,if_pos h,J2 h,NH,NI];split<;>rfl
 ·rw[if_neg h,if_neg h,J3 h];split
  ·rfl
  ·split<;>rfl
theorem af9:∀(l:bH) (bs:List Int) (m:Em),(fj e m).jQ ((gI e l).zip bs)=fj e (m.jQ (l.zip bs))
 |[],bs,m=>rfl
 |t::l,[],m=>rfl
 |t::l,b::bs,m=>by have:=af9 l bs (m.e9 t b);unfold Em.jQ at this⊢;simp only[gI,List.zip_cons_cons,List.foldl_cons,au9];exact this
mutual
theorem agb:∀(m:Em) (r:Int) (t:aK),(fj e m).jf r (kU e t)=fj e (m.jf r t)
 |m,r,.mk k n s l=>by simp only[kU,Em.jf];rw[Wb m l];simp only;rw[C',Ch,af9]
theorem Wb:∀(m:Em) (l:bH),(fj e m).fq (gI e l)=(fj e (m.fq l).1,(m.fq l).2)
 |m,[]=>rfl
 |m,t::l=>by
  simp only[gI,Em.fq];rw[Gq];by_cases h:t.df=3
  ·rw[if_pos h,if_pos h,agc,agk,agb m.bq m.bq.bT t,Wb _ l]
  ·rw[if_neg h,if_neg h,Wb m l]
end
theorem ave(m:Em)(w:Int×aK):(fj e m).kP (w.1,kU e w.2)=fj e (m.kP w):=by
 unfold Em.kP;simp only[Gq];by_cases h:w.2.df=0
 ·rw[if_pos h,if_pos h];unfold Em.rL;simp only[J2 h,NH,NI];split<;>rfl
 ·rw[if_neg h,if_neg h];split
  ·unfold Em.Fq;simp only[J3 h];rfl
  ·split
   ·unfold Em.Fp;simp only[Gr];rfl
   ·exact agb m w.1 w.2
theorem agl:∀(l:bH) (i:Nat) (m:Em),Em.dW i (fj e m) (gI e l)=fj e (Em.dW i m l)
 |[],i,m=>rfl
 |t::l,i,m=>by simp only[gI,Em.dW];rw[ave m (((i+1:Nat):Int),t),agl l]
def yj(e:Int)(q:List (Int×aK)):List (Int×aK):=q.map fun w=>(w.1,kU e w.2)
theorem ava(m:Em)(t:aK):(fj e m).gf (kU e t)=(fj e (m.gf t).1,yj e (m.gf t).2):=by
 unfold Em.gf;rw[Gq,Gr];by_cases h:t.df=0
 ·rw[if_pos h,if_pos h,J2 h,NH,NI];split<;>rfl
 ·rw[if_neg h,if_neg h,J3 h];split
  ·rfl
  ·split<;>rfl
theorem aga:∀(l:bH) (m:Em) (q:List (Int×aK)),(fj e m).gk (yj e q) (gI e l)=(fj e (m.gk q l).1,yj e (m.gk q l).2)
 |[],m,q=>rfl
 |t::l,m,q=>by
  simp only[gI,Em.gk];rw[ava m t];simp only;have:yj e q++yj e (m.gf t).2=yj e (q++(m.gf t).2):=by unfold yj;rw[List.map_append]
  rw[this,aga l]
theorem age:∀(n:Nat) (m:Em) (q:List (Int×aK)),(fj e m).lY n (yj e q)=fj e (m.lY n q)
 |0,m,q=>rfl
 |n+1,m,[]=>rfl
 |n+1,m,w::q=>by show(fj e m).lY (n+1) ((w.1,kU e w.2)::yj e q)=_;simp only[Em.lY,Gr,ah3,C',Ch];rw[aga w.2.dE _ q];exact age n _ _
mutual
theorem ah4:∀t:aK,cG (kU e t)=cG t
 |.mk k n s l=>by simp only[kU,cG,Qd l]
theorem Qd:∀l:bH,bA (gI e l)=bA l
 |[]=>rfl
 |t::l=>by simp only[gI,bA,ah4 t,Qd l]
end
theorem avd(m:Em)(w:Int×aK):(fj e m).mn (w.1,kU e w.2)=fj e (m.mn w):=by
 unfold Em.mn;simp only[Gq];by_cases h:w.2.df=0
 ·rw[if_pos h,if_pos h];unfold Em.sa;simp only[J2 h,NH,NI];split<;>rfl
 ·rw[if_neg h,if_neg h];split
  ·unfold Em.DQ;simp only[J3 h];rfl
  ·split
   ·unfold Em.DP;simp only[Gr];rfl
   ·unfold Em.y';have hq:fc [(w.1,kU e w.2)]=fc [w]:=by obtain⟨r,k,n,s,l⟩:=w;simp only[fc,kU,aK.dE,Qd]
    rw[hq];exact age _ m [w]
theorem agh:∀(l:bH) (i:Nat) (m:Em),Em.fA i (fj e m) (gI e l)=fj e (Em.fA i m l)
 |[],i,m=>rfl
 |t::l,i,m=>by simp only[gI,Em.fA];rw[avd m (((i+1:Nat):Int),t),agh l]
theorem agi(m:Em)(op v:Int):(fj e m).jj (op,v+e)=fj e (m.jj (op,v)):=by unfold Em.jj;simp only[Wc,agc,agk,Ch,Wd,We,agj];cases m.ei v<;>rfl
theorem avb(m:Em)(v:Int):(fj e m).ml (v+e)=fj e (m.ml v):=by unfold Em.ml;simp only[Wc,Wd,We,Ch];cases m.ei v<;>rfl
theorem agd(m:Em)(aR:Bool):(fj e m).cm aR=fj e (m.cm aR):=by cases aR<;>rfl
theorem agf(c:gP)(c':gP)(hc:c'.aU=c.aU∧c'.cg=c.cg)(base:List Int)(aR:Bool):∀(l:cY) (i:Nat) (size:Int) (m:Em),Em.aA c' base aR i size (fj e m) (l.map (iQ e))=fj e (Em.aA c base aR i size m l)
 |[],i,size,m=>by simp only[List.map_nil,Em.aA,agd,Ch]
 |g::l,i,size,m=>by
  have ih:=agf c c' hc base aR l;simp only[List.map_cons];unfold Em.aA;have hk:(iQ e g).cS=g.cS:=rfl;have hp:(iQ e g).ay=g.ay:=rfl;have ha:(iQ e g).cx=gI e g.cx:=rfl;rw[hk,hp,ha,hc.1,hc.2];by_cases h2:g.cS=2
  ·rw[if_pos h2,if_pos h2,show(iQ e g).gE=g.gE+e from if_pos (.inl h2),agi];exact ih _ _ _
  rw[if_neg h2,if_neg h2];by_cases h3:g.cS=3
  ·rw[if_pos h3,if_pos h3,show(iQ e g).gE=g.gE+e from if_pos (.inr (.inl h3)),agi];exact ih _ _ _
  rw[if_neg h3,if_neg h3];by_cases h4:g.cS=4
  ·rw[if_pos h4,if_pos h4,show(iQ e g).gE=g.gE+e from if_pos (.inr (.inr h4)),avb];exact ih _ _ _
  rw[if_neg h4,if_neg h4];by_cases h5:g.cS=5
  ·rw[if_pos h5,if_pos h5];rfl
  rw[if_neg h5,if_neg h5];by_cases h1:g.cS=1
  ·rw[if_pos h1,if_pos h1,agl];cases l with
   |nil=>simp only[List.map_nil,agd,Ch]
   |cons g2 l2=>
    simp only[List.map_cons]at ih⊢;split
    ·exact ih (i+1) (c.aU.getD i 0) ((((Em.dW 0 m g.cx).aE ⟨17,0,0,c.aU.getD i 0,[],0⟩).aE ⟨19,0,0,g.ay.aC,g.ay.ca,g.ay.ar⟩).rO (base.getD (c.cg.getD i 0+1).toNat 0))
    ·exact ih (i+1) size (((Em.dW 0 m g.cx).aE ⟨19,0,0,g.ay.aC,g.ay.ca,g.ay.ar⟩).rO (base.getD (c.cg.getD i 0+1).toNat 0))
  ·rw[if_neg h1,if_neg h1];exact ih _ _ _
theorem ajK(f:bg):fO (mL e f)=fj e (fO f):=by
 have hA:gQ (mL e f)=fj e (gQ f):=by
  have h0:kW (mL e f)=fj e (kW f):=by unfold kW fj;simp only[ajb,Iv,Qz];have:mG 0 [] ((dV f).map (· +e))=gD e (mG 0 [] (dV f)):=aeq (dV f) 0 [];rw[this];rfl
  unfold gQ;rw[aaC,h0,Iv,List.length_map];cases iY f (dc f)<;>rfl
 unfold fO;rw[aaC,Qz,Iv,List.length_map,hA];have hf:(fj e (gQ f)).f.aO=gI e (gQ f).f.aO:=rfl;rw[hf,agh];have hg:(fj e ((gQ f).fA 0 (gQ f).f.aO)).f.aA=((gQ f).fA 0 (gQ f).f.aO).f.aA.map (iQ e):=rfl;rw[hg];exact agf (dc f) (dc (mL e f)) (by rw[ZL];exact⟨rfl,rfl⟩) _ _ _ _ _ _
theorem ajh(f:bg):jt (mL e f)=jt f:=by unfold jt;rw[ajK,Iv,List.length_map,Qz];rfl
theorem ZZ:∀l:cY,ju (l.map (iQ e))=(ju l).map (iQ e)
 |[]=>rfl
 |g::l=>by
  simp only[List.map_cons,ju];have hk:(iQ e g).cS=g.cS:=rfl;rw[hk];split
  ·rfl
  ·rw[ZZ l];rfl
theorem ajp(f:bg):a_ (mL e f)=mL e (a_ f):=by unfold a_ mL;simp only[ZZ]
theorem amT(f:bg):lM nB (mL e f).aO=lM nB f.aO:=by
 show lM nB (gI e f.aO)=_;cases f.aO with
 |nil=>rfl
 |cons t l=>
  obtain⟨k,n,s,l'⟩:=t;simp only[gI,lM,kU,aK.df,aK.n,aK.f_,aK.dE,C'];unfold nB;by_cases h:k=0
  ·subst h;simp
  ·rw[if_neg h]
theorem ajk{f:bg}{id:Int}(h1:ez f=true)(h2:ez (mL e f)=true):cL (mL e f) id=cL f id:=by unfold cL;rw[h1,h2,ajp,ajh,amT];rfl
end
theorem aj6{P:Program}{f:FuncId}{args Gv:LV}{H H2 H':AH}{v:AV}{R:bf->bf->Prop}(h:dT P f Gv H2 v H')(hm:ox H.bL H H2 R)
 (ha:∀φ aW,R φ aW->∀l,bc φ args l->bc aW Gv l):dT P f args H v H':=by
 intro φ w bs args' cs hv hw hl;obtain⟨hn,hm⟩:=hm;obtain⟨qh,k1,k2,k3⟩:=hm φ bs w (Nat.le_refl _) hw;obtain⟨aW,w',g1,g2,g3,g4⟩:=h qh w bs args' cs (ha _ _ k3 _ hv) k1 hl;exact⟨aW,w',g1,k2.ub (g2.mono hn),g3,g4⟩
def acD(N:Nat)(cells:LV):Prop:=∃t,cR t=cells∧eR t∧gT t=true∧cG t<N
def acE(cells:LV):Prop:=∃t,cR t=cells∧eR t∧gT t=true
theorem KG:∀a b:bH,aP (a++b)=aP a++aP b
 |[],b=>rfl
 |t::a,b=>by simp[aP,KG a b]
theorem adH:∀{l:bH} {i:Nat} (h:i<l.length),g_ l=true->gT l[i]=true
 |[],i,h,_=>by simp at h
 |t::l,0,h,ho=>by simp only[g_,Bool.and_eq_true]at ho;exact ho.1
 |t::l,i+1,h,ho=>by simp only[g_,Bool.and_eq_true]at ho;exact adH (l:=l) (by simpa using h) ho.2
def pv(fr k n:Int):Int:=if k=0 then wI (n+fr)else n
mutual
def pw(fr:Int):aK->aK
 |.mk k n s l=>.mk k (pv fr k n) s (kM fr l)
def kM(fr:Int):bH->bH
 |[]=>[]
 |t::l=>pw fr t::kM fr l
end
theorem zV(fr:Int):∀l:bH,(kM fr l).length=l.length
 |[]=>rfl
 |t::l=>by simp[kM,zV fr l]
theorem Wg(fr:Int):∀l:bH,kM fr l=l.map (pw fr)
 |[]=>rfl
 |t::l=>by simp[kM,Wg fr l]
def NG(N:Nat):LV->Option (Prop×AV)
 |[.au [.ck .i64 k,.ck .i64 n,.aa s,.ax cs len 4],.ck .i64 fr]=>some (acD N [J k,J n,.aa s,.ax cs len 4],.au [J k,J (pv fr k n),.aa s,.ax (nr (fun l=>aP (kM fr l)) cs len) len 4])
 |_=>none
def af8:LV->Option (Prop×AV)
 |[.au [.ck .i64 k,.ck .i64 n,.aa s,.ax cs len 4],.ck .i64 fr]=>some (acE [J k,J n,.aa s,.ax cs len 4],.au [J k,J (pv fr k n),.aa s,.ax (nr (fun l=>aP (kM fr l)) cs len) len 4])
 |_=>none
def J0(N:Nat):Ev.bz:=eB 48 (eG (NG N)) V9
def W1:Ev.bz:=eB 48 (eG af8) V9
def qc(k n:Int)(s:LN)(cs:LV)(len:Nat):aZ:=.aw [J k,J n,.aa s,.ax cs len 4] 42
def Wf:aZ:=.aw [J 0,J 0,.aa [],.bB] 42
def yi(k n:Int)(s:LN)(a:AV):aZ:=.aw [J k,J n,.aa s,a] 42
def RX(k n n':Int)(s:LN)(cs:LV)(len:Nat)(ds:LV)(m:Nat):AH:=an [(0,qc k n s cs len),(1,Wf),(2,yi k n' s (.ad 3 m 4)),(3,.aF ds 42)] 4
def MC:Nat->LN:=kg [(5,[1,2,4,5,6])]
theorem atc(k n:Int)(s:LN)(cs:LV)(len:Nat)(fr:Int)(N:Nat)(L:LT)(Q:QT):
 b8 Z (J0 N) MC L Q 1000 48 [.au [J k,J n,.aa s,.ax cs len 4],J fr] aq=(
 ah (k==0) (L (aQ [(1,J fr),(2,.ab 0 0),(4,.ab 1 0),(5,.ab 2 0),(6,J 0)]) (an [(0,qc k n s cs len),(1,yi 0 0 (fo (ByteArray.mk (List.toArray []))) .bB),(2,yi k (wI (n+fr)) s .bB)] 3) (ao Z 48 0)) (L (aQ [(1,J fr),(2,.ab 0 0),(4,.ab 1 0),(5,.ab 2 0),(6,J 0)]) (an [(0,qc k n s cs len),(1,yi 0 0 (fo (ByteArray.mk (List.toArray []))) .bB),(2,yi k n s .bB)] 3) (ao Z 48 0))):=by kernel_rfl
theorem atd(k n n':Int)(s:LN)(cs:LV)(len:Nat)(fr i:Int)(ds:LV)(m:Nat)(N:Nat)(L:LT)(Q:QT):
 cO Z (J0 N) MC L Q 1000 48 0 (aQ [(1,J fr),(2,.ab 0 0),(4,.ab 1 0),(5,.ab 2 0),(6,J i)]) (ao Z 48 0) (RX k n n' s cs len ds m)=(
 ah (decide (i<Int.ofNat len)) (∃aD:Nat,i=(aD:Int)∧aD<len∧(∃aL:Int,∃bD:Int,∃db:LN,∃cA:LV,∃cq:Nat,((cs.drop (aD*4)).take 4:List AV)=[J aL,J bD,.aa db,.ax cA cq 4]∧(an [] 0=aq∧acD N [J aL,J bD,.aa db,.ax cA cq 4])∧some (.ad 3 m 4:AV)=some (.ad 3 m 4:AV)∧(ds.length=m*4∧m+1<=65536∧true=true∧true=true)∧L (aQ [(1,J fr),(2,.ab 0 0),(4,.ab 1 0),(5,.ab 2 0),(6,J (wI (i+1)))]) (RX k n n' s cs len (ds++[J aL,J (pv fr aL bD),.aa db,.ax (nr (fun l=>aP (kM fr l)) cA cq) cq 4]) (m+1)) (ao Z 48 0))) (Q (.au [J k,J n',.aa s,.ad 0 m 4]) (an [(0,.aF ds 42)] 1))):=by kernel_rfl
theorem atb{k n n' fr:Int}{s:LN}{l:bH}{N:Nat}(hS:bm Z (J0 N))(hv:g_ l=true)(h8:l.length<=8)(ho:gU l)(hN:bA l<N):
 ∀i:Nat,i<=l.length->bJ Z 48 42 0 (.au [J k,J n',.aa s,.ad 0 l.length 4]) (an [(0,.aF (aP (kM fr l)) 42)] 1)
  (aQ [(1,J fr),(2,.ab 0 0),(4,.ab 1 0),(5,.ab 2 0),(6,J (i:Int))]) (RX k n n' s (aP l) l.length (aP (kM fr (l.take i))) i) (ao Z 48 0):=by
 refine cV (fun i=>l.length-i) _ _ _ _ ?_;rintro i hi ih;refine hD hS 1000 MC (by kernel_rfl) ?_;rw[atd];refine aI.2 ⟨fun aj=>?_,fun aS=>?_⟩
 ·have aj:i<l.length:=by simpa using aj
  obtain⟨k1,n1,s1,l1,-,hg,bX,bn,cJ⟩:=Cd aj ho hN (P:=fun _=>True) trivial;have HL:=adH aj hv;rw[hg]at HL;have bF:(aP (kM fr (l.take i))).length=i*4:=by rw[AO,zV,List.length_take];congr 1;omega
  refine⟨i,rfl,aj,k1,n1,s1,aP l1,l1.length,bX,⟨rfl,_,rfl,bn,HL,cJ⟩,rfl,⟨bF,by omega,rfl,rfl⟩,?_⟩;have e2:aP (kM fr (l.take (i+1)))=aP (kM fr (l.take i))++[J k1,J (pv fr k1 n1),.aa s1,.ax (nr (fun l=>aP (kM fr l)) (aP l1) l1.length) l1.length 4]:=by rw[xc,List.take_add_one,List.getElem?_eq_getElem aj,Wg,List.map_append,←Wg,KG,hg];simp[pw,aP,cR,zV]
  rw[cX (by omega) (by omega),←e2];exact ih (i+1) (by omega) (by omega)
 ·have aS:l.length<=i:=by simpa using aS
  have:i=l.length:=by omega
  subst this;rw[List.take_length];exact⟨rfl,rfl⟩
theorem ata{k n fr:Int}{s:LN}{l:bH}{N:Nat}(hS:bm Z (J0 N))(hv:gT (.mk k n s l)=true)(ho:eR (.mk k n s l))(hN:bA l<N):
 dT Z 48 [.au (cR (.mk k n s l)),J fr] aq (.au (cR (pw fr (.mk k n s l)))) aq:=by
 have h1:dT Z 48 [.au (cR (.mk k n s l)),J fr] aq (.au [J k,J (pv fr k n),.aa s,.ad 0 l.length 4]) (an [(0,.aF (aP (kM fr l)) 42)] 1):=by
  refine eS hS 1000 MC 42 (by kernel_rfl) ?_;rw[cR,atc];simp only[gT,Bool.and_eq_true]at hv;have h8:=anW hv.1;have key:∀n',n'=pv fr k n->bJ Z 48 42 0 (.au [J k,J (pv fr k n),.aa s,.ad 0 l.length 4]) (an [(0,.aF (aP (kM fr l)) 42)] 1) (aQ [(1,J fr),(2,.ab 0 0),(4,.ab 1 0),(5,.ab 2 0),(6,J 0)]) (an [(0,qc k n s (aP l) l.length),(1,yi 0 0 (fo (ByteArray.mk (List.toArray []))) .bB),(2,yi k n' s .bB)] 3) (ao Z 48 0):=by
   rintro n' rfl;refine Ej (H':=an ([(0,qc k n s (aP l) l.length),(1,Wf),(2,yi k (pv fr k n) s (.ad 3 0 4))]++[(3,.aF [] 42)]) (3+1)) ?_ (xY (g:=2) (vs:=[J k,J (pv fr k n),.aa s,.bB]) (eV:=[J k,J (pv fr k n),.aa s,.ad 3 0 4]) (el:=42) rfl (fun id=>?_) rfl (fun φ x hx=>?_) ⟨rfl,rfl⟩) (by kernel_rfl)
   ·exact atb (k:=k) (n:=n) (n':=pv fr k n) (fr:=fr) (s:=s) hS hv.2 h8 ho.2.2 hN 0 (Nat.zero_le _)
   ·rcases id with _|_|_|id<;>rfl
   ·exact Ik (n:=3) (sz:=4) hx
  refine aI.2 ⟨fun h=>?_,fun h=>?_⟩
  ·have h:k=0:=by simpa using h
   exact key _ (by rw[pv,if_pos h])
  ·have h:¬k=0:=by simpa using h
   exact key _ (by rw[pv,if_neg h])
 have h2:=aj1 (g:=0) (n:=1) (l:=[(0,.aF (aP (kM fr l)) 42)]) h1 rfl (Nat.zero_le _);have h3:oC 0 (aP (kM fr l)) (.au [J k,J (pv fr k n),.aa s,.ad 0 l.length 4])=.au (cR (pw fr (.mk k n s l))):=by
  have:(aP (kM fr l)).length=l.length*4:=by rw[AO,zV]
  simp[oC,qp,this,pw,cR,zV]
 rw[h3]at h2;exact KJ (ps:=[]) h2 (by rfl) (by rfl)
theorem P8:bm Z W1:=by
 refine Nj YT (sN:=NG) (Nk YT ?_ ?_) ?_
 ·intro args q v h;unfold NG at h;split at h<;>cases h;rintro⟨t,_,_,_,h⟩;omega
 ·intro N hS args q v h hq;unfold NG at h;split at h<;>cases h;obtain⟨⟨k,n,s,l⟩,h1,bn,hv,cJ⟩:=hq;simp only[cR,List.cons.injEq,AV.ck.injEq,AV.aa.injEq,AV.ax.injEq,true_and,and_true]at h1;obtain⟨rfl,rfl,rfl,rfl,rfl⟩:=h1;simp only[cG]at cJ;rw[xc];rename_i fr;have h2:=ata (fr:=fr) hS hv bn (by omega);simp only[pw,cR,zV]at h2;exact h2
 ·intro args q v h hq;unfold af8 at h;split at h<;>cases h;obtain⟨t,h1,bn,hv⟩:=hq;exact⟨cG t+1,_,rfl,t,h1,bn,hv,by omega⟩
theorem akl{P:Program}{S:Ev.bz}{f:FuncId}{W:Type}{e:dp W}{one:e.dx}{ok:LV->AH->Bool}(h:bm P (cz f (cM e one ok) S)){w:W}{args:LV}{H:AH}(hp:e.ba w args H)(bn:ok args H=true)(di:f≠999999:=by first|assumption|decide):
 dT P f args H (e.v w) (e.aN w):=by
 have hx:∃w,e.ba w args H:=⟨w,hp⟩;have h1:=h.1 f args H (e.ba hx.choose args H) (e.v hx.choose) (e.aN hx.choose) di (by simp only[qm,cz,Nat.beq_refl,cond_true,cM,bn,ux];rw[dif_pos hx]) hx.choose_spec;have h2:=one hx.choose w args H hx.choose_spec hp;simp only[Prod.mk.injEq]at h2;rw[h2.1,h2.2]at h1;exact h1
mutual
def jq:LI->aK->LI
 |l,.mk k n s ts=>wG (if k=0∧oc l n 0<0 then l++[n]else l) ts
def wG:LI->bH->LI
 |l,[]=>l
 |l,t::ts=>wG (jq l t) ts
end
def ka(l:LI):AH:=an [(0,bp l 2)] 1
theorem abw{l m:LI}(h:ka l=ka m):l=m:=by have:=congrArg (fun H=>AH.bu H 0) h;simp only[ka,dy]at this;exact yf (Option.some.inj this)
def psX:dp (LI×Int)where
 ba w A H:=A=[.ad 0 w.1.length 1,J w.2]∧H=ka w.1∧w.1.length<100000
 v w:=J (oc w.1 w.2 0)
 aN w:=ka w.1
theorem aoU:psX.dx:=by rintro⟨l,a⟩ ⟨l',a'⟩ A H ⟨h1,h2,_⟩ ⟨h3,h4,_⟩;simp only at h1 h2 h3 h4;rw[h2]at h4;rw[h1]at h3;have:=abw h4;subst this;simp only[List.cons.injEq,AV.ck.injEq,and_true,true_and]at h3;rw[h3]
def W2:Ev.bz:=cz 88 (cM psX aoU cZ) W1
def ME:Nat->LN:=kg [(2,[0,1,5])]
def Fc(l:LI):AH:=an [(0,.b9 []),(1,bp l 2)] 2
def vsX(N:Nat):dp (LI×Int×Int×LN×bH)where
 ba w A H:=A=[.ad 0 w.1.length 1,.au [J w.2.1,J w.2.2.1,.aa w.2.2.2.1,.ax (aP w.2.2.2.2) w.2.2.2.2.length 4]]∧H=ka w.1∧eR (.mk w.2.1 w.2.2.1 w.2.2.2.1 w.2.2.2.2)∧cG (.mk w.2.1 w.2.2.1 w.2.2.2.1 w.2.2.2.2)<N∧w.1.length+cG (.mk w.2.1 w.2.2.1 w.2.2.2.1 w.2.2.2.2)<60000
 v w:=.ad 1 (jq w.1 (.mk w.2.1 w.2.2.1 w.2.2.2.1 w.2.2.2.2)).length 1
 aN w:=Fc (jq w.1 (.mk w.2.1 w.2.2.1 w.2.2.2.1 w.2.2.2.2))
theorem aww(N:Nat):(vsX N).dx:=by rintro⟨l,k,n,s,ts⟩ ⟨l',k',n',s',ts'⟩ A H ⟨h1,h2,_⟩ ⟨h3,h4,_⟩;simp only at h1 h2 h3 h4;rw[h2]at h4;rw[h1]at h3;have:=abw h4;subst this;simp only[List.cons.injEq,AV.au.injEq,AV.ck.injEq,AV.aa.injEq,AV.ax.injEq,and_true,true_and]at h3;obtain⟨rfl,rfl,rfl,h5,h6⟩:=h3;rw[vJ h6 h5]
def Gn(N:Nat):Ev.bz:=cz 47 (cM (vsX N) (aww N) cZ) W2
def MB:Nat->LN:=kg [(4,[0,3,5])]
def ahf:LV->AH->Option Sp
 |[.bB,.au cells],H=>some (.Dp (H=aq∧k9 cells∧gL cG cells<60000,.ad 0 (gL (jq []) cells).length 1,ka (gL (jq []) cells)))
 |_,_=>none
def W3:Ev.bz:=cz 47 ahf W2
def Oy:aK:=.mk 0 0 [] []
def m_(t:aK)(fr:Int):aK×Int:=
 if jd t=false∨fr<0∨1099511627776<fr then(Oy,1)
 else if(jq [] t).any (fun v=>decide (1099511627776<wI (v+fr)))=true then(Oy,2)
 else(pw fr t,0)
def Ic:Nat->LN:=kg [(5,[1,2,4,6,7])]
def DV(k n:Int)(s:LN)(cs:LV)(len:Nat)(l:LI):AH:=an [(0,qc k n s cs len),(1,Wf),(2,bp l 2)] 3
theorem aur(l:LI)(a:Int)(L:LT)(Q:QT):
 b8 Z W1 ME L Q 1000 88 [.ad 0 l.length 1,J a] (ka l)=(
 L (aQ [(0,.ad 0 l.length 1),(1,J a),(5,J 0)]) (ka l) (ao Z 88 0)):=by kernel_rfl
theorem aus(l:LI)(a i:Int)(L:LT)(Q:QT):
 cO Z W1 ME L Q 1000 88 1 (aQ [(0,.ad 0 l.length 1),(1,J a),(5,J i)]) (ao Z 88 0) (ka l)=(
 ah (decide (i<Int.ofNat l.length)) (∃aD:Nat,i=(aD:Int)∧aD<l.length∧(∃n:Int,bQ Z 2 (aX l) (aD*1)=some (J n:AV)∧ah (n==a) (Q (J i) (ka l)) (L (aQ [(0,.ad 0 l.length 1),(1,J a),(5,J (wI (i+1)))]) (ka l) (ao Z 88 0)))) (Q (J (-1)) (ka l))):=by kernel_rfl
theorem as8(l:LI)(k n:Int)(s:LN)(cs:LV)(len:Nat)(N:Nat)(L:LT)(Q:QT):
 b8 Z (Gn N) MB L Q 1000 47 [.ad 0 l.length 1,.au [J k,J n,.aa s,.ax cs len 4]] (ka l)=(
 ah (k==0) (∃w:LI×Int,(([.ad 0 l.length 1,J n]:LV)=[.ad 0 w.1.length 1,J w.2]∧ka l=ka w.1∧w.1.length<100000)∧ah (decide (oc w.1 w.2 0<0)) (((aX w.1).length=l.length*1∧l.length+1<=65536∧true=true∧true=true)∧L (aQ [(0,.ad 1 (l.length+1) 1),(3,.ab 2 0),(5,J 0)]) (an [(0,.b9 []),(1,.aF (aX w.1++[J n]) 2),(2,qc k n s cs len)] 3) (ao Z 47 0)) (L (aQ [(0,.ad 0 l.length 1),(3,.ab 1 0),(5,J 0)]) (an [(0,bp w.1 2),(1,qc k n s cs len)] 2) (ao Z 47 0))) (L (aQ [(0,.ad 0 l.length 1),(3,.ab 1 0),(5,J 0)]) (an [(0,bp l 2),(1,qc k n s cs len)] 2) (ao Z 47 0))):=by kernel_rfl
theorem as9(l:LI)(k n:Int)(s:LN)(cs:LV)(len:Nat)(i:Int)(N:Nat)(L:LT)(Q:QT):
 cO Z (Gn N) MB L Q 1000 47 1 (aQ [(0,.ad 1 l.length 1),(3,.ab 2 0),(5,J i)]) (ao Z 47 0) (an [(0,.b9 []),(1,bp l 2),(2,qc k n s cs len)] 3)=(
 ah (decide (i<Int.ofNat len)) (∃aD:Nat,i=(aD:Int)∧aD<len∧(∃aL:Int,∃bD:Int,∃db:LN,∃cA:LV,∃cq:Nat,((cs.drop (aD*4)).take 4:List AV)=[J aL,J bD,.aa db,.ax cA cq 4]∧(∃w:LI×Int×Int×LN×bH,(([.ad 0 l.length 1,.au [J aL,J bD,.aa db,.ax cA cq 4]]:LV)=[.ad 0 w.1.length 1,.au [J w.2.1,J w.2.2.1,.aa w.2.2.2.1,.ax (aP w.2.2.2.2) w.2.2.2.2.length 4]]∧ka l=ka w.1∧eR (aK.mk w.2.1 w.2.2.1 w.2.2.2.1 w.2.2.2.2)∧cG (aK.mk w.2.1 w.2.2.1 w.2.2.2.1 w.2.2.2.2)<N∧w.1.length+cG (aK.mk w.2.1 w.2.2.1 w.2.2.2.1 w.2.2.2.2)<60000)∧L (aQ [(0,.ad 1 (jq w.1 (aK.mk w.2.1 w.2.2.1 w.2.2.2.1 w.2.2.2.2)).length 1),(3,.ab 2 0),(5,J (wI (i+1)))]) (an [(0,.b9 []),(1,bp (jq w.1 (aK.mk w.2.1 w.2.2.1 w.2.2.2.1 w.2.2.2.2)) 2),(2,qc k n s cs len)] 3) (ao Z 47 0)))) (Q (.ad 1 l.length 1) (Fc l))):=by kernel_rfl
theorem afD(k n:Int)(s:LN)(cs:LV)(len:Nat)(fr:Int)(L:LT)(Q:QT):
 b8 Z W3 Ic L Q 1000 11 [.au [J k,J n,.aa s,.ax cs len 4],J fr] aq=(
 (an [] 0=aq∧k9 [J k,J n,.aa s,.ax cs len 4])∧ah (!gL jd [J k,J n,.aa s,.ax cs len 4]) (Q (.aJ [.au [J 0,J 0,.aa (fo (ByteArray.mk (List.toArray []))),.bB],J 1]) aq) (ah (decide (fr<0)) (Q (.aJ [.au [J 0,J 0,.aa (fo (ByteArray.mk (List.toArray []))),.bB],J 1]) aq) (ah (decide (fr>1099511627776)) (Q (.aJ [.au [J 0,J 0,.aa (fo (ByteArray.mk (List.toArray []))),.bB],J 1]) aq) ((an [] 0=aq∧k9 [J k,J n,.aa s,.ax cs len 4]∧gL cG [J k,J n,.aa s,.ax cs len 4]<60000)∧L (aQ [(1,J fr),(2,.ab 0 0),(4,.ab 1 0),(6,.ad 2 (gL (jq []) [J k,J n,.aa s,.ax cs len 4]).length 1),(7,J 0)]) (an [(0,qc k n s cs len),(1,yi 0 0 (fo (ByteArray.mk (List.toArray []))) .bB),(2,bp (gL (jq []) [AV.ck IntKind.i64 k,AV.ck IntKind.i64 n,AV.aa s,AV.ax cs len 4]) 2)] 3) (ao Z 11 0))))):=by kernel_rfl
theorem aq4(k n:Int)(s:LN)(cs:LV)(len:Nat)(fr i:Int)(l:LI)(L:LT)(Q:QT):
 cO Z W3 Ic L Q 1000 11 0 (aQ [(1,J fr),(2,.ab 0 0),(4,.ab 1 0),(6,.ad 2 l.length 1),(7,J i)]) (ao Z 11 0) (DV k n s cs len l)=(
 ah (decide (i<Int.ofNat l.length)) (∃aD:Nat,i=(aD:Int)∧aD<l.length∧(∃aL:Int,bQ Z 2 (aX l) (aD*1)=some (J aL:AV)∧ah (decide (wI (aL+fr)>1099511627776)) (Q (.aJ [.au [J 0,J 0,.aa (fo (ByteArray.mk (List.toArray []))),.bB],J 2]) aq) (L (aQ [(1,J fr),(2,.ab 0 0),(4,.ab 1 0),(6,.ad 2 l.length 1),(7,J (wI (i+1)))]) (DV k n s cs len l) (ao Z 11 0)))) ((an [] 0=aq∧acE [J k,J n,.aa s,.ax cs len 4])∧Q (.aJ [.au [J k,J (pv fr k n),.aa s,.ax (nr (fun l=>aP (kM fr l)) cs len) len 4],J 0]) aq)):=by kernel_rfl
theorem acB{l:LI}{i:Nat}(h:i<l.length):bQ Z 2 (aX l) (i*1)=some (J (l.getD i 0)):=by rw[Iu,aX,Nat.mul_one,List.getElem?_map,List.getElem?_eq_getElem h];simp[List.getD,List.getElem?_eq_getElem h]
theorem auq{l:LI}{a az:Int}(hl:l.length<100000):∀i:Nat,(i<=l.length∧oc (l.drop i) a i=az)->
 bJ Z 88 19 1 (J az) (ka l) (aQ [(0,.ad 0 l.length 1),(1,J a),(5,J (i:Int))]) (ka l) (ao Z 88 0):=by
 refine cV (fun i=>l.length-i) _ _ _ _ ?_;rintro i ⟨hi,hf⟩ ih;refine hD P8 1000 ME (by kernel_rfl) ?_;rw[aus];refine aI.2 ⟨fun aj=>?_,fun aS=>?_⟩
 ·have aj:i<l.length:=by simpa using aj
  rw[dN aj]at hf;have hg:l.getD i 0=l[i]:=by simp[List.getD,List.getElem?_eq_getElem aj]
  refine⟨i,rfl,aj,l[i],by rw[acB aj,hg],aI.2 ⟨fun h=>?_,fun h=>?_⟩⟩
  ·have h:l[i]=a:=by simpa using h
   rw[oc,if_pos h.symm]at hf;subst hf;exact⟨rfl,rfl⟩
  ·have h:¬l[i]=a:=by simpa using h
   rw[oc,if_neg (fun e=>h e.symm)]at hf;have e:wI ((i:Int)+1)=((i+1:Nat):Int):=by rw[cX (by omega) (by omega)];simp
   rw[e];exact ih (i+1) ⟨by omega,by simpa using hf⟩ (by omega)
 ·have aS:l.length<=i:=by simpa using aS
  rw[List.drop_eq_nil_of_le aS]at hf;subst hf;exact⟨rfl,rfl⟩
theorem YW:bm Z W2:=by refine de P8 ?_;rintro⟨l,a⟩ args H ⟨rfl,rfl,hl⟩;refine eS P8 1000 ME 19 (by kernel_rfl) ?_;rw[aur];exact auq hl 0 ⟨by simp,rfl⟩
def VB(r:Nat->Option Nat):List (Nat×AV)->Option (List (Nat×AV))
 |[]=>some []
 |(s,a)::l=>match fi r a,VB r l with
  |some a',some l'=>some ((s,a')::l')
  |_,_=>none
theorem adq{r:Nat->Option Nat}:∀{l l':List (Nat×AV)},VB r l=some l'->∀i a',(aQ l').bV i=some a'->∃a,(aQ l).bV i=some a∧fi r a=some a'
 |[],l',h,i,a',hg=>by cases h;rw[nE]at hg;cases hg
 |(s,a)::l,l',h,i,a',hg=>by
  simp only[VB]at h;split at h
  ·rename_i b l2 h1 h2;cases h;rw[nE,wh]at hg;rw[nE,wh];by_cases hs:i=s
   ·rw[if_pos hs]at hg⊢;cases hg;exact⟨a,rfl,h1⟩
   ·rw[if_neg hs]at hg⊢;rw[←nE]at hg⊢;exact adq h2 i a' hg
  ·cases h
mutual
theorem WV:∀(l:LI) (t:aK),(jq l t).length<=l.length+cG t
 |l,.mk k n s ts=>by
  have:=WW (if k=0∧oc l n 0<0 then l++[n]else l) ts;simp only[jq,cG];split at this
  ·simp only[List.length_append,List.length_cons,List.length_nil]at this;rename_i h;rw[if_pos h];omega
  ·rename_i h;rw[if_neg h];omega
theorem WW:∀(l:LI) (ts:bH),(wG l ts).length<=l.length+bA ts
 |l,[]=>by simp[wG,bA]
 |l,t::ts=>by have h1:=WV l t;have h2:=WW (jq l t) ts;simp only[wG,bA];omega
end
theorem afO{k n:Int}{s:LN}{ts:bH}{N:Nat}{az:LI}(hS:bm Z (Gn N))(h8:eF ts.length)(ho:gU ts)(hN:bA ts<N):
 ∀p:Nat×LI,(p.1<=ts.length∧wG p.2 (ts.drop p.1)=az∧p.2.length+bA (ts.drop p.1)<60000)->
 bJ Z 47 36 1 (.ad 1 az.length 1) (Fc az) (aQ [(0,.ad 1 p.2.length 1),(3,.ab 2 0),(5,J (p.1:Int))]) (an [(0,.b9 []),(1,bp p.2 2),(2,qc k n s (aP ts) ts.length)] 3) (ao Z 47 0):=by
 refine cV (fun p=>ts.length-p.1) _ _ _ _ ?_;rintro⟨i,l⟩ ⟨hi,hf,hb⟩ ih;simp only at hi hf hb ih⊢;refine hD hS 1000 MB (by kernel_rfl) ?_;rw[as9];refine aI.2 ⟨fun aj=>?_,fun aS=>?_⟩
 ·have aj:i<ts.length:=by simpa using aj
  obtain⟨k1,n1,s1,l1,-,hg,bX,bn,cJ⟩:=Cd aj ho hN (P:=fun _=>True) trivial;rw[dN aj,hg]at hf hb;rw[wG]at hf;rw[bA]at hb;have hv:=WV l (.mk k1 n1 s1 l1);have hx:(jq l (.mk k1 n1 s1 l1)).length+bA (ts.drop (i+1))<60000:=by omega
  refine⟨i,rfl,aj,k1,n1,s1,aP l1,l1.length,bX,(l,k1,n1,s1,l1),⟨rfl,rfl,bn,cJ,by simp only;omega⟩,?_⟩;rw[je h8 aj];exact ih (i+1,jq l (.mk k1 n1 s1 l1)) ⟨aj,hf,hx⟩ (by simp only;omega)
 ·have aS:ts.length<=i:=by simpa using aS
  rw[List.drop_eq_nil_of_le aS,wG]at hf;subst hf;exact⟨rfl,rfl⟩
theorem as7{l:LI}{k n:Int}{s:LN}{ts:bH}{N:Nat}(hS:bm Z (Gn N))(bn:eR (.mk k n s ts))(hN:bA ts<N)(hb:l.length+cG (.mk k n s ts)<60000):
 dT Z 47 [.ad 0 l.length 1,.au [J k,J n,.aa s,.ax (aP ts) ts.length 4]] (ka l) (.ad 1 (jq l (.mk k n s ts)).length 1) (Fc (jq l (.mk k n s ts))):=by
 refine eS hS 1000 MB 36 (by kernel_rfl) ?_;rw[as8];simp only[cG]at hb;have hv:=WW l ts;have agG:wG l ts=jq l (.mk k n s ts)->bJ Z 47 36 1 (.ad 1 (jq l (.mk k n s ts)).length 1) (Fc (jq l (.mk k n s ts))) (aQ [(0,.ad 0 l.length 1),(3,.ab 1 0),(5,J 0)]) (an [(0,bp l 2),(1,qc k n s (aP ts) ts.length)] 2) (ao Z 47 0):=by intro hh;refine uK (g:=0) (t':=aQ [(0,.ad 2 l.length 1),(3,.ab 1 0),(5,J 0)]) (H':=an ([(0,.b9 []),(1,qc k n s (aP ts) ts.length)]++[(2,.aF (aX l) 2)]) (2+1)) ?_ (ss (g:=0) (n:=2) rfl rfl rfl) (by kernel_rfl) (adq (by rfl));refine LJ (qa:=[0,2,1]) (ls:=[0,3,5]) (ps:=[(0,0),(2,1),(1,2)]) (H2:=an [(0,.b9 []),(1,bp l 2),(2,qc k n s (aP ts) ts.length)] 3) (t:=aQ [(0,.ad 1 l.length 1),(3,.ab 2 0),(5,J 0)]) (by kernel_rfl) (by kernel_rfl) (by kernel_rfl) ?_;exact afO (k:=k) (n:=n) (s:=s) hS bn.2.1 bn.2.2 hN (0,l) ⟨Nat.zero_le _,hh,by simp only[List.drop_zero];omega⟩
 refine aI.2 ⟨fun h=>⟨(l,n),⟨rfl,rfl,by simp only;omega⟩,aI.2 ⟨fun h2=>⟨⟨by simp[aX],by omega,rfl,rfl⟩,?_⟩,fun h2=>?_⟩⟩,fun h=>?_⟩
 ·have h:k=0:=by simpa using h
  have h2:oc l n 0<0:=of_decide_eq_true h2;have e:wG (l++[n]) ts=jq l (.mk k n s ts):=by rw[jq,if_pos ⟨h,h2⟩]
  have:=afO (k:=k) (n:=n) (s:=s) hS bn.2.1 bn.2.2 hN (0,l++[n]) ⟨Nat.zero_le _,e,by simp only[List.drop_zero,List.length_append,List.length_cons,List.length_nil];omega⟩;simp only[List.length_append,List.length_cons,List.length_nil,bp,aX,List.map_append,List.map_cons,List.map_nil]at this;exact this
 ·have h2:¬oc l n 0<0:=of_decide_eq_false h2;exact agG (by rw[jq,if_neg (fun x=>h2 x.2)])
 ·have h:¬k=0:=by simpa using h
  exact agG (by rw[jq,if_neg (fun x=>h x.1)])
theorem ahT:∀N,bm Z (Gn N):=by
 refine BZ YW ?_ ?_
 ·rintro w args H ⟨_,_,_,h,_⟩;omega
 ·intro N hS;rintro⟨l,k,n,s,ts⟩ args H ⟨rfl,rfl,bn,hN,hb⟩;simp only[cG]at hN;exact as7 hS bn (by simp only;omega) hb
theorem J1:bm Z W3:=by
 refine Gp YW fun args H sp p v H' hs hd hp=>?_
 unfold ahf at hs;split at hs
 ·cases hs;cases hd;obtain⟨rfl,⟨t,rfl,bn⟩,hb⟩:=hp;rw[yU]at hb;rw[yU];obtain⟨k,n,s,ts⟩:=t;have h1:=akl (ahT (cG (.mk k n s ts)+1)) (w:=([],k,n,s,ts)) (args:=[.ad 0 0 1,.au [J k,J n,.aa s,.ax (aP ts) ts.length 4]]) (H:=ka []) ⟨rfl,rfl,bn,Nat.lt_succ_self _,by simpa using hb⟩ rfl;have h2:dT Z 47 [.bB,.au (cR (.mk k n s ts))] aq (.ad 1 (jq [] (.mk k n s ts)).length 1) (Fc (jq [] (.mk k n s ts))):=by refine aj6 h1 (BJ (m0:=0) (n:=0) (l:=[]) (.aF [] 2) rfl) (fun φ aW hR l hl=>?_);subst hR;obtain⟨x,l',rfl,g1,g2⟩:=hl;exact⟨x,l',rfl,sY g1,g2⟩
  exact KJ (ps:=[(1,0)]) h2 (by rfl) (by rfl)
 ·cases hs
def il(k n:Int)(s:LN)(cs:LV)(len:Nat)(fr:Int):aK×Int:=gL (fun t=>m_ t fr) [J k,J n,.aa s,.ax cs len 4]
def ae3:LV->Option (Prop×AV)
 |[.au [.ck .i64 k,.ck .i64 n,.aa s,.ax cs len 4],.ck .i64 fr]=>some (k9 [J k,J n,.aa s,.ax cs len 4],.aJ [.au [J (il k n s cs len fr).1.df,J (il k n s cs len fr).1.n,.aa (il k n s cs len fr).1.f_,.ax (aP (il k n s cs len fr).1.dE) (il k n s cs len fr).1.dE.length 4],J (il k n s cs len fr).2])
 |_=>none
def W4:Ev.bz:=eB 11 (eG ae3) W3
theorem awC(m:Nat)(H:AH):ox m H H (fun φ aW=>aW=φ):=⟨Nat.le_refl _,fun φ bs w _ hw=>⟨φ,hw,kR.refl _ _,rfl⟩⟩
theorem aaz{f:FuncId}{args:LV}{e:Int}(h:dT Z f args aq (.aJ [.au [J 0,J 0,.aa [],.bB],J e]) aq):dT Z f args aq (.aJ [.au (cR Oy),J e]) aq:=by refine DD h (awC _ _) (Nat.le_refl _) (fun φ aW hR x hx=>?_);subst hR;obtain⟨cs,rfl,v,l,h1,⟨Q1,rfl,v1,l1,h2,q1,v2,l2,h3,q2,v3,l3,h4,q3,v4,l4,h5,q4,q5⟩,h6⟩:=hx;refine⟨cs,rfl,_,l,h1,⟨Q1,rfl,v1,l1,h2,q1,v2,l2,h3,q2,v3,l3,h4,q3,v4,l4,h5,?_,q5⟩,h6⟩;simp only[VR]at q4;subst q4;simp only[VR,aP];exact⟨none,0,rfl,rfl,.inl rfl⟩
def Jd(fr:Int)(v:Int):Bool:=decide (1099511627776<wI (v+fr))
theorem aq3{k n fr:Int}{s:LN}{ts l:LI}{v:AV}{t:bH}(ho:eR (.mk k n s t))(hv:gT (.mk k n s t)=true)(hl:l.length<100000):∀i:Nat,(i<=l.length∧v=(if(l.drop i).any (Jd fr)=true then .aJ [.au [J 0,J 0,.aa [],.bB],J 2]else .aJ [.au (cR (pw fr (.mk k n s t))),J 0]))->
 bJ Z 11 39 0 v aq (aQ [(1,J fr),(2,.ab 0 0),(4,.ab 1 0),(6,.ad 2 l.length 1),(7,J (i:Int))]) (DV k n s (aP t) t.length l) (ao Z 11 0):=by
 refine cV (fun i=>l.length-i) _ _ _ _ ?_;rintro i ⟨hi,hf⟩ ih;refine hD J1 1000 Ic (by kernel_rfl) ?_;rw[aq4];refine aI.2 ⟨fun aj=>?_,fun aS=>?_⟩
 ·have aj:i<l.length:=by simpa using aj
  rw[dN aj,List.any_cons]at hf;have hg:l.getD i 0=l[i]:=by simp[List.getD,List.getElem?_eq_getElem aj]
  refine⟨i,rfl,aj,l[i],by rw[acB aj,hg],aI.2 ⟨fun h=>?_,fun h=>?_⟩⟩
  ·have h:Jd fr l[i]=true:=h;rw[h,Bool.true_or,if_pos rfl]at hf;subst hf;exact⟨rfl,rfl⟩
  ·have h:Jd fr l[i]=false:=h;rw[h,Bool.false_or]at hf;have e:wI ((i:Int)+1)=((i+1:Nat):Int):=by rw[cX (by omega) (by omega)];simp
   rw[e];exact ih (i+1) ⟨by omega,hf⟩ (by omega)
 ·have aS:l.length<=i:=by simpa using aS
  rw[List.drop_eq_nil_of_le aS]at hf;simp only[List.any_nil,Bool.false_eq_true,if_false]at hf;subst hf;refine⟨⟨rfl,_,rfl,ho,hv⟩,?_,rfl⟩;rw[xc,pw,cR,zV]
theorem aq2{k n fr:Int}{s:LN}{ts:bH}(ho:eR (.mk k n s ts)):dT Z 11 [.au (cR (.mk k n s ts)),J fr] aq (.aJ [.au (cR (m_ (.mk k n s ts) fr).1),J (m_ (.mk k n s ts) fr).2]) aq:=by
 have hT:=qD ho;unfold m_;by_cases h1:jd (.mk k n s ts)=false∨fr<0∨1099511627776<fr
 ·rw[if_pos h1];refine aaz ?_;refine eS J1 1000 Ic 39 (by kernel_rfl) ?_;rw[cR,afD,j_];refine⟨⟨rfl,hT⟩,aI.2 ⟨fun _=>⟨rfl,rfl⟩,fun h2=>aI.2 ⟨fun _=>⟨rfl,rfl⟩,fun h3=>aI.2 ⟨fun _=>⟨rfl,rfl⟩,fun h4=>?_⟩⟩⟩⟩;have h3:=of_decide_eq_false h3;have h4:=of_decide_eq_false h4;rcases h1 with h1|h1|h1
  ·rw[h1]at h2;cases h2
  ·exact absurd h1 h3
  ·exact absurd h1 h4
 ·rw[if_neg h1];simp only[not_or,Bool.not_eq_false,Int.not_lt]at h1;obtain⟨hv,h2,h3⟩:=h1;have cJ:cG (.mk k n s ts)<=2000:=by unfold jd at hv;simp only[Bool.and_eq_true,decide_eq_true_eq]at hv;exact hv.1
  have hn:gT (.mk k n s ts)=true:=by unfold jd at hv;simp only[Bool.and_eq_true,decide_eq_true_eq]at hv;exact hv.2
  have bF:=WV [] (.mk k n s ts);have key:∀v,v=(if(jq [] (.mk k n s ts)).any (Jd fr)=true then .aJ [.au [J 0,J 0,.aa [],.bB],J 2]else .aJ [.au (cR (pw fr (.mk k n s ts))),J 0])->dT Z 11 [.au (cR (.mk k n s ts)),J fr] aq v aq:=by
   intro v TM;refine eS J1 1000 Ic 39 (by kernel_rfl) ?_;rw[cR,afD,j_,j_,j_];refine⟨⟨rfl,hT⟩,aI.2 ⟨fun h=>(by rw[hv]at h;cases h),fun _=>aI.2 ⟨fun h=>?_,fun _=>aI.2 ⟨fun h=>?_,fun _=>⟨⟨rfl,hT,by omega⟩,?_⟩⟩⟩⟩⟩
   ·have:=of_decide_eq_true h;omega
   ·have:=of_decide_eq_true h;omega
   ·exact aq3 ho hn (l:=jq [] (.mk k n s ts)) (ts:=[]) (by simp only[List.length_nil]at bF;omega) 0 ⟨Nat.zero_le _,TM⟩
  by_cases h4:(jq [] (.mk k n s ts)).any (Jd fr)=true
  ·have h5:(jq [] (.mk k n s ts)).any (fun v=>decide (1099511627776<wI (v+fr)))=true:=h4;rw[if_pos h5];exact aaz (key _ (by rw[if_pos h4]))
  ·have h5:¬(jq [] (.mk k n s ts)).any (fun v=>decide (1099511627776<wI (v+fr)))=true:=h4;rw[if_neg h5];exact key _ (by rw[if_neg h4])
theorem P9:bm Z W4:=by
 refine iE J1 fun args q v h hq=>?_
 unfold ae3 at h;split at h
 ·rename_i fr;cases h;obtain⟨⟨k,n,s,ts⟩,h1,ho⟩:=hq;simp only[cR,List.cons.injEq,AV.ck.injEq,AV.aa.injEq,AV.ax.injEq,true_and,and_true]at h1;obtain⟨rfl,rfl,rfl,rfl,rfl⟩:=h1;have h1:=aq2 (fr:=fr) ho;have e:il k n s (aP ts) ts.length fr=m_ (.mk k n s ts) fr:=j_ _ _ _ _ _;rw[e];generalize m_ (.mk k n s ts) fr=r at h1⊢;obtain⟨⟨a,b,c,d⟩,e⟩:=r;exact h1
 ·cases h
abbrev A8 x0:=an [(0,c_ x0),(1,c_ x0)] 2
def A2(b:fR):AH:=A8 b.bk
def m9v(b:fR):AH:=an [(0,c_ b.bk),(1,c_ b.bk),(2,.aw (nu b (.ad 0 b.bk.length 6)) 34),(3,.aw (nu b (.ad 1 b.bk.length 6)) 34)] 4
def MF:Nat->LN:=kg [(4,[2,3,5])]
def VX:dp fR where
 ba b A H:=A=[.au (nu b (.ad 0 b.bk.length 6)),.au (nu b (.ad 1 b.bk.length 6))]∧H=A2 b∧b.bk.length<60000
 v b:=.ai true
 aN b:=A2 b
theorem auW:VX.dx:=by rintro b b' A H ⟨_,h1,_⟩ ⟨_,h2,_⟩;have e:A2 b=A2 b':=h1.symm.trans h2;simp only[VX,e]
def W5:Ev.bz:=cz 9 (cM VX auW cZ) W4
abbrev Od x0:=aQ [(2,.ab 2 0),(3,.ab 3 0),(5,J x0)]
theorem avX(b:fR)(L:LT)(Q:QT):
 b8 Z W4 MF L Q 1000 9 [.au (nu b (.ad 0 b.bk.length 6)),.au (nu b (.ad 1 b.bk.length 6))] (A2 b)=(
 ah (b.id !=b.id) (Q (.ai false) (A8 b.bk)) (ah (!(dh b.ay.ca b.ay.ca&&(b.ay.ar==b.ay.ar&&(b.ay.aC==b.ay.aC&&true)))) (Q (.ai false) (A8 b.bk)) (ah (!(b.bZ.1==b.bZ.1&&(b.bZ.2.1==b.bZ.2.1&&(dh b.bZ.2.2.1 b.bZ.2.2.1&&(b.bZ.2.2.2==b.bZ.2.2.2&&true))))) (Q (.ai false) (A8 b.bk)) (ah (Int.ofNat b.bk.length !=Int.ofNat b.bk.length) (Q (.ai false) (A8 b.bk)) (L (Od 0) (an [(0,c_ b.bk),(1,c_ b.bk),(2,.aw [J b.id,.aa b.ay.ca,J b.ay.ar,J b.ay.aC,J b.bZ.1,J b.bZ.2.1,.aa b.bZ.2.2.1,J b.bZ.2.2.2,.ad 0 b.bk.length 6] 34),(3,.aw [J b.id,.aa b.ay.ca,J b.ay.ar,J b.ay.aC,J b.bZ.1,J b.bZ.2.1,.aa b.bZ.2.2.1,J b.bZ.2.2.2,.ad 1 b.bk.length 6] 34)] 4) (ao Z 9 0)))))):=by kernel_rfl
theorem avV(b:fR)(i:Int)(L:LT)(Q:QT):
 cO Z W4 MF L Q 1000 9 2 (Od i) (ao Z 9 0) (m9v b)=(
 ah (decide (i<Int.ofNat b.bk.length)) (∃aD:Nat,i=(aD:Int)∧aD<b.bk.length∧(∃n:Int,∃aL:Int,∃bD:Int,∃cf:Int,∃s:LN,∃cK:Int,bQ Z 50 (cw b.bk) (aD*6)=some (.au [J n,J aL,J bD,J cf,.aa s,J cK]:AV)∧(∃bU:Nat,i=(bU:Int)∧bU<b.bk.length∧(∃fI:Int,∃gS:Int,∃jZ:Int,∃fT:Int,∃db:LN,∃fJ:Int,bQ Z 50 (cw b.bk) (bU*6)=some (.au [J fI,J gS,J jZ,J fT,.aa db,J fJ]:AV)∧ah (!(n==fI&&(aL==gS&&(bD==jZ&&(cf==fT&&(dh s db&&(cK==fJ&&true))))))) (Q (.ai false) (A8 b.bk)) (L (Od (wI (i+1))) (an [(0,c_ b.bk),(1,c_ b.bk),(2,.aw [J b.id,.aa b.ay.ca,J b.ay.ar,J b.ay.aC,J b.bZ.1,J b.bZ.2.1,.aa b.bZ.2.2.1,J b.bZ.2.2.2,.ad 0 b.bk.length 6] 34),(3,.aw [J b.id,.aa b.ay.ca,J b.ay.ar,J b.ay.aC,J b.bZ.1,J b.bZ.2.1,.aa b.bZ.2.2.1,J b.bZ.2.2.2,.ad 1 b.bk.length 6] 34)] 4) (ao Z 9 0)))))) (Q (.ai true) (A8 b.bk))):=by kernel_rfl
theorem KS(l:LN):dh l l=true:=by rw[kD];simp
theorem amL{l:cn}{i:Nat}(hl:l.length<60000)(h:i<l.length):∃n n1 n2 n3 s n4,bQ Z 50 (cw l) (i*6)=some (.au [J n,J n1,J n2,J n3,.aa s,J n4]):=by have hp:h_.ok ⟨cw l,0,l⟩:=⟨by rw[jB,←xg l,List.take_length],hl⟩;have:=h_.get hp h;simp only[jI]at this;exact⟨_,_,_,_,_,_,this⟩
theorem avW{b:fR}(hl:b.bk.length<60000):
 ∀i:Nat,i<=b.bk.length->
 bJ Z 9 52 2 (.ai true) (A2 b) (Od (i:Int)) (m9v b) (ao Z 9 0):=by
 refine cV (fun i=>b.bk.length-i) _ _ _ _ ?_;rintro i hi ih;refine hD P9 1000 MF (by kernel_rfl) ?_;rw[avV];refine cU (fun h=>?_) (fun h=>?_)
 ·have aj:i<b.bk.length:=by have:=gh h;simpa using this
  obtain⟨n,n1,n2,n3,s,n4,e⟩:=amL hl aj;rw[gq (lR i) (by omega)];refine⟨i,rfl,aj,n,n1,n2,n3,s,n4,e,i,rfl,aj,n,n1,n2,n3,s,n4,e,cU (fun h=>?_) (fun h=>?_)⟩
  ·have h:(!((n==n)&&((n1==n1)&&((n2==n2)&&((n3==n3)&&((dh s s)&&((n4==n4)&&true)))))))=true:=h;simp[KS]at h
  ·exact ih (i+1) (by omega) (by omega)
 ·exact⟨rfl,rfl⟩
theorem ahU:bm Z W5:=by
 refine de P9 ?_;rintro b args H ⟨rfl,rfl,hl⟩;refine eS P9 1000 MF 52 (by kernel_rfl) ?_;rw[avX];refine cU (fun h=>?_) (fun _=>cU (fun h=>?_) (fun _=>cU (fun h=>?_) (fun _=>cU (fun h=>?_) (fun _=>?_))))
 ·have h:(b.id !=b.id)=true:=h;simp at h
 ·have h:(!((dh b.ay.ca b.ay.ca)&&((b.ay.ar==b.ay.ar)&&((b.ay.aC==b.ay.aC)&&true))))=true:=h;simp[KS]at h
 ·have h:(!((b.bZ.1==b.bZ.1)&&((b.bZ.2.1==b.bZ.2.1)&&((dh b.bZ.2.2.1 b.bZ.2.2.1)&&((b.bZ.2.2.2==b.bZ.2.2.2)&&true)))))=true:=h;simp[KS]at h
 ·have h:((Int.ofNat b.bk.length)!=(Int.ofNat b.bk.length))=true:=h;simp at h
 ·exact avW hl 0 (Nat.zero_le _)
def Zr(args:LV)(H:AH):Option (Prop×AV×AH):=bif args.isEmpty then some (H=aq,.ai true,aq)else none
def W6:Ev.bz:=eB 6 Zr W5
theorem aiA:∃H,dT Z 6 [] aq (.ai true) H:=by
 have h:=aiB;unfold ag6 at h;split at h
 ·rename_i b H hr;subst h;refine⟨H,fun φ w bs args' cs ha hw hb=>?_⟩;rw[akh]at hr;obtain⟨aW,w',h1,h2,h3,h4⟩:=Ru (m:=0) (cs:=cs) (NA xW anX 1000000) hr ha hw hb (Nat.zero_le _) trivial (kind:=.normal) rfl;exact⟨aW,w',h1,h2.ag,h3,h4⟩
 ·cases h
theorem C0:bm Z W6:=by
 refine Az ahU fun args H p v H' h hp=>?_
 unfold Zr at h;obtain⟨h1,h2⟩:=c6 h;cases h2;have h1:args=[]:=by simpa using h1
 subst h1;have hp:H=aq:=hp;subst hp;obtain⟨H,hE⟩:=aiA;exact KJ (ps:=[]) hE (by rfl) (by rfl)
def oy(g:Nat)(b:fR):aZ:=.aw (nu b (.ad g b.bk.length 6)) 34
def iv(p:dG)(a g:AV):aZ:=.aw [.aa p.ca,J p.ar,J p.aC,a,g] 27
def xm(g:gH)(a:AV)(v:Int):aZ:=.aw [J g.cS,.aa g.ay.ca,J g.ay.ar,J g.ay.aC,a,J v] 46
def k1(f:bg)(b:fR)(l:bH):AH:=an [(0,cu f),(1,oy 3 b),(2,iv f.ay (.ad 4 l.length 4) .bB),(3,c_ b.bk),(4,.aF (aP l) 42)] 5
def k2(f:bg)(b:fR)(l:bH)(gs:cY):AH:=an [(0,cu f),(1,oy 3 b),(2,iv f.ay (.ax (aP l) l.length 4) (.ad 4 gs.length 6)),(3,c_ b.bk),(4,.aF (bN gs) 46)] 5
def k2e(f:bg)(b:fR)(l:bH)(gs:cY):AH:=an [(0,cu f),(1,oy 3 b),(2,iv f.ay (.ax (aP l) l.length 4) (.ax (bN gs) gs.length 6)),(3,c_ b.bk)] 4
def k3(f:bg)(b:fR)(l:bH)(gs:cY)(g:gH)(v:Int)(ts:bH):AH:=an [(0,cu f),(1,oy 4 b),(2,iv f.ay (.ax (aP l) l.length 4) (.ad 5 gs.length 6)),(3,xm g (.ad 6 ts.length 4) v),(4,c_ b.bk),(5,.aF (bN gs) 46),(6,.aF (aP ts) 42)] 7
def k3e(f:bg)(b:fR)(l:bH)(gs:cY)(g:gH)(v:Int)(ts:bH):AH:=an [(0,cu f),(1,oy 4 b),(2,iv f.ay (.ax (aP l) l.length 4) (.ad 5 gs.length 6)),(3,xm g (.ax (aP ts) ts.length 4) v),(4,c_ b.bk),(5,.aF (bN gs) 46)] 6
def tD:Nat->LN:=kg [(13,[1,2,3,7,9,10,11]),(19,[1,2,3,7,9,10,14]),(25,[1,2,3,7,9,10,14,15,16])]
def Wz(id fr:Int)(ok:Bool)(i:Int):List (Nat×AV):=[(1,J id),(2,J fr),(3,.ab 0 0),(7,.ab 1 0),(9,.ab 2 0),(10,.ai ok),(11,J i)]
def Cm(id fr:Int)(ok:Bool)(i:Int):List (Nat×AV):=[(1,J id),(2,J fr),(3,.ab 0 0),(7,.ab 1 0),(9,.ab 2 0),(10,.ai ok),(14,J i)]
def FG(id fr:Int)(ok:Bool)(i j:Int):List (Nat×AV):=[(1,J id),(2,J fr),(3,.ab 0 0),(7,.ab 1 0),(9,.ab 2 0),(10,.ai ok),(14,J i),(15,.ab 3 0),(16,J j)]
theorem atp(f:bg)(id fr:Int)(L:LT)(Q:QT):
 b8 Z W6 tD L Q 1000 4 [.au (ft f),J id,J fr] aq=(
 (an [] 0=aq∧By (ft f))∧ah (pJ pB (ft f)) (an [] 0=aq∧Q (.ai true) aq) (∃w:bg×Int,(([.au (ft f),J id]:LV)=[.au (ft w.1),J w.2]∧an [] 0=aq∧hJ w.1∧(ez w.1=true->bA w.1.aO+e8 w.1.aA<3600∧w.1.aA.length<=500))∧ah ((cL w.1 w.2).2 !=0) (ah ((cL w.1 w.2).2==1) (ah (Int.ofNat (cL w.1 w.2).1.bk.length==0) (an [] 0=aq∧Q (.ai true) aq) (Q (.ai false) aq)) (ah ((cL w.1 w.2).2==2) (ah (Int.ofNat (cL w.1 w.2).1.bk.length==0) (an [] 0=aq∧Q (.ai true) aq) (Q (.ai false) aq)) (Q (.ai false) aq))) (∃ae:fR,(([.au [J (cL w.1 w.2).1.id,.aa (cL w.1 w.2).1.ay.ca,J (cL w.1 w.2).1.ay.ar,J (cL w.1 w.2).1.ay.aC,J (cL w.1 w.2).1.bZ.1,J (cL w.1 w.2).1.bZ.2.1,.aa (cL w.1 w.2).1.bZ.2.2.1,J (cL w.1 w.2).1.bZ.2.2.2,.ad 0 (cL w.1 w.2).1.bk.length 6]]:LV)=[.au (nu ae (.ad 0 ae.bk.length 6))]∧hB (cL w.1 w.2).1=hB ae)∧ah (!yu ae) (Q (.ai false) aq) (ah ((cL w.1 w.2).1.id !=id) (Q (.ai false) aq) (ah (!(dh (cL w.1 w.2).1.ay.ca f.ay.ca&&((cL w.1 w.2).1.ay.ar==f.ay.ar&&((cL w.1 w.2).1.ay.aC==f.ay.aC&&true)))) (Q (.ai false) aq) (ah (decide (fr<0)) (an [] 0=aq∧Q (.ai true) aq) (ah (decide (fr>1000)) (an [] 0=aq∧Q (.ai true) aq) (L (aQ [(1,J id),(2,J fr),(3,.ab 0 0),(7,.ab 1 0),(9,.ab 2 0),(10,.ai true),(11,J 0)]) (an [(0,cu f),(1,.aw [J (cL w.1 w.2).1.id,.aa (cL w.1 w.2).1.ay.ca,J (cL w.1 w.2).1.ay.ar,J (cL w.1 w.2).1.ay.aC,J (cL w.1 w.2).1.bZ.1,J (cL w.1 w.2).1.bZ.2.1,.aa (cL w.1 w.2).1.bZ.2.2.1,J (cL w.1 w.2).1.bZ.2.2.2,.ad 3 (cL w.1 w.2).1.bk.length 6] 34),(2,iv f.ay .bB .bB),(3,c_ ae.bk)] 4) (ao Z 4 0))))))))):=by kernel_rfl
theorem ath(f:bg)(b:fR)(l:bH)(id fr:Int)(ok:Bool)(i:Int)(L:LT)(Q:QT):
 cO Z W6 tD L Q 1000 4 0 (aQ (Wz id fr ok i)) (ao Z 4 0) (k1 f b l)=(
 ah (decide (i<Int.ofNat f.aO.length)) (∃aD:Nat,i=(aD:Int)∧aD<f.aO.length∧(∃n:Int,∃aL:Int,∃s:LN,∃cs:LV,∃len:Nat,(((aP f.aO).drop (aD*4)).take 4:List AV)=[J n,J aL,.aa s,.ax cs len 4]∧(an [] 0=aq∧k9 [J n,J aL,.aa s,.ax cs len 4])∧ah ok (((aP l).length=l.length*4∧l.length+1<=65536∧true=true∧true=true)∧L (aQ [(1,J id),(2,J fr),(3,.ab 0 0),(7,.ab 1 0),(9,.ab 2 0),(10,.ai ((il n aL s cs len fr).2==0)),(11,J (wI (i+1)))]) (an [(0,cu f),(1,.aw [J b.id,.aa b.ay.ca,J b.ay.ar,J b.ay.aC,J b.bZ.1,J b.bZ.2.1,.aa b.bZ.2.2.1,J b.bZ.2.2.2,.ad 3 b.bk.length 6] 34),(2,iv f.ay (.ad 4 (l.length+1) 4) .bB),(3,c_ b.bk),(4,.aF (aP l++[J (il n aL s cs len fr).1.df,J (il n aL s cs len fr).1.n,.aa (il n aL s cs len fr).1.f_,.ax (aP (il n aL s cs len fr).1.dE) (il n aL s cs len fr).1.dE.length 4]) 42)] 5) (ao Z 4 0)) (((aP l).length=l.length*4∧l.length+1<=65536∧true=true∧true=true)∧L (aQ [(1,J id),(2,J fr),(3,.ab 0 0),(7,.ab 1 0),(9,.ab 2 0),(10,.ai false),(11,J (wI (i+1)))]) (an [(0,cu f),(1,.aw [J b.id,.aa b.ay.ca,J b.ay.ar,J b.ay.aC,J b.bZ.1,J b.bZ.2.1,.aa b.bZ.2.2.1,J b.bZ.2.2.2,.ad 3 b.bk.length 6] 34),(2,iv f.ay (.ad 4 (l.length+1) 4) .bB),(3,c_ b.bk),(4,.aF (aP l++[J (il n aL s cs len fr).1.df,J (il n aL s cs len fr).1.n,.aa (il n aL s cs len fr).1.f_,.ax (aP (il n aL s cs len fr).1.dE) (il n aL s cs len fr).1.dE.length 4]) 42)] 5) (ao Z 4 0)))) (L (aQ [(1,J id),(2,J fr),(3,.ab 0 0),(7,.ab 1 0),(9,.ab 2 0),(10,.ai ok),(14,J 0)]) (an [(0,cu f),(1,.aw [J b.id,.aa b.ay.ca,J b.ay.ar,J b.ay.aC,J b.bZ.1,J b.bZ.2.1,.aa b.bZ.2.2.1,J b.bZ.2.2.2,.ad 3 b.bk.length 6] 34),(2,iv f.ay (.ad 4 l.length 4) .bB),(3,c_ b.bk),(4,.aF (aP l) 42)] 5) (ao Z 4 1))):=by kernel_rfl
theorem atj(f:bg)(b:fR)(l:bH)(gs:cY)(id fr:Int)(ok:Bool)(i:Int)(L:LT)(Q:QT):
 cO Z W6 tD L Q 1000 4 0 (aQ (Cm id fr ok i)) (ao Z 4 1) (k2 f b l gs)=(
 ah (decide (i<Int.ofNat f.aA.length)) (∃aD:Nat,i=(aD:Int)∧aD<f.aA.length∧(∃n:Int,∃s:LN,∃aL:Int,∃bD:Int,∃cs:LV,∃len:Nat,∃cf:Int,(((bN f.aA).drop (aD*6)).take 6:List AV)=[J n,.aa s,J aL,J bD,.ax cs len 4,J cf]∧(∃bU:Nat,i=(bU:Int)∧bU<f.aA.length∧(∃cK:Int,∃db:LN,∃fI:Int,∃gS:Int,∃cA:LV,∃cq:Nat,∃jZ:Int,(((bN f.aA).drop (bU*6)).take 6:List AV)=[J cK,.aa db,J fI,J gS,.ax cA cq 4,J jZ]∧ah (n==2) (∃cd:Nat,i=(cd:Int)∧cd<f.aA.length∧(∃fT:Int,∃iI:LN,∃fJ:Int,∃lO:Int,∃ib:LV,∃ij:Nat,∃kL:Int,(((bN f.aA).drop (cd*6)).take 6:List AV)=[J fT,.aa iI,J fJ,J lO,.ax ib ij 4,J kL]∧L (aQ [(1,J id),(2,J fr),(3,.ab 0 0),(7,.ab 1 0),(9,.ab 2 0),(10,.ai ok),(14,J i),(15,.ab 3 0),(16,J 0)]) (an [(0,cu f),(1,.aw [J b.id,.aa b.ay.ca,J b.ay.ar,J b.ay.aC,J b.bZ.1,J b.bZ.2.1,.aa b.bZ.2.2.1,J b.bZ.2.2.2,.ad 4 b.bk.length 6] 34),(2,iv f.ay (.ax (aP l) l.length 4) (.ad 5 gs.length 6)),(3,.aw [J n,.aa db,J fI,J gS,.bB,J (wI (kL+fr))] 46),(4,c_ b.bk),(5,.aF (bN gs) 46)] 6) (ao Z 4 2))) (ah (n==3) (∃cd:Nat,i=(cd:Int)∧cd<f.aA.length∧(∃fT:Int,∃iI:LN,∃fJ:Int,∃lO:Int,∃ib:LV,∃ij:Nat,∃kL:Int,(((bN f.aA).drop (cd*6)).take 6:List AV)=[J fT,.aa iI,J fJ,J lO,.ax ib ij 4,J kL]∧L (aQ [(1,J id),(2,J fr),(3,.ab 0 0),(7,.ab 1 0),(9,.ab 2 0),(10,.ai ok),(14,J i),(15,.ab 3 0),(16,J 0)]) (an [(0,cu f),(1,.aw [J b.id,.aa b.ay.ca,J b.ay.ar,J b.ay.aC,J b.bZ.1,J b.bZ.2.1,.aa b.bZ.2.2.1,J b.bZ.2.2.2,.ad 4 b.bk.length 6] 34),(2,iv f.ay (.ax (aP l) l.length 4) (.ad 5 gs.length 6)),(3,.aw [J n,.aa db,J fI,J gS,.bB,J (wI (kL+fr))] 46),(4,c_ b.bk),(5,.aF (bN gs) 46)] 6) (ao Z 4 2))) (ah (n==4) (∃cd:Nat,i=(cd:Int)∧cd<f.aA.length∧(∃fT:Int,∃iI:LN,∃fJ:Int,∃lO:Int,∃ib:LV,∃ij:Nat,∃kL:Int,(((bN f.aA).drop (cd*6)).take 6:List AV)=[J fT,.aa iI,J fJ,J lO,.ax ib ij 4,J kL]∧L (aQ [(1,J id),(2,J fr),(3,.ab 0 0),(7,.ab 1 0),(9,.ab 2 0),(10,.ai ok),(14,J i),(15,.ab 3 0),(16,J 0)]) (an [(0,cu f),(1,.aw [J b.id,.aa b.ay.ca,J b.ay.ar,J b.ay.aC,J b.bZ.1,J b.bZ.2.1,.aa b.bZ.2.2.1,J b.bZ.2.2.2,.ad 4 b.bk.length 6] 34),(2,iv f.ay (.ax (aP l) l.length 4) (.ad 5 gs.length 6)),(3,.aw [J n,.aa db,J fI,J gS,.bB,J (wI (kL+fr))] 46),(4,c_ b.bk),(5,.aF (bN gs) 46)] 6) (ao Z 4 2))) (L (aQ [(1,J id),(2,J fr),(3,.ab 0 0),(7,.ab 1 0),(9,.ab 2 0),(10,.ai ok),(14,J i),(15,.ab 3 0),(16,J 0)]) (an [(0,cu f),(1,.aw [J b.id,.aa b.ay.ca,J b.ay.ar,J b.ay.aC,J b.bZ.1,J b.bZ.2.1,.aa b.bZ.2.2.1,J b.bZ.2.2.2,.ad 4 b.bk.length 6] 34),(2,iv f.ay (.ax (aP l) l.length 4) (.ad 5 gs.length 6)),(3,.aw [J n,.aa db,J fI,J gS,.bB,J 0] 46),(4,c_ b.bk),(5,.aF (bN gs) 46)] 6) (ao Z 4 2)))))))) (ah (!ok) (an [] 0=aq∧Q (.ai true) aq) False)):=by kernel_rfl
theorem atl(f:bg)(b:fR)(l:bH)(gs:cY)(id fr:Int)(ok:Bool)(i:Int)(L:LT)(Q:QT):
 cO Z W6 tD L Q 1000 4 0 (aQ (Cm id fr ok i)) (ao Z 4 1) (k2e f b l gs)=(
 ah (decide (i<Int.ofNat f.aA.length)) (∃aD:Nat,i=(aD:Int)∧aD<f.aA.length∧(∃n:Int,∃s:LN,∃aL:Int,∃bD:Int,∃cs:LV,∃len:Nat,∃cf:Int,(((bN f.aA).drop (aD*6)).take 6:List AV)=[J n,.aa s,J aL,J bD,.ax cs len 4,J cf]∧(∃bU:Nat,i=(bU:Int)∧bU<f.aA.length∧(∃cK:Int,∃db:LN,∃fI:Int,∃gS:Int,∃cA:LV,∃cq:Nat,∃jZ:Int,(((bN f.aA).drop (bU*6)).take 6:List AV)=[J cK,.aa db,J fI,J gS,.ax cA cq 4,J jZ]∧ah (n==2) (∃cd:Nat,i=(cd:Int)∧cd<f.aA.length∧(∃fT:Int,∃iI:LN,∃fJ:Int,∃lO:Int,∃ib:LV,∃ij:Nat,∃kL:Int,(((bN f.aA).drop (cd*6)).take 6:List AV)=[J fT,.aa iI,J fJ,J lO,.ax ib ij 4,J kL]∧L (aQ [(1,J id),(2,J fr),(3,.ab 0 0),(7,.ab 1 0),(9,.ab 2 0),(10,.ai ok),(14,J i),(15,.ab 3 0),(16,J 0)]) (an [(0,cu f),(1,.aw [J b.id,.aa b.ay.ca,J b.ay.ar,J b.ay.aC,J b.bZ.1,J b.bZ.2.1,.aa b.bZ.2.2.1,J b.bZ.2.2.2,.ad 4 b.bk.length 6] 34),(2,iv f.ay (.ax (aP l) l.length 4) (.ax (bN gs) gs.length 6)),(3,.aw [J n,.aa db,J fI,J gS,.bB,J (wI (kL+fr))] 46),(4,c_ b.bk)] 5) (ao Z 4 2))) (ah (n==3) (∃cd:Nat,i=(cd:Int)∧cd<f.aA.length∧(∃fT:Int,∃iI:LN,∃fJ:Int,∃lO:Int,∃ib:LV,∃ij:Nat,∃kL:Int,(((bN f.aA).drop (cd*6)).take 6:List AV)=[J fT,.aa iI,J fJ,J lO,.ax ib ij 4,J kL]∧L (aQ [(1,J id),(2,J fr),(3,.ab 0 0),(7,.ab 1 0),(9,.ab 2 0),(10,.ai ok),(14,J i),(15,.ab 3 0),(16,J 0)]) (an [(0,cu f),(1,.aw [J b.id,.aa b.ay.ca,J b.ay.ar,J b.ay.aC,J b.bZ.1,J b.bZ.2.1,.aa b.bZ.2.2.1,J b.bZ.2.2.2,.ad 4 b.bk.length 6] 34),(2,iv f.ay (.ax (aP l) l.length 4) (.ax (bN gs) gs.length 6)),(3,.aw [J n,.aa db,J fI,J gS,.bB,J (wI (kL+fr))] 46),(4,c_ b.bk)] 5) (ao Z 4 2))) (ah (n==4) (∃cd:Nat,i=(cd:Int)∧cd<f.aA.length∧(∃fT:Int,∃iI:LN,∃fJ:Int,∃lO:Int,∃ib:LV,∃ij:Nat,∃kL:Int,(((bN f.aA).drop (cd*6)).take 6:List AV)=[J fT,.aa iI,J fJ,J lO,.ax ib ij 4,J kL]∧L (aQ [(1,J id),(2,J fr),(3,.ab 0 0),(7,.ab 1 0),(9,.ab 2 0),(10,.ai ok),(14,J i),(15,.ab 3 0),(16,J 0)]) (an [(0,cu f),(1,.aw [J b.id,.aa b.ay.ca,J b.ay.ar,J b.ay.aC,J b.bZ.1,J b.bZ.2.1,.aa b.bZ.2.2.1,J b.bZ.2.2.2,.ad 4 b.bk.length 6] 34),(2,iv f.ay (.ax (aP l) l.length 4) (.ax (bN gs) gs.length 6)),(3,.aw [J n,.aa db,J fI,J gS,.bB,J (wI (kL+fr))] 46),(4,c_ b.bk)] 5) (ao Z 4 2))) (L (aQ [(1,J id),(2,J fr),(3,.ab 0 0),(7,.ab 1 0),(9,.ab 2 0),(10,.ai ok),(14,J i),(15,.ab 3 0),(16,J 0)]) (an [(0,cu f),(1,.aw [J b.id,.aa b.ay.ca,J b.ay.ar,J b.ay.aC,J b.bZ.1,J b.bZ.2.1,.aa b.bZ.2.2.1,J b.bZ.2.2.2,.ad 4 b.bk.length 6] 34),(2,iv f.ay (.ax (aP l) l.length 4) (.ax (bN gs) gs.length 6)),(3,.aw [J n,.aa db,J fI,J gS,.bB,J 0] 46),(4,c_ b.bk)] 5) (ao Z 4 2)))))))) (ah (!ok) (an [] 0=aq∧Q (.ai true) aq) ((an [] 0=aq∧By [.aa f.ay.ca,J f.ay.ar,J f.ay.aC,.ax (aP l) l.length 4,.ax (bN gs) gs.length 6])∧ah (!pJ ez [.aa f.ay.ca,J f.ay.ar,J f.ay.aC,.ax (aP l) l.length 4,.ax (bN gs) gs.length 6]) (an [] 0=aq∧Q (.ai true) aq) (∃w:bg×Int,(([.au [.aa f.ay.ca,J f.ay.ar,J f.ay.aC,.ax (aP l) l.length 4,.ax (bN gs) gs.length 6],J id]:LV)=[.au (ft w.1),J w.2]∧an [] 0=aq∧hJ w.1∧(ez w.1=true->bA w.1.aO+e8 w.1.aA<3600∧w.1.aA.length<=500))∧ah ((cL w.1 w.2).2==0) (∃ae:fR,(([.au [J b.id,.aa b.ay.ca,J b.ay.ar,J b.ay.aC,J b.bZ.1,J b.bZ.2.1,.aa b.bZ.2.2.1,J b.bZ.2.2.2,.ad 0 b.bk.length 6],.au [J (cL w.1 w.2).1.id,.aa (cL w.1 w.2).1.ay.ca,J (cL w.1 w.2).1.ay.ar,J (cL w.1 w.2).1.ay.aC,J (cL w.1 w.2).1.bZ.1,J (cL w.1 w.2).1.bZ.2.1,.aa (cL w.1 w.2).1.bZ.2.2.1,J (cL w.1 w.2).1.bZ.2.2.2,.ad 1 (cL w.1 w.2).1.bk.length 6]]:LV)=[.au (nu ae (.ad 0 ae.bk.length 6)),.au (nu ae (.ad 1 ae.bk.length 6))]∧an [(0,c_ b.bk),(1,c_ (cL w.1 w.2).1.bk)] 2=A2 ae∧ae.bk.length<60000)∧an [] 0=aq∧Q (.ai true) aq) (Q (.ai false) aq))))):=by kernel_rfl
theorem atm(f:bg)(b:fR)(l:bH)(gs:cY)(g:gH)(v:Int)(ts:bH)(id fr:Int)(ok:Bool)(i j:Int)(L:LT)(Q:QT):
 cO Z W6 tD L Q 1000 4 0 (aQ (FG id fr ok i j)) (ao Z 4 2) (k3 f b l gs g v ts)=(
 ∃aD:Nat,i=(aD:Int)∧aD<f.aA.length∧(∃n:Int,∃s:LN,∃aL:Int,∃bD:Int,∃cs:LV,∃len:Nat,∃cf:Int,(((bN f.aA).drop (aD*6)).take 6:List AV)=[J n,.aa s,J aL,J bD,.ax cs len 4,J cf]∧ah (decide (j<Int.ofNat len)) (∃bU:Nat,i=(bU:Int)∧bU<f.aA.length∧(∃cK:Int,∃db:LN,∃fI:Int,∃gS:Int,∃cA:LV,∃cq:Nat,∃jZ:Int,(((bN f.aA).drop (bU*6)).take 6:List AV)=[J cK,.aa db,J fI,J gS,.ax cA cq 4,J jZ]∧(∃cd:Nat,j=(cd:Int)∧cd<cq∧(∃fT:Int,∃fJ:Int,∃iI:LN,∃ib:LV,∃ij:Nat,((cA.drop (cd*4)).take 4:List AV)=[J fT,J fJ,.aa iI,.ax ib ij 4]∧(an [] 0=aq∧k9 [J fT,J fJ,.aa iI,.ax ib ij 4])∧ah ok (((aP ts).length=ts.length*4∧ts.length+1<=65536∧true=true∧true=true)∧L (aQ [(1,J id),(2,J fr),(3,.ab 0 0),(7,.ab 1 0),(9,.ab 2 0),(10,.ai ((il fT fJ iI ib ij fr).2==0)),(14,J i),(15,.ab 3 0),(16,J (wI (j+1)))]) (an [(0,cu f),(1,.aw [J b.id,.aa b.ay.ca,J b.ay.ar,J b.ay.aC,J b.bZ.1,J b.bZ.2.1,.aa b.bZ.2.2.1,J b.bZ.2.2.2,.ad 4 b.bk.length 6] 34),(2,iv f.ay (.ax (aP l) l.length 4) (.ad 5 gs.length 6)),(3,xm g (.ad 6 (ts.length+1) 4) v),(4,c_ b.bk),(5,.aF (bN gs) 46),(6,.aF (aP ts++[J (il fT fJ iI ib ij fr).1.df,J (il fT fJ iI ib ij fr).1.n,.aa (il fT fJ iI ib ij fr).1.f_,.ax (aP (il fT fJ iI ib ij fr).1.dE) (il fT fJ iI ib ij fr).1.dE.length 4]) 42)] 7) (ao Z 4 2)) (((aP ts).length=ts.length*4∧ts.length+1<=65536∧true=true∧true=true)∧L (aQ [(1,J id),(2,J fr),(3,.ab 0 0),(7,.ab 1 0),(9,.ab 2 0),(10,.ai false),(14,J i),(15,.ab 3 0),(16,J (wI (j+1)))]) (an [(0,cu f),(1,.aw [J b.id,.aa b.ay.ca,J b.ay.ar,J b.ay.aC,J b.bZ.1,J b.bZ.2.1,.aa b.bZ.2.2.1,J b.bZ.2.2.2,.ad 4 b.bk.length 6] 34),(2,iv f.ay (.ax (aP l) l.length 4) (.ad 5 gs.length 6)),(3,xm g (.ad 6 (ts.length+1) 4) v),(4,c_ b.bk),(5,.aF (bN gs) 46),(6,.aF (aP ts++[J (il fT fJ iI ib ij fr).1.df,J (il fT fJ iI ib ij fr).1.n,.aa (il fT fJ iI ib ij fr).1.f_,.ax (aP (il fT fJ iI ib ij fr).1.dE) (il fT fJ iI ib ij fr).1.dE.length 4]) 42)] 7) (ao Z 4 2)))))) (((bN gs).length=gs.length*6∧gs.length+1<=65536∧true=true∧false=true)∧L (aQ [(1,J id),(2,J fr),(3,.ab 0 0),(7,.ab 1 0),(9,.ab 2 0),(10,.ai ok),(14,J (wI (i+1)))]) (an [(0,cu f),(1,.aw [J b.id,.aa b.ay.ca,J b.ay.ar,J b.ay.aC,J b.bZ.1,J b.bZ.2.1,.aa b.bZ.2.2.1,J b.bZ.2.2.2,.ad 3 b.bk.length 6] 34),(2,iv f.ay (.ax (aP l) l.length 4) (.ad 4 (gs.length+1) 6)),(3,c_ b.bk),(4,.aF (bN gs++[J g.cS,.aa g.ay.ca,J g.ay.ar,J g.ay.aC,.ad 6 ts.length 4,J v]) 46)] 5) (ao Z 4 1)))):=by kernel_rfl
theorem ato(f:bg)(b:fR)(l:bH)(gs:cY)(g:gH)(v:Int)(ts:bH)(id fr:Int)(ok:Bool)(i j:Int)(L:LT)(Q:QT):
 cO Z W6 tD L Q 1000 4 0 (aQ (FG id fr ok i j)) (ao Z 4 2) (k3e f b l gs g v ts)=(
 ∃aD:Nat,i=(aD:Int)∧aD<f.aA.length∧(∃n:Int,∃s:LN,∃aL:Int,∃bD:Int,∃cs:LV,∃len:Nat,∃cf:Int,(((bN f.aA).drop (aD*6)).take 6:List AV)=[J n,.aa s,J aL,J bD,.ax cs len 4,J cf]∧ah (decide (j<Int.ofNat len)) (∃bU:Nat,i=(bU:Int)∧bU<f.aA.length∧(∃cK:Int,∃db:LN,∃fI:Int,∃gS:Int,∃cA:LV,∃cq:Nat,∃jZ:Int,(((bN f.aA).drop (bU*6)).take 6:List AV)=[J cK,.aa db,J fI,J gS,.ax cA cq 4,J jZ]∧(∃cd:Nat,j=(cd:Int)∧cd<cq∧(∃fT:Int,∃fJ:Int,∃iI:LN,∃ib:LV,∃ij:Nat,((cA.drop (cd*4)).take 4:List AV)=[J fT,J fJ,.aa iI,.ax ib ij 4]∧(an [] 0=aq∧k9 [J fT,J fJ,.aa iI,.ax ib ij 4])∧ah ok False False)))) (((bN gs).length=gs.length*6∧gs.length+1<=65536∧true=true∧true=true)∧L (aQ [(1,J id),(2,J fr),(3,.ab 0 0),(7,.ab 1 0),(9,.ab 2 0),(10,.ai ok),(14,J (wI (i+1)))]) (an [(0,cu f),(1,.aw [J b.id,.aa b.ay.ca,J b.ay.ar,J b.ay.aC,J b.bZ.1,J b.bZ.2.1,.aa b.bZ.2.2.1,J b.bZ.2.2.2,.ad 3 b.bk.length 6] 34),(2,iv f.ay (.ax (aP l) l.length 4) (.ad 4 (gs.length+1) 6)),(3,c_ b.bk),(4,.aF (bN gs++[J g.cS,.aa g.ay.ca,J g.ay.ar,J g.ay.aC,.ax (aP ts) ts.length 4,J v]) 46)] 5) (ao Z 4 1)))):=by kernel_rfl
mutual
theorem agq(fr:Int):∀{t:aK},eR t->eR (pw fr t)
 |.mk k n s l,h=>⟨h.1,by rw[zV];exact h.2.1,ags fr h.2.2⟩
theorem ags(fr:Int):∀{l:bH},gU l->gU (kM fr l)
 |[],_=>trivial
 |t::l,h=>⟨agq fr h.1,ags fr h.2⟩
end
mutual
theorem agr(fr:Int):∀(t:aK),cG (pw fr t)=cG t
 |.mk k n s l=>by simp only[pw,cG,agt fr l]
theorem agt(fr:Int):∀(l:bH),bA (kM fr l)=bA l
 |[]=>rfl
 |t::l=>by simp only[kM,bA,agr fr t,agt fr l]
end
theorem apw{t:aK}(h:eR t)(fr:Int):eR (m_ t fr).1:=by
 have hz:eR Oy:=⟨by unfold eF;decide,by unfold eF;decide,trivial⟩;unfold m_;split
 ·exact hz
 ·split
  ·exact hz
  ·exact agq fr h
theorem ae0{t:aK}{fr:Int}(h:(m_ t fr).2=0):(m_ t fr).1=pw fr t:=by
 unfold m_ at h⊢;split at h
 ·cases h
 ·split at h
  ·cases h
  ·rename_i h1 h2;rw[if_neg h1,if_neg h2]
def dP(fr:Int)(l:bH):bH:=l.map fun t=>(m_ t fr).1
def lq(fr:Int)(l:bH):Bool:=l.all fun t=>(m_ t fr).2==0
def zS(fr k v:Int):Int:=if k=2∨k=3∨k=4 then wI (v+fr)else 0
def sD(fr:Int)(g:gH):gH:=⟨g.cS,g.ay,dP fr g.cx,zS fr g.cS g.gE⟩
def mJ(fr:Int)(f:bg):bg:=⟨f.ay,dP fr f.aO,f.aA.map (sD fr)⟩
def u6(fr:Int)(f:bg):Bool:=lq fr f.aO&&f.aA.all fun g=>lq fr g.cx
theorem ae4{l:bH}(h:gU l)(fr:Int):gU (dP fr l):=by
 induction l with
 |nil=>trivial
 |cons t l ih=>exact⟨apw h.1 fr,ih h.2⟩
theorem Fx(fr:Int)(l:bH):(dP fr l).length=l.length:=by simp[dP]
theorem ae5{fr:Int}{l:bH}(h:lq fr l=true):bA (dP fr l)=bA l:=by
 induction l with
 |nil=>rfl
 |cons t l ih=>simp only[lq,List.all_cons,Bool.and_eq_true,beq_iff_eq]at h;simp only[dP,List.map_cons,bA];rw[ae0 h.1,agr];have:=ih (by simpa only[lq]using h.2);unfold dP at this;rw[this]
theorem ae2{f:bg}(h:hJ f)(fr:Int):hJ (mJ fr f):=by obtain⟨h1,h2,h3,h4,h5⟩:=h;refine⟨h1,by rw[show(mJ fr f).aO=dP fr f.aO from rfl,Fx];exact h2,ae4 h3 fr,by simpa[mJ]using h4,fun g hg=>?_⟩;simp only[mJ,List.mem_map]at hg;obtain⟨g0,hg0,rfl⟩:=hg;obtain⟨q1,q2,q3⟩:=h5 g0 hg0;exact⟨q1,by rw[show(sD fr g0).cx=dP fr g0.cx from rfl,Fx];exact q2,ae4 q3 fr⟩
theorem abo{fr:Int}:∀{l:cY},(l.all fun g=>lq fr g.cx)=true->e8 (l.map (sD fr))=e8 l
 |[],_=>rfl
 |g::l,h=>by simp only[List.all_cons,Bool.and_eq_true]at h;simp only[List.map_cons,e8];rw[abo h.2,show(sD fr g).cx=dP fr g.cx from rfl,ae5 h.1]
theorem Ww:∀(l:bH) (n:Int),(∀t∈l,jd t=true)->nM n l<=3000->nM n l=n+(bA l:Int)
 |[],n,_,_=>by simp[nM,bA]
 |t::l,n,hv,h=>by
  unfold nM at h⊢;split at h
  ·rename_i hn;rw[if_pos hn];have:=Ww l _ (fun t ht=>hv t (List.mem_cons_of_mem _ ht)) h;rw[this,Wj (hv t (List.mem_cons_self ..)),bA]
   push_cast
   omega
  ·omega
theorem avS:∀(l:bH) (n:Int),n>3000->nM n l>3000
 |[],n,h=>h
 |t::l,n,h=>by unfold nM;rw[if_neg (by omega)];exact h
theorem W_:∀(l:cY) (n:Int),n>3000->tX n l=true
 |[],n,h=>decide_eq_true h
 |g::l,n,h=>by
  unfold tX;split
  ·rfl
  ·exact W_ l _ (avS _ _ h)
theorem aho:∀(l:cY) (n:Int),(∀g∈l,∀t∈g.cx,jd t=true)->tX n l=false->n+(e8 l:Int)<=3000+l.length
 |[],n,_,h=>by have:=of_decide_eq_false h;simp[e8];omega
 |g::l,n,hv,h=>by
  unfold tX at h;split at h
  ·cases h
  ·have ih:=aho l _ (fun g hg=>hv g (List.mem_cons_of_mem _ hg)) h;have cI:nM n g.cx<=3000:=by apply Int.not_lt.1;intro hh;rw[W_ l _ (by omega)]at h;cases h
   rw[Ww _ _ (hv g (List.mem_cons_self ..)) cI]at ih;simp only[e8,List.length_cons]
   push_cast
   omega
theorem abl:∀(l:cY) (b:Bool) (left:Int),k6 b left l=true->∀g∈l,∀t∈g.cx,jd t=true
 |[],_,_,_,g,hg=>by cases hg
 |x::l,b,left,h,g,hg=>by
  simp only[k6,Bool.and_eq_true]at h;rcases List.mem_cons.1 hg with rfl|hg
  ·exact(qo.1 h.1.2).1
  ·exact abl l _ _ h.2 g hg
theorem Xd{f:bg}(h:pB f=false)(hv:ez f=true):bA f.aO+e8 f.aA<3600∧f.aA.length<=500:=by
 unfold pB at h;split at h
 ·cases h
 ·rename_i hn;have EF:∀t∈f.aO,jd t=true:=by simp only[ez,Bool.and_eq_true]at hv;exact(qo.1 hv.1.2).1
  have cI:nM 0 f.aO<=3000:=by apply Int.not_lt.1;intro hh;rw[W_ _ _ (by omega)]at h;cases h
  have hvg:k6 false (131072-bA f.aO) f.aA=true:=by simp only[ez,Bool.and_eq_true]at hv;exact hv.2
  have h2:=aho _ _ (abl _ _ _ hvg) h;rw[Ww _ _ EF cI]at h2;omega
theorem ahn:∀{l:cY} {n:Int},tX n l=false->∀g∈l,g.cx.length<=1500
 |[],_,_,g,hg=>by cases hg
 |x::l,n,h,g,hg=>by
  unfold tX at h;split at h
  ·cases h
  ·rename_i hx;rcases List.mem_cons.1 hg with rfl|hg
   ·omega
   ·exact ahn h g hg
theorem Xc{f:bg}(h:pB f=false):f.aO.length<=1500∧f.aA.length<=500∧∀g∈f.aA,g.cx.length<=1500:=by
 unfold pB at h;split at h
 ·cases h
 ·rename_i hn;exact⟨by omega,by omega,ahn h⟩
section
variable{f:bg}{b:fR}{id fr:Int}
abbrev yC(T:Tr AV)(H:AH)(j:Nat):Prop:=bJ Z 4 209 0 (.ai true) aq T H (ao Z 4 j)
theorem atn{i:Nat}{l:bH}{gs:cY}{g:gH}{v:Int}{zH:Bool}(hf:hJ f)(hw:pB f=false)(hi:i<f.aA.length)(hg:f.aA[i]=g)(Ek:gs.length<=500)(hv:v=zS fr g.cS g.gE)
 (next:yC (aQ (Cm id fr (zH&&lq fr g.cx) ((i+1:Nat):Int))) (k2 f b l (gs++[sD fr g])) 1):
 ∀p:Nat×Bool,(p.1<=g.cx.length∧p.2=(zH&&lq fr (g.cx.take p.1)))->yC (aQ (FG id fr p.2 i (p.1:Int))) (k3 f b l gs g v (dP fr (g.cx.take p.1))) 2:=by
 have Er:=Xc hw;have hga:g.cx.length<=1500:=by rw[←hg];exact Er.2.2 _ (List.getElem_mem hi)
 have abR:nF g:=by rw[←hg];exact hf.2.2.2.2 _ (List.getElem_mem hi)
 have hil:=Er.2.1;obtain⟨kk,nm,ar,aC,ls,vv,aS,bX,-⟩:=ra hi hf.2.2.2.2;have aS:=hg.symm.trans aS;subst aS;refine cV (fun p=>ls.length-p.1) _ _ _ _ ?_;rintro⟨j,ok⟩ ⟨hj,bn⟩ ih;simp only at hj bn ih hga abR⊢;by_cases aj:j<ls.length
 ·refine hD C0 1000 tD (by kernel_rfl) ?_;rw[atm];refine⟨i,rfl,hi,kk,nm,ar,aC,aP ls,ls.length,vv,bX,aI.2 ⟨fun _=>?_,fun h=>?_⟩⟩
  ·obtain⟨k1,n1,s1,l1,oF,Bo,Bn⟩:=pz aj abR.2.2;have bF:(aP (dP fr (ls.take j))).length=(dP fr (ls.take j)).length*4:=AO _;have Bk:(dP fr (ls.take j)).length=j:=by rw[Fx,List.length_take];omega
   have hr:il k1 n1 s1 (aP l1) l1.length fr=m_ ls[j] fr:=by rw[oF];exact j_ _ _ _ _ _
   have e2:aP (dP fr (ls.take (j+1)))=aP (dP fr (ls.take j))++cR (m_ ls[j] fr).1:=by
    have:dP fr (ls.take (j+1))=dP fr (ls.take j)++[(m_ ls[j] fr).1]:=by unfold dP;rw[List.take_add_one,List.getElem?_eq_getElem aj];simp only[Option.toList_some,List.map_append,List.map_cons,List.map_nil]
    rw[this,KG];simp only[aP,List.append_nil]
   have e3:(dP fr (ls.take (j+1))).length=(dP fr (ls.take j)).length+1:=by rw[Bk,Fx,List.length_take];omega
   have e4:lq fr (ls.take (j+1))=(lq fr (ls.take j)&&((m_ ls[j] fr).2==0)):=by unfold lq;rw[List.take_add_one,List.getElem?_eq_getElem aj];simp only[Option.toList_some,List.all_append,List.all_cons,List.all_nil,Bool.and_true]
   have n_:wI ((j:Int)+1)=((j+1:Nat):Int):=by rw[cX (by omega) (by omega)];simp
   have uT:∀tF,tF=(zH&&lq fr (ls.take (j+1)))->yC (aQ (FG id fr tF i (wI ((j:Int)+1)))) (k3 f b l gs ⟨kk,⟨nm,ar,aC⟩,ls,vv⟩ v (dP fr (ls.take (j+1)))) 2:=by intro tF h';rw[n_];exact ih (j+1,tF) ⟨aj,h'⟩ (by simp only;omega)
   rw[k3,e2,e3,←hr]at uT;refine⟨i,rfl,hi,kk,nm,ar,aC,aP ls,ls.length,vv,bX,j,rfl,aj,k1,n1,s1,aP l1,l1.length,Bo,⟨rfl,qD Bn⟩,aI.2 ⟨fun h=>⟨⟨bF,by omega,rfl,rfl⟩,?_⟩,fun h=>⟨⟨bF,by omega,rfl,rfl⟩,?_⟩⟩⟩
   ·have:=uT ((il k1 n1 s1 (aP l1) l1.length fr).2==0) (by rw[e4,←Bool.and_assoc,←bn,h,Bool.true_and,hr]);generalize il k1 n1 s1 (aP l1) l1.length fr=r at this⊢;obtain⟨⟨q1,q2,q3,q4⟩,q5⟩:=r;exact this
   ·have:=uT false (by rw[e4,←Bool.and_assoc,←bn,h,Bool.false_and]);generalize il k1 n1 s1 (aP l1) l1.length fr=r at this⊢;obtain⟨⟨q1,q2,q3,q4⟩,q5⟩:=r;exact this
  ·have h:¬((j:Int)<Int.ofNat ls.length):=of_decide_eq_false h;simp at h;omega
 ·have SU:j=ls.length:=by omega
  subst SU;rw[List.take_length]at bn;rw[List.take_length];have bF:(aP (dP fr ls)).length=(dP fr ls).length*4:=AO _;have hb:Nat.beq (aP (dP fr ls)).length ((dP fr ls).length*4)=true:=by rw[bF];exact Nat.beq_refl _
  refine SE (g:=6) (n:=7) (vs:=aP (dP fr ls)) (el:=42) (l:=[(0,cu f),(1,oy 4 b),(2,iv f.ay (.ax (aP l) l.length 4) (.ad 5 gs.length 6)),(3,xm ⟨kk,⟨nm,ar,aC⟩,ls,vv⟩ (.ad 6 (dP fr ls).length 4) v),(4,c_ b.bk),(5,.aF (bN gs) 46),(6,.aF (aP (dP fr ls)) 42)]) ?_ rfl (by kernel_rfl);have GN:qZ 6 (aP (dP fr ls)) [(0,cu f),(1,oy 4 b),(2,iv f.ay (.ax (aP l) l.length 4) (.ad 5 gs.length 6)),(3,xm ⟨kk,⟨nm,ar,aC⟩,ls,vv⟩ (.ad 6 (dP fr ls).length 4) v),(4,c_ b.bk),(5,.aF (bN gs) 46),(6,.aF (aP (dP fr ls)) 42)]=
   [(0,cu f),(1,oy 4 b),(2,iv f.ay (.ax (aP l) l.length 4) (.ad 5 gs.length 6)),(3,xm ⟨kk,⟨nm,ar,aC⟩,ls,vv⟩ (.ax (aP (dP fr ls)) (dP fr ls).length 4) v),(4,c_ b.bk),(5,.aF (bN gs) 46),(6,.b9 [])]:=by
   have e1:oC 6 (aP (dP fr ls)) (.ad 6 (dP fr ls).length 4)=.ax (aP (dP fr ls)) (dP fr ls).length 4:=by simp only[oC,hb];rfl
   simp only[qZ,xl,xm,qp,e1];rfl
  rw[GN];refine LJ (qa:=[0,1,2,3]) (ls:=[1,2,3,7,9,10,14,15,16]) (ps:=[(0,0),(1,1),(2,2),(3,3),(4,4),(5,5)]) (H2:=k3e f b l gs ⟨kk,⟨nm,ar,aC⟩,ls,vv⟩ v (dP fr ls)) (t:=aQ (FG id fr ok i (ls.length:Int))) (by kernel_rfl) (by kernel_rfl) (by kernel_rfl) ?_;refine hD C0 1000 tD (by kernel_rfl) ?_;rw[ato];refine⟨i,rfl,hi,kk,nm,ar,aC,aP ls,ls.length,vv,bX,aI.2 ⟨fun h=>?_,fun _=>⟨⟨KD gs,by omega,rfl,rfl⟩,?_⟩⟩⟩
  ·have h:((ls.length:Int)<Int.ofNat ls.length):=of_decide_eq_true h;simp at h
  ·have n_:wI ((i:Int)+1)=((i+1:Nat):Int):=by rw[cX (by omega) (by omega)];simp
   rw[n_];rw[←bn]at next
   simp only[k2,Rh,List.length_append,List.length_cons,List.length_nil,bN,List.append_nil]at next
   subst hv;exact next
end
section
variable{f:bg}{b:fR}{id fr:Int}
theorem atk(hf:hJ f)(hw:pB f=false)(jx:0<=fr∧fr<=1000)(hb:b.bk.length<60000)(hE:u6 fr f=true->ez (mJ fr f)=true->ez f=true)
 (hC:u6 fr f=true->ez (mJ fr f)=true->cL (mJ fr f) id=(b,0)):
 ∀p:Nat×Bool,(p.1<=f.aA.length∧p.2=(lq fr f.aO&&(f.aA.take p.1).all fun g=>lq fr g.cx))->
 yC (aQ (Cm id fr p.2 (p.1:Int))) (k2 f b (dP fr f.aO) ((f.aA.take p.1).map (sD fr))) 1:=by
 have Er:=Xc hw;have vY:=Er.2.1;refine cV (fun p=>f.aA.length-p.1) _ _ _ _ ?_;rintro⟨i,ok⟩ ⟨hi,bn⟩ ih;simp only at hi bn ih⊢;by_cases aj:i<f.aA.length
 ·
  have Ek:((f.aA.take i).map (sD fr)).length<=500:=by simp only[List.length_map,List.length_take];omega
  have uT:yC (aQ (Cm id fr (ok&&lq fr f.aA[i].cx) ((i+1:Nat):Int))) (k2 f b (dP fr f.aO) ((f.aA.take i).map (sD fr)++[sD fr f.aA[i]])) 1:=by have:=ih (i+1,ok&&lq fr f.aA[i].cx) ⟨aj,by simp only;rw[List.take_add_one,List.getElem?_eq_getElem aj,bn];simp only[Option.toList_some,List.all_append,List.all_cons,List.all_nil,Bool.and_true,Bool.and_assoc]⟩ (by simp only;omega);simp only at this;rw[List.take_add_one,List.getElem?_eq_getElem aj]at this;simp only[Option.toList_some,List.map_append,List.map_cons,List.map_nil]at this;exact this
  have h3:=fun v hv=>atn (f:=f) (b:=b) (id:=id) (fr:=fr) (i:=i) (l:=dP fr f.aO) (gs:=(f.aA.take i).map (sD fr)) (v:=v) (zH:=ok) hf hw aj rfl Ek hv uT (0,ok) ⟨Nat.zero_le _,by simp[lq]⟩
  obtain⟨kk,nm,ar,aC,ls,vv,aS,bX,-⟩:=ra aj hf.2.2.2.2;generalize LM:(f.aA.take i).map (sD fr)=gs at*;rw[aS]at h3;have hn:∀v,v=zS fr kk vv->yC (aQ (FG id fr ok i 0)) (an [(0,cu f),(1,oy 4 b),(2,iv f.ay (.ax (aP (dP fr f.aO)) (dP fr f.aO).length 4) (.ad 5 gs.length 6)),(3,.aw [J kk,.aa nm,J ar,J aC,.bB,J v] 46),(4,c_ b.bk),(5,.aF (bN gs) 46)] 6) 2:=by
   intro v hv;refine Ej (H':=an ([(0,cu f),(1,oy 4 b),(2,iv f.ay (.ax (aP (dP fr f.aO)) (dP fr f.aO).length 4) (.ad 5 gs.length 6)),(3,xm ⟨kk,⟨nm,ar,aC⟩,ls,vv⟩ (.ad 6 0 4) v),(4,c_ b.bk),(5,.aF (bN gs) 46)]++[(6,.aF [] 42)]) (6+1)) ?_ (xY (g:=3) (vs:=[J kk,.aa nm,J ar,J aC,.bB,J v]) (eV:=[J kk,.aa nm,J ar,J aC,.ad 6 0 4,J v]) (el:=46) rfl (fun j=>?_) rfl (fun φ x hx=>?_) ⟨rfl,rfl⟩) (by kernel_rfl)
   ·exact h3 v hv
   ·rcases j with _|_|_|_|_|_|j<;>rfl
   ·exact Ik (n:=6) (sz:=4) hx
  refine hD C0 1000 tD (by kernel_rfl) ?_;rw[atj];refine aI.2 ⟨fun _=>⟨i,rfl,aj,kk,nm,ar,aC,aP ls,ls.length,vv,bX,i,rfl,aj,kk,nm,ar,aC,aP ls,ls.length,vv,bX,aI.2 ⟨fun h=>?_,fun h2=>aI.2 ⟨fun h=>?_,fun h3=>aI.2 ⟨fun h=>?_,fun h4=>?_⟩⟩⟩⟩,fun h=>?_⟩
  ·have h:kk=2:=by simpa using h
   refine⟨i,rfl,aj,kk,nm,ar,aC,aP ls,ls.length,vv,bX,?_⟩;exact hn _ (by rw[zS,if_pos (.inl h)])
  ·have h:kk=3:=by simpa using h
   refine⟨i,rfl,aj,kk,nm,ar,aC,aP ls,ls.length,vv,bX,?_⟩;exact hn _ (by rw[zS,if_pos (.inr (.inl h))])
  ·have h:kk=4:=by simpa using h
   refine⟨i,rfl,aj,kk,nm,ar,aC,aP ls,ls.length,vv,bX,?_⟩;exact hn _ (by rw[zS,if_pos (.inr (.inr h))])
  ·have h2:¬kk=2:=by simpa using h2
   have h3:¬kk=3:=by simpa using h3
   have h4:¬kk=4:=by simpa using h4
   exact hn 0 (by rw[zS,if_neg (by omega)])
  ·have h:¬((i:Int)<Int.ofNat f.aA.length):=of_decide_eq_false h;simp at h;omega
 ·
  have hil:i=f.aA.length:=by omega
  subst hil;rw[List.take_length]at bn;rw[List.take_length];have bn:ok=u6 fr f:=bn;generalize LM:f.aA.map (sD fr)=gs;have qu:Nat.beq (bN gs).length (gs.length*6)=true:=by rw[KD];exact Nat.beq_refl _
  refine SE (g:=4) (n:=5) (vs:=bN gs) (el:=46) (l:=[(0,cu f),(1,oy 3 b),(2,iv f.ay (.ax (aP (dP fr f.aO)) (dP fr f.aO).length 4) (.ad 4 gs.length 6)),(3,c_ b.bk),(4,.aF (bN gs) 46)]) ?_ rfl (by kernel_rfl);have GN:qZ 4 (bN gs) [(0,cu f),(1,oy 3 b),(2,iv f.ay (.ax (aP (dP fr f.aO)) (dP fr f.aO).length 4) (.ad 4 gs.length 6)),(3,c_ b.bk),(4,.aF (bN gs) 46)]=
   [(0,cu f),(1,oy 3 b),(2,iv f.ay (.ax (aP (dP fr f.aO)) (dP fr f.aO).length 4) (.ax (bN gs) gs.length 6)),(3,c_ b.bk),(4,.b9 [])]:=by
   have e1:oC 4 (bN gs) (.ad 4 gs.length 6)=.ax (bN gs) gs.length 6:=by simp only[oC,qu];rfl
   simp only[qZ,xl,iv,qp,e1];rfl
  rw[GN];refine LJ (qa:=[0,1,2]) (ls:=[1,2,3,7,9,10,14]) (ps:=[(0,0),(1,1),(2,2),(3,3)]) (H2:=k2e f b (dP fr f.aO) gs) (t:=aQ (Cm id fr ok (f.aA.length:Int))) (by kernel_rfl) (by kernel_rfl) (by kernel_rfl) ?_;refine hD C0 1000 tD (by kernel_rfl) ?_;rw[atl];have hd:∀{α:Type} [Inhabited α] (q:bg->α),pJ q [.aa f.ay.ca,J f.ay.ar,J f.ay.aC,.ax (aP (dP fr f.aO)) (dP fr f.aO).length 4,.ax (bN gs) gs.length 6]=q (mJ fr f):=by intro α _ q;rw[←LM];exact yT q (mJ fr f)
  refine aI.2 ⟨fun h=>?_,fun _=>aI.2 ⟨fun _=>⟨rfl,rfl,rfl⟩,fun h=>⟨⟨rfl,mJ fr f,by rw[←LM];rfl,ae2 hf fr⟩,aI.2 ⟨fun _=>⟨rfl,rfl,rfl⟩,fun h2=>⟨(mJ fr f,id),⟨by rw[←LM];rfl,rfl,ae2 hf fr,fun hv=>?_⟩,?_⟩⟩⟩⟩⟩
  ·have h:((f.aA.length:Int)<Int.ofNat f.aA.length):=of_decide_eq_true h;simp at h
  ·have h:ok=true:=by simpa using h
   have hr:u6 fr f=true:=bn.symm.trans h;have hs:=Xd hw (hE hr hv);have xG:=hr;simp only[u6,Bool.and_eq_true]at xG;have e1:bA (mJ fr f).aO=bA f.aO:=ae5 xG.1;have e2:e8 (mJ fr f).aA=e8 f.aA:=abo xG.2;rw[e1,e2];exact⟨hs.1,by simpa[mJ]using hs.2⟩
  ·have h:ok=true:=by simpa using h
   have hr:u6 fr f=true:=bn.symm.trans h;rw[hd]at h2;have h2:ez (mJ fr f)=true:=by simpa using h2
   have hc:=hC hr h2;simp only;rw[hc];refine aI.2 ⟨fun _=>⟨b,⟨rfl,rfl,hb⟩,rfl,rfl,rfl⟩,fun h=>?_⟩;have h:((0:Int)==0)=false:=h;simp at h
theorem ati(hf:hJ f)(hw:pB f=false)(jx:0<=fr∧fr<=1000)(hb:b.bk.length<60000)(hE:u6 fr f=true->ez (mJ fr f)=true->ez f=true)
 (hC:u6 fr f=true->ez (mJ fr f)=true->cL (mJ fr f) id=(b,0)):
 ∀p:Nat×Bool,(p.1<=f.aO.length∧p.2=lq fr (f.aO.take p.1))->
 yC (aQ (Wz id fr p.2 (p.1:Int))) (k1 f b (dP fr (f.aO.take p.1))) 0:=by
 have Er:=Xc hw;have ji:=Er.1;refine cV (fun p=>f.aO.length-p.1) _ _ _ _ ?_;rintro⟨j,ok⟩ ⟨hj,bn⟩ ih;simp only at hj bn ih⊢;refine hD C0 1000 tD (by kernel_rfl) ?_;rw[ath];refine aI.2 ⟨fun aj=>?_,fun aS=>?_⟩
 ·have aj:j<f.aO.length:=by simpa using aj
  obtain⟨EM,n1,s1,l1,oF,Bo,Bn⟩:=pz aj hf.2.2.1;have bF:(aP (dP fr (f.aO.take j))).length=(dP fr (f.aO.take j)).length*4:=AO _;have Bk:(dP fr (f.aO.take j)).length=j:=by rw[Fx,List.length_take];omega
  have hr:il EM n1 s1 (aP l1) l1.length fr=m_ f.aO[j] fr:=by rw[oF];exact j_ _ _ _ _ _
  have e2:aP (dP fr (f.aO.take (j+1)))=aP (dP fr (f.aO.take j))++cR (m_ f.aO[j] fr).1:=by
   have:dP fr (f.aO.take (j+1))=dP fr (f.aO.take j)++[(m_ f.aO[j] fr).1]:=by unfold dP;rw[List.take_add_one,List.getElem?_eq_getElem aj];simp only[Option.toList_some,List.map_append,List.map_cons,List.map_nil]
   rw[this,KG];simp only[aP,List.append_nil]
  have e3:(dP fr (f.aO.take (j+1))).length=(dP fr (f.aO.take j)).length+1:=by rw[Bk,Fx,List.length_take];omega
  have e4:lq fr (f.aO.take (j+1))=(lq fr (f.aO.take j)&&((m_ f.aO[j] fr).2==0)):=by unfold lq;rw[List.take_add_one,List.getElem?_eq_getElem aj];simp only[Option.toList_some,List.all_append,List.all_cons,List.all_nil,Bool.and_true]
  have n_:wI ((j:Int)+1)=((j+1:Nat):Int):=by rw[cX (by omega) (by omega)];simp
  have uT:∀tF,tF=lq fr (f.aO.take (j+1))->yC (aQ (Wz id fr tF (wI ((j:Int)+1)))) (k1 f b (dP fr (f.aO.take (j+1)))) 0:=by intro tF h';rw[n_];exact ih (j+1,tF) ⟨aj,h'⟩ (by simp only;omega)
  rw[k1,e2,e3,←hr]at uT;refine⟨j,rfl,aj,EM,n1,s1,aP l1,l1.length,Bo,⟨rfl,qD Bn⟩,aI.2 ⟨fun h=>⟨⟨bF,by omega,rfl,rfl⟩,?_⟩,fun h=>⟨⟨bF,by omega,rfl,rfl⟩,?_⟩⟩⟩
  ·have:=uT ((il EM n1 s1 (aP l1) l1.length fr).2==0) (by rw[e4,←bn,h,Bool.true_and,hr]);generalize il EM n1 s1 (aP l1) l1.length fr=r at this⊢;obtain⟨⟨q1,q2,q3,q4⟩,q5⟩:=r;exact this
  ·have:=uT false (by rw[e4,←bn,h,Bool.false_and]);generalize il EM n1 s1 (aP l1) l1.length fr=r at this⊢;obtain⟨⟨q1,q2,q3,q4⟩,q5⟩:=r;exact this
 ·have aS:f.aO.length<=j:=by simpa using aS
  have SU:j=f.aO.length:=by omega
  subst SU;rw[List.take_length]at bn;rw[List.take_length];have h2:=atk (id:=id) hf hw jx hb hE hC (0,ok) ⟨Nat.zero_le _,by simp[bn]⟩;simp only[List.take_zero,List.map_nil]at h2;generalize dP fr f.aO=l at h2⊢;have qu:Nat.beq (aP l).length (l.length*4)=true:=by rw[AO];exact Nat.beq_refl _
  refine SE (g:=4) (n:=5) (vs:=aP l) (el:=42) (l:=[(0,cu f),(1,oy 3 b),(2,iv f.ay (.ad 4 l.length 4) .bB),(3,c_ b.bk),(4,.aF (aP l) 42)]) ?_ rfl (by kernel_rfl);have GN:qZ 4 (aP l) [(0,cu f),(1,oy 3 b),(2,iv f.ay (.ad 4 l.length 4) .bB),(3,c_ b.bk),(4,.aF (aP l) 42)]=
   [(0,cu f),(1,oy 3 b),(2,iv f.ay (.ax (aP l) l.length 4) .bB),(3,c_ b.bk),(4,.b9 [])]:=by
   have e1:oC 4 (aP l) (.ad 4 l.length 4)=.ax (aP l) l.length 4:=by simp only[oC,qu];rfl
   simp only[qZ,xl,iv,qp,e1];rfl
  rw[GN];refine Ej (H':=an ([(0,cu f),(1,oy 3 b),(2,iv f.ay (.ax (aP l) l.length 4) (.ad 5 0 6)),(3,c_ b.bk),(4,.b9 [])]++[(5,.aF [] 46)]) (5+1)) ?_ (xY (g:=2) (vs:=[.aa f.ay.ca,J f.ay.ar,J f.ay.aC,.ax (aP l) l.length 4,.bB]) (eV:=[.aa f.ay.ca,J f.ay.ar,J f.ay.aC,.ax (aP l) l.length 4,.ad 5 0 6]) (el:=27) rfl (fun j=>?_) rfl (fun φ x hx=>?_) ⟨rfl,rfl⟩) (by kernel_rfl)
  ·refine LJ (qa:=[0,1,2]) (ls:=[1,2,3,7,9,10,14]) (ps:=[(0,0),(1,1),(2,2),(3,3),(5,4)]) (H2:=k2 f b l []) (t:=aQ (Cm id fr ok 0)) (by kernel_rfl) (by kernel_rfl) (by kernel_rfl) ?_;exact h2
  ·rcases j with _|_|_|_|_|j<;>rfl
  ·exact Ik (n:=5) (sz:=6) hx
theorem am9(hf:hJ f)
 (h0:pB f=false->(cL f id).2≠0->((cL f id).2=1∨(cL f id).2=2)∧(cL f id).1.bk=[])
 (hV:pB f=false->(cL f id).2=0->yu (cL f id).1=true∧(cL f id).1.bk.length<60000∧(cL f id).1.id=id∧(cL f id).1.ay=f.ay)
 (hE:pB f=false->(cL f id).2=0->ez f=true)
 (hC:pB f=false->(cL f id).2=0->0<=fr->fr<=1000->u6 fr f=true->ez (mJ fr f)=true->cL (mJ fr f) id=cL f id):
 dT Z 4 [.au (ft f),J id,J fr] aq (.ai true) aq:=by
 refine eS C0 1000 tD 209 (by kernel_rfl) ?_;rw[atp];have hd:pJ pB (ft f)=pB f:=yT pB f;refine⟨⟨rfl,⟨f,rfl,hf⟩⟩,aI.2 ⟨fun h=>⟨rfl,rfl,rfl⟩,fun h=>?_⟩⟩;rw[hd]at h;refine⟨(f,id),⟨rfl,rfl,hf,Xd h⟩,aI.2 ⟨fun he=>?_,fun he=>?_⟩⟩
 ·have he:(cL f id).2≠0:=by simpa using he
  obtain⟨h1,h2⟩:=h0 h he;have e0:(Int.ofNat (cL f id).1.bk.length==0)=true:=by rw[h2];rfl
  simp only;refine aI.2 ⟨fun _=>aI.2 ⟨fun _=>⟨rfl,rfl,rfl⟩,fun h3=>?_⟩,fun h3=>aI.2 ⟨fun _=>aI.2 ⟨fun _=>⟨rfl,rfl,rfl⟩,fun h4=>?_⟩,fun h4=>?_⟩⟩
  ·rw[e0]at h3;cases h3
  ·rw[e0]at h4;cases h4
  ·have h3:¬(cL f id).2=1:=by simpa using h3
   have h4:¬(cL f id).2=2:=by simpa using h4
   rcases h1 with h1|h1
   ·exact absurd h1 h3
   ·exact absurd h1 h4
 ·have he:(cL f id).2=0:=by simpa using he
  obtain⟨v1,v2,v3,v4⟩:=hV h he;simp only;refine⟨(cL f id).1,⟨rfl,rfl⟩,aI.2 ⟨fun h1=>?_,fun _=>aI.2 ⟨fun h1=>?_,fun _=>aI.2 ⟨fun h1=>?_,fun _=>aI.2 ⟨fun _=>⟨rfl,rfl,rfl⟩,fun h1=>aI.2 ⟨fun _=>⟨rfl,rfl,rfl⟩,fun h2=>?_⟩⟩⟩⟩⟩⟩
  ·rw[v1]at h1;cases h1
  ·rw[v3]at h1;simp at h1
  ·rw[v4]at h1;simp[KS]at h1
  ·have h1:¬fr<0:=of_decide_eq_false h1;have h2:¬fr>1000:=of_decide_eq_false h2;have mB:∀b',(cL f id).1=b'->(cL f id)=(b',0):=by rintro _ rfl;rw[←he]
   generalize hb:(cL f id).1=b' at*;have key:=ati (id:=id) hf h (b:=b') ⟨by omega,by omega⟩ v2 (fun _ _=>hE h he) (fun q1 q2=>(hC h he (by omega) (by omega) q1 q2).trans (mB b' rfl)) (0,true) ⟨Nat.zero_le _,rfl⟩;refine Ej (H':=an ([(0,cu f),(1,oy 3 b'),(2,iv f.ay (.ad 4 0 4) .bB),(3,c_ b'.bk)]++[(4,.aF [] 42)]) (4+1)) ?_ (xY (g:=2) (vs:=[.aa f.ay.ca,J f.ay.ar,J f.ay.aC,.bB,.bB]) (eV:=[.aa f.ay.ca,J f.ay.ar,J f.ay.aC,.ad 4 0 4,.bB]) (el:=27) rfl (fun j=>?_) rfl (fun φ x hx=>?_) ⟨rfl,rfl⟩) (by kernel_rfl)
   ·exact key
   ·rcases j with _|_|_|_|j<;>rfl
   ·obtain⟨x1,l1,rfl,q1,x2,l2,rfl,q2,x3,l3,rfl,q3,x4,l4,rfl,q4,q5⟩:=hx;exact⟨x1,_,rfl,q1,x2,_,rfl,q2,x3,_,rfl,q3,x4,_,rfl,sY q4,q5⟩
end
mutual
theorem agu{fr:Int}(h0:0<=fr)(h1:fr<=1000):∀{t:aK},gT t=true->pw fr t=kU fr t
 |.mk k n s l,h=>by
  simp only[gT,Bool.and_eq_true]at h;simp only[pw,kU];rw[agv h0 h1 h.2];congr 1;unfold pv;split
  ·rename_i hk;have h2:=h.1;unfold pY at h2;rw[if_pos hk]at h2;simp only[decide_eq_true_eq]at h2;exact cX (by omega) (by omega)
  ·rfl
theorem agv{fr:Int}(h0:0<=fr)(h1:fr<=1000):∀{l:bH},g_ l=true->kM fr l=gI fr l
 |[],_=>rfl
 |t::l,h=>by simp only[g_,Bool.and_eq_true]at h;simp only[kM,gI];rw[agu h0 h1 h.1,agv h0 h1 h.2]
end
theorem VD{fr:Int}(h0:0<=fr)(h1:fr<=1000):∀{l:bH},g_ l=true->lq fr l=true->dP fr l=gI fr l
 |[],_,_=>rfl
 |t::l,h,ho=>by simp only[g_,Bool.and_eq_true]at h;simp only[lq,List.all_cons,Bool.and_eq_true,beq_iff_eq]at ho;have:=VD h0 h1 h.2 (by simpa only[lq]using ho.2);unfold dP at this⊢;simp only[List.map_cons,gI];rw[this,ae0 ho.1,agu h0 h1 h.1]
theorem abi:∀{l:cY} {bP:Bool} {left:Int},k6 bP left l=true->∀g∈l,g_ g.cx=true∧((g.cS=2∨g.cS=3∨g.cS=4)->tU g.gE=true)∧(¬(g.cS=2∨g.cS=3∨g.cS=4)->g.gE=0)
 |[],_,_,_,g,hg=>by cases hg
 |x::l,bP,left,h,g,hg=>by
  simp only[k6,Bool.and_eq_true]at h;rcases List.mem_cons.1 hg with rfl|hg
  ·refine⟨?_,fun hk=>?_,fun hk=>?_⟩
   ·have:=(qo.1 h.1.2).1;generalize g.cx=al at this⊢;induction al with
    |nil=>rfl
    |cons t al ih=>have h1:=this t (List.mem_cons_self ..);unfold jd at h1;simp only[Bool.and_eq_true]at h1;simp only[g_,Bool.and_eq_true];exact⟨h1.2,ih (fun t ht=>this t (List.mem_cons_of_mem _ ht))⟩
   ·have h1:=h.1.1;unfold nT at h1;rw[if_neg (by omega)]at h1;split at h1
    ·simp only[Bool.and_eq_true]at h1;exact h1.1.2
    ·rw[if_pos (by omega)]at h1;simp only[Bool.and_eq_true]at h1;exact h1.2
   ·have h1:=h.1.1;unfold nT at h1;split at h1
    ·simp only[Bool.and_eq_true,decide_eq_true_eq]at h1;exact h1.2.2
    ·rw[if_neg (by omega),if_neg (by omega)]at h1;split at h1
     ·simp only[Bool.and_eq_true,decide_eq_true_eq]at h1;exact h1.2
     ·cases h1
  ·exact abi h.2 g hg
theorem apx{f:bg}{fr:Int}(h0:0<=fr)(h1:fr<=1000)(hv:ez f=true)(ho:u6 fr f=true):mJ fr f=mL fr f:=by
 obtain⟨_,_,h2,h3⟩:=On hv;simp only[u6,Bool.and_eq_true,List.all_eq_true]at ho;unfold mJ mL;rw[VD h0 h1 h2 ho.1];congr 1;refine List.map_congr_left fun g hg=>?_
 obtain⟨q1,q2,q3⟩:=abi h3 g hg;unfold sD iQ;rw[VD h0 h1 q1 (ho.2 g hg)];congr 1;unfold zS;split
 ·rename_i hk;have:=q2 hk;simp only[tU,decide_eq_true_eq]at this;exact cX (by omega) (by omega)
 ·rename_i hk;exact(q3 hk).symm
theorem Qo{code:cn}{base:List Int}:∀(rest:cn) (i fr part:Nat) (l:cn),(pH code base i fr part l rest).2=0∨(pH code base i fr part l rest).2=1
 |[],i,fr,part,l=>.inl rfl
 |x::rest,i,fr,part,l=>by
  simp only[pH];split
  ·exact Qo rest _ _ _ _
  ·split
   ·rename_i he;right;unfold eD at he⊢;split
    ·rename_i hv;rw[if_pos hv]at he;exact absurd rfl he
    ·rfl
   ·exact Qo rest _ _ _ _
theorem ajj{f:bg}{id:Int}(h:(cL f id).2≠0):((cL f id).2=1∨(cL f id).2=2)∧(cL f id).1.bk=[]:=by
 unfold cL at h⊢;split
 ·exact⟨.inl rfl,rfl⟩
 ·rename_i h1;rw[if_neg h1]at h;split
  ·rename_i h2;refine⟨?_,rfl⟩;simp only;unfold jt at h2⊢;split
   ·exact .inr rfl
   ·rename_i h3;rw[if_neg h3]at h2;rcases Qo (code:=(fO (a_ f)).aM) (base:=ep (a_ f)) (fO (a_ f)).aM 0 0 0 []with h4|h4
    ·exact absurd h4 h2
    ·exact .inl h4
  ·rename_i h2;rw[if_neg h2]at h;exact absurd rfl h
theorem am7{f:bg}{id fr:Int}(hf:hJ f):dT Z 4 [.au (ft f),J id,J fr] aq (.ai true) aq:=by
 have pU:(cL f id).2=0->ez f=true:=by
  intro h;cases hq:ez f with
  |true=>rfl
  |false=>unfold cL at h;rw[if_pos (.inl hq)]at h;cases h
 refine am9 hf (fun _ h=>ajj h) (fun hw h=>?_) (fun _ h=>pU h) (fun hw h h0 h1 ho hv=>?_)
 ·obtain⟨g1,g2,g3,g4,_⟩:=ajl (Xd hw (pU h)).1 h;exact⟨g1,g2,g3,g4⟩
 ·have e:=apx h0 h1 (pU h) ho;rw[e]at hv⊢;exact ajk (pU h) hv
theorem am8(f:bg)(id fr:Int)(hf:hJ f):dT Tryz.prog 4 [.au (ft f),.ck .i64 id,.ck .i64 fr] ⟨.fL,0⟩ (.ai true) ⟨.fL,0⟩:=am7 hf
end
end Go.Cl
