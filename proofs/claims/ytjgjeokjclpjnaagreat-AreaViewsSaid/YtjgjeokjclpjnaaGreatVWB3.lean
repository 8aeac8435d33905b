/- Part of a proof of AreaViews. -/
import Derived.Test.YtjgjeokjclpjnaaGreatVWB2
set_option linter.all false
set_option linter.unusedSectionVars false
set_option maxRecDepth 100000
namespace Go.Cl
open Go.Ev Go.Proofs
noncomputable section
def I1(k n:Int)(s:LN)(len:Nat):Int×Int×LN×Int:=
 if k=1 then(1,n,[],0)else if k=2 then(2,0,s,0)else if k=3 then(3,0,s,len)else(0,0,[],0)
def ac6(k:Int×Int×LN×Int):LV:=[J k.1,J k.2.1,.ao k.2.2.1,J k.2.2.2]
theorem aDB(k n s len):XM k n s len=ac6 (I1 k n s len):=by
 unfold XM I1 ac6;split
 .rfl
 .split
  .rfl
  .split<;>rfl
def kyX(ky:Int->Int->LN->Nat->Int×Int×LN×Int):bT (Int×Int×LN×LV×Nat)where
 aI w A H:=A=[.aj [J w.1,J w.2.1,.ao w.2.2.1,.aq w.2.2.2.1 w.2.2.2.2 4]]/\H=ay
 v w:=.aj [J (ky w.1 w.2.1 w.2.2.1 w.2.2.2.2).1,J (ky w.1 w.2.1 w.2.2.1 w.2.2.2.2).2.1,.ao (ky w.1 w.2.1 w.2.2.1 w.2.2.2.2).2.2.1,J (ky w.1 w.2.1 w.2.2.1 w.2.2.2.2).2.2.2]
 aD w:=ay
theorem aDC(ky):(kyX ky).bM:=by rintro⟨k,n,s,cs,len⟩ ⟨k',n',s',cs',len'⟩ A H ⟨h1,_⟩ ⟨h2,_⟩;rw[h1]at h2;simp at h2;obtain⟨rfl,rfl,rfl,rfl,rfl⟩:=h2;rfl
def R27:Ev.aX:=bx 93 (bE (kyX I1) (aDC I1) bU) R26
abbrev Pr:Ev.aX:=R27
theorem aw6:aF Z R27:=by refine bY aw5 ?_;rintro⟨k,n,s,cs,len⟩ args H ⟨rfl,rfl⟩;refine aiV.1 93 _ ay (ay=ay/\True) _ ay (by decide) (UP ?_) da;unfold fj;simp only[aeH,aDB,ac6];rfl
theorem UF:aF Z Pr:=aw6
def Gk:Nat->LP->LI->LP
 |_,m,[]=>m
 |i,m,v::l=>Gk (i+1) (up v ((i+1:Nat):Int) m) l
def PF:aO:=.ah [J 0,.ao [],J 0,J 0,J 0,J 0,.ao [],J 0,.aM] 44
def h7a(f:bN):AH:=aE [(0,eN f),(1,PF)] 2
def h7b(f:bN)(c:lq)(base:LI)(m:Em):AH:=aE [(0,eN f),(1,PF),(2,.ah [.ad 6 c.cS.length 1,.ad 5 c.bH.length 1,.ad 7 c.aQ.length 1] 153),(3,bG base 3),(4,gi m 8 9 10 11 12),(5,bG c.bH 2),(6,bG c.cS 3),(7,bG c.aQ 3),(8,gS m),(9,fC m),(10,fP m),(11,fK m),(12,fE m)] 13
structure cL where
 id:Int
 bh:gZ
 xM:Int×Int×LN×Int
 wm:iN
def GZ:cL:=⟨0,⟨[],0,0⟩,(0,0,[],0),[]⟩
def A3(b:cL)(c:AV):LV:=[J b.id,.ao b.bh.eQ,J b.bh.ar,J b.bh.an,J b.xM.1,J b.xM.2.1,.ao b.xM.2.2.1,J b.xM.2.2.2,c]
def hB(b:cL):AH:=aE [(0,qo b.wm)] 1
def oQ(g:bN):Em:=⟨[],g,AZ g,Gk 0 [] (jP g),[],[],(ir g).getD 0 0,false⟩
def Fa(g:bN):Em:=bif vo g (ft g)then(oQ g).bj ⟨16,0,0,((jP g).length:Int),[],0⟩else oQ g
def nQ(g:bN):Em:=Em.bo (ft g) (ir g) (vo g (ft g)) 0 ((jP g).length:Int) ((Fa g).kK 0 (Fa g).f.cg) ((Fa g).kK 0 (Fa g).f.cg).f.bo
def oo(g:bN):iN×Int:=if(nQ g).kj=true\/(nQ g).bq.length>131072\/(jP g).length>4096 then([],2)else ta (nQ g).bq (ir g)
def xg(ky:Int->Int->LN->Nat->Int×Int×LN×Int):dF->Int×Int×LN×Int
 |[]=>(0,0,[],0)
 |t::_=>ky t.bV t.n t.cq t.aU.length
def ic(f:bN)(id:Int):cL×Int:=
 if kO f=false\/id<1\/id>1099511627776 then(GZ,1)
 else if(oo (bw f)).2≠0 then(GZ,(oo (bw f)).2)
 else(⟨id,f.bh,xg I1 f.cg,(oo (bw f)).1⟩,0)
def xC(r:cL×Int):AV:=if r.2=0 then .aL [.aj (A3 r.1 (.ad 0 r.1.wm.length 6)),J r.2]else .aL [.aj (A3 GZ .aM),J r.2]
def xB(r:cL×Int):AH:=if r.2=0 then hB r.1 else ay
def coX(Le:bN->Int->cL×Int):bT (bN×Int)where
 aI w A H:=A=[.aj (iE w.1),J w.2]/\H=ay/\km w.1/\(kO w.1=true->bz w.1.cg+fv w.1.bo<72000/\w.1.bo.length<=10000)
 v w:=.aL [.aj (A3 (Le w.1 w.2).1 (.ad 0 (Le w.1 w.2).1.wm.length 6)),J (Le w.1 w.2).2]
 aD w:=hB (Le w.1 w.2).1
theorem ay4(Le):(coX Le).bM:=by rintro⟨f,id⟩ ⟨f',ij⟩ A H ⟨h1,_⟩ ⟨k1,_⟩;rw[h1]at k1;simp at k1;rw[A5 _ _ k1.1,k1.2]
def R29:Ev.aX:=bx 52 (bE (coX ic) (ay4 ic) bU) Pr
def lv7:Nat->LN:=dY [(4,[1,2,4,28,29,30]),(15,[1,2,4,8,9,10,68,69,70])]
abbrev ZM x0 x1 x2 x3:=aJ [(1,J x0),(2,.aa 0 0),(4,.aa 1 0),(28,.aq (bX x1) x2 6),(29,J (a_ x2)),(30,J x3)]
abbrev Tq h0 h1 h2 h3 h4 h5 h6 h7 h8:=([J h0,.ao h1,J h2,J h3,J h4,J h5,.ao h6,J h7,h8]:LV)
abbrev NP:=Tq 0 [] 0 0 0 0 [] 0 .aM
theorem aIR{f id L Q}:
 fA Pr lv7 L Q 52 [.aj (iE f),J id] ay=(dc (XC (iE f))/\Az (!HU kO (iE f)) (Q (Eu NP 1) ay) (decide (id<1)) (gT (decide (id>1099511627776)) (Q (Eu NP 1) ay) L (ZM id f.bo f.bo.length 0) (j_ (eN f) PF) 52 0)):=by kernel_rfl
abbrev SQ x0 x1 x2 x3:=aJ [(1,J x0),(2,.aa 0 0),(4,.aa 1 0),(8,.aa 2 0),(9,.ad 3 x1 1),(10,.aa 4 0),(68,.ad 5 x2 1),(69,J (a_ x2)),(70,J x3)]
abbrev xJ h0 h1 h2:=([.aj h0]:LV)=[.aj h1]/\dc h2
abbrev zz9(h0:bN) h1 h2(h3:LT) h4:=∃b0:bN,xJ (Og h0.bh.eQ h0 h0.cg h1 h2) (JT b0) (km b0/\kO b0=true/\bz b0.cg+fv b0.bo<400000)/\(∃b1:bN,xJ (Og h0.bh.eQ h0 h0.cg h1 h2) (JT b1) (km b1/\List.length b1.bo<1200000)/\0<List.length (ir b1)/\lh 3 (bc (ir b1)) 0 (λb2=>∃b3:bN,xJ (Og h0.bh.eQ h0 h0.cg h1 h2) (JT b3) (km b3)/\(List.brecOn.go (motive:=λx=>Nat->Option AV) (bc (ir b1)) List.get?Internal._f).1 (0*1)=some (J b2:AV)/\im (.aj (Og h0.bh.eQ h0 h0.cg h1 h2))/\h3 (SQ h4 (List.length (ir b1)) (List.length (ft b0).bH) 0) (aE (Oh (.ah (Og h0.bh.eQ h0 h0.cg h1 h2) 106) (.ah NP 44) (.ah (Oq 6 (List.length (ft b0).cS) 5 (List.length (ft b0).bH) 7 (List.length (ft b0).aQ)) 153) (.au (bc (ir b1)) 3) (.ah [.aM,.ao h0.bh.eQ,J (gZ.ar (bN.bh h0)),J (gZ.an (bN.bh h0)),.aq (az h0.cg) (List.length h0.cg) 4,.aq h1 h2 6,.aS 8,.aS 9,.aS 10,.aS 11,J b2,.ai false] 162) (.au (bc (ft b0).bH) 2) (.au (bc (ft b0).cS) 3) (.au (bc (ft b0).aQ) 3) (zc (AZ b3) (List.length (AZ b3))) (eu [] 0) (eu [] 0) (eu [] 0)) 12) (aB Z 52 1)))
theorem aIN{f id i L Q}:
 iL Pr lv7 L Q 52 0 (ZM id f.bo f.bo.length i) 0 (h7a f)=jQ i (List.length f.bo) (λcv=>∃n,∃s,∃bm,∃bS,∃cs,∃len,∃dn,(((bX f.bo).drop (cv*6)).take 6:LV)=wj n s bm bS cs len dn/\gT (n==5) (∃jA:Nat,wI (i+1)=(jA:Int)/\(0<=jA/\jA<=List.length f.bo)/\zz9 f (((bX f.bo).drop 0).take ((jA-0)*6)) (jA-0) L id) L (ZM id f.bo (List.length f.bo) (wI (i+1))) (j_ (.ah (JT f) 106) (.ah NP 44)) 52 0) (zz9 f (bX f.bo) (List.length f.bo) L id):=by kernel_rfl
abbrev aaq(h0:Int×Int×LN×LV×Nat):=I1 h0.1 h0.2.1 h0.2.2.1 h0.2.2.2.2
abbrev TD h0 h1 h2 h3 h4:=Az h0 h1 h2 (aZ h3 h1 h4)
abbrev avs(h0:lq)(h1:LI)(h2:bN×lq)(h3:Em×Unit)(h4:QT)(h5:bN) h6:=∃b0:Em×lq×LI×Bool,(([.aa 0 0,.aj (Oq 1 h0.cS.length 2 h0.bH.length 3 h0.aQ.length),.ad 4 h1.length 1,.ai (vo h2.1 h2.2)]:LV)=[.aa 0 0,.aj (Oq 1 b0.2.1.cS.length 2 b0.2.1.bH.length 3 b0.2.1.aQ.length),.ad 4 b0.2.2.1.length 1,.ai b0.2.2.2]/\Qo (Em.kK 0 h3.1 h3.1.f.cg) h2.2 h1=Qo b0.1 b0.2.1 b0.2.2.1/\b0.1.bq.length+qi b0.1.f.bo<4194304/\Ud b0.2.1 b0.2.2.1 b0.1.f.bo)/\TD (Em.bo b0.2.1 b0.2.2.1 b0.2.2.2 0 ((b0.2.1.bH.length:Nat):Int) b0.1 b0.1.f.bo).kj (h4 (Eu NP 2) ay) (decide (a_ (Em.bo b0.2.1 b0.2.2.1 b0.2.2.2 0 ↑b0.2.1.bH.length b0.1 b0.1.f.bo).bq.length>131072)) (decide (a_ h0.bH.length>4096)) (∃b1:iN×LI,(([.ad 0 (Em.bo b0.2.1 b0.2.2.1 b0.2.2.2 0 ↑b0.2.1.bH.length b0.1 b0.1.f.bo).bq.length 6,.ad 1 h1.length 1]:LV)=[.ad 0 b1.1.length 6,.ad 1 b1.2.length 1]/\j_ (gS (Em.bo b0.2.1 b0.2.2.1 b0.2.2.2 0 ↑b0.2.1.bH.length b0.1 b0.1.f.bo)) (bG b0.2.2.1 3)=L1 b1.1 b1.2/\b1.1.length<240000/\iw b1.1<b1.2.length/\b1.2.length<2000000)/\aZ ((ta b1.1 b1.2).2 !=0) (h4 (Eu NP (ta b1.1 b1.2).2) ay) (aZ (decide (a_ h5.cg.length>0)) (0<h5.cg.length/\og (((az h5.cg).drop 0).take 4:LV) (λb2=>λb3=>λb4=>λb5=>λb6=>∃b7:Int×Int×LN×LV×Nat,(([cN b2 b3 b4 b5 b6]:LV)=[cN b7.1 b7.2.1 b7.2.2.1 b7.2.2.2.1 b7.2.2.2.2]/\aE [] 0=ay)/\h4 (Eu (Tq h6 h5.bh.eQ h5.bh.ar h5.bh.an (aaq b7).1 (aaq b7).2.1 (aaq b7).2.2.1 (aaq b7).2.2.2 (.ad 0 (ta b1.1 b1.2).1.length 6)) 0) (iA (qo (ta b1.1 b1.2).1)))) (h4 (Eu (Tq h6 h5.bh.eQ h5.bh.ar h5.bh.an 0 0 [] 0 (.ad 0 (ta b1.1 b1.2).1.length 6)) 0) (iA (qo (ta b1.1 b1.2).1)))))
theorem aIP{f id i c base m L Q}:
 iL Pr lv7 L Q 52 0 (SQ id base.length c.bH.length i) 1 (h7b f c base m)=jQ i c.bH.length (λcv=>lh 2 (bc c.bH) (cv*1) (λn=>rP 2 (bJ J 0 m.bH) m.bH.length n (cu i) (λbF=>λc'=>L (SQ id base.length c.bH.length (wI (i+1))) (aE [(0,eN f),(1,PF),(2,.ah (Ka 6 c 5 7) 153),(3,bG base 3),(4,gi m 8 9 10 11 12),(5,bG c.bH 2),(6,bG c.cS 3),(7,bG c.aQ 3),(8,gS m),(9,fC m),(10,eu bF c'),(11,fK m),(12,fE m)] 13) (aB Z 52 1)))) (∃w:bN×lq,(([.aj (iE f),.aj (Ka 0 c 1 2)]:LV)=[.aj (iE w.1),.aj (Oq 0 w.2.cS.length 1 w.2.bH.length 2 w.2.aQ.length)]/\AY c=AY w.2/\km w.1)/\aZ (vo w.1 w.2) (qK 16 0 0 (a_ c.bH.length) [] 0 m (λaH=>∃cI:Em×Unit,uY (ek (aH.1.bj aH.2)=ek cI.1/\agt cI.1 cI.2) (avs c base w cI Q f id))) (∃aH:Em×Unit,uY (ek m=ek aH.1/\agt aH.1 aH.2) (avs c base w aH Q f id))):=by kernel_rfl
theorem apW{t}(h:eP t=true):0<=t.bV/\t.bV<4:=by
 have⟨k,n,s,l⟩:=t;simp only[eP,ik,cT,DP]at h;have h:=h.2.1;simp only[ax.bV];unfold BG at h;split at h
 .omega
 .split at h
  .omega
  .split at h
   .omega
   .split at h
    .omega
    .cases h
theorem an8:∀l b left,ym b left l=true->∀g∈l,Gh g.fT
 |[],_,_,_,g,hg=>by cases hg
 |x::l,b,left,h,g,hg=>by
  simp only[ym,cT]at h;rcases dU.1 hg with rfl|hg
  .exact λt ht=>apW ((Ik.1 h.1.2).1 t ht)
  .exact an8 l _ _ h.2 g hg
theorem aN0{f}(h:kO f=true):Gh f.cg/\∀g∈f.bo,Gh g.fT:=by simp only[kO,cT]at h;exact⟨λt ht=>apW ((Ik.1 h.1.2).1 t ht),an8 _ _ _ h.2⟩
theorem aoq:∀l,qi l<=4+2*fv l+2*l.length
 |[]=>by simp[qi]
 |g::l=>by have:=aoq l;simp only[qi,fv,dJ];omega
section
variable{f:bN}{id:Int}
theorem aFp(i m v l):Gk i m (v::l)=Gk (i+1) (up v ((i+1:Nat):Int) m) l:=rfl
theorem aIQ(hv:kO f=true)(dw:¬(id<1\/id>1099511627776))(hf:km f)(Xm:bz f.cg+fv f.bo<72000)(MF:f.bo.length<=10000):
 ∀k:LI×LI×LP,(k.1++k.2.1=jP (bw f)/\Gk k.1.length k.2.2 k.2.1=Gk 0 [] (jP (bw f)))->
 ba Z 52 152 0 (xC (ic f id)) (xB (ic f id)) (SQ id (ir (bw f)).length (ft (bw f)).bH.length (k.1.length:Int))
  (h7b (bw f) (ft (bw f)) (ir (bw f)) ⟨[],bw f,AZ (bw f),k.2.2,[],[],(ir (bw f)).getD 0 0,false⟩) (aB Z 52 1):=by
 have aN:=al7 hf;have Mt:=aN0 (al8 hv);have Xn:bz (bw f).cg+fv (bw f).bo<72000:=by have:=acM f.bo;show bz f.cg+fv (lY f.bo)<72000;omega
 have zN:(bw f).bo.length<=10000:=by have:=Vs f.bo;show(lY f.bo).length<=10000;omega
 have hgz:=aoq (bw f).bo;have W9:=Wo (bw f).bo;have rp:(ir (bw f)).length=1+oB (bw f).bo:=by rw[ir,U9];simp
 have hnc:=aq3 (bw f).bo;have hgs:Ud (ft (bw f)) (ir (bw f)) (bw f).bo:=by refine⟨aN.2.2.2.1,aN.2.2.2.2,Mt.2,aqi _ _ _ _,arL _ _,λi h hk=>?_⟩;have:=arJ (bw f).bo 0 i h;have h2:=this.2 hk;show 0<=(yO 0 (bw f).bo).getD i 0/\_;have e:(ft (bw f)).cS.getD i 0=((0+oB ((bw f).bo.take i):Nat):Int):=this.1;rw[e,this.1,rp];exact⟨by omega,by omega,by omega⟩
 have okc:(oo (bw f)).2=0->ic f id=(⟨id,f.bh,xg I1 f.cg,(oo (bw f)).1⟩,0):=by
  intro h;rw[ic,aw,aw (by rw[h];simp)];rintro(hh|hh)
  .rw[hv]at hh;cases hh
  .exact dw hh
 have A_:∀e,(oo (bw f)).2=e->e≠0->fD (xC (ic f id)) (xB (ic f id)) (.aL [.aj (A3 GZ .aM),J e]) ay:=by
  intro e he cx;have:ic f id=(GZ,e):=by
   rw[ic,aw,aP (by rw[he];exact cx),he];rintro(hh|hh)
   .rw[hv]at hh;cases hh
   .exact dw hh
  rw[this,xC,xB,aw cx,aw cx];exact aA
 have aP3:(jP (bw f)).length<80000:=by rw[jP,sO];have h1:=List.length_filter_le (Lg (o_ (bw f)).1) (o_ (bw f)).2;have h2:=arF (bw f) ([],[]);simp only[gH,lx]at h2;have h2:(o_ (bw f)).2.length<=bz (bw f).cg+fv (bw f).bo:=h2;omega
 refine dj (λk=>k.2.1.length) _ _ _ _ ?_;rintro⟨A,B,pm⟩ ⟨h1,h2⟩ ih;simp only at h1 h2 ih⊢;refine hE UF aIP ?_;dsimp only[cu,qK];have zC:A.length+B.length=(jP (bw f)).length:=by rw[<-h1];simp
 have kL:(ft (bw f)).bH.length=(jP (bw f)).length:=rfl;refine ja (λh=>?_) (λh=>?_)
 .have h:=cP h;cases B with
  |nil=>simp only[gH]at zC;simp only[jr]at h;omega
  |cons v B=>have hw:wI ((A.length:Int)+1)=((A.length+1:Nat):Int):=pk (kr _) (by omega);refine⟨A.length,rfl,by simp only[dJ]at zC;omega,v,by show fi Z 2 (bc (jP (bw f))) _=_;rw[<-h1];exact uV rfl,?_⟩;rw[hw];refine⟨_,_,ph J iF,?_⟩;have:=ih (A++[v],B,up v ((A.length+1:Nat):Int) pm) ⟨by rw[<-h1];simp,by rw[<-h2,aFp];simp⟩ (by simp);simp only[cj,dJ,gH,lx]at this;exact this
 .have h:=c9 h;cases B with
  |cons v B=>simp only[dJ]at zC;simp only[jr]at h;omega
  |nil=>
  simp only[Gk]at h2;subst h2;have e0:(⟨[],bw f,AZ (bw f),Gk 0 [] (jP (bw f)),[],[],(ir (bw f)).getD 0 0,false⟩:Em)=oQ (bw f):=rfl;refine⟨(bw f,ft (bw f)),⟨rfl,rfl,aN⟩,ja (λhe=>?_) (λhe=>?_)⟩
  .refine⟨(oQ (bw f),⟨16,0,0,((jP (bw f)).length:Int),[],0⟩),⟨rfl,rfl,by simp[oQ]⟩,?_⟩;have MA:Fa (bw f)=(oQ (bw f)).bj ⟨16,0,0,((jP (bw f)).length:Int),[],0⟩:=by have he:=he;rw[Fa,he];rfl
   have qd:((oQ (bw f)).bj ⟨16,0,0,((jP (bw f)).length:Int),[],0⟩).f=bw f:=rfl;have M1L:((oQ (bw f)).bj ⟨16,0,0,((jP (bw f)).length:Int),[],0⟩).bq.length<=1:=by have:=Fb (oQ (bw f)).bq ⟨16,0,0,((jP (bw f)).length:Int),[],0⟩;exact this
   have M1C:iw ((oQ (bw f)).bj ⟨16,0,0,((jP (bw f)).length:Int),[],0⟩).bq=0:=by have:=PH (oQ (bw f)).bq ⟨16,0,0,((jP (bw f)).length:Int),[],0⟩;simp[oQ,iw]at this;simpa[Em.bj,oQ,iw]using this
   generalize hM1:(oQ (bw f)).bj ⟨16,0,0,((jP (bw f)).length:Int),[],0⟩=M1 at MA qd M1L M1C;refine⟨(M1,()),⟨rfl,rfl,?_,?_,?_,?_⟩,?_⟩
   .simp only[qd];show M1.bq.length+2*bz (bw f).cg+1<4194304;omega
   .simp only[qd];exact aN.2.1
   .simp only[qd];exact aN.2.2.1
   .simp only[qd];exact Mt.1
   have Is:(M1.kK 0 M1.f.cg).f=bw f:=by rw[(cp.kK M1.f.cg 0 M1).f];exact qd
   have Qp:=(cp.kK M1.f.cg 0 M1).wB;rw[qd]at Qp;have h3b:=adB (ft (bw f)) (ir (bw f)) (vo (bw f) (ft (bw f))) (bw f).bo 0 ((jP (bw f)).length:Int) (M1.kK 0 M1.f.cg);refine⟨(M1.kK 0 M1.f.cg,ft (bw f),ir (bw f),vo (bw f) (ft (bw f))),⟨rfl,rfl,?_,?_⟩,?_⟩
   .simp only[Is];rw[qd];have:=Qp.2;omega
   .simp only[Is];exact hgs
   obtain⟨E,hE⟩:∃E,E=Em.bo (ft (bw f)) (ir (bw f)) (vo (bw f) (ft (bw f))) 0 ((jP (bw f)).length:Int) (M1.kK 0 M1.f.cg) (M1.kK 0 M1.f.cg).f.bo:=⟨_,rfl⟩;have hM:Em.bo (ft (bw f)) (ir (bw f)) (vo (bw f) (ft (bw f))) 0 ((jP (bw f)).length:Int) (M1.kK 0 M1.f.cg) (M1.kK 0 M1.f.cg).f.bo=nQ (bw f):=by rw[nQ,MA]
   have Iv:=hE.trans hM;have hG:(nQ (bw f)).bq.length<240000/\iw (nQ (bw f)).bq<(ir (bw f)).length:=by rw[<-hM,Is];rw[qd]at h3b⊢;exact⟨by omega,by omega⟩
   refine ja (λh=>?_) (λh=>ja (λh'=>?_) (λh'=>ja (λh6=>?_) (λh6=>?_)))
   .have h:(nQ (bw f)).kj=true:=by rw[<-hM];exact h
    exact A_ 2 (by rw[oo,aP (.inl h)]) (by decide)
   .have h':=cP h';have h':a_ E.bq.length>131072:=by rw[hE];exact h'
    have h':(nQ (bw f)).bq.length>131072:=by rw[Iv]at h';simp only[jr]at h';omega
    exact A_ 2 (by rw[oo,aP (.inr (.inl h'))]) (by decide)
   .have h6:=cP h6;have h6:(jP (bw f)).length>4096:=by simp only[jr]at h6;have h6:=h6;omega
    exact A_ 2 (by rw[oo,aP (.inr (.inr h6))]) (by decide)
   .have h:E.kj=false:=by rw[hE];exact h
    have h:¬(nQ (bw f)).kj=true:=by rw[Iv]at h;rw[h];simp
    have h':=c9 h';have h':¬a_ E.bq.length>131072:=by rw[hE];exact h'
    have h':¬(nQ (bw f)).bq.length>131072:=by rw[Iv]at h';simp only[jr]at h';omega
    have h6:=c9 h6;have h6:¬(jP (bw f)).length>4096:=by simp only[jr]at h6;have h6:=h6;omega
    have Dk:oo (bw f)=ta (nQ (bw f)).bq (ir (bw f)):=by
     rw[oo,aw];rintro(hh|hh|hh)
     .exact h hh
     .exact h' hh
     .exact h6 hh
    refine⟨((nQ (bw f)).bq,ir (bw f)),⟨by rw[<-hM];rfl,by rw[<-hM];rfl,hG.1,hG.2,by simp only;rw[rp];omega⟩,ja (λh0=>?_) (λh0=>?_)⟩
    .have h0:(oo (bw f)).2≠0:=by rw[Dk];simpa using h0
     have:=A_ _ rfl h0;rw[Dk]at this;exact this
    .have h0:(oo (bw f)).2=0:=by rw[Dk];simpa using h0
     have e:=okc h0;rw[Dk]at e;cases hT:f.cg with
     |nil=>
      refine ja (λhz=>?_) (λhz=>?_)
      .have hz:=cP hz;have hz:a_ f.cg.length>0:=hz;rw[hT]at hz;simp at hz
      .rw[e,xC,xB,aP rfl,aP rfl,hT];exact aA
     |cons t T=>
      obtain⟨k,n,s,ls⟩:=t;refine ja (λhz=>?_) (λhz=>?_)
      .refine⟨by show 0<f.cg.length;rw[hT];simp,k,n,s,az ls,ls.length,?_,(k,n,s,az ls,ls.length),aA,?_⟩
       .show((az f.cg).drop 0).take 4=_;rw[hT];rfl
       .rw[e,xC,xB,aP rfl,aP rfl,hT];exact aA
      .have hz:=c9 hz;have hz:¬a_ f.cg.length>0:=hz;rw[hT]at hz;simp at hz
  .have MA:Fa (bw f)=oQ (bw f):=by have he:=he;rw[Fa,he];rfl
   have qd:(oQ (bw f)).f=bw f:=rfl;have M1L:(oQ (bw f)).bq.length<=1:=by simp[oQ]
   have M1C:iw (oQ (bw f)).bq=0:=by simp[oQ,iw]
   rw[e0];generalize hM1:oQ (bw f)=M1 at MA qd M1L M1C;refine⟨(M1,()),⟨rfl,rfl,?_,?_,?_,?_⟩,?_⟩
   .simp only[qd];show M1.bq.length+2*bz (bw f).cg+1<4194304;omega
   .simp only[qd];exact aN.2.1
   .simp only[qd];exact aN.2.2.1
   .simp only[qd];exact Mt.1
   have Is:(M1.kK 0 M1.f.cg).f=bw f:=by rw[(cp.kK M1.f.cg 0 M1).f];exact qd
   have Qp:=(cp.kK M1.f.cg 0 M1).wB;rw[qd]at Qp;have h3b:=adB (ft (bw f)) (ir (bw f)) (vo (bw f) (ft (bw f))) (bw f).bo 0 ((jP (bw f)).length:Int) (M1.kK 0 M1.f.cg);refine⟨(M1.kK 0 M1.f.cg,ft (bw f),ir (bw f),vo (bw f) (ft (bw f))),⟨rfl,rfl,?_,?_⟩,?_⟩
   .simp only[Is];rw[qd];have:=Qp.2;omega
   .simp only[Is];exact hgs
   obtain⟨E,hE⟩:∃E,E=Em.bo (ft (bw f)) (ir (bw f)) (vo (bw f) (ft (bw f))) 0 ((jP (bw f)).length:Int) (M1.kK 0 M1.f.cg) (M1.kK 0 M1.f.cg).f.bo:=⟨_,rfl⟩;have hM:Em.bo (ft (bw f)) (ir (bw f)) (vo (bw f) (ft (bw f))) 0 ((jP (bw f)).length:Int) (M1.kK 0 M1.f.cg) (M1.kK 0 M1.f.cg).f.bo=nQ (bw f):=by rw[nQ,MA]
   have Iv:=hE.trans hM;have hG:(nQ (bw f)).bq.length<240000/\iw (nQ (bw f)).bq<(ir (bw f)).length:=by rw[<-hM,Is];rw[qd]at h3b⊢;exact⟨by omega,by omega⟩
   refine ja (λh=>?_) (λh=>ja (λh'=>?_) (λh'=>ja (λh6=>?_) (λh6=>?_)))
   .have h:(nQ (bw f)).kj=true:=by rw[<-hM];exact h
    exact A_ 2 (by rw[oo,aP (.inl h)]) (by decide)
   .have h':=cP h';have h':a_ E.bq.length>131072:=by rw[hE];exact h'
    have h':(nQ (bw f)).bq.length>131072:=by rw[Iv]at h';simp at h';omega
    exact A_ 2 (by rw[oo,aP (.inr (.inl h'))]) (by decide)
   .have h6:=cP h6;have h6:(jP (bw f)).length>4096:=by simp at h6;have h6:=h6;omega
    exact A_ 2 (by rw[oo,aP (.inr (.inr h6))]) (by decide)
   .have h:E.kj=false:=by rw[hE];exact h
    have h:¬(nQ (bw f)).kj=true:=by rw[Iv]at h;rw[h];simp
    have h':=c9 h';have h':¬a_ E.bq.length>131072:=by rw[hE];exact h'
    have h':¬(nQ (bw f)).bq.length>131072:=by rw[Iv]at h';simp at h';omega
    have h6:=c9 h6;have h6:¬(jP (bw f)).length>4096:=by simp only[jr]at h6;have h6:=h6;omega
    have Dk:oo (bw f)=ta (nQ (bw f)).bq (ir (bw f)):=by
     rw[oo,aw];rintro(hh|hh|hh)
     .exact h hh
     .exact h' hh
     .exact h6 hh
    refine⟨((nQ (bw f)).bq,ir (bw f)),⟨by rw[<-hM];rfl,by rw[<-hM];rfl,hG.1,hG.2,by simp only;rw[rp];omega⟩,ja (λh0=>?_) (λh0=>?_)⟩
    .have h0:(oo (bw f)).2≠0:=by rw[Dk];simpa using h0
     have:=A_ _ rfl h0;rw[Dk]at this;exact this
    .have h0:(oo (bw f)).2=0:=by rw[Dk];simpa using h0
     have e:=okc h0;rw[Dk]at e;cases hT:f.cg with
     |nil=>
      refine ja (λhz=>?_) (λhz=>?_)
      .have hz:=cP hz;have hz:a_ f.cg.length>0:=hz;rw[hT]at hz;simp at hz
      .rw[e,xC,xB,aP rfl,aP rfl,hT];exact aA
     |cons t T=>
      have⟨k,n,s,ls⟩:=t;refine ja (λhz=>?_) (λhz=>?_)
      .refine⟨by show 0<f.cg.length;rw[hT];simp,k,n,s,az ls,ls.length,?_,(k,n,s,az ls,ls.length),aA,?_⟩
       .show((az f.cg).drop 0).take 4=_;rw[hT];rfl
       .rw[e,xC,xB,aP rfl,aP rfl,hT];exact aA
      .have hz:=c9 hz;have hz:¬a_ f.cg.length>0:=hz;rw[hT]at hz;simp at hz
theorem ast(cs):
 (List.brecOn.go (motive:=λ_=>Nat->Option AV) cs List.get?Internal._f).1 (0*1)=fi Z 3 cs 0:=by kernel_rfl
theorem A6:∀a b,bX (a++b)=bX a++bX b
 |[],b=>rfl
 |x::a,b=>by simp[bX,A6 a b]
theorem tj:∀a,(bX a).length=a.length*6
 |[]=>rfl
 |x::a=>by simp[bX,P0,tj a];omega
def l7(g:bN)(c:AV):List (Nat×aO):=[(0,eN g),(1,PF),(2,.ah [.ad 6 (ft g).cS.length 1,.ad 5 (ft g).bH.length 1,.ad 7 (ft g).aQ.length 1] 153),(3,bG (ir g) 3),
 (4,.ah [c,.ao g.bh.eQ,J g.bh.ar,J g.bh.an,.aq (az g.cg) g.cg.length 4,.aq (bX g.bo) g.bo.length 6,.aS 8,.aS 9,.aS 10,.aS 11,J ((ir g).getD 0 0),.ai false] 162),
 (5,bG (ft g).bH 2),(6,bG (ft g).cS 3),(7,bG (ft g).aQ 3),(8,.bI (bJ J 0 (AZ g)) (AZ g).length true),(9,.bI [] 0 true),(10,.bI [] 0 true),(11,.bI [] 0 true)]
def t7(id:Int)(g:bN)(i:Int):Tr AV:=SQ id (ir g).length (ft g).bH.length i
def ps7:List (Nat×Nat):=[(0,0),(1,1),(2,2),(3,3),(4,4),(5,5),(6,6),(7,7),(12,8),(8,9),(9,10),(10,11),(11,12)]
theorem aOb(g):
 nD 0 [0,1,2,3,4,5] (aE (l7 g (.ad 12 0 6)++[(12,.au [] 56)]) (12+1))=some ⟨ps7,h7b g (ft g) (ir g) ⟨[],g,AZ g,[],[],[],(ir g).getD 0 0,false⟩⟩:=by kernel_rfl
theorem aOh(id g i):
 sT (iX ps7) (t7 id g i) [1,2,4,8,9,10,68,69,70]=some (t7 id g i):=by kernel_rfl
theorem aIS(hv:kO f=true)(dw:¬(id<1\/id>1099511627776))(hf:km f)(Xm:bz f.cg+fv f.bo<72000)(MF:f.bo.length<=10000):
 ba Z 52 152 0 (xC (ic f id)) (xB (ic f id)) (t7 id (bw f) 0) (aE (l7 (bw f) .aM) 12) (aB Z 52 1):=by
 have:=aIQ hv dw hf Xm MF ([],jP (bw f),[]) aA;refine qk (H':=aE (l7 (bw f) (.ad 12 0 6)++[(12,.au [] 56)]) (12+1)) ?_ (tM (g:=4) (l:=l7 (bw f) .aM) (eA:=[.ad 12 0 6,.ao (bw f).bh.eQ,J (bw f).bh.ar,J (bw f).bh.an,.aq (az (bw f).cg) (bw f).cg.length 4,.aq (bX (bw f).bo) (bw f).bo.length 6,.aS 8,.aS 9,.aS 10,.aS 11,J ((ir (bw f)).getD 0 0),.ai false]) rfl (λi=>by simp only[l7,cH];by_cases h:i=4<;>simp[h]) rfl (λI x hx=>by obtain⟨v,l,rfl,h1,h2⟩:=hx;exact⟨v,l,rfl,r9 h1,h2⟩) aA);exact bW.uU (by kernel_rfl) (aOb (bw f)) (aOh id (bw f) 0) this
theorem aIO(hv:kO f=true)(dw:¬(id<1\/id>1099511627776))(hf:km f)(Xm:bz f.cg+fv f.bo<72000)(MF:f.bo.length<=10000):
 ∀k:gy×gy,(k.1++k.2=f.bo/\lY f.bo=k.1++lY k.2)->
 ba Z 52 152 0 (xC (ic f id)) (xB (ic f id)) (ZM id f.bo f.bo.length (k.1.length:Int)) (h7a f) (aB Z 52 0):=by
 have iG:=aIS hv dw hf Xm MF;have aN:=al7 hf;have hvc:=al8 hv;have Xn:bz (bw f).cg+fv (bw f).bo<400000:=by have:=acM f.bo;show bz f.cg+fv (lY f.bo)<400000;omega
 have zN:(bw f).bo.length<1200000:=by have:=Vs f.bo;show(lY f.bo).length<1200000;omega
 have rp:0<(ir (bw f)).length:=by rw[ir,U9];omega
 have Mf:=o7 rp;rw[qel]at Mf;have bB:=hf.2.2.2.1;refine dj (λk=>k.2.length) _ _ _ _ ?_;rintro⟨A,B⟩ ⟨h1,h2⟩ ih;simp only at h1 h2 ih⊢;have zC:A.length+B.length=f.bo.length:=by rw[<-h1];simp
 refine hE UF aIN ?_;refine ja (λh=>?_) (λh=>?_)
 .have h:=cP h;cases B with
  |nil=>simp at zC;simp at h;omega
  |cons g B=>
   have ae:A.length<f.bo.length:=by simp at zC;omega
   have⟨k,nm,ar,an,ls,v,he,bP,aP2⟩:=Fz ae hf.2.2.2.2;have hg:f.bo[A.length]=g:=by simp[<-h1]
   rw[hg]at he;have hw:=lB bB ae;refine⟨A.length,rfl,ae,k,nm,ar,an,_,_,v,bP,ja (λhk=>?_) (λhk=>?_)⟩
   .have hk:g.gq=5:=by rw[he];simpa using hk
    have hc:lY f.bo=A++[g]:=by rw[h2];simp[lY,hk]
    have ex:f.bo=(A++[g])++B:=by rw[<-h1];simp
    have e1:((bX f.bo).drop 0).take ((A.length+1-0)*6)=bX (bw f).bo:=by show _=bX (lY f.bo);rw[hc,xw,ex,A6];exact xA (by rw[tj];simp)
    have e2:A.length+1-0=(bw f).bo.length:=by show _=(lY f.bo).length;rw[hc];simp
    refine⟨A.length+1,hw,⟨eh _,by omega⟩,?_⟩;rw[e1,e2];refine⟨bw f,⟨rfl,rfl,aN,hvc,Xn⟩,bw f,⟨rfl,rfl,aN,zN⟩,rp,(ir (bw f)).getD 0 0,Mf,bw f,⟨rfl,rfl,aN⟩,(ast _).trans Mf,rfl,?_⟩;exact iG
   .have hk:g.gq≠5:=by rw[he];simpa using hk
    rw[hw];have:=ih (A++[g],B) ⟨by rw[<-h1];simp,by rw[h2];simp[lY,hk]⟩ (by simp);simp at this;exact this
 .have h:=c9 h;cases B with
  |cons g B=>simp at zC;simp at h;omega
  |nil=>
   have hc:bw f=f:=by
    have:lY f.bo=f.bo:=by rw[h2];simpa[lY]using h1
    have⟨p,a,g⟩:=f;simp only[bw]at this⊢;rw[this]
   rw[hc]at aN hvc Xn zN rp Mf iG;refine⟨f,⟨rfl,rfl,aN,hvc,Xn⟩,f,⟨rfl,rfl,aN,zN⟩,rp,(ir f).getD 0 0,Mf,f,⟨rfl,rfl,aN⟩,(ast _).trans Mf,rfl,?_⟩;exact iG
end
theorem axj{I a b c d e f g h n x y}(hx:VR I (.aL [.aj [a,b,c,d,e,f,g,h,.aM],y]) x):VR I (.aL [.aj [a,b,c,d,e,f,g,h,.ad n 0 6],y]) x:=by obtain⟨cs,rfl,v1,l1,gA,⟨mS,rfl,w1,m1,aCf,q1,w2,m2,rfl,q2,w3,m3,rfl,q3,w4,m4,rfl,q4,w5,m5,rfl,q5,w6,m6,rfl,q6,w7,m7,rfl,q7,w8,m8,rfl,q8,w9,m9,rfl,q9,q10⟩,rest⟩:=hx;exact⟨cs,rfl,_,l1,gA,⟨mS,rfl,w1,_,aCf,q1,w2,_,rfl,q2,w3,_,rfl,q3,w4,_,rfl,q4,w5,_,rfl,q5,w6,_,rfl,q6,w7,_,rfl,q7,w8,_,rfl,q8,w9,_,rfl,r9 q9,q10⟩,rest⟩
theorem aFL{fn args r}(hr:r.2≠0->r.1=GZ)(h:bC Z fn args ay (xC r) (xB r)):bC Z fn args ay (.aL [.aj (A3 r.1 (.ad 0 r.1.wm.length 6)),J r.2]) (hB r.1):=by
 by_cases h0:r.2=0
 .rw[xC,xB,aP h0,aP h0]at h;exact h
 .rw[xC,xB,aw h0,aw h0]at h;rw[hr h0];exact Fe h (Jd (.au [] 56) rfl) (ct _) (λI aK hR x hx=>by subst hR;exact axj hx)
theorem abB:aF Z R29:=by
 refine bY UF ?_;rintro⟨f,id⟩ args H ⟨rfl,rfl,hf,hs⟩;simp;have hz:(ic f id).2≠0->(ic f id).1=GZ:=by
  unfold ic;split
  .intro _;rfl
  .split
   .intro _;rfl
   .intro h;exact absurd rfl h
 refine aFL hz ?_;refine eE 152 UF aIR ?_;have bad:kO f=false\/id<1\/id>1099511627776->fD (xC (ic f id)) (xB (ic f id)) (.aL [.aj (A3 GZ .aM),J 1]) ay:=by intro h;rw[ic,aP h];exact aA
 have hd:=Vx kO f;refine⟨⟨rfl,⟨f,rfl,hf⟩⟩,ja (λh=>?_) (λh=>ja (λh2=>?_) (λh2=>ja (λh3=>?_) (λh3=>?_)))⟩
 .have h:=h;rw[hd]at h;exact bad (.inl (by simpa using h))
 .exact bad (.inr (.inl (cP h2)))
 .exact bad (.inr (.inr (cP h3)))
 .have h:=h;rw[hd]at h;have hv:kO f=true:=by simpa using h
  have h2:=c9 h2;have h3:=c9 h3;have⟨s1,s2⟩:=hs hv;exact aIO hv (by omega) hf s1 s2 ([],f.bo) aA
end
end Go.Cl
namespace Go.Ev
def Wk(a b:AV):Prop:=∀I x,VR I a x->VR I b x
def jn(a b:LV):Prop:=∀I l,bf I a l->bf I b l
theorem Wk.refl(a):Wk a a:=λ_ _ h=>h
theorem jn.mn(a):jn a a:=λ_ _ h=>h
theorem jn.wu{a b m l}(h:Wk a b)(t:jn m l):jn (a::m) (b::l):=by rintro I l ⟨x,l',rfl,h1,h2⟩;exact⟨x,l',rfl,h _ _ h1,t _ _ h2⟩
theorem akl{I c}:∀{a l},bf I (a++c) l->∃l1 l2,l=l1++l2/\bf I a l1/\bf I c l2
 |[],l,h=>⟨[],l,rfl,rfl,h⟩
 |x::a,l,h=>by obtain⟨v,l',rfl,h1,h2⟩:=h;obtain⟨l1,l2,rfl,h3,h4⟩:=akl h2;exact⟨v::l1,l2,rfl,⟨v,l1,rfl,h1,h3⟩,h4⟩
theorem jn.s_{a b c d}(h:jn a b)(t:jn c d):jn (a++c) (b++d):=by intro I l hl;obtain⟨l1,l2,rfl,h1,h2⟩:=akl hl;exact(h _ _ h1).xS (t _ _ h2)
theorem Wk.agg{a b}(h:jn a b):Wk (.aj a) (.aj b):=by rintro I x hx;obtain⟨cs,rfl,h1⟩:=hx;exact⟨cs,rfl,h _ _ h1⟩
theorem Wk.B0{a b}(h:jn a b):Wk (.aL a) (.aL b):=by rintro I x hx;obtain⟨cs,rfl,h1⟩:=hx;exact⟨cs,rfl,h _ _ h1⟩
theorem Wk.tQ(sz):Wk .aM (.aq [] 0 sz):=by intro I x hx;simp only[VR]at hx⊢;subst hx;exact⟨none,0,rfl,by simp,.inl trivial⟩
theorem jn.tQ(sz){m l}(t:jn m l):jn (.aM::m) (.aq [] 0 sz::l):=jn.wu (Wk.tQ sz) t
theorem jn.fJ{a m l}(t:jn m l):jn (a::m) (a::l):=jn.wu (Wk.refl a) t
theorem aOt(m H):mr m H H (λI aK=>aK=I):=⟨ct _,λI bs w _ hw=>⟨I,hw,⟨jG.CA _ _,.of rfl rfl⟩,rfl⟩⟩
theorem sj{P f args H0 H v v1}(h:bC P f args H0 v H)(hw:Wk v v1)(cr:H0.br<=H.br)(rz:jX v=.gJ v:=by rfl):bC P f args H0 v1 H:=
 Fe h (aOt _ _) cr (λI aK hR x hx=>by subst hR;exact hw _ _ hx) rz
theorem Fj{P S f W e one ok}(h:aF P (bx f (bE e one ok) S)){w:W}{args H}(hp:e.aI w args H)(aN:ok args H=true)(cx:f≠999999:=by first|assumption|decide):
 bC P f args H (e.v w) (e.aD w):=by
 have hx:∃w,e.aI w args H:=⟨w,hp⟩;have h1:=h.1 f args H (e.aI hx.choose args H) (e.v hx.choose) (e.aD hx.choose) cx (by simp only[oP,bx,j4,cond_true,bE,aN,sh];rw[dif_pos hx]) hx.choose_spec;have h2:=one hx.choose w args H hx.choose_spec hp;simp at h2;rw[h2.1,h2.2]at h1;exact h1
theorem aEu{m0 g n xx l l' vs eA el}(hg:cH l g=some (.ah vs el))(hl:∀id,cH l' id=if id=g then some (.ah eA el)else cH l id)(hr:jn vs eA)(bB:eA.length=vs.length/\eA.all AV.dH=vs.all AV.dH):
 mr m0 (et xx l n) (et xx l' n) (λI aK=>aK=I):=by
 refine⟨ct n,λI bs w cr hw=>⟨I,⟨?_,?_,hw.lt,?_,hw.uP rfl rfl rfl (λ_ _=>rfl) λid ob e h1 l1 h2=>.inl ?_⟩,⟨jG.CA _ _,.of rfl rfl⟩,rfl⟩⟩
 .intro id ob e k1 k2;rw[eg,hl]at k1;by_cases dw:id=g
  .rw[aP dw]at k1;cases k1;obtain⟨o,q1,q2⟩:=hw.ey id _ e (by rw[eg,dw];exact hg) k2;refine⟨o,q1,?_⟩;obtain⟨cs,hJ,rfl,a1,a2,a3,a4⟩:=q2;exact⟨cs,hJ,rfl,a1,by rw[bB.1];exact a2,by rw[bB.1];exact hr _ _ a3,by rw[bB.2];exact a4⟩
  .rw[aw dw]at k1;exact hw.ey id ob e (by rw[eg];exact k1) k2
 .have nA:∀{id ob},(et xx l' n).aR id=some ob->ob.aQ=true->∃dW,(et xx l n).aR id=some dW/\dW.aQ=true:=by
   intro id ob k1 k2;rw[eg,hl]at k1;by_cases dw:id=g
   .exact⟨_,by rw[eg,dw];exact hg,rfl⟩
   .rw[aw dw]at k1;exact⟨ob,by rw[eg];exact k1,k2⟩
  intro id ij ob bu e e' k1 l1 k2 k3 l2 k4 hb;have⟨o1,q1,q2⟩:=nA k1 l1;have⟨o2,q3,q4⟩:=nA k3 l2;exact hw.jx id ij o1 o2 e e' q1 q2 k2 q3 q4 k4 hb
 .intro id ob k1;rw[eg,hl]at k1;by_cases dw:id=g
  .rw[dw];exact hw.nx g (.ah vs el) (by rw[eg];exact hg)
  .rw[aw dw]at k1;exact hw.nx id ob (by rw[eg];exact k1)
 .rw[eg,hl]at h1;by_cases dw:id=g
  .exact⟨id,_,e,by rw[eg,dw];exact hg,rfl,h2,rfl⟩
  .rw[aw dw]at h1;exact⟨id,ob,e,by rw[eg];exact h1,l1,h2,rfl⟩
theorem C_{P f args H0 v xx g n l vs el}(h:bC P f args H0 v (et xx l n))(hg:cH l g=some (.ah vs el))(hp:vs.all f_=true)(cr:H0.br<=n)(rz:jX v=.gJ v:=by rfl)(tz:cH (Cc g (.au vs el) l) g=some (.au vs el):=by rfl):
 bC P f args H0 (fO g vs v) (et xx (vr g vs (Cc g (.au vs el) l)) n):=
 si (Fe h (RI hg (λI e o h=>r7 hp h) rfl) cr (λI aK hR x hx=>by subst hR;exact hx) rz) tz cr rz
def agm(r:Nat->Option Nat):List (Nat×AV)->Option (List (Nat×AV))
 |[]=>some []
 |(s,a)::l=>match eF r a,agm r l with
  |some a',some l'=>some ((s,a')::l')
  |_,_=>none
theorem afq{r}:∀{l l'},agm r l=some l'->∀i a',(aJ l').bL i=some a'->∃a,(aJ l).bL i=some a/\eF r a=some a'
 |[],l',h,i,a',hg=>by cases h;rw[oA]at hg;cases hg
 |(s,a)::l,l',h,i,a',hg=>by
  simp only[agm]at h;split at h;next b l2 h1 h2=>
   cases h;rw[oA,BB]at hg;rw[oA,BB];by_cases hs:i=s
   .rw[aP hs]at hg⊢;cases hg;exact⟨a,rfl,h1⟩
   .rw[aw hs]at hg⊢;rw[<-oA]at hg⊢;exact afq h2 i a' hg
  .cases h
end Go.Ev
namespace Go.Cl
end Go.Cl
namespace Go.Cl
open Go.Ev Go.Proofs
noncomputable section
def XG(N:Nat)(cells:LV):Prop:=∃t,bn t=cells/\bA t/\ik t=true/\bp t<N
def aeB(cells:LV):Prop:=∃t,bn t=cells/\bA t/\ik t=true
theorem A7:∀a b:dF,az (a++b)=az a++az b
 |[],b=>rfl
 |t::a,b=>by simp[az,A7 a b]
theorem M0:∀{l i} (h:i<l.length),pS l=true->ik l[i]=true
 |[],i,h,_=>by simp at h
 |t::l,0,h,ho=>by simp only[pS,cT]at ho;exact ho.1
 |t::l,i+1,h,ho=>by simp only[pS,cT]at ho;exact M0 (l:=l) (by simpa using h) ho.2
def kB:ax:=.mk 0 0 [] []
def cZ(t:ax):ax:=if eP t then t else kB
def eU(t:ax):LV:=[J t.bV,J t.n,.ao t.cq,.aq (az t.aU) t.aU.length 4]
theorem py(t):eU t=bn t:=by cases t;rfl
def aps:LV->Option (Prop×AV)
 |[.aj [.bD .i64 k,.bD .i64 n,.ao s,.aq cs len 4]]=>some (True,.aj [J k,J n,.ao s,.aq cs len 4])
 |_=>none
def UU(N:Nat):LV->Option (Prop×AV)
 |[.aj [.bD .i64 k,.bD .i64 n,.ao s,.aq cs len 4],.cw (.func 78) [] []]=>some (XG N [J k,J n,.ao s,.aq cs len 4],.aj [J k,J n,.ao s,.aq cs len 4])
 |_=>none
def akN:LV->Option (Prop×AV)
 |[.aj [.bD .i64 k,.bD .i64 n,.ao s,.aq cs len 4],.cw (.func 78) [] []]=>some (aeB [J k,J n,.ao s,.aq cs len 4],.aj [J k,J n,.ao s,.aq cs len 4])
 |_=>none
def PN:bT ax where
 aI t A H:=A=[.aj (bn t)]/\H=ay/\bA t
 v t:=.aj (eU (cZ t))
 aD t:=ay
theorem alz:PN.bM:=by rintro t t' A H ⟨h1,_⟩ ⟨h2,_⟩;rw[h1]at h2;simp at h2;rw[kT h2]
def K1:Ev.aX:=eD 78 (fj aps) R29
def Um(N:Nat):Ev.aX:=eD 67 (fj (UU N)) K1
def K2:Ev.aX:=eD 67 (fj akN) K1
def K3:Ev.aX:=bx 50 (bE PN alz bU) K2
def dx(k n:Int)(s:LN)(cs:LV)(len:Nat):aO:=.ah [J k,J n,.ao s,.aq cs len 4] 49
def p6:aO:=.ah [J 0,J 0,.ao [],.aM] 49
def lR(k n:Int)(s:LN)(a:AV):aO:=.ah [J k,J n,.ao s,a] 49
def Yf:Nat->LN:=dY [(5,[1,4,5,22,23,24])]
def h67(k n:Int)(s:LN)(ds:LV)(m:Nat):AH:=aE [(0,p6),(1,lR k n s (.ad 2 m 4)),(2,.au ds 49)] 3
theorem aMn{k n s cs len L Q}:
 fL R29 L Q 78 [cN k n s cs len]=Q (cN k n s cs len) ay:=by kernel_rfl
abbrev aaM h0 h1 h2 h3 h4 h5 h6 h7 h8 h9 dG eB iV:=([(h0,h1),(h2,.aa h3 0),(h4,.aa h5 0),(h6,.aq h7 h8 4),(h9,J dG),(eB,iV)]:List (Nat×AV))
abbrev pq h0:=fg (ByteArray.mk (List.toArray h0))
abbrev NW h0 h1 h2 h3 h4 h5 h6:=aaM 1 (nH h0 h1) 4 h2 5 h3 22 h4 h5 23 (a_ h5) 24 h6
abbrev Oe:=lR 0 0 (pq []) .aM
theorem aua{k n s cs len N L Q}:
 fA (Um N) Yf L Q 67 [cN k n s cs len,nH 78 []] ay=gT (k==0) (dc True/\Q (cN k n s cs len) ay) L (aJ (NW 78 [] 0 1 cs len (J 0))) (j_ Oe (lR k n s .aM)) 67 0:=by kernel_rfl
abbrev xH(h0:LV) h1 h2(h3:LT) h4 h5 h6 h7:=pn h0.length h1 h2 (h3 (aJ h4) h5 (aB Z h6 h7))
theorem aMa{k n s cs len i ds m N L Q}:
 ju (Um N) Yf L Q 67 0 (NW 78 [] 0 1 cs len (J i)) (h67 k n s ds m)=wi i len cs (λbm=>λbS=>λcX=>λcA=>λb_=>dc (XG N (fS bm bS cX cA b_))/\im (.ad 2 m 4)/\xH ds m 4 L (NW 78 [] 0 1 cs len (cu i)) (h67 k n s (ds++fS bm bS cX cA b_) (m+1)) 67 0) (Q (wc k n s (.ad 0 m 4)) (oK ds 49)):=by kernel_rfl
abbrev uW h0 h1 h2 h3 h4(h5:QT) h6 h7:=Cs h0 h1 h2 h3 h4/\aZ (!iy eP (fS h0 h1 h2 h3 h4)) (h5 h6 ay) h7
abbrev Oz h0 h1 h2 h3 h4(h5:QT) h6:=uW h0 h1 h2 h3 h4 h5 (wc 0 0 h6 .aM) (dc (aeB (fS h0 h1 h2 h3 h4))/\h5 (cN h0 h1 h2 h3 h4) ay)
theorem at6{k n s cs len L Q}:
 fL K2 L Q 50 [cN k n s cs len]=Oz k n s cs len Q (pq []):=by kernel_rfl
theorem ajz:aF Z K1:=by
 refine jl abB λargs q v h hq=>?_
 unfold aps at h;split at h<;>cases h;refine eE 4 abB aMn ?_;exact aA
theorem aL9{k n s l N}(hS:aF Z (Um N))(hv:pS l=true)(h8:l.length<=8)(ho:fe l)(hN:bz l<N):
 ∀i:Nat,i<=l.length->ba Z 67 38 0 (.aj [J k,J n,.ao s,.ad 0 l.length 4]) (aE [(0,.au (az l) 49)] 1)
  (aJ [(1,.cw (.func 78) [] []),(4,.aa 0 0),(5,.aa 1 0),(22,.aq (az l) l.length 4),(23,J (a_ l.length)),(24,J (i:Int))]) (h67 k n s (az (l.take i)) i) (aB Z 67 0):=by
 refine dj (λi=>l.length-i) _ _ _ _ ?_;rintro i hi ih;refine hE hS aMa ?_;delta cu;refine al (λae=>?_) λaY=>?_
 .have ae:i<l.length:=by simpa using ae
  obtain⟨k1,n1,s1,l1,-,hg,bP,aN,ca⟩:=ua ae ho hN (P:=λ_=>True) trivial;have tB:=M0 ae hv;rw[hg]at tB;have bB:(az (l.take i)).length=i*4:=by rw[qh,rH];omega
  refine⟨i,rfl,ae,k1,n1,s1,az l1,l1.length,bP,⟨rfl,_,rfl,aN,tB,ca⟩,rfl,⟨bB,by omega,rfl,rfl⟩,?_⟩;have e2:az (l.take (i+1))=az (l.take i)++[J k1,J n1,.ao s1,.aq (az l1) l1.length 4]:=by rw[qB,gg ae,A7,hg];simp[az,bn]
  rw[cb,<-e2];exact ih (i+1) (by omega) (by omega)
 .have aY:l.length<=i:=by simpa using aY
  have:i=l.length:=by omega
  subst this;rw[pX];exact aA
theorem aJw{k n s m0}:mr m0 (aE [(0,lR 0 0 (fg (ByteArray.mk (List.toArray []))) .aM),(1,lR k n s .aM)] 2) (aE ([(0,p6),(1,lR k n s (.ad 2 0 4))]++[(2,.au [] 49)]) (2+1)) (λI aK=>aK=I):=
 tM (g:=1) rfl (λid=>by rcases id with _|_|_|id<;>rfl) rfl (λI x hx=>xq hx) aA
theorem aL8{k n s l N}(hS:aF Z (Um N))(hv:ik (.mk k n s l)=true)(ho:bA (.mk k n s l))(hN:bz l<N):
 bC Z 67 [.aj (bn (.mk k n s l)),.cw (.func 78) [] []] ay (.aj (bn (.mk k n s l))) ay:=by
 by_cases hk:k=0
 .subst hk;refine eE 38 hS aua ?_;exact al (λ_=>⟨da,rfl,rfl⟩) λh=>(by cases h)
 have h1:bC Z 67 [.aj (bn (.mk k n s l)),.cw (.func 78) [] []] ay (.aj [J k,J n,.ao s,.ad 0 l.length 4]) (aE [(0,.au (az l) 49)] 1):=by
  refine eE 38 hS aua ?_;simp only[ik,cT]at hv;have h8:=RP hv.1;refine al (λh=>absurd (by simpa using h) hk) λ_=>?_
  refine qk ?_ aJw;exact aL9 hS hv.2 h8 ho.2.2 hN 0 (eh _)
 have h2:=si (g:=0) h1 rfl (eh _);have h3:fO 0 (az l) (.aj [J k,J n,.ao s,.ad 0 l.length 4])=.aj (bn (.mk k n s l)):=by have:(az l).length=l.length*4:=qh _;simp[fO,oU,this,bn]
 rw[h3]at h2;exact kJ h2 (by rfl) (by rfl)
theorem abj:aF Z K2:=by
 refine R_ ajz (sN:=UU) (Sa ajz ?_ ?_) ?_
 .intro args q v h;unfold UU at h;split at h<;>cases h;rintro⟨t,_,_,_,h⟩;omega
 .intro N hS args q v h hq;unfold UU at h;split at h<;>cases h;have⟨⟨k,n,s,l⟩,h1,aN,hv,ca⟩:=hq;obtain⟨rfl,rfl,rfl,rfl,rfl⟩:=h1;simp only[bp]at ca;exact aL8 hS hv aN (by omega)
 .intro args q v h hq;unfold akN at h;split at h<;>cases h;have⟨t,h1,aN,hv⟩:=hq;exact⟨bp t+1,_,rfl,t,h1,aN,hv,by omega⟩
theorem S2:jn [J 0,J 0,.ao [],.aM] (bn kB):=.fJ (.fJ (.fJ (.tQ 4 (.mn _))))
theorem JM{t}(h:eP t=true):ik t=true:=by unfold eP at h;simp at h;exact h.2
theorem Aq{t}(h:eP t=true):bp t<=2000:=by unfold eP at h;simp at h;exact h.1
theorem abn:aF Z K3:=by
 refine bY abj ?_;rintro⟨k,n,s,l⟩ args H ⟨rfl,rfl,ho⟩;simp only[PN,py];have hT:=kY ho;by_cases hv:eP (.mk k n s l)=true
 .rw[cZ,aP hv];refine eE 9 abj at6 ?_;delta Oz uW;rw[iD,hv];exact⟨⟨rfl,hT⟩,al (λh=>(by cases h)) λ_=>⟨⟨rfl,_,rfl,ho,JM hv⟩,rfl,rfl⟩⟩
 .rw[cZ,aw hv];refine sj ?_ (.agg S2) (ct _);refine eE 9 abj at6 ?_;delta Oz uW;rw[iD];have hv:eP (.mk k n s l)=false:=by simpa using hv
  rw[hv];exact⟨⟨rfl,hT⟩,al (λ_=>aA) λh=>by cases h⟩
def IX(l:LI)(n:Int):LI:=if n∈l then l else l++[n]
mutual
def nC:LI->ax->LI
 |l,.mk k n s ts=>if k=0 then IX l n else uT l ts
def uT:LI->dF->LI
 |l,[]=>l
 |l,t::ts=>uT (nC l t) ts
end
def mV(l:LI):List (Int×Int):=l.map λn=>(n,1)
def qu(l:LI):aO:=.bI (bJ J 0 (mV l)) (mV l).length true
def hV(l:LI):AH:=aE [(0,.ah [.aS 2] 110),(1,.ah [.ad 3 l.length 1] 35),(2,qu l),(3,bG l 2)] 4
def Md(l:LI):AH:=aE [(0,.ah [.aS 2] 110),(1,.ah [.ad 4 l.length 1] 35),(2,qu l),(3,.bg []),(4,bG l 2)] 5
def v1X:bT (LI×Int×Int×LN×LV×Nat)where
 aI w A H:=A=[.aj [J w.2.1,J w.2.2.1,.ao w.2.2.2.1,.aq w.2.2.2.2.1 w.2.2.2.2.2 4],.aa 0 0,.aa 1 0]/\H=hV w.1/\w.1.length<4000000
 v w:=.aj [J w.2.1,J w.2.2.1,.ao w.2.2.2.1,.aq w.2.2.2.2.1 w.2.2.2.2.2 4]
 aD w:=Md (IX w.1 w.2.2.1)
theorem aoB{l m}(h:hV l=hV m):l=m:=by have:=congrArg (λH=>AH.aR H 3) h;exact BQ (cW this)
theorem aNS:v1X.bM:=by rintro⟨l,k,n,s,cs,len⟩ ⟨l',k',n',s',cs',len'⟩ A H ⟨h1,h2,_⟩ ⟨h3,h4,_⟩;rw[h2]at h4;rw[h1]at h3;have:=aoB h4;subst this;simp at h3;obtain⟨rfl,rfl,rfl,rfl,rfl⟩:=h3;rfl
def K4:Ev.aX:=bx 68 (bE v1X aNS bU) K3
def ab5(N:Nat):bT (LI×ax)where
 aI w A H:=A=[.aj (bn w.2),.cw (.func 68) [] [.aa 0 0,.aa 1 0]]/\H=hV w.1/\bA w.2/\ik w.2=true/\bp w.2<N/\w.1.length+bp w.2<4000000
 v w:=.aj (eU w.2)
 aD w:=Md (nC w.1 w.2)
theorem akP(N):(ab5 N).bM:=by rintro⟨l,t⟩ ⟨l',t'⟩ A H ⟨h1,h2,_⟩ ⟨h3,h4,_⟩;rw[h2]at h4;rw[h1]at h3;have:=aoB h4;subst this;simp at h3;rw[kT h3]
def Pe(N:Nat):Ev.aX:=bx 67 (bE (ab5 N) (akP N) bU) K4
def adJ(l:LI)(k n:Int)(s:LN)(ds:LV)(m:Nat):AH:=aE [(0,.ah [.aS 2] 110),(1,.ah [.ad 6 l.length 1] 35),(2,qu l),(3,.bg []),(4,p6),(5,lR k n s (.ad 7 m 4)),(6,bG l 2),(7,.au ds 49)] 8
def h_(t:ax):LI:=if eP t then nC [] t else[]
def vaX:bT ax where
 aI t A H:=A=[.aj (bn t)]/\H=ay/\bA t
 v t:=.aq (bc (h_ t)) (h_ t).length 1
 aD t:=ay
theorem aNW:vaX.bM:=by rintro t t' A H ⟨h1,_⟩ ⟨h2,_⟩;rw[h1]at h2;simp at h2;rw[kT h2]
def K5:Ev.aX:=bx 67 (bE (ab5 3000) (akP 3000) bU) K4
def K6:Ev.aX:=bx 42 (bE vaX aNW bU) K5
def X8:Nat->LN:=dY [(999997,[2000067]),(999998,[3,9,10])]
def h42:AH:=aE [(0,.ah [.ad 3 0 1] 35),(1,.ah [.aS 2] 110),(2,.bI [] 0 true),(3,.au [] 2)] 4
def t42(cells:LV):List (Nat×AV):=[(3,.aa 0 0),(9,.aj cells),(10,.cw (.func 68) [] [.aa 1 0,.aa 0 0])]
theorem auc{l k n s cs len L Q}:
 eG K3 [] L Q 68 (xI (cN k n s cs len)) (hV l)=xL 2 (mV l) n (λbm=>λb=>aZ (bm==0) (rP 2 (bJ J 0 (mV l)) (mV l).length n (J 1) (λbF=>λc'=>OA l l (Q (cN k n s cs len) (N_ (k_ 2 110) (rQ 4 (l.length+1) 35) (eu bF c') (.bg []) (.au (bc l++[J n]) 2))))) (Q (cN k n s cs len) (hV l))):=by kernel_rfl
abbrev awd(h0:LI×Int×Int×LN×LV×Nat):=cN h0.2.1 h0.2.2.1 h0.2.2.2.1 h0.2.2.2.2.1 h0.2.2.2.2.2
theorem aub{l k n s cs len N L Q}:
 fA (Pe N) Yf L Q 67 [cN k n s cs len,nH 68 lS] (hV l)=gT (k==0) (∃w:LI×Int×Int×LN×LV×Nat,((xI (cN k n s cs len):LV)=xI (awd w)/\hV l=hV w.1/\w.1.length<4000000)/\Q (awd w) (Md (IX w.1 w.2.2.1))) L (aJ (NW 68 lS 4 5 cs len (J 0))) (JY (k_ 2 110) (.ah [ej 3 l] 35) (qu l) (bG l 2) Oe (lR k n s .aM)) 67 0:=by kernel_rfl
abbrev awm(h0:LI×ax) h1:=ik h0.2=true/\bp h0.2<h1/\h0.1.length+bp h0.2<4000000
theorem aMd{l k n s cs len i ds m N L Q}:
 ju (Pe N) Yf L Q 67 4 (NW 68 lS 4 5 cs len (J i)) (adJ l k n s ds m)=wi i len cs (λbm=>λbS=>λcX=>λcA=>λb_=>∃w:LI×ax,(Ct (cN bm bS cX cA b_) (nH 68 lS) (.aj (bn w.2))/\hV l=hV w.1/\bA w.2/\awm w N)/\im (.ad 7 m 4)/\xH ds m 4 L (NW 68 lS 4 5 cs len (cu i)) (adJ (nC w.1 w.2) k n s (ds++fS w.2.bV w.2.n w.2.cq (az w.2.aU) w.2.aU.length) (m+1)) 67 0) (Q (wc k n s (.ad 4 m 4)) (JY (k_ 2 110) (.ah [ej 5 l] 35) (qu l) (.bg []) (.au ds 49) (bG l 2))):=by kernel_rfl
theorem at1{k n s cs len L Q}:
 qE Z K5 X8 L Q 1000 42 [.aj [J k,J n,.ao s,.aq cs len 4]] ay=(
 (aE [] 0=ay/\uE [J k,J n,.ao s,.aq cs len 4])/\aZ (!iy eP [J k,J n,.ao s,.aq cs len 4]) (Q .aM ay) (L (aJ [(3,.aa 0 0),(9,.aj [J k,J n,.ao s,.aq cs len 4]),(10,.cw (.func 68) [] [.aa 1 0,.aa 0 0])]) (aE [(0,.ah [.aM] 35),(1,.ah [.aS 2] 110),(2,.bI [] 0 true)] 3) (dg Z X8 42 0))):=by kernel_rfl
abbrev AF h0 h1 h2 h3 h4 h5 h6 h7 h8:=pY Z h0 h1 h2 h3 1000 h4 h5 h6 (dg Z h7 h4 0) h8
abbrev AE h0 h1 h2 h3 h4 h5 h6 h7:=AF h0 (λ_=>[]) h1 h2 h3 h4 h5 h6 h7
theorem aLp{t:ax}{L Q}:
 AE K5 L Q 42 0 (aJ (t42 (fS t.bV t.n t.cq (az t.aU) t.aU.length))) X8 h42=(∃w:LI×ax,(Ct (cN t.bV t.n t.cq (az t.aU) t.aU.length) (nH 68 lS) (.aj (bn w.2))/\uX (k_ 2 110) (rQ 3 0 35) (eu [] 0) (.au [] 2)=hV w.1/\bA w.2/\awm w 3000)/\Q (.ad 0 (nC w.1 w.2).length 1) (iA (bG (nC w.1 w.2) 2))):=by kernel_rfl
theorem XX(n):∀l,lk n (mV l)=if n∈l then some 1 else none
 |[]=>rfl
 |x::l=>by
  have:=XX n l;simp only[mV,e9,lk]at this⊢;by_cases h:n=x
  .subst h;simp
  .have h2:¬x=n:=λe=>h e.symm
   simp only[h,dU,false_or,if_false]at this⊢;exact this
theorem ahi{n}:∀{l},n∉l->up n 1 (mV l)=mV (l++[n])
 |[],_=>rfl
 |x::l,h=>by simp at h;have:=ahi h.2;simp only[mV,e9,j3,up]at this⊢;simp only[h.1,if_false];rw[this]
theorem aB1(l):Mv (hV l) (Md l) 3:=rC (l':=[(0,.ah [.aS 2] 110),(1,.ah [.ad 4 l.length 1] 35),(2,qu l),(3,.bg [])]) (by rfl) (by rfl) (by rfl)
theorem aDh{l n}(h:n∉l):IX l n=l++[n]:=aw h
theorem aDi{l n}(h:n∈l):IX l n=l:=aP h
theorem awW:aF Z K4:=by
 refine bY abn ?_;rintro⟨l,k,n,s,cs,len⟩ args H ⟨rfl,rfl,hl⟩;simp only[v1X]at hl⊢;by_cases hn:n∈l
 .rw[aDi hn];refine Ia (v:=.aj [J k,J n,.ao s,.aq cs len 4]) ?_ (aB1 l) (by rfl) (by show(4:Nat)<=4;omega);refine eE 19 abn auc ?_;refine⟨1,true,by rw[nq J iF,XX,aP hn],al (λh=>(by cases h)) λ_=>aA⟩
 .rw[aDh hn];refine eE 19 abn auc ?_;refine⟨0,false,by rw[nq J iF,XX,aw hn,JR];rfl,al (λ_=>⟨_,_,by rw[ph J iF,ahi hn],⟨by simp[bc],by omega,rfl,rfl⟩,?_⟩) λh=>(by cases h)⟩;refine⟨rfl,?_⟩;simp only[Md,qu,bG,Np,cj,dJ,gH]
mutual
theorem ZZ:∀(l:LI) (t:ax),(nC l t).length<=l.length+bp t
 |l,.mk k n s ts=>by
  have:=auZ l ts;simp only[nC,bp,IX];split
  .split
   .omega
   .simp only[cj,dJ,gH];omega
  .omega
theorem auZ:∀(l:LI) (ts:dF),(uT l ts).length<=l.length+bz ts
 |l,[]=>by simp[uT,bz]
 |l,t::ts=>by have h1:=ZZ l t;have h2:=auZ (nC l t) ts;simp only[uT,bz];omega
end
theorem aMc{k n s ts N aC}(hS:aF Z (Pe N))(hv:pS ts=true)(h8:ts.length<=8)(ho:fe ts)(hN:bz ts<N):
 ∀p:Nat×LI,(p.1<=ts.length/\uT p.2 (ts.drop p.1)=aC/\p.2.length+bz (ts.drop p.1)<4000000)->
 ba Z 67 38 4 (.aj [J k,J n,.ao s,.ad 4 ts.length 4]) (aE [(0,.ah [.aS 2] 110),(1,.ah [.ad 5 aC.length 1] 35),(2,qu aC),(3,.bg []),(4,.au (az ts) 49),(5,bG aC 2)] 6)
  (aJ [(1,.cw (.func 68) [] [.aa 0 0,.aa 1 0]),(4,.aa 4 0),(5,.aa 5 0),(22,.aq (az ts) ts.length 4),(23,J (a_ ts.length)),(24,J (p.1:Int))]) (adJ p.2 k n s (az (ts.take p.1)) p.1) (aB Z 67 0):=by
 refine dj (λp=>ts.length-p.1) _ _ _ _ ?_;rintro⟨i,l⟩ ⟨hi,hf,hb⟩ ih;simp only at hi hf hb ih⊢;refine hE hS aMd ?_;delta cu;refine al (λae=>?_) λaY=>?_
 .have ae:i<ts.length:=by simpa using ae
  obtain⟨k1,n1,s1,l1,-,hg,bP,aN,ca⟩:=ua ae ho hN (P:=λ_=>True) trivial;have tB:=M0 ae hv;rw[hg]at tB;rw[fu ae,hg]at hf hb;rw[uT]at hf;rw[bz]at hb;have Xr:=ZZ l (.mk k1 n1 s1 l1);have bB:(az (ts.take i)).length=i*4:=by rw[qh,rH];omega
  refine⟨i,rfl,ae,k1,n1,s1,az l1,l1.length,bP,(l,.mk k1 n1 s1 l1),⟨rfl,rfl,aN,tB,ca,by simp only;omega⟩,rfl,⟨bB,by omega,rfl,rfl⟩,?_⟩;have e2:az (ts.take (i+1))=az (ts.take i)++[J k1,J n1,.ao s1,.aq (az l1) l1.length 4]:=by rw[qB,gg ae,A7,hg];simp[az,bn]
  rw[cb];have:=ih (i+1,nC l (.mk k1 n1 s1 l1)) ⟨by simp only;omega,hf,by simp only;omega⟩ (by simp only;omega);simp only[e2]at this;exact this
 .have aY:ts.length<=i:=by simpa using aY
  have:i=ts.length:=by omega
  subst this;rw[gf (ct _),uT]at hf;subst hf;rw[pX];exact aA
theorem aMb{l k n s ts N}(hS:aF Z (Pe N))(hv:ik (.mk k n s ts)=true)(ho:bA (.mk k n s ts))(hN:bz ts<N)(hb:l.length+bp (.mk k n s ts)<4000000):
 bC Z 67 [.aj (bn (.mk k n s ts)),.cw (.func 68) [] [.aa 0 0,.aa 1 0]] (hV l) (.aj (eU (.mk k n s ts))) (Md (nC l (.mk k n s ts))):=by
 by_cases hk:k=0
 .subst hk;refine eE 38 hS aub ?_;refine al (λ_=>⟨(l,0,n,s,az ts,ts.length),⟨rfl,rfl,by simp only[bp]at hb;simp only;omega⟩,rfl,?_⟩) λh=>(by cases h)
  rw[nC,aP rfl]
 have hvt:nC l (.mk k n s ts)=uT l ts:=by rw[nC,aw hk]
 have h1:bC Z 67 [.aj (bn (.mk k n s ts)),.cw (.func 68) [] [.aa 0 0,.aa 1 0]] (hV l) (.aj [J k,J n,.ao s,.ad 4 ts.length 4]) (aE [(0,.ah [.aS 2] 110),(1,.ah [.ad 5 (uT l ts).length 1] 35),(2,qu (uT l ts)),(3,.bg []),(4,.au (az ts) 49),(5,bG (uT l ts) 2)] 6):=by
  refine eE 38 hS aub ?_;simp only[ik,cT]at hv;have h8:=RP hv.1;simp only[bp]at hb;refine al (λh=>absurd (by simpa using h) hk) λ_=>?_
  refine wS (g:=3) ?_ (rC rfl rfl rfl) (afq (by rfl));refine qk (H':=aE ([(0,.ah [.aS 2] 110),(1,.ah [.ad 6 l.length 1] 35),(2,qu l),(3,.bg []),(4,p6),(5,lR k n s (.ad 7 0 4)),(6,.au (bc l) 2)]++[(7,.au [] 49)]) (7+1)) ?_ (tM (g:=5) rfl (λid=>by rcases id with _|_|_|_|_|_|_|id<;>rfl) rfl (λI x hx=>xq hx) aA);exact aMc hS hv.2 h8 ho.2.2 hN (0,l) ⟨eh _,rfl,by simp;omega⟩
 have h2:=si (g:=4) h1 rfl (by show(4:Nat)<=6;omega);have h3:fO 4 (az ts) (.aj [J k,J n,.ao s,.ad 4 ts.length 4])=.aj (eU (.mk k n s ts)):=by have:(az ts).length=ts.length*4:=qh _;simp[fO,oU,this,eU,ax.bV,ax.n,ax.cq,ax.aU]
 rw[h3]at h2;rw[hvt];exact kJ (ps:=[(0,0),(1,1),(2,2),(3,3),(5,4)]) h2
theorem awX:∀N,aF Z (Pe N):=by
 refine vV awW ?_ ?_
 .rintro w args H ⟨_,_,_,_,h,_⟩;omega
 .intro N hS;rintro⟨l,k,n,s,ts⟩ args H ⟨rfl,rfl,aN,hv,hN,hb⟩;have hN:1+bz ts<N+1:=hN;exact aMb hS hv aN (by omega) hb
theorem Ur:aF Z K5:=awX 3000
theorem aLq{t}(ho:bA t)(hv:eP t=true):bC Z 42 [.aj (bn t)] ay (.ad 0 (nC [] t).length 1) (aE [(0,bG (nC [] t) 2)] 1):=by have⟨k,n,s,l⟩:=t;refine eE 13 Ur at1 ?_;rw[iD,hv];refine⟨⟨rfl,kY ho⟩,al (λh=>(by cases h)) λ_=>?_⟩;refine qk (H':=aE ([(0,.ah [.ad 3 0 1] 35),(1,.ah [.aS 2] 110),(2,.bI [] 0 true)]++[(3,.au [] 2)]) (3+1)) ?_ (tM (g:=0) rfl (λid=>by rcases id with _|_|_|id<;>rfl) rfl (λI x hx=>xq hx) aA);have h2:=Aq hv;refine hD Ur (λ_=>[]) ?_;rw[show ay.br=0 from rfl];have:= @aLp (.mk k n s l);simp only[ax.bV,ax.n,ax.cq,ax.aU,t42]at this;rw[show aE ([(0,.ah [.ad 3 0 1] 35),(1,.ah [.aS 2] 110),(2,.bI [] 0 true)]++[(3,.au [] 2)]) (3+1)=h42 from rfl];refine cast this.symm ?_;exact⟨([],.mk k n s l),⟨rfl,rfl,ho,JM hv,by simp only;omega,by simp;omega⟩,rfl,rfl⟩
theorem ajQ:aF Z K6:=by
 refine bY Ur ?_;rintro t args H ⟨rfl,rfl,ho⟩;simp only[vaX];by_cases hv:eP t=true
 .rw[h_,aP hv];have h2:=si (g:=0) (aLq ho hv) rfl (eh _);have h3:fO 0 (bc (nC [] t)) (.ad 0 (nC [] t).length 1)=.aq (bc (nC [] t)) (nC [] t).length 1:=by
   have:(bc (nC [] t)).length=(nC [] t).length*1:=by simp[bc]
   simp[fO,this]
  rw[h3]at h2;exact kJ (ps:=[]) h2
 .rw[h_,aw hv];refine sj ?_ (Wk.tQ 1) (ct _);have⟨k,n,s,l⟩:=t;refine eS Ur X8 13 ?_;have hv:eP (.mk k n s l)=false:=by simpa using hv
  rw[bn,at1,iD,hv];exact⟨⟨rfl,kY ho⟩,al (λ_=>aA) λh=>(by cases h)⟩
mutual
def uC:ax->ax->Bool
 |.mk k n s l,.mk k' n' s' l'=>k==k'&&n==n'&&bO s s'&&l.length==l'.length&&DG l l'
def DG:dF->dF->Bool
 |[],_=>true
 |_::_,[]=>false
 |t::l,u::m=>uC t u&&DG l m
end
def jm(a b:ax):Bool:=eP a&&eP b&&uC a b
def idX(N:Nat):bT (ax×ax)where
 aI w A H:=A=[.aj (bn w.1),.aj (bn w.2)]/\H=ay/\bA w.1/\bA w.2/\bp w.1<N
 v w:=.ai (uC w.1 w.2)
 aD w:=ay
theorem ahf{a b a' b'}{A:LV}(h1:A=[.aj (bn a),.aj (bn b)])(h2:A=[.aj (bn a'),.aj (bn b')]):a=a'/\b=b':=by rw[h1]at h2;simp at h2;exact⟨kT h2.1,kT h2.2⟩
theorem apu(N):(idX N).bM:=by rintro⟨a,b⟩ ⟨a',b'⟩ A H ⟨h1,_⟩ ⟨h2,_⟩;have⟨h3,h4⟩:=ahf h1 h2;simp only at h3 h4;rw[h3,h4]
def Pf(N:Nat):Ev.aX:=bx 104 (bE (idX N) (apu N) bU) K6
def aer:bT (ax×ax)where
 aI w A H:=A=[.aj (bn w.1),.aj (bn w.2)]/\H=ay/\bA w.1/\bA w.2
 v w:=.ai (uC w.1 w.2)
 aD w:=ay
theorem apt:aer.bM:=by rintro⟨a,b⟩ ⟨a',b'⟩ A H ⟨h1,_⟩ ⟨h2,_⟩;have⟨h3,h4⟩:=ahf h1 h2;simp only at h3 h4;rw[h3,h4]
def K7:Ev.aX:=bx 104 (bE aer apt bU) K6
def SC:bT (ax×ax)where
 aI w A H:=A=[.aj (bn w.1),.aj (bn w.2)]/\H=ay/\bA w.1/\bA w.2
 v w:=.ai (jm w.1 w.2)
 aD w:=ay
theorem atw:SC.bM:=by rintro⟨a,b⟩ ⟨a',b'⟩ A H ⟨h1,_⟩ ⟨h2,_⟩;have⟨h3,h4⟩:=ahf h1 h2;simp only at h3 h4;rw[h3,h4]
def K8:Ev.aX:=bx 64 (bE SC atw bU) K7
def arv:LV->Option (Prop×AV)
 |[.bD .i64 n]=>some (True,.ai (xF n))
 |_=>none
def K9:Ev.aX:=eD 141 (fj arv) K8
def At(n:Int):Int:=if xF n then n else 0
def au3:LV->Option (Prop×AV)
 |[.bD .i64 n]=>some (True,.aj [J 0,J (At n),.ao [],.aq [] 0 4])
 |_=>none
def K10:Ev.aX:=eD 105 (fj au3) K9
def mO(k:Int):Bool:=k==2||k==3
def aln:LV->Option (Prop×AV)
 |[.aj [.bD .i64 k,.bD .i64 n,.ao s,.aq cs len 4]]=>some (True,.ai (mO k))
 |_=>none
def K11:Ev.aX:=eD 75 (fj aln) K10
def kR(k:Int)(s:LN)(len:Nat):Bool:=k==3&&((len:Int)==2)&&(bO s [44]||bO s [59]||bO s [45,62])
def alh:LV->Option (Prop×AV)
 |[.aj [.bD .i64 k,.bD .i64 n,.ao s,.aq cs len 4]]=>some (True,.ai (kR k s len))
 |_=>none
def K12:Ev.aX:=eD 142 (fj alh) K11
def vj:ax->Bool
 |.mk k n s [a,b]=>if k=2 then bO s [33]else kR k s 2&&(if bO s [45,62]then vj b else vj a||vj b)
 |.mk k n s _=>if k=2 then bO s [33]else false
def cuX(N:Nat):bT ax where
 aI t A H:=A=[.aj (bn t)]/\H=ay/\bA t/\bp t<N
 v t:=.ai (vj t)
 aD t:=ay
theorem yP{a a'}{A:LV}(h1:A=[.aj (bn a)])(h2:A=[.aj (bn a')]):a=a':=by rw[h1]at h2;simp at h2;exact kT h2
theorem azi(N):(cuX N).bM:=λt t' A H h1 h2=>by rw[yP h1.1 h2.1]
def abh(N:Nat):Ev.aX:=bx 112 (bE (cuX N) (azi N) bU) K12
def al6:bT ax where
 aI t A H:=A=[.aj (bn t)]/\H=ay/\bA t
 v t:=.ai (vj t)
 aD t:=ay
theorem azh:al6.bM:=λt t' A H h1 h2=>by rw[yP h1.1 h2.1]
def K13:Ev.aX:=bx 112 (bE al6 azh bU) K12
def Lh(t:ax):Bool:=eP t&&vj t
def ctX:bT ax where
 aI t A H:=A=[.aj (bn t)]/\H=ay/\bA t
 v t:=.ai (Lh t)
 aD t:=ay
theorem azg:ctX.bM:=λt t' A H h1 h2=>by rw[yP h1.1 h2.1]
def K14:Ev.aX:=bx 79 (bE ctX azg bU) K13
def oy(k:Int)(s:LN)(len:Nat)(nm:LN)(ar:Int):Bool:=mO k&&bO s nm&&((len:Int)==ar)
def XD:LV->Option (Prop×AV)
 |[.aj [.bD .i64 k,.bD .i64 n,.ao s,.aq cs len 4],.ao nm,.bD .i64 ar]=>some (True,.ai (oy k s len nm ar))
 |_=>none
def K15:Ev.aX:=eD 113 (fj XD) K14
abbrev nK:=ax×ax
def fiX:bT nK where
 aI c A H:=A=[.aj (bn c.1++bn c.2)]/\H=ay/\bA c.1/\bA c.2
 v c:=.ai (decide (cy c.1+cy c.2<=2000))
 aD c:=ay
theorem ET{c c':nK}(h:bn c.1++bn c.2=bn c'.1++bn c'.2):c=c':=by have:=lO h (by rw[pz,pz]);exact Prod.ext (kT this.1) (kT this.2)
theorem aAS:fiX.bM:=by rintro c c' A H ⟨h1,_⟩ ⟨h2,_⟩;rw[h1]at h2;simp at h2;rw[ET h2]
def K16:Ev.aX:=bx 76 (bE fiX aAS bU) K15
def aqv:Nat->LN:=dY [(4,[3,36,37,38])]
abbrev NQ h0 h1 h2 h3 h4 h5 h6 h7 h8:=([(h0,h1),(h2,.aq h3 h4 h5),(h6,J6 h4),(h7,h8)]:List (Nat×AV))
abbrev aiq h0 h1 h2:=NQ 3 (.aa 0 0) 36 h0 h1 4 37 38 h2
theorem aJN{k n s cs len k' n' s' cs' len' N L Q}:
 fA (Pf N) aqv L Q 104 [cN k n s cs len,cN k' n' s' cs' len'] ay=AD (k !=k') Q (n !=n') (AD (!bO s s') Q (Int.ofNat len !=Int.ofNat len') (L (aJ (aiq cs len (J 0))) (iA (dx k' n' s' cs' len')) (aB Z 104 0))):=by kernel_rfl
abbrev av9 h0 h1 h2 h3 h4 h5 h6 h7 h8 h9 dG eB iV kc jL Qm:=∃b0:ax×ax,(([cN h0 h1 h2 h3 h4,cN h5 h6 h7 h8 h9]:LV)=[.aj (bn b0.1),.aj (bn b0.2)]/\dc (bA b0.1/\bA b0.2/\bp b0.1<dG))/\Cm (!uC b0.1 b0.2) eB iV kc jL Qm 0
theorem aJO{cs len k' n' s' cs' len' i N L Q}:
 ju (Pf N) aqv L Q 104 0 (aiq cs len (J i)) (iA (dx k' n' s' cs' len'))=Co i len (ia i len (λcv=>og ((cs.drop (cv*4)).take 4:LV) (λn=>λbm=>λs=>λcA=>λb_=>ia i len' (λjA=>og ((cs'.drop (jA*4)).take 4:LV) (λbS=>λdn=>λcX=>λmT=>λnj=>av9 n bm s cA b_ bS dn cX mT nj N Q L (aJ (aiq cs len (cu i))) (iA (dx k' n' s' cs' len')) 104))))) (Q (.ai true) ay):=by kernel_rfl
abbrev J_ h0 h1 h2 h3 h4 h5 h6 h7 h8 h9(dG:(ax×ax)->Prop):=∃b0:ax×ax,(([cN h0 h1 h2 h3 h4,cN h5 h6 h7 h8 h9]:LV)=[.aj (bn b0.1),.aj (bn b0.2)]/\dc (bA b0.1/\bA b0.2))/\dG b0
abbrev NU h0 h1 h2 h3 h4 h5(h6:QT):=Cs h0 h1 h2 h3 h4/\aZ (iy eP (fS h0 h1 h2 h3 h4)) h5 (h6 (.ai false) ay)
abbrev aaE h0 h1 h2 h3 h4 h5 h6 h7 h8 h9(dG:QT):=NU h0 h1 h2 h3 h4 (NU h5 h6 h7 h8 h9 (J_ h0 h1 h2 h3 h4 h5 h6 h7 h8 h9 (λb0=>dG (.ai (uC b0.1 b0.2)) ay)) dG) dG
theorem aL4{k n s cs len k' n' s' cs' len' L Q}:
 fL K7 L Q 64 [cN k n s cs len,cN k' n' s' cs' len']=aaE k n s cs len k' n' s' cs' len' Q:=by kernel_rfl
theorem aKs{n L Q}:
 fL K8 L Q 141 [J n]=Cj (decide (n>=0)) Q (.ai (Tt n)) ay (.ai false):=by kernel_rfl
theorem aJP{n L Q}:
 fL K9 L Q 105 [J n]=(dc True/\Cj (!xF n) Q (wc 0 0 (pq []) .aM) ay (wc 0 n (pq []) .aM)):=by kernel_rfl
theorem aMk{k n s cs len L Q}:
 fL K10 L Q 75 [cN k n s cs len]=Cj (k==2) Q (.ai true) ay (.ai (k==3)):=by kernel_rfl
theorem aKt{k n s cs len L Q}:
 fL K11 L Q 142 [cN k n s cs len]=Hb (k==3) (Int.ofNat len==2) (Az (bO s (pq [44])) (Q (.ai true) ay) (bO s (pq [59])) (Q (.ai (bO s (pq [45,62]))) ay)) Q:=by kernel_rfl
abbrev J' h0(h1:ax->Prop)(h2:ax->Prop):=og (h0:LV) (λb0=>λb1=>λb2=>λb3=>λb4=>∃b5:ax,xJ (fS b0 b1 b2 b3 b4) (bn b5) (h1 b5)/\h2 b5)
abbrev awc(h0:LV) h1(h2:QT):=J' ((h0.drop 4).take 4) (λb0=>bA b0/\bp b0<h1) (λb0=>h2 (.ai (vj b0)) ay)
theorem aJW{k n s cs len N L Q}:
 fL (abh N) L Q 112 [cN k n s cs len]=aZ (k==2) (Q (.ai (bO s (pq [33]))) ay) (dc True/\sU (!kR k s len) Q ay (aZ (bO s (pq [45,62])) (1<len/\awc cs N Q) (0<len/\J' ((cs.drop 0).take 4) (λw=>bA w/\bp w<N) (λw=>aZ (vj w) (Q (.ai true) ay) (1<len/\awc cs N Q))))):=by kernel_rfl
abbrev qL h0 h1 h2 h3 h4(h5:ax->Prop):=∃b0:ax,xJ (fS h0 h1 h2 h3 h4) (bn b0) (bA b0)/\h5 b0
theorem aMo{k n s cs len L Q}:
 fL K13 L Q 79 [cN k n s cs len]=NU k n s cs len (qL k n s cs len (λw=>Q (.ai (vj w)) ay)) Q:=by kernel_rfl
theorem aJX{k n s cs len nm ar L Q}:
 fL K14 L Q 113 [cN k n s cs len,.ao nm,J ar]=TF k 2 (bO s nm) Q (Int.ofNat len==ar) ay (Q (.ai false) ay) 3:=by kernel_rfl
abbrev mJ h0 h1 h2 h3 h4 h5 h6 h7 h8 h9:=([J h0,J h1,.ao h2,.aq h3 h4 4,J h5,J h6,.ao h7,.aq h8 h9 4]:LV)
theorem aMl{k n s cs len k' n' s' cs' len' L Q}:
 fL K15 L Q 76 [.aj (mJ k n s cs len k' n' s' cs' len')]=(Cs k n s cs len/\im (cN k' n' s' cs' len')/\Cs k' n' s' cs' len'/\Q (.ai (decide (wI (iy cy (fS k n s cs len)+iy cy (fS k' n' s' cs' len'))<=2000))) ay):=by kernel_rfl
theorem apv{l m:dF}{i}(hl:i<l.length)(hm:i<m.length):DG (l.drop i) (m.drop i)=(uC l[i] m[i]&&DG (l.drop (i+1)) (m.drop (i+1))):=by rw[fu hl,fu hm,DG]
theorem aJM{k' n' s' l m N aC}(hS:aF Z (Pf N))(h8:cV l.length)(h8m:cV m.length)(hlm:l.length=m.length)(ho:fe l)(hom:fe m)(hN:bz l<N):
 ∀i,(i<=l.length/\DG (l.drop i) (m.drop i)=aC)->ba Z 104 52 0 (.ai aC) ay
  (aJ [(3,.aa 0 0),(36,.aq (az l) l.length 4),(37,J (Int.ofNat l.length)),(38,J (i:Int))]) (aE [(0,dx k' n' s' (az m) m.length)] 1) (aB Z 104 0):=by
 refine dj (λi=>l.length-i) _ _ _ _ ?_;rintro i ⟨hi,hf⟩ ih;refine hE hS aJO ?_;delta cu;refine al (λae=>?_) λaY=>?_
 .have ae:i<l.length:=by simpa using ae
  have sx:i<m.length:=by omega
  obtain⟨k1,n1,s1,l1,-,hg,bP,aN,ca⟩:=ua ae ho hN (P:=λ_=>True) trivial;obtain⟨k2,n2,s2,l2,-,tz,aee,Q5,_⟩:=ua sx hom (kr _) (P:=λ_=>True) trivial;rw[apv ae sx,hg,tz]at hf;refine⟨i,rfl,ae,k1,n1,s1,az l1,l1.length,bP,i,rfl,sx,k2,n2,s2,az l2,l2.length,aee,(.mk k1 n1 s1 l1,.mk k2 n2 s2 l2),⟨rfl,rfl,aN,Q5,ca⟩,al (λh=>?_) λh=>?_⟩
  .have h:uC (.mk k1 n1 s1 l1) (.mk k2 n2 s2 l2)=false:=by simpa using h
   rw[h,tZ]at hf;subst hf;exact aA
  .have h:uC (.mk k1 n1 s1 l1) (.mk k2 n2 s2 l2)=true:=by simpa using h
   rw[h,pW]at hf;rw[lB h8 ae];exact ih (i+1) ⟨by omega,hf⟩ (by omega)
 .have aY:l.length<=i:=by simpa using aY
  rw[gf aY,DG]at hf;subst hf;exact aA
theorem aJL{a b N}(hS:aF Z (Pf N))(ha:bA a)(hb:bA b)(hN:bp a<N+1):
 bC Z 104 [.aj (bn a),.aj (bn b)] ay (.ai (uC a b)) ay:=by
 have⟨k,n,s,l⟩:=a;have⟨k',n',s',m⟩:=b;refine eE 52 hS aJN ?_;rw[uC];simp only[bp]at hN;refine al (λh=>?_) λh1=>al (λh=>?_) λh2=>al (λh=>?_) λh3=>al (λh=>?_) λh4=>?_
 .have:(k==k')=false:=by simpa using h
  rw[this];exact aA
 .have:(n==n')=false:=by simpa using h
  rw[this,DY];exact aA
 .have:bO s s'=false:=by simpa using h
  rw[this,DY];exact aA
 .have:(l.length==m.length)=false:=by simp at h;simp;omega
  rw[this,DY];exact aA
 .have e1:(k==k')=true:=by simpa using h1
  have e2:(n==n')=true:=by simpa using h2
  have e3:bO s s'=true:=by simpa using h3
  have e4:l.length=m.length:=by have:(l.length:Int)=(m.length:Int):=by simpa using h4
                                omega
  have e5:(l.length==m.length)=true:=by simpa using e4
  rw[e1,e2,e3,e5];exact aJM hS ha.2.1 hb.2.1 e4 ha.2.2 hb.2.2 (by omega) 0 ⟨eh _,by simp⟩
theorem awZ:∀N,aF Z (Pf N):=by
 refine vV ajQ ?_ ?_
 .rintro w args H ⟨_,_,_,_,h⟩;omega
 .intro N hS;rintro⟨a,b⟩ args H ⟨rfl,rfl,ha,hb,hN⟩;exact aJL hS ha hb hN
theorem ajR:aF Z K7:=by refine bY ajQ ?_;rintro⟨a,b⟩ args H ⟨rfl,rfl,ha,hb⟩;exact Fj (awZ (bp a+1)) ⟨rfl,rfl,ha,hb,kr _⟩ rfl
theorem ajS:aF Z K8:=by
 refine bY ajR ?_;rintro⟨a,b⟩ args H ⟨rfl,rfl,ha,hb⟩;have⟨k,n,s,l⟩:=a;have⟨k',n',s',m⟩:=b;refine eE 16 ajR aL4 ?_;delta aaE NU;simp only[SC,jm];rw[iD,iD];refine⟨⟨rfl,kY ha⟩,al (λh1=>⟨⟨rfl,kY hb⟩,al (λh2=>⟨(.mk k n s l,.mk k' n' s' m),⟨rfl,rfl,ha,hb⟩,?_⟩) λh2=>?_⟩) λh1=>?_⟩
 .rw[h1,h2];exact aA
 .rw[h1,h2];exact aA
 .rw[h1];exact aA
theorem ajT:aF Z K9:=by
 refine jl ajS λargs q v h hq=>?_
 unfold arv at h;split at h<;>cases h;rename_i n;refine eE 9 ajS aKs ?_;have e:xF n=(decide (n>=0)&&decide (n<=1099511627776)):=by simp only[xF];rw[<-Bool.decide_and]
 rw[e];generalize decide (n>=0)=a;cases a<;>exact⟨rfl,rfl⟩
theorem ajs:aF Z K10:=by
 refine jl ajT λargs q v h hq=>?_
 unfold au3 at h;split at h<;>cases h;rename_i n;refine sj ?_ (.agg (.fJ (.fJ (.fJ (.tQ 4 (.mn _)))))) (ct _);refine eE 9 ajT aJP ?_;refine⟨da,al (λh=>?_) λh=>?_⟩
 .have h:xF n=false:=by simpa using h
  rw[At,h];exact aA
 .have h:xF n=true:=by simpa using h
  rw[At,h];exact aA
theorem ajt:aF Z K11:=by
 refine jl ajs λargs q v h hq=>?_
 unfold aln at h;split at h<;>cases h;rename_i k n s cs len;refine eE 11 ajs aMk ?_;rw[mO];generalize (k==2)=a;cases a<;>exact⟨rfl,rfl⟩
theorem aju:aF Z K12:=by
 refine jl ajt λargs q v h hq=>?_
 unfold alh at h;split at h<;>cases h;rename_i k n s cs len;refine eE 27 ajt aKt ?_;delta pq;rw[kR,jr,show fg (ByteArray.mk (List.toArray [44]))=[44]from rfl,show fg (ByteArray.mk (List.toArray [59]))=[59]from rfl,show fg (ByteArray.mk (List.toArray [45,62]))=[45,62]from rfl];generalize (k==3)=a;generalize ((len:Int)==2)=b;generalize bO s [44]=c;generalize bO s [59]=d;cases a<;>cases b<;>cases c<;>cases d<;>exact⟨rfl,rfl⟩
theorem Ve{k s len}(h:kR k s len=true):len=2:=by unfold kR at h;simp at h;omega
theorem I5{F:Type}{l:List F}(h:l.length=2):∃a b,l=[a,b]:=by
 match l,h with
 |[a,b],_=>exact⟨a,b,rfl⟩
theorem amb{k n s l}(h:kR k s l.length=false):vj (.mk k n s l)=if k=2 then bO s [33]else false:=by
 match l with
 |[a,b]=>simp only[vj];rw[show kR k s 2=false from h,tZ]
 |[]=>rfl
 |[_]=>rfl
 |_::_::_::_=>rfl
theorem am2(a b):az [a,b]=bn a++bn b:=by simp[az]
theorem A9(a b):((az [a,b]).drop 0).take 4=bn a:=by rw[am2];exact xA (pz a)
theorem yg(a b):((az [a,b]).drop 4).take 4=bn b:=by rw[am2,List.drop_append_of_le_length (by rw[pz];exact ct _),gf (by rw[pz];exact ct _),rG,BN (by rw[pz];exact ct _)]
theorem aJV{t N}(hS:aF Z (abh N))(ho:bA t)(hN:bp t<N+1):bC Z 112 [.aj (bn t)] ay (.ai (vj t)) ay:=by
 have⟨k,n,s,l⟩:=t;refine eE 35 hS aJW ?_;by_cases hk:k=2
 .subst hk;have e:vj (.mk 2 n s l)=bO s [33]:=by rw[amb (by rfl)];rfl
  rw[e];exact al (λ_=>aA) λh=>(by cases h)
 refine al (λh=>absurd (by simpa using h) hk) λ_=>⟨da,al (λh=>?_) λh=>?_⟩
 .have h:kR k s l.length=false:=by simpa using h
  rw[amb h,aw hk];exact aA
 .have h:kR k s l.length=true:=by simpa using h
  have h2:=Ve h;obtain⟨a,b,rfl⟩:=I5 h2;rw[vj,aw hk,show kR k s 2=true from h,pW];simp only[bp,bz]at hN;have ha:=ho.2.2.1;have hb:=ho.2.2.2.1;refine al (λh=>?_) λh=>?_
  .have h:bO s [45,62]=true:=h;rw[aP h];have⟨k1,n1,s1,l1⟩:=b;exact⟨by simp,k1,n1,s1,az l1,l1.length,yg _ _,.mk k1 n1 s1 l1,⟨rfl,rfl,hb,by omega⟩,rfl,rfl⟩
  .have h:¬bO s [45,62]=true:=by rw[show bO s [45,62]=false from h];simp
   rw[aw h];have⟨k0,n0,s0,l0⟩:=a;refine⟨by simp,k0,n0,s0,az l0,l0.length,A9 _ _,.mk k0 n0 s0 l0,⟨rfl,rfl,ha,by omega⟩,al (λh=>?_) λh=>?_⟩
   .rw[h];exact aA
   .rw[h];have⟨k1,n1,s1,l1⟩:=b;exact⟨by simp,k1,n1,s1,az l1,l1.length,yg _ _,.mk k1 n1 s1 l1,⟨rfl,rfl,hb,by omega⟩,rfl,rfl⟩
theorem awP:∀N,aF Z (abh N):=by
 refine vV aju ?_ ?_
 .rintro w args H ⟨_,_,_,h⟩;omega
 .intro N hS;rintro t args H ⟨rfl,rfl,ho,hN⟩;exact aJV hS ho hN
theorem ajv:aF Z K13:=by refine bY aju ?_;rintro t args H ⟨rfl,rfl,ho⟩;exact Fj (awP (bp t+1)) ⟨rfl,rfl,ho,kr _⟩ rfl
theorem ajw:aF Z K14:=by
 refine bY ajv ?_;rintro⟨k,n,s,l⟩ args H ⟨rfl,rfl,ho⟩;refine eE 9 ajv aMo ?_;delta NU;simp only[ctX,Lh];rw[iD];refine⟨⟨rfl,kY ho⟩,al (λh=>⟨.mk k n s l,⟨rfl,rfl,ho⟩,?_⟩) λh=>?_⟩
 .rw[h];exact aA
 .rw[h];exact aA
theorem ajx:aF Z K15:=by
 refine jl ajw λargs q v h hq=>?_
 unfold XD at h;split at h<;>cases h;rename_i k n s cs len nm ar;refine eE 28 ajw aJX ?_;delta TF;rw[oy,mO,jr];generalize (k==2)=a;generalize (k==3)=b;generalize bO s nm=c;cases a<;>cases b<;>cases c<;>exact⟨rfl,rfl⟩
theorem Zi(t):0<=cy t/\cy t<=2001:=by unfold cy;omega
theorem awQ:aF Z K16:=by refine bY ajx ?_;rintro⟨⟨k,n,s,l⟩,⟨k',n',s',m⟩⟩ args H ⟨rfl,rfl,ha,hb⟩;refine eE 11 ajx aMl ?_;rw[iD,iD];have h1:=Zi (.mk k n s l);have h2:=Zi (.mk k' n' s' m);rw[cb];exact⟨⟨rfl,kY ha⟩,rfl,⟨rfl,kY hb⟩,rfl,rfl⟩
def pU(m:LP)(k n:Int):Int×LP:=if k=0 then(match lk n m with|some v=>(v,m)|none=>((m.length:Int),m++[(n,(m.length:Int))]))else(n,m)
mutual
def kM:LP->ax->ax×LP
 |m,.mk k n s l=>(.mk k (pU m k n).1 s (pT (pU m k n).2 l).1,(pT (pU m k n).2 l).2)
def pT:LP->dF->dF×LP
 |m,[]=>([],m)
 |m,t::l=>((kM m t).1::(pT (kM m t).2 l).1,(pT (kM m t).2 l).2)
end
theorem Yw:∀m l,(pT m l).1.length=l.length
 |m,[]=>rfl
 |m,t::l=>by simp[pT,Yw _ l]
def MV(m:LP):aO:=.bI (bJ J 0 m) m.length true
def hM(m:LP):AH:=aE [(0,MV m)] 1
theorem aBW{m m'}(h:hM m=hM m'):m=m':=by have:=congrArg (λH=>AH.aR H 0) h;have:=cW this;simp only[MV,aO.bI.injEq]at this;exact tg Ap this.1
def nmX(N:Nat):bT (LP×ax)where
 aI w A H:=A=[.aj (bn w.2),.aS 0]/\H=hM w.1/\bA w.2/\ik w.2=true/\bp w.2<N/\w.1.length+bp w.2<4000000
 v w:=.aj (eU (kM w.1 w.2).1)
 aD w:=hM (kM w.1 w.2).2
theorem ari(N):(nmX N).bM:=by rintro⟨l,t⟩ ⟨l',t'⟩ A H ⟨h1,h2,_⟩ ⟨h3,h4,_⟩;rw[h2]at h4;rw[h1]at h3;have:=aBW h4;subst this;simp at h3;rw[kT h3]
def O3(N:Nat):Ev.aX:=bx 111 (bE (nmX N) (ari N) bU) K16
def K17:Ev.aX:=bx 111 (bE (nmX 3000) (ari 3000) bU) K16
def kH(c:nK):nK×Nat:=(((kM [] c.1).1,(kM (kM [] c.1).2 c.2).1),(kM (kM [] c.1).2 c.2).2.length)
def cnX:bT nK where
 aI c A H:=A=[.aj (bn c.1++bn c.2)]/\H=ay/\bA c.1/\bA c.2/\eP c.1=true/\eP c.2=true
 v c:=.aL [.aj [J (kH c).1.1.bV,J (kH c).1.1.n,.ao (kH c).1.1.cq,.aq (az (kH c).1.1.aU) (kH c).1.1.aU.length 4,J (kH c).1.2.bV,J (kH c).1.2.n,.ao (kH c).1.2.cq,.aq (az (kH c).1.2.aU) (kH c).1.2.aU.length 4],J ((kH c).2:Int)]
 aD c:=ay
theorem ay0:cnX.bM:=by rintro c c' A H ⟨h1,_⟩ ⟨h2,_⟩;rw[h1]at h2;simp at h2;rw[ET h2]
def K18:Ev.aX:=bx 77 (bE cnX ay0 bU) K17
def aqw:Nat->LN:=dY [(9,[1,4,5,38,39,40])]
def aot(m:LP)(k n:Int)(s:LN)(ds:LV)(j:Nat):AH:=aE [(0,MV m),(1,p6),(2,lR k n s (.ad 3 j 4)),(3,.au ds 49)] 4
abbrev Ta h0 h1 h2:=aaM 1 (.aS 0) 4 1 5 2 38 h0 h1 39 (Int.ofNat h1) 40 h2
theorem aJT{m k n s cs len N L Q}:
 fA (O3 N) aqw L Q 111 [cN k n s cs len,.aS 0] (hM m)=gT (k==0) (∃bm:Int,Ci 2 (bJ J 0 m) n (J bm) (λb=>gT (!b) (rP 2 (bJ J 0 m) m.length n (J6 (bJ J 0 m).length) (λbF=>λc'=>L (aJ (Ta cs len (J 0))) (jv (eu bF c') Oe (lR k (Int.ofNat (bJ J 0 m).length) s .aM)) (aB Z 111 0))) L (aJ (Ta cs len (J 0))) (jv (lv m) Oe (lR k bm s .aM)) 111 0)) L (aJ (Ta cs len (J 0))) (jv (lv m) Oe (lR k n s .aM)) 111 0:=by kernel_rfl
abbrev ahP h0 h1 h2 h3 h4(h5:LP×ax) h6 h7:=Ct (cN h0 h1 h2 h3 h4) (.aS 0) (.aj (bn h5.2))/\h6=hM h5.1/\bA h5.2/\ik h5.2=true/\bp h5.2<h7/\h5.1.length+bp h5.2<4000000
abbrev rR(h0:LP×ax):=kM h0.1 h0.2
theorem aJU{m k n s cs len i ds j N L Q}:
 ju (O3 N) aqw L Q 111 1 (Ta cs len (J i)) (aot m k n s ds j)=Co i len (ia i len (λcv=>og ((cs.drop (cv*4)).take 4:LV) (λbm=>λbS=>λcX=>λcA=>λb_=>∃w:LP×ax,ahP bm bS cX cA b_ w (mH m) N/\im (.ad 3 j 4)/\xH ds j 4 L (Ta cs len (cu i)) (uX (lv (rR w).2) p6 (lR k n s (.ad 3 (j+1) 4)) (.au (ds++fS (rR w).1.bV (rR w).1.n (rR w).1.cq (az (rR w).1.aU) (rR w).1.aU.length) 49)) 111 0))) (Q (wc k n s (.ad 1 j 4)) (j_ (lv m) (.au ds 49))):=by kernel_rfl
theorem aMm{k n s cs len k' n' s' cs' len' L Q}:
 fL K17 L Q 77 [.aj (mJ k n s cs len k' n' s' cs' len')]=(∃w:LP×ax,ahP k n s cs len w (iA (eu [] 0)) 3000/\(∃aH:LP×ax,ahP k' n' s' cs' len' aH (mH (rR w).2) 3000/\Q (Eu (mJ (rR w).1.bV (rR w).1.n (rR w).1.cq (az (rR w).1.aU) (rR w).1.aU.length (rR aH).1.bV (rR aH).1.n (rR aH).1.cq (az (rR aH).1.aU) (rR aH).1.aU.length) (Int.ofNat (bJ J 0 (rR aH).2).length)) ay)):=by kernel_rfl
mutual
theorem afD:∀(m:LP) (t:ax),(kM m t).2.length<=m.length+bp t
 |m,.mk k n s l=>by
  have:=arz (pU m k n).2 l;simp only[kM,bp];have h:(pU m k n).2.length<=m.length+1:=by
   unfold pU;split
   .split
    .simp
    .simp
   .simp
  omega
theorem arz:∀(m:LP) (l:dF),(pT m l).2.length<=m.length+bz l
 |m,[]=>by simp[pT]
 |m,t::l=>by have h1:=afD m t;have h2:=arz (kM m t).2 l;simp only[pT,bz];omega
end
theorem aOL:
 kA Z 2=some (J 0):=by kernel_rfl
theorem ac2{D}(ev):∀(l:List (Int×D)) (b),(bJ ev b l).length=l.length
 |[],_=>rfl
 |x::l,b=>by simp[bJ,ac2 ev l]
theorem auM{k v}:∀{l:LP},lk k l=none->up k v l=l++[(k,v)]
 |[],_=>rfl
 |(a,b)::l,h=>by
  simp only[lk]at h;split at h
  .cases h
  next hk=>simp only[up,hk,if_false,j3];rw[auM h]
theorem aJS{k n s ts N aC}(hS:aF Z (O3 N))(hv:pS ts=true)(h8:ts.length<=8)(ho:fe ts)(hN:bz ts<N):
 ∀p:Nat×LP×dF,(p.1<=ts.length/\p.2.2.length=p.1/\(p.2.2++(pT p.2.1 (ts.drop p.1)).1,(pT p.2.1 (ts.drop p.1)).2)=aC/\p.2.1.length+bz (ts.drop p.1)<4000000)->
 ba Z 111 54 1 (.aj [J k,J n,.ao s,.ad 1 ts.length 4]) (aE [(0,MV aC.2),(1,.au (az aC.1) 49)] 2)
  (aJ [(1,.aS 0),(4,.aa 1 0),(5,.aa 2 0),(38,.aq (az ts) ts.length 4),(39,J (Int.ofNat ts.length)),(40,J (p.1:Int))]) (aot p.2.1 k n s (az p.2.2) p.1) (aB Z 111 0):=by
 refine dj (λp=>ts.length-p.1) _ _ _ _ ?_;rintro⟨i,m,us⟩ ⟨hi,hu,hf,hb⟩ ih;simp only at hi hu hf hb ih⊢;refine hE hS aJU ?_;delta cu;refine al (λae=>?_) λaY=>?_
 .have ae:i<ts.length:=by simpa using ae
  obtain⟨k1,n1,s1,l1,-,hg,bP,aN,ca⟩:=ua ae ho hN (P:=λ_=>True) trivial;have tB:=M0 ae hv;rw[hg]at tB;rw[fu ae,hg]at hf hb;rw[pT]at hf;rw[bz]at hb;have Xr:=afD m (.mk k1 n1 s1 l1);refine⟨i,rfl,ae,k1,n1,s1,az l1,l1.length,bP,(m,.mk k1 n1 s1 l1),⟨rfl,rfl,aN,tB,ca,by simp only;omega⟩,rfl,⟨by rw[qh,hu],by omega,rfl,rfl⟩,?_⟩;rw[cb];have:=ih (i+1,(kM m (.mk k1 n1 s1 l1)).2,us++[(kM m (.mk k1 n1 s1 l1)).1]) ⟨by simp only;omega,by simp[hu],by rw[<-hf];simp,by simp only;omega⟩ (by simp only;omega);have e2:az (us++[(kM m (.mk k1 n1 s1 l1)).1])=az us++[J (kM m (.mk k1 n1 s1 l1)).1.bV,J (kM m (.mk k1 n1 s1 l1)).1.n,.ao (kM m (.mk k1 n1 s1 l1)).1.cq,.aq (az (kM m (.mk k1 n1 s1 l1)).1.aU) (kM m (.mk k1 n1 s1 l1)).1.aU.length 4]:=by rw[A7];simp[az,bn,kM,ax.bV,ax.n,ax.cq,ax.aU]
  simp only[e2]at this;exact this
 .have aY:ts.length<=i:=by simpa using aY
  have:i=ts.length:=by omega
  subst this;rw[gf (ct _),pT]at hf;rw[jt]at hf;subst hf;exact aA
theorem aJx{k n s m0 o}:mr m0 (aE [(0,o),(1,lR 0 0 (fg (ByteArray.mk (List.toArray []))) .aM),(2,lR k n s .aM)] 3) (aE ([(0,o),(1,p6),(2,lR k n s (.ad 3 0 4))]++[(3,.au [] 49)]) (3+1)) (λI aK=>aK=I):=
 tM (g:=2) rfl (λid=>by rcases id with _|_|_|_|id<;>rfl) rfl (λI x hx=>xq hx) aA
theorem aJR{m k n s ts N}(hS:aF Z (O3 N))(hv:ik (.mk k n s ts)=true)(ho:bA (.mk k n s ts))(hN:bz ts<N)(hb:m.length+bp (.mk k n s ts)<4000000):
 bC Z 111 [.aj (bn (.mk k n s ts)),.aS 0] (hM m) (.aj (eU (kM m (.mk k n s ts)).1)) (hM (kM m (.mk k n s ts)).2):=by
 have h1:bC Z 111 [.aj (bn (.mk k n s ts)),.aS 0] (hM m) (.aj [J k,J (pU m k n).1,.ao s,.ad 1 ts.length 4]) (aE [(0,MV (pT (pU m k n).2 ts).2),(1,.au (az (pT (pU m k n).2 ts).1) 49)] 2):=by
  refine eE 54 hS aJT ?_;delta Ci;simp only[ik,cT]at hv;have h8:=RP hv.1;simp only[bp]at hb;have key:∀m1 n1,(n1,m1)=pU m k n->m1.length<=m.length+1->ba Z 111 54 1 (.aj [J k,J (pU m k n).1,.ao s,.ad 1 ts.length 4]) (aE [(0,MV (pT (pU m k n).2 ts).2),(1,.au (az (pT (pU m k n).2 ts).1) 49)] 2) (aJ [(1,.aS 0),(4,.aa 1 0),(5,.aa 2 0),(38,.aq (az ts) ts.length 4),(39,J (Int.ofNat ts.length)),(40,J 0)]) (aE [(0,lv m1),(1,lR 0 0 (fg (ByteArray.mk (List.toArray []))) .aM),(2,lR k n1 s .aM)] 3) (aB Z 111 0):=by intro m1 n1 he hl;rw[<-he];refine qk ?_ aJx;exact aJS hS hv.2 h8 ho.2.2 hN (0,m1,[]) ⟨eh _,rfl,rfl,by simp;omega⟩
  refine al (λh=>?_) λh=>?_
  .have h:k=0:=by simpa using h
   rw[nq J iF];cases hl:lk n m with
   |none=>
    refine⟨0,false,by rw[aOL];rfl,al (λ_=>?_) λh=>(by cases h)⟩;have tB:((m.length:Int),m++[(n,(m.length:Int))])=pU m k n:=by rw[pU,aP h,hl]
    refine⟨_,_,ph J iF,?_⟩;rw[ac2,jr,auM hl];exact key _ _ tB (by simp)
   |some v=>refine⟨v,true,rfl,al (λh=>(by cases h)) λ_=>?_⟩;exact key _ _ (by rw[pU,aP h,hl]) (by omega)
  .have h:¬k=0:=by simpa using h
   exact key _ _ (by rw[pU,aw h]) (by omega)
 have h2:=si (g:=1) h1 rfl (by show(1:Nat)<=2;omega);have h3:fO 1 (az (pT (pU m k n).2 ts).1) (.aj [J k,J (pU m k n).1,.ao s,.ad 1 ts.length 4])=.aj (eU (kM m (.mk k n s ts)).1):=by
  have:(az (pT (pU m k n).2 ts).1).length=ts.length*4:=by rw[qh,Yw]
  simp[fO,oU,this,eU,kM,ax.bV,ax.n,ax.cq,ax.aU,Yw]
 rw[h3]at h2;exact kJ (ps:=[(0,0)]) h2
theorem awR:∀N,aF Z (O3 N):=by
 refine vV awQ ?_ ?_
 .rintro w args H ⟨_,_,_,_,h,_⟩;omega
 .intro N hS;rintro⟨m,k,n,s,ts⟩ args H ⟨rfl,rfl,aN,hv,hN,hb⟩;have hN:1+bz ts<N+1:=hN;exact aJR hS hv aN (by omega) hb
theorem ajy:aF Z K17:=awR 3000
theorem awS:aF Z K18:=by refine bY ajy ?_;rintro⟨⟨k,n,s,l⟩,⟨k',n',s',l'⟩⟩ args H ⟨rfl,rfl,ho,pN,hv,DD⟩;refine eE 19 ajy aMm ?_;have h1:=Aq hv;have h2:=Aq DD;have h3:=afD [] (.mk k n s l);simp at h3;simp only at h1 h2;refine⟨([],.mk k n s l),⟨rfl,rfl,ho,JM hv,by simp only;omega,by simp;omega⟩,((kM [] (.mk k n s l)).2,.mk k' n' s' l'),⟨rfl,rfl,pN,JM DD,by simp only;omega,by simp only;omega⟩,?_⟩;rw[ac2];exact aA
def yc:LN:=[99,97,108,108]
def gK:ax->Option ax
 |.mk k n s [a,b]=>if k=0 then some (.mk 3 0 yc [.mk k n s [a,b]])else if kR k s 2 then(match gK a,gK b with|some x,some y=>some (.mk 3 0 s [x,y])|_,_=>none)else if mO k then some (cZ (.mk k n s [a,b]))else none
 |.mk k n s l=>if k=0 then some (.mk 3 0 yc [.mk k n s l])else if mO k then some (cZ (.mk k n s l))else none
abbrev arn:AV:=.dI (.ep 214 (.aj []))
def buX(N:Nat):wy (λb=>bif b then ax×ax else ax)where
 aI b w A H:=match b,w with
  |true,(t,g)=>A=[.aj (bn t)]/\H=ay/\bA t/\bp t<N/\gK t=some g
  |false,t=>A=[.aj (bn t)]/\H=ay/\bA t/\bp t<N/\gK t=none
 v b w:=match b,w with
  |true,(t,g)=>.aj (eU g)
  |false,t=>arn
 aD b w:=ay
theorem ayt(N):(buX N).bM:=by
 intro b w b' w' A H h1 h2;cases b<;>cases b'
 .rfl
 .have⟨t,g⟩:=w';rw[yP h1.1 h2.1]at h1;have h3:=h1.2.2.2.2;rw[h2.2.2.2.2]at h3;cases h3
 .have⟨t,g⟩:=w;rw[yP h1.1 h2.1]at h1;have h3:=h1.2.2.2.2;rw[h2.2.2.2.2]at h3;cases h3
 .have⟨t,g⟩:=w;have⟨t',g'⟩:=w';have h3:=h1.2.2.2.2;rw[yP h1.1 h2.1,h2.2.2.2.2]at h3;cases h3;rfl
def Uj(N:Nat):Ev.aX:=bx 139 (Ij (buX N) (ayt N)) K18
abbrev Cu h0 h1:=∃b0:Bool,aZ b0 h0 h1
abbrev Ck h0 h1 h2 h3 h4 h5 h6 h7 h8 h9:=iA (.ah (mJ h0 h1 h2 h3 h4 h5 h6 h7 h8 h9) 49)
abbrev NV h0 h1 h2 h3 h4 h5 h6 h7:=xJ (fS h0 h1 h2 h3 h4) (bn h5) (bA h5/\bp h5<h6/\gK h5=h7)
abbrev aic h0:=cN (cZ h0).bV (cZ h0).n (cZ h0).cq (az (cZ h0).aU) (cZ h0).aU.length
abbrev Ov h0 h1:=wc 3 0 h0 (iY 0 h1 4)
theorem SD{k n s cs len N L Q}:
 fL (Uj N) L Q 139 [cN k n s cs len]=aZ (k==0) (Q (Ov (pq [99,97,108,108]) 1) (iA (dx k n s cs len))) (dc True/\aZ (kR k s len) (0<len/\og ((cs.drop 0).take 4:LV) (λbm=>λbS=>λcX=>λcA=>λb_=>1<len/\og ((cs.drop 4).take 4:LV) (λdn=>λfx=>λyZ=>λmT=>λnj=>Cu (∃w:bif true then ax×ax else ax,NV bm bS cX cA b_ w.1 N (some w.2)/\im (cN dn fx yZ mT nj)/\im (.aq cs len 4)/\im (.ao s)/\Cu (∃aH:bif true then ax×ax else ax,NV dn fx yZ mT nj aH.1 N (some aH.2)/\im (.ao s)/\Q (Ov s 2) (Ck w.2.bV w.2.n w.2.cq (az w.2.aU) w.2.aU.length aH.2.bV aH.2.n aH.2.cq (az aH.2.aU) aH.2.aU.length)) (∃aH:bif false then ax×ax else ax,NV dn fx yZ mT nj aH N none/\Q (.dI (.ep 214 (.aj []))) ay)) (∃w:bif false then ax×ax else ax,NV bm bS cX cA b_ w N none/\Q (.dI (.ep 214 (.aj []))) ay)))) (dc True/\aZ (mO k) (qL k n s cs len (λw=>Q (aic w) ay)) (Q (.dI (.ep 214 (.aj []))) ay))):=by kernel_rfl
theorem HL(n s l):gK (.mk 0 n s l)=some (.mk 3 0 yc [.mk 0 n s l]):=by
 match l with
 |[a,b]=>simp[gK]
 |[]=>rfl
 |[_]=>rfl
 |_::_::_::_=>rfl
theorem HK{k n s l}(hk:¬k=0)(h:kR k s l.length=false):gK (.mk k n s l)=if mO k then some (cZ (.mk k n s l))else none:=by
 match l with
 |[a,b]=>simp only[gK];rw[aw hk,show kR k s 2=false from h];rfl
 |[]=>simp only[gK];rw[aw hk]
 |[_]=>simp only[gK];rw[aw hk]
 |_::_::_::_=>simp only[gK];rw[aw hk]
def alg(s:LN):Option ax->Option ax->Option ax
 |some x,some y=>some (.mk 3 0 s [x,y])
 |_,_=>none
theorem Vf{k n s a b}(hk:¬k=0)(h:kR k s 2=true):gK (.mk k n s [a,b])=alg s (gK a) (gK b):=by simp only[gK];rw[aw hk,h,aP rfl];rfl
def buV:Option ax->AV
 |some g=>.aj (bn g)
 |none=>arn
theorem ali{t N}(hS:aF Z (Uj N))(ho:bA t)(hN:bp t<N+1):bC Z 139 [.aj (bn t)] ay (buV (gK t)) ay:=by
 have⟨k,n,s,l⟩:=t;by_cases hk:k=0
 .subst hk;rw[HL,buV];have h1:bC Z 139 [.aj (bn (.mk 0 n s l))] ay (.aj [J 3,J 0,.ao yc,.bK 0 0 1 1 4 true]) (aE [(0,dx 0 n s (az l) l.length)] 1):=by refine eE 34 hS SD ?_;exact al (λ_=>aA) λh=>(by cases h)
  have h2:=C_ (g:=0) h1 rfl rfl (eh _);exact kJ (ps:=[]) h2
 .by_cases hb:kR k s l.length=true
  .obtain⟨a,b,rfl⟩:=I5 (Ve hb);have ie:=hb;rw[Vf hk ie];have ha:=ho.2.2.1;have eW:=ho.2.2.2.1;simp only[bp,bz]at hN;have nk:(k==0)=false:=by simpa using hk
   cases h1:gK a with
   |none=>refine eE 34 hS SD ?_;rw[nk];have⟨k0,n0,s0,l0⟩:=a;have⟨k1,n1,s1,l1⟩:=b;exact⟨da,al (λ_=>⟨by simp,k0,n0,s0,az l0,l0.length,A9 _ _,by simp,k1,n1,s1,az l1,l1.length,yg _ _,false,.mk k0 n0 s0 l0,⟨rfl,rfl,ha,by omega,h1⟩,rfl,rfl⟩) λh=>(by rw[show kR k s [ax.mk k0 n0 s0 l0,ax.mk k1 n1 s1 l1].length=true from ie]at h;cases h)⟩
   |some x=>cases h2:gK b with
    |none=>refine eE 34 hS SD ?_;rw[nk];have⟨k0,n0,s0,l0⟩:=a;have⟨k1,n1,s1,l1⟩:=b;exact⟨da,al (λ_=>⟨by simp,k0,n0,s0,az l0,l0.length,A9 _ _,by simp,k1,n1,s1,az l1,l1.length,yg _ _,true,(.mk k0 n0 s0 l0,x),⟨rfl,rfl,ha,by simp only;omega,h1⟩,rfl,rfl,rfl,false,.mk k1 n1 s1 l1,⟨rfl,rfl,eW,by omega,h2⟩,rfl,rfl⟩) λh=>(by rw[show kR k s [ax.mk k0 n0 s0 l0,ax.mk k1 n1 s1 l1].length=true from ie]at h;cases h)⟩
    |some y=>
     have h3:bC Z 139 [.aj (bn (.mk k n s [a,b]))] ay (.aj [J 3,J 0,.ao s,.bK 0 0 2 2 4 true]) (aE [(0,.ah (az [x,y]) 49)] 1):=by refine eE 34 hS SD ?_;rw[nk];have⟨k0,n0,s0,l0⟩:=a;have⟨k1,n1,s1,l1⟩:=b;have⟨k2,n2,s2,l2⟩:=x;have⟨k3,n3,s3,l3⟩:=y;exact⟨da,al (λ_=>⟨by simp,k0,n0,s0,az l0,l0.length,A9 _ _,by simp,k1,n1,s1,az l1,l1.length,yg _ _,true,(.mk k0 n0 s0 l0,.mk k2 n2 s2 l2),⟨rfl,rfl,ha,by simp only;omega,h1⟩,rfl,rfl,rfl,true,(.mk k1 n1 s1 l1,.mk k3 n3 s3 l3),⟨rfl,rfl,eW,by simp only;omega,h2⟩,rfl,rfl,rfl⟩) λh=>(by rw[show kR k s [ax.mk k0 n0 s0 l0,ax.mk k1 n1 s1 l1].length=true from ie]at h;cases h)⟩
     have h4:=C_ (g:=0) h3 rfl (by have⟨k2,n2,s2,l2⟩:=x;have⟨k3,n3,s3,l3⟩:=y;rfl) (eh _);have h5:fO 0 (az [x,y]) (.aj [J 3,J 0,.ao s,.bK 0 0 2 2 4 true])=buV (alg s (some x) (some y)):=by have⟨k2,n2,s2,l2⟩:=x;have⟨k3,n3,s3,l3⟩:=y;rfl
     rw[h5]at h4;exact kJ (ps:=[]) h4
  .have hb:kR k s l.length=false:=by simpa using hb
   rw[HK hk hb];have nk:(k==0)=false:=by simpa using hk
   refine eE 34 hS SD ?_;dsimp only[qL,aic];rw[nk,hb];refine⟨da,da,al (λh=>?_) λh=>?_⟩
   .rw[h];refine⟨.mk k n s l,⟨rfl,rfl,ho⟩,?_⟩;generalize cZ (.mk k n s l)=c;have⟨k2,n2,s2,l2⟩:=c;exact aA
   .rw[h];exact aA
theorem awT:∀N,aF Z (Uj N):=by
 refine asy awS ?_ ?_
 .rintro b w args H hp;cases b
  .have:=hp.2.2.2.1;omega
  .have⟨t,g⟩:=w;have:=hp.2.2.2.1;omega
 .intro N hS b w args H hp;cases b
  .obtain⟨rfl,rfl,ho,hN,h⟩:=hp;have:=ali hS ho hN;rw[h]at this;exact this
  .have⟨t,g⟩:=w;obtain⟨rfl,rfl,ho,hN,h⟩:=hp;have:=ali hS ho hN;rw[h]at this;have⟨k,n,s,l⟩:=g;exact this
def Ui:Ev.aX:=Uj 3000
theorem O4:aF Z Ui:=awT 3000
def cvX:bT ax where
 aI t A H:=A=[.aj (bn t)]/\H=ay/\bA t/\bp t<3000
 v t:=.aL [.aj (eU ((gK t).getD kB)),.ai (gK t).isSome]
 aD t:=ay
theorem azp:cvX.bM:=λt t' A H h1 h2=>by rw[yP h1.1 h2.1]
def K20:Ev.aX:=bx 102 (bE cvX azp bU) Ui
def jK(t:ax):Option ax:=if eP t then(match gK t with|some g=>if cy g<=2000 then some g else none|none=>none)else none
def goX:bT ax where
 aI t A H:=A=[.aj (bn t)]/\H=ay/\bA t
 v t:=.aL [.aj (eU ((jK t).getD kB)),.ai (jK t).isSome]
 aD t:=ay
theorem aBs:goX.bM:=λt t' A H h1 h2=>by rw[yP h1.1 h2.1]
def K21:Ev.aX:=bx 63 (bE goX aBs bU) K20
def jV(c:nK):Bool:=eP c.1&&mO c.1.bV&&decide (cy c.1+cy c.2<=2000)&&
 (jK c.2).isSome&&jm ((jK c.2).getD kB) c.2&&decide (((kH c).2:Int)<=64)&&jm (kH c).1.1 c.1&&jm (kH c).1.2 c.2
def bvX:bT nK where
 aI c A H:=A=[.aj (bn c.1++bn c.2)]/\H=ay/\bA c.1/\bA c.2
 v c:=.ai (jV c)
 aD c:=ay
theorem ayw:bvX.bM:=by rintro c c' A H ⟨h1,_⟩ ⟨h2,_⟩;rw[h1]at h2;simp at h2;rw[ET h2]
def K22:Ev.aX:=bx 48 (bE bvX ayw bU) K21
def Ru:Nat->LN:=dY [(999998,[1,2,3,4])]
def aqu:Nat->LN:=dY [(999996,[2,3])]
def Qj(k n:Int)(s:LN)(cs:LV)(len:Nat):AH:=aE [(0,dx k n s cs len),(1,p6),(2,.ah [.ai false] 4)] 3
abbrev J8 h0 h1 h2 h3 h4 h5 h6 h7:=aJ [(h0,.aa h1 0),(h2,.aa h3 0),(h4,h5),(h6,h7)]
abbrev Aw h0:=J8 1 0 2 1 3 (.aa 2 0) 4 h0
theorem aJK{k n s cs len L Q}:
 fA Ui Ru L Q 102 [cN k n s cs len] ay=L (Aw (JW 138)) (jv (dx k n s cs len) Oe (u5 false)) (dg Z Ru 102 0):=by kernel_rfl
abbrev G':=aJ [(2,.aa 1 0),(3,.aa 2 0)]
theorem aJI{k n s cs len L R Q}:
 Nq Z Ui aqu L R Q 1000 102 3 (Aw (JW 138)) (KY (dg Z Ru 102 0)) (Qj k n s cs len)=Cu (∃w:bif true then ax×ax else ax,NV k n s cs len w.1 3000 (some w.2)/\R G' (jv (dx k n s cs len) (dx w.2.bV w.2.n w.2.cq (az w.2.aU) w.2.aU.length) (u5 true))) (∃w:bif false then ax×ax else ax,NV k n s cs len w 3000 none/\Q (.ep 214 (.aj [])) G' (Qj k n s cs len)):=by kernel_rfl
abbrev avD h0:=cN (Option.getD h0 kB).bV (Option.getD h0 kB).n (Option.getD h0 kB).cq (az (Option.getD h0 kB).aU) (Option.getD h0 kB).aU.length
abbrev aaj h0:=fS (Option.getD (gK h0) kB).bV (Option.getD (gK h0) kB).n (Option.getD (gK h0) kB).cq (az (Option.getD (gK h0) kB).aU) (Option.getD (gK h0) kB).aU.length
abbrev Tj h0:=(.aL [wc 0 0 h0 .aM,.ai false]:AV)
theorem Zp{k n s cs len L Q}:
 fL K20 L Q 63 [cN k n s cs len]=uW k n s cs len Q (Tj (pq [])) (∃w,xJ (fS k n s cs len) (bn w) (bA w/\bp w<3000)/\aZ (!Option.isSome (gK w)) (Q (Tj (pq [])) ay) (dc (uE (aaj w))/\Cj (decide (iy cy (aaj w)>2000)) Q (Tj (pq [])) ay (.aL [avD (gK w),.ai true]))):=by kernel_rfl
abbrev aak h0 h1 h2 h3 h4 h5 h6 h7 h8 h9(dG:nK->Prop):=∃b0:nK,xJ (mJ h0 h1 h2 h3 h4 h5 h6 h7 h8 h9) (HAppend.hAppend (bn b0.1) (bn b0.2)) (bA b0.1/\bA b0.2)/\dG b0
theorem aLz{k n s cs len k' n' s' cs' len' L Q}:
 fL K21 L Q 48 [.aj (mJ k n s cs len k' n' s' cs' len')]=uW k n s cs len Q (.ai false) (dc True/\sU (!mO k) Q ay (aak k n s cs len k' n' s' cs' len' (λw=>sU (!decide (cy w.1+cy w.2<=2000)) Q ay (qL k' n' s' cs' len' (λaH=>sU (!Option.isSome (jK aH)) Q ay (J_ (Option.getD (jK aH) kB).bV (Option.getD (jK aH) kB).n (Option.getD (jK aH) kB).cq (az (Option.getD (jK aH) kB).aU) (Option.getD (jK aH) kB).aU.length k' n' s' cs' len' (λcI=>sU (!jm cI.1 cI.2) Q ay (∃eJ,xJ (mJ k n s cs len k' n' s' cs' len') (HAppend.hAppend (bn eJ.1) (bn eJ.2)) (bA eJ.1/\bA eJ.2/\eP eJ.1=true/\eP eJ.2=true)/\TA (decide ((((kH eJ).2:Nat):Int)<=64)) (J_ (kH eJ).1.1.bV (kH eJ).1.1.n (kH eJ).1.1.cq (az (kH eJ).1.1.aU) (kH eJ).1.1.aU.length k n s cs len (λkz=>TA (jm kz.1 kz.2) (J_ (kH eJ).1.2.bV (kH eJ).1.2.n (kH eJ).1.2.cq (az (kH eJ).1.2.aU) (kH eJ).1.2.aU.length k' n' s' cs' len' (λw_5=>Q (.ai (jm w_5.1 w_5.2)) ay)) Q)) Q)))))))):=by kernel_rfl
def acT:List qT:=[.xN (.func 138) [.aa 1 0,.aa 2 0] []]
theorem azs(k n s cs len):
 Fv Z (V2 Z 0) 1 (fZ [] none 102 7 (Aw (JW 138)) (dg Z Ru 102 0)) (Qj k n s cs len)=.go (fZ acT none 102 7 (Aw (JW 138)) (KY (dg Z Ru 102 0))) (Qj k n s cs len):=by kernel_rfl
abbrev aif h0 h1 h2 h3 h4 h5:=Fv Z (V2 Z 60) 1 ⟨h0,h1,h2,[],h3,h4,none,none⟩ h5
theorem azw(o o'):
 aif 102 G' 7 acT .jR (jv o o' (u5 true))=.go ⟨102,G',7,[],[],.jR,none,none⟩ (jv o o' (u5 true)):=by kernel_rfl
theorem azv(k n s cs len):
 aif 102 G' 7 acT (.mj [(.ep 214 (.aj []),false)]) (Qj k n s cs len)=.go ⟨102,G',7,[],[],.jR,none,none⟩ (uX (dx k n s cs len) p6 (u5 false) (.ah [] 214)):=by kernel_rfl
theorem azt(k n s cs len k' n' s' cs' len' Q):
 qZ Z 102 3 Q G' (jv (dx k n s cs len) (dx k' n' s' cs' len') (u5 true))=Q (.aL [cN k' n' s' cs' len',.ai true]) (jv (dx k n s cs len) (dx k' n' s' cs' len') (u5 true)):=by kernel_rfl
theorem azu(k n s cs len Q):
 qZ Z 102 3 Q G' (uX (dx k n s cs len) p6 (u5 false) (.ah [] 214))=Q (Tj []) (jv (dx k n s cs len) p6 (u5 false)):=by kernel_rfl
theorem aJJ{t}(ho:bA t)(hN:bp t<3000):bC Z 102 [.aj (bn t)] ay (.aL [.aj (eU ((gK t).getD kB)),.ai (gK t).isSome]) ay:=by
 have⟨k,n,s,l⟩:=t;have tL:∀(v:AV) (o:aO),((∃g,gK (.mk k n s l)=some g/\v=.aL [.aj (eU g),.ai true]/\o=.ah (eU g) 49)\/(gK (.mk k n s l)=none/\v=.aL [.aj [J 0,J 0,.ao [],.aM],.ai false]/\o=p6))->
  bC Z 102 [.aj (bn (.mk k n s l))] ay v (aE [(0,dx k n s (az l) l.length),(1,o),(2,.ah [.ai (gK (.mk k n s l)).isSome] 4)] 3):=by
  intro v o hc;refine eE 7 O4 aJK ?_;refine bW.Fy iH (Fi iH 0) (λi zx H2 hi h=>?_) (azs k n s (az l) l.length) ?_
  .have:i=0:=by omega
   subst this;cases h;rfl
  refine bW.ae7 (eh _) (by show(3:Nat)<=3;omega) ?_;refine QJ iH O4 (aQ:=aqu) (n:=1000) ⟨⟨by omega,by omega,trivial⟩,trivial,trivial⟩ (by kernel_rfl) (λ_ _ h=>h) (λ_ _ _ h=>h) ?_;refine cast aJI.symm ?_;rcases hc with⟨g,hg,rfl,rfl⟩|⟨hg,rfl,rfl⟩
  .refine⟨true,(.mk k n s l,g),⟨rfl,rfl,ho,hN,hg⟩,?_⟩;refine bW.Fy iH (Fi iH 60) (λi zx H2 hi h=>?_) (azw _ _) ?_
   .have:i=0:=by omega
    subst this;cases h;rfl
   refine bW.qZ iH (rb O4) ?_;rw[hg];have e:=azt k n s (az l) l.length g.bV g.n g.cq (az g.aU) g.aU.length;refine(e _).symm▸ ?_;exact aA
  .refine⟨false,.mk k n s l,⟨rfl,rfl,ho,hN,hg⟩,?_⟩;refine bW.Fy iH (Fi iH 60) (λi zx H2 hi h=>?_) (azv k n s (az l) l.length) ?_
   .have:i=0:=by omega
    subst this;cases h;rfl
   refine bW.qZ iH (rb O4) ?_;rw[hg];refine(azu k n s (az l) l.length _).symm▸ ?_;exact aA
 cases hb:gK (.mk k n s l)with
 |some g=>have h1:=tL _ _ (.inl ⟨g,hb,rfl,rfl⟩);exact kJ (ps:=[]) h1
 |none=>have h1:=tL _ _ (.inr ⟨hb,rfl,rfl⟩);have h2:=kJ (ps:=[]) h1 (v2:=.aL [.aj [J 0,J 0,.ao [],.aM],.ai false]) (H2:=ay);exact sj h2 (.B0 (.wu (.agg S2) (.mn _))) (eh _)
theorem O5:aF Z K20:=by refine bY O4 ?_;rintro t args H ⟨rfl,rfl,ho,hN⟩;exact aJJ ho hN
theorem YI:bA kB:=⟨by simp[cV],by simp[cV],trivial⟩
theorem Jk{t}(h:bA t):bA (cZ t):=by
 unfold cZ;split
 .exact h
 .exact YI
theorem YG:∀{t g},bA t->gK t=some g->bA g
 |.mk k n s [a,b],g,ho,h=>by
  by_cases hk:k=0
  .subst hk;rw[HL]at h;cases h;exact⟨by simp[cV,yc],by simp[cV],ho,trivial⟩
  by_cases hb:kR k s 2=true
  .rw[Vf hk hb]at h;cases h1:gK a with
   |none=>rw[h1]at h;cases h
   |some x=>cases h2:gK b with
    |none=>rw[h1,h2]at h;cases h
    |some y=>rw[h1,h2]at h;cases h;exact⟨ho.1,by simp[cV],YG ho.2.2.1 h1,YG ho.2.2.2.1 h2,trivial⟩
  .rw[HK hk (by simpa using hb)]at h;split at h
   .cases h;exact Jk ho
   .cases h
 |.mk k n s [],g,ho,h=>by
  by_cases hk:k=0
  .subst hk;rw[HL]at h;cases h;exact⟨by simp[cV,yc],by simp[cV],ho,trivial⟩
  .rw[HK hk (by simp[kR])]at h;split at h
   .cases h;exact Jk ho
   .cases h
 |.mk k n s [a],g,ho,h=>by
  by_cases hk:k=0
  .subst hk;rw[HL]at h;cases h;exact⟨by simp[cV,yc],by simp[cV],ho,trivial⟩
  .rw[HK hk (by simp[kR])]at h;split at h
   .cases h;exact Jk ho
   .cases h
 |.mk k n s (a::b::c::l),g,ho,h=>by
  by_cases hk:k=0
  .subst hk;rw[HL]at h;cases h;exact⟨by simp[cV,yc],by simp[cV],ho,trivial⟩
  .rw[HK hk (by simp[kR];omega)]at h;split at h
   .cases h;exact Jk ho
   .cases h
theorem ami{F}[Inhabited F](f:ax->F)(t):iy f [J t.bV,J t.n,.ao t.cq,.aq (az t.aU) t.aU.length 4]=f t:=by cases t;exact iD _ _ _ _ _
theorem apN{t}(h:bA t):uE [J t.bV,J t.n,.ao t.cq,.aq (az t.aU) t.aU.length 4]:=by cases t;exact kY h
theorem ajA:aF Z K21:=by
 refine bY O5 ?_;rintro⟨k,n,s,l⟩ args H ⟨rfl,rfl,ho⟩;simp only[goX];have no:jK (.mk k n s l)=none->bC Z 63 [.aj (bn (.mk k n s l))] ay (.aL [.aj [J 0,J 0,.ao [],.aM],.ai false]) ay->bC Z 63 [.aj (bn (.mk k n s l))] ay (.aL [.aj (eU ((jK (.mk k n s l)).getD kB)),.ai (jK (.mk k n s l)).isSome]) ay:=by intro h h1;rw[h];exact sj h1 (.B0 (.wu (.agg S2) (.mn _))) (eh _)
 by_cases hv:eP (.mk k n s l)=true
 .have ca:=Aq hv;cases hb:gK (.mk k n s l)with
  |none=>refine no (by rw[jK,aP hv,hb]) ?_;refine eE 22 O5 Zp ?_;delta uW;rw[iD,hv];exact⟨⟨rfl,kY ho⟩,al (λh=>(by cases h)) λ_=>⟨.mk k n s l,⟨rfl,rfl,ho,by omega⟩,al (λ_=>aA) λh=>(by rw[hb]at h;cases h)⟩⟩
  |some g=>
   have MB:=YG ho hb;by_cases hs:cy g<=2000
   .have hg:jK (.mk k n s l)=some g:=by rw[jK,aP hv,hb];exact aP hs
    rw[hg];refine eE 22 O5 Zp ?_;delta uW aaj;rw[iD,hv];refine⟨⟨rfl,kY ho⟩,al (λh=>(by cases h)) λ_=>⟨.mk k n s l,⟨rfl,rfl,ho,by omega⟩,al (λh=>(by rw[hb]at h;cases h)) λ_=>?_⟩⟩;rw[hb];refine⟨⟨rfl,apN MB⟩,al (λh=>?_) λ_=>aA⟩;have h:=cP h;rw[ami]at h;simp at h;omega
   .refine no (by rw[jK,aP hv,hb];exact aw hs) ?_;refine eE 22 O5 Zp ?_;delta uW aaj;rw[iD,hv];refine⟨⟨rfl,kY ho⟩,al (λh=>(by cases h)) λ_=>⟨.mk k n s l,⟨rfl,rfl,ho,by omega⟩,al (λh=>(by rw[hb]at h;cases h)) λ_=>?_⟩⟩;rw[hb];refine⟨⟨rfl,apN MB⟩,al (λ_=>aA) λh=>?_⟩;have h:=c9 h;rw[ami]at h;simp at h;omega
 .have hv:eP (.mk k n s l)=false:=by simpa using hv
  refine no (by rw[jK,hv];rfl) ?_;refine eE 22 O5 Zp ?_;delta uW;rw[iD,hv];exact⟨⟨rfl,kY ho⟩,al (λ_=>aA) λh=>(by cases h)⟩
mutual
theorem afJ:∀(m:LP) (t:ax),bA t->bA (kM m t).1
 |m,.mk k n s l,h=>by refine⟨h.1,?_,arR _ l h.2.2⟩;rw[Yw];exact h.2.1
theorem arR:∀(m:LP) (l:dF),fe l->fe (pT m l).1
 |m,[],_=>trivial
 |m,t::l,h=>⟨afJ m t h.1,arR _ l h.2⟩
end
theorem an4{t}(ho:bA t):bA ((jK t).getD kB):=by
 unfold jK;split
 .cases hb:gK t with
  |none=>exact YI
  |some g=>
   simp only;split
   .exact YG ho hb
   .exact YI
 .exact YI
theorem an5{t}(h:(jK t).isSome=true):eP t=true:=by
 unfold jK at h;split at h
 .assumption
 .cases h
theorem ajB:aF Z K22:=by
 refine bY ajA ?_;rintro⟨⟨k,n,s,l⟩,⟨k',n',s',m⟩⟩ args H ⟨rfl,rfl,ho,pN⟩;refine eS ajA (λ_=>[]) 57 ?_;simp only[bvX];have aC:jV (.mk k n s l,.mk k' n' s' m)=false->fD (.ai (jV (.mk k n s l,.mk k' n' s' m))) ay (.ai false) ay:=λh=>by rw[h];exact aA
 rw[show bn (.mk k n s l)++bn (.mk k' n' s' m)=[J k,J n,.ao s,.aq (az l) l.length 4,J k',J n',.ao s',.aq (az m) m.length 4]from rfl];refine cast aLz.symm ?_;delta uW;rw[iD];refine⟨⟨rfl,kY ho⟩,al (λh=>aC ?_) λh1=>⟨da,al (λh=>aC ?_) λh2=>⟨(.mk k n s l,.mk k' n' s' m),⟨rfl,rfl,ho,pN⟩,al (λh=>aC ?_) λh3=>⟨.mk k' n' s' m,⟨rfl,rfl,pN⟩,al (λh=>aC ?_) λh4=>?_⟩⟩⟩⟩
 .simp[jV,show eP (.mk k n s l)=false by simpa using h]
 .simp[jV,show mO (ax.mk k n s l).bV=false by simpa[ax.bV]using h]
 .have h:decide (cy (.mk k n s l)+cy (.mk k' n' s' m)<=2000)=false:=by simpa using h
  simp[jV,c9 h]
 .simp[jV,show(jK (.mk k' n' s' m)).isSome=false by simpa using h]
 have h1:eP (.mk k n s l)=true:=by simpa using h1
 have h2:mO (ax.mk k n s l).bV=true:=by simpa[ax.bV]using h2
 have h3:decide (cy (.mk k n s l)+cy (.mk k' n' s' m)<=2000)=true:=by simpa using h3
 have h4:(jK (.mk k' n' s' m)).isSome=true:=by simpa using h4
 have hv:=an5 h4;have hg:=an4 pN;have e:jV (.mk k n s l,.mk k' n' s' m)=(jm ((jK (.mk k' n' s' m)).getD kB) (.mk k' n' s' m)&&decide (((kH (.mk k n s l,.mk k' n' s' m)).2:Int)<=64)&&jm (kH (.mk k n s l,.mk k' n' s' m)).1.1 (.mk k n s l)&&jm (kH (.mk k n s l,.mk k' n' s' m)).1.2 (.mk k' n' s' m)):=by simp only[jV,h1,h2,h3,h4,pW]
 rw[e]at aC⊢;generalize QR:(jK (.mk k' n' s' m)).getD kB=gd at hg aC⊢;have hc1:=afJ [] (.mk k n s l) ho;have pI:=afJ (kM [] (.mk k n s l)).2 (.mk k' n' s' m) pN;have⟨a,b,c,d⟩:=gd;refine⟨(.mk a b c d,.mk k' n' s' m),⟨rfl,rfl,hg,pN⟩,al (λh=>aC ?_) λh5=>?_⟩
 .simp[show jm (.mk a b c d) (.mk k' n' s' m)=false by simpa using h]
 have h5:jm (.mk a b c d) (.mk k' n' s' m)=true:=by simpa using h5
 rw[h5,pW]at aC⊢;refine⟨(.mk k n s l,.mk k' n' s' m),⟨rfl,rfl,ho,pN,h1,hv⟩,al (λh6=>?_) λh=>aC ?_⟩
 .rw[h6,pW]at aC⊢;refine⟨((kH (.mk k n s l,.mk k' n' s' m)).1.1,.mk k n s l),⟨by rw[<-py];rfl,rfl,hc1,ho⟩,al (λh7=>?_) λh=>aC ?_⟩
  .rw[h7,pW];exact⟨((kH (.mk k n s l,.mk k' n' s' m)).1.2,.mk k' n' s' m),⟨by rw[<-py];rfl,rfl,pI,pN⟩,rfl,rfl⟩
  .rw[h,tZ]
 .rw[h,tZ,tZ]
structure eK where
 id:Int
 c:nK
structure cB where
 gD:LN
 ar:Int
 A2:Bool
 bk:List eK
structure Db where
 Ho:Int
 dT:List cB
def pA(s:eK):LV:=J s.id::(bn s.c.1++bn s.c.2)
def ew:List eK->LV
 |[]=>[]
 |s::l=>pA s++ew l
def tn(p:cB):LV:=[.ao p.gD,J p.ar,.ai p.A2,.aq (ew p.bk) p.bk.length 9]
def cR:List cB->LV
 |[]=>[]
 |s::l=>tn s++cR l
def iU(d:Db):LV:=[J d.Ho,.aq (cR d.dT) d.dT.length 4]
theorem P4(s):(pA s).length=9:=by simp[pA,pz]
theorem P3{s s'}(h:pA s=pA s'):s=s':=by have⟨i,c⟩:=s;have⟨i',c'⟩:=s';simp only[pA,fG,AV.bD.injEq,true_and]at h;rw[h.1,ET h.2]
theorem amY:∀{l m},l.length=m.length->ew l=ew m->l=m
 |[],[],_,_=>rfl
 |[],_::_,h,_=>by simp at h
 |_::_,[],h,_=>by simp at h
 |t::l,u::m,hl,h=>by have h2:=lO h (by rw[P4,P4]);rw[P3 h2.1,amY (by simpa using hl) h2.2]
theorem amT{s s'}(h:tn s=tn s'):s=s':=by have⟨a,b,c,d⟩:=s;have⟨a',b',c',d'⟩:=s';simp only[tn,fG,AV.bD.injEq,AV.ao.injEq,AV.ai.injEq,AV.aq.injEq,true_and,and_true]at h;obtain⟨rfl,rfl,rfl,h1,h2⟩:=h;rw[amY h2 h1]
theorem Lu:∀{l m},l.length=m.length->cR l=cR m->l=m
 |[],[],_,_=>rfl
 |[],_::_,h,_=>by simp at h
 |_::_,[],h,_=>by simp at h
 |t::l,u::m,hl,h=>by have h2:=lO h (by simp[tn]);rw[amT h2.1,Lu (by simpa using hl) h2.2]
theorem ac0{s s'}(h:iU s=iU s'):s=s':=by have⟨a,b⟩:=s;have⟨a',b'⟩:=s';simp only[iU,fG,AV.bD.injEq,AV.aq.injEq,true_and,and_true]at h;obtain⟨rfl,h1,h2⟩:=h;rw[Lu h2 h1]
theorem agw{F:Type}{enc:F->LV}{P7:List F->LV}{sz}(hn:P7 []=[])(hc:∀a l,P7 (a::l)=enc a++P7 l)(ca:∀a,(enc a).length=sz):∀{l i} (h:i<l.length),((P7 l).drop (i*sz)).take sz=enc l[i]
 |[],i,h=>by simp at h
 |a::l,0,h=>by rw[qel,xw,hc];exact xA (ca a)
 |a::l,i+1,h=>by
  have hl:i<l.length:=by simpa using h
  have:=agw hn hc ca hl;rw[hc,DS,<-this];have e:(i+1)*sz=(enc a).length+i*sz:=by rw[ca,yW,Nat.one_mul,Nat.add_comm]
  rw[e,Ni]
theorem yf{l i}(h:i<l.length):((cR l).drop (i*4)).take 4=tn l[i]:=agw (P7:=cR) rfl (λ_ _=>rfl) (λ_=>rfl) h
theorem H_{l i}(h:i<l.length):((ew l).drop (i*9)).take 9=pA l[i]:=agw rfl (λ_ _=>rfl) P4 h
def pa(c:nK):Prop:=bA c.1/\bA c.2
def Jj(p:cB):Prop:=cV p.gD.length/\cV p.bk.length/\∀s∈p.bk,pa s.c
def mD(d:Db):Prop:=cV d.dT.length/\∀p∈d.dT,Jj p
def HR(a b:LN):Int:=if ki a b then-1 else if !(ki a b||bO a b)then 1 else 0
def aq7:LV->Option (Prop×AV)
 |[.ao s]=>some (True,.ai false)
 |_=>none
def K23:Ev.aX:=eD 109 (fj aq7) K22
def al3:LV->Option (Prop×AV)
 |[.ao a,.ao b]=>some (True,J (HR a b))
 |_=>none
def K24:Ev.aX:=eD 73 (fj al3) K23
def orX:bT (Int×Int)where
 aI w A H:=A=[.bK 0 0 2 2 1 true]/\H=aE [(0,.ah [J w.1,J w.2] 3)] 1
 v w:=J (if w.1=0 then w.2 else w.1)
 aD w:=aE [(0,.ah [J w.1,J w.2] 3)] 1
theorem aFd:orX.bM:=by rintro⟨a,b⟩ ⟨a',b'⟩ A H ⟨_,h1⟩ ⟨_,h2⟩;rw[h1]at h2;have:=congrArg (λH=>AH.aR H 0) h2;simp only[eg,cH,if_true,lN,aO.ah.injEq,fG,AV.bD.injEq,true_and,and_true]at this;rw[this.1,this.2]
def K25:Ev.aX:=bx 72 (bE orX aFd bU) K24
def YL(n:LN)(a:Int)(n':LN)(a':Int):Int:=if HR n n'=0 then wF a a' else HR n n'
def arH:LV->Option (Prop×AV)
 |[.aj [.ao n,.bD .i64 a,.ai d,.aq cs len 9],.aj [.ao n',.bD .i64 a',.ai d',.aq cs' len' 9]]=>some (True,J (YL n a n' a'))
 |_=>none
def K26:Ev.aX:=eD 47 (fj arH) K25
def xm(s:LN)(a:Int):Bool:=decide ((s.length:Int)<=100)&&decide (a>=0)&&decide (a<=8)
def Yn:LV->Option (Prop×AV)
 |[.ao s,.bD .i64 a]=>some (True,.ai (xm s a))
 |_=>none
def Uk:Ev.aX:=eD 46 (fj Yn) K26
def BY:Int->List cB->Int
 |n,[]=>n
 |n,p::l=>BY (wI (n+(p.bk.length:Int))) l
def toX:bT Db where
 aI d A H:=A=[.aj (iU d)]/\H=ay/\mD d
 v d:=J (BY 0 d.dT)
 aD d:=ay
theorem HT{d d'}{A:LV}(h1:A=[.aj (iU d)])(h2:A=[.aj (iU d')]):d=d':=by rw[h1]at h2;simp at h2;exact ac0 h2
theorem aNm:toX.bM:=λt t' A H h1 h2=>by rw[HT h1.1 h2.1]
def O6:Ev.aX:=bx 45 (bE toX aNm bU) Uk
def uQ(next:Int)(p:cB)(seen:LI)(s:eK):Bool:= !decide (s.id<1)&& !decide (s.id>=next)&& !decide (s.id∈seen)&&jV s.c&&bO s.c.1.cq p.gD&&((s.c.1.aU.length:Int)==p.ar)
def sf(next:Int)(p:cB):LI->List eK->Option LI
 |seen,[]=>some seen
 |seen,s::l=>if uQ next p seen s then sf next p (seen++[s.id]) l else none
def tX:Option cB->cB->Bool
 |none,_=>true
 |some q,p=> !decide (YL q.gD q.ar p.gD p.ar>=0)
def pc(next:Int):Option cB->LI->List cB->Bool
 |_,_,[]=>true
 |q,seen,p::l=>if xm p.gD p.ar&&tX q p then(match sf next p seen p.bk with|some j5=>pc next (some p) j5 l|none=>false)else false
def iR(d:Db):Bool:= !decide (d.Ho<1)&& !decide (d.Ho>4294967296)&& !decide ((d.dT.length:Int)>500)&& !decide (BY 0 d.dT>500)&&pc d.Ho none [] d.dT
def vdX:bT Db where
 aI d A H:=A=[.aj (iU d)]/\H=ay/\mD d
 v d:=.ai (iR d)
 aD d:=ay
theorem aN4:vdX.bM:=λt t' A H h1 h2=>by rw[HT h1.1 h2.1]
def K29:Ev.aX:=bx 22 (bE vdX aN4 bU) O6
def aqH:Nat->LN:=dY [(3,[3,7,8,9])]
def afg:Nat->LN:=dY [(6,[1,3,4,30,31,32]),(11,[1,3,4,6,30,31,32,59,60,61])]
def eM(next:Int)(cs:LV)(len:Nat):aO:=.ah [J next,.aq cs len 4] 24
def nr(nm:LN)(ar:Int)(dy:Bool)(cs:LV)(len:Nat):aO:=.ah [.ao nm,J ar,.ai dy,.aq cs len 9] 34
abbrev t22(cs:LV)(len:Nat)(i:Int):Tr AV:=aJ [(1,.aa 0 0),(3,.aS 1),(4,.ai true),(30,.aq cs len 4),(31,J (Int.ofNat len)),(32,J i)]
abbrev agZ(cs:LV)(len:Nat)(i:Int)(ss:LV)(sl:Nat)(j:Int):Tr AV:=aJ [(1,.aa 0 0),(3,.aS 1),(4,.ai true),(6,.aa 2 0),(30,.aq cs len 4),(31,J (Int.ofNat len)),(32,J i),(59,.aq ss sl 9),(60,J (Int.ofNat sl)),(61,J j)]
theorem aJQ{s L Q}:
 fL K22 L Q 109 [.ao s]=Q (.ai (!bO s s)) ay:=by kernel_rfl
theorem aMj{a b L Q}:
 fL K23 L Q 73 [.ao a,.ao b]=(dc True/\dc True/\aib (ki a b) Q (-1) ay (!(ki a b||bO a b)) 1):=by kernel_rfl
theorem aMi{a b L Q}:
 eG K24 [1000000] L Q 72 [iY 0 2 1] (iA (Cr a b 3))=aib (a !=0) Q a (iA (Cr a b 3)) (b !=0) b:=by kernel_rfl
abbrev y' h0 h1 h2 h3 h4:=([.ao h0,J h1,.ai h2,.aq h3 h4 9]:LV)
theorem aLy{n a d cs len n' a' d' cs' len' L Q}:
 fL K25 L Q 47 [.aj (y' n a d cs len),.aj (y' n' a' d' cs' len')]=(dc True/\im (J a')/\im (J a)/\dc True/\(∃w:Int×Int,xK [iY 0 2 1] (iA (Cr (HR n n') (wF a a') 3)=iA (Cr w.1 w.2 3)) (Q (J (if w.1=0 then w.2 else w.1)) ay))):=by kernel_rfl
theorem aLx{s a L Q}:
 fL K26 L Q 46 [.ao s,J a]=Tx (Int.ofNat s.length) a 0 Q (decide (a<=8)):=by kernel_rfl
abbrev nF h0 h1 h2:=(.aj [J h0,.aq h1 h2 4]:AV)
theorem aLv{next cs len L Q}:
 fA Uk aqH L Q 45 [nF next cs len] ay=L (aJ (NQ 3 (J 0) 7 cs len 4 8 9 (J 0))) ay (aB Z 45 0):=by kernel_rfl
abbrev S8 h0 h1(h2:LV)(h3:LN->Int->Bool->LV->Nat->Prop):=ia h0 h1 (λb0=>∃b1:LN,∃b2:Int,∃b3:Bool,∃b4:LV,∃b5:Nat,((h2.drop (b0*4)).take 4:LV)=y' b1 b2 b3 b4 b5/\h3 b1 b2 b3 b4 b5)
theorem aLw{cs len n i L Q}:
 ju Uk aqH L Q 45 0 (NQ 3 (J n) 7 cs len 4 8 9 (J i)) ay=Co i len (S8 i len cs (λs=>λbm=>λb=>λcA=>λb_=>L (aJ (NQ 3 (J (wI (n+Int.ofNat b_))) 7 cs len 4 8 9 (cu i))) ay (aB Z 45 0))) (Q (J n) ay):=by kernel_rfl
abbrev av0 h0 h1 h2:=aJ [(1,.aa 0 0),(3,.aS 1),(4,.ai true),(30,.aq h0 h1 4),(31,J6 h1),(32,h2)]
abbrev Tw h0 h1 h2 h3 h4:=xJ [J h0,.aq h1 h2 4] (iU h3) h4
theorem aKX{next cs len L Q}:
 fA O6 afg L Q 22 [nF next cs len] ay=TD (decide (next<1)) (Q (.ai false) ay) (decide (next>4294967296)) (decide (Int.ofNat len>500)) (∃w,Tw next cs len w (mD w)/\Cm (decide (BY 0 w.dT>500)) Q L (av0 cs len (J 0)) (j_ (eM next cs len) (eu [] 0)) 22 0):=by kernel_rfl
abbrev ahy h0 h1 h2 h3 h4 h5 h6 h7 h8 h9 dG eB iV kc:=gT h0 h1 h2 (aJ [(1,.aa 0 0),(3,.aS 1),(4,.ai true),(6,.aa 2 0),(30,.aq h3 h4 4),(31,J6 h4),(32,J h5),(59,.aq h6 h7 9),(60,J6 h7),(61,h8)]) (jv (eM h9 h3 h4) dG (nr eB iV kc h6 h7)) 22 1
theorem aKZ{next cs len i seen L Q}:
 iL O6 afg L Q 22 0 (t22 cs len i) 0 (j_ (eM next cs len) (qu seen))=Co i len (S8 i len cs (λs=>λn=>λb=>λcA=>λb_=>dc True/\sU (!xm s n) Q ay (ahy (decide (i>0)) (S8 (wI (i-1)) len cs (λcX=>λbm=>λlH=>λmT=>λnj=>dc True/\ahy (decide (YL cX bm s n>=0)) (Q (.ai false) ay) L cs len i cA b_ (J 0) next (qu seen) s n b)) L cs len i cA b_ (J 0) next (qu seen) s n b))) (Q (.ai true) ay):=by kernel_rfl
abbrev AG h0 h1 h2 h3 h4 h5 h6 h7 h8 h9 dG:=([J h0,J h1,J h2,.ao h3,.aq h4 h5 4,J h6,J h7,.ao h8,.aq h9 dG 4]:LV)
theorem aKW{next cs len i seen nm ar dy ss sl j L Q}:
 iL O6 afg L Q 22 0 (agZ cs len i ss sl j) 1 (jv (eM next cs len) (qu seen) (nr nm ar dy ss sl))=gT (decide (j<Int.ofNat sl)) (ia j sl (λcv=>∃n,∃bm,∃bS,∃s,∃cA,∃b_,∃dn,∃fx,∃cX,∃mT,∃nj,((ss.drop (cv*9)).take 9:LV)=AG n bm bS s cA b_ dn fx cX mT nj/\xL 2 (mV seen) n (λrD=>λb=>rP 2 (bJ J 0 (mV seen)) (mV seen).length n (cu rD) (λbF=>λc'=>AD (decide (n<1)) Q (decide (n>=next)) (∃zW,Ci 3 bF n (J zW) (λlH=>sU (decide (zW>1)) Q ay (aak bm bS s cA b_ dn fx cX mT nj (λw=>AD (!jV w) Q (!bO s nm) (ahy (Int.ofNat b_ !=ar) (Q (.ai false) ay) L cs len i ss sl (cu j) next (eu bF c') nm ar dy))))))))) L (av0 cs len (cu i)) (j_ (eM next cs len) (qu seen)) 22 0:=by kernel_rfl
theorem ang:∀s,bO s s=true
 |[]=>rfl
 |a::l=>by simp only[bO,j4,cond_true];exact ang l
theorem ajC:aF Z K23:=by
 refine jl ajB λargs q v h hq=>?_
 unfold aq7 at h;split at h<;>cases h;refine eE 6 ajB aJQ ?_;rw[ang];exact aA
theorem ajD:aF Z K24:=by
 refine jl ajC λargs q v h hq=>?_
 unfold al3 at h;split at h<;>cases h;rename_i a b;refine eE 20 ajC aMj ?_;rw[HR];generalize ki a b=x;generalize bO a b=y;cases x<;>cases y<;>exact⟨⟨rfl,trivial⟩,⟨rfl,trivial⟩,rfl,rfl⟩
theorem ajE:aF Z K25:=by
 refine bY ajD ?_;rintro⟨a,b⟩ args H ⟨rfl,rfl⟩;refine eE 18 ajD aMi ?_;simp only[orX];refine al (λh=>?_) λh=>al (λh2=>?_) λh2=>?_
 .have h:¬a=0:=by simpa using h
  rw[aw h];exact aA
 .have h:a=0:=by simpa using h
  rw[aP h];exact aA
 .have h:a=0:=by simpa using h
  have h2:b=0:=by simpa using h2
  rw[aP h,h2,h];exact aA
theorem ajF:aF Z K26:=by
 refine jl ajE λargs q v h hq=>?_
 unfold arH at h;split at h<;>cases h;rename_i n a d cs len n' a' d' cs' len';refine eE 17 ajE aLy ?_;exact⟨da,rfl,rfl,da,(HR n n',wF a a'),aA,rfl,rfl⟩
theorem abi:aF Z Uk:=by
 refine jl ajF λargs q v h hq=>?_
 unfold Yn at h;split at h<;>cases h;rename_i s a;refine eE 16 ajF aLx ?_;delta Tx;rw[xm,jr];generalize decide ((s.length:Int)<=100)=x;generalize decide (a>=0)=y;cases x<;>cases y<;>exact⟨rfl,rfl⟩
theorem aLu{l aC}(hl:cV l.length):∀p:Nat×Int,(p.1<=l.length/\BY p.2 (l.drop p.1)=aC)->
 ba Z 45 20 0 (J aC) ay (aJ [(3,J p.2),(7,.aq (cR l) l.length 4),(8,J (Int.ofNat l.length)),(9,J (p.1:Int))]) ay (aB Z 45 0):=by
 refine dj (λp=>l.length-p.1) _ _ _ _ ?_;rintro⟨i,n⟩ ⟨hi,hf⟩ ih;refine hE abi aLw ?_;delta cu;refine al (λae=>?_) λaY=>?_
 .have ae:i<l.length:=by simpa using ae
  rw[fu ae,BY]at hf;refine⟨i,rfl,ae,l[i].gD,l[i].ar,l[i].A2,ew l[i].bk,l[i].bk.length,yf ae,?_⟩;rw[lB hl ae];exact ih (i+1,_) ⟨ae,hf⟩ (by simp only;omega)
 .have aY:l.length<=i:=by simpa using aY
  rw[gf aY,BY]at hf;subst hf;exact aA
theorem Ul:aF Z O6:=by refine bY abi ?_;rintro⟨next,l⟩ args H ⟨rfl,rfl,ho⟩;refine eE 20 abi aLv ?_;exact aLu ho.1 (0,0) ⟨eh _,rfl⟩
def Nf(l:List cB):Nat->Option cB
 |0=>none
 |k+1=>l[k]?
def akK(next:Int)(p:cB)(rest:List cB):Option LI->Bool
 |some seen=>pc next (some p) seen rest
 |none=>false
theorem aFy(next q seen p l):pc next q seen (p::l)=(xm p.gD p.ar&&tX q p&&akK next p l (sf next p seen p.bk)):=by
 rw[pc];cases xm p.gD p.ar&&tX q p
 .rfl
 .simp;cases sf next p seen p.bk<;>rfl
theorem aqq(seen n):lu Z 2 3 (bJ J 0 (mV seen)) (J n)=some (J (if n∈seen then 1 else 0),if n∈seen then true else false):=by
 rw[nq J iF,XX];by_cases h:n∈seen
 .simp[h]
 .simp[h,JR]
theorem aKY{next l}{i:Nat}{p rest aC}(ho:Jj p)(after:∀seen,pc next (some p) seen rest=aC->ba Z 22 115 0 (.ai aC) ay (t22 (cR l) l.length (wI ((i:Int)+1))) (aE [(0,eM next (cR l) l.length),(1,qu seen)] 2) (aB Z 22 0)):
 ∀q:Nat×LI,(q.1<=p.bk.length/\akK next p rest (sf next p q.2 (p.bk.drop q.1))=aC)->
 ba Z 22 115 0 (.ai aC) ay (agZ (cR l) l.length (i:Int) (ew p.bk) p.bk.length (q.1:Int)) (aE [(0,eM next (cR l) l.length),(1,qu q.2),(2,nr p.gD p.ar p.A2 (ew p.bk) p.bk.length)] 3) (aB Z 22 1):=by
 refine dj (λq=>p.bk.length-q.1) _ _ _ _ ?_;rintro⟨j,seen⟩ ⟨hj,hf⟩ ih;refine hE Ul aKW ?_;dsimp only[xL,cu];refine al (λae=>?_) λaY=>?_
 .have ae:j<p.bk.length:=by simpa using ae
  have hc:=ho.2.2 _ (k7 ae);rw[fu ae,sf]at hf;generalize hg:p.bk[j]=s at hf hc;have bP:=H_ ae;rw[hg]at bP;have⟨id,⟨k,n,nm,ts⟩,⟨k',n',pR,oF⟩⟩:=s;refine⟨j,rfl,ae,id,k,n,nm,az ts,ts.length,k',n',pR,az oF,oF.length,bP,_,_,aqq seen id,?_⟩;have GO:uQ next p seen ⟨id,(.mk k n nm ts,.mk k' n' pR oF)⟩=false->fD (.ai aC) ay (.ai false) ay:=by intro h;rw[h]at hf;simp at hf;subst hf;exact aA
  by_cases fX:id∈seen
  .rw[aP fX,show wI (1+1)=2 from by rw[cb];rfl];refine⟨_,_,ph J iF,al (λh=>GO ?_) λ_=>al (λh=>GO ?_) λ_=>⟨2,true,by rw[nq J iF,I8];simp,al (λ_=>GO ?_) λh=>(by cases h)⟩⟩;all_goals simp[uQ,fX]
  .rw[aw fX,show wI (0+1)=1 from by rw[cb];rfl];refine⟨_,_,ph J iF,?_⟩;rw[ahi fX];refine al (λh=>GO ?_) λh1=>al (λh=>GO ?_) λh2=>⟨1,true,by rw[aqq];simp,al (λh=>(by cases h)) λ_=>⟨(.mk k n nm ts,.mk k' n' pR oF),⟨rfl,rfl,hc.1,hc.2⟩,al (λh=>GO ?_) λh3=>al (λh=>GO ?_) λh4=>al (λh=>GO ?_) λh5=>?_⟩⟩
   .simp[uQ,cP h]
   .simp[uQ,cP h]
   .simp[uQ,show jV (.mk k n nm ts,.mk k' n' pR oF)=false by simpa using h]
   .simp[uQ,ax.cq,show bO nm p.gD=false by simpa using h]
   .have h:¬(ts.length:Int)=p.ar:=by simpa using h
    simp[uQ,ax.aU,h]
   .have h1:=c9 h1;have h2:=c9 h2;have h3:jV (.mk k n nm ts,.mk k' n' pR oF)=true:=by simpa using h3
    have h4:bO nm p.gD=true:=by simpa using h4
    have h5:(ts.length:Int)=p.ar:=by simpa using h5
    have fw:uQ next p seen ⟨id,(.mk k n nm ts,.mk k' n' pR oF)⟩=true:=by simp only[uQ,ax.cq,ax.aU,h3,h4];simp[fX,h5];omega
    rw[fw]at hf;simp at hf;rw[lB ho.2.1 ae];exact ih (j+1,seen++[id]) ⟨ae,hf⟩ (by simp only;omega)
 .have aY:p.bk.length<=j:=by simpa using aY
  rw[gf aY,sf]at hf;exact after seen hf
theorem aKV{next l aC}(hl:cV l.length)(ho:∀p∈l,Jj p):
 ∀q:Nat×LI,(q.1<=l.length/\pc next (Nf l q.1) q.2 (l.drop q.1)=aC)->
 ba Z 22 115 0 (.ai aC) ay (t22 (cR l) l.length (q.1:Int)) (aE [(0,eM next (cR l) l.length),(1,qu q.2)] 2) (aB Z 22 0):=by
 refine dj (λq=>l.length-q.1) _ _ _ _ ?_;rintro⟨i,seen⟩ ⟨hi,hf⟩ ih;refine hE Ul aKZ ?_;refine al (λae=>?_) λaY=>?_
 .have ae:i<l.length:=by simpa using ae
  rw[fu ae,aFy]at hf;have hp:=ho _ (k7 ae);have zP:tX (Nf l i) l[i]=true->xm l[i].gD l[i].ar=true->ba Z 22 115 0 (.ai aC) ay (agZ (cR l) l.length (i:Int) (ew l[i].bk) l[i].bk.length ((0:Nat):Int)) (aE [(0,eM next (cR l) l.length),(1,qu seen),(2,nr l[i].gD l[i].ar l[i].A2 (ew l[i].bk) l[i].bk.length)] 3) (aB Z 22 1):=by intro h1 h2;rw[h1,h2,pW,pW]at hf;refine aKY hp (λj5 h=>?_) (0,seen) ⟨eh _,hf⟩;rw[lB hl ae];refine ih (i+1,j5) ⟨ae,?_⟩ (by simp only;omega);simp only[Nf,gg ae];exact h
  refine⟨i,rfl,ae,l[i].gD,l[i].ar,l[i].A2,ew l[i].bk,l[i].bk.length,yf ae,da,al (λh=>?_) λh1=>al (λh2=>?_) λh2=>?_⟩
  .have h:xm l[i].gD l[i].ar=false:=by simpa using h
   rw[h,tZ,tZ]at hf;subst hf;exact aA
  .have h1:xm l[i].gD l[i].ar=true:=by simpa using h1
   have h2:=cP h2;have sx:i-1<l.length:=by omega
   have wX:Nf l i=some l[i-1]:=by obtain⟨k,rfl⟩:∃k,i=k+1:=⟨i-1,by omega⟩;simp only[Nf,Nat.add_sub_cancel];rw[gg (by omega)]
   refine⟨i-1,by unfold cV at hl;rw[cb];omega,sx,l[i-1].gD,l[i-1].ar,l[i-1].A2,ew l[i-1].bk,l[i-1].bk.length,yf sx,da,al (λh=>?_) λh=>?_⟩
   .have hb:tX (Nf l i) l[i]=false:=by rw[wX,tX,h];rfl
    rw[hb,DY,tZ]at hf;subst hf;exact aA
   .exact zP (by rw[wX,tX,h];rfl) h1
  .have h1:xm l[i].gD l[i].ar=true:=by simpa using h1
   have h2:=c9 h2;have Dq:i=0:=by omega
   subst Dq;exact zP rfl h1
 .have aY:l.length<=i:=by simpa using aY
  rw[gf aY,pc]at hf;subst hf;exact aA
theorem ajG:aF Z K29:=by
 refine bY Ul ?_;rintro⟨next,l⟩ args H ⟨rfl,rfl,ho⟩;refine eE 115 Ul aKX ?_;simp only[vdX,iR,iU];generalize hv:pc next none [] l=aC
 refine al (λh=>?_) λh1=>al (λh=>?_) λh2=>al (λh=>?_) λh3=>⟨⟨next,l⟩,⟨rfl,rfl,ho⟩,al (λh=>?_) λh4=>?_⟩
 .rw[h];exact⟨by simp,rfl⟩
 .rw[h];exact⟨by simp,rfl⟩
 .rw[show decide ((l.length:Int)>500)=true from h];exact⟨by simp,rfl⟩
 .rw[h];exact⟨by simp,rfl⟩
 .rw[h1,h2,show decide ((l.length:Int)>500)=false from h3,h4];simp;exact aKV ho.1 ho.2 (0,[]) ⟨eh _,hv⟩
structure dq where
 nv:Int
 na:Int
 tr:Bool
 an:List (List bN)
def dR:List bN->LV
 |[]=>[]
 |f::l=>iE f++dR l
def A8:List bN->AV
 |[]=>.aM
 |f::l=>.aq (dR (f::l)) (l.length+1) 5
def jW(l:List (List bN)):LV:=l.map A8
def fp(s:dq)(i:Nat):aO:=.ah [J s.nv,J s.na,.ai s.tr,.ad i s.an.length 1] 120
def fc(s:dq):aO:=.au (jW s.an) 84
def hT(s:dq):AH:=aE [(0,fp s 1),(1,fc s)] 2
theorem VK:∀{l m},l.length=m.length->dR l=dR m->l=m
 |[],[],_,_=>rfl
 |[],_::_,h,_=>by simp at h
 |_::_,[],h,_=>by simp at h
 |t::l,u::m,hl,h=>by have h2:=lO h (by simp[iE]);rw[A5 _ _ h2.1,VK (by simpa using hl) h2.2]
theorem aAq:∀{l m},A8 l=A8 m->l=m
 |[],[],_=>rfl
 |[],_::_,h=>by simp[A8]at h
 |_::_,[],h=>by simp[A8]at h
 |t::l,u::m,h=>by simp only[A8,AV.aq.injEq,and_true]at h;exact VK (by simp;omega) h.1
theorem acW:∀{l m},jW l=jW m->l=m
 |[],[],_=>rfl
 |[],_::_,h=>by simp[jW]at h
 |_::_,[],h=>by simp[jW]at h
 |t::l,u::m,h=>by simp only[jW,e9,fG]at h;rw[aAq h.1,acW h.2]
theorem Ma{s s'}(h:hT s=hT s'):s=s':=by have h1:some (fp s 1)=some (fp s' 1):=congrArg (λH=>AH.aR H 0) h;have h2:some (fc s)=some (fc s'):=congrArg (λH=>AH.aR H 1) h;simp only[fp,lN,aO.ah.injEq,fG,AV.bD.injEq,AV.ai.injEq,true_and,and_true]at h1;simp only[fc,lN,aO.au.injEq,and_true]at h2;have⟨a,b,c,d⟩:=s;have⟨a',b',c',d'⟩:=s';have⟨e1,e2,e3,_⟩:=h1;have e4:=acW h2;simp only at e1 e2 e3 e4;rw[e1,e2,e3,e4]
def Zv(n:Int):Int:=wI (n+1)
def bQ(n:Int):Int:=wI (wI (n+1)-1)
def dq.nx(s:dq):dq:=⟨Zv s.nv,s.na,s.tr,s.an⟩
def dq.px(s:dq):dq:=⟨s.nv,Zv s.na,s.tr,s.an⟩
def auU:bT dq where
 aI s A H:=A=[.aa 0 0]/\H=hT s
 v s:=J (bQ s.nv)
 aD s:=hT s.nx
theorem aNV:auU.bM:=λs s' A H h1 h2=>by rw[Ma (h1.2.symm.trans h2.2)]
def K30:Ev.aX:=bx 80 (bE auU aNV bU) K29
def prX:bT dq where
 aI s A H:=A=[.aa 0 0]/\H=hT s
 v s:=J (bQ s.na)
 aD s:=hT s.px
theorem aFv:prX.bM:=λs s' A H h1 h2=>by rw[Ma (h1.2.symm.trans h2.2)]
def K31:Ev.aX:=bx 147 (bE prX aFv bU) K30
def arT:LV->Option (Prop×AV)
 |[.bD .i64 k,.bD .i64 v]=>some (True,.aj [J k,.ao [],J 0,J 0,.aq [] 0 4,J v])
 |_=>none
def Kq:Ev.aX:=eD 81 (fj arT) K31
def ra(p:gZ)(args:dF):rZ:=⟨1,p,args.map cZ,0⟩
def caS:LV->AH->Option Sp
 |[.aj [.ao nm,.bD .i64 ar,.bD .i64 an],.aq cs len 4],H=>bE {aI:=λl A H'=>A=[.aj [.ao nm,.bD .i64 ar,.bD .i64 an],.aq (az l) l.length 4]/\H'=ay/\fe l/\l.length<4000000,v:=λl=>.aj [J 1,.ao nm,J ar,J an,.aq (az (l.map cZ)) (l.map cZ).length 4,J 0],aD:=λl=>ay} (by rintro l l' A H' ⟨h1,_⟩ ⟨h2,_⟩;rw[h1]at h2;simp only[fG,AV.aq.injEq,true_and,and_true]at h2;rw[vn h2.2 h2.1]) bU [.aj [.ao nm,.bD .i64 ar,.bD .i64 an],.aq cs len 4] H
 |[.aj [.ao nm,.bD .i64 ar,.bD .i64 an],.aM],H=>some (.A1 (H=ay,.aj [J 1,.ao nm,J ar,J an,.aq [] 0 4,J 0],ay))
 |[.aj [.ao nm,.bD .i64 ar,.bD .i64 an],.bK 0 0 2 2 4 true],H=>bE {aI:=λw A H'=>A=[.aj [.ao nm,.bD .i64 ar,.bD .i64 an],.bK 0 0 2 2 4 true]/\H'=aE [(0,.ah (bn w.1++bn w.2) 49)] 1/\bA w.1/\bA w.2,v:=λ(w:ax×ax)=>.aj [J 1,.ao nm,J ar,J an,.aq (eU (cZ w.1)++eU (cZ w.2)) 2 4,J 0],aD:=λw=>aE [(0,.ah (eU w.1++eU w.2) 49)] 1} (by rintro w w' A H' ⟨_,h1,_⟩ ⟨_,h2,_⟩;rw[h1]at h2;have:=congrArg (λH=>AH.aR H 0) h2;simp only[eg,cH,if_true,lN,aO.ah.injEq,and_true]at this;rw[ET this]) bU [.aj [.ao nm,.bD .i64 ar,.bD .i64 an],.bK 0 0 2 2 4 true] H
 |_,_=>none
def O8:Ev.aX:=bx 116 caS Kq
def nB(n:Int):ax:=.mk 0 (At n) [] []
def sS(t:ax):dF:=(h_ t).map nB
def au6:wy (λ_=>ax)where
 aI b t A H:=A=[.aj (bn t)]/\H=ay/\bA t/\(h_ t).isEmpty= !b
 v b t:=match b with
  |true=>.ad 0 (h_ t).length 4
  |false=>.aM
 aD b t:=match b with
  |true=>aE [(0,.au (az (sS t)) 49)] 1
  |false=>ay
theorem aOk:au6.bM:=by
 intro b t b' t' A H h1 h2;have h3:=yP h1.1 h2.1;subst h3;have h4:b=b':=by have:=h1.2.2.2.symm.trans h2.2.2.2;cases b<;>cases b'<;>first|rfl|cases this
 subst h4;rfl
def K34:Ev.aX:=bx 65 (Ij au6 aOk) O8
def Vd(s:LN)(len:Nat):Bool:=
 if bO s []then true
 else if bO s [99,97,108,108]then decide ((len:Int)<1)||decide ((len:Int)>8)
 else if bO s [99,97,116,99,104]||bO s [102,105,110,100,97,108,108]||bO s [98,97,103,111,102]||bO s [115,101,116,111,102]then(len:Int)!=3
 else s.head? !=some 36
def alk:LV->Option (Prop×AV)
 |[.aj [.bD .i64 k,.bD .i64 n,.ao s,.aq cs len 4]]=>some (True,.ai (Vd s len))
 |_=>none
def K35:Ev.aX:=eD 117 (fj alk) K34
def iQ(a:ax):ax:=match jK a with
 |some g=>g
 |none=>.mk 3 0 yc [a]
def inX:bT ax where
 aI t A H:=A=[.aj (bn t)]/\H=ay/\bA t
 v t:=.aj (eU (iQ t))
 aD t:=ay
theorem aDf:inX.bM:=λt t' A H h1 h2=>by rw[yP h1.1 h2.1]
def Un:Ev.aX:=bx 169 (bE inX aDf bU) K35
def aly:LV->AH->Option Sp
 |[.aq cs len 4],H=>some (.A1 ((H=ay/\len≠0/\len<=4000000/\cs.length=len*4/\cs.all AV.dH=true/\cs.all f_=true),.aq cs len 4,ay))
 |[.aM],H=>some (.A1 (H=ay,.aM,ay))
 |_,_=>none
def K37:Ev.aX:=bx 148 aly Un
def al4:LV->Option (Prop×AV)
 |[]=>some (True,.aj [.ao [59],J 2,.cw (.func 143) [] [],.ao [45,62],J 2,.cw (.func 144) [] [],.ao [92,43],J 1,.cw (.func 145) [] [],.ao [111,110,99,101],J 1,.cw (.func 146) [] []])
 |_=>none
def K38:Ev.aX:=eD 114 (fj al4) K37
def aqx:Nat->LN:=dY [(3,[4,5,10,11,12])]
def RD:Nat->LN:=dY [(2,[2,6,7,8])]
def LS(nm:LN)(ar an:Int)(a:AV):aO:=.ah [J 1,.ao nm,J ar,J an,a,J 0] 146
def vt:aO:=.ah [J 0,.ao [],J 0,J 0,.aM,J 0] 146
abbrev awq h0 h1(h2:dq):=j_ (.ah [h0,h1,.ai (dq.tr h2),.ad 1 h2.an.length 1] 120) (fc h2)
theorem aMr{s L Q}:
 Cp K29 L Q 80 (hT s)=Q (J (wI (wI (dq.nv s+1)-1))) (awq (cu (dq.nv s)) (J (dq.na s)) s):=by kernel_rfl
theorem aKA{s L Q}:
 Cp K30 L Q 147 (hT s)=Q (J (wI (wI (dq.na s+1)-1))) (awq (J (dq.nv s)) (cu (dq.na s)) s):=by kernel_rfl
theorem aMs{k v L Q}:
 fL K31 L Q 81 [J k,J v]=Q (.aj (Ow k (pq []) 0 0 .aM v)) ay:=by kernel_rfl
abbrev ahS h0 h1 h2:=J1 4 0 5 1 10 (.aq h0 h1 4) 11 (J6 h1) 12 h2
theorem aKe{nm ar an cs len L Q}:
 fA Kq aqx L Q 116 [oI nm ar an,.aq cs len 4] ay=L (aJ (ahS cs len (J 0))) (j_ (.ah (Ow 0 (pq []) 0 0 .aM 0) 146) (LS nm ar an .aM)) (aB Z 116 0):=by kernel_rfl
theorem aKf{nm ar an L Q}:
 eG Kq [1000000] L Q 116 [oI nm ar an,.aM] ay=Q (.aj (Ow 1 nm ar an .aM 0)) ay:=by kernel_rfl
abbrev aaw h0:=fS (cZ h0).bV (cZ h0).n (cZ h0).cq (az (cZ h0).aU) (cZ h0).aU.length
theorem aKg{nm ar an cs len i ds m L Q}:
 ju Kq aqx L Q 116 0 (ahS cs len (J i)) (jv vt (LS nm ar an (.ad 2 m 4)) (.au ds 49))=Co i len (ia i len (λcv=>J' ((cs.drop (cv*4)).take 4) (λw=>bA w) (λw=>im (.ad 2 m 4)/\xH ds m 4 L (ahS cs len (cu i)) (jv vt (LS nm ar an (.ad 2 (m+1) 4)) (.au (ds++aaw w) 49)) 116 0))) (Q (.aj (Ow 1 nm ar an (.ad 0 m 4) 0)) (oK ds 49)):=by kernel_rfl
theorem aKc{nm ar an k n s cs len k' n' s' cs' len' L Q}:
 qE Z Kq (λ_=>[1000000]) L Q 3000 116 [oI nm ar an,iY 0 2 4] (Ck k n s cs len k' n' s' cs' len')=qL k n s cs len (λw=>im .aM/\qL k' n' s' cs' len' (λaH=>im (.bK 6 0 1 1 4 false)/\Q (.aj (Ow 1 nm ar an (.ad 1 2 4) 0)) (j_ (.ah (mJ k n s cs len k' n' s' cs' len') 49) (.ah (mJ (cZ w).bV (cZ w).n (cZ w).cq (az (cZ w).aU) (cZ w).aU.length (cZ aH).bV (cZ aH).n (cZ aH).cq (az (cZ aH).aU) (cZ aH).aU.length) 49)))):=by kernel_rfl
theorem at9{k n s cs len L Q}:
 fA O8 RD L Q 65 [cN k n s cs len] ay=qL k n s cs len (λw=>L (aJ (NQ 2 .aM 6 (bc (h_ w)) (h_ w).length 1 7 8 (J 0))) ay (aB Z 65 0)):=by kernel_rfl
abbrev awj h0 h1 h2:=(((bc h0).drop (h1*1)).take 1:LV)=[J h2]
abbrev aau h0(h1:LI) h2:=NQ 2 h0 6 (bc h1) h1.length 1 7 8 h2
theorem aL7{l i ds m L Q}:
 ju O8 RD L Q 65 0 (aau (.ad 0 m 4) l (J i)) (oK ds 49)=Co i l.length (ia i l.length (λcv=>∃n,awj l cv n/\dc True/\xH ds m 4 L (aau (.ad 0 (m+1) 4) l (cu i)) (oK (ds++fS 0 (At n) [] [] 0) 49) 65 0)) (Q (.ad 0 m 4) (oK ds 49)):=by kernel_rfl
theorem aL5{l i L Q}:
 ju O8 RD L Q 65 0 (aau .aM l (J i)) ay=Co i l.length (ia i l.length (λcv=>∃n,awj l cv n/\dc True/\L (aJ (aau (.ad 0 1 4) l (cu i))) (iA (dx 0 (At n) [] [] 0)) (aB Z 65 0))) (Q .aM ay):=by kernel_rfl
theorem aKh{k n s cs len L Q}:
 qE Z K34 (λ_=>[]) L Q 1000 117 [.aj [J k,J n,.ao s,.aq cs len 4]] ay=(
 aZ (bO s (fg (ByteArray.mk (List.toArray [])))) (Q (.ai true) ay) (aZ (bO s (fg (ByteArray.mk (List.toArray [99,97,108,108])))) (aZ (decide (Int.ofNat len<1)) (Q (.ai true) ay) (Q (.ai (decide (Int.ofNat len>8))) ay)) (aZ (bO s (fg (ByteArray.mk (List.toArray [99,97,116,99,104])))) (aZ (bO s (fg (ByteArray.mk (List.toArray [99,97,116,99,104])))) (Q (.ai (Int.ofNat len !=3)) ay) (∃b,s[0]?=some b/\Q (.ai (Int.ofNat b !=36)) ay)) (aZ (bO s (fg (ByteArray.mk (List.toArray [102,105,110,100,97,108,108])))) (aZ (bO s (fg (ByteArray.mk (List.toArray [102,105,110,100,97,108,108])))) (Q (.ai (Int.ofNat len !=3)) ay) (∃b,s[0]?=some b/\Q (.ai (Int.ofNat b !=36)) ay)) (aZ (bO s (fg (ByteArray.mk (List.toArray [98,97,103,111,102])))) (aZ (bO s (fg (ByteArray.mk (List.toArray [98,97,103,111,102])))) (Q (.ai (Int.ofNat len !=3)) ay) (∃b,s[0]?=some b/\Q (.ai (Int.ofNat b !=36)) ay)) (aZ (bO s (fg (ByteArray.mk (List.toArray [115,101,116,111,102])))) (Q (.ai (Int.ofNat len !=3)) ay) (∃b,s[0]?=some b/\Q (.ai (Int.ofNat b !=36)) ay))))))):=by kernel_rfl
theorem atI{k n s cs len L Q}:
 fL K35 L Q 169 [cN k n s cs len]=qL k n s cs len (λw=>aZ (Option.isSome (jK w)) (Q (avD (jK w)) ay) (Q (Ov (pq [99,97,108,108]) 1) (iA (dx k n s cs len)))):=by kernel_rfl
theorem aKC{cs len L Q}:
 fL Un L Q 148 [.aq cs len 4]=((len=0->False)/\NR len 0 (Q (iY 0 0 4) (iA (.ah [] 49))) (0<=0) (Hm cs/\Hh/\true=true/\0<=0) (Q (.ad 0 (0+len) 4) (oK ([]++cs) 49))):=by kernel_rfl
theorem aKB{L Q}:
 fL Un L Q 148 [.aM]=Q .aM ay:=by kernel_rfl
abbrev avB h0 h1 h2 h3:=(.aj [.ao h0,J 2,nH 143 [],.ao h1,J 2,nH 144 [],.ao h2,J 1,nH 145 [],.ao h3,J 1,nH 146 []]:AV)
theorem aJY{L Q}:
 fL K37 L Q 114 []=Q (avB (pq [59]) (pq [45,62]) (pq [92,43]) (pq [111,110,99,101])) ay:=by kernel_rfl
theorem ajH:aF Z K30:=by refine bY ajG ?_;rintro s args H ⟨rfl,rfl⟩;refine eE 15 ajG aMr ?_;exact aA
theorem ajI:aF Z K31:=by refine bY ajH ?_;rintro s args H ⟨rfl,rfl⟩;refine eE 15 ajH aKA ?_;exact aA
theorem O7:aF Z Kq:=by
 refine jl ajI λargs q v h hq=>?_
 unfold arT at h;split at h<;>cases h;rename_i k v;refine sj ?_ (.agg (.fJ (.fJ (.fJ (.fJ (.tQ 4 (.mn _))))))) (ct _);refine eE 8 ajI aMs ?_;exact aA
theorem aAj(t):[J t.bV,J t.n,.ao t.cq,.aq (az t.aU) t.aU.length 4]=az [t]:=by cases t;simp[az,bn,ax.bV,ax.n,ax.cq,ax.aU]
theorem ag6{F D:Type}(f:F->D)(l:List F){i}(h:i<l.length):(l.take (i+1)).map f=(l.take i).map f++[f l[i]]:=by rw[qB,gg h,lP];rfl
theorem aKd{nm ar an l}(hl:l.length<4000000)(ho:fe l):
 ∀i,i<=l.length->ba Z 116 25 0 (.aj [J 1,.ao nm,J ar,J an,.ad 0 l.length 4,J 0]) (aE [(0,.au (az (l.map cZ)) 49)] 1)
  (aJ [(4,.aa 0 0),(5,.aa 1 0),(10,.aq (az l) l.length 4),(11,J (Int.ofNat l.length)),(12,J (i:Int))]) (aE [(0,vt),(1,LS nm ar an (.ad 2 i 4)),(2,.au (az ((l.take i).map cZ)) 49)] 3) (aB Z 116 0):=by
 refine dj (λi=>l.length-i) _ _ _ _ ?_;rintro i hi ih;refine hE O7 aKg ?_;delta fS cu aaw;refine al (λae=>?_) λaY=>?_
 .have ae:i<l.length:=by simpa using ae
  obtain⟨k1,n1,s1,l1,-,hg,bP,aN,-⟩:=ua ae ho (kr _) (P:=λ_=>True) trivial;refine⟨i,rfl,ae,k1,n1,s1,az l1,l1.length,bP,.mk k1 n1 s1 l1,⟨rfl,rfl,aN⟩,rfl,⟨by rw[qh,oD,rH];congr 1;omega,by omega,rfl,rfl⟩,?_⟩;rw[aAj,<-A7,cb];have:=ih (i+1) (by omega) (by omega);rw[ag6 _ _ ae,hg]at this;exact this
 .have aY:l.length<=i:=by simpa using aY
  have:i=l.length:=by omega
  subst this;rw[pX];exact aA
theorem ayH{nm ar an l}(ho:fe l)(hl:l.length<4000000):bC Z 116 [.aj [.ao nm,J ar,J an],.aq (az l) l.length 4] ay (.aj [J 1,.ao nm,J ar,J an,.aq (az (l.map cZ)) (l.map cZ).length 4,J 0]) ay:=by
 have h1:bC Z 116 [.aj [.ao nm,J ar,J an],.aq (az l) l.length 4] ay (.aj [J 1,.ao nm,J ar,J an,.ad 0 l.length 4,J 0]) (aE [(0,.au (az (l.map cZ)) 49)] 1):=by refine eE 25 O7 aKe ?_;refine qk (H':=aE ([(0,vt),(1,LS nm ar an (.ad 2 0 4))]++[(2,.au [] 49)]) (2+1)) ?_ (tM (g:=1) rfl (λid=>by rcases id with _|_|_|id<;>rfl) rfl (λI x hx=>xq hx) aA);exact aKd hl ho 0 (eh _)
 have h2:=si (g:=0) h1 rfl (eh _);have h3:fO 0 (az (l.map cZ)) (.aj [J 1,.ao nm,J ar,J an,.ad 0 l.length 4,J 0])=.aj [J 1,.ao nm,J ar,J an,.aq (az (l.map cZ)) (l.map cZ).length 4,J 0]:=by
  have:(az (l.map cZ)).length=l.length*4:=by rw[qh,oD]
  simp[fO,oU,this]
 rw[h3]at h2;exact kJ (ps:=[]) h2
theorem O9:aF Z O8:=by
 refine wA O7 λargs H sp p v H' hs hd hp=>?_
 unfold caS at hs;split at hs;next nm ar an cs len=>cases hs;have⟨l,e⟩:=HW hd;cases e;obtain⟨h1,rfl,h2,h3⟩:=hp;rw[h1];exact ayH h2 h3
 next nm ar an=>cases hs;cases hd;cases hp;refine sj ?_ (.agg (.fJ (.fJ (.fJ (.fJ (.tQ 4 (.mn _))))))) (ct _);refine eE 25 O7 aKf ?_;exact aA
 next nm ar an=>
  cases hs;have⟨⟨⟨k,n,s,l⟩,⟨k',n',s',l'⟩⟩,e⟩:=HW hd;cases e;obtain⟨-,rfl,h2,h3⟩:=hp;have h4:bC Z 116 [.aj [.ao nm,J ar,J an],.bK 0 0 2 2 4 true] (aE [(0,.ah (bn (.mk k n s l)++bn (.mk k' n' s' l')) 49)] 1) (.aj [J 1,.ao nm,J ar,J an,.ad 1 2 4,J 0]) (aE [(0,.ah (bn (.mk k n s l)++bn (.mk k' n' s' l')) 49),(1,.ah (eU (cZ (.mk k n s l))++eU (cZ (.mk k' n' s' l'))) 49)] 2):=by refine eT O7 3000 (λ_=>[1000000]) 25 ?_;rw[show bn (.mk k n s l)++bn (.mk k' n' s' l')=[J k,J n,.ao s,.aq (az l) l.length 4,J k',J n',.ao s',.aq (az l') l'.length 4]from rfl,aKc];exact⟨.mk k n s l,⟨rfl,rfl,h2⟩,rfl,.mk k' n' s' l',⟨rfl,rfl,h3⟩,rfl,rfl,rfl⟩
  have h5:=C_ (g:=1) h4 rfl rfl (by show(1:Nat)<=2;omega);exact kJ (ps:=[(0,0)]) h5
 .cases hs
theorem aAm(n):bn (nB n)=[J 0,J (At n),.ao [],.aq [] 0 4]:=rfl
theorem aAo(l n):az ((l++[n]).map nB)=az (l.map nB)++[J 0,J (At n),.ao [],.aq [] 0 4]:=by rw[lP,A7];simp[az,aAm]
theorem aAn(l:LI):(az (l.map nB)).length=l.length*4:=by rw[qh,oD]
theorem asS{l i}(h:i<l.length):((bc l).drop (i*1)).take 1=[J l[i]]:=by rw[n7,bc,<-List.map_drop,fu h];rfl
theorem aL6{l}(hl:l.length<4000000):∀i,i<=l.length->ba Z 65 19 0 (.ad 0 l.length 4) (aE [(0,.au (az (l.map nB)) 49)] 1)
 (aJ [(2,.ad 0 i 4),(6,.aq (bc l) l.length 1),(7,J (Int.ofNat l.length)),(8,J (i:Int))]) (aE [(0,.au (az ((l.take i).map nB)) 49)] 1) (aB Z 65 0):=by
 refine dj (λi=>l.length-i) _ _ _ _ ?_;rintro i hi ih;refine hE O9 aL7 ?_;delta cu;refine al (λae=>?_) λaY=>?_
 .have ae:i<l.length:=by simpa using ae
  refine⟨i,rfl,ae,l[i],asS ae,da,⟨by rw[aAn,rH];congr 1;omega,by omega,rfl,rfl⟩,?_⟩;rw[<-aAo,cb];have:=ih (i+1) (by omega) (by omega);rw[qB,gg ae]at this;exact this
 .have aY:l.length<=i:=by simpa using aY
  have:i=l.length:=by omega
  subst this;rw[pX];exact aA
theorem SX(t):(h_ t).length<=2000:=by
 unfold h_;split;next h=>have h1:=ZZ [] t;have:=Aq h;simp at h1;omega
 .simp
theorem ajJ:aF Z K34:=by
 refine abZ O9 ?_;intro b t args H hp;obtain⟨rfl,rfl,ho,hb⟩:=hp;have hl:=SX t;cases b
 .refine eS O9 RD 19 ?_;have⟨k,n,s,l⟩:=t;rw[bn];refine cast at9.symm ?_;refine⟨.mk k n s l,⟨rfl,rfl,ho⟩,?_⟩;refine hE O9 aL5 ?_;have:h_ (.mk k n s l)=[]:=by simpa using hb
  rw[this];exact al (λh=>(by cases h)) λ_=>aA
 .refine eS O9 RD 19 ?_;have⟨k,n,s,l⟩:=t;rw[bn];refine cast at9.symm ?_;refine⟨.mk k n s l,⟨rfl,rfl,ho⟩,?_⟩;refine zF 4 49 [2] ?_ rfl;exact aL6 (by omega) 0 (eh _)
theorem abk:aF Z K35:=by
 refine jl ajJ λargs q v h hq=>?_
 unfold alk at h;split at h<;>cases h;rename_i k n s cs len;refine eS ajJ (λ_=>[]) 30 ?_;rw[aKh,Vd,jr,show fg (ByteArray.mk (List.toArray []))=[]from rfl,show fg (ByteArray.mk (List.toArray [99,97,108,108]))=[99,97,108,108]from rfl,show fg (ByteArray.mk (List.toArray [99,97,116,99,104]))=[99,97,116,99,104]from rfl,show fg (ByteArray.mk (List.toArray [102,105,110,100,97,108,108]))=[102,105,110,100,97,108,108]from rfl,show fg (ByteArray.mk (List.toArray [98,97,103,111,102]))=[98,97,103,111,102]from rfl,show fg (ByteArray.mk (List.toArray [115,101,116,111,102]))=[115,101,116,111,102]from rfl];cases h0:bO s []
 .have last:∃b,s[0]? =some b/\fD (.ai (s.head? !=some 36)) ay (.ai (Int.ofNat b !=36)) ay:=by
   cases s with
   |nil=>cases h0
   |cons a l=>refine⟨a,rfl,?_,rfl⟩;congr 1;rw[sL];simp;omega
  cases h1:bO s [99,97,108,108]
  .cases h2:bO s [99,97,116,99,104]<;>cases h3:bO s [102,105,110,100,97,108,108]<;>cases h4:bO s [98,97,103,111,102]<;>cases h5:bO s [115,101,116,111,102]<;>first
    |exact last
    |exact⟨rfl,rfl⟩
  .cases h2:decide ((len:Int)<1)<;>exact⟨rfl,rfl⟩
 .exact aA
theorem abl:aF Z Un:=by
 refine bY abk ?_;rintro⟨k,n,s,l⟩ args H ⟨rfl,rfl,ho⟩;simp only[inX,py];cases hg:jK (.mk k n s l)with
 |some g=>refine eE 15 abk atI ?_;dsimp only[qL];rw[iQ,hg];have⟨a,b,c,d⟩:=g;exact⟨.mk k n s l,⟨rfl,rfl,ho⟩,by rw[hg];exact aA⟩
 |none=>
  have h1:bC Z 169 [.aj (bn (.mk k n s l))] ay (.aj [J 3,J 0,.ao yc,.bK 0 0 1 1 4 true]) (aE [(0,dx k n s (az l) l.length)] 1):=by refine eE 15 abk atI ?_;dsimp only[qL];exact⟨.mk k n s l,⟨rfl,rfl,ho⟩,by rw[hg];exact aA⟩
  have h2:=C_ (g:=0) h1 rfl rfl (eh _);rw[iQ,hg];exact kJ (ps:=[]) h2
theorem ajK:aF Z K37:=by
 refine wA abl λargs H sp p v H' hs hd hp=>?_
 unfold aly at hs;split at hs;next cs len=>
  cases hs;cases hd;obtain⟨rfl,h1,h2,h3,h4,h5⟩:=hp;have h6:bC Z 148 [.aq cs len 4] ay (.ad 0 len 4) (aE [(0,.au cs 49)] 1):=by refine eE 8 abl aKC ?_;refine⟨h1,λh=>absurd h h1,λ_=>⟨⟨by omega,by omega,⟨h4,h5⟩,aA,rfl,by omega⟩,?_⟩⟩;rw[lx,rG];exact aA
  have h7:=si (g:=0) h6 rfl (eh _);have h8:fO 0 cs (.ad 0 len 4)=.aq cs len 4:=by simp[fO,h3]
  rw[h8]at h7;exact kJ (ps:=[]) h7
 .cases hs;cases hd;cases hp;refine eE 8 abl aKB ?_;exact aA
 .cases hs
theorem awU:aF Z K38:=by
 refine jl ajK λargs q v h hq=>?_
 unfold al4 at h;split at h<;>cases h;refine eE 6 ajK aJY ?_;exact aA
def jJ(g:ax)(i:Nat):ax:=g.aU.getD i kB
def ec(g:ax)(nm:LN)(ar:Int):Bool:=oy g.bV g.cq g.aU.length nm ar
def oG(k v:Int):rZ:=⟨k,⟨[],0,0⟩,[],v⟩
abbrev CG:=dq->ax->Int->dq×gy
def o9(G:CG)(s:dq)(g:ax):dq×gy:=
 ((G s.nx g (bQ s.nv)).1,oG 3 (bQ s.nv)::((G s.nx g (bQ s.nv)).2++[oG 4 (bQ s.nv)]))
def iv(G:CG)(k:Nat)(s:dq)(g:ax)(c:Int):dq×List gy:=
 match k with
 |0=>if ec (jJ g 0) [45,62] 2 then
   let r1:=G s.nx.nx (jJ (jJ g 0) 0) (bQ s.nx.nv)
   let r2:=G r1.1 (jJ (jJ g 0) 1) c
   let r3:=G r2.1 (jJ g 1) c
   (r3.1,[oG 2 (bQ s.nv)::oG 3 (bQ s.nx.nv)::(r1.2++oG 4 (bQ s.nv)::r2.2),r3.2])
  else
   let r1:=G s (jJ g 0) c
   let r3:=G r1.1 (jJ g 1) c
   (r3.1,[r1.2,r3.2])
 |1=>
  let r1:=o9 G s (jJ g 0)
  let r2:=G r1.1 (jJ g 1) c
  (r2.1,[r1.2++r2.2])
 |2=>
  let r:=G s.nx.nx (iQ (jJ g 0)) (bQ s.nx.nv)
  (r.1,[oG 2 (bQ s.nv)::oG 3 (bQ s.nx.nv)::(r.2++[oG 4 (bQ s.nv),oG 5 0]),[]])
 |_=>
  let r:=o9 G s (iQ (jJ g 0))
  (r.1,[r.2])
def dq.lj(s:dq):dq:=⟨s.nv,s.na,s.tr,s.an++[[]]⟩
def dq.put(s:dq)(i:Nat)(l:List bN):dq:=⟨s.nv,s.na,s.tr,s.an.set i l⟩
def mN(g:ax)(c:Int):dF:=sS g++(if Lh g then[nB c]else[])
def Jn(s:dq)(g:ax)(c:Int):gZ:=⟨[],((mN g c).length:Int),bQ s.na⟩
def n8(G:CG)(k:Nat)(s:dq)(g:ax)(c:Int):dq×rZ:=
 let r:=iv G k s.px.lj g c
 (r.1.put s.an.length (r.2.map λgs=>⟨Jn s g c,mN g c,gs⟩),ra (Jn s g c) (mN g c))
def yS(s:dq)(g:ax):dq×gy:=
 if !s.tr|| !Vd g.cq g.aU.length then(s,[ra ⟨g.cq,(g.aU.length:Int),0⟩ g.aU])
 else(s.nx,[ra ⟨[],2,1099511627776⟩ [nB (bQ s.nv),g],ra ⟨g.cq,(g.aU.length:Int),0⟩ g.aU,ra ⟨[],2,1099511627775⟩ [nB (bQ s.nv),g]])
def sG(r:dq×rZ):dq×gy:=(r.1,[r.2])
def Ec(G:CG):CG:=λs g c=>
 if ec g [116,114,117,101] 0 then(s,[])
 else if ec g [102,97,105,108] 0 then(s,[oG 5 0])
 else if ec g [33] 0 then(s,[oG 4 c])
 else if ec g [44] 2 then
  let r:=G s (jJ g 0) c
  let q:=G r.1 (jJ g 1) c
  (q.1,r.2++q.2)
 else if ec g [59] 2 then sG (n8 G 0 s g c)
 else if ec g [45,62] 2 then sG (n8 G 1 s g c)
 else if ec g [92,43] 1 then sG (n8 G 2 s g c)
 else if ec g [111,110,99,101] 1 then sG (n8 G 3 s g c)
 else yS s g
def gR:Nat->CG
 |0=>λs _ _=>(s,[])
 |n+1=>Ec (gR n)
def gm:ax->Nat
 |.mk k n s [a,b]=>if mO k&&(bO s [44]||bO s [59]||bO s [45,62])then 4+gm a+gm b else 3
 |.mk k n s [a]=>if mO k&&(bO s [92,43]||bO s [111,110,99,101])then 6+gm a else 3
 |_=>3
def lK:ax->Prop
 |.mk k n s [a,b]=>(mO k&&(bO s [44]||bO s [59]||bO s [45,62]))=true->lK a/\lK b
 |.mk k n s [a]=>(mO k&&(bO s [92,43]||bO s [111,110,99,101]))=true->lK a
 |.mk k n s l=>l.length<4000000
theorem apL{k s nm len ar}(h:oy k s len nm ar=true):mO k=true/\s=nm/\(len:Int)=ar:=by simp only[oy,cT,beq_iff_eq]at h;exact⟨h.1.1,by have:=h.1.2;rw[pB]at this;exact cP this,h.2⟩
theorem tH{g nm}(hn:nm=[44]\/nm=[59]\/nm=[45,62])(h:ec g nm 2=true):∃k n a b,g=.mk k n nm [a,b]/\gm g=4+gm a+gm b/\(lK g->lK a/\lK b):=by
 have⟨k,n,s,l⟩:=g;have⟨h1,h2,h3⟩:=apL h;simp only[ax.cq,ax.bV,ax.aU]at h1 h2 h3;obtain⟨a,b,rfl⟩:=I5 (by omega:l.length=2);subst h2;refine⟨k,n,a,b,rfl,?_,?_⟩
 .rcases hn with rfl|rfl|rfl<;>(simp only[gm,h1];rfl)
 .rcases hn with rfl|rfl|rfl<;>(simp only[lK,h1];exact λh=>h rfl)
theorem F5{g nm}(hn:nm=[92,43]\/nm=[111,110,99,101])(h:ec g nm 1=true):∃k n a,g=.mk k n nm [a]/\gm g=6+gm a/\(lK g->lK a):=by
 have⟨k,n,s,l⟩:=g;have⟨h1,h2,h3⟩:=apL h;simp only[ax.cq,ax.bV,ax.aU]at h1 h2 h3;match l,h3 with
 |[a],_=>
  subst h2;refine⟨k,n,a,rfl,?_,?_⟩
  .rcases hn with rfl|rfl<;>(simp only[gm,h1];rfl)
  .rcases hn with rfl|rfl<;>(simp only[lK,h1];exact λh=>h rfl)
theorem pG:∀g,3<=gm g
 |.mk k n s [a,b]=>by simp only[gm];split<;>omega
 |.mk k n s [a]=>by simp only[gm];split<;>omega
 |.mk k n s []=>by simp[gm]
 |.mk k n s (_::_::_::_)=>by simp[gm]
theorem aBp:gm kB=3:=rfl
theorem an1(a):gm (.mk 3 0 yc [a])=3:=rfl
theorem aBo(t):gm (cZ t)<=gm t:=by
 unfold cZ;split
 .exact ct _
 .rw[aBp];exact pG t
theorem adz:∀{t g},gK t=some g->gm g<=gm t
 |.mk k n s l,g,h=>by
  by_cases hk:k=0
  .subst hk;rw[HL]at h;cases h;rw[an1];exact pG _
  .by_cases hb:kR k s l.length=true
   .obtain⟨a,b,rfl⟩:=I5 (Ve hb);have ie:=hb;rw[Vf hk ie]at h;cases h1:gK a with
    |none=>rw[h1]at h;cases h
    |some x=>cases h2:gK b with
     |none=>rw[h1,h2]at h;cases h
     |some y=>
      rw[h1,h2]at h;cases h;have e1:=adz h1;have e2:=adz h2;simp only[kR,cT,beq_iff_eq]at ie;have hc:mO k=true:=by rw[ie.1.1];rfl
      have hc3:mO 3=true:=rfl;simp only[gm,hc,hc3,ie.2,mg,if_true];omega
   .rw[HK hk (by simpa using hb)]at h;split at h
    .cases h;exact aBo _
    .cases h
theorem LX(a):gm (iQ a)<=gm a:=by
 unfold iQ;split;next g hg=>
  unfold jK at hg;split at hg
  .split at hg;next g' h1=>
    split at hg
    .cases hg;exact adz h1
    .cases hg
   .cases hg
  .cases hg
 .rw[an1];exact pG a
theorem YH{a}(h:bA a):bA (iQ a):=by
 have:=an4 h;unfold iQ;split;next g hg=>rw[hg]at this;exact this
 .exact⟨by simp[cV,yc],by simp[cV],h,trivial⟩
theorem adu:∀{t g},lK t->gK t=some g->lK g
 |.mk k n s l,g,hg,h=>by
  by_cases hk:k=0
  .subst hk;rw[HL]at h;cases h;exact λh=>by cases h
  .by_cases hb:kR k s l.length=true
   .obtain⟨a,b,rfl⟩:=I5 (Ve hb);have ie:=hb;rw[Vf hk ie]at h;simp only[kR,cT,beq_iff_eq]at ie;have hc:mO k=true:=by rw[ie.1.1];rfl
    have tz:lK a/\lK b:=by simp only[lK,hc,ie.2,mg]at hg;exact hg trivial
    cases h1:gK a with
    |none=>rw[h1]at h;cases h
    |some x=>cases h2:gK b with
     |none=>rw[h1,h2]at h;cases h
     |some y=>rw[h1,h2]at h;cases h;exact λ_=>⟨adu tz.1 h1,adu tz.2 h2⟩
   .rw[HK hk (by simpa using hb)]at h;split at h
    .cases h;unfold cZ;split
     .exact hg
     .show(0:Nat)<4000000;decide
    .cases h
theorem Wg{a}(h:lK a):lK (iQ a):=by
 unfold iQ;split;next g hg=>
  unfold jK at hg;split at hg
  .split at hg;next g' h1=>
    split at hg
    .cases hg;exact adu h h1
    .cases hg
   .cases hg
  .cases hg
 .exact λh=>by cases h
theorem Wh:∀{t},bp t<4000000->lK t
 |.mk k n s [a,b],h=>by simp only[bp,bz]at h;exact λ_=>⟨Wh (by omega),Wh (by omega)⟩
 |.mk k n s [a],h=>by simp only[bp,bz]at h;exact λ_=>Wh (by omega)
 |.mk k n s [],h=>by simp[lK]
 |.mk k n s (a::b::c::l),h=>by have:=MO (a::b::c::l);simp only[bp]at h;simp only[lK];omega
def GB(G:CG)(N:Nat):Prop:=∀s g c,gm g<N->s.an.length<=(G s g c).1.an.length/\(G s g c).1.an.length+3<=s.an.length+gm g/\(G s g c).2.length<=gm g
theorem ae3{G N}(hG:GB G N){s g}(hg:gm g<N):s.an.length<=(o9 G s g).1.an.length/\(o9 G s g).1.an.length+3<=s.an.length+gm g/\(o9 G s g).2.length<=gm g+2:=by have:=hG s.nx g (bQ s.nv) hg;simp only[o9,dJ,cj,gH];exact⟨this.1,this.2.1,by omega⟩
def qv:Nat->LN
 |0=>[59]
 |1=>[45,62]
 |2=>[92,43]
 |_=>[111,110,99,101]
def qY(k:Nat):Int:=if k<2 then 2 else 1
theorem Vb{G N}(hG:GB G N){k s g c}(hk:k<4)(hg:gm g<N+4)(hi:ec g (qv k) (qY k)=true):
 s.an.length<=(iv G k s g c).1.an.length/\(iv G k s g c).1.an.length+4<=s.an.length+gm g/\((iv G k s g c).2≠[])/\∀l∈(iv G k s g c).2,l.length<=gm g:=by
 match k,hk with
 |0,_=>
  obtain⟨k,n,a,b,rfl,e,-⟩:=tH (.inr (.inl rfl)) hi;simp only[iv,jJ,ax.aU,n6,tY];have ga:=pG a;have gb:=pG b;split;next hc=>
   obtain⟨k',n',a',b',rfl,e',-⟩:=tH (.inr (.inr rfl)) hc;simp only[n6,tY];have h1:=hG s.nx.nx a' (bQ s.nx.nv) (by omega);have h2:=hG (G s.nx.nx a' (bQ s.nx.nv)).1 b' c (by omega);have h3:=hG (G (G s.nx.nx a' (bQ s.nx.nv)).1 b' c).1 b c (by omega);have hs:s.nx.nx.an=s.an:=rfl;rw[hs]at h1;refine⟨by first|omega|(dsimp only;omega),by first|omega|(dsimp only;omega),by simp,?_⟩;intro l hl;simp at hl;rcases hl with rfl|rfl
   .simp;omega
   .omega
  .have h1:=hG s a c (by omega);have h3:=hG (G s a c).1 b c (by omega);refine⟨by first|omega|(dsimp only;omega),by first|omega|(dsimp only;omega),by simp,?_⟩;intro l hl;simp at hl;rcases hl with rfl|rfl<;>omega
 |1,_=>obtain⟨k,n,a,b,rfl,e,-⟩:=tH (.inr (.inr rfl)) hi;simp only[iv,jJ,ax.aU,n6,tY];have ga:=pG a;have h1:=ae3 (s:=s) hG (by omega:gm a<N);have h2:=hG (o9 G s a).1 b c (by omega);refine⟨by first|omega|(dsimp only;omega),by first|omega|(dsimp only;omega),by simp,?_⟩;intro l hl;simp at hl;subst hl;simp;omega
 |2,_=>
  obtain⟨k,n,a,rfl,e,-⟩:=F5 (.inl rfl) hi;simp only[iv,jJ,ax.aU,n6];have ga:=LX a;have h1:=hG s.nx.nx (iQ a) (bQ s.nx.nv) (by omega);have hs:s.nx.nx.an=s.an:=rfl;rw[hs]at h1;refine⟨by first|omega|(dsimp only;omega),by first|omega|(dsimp only;omega),by simp,?_⟩;intro l hl;simp at hl;rcases hl with rfl|rfl
  .simp;omega
  .simp
 |3,_=>obtain⟨k,n,a,rfl,e,-⟩:=F5 (.inr rfl) hi;simp only[iv,jJ,ax.aU,n6];have ga:=LX a;have h1:=ae3 (s:=s) hG (by omega:gm (iQ a)<N);refine⟨by first|omega|(dsimp only;omega),by first|omega|(dsimp only;omega),by simp,?_⟩;intro l hl;simp at hl;subst hl;omega
theorem aF4{G N}(hG:GB G N){k s g c}(hk:k<4)(hg:gm g<N+4)(hi:ec g (qv k) (qY k)=true):
 s.an.length<=(n8 G k s g c).1.an.length/\(n8 G k s g c).1.an.length+3<=s.an.length+gm g:=by
 have h:=Vb (s:=s.px.lj) (c:=c) hG hk hg hi;have e:s.px.lj.an.length=s.an.length+1:=by simp[dq.px,dq.lj]
 simp only[n8,dq.put,List.length_set];omega
theorem aMQ{G N}(hG:GB G N):GB (Ec G) (N+1):=by
 intro s g c hg;have aY:=pG g;unfold Ec;by_cases h1:ec g [116,114,117,101] 0=true
 .rw[aP h1];exact⟨ct _,by simp only;omega,by simp⟩
 rw[aw h1];by_cases h2:ec g [102,97,105,108] 0=true
 .rw[aP h2];exact⟨ct _,by simp only;omega,by simp;omega⟩
 rw[aw h2];by_cases h3:ec g [33] 0=true
 .rw[aP h3];exact⟨ct _,by simp only;omega,by simp;omega⟩
 rw[aw h3];by_cases h4:ec g [44] 2=true
 .rw[aP h4];obtain⟨k,n,a,b,rfl,e,-⟩:=tH (.inl rfl) h4;simp only[jJ,ax.aU,n6,tY,cj];have q1:=hG s a c (by omega);have q2:=hG (G s a c).1 b c (by omega);omega
 rw[aw h4];have one:∀k,k<4->ec g (qv k) (qY k)=true->s.an.length<=(sG (n8 G k s g c)).1.an.length/\(sG (n8 G k s g c)).1.an.length+3<=s.an.length+gm g/\(sG (n8 G k s g c)).2.length<=gm g:=by intro k hk hi;have h:=aF4 (s:=s) (c:=c) hG hk (by omega) hi;simp only[sG,dJ,gH];omega
 by_cases h5:ec g [59] 2=true
 .rw[aP h5];exact one 0 (by omega) h5
 rw[aw h5];by_cases h6:ec g [45,62] 2=true
 .rw[aP h6];exact one 1 (by omega) h6
 rw[aw h6];by_cases h7:ec g [92,43] 1=true
 .rw[aP h7];exact one 2 (by omega) h7
 rw[aw h7];by_cases h8:ec g [111,110,99,101] 1=true
 .rw[aP h8];exact one 3 (by omega) h8
 rw[aw h8];unfold yS;split
 .exact⟨ct _,by simp only;omega,by simp;omega⟩
 .exact⟨ct _,by simp only[dq.nx];omega,by simp;omega⟩
theorem tp:∀N,GB (gR N) N
 |0=>λs g c h=>by have:=pG g;omega
 |N+1=>aMQ (tp N)
def Bj(s:dq)(gs:gy):AH:=aE [(0,fp s 3),(1,.bg []),(2,.au (bX gs) 146),(3,fc s)] 4
def oX(s:dq):AH:=aE [(0,fp s 2),(1,.bg []),(2,fc s)] 3
def jo(N M:Nat)(s:dq)(g:ax):Prop:=bA g/\gm g<N/\gm g<1000000/\s.an.length+gm g<M/\lK g
theorem anX{s s' g g' c c' A H}(h1:A=[.aa 0 0,.aj (bn g),J c])(h2:H=hT s)(h3:A=[.aa 0 0,.aj (bn g'),J c'])(h4:H=hT s'):s=s'/\g=g'/\c=c':=by rw[h1]at h3;rw[h2]at h4;simp at h3;exact⟨Ma h4,kT h3.1,h3.2⟩
structure Gw where
 s:dq
 g:ax
 c:Int
 s2:dq
 l:gy
def Qh(N:Nat):bT Gw where
 aI w A H:=A=[.aa 0 0,.aj (bn w.g),J w.c]/\H=hT w.s/\jo N 3000000 w.s w.g/\gR N w.s w.g w.c=(w.s2,w.l)
 v w:=.ad 2 w.l.length 6
 aD w:=Bj w.s2 w.l
theorem aBl(N):(Qh N).bM:=by rintro⟨s,g,c,s2,l⟩ ⟨s',g',c',Sy,l'⟩ A H ⟨h1,h2,_,h5⟩ ⟨h3,h4,_,h6⟩;have⟨e1,e2,e3⟩:=anX h1 h2 h3 h4;subst e1 e2 e3;rw[h5]at h6;cases h6;rfl
def T0(N:Nat):Ev.aX:=bx 82 (bE (Qh N) (aBl N) bU) K38
def Rq(N:Nat):bT Gw where
 aI w A H:=A=[.aa 0 0,.aj (bn w.g)]/\H=hT w.s/\jo N 3000000 w.s w.g/\o9 (gR N) w.s w.g=(w.s2,w.l)
 v w:=.ad 2 w.l.length 6
 aD w:=Bj w.s2 w.l
theorem aDV(N):(Rq N).bM:=by rintro⟨s,g,c,s2,l⟩ ⟨s',g',c',Sy,l'⟩ A H ⟨h1,h2,_,h5⟩ ⟨h3,h4,_,h6⟩;rw[h1]at h3;rw[h2]at h4;simp at h3;rw[Ma h4,kT h3,h6]at h5;cases h5;rfl
def T1(N:Nat):Ev.aX:=bx 168 (bE (Rq N) (aDV N) bU) (T0 N)
def oS(gs:gy):AV:=.aq (bX gs) gs.length 6
structure Bw where
 s:dq
 g:ax
 c:Int
 s2:dq
 ls:List gy
def sd(k N:Nat):bT Bw where
 aI w A H:=A=[.aa 0 0,.aj (bn w.g),J w.c]/\H=hT w.s/\jo (N+4) 3000001 w.s w.g/\ec w.g (qv k) (qY k)=true/\iv (gR N) k w.s w.g w.c=(w.s2,w.ls)
 v w:=.aq (w.ls.map oS) w.ls.length 1
 aD w:=oX w.s2
theorem U_(k N):(sd k N).bM:=by rintro⟨s,g,c,s2,l⟩ ⟨s',g',c',Sy,l'⟩ A H ⟨h1,h2,_,_,h5⟩ ⟨h3,h4,_,_,h6⟩;have⟨e1,e2,e3⟩:=anX h1 h2 h3 h4;subst e1 e2 e3;rw[h5]at h6;cases h6;rfl
def T2(N:Nat):Ev.aX:=bx 143 (bE (sd 0 N) (U_ 0 N) bU) (T1 N)
def T3(N:Nat):Ev.aX:=bx 144 (bE (sd 1 N) (U_ 1 N) bU) (T2 N)
def T4(N:Nat):Ev.aX:=bx 145 (bE (sd 2 N) (U_ 2 N) bU) (T3 N)
def T5(N:Nat):Ev.aX:=bx 146 (bE (sd 3 N) (U_ 3 N) bU) (T4 N)
def LK:Nat->Nat
 |0=>143
 |1=>144
 |2=>145
 |3=>146
 |k+4=>k+200
theorem aAZ{k k'}(h:k<4)(h':k'<4)(e:LK k=LK k'):k=k':=by rcases k with _|_|_|_|k<;>rcases k' with _|_|_|_|k'<;>first|rfl|omega|cases e
structure Rw where
 k:Nat
 s:dq
 g:ax
 c:Int
 s2:dq
 q:rZ
def Sx(N:Nat):bT Rw where
 aI w A H:=A=[.aa 0 0,.aj [.ao (qv w.k),J (qY w.k),.cw (.func (LK w.k)) [] []],.aj (bn w.g),J w.c]/\H=hT w.s/\jo (N+4) 3000000 w.s w.g/\ec w.g (qv w.k) (qY w.k)=true/\w.k<4/\n8 (gR N) w.k w.s w.g w.c=(w.s2,w.q)
 v w:=.aj (zu w.q)
 aD w:=oX w.s2
theorem aGh(N):(Sx N).bM:=by rintro⟨k,s,g,c,s2,l⟩ ⟨k',s',g',c',Sy,l'⟩ A H ⟨h1,h2,_,_,k1,h5⟩ ⟨h3,h4,_,_,k2,h6⟩;rw[h1]at h3;rw[h2]at h4;simp at h3;have⟨⟨_,_,e1⟩,e2,e3⟩:=h3;obtain rfl:k=k':=aAZ k1 k2 e1;rw[Ma h4,kT e2,e3,h6]at h5;cases h5;rfl
def T6(N:Nat):Ev.aX:=bx 115 (bE (Sx N) (aGh N) bU) (T5 N)
def aff:Nat->LN:=dY [(999995,[2000003]),(999998,[0,3,5,6])]
def afd:Nat->LN:=dY [(999995,[2000007]),(999998,[0,2,4,7,8,9,10])]
def Rv:Nat->LN:=dY [(999995,[2000008]),(999998,[0,2,4,7,8,9,10])]
def afe:Nat->LN:=dY [(999995,[2000004]),(999998,[0,4,7,8,9])]
def F_:Nat->LN:=dY [(9,[0,8,9,10,11,12,50,51,52]),(999995,[2000008]),(999998,[0,3,5,6,8,9,10,11,12])]
def uF:Nat->LN:=dY [(9,[0,8,9,10,11,12,50,51,52]),(999995,[2000013]),(999998,[0,8,9,10,11,12])]
def BC:Nat->LN:=dY [(11,[0,2,4,47,48]),(999995,[2000016]),(999998,[0,4])]
def alU:AV:=.aj [.ao [59],J 2,.cw (.func 143) [] [],.ao [45,62],J 2,.cw (.func 144) [] [],.ao [92,43],J 1,.cw (.func 145) [] [],.ao [111,110,99,101],J 1,.cw (.func 146) [] []]
def zV:Nat->LN:=dY [(999995,[2000008,2000010]),(999998,[0,2,4])]
def Yg:Nat->LN:=dY [(999995,[2000022]),(999998,[4,10,11,12,13])]
def jC(l:gy):aO:=.au (bX l) 146
def Vr(nm:LN)(ar:Int)(f:Nat):aO:=.ah [.ao nm,J ar,.cw (.func f) [] []] 184
def yR(ar an:Int):aO:=.ah [.ao [],J ar,J an] 39
abbrev Hf h0(h1:dq->Prop):=∃b0:dq,uY (hT h0=hT b0) (h1 b0)
abbrev Hg h0 h1:=wj h0 [] 0 0 [] 0 h1
abbrev aaB h0 h1 h2 h3 h4 h5 h6:=uX (fp h0 1) (fc h0) (dx h1 h2 h3 h4 h5) h6
theorem aKK{s k n nm cs len N L Q}:
 fA (T0 N) aff L Q 168 (sV (cN k n nm cs len)) (hT s)=Hf s (λw=>dc True/\L (J8 0 0 3 2 5 (J (bQ w.nv)) 6 (iY 3 1 6)) (aaB w.nx k n nm cs len (.ah (Hg 3 (bQ w.nv)) 146)) (dg Z aff 168 0)):=by kernel_rfl
abbrev Tv h0 h1 h2:=uX (fp h0 3) (.bg []) h1 h2
abbrev Ay h0 h1 h2 h3 h4 h5 h6 h7(h8:Gw->Prop):=∃b0:Gw,(AA (cN h0 h1 h2 h3 h4) (J h5) (.aj (bn b0.g)) (J b0.c)/\hT h6=hT b0.s/\jo h7 3000000 b0.s b0.g/\gR h7 b0.s b0.g b0.c=Prod.mk b0.s2 b0.l)/\h8 b0
abbrev JZ(h0:Gw) h1 h2 h3 h4:=(bX h0.l).length=h0.l.length*6/\NR h0.l.length h1 h2 (h3=h1*6) (Hm (bX h0.l)) h4
abbrev avJ h0 h1(h2:QT)(h3:Gw) h4 h5:=pn h0 h1 6 (h2 (.ad 2 (h1+1) 6) (Tv h3.s2 (.au (h4++Hg 4 h5) 146) (fc h3.s2)))
theorem aKJ{s k n nm cs len m gs N L Q}:
 AE (T0 N) L Q 168 2 (J8 0 0 3 2 5 (J m) 6 (.ad 3 gs.length 6)) aff (aaB s k n nm cs len (jC gs))=Ay k n nm cs len m s N (λw=>JZ w gs.length (dc True/\avJ (bX gs).length gs.length Q w (bX gs) m) (bX gs).length (dc True/\avJ (HAppend.hAppend (bX gs) (bX w.l)).length (gs.length+w.l.length) Q w (bX gs++bX w.l) m)):=by kernel_rfl
abbrev aiC(h0:LV) h1(h2:Gw) h3(h4:QT) h5 h6:=og ((h0.drop 4).take 4:LV) (λb0=>λb1=>λb2=>λb3=>λb4=>Ay b0 b1 b2 b3 b4 h1 h2.s2 h3 (λb5=>h4 (iY 2 2 1) (JY (fp b5.s2 3) (.bg []) (.ah [.ad 4 h5 6,.ad 5 b5.l.length 6] 104) (fc b5.s2) h6 (jC b5.l))))
abbrev S9 h0 h1 h2 h3:=aJ [(0,.aa 0 0),(2,J h0),(4,.aa 2 0),(7,.ad 3 h1 6),(8,.aa 4 0),(9,J h2),(10,J h3)]
abbrev ahD h0 h1 h2 h3:=([J h0,.ao [],J 0,J 0,.aq [] 0 4,J h1,J h2,.ao [],J 0,J 0,.aq [] 0 4,J h3]:LV)
abbrev aaH h0 h1 h2 h3:=N_ (fp h0 1) (fc h0) h1 h2 h3
theorem atA{s k n nm cs len c N L Q}:
 fA (T1 N) afd L Q 143 [.aa 0 0,cN k n nm cs len,J c] (hT s)=(0<len/\og ((cs.drop 0).take 4:LV) (λbm=>λbS=>λcX=>λcA=>λb_=>dc True/\aZ (oy bm cX b_ [45,62] 2) (Hf s (λw=>Hf w.nx (λaH=>dc True/\dc True/\L (S9 c 2 (bQ w.nv) (bQ aH.nv)) (aaH aH.nx (dx k n nm cs len) (.ah (ahD 2 (bQ w.nv) 3 (bQ aH.nv)) 146) (dx bm bS cX cA b_)) (dg Z afd 143 0)))) (Ay bm bS cX cA b_ c s N (λw=>1<len/\aiC cs c w N Q w.l.length (jC w.l))))):=by kernel_rfl
abbrev OE h0 h1 h2 h3:=JY (fp h0 5) (.bg []) h1 h2 h3 (fc h0)
theorem aKu{s k n nm cs len c k1 n1 ez re I3 a b gs N L Q}:
 AF (T1 N) Rv L Q 143 2 (S9 c gs.length a b) afd (aaH s (dx k n nm cs len) (jC gs) (dx k1 n1 ez re I3))=(0<I3/\og ((re.drop 0).take 4:LV) (λbm=>λbS=>λcX=>λcA=>λb_=>Ay bm bS cX cA b_ b s N (λw=>JZ w gs.length (L (S9 c gs.length a b) (OE w.s2 (dx k n nm cs len) (jC gs) (dx k1 n1 ez re I3)) (dg Z Rv 143 0)) (bX gs).length (L (S9 c (gs.length+w.l.length) a b) (OE w.s2 (dx k n nm cs len) (.au (bX gs++bX w.l) 146) (dx k1 n1 ez re I3)) (dg Z Rv 143 0))))):=by kernel_rfl
theorem aKv{s k n nm cs len c k1 n1 ez re I3 a b gs N L Q}:
 AE (T1 N) L Q 143 2 (S9 c gs.length a b) Rv (OE s (dx k n nm cs len) (jC gs) (dx k1 n1 ez re I3))=(dc True/\pn (bX gs).length gs.length 6 (1<I3/\og ((re.drop 4).take 4:LV) (λbm=>λbS=>λcX=>λcA=>λb_=>Ay bm bS cX cA b_ c s N (λw=>JZ w (gs.length+1) (1<len/\aiC cs c w N Q (gs.length+1) (.au (bX gs++Hg 4 a) 146)) (HAppend.hAppend (bX gs) (Hg 4 a)).length (1<len/\aiC cs c w N Q (gs.length+1+w.l.length) (.au (bX gs++Hg 4 a++bX w.l) 146)))))):=by kernel_rfl
abbrev Kc h0 h1 h2 h3:=N_ (fp h0 3) (.bg []) (.ah h1 h2) (fc h0) h3
abbrev avS h0 h1 h2 h3 h4(h5:Gw) h6 h7 h8:=(Cn (cN h0 h1 h2 h3 h4) (.aj (bn h5.g))/\hT h6=hT h5.s/\jo h7 3000000 h5.s h5.g/\o9 (gR h7) h5.s h5.g=Prod.mk h5.s2 h5.l)/\h8
theorem aKw{s k n nm cs len c N L Q}:
 eG (T2 N) [] L Q 144 [.aa 0 0,cN k n nm cs len,J c] (hT s)=(0<len/\og ((cs.drop 0).take 4:LV) (λbm=>λbS=>λcX=>λcA=>λb_=>∃w:Gw,avS bm bS cX cA b_ w s N (1<len/\og ((cs.drop 4).take 4:LV) (λdn=>λfx=>λyZ=>λmT=>λnj=>Ay dn fx yZ mT nj c w.s2 N (λaH=>JZ aH w.l.length (Q (iY 2 1 1) (Kc aH.s2 [.ad 4 w.l.length 6] 104 (jC w.l))) (bX w.l).length (Q (iY 2 1 1) (Kc aH.s2 [.ad 4 (w.l.length+aH.l.length) 6] 104 (.au (bX w.l++bX aH.l) 146)))))))):=by kernel_rfl
theorem aKy{s k n nm cs len c N L Q}:
 fA (T3 N) afe L Q 145 [.aa 0 0,cN k n nm cs len,J c] (hT s)=Hf s (λw=>Hf w.nx (λaH=>dc True/\dc True/\L (aJ (J1 0 0 4 2 7 (J (bQ w.nv)) 8 (J (bQ aH.nv)) 9 (iY 3 2 6))) (aaB aH.nx k n nm cs len (.ah (ahD 2 (bQ w.nv) 3 (bQ aH.nv)) 146)) (dg Z afe 145 0))):=by kernel_rfl
abbrev avG h0 h1(h2:QT)(h3:Gw) h4 h5:=(h0=h1*6/\h1+2<=4194304/\Hh)/\h2 (iY 2 2 1) (Kc h3.s2 [.ad 4 (h1+2) 6,.aM] 104 (.au (h4++ahD 4 h5 5 0) 146))
theorem aKx{s k n nm cs len a b gs N L Q}:
 AE (T3 N) L Q 145 2 (aJ (J1 0 0 4 2 7 (J a) 8 (J b) 9 (.ad 3 gs.length 6))) afe (aaB s k n nm cs len (jC gs))=(0<len/\J' ((cs.drop 0).take 4) (λw=>bA w) (λw=>Ay (iQ w).bV (iQ w).n (iQ w).cq (az (iQ w).aU) (iQ w).aU.length b s N (λaH=>JZ aH gs.length (dc True/\dc True/\avG (bX gs).length gs.length Q aH (bX gs) a) (bX gs).length (dc True/\dc True/\avG (HAppend.hAppend (bX gs) (bX aH.l)).length (gs.length+aH.l.length) Q aH (bX gs++bX aH.l) a)))):=by kernel_rfl
theorem aKz{s k n nm cs len c N L Q}:
 eG (T4 N) [] L Q 146 [.aa 0 0,cN k n nm cs len,J c] (hT s)=(0<len/\J' ((cs.drop 0).take 4) (λw=>bA w) (λw=>∃aH:Gw,avS (iQ w).bV (iQ w).n (iQ w).cq (az (iQ w).aU) (iQ w).aU.length aH s N (Q (iY 2 1 1) (Kc aH.s2 [.ad 4 aH.l.length 6] 104 (jC aH.l))))):=by kernel_rfl
abbrev aip h0 h1 h2 h3 h4:=([.aa 0 0,.aj [.ao h0,J h1,nH h2 []],h3,J h4]:LV)
abbrev ah1 h0 h1 h2 h3:=aJ [(0,.aa 0 0),(3,J h0),(5,.aa 2 0),(6,.aa 3 0),(8,.aa 4 0),(9,h1),(10,.aa h2 0),(11,J h3),(12,.aM)]
abbrev Ts h0 h1 h2 h3:=(.ah [J h0,J h1,.ai h2,h3] 120:aO)
abbrev awe(h0:dq) h1:=Ts h0.px.nv h0.px.na h0.px.tr (.ad h1 (h0.px.an.length+1) 1)
abbrev aiu h0(h1:LT) h2 h3 h4 h5 h6 h7 h8 h9 dG eB iV kc:=Hf h0 (λb0=>pn (jW b0.px.an).length b0.px.an.length 1 (h1 (ah1 h2 (.ad 5 h3 4) 6 (a_ b0.px.an.length)) (aE [(0,awe b0 7),(1,.bg []),(2,Vr h4 h5 h6),(3,dx h7 h8 h9 dG eB),(4,vt),(5,iV),(6,yR kc (bQ b0.na)),(7,.au (jW b0.px.an++[.aM]) 84)] 8) (dg Z F_ 115 0)))
abbrev awb h0 h1 h2 h3 h4 h5 h6 h7 h8:=xJ (fS h0 h1 h2 h3 h4) (bn h5) (bA h5/\List.isEmpty (h_ h5)=h6)/\qL h0 h1 h2 h3 h4 (λb0=>aZ (Lh b0) (dc True/\h7) h8)
theorem aJ1{s f ez lV k n nm cs len c N L Q}:
 fA (T5 N) F_ L Q 115 (aip ez lV f (cN k n nm cs len) c) (hT s)=Cu (∃w:ax,awb k n nm cs len w false (pn (az (sS w)).length (h_ w).length 4 (aiu s L c ((h_ w).length+1) ez lV f k n nm cs len (.au (az (sS w)++fS 0 (At c) [] [] 0) 49) (a_ ((h_ w).length+1)))) (aiu s L c (h_ w).length ez lV f k n nm cs len (.au (az (sS w)) 49) (a_ (h_ w).length))) (∃w:ax,awb k n nm cs len w true (aiu s L c 1 ez lV f k n nm cs len (dx 0 (At c) [] [] 0) 1) (Hf s (λcI=>pn (jW cI.px.an).length cI.px.an.length 1 (L (ah1 c .aM 5 (a_ cI.px.an.length)) (aE (J7 (awe cI 6) (.bg []) (Vr ez lV f) (dx k n nm cs len) vt (yR 0 (bQ cI.na)) (.au (jW cI.px.an++[.aM]) 84)) 7) (dg Z F_ 115 0))))):=by kernel_rfl
abbrev we h0 h1:=jv (fp h0 1) (fc h0) h1
abbrev za h0 h1 h2 h3 h4:=aJ [(h0,.aa 0 0),(h1,h2),(h3,h4)]
abbrev aav h0:=za 0 2 (J h0) 4 (.aa 2 0)
abbrev aOO h0 h1 h2 h3(h4:QT) h5 h6 h7 h8 h9 dG eB:=dc True/\aZ (oy h0 h1 h2 h3 0) (dc True/\h4 (iY 2 1 6) (we h5 (.ah (Hg h6 h7) 146))) (dc True/\aZ (oy h0 h1 h2 [h8] h9) dG eB)
theorem Zq{s k n nm cs len c N L Q}:
 qE Z (T6 N) zV L Q 3000 82 [.aa 0 0,cN k n nm cs len,J c] (hT s)=(dc True/\aZ (oy k nm len [116,114,117,101] 0) (Q .aM (hT s)) (aOO k nm len [102,97,105,108] Q s 5 0 33 0 (dc True/\Q (iY 2 1 6) (we s (.ah (Hg 4 c) 146))) (dc True/\aZ (oy k nm len [44] 2) (L (aav c) (we s (dx k n nm cs len)) (dg Z zV 82 0)) (L (aav c) (we s (dx k n nm cs len)) (dg Z zV 82 1))))):=by kernel_rfl
theorem aMt{s k n nm cs len c N L Q}:
 AE (T6 N) L Q 82 2 (aav c) zV (we s (dx k n nm cs len))=(0<len/\og ((cs.drop 0).take 4:LV) (λbm=>λbS=>λcX=>λcA=>λb_=>Ay bm bS cX cA b_ c s N (λw=>1<len/\og ((cs.drop 4).take 4:LV) (λdn=>λfx=>λyZ=>λmT=>λnj=>Ay dn fx yZ mT nj c w.s2 N (λaH=>JZ aH w.l.length (Q (.ad 2 w.l.length 6) (Bj aH.s2 w.l)) (bX w.l).length (Q (.ad 2 (w.l.length+aH.l.length) 6) (Tv aH.s2 (.au (bX w.l++bX aH.l) 146) (fc aH.s2)))))))):=by kernel_rfl
abbrev avM h0 h1:=aJ [(0,.aa 0 0),(2,J h0),(4,.aa 2 0),(47,avB [59] [45,62] [92,43] [111,110,99,101]),(48,h1)]
theorem aMw{s k n nm cs len c N L Q}:
 pY Z (T6 N) BC L Q 1000 82 2 (aav c) (dg Z zV 82 1) (we s (dx k n nm cs len))=(dc True/\L (avM c (J 0)) (we s (dx k n nm cs len)) (aB Z 82 0)):=by kernel_rfl
abbrev TB(h0:Int) h1 h2 h3 h4 h5 h6 h7 h8 h9 dG eB iV(kc:QT)(jL:LT):=h0=h1->dc True/\aZ (oy h2 h3 h4 h5 h6) (∃b0:Rw,((aip h5 h6 h7 (cN h2 h8 h3 h9 h4) dG:LV)=aip (qv b0.k) (qY b0.k) (LK b0.k) (.aj (bn b0.g)) b0.c/\hT eB=hT b0.s/\jo (iV+4) 3000000 b0.s b0.g/\ec b0.g (qv b0.k) (qY b0.k)=true/\b0.k<4/\n8 (gR iV) b0.k b0.s b0.g b0.c=Prod.mk b0.s2 b0.q)/\kc (iY 2 1 6) (Tv b0.s2 (.ah (wj b0.q.gq b0.q.bh.eQ b0.q.bh.ar b0.q.bh.an (az b0.q.fT) b0.q.fT.length b0.q.qH) 146) (fc b0.s2))) (jL (avM dG (cu h0)) (we eB (dx h2 h8 h3 h9 h4)) (aB Z 82 0))
abbrev Tf:=aJ [(0,.aa 0 0),(4,.aa 2 0)]
theorem agR{s k n nm cs len c i N L Q}:
 ju (T6 N) BC L Q 82 2 [(0,.aa 0 0),(2,J c),(4,.aa 2 0),(47,alU),(48,J i)] (we s (dx k n nm cs len))=aZ (decide (i<4)) (((0:Int)<=i/\i<4)/\TB i 0 k nm len [59] 2 143 n cs c s N Q L/\TB i 1 k nm len [45,62] 2 144 n cs c s N Q L/\TB i 2 k nm len [92,43] 1 145 n cs c s N Q L/\TB i 3 k nm len [111,110,99,101] 1 146 n cs c s N Q L/\True) (L Tf (we s (dx k n nm cs len)) (dg Z BC 82 0)):=by kernel_rfl
abbrev ahT h0 h1 h2:=LS h0 (a_ h1) 0 (.aq (az (List.map cZ h2)) (List.map cZ h2).length 4)
abbrev avP h0 h1 h2 h3(h4:dF->Prop):=∃b0:dF,(([oI h0 (a_ h1) h2,.aq h3 h1 4]:LV)=[oI h0 (a_ h1) h2,.aq (az b0) b0.length 4]/\dc (fe b0/\b0.length<4000000))/\h4 b0
abbrev avQ:=aJ (J1 4 2 10 3 11 (.aa 4 0) 12 (.aa 5 0) 13 (.aa 6 0))
abbrev av7 h0 h1 h2 h3 h4 h5 h6 h7:=aE (J7 (fp h0 1) (fc h0) (dx h1 h2 h3 h4 h5) h6 h7 (yR 2 1099511627776) (yR 2 1099511627775)) 7
theorem aMu{s k n nm cs len N L Q}:
 pY Z (T6 N) Yg L Q 3000 82 2 Tf (dg Z BC 82 0) (we s (dx k n nm cs len))=avP nm len 0 cs (λw=>aZ (!s.tr) (Q (iY 2 1 6) (we s (ahT nm len w))) (dc True/\aZ (!Vd nm len) (Q (iY 2 1 6) (we s (ahT nm len w))) (Hf s (λaH=>dc True/\L avQ (av7 aH.nx k n nm cs len (ahT nm len w) (dx 0 (At (bQ aH.nv)) [] [] 0)) (dg Z Yg 82 0))))):=by kernel_rfl
abbrev ah8 h0 h1 h2 h3 h4 h5 h6 h7 h8 h9 dG(eB:(ax×ax)->Prop):=∃b0:ax×ax,xK h0 (Ck h1 h2 h3 h4 h5 h6 h7 h8 h9 dG=iA (.ah (bn b0.1++bn b0.2) 49)/\bA b0.1/\bA b0.2) (eB b0)
abbrev aik(h0:ax×ax):=(.aq (HAppend.hAppend (eU (cZ h0.1)) (eU (cZ h0.2))) 2 4:AV)
theorem aMv{s k n nm cs len ez ar an ds m a N L Q}:
 pY Z (T6 N) (λ_=>[]) L Q 3000 82 2 avQ (dg Z Yg 82 0) (av7 s k n nm cs len (.ah (wj 1 ez ar an ds m 0) 146) (.ah (fS 0 a [] [] 0) 49))=ah8 [oI [] 2 1099511627776,iY 0 2 4] 0 a [] [] 0 k n nm cs len (λw=>im (cN k n nm cs len)/\im (cN 0 a [] [] 0)/\im (oI [] 2 1099511627775)/\im (.aj (wj 1 ez ar an ds m 0))/\ah8 [oI [] 2 1099511627775,iY 0 2 4] 0 a [] [] 0 k n nm cs len (λaH=>im (.aj (wj 1 ez ar an ds m 0))/\Q (iY 2 3 6) (we s (.ah [J 1,.ao [],J 2,J 1099511627776,aik w,J 0,J 1,.ao ez,J ar,J an,.aq ds m 4,J 0,J 1,.ao [],J 2,J 1099511627775,aik aH,J 0] 146)))):=by kernel_rfl
theorem Qd{g}(l):fO g (bX l) (.ad g l.length 6)=oS l:=by simp[fO,oS,tj]
theorem ald{f A s s2 l1 l2}(h:bC Z f A (hT s) (.bK 2 0 2 2 1 true) (aE [(0,fp s2 3),(1,.bg []),(2,.ah [.ad 4 l1.length 6,.ad 5 l2.length 6] 104),(3,fc s2),(4,jC l1),(5,jC l2)] 6)):
 bC Z f A (hT s) (.aq ([l1,l2].map oS) 2 1) (oX s2):=by
 have h2:=si (g:=4) h rfl (by show(2:Nat)<=6;omega);have e2:vr 4 (bX l1) [(0,fp s2 3),(1,.bg []),(2,.ah [.ad 4 l1.length 6,.ad 5 l2.length 6] 104),(3,fc s2),(4,jC l1),(5,jC l2)]=[(0,fp s2 3),(1,.bg []),(2,.ah [oS l1,.ad 5 l2.length 6] 104),(3,fc s2),(4,.bg []),(5,jC l2)]:=by rw[<-Qd l1];rfl
 rw[e2]at h2;have h3:=si (g:=5) h2 rfl (by show(2:Nat)<=6;omega);have e3:vr 5 (bX l2) [(0,fp s2 3),(1,.bg []),(2,.ah [oS l1,.ad 5 l2.length 6] 104),(3,fc s2),(4,.bg []),(5,jC l2)]=[(0,fp s2 3),(1,.bg []),(2,.ah [oS l1,oS l2] 104),(3,fc s2),(4,.bg []),(5,.bg [])]:=by rw[<-Qd l2];rfl
 rw[e3]at h3;have h4:=C_ (g:=2) h3 rfl rfl (by show(2:Nat)<=6;omega);exact kJ (ps:=[(0,0),(1,1),(3,2)]) h4
theorem alc{f A s s2 l1}(h:bC Z f A (hT s) (.bK 2 0 1 1 1 true) (aE [(0,fp s2 3),(1,.bg []),(2,.ah [.ad 4 l1.length 6] 104),(3,fc s2),(4,jC l1)] 5)):
 bC Z f A (hT s) (.aq ([l1].map oS) 1 1) (oX s2):=by
 have h2:=si (g:=4) h rfl (by show(2:Nat)<=5;omega);have e2:vr 4 (bX l1) [(0,fp s2 3),(1,.bg []),(2,.ah [.ad 4 l1.length 6] 104),(3,fc s2),(4,jC l1)]=[(0,fp s2 3),(1,.bg []),(2,.ah [oS l1] 104),(3,fc s2),(4,.bg [])]:=by rw[<-Qd l1];rfl
 rw[e2]at h2;have h4:=C_ (g:=2) h2 rfl rfl (by show(2:Nat)<=5;omega);exact kJ (ps:=[(0,0),(1,1),(3,2)]) h4
theorem aOA{a b n sz}(hl:a.length=b.length)(h:jn a b):Wk (.aq a n sz) (.aq b n sz):=by
 intro I x hx;have⟨p,c,e,h1,h2⟩:=hx;refine⟨p,c,e,by rw[<-hl];exact h1,?_⟩;rcases h2 with h2|⟨b',x,dL,el,fz,h2,h3,h4,h5,h6⟩
 .exact .inl h2
 .exact .inr ⟨b',x,dL,el,fz,h2,h3,h4,by rw[<-hl];exact h5,by rw[<-hl];exact h _ _ h6⟩
theorem aya{f A s s2 l1}(h:bC Z f A (hT s) (.bK 2 0 2 2 1 true) (aE [(0,fp s2 3),(1,.bg []),(2,.ah [.ad 4 l1.length 6,.aM] 104),(3,fc s2),(4,jC l1)] 5)):
 bC Z f A (hT s) (.aq ([l1,[]].map oS) 2 1) (oX s2):=by
 have h2:=si (g:=4) h rfl (by show(2:Nat)<=5;omega);have e2:vr 4 (bX l1) [(0,fp s2 3),(1,.bg []),(2,.ah [.ad 4 l1.length 6,.aM] 104),(3,fc s2),(4,jC l1)]=[(0,fp s2 3),(1,.bg []),(2,.ah [oS l1,.aM] 104),(3,fc s2),(4,.bg [])]:=by rw[<-Qd l1];rfl
 rw[e2]at h2;have h3:=C_ (g:=2) h2 rfl rfl (by show(2:Nat)<=5;omega);have h4:=sj (v1:=.aq ([l1,[]].map oS) 2 1) h3 (aOA rfl (.fJ (.tQ 6 (.mn _)))) (by show(2:Nat)<=5;omega);exact kJ (ps:=[(0,0),(1,1),(3,2)]) h4
theorem adx{s l n cs}(h1:n=l.length)(h2:cs=bX l):fD (.ad 2 l.length 6) (Bj s l) (.ad 2 n 6) (aE [(0,fp s 3),(1,.bg []),(2,.au cs 146),(3,fc s)] 4):=by subst h1 h2;exact aA
theorem amP(l k v):bX l++[J k,.ao [],J 0,J 0,.aq [] 0 4,J v]=bX (l++[oG k v]):=by rw[A6];rfl
theorem CZ(l):(bX l).all AV.dH=true/\(bX l).all f_=true:=by
 induction l with
 |nil=>exact aA
 |cons g l ih=>simp only[bX,sK,ih.1,ih.2,DU];exact aA
theorem aDW{N}(hS:aF Z (T0 N)):∀w A H,(Rq N).aI w A H->bC Z 168 A H ((Rq N).v w) ((Rq N).aD w):=by
 rintro⟨s,⟨k,n,nm,l⟩,c,s2,gl⟩ A H ⟨rfl,rfl,aN,he⟩;replace aN:jo N 3000000 s (.mk k n nm l):=aN;simp only[o9]at he;have hb:=tp N s.nx (.mk k n nm l) (bQ s.nv) aN.2.1;generalize hr:gR N s.nx (.mk k n nm l) (bQ s.nv)=r at he hb;have⟨r1,r2⟩:=r;cases he;have hm:=aN.2.2.1;simp only at hb;refine eE 25 hS aKK ?_;refine⟨s,aA,da,?_⟩;refine zG (g:=3) (new:=jC [oG 3 (bQ s.nv)]) ?_ rfl (λI e o h=>r7 rfl h) rfl;refine hE hS (@aKJ s.nx k n nm (az l) l.length (bQ s.nv) [oG 3 (bQ s.nv)] N _ _) ?_;refine⟨⟨s.nx,.mk k n nm l,bQ s.nv,r1,r2⟩,⟨rfl,rfl,aN,hr⟩,tj _,λh0=>?_,λh1=>?_⟩
 .have:=mE h0;subst this;exact⟨by simp,da,⟨rfl,by simp,rfl,rfl⟩,adx rfl rfl⟩
 .have h1:=h1;refine⟨⟨rfl,by show 1+r2.length<=4194304;omega,CZ _⟩,da,⟨by show(bX [oG 3 (bQ s.nv)]++bX r2).length=(1+r2.length)*6;rw[<-A6,tj,cj];rfl,by show 1+r2.length+1<=4194304;omega,rfl,rfl⟩,adx ?_ ?_⟩
  .show 1+r2.length+1=_;simp;omega
  .show bX [oG 3 (bQ s.nv)]++bX r2++_=_;rw[<-A6,amP];rfl
theorem akd{N}(hS:aF Z (T0 N)):aF Z (T1 N):=bY hS (aDW hS)
theorem am1(a):((az [a]).drop 0).take 4=bn a:=by rw[xw,az,az,jt];exact BN (by rw[pz];omega)
theorem atB{N}(hS:aF Z (T1 N)){s s2 s3 k n c k1 n1 a b nm ez x y x1 y1 gs r2 r3}(hy1:jo N 3000000 s y1)(l5:gR N s y1 c=(s2,r2))(hy:jo N 3000000 s2 y)(Ra:gR N s2 y c=(s3,r3))(hl:gs.length+1+r2.length<=4000000):
 ba Z 143 68 2 (.bK 2 0 2 2 1 true) (aE [(0,fp s3 3),(1,.bg []),(2,.ah [.ad 4 (gs++(oG 4 a::r2)).length 6,.ad 5 r3.length 6] 104),(3,fc s3),(4,jC (gs++(oG 4 a::r2))),(5,jC r3)] 6)
  (aJ [(0,.aa 0 0),(2,J c),(4,.aa 2 0),(7,.ad 3 gs.length 6),(8,.aa 4 0),(9,J a),(10,J b)]) (aE [(0,fp s 5),(1,.bg []),(2,dx k n nm (az [x,y]) 2),(3,jC gs),(4,dx k1 n1 ez (az [x1,y1]) 2),(5,fc s)] 6) (dg Z Rv 143 0):=by
 refine hE hS aKv ?_;have⟨ky,ny,sy,ly⟩:=y;have⟨ky1,ny1,sy1,ly1⟩:=y1;have e1:bX gs++[J 4,.ao [],J 0,J 0,.aq [] 0 4,J a]=bX (gs++[oG 4 a]):=amP _ _ _;refine⟨da,⟨tj _,by omega,rfl,rfl⟩,by decide,ky1,ny1,sy1,az ly1,ly1.length,yg _ _,⟨s,.mk ky1 ny1 sy1 ly1,c,s2,r2⟩,⟨rfl,rfl,hy1,l5⟩,tj _,λh0=>?_,λh1=>?_⟩
 .have:=mE h0;subst this;refine⟨by omega,by decide,ky,ny,sy,az ly,ly.length,yg _ _,⟨s2,.mk ky ny sy ly,c,s3,r3⟩,⟨rfl,rfl,hy,Ra⟩,?_⟩;rw[e1,cj];exact aA
 .have h1:=h1;refine⟨⟨by rw[e1,tj,cj];rfl,by show gs.length+1+r2.length<=4194304;omega,CZ _⟩,by decide,ky,ny,sy,az ly,ly.length,yg _ _,⟨s2,.mk ky ny sy ly,c,s3,r3⟩,⟨rfl,rfl,hy,Ra⟩,?_⟩;have e2:gs.length+1+r2.length=(gs++(oG 4 a::r2)).length:=by simp;omega
  have e3:bX gs++[J 4,.ao [],J 0,J 0,.aq [] 0 4,J a]++bX r2=bX (gs++(oG 4 a::r2)):=by rw[e1,<-A6,jE];rfl
  rw[e2,e3];exact aA
theorem zy{N M N' M' s s' g g'}(h:jo N M s g)(h1:bA g')(h2:gm g'<N')(h3:gm g'<=gm g)(h4:s'.an.length+gm g'<M')(h5:lK g'):jo N' M' s' g':=⟨h1,h2,by have:=h.2.2.1;omega,h4,h5⟩
theorem az1{N}(hS:aF Z (T1 N)):∀w A H,(sd 0 N).aI w A H->bC Z 143 A H ((sd 0 N).v w) ((sd 0 N).aD w):=by
 rintro⟨s,g,c,s2,ls⟩ A H ⟨rfl,rfl,aN,m_,he⟩;simp only at aN m_ he;obtain⟨k,n,x,y,rfl,Mp,jk⟩:=tH (.inr (.inl rfl)) m_;have hx:=aN.1.2.2.1;have hy:=aN.1.2.2.2.1;have g1:=pG x;have g2:=pG y;have hN:=aN.2.1;have hM:=aN.2.2.1;have hA:=aN.2.2.2.1;have hG:=aN.2.2.2.2;simp only[iv,jJ,ax.aU,n6,tY]at he;by_cases hi:ec x [45,62] 2=true
 .rw[aP hi]at he;obtain⟨kx,nx,x1,y1,rfl,hgx,aoR⟩:=tH (.inr (.inr rfl)) hi;have Bv:=hx.2.2.1;have hy1:=hx.2.2.2.1;have g3:=pG x1;have g4:=pG y1;simp only[n6,tY]at he;have b1:=tp N s.nx.nx x1 (bQ s.nx.nv) (by omega);generalize rA:gR N s.nx.nx x1 (bQ s.nx.nv)=r1 at he b1;obtain⟨s3,l1⟩:=r1;have b2:=tp N s3 y1 c (by omega);simp only at he;generalize l5:gR N s3 y1 c=r2 at he b2;obtain⟨s4,l2⟩:=r2;have b3:=tp N s4 y c (by omega);simp only at he;generalize Ra:gR N s4 y c=r3 at he b3;obtain⟨s5,l3⟩:=r3;cases he;have hs:s.nx.nx.an=s.an:=rfl;simp only[hs]at b1 b2 b3;have IK:jo N 3000000 s.nx.nx x1:=zy aN Bv (by omega) (by omega) (by rw[hs];omega) (aoR (jk hG).1).1;have hq2:jo N 3000000 s3 y1:=zy aN hy1 (by omega) (by omega) (by omega) (aoR (jk hG).1).2;have hq3:jo N 3000000 s4 y:=zy aN hy (by omega) (by omega) (by omega) (jk hG).2;refine ald ?_;refine eE 68 hS atA ?_;refine⟨Gv _,kx,nx,[45,62],az [x1,y1],2,A9 _ _,da,al (λ_=>?_) λh=>by rw[show oy kx [45,62] 2 [45,62] 2=true from hi]at h;cases h⟩;refine⟨s,aA,s.nx,aA,da,da,?_⟩;refine zG (g:=3) (new:=jC [oG 2 (bQ s.nv),oG 3 (bQ s.nx.nv)]) ?_ rfl (λI e o h=>r7 rfl h) rfl;refine hE hS (@aKu s.nx.nx k n [59] (az [.mk kx nx [45,62] [x1,y1],y]) 2 c kx nx [45,62] (az [x1,y1]) 2 (bQ s.nv) (bQ s.nx.nv) [oG 2 (bQ s.nv),oG 3 (bQ s.nx.nv)] N _ _) ?_;have⟨k1,n1,m1,q1⟩:=x1;refine⟨Gv _,k1,n1,m1,az q1,q1.length,A9 _ _,⟨s.nx.nx,.mk k1 n1 m1 q1,bQ s.nx.nv,s3,l1⟩,⟨rfl,rfl,IK,rA⟩,tj _,λh0=>?_,λh1=>?_⟩
  .have:=mE h0;subst this;exact⟨by simp,atB hS hq2 l5 hq3 Ra (by simp;omega)⟩
  .refine⟨⟨rfl,by show 2+l1.length<=4194304;omega,CZ _⟩,?_⟩;have:=atB (gs:=[oG 2 (bQ s.nv),oG 3 (bQ s.nx.nv)]++l1) (k:=k) (n:=n) (nm:=[59]) (x:=.mk kx nx [45,62] [.mk k1 n1 m1 q1,y1]) (k1:=kx) (n1:=nx) (ez:=[45,62]) (x1:=.mk k1 n1 m1 q1) (a:=bQ s.nv) (b:=bQ s.nx.nv) hS hq2 l5 hq3 Ra (by simp;omega);rw[show jC ([oG 2 (bQ s.nv),oG 3 (bQ s.nx.nv)]++l1)=.au (bX [oG 2 (bQ s.nv),oG 3 (bQ s.nx.nv)]++bX l1) 146 by rw[jC,A6],show([oG 2 (bQ s.nv),oG 3 (bQ s.nx.nv)]++l1).length=2+l1.length by simp only[cj,dJ,gH]]at this;exact this
 .rw[aw hi]at he;have b1:=tp N s x c (by omega);generalize rA:gR N s x c=r1 at he b1;have⟨s3,l1⟩:=r1;have b2:=tp N s3 y c (by omega);generalize l5:gR N s3 y c=r2 at he b2;have⟨s4,l2⟩:=r2;cases he;simp only at b1 b2;have Q9:jo N 3000000 s x:=zy aN hx (by omega) (by omega) (by omega) (jk hG).1;have Q_:jo N 3000000 s3 y:=zy aN hy (by omega) (by omega) (by omega) (jk hG).2;refine ald ?_;refine eE 68 hS atA ?_;have⟨k1,n1,m1,q1⟩:=x;have⟨k2,n2,m2,q2⟩:=y;refine⟨Gv _,k1,n1,m1,az q1,q1.length,A9 _ _,da,al (λh=>absurd h hi) λ_=>?_⟩;exact⟨⟨s,.mk k1 n1 m1 q1,c,s3,l1⟩,⟨rfl,rfl,Q9,rA⟩,by simp,k2,n2,m2,az q2,q2.length,yg _ _,⟨s3,.mk k2 n2 m2 q2,c,s4,l2⟩,⟨rfl,rfl,Q_,l5⟩,rfl,rfl⟩
theorem ake{N}(hS:aF Z (T0 N)):aF Z (T2 N):=bY (akd hS) (az1 (akd hS))
theorem aNh{N}(hS:aF Z (T2 N)):∀w A H,(sd 1 N).aI w A H->bC Z 144 A H ((sd 1 N).v w) ((sd 1 N).aD w):=by
 rintro⟨s,g,c,s2,ls⟩ A H ⟨rfl,rfl,aN,m_,he⟩;simp only at aN m_ he;obtain⟨k,n,x,y,rfl,Mp,jk⟩:=tH (.inr (.inr rfl)) m_;have hx:=aN.1.2.2.1;have hy:=aN.1.2.2.2.1;have hN:=aN.2.1;have hA:=aN.2.2.2.1;have hG:=aN.2.2.2.2;simp only[iv,jJ,ax.aU,n6,tY]at he;have b1:=ae3 (s:=s) (tp N) (by omega:gm x<N);generalize rA:o9 (gR N) s x=r1 at he b1;have⟨s3,l1⟩:=r1;have b2:=tp N s3 y c (by omega);generalize l5:gR N s3 y c=r2 at he b2;have⟨s4,l2⟩:=r2;cases he;simp only at b1 b2;have Q9:jo N 3000000 s x:=zy aN hx (by omega) (by omega) (by omega) (jk hG).1;have Q_:jo N 3000000 s3 y:=zy aN hy (by omega) (by omega) (by omega) (jk hG).2;refine alc ?_;refine eE 24 hS aKw ?_;have⟨k1,n1,m1,q1⟩:=x;have⟨k2,n2,m2,q2⟩:=y;refine⟨Gv _,k1,n1,m1,az q1,q1.length,A9 _ _,⟨s,.mk k1 n1 m1 q1,0,s3,l1⟩,⟨rfl,rfl,Q9,rA⟩,by simp,k2,n2,m2,az q2,q2.length,yg _ _,⟨s3,.mk k2 n2 m2 q2,c,s4,l2⟩,⟨rfl,rfl,Q_,l5⟩,tj _,λh0=>?_,λh1=>?_⟩
 .have:=mE h0;subst this;refine⟨by show l1.length<=4194304;omega,?_⟩;rw[jt];exact aA
 .refine⟨⟨tj _,by show l1.length+l2.length<=4194304;omega,CZ _⟩,?_⟩;rw[<-A6,<-cj];exact aA
theorem akf{N}(hS:aF Z (T0 N)):aF Z (T3 N):=bY (ake hS) (aNh (ake hS))
theorem aEQ{N}(hS:aF Z (T3 N)):∀w A H,(sd 2 N).aI w A H->bC Z 145 A H ((sd 2 N).v w) ((sd 2 N).aD w):=by
 rintro⟨s,g,c,s2,ls⟩ A H ⟨rfl,rfl,aN,m_,he⟩;simp only at aN m_ he;obtain⟨k,n,x,rfl,Mp,jk⟩:=F5 (.inl rfl) m_;have hx:=aN.1.2.2.1;have hN:=aN.2.1;have hA:=aN.2.2.2.1;have hG:=aN.2.2.2.2;have g2:=LX x;simp only[iv,jJ,ax.aU,n6]at he;have b1:=tp N s.nx.nx (iQ x) (bQ s.nx.nv) (by omega);generalize rA:gR N s.nx.nx (iQ x) (bQ s.nx.nv)=r1 at he b1;have⟨s3,l1⟩:=r1;cases he;have hs:s.nx.nx.an=s.an:=rfl;simp at b1;have IK:jo N 3000000 s.nx.nx (iQ x):=zy aN (YH hx) (by omega) (by omega) (by rw[hs];omega) (Wg (jk hG));refine aya ?_;refine eE 40 hS aKy ?_;refine⟨s,aA,s.nx,aA,da,da,?_⟩;refine zG (g:=3) (new:=jC [oG 2 (bQ s.nv),oG 3 (bQ s.nx.nv)]) ?_ rfl (λI e o h=>r7 rfl h) rfl;refine hE hS (@aKx s.nx.nx k n [92,43] (az [x]) 1 (bQ s.nv) (bQ s.nx.nv) [oG 2 (bQ s.nv),oG 3 (bQ s.nx.nv)] N _ _) ?_;have⟨k1,n1,m1,q1⟩:=x;refine⟨Gv _,k1,n1,m1,az q1,q1.length,am1 _,.mk k1 n1 m1 q1,⟨rfl,rfl,hx⟩,⟨s.nx.nx,iQ (.mk k1 n1 m1 q1),bQ s.nx.nv,s3,l1⟩,⟨by rw[<-py];rfl,rfl,IK,rA⟩,tj _,λh0=>?_,λh1=>?_⟩
 .have:=mE h0;subst this;exact⟨by simp,da,da,⟨rfl,by simp,rfl,rfl⟩,rfl,rfl⟩
 .have e1:bX [oG 2 (bQ s.nv),oG 3 (bQ s.nx.nv)]++bX l1=bX (oG 2 (bQ s.nv)::oG 3 (bQ s.nx.nv)::l1):=rfl;refine⟨⟨rfl,by show 2+l1.length<=4194304;omega,CZ _⟩,da,da,⟨by show(bX [oG 2 (bQ s.nv),oG 3 (bQ s.nx.nv)]++bX l1).length=(2+l1.length)*6;rw[e1,tj];simp;omega,by show 2+l1.length+2<=4194304;omega,rfl,rfl⟩,?_⟩;have e2:2+l1.length+2=(oG 2 (bQ s.nv)::oG 3 (bQ s.nx.nv)::(l1++[oG 4 (bQ s.nv),oG 5 0])).length:=by simp;omega
  have e3:bX [oG 2 (bQ s.nv),oG 3 (bQ s.nx.nv)]++bX l1++[J 4,.ao [],J 0,J 0,.aq [] 0 4,J (bQ s.nv),J 5,.ao [],J 0,J 0,.aq [] 0 4,J 0]=bX (oG 2 (bQ s.nv)::oG 3 (bQ s.nx.nv)::(l1++[oG 4 (bQ s.nv),oG 5 0])):=by rw[e1,<-j3,<-j3,A6];rfl
  show fD _ _ (.bK 2 0 2 2 1 true) (aE [(0,fp s3 3),(1,.bg []),(2,.ah [.ad 4 (2+l1.length+2) 6,.aM] 104),(3,fc s3),(4,.au (bX [oG 2 (bQ s.nv),oG 3 (bQ s.nx.nv)]++bX l1++[J 4,.ao [],J 0,J 0,.aq [] 0 4,J (bQ s.nv),J 5,.ao [],J 0,J 0,.aq [] 0 4,J 0]) 146)] 5);rw[e2,e3];exact aA
theorem akg{N}(hS:aF Z (T0 N)):aF Z (T4 N):=bY (akf hS) (aEQ (akf hS))
theorem aE0{N}(hS:aF Z (T4 N)):∀w A H,(sd 3 N).aI w A H->bC Z 146 A H ((sd 3 N).v w) ((sd 3 N).aD w):=by rintro⟨s,g,c,s2,ls⟩ A H ⟨rfl,rfl,aN,m_,he⟩;simp only at aN m_ he;obtain⟨k,n,x,rfl,Mp,jk⟩:=F5 (.inr rfl) m_;have hx:=aN.1.2.2.1;have hN:=aN.2.1;have hA:=aN.2.2.2.1;have hG:=aN.2.2.2.2;have g2:=LX x;simp only[iv,jJ,ax.aU,n6]at he;generalize rA:o9 (gR N) s (iQ x)=r1 at he;have⟨s3,l1⟩:=r1;cases he;have IK:jo N 3000000 s (iQ x):=zy aN (YH hx) (by omega) (by omega) (by omega) (Wg (jk hG));refine alc ?_;refine eE 15 hS aKz ?_;have⟨k1,n1,m1,q1⟩:=x;refine⟨Gv _,k1,n1,m1,az q1,q1.length,am1 _,.mk k1 n1 m1 q1,⟨rfl,rfl,hx⟩,⟨s,iQ (.mk k1 n1 m1 q1),0,s3,l1⟩,⟨?_,rfl,IK,rA⟩,rfl,rfl⟩;rw[<-py];rfl
theorem akh{N}(hS:aF Z (T0 N)):aF Z (T5 N):=bY (akg hS) (aE0 (akg hS))
def h8(s:dq)(ez:LN)(lV:Int)(f:Nat)(k n:Int)(nm:LN)(cs:LV)(len:Nat)(m:Nat)(x:Int):AH:=aE [(0,fp s 6),(1,.bg []),(2,Vr ez lV f),(3,dx k n nm cs len),(4,vt),(5,yR (a_ m) x),(6,fc s)] 7
abbrev TE h0 h1 h2 h3 h4 h5:=([(0,.aa 0 0),(8,.aa 2 0),(9,h0),(10,.aa 3 0),(11,J h1),(12,h2),(50,.aq h3 h4 1),(51,J (a_ h4)),(52,h5)]:List (Nat×AV))
abbrev Hj h0 h1 h2 h3 h4 h5 h6 h7 h8 h9(dG:LT) eB iV kc jL:=∃b0:Bw,(AA (cN h0 h1 h2 h3 h4) (J h5) (.aj (bn b0.g)) (J b0.c)/\hT h6=hT b0.s/\jo (h7+4) 3000001 b0.s b0.g/\ec b0.g (qv h8) h9=true/\iv (gR h7) h8 b0.s b0.g b0.c=Prod.mk b0.s2 b0.ls)/\dG (aJ (TE eB iV .aM (List.map oS b0.ls) b0.ls.length (J 0))) (N_ (fp b0.s2 4) (.bg []) vt (yR kc jL) (fc b0.s2)) (aB Z 115 0)
abbrev Ha h0 h1 h2 h3 h4 h5 h6:=AF (T5 h0) uF h1 h2 115 2 (ah1 h3 h4 5 h5) F_ h6
theorem aJ8{s ez lV k n nm cs len c df x ds m N L Q}:
 Ha N L Q c (.aq ds m 4) df (h8 s ez lV 143 k n nm cs len m x)=Hj k n nm cs len c s N 0 2 L (.aq ds m 4) df (a_ m) x:=by kernel_rfl
theorem aJ2{s ez lV k n nm cs len c df x N L Q}:
 Ha N L Q c .aM df (h8 s ez lV 143 k n nm cs len 0 x)=Hj k n nm cs len c s N 0 2 L .aM df 0 x:=by kernel_rfl
theorem aJ9{s ez lV k n nm cs len c df x ds m N L Q}:
 Ha N L Q c (.aq ds m 4) df (h8 s ez lV 144 k n nm cs len m x)=Hj k n nm cs len c s N 1 2 L (.aq ds m 4) df (a_ m) x:=by kernel_rfl
theorem aJ3{s ez lV k n nm cs len c df x N L Q}:
 Ha N L Q c .aM df (h8 s ez lV 144 k n nm cs len 0 x)=Hj k n nm cs len c s N 1 2 L .aM df 0 x:=by kernel_rfl
theorem aKa{s ez lV k n nm cs len c df x ds m N L Q}:
 Ha N L Q c (.aq ds m 4) df (h8 s ez lV 145 k n nm cs len m x)=Hj k n nm cs len c s N 2 1 L (.aq ds m 4) df (a_ m) x:=by kernel_rfl
theorem aJ4{s ez lV k n nm cs len c df x N L Q}:
 Ha N L Q c .aM df (h8 s ez lV 145 k n nm cs len 0 x)=Hj k n nm cs len c s N 2 1 L .aM df 0 x:=by kernel_rfl
theorem aKb{s ez lV k n nm cs len c df x ds m N L Q}:
 Ha N L Q c (.aq ds m 4) df (h8 s ez lV 146 k n nm cs len m x)=Hj k n nm cs len c s N 3 1 L (.aq ds m 4) df (a_ m) x:=by kernel_rfl
theorem aJ5{s ez lV k n nm cs len c df x N L Q}:
 Ha N L Q c .aM df (h8 s ez lV 146 k n nm cs len 0 x)=Hj k n nm cs len c s N 3 1 L .aM df 0 x:=by kernel_rfl
abbrev aad h0 h1 h2:=([(0,.aa 0 0),(8,.aa 2 0),(9,h0),(10,.aa 3 0),(11,J h1),(12,h2)]:List (Nat×AV))
abbrev Of h0 h1 h2 h3:=OE h0 vt (yR h1 h2) (.au h3 106)
theorem aJ7{s df x i ds m bs nb fs nf N L Q}:
 ju (T5 N) uF L Q 115 2 (TE (.aq ds m 4) df (.ad 4 nf 5) bs nb (J i)) (Of s (a_ m) x fs)=jQ i nb (λcv=>∃cs,∃len,((bs.drop (cv*1)).take 1:LV)=[.aq cs len 6]/\dc ((m=0->False)/\m<=4000000/\ds.length=m*4/\Hm ds)/\im (oI [] (a_ m) x)/\xH fs nf 5 L (TE (.aq ds m 4) df (.ad 4 (nf+1) 5) bs nb (cu i)) (Of s (a_ m) x (fs++rS [] (a_ m) x ds m cs len)) 115 0) (L (aJ (aad (.aq ds m 4) df (.ad 4 nf 5))) (Of s (a_ m) x fs) (dg Z uF 115 0)):=by kernel_rfl
abbrev aaC h0 h1:=jv (fp h0 2) (.bg []) h1
theorem aJ0{s df x ds m fs nf N L Q}:
 AE (T5 N) L Q 115 2 (aJ (aad (.aq ds m 4) df (.aq fs nf 5))) uF (OE s vt (yR (a_ m) x) (.bg []))=ia df s.an.length (λi=>i*1+1<=(jW s.an).length/\avP [] m x ds (λw=>Q (.aj (wj 1 [] (a_ m) x (az (List.map cZ w)) (List.map cZ w).length 0)) (aaC s (.au (iJ (jW s.an) (i*1) [.aq fs nf 5]) 84)))):=by kernel_rfl
theorem aJ6{s df x i bs nb fs nf N L Q}:
 ju (T5 N) uF L Q 115 2 (TE .aM df (.ad 4 nf 5) bs nb (J i)) (Of s 0 x fs)=jQ i nb (λcv=>∃cs,∃len,((bs.drop (cv*1)).take 1:LV)=[.aq cs len 6]/\dc (im (oI [] 0 x)/\xH fs nf 5 L (TE .aM df (.ad 4 (nf+1) 5) bs nb (cu i)) (Of s 0 x (fs++[.ao [],J 0,J x,.aM,.aq cs len 6])) 115 0)) (L (aJ (aad .aM df (.ad 4 nf 5))) (Of s 0 x fs) (dg Z uF 115 0)):=by kernel_rfl
theorem aJZ{s df x fs nf N L Q}:
 AE (T5 N) L Q 115 2 (aJ (aad .aM df (.aq fs nf 5))) uF (OE s vt (yR 0 x) (.bg []))=ia df s.an.length (λi=>i*1+1<=(jW s.an).length/\dc (Q (.aj (wj 1 [] 0 x [] 0 0)) (aaC s (.au (iJ (jW s.an) (i*1) [.aq fs nf 5]) 84)))):=by kernel_rfl
def a9:dF->AV
 |[]=>.aM
 |t::l=>.aq (az (t::l)) (l.length+1) 4
theorem aw1{I vs eA el hJ}(hw:jn vs eA)(hl:eA.length=vs.length/\eA.all AV.dH=vs.all AV.dH){e o}(h:OR I (.au vs el) e o):OR I (.au eA hJ) e o:=by have⟨cs,lJ,h1,h2,h3,h4,h5⟩:=h;exact⟨cs,lJ,h1,h2,by rw[hl.1];exact h3,by rw[hl.1];exact hw _ _ h4,by rw[hl.2];exact h5⟩
def pdS(n:Nat)(x:Int):gZ:=⟨[],(n:Int),x⟩
abbrev t8(c df:Int)(a:AV):Ev.Tr AV:=aJ [(0,.aa 0 0),(3,J c),(5,.aa 2 0),(6,.aa 3 0),(8,.aa 4 0),(9,a),(10,.aa 5 0),(11,J df),(12,.aM)]
abbrev t9(df:Int)(a:AV)(bs:LV)(nb nf:Nat)(i:Int):Ev.Tr AV:=aJ [(0,.aa 0 0),(8,.aa 2 0),(9,a),(10,.aa 3 0),(11,J df),(12,.ad 4 nf 5),(50,.aq bs nb 1),(51,J (a_ nb)),(52,J i)]
abbrev h9(s:dq)(m:Nat)(x:Int)(fs:LV):AH:=aE [(0,fp s 5),(1,.bg []),(2,vt),(3,yR (a_ m) x),(4,.au fs 106),(5,fc s)] 6
theorem aGi{N}(hS:aF Z (T5 N)){v H1 s s2 kk t c df x ls args}(hk:kk<4)(aN:jo (N+4) 3000001 s t)(hi:ec t (qv kk) (qY kk)=true)(hr:iv (gR N) kk s t c=(s2,ls))(h:ba Z 115 75 2 v H1 (t9 df (a9 args) (ls.map oS) ls.length 0 0) (h9 s2 args.length x []) (aB Z 115 0)):
 ba Z 115 75 2 v H1 (t8 c df (a9 args)) (h8 s (qv kk) (qY kk) (LK kk) t.bV t.n t.cq (az t.aU) t.aU.length args.length x) (dg Z F_ 115 0):=by
 have⟨k,n,nm,l⟩:=t;have nil:ba Z 115 75 2 v H1 (aJ [(0,.aa 0 0),(8,.aa 2 0),(9,a9 args),(10,.aa 3 0),(11,J df),(12,.aM),(50,.aq (ls.map oS) ls.length 1),(51,J (a_ ls.length)),(52,J 0)]) (aE [(0,fp s2 4),(1,.bg []),(2,vt),(3,yR (a_ args.length) x),(4,fc s2)] 5) (aB Z 115 0):=by
  cases args with
  |nil=>refine zF 5 106 [12] ?_ rfl;exact Bm (mG:=[2,3,5]) (ls:=[0,8,9,10,11,12,50,51,52]) (ps:=[(0,0),(1,1),(2,2),(3,3),(5,4),(4,5)]) h
  |cons a tl=>refine zF 5 106 [12] ?_ rfl;exact Bm (mG:=[2,3,5]) (ls:=[0,8,9,10,11,12,50,51,52]) (ps:=[(0,0),(1,1),(2,2),(3,3),(5,4),(4,5)]) h
 match kk,hk with
 |0,_=>
  refine hD hS uF ?_;cases args with
  |nil=>exact cast (@aJ2 ..).symm ⟨⟨s,.mk k n nm l,c,s2,ls⟩,⟨rfl,rfl,aN,hi,hr⟩,nil⟩
  |cons a tl=>exact cast (@aJ8 ..).symm ⟨⟨s,.mk k n nm l,c,s2,ls⟩,⟨rfl,rfl,aN,hi,hr⟩,nil⟩
 |1,_=>
  refine hD hS uF ?_;cases args with
  |nil=>exact cast (@aJ3 ..).symm ⟨⟨s,.mk k n nm l,c,s2,ls⟩,⟨rfl,rfl,aN,hi,hr⟩,nil⟩
  |cons a tl=>exact cast (@aJ9 ..).symm ⟨⟨s,.mk k n nm l,c,s2,ls⟩,⟨rfl,rfl,aN,hi,hr⟩,nil⟩
 |2,_=>
  refine hD hS uF ?_;cases args with
  |nil=>exact cast (@aJ4 ..).symm ⟨⟨s,.mk k n nm l,c,s2,ls⟩,⟨rfl,rfl,aN,hi,hr⟩,nil⟩
  |cons a tl=>exact cast (@aKa ..).symm ⟨⟨s,.mk k n nm l,c,s2,ls⟩,⟨rfl,rfl,aN,hi,hr⟩,nil⟩
 |3,_=>
  refine hD hS uF ?_;cases args with
  |nil=>exact cast (@aJ5 ..).symm ⟨⟨s,.mk k n nm l,c,s2,ls⟩,⟨rfl,rfl,aN,hi,hr⟩,nil⟩
  |cons a tl=>exact cast (@aKb ..).symm ⟨⟨s,.mk k n nm l,c,s2,ls⟩,⟨rfl,rfl,aN,hi,hr⟩,nil⟩
def BE(args:dF)(x:Int)(gs:gy):bN:=⟨pdS args.length x,args,gs⟩
theorem ac3:∀a b:List bN,dR (a++b)=dR a++dR b
 |[],b=>rfl
 |f::a,b=>by simp only[j3,dR,ac3 a b,jE]
theorem Lo:∀l,(dR l).length=l.length*5
 |[]=>rfl
 |f::l=>by simp[dR,iE,Lo l];omega
theorem amM(l):(dR l).all AV.dH=true/\(dR l).all f_=true:=by
 induction l with
 |nil=>exact aA
 |cons g l ih=>simp only[dR,sK,ih.1,ih.2,DU];exact aA
theorem aAl(l):(az l).all AV.dH=true/\(az l).all f_=true:=by
 induction l with
 |nil=>exact aA
 |cons g l ih=>have⟨k,n,s,m⟩:=g;simp only[az,sK,ih.1,ih.2,DU];exact aA
theorem amH{ls:List gy}{i}(h:i<ls.length):((ls.map oS).drop (i*1)).take 1=[.aq (bX ls[i]) ls[i].length 6]:=by rw[n7,<-List.map_drop,fu h];rfl
theorem aGl{N}(hS:aF Z (T5 N)){v H1 s df x}{ls:List gy}{args}(hl:ls.length<10)(ha:args.length<=4000000)(h:ba Z 115 75 2 v H1 (aJ [(0,.aa 0 0),(8,.aa 2 0),(9,a9 args),(10,.aa 3 0),(11,J df),(12,.ad 4 ls.length 5)]) (h9 s args.length x (dR (ls.map (BE args x)))) (dg Z uF 115 0)):
 ∀i,i<=ls.length->ba Z 115 75 2 v H1 (t9 df (a9 args) (ls.map oS) ls.length i (i:Int)) (h9 s args.length x (dR ((ls.take i).map (BE args x)))) (aB Z 115 0):=by
 refine dj (λi=>ls.length-i) _ _ _ _ ?_;rintro i hi ih;refine hD hS uF ?_;have bB:(dR ((ls.take i).map (BE args x))).length=i*5:=by rw[Lo,oD,rH];omega
 have Dl:ls.length<=i->ba Z 115 75 2 v H1 (aJ [(0,.aa 0 0),(8,.aa 2 0),(9,a9 args),(10,.aa 3 0),(11,J df),(12,.ad 4 i 5)]) (h9 s args.length x (dR ((ls.take i).map (BE args x)))) (dg Z uF 115 0):=by
  intro aY;obtain rfl:i=ls.length:=by omega
  rw[pX];exact h
 have hw:wI ((i:Int)+1)=((i+1:Nat):Int):=cb;have fw:∀ae:i<ls.length,dR ((ls.take (i+1)).map (BE args x))=dR ((ls.take i).map (BE args x))++iE (BE args x ls[i]):=by intro ae;rw[ag6 _ _ ae,ac3];simp[dR]
 cases args with
 |nil=>
  refine cast (@aJ6 s df x i (ls.map oS) ls.length (dR ((ls.take i).map (BE [] x))) i N _ _).symm ?_;delta cu;refine al (λae=>?_) λaY=>Dl (by simpa using aY)
  have ae:i<ls.length:=by simpa using ae
  refine⟨i,rfl,ae,bX ls[i],ls[i].length,amH ae,rfl,rfl,⟨bB,by omega,rfl,rfl⟩,?_⟩;rw[hw];have:=ih (i+1) (by omega) (by omega);rw[fw ae]at this;refine zG (g:=4) this rfl (λI e o h=>aw1 ?_ ?_ h) rfl
  .exact jn.s_ (jn.mn _) (.fJ (.fJ (.fJ (.tQ 4 (.mn _)))))
  .simp;exact aA
 |cons a tl=>
  refine cast (@aJ7 s df x i (az (a::tl)) (a::tl).length (ls.map oS) ls.length (dR ((ls.take i).map (BE (a::tl) x))) i N _ _).symm ?_;delta cu;refine al (λae=>?_) λaY=>Dl (by simpa using aY)
  have ae:i<ls.length:=by simpa using ae
  refine⟨i,rfl,ae,bX ls[i],ls[i].length,amH ae,⟨rfl,by simp,ha,qh _,aAl _⟩,rfl,⟨bB,by omega,rfl,rfl⟩,?_⟩;rw[hw];have:=ih (i+1) (by omega) (by omega);rw[fw ae]at this;exact this
theorem am0{fl}(h:fl≠[]):A8 fl=.aq (dR fl) fl.length 5:=by
 cases fl with
 |nil=>exact absurd rfl h
 |cons f l=>rfl
theorem az7{l i fl}(h:i<l.length):iJ (jW l) (i*1) [A8 fl]=jW (l.set i fl):=by rw[iJ,n7,jW,jW,List.set_eq_take_append_cons_drop,aP h,lP,List.map_take,e9,List.map_drop];rfl
theorem acX(l):(jW l).length=l.length:=by simp[jW]
theorem aGk{N}(hS:aF Z (T5 N)){s}{df:Nat}{x args fl}(cx:fl≠[])(sv:df<s.an.length)(ha:args.length<4000000)(aN:fe args):
 ba Z 115 75 2 (.aj (zu (ra (pdS args.length x) args))) (oX (s.put df fl)) (aJ [(0,.aa 0 0),(8,.aa 2 0),(9,a9 args),(10,.aa 3 0),(11,J (df:Int)),(12,.ad 4 fl.length 5)]) (h9 s args.length x (dR fl)) (dg Z uF 115 0):=by
 have e:fO 4 (dR fl) (.ad 4 fl.length 5)=.aq (dR fl) fl.length 5:=by simp[fO,Lo]
 have e2:oX (s.put df fl)=aE [(0,fp s 2),(1,.bg []),(2,.au (iJ (jW s.an) (df*1) [.aq (dR fl) fl.length 5]) 84)] 3:=by rw[<-am0 cx,az7 sv];simp[oX,fp,fc,dq.put]
 rw[e2];refine Mk (g:=4) ?_ rfl;simp only[Ft];rw[e];refine hD hS (λ_=>[]) ?_;cases args with
 |nil=>exact cast (@aJZ s df x (dR fl) fl.length N _ _).symm ⟨df,rfl,sv,by rw[acX];omega,rfl,rfl,rfl⟩
 |cons a tl=>exact cast (@aJ0 s df x (az (a::tl)) (a::tl).length (dR fl) fl.length N _ _).symm ⟨df,rfl,sv,by rw[acX];omega,a::tl,⟨rfl,rfl,aN,ha⟩,rfl,rfl⟩
theorem agx{v H1}{s:dq}{ez nm lV k n c df x f len cs args}(cx:args≠[])(h:ba Z 115 75 2 v H1 (t8 c df (a9 args)) (h8 s.lj ez lV f k n nm cs len args.length x) (dg Z F_ 115 0)):
 ba Z 115 75 2 v H1 (aJ [(0,.aa 0 0),(3,J c),(5,.aa 2 0),(6,.aa 3 0),(8,.aa 4 0),(9,.ad 5 args.length 4),(10,.aa 6 0),(11,J df),(12,.aM)])
  (aE [(0,.ah [J s.nv,J s.na,.ai s.tr,.ad 7 (s.an.length+1) 1] 120),(1,.bg []),(2,Vr ez lV f),(3,dx k n nm cs len),(4,vt),(5,.au (az args) 49),(6,yR (a_ args.length) x),(7,.au (jW s.an++[.aM]) 84)] 8) (dg Z F_ 115 0):=by
 have e0:fp s.lj 6=.ah [J s.nv,J s.na,.ai s.tr,.ad 6 (s.an.length+1) 1] 120:=by simp[fp,dq.lj]
 have e1:fc s.lj=.au (jW s.an++[.aM]) 84:=by simp[fc,dq.lj,jW,A8]
 have e:fO 5 (az args) (.ad 5 args.length 4)=.aq (az args) args.length 4:=by simp[fO,qh]
 rw[h8,e0,e1]at h;refine Mk (g:=5) ?_ rfl;simp only[Ft];rw[e];cases args with
 |nil=>exact absurd rfl cx
 |cons a tl=>exact Bm (mG:=[2,3,4,6]) (ls:=[0,3,5,6,8,9,10,11,12]) (ps:=[(0,0),(1,1),(2,2),(3,3),(4,4),(6,5),(7,6)]) h
theorem arQ:∀{a b},fe a->fe b->fe (a++b)
 |[],b,_,h=>h
 |t::a,b,h,h2=>⟨h.1,arQ h.2 h2⟩
theorem M6(n):bA (nB n):=⟨by simp[cV],by simp[cV],trivial⟩
theorem arS:∀l:LI,fe (l.map nB)
 |[]=>trivial
 |n::l=>⟨M6 n,arS l⟩
theorem afL(g c):fe (mN g c):=arQ (arS _) (by split;exact⟨M6 c,trivial⟩;exact trivial)
theorem akY(g c):(mN g c).length<=2001:=by have:=SX g;simp only[mN,sS,cj,oD];split<;>simp<;>omega
theorem ayn{G k s g c}:(iv G k s g c).2.length<10:=by
 match k with
 |0=>simp only[iv];split<;>simp
 |1=>simp[iv]
 |2=>simp[iv]
 |k+3=>simp[iv]
theorem aGj{N}(hS:aF Z (T5 N)):∀w A H,(Sx N).aI w A H->bC Z 115 A H ((Sx N).v w) ((Sx N).aD w):=by
 rintro⟨kk,s,g,c,s2,q⟩ A H ⟨rfl,rfl,aN,m_,hk,he⟩;simp only at aN m_ hk he;simp only[n8]at he;have hp:s.px.lj.an.length=s.an.length+1:=by simp[dq.px,dq.lj]
 have hb:=Vb (s:=s.px.lj) (c:=c) (tp N) hk aN.2.1 m_;have ht:=ayn (G:=gR N) (k:=kk) (s:=s.px.lj) (g:=g) (c:=c);generalize hr:iv (gR N) kk s.px.lj g c=r at he hb ht;have⟨s3,ls⟩:=r;cases he;simp at hb ht;have FF:=akY g c;have tL:∀args,mN g c=args->ba Z 115 75 2 (.aj (zu (ra (Jn s g c) (mN g c)))) (oX (s3.put s.an.length (ls.map λgs=>⟨Jn s g c,mN g c,gs⟩))) (t8 c (s.an.length:Int) (a9 args)) (h8 s.px.lj (qv kk) (qY kk) (LK kk) g.bV g.n g.cq (az g.aU) g.aU.length args.length (bQ s.na)) (dg Z F_ 115 0):=by rintro args rfl;refine aGi hS hk ⟨aN.1,aN.2.1,aN.2.2.1,by rw[hp];have:=aN.2.2.2.1;omega,aN.2.2.2.2⟩ m_ hr ?_;have h0:=aGk (x:=bQ s.na) (fl:=ls.map (BE (mN g c) (bQ s.na))) hS (by intro hn;exact hb.2.2.1 (List.map_eq_nil_iff.1 hn)) (by omega:s.an.length<s3.an.length) (by omega) (afL g c);rw[oD]at h0;exact aGl hS ht (by omega) h0 0 (eh _)
 have hvl:=SX g;have Bv:(jW s.px.an).length=s.px.an.length*1:=by rw[acX,n7]
 have yF:s.px.an.length+1<=4194304:=by have:=aN.2.2.2.1;show s.an.length+1<=_;omega
 have hvo:(az (sS g)).length=(h_ g).length*4:=by rw[qh,sS,oD]
 have⟨k,n,nm,l⟩:=g;refine eE 75 hS aJ1 ?_;cases hv:(h_ (.mk k n nm l)).isEmpty
 .refine⟨true,al (λ_=>⟨.mk k n nm l,⟨rfl,rfl,aN.1,hv⟩,.mk k n nm l,⟨rfl,rfl,aN.1⟩,al (λhc=>?_) λhc=>?_⟩) λh=>by cases h⟩
  .have ha:mN (.mk k n nm l) c=sS (.mk k n nm l)++[nB c]:=by rw[mN,aP hc]
   have h:=agx (by simp) (tL _ ha);rw[show(sS (.mk k n nm l)++[nB c]).length=(h_ (.mk k n nm l)).length+1 by simp[sS],A7]at h;exact⟨da,⟨hvo,by omega,rfl,rfl⟩,s,aA,⟨Bv,yF,rfl,rfl⟩,h⟩
  .have ha:mN (.mk k n nm l) c=sS (.mk k n nm l):=by rw[mN,aw (by rw[hc];decide),jt]
   have h:=agx (by intro hn;rw[List.map_eq_nil_iff.1 hn]at hv;cases hv) (tL _ ha);rw[show(sS (.mk k n nm l)).length=(h_ (.mk k n nm l)).length by simp[sS]]at h;exact⟨s,aA,⟨Bv,yF,rfl,rfl⟩,h⟩
 .have hvn:sS (.mk k n nm l)=[]:=by rw[sS,List.isEmpty_iff.1 hv];rfl
  refine⟨false,al (λh=>(by cases h)) λ_=>⟨.mk k n nm l,⟨rfl,rfl,aN.1,hv⟩,.mk k n nm l,⟨rfl,rfl,aN.1⟩,al (λhc=>?_) λhc=>?_⟩⟩
  .have ha:mN (.mk k n nm l) c=[nB c]:=by rw[mN,aP hc,hvn];rfl
   have h:=agx (by simp) (tL _ ha);refine⟨da,s,aA,⟨Bv,yF,rfl,rfl⟩,?_⟩;exact zG (g:=5) h rfl (λI e o h=>r7 rfl h) rfl
  .have ha:mN (.mk k n nm l) c=[]:=by rw[mN,aw (by rw[hc];decide),hvn];rfl
   have h:=tL _ ha;have e0:fp s.px.lj 6=.ah [J s.px.nv,J s.px.na,.ai s.px.tr,.ad 6 (s.px.an.length+1) 1] 120:=by simp[fp,dq.lj]
   have e1:fc s.px.lj=.au (jW s.px.an++[.aM]) 84:=by simp[fc,dq.lj,jW,A8]
   rw[h8,e0,e1]at h;exact⟨s,aA,⟨Bv,yF,rfl,rfl⟩,h⟩
theorem axi{N}(hS:aF Z (T0 N)):aF Z (T6 N):=bY (akh hS) (aGj (akh hS))
theorem an0{f A s0 s gs n}(h:bC Z f A (hT s0) (.ad 2 n 6) (aE [(0,fp s 1),(1,fc s),(2,jC gs)] 3)):bC Z f A (hT s0) (.ad 2 n 6) (Bj s gs):=
 Ia (g:=1) h (rC (l':=[(0,fp s 3),(1,.bg []),(2,jC gs)]) (by kernel_rfl) rfl rfl) (by kernel_rfl) (by show(2:Nat)<=3;omega)
theorem aBm{f A s0 s}(h:bC Z f A (hT s0) .aM (hT s)):bC Z f A (hT s0) (.ad 2 0 6) (Bj s []):=
 an0 (ade h rfl (by show(2:Nat)<=2;omega))
theorem ady{f A s0 s n cs gs}(hn:n=gs.length)(hc:cs=bX gs)(h:bC Z f A (hT s0) (.bK 2 0 n n 6 true) (aE [(0,fp s 1),(1,fc s),(2,.ah cs 146)] 3)):bC Z f A (hT s0) (.ad 2 gs.length 6) (Bj s gs):=by subst hn hc;exact an0 (Ib (g:=2) h rfl (λI e o h=>r7 (CZ gs).2 h) rfl (by show(2:Nat)<=3;omega))
theorem aBn{f A s0 s n cs gs}(hn:n=gs.length)(hc:cs=bX gs)(h:bC Z f A (hT s0) (.bK 2 0 n n 6 true) (aE [(0,fp s 3),(1,.bg []),(2,.ah cs 146),(3,fc s)] 4)):bC Z f A (hT s0) (.ad 2 gs.length 6) (Bj s gs):=by subst hn hc;exact Ib (g:=2) h rfl (λI e o h=>r7 (CZ gs).2 h) rfl (by show(2:Nat)<=4;omega)
abbrev JD(c i:Int):Ev.Tr AV:=aJ [(0,.aa 0 0),(2,J c),(4,.aa 2 0),(47,alU),(48,J i)]
abbrev eB(s:dq)(g:ax):AH:=aE [(0,fp s 1),(1,fc s),(2,dx g.bV g.n g.cq (az g.aU) g.aU.length)] 3
theorem Be{N}(hS:aF Z (T6 N)){v H1 s g c i}(hi:i<4)(ov:ec g (qv i) (qY i)=false)(h:ba Z 82 104 2 v H1 (JD c ((i+1:Nat):Int)) (eB s g) (aB Z 82 0)):ba Z 82 104 2 v H1 (JD c (i:Int)) (eB s g) (aB Z 82 0):=by
 refine hD hS BC ?_;refine cast (@agR s g.bV g.n g.cq (az g.aU) g.aU.length c i N _ _).symm (al (λ_=>⟨⟨by omega,by omega⟩,?_⟩) λh=>ab (c9 h));have hw:wI ((i:Int)+1)=((i+1:Nat):Int):=cb;delta TB cu;rw[hw];match i,hi with
 |0,_=>exact⟨λ_=>⟨da,al (λhh=>ab (hh.symm.trans ov)) λ_=>h⟩,λe=>ab e,λe=>ab e,λe=>ab e,trivial⟩
 |1,_=>exact⟨λe=>ab e,λ_=>⟨da,al (λhh=>ab (hh.symm.trans ov)) λ_=>h⟩,λe=>ab e,λe=>ab e,trivial⟩
 |2,_=>exact⟨λe=>ab e,λe=>ab e,λ_=>⟨da,al (λhh=>ab (hh.symm.trans ov)) λ_=>h⟩,λe=>ab e,trivial⟩
 |3,_=>exact⟨λe=>ab e,λe=>ab e,λe=>ab e,λ_=>⟨da,al (λhh=>ab (hh.symm.trans ov)) λ_=>h⟩,trivial⟩
theorem aBw{N}(hS:aF Z (T6 N)){s s2 g c q i}(hi:i<4)(aN:jo (N+4) 3000000 s g)(m_:ec g (qv i) (qY i)=true)(hr:n8 (gR N) i s g c=(s2,q)):
 ba Z 82 104 2 (.bK 2 0 1 1 6 true) (aE [(0,fp s2 3),(1,.bg []),(2,.ah (bX [q]) 146),(3,fc s2)] 4) (JD c (i:Int)) (eB s g) (aB Z 82 0):=by
 refine hD hS BC ?_;refine cast (@agR s g.bV g.n g.cq (az g.aU) g.aU.length c i N _ _).symm (al (λ_=>⟨⟨by omega,by omega⟩,?_⟩) λh=>ab (c9 h));have⟨k,n,nm,l⟩:=g;match i,hi with
 |0,_=>exact⟨λ_=>⟨da,al (λhh=>⟨⟨0,s,.mk k n nm l,c,s2,q⟩,⟨rfl,rfl,aN,m_,(by decide:0<4),hr⟩,rfl,rfl⟩) λhh=>ab (hh.symm.trans m_)⟩,λe=>ab e,λe=>ab e,λe=>ab e,trivial⟩
 |1,_=>exact⟨λe=>ab e,λ_=>⟨da,al (λhh=>⟨⟨1,s,.mk k n nm l,c,s2,q⟩,⟨rfl,rfl,aN,m_,(by decide:1<4),hr⟩,rfl,rfl⟩) λhh=>ab (hh.symm.trans m_)⟩,λe=>ab e,λe=>ab e,trivial⟩
 |2,_=>exact⟨λe=>ab e,λe=>ab e,λ_=>⟨da,al (λhh=>⟨⟨2,s,.mk k n nm l,c,s2,q⟩,⟨rfl,rfl,aN,m_,(by decide:2<4),hr⟩,rfl,rfl⟩) λhh=>ab (hh.symm.trans m_)⟩,λe=>ab e,trivial⟩
 |3,_=>exact⟨λe=>ab e,λe=>ab e,λe=>ab e,λ_=>⟨da,al (λhh=>⟨⟨3,s,.mk k n nm l,c,s2,q⟩,⟨rfl,rfl,aN,m_,(by decide:3<4),hr⟩,rfl,rfl⟩) λhh=>ab (hh.symm.trans m_)⟩,trivial⟩
theorem aBu{N}(hS:aF Z (T6 N)){v H1 s g c}(h:ba Z 82 104 2 v H1 (aJ [(0,.aa 0 0),(4,.aa 2 0)]) (eB s g) (dg Z BC 82 0)):ba Z 82 104 2 v H1 (JD c 4) (eB s g) (aB Z 82 0):=by refine hD hS BC ?_;exact cast (@agR s g.bV g.n g.cq (az g.aU) g.aU.length c 4 N _ _).symm (al (λh=>ab (cP h)) λ_=>h)
theorem adA{N}(hS:aF Z (T6 N)){v H1 s g c}(h1:¬ec g [116,114,117,101] 0=true)(h2:¬ec g [102,97,105,108] 0=true)(h3:¬ec g [33] 0=true)(ha:ec g [44] 2=true->ba Z 82 104 2 v H1 (aJ [(0,.aa 0 0),(2,J c),(4,.aa 2 0)]) (eB s g) (dg Z zV 82 0))(hb:ec g [44] 2=false->ba Z 82 104 2 v H1 (JD c 0) (eB s g) (aB Z 82 0)):bC Z 82 [.aa 0 0,.aj (bn g),J c] (hT s) v H1:=by have⟨k,n,nm,l⟩:=g;refine eT hS 3000 zV 104 ?_;rw[bn,Zq];refine⟨da,al (λh=>absurd h h1) λ_=>⟨da,al (λh=>absurd h h2) λ_=>⟨da,al (λh=>absurd h h3) λ_=>⟨da,al (λh=>ha h) λh=>?_⟩⟩⟩⟩;refine hD hS BC ?_;exact cast (@aMw s k n nm (az l) l.length c N _ _).symm ⟨da,hb h⟩
theorem aBt{N}(hS:aF Z (T6 N)){s s2 s3 k n c x y l1 l2}(hx:jo N 3000000 s x)(rA:gR N s x c=(s2,l1))(hy:jo N 3000000 s2 y)(l5:gR N s2 y c=(s3,l2))(hl:l1.length+l2.length<=4000000):
 ba Z 82 104 2 (.ad 2 (l1++l2).length 6) (Bj s3 (l1++l2)) (aJ [(0,.aa 0 0),(2,J c),(4,.aa 2 0)]) (eB s (.mk k n [44] [x,y])) (dg Z zV 82 0):=by
 refine hE hS (@aMt s k n [44] (az [x,y]) 2 c N _ _) ?_;have⟨k1,n1,m1,q1⟩:=x;have⟨k2,n2,m2,q2⟩:=y;refine⟨by decide,k1,n1,m1,az q1,q1.length,A9 _ _,⟨s,.mk k1 n1 m1 q1,c,s2,l1⟩,⟨rfl,rfl,hx,rA⟩,by decide,k2,n2,m2,az q2,q2.length,yg _ _,⟨s2,.mk k2 n2 m2 q2,c,s3,l2⟩,⟨rfl,rfl,hy,l5⟩,tj _,λh0=>?_,λh1=>?_⟩
 .have:=mE h0;subst this;refine⟨by show l1.length<=4194304;omega,?_⟩;rw[jt];exact aA
 .refine⟨⟨tj _,by show l1.length+l2.length<=4194304;omega,CZ _⟩,adx ?_ ?_⟩
  .simp
  .exact(A6 _ _).symm
theorem az6(a b):eU a++eU b=az [a,b]:=by rw[py,py,az,az,az,jt]
theorem aBv{N}(hS:aF Z (T6 N)){s s2 g gl}(aN:bA g)(hl:g.aU.length<4000000)(hr:yS s g=(s2,gl)):
 ba Z 82 104 2 (.bK 2 0 gl.length gl.length 6 true) (aE [(0,fp s2 1),(1,fc s2),(2,.ah (bX gl) 146)] 3) (aJ [(0,.aa 0 0),(4,.aa 2 0)]) (eB s g) (dg Z BC 82 0):=by
 refine hDn hS 3000 Yg ?_;have⟨k,n,nm,l⟩:=g;refine cast (@aMu s k n nm (az l) l.length N _ _).symm ?_;refine⟨l,⟨rfl,rfl,aN.2.2,hl⟩,al (λht=>?_) λht=>⟨da,al (λhb=>?_) λhb=>?_⟩⟩
 .have he:yS s (.mk k n nm l)=(s,[ra ⟨nm,(l.length:Int),0⟩ l]):=by rw[yS,aP (by rw[ht];rfl)];rfl
  rw[he]at hr;cases hr;exact aA
 .have he:yS s (.mk k n nm l)=(s,[ra ⟨nm,(l.length:Int),0⟩ l]):=by rw[yS,aP (by rw[Sm];exact .inr hb)];rfl
  rw[he]at hr;cases hr;exact aA
 .have he:yS s (.mk k n nm l)=(s.nx,[ra ⟨[],2,1099511627776⟩ [nB (bQ s.nv),.mk k n nm l],ra ⟨nm,(l.length:Int),0⟩ l,ra ⟨[],2,1099511627775⟩ [nB (bQ s.nv),.mk k n nm l]]):=by rw[yS,aw (by rw[Sm];intro h;rcases h with h|h;exact ab (h.symm.trans ht);exact ab (h.symm.trans hb))];rfl
  rw[he]at hr;cases hr;refine⟨s,aA,da,?_⟩;refine hE hS aMv ?_;refine⟨(nB (bQ s.nv),.mk k n nm l),⟨rfl,rfl,M6 _,aN⟩,rfl,rfl,rfl,rfl,(nB (bQ s.nv),.mk k n nm l),⟨rfl,rfl,M6 _,aN⟩,rfl,?_⟩;delta aik;simp only[az6];exact aA
theorem aBx{N}(hS:aF Z (T6 N)):∀w A H,(Qh (N+1)).aI w A H->bC Z 82 A H ((Qh (N+1)).v w) ((Qh (N+1)).aD w):=by
 rintro⟨s,g,c,s2,gl⟩ A H ⟨rfl,rfl,aN,he⟩;simp only at aN he;replace he:Ec (gR N) s g c=(s2,gl):=he;unfold Ec at he;have hN:=aN.2.1;have hM:=aN.2.2.1;have hA:=aN.2.2.2.1;have hG:=aN.2.2.2.2;have aCJ:jo (N+4) 3000000 s g:=⟨aN.1,by omega,hM,hA,hG⟩;by_cases h1:ec g [116,114,117,101] 0=true
 .rw[aP h1]at he;cases he;refine aBm ?_;have⟨k,n,nm,l⟩:=g;refine eT hS 3000 zV 104 ?_;rw[bn,Zq];exact⟨da,al (λ_=>aA) λh=>ab (h.symm.trans h1)⟩
 rw[aw h1]at he;by_cases h2:ec g [102,97,105,108] 0=true
 .rw[aP h2]at he;cases he;refine ady rfl rfl ?_;have⟨k,n,nm,l⟩:=g;refine eT hS 3000 zV 104 ?_;rw[bn,Zq];exact⟨da,al (λh=>absurd h h1) λ_=>⟨da,al (λ_=>⟨da,rfl,rfl⟩) λh=>ab (h.symm.trans h2)⟩⟩
 rw[aw h2]at he;by_cases h3:ec g [33] 0=true
 .rw[aP h3]at he;cases he;refine ady rfl rfl ?_;have⟨k,n,nm,l⟩:=g;refine eT hS 3000 zV 104 ?_;rw[bn,Zq];exact⟨da,al (λh=>absurd h h1) λ_=>⟨da,al (λh=>absurd h h2) λ_=>⟨da,al (λ_=>⟨da,rfl,rfl⟩) λh=>ab (h.symm.trans h3)⟩⟩⟩
 rw[aw h3]at he;by_cases h4:ec g [44] 2=true
 .rw[aP h4]at he;obtain⟨k,n,x,y,rfl,Mp,jk⟩:=tH (.inl rfl) h4;simp only[jJ,ax.aU,n6,tY]at he;have b1:=tp N s x c (by omega);generalize rA:gR N s x c=r1 at he b1;have⟨s3,l1⟩:=r1;have b2:=tp N s3 y c (by omega);generalize l5:gR N s3 y c=r2 at he b2;have⟨s4,l2⟩:=r2;cases he;simp only at b1 b2;have Q9:jo N 3000000 s x:=zy aN aN.1.2.2.1 (by omega) (by omega) (by omega) (jk hG).1;have Q_:jo N 3000000 s3 y:=zy aN aN.1.2.2.2.1 (by omega) (by omega) (by omega) (jk hG).2;have eV:l1.length+l2.length<=4000000:=by omega
  exact adA hS h1 h2 h3 (λ_=>aBt hS Q9 rA Q_ l5 eV) (λh=>ab (h4.symm.trans h))
 rw[aw h4]at he;have no4:∀{A:Prop},ec g [44] 2=true->A:=λh=>absurd h h4
 have tk:∀{kk:Nat},kk<4->ec g (qv kk) (qY kk)=true->sG (n8 (gR N) kk s g c)=(s2,gl)->(∀{v:AV} {H1:AH},ba Z 82 104 2 v H1 (JD c (kk:Int)) (eB s g) (aB Z 82 0)->ba Z 82 104 2 v H1 (JD c 0) (eB s g) (aB Z 82 0))->bC Z 82 [.aa 0 0,.aj (bn g),J c] (hT s) (.ad 2 gl.length 6) (Bj s2 gl):=by intro kk hk hi hr hs;generalize hq:n8 (gR N) kk s g c=q at hr;have⟨s3,q⟩:=q;cases hr;exact aBn rfl rfl (adA hS h1 h2 h3 no4 λ_=>hs (aBw hS hk aCJ hi hq))
 by_cases h5:ec g [59] 2=true
 .rw[aP h5]at he;exact tk (kk:=0) (by decide) h5 he λh=>h
 rw[aw h5]at he;have FC:=sI.2 h5;by_cases h6:ec g [45,62] 2=true
 .rw[aP h6]at he;exact tk (kk:=1) (by decide) h6 he λh=>Be hS (by decide) FC h
 rw[aw h6]at he;have h6':=sI.2 h6;by_cases h7:ec g [92,43] 1=true
 .rw[aP h7]at he;exact tk (kk:=2) (by decide) h7 he λh=>Be hS (by decide) FC (Be hS (by decide) h6' h)
 rw[aw h7]at he;have h7':=sI.2 h7;by_cases h8:ec g [111,110,99,101] 1=true
 .rw[aP h8]at he;exact tk (kk:=3) (by decide) h8 he λh=>Be hS (by decide) FC (Be hS (by decide) h6' (Be hS (by decide) h7' h))
 rw[aw h8]at he;have h8':=sI.2 h8;refine ady rfl rfl (adA hS h1 h2 h3 no4 λ_=>Be hS (by decide) FC (Be hS (by decide) h6' (Be hS (by decide) h7' (Be hS (by decide) h8' (aBu hS (aBv hS aN.1 ?_ he))))));have⟨k,n,nm,l⟩:=g;show l.length<4000000;match l,hG with
 |[],_=>simp
 |[_],_=>simp
 |[_,_],_=>simp
 |_::_::_::_,h=>exact h
theorem axg:∀N,aF Z (T0 N):=vV awU (λw A H h=>by have:=h.2.2.1.2.1;omega) (λN hS w A H h=>aBx (axi hS) w A H h)
end
end Go.Cl
