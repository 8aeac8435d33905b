/- Part of a proof of AreaViews. -/
import Derived.Test.YtjgjeokjclpjnaaGreatVWB4
set_option linter.all false
set_option linter.unusedSectionVars false
set_option maxRecDepth 100000
namespace Go.Cl
open Go.Ev Go.Proofs
noncomputable section
def Pu(N:Nat):Ev.aX:=bx 136 (bE (idX N) (apu N) bU) Q3
def Vs1:Ev.aX:=bx 136 (bE aer apt bU) Q3
def Vs2:Ev.aX:=bx 98 (bE SC atw bU) Vs1
def Vp(N:Nat):LV->Option (Prop×AV)
 |[.aj [.bD .i64 k,.bD .i64 n,.ao s,.aq cs len 4]]=>some (XG N [J k,J n,.ao s,.aq cs len 4],.aj [J k,J n,.ao s,.aq cs len 4])
 |_=>none
def al1:LV->Option (Prop×AV)
 |[.aj [.bD .i64 k,.bD .i64 n,.ao s,.aq cs len 4]]=>some (aeB [J k,J n,.ao s,.aq cs len 4],.aj [J k,J n,.ao s,.aq cs len 4])
 |_=>none
def UO(N:Nat):Ev.aX:=eD 166 (fj (Vp N)) Vs2
def Vs4:Ev.aX:=eD 166 (fj al1) Vs2
def Vs5:Ev.aX:=bx 134 (bE PN alz bU) Vs4
def Vs6:Ev.aX:=eD 167 (fj XD) Vs5
def yK(k:Int)(s:LN)(len:Nat):Bool:=oy k s len [44] 2||oy k s len [59] 2||oy k s len [45,62] 2
def apS:LV->Option (Prop×AV)
 |[.aj [.bD .i64 k,.bD .i64 n,.ao s,.aq cs len 4]]=>some (True,.ai (yK k s len))
 |_=>none
def Vs7:Ev.aX:=eD 135 (fj apS) Vs6
def aqz:Nat->LN:=dY [(4,[2,3,5])]
def aqC:Nat->LN:=dY [(3,[1,2,3,4])]
def adF(k n:Int)(s:LN)(cs:LV)(len:Nat)(ds:LV)(m:Nat):AH:=aE [(0,dx k n s cs len),(1,p6),(2,lR k n s (.ad 3 m 4)),(3,.au ds 49)] 4
theorem aKl{k n:Int}{s:LN}{cs:LV}{len:Nat}{k' n':Int}{s':LN}{cs':LV}{len':Nat}{N:Nat}{L:LT}{Q:QT}:
 fA (Pu N) aqz L Q 136 [cN k n s cs len,cN k' n' s' cs' len'] ay=AD (k !=k') Q (n !=n') (AD (!bO s s') Q (a_ len !=a_ len') (L (za 2 3 (.aa 1 0) 5 (J 0)) (j_ (dx k n s cs len) (dx k' n' s' cs' len')) (aB Z 136 0))):=by kernel_rfl
theorem aKm{k n:Int}{s:LN}{cs:LV}{len:Nat}{k' n':Int}{s':LN}{cs':LV}{len':Nat}{i:Int}{N:Nat}{L:LT}{Q:QT}:
 ju (Pu N) aqz L Q 136 0 [(2,.aa 0 0),(3,.aa 1 0),(5,J i)] (j_ (dx k n s cs len) (dx k' n' s' cs' len'))=wi i len cs (λbm=>λbS=>λcX=>λcA=>λb_=>ia i len' (λjA=>og ((cs'.drop (jA*4)).take 4:LV) (λdn=>λfx=>λyZ=>λmT=>λnj=>av9 bm bS cX cA b_ dn fx yZ mT nj N Q L (za 2 3 (.aa 1 0) 5 (cu i)) (j_ (dx k n s cs len) (dx k' n' s' cs' len')) 136))) (Q (.ai true) ay):=by kernel_rfl
theorem aMF{k n:Int}{s:LN}{cs:LV}{len:Nat}{k' n':Int}{s':LN}{cs':LV}{len':Nat}{L:LT}{Q:QT}:
 fL Vs1 L Q 98 [cN k n s cs len,cN k' n' s' cs' len']=aaE k n s cs len k' n' s' cs' len' Q:=by kernel_rfl
theorem aKG{k n:Int}{s:LN}{cs:LV}{len:Nat}{N:Nat}{L:LT}{Q:QT}:
 fA (UO N) aqC L Q 166 [cN k n s cs len] ay=L (Aw (J 0)) (jv (dx k n s cs len) p6 (lR k n s .aM)) (aB Z 166 0):=by kernel_rfl
abbrev Oo h0 h1 h2(h3:LV)(h4:LT) h5 h6 h7:=h0/\im (.ad 3 h1 h2)/\pn h3.length h1 h2 (h4 (Aw (cu h5)) h6 (aB Z h7 0))
theorem aKH{k n:Int}{s:LN}{cs:LV}{len:Nat}{i:Int}{ds:LV}{m:Nat}{N:Nat}{L:LT}{Q:QT}:
 iL (UO N) aqC L Q 166 0 (Aw (J i)) 0 (adF k n s cs len ds m)=wi i len cs (λbm=>λbS=>λcX=>λcA=>λb_=>Oo (dc (XG N (fS bm bS cX cA b_))) m 4 ds L i (adF k n s cs len (ds++fS bm bS cX cA b_) (m+1)) 166) (Q (wc k n s (.ad 0 m 4)) (oK ds 49)):=by kernel_rfl
theorem aty{k n:Int}{s:LN}{cs:LV}{len:Nat}{L:LT}{Q:QT}:
 fL Vs4 L Q 134 [cN k n s cs len]=Oz k n s cs len Q []:=by kernel_rfl
theorem aKI{k n:Int}{s:LN}{cs:LV}{len:Nat}{nm:LN}{ar:Int}{L:LT}{Q:QT}:
 fL Vs5 L Q 167 [cN k n s cs len,.ao nm,J ar]=TF k 2 (bO s nm) Q (a_ len==ar) ay (Q (.ai false) ay) 3:=by kernel_rfl
theorem aKi{k n:Int}{s:LN}{cs:LV}{len:Nat}{L:LT}{Q:QT}:
 fL Vs6 L Q 135 [cN k n s cs len]=(dc True/\aZ (oy k s len [44] 2) (Q (.ai true) ay) (dc True/\aZ (oy k s len [59] 2) (Q (.ai true) ay) (dc True/\Q (.ai (oy k s len [45,62] 2)) ay))):=by kernel_rfl
theorem aKk{k n s k' n' s' l m N aC}(hS:aF Z (Pu N))(h8:cV l.length)(hlm:l.length=m.length)(ho:fe l)(hom:fe m)(hN:bz l<N):
 ∀i,(i<=l.length/\DG (l.drop i) (m.drop i)=aC)->ba Z 136 53 0 (.ai aC) ay
  (aJ [(2,.aa 0 0),(3,.aa 1 0),(5,J (i:Int))]) (aE [(0,dx k n s (az l) l.length),(1,dx k' n' s' (az m) m.length)] 2) (aB Z 136 0):=by
 refine dj (λi=>l.length-i) _ _ _ _ ?_;rintro i ⟨hi,hf⟩ ih;refine hE hS aKm ?_;delta cu;refine al (λae=>?_) λaY=>?_
 .have ae:i<l.length:=by simpa using ae
  have sx:i<m.length:=by omega
  obtain⟨k1,n1,s1,l1,-,hg,bP,aN,ca⟩:=ua ae ho hN (P:=λ_=>True) trivial;obtain⟨k2,n2,s2,l2,-,tz,aee,Q5,_⟩:=ua sx hom (kr _) (P:=λ_=>True) trivial;rw[apv ae sx,hg,tz]at hf;refine⟨i,rfl,ae,k1,n1,s1,az l1,l1.length,bP,i,rfl,sx,k2,n2,s2,az l2,l2.length,aee,(.mk k1 n1 s1 l1,.mk k2 n2 s2 l2),⟨rfl,rfl,aN,Q5,ca⟩,al (λh=>?_) λh=>?_⟩
  .have h:uC (.mk k1 n1 s1 l1) (.mk k2 n2 s2 l2)=false:=by simpa using h
   rw[h,tZ]at hf;subst hf;exact aA
  .have h:uC (.mk k1 n1 s1 l1) (.mk k2 n2 s2 l2)=true:=by simpa using h
   rw[h,pW]at hf;rw[lB h8 ae];exact ih (i+1) ⟨by omega,hf⟩ (by omega)
 .have aY:l.length<=i:=by simpa using aY
  rw[gf aY,DG]at hf;subst hf;exact aA
theorem aKj{a b N}(hS:aF Z (Pu N))(ha:bA a)(hb:bA b)(hN:bp a<N+1):
 bC Z 136 [.aj (bn a),.aj (bn b)] ay (.ai (uC a b)) ay:=by
 have⟨k,n,s,l⟩:=a;have⟨k',n',s',m⟩:=b;rw[uC];simp only[bp]at hN;refine eE 53 hS aKl ?_;refine al (λh=>?_) λh1=>al (λh=>?_) λh2=>al (λh=>?_) λh3=>al (λh=>?_) λh4=>?_
 .have:(k==k')=false:=by simpa using h
  rw[this];exact aA
 .have:(n==n')=false:=by simpa using h
  rw[this,DY];exact aA
 .have:bO s s'=false:=by simpa using h
  rw[this,DY];exact aA
 .have:(l.length==m.length)=false:=by
   grind
  rw[this,DY];exact aA
 .have e1:(k==k')=true:=by simpa using h1
  have e2:(n==n')=true:=by simpa using h2
  have e3:bO s s'=true:=by simpa using h3
  have e4:l.length=m.length:=by grind
  have e5:(l.length==m.length)=true:=by simpa using e4
  rw[e1,e2,e3,e5];exact aKk hS ha.2.1 e4 ha.2.2 hb.2.2 (by omega) 0 ⟨eh _,by simp⟩
theorem axn:∀N,aF Z (Pu N):=by
 refine vV UA ?_ ?_
 .rintro w args H ⟨_,_,_,_,h⟩;omega
 .intro N hS;rintro⟨a,b⟩ args H ⟨rfl,rfl,ha,hb,hN⟩;exact aKj hS ha hb hN
theorem akt:aF Z Vs1:=by refine bY UA ?_;rintro⟨a,b⟩ args H ⟨rfl,rfl,ha,hb⟩;exact Fj (axn (bp a+1)) ⟨rfl,rfl,ha,hb,kr _⟩ rfl
theorem aky:aF Z Vs2:=by
 refine bY akt ?_;rintro⟨a,b⟩ args H ⟨rfl,rfl,ha,hb⟩;have⟨k,n,s,l⟩:=a;have⟨k',n',s',m⟩:=b;simp only[SC,jm];refine eE 16 akt aMF ?_;delta aaE NU;rw[iD,iD];refine⟨⟨rfl,kY ha⟩,al (λh1=>⟨⟨rfl,kY hb⟩,al (λh2=>⟨(.mk k n s l,.mk k' n' s' m),⟨rfl,rfl,ha,hb⟩,?_⟩) λh2=>?_⟩) λh1=>?_⟩
 .rw[h1,h2];exact aA
 .rw[h1,h2];exact aA
 .rw[h1];exact aA
theorem aKF{k n s cs len l N}(hS:aF Z (UO N))(gA:cs=az l)(bB:len=l.length)(hv:pS l=true)(h8:l.length<=8)(ho:fe l)(hN:bz l<N):
 ∀i:Nat,i<=l.length->ba Z 166 31 0 (.aj [J k,J n,.ao s,.ad 0 l.length 4]) (aE [(0,.au (az l) 49)] 1)
  (aJ [(1,.aa 0 0),(2,.aa 1 0),(3,.aa 2 0),(4,J (i:Int))]) (adF k n s cs len (az (l.take i)) i) (aB Z 166 0):=by
 subst gA bB;refine dj (λi=>l.length-i) _ _ _ _ ?_;rintro i hi ih;refine hE hS aKH ?_;delta Oo cu;refine al (λae=>?_) λaY=>?_
 .have ae:i<l.length:=by simpa using ae
  obtain⟨k1,n1,s1,l1,-,hg,bP,aN,ca⟩:=ua ae ho hN (P:=λ_=>True) trivial;have tB:=M0 ae hv;rw[hg]at tB;have bB:(az (l.take i)).length=i*4:=by rw[qh,rH];omega
  refine⟨i,rfl,ae,k1,n1,s1,az l1,l1.length,bP,⟨rfl,_,rfl,aN,tB,ca⟩,rfl,⟨bB,by omega,rfl,rfl⟩,?_⟩;have e2:az (l.take (i+1))=az (l.take i)++[J k1,J n1,.ao s1,.aq (az l1) l1.length 4]:=by rw[qB,gg ae,A7,hg];simp[az,bn]
  rw[cb,<-e2];exact ih (i+1) (by omega) (by omega)
 .have aY:l.length<=i:=by simpa using aY
  have:i=l.length:=by omega
  subst this;rw[pX];exact aA
theorem aKE{k n s l N}(hS:aF Z (UO N))(hv:ik (.mk k n s l)=true)(ho:bA (.mk k n s l))(hN:bz l<N):
 bC Z 166 [.aj (bn (.mk k n s l))] ay (.aj (bn (.mk k n s l))) ay:=by
 have h1:bC Z 166 [.aj (bn (.mk k n s l))] ay (.aj [J k,J n,.ao s,.ad 0 l.length 4]) (aE [(0,.au (az l) 49)] 1):=by simp only[ik,cT]at hv;have h8:=RP hv.1;refine eE 31 hS aKG ?_;refine qk (H':=aE ([(0,dx k n s (az l) l.length),(1,p6),(2,lR k n s (.ad 3 0 4))]++[(3,.au [] 49)]) (3+1)) ?_ (tM (g:=2) rfl (λid=>by rcases id with _|_|_|_|id<;>rfl) rfl (λI x hx=>xq hx) aA);exact aKF hS rfl rfl hv.2 h8 ho.2.2 hN 0 (eh _)
 have h2:=si (g:=0) h1 rfl (eh _);have h3:fO 0 (az l) (.aj [J k,J n,.ao s,.ad 0 l.length 4])=.aj (bn (.mk k n s l)):=by have:(az l).length=l.length*4:=qh _;simp[fO,oU,this,bn]
 rw[h3]at h2;exact kJ h2 (by rfl) (by rfl)
theorem abU:aF Z Vs4:=by
 refine R_ aky (sN:=Vp) (Sa aky ?_ ?_) ?_
 .intro args q v h;unfold Vp at h;split at h<;>cases h;rintro⟨t,_,_,_,h⟩;omega
 .intro N hS args q v h hq;unfold Vp at h;split at h<;>cases h;have⟨⟨k,n,s,l⟩,h1,aN,hv,ca⟩:=hq;obtain⟨rfl,rfl,rfl,rfl,rfl⟩:=h1;simp only[bp]at ca;exact aKE hS hv aN (by omega)
 .intro args q v h hq;unfold al1 at h;split at h<;>cases h;have⟨t,h1,aN,hv⟩:=hq;exact⟨bp t+1,_,rfl,t,h1,aN,hv,by omega⟩
theorem akA:aF Z Vs5:=by
 refine bY abU ?_;rintro⟨k,n,s,l⟩ args H ⟨rfl,rfl,ho⟩;simp only[PN,py];have hT:=kY ho;by_cases hv:eP (.mk k n s l)=true
 .rw[cZ,aP hv];refine eE 9 abU aty ?_;delta Oz uW;rw[iD,hv];exact⟨⟨rfl,hT⟩,al (λh=>(by cases h)) λ_=>⟨⟨rfl,_,rfl,ho,JM hv⟩,rfl,rfl⟩⟩
 .rw[cZ,aw hv];refine sj ?_ (.agg S2) (ct _);refine eE 9 abU aty ?_;delta Oz uW;rw[iD];have hv:eP (.mk k n s l)=false:=by simpa using hv
  rw[hv];exact⟨⟨rfl,hT⟩,al (λ_=>aA) λh=>by cases h⟩
theorem akB:aF Z Vs6:=by
 refine jl akA λargs q v h hq=>?_
 unfold XD at h;split at h<;>cases h;rename_i k n s cs len nm ar;refine eE 28 akA aKI ?_;delta TF;rw[oy,mO];generalize (k==2)=a;generalize (k==3)=b;generalize bO s nm=c;cases a<;>cases b<;>cases c<;>exact⟨rfl,rfl⟩
theorem akC:aF Z Vs7:=by
 refine jl akB λargs q v h hq=>?_
 unfold apS at h;split at h<;>cases h;rename_i k n s cs len;refine eE 13 akB aKi ?_;rw[yK];generalize oy k s len [44] 2=a;generalize oy k s len [59] 2=b;cases a<;>cases b<;>exact⟨⟨rfl,trivial⟩,by first|exact aA|exact⟨da,by first|exact aA|exact⟨da,rfl,rfl⟩⟩⟩
def acu(t:ax):ax:=.mk 3 0 [99,97,108,108] [t]
def dM:ax->ax×Bool
 |.mk k n s [a,b]=>if k=0 then(acu (.mk k n s [a,b]),true)else if k=1 then(kB,false)else if yK k s 2 then(.mk 3 0 s [(dM a).1,(dM b).1],(dM a).2&&(dM b).2)else(cZ (.mk k n s [a,b]),true)
 |.mk k n s l=>if k=0 then(acu (.mk k n s l),true)else if k=1 then(kB,false)else(cZ (.mk k n s l),true)
def amf(N:Nat):bT ax where
 aI t A H:=A=[.aj (bn t)]/\H=ay/\bA t/\bp t<N
 v t:=.aL [.aj (eU (dM t).1),.ai (dM t).2]
 aD t:=ay
theorem azq(N:Nat):(amf N).bM:=λt t' A H h1 h2=>by rw[yP h1.1 h2.1]
def abV(N:Nat):Ev.aX:=bx 97 (bE (amf N) (azq N) bU) Vs7
def ahm:bT (LI×Int×Int×LN×dF)where
 aI w A H:=A=[.ad 0 w.1.length 1,.aj [J w.2.1,J w.2.2.1,.ao w.2.2.2.1,.aq (az w.2.2.2.2) w.2.2.2.2.length 4]]/\H=ji w.1/\bA (.mk w.2.1 w.2.2.1 w.2.2.2.1 w.2.2.2.2)/\w.1.length+bp (.mk w.2.1 w.2.2.1 w.2.2.2.1 w.2.2.2.2)<60000
 v w:=.ad 1 (gC w.1 (.mk w.2.1 w.2.2.1 w.2.2.2.1 w.2.2.2.2)).length 1
 aD w:=Jh (gC w.1 (.mk w.2.1 w.2.2.1 w.2.2.2.1 w.2.2.2.2))
theorem aOi:ahm.bM:=by rintro w w' A H ⟨h1,h2,h3,h4⟩ ⟨k1,k2,k3,k4⟩;exact au2 (bp (.mk w.2.1 w.2.2.1 w.2.2.2.1 w.2.2.2.2)+bp (.mk w'.2.1 w'.2.2.1 w'.2.2.2.1 w'.2.2.2.2)+1) w w' A H ⟨h1,h2,h3,by omega,h4⟩ ⟨k1,k2,k3,by omega,k4⟩
def amg:bT ax where
 aI t A H:=A=[.aj (bn t)]/\H=ay/\bA t
 v t:=.aL [.aj (eU (dM t).1),.ai (dM t).2]
 aD t:=ay
theorem azr:amg.bM:=λt t' A H h1 h2=>by rw[yP h1.1 h2.1]
def Vs8:Ev.aX:=bx 97 (bE amg azr bU) Vs7
def au0:LV->AH->Option Sp
 |[.aM,a],H=>ahl [.aM,a] H
 |A,H=>bE ahm aOi bU A H
def Vs9:Ev.aX:=bx 44 au0 Vs8
def yb(a b:ax):aO:=.ah (eU a++eU b) 49
def auT:bT (ax×ax)where
 aI w A H:=A=[.bK 0 0 2 2 4 true]/\H=aE [(0,yb w.1 w.2)] 1/\bA w.1/\bA w.2/\bp w.1+bp w.2<50000
 v w:=.ad 1 (gC (gC [] w.1) w.2).length 1
 aD w:=aE [(0,yb w.1 w.2),(1,bG (gC (gC [] w.1) w.2) 2)] 2
theorem alm{a b a' b':ax}{H:AH}(h:H=aE [(0,yb a b)] 1)(h':H=aE [(0,yb a' b')] 1):a=a'/\b=b':=by rw[h]at h';have:=congrArg (λH=>AH.aR H 0) h';simp only[eg,cH,if_true,yb,lN,aO.ah.injEq,and_true]at this;rw[py,py,py,py]at this;have:=lO this (by rw[pz,pz]);exact⟨kT this.1,kT this.2⟩
theorem aNU:auT.bM:=by
 rintro⟨a,b⟩ ⟨a',b'⟩ A H ⟨_,h2,_⟩ ⟨_,h4,_⟩;have⟨e1,e2⟩:=alm h2 h4
 grind
def abF:Ev.aX:=bx 99 (bE auT aNU bU) Vs9
mutual
def il(l:LI):ax->ax
 |.mk k n s ts=>.mk k (if k=0 then qq l n 0 else n) s (BH l ts)
def BH(l:LI):dF->dF
 |[]=>[]
 |t::ts=>il l t::BH l ts
end
def are(N:Nat):bT (LI×ax)where
 aI w A H:=A=[.ad 0 w.1.length 1,.aj (bn w.2)]/\H=ji w.1/\bA w.2/\ik w.2=true/\w.1.length<100000/\bp w.2<N
 v w:=.aj (eU (il w.1 w.2))
 aD w:=ji w.1
theorem arf(N:Nat):(are N).bM:=by rintro⟨l,t⟩ ⟨l',t'⟩ A H ⟨h1,h2,_⟩ ⟨h3,h4,_⟩;simp only at h1 h2 h3 h4;rw[h2]at h4;rw[h1]at h3;have:=adO h4;subst this;simp only[fG,AV.aj.injEq,and_true,true_and]at h3;rw[kT h3]
def Pt(N:Nat):Ev.aX:=bx 137 (bE (are N) (arf N) bU) abF
def arh:bT (LI×ax)where
 aI w A H:=A=[.ad 0 w.1.length 1,.aj (bn w.2)]/\H=ji w.1/\bA w.2/\ik w.2=true/\w.1.length<100000
 v w:=.aj (eU (il w.1 w.2))
 aD w:=ji w.1
theorem aEO:arh.bM:=by rintro w w' A H ⟨h1,h2,h3,h4,h5⟩ ⟨k1,k2,k3,k4,k5⟩;exact arf (bp w.2+bp w'.2+1) w w' A H ⟨h1,h2,h3,h4,h5,by omega⟩ ⟨k1,k2,k3,k4,k5,by omega⟩
def abG:Ev.aX:=bx 137 (bE arh aEO bU) abF
def adE(l:LI)(k n n':Int)(s:LN)(cs:LV)(len:Nat)(ds:LV)(m:Nat):AH:=aE [(0,bG l 2),(1,dx k n s cs len),(2,p6),(3,lR k n' s (.ad 4 m 4)),(4,.au ds 49)] 5
def aqA:Nat->LN:=dY [(5,[0,3,4,5,6])]
def p7(a b:ax):LI:=gC (gC [] a) b
def Wf(a b:ax):aO:=.au (eU a++eU b) 49
def caX:bT (ax×ax)where
 aI w A H:=A=[.bK 0 0 2 2 4 true]/\H=aE [(0,yb w.1 w.2)] 1/\bA w.1/\bA w.2/\ik w.1=true/\ik w.2=true/\bp w.1+bp w.2<50000
 v w:=.ad 1 2 4
 aD w:=aE [(0,yb w.1 w.2),(1,Wf (il (p7 w.1 w.2) w.1) (il (p7 w.1 w.2) w.2))] 2
theorem ayF:caX.bM:=by
 rintro⟨a,b⟩ ⟨a',b'⟩ A H ⟨_,h2,_⟩ ⟨_,h4,_⟩;have⟨e1,e2⟩:=alm h2 h4
 grind
def abH:Ev.aX:=bx 101 (bE caX ayF bU) abG
theorem Zr{k n:Int}{s:LN}{cs:LV}{len:Nat}{N:Nat}{L:LT}{Q:QT}:
 fL (abV N) L Q 97 [cN k n s cs len]=Eo k 0 (Q (.aL [Ov [99,97,108,108] 1,.ai true]) (iA (dx k n s cs len))) 1 (Q (Tj []) ay) (dc True/\aZ (!yK k s len) (qL k n s cs len (λw=>Q (.aL [aic w,.ai true]) ay)) (0<len/\J' ((cs.drop 0).take 4) (λw=>bA w/\bp w<N) (λw=>1<len/\J' ((cs.drop 4).take 4) (λaH=>bA aH/\bp aH<N) (λaH=>Cj (dM w).2 Q (.aL [Ov s 2,.ai (dM aH).2]) (Ck (dM w).1.bV (dM w).1.n (dM w).1.cq (az (dM w).1.aU) (dM w).1.aU.length (dM aH).1.bV (dM aH).1.n (dM aH).1.cq (az (dM aH).1.aU) (dM aH).1.aU.length) (.aL [Ov s 2,.ai false]))))):=by kernel_rfl
theorem aMG{k n:Int}{s:LN}{cs:LV}{len:Nat}{k' n':Int}{s':LN}{cs':LV}{len':Nat}{L:LT}{Q:QT}:
 eG Vs9 [1000000] L Q 99 [iY 0 2 4] (Ck k n s cs len k' n' s' cs' len')=(dc (uE (fS k n s cs len)/\iy bp (fS k n s cs len)<60000)/\(∃w:LI×Int×Int×LN×dF,(([.ad 0 (iy (gC []) (fS k n s cs len)).length 1,cN k' n' s' cs' len']:LV)=avL w/\ji (iy (gC []) [AV.bD IntKind.i64 k,AV.bD IntKind.i64 n,AV.ao s,AV.aq cs len 4])=ji w.1/\awl w/\w.1.length+Tm w<60000)/\Q (.ad 1 (aae w).length 1) (j_ (.ah (mJ k n s cs len k' n' s' cs' len') 49) (bG (aae w) 2)))):=by kernel_rfl
abbrev aaf h0 h1:=([(0,ej 0 h0),(3,.aa 1 0),(4,.aa 2 0),(5,.aa 3 0),(6,h1)]:List (Nat×AV))
theorem atz{l:LI}{k n:Int}{s:LN}{cs:LV}{len:Nat}{N:Nat}{L:LT}{Q:QT}:
 fA (Pt N) aqA L Q 137 [ej 0 l,cN k n s cs len] (ji l)=gT (k==0) (av4 l n (λw=>L (aJ (aaf l (J 0))) (uX (bG w.1 2) (dx k n s cs len) p6 (lR k (qq w.1 w.2 0) s .aM)) (aB Z 137 0))) L (aJ (aaf l (J 0))) (uX (bG l 2) (dx k n s cs len) p6 (lR k n s .aM)) 137 0:=by kernel_rfl
abbrev ahZ h0 h1 h2 h3 h4 h5(h6:LI×ax) h7 h8:=([h0,cN h1 h2 h3 h4 h5]:LV)=[.ad 0 h6.1.length 1,.aj (bn h6.2)]/\ji h7=ji h6.1/\bA h6.2/\ik h6.2=true/\h8
theorem aKp{l:LI}{k n n':Int}{s:LN}{cs:LV}{len:Nat}{i:Int}{ds:LV}{m:Nat}{N:Nat}{L:LT}{Q:QT}:
 ju (Pt N) aqA L Q 137 1 (aaf l (J i)) (adE l k n n' s cs len ds m)=wi i len cs (λbm=>λbS=>λcX=>λcA=>λb_=>∃w:LI×ax,ahZ (ej 0 l) bm bS cX cA b_ w l (w.1.length<100000/\bp w.2<N)/\im (.ad 4 m 4)/\xH ds m 4 L (aaf l (cu i)) (adE w.1 k n n' s cs len (ds++fS (il w.1 w.2).bV (il w.1 w.2).n (il w.1 w.2).cq (az (il w.1 w.2).aU) (il w.1 w.2).aU.length) (m+1)) 137 0) (Q (wc k n' s (.ad 1 m 4)) (j_ (bG l 2) (.au ds 49))):=by kernel_rfl
abbrev aaK(h0:ax×ax):=(.ah (mJ h0.1.bV h0.1.n h0.1.cq (az h0.1.aU) h0.1.aU.length h0.2.bV h0.2.n h0.2.cq (az h0.2.aU) h0.2.aU.length) 49:aO)
abbrev avq h0 h1 h2 h3:=mJ (il h0 h1).bV (il h0 h1).n (il h0 h1).cq (az (il h0 h1).aU) (il h0 h1).aU.length (il h2 h3).bV (il h2 h3).n (il h2 h3).cq (az (il h2 h3).aU) (il h2 h3).aU.length
abbrev aid h0(h1:ax×ax) h2 h3:=xK [iY 0 2 4] (h0=iA (aaK h1)/\bA h1.1/\bA h1.2/\h2) h3
abbrev Tz(h0:ax×ax):=gC (gC [] h0.1) h0.2
theorem aJH{k n:Int}{s:LN}{cs:LV}{len:Nat}{k' n':Int}{s':LN}{cs':LV}{len':Nat}{L:LT}{Q:QT}:
 eG abG [1000000] L Q 101 [iY 0 2 4] (Ck k n s cs len k' n' s' cs' len')=(∃w:ax×ax,aid (Ck k n s cs len k' n' s' cs' len') w (bp w.1+bp w.2<50000) (∃aH:LI×ax,ahZ (.ad 0 (Tz w).length 1) w.1.bV w.1.n w.1.cq (az w.1.aU) w.1.aU.length aH (Tz w) (aH.1.length<100000)/\(∃cI:LI×ax,ahZ (.ad 0 (Tz w).length 1) w.2.bV w.2.n w.2.cq (az w.2.aU) w.2.aU.length cI aH.1 (cI.1.length<100000)/\Q (.ad 1 2 4) (j_ (aaK w) (.ah (avq aH.1 aH.2 cI.1 cI.2) 49))))):=by kernel_rfl
theorem apT{k s len}(h:yK k s len=true):len=2:=by simp only[yK,oy,Sm,cT,beq_iff_eq]at h;omega
theorem ame{n s l}:dM (.mk 0 n s l)=(acu (.mk 0 n s l),true):=by
 match l with
 |[a,b]=>rw[dM,aP rfl]
 |[]=>rfl
 |[_]=>rfl
 |_::_::_::_=>rfl
theorem amc{n s l}:dM (.mk 1 n s l)=(kB,false):=by
 match l with
 |[a,b]=>rw[dM,aw (by decide),aP rfl]
 |[]=>rfl
 |[_]=>rfl
 |_::_::_::_=>rfl
theorem amd{k n s l}(h0:¬k=0)(h1:¬k=1)(h:yK k s l.length=false):dM (.mk k n s l)=(cZ (.mk k n s l),true):=by
 match l with
 |[a,b]=>rw[dM,aw h0,aw h1,aw (by grind)]
 |[]=>rw[dM,aw h0,aw h1];intro a b;simp
 |[_]=>rw[dM,aw h0,aw h1];intro a b;simp
 |_::_::_::_=>rw[dM,aw h0,aw h1];intro a b;simp
theorem azo:∀{t:ax},bA t->bA (dM t).1:=by
 have key:∀N (t:ax),bp t<N->bA t->bA (dM t).1:=by
  intro N;induction N with
  |zero=>intro t h;omega
  |succ N ih=>
   rintro⟨k,n,s,l⟩ hN ho;by_cases h0:k=0
   .subst h0;rw[ame];exact⟨by simp[cV],by simp[cV],ho,trivial⟩
   by_cases h1:k=1
   .subst h1;rw[amc];exact⟨by simp[cV],by simp[cV],trivial⟩
   by_cases hj:yK k s l.length=true
   .obtain⟨a,b,rfl⟩:=I5 (apT hj);simp only[bp,bz]at hN;rw[dM,aw h0,aw h1,aP (show yK k s 2=true from hj)];exact⟨ho.1,by simp[cV],ih a (by omega) ho.2.2.1,ih b (by omega) ho.2.2.2.1,trivial⟩
   .rw[amd h0 h1 (by simpa using hj)];exact Jk ho
 intro t ho;exact key (bp t+1) t (kr _) ho
theorem aME{t N}(hS:aF Z (abV N))(ho:bA t)(hN:bp t<N+1):bC Z 97 [.aj (bn t)] ay (.aL [.aj (eU (dM t).1),.ai (dM t).2]) ay:=by
 have⟨k,n,s,l⟩:=t;by_cases h0:k=0
 .subst h0;rw[ame];have h1:bC Z 97 [.aj (bn (.mk 0 n s l))] ay (.aL [.aj [J 3,J 0,.ao [99,97,108,108],.bK 0 0 1 1 4 true],.ai true]) (aE [(0,dx 0 n s (az l) l.length)] 1):=by refine eE 49 hS Zr ?_;exact al (λ_=>aA) λh=>(by cases h)
  have h2:=C_ (g:=0) h1 rfl rfl (eh _);exact kJ (ps:=[]) h2
 by_cases h1:k=1
 .subst h1;rw[amc];refine sj ?_ (.B0 (.wu (.agg S2) (.mn _))) (ct _);refine eE 49 hS Zr ?_;exact al (λh=>(by cases h)) λ_=>al (λ_=>aA) λh=>(by cases h)
 by_cases hj:yK k s l.length=true
 .obtain⟨a,b,rfl⟩:=I5 (apT hj);simp only[bp,bz]at hN;have ha:=ho.2.2.1;have hb:=ho.2.2.2.1;have e:dM (.mk k n s [a,b])=(.mk 3 0 s [(dM a).1,(dM b).1],(dM a).2&&(dM b).2):=by rw[dM,aw h0,aw h1,aP (show yK k s 2=true from hj)]
  rw[e];have h3:bC Z 97 [.aj (bn (.mk k n s [a,b]))] ay (.aL [.aj [J 3,J 0,.ao s,.bK 0 0 2 2 4 true],.ai ((dM a).2&&(dM b).2)]) (aE [(0,.ah (eU (dM a).1++eU (dM b).1) 49)] 1):=by
   refine eE 49 hS Zr ?_;have⟨k0,n0,s0,l0⟩:=a;have⟨k1,n1,s1,l1⟩:=b;refine al (λh=>absurd (by simpa using h) h0) λ_=>al (λh=>absurd (by simpa using h) h1) λ_=>⟨da,al (λh=>?_) λ_=>?_⟩
   .grind
   .refine⟨by simp,k0,n0,s0,az l0,l0.length,A9 _ _,.mk k0 n0 s0 l0,⟨rfl,rfl,ha,by omega⟩,by simp,k1,n1,s1,az l1,l1.length,yg _ _,.mk k1 n1 s1 l1,⟨rfl,rfl,hb,by omega⟩,?_⟩;refine al (λh=>?_) λh=>?_
    .rw[h];exact aA
    .rw[h];exact aA
  have h4:=C_ (g:=0) h3 rfl rfl (eh _);have h5:fO 0 (eU (dM a).1++eU (dM b).1) (.aL [.aj [J 3,J 0,.ao s,.bK 0 0 2 2 4 true],.ai ((dM a).2&&(dM b).2)])=.aL [.aj (eU (.mk 3 0 s [(dM a).1,(dM b).1])),.ai ((dM a).2&&(dM b).2)]:=by generalize (dM a).1=x;generalize (dM b).1=y;have⟨k2,n2,s2,l2⟩:=x;have⟨k3,n3,s3,l3⟩:=y;rfl
  rw[h5]at h4;exact kJ (ps:=[]) h4
 .have hj:yK k s l.length=false:=by simpa using hj
  rw[amd h0 h1 hj];refine eE 49 hS Zr ?_;refine al (λh=>absurd (by simpa using h) h0) λ_=>al (λh=>absurd (by simpa using h) h1) λ_=>⟨da,al (λ_=>?_) λh=>?_⟩
  .exact⟨.mk k n s l,⟨rfl,rfl,ho⟩,rfl,rfl⟩
  .rw[hj]at h;cases h
theorem axp:∀N,aF Z (abV N):=by
 refine vV akC ?_ ?_
 .rintro w args H ⟨_,_,_,h⟩;omega
 .intro N hS;rintro t args H ⟨rfl,rfl,ho,hN⟩;exact aME hS ho hN
theorem axq:aF Z Vs8:=by refine bY akC ?_;rintro t args H ⟨rfl,rfl,ho⟩;exact Fj (axp (bp t+1)) ⟨rfl,rfl,ho,kr _⟩ rfl
theorem aQc{t:ax}(aN:bA t)(hb:bp t<60000):bC Z 44 [.aM,.aj (bn t)] ay (.ad 0 (gC [] t).length 1) (ji (gC [] t)):=by have:=UA.1 44 [.aM,.aj (bn t)] ay (ay=ay/\uE (bn t)/\iy bp (bn t)<60000) (.ad 0 (iy (gC []) (bn t)).length 1) (ji (iy (gC []) (bn t))) (by decide) rfl ⟨rfl,⟨t,rfl,aN⟩,by rw[A0];exact hb⟩;rw[A0]at this;exact this
theorem akD:aF Z Vs9:=by
 refine wA axq λargs H sp p v H' hs hd hp=>?_
 unfold au0 at hs;split at hs;next a=>exact UA.1 44 _ H p v H' (by decide) (by simp only[oP,Q3,bx,j4,cond_true];rw[hs];exact hd) hp
 .have⟨_,hs⟩:=EN hs;cases hs;simp only[sh]at hd;by_cases hw:∃w,ahm.aI w args H
  .rw[dif_pos hw]at hd;cases hd;obtain⟨h1,h2,h3,h4⟩:=hp;exact Fj (aj2 (bp _+1)) ⟨h1,h2,h3,kr _,h4⟩ rfl
  .grind
theorem akn:aF Z abF:=by refine bY akD ?_;rintro⟨⟨k,n,s,l⟩,⟨k',n',s',l'⟩⟩ args H ⟨rfl,rfl,h1,h2,hb⟩;simp only at h1 h2 hb;refine eE 18 akD aMG ?_;delta Tm;have hv:=SZ [] (.mk k n s l);simp only[gH]at hv;rw[iD,iD];refine⟨⟨rfl,⟨.mk k n s l,rfl,h1⟩,by show bp (ax.mk k n s l)<60000;omega⟩,(gC [] (.mk k n s l),k',n',s',l'),⟨rfl,rfl,h2,by simp only;omega⟩,rfl,rfl⟩
mutual
theorem afC(l:LI):∀{t:ax},bA t->bA (il l t)
 |.mk k n s ts,h=>⟨h.1,by show cV (BH l ts).length;rw[arw];exact h.2.1,ary l h.2.2⟩
theorem ary(l:LI):∀{ts:dF},fe ts->fe (BH l ts)
 |[],h=>h
 |t::ts,h=>⟨afC l h.1,ary l h.2⟩
theorem arw(l:LI):∀{ts:dF},(BH l ts).length=ts.length
 |[]=>rfl
 |t::ts=>by simp only[BH,dJ,arw l]
end
theorem arx(l:LI):∀ts:dF,BH l ts=ts.map (il l)
 |[]=>rfl
 |t::ts=>by rw[BH,arx l ts];rfl
theorem aKo{l:LI}{k n n' s}{ts:dF}{N}(hS:aF Z (Pt N))(hl:l.length<100000)(hv:pS ts=true)(h8:ts.length<=8)(ho:fe ts)(hN:bz ts<N):
 ∀i:Nat,i<=ts.length->ba Z 137 42 1 (.aj [J k,J n',.ao s,.ad 1 ts.length 4]) (aE [(0,bG l 2),(1,.au (az (ts.map (il l))) 49)] 2)
  (aJ [(0,.ad 0 l.length 1),(3,.aa 1 0),(4,.aa 2 0),(5,.aa 3 0),(6,J (i:Int))]) (adE l k n n' s (az ts) ts.length (az ((ts.take i).map (il l))) i) (aB Z 137 0):=by
 refine dj (λi=>ts.length-i) _ _ _ _ ?_;rintro i hi ih;refine hE hS aKp ?_;delta cu;refine al (λae=>?_) λaY=>?_
 .have ae:i<ts.length:=by simpa using ae
  obtain⟨k1,n1,s1,l1,-,hg,bP,aN,ca⟩:=ua ae ho hN (P:=λ_=>True) trivial;have tB:=M0 ae hv;rw[hg]at tB;have bB:(az ((ts.take i).map (il l))).length=i*4:=by rw[qh,oD,rH];omega
  refine⟨i,rfl,ae,k1,n1,s1,az l1,l1.length,bP,(l,.mk k1 n1 s1 l1),⟨rfl,rfl,aN,tB,hl,ca⟩,rfl,⟨bB,by omega,rfl,rfl⟩,?_⟩;have e2:az ((ts.take (i+1)).map (il l))=az ((ts.take i).map (il l))++eU (il l (.mk k1 n1 s1 l1)):=by rw[qB,gg ae,lP,A7,hg];simp[az,py]
  rw[cb];have:=ih (i+1) (by omega) (by omega);rw[e2]at this;exact this
 .have aY:ts.length<=i:=by simpa using aY
  have:i=ts.length:=by omega
  subst this;rw[pX];exact aA
theorem aKn{l:LI}{t:ax}{N}(hS:aF Z (Pt N))(hl:l.length<100000)(hv:ik t=true)(ho:bA t)(hN:bp t<N+1):
 bC Z 137 [.ad 0 l.length 1,.aj (bn t)] (ji l) (.aj (eU (il l t))) (ji l):=by
 have⟨k,n,s,ts⟩:=t;simp only[bp]at hN;simp only[ik,cT]at hv;have h8:=RP hv.1;have aC:∀n',bC Z 137 [.ad 0 l.length 1,.aj (bn (.mk k n s ts))] (ji l) (.aj [J k,J n',.ao s,.ad 1 ts.length 4]) (aE [(0,bG l 2),(1,.au (az (ts.map (il l))) 49)] 2)->bC Z 137 [.ad 0 l.length 1,.aj (bn (.mk k n s ts))] (ji l) (.aj (eU (.mk k n' s (BH l ts)))) (ji l):=by
  intro n' h1;have h2:=si (g:=1) h1 rfl (by show(1:Nat)<=2;omega);have h3:fO 1 (az (ts.map (il l))) (.aj [J k,J n',.ao s,.ad 1 ts.length 4])=.aj (eU (.mk k n' s (BH l ts))):=by
   have:(az (ts.map (il l))).length=ts.length*4:=by rw[qh,oD]
   simp[fO,oU,this,eU,arx,ax.bV,ax.n,ax.cq,ax.aU]
  rw[h3]at h2;exact kJ (ps:=[(0,0)]) h2 (by rfl) (by rfl)
 have hd:∀n',ba Z 137 42 1 (.aj [J k,J n',.ao s,.ad 1 ts.length 4]) (aE [(0,bG l 2),(1,.au (az (ts.map (il l))) 49)] 2) (aJ [(0,.ad 0 l.length 1),(3,.aa 1 0),(4,.aa 2 0),(5,.aa 3 0),(6,J 0)]) (aE [(0,bG l 2),(1,dx k n s (az ts) ts.length),(2,p6),(3,lR k n' s .aM)] 4) (aB Z 137 0):=by intro n';refine qk (H':=aE ([(0,bG l 2),(1,dx k n s (az ts) ts.length),(2,p6),(3,lR k n' s (.ad 4 0 4))]++[(4,.au [] 49)]) (4+1)) ?_ (tM (g:=3) rfl (λid=>by rcases id with _|_|_|_|_|id<;>rfl) rfl (λI x hx=>xq hx) aA);exact aKo hS hl hv.2 h8 ho.2.2 (by omega) 0 (eh _)
 rw[il];by_cases hk:k=0
 .subst hk;rw[aP rfl];refine aC _ ?_;refine eE 42 hS atz ?_;exact al (λ_=>⟨(l,n),⟨rfl,rfl,hl⟩,hd _⟩) λh=>by cases h
 .rw[aw hk];refine aC _ ?_;refine eE 42 hS atz ?_;exact al (λh=>absurd (by simpa using h) hk) λ_=>hd _
theorem axm:∀N,aF Z (Pt N):=by
 refine vV akn ?_ ?_
 .rintro w args H ⟨_,_,_,_,_,h⟩;omega
 .intro N hS;rintro⟨l,t⟩ args H ⟨rfl,rfl,ho,hv,hl,hN⟩;exact aKn hS hl hv ho hN
theorem ako:aF Z abG:=by refine bY akn ?_;rintro⟨l,t⟩ args H ⟨rfl,rfl,ho,hv,hl⟩;exact Fj (axm (bp t+1)) ⟨rfl,rfl,ho,hv,hl,kr _⟩ rfl
theorem akp:aF Z abH:=by
 refine bY ako ?_;rintro⟨⟨k,n,s,l⟩,⟨k',n',s',l'⟩⟩ args H ⟨rfl,rfl,h1,h2,v1,v2,hb⟩;simp only at h1 h2 v1 v2 hb;have e1:=SZ [] (.mk k n s l);have e2:=SZ (gC [] (.mk k n s l)) (.mk k' n' s' l');simp only[gH]at e1;have e3:(p7 (.mk k n s l) (.mk k' n' s' l')).length<100000:=by show(gC (gC [] _) _).length<_;omega
 refine Ib (g:=1) (l:=[(0,yb (.mk k n s l) (.mk k' n' s' l')),(1,yb (il (p7 (.mk k n s l) (.mk k' n' s' l')) (.mk k n s l)) (il (p7 (.mk k n s l) (.mk k' n' s' l')) (.mk k' n' s' l')))]) (v:=.ad 1 2 4) ?_ rfl (λI e o h=>r7 (by rfl) h) rfl (by show(1:Nat)<=2;omega);refine eE 24 ako aJH ?_;exact⟨(.mk k n s l,.mk k' n' s' l'),⟨rfl,rfl,h1,h2,hb⟩,(p7 (.mk k n s l) (.mk k' n' s' l'),.mk k n s l),⟨rfl,rfl,h1,v1,e3⟩,(p7 (.mk k n s l) (.mk k' n' s' l'),.mk k' n' s' l'),⟨rfl,rfl,h2,v2,e3⟩,rfl,rfl⟩
def Sz:bT ((ax×ax)×ax×ax)where
 aI w A H:=A=[.ad 0 2 4,.bK 1 0 2 2 4 true]/\H=aE [(0,Wf w.1.1 w.1.2),(1,yb w.2.1 w.2.2)] 2/\bA w.1.1/\bA w.1.2/\bA w.2.1/\bA w.2.2
 v w:=.ai (jm w.1.1 w.2.1&&jm w.1.2 w.2.2)
 aD w:=aE [(0,Wf w.1.1 w.1.2),(1,yb w.2.1 w.2.2)] 2
theorem aJo:Sz.bM:=by rintro⟨⟨a,b⟩,c,d⟩ ⟨⟨a',b'⟩,c',d'⟩ A H ⟨_,h2,_⟩ ⟨_,h4,_⟩;simp only at h2 h4;rw[h2]at h4;have e0:=congrArg (λH=>AH.aR H 0) h4;have e1:=congrArg (λH=>AH.aR H 1) h4;simp only[eg,cH,if_true,yb,Wf,lN,aO.au.injEq,aO.ah.injEq,and_true,Nat.zero_ne_one,if_false,Nat.one_ne_zero]at e0 e1;rw[py,py,py,py]at e0 e1;have e0:=lO e0 (by rw[pz,pz]);have e1:=lO e1 (by rw[pz,pz]);rw[kT e0.1,kT e0.2,kT e1.1,kT e1.2]
def UG:Ev.aX:=bx 100 (bE Sz aJo bU) abH
def Vc(c:nK):Bool:=
 eP c.1&&eP c.2&&mO c.1.bV&&(dM c.2).2&&jm (dM c.2).1 c.2&&decide (cy c.1+cy c.2<=2000)&&decide ((p7 c.1 c.2).length<=64)&&(jm (il (p7 c.1 c.2) c.1) c.1&&jm (il (p7 c.1 c.2) c.2) c.2)
def brX:bT nK where
 aI c A H:=A=[.aj (bn c.1++bn c.2)]/\H=ay/\bA c.1/\bA c.2
 v c:=.ai (Vc c)
 aD c:=ay
theorem ays:brX.bM:=by rintro c c' A H ⟨h1,_⟩ ⟨h2,_⟩;rw[h1]at h2;simp only[fG,AV.aj.injEq,and_true]at h2;rw[ET h2]
def abJ:Ev.aX:=bx 60 (bE brX ays bU) UG
def Ye:Nat->LN:=dY [(999995,[2000003]),(999998,[1])]
theorem aJG{k n:Int}{s:LN}{cs:LV}{len:Nat}{k' n':Int}{s':LN}{cs':LV}{len':Nat}{k2 n2:Int}{s2:LN}{mS:LV}{XT:Nat}{k3 n3:Int}{s3:LN}{Vq:LV}{XU:Nat}{L:LT}{Q:QT}:
 eG abH [1000000] L Q 100 [.ad 0 2 4,iY 1 2 4] (ze (mJ k n s cs len k' n' s' cs' len') 49 (.ah (mJ k2 n2 s2 mS XT k3 n3 s3 Vq XU) 49))=ia 0 2 (λi=>∃bm:Int,∃bS:Int,∃cX:LN,∃cA:LV,∃b_:Nat,oe 49 (mJ k n s cs len k' n' s' cs' len') (i*4) (cN bm bS cX cA b_)/\J_ bm bS cX cA b_ k2 n2 s2 mS XT (λw=>sU (!jm w.1 w.2) Q (ze (mJ k n s cs len k' n' s' cs' len') 49 (.ah (mJ k2 n2 s2 mS XT k3 n3 s3 Vq XU) 49)) (ia 1 2 (λcv=>∃dn:Int,∃fx:Int,∃yZ:LN,∃mT:LV,∃nj:Nat,oe 49 (mJ k n s cs len k' n' s' cs' len') (cv*4) (cN dn fx yZ mT nj)/\J_ dn fx yZ mT nj k3 n3 s3 Vq XU (λaH=>Cj (!jm aH.1 aH.2) Q (.ai false) (ze (mJ k n s cs len k' n' s' cs' len') 49 (.ah (mJ k2 n2 s2 mS XT k3 n3 s3 Vq XU) 49)) (.ai true)))))):=by kernel_rfl
theorem aLX{k n:Int}{s:LN}{cs:LV}{len:Nat}{k' n':Int}{s':LN}{cs':LV}{len':Nat}{L:LT}{Q:QT}:
 fA UG Ye L Q 60 [.aj (mJ k n s cs len k' n' s' cs' len')] ay=uW k n s cs len Q (.ai false) (uW k' n' s' cs' len' Q (.ai false) (nG (k !=2) (k !=3) (Q (.ai false) ay) (L (aJ [(1,.aa 0 0)]) (iA (wE k n s cs len k' n' s' cs' len')) (dg Z Ye 60 0)))):=by kernel_rfl
theorem aLV{k n:Int}{s:LN}{cs:LV}{len:Nat}{k' n':Int}{s':LN}{cs':LV}{len':Nat}{L:LT}{Q:QT}:
 AE UG L Q 60 0 (aJ [(1,.aa 0 0)]) Ye (iA (wE k n s cs len k' n' s' cs' len'))=qL k' n' s' cs' len' (λw=>sU (!(dM w).2) Q ay (J_ (dM w).1.bV (dM w).1.n (dM w).1.cq (az (dM w).1.aU) (dM w).1.aU.length k' n' s' cs' len' (λaH=>sU (!jm aH.1 aH.2) Q ay (Cs k n s cs len/\im (cN k' n' s' cs' len')/\Cs k' n' s' cs' len'/\sU (decide (wI (iy cy (fS k n s cs len)+iy cy (fS k' n' s' cs' len'))>2000)) Q ay (∃cI:ax×ax,aid (Ck k n s cs len k' n' s' cs' len') cI (bp cI.1+bp cI.2<50000) (TA (decide (a_ (Tz cI).length<=64)) (∃eJ:ax×ax,aid (iA (aaK cI)) eJ (ik eJ.1=true/\ik eJ.2=true/\bp eJ.1+bp eJ.2<50000) (∃kz:(ax×ax)×ax×ax,xK [.ad 0 2 4,iY 1 2 4] (ze (avq (p7 eJ.1 eJ.2) eJ.1 (p7 eJ.1 eJ.2) eJ.2) 49 (aaK eJ)=ze (mJ kz.1.1.bV kz.1.1.n kz.1.1.cq (az kz.1.1.aU) kz.1.1.aU.length kz.1.2.bV kz.1.2.n kz.1.2.cq (az kz.1.2.aU) kz.1.2.aU.length) 49 (.ah (mJ kz.2.1.bV kz.2.1.n kz.2.1.cq (az kz.2.1.aU) kz.2.1.aU.length kz.2.2.bV kz.2.2.n kz.2.2.cq (az kz.2.2.aU) kz.2.2.aU.length) 49)/\bA kz.1.1/\bA kz.1.2/\bA kz.2.1/\bA kz.2.2) (Q (.ai (jm kz.1.1 kz.2.1&&jm kz.1.2 kz.2.2)) ay))) Q)))))):=by kernel_rfl
theorem abI:aF Z UG:=by
 refine bY akp ?_;rintro⟨⟨⟨k,n,s,l⟩,⟨k',n',s',l'⟩⟩,⟨k2,n2,s2,l2⟩,⟨k3,n3,s3,l3⟩⟩ args H ⟨rfl,rfl,h1,h2,h3,h4⟩;simp only at h1 h2 h3 h4;refine eE 27 akp aJG ?_;delta oe;refine⟨0,rfl,by decide,k,n,s,az l,l.length,by kernel_rfl,(.mk k n s l,.mk k2 n2 s2 l2),⟨rfl,rfl,h1,h3⟩,al (λh=>?_) λh=>⟨1,rfl,by decide,k',n',s',az l',l'.length,by kernel_rfl,(.mk k' n' s' l',.mk k3 n3 s3 l3),⟨rfl,rfl,h2,h4⟩,al (λh5=>?_) λh5=>?_⟩⟩
 .have h:jm (.mk k n s l) (.mk k2 n2 s2 l2)=false:=by simpa using h
  simp only[Sz,h,tZ];exact aA
 .have h:jm (.mk k n s l) (.mk k2 n2 s2 l2)=true:=by simpa using h
  have h5:jm (.mk k' n' s' l') (.mk k3 n3 s3 l3)=false:=by simpa using h5
  simp only[Sz,h,h5,pW];exact aA
 .have h:jm (.mk k n s l) (.mk k2 n2 s2 l2)=true:=by simpa using h
  have h5:jm (.mk k' n' s' l') (.mk k3 n3 s3 l3)=true:=by simpa using h5
  simp only[Sz,h,h5,pW];exact aA
theorem aLW{k n s l k' n' s' l'}(h1:bA (.mk k n s l))(h2:bA (.mk k' n' s' l'))(v1:eP (.mk k n s l)=true)(v2:eP (.mk k' n' s' l')=true):
 ba Z 60 68 0 (.ai ((dM (.mk k' n' s' l')).2&&jm (dM (.mk k' n' s' l')).1 (.mk k' n' s' l')&&decide (cy (.mk k n s l)+cy (.mk k' n' s' l')<=2000)&&decide ((p7 (.mk k n s l) (.mk k' n' s' l')).length<=64)&&(jm (il (p7 (.mk k n s l) (.mk k' n' s' l')) (.mk k n s l)) (.mk k n s l)&&jm (il (p7 (.mk k n s l) (.mk k' n' s' l')) (.mk k' n' s' l')) (.mk k' n' s' l')))) ay (aJ [(1,.aa 0 0)]) (aE [(0,wE k n s (az l) l.length k' n' s' (az l') l'.length)] 1) (dg Z Ye 60 0):=by
 have b1:=Aq v1;have b2:=Aq v2;have z1:=Zi (.mk k n s l);have z2:=Zi (.mk k' n' s' l');have hc:=azo h2;refine hE abI aLV ?_;delta Tz;refine⟨.mk k' n' s' l',⟨rfl,rfl,h2⟩,al (λh=>?_) λh=>⟨((dM (.mk k' n' s' l')).1,.mk k' n' s' l'),⟨by rw[<-py];rfl,rfl,hc,h2⟩,al (λh3=>?_) λh3=>⟨⟨rfl,kY h1⟩,rfl,⟨rfl,kY h2⟩,al (λh4=>?_) λh4=>⟨(.mk k n s l,.mk k' n' s' l'),⟨rfl,rfl,h1,h2,by simp only;omega⟩,al (λh5=>⟨(.mk k n s l,.mk k' n' s' l'),⟨rfl,rfl,h1,h2,JM v1,JM v2,by simp only;omega⟩,((il (p7 (.mk k n s l) (.mk k' n' s' l')) (.mk k n s l),il (p7 (.mk k n s l) (.mk k' n' s' l')) (.mk k' n' s' l')),.mk k n s l,.mk k' n' s' l'),⟨rfl,rfl,afC _ h1,afC _ h2,h1,h2⟩,?_⟩) λh5=>?_⟩⟩⟩⟩;all_goals first|rw[iD,iD,cb]at h4|skip
 .have h:(dM (.mk k' n' s' l')).2=false:=by simpa using h
  rw[h];exact aA
 .have h:(dM (.mk k' n' s' l')).2=true:=by simpa using h
  have h3:jm (dM (.mk k' n' s' l')).1 (.mk k' n' s' l')=false:=by simpa using h3
  rw[h,h3];exact aA
 .have h:(dM (.mk k' n' s' l')).2=true:=by simpa using h
  have h3:jm (dM (.mk k' n' s' l')).1 (.mk k' n' s' l')=true:=by simpa using h3
  have h4:decide (cy (.mk k n s l)+cy (.mk k' n' s' l')<=2000)=false:=decide_eq_false (by have:=cP h4;omega);rw[h,h3,h4];exact aA
 .have h:(dM (.mk k' n' s' l')).2=true:=by simpa using h
  have h3:jm (dM (.mk k' n' s' l')).1 (.mk k' n' s' l')=true:=by simpa using h3
  have h4:decide (cy (.mk k n s l)+cy (.mk k' n' s' l')<=2000)=true:=decide_eq_true (by have:=c9 h4;omega);have h5:decide ((p7 (.mk k n s l) (.mk k' n' s' l')).length<=64)=true:=decide_eq_true (by have:=cP h5;simp only[jr]at this;show(gC (gC [] _) _).length<=64;omega);rw[h,h3,h4,h5];exact aA
 .have h:(dM (.mk k' n' s' l')).2=true:=by simpa using h
  have h3:jm (dM (.mk k' n' s' l')).1 (.mk k' n' s' l')=true:=by simpa using h3
  have h4:decide (cy (.mk k n s l)+cy (.mk k' n' s' l')<=2000)=true:=decide_eq_true (by have:=c9 h4;omega);have h5:decide ((p7 (.mk k n s l) (.mk k' n' s' l')).length<=64)=false:=decide_eq_false (by have:=c9 h5;simp only[jr]at this;show¬(gC (gC [] _) _).length<=64;omega);rw[h,h3,h4,h5];exact aA
theorem akq:aF Z abJ:=by
 refine bY abI ?_;rintro⟨⟨k,n,s,l⟩,⟨k',n',s',l'⟩⟩ args H ⟨rfl,rfl,h1,h2⟩;simp only at h1 h2;simp only[brX,Vc,mO,ax.bV];refine eE 68 abI aLX ?_;delta uW;rw[iD,iD];refine⟨⟨rfl,kY h1⟩,al (λh=>?_) λv1=>⟨⟨rfl,kY h2⟩,al (λh=>?_) λv2=>?_⟩⟩
 .have h:eP (.mk k n s l)=false:=by simpa using h
  rw[h];exact aA
 .have v1:eP (.mk k n s l)=true:=by simpa using v1
  have h:eP (.mk k' n' s' l')=false:=by simpa using h
  rw[v1,h];exact aA
 .have v1:eP (.mk k n s l)=true:=by simpa using v1
  have v2:eP (.mk k' n' s' l')=true:=by simpa using v2
  have hb:=aLW h1 h2 v1 v2;rw[v1,v2];refine al (λh=>al (λh3=>?_) λh3=>?_) λh=>?_
  .have h:(k==2)=false:=by simpa using h
   have h3:(k==3)=false:=by simpa using h3
   rw[h,h3];exact aA
  .have h3:(k==3)=true:=by simpa using h3
   rw[h3,Bool.or_true];exact hb
  .have h:(k==2)=true:=by simpa using h
   rw[h];exact hb
def abK:Ev.aX:=eD 58 (fj Yn) abJ
def Va(n:LN)(a:Int)(n':LN)(a':Int):Bool:=ki n n'||(bO n n'&&decide (a<a'))
def ale:LV->Option (Prop×AV)
 |[.aj [.ao n,.bD .i64 a,.ai d,.aq cs len 9],.aj [.ao n',.bD .i64 a',.ai d',.aq cs' len' 9]]=>some (True,.ai (Va n a n' a'))
 |_=>none
def UH:Ev.aX:=eD 59 (fj ale) abK
def GI(l:List cB):Prop:=l.length<=500/\∀p∈l,p.bk.length<=500
def ahb(d:Db):Int:=Classical.epsilon λn=>bC Z 57 [.aj (iU d)] ay (J n) ay
def auy:bT Db where
 aI d A H:=A=[.aj (iU d)]/\H=ay/\mD d/\GI d.dT
 v d:=J (ahb d)
 aD d:=ay
theorem aNp:auy.bM:=λt t' A H h1 h2=>by rw[HT h1.1 h2.1]
def KH:Ev.aX:=bx 57 (bE auy aNp bU) UH
def Y6(d:Db):Bool:=Classical.epsilon λb=>bC Z 36 [.aj (iU d)] ay (.ai b) ay
def as0:bT Db where
 aI d A H:=A=[.aj (iU d)]/\H=ay/\mD d/\GI d.dT
 v d:=.ai (Y6 d)
 aD d:=ay
theorem aGm:as0.bM:=λt t' A H h1 h2=>by rw[HT h1.1 h2.1]
def abL:Ev.aX:=bx 36 (bE as0 aGm bU) KH
def aqK:Nat->LN:=dY [(3,[1,3,4])]
def X7:Nat->LN:=dY [(5,[1,3,4]),(11,[1,3,4,5,6]),(17,[1,3,4,5,6,7,8])]
theorem aLT{s:LN}{a:Int}{L:LT}{Q:QT}:
 fL abJ L Q 58 [.ao s,J a]=Tx (a_ s.length) a 0 Q (decide (a<=8)):=by kernel_rfl
theorem aLU{s:LN}{a:Int}{d:Bool}{cs:LV}{len:Nat}{s':LN}{a':Int}{d':Bool}{cs':LV}{len':Nat}{L:LT}{Q:QT}:
 fL abK L Q 59 [.aj (y' s a d cs len),.aj (y' s' a' d' cs' len')]=aZ (ki s s') (Q (.ai true) ay) (Cj (bO s s') Q (.ai (decide (a<a'))) ay (.ai false)):=by kernel_rfl
theorem aLS{nx:Int}{ps:LV}{np:Nat}{L:LT}{Q:QT}:
 fA UH aqK L Q 57 [nF nx ps np] ay=L (za 1 3 (J 0) 4 (J 0)) (iA (eM nx ps np)) (aB Z 57 0):=by kernel_rfl
theorem Zo{nx:Int}{ps:LV}{np:Nat}{n i:Int}{L:LT}{Q:QT}:
 ju UH aqK L Q 57 0 [(1,.aa 0 0),(3,J n),(4,J i)] (iA (eM nx ps np))=J9 i np ps (λs=>λbm=>λb=>λcs=>λlen=>Az (decide (a_ len>500)) (Q (J 501) ay) (decide (n>500)) (S8 i np ps (λcX=>λbS=>λlH=>λcA=>λb_=>L (za 1 3 (J (wI (n+a_ b_))) 4 (cu i)) (iA (eM nx ps np)) (aB Z 57 0)))) (Q (J n) ay):=by kernel_rfl
theorem Zn{nx:Int}{ps:LV}{np:Nat}{L:LT}{Q:QT}:
 fA KH X7 L Q 36 [nF nx ps np] ay=TD (decide (nx<1)) (Q (.ai false) ay) (decide (nx>4294967296)) (decide (a_ np>500)) (∃w:Db,Tw nx ps np w (mD w/\GI w.dT)/\Cm (decide (ahb w>500)) Q L (za 1 3 .aM 4 (J 0)) (iA (eM nx ps np)) 36 0):=by kernel_rfl
abbrev aai h0 h1 h2:=([(1,.aa 0 0),(3,.ad 1 h0 1),(4,J h1),(5,.aa 2 0),(6,h2)]:List (Nat×AV))
theorem SE{nx:Int}{ps:LV}{np:Nat}{i:Int}{ds:LV}{m:Nat}{L:LT}{Q:QT}:
 ju KH X7 L Q 36 0 [(1,.aa 0 0),(3,.ad 1 m 1),(4,J i)] (j_ (eM nx ps np) (.au ds 2))=J9 i np ps (λs=>λn=>λb=>λcs=>λlen=>dc True/\sU (!xm s n) Q ay (gT (decide (i>0)) (S8 (wI (i-1)) np ps (λcX=>λbm=>λlH=>λcA=>λb_=>dc True/\Cm (!Va cX bm s n) Q L (aJ (aai m i (J 0))) (jv (eM nx ps np) (.au ds 2) (nr s n b cs len)) 36 1)) L (aJ (aai m i (J 0))) (jv (eM nx ps np) (.au ds 2) (nr s n b cs len)) 36 1)) (Q (.ai true) ay):=by kernel_rfl
abbrev ahN h0 h1 h2 h3:=aJ [(1,.aa 0 0),(3,.ad 1 h0 1),(4,J h1),(5,.aa 2 0),(6,J h2),(7,.aa 3 0),(8,h3)]
theorem JB{nx:Int}{ps:LV}{np:Nat}{i:Int}{ds:LV}{m:Nat}{nm:LN}{ar:Int}{dy:Bool}{ss:LV}{ns:Nat}{j:Int}{L:LT}{Q:QT}:
 iL KH X7 L Q 36 0 (aJ (aai m i (J j))) 1 (jv (eM nx ps np) (.au ds 2) (nr nm ar dy ss ns))=OC j ns ss (λn=>λbm=>λbS=>λs=>λcs=>λlen=>λdn=>λfx=>λcX=>λcA=>λb_=>AD (decide (n<1)) Q (decide (n>=nx)) (aak bm bS s cs len dn fx cX cA b_ (λw=>AD (!Vc w) Q (!bO s nm) (Cm (a_ len !=ar) Q L (ahN m i j (J 0)) (uX (eM nx ps np) (.au ds 2) (nr nm ar dy ss ns) (n9 n bm bS s cs len dn fx cX cA b_)) 36 2)))) (L (za 1 3 (.ad 1 m 1) 4 (cu i)) (j_ (eM nx ps np) (.au ds 2)) (aB Z 36 0)):=by kernel_rfl
theorem agP{nx:Int}{ps:LV}{np:Nat}{i:Int}{ds:LV}{m:Nat}{nm:LN}{ar:Int}{dy:Bool}{ss:LV}{ns:Nat}{j q:Int}{id k n:Int}{s:LN}{cs:LV}{len:Nat}{k' n':Int}{s':LN}{cs':LV}{len':Nat}{L:LT}{Q:QT}:
 iL KH X7 L Q 36 0 (ahN m i j (J q)) 2 (uX (eM nx ps np) (.au ds 2) (nr nm ar dy ss ns) (n9 id k n s cs len k' n' s' cs' len'))=jQ q m (λcv=>lh 2 ds (cv*1) (λbm=>Cm (bm==id) Q L (ahN m i j (cu q)) (uX (eM nx ps np) (.au ds 2) (nr nm ar dy ss ns) (n9 id k n s cs len k' n' s' cs' len')) 36 2)) (xH ds m 1 L (aai (m+1) i (cu j)) (jv (eM nx ps np) (.au (ds++[J id]) 2) (nr nm ar dy ss ns)) 36 1):=by kernel_rfl
theorem akr:aF Z abK:=by
 refine jl akq λargs q v h hq=>?_
 unfold Yn at h;split at h<;>cases h;rename_i s a;refine eE 16 akq aLT ?_;delta Tx;simp only[xm,jr];generalize decide ((s.length:Int)<=100)=x;generalize decide (a>=0)=y;cases x<;>cases y<;>exact⟨rfl,rfl⟩
theorem KG:aF Z UH:=by
 refine jl akr λargs q v h hq=>?_
 unfold ale at h;split at h<;>cases h;refine eE 24 akr aLU ?_;rw[Va];generalize ki _ _=x;generalize bO _ _=y;cases x<;>cases y<;>exact⟨rfl,rfl⟩
theorem at8{nx:Int}{l:List cB}(hl:l.length<4000000):∀(f i:Nat) (n:Int),i+f=l.length->∃v,ba Z 57 34 0 (J v) ay (aJ [(1,.aa 0 0),(3,J n),(4,J (i:Int))]) (aE [(0,eM nx (cR l) l.length)] 1) (aB Z 57 0)
 |0,i,n,h=>⟨n,hE KG Zo (al (λae=>absurd (cP ae) (by simp only[jr];omega)) λ_=>aA)⟩
 |f+1,i,n,h=>by
  have ae:i<l.length:=by omega
  have hr:=yf ae;obtain⟨v,hv⟩:=at8 (nx:=nx) hl f (i+1) (wI (n+((l[i].bk.length:Nat):Int))) (by omega);have hw:wI ((i:Int)+1)=((i+1:Nat):Int):=by rw[cb];simp
  rw[<-hw]at hv;by_cases h1:(500:Int)<a_ l[i].bk.length
  .exact⟨501,hE KG Zo (al (λ_=>⟨i,rfl,ae,_,_,_,_,_,hr,al (λ_=>aA) λh=>absurd h1 (c9 h)⟩) λhh=>absurd (c9 hh) (by simp only[jr];omega))⟩
  by_cases h2:(500:Int)<n
  .exact⟨501,hE KG Zo (al (λ_=>⟨i,rfl,ae,_,_,_,_,_,hr,al (λh=>absurd (cP h) h1) λ_=>al (λ_=>aA) λh=>absurd h2 (c9 h)⟩) λhh=>absurd (c9 hh) (by simp only[jr];omega))⟩
  .exact⟨v,hE KG Zo (al (λ_=>⟨i,rfl,ae,_,_,_,_,_,hr,al (λh=>absurd (cP h) h1) λ_=>al (λh=>absurd (cP h) h2) λ_=>⟨i,rfl,ae,_,_,_,_,_,hr,hv⟩⟩) λhh=>absurd (c9 hh) (by simp only[jr];omega))⟩
theorem pv:aF Z KH:=by refine bY KG ?_;rintro⟨nx,l⟩ args H ⟨rfl,rfl,hd,hs⟩;refine Classical.epsilon_spec (p:=λn=>bC Z 57 [.aj (iU ⟨nx,l⟩)] ay (J n) ay) ?_;obtain⟨v,hv⟩:=at8 (nx:=nx) (show l.length<4000000 by have:=hs.1;simp only at this;omega) l.length 0 0 (by omega);exact⟨v,eE 34 KG aLS hv⟩
theorem at0{nx:Int}{ps:LV}{np:Nat}{i j:Int}{seen:LI}{nm:LN}{ar:Int}{dy:Bool}{ss:LV}{ns:Nat}{id k n:Int}{s:LN}{cs:LV}{len:Nat}{k' n':Int}{s':LN}{cs':LV}{len':Nat}(hs:seen.length<4000000)
 (hn:∃b,ba Z 36 126 0 (.ai b) ay (aJ [(1,.aa 0 0),(3,.ad 1 (seen.length+1) 1),(4,J i),(5,.aa 2 0),(6,J (wI (j+1)))]) (aE [(0,eM nx ps np),(1,.au (bc (seen++[id])) 2),(2,nr nm ar dy ss ns)] 3) (aB Z 36 1)):
 ∀(f q:Nat),q+f=seen.length->∃b,ba Z 36 126 0 (.ai b) ay (aJ [(1,.aa 0 0),(3,.ad 1 seen.length 1),(4,J i),(5,.aa 2 0),(6,J j),(7,.aa 3 0),(8,J (q:Int))]) (aE [(0,eM nx ps np),(1,.au (bc seen) 2),(2,nr nm ar dy ss ns),(3,n9 id k n s cs len k' n' s' cs' len')] 4) (aB Z 36 2)
 |0,q,h=>by
  obtain⟨b,hb⟩:=hn;have e:bc (seen++[id])=bc seen++[J id]:=by simp[bc]
  rw[e]at hb;exact⟨b,hE pv agP (al (λae=>absurd (cP ae) (by simp only[jr];omega)) λ_=>⟨⟨by simp[bc],by omega,rfl,rfl⟩,hb⟩)⟩
 |f+1,q,h=>by
  have ae:q<seen.length:=by omega
  obtain⟨b,hb⟩:=at0 hs hn f (q+1) (by omega);have hw:wI ((q:Int)+1)=((q+1:Nat):Int):=by rw[cb];simp
  rw[<-hw]at hb;have hl:¬¬(q:Int)<a_ seen.length:=by simp only[jr];omega
  by_cases h1:seen[q]=id
  .exact⟨false,hE pv agP (al (λ_=>⟨q,rfl,ae,seen[q],aev ae,al (λ_=>aA) λh=>absurd h1 (by simpa using h)⟩) λhh=>absurd (c9 hh) hl)⟩
  .exact⟨b,hE pv agP (al (λ_=>⟨q,rfl,ae,seen[q],aev ae,al (λh=>absurd (by simpa using h) h1) λ_=>hb⟩) λhh=>absurd (c9 hh) hl)⟩
theorem atY{nx:Int}{ps:LV}{np:Nat}{i:Int}{nm:LN}{ar:Int}{dy:Bool}{l:List eK}{B:Nat}(aBM:l.length<=500)(hB:B<3000000)(ho:∀s∈l,pa s.c)
 (hn:∀seen:LI,seen.length<=B+500->∃b,ba Z 36 126 0 (.ai b) ay (aJ [(1,.aa 0 0),(3,.ad 1 seen.length 1),(4,J (wI (i+1)))]) (aE [(0,eM nx ps np),(1,.au (bc seen) 2)] 2) (aB Z 36 0)):
 ∀(f j:Nat) (seen:LI),j+f=l.length->seen.length<=B+j->∃b,ba Z 36 126 0 (.ai b) ay (aJ [(1,.aa 0 0),(3,.ad 1 seen.length 1),(4,J i),(5,.aa 2 0),(6,J (j:Int))]) (aE [(0,eM nx ps np),(1,.au (bc seen) 2),(2,nr nm ar dy (ew l) l.length)] 3) (aB Z 36 1)
 |0,j,seen,h,hs=>by obtain⟨b,hb⟩:=hn seen (by omega);exact⟨b,hE pv JB (al (λae=>absurd (cP ae) (by simp only[jr];omega)) λ_=>hb)⟩
 |f+1,j,seen,h,hs=>by
  have ae:j<l.length:=by omega
  have hr:=H_ ae;have hw:wI ((j:Int)+1)=((j+1:Nat):Int):=by rw[cb];simp
  have hl:¬¬(j:Int)<a_ l.length:=by simp only[jr];omega
  have aN:=ho _ (k7 ae);have ih:=λseen h1=>atY (nm:=nm) (ar:=ar) (dy:=dy) aBM hB ho hn f (j+1) seen (by omega) h1
  generalize l[j]=st at hr aN;obtain⟨id,⟨k,n,s,u⟩,⟨k',n',s',u'⟩⟩:=st;obtain⟨b,hb⟩:=at0 (id:=id) (seen:=seen) (j:=(j:Int)) (nx:=nx) (ps:=ps) (np:=np) (i:=i) (nm:=nm) (ar:=ar) (dy:=dy) (ss:=ew l) (ns:=l.length) (k:=k) (n:=n) (s:=s) (cs:=az u) (len:=u.length) (k':=k') (n':=n') (s':=s') (cs':=az u') (len':=u'.length) (by omega) (by obtain⟨b,hb⟩:=ih (seen++[id]) (by simp;omega);rw[hw];simp only[cj,dJ,gH,lx]at hb;exact⟨b,hb⟩) seen.length 0 (by omega);by_cases h1:id<1
  .exact⟨false,hE pv JB (al (λ_=>⟨j,rfl,ae,_,_,_,_,_,_,_,_,_,_,_,hr,al (λ_=>aA) λh=>absurd h1 (c9 h)⟩) λhh=>absurd (c9 hh) hl)⟩
  by_cases h2:id>=nx
  .exact⟨false,hE pv JB (al (λ_=>⟨j,rfl,ae,_,_,_,_,_,_,_,_,_,_,_,hr,al (λh=>absurd (cP h) h1) λ_=>al (λ_=>aA) λh=>absurd h2 (c9 h)⟩) λhh=>absurd (c9 hh) hl)⟩
  cases h3:Vc (.mk k n s u,.mk k' n' s' u')with
  |false=>exact⟨false,hE pv JB (al (λ_=>⟨j,rfl,ae,_,_,_,_,_,_,_,_,_,_,_,hr,al (λh=>absurd (cP h) h1) λ_=>al (λh=>absurd (cP h) h2) λ_=>⟨(.mk k n s u,.mk k' n' s' u'),⟨rfl,rfl,aN⟩,al (λ_=>aA) λh=>by rw[h3]at h;cases h⟩⟩) λhh=>absurd (c9 hh) hl)⟩
  |true=>cases h4:bO s nm with
   |false=>exact⟨false,hE pv JB (al (λ_=>⟨j,rfl,ae,_,_,_,_,_,_,_,_,_,_,_,hr,al (λh=>absurd (cP h) h1) λ_=>al (λh=>absurd (cP h) h2) λ_=>⟨(.mk k n s u,.mk k' n' s' u'),⟨rfl,rfl,aN⟩,al (λh=>(by rw[h3]at h;cases h)) λ_=>al (λ_=>aA) λh=>by rw[h4]at h;cases h⟩⟩) λhh=>absurd (c9 hh) hl)⟩
   |true=>cases h5:(a_ u.length !=ar)with
    |true=>exact⟨false,hE pv JB (al (λ_=>⟨j,rfl,ae,_,_,_,_,_,_,_,_,_,_,_,hr,al (λh=>absurd (cP h) h1) λ_=>al (λh=>absurd (cP h) h2) λ_=>⟨(.mk k n s u,.mk k' n' s' u'),⟨rfl,rfl,aN⟩,al (λh=>(by rw[h3]at h;cases h)) λ_=>al (λh=>(by rw[h4]at h;cases h)) λ_=>al (λ_=>aA) λh=>by rw[h5]at h;cases h⟩⟩) λhh=>absurd (c9 hh) hl)⟩
    |false=>exact⟨b,hE pv JB (al (λ_=>⟨j,rfl,ae,_,_,_,_,_,_,_,_,_,_,_,hr,al (λh=>absurd (cP h) h1) λ_=>al (λh=>absurd (cP h) h2) λ_=>⟨(.mk k n s u,.mk k' n' s' u'),⟨rfl,rfl,aN⟩,al (λh=>(by rw[h3]at h;cases h)) λ_=>al (λh=>(by rw[h4]at h;cases h)) λ_=>al (λh=>(by rw[h5]at h;cases h)) λ_=>hb⟩⟩) λhh=>absurd (c9 hh) hl)⟩
theorem atZ{nx:Int}{l:List cB}(hs:GI l)(ho:∀p∈l,Jj p):∀(f i:Nat) (seen:LI),i+f=l.length->seen.length<=500*i->∃b,ba Z 36 126 0 (.ai b) ay (aJ [(1,.aa 0 0),(3,.ad 1 seen.length 1),(4,J (i:Int))]) (aE [(0,eM nx (cR l) l.length),(1,.au (bc seen) 2)] 2) (aB Z 36 0)
 |0,i,seen,h,hb=>⟨true,hE pv SE (al (λae=>absurd (cP ae) (by simp only[jr];omega)) λ_=>aA)⟩
 |f+1,i,seen,h,hb=>by
  have ae:i<l.length:=by omega
  have Xo:=hs.1;have hr:=yf ae;have hl:¬¬(i:Int)<a_ l.length:=by simp only[jr];omega
  have hw:wI ((i:Int)+1)=((i+1:Nat):Int):=by rw[cb];simp
  have aN:=ho _ (k7 ae);have fW:=hs.2 _ (k7 ae);obtain⟨b,ke⟩:=atY (nx:=nx) (ps:=cR l) (np:=l.length) (i:=(i:Int)) (nm:=l[i].gD) (ar:=l[i].ar) (dy:=l[i].A2) (B:=500*i) fW (by omega) aN.2.2 (λseen hse=>by rw[hw];exact atZ hs ho f (i+1) seen (by omega) (by omega)) l[i].bk.length 0 seen (by omega) hb;cases h1:xm l[i].gD l[i].ar with
  |false=>exact⟨false,hE pv SE (al (λ_=>⟨i,rfl,ae,_,_,_,_,_,hr,da,al (λ_=>aA) λh=>by rw[h1]at h;cases h⟩) λhh=>absurd (c9 hh) hl)⟩
  |true=>
   by_cases h0:i=0
   .subst h0;exact⟨b,hE pv SE (al (λ_=>⟨0,rfl,ae,_,_,_,_,_,hr,da,al (λh=>(by rw[h1]at h;cases h)) λ_=>al (λh=>ab (cP h)) λ_=>ke⟩) λhh=>absurd (c9 hh) hl)⟩
   .have sx:i-1<l.length:=by omega
    have l5:=yf sx;have sA:wI ((i:Int)-1)=((i-1:Nat):Int):=by rw[cb];omega
    cases h2:Va l[i-1].gD l[i-1].ar l[i].gD l[i].ar with
    |false=>exact⟨false,hE pv SE (al (λ_=>⟨i,rfl,ae,_,_,_,_,_,hr,da,al (λh=>(by rw[h1]at h;cases h)) λ_=>al (λ_=>⟨i-1,sA,sx,_,_,_,_,_,l5,da,al (λ_=>aA) λh=>by rw[h2]at h;cases h⟩) λh=>ab (c9 h)⟩) λhh=>absurd (c9 hh) hl)⟩
    |true=>exact⟨b,hE pv SE (al (λ_=>⟨i,rfl,ae,_,_,_,_,_,hr,da,al (λh=>(by rw[h1]at h;cases h)) λ_=>al (λ_=>⟨i-1,sA,sx,_,_,_,_,_,l5,da,al (λh=>(by rw[h2]at h;cases h)) λ_=>ke⟩) λh=>ab (c9 h)⟩) λhh=>absurd (c9 hh) hl)⟩
theorem aks:aF Z abL:=by
 refine bY pv ?_;rintro⟨nx,l⟩ args H ⟨rfl,rfl,hd,hs⟩;simp only at hs;refine Classical.epsilon_spec (p:=λb=>bC Z 36 [.aj (iU ⟨nx,l⟩)] ay (.ai b) ay) ?_;obtain⟨b,hb⟩:=atZ (nx:=nx) hs hd.2 l.length 0 [] (by omega) (ct _);have hh:ba Z 36 126 0 (.ai b) ay (aJ [(1,.aa 0 0),(3,.aM),(4,J 0)]) (aE [(0,eM nx (cR l) l.length)] 1) (aB Z 36 0):=zF 1 2 [3] hb rfl;by_cases h1:nx<1
 .exact⟨false,eE 126 pv Zn (al (λ_=>aA) λh=>absurd h1 (c9 h))⟩
 by_cases h2:nx>4294967296
 .exact⟨false,eE 126 pv Zn (al (λh=>absurd (cP h) h1) λ_=>al (λ_=>aA) λh=>absurd h2 (c9 h))⟩
 have h3:¬a_ l.length>500:=by have:=hs.1;simp only[jr];omega
 by_cases h4:ahb ⟨nx,l⟩>500
 .exact⟨false,eE 126 pv Zn (al (λh=>absurd (cP h) h1) λ_=>al (λh=>absurd (cP h) h2) λ_=>al (λh=>absurd (cP h) h3) λ_=>⟨⟨nx,l⟩,⟨rfl,rfl,hd,hs⟩,al (λ_=>aA) λh=>absurd h4 (c9 h)⟩)⟩
 .exact⟨b,eE 126 pv Zn (al (λh=>absurd (cP h) h1) λ_=>al (λh=>absurd (cP h) h2) λ_=>al (λh=>absurd (cP h) h3) λ_=>⟨⟨nx,l⟩,⟨rfl,rfl,hd,hs⟩,al (λh=>absurd (cP h) h4) λ_=>hh⟩)⟩
def al2:bT eK where
 aI s A H:=A=[.aj (pA s)]/\H=ay/\pa s.c
 v s:=.aj (J s.id::(eU (cZ s.c.1)++eU (cZ s.c.2)))
 aD s:=ay
theorem azc:al2.bM:=by rintro s s' A H ⟨h1,_⟩ ⟨h2,_⟩;rw[h1]at h2;simp only[fG,AV.aj.injEq,and_true]at h2;rw[P3 h2]
def UI:Ev.aX:=bx 96 (bE al2 azc bU) abL
def ZW(c:nK):Prop:=eP c.1=true/\eP c.2=true
def alZ:bT cB where
 aI p A H:=A=[.aj (tn p)]/\H=ay/\Jj p/\p.bk.length<=500/\∀s∈p.bk,ZW s.c
 v p:=.aj [.ao p.gD,J p.ar,.ai p.A2,.aq (ew p.bk) p.bk.length 9]
 aD p:=ay
theorem aza:alZ.bM:=by rintro s s' A H ⟨h1,_⟩ ⟨h2,_⟩;rw[h1]at h2;simp only[fG,AV.aj.injEq,and_true]at h2;rw[amT h2]
def UJ:Ev.aX:=bx 61 (bE alZ aza bU) UI
structure HE(d:Db):Prop where
 ok:mD d
 sm:GI d.dT
 va:∀p∈d.dT,∀s∈p.bk,ZW s.c
def als:bT Db where
 aI d A H:=A=[.aj (iU d)]/\H=ay/\HE d
 v d:=.aj [J d.Ho,.ad 0 d.dT.length 4]
 aD d:=aE [(0,.au (cR d.dT) 34)] 1
theorem ayK:als.bM:=λt t' A H h1 h2=>by rw[HT h1.1 h2.1]
def Pv:Ev.aX:=bx 37 (bE als ayK bU) UJ
def pC(id:Int):List eK->Option (List eK)
 |[]=>none
 |s::l=>if s.id=id then some l else(pC id l).map (s:: ·)
def ri(id:Int):List cB->Option (List cB)
 |[]=>none
 |p::l=>match pC id p.bk with
  |some c=>some ({p with bk:=c}::l)
  |none=>(ri id l).map (p:: ·)
def LB(d:Db)(id:Int):Int×List cB×Bool:=
 if Y6 d=false then(0,[],false)else match ri id d.dT with
  |some l=>(d.Ho,l,true)
  |none=>(0,[],false)
structure Erw where
 d:Db
 id:Int
 nx:Int
 l:List cB
 b:Bool
def anh:bT Erw where
 aI w A H:=A=[.aj (iU w.d),J w.id]/\H=ay/\HE w.d/\LB w.d w.id=(w.nx,w.l,w.b)
 v w:=.aL [.aj [J w.nx,.aq (cR w.l) w.l.length 4],.ai w.b]
 aD w:=ay
theorem aAJ:anh.bM:=by
 rintro⟨d,i,a,b,c⟩ ⟨d',i',a',b',c'⟩ A H ⟨h1,_,_,q1⟩ ⟨h2,_,_,q2⟩;simp only at h1 h2 q1 q2;rw[h1]at h2;simp only[fG,AV.aj.injEq,AV.bD.injEq,true_and,and_true]at h2;obtain⟨h3,rfl⟩:=h2;obtain rfl:=ac0 h3
 grind
def UK:Ev.aX:=bx 14 (bE anh aAJ bU) Pv
def aqL:Nat->LN:=dY [(3,[1,2,3,4])]
def aqF:Nat->LN:=dY [(3,[1,2,3,4])]
def afc:Nat->LN:=dY [(5,[1,4,6,7]),(9,[1,4,6,7,8,9])]
def pcZ:aO:=.ah [.ao [],J 0,.ai false,.aM] 34
def pcG(nm:LN)(ar:Int)(dy:Bool)(a:AV):aO:=.ah [.ao nm,J ar,.ai dy,a] 34
def Vu:aO:=.ah [J 0,.aM] 24
def Vt(nx:Int)(a:AV):aO:=.ah [J nx,a] 24
def h61(nm:LN)(ar:Int)(dy:Bool)(ss:LV)(ns:Nat)(ds:LV)(m:Nat):AH:=aE [(0,nr nm ar dy ss ns),(1,pcZ),(2,pcG nm ar dy (.ad 3 m 9)),(3,.au ds 53)] 4
def h37(nx:Int)(ps:LV)(np:Nat)(ds:LV)(m:Nat):AH:=aE [(0,eM nx ps np),(1,Vu),(2,Vt nx (.ad 3 m 4)),(3,.au ds 34)] 4
def jL(nx:Int)(ps:LV)(np:Nat):AH:=aE [(0,Vu),(1,Vt nx (.ad 2 np 4)),(2,.au ps 34)] 3
abbrev ahH h0 h1 h2 h3 h4:=AG h0 (cZ h1).bV (cZ h1).n (cZ h1).cq (az (cZ h2).aU) (cZ h2).aU.length (cZ h3).bV (cZ h3).n (cZ h3).cq (az (cZ h4).aU) (cZ h4).aU.length
theorem aMD{id k n:Int}{s:LN}{cs:LV}{len:Nat}{k' n':Int}{s':LN}{cs':LV}{len':Nat}{L:LT}{Q:QT}:
 fL abL L Q 96 [.aj (AG id k n s cs len k' n' s' cs' len')]=qL k n s cs len (λw=>im (cN k' n' s' cs' len')/\im (J id)/\qL k' n' s' cs' len' (λaH=>im (J id)/\Q (.aj (ahH id w w aH aH)) ay)):=by kernel_rfl
theorem aLZ{nm:LN}{ar:Int}{dy:Bool}{ss:LV}{ns:Nat}{L:LT}{Q:QT}:
 fA UI aqL L Q 61 [.aj (y' nm ar dy ss ns)] ay=L (Aw (J 0)) (jv (nr nm ar dy ss ns) pcZ (pcG nm ar dy .aM)) (aB Z 61 0):=by kernel_rfl
theorem aL0{nm:LN}{ar:Int}{dy:Bool}{ss:LV}{ns:Nat}{ds:LV}{m:Nat}{i:Int}{L:LT}{Q:QT}:
 iL UI aqL L Q 61 0 (Aw (J i)) 0 (h61 nm ar dy ss ns ds m)=OC i ns ss (λn=>λbm=>λbS=>λs=>λcs=>λlen=>λdn=>λfx=>λcX=>λcA=>λb_=>∃w:eK,Oo (xJ (AG n bm bS s cs len dn fx cX cA b_) (pA w) (pa (eK.c w))) m 9 ds L i (h61 nm ar dy ss ns (ds++ahH (eK.id w) (eK.c w).1 w.c.1 (eK.c w).2 w.c.2) (m+1)) 61) (Q (.aj [.ao nm,J ar,.ai dy,.ad 0 m 9]) (oK ds 53)):=by kernel_rfl
theorem aLk{nx:Int}{ps:LV}{np:Nat}{L:LT}{Q:QT}:
 fA UJ aqF L Q 37 [nF nx ps np] ay=L (Aw (J 0)) (jv (eM nx ps np) Vu (Vt nx .aM)) (aB Z 37 0):=by kernel_rfl
theorem aLl{nx:Int}{ps:LV}{np:Nat}{ds:LV}{m:Nat}{i:Int}{L:LT}{Q:QT}:
 iL UJ aqF L Q 37 0 (Aw (J i)) 0 (h37 nx ps np ds m)=J9 i np ps (λs=>λn=>λb=>λcs=>λlen=>∃w:cB,Oo (xJ (y' s n b cs len) (tn w) (Jj w/\w.bk.length<=500/\(∀s:eK,s∈w.bk->ZW (eK.c s)))) m 4 ds L i (h37 nx ps np (ds++y' (cB.gD w) (cB.ar w) (cB.A2 w) (ew w.bk) w.bk.length) (m+1)) 37) (Q (.aj [J nx,.ad 0 m 4]) (oK ds 34)):=by kernel_rfl
abbrev aia h0 h1:=([(1,J h0),(4,.aa 0 0),(6,.aa 1 0),(7,h1)]:List (Nat×AV))
theorem atE{nx:Int}{ps:LV}{np:Nat}{id:Int}{L:LT}{Q:QT}:
 fA Pv afc L Q 14 [nF nx ps np,J id] ay=(∃w:Db,Tw nx ps np w (mD w/\GI w.dT)/\aZ (!Y6 w) (Q (.aL [.aj [J 0,.aM],.ai false]) ay) (∃aH:Db,Tw nx ps np aH (HE aH)/\L (aJ (aia id (J 0))) (jL (Db.Ho aH) (cR aH.dT) aH.dT.length) (aB Z 14 0))):=by kernel_rfl
abbrev ahW h0 h1 h2 h3 h4:=aJ [(1,J h0),(4,.aa 0 0),(6,.aa 1 0),(7,J h1),(8,.aq h2 h3 9),(9,h4)]
theorem atF{nx:Int}{ps:LV}{np:Nat}{id i:Int}{L:LT}{Q:QT}:
 ju Pv afc L Q 14 0 (aia id (J i)) (jL nx ps np)=jQ i np (λcv=>∃cs:LV,∃len:Nat,oe 32 ps (cv*4+3) (.aq cs len 9)/\L (ahW id i cs len (J 0)) (jL nx ps np) (aB Z 14 1)) (Q (.aL [.aj [J 0,.aM],.ai false]) ay):=by kernel_rfl
theorem agO{nx:Int}{ps:LV}{np:Nat}{id i k:Int}{ss:LV}{ns:Nat}{L:LT}{Q:QT}:
 iL Pv afc L Q 14 0 (ahW id i ss ns (J k)) 1 (jL nx ps np)=OC k ns ss (λn=>λbm=>λbS=>λs=>λcs=>λlen=>λdn=>λfx=>λcX=>λcA=>λb_=>gT (n==id) (∃jA:Nat,k=(jA:Int)/\(∃jO:Nat,k=(jO:Int)/\(jA=jO/\jO<=ns)/\(∃sC:Nat,wI (k+1)=(sC:Int)/\(sC<=ns/\ns<=ns)/\(jO+(ns-sC)<=4194304/\List.all ((ss.drop (sC*9)).take ((ns-sC)*9)) f_=true)/\im (.ad 2 np 4)/\ia i np (λi_5=>i_5*4+3+1<=ps.length/\Q (JX [J nx,.ad 0 np 4]) (oK (iJ ps (i_5*4+3) [.aq (ss.take (jO*9)++(ss.drop (sC*9)).take ((ns-sC)*9)) (jO+(ns-sC)) 9]) 34))))) L (ahW id i ss ns (cu k)) (jL nx ps np) 14 1) (L (aJ (aia id (cu i))) (jL nx ps np) (aB Z 14 0)):=by kernel_rfl
theorem alD{t:ax}(h:eP t=true):cZ t=t:=by rw[cZ,aP h]
theorem abM:aF Z UI:=by refine bY aks ?_;rintro⟨id,⟨k,n,s,l⟩,⟨k',n',s',l'⟩⟩ args H ⟨rfl,rfl,h1,h2⟩;simp only at h1 h2;refine eE 15 aks aMD ?_;exact⟨.mk k n s l,⟨rfl,rfl,h1⟩,rfl,rfl,.mk k' n' s' l',⟨rfl,rfl,h2⟩,rfl,rfl,rfl⟩
theorem P5:∀a b:List eK,ew (a++b)=ew a++ew b
 |[],b=>rfl
 |t::a,b=>by simp[ew,P5 a b]
theorem amU:∀a b:List cB,cR (a++b)=cR a++cR b
 |[],b=>rfl
 |t::a,b=>by simp[cR,amU a b]
theorem Lw:∀l:List eK,(ew l).length=l.length*9
 |[]=>rfl
 |t::l=>by rw[ew,cj,P4,Lw l,dJ];omega
theorem VP:∀l:List cB,(cR l).length=l.length*4
 |[]=>rfl
 |t::l=>by rw[cR,cj,VP l,dJ];simp[tn];omega
theorem aLY{nm ar dy}{l:List eK}(hl:l.length<=500)(ho:∀s∈l,pa s.c)(hv:∀s∈l,ZW s.c):
 ∀i:Nat,i<=l.length->ba Z 61 31 0 (.aj [.ao nm,J ar,.ai dy,.ad 0 l.length 9]) (aE [(0,.au (ew l) 53)] 1)
  (aJ [(1,.aa 0 0),(2,.aa 1 0),(3,.aa 2 0),(4,J (i:Int))]) (h61 nm ar dy (ew l) l.length (ew (l.take i)) i) (aB Z 61 0):=by
 refine dj (λi=>l.length-i) _ _ _ _ ?_;rintro i hi ih;refine hE abM aL0 ?_;delta Oo cu ahH;refine al (λae=>?_) λaY=>?_
 .have ae:i<l.length:=by simpa using ae
  have hr:=H_ ae;have aN:=ho _ (k7 ae);have F0:=hv _ (k7 ae);have bB:(ew (l.take i)).length=i*9:=by rw[Lw,rH];omega
  have e2:ew (l.take (i+1))=ew (l.take i)++pA l[i]:=by rw[qB,gg ae,P5];simp[ew]
  have hn:=ih (i+1) (by omega) (by omega);rw[e2]at hn;generalize l[i]=st at hr aN F0 hn;obtain⟨id,⟨k,n,s,u⟩,⟨k',n',s',u'⟩⟩:=st;refine⟨i,rfl,ae,_,_,_,_,_,_,_,_,_,_,_,hr,⟨id,.mk k n s u,.mk k' n' s' u'⟩,⟨rfl,rfl,aN⟩,rfl,⟨bB,by omega,rfl,rfl⟩,?_⟩;simp only[alD F0.1,alD F0.2];rw[cb];exact hn
 .have aY:l.length<=i:=by simpa using aY
  have:i=l.length:=by omega
  subst this;rw[pX];exact aA
theorem abN:aF Z UJ:=by
 refine bY abM ?_;rintro⟨nm,ar,dy,l⟩ args H ⟨rfl,rfl,ho,hl,hv⟩;simp only at hl hv;have h1:bC Z 61 [.aj (tn ⟨nm,ar,dy,l⟩)] ay (.aj [.ao nm,J ar,.ai dy,.ad 0 l.length 9]) (aE [(0,.au (ew l) 53)] 1):=by refine eE 31 abM aLZ ?_;refine qk (H':=aE ([(0,nr nm ar dy (ew l) l.length),(1,pcZ),(2,pcG nm ar dy (.ad 3 0 9))]++[(3,.au [] 53)]) (3+1)) ?_ (tM (g:=2) rfl (λid=>by rcases id with _|_|_|_|id<;>rfl) rfl (λI x hx=>xq hx) aA);exact aLY hl ho.2.2 hv 0 (eh _)
 have h2:=si (g:=0) h1 rfl (eh _);have h3:fO 0 (ew l) (.aj [.ao nm,J ar,.ai dy,.ad 0 l.length 9])=.aj [.ao nm,J ar,.ai dy,.aq (ew l) l.length 9]:=by have:(ew l).length=l.length*9:=Lw _;simp[fO,oU,this]
 rw[h3]at h2;exact kJ h2 (by rfl) (by rfl)
theorem aLj{nx:Int}{l:List cB}(h:HE ⟨nx,l⟩):
 ∀i:Nat,i<=l.length->ba Z 37 27 0 (.aj [J nx,.ad 0 l.length 4]) (aE [(0,.au (cR l) 34)] 1)
  (aJ [(1,.aa 0 0),(2,.aa 1 0),(3,.aa 2 0),(4,J (i:Int))]) (h37 nx (cR l) l.length (cR (l.take i)) i) (aB Z 37 0):=by
 have hl:=h.sm.1;simp only at hl;refine dj (λi=>l.length-i) _ _ _ _ ?_;rintro i hi ih;refine hE abN aLl ?_;delta Oo cu;refine al (λae=>?_) λaY=>?_
 .have ae:i<l.length:=by simpa using ae
  have hr:=yf ae;have aN:=h.ok.2 _ (k7 ae);have F0:=h.va _ (k7 ae);have Xo:=h.sm.2 _ (k7 ae);have bB:(cR (l.take i)).length=i*4:=by rw[VP,rH];omega
  have e2:cR (l.take (i+1))=cR (l.take i)++tn l[i]:=by rw[qB,gg ae,amU];simp[cR]
  have hn:=ih (i+1) (by omega) (by omega);rw[e2]at hn;refine⟨i,rfl,ae,_,_,_,_,_,hr,l[i],⟨rfl,rfl,aN,Xo,F0⟩,rfl,⟨bB,by omega,rfl,rfl⟩,?_⟩;rw[cb];exact hn
 .have aY:l.length<=i:=by simpa using aY
  have:i=l.length:=by omega
  subst this;rw[pX];exact aA
theorem EH:aF Z Pv:=by refine bY abN ?_;rintro⟨nx,l⟩ args H ⟨rfl,rfl,hd⟩;refine eE 27 abN aLk ?_;refine qk (H':=aE ([(0,eM nx (cR l) l.length),(1,Vu),(2,Vt nx (.ad 3 0 4))]++[(3,.au [] 34)]) (3+1)) ?_ (tM (g:=2) rfl (λid=>by rcases id with _|_|_|_|id<;>rfl) rfl (λI x hx=>xq hx) aA);exact aLj hd 0 (eh _)
theorem amI(t:ax):(bn t).all f_=true:=by cases t;rfl
theorem amZ:∀l:List eK,(ew l).all f_=true
 |[]=>rfl
 |s::l=>by rw[ew,sK,amZ l,pA,List.all_cons,sK,amI,amI];rfl
theorem aAi{l:List eK}{k:Nat}(h:k<=l.length):(ew l).take (k*9)=ew (l.take k):=by
 have e:ew l=ew (l.take k)++ew (l.drop k):=by rw[<-P5,uK]
 rw[e];exact xA (by rw[Lw,rH];omega)
theorem amX{l:List eK}{k:Nat}(h:k<=l.length):((ew l).drop (k*9)).take ((l.length-k)*9)=ew (l.drop k):=by
 have e:ew l=ew (l.take k)++ew (l.drop k):=by rw[<-P5,uK]
 rw[e,List.drop_left' (by rw[Lw,rH];omega)];exact BN (by rw[Lw,qeb];omega)
theorem asm(c:List eK):∀{l:List cB} {i:Nat} (h:i<l.length),iJ (cR l) (i*4+3) [.aq (ew c) c.length 9]=cR (l.set i {l[i]with bk:=c})
 |[],i,h=>by simp at h
 |p::l,0,h=>by simp[iJ,cR,tn]
 |p::l,i+1,h=>by
  have ih:=asm c (l:=l) (i:=i) (by simpa using h);have e:(i+1)*4+3=(i*4+3)+4:=by omega
  rw[e];simp only[iJ,cR,tn,j3,rG,qei,dJ,gH,List.set_cons_succ,DS]at ih⊢
  grind
def LO(nx:Int):Option (List cB)->AV
 |some l=>.aL [.aj [J nx,.ad 0 l.length 4],.ai true]
 |none=>.aL [.aj [J 0,.aM],.ai false]
def Qb:Option (List cB)->AH
 |some l=>aE [(0,.au (cR l) 34)] 1
 |none=>ay
theorem atC{nx:Int}{l:List cB}{id:Int}{i:Nat}{r:Option (List cB)}(ae:i<l.length)(hl:l.length<=500)(hc:l[i].bk.length<=500)
 (hn:pC id l[i].bk=none->ba Z 14 58 0 (LO nx r) (Qb r) (aJ [(1,J id),(4,.aa 0 0),(6,.aa 1 0),(7,J (wI ((i:Int)+1)))]) (jL nx (cR l) l.length) (aB Z 14 0))
 (hr:∀c,pC id l[i].bk=some c->r=some (l.set i {l[i]with bk:=c})):
 ∀(f k:Nat),k+f=l[i].bk.length->pC id l[i].bk=(pC id (l[i].bk.drop k)).map (l[i].bk.take k++ ·)->
 ba Z 14 58 0 (LO nx r) (Qb r) (aJ [(1,J id),(4,.aa 0 0),(6,.aa 1 0),(7,J (i:Int)),(8,.aq (ew l[i].bk) l[i].bk.length 9),(9,J (k:Int))]) (jL nx (cR l) l.length) (aB Z 14 1)
 |0,k,h,he=>by rw[gf (by omega),pC]at he;exact hE EH agO (al (λhh=>absurd (cP hh) (by simp only[jr];omega)) λ_=>hn he)
 |f+1,k,h,he=>by
  have hk:k<l[i].bk.length:=by omega
  have bP:=H_ hk;have hw:wI ((k:Int)+1)=((k+1:Nat):Int):=by rw[cb];simp
  have gM:¬¬(k:Int)<a_ l[i].bk.length:=by simp only[jr];omega
  have hd:=fu hk;by_cases h1:l[i].bk[k].id=id
  .have e:pC id l[i].bk=some (l[i].bk.take k++l[i].bk.drop (k+1)):=by rw[he,hd,pC,aP h1];rfl
   have l5:=hr _ e;subst l5;have e1:(ew l[i].bk).take (k*9)++((ew l[i].bk).drop ((k+1)*9)).take ((l[i].bk.length-(k+1))*9)=ew (l[i].bk.take k++l[i].bk.drop (k+1)):=by rw[aAi (by omega),amX (by omega),<-P5]
   have e2:k+(l[i].bk.length-(k+1))=(l[i].bk.take k++l[i].bk.drop (k+1)).length:=by simp;omega
   have e3:=asm (l[i].bk.take k++l[i].bk.drop (k+1)) ae;have hp:(((ew l[i].bk).drop ((k+1)*9)).take ((l[i].bk.length-(k+1))*9)).all f_=true:=by rw[amX (by omega)];exact amZ _
   generalize l[i].bk[k]=st at bP h1;obtain⟨ij,⟨kk,n,s,u⟩,⟨k',n',s',u'⟩⟩:=st;refine hE EH agO (al (λ_=>⟨k,rfl,hk,_,_,_,_,_,_,_,_,_,_,_,bP,al (λ_=>⟨k,rfl,k,rfl,⟨rfl,by omega⟩,k+1,hw,⟨by omega,ct _⟩,⟨by omega,hp⟩,rfl,i,rfl,ae,by rw[VP];omega,?_⟩) λhh=>absurd h1 (by simpa using hh)⟩) λhh=>absurd (c9 hh) gM);rw[e1,e2,e3];simp only[LO,Qb,List.length_set];exact aA
  .have ih:=atC ae hl hc hn hr f (k+1) (by omega) (by
    rw[he,hd,pC,aw h1];cases pC id (l[i].bk.drop (k+1))with
    |none=>rfl
    |some c=>simp only[uL];rw[List.take_succ_eq_append_getElem hk,jE];rfl)
   rw[<-hw]at ih;generalize l[i].bk[k]=st at bP h1;obtain⟨ij,⟨kk,n,s,u⟩,⟨k',n',s',u'⟩⟩:=st;exact hE EH agO (al (λ_=>⟨k,rfl,hk,_,_,_,_,_,_,_,_,_,_,_,bP,al (λhh=>absurd (by simpa using hh) h1) λ_=>ih⟩) λhh=>absurd (c9 hh) gM)
theorem aFk(cs off):fi Z 32 cs off=cs[off]? :=by kernel_rfl
theorem atD{nx:Int}{l:List cB}{id:Int}{r:Option (List cB)}(hs:GI l):∀(f i:Nat),i+f=l.length->r=(ri id (l.drop i)).map (l.take i++ ·)->
 ba Z 14 58 0 (LO nx r) (Qb r) (aJ [(1,J id),(4,.aa 0 0),(6,.aa 1 0),(7,J (i:Int))]) (jL nx (cR l) l.length) (aB Z 14 0)
 |0,i,h,hr=>by rw[gf (by omega),ri]at hr;subst hr;exact hE EH atF (al (λhh=>absurd (cP hh) (by simp only[jr];omega)) λ_=>aA)
 |f+1,i,h,hr=>by
  have ae:i<l.length:=by omega
  have Xo:=hs.1;have hw:wI ((i:Int)+1)=((i+1:Nat):Int):=by rw[cb];simp
  have gM:¬¬(i:Int)<a_ l.length:=by simp only[jr];omega
  have hd:=fu ae;rw[hd,ri]at hr;have aCe:fi Z 32 (cR l) (i*4+3)=some (.aq (ew l[i].bk) l[i].bk.length 9):=by
   have h1:=yf ae;rw[aFk,<-vR];have h2:(((cR l).drop (i*4)).take 4)[3]? =some (.aq (ew l[i].bk) l[i].bk.length 9):=by rw[h1];rfl
   rw[Jq]at h2;simpa using h2
  have fX:=atC (nx:=nx) (id:=id) (r:=r) ae Xo (hs.2 _ (k7 ae)) (λhn=>by
   rw[hn]at hr;have:=atD (nx:=nx) (id:=id) (r:=r) hs f (i+1) (by omega) (by
    rw[hr];cases ri id (l.drop (i+1))with
    |none=>rfl
    |some c=>simp only[uL];rw[List.take_succ_eq_append_getElem ae,jE];rfl)
   rw[<-hw]at this;exact this) (λc hc=>by
   rw[hc]at hr;rw[hr,List.set_eq_take_append_cons_drop,aP ae];rfl) l[i].bk.length 0 (by omega) (by rw[xw];cases pC id l[i].bk<;>rfl)
  exact hE EH atF (al (λ_=>⟨i,rfl,ae,_,_,aCe,fX⟩) λhh=>absurd (c9 hh) gM)
theorem UL:aF Z UK:=by
 refine bY EH ?_;rintro⟨⟨nx,l⟩,id,rE,l',b⟩ args H ⟨rfl,rfl,hd,hr⟩;simp only at hr;have hs:GI l:=hd.sm;have hh:=atD (nx:=nx) (id:=id) (r:=ri id l) hs l.length 0 (by omega) (by simp_all);unfold LB at hr;cases hv:Y6 ⟨nx,l⟩with
 |false=>rw[hv,aP rfl]at hr;cases hr;refine sj ?_ (.B0 (.wu (.agg (.fJ (.tQ 4 (.mn _)))) (.mn _))) (ct _);exact eE 58 EH atE ⟨⟨nx,l⟩,⟨rfl,rfl,hd.ok,hd.sm⟩,al (λ_=>aA) λh=>by rw[hv]at h;cases h⟩
 |true=>
  rw[hv,aw (by decide)]at hr;have hg:bC Z 14 [.aj (iU ⟨nx,l⟩),J id] ay (LO nx (ri id l)) (Qb (ri id l)):=
   eE 58 EH atE ⟨⟨nx,l⟩,⟨rfl,rfl,hd.ok,hd.sm⟩,al (λh=>(by rw[hv]at h;cases h)) λ_=>⟨⟨nx,l⟩,⟨rfl,rfl,hd⟩,hh⟩⟩
  cases he:ri id l with
  |none=>rw[he]at hg hr;cases hr;exact sj hg (.B0 (.wu (.agg (.fJ (.tQ 4 (.mn _)))) (.mn _))) (ct _)
  |some l2=>
   rw[he]at hg hr;cases hr;have h2:=si (g:=0) (l:=[(0,.au (cR l') 34)]) hg rfl (eh _);have h3:fO 0 (cR l') (.aL [.aj [J nx,.ad 0 l'.length 4],.ai true])=.aL [.aj [J nx,.aq (cR l') l'.length 4],.ai true]:=by have:(cR l').length=l'.length*4:=VP _;simp[fO,oU,this]
   rw[LO,h3]at h2;exact kJ h2 (by rfl) (by rfl)
def yI(id:Int)(l9:Bool)(b:cL):Bool:=if b.bh.an=0 then b.id==id else l9
def sq(id:Int):Bool->List cL->LI
 |_,[]=>[]
 |l9,b::l=>(if yI id l9 b then[b.id]else[])++sq id (yI id l9 b) l
structure Gpw where
 l:List cL
 d:Db
 id:Int
def aoa:bT Gpw where
 aI w A H:=A=[.ad 0 w.l.length 9,.aj (iU w.d),J w.id]/\H=aE [(0,.au (fh w.l) 44)] 1/\w.l.length<=4000000
 v w:=.ad 1 (sq w.id false w.l).length 1
 aD w:=aE [(0,.au (fh w.l) 44),(1,.au (bc (sq w.id false w.l)) 2)] 2
theorem aBH:aoa.bM:=by rintro⟨l,d,i⟩ ⟨l',d',i'⟩ A H ⟨h1,h2,_⟩ ⟨h3,h4,_⟩;simp only at h1 h2 h3 h4;rw[h1]at h3;simp only[fG,AV.ad.injEq,AV.aj.injEq,AV.bD.injEq,true_and,and_true]at h3;obtain⟨h5,h6,h7⟩:=h3;have h8:=congrArg (λH=>AH.aR H 0) (h2.symm.trans h4);replace h8:some (aO.au (fh l) 44)=some (aO.au (fh l') 44):=h8;simp at h8;rw[VF h5 h8,ac0 h6,h7]
def aku:Ev.aX:=bx 15 (bE aoa aBH bU) UK
def aqB:Nat->LN:=dY [(4,[0,2,7,8,9])]
theorem aKD{bs:LV}{nb:Nat}{nx:Int}{ps:LV}{np:Nat}{id:Int}{L:LT}{Q:QT}:
 fA UK aqB L Q 15 [.ad 0 nb 9,nF nx ps np,J id] (oK bs 44)=L (aJ [(0,.ad 0 nb 9),(2,J id),(7,.aM),(8,.ai false),(9,J 0)]) (oK bs 44) (aB Z 15 0):=by kernel_rfl
abbrev aac h0 h1 h2 h3 h4:=([(0,.ad 0 h0 9),(2,J h1),(7,.ad 1 h2 1),(8,.ai h3),(9,h4)]:List (Nat×AV))
abbrev Od h0 h1 h2:=ze h0 h1 (.au h2 2)
abbrev avY h0 h1 h2 h3 h4 h5 h6 h7:=ia h0 h1 (λb0=>lh 2 h2 (b0*9+0) (λb1=>xH h3 h4 1 h5 (aac h1 h6 (h4+1) h7 (cu h0)) (Od h2 44 (h3++[J b1])) 15 0))
theorem atH{bs:LV}{nb:Nat}{id i:Int}{b:Bool}{ds:LV}{m:Nat}{L:LT}{Q:QT}:
 ju UK aqB L Q 15 1 (aac nb id m b (J i)) (Od bs 44 ds)=jQ i nb (λcv=>lh 2 bs (cv*9+1+2) (λn=>aZ (n==0) (ia i nb (λjA=>lh 2 bs (jA*9+0) (λbm=>gT (bm==id) (avY i nb bs ds m L id (bm==id)) L (aJ (aac nb id m (bm==id) (cu i))) (Od bs 44 ds) 15 0))) (gT b (avY i nb bs ds m L id b) L (aJ (aac nb id m b (cu i))) (Od bs 44 ds) 15 0))) (Q (.ad 1 m 1) (Od bs 44 ds)):=by kernel_rfl
theorem ayh{l j}(h:j<l.length):fi Z 2 (fh l) (j*9+1+2)=some (J l[j].bh.an):=by
 have h1:=VH h;rw[Na,DX,<-vR];have h2:(((fh l).drop (j*9)).take 9)[3]? =some (J l[j].bh.an):=by rw[h1];rfl
 grind
theorem atG{l:List cL}{id:Int}(hl:l.length<=4000000):∀(f i:Nat) (b:Bool) (ef r:LI),i+f=l.length->ef.length<=i->r=ef++sq id b (l.drop i)->
 ba Z 15 40 1 (.ad 1 r.length 1) (aE [(0,.au (fh l) 44),(1,.au (bc r) 2)] 2) (aJ [(0,.ad 0 l.length 9),(2,J id),(7,.ad 1 ef.length 1),(8,.ai b),(9,J (i:Int))]) (aE [(0,.au (fh l) 44),(1,.au (bc ef) 2)] 2) (aB Z 15 0)
 |0,i,b,ef,r,h,ha,hr=>by rw[gf (by omega),sq,jt]at hr;subst hr;exact hE UL atH (al (λae=>absurd (cP ae) (by simp only[jr];omega)) λ_=>aA)
 |f+1,i,b,ef,r,h,ha,hr=>by
  have ae:i<l.length:=by omega
  have hn:¬¬(i:Int)<a_ l.length:=by simp only[jr];omega
  have hw:wI ((i:Int)+1)=((i+1:Nat):Int):=by rw[cb];simp
  rw[fu ae,sq]at hr;have ih:=λef b=>atG (id:=id) hl f (i+1) b ef r (by omega)
  have hi:=ayi ae;have hx:=ayh ae;have e:∀x,bc (ef++[x])=bc ef++[J x]:=λx=>by simp[bc]
  have el:∀x:Int,(ef++[x]).length=ef.length+1:=λx=>by simp
  have wb:yI id b l[i]=true->ba Z 15 40 1 (.ad 1 r.length 1) (aE [(0,.au (fh l) 44),(1,.au (bc r) 2)] 2) (aJ [(0,.ad 0 l.length 9),(2,J id),(7,.ad 1 (ef.length+1) 1),(8,.ai true),(9,J (wI ((i:Int)+1)))]) (aE [(0,.au (fh l) 44),(1,.au (bc ef++[J l[i].id]) 2)] 2) (aB Z 15 0):=by intro h1;rw[h1,aP rfl]at hr;have:=ih (ef++[l[i].id]) true (by simp;omega) (by rw[hr];simp);rw[e,el,<-hw]at this;exact this
  have no:yI id b l[i]=false->ba Z 15 40 1 (.ad 1 r.length 1) (aE [(0,.au (fh l) 44),(1,.au (bc r) 2)] 2) (aJ [(0,.ad 0 l.length 9),(2,J id),(7,.ad 1 ef.length 1),(8,.ai false),(9,J (wI ((i:Int)+1)))]) (aE [(0,.au (fh l) 44),(1,.au (bc ef) 2)] 2) (aB Z 15 0):=by intro h1;rw[h1,aw (by decide),rG]at hr;have:=ih ef false (by omega) hr;rw[<-hw]at this;exact this
  have bB:(bc ef).length=ef.length*1/\ef.length+1<=4194304/\true=true/\true=true:=⟨by simp[bc],by omega,rfl,rfl⟩;refine hE UL atH (al (λ_=>⟨i,rfl,ae,_,hx,al (λh1=>?_) λh1=>?_⟩) λhh=>absurd (c9 hh) hn)
  .have h1:l[i].bh.an=0:=by simpa using h1
   have fX:yI id b l[i]=(l[i].id==id):=by rw[yI,aP h1]
   refine⟨i,rfl,ae,_,hi,al (λh2=>⟨i,rfl,ae,_,hi,bB,?_⟩) λh2=>?_⟩
   .rw[h2]at fX⊢;exact wb fX
   .rw[h2]at fX⊢;exact no fX
  .have h1:¬l[i].bh.an=0:=by simpa using h1
   have fX:yI id b l[i]=b:=by rw[yI,aw h1]
   cases b
   .exact al (λh=>(by cases h)) λ_=>no fX
   .exact al (λ_=>⟨i,rfl,ae,_,hi,bB,wb fX⟩) λh=>(by cases h)
theorem axo:aF Z aku:=by refine bY UL ?_;rintro⟨l,⟨nx,ps⟩,id⟩ args H ⟨rfl,rfl,hl⟩;simp only at hl;refine eE 40 UL aKD ?_;exact zF 1 2 [7] (atG hl l.length 0 false [] _ (by omega) (ct _) rfl) rfl
def jh(z:Ar)(l:List cB):S5:=pF (wL z l) l
def GS(z:Ar)(d:Db)(cm:List (Int×Nat))(rt:List (Int×Bool)):Int×Ar:=
 if iR d=false then(1,z)else if q_ rt false d.dT=true then(5,z)else(0,zT (jh z d.dT).z (o8 cm (jh z d.dT).th))
structure Uu(z:Ar)(d:Db)(cm:List (Int×Nat))(rt:List (Int×Bool)):Prop where
 old:z.cY≠[]\/z.lC≠[]
 db:mD d
 ret:z.lC=bJ AV.ai 0 rt
 ok:iR d=true->u7 d.dT/\(d.dT.map kq).Nodup
 kn:iR d=true->q_ rt false d.dT=false->z.cY=mP cm/\z.cc=cm.length/\(∀p∈d.dT,∀s∈p.bk,(lk s.id cm).isSome=true)/\EF (jh z d.dT).z cm (o8 cm (jh z d.dT).th)
def ve(z:Ar)(d:Db)(tr:Bool)(r:Int×Ar):Prop:=(OW z/\KE z d tr/\Ef z d tr=r)\/∃cm rt,Uu z d cm rt/\GS z d cm rt=r
theorem ve.one{z d tr r r'}(h:ve z d tr r)(h':ve z d tr r'):r=r':=by
 rcases h with⟨h1,_,h2⟩|⟨cm,rt,h1,h2⟩<;>rcases h' with⟨k1,_,k2⟩|⟨cm',rt',k1,k2⟩
 .exact h2.symm.trans k2
 .rcases k1.old with h|h
  .exact absurd h1.cY.1 h
  .exact absurd h1.ret h
 .rcases h1.old with h|h
  .exact absurd k1.cY.1 h
  .exact absurd k1.ret h
 .obtain rfl:=Ln 0 (h1.ret.symm.trans k1.ret);by_cases hv:iR d=false
  .rw[GS,aP hv]at h2 k2;exact h2.symm.trans k2
  .have xd:iR d=true:=by simpa using hv
   rw[GS,aw hv]at h2 k2;by_cases hb:q_ rt false d.dT=true
   .grind
   .have ke:q_ rt false d.dT=false:=by simpa using hb
    obtain rfl:=Vl ((h1.kn xd ke).1.symm.trans (k1.kn xd ke).1);exact h2.symm.trans k2
def auI:wy (λ_=>KF)where
 aI b w A H:=A=[.aa 0 0,.aj (iU w.d),.ai w.tr]/\H=hA w.z/\ve w.z w.d w.tr (w.e,w.zf)/\decide (w.e=0)=b
 v b w:=match b with|true=>J 0|false=>J w.e
 aD b w:=match b with|true=>Mc w.zf w.z|false=>hA w.z
theorem aNE:auI.bM:=by rintro b ⟨z,d,tr,e,zf⟩ b' ⟨z',d',GR,e',zf'⟩ A H ⟨h1,h2,q1,q3⟩ ⟨h3,h4,q2,q4⟩;have e1:=yp (h2.symm.trans h4);rw[h1]at h3;simp at h3;have e6:d=d':=HT rfl (by rw[h3.1]);have e7:=h3.2;subst e1 e6 e7;cases q1.one q2;subst q3 q4;rfl
def abO:Ev.aX:=bx 7 (Ii auI aNE mY) aku
theorem aAQ{P S f}{W:Bool->Type}{e:wy W}{one ok}(h:aF P (bx f (Ii e one ok) S)){b}{w:W b}{args H}(hp:e.aI b w args H)(aN:ok args H=true)(cx:f≠999999:=by first|assumption|decide):
 bC P f args H (e.v b w) (e.aD b w):=by
 have hx:∃p:(b:Bool)×W b,e.aI p.1 p.2 args H:=⟨⟨b,w⟩,hp⟩;have h1:=h.1 f args H (e.aI hx.choose.1 hx.choose.2 args H) (e.v hx.choose.1 hx.choose.2) (e.aD hx.choose.1 hx.choose.2) cx (by simp only[oP,bx,j4,cond_true,Ii,Ij,aN,sh];rw[dif_pos hx]) hx.choose_spec;have h2:=one _ _ _ _ _ _ hx.choose_spec hp;simp at h2;rw[h2.1,h2.2]at h1;exact h1
theorem ams{O}{gN:O->cB->eK->O}{st:O}:∀{l:List cB},(∀p∈l,∀s∈p.bk,gN st p s=st)->rf gN st l=st
 |[],_=>rfl
 |p::l,h=>by
  have hp:∀ss:List eK,(∀s∈ss,gN st p s=st)->ss.foldl (λst s=>gN st p s) st=st:=by
   intro ss;induction ss with
   |nil=>intro _;rfl
   |cons s ss ih=>grind
  show rf gN (p.bk.foldl (λst s=>gN st p s) st) l=st;rw[hp _ λs hs=>h p (dk ..) s hs];exact ams λq hq=>h q (dZ _ hq)
theorem aNA{z nx l tr cm rt}(h:Uu z ⟨nx,l⟩ cm rt)(hv:iR ⟨nx,l⟩=true)(hb:q_ rt false l=false):
 bC Z 7 [.aa 0 0,.aj (iU ⟨nx,l⟩),.ai tr] (hA z) (J 0) (Mc (zT (jh z l).z (o8 cm (jh z l).th)) z):=by
 obtain⟨W1,gL,Xe,hl⟩:=h.kn hv hb;obtain⟨tw,kf⟩:=h.ok hv;simp only at tw kf Xe hl;have dw:rf (λst _ s=>ud cm tr st s) (⟨z,0,[],[]⟩:S3) l=⟨z,0,[],[]⟩:=ams λp hp s hs=>by rw[ud,aP (Xe p hp s hs)]
 have h1:bC Z 7 [.aa 0 0,.aj (iU ⟨nx,l⟩),.ai tr] (hA z) (J 0) (Dh (zT (jh z l).z (o8 cm (jh z l).th)) z nx l tr z.an z.id):=by refine ahh h.ret hb h.db tw hv ?_;refine ahg W1 tw dw (λh=>absurd rfl h) (λ_=>?_);exact auE (st:=⟨z,[],cm⟩) (aW:=[]) (cG:=[]) (aC:=jh z l) W1 gL kf tw rfl hl (auH ..)
 generalize zT (jh z l).z (o8 cm (jh z l).th)=z5 at h1⊢;exact kJ (ps:=[(0,0),(1,1),(2,2),(3,3),(4,4),(5,5),(6,6),(12,7),(13,8),(14,9)]) h1
theorem aNw{z nx l tr cm rt}(h:Uu z ⟨nx,l⟩ cm rt)(hv:iR ⟨nx,l⟩=true)(hb:q_ rt false l=true):
 bC Z 7 [.aa 0 0,.aj (iU ⟨nx,l⟩),.ai tr] (hA z) (J 5) (hA z):=by
 refine eE 55 zn agQ ?_;exact⟨z,aA,⟨nx,l⟩,⟨rfl,rfl,h.db⟩,al (λhb=>(by rw[hv]at hb;cases hb)) λ_=>⟨⟨z,false,nx,l,rt⟩,⟨rfl,rfl,h.ret,(h.ok hv).1⟩,al (λ_=>aA) λhh=>(by rw[hb]at hh;cases hh)⟩⟩
theorem akv:aF Z abO:=by
 refine akG axo ?_;rintro b ⟨z,⟨nx,l⟩,tr,e,zf⟩ args H ⟨rfl,rfl,hr,hb⟩;rcases hr with⟨h1,h2,h3⟩|⟨cm,rt,h1,h2⟩
 .exact aAQ abq (b:=b) (w:=⟨z,⟨nx,l⟩,tr,e,zf⟩) ⟨rfl,rfl,h1,h2,h3,hb⟩ rfl
 .by_cases hv:iR ⟨nx,l⟩=false
  .rw[GS,aP hv]at h2;cases h2;obtain rfl:b=false:=by rw[<-hb];rfl
   exact auG h1.db hv
  .have xd:iR ⟨nx,l⟩=true:=by simpa using hv
   rw[GS,aw hv]at h2;by_cases hk:q_ rt false l=true
   .rw[aP hk]at h2;cases h2;obtain rfl:b=false:=by rw[<-hb];rfl
    exact aNw h1 xd hk
   .rw[aw hk]at h2;have⟨e1,e2⟩:=Prod.mk.inj h2;simp only at e1 e2 hb;subst e1 e2;obtain rfl:b=true:=by rw[<-hb];rfl
    exact aNA h1 xd (by simpa using hk)
def lM(es:ES)(c:Nat):AH:=aE [(0,.ah [.aS 1] 74),(1,.bI es c true)] 2
theorem aoA{es bF c c'}(h:lM es c=lM bF c'):es=bF/\c=c':=by have h0:=congrArg (λH=>AH.aR H 1) h;replace h0:some (aO.bI es c true)=some (.bI bF c' true):=h0;simp at h0;exact h0
structure Mb where
 b:cL
 ut:List (Int×Bool)
 c:Nat
def afn:bT Mb where
 aI w A H:=A=[.aj [J w.b.id,.ao w.b.bh.eQ,J w.b.bh.ar,J w.b.bh.an],.aa 0 0]/\H=lM (bJ AV.ai 0 w.ut) w.c
 v w:=.ai (j9 w.ut w.b.id)
 aD w:=lM (bJ AV.ai 0 w.ut) w.c
theorem aEo:afn.bM:=by rintro⟨b,ut,c⟩ ⟨b',ut',c'⟩ A H ⟨h1,h2⟩ ⟨h3,h4⟩;simp only at h1 h2 h3 h4;have⟨e1,e2⟩:=aoA (h2.symm.trans h4);obtain rfl:=Ln 0 e1;subst e2;rw[h1]at h3;simp only[fG,AV.aj.injEq,AV.bD.injEq,true_and,and_true]at h3;simp only[afn,h3.1]
def UM:Ev.aX:=bx 39 (bE afn aEo bU) abO
def x9(ut:List (Int×Bool))(l:List cL):Bool:=l.any λb=>j9 ut b.id
def xf(ut:List (Int×Bool)):Nat->List cL->Int
 |_,[]=> -1
 |k,b::l=>if j9 ut b.id=true then(k:Int)else xf ut (k+1) l
structure CI where
 l:List cL
 ut:List (Int×Bool)
 c:Nat
theorem amS:∀{l l'},hZ l=hZ l'->(l.map (·.id))=l'.map (·.id)
 |[],[],_=>rfl
 |[],_::_,h=>by simp[hZ]at h
 |_::_,[],h=>by simp[hZ]at h
 |b::l,b'::l',h=>by simp only[hZ,j3,rG,fG,AV.bD.injEq,true_and]at h;rw[e9,e9,h.1,amS h.2.2.2.2]
theorem aeD{ut}:∀{l l':List cL} {k},(l.map (·.id))=l'.map (·.id)->xf ut k l=xf ut k l'/\x9 ut l=x9 ut l'
 |[],[],_,_=>aA
 |[],_::_,_,h=>by simp at h
 |_::_,[],_,h=>by simp at h
 |b::l,b'::l',k,h=>by simp only[e9,fG]at h;have⟨i1,i2⟩:=aeD (ut:=ut) (k:=k+1) h.2;simp only[x9]at i2;simp only[xf,x9,List.any_cons,h.1,i1,i2,true_and]
theorem aqV{w w':CI}{A:LV}{H:AH}(h:A=[.aq (hZ w.l) w.l.length 4,.cw (.func 39) [] [.aa 0 0]]/\H=lM (bJ AV.ai 0 w.ut) w.c/\w.l.length<=4000000)(h':A=[.aq (hZ w'.l) w'.l.length 4,.cw (.func 39) [] [.aa 0 0]]/\H=lM (bJ AV.ai 0 w'.ut) w'.c/\w'.l.length<=4000000):w.ut=w'.ut/\w.c=w'.c/\(w.l.map (·.id))=w'.l.map (·.id):=by have⟨e1,e2⟩:=aoA (h.2.1.symm.trans h'.2.1);have e3:=h.1.symm.trans h'.1;simp only[fG,AV.aq.injEq,and_true]at e3;exact⟨Ln 0 e1,e2,amS e3.1⟩
def aeE:bT CI where
 aI w A H:=A=[.aq (hZ w.l) w.l.length 4,.cw (.func 39) [] [.aa 0 0]]/\H=lM (bJ AV.ai 0 w.ut) w.c/\w.l.length<=4000000
 v w:=J (xf w.ut 0 w.l)
 aD w:=lM (bJ AV.ai 0 w.ut) w.c
theorem aDp:aeE.bM:=by rintro w w' A H h1 h2;have⟨e1,e2,e3⟩:=aqV h1 h2;simp only[aeE,e1,e2,(aeD e3).1]
def abQ:Ev.aX:=bx 62 (bE aeE aDp bU) UM
def acK:bT CI where
 aI w A H:=A=[.aq (hZ w.l) w.l.length 4,.cw (.func 39) [] [.aa 0 0]]/\H=lM (bJ AV.ai 0 w.ut) w.c/\w.l.length<=4000000
 v w:=.ai (x9 w.ut w.l)
 aD w:=lM (bJ AV.ai 0 w.ut) w.c
theorem aze:acK.bM:=by rintro w w' A H h1 h2;have⟨e1,e2,e3⟩:=aqV h1 h2;simp only[acK,e1,e2,(aeD (k:=0) e3).2]
def EI:Ev.aX:=bx 38 (bE acK aze bU) abQ
def aqM:Nat->LN:=dY [(2,[0,1,7,8])]
theorem aLn{i a b:Int}{s:LN}{es:ES}{c:Nat}{L:LT}{Q:QT}:
 eG abO [] L Q 39 [.aj (J0 i s a b),.aa 0 0] (lM es c)=(∃lH:Bool,Oy es i lH (Q (.ai lH) (lM es c))):=by kernel_rfl
abbrev ah3 h0 h1 h2:=([(0,.aq h0 h1 4),(1,oJ 39 0),(7,J (a_ h1)),(8,h2)]:List (Nat×AV))
theorem aL2{ms:LV}{n:Nat}{es:ES}{c:Nat}{L:LT}{Q:QT}:
 fA UM aqM L Q 62 [.aq ms n 4,oJ 39 0] (lM es c)=L (aJ (ah3 ms n (J 0))) (lM es c) (aB Z 62 0):=by kernel_rfl
theorem aL3{ms:LV}{n:Nat}{i:Int}{es:ES}{c:Nat}{L:LT}{Q:QT}:
 ju UM aqM L Q 62 2 (ah3 ms n (J i)) (lM es c)=jQ i n (λcv=>∃bm:Int,∃s:LN,∃bS:Int,∃dn:Int,((ms.drop (cv*4)).take 4:LV)=J0 bm s bS dn/\(∃w:Mb,(Ct (.aj (J0 bm s bS dn)) (.aa 0 0) (.aj (J0 (Mb.b w).id (Mb.b w).bh.eQ (Mb.b w).bh.ar (Mb.b w).bh.an))/\lM es c=lM (wh w.ut) w.c)/\He (j9 w.ut (Mb.b w).id) Q (J i) (lM (wh w.ut) (Mb.c w)) L (aJ (ah3 ms n (cu i))) 62)) (Q (J (-1)) (lM es c)):=by kernel_rfl
abbrev awo h0 h1(h2:CI):=Ct (.aq h0 h1 4) (oJ 39 0) (.aq (hZ h2.l) h2.l.length 4)
theorem aLm{ms:LV}{n:Nat}{es:ES}{c:Nat}{L:LT}{Q:QT}:
 eG abQ [] L Q 38 [.aq ms n 4,oJ 39 0] (lM es c)=(∃w:CI,(awo ms n w/\lM es c=lM (wh w.ut) w.c/\w.l.length<=4000000)/\Q (.ai (decide (xf w.ut 0 w.l>=0))) (lM (wh w.ut) (CI.c w))):=by kernel_rfl
theorem abP:aF Z UM:=by refine bY akv ?_;rintro⟨b,ut,c⟩ args H ⟨rfl,rfl⟩;refine eE 8 akv aLn ?_;have⟨b2,h2⟩:=ae4 ut b.id;exact⟨_,_,h2,rfl,rfl⟩
theorem ac7:∀{l:List cL} {i:Nat} (h:i<l.length),((hZ l).drop (i*4)).take 4=[J l[i].id,.ao l[i].bh.eQ,J l[i].bh.ar,J l[i].bh.an]
 |[],i,h=>by simp at h
 |t0::l,0,h=>by simp[hZ]
 |t0::l,i+1,h=>by
  have hl:i<l.length:=by simpa using h
  have h1:=ac7 hl;rw[show(i+1)*4=4+i*4 by omega,<-Ad];exact h1
theorem aL1{l:List cL}{ut c v}(hl:l.length<=4000000)(hv:xf ut 0 l=v):∀i:Nat,i<=l.length/\xf ut i (l.drop i)=v->
 ba Z 62 19 2 (J v) (lM (bJ AV.ai 0 ut) c) (aJ [(0,.aq (hZ l) l.length 4),(1,.cw (.func 39) [] [.aa 0 0]),(7,J (a_ l.length)),(8,J (i:Int))]) (lM (bJ AV.ai 0 ut) c) (aB Z 62 0):=by
 refine dj (λi=>l.length-i) _ _ _ _ ?_;rintro i ⟨hi,hx⟩ ih;refine hE abP aL3 ?_;delta cu;refine al (λae=>?_) λaY=>?_
 .have ae:i<l.length:=by simpa using ae
  rw[fu ae,xf]at hx;refine⟨i,rfl,ae,_,_,_,_,ac7 ae,⟨l[i],ut,c⟩,aA,al (λhb=>?_) λhb=>?_⟩
  .rw[aP hb]at hx;rw[hx];exact aA
  .rw[aw (by simp only at hb;rw[hb];decide)]at hx;rw[cb (x:=(i:Int)+1)];exact ih (i+1) ⟨ae,hx⟩ (by omega)
 .have aY:l.length<=i:=by simpa using aY
  rw[gf aY,xf]at hx;subst hx;exact aA
theorem akw:aF Z abQ:=by refine bY abP ?_;rintro⟨l,ut,c⟩ args H ⟨rfl,rfl,hl⟩;refine eE 19 abP aL2 ?_;exact aL1 hl rfl 0 ⟨eh _,rfl⟩
theorem apR{ut}:∀{l:List cL} {k},0<=xf ut k l↔x9 ut l=true
 |[],_=>by simp[xf,x9]
 |b::l,k=>by
  have ih:=apR (ut:=ut) (l:=l) (k:=k+1);simp only[xf,x9,List.any_cons]at ih⊢
  grind
theorem EJ:aF Z EI:=by refine bY akw ?_;rintro⟨l,ut,c⟩ args H ⟨rfl,rfl,hl⟩;refine eE 9 akw aLm ?_;exact⟨⟨l,ut,c⟩,⟨rfl,rfl,hl⟩,congrArg AV.ai (sL.2 (by simp only[DP];exact apR)),rfl⟩
def DZ(p:gZ):List En->List En
 |[]=>[]
 |e::m=>if p=e.p then m else e::DZ p m
def nz(l:List cL)(m:List En):List En:=l.foldl (λm b=>DZ b.bh m) m
theorem anj(p:gZ):∀(m:List En) (i:Nat),(match vG p m i with|some x=>C' (dS m) (x.1-i)=dS (DZ p m)/\i<=x.1|none=>DZ p m=m)
 |[],_=>rfl
 |e::m,i=>by
  have ih:=anj p m (i+1);simp only[vG,DZ];by_cases h:p=e.p
  .simp only[aP h,Nat.sub_self,ct,and_true];rfl
  .simp only[aw h];cases h2:vG p m (i+1)with
   |none=>grind
   |some x=>rw[h2]at ih;simp only at ih⊢;obtain⟨h3,h4⟩:=ih;refine⟨?_,by omega⟩;rw[show x.1-i=(x.1-(i+1))+1 by omega];show A4 e::C' (dS m) (x.1-(i+1))=_;rw[h3];rfl
theorem acQ(m:List En)(p:gZ):CV Z 39 (dS m) (nh p)=some (dS (DZ p m)):=by
 have h:=anj p m 0;unfold CV;rw[LH]
 grind
def Qy(z:Ar)(x:Int):AH:=cC z.X z.xc [(0,dV z 2 3 4 5 6 7),(1,.ah [J x,J 0] 2),(2,cO z),(3,dv z),(4,du z),(5,cQ z),(6,dh z),(7,cK z)] 8
def WJ(z:Ar)(x:Int)(k:Nat)(ks:LV)(us:ES)(uc:Nat):AH:=cC z.X z.xc [(0,dV z 2 3 4 5 6 7),(1,.ah [J x,J 0] 2),(2,cO z),(3,dv z),(4,du z),(5,cQ z),(6,dh z),(7,cK z),(8,.ah [.aS 10] 74),(9,.au ks 83),(10,.bI us uc true)] 11
def WL(z:Ar)(x:Int)(k:Nat)(ks:LV):AH:=cC z.X z.xc [(0,.ah [J z.an,J z.id,.ad 8 k 1,.aS 3,.aS 4,.aS 5,.aS 6,.ad 7 z.na 9,.aM] 78),(1,.ah [J x,J 0] 2),(2,cO z),(3,dv z),(4,du z),(5,cQ z),(6,dh z),(7,cK z),(8,.au ks 83)] 9
def WK(z:Ar)(k:Nat)(ks:LV):AH:=cC z.X z.xc [(0,dV z 1 2 3 4 5 6),(1,cO z),(2,dv z),(3,du z),(4,cQ z),(5,dh z),(6,cK z),(7,.ah [.aS 9] 74),(8,.au ks 83),(9,.bI [] 0 true)] 10
def WM(z:Ar)(k:Nat)(ks:LV):AH:=cC z.X z.xc [(0,.ah [J z.an,J z.id,.ad 7 k 1,.aS 2,.aS 3,.aS 4,.aS 5,.ad 6 z.na 9,.aM] 78),(1,cO z),(2,dv z),(3,du z),(4,cQ z),(5,dh z),(6,cK z),(7,.au ks 83)] 8
def hC(z:Ar)(k:Nat)(ks:LV)(j:Nat)(js:LV):AH:=cC z.X z.xc [(0,.ah [J z.an,J z.id,.ad 1 z.ng 1,.aS 2,.aS 3,.aS 4,.aS 5,.ad 6 z.na 9,.ad 9 j 1] 78),(1,cO z),(2,dv z),(3,du z),(4,cQ z),(5,dh z),(6,cK z),(7,.ah [.aS 10] 74),(8,.au ks 83),(9,.au js 2),(10,.bI [] 0 true)] 11
def WG(z:Ar)(k:Nat)(ks:LV)(j:Nat)(js:LV):AH:=cC z.X z.xc [(0,.ah [J z.an,J z.id,.ad 7 k 1,.aS 2,.aS 3,.aS 4,.aS 5,.ad 6 z.na 9,.ad 8 j 1] 78),(1,cO z),(2,dv z),(3,du z),(4,cQ z),(5,dh z),(6,cK z),(7,.au ks 83),(8,.au js 2)] 9
def MQ:Nat->LN:=dY [(5,[1000000]),(11,[0,4,5,8,28,29,30]),(16,[0,4,5,8,28,29,30,54,55,56])]
abbrev J4 h0 h1 h2 h3(h4:Ar) h5:=aJ [(0,.aa 0 0),(4,J h0),(5,.aa h1 0),(8,h2),(28,.ad h3 h4.ng 1),(29,J (a_ h4.ng)),(30,J h5)]
theorem aKP{z:Ar}{x:Int}{L:LT}{Q:QT}:
 fA EI MQ L Q 16 (sV (iY 1 2 1)) (Qy z x)=J2 z (λw=>rP 2 [] 0 x (.ai true) (λbF=>λc'=>rP 2 bF c' 0 (.ai true) (λBa=>λVg=>L (J4 0 8 .aM 2 w 0) (Cv w (El (dV w 2 3 4 5 6 7) (Cr x 0 2) (cO w) (dv w) (du w) (cQ w) (dh w) (cK w) (k_ 9 74) (eu Ba Vg)) 10) (aB Z 16 1)))):=by kernel_rfl
theorem atJ{z:Ar}{L:LT}{Q:QT}:
 fA EI MQ L Q 16 (sV .aM) (hA z)=J2 z (λw=>L (J4 0 7 .aM 1 w 0) (Cv w (awn w (dh w) (k_ 8 74) (eu [] 0)) 9) (aB Z 16 1)):=by kernel_rfl
abbrev ahV(h0:Ar) h1 h2 h3(h4:LV) h5(h6:Nat->Prop) h7 h8(h9:Nat->CI->Prop) dG eB iV kc(jL:CI->LV->Nat->Prop):=∃b0:Nat,oe 83 h0.eI (h1*1) (.ei h2 b0)/\(∃b1:Bool,tJ Z h3 4 h2 (b0+1)=some (.ai b1:AV)/\aZ (!b1) (pn h4.length h5 1 (h6 b0)) (Tl h3 h2 b0 (λb2=>λb3=>∃b4:CI,(awo b2 b3 b4/\lM h7 h8=lM (wh b4.ut) b4.c/\b4.l.length<=4000000)/\aZ (x9 b4.ut b4.l) (pn h4.length h5 1 (h9 b0 b4)) (Tl (AH.mk (Tr.fB (Tr.fB (RH dG) eB (aO.ah [AV.aS iV] 74)) iV (aO.bI (wh b4.ut) b4.c true)) (kc+(2-Nat.succ (Nat.succ 0))) (bif false then none else some (XH.mk h0.X h0.xc))) h2 b0 (λb5=>λb6=>jL b4 b5 b6)))))
abbrev TC h0 h1 h2 h3 h4(h5:Ar) h6 h7 h8 h9:=([(0,.aa 0 0),(4,h0),(5,.aa h1 0),(8,.ad h2 h3 1),(28,.ad h4 h5.ng 1),(29,J (a_ h5.ng)),(30,J h6),(54,.aq h7 h8 4),(55,J (a_ h8)),(56,h9)]:List (Nat×AV))
abbrev avX h0 h1 h2 h3 h4:=([(0,dV h0 2 3 4 5 6 7),(1,h1),(2,cO h0),(3,dv h0),(4,du h0),(5,cQ h0),(6,dh h0),(7,cK h0),(8,h2),(9,h3),(10,h4)]:List (Nat×aO))
abbrev aiE(h0:Ar) h1 h2 h3 h4:=cC h0.X h0.xc (avX h0 (Cr h1 0 2) (k_ 10 74) (.au h2 83) (eu h3 h4)) 11
abbrev Es h0 h1 h2 h3 h4 h5(h6:Int):=J4 h0 h1 (.ad h2 (h3+1) 1) h4 h5 (wI (h6+1))
theorem aKL{z:Ar}{x i:Int}{k:Nat}{ks:LV}{us:ES}{uc:Nat}{L:LT}{Q:QT}:
 iL EI MQ L Q 16 8 (J4 0 8 (.ad 9 k 1) 2 z i) 1 (WJ z x k ks us uc)=jQ i z.ng (λcv=>∃n:Nat,ahV z cv n (WJ z x k ks us uc) ks k (λoff=>L (Es 0 8 9 k 2 z i) (aiE z x (ks++[.ei n off]) us uc) (aB Z 16 1)) us uc (λoff=>λw=>L (Es 0 8 9 k 2 z i) (aiE z x (ks++[.ei n off]) (wh w.ut) w.c) (aB Z 16 1)) (avX z (aO.ah [J x,J 0] 2) (aO.ah [AV.aS 10] 74) (aO.au ks 83) (aO.bI us uc true)) 8 10 11 (λw=>λcA=>λb_=>L (aJ (TC (J 0) 8 9 k 2 z i cA b_ (J 0))) (aiE z x ks (wh w.ut) w.c) (aB Z 16 2))) (Q (J 0) (WL z x k ks)):=by kernel_rfl
abbrev awf h0 h1 h2 h3:=El (Cq h0 4) (cO h0) (dv h0) (du h0) (cQ h0) (dh h0) (cK h0) h1 h2 h3
abbrev ahz(h0:Ar) h1 h2 h3:=cC h0.X h0.xc (awf h0 (k_ 9 74) (.au h1 83) (eu h2 h3)) 10
theorem aKM{z:Ar}{i:Int}{k:Nat}{ks:LV}{L:LT}{Q:QT}:
 iL EI MQ L Q 16 7 (J4 0 7 (.ad 8 k 1) 1 z i) 1 (WK z k ks)=jQ i z.ng (λcv=>∃n:Nat,ahV z cv n (WK z k ks) ks k (λoff=>L (Es 0 7 8 k 1 z i) (ahz z (ks++[.ei n off]) [] 0) (aB Z 16 1)) [] 0 (λoff=>λw=>L (Es 0 7 8 k 1 z i) (ahz z (ks++[.ei n off]) (wh w.ut) w.c) (aB Z 16 1)) (awf z (aO.ah [AV.aS 9] 74) (aO.au ks 83) (aO.bI [] 0 true)) 7 9 10 (λw=>λcA=>λb_=>L (aJ (TC (J 0) 7 8 k 1 z i cA b_ (J 0))) (ahz z ks (wh w.ut) w.c) (aB Z 16 2))) (Q (J 0) (WM z k ks)):=by kernel_rfl
abbrev Tu(h0:Ar) h1 h2 h3 h4 h5 h6:=cC h0.X h0.xc [(0,Hl h0.an h0.id 1 h0.ng 2 3 4 5 6 h0.na (.ad 9 h1 1)),(1,cO h0),(2,dv h0),(3,du h0),(4,cQ h0),(5,h2),(6,cK h0),(7,k_ 10 74),(8,.au h3 83),(9,.au h4 2),(10,eu h5 h6)] 11
theorem aKO{z:Ar}{c i:Int}{k j:Nat}{ks js:LV}{L:LT}{Q:QT}:
 iL EI MQ L Q 16 7 (J4 c 7 (.ad 8 k 1) 1 z i) 1 (hC z k ks j js)=jQ i z.ng (λcv=>∃n:Nat,ahV z cv n (hC z k ks j js) ks k (λoff=>L (Es c 7 8 k 1 z i) (Tu z j (dh z) (ks++[.ei n off]) js [] 0) (aB Z 16 1)) [] 0 (λoff=>λw=>L (Es c 7 8 k 1 z i) (Tu z j (dh z) (ks++[.ei n off]) js (wh w.ut) w.c) (aB Z 16 1)) [(0,aO.ah [J z.an,J z.id,AV.ad 1 z.ng 1,AV.aS 2,AV.aS 3,AV.aS 4,AV.aS 5,AV.ad 6 z.na 9,AV.ad 9 j 1] 78),(1,cO z),(2,dv z),(3,du z),(4,cQ z),(5,dh z),(6,cK z),(7,aO.ah [AV.aS 10] 74),(8,aO.au ks 83),(9,aO.au js 2),(10,aO.bI [] 0 true)] 7 10 11 (λw=>λcA=>λb_=>L (aJ (TC (J c) 7 8 k 1 z i cA b_ (J 0))) (Tu z j (dh z) ks js (wh w.ut) w.c) (aB Z 16 2))) (Q (J c) (WG z k ks j js)):=by kernel_rfl
theorem aKN{z:Ar}{c i p:Int}{k j n:Nat}{ks js ms:LV}{L:LT}{Q:QT}:
 iL EI MQ L Q 16 7 (aJ (TC (J c) 7 8 k 1 z i ms n (J p))) 2 (hC z k ks j js)=jQ p n (λcv=>∃bm:Int,∃s:LN,∃bS:Int,∃dn:Int,((ms.drop (cv*4)).take 4:LV)=J0 bm s bS dn/\(∃bF:List (AV×AV×Nat),CV Z 39 z.fy (oI s bS dn)=some bF/\xH js j 1 L (TC (cu c) 7 8 k 1 z i ms n (cu p)) (Tu z (j+1) (eu bF z.oc) ks (js++[J bm]) [] 0) 16 2)) (L (J4 c 7 (.ad 8 k 1) 1 z (wI (i+1))) (Tu z j (dh z) ks js [] 0) (aB Z 16 1)):=by kernel_rfl
def lr(gs:List iS):LV:=gs.map λg=>.ei g.n 0
def mC(gs:List iS):List iS:=gs.filter λg=> !g.b
def gG(gs:List iS):List cL:=(gs.filter λg=>g.b).flatMap (·.l)
theorem akL:∀l,x9 [] l=false
 |[]=>rfl
 |b::l=>by have h:=akL l;simp only[x9,List.any_cons]at h⊢;rw[h];rfl
structure zl(z:Ar)(gs:List iS):Prop where
 wN:qc z gs
 len:gs.length<=3900000
 amq:∀g∈gs,g.l.length<=3900000
 all:(gG gs).length<=3900000
theorem aeU{z:Ar}{H:AH}{n:Nat}{l:List cL}{b:Bool}(hH:H.gO n=z.X n)(h:z.X n=some (nR l b)):tJ Z H 95 n (0+0)=some (.aq (hZ l) l.length 4):=by unfold tJ;rw[hH,h];kernel_rfl
theorem aeT{z:Ar}{H:AH}{n:Nat}{l:List cL}{b:Bool}(hH:H.gO n=z.X n)(h:z.X n=some (nR l b)):tJ Z H 4 n (0+1)=some (.ai b):=by unfold tJ;rw[hH,h];kernel_rfl
theorem zl.part{z gs}(h:zl z gs){i:Nat}(ae:i<gs.length):fi Z 83 z.eI (i*1)=some (.ei gs[i].n 0)/\z.X gs[i].n=some (nR gs[i].l gs[i].b)/\gs.take (i+1)=gs.take i++[gs[i]]:=by
 refine⟨?_,h.wN.df _ (k7 ae),?_⟩
 .rw[ar2,n7,h.wN.eI,sJ,gg ae];rfl
 .rw[qB,gg ae];rfl
theorem ayC{z gs x ut uc}(h:zl z gs)(hu:∀g∈gs,g.b=true->x9 ut g.l=true):∀i:Nat,i<=gs.length->
 ba Z 16 86 8 (J 0) (WL z x gs.length (lr gs)) (aJ [(0,.aa 0 0),(4,J 0),(5,.aa 8 0),(8,.ad 9 i 1),(28,.ad 2 z.ng 1),(29,J (a_ z.ng)),(30,J (i:Int))]) (WJ z x i (lr (gs.take i)) (bJ AV.ai 0 ut) uc) (aB Z 16 1):=by
 refine dj (λi=>gs.length-i) _ _ _ _ ?_;rintro i hi ih;have bB:=h.len;have yA:=h.wN.ng;refine hE EJ aKL ?_;delta Es;refine al (λae=>?_) λaY=>?_
 .have ae:i<gs.length:=by rw[<-yA];simpa using ae
  obtain⟨hp,sv,e1⟩:=h.part ae;have h1:=ih (i+1) ae (by omega);rw[e1]at h1;simp only[lr,lP,e9,List.map_nil]at h1;have hk:(lr (gs.take i)).length=i*1/\i+1<=4194304/\true=true/\true=true:=⟨by simp[lr];omega,by omega,rfl,rfl⟩;have hw:wI ((i:Int)+1)=((i+1:Nat):Int):=by rw[cb];simp
  have QU:=hu _ (k7 ae);have aY:=h.amq _ (k7 ae);refine⟨i,rfl,by omega,gs[i].n,0,hp,gs[i].b,aeT rfl sv,?_⟩;rw[hw];refine al (λ_=>⟨hk,h1⟩) λhb=>?_
  refine⟨_,_,aeU rfl sv,⟨gs[i].l,ut,uc⟩,⟨rfl,rfl,by simp only;omega⟩,al (λ_=>⟨hk,h1⟩) λhn=>?_⟩;simp only at hn;rw[QU (by simpa using hb)]at hn;cases hn
 .have aY:gs.length<=i:=by rw[<-yA];simpa using aY
  obtain rfl:i=gs.length:=by omega
  rw[pX];exact aA
theorem ayD{z gs}(h:zl z gs)(hu:∀g∈gs,g.b=false):∀i:Nat,i<=gs.length->
 ba Z 16 86 7 (J 0) (WM z gs.length (lr gs)) (aJ [(0,.aa 0 0),(4,J 0),(5,.aa 7 0),(8,.ad 8 i 1),(28,.ad 1 z.ng 1),(29,J (a_ z.ng)),(30,J (i:Int))]) (WK z i (lr (gs.take i))) (aB Z 16 1):=by
 refine dj (λi=>gs.length-i) _ _ _ _ ?_;rintro i hi ih;have bB:=h.len;have yA:=h.wN.ng;refine hE EJ aKM ?_;delta Es;refine al (λae=>?_) λaY=>?_
 .have ae:i<gs.length:=by rw[<-yA];simpa using ae
  obtain⟨hp,sv,e1⟩:=h.part ae;have h1:=ih (i+1) ae (by omega);rw[e1]at h1;simp only[lr,lP,e9,List.map_nil]at h1;have hw:wI ((i:Int)+1)=((i+1:Nat):Int):=by rw[cb];simp
  refine⟨i,rfl,by omega,gs[i].n,0,hp,gs[i].b,aeT rfl sv,?_⟩;rw[hw];refine al (λ_=>⟨⟨by simp[lr];omega,by omega,rfl,rfl⟩,h1⟩) λhb=>?_
  rw[hu _ (k7 ae)]at hb;cases hb
 .have aY:gs.length<=i:=by rw[<-yA];simpa using aY
  obtain rfl:i=gs.length:=by omega
  rw[pX];exact aA
theorem ayB{z:Ar}{m:List En}{l:List cL}{js:LI}{i k:Nat}{ks:LV}(hl:l.length<=3900000)(hj:js.length+l.length<=3900000)(hi:i<=3900000)(v:AV)(H1:AH)
 (Dl:ba Z 16 86 7 v H1 (aJ [(0,.aa 0 0),(4,J ((js.length+l.length:Nat):Int)),(5,.aa 7 0),(8,.ad 8 k 1),(28,.ad 1 z.ng 1),(29,J (a_ z.ng)),(30,J ((i+1:Nat):Int))]) (hC {z with fy:=dS (nz l m)} k ks (js.length+l.length) (bc (js++l.map (·.id)))) (aB Z 16 1)):
 ∀q:Nat,q<=l.length->
 ba Z 16 86 7 v H1 (aJ [(0,.aa 0 0),(4,J ((js.length+q:Nat):Int)),(5,.aa 7 0),(8,.ad 8 k 1),(28,.ad 1 z.ng 1),(29,J (a_ z.ng)),(30,J (i:Int)),(54,.aq (hZ l) l.length 4),(55,J (a_ l.length)),(56,J (q:Int))]) (hC {z with fy:=dS (nz (l.take q) m)} k ks (js.length+q) (bc (js++(l.take q).map (·.id)))) (aB Z 16 2):=by
 refine dj (λq=>l.length-q) _ _ _ _ ?_;rintro q hq ih;refine hE EJ (@aKN {z with fy:=dS (nz (l.take q) m)} _ _ _ _ _ _ _ _ _ _ _) ?_;delta cu;refine al (λae=>?_) λaY=>?_
 .have ae:q<l.length:=by simpa using ae
  have e1:l.take (q+1)=l.take q++[l[q]]:=by rw[qB,gg ae];rfl
  have h1:=ih (q+1) ae (by omega);rw[e1]at h1;simp only[nz,Gy,qz,Nn,lP,e9,List.map_nil,bc,<-jE]at h1;refine⟨q,rfl,ae,_,_,_,_,ac7 ae,dS (DZ l[q].bh (nz (l.take q) m)),acQ _ _,⟨by simp[bc];omega,by omega,rfl,rfl⟩,?_⟩;rw[cb (x:=(q:Int)+1),cb (x:=((js.length+q:Nat):Int)+1)];simp only[bc,lP,<-jE]at h1⊢;exact h1
 .have aY:l.length<=q:=by simpa using aY
  obtain rfl:q=l.length:=by omega
  rw[pX];rw[cb (x:=(i:Int)+1)];exact Dl
theorem aDA(gs:List iS)(g:iS):(g.b=true->mC (gs++[g])=mC gs/\gG (gs++[g])=gG gs++g.l)/\(g.b=false->mC (gs++[g])=mC gs++[g]/\gG (gs++[g])=gG gs):=by constructor<;>intro h<;>constructor<;>simp[mC,gG,h]
theorem aq1{gs:List iS}(i:Nat):(gG (gs.take i)).length<=(gG gs).length:=by
 have h:gG gs=gG (gs.take i)++gG (gs.drop i):=by simp only[gG,<-List.flatMap_append,<-Gr,uK]
 grind
theorem ayA{z gs m}(h:zl z gs)(hm:z.fy=dS m):∀i:Nat,i<=gs.length->
 ba Z 16 86 7 (J ((gG gs).length:Int)) (WG {z with fy:=dS (nz (gG gs) m)} (mC gs).length (lr (mC gs)) (gG gs).length (bc ((gG gs).map (·.id)))) (aJ [(0,.aa 0 0),(4,J ((gG (gs.take i)).length:Int)),(5,.aa 7 0),(8,.ad 8 (mC (gs.take i)).length 1),(28,.ad 1 z.ng 1),(29,J (a_ z.ng)),(30,J (i:Int))]) (hC {z with fy:=dS (nz (gG (gs.take i)) m)} (mC (gs.take i)).length (lr (mC (gs.take i))) (gG (gs.take i)).length (bc ((gG (gs.take i)).map (·.id)))) (aB Z 16 1):=by
 refine dj (λi=>gs.length-i) _ _ _ _ ?_;rintro i hi ih;have bB:=h.len;have yA:=h.wN.ng;have tv:=h.all;have FY:=aq1 (gs:=gs) i;have hkl:(mC (gs.take i)).length<=i:=lz (List.length_filter_le ..) (by simp;omega);refine hE EJ (@aKO {z with fy:=dS (nz (gG (gs.take i)) m)} _ _ _ _ _ _ _ _) ?_;delta Es;refine al (λae=>?_) λaY=>?_
 .have ae:i<gs.length:=by rw[<-yA];simpa using ae
  obtain⟨hp,sv,e1⟩:=h.part ae;have h1:=ih (i+1) ae (by omega);have hte:=aq1 (gs:=gs) (i+1);have aY:=h.amq _ (k7 ae);have hw:wI ((i:Int)+1)=((i+1:Nat):Int):=by rw[cb];simp
  rw[e1]at h1 hte;have Rc:=aDA (gs.take i) gs[i];refine⟨i,rfl,by show i<z.ng;omega,gs[i].n,0,hp,gs[i].b,aeT rfl sv,?_⟩;rw[hw];refine al (λhb=>⟨⟨by simp[lr],by omega,rfl,rfl⟩,?_⟩) λhb=>?_
  .have⟨e2,e3⟩:=Rc.2 (by simpa using hb);rw[e2,e3]at h1;simp only[lr,lP,e9,List.map_nil,cj,dJ,gH]at h1;exact h1
  .have⟨e2,e3⟩:=Rc.1 (by simpa using hb);rw[e2,e3]at h1;rw[e3,cj]at hte;refine⟨_,_,aeU rfl sv,⟨gs[i].l,[],0⟩,⟨rfl,rfl,by simp only;omega⟩,al (λhn=>?_) λ_=>?_⟩
   .simp only[akL]at hn;cases hn
   refine⟨_,_,aeU rfl sv,?_⟩;have fX:=ayB (z:={z with fy:=dS (nz (gG (gs.take i)) m)}) (m:=nz (gG (gs.take i)) m) (l:=gs[i].l) (js:=(gG (gs.take i)).map (·.id)) (i:=i) (k:=(mC (gs.take i)).length) (ks:=lr (mC (gs.take i))) aY (by simp;omega) (by omega) _ _ (by simp only[cj,lP,nz,Gy,oD]at h1⊢;exact h1) 0 (eh _);simp only[oD,List.take_zero,nz,Nn,List.map_nil,jt,Gu]at fX⊢;exact fX
 .have aY:gs.length<=i:=by rw[<-yA];simpa using aY
  obtain rfl:i=gs.length:=by omega
  rw[pX];exact aA
theorem aod{X:Nat->Option aO}:∀{gs uv:List iS},(∀g∈gs,X g.n=some (nR g.l g.b))->(∀g∈uv,X g.n=some (nR g.l g.b))->(gs.map λg=>AV.ei g.n 0)=(uv.map λg=>AV.ei g.n 0)->lr (mC gs)=lr (mC uv)/\hZ (gG gs)=hZ (gG uv)
 |[],[],_,_,_=>aA
 |[],_::_,_,_,h=>by simp at h
 |_::_,[],_,_,h=>by simp at h
 |⟨n,l,b⟩::gs,⟨n',l',b'⟩::uv,h1,h2,h=>by
  simp only[e9,fG,AV.ei.injEq,and_true]at h;have a1:=h1 _ (dk ..);have a2:=h2 _ (dk ..);obtain⟨rfl,h⟩:=h;rw[a2]at a1;simp only[nR,lN,aO.ah.injEq,fG,AV.aq.injEq,AV.ai.injEq,and_true]at a1;obtain⟨⟨a0,a3⟩,rfl⟩:=a1;have⟨i1,i2⟩:=aod (λx hx=>h1 x (dZ _ hx)) (λx hx=>h2 x (dZ _ hx)) h;have ea:∀a b:List cL,hZ (a++b)=hZ a++hZ b:=by
   intro a b;induction a with
   |nil=>rfl
   |cons x a ih=>simp only[j3,hZ,ih,rG]
  cases b' with
  |true=>refine⟨i1,?_⟩;show hZ (l++gG gs)=hZ (l'++gG uv);rw[ea,ea,i2,a0]
  |false=>exact⟨congrArg (AV.ei n 0:: ·) i1,i2⟩
theorem asK:∀{l l':List cL} {m m':List En},hZ l=hZ l'->dS m=dS m'->dS (nz l m)=dS (nz l' m')/\l.length=l'.length/\bc (l.map (·.id))=bc (l'.map (·.id))
 |[],[],_,_,_,h=>⟨h,rfl,rfl⟩
 |[],_::_,_,_,h,_=>by simp[hZ]at h
 |_::_,[],_,_,h,_=>by simp[hZ]at h
 |b::l,b'::l',m,m',h,hm=>by
  simp only[hZ,j3,rG,fG]at h;obtain⟨h1,h2,h3,h4,h5⟩:=h;have hk:nh b.bh=nh b'.bh:=by rw[nh,nh,h2,h3,h4]
  have hd:dS (DZ b.bh m)=dS (DZ b'.bh m'):=by
   have e1:=acQ m b.bh;have e2:=acQ m' b'.bh
   grind
  obtain⟨i1,i2,i3⟩:=asK h5 hd;refine⟨i1,by simp[i2],?_⟩;simp only[bc,e9,List.map_map]at i3⊢
  grind
structure xW where
 z:Ar
 m:List En
 gs:List iS
def xW.zf(w:xW):Ar:={w.z with fy:=dS (nz (gG w.gs) w.m)}
structure ai6 where
 z:Ar
 x:Int
 gs:List iS
structure CoU(z:Ar)(gs:List iS)(x:Int):Prop where
 ok:zl z gs
 us:∀g∈gs,g.b=true->∃b∈g.l,b.id=x
def Ld:bT ai6 where
 aI w A H:=A=[.aa 0 0,.bK 1 0 2 2 1 true]/\H=Qy w.z w.x/\CoU w.z w.gs w.x
 v w:=J 0
 aD w:=WL w.z w.x w.z.ng w.z.eI
structure CoB(z:Ar)(m:List En)(gs:List iS)(b:Bool):Prop where
 fy:z.fy=dS m
 ok:zl z gs
 em:decide (gG gs=[])=b
 un:b=true->∀g∈gs,g.b=false
def EW:wy (λ_=>xW)where
 aI b w A H:=A=[.aa 0 0,.aM]/\H=hA w.z/\CoB w.z w.m w.gs b
 v b w:=match b with
  |true=>J 0
  |false=>J ((gG w.gs).length:Int)
 aD b w:=match b with
  |true=>WM w.z w.z.ng w.z.eI
  |false=>WG w.zf (mC w.gs).length (lr (mC w.gs)) (gG w.gs).length (bc ((gG w.gs).map (·.id)))
theorem alN:Ld.bM:=by
 rintro⟨z,x,gs⟩ ⟨z',x',uv⟩ A H ⟨_,h1,_⟩ ⟨_,h2,_⟩;have e:=h1.symm.trans h2;have e0:=congrArg (λH=>AH.aR H 1) e;replace e0:some (aO.ah [J x,J 0] 2)=some (.ah [J x',J 0] 2):=e0;have e1:hA z=hA z':=by
  have h0:dV z=dV z':=by have h:=congrArg (λH=>AH.aR H 0) e;replace h:some (dV z 2 3 4 5 6 7)=some (dV z' 2 3 4 5 6 7):=h;simp only[dV,lN,aO.ah.injEq,fG,AV.bD.injEq,AV.ad.injEq,true_and,and_true]at h;funext a b c d e f;simp only[dV,h]
  have g1:cO z=cO z':=cW (congrArg (λH=>AH.aR H 2) e);have g2:dv z=dv z':=cW (congrArg (λH=>AH.aR H 3) e);have g3:du z=du z':=cW (congrArg (λH=>AH.aR H 4) e);have g4:cQ z=cQ z':=cW (congrArg (λH=>AH.aR H 5) e);have g5:dh z=dh z':=cW (congrArg (λH=>AH.aR H 6) e);have g6:cK z=cK z':=cW (congrArg (λH=>AH.aR H 7) e);have g7:some (XH.mk z.X z.xc)=some ⟨z'.X,z'.xc⟩:=congrArg AH.x e;simp only[lN,XH.mk.injEq]at g7;simp only[hA,h0,g1,g2,g3,g4,g5,g6,g7.1,g7.2]
 obtain rfl:=yp e1;simp only[lN,aO.ah.injEq,fG,AV.bD.injEq,true_and,and_true]at e0;subst e0;rfl
theorem alO:EW.bM:=by
 rintro b ⟨z,m,gs⟩ b' ⟨z',m',uv⟩ A H ⟨_,h1,hm,k1,q1,_⟩ ⟨_,h2,Q0,k2,q2,_⟩;have e:=yp (h1.symm.trans h2);simp only at e hm Q0 k1 k2 q1 q2;subst e;have⟨a1,a2⟩:=aod k1.wN.df k2.wN.df (k1.wN.eI.symm.trans k2.wN.eI);obtain⟨i1,i2,i3⟩:=asK a2 (hm.symm.trans Q0);have hb:b=b':=by
  rw[<-q1,<-q2]
  grind
 subst hb;have a3:=congrArg List.length a1;simp only[lr,oD]at a3;cases b with
 |true=>rfl
 |false=>simp only[EW,xW.zf,i1,i2,i3,a1,a3]
def alM:LV->AH->Option Sp:=λA H=>match A with
 |[_,.aM]=>Ii EW alO mY A H
 |[_,.bK _ _ _ _ _ _]=>bE Ld alN mY A H
 |_=>none
def UN:Ev.aX:=bx 16 alM EI
theorem aDq{z:Ar}{gs:List iS}(h:zl z gs)(hu:∀g∈gs,g.b=false):bC Z 16 [.aa 0 0,.aM] (hA z) (J 0) (WM z z.ng z.eI):=by rw[h.wN.ng,h.wN.eI];refine eE 86 EJ atJ ?_;refine⟨z,aA,?_⟩;refine zF (xx:=some ⟨z.X,z.xc⟩) 1 83 [8] ?_ rfl;refine Bm (mG:=[7,9,8]) (ls:=[0,4,5,8,28,29,30]) (ps:=[(0,0),(1,1),(2,2),(3,3),(4,4),(5,5),(6,6),(7,7),(9,8),(8,9)]) (H2:=WK z 0 []) (t:=aJ [(0,.aa 0 0),(4,J 0),(5,.aa 7 0),(8,.ad 8 0 1),(28,.ad 1 z.ng 1),(29,J (a_ z.ng)),(30,J 0)]) ?_;exact ayD h hu 0 (eh _)
theorem aHQ{z:Ar}{gs:List iS}{x:Int}(h:zl z gs)(hu:∀g∈gs,g.b=true->∃b∈g.l,b.id=x):bC Z 16 [.aa 0 0,.bK 1 0 2 2 1 true] (Qy z x) (J 0) (WL z x z.ng z.eI):=by
 rw[h.wN.ng,h.wN.eI];refine eE 86 EJ aKP ?_;refine⟨z,aA,_,_,ph (l:=[]) AV.ai iF,_,_,ph AV.ai iF,?_⟩;have hx:j9 (up 0 true (up x true [])) x=true:=by
  rw[j9,I8,I8]
  grind
 refine zF (xx:=some ⟨z.X,z.xc⟩) 1 83 [8] ?_ rfl;refine Bm (mG:=[8,10,9]) (ls:=[0,4,5,8,28,29,30]) (ps:=[(0,0),(1,1),(2,2),(3,3),(4,4),(5,5),(6,6),(7,7),(8,8),(10,9),(9,10)]) (H2:=WJ z x 0 [] (bJ AV.ai 0 (up 0 true (up x true []))) (up 0 true (up x true [])).length) (t:=aJ [(0,.aa 0 0),(4,J 0),(5,.aa 8 0),(8,.ad 9 0 1),(28,.ad 2 z.ng 1),(29,J (a_ z.ng)),(30,J 0)]) ?_;refine ayC h (λg hg Mo=>?_) 0 (eh _);obtain⟨b,ke,ie⟩:=hu g hg Mo;exact List.any_eq_true.2 ⟨b,ke,by rw[ie];exact hx⟩
theorem ayz{z:Ar}{gs:List iS}{m:List En}(h:zl z gs)(hm:z.fy=dS m):bC Z 16 [.aa 0 0,.aM] (hA z) (J ((gG gs).length:Int)) (WG {z with fy:=dS (nz (gG gs) m)} (mC gs).length (lr (mC gs)) (gG gs).length (bc ((gG gs).map (·.id)))):=by
 refine eE 86 EJ atJ ?_;refine⟨z,aA,?_⟩;have h0:=ayA h hm 0 (eh _);have e:({z with fy:=dS (nz (gG (gs.take 0)) m)}:Ar)=z:=by show({z with fy:=dS m}:Ar)=z;rw[<-hm]
 rw[e]at h0;refine zF (xx:=some ⟨z.X,z.xc⟩) 1 83 [8] ?_ rfl;refine qk (H':=cC z.X z.xc [(0,.ah [J z.an,J z.id,.ad 1 z.ng 1,.aS 2,.aS 3,.aS 4,.aS 5,.ad 6 z.na 9,.ad 10 0 1] 78),(1,cO z),(2,dv z),(3,du z),(4,cQ z),(5,dh z),(6,cK z),(7,.ah [.aS 8] 74),(8,.bI [] 0 true),(9,.au [] 83),(10,.au [] 2)] 11) ?_ (Je (l':=[(0,.ah [J z.an,J z.id,.ad 1 z.ng 1,.aS 2,.aS 3,.aS 4,.aS 5,.ad 6 z.na 9,.ad 10 0 1] 78),(1,cO z),(2,dv z),(3,du z),(4,cQ z),(5,dh z),(6,cK z),(7,.ah [.aS 8] 74),(8,.bI [] 0 true),(9,.au [] 83)]) (g:=0) rfl (λid=>by rcases id with _|_|_|_|_|_|_|_|_|_|id<;>rfl) rfl (λI x hx=>xq (n:=10) (sz:=1) hx) aA);refine Bm (mG:=[7,9,10,8]) (ls:=[0,4,5,8,28,29,30]) (ps:=[(0,0),(1,1),(2,2),(3,3),(4,4),(5,5),(6,6),(7,7),(9,8),(10,9),(8,10)]) (H2:=hC z 0 [] 0 []) (t:=aJ [(0,.aa 0 0),(4,J 0),(5,.aa 7 0),(8,.ad 8 0 1),(28,.ad 1 z.ng 1),(29,J (a_ z.ng)),(30,J 0)]) ?_;exact h0
theorem abR:aF Z UN:=by
 refine wA EJ λargs H sp p v H' hs hd hp=>?_
 unfold alM at hs;have xg:Ii EW alO mY args H=some sp->∃q:(_:Bool)×xW,(p,v,H')=(EW.aI q.1 q.2 args H,EW.v q.1 q.2,EW.aD q.1 q.2):=by
  intro h;have⟨_,h⟩:=EN h;cases h;simp only[sh]at hd;by_cases hw:∃q:(_:Bool)×xW,EW.aI q.1 q.2 args H
  .grind
  .grind
 have key:bE Ld alN mY args H=some sp->∃w,(p,v,H')=(Ld.aI w args H,Ld.v w,Ld.aD w):=by intro h;have⟨_,h⟩:=EN h;cases h;exact HW hd
 split at hs
 .have⟨⟨b,z,m,gs⟩,e⟩:=xg hs;cases e;obtain⟨h1,rfl,h3,h4,h5,h6⟩:=hp;rw[h1];cases b with
  |true=>exact aDq h4 (h6 rfl)
  |false=>exact ayz h4 h3
 .have⟨⟨z,x,gs⟩,e⟩:=key hs;cases e;obtain⟨h1,rfl,h2⟩:=hp;rw[h1];exact aHQ h2.ok h2.us
 .cases hs
def Bk(l:LI):AH:=aE [(0,.au (bc l) 2),(1,.au (bc l) 2)] 2
def aet:bT LI where
 aI l A H:=A=[.ad 0 l.length 1,.ad 1 l.length 1]/\H=Bk l/\l.length<4000000
 v l:=.ai true
 aD l:=Bk l
theorem aDb:aet.bM:=by rintro l l' A H ⟨_,h1,_⟩ ⟨_,h2,_⟩;have h:=h1.symm.trans h2;simp only[aet,h]
def abS:Ev.aX:=bx 17 (bE aet aDb bU) UN
structure uq where
 z:Ar
 j:Nat
 js:LV
def hG(z:Ar)(j:Nat)(js:LV):AH:=cC z.X z.xc [(0,.ah [J z.an,J z.id,.ad 1 z.ng 1,.aS 2,.aS 3,.aS 4,.aS 5,.ad 6 z.na 9,.ad 7 j 1] 78),(1,cO z),(2,dv z),(3,du z),(4,cQ z),(5,dh z),(6,cK z),(7,.au js 2)] 8
theorem aBU{A A':Ar}{j j':Nat}{js XL:LV}(h:hG A j js=hG A' j' XL):A=A'/\j=j'/\js=XL:=by
 have h0:=congrArg (λH=>AH.aR H 0) h;have h1:=congrArg (λH=>AH.aR H 1) h;have h2:=congrArg (λH=>AH.aR H 2) h;have h3:=congrArg (λH=>AH.aR H 3) h;have h4:=congrArg (λH=>AH.aR H 4) h;have h5:=congrArg (λH=>AH.aR H 5) h;have h6:=congrArg (λH=>AH.aR H 6) h;have h8:=congrArg (λH=>AH.aR H 7) h;have h7:=congrArg AH.x h;replace h0:some (aO.ah [J A.an,J A.id,.ad 1 A.ng 1,.aS 2,.aS 3,.aS 4,.aS 5,.ad 6 A.na 9,.ad 7 j 1] 78)=some (.ah [J A'.an,J A'.id,.ad 1 A'.ng 1,.aS 2,.aS 3,.aS 4,.aS 5,.ad 6 A'.na 9,.ad 7 j' 1] 78):=h0;simp only[lN,aO.ah.injEq,fG,AV.bD.injEq,AV.ad.injEq,true_and,and_true]at h0;obtain⟨a1,a2,a3,a4,a5⟩:=h0;refine⟨yp ?_,a5,?_⟩
 .have e0:dV A=dV A':=by funext a b c d e f;simp only[dV,a1,a2,a3,a4]
  have e1:cO A=cO A':=cW h1;have e2:dv A=dv A':=cW h2;have e3:du A=du A':=cW h3;have e4:cQ A=cQ A':=cW h4;have e5:dh A=dh A':=cW h5;have e6:cK A=cK A':=cW h6;have e7:some (XH.mk A.X A.xc)=some ⟨A'.X,A'.xc⟩:=h7;simp only[lN,XH.mk.injEq]at e7;simp only[hA,e0,e1,e2,e3,e4,e5,e6,e7.1,e7.2]
 .replace h8:some (aO.au js 2)=some (.au XL 2):=h8;cases h8;rfl
def FE(w:uq):AH:=hG w.z w.j w.js
theorem aoz{w w':uq}(h:FE w=FE w'):w=w':=by obtain⟨z,j,js⟩:=w;obtain⟨z',j',XL⟩:=w';obtain⟨rfl,rfl,rfl⟩:=aBU h;rfl
def aq8:bT uq where
 aI w A H:=A=[.aa 0 0]/\H=FE w
 v w:=.ai false
 aD w:=FE w
theorem aEJ:aq8.bM:=by rintro w w' A H ⟨_,h1⟩ ⟨_,h2⟩;rw[aoz (h1.symm.trans h2)]
def abT:Ev.aX:=bx 21 (bE aq8 aEJ mY) abS
def an2:bT uq where
 aI w A H:=A=[.aa 0 0]/\H=FE w
 v w:=.ad 7 w.j 1
 aD w:=cC w.z.X w.z.xc [(0,dV w.z 1 2 3 4 5 6),(1,cO w.z),(2,dv w.z),(3,du w.z),(4,cQ w.z),(5,dh w.z),(6,cK w.z),(7,.au w.js 2)] 8
theorem aBq:an2.bM:=by rintro w w' A H ⟨_,h1⟩ ⟨_,h2⟩;rw[aoz (h1.symm.trans h2)]
def EK:Ev.aX:=bx 18 (bE an2 aBq mY) abT
theorem aKQ{l:LI}{L:LT}{Q:QT}:
 fA UN aqD L Q 17 [ej 0 l,ej 1 l] (Bk l)=He (a_ l.length !=a_ l.length) Q (.ai false) (Bk l) L (aJ (zb l 1 (ej 1 l) 5 0)) 17:=by kernel_rfl
theorem aKR{l:LI}{i:Int}{L:LT}{Q:QT}:
 ju UN aqD L Q 17 2 (zb l 1 (ej 1 l) 5 i) (Bk l)=sX i l 2 (λn=>u0 i l 2 (λbm=>He (n !=bm) Q (.ai false) (Bk l) L (aJ [(0,ej 0 l),(1,ej 1 l),(5,cu i)]) 17)) (Q (.ai true) (Bk l)):=by kernel_rfl
theorem aKT{z:Ar}{j:Nat}{js:LV}{L:LT}{Q:QT}:
 Cp abS L Q 21 (hG z j js)=Q (.ai false) (hG z j js):=by kernel_rfl
theorem aKS{z:Ar}{j:Nat}{js:LV}{L:LT}{Q:QT}:
 Cp abT L Q 18 (hG z j js)=(∃w:uq,uY (hG z j js=FE w) (Q (.ad 7 (uq.j w) 1) (cC w.z.X (uq.z w).xc [(0,Cq (uq.z w) 4),(1,cO w.z),(2,eu w.z.cY (uq.z w).cc),(3,eu w.z.lC (uq.z w).rc),(4,eu w.z.cD (uq.z w).nc),(5,eu w.z.fy (uq.z w).oc),(6,cK w.z),(7,.au w.js 2)] 8))):=by kernel_rfl
theorem ayE{l:LI}(hl:l.length<4000000):∀i:Nat,i<=l.length->
 ba Z 17 26 2 (.ai true) (Bk l) (aJ [(0,.ad 0 l.length 1),(1,.ad 1 l.length 1),(5,J (i:Int))]) (Bk l) (aB Z 17 0):=by
 refine dj (λi=>l.length-i) _ _ _ _ ?_;rintro i hi ih;refine hE abR aKR ?_;delta cu;refine al (λae=>?_) λ_=>aA
 have ae:i<l.length:=by simpa using ae
 have hp:fi Z 2 (bc l) (i*1)=some (J l[i]):=by rw[Na,n7,bc,sJ,gg ae];rfl
 refine⟨i,rfl,ae,_,hp,i,rfl,ae,_,hp,al (λh=>ab h) λ_=>?_⟩;rw[cb (x:=(i:Int)+1)];exact ih (i+1) ae (by omega)
theorem akx:aF Z abS:=by
 refine bY abR ?_;rintro l args H ⟨rfl,rfl,hl⟩;refine eE 26 abR aKQ ?_;refine al (λh=>ab h) λ_=>?_
 exact ayE hl 0 (eh _)
theorem akz:aF Z abT:=by refine bY akx ?_;rintro⟨z,j,js⟩ args H ⟨rfl,rfl⟩;refine eE 12 akx aKT ?_;exact aA
theorem CK:aF Z EK:=by refine bY akz ?_;rintro⟨z,j,js⟩ args H ⟨rfl,rfl⟩;refine eE 13 akz aKS ?_;exact⟨⟨z,j,js⟩,aA,rfl,rfl⟩
def RA:Nat->LN:=dY [(999995,[2000005]),(999998,[1,2,3,7,8])]
def X9:Nat->LN:=dY [(999995,[2000009]),(999998,[1,2,3,7,8,9,11])]
def Qq(z:Ar)(bs:LV)(nx:Int)(ps:LV)(np:Nat):AH:=cC z.X z.xc [(0,eM nx ps np),(1,dV z 3 4 5 6 7 8),(2,.au bs 44),(3,cO z),(4,dv z),(5,du z),(6,cQ z),(7,dh z),(8,cK z)] 9
def X_:Nat->LN:=dY [(999995,[2000014]),(999998,[1,2,3,7,8,9,14])]
def h4b(z:Ar)(bs:LV)(nx:Int)(ps:LV)(np:Nat)(Yx:Int)(YV:LV)(Yu:Nat):AH:=cC z.X z.xc [(0,eM nx ps np),(1,dV z 4 5 6 7 8 9),(2,.au bs 44),(3,eM Yx YV Yu),(4,cO z),(5,dv z),(6,du z),(7,cQ z),(8,dh z),(9,cK z)] 10
def Yc:Nat->LN:=dY [(999995,[2000015]),(999998,[2,3,7,9,14,15])]
def I':Nat->LN:=dY [(999995,[2000019]),(999998,[3,7,9,14])]
def Yd:Nat->LN:=dY [(999995,[2000017]),(999998,[3,7,9,14,15])]
def Wu(z:Ar)(nx:Int)(ps:LV)(np:Nat):AH:=cC z.X z.xc [(0,eM nx ps np),(1,dV z 2 3 4 5 6 7),(2,cO z),(3,dv z),(4,du z),(5,cQ z),(6,dh z),(7,cK z)] 8
def Qr(z:Ar)(js:LV)(nx:Int)(ps:LV)(np:Nat):AH:=cC z.X z.xc [(0,eM nx ps np),(1,dV z 3 4 5 6 7 8),(2,.au js 2),(3,cO z),(4,dv z),(5,du z),(6,cQ z),(7,dh z),(8,cK z)] 9
abbrev OD h0 h1 h2 h3 h4 h5(h6:KF->Prop):=∃b0:KF,(AA (nF h0 h1 h2) (.ai h3) (.aj (iU b0.d)) (.ai b0.tr)/\h4=hA b0.z/\ve b0.z b0.d b0.tr (b0.e,b0.zf)/\decide (b0.e=0)=h5)/\h6 b0
abbrev ahx h0 h1 h2 h3 h4(h5:Ar->Prop)(h6:KF->Prop):=Cu (OD h0 h1 h2 h3 (hA h4) true (λb1=>J2 b1.zf (λb2=>h5 b2))) (OD h0 h1 h2 h3 (hA h4) false (λb1=>aZ (b1.e !=0) (h6 b1) (J2 b1.z (λb2=>h5 b2))))
abbrev avy(h0:(Nat->Option aO)×Nat):=cC (g_ h0.1 h0.2).X (g_ h0.1 h0.2).xc (J7 (Hl (g_ h0.1 h0.2).an (g_ h0.1 h0.2).id 1 0 2 3 4 5 6 0 .aM) (.au [] 83) (eu [] 0) (eu [] 0) (eu [] 0) (eu [] 0) (.au [] 44)) 7
abbrev ahM(h0:Ar) h1 h2 h3:=cC h0.X h0.xc (Ax (eM h1 h2 h3) (Hl h0.nb.an h0.nb.id 3 h0.nb.ng 4 5 6 7 8 0 .aM) (cK h0) (cO h0) (dv h0) (du h0) (cQ h0) (dh h0) (.au [] 44)) 9
abbrev ahQ h0 h1 h2:=aJ [(1,J h0),(2,.bD .u8 h1),(3,.aa 0 0),(7,.aa 1 0),(8,.ad 2 h2 9)]
abbrev Oa(h0:KF):=cC h0.z.X h0.z.xc [] 0
abbrev Tp(h0:QT) h1:=∃b0:Unit,xK [] (aE [] 0=ay) (h0 (.ai true) h1)
theorem at5{x:Nat->Option aO}{xc:Nat}{nx:Int}{ps:LV}{np:Nat}{k a:Int}{L:LT}{Q:QT}:
 fA EK RA L Q 4 [nF nx ps np,J k,.bD .u8 a] (cC x xc [] 0)=(∃w:(Nat->Option aO)×Nat,xK [] (cC x xc [] 0=cC w.1 w.2 [] 0) (Cu (OD nx ps np false (avy w) true (λaH=>ahx nx ps np true aH.zf (λeJ=>L (ahQ k a eJ.na) (ahM eJ nx ps np) (dg Z RA 4 0)) (λcI=>Tp Q (Oa cI)))) (OD nx ps np false (avy w) false (λaH=>aZ (aH.e !=0) (Tp Q (Oa aH)) (ahx nx ps np true aH.z (λeJ=>L (ahQ k a eJ.na) (ahM eJ nx ps np) (dg Z RA 4 0)) (λcI=>Tp Q (Oa cI))))))):=by kernel_rfl
abbrev aaa h0 h1 h2 h3 h4 h5:=aJ [(1,J h0),(2,.bD .u8 h1),(3,.aa 0 0),(7,.aa 1 0),(8,.ad 2 h2 9),(9,J h3),(h4,h5)]
abbrev ahO h0(h1:TY->Prop):=∃b0:TY,uY (h0=hA b0.z/\qc b0.z b0.gs/\jg b0.gs<=4000000/\b0.gs.length<=4000000) (h1 b0)
abbrev aay(h0:TY):=cC h0.z.X h0.z.xc [] 0
theorem at4{z:Ar}{bs:LV}{nb:Nat}{nx:Int}{ps:LV}{np:Nat}{k a:Int}{L:LT}{Q:QT}:
 AF EK X9 L Q 4 0 (ahQ k a nb) RA (Qq z bs nx ps np)=ahO (hA z) (λw=>∃aH:Erw,(([nF nx ps np,J k]:LV)=[.aj (iU aH.d),J aH.id]/\dc (HE aH.d/\LB aH.d aH.id=Prod.mk aH.nx (Prod.mk aH.l aH.b)))/\TD (a_ nb !=((jg w.gs:Nat):Int)) (nG (a_ nb==((jg w.gs:Nat):Int)) (((mQ w.gs:Nat):Int)==0) (Tp Q (aay w)) (Q (.ai false) (aay w))) (((mQ w.gs:Nat):Int)!=0) (!aH.b) (L (aaa k a nb ((jg w.gs:Nat):Int) 11 (.aa 3 0)) (h4b w.z bs nx ps np aH.nx (cR aH.l) aH.l.length) (dg Z X9 4 0))):=by kernel_rfl
theorem aLD{z:Ar}{bs:LV}{nb:Nat}{nx:Int}{ps:LV}{np:Nat}{Yx:Int}{YV:LV}{Yu:Nat}{k a c:Int}{L:LT}{Q:QT}:
 AF EK X_ L Q 4 0 (aaa k a nb c 11 (.aa 3 0)) X9 (h4b z bs nx ps np Yx YV Yu)=ahx Yx YV Yu false z (λaH=>sU (a_ aH.na !=0) Q (Cv aH [] 0) (ahO (ahF aH (Hl aH.nb.an aH.nb.id 1 aH.nb.ng 2 3 4 5 6 0 .aM) (.au [] 44)) (λcI=>Az (((jg cI.gs:Nat):Int)!=c) (Q (.ai false) (aay cI)) (decide (((mQ cI.gs:Nat):Int)<1)) (L (aaa k a nb c 14 (ui (mQ cI.gs))) (Qq cI.z bs nx ps np) (dg Z X_ 4 0))))) (λw=>Q (.ai false) (Oa w)):=by kernel_rfl
abbrev av6 h0 h1 h2 h3:=aJ [(2,.bD .u8 h0),(3,.aa 0 0),(7,.aa 1 0),(9,J h1),(14,J h2),(15,.ad 2 h3 1)]
theorem aLE{z:Ar}{bs:LV}{nb:Nat}{nx:Int}{ps:LV}{np:Nat}{k a c d:Int}{L:LT}{Q:QT}:
 AF EK Yc L Q 4 0 (aaa k a nb c 14 (J d)) X_ (Qq z bs nx ps np)=(∃w:Gpw,(([.ad 0 nb 9,nF nx ps np,J k]:LV)=[.ad 0 w.l.length 9,.aj (iU w.d),J w.id]/\oK bs 44=oK (fh w.l) 44/\w.l.length<=4000000)/\L (av6 a c d (sq w.id false w.l).length) (Cv z (Ax (eM nx ps np) (dV z 3 4 5 6 7 8) (bG (sq w.id false w.l) 2) (cO z) (dv z) (du z) (cQ z) (dh z) (cK z)) 9) (dg Z Yc 4 0)):=by kernel_rfl
abbrev awr h0 h1 h2:=aJ (J1 3 0 7 1 9 (J h0) 14 (J h1) 15 (.ad 2 h2 1))
theorem aLF{z:Ar}{js:LV}{m:Nat}{nx:Int}{ps:LV}{np:Nat}{a c d:Int}{L:LT}{Q:QT}:
 AF EK Yd L Q 4 0 (av6 a c d (Nat.succ m)) Yc (Qr z js nx ps np)=sU (a_ (m+1)!=d) Q (Cv z [] 0) (ia (Int.tmod (wI a) (a_ (m+1))) (m+1) (λi=>lh 2 js (i*1) (λn=>∃w:ai6,xK (sV (iY 1 2 1)) (Qy z n=Qy w.z w.x/\CoU w.z w.gs w.x) (L (awr c d (m+1)) (Qr w.z js nx ps np) (dg Z Yd 4 0))))):=by kernel_rfl
abbrev aiA h0(h1:xW->Prop) h2(h3:QT)(h4:xW->Prop):=Cu (∃b1:xW,xK (sV .aM) (hA h0=hA b1.z/\CoB b1.z b1.m b1.gs true) (h1 b1)) (∃b1:xW,xK (sV .aM) (hA h0=hA b1.z/\CoB b1.z b1.m b1.gs false) (aZ ((((gG b1.gs).length:Nat):Int)!=h2) (h3 (.ai false) (cC b1.zf.X b1.zf.xc [] 0)) (h4 b1)))
abbrev aam(h0:xW) h1 h2 h3 h4 h5 h6 h7:=Hl h0.zf.an h0.zf.id h1 (mC h0.gs).length h2 h3 h4 h5 h6 h0.zf.na (.ad h7 (gG h0.gs).length 1)
abbrev Tk h0 h1:=J8 3 0 7 1 9 (J h0) 14 (J h1)
abbrev av3(h0:uq) h1(h2:LI) h3:=([.ad 0 h0.j 1,.ad 1 h1 1]:LV)=[ej 0 h2,ej 1 h2]/\Od h0.js 2 h3=Bk h2/\h2.length<4000000
theorem aLG{z:Ar}{js:LV}{m:Nat}{nx:Int}{ps:LV}{np:Nat}{c d:Int}{L:LT}{Q:QT}:
 AF EK I' L Q 4 0 (awr c d m) Yd (Qr z js nx ps np)=aiA z (λw=>sU (0 !=d) Q (cC w.z.X w.z.xc [] 0) (∃aH:uq,uY (hA w.z=FE aH) (∃cI:LI,av3 aH m cI js/\aiA aH.z (λeJ=>L (Tk c d) (Wu eJ.z nx ps np) (dg Z I' 4 0)) 0 Q (λeJ=>L (Tk c d) (cC eJ.zf.X eJ.zf.xc (ahY (eM nx ps np) (aam eJ 2 3 4 5 6 7 8) (.au (lr (mC eJ.gs)) 83) eJ.zf (bG (List.map (λx=>x.id) (gG eJ.gs)) 2)) 9) (dg Z I' 4 0))))) d Q (λw=>∃aH:uq,uY (Td w.zf.X w.zf.xc (aam w 1 2 3 4 5 6 7) (.au (lr (mC w.gs)) 83) w.zf (cQ w.zf) (bG (List.map (λx=>x.id) (gG w.gs)) 2)=FE aH) (∃cI:LI,av3 aH m cI js/\aiA aH.z (λeJ=>L (Tk c d) (Wu eJ.z nx ps np) (dg Z I' 4 0)) 0 Q (λeJ=>L (Tk c d) (cC eJ.zf.X eJ.zf.xc (ahY (eM nx ps np) (aam eJ 2 3 4 5 6 7 8) (.au (lr (mC eJ.gs)) 83) eJ.zf (bG (List.map (λx=>x.id) (gG eJ.gs)) 2)) 9) (dg Z I' 4 0)))):=by kernel_rfl
theorem aLH{z:Ar}{nx:Int}{ps:LV}{np:Nat}{c d:Int}{L:LT}{Q:QT}:
 AE EK L Q 4 0 (Tk c d) I' (Wu z nx ps np)=ahO (hA z) (λw=>nG (((jg w.gs:Nat):Int)==wI (c-d)) (((mQ w.gs:Nat):Int)==0) (Cu (OD nx ps np false (hA w.z) true (λaH=>Q (.ai false) (cC aH.zf.X aH.zf.xc [] 0))) (OD nx ps np false (hA w.z) false (λaH=>aZ (aH.e==5) (Tp Q (Oa aH)) (Q (.ai false) (Oa aH))))) (Q (.ai false) (aay w))):=by kernel_rfl
theorem K':∀{gs:List iS},(∀x∈gs,x.b=false)->mQ gs=0
 |[],_=>rfl
 |g::gs,h=>by rw[mQ,K' λx hx=>h x (dZ _ hx),h g (dk ..)];rfl
structure AP(z8:Ar)(d:Db)(k:Int)(bl lg:List cL)(n:Nat)(aI post:List iS)(m:List En):Prop where
 na:z8.na=0/\z8.oh=[]
 gr:qc z8 (aI++⟨n,lg,true⟩::post)
 un:∀g∈aI++post,g.b=false
 len:aI.length+post.length<=3000000
 qf:jg (aI++⟨n,lg,true⟩::post)=bl.length
 aDu:sq k false bl=lg.map (·.id)
 ne:1<=lg.length
 fy:z8.fy=dS m
 aC:ve {z8 with fy:=dS (nz lg m),eI:=lr (aI++post),ng:=(aI++post).length} d false (5,{z8 with fy:=dS (nz lg m),eI:=lr (aI++post),ng:=(aI++post).length})
theorem acA:∀{gs:List iS} {g:iS},g∈gs->g.l.length<=jg gs
 |g0::gs,g,h=>by
  rw[jg];rcases dU.1 h with rfl|h
  .omega
  .have:=acA h;omega
section
variable{z8:Ar}{nx:Int}{l:List cB}{k:Int}{bl lg:List cL}{n:Nat}{aI post:List iS}{m:List En}
theorem AP.cn(h:AP z8 ⟨nx,l⟩ k bl lg n aI post m):mQ (aI++⟨n,lg,true⟩::post)=lg.length/\jg (aI++post)+lg.length=bl.length/\gG (aI++⟨n,lg,true⟩::post)=lg/\mC (aI++⟨n,lg,true⟩::post)=aI++post/\gG (aI++post)=[]:=by
 have h1:=λx hx=>h.un x (DV _ hx)
 have h2:=λx hx=>h.un x (List.mem_append_right _ hx)
 have hc:=h.qf;rw[(EV _ _).1,jg]at hc;have ff:∀gs:List iS,(∀x∈gs,x.b=false)->gs.filter (λg=>g.b)=[]/\gs.filter (λg=> !g.b)=gs:=λgs hg=>
  ⟨Jt.2 λx hx=>by rw[hg x hx];decide,List.filter_eq_self.2 λx hx=>by rw[hg x hx];rfl⟩
 refine⟨?_,?_,?_,?_,?_⟩
 .rw[(EV _ _).2,mQ,K' h1,K' h2];simp
 .rw[(EV _ _).1];simp only at hc;omega
 .simp[gG,(ff _ h1).1,(ff _ h2).1]
 .simp[mC,(ff _ h1).2,(ff _ h2).2]
 .simp[gG,(ff _ h.un).1]
theorem AP.ck(h:AP z8 ⟨nx,l⟩ k bl lg n aI post m)(hb:bl.length<=3000000):zl z8 (aI++⟨n,lg,true⟩::post):=by
 have hc:=h.cn;have hcn:=h.qf;have hl:=h.len;refine⟨h.gr,by simp;omega,λg hg=>?_,?_⟩
 .have:=acA hg;omega
 .rw[hc.2.2.1];omega
theorem aDU(h:AP z8 ⟨nx,l⟩ k bl lg n aI post m)(hb:bl.length<=3000000)(z9:Ar)(hz:z9={z8 with fy:=dS (nz lg m),eI:=lr (aI++post),ng:=(aI++post).length}):
 ba Z 4 149 0 (.ai true) (cC z8.X z8.xc [] 0) (aJ [(3,.aa 0 0),(7,.aa 1 0),(9,J (bl.length:Int)),(14,J (lg.length:Int))]) (Wu z9 nx (cR l) l.length) (dg Z I' 4 0):=by
 have hc:=h.cn;have hl:=h.len;have hf:=h.aC;rw[<-hz]at hf;have hg:qc z9 (aI++post):=by
  subst hz;refine⟨rfl,rfl,λg hg=>h.gr.df g ?_⟩
  grind
 have hX:z9.X=z8.X/\z9.xc=z8.xc:=by subst hz;exact aA
 rw[<-hX.1,<-hX.2];refine hE CK aLH ?_;refine⟨⟨z9,aI++post⟩,⟨rfl,rfl,hg,by simp only;omega,by simp;omega⟩,al (λ_=>al (λ_=>⟨false,al (λhh=>(by cases hh)) λ_=>?_⟩) λhh=>?_) λhh=>?_⟩
 .exact⟨⟨z9,⟨nx,l⟩,false,5,z9⟩,⟨rfl,rfl,hf,rfl⟩,al (λ_=>⟨(),aA,rfl,rfl⟩) λhh=>by cases hh⟩
 .simp only[K' h.un]at hh;cases hh
 .rw[cb]at hh
  grind
theorem aDT(h:AP z8 ⟨nx,l⟩ k bl lg n aI post m)(hb:bl.length<=3000000):
 ba Z 4 149 0 (.ai true) (cC z8.X z8.xc [] 0) (aJ [(3,.aa 0 0),(7,.aa 1 0),(9,J (bl.length:Int)),(14,J (lg.length:Int)),(15,.ad 2 lg.length 1)]) (Qr z8 (bc (lg.map (·.id))) nx (cR l) l.length) (dg Z Yd 4 0):=by
 have hc:=h.cn;have rq:=h.ck hb;have hl:=h.len;have cx:=h.ne;have cr:lg.length<=3000000:=by omega
 have h9:=aDU h hb _ rfl;refine hE CK aLG ?_;refine⟨false,al (λhh=>(by cases hh)) λ_=>?_⟩;refine⟨⟨z8,m,aI++⟨n,lg,true⟩::post⟩,⟨rfl,rfl,h.fy,rq,?_,λhh=>(by cases hh)⟩,al (λhh=>?_) λ_=>?_⟩
 .grind
 .grind
 have hg:qc {z8 with fy:=dS (nz lg m),eI:=lr (aI++post),ng:=(aI++post).length} (aI++post):=by
  refine⟨rfl,rfl,λg hg=>h.gr.df g ?_⟩
  grind
 refine⟨⟨{z8 with fy:=dS (nz lg m),eI:=lr (aI++post),ng:=(aI++post).length},lg.length,bc (lg.map (·.id))⟩,⟨rfl,?_⟩,lg.map (·.id),⟨by simp,rfl,by simp;omega⟩,true,al (λ_=>?_) λhh=>(by cases hh)⟩
 .delta Td aam;simp only[xW.zf,hc.2.2.1,hc.2.2.2.1];rfl
 .refine⟨⟨{z8 with fy:=dS (nz lg m),eI:=lr (aI++post),ng:=(aI++post).length},nz lg m,aI++post⟩,⟨rfl,rfl,rfl,⟨hg,by simp;omega,λg Mp=>?_,by grind⟩,by grind,λ_=>h.un⟩,h9⟩;have h5:g.l.length<=jg (aI++post):=acA Mp
  grind
theorem aDR(h:AP z8 ⟨nx,l⟩ k bl lg n aI post m)(hb:bl.length<=3000000){a:Int}(ha:0<=a/\a<256):
 ba Z 4 149 0 (.ai true) (cC z8.X z8.xc [] 0) (aJ [(2,.bD .u8 a),(3,.aa 0 0),(7,.aa 1 0),(9,J (bl.length:Int)),(14,J (lg.length:Int)),(15,.ad 2 lg.length 1)]) (Qr z8 (bc (lg.map (·.id))) nx (cR l) l.length) (dg Z Yc 4 0):=by
 have h1:=aDT h hb;have rq:=h.ck hb;have cx:=h.ne;obtain⟨q,hq⟩:∃q,lg.length=q+1:=⟨lg.length-1,by omega⟩;have hw:Int.tmod (wI a) (a_ (q+1))=((a.toNat%(q+1):Nat):Int):=by
  rw[cb]
  grind
 have hi:a.toNat%(q+1)<lg.length:=by rw[hq];exact Nat.mod_lt _ (Nat.succ_pos q)
 have hp:fi Z 2 (bc (lg.map (·.id))) (a.toNat%(q+1)*1)=some (J lg[a.toNat%(q+1)].id):=by rw[Na,n7,bc,sJ,sJ,gg hi];rfl
 rw[hq]at h1⊢;refine hE CK aLF ?_;refine al (λhh=>ab hh) λ_=>?_
 refine⟨_,hw,Nat.mod_lt _ (Nat.succ_pos q),_,hp,⟨z8,lg[a.toNat%(q+1)].id,aI++⟨n,lg,true⟩::post⟩,⟨rfl,rfl,⟨rq,λg hg Mo=>?_⟩⟩,h1⟩;rcases iK.1 hg with hg|hg
 .rw[h.un g (DV _ hg)]at Mo;cases Mo
 .rcases dU.1 hg with rfl|hg
  .exact⟨_,k7 hi,rfl⟩
  .rw[h.un g (List.mem_append_right _ hg)]at Mo;cases Mo
theorem aDQ(h:AP z8 ⟨nx,l⟩ k bl lg n aI post m)(hb:bl.length<=3000000){a:Int}(ha:0<=a/\a<256):
 ba Z 4 149 0 (.ai true) (cC z8.X z8.xc [] 0) (aJ [(1,J k),(2,.bD .u8 a),(3,.aa 0 0),(7,.aa 1 0),(8,.ad 2 bl.length 9),(9,J (bl.length:Int)),(14,J (lg.length:Int))]) (Qq z8 (fh bl) nx (cR l) l.length) (dg Z X_ 4 0):=by
 have h1:=aDR h hb ha;have hk:=h.aDu;refine hE CK aLE ?_;refine⟨⟨bl,⟨nx,l⟩,k⟩,⟨rfl,rfl,by simp only;omega⟩,?_⟩;simp only[hk,oD];exact h1
structure abW(z6:Ar)(d:Db)(k:Int)(bl:List cL)(gs:List iS):Prop where
 add:z6.oh=fh bl/\z6.na=bl.length/\bl.length<=3000000
 gr:qc z6 gs
 un:∀g∈gs,g.b=false
 len:gs.length<=3000000
 qf:jg gs=bl.length
 vd:HE d
 era:∀rE l',LB d k=(rE,l',true)->∃z8 lg n aI post m,ve z6.nb ⟨rE,l'⟩ false (0,z8)/\AP z8 d k bl lg n aI post m
end
theorem aDP{z8:Ar}{nx:Int}{l:List cB}{k:Int}{bl lg:List cL}{n:Nat}{aI post:List iS}{m:List En}{z:Ar}{rE:Int}{l':List cB}(hu:ve z ⟨rE,l'⟩ false (0,z8))(h:AP z8 ⟨nx,l⟩ k bl lg n aI post m)(hb:bl.length<=3000000){a:Int}(ha:0<=a/\a<256):
 ba Z 4 149 0 (.ai true) (cC z8.X z8.xc [] 0) (aJ [(1,J k),(2,.bD .u8 a),(3,.aa 0 0),(7,.aa 1 0),(8,.ad 2 bl.length 9),(9,J (bl.length:Int)),(11,.aa 3 0)]) (h4b z (fh bl) nx (cR l) l.length rE (cR l') l'.length) (dg Z X9 4 0):=by
 have h1:=aDQ h hb ha;have hc:=h.cn;have hl:=h.len;have hcn:=h.qf;have cx:=h.ne;have hnb:z8.nb=z8:=by have h1:=h.na;obtain⟨a0,a1,a2,a3,a4,a5,a6,a7,a8,a9,KJ,KK,KL,KM,KN,KO⟩:=z8;simp only at h1;obtain⟨rfl,rfl⟩:=h1;rfl
 refine hE CK aLD ?_;refine⟨true,al (λ_=>?_) λhh=>(by cases hh)⟩;refine⟨⟨z,⟨rE,l'⟩,false,0,z8⟩,⟨rfl,rfl,hu,rfl⟩,z8,aA,al (λhh=>?_) λ_=>?_⟩
 .rw[h.na.1]at hh;cases hh
 refine⟨⟨z8,aI++⟨n,lg,true⟩::post⟩,⟨rfl,?_,h.gr,by simp only;omega,by simp;omega⟩,al (λhh=>?_) λ_=>al (λhh=>?_) λ_=>?_⟩
 .show hA z8.nb=hA z8;rw[hnb]
 .grind
 .grind
 .grind
theorem aDO{z6:Ar}{nx:Int}{l:List cB}{k:Int}{bl:List cL}{gs:List iS}(h:abW z6 ⟨nx,l⟩ k bl gs){a:Int}(ha:0<=a/\a<256):
 ∃X' Cf,ba Z 4 149 0 (.ai true) (cC X' Cf [] 0) (aJ [(1,J k),(2,.bD .u8 a),(3,.aa 0 0),(7,.aa 1 0),(8,.ad 2 bl.length 9)]) (Qq z6.nb (fh bl) nx (cR l) l.length) (dg Z RA 4 0):=by
 have hl:=h.len;have had:=h.add;have hc:=h.qf;have QS:qc z6.nb gs:=⟨h.gr.eI,h.gr.ng,h.gr.df⟩;generalize hr:LB ⟨nx,l⟩ k=r;obtain⟨rE,l',b⟩:=r;have rr:(!(a_ bl.length !=((jg gs:Nat):Int)))=true:=by rw[hc];simp
 cases b with
 |false=>
  refine⟨z6.X,z6.xc,?_⟩;refine hE CK at4 ?_;refine⟨⟨z6.nb,gs⟩,⟨rfl,rfl,QS,by simp only;omega,by simp only;omega⟩,⟨⟨nx,l⟩,k,rE,l',false⟩,⟨rfl,rfl,h.vd,hr⟩,al (λhh=>?_) λ_=>al (λhh=>?_) λ_=>al (λ_=>?_) λhh=>(by cases hh)⟩
  .grind
  .simp only[K' h.un]at hh;cases hh
  .refine al (λ_=>al (λ_=>⟨(),aA,rfl,rfl⟩) λhh=>?_) λhh=>?_
   .grind
   .grind
 |true=>
  obtain⟨z8,lg,n,aI,post,m,hu,hv⟩:=h.era rE l' hr;have h1:=aDP hu hv had.2.2 ha;refine⟨z8.X,z8.xc,?_⟩;refine hE CK at4 ?_;refine⟨⟨z6.nb,gs⟩,⟨rfl,rfl,QS,by simp only;omega,by simp only;omega⟩,⟨⟨nx,l⟩,k,rE,l',true⟩,⟨rfl,rfl,h.vd,hr⟩,al (λhh=>?_) λ_=>al (λhh=>?_) λ_=>al (λhh=>(by cases hh)) λ_=>?_⟩
  .grind
  .simp only[K' h.un]at hh;cases hh
  .grind
theorem anU(X xc):OW (g_ X xc):=⟨aA,aA,rfl,rfl,aA⟩
theorem aDS{X:Nat->Option aO}{xc:Nat}{nx:Int}{l:List cB}{k a:Int}(ha:0<=a/\a<256)(ho:KE (g_ X xc) ⟨nx,l⟩ false)
 (aoZ:(Ef (g_ X xc) ⟨nx,l⟩ false).1=0->∃z6 bl gs,ve (Ef (g_ X xc) ⟨nx,l⟩ false).2 ⟨nx,l⟩ true (0,z6)/\abW z6 ⟨nx,l⟩ k bl gs):
 ∃X' Cf,bC Z 4 [.aj (iU ⟨nx,l⟩),J k,.bD .u8 a] (cC X xc [] 0) (.ai true) (cC X' Cf [] 0):=by
 generalize hr:Ef (g_ X xc) ⟨nx,l⟩ false=r at aoZ;obtain⟨e,z5⟩:=r;by_cases he:e=0
 .subst he;obtain⟨z6,bl,gs,hu,hv⟩:=aoZ rfl;obtain⟨X',Cf,h1⟩:=aDO hv ha;refine⟨X',Cf,?_⟩;refine eE 149 CK at5 ?_;refine⟨(X,xc),aA,true,al (λ_=>?_) λhh=>(by cases hh)⟩;refine⟨⟨g_ X xc,⟨nx,l⟩,false,0,z5⟩,⟨rfl,rfl,.inl ⟨anU X xc,ho,hr⟩,rfl⟩,true,al (λ_=>?_) λhh=>(by cases hh)⟩;refine⟨⟨z5,⟨nx,l⟩,true,0,z6⟩,⟨rfl,rfl,hu,rfl⟩,z6,aA,?_⟩;have e1:cK z6=.au (fh bl) 44:=by rw[cK,hv.add.1]
  delta ahM;simp only[e1,hv.add.2.1];exact h1
 .refine⟨X,xc,?_⟩;refine eE 149 CK at5 ?_;refine⟨(X,xc),aA,false,al (λhh=>(by cases hh)) λ_=>?_⟩;refine⟨⟨g_ X xc,⟨nx,l⟩,false,e,z5⟩,⟨rfl,rfl,.inl ⟨anU X xc,ho,hr⟩,decide_eq_false he⟩,al (λ_=>⟨(),aA,rfl,rfl⟩) λhh=>absurd hh (by simpa using he)⟩
def zw(e:Int):Prop:=e=0\/e=1\/e=2
theorem ak1(l b):zw (kQ l b).2:=by
 unfold kQ;split
 .exact .inl rfl
 .exact .inr (.inl rfl)
theorem axY(code base):∀todo a b c aD,zw (AR code base a b c aD todo).2:=by
 intro todo;induction todo with
 |nil=>intro a b c aD;all_goals first|exact .inl rfl|exact ak1 _ _
 |cons x l ih=>
  intro a b c aD;unfold AR;repeat' split
  all_goals first|exact ih _ _ _ _|exact ak1 _ _|exact .inl rfl
theorem alQ(f i):zw (ic f i).2:=by
 unfold ic;split
 .exact .inr (.inl rfl)
 .split
  .show zw (oo (bw f)).2;unfold oo;split
   .exact .inr (.inr rfl)
   .exact axY _ _ _ _ _ _ _
  .exact .inl rfl
theorem alR:∀l z,zw (iT z l).2.2
 |[],z=>.inl rfl
 |f::l,z=>by
  simp only[iT];split
  .exact alQ _ _
  .exact alR l z.tk
theorem ay6(z i l):zw (mR z i l).2.2:=by
 cases l with
 |nil=>exact .inl rfl
 |cons f l=>
  simp only[mR];split
  .exact alQ _ _
  .split
   .exact alR _ _
   .exact .inl rfl
theorem aAY(c a tr):zw (pE c a tr).2:=by
 unfold pE;split
 .exact .inr (.inl rfl)
 .unfold Eh;split
  .exact .inl rfl
  .exact .inr (.inr rfl)
theorem aM2{tr st s}(h:zw st.e):zw (j7 tr st s).e:=by
 unfold j7;split
 .exact h
 .split
  .exact aAY _ _ _
  .exact ay6 _ _ _
theorem aNJ(z tr l):zw (e_ z tr l).e:=
 PW (P:=λst:S3=>zw st.e) (λst p s h=>aM2 h) (.inl rfl)
theorem aM4{tr st s}(h:st.aW.length=st.cG.length):(j7 tr st s).aW.length=(j7 tr st s).cG.length:=by
 unfold j7
 grind
theorem aNM(z tr l):(e_ z tr l).aW.length=(e_ z tr l).cG.length:=
 PW (P:=λst:S3=>st.aW.length=st.cG.length) (λst p s h=>aM4 h) rfl
theorem amr{O gN}{c:O->Nat}(h:∀st p s,c (gN st p s)<=c st+1):∀l st,c (rf gN st l)<=c st+jB l
 |[],st=>ct _
 |p::l,st=>by
  have h1:∀(ss:List eK) (st:O),c (ss.foldl (λst s=>gN st p s) st)<=c st+ss.length:=by
   intro ss;induction ss with
   |nil=>exact λst=>ct _
   |cons s ss ih=>
    grind
  have h2:=h1 p.bk st;have h3:=amr h l (p.bk.foldl (λst s=>gN st p s) st);show c (rf gN (p.bk.foldl (λst s=>gN st p s) st) l)<=_;simp only[jB,e9,List.sum_cons]at h3⊢;omega
theorem aNI(z tr l):(e_ z tr l).aW.length<=jB l:=by
 have:=amr (gN:=λst _ s=>j7 tr st s) (c:=λst:S3=>st.aW.length) (λst p s=>?_) l ⟨z,0,[],[]⟩
 .unfold e_;simpa using this
 .simp only[j7]
  grind
theorem PX{O gN}{P:O->Prop}:∀{l st},(∀st,∀p∈l,∀s∈p.bk,P st->P (gN st p s))->P st->P (rf gN st l)
 |[],st,_,h0=>h0
 |p::l,st,h,h0=>by
  have h1:∀(ss:List eK) (st:O),(∀s∈ss,s∈p.bk)->P st->P (ss.foldl (λst s=>gN st p s) st):=by
   intro ss;induction ss with
   |nil=>exact λst _ h=>h
   |cons s ss ih=>simp_all
  exact PX (l:=l) (λst q hq=>h st q (dZ _ hq)) (h1 p.bk st (λs hs=>hs) h0)
theorem alS:∀l z,(iT z l).2.2=0->(iT z l).2.1.length=l.length
 |[],z,_=>rfl
 |f::l,z,h=>by
  simp only[iT]at h⊢;split at h;next hc=>exact absurd h hc
  next hc=>rw[aw hc];simp only[dJ,alS l z.tk h]
theorem ay8(z i l)(h:(mR z i l).2.2=0):(mR z i l).2.1.length=l.length:=by
 cases l with
 |nil=>rfl
 |cons f l=>
  simp only[mR]at h⊢;split at h;next hc=>exact absurd h hc
  next hc=>
   split at h;next pI=>exact absurd h pI
   next pI=>rw[aw hc,aw pI];simp only[dJ,alS l z (Gt.1 pI)]
theorem aAW(c a tr):vq c a tr≠[]:=by simp[vq,Df]
theorem auP(z tr l)(ho:∀p∈l,∀s∈p.bk,pa s.c):(e_ z tr l).e=0->∀b∈(e_ z tr l).cG,b≠[]/\b.length<=4001:=by
 refine PX (P:=λst:S3=>st.e=0->∀b∈st.cG,b≠[]/\b.length<=4001) (λst p hp s hs h=>?_) (λ_ b hb=>by cases hb);unfold j7;split;next he=>grind
 next he=>
  split;next hf=>grind
  next hf=>
   intro h0 b hb;rcases iK.1 hb with hb|hb
   .exact h (Gt.1 he) b hb
   .rw[vQ]at hb;have⟨_,k2,_,_,_,k6,_⟩:=Qa (ho p hp s hs) hf;have hl:=ay8 st.z s.id _ h0;rw[<-hb]at hl;refine⟨λhz=>?_,by omega⟩;rw[hz,k6]at hl;exact aAW _ _ _ (mE hl.symm)
theorem aqg:∀{a b c},ki a b=true->ki b c=true->ki a c=true
 |[],[],c,h1,h2=>by simp[ki]at h1
 |[],b::l,[],h1,h2=>by simp[ki]at h2
 |[],b::l,c::m,h1,h2=>by simp[ki]
 |a::l,[],c,h1,h2=>by simp[ki]at h1
 |a::l,b::m,[],h1,h2=>by simp[ki]at h2
 |a::l,b::m,c::n,h1,h2=>by
  have ih:= @aqg l m n;simp only[ki]at h1 h2⊢;simp at h1 h2⊢
  grind
theorem aqf:∀a:LN,ki a a=false
 |[]=>rfl
 |a::l=>by
  have h:Nat.ble (a+1) a=false:=by
   cases hb:Nat.ble (a+1) a with
   |false=>rfl
   |true=>have:=qA hb;omega
  simp[ki,aqf l,h]
def PL(q p:cB):Prop:=ki q.gD p.gD=true\/(q.gD=p.gD/\q.ar<p.ar)
theorem PL.trans{a b c}(h1:PL a b)(h2:PL b c):PL a c:=by
 rcases h1 with h1|⟨h1,h3⟩<;>rcases h2 with h2|⟨h2,h4⟩
 .exact .inl (aqg h1 h2)
 .exact .inl (h2▸h1)
 .exact .inl (h1▸h2)
 .exact .inr ⟨h1.trans h2,by omega⟩
theorem PL.aDm{a b}(h:PL a b)(hn:a.gD=b.gD)(ha:a.ar=b.ar):False:=by
 rcases h with h|⟨_,h⟩
 .rw[hn,aqf]at h;cases h
 .omega
theorem aFx{q p}(h:tX (some q) p=true):PL q p:=by
 simp only[tX,YL,HR,wF,pB]at h;cases hl:ki q.gD p.gD with
 |true=>exact .inl hl
 |false=>
  rw[hl]at h;by_cases he:q.gD=p.gD
  .refine .inr ⟨he,?_⟩
   grind
  .simp[he]at h
theorem asc{next}:∀{l q seen},pc next q seen l=true->(∀q0,q=some q0->∀p∈l,PL q0 p)/\(l.map kq).Nodup
 |[],q,seen,h=>⟨λ_ _ p hp=>(by cases hp),DW⟩
 |p::l,q,seen,h=>by
  simp only[pc]at h;split at h;next hc=>
   split at h;next j5 hs=>
    have⟨h1,h2⟩:=asc h;have h3:=h1 p rfl;simp at hc;refine⟨λq0 hq x hx=>?_,?_⟩
    .subst hq;have h4:=aFx hc.2;rcases dU.1 hx with rfl|hx
     .exact h4
     .exact h4.trans (h3 x hx)
    .rw[e9,uN];refine⟨λhm=>?_,h2⟩;have⟨y,hy,he⟩:=vT.1 hm;have h5:=h3 y hy;simp only[kq,gZ.mk.injEq]at he;exact h5.aDm he.1.symm he.2.1.symm
   .cases h
  .cases h
theorem auY{d}(h:iR d=true):(d.dT.map kq).Nodup:=by simp only[iR,cT]at h;exact(asc h.2).2
theorem aM5{st p i j}(h:lk j st.th=some true):lk j (oE st p i).th=some true:=by
 simp only[oE,I8]
 grind
theorem aM6(st p i):lk i (oE st p i).th=some true:=by simp only[oE,I8,if_true]
theorem adl{p j}:∀(ss:List eK) (st),lk j st.th=some true->lk j (ss.foldl (λst s=>oE st (kq p) s.id) st).th=some true
 |[],st,h=>h
 |s::ss,st,h=>adl ss _ (aM5 h)
theorem anK{p}:∀(ss:List eK) (st),∀s∈ss,lk s.id (ss.foldl (λst s=>oE st (kq p) s.id) st).th=some true
 |s::ss,st,x,h=>by
  rcases dU.1 h with rfl|h
  .exact adl ss _ (aM6 _ _ _)
  .exact anK ss _ x h
theorem anQ{j}:∀l st,lk j st.th=some true->lk j (pF st l).th=some true
 |[],st,h=>h
 |p::l,st,h=>anQ l _ (adl p.bk st h)
theorem adq:∀l st,∀p∈l,∀s∈p.bk,lk s.id (pF st l).th=some true
 |p::l,st,q,h,s,hs=>by
  rcases dU.1 h with rfl|h
  .exact anQ l _ (anK q.bk st s hs)
  .exact adq l _ q h s hs
theorem aNL(z tr l):∀i∈(e_ z tr l).aW,∃p∈l,∃s∈p.bk,s.id=i:=by
 refine PX (P:=λst:S3=>∀i∈st.aW,∃p∈l,∃s∈p.bk,s.id=i) (λst p hp s hs h=>?_) (λi hi=>by cases hi);unfold j7
 grind
theorem auL{D k v}:∀{m} {x:Int×D},x∈up k v m->x.1=k\/∃y∈m,y.1=x.1
 |[],x,h=>by simp only[up,vQ]at h;exact .inl (by rw[h])
 |(i,w)::m,x,h=>by
  simp only[up]at h;split at h
  .grind
  .rcases dU.1 h with rfl|h
   .simp_all
   .rcases auL h with h|⟨y,h1,h2⟩
    .exact .inl h
    .grind
theorem anM:∀(l:List (Int×List cL)) (st),∀x∈(l.foldl fk st).cm,(∃y∈l,y.1=x.1)\/∃y∈st.cm,y.1=x.1
 |[],st,x,h=>.inr ⟨x,h,rfl⟩
 |a::l,st,x,h=>by
  rcases anM l (fk st a) x h with⟨y,h1,h2⟩|⟨y,h1,h2⟩
  .grind
  .rcases auL (show y∈up a.1 _ st.cm from h1)with h3|⟨w,h3,h4⟩
   .grind
   .grind
theorem aNN(z tr l):∀x∈(y7 z tr l).cm,lk x.1 (B' z tr l).th=some true:=by
 intro x hx;rcases anM _ _ x hx with⟨y,h1,h2⟩|⟨y,h1,_⟩
 .have⟨p,hp,s,hs,hi⟩:=aNL z tr l y.1 (List.of_mem_zip h1).1;rw[<-h2,<-hi];exact adq l _ p hp s hs
 .cases h1
def jI(l:List cB):List (cB×eK):=l.flatMap λp=>p.bk.map λs=>(p,s)
theorem Ll{O}(gN):∀(l) (st:O),rf gN st l=(jI l).foldl (λst x=>gN st x.1 x.2) st
 |[],st=>rfl
 |p::l,st=>by
  show rf gN (p.bk.foldl (λst s=>gN st p s) st) l=_;have e:jI (p::l)=(p.bk.map λs=>(p,s))++jI l:=by simp[jI]
  rw[Ll gN l,e,Gy,List.foldl_map]
theorem AQ:∀l,(jI l).length=jB l
 |[]=>rfl
 |p::l=>by have:=AQ l;simp only[jI,jB,Sk,cj,oD,e9,List.sum_cons]at this⊢;omega
theorem HF{l x}:x∈jI l↔x.1∈l/\x.2∈x.1.bk:=by
 simp only[jI,List.mem_flatMap,vT]
 grind
theorem oM.qf:∀{new na all},oM na all new->∀f∈new.flatten,na<=f.bh.an/\f.bh.an<na+new.length
 |[],na,all,h,f,hf=>by cases hf
 |l::new,na,all,h,f,hf=>by
  have⟨⟨_,h3,ar,h4⟩,_⟩:=h;simp only[dJ];rcases iK.1 hf with hf|hf
  .grind
  .have:=oM.qf h.2 f hf;omega
theorem ar3:∀l x,(∀f∈l,0<=f.bh.an/\f.bh.an<2000000000000)->x<=Gj x l/\∀f∈l,f.bh.an<Gj x l
 |[],x,_=>⟨Gp _,λf hf=>by cases hf⟩
 |f::l,x,h=>by
  have h0:=h f (dk ..);have hw:wI (f.bh.an+1)=f.bh.an+1:=cb;have h1:=ar3 l (if wI (f.bh.an+1)>x then wI (f.bh.an+1)else x) λg hg=>h g (dZ _ hg)
  rw[hw]at h1;simp only[Gj,qz,hw]at h1⊢
  grind
theorem acF{f i}(he:(ic f i).2=0):(ic f i).1.bh=f.bh/\(ic f i).1.id=i:=by
 unfold ic at he⊢
 grind
theorem acG:∀l z,(iT z l).2.2=0->0<=z.id->z.id+(l.length:Int)<2000000000000->
 (iT z l).1={z with id:=z.id+l.length}/\(iT z l).2.1.map cL.bh=l.map bN.bh
 |[],z,_,_,_=>⟨by simp[iT],rfl⟩
 |f::l,z,h,h0,h1=>by
  simp only[iT,dJ]at h h1⊢;have hw:z.tk={z with id:=z.id+1}:=by unfold Ar.tk;rw[cb]
  split at h;next hc=>exact absurd h hc
  next hc=>
   rw[aw hc];have⟨a1,a2⟩:=acG l z.tk h (by grind) (by grind);refine⟨?_,by simp only[e9,(acF (Gt.1 hc)).1,a2]⟩
   grind
theorem ay9{f l z i}(h:(mR z i (f::l)).2.2=0)(h0:0<=z.id)(h1:z.id+(l.length:Int)<2000000000000):
 (mR z i (f::l)).1={z with id:=z.id+l.length,an:=Gj z.an (f::l)}/\(mR z i (f::l)).2.1.map cL.bh=(f::l).map bN.bh:=by
 simp only[mR]at h⊢;split at h;next hc=>exact absurd h hc
 next hc=>
  split at h;next pI=>exact absurd h pI
  next pI=>rw[aw hc,aw pI];have⟨a1,a2⟩:=acG l z (Gt.1 pI) h0 h1;exact⟨by rw[a1];rfl,by simp only[e9,(acF (Gt.1 hc)).1,a2]⟩
theorem anA{c a tr}(hc:pa c)(hv:jV c=true)(h1:1<=a)(h2:a<=1099511623776):
 ∃f l,vq c a tr=f::l/\f.bh=YN c/\l.length<=4000/\∀f'∈l,a<=f'.bh.an/\f'.bh.an<a+2000:=by
 have⟨new,hn⟩:=adj tr hc.1 hc.2 hv h1 h2;have hl:=hn.len;refine⟨_,_,by unfold vq Df;rw[hn.an],rfl,?_,λf' hf=>?_⟩
 .have:=anE λl hl=>(oM.Jc hn.ok l hl).elim λn hn=>hn.2.1
  omega
 .have:=oM.qf hn.ok f' hf;omega
structure Hz(n:Nat)(st:S3)(bl:List cL):Prop where
 cG:st.cG.flatten=bl
 n:bl.length<=4001*n
 an:1<=st.z.an
 id:4294967296<=st.z.id/\st.z.id<=4294967296+bl.length
 lt:∀b∈bl,b.bh.an<st.z.an
theorem Zx{tr st s}(h:(j7 tr st s).e=0):st.e=0:=by
 unfold j7 at h
 grind
theorem apF{tr st x n bl}(h:Hz n st bl)(hn:n<=1000)(hc:pa x.c)(he:(j7 tr st x).e=0):∃bl',Hz (n+1) (j7 tr st x) bl':=by
 have h0:=Zx he;unfold j7 at he⊢;rw[aw (λhh=>hh h0)]at he⊢;split at he;next h1=>exact absurd he h1
 next h1=>
  rw[aw h1];have⟨_,_,hv,ha1,ha2,pK,_⟩:=Qa hc h1;have⟨f,l,e1,e2,e4,e5⟩:=anA (tr:=tr) hc hv ha1 ha2;rw[pK,e1]at he⊢;have QF:=h.n;have dw:=h.id;have⟨c1,c2⟩:=ay9 he (by omega) (by omega);generalize mR st.z x.id (f::l)=r at c1 c2 he⊢;have⟨z',bs,e'⟩:=r;have QG:bs.length=l.length+1:=by have:=congrArg List.length c2;simpa using this
  have ME:=ar3 (f::l) st.z.an λf' hf=>by
   rcases dU.1 hf with rfl|hf
   .rw[e2];exact⟨Gp _,by simp[YN]⟩
   .have:=e5 f' hf;omega
  refine⟨bl++bs,?_,?_,?_,?_,λb hb=>?_⟩
  .simp only[qes,h.cG,Ng,Si,jt]
  .simp;omega
  .grind
  .rw[c1];simp;omega
  .rw[c1];simp only;rcases iK.1 hb with hb|hb
   .have:=h.lt b hb;omega
   .have:b.bh∈(f::l).map bN.bh:=by rw[<-c2];exact rI hb
    grind
theorem apE{tr}:∀(todo:List (cB×eK)) (n st),(st.e=0->∃bl,Hz n st bl)->(∀x∈todo,pa x.2.c)->n+todo.length<=1000->(todo.foldl (λst x=>j7 tr st x.2) st).e=0->∃bl,Hz (n+todo.length) (todo.foldl (λst x=>j7 tr st x.2) st) bl
 |[],n,st,h,_,_,he=>h he
 |x::todo,n,st,h,hc,hl,he=>by
  simp at hl;have:=apE todo (n+1) (j7 tr st x.2) (λh1=>?_) (λy hy=>hc y (dZ _ hy)) (by omega) he
  .grind
  .have⟨bl,hb⟩:=h (Zx h1);exact apF hb (by omega) (hc x (dk ..)) h1
theorem auQ{X xc tr l}(hc:∀x∈jI l,pa x.2.c)(hl:(jI l).length<=500)(he:(e_ (g_ X xc) tr l).e=0):∃bl,Hz (jI l).length (e_ (g_ X xc) tr l) bl:=by unfold e_ at he⊢;rw[Ll]at he⊢;have:=apE (jI l) 0 ⟨g_ X xc,0,[],[]⟩ (λ_=>⟨[],rfl,ct _,by simp[g_],by simp[g_],λx hx=>(by cases hx)⟩) hc (by omega) he;rwa[lx]at this
abbrev abD(next:Int)(s:eK):Prop:=(1<=s.id/\s.id<next)/\jV s.c=true
theorem aMJ{next p seen s}(h:uQ next p seen s=true):abD next s/\s.id∉seen:=by
 simp only[uQ,cT,yV,decide_eq_false_iff_not,beq_iff_eq]at h
 grind
theorem alF{next p}:∀{l seen j5},sf next p seen l=some j5->j5=seen++l.map eK.id/\(∀s∈l,abD next s)/\(seen.Nodup->j5.Nodup)
 |[],seen,j5,h=>by
  simp only[sf,lN]at h
  grind
 |s::l,seen,j5,h=>by
  simp only[sf]at h;split at h;next hs=>
   have⟨h1,h2⟩:=aMJ hs;have⟨h3,h4,h5⟩:=alF h
   grind
  .cases h
theorem asb{next}:∀{l q seen},pc next q seen l=true->(∀x∈jI l,abD next x.2)/\(seen.Nodup->(seen++(jI l).map λx=>x.2.id).Nodup)
 |[],q,seen,h=>⟨λx hx=>(by cases hx),λhn=>by simpa[jI]using hn⟩
 |p::l,q,seen,h=>by
  simp only[pc]at h;split at h
  .split at h;next j5 hs=>
    have⟨h1,h2,h3⟩:=alF hs;have⟨h4,h5⟩:=asb h;have e:jI (p::l)=(p.bk.map λs=>(p,s))++jI l:=by simp[jI]
    rw[e];refine⟨λx hx=>?_,λhn=>?_⟩
    .grind
    .grind
   .cases h
  .cases h
theorem aeu:∀(n:Nat) (l:LI),l.Nodup->(∀x∈l,0<=x/\x<(n:Int))->l.length<=n
 |0,[],_,_=>ct _
 |0,x::l,_,h=>by have:=h x (dk ..);omega
 |n+1,l,hn,h=>by
  by_cases hm:(n:Int)∈l
  .have h1:=aeu n (l.erase (n:Int)) (hn.erase _) λx hx=>by
    grind
   grind
  .have h1:=aeu n l hn λx hx=>by
    grind
   omega
theorem ahc:∀l n,0<=n->n+(jB l:Int)<4611686018427387904->BY n l=n+jB l
 |[],n,_,_=>by simp[BY,jB]
 |p::l,n,h0,h1=>by
  have e:jB (p::l)=p.bk.length+jB l:=by simp[jB]
  rw[e]at h1⊢;rw[BY,cb,ahc l _ (by omega) (by omega)];omega
structure axl(d:Db):Prop where
 dT:d.dT.length<=500
 bk:(jI d.dT).length<=500
 Jo:(d.dT.map kq).Nodup
 aW:((jI d.dT).map λx=>x.2.id).Nodup
 body:∀x∈jI d.dT,jV x.2.c=true
theorem As{d}(h:iR d=true):axl d:=by
 have hn:=auY h;simp only[iR,cT,yV,decide_eq_false_iff_not]at h;have⟨⟨⟨⟨h1,h2⟩,h3⟩,h4⟩,h5⟩:=h;have⟨h6,h7⟩:=asb h5;have h8:=h7 DW;rw[rG]at h8;have h9:=aeu 4294967296 _ h8 λx hx=>by
  grind
 rw[oD]at h9;have dG:=AQ d.dT;rw[ahc _ 0 (Gp _) (by omega)]at h4;exact⟨by omega,by omega,hn,h8,λx hx=>(h6 x hx).2⟩
def IU(q:gZ)(m:List En):Option LI:=(hQ q m).map En.aW
def Ah(q:gZ)(m:List En):LI:=(IU q m).getD []
theorem amG{p q n aW}:∀m,hQ q (rN p n aW m)=if q=p then(hQ q m).map (λe=>{e with n:=n,aW:=aW})else hQ q m
 |[]=>by simp[rN,hQ]
 |e::m=>by
  have ih:=amG (p:=p) (q:=q) (n:=n) (aW:=aW) m;simp only[rN];by_cases hp:p=e.p
  .subst hp;simp only[if_true,hQ]
   grind
  .simp only[hp,if_false,hQ]
   grind
theorem amF{p q c}(h:q≠p):∀m,hQ q (m++[⟨p,0,[],c⟩])=hQ q m
 |[]=>by simp[hQ,h]
 |e::m=>by simp only[j3,hQ,amF h m]
theorem aDc(k:Ks)(p q i):IU q (k.qP p i).m=if q=p then some (Ah p k.m++[i])else IU q k.m:=by
 unfold IU Ah;show Option.map En.aW (hQ q (rN p k.xc ((jb p k.m k.c).aW++[i]) (sk p k.m k.c).1))=_;rw[amG];by_cases h:q=p
 .subst h;rw[aP rfl,aP rfl,VT,jb,IU];cases hQ q k.m<;>rfl
 .rw[aw h,aw h];unfold sk;cases hQ p k.m with
  |some e=>rfl
  |none=>rw[amF h]
theorem asU(k:Ks)(p q i):Ah q (k.qP p i).m=Ah q k.m++(if q=p then[i]else[]):=by
 unfold Ah;rw[aDc];by_cases h:q=p
 .subst h;rw[aP rfl,aP rfl];rfl
 .rw[aw h,aw h,jt]
def own(q:gZ)(l:List cL):LI:=(l.filter λb=>decide (b.bh=q)).map cL.id
theorem asV{q}(hq:q.an≠0):∀l k,Ah q (jH k l).m=Ah q k.m++own q l
 |[],k=>by simp[jH,own]
 |b::l,k=>by
  have ih:=asV hq l (if b.bh.an≠0 then k.qP b.bh b.id else k);show Ah q (jH (if b.bh.an≠0 then k.qP b.bh b.id else k) l).m=_;rw[ih];by_cases hb:b.bh=q
  .rw[aP (by rw[hb];exact hq),asU,aP hb.symm];simp[own,hb]
  .have:own q (b::l)=own q l:=by simp[own,hb]
   rw[this];split
   .rw[asU,aw λh=>hb h.symm,jt]
   .rfl
theorem aA6{q}(hq:q.an≠0):∀(l:List (Int×List cL)) (st),Ah q (l.foldl fk st).m=Ah q st.m++own q (l.flatMap Prod.snd)
 |[],st=>by simp[own]
 |x::l,st=>by rw[qz,aA6 hq l];show Ah q (jH _ x.2).m++_=_;rw[asV hq,jE];simp[own]
theorem ahu{F D:Type}:∀(a:List F) (b:List (List D)),a.length=b.length->(a.zip b).flatMap Prod.snd=b.flatten
 |[],[],_=>rfl
 |[],_::_,h=>by simp at h
 |_::_,[],h=>by simp at h
 |x::a,y::b,h=>by simp[ahu a b (by simpa using h)]
structure abt(X0:Nat->Option aO)(c0:Nat)(st:S5):Prop where
 xc:c0<=st.z.xc
 X:∀i,i<c0->st.z.X i=X0 i
 nm:∀e∈st.m,e.aW≠[]->c0<=e.n
theorem auR{p n aW}:∀{m x},x∈rN p n aW m->x∈m\/x.n=n
 |e::m,x,h=>by
  simp only[rN]at h;split at h
  .grind
  .rcases dU.1 h with rfl|h
   .exact .inl (dk ..)
   .exact(auR h).imp (dZ _) id
theorem aAx{p m c x}(h:x∈(sk p m c).1):x∈m\/x.aW=[]:=by
 unfold sk at h
 grind
theorem aDr{X0 c0 st}(h:abt X0 c0 st)(p i):abt X0 c0 (oE st p i):=by
 have hx:=h.xc;have W3:(jb p st.m st.z.nc).aW≠[]->c0<=(jb p st.m st.z.nc).n:=by
  unfold jb;cases he:hQ p st.m with
  |some e=>exact h.nm e (VE he).1
  |none=>grind
 refine⟨Nat.le_succ_of_le hx,λj hj=>?_,λe he cx=>?_⟩
 .show Cg st.z.X st.z.xc (st.k.nm p) (jb p st.m st.z.nc).aW.length _ _ j=_;have e1:Nat.beq j st.z.xc=false:=by
   cases hb:Nat.beq j st.z.xc with
   |false=>rfl
   |true=>have:=dN hb;omega
  have e2:(Nat.beq j (st.k.nm p)&& !Nat.beq (jb p st.m st.z.nc).aW.length 0)=false:=by
   by_cases h0:(jb p st.m st.z.nc).aW=[]
   .rw[h0];simp
   .cases hb:Nat.beq j (st.k.nm p)with
    |false=>rfl
    |true=>have hb:=dN hb;have:=W3 h0;unfold Ks.nm at hb;rw[aw (show¬(jb p st.k.m st.k.c).aW=[]from h0)]at hb;have hb:j=(jb p st.m st.z.nc).n:=hb;omega
  simp only[Cg,e1,e2,cond_false];exact h.X j hj
 .rcases auR (show e∈rN p st.z.xc _ (sk p st.m st.z.nc).1 from he)with h1|h1
  .rcases aAx h1 with h1|h1
   .exact h.nm e h1 cx
   .exact absurd h1 cx
  .rw[h1];exact hx
section
variable{X:Nat->Option aO}{xc:Nat}{nx:Int}{tr:Bool}{l:List cB}
theorem acO(hd:mD ⟨nx,l⟩):∀x∈jI l,pa x.2.c:=λx hx=>(hd.2 x.1 (HF.1 hx).1).2.2 x.2 (HF.1 hx).2
theorem auw(a:LI)(b)(h:a.length=b.length):uf (a.zip b)=b.flatten.length:=by rw[<-ahu a b h,uf,List.length_flatMap]
theorem aNG(hd:mD ⟨nx,l⟩):KE (g_ X xc) ⟨nx,l⟩ tr:=by
 have bB:=aNM (g_ X xc) tr l;have W2:=aNI (g_ X xc) tr l;refine⟨hd,λhv=>?_,auY,aNJ _ _ _,⟨bB,λhv=>?_⟩,λhv he b hb=>?_,λhv he=>?_,λhv he=>aNN _ _ _⟩
 .have vd:=As hv;have h1:=vd.dT;have h2:=vd.bk;have h3:=AQ l;simp only at h1 h2;exact⟨by simp only;omega,by simp only;omega,λp hp s hs=>(hd.2 p hp).2.2 s hs⟩
 .have h2:=(As hv).bk;have h3:=AQ l;simp only at h2⊢;omega
 .have:=auP (g_ X xc) tr l (λp hp s hs=>(hd.2 p hp).2.2 s hs) he b hb;exact⟨this.1,by omega⟩
 .have h2:=(As hv).bk;have⟨bl,hb⟩:=auQ (acO hd) h2 he;have:=hb.n;simp only at h2 bB⊢;rw[auw _ _ bB,hb.cG];omega
structure T'(z:Ar)(k:Nat)(f:S5):Prop where
 inv:DI k f
 MM:abt z.X z.xc f
 add:f.z.oh=z.oh/\f.z.na=z.na
 fy:f.z.fy=z.fy
theorem anJ{z}:∀(todo:List (cB×eK)) (k st),T' z k st->T' z (k+todo.length) (todo.foldl (λst x=>oE st (kq x.1) x.2.id) st)
 |[],k,st,h=>h
 |x::todo,k,st,h=>by have:=anJ todo (k+1) (oE st (kq x.1) x.2.id) ⟨apH h.inv,aDr h.MM _ _,h.add,h.fy⟩;rw[dJ,show k+(todo.length+1)=k+1+todo.length by omega];exact this
theorem aA3{z}(hn:(l.map kq).Nodup):T' z (jI l).length (pF (wL z l) l):=by
 have h0:T' z 0 (wL z l):=by refine⟨⟨rfl,?_⟩,⟨ct _,λi _=>rfl,λe he cx=>absurd (DM (show e∈tN 0 l from he)).2.2.1 cx⟩,aA,rfl⟩;have:=aq4 (X:=z.X) (xc:=z.xc) (k:=0) hn;rw[lx]at this;exact this
 have:=anJ (jI l) 0 _ h0;rw[lx]at this;unfold pF;rw[Ll];exact this
end
def o6(l:List cB):LI:=(jI l).map λx=>x.2.id
theorem Xw(p:cB)(l:List cB):o6 (p::l)=p.bk.map eK.id++o6 l:=by simp[o6,jI,Function.comp_def]
theorem Xx{l:List cB}{i:Int}:i∈o6 l↔∃p∈l,∃s∈p.bk,s.id=i:=by
 simp only[o6,vT];constructor
 .rintro⟨x,hx,rfl⟩;exact⟨x.1,(HF.1 hx).1,x.2,(HF.1 hx).2,rfl⟩
 .rintro⟨p,hp,s,hs,rfl⟩;exact⟨(p,s),HF.2 ⟨hp,hs⟩,rfl⟩
theorem ani{k:Int}:∀{l c:List eK},pC k l=some c->(∃a b,l.map eK.id=a++k::b/\c.map eK.id=a++b)/\∀s∈c,s∈l
 |[],c,h=>by cases h
 |s::l,c,h=>by
  simp only[pC]at h;split at h;next h1=>cases h;exact⟨⟨[],l.map eK.id,by rw[e9,h1];rfl,rfl⟩,λx hx=>dZ _ hx⟩
  .cases he:pC k l with
   |none=>rw[he]at h;cases h
   |some c'=>
    rw[he]at h;cases h;obtain⟨⟨a,b,h1,h2⟩,h3⟩:=ani he
    grind
structure ajj(k:Int)(l l':List cB):Prop where
 aW:∃a b,o6 l=a++k::b/\o6 l'=a++b
 len:l'.length=l.length
 sub:∀p'∈l',∃p∈l,p'.gD=p.gD/\p'.ar=p.ar/\p'.bk.length<=p.bk.length/\∀s∈p'.bk,s∈p.bk
 Jo:l'.map kq=l.map kq
 n:jB l'<=jB l
theorem adh{k:Int}:∀{l l':List cB},ri k l=some l'->ajj k l l'
 |[],l',h=>by cases h
 |p::l,l',h=>by
  simp only[ri]at h;cases he:pC k p.bk with
  |some c=>
   rw[he]at h;cases h;obtain⟨⟨a,b,h1,h2⟩,h3⟩:=ani he;have hl:c.length<=p.bk.length:=by
    have e1:=congrArg List.length h1;have e2:=congrArg List.length h2
    grind
   refine⟨⟨a,b++o6 l,by rw[Xw,h1,jE];rfl,by rw[Xw,h2,jE]⟩,rfl,λp' hp=>?_,rfl,?_⟩
   .grind
   .have e:=AQ l;simp only[jB,e9,List.sum_cons]at e⊢;omega
  |none=>
   rw[he]at h;cases hr:ri k l with
   |none=>rw[hr]at h;cases h
   |some l2=>
    rw[hr]at h;cases h;have ih:=adh hr;obtain⟨a,b,h1,h2⟩:=ih.aW;have hn:=ih.n;refine⟨⟨p.bk.map eK.id++a,b,by rw[Xw,h1,jE],by rw[Xw,h2,jE]⟩,by simp[ih.len],λp' hp=>?_,by rw[e9,e9,ih.Jo],?_⟩
    .rcases dU.1 hp with rfl|hp
     .grind
     .obtain⟨q,h3,h4⟩:=ih.sub p' hp;exact⟨q,dZ _ h3,h4⟩
    .simp only[jB,e9,List.sum_cons]at hn⊢;omega
theorem auf{next:Int}{p p':cB}{seen j5:LI}{s:eK}(hs:∀x∈j5,x∈seen)(hn:p'.gD=p.gD/\p'.ar=p.ar)(h:uQ next p seen s=true):uQ next p' j5 s=true:=by
 simp only[uQ,cT,yV,decide_eq_false_iff_not,hn.1,hn.2]at h⊢
 grind
theorem aun{seen j5:LI}{i:Int}(hs:∀x∈j5,x∈seen):∀x∈j5++[i],x∈seen++[i]:=λx hx=>by
 grind
theorem acy{next:Int}{p p':cB}(hn:p'.gD=p.gD/\p'.ar=p.ar):∀{l:List eK} {seen j5 r:LI},(∀x∈j5,x∈seen)->sf next p seen l=some r->∃r',sf next p' j5 l=some r'/\∀x∈r',x∈r
 |[],seen,j5,r,hs,h=>by cases h;exact⟨j5,rfl,hs⟩
 |s::l,seen,j5,r,hs,h=>by
  simp only[sf]at h⊢;split at h;next h1=>rw[aP (auf hs hn h1)];exact acy hn (aun hs) h
  .cases h
theorem alE{k next:Int}{p p':cB}(hn:p'.gD=p.gD/\p'.ar=p.ar):∀{l c:List eK} {seen j5 r:LI},(∀x∈j5,x∈seen)->sf next p seen l=some r->pC k l=some c->∃r',sf next p' j5 c=some r'/\∀x∈r',x∈r
 |[],c,seen,j5,r,hs,h,he=>by cases he
 |s::l,c,seen,j5,r,hs,h,he=>by
  simp only[sf]at h;simp only[pC]at he;split at h;next h1=>
   split at he
   .cases he;exact acy hn (λx hx=>DV _ (hs x hx)) h
   .cases hr:pC k l with
    |none=>rw[hr]at he;cases he
    |some c'=>rw[hr]at he;cases he;simp only[sf];rw[aP (auf hs hn h1)];exact alE hn (aun hs) h hr
  .cases h
theorem aFw{q q':cB}(hn:q'.gD=q.gD/\q'.ar=q.ar)(p:cB):tX (some q') p=tX (some q) p:=by simp only[tX,hn.1,hn.2]
theorem asa{next:Int}:∀{l:List cB} {q q':Option cB} {seen j5:LI},(∀x∈j5,x∈seen)->(∀p,tX q' p=tX q p)->pc next q seen l=true->pc next q' j5 l=true
 |[],_,_,_,_,_,_,_=>rfl
 |p::l,q,q',seen,j5,hs,hq,h=>by
  simp only[pc]at h⊢;rw[hq];split at h;next h1=>
   rw[aP h1];split at h;next r hr=>obtain⟨r',h2,h3⟩:=acy (p:=p) (p':=p) aA hs hr;rw[h2];exact asa h3 (λ_=>rfl) h
   .cases h
  .cases h
theorem ar9{k next:Int}:∀{l l':List cB} {q:Option cB} {seen:LI},pc next q seen l=true->ri k l=some l'->pc next q seen l'=true
 |[],l',_,_,_,he=>by cases he
 |p::l,l',q,seen,h,he=>by
  simp only[pc]at h;simp only[ri]at he;split at h;next h1=>
   split at h;next r hr=>
    cases hs:pC k p.bk with
    |some c=>
     rw[hs]at he;cases he;obtain⟨r',h2,h3⟩:=alE (p:=p) (p':={p with bk:=c}) aA (λx hx=>hx) hr hs;simp only[pc];have e:tX q {p with bk:=c}=tX q p:=by cases q<;>rfl
     rw[e,aP h1,h2];exact asa (q:=some p) h3 (aFw aA) h
    |none=>
     rw[hs]at he;cases hl:ri k l with
     |none=>rw[hl]at he;cases he
     |some l2=>rw[hl]at he;cases he;simp only[pc];rw[aP h1,hr];exact ar9 h hl
   .cases h
  .cases h
theorem aNZ{k nx:Int}{l l':List cB}(h:iR ⟨nx,l⟩=true)(he:ri k l=some l'):iR ⟨nx,l'⟩=true:=by have vd:=As h;have hc:=vd.bk;have ho:=adh he;have hn:=ho.n;have bB:=ho.len;have e:=AQ l;simp only at hc;simp only[iR,cT,yV,decide_eq_false_iff_not]at h⊢;have⟨⟨⟨⟨h1,h2⟩,h3⟩,h4⟩,h5⟩:=h;refine⟨⟨⟨⟨h1,h2⟩,by rw[bB];exact h3⟩,?_⟩,ar9 h5 he⟩;rw[ahc l' 0 (Gp 0) (by omega)];omega
theorem aEW{k nx:Int}{l l':List cB}(h:mD ⟨nx,l⟩)(ho:ajj k l l'):mD ⟨nx,l'⟩:=by refine⟨by show cV l'.length;rw[ho.len];exact h.1,λp' hp=>?_⟩;obtain⟨p,h1,h2,h3,h4,h5⟩:=ho.sub p' hp;obtain⟨g1,g2,g3⟩:=h.2 p h1;unfold cV at g2;exact⟨by rw[h2];exact g1,by unfold cV;omega,λs hs=>g3 s (h5 s hs)⟩
theorem aN5{nx:Int}{l:List cB}(hd:mD ⟨nx,l⟩)(hv:iR ⟨nx,l⟩=true):HE ⟨nx,l⟩:=by
 have vd:=As hv;have h1:=vd.dT;have h2:=vd.bk;have e:=AQ l;simp only at h1 h2;refine⟨hd,⟨h1,λp hp=>?_⟩,λp hp s hs=>?_⟩
 .have h3:p.bk.length<=jB l:=PO hp;omega
 .have hb:=PG (vd.body (p,s) (HF.2 ⟨hp,hs⟩));exact⟨hb.1,hb.2.2⟩
theorem axz{k:Ks}{L:Nat}{p:gZ}{i:Int}{n:Nat}{l:List cL}{b:Bool}(h:Ks.OK k L)(hn:n<k.xc)(hx:k.X n=some (nR l b)):
 (k.qP p i).X n=some (nR l b)/\n<(k.qP p i).xc:=by
 refine⟨?_,Gx hn⟩;have cx:=RN h p;have⟨c1,c2⟩:=PT (k:=k) p;show(bif Nat.beq n k.xc then _ else bif Nat.beq n (k.nm p)&& !Nat.beq (jb p k.m k.c).aW.length 0 then none else k.X n)=_;have e1:Nat.beq n k.xc=false:=by
  cases h1:Nat.beq n k.xc with
  |false=>rfl
  |true=>have:=dN h1;omega
 rw[e1,cond_false];by_cases h0:(jb p k.m k.c).aW=[]
 .simp_all
 .have hr:=(cx.Ai _ c1 h0).2;have e2:Nat.beq n (k.nm p)=false:=by
   cases h1:Nat.beq n (k.nm p)with
   |false=>rfl
   |true=>have e:=dN h1;rw[Ks.nm,aw h0]at e;rw[<-e]at hr;simp only at hr;rw[hx]at hr;cases hr
  grind
theorem ab0{n:Nat}{lg:List cL}{b:Bool}:∀{l:List cL} {k:Ks} {L:Nat},Ks.OK k L->n<k.xc->k.X n=some (nR lg b)->(jH k l).X n=some (nR lg b)/\n<(jH k l).xc
 |[],k,L,h,hn,hx=>⟨hx,hn⟩
 |x::l,k,L,h,hn,hx=>by
  show(jH (if x.bh.an≠0 then k.qP x.bh x.id else k) l).X n=_/\n<(jH (if x.bh.an≠0 then k.qP x.bh x.id else k) l).xc;by_cases hb:x.bh.an≠0
  .rw[aP hb];have⟨h1,h2⟩:=axz (p:=x.bh) (i:=x.id) h hn hx;exact ab0 (h.add x.bh x.id) h2 h1
  .rw[aw hb];exact ab0 h hn hx
theorem aDs{z:Ar}{m:List En}{l:List cL}{b:Bool}{gs:List iS}{L:Nat}(aN:Ks.OK ⟨m,z.oc,z.X,z.xc⟩ L)(hg:qc z gs)(ae:∀g∈gs,g.n<z.xc):
 qc (vH z m l b) (gs++[⟨(jH ⟨m,z.oc,z.X,z.xc⟩ l).xc,l,b⟩])/\∀g∈gs++[⟨(jH ⟨m,z.oc,z.X,z.xc⟩ l).xc,l,b⟩],g.n<(vH z m l b).xc:=by
 have o5:∀g∈gs,(jH ⟨m,z.oc,z.X,z.xc⟩ l).X g.n=some (nR g.l g.b)/\g.n<(jH ⟨m,z.oc,z.X,z.xc⟩ l).xc:=λg hm=>ab0 aN (ae g hm) (hg.df g hm)
 refine⟨⟨?_,?_,?_⟩,?_⟩
 .show z.eI++[_]=_;rw[hg.eI,lP];rfl
 .show z.ng+1=_;rw[hg.ng];simp
 .intro g hm;show(Ce _ _ _) g.n=_;rw[Ce];rcases iK.1 hm with hm|hm
  .have⟨h1,h2⟩:=o5 g hm;have e1:Nat.beq g.n (jH ⟨m,z.oc,z.X,z.xc⟩ l).xc=false:=by
    cases h3:Nat.beq g.n (jH ⟨m,z.oc,z.X,z.xc⟩ l).xc with
    |false=>rfl
    |true=>have:=dN h3;omega
   grind
  .simp_all
 .intro g hm;show g.n<(jH _ l).xc+1
  grind
def mX:S7->List (Int×List cL)->List iS
 |_,[]=>[]
 |st,x::l=>⟨(st.ks x.2).xc,x.2,false⟩::mX (fk st x) l
theorem aBL{L:Nat}{st:S7}{x:Int×List cL}{gs:List iS}(h:zQ L st)(hg:qc st.z gs)(ae:∀g∈gs,g.n<st.z.xc):
 qc (fk st x).z (gs++[⟨(st.ks x.2).xc,x.2,false⟩])/\∀g∈gs++[⟨(st.ks x.2).xc,x.2,false⟩],g.n<(fk st x).z.xc:=by
 have⟨h1,h2⟩:=aDs (l:=x.2) (b:=false) h.ok hg ae;exact⟨⟨h1.eI,h1.ng,h1.df⟩,h2⟩
theorem aoj:∀{l:List (Int×List cL)} {L:Nat} {st:S7} {gs:List iS},(∀x∈l,x.2≠[])->zQ L st->qc st.z gs->(∀g∈gs,g.n<st.z.xc)->qc (l.foldl fk st).z (gs++mX st l)/\∀g∈gs++mX st l,g.n<(l.foldl fk st).z.xc
 |[],L,st,gs,_,h,hg,ae=>by rw[mX,jt];exact⟨hg,ae⟩
 |x::l,L,st,gs,hx,h,hg,ae=>by have⟨h1,h2⟩:=aBL (x:=x) h hg ae;have:=aoj (λy hy=>hx y (dZ _ hy)) (apI h (hx x (dk ..))) h1 h2;rw[jE]at this;exact this
theorem aop:∀(l:List (Int×List cL)) (st:S7),∀g∈mX st l,g.b=false
 |[],_,g,h=>by simp[mX]at h
 |x::l,st,g,h=>by
  rcases dU.1 h with rfl|h
  .rfl
  .exact aop l _ g h
theorem aon:∀(l:List (Int×List cL)) (st:S7),(mX st l).length=l.length/\jg (mX st l)=uf l
 |[],_=>aA
 |x::l,st=>by have⟨h1,h2⟩:=aon l (fk st x);simp only[mX,dJ,jg,h1,h2];exact⟨trivial,rfl⟩
def OZ(x:Int×List cL):Prop:=∃b r,x.2=b::r/\b.id=x.1/\b.bh.an=0/\∀y∈r,y.bh.an≠0
theorem ay7{f l z i}(h:(mR z i (f::l)).2.2=0)(hf:f.bh.an=0)(hl:∀f'∈l,f'.bh.an≠0)(h0:0<=z.id)(h1:z.id+(l.length:Int)<2000000000000):OZ (i,(mR z i (f::l)).2.1):=by
 simp only[mR]at h⊢;split at h;next hc=>exact absurd h hc
 next hc=>
  split at h;next pI=>exact absurd h pI
  next pI=>
   rw[aw hc,aw pI];have⟨c1,c2⟩:=acF (Gt.1 hc);have⟨a1,a2⟩:=acG l z (Gt.1 pI) h0 h1;refine⟨_,_,rfl,c2,by rw[c1];exact hf,λy hy=>?_⟩;have:y.bh∈l.map bN.bh:=by rw[<-a2];exact rI hy
   grind
theorem aON{F D:Type}{a:List F}{b:List D}{x:F}{y:D}(h:a.length=b.length):(a++[x]).zip (b++[y])=a.zip b++[(x,y)]:=by rw[List.zip_append h];rfl
structure O1(vl:List (cB×eK))(st:S3):Prop where
 aW:st.aW=vl.map λx=>x.2.id
 len:st.aW.length=st.cG.length
 gp:∀x∈st.aW.zip st.cG,OZ x
theorem aDj{tr st x vl bl}(h:Hz vl.length st bl)(h4:O1 vl st)(hn:vl.length<=1000)(hc:pa x.2.c)(he:(j7 tr st x.2).e=0):O1 (vl++[x]) (j7 tr st x.2):=by
 have h0:=Zx he;unfold j7 at he⊢;rw[aw (λhh=>hh h0)]at he⊢;split at he;next h1=>exact absurd he h1
 next h1=>
  rw[aw h1];have⟨_,_,hv,ha1,ha2,pK,_⟩:=Qa hc h1;have⟨f,l,e1,e2,e4,e5⟩:=anA (tr:=tr) hc hv ha1 ha2;rw[pK,e1]at he⊢;have QF:=h.n;have dw:=h.id;have hg:=ay7 he (by rw[e2];rfl) (λf' hf=>by have:=e5 f' hf;omega) (by omega) (by omega);refine⟨?_,?_,?_⟩
  .simp only[h4.aW,lP,e9,List.map_nil]
  .simp only[cj,h4.len,dJ,gH]
  .simp only;rw[aON h4.len];intro y hy;rcases iK.1 hy with hy|hy
   .exact h4.gp y hy
   .grind
theorem apG{tr}:∀(todo vl:List (cB×eK)) (st:S3),(st.e=0->(∃bl,Hz vl.length st bl)/\O1 vl st)->(∀x∈todo,pa x.2.c)->vl.length+todo.length<=1000->(todo.foldl (λst x=>j7 tr st x.2) st).e=0->O1 (vl++todo) (todo.foldl (λst x=>j7 tr st x.2) st)
 |[],vl,st,h,_,_,he=>by
  grind
 |x::todo,vl,st,h,hc,hl,he=>by
  simp only[dJ]at hl;have:=apG todo (vl++[x]) (j7 tr st x.2) (λh1=>?_) (λy hy=>hc y (dZ _ hy)) (by simp;omega) he
  .grind
  .obtain⟨⟨bl,hb⟩,h4⟩:=h (Zx h1);rw[cj];exact⟨apF hb (by omega) (hc x (dk ..)) h1,aDj hb h4 (by omega) (hc x (dk ..)) h1⟩
theorem aNK{X xc tr l}(hc:∀x∈jI l,pa x.2.c)(hl:(jI l).length<=500)(he:(e_ (g_ X xc) tr l).e=0):O1 (jI l) (e_ (g_ X xc) tr l):=by unfold e_ at he⊢;rw[Ll]at he⊢;have:=apG (jI l) [] ⟨g_ X xc,0,[],[]⟩ (λ_=>⟨⟨[],rfl,ct _,by simp[g_],by simp[g_],λx hx=>(by cases hx)⟩,rfl,rfl,λx hx=>by cases hx⟩) hc (by simp;omega) he;simpa using this
theorem aom{k:Int}{l9:Bool}:∀{r:List cL} {tl:List cL},(∀y∈r,y.bh.an≠0)->sq k l9 (r++tl)=(if l9=true then r.map (·.id)else[])++sq k l9 tl
 |[],tl,_=>by cases l9<;>rfl
 |b::r,tl,h=>by
  have ih:=aom (k:=k) (l9:=l9) (r:=r) (tl:=tl) λy hy=>h y (dZ _ hy)
  have hb:yI k l9 b=l9:=by rw[yI,aw (h b (dk ..))]
  rw[j3,sq,hb,ih];cases l9<;>rfl
theorem adC{k:Int}{l9:Bool}{x:Int×List cL}(hx:OZ x)(tl:List cL):sq k l9 (x.2++tl)=(if x.1=k then x.2.map (·.id)else[])++sq k (x.1==k) tl:=by
 obtain⟨b,r,h1,h2,h3,h4⟩:=hx;have hb:yI k l9 b=(x.1==k):=by rw[yI,aP h3,h2]
 rw[h1,j3,sq,hb,aom h4]
 grind
theorem aol{k:Int}:∀{L:List (Int×List cL)} {l9:Bool},(∀x∈L,OZ x)->(∀x∈L,x.1≠k)->sq k l9 (L.flatMap Prod.snd)=[]
 |[],_,_,_=>rfl
 |x::L,l9,h,hn=>by
  have ih:=aol (k:=k) (L:=L) (l9:=x.1==k) (λy hy=>h y (dZ _ hy)) λy hy=>hn y (dZ _ hy)
  rw[Sk,adC (h x (dk ..)),aw (hn x (dk ..)),ih];rfl
theorem aok{k:Int}{x:Int×List cL}{b:List (Int×List cL)}(hx:x.1=k):∀{a:List (Int×List cL)} {l9:Bool},(∀y∈a++x::b,OZ y)->(∀y∈a++b,y.1≠k)->sq k l9 ((a++x::b).flatMap Prod.snd)=x.2.map (·.id)
 |[],l9,h,hn=>by rw[rG,Sk,adC (h x (dk ..)),aP hx,aol (λy hy=>h y (dZ _ hy)) hn,jt]
 |y::a,l9,h,hn=>by
  have ih:=aok hx (a:=a) (l9:=y.1==k) (λz hz=>h z (dZ _ hz)) λz hz=>hn z (dZ _ hz)
  rw[j3,Sk,adC (h y (dk ..)),aw (hn y (dk ..)),ih];rfl
def lX:S7->List (Int×List cL)->List (Int×Nat)
 |_,[]=>[]
 |st,x::l=>(x.1,(st.ks x.2).xc)::lX (fk st x) l
theorem Vm:∀(a b:List (Int×List cL)) (st:S7),lX st (a++b)=lX st a++lX (a.foldl fk st) b/\mX st (a++b)=mX st a++mX (a.foldl fk st) b
 |[],b,st=>aA
 |x::a,b,st=>by
  have⟨h1,h2⟩:=Vm a b (fk st x);simp only[j3,lX,mX,h1,h2,qz]
  grind
theorem PQ:∀(l:List (Int×List cL)) (st:S7),(lX st l).map (·.1)=l.map (·.1)
 |[],_=>rfl
 |x::l,st=>by rw[lX,e9,e9,PQ l]
theorem aqk{D:Type}{k:Int}:∀{a b:List (Int×D)},(∀x∈a,x.1≠k)->lk k (a++b)=lk k b
 |[],b,_=>rfl
 |(i,v)::a,b,h=>by rw[j3,lk,aw λe=>h (i,v) (dk ..) e.symm];exact aqk λx hx=>h x (dZ _ hx)
theorem auN{D:Type}{k:Int}{v:D}:∀{m:List (Int×D)},(∀x∈m,x.1≠k)->up k v m=m++[(k,v)]
 |[],_=>rfl
 |(i,w)::m,h=>by rw[up,aw λe=>h (i,w) (dk ..) e.symm,auN λx hx=>h x (dZ _ hx)];rfl
theorem anN:∀(l:List (Int×List cL)) (st:S7),(st.cm.map (·.1)++l.map (·.1)).Nodup->(l.foldl fk st).cm=st.cm++lX st l
 |[],st,_=>by rw[lX,jt];rfl
 |x::l,st,h=>by
  have hx:x.1∉st.cm.map (·.1):=λhm=>(List.nodup_append.1 h).2.2 _ hm _ (dk ..) rfl
  have e:(fk st x).cm=st.cm++[(x.1,(st.ks x.2).xc)]:=auN λy hy he=>hx (he▸rI hy)
  have:=anN l (fk st x) (by grind);rw[qz,this,e,jE];rfl
theorem akH:∀(l:List cL) (k:Ks),k.xc<=(jH k l).xc
 |[],k=>ct _
 |b::l,k=>by
  have ih:=akH l (if b.bh.an≠0 then k.qP b.bh b.id else k);refine lz ?_ ih;split
  .exact Nat.le_succ _
  .exact ct _
theorem aoo:∀(l:List (Int×List cL)) (st:S7),(∀g∈mX st l,st.z.xc<=g.n)/\((mX st l).map iS.n).Nodup
 |[],st=>⟨λg hg=>(by cases hg),DW⟩
 |x::l,st=>by
  have⟨h1,h2⟩:=aoo l (fk st x);have hx:=akH x.2 ⟨st.m,st.z.oc,st.z.X,st.z.xc⟩;have e:(fk st x).z.xc=(st.ks x.2).xc+1:=rfl;have hx:st.z.xc<=(st.ks x.2).xc:=hx;refine⟨λg hg=>?_,?_⟩
  .rcases dU.1 hg with rfl|hg
   .exact hx
   .have:=h1 g hg;omega
  .rw[mX,e9,uN]
   grind
theorem aA4{l:List cB}{st:S5}:((pF st l).z.cY=st.z.cY/\(pF st l).z.cc=st.z.cc/\(pF st l).z.lC=st.z.lC/\(pF st l).z.rc=st.z.rc)/\(pF st l).z.eI=st.z.eI/\(pF st l).z.ng=st.z.ng:=
 PX (gN:=λst p s=>oE st (kq p) s.id) (P:=λs=>(s.z.cY=st.z.cY/\s.z.cc=st.z.cc/\s.z.lC=st.z.lC/\s.z.rc=st.z.rc)/\s.z.eI=st.z.eI/\s.z.ng=st.z.ng) (λ_ _ _ _ _ h=>h) ⟨⟨rfl,rfl,rfl,rfl⟩,rfl,rfl⟩
theorem adk{z:Ar}{l:List cB}{i:Int}:j9 (jh z l).th i=true↔i∈o6 l:=by
 constructor
 .intro h;have hp:=PX (gN:=λst p s=>oE st (kq p) s.id) (P:=λs:S5=>∀i,j9 s.th i=true->i∈o6 l) (l:=l) (st:=wL z l) (λst p hp s hs h i hi=>by
   simp only[oE,j9,I8]at hi;by_cases h1:i=s.id
   .rw[h1];exact Xx.2 ⟨p,hp,s,hs,rfl⟩
   .rw[aw h1]at hi;exact h i hi) (λi hi=>by cases hi)
  exact hp i h
 .intro h;obtain⟨p,hp,s,hs,rfl⟩:=Xx.1 h;have h:=adq l (wL z l) p hp s hs;show(lk s.id (pF (wL z l) l).th).getD false=true;rw[h];rfl
structure xV(z:Ar)(L:List (Int×List cL))(st:S7)(m:List En):Prop where
 cY:z.cY=mP (lX st L)/\z.cc=(lX st L).length
 ret:z.lC=[]/\z.rc=0
 fy:z.fy=dS m
 gr:qc z (mX st L)
 lt:∀g∈mX st L,g.n<z.xc
theorem xV.V9{z L st m l}(h:xV z L st m)(hn:(l.map kq).Nodup):xV (jh z l).z L st m/\(jh z l).z.oh=z.oh/\(jh z l).z.na=z.na:=by have hf:=aA3 (z:=z) hn;have⟨⟨r1,r2,r3,r4⟩,r5,r6⟩:=aA4 (l:=l) (st:=wL z l);exact⟨⟨⟨r1.trans h.cY.1,r2.trans h.cY.2⟩,⟨r3.trans h.ret.1,r4.trans h.ret.2⟩,hf.fy.trans h.fy,⟨r5.trans h.gr.eI,r6.trans h.gr.ng,λg hg=>(hf.MM.X _ (h.lt g hg)).trans (h.gr.df g hg)⟩,λg hg=>Nl (h.lt g hg) hf.MM.xc⟩,hf.add⟩
theorem xV.nb{z L st m}(h:xV z L st m):xV z.nb L st m:=⟨h.cY,h.ret,h.fy,⟨h.gr.eI,h.gr.ng,h.gr.df⟩,h.lt⟩
theorem aA5(l:List (Int×List cL)):∀(st:S7),(l.foldl fk st).z.lC=st.z.lC/\(l.foldl fk st).z.rc=st.z.rc:=by
 induction l with
 |nil=>intro st;exact aA
 |cons x l ih=>intro st;exact ih (fk st x)
theorem aqj{k:Int}{D:Type}:∀{m:List (Int×D)},k∈m.map (·.1)->(lk k m).isSome=true
 |(i,v)::m,h=>by
  rw[lk];by_cases he:k=i
  .rw[aP he];rfl
  .rw[aw he];rw[e9,dU]at h;exact aqj (h.resolve_left he)
theorem ax6{rt:List (Int×Bool)}{l:List cB}{k:Int}(hk:k∈o6 l)(hr:j9 rt k=true):q_ rt false l=true:=by
 have key:∀(a:List (cB×eK)) (b:Bool),(b=true\/∃x∈a,x.2.id=k)->a.foldl (λb x=>b||j9 rt x.2.id) b=true:=by
  intro a;induction a with
  |nil=>
   grind
  |cons y a ih=>
   intro b h;refine ih _ ?_
   grind
 unfold q_;rw[Ll];obtain⟨p,hp,s,hs,he⟩:=Xx.1 hk;exact key _ _ (.inr ⟨(p,s),HF.2 ⟨hp,hs⟩,he⟩)
theorem apX{z L st m nx l}(h:xV z L st m)(hd:mD ⟨nx,l⟩)(cx:L≠[])(tD:∀i∈o6 l,i∈L.map (·.1))(hl:iR ⟨nx,l⟩=true->EF (jh z l).z (lX st L) (o8 (lX st L) (jh z l).th)):Uu z ⟨nx,l⟩ (lX st L) []:=by
 have tw:iR ⟨nx,l⟩=true->u7 l:=λhv=>by have vd:=As hv;have h1:=vd.dT;have h2:=vd.bk;have h3:=AQ l;simp only at h1 h2;exact⟨by omega,by omega,λp hp s hs=>(hd.2 p hp).2.2 s hs⟩
 refine⟨.inl ?_,hd,h.ret.1,λhv=>⟨tw hv,(As hv).Jo⟩,λhv _=>⟨h.cY.1,h.cY.2,λp hp s hs=>aqj ?_,hl hv⟩⟩
 .rw[h.cY.1];cases L with
  |nil=>exact absurd rfl cx
  |cons x L=>intro e;cases e
 .rw[PQ];exact tD _ (Xx.2 ⟨p,hp,s,hs,rfl⟩)
theorem aD7(z:Ar):zT z []=z:=rfl
section
variable{z:Ar}{L:List (Int×List cL)}{st:S7}{m:List En}{nx:Int}{l:List cB}
theorem aNR(h:xV z L st m)(hd:mD ⟨nx,l⟩)(hv:iR ⟨nx,l⟩=true)(cx:L≠[])(hi:o6 l=L.map (·.1))(tr:Bool):ve z ⟨nx,l⟩ tr (0,(jh z l).z):=by
 have FO:o8 (lX st L) (jh z l).th=[]:=Jt.2 λx hx=>by
  have:x.1∈o6 l:=by rw[hi,<-PQ L st];exact rI hx
  rw[adk.2 this];decide
 refine .inr ⟨lX st L,[],apX h hd cx (λi ID=>hi▸ID) (λ_=>by rw[FO];exact .nil),?_⟩;rw[GS,aw (by rw[hv];decide),aw (by simp only[PB];decide)];show(0,zT (jh z l).z (o8 (lX st L) (jh z l).th))=_;rw[FO,aD7]
theorem aNP{l':List cB}{k:Int}{La Lb:List (Int×List cL)}{x0:Int×List cL}(h:xV z (La++x0::Lb) st m)(hd:mD ⟨nx,l'⟩)(hv:iR ⟨nx,l'⟩=true)(hx:x0.1=k)(hn:((La++x0::Lb).map (·.1)).Nodup)(hi:o6 l'=(La++Lb).map (·.1)):
 ve z ⟨nx,l'⟩ false (0,I6 (jh z l').z k ((La.foldl fk st).ks x0.2).xc):=by
 have II:=(As hv).Jo;simp only at II;have Bl:=(Vm La (x0::Lb) st).1;have kf:=hn;rw[lP,e9,List.nodup_append,uN]at kf;have Xd:∀y∈La,y.1≠k:=λy hy e=>kf.2.2 _ (rI hy) _ (dk ..) (e.trans hx.symm)
 have hkb:∀y∈Lb,y.1≠k:=λy hy e=>kf.2.1.1 (by rw[hx,<-e];exact rI hy)
 have hk:k∉o6 l':=by
  rw[hi];intro hm;obtain⟨y,hy,e⟩:=vT.1 hm;rcases iK.1 hy with hy|hy
  .exact Xd y hy e
  .exact hkb y hy e
 have hwk:j9 (jh z l').th k=false:=by
  cases hb:j9 (jh z l').th k with
  |false=>rfl
  |true=>exact absurd (adk.1 hb) hk
 have tv:∀(Lc:List (Int×List cL)) (sc:S7),(∀y∈Lc,y∈La++Lb)->(lX sc Lc).filter (λx=> !j9 (jh z l').th x.1)=[]:=λLc sc hc=>Jt.2 λx yF=>by
  have:x.1∈o6 l':=by have h1:x.1∈(lX sc Lc).map (·.1):=rI yF;rw[PQ]at h1;obtain⟨y,hy,e⟩:=vT.1 h1;rw[hi,<-e];exact rI (hc y hy)
  rw[adk.2 this];decide
 have FO:o8 (lX st (La++x0::Lb)) (jh z l').th=[(k,((La.foldl fk st).ks x0.2).xc)]:=by rw[Bl,o8,Gr,tv La _ λy hy=>DV _ hy,rG,lX,xy,hx];rw[aP (by rw[hwk];rfl),tv Lb _ λy hy=>List.mem_append_right _ hy]
 have hf:=h.V9 II;have uy:lk k (lX st (La++x0::Lb))=some ((La.foldl fk st).ks x0.2).xc:=by rw[Bl,aqk λy hy e=>?_,lX,hx,lk,aP rfl];have h1:y.1∈(lX st La).map (·.1):=rI hy;rw[PQ]at h1;obtain⟨w,hw,e2⟩:=vT.1 h1;exact Xd w hw (e2.trans e)
 have hg:=hf.1.gr.df ⟨((La.foldl fk st).ks x0.2).xc,x0.2,false⟩ (by rw[(Vm La (x0::Lb) st).2];exact List.mem_append_right _ (dk ..));refine .inr ⟨lX st (La++x0::Lb),[],apX h hd (by simp) (λi ID=>?_) (λ_=>?_),?_⟩
 .grind
 .rw[FO];refine⟨ct _,λx yF=>?_⟩;rw[vQ.1 yF];exact⟨uy,hf.1.ret,_,_,hg,ct _⟩
 .rw[GS,aw (by rw[hv];decide),aw (by simp only[PB];decide)];show(0,zT (jh z l').z (o8 (lX st (La++x0::Lb)) (jh z l').th))=_;rw[FO];rfl
theorem aAK{k:Int}{n:Nat}{x0:List cL}{aI post:List iS}(h:qc z (aI++⟨n,x0,false⟩::post))(hn:((aI++⟨n,x0,false⟩::post).map iS.n).Nodup):qc (I6 z k n) (aI++⟨n,x0,true⟩::post):=by
 rw[lP,e9,List.nodup_append,uN]at hn;have old:∀g∈aI++⟨n,x0,false⟩::post,g.n≠n->(I6 z k n).X g.n=some (nR g.l g.b):=λg hg cx=>by
  have e:Nat.beq g.n n=false:=by
   cases hb:Nat.beq g.n n with
   |false=>rfl
   |true=>simp_all
  show(bif Nat.beq g.n n then _ else z.X g.n)=_;rw[e,cond_false];exact h.df g hg
 have h0:=h.df ⟨n,x0,false⟩ (List.mem_append_right _ (dk ..));refine⟨?_,?_,λg hg=>?_⟩
 .show z.eI=_;rw[h.eI];simp only[lP,e9]
 .show z.ng=_;rw[h.ng];simp only[cj,dJ]
 .rcases iK.1 hg with hg|hg
  .simp_all
  .rcases dU.1 hg with rfl|hg
   .show(bif Nat.beq n n then RJ z.X n else z.X n)=_;rw[j4,cond_true,RJ,h0];rfl
   .grind
end
theorem anL:∀(l:List (Int×List cL)) (st),(l.foldl fk st).z.oh=st.z.oh++fh (l.flatMap Prod.snd)/\(l.foldl fk st).z.na=st.z.na+(l.flatMap Prod.snd).length
 |[],st=>by simp[fh]
 |x::l,st=>by have⟨h1,h2⟩:=anL l (fk st x);rw[qz,h1,h2];simp only[fk,vH,Sk,acZ,cj,jE,DX,and_self]
section
variable{X:Nat->Option aO}{xc:Nat}{nx:Int}{l:List cB}{k:Int}
theorem aNQ{z:Ar}{st:S7}{tr:Bool}(h:xV z [] st [])(ha:z.oh=[]/\z.na=0)(hd:mD ⟨nx,l⟩)(hv:iR ⟨nx,l⟩=true)(hi:jI l=[]):ve z ⟨nx,l⟩ tr (0,(jh z l).z):=by
 have e3:e_ z tr l=⟨z,0,[],[]⟩:=by unfold e_;rw[Ll,hi];rfl
 have e7:y7 z tr l=⟨z,[],[]⟩:=by unfold y7;rw[e3];rfl
 have vd:=As hv;have h1:=vd.dT;have h2:=vd.bk;have h3:=AQ l;simp only at h1 h2;refine .inl ⟨⟨⟨h.gr.eI,h.gr.ng⟩,h.cY,h.ret.1,h.fy,ha⟩,⟨hd,λ_=>⟨by simp only;omega,by simp only;omega,λp hp s hs=>(hd.2 p hp).2.2 s hs⟩,λ_=>vd.Jo,?_,?_,?_,?_,?_⟩,?_⟩
 .grind
 .grind
 .grind
 .simp only[e3];exact λ_ _=>eh _
 .grind
 .unfold Ef;rw[aw (by rw[hv];decide),aw (by simp only[e3];decide)];unfold B';rw[e7];rfl
theorem aOl(hd:mD ⟨nx,l⟩)(hv:iR ⟨nx,l⟩=true)(he:(e_ (g_ X xc) false l).e=0):
 ∃z6 bl gs,ve (B' (g_ X xc) false l).z ⟨nx,l⟩ true (0,z6)/\abW z6 ⟨nx,l⟩ k bl gs:=by
 have vd:=As hv;have fW:=vd.bk;have II:=vd.Jo;have IE:=vd.aW;simp only at fW II IE;obtain⟨bl,hb⟩:=auQ (acO hd) fW he;have h4:=aNK (acO hd) fW he;have QF:=hb.n;have aB9:=auP (g_ X xc) false l (λp hp s hs=>(hd.2 p hp).2.2 s hs) he;have⟨a3,i3,IT⟩:=ZU false l (g_ X xc);have DB:=auw _ _ h4.len;have QO:=ahu _ _ h4.len;rw[hb.cG]at DB QO;have W9:=h4.gp;have IG:((e_ (g_ X xc) false l).aW.zip (e_ (g_ X xc) false l).cG).map (·.1)=o6 l:=by rw[List.map_fst_zip (Nat.le_of_eq h4.len),h4.aW];rfl
 have fw:∃st,st=(⟨(e_ (g_ X xc) false l).z,[],[]⟩:S7):=⟨_,rfl⟩;obtain⟨st,fw⟩:=fw;have Dq:zQ 0 st:=by rw[fw,IT];exact⟨rfl,⟨DW,λe h=>(by cases h),DW,λe h=>(by cases h),λe h=>(by cases h),λe h=>(by cases h),λe h=>(by cases h)⟩,⟨rfl,ct _⟩,⟨rfl,ct _⟩,rfl,rfl⟩
 have hg0:qc st.z []:=by rw[fw,IT];exact⟨rfl,rfl,λg hg=>(by cases hg)⟩
 have Dz:st.cm=[]/\st.m=[]/\st.z.lC=[]/\st.z.rc=0/\st.z.oh=[]/\st.z.na=0:=by rw[fw,IT];exact⟨rfl,rfl,rfl,rfl,rfl,rfl⟩
 have cx:∀x∈(e_ (g_ X xc) false l).aW.zip (e_ (g_ X xc) false l).cG,x.2≠[]:=λx hx=>(aB9 x.2 (List.of_mem_zip hx).2).1
 have hu7:y7 (g_ X xc) false l=((e_ (g_ X xc) false l).aW.zip (e_ (g_ X xc) false l).cG).foldl fk st:=by rw[fw];rfl
 have hu5:B' (g_ X xc) false l=jh (y7 (g_ X xc) false l).z l:=rfl;rw[hu5,hu7];generalize (e_ (g_ X xc) false l).aW.zip (e_ (g_ X xc) false l).cG=L at DB QO W9 IG cx;have eV:L.length=(jI l).length:=by have:=congrArg List.length IG;simpa[o6]using this
 have h7:=Xz cx Dq;have⟨g1,g2⟩:=aoj cx Dq hg0 (λg hg=>(by cases hg));rw[rG]at g1 g2;have Bl:=anN L st (by rw[Dz.1,IG];exact IE);rw[Dz.1,rG]at Bl;have hr7:=aA5 L st;have WS:=anL L st;rw[QO,Dz.2.2.2.2.1,Dz.2.2.2.2.2,rG,lx]at WS;have hA7:xV (L.foldl fk st).z L st (L.foldl fk st).m:=⟨⟨by rw[h7.cY,Bl],by rw[h7.cc,Bl]⟩,⟨hr7.1.trans Dz.2.2.1,hr7.2.trans Dz.2.2.2.1⟩,h7.fy,g1,g2⟩;have⟨Qv,b1,b2⟩:=hA7.V9 II;rw[WS.1]at b1;rw[WS.2]at b2;have yD:ve (jh (L.foldl fk st).z l).z ⟨nx,l⟩ true (0,(jh (jh (L.foldl fk st).z l).z l).z):=by
  by_cases hL:L=[]
  .have FF:jI l=[]:=mE (by rw[<-eV,hL];rfl);have rp:bl=[]:=by rw[<-QO,hL];rfl
   rw[rp]at b1 b2;have hm:(L.foldl fk st).m=[]:=by rw[hL];exact Dz.2.1
   rw[hm]at Qv;have aBP:xV (jh (L.foldl fk st).z l).z [] st []:=by have:=Qv;rw[hL]at this⊢;exact this
   exact aNQ aBP ⟨b1,b2⟩ hd hv FF
  .exact aNR Qv hd hv hL IG.symm true
 have⟨Qw,c1,c2⟩:=Qv.V9 II;rw[b1]at c1;rw[b2]at c2;have Bn:=aon L st;have Bo:=(aoo L st).2;have QU:=aop L st;refine⟨_,bl,mX st L,yD,⟨c1,c2,by omega⟩,Qw.gr,QU,by rw[Bn.1];omega,Bn.2.trans DB,aN5 hd hv,λrE l' pJ=>?_⟩;generalize (jh (jh (L.foldl fk st).z l).z l).z=z6 at Qw;generalize (L.foldl fk st).m=m at Qw;clear yD c1 c2 b1 b2 Qv hA7 WS hr7 Bl g1 g2 h7;have W4:ri k l=some l'/\rE=nx:=by
  unfold LB at pJ;split at pJ
  .cases pJ
  .split at pJ;next l2 gM=>cases pJ;exact⟨gM,rfl⟩
   .cases pJ
 obtain⟨W4,rfl⟩:=W4;have heo:=adh W4;have DD:=aNZ hv W4;have apa:=(As DD).Jo;simp only at apa;obtain⟨a,b,i1,i2⟩:=heo.aW;have FN:k∈o6 l:=by rw[i1];exact List.mem_append_right _ (dk ..)
 rw[i1]at IG;obtain⟨La,L2,rfl,k1,k2⟩:=List.map_eq_append_iff.1 IG;obtain⟨x0,Lb,rfl,k3,k4⟩:=List.map_eq_cons_iff.1 k2;have kf:((La++x0::Lb).map (·.1)).Nodup:=by rw[IG,<-i1];exact IE
 have en:o6 l'=(La++Lb).map (·.1):=by rw[i2,lP,k1,k4]
 have jk:=(Vm La (x0::Lb) st).2;rw[mX]at jk;have⟨hAt,d1,d2⟩:=Qw.nb.V9 apa;have ad6:=kf;rw[lP,e9,List.nodup_append,uN]at ad6;have Xd:∀y∈La++Lb,y.1≠k:=λy hy e=>by
  rcases iK.1 hy with hy|hy
  .exact ad6.2.2 _ (rI hy) _ (dk ..) (e.trans k3.symm)
  .exact ad6.2.1.1 (by rw[k3,<-e];exact rI hy)
 have QS:=hAt.gr;rw[jk]at QS Bo QU;have aoS:=Bn.1;have aoT:=Bn.2.trans DB;rw[jk]at aoS aoT;have ae:∀t:Bool,jg (mX st La++⟨((La.foldl fk st).ks x0.2).xc,x0.2,t⟩::mX (fk (La.foldl fk st) x0) Lb)=bl.length:=λt=>by rw[<-aoT,(EV _ _).1,(EV _ _).1];rfl
 refine⟨_,x0.2,_,mX st La,mX (fk (La.foldl fk st) x0) Lb,m,aNP Qw.nb (aEW hd heo) DD k3 kf en,⟨d2,d1⟩,aAK QS Bo,λg hg=>QU g ?_,?_,ae true,?_,?_,hAt.fy,?_⟩
 .simp only[iK,dU]at hg⊢;rcases hg with hg|hg
  .exact .inl hg
  .exact .inr (.inr hg)
 .simp only[cj,dJ]at aoS;rw[cj,dJ]at eV;omega
 .rw[<-QO];exact aok k3 W9 Xd
 .obtain⟨b0,r,e,_⟩:=W9 x0 (List.mem_append_right _ (dk ..));rw[e,dJ];omega
 .have WZ:q_ [(k,true)] false l=true:=ax6 FN (by simp[j9,lk]);refine .inr ⟨[],[(k,true)],⟨.inr (λe=>by cases e),hd,rfl,λ_=>⟨?_,II⟩,λ_ h=>?_⟩,?_⟩
  .have h3:=AQ l;have h1:=vd.dT;simp only at h1;exact⟨by simp only;omega,by simp only;omega,λp hp s hs=>(hd.2 p hp).2.2 s hs⟩
  .rw[show q_ [(k,true)] false (⟨rE,l⟩:Db).dT=true from WZ]at h;cases h
  .rw[GS,aw (by rw[hv];decide),aP WZ]
theorem aDN{a:Int}(ha:0<=a/\a<256)(hd:mD ⟨nx,l⟩):∃X' Cf,bC Z 4 [.aj (iU ⟨nx,l⟩),J k,.bD .u8 a] (cC X xc [] 0) (.ai true) (cC X' Cf [] 0):=by
 refine aDS ha (aNG hd) λh=>?_
 unfold Ef at h⊢;by_cases hv:iR ⟨nx,l⟩=false
 .grind
 .rw[aw hv]at h⊢;by_cases he:(e_ (g_ X xc) false l).e=0
  .rw[aw (λh=>h he)];exact aOl hd (by simpa using hv) he
  .grind
end
end
end Go.Cl
