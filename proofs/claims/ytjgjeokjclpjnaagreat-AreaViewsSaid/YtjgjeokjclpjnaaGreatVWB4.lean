/- Part of a proof of AreaViews. -/
import Derived.Test.YtjgjeokjclpjnaaGreatVWB3
set_option linter.all false
set_option linter.unusedSectionVars false
set_option maxRecDepth 100000
namespace Go.Cl
open Go.Ev Go.Proofs
noncomputable section
theorem arj:∃n,n=1000000:=⟨_,rfl⟩
def NN:Nat:=arj.choose
theorem ajX:NN=1000000:=arj.choose_spec
def Kr:Ev.aX:=T0 NN
def apz(x n:Int):Int:=if wI (n+1)>x then wI (n+1)else x
def s9(x:Int)(l:LI):Int:=l.foldl apz x
def afX:bT (ax×ax)where
 aI w A H:=A=[.bK 0 0 2 2 4 true]/\H=aE [(0,.ah (bn w.1++bn w.2) 49)] 1/\bA w.1/\bA w.2
 v w:=J (s9 (s9 0 (h_ w.1)) (h_ w.2))
 aD w:=aE [(0,.ah (eU w.1++eU w.2) 49)] 1
theorem axB:afX.bM:=by rintro⟨a,b⟩ ⟨a',b'⟩ A H ⟨_,h1,_⟩ ⟨_,h2,_⟩;rw[h1]at h2;have:=congrArg (λH=>AH.aR H 0) h2;simp only[eg,cH,if_true,lN,aO.ah.injEq,and_true]at this;rw[ET (c:=(a,b)) (c':=(a',b')) this]
def K40:Ev.aX:=bx 49 (bE afX axB bU) Kr
def aob:LV->AH->Option Sp
 |[.aM,.bD .i64 n],H=>some (.A1 ((H=ay/\0<=n/\n<=4000000),.ad 0 0 5,aE [(0,.au [] 106)] 1))
 |_,_=>none
def O_:Ev.aX:=bx 118 aob K40
def qe(l:List (List bN)):aO:=.au (jW l) 84
def Fp(l:List bN):aO:=.au (dR l) 106
def al5:bT (List (List bN))where
 aI l A H:=A=[.ad 0 l.length 1]/\H=aE [(0,qe l)] 1/\(∀x∈l,x≠[])/\l.flatten.length<=4000000/\l.length<=4000000
 v l:=.ad 1 l.flatten.length 5
 aD l:=aE [(0,qe l),(1,Fp l.flatten)] 2
theorem azf:al5.bM:=by rintro l l' A H ⟨_,h1,_⟩ ⟨_,h2,_⟩;rw[h1]at h2;have:=congrArg (λH=>AH.aR H 0) h2;simp only[eg,cH,if_true,lN,qe,aO.au.injEq,and_true]at this;rw[acW this]
def HA:Ev.aX:=bx 83 (bE al5 azf bU) O_
def RB:Nat->LN:=dY [(999995,[2000004,2000006]),(999998,[0,4,5,8])]
def MS:Nat->LN:=dY [(999995,[2000006]),(999998,[0,4])]
def RC:Nat->LN:=dY [(999995,[2000007]),(999998,[9])]
def aqI:Nat->LN:=dY [(8,[9,45,46,47])]
def afh:Nat->LN:=dY [(3,[0,3,9,10,11]),(11,[6,25,26,27])]
def Rz:Nat->LN:=dY [(3,[1000000]),(6,[3,8,9,10,15,16,17])]
abbrev aOP h0 h1 h2 h3 h4:=([(3,J h0),(8,iY 0 2 4),(9,J 2),(10,J h1),(15,.aq (bc h2) h3 1),(16,J (a_ h3)),(17,h4)]:List (Nat×AV))
theorem aLA{k n s cs len k' n' s' cs' len' L Q}:
 fA Kr Rz L Q 49 [iY 0 2 4] (Ck k n s cs len k' n' s' cs' len')=qL k n s cs len (λw=>L (aJ (aOP 0 0 (h_ w) (h_ w).length (J 0))) (Ck k n s cs len k' n' s' cs' len') (aB Z 49 1)):=by kernel_rfl
theorem aLB{x l i k n s cs len k' n' s' cs' len' L Q}:
 pY Z Kr Rz L Q 1000 49 1 (aJ [(3,J x),(8,.bK 0 0 2 2 4 true),(9,J 2),(10,J 0),(15,.aq (bc l) l.length 1),(16,J (a_ l.length)),(17,J i)]) (aB Z 49 1) (aE [(0,.ah [J k,J n,.ao s,.aq cs len 4,J k',J n',.ao s',.aq cs' len' 4] 49)] 1)=(
 aZ (decide (i<a_ l.length)) (∃cv:Nat,i=(cv:Int)/\cv<l.length/\(∃bm,(((bc l).drop (cv*1)).take 1:List AV)=[J bm]/\L (aJ [(3,J (if wI (bm+1)>x then wI (bm+1)else x)),(8,.bK 0 0 2 2 4 true),(9,J 2),(10,J 0),(15,.aq (bc l) l.length 1),(16,J (a_ l.length)),(17,J (wI (i+1)))]) (aE [(0,.ah [J k,J n,.ao s,.aq cs len 4,J k',J n',.ao s',.aq cs' len' 4] 49)] 1) (aB Z 49 1))) (∃w,(([.aj [J k',J n',.ao s',.aq cs' len' 4]]:LV)=[.aj (bn w)]/\aE [] 0=ay/\bA w)/\L (aJ [(3,J x),(8,.bK 0 0 2 2 4 true),(9,J 2),(10,J 1),(15,.aq (bc (h_ w)) (h_ w).length 1),(16,J (a_ (h_ w).length)),(17,J 0)]) (aE [(0,.ah [J k,J n,.ao s,.aq cs len 4,J k',J n',.ao s',.aq cs' len' 4] 49)] 1) (aB Z 49 1))):=by kernel_rfl
theorem aLC{x l i k n s cs len k' n' s' cs' len' L Q}:
 pY Z Kr Rz L Q 1000 49 1 (aJ [(3,J x),(8,.bK 0 0 2 2 4 true),(9,J 2),(10,J 1),(15,.aq (bc l) l.length 1),(16,J (a_ l.length)),(17,J i)]) (aB Z 49 1) (aE [(0,.ah [J k,J n,.ao s,.aq cs len 4,J k',J n',.ao s',.aq cs' len' 4] 49)] 1)=(
 aZ (decide (i<a_ l.length)) (∃cv:Nat,i=(cv:Int)/\cv<l.length/\(∃bm,(((bc l).drop (cv*1)).take 1:List AV)=[J bm]/\L (aJ [(3,J (if wI (bm+1)>x then wI (bm+1)else x)),(8,.bK 0 0 2 2 4 true),(9,J 2),(10,J 1),(15,.aq (bc l) l.length 1),(16,J (a_ l.length)),(17,J (wI (i+1)))]) (aE [(0,.ah [J k,J n,.ao s,.aq cs len 4,J k',J n',.ao s',.aq cs' len' 4] 49)] 1) (aB Z 49 1))) (Q (J x) (aE [(0,.ah [J k,J n,.ao s,.aq cs len 4,J k',J n',.ao s',.aq cs' len' 4] 49)] 1))):=by kernel_rfl
abbrev Ou h0 h1 h2:=([.ao h0,J h1,J 0,h2,.aM]:LV)
theorem atx{n L Q}:
 fL K40 L Q 118 [.aM,J n]=aZ (decide (n<0)) (Q (.dI (.ep 9 (.ao [99,97,110,110,111,116,32,98,101,32,110,101,103,97,116,105,118,101]))) ay) (aZ (decide (wI (n-0)>0)) (∃i:Nat,wI (n-0)=(i:Int)/\i<=4194304/\(i=0->Q .aM ay)/\(1<=i->(i<=4194304/\Hm (lA (Go.Ev.AV.dO (.aj (Ou [] 0 .aM))) i))/\(∃cv:Nat,0=(cv:Int)/\(0<=cv/\cv<=i)/\Q (.ad 0 (cv-0) 5) (oK (lA (Ou [] 0 .aM) i) 106)))) (Q .aM ay)):=by kernel_rfl
abbrev avw h0 h1 h2 h3 h4 h5 h6 h7 h8:=aJ [(h0,h1),(3,J h2),(h3,.ad h4 h5 1),(h6,J (a_ h5)),(h7,h8)]
abbrev ah4(h0:List (List bN)) h1 h2:=avw 0 (.ad 0 h0.length 1) h1 9 0 h0.length 10 11 h2
theorem aMz{l L Q}:
 fA O_ afh L Q 83 [.ad 0 l.length 1] (iA (qe l))=L (ah4 l 0 (J 0)) (iA (qe l)) (aB Z 83 0):=by kernel_rfl
abbrev aab h0(h1:List (List bN)) h2:=([(6,.ad 1 h0 5),(25,.ad 0 h1.length 1),(26,J (a_ h1.length)),(27,h2)]:List (Nat×AV))
theorem aMA{l x i L Q}:
 iL O_ afh L Q 83 1 (ah4 l x (J i)) 0 (iA (qe l))=jQ i l.length (λcv=>∃cs,∃len,oe 84 (jW l) (cv*1) (.aq cs len 5)/\He (decide (wI (x+a_ len)<0)) Q (.dI (.ep 9 (.ao [108,101,110,32,111,117,116,32,111,102,32,114,97,110,103,101]))) (iA (qe l)) L (ah4 l (wI (x+a_ len)) (cu i)) 83) (dc ((0:Int)<=x/\x<=4000000)/\L (aJ (aab 0 l (J 0))) (j_ (qe l) (.au [] 106)) (aB Z 83 1)):=by kernel_rfl
theorem aMB{l fs i L Q}:
 iL O_ afh L Q 83 1 (aJ (aab fs.length l (J i))) 1 (j_ (qe l) (Fp fs))=jQ i l.length (λcv=>∃cs,∃len,oe 84 (jW l) (cv*1) (.aq cs len 5)/\NR len fs.length (L (aJ (aab fs.length l (cu i))) (j_ (qe l) (Fp fs)) (aB Z 83 1)) ((dR fs).length=fs.length*5) (Hm cs) (L (aJ (aab (fs.length+len) l (cu i))) (j_ (qe l) (.au (dR fs++cs) 106)) (aB Z 83 1))) (Q (.ad 1 fs.length 5) (j_ (qe l) (Fp fs))):=by kernel_rfl
theorem aLL{s ez ar an ds m k n nm cs len L Q}:
 fA HA RB L Q 51 [.aa 0 0,.aj (AB ez ar an ds m .aM),cN k n nm cs len] (hT s)=qL k n nm cs len (λw=>aZ (Lh w) (∃aH,uY (hT s=hT aH) (dc True/\im .aM/\L (J8 0 0 4 2 5 (.aa 3 0) 8 (J (bQ aH.nv))) (aaH aH.nx (.ah (AB ez ar an ds m (.ad 4 1 6)) 106) (dx k n nm cs len) (.ah (Hg 2 (bQ aH.nv)) 146)) (dg Z RB 51 0))) (Ay k n nm cs len 0 s NN (λaH=>L (za 0 4 (.aa 2 0) 5 (.aa 3 0)) (JY (fp aH.s2 4) (.bg []) (.ah (AB ez ar an ds m (.ad 5 aH.l.length 6)) 106) (dx k n nm cs len) (fc aH.s2) (jC aH.l)) (dg Z RB 51 1)))):=by kernel_rfl
theorem aLI{s ez ar an ds m gs k n nm cs len c L Q}:
 AF HA MS L Q 51 2 (J8 0 0 4 2 5 (.aa 3 0) 8 (J c)) RB (aaH s (.ah (AB ez ar an ds m (.ad 4 gs.length 6)) 106) (dx k n nm cs len) (jC gs))=Ay k n nm cs len c s NN (λw=>im (.ad 4 gs.length 6)/\JZ w gs.length (L Tf (Kc w.s2 (AB ez ar an ds m (.ad 4 gs.length 6)) 106 (jC gs)) (dg Z MS 51 0)) (bX gs).length (L Tf (Kc w.s2 (AB ez ar an ds m (.ad 4 (gs.length+w.l.length) 6)) 106 (.au (bX gs++bX w.l) 146)) (dg Z MS 51 0))):=by kernel_rfl
theorem aLJ{s ez ar an ds m gs ng L Q}:
 AF HA RC L Q 51 2 Tf MS (Kc s (rS ez ar an ds m gs ng) 106 (.bg []))=(∃w,(([.ad 0 s.an.length 1]:LV)=[.ad 0 w.length 1]/\iA (fc s)=iA (qe w)/\(∀x,x∈w->(x:List bN)=[]->False)/\(List.flatten w).length<=4000000/\w.length<=4000000)/\im (.aj (rS ez ar an ds m gs ng))/\(dR (List.flatten w)).length=(List.flatten w).length*5/\NR (List.flatten w).length 1 (L (aJ [(9,iY 2 1 5)]) (Tv s (.ah (rS ez ar an ds m gs ng) 106) (qe w)) (dg Z RC 51 0)) (5<=5) (Hm (dR (List.flatten w))/\Hh/\true=true/\1<=1) (L (aJ [(9,.ad 2 (1+(List.flatten w).length) 5)]) (Tv s (.au (.ao ez::J ar::J an::.aq ds m 4::.aq gs ng 6::List.append._f [] PUnit.unit (dR (List.flatten w))) 106) (qe w)) (dg Z RC 51 0))):=by kernel_rfl
abbrev aih h0 h1 h2:=Ob 9 (.aq h0 h1 5) 45 h0 h1 5 46 47 h2
theorem aLK{s fs nf L Q}:
 AF HA aqI L Q 51 2 (aJ [(9,.aq fs nf 5)]) RC (aaC s (fc s))=L (aJ (aih fs nf (J 0))) (oX s) (aB Z 51 0):=by kernel_rfl
abbrev Z' h0 h1(h2:LV)(h3:LN->Int->Int->LV->Nat->LV->Nat->Prop) h4:=jQ h0 h1 (λb0=>∃b1:LN,∃b2:Int,∃b3:Int,∃b4:LV,∃b5:Nat,∃b6:LV,∃b7:Nat,((h2.drop (b0*5)).take 5:LV)=rS b1 b2 b3 b4 b5 b6 b7/\h3 b1 b2 b3 b4 b5 b6 b7) h4
theorem aLM{s fs nf i L Q}:
 ju HA aqI L Q 51 2 (aih fs nf (J i)) (aaC s (fc s))=Z' i nf fs (λcX=>λn=>λbm=>λcs=>λlen=>λcA=>λb_=>dc (XC (rS cX n bm cs len cA b_))/\He (!HU kO (rS cX n bm cs len cA b_)) Q (J3 2) (oX s) L (aJ (aih fs nf (cu i))) 51) (Q (.aL [.aq fs nf 5,J 0]) (oX s)):=by kernel_rfl
theorem abm:aF Z Kr:=axg NN
theorem at3(R:Int->Prop){v H1 l k n k' n' s s' cs cs' len len' j}(hl:l.length<4000000)(aCS:∀x i,pY Z Kr Rz (ba Z 49 28 1 v H1) (fD v H1) 1000 49 1 (aJ [(3,J x),(8,.bK 0 0 2 2 4 true),(9,J 2),(10,J j),(15,.aq (bc l) l.length 1),(16,J (a_ l.length)),(17,J i)]) (aB Z 49 1) (aE [(0,.ah [J k,J n,.ao s,.aq cs len 4,J k',J n',.ao s',.aq cs' len' 4] 49)] 1)=
 aZ (decide (i<a_ l.length)) (∃cv:Nat,i=(cv:Int)/\cv<l.length/\(∃bm,(((bc l).drop (cv*1)).take 1:List AV)=[J bm]/\ba Z 49 28 1 v H1 (aJ [(3,J (apz x bm)),(8,.bK 0 0 2 2 4 true),(9,J 2),(10,J j),(15,.aq (bc l) l.length 1),(16,J (a_ l.length)),(17,J (wI (i+1)))]) (aE [(0,.ah [J k,J n,.ao s,.aq cs len 4,J k',J n',.ao s',.aq cs' len' 4] 49)] 1) (aB Z 49 1))) (R x)) (x0) (hR:R (s9 x0 l)):∀i,i<=l.length->ba Z 49 28 1 v H1 (aJ [(3,J (s9 x0 (l.take i))),(8,.bK 0 0 2 2 4 true),(9,J 2),(10,J j),(15,.aq (bc l) l.length 1),(16,J (a_ l.length)),(17,J (i:Int))]) (aE [(0,.ah [J k,J n,.ao s,.aq cs len 4,J k',J n',.ao s',.aq cs' len' 4] 49)] 1) (aB Z 49 1):=by
 refine dj (λi=>l.length-i) _ _ _ _ ?_;rintro i hi ih;refine hD abm Rz ?_;rw[aCS];refine al (λae=>?_) λaY=>?_
 .have ae:i<l.length:=by simpa using ae
  refine⟨i,rfl,ae,l[i],asS ae,?_⟩;rw[cb];have:=ih (i+1) (by omega) (by omega);rw[qB,gg ae,s9,Gy]at this;exact this
 .have aY:l.length<=i:=by simpa using aY
  have:i=l.length:=by omega
  subst this;rw[pX];exact hR
theorem abo:aF Z K40:=by
 refine bY abm ?_;rintro⟨⟨k,n,s,l⟩,⟨k',n',s',l'⟩⟩ args H ⟨rfl,rfl,h1,h2⟩;have b1:=SX (.mk k n s l);have b2:=SX (.mk k' n' s' l');show bC Z 49 _ _ (J (s9 (s9 0 (h_ (.mk k n s l))) (h_ (.mk k' n' s' l')))) (aE [(0,.ah (eU (.mk k n s l)++eU (.mk k' n' s' l')) 49)] 1);refine eE 28 abm aLA ?_;dsimp only[qL];refine⟨.mk k n s l,⟨rfl,rfl,h1⟩,?_⟩;generalize xd:h_ (.mk k n s l)=u1 at b1⊢;have ke:u1.length<4000000:=by omega
 refine at3 (λx=>∃w:ax,(([.aj [J k',J n',.ao s',.aq (az l') l'.length 4]]:LV)=[.aj (bn w)]/\aE [] 0=ay/\bA w)/\ba Z 49 28 1 (J (s9 (s9 0 u1) (h_ (.mk k' n' s' l')))) (aE [(0,.ah (eU (.mk k n s l)++eU (.mk k' n' s' l')) 49)] 1) (aJ [(3,J x),(8,.bK 0 0 2 2 4 true),(9,J 2),(10,J 1),(15,.aq (bc (h_ w)) (h_ w).length 1),(16,J (a_ (h_ w).length)),(17,J 0)]) (aE [(0,.ah [J k,J n,.ao s,.aq (az l) l.length 4,J k',J n',.ao s',.aq (az l') l'.length 4] 49)] 1) (aB Z 49 1)) ke (λx i=> @aLB x u1 i k n s (az l) l.length k' n' s' (az l') l'.length _ _) 0 ?_ 0 (eh _);refine⟨.mk k' n' s' l',⟨rfl,rfl,h2⟩,?_⟩;generalize Xr:h_ (.mk k' n' s' l')=u2 at b2⊢;have ie:u2.length<4000000:=by omega
 exact at3 (λx=>fD (J (s9 (s9 0 u1) u2)) (aE [(0,.ah (eU (.mk k n s l)++eU (.mk k' n' s' l')) 49)] 1) (J x) (aE [(0,.ah [J k,J n,.ao s,.aq (az l) l.length 4,J k',J n',.ao s',.aq (az l') l'.length 4] 49)] 1)) ie (λx i=> @aLC x u2 i k n s (az l) l.length k' n' s' (az l') l'.length _ _) (s9 0 u1) aA 0 (eh _)
theorem Uo:aF Z O_:=by
 refine wA abo λargs H sp p v H' hs hd hp=>?_
 unfold aob at hs;split at hs<;>cases hs;cases hd;rename_i n;obtain⟨rfl,h0,h4⟩:=hp;obtain⟨i,rfl⟩:=Int.eq_ofNat_of_zero_le h0;have hw:wI ((i:Int)-0)=(i:Int):=by rw[Int.sub_zero];exact cb
 by_cases hi:i=0
 .subst hi;refine ade (l:=[]) ?_ rfl (eh _);refine eE 27 abo atx ?_;exact al (λh=>ab (cP h)) λ_=>al (λh=>absurd (cP h) (by rw[hw];decide)) λ_=>aA
 .have hz:∀m:Nat,(lA [AV.ao [],J 0,J 0,.aM,.aM] m).all AV.dH=true/\(lA [AV.ao [],J 0,J 0,.aM,.aM] m).all f_=true:=by
   intro m;induction m with
   |zero=>exact aA
   |succ m ih=>simp only[lA,sK,ih.1,ih.2,DU];exact aA
  refine Ib (g:=0) (l:=[(0,.au (lA [.ao [],J 0,J 0,.aM,.aM] i) 106)]) (v:=.ad 0 (0-0) 5) ?_ rfl (λI e o h=>ajY 0 h) rfl (eh _);refine eE 27 abo atx ?_;rw[hw];exact al (λh=>ab (cP h)) λ_=>al (λ_=>⟨i,rfl,by omega,λh=>absurd h hi,λ_=>⟨⟨by omega,hz i⟩,0,rfl,⟨ct _,eh _⟩,rfl,rfl⟩⟩) λh=>ab (c9 h)
theorem aFn(cs off):fi Z 84 cs off=cs[off]? :=by kernel_rfl
theorem ak8{l}(hl:∀x∈l,x≠[]){i}(h:i<l.length):fi Z 84 (jW l) (i*1)=some (.aq (dR l[i]) l[i].length 5):=by rw[aFn,n7,jW,sJ,gg h,uL,am0 (hl _ (k7 h))]
theorem anD{l:List (List bN)}{i}(h:i<l.length):(l.take (i+1)).flatten=(l.take i).flatten++l[i]:=by rw[qB,gg h,qes];simp
theorem anC{l:List (List bN)}(i):(l.take i).flatten.length<=l.flatten.length:=by
 conv=>{rhs;rw[<-uK i l,qes,cj]}
 omega
theorem aMy{l}(hl:∀x∈l,x≠[])(hn:l.flatten.length<=4000000)(FQ:l.length<=4000000):
 ∀i,i<=l.length->ba Z 83 36 1 (.ad 1 l.flatten.length 5) (aE [(0,qe l),(1,Fp l.flatten)] 2) (aJ [(6,.ad 1 (l.take i).flatten.length 5),(25,.ad 0 l.length 1),(26,J (a_ l.length)),(27,J (i:Int))]) (aE [(0,qe l),(1,Fp (l.take i).flatten)] 2) (aB Z 83 1):=by
 refine dj (λi=>l.length-i) _ _ _ _ ?_;rintro i hi ih;refine hE Uo aMB ?_;delta cu;refine al (λae=>?_) λaY=>?_
 .have ae:i<l.length:=by simpa using ae
  have h1:=ih (i+1) (by omega) (by omega);have h2:=anC (l:=l) (i+1);rw[anD ae]at h1 h2;rw[cj]at h2;refine⟨i,rfl,ae,dR l[i],l[i].length,ak8 hl ae,λh0=>absurd (mE h0) (hl _ (k7 ae)),λ_=>⟨⟨Lo _,by omega,amM _⟩,?_⟩⟩;rw[cb,<-ac3,<-cj];exact h1
 .have aY:l.length<=i:=by simpa using aY
  rw[BN aY];exact aA
theorem aMx{l}(hl:∀x∈l,x≠[])(hn:l.flatten.length<=4000000)(FQ:l.length<=4000000):
 ∀i,i<=l.length->ba Z 83 36 1 (.ad 1 l.flatten.length 5) (aE [(0,qe l),(1,Fp l.flatten)] 2) (aJ [(0,.ad 0 l.length 1),(3,J (((l.take i).flatten.length:Nat):Int)),(9,.ad 0 l.length 1),(10,J (a_ l.length)),(11,J (i:Int))]) (aE [(0,qe l)] 1) (aB Z 83 0):=by
 refine dj (λi=>l.length-i) _ _ _ _ ?_;rintro i hi ih;refine hE Uo aMA ?_;delta cu;refine al (λae=>?_) λaY=>?_
 .have ae:i<l.length:=by simpa using ae
  have h1:=ih (i+1) (by omega) (by omega);have h2:=anC (l:=l) (i+1);rw[anD ae]at h1 h2;rw[cj]at h1 h2;refine⟨i,rfl,ae,dR l[i],l[i].length,ak8 hl ae,?_⟩;rw[show a_ l[i].length=((l[i].length:Nat):Int)from rfl,cb,cb];refine al (λh=>ab (cP h)) λ_=>?_
  rw[Int.natCast_add]at h1;exact h1
 .have aY:l.length<=i:=by simpa using aY
  rw[BN aY];exact⟨⟨rfl,by omega,by omega⟩,aMy hl hn FQ 0 (eh _)⟩
theorem Kt:aF Z HA:=by refine bY Uo ?_;rintro l args H ⟨rfl,rfl,h1,h2,h3⟩;refine eE 36 Uo aMz ?_;exact aMx h1 h2 h3 0 (eh _)
def mu(s:dq)(g:ax):dq×gy:=
 if Lh g then((gR NN s.nx g (bQ s.nv)).1,oG 2 (bQ s.nv)::(gR NN s.nx g (bQ s.nv)).2)else gR NN s g 0
def Df(s:dq)(p:gZ)(args:dF)(g:ax):List bN:=⟨p,args,(mu s g).2⟩::(mu s g).1.an.flatten
def Cb(l:List bN):AV:=if l.all kO then .aL [.aq (dR l) l.length 5,J 0]else .aL [.aM,J 2]
theorem amL(f):(iE f).length=5:=rfl
theorem VL:∀{l i} (h:i<l.length),((dR l).drop (i*5)).take 5=iE l[i]
 |[],i,h=>by simp at h
 |t0::l,0,h=>by simp;exact xA (amL t0)
 |t0::l,i+1,h=>by
  have hl:i<l.length:=by simpa using h
  have:=VL hl;simp only[dR,DS];rw[<-this];have e:(i+1)*5=(iE t0).length+i*5:=by rw[amL];omega
  rw[e,Ni]
theorem aF6{s l}(ho:∀f∈l,km f)(hl:l.length<=4000000):∀i:Nat,i<=l.length->(∀f∈l.take i,kO f=true)->ba Z 51 56 2 (Cb l) (oX s) (aJ [(9,.aq (dR l) l.length 5),(45,.aq (dR l) l.length 5),(46,J (a_ l.length)),(47,J (i:Int))]) (oX s) (aB Z 51 0):=by
 have tL:=dj (ds:=[]) (P:=Z) (f:=51) (nt:=56) (m0:=2) (v:=Cb l) (H1:=oX s) (λi:Nat=>l.length-i) (λi:Nat=>aJ [(9,.aq (dR l) l.length 5),(45,.aq (dR l) l.length 5),(46,J (a_ l.length)),(47,J (i:Int))]) (λ_=>oX s) (aB Z 51 0) (λi=>i<=l.length/\∀f∈l.take i,kO f=true) ?_
 .exact λi h1 h2=>tL i ⟨h1,h2⟩
 rintro i ⟨hi,hv⟩ ih;refine hE Kt aLM ?_;delta rS AB cu;refine al (λae=>?_) λaY=>?_
 .have ae:i<l.length:=by simpa using ae
  have bP:=VL ae;have vE:=ho _ (k7 ae);have fX:=k7 ae;generalize hg:l[i]=f at bP vE fX;have⟨⟨nm,ar,an⟩,ts,gs⟩:=f;refine⟨i,rfl,ae,nm,ar,an,az ts,ts.length,bX gs,gs.length,bP,⟨rfl,⟨_,rfl,vE⟩⟩,?_⟩;rw[show([.ao nm,J ar,J an,.aq (az ts) ts.length 4,.aq (bX gs) gs.length 6]:LV)=iE ⟨⟨nm,ar,an⟩,ts,gs⟩from rfl,Vx];refine al (λh=>?_) λh=>?_
  .have h:kO ⟨⟨nm,ar,an⟩,ts,gs⟩=false:=by simpa using h
   have:Cb l=.aL [.aM,J 2]:=by rw[Cb,aw];intro ha;rw[oC]at ha;rw[ha _ fX]at h;cases h
   rw[this];exact aA
  .have h:kO ⟨⟨nm,ar,an⟩,ts,gs⟩=true:=by simpa using h
   rw[cb];refine ih (i+1) ⟨by omega,λf hf=>?_⟩ (by omega);rw[qB,gg ae,hg]at hf;rcases iK.1 hf with hf|hf
   .exact hv f hf
   .simp at hf;subst hf;exact h
 .have aY:l.length<=i:=by simpa using aY
  rw[BN aY]at hv;have:Cb l=.aL [.aq (dR l) l.length 5,J 0]:=by rw[Cb,aP (oC.2 hv)]
  rw[this];exact aA
theorem at7{s l}(ho:∀f∈l,km f)(hl:l.length<=4000000):ba Z 51 56 2 (Cb l) (oX s) (aJ [(9,.ad 2 l.length 5)]) (aE [(0,fp s 3),(1,.bg []),(2,Fp l),(3,fc s)] 4) (dg Z RC 51 0):=by
 have e:fO 2 (dR l) (.ad 2 l.length 5)=.aq (dR l) l.length 5:=by simp[fO,Lo]
 refine Mk (g:=2) ?_ rfl;simp only[Ft];rw[e];refine Bm (mG:=[]) (ls:=[9]) (ps:=[(0,0),(1,1),(3,2)]) (H2:=aE [(0,fp s 2),(1,.bg []),(2,fc s)] 3) (t:=aJ [(9,.aq (dR l) l.length 5)]) ?_;refine hE Kt aLK ?_;exact aF6 ho hl 0 (eh _) (λf hf=>by simp at hf)
theorem aLN{s p args gs}(cx:∀x∈s.an,x≠[])(ho:∀f∈⟨p,args,gs⟩::s.an.flatten,km f)(hl:s.an.flatten.length+1<=4000000)(gM:s.an.length<=4000000):
 ba Z 51 56 2 (Cb (⟨p,args,gs⟩::s.an.flatten)) (oX s) (aJ [(0,.aa 0 0),(4,.aa 2 0)]) (aE [(0,fp s 3),(1,.bg []),(2,.ah [.ao p.eQ,J p.ar,J p.an,.aq (az args) args.length 4,.ad 4 gs.length 6] 106),(3,fc s),(4,jC gs)] 5) (dg Z MS 51 0):=by
 refine Mk (g:=4) ?_ rfl;refine qk (H':=aE [(0,fp s 3),(1,.bg []),(2,.ah [.ao p.eQ,J p.ar,J p.an,.aq (az args) args.length 4,oS gs] 106),(3,fc s),(4,.bg [])] 5) ?_ (by rw[<-Qd gs];exact⟨ct _,λI bs w _ hw=>⟨I,hw,⟨jG.CA _ _,.of rfl rfl⟩,rfl⟩⟩);refine hE Kt aLJ ?_;refine⟨s.an,⟨rfl,rfl,λx hx h=>cx x hx h,by omega,gM⟩,rfl,Lo _,λh0=>⟨by omega,?_⟩,λh1=>⟨⟨by omega,by omega,amM _,aA,rfl,by omega⟩,?_⟩⟩
 .have:=mE h0;rw[this]at ho⊢;exact zG (g:=2) (at7 ho (by simp)) rfl (λI e o h=>r7 rfl h) rfl
 .have h2:=at7 (s:=s) ho (by simp only[dJ];omega);rw[show(⟨p,args,gs⟩::s.an.flatten:List bN).length=1+s.an.flatten.length by simp;omega]at h2;exact h2
def Eh(l:List bN):List bN×Int:=if l.all kO then(l,0)else([],2)
structure Ww where
 s:dq
 p:gZ
 Cx:dF
 g:ax
 r:List bN
 e:Int
 s2:dq
def whX:bT Ww where
 aI w A H:=A=[.aa 0 0,.aj [.ao w.p.eQ,J w.p.ar,J w.p.an,.aq (az w.Cx) w.Cx.length 4,.aM],.aj (bn w.g)]/\H=hT w.s/\jo NN 3000000 w.s w.g/\
  (∀x∈(mu w.s w.g).1.an,x≠[])/\(∀f∈Df w.s w.p w.Cx w.g,km f)/\(Df w.s w.p w.Cx w.g).length<=4000000/\Eh (Df w.s w.p w.Cx w.g)=(w.r,w.e)/\(mu w.s w.g).1=w.s2
 v w:=.aL [.aq (dR w.r) w.r.length 5,J w.e]
 aD w:=oX w.s2
theorem aOr:whX.bM:=by rintro⟨s,⟨nm,ar,an⟩,ts,g,r,e,s2⟩ ⟨s',⟨pR,ar',acf⟩,oF,g',r',e',Sy⟩ A H ⟨h1,h2,_,_,_,_,q1,q2⟩ ⟨h3,h4,_,_,_,_,q3,q4⟩;rw[h1]at h3;rw[h2]at h4;simp at h3;obtain⟨⟨rfl,rfl,rfl,e1,e2⟩,e3⟩:=h3;have e4:=Ma h4;have e5:=kT e3;have e6:=vn e2 e1;subst e4 e5 e6;rw[q1]at q3;cases q3;rw[q2]at q4;subst q4;rfl
def O':Ev.aX:=bx 51 (bE whX aOr bU) HA
theorem aOs{s s2 A l r e}(hr:Eh l=(r,e))(h:bC Z 51 A (hT s) (Cb l) (oX s2)):bC Z 51 A (hT s) (.aL [.aq (dR r) r.length 5,J e]) (oX s2):=by
 unfold Eh at hr;unfold Cb at h;split at hr;next hv=>rw[aP hv]at h;cases hr;exact h
 next hv=>rw[aw hv]at h;cases hr;exact sj h (Wk.B0 (.tQ 5 (.mn _))) (by show(2:Nat)<=3;omega)
theorem aBb{N M s g}(h:jo N M s g):jo N M s.nx g:=h
theorem Pa:aF Z O':=by
 refine bY Kt ?_;rintro⟨s,p,ts,g,r,e,s2⟩ args H ⟨rfl,rfl,hg,cx,ho,hl,rA,l5⟩;simp only at hg cx ho hl rA l5;subst l5;refine aOs rA ?_;simp only[Df]at ho hl⊢;have hb:=tp NN;have gM:(mu s g).1.an.length<=4000000:=by
  have h1:=hg.2.2.2.1;unfold mu;split
  .have:=hb s.nx g (bQ s.nv) hg.2.1;simp only[show s.nx.an=s.an from rfl]at this;dsimp only;omega
  .have:=hb s g 0 hg.2.1;omega
 have h6:=aLN cx ho hl gM;have⟨k,n,nm,l⟩:=g;refine eE 56 Kt aLL ?_;refine⟨.mk k n nm l,⟨rfl,rfl,hg.1⟩,al (λhc=>?_) λhc=>?_⟩
 .have he:mu s (.mk k n nm l)=((gR NN s.nx (.mk k n nm l) (bQ s.nv)).1,oG 2 (bQ s.nv)::(gR NN s.nx (.mk k n nm l) (bQ s.nv)).2):=by rw[mu,aP hc]
  rw[he]at h6;have fo:=hb s.nx (.mk k n nm l) (bQ s.nv) hg.2.1;rw[he];generalize hr:gR NN s.nx (.mk k n nm l) (bQ s.nv)=r at h6 fo⊢;have⟨s2,gl⟩:=r;simp only at h6 fo;have h9:=hg.2.2.1;refine⟨s,aA,da,rfl,?_⟩;refine zG (g:=4) (new:=jC [oG 2 (bQ s.nv)]) ?_ rfl (λI e o h=>r7 rfl h) rfl;refine hE Kt aLI ?_;refine⟨⟨s.nx,.mk k n nm l,bQ s.nv,s2,gl⟩,⟨rfl,rfl,aBb hg,hr⟩,rfl,tj _,λh0=>⟨by simp,?_⟩,λh1=>⟨⟨rfl,by show 1+gl.length<=4194304;omega,CZ _⟩,?_⟩⟩
  .have:=mE h0;subst this;exact h6
  .rw[show(oG 2 (bQ s.nv)::gl).length=1+gl.length by simp;omega]at h6;exact h6
 .have he:mu s (.mk k n nm l)=gR NN s (.mk k n nm l) 0:=by rw[mu,aw (by rw[hc];decide)]
  rw[he]at h6;rw[he];generalize hr:gR NN s (.mk k n nm l) 0=r at h6⊢;have⟨s2,gl⟩:=r;refine⟨⟨s,.mk k n nm l,0,s2,gl⟩,⟨rfl,rfl,hg,hr⟩,?_⟩;rw[show dg Z RB 51 1=dg Z MS 51 0 by kernel_rfl];exact Bm (mG:=[2]) (ls:=[0,4]) (ps:=[(0,0),(1,1),(2,2),(4,3),(5,4)]) h6
def mo(all:List (List bN))(gs:gy):Prop:=∀q∈gs,sE q/\(q.gq=1->q.bh.an=0\/q.bh.an=1099511627776\/q.bh.an=1099511627775\/∃l∈all,∃f∈l,q.bh=f.bh)
def aji(na:Int)(all:List (List bN))(l:List bN):Prop:=l≠[]/\l.length<=2/\∃ar,∀f∈l,km f/\f.bh=⟨[],ar,na⟩/\mo all f.bo
def oM:Int->List (List bN)->List (List bN)->Prop
 |_,_,[]=>True
 |na,all,l::new=>aji na all l/\oM (na+1) all new
theorem mo.s_{all a b}(h:mo all a)(h2:mo all b):mo all (a++b):=λq hq=>(iK.1 hq).elim (h q) (h2 q)
theorem mo.Kd{all q b}(h:sE q/\(q.gq=1->q.bh.an=0\/q.bh.an=1099511627776\/q.bh.an=1099511627775\/∃l∈all,∃f∈l,q.bh=f.bh))(h2:mo all b):mo all (q::b):=λx hx=>(dU.1 hx).elim (λe=>e▸h) (h2 x)
theorem mo.nil(all):mo all []:=λq hq=>by cases hq
theorem aEX(k v):sE (oG k v):=⟨by simp[cV,oG],by simp[cV,oG],trivial⟩
theorem mo.op{all k v b}(hk:k≠1)(h2:mo all b):mo all (oG k v::b):=mo.Kd ⟨aEX k v,λh=>absurd h hk⟩ h2
theorem oM.s_:∀{a b na all},oM na all a->oM (na+a.length) all b->oM na all (a++b)
 |[],b,na,all,_,h=>by simpa using h
 |l::a,b,na,all,h,h2=>⟨h.1,oM.s_ h.2 (by rw[dJ]at h2;rw[show na+1+(a.length:Int)=na+((a.length+1:Nat):Int)by omega];exact h2)⟩
def i_(s:dq)(r:dq×gy)(b:Int):Prop:=∃new,r.1.an=s.an++new/\r.1.na=s.na+new.length/\6*(new.length:Int)<=b/\r.1.tr=s.tr/\∀all:List (List bN),(∀l∈new,l∈all)->oM s.na all new/\mo all r.2
def GN(G:CG)(N:Nat):Prop:=∀(s:dq) (g:ax) (c:Int),gm g<N->bA g->lK g->0<=s.na->s.na+(gm g:Int)<4611686018427387904->i_ s (G s g c) ((gm g:Int)-3)
theorem aDK{n}(h:0<=n)(h2:n<4611686018427387904):bQ n=n/\Zv n=n+1:=by have h3:wI (n+1)=n+1:=cb;simp only[bQ,Zv,h3];exact⟨by rw[cb];omega,trivial⟩
theorem i_.nx{s r b}(h:i_ s.nx r b):i_ s r b:=h
theorem i_.mono{s r b b'}(h:i_ s r b)(hb:b<=b'):i_ s r b':=by have⟨new,h1,h2,h3,h4⟩:=h;exact⟨new,h1,h2,by omega,h4⟩
theorem i_.seq{s s1 s2 l1 l2 l b1 b2}(h1:i_ s (s1,l1) b1)(h2:i_ s1 (s2,l2) b2)(hl:∀all,mo all l1->mo all l2->mo all l):i_ s (s2,l) (b1+b2):=by
 have⟨n1,a1,a2,a3,a4,a5⟩:=h1;have⟨n2,c1,c2,c3,c4,c5⟩:=h2;refine⟨n1++n2,by rw[c1,a1,jE],by rw[c2,a2,cj];omega,by rw[cj];omega,by rw[c4,a4],λall ha=>?_⟩;have h3:=a5 all λl hl=>ha l (iK.2 (.inl hl))
 have h4:=c5 all λl hl=>ha l (iK.2 (.inr hl))
 refine⟨oM.s_ h3.1 ?_,hl all h3.2 h4.2⟩;rw[<-a2];exact h4.1
theorem i_.OF(s l)(h:∀all,mo all l):i_ s (s,l) 0:=⟨[],by simp,by simp,by simp,rfl,λall _=>⟨trivial,h all⟩⟩
theorem i_.map{s s1 l1 l b}(h1:i_ s (s1,l1) b)(hl:∀all,mo all l1->mo all l):i_ s (s1,l) b:=by
 have:=i_.seq h1 (i_.OF s1 [] λall=>.nil all) λall h _=>hl all h
 rw[Int.add_zero]at this;exact this
theorem i_.na{s r b}(h:i_ s r b):s.na<=r.1.na/\r.1.na<=s.na+b:=by have⟨n,_,h2,h3,_⟩:=h;omega
theorem aqm{G N}(hG:GN G N){s g}(h1:gm g<N)(h2:bA g)(h3:lK g)(h4:0<=s.na)(h5:s.na+(gm g:Int)<4611686018427387904):i_ s (o9 G s g) ((gm g:Int)-3):=
 (hG s.nx g (bQ s.nv) h1 h2 h3 h4 h5).nx.map λall h=>.op (by decide) (h.s_ (.op (by decide) (.nil all)))
def zk(s:dq)(r:dq×List gy)(b:Int):Prop:=∃new,r.1.an=s.an++new/\r.1.na=s.na+new.length/\6*(new.length:Int)<=b/\r.1.tr=s.tr/\∀all:List (List bN),(∀l∈new,l∈all)->oM s.na all new/\∀gs∈r.2,mo all gs/\gs.length<4000000
theorem zk.of1{s s2 l b}(h:i_ s (s2,l) b)(hl:l.length<4000000):zk s (s2,[l]) b:=by have⟨new,h1,h2,h3,h4,h5⟩:=h;exact⟨new,h1,h2,h3,h4,λall ha=>⟨(h5 all ha).1,λgs hg=>by rw[vQ.1 hg];exact⟨(h5 all ha).2,hl⟩⟩⟩
theorem zk.of2{s s1 s2 l1 l2 b1 b2}(h1:i_ s (s1,l1) b1)(h2:i_ s1 (s2,l2) b2)(pM:l1.length<4000000)(gM:l2.length<4000000):zk s (s2,[l1,l2]) (b1+b2):=by
 have⟨n1,a1,a2,a3,a4,a5⟩:=h1;have⟨n2,c1,c2,c3,c4,c5⟩:=h2;refine⟨n1++n2,by simp only;rw[c1,a1,jE],by simp only;rw[c2,a2,cj];omega,by rw[cj];omega,by simp only;rw[c4,a4],λall ha=>?_⟩;have h3:=a5 all λl hl=>ha l (iK.2 (.inl hl))
 have h4:=c5 all λl hl=>ha l (iK.2 (.inr hl))
 refine⟨oM.s_ h3.1 (by rw[<-a2];exact h4.1),λgs hg=>?_⟩;simp at hg;rcases hg with rfl|rfl
 .exact⟨h3.2,pM⟩
 .exact⟨h4.2,gM⟩
theorem ayk{G N}(hG:GN G N)(hB:GB G N){k s g c}(hk:k<4)(hg:gm g<N+4)(hi:ec g (qv k) (qY k)=true)(h2:bA g)(h3:lK g)(h4:0<=s.na)(h5:s.na+(gm g:Int)<4611686018427387905)(h6:gm g<1000000):
 zk s (iv G k s g c) ((gm g:Int)-9):=by
 have mZ:=(Vb (s:=s) (c:=c) hB hk hg hi).2.2.2;match k,hk with
 |0,_=>
  obtain⟨k,n,a,b,rfl,e,jk⟩:=tH (.inr (.inl rfl)) hi;have oa:=h2.2.2.1;have ob:=h2.2.2.2.1;have qa:=(jk h3).1;have qb:=(jk h3).2;simp only[iv,jJ,ax.aU,n6,tY]at mZ⊢;have ga:=pG a;have gb:=pG b;by_cases hc:ec a [45,62] 2=true
  .rw[aP hc]at mZ⊢;obtain⟨k',n',a',b',rfl,e',aoQ⟩:=tH (.inr (.inr rfl)) hc;simp only[n6,tY]at mZ⊢;have ga':=pG a';have gb':=pG b';have p1:=hG s.nx.nx a' (bQ s.nx.nv) (by omega) oa.2.2.1 (aoQ qa).1 h4 (by show s.na+_<_;omega);have q1:=p1.na;generalize G s.nx.nx a' (bQ s.nx.nv)=r1 at p1 q1 mZ⊢;obtain⟨s1,l1⟩:=r1;simp only[show s.nx.nx.na=s.na from rfl]at q1;have p2:=hG s1 b' c (by omega) oa.2.2.2.1 (aoQ qa).2 (by omega) (by omega);have q2:=p2.na;simp only at mZ⊢;generalize G s1 b' c=r2 at p2 q2 mZ⊢;obtain⟨s2,l2⟩:=r2;simp only at q2;have p3:=hG s2 b c (by omega) ob qb (by omega) (by omega);simp only at mZ⊢;generalize G s2 b c=r3 at p3 mZ⊢;obtain⟨s3,l3⟩:=r3;have p12:=i_.seq (l:=oG 2 (bQ s.nv)::oG 3 (bQ s.nx.nv)::(l1++oG 4 (bQ s.nv)::l2)) p1 p2 (λall h h'=>.op (by decide) (.op (by decide) (h.s_ (.op (by decide) h'))));have ke:=mZ _ (dk ..);have ie:=mZ _ (dZ _ (dk ..));obtain⟨nw,w1,w2,w3,w4⟩:=zk.of2 p12 p3 (by omega) (by simp only at ie;omega);exact⟨nw,w1,w2,by omega,w4⟩
  .rw[aw hc]at mZ⊢;have p1:=hG s a c (by omega) oa qa h4 (by omega);have q1:=p1.na;generalize G s a c=r1 at p1 q1 mZ⊢;obtain⟨s1,l1⟩:=r1;simp only at q1;have p2:=hG s1 b c (by omega) ob qb (by omega) (by omega);simp only at mZ⊢;generalize G s1 b c=r2 at p2 mZ⊢;obtain⟨s2,l2⟩:=r2;have ke:=mZ _ (dk ..);have ie:=mZ _ (dZ _ (dk ..));have⟨nw,w1,w2,w3,w4⟩:=zk.of2 p1 p2 (by omega) (by simp only at ie;omega);exact⟨nw,w1,w2,by omega,w4⟩
 |1,_=>
  obtain⟨k,n,a,b,rfl,e,jk⟩:=tH (.inr (.inr rfl)) hi;have oa:=h2.2.2.1;have ob:=h2.2.2.2.1;have qa:=(jk h3).1;have qb:=(jk h3).2;simp only[iv,jJ,ax.aU,n6,tY]at mZ⊢;have ga:=pG a;have p1:=aqm hG (by omega:gm a<N) oa qa h4 (by omega);have q1:=p1.na;generalize o9 G s a=r1 at p1 q1 mZ⊢;have⟨s1,l1⟩:=r1;simp only at q1;have p2:=hG s1 b c (by omega) ob qb (by omega) (by omega);generalize G s1 b c=r2 at p2 mZ⊢;have⟨s2,l2⟩:=r2;have ke:(l1++l2).length<=_:=mZ _ (dk ..);have ie:(l1++l2).length<4000000:=by omega
  have⟨nw,w1,w2,w3,w4⟩:=zk.of1 (i_.seq p1 p2 λall h h'=>h.s_ h') ie;exact⟨nw,w1,w2,by omega,w4⟩
 |2,_=>
  obtain⟨k,n,a,rfl,e,jk⟩:=F5 (.inl rfl) hi;simp only[iv,jJ,ax.aU,n6]at mZ⊢;have ga:=LX a;have g1:=pG (iQ a);have p1:=hG s.nx.nx (iQ a) (bQ s.nx.nv) (by omega) (YH h2.2.2.1) (Wg (jk h3)) h4 (by show s.na+_<_;omega);generalize G s.nx.nx (iQ a) (bQ s.nx.nv)=r1 at p1 mZ⊢;have⟨s1,l1⟩:=r1;have ke:(oG 2 (bQ s.nv)::oG 3 (bQ s.nx.nv)::(l1++[oG 4 (bQ s.nv),oG 5 0])).length<=_:=mZ _ (dk ..);have ie:(oG 2 (bQ s.nv)::oG 3 (bQ s.nx.nv)::(l1++[oG 4 (bQ s.nv),oG 5 0])).length<4000000:=by omega
  have⟨nw,w1,w2,w3,w4⟩:=zk.of2 (i_.map p1 λall h=>.op (by decide) (.op (by decide) (h.s_ (.op (by decide) (.op (by decide) (.nil all)))))) (i_.OF s1 [] λall=>.nil all) ie (by simp);exact⟨nw,w1,w2,by omega,w4⟩
 |3,_=>
  obtain⟨k,n,a,rfl,e,jk⟩:=F5 (.inr rfl) hi;have ga:=LX a;have p1:=aqm hG (by omega:gm (iQ a)<N) (YH h2.2.2.1) (Wg (jk h3)) h4 (by omega);have ke:(o9 G s (iQ a)).2.length<=_:=mZ _ (dk ..);have ie:(o9 G s (iQ a)).2.length<4000000:=by omega
  have⟨nw,w1,w2,w3,w4⟩:=zk.of1 p1 ie;exact⟨nw,w1,w2,by omega,w4⟩
theorem YE{p ts}(h1:cV p.eQ.length)(h2:ts.length<4000000)(h3:fe ts):sE (ra p ts):=by
 refine⟨h1,by simp only[ra,oD,cV];omega,?_⟩;clear h1 h2;induction ts with
 |nil=>trivial
 |cons t l ih=>exact⟨Jk h3.1,ih h3.2⟩
theorem aym{G k s g c}:(iv G k s g c).2.length<=2:=by
 match k with
 |0=>simp only[iv];split<;>simp
 |1=>simp[iv]
 |2=>simp[iv]
 |k+3=>simp[iv]
theorem Y9{G N}(hG:GN G N)(hB:GB G N){k s g c}(hk:k<4)(hg:gm g<N+4)(hi:ec g (qv k) (qY k)=true)(h2:bA g)(h3:lK g)(h4:0<=s.na)(h5:s.na+(gm g:Int)<4611686018427387904)(h6:gm g<1000000):
 i_ s (sG (n8 G k s g c)) ((gm g:Int)-3):=by
 have hl:=aDK h4 (by omega:s.na<4611686018427387904);have hn:s.px.lj.na=s.na+1:=hl.2;have adV:=Vb (s:=s.px.lj) (c:=c) hB hk hg hi;have aPZ:4<=gm g:=by have:=adV.1;omega
 have hb:zk s.px.lj (iv G k s.px.lj g c) ((gm g:Int)-9):=ayk hG hB hk hg hi h2 h3 (by omega) (by omega) h6;have⟨new,a1,a2,a3,a4,a5⟩:=hb;have FF:=akY g c;have hpa:Jn s g c=⟨[],((mN g c).length:Int),s.na⟩:=by rw[Jn,hl.1]
 refine⟨((iv G k s.px.lj g c).2.map λgs=>⟨Jn s g c,mN g c,gs⟩)::new,?_,?_,by simp;omega,a4,λall ha=>?_⟩
 .simp only[sG,n8,dq.put];rw[a1,show s.px.lj.an=s.an++[[]]from rfl,jE];simp
 .simp only[sG,n8,dq.put,dJ];rw[a2,hn];omega
 .have h7:=a5 all λl hl=>ha l (dZ _ hl)
  rw[hn]at h7;have fX:=ha _ (dk ..);refine⟨⟨⟨?_,?_,((mN g c).length:Int),?_⟩,h7.1⟩,?_⟩
  .intro h8;exact adV.2.2.1 (List.map_eq_nil_iff.1 h8)
  .rw[oD];exact aym
  .intro f hf;obtain⟨gs,h8,rfl⟩:=vT.1 hf;refine⟨⟨by rw[hpa];simp[cV],by simp only[cV];omega,afL g c,by have:=(h7.2 gs h8).2;simp only[cV];omega,λq hq=>((h7.2 gs h8).1 q hq).1⟩,hpa,(h7.2 gs h8).1⟩
  .have:∃gs,gs∈(iv G k s.px.lj g c).2:=by
    cases h8:(iv G k s.px.lj g c).2 with
    |nil=>exact absurd h8 adV.2.2.1
    |cons x l=>exact⟨x,dk ..⟩
   have⟨gs,h8⟩:=this;refine .Kd ⟨YE (by rw[hpa];simp[cV]) (by omega) (afL g c),λ_=>.inr (.inr (.inr ⟨_,fX,_,vT.2 ⟨gs,h8,rfl⟩,rfl⟩))⟩ (.nil all)
theorem aFs{s g}(h2:bA g)(h3:g.aU.length<4000000):i_ s (yS s g) 0:=by
 have⟨k,n,nm,l⟩:=g;have h1:=h2.1;have hc:∀all,mo all [ra ⟨nm,(l.length:Int),0⟩ l]:=λall=>.Kd ⟨YE h1 h3 h2.2.2,λ_=>.inl rfl⟩ (.nil all)
 unfold yS;split
 .exact i_.OF s _ hc
 .refine(i_.OF s.nx _ λall=>?_).nx;refine .Kd ⟨YE (by simp[cV]) (by simp) ⟨M6 _,h2,trivial⟩,λ_=>.inr (.inl rfl)⟩ (.Kd (hc all _ (dk ..)) (.Kd ⟨YE (by simp[cV]) (by simp) ⟨M6 _,h2,trivial⟩,λ_=>.inr (.inr (.inl rfl))⟩ (.nil all)))
theorem aMR{G N}(hG:GN G N)(hB:GB G N)(hN:N<1000000):GN (Ec G) (N+1):=by
 intro s g c hg h2 h3 h4 h5;have aY:=pG g;have z:∀l,(∀all,mo all l)->i_ s (s,l) ((gm g:Int)-3):=λl h=>(i_.OF s l h).mono (by omega)
 unfold Ec;by_cases c1:ec g [116,114,117,101] 0=true
 .rw[aP c1];exact z _ λall=>.nil all
 rw[aw c1];by_cases c2:ec g [102,97,105,108] 0=true
 .rw[aP c2];exact z _ λall=>.op (by decide) (.nil all)
 rw[aw c2];by_cases c3:ec g [33] 0=true
 .rw[aP c3];exact z _ λall=>.op (by decide) (.nil all)
 rw[aw c3];by_cases c4:ec g [44] 2=true
 .rw[aP c4];obtain⟨k,n,a,b,rfl,e,jk⟩:=tH (.inl rfl) c4;simp only[jJ,ax.aU,n6,tY];have p1:=hG s a c (by omega) h2.2.2.1 (jk h3).1 h4 (by omega);have q1:=p1.na;generalize G s a c=r1 at p1 q1⊢;have⟨s1,l1⟩:=r1;simp only at q1;have p2:=hG s1 b c (by omega) h2.2.2.2.1 (jk h3).2 (by omega) (by omega);generalize G s1 b c=r2 at p2⊢;have⟨s2,l2⟩:=r2;exact(i_.seq p1 p2 λall h h'=>h.s_ h').mono (by omega)
 rw[aw c4];by_cases c5:ec g [59] 2=true
 .rw[aP c5];exact Y9 hG hB (by decide) (by omega) c5 h2 h3 h4 h5 (by omega)
 rw[aw c5];by_cases c6:ec g [45,62] 2=true
 .rw[aP c6];exact Y9 hG hB (by decide) (by omega) c6 h2 h3 h4 h5 (by omega)
 rw[aw c6];by_cases c7:ec g [92,43] 1=true
 .rw[aP c7];exact Y9 hG hB (by decide) (by omega) c7 h2 h3 h4 h5 (by omega)
 rw[aw c7];by_cases c8:ec g [111,110,99,101] 1=true
 .rw[aP c8];exact Y9 hG hB (by decide) (by omega) c8 h2 h3 h4 h5 (by omega)
 rw[aw c8];refine(aFs h2 ?_).mono (by omega);have⟨k,n,nm,l⟩:=g;show l.length<4000000;match l,h3 with
 |[],_=>simp
 |[_],_=>simp
 |[_,_],_=>simp
 |_::_::_::_,h=>exact h
theorem an6:∀N,N<=1000000->GN (gR N) N
 |0,_=>λs g c h=>by have:=pG g;omega
 |N+1,h=>aMR (an6 N (by omega)) (tp N) (by omega)
theorem Wl:∀t,gm t<=6*bp t
 |.mk k n s [a,b]=>by have:=Wl a;have:=Wl b;simp only[gm,bp,bz];split<;>omega
 |.mk k n s [a]=>by have:=Wl a;simp only[gm,bp,bz];split<;>omega
 |.mk k n s []=>by simp only[gm,bp,bz];omega
 |.mk k n s (_::_::_::_)=>by simp only[gm,bp];omega
def lQ(c:nK)(first:Int)(tr:Bool):dq:=⟨s9 (s9 0 (h_ c.1)) (h_ c.2),first,tr,[]⟩
def YN(c:nK):gZ:=⟨c.1.cq,(c.1.aU.length:Int),0⟩
def vq(c:nK)(first:Int)(tr:Bool):List bN:=Df (lQ c first tr) (YN c) (c.1.aU.map cZ) c.2
def pE(c:nK)(first:Int)(tr:Bool):List bN×Int:=if jV c=false\/first<1\/first>1099511623776 then([],1)else Eh (vq c first tr)
structure Fw where
 c:nK
 a:Int
 tr:Bool
 r:List bN
 e:Int
def fcX:bT Fw where
 aI w A H:=A=[.aj (bn w.c.1++bn w.c.2),J w.a,.ai w.tr]/\H=ay/\bA w.c.1/\bA w.c.2/\pE w.c w.a w.tr=(w.r,w.e)
 v w:=.aL [.aq (dR w.r) w.r.length 5,J w.e]
 aD w:=ay
theorem aAR:fcX.bM:=by rintro⟨c,a,tr,r,e⟩ ⟨c',a',GR,r',e'⟩ A H ⟨h1,_,_,_,q1⟩ ⟨h2,_,_,_,q2⟩;rw[h1]at h2;simp at h2;obtain⟨e1,rfl,rfl⟩:=h2;rw[ET e1,q2]at q1;cases q1;rfl
def K44:Ev.aX:=bx 27 (bE fcX aAR bU) O'
def Rx:Nat->LN:=dY [(6,[3,8,9,45,46,47]),(999995,[2000010]),(999998,[3,8,9])]
def wE(k n:Int)(s:LN)(cs:LV)(len:Nat)(k' n':Int)(s':LN)(cs':LV)(len':Nat):aO:=.ah [J k,J n,.ao s,.aq cs len 4,J k',J n',.ao s',.aq cs' len' 4] 51
abbrev ah5 h0 h1 h2:=aaM 3 (.aa 0 0) 8 1 9 2 45 h0 h1 46 (a_ h1) 47 h2
theorem atQ{k n s cs len k' n' s' cs' len' a b L Q}:
 fA O' Rx L Q 27 [.aj (mJ k n s cs len k' n' s' cs' len'),J a,.ai b] ay=aak k n s cs len k' n' s' cs' len' (λw=>TD (!jV w) (Q (J3 1) ay) (decide (a<1)) (decide (a>1099511623776)) (ah8 [iY 0 2 4] k n s cs len k' n' s' cs' len' (λaH=>L (aJ (ah5 cs len (J 0))) (jv (wE k n s cs len k' n' s' cs' len') (Ts (s9 (s9 0 (h_ aH.1)) (h_ aH.2)) a b .aM) (.ah (Ou s (a_ len) .aM) 106)) (aB Z 27 0)))):=by kernel_rfl
theorem aK8{k n s cs len k' n' s' cs' len' nv a b nm ar ds m i L Q}:
 ju O' Rx L Q 27 0 (ah5 cs len (J i)) (uX (wE k n s cs len k' n' s' cs' len') (Ts nv a b .aM) (.ah (Ou nm ar (.ad 3 m 4)) 106) (.au ds 49))=wi i len cs (λbm=>λbS=>λcX=>λcA=>λb_=>qL bm bS cX cA b_ (λw=>im (.ad 3 m 4)/\xH ds m 4 L (ah5 cs len (cu i)) (uX (wE k n s cs len k' n' s' cs' len') (Ts nv a b .aM) (.ah (Ou nm ar (.ad 3 (m+1) 4)) 106) (.au (ds++aaw w) 49)) 27 0)) (L (za 3 8 (.aa 1 0) 9 (.aa 2 0)) (uX (wE k n s cs len k' n' s' cs' len') (Ts nv a b .aM) (.ah (Ou nm ar (.ad 3 m 4)) 106) (.au ds 49)) (dg Z Rx 27 0)):=by kernel_rfl
abbrev avN(h0:Ww):=bN.mk (Ww.p h0) (Ww.Cx h0) (mu (Ww.s h0) (Ww.g h0)).2::List.flatten (mu h0.s h0.g).1.an
theorem aK5{k n s cs len k' n' s' cs' len' t nm ar ds m L Q}:
 AE O' L Q 27 0 (za 3 8 (.aa 1 0) 9 (.aa 2 0)) Rx (N_ (wE k n s cs len k' n' s' cs' len') (fp t 4) (.ah (AB nm ar 0 ds m .aM) 106) (.bg []) (fc t))=(∃w,(AA (.aj (AB nm ar 0 ds m .aM)) (cN k' n' s' cs' len') (.aj (AB (Ww.p w).eQ (Ww.p w).ar (Ww.p w).an (az (Ww.Cx w)) (Ww.Cx w).length .aM)) (.aj (bn (Ww.g w)))/\hT t=hT w.s/\jo NN 3000000 (Ww.s w) (Ww.g w)/\(∀x,x∈(mu w.s w.g).1.an->(x:List bN)=[]->False)/\(∀f,f∈Df w.s w.p w.Cx w.g->km f)/\(avN w).length<=4000000/\Eh (avN w)=Prod.mk w.r (Ww.e w)/\(mu (Ww.s w) (Ww.g w)).1=Ww.s2 w)/\Q (.aL [.aq (dR w.r) w.r.length 5,J (Ww.e w)]) ay):=by kernel_rfl
theorem PG{c}(h:jV c=true):eP c.1=true/\mO c.1.bV=true/\eP c.2=true:=by simp only[jV,cT]at h;exact⟨h.1.1.1.1.1.1.1,h.1.1.1.1.1.1.2,an5 h.1.1.1.1.2⟩
structure T_(c:nK)(first:Int)(tr:Bool)(new:List (List bN)):Prop where
 an:(mu (lQ c first tr) c.2).1.an=new
 ok:oM first new new
 alo:mo new (mu (lQ c first tr) c.2).2
 len:new.length<=2000
 bo:(mu (lQ c first tr) c.2).2.length<=12001
 gok:jo NN 3000000 (lQ c first tr) c.2
theorem adj{c first}(tr)(h1:bA c.1)(h2:bA c.2)(hv:jV c=true)(ha:1<=first)(hb:first<=1099511623776):∃new,T_ c first tr new:=by
 have⟨v1,v2,v3⟩:=PG hv;have hs:=Aq v3;have hg:=Wl c.2;have jk:lK c.2:=Wh (by omega);have aN:jo NN 3000000 (lQ c first tr) c.2:=⟨h2,by rw[ajX];omega,by omega,by show 0+gm c.2<3000000;omega,jk⟩;have gn:=an6 NN (by rw[ajX];omega);have gb:=tp NN;have key:i_ (lQ c first tr) (mu (lQ c first tr) c.2) ((gm c.2:Int)-3)/\(mu (lQ c first tr) c.2).2.length<=12001:=by
  unfold mu;split
  .have h3:=gn (lQ c first tr).nx c.2 (bQ (lQ c first tr).nv) aN.2.1 h2 jk (by show 0<=first;omega) (by show first+_<_;omega);have h4:=gb (lQ c first tr).nx c.2 (bQ (lQ c first tr).nv) aN.2.1;exact⟨(i_.nx h3).map λall h=>.op (by decide) h,by simp;omega⟩
  .exact⟨gn _ c.2 0 aN.2.1 h2 jk (by show 0<=first;omega) (by show first+_<_;omega),by have:=gb (lQ c first tr) c.2 0 aN.2.1;omega⟩
 have⟨⟨new,a1,a2,a3,a4,a5⟩,k2⟩:=key;have a6:=a5 new λl h=>h
 exact⟨new,by rw[a1];rfl,a6.1,a6.2,by omega,k2,aN⟩
theorem oM.Jc:∀{new na all},oM na all new->∀l∈new,∃n,aji n all l
 |l0::new,na,all,h,l,hl=>by
  rcases dU.1 hl with rfl|hl
  .exact⟨na,h.1⟩
  .exact oM.Jc h.2 l hl
theorem anE{new:List (List bN)}(h:∀l∈new,l.length<=2):new.flatten.length<=2*new.length:=by
 induction new with
 |nil=>simp
 |cons l new ih=>
  have h1:=h l (dk ..);have h2:=ih λx hx=>h x (dZ _ hx)
  simp only[Ng,cj,dJ];omega
theorem akZ{c:nK}(hv:eP c.1=true):c.1.aU.length<=2000:=by have:=Aq hv;have⟨⟨k,n,s,l⟩,b⟩:=c;have h2:=MO l;simp only[bp]at this;show l.length<=2000;omega
theorem anB{c first tr new}(h1:bA c.1)(hv:jV c=true)(h:T_ c first tr new):(∀f∈vq c first tr,km f)/\(vq c first tr).length<=4001:=by
 have⟨v1,v2,v3⟩:=PG hv;have FF:=akZ v1;have hn:=oM.Jc h.ok;have hf:=anE λl hl=>(hn l hl).elim λn hn=>hn.2.1
 have hl:=h.len;constructor
 .intro f hf;rcases dU.1 hf with rfl|hf
  .have⟨⟨k,n,s,l⟩,b⟩:=c;refine⟨h1.1,?_,?_,?_,λq hq=>(h.alo q hq).1⟩
   .simp only[oD,ax.aU,cV]at FF⊢;omega
   .have:∀l:dF,fe l->fe (l.map cZ):=by
     intro l hl;induction l with
     |nil=>trivial
     |cons t l ih=>exact⟨Jk hl.1,ih hl.2⟩
    exact this l h1.2.2
   .exact Nat.lt_of_le_of_lt h.bo (by decide)
  .rw[h.an]at hf;have⟨l,hl,hf⟩:=List.mem_flatten.1 hf;have⟨n,hn⟩:=hn l hl;have⟨ar,hn⟩:=hn.2.2;exact(hn f hf).1
 .simp only[vq,Df,dJ,h.an];omega
theorem az5(t):[J t.bV,J t.n,.ao t.cq,.aq (az t.aU) t.aU.length 4]=az [t]:=by show eU t=_;rw[py,az,az,jt]
theorem aK6{c first tr new r e}(h1:bA c.1)(hv:jV c=true)(h:T_ c first tr new)(hr:Eh (vq c first tr)=(r,e)){n}(hn:n=c.1.aU.length){ds}(ig:ds=az (c.1.aU.map cZ)):
 ba Z 27 66 0 (.aL [.aq (dR r) r.length 5,J e]) ay (aJ [(3,.aa 0 0),(8,.aa 1 0),(9,.aa 2 0)]) (aE [(0,wE c.1.bV c.1.n c.1.cq (az c.1.aU) c.1.aU.length c.2.bV c.2.n c.2.cq (az c.2.aU) c.2.aU.length),(1,.ah [J (lQ c first tr).nv,J first,.ai tr,.aM] 120),(2,.ah [.ao c.1.cq,J (c.1.aU.length:Int),J 0,.ad 3 n 4,.aM] 106),(3,.au ds 49)] 4) (dg Z Rx 27 0):=by
 subst hn ig;have hf:=anB h1 hv h;have e1:fO 3 (az (c.1.aU.map cZ)) (.ad 3 c.1.aU.length 4)=.aq (az (c.1.aU.map cZ)) (c.1.aU.map cZ).length 4:=by simp[fO,qh]
 refine Mk (g:=3) ?_ rfl;refine qk (H':=aE [(0,wE c.1.bV c.1.n c.1.cq (az c.1.aU) c.1.aU.length c.2.bV c.2.n c.2.cq (az c.2.aU) c.2.aU.length),(1,.ah [J (lQ c first tr).nv,J first,.ai tr,.aM] 120),(2,.ah [.ao c.1.cq,J (c.1.aU.length:Int),J 0,.aq (az (c.1.aU.map cZ)) (c.1.aU.map cZ).length 4,.aM] 106),(3,.bg [])] 4) ?_ (by rw[<-e1];exact⟨ct _,λI bs w _ hw=>⟨I,hw,⟨jG.CA _ _,.of rfl rfl⟩,rfl⟩⟩);refine qk (H':=aE ([(0,wE c.1.bV c.1.n c.1.cq (az c.1.aU) c.1.aU.length c.2.bV c.2.n c.2.cq (az c.2.aU) c.2.aU.length),(1,fp (lQ c first tr) 4),(2,.ah [.ao c.1.cq,J (c.1.aU.length:Int),J 0,.aq (az (c.1.aU.map cZ)) (c.1.aU.map cZ).length 4,.aM] 106),(3,.bg [])]++[(4,.au [] 84)]) (4+1)) ?_ (tM (g:=1) rfl (λid=>by rcases id with _|_|_|_|id<;>rfl) rfl (λI x hx=>xq hx) aA);refine hE Pa aK5 ?_;have⟨a,⟨k',n',s',l'⟩⟩:=c;exact⟨⟨lQ (a,.mk k' n' s' l') first tr,YN (a,.mk k' n' s' l'),a.aU.map cZ,.mk k' n' s' l',r,e,(mu (lQ (a,.mk k' n' s' l') first tr) (.mk k' n' s' l')).1⟩,⟨rfl,rfl,h.gok,λx hx=>(oM.Jc h.ok x (by rw[<-h.an];exact hx)).elim λn hn=>hn.1,hf.1,lz hf.2 (by decide),hr,rfl⟩,rfl,rfl⟩
theorem aK7{c first tr new r e}(h1:bA c.1)(hv:jV c=true)(h:T_ c first tr new)(hr:Eh (vq c first tr)=(r,e)):
 ∀i,i<=c.1.aU.length->ba Z 27 66 0 (.aL [.aq (dR r) r.length 5,J e]) ay (aJ [(3,.aa 0 0),(8,.aa 1 0),(9,.aa 2 0),(45,.aq (az c.1.aU) c.1.aU.length 4),(46,J (a_ c.1.aU.length)),(47,J (i:Int))]) (aE [(0,wE c.1.bV c.1.n c.1.cq (az c.1.aU) c.1.aU.length c.2.bV c.2.n c.2.cq (az c.2.aU) c.2.aU.length),(1,.ah [J (lQ c first tr).nv,J first,.ai tr,.aM] 120),(2,.ah [.ao c.1.cq,J (c.1.aU.length:Int),J 0,.ad 3 i 4,.aM] 106),(3,.au (az ((c.1.aU.take i).map cZ)) 49)] 4) (aB Z 27 0):=by
 have FF:=akZ (PG hv).1;have ho:fe c.1.aU:=by have⟨⟨k,n,s,l⟩,b⟩:=c;exact h1.2.2
 refine dj (λi=>c.1.aU.length-i) _ _ _ _ ?_;rintro i hi ih;refine hE Pa aK8 ?_;delta fS cu aaw;refine al (λae=>?_) λaY=>?_
 .have ae:i<c.1.aU.length:=by simpa using ae
  obtain⟨k1,n1,s1,l1,-,hg,bP,aN,-⟩:=ua ae ho (kr _) (P:=λ_=>True) trivial;refine⟨i,rfl,ae,k1,n1,s1,az l1,l1.length,bP,.mk k1 n1 s1 l1,⟨rfl,rfl,aN⟩,rfl,⟨by rw[qh,oD,rH];congr 1;omega,by omega,rfl,rfl⟩,?_⟩;rw[az5,<-A7,cb];have:=ih (i+1) (by omega) (by omega);rw[ag6 _ _ ae,hg]at this;exact this
 .have aY:c.1.aU.length<=i:=by simpa using aY
  have:i=c.1.aU.length:=by omega
  subst this;rw[pX];exact aK6 h1 hv h hr rfl rfl
theorem awV:aF Z K44:=by
 refine bY Pa ?_;rintro⟨c,a,tr,r,e⟩ args H ⟨rfl,rfl,o1,o2,he⟩;by_cases hc:jV c=false\/a<1\/a>1099511623776
 .rw[pE,aP hc]at he;cases he;refine sj ?_ (Wk.B0 (.tQ 5 (.mn _))) (ct _);have⟨⟨k,n,s,l⟩,⟨k',n',s',l'⟩⟩:=c;refine eE 66 Pa atQ ?_;refine⟨(.mk k n s l,.mk k' n' s' l'),⟨rfl,rfl,o1,o2⟩,al (λ_=>aA) λh1=>al (λ_=>aA) λh2=>al (λ_=>aA) λh3=>?_⟩;exfalso;rcases hc with hc|hc|hc
  .rw[hc]at h1;cases h1
  .exact c9 h2 hc
  .exact c9 h3 hc
 .rw[pE,aw hc]at he;have hv:jV c=true:=by
   cases h:jV c with
   |true=>rfl
   |false=>exact absurd (.inl h) hc
  have h1:=λh=>hc (.inr (.inl h))
  have h2:=λh=>hc (.inr (.inr h))
  have⟨new,pK⟩:=adj (first:=a) tr o1 o2 hv (by omega) (by omega);have hh:=aK7 o1 hv pK he 0 (eh _);have⟨⟨k,n,s,l⟩,⟨k',n',s',l'⟩⟩:=c;refine eE 66 Pa atQ ?_;refine⟨(.mk k n s l,.mk k' n' s' l'),⟨rfl,rfl,o1,o2⟩,al (λh=>?_) λ_=>al (λh=>absurd (cP h) h1) λ_=>al (λh=>absurd (cP h) h2) λ_=>?_⟩
  .rw[hv]at h;cases h
  refine⟨(.mk k n s l,.mk k' n' s' l'),⟨rfl,rfl,o1,o2⟩,?_⟩;refine qk (H':=aE ([(0,wE k n s (az l) l.length k' n' s' (az l') l'.length),(1,.ah [J (lQ (.mk k n s l,.mk k' n' s' l') a tr).nv,J a,.ai tr,.aM] 120),(2,.ah [.ao s,J (l.length:Int),J 0,.ad 3 0 4,.aM] 106)]++[(3,.au [] 49)]) (3+1)) ?_ ?_
  .exact hh
  .exact tM (g:=2) rfl (λid=>by rcases id with _|_|_|id<;>rfl) rfl (λI x hx=>(jn.fJ (.fJ (.fJ (jn.wu (λI x h=>r9 h) (.mn _))))) I x hx) aA
theorem L0:∀a b:gy,fv (a++b)=fv a+fv b
 |[],b=>by simp[fv]
 |g::a,b=>by simp only[j3,fv,L0 a b];omega
theorem ahe(t):bp (cZ t)<=bp t:=by
 unfold cZ;split
 .exact ct _
 .exact uS t
theorem ZS:∀l:dF,bz (l.map cZ)<=bz l
 |[]=>ct _
 |t::l=>by have:=ahe t;have:=ZS l;simp only[e9,bz];omega
theorem auD:∀l:LI,bz (l.map nB)=l.length
 |[]=>rfl
 |n::l=>by have:=auD l;simp only[e9,bz,dJ,this,nB,bp];omega
theorem auB:∀a b:dF,bz (a++b)=bz a+bz b
 |[],b=>by simp[bz]
 |g::a,b=>by simp only[j3,bz,auB a b];omega
def vX(f:bN):Prop:=bz f.cg+fv f.bo<72000/\f.bo.length<=10000
def GT(G:CG):Prop:=∀(s:dq) (g:ax) (c:Int),bp g<=2001->fv (G s g c).2<=10*bp g/\(G s g c).2.length<=3*bp g/\∀l∈(G s g c).1.an,l∈s.an\/∀f∈l,vX f
theorem aN3(t):(h_ t).length<=bp t:=by
 unfold h_;split
 .have:=ZZ [] t;simp at this;omega
 .simp
theorem XI{g nm k n a b}(h:g=.mk k n nm [a,b]):bp g=1+bp a+bp b:=by subst h;simp only[bp,bz];omega
theorem apP{g nm k n a}(h:g=.mk k n nm [a]):bp g=1+bp a:=by subst h;simp only[bp,bz];omega
theorem auA{a}(h:bp a<=2000):bp (iQ a)<=2001:=by
 unfold iQ;split;next g hg=>
  unfold jK at hg;split at hg
  .split at hg
   .split at hg;next g' h1 h2=>cases hg;unfold cy at h2;omega
    .cases hg
   .cases hg
  .cases hg
 .simp only[bp,bz];omega
theorem aNr(g c):bz (mN g c)<=bp g+1:=by have:=aN3 g;simp only[mN,sS,auB,auD];split<;>simp[bz,nB,bp]<;>omega
theorem aqn{G}(hG:GT G){s g}(h:bp g<=2001):fv (o9 G s g).2<=10*bp g+2/\(o9 G s g).2.length<=3*bp g+2/\∀l∈(o9 G s g).1.an,l∈s.an\/∀f∈l,vX f:=by have:=hG s.nx g (bQ s.nv) h;simp only[o9,dJ,cj,gH];refine⟨?_,by omega,this.2.2⟩;simp only[fv,oG,bz,L0];omega
theorem PA{a b c:List (List bN)}{P:List bN->Prop}(h:∀l∈b,l∈a\/P l)(h2:∀l∈c,l∈b\/P l):∀l∈c,l∈a\/P l:=λl hl=>(h2 l hl).elim (h l) .inr
theorem ayl{G}(hG:GT G){k s g c}(hk:k<4)(hi:ec g (qv k) (qY k)=true)(h:bp g<=2001):
 (∀gs∈(iv G k s g c).2,fv gs<=30000/\gs.length<=10000)/\∀l∈(iv G k s g c).1.an,l∈s.an\/∀f∈l,vX f:=by
 match k,hk with
 |0,_=>
  obtain⟨k,n,a,b,hq,-,-⟩:=tH (.inr (.inl rfl)) hi;have hz:=XI hq;subst hq;simp only[iv,jJ,ax.aU,n6,tY];by_cases hc:ec a [45,62] 2=true
  .rw[aP hc];obtain⟨k',n',a',b',FV,-,-⟩:=tH (.inr (.inr rfl)) hc;have hz':=XI FV;subst FV;have p1:=hG s.nx.nx a' (bQ s.nx.nv) (by omega);have p2:=hG (G s.nx.nx a' (bQ s.nx.nv)).1 b' c (by omega);have p3:=hG (G (G s.nx.nx a' (bQ s.nx.nv)).1 b' c).1 b c (by omega);refine⟨λgs hg=>?_,PA (PA p1.2.2 p2.2.2) p3.2.2⟩;simp at hg;rcases hg with rfl|rfl
   .simp only[fv,L0,dJ,cj,oG,bz];omega
   .omega
  .rw[aw hc];have p1:=hG s a c (by omega);have p2:=hG (G s a c).1 b c (by omega);refine⟨λgs hg=>?_,PA p1.2.2 p2.2.2⟩;simp at hg;rcases hg with rfl|rfl<;>omega
 |1,_=>obtain⟨k,n,a,b,hq,-,-⟩:=tH (.inr (.inr rfl)) hi;have hz:=XI hq;subst hq;simp only[iv,jJ,ax.aU,n6,tY];have p1:=aqn (s:=s) hG (by omega:bp a<=2001);have p2:=hG (o9 G s a).1 b c (by omega);refine⟨λgs hg=>?_,PA p1.2.2 p2.2.2⟩;simp at hg;subst hg;simp only[L0,cj];omega
 |2,_=>
  obtain⟨k,n,a,hq,-,-⟩:=F5 (.inl rfl) hi;have hz:=apP hq;subst hq;simp only[iv,jJ,ax.aU,n6];have p0:=auA (a:=a) (by omega);have p1:=hG s.nx.nx (iQ a) (bQ s.nx.nv) p0;refine⟨λgs hg=>?_,p1.2.2⟩;simp at hg;rcases hg with rfl|rfl
  .simp only[fv,L0,dJ,cj,gH,oG,bz];omega
  .simp[fv]
 |3,_=>obtain⟨k,n,a,hq,-,-⟩:=F5 (.inr rfl) hi;have hz:=apP hq;subst hq;simp only[iv,jJ,ax.aU,n6];have p0:=auA (a:=a) (by omega);have p1:=aqn (s:=s) hG p0;refine⟨λgs hg=>?_,p1.2.2⟩;simp at hg;subst hg;omega
theorem aEr{F:Type}{l:List F}{i x y}(h:y∈l.set i x):y∈l\/y=x:=by
 rcases List.mem_or_eq_of_mem_set h with h|h
 .exact .inl h
 .exact .inr h
theorem Y_{G}(hG:GT G){k s g c}(hk:k<4)(hi:ec g (qv k) (qY k)=true)(h:bp g<=2001):
 fv (sG (n8 G k s g c)).2<=10*bp g/\(sG (n8 G k s g c)).2.length<=3*bp g/\∀l∈(sG (n8 G k s g c)).1.an,l∈s.an\/∀f∈l,vX f:=by
 have hb:=ayl (s:=s.px.lj) (c:=c) hG hk hi h;have ha:=aNr g c;have hp:=uS g;have hc:=ZS (mN g c);refine⟨by simp only[sG,n8,fv,ra];omega,by simp only[sG,dJ,gH];omega,λl hl=>?_⟩;rcases aEr hl with hl|rfl
 .rcases hb.2 l hl with hl|hl
  .rcases iK.1 hl with hl|hl
   .exact .inl hl
   .rw[vQ.1 hl];exact .inr λf hf=>by cases hf
  .exact .inr hl
 .refine .inr λf hf=>?_
  obtain⟨gs,h8,rfl⟩:=vT.1 hf;have:=hb.1 gs h8;exact⟨by simp only;omega,this.2⟩
theorem aMS{G}(hG:GT G):GT (Ec G):=by
 intro s g c h;have hp:=uS g;have z:∀l:gy,fv l<=10->l.length<=3->fv ((s,l):dq×gy).2<=10*bp g/\((s,l):dq×gy).2.length<=3*bp g/\∀l'∈((s,l):dq×gy).1.an,l'∈s.an\/∀f∈l',vX f:=λl h1 h2=>⟨by simp only;omega,by simp only;omega,λl hl=>.inl hl⟩
 unfold Ec;by_cases c1:ec g [116,114,117,101] 0=true
 .rw[aP c1];exact z _ (by simp[fv]) (by simp)
 rw[aw c1];by_cases c2:ec g [102,97,105,108] 0=true
 .rw[aP c2];exact z _ (by simp[fv,oG,bz]) (by simp)
 rw[aw c2];by_cases c3:ec g [33] 0=true
 .rw[aP c3];exact z _ (by simp[fv,oG,bz]) (by simp)
 rw[aw c3];by_cases c4:ec g [44] 2=true
 .rw[aP c4];obtain⟨k,n,a,b,hq,-,-⟩:=tH (.inl rfl) c4;have hz:=XI hq;subst hq;simp only[jJ,ax.aU,n6,tY];have p1:=hG s a c (by omega);have p2:=hG (G s a c).1 b c (by omega);exact⟨by rw[L0];omega,by rw[cj];omega,PA p1.2.2 p2.2.2⟩
 rw[aw c4];by_cases c5:ec g [59] 2=true
 .rw[aP c5];exact Y_ hG (by decide) c5 h
 rw[aw c5];by_cases c6:ec g [45,62] 2=true
 .rw[aP c6];exact Y_ hG (by decide) c6 h
 rw[aw c6];by_cases c7:ec g [92,43] 1=true
 .rw[aP c7];exact Y_ hG (by decide) c7 h
 rw[aw c7];by_cases c8:ec g [111,110,99,101] 1=true
 .rw[aP c8];exact Y_ hG (by decide) c8 h
 rw[aw c8];have hc:=ZS g.aU;have hz:bp g=1+bz g.aU:=by have⟨k,n,nm,l⟩:=g;rfl
 have hc1:=ahe g;have hv:∀x,bp (cZ (nB x))<=1:=λx=>ahe (nB x)
 unfold yS;split
 .exact⟨by simp only[fv,ra];omega,by simp;omega,λl hl=>.inl hl⟩
 .have:=hv (bQ s.nv);exact⟨by simp only[fv,ra,e9,List.map_nil,bz];omega,by simp;omega,λl hl=>.inl hl⟩
theorem an7:∀N,GT (gR N)
 |0=>λs g c h=>⟨by simp[gR,fv],by simp[gR],λl hl=>.inl hl⟩
 |N+1=>aMS (an7 N)
theorem aAX{c first tr}(hv:jV c=true):∀f∈vq c first tr,vX f:=by
 have⟨v1,v2,v3⟩:=PG hv;have s1:=Aq v1;have s2:=Aq v3;have gt:=an7 NN;have key:fv (mu (lQ c first tr) c.2).2<=10*bp c.2+1/\(mu (lQ c first tr) c.2).2.length<=3*bp c.2+1/\∀l∈(mu (lQ c first tr) c.2).1.an,∀f∈l,vX f:=by
  unfold mu;split
  .have:=gt (lQ c first tr).nx c.2 (bQ (lQ c first tr).nv) (by omega);refine⟨by simp only[fv,oG,bz];omega,by simp;omega,λl hl=>(this.2.2 l hl).elim (λh=>by cases h) id⟩
  .have:=gt (lQ c first tr) c.2 0 (by omega);exact⟨by omega,by omega,λl hl=>(this.2.2 l hl).elim (λh=>by cases h) id⟩
 intro f hf;rcases dU.1 hf with rfl|hf
 .have hc:=ZS c.1.aU;have hz:bp c.1=1+bz c.1.aU:=by have⟨⟨k,n,nm,l⟩,b⟩:=c;rfl
  exact⟨by simp only;omega,by simp only;omega⟩
 .have⟨l,hl,hf⟩:=List.mem_flatten.1 hf;exact key.2.2 l hl f hf
structure Cw where
 f:bN
 i:Int
 b:cL
 e:Int
def ye(b:cL):LV:=[J b.id,.ao b.bh.eQ,J b.bh.ar,J b.bh.an,J b.xM.1,J b.xM.2.1,.ao b.xM.2.2.1,J b.xM.2.2.2,.aq (dt b.wm) b.wm.length 6]
def cpX:bT Cw where
 aI w A H:=A=[.aj (iE w.f),J w.i]/\H=ay/\km w.f/\vX w.f/\ic w.f w.i=(w.b,w.e)
 v w:=.aL [.aj (ye w.b),J w.e]
 aD w:=ay
theorem azb:cpX.bM:=by rintro⟨f,i,b,e⟩ ⟨f',i',b',e'⟩ A H ⟨h1,_,_,_,q1⟩ ⟨h2,_,_,_,q2⟩;rw[h1]at h2;simp at h2;rw[A5 _ _ h2.1,h2.2,q2]at q1;cases q1;rfl
def K45:Ev.aX:=bx 52 (bE cpX azb bU) K44
abbrev ES:=List (AV×AV×Nat)
structure Ar where
 an:Int
 id:Int
 eI:LV
 ng:Nat
 cY:ES
 cc:Nat
 lC:ES
 rc:Nat
 cD:ES
 nc:Nat
 fy:ES
 oc:Nat
 oh:LV
 na:Nat
 X:Nat->Option aO
 xc:Nat
def dV(z:Ar)(a b c d e f:Nat):aO:=.ah [J z.an,J z.id,.ad a z.ng 1,.aS b,.aS c,.aS d,.aS e,.ad f z.na 9,.aM] 78
def cO(z:Ar):aO:=.au z.eI 83
def dv(z:Ar):aO:=.bI z.cY z.cc true
def du(z:Ar):aO:=.bI z.lC z.rc true
def cQ(z:Ar):aO:=.bI z.cD z.nc true
def dh(z:Ar):aO:=.bI z.fy z.oc true
def cK(z:Ar):aO:=.au z.oh 44
def hA(z:Ar):AH:=cC z.X z.xc [(0,dV z 1 2 3 4 5 6),(1,cO z),(2,dv z),(3,du z),(4,cQ z),(5,dh z),(6,cK z)] 7
def mY(_:LV)(H:AH):Bool:=H.x.isSome
theorem yp{A A'}(h:hA A=hA A'):A=A':=by have h0:=congrArg (λH=>AH.aR H 0) h;have h1:=congrArg (λH=>AH.aR H 1) h;have h2:=congrArg (λH=>AH.aR H 2) h;have h3:=congrArg (λH=>AH.aR H 3) h;have h4:=congrArg (λH=>AH.aR H 4) h;have h5:=congrArg (λH=>AH.aR H 5) h;have h6:=congrArg (λH=>AH.aR H 6) h;have h7:=congrArg AH.x h;replace h1:some (cO A)=some (cO A'):=h1;replace h6:some (cK A)=some (cK A'):=h6;have⟨a0,a1,a2,a3,a4,a5,a6,a7,a8,a9,KJ,KK,KL,KM,KN,KO⟩:=A;have⟨b0,b1,b2,b3,b4,b5,b6,b7,b8,b9,HG,HH,U4,U6,U7,U8⟩:=A';simp only[dV,cO,dv,du,cQ,dh,cK,lN,aO.ah.injEq,aO.au.injEq,aO.bI.injEq,fG,AV.bD.injEq,AV.ad.injEq,XH.mk.injEq,true_and,and_true]at h0 h1 h2 h3 h4 h5 h6 h7;obtain⟨rfl,rfl,rfl,rfl⟩:=h0;obtain⟨rfl,rfl⟩:=h2;obtain⟨rfl,rfl⟩:=h3;obtain⟨rfl,rfl⟩:=h4;obtain⟨rfl,rfl⟩:=h5;obtain⟨rfl,rfl⟩:=h7;subst h1 h6;rfl
def Ar.tk(A:Ar):Ar:={A with id:=wI (A.id+1)}
def tkX:bT Ar where
 aI w A H:=A=[.aa 0 0]/\H=hA w
 v w:=J (wI (wI (w.id+1)-1))
 aD w:=hA w.tk
theorem aNj:tkX.bM:=λA A' _ _ h1 h2=>by rw[yp (h1.2.symm.trans h2.2)]
def Up:Ev.aX:=bx 41 (bE tkX aNj mY) K45
def Gj(x:Int)(l:List bN):Int:=l.foldl (λx f=>if wI (f.bh.an+1)>x then wI (f.bh.an+1)else x) x
def Ar.ps(A:Ar)(l:List bN):Ar:={A with an:=Gj A.an l}
def psX:bT (Ar×List bN)where
 aI w A H:=A=[.aa 0 0,.aq (dR w.2) w.2.length 5]/\H=hA w.1/\w.2.length<=4000000
 v w:=.aL []
 aD w:=hA (w.1.ps w.2)
theorem aFB:psX.bM:=by rintro⟨A,l⟩ ⟨A',l'⟩ _ _ ⟨h1,h2,_⟩ ⟨h3,h4,_⟩;simp only at h1 h2 h3 h4;rw[h1]at h3;simp at h3;rw[yp (h2.symm.trans h4),VK h3.2 h3.1]
def K47:Ev.aX:=bx 53 (bE psX aFB mY) Up
def aqJ:Nat->LN:=dY [(1,[0,6,7,8])]
def I_:Nat->LN:=dY [(2,[0,1,2,6,12,13,14])]
def n9(i k n:Int)(s:LN)(cs:LV)(len:Nat)(k' n':Int)(s':LN)(cs':LV)(len':Nat):aO:=.ah [J i,J k,J n,.ao s,.aq cs len 4,J k',J n',.ao s',.aq cs' len' 4] 53
def ann:LV->AH->Option (Prop×AV×AH)
 |[.aa 0 0],H=>match H.aR 0 with
  |some (.ah [.bD .i64 i,.bD .i64 k,.bD .i64 n,.ao s,.aq cs len 4,.bD .i64 k',.bD .i64 n',.ao s',.aq cs' len' 4] _)=>some (H=aE [(0,n9 i k n s cs len k' n' s' cs' len')] 1,J i,aE [(0,n9 i k n s cs len k' n' s' cs' len')] 1)
  |_=>none
 |_,_=>none
def Pb:Ev.aX:=eD 29 ann K47
def rl(z:Ar)(o:aO):AH:=cC z.X z.xc [(0,dV z 2 3 4 5 6 7),(1,o),(2,cO z),(3,dv z),(4,du z),(5,cQ z),(6,dh z),(7,cK z)] 8
def Qx(z:Ar)(o:aO)(bs:LV):AH:=cC z.X z.xc [(0,dV z 2 3 4 5 6 7),(1,o),(2,cO z),(3,dv z),(4,du z),(5,cQ z),(6,dh z),(7,cK z),(8,.au bs 44)] 9
abbrev ahF(h0:Ar) h1 h2:=cC h0.X h0.xc (J7 h1 (cO h0) (dv h0) (du h0) (cQ h0) (dh h0) h2) 7
abbrev av8(h0:Ar) h1 h2:=ahF h0 (.ah [J h0.an,h1,.ad 1 h0.ng 1,.aS 2,.aS 3,.aS 4,.aS 5,h2,.aM] 78) (cK h0)
theorem aLo{z L Q}:
 Cp K45 L Q 41 (hA z)=Q (J (wI (wI (z.id+1)-1))) (av8 z (cu z.id) (.ad 6 z.na 9)):=by kernel_rfl
theorem aLP{z fs nf L Q}:
 fA Up aqJ L Q 53 (sV (.aq fs nf 5)) (hA z)=L (aJ (Ob 0 (.aa 0 0) 6 fs nf 5 7 8 (J 0))) (hA z) (aB Z 53 0):=by kernel_rfl
abbrev Hl h0 h1 h2 h3 h4 h5 h6 h7 h8 h9 dG:=(.ah [J h0,J h1,.ad h2 h3 1,.aS h4,.aS h5,.aS h6,.aS h7,.ad h8 h9 9,dG] 78:aO)
theorem aLQ{z fs nf i L Q}:
 ju Up aqJ L Q 53 7 (Ob 0 (.aa 0 0) 6 fs nf 5 7 8 (J i)) (hA z)=Z' i nf fs (λs=>λn=>λbm=>λcs=>λlen=>λcA=>λb_=>L (aJ (Ob 0 (.aa 0 0) 6 fs nf 5 7 8 (cu i))) (ahF z (Hl (Ot (wI (bm+1)) z.an) z.id 1 z.ng 2 3 4 5 6 z.na .aM) (cK z)) (aB Z 53 0)) (Q (.aL []) (hA z)):=by kernel_rfl
theorem aLa{i k n s cs len k' n' s' cs' len' L Q}:
 Cp K47 L Q 29 (iA (n9 i k n s cs len k' n' s' cs' len'))=Q (J i) (iA (n9 i k n s cs len k' n' s' cs' len')):=by kernel_rfl
abbrev ahC h0 h1 h2 h3 h4:=([(0,.aa 0 0),(1,.aq h0 h1 5),(2,h2),(6,h3),(12,.aq h0 h1 5),(13,J (a_ h1)),(14,h4)]:List (Nat×AV))
theorem aK9{z fs nf i k n s cs len k' n' s' cs' len' L Q}:
 fA Pb I_ L Q 28 [.aa 0 0,.aq fs nf 5,oJ 29 1] (rl z (n9 i k n s cs len k' n' s' cs' len'))=L (aJ (ahC fs nf (oJ 29 1) .aM (J 0))) (rl z (n9 i k n s cs len k' n' s' cs' len')) (aB Z 28 0):=by kernel_rfl
abbrev avA(h0:Cw):=Tq h0.b.id h0.b.bh.eQ h0.b.bh.ar h0.b.bh.an h0.b.xM.1 h0.b.xM.2.1 h0.b.xM.2.2.1 h0.b.xM.2.2.2 (.aq (dt h0.b.wm) h0.b.wm.length 6)
abbrev ahY h0 h1 h2 h3 h4:=Ax h0 h1 h2 (dv h3) (du h3) (cQ h3) (dh h3) (cK h3) h4
abbrev ah7 h0 h1 h2 h3:=ahC h0 h1 (.cw (.func 41) [.aa 0 0] []) (.ad 8 h2 9) h3
abbrev avZ h0 h1 h2 h3 h4 h5 h6 h7(h8:Cw) h9:=(([.aj (rS h0 h1 h2 h3 h4 h5 h6),J h7]:LV)=[.aj (iE h8.f),J h8.i]/\dc (km h8.f/\vX h8.f/\ic h8.f h8.i=Prod.mk h8.b h8.e))/\h9
abbrev awa h0 h1(h2:Ar×List bN) h3:=Cn (.aq h0 h1 5) (.aq (dR h2.2) h2.2.length 5)/\hA h3=hA h2.1/\h2.2.length<=4000000
abbrev Cv(h0:Ar) h1 h2:=cC h0.X h0.xc h1 h2
theorem atS{z fs nf i k n s cs len k' n' s' cs' len' j L Q}:
 ju Pb I_ L Q 28 8 (ahC fs nf (oJ 29 1) .aM (J j)) (rl z (n9 i k n s cs len k' n' s' cs' len'))=Z' j nf fs (λcX=>λbm=>λbS=>λcA=>λb_=>λmT=>λnj=>iA (n9 i k n s cs len k' n' s' cs' len')=iA (n9 i k n s cs len k' n' s' cs' len')/\im (.aj (rS cX bm bS cA b_ mT nj))/\(∃w:Cw,avZ cX bm bS cA b_ mT nj i w (gT (w.e !=0) (Q (J3 w.e) (rl z (n9 i k n s cs len k' n' s' cs' len'))) L (aJ (ah7 fs nf 1 (cu j))) (Cv z (ahY (dV z 2 3 4 5 6 7) (n9 i k n s cs len k' n' s' cs' len') (cO z) z (.ah (avA w) 44)) 9) 28 0))) (∃w:Ar×List bN,awa fs nf w z/\Q (J3 0) (rl (w.1.ps w.2) (n9 i k n s cs len k' n' s' cs' len'))):=by kernel_rfl
theorem atU{z fs nf i k n s cs len k' n' s' cs' len' bs nb j L Q}:
 ju Pb I_ L Q 28 8 (ah7 fs nf nb (J j)) (Qx z (n9 i k n s cs len k' n' s' cs' len') bs)=Z' j nf fs (λcX=>λbm=>λbS=>λcA=>λb_=>λmT=>λnj=>∃w,uY (hA z=hA w) (im (.aj (rS cX bm bS cA b_ mT nj))/\(∃aH:Cw,avZ cX bm bS cA b_ mT nj (wI (wI (w.id+1)-1)) aH (aZ (aH.e !=0) (Q (J3 aH.e) (rl w.tk (n9 i k n s cs len k' n' s' cs' len'))) (xH bs nb 9 L (ah7 fs nf (nb+1) (cu j)) (Qx w.tk (n9 i k n s cs len k' n' s' cs' len') (bs++avA aH)) 28 0))))) (∃w:Ar×List bN,awa fs nf w z/\Q (.aL [.ad 8 nb 9,J 0]) (Qx (w.1.ps w.2) (n9 i k n s cs len k' n' s' cs' len') bs)):=by kernel_rfl
theorem ajL:aF Z K45:=by
 refine bY awV ?_;rintro⟨f,i,b,e⟩ args H ⟨rfl,rfl,hf,hs,hc⟩;have h:=Fj abB (w:=(f,i)) ⟨rfl,rfl,hf,λ_=>hs⟩ rfl;have h2:bC Z 52 [.aj (iE f),J i] ay (.aL [.aj (A3 b (.ad 0 b.wm.length 6)),J e]) (aE [(0,.au (dt b.wm) 56)] 1):=by have h3:bC Z 52 [.aj (iE f),J i] ay (.aL [.aj (A3 (ic f i).1 (.ad 0 (ic f i).1.wm.length 6)),J (ic f i).2]) (hB (ic f i).1):=h;rw[hc]at h3;exact h3
 have h4:=si (g:=0) h2 rfl (eh _);have e1:fO 0 (dt b.wm) (.aL [.aj (A3 b (.ad 0 b.wm.length 6)),J e])=.aL [.aj (ye b),J e]:=by simp[fO,oU,A3,ye,Fc]
 rw[e1]at h4;exact kJ (ps:=[]) h4
theorem abp:aF Z Up:=by refine bY ajL ?_;rintro A args H ⟨rfl,rfl⟩;refine eE 15 ajL aLo ?_;exact aA
theorem aLO{A:Ar}{l}(hl:l.length<=4000000):∀i:Nat,i<=l.length->ba Z 53 25 7 (.aL []) (hA (A.ps l)) (aJ [(0,.aa 0 0),(6,.aq (dR l) l.length 5),(7,J (a_ l.length)),(8,J (i:Int))]) (hA (A.ps (l.take i))) (aB Z 53 0):=by
 refine dj (λi=>l.length-i) _ _ _ _ ?_;rintro i hi ih;refine hE abp aLQ ?_;delta cu;refine al (λae=>?_) λaY=>?_
 .have ae:i<l.length:=by simpa using ae
  have bP:=VL ae;have fw:A.ps (l.take (i+1))={A with an:=(if wI (l[i].bh.an+1)>Gj A.an (l.take i)then wI (l[i].bh.an+1)else Gj A.an (l.take i))}:=by simp only[Ar.ps,Gj];rw[qB,gg ae,Gy];rfl
  have h1:=ih (i+1) (by omega) (by omega);rw[fw]at h1;generalize l[i]=f at bP h1;have⟨⟨nm,ar,an⟩,ts,gs⟩:=f;refine⟨i,rfl,ae,nm,ar,an,az ts,ts.length,bX gs,gs.length,bP,?_⟩;rw[cb];exact h1
 .have aY:l.length<=i:=by simpa using aY
  rw[BN aY];exact aA
theorem ajM:aF Z K47:=by refine bY abp ?_;rintro⟨A,l⟩ args H ⟨rfl,rfl,hl⟩;refine eE 25 abp aLP ?_;exact aLO hl 0 (eh _)
theorem HB:aF Z Pb:=by
 refine KP ajM λargs H p v H' h hp=>?_
 unfold ann at h;split at h
 .split at h<;>cases h;subst hp;refine eE 4 ajM aLa ?_;exact aA
 .cases h
def SS(z:Ar):Int:=wI (wI (z.id+1)-1)
def iT:Ar->List bN->Ar×List cL×Int
 |z,[]=>(z,[],0)
 |z,f::l=>if(ic f (SS z)).2≠0 then(z.tk,[],(ic f (SS z)).2)else((iT z.tk l).1,(ic f (SS z)).1::(iT z.tk l).2.1,(iT z.tk l).2.2)
def mR(z:Ar)(i:Int):List bN->Ar×List cL×Int
 |[]=>(z.ps [],[],0)
 |f::l=>if(ic f i).2≠0 then(z,[],(ic f i).2)else if(iT z l).2.2≠0 then((iT z l).1,[],(iT z l).2.2)else((iT z l).1.ps (f::l),(ic f i).1::(iT z l).2.1,0)
def fh:List cL->LV
 |[]=>[]
 |b::l=>ye b++fh l
theorem acZ:∀a b:List cL,fh (a++b)=fh a++fh b
 |[],b=>rfl
 |x::a,b=>by simp only[j3,fh,acZ a b,jE]
theorem VG:∀l,(fh l).length=l.length*9
 |[]=>rfl
 |b::l=>by simp[fh,ye,VG l];omega
theorem az9(l):(fh l).all AV.dH=true/\(fh l).all f_=true:=by
 induction l with
 |nil=>exact aA
 |cons g l ih=>simp only[fh,sK,ih.1,ih.2,DU];exact aA
def vY(i:Int)(c:nK):aO:=n9 i c.1.bV c.1.n c.1.cq (az c.1.aU) c.1.aU.length c.2.bV c.2.n c.2.cq (az c.2.aU) c.2.aU.length
def K_(e:Int)(n:Nat):AV:=if e≠0 then .aL [.aM,J e]else .aL [.ad 8 n 9,J 0]
def K0(z:Ar)(l:List bN)(o:aO)(e:Int)(bs:List cL):AH:=if e≠0 then rl z o else Qx (z.ps l) o (fh bs)
theorem atT{l i c}(ho:∀f∈l,km f/\vX f)(hl:l.length<=4000000):∀t aI z bs,l=aI++t->bs.length=aI.length->
 ba Z 28 43 8 (K_ (iT z t).2.2 (bs++(iT z t).2.1).length) (K0 (iT z t).1 l (vY i c) (iT z t).2.2 (bs++(iT z t).2.1))
  (aJ [(0,.aa 0 0),(1,.aq (dR l) l.length 5),(2,.cw (.func 41) [.aa 0 0] []),(6,.ad 8 bs.length 9),(12,.aq (dR l) l.length 5),(13,J (a_ l.length)),(14,J (aI.length:Int))]) (Qx z (vY i c) (fh bs)) (aB Z 28 0)
 |[],aI,z,bs,e1,e2=>by
  rw[jt]at e1;subst e1;refine hE HB atU ?_;refine al (λae=>ab (cP ae)) λ_=>?_
  refine⟨(z,l),⟨rfl,rfl,hl⟩,?_⟩;simp only[iT,K_,K0,jt];exact aA
 |f::t,aI,z,bs,e1,e2=>by
  have ae:aI.length<l.length:=by rw[e1];simp
  have aCu:l[aI.length]=f:=by simp[e1]
  have vE:=ho f (by rw[e1];simp);have bP:=VL ae;rw[aCu]at bP;simp only[iT];generalize hc:ic f (SS z)=r;have⟨b,e⟩:=r;refine hE HB atU ?_;delta cu;have ih:=λb=>atT (i:=i) (c:=c) ho hl t (aI++[f]) z.tk (bs++[b]) (by rw[e1,jE];rfl) (by simp[e2])
  refine al (λ_=>?_) λaY=>ab (c9 aY)
  have⟨⟨nm,ar,an⟩,ts,gs⟩:=f;refine⟨aI.length,rfl,ae,nm,ar,an,az ts,ts.length,bX gs,gs.length,bP,z,aA,rfl,⟨⟨⟨nm,ar,an⟩,ts,gs⟩,SS z,b,e⟩,⟨rfl,rfl,vE.1,vE.2,hc⟩,al (λhe=>?_) λhe=>⟨⟨VG _,by omega,rfl,rfl⟩,?_⟩⟩
  .have he:e≠0:=by simpa using he
   rw[aP he];simp only[K_,K0,aP he];exact aA
  .have he:¬e≠0:=by simpa using he
   rw[aw he];rw[cb];have h1:=ih b;rw[jE,acZ,show(bs++[b]).length=bs.length+1 by simp,show(aI++[(⟨⟨nm,ar,an⟩,ts,gs⟩:bN)]).length=aI.length+1 by simp]at h1;exact h1
structure Mw where
 z:Ar
 i:Int
 c:nK
 l:List bN
 zf:Ar
 bl:List cL
 e:Int
def alH:bT Mw where
 aI w A H:=A=[.aa 0 0,.aq (dR w.l) w.l.length 5,.cw (.func 29) [] [.aa 1 0]]/\H=rl w.z (vY w.i w.c)/\(∀f∈w.l,km f/\vX f)/\w.l.length<=4000000/\mR w.z w.i w.l=(w.zf,w.bl,w.e)
 v w:=.aL [.aq (fh w.bl) w.bl.length 9,J w.e]
 aD w:=rl w.zf (vY w.i w.c)
theorem aBQ{A A' o o'}(h:rl A o=rl A' o'):A=A'/\o=o':=by have h0:=congrArg (λH=>AH.aR H 0) h;have h1:=congrArg (λH=>AH.aR H 2) h;have h2:=congrArg (λH=>AH.aR H 3) h;have h3:=congrArg (λH=>AH.aR H 4) h;have h4:=congrArg (λH=>AH.aR H 5) h;have h5:=congrArg (λH=>AH.aR H 6) h;have h6:=congrArg (λH=>AH.aR H 7) h;have h8:=congrArg (λH=>AH.aR H 1) h;have h7:=congrArg AH.x h;replace h1:some (cO A)=some (cO A'):=h1;replace h6:some (cK A)=some (cK A'):=h6;replace h8:some o=some o':=h8;have⟨a0,a1,a2,a3,a4,a5,a6,a7,a8,a9,KJ,KK,KL,KM,KN,KO⟩:=A;have⟨b0,b1,b2,b3,b4,b5,b6,b7,b8,b9,HG,HH,U4,U6,U7,U8⟩:=A';simp only[dV,cO,dv,du,cQ,dh,cK,lN,aO.ah.injEq,aO.au.injEq,aO.bI.injEq,fG,AV.bD.injEq,AV.ad.injEq,XH.mk.injEq,true_and,and_true]at h0 h1 h2 h3 h4 h5 h6 h7 h8;obtain⟨rfl,rfl,rfl,rfl⟩:=h0;obtain⟨rfl,rfl⟩:=h2;obtain⟨rfl,rfl⟩:=h3;obtain⟨rfl,rfl⟩:=h4;obtain⟨rfl,rfl⟩:=h5;obtain⟨rfl,rfl⟩:=h7;subst h1 h6 h8;exact aA
theorem aMK{i i' c c'}(h:vY i c=vY i' c'):i=i'/\c=c':=by have⟨⟨k,n,s,l⟩,⟨k2,n2,s2,l2⟩⟩:=c;have⟨⟨k',n',s',l'⟩,⟨k2',n2',Sy,l2'⟩⟩:=c';simp only[vY,n9,ax.bV,ax.n,ax.cq,ax.aU,aO.ah.injEq,fG,AV.bD.injEq,AV.ao.injEq,AV.aq.injEq,true_and,and_true]at h;obtain⟨rfl,rfl,rfl,rfl,⟨e1,e2⟩,rfl,rfl,rfl,e3,e4⟩:=h;rw[vn e2 e1,vn e4 e3];exact aA
theorem ayZ:alH.bM:=by rintro⟨z,i,c,l,zf,bl,e⟩ ⟨z',i',c',l',zf',bl',e'⟩ A H ⟨h1,h2,_,_,q1⟩ ⟨h3,h4,_,_,q2⟩;rw[h1]at h3;rw[h2]at h4;simp at h3;have⟨e1,e2⟩:=aBQ h4;have⟨e3,e4⟩:=aMK e2;have e5:=VK h3.2 h3.1;subst e1 e3 e4 e5;rw[q1]at q2;cases q2;rfl
def Pc:Ev.aX:=bx 28 (bE alH ayZ mY) Pb
theorem ayX{z zf i c l bl e}(ho:∀f∈l,km f/\vX f)(hl:l.length<=4000000)(hr:mR z i l=(zf,bl,e)):
 bC Z 28 [.aa 0 0,.aq (dR l) l.length 5,.cw (.func 29) [] [.aa 1 0]] (rl z (vY i c)) (.aL [.aq (fh bl) bl.length 9,J e]) (rl zf (vY i c)):=by
 have GK:∀v H1,ba Z 28 43 8 v H1 (aJ [(0,.aa 0 0),(1,.aq (dR l) l.length 5),(2,.cw (.func 29) [] [.aa 1 0]),(6,.aM),(12,.aq (dR l) l.length 5),(13,J (a_ l.length)),(14,J 0)]) (rl z (vY i c)) (aB Z 28 0)->bC Z 28 [.aa 0 0,.aq (dR l) l.length 5,.cw (.func 29) [] [.aa 1 0]] (rl z (vY i c)) v H1:=by intro v H1 h;refine eS HB I_ 43 ?_;exact cast (@aK9 z (dR l) l.length i c.1.bV c.1.n c.1.cq (az c.1.aU) c.1.aU.length c.2.bV c.2.n c.2.cq (az c.2.aU) c.2.aU.length _ _).symm h
 cases l with
 |nil=>cases hr;refine sj (v:=.aL [.aM,J 0]) (GK _ _ ?_) (Wk.B0 (.tQ 9 (.mn _))) (by show(8:Nat)<=8;omega);refine hD HB I_ ?_;refine cast (@atS z [] 0 i c.1.bV c.1.n c.1.cq (az c.1.aU) c.1.aU.length c.2.bV c.2.n c.2.cq (az c.2.aU) c.2.aU.length 0 _ _).symm ?_;exact al (λh=>ab (cP h)) λ_=>⟨(z,[]),⟨rfl,rfl,by simp⟩,rfl,rfl⟩
 |cons f t=>
  have vE:=ho f (dk ..);have hf0:=λv H1=> @atS z (dR (f::t)) (f::t).length i c.1.bV c.1.n c.1.cq (az c.1.aU) c.1.aU.length c.2.bV c.2.n c.2.cq (az c.2.aU) c.2.aU.length 0 (ba Z 28 43 8 v H1) (fD v H1)
  simp only[mR]at hr;by_cases he:(ic f i).2≠0
  .rw[aP he]at hr;generalize hc:ic f i=r at he hr;obtain⟨b,e1⟩:=r;cases hr;refine sj (v:=.aL [.aM,J e1]) (GK _ _ ?_) (Wk.B0 (.tQ 9 (.mn _))) (by show(8:Nat)<=8;omega);refine hD HB I_ ?_;refine cast (hf0 _ _).symm ?_;obtain⟨⟨nm,ar,an⟩,ts,gs⟩:=f;exact al (λ_=>⟨0,rfl,Gv _,nm,ar,an,az ts,ts.length,bX gs,gs.length,rfl,rfl,rfl,⟨⟨⟨nm,ar,an⟩,ts,gs⟩,i,b,e1⟩,⟨rfl,rfl,vE.1,vE.2,hc⟩,al (λ_=>aA) λh=>absurd (by simpa using h) he⟩) λh=>ab (c9 h)
  .rw[aw he]at hr;generalize hc:ic f i=r at he hr;obtain⟨b,e1⟩:=r;have h1:bC Z 28 [.aa 0 0,.aq (dR (f::t)) (f::t).length 5,.cw (.func 29) [] [.aa 1 0]] (rl z (vY i c)) (K_ (iT z t).2.2 ([b]++(iT z t).2.1).length) (K0 (iT z t).1 (f::t) (vY i c) (iT z t).2.2 ([b]++(iT z t).2.1)):=by
    have hh:=atT (i:=i) (c:=c) ho hl t [f] z [b] rfl rfl;refine GK _ _ ?_;refine hD HB I_ ?_;refine cast (hf0 _ _).symm ?_;obtain⟨⟨nm,ar,an⟩,ts,gs⟩:=f;refine al (λ_=>⟨0,rfl,Gv _,nm,ar,an,az ts,ts.length,bX gs,gs.length,rfl,rfl,rfl,⟨⟨⟨nm,ar,an⟩,ts,gs⟩,i,b,e1⟩,⟨rfl,rfl,vE.1,vE.2,hc⟩,al (λh=>absurd (by simpa using h) he) λ_=>?_⟩) λh=>ab (c9 h)
    exact zG (xx:=some ⟨z.X,z.xc⟩) (g:=8) (n:=9) (T:=[(0,.aa 0 0),(1,.aq (dR (⟨⟨nm,ar,an⟩,ts,gs⟩::t)) (bN.mk ⟨nm,ar,an⟩ ts gs::t).length 5),(2,.cw (.func 41) [.aa 0 0] []),(6,.ad 8 1 9),(12,.aq (dR (⟨⟨nm,ar,an⟩,ts,gs⟩::t)) (bN.mk ⟨nm,ar,an⟩ ts gs::t).length 5),(13,J (a_ (bN.mk ⟨nm,ar,an⟩ ts gs::t).length)),(14,J 1)]) hh rfl (λI e o h=>r7 rfl h) rfl
   by_cases zE:(iT z t).2.2≠0
   .rw[aP zE]at hr;simp only[K_,K0,aP zE]at h1;cases hr;exact sj h1 (Wk.B0 (.tQ 9 (.mn _))) (by show(8:Nat)<=8;omega)
   .rw[aw zE]at hr;simp only[K_,K0,aw zE]at h1;cases hr;have e1:fO 8 (fh ([b]++(iT z t).2.1)) (.aL [.ad 8 ([b]++(iT z t).2.1).length 9,J 0])=.aL [.aq (fh (b::(iT z t).2.1)) (b::(iT z t).2.1).length 9,J 0]:=by simp[fO,oU,VG]
    generalize (iT z t).1.ps (f::t)=zz at h1⊢;have h4:=si (g:=8) h1 rfl (by show(8:Nat)<=9;omega);rw[e1]at h4;exact kJ (ps:=[(0,0),(1,1),(2,2),(3,3),(4,4),(5,5),(6,6),(7,7)]) h4
theorem Uq:aF Z Pc:=by refine bY HB ?_;rintro⟨z,i,c,l,zf,bl,e⟩ args H ⟨rfl,rfl,ho,hl,hr⟩;exact ayX ho hl hr
structure En where
 p:gZ
 n:Nat
 aW:LI
 b:Nat
def nh(p:gZ):AV:=.aj [.ao p.eQ,J p.ar,J p.an]
def GC(n:Nat):LI->AV
 |[]=>.aM
 |i::l=>.gV n (l.length+1) 1
def A4(e:En):AV×AV×Nat:=(nh e.p,GC e.n e.aW,e.b)
def dS(m:List En):ES:=m.map A4
theorem aAH(a b c d e f):iP Z 100 39 (.aj [.ao a,J c,J e]) (.aj [.ao b,J d,J f])=some (bO a b&&((c==d)&&((e==f)&&true))):=
 (V1 (by kernel_rfl)).1
theorem eqP(p q):iP Z 100 39 (nh p) (nh q)=some (decide (p=q)):=by have⟨a,c,e⟩:=p;have⟨b,d,f⟩:=q;rw[nh,nh,aAH,pB];congr 1;rw[sL];simp
def hQ(p:gZ):List En->Option En
 |[]=>none
 |e::m=>if p=e.p then some e else hQ p m
def vG(p:gZ):List En->Nat->Option (Nat×En)
 |[],_=>none
 |e::m,i=>if p=e.p then some (i,e)else vG p m (i+1)
theorem Rm(p):∀m i,(vG p m i).map (·.2)=hQ p m
 |[],_=>rfl
 |e::m,i=>by
  simp only[vG,hQ];split
  .rfl
  .exact Rm p m (i+1)
theorem apQ{p}:∀{m i j e},vG p m i=some (j,e)->i<=j/\m[j-i]? =some e/\e.p=p
 |e0::m,i,j,e,h=>by
  simp only[vG]at h;split at h;next hp=>cases h;simp[hp]
  .have⟨h1,h2,h3⟩:=apQ h;refine⟨by omega,?_,h3⟩;rw[show j-i=(j-(i+1))+1 by omega,qda];exact h2
theorem LH(p):∀m i,pD (iP Z 100 39) (nh p) (dS m) i=some ((vG p m i).map λx=>(x.1,GC x.2.n x.2.aW,x.2.b))
 |[],i=>rfl
 |e::m,i=>by
  have ih:=LH p m (i+1);simp only[dS,e9,A4,pD,eqP,vG];by_cases h:p=e.p
  .simp[h]
  .simp only[h,decide_false,if_false];exact ih
theorem aP7(m p):lu Z 39 35 (dS m) (nh p)=some (match hQ p m with|some e=>(GC e.n e.aW,true)|none=>(.aM,false)):=by
 unfold lu;rw[LH,<-Rm p m 0];cases vG p m 0 with
 |none=>rfl
 |some x=>rfl
theorem atq:∀{m i e},m[i]? =some e->qF (dS m) i (λx=>(nh e.p,x.2))=dS m
 |e0::m,0,e,h=>by cases h;rfl
 |e0::m,i+1,e,h=>by have:=atq (by simpa using h);simp only[dS]at this;simp only[dS,e9,qF,this]
theorem aAF(p):Ly (nh p) (nh p)=true:=by have⟨a,b,c⟩:=p;simp[nh,Ly,Ie,Lz,pB]
theorem aBe{m c p e}(h:hQ p m=some e):Fu Z 39 35 (dS m) c true (nh p)=some (GC e.n e.aW,e.b,dS m,c):=by
 unfold Fu;rw[LH];rw[<-Rm p m 0]at h;cases h2:vG p m 0 with
 |none=>rw[h2]at h;cases h
 |some x=>
  have⟨j,e'⟩:=x;rw[h2]at h;obtain rfl:e'=e:=by simpa using h
  have⟨_,h3,h4⟩:=apQ h2;have hs:Aj (dS m) j (nh p)=true:=by unfold Aj dS;rw[sJ,show m[j]? =some e' from h3];simp only[uL,A4,h4];exact aAF p
  have hf:yi true (nh p) .kZ=true:=rfl;simp only[uL,hs,hf,mg,cond_true];have:=atq (i:=j) h3;rw[h4]at this;rw[this]
theorem aBd{m c p}(h:hQ p m=none):Fu Z 39 35 (dS m) c true (nh p)=some (.aM,c,dS (m++[⟨p,0,[],c⟩]),c+1):=by
 unfold Fu;rw[LH];rw[<-Rm p m 0]at h;cases h2:vG p m 0 with
 |some x=>rw[h2]at h;cases h
 |none=>
  have hz:kA Z 35=some .aM:=by kernel_rfl
  have hf:yi true (nh p) .aM=true:=rfl;simp only[Option.map_none,hz,hf,cond_true,dS,lP];rfl
def rN(p:gZ)(n:Nat)(aW:LI):List En->List En
 |[]=>[]
 |e::m=>if p=e.p then{e with n:=n,aW:=aW}::m else e::rN p n aW m
theorem af6{p n aW}:∀{m e},hQ p m=some e->(m.map En.b).Nodup->Gl (dS m) e.b (GC n aW)=some (dS (rN p n aW m))
 |e0::m,e,h,hn=>by
  simp only[hQ]at h;rw[e9,uN]at hn;split at h;next hp=>cases h;simp only[Gl,dS,e9,A4,List.findIdx?_cons,j4,if_true,rN,hp,qF]
  next hp=>
   have ih:=af6 (n:=n) (aW:=aW) h hn.2;have cx:Nat.beq e0.b e.b=false:=by
    cases hb:Nat.beq e0.b e.b with
    |false=>rfl
    |true=>
     exfalso;have:=dN hb;apply hn.1;rw[this];have hm:∀{m:List En} {e:En},hQ p m=some e->e∈m:=by
      intro m;induction m with
      |nil=>intro e h;cases h
      |cons x m ih=>
       intro e h;simp only[hQ]at h;split at h
       .cases h;exact dk ..
       .exact dZ _ (ih h)
     exact rI (hm h)
   simp only[Gl,dS]at ih⊢;simp only[e9,A4,List.findIdx?_cons,cx,rN,hp,if_false];cases hf:List.findIdx? (λe_1=>Nat.beq e_1.2.2 e.b) (List.map A4 m)with
   |none=>rw[hf]at ih;cases ih
   |some i=>rw[hf]at ih;simp at ih;simp[qF,ih]
def sk(p:gZ)(m:List En)(c:Nat):List En×Nat:=match hQ p m with
 |some _=>(m,c)
 |none=>(m++[⟨p,0,[],c⟩],c+1)
def jb(p:gZ)(m:List En)(c:Nat):En:=(hQ p m).getD ⟨p,0,[],c⟩
theorem amC{p c}:∀{m},hQ p m=none->hQ p (m++[⟨p,0,[],c⟩])=some ⟨p,0,[],c⟩
 |[],_=>by simp[hQ]
 |e::m,h=>by
  simp only[hQ]at h;split at h
  .cases h
  next hp=>simp only[j3,hQ,aw hp];exact amC h
theorem VT(p m c):hQ p (sk p m c).1=some (jb p m c):=by
 unfold sk jb;cases h:hQ p m with
 |some e=>exact h
 |none=>exact amC h
theorem am6{m c p}:Ic Z 39 35 1 (dS m) c true (nh p)=some (if(jb p m c).aW=[]then 0 else(jb p m c).n,(jb p m c).aW.length,(jb p m c).b,dS (sk p m c).1,(sk p m c).2):=by
 unfold Ic sk jb;cases h:hQ p m with
 |none=>rw[aBd h];rfl
 |some e=>
  rw[aBe h];have⟨q,n,aW,b⟩:=e;cases aW with
  |nil=>rfl
  |cons i l=>rfl
structure Ks where
 m:List En
 c:Nat
 X:Nat->Option aO
 xc:Nat
def Cg(g:Nat->Option aO)(c id len:Nat)(vs:LV)(el:TypeId):Nat->Option aO:=λi=>bif Nat.beq i c then some (.au vs el)else bif Nat.beq i id&& !Nat.beq len 0 then none else g i
def Ks.nm(k:Ks)(p:gZ):Nat:=if(jb p k.m k.c).aW=[]then 0 else(jb p k.m k.c).n
def Ks.qP(k:Ks)(p:gZ)(i:Int):Ks:=
 ⟨rN p k.xc ((jb p k.m k.c).aW++[i]) (sk p k.m k.c).1,(sk p k.m k.c).2,Cg k.X k.xc (k.nm p) (jb p k.m k.c).aW.length (bc (jb p k.m k.c).aW++[J i]) 2,k.xc+1⟩
structure Ks.OK(k:Ks)(L:Nat):Prop where
 Ns:(k.m.map En.b).Nodup
 lt:∀e∈k.m,e.b<k.c
 XN:(k.m.map En.p).Nodup
 nil:∀e∈k.m,e.aW=[]->e.n=0
 Ai:∀e∈k.m,e.aW≠[]->e.n<k.xc/\k.X e.n=some (.au (bc e.aW) 2)
 RL:∀e∈k.m,∀e'∈k.m,e.aW≠[]->e'.aW≠[]->e.n=e'.n->e=e'
 len:∀e∈k.m,e.aW.length<=L
theorem VE{p}:∀{m e},hQ p m=some e->e∈m/\e.p=p
 |x::m,e,h=>by
  simp only[hQ]at h;split at h;next hp=>cases h;exact⟨dk ..,hp.symm⟩
  .exact⟨dZ _ (VE h).1,(VE h).2⟩
theorem amE{p}:∀{m},hQ p m=none->∀e∈m,e.p≠p
 |x::m,h,e,he=>by
  simp only[hQ]at h;split at h
  .cases h
  next hp=>
   rcases dU.1 he with rfl|he
   .exact λh=>hp h.symm
   .exact amE h e he
theorem RN{k:Ks}{L}(h:k.OK L)(p):Ks.OK ⟨(sk p k.m k.c).1,(sk p k.m k.c).2,k.X,k.xc⟩ L:=by
 unfold sk;cases hp:hQ p k.m with
 |some e=>exact h
 |none=>
  have hn:=amE hp;refine⟨?_,?_,?_,?_,?_,?_,?_⟩
  .rw[lP,List.nodup_append];refine⟨h.Ns,by simp,λa ha b hb=>?_⟩;obtain⟨e,he,rfl⟩:=vT.1 ha;simp at hb;have:=h.lt e he;omega
  .intro e he;rcases iK.1 he with he|he
   .have:=h.lt e he;simp only;omega
   .rw[vQ.1 he];simp only;omega
  .rw[lP,List.nodup_append];refine⟨h.XN,by simp,λa ha b hb=>?_⟩;obtain⟨e,he,rfl⟩:=vT.1 ha;simp at hb;rw[hb];exact hn e he
  .intro e he;rcases iK.1 he with he|he
   .exact h.nil e he
   .rw[vQ.1 he];exact λ_=>rfl
  .intro e he cx;rcases iK.1 he with he|he
   .exact h.Ai e he cx
   .rw[vQ.1 he]at cx;exact absurd rfl cx
  .intro e he e' kU h1 h2;rcases iK.1 he with he|he
   .rcases iK.1 kU with kU|kU
    .exact h.RL e he e' kU h1 h2
    .rw[vQ.1 kU]at h2;exact absurd rfl h2
   .rw[vQ.1 he]at h1;exact absurd rfl h1
  .intro e he;rcases iK.1 he with he|he
   .exact h.len e he
   .rw[vQ.1 he];simp
theorem PT{k:Ks}(p):jb p k.m k.c∈(sk p k.m k.c).1/\(jb p k.m k.c).p=p:=VE (VT p k.m k.c)
theorem aqW{p n aW}:∀{m x},(m.map En.p).Nodup->x∈rN p n aW m->(∃e∈m,e.p=p/\x={e with n:=n,aW:=aW})\/(x∈m/\x.p≠p)
 |e::m,x,hn,h=>by
  rw[e9,uN]at hn;simp only[rN]at h;split at h;next hp=>
   rcases dU.1 h with rfl|h
   .exact .inl ⟨e,dk ..,hp.symm,rfl⟩
   .refine .inr ⟨dZ _ h,λhx=>hn.1 ?_⟩;rw[<-hp,<-hx];exact rI h
  next hp=>
   rcases dU.1 h with rfl|h
   .exact .inr ⟨dk ..,λhx=>hp hx.symm⟩
   .rcases aqW hn.2 h with⟨e',h1,h2,h3⟩|⟨h1,h2⟩
    .exact .inl ⟨e',dZ _ h1,h2,h3⟩
    .exact .inr ⟨dZ _ h1,h2⟩
theorem afk{F:Type}(f:En->F){p n aW}(hf:∀e,f {e with n:=n,aW:=aW}=f e):∀m,(rN p n aW m).map f=m.map f
 |[]=>rfl
 |e::m=>by
  simp only[rN];split
  .simp only[e9,hf]
  .simp only[e9,afk f hf m]
theorem aEP{k:Ks}{L}(h:k.OK L)(p):k.nm p=(jb p k.m k.c).n:=by
 unfold Ks.nm;split;next h0=>exact((RN h p).nil _ (PT p).1 h0).symm
 .rfl
theorem aDv{m:List En}(hn:(m.map En.p).Nodup){e e'}(h1:e∈m)(h2:e'∈m)(h:e.p=e'.p):e=e':=by
 induction m with
 |nil=>cases h1
 |cons x m ih=>
  rw[e9,uN]at hn;rcases dU.1 h1 with a1|a1<;>rcases dU.1 h2 with a2|a2
  .rw[a1,a2]
  .exact absurd (by rw[<-a1,h];exact rI a2) hn.1
  .exact absurd (by rw[<-a2,<-h];exact rI a1) hn.1
  .exact ih hn.2 a1 a2
theorem Ks.OK.add{k:Ks}{L}(h:k.OK L)(p i):(k.qP p i).OK (L+1):=by
 have h1:=RN h p;have⟨c1,c2⟩:=PT (k:=k) p;have hk:=h1.XN;have up:=fun{x:En} (hx:x∈(k.qP p i).m)=>aqW hk hx
 have W3:∀e∈(sk p k.m k.c).1,e.p=p->e=jb p k.m k.c:=λe he hp=>aDv hk he c1 (hp.trans c2.symm)
 refine⟨?_,?_,?_,?_,?_,?_,?_⟩
 .show((rN _ _ _ _).map En.b).Nodup;rw[afk En.b (λ_=>rfl)];exact h1.Ns
 .intro x hx;rcases up hx with⟨e,he,hp,rfl⟩|⟨he,hp⟩
  .exact h1.lt e he
  .exact h1.lt x he
 .show((rN _ _ _ _).map En.p).Nodup;rw[afk En.p (λ_=>rfl)];exact hk
 .intro x hx h0;rcases up hx with⟨e,he,hp,rfl⟩|⟨he,hp⟩
  .simp at h0
  .exact h1.nil x he h0
 .intro x hx h0;rcases up hx with⟨e,he,hp,rfl⟩|⟨he,hp⟩
  .refine⟨by show k.xc<k.xc+1;omega,?_⟩;show Cg k.X k.xc _ _ _ _ k.xc=_;simp only[Cg,j4,cond_true,bc,lP,e9,List.map_nil]
  .have⟨r1,r2⟩:=h1.Ai x he h0;simp only at r1 r2;refine⟨by show x.n<k.xc+1;omega,?_⟩;show Cg k.X k.xc _ _ _ _ x.n=_;have e1:Nat.beq x.n k.xc=false:=by
    cases hb:Nat.beq x.n k.xc with
    |false=>rfl
    |true=>have:=dN hb;omega
   have e2:(Nat.beq x.n (k.nm p)&& !Nat.beq (jb p k.m k.c).aW.length 0)=false:=by
    cases hb:Nat.beq x.n (k.nm p)with
    |false=>rfl
    |true=>
     cases hc:Nat.beq (jb p k.m k.c).aW.length 0 with
     |true=>rfl
     |false=>
      exfalso;have hb:=dN hb;rw[aEP h p]at hb;have cx:(jb p k.m k.c).aW≠[]:=by intro hn;rw[hn]at hc;cases hc
      have:=h1.RL x he _ c1 h0 cx hb;exact hp (by rw[this];exact c2)
   simp only[Cg,e1,e2,cond_false];exact r2
 .intro x hx y hy h0 h2 DE;rcases up hx with⟨e,he,hp,rfl⟩|⟨he,hp⟩
  .rcases up hy with⟨e',kU,Xk,rfl⟩|⟨kU,Xk⟩
   .rw[W3 e he hp,W3 e' kU Xk]
   .have:=(h1.Ai y kU h2).1;simp only at DE this;omega
  .rcases up hy with⟨e',kU,Xk,rfl⟩|⟨kU,Xk⟩
   .have:=(h1.Ai x he h0).1;simp only at DE this;omega
   .exact h1.RL x he y kU h0 h2 DE
 .intro x hx;rcases up hx with⟨e,he,hp,rfl⟩|⟨he,hp⟩
  .have:=h1.len _ c1;simp;omega
  .have:=h1.len x he;omega
theorem Ks.OK.mono{k:Ks}{L L'}(h:k.OK L)(hl:L<=L'):k.OK L':=⟨h.Ns,h.lt,h.XN,h.nil,h.Ai,h.RL,λe he=>lz (h.len e he) hl⟩
theorem aGd{k k':Ks}{L L' e e'}(hX:k.X=k'.X)(h:k.OK L)(h':k'.OK L')(he:e∈k.m)(kU:e'∈k'.m)(hv:A4 e=A4 e'):e=e':=by
 have⟨p,n,aW,b⟩:=e;have⟨p',n',F1,b'⟩:=e';simp only[A4,Js]at hv;have⟨h1,h2,h3⟩:=hv;have hp:p=p':=by have⟨a,c,d⟩:=p;have⟨a',c',d'⟩:=p';obtain⟨rfl,rfl,rfl⟩:=h1;rfl
 subst hp h3;cases aW with
 |nil=>
  cases F1 with
  |nil=>rw[show n=0 from h.nil _ he rfl,show n'=0 from h'.nil _ kU rfl]
  |cons i l=>cases h2
 |cons i l=>
  cases F1 with
  |nil=>cases h2
  |cons i' l'=>simp only[GC,AV.gV.injEq,and_true]at h2;obtain⟨rfl,h4⟩:=h2;have r1:=(h.Ai _ he (by simp)).2;have r2:=(h'.Ai _ kU (by simp)).2;rw[hX,r2]at r1;simp at r1;rw[BP r1]
theorem ac8{L L'}:∀{k k':Ks},k.X=k'.X->k.OK L->k'.OK L'->dS k.m=dS k'.m->k.m=k'.m:=by
 intro k k' hX h h' he;apply Y3;intro i;have hi:=congrArg (λl=>l[i]?) he;simp only[dS,sJ]at hi;cases h1:k.m[i]? with
 |none=>cases h2:k'.m[i]? with
  |none=>rfl
  |some y=>rw[h1,h2]at hi;cases hi
 |some x=>cases h2:k'.m[i]? with
  |none=>rw[h1,h2]at hi;cases hi
  |some y=>rw[h1,h2]at hi;rw[aGd hX h h' (Nk h1) (Nk h2) (by simpa using hi)]
def Ar.ks(z:Ar)(k:Ks):Ar:={z with fy:=dS k.m,oc:=k.c,X:=k.X,xc:=k.xc}
def jH(k:Ks)(l:List cL):Ks:=l.foldl (λk b=>if b.bh.an≠0 then k.qP b.bh b.id else k) k
def hZ:List cL->LV
 |[]=>[]
 |b::l=>[J b.id,.ao b.bh.eQ,J b.bh.ar,J b.bh.an]++hZ l
def nR(l:List cL)(b:Bool):aO:=.ah [.aq (hZ l) l.length 4,.ai b] 97
def vH(z:Ar)(m:List En)(l:List cL)(b:Bool):Ar:=
 {z.ks (jH ⟨m,z.oc,z.X,z.xc⟩ l)with eI:=z.eI++[.ei (jH ⟨m,z.oc,z.X,z.xc⟩ l).xc 0],ng:=z.ng+1,X:=Ce (jH ⟨m,z.oc,z.X,z.xc⟩ l).X (jH ⟨m,z.oc,z.X,z.xc⟩ l).xc (nR l b),xc:=(jH ⟨m,z.oc,z.X,z.xc⟩ l).xc+1,oh:=z.oh++fh l,na:=z.na+l.length}
def hKo(z:Ar):AH:=cC z.X z.xc [(0,dV z 7 2 3 4 5 8),(1,.bg []),(2,dv z),(3,du z),(4,cQ z),(5,dh z),(6,.bg []),(7,cO z),(8,cK z)] 9
structure Kw where
 z:Ar
 m:List En
 l:List cL
 b:Bool
 zf:Ar
 c:Nat
structure Ut(z:Ar)(m:List En)(l:List cL):Prop where
 fy:z.fy=dS m
 ok:Ks.OK ⟨m,z.oc,z.X,z.xc⟩ (4000000-l.length)
 ne:l≠[]
 len:l.length<=1000000
 eI:z.eI.length=z.ng/\z.ng+1<=4000000
 add:z.oh.length=z.na*9/\z.na+l.length<=4000000
def kpX:bT Kw where
 aI w A H:=A=[.aa 0 0,.aq (fh w.l) w.l.length 9,.ai w.b]/\H=hA w.z/\Ut w.z w.m w.l/\vH w.z w.m w.l w.b=w.zf/\w.zf.xc=w.c+1
 v w:=.ei w.c 0
 aD w:=hKo w.zf
theorem az8{b b'}(h:ye b=ye b'):b=b':=by have⟨i,⟨n,a,x⟩,⟨k1,k2,k3,k4⟩,c⟩:=b;have⟨i',⟨n',a',x'⟩,⟨k1',k2',k3',k4'⟩,c'⟩:=b';simp only[ye,fG,AV.bD.injEq,AV.ao.injEq,AV.aq.injEq,true_and,and_true]at h;obtain⟨rfl,rfl,rfl,rfl,rfl,rfl,rfl,rfl,e1,_⟩:=h;rw[Lr e1]
theorem VF:∀{l m},l.length=m.length->fh l=fh m->l=m
 |[],[],_,_=>rfl
 |[],_::_,h,_=>by simp at h
 |_::_,[],h,_=>by simp at h
 |t::l,u::m,hl,h=>by have h2:=lO h (by simp[ye]);rw[az8 h2.1,VF (by simpa using hl) h2.2]
theorem aDx:kpX.bM:=by
 rintro⟨z,m,l,b,zf,c⟩ ⟨z',m',l',b',zf',c'⟩ A H ⟨h1,h2,k1,q1,q2⟩ ⟨h3,h4,k2,q3,q4⟩;simp only at h1 h2 h3 h4 k1 k2 q1 q2 q3 q4;rw[h1]at h3;have e1:=yp (h2.symm.trans h4);subst e1;simp at h3;obtain⟨⟨a1,a2⟩,rfl⟩:=h3;have e2:=VF a2 a1;subst e2;have e3:=ac8 (k:=⟨m,z.oc,z.X,z.xc⟩) (k':=⟨m',z.oc,z.X,z.xc⟩) rfl k1.ok k2.ok (k1.fy.symm.trans k2.fy);subst e3;rw[q1]at q3;subst q3;have:c=c':=by omega
 subst this;rfl
def K50:Ev.aX:=bx 30 (bE kpX aDx mY) Pc
def Ry:Nat->LN:=dY [(3,[0,1,7,13,14,15]),(999995,[2000009]),(999998,[0,1,7])]
def hK(z:Ar)(m:Nat)(b:Bool)(ms:LV):AH:=cC z.X z.xc [(0,dV z 1 2 3 4 5 6),(1,cO z),(2,dv z),(3,du z),(4,cQ z),(5,dh z),(6,cK z),(7,.ah [.ad 8 m 4,.ai b] 97),(8,.au ms 101)] 9
abbrev Cq h0 h1:=dV h0 1 2 3 h1 5 6
abbrev Z9 h0 h1 h2:=([(0,.aa 0 0),(1,.aq h0 h1 9),(7,.aa 7 0),(13,.aq h0 h1 9),(14,J (a_ h1)),(15,h2)]:List (Nat×AV))
abbrev Td h0 h1 h2 h3 h4 h5 h6:=cC h0 h1 [(0,h2),(1,h3),(2,dv h4),(3,du h4),(4,h5),(5,dh h4),(6,cK h4),(7,h6)] 8
theorem aLc{z bs nb b L Q}:
 fA Pc Ry L Q 30 [.aa 0 0,.aq bs nb 9,.ai b] (hA z)=L (aJ (Z9 bs nb (J 0))) (Td z.X z.xc (Cq z 4) (cO z) z (cQ z) (.ah [.aM,.ai b] 97)) (aB Z 30 0):=by kernel_rfl
abbrev J0 h0 h1 h2 h3:=([J h0,.ao h1,J h2,J h3]:LV)
abbrev awn h0 h1 h2 h3:=Ax (Cq h0 4) (cO h0) (dv h0) (du h0) (cQ h0) h1 (cK h0) h2 h3
theorem aLd{z bs nb b m ms i L Q}:
 ju Pc Ry L Q 30 7 (Z9 bs nb (J i)) (hK z m b ms)=jQ i nb (λcv=>∃n:Int,∃s:LN,∃bm:Int,∃bS:Int,∃dn:Int,∃fx:Int,∃cX:LN,∃rD:Int,∃cs:LV,∃len:Nat,((bs.drop (cv*9)).take 9:LV)=Tq n s bm bS dn fx cX rD (.aq cs len 6)/\pn ms.length m 4 (gT (bS !=0) (∃zW:Nat,∃b_:Nat,∃lH:Nat,∃bF:List (AV×AV×Nat),∃c':Nat,Ic Z 39 35 1 z.fy z.oc true (oI s bm bS)=some (zW,(b_,(lH,(bF,c'))))/\(b_+1<=4194304/\Hh)/\(∃vs:LV,NL (Cv z [] 0) zW b_ 1 vs/\(∃Ba:List (AV×AV×Nat),Gl bF lH (.gV z.xc (b_+1) 1)=some Ba/\L (aJ (Z9 bs nb (cu i))) (cC (Cg z.X z.xc zW b_ (vs++[J n]) 2) (z.xc+1) (awn z (eu Ba c') (.ah [.ad 8 (m+1) 4,.ai b] 97) (.au (ms++J0 n s bm bS) 101)) 9) (aB Z 30 0)))) L (aJ (Z9 bs nb (cu i))) (hK z (m+1) b (ms++J0 n s bm bS)) 30 0)) (L (za 0 1 (.aq bs nb 9) 7 (.aa 7 0)) (hK z m b ms) (dg Z Ry 30 0)):=by kernel_rfl
theorem aLb{z bs nb c L Q}:
 AE Pc L Q 30 7 (za 0 1 (.aq bs nb 9) 7 (.ei c 0)) Ry (hA z)=pn z.eI.length z.ng 1 (NR nb z.na (Q (.ei c 0) (Td z.X z.xc (Hl z.an z.id 7 (z.ng+1) 2 3 4 5 6 z.na .aM) (.bg []) z (cQ z) (.au (z.eI++[.ei c 0]) 83))) (z.oh.length=z.na*9) (Hm bs) (Q (.ei c 0) (Cv z (Ax (Hl z.an z.id 7 (z.ng+1) 2 3 4 5 8 (z.na+nb) .aM) (.bg []) (dv z) (du z) (cQ z) (dh z) (.bg []) (.au (z.eI++[.ei c 0]) 83) (.au (z.oh++bs) 44)) 9))):=by kernel_rfl
theorem amR:∀a b:List cL,hZ (a++b)=hZ a++hZ b
 |[],b=>rfl
 |x::a,b=>by simp only[j3,hZ,amR a b,jE]
theorem ac9:∀l:List cL,(hZ l).length=l.length*4
 |[]=>rfl
 |b::l=>by simp[hZ,ac9 l];omega
theorem VH:∀{l i} (h:i<l.length),((fh l).drop (i*9)).take 9=ye l[i]
 |[],i,h=>by simp at h
 |t0::l,0,h=>by simp;exact xA (show(ye t0).length=9 from rfl)
 |t0::l,i+1,h=>by
  have hl:i<l.length:=by simpa using h
  have:=VH hl;simp only[fh,DS];rw[<-this];have e:(i+1)*9=(ye t0).length+i*9:=by show _=9+i*9;omega
  rw[e,Ni]
theorem axA(k l b):jH k (l++[b])=(if b.bh.an≠0 then(jH k l).qP b.bh b.id else jH k l):=by simp only[jH,Gy,qz,Nn]
theorem akI{k L}(h:k.OK L):∀l:List cL,(jH k l).OK (L+l.length):=by
 intro l;induction l generalizing k L with
 |nil=>exact h
 |cons b l ih=>
  simp only[jH,qz];by_cases hb:b.bh.an≠0
  .rw[aP hb];exact(ih (h.add b.bh b.id)).mono (by simp;omega)
  .rw[aw hb];exact(ih h).mono (by simp only[dJ];omega)
def xpT(g c:Nat)(T:List (Nat×AV)):List (Nat×AV):=T.map λx=>(x.1,GY g c x.2)
theorem avn{g c i a'}:∀{l},(aJ (xpT g c l)).bL i=some a'->∃a,(aJ l).bL i=some a/\a'=GY g c a
 |[],h=>by rw[oA]at h;cases h
 |(s,b)::l,h=>by
  rw[oA]at h;rw[oA];simp only[xpT,e9,BB]at h⊢;by_cases hs:i=s
  .rw[aP hs]at h⊢;cases h;exact⟨b,rfl,rfl⟩
  .rw[aw hs]at h⊢;rw[<-oA]at h⊢;exact avn h
theorem aDy{z l b}(cx:l≠[])(hg:z.eI.length=z.ng/\z.ng+1<=4000000)(ha:z.oh.length=z.na*9/\z.na+l.length<=4000000):
 ba Z 30 71 7 (.ei z.xc 0) (hKo {z with eI:=z.eI++[.ei z.xc 0],ng:=z.ng+1,X:=Ce z.X z.xc (nR l b),xc:=z.xc+1,oh:=z.oh++fh l,na:=z.na+l.length}) (aJ [(0,.aa 0 0),(1,.aq (fh l) l.length 9),(7,.aa 7 0)]) (hK z l.length b (hZ l)) (dg Z Ry 30 0):=by
 have e:fO 8 (hZ l) (.ad 8 l.length 4)=.aq (hZ l) l.length 4:=by simp[fO,ac9]
 refine Mk (g:=8) ?_ rfl;refine qk (H':=cC z.X z.xc [(0,dV z 1 2 3 4 5 6),(1,cO z),(2,dv z),(3,du z),(4,cQ z),(5,dh z),(6,cK z),(7,nR l b),(8,.bg [])] 9) ?_ (by rw[nR,<-e];exact⟨ct _,λI bs w _ hw=>⟨I,hw,⟨jG.CA _ _,.of rfl rfl⟩,rfl⟩⟩);refine aCn (s:=7) ?_ rfl (by simp only[List.all_cons,f_];rfl) rfl (by kernel_rfl) (λi a' h=>avn h) (E0 _);refine Bm (mG:=[]) (ls:=[0,1,7]) (ps:=[(0,0),(1,1),(2,2),(3,3),(4,4),(5,5),(6,6)]) (H2:=hA {z with X:=Ce z.X z.xc (nR l b),xc:=z.xc+1}) (t:=aJ [(0,.aa 0 0),(1,.aq (fh l) l.length 9),(7,.ei z.xc 0)]) ?_;refine hE Uq aLb ?_;refine⟨⟨by simp only;omega,by simp only;omega,rfl,rfl⟩,λh0=>absurd (mE h0) cx,λ_=>⟨⟨ha.1,by simp only;omega,az9 _⟩,rfl,rfl⟩⟩
theorem Je{xx m0 g n l l' vs eA el t}(hg:cH l g=some (.ah vs el))(hl:∀id,cH l' id=if id=g then some (.ah eA el)else cH l id)(hn:cH l n=none)(hr:∀I x,bf I vs x->bf I eA x)(bB:eA.length=vs.length/\eA.all AV.dH=vs.all AV.dH):
 mr m0 (et xx l n) (et xx (l'++[(n,.au [] t)]) (n+1)) (λI aK=>aK=I):=by
 have Bo:g≠n:=by rintro rfl;rw[hg]at hn;cases hn
 have Mx:cH l' n=none:=by rw[hl,aw (Ne.symm Bo)];exact hn
 have⟨a1,a2⟩:=aEu (m0:=m0) (xx:=xx) (n:=n) hg hl hr bB;have⟨b1,b2⟩:=Jd (xx:=xx) (m0:=m0) (.au [] t) Mx;refine⟨Nat.le_succ n,λI bs w cr hw=>?_⟩;obtain⟨lU,k1,k2,rfl⟩:=a2 I bs w cr hw;obtain⟨D3,k4,k5,rfl⟩:=b2 _ bs w cr k1;exact⟨_,k4,⟨k2.1.sZ k5.1,k2.2.rX k5.2⟩,rfl⟩
theorem asT(n l i):GC n (l++[i])=.gV n (l.length+1) 1:=by
 cases l with
 |nil=>rfl
 |cons a l=>simp[GC]
theorem aDz{z m l b}(hk:Ut z m l):∀i:Nat,i<=l.length->
 ba Z 30 71 7 (.ei (jH ⟨m,z.oc,z.X,z.xc⟩ l).xc 0) (hKo (vH z m l b)) (aJ [(0,.aa 0 0),(1,.aq (fh l) l.length 9),(7,.aa 7 0),(13,.aq (fh l) l.length 9),(14,J (a_ l.length)),(15,J (i:Int))]) (hK (z.ks (jH ⟨m,z.oc,z.X,z.xc⟩ (l.take i))) i b (hZ (l.take i))) (aB Z 30 0):=by
 refine dj (λi=>l.length-i) _ _ _ _ ?_;rintro i hi ih;refine hE Uq aLd ?_;delta cu;refine al (λae=>?_) λaY=>?_
 .have ae:i<l.length:=by simpa using ae
  have bP:=VH ae;have hkl:=hk.len;have aN:=akI hk.ok (l.take i);have Rc:l.take (i+1)=l.take i++[l[i]]:=by rw[qB,gg ae];rfl
  have h1:=ih (i+1) (by omega) (by omega);rw[Rc,axA,amR]at h1;rw[rH,YZ hi]at aN;generalize jH ⟨m,z.oc,z.X,z.xc⟩ (l.take i)=k at h1 aN⊢;generalize l[i]=x at bP h1;have⟨id,⟨nm,ar,an⟩,⟨k1,k2,k3,k4⟩,cd⟩:=x;refine⟨i,rfl,ae,id,nm,ar,an,k1,k2,k3,k4,dt cd,cd.length,bP,⟨by rw[ac9,rH,YZ hi],by omega,rfl,rfl⟩,?_⟩;rw[cb];refine al (λha=>?_) λha=>?_
  .have ha:an≠0:=by simpa using ha
   rw[aP ha]at h1;have cx:=RN aN ⟨nm,ar,an⟩;have⟨c1,c2⟩:=PT (k:=k) ⟨nm,ar,an⟩;have cr:=cx.len _ c1;refine⟨_,_,_,_,_,am6 (c:=k.c) (p:=⟨nm,ar,an⟩),⟨by omega,rfl,rfl⟩,bc (jb ⟨nm,ar,an⟩ k.m k.c).aW,?_,_,?_,h1⟩
   .by_cases h0:(jb ⟨nm,ar,an⟩ k.m k.c).aW=[]
    .exact .inl ⟨by rw[h0];rfl,by rw[h0];rfl⟩
    .refine .inr ⟨λh=>h0 (mE h),2,?_,by rw[bc,oD,n7]⟩;rw[aw h0];exact(cx.Ai _ c1 h0).2
   .have:=af6 (n:=k.xc) (aW:=(jb ⟨nm,ar,an⟩ k.m k.c).aW++[id]) (VT ⟨nm,ar,an⟩ k.m k.c) cx.Ns;rw[asT]at this;exact this
  .have ha:¬an≠0:=by simpa using ha
   rw[aw ha]at h1;exact h1
 .have aY:l.length<=i:=by simpa using aY
  obtain rfl:i=l.length:=by omega
  rw[pX];exact aDy hk.ne hk.eI hk.add
theorem ajN:aF Z K50:=by
 refine bY Uq ?_;rintro⟨z,m,l,b,zf,c⟩ args H ⟨rfl,rfl,hk,hq,hc⟩;simp only at hk hq hc;subst hq;obtain rfl:(jH ⟨m,z.oc,z.X,z.xc⟩ l).xc=c:=Nat.succ.inj hc;refine eE 71 Uq aLc ?_;have h:=aDz (b:=b) hk 0 (eh _);have hz:z.ks (jH ⟨m,z.oc,z.X,z.xc⟩ (l.take 0))=z:=by have⟨a0,a1,a2,a3,a4,a5,a6,a7,a8,a9,KJ,KK,KL,KM,KN,KO⟩:=z;have:=hk.fy;subst this;rfl
 rw[hz]at h;refine qk h (Je (l':=[(0,dV z 1 2 3 4 5 6),(1,cO z),(2,dv z),(3,du z),(4,cQ z),(5,dh z),(6,cK z),(7,.ah [.ad 8 0 4,.ai b] 97)]) (g:=7) rfl (λid=>by rcases id with _|_|_|_|_|_|_|_|id<;>rfl) rfl (λI x hx=>xq hx) aA)
abbrev uR(F:AV)(l:List cB)(i:Nat):Ev.Tr AV:=aJ [(1,F),(9,.aq (cR l) l.length 4),(10,J (a_ l.length)),(11,J (i:Int))]
abbrev ue(F:AV)(po:Nat)(l:List cB)(i:Nat)(ss:List eK)(j:Nat):Ev.Tr AV:=aJ [(1,F),(5,.aa po 0),(9,.aq (cR l) l.length 4),(10,J (a_ l.length)),(11,J (i:Int)),(16,.aq (ew ss) ss.length 9),(17,J (a_ ss.length)),(18,J (j:Int))]
abbrev tW(p:cB):aO:=nr p.gD p.ar p.A2 (ew p.bk) p.bk.length
def rf{O:Type}(gN:O->cB->eK->O)(st:O)(l:List cB):O:=l.foldl (λst p=>p.bk.foldl (λst s=>gN st p s) st) st
def jB(l:List cB):Nat:=(l.map λp=>p.bk.length).sum
section
variable{O:Type}{HS:O->AH}{HP:O->aO->AH}{F:AV}{m0 po:Nat}{v:AV}{H1:AH}{gN:O->cB->eK->O}{CH:Nat->O->Prop}{K:Nat}{l:List cB}
theorem amu
 (hI:∀k st i p j (h:j<p.bk.length),p∈l->i<l.length->CH k st->k<K->CH (k+1) (gN st p p.bk[j])/\(ba Z 23 32 m0 v H1 (ue F po l i p.bk (j+1)) (HP (gN st p p.bk[j]) (tW p)) (aB Z 23 1)->ba Z 23 32 m0 v H1 (ue F po l i p.bk j) (HP st (tW p)) (aB Z 23 1))) (hX:∀st i p,p∈l->i<l.length->ba Z 23 32 m0 v H1 (uR F l (i+1)) (HS st) (aB Z 23 0)->ba Z 23 32 m0 v H1 (ue F po l i p.bk p.bk.length) (HP st (tW p)) (aB Z 23 1)) {p} (hp:p∈l) {i} (hi:i<l.length):∀post aI st k,p.bk=aI++post->CH k st->k+post.length<=K->
   CH (k+post.length) (post.foldl (λst s=>gN st p s) st)/\(ba Z 23 32 m0 v H1 (uR F l (i+1)) (HS (post.foldl (λst s=>gN st p s) st)) (aB Z 23 0)->ba Z 23 32 m0 v H1 (ue F po l i p.bk aI.length) (HP st (tW p)) (aB Z 23 1))
 |[],aI,st,k,e,hk,hK=>by rw[jt]at e;refine⟨hk,λh=>?_⟩;have:=hX st i p hp hi h;rw[e]at this;rw[e];exact this
 |s::post,aI,st,k,e,hk,hK=>by
  have ae:aI.length<p.bk.length:=by rw[e];simp
  have hg:p.bk[aI.length]=s:=by simp[e]
  have⟨h1,h2⟩:=hI k st i p aI.length ae hp hi hk (by simp at hK;omega);rw[hg]at h1 h2;have⟨h3,h4⟩:=amu hI hX hp hi post (aI++[s]) (gN st p s) (k+1) (by rw[e,jE];rfl) h1 (by simp at hK;omega);refine⟨by rw[dJ,show k+(post.length+1)=k+1+post.length by omega];exact h3,λh=>h2 ?_⟩;have:=h4 h;rw[cj]at this;exact this
theorem VA
 (hO:∀st i (h:i<l.length),ba Z 23 32 m0 v H1 (ue F po l i l[i].bk 0) (HP st (tW l[i])) (aB Z 23 1)->ba Z 23 32 m0 v H1 (uR F l i) (HS st) (aB Z 23 0))
 (hI:∀k st i p j (h:j<p.bk.length),p∈l->i<l.length->CH k st->k<K->CH (k+1) (gN st p p.bk[j])/\(ba Z 23 32 m0 v H1 (ue F po l i p.bk (j+1)) (HP (gN st p p.bk[j]) (tW p)) (aB Z 23 1)->ba Z 23 32 m0 v H1 (ue F po l i p.bk j) (HP st (tW p)) (aB Z 23 1)))
 (hX:∀st i p,p∈l->i<l.length->ba Z 23 32 m0 v H1 (uR F l (i+1)) (HS st) (aB Z 23 0)->ba Z 23 32 m0 v H1 (ue F po l i p.bk p.bk.length) (HP st (tW p)) (aB Z 23 1)):
 ∀post aI st k,l=aI++post->CH k st->k+jB post<=K->
  CH (k+jB post) (rf gN st post)/\(ba Z 23 32 m0 v H1 (uR F l l.length) (HS (rf gN st post)) (aB Z 23 0)->ba Z 23 32 m0 v H1 (uR F l aI.length) (HS st) (aB Z 23 0))
 |[],aI,st,k,e,hk,hK=>by rw[jt]at e;refine⟨hk,λh=>?_⟩;rw[e]at h⊢;exact h
 |p::post,aI,st,k,e,hk,hK=>by
  have ae:aI.length<l.length:=by rw[e];simp
  have hg:l[aI.length]=p:=by simp[e]
  have hp:p∈l:=by rw[e];simp
  have hn:jB (p::post)=p.bk.length+jB post:=by simp[jB]
  rw[hn]at hK⊢;have⟨h1,h2⟩:=amu hI hX hp ae p.bk [] st k rfl hk (by omega);have⟨h3,h4⟩:=VA hO hI hX post (aI++[p]) (p.bk.foldl (λst s=>gN st p s) st) (k+p.bk.length) (by rw[e,jE];rfl) h1 (by omega);refine⟨by rw[<-DX];exact h3,λh=>?_⟩;have h5:=h4 h;rw[cj]at h5;have h6:=hO st aI.length ae;rw[hg]at h6;exact h6 (h2 h5)
end
def oq(z:Ar)(b:Bool):AH:=cC z.X z.xc [(0,.ah [.ai b] 4),(1,.ah [.aa 2 0] 25),(2,dV z 3 4 5 6 7 8),(3,cO z),(4,dv z),(5,du z),(6,cQ z),(7,dh z),(8,cK z)] 9
def Wt(z:Ar)(b:Bool)(o:aO):AH:=cC z.X z.xc [(0,.ah [.ai b] 4),(1,.ah [.aa 2 0] 25),(2,dV z 3 4 5 6 7 8),(3,cO z),(4,dv z),(5,du z),(6,cQ z),(7,dh z),(8,cK z),(9,o)] 10
theorem aou{z z' b b'}(h:oq z b=oq z' b'):z=z'/\b=b':=by have h0:=congrArg (λH=>AH.aR H 2) h;have h1:=congrArg (λH=>AH.aR H 3) h;have h2:=congrArg (λH=>AH.aR H 4) h;have h3:=congrArg (λH=>AH.aR H 5) h;have h4:=congrArg (λH=>AH.aR H 6) h;have h5:=congrArg (λH=>AH.aR H 7) h;have h6:=congrArg (λH=>AH.aR H 8) h;have h8:=congrArg (λH=>AH.aR H 0) h;have h7:=congrArg AH.x h;replace h1:some (cO z)=some (cO z'):=h1;replace h6:some (cK z)=some (cK z'):=h6;replace h8:some (aO.ah [.ai b] 4)=some (aO.ah [.ai b'] 4):=h8;have⟨a0,a1,a2,a3,a4,a5,a6,a7,a8,a9,KJ,KK,KL,KM,KN,KO⟩:=z;have⟨b0,b1,b2,b3,b4,b5,b6,b7,b8,b9,HG,HH,U4,U6,U7,U8⟩:=z';simp only[dV,cO,dv,du,cQ,dh,cK,lN,aO.ah.injEq,aO.au.injEq,aO.bI.injEq,fG,AV.bD.injEq,AV.ai.injEq,AV.ad.injEq,XH.mk.injEq,true_and,and_true]at h0 h1 h2 h3 h4 h5 h6 h7 h8;obtain⟨rfl,rfl,rfl,rfl⟩:=h0;obtain⟨rfl,rfl⟩:=h2;obtain⟨rfl,rfl⟩:=h3;obtain⟨rfl,rfl⟩:=h4;obtain⟨rfl,rfl⟩:=h5;obtain⟨rfl,rfl⟩:=h7;subst h1 h6 h8;exact aA
def j9(rt:List (Int×Bool))(i:Int):Bool:=(lk i rt).getD false
def q_(rt:List (Int×Bool))(b:Bool)(l:List cB):Bool:=rf (λb _ s=>b||j9 rt s.id) b l
theorem PB(b:Bool):∀l,q_ [] b l=b
 |[]=>rfl
 |p::l=>by
  have h:∀(ss:List eK) (b:Bool),ss.foldl (λb s=>b||j9 [] s.id) b=b:=by
   intro ss;induction ss with
   |nil=>intro b;rfl
   |cons s ss ih=>intro b;rw[qz,ih];simp[j9,lk]
  show q_ [] (p.bk.foldl (λb s=>b||j9 [] s.id) b) l=b;rw[h,PB b l]
theorem Ln:∀{a b:List (Int×Bool)} (k),bJ AV.ai k a=bJ AV.ai k b->a=b
 |[],[],_,_=>rfl
 |[],_::_,_,h=>by simp[bJ]at h
 |_::_,[],_,h=>by simp[bJ]at h
 |(i,x)::a,(j,y)::b,k,h=>by simp only[bJ,fG,Js,AV.bD.injEq,AV.ai.injEq,true_and,and_true]at h;obtain⟨⟨rfl,rfl⟩,h2⟩:=h;rw[Ln (k+1) h2]
theorem ae4(rt i):∃b2,lu Z 2 4 (bJ AV.ai 0 rt) (J i)=some (.ai (j9 rt i),b2):=by
 rw[nq _ iF];unfold j9;cases lk i rt with
 |none=>exact⟨false,by rw[Z4];rfl⟩
 |some b=>exact⟨true,rfl⟩
structure U1 where
 z:Ar
 b:Bool
 p:gZ
 s:eK
 rt:List (Int×Bool)
def u1X:bT U1 where
 aI w A H:=A=[.aj (Lt w.p),.aj (pA w.s),.aa 0 0,.aa 1 0]/\H=oq w.z w.b/\w.z.lC=bJ AV.ai 0 w.rt
 v w:=.aL []
 aD w:=oq w.z (w.b||j9 w.rt w.s.id)
theorem aNs:u1X.bM:=by rintro⟨z,b,p,s,rt⟩ ⟨z',b',p',s',rt'⟩ A H ⟨h1,h2,k1⟩ ⟨h3,h4,k2⟩;obtain⟨rfl,rfl⟩:=aou (h2.symm.trans h4);simp only at h1 h3 k1 k2;obtain rfl:=Ln 0 (k1.symm.trans k2);rw[h1]at h3;simp only[fG,AV.aj.injEq,and_true]at h3;rw[P3 h3.2];rfl
def Ku:Ev.aX:=bx 24 (bE u1X aNs mY) K50
def yM:Nat->LN:=dY [(2,[1,9,10,11]),(5,[1,5,9,10,11,16,17,18])]
abbrev Oi h0 h1:=([h0,.aj h1,.aa 0 0,.aa 1 0]:LV)
theorem aK3{z b nm ar an i k n s cs len k' n' s' cs' len' L Q}:
 eG K50 [] L Q 24 (Oi (oI nm ar an) (AG i k n s cs len k' n' s' cs' len')) (oq z b)=aZ b (Q (.aL []) (oq z true)) (∃lH,Oy z.lC i lH (Q (.aL []) (oq z lH))):=by kernel_rfl
abbrev Ei h0 h1 h2 h3 h4:=aJ (Ob 1 (nH h0 h1) 9 h2 h3 4 10 11 h4)
theorem aK0{z b nx ps np L Q}:
 fA Ku yM L Q 23 [nF nx ps np,nH 24 lS] (oq z b)=L (Ei 24 lS ps np (J 0)) (oq z b) (aB Z 23 0):=by kernel_rfl
abbrev Ey h0 h1 h2 h3 h4 h5 h6 h7 h8:=aJ [(1,nH h0 h1),(5,.aa h2 0),(9,.aq h3 h4 4),(10,J (a_ h4)),(11,J h5),(16,.aq h6 h7 9),(17,J (a_ h7)),(18,J h8)]
abbrev J9 h0 h1(h2:LV)(h3:LN->Int->Bool->LV->Nat->Prop) h4:=jQ h0 h1 (λb0=>∃b1:LN,∃b2:Int,∃b3:Bool,∃b4:LV,∃b5:Nat,((h2.drop (b0*4)).take 4:LV)=y' b1 b2 b3 b4 b5/\h3 b1 b2 b3 b4 b5) h4
theorem atL{z b ps np i L Q}:
 iL Ku yM L Q 23 9 (Ei 24 lS ps np (J i)) 0 (oq z b)=J9 i np ps (λs=>λn=>λlH=>λcs=>λlen=>L (Ey 24 lS 9 ps np i cs len 0) (Wt z b (nr s n lH cs len)) (aB Z 23 1)) (Q (.aL []) (oq z b)):=by kernel_rfl
abbrev wh h0:=bJ AV.ai 0 h0
abbrev OC h0 h1(h2:LV)(h3:Int->Int->Int->LN->LV->Nat->Int->Int->LN->LV->Nat->Prop) h4:=jQ h0 h1 (λb0=>∃b1:Int,∃b2:Int,∃b3:Int,∃b4:LN,∃b5:LV,∃b6:Nat,∃b7:Int,∃b8:Int,∃b9:LN,∃HG:LV,∃HH:Nat,((h2.drop (b0*9)).take 9:LV)=AG b1 b2 b3 b4 b5 b6 b7 b8 b9 HG HH/\h3 b1 b2 b3 b4 b5 b6 b7 b8 b9 HG HH) h4
theorem atK{z b ps np i nm ar dy ss ns j L Q}:
 iL Ku yM L Q 23 9 (Ey 24 lS 9 ps np i ss ns j) 1 (Wt z b (.ah (y' nm ar dy ss ns) 34))=OC j ns ss (λn=>λbm=>λbS=>λs=>λcs=>λlen=>λdn=>λfx=>λcX=>λcA=>λb_=>∃w:U1,((Oi (oI nm ar 0) (AG n bm bS s cs len dn fx cX cA b_):LV)=Oi (.aj (Lt w.p)) (pA w.s)/\oq z b=oq w.z w.b/\w.z.lC=wh w.rt)/\L (Ey 24 lS 9 ps np i ss ns (wI (j+1))) (Wt w.z (w.b||j9 w.rt w.s.id) (nr nm ar dy ss ns)) (aB Z 23 1)) (L (Ei 24 lS ps np (cu i)) (oq z b) (aB Z 23 0)):=by kernel_rfl
theorem AN:aF Z Ku:=by
 refine bY ajN ?_;rintro⟨z,b,⟨nm,ar,an⟩,⟨i,⟨⟨k,n,s,l⟩,⟨k',n',s',l'⟩⟩⟩,rt⟩ args H ⟨rfl,rfl,hz⟩;refine eE 16 ajN aK3 ?_;refine al (λhb=>?_) λhb=>?_
 .subst hb;exact aA
 .subst hb;have⟨b2,h2⟩:=ae4 rt i;exact⟨j9 rt i,b2,by rw[show z.lC=_ from hz];exact h2,rfl,rfl⟩
theorem azL{z b d rt}(hz:z.lC=bJ AV.ai 0 rt)(hl:d.dT.length<=4000000)(hc:∀p∈d.dT,p.bk.length<=4000000):
 bC Z 23 [.aj (iU d),.cw (.func 24) [] [.aa 0 0,.aa 1 0]] (oq z b) (.aL []) (oq z (q_ rt b d.dT)):=by
 obtain⟨nx,l⟩:=d;refine eS AN yM 32 ?_;refine cast (@aK0 z b nx (cR l) l.length _ _).symm ?_;have:=VA (O:=Bool) (HS:=λb=>oq z b) (HP:=λb o=>Wt z b o) (F:=.cw (.func 24) [] [.aa 0 0,.aa 1 0]) (m0:=9) (v:=.aL []) (H1:=oq z (q_ rt b l)) (gN:=λb _ s=>b||j9 rt s.id) (CH:=λ_ _=>True) (K:=jB l) (l:=l)
  (λst i h hh=>by refine hD AN yM ?_;refine cast (@atL z st (cR l) l.length (i:Int) _ _).symm ?_;have bP:=yf h;generalize l[i]=p at bP hh;obtain⟨nm,ar,dy,bk⟩:=p;exact al (λ_=>⟨i,rfl,h,nm,ar,dy,ew bk,bk.length,bP,hh⟩) λhn=>absurd (c9 hn) (by simp only[jr];omega))
  (λk st i p j h hp hi _ _=>⟨trivial,λhh=>by
    obtain⟨nm,ar,dy,bk⟩:=p;have fW:bk.length<=4000000:=hc _ hp;replace h:j<bk.length:=h;refine hD AN yM ?_;refine cast (@atK z st (cR l) l.length (i:Int) nm ar dy (ew bk) bk.length (j:Int) _ _).symm ?_;have bP:=H_ h;simp only at hh;generalize bk[j]=s at bP hh;have⟨id,⟨⟨k,n,ez,ts⟩,⟨k',n',pR,oF⟩⟩⟩:=s;refine al (λ_=>⟨j,rfl,h,id,k,n,ez,az ts,ts.length,k',n',pR,az oF,oF.length,bP,⟨z,st,⟨nm,ar,0⟩,⟨id,⟨⟨k,n,ez,ts⟩,⟨k',n',pR,oF⟩⟩⟩,rt⟩,⟨rfl,rfl,hz⟩,?_⟩) λhn=>ab (c9 hn)
    rw[cb];exact hh⟩)
  (λst i p hp hi hh=>by
    have⟨nm,ar,dy,bk⟩:=p;refine hE AN atK ?_;delta cu;refine al (λhn=>ab (cP hn)) λ_=>?_
    simp only at hl;rw[cb];exact hh)
  l [] b 0 rfl trivial (by omega)
 refine this.2 ?_;refine hE AN atL ?_;exact al (λhn=>ab (cP hn)) λ_=>aA
def rk(z:Ar)(e:Int)(tr:Bool)(aW:LV)(ni:Nat)(bs:LV)(nb:Nat):AH:=cC z.X z.xc [(0,.ah [.aa 5 0] 25),(1,.ah [J e] 27),(2,.ah [.ai tr] 4),(3,.ah [.ad 6 ni 1] 35),(4,.ah [.ad 7 nb 1] 82),(5,dV z 8 9 10 11 12 13),(6,.au aW 2),(7,.au bs 29),(8,cO z),(9,dv z),(10,du z),(11,cQ z),(12,dh z),(13,cK z)] 14
def FB(z:Ar)(e:Int)(tr:Bool)(aW:LV)(ni:Nat)(bs:LV)(nb:Nat):AH:=cC z.X z.xc [(0,.ah [.aa 5 0] 25),(1,.ah [J e] 27),(2,.ah [.ai tr] 4),(3,.ah [.ad 14 ni 1] 35),(4,.ah [.ad 15 nb 1] 82),(5,dV z 8 9 10 11 12 13),(6,.bg []),(7,.bg []),(8,cO z),(9,dv z),(10,du z),(11,cQ z),(12,dh z),(13,cK z),(14,.au aW 2),(15,.au bs 29)] 16
def adH(z:Ar)(e:Int)(tr:Bool)(aW:LV)(ni:Nat)(bs:LV)(nb:Nat)(o:aO):AH:=cC z.X z.xc [(0,.ah [.aa 5 0] 25),(1,.ah [J e] 27),(2,.ah [.ai tr] 4),(3,.ah [.ad 15 ni 1] 35),(4,.ah [.ad 16 nb 1] 82),(5,dV z 8 9 10 11 12 13),(6,.bg []),(7,.bg []),(8,cO z),(9,dv z),(10,du z),(11,cQ z),(12,dh z),(13,cK z),(14,o),(15,.au aW 2),(16,.au bs 29)] 17
theorem aov{z z' e e' tr GR aW F1 bs ya ni ni' nb nb'}(h:rk z e tr aW ni bs nb=rk z' e' GR F1 ni' ya nb'):z=z'/\e=e'/\tr=GR/\aW=F1/\ni=ni'/\bs=ya/\nb=nb':=by have g1:=congrArg (λH=>AH.aR H 1) h;have g2:=congrArg (λH=>AH.aR H 2) h;have g3:=congrArg (λH=>AH.aR H 3) h;have g4:=congrArg (λH=>AH.aR H 4) h;have g6:=congrArg (λH=>AH.aR H 6) h;have g7:=congrArg (λH=>AH.aR H 7) h;have h0:=congrArg (λH=>AH.aR H 5) h;have h1:=congrArg (λH=>AH.aR H 8) h;have h2:=congrArg (λH=>AH.aR H 9) h;have h3:=congrArg (λH=>AH.aR H 10) h;have h4:=congrArg (λH=>AH.aR H 11) h;have h5:=congrArg (λH=>AH.aR H 12) h;have h6:=congrArg (λH=>AH.aR H 13) h;have h7:=congrArg AH.x h;replace g1:some (aO.ah [J e] 27)=some (aO.ah [J e'] 27):=g1;replace g2:some (aO.ah [.ai tr] 4)=some (aO.ah [.ai GR] 4):=g2;replace g3:some (aO.ah [.ad 6 ni 1] 35)=some (aO.ah [.ad 6 ni' 1] 35):=g3;replace g4:some (aO.ah [.ad 7 nb 1] 82)=some (aO.ah [.ad 7 nb' 1] 82):=g4;replace g6:some (aO.au aW 2)=some (aO.au F1 2):=g6;replace g7:some (aO.au bs 29)=some (aO.au ya 29):=g7;replace h1:some (cO z)=some (cO z'):=h1;replace h6:some (cK z)=some (cK z'):=h6;have⟨a0,a1,a2,a3,a4,a5,a6,a7,a8,a9,KJ,KK,KL,KM,KN,KO⟩:=z;have⟨b0,b1,b2,b3,b4,b5,b6,b7,b8,b9,HG,HH,U4,U6,U7,U8⟩:=z';simp only[dV,cO,dv,du,cQ,dh,cK,lN,aO.ah.injEq,aO.au.injEq,aO.bI.injEq,fG,AV.bD.injEq,AV.ai.injEq,AV.ad.injEq,XH.mk.injEq,true_and,and_true]at g1 g2 g3 g4 g6 g7 h0 h1 h2 h3 h4 h5 h6 h7;obtain⟨rfl,rfl,rfl,rfl⟩:=h0;obtain⟨rfl,rfl⟩:=h2;obtain⟨rfl,rfl⟩:=h3;obtain⟨rfl,rfl⟩:=h4;obtain⟨rfl,rfl⟩:=h5;obtain⟨rfl,rfl⟩:=h7;subst h1 h6 g1 g2 g3 g4 g6 g7;exact⟨rfl,rfl,rfl,rfl,rfl,rfl,rfl⟩
structure S3 where
 z:Ar
 e:Int
 aW:LI
 cG:List (List cL)
def mU(l:List (List cL)):LV:=l.map λb=>.aq (fh b) b.length 9
def j7(tr:Bool)(st:S3)(s:eK):S3:=
 if st.e≠0 then st
 else if(pE s.c st.z.an tr).2≠0 then{st with e:=(pE s.c st.z.an tr).2}
 else⟨(mR st.z s.id (pE s.c st.z.an tr).1).1,(mR st.z s.id (pE s.c st.z.an tr).1).2.2,st.aW++[s.id],st.cG++[(mR st.z s.id (pE s.c st.z.an tr).1).2.1]⟩
def ud(cm:List (Int×Nat))(tr:Bool)(st:S3)(s:eK):S3:=if(lk s.id cm).isSome then st else j7 tr st s
abbrev mP(cm:List (Int×Nat)):ES:=bJ (λn=>.ei n 0) 0 cm
theorem Vl{a b:List (Int×Nat)}(h:mP a=mP b):a=b:=tg (λa b h=>by cases h;rfl) h
theorem aOM:
 kA Z 83=some .kZ:=by kernel_rfl
theorem aEk(cm:List (Int×Nat))(i:Int):(lk i cm=none/\lu Z 2 83 (mP cm) (J i)=some (.kZ,false))\/∃n,lk i cm=some n/\lu Z 2 83 (mP cm) (J i)=some (.ei n 0,true):=by
 rw[nq _ iF];cases lk i cm with
 |none=>exact .inl ⟨rfl,by rw[aOM];rfl⟩
 |some n=>exact .inr ⟨n,rfl,rfl⟩
structure U3 where
 st:S3
 cm:List (Int×Nat)
 tr:Bool
 p:gZ
 s:eK
 mi:S3
def Ue(st:S3)(tr:Bool):AH:=rk st.z st.e tr (bc st.aW) st.aW.length (mU st.cG) st.cG.length
def u3X:bT U3 where
 aI w A H:=A=[.aj (Lt w.p),.aj (pA w.s),.aa 0 0,.aa 1 0,.aa 2 0,.aa 3 0,.aa 4 0]/\H=rk w.st.z w.st.e w.tr (bc w.st.aW) w.st.aW.length (mU w.st.cG) w.st.cG.length/\w.st.z.cY=mP w.cm/\pa w.s.c/\w.st.aW.length+1<=4000000/\w.st.cG.length+1<=4000000/\ud w.cm w.tr w.st w.s=w.mi
 v w:=.aL []
 aD w:=FB w.mi.z w.mi.e w.tr (bc w.mi.aW) w.mi.aW.length (mU w.mi.cG) w.mi.cG.length
theorem acY:∀{l m},mU l=mU m->l=m
 |[],[],_=>rfl
 |[],_::_,h=>by simp[mU]at h
 |_::_,[],h=>by simp[mU]at h
 |t::l,u::m,h=>by simp only[mU,e9,fG,AV.aq.injEq,and_true]at h;rw[VF h.1.2 h.1.1,acY h.2]
theorem aNt:u3X.bM:=by rintro⟨st,cm,tr,p,s,mi⟩ ⟨kv,cm',GR,p',s',aQa⟩ A H ⟨h1,h2,c1,_,_,_,q1⟩ ⟨h3,h4,c2,_,_,_,q2⟩;have⟨e1,e2,e3,e4,_,e5,_⟩:=aov (h2.symm.trans h4);rw[h1]at h3;simp at h3;have e6:=P3 h3.2;have e7:=BP e4;have e8:=acY e5;have⟨z,e,aW,cG⟩:=st;have⟨z',e',F1,ayj⟩:=kv;subst e1 e2 e3 e6 e7 e8;obtain rfl:=Vl (c1.symm.trans c2);rw[q1]at q2;subst q2;rfl
def Kv:Ev.aX:=bx 26 (bE u3X aNt mY) Ku
abbrev ah2 h0 h1:=([h0,.aj h1,.aa 0 0,.aa 1 0,.aa 2 0,.aa 3 0,.aa 4 0]:LV)
theorem aK4{z e tr aW ni bs nb nm ar an i k n s cs len k' n' s' cs' len' L Q}:
 qE Z Ku (λ_=>[]) L Q 3000 26 (ah2 (oI nm ar an) (AG i k n s cs len k' n' s' cs' len')) (rk z e tr aW ni bs nb)=Cu (Ci 83 z.cY i .kZ (λb=>aZ (e !=0) (Q (.aL []) (rk z e tr aW ni bs nb)) (∃w:Fw,(([.aj (mJ k n s cs len k' n' s' cs' len'),J z.an,.ai tr]:LV)=[.aj (HAppend.hAppend (bn w.c.1) (bn w.c.2)),J w.a,.ai w.tr]/\dc (bA w.c.1/\bA w.c.2/\pE w.c w.a w.tr=Prod.mk w.r w.e))/\Ew (w.e==0) (∃aH:Mw,(AA (.aq (dR w.r) w.r.length 5) (oJ 29 1) (.aq (dR aH.l) aH.l.length 5) (oJ 29 1)/\rl z (n9 i k n s cs len k' n' s' cs' len')=rl aH.z (vY aH.i aH.c)/\(∀f,f∈aH.l->km f/\vX f)/\aH.l.length<=4000000/\mR aH.z aH.i aH.l=Prod.mk aH.zf (Prod.mk aH.bl aH.e))/\pn aW.length ni 1 (im (.ad 7 nb 1)/\pn bs.length nb 1 (Q (.aL []) (FB aH.zf aH.e tr (aW++[J aH.i]) (ni+1) (bs++[.aq (fh aH.bl) aH.bl.length 9]) (nb+1))))) Q (rk z w.e tr aW ni bs nb)))) (∃bm,∃off,Ci 83 z.cY i (.ei bm off) (λb=>Q (.aL []) (rk z e tr aW ni bs nb))):=by kernel_rfl
abbrev Hn:=([.aa 0 0,.aa 1 0,.aa 2 0,.aa 3 0,.aa 4 0]:LV)
theorem aK1{z e tr aW ni bs nb nx ps np L Q}:
 fA Kv yM L Q 23 [nF nx ps np,nH 26 Hn] (rk z e tr aW ni bs nb)=L (Ei 26 Hn ps np (J 0)) (rk z e tr aW ni bs nb) (aB Z 23 0):=by kernel_rfl
theorem atN{z e tr aW ni bs nb ps np i L Q}:
 iL Kv yM L Q 23 14 (Ei 26 Hn ps np (J i)) 0 (FB z e tr aW ni bs nb)=J9 i np ps (λs=>λn=>λb=>λcs=>λlen=>L (Ey 26 Hn 14 ps np i cs len 0) (adH z e tr aW ni bs nb (nr s n b cs len)) (aB Z 23 1)) (Q (.aL []) (FB z e tr aW ni bs nb)):=by kernel_rfl
theorem atM{z e tr aW ni bs nb ps np i nm ar dy ss ns j L Q}:
 iL Kv yM L Q 23 14 (Ey 26 Hn 14 ps np i ss ns j) 1 (adH z e tr aW ni bs nb (.ah (y' nm ar dy ss ns) 34))=OC j ns ss (λn=>λbm=>λbS=>λs=>λcs=>λlen=>λdn=>λfx=>λcX=>λcA=>λb_=>∃w:U3,((ah2 (oI nm ar 0) (AG n bm bS s cs len dn fx cX cA b_):LV)=ah2 (.aj (Lt w.p)) (pA w.s)/\rk z e tr aW ni bs nb=Ue w.st w.tr/\w.st.z.cY=mP w.cm/\pa (eK.c w.s)/\w.st.aW.length+1<=4000000/\w.st.cG.length+1<=4000000/\ud w.cm w.tr w.st w.s=w.mi)/\L (Ey 26 Hn 14 ps np i ss ns (wI (j+1))) (cC w.mi.z.X w.mi.z.xc [(0,u4 5 25),(1,.ah [J w.mi.e] 27),(2,u5 w.tr),(3,rQ 15 w.mi.aW.length 35),(4,rQ 16 w.mi.cG.length 82),(5,dV w.mi.z 8 9 10 11 12 13),(6,.bg []),(7,.bg []),(8,cO w.mi.z),(9,dv w.mi.z),(10,du w.mi.z),(11,cQ w.mi.z),(12,dh w.mi.z),(13,cK w.mi.z),(14,nr nm ar dy ss ns),(15,bG w.mi.aW 2),(16,.au (mU w.mi.cG) 29)] 17) (aB Z 23 1)) (L (Ei 26 Hn ps np (cu i)) (FB z e tr aW ni bs nb) (aB Z 23 0)):=by kernel_rfl
theorem Yl{z e tr aW bs ni nb}:Mv (rk z e tr aW ni bs nb) (cC z.X z.xc [(0,.ah [.aa 5 0] 25),(1,.ah [J e] 27),(2,.ah [.ai tr] 4),(3,.ah [.ad 14 ni 1] 35),(4,.ah [.ad 7 nb 1] 82),(5,dV z 8 9 10 11 12 13),(6,.bg []),(7,.au bs 29),(8,cO z),(9,dv z),(10,du z),(11,cQ z),(12,dh z),(13,cK z),(14,.au aW 2)] 15) 6/\Mv (cC z.X z.xc [(0,.ah [.aa 5 0] 25),(1,.ah [J e] 27),(2,.ah [.ai tr] 4),(3,.ah [.ad 14 ni 1] 35),(4,.ah [.ad 7 nb 1] 82),(5,dV z 8 9 10 11 12 13),(6,.bg []),(7,.au bs 29),(8,cO z),(9,dv z),(10,du z),(11,cQ z),(12,dh z),(13,cK z),(14,.au aW 2)] 15) (FB z e tr aW ni bs nb) 7:=
 ⟨rC (l':=[(0,.ah [.aa 5 0] 25),(1,.ah [J e] 27),(2,.ah [.ai tr] 4),(3,.ah [.ad 14 ni 1] 35),(4,.ah [.ad 7 nb 1] 82),(5,dV z 8 9 10 11 12 13),(6,.bg []),(7,.au bs 29),(8,cO z),(9,dv z),(10,du z),(11,cQ z),(12,dh z),(13,cK z)]) (by kernel_rfl) rfl rfl,
  rC (l':=[(0,.ah [.aa 5 0] 25),(1,.ah [J e] 27),(2,.ah [.ai tr] 4),(3,.ah [.ad 14 ni 1] 35),(4,.ah [.ad 15 nb 1] 82),(5,dV z 8 9 10 11 12 13),(6,.bg []),(7,.bg []),(8,cO z),(9,dv z),(10,du z),(11,cQ z),(12,dh z),(13,cK z),(14,.au aW 2)]) (by kernel_rfl) rfl rfl⟩
theorem afr{z z0 e e0 tr tr0 aW bs apw bs0 ni nb ni0 nb0 f A}(h:bC Z f A (rk z0 e0 tr0 apw ni0 bs0 nb0) (.aL []) (rk z e tr aW ni bs nb)):bC Z f A (rk z0 e0 tr0 apw ni0 bs0 nb0) (.aL []) (FB z e tr aW ni bs nb):=
 Ia (Ia h Yl.1 rfl (by show(14:Nat)<=14;omega)) Yl.2 rfl (by show(14:Nat)<=15;omega)
theorem alT:∀l z,∃i,(iT z l).1={z with id:=i}
 |[],z=>⟨z.id,rfl⟩
 |f::l,z=>by
  simp only[iT];split
  .exact⟨_,rfl⟩
  .have⟨i,h⟩:=alT l z.tk;exact⟨i,by rw[h];rfl⟩
theorem alP(l z i):∃a j,(mR z i l).1={z with an:=a,id:=j}:=by
 cases l with
 |nil=>exact⟨_,z.id,rfl⟩
 |cons f l=>
  have⟨j,h⟩:=alT l z;simp only[mR];split
  .exact⟨z.an,z.id,rfl⟩
  .split
   .exact⟨z.an,j,by rw[h]⟩
   .exact⟨_,j,by rw[h];rfl⟩
theorem Qa{c a tr}(hc:pa c)(h:¬(pE c a tr).2≠0):(∀f∈(pE c a tr).1,km f/\vX f)/\(pE c a tr).1.length<=4001/\jV c=true/\1<=a/\a<=1099511623776/\(pE c a tr).1=vq c a tr/\∀f∈vq c a tr,kO f=true:=by
 unfold pE at h⊢;by_cases hb:jV c=false\/a<1\/a>1099511623776
 .rw[aP hb]at h;exact absurd (by decide) h
 .rw[aw hb]at h⊢;have hv:jV c=true:=by
   cases hh:jV c with
   |true=>rfl
   |false=>exact absurd (.inl hh) hb
  unfold Eh at h⊢;by_cases ha:(vq c a tr).all kO=true
  .rw[aP ha];have⟨new,pK⟩:=adj (first:=a) tr hc.1 hc.2 hv (by omega) (by omega);have h3:=anB hc.1 hv pK;have h4:=aAX (first:=a) (tr:=tr) hv;exact⟨λf hf=>⟨h3.1 f hf,h4 f hf⟩,h3.2,hv,by omega,by omega,rfl,oC.1 ha⟩
  .rw[aw ha]at h;exact absurd (by decide) h
theorem ax9(l b):mU (l++[b])=mU l++[.aq (fh b) b.length 9]:=by simp[mU]
theorem ax8(l):(mU l).length=l.length:=by simp[mU]
theorem aGc(l i):bc (l++[i])=bc l++[J i]:=by simp[bc]
theorem HC:aF Z Kv:=by
 refine bY AN ?_;rintro⟨⟨z,e,aW,cG⟩,cm,tr,⟨nm,ar,an⟩,⟨i,⟨⟨k,n,s,l⟩,⟨k',n',s',l'⟩⟩⟩,mi⟩ args H ⟨rfl,rfl,hz,aN,pM,gM,hq⟩;simp only at hz aN pM gM hq;have GK:=λ(v:AV) (H1:AH)=> @aK4 z e tr (bc aW) aW.length (mU cG) cG.length nm ar an i k n s (az l) l.length k' n' s' (az l') l'.length (ba Z 26 55 14 v H1) (fD v H1)
 rcases aEk cm i with⟨hn,uy⟩|⟨nn,hn,uy⟩
 case inr=>rw[ud,hn,aP (show(some nn).isSome=true from rfl)]at hq;subst hq;refine afr ?_;refine eT AN 3000 (λ_=>[]) 55 ?_;exact cast (GK _ _).symm ⟨false,al (λh=>(by cases h)) λ_=>⟨nn,0,true,by rw[hz];exact uy,rfl,rfl⟩⟩
 rw[<-hz]at uy;rw[ud,hn,aw (by decide)]at hq;by_cases he:e≠0
 .rw[j7,aP he]at hq;subst hq;refine afr ?_;refine eT AN 3000 (λ_=>[]) 55 ?_;exact cast (GK _ _).symm ⟨true,al (λ_=>⟨false,uy,al (λ_=>aA) λh=>absurd (by simpa using h) he⟩) λh=>by cases h⟩
 .rw[j7,aw he]at hq;have Mn:=λh=>(Qa (a:=z.an) (tr:=tr) aN h).1
  have W6:=λh=>(Qa (a:=z.an) (tr:=tr) aN h).2.1
  generalize pK:pE (.mk k n s l,.mk k' n' s' l') z.an tr=r at hq Mn W6;have⟨r1,r2⟩:=r;by_cases hf:r2≠0
  .rw[aP hf]at hq;subst hq;refine afr ?_;refine eT AN 3000 (λ_=>[]) 55 ?_;exact cast (GK _ _).symm ⟨true,al (λ_=>⟨false,uy,al (λh=>absurd (by simpa using h) he) λ_=>⟨⟨(.mk k n s l,.mk k' n' s' l'),z.an,tr,r1,r2⟩,⟨rfl,rfl,aN.1,aN.2,pK⟩,al (λh=>absurd (by simpa using h) hf) λ_=>aA⟩⟩) λh=>by cases h⟩
  .rw[aw hf]at hq;have Mn:=Mn hf;have W6:=W6 hf;generalize wR:mR z i r1=q at hq;have⟨zf,bl,e2⟩:=q;subst hq;refine eT AN 3000 (λ_=>[]) 55 ?_;refine cast (GK _ _).symm ⟨true,al (λ_=>⟨false,uy,al (λh=>absurd (by simpa using h) he) λ_=>⟨⟨(.mk k n s l,.mk k' n' s' l'),z.an,tr,r1,r2⟩,⟨rfl,rfl,aN.1,aN.2,pK⟩,al (λ_=>⟨⟨z,i,(.mk k n s l,.mk k' n' s' l'),r1,zf,bl,e2⟩,⟨rfl,rfl,Mn,lz W6 (by decide),wR⟩,⟨by rw[bc,oD,n7],by omega,rfl,rfl⟩,rfl,⟨by rw[ax8,n7],by omega,rfl,rfl⟩,?_⟩) λh=>absurd (by simpa using h) hf⟩⟩) λh=>by cases h⟩;rw[<-aGc,<-ax9];simp only[fD,u3X,cj,dJ,gH];exact⟨trivial,trivial⟩
theorem aM3{c0 tr st s k}(h:st.z.cY=c0/\st.aW.length<=k/\st.cG.length<=k):(j7 tr st s).z.cY=c0/\(j7 tr st s).aW.length<=k+1/\(j7 tr st s).cG.length<=k+1:=by
 unfold j7;split
 .exact⟨h.1,by omega,by omega⟩
 .split
  .exact⟨h.1,by simp only;omega,by simp only;omega⟩
  .have⟨a,j,e⟩:=alP (pE s.c st.z.an tr).1 st.z s.id;exact⟨by rw[e];exact h.1,by simp;omega,by simp;omega⟩
theorem aM1{cm c0 tr st s k}(h:st.z.cY=c0/\st.aW.length<=k/\st.cG.length<=k):(ud cm tr st s).z.cY=c0/\(ud cm tr st s).aW.length<=k+1/\(ud cm tr st s).cG.length<=k+1:=by
 unfold ud;split
 .exact⟨h.1,by omega,by omega⟩
 .exact aM3 h
abbrev wK:AV:=.cw (.func 26) [] [.aa 0 0,.aa 1 0,.aa 2 0,.aa 3 0,.aa 4 0]
theorem PO:∀{l p},p∈l->p.bk.length<=jB l
 |x::l,p,h=>by
  have hn:jB (x::l)=x.bk.length+jB l:=by simp[jB]
  rcases dU.1 h with rfl|h
  .omega
  .have:=PO h;omega
abbrev ED(tr:Bool)(st:S3):AH:=FB st.z st.e tr (bc st.aW) st.aW.length (mU st.cG) st.cG.length
abbrev Uf(tr:Bool)(st:S3)(o:aO):AH:=adH st.z st.e tr (bc st.aW) st.aW.length (mU st.cG) st.cG.length o
theorem azR{v H1 l tr}(st i)(h:i<l.length)(hh:ba Z 23 32 14 v H1 (ue wK 14 l i l[i].bk 0) (Uf tr st (tW l[i])) (aB Z 23 1)):ba Z 23 32 14 v H1 (uR wK l i) (ED tr st) (aB Z 23 0):=by refine hE HC atN ?_;have bP:=yf h;generalize l[i]=p at bP hh;have⟨nm,ar,dy,bk⟩:=p;exact al (λ_=>⟨i,rfl,h,nm,ar,dy,ew bk,bk.length,bP,hh⟩) λhn=>ab (c9 hn)
theorem azO{v H1 l cm tr k}(hk:k<3000000)(st i p j)(h:j<p.bk.length)(fW:p.bk.length<=3000000)(ho:∀s∈p.bk,pa s.c)(tA:st.z.cY=mP cm/\st.aW.length<=k/\st.cG.length<=k)(hh:ba Z 23 32 14 v H1 (ue wK 14 l i p.bk (j+1)) (Uf tr (ud cm tr st p.bk[j]) (tW p)) (aB Z 23 1)):ba Z 23 32 14 v H1 (ue wK 14 l i p.bk j) (Uf tr st (tW p)) (aB Z 23 1):=by
 have⟨nm,ar,dy,bk⟩:=p;refine hE HC atM ?_;have bP:=H_ h;have Xj:=ho bk[j] (k7 h);generalize bk[j]=s at bP Xj hh;have⟨id,⟨⟨k,n,ez,ts⟩,⟨k',n',pR,oF⟩⟩⟩:=s;have q1:st.aW.length+1<=4000000:=by omega
 have q2:st.cG.length+1<=4000000:=by omega
 generalize MF:ud cm tr st ⟨id,⟨⟨k,n,ez,ts⟩,⟨k',n',pR,oF⟩⟩⟩=mi at hh;refine al (λ_=>⟨j,rfl,h,id,k,n,ez,az ts,ts.length,k',n',pR,az oF,oF.length,bP,⟨st,cm,tr,⟨nm,ar,0⟩,⟨id,⟨⟨k,n,ez,ts⟩,⟨k',n',pR,oF⟩⟩⟩,mi⟩,⟨rfl,rfl,tA.1,Xj,q1,q2,MF⟩,?_⟩) λhn=>ab (c9 hn)
 rw[cb];exact hh
theorem azT{v H1 l tr}(hl:l.length<=3000000)(st i p)(hi:i<l.length)(hh:ba Z 23 32 14 v H1 (uR wK l (i+1)) (ED tr st) (aB Z 23 0)):ba Z 23 32 14 v H1 (ue wK 14 l i p.bk p.bk.length) (Uf tr st (tW p)) (aB Z 23 1):=by
 have⟨nm,ar,dy,bk⟩:=p;refine hE HC atM ?_;delta cu;refine al (λhn=>ab (cP hn)) λ_=>?_
 rw[cb];exact hh
theorem azP{l}(i a)(h:(uR wK l 0).bL i=some a):eF (mb 6 14) a=some a:=by refine yN h ?_;intro x hx;simp at hx;rcases hx with rfl|rfl|rfl|rfl<;>rfl
theorem azQ{l}(i a)(h:(uR wK l 0).bL i=some a):eF (mb 7 15) a=some a:=by refine yN h ?_;intro x hx;simp at hx;rcases hx with rfl|rfl|rfl|rfl<;>rfl
theorem azS{v H1 z e tr aW ni bs nb nx l}(h:ba Z 23 32 14 v H1 (uR wK l 0) (rk z e tr aW ni bs nb) (aB Z 23 0)):bC Z 23 [.aj [J nx,.aq (cR l) l.length 4],wK] (rk z e tr aW ni bs nb) v H1:=by refine eE 32 HC aK1 ?_;exact h
theorem azN{st aC cm tr nx l}(hz:st.z.cY=mP cm)(h0:st.aW=[]/\st.cG=[])(hl:l.length<=3000000)(hc:jB l<=3000000)(ho:∀p∈l,∀s∈p.bk,pa s.c)(yv:rf (λst _ s=>ud cm tr st s) st l=aC):
 bC Z 23 [.aj [J nx,.aq (cR l) l.length 4],wK] (Ue st tr) (.aL []) (ED tr aC):=by
 have fX:st.z.cY=mP cm/\st.aW.length<=0/\st.cG.length<=0:=⟨hz,by rw[h0.1];exact ct 0,by rw[h0.2];exact ct 0⟩;have hK:0+jB l<=jB l:=by omega
 have this:=(VA (HS:=ED tr) (v:=.aL []) (H1:=ED tr aC)
  (λst i h hh=>azR st i h hh)
  (λk st i p j h hp hi tA hk=>⟨aM1 tA,λhh=>azO (by omega:k<3000000) st i p j h (lz (PO hp) hc) (ho p hp) tA hh⟩)
  (λst i p hp hi hh=>azT hl st i p hi hh)
  l [] st 0 rfl fX hK).2
 rw[yv]at this;have Dl:ba Z 23 32 14 (.aL []) (ED tr aC) (uR wK l l.length) (ED tr aC) (aB Z 23 0):=by refine hE HC atN ?_;exact al (λhn=>ab (cP hn)) λ_=>aA
 have h1:=this Dl;have h3:=wS h1 Yl.2 (λi a h=>⟨a,h,azQ i a h⟩);have h4:=wS h3 Yl.1 (λi a h=>⟨a,h,azP i a h⟩);exact azS h4
def tq(z:Ar)(th:ES)(tc:Nat):AH:=cC z.X z.xc [(0,.ah [.aS 2] 74),(1,.ah [.aa 3 0] 25),(2,.bI th tc true),(3,dV z 4 5 6 7 8 9),(4,cO z),(5,dv z),(6,du z),(7,cQ z),(8,dh z),(9,cK z)] 10
def adI(z:Ar)(th:ES)(tc:Nat)(o:aO):AH:=cC z.X z.xc [(0,.ah [.aS 2] 74),(1,.ah [.aa 3 0] 25),(2,.bI th tc true),(3,dV z 4 5 6 7 8 9),(4,cO z),(5,dv z),(6,du z),(7,cQ z),(8,dh z),(9,cK z),(10,o)] 11
theorem aow{z z' th ZP tc tc'}(h:tq z th tc=tq z' ZP tc'):z=z'/\th=ZP/\tc=tc':=by have g2:=congrArg (λH=>AH.aR H 2) h;have h0:=congrArg (λH=>AH.aR H 3) h;have h1:=congrArg (λH=>AH.aR H 4) h;have h2:=congrArg (λH=>AH.aR H 5) h;have h3:=congrArg (λH=>AH.aR H 6) h;have h4:=congrArg (λH=>AH.aR H 7) h;have h5:=congrArg (λH=>AH.aR H 8) h;have h6:=congrArg (λH=>AH.aR H 9) h;have h7:=congrArg AH.x h;replace h1:some (cO z)=some (cO z'):=h1;replace h6:some (cK z)=some (cK z'):=h6;have⟨a0,a1,a2,a3,a4,a5,a6,a7,a8,a9,KJ,KK,KL,KM,KN,KO⟩:=z;have⟨b0,b1,b2,b3,b4,b5,b6,b7,b8,b9,HG,HH,U4,U6,U7,U8⟩:=z';simp only[dV,cO,dv,du,cQ,dh,cK,lN,aO.ah.injEq,aO.au.injEq,aO.bI.injEq,fG,AV.bD.injEq,AV.ad.injEq,XH.mk.injEq,true_and,and_true]at g2 h0 h1 h2 h3 h4 h5 h6 h7;obtain⟨rfl,rfl,rfl,rfl⟩:=h0;obtain⟨rfl,rfl⟩:=h2;obtain⟨rfl,rfl⟩:=h3;obtain⟨rfl,rfl⟩:=h4;obtain⟨rfl,rfl⟩:=h5;obtain⟨rfl,rfl⟩:=h7;obtain⟨rfl,rfl⟩:=g2;subst h1 h6;exact⟨rfl,rfl,rfl⟩
structure S5 where
 z:Ar
 m:List En
 th:List (Int×Bool)
def S5.k(st:S5):Ks:=⟨st.m,st.z.nc,st.z.X,st.z.xc⟩
def Ar.kn(z:Ar)(k:Ks):Ar:={z with cD:=dS k.m,nc:=k.c,X:=k.X,xc:=k.xc}
def oE(st:S5)(p:gZ)(i:Int):S5:=⟨st.z.kn (st.k.qP p i),(st.k.qP p i).m,up i true st.th⟩
def k9(th:List (Int×Bool)):ES:=bJ .ai 0 th
structure U5 where
 st:S5
 p:gZ
 s:eK
def u5X:bT U5 where
 aI w A H:=A=[.aj (Lt w.p),.aj (pA w.s),.aa 0 0,.aa 1 0]/\H=tq w.st.z (k9 w.st.th) w.st.th.length/\w.st.z.cD=dS w.st.m/\w.st.k.OK 3999999
 v w:=.aL []
 aD w:=tq (oE w.st w.p w.s.id).z (k9 (oE w.st w.p w.s.id).th) (oE w.st w.p w.s.id).th.length
theorem ag8:∀{a b} (k),bJ AV.ai k a=bJ AV.ai k b->a=b
 |[],[],_,_=>rfl
 |[],_::_,_,h=>by simp[bJ]at h
 |_::_,[],_,h=>by simp[bJ]at h
 |(i,x)::a,(j,y)::b,k,h=>by simp only[bJ,fG,Js,AV.bD.injEq,AV.ai.injEq,true_and,and_true]at h;obtain⟨⟨rfl,rfl⟩,h2⟩:=h;rw[ag8 (k+1) h2]
theorem aNu:u5X.bM:=by rintro⟨st,p,s⟩ ⟨kv,p',s'⟩ A H ⟨h1,h2,k1,k2⟩ ⟨h3,h4,k3,k4⟩;have⟨e1,e2,_⟩:=aow (h2.symm.trans h4);rw[h1]at h3;simp at h3;have e6:=P3 h3.2;have e7:=ag8 0 e2;have⟨z,m,th⟩:=st;have⟨z',m',ZP⟩:=kv;have⟨nm,ar,an⟩:=p;have⟨pR,ar',acf⟩:=p';have e8:=h3.1;obtain⟨rfl,rfl,rfl⟩:=e8;subst e1 e6 e7;have e3:=ac8 (k:=⟨m,z.nc,z.X,z.xc⟩) (k':=⟨m',z.nc,z.X,z.xc⟩) rfl k2 k4 (k1.symm.trans k3);subst e3;rfl
def Pd:Ev.aX:=bx 54 (bE u5X aNu mY) Kv
theorem aLR{z th tc nm ar an d k n s cs len k' n' s' cs' len' L Q}:
 eG Kv [] L Q 54 (Oi (oI nm ar an) (AG d k n s cs len k' n' s' cs' len')) (tq z th tc)=rP 2 th tc d (.ai true) (λbF=>λc'=>∃bm:Nat,∃b_:Nat,∃b:Nat,∃Ba:List (AV×AV×Nat),∃Vg:Nat,Ic Z 39 35 1 z.cD z.nc true (oI nm ar an)=some (bm,(b_,(b,(Ba,Vg))))/\(b_+1<=4194304/\Hh)/\(∃vs:LV,NL (Cv z [] 0) bm b_ 1 vs/\(∃ank:List (AV×AV×Nat),Gl Ba b (.gV z.xc (b_+1) 1)=some ank/\Q (.aL []) (cC (Cg z.X z.xc bm b_ (vs++[J d]) 2) (z.xc+1) (El (k_ 2 74) (u4 3 25) (eu bF c') (dV z 4 5 6 7 8 9) (cO z) (dv z) (du z) (eu ank Vg) (dh z) (cK z)) 10)))):=by kernel_rfl
theorem aK2{z th tc nx ps np L Q}:
 fA Pd yM L Q 23 [nF nx ps np,nH 54 lS] (tq z th tc)=L (Ei 54 lS ps np (J 0)) (tq z th tc) (aB Z 23 0):=by kernel_rfl
theorem atP{z th tc ps np i L Q}:
 iL Pd yM L Q 23 10 (Ei 54 lS ps np (J i)) 0 (tq z th tc)=J9 i np ps (λs=>λn=>λb=>λcs=>λlen=>L (Ey 54 lS 10 ps np i cs len 0) (adI z th tc (nr s n b cs len)) (aB Z 23 1)) (Q (.aL []) (tq z th tc)):=by kernel_rfl
abbrev Ek(h0:U5):=oE h0.st h0.p h0.s.id
abbrev NY(h0:U5):=oE h0.st h0.p (eK.id h0.s)
theorem atO{z th tc ps np i nm ar dy ss ns j L Q}:
 iL Pd yM L Q 23 10 (Ey 54 lS 10 ps np i ss ns j) 1 (adI z th tc (.ah (y' nm ar dy ss ns) 34))=OC j ns ss (λn=>λbm=>λbS=>λs=>λcs=>λlen=>λdn=>λfx=>λcX=>λcA=>λb_=>∃w:U5,((Oi (oI nm ar 0) (AG n bm bS s cs len dn fx cX cA b_):LV)=Oi (.aj (Lt w.p)) (pA w.s)/\tq z th tc=tq w.st.z (k9 w.st.th) w.st.th.length/\w.st.z.cD=dS w.st.m/\Ks.OK w.st.k 3999999)/\L (Ey 54 lS 10 ps np i ss ns (wI (j+1))) (cC (Ek w).z.X (NY w).z.xc [(0,k_ 2 74),(1,u4 3 25),(2,eu (k9 (Ek w).th) (Ek w).th.length),(3,dV (NY w).z 4 5 6 7 8 9),(4,cO (Ek w).z),(5,eu (Ek w).z.cY (NY w).z.cc),(6,eu (Ek w).z.lC (NY w).z.rc),(7,eu (Ek w).z.cD (NY w).z.nc),(8,eu (Ek w).z.fy (NY w).z.oc),(9,cK (Ek w).z),(10,nr nm ar dy ss ns)] 11) (aB Z 23 1)) (L (Ei 54 lS ps np (cu i)) (tq z th tc) (aB Z 23 0)):=by kernel_rfl
theorem aAy{k:Ks}{L}(aN:k.OK L)(hL:L<=4000000)(p i):∃(n len b:Nat) (bF:ES) (c':Nat) (vs:LV) (LD:ES),Ic Z 39 35 1 (dS k.m) k.c true (nh p)=some (n,len,b,bF,c')/\len+1<=4194304/\NL (cC k.X k.xc [] 0) n len 1 vs/\Gl bF b (.gV k.xc (len+1) 1)=some LD/\
 LD=dS (k.qP p i).m/\c'=(k.qP p i).c/\Cg k.X k.xc n len (vs++[J i]) 2=(k.qP p i).X:=by
 have cx:=RN aN p;have⟨c1,c2⟩:=PT (k:=k) p;have cr:=cx.len _ c1;refine⟨_,_,_,_,_,bc (jb p k.m k.c).aW,_,am6,by omega,?_,?_,rfl,rfl,rfl⟩
 .by_cases h0:(jb p k.m k.c).aW=[]
  .exact .inl ⟨by rw[h0];rfl,by rw[h0];rfl⟩
  .refine .inr ⟨λh=>h0 (mE h),2,?_,by rw[bc,oD,n7]⟩;rw[aw h0];exact(cx.Ai _ c1 h0).2
 .have:=af6 (n:=k.xc) (aW:=(jb p k.m k.c).aW++[i]) (VT p k.m k.c) cx.Ns;rw[asT]at this;exact this
theorem Kx:aF Z Pd:=by refine bY HC ?_;rintro⟨⟨z,m,th⟩,⟨nm,ar,an⟩,⟨i,⟨⟨k,n,s,l⟩,⟨k',n',s',l'⟩⟩⟩⟩ args H ⟨rfl,rfl,hz,aN⟩;have⟨n0,len,b,bF,c',vs,LD,h1,h2,h3,h4,h5,h6,h7⟩:=aAy (k:=⟨m,z.nc,z.X,z.xc⟩) aN (by omega) ⟨nm,ar,an⟩ i;rw[<-hz]at h1;refine eE 21 HC aLR ?_;refine⟨_,_,ph AV.ai iF,n0,len,b,bF,c',h1,⟨h2,rfl,rfl⟩,vs,h3,LD,h4,rfl,?_⟩;rw[h5,h6,h7];rfl
abbrev kq(p:cB):gZ:=⟨p.gD,p.ar,0⟩
abbrev EE(st:S5):AH:=tq st.z (k9 st.th) st.th.length
abbrev Ug(st:S5)(o:aO):AH:=adI st.z (k9 st.th) st.th.length o
abbrev Bc:AV:=.cw (.func 54) [] [.aa 0 0,.aa 1 0]
def DI(k:Nat)(st:S5):Prop:=st.z.cD=dS st.m/\st.k.OK k
theorem azX{v H1 l}(st i)(h:i<l.length)(hh:ba Z 23 32 10 v H1 (ue Bc 10 l i l[i].bk 0) (Ug st (tW l[i])) (aB Z 23 1)):ba Z 23 32 10 v H1 (uR Bc l i) (EE st) (aB Z 23 0):=by refine hE Kx atP ?_;have bP:=yf h;generalize l[i]=p at bP hh;have⟨nm,ar,dy,bk⟩:=p;exact al (λ_=>⟨i,rfl,h,nm,ar,dy,ew bk,bk.length,bP,hh⟩) λhn=>ab (c9 hn)
theorem azW{v H1 l k}(hk:k<3000000)(st i p j)(h:j<p.bk.length)(fW:p.bk.length<=3000000)(tA:DI k st)(hh:ba Z 23 32 10 v H1 (ue Bc 10 l i p.bk (j+1)) (Ug (oE st (kq p) p.bk[j].id) (tW p)) (aB Z 23 1)):ba Z 23 32 10 v H1 (ue Bc 10 l i p.bk j) (Ug st (tW p)) (aB Z 23 1):=by
 have⟨nm,ar,dy,bk⟩:=p;refine hE Kx atO ?_;have bP:=H_ h;generalize bk[j]=s at bP hh;have⟨id,⟨⟨k,n,ez,ts⟩,⟨k',n',pR,oF⟩⟩⟩:=s;refine al (λ_=>⟨j,rfl,h,id,k,n,ez,az ts,ts.length,k',n',pR,az oF,oF.length,bP,⟨st,⟨nm,ar,0⟩,⟨id,⟨⟨k,n,ez,ts⟩,⟨k',n',pR,oF⟩⟩⟩⟩,⟨rfl,rfl,tA.1,tA.2.mono (by omega)⟩,?_⟩) λhn=>ab (c9 hn)
 rw[cb];exact hh
theorem azZ{v H1 l}(hl:l.length<=3000000)(st i p)(hi:i<l.length)(hh:ba Z 23 32 10 v H1 (uR Bc l (i+1)) (EE st) (aB Z 23 0)):ba Z 23 32 10 v H1 (ue Bc 10 l i p.bk p.bk.length) (Ug st (tW p)) (aB Z 23 1):=by
 have⟨nm,ar,dy,bk⟩:=p;refine hE Kx atO ?_;delta cu;refine al (λhn=>ab (cP hn)) λ_=>?_
 rw[cb];exact hh
theorem azY{v H1 st nx l}(h:ba Z 23 32 10 v H1 (uR Bc l 0) (EE st) (aB Z 23 0)):bC Z 23 [.aj [J nx,.aq (cR l) l.length 4],Bc] (EE st) v H1:=by refine eE 32 Kx aK2 ?_;exact h
theorem apH{k st p i}(h:DI k st):DI (k+1) (oE st p i):=⟨rfl,h.2.add p i⟩
def pF(st:S5)(l:List cB):S5:=rf (λst p s=>oE st (kq p) s.id) st l
theorem azV{st aC nx l}(h0:DI 0 st)(hl:l.length<=3000000)(hc:jB l<=3000000)(yv:pF st l=aC):
 bC Z 23 [.aj [J nx,.aq (cR l) l.length 4],Bc] (EE st) (.aL []) (EE aC)/\DI (jB l) aC:=by
 have hK:0+jB l<=jB l:=by omega
 have this:=VA (v:=.aL []) (H1:=EE aC) (gN:=λst p s=>oE st (kq p) s.id)
  (λst i h hh=>azX st i h hh)
  (λk st i p j h hp hi tA hk=>⟨apH tA,λhh=>azW (by omega:k<3000000) st i p j h (lz (PO hp) hc) tA hh⟩)
  (λst i p hp hi hh=>azZ hl st i p hi hh)
  l [] st 0 rfl h0 hK
 unfold pF at yv;rw[yv,lx]at this;refine⟨azY (this.2 ?_),this.1⟩;refine hE Kx atP ?_;exact al (λhn=>ab (cP hn)) λ_=>aA
structure u7(l:List cB):Prop where
 dT:l.length<=3000000
 bk:jB l<=3000000
 ok:∀p∈l,∀s∈p.bk,pa s.c
structure EcA where
 z:Ar
 b:Bool
 nx:Int
 l:List cB
 rt:List (Int×Bool)
def amv:bT EcA where
 aI w A H:=A=[.aj [J w.nx,.aq (cR w.l) w.l.length 4],.cw (.func 24) [] [.aa 0 0,.aa 1 0]]/\H=oq w.z w.b/\w.z.lC=bJ AV.ai 0 w.rt/\u7 w.l
 v w:=.aL []
 aD w:=oq w.z (q_ w.rt w.b w.l)
theorem azK:amv.bM:=by rintro⟨z,b,nx,l,rt⟩ ⟨z',b',rE,l',rt'⟩ A H ⟨h1,h2,k1,_⟩ ⟨h3,h4,k2,_⟩;have⟨e1,e2⟩:=aou (h2.symm.trans h4);subst e1 e2;simp only at h1 h3 k1 k2;obtain rfl:=Ln 0 (k1.symm.trans k2);rw[h1]at h3;simp only[fG,AV.aj.injEq,AV.aq.injEq,and_true]at h3;rw[Lu h3.2.2 h3.2.1];rfl
structure EcB where
 st:S3
 cm:List (Int×Nat)
 tr:Bool
 nx:Int
 l:List cB
 aC:S3
def amw:bT EcB where
 aI w A H:=A=[.aj [J w.nx,.aq (cR w.l) w.l.length 4],wK]/\H=Ue w.st w.tr/\w.st.z.cY=mP w.cm/\(w.st.aW=[]/\w.st.cG=[])/\u7 w.l/\rf (λst _ s=>ud w.cm w.tr st s) w.st w.l=w.aC
 v w:=.aL []
 aD w:=ED w.tr w.aC
theorem azM:amw.bM:=by rintro⟨st,cm,tr,nx,l,aC⟩ ⟨kv,cm',GR,rE,l',ans⟩ A H ⟨h1,h2,c1,_,_,q1⟩ ⟨h3,h4,c2,_,_,q2⟩;have⟨e1,e2,e3,e4,_,e5,_⟩:=aov (h2.symm.trans h4);rw[h1]at h3;simp at h3;have e6:=Lu h3.2.2 h3.2.1;have e7:=BP e4;have e8:=acY e5;have⟨z,e,aW,cG⟩:=st;have⟨z',e',F1,ayj⟩:=kv;subst e1 e2 e3 e6 e7 e8;obtain rfl:=Vl (c1.symm.trans c2);rw[q1]at q2;subst q2;rfl
structure EcC where
 st:S5
 nx:Int
 l:List cB
 aC:S5
def amx:bT EcC where
 aI w A H:=A=[.aj [J w.nx,.aq (cR w.l) w.l.length 4],Bc]/\H=tq w.st.z (k9 w.st.th) w.st.th.length/\DI 0 w.st/\u7 w.l/\pF w.st w.l=w.aC
 v w:=.aL []
 aD w:=tq w.aC.z (k9 w.aC.th) w.aC.th.length
theorem azU:amx.bM:=by rintro⟨st,nx,l,aC⟩ ⟨kv,rE,l',ans⟩ A H ⟨h1,h2,k1,_,q1⟩ ⟨h3,h4,k2,_,q2⟩;have⟨e1,e2,_⟩:=aow (h2.symm.trans h4);rw[h1]at h3;simp at h3;have e6:=Lu h3.2.2 h3.2.1;have e7:=ag8 0 e2;have⟨z,m,th⟩:=st;have⟨z',m',ZP⟩:=kv;subst e1 e6 e7;have e3:=ac8 (k:=⟨m,z.nc,z.X,z.xc⟩) (k':=⟨m',z.nc,z.X,z.xc⟩) rfl k1.2 k2.2 (k1.1.symm.trans k2.1);subst e3;rw[q1]at q2;subst q2;rfl
def amt:LV->AH->Option Sp:=λA H=>match A with
 |[_,.cw (.func 24) _ _]=>bE amv azK mY A H
 |[_,.cw (.func 26) _ _]=>bE amw azM mY A H
 |[_,.cw (.func 54) _ _]=>bE amx azU mY A H
 |_=>none
def HD:Ev.aX:=bx 23 amt Pd
def tK:Nat->LN:=dY [(4,[2,3,4,17,18,19]),(11,[2,4,7,40]),(16,[1000000]),(999998,[2,4,7,40])]
def UQ:List dQ->List dQ
 |.gW ops i (_::rest)::k=>.gW ops (Nat.succ i) rest::k
 |l=>l
def h31(z:Ar)(cD:ES)(nc:Nat)(nx:Int)(ps:LV)(np:Nat)(th:ES)(tc:Nat):AH:=cC z.X z.xc [(0,dV z 1 2 3 10 5 6),(1,cO z),(2,dv z),(3,du z),(4,.bI cD nc true),(5,dh z),(6,cK z),(7,.ah [.aa 0 0] 25),(8,eM nx ps np),(9,.ah [.aS 11] 74),(10,cQ z),(11,.bI th tc true)] 12
def su(z:Ar)(cD:ES)(nc:Nat)(th:ES)(tc:Nat)(seen:LN):AH:=cC z.X z.xc [(0,dV z 1 2 3 10 5 6),(1,cO z),(2,dv z),(3,du z),(4,.bI cD nc true),(5,dh z),(6,cK z),(7,.ah [.aa 0 0] 25),(8,.ah [.aS 11] 74),(9,.iZ (some 2) z.cc seen z.cc),(10,cQ z),(11,.bI th tc true)] 12
abbrev aix h0 h1 h2 h3 h4 h5 h6 h7 h8:=cC h0 h1 (Oh (Cq h2 10) (cO h2) (dv h2) (du h2) h3 (dh h2) (cK h2) (u4 0 25) h4 h5 h6 (eu h7 h8)) 12
abbrev ah6 h0 h1 h2:=aaM 2 (.aa 7 0) 3 8 4 9 17 h0 h1 18 (a_ h1) 19 h2
theorem aLf{z nx ps np L Q}:
 fA HD tK L Q 31 (sV (nF nx ps np)) (hA z)=L (aJ (ah6 ps np (J 0))) (aix z.X z.xc z (cQ z) (eM nx ps np) (k_ 11 74) (.bI [] 0 false) [] 0) (aB Z 31 0):=by kernel_rfl
abbrev Tc h0 h1:=J8 2 7 4 8 7 h0 40 (.aa h1 0)
abbrev ah0 h0 h1 h2 h3 h4 h5 h6 h7 h8:=aix h0 h1 h2 (eu h3 h4) (k_ 11 74) (aO.iZ (some 2) h5 h6 h5) (cQ h2) h7 h8
theorem atW{z cD nc nx ps np th tc i L Q}:
 ju HD tK L Q 31 7 (ah6 ps np (J i)) (h31 z cD nc nx ps np th tc)=J9 i np ps (λs=>λn=>λb=>λcs=>λlen=>∃bF,∃c',y4 Z 39 z.cD z.nc (oI s n 0) .aM=some (bF,c')/\L (aJ (ah6 ps np (cu i))) (aix z.X z.xc z (eu cD nc) (eM nx ps np) (k_ 11 74) (eu bF c') th tc) (aB Z 31 0)) (∃w:EcC,(Ct (nF nx ps np) (nH 54 lS) (nF w.nx (cR w.l) w.l.length)/\tq z th tc=EE w.st/\DI 0 w.st/\u7 w.l/\pF w.st w.l=w.aC)/\L (Tc .aM 9) (ah0 w.aC.z.X w.aC.z.xc w.aC.z cD nc w.aC.z.cc [] (k9 w.aC.th) w.aC.th.length) (aB Z 31 1)):=by kernel_rfl
theorem atV{z cD nc th tc seen L Q}:
 iL HD tK L Q 31 7 (Tc .aM 9) 1 (su z cD nc th tc seen)=L (Tc .aM 9) (ah0 z.X z.xc z cD nc z.cc seen th tc) (dg Z tK 31 0):=by kernel_rfl
abbrev Z6 h0 h1 h2 h3 h4 h5:=pY Z HD tK h0 h1 1000 31 7 (aJ (J1 2 7 4 8 7 h2 40 (.aa h3 0) 41 (.aL h4))) (UQ (dg Z tK 31 0)) h5
abbrev avt h0 h1 h2 h3 h4 h5 h6 h7 h8 h9 dG:=∃b0:AV,Di (iC (Tr.fB (aJ [(2,AV.aa 7 0),(4,AV.aa 8 0),(7,h0),(40,AV.aa h1 0),(41,AV.aL [AV.ai true,h2,h3])]) 42 (AV.ai true))) h4 (Operand.tmp 40)=some (Go.Ev.jf.gQ (.aL [J h5,b0]) h4)/\(∃b1:Bool,Oy h6 h5 b1 (gT (!b1) h7 h8 (Tc h9 h1) dG 31 1))
abbrev avx(h0:Ar) h1 h2 h3 h4 h5 h6:=cC h0.X h0.xc [(0,Cq h0 11),(1,cO h0),(2,dv h0),(3,du h0),(4,eu h1 h2),(5,dh h0),(6,cK h0),(7,u4 0 25),(8,k_ 12 74),(9,h3),(10,aO.iZ (some 2) h0.cc h4 h0.cc),(11,cQ h0),(12,eu h5 h6)] 13
abbrev aaJ h0:=Tc (.ad 9 h0 1) 10
theorem atX{z cD nc th tc seen a v L Q}:
 Z6 L Q .aM 9 [.ai true,a,v] (su z cD nc th tc seen)=(∃n,avt AV.aM 9 a v (su z cD nc th tc seen) n th (L (aaJ 1) (avx z cD nc (.ah [J n] 2) seen th tc) (aB Z 31 1)) L .aM (ah0 z.X z.xc z cD nc z.cc seen th tc)):=by kernel_rfl
theorem aLg{z cD nc th tc seen L Q}:
 Z6 L Q .aM 9 [.ai false] (su z cD nc th tc seen)=Q (.aL []) (Td z.X z.xc (Cq z 7) (cO z) z (eu cD nc) (cQ z)):=by kernel_rfl
theorem xX:aF Z HD:=by
 refine wA Kx λargs H sp p v H' hs hd hp=>?_
 unfold amt at hs;have key:∀{W:Type} {e:bT W} {one:e.bM},bE e one mY args H=some sp->∃w,(p,v,H')=(e.aI w args H,e.v w,e.aD w):=by intro W e one h;have⟨_,h⟩:=EN h;cases h;exact HW hd
 split at hs
 .have⟨⟨z,b,nx,l,rt⟩,e⟩:=key hs;cases e;obtain⟨h1,rfl,h2,h3⟩:=hp;rw[h1];exact azL (d:=⟨nx,l⟩) h2 (lz h3.dT (by decide)) (λp hp=>lz (PO hp) (lz h3.bk (by decide)))
 .have⟨⟨st,cm,tr,nx,l,aC⟩,e⟩:=key hs;cases e;obtain⟨h1,rfl,h2,h3,h4,h5⟩:=hp;rw[h1];exact azN h2 h3 h4.dT h4.bk h4.ok h5
 .have⟨⟨st,nx,l,aC⟩,e⟩:=key hs;cases e;obtain⟨h1,rfl,h2,h3,h4⟩:=hp;rw[h1];exact(azV h2 h3.dT h3.bk h4).1
 .cases hs
def Rk(d it:Nat):List dQ->Bool
 |.gW _ _ (o::_)::_=>(match o.op with|.next (.tmp t) false=>Nat.beq t it|_=>false)&&(match o.guard with|none=>true|some _=>false)&&(match o.dst with|some x=>Nat.beq x d|none=>false)
 |_=>false
theorem aew{d it l}(h:Rk d it l=true):∃ops i o rest k,l=.gW ops i (o::rest)::k/\o.op=.next (.tmp it) false/\o.guard=none/\o.dst=some d:=by
 unfold Rk at h;split at h;next ops i o rest k=>
  simp at h;refine⟨ops,i,o,rest,k,rfl,?_,?_,?_⟩
  .have:=h.1.1;split at this;next t ht=>rw[ht,dN this]
   .cases this
  .have:=h.1.2;split at this;next hg=>exact hg
   .cases this
  .have:=h.2;split at this;next x hx=>rw[hx,dN this]
   .cases this
 .cases h
theorem HZ{D ev}:∀{l:List (Int×D)} {k e},e∈bJ ev k l->∃x∈l,e.1=J x.1/\k<=e.2.2/\e.2.2<k+l.length
 |(i,x)::l,k,e,h=>by
  simp only[bJ,dU]at h;rcases h with rfl|h
  .exact⟨(i,x),dk ..,rfl,ct _,by simp only[dJ];omega⟩
  .have⟨y,h1,h2,h3,h4⟩:=HZ h;exact⟨y,dZ _ h1,h2,by omega,by simp;omega⟩
theorem VJ{D ev}:∀{l:List (Int×D)} {k e},e∈bJ ev k l->(bJ ev k l).find? (λx=>Nat.beq x.2.2 e.2.2)=some e
 |(i,x)::l,k,e,h=>by
  simp only[bJ,dU]at h;simp only[bJ,List.find?_cons];rcases h with rfl|h
  .simp
  .have⟨_,_,_,h3,_⟩:=HZ h;have:Nat.beq k e.2.2=false:=by
    cases hb:Nat.beq k e.2.2 with
    |false=>rfl
    |true=>have:=dN hb;omega
   rw[this];exact VJ h
theorem aeX{es seen e}(h:e∈Ev.qt es seen):(Ev.qt es (seen++[e.2.2])).length<(Ev.qt es seen).length:=by
 have:Ev.qt es (seen++[e.2.2])=(Ev.qt es seen).filter λx=> !Nat.beq x.2.2 e.2.2:=by simp only[Ev.qt,List.filter_filter];congr 1;funext x;simp;rw[Bool.and_comm]
 rw[this];refine List.length_filter_lt_length_iff_exists.2 ⟨e,h,?_⟩;simp
theorem adY{z cD th nc tc seen e t n}(ht:t.bL 40=some (.aa 9 0))(hf:z.cY.find? (λx=>Nat.beq x.2.2 e.2.2)=some e)(hn:e.1=J n):
 Di (iC t) (su z cD nc th tc (seen++[e.2.2])) (.tmp 40)=some (.gQ (.aL [J n,e.2.1]) (su z cD nc th tc (seen++[e.2.2]))):=by
 have h1:iC t (.tmp 40)=some (.aa 9 0):=ht;have h2:(su z cD nc th tc (seen++[e.2.2])).aR 9=some (.iZ (some 2) z.cc (seen++[e.2.2]) z.cc):=by kernel_rfl
 have h3:(su z cD nc th tc (seen++[e.2.2])).aR 2=some (.bI z.cY z.cc true):=by kernel_rfl
 simp only[Di,h1,h2,VW,List.getLast?_append,List.getLast?_singleton,Option.some_or,h3,j4,cond_true,hf,hn]
theorem anG{z cD nc th cm}(fW:z.cY=bJ (λn=>.ei n 0) 0 cm)(gL:z.cc=cm.length)(DA:∀x∈cm,lk x.1 th=some true):∀n seen,(Ev.qt z.cY seen).length<n->
 ba Z 31 78 7 (.aL []) (cC z.X z.xc [(0,dV z 1 2 3 7 5 6),(1,cO z),(2,dv z),(3,du z),(4,.bI cD nc true),(5,dh z),(6,cK z),(7,cQ z)] 8) (aJ [(2,.aa 7 0),(4,.aa 8 0),(7,.aM),(40,.aa 9 0)]) (su z cD nc (k9 th) th.length seen) (aB Z 31 1)
 |0,seen,h=>by omega
 |n+1,seen,h=>by
  refine hD xX tK ?_;refine cast (@atV z cD nc (k9 th) th.length seen _ _).symm ?_;have Re:Rk 41 40 (dg Z tK 31 0)=true:=by kernel_rfl
  obtain⟨ops,i,o,rest,k,hs,ho,hg,hd⟩:=aew Re;have Iy:UQ (dg Z tK 31 0)=.gW ops (Nat.succ i) rest::k:=by rw[hs];rfl
  have ae:∀e∈z.cY,e.2.2<z.cc:=by intro e he;rw[fW]at he;have⟨x,_,_,_,h4⟩:=HZ he;omega
  have hc:(!seen.isEmpty&& !z.cY.isEmpty&&z.cY.all (λe=>Nat.ble z.cc e.2.2))=false:=by
   cases hz:z.cY with
   |nil=>simp
   |cons e es=>
    have:=ae e (by rw[hz];exact dk ..);have h2:Nat.ble z.cc e.2.2=false:=by
     cases hb:Nat.ble z.cc e.2.2 with
     |false=>rfl
     |true=>have:=qA hb;omega
    simp[h2]
  rw[hs];refine afv (r:=9) (mm:=2) (since:=z.cc) (last:=z.cc) (clock:=z.cc) (p:=true) iH ho hg hd (by decide) (by kernel_rfl) (by kernel_rfl) (by kernel_rfl) hc ae ?_ ?_
  .intro _;rw[<-Iy,show Tr.fB (aJ [(2,AV.aa 7 0),(4,.aa 8 0),(7,.aM),(40,.aa 9 0)]) 41 (.aL [.ai false])=aJ [(2,.aa 7 0),(4,.aa 8 0),(7,.aM),(40,.aa 9 0),(41,.aL [.ai false])]by kernel_rfl];refine hD xX tK ?_;exact cast (@aLg z cD nc (k9 th) th.length seen _ _).symm aA
  .intro e he;have fX:=(xz.1 he).1;have zI:=fX;rw[fW]at zI;have⟨x,hx,hn,_,_⟩:=HZ zI;have hf:z.cY.find? (λx=>Nat.beq x.2.2 e.2.2)=some e:=by rw[fW];exact VJ zI
   have hm:=aeX he;have ih:=anG (cD:=cD) (nc:=nc) fW gL DA n (seen++[e.2.2]) (by omega);have IJ:(su z cD nc (k9 th) th.length seen).cE 9 (.iZ (some 2) z.cc (seen++[e.2.2]) z.cc)=su z cD nc (k9 th) th.length (seen++[e.2.2]):=by kernel_rfl
   rw[<-Iy,show Tr.fB (aJ [(2,AV.aa 7 0),(4,.aa 8 0),(7,.aM),(40,.aa 9 0)]) 41 (.aL [.ai true,e.1,e.2.1])=aJ [(2,.aa 7 0),(4,.aa 8 0),(7,.aM),(40,.aa 9 0),(41,.aL [.ai true,e.1,e.2.1])]by kernel_rfl];show ba Z 31 78 7 _ _ _ ((su z cD nc (k9 th) th.length seen).cE 9 (.iZ (some 2) z.cc (seen++[e.2.2]) z.cc)) _;rw[IJ];refine hE xX atX ?_;refine⟨x.1,e.2.1,adY (by kernel_rfl) hf hn,true,true,?_,al (λh=>(by cases h)) λ_=>ih⟩;rw[k9,nq AV.ai iF,DA x hx]
def QA(z:Ar)(cD:ES)(nc:Nat):AH:=cC z.X z.xc [(0,dV z 1 2 3 7 5 6),(1,cO z),(2,dv z),(3,du z),(4,.bI cD nc true),(5,dh z),(6,cK z),(7,cQ z)] 8
def o8(cm:List (Int×Nat))(th:List (Int×Bool)):List (Int×Nat):=cm.filter λx=> !j9 th x.1
def RJ(X:Nat->Option aO)(n:Nat):Option aO:=match X n with
 |some (.ah vs e)=>some (.ah (iJ vs 1 [.ai true]) e)
 |o=>o
def I6(z:Ar)(x:Int)(n:Nat):Ar:={z with X:=λi=>bif Nat.beq i n then RJ z.X n else z.X i,lC:=[(J x,.ai true,0)],rc:=1,cY:=(CV Z 2 z.cY (J x)).getD z.cY}
def zT(z:Ar)(l:List (Int×Nat)):Ar:=match l with
 |[x]=>I6 z x.1 x.2
 |_=>z
structure EF(z:Ar)(cm l:List (Int×Nat)):Prop where
 one:l.length<=1
 df:∀x∈l,lk x.1 cm=some x.2/\(z.lC=[]/\z.rc=0)/\∃vs e,z.X x.2=some (.ah vs e)/\2<=vs.length
def uw(z:Ar)(cD:ES)(nc:Nat)(th:ES)(tc:Nat)(x:Int)(seen:LN):AH:=cC z.X z.xc [(0,dV z 1 2 3 11 5 6),(1,cO z),(2,dv z),(3,du z),(4,.bI cD nc true),(5,dh z),(6,cK z),(7,.ah [.aa 0 0] 25),(8,.ah [.aS 12] 74),(9,.au [J x] 2),(10,.iZ (some 2) z.cc seen z.cc),(11,cQ z),(12,.bI th tc true)] 13
abbrev aQb(l:List (Nat×AV)):Ev.Tr AV:=aJ ([(2,.aa 7 0),(4,.aa 8 0),(7,.ad 9 1 1),(40,.aa 10 0)]++l)
theorem aLe{z cD nc th tc x seen L Q}:
 iL HD tK L Q 31 7 (aaJ 1) 1 (uw z cD nc th tc x seen)=L (aaJ 1) (uw z cD nc th tc x seen) (dg Z tK 31 0):=by kernel_rfl
theorem aLi{z cD nc th tc x seen a v L Q}:
 Z6 L Q (.ad 9 1 1) 10 [.ai true,a,v] (uw z cD nc th tc x seen)=(∃n:Int,avt (AV.ad 9 1 1) 10 a v (uw z cD nc th tc x seen) n th ((1=1/\2<=4194304/\Hh)/\L (aaJ 2) (avx z cD nc (.au [J x,J n] 2) seen th tc) (aB Z 31 1)) L (.ad 9 1 1) (uw z cD nc th tc x seen)):=by kernel_rfl
theorem aLh{z cD nc th tc x seen L Q}:
 Z6 L Q (.ad 9 1 1) 10 [.ai false] (uw z cD nc th tc x seen)=ia 0 1 (λi=>lh 2 [J x] (i*1) (λn=>Cu (Ci 83 z.cY n .kZ (λb=>False)) (∃bm:Nat,∃off:Nat,Ci 83 z.cY n (.ei bm off) (λb=>∃vs:LV,∃e:Go.TypeId,AH.gO (uw z cD nc th tc x seen) bm=some (aO.ah vs e)/\off+1+1<=vs.length/\(∃bF:ES,∃c':Nat,y4 Z 2 z.lC z.rc (J n) (.ai true)=some (bF,c')/\(∃Ba:ES,CV Z 2 z.cY (J n)=some Ba/\Q (.aL []) (cC (λi=>bif Nat.beq i bm then some (aO.ah (iJ vs (off+1) [.ai true]) e)else z.X i) z.xc [(0,Cq z 7),(1,cO z),(2,eu Ba z.cc),(3,eu bF c'),(4,eu cD nc),(5,dh z),(6,cK z),(7,cQ z)] 8))))))):=by kernel_rfl
theorem ac1{D ev}:∀(a b:List (Int×D)) (k),bJ ev k (a++b)=bJ ev k a++bJ ev (k+a.length) b
 |[],b,k=>by rw[rG,gH,Nat.add_zero];rfl
 |(i,x)::a,b,k=>by rw[j3,bJ,bJ,j3,ac1 a b (k+1),dJ,show k+1+a.length=k+(a.length+1)by omega]
theorem alA{aI post:List (Int×Nat)}{x:Int}{n:Nat}{e}(h:e∈mP (aI++(x,n)::post)):(e.1=J x/\e.2.2=aI.length)\/∃y∈aI++post,e.1=J y.1/\e.2.2≠aI.length:=by
 rw[mP,ac1,bJ]at h;rcases iK.1 h with h|h
 .have⟨y,h1,h2,_,h4⟩:=HZ h;exact .inr ⟨y,DV _ h1,h2,by omega⟩
 .rcases dU.1 h with rfl|h
  .exact .inl ⟨rfl,by simp⟩
  .have⟨y,h1,h2,h3,_⟩:=HZ h;exact .inr ⟨y,List.mem_append_right _ h1,h2,by omega⟩
theorem aCq{z cD th nc tc x seen e t n}(ht:t.bL 40=some (.aa 10 0))(hf:z.cY.find? (λx=>Nat.beq x.2.2 e.2.2)=some e)(hn:e.1=J n):
 Di (iC t) (uw z cD nc th tc x (seen++[e.2.2])) (.tmp 40)=some (.gQ (.aL [J n,e.2.1]) (uw z cD nc th tc x (seen++[e.2.2]))):=by
 have h1:iC t (.tmp 40)=some (.aa 10 0):=ht;have h2:(uw z cD nc th tc x (seen++[e.2.2])).aR 10=some (.iZ (some 2) z.cc (seen++[e.2.2]) z.cc):=by kernel_rfl
 have h3:(uw z cD nc th tc x (seen++[e.2.2])).aR 2=some (.bI z.cY z.cc true):=by kernel_rfl
 simp only[Di,h1,h2,VW,List.getLast?_append,List.getLast?_singleton,Option.some_or,h3,j4,cond_true,hf,hn]
theorem alC{z:Ar}{cm}(fW:z.cY=mP cm)(gL:z.cc=cm.length):∀e∈z.cY,e.2.2<z.cc:=by intro e he;rw[fW]at he;have⟨x,_,_,_,h4⟩:=HZ he;omega
theorem alB{z:Ar}{seen:LN}(h:∀e∈z.cY,e.2.2<z.cc):(!seen.isEmpty&& !z.cY.isEmpty&&z.cY.all (λe=>Nat.ble z.cc e.2.2))=false:=by
 cases hz:z.cY with
 |nil=>simp
 |cons e es=>
  have:=h e (by rw[hz];exact dk ..);have h2:Nat.ble z.cc e.2.2=false:=by
   cases hb:Nat.ble z.cc e.2.2 with
   |false=>rfl
   |true=>have:=qA hb;omega
  simp[h2]
theorem ahq{th i}(h:j9 th i=true):lk i th=some true:=by
 unfold j9 at h;cases hl:lk i th with
 |none=>rw[hl]at h;cases h
 |some b=>rw[hl]at h;exact congrArg some h
theorem anI{z cD nc th x n}{aI post:List (Int×Nat)}(fW:z.cY=mP (aI++(x,n)::post))(gL:z.cc=(aI++(x,n)::post).length)(DA:∀y∈aI++post,j9 th y.1=true)(uy:lk x (aI++(x,n)::post)=some n)(yC:z.lC=[]/\z.rc=0){vs e}(hX:z.X n=some (.ah vs e))(jd:2<=vs.length):∀f seen,aI.length∈seen->(Ev.qt z.cY seen).length<f->
 ba Z 31 78 7 (.aL []) (QA (I6 z x n) cD nc) (aJ [(2,.aa 7 0),(4,.aa 8 0),(7,.ad 9 1 1),(40,.aa 10 0)]) (uw z cD nc (k9 th) th.length x seen) (aB Z 31 1)
 |0,seen,_,h=>by omega
 |f+1,seen,QW,h=>by
  refine hE xX aLe ?_;have Re:Rk 41 40 (dg Z tK 31 0)=true:=by kernel_rfl
  obtain⟨ops,i,o,rest,k,hs,ho,hg,hd⟩:=aew Re;have Iy:UQ (dg Z tK 31 0)=.gW ops (Nat.succ i) rest::k:=by rw[hs];rfl
  have ae:=alC fW gL;have hc:=alB (seen:=seen) ae;rw[hs];refine afv (r:=10) (mm:=2) (since:=z.cc) (last:=z.cc) (clock:=z.cc) (p:=true) iH ho hg hd (by decide) (by kernel_rfl) (by kernel_rfl) (by kernel_rfl) hc ae ?_ ?_
  .intro _;rw[<-Iy,show Tr.fB (aJ [(2,AV.aa 7 0),(4,.aa 8 0),(7,.ad 9 1 1),(40,.aa 10 0)]) 41 (.aL [.ai false])=aJ [(2,.aa 7 0),(4,.aa 8 0),(7,.ad 9 1 1),(40,.aa 10 0),(41,.aL [.ai false])]by kernel_rfl];refine hE xX aLh ?_;have gM:lu Z 2 83 z.cY (J x)=some (.ei n 0,true):=by rw[fW,mP,nq _ iF,uy]
   have QI:∃es,CV Z 2 z.cY (J x)=some es:=by
    unfold CV;rw[fW,mP,V6 _ iF];cases ix x (aI++(x,n)::post)with
    |none=>exact⟨_,rfl⟩
    |some j=>rw[uy];exact⟨_,rfl⟩
   obtain⟨es,QI⟩:=QI;have yy:RJ z.X n=some (.ah (iJ vs (0+1) [.ai true]) e):=by rw[RJ,hX]
   refine⟨0,rfl,by decide,x,rfl,false,al (λh=>(by cases h)) λ_=>⟨n,0,true,gM,vs,e,hX,by omega,[(J x,.ai true,0)],1,by rw[yC.1,yC.2];kernel_rfl,es,QI,?_⟩⟩;rw[<-yy];refine⟨rfl,?_⟩;simp only[QA,I6,QI,Option.getD_some];rfl
  .intro e' he;have fX:=(xz.1 he).1;have hns:=(xz.1 he).2;have zI:=fX;rw[fW]at zI;have hf:z.cY.find? (λx=>Nat.beq x.2.2 e'.2.2)=some e':=by rw[fW];exact VJ zI
   have hm:=aeX he;have ih:=anI (cD:=cD) (nc:=nc) fW gL DA uy yC hX jd f (seen++[e'.2.2]) (DV _ QW) (by omega);rcases alA zI with⟨_,h2⟩|⟨y,hy,hn,_⟩
   .exfalso;rw[h2]at hns;simp at hns;exact hns _ QW rfl
   have IJ:(uw z cD nc (k9 th) th.length x seen).cE 10 (.iZ (some 2) z.cc (seen++[e'.2.2]) z.cc)=uw z cD nc (k9 th) th.length x (seen++[e'.2.2]):=by kernel_rfl
   rw[<-Iy,show Tr.fB (aJ [(2,AV.aa 7 0),(4,.aa 8 0),(7,.ad 9 1 1),(40,.aa 10 0)]) 41 (.aL [.ai true,e'.1,e'.2.1])=aJ [(2,.aa 7 0),(4,.aa 8 0),(7,.ad 9 1 1),(40,.aa 10 0),(41,.aL [.ai true,e'.1,e'.2.1])]by kernel_rfl];show ba Z 31 78 7 _ _ _ ((uw z cD nc (k9 th) th.length x seen).cE 10 (.iZ (some 2) z.cc (seen++[e'.2.2]) z.cc)) _;rw[IJ];refine hE xX aLi ?_;refine⟨y.1,e'.2.1,aCq (by kernel_rfl) hf hn,true,true,?_,al (λh=>(by cases h)) λ_=>ih⟩;rw[k9,nq AV.ai iF,ahq (DA y hy)]
theorem anH{z cD nc th x n}{aI post:List (Int×Nat)}(fW:z.cY=mP (aI++(x,n)::post))(gL:z.cc=(aI++(x,n)::post).length)(DA:∀y∈aI++post,j9 th y.1=true)(hx:j9 th x=false)(uy:lk x (aI++(x,n)::post)=some n)(yC:z.lC=[]/\z.rc=0){vs e}(hX:z.X n=some (.ah vs e))(jd:2<=vs.length):∀f seen,aI.length∉seen->(Ev.qt z.cY seen).length<f->
 ba Z 31 78 7 (.aL []) (QA (I6 z x n) cD nc) (aJ [(2,.aa 7 0),(4,.aa 8 0),(7,.aM),(40,.aa 9 0)]) (su z cD nc (k9 th) th.length seen) (aB Z 31 1)
 |0,seen,_,h=>by omega
 |f+1,seen,QW,h=>by
  refine hE xX atV ?_;have Re:Rk 41 40 (dg Z tK 31 0)=true:=by kernel_rfl
  obtain⟨ops,i,o,rest,k,hs,ho,hg,hd⟩:=aew Re;have Iy:UQ (dg Z tK 31 0)=.gW ops (Nat.succ i) rest::k:=by rw[hs];rfl
  have ae:=alC fW gL;have hc:=alB (seen:=seen) ae;rw[hs];refine afv (r:=9) (mm:=2) (since:=z.cc) (last:=z.cc) (clock:=z.cc) (p:=true) iH ho hg hd (by decide) (by kernel_rfl) (by kernel_rfl) (by kernel_rfl) hc ae ?_ ?_
  .intro h0;exfalso;have hm:((J x,AV.ei n 0,aI.length):AV×AV×Nat)∈Ev.qt z.cY seen:=by refine xz.2 ⟨?_,by simp;exact λx hx h=>QW (h▸hx)⟩;rw[fW,mP,ac1,bJ];refine List.mem_append_right _ ?_;rw[Nat.zero_add];exact dk ..
   rw[h0]at hm;cases hm
  .intro e' he;have fX:=(xz.1 he).1;have zI:=fX;rw[fW]at zI;have hf:z.cY.find? (λx=>Nat.beq x.2.2 e'.2.2)=some e':=by rw[fW];exact VJ zI
   have hm:=aeX he;have IJ:(su z cD nc (k9 th) th.length seen).cE 9 (.iZ (some 2) z.cc (seen++[e'.2.2]) z.cc)=su z cD nc (k9 th) th.length (seen++[e'.2.2]):=by kernel_rfl
   rw[<-Iy,show Tr.fB (aJ [(2,AV.aa 7 0),(4,.aa 8 0),(7,.aM),(40,.aa 9 0)]) 41 (.aL [.ai true,e'.1,e'.2.1])=aJ [(2,.aa 7 0),(4,.aa 8 0),(7,.aM),(40,.aa 9 0),(41,.aL [.ai true,e'.1,e'.2.1])]by kernel_rfl];show ba Z 31 78 7 _ _ _ ((su z cD nc (k9 th) th.length seen).cE 9 (.iZ (some 2) z.cc (seen++[e'.2.2]) z.cc)) _;rw[IJ];refine hE xX atX ?_;rcases alA zI with⟨h1,h2⟩|⟨y,hy,hn,h2⟩
   .have⟨b2,ie⟩:=ae4 th x;rw[hx]at ie;have ih:=anI (cD:=cD) (nc:=nc) fW gL DA uy yC hX jd f (seen++[e'.2.2]) (by rw[h2];simp) (by omega);refine⟨x,e'.2.1,adY (by kernel_rfl) hf h1,false,b2,ie,al (λ_=>?_) λh=>(by cases h)⟩;exact zG (xx:=some ⟨z.X,z.xc⟩) (g:=9) (n:=13) (T:=[(2,.aa 7 0),(4,.aa 8 0),(7,.ad 9 1 1),(40,.aa 10 0)]) ih rfl (λI e o h=>r7 rfl h) rfl
   .have ih:=anH (cD:=cD) (nc:=nc) fW gL DA hx uy yC hX jd f (seen++[e'.2.2]) (by simp;exact⟨QW,λh=>h2 h.symm⟩) (by omega);refine⟨y.1,e'.2.1,adY (by kernel_rfl) hf hn,true,true,?_,al (λh=>(by cases h)) λ_=>ih⟩;rw[k9,nq AV.ai iF,ahq (DA y hy)]
theorem aA1{z cD nc th cm}(fW:z.cY=mP cm)(gL:z.cc=cm.length)(hl:EF z cm (o8 cm th)):
 ba Z 31 78 7 (.aL []) (QA (zT z (o8 cm th)) cD nc) (aJ [(2,.aa 7 0),(4,.aa 8 0),(7,.aM),(40,.aa 9 0)]) (su z cD nc (k9 th) th.length []) (aB Z 31 1):=by
 have h1:=hl.one;have h2:=hl.df;cases hc:o8 cm th with
 |nil=>refine anG (cD:=cD) (nc:=nc) fW gL (λx hx=>?_) _ [] (kr _);have:=List.filter_eq_nil_iff.1 hc x hx;exact ahq (by simpa using this)
 |cons a l=>
  rw[hc]at h1 h2;have qm:l=[]:=by
   cases l with
   |nil=>rfl
   |cons b l=>simp at h1
  subst qm;have⟨q1,q2,vs,e,q3,q4⟩:=h2 a (dk ..);obtain⟨aI,post,rfl,p1,p2,p3⟩:=List.filter_eq_cons_iff.1 hc;have⟨x,n⟩:=a;refine anH (cD:=cD) (nc:=nc) fW gL (λy hy=>?_) (by simpa using p2) q1 q2 q3 q4 _ [] (by simp) (kr _);rcases iK.1 hy with hy|hy
  .simpa using p1 y hy
  .simpa using List.filter_eq_nil_iff.1 p3 y hy
theorem aJu{m c p}(h:hQ p m=none):y4 Z 39 (dS m) c (nh p) .aM=some (dS (m++[⟨p,0,[],c⟩]),c+1):=by
 unfold y4;rw[LH];rw[<-Rm p m 0]at h;cases h2:vG p m 0 with
 |some x=>rw[h2]at h;cases h
 |none=>simp only[Option.map_none,dS,lP];rfl
def tN:Nat->List cB->List En
 |_,[]=>[]
 |k,p::l=>⟨kq p,0,[],k⟩::tN (k+1) l
theorem aq5:∀l k p,tN k (l++[p])=tN k l++[⟨kq p,0,[],k+l.length⟩]
 |[],k,p=>rfl
 |x::l,k,p=>by simp only[j3,tN,aq5 l (k+1) p,dJ];rw[show k+1+l.length=k+(l.length+1)by omega]
theorem DM:∀{l k e},e∈tN k l->(∃p∈l,e.p=kq p)/\e.n=0/\e.aW=[]/\k<=e.b/\e.b<k+l.length
 |x::l,k,e,h=>by
  rcases dU.1 h with rfl|h
  .exact⟨⟨x,dk ..,rfl⟩,rfl,rfl,ct _,by simp only[dJ];omega⟩
  .have⟨⟨p,h1,h2⟩,h3,h4,h5,h6⟩:=DM h;exact⟨⟨p,dZ _ h1,h2⟩,h3,h4,by omega,by simp;omega⟩
theorem amD{p}:∀{m},(∀e∈m,e.p≠p)->hQ p m=none
 |[],_=>rfl
 |e::m,h=>by simp only[hQ];rw[aw λhp=>h e (dk ..) hp.symm];exact amD λx hx=>h x (dZ _ hx)
theorem aq4{X xc}:∀{l k},(l.map kq).Nodup->Ks.OK ⟨tN k l,k+l.length,X,xc⟩ 0:=by
 intro l k hn;have hp:∀{l:List cB} {k:Nat},(tN k l).map En.p=l.map kq:=by
  intro l;induction l with
  |nil=>intro k;rfl
  |cons p l ih=>intro k;simp only[tN,e9,ih]
 have hb:∀{l:List cB} {k:Nat},((tN k l).map En.b).Nodup:=by
  intro l;induction l with
  |nil=>intro k;exact DW
  |cons p l ih=>intro k;simp only[tN,e9,uN];refine⟨λh=>?_,ih⟩;have⟨e,h1,h2⟩:=vT.1 h;have:=(DM h1).2.2.2.1;omega
 refine⟨hb,λe he=>(DM he).2.2.2.2,by rw[hp];exact hn,λe he _=>(DM he).2.1,λe he h=>absurd (DM he).2.2.1 h,λe he _ _ h=>absurd (DM he).2.2.1 h,λe he=>?_⟩;have:=(DM he).2.2.1;rw[this];exact ct _
theorem aA2{z:Ar}{nx l}(hl:l.length<=3000000)(hn:(l.map kq).Nodup){v H1}(h:ba Z 31 78 7 v H1 (aJ [(2,.aa 7 0),(3,.aa 8 0),(4,.aa 9 0),(17,.aq (cR l) l.length 4),(18,J (a_ l.length)),(19,J (l.length:Int))]) (h31 {z with cD:=dS (tN 0 l),nc:=l.length} z.cD z.nc nx (cR l) l.length (k9 []) 0) (aB Z 31 0)):
 ∀i,i<=l.length->ba Z 31 78 7 v H1 (aJ [(2,.aa 7 0),(3,.aa 8 0),(4,.aa 9 0),(17,.aq (cR l) l.length 4),(18,J (a_ l.length)),(19,J (i:Int))]) (h31 {z with cD:=dS (tN 0 (l.take i)),nc:=i} z.cD z.nc nx (cR l) l.length (k9 []) 0) (aB Z 31 0):=by
 refine dj (λi=>l.length-i) _ _ _ _ ?_;rintro i hi ih;by_cases ae:i<l.length
 .refine hE xX atW ?_;delta cu;have bP:=yf ae;have h1:=ih (i+1) (by omega) (by omega);have fw:l.take (i+1)=l.take i++[l[i]]:=by rw[qB,gg ae];rfl
  rw[fw,aq5,rH,YZ hi,lx]at h1;have jj:∀e∈tN 0 (l.take i),e.p≠kq l[i]:=by intro e he hp;have⟨⟨p,Q6,IH⟩,_⟩:=DM he;have h4:((l.take (i+1)).map kq).Nodup:=List.Nodup.sublist (List.Sublist.map _ (List.take_sublist _ _)) hn;rw[fw,lP,List.nodup_append]at h4;exact h4.2.2 _ (rI Q6) _ (vQ.2 rfl) (IH.symm.trans hp)
  have l6:=aJu (c:=i) (amD jj);generalize l[i]=p at bP l6 h1;have⟨nm,ar,dy,bk⟩:=p;refine al (λ_=>⟨i,rfl,ae,nm,ar,dy,ew bk,bk.length,bP,_,_,l6,?_⟩) λhn=>ab (c9 hn)
  rw[cb];exact h1
 .obtain rfl:i=l.length:=by omega
  rw[pX];exact h
theorem PW{O gN}{P:O->Prop}(h:∀st p s,P st->P (gN st p s)):∀{l st},P st->P (rf gN st l)
 |[],st,h0=>h0
 |p::l,st,h0=>by
  have h1:∀(ss:List eK) (st:O),P st->P (ss.foldl (λst s=>gN st p s) st):=by
   intro ss;induction ss with
   |nil=>exact λst h=>h
   |cons s ss ih=>exact λst hs=>ih _ (h st p s hs)
  exact PW (l:=l) h (h1 p.bk st h0)
def wL(z:Ar)(l:List cB):S5:=⟨{z with cD:=dS (tN 0 l),nc:=l.length},tN 0 l,[]⟩
structure Fow where
 z:Ar
 nx:Int
 l:List cB
 cm:List (Int×Nat)
 aC:S5
def foX:bT Fow where
 aI w A H:=A=[.aa 0 0,.aj [J w.nx,.aq (cR w.l) w.l.length 4]]/\H=hA w.z/\w.z.cY=bJ (λn=>.ei n 0) 0 w.cm/\w.z.cc=w.cm.length/\(w.l.map kq).Nodup/\u7 w.l/\pF (wL w.z w.l) w.l=w.aC/\EF w.aC.z w.cm (o8 w.cm w.aC.th)
 v w:=.aL []
 aD w:=QA (zT w.aC.z (o8 w.cm w.aC.th)) w.z.cD w.z.nc
theorem aA0:foX.bM:=by rintro⟨z,nx,l,cm,aC⟩ ⟨z',rE,l',cm',ans⟩ A H ⟨h1,h2,c1,_,_,_,q1,_⟩ ⟨h3,h4,c2,_,_,_,q2,_⟩;have e1:=yp (h2.symm.trans h4);rw[h1]at h3;simp at h3;have e6:=Lu h3.2.2 h3.2.1;subst e1 e6;obtain rfl:=Vl (c1.symm.trans c2);rw[q1]at q2;subst q2;rfl
def Il(w:Fow):Ar:=zT w.aC.z (o8 w.cm w.aC.th)
theorem aD2{cm:List (Int×Nat)}{th}(h:∀x∈cm,lk x.1 th=some true):o8 cm th=[]:=
 List.filter_eq_nil_iff.2 λx hx=>by simp[j9,h x hx]
theorem EF.nil{z cm}:EF z cm []:=⟨Nat.zero_le _,λx h=>by cases h⟩
def K55:Ev.aX:=bx 31 (bE foX aA0 mY) HD
theorem ajO:aF Z K55:=by
 refine bY xX ?_;rintro⟨z,nx,l,cm,aC⟩ args H ⟨rfl,rfl,fW,gL,kf,tw,yv,tv⟩;simp only at fW gL kf tw yv tv;have hz:aC.z.cY=z.cY/\aC.z.cc=z.cc:=by rw[<-yv];exact PW (gN:=λst p s=>oE st (kq p) s.id) (P:=λst:S5=>st.z.cY=z.cY/\st.z.cc=z.cc) (λst p s h=>h) aA
 have Dq:DI 0 (wL z l):=⟨rfl,by have:=aq4 (X:=z.X) (xc:=z.xc) (k:=0) kf;rw[lx]at this;exact this⟩;have aCB:=aA1 (cD:=z.cD) (nc:=z.nc) (hz.1.trans fW) (hz.2.trans gL) tv;refine eE 78 xX aLf ?_;refine qk (aA2 tw.dT kf ?_ 0 (eh _)) (Yj (g:=10) rfl (λid=>by rcases id with _|_|_|_|_|_|_|_|_|_|_|_|id<;>rfl));refine hE xX atW ?_;refine al (λh=>ab (cP h)) λ_=>⟨⟨wL z l,nx,l,aC⟩,⟨rfl,rfl,Dq,tw,yv⟩,aCB⟩
def nbX:bT Ar where
 aI w A H:=A=[.aa 0 0]/\H=hA w
 v w:=.ai false
 aD w:=hA w
theorem aEK:nbX.bM:=λA A' _ _ h1 h2=>by rw[yp (h1.2.symm.trans h2.2)]
def K56:Ev.aX:=bx 21 (bE nbX aEK mY) K55
def g_(X:Nat->Option aO)(xc:Nat):Ar:=⟨1,4294967296,[],0,[],0,[],0,[],0,[],0,[],0,X,xc⟩
def nwX:bT ((Nat->Option aO)×Nat)where
 aI w A H:=A=[]/\H=cC w.1 w.2 [] 0
 v w:=.aa 0 0
 aD w:=hA (g_ w.1 w.2)
theorem aER:nwX.bM:=by rintro⟨X,c⟩ ⟨X',c'⟩ A H ⟨_,h2⟩ ⟨_,h4⟩;have h7:=congrArg AH.x (h2.symm.trans h4);cases h7;rfl
def Ky:Ev.aX:=bx 6 (bE nwX aER mY) K56
theorem aKU{z L Q}:
 Cp K55 L Q 21 (hA z)=Q (.ai false) (hA z):=by kernel_rfl
theorem aMe{X xc L Q}:
 eG K56 [] L Q 6 [] (cC X xc [] 0)=Q (.aa 0 0) (cC X xc [(0,.ah [J 1,J 4294967296,.aM,.aS 1,.aS 2,.aS 3,.aS 4,.aM,.aM] 78),(1,.bI [] 0 false),(2,eu [] 0),(3,.bI [] 0 false),(4,.bI [] 0 false)] 5):=by kernel_rfl
theorem ajP:aF Z K56:=by refine bY ajO ?_;rintro z args H ⟨rfl,rfl⟩;refine eE 12 ajO aKU ?_;exact aA
theorem Lx{f args H0 H H1 v}(h:bC Z f args H0 v H)(hm:mr H0.br H H1 (λI aK=>aK=I))(cr:H0.br<=H.br)(rz:jX v=.gJ v:=by rfl):bC Z f args H0 v H1:=
 Fe h hm cr (λI aK hR x hx=>by subst hR;exact hx) rz
theorem zn:aF Z Ky:=by
 refine bY ajP ?_;rintro⟨X,c⟩ args H ⟨rfl,rfl⟩;have h0:bC Z 6 [] (cC X c [] 0) (.aa 0 0) (cC X c [(0,.ah [J 1,J 4294967296,.aM,.aS 1,.aS 2,.aS 3,.aS 4,.aM,.aM] 78),(1,.bI [] 0 false),(2,.bI [] 0 true),(3,.bI [] 0 false),(4,.bI [] 0 false)] 5):=by refine eE 8 ajP aMe ?_;exact aA
 have h1:=Lx h0 (Yj (g:=1) (l':=[(0,.ah [J 1,J 4294967296,.aM,.aS 1,.aS 2,.aS 3,.aS 4,.aM,.aM] 78),(1,.bI [] 0 true),(2,.bI [] 0 true),(3,.bI [] 0 false),(4,.bI [] 0 false)]) rfl (λid=>by rcases id with _|_|_|_|_|id<;>rfl)) (eh _);have h2:=Lx h1 (Yj (g:=3) (l':=[(0,.ah [J 1,J 4294967296,.aM,.aS 1,.aS 2,.aS 3,.aS 4,.aM,.aM] 78),(1,.bI [] 0 true),(2,.bI [] 0 true),(3,.bI [] 0 true),(4,.bI [] 0 false)]) rfl (λid=>by rcases id with _|_|_|_|_|id<;>rfl)) (eh _);have h3:=Lx h2 (Yj (g:=4) (l':=[(0,.ah [J 1,J 4294967296,.aM,.aS 1,.aS 2,.aS 3,.aS 4,.aM,.aM] 78),(1,.bI [] 0 true),(2,.bI [] 0 true),(3,.bI [] 0 true),(4,.bI [] 0 true)]) rfl (λid=>by rcases id with _|_|_|_|_|id<;>rfl)) (eh _);have h4:=Lx h3 (Je (t:=83) (g:=0) (l':=[(0,.ah [J 1,J 4294967296,.ad 5 0 1,.aS 1,.aS 2,.aS 3,.aS 4,.aM,.aM] 78),(1,.bI [] 0 true),(2,.bI [] 0 true),(3,.bI [] 0 true),(4,.bI [] 0 true)]) rfl (λid=>by rcases id with _|_|_|_|_|id<;>rfl) rfl (λI x hx=>(jn.fJ (.fJ (jn.wu (λI x h=>r9 h) (.mn _)))) I x hx) aA) (eh _);have h5:=Lx h4 (Je (t:=44) (g:=0) (l':=[(0,.ah [J 1,J 4294967296,.ad 5 0 1,.aS 1,.aS 2,.aS 3,.aS 4,.ad 6 0 9,.aM] 78),(1,.bI [] 0 true),(2,.bI [] 0 true),(3,.bI [] 0 true),(4,.bI [] 0 true),(5,.au [] 83)]) rfl (λid=>by rcases id with _|_|_|_|_|_|id<;>rfl) rfl (λI x hx=>(jn.fJ (.fJ (.fJ (.fJ (.fJ (.fJ (.fJ (jn.wu (λI x h=>r9 h) (.mn _))))))))) I x hx) aA) (eh _);exact kJ (ps:=[(0,0),(5,1),(1,2),(2,3),(3,4),(4,5),(6,6)]) h5
def DL:Nat->LN:=dY [(999998,[3,4,5,6,8,26])]
def Ja:Nat->LN:=dY [(999995,[2000013]),(999996,[6]),(999998,[3,4,5,6,9,10])]
def RE:Nat->LN:=dY [(17,[3,4,6,10,33,34,35]),(999996,[6])]
def hU(z:Ar)(nx:Int)(ps:LV)(np:Nat)(tr:Bool)(e a i:Int):AH:=cC z.X z.xc [(0,dV z 1 2 3 4 5 6),(1,cO z),(2,dv z),(3,du z),(4,cQ z),(5,dh z),(6,cK z),(7,.ah [.aa 0 0] 25),(8,eM nx ps np),(9,.ah [.ai tr] 4),(10,.ah [J e] 27),(11,.ah [J a,J i] 72)] 12
def hUn(z:Ar)(nx:Int)(ps:LV)(np:Nat)(tr:Bool)(e a i:Int)(aW:LV)(ni:Nat)(bs:LV)(nb:Nat):AH:=cC z.X z.xc [(0,dV z 1 2 3 4 5 6),(1,cO z),(2,dv z),(3,du z),(4,cQ z),(5,dh z),(6,cK z),(7,.ah [.aa 0 0] 25),(8,eM nx ps np),(9,.ah [.ai tr] 4),(10,.ah [J e] 27),(11,.ah [J a,J i] 72),(12,.ah [.ad 14 ni 1] 35),(13,.ah [.ad 15 nb 1] 82),(14,.au aW 2),(15,.au bs 29)] 16
abbrev tU:Ev.Tr AV:=aJ [(3,.aa 7 0),(4,.aa 8 0),(5,.aa 9 0),(6,.aa 10 0),(8,.aa 11 0),(26,.cw (.func 25) [] [.aa 10 0,.aa 11 0,.aa 7 0])]
def h17(z:Ar)(nx:Int)(ps:LV)(np:Nat)(tr:Bool)(e a i:Int)(aW:LV)(bs:LV)(nb:Nat):AH:=cC z.X z.xc [(0,dV z 14 2 3 4 5 15),(1,.bg []),(2,dv z),(3,du z),(4,cQ z),(5,dh z),(6,.bg []),(7,.ah [.aa 0 0] 25),(8,eM nx ps np),(9,.ah [.ai tr] 4),(10,.ah [J e] 27),(11,.ah [J a,J i] 72),(12,.ah [.ad 16 nb 1] 82),(13,.au aW 2),(14,cO z),(15,cK z),(16,.au bs 29)] 17
abbrev J2 h0(h1:Ar->Prop):=∃b0:Ar,uY (hA h0=hA b0) (h1 b0)
abbrev ahR h0 h1 h2 h3:=aJ [(3,.aa 7 0),(4,.aa 8 0),(5,.aa 9 0),(6,.aa 10 0),(h0,.aa h1 0),(h2,h3)]
theorem agQ{z nx ps np tr L Q}:
 fA Ky DL L Q 7 [.aa 0 0,nF nx ps np,.ai tr] (hA z)=J2 z (λw=>∃aH,Tw nx ps np aH (mD aH)/\aZ (!iR aH) (Q (J 1) (hA w)) (∃cI:EcA,(Ct (nF nx ps np) (nH 24 lS) (nF cI.nx (cR cI.l) cI.l.length)/\oq w false=oq cI.z cI.b/\cI.z.lC=wh cI.rt/\u7 cI.l)/\aZ (q_ cI.rt cI.b cI.l) (Q (J 5) (hA cI.z)) (L (ahR 8 11 26 (JV 25 10 11 7)) (hU cI.z nx ps np tr 0 cI.z.an cI.z.id) (dg Z DL 7 0)))):=by kernel_rfl
theorem aMp{z nx ps np tr a i L R Q}:
 Nq Z Ky Ja L R Q 1000 7 12 tU (KY (dg Z DL 7 0)) (hU z nx ps np tr 0 a i)=L (ahR 9 12 10 (.aa 13 0)) (Cv z [(0,Cq z 4),(1,cO z),(2,dv z),(3,du z),(4,cQ z),(5,dh z),(6,cK z),(7,u4 0 25),(8,eM nx ps np),(9,u5 tr),(10,.ah [J 0] 27),(11,Cr a i 72),(12,.ah [.aM] 35),(13,.ah [.aM] 82)] 14) (dg Z Ja 7 1):=by kernel_rfl
abbrev ahG h0 h1:=aJ [(3,.aa 7 0),(4,.aa 8 0),(6,.aa 10 0),(10,.aa 12 0),(33,.ad 13 h0 1),(34,J (a_ h0)),(35,h1)]
abbrev Hd:=aJ [(6,.aa 10 0)]
abbrev avW h0 h1 h2 h3 h4 h5 h6 h7 h8 h9 dG eB iV kc jL:=([(0,h0),(1,h1),(2,dv h2),(3,du h2),(4,cQ h3),(5,dh h2),(6,h4),(7,u4 0 25),(8,eM h5 h6 h7),(9,u5 h8),(10,.ah [J h9] 27),(11,Cr dG eB 72),(12,iV),(13,kc),(14,jL)]:List (Nat×aO))
theorem aMq{z nx ps np tr a i L R Q}:
 Nq Z Ky RE L R Q 1000 7 12 (ahR 9 12 10 (.aa 13 0)) (dg Z Ja 7 1) (hUn z nx ps np tr 0 a i [] 0 [] 0)=(∃w:EcB,(Ct (nF nx ps np) (nH 26 Hn) (nF w.nx (cR w.l) w.l.length)/\rk z 0 tr [] 0 [] 0=Ue w.st w.tr/\w.st.z.cY=mP w.cm/\(w.st.aW=[]/\(w.st.cG:List (List cL))=[])/\u7 w.l/\rf (λst=>λx=>λs=>ud w.cm w.tr st s) w.st w.l=w.aC)/\gT (w.aC.e !=0) (R Hd (hU w.aC.z nx ps np w.tr w.aC.e a i)) L (ahG w.aC.aW.length (J 0)) (cC w.aC.z.X w.aC.z.xc (avW (Cq w.aC.z 4) (cO w.aC.z) w.aC.z w.aC.z (cK w.aC.z) nx ps np w.tr w.aC.e a i (rQ 14 w.aC.cG.length 82) (bG w.aC.aW 2) (.au (mU w.aC.cG) 29)) 15) 7 0):=by kernel_rfl
theorem aud{z nx ps np tr e a i aW ni bs nb j L R Q}:
 Nq Z Ky RE L R Q 1000 7 12 (ahG ni (J j)) (aB Z 7 0) (h17 z nx ps np tr e a i aW bs nb)=jQ j ni (λcv=>∃n,oe 2 aW (cv*1) (J n)/\ia j nb (λjA=>∃cs,∃len,oe 29 bs (jA*1) (.aq cs len 9)/\(∃w:Kw,(AA (.aq cs len 9) (.ai false) (.aq (fh w.l) w.l.length 9) (.ai w.b)/\hA z=hA w.z/\Ut w.z w.m w.l/\vH w.z w.m w.l w.b=w.zf/\w.zf.xc=w.c+1)/\im (.aS 2)/\im (.aa 0 0)/\rP 2 w.zf.cY w.zf.cc n (.ei w.c 0) (λbF=>λc'=>L (ahG ni (cu j)) (cC w.zf.X w.zf.xc [(0,dV w.zf 14 2 3 4 5 15),(1,.bg []),(2,eu bF c'),(3,du w.zf),(4,cQ w.zf),(5,dh w.zf),(6,.bg []),(7,u4 0 25),(8,eM nx ps np),(9,u5 tr),(10,.ah [J e] 27),(11,Cr a i 72),(12,rQ 16 nb 82),(13,.au aW 2),(14,cO w.zf),(15,cK w.zf),(16,.au bs 29)] 17) (aB Z 7 0))))) (∃w:Fow,(Cn (nF nx ps np) (nF w.nx (cR w.l) w.l.length)/\hA z=hA w.z/\w.z.cY=bJ (λn=>AV.ei n 0) 0 w.cm/\w.z.cc=w.cm.length/\List.Nodup (List.map kq w.l)/\u7 w.l/\pF (wL w.z w.l) w.l=w.aC/\EF w.aC.z w.cm (o8 w.cm w.aC.th))/\R Hd (cC (Il w).X (Il w).xc (avW (dV (Il w) 12 2 3 13 5 14) (.bg []) (Il w) w.z (.bg []) nx ps np tr 0 a i (cO (Il w)) (cQ (Il w)) (cK (Il w))) 15)):=by kernel_rfl
theorem aOF{m c xc L X o}(h:Ks.OK ⟨m,c,X,xc⟩ L):Ks.OK ⟨m,c,Ce X xc o,xc+1⟩ L:=by
 refine⟨h.Ns,h.lt,h.XN,h.nil,λe he hi=>?_,h.RL,h.len⟩;have⟨h1,h2⟩:=h.Ai e he hi;simp only at h1 h2;refine⟨Gx h1,?_⟩;have:Nat.beq e.n xc=false:=by
  cases hb:Nat.beq e.n xc with
  |false=>rfl
  |true=>have:=dN hb;omega
 simp only[Ce,this,cond_false,h2]
structure S7 where
 z:Ar
 m:List En
 cm:List (Int×Nat)
def S7.ks(st:S7)(l:List cL):Ks:=jH ⟨st.m,st.z.oc,st.z.X,st.z.xc⟩ l
def fk(st:S7)(x:Int×List cL):S7:=
 ⟨{vH st.z st.m x.2 false with cY:=bJ (λn=>.ei n 0) 0 (up x.1 (st.ks x.2).xc st.cm),cc:=(up x.1 (st.ks x.2).xc st.cm).length},(st.ks x.2).m,up x.1 (st.ks x.2).xc st.cm⟩
structure zQ(L:Nat)(st:S7):Prop where
 fy:st.z.fy=dS st.m
 ok:Ks.OK ⟨st.m,st.z.oc,st.z.X,st.z.xc⟩ L
 eI:st.z.eI.length=st.z.ng/\st.z.ng<=L
 add:st.z.oh.length=st.z.na*9/\st.z.na<=L
 cY:st.z.cY=bJ (λn=>.ei n 0) 0 st.cm
 cc:st.z.cc=st.cm.length
theorem apI{L st x}(h:zQ L st)(hx:x.2≠[]):zQ (L+x.2.length) (fk st x):=by
 have h1:=akI h.ok x.2;have h2:=List.length_pos_iff.2 hx;refine⟨rfl,aOF h1,⟨?_,?_⟩,⟨?_,?_⟩,rfl,rfl⟩
 .simp only[fk,vH,cj,dJ,gH,h.eI.1]
 .have:=h.eI.2;simp only[fk,vH];omega
 .simp only[fk,vH,cj,VG,h.add.1];omega
 .have:=h.add.2;simp only[fk,vH];omega
theorem aDk{L st l}(h:zQ L st)(hx:l≠[])(h1:l.length<=1000000)(h2:L+l.length<=3000000):Ut st.z st.m l:=
 ⟨h.fy,h.ok.mono (by omega),hx,h1,⟨h.eI.1,by have:=h.eI.2;omega⟩,⟨h.add.1,by have:=h.add.2;omega⟩⟩
def uf(l:List (Int×List cL)):Nat:=(l.map λx=>x.2.length).sum
theorem Xz:∀{l L st},(∀x∈l,x.2≠[])->zQ L st->zQ (L+uf l) (l.foldl fk st)
 |[],L,st,_,h=>h
 |x::l,L,st,hx,h=>by have:=Xz (λy hy=>hx y (dZ _ hy)) (apI h (hx x (dk ..)));rw[show L+uf (x::l)=L+x.2.length+uf l by simp only[uf,e9,List.sum_cons];omega];exact this
theorem aNo{l}(j)(h:j<l.length):uf (l.take j)+l[j].2.length<=uf l:=by
 have:uf (l.take (j+1))+uf (l.drop (j+1))=uf l:=by simp only[uf,<-List.sum_append,<-lP,uK]
 rw[qB,gg h]at this;simp only[uf,Option.toList_some,lP,List.sum_append,e9,List.map_nil,List.sum_cons,List.sum_nil]at this⊢;omega
def pw:List qT:=[.xN (.func 25) [.aa 10 0,.aa 11 0,.aa 7 0] []]
theorem CY:qg 12 pw:=⟨⟨by omega,by omega,by omega,trivial⟩,trivial,trivial⟩
theorem aFj(cs off):fi Z 29 cs off=cs[off]? :=by kernel_rfl
theorem Na(cs off):fi Z 2 cs off=cs[off]? :=by kernel_rfl
abbrev Ed(aW:LI)(j:Int):Ev.Tr AV:=aJ [(3,.aa 7 0),(4,.aa 8 0),(6,.aa 10 0),(10,.aa 12 0),(33,.ad 13 aW.length 1),(34,J (a_ aW.length)),(35,J j)]
abbrev Hy(z:Ar)(nx:Int)(l:List cB)(tr:Bool)(a i:Int)(aW:LI)(cG:List (List cL)):AH:=h17 z nx (cR l) l.length tr 0 a i (bc aW) (mU cG) cG.length
theorem aNC{v H1 st L nx l tr a i aW cG j}(hj:j<aW.length)(Mr:j<cG.length)(tA:zQ L st)(hb:aW.length<=3000000)(cx:cG[j]≠[])(pM:cG[j].length<=1000000)(gM:L+cG[j].length<=3000000)(h:iB pw Z 7 55 12 v H1 (Ed aW ((j+1:Nat):Int)) (Hy (fk st (aW[j],cG[j])).z nx l tr a i aW cG) (aB Z 7 0)):
 iB pw Z 7 55 12 v H1 (Ed aW (j:Int)) (Hy st.z nx l tr a i aW cG) (aB Z 7 0):=by
 refine QJ iH zn (aQ:=RE) (n:=1000) CY (by kernel_rfl) (λ_ _ h=>h) (λ_ _ _ h=>h) ?_;refine cast (@aud st.z nx (cR l) l.length tr 0 a i (bc aW) aW.length (mU cG) cG.length (j:Int) _ _ _).symm ?_;delta cu;have e1:fi Z 2 (bc aW) (j*1)=some (J aW[j]):=by rw[Na,n7,bc,sJ,gg hj];rfl
 have e2:fi Z 29 (mU cG) (j*1)=some (.aq (fh cG[j]) cG[j].length 9):=by rw[aFj,n7,mU,sJ,gg Mr];rfl
 have hk:=aDk tA cx pM gM;have e3:y4 Z 2 (vH st.z st.m cG[j] false).cY (vH st.z st.m cG[j] false).cc (J aW[j]) (.ei (st.ks cG[j]).xc 0)=some (bJ (λn=>.ei n 0) 0 (up aW[j] (st.ks cG[j]).xc st.cm),(up aW[j] (st.ks cG[j]).xc st.cm).length):=by show y4 Z 2 st.z.cY st.z.cc (J aW[j]) _=_;rw[tA.cY,tA.cc];exact ph (ev:=λn=>AV.ei n 0) iF
 refine al (λ_=>⟨j,rfl,hj,aW[j],e1,j,rfl,Mr,fh cG[j],cG[j].length,e2,⟨st.z,st.m,cG[j],false,vH st.z st.m cG[j] false,(st.ks cG[j]).xc⟩,⟨rfl,rfl,hk,rfl,rfl⟩,rfl,rfl,_,_,e3,?_⟩) λhn=>ab (c9 hn)
 rw[cb];exact h
theorem avp{F D:Type}{a:List F}{b:List D}{j}(h:j<(a.zip b).length)(h1:j<a.length)(h2:j<b.length):(a.zip b)[j]=(a[j],b[j]):=List.getElem_zip ..
theorem auF{v H1 s0 nx l tr a i aW cG}(bB:aW.length=cG.length)(hb:aW.length<=3000000)(rp:∀b∈cG,b≠[]/\b.length<=1000000)(DB:uf (aW.zip cG)<=3000000)(h0:zQ 0 s0)(Dl:iB pw Z 7 55 12 v H1 (Ed aW (aW.length:Int)) (Hy ((aW.zip cG).foldl fk s0).z nx l tr a i aW cG) (aB Z 7 0)):∀n j:Nat,n+j=aW.length->
 iB pw Z 7 55 12 v H1 (Ed aW (j:Int)) (Hy (((aW.zip cG).take j).foldl fk s0).z nx l tr a i aW cG) (aB Z 7 0)
 |0,j,h=>by
  obtain rfl:j=aW.length:=by omega
  rw[BN (by rw[List.length_zip];omega)];exact Dl
 |n+1,j,h=>by
  have ih:=auF bB hb rp DB h0 Dl n (j+1) (by omega);have hz:j<(aW.zip cG).length:=by rw[List.length_zip];omega
  have h1:j<aW.length:=by omega
  have h2:j<cG.length:=by omega
  have hm:=rp cG[j] (k7 h2);have ht:=aNo j hz;rw[qB,gg hz,Option.toList_some,Gy,qz,Nn,avp hz h1 h2]at ih;rw[avp hz h1 h2]at ht;simp only at ht;refine aNC h1 h2 (Xz (λx hx=>?_) h0) hb hm.1 hm.2 (by omega) ih;exact(rp x.2 (List.of_mem_zip (Jp hx)).2).1
def Dh(z z0:Ar)(nx:Int)(l:List cB)(tr:Bool)(a i:Int):AH:=cC z.X z.xc [(0,dV z 12 2 3 13 5 14),(1,.bg []),(2,dv z),(3,du z),(4,cQ z0),(5,dh z),(6,.bg []),(7,.ah [.aa 0 0] 25),(8,eM nx (cR l) l.length),(9,.ah [.ai tr] 4),(10,.ah [J 0] 27),(11,.ah [J a,J i] 72),(12,cO z),(13,cQ z),(14,cK z)] 15
theorem auE{v H1}{st:S7}{nx l tr a i aW cG aC}(W1:st.z.cY=mP st.cm)(gL:st.z.cc=st.cm.length)(kf:(l.map kq).Nodup)(tw:u7 l)(yv:pF (wL st.z l) l=aC)(tv:EF aC.z st.cm (o8 st.cm aC.th))(h:bW Z 12 ⟨7,aJ [(6,.aa 10 0)],55,[],pw,.jR,none,none⟩ (Dh (zT aC.z (o8 st.cm aC.th)) st.z nx l tr a i) (rK (fD v H1))):
 iB pw Z 7 55 12 v H1 (Ed aW (aW.length:Int)) (Hy st.z nx l tr a i aW cG) (aB Z 7 0):=by
 refine QJ iH zn (aQ:=RE) (n:=1000) CY (by kernel_rfl) (λ_ _ h=>h) (λ_ _ _ h=>h) ?_;refine cast (@aud st.z nx (cR l) l.length tr 0 a i (bc aW) aW.length (mU cG) cG.length (aW.length:Int) _ _ _).symm ?_;refine al (λhn=>ab (cP hn)) λ_=>⟨⟨st.z,nx,l,st.cm,aC⟩,⟨rfl,rfl,W1,gL,kf,tw,yv,tv⟩,h⟩
theorem azx(z nx ps np tr a i):
 Fv Z (V2 Z 0) 1 (fZ [] none 7 55 tU (dg Z DL 7 0)) (hU z nx ps np tr 0 a i)=.go (fZ pw none 7 55 tU (KY (dg Z DL 7 0))) (hU z nx ps np tr 0 a i):=by kernel_rfl
abbrev ahK h0:=aif 7 Hd 55 pw .jR h0
theorem azz(z z0 nx l tr a i):
 ahK (Dh z z0 nx l tr a i)=.go ⟨7,Hd,55,[],[],.jR,none,none⟩ (Dh z z0 nx l tr a i):=by kernel_rfl
theorem azA(z nx ps np tr a i):
 ahK (hU z nx ps np tr 1 a i)=.go ⟨7,Hd,55,[],[],.jR,none,none⟩ (hU {z with an:=a,id:=i} nx ps np tr 1 a i):=by kernel_rfl
theorem azB(z nx ps np tr a i):
 ahK (hU z nx ps np tr 2 a i)=.go ⟨7,Hd,55,[],[],.jR,none,none⟩ (hU {z with an:=a,id:=i} nx ps np tr 2 a i):=by kernel_rfl
theorem azy(z z0 nx l tr a i Q):
 Ev.qZ Z 7 12 Q Hd (Dh z z0 nx l tr a i)=Q (J 0) (Dh z z0 nx l tr a i):=by kernel_rfl
theorem amh(z nx ps np tr e a i Q):
 Ev.qZ Z 7 12 Q Hd (hU z nx ps np tr e a i)=Q (J e) (hU z nx ps np tr e a i):=by kernel_rfl
theorem auH(z z0 nx l tr a i):bW Z 12 ⟨7,aJ [(6,.aa 10 0)],55,[],pw,.jR,none,none⟩ (Dh z z0 nx l tr a i) (rK (fD (J 0) (Dh z z0 nx l tr a i))):=by
 refine bW.Fy iH (Fi iH 60) (λk zx H2 hi h=>?_) (azz z z0 nx l tr a i) ?_
 .have:k=0:=by omega
  subst this;cases h;rfl
 refine bW.qZ iH (rb zn) ?_;rw[azy];exact aA
theorem aNB{z nx ps np tr e a i}(he:e=1\/e=2):bW Z 12 ⟨7,aJ [(6,.aa 10 0)],55,[],pw,.jR,none,none⟩ (hU z nx ps np tr e a i) (rK (fD (J e) (hU {z with an:=a,id:=i} nx ps np tr e a i))):=by
 rcases he with rfl|rfl
 .refine bW.Fy iH (Fi iH 60) (λk zx H2 hi h=>?_) (azA z nx ps np tr a i) ?_
  .have:k=0:=by omega
   subst this;cases h;rfl
  refine bW.qZ iH (rb zn) ?_;rw[amh];exact aA
 .refine bW.Fy iH (Fi iH 60) (λk zx H2 hi h=>?_) (azB z nx ps np tr a i) ?_
  .have:k=0:=by omega
   subst this;cases h;rfl
  refine bW.qZ iH (rb zn) ?_;rw[amh];exact aA
def hL(z:Ar)(nx:Int)(ps:LV)(np:Nat)(tr:Bool)(a i:Int)(aW bs:LV)(nb:Nat):AH:=cC z.X z.xc [(0,dV z 1 2 3 4 5 6),(1,cO z),(2,dv z),(3,du z),(4,cQ z),(5,dh z),(6,cK z),(7,.ah [.aa 0 0] 25),(8,eM nx ps np),(9,.ah [.ai tr] 4),(10,.ah [J 0] 27),(11,.ah [J a,J i] 72),(12,.ah [.ad 14 nb 1] 82),(13,.au aW 2),(14,.au bs 29)] 15
def hL1(z:Ar)(nx:Int)(ps:LV)(np:Nat)(tr:Bool)(a i:Int)(aW bs:LV)(nb:Nat):AH:=cC z.X z.xc [(0,dV z 15 2 3 4 5 6),(1,.bg []),(2,dv z),(3,du z),(4,cQ z),(5,dh z),(6,cK z),(7,.ah [.aa 0 0] 25),(8,eM nx ps np),(9,.ah [.ai tr] 4),(10,.ah [J 0] 27),(11,.ah [J a,J i] 72),(12,.ah [.ad 14 nb 1] 82),(13,.au aW 2),(14,.au bs 29),(15,cO z)] 16
def hL2(z:Ar)(nx:Int)(ps:LV)(np:Nat)(tr:Bool)(a i:Int)(aW bs:LV)(nb:Nat):AH:=cC z.X z.xc [(0,dV z 15 2 3 4 5 16),(1,.bg []),(2,dv z),(3,du z),(4,cQ z),(5,dh z),(6,.bg []),(7,.ah [.aa 0 0] 25),(8,eM nx ps np),(9,.ah [.ai tr] 4),(10,.ah [J 0] 27),(11,.ah [J a,J i] 72),(12,.ah [.ad 14 nb 1] 82),(13,.au aW 2),(14,.au bs 29),(15,cO z),(16,cK z)] 17
theorem aEF(z nx ps np tr a i aW bs nb):Mv (hL z nx ps np tr a i aW bs nb) (hL1 z nx ps np tr a i aW bs nb) 1:=
 rC (l':=[(0,dV z 15 2 3 4 5 6),(1,.bg []),(2,dv z),(3,du z),(4,cQ z),(5,dh z),(6,cK z),(7,.ah [.aa 0 0] 25),(8,eM nx ps np),(9,.ah [.ai tr] 4),(10,.ah [J 0] 27),(11,.ah [J a,J i] 72),(12,.ah [.ad 14 nb 1] 82),(13,.au aW 2),(14,.au bs 29)]) (by kernel_rfl) rfl rfl
theorem aEG(z nx ps np tr a i aW bs nb):Mv (hL1 z nx ps np tr a i aW bs nb) (hL2 z nx ps np tr a i aW bs nb) 6:=
 rC (l':=[(0,dV z 15 2 3 4 5 16),(1,.bg []),(2,dv z),(3,du z),(4,cQ z),(5,dh z),(6,.bg []),(7,.ah [.aa 0 0] 25),(8,eM nx ps np),(9,.ah [.ai tr] 4),(10,.ah [J 0] 27),(11,.ah [J a,J i] 72),(12,.ah [.ad 14 nb 1] 82),(13,.au aW 2),(14,.au bs 29),(15,cO z)]) (by kernel_rfl) rfl rfl
theorem aur{aW j g n}(hg:g<7)(hn:14<=n)(k a)(h:(Ed aW j).bL k=some a):eF (mb g n) a=some a:=by
 have hr:∀m,7<=m->m<14->mb g n m=some m:=λm hm h2=>by unfold mb;rw[aw (by omega),aw (by omega)]
 refine yN h ?_;intro x hx;simp at hx;rcases hx with rfl|rfl|rfl|rfl|rfl|rfl|rfl<;>first|rfl|simp[eF,hr]
theorem aNy{v H1 z nx l tr a i aW cG}(h:iB pw Z 7 55 12 v H1 (Ed aW 0) (Hy z nx l tr a i aW cG) (aB Z 7 0)):
 iB pw Z 7 55 12 v H1 (Ed aW 0) (hL z nx (cR l) l.length tr a i (bc aW) (mU cG) cG.length) (aB Z 7 0):=by
 refine adX ?_ (aEF ..) (by kernel_rfl) (λk a h=>⟨a,h,aur (by omega) (by show 14<=15;omega) k a h⟩) CY;refine adX ?_ (aEG ..) (by kernel_rfl) (λk a h=>⟨a,h,aur (by omega) (by show 14<=16;omega) k a h⟩) CY;exact bW.NI (mG:=[7,8,10,12,13]) (l:=[3,4,6,10,33,34,35]) (ps:=[(0,0),(1,1),(2,2),(3,3),(4,4),(5,5),(6,6),(7,7),(8,8),(9,9),(10,10),(11,11),(12,12),(13,13),(15,14),(16,15),(14,16)]) (by kernel_rfl) (by kernel_rfl) (by kernel_rfl) h CY trivial
def e_(z:Ar)(tr:Bool)(l:List cB):S3:=rf (λst _ s=>j7 tr st s) ⟨z,0,[],[]⟩ l
def y7(z:Ar)(tr:Bool)(l:List cB):S7:=((e_ z tr l).aW.zip (e_ z tr l).cG).foldl fk ⟨(e_ z tr l).z,[],[]⟩
def B'(z:Ar)(tr:Bool)(l:List cB):S5:=pF (wL (y7 z tr l).z l) l
def Ef(z:Ar)(d:Db)(tr:Bool):Int×Ar:=if iR d=false then(1,z)else if(e_ z tr d.dT).e≠0 then((e_ z tr d.dT).e,z)else(0,(B' z tr d.dT).z)
structure OW(z:Ar):Prop where
 eI:z.eI=[]/\z.ng=0
 cY:z.cY=[]/\z.cc=0
 ret:z.lC=[]
 fy:z.fy=[]
 add:z.oh=[]/\z.na=0
structure KE(z:Ar)(d:Db)(tr:Bool):Prop where
 db:mD d
 ok:iR d=true->u7 d.dT
 nd:iR d=true->(d.dT.map kq).Nodup
 A_:(e_ z tr d.dT).e=0\/(e_ z tr d.dT).e=1\/(e_ z tr d.dT).e=2
 len:(e_ z tr d.dT).aW.length=(e_ z tr d.dT).cG.length/\(iR d=true->(e_ z tr d.dT).aW.length<=3000000)
 blk:iR d=true->(e_ z tr d.dT).e=0->∀b∈(e_ z tr d.dT).cG,b≠[]/\b.length<=1000000
 tot:iR d=true->(e_ z tr d.dT).e=0->uf ((e_ z tr d.dT).aW.zip (e_ z tr d.dT).cG)<=3000000
 all:iR d=true->(e_ z tr d.dT).e=0->∀x∈(y7 z tr d.dT).cm,lk x.1 (B' z tr d.dT).th=some true
theorem ZU(tr l z):∃a i,(e_ z tr l).z={z with an:=a,id:=i}:=by
 refine PW (P:=λst:S3=>∃a i,st.z={z with an:=a,id:=i}) (λst p s h=>?_) ⟨z.an,z.id,rfl⟩;have⟨a,i,h⟩:=h;unfold j7;split
 .exact⟨a,i,h⟩
 .split
  .exact⟨a,i,h⟩
  .have⟨a2,i2,h2⟩:=alP (pE s.c st.z.an tr).1 st.z s.id;exact⟨a2,i2,by show(mR st.z s.id (pE s.c st.z.an tr).1).1=_;rw[h2,h]⟩
def Wx(z:Ar)(nx:Int)(ps:LV)(np:Nat)(tr:Bool)(a i:Int):AH:=cC z.X z.xc [(0,dV z 1 2 3 4 5 6),(1,cO z),(2,dv z),(3,du z),(4,cQ z),(5,dh z),(6,cK z),(7,.ah [.aa 0 0] 25),(8,eM nx ps np),(9,.ah [.ai tr] 4),(10,.ah [J 0] 27),(11,.ah [J a,J i] 72),(12,.ah [.aM] 35),(13,.ah [.aM] 82)] 14
def aox(z:Ar)(nx:Int)(ps:LV)(np:Nat)(tr:Bool)(a i:Int):AH:=cC z.X z.xc ([(0,dV z 1 2 3 4 5 6),(1,cO z),(2,dv z),(3,du z),(4,cQ z),(5,dh z),(6,cK z),(7,.ah [.aa 0 0] 25),(8,eM nx ps np),(9,.ah [.ai tr] 4),(10,.ah [J 0] 27),(11,.ah [J a,J i] 72),(12,.ah [.ad 14 0 1] 35),(13,.ah [.aM] 82)]++[(14,.au [] 2)]) 15
theorem aDd(z nx ps np tr a i):mr 12 (Wx z nx ps np tr a i) (aox z nx ps np tr a i) (λI aK=>aK=I):=
 Je (g:=12) rfl (λid=>by rcases id with _|_|_|_|_|_|_|_|_|_|_|_|_|_|id<;>rfl) rfl (λI x hx=>(jn.wu (λI x h=>r9 h) (.mn _)) I x hx) aA
theorem aDe(z nx ps np tr a i):mr 12 (aox z nx ps np tr a i) (hUn z nx ps np tr 0 a i [] 0 [] 0) (λI aK=>aK=I):=
 Je (g:=13) (l':=[(0,dV z 1 2 3 4 5 6),(1,cO z),(2,dv z),(3,du z),(4,cQ z),(5,dh z),(6,cK z),(7,.ah [.aa 0 0] 25),(8,eM nx ps np),(9,.ah [.ai tr] 4),(10,.ah [J 0] 27),(11,.ah [J a,J i] 72),(12,.ah [.ad 14 0 1] 35),(13,.ah [.ad 15 0 1] 82),(14,.au [] 2)]) rfl (λid=>by rcases id with _|_|_|_|_|_|_|_|_|_|_|_|_|_|_|id<;>rfl) rfl (λI x hx=>(jn.wu (λI x h=>r9 h) (.mn _)) I x hx) aA
theorem ahg{v H1 z nx l cm tr a i aC}(hz:z.cY=mP cm)(tw:u7 l)(yv:rf (λst _ s=>ud cm tr st s) ⟨z,0,[],[]⟩ l=aC)(he:aC.e≠0->bW Z 12 ⟨7,aJ [(6,.aa 10 0)],55,[],pw,.jR,none,none⟩ (hU aC.z nx (cR l) l.length tr aC.e a i) (rK (fD v H1)))(h:aC.e=0->iB pw Z 7 55 12 v H1 (Ed aC.aW 0) (Hy aC.z nx l tr a i aC.aW aC.cG) (aB Z 7 0)):
 iB pw Z 7 55 12 v H1 (aJ [(3,.aa 7 0),(4,.aa 8 0),(5,.aa 9 0),(6,.aa 10 0),(9,.aa 12 0),(10,.aa 13 0)]) (Wx z nx (cR l) l.length tr a i) (dg Z Ja 7 1):=by
 refine Ml ?_ (aDd ..) (by kernel_rfl) CY;refine Ml ?_ (aDe ..) (by kernel_rfl) CY;refine QJ iH zn (aQ:=RE) (n:=1000) CY (by kernel_rfl) (λ_ _ h=>h) (λ_ _ _ h=>h) ?_;refine cast (@aMq z nx (cR l) l.length tr a i _ _ _).symm ?_;refine⟨⟨⟨z,0,[],[]⟩,cm,tr,nx,l,aC⟩,⟨rfl,rfl,hz,aA,tw,yv⟩,al (λhb=>he (by simpa using hb)) λhb=>?_⟩;have h0:aC.e=0:=by simpa using hb
 simp only[h0];exact aNy (h h0)
structure KF where
 z:Ar
 d:Db
 tr:Bool
 e:Int
 zf:Ar
def Ii{W:Bool->Type}(e:wy W)(h:e.bM)(ok:LV->AH->Bool):LV->AH->Option Sp:=λargs H=>bif ok args H then Ij e h args H else none
theorem akG{P S f0 W}{e:wy W}{h1 ok}(hS:aF P S)(h:∀b w args H,e.aI b w args H->bC P f0 args H (e.v b w) (e.aD b w))(cx:f0≠999999:=by first|assumption|decide):aF P (bx f0 (Ii e h1 ok) S):=by
 refine wA hS λargs H sp p v H' hs hd hp=>?_
 have⟨_,hs⟩:=EN hs;cases hs;simp only[sh]at hd;by_cases hw:∃p:(b:Bool)×W b,e.aI p.1 p.2 args H
 .rw[dif_pos hw]at hd;cases hd;exact h _ _ _ _ hp
 .rw[dif_neg hw]at hd;cases hd
def Mc(z z0:Ar):AH:=cC z.X z.xc [(0,dV z 7 2 3 8 5 9),(1,.bg []),(2,dv z),(3,du z),(4,cQ z0),(5,dh z),(6,.bg []),(7,cO z),(8,cQ z),(9,cK z)] 10
def auK:wy (λ_=>KF)where
 aI b w A H:=A=[.aa 0 0,.aj (iU w.d),.ai w.tr]/\H=hA w.z/\OW w.z/\KE w.z w.d w.tr/\Ef w.z w.d w.tr=(w.e,w.zf)/\decide (w.e=0)=b
 v b w:=match b with|true=>J 0|false=>J w.e
 aD b w:=match b with|true=>Mc w.zf w.z|false=>hA w.z
theorem aNF:auK.bM:=by rintro b ⟨z,d,tr,e,zf⟩ b' ⟨z',d',GR,e',zf'⟩ A H ⟨h1,h2,_,_,q1,q3⟩ ⟨h3,h4,_,_,q2,q4⟩;have e1:=yp (h2.symm.trans h4);rw[h1]at h3;simp at h3;have e6:d=d':=HT rfl (by rw[h3.1]);have e7:=h3.2;subst e1 e6 e7;rw[q1]at q2;cases q2;subst q3 q4;rfl
def K58:Ev.aX:=bx 7 (Ii auK aNF mY) Ky
theorem aNO(z tr l):(y7 z tr l).z.cD=z.cD/\(y7 z tr l).z.nc=z.nc:=by
 have⟨a,i,h⟩:=ZU tr l z;have:∀(x:List (Int×List cL)) (st:S7),(st.z.cD=z.cD/\st.z.nc=z.nc)->((x.foldl fk st).z.cD=z.cD/\(x.foldl fk st).z.nc=z.nc):=by
  intro x;induction x with
  |nil=>exact λst h=>h
  |cons y x ih=>exact λst h=>ih _ h
 exact this _ _ (by rw[h];exact aA)
theorem aNx{v H1 z nx ps np tr a i}(h:iB pw Z 7 55 12 v H1 (aJ [(3,.aa 7 0),(4,.aa 8 0),(5,.aa 9 0),(6,.aa 10 0),(9,.aa 12 0),(10,.aa 13 0)]) (Wx z nx ps np tr a i) (dg Z Ja 7 1)):
 bW Z 12 (fZ pw none 7 55 tU (KY (dg Z DL 7 0))) (hU z nx ps np tr 0 a i) (rK (fD v H1)):=by
 refine QJ iH zn (aQ:=Ja) (n:=1000) CY (by kernel_rfl) (λ_ _ h=>h) (λ_ _ _ h=>h) ?_;rw[aMp];exact h
theorem aNv{v H1 z nx ps np tr a i}(h:bW Z 12 (fZ pw none 7 55 tU (KY (dg Z DL 7 0))) (hU z nx ps np tr 0 a i) (rK (fD v H1))):
 bW Z 7 (fZ [] none 7 55 tU (dg Z DL 7 0)) (hU z nx ps np tr 0 a i) (rK (fD v H1)):=by
 refine bW.Fy iH (Fi iH 0) (λi zx H2 hi h=>?_) (azx z nx ps np tr a i) ?_
 .have:i=0:=by omega
  subst this;cases h;rfl
 exact bW.ae7 (by omega) (by show(12:Nat)<=12;omega) h
theorem ahh{v H1 z nx l rt tr}(yC:z.lC=bJ AV.ai 0 rt)(WZ:q_ rt false l=false)(hdo:mD ⟨nx,l⟩)(tw:u7 l)(hv:iR ⟨nx,l⟩=true)(h:iB pw Z 7 55 12 v H1 (aJ [(3,.aa 7 0),(4,.aa 8 0),(5,.aa 9 0),(6,.aa 10 0),(9,.aa 12 0),(10,.aa 13 0)]) (Wx z nx (cR l) l.length tr z.an z.id) (dg Z Ja 7 1)):
 bC Z 7 [.aa 0 0,.aj (iU ⟨nx,l⟩),.ai tr] (hA z) v H1:=by
 refine eS zn DL 55 ?_;have h2:=aNv (aNx h);refine cast (@agQ z nx (cR l) l.length tr _ _).symm ?_;refine⟨z,aA,⟨nx,l⟩,⟨rfl,rfl,hdo⟩,al (λhb=>(by rw[hv]at hb;cases hb)) λ_=>⟨⟨z,false,nx,l,rt⟩,⟨rfl,rfl,yC,tw⟩,al (λhb=>(by rw[WZ]at hb;cases hb)) λ_=>?_⟩⟩;exact h2
theorem auG{z nx l tr}(hdo:mD ⟨nx,l⟩)(hv:iR ⟨nx,l⟩=false):bC Z 7 [.aa 0 0,.aj (iU ⟨nx,l⟩),.ai tr] (hA z) (J 1) (hA z):=by refine eE 55 zn agQ ?_;exact⟨z,aA,⟨nx,l⟩,⟨rfl,rfl,hdo⟩,al (λ_=>aA) λhb=>(by rw[hv]at hb;cases hb)⟩
theorem aNz{z nx l tr}(hf:OW z)(ho:KE z ⟨nx,l⟩ tr)(hv:iR ⟨nx,l⟩=true)(he:(e_ z tr l).e≠0):bC Z 7 [.aa 0 0,.aj (iU ⟨nx,l⟩),.ai tr] (hA z) (J (e_ z tr l).e) (hA z):=by
 have⟨a3,i3,IT⟩:=ZU tr l z;have aCr:=ho.A_;have h1:bC Z 7 [.aa 0 0,.aj (iU ⟨nx,l⟩),.ai tr] (hA z) (J (e_ z tr l).e) (hU {(e_ z tr l).z with an:=z.an,id:=z.id} nx (cR l) l.length tr (e_ z tr l).e z.an z.id):=by refine ahh (rt:=[]) hf.ret (PB _ _) ho.db (ho.ok hv) hv ?_;exact ahg (cm:=[]) hf.cY.1 (ho.ok hv) rfl (λ_=>aNB (aCr.resolve_left he)) (λh0=>absurd h0 he)
 have DF:({(e_ z tr l).z with an:=z.an,id:=z.id}:Ar)=z:=by rw[IT]
 rw[DF]at h1;exact kJ (ps:=[(0,0),(1,1),(2,2),(3,3),(4,4),(5,5),(6,6)]) h1
theorem aND{z nx l tr}(hf:OW z)(ho:KE z ⟨nx,l⟩ tr)(hv:iR ⟨nx,l⟩=true)(FJ:(e_ z tr l).e=0):bC Z 7 [.aa 0 0,.aj (iU ⟨nx,l⟩),.ai tr] (hA z) (J 0) (Mc (B' z tr l).z z):=by
 have⟨a3,i3,IT⟩:=ZU tr l z;have bB:=ho.len;have rp:=ho.blk hv FJ;have DB:=ho.tot hv FJ;have tv:=ho.all hv FJ;have kf:=ho.nd hv;simp only at bB rp DB tv kf;have Dq:zQ 0 ⟨(e_ z tr l).z,[],[]⟩:=by
  rw[IT];refine⟨hf.fy,⟨DW,λe h=>(by cases h),DW,λe h=>(by cases h),λe h=>(by cases h),λe h=>(by cases h),λe h=>(by cases h)⟩,⟨?_,?_⟩,⟨?_,?_⟩,hf.cY.1,hf.cY.2⟩
  .rw[hf.eI.1,hf.eI.2];rfl
  .rw[hf.eI.2];exact ct 0
  .rw[hf.add.1,hf.add.2];rfl
  .rw[hf.add.2];exact ct 0
 have hiF:=Xz (l:=(e_ z tr l).aW.zip (e_ z tr l).cG) (λx hx=>(rp x.2 (List.of_mem_zip hx).2).1) Dq;have h1:bC Z 7 [.aa 0 0,.aj (iU ⟨nx,l⟩),.ai tr] (hA z) (J 0) (Dh (B' z tr l).z (y7 z tr l).z nx l tr z.an z.id):=by refine ahh (rt:=[]) hf.ret (PB _ _) ho.db (ho.ok hv) hv ?_;refine ahg (cm:=[]) hf.cY.1 (ho.ok hv) rfl (λh=>absurd FJ h) (λ_=>?_);refine auF bB.1 (bB.2 hv) rp DB Dq ?_ (e_ z tr l).aW.length 0 (by omega);have FO:=aD2 tv;exact auE (st:=y7 z tr l) (aC:=B' z tr l) hiF.cY hiF.cc kf (ho.ok hv) rfl (by rw[FO];exact .nil) (by rw[FO];exact auH ..)
 have Mz:=aNO z tr l;generalize (B' z tr l).z=z5 at h1⊢;generalize (y7 z tr l).z=z7 at h1 Mz;have e:cQ z=cQ z7:=by rw[cQ,cQ,Mz.1,Mz.2]
 have h2:bC Z 7 [.aa 0 0,.aj (iU ⟨nx,l⟩),.ai tr] (hA z) (J 0) (Mc z5 z7):=
  kJ (ps:=[(0,0),(1,1),(2,2),(3,3),(4,4),(5,5),(6,6),(12,7),(13,8),(14,9)]) h1
 rw[Mc,e];exact h2
theorem abq:aF Z K58:=by
 refine akG zn ?_;rintro b ⟨z,⟨nx,l⟩,tr,e,zf⟩ args H ⟨h1,h2,hf,ho,hr,hb⟩;simp only at h1 h2 hf ho hr hb;subst h1 h2;cases hv:iR ⟨nx,l⟩with
 |false=>rw[Ef,aP hv]at hr;cases hr;cases hb;exact auG ho.db hv
 |true=>
  rw[Ef,aw (by rw[hv];decide)]at hr;by_cases he:(e_ z tr l).e≠0
  .rw[aP he]at hr;cases hr;rw[decide_eq_false he]at hb;subst hb;exact aNz hf ho hv he
  .rw[aw he]at hr;cases hr;cases hb;exact aND hf ho hv (Gt.1 he)
def Ar.nb(z:Ar):Ar:={z with oh:=[],na:=0}
def hBo(z:Ar):AH:=cC z.X z.xc [(0,dV z.nb 1 2 3 4 5 7),(1,cO z),(2,dv z),(3,du z),(4,cQ z),(5,dh z),(6,cK z),(7,.au [] 44)] 8
def blX:bT Ar where
 aI z A H:=A=[.aa 0 0]/\H=hA z
 v z:=.ad 6 z.na 9
 aD z:=hBo z
theorem ayg:blX.bM:=λA A' _ _ h1 h2=>by rw[yp (h1.2.symm.trans h2.2)]
def K62:Ev.aX:=bx 8 (bE blX ayg mY) K58
theorem aMC{z L Q}:
 Cp K58 L Q 8 (hA z)=J2 z (λw=>Q (.ad 6 w.na 9) (av8 w (J w.id) .aM)):=by kernel_rfl
theorem ayi{l j}(h:j<l.length):fi Z 2 (fh l) (j*9+0)=some (J l[j].id):=by
 have h1:=VH h;rw[Na,<-vR];have h2:(((fh l).drop (j*9)).take 9)[0]? =some (J l[j].id):=by rw[h1];rfl
 rw[Jq]at h2;simpa using h2
theorem awY:aF Z K62:=by
 refine bY abq ?_;rintro z args H ⟨rfl,rfl⟩;have h1:bC Z 8 [.aa 0 0] (hA z) (.ad 6 z.na 9) (cC z.X z.xc [(0,.ah [J z.an,J z.id,.ad 1 z.ng 1,.aS 2,.aS 3,.aS 4,.aS 5,.aM,.aM] 78),(1,cO z),(2,dv z),(3,du z),(4,cQ z),(5,dh z),(6,cK z)] 7):=by refine eE 13 abq aMC ?_;exact⟨z,aA,rfl,rfl⟩
 exact Lx h1 (Je (g:=0) (l':=[(0,dV z.nb 1 2 3 4 5 7),(1,cO z),(2,dv z),(3,du z),(4,cQ z),(5,dh z),(6,cK z)]) rfl (λid=>by rcases id with _|_|_|_|_|_|_|id<;>rfl) rfl (λI x hx=>(jn.fJ (.fJ (.fJ (.fJ (.fJ (.fJ (.fJ (jn.wu (λI x h=>r9 h) (.mn _))))))))) I x hx) aA) (ct _)
def egX:bT Unit where
 aI w A H:=A=[]/\H=ay
 v w:=.ai true
 aD w:=ay
theorem az0:egX.bM:=λ_ _ _ _ _ _=>rfl
def Us:Ev.aX:=bx 9 (bE egX az0 bU) K62
theorem aAO:∃h n,bC Z 9 [] ay (.ai true) ⟨h,n,none⟩:=by
 have h:=aAP;unfold auz at h;split at h;next b h0 n0 hr=>subst h;refine⟨h0,n0,λI w bs args' cs ha hw hb=>?_⟩;have⟨aK,w',h1,h2,h3,h4⟩:=am7 (cs:=cs) (Zd iH afA 1000000) hr ha hw hb (eh _) trivial rfl;exact⟨aK,w',h1,h2.ag,⟨h3,h2.2.2.2⟩,h4⟩
 .cases h
theorem abr:aF Z Us:=by refine bY awY ?_;rintro w args H ⟨rfl,rfl⟩;have⟨h,n,hE⟩:=aAO;exact kJ hE (by rfl) (by rfl)
structure iS where
 n:Nat
 l:List cL
 b:Bool
structure qc(z:Ar)(gs:List iS):Prop where
 eI:z.eI=gs.map λg=>.ei g.n 0
 ng:z.ng=gs.length
 df:∀g∈gs,z.X g.n=some (nR g.l g.b)
def jg:List iS->Nat
 |[]=>0
 |g::l=>g.l.length+jg l
def mQ:List iS->Nat
 |[]=>0
 |g::l=>(if g.b then g.l.length else 0)+mQ l
structure TY where
 z:Ar
 gs:List iS
def acJ:bT TY where
 aI w A H:=A=[.aa 0 0]/\H=hA w.z/\qc w.z w.gs/\jg w.gs<=4000000/\w.gs.length<=4000000
 v w:=.aL [J (jg w.gs),J (mQ w.gs)]
 aD w:=hA w.z
theorem aoc{X:Nat->Option aO}:∀{gs uv},(∀g∈gs,X g.n=some (nR g.l g.b))->(∀g∈uv,X g.n=some (nR g.l g.b))->(gs.map λg=>AV.ei g.n 0)=(uv.map λg=>AV.ei g.n 0)->jg gs=jg uv/\mQ gs=mQ uv
 |[],[],_,_,_=>aA
 |[],_::_,_,_,h=>by simp at h
 |_::_,[],_,_,h=>by simp at h
 |g::gs,g'::uv,h1,h2,h=>by simp at h;have a1:=h1 g (dk ..);have a2:=h2 g' (dk ..);rw[h.1,a2]at a1;simp only[nR,lN,aO.ah.injEq,fG,AV.aq.injEq,AV.ai.injEq,and_true]at a1;have⟨⟨_,a3⟩,a4⟩:=a1;have⟨i1,i2⟩:=aoc (λx hx=>h1 x (dZ _ hx)) (λx hx=>h2 x (dZ _ hx)) h.2;simp only[jg,mQ,i1,i2,a3,a4];exact⟨trivial,trivial⟩
theorem azd:acJ.bM:=by rintro⟨z,gs⟩ ⟨z',uv⟩ A H ⟨_,h1,k1,_⟩ ⟨_,h2,k2,_⟩;have e:=yp (h1.symm.trans h2);subst e;have⟨i1,i2⟩:=aoc k1.df k2.df (k1.eI.symm.trans k2.eI);simp only[acJ,i1,i2]
def Q1:Ev.aX:=bx 13 (bE acJ azd mY) Us
def aqy:Nat->LN:=dY [(4,[2,3,11,12,13])]
def aqD:Nat->LN:=dY [(4,[0,1,5])]
abbrev aaA h0 h1(h2:Ar) h3:=avw 2 (J h0) h1 11 1 h2.ng 12 13 h3
theorem aKq{z L Q}:
 fA Us aqy L Q 13 [.aa 0 0] (hA z)=J2 z (λw=>L (aaA 0 0 w (J 0)) (hA w) (aB Z 13 0)):=by kernel_rfl
abbrev Tl h0 h1 h2(h3:LV->Nat->Prop):=∃b0:LV,∃b1:Nat,tJ Z h0 95 h1 (h2+0)=some (.aq b0 b1 4:AV)/\h3 b0 b1
theorem aKr{z a b i L Q}:
 iL Us aqy L Q 13 7 (aaA a b z (J i)) 0 (hA z)=jQ i z.ng (λcv=>∃n:Nat,∃off:Nat,oe 83 z.eI (cv*1) (.ei n off)/\Tl (hA z) n off (λcs=>λlen=>∃lH:Bool,tJ Z (hA z) 4 n (off+1)=some (.ai lH:AV)/\gT lH (Tl (hA z) n off (λcA=>λb_=>L (aaA (wI (a+a_ len)) (wI (b+a_ b_)) z (cu i)) (hA z) (aB Z 13 0))) L (aaA (wI (a+a_ len)) b z (cu i)) (hA z) 13 0)) (Q (.aL [J a,J b]) (hA z)):=by kernel_rfl
theorem aqa{z n l b}(h:z.X n=some (nR l b)):tJ Z (hA z) 95 n (0+0)=some (.aq (hZ l) l.length 4):=by unfold tJ;rw[show(hA z).gO n=z.X n from rfl,h];kernel_rfl
theorem aDX{z n l b}(h:z.X n=some (nR l b)):tJ Z (hA z) 4 n (0+1)=some (.ai b):=by unfold tJ;rw[show(hA z).gO n=z.X n from rfl,h];kernel_rfl
theorem ar2(cs off):fi Z 83 cs off=cs[off]? :=by kernel_rfl
theorem EV:∀a b:List iS,jg (a++b)=jg a+jg b/\mQ (a++b)=mQ a+mQ b
 |[],b=>by simp[jg,mQ]
 |g::a,b=>by have⟨h1,h2⟩:=EV a b;simp only[j3,jg,mQ,h1,h2,DX];exact⟨trivial,trivial⟩
theorem alJ:∀l:List iS,mQ l<=jg l
 |[]=>ct _
 |g::l=>by have:=alJ l;simp only[jg,mQ];split<;>omega
theorem ayy{z gs}(h:qc z gs)(hc:jg gs<=4000000)(hl:gs.length<=4000000):∀i:Nat,i<=gs.length->
 ba Z 13 38 7 (.aL [J (jg gs),J (mQ gs)]) (hA z) (aJ [(2,J (jg (gs.take i))),(3,J (mQ (gs.take i))),(11,.ad 1 z.ng 1),(12,J (a_ z.ng)),(13,J (i:Int))]) (hA z) (aB Z 13 0):=by
 refine dj (λi=>gs.length-i) _ _ _ _ ?_;rintro i hi ih;refine hE abr aKr ?_;dsimp only[Tl,cu];have yA:=h.ng;refine al (λae=>?_) λaY=>?_
 .have ae:i<gs.length:=by rw[<-yA];simpa using ae
  have sv:=h.df gs[i] (k7 ae);have hp:fi Z 83 z.eI (i*1)=some (.ei gs[i].n 0):=by rw[ar2,n7,h.eI,sJ,gg ae];rfl
  have e1:gs.take (i+1)=gs.take i++[gs[i]]:=by rw[qB,gg ae];rfl
  have e2:=EV (gs.take i) [gs[i]];have e3:=EV (gs.take (i+1)) (gs.drop (i+1));rw[uK]at e3;have e4:=alJ gs;have h1:=ih (i+1) (by omega) (by omega);rw[e1]at h1 e3;rw[e2.1,e2.2]at h1 e3;generalize gs[i]=g at sv hp h1 e3;simp only[jg,mQ,Gu]at h1 e3;have w1:wI ((jg (gs.take i):Int)+a_ g.l.length)=((jg (gs.take i)+g.l.length:Nat):Int):=by rw[cb (by simp;omega) (by simp;omega)];rfl
  refine⟨i,rfl,by rw[yA];exact ae,g.n,0,hp,hZ g.l,g.l.length,aqa sv,g.b,aDX sv,?_⟩;rw[w1,cb];cases hb:g.b with
  |true=>
   rw[hb]at h1 e3;simp at h1 e3;refine al (λ_=>⟨hZ g.l,g.l.length,aqa sv,?_⟩) λh=>by cases h
   rw[cb (by simp;omega) (by simp;omega)];exact h1
  |false=>rw[hb]at h1;exact al (λh=>(by cases h)) λ_=>h1
 .have aY:gs.length<=i:=by rw[<-yA];simpa using aY
  rw[BN aY];exact aA
theorem abw:aF Z Q1:=by refine bY abr ?_;rintro⟨z,gs⟩ args H ⟨rfl,rfl,hg,hc,hl⟩;refine eE 38 abr aKq ?_;exact⟨z,aA,ayy hg hc hl 0 (eh _)⟩
mutual
def gC:LI->ax->LI
 |l,.mk k n s ts=>v_ (if k=0/\qq l n 0<0 then l++[n]else l) ts
def v_:LI->dF->LI
 |l,[]=>l
 |l,t::ts=>v_ (gC l t) ts
end
def ji(l:LI):AH:=aE [(0,bG l 2)] 1
theorem adO{l m}(h:ji l=ji m):l=m:=by have:=congrArg (λH=>AH.aR H 0) h;exact BQ (cW this)
def asg:bT (LI×Int)where
 aI w A H:=A=[.ad 0 w.1.length 1,J w.2]/\H=ji w.1/\w.1.length<100000
 v w:=J (qq w.1 w.2 0)
 aD w:=ji w.1
theorem aFA:asg.bM:=by rintro⟨l,a⟩ ⟨l',a'⟩ A H ⟨h1,h2,_⟩ ⟨h3,h4,_⟩;rw[h2]at h4;rw[h1]at h3;have:=adO h4;subst this;simp at h3;rw[h3]
def Q2:Ev.aX:=bx 71 (bE asg aFA bU) Q1
def aqN:Nat->LN:=dY [(2,[0,1,5])]
def Jh(l:LI):AH:=aE [(0,.bg []),(1,bG l 2)] 2
def au1(N:Nat):bT (LI×Int×Int×LN×dF)where
 aI w A H:=A=[.ad 0 w.1.length 1,.aj [J w.2.1,J w.2.2.1,.ao w.2.2.2.1,.aq (az w.2.2.2.2) w.2.2.2.2.length 4]]/\H=ji w.1/\bA (.mk w.2.1 w.2.2.1 w.2.2.2.1 w.2.2.2.2)/\bp (.mk w.2.1 w.2.2.1 w.2.2.2.1 w.2.2.2.2)<N/\w.1.length+bp (.mk w.2.1 w.2.2.1 w.2.2.2.1 w.2.2.2.2)<60000
 v w:=.ad 1 (gC w.1 (.mk w.2.1 w.2.2.1 w.2.2.2.1 w.2.2.2.2)).length 1
 aD w:=Jh (gC w.1 (.mk w.2.1 w.2.2.1 w.2.2.2.1 w.2.2.2.2))
theorem au2(N):(au1 N).bM:=by rintro⟨l,k,n,s,ts⟩ ⟨l',k',n',s',oF⟩ A H ⟨h1,h2,_⟩ ⟨h3,h4,_⟩;rw[h2]at h4;rw[h1]at h3;have:=adO h4;subst this;simp at h3;obtain⟨rfl,rfl,rfl,h5,h6⟩:=h3;rw[vn h6 h5]
def Pl(N:Nat):Ev.aX:=bx 44 (bE (au1 N) (au2 N) bU) Q2
def aqG:Nat->LN:=dY [(4,[0,3,5])]
def ahl:LV->AH->Option Sp
 |[.aM,.aj cells],H=>some (.A1 (H=ay/\uE cells/\iy bp cells<60000,.ad 0 (iy (gC []) cells).length 1,ji (iy (gC []) cells)))
 |_,_=>none
def Q3:Ev.aX:=bx 44 ahl Q2
theorem aMg{l a L Q}:
 fA Q1 aqN L Q 71 [ej 0 l,J a] (ji l)=L (aJ (zb l 1 (J a) 5 0)) (ji l) (aB Z 71 0):=by kernel_rfl
theorem aMh{l a i L Q}:
 ju Q1 aqN L Q 71 1 (zb l 1 (J a) 5 i) (ji l)=sX i l 2 (λn=>He (n==a) Q (J i) (ji l) L (aJ [(0,ej 0 l),(1,J a),(5,cu i)]) 71) (Q (J (-1)) (ji l)):=by kernel_rfl
abbrev av4 h0 h1(h2:(LI×Int)->Prop):=∃b0:LI×Int,(([ej 0 h0,J h1]:LV)=[.ad 0 b0.1.length 1,J b0.2]/\ji h0=ji b0.1/\b0.1.length<100000)/\h2 b0
theorem aLs{l k n s cs len N L Q}:
 fA (Pl N) aqG L Q 44 [ej 0 l,cN k n s cs len] (ji l)=gT (k==0) (av4 l n (λw=>gT (decide (qq w.1 w.2 0<0)) (OA w.1 l (L (aJ [(0,.ad 1 (l.length+1) 1),(3,.aa 2 0),(5,J 0)]) (jv (.bg []) (.au (bc w.1++[J n]) 2) (dx k n s cs len)) (aB Z 44 0))) L (aJ (zb l 3 (.aa 1 0) 5 0)) (j_ (bG w.1 2) (dx k n s cs len)) 44 0)) L (aJ (zb l 3 (.aa 1 0) 5 0)) (j_ (bG l 2) (dx k n s cs len)) 44 0:=by kernel_rfl
abbrev aae(h0:LI×Int×Int×LN×dF):=gC h0.1 (ax.mk h0.2.1 h0.2.2.1 h0.2.2.2.1 h0.2.2.2.2)
abbrev Tm(h0:LI×Int×Int×LN×dF):=bp (ax.mk h0.2.1 h0.2.2.1 h0.2.2.2.1 h0.2.2.2.2)
abbrev avL(h0:LI×Int×Int×LN×dF):=([.ad 0 h0.1.length 1,cN h0.2.1 h0.2.2.1 h0.2.2.2.1 (az h0.2.2.2.2) h0.2.2.2.2.length]:LV)
abbrev awl(h0:LI×Int×Int×LN×dF):=bA (ax.mk h0.2.1 h0.2.2.1 h0.2.2.2.1 h0.2.2.2.2)
theorem aLt{l k n s cs len i N L Q}:
 ju (Pl N) aqG L Q 44 1 [(0,ej 1 l),(3,.aa 2 0),(5,J i)] (jv (.bg []) (bG l 2) (dx k n s cs len))=wi i len cs (λbm=>λbS=>λcX=>λcA=>λb_=>∃w:LI×Int×Int×LN×dF,(([ej 0 l,cN bm bS cX cA b_]:LV)=avL w/\ji l=ji w.1/\awl w/\Tm w<N/\w.1.length+Tm w<60000)/\L (aJ [(0,.ad 1 (aae w).length 1),(3,.aa 2 0),(5,cu i)]) (jv (.bg []) (bG (aae w) 2) (dx k n s cs len)) (aB Z 44 0)) (Q (ej 1 l) (Jh l)):=by kernel_rfl
theorem aev{l i}(h:i<l.length):fi Z 2 (bc l) (i*1)=some (J l[i]):=by rw[Na,bc,n7,sJ,gg h];rfl
theorem aMf{l a aC}(hl:l.length<100000):∀i:Nat,(i<=l.length/\qq (l.drop i) a i=aC)->
 ba Z 71 19 1 (J aC) (ji l) (aJ [(0,.ad 0 l.length 1),(1,J a),(5,J (i:Int))]) (ji l) (aB Z 71 0):=by
 refine dj (λi=>l.length-i) _ _ _ _ ?_;rintro i ⟨hi,hf⟩ ih;refine hE abw aMh ?_;delta cu;refine al (λae=>?_) λaY=>?_
 .have ae:i<l.length:=by simpa using ae
  rw[fu ae]at hf;refine⟨i,rfl,ae,l[i],aev ae,al (λh=>?_) λh=>?_⟩
  .have h:l[i]=a:=by simpa using h
   rw[qq,aP h.symm]at hf;subst hf;exact aA
  .have h:¬l[i]=a:=by simpa using h
   rw[qq,aw (λe=>h e.symm)]at hf;have e:wI ((i:Int)+1)=((i+1:Nat):Int):=by rw[cb];simp
   rw[e];exact ih (i+1) ⟨by omega,by simpa using hf⟩ (by omega)
 .have aY:l.length<=i:=by simpa using aY
  rw[gf aY]at hf;subst hf;exact aA
theorem aj1:aF Z Q2:=by refine bY abw ?_;rintro⟨l,a⟩ args H ⟨rfl,rfl,hl⟩;refine eE 19 abw aMg ?_;exact aMf hl 0 ⟨by simp,rfl⟩
mutual
theorem SZ:∀(l:LI) (t:ax),(gC l t).length<=l.length+bp t
 |l,.mk k n s ts=>by
  have:=au5 (if k=0/\qq l n 0<0 then l++[n]else l) ts;simp only[gC,bp];split at this
  .simp only[cj,dJ,gH]at this;rename_i h;rw[aP h];omega
  next h=>rw[aw h];omega
theorem au5:∀(l:LI) (ts:dF),(v_ l ts).length<=l.length+bz ts
 |l,[]=>by simp[v_,bz]
 |l,t::ts=>by have h1:=SZ l t;have h2:=au5 (gC l t) ts;simp only[v_,bz];omega
end
theorem at2{k n s ts N aC}(hS:aF Z (Pl N))(h8:cV ts.length)(ho:fe ts)(hN:bz ts<N):
 ∀p:Nat×LI,(p.1<=ts.length/\v_ p.2 (ts.drop p.1)=aC/\p.2.length+bz (ts.drop p.1)<60000)->
 ba Z 44 36 1 (.ad 1 aC.length 1) (Jh aC) (aJ [(0,.ad 1 p.2.length 1),(3,.aa 2 0),(5,J (p.1:Int))]) (aE [(0,.bg []),(1,bG p.2 2),(2,dx k n s (az ts) ts.length)] 3) (aB Z 44 0):=by
 refine dj (λp=>ts.length-p.1) _ _ _ _ ?_;rintro⟨i,l⟩ ⟨hi,hf,hb⟩ ih;simp only at hi hf hb ih⊢;refine hE hS aLt ?_;delta Tm cu;refine al (λae=>?_) λaY=>?_
 .have ae:i<ts.length:=by simpa using ae
  obtain⟨k1,n1,s1,l1,-,hg,bP,aN,ca⟩:=ua ae ho hN (P:=λ_=>True) trivial;rw[fu ae,hg]at hf hb;rw[v_]at hf;rw[bz]at hb;have hv:=SZ l (.mk k1 n1 s1 l1);have hx:(gC l (.mk k1 n1 s1 l1)).length+bz (ts.drop (i+1))<60000:=by omega
  refine⟨i,rfl,ae,k1,n1,s1,az l1,l1.length,bP,(l,k1,n1,s1,l1),⟨rfl,rfl,aN,ca,by simp only;omega⟩,?_⟩;rw[lB h8 ae];exact ih (i+1,gC l (.mk k1 n1 s1 l1)) ⟨ae,hf,hx⟩ (by simp only;omega)
 .have aY:ts.length<=i:=by simpa using aY
  rw[gf aY,v_]at hf;subst hf;exact aA
theorem aLr{l k n s ts N}(hS:aF Z (Pl N))(aN:bA (.mk k n s ts))(hN:bz ts<N)(hb:l.length+bp (.mk k n s ts)<60000):
 bC Z 44 [.ad 0 l.length 1,.aj [J k,J n,.ao s,.aq (az ts) ts.length 4]] (ji l) (.ad 1 (gC l (.mk k n s ts)).length 1) (Jh (gC l (.mk k n s ts))):=by
 refine eE 36 hS aLs ?_;simp only[bp]at hb;have aui:v_ l ts=gC l (.mk k n s ts)->ba Z 44 36 1 (.ad 1 (gC l (.mk k n s ts)).length 1) (Jh (gC l (.mk k n s ts))) (aJ [(0,.ad 0 l.length 1),(3,.aa 1 0),(5,J 0)]) (aE [(0,bG l 2),(1,dx k n s (az ts) ts.length)] 2) (aB Z 44 0):=by intro hh;refine wS (g:=0) ?_ (rC rfl rfl rfl) (afq (by rfl));refine Bm (mG:=[0,2,1]) (ls:=[0,3,5]) (ps:=[(0,0),(2,1),(1,2)]) (H2:=aE [(0,.bg []),(1,bG l 2),(2,dx k n s (az ts) ts.length)] 3) (t:=aJ [(0,.ad 1 l.length 1),(3,.aa 2 0),(5,J 0)]) ?_;exact at2 hS aN.2.1 aN.2.2 hN (0,l) ⟨eh _,hh,by simp;omega⟩
 refine al (λh=>⟨(l,n),⟨rfl,rfl,by simp only;omega⟩,al (λh2=>⟨⟨by simp[bc],by omega,rfl,rfl⟩,?_⟩) λh2=>?_⟩) λh=>?_
 .have h:k=0:=by simpa using h
  have h2:=cP h2;have e:v_ (l++[n]) ts=gC l (.mk k n s ts):=by rw[gC,aP ⟨h,h2⟩]
  have:=at2 (k:=k) (n:=n) (s:=s) hS aN.2.1 aN.2.2 hN (0,l++[n]) ⟨eh _,e,by simp;omega⟩;simp only[cj,dJ,gH,bG,bc,lP,e9,List.map_nil]at this;exact this
 .have h2:=c9 h2;exact aui (by rw[gC,aw (λx=>h2 x.2)])
 .have h:¬k=0:=by simpa using h
  exact aui (by rw[gC,aw (λx=>h x.1)])
theorem aj2:∀N,aF Z (Pl N):=by
 refine vV aj1 ?_ ?_
 .rintro w args H ⟨_,_,_,h,_⟩;omega
 .intro N hS;rintro⟨l,k,n,s,ts⟩ args H ⟨rfl,rfl,aN,hN,hb⟩;simp only[bp]at hN;exact aLr hS aN (by simp only;omega) hb
theorem aAw{P f args Pz H H2 H' v R}(h:bC P f Pz H2 v H')(hm:mr H.br H H2 R)(ha:∀I aK,R I aK->∀l,bf I args l->bf aK Pz l):bC P f args H v H':=by intro I w bs args' cs hv hw hl;have⟨hn,hm⟩:=hm;have⟨lU,k1,k2,k3⟩:=hm I bs w (ct _) hw;have⟨aK,w',g1,g2,g3,g4⟩:=h lU w bs args' cs (ha _ _ k3 _ hv) k1 hl;exact⟨aK,w',g1,k2.1.sZ (g2.mono hn),⟨g3.1,k2.2.rX g3.2⟩,g4⟩
theorem UA:aF Z Q3:=by
 refine wA aj1 λargs H sp p v H' hs hd hp=>?_
 unfold ahl at hs;split at hs
 .cases hs;cases hd;obtain⟨rfl,⟨t,rfl,aN⟩,hb⟩:=hp;rw[A0]at hb;rw[A0];have⟨k,n,s,ts⟩:=t;have h1:=Fj (aj2 (bp (.mk k n s ts)+1)) (w:=([],k,n,s,ts)) ⟨rfl,rfl,aN,kr _,by simpa using hb⟩ rfl;have h2:bC Z 44 [.aM,.aj (bn (.mk k n s ts))] ay (.ad 1 (gC [] (.mk k n s ts)).length 1) (Jh (gC [] (.mk k n s ts))):=by refine aAw h1 (Jd (.au [] 2) rfl) (λI aK hR l hl=>?_);subst hR;obtain⟨x,l',rfl,g1,g2⟩:=hl;exact⟨x,l',rfl,r9 g1,g2⟩
  exact kJ h2 (by rfl) (by rfl)
 .cases hs
mutual
theorem aOj:∀(l:LI) (t:ax),ik t=true->gC l t=nC l t
 |l,.mk k n s ts,h=>by
  simp only[ik,cT]at h;rw[gC,nC];by_cases hk:k=0
  .have DC:ts=[]:=by have:=h.1;rw[BG,aP hk]at this;have:=cP this;exact mE this.2.2.2
   subst DC;rw[aP hk,IX,v_];by_cases hm:n∈l
   .rw[aP hm,aw (λx=>by have:=(XJ l n 0 (by decide)).2 hm;omega)]
   .rw[aw hm,aP ⟨hk,by have:=mt (XJ l n 0 (by decide)).1 hm;omega⟩]
  .rw[aw (λx=>hk x.1),aw hk];exact au4 l ts h.2
theorem au4:∀(l:LI) (ts:dF),pS ts=true->v_ l ts=uT l ts
 |l,[],_=>by rw[v_,uT]
 |l,t::ts,h=>by simp only[pS,cT]at h;rw[v_,uT,aOj l t h.1,au4 _ ts h.2]
end
end
end Go.Cl
