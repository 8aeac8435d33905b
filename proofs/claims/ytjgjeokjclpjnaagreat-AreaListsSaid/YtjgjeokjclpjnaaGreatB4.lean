/- Part of a proof of AreaLists. -/
import Derived.Test.YtjgjeokjclpjnaaGreatB3
set_option linter.all false
set_option linter.unusedSectionVars false
set_option maxRecDepth 100000
namespace Go.Cl
open Go.Ev Go.Proofs
noncomputable section
def roX:cx (List (Int×fw)×LI×LI×LI×LI)where
 bn w A H:=A=[.ai 0 (w.2.1++w.2.2.1++w.2.2.2.1++w.2.2.2.2).length 1,J (w.2.1.length:Int),J ((w.2.1++w.2.2.1).length:Int),J ((w.2.1++w.2.2.1++w.2.2.2.1).length:Int),cF]/\H=hS w.1 (w.2.1++w.2.2.1++w.2.2.2.1++w.2.2.2.2)/\(w.2.1++w.2.2.1++w.2.2.2.1++w.2.2.2.2).length<1200000/\0<w.2.2.1.length/\0<w.2.2.2.1.length
 v w:=.aC []
 aK w:=hS w.1 (w.2.1++w.2.2.2.1++w.2.2.1++w.2.2.2.2)
theorem awa:roX.cr:=by
 rintro⟨sp,U,X,Y,W⟩ ⟨AF,U',X',Y',W'⟩ A H ⟨h1,h2,_⟩ ⟨k1,k2,_⟩;obtain⟨rfl,e⟩:=Eo (h2.symm.trans k2);rw[h1]at k1;simp only[jn,AV.bU.injEq,AV.ai.injEq,true_and,and_true]at k1 e;have e1:U.length=U'.length:=by omega
 have e2:(U++X).length=(U'++X').length:=by omega
 have e3:(U++X++Y).length=(U'++X'++Y').length:=by omega
 obtain⟨e4,rfl⟩:=l4 e e3;obtain⟨e5,rfl⟩:=l4 e4 e2;obtain⟨rfl,rfl⟩:=l4 e5 e1;rfl
def Vg:Ev.bo:=bR 183 (ca roX awa cD) OE
abbrev abt x0 x1 x2 x3:=aB [(0,.ai 0 x0 1),(2,J x1),(4,.ba (.func 123) [] [.aa 1 0]),(10,J x2),(11,J x3)]
abbrev Ej x0 x1:=al [(0,bK x0 2),(1,.aj [.aA 2] 193),(2,gw x1)] 3
theorem axo{sp l a m b L Q}:
 bI Z OE (λ_=>[0,2,4,10,11]) L Q 1000 183 [.ai 0 l.length 1,J a,J m,J b,cF] (hS sp l)=(
 L (abt l.length m (wI (m-a)) (wI (b-m))) (Ej l sp) (aw Z 183 0)):=by kernel_rfl
theorem axp{sp l m i j L Q}:
 ck Z OE (λ_=>[0,2,4,10,11]) L Q 1000 183 3 (aB [(0,.ai 0 l.length 1),(2,J m),(4,cF),(10,J i),(11,J j)]) (aw Z 183 0) (hS sp l)=(
 aq (i !=j) (aq (decide (i>j)) (∃w:List (Int×fw)×LI×LI×LI×LI×LI,(([.ai 0 l.length 1,J (wI (m-i)),J m,J j,.ba (.func 123) [] [.aa 1 0]]:LV)=[.ai 0 (w.2.1++w.2.2.1++w.2.2.2.1++w.2.2.2.2.1++w.2.2.2.2.2).length 1,J ((w.2.1.length:Nat):Int),J (((w.2.1++w.2.2.1++w.2.2.2.1).length:Nat):Int),J ((w.2.2.1.length:Nat):Int),.ba (.func 123) [] [.aa 1 0]]/\Ej l sp=hS w.1 (w.2.1++w.2.2.1++w.2.2.2.1++w.2.2.2.2.1++w.2.2.2.2.2)/\(w.2.1++w.2.2.1++w.2.2.2.1++w.2.2.2.2.1++w.2.2.2.2.2).length<1200000/\w.2.2.1.length=w.2.2.2.2.1.length)/\L (abt l.length m (wI (i-j)) j) (Ej (w.2.1++w.2.2.2.2.1++w.2.2.2.1++w.2.2.1++w.2.2.2.2.2) w.1) (aw Z 183 0)) (∃w:List (Int×fw)×LI×LI×LI×LI×LI,(([.ai 0 l.length 1,J (wI (m-i)),J (wI (wI (m+j)-i)),J i,.ba (.func 123) [] [.aa 1 0]]:LV)=[.ai 0 (w.2.1++w.2.2.1++w.2.2.2.1++w.2.2.2.2.1++w.2.2.2.2.2).length 1,J ((w.2.1.length:Nat):Int),J (((w.2.1++w.2.2.1++w.2.2.2.1).length:Nat):Int),J ((w.2.2.1.length:Nat):Int),.ba (.func 123) [] [.aa 1 0]]/\Ej l sp=hS w.1 (w.2.1++w.2.2.1++w.2.2.2.1++w.2.2.2.2.1++w.2.2.2.2.2)/\(w.2.1++w.2.2.1++w.2.2.2.1++w.2.2.2.2.1++w.2.2.2.2.2).length<1200000/\w.2.2.1.length=w.2.2.2.2.1.length)/\L (abt l.length m i (wI (j-i))) (Ej (w.2.1++w.2.2.2.2.1++w.2.2.2.1++w.2.2.1++w.2.2.2.2.2) w.1) (aw Z 183 0))) (∃w:List (Int×fw)×LI×LI×LI×LI×LI,(([.ai 0 l.length 1,J (wI (m-i)),J m,J i,.ba (.func 123) [] [.aa 1 0]]:LV)=[.ai 0 (w.2.1++w.2.2.1++w.2.2.2.1++w.2.2.2.2.1++w.2.2.2.2.2).length 1,J ((w.2.1.length:Nat):Int),J (((w.2.1++w.2.2.1++w.2.2.2.1).length:Nat):Int),J ((w.2.2.1.length:Nat):Int),.ba (.func 123) [] [.aa 1 0]]/\Ej l sp=hS w.1 (w.2.1++w.2.2.1++w.2.2.2.1++w.2.2.2.2.1++w.2.2.2.2.2)/\(w.2.1++w.2.2.1++w.2.2.2.1++w.2.2.2.2.1++w.2.2.2.2.2).length<1200000/\w.2.2.1.length=w.2.2.2.2.1.length)/\Q (.aC []) (Ej (w.2.1++w.2.2.2.2.1++w.2.2.2.1++w.2.2.1++w.2.2.2.2.2) w.1))):=by kernel_rfl
theorem Vy{l:LI}{n}(h:n<=l.length):∃a b,l=a++b/\a.length=n:=⟨l.take n,l.drop n,(xg n l).symm,by simp;omega⟩
theorem axn{sp aH m len}(bS:len<1200000):
 ∀k:LI×LI×LI×LI×LI,(k.2.2.2.2=k.1++k.2.1++k.2.2.1++k.2.2.2.1/\k.1++k.2.2.1++k.2.1++k.2.2.2.1=aH/\(k.1++k.2.1).length=m/\0<k.2.1.length/\0<k.2.2.1.length/\k.2.2.2.2.length=len)->
 br Z 183 58 3 (.aC []) (hS sp aH) (aB [(0,.ai 0 len 1),(2,J (m:Int)),(4,cF),(10,J (k.2.1.length:Int)),(11,J (k.2.2.1.length:Int))]) (hS sp k.2.2.2.2) (aw Z 183 0):=by
 refine dS (λk=>k.2.1.length+k.2.2.1.length) _ _ _ _ ?_;rintro⟨U,X,Y,W,l⟩ ⟨hl,hf,hm,hX,hY,fc⟩ ih;simp only at hl hf hm hX hY fc ih⊢;have hn:U.length+X.length+Y.length+W.length=len:=by rw[<-fc,hl];simp only[cI]
 simp only[cI]at hm;rw[<-fc];refine hD Vf 1000 (λ_=>[0,2,4,10,11]) (by kernel_rfl) ?_;rw[axp];have ha:wI ((m:Int)-(X.length:Int))=(U.length:Int):=by rw[cO]<;>omega
 refine aD.2 ⟨λh=>aD.2 ⟨λh2=>?_,λh2=>?_⟩,λh=>?_⟩
 .have h2:Y.length<X.length:=by have:=dQ h2;omega
  obtain⟨Xa,Xb,rfl,XI⟩:=Vy (l:=X) (n:=Y.length) (by omega);simp only[cI]at hm hX hn h2 ha;have hi:wI (((Xa++Xb).length:Int)-(Y.length:Int))=(Xb.length:Int):=by rw[cO]<;>(try simp only[cI])<;>omega
  refine⟨(sp,U,Xa,Xb,Y,W),⟨?_,?_,?_,XI⟩,?_⟩
  .simp only[cI]at ha⊢;rw[ha,hl];simp only[cI,XI];congr 1
   .congr 1;omega
   .congr 2;congr 2;omega
  .have e:l=U++Xa++Xb++Y++W:=by rw[hl];simp
   simp only;rw[<-e];rfl
  .simp only[cI];omega
  .rw[hi];have:=ih (U++Y,Xb,Xa,W,U++Y++Xb++Xa++W) ⟨rfl,by rw[<-hf];simp,by simp only[cI];omega,by simp only;omega,by simp only;omega,by simp only[cI];omega⟩ (by simp only[cI];omega);simp only[XI]at this;rw[fc];exact this
 .have h2:¬Y.length<X.length:=by have:=ez h2;omega
  have h:X.length≠Y.length:=by intro he;rw[he]at h;simp at h
  obtain⟨Ya,Yb,rfl,hYa⟩:=Vy (l:=Y) (n:=Y.length-X.length) (by omega);simp only[cI]at hm hY hn h2 h hYa;have hi:wI (((Ya++Yb).length:Int)-(X.length:Int))=(Ya.length:Int):=by rw[cO]<;>(try simp only[cI])<;>omega
  have hb:wI (wI ((m:Int)+((Ya++Yb).length:Int))-(X.length:Int))=(((U++X++Ya).length:Nat):Int):=by rw[cO (x:=(m:Int)+((Ya++Yb).length:Int)),cO]<;>(try simp only[cI])<;>omega
  refine⟨(sp,U,X,Ya,Yb,W),⟨?_,?_,?_,?_⟩,?_⟩
  .rw[ha,hb,hl];simp only[j7]
  .have e:l=U++X++Ya++Yb++W:=by rw[hl];simp
   simp only;rw[<-e];rfl
  .simp only[cI];omega
  .simp only;omega
  .rw[hi];have:=ih (U,Yb,Ya,X++W,U++Yb++Ya++X++W) ⟨by simp,by rw[<-hf];simp,by simp only[cI];omega,by simp only;omega,by simp only;omega,by simp;omega⟩ (by simp;omega);have e:X.length=Yb.length:=by omega
   rw[fc,e];exact this
 .have h:X.length=Y.length:=by
   have h:(X.length:Int)=(Y.length:Int):=by simpa using h
   omega
  refine⟨(sp,U,X,[],Y,W),⟨?_,?_,?_,h⟩,?_⟩
  .rw[ha,hl];simp;congr 3;congr 1;omega
  .have e:l=U++X++[]++Y++W:=by rw[hl];simp
   rw[<-e];rfl
  .simp;omega
  .simp only[jm];rw[hf];exact⟨rfl,rfl⟩
theorem ads:aU Z Vg:=by
 refine cA Vf ?_;rintro⟨sp,U,X,Y,W⟩ args H ⟨rfl,rfl,hn,hX,hY⟩;have hn:=hn;refine eS Vf 1000 (λ_=>[0,2,4,10,11]) 58 (by kernel_rfl) ?_;rw[axo];have h1:wI (((U++X).length:Int)-(U.length:Int))=(X.length:Int):=by simp at hn⊢;rw[cO]<;>omega
 have h2:wI (((U++X++Y).length:Int)-((U++X).length:Int))=(Y.length:Int):=by simp at hn⊢;rw[cO]<;>omega
 rw[h1,h2];exact axn hn (U,X,Y,W,U++X++Y++W) ⟨rfl,rfl,rfl,hX,hY,rfl⟩
end
end Go.Cl
namespace Go.Cl
open Go.Ev
noncomputable section
theorem A7{key l}(h:dL key l){i j}(Lx:i<=j)(hj:j<l.length):key (l.getD j 0)<=key (l.getD i 0):=by
 have hi:i<l.length:=by omega
 simp only[List.getD,ir hj,ir hi,Sh];rcases Nat.eq_or_lt_of_le Lx with rfl|ax
 .exact Aw _
 .exact List.pairwise_iff_getElem.1 h i j hi hj ax
theorem P6{A B:LI}{i}(h:i<A.length):(A++B).getD i 0=A.getD i 0:=by simp[List.getD,List.getElem?_append_left h]
theorem P7{A B:LI}{i}:(A++B).getD (A.length+i) 0=B.getD i 0:=by simp;rw[MQ (by omega)];congr 2;omega
theorem Cf{l:LI}{x}(h:x∈l):∃i,i<l.length/\x=l.getD i 0:=by obtain⟨i,hi,rfl⟩:=List.mem_iff_getElem.1 h;exact⟨i,hi,by simp[List.getD,ir hi]⟩
theorem Pf{key A B}(h:dL key (A++B)):dL key A/\dL key B:=⟨(xj.1 h).1,(xj.1 h).2.1⟩
theorem aur{key X Y}(hX:dL key X)(hY:dL key Y){i j}(hi:i<=X.length)(hj:j<=Y.length)(nX:i=0\/j=Y.length\/¬key (X.getD (i-1) 0)<key (Y.getD j 0))(pQ:i=X.length\/j=0\/key (X.getD i 0)<key (Y.getD (j-1) 0)):
 ∃A B C D,X=A++B/\Y=C++D/\A.length=i/\C.length=j/\cC key (X++Y)=cC key (A++C)++cC key (B++D)/\dL key A/\dL key B/\dL key C/\dL key D:=by
 refine⟨X.take i,X.drop i,Y.take j,Y.drop j,(xg i X).symm,(xg j Y).symm,by simp;omega,by simp;omega,?_⟩;have eX:=xg i X;have eY:=xg j Y;have XG:dL key (X.take i++X.drop i):=by rw[eX];exact hX
 have XJ:dL key (Y.take j++Y.drop j):=by rw[eY];exact hY
 refine⟨?_,(Pf XG).1,(Pf XG).2,(Pf XJ).1,(Pf XJ).2⟩;have:=aBV XG XJ ?_ ?_
 .rw[eX,eY]at this;exact this
 .intro x hx y hy;obtain⟨a,ha,rfl⟩:=Cf hx;obtain⟨b,hb,rfl⟩:=Cf hy;simp at ha;simp at hb;have e1:(X.drop i).getD a 0=X.getD (i+a) 0:=by simp[List.getD]
  have e2:(Y.take j).getD b 0=Y.getD b 0:=by simp only[List.getD,Ft,aO (show b<j by omega)]
  rw[e1,e2];rcases pQ with h|h|h
  .omega
  .omega
  .have h1:=A7 hX (i:=i) (j:=i+a) (by omega) (by omega);have h2:=A7 hY (i:=b) (j:=j-1) (by omega) (by omega);omega
 .intro x hx y hy;obtain⟨a,ha,rfl⟩:=Cf hx;obtain⟨b,hb,rfl⟩:=Cf hy;simp at ha;simp at hb;have e1:(X.take i).getD a 0=X.getD a 0:=by simp only[List.getD,Ft,aO (show a<i by omega)]
  have e2:(Y.drop j).getD b 0=Y.getD (j+b) 0:=by simp[List.getD]
  rw[e1,e2];rcases nX with h|h|h
  .omega
  .omega
  .have h1:=A7 hX (i:=a) (j:=i-1) (by omega) (by omega);have h2:=A7 hY (i:=j) (j:=j+b) (by omega) (by omega);omega
theorem aps{key x Y}(hY:dL key Y){j}(hj:j<=Y.length)(nX:j=0\/key x<key (Y.getD (j-1) 0))(pQ:j=Y.length\/¬key x<key (Y.getD j 0)):
 ∃P R,Y=P++R/\P.length=j/\cC key (x::Y)=P++x::R:=by
 have eY:=xg j Y;refine⟨Y.take j,Y.drop j,eY.symm,by simp;omega,?_⟩;have:=aBU (x:=x) (by rw[eY];exact hY) ?_ ?_
 .rw[eY]at this;exact this
 .intro y hy;obtain⟨b,hb,rfl⟩:=Cf hy;simp at hb;have e2:(Y.take j).getD b 0=Y.getD b 0:=by simp only[List.getD,Ft,aO (show b<j by omega)]
  rw[e2];rcases nX with h|h
  .omega
  .have h2:=A7 hY (i:=b) (j:=j-1) (by omega) (by omega);omega
 .intro y hy;obtain⟨b,hb,rfl⟩:=Cf hy;simp at hb;have e2:(Y.drop j).getD b 0=Y.getD (j+b) 0:=by simp[List.getD]
  rw[e2];rcases pQ with h|h
  .omega
  .have h2:=A7 hY (i:=j) (j:=j+b) (by omega) (by omega);omega
theorem apt{key y X}(hX:dL key X){i}(hi:i<=X.length)(nX:i=0\/¬key (X.getD (i-1) 0)<key y)(pQ:i=X.length\/key (X.getD i 0)<key y):
 ∃P R,X=P++R/\P.length=i/\cC key (X++[y])=P++y::R:=by
 have eX:=xg i X;refine⟨X.take i,X.drop i,eX.symm,by simp;omega,?_⟩;refine alU (by rw[Nc hX,eX]) ?_ ?_
 .intro x hx;obtain⟨a,ha,rfl⟩:=Cf hx;simp at ha;have e1:(X.drop i).getD a 0=X.getD (i+a) 0:=by simp[List.getD]
  rw[e1];rcases pQ with h|h
  .omega
  .have h1:=A7 hX (i:=i) (j:=i+a) (by omega) (by omega);omega
 .intro x hx;obtain⟨a,ha,rfl⟩:=Cf hx;simp at ha;have e1:(X.take i).getD a 0=X.getD a 0:=by simp only[List.getD,Ft,aO (show a<i by omega)]
  rw[e1];rcases nX with h|h
  .omega
  .have h1:=A7 hX (i:=a) (j:=i-1) (by omega) (by omega);omega
end
end Go.Cl
namespace Go.Cl
open Go.Ev Go.Proofs
noncomputable section
def Nh(N:Nat):cx (List (Int×fw)×LI×LI×LI×LI)where
 bn w A H:=A=[.ai 0 (w.2.1++w.2.2.1++w.2.2.2.1++w.2.2.2.2).length 1,J (w.2.1.length:Int),J ((w.2.1++w.2.2.1).length:Int),J ((w.2.1++w.2.2.1++w.2.2.2.1).length:Int),cF]/\H=hS w.1 (w.2.1++w.2.2.1++w.2.2.2.1++w.2.2.2.2)/\(w.2.1++w.2.2.1++w.2.2.2.1++w.2.2.2.2).length<1200000/\0<w.2.2.1.length/\0<w.2.2.2.1.length/\
  dL (kS w.1) w.2.2.1/\dL (kS w.1) w.2.2.2.1/\w.2.2.1.length+w.2.2.2.1.length<N
 v w:=.aC []
 aK w:=hS w.1 (w.2.1++cC (kS w.1) (w.2.2.1++w.2.2.2.1)++w.2.2.2.2)
theorem aCi(N):(Nh N).cr:=by
 rintro⟨sp,U,X,Y,W⟩ ⟨AF,U',X',Y',W'⟩ A H ⟨h1,h2,_⟩ ⟨k1,k2,_⟩;obtain⟨rfl,e⟩:=Eo (h2.symm.trans k2);rw[h1]at k1;simp only[jn,AV.bU.injEq,AV.ai.injEq,true_and,and_true]at k1 e;have e1:U.length=U'.length:=by omega
 have e2:(U++X).length=(U'++X').length:=by omega
 have e3:(U++X++Y).length=(U'++X'++Y').length:=by omega
 obtain⟨e4,rfl⟩:=l4 e e3;obtain⟨e5,rfl⟩:=l4 e4 e2;obtain⟨rfl,rfl⟩:=l4 e5 e1;rfl
def tG(N:Nat):Ev.bo:=bR 171 (ca (Nh N) (aCi N) cD) Vg
def Fb:Nat->LN:=fT [(3,[0,1,4,10,11]),(9,[0,10,13]),(15,[0,2,4,14,15]),(21,[0,14,17]),(33,[0,1,2,3,4,18,19,20,21,22])]
abbrev abu x0 x1 x2 x3:=aB [(0,.ai 0 x0 1),(1,J x1),(4,.ba (.func 123) [] [.aa 1 0]),(10,J x2),(11,J x3)]
abbrev abv x0 x1 x2 x3:=aB [(0,.ai 0 x0 1),(2,J x1),(4,.ba (.func 123) [] [.aa 1 0]),(14,J x2),(15,J x3)]
abbrev SY x0 x1 x2 x3 x4 x5 x6 x7 x8:=aB [(0,.ai 0 x0 1),(1,J x1),(2,J x2),(3,J x3),(4,.ba (.func 123) [] [.aa 1 0]),(18,J x4),(19,J x5),(20,J x6),(21,J x7),(22,J x8)]
abbrev fh x0 x1:=al [(0,bK x0 2),(1,.aj [.aA 2] 193),(2,gw x1)] 3
theorem aw5{sp l a m b N L Q}:
 bI Z (tG N) Fb L Q 2000 171 [.ai 0 l.length 1,J a,J m,J b,cF] (hS sp l)=(
 aq (wI (m-a)==1) (L (abu l.length a m b) (fh l sp) (aw Z 171 0)) (aq (wI (b-m)==1) (L (abv l.length m a m) (fh l sp) (aw Z 171 2)) (aq (decide (m>wI (Int.fdiv (IntKind.u64.wrap (wI (a+b))) 2))) (L (SY l.length a m b (wI (Int.fdiv (IntKind.u64.wrap (wI (a+b))) 2)) (wI (wI (Int.fdiv (IntKind.u64.wrap (wI (a+b))) 2)+m)) (wI (wI (wI (Int.fdiv (IntKind.u64.wrap (wI (a+b))) 2)+m)-b)) (wI (Int.fdiv (IntKind.u64.wrap (wI (a+b))) 2)) (wI (wI (wI (Int.fdiv (IntKind.u64.wrap (wI (a+b))) 2)+m)-1))) (fh l sp) (aw Z 171 4)) (L (SY l.length a m b (wI (Int.fdiv (IntKind.u64.wrap (wI (a+b))) 2)) (wI (wI (Int.fdiv (IntKind.u64.wrap (wI (a+b))) 2)+m)) a m (wI (wI (wI (Int.fdiv (IntKind.u64.wrap (wI (a+b))) 2)+m)-1))) (fh l sp) (aw Z 171 4))))):=by kernel_rfl
theorem awW{sp l a i j N L Q}:
 ck Z (tG N) Fb L Q 2000 171 3 (aB [(0,.ai 0 l.length 1),(1,J a),(4,cF),(10,J i),(11,J j)]) (aw Z 171 0) (hS sp l)=(
 aq (decide (i<j)) (∃aL:Nat,wI (Int.fdiv (IntKind.u64.wrap (wI (i+j))) 2)=(aL:Int)/\aL<l.length/\(∃n,cw Z 2 (aX l) (aL*1)=some (J n:AV)/\(∃cG:Nat,a=(cG:Int)/\cG<l.length/\(∃aP,cw Z 2 (aX l) (cG*1)=some (J aP:AV)/\(∃w:List (Int×fw)×Int×Int,(([J n,J aP,.aa 0 0]:LV)=[J w.2.1,J w.2.2,.aa 0 0]/\sL sp=sL w.1)/\aq (decide (qQ (kS w.1 w.2.2) (kS w.1 w.2.1)<0)) (L (abu l.length a (wI (wI (Int.fdiv (IntKind.u64.wrap (wI (i+j))) 2)+1)) j) (fh l w.1) (aw Z 171 0)) (L (abu l.length a i (wI (Int.fdiv (IntKind.u64.wrap (wI (i+j))) 2))) (fh l w.1) (aw Z 171 0))))))) (L (aB [(0,.ai 0 l.length 1),(10,J i),(13,J a)]) (fh l sp) (aw Z 171 1))):=by kernel_rfl
theorem awY{sp l i k N L Q}:
 ck Z (tG N) Fb L Q 2000 171 3 (aB [(0,.ai 0 l.length 1),(10,J i),(13,J k)]) (aw Z 171 1) (hS sp l)=(
 aq (decide (k<wI (i-1))) (∃aL:Nat,wI (k+1)=(aL:Int)/\aL<l.length/\(∃n,cw Z 2 (aX l) (aL*1)=some (J n:AV)/\(∃cG:Nat,k=(cG:Int)/\cG<l.length/\(∃aP,cw Z 2 (aX l) (cG*1)=some (J aP:AV)/\(∃dO:Nat,k=(dO:Int)/\dO<l.length/\dO*1+1<=(aX l).length/\(∃f_:Nat,wI (k+1)=(f_:Int)/\f_<l.length/\f_*1+1<=(gg (aX l) (dO*1) [J n]).length/\L (aB [(0,.ai 0 l.length 1),(10,J i),(13,J (wI (k+1)))]) (al [(0,.ay (gg (gg (aX l) (dO*1) [J n]) (f_*1) [J aP]) 2),(1,.aj [.aA 2] 193),(2,gw sp)] 3) (aw Z 171 1))))))) (Q (.aC []) (fh l sp))):=by kernel_rfl
theorem aw0{sp l m i j N L Q}:
 ck Z (tG N) Fb L Q 2000 171 3 (aB [(0,.ai 0 l.length 1),(2,J m),(4,cF),(14,J i),(15,J j)]) (aw Z 171 2) (hS sp l)=(
 aq (decide (i<j)) (∃aL:Nat,m=(aL:Int)/\aL<l.length/\(∃n,cw Z 2 (aX l) (aL*1)=some (J n:AV)/\(∃cG:Nat,wI (Int.fdiv (IntKind.u64.wrap (wI (i+j))) 2)=(cG:Int)/\cG<l.length/\(∃aP,cw Z 2 (aX l) (cG*1)=some (J aP:AV)/\(∃w:List (Int×fw)×Int×Int,(([J n,J aP,.aa 0 0]:LV)=[J w.2.1,J w.2.2,.aa 0 0]/\sL sp=sL w.1)/\aq (!decide (qQ (kS w.1 w.2.2) (kS w.1 w.2.1)<0)) (L (abv l.length m (wI (wI (Int.fdiv (IntKind.u64.wrap (wI (i+j))) 2)+1)) j) (fh l w.1) (aw Z 171 2)) (L (abv l.length m i (wI (Int.fdiv (IntKind.u64.wrap (wI (i+j))) 2))) (fh l w.1) (aw Z 171 2))))))) (L (aB [(0,.ai 0 l.length 1),(14,J i),(17,J m)]) (fh l sp) (aw Z 171 3))):=by kernel_rfl
theorem aw2{sp l i k N L Q}:
 ck Z (tG N) Fb L Q 2000 171 3 (aB [(0,.ai 0 l.length 1),(14,J i),(17,J k)]) (aw Z 171 3) (hS sp l)=(
 aq (decide (k>i)) (∃aL:Nat,wI (k-1)=(aL:Int)/\aL<l.length/\(∃n,cw Z 2 (aX l) (aL*1)=some (J n:AV)/\(∃cG:Nat,k=(cG:Int)/\cG<l.length/\(∃aP,cw Z 2 (aX l) (cG*1)=some (J aP:AV)/\(∃dO:Nat,k=(dO:Int)/\dO<l.length/\dO*1+1<=(aX l).length/\(∃f_:Nat,wI (k-1)=(f_:Int)/\f_<l.length/\f_*1+1<=(gg (aX l) (dO*1) [J n]).length/\L (aB [(0,.ai 0 l.length 1),(14,J i),(17,J (wI (k-1)))]) (al [(0,.ay (gg (gg (aX l) (dO*1) [J n]) (f_*1) [J aP]) 2),(1,.aj [.aA 2] 193),(2,gw sp)] 3) (aw Z 171 3))))))) (Q (.aC []) (fh l sp))):=by kernel_rfl
theorem aw4{sp l a m b eM n s r p N L Q}:
 ck Z (tG N) Fb L Q 2000 171 3 (aB [(0,.ai 0 l.length 1),(1,J a),(2,J m),(3,J b),(4,cF),(18,J eM),(19,J n),(20,J s),(21,J r),(22,J p)]) (aw Z 171 4) (hS sp l)=(
 aq (decide (s<r)) (∃i:Nat,wI (p-wI (Int.fdiv (IntKind.u64.wrap (wI (s+r))) 2))=(i:Int)/\i<l.length/\(∃aP,cw Z 2 (aX l) (i*1)=some (J aP:AV)/\(∃aL:Nat,wI (Int.fdiv (IntKind.u64.wrap (wI (s+r))) 2)=(aL:Int)/\aL<l.length/\(∃bA,cw Z 2 (aX l) (aL*1)=some (J bA:AV)/\(∃w:List (Int×fw)×Int×Int,(([J aP,J bA,.aa 0 0]:LV)=[J w.2.1,J w.2.2,.aa 0 0]/\sL sp=sL w.1)/\aq (!decide (qQ (kS w.1 w.2.2) (kS w.1 w.2.1)<0)) (L (SY l.length a m b eM n (wI (wI (Int.fdiv (IntKind.u64.wrap (wI (s+r))) 2)+1)) r p) (fh l w.1) (aw Z 171 4)) (L (SY l.length a m b eM n s (wI (Int.fdiv (IntKind.u64.wrap (wI (s+r))) 2)) p) (fh l w.1) (aw Z 171 4))))))) (aq (decide (s<m)) (aq (decide (m<wI (n-s))) (∃w:List (Int×fw)×LI×LI×LI×LI,(([.ai 0 l.length 1,J s,J m,J (wI (n-s)),.ba (.func 123) [] [.aa 1 0]]:LV)=[.ai 0 (w.2.1++w.2.2.1++w.2.2.2.1++w.2.2.2.2).length 1,J ((w.2.1.length:Nat):Int),J (((w.2.1++w.2.2.1).length:Nat):Int),J (((w.2.1++w.2.2.1++w.2.2.2.1).length:Nat):Int),.ba (.func 123) [] [.aa 1 0]]/\fh l sp=hS w.1 (w.2.1++w.2.2.1++w.2.2.2.1++w.2.2.2.2)/\(w.2.1++w.2.2.1++w.2.2.2.1++w.2.2.2.2).length<1200000/\0<w.2.2.1.length/\0<w.2.2.2.1.length)/\aq (decide (a<s)) (aq (decide (s<eM)) (∃ae:List (Int×fw)×LI×LI×LI×LI,(([.ai 0 l.length 1,J a,J s,J eM,.ba (.func 123) [] [.aa 1 0]]:LV)=[.ai 0 (ae.2.1++ae.2.2.1++ae.2.2.2.1++ae.2.2.2.2).length 1,J ((ae.2.1.length:Nat):Int),J (((ae.2.1++ae.2.2.1).length:Nat):Int),J (((ae.2.1++ae.2.2.1++ae.2.2.2.1).length:Nat):Int),.ba (.func 123) [] [.aa 1 0]]/\fh (w.2.1++w.2.2.2.1++w.2.2.1++w.2.2.2.2) w.1=hS ae.1 (ae.2.1++ae.2.2.1++ae.2.2.2.1++ae.2.2.2.2)/\(ae.2.1++ae.2.2.1++ae.2.2.2.1++ae.2.2.2.2).length<1200000/\0<ae.2.2.1.length/\0<ae.2.2.2.1.length/\dL (kS ae.1) ae.2.2.1/\dL (kS ae.1) ae.2.2.2.1/\ae.2.2.1.length+ae.2.2.2.1.length<N)/\aq (decide (eM<wI (n-s))) (aq (decide (wI (n-s)<b)) (∃aS:List (Int×fw)×LI×LI×LI×LI,(([.ai 0 l.length 1,J eM,J (wI (n-s)),J b,.ba (.func 123) [] [.aa 1 0]]:LV)=[.ai 0 (aS.2.1++aS.2.2.1++aS.2.2.2.1++aS.2.2.2.2).length 1,J ((aS.2.1.length:Nat):Int),J (((aS.2.1++aS.2.2.1).length:Nat):Int),J (((aS.2.1++aS.2.2.1++aS.2.2.2.1).length:Nat):Int),.ba (.func 123) [] [.aa 1 0]]/\fh (ae.2.1++cC (kS ae.1) (ae.2.2.1++ae.2.2.2.1)++ae.2.2.2.2) ae.1=hS aS.1 (aS.2.1++aS.2.2.1++aS.2.2.2.1++aS.2.2.2.2)/\(aS.2.1++aS.2.2.1++aS.2.2.2.1++aS.2.2.2.2).length<1200000/\0<aS.2.2.1.length/\0<aS.2.2.2.1.length/\dL (kS aS.1) aS.2.2.1/\dL (kS aS.1) aS.2.2.2.1/\aS.2.2.1.length+aS.2.2.2.1.length<N)/\Q (.aC []) (fh (aS.2.1++cC (kS aS.1) (aS.2.2.1++aS.2.2.2.1)++aS.2.2.2.2) aS.1)) (Q (.aC []) (fh (ae.2.1++cC (kS ae.1) (ae.2.2.1++ae.2.2.2.1)++ae.2.2.2.2) ae.1))) (Q (.aC []) (fh (ae.2.1++cC (kS ae.1) (ae.2.2.1++ae.2.2.2.1)++ae.2.2.2.2) ae.1))) (aq (decide (eM<wI (n-s))) (aq (decide (wI (n-s)<b)) (∃ae:List (Int×fw)×LI×LI×LI×LI,(([.ai 0 l.length 1,J eM,J (wI (n-s)),J b,.ba (.func 123) [] [.aa 1 0]]:LV)=[.ai 0 (ae.2.1++ae.2.2.1++ae.2.2.2.1++ae.2.2.2.2).length 1,J ((ae.2.1.length:Nat):Int),J (((ae.2.1++ae.2.2.1).length:Nat):Int),J (((ae.2.1++ae.2.2.1++ae.2.2.2.1).length:Nat):Int),.ba (.func 123) [] [.aa 1 0]]/\fh (w.2.1++w.2.2.2.1++w.2.2.1++w.2.2.2.2) w.1=hS ae.1 (ae.2.1++ae.2.2.1++ae.2.2.2.1++ae.2.2.2.2)/\(ae.2.1++ae.2.2.1++ae.2.2.2.1++ae.2.2.2.2).length<1200000/\0<ae.2.2.1.length/\0<ae.2.2.2.1.length/\dL (kS ae.1) ae.2.2.1/\dL (kS ae.1) ae.2.2.2.1/\ae.2.2.1.length+ae.2.2.2.1.length<N)/\Q (.aC []) (fh (ae.2.1++cC (kS ae.1) (ae.2.2.1++ae.2.2.2.1)++ae.2.2.2.2) ae.1)) (Q (.aC []) (fh (w.2.1++w.2.2.2.1++w.2.2.1++w.2.2.2.2) w.1))) (Q (.aC []) (fh (w.2.1++w.2.2.2.1++w.2.2.1++w.2.2.2.2) w.1)))) (aq (decide (eM<wI (n-s))) (aq (decide (wI (n-s)<b)) (∃ae:List (Int×fw)×LI×LI×LI×LI,(([.ai 0 l.length 1,J eM,J (wI (n-s)),J b,.ba (.func 123) [] [.aa 1 0]]:LV)=[.ai 0 (ae.2.1++ae.2.2.1++ae.2.2.2.1++ae.2.2.2.2).length 1,J ((ae.2.1.length:Nat):Int),J (((ae.2.1++ae.2.2.1).length:Nat):Int),J (((ae.2.1++ae.2.2.1++ae.2.2.2.1).length:Nat):Int),.ba (.func 123) [] [.aa 1 0]]/\fh (w.2.1++w.2.2.2.1++w.2.2.1++w.2.2.2.2) w.1=hS ae.1 (ae.2.1++ae.2.2.1++ae.2.2.2.1++ae.2.2.2.2)/\(ae.2.1++ae.2.2.1++ae.2.2.2.1++ae.2.2.2.2).length<1200000/\0<ae.2.2.1.length/\0<ae.2.2.2.1.length/\dL (kS ae.1) ae.2.2.1/\dL (kS ae.1) ae.2.2.2.1/\ae.2.2.1.length+ae.2.2.2.1.length<N)/\Q (.aC []) (fh (ae.2.1++cC (kS ae.1) (ae.2.2.1++ae.2.2.2.1)++ae.2.2.2.2) ae.1)) (Q (.aC []) (fh (w.2.1++w.2.2.2.1++w.2.2.1++w.2.2.2.2) w.1))) (Q (.aC []) (fh (w.2.1++w.2.2.2.1++w.2.2.1++w.2.2.2.2) w.1)))) (aq (decide (a<s)) (aq (decide (s<eM)) (∃w:List (Int×fw)×LI×LI×LI×LI,(([.ai 0 l.length 1,J a,J s,J eM,.ba (.func 123) [] [.aa 1 0]]:LV)=[.ai 0 (w.2.1++w.2.2.1++w.2.2.2.1++w.2.2.2.2).length 1,J ((w.2.1.length:Nat):Int),J (((w.2.1++w.2.2.1).length:Nat):Int),J (((w.2.1++w.2.2.1++w.2.2.2.1).length:Nat):Int),.ba (.func 123) [] [.aa 1 0]]/\fh l sp=hS w.1 (w.2.1++w.2.2.1++w.2.2.2.1++w.2.2.2.2)/\(w.2.1++w.2.2.1++w.2.2.2.1++w.2.2.2.2).length<1200000/\0<w.2.2.1.length/\0<w.2.2.2.1.length/\dL (kS w.1) w.2.2.1/\dL (kS w.1) w.2.2.2.1/\w.2.2.1.length+w.2.2.2.1.length<N)/\aq (decide (eM<wI (n-s))) (aq (decide (wI (n-s)<b)) (∃ae:List (Int×fw)×LI×LI×LI×LI,(([.ai 0 l.length 1,J eM,J (wI (n-s)),J b,.ba (.func 123) [] [.aa 1 0]]:LV)=[.ai 0 (ae.2.1++ae.2.2.1++ae.2.2.2.1++ae.2.2.2.2).length 1,J ((ae.2.1.length:Nat):Int),J (((ae.2.1++ae.2.2.1).length:Nat):Int),J (((ae.2.1++ae.2.2.1++ae.2.2.2.1).length:Nat):Int),.ba (.func 123) [] [.aa 1 0]]/\fh (w.2.1++cC (kS w.1) (w.2.2.1++w.2.2.2.1)++w.2.2.2.2) w.1=hS ae.1 (ae.2.1++ae.2.2.1++ae.2.2.2.1++ae.2.2.2.2)/\(ae.2.1++ae.2.2.1++ae.2.2.2.1++ae.2.2.2.2).length<1200000/\0<ae.2.2.1.length/\0<ae.2.2.2.1.length/\dL (kS ae.1) ae.2.2.1/\dL (kS ae.1) ae.2.2.2.1/\ae.2.2.1.length+ae.2.2.2.1.length<N)/\Q (.aC []) (fh (ae.2.1++cC (kS ae.1) (ae.2.2.1++ae.2.2.2.1)++ae.2.2.2.2) ae.1)) (Q (.aC []) (fh (w.2.1++cC (kS w.1) (w.2.2.1++w.2.2.2.1)++w.2.2.2.2) w.1))) (Q (.aC []) (fh (w.2.1++cC (kS w.1) (w.2.2.1++w.2.2.2.1)++w.2.2.2.2) w.1))) (aq (decide (eM<wI (n-s))) (aq (decide (wI (n-s)<b)) (∃w:List (Int×fw)×LI×LI×LI×LI,(([.ai 0 l.length 1,J eM,J (wI (n-s)),J b,.ba (.func 123) [] [.aa 1 0]]:LV)=[.ai 0 (w.2.1++w.2.2.1++w.2.2.2.1++w.2.2.2.2).length 1,J ((w.2.1.length:Nat):Int),J (((w.2.1++w.2.2.1).length:Nat):Int),J (((w.2.1++w.2.2.1++w.2.2.2.1).length:Nat):Int),.ba (.func 123) [] [.aa 1 0]]/\fh l sp=hS w.1 (w.2.1++w.2.2.1++w.2.2.2.1++w.2.2.2.2)/\(w.2.1++w.2.2.1++w.2.2.2.1++w.2.2.2.2).length<1200000/\0<w.2.2.1.length/\0<w.2.2.2.1.length/\dL (kS w.1) w.2.2.1/\dL (kS w.1) w.2.2.2.1/\w.2.2.1.length+w.2.2.2.1.length<N)/\Q (.aC []) (fh (w.2.1++cC (kS w.1) (w.2.2.1++w.2.2.2.1)++w.2.2.2.2) w.1)) (Q (.aC []) (fh l sp))) (Q (.aC []) (fh l sp)))) (aq (decide (eM<wI (n-s))) (aq (decide (wI (n-s)<b)) (∃w:List (Int×fw)×LI×LI×LI×LI,(([.ai 0 l.length 1,J eM,J (wI (n-s)),J b,.ba (.func 123) [] [.aa 1 0]]:LV)=[.ai 0 (w.2.1++w.2.2.1++w.2.2.2.1++w.2.2.2.2).length 1,J ((w.2.1.length:Nat):Int),J (((w.2.1++w.2.2.1).length:Nat):Int),J (((w.2.1++w.2.2.1++w.2.2.2.1).length:Nat):Int),.ba (.func 123) [] [.aa 1 0]]/\fh l sp=hS w.1 (w.2.1++w.2.2.1++w.2.2.2.1++w.2.2.2.2)/\(w.2.1++w.2.2.1++w.2.2.2.1++w.2.2.2.2).length<1200000/\0<w.2.2.1.length/\0<w.2.2.2.1.length/\dL (kS w.1) w.2.2.1/\dL (kS w.1) w.2.2.2.1/\w.2.2.1.length+w.2.2.2.1.length<N)/\Q (.aC []) (fh (w.2.1++cC (kS w.1) (w.2.2.1++w.2.2.2.1)++w.2.2.2.2) w.1)) (Q (.aC []) (fh l sp))) (Q (.aC []) (fh l sp))))) (aq (decide (a<s)) (aq (decide (s<eM)) (∃w:List (Int×fw)×LI×LI×LI×LI,(([.ai 0 l.length 1,J a,J s,J eM,.ba (.func 123) [] [.aa 1 0]]:LV)=[.ai 0 (w.2.1++w.2.2.1++w.2.2.2.1++w.2.2.2.2).length 1,J ((w.2.1.length:Nat):Int),J (((w.2.1++w.2.2.1).length:Nat):Int),J (((w.2.1++w.2.2.1++w.2.2.2.1).length:Nat):Int),.ba (.func 123) [] [.aa 1 0]]/\fh l sp=hS w.1 (w.2.1++w.2.2.1++w.2.2.2.1++w.2.2.2.2)/\(w.2.1++w.2.2.1++w.2.2.2.1++w.2.2.2.2).length<1200000/\0<w.2.2.1.length/\0<w.2.2.2.1.length/\dL (kS w.1) w.2.2.1/\dL (kS w.1) w.2.2.2.1/\w.2.2.1.length+w.2.2.2.1.length<N)/\aq (decide (eM<wI (n-s))) (aq (decide (wI (n-s)<b)) (∃ae:List (Int×fw)×LI×LI×LI×LI,(([.ai 0 l.length 1,J eM,J (wI (n-s)),J b,.ba (.func 123) [] [.aa 1 0]]:LV)=[.ai 0 (ae.2.1++ae.2.2.1++ae.2.2.2.1++ae.2.2.2.2).length 1,J ((ae.2.1.length:Nat):Int),J (((ae.2.1++ae.2.2.1).length:Nat):Int),J (((ae.2.1++ae.2.2.1++ae.2.2.2.1).length:Nat):Int),.ba (.func 123) [] [.aa 1 0]]/\fh (w.2.1++cC (kS w.1) (w.2.2.1++w.2.2.2.1)++w.2.2.2.2) w.1=hS ae.1 (ae.2.1++ae.2.2.1++ae.2.2.2.1++ae.2.2.2.2)/\(ae.2.1++ae.2.2.1++ae.2.2.2.1++ae.2.2.2.2).length<1200000/\0<ae.2.2.1.length/\0<ae.2.2.2.1.length/\dL (kS ae.1) ae.2.2.1/\dL (kS ae.1) ae.2.2.2.1/\ae.2.2.1.length+ae.2.2.2.1.length<N)/\Q (.aC []) (fh (ae.2.1++cC (kS ae.1) (ae.2.2.1++ae.2.2.2.1)++ae.2.2.2.2) ae.1)) (Q (.aC []) (fh (w.2.1++cC (kS w.1) (w.2.2.1++w.2.2.2.1)++w.2.2.2.2) w.1))) (Q (.aC []) (fh (w.2.1++cC (kS w.1) (w.2.2.1++w.2.2.2.1)++w.2.2.2.2) w.1))) (aq (decide (eM<wI (n-s))) (aq (decide (wI (n-s)<b)) (∃w:List (Int×fw)×LI×LI×LI×LI,(([.ai 0 l.length 1,J eM,J (wI (n-s)),J b,.ba (.func 123) [] [.aa 1 0]]:LV)=[.ai 0 (w.2.1++w.2.2.1++w.2.2.2.1++w.2.2.2.2).length 1,J ((w.2.1.length:Nat):Int),J (((w.2.1++w.2.2.1).length:Nat):Int),J (((w.2.1++w.2.2.1++w.2.2.2.1).length:Nat):Int),.ba (.func 123) [] [.aa 1 0]]/\fh l sp=hS w.1 (w.2.1++w.2.2.1++w.2.2.2.1++w.2.2.2.2)/\(w.2.1++w.2.2.1++w.2.2.2.1++w.2.2.2.2).length<1200000/\0<w.2.2.1.length/\0<w.2.2.2.1.length/\dL (kS w.1) w.2.2.1/\dL (kS w.1) w.2.2.2.1/\w.2.2.1.length+w.2.2.2.1.length<N)/\Q (.aC []) (fh (w.2.1++cC (kS w.1) (w.2.2.1++w.2.2.2.1)++w.2.2.2.2) w.1)) (Q (.aC []) (fh l sp))) (Q (.aC []) (fh l sp)))) (aq (decide (eM<wI (n-s))) (aq (decide (wI (n-s)<b)) (∃w:List (Int×fw)×LI×LI×LI×LI,(([.ai 0 l.length 1,J eM,J (wI (n-s)),J b,.ba (.func 123) [] [.aa 1 0]]:LV)=[.ai 0 (w.2.1++w.2.2.1++w.2.2.2.1++w.2.2.2.2).length 1,J ((w.2.1.length:Nat):Int),J (((w.2.1++w.2.2.1).length:Nat):Int),J (((w.2.1++w.2.2.1++w.2.2.2.1).length:Nat):Int),.ba (.func 123) [] [.aa 1 0]]/\fh l sp=hS w.1 (w.2.1++w.2.2.1++w.2.2.2.1++w.2.2.2.2)/\(w.2.1++w.2.2.1++w.2.2.2.1++w.2.2.2.2).length<1200000/\0<w.2.2.1.length/\0<w.2.2.2.1.length/\dL (kS w.1) w.2.2.1/\dL (kS w.1) w.2.2.2.1/\w.2.2.1.length+w.2.2.2.1.length<N)/\Q (.aC []) (fh (w.2.1++cC (kS w.1) (w.2.2.1++w.2.2.2.1)++w.2.2.2.2) w.1)) (Q (.aC []) (fh l sp))) (Q (.aC []) (fh l sp)))))):=by kernel_rfl
theorem Qo{i j:Nat}(h:i+j<20000000):wI (Int.fdiv (IntKind.u64.wrap (wI ((i:Int)+(j:Int)))) 2)=(((i+j)/ 2:Nat):Int):=by
 rw[cO (x:=(i:Int)+(j:Int)) (by omega) (by omega)];have hu:IntKind.u64.wrap ((i:Int)+(j:Int))=(i:Int)+(j:Int):=IntWalk.u64_in _ (by omega);rw[hu];have e:Int.fdiv ((i:Int)+(j:Int)) 2=(((i+j)/ 2:Nat):Int):=by rw[Int.fdiv_eq_ediv_of_nonneg _ (by omega)];omega
 rw[e,cO]<;>omega
section
variable{sp:List (Int×fw)}{N:Nat}
theorem awZ(oV:aU Z (tG N)){aH U P R W x len}(hf:aH=U++P++x::(R++W))(bS:aH.length=len)(hl:len<1200000):
 ∀k:LI×LI×LI,(k.1++k.2.1=P/\k.2.2=U++k.1++x::(k.2.1++(R++W)))->
 br Z 171 220 3 (.aC []) (hS sp aH) (aB [(0,.ai 0 len 1),(10,J ((U.length+1+P.length:Nat):Int)),(13,J ((U++k.1).length:Int))]) (hS sp k.2.2) (aw Z 171 1):=by
 refine dS (λk=>k.2.1.length) _ _ _ _ ?_;rintro⟨P1,P2,l⟩ ⟨hP,h_⟩ ih;simp only at hP h_ ih⊢;subst hP;have fc:l.length=len:=by rw[h_,<-bS,hf];simp;omega
 have rX:U.length+P1.length+P2.length+1+R.length+W.length=len:=by rw[<-fc,h_];simp;omega
 rw[<-fc];refine hE oV awY ?_;have hw:wI (((U.length+1+(P1++P2).length:Nat):Int)-1)=((U.length+(P1++P2).length:Nat):Int):=by simp;rw[cO]<;>omega
 rw[hw];have hk:wI (((U++P1).length:Int)+1)=(((U++P1).length+1:Nat):Int):=om (lY _) (by simp;omega);refine aD.2 ⟨λh=>?_,λh=>?_⟩
 .have h:=dQ h;simp at h;cases P2 with
  |nil=>simp only[gW]at h;omega
  |cons y P2=>
   simp at rX;subst h_;have e1:U++P1++x::(y::P2++(R++W))=(U++P1++[x])++y::(P2++(R++W)):=by simp
   have e2:(U++P1)++y::(y::P2++(R++W))=(U++P1++[y])++y::(P2++(R++W)):=by simp
   have p1:gg (aX (U++P1++x::(y::P2++(R++W)))) ((U++P1).length*1) [J y]=aX ((U++P1)++y::(y::P2++(R++W))):=Cu y rfl;have p2:gg (aX ((U++P1)++y::(y::P2++(R++W)))) (((U++P1).length+1)*1) [J x]=aX ((U++P1++[y])++x::(P2++(R++W))):=by rw[e2];exact Cu x (by simp only[cI,ej,gW])
   refine⟨(U++P1).length+1,hk,by simp at fc⊢;omega,y,by rw[e1];exact sn (by simp only[cI,ej,gW]),(U++P1).length,rfl,by simp only[cI]at fc⊢;omega,x,sn rfl,(U++P1).length,rfl,by simp only[cI]at fc⊢;omega,by rw[uC];simp at fc⊢;omega,(U++P1).length+1,hk,by simp at fc⊢;omega,?_,?_⟩
   .rw[p1,uC];simp at fc⊢;omega
   .rw[p1,p2,hk];have:=ih (P1++[y],P2,(U++P1++[y])++x::(P2++(R++W))) ⟨by simp,by simp⟩ (by simp);have e:(U++(P1++[y])).length=(U++P1).length+1:=by simp;omega
    rw[e]at this;rw[fc];exact this
 .have h:=ez h;simp at h;have hP:P2=[]:=by rw[<-sb];omega
  subst hP;have:l=aH:=by rw[h_,hf];simp
  rw[this];exact⟨rfl,rfl⟩
theorem aw3(oV:aU Z (tG N)){aH U P R W y len}(hf:aH=U++P++y::(R++W))(bS:aH.length=len)(hl:len<1200000):
 ∀k:LI×LI×LI,(k.1++k.2.1=R/\k.2.2=U++P++k.1++y::(k.2.1++W))->
 br Z 171 220 3 (.aC []) (hS sp aH) (aB [(0,.ai 0 len 1),(14,J ((U++P).length:Int)),(17,J ((U++P++k.1).length:Int))]) (hS sp k.2.2) (aw Z 171 3):=by
 refine dS (λk=>k.1.length) _ _ _ _ ?_;rintro⟨R1,R2,l⟩ ⟨hR,h_⟩ ih;simp only at hR h_ ih⊢;subst hR;have fc:l.length=len:=by rw[h_,<-bS,hf];simp;omega
 have rX:U.length+P.length+R1.length+R2.length+1+W.length=len:=by rw[<-fc,h_];simp;omega
 rw[<-fc];refine hE oV aw2 ?_;refine aD.2 ⟨λh=>?_,λh=>?_⟩
 .have h:=dQ h;simp at h;have hp:R1≠[]:=by rintro rfl;simp only[gW]at h;omega
  obtain⟨R1,z,rfl⟩:∃p' y,R1=p'++[y]:=⟨R1.dropLast,R1.getLast hp,(List.dropLast_concat_getLast hp).symm⟩;subst h_;simp at rX;have hk:wI (((U++P++(R1++[z])).length:Int)-1)=(((U++P++R1).length:Nat):Int):=by simp;rw[cO]<;>omega
  have e1:U++P++(R1++[z])++y::(R2++W)=(U++P++R1)++z::(y::(R2++W)):=by simp
  have p1:gg (aX (U++P++(R1++[z])++y::(R2++W))) ((U++P++(R1++[z])).length*1) [J z]=aX ((U++P++R1)++z::(z::(R2++W))):=by rw[Cu z rfl];simp
  have p2:gg (aX ((U++P++R1)++z::(z::(R2++W)))) ((U++P++R1).length*1) [J y]=aX ((U++P++R1)++y::(z::(R2++W))):=Cu y rfl;have aho:(U++P++R1).length<(U++P++(R1++[z])++y::(R2++W)).length:=by simp only[cI,ej];omega
  have Ac:(U++P++(R1++[z])).length<(U++P++(R1++[z])++y::(R2++W)).length:=by simp only[cI,ej];omega
  refine⟨(U++P++R1).length,hk,aho,z,by rw[e1];exact sn rfl,(U++P++(R1++[z])).length,rfl,Ac,y,sn rfl,(U++P++(R1++[z])).length,rfl,Ac,by rw[uC];omega,(U++P++R1).length,hk,aho,?_,?_⟩
  .rw[p1,uC];simp;omega
  .rw[p1,p2,hk];have:=ih (R1,z::R2,(U++P++R1)++y::(z::(R2++W))) ⟨by simp,by simp⟩ (by simp);rw[fc];exact this
 .have h:=ez h;simp at h;have hP:R1=[]:=by rw[<-sb];omega
  subst hP;have:l=aH:=by rw[h_,hf];simp
  rw[this];exact⟨rfl,rfl⟩
theorem awX(oV:aU Z (tG N)){U Y W x}(hl:(U++[x]++Y++W).length<1200000)(hY:dL (kS sp) Y):
 ∀k:Nat×Nat,(k.1<=k.2/\k.2<=Y.length/\(k.1=0\/kS sp x<kS sp (Y.getD (k.1-1) 0))/\(k.2=Y.length\/¬kS sp x<kS sp (Y.getD k.2 0)))->
 br Z 171 220 3 (.aC []) (hS sp (U++cC (kS sp) (x::Y)++W)) (aB [(0,.ai 0 (U++[x]++Y++W).length 1),(1,J (U.length:Int)),(4,cF),(10,J ((U.length+1+k.1:Nat):Int)),(11,J ((U.length+1+k.2:Nat):Int))]) (hS sp (U++[x]++Y++W)) (aw Z 171 0):=by
 refine dS (λk=>k.2-k.1) _ _ _ _ ?_;rintro⟨i,j⟩ ⟨Lx,hj,nX,pQ⟩ ih;have fc:(U++[x]++Y++W).length=U.length+1+Y.length+W.length:=by simp only[cI,ej,gW]
 refine hE oV awW ?_;rw[Qo (by omega)];refine aD.2 ⟨λh=>?_,λh=>?_⟩
 .have h:=dQ h;have hc:(U.length+1+i+(U.length+1+j))/ 2=U.length+1+(i+j)/ 2:=by omega
  rw[hc];have hg:(U++[x]++Y++W).getD (U.length+1+(i+j)/ 2) 0=Y.getD ((i+j)/ 2) 0:=by
   have e:U++[x]++Y++W=(U++[x])++(Y++W):=by simp
   have e2:U.length+1+(i+j)/ 2=(U++[x]).length+(i+j)/ 2:=by simp
   rw[e,e2,P7,P6 (by omega)]
  have hr:=Nv (l:=U++[x]++Y++W) (i:=U.length+1+(i+j)/ 2) (by omega);rw[hg]at hr;have hw:wI (((U.length+1+(i+j)/ 2:Nat):Int)+1)=((U.length+1+((i+j)/ 2+1):Nat):Int):=by rw[cO]<;>omega
  refine⟨U.length+1+(i+j)/ 2,rfl,by omega,_,hr,U.length,rfl,by omega,x,?_,(sp,Y.getD ((i+j)/ 2) 0,x),⟨rfl,rfl⟩,aD.2 ⟨λhk=>?_,λhk=>?_⟩⟩
  .have e:U++[x]++Y++W=U++x::(Y++W):=by simp
   rw[e];exact sn rfl
  .have hk:=A5.1 (dQ hk);rw[hw];exact ih ((i+j)/ 2+1,j) ⟨by simp only;omega,hj,.inr (by simpa using hk),pQ⟩ (by simp only;omega)
  .have hk:=λhh=>ez hk (A5.2 hh)
   exact ih (i,(i+j)/ 2) ⟨by simp only;omega,by simp only;omega,nX,.inr hk⟩ (by simp only;omega)
 .have h:=ez h;have hj:i=j:=by omega
  subst hj;obtain⟨P,R,rfl,hP,hs⟩:=aps hY hj nX pQ;have:=awZ (sp:=sp) oV (aH:=U++cC (kS sp) (x::(P++R))++W) (U:=U) (P:=P) (R:=R) (W:=W) (x:=x) (by rw[hs];simp) (by simp[qG];omega) hl ([],P,U++[x]++(P++R)++W) ⟨rfl,by simp⟩;simp only[jm,hP]at this;exact this
theorem aw1(oV:aU Z (tG N)){U X W y}(hl:(U++X++[y]++W).length<1200000)(hX:dL (kS sp) X):
 ∀k:Nat×Nat,(k.1<=k.2/\k.2<=X.length/\(k.1=0\/¬kS sp (X.getD (k.1-1) 0)<kS sp y)/\(k.2=X.length\/kS sp (X.getD k.2 0)<kS sp y))->
 br Z 171 220 3 (.aC []) (hS sp (U++cC (kS sp) (X++[y])++W)) (aB [(0,.ai 0 (U++X++[y]++W).length 1),(2,J ((U++X).length:Int)),(4,cF),(14,J ((U.length+k.1:Nat):Int)),(15,J ((U.length+k.2:Nat):Int))]) (hS sp (U++X++[y]++W)) (aw Z 171 2):=by
 refine dS (λk=>k.2-k.1) _ _ _ _ ?_;rintro⟨i,j⟩ ⟨Lx,hj,nX,pQ⟩ ih;have fc:(U++X++[y]++W).length=U.length+X.length+1+W.length:=by simp only[cI,ej,gW]
 refine hE oV aw0 ?_;rw[Qo (by omega)];refine aD.2 ⟨λh=>?_,λh=>?_⟩
 .have h:=dQ h;have hc:(U.length+i+(U.length+j))/ 2=U.length+(i+j)/ 2:=by omega
  rw[hc];have hg:(U++X++[y]++W).getD (U.length+(i+j)/ 2) 0=X.getD ((i+j)/ 2) 0:=by
   have e:U++X++[y]++W=U++(X++([y]++W)):=by simp
   rw[e,P7,P6 (by omega)]
  have hr:=Nv (l:=U++X++[y]++W) (i:=U.length+(i+j)/ 2) (by omega);rw[hg]at hr;have hw:wI (((U.length+(i+j)/ 2:Nat):Int)+1)=((U.length+((i+j)/ 2+1):Nat):Int):=by rw[cO]<;>omega
  refine⟨(U++X).length,rfl,by simp only[cI]at fc⊢;omega,y,?_,U.length+(i+j)/ 2,rfl,by omega,_,hr,(sp,y,X.getD ((i+j)/ 2) 0),⟨rfl,rfl⟩,aD.2 ⟨λhk=>?_,λhk=>?_⟩⟩
  .have e:U++X++[y]++W=(U++X)++y::W:=by simp
   rw[e];exact sn rfl
  .have hk:¬kS sp (X.getD ((i+j)/ 2) 0)<kS sp y:=λhh=>by have:=decide_eq_true (A5.2 hh);rw[this]at hk;cases hk
   rw[hw];exact ih ((i+j)/ 2+1,j) ⟨by simp only;omega,hj,.inr (by simpa using hk),pQ⟩ (by simp only;omega)
  .have hk:kS sp (X.getD ((i+j)/ 2) 0)<kS sp y:=by refine A5.1 (dQ ?_);simpa using hk
   exact ih (i,(i+j)/ 2) ⟨by simp only;omega,by simp only;omega,nX,.inr hk⟩ (by simp only;omega)
 .have h:=ez h;have hj:i=j:=by omega
  subst hj;obtain⟨P,R,rfl,hP,hs⟩:=apt hX hj nX pQ;have:=aw3 (sp:=sp) oV (aH:=U++cC (kS sp) (P++R++[y])++W) (U:=U) (P:=P) (R:=R) (W:=W) (y:=y) (by rw[hs];simp) (by simp[qG];omega) hl (R,[],U++(P++R)++[y]++W) ⟨by simp,by simp⟩;simp only[j7]at this;have e:(U++P).length=U.length+i:=by simp[hP]
  rw[e]at this;simp only[j7];exact this
def Jm(N:Nat)(Q:AV->AH->Prop)(len:Nat)(eM e b:Int)(sp:List (Int×fw))(l:LI):Prop:=
 aq (decide (eM<e)) (aq (decide (e<b)) (∃w,(Nh N).bn w [.ai 0 len 1,J eM,J e,J b,cF] (hS sp l)/\Q (.aC []) ((Nh N).aK w)) (Q (.aC []) (hS sp l))) (Q (.aC []) (hS sp l))
def Jl(N:Nat)(Q:AV->AH->Prop)(len:Nat)(a s eM e b:Int)(sp:List (Int×fw))(l:LI):Prop:=
 aq (decide (a<s)) (aq (decide (s<eM)) (∃w,(Nh N).bn w [.ai 0 len 1,J a,J s,J eM,cF] (hS sp l)/\Jm N Q len eM e b w.1 (w.2.1++cC (kS w.1) (w.2.2.1++w.2.2.2.1)++w.2.2.2.2)) (Jm N Q len eM e b sp l)) (Jm N Q len eM e b sp l)
def aCj(N:Nat)(Q:AV->AH->Prop)(len:Nat)(a m s eM e b:Int)(sp:List (Int×fw))(l:LI):Prop:=
 aq (decide (s<m)) (aq (decide (m<e)) (∃w,roX.bn w [.ai 0 len 1,J s,J m,J e,cF] (hS sp l)/\Jl N Q len a s eM e b w.1 (w.2.1++w.2.2.2.1++w.2.2.1++w.2.2.2.2)) (Jl N Q len a s eM e b sp l)) (Jl N Q len a s eM e b sp l)
theorem iF{b A B}(h1:b=true->A)(h2:b=false->B):aq b A B:=aD.2 ⟨h1,h2⟩
theorem aCm{aH U V B D W}(hf:aH=U++V++cC (kS sp) (B++D)++W)(hB:dL (kS sp) B)(hD:dL (kS sp) D)(hN:B.length+D.length<N){len}(bS:(U++V++B++D++W).length=len)(hl:len<1200000){eM e b}(h1:eM=(U++V).length)(h2:e=(U++V++B).length)(h3:b=(U++V++B++D).length):
 Jm N (fA (.aC []) (hS sp aH)) len (eM:Int) (e:Int) (b:Int) sp (U++V++B++D++W):=by
 subst h1 h2 h3 bS;have fE:B=[]\/D=[]->fA (.aC []) (hS sp aH) (.aC []) (hS sp (U++V++B++D++W)):=by
  intro h;refine⟨rfl,?_⟩;rw[hf];rcases h with rfl|rfl
  .simp[Nc hD]
  .simp[Nc hB]
 refine iF (λh=>iF (λh'=>?_) (λh'=>?_)) (λh=>?_)
 .have h:=dQ h;have h':=dQ h';simp at h h';refine⟨(sp,U++V,B,D,W),⟨rfl,rfl,hl,by simp only;omega,by simp only;omega,hB,hD,hN⟩,rfl,?_⟩;rw[hf];rfl
 .have h':=ez h';simp at h';exact fE (.inr (by rw[<-sb];omega))
 .have h':=ez h;simp at h';exact fE (.inl (by rw[<-sb];omega))
theorem aCl{aH U A B C D W}(hf:aH=U++cC (kS sp) (A++C)++cC (kS sp) (B++D)++W)(hA:dL (kS sp) A)(hC:dL (kS sp) C)(hB:dL (kS sp) B)(hD:dL (kS sp) D)(Xz:A.length+C.length<N)(hN:B.length+D.length<N){len}(bS:(U++A++C++B++D++W).length=len)(hl:len<1200000){a s eM e b}(ha:a=U.length)(hs:s=(U++A).length)(h1:eM=(U++A++C).length)(h2:e=(U++A++C++B).length)(h3:b=(U++A++C++B++D).length):
 Jl N (fA (.aC []) (hS sp aH)) len (a:Int) (s:Int) (eM:Int) (e:Int) (b:Int) sp (U++A++C++B++D++W):=by
 have fJ:=qG (kS sp) (A++C);simp at fJ;have done:∀l,l=U++cC (kS sp) (A++C)++B++D++W->Jm N (fA (.aC []) (hS sp aH)) len (eM:Int) (e:Int) (b:Int) sp l:=by
  intro l h;rw[h];refine aCm hf hB hD hN ?_ hl ?_ ?_ ?_
  .rw[<-bS];simp;omega
  .rw[h1];simp;omega
  .rw[h2];simp;omega
  .rw[h3];simp;omega
 have fE:A=[]\/C=[]->Jm N (fA (.aC []) (hS sp aH)) len (eM:Int) (e:Int) (b:Int) sp (U++A++C++B++D++W):=by
  intro h;refine done _ ?_;rcases h with rfl|rfl
  .simp[Nc hC]
  .simp[Nc hA]
 subst ha hs h1 bS;refine iF (λh=>iF (λh'=>?_) (λh'=>?_)) (λh=>?_)
 .have h:=dQ h;have h':=dQ h';simp at h h';refine⟨(sp,U,A,C,B++D++W),⟨?_,?_,?_,by simp only;omega,by simp only;omega,hA,hC,Xz⟩,?_⟩
  .simp[cF]
  .simp
  .simp only[<-j7];exact hl
  .exact done _ (by simp)
 .have h':=ez h';simp at h';exact fE (.inr (by rw[<-sb];omega))
 .have h':=ez h;simp at h';exact fE (.inl (by rw[<-sb];omega))
theorem aCk{aH U A B C D W}(hf:aH=U++cC (kS sp) (A++C)++cC (kS sp) (B++D)++W)(hA:dL (kS sp) A)(hC:dL (kS sp) C)(hB:dL (kS sp) B)(hD:dL (kS sp) D)(Xz:A.length+C.length<N)(hN:B.length+D.length<N){len}(bS:(U++A++B++C++D++W).length=len)(hl:len<1200000){a m s eM e b}(ha:a=U.length)(hm:m=(U++A++B).length)(hs:s=(U++A).length)(h1:eM=(U++A++C).length)(h2:e=(U++A++B++C).length)(h3:b=(U++A++B++C++D).length):
 aCj N (fA (.aC []) (hS sp aH)) len (a:Int) (m:Int) (s:Int) (eM:Int) (e:Int) (b:Int) sp (U++A++B++C++D++W):=by
 have done:∀l,l=U++A++C++B++D++W->Jl N (fA (.aC []) (hS sp aH)) len (a:Int) (s:Int) (eM:Int) (e:Int) (b:Int) sp l:=by
  intro l h;rw[h];refine aCl hf hA hC hB hD Xz hN ?_ hl ha hs h1 ?_ ?_
  .rw[<-bS];simp;omega
  .rw[h2];simp;omega
  .rw[h3];simp;omega
 have fE:B=[]\/C=[]->Jl N (fA (.aC []) (hS sp aH)) len (a:Int) (s:Int) (eM:Int) (e:Int) (b:Int) sp (U++A++B++C++D++W):=by intro h;refine done _ ?_;rcases h with rfl|rfl<;>simp
 subst hm hs h2 bS;refine iF (λh=>iF (λh'=>?_) (λh'=>?_)) (λh=>?_)
 .have h:=dQ h;have h':=dQ h';simp at h h';refine⟨(sp,U++A,B,C,D++W),⟨?_,?_,?_,by simp only;omega,by simp only;omega⟩,?_⟩
  .simp[cF]
  .simp
  .simp only[<-j7];exact hl
  .exact done _ (by simp)
 .have h':=ez h';simp at h';exact fE (.inr (by rw[<-sb];omega))
 .have h':=ez h;simp at h';exact fE (.inl (by rw[<-sb];omega))
theorem akS(oV:aU Z (tG N)){U X Y W M}(hl:(U++X++Y++W).length<1200000)(hX:dL (kS sp) X)(hY:dL (kS sp) Y)(hN:X.length+Y.length<=N)(hM:M=(X.length+Y.length)/ 2)(hx:0<X.length)(hy:0<Y.length):
 ∀k:Nat×Nat,(k.1<=k.2/\k.2<=X.length/\k.2<=M/\M<=k.1+Y.length/\(k.1=0\/M-k.1=Y.length\/¬kS sp (X.getD (k.1-1) 0)<kS sp (Y.getD (M-k.1) 0))/\(k.2=X.length\/M-k.2=0\/kS sp (X.getD k.2 0)<kS sp (Y.getD (M-k.2-1) 0)))->
 br Z 171 220 3 (.aC []) (hS sp (U++cC (kS sp) (X++Y)++W)) (aB [(0,.ai 0 (U++X++Y++W).length 1),(1,J (U.length:Int)),(2,J ((U++X).length:Int)),(3,J ((U++X++Y).length:Int)),(4,cF),(18,J ((U.length+M:Nat):Int)),(19,J ((U.length+M+(U++X).length:Nat):Int)),(20,J ((U.length+k.1:Nat):Int)),(21,J ((U.length+k.2:Nat):Int)),(22,J ((U.length+M+(U++X).length-1:Nat):Int))]) (hS sp (U++X++Y++W)) (aw Z 171 4):=by
 refine dS (λk=>k.2-k.1) _ _ _ _ ?_;rintro⟨i,j⟩ ⟨Lx,QF,hjM,Xy,nX,pQ⟩ ih;simp only at Lx QF hjM Xy nX pQ ih⊢;have fc:(U++X++Y++W).length=U.length+X.length+Y.length+W.length:=by simp only[cI]
 have Ql:(U++X).length=U.length+X.length:=by simp only[cI]
 refine hD oV 2000 Fb (by kernel_rfl) ?_;rw[aw4];rw[Qo (by omega)];refine aD.2 ⟨λh=>?_,λh=>?_⟩
 .have h:=dQ h;have hc:(U.length+i+(U.length+j))/ 2=U.length+(i+j)/ 2:=by omega
  rw[hc];have hg:(U++X++Y++W).getD (U.length+(i+j)/ 2) 0=X.getD ((i+j)/ 2) 0:=by
   have e:U++X++Y++W=U++(X++(Y++W)):=by simp
   rw[e,P7,P6 (by omega)]
  have hr:=Nv (l:=U++X++Y++W) (i:=U.length+(i+j)/ 2) (by omega);rw[hg]at hr;have hp:wI (((U.length+M+(U++X).length-1:Nat):Int)-((U.length+(i+j)/ 2:Nat):Int))=(((U++X).length+(M-(i+j)/ 2-1):Nat):Int):=by rw[cO]<;>omega
  have qv:(U++X++Y++W).getD ((U++X).length+(M-(i+j)/ 2-1)) 0=Y.getD (M-(i+j)/ 2-1) 0:=by
   have e:U++X++Y++W=(U++X)++(Y++W):=by simp
   rw[e,P7,P6 (by omega)]
  have nZ:=Nv (l:=U++X++Y++W) (i:=(U++X).length+(M-(i+j)/ 2-1)) (by omega);rw[qv]at nZ;have hw:wI (((U.length+(i+j)/ 2:Nat):Int)+1)=((U.length+((i+j)/ 2+1):Nat):Int):=by rw[cO]<;>omega
  refine⟨(U++X).length+(M-(i+j)/ 2-1),hp,by omega,_,nZ,U.length+(i+j)/ 2,rfl,by omega,_,hr,(sp,Y.getD (M-(i+j)/ 2-1) 0,X.getD ((i+j)/ 2) 0),⟨rfl,rfl⟩,aD.2 ⟨λhk=>?_,λhk=>?_⟩⟩
  .have hk:¬kS sp (X.getD ((i+j)/ 2) 0)<kS sp (Y.getD (M-(i+j)/ 2-1) 0):=λhh=>by have:=decide_eq_true (A5.2 hh);rw[this]at hk;cases hk
   rw[hw];refine ih ((i+j)/ 2+1,j) ⟨by simp only;omega,QF,hjM,by simp only;omega,.inr (.inr ?_),pQ⟩ (by simp only;omega);have e:M-((i+j)/ 2+1)=M-(i+j)/ 2-1:=by omega
   rw[e];exact hk
  .have hk:kS sp (X.getD ((i+j)/ 2) 0)<kS sp (Y.getD (M-(i+j)/ 2-1) 0):=by refine A5.1 (dQ ?_);simpa using hk
   exact ih (i,(i+j)/ 2) ⟨by simp only;omega,by simp only;omega,by simp only;omega,Xy,nX,.inr (.inr hk)⟩ (by simp only;omega)
 .have h:=ez h;have hj:i=j:=by omega
  subst hj;obtain⟨A,B,C,D,rfl,rfl,hA,hC,hs,dA,dB,dC,dD⟩:=aur hX hY (i:=i) (j:=M-i) QF (by omega) nX pQ;simp at hM hx hy hN Ql QF Xy;have he:wI (((U.length+M+(U++(A++B)).length:Nat):Int)-((U.length+i:Nat):Int))=(((U++A++B++C).length:Nat):Int):=by simp at hl⊢;rw[cO]<;>omega
  rw[he];have key:=aCk (sp:=sp) (N:=N) (aH:=U++cC (kS sp) ((A++B)++(C++D))++W) (U:=U) (A:=A) (B:=B) (W:=W) (by rw[hs];simp) dA dC dB dD (by omega) (by omega) rfl (by simpa[j7]using hl)
   (m:=(U++(A++B)).length) (s:=U.length+i) (eM:=U.length+M) (b:=(U++(A++B)++(C++D)).length) rfl (by simp) (by simp;omega) (by simp;omega) rfl (by simp)
  have e:U++(A++B)++(C++D)++W=U++A++B++C++D++W:=by simp
  rw[e];exact key
theorem akT(oV:aU Z (tG N)){U X Y W}(hl:(U++X++Y++W).length<1200000)(hX:dL (kS sp) X)(hY:dL (kS sp) Y)(hN:X.length+Y.length<=N)(hx:0<X.length)(hy:0<Y.length):
 bZ Z 171 [.ai 0 (U++X++Y++W).length 1,J (U.length:Int),J ((U++X).length:Int),J ((U++X++Y).length:Int),cF] (hS sp (U++X++Y++W)) (.aC []) (hS sp (U++cC (kS sp) (X++Y)++W)):=by
 have fc:(U++X++Y++W).length=U.length+X.length+Y.length+W.length:=by simp only[cI]
 have Ql:(U++X).length=U.length+X.length:=by simp only[cI]
 have aEN:(U++X++Y).length=U.length+X.length+Y.length:=by simp only[cI]
 refine eE 220 oV aw5 ?_;have h1:wI (((U++X).length:Int)-(U.length:Int))=(X.length:Int):=by rw[cO]<;>omega
 have h2:wI (((U++X++Y).length:Int)-((U++X).length:Int))=(Y.length:Int):=by rw[cO]<;>omega
 have h3:(U.length+(U++X++Y).length)/ 2=U.length+(X.length+Y.length)/ 2:=by omega
 have h4:wI (((U.length+(X.length+Y.length)/ 2:Nat):Int)+((U++X).length:Int))=((U.length+(X.length+Y.length)/ 2+(U++X).length:Nat):Int):=by rw[cO]<;>omega
 have h5:wI (((U.length+(X.length+Y.length)/ 2+(U++X).length:Nat):Int)-1)=((U.length+(X.length+Y.length)/ 2+(U++X).length-1:Nat):Int):=by rw[cO]<;>omega
 rw[h1,h2,Qo (by omega),h3,h4,h5];refine aD.2 ⟨λh=>?_,λh=>aD.2 ⟨λh'=>?_,λh'=>aD.2 ⟨λh6=>?_,λh6=>?_⟩⟩⟩
 .have h:X.length=1:=by
   have h:(X.length:Int)=1:=by simpa using h
   omega
  obtain⟨x,rfl⟩:=List.length_eq_one_iff.1 h;have:=awX oV hl hY (0,Y.length) ⟨by simp,by simp,.inl rfl,.inl rfl⟩;have e1:(U++[x]).length=U.length+1:=by simp
  have e2:(U++[x]++Y).length=U.length+1+Y.length:=by simp;omega
  rw[e1,e2];exact this
 .have h:Y.length=1:=by
   have h:(Y.length:Int)=1:=by simpa using h'
   omega
  obtain⟨y,rfl⟩:=List.length_eq_one_iff.1 h;have:=aw1 oV hl hX (0,X.length) ⟨by simp,by simp,.inl rfl,.inl rfl⟩;rw[<-Ql]at this;exact this
 .have h6:=dQ h6;have h7:wI (((U.length+(X.length+Y.length)/ 2+(U++X).length:Nat):Int)-((U++X++Y).length:Int))=((U.length+((X.length+Y.length)/ 2-Y.length):Nat):Int):=by rw[cO]<;>omega
  rw[h7];exact akS oV hl hX hY hN rfl hx hy ((X.length+Y.length)/ 2-Y.length,(X.length+Y.length)/ 2) ⟨by simp only;omega,by simp only;omega,by simp,by simp only;omega,.inr (.inl (by simp only;omega)),.inr (.inl (by simp only;omega))⟩
 .have h6:=ez h6;have:=akS oV hl hX hY hN rfl hx hy (0,X.length) ⟨by simp,by simp,by simp only;omega,by simp only;omega,.inl rfl,.inl rfl⟩;rw[<-Ql]at this;exact this
end
theorem anv:∀N,aU Z (tG N):=by
 refine yX ads ?_ ?_
 .rintro⟨sp,U,X,Y,W⟩ args H ⟨_,_,_,_,_,_,_,h⟩;omega
 .rintro N oV ⟨sp,U,X,Y,W⟩ args H ⟨rfl,rfl,hl,hx,hy,hX,hY,hN⟩;exact akT oV hl hX hY (by omega) hx hy
def al3:cx (List (Int×fw)×LI×LI×LI×LI)where
 bn w A H:=A=[.ai 0 (w.2.1++w.2.2.1++w.2.2.2.1++w.2.2.2.2).length 1,J (w.2.1.length:Int),J ((w.2.1++w.2.2.1).length:Int),J ((w.2.1++w.2.2.1++w.2.2.2.1).length:Int),cF]/\H=hS w.1 (w.2.1++w.2.2.1++w.2.2.2.1++w.2.2.2.2)/\(w.2.1++w.2.2.1++w.2.2.2.1++w.2.2.2.2).length<1200000/\0<w.2.2.1.length/\0<w.2.2.2.1.length/\
  dL (kS w.1) w.2.2.1/\dL (kS w.1) w.2.2.2.1
 v w:=.aC []
 aK w:=hS w.1 (w.2.1++cC (kS w.1) (w.2.2.1++w.2.2.2.1)++w.2.2.2.2)
theorem aCh:al3.cr:=by
 rintro⟨sp,U,X,Y,W⟩ ⟨AF,U',X',Y',W'⟩ A H ⟨h1,h2,_⟩ ⟨k1,k2,_⟩;obtain⟨rfl,e⟩:=Eo (h2.symm.trans k2);rw[h1]at k1;simp only[jn,AV.bU.injEq,AV.ai.injEq,true_and,and_true]at k1 e;have e1:U.length=U'.length:=by omega
 have e2:(U++X).length=(U'++X').length:=by omega
 have e3:(U++X++Y).length=(U'++X'++Y').length:=by omega
 obtain⟨e4,rfl⟩:=l4 e e3;obtain⟨e5,rfl⟩:=l4 e4 e2;obtain⟨rfl,rfl⟩:=l4 e5 e1;rfl
def Gp:Ev.bo:=bR 171 (ca al3 aCh cD) Vg
theorem Ka:aU Z Gp:=by refine cA ads ?_;rintro⟨sp,U,X,Y,W⟩ args H ⟨rfl,rfl,hl,hx,hy,hX,hY⟩;exact akT (anv (X.length+Y.length)) hl hX hY (cM _) hx hy
def sbX:cx (List (Int×fw)×LI)where
 bn w A H:=A=[.ai 0 w.2.length 1,J (w.2.length:Int),cF]/\H=hS w.1 w.2/\w.2.length<400000
 v w:=.aC []
 aK w:=hS w.1 (cC (kS w.1) w.2)
theorem azs:sbX.cr:=by rintro⟨sp,l⟩ ⟨AF,l'⟩ A H ⟨h1,h2,_⟩ ⟨k1,k2,_⟩;obtain⟨rfl,rfl⟩:=Eo (h2.symm.trans k2);rfl
def Vh:Ev.bo:=bR 154 (ca sbX azs cD) Gp
def soX:cx (List (Int×fw)×LI)where
 bn w A H:=A=[.ai 0 w.2.length 1,cF]/\H=hS w.1 w.2/\w.2.length<400000
 v w:=.aC []
 aK w:=hS w.1 (cC (kS w.1) w.2)
theorem aBQ:soX.cr:=by rintro⟨sp,l⟩ ⟨AF,l'⟩ A H ⟨h1,h2,_⟩ ⟨k1,k2,_⟩;obtain⟨rfl,rfl⟩:=Eo (h2.symm.trans k2);rfl
def DD:Ev.bo:=bR 122 (ca soX aBQ cD) Vh
def IB:Nat->LN:=fT [(2,[0,1,2,6,7,8]),(7,[0,1,2,6]),(9,[0,1,2,6,7,8])]
abbrev SZ x0 x1 x2 x3 x4:=aB [(0,.ai 0 x0 1),(1,J x1),(2,.ba (.func 123) [] [.aa 1 0]),(6,J x2),(7,J x3),(8,J x4)]
abbrev sO x0 x1:=al [(0,bK x0 2),(1,.aj [.aA 2] 193),(2,gw x1)] 3
theorem azh{sp l L Q}:
 bI Z Gp IB L Q 1000 154 [.ai 0 l.length 1,J (l.length:Int),cF] (hS sp l)=(
 L (SZ l.length ((l.length:Nat):Int) 20 0 20) (sO l sp) (aw Z 154 0)):=by kernel_rfl
abbrev abw x0 x1 x2:=aB [(0,.ai 0 x0 1),(1,J x1),(2,.ba (.func 123) [] [.aa 1 0]),(6,J x2)]
theorem azb{sp l n s a b L Q}:
 ck Z Gp IB L Q 1000 154 3 (aB [(0,.ai 0 l.length 1),(1,J n),(2,cF),(6,J s),(7,J a),(8,J b)]) (aw Z 154 0) (hS sp l)=(
 aq (decide (b<=n)) (∃w:List (Int×fw)×LI×LI×LI,(([.ai 0 l.length 1,J a,J b,.ba (.func 123) [] [.aa 1 0]]:LV)=[.ai 0 (w.2.1++w.2.2.1++w.2.2.2).length 1,J ((w.2.1.length:Nat):Int),J (((w.2.1++w.2.2.1).length:Nat):Int),.ba (.func 123) [] [.aa 1 0]]/\sO l sp=hS w.1 (w.2.1++w.2.2.1++w.2.2.2)/\(w.2.1++w.2.2.1++w.2.2.2).length<1200000)/\L (SZ l.length n s b (wI (b+s))) (sO (w.2.1++cC (kS w.1) w.2.2.1++w.2.2.2) w.1) (aw Z 154 0)) (∃w:List (Int×fw)×LI×LI×LI,(([.ai 0 l.length 1,J a,J n,.ba (.func 123) [] [.aa 1 0]]:LV)=[.ai 0 (w.2.1++w.2.2.1++w.2.2.2).length 1,J ((w.2.1.length:Nat):Int),J (((w.2.1++w.2.2.1).length:Nat):Int),.ba (.func 123) [] [.aa 1 0]]/\sO l sp=hS w.1 (w.2.1++w.2.2.1++w.2.2.2)/\(w.2.1++w.2.2.1++w.2.2.2).length<1200000)/\L (abw l.length n s) (sO (w.2.1++cC (kS w.1) w.2.2.1++w.2.2.2) w.1) (aw Z 154 1))):=by kernel_rfl
theorem azd{sp l n s L Q}:
 ck Z Gp IB L Q 1000 154 3 (aB [(0,.ai 0 l.length 1),(1,J n),(2,cF),(6,J s)]) (aw Z 154 1) (hS sp l)=(
 aq (decide (s<n)) (L (SZ l.length n s 0 (wI (2*s))) (sO l sp) (aw Z 154 2)) (Q (.aC []) (sO l sp))):=by kernel_rfl
theorem azf{sp l n s a b L Q}:
 ck Z Gp IB L Q 1000 154 3 (aB [(0,.ai 0 l.length 1),(1,J n),(2,cF),(6,J s),(7,J a),(8,J b)]) (aw Z 154 2) (hS sp l)=(
 aq (decide (b<=n)) (∃w:List (Int×fw)×LI×LI×LI×LI,(([.ai 0 l.length 1,J a,J (wI (a+s)),J b,.ba (.func 123) [] [.aa 1 0]]:LV)=[.ai 0 (w.2.1++w.2.2.1++w.2.2.2.1++w.2.2.2.2).length 1,J ((w.2.1.length:Nat):Int),J (((w.2.1++w.2.2.1).length:Nat):Int),J (((w.2.1++w.2.2.1++w.2.2.2.1).length:Nat):Int),.ba (.func 123) [] [.aa 1 0]]/\sO l sp=hS w.1 (w.2.1++w.2.2.1++w.2.2.2.1++w.2.2.2.2)/\(w.2.1++w.2.2.1++w.2.2.2.1++w.2.2.2.2).length<1200000/\0<w.2.2.1.length/\0<w.2.2.2.1.length/\dL (kS w.1) w.2.2.1/\dL (kS w.1) w.2.2.2.1)/\L (SZ l.length n s b (wI (b+wI (2*s)))) (sO (w.2.1++cC (kS w.1) (w.2.2.1++w.2.2.2.1)++w.2.2.2.2) w.1) (aw Z 154 2)) (aq (decide (wI (a+s)<n)) (∃w:List (Int×fw)×LI×LI×LI×LI,(([.ai 0 l.length 1,J a,J (wI (a+s)),J n,.ba (.func 123) [] [.aa 1 0]]:LV)=[.ai 0 (w.2.1++w.2.2.1++w.2.2.2.1++w.2.2.2.2).length 1,J ((w.2.1.length:Nat):Int),J (((w.2.1++w.2.2.1).length:Nat):Int),J (((w.2.1++w.2.2.1++w.2.2.2.1).length:Nat):Int),.ba (.func 123) [] [.aa 1 0]]/\sO l sp=hS w.1 (w.2.1++w.2.2.1++w.2.2.2.1++w.2.2.2.2)/\(w.2.1++w.2.2.1++w.2.2.2.1++w.2.2.2.2).length<1200000/\0<w.2.2.1.length/\0<w.2.2.2.1.length/\dL (kS w.1) w.2.2.1/\dL (kS w.1) w.2.2.2.1)/\L (abw l.length n (wI (s*2))) (sO (w.2.1++cC (kS w.1) (w.2.2.1++w.2.2.2.1)++w.2.2.2.2) w.1) (aw Z 154 1)) (L (abw l.length n (wI (s*2))) (sO l sp) (aw Z 154 1)))):=by kernel_rfl
theorem ayB{sp l L Q}:
 bI Z Vh (λ_=>[]) L Q 1000 122 [.ai 0 l.length 1,cF] (hS sp l)=(
 ∃w:List (Int×fw)×LI,(([.ai 0 l.length 1,J (aE l.length),.ba (.func 123) [] [.aa 1 0]]:LV)=[.ai 0 w.2.length 1,J ((w.2.length:Nat):Int),.ba (.func 123) [] [.aa 1 0]]/\sO l sp=hS w.1 w.2/\w.2.length<400000)/\Q (.aC []) (sO (cC (kS w.1) w.2) w.1)):=by kernel_rfl
def fl(key:Int->Int)(Bs:List LI):LI:=(Bs.map (cC key)).flatten
theorem Bq(key):∀Bs,(fl key Bs).length=Bs.flatten.length
 |[]=>rfl
 |B::Bs=>by have:=Bq key Bs;simp only[fl,gR,Fs,cI,qG]at this⊢;omega
theorem af6(key Bs B):fl key (Bs++[B])=fl key Bs++cC key B:=by simp[fl]
theorem aqX(key Bs B):fl key (B::Bs)=cC key B++fl key Bs:=by simp[fl]
def JE(s:Nat)(Bs:List LI):Prop:=∀B∈Bs,B.length=s
section
variable{sp:List (Int×fw)}{jK:LI}
theorem azg{s}(hl:jK.length<400000)(hs:20<=s)(hsn:s<jK.length)(next:∀Ms R l,l=fl (kS sp) Ms++cC (kS sp) R->Ms.flatten++R=jK->JE (2*s) Ms->R.length<2*s->
 br Z 154 63 3 (.aC []) (hS sp (cC (kS sp) jK)) (aB [(0,.ai 0 jK.length 1),(1,J (jK.length:Int)),(2,cF),(6,J ((2*s:Nat):Int))]) (hS sp l) (aw Z 154 1)):
 ∀k:List LI×List LI×LI×LI,(k.2.2.2=fl (kS sp) k.1++fl (kS sp) k.2.1++cC (kS sp) k.2.2.1/\k.1.flatten++k.2.1.flatten++k.2.2.1=jK/\JE (2*s) k.1/\JE s k.2.1/\k.2.2.1.length<s)->
 br Z 154 63 3 (.aC []) (hS sp (cC (kS sp) jK)) (aB [(0,.ai 0 jK.length 1),(1,J (jK.length:Int)),(2,cF),(6,J (s:Int)),(7,J (k.1.flatten.length:Int)),(8,J ((k.1.flatten.length+2*s:Nat):Int))]) (hS sp k.2.2.2) (aw Z 154 2):=by
 refine dS (λk=>k.2.1.length) _ _ _ _ ?_;rintro⟨Ms,Bs,R,l⟩ ⟨fc,ho,hM,hB,hR⟩ ih;simp only at fc ho hM hB hR ih⊢;have bS:l.length=jK.length:=by rw[fc,<-ho];simp only[cI,Bq,qG]
 have rX:Ms.flatten.length+Bs.flatten.length+R.length=jK.length:=by rw[<-ho];simp only[cI]
 rw[<-bS];refine hD Ka 1000 IB (by kernel_rfl) ?_;rw[azf];have kR:wI (2*(s:Int))=((2*s:Nat):Int):=by rw[cO]<;>omega
 have s6:wI ((s:Int)*2)=((2*s:Nat):Int):=by rw[cO]<;>omega
 have YU:wI ((Ms.flatten.length:Int)+(s:Int))=((Ms.flatten.length+s:Nat):Int):=by rw[cO]<;>omega
 have hw4:wI (((Ms.flatten.length+2*s:Nat):Int)+((2*s:Nat):Int))=((Ms.flatten.length+2*s+2*s:Nat):Int):=by rw[cO]<;>omega
 rw[kR,s6,YU,hw4];have d:=λx=>(v5 (kS sp) x).1
 refine iF (λh=>?_) (λh=>?_)
 .have h:=dQ h;cases Bs with
  |nil=>simp only[MT,gW]at rX;omega
  |cons B1 Bs=>
   have mA:=hB B1 (by simp);cases Bs with
   |nil=>simp only[Fs,MT,cI,gW]at rX;omega
   |cons B2 Bs=>
    have il:=hB B2 (by simp);have e:l=fl (kS sp) Ms++cC (kS sp) B1++cC (kS sp) B2++(fl (kS sp) Bs++cC (kS sp) R):=by rw[fc];simp[aqX]
    refine⟨(sp,fl (kS sp) Ms,cC (kS sp) B1,cC (kS sp) B2,fl (kS sp) Bs++cC (kS sp) R),⟨?_,?_,?_,?_,?_,d _,d _⟩,?_⟩
    .simp only;rw[<-e];simp only[cI,Bq,qG,mA,il];congr 5;omega
    .simp only;rw[<-e];rfl
    .simp only;rw[<-e];omega
    .simp only[qG];omega
    .simp only[qG];omega
    .have:=ih (Ms++[B1++B2],Bs,R,fl (kS sp) Ms++cC (kS sp) (cC (kS sp) B1++cC (kS sp) B2)++(fl (kS sp) Bs++cC (kS sp) R)) ⟨by simp only[af6,alT,j7],by rw[<-ho];simp,by
      intro B hb;rcases ia.1 hb with hb|hb
      .exact hM B hb
      .simp only[oe]at hb;subst hb;simp only[cI];omega,λB hb=>hB B (by simp[hb]),hR⟩ (by simp;omega)
     have el:(Ms++[B1++B2]).flatten.length=Ms.flatten.length+2*s:=by simp;omega
     rw[el]at this;rw[bS];exact this
 .have h:=ez h;cases Bs with
  |nil=>
   simp only[MT,gW]at rX;refine iF (λh=>?_) (λh=>?_)
   .have h:=dQ h;omega
   .have:=next Ms R l (by rw[fc];simp[fl]) (by rw[<-ho];simp) hM (by omega)
    rw[bS];exact this
  |cons B1 Bs=>
   have mA:=hB B1 (by simp);cases Bs with
   |cons B2 Bs=>have il:=hB B2 (by simp);simp only[Fs,cI]at rX;omega
   |nil=>
    simp only[Fs,MT,jm]at rX ho;refine iF (λh=>?_) (λh=>?_)
    .have h:=dQ h;have e:l=fl (kS sp) Ms++cC (kS sp) B1++cC (kS sp) R++[]:=by rw[fc];simp[fl]
     refine⟨(sp,fl (kS sp) Ms,cC (kS sp) B1,cC (kS sp) R,[]),⟨?_,?_,?_,?_,?_,d _,d _⟩,?_⟩
     .simp only;rw[<-e];simp only[cI,Bq,qG,mA,bS];congr 5;omega
     .simp only;rw[<-e];rfl
     .simp only;rw[<-e];omega
     .simp only[qG];omega
     .simp only[qG];omega
     .have:=next Ms (B1++R) (fl (kS sp) Ms++cC (kS sp) (cC (kS sp) B1++cC (kS sp) R)++[]) (by rw[alT];simp) (by rw[<-ho];simp) hM (by simp;omega)
      rw[bS];exact this
    .have h:=ez h;have XC:R=[]:=by rw[<-sb];omega
     subst XC;have:=next Ms B1 l (by rw[fc];simp[fl,cC]) (by rw[<-ho];simp) hM (by omega)
     rw[bS];exact this
theorem aze(hl:jK.length<400000):
 ∀k:Nat×List LI×LI×LI,(k.2.2.2=fl (kS sp) k.2.1++cC (kS sp) k.2.2.1/\k.2.1.flatten++k.2.2.1=jK/\JE k.1 k.2.1/\k.2.2.1.length<k.1/\20<=k.1)->
 br Z 154 63 3 (.aC []) (hS sp (cC (kS sp) jK)) (aB [(0,.ai 0 jK.length 1),(1,J (jK.length:Int)),(2,cF),(6,J (k.1:Int))]) (hS sp k.2.2.2) (aw Z 154 1):=by
 refine dS (λk=>jK.length-k.1) _ _ _ _ ?_;rintro⟨s,Bs,R,l⟩ ⟨fc,ho,hB,hR,hs⟩ ih;simp only at fc ho hB hR hs ih⊢;have bS:l.length=jK.length:=by rw[fc,<-ho];simp only[cI,Bq,qG]
 have rX:Bs.flatten.length+R.length=jK.length:=by rw[<-ho];simp
 have key:= @azg sp jK s hl hs;rw[<-bS];refine hE Ka azd ?_;refine iF (λh=>?_) (λh=>?_)
 .have h:=dQ h;have h:s<jK.length:=by omega
  have:=key h (λMs R' l' h1 h2 h3 h4=>ih (2*s,Ms,R',l') ⟨h1,h2,h3,h4,by simp only;omega⟩ (by simp only;omega)) ([],Bs,R,l) ⟨by rw[fc];simp[fl],by rw[<-ho];simp,(by intro B hb;cases hb),hB,hR⟩;simp at this;have kR:wI (2*(s:Int))=((2*s:Nat):Int):=by rw[cO]<;>omega
  rw[kR,bS];exact this
 .have h:=ez h;have:l=cC (kS sp) jK:=by
   cases Bs with
   |nil=>rw[fc,<-ho];simp[fl]
   |cons B1 Bs=>
    have mA:=hB B1 (by simp);cases Bs with
    |nil=>
     simp at rX ho;have XC:R=[]:=by rw[<-sb];omega
     subst XC;rw[fc,<-ho];simp[fl,cC]
    |cons B2 Bs=>have il:=hB B2 (by simp);simp at rX;omega
  rw[this];exact⟨rfl,rfl⟩
theorem azc(hl:jK.length<400000):
 ∀k:List LI×LI×LI,(k.2.2=fl (kS sp) k.1++k.2.1/\k.1.flatten++k.2.1=jK/\JE 20 k.1)->
 br Z 154 63 3 (.aC []) (hS sp (cC (kS sp) jK)) (aB [(0,.ai 0 jK.length 1),(1,J (jK.length:Int)),(2,cF),(6,J 20),(7,J (k.1.flatten.length:Int)),(8,J ((k.1.flatten.length+20:Nat):Int))]) (hS sp k.2.2) (aw Z 154 0):=by
 refine dS (λk=>k.2.1.length) _ _ _ _ ?_;rintro⟨Bs,R,l⟩ ⟨fc,ho,hB⟩ ih;simp only at fc ho hB ih⊢;have bS:l.length=jK.length:=by rw[fc,<-ho];simp only[cI,Bq]
 have rX:Bs.flatten.length+R.length=jK.length:=by rw[<-ho];simp
 have key:= @aze sp jK hl;rw[<-bS];refine hE Ka azb ?_;refine iF (λh=>?_) (λh=>?_)
 .have h:=dQ h;obtain⟨X,R,rfl,hX⟩:=Vy (l:=R) (n:=20) (by omega);simp at rX;have e:l=fl (kS sp) Bs++X++R:=by rw[fc];simp
  refine⟨(sp,fl (kS sp) Bs,X,R),⟨?_,?_,?_⟩,?_⟩
  .simp only;rw[<-e];simp only[cI,Bq,hX]
  .simp only;rw[<-e];rfl
  .simp only;rw[<-e];omega
  .have:=ih (Bs++[X],R,fl (kS sp) Bs++cC (kS sp) X++R) ⟨by simp only[af6],by rw[<-ho];simp,by
    intro B hb;rcases ia.1 hb with hb|hb
    .exact hB B hb
    .simp at hb;subst hb;exact hX⟩ (by simp;omega)
   have el:(Bs++[X]).flatten.length=Bs.flatten.length+20:=by simp;omega
   rw[el]at this;have hw:wI (((Bs.flatten.length+20:Nat):Int)+20)=((Bs.flatten.length+20+20:Nat):Int):=by rw[cO]<;>omega
   rw[hw,bS];exact this
 .have h:=ez h;have e:l=fl (kS sp) Bs++R++[]:=by rw[fc];simp
  refine⟨(sp,fl (kS sp) Bs,R,[]),⟨?_,?_,?_⟩,?_⟩
  .simp only;rw[<-e];simp only[cI,Bq,rX,bS]
  .simp only;rw[<-e];rfl
  .simp only;rw[<-e];omega
  .have:=key (20,Bs,R,fl (kS sp) Bs++cC (kS sp) R++[]) ⟨by simp,ho,hB,by simp only;omega,by simp⟩;rw[bS];exact this
end
theorem adt:aU Z Vh:=by refine cA Ka ?_;rintro⟨sp,l⟩ args H ⟨rfl,rfl,hl⟩;refine eS Ka 1000 IB 63 (by kernel_rfl) ?_;simp;rw[azh];exact azc hl ([],l,l) ⟨by simp[fl],by simp,(by intro B hb;cases hb)⟩
theorem Gq:aU Z DD:=by refine cA adt ?_;rintro⟨sp,l⟩ args H ⟨rfl,rfl,hl⟩;refine eS adt 1000 (λ_=>[]) 9 (by kernel_rfl) ?_;simp;rw[ayB];exact⟨(sp,l),⟨rfl,rfl,hl⟩,rfl,rfl⟩
end
end Go.Cl
namespace Go.Ev
theorem vD{m0 g n l l' vs ep el t}(hg:cN l g=some (.aj vs el))(hl:∀id,cN l' id=if id=g then some (.aj ep el)else cN l id)(hn:cN l n=none)(hr:∀φ x,bp φ vs x->bp φ ep x)(bS:ep.length=vs.length/\ep.all AV.cX=vs.all AV.cX):
 lL m0 (al l n) (al (l'++[(n,.ay [] t)]) (n+1)) (λφ aQ=>aQ=φ):=by
 have EA:g≠n:=by rintro rfl;rw[hg]at hn;cases hn
 have BP:cN l' n=none:=by rw[hl,az (Ne.symm EA)];exact hn
 have h1:=IE (xx:=none) (m0:=m0) (.ay [] t) BP;refine⟨Nat.le_succ n,λφ bs w cu hw=>?_⟩;have kR:WR φ bs (al l' n) w:=by
  refine⟨?_,?_,hw.lt,?_,hw.se rfl rfl rfl (λ_ _=>rfl) λid ob e h1 l1 h2=>.inl ?_⟩
  .intro id ob e k1 k2;rw[eh,hl]at k1;by_cases dE:id=g
   .rw[aO dE]at k1;cases k1;obtain⟨o,q1,q2⟩:=hw.ew id _ e (by rw[eh,dE];exact hg) k2;refine⟨o,q1,?_⟩;obtain⟨cs,gO,rfl,a1,a2,a3,a4⟩:=q2;exact⟨cs,gO,rfl,a1,by rw[bS.1];exact a2,by rw[bS.1];exact hr _ _ a3,by rw[bS.2];exact a4⟩
   .rw[az dE]at k1;exact hw.ew id ob e (by rw[eh];exact k1) k2
  .have l6:∀{id ob},(al l' n).bf id=some ob->ob.aR=true->∃dV,(al l n).bf id=some dV/\dV.aR=true:=by
    intro id ob k1 k2;rw[eh,hl]at k1;by_cases dE:id=g
    .exact⟨_,by rw[eh,dE];exact hg,rfl⟩
    .rw[az dE]at k1;exact⟨ob,by rw[eh];exact k1,k2⟩
   intro id g_ ob bB e e' k1 l1 k2 k3 l2 k4 hb;have⟨o1,q1,q2⟩:=l6 k1 l1;have⟨o2,q3,q4⟩:=l6 k3 l2;exact hw.jg id g_ o1 o2 e e' q1 q2 k2 q3 q4 k4 hb
  .intro id ob k1;rw[eh,hl]at k1;by_cases dE:id=g
   .rw[dE];exact hw.nx g (.aj vs el) (by rw[eh];exact hg)
   .rw[az dE]at k1;exact hw.nx id ob (by rw[eh];exact k1)
  .rw[eh,hl]at h1;by_cases dE:id=g
   .exact⟨id,_,e,by rw[eh,dE];exact hg,rfl,h2,rfl⟩
   .rw[az dE]at h1;exact⟨id,ob,e,by rw[eh];exact h1,l1,h2,rfl⟩
 exact h1.2 φ bs w cu kR
end Go.Ev
set_option maxRecDepth 100000
namespace Go.Cl
open Go.Ev Go.Proofs
def Zz(sp:List (Int×fw))(v:Int):fw:=(lk v sp).getD ⟨0,0,0⟩
def GK(sp:List (Int×fw))(v:Int):Bool:=decide ((Zz sp v).Nz<(Zz sp v).last)
def Cd(sp:List (Int×fw))(c:Int):LI->Nat
 |[]=>0
 |v::l=>if kS sp v>c then Cd sp c l+1 else 0
def vF:Nat->fO->LI
 |_,[]=>[]
 |c,g::gs=>(c:Int)::vF (if g.eO=1 then c+1 else c) gs
def Cc(sp:List (Int×fw))(bz:LI):Nat->fO->LI
 |_,[]=>[]
 |c,g::gs=>(if g.eO=1 then(Cd sp c bz:Int)else 0)::Cc sp bz (if g.eO=1 then c+1 else c) gs
def n9(f:bG):gA:=Cj f ([],[])
def jc(f:bG):LI:=cC (kS (n9 f).1) ((n9 f).2.filter (GK (n9 f).1))
def eu(f:bG):mg:=⟨vF 0 f.aZ,jc f,Cc (n9 f).1 (jc f) 0 f.aZ⟩
noncomputable def hCh(c:mg):AH:=al [(0,bK c.cy 3),(1,bK c.bz 2),(2,bK c.aR 3)] 3
noncomputable def chX:cx bG where
 bn f A H:=A=[.ah (gH f)]/\H=an/\iW f/\jM f=true/\bM f.bC+fg f.aZ<400000
 v f:=.aC [.ah (Po (eu f)),J 0]
 aK f:=hCh (eu f)
theorem ao3:chX.cr:=by rintro f f' A H ⟨h1,_⟩ ⟨k1,_⟩;rw[h1]at k1;simp at k1;rw[ye _ _ k1]
noncomputable def R26:Ev.bo:=bR 85 (ca chX ao3 cD) DD
def Ap:Nat->LN:=fT [(999999,[1,2,4,5,21]),(14,[1,2,4,49,50,51]),(22,[2,4,11,76,77,78]),(27,[2,4,11,14,76,77,78])]
noncomputable def Yy(f:bG):AH:=al [(0,dx f),(1,mX),(2,.aj [.aA 5] 193),(3,.aj [.ai 6 0 1] 35),(4,dx f),(5,gw []),(6,rl [])] 7
noncomputable def Xj(f:bG)(st:gA)(bz:LI):AH:=al [(0,dx f),(1,.aj [.ai 9 0 1,.ai 10 bz.length 1,.ai 11 0 1] 153),(2,.aj [.aA 5] 193),(3,.aj [.ai 8 st.2.length 1] 35),(4,dx f),(5,gw st.1),(6,.bc []),(7,j3),(8,rl st.2),(9,.ay [] 3),(10,bK bz 2),(11,.ay [] 3)] 12
noncomputable def yn(f:bG)(st:gA)(cy bz aR:LI):AH:=al [(0,dx f),(1,.aj [.ai 8 cy.length 1,.ai 9 bz.length 1,.ai 10 aR.length 1] 153),(2,.aj [.aA 5] 193),(3,.aj [.ai 11 st.2.length 1] 35),(4,dx f),(5,gw st.1),(6,.bc []),(7,j3),(8,bK cy 3),(9,bK bz 2),(10,bK aR 3),(11,rl st.2)] 12
noncomputable abbrev abx:=aB [(1,.aa 0 0),(2,.aa 1 0),(4,.aa 2 0),(5,.aa 3 0),(21,.ba (.func 149) [] [.aa 4 0])]
theorem ax2{f L Q}:
 bI Z DD Ap L Q 1000 85 [.ah (gH f)] an=(
 (al [] 0=an/\Q0 (gH f))/\aq (!DN jM (gH f)) (Q (.aC [.ah [.aJ,.aJ,.aJ],J 1]) an) (∃w,(([.ah (gH f)]:LV)=[.ah (gH w)]/\al [] 0=an)/\L (abx) (al [(0,dx f),(1,mX),(2,.aj [.aA 5] 193),(3,.aj [.aJ] 35),(4,dx w),(5,.bm [] 0 true)] 6) (M3 Z 85 0))):=by kernel_rfl
noncomputable abbrev Nn x0 x1:=aB [(1,.aa 0 0),(2,.aa 1 0),(4,.aa 2 0),(49,.ai 8 x0 1),(50,J (aE x0)),(51,J x1)]
theorem ax3{f L Q}:
 aa5 Z DD Ap L Q 1000 85 (abx) (M3 Z 85 0) (Yy f)=(
 ∃w:bG×gA,(([.gz 0,.aa 1 0]:LV)=[.gz 0,.aa 1 0]/\al [(0,o8 LoopState.ready [(1,.aa 3 0),(2,.aa 5 0),(4,.aa 6 0),(5,.aa 4 0),(21,.ba (.func 149) [] [.aa 1 0])] 2),(1,dx f),(2,j3),(3,dx f),(4,.aj [.ai 7 0 1] 35),(5,mX),(6,.aj [.aA 8] 193),(7,.ay [] 2),(8,.bm [] 0 true)] 9=Lb w.1 w.2/\iW w.1/\w.2.2.length+bM w.1.bC+fg w.1.aZ<1200000)/\8<10/\L (Nn (Cj w.1 w.2).2.length 0) (al [(0,dx w.1),(1,mX),(2,.aj [.aA 5] 193),(3,.aj [.ai 8 (Cj w.1 w.2).2.length 1] 35),(4,dx w.1),(5,gw (Cj w.1 w.2).1),(6,.bc []),(7,j3),(8,bK (Cj w.1 w.2).2 2)] 9) (aw Z 85 0)):=by kernel_rfl
noncomputable abbrev C0 x0 x1 x2 x3:=aB [(2,.aa 1 0),(4,.aa 2 0),(11,J x0),(76,.ad x1 x2 6),(77,J (aE x2)),(78,J x3)]
theorem axW{f st bz i L Q}:
 M_ Z DD Ap L Q 1000 85 8 7 (Nn st.2.length i) (aw Z 85 0) (Xj f st bz)=(
 aq (decide (i<aE st.2.length)) (∃aL:Nat,i=(aL:Int)/\aL<st.2.length/\(∃n,cw Z 2 (aX st.2) (aL*1)=some (J n:AV)/\(∃aP bA cf b,eT Z 2 200 (bJ vS 0 st.1) (J n)=some (.ah [J aP,J bA,J cf],b)/\(∃dc iP oC iE,eT Z 2 200 (bJ vS 0 st.1) (J n)=some (.ah [J dc,J iP,J oC],iE)/\aq (decide (bA<oC)) (((aX bz).length=bz.length*1/\bz.length+1<=4194304/\true=true/\true=true)/\L (Nn st.2.length (wI (i+1))) (al [(0,dx f),(1,.aj [.ai 9 0 1,.ai 10 (bz.length+1) 1,.ai 11 0 1] 153),(2,.aj [.aA 5] 193),(3,.aj [.ai 8 st.2.length 1] 35),(4,dx f),(5,gw st.1),(6,.bc []),(7,j3),(8,bK st.2 2),(9,.ay [] 3),(10,.ay (aX bz++[J n]) 2),(11,.ay [] 3)] 12) (aw Z 85 0)) (L (Nn st.2.length (wI (i+1))) (al [(0,dx f),(1,.aj [.ai 9 0 1,.ai 10 bz.length 1,.ai 11 0 1] 153),(2,.aj [.aA 5] 193),(3,.aj [.ai 8 st.2.length 1] 35),(4,dx f),(5,gw st.1),(6,.bc []),(7,j3),(8,bK st.2 2),(9,.ay [] 3),(10,bK bz 2),(11,.ay [] 3)] 12) (aw Z 85 0)))))) (∃w:List (Int×fw)×LI,(([.ai 0 bz.length 1,.ba (.func 123) [] [.aa 1 0]]:LV)=[.ai 0 w.2.length 1,.ba (.func 123) [] [.aa 1 0]]/\al [(0,bK bz 2),(1,.aj [.aA 2] 193),(2,gw st.1)] 3=hS w.1 w.2/\w.2.length<400000)/\L (C0 0 (bD f.aZ) f.aZ.length 0) (al [(0,dx f),(1,.aj [.ai 8 0 1,.ai 9 bz.length 1,.ai 10 0 1] 153),(2,.aj [.aA 5] 193),(3,.aj [.ai 11 st.2.length 1] 35),(4,dx f),(5,gw w.1),(6,.bc []),(7,j3),(8,.ay [] 3),(9,bK (cC (kS w.1) w.2) 2),(10,.ay [] 3),(11,bK st.2 2)] 12) (aw Z 85 1))):=by kernel_rfl
noncomputable abbrev S0 x0 x1 x2 x3 x4:=aB [(2,.aa 1 0),(4,.aa 2 0),(11,J x0),(14,J x1),(76,.ad x2 x3 6),(77,J (aE x3)),(78,J x4)]
theorem axY{f st cy bz aR c i gs gl L Q}:
 M_ Z DD Ap L Q 1000 85 8 7 (C0 c gs gl i) (aw Z 85 1) (yn f st cy bz aR)=(
 aq (decide (i<aE gl)) (∃aL:Nat,i=(aL:Int)/\aL<gl/\(∃n s aP bA cs len cf,((gs.drop (aL*6)).take 6:LV)=[J n,.ab s,J aP,J bA,.ad cs len 4,J cf]/\((aX cy).length=cy.length*1/\cy.length+1<=4194304/\true=true/\true=true)/\aq (n==1) (L (S0 c 0 gs gl i) (al [(0,dx f),(1,.aj [.ai 8 (cy.length+1) 1,.ai 9 bz.length 1,.ai 10 aR.length 1] 153),(2,.aj [.aA 5] 193),(3,.aj [.ai 11 st.2.length 1] 35),(4,dx f),(5,gw st.1),(6,.bc []),(7,j3),(8,.ay (aX cy++[J c]) 3),(9,bK bz 2),(10,bK aR 3),(11,bK st.2 2)] 12) (aw Z 85 2)) (((aX aR).length=aR.length*1/\aR.length+1<=4194304/\true=true/\true=true)/\L (C0 c gs gl (wI (i+1))) (al [(0,dx f),(1,.aj [.ai 8 (cy.length+1) 1,.ai 9 bz.length 1,.ai 10 (aR.length+1) 1] 153),(2,.aj [.aA 5] 193),(3,.aj [.ai 11 st.2.length 1] 35),(4,dx f),(5,gw st.1),(6,.bc []),(7,j3),(8,.ay (aX cy++[J c]) 3),(9,bK bz 2),(10,.ay (aX aR++[J 0]) 3),(11,bK st.2 2)] 12) (aw Z 85 1)))) (Q (.aC [.ah [.ai 8 cy.length 1,.ai 9 bz.length 1,.ai 10 aR.length 1],J 0]) (al [(0,dx f),(1,.aj [.ai 8 cy.length 1,.ai 9 bz.length 1,.ai 10 aR.length 1] 153),(2,.aj [.aA 5] 193),(3,.aj [.ai 11 st.2.length 1] 35),(4,dx f),(5,gw st.1),(6,.bc []),(7,.bc []),(8,bK cy 3),(9,bK bz 2),(10,bK aR 3),(11,bK st.2 2)] 12))):=by kernel_rfl
theorem ax0{f st cy bz aR c i k gs gl L Q}:
 M_ Z DD Ap L Q 1000 85 8 7 (S0 c k gs gl i) (aw Z 85 2) (yn f st cy bz aR)=(
 aq (decide (k<aE bz.length)) (∃aL:Nat,k=(aL:Int)/\aL<bz.length/\(∃n,cw Z 2 (aX bz) (aL*1)=some (J n:AV)/\(∃aP bA cf b,eT Z 2 200 (bJ vS 0 st.1) (J n)=some (.ah [J aP,J bA,J cf],b)/\aq (decide (cf>c)) (L (S0 c (wI (k+1)) gs gl i) (al [(0,dx f),(1,.aj [.ai 8 cy.length 1,.ai 9 bz.length 1,.ai 10 aR.length 1] 153),(2,.aj [.aA 5] 193),(3,.aj [.ai 11 st.2.length 1] 35),(4,dx f),(5,gw st.1),(6,.bc []),(7,j3),(8,bK cy 3),(9,bK bz 2),(10,bK aR 3),(11,bK st.2 2)] 12) (aw Z 85 2)) (((aX aR).length=aR.length*1/\aR.length+1<=4194304/\true=true/\true=true)/\L (C0 (wI (c+1)) gs gl (wI (i+1))) (al [(0,dx f),(1,.aj [.ai 8 cy.length 1,.ai 9 bz.length 1,.ai 10 (aR.length+1) 1] 153),(2,.aj [.aA 5] 193),(3,.aj [.ai 11 st.2.length 1] 35),(4,dx f),(5,gw st.1),(6,.bc []),(7,j3),(8,bK cy 3),(9,bK bz 2),(10,.ay (aX aR++[J k]) 3),(11,bK st.2 2)] 12) (aw Z 85 1))))) (((aX aR).length=aR.length*1/\aR.length+1<=4194304/\true=true/\true=true)/\L (C0 (wI (c+1)) gs gl (wI (i+1))) (al [(0,dx f),(1,.aj [.ai 8 cy.length 1,.ai 9 bz.length 1,.ai 10 (aR.length+1) 1] 153),(2,.aj [.aA 5] 193),(3,.aj [.ai 11 st.2.length 1] 35),(4,dx f),(5,gw st.1),(6,.bc []),(7,j3),(8,bK cy 3),(9,bK bz 2),(10,.ay (aX aR++[J k]) 3),(11,bK st.2 2)] 12) (aw Z 85 1))):=by kernel_rfl
noncomputable def vu(f:bG)(st:gA)(c1:LV)(ext:List (Nat×bk)):List (Nat×bk):=[(0,dx f),(1,.aj c1 153),(2,.aj [.aA 5] 193),(3,.aj [.ai 8 st.2.length 1] 35),(4,dx f),(5,gw st.1),(6,.bc []),(7,j3),(8,rl st.2)]++ext
noncomputable def Bl(f:bG)(st:gA)(cy bz aR:LI):AH:=al [(0,dx f),(1,.aj [.ai 8 cy.length 1,.ai 9 bz.length 1,.ai 10 aR.length 1] 153),(2,.aj [.aA 5] 193),(3,.aj [.ai 11 st.2.length 1] 35),(4,dx f),(5,gw st.1),(6,.bc []),(7,.bc []),(8,bK cy 3),(9,bK bz 2),(10,bK aR 3),(11,rl st.2)] 12
def FW(c:mg):AV:=.aC [.ah [.ai 8 c.cy.length 1,.ai 9 c.bz.length 1,.ai 10 c.aR.length 1],J 0]
theorem ajI:∀c gs,(vF c gs).length=gs.length
 |c,[]=>rfl
 |c,g::gs=>by simp[vF,ajI _ gs]
section
variable{f:bG}{st:gA}{aH:mg}
theorem ax1{bz cy aR}{c i:Nat}{gs gl}(hp:bz.length<400000)(hv:aR.length<1200000)(hc:c<1200000)(hi:i<1200000){N}(hN:Cd st.1 c bz=N)(next:hZ [.oo 7] Z 85 120 8 (FW aH) (Bl f st aH.cy aH.bz aH.aR) (C0 ((c+1:Nat):Int) gs gl ((i+1:Nat):Int)) (yn f st cy bz (aR++[(N:Int)])) (aw Z 85 1)):
 ∀k:LI×LI,(k.1++k.2=bz/\k.1.length+Cd st.1 c k.2=N)->
 hZ [.oo 7] Z 85 120 8 (FW aH) (Bl f st aH.cy aH.bz aH.aR) (S0 (c:Int) (k.1.length:Int) gs gl (i:Int)) (yn f st cy bz aR) (aw Z 85 2):=by
 refine dS (λk=>k.2.length) _ _ _ _ ?_;rintro⟨A,B⟩ ⟨h1,h2⟩ ih;subst h1;simp at hp;have kR:wI ((c:Int)+1)=((c+1:Nat):Int):=om (lY _) (by omega);have s6:wI ((i:Int)+1)=((i+1:Nat):Int):=om (lY _) (by omega);have YU:wI ((A.length:Int)+1)=((A.length+1:Nat):Int):=om (lY _) (by omega);have wF:(List.length (aX aR)=(List.length aR)*1)/\((List.length aR)+1<=4194304)/\(true=true)/\true=true:=⟨by simp[uC],by omega,rfl,rfl⟩;have aK:A.length=N->hZ [.oo 7] Z 85 120 8 (FW aH) (Bl f st aH.cy aH.bz aH.aR) (C0 ((c+1:Nat):Int) gs gl ((i+1:Nat):Int)) (yn f st cy (A++B) (aR++[(A.length:Int)])) (aw Z 85 1):=by intro e;rw[e];exact next
 simp only[yn,bK,Jb,cI,ej,gW,ki]at aK;refine XW iO Gq (n:=1000) (aR:=Ap) (by decide) (by kernel_rfl) ?_;rw[ax0,kR,s6,YU];refine iF (λh=>?_) (λh=>?_)
 .have h:=dQ h;cases B with
  |nil=>simp at h
  |cons v B=>
   have⟨a1,b1,c1,d1,e1,f1⟩:=Rg st.1 v;have hk:kS st.1 v=c1:=by rw[kS,f1]
   refine⟨A.length,rfl,by simp,v,sn rfl,a1,b1,c1,d1,e1,iF (λhh=>?_) (λhh=>⟨wF,?_⟩)⟩
   .have hh:=dQ hh;have:=ih (A++[v],B) ⟨by simp,by have h2:=h2;simp only[Cd,hk,aO hh]at h2;simp;omega⟩ (by simp);simp at this;exact this
   .have hh:=ez hh;simp only[Cd,hk,az hh]at h2;have:=aK (by omega);simp at this⊢;exact this
 .have h:=ez h;cases B with
  |cons v B=>simp at h;omega
  |nil=>simp only[Cd]at h2;have:=aK (by omega);refine⟨wF,?_⟩;simp at this⊢;exact this
theorem axZ{gs}(hl:dt gs.length)(ho:∀g∈gs,qA g)(hG:gs.length<400000)(hp:aH.bz.length<400000):
 ∀p:Nat×Nat×LI×LI,(p.1<=gs.length/\p.2.1<=p.1/\p.2.2.1.length=p.1/\p.2.2.2.length=p.1/\p.2.2.1++vF p.2.1 (gs.drop p.1)=aH.cy/\p.2.2.2++Cc st.1 aH.bz p.2.1 (gs.drop p.1)=aH.aR)->
 hZ [.oo 7] Z 85 120 8 (FW aH) (Bl f st aH.cy aH.bz aH.aR) (C0 (p.2.1:Int) (bD gs) gs.length (p.1:Int)) (yn f st p.2.2.1 aH.bz p.2.2.2) (aw Z 85 1):=by
 refine dS (λp=>gs.length-p.1) _ _ _ _ ?_;rintro⟨i,c,cy,aR⟩ ⟨hi,hc,sX,sT,h1,h2⟩ ih;simp only at hi hc sX sT h1 h2 ih⊢;refine XW iO Gq (n:=1000) (aR:=Ap) (by decide) (by kernel_rfl) ?_;rw[axY];refine iF (λax=>?_) (λbu=>?_)
 .have ax:i<gs.length:=by have:=dQ ax;simpa using this
  have⟨k,nm,ar,au,ls,v,he,bX,a_⟩:=By ax ho;rw[fY ax,he]at h1 h2;simp only[vF,Cc]at h1 h2;refine⟨i,rfl,ax,k,nm,ar,au,_,_,v,bX,⟨by simp[uC],by omega,rfl,rfl⟩,iF (λhk=>?_) (λhk=>?_)⟩
  .have hk:k=1:=by simpa using hk
   simp only[hk,if_true]at h1 h2;have nx:=ih (i+1,c+1,cy++[(c:Int)],aR++[(Cd st.1 c aH.bz:Int)]) ⟨by simp only;omega,by simp only;omega,by simp[sX],by simp[sT],by rw[<-h1];simp,by rw[<-h2];simp⟩ (by simp only;omega);have:=ax1 hp (by omega) (by omega) (by omega) rfl nx ([],aH.bz) ⟨rfl,by simp⟩;simp only[yn,bK,Jb,cI,ej,gW,ki]at this;exact this
  .have hk:¬k=1:=by simpa using hk
   simp only[hk,if_false]at h1 h2;have nx:=ih (i+1,c,cy++[(c:Int)],aR++[(0:Int)]) ⟨by simp only;omega,by simp only;omega,by simp[sX],by simp[sT],by rw[<-h1];simp,by rw[<-h2];simp⟩ (by simp only;omega);simp only[yn,bK,Jb,cI,ej,gW,ki]at nx;rw[lh hl ax];exact⟨⟨by simp[uC],by omega,rfl,rfl⟩,nx⟩
 .have bu:gs.length<=i:=by have:=ez bu;simp at this;omega
  rw[gQ bu]at h1 h2;simp only[vF,Cc,jm]at h1 h2;subst h1 h2;exact⟨rfl,rfl⟩
theorem axX(hl:dt f.aZ.length)(ho:∀g∈f.aZ,qA g)(hG:f.aZ.length<400000)(hod:st.2.length<400000)(X5:aH.bz=cC (kS st.1) (st.2.filter (GK st.1)))(HU:aH.cy=vF 0 f.aZ)(pP:aH.aR=Cc st.1 aH.bz 0 f.aZ):
 ∀k:LI×LI×LI,(k.1++k.2.1=st.2/\k.2.2=k.1.filter (GK st.1))->
 hZ [.oo 7] Z 85 120 8 (FW aH) (Bl f st aH.cy aH.bz aH.aR) (Nn st.2.length (k.1.length:Int)) (Xj f st k.2.2) (aw Z 85 0):=by
 refine dS (λk=>k.2.1.length) _ _ _ _ ?_;rintro⟨A,B,bz⟩ ⟨h1,h2⟩ ih;simp only at h1 h2 ih⊢;have wE:A.length+B.length=st.2.length:=by rw[<-h1];simp
 have kP:bz.length<=A.length:=by rw[h2];exact List.length_filter_le _ _
 refine XW iO Gq (n:=1000) (aR:=Ap) (by decide) (by kernel_rfl) ?_;rw[axW];refine iF (λh=>?_) (λh=>?_)
 .have h:=dQ h;cases B with
  |nil=>simp at wE;simp at h;omega
  |cons v B=>
   have⟨a1,b1,c1,d1,e1,f1⟩:=Rg st.1 v;have hw:wI ((A.length:Int)+1)=((A.length+1:Nat):Int):=om (lY _) (by omega);refine⟨A.length,rfl,by simp at wE;omega,v,by rw[<-h1];exact sn rfl,a1,b1,c1,d1,e1,a1,b1,c1,d1,e1,?_⟩;rw[hw];have BH:GK st.1 v=decide (b1<c1):=by simp[GK,Zz,f1]
   refine iF (λhh=>⟨⟨by simp[uC],by omega,rfl,rfl⟩,?_⟩) (λhh=>?_)
   .have:=ih (A++[v],B,bz++[v]) ⟨by rw[<-h1];simp,by rw[h2,I0];simp only[vQ,List.filter_nil,BH,hh,if_true]⟩ (by simp);simp only[Xj,bK,Jb,cI,ej,gW,ki]at this;exact this
   .have:=ih (A++[v],B,bz) ⟨by rw[<-h1];simp,by rw[h2,I0];simp only[vQ,List.filter_nil,BH,hh];simp⟩ (by simp);simp at this;exact this
 .have h:=ez h;cases B with
  |cons v B=>simp at wE;simp at h;omega
  |nil=>simp at h1;rw[h1]at h2;rw[<-h2]at X5;have wN:(cC (kS st.1) bz).length=bz.length:=qG _ _;refine⟨(st.1,bz),⟨rfl,rfl,by simp only;omega⟩,?_⟩;have:=axZ (f:=f) (st:=st) hl ho hG (by rw[X5,wN];omega) (0,0,[],[]) ⟨by simp,by simp,rfl,rfl,by simp[HU],by simp[<-pP]⟩;rw[X5]at this⊢;simp only[yn,wN]at this;exact this
end
theorem aDa(f st a b c):l9 0 [8,9,10] (Bl f st a b c)=some ⟨[(8,0),(9,1),(10,2)],hCh ⟨a,b,c⟩⟩:=by kernel_rfl
theorem ajD(f st):(Cj f st).2.length<=st.2.length+bM f.bC+fg f.aZ:=by
 have key:∀(gs:fO) (c:Nat) (st:gA),(Ck c st gs).2.length<=st.2.length+fg gs:=by
  intro gs;induction gs with
  |nil=>intro c st;simp[Ck]
  |cons g gs ih=>intro c st;have h1:=ajE c st g;have h2:=ih (if g.eO=1 then c+1 else c) (At c st g);simp only[Ck,fg];omega
 have h1:=IL 0 st f.bC;have h2:=key f.aZ 0 (jb 0 st f.bC);unfold Cj;omega
theorem anw:aU Z R26:=by
 refine cA Gq ?_;rintro f args H ⟨rfl,rfl,ho,hv,cv⟩;have hg:=P' f.aZ;have hod:(n9 f).2.length<=bM f.bC+fg f.aZ:=by have:=ajD f ([],[]);simp at this;exact this
 have rj:bZ Z 85 [.ah (gH f)] an (FW (eu f)) (Bl f (n9 f) (eu f).cy (eu f).bz (eu f).aR):=by
  refine eE 120 Gq ax2 ?_;have hd:DN jM (gH f)=true:=by rw[Pe];exact hv
  refine⟨⟨rfl,⟨f,rfl,ho⟩⟩,iF (λh=>(by have h:(!DN jM (gH f))=true:=h;rw[hd]at h;cases h)) (λ_=>⟨f,⟨rfl,rfl⟩,?_⟩)⟩;refine sS (H:=al [(0,dx f),(1,mX),(2,.aj [.aA 5] 193),(3,.aj [.aJ] 35),(4,dx f),(5,gw [])] 6) (H':=al ([(0,dx f),(1,mX),(2,.aj [.aA 5] 193),(3,.aj [.ai 6 0 1] 35),(4,dx f),(5,gw [])]++[(6,.ay [] 2)]) (6+1)) ?_ (vD (g:=3) (vs:=[.aJ]) (ep:=[.ai 6 0 1]) (el:=35) rfl (λid=>by simp only[cN];by_cases h:id=3<;>simp[h]) rfl (λφ x hx=>by obtain⟨v,l,rfl,h1,h2⟩:=hx;exact⟨v,l,rfl,qN h1,h2⟩) ⟨rfl,rfl⟩) (by kernel_rfl)
  .have HQ:br Z 85 120 0 (FW (eu f)) (Bl f (n9 f) (eu f).cy (eu f).bz (eu f).aR) (abx) (Yy f) (M3 Z 85 0):=by
    refine asg (H:=Yy f) iO Gq (n:=1000) (aR:=Ap) (gq _) (by kernel_rfl) ?_;rw[ax3];refine⟨(f,([],[])),⟨rfl,rfl,ho,by simp;omega⟩,by decide,?_⟩;have ZX:∀(φ:cj) (x:List Value) (a b c a' b' c':AV),(∀y,VR φ a y->VR φ a' y)->(∀y,VR φ b y->VR φ b' y)->(∀y,VR φ c y->VR φ c' y)->bp φ [a,b,c] x->bp φ [a',b',c'] x:=by rintro φ x a b c a' b' c' h1 h2 h3 ⟨v1,l1,rfl,k1,v2,l2,rfl,k2,v3,l3,rfl,k3,h4⟩;exact⟨v1,_,rfl,h1 _ k1,v2,_,rfl,h2 _ k2,v3,_,rfl,h3 _ k3,h4⟩
    refine HN (H:=al (vu f (n9 f) [.aJ,.aJ,.aJ] []) 9) (H':=al (vu f (n9 f) [.ai 9 0 1,.aJ,.aJ] []++[(9,.ay [] 3)]) (9+1)) ?_ (vD (g:=1) (l:=vu f (n9 f) [.aJ,.aJ,.aJ] []) (l':=vu f (n9 f) [.ai 9 0 1,.aJ,.aJ] []) (vs:=[.aJ,.aJ,.aJ]) (ep:=[.ai 9 0 1,.aJ,.aJ]) (el:=153) rfl (λid=>by simp only[vu,jm,cN];by_cases h:id=1<;>simp[h]) rfl (λφ x hx=>ZX φ x _ _ _ _ _ _ (λ_=>qN) (λ_ h=>h) (λ_ h=>h) hx) ⟨rfl,rfl⟩) (by kernel_rfl) ⟨(show 7<8 by omega),trivial⟩;refine HN (H:=al (vu f (n9 f) [.ai 9 0 1,.aJ,.aJ] [(9,.ay [] 3)]) 10) (H':=al (vu f (n9 f) [.ai 9 0 1,.ai 10 0 1,.aJ] [(9,.ay [] 3)]++[(10,.ay [] 2)]) (10+1)) ?_ (vD (g:=1) (l:=vu f (n9 f) [.ai 9 0 1,.aJ,.aJ] [(9,.ay [] 3)]) (l':=vu f (n9 f) [.ai 9 0 1,.ai 10 0 1,.aJ] [(9,.ay [] 3)]) (ep:=[.ai 9 0 1,.ai 10 0 1,.aJ]) rfl (λid=>by simp only[vu,oH,Cy,cN];by_cases h:id=1<;>simp[h]) rfl (λφ x hx=>ZX φ x _ _ _ _ _ _ (λ_ h=>h) (λ_=>qN) (λ_ h=>h) hx) ⟨rfl,rfl⟩) (by kernel_rfl) ⟨(show 7<8 by omega),trivial⟩;refine HN (H':=al (vu f (n9 f) [.ai 9 0 1,.ai 10 0 1,.ai 11 0 1] [(9,.ay [] 3),(10,.ay [] 2)]++[(11,.ay [] 3)]) (11+1)) ?_ (vD (g:=1) (ep:=[.ai 9 0 1,.ai 10 0 1,.ai 11 0 1]) rfl (λid=>by simp only[vu,oH,Cy,cN];by_cases h:id=1<;>simp[h]) rfl (λφ x hx=>ZX φ x _ _ _ _ _ _ (λ_ h=>h) (λ_ h=>h) (λ_=>qN) hx) ⟨rfl,rfl⟩) (by kernel_rfl) ⟨(show 7<8 by omega),trivial⟩;exact axX ho.2.2.2.1 ho.2.2.2.2 (by omega) (by omega) rfl rfl rfl ([],(n9 f).2,[]) ⟨by simp,by simp⟩
   exact HQ
 refine nh rj (aDa f (n9 f) (eu f).cy (eu f).bz (eu f).aR) ?_;rfl
end Go.Cl
namespace Go.Cl
open Go.Ev Go.Proofs
noncomputable section
structure cg(n:Nat)(m m':Em):Prop where
 tr:∃l:gL,m'.bg=l.foldl nS m.bg/\l.length<=n/\∀i∈l,i.op≠19/\i.op≠20
 f:m'.f=m.f
theorem cg.xK(m):cg 0 m m:=⟨⟨[],rfl,cM _,λ_ h=>by cases h⟩,rfl⟩
theorem cg.fE{m m'}(h:m'.bg=m.bg)(hf:m'.f=m.f):cg 0 m m':=⟨⟨[],h,cM _,λ_ h=>by cases h⟩,hf⟩
theorem cg.mQ{a b m m1 m2}(h1:cg a m m1)(h2:cg b m1 m2):cg (a+b) m m2:=by
 have⟨⟨l1,e1,n1,p1⟩,f1⟩:=h1;have⟨⟨l2,e2,n2,p2⟩,f2⟩:=h2;refine⟨⟨l1++l2,by rw[I8,<-e1,e2],by simp;omega,λi hi=>?_⟩,f2.trans f1⟩;rcases ia.1 hi with h|h
 .exact p1 i h
 .exact p2 i h
theorem cg.le{a b m m'}(h:cg a m m')(hab:a<=b):cg b m m':=by have⟨⟨l,e,n,p⟩,f⟩:=h;exact⟨⟨l,e,by omega,p⟩,f⟩
theorem cg.aY(m){i}(h:i.op≠19/\i.op≠20):cg 1 m (m.aY i):=⟨⟨[i],rfl,cM _,λj hj=>by simp at hj;subst hj;exact h⟩,rfl⟩
theorem cg.Tl(m):cg 0 m m.bY:=.fE rfl rfl
theorem cg.jo(m v):cg 0 m (m.jo v):=.fE rfl rfl
theorem cg.Ao(m v):cg 0 m (m.Ao v):=.fE rfl rfl
theorem cg.nK(m){v a b c}(h1:a≠19/\a≠20)(h2:b≠19/\b≠20):cg 1 m (m.nK v a b c):=by
 have:cg (0+1+0) m (((m.jo v).aY ⟨bif m.ra v then b else a,m.mL v,c,0,[],0⟩).Ao v):=((cg.jo m v).mQ (.aY _ (by
  cases m.ra v
  .exact h1
  .exact h2))).mQ (.Ao _ v)
 exact this
theorem cg.wD(m w):cg 1 m (m.wD w):=by
 unfold Em.wD;split
 .exact .nK m (by decide) (by decide)
 .exact(cg.xK m).le (by omega)
theorem cg.vM(m w):cg 1 m (m.vM w):=by
 unfold Em.vM;split
 .exact .nK m (by decide) (by decide)
 .exact .aY m (by simp)
theorem cg.mj(m t b):cg 1 m (m.mj t b):=by
 unfold Em.mj;split
 .split
  .exact .nK m (by decide) (by decide)
  .exact .aY m (by simp)
 .split
  .exact .aY m (by simp)
  .split
   .exact .aY m (by simp)
   .exact .aY m (by simp)
theorem cg.sw:∀l m,cg l.length m (m.sw l)
 |[],m=>.xK m
 |(t,b)::l,m=>by have h:=(cg.mj m t b).mQ (cg.sw l (m.mj t b));simp at h⊢;exact h.le (by omega)
mutual
theorem cg.build:∀(m:Em) (r:Int) (t:aI),cg (2*bN t-1) m (m.pz r t)
 |m,r,.mk k n s l=>by
  have h1:=cg.jS m l;have hq:=Is l;have h2:=cg.aY (m.jS l).1 (i:=⟨15,r,0,0,s,l.length⟩) (by simp);have h3:=cg.sw (l.zip (m.jS l).2) ((m.jS l).1.aY ⟨15,r,0,0,s,l.length⟩);have h4:(l.zip (m.jS l).2).length<=l.length:=by simp;omega
  simp only[Em.pz,bN];exact((h1.mQ h2).mQ h3).le (by omega)
theorem cg.jS:∀(m:Em) (l:eK),cg (2*bM l-l.length) m (m.jS l).1
 |m,[]=>by simp only[Em.jS];exact(cg.xK m).le (by omega)
 |m,t::l=>by
  have hp:=sk t;have hq:=Is l;simp only[Em.jS,bM,ej];split
  .have h1:=cg.build m.bY m.bY.c9 t;have h2:=cg.jS (m.bY.pz m.bY.c9 t) l;have h3:=(cg.Tl m).mQ (h1.mQ h2);exact h3.le (by omega)
  .exact(cg.jS m l).le (by omega)
end
theorem cg.jq(m t):cg (2*bN t-fq (m.jq t).2) m (m.jq t).1:=by
 have hp:=sk t;unfold Em.jq;split
 .simp only[fq];split
  .exact(cg.nK m (by decide) (by decide)).le (by omega)
  .exact(cg.aY m (by simp)).le (by omega)
 .split
  .simp only[fq];exact(cg.aY m (by simp)).le (by omega)
  .split
   .simp only[fq];exact(cg.aY m (by simp)).le (by omega)
   .have⟨k,n,s,l⟩:=t;simp only[fq,aI.bh,bN];exact((cg.Tl m).mQ (.aY _ (by simp))).le (by omega)
theorem cg.jr:∀l m q,cg (2*bM l+fq q-fq (m.jr q l).2) m (m.jr q l).1/\fq (m.jr q l).2<=fq q+2*bM l
 |[],m,q=>by simp only[Em.jr,bM];exact⟨(cg.xK m).le (by omega),by omega⟩
 |t::l,m,q=>by have h1:=cg.jq m t;have h2:=cg.jr l (m.jq t).1 (q++(m.jq t).2);have h3:=adT m t;simp only[Em.jr,bM];rw[M0]at h2;exact⟨(h1.mQ h2.1).le (by omega),by omega⟩
theorem cg.uV:∀n m q,cg (fq q) m (m.uV n q)
 |0,m,q=>(cg.xK m).le (by omega)
 |n+1,m,[]=>(cg.xK m).le (by omega)
 |n+1,m,w::q=>by have h1:=cg.aY m (i:=⟨5,0,w.1,0,w.2.cK,w.2.bh.length⟩) (by simp);have h2:=cg.jr w.2.bh (m.aY ⟨5,0,w.1,0,w.2.cK,w.2.bh.length⟩) q;have h3:=cg.uV n ((m.aY ⟨5,0,w.1,0,w.2.cK,w.2.bh.length⟩).jr q w.2.bh).1 ((m.aY ⟨5,0,w.1,0,w.2.cK,w.2.bh.length⟩).jr q w.2.bh).2;simp only[Em.uV,fq];exact((h1.mQ h2.1).mQ h3).le (by omega)
theorem cg.get(m w):cg (2*bN w.2) m (m.rM w):=by
 have hp:=sk w.2;unfold Em.rM;split
 .exact(cg.wD m w).le (by omega)
 .split
  .exact(cg.aY m (by simp)).le (by omega)
  .split
   .exact(cg.aY m (by simp)).le (by omega)
   .have:=cg.uV (fq [w]+1) m [w];have⟨r,k,n,s,l⟩:=w;simp only[fq,aI.bh]at this;simp only[Em.Hm,bN,fq,aI.bh];exact this.le (by omega)
theorem cg.i_:∀l i m,cg (2*bM l) m (Em.i_ i m l)
 |[],i,m=>(cg.xK m).le (by omega)
 |t::l,i,m=>by have h:=(cg.get m (((i+1:Nat):Int),t)).mQ (cg.i_ l (i+1) (m.rM (((i+1:Nat):Int),t)));simp only[Em.i_,bM]at h⊢;exact h.le (by omega)
theorem cg.put(m w):cg (2*bN w.2) m (m.pA w):=by
 have hp:=sk w.2;unfold Em.pA;split
 .exact(cg.vM m w).le (by omega)
 .split
  .exact(cg.aY m (by simp)).le (by omega)
  .split
   .exact(cg.aY m (by simp)).le (by omega)
   .exact(cg.build m w.1 w.2).le (by omega)
theorem cg.fD:∀l i m,cg (2*bM l) m (Em.fD i m l)
 |[],i,m=>(cg.xK m).le (by omega)
 |t::l,i,m=>by have h:=(cg.put m (((i+1:Nat):Int),t)).mQ (cg.fD l (i+1) (m.pA (((i+1:Nat):Int),t)));simp only[Em.fD,bM]at h⊢;exact h.le (by omega)
theorem cg.de(m e):cg 1 m (m.de e):=by
 cases e
 .exact(cg.xK m).le (by omega)
 .exact .aY m (by simp)
theorem cg.lR(m w)(h:w.1≠19/\w.1≠20):cg 2 m (m.lR w):=by
 unfold Em.lR;cases m.ra w.2
 .exact((cg.jo m w.2).mQ ((cg.aY _ h).mQ (.Ao _ w.2))).le (by omega)
 .exact((((cg.Tl m).mQ (cg.aY _ h)).mQ (.jo _ w.2)).mQ (.aY _ (by simp))).le (by omega)
theorem cg.cut(m v):cg 1 m (m.rL v):=by
 unfold Em.rL;cases m.ra v
 .exact(cg.xK m).le (by omega)
 .exact((cg.jo m v).mQ (.aY _ (by simp))).le (by omega)
def nH:fO->Nat
 |[]=>0
 |g::l=>(if g.eO=1 then 1 else 0)+nH l
theorem V7(a b):gS (a++b)=gS a+gS b:=by simp[gS]
theorem Kq(c i):gS (nS c i)<=gS c+(if i.op=19 then 1 else 0):=by
 have one:∀j:et,gS [j]=if j.op=19 then 1 else 0:=by intro j;by_cases h:j.op=19<;>simp[gS,h]
 have mh:gS (c++[i])=gS c+(if i.op=19 then 1 else 0):=by rw[V7,one]
 unfold nS;split
 .split;next BA x hx=>
   split;next ata=>
    obtain⟨d,rfl⟩:∃d,c=d++[x]:=by
     have cE:c≠[]:=by rintro rfl;simp at hx
     refine⟨c.dropLast,?_⟩;have:=List.dropLast_concat_getLast cE;rw[List.getLast?_eq_some_getLast cE]at hx;cases hx;exact this.symm
    rw[V7,V7,one,List.dropLast_concat,az (by simp[ata])];omega
   .omega
  .omega
 .omega
theorem aep:∀(l c:gL),(∀i∈l,i.op≠19)->gS (l.foldl nS c)<=gS c/\(l.foldl nS c).length<=c.length+l.length
 |[],c,_=>by simp
 |i::l,c,h=>by have h1:=Kq c i;rw[az (h i (by simp))]at h1;have h2:=Bb c i;have h3:=aep l (nS c i) (λj hj=>h j (by simp[hj]));simp;exact⟨by omega,by omega⟩
theorem cg.tH{n m m'}(h:cg n m m'):gS m'.bg<=gS m.bg/\m'.bg.length<=m.bg.length+n:=by
 have⟨⟨l,e,hl,hp⟩,_⟩:=h;have:=aep l m.bg λi hi=>(hp i hi).1
 rw[<-e]at this;exact⟨this.1,by omega⟩
theorem Xh(c base cS):∀l i size m,
 gS (Em.aZ c base cS i size m l).bg<=gS m.bg+nH l/\(Em.aZ c base cS i size m l).bg.length<=m.bg.length+ox l/\(Em.aZ c base cS i size m l).f=m.f
 |[],i,size,m=>by have h:=((cg.de m cS).mQ (cg.aY (m.de cS) (i:=⟨21,0,0,0,[],0⟩) (by simp)));have hb:=h.tH;simp only[Em.aZ,nH,ox];exact⟨by omega,by omega,h.f⟩
 |g::l,i,size,m=>by
  have next:∀(m1:Em) (FG:Int) (k n:Nat),gS m1.bg<=gS m.bg+k->m1.bg.length<=m.bg.length+n->m1.f=m.f->k<=(if g.eO=1 then 1 else 0)->n<=2*bM g.eN+4->
   gS (Em.aZ c base cS (i+1) FG m1 l).bg<=gS m.bg+nH (g::l)/\(Em.aZ c base cS (i+1) FG m1 l).bg.length<=m.bg.length+ox (g::l)/\(Em.aZ c base cS (i+1) FG m1 l).f=m.f:=by
   intro m1 FG k n h1 h2 h3 h4 h5;have⟨a1,a2,a3⟩:=Xh c base cS l (i+1) FG m1;simp only[nH,ox];exact⟨by omega,by omega,a3.trans h3⟩
  have done:∀(m1:Em) (n:Nat),cg n m m1->n<=2*bM g.eN+4->gS m1.bg<=gS m.bg+nH (g::l)/\m1.bg.length<=m.bg.length+ox (g::l)/\m1.f=m.f:=by intro m1 n h hn;have hb:=h.tH;simp only[nH,ox];exact⟨by omega,by omega,h.f⟩
  unfold Em.aZ;split
  .have h:=cg.lR m (22,g.lG) (by simp);exact next _ _ 0 2 (by have:=h.tH;omega) h.tH.2 h.f (by omega) (by omega)
  split
  .have h:=cg.lR m (23,g.lG) (by simp);exact next _ _ 0 2 (by have:=h.tH;omega) h.tH.2 h.f (by omega) (by omega)
  split
  .have h:=cg.cut m g.lG;exact next _ _ 0 1 (by have:=h.tH;omega) h.tH.2 h.f (by omega) (by omega)
  split
  .exact done _ 1 (cg.aY m (by simp)) (by omega)
  split;next hk=>
   have hp:=cg.fD g.eN 0 m;cases l with
   |nil=>have h1:=hp.mQ (cg.de _ cS);have hb:=h1.tH;have h2:=Kq ((m.fD 0 g.eN).de cS).bg ⟨20,0,0,g.aN.au,g.aN.cL,g.aN.ar⟩;have h3:=Bb ((m.fD 0 g.eN).de cS).bg ⟨20,0,0,g.aN.au,g.aN.cL,g.aN.ar⟩;simp at h2;simp only[nH,ox];exact⟨kF h2 (by omega),kF h3 (by omega),h1.f⟩
   |cons g' l=>
    simp only;split
    .have h1:=hp.mQ (cg.aY (m.fD 0 g.eN) (i:=⟨17,0,0,c.aR.getD i 0,[],0⟩) (by simp));have hb:=h1.tH;have h2:=Kq ((m.fD 0 g.eN).aY ⟨17,0,0,c.aR.getD i 0,[],0⟩).bg ⟨19,0,0,g.aN.au,g.aN.cL,g.aN.ar⟩;have h3:=Bb ((m.fD 0 g.eN).aY ⟨17,0,0,c.aR.getD i 0,[],0⟩).bg ⟨19,0,0,g.aN.au,g.aN.cL,g.aN.ar⟩;simp only[if_true]at h2;exact next _ _ 1 (2*bM g.eN+2) (kF h2 (by omega)) (kF h3 (by omega)) h1.f (by rw[aO hk];omega) (by omega)
    .have hb:=hp.tH;have h2:=Kq (m.fD 0 g.eN).bg ⟨19,0,0,g.aN.au,g.aN.cL,g.aN.ar⟩;have h3:=Bb (m.fD 0 g.eN).bg ⟨19,0,0,g.aN.au,g.aN.cL,g.aN.ar⟩;simp at h2;exact next _ _ 1 (2*bM g.eN+1) (kF h2 (by omega)) (kF h3 (by omega)) hp.f (by rw[aO hk];omega) (by omega)
  .exact next _ _ 0 0 (by omega) (by omega) rfl (by omega) (by omega)
theorem O1:∀gs d c,(xZ d c gs).length=d.length+1+nH gs
 |[],d,c=>by simp[xZ,nH]
 |g::gs,d,c=>by
  unfold xZ;split;next h=>have:=O1 gs (d++[max c (g.eN.length:Int)]) 0;simp only[nH,aO h,cI,ej,gW]at this⊢;omega
  next h=>have:=O1 gs d c;simp only[nH,az h]at this⊢;omega
theorem ai6:∀gs:fO,nH gs<=gs.length
 |[]=>by simp[nH]
 |g::gs=>by have:=ai6 gs;simp only[nH,ej];split<;>omega
theorem aiB(sp bz):∀c gs,(Cc sp bz c gs).length=gs.length
 |c,[]=>rfl
 |c,g::gs=>by simp[Cc,aiB sp bz _ gs]
theorem ajH:∀(gs c i) (h:i<gs.length),(vF c gs).getD i 0=((c+nH (gs.take i):Nat):Int)/\(gs[i].eO=1->nH (gs.take i)+1<=nH gs)
 |[],c,i,h=>by simp at h
 |g::gs,c,0,h=>by simp only[vF,mK,List.take_zero,nH,qdq];refine⟨by simp,λhk=>?_⟩;rw[aO hk];omega
 |g::gs,c,i+1,h=>by
  have hl:i<gs.length:=by simpa using h
  have:=ajH gs (if g.eO=1 then c+1 else c) i hl;simp only[vF,rB,qei,nH,Cz];refine⟨?_,λhk=>?_⟩
  .rw[this.1];split<;>(congr 1;omega)
  .have:=this.2 hk;omega
def kL:fO->fO
 |[]=>[]
 |g::l=>if g.eO=5 then[g]else g::kL l
def bw(f:bG):bG:=⟨f.aN,f.bC,kL f.aZ⟩
theorem Wn:∀l g,g∈kL l->g∈l
 |[],g,h=>h
 |x::l,g,h=>by
  unfold kL at h;split at h
  .simp at h;subst h;simp
  .rcases dm.1 h with rfl|h
   .simp
   .exact dZ _ (Wn l g h)
theorem Pc:∀l:fO,(kL l).length<=l.length
 |[]=>by simp[kL]
 |x::l=>by have:=Pc l;unfold kL;split<;>simp<;>omega
theorem Wm:∀l:fO,fg (kL l)<=fg l
 |[]=>by simp[kL]
 |x::l=>by have:=Wm l;unfold kL;split<;>simp only[fg]<;>omega
theorem aeV:∀l b left,uZ b left l=true->uZ b left (kL l)=true
 |[],b,left,h=>h
 |x::l,b,left,h=>by
  unfold kL;simp only[uZ,dk]at h;split
  .simp only[uZ,h.1.1,h.1.2,kZ]
  .simp only[uZ,h.1.1,h.1.2,rA];exact aeV l _ _ h.2
theorem aeU{f}(h:jM f=true):jM (bw f)=true:=by simp only[jM,dk]at h⊢;exact⟨h.1,aeV _ _ _ h.2⟩
theorem aeT{f}(h:iW f):iW (bw f):=by refine⟨h.1,h.2.1,h.2.2.1,?_,λg hg=>h.2.2.2.2 g (Wn _ g hg)⟩;have:=Pc f.aZ;have:=h.2.2.2.1;unfold dt at*;show(kL f.aZ).length<_;omega
end
end Go.Cl
