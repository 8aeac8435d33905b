/- Part of a proof of AreaLists. -/
import Derived.Test.YtjgjeokjclpjnaaGreatB2
set_option linter.all false
set_option linter.unusedSectionVars false
set_option maxRecDepth 100000
namespace Go.Cl
open Go.Ev Go.Proofs
noncomputable section
def y_:Nat->LI->Nat->LI
 |0,l,_=>l
 |f+1,l,j=>if(j-1)/ 2=j\/¬l.getD j 0<l.getD ((j-1)/ 2) 0 then l else y_ f (oL l ((j-1)/ 2) j) ((j-1)/ 2)
def tM:Nat->LI->Nat->Nat->LI×Nat
 |0,l,i,_=>(l,i)
 |f+1,l,i,n=>
  if 2*i+1>=n then(l,i)
  else
   let j:=if 2*i+2<n/\l.getD (2*i+2) 0<l.getD (2*i+1) 0 then 2*i+2 else 2*i+1
   if¬l.getD j 0<l.getD i 0 then(l,i)else tM f (oL l i j) j n
def upX:cx (LI×Nat)where
 bn w A H:=A=[.dT 246 (.aa 0 0),J (w.2:Int)]/\H=fR w.1/\w.2<w.1.length/\w.1.length<1200000
 v w:=.aC []
 aK w:=fR (y_ (w.2+1) w.1 w.2)
def ae3:cx (LI×Nat×Nat)where
 bn w A H:=A=[.dT 246 (.aa 0 0),J (w.2.1:Int),J (w.2.2:Int)]/\H=fR w.1/\w.2.2<=w.1.length/\w.1.length<1200000/\w.2.1<=w.2.2/\w.2.1<w.1.length
 v w:=.ao (decide ((tM (w.2.2+1) w.1 w.2.1 w.2.2).2>w.2.1))
 aK w:=fR (tM (w.2.2+1) w.1 w.2.1 w.2.2).1
def ahw:cx (LI×Int)where
 bn w A H:=A=[.dT 246 (.aa 0 0),.dT 3 (J w.2)]/\H=fR w.1/\w.1.length<1000000
 v w:=.aC []
 aK w:=RH (y_ (w.1.length+1) (w.1++[w.2]) w.1.length)
def ry(l:LI):LI:=(tM l.length (oL l 0 (l.length-1)) 0 (l.length-1)).1
def ahv:cx LI where
 bn l A H:=A=[.dT 246 (.aa 0 0)]/\H=fR l/\0<l.length/\l.length<1000000
 v l:=.dT 3 (J ((ry l).getD (l.length-1) 0))
 aK l:=fR ((ry l).take (l.length-1))
theorem aCP:upX.cr:=by
 rintro⟨l,j⟩ ⟨l',j'⟩ A H ⟨h1,h2,_⟩ ⟨k1,k2,_⟩;have e:=HA (h2.symm.trans k2);rw[h1]at k1;simp at k1 e;have e1:j=j':=by omega
 rw[e,e1]
theorem apH:ae3.cr:=by
 rintro⟨l,i,j⟩ ⟨l',i',j'⟩ A H ⟨h1,h2,_⟩ ⟨k1,k2,_⟩;have e:=HA (h2.symm.trans k2);rw[h1]at k1;simp at k1 e;have e1:i=i':=by omega
 have e2:j=j':=by omega
 rw[e,e1,e2]
theorem asL:ahw.cr:=by rintro⟨l,x⟩ ⟨l',x'⟩ A H ⟨h1,h2,_⟩ ⟨k1,k2,_⟩;have e:=HA (h2.symm.trans k2);rw[h1]at k1;simp at k1 e;rw[e,k1]
theorem asJ:ahv.cr:=by rintro l l' A H ⟨_,h2,_⟩ ⟨_,k2,_⟩;rw[HA (h2.symm.trans k2)]
def G6:Ev.bo:=bR 188 (ca upX aCP cD) G5
def G7:Ev.bo:=bR 190 (ca ae3 apH cD) G6
def G8:Ev.bo:=bR 178 (ca ahw asL cD) G7
def G9:Ev.bo:=bR 181 (ca ahv asJ cD) G8
abbrev SV x0:=aB [(0,.dT 246 (.aa 0 0)),(1,J x0)]
theorem axw{l j L Q}:
 bI Z G5 (λ_=>[0,1]) L Q 1000 188 [.dT 246 (.aa 0 0),J j] (fR l)=(
 L (SV j) (fR l) (aw Z 188 0)):=by kernel_rfl
abbrev yo x0 x1:=al [(0,.aj [.ai 1 x0 1] 247),(1,bK x1 3)] 2
theorem axx{l j L Q}:
 ck Z G5 (λ_=>[0,1]) L Q 1000 188 2 (SV j) (aw Z 188 0) (fR l)=(
 aq (wI (Int.tdiv (wI (j-1)) 2)==j) (Q (.aC []) (fR l)) (∃w:LI×Nat×Nat,(([.ai 0 l.length 1,J j,J (wI (Int.tdiv (wI (j-1)) 2))]:LV)=[.ai 0 w.1.length 1,J ((w.2.1:Nat):Int),J ((w.2.2:Nat):Int)]/\dz l=dz w.1/\w.2.1<w.1.length/\w.2.2<w.1.length)/\aq (!decide (List.getD w.1 w.2.1 0<List.getD w.1 w.2.2 0)) (Q (.aC []) (yo l.length w.1)) (∃ae:LI×Nat×Nat,(([.ai 0 l.length 1,J (wI (Int.tdiv (wI (j-1)) 2)),J j]:LV)=[.ai 0 ae.1.length 1,J ((ae.2.1:Nat):Int),J ((ae.2.2:Nat):Int)]/\dz w.1=dz ae.1/\ae.2.1<ae.1.length/\ae.2.2<ae.1.length)/\L (SV (wI (Int.tdiv (wI (j-1)) 2))) (yo l.length (oL ae.1 ae.2.1 ae.2.2)) (aw Z 188 0)))):=by kernel_rfl
abbrev CZ x0 x1 x2:=aB [(0,.dT 246 (.aa 0 0)),(1,J x0),(2,J x1),(7,J x2)]
theorem axF{l i n L Q}:
 bI Z G6 (λ_=>[0,1,2,7]) L Q 1000 190 [.dT 246 (.aa 0 0),J i,J n] (fR l)=(
 L (CZ i n i) (fR l) (aw Z 190 0)):=by kernel_rfl
theorem axG{l i0 i n L Q}:
 ck Z G6 (λ_=>[0,1,2,7]) L Q 1000 190 2 (CZ i0 n i) (aw Z 190 0) (fR l)=(
 aq (decide (wI (wI (2*i)+1)>=n)) (Q (.ao (decide (i>i0))) (fR l)) (aq (decide (wI (wI (2*i)+1)<0)) (Q (.ao (decide (i>i0))) (fR l)) (aq (decide (wI (wI (wI (2*i)+1)+1)<n)) (∃w:LI×Nat×Nat,(([.ai 0 l.length 1,J (wI (wI (wI (2*i)+1)+1)),J (wI (wI (2*i)+1))]:LV)=[.ai 0 w.1.length 1,J ((w.2.1:Nat):Int),J ((w.2.2:Nat):Int)]/\dz l=dz w.1/\w.2.1<w.1.length/\w.2.2<w.1.length)/\aq (decide (List.getD w.1 w.2.1 0<List.getD w.1 w.2.2 0)) (∃ae:LI×Nat×Nat,(([.ai 0 l.length 1,J (wI (wI (wI (2*i)+1)+1)),J i]:LV)=[.ai 0 ae.1.length 1,J ((ae.2.1:Nat):Int),J ((ae.2.2:Nat):Int)]/\dz w.1=dz ae.1/\ae.2.1<ae.1.length/\ae.2.2<ae.1.length)/\aq (!decide (List.getD ae.1 ae.2.1 0<List.getD ae.1 ae.2.2 0)) (Q (.ao (decide (i>i0))) (yo l.length ae.1)) (∃aS:LI×Nat×Nat,(([.ai 0 l.length 1,J i,J (wI (wI (wI (2*i)+1)+1))]:LV)=[.ai 0 aS.1.length 1,J ((aS.2.1:Nat):Int),J ((aS.2.2:Nat):Int)]/\dz ae.1=dz aS.1/\aS.2.1<aS.1.length/\aS.2.2<aS.1.length)/\L (CZ i0 n (wI (wI (wI (2*i)+1)+1))) (yo l.length (oL aS.1 aS.2.1 aS.2.2)) (aw Z 190 0))) (∃ae:LI×Nat×Nat,(([.ai 0 l.length 1,J (wI (wI (2*i)+1)),J i]:LV)=[.ai 0 ae.1.length 1,J ((ae.2.1:Nat):Int),J ((ae.2.2:Nat):Int)]/\dz w.1=dz ae.1/\ae.2.1<ae.1.length/\ae.2.2<ae.1.length)/\aq (!decide (List.getD ae.1 ae.2.1 0<List.getD ae.1 ae.2.2 0)) (Q (.ao (decide (i>i0))) (yo l.length ae.1)) (∃aS:LI×Nat×Nat,(([.ai 0 l.length 1,J i,J (wI (wI (2*i)+1))]:LV)=[.ai 0 aS.1.length 1,J ((aS.2.1:Nat):Int),J ((aS.2.2:Nat):Int)]/\dz ae.1=dz aS.1/\aS.2.1<aS.1.length/\aS.2.2<aS.1.length)/\L (CZ i0 n (wI (wI (2*i)+1))) (yo l.length (oL aS.1 aS.2.1 aS.2.2)) (aw Z 190 0)))) (∃w:LI×Nat×Nat,(([.ai 0 l.length 1,J (wI (wI (2*i)+1)),J i]:LV)=[.ai 0 w.1.length 1,J ((w.2.1:Nat):Int),J ((w.2.2:Nat):Int)]/\dz l=dz w.1/\w.2.1<w.1.length/\w.2.2<w.1.length)/\aq (!decide (List.getD w.1 w.2.1 0<List.getD w.1 w.2.2 0)) (Q (.ao (decide (i>i0))) (yo l.length w.1)) (∃ae:LI×Nat×Nat,(([.ai 0 l.length 1,J i,J (wI (wI (2*i)+1))]:LV)=[.ai 0 ae.1.length 1,J ((ae.2.1:Nat):Int),J ((ae.2.2:Nat):Int)]/\dz w.1=dz ae.1/\ae.2.1<ae.1.length/\ae.2.2<ae.1.length)/\L (CZ i0 n (wI (wI (2*i)+1))) (yo l.length (oL ae.1 ae.2.1 ae.2.2)) (aw Z 190 0)))))):=by kernel_rfl
theorem axg{l x L Q}:
 bI Z G7 (λ_=>[]) L Q 1000 178 [.dT 246 (.aa 0 0),.dT 3 (J x)] (fR l)=(
 ∃w:LI×Int,(([.aa 0 0,.dT 3 (J x)]:LV)=[.aa 0 0,.dT 3 (J w.2)]/\fR l=fR w.1/\w.1.length<1200000)/\(∃ae,(([.ai 0 (w.1++[w.2]).length 1]:LV)=[.ai 0 ae.length 1]/\dz (w.1++[w.2])=dz ae)/\(∃aS:LI×Nat,(([.dT 246 (.aa 0 0),J (wI (aE ae.length-1))]:LV)=[.dT 246 (.aa 0 0),J ((aS.2:Nat):Int)]/\yo (w.1++[w.2]).length ae=fR aS.1/\aS.2<aS.1.length/\aS.1.length<1200000)/\Q (.aC []) (RH (y_ (aS.2+1) aS.1 aS.2))))):=by kernel_rfl
theorem axk{l L Q}:
 bI Z G8 (λ_=>[]) L Q 1000 181 [.dT 246 (.aa 0 0)] (fR l)=(
 ∃w,(([.ai 0 l.length 1]:LV)=[.ai 0 w.length 1]/\dz l=dz w)/\(∃ae:LI×Nat×Nat,(([.ai 0 l.length 1,J 0,J (wI (aE w.length-1))]:LV)=[.ai 0 ae.1.length 1,J ((ae.2.1:Nat):Int),J ((ae.2.2:Nat):Int)]/\dz w=dz ae.1/\ae.2.1<ae.1.length/\ae.2.2<ae.1.length)/\(∃aS:LI×Nat×Nat,(([.dT 246 (.aa 0 0),J 0,J (wI (aE w.length-1))]:LV)=[.dT 246 (.aa 0 0),J ((aS.2.1:Nat):Int),J ((aS.2.2:Nat):Int)]/\yo l.length (oL ae.1 ae.2.1 ae.2.2)=fR aS.1/\aS.2.2<=aS.1.length/\aS.1.length<1200000/\aS.2.1<=aS.2.2/\aS.2.1<aS.1.length)/\(∃c_:LI×Int,(([.aa 0 0]:LV)=[.aa 0 0]/\fR (tM (aS.2.2+1) aS.1 aS.2.1 aS.2.2).1=fR (c_.1++[c_.2])/\c_.1.length<1200000)/\Q (.dT 3 (J c_.2)) (fR c_.1))))):=by kernel_rfl
theorem sh(l i j):(oL l i j).length=l.length:=by simp[oL]
theorem avh{j:Nat}(h:j<1200000):wI (Int.tdiv (wI ((j:Int)-1)) 2)=(((j-1)/ 2:Nat):Int):=by
 cases j with
 |zero=>rfl
 |succ j=>
  have e0:((j+1:Nat):Int)-1=(j:Int):=by simp
  rw[e0,cO (x:=(j:Int)) (by omega) (by omega),Int.tdiv_eq_ediv_of_nonneg (by omega)];have e1:((j:Int)/ 2)=((j / 2:Nat):Int):=by simp
  rw[e1,cO (by omega) (by omega)];simp
theorem ami:∀f l j,(y_ f l j).length=l.length
 |0,l,j=>rfl
 |f+1,l,j=>by
  unfold y_;split
  .rfl
  .rw[ami f,sh]
theorem axv{aH}:∀p:Nat×LI×Nat,(p.2.2<p.1/\p.2.2<p.2.1.length/\p.2.1.length<1200000/\y_ p.1 p.2.1 p.2.2=aH)->
 br Z 188 23 2 (.aC []) (fR aH) (SV (p.2.2:Int)) (fR p.2.1) (aw Z 188 0):=by
 refine dS (λp=>p.1) _ _ _ _ ?_;rintro⟨f,l,j⟩ ⟨h1,h2,h3,hf⟩ ih;simp only at h1 h2 h3 hf ih⊢;obtain⟨f,rfl⟩:∃g,f=g+1:=⟨f-1,by omega⟩;refine hD Ub 1000 (λ_=>[0,1]) (by kernel_rfl) ?_;rw[axx,avh (by omega)];unfold y_ at hf;refine aD.2 ⟨λh=>?_,λh=>?_⟩
 .rw[aO (.inl (by simp at h;omega))]at hf;subst hf;exact⟨rfl,rfl⟩
 have h:¬(j-1)/ 2=j:=by simp at h;omega
 have hp:(j-1)/ 2<l.length:=by omega
 refine⟨(l,j,(j-1)/ 2),⟨rfl,rfl,h2,hp⟩,aD.2 ⟨λh4=>?_,λh4=>?_⟩⟩
 .rw[aO (.inr (by simpa using h4))]at hf;subst hf;exact⟨rfl,rfl⟩
 .have h6:l.getD j 0<l.getD ((j-1)/ 2) 0:=by simpa using h4
  rw[az (by rintro(h5|h5);exact h h5;exact h5 h6)]at hf;refine⟨(l,(j-1)/ 2,j),⟨rfl,rfl,hp,h2⟩,?_⟩;have next:=ih (f,oL l ((j-1)/ 2) j,(j-1)/ 2) ⟨by simp;omega,by simp only[sh];exact hp,by simp only[sh];exact h3,hf⟩ (by simp)
  simp only[fR,sh]at next
  exact next
theorem Uc:aU Z G6:=by refine cA Ub ?_;rintro⟨l,j⟩ args H ⟨rfl,rfl,h1,h2⟩;refine eE 23 Ub axw ?_;exact axv (j+1,l,j) ⟨by simp,h1,h2,rfl⟩
theorem Ws:∀f l i n,(tM f l i n).1.length=l.length
 |0,l,i,n=>rfl
 |f+1,l,i,n=>by
  unfold tM;split
  .rfl
  .dsimp only;generalize (if 2*i+2<n/\l.getD (2*i+2) 0<l.getD (2*i+1) 0 then 2*i+2 else 2*i+1)=j;split
   .rfl
   .rw[Ws f,sh]
theorem w2{i:Nat}(h:i<2000000):wI (wI (2*(i:Int))+1)=((2*i+1:Nat):Int):=by rw[cO (x:=2*(i:Int)) (by omega) (by omega),cO (by omega) (by omega)];simp
theorem w3{i}(h:i<2000000):wI (((2*i+1:Nat):Int)+1)=((2*i+2:Nat):Int):=by rw[cO (by omega) (by omega)];omega
theorem axE{i0 n aH}:∀p:Nat×LI×Nat,(n<p.1+p.2.2+1/\n<=p.2.1.length/\p.2.1.length<1200000/\p.2.2<=n/\p.2.2<p.2.1.length/\tM p.1 p.2.1 p.2.2 n=aH)->
 br Z 190 48 2 (.ao (decide (aH.2>i0))) (fR aH.1) (CZ (i0:Int) (n:Int) (p.2.2:Int)) (fR p.2.1) (aw Z 190 0):=by
 refine dS (λp=>p.1) _ _ _ _ ?_;rintro⟨f,l,i⟩ ⟨h0,h1,h2,h3,h3',hf⟩ ih;simp only at h0 h1 h2 h3 h3' hf ih⊢;refine hD Uc 1000 (λ_=>[0,1,2,7]) (by kernel_rfl) ?_;rw[axG,w2 (by omega),w3 (by omega)];have af0:(l,i)=aH->fA (.ao (decide (aH.2>i0))) (fR aH.1) (.ao (decide ((i:Int)>(i0:Int)))) (fR l):=by rintro rfl;exact⟨by simp,rfl⟩
 have zX:2*i+1>=n->(l,i)=aH:=by
  intro h;cases f with
  |zero=>exact hf
  |succ f=>unfold tM at hf;rwa[aO h]at hf
 refine aD.2 ⟨λh=>af0 (zX (by simp at h;omega)),λh=>?_⟩;have h:2*i+1<n:=by simp at h;omega
 refine aD.2 ⟨λh=>(by simp at h;omega),λ_=>?_⟩;obtain⟨f,rfl⟩:∃g,f=g+1:=⟨f-1,by omega⟩;unfold tM at hf;rw[az (by omega)]at hf;have next:∀j,2*i+1<=j->j<n->tM f (oL l i j) j n=aH->br Z 190 48 2 (.ao (decide (aH.2>i0))) (fR aH.1) (CZ (i0:Int) (n:Int) (j:Int)) (al [(0,.aj [.ai 1 l.length 1] 247),(1,.ay (aX (oL l i j)) 3)] 2) (aw Z 190 0):=by intro j g1 g2 g3;have nx:=ih (f,oL l i j,j) ⟨by simp;omega,by simp only[sh];exact h1,by simp only[sh];exact h2,by simp;omega,by simp only[sh];omega,g3⟩ (by simp);simp only[fR,sh]at nx⊢;exact nx
 have S4:∀j,2*i+1<=j->j<n->(if¬l.getD j 0<l.getD i 0 then(l,i)else tM f (oL l i j) j n)=aH->
  ∃ae:LI×Nat×Nat,((([.ai 0 l.length 1,J (j:Int),J (i:Int)]:LV)=[.ai 0 ae.1.length 1,J (ae.2.1:Int),J (ae.2.2:Int)])/\(al [(0,.ay (aX l) 3)] 1=dz ae.1)/\ae.2.1<ae.1.length/\ae.2.2<ae.1.length)/\
   aq (!(decide (ae.1.getD ae.2.1 0<ae.1.getD ae.2.2 0)))
    (fA (.ao (decide (aH.2>i0))) (fR aH.1) (.ao (decide ((i:Int)>(i0:Int)))) (al [(0,.aj [.ai 1 l.length 1] 247),(1,.ay (aX ae.1) 3)] 2))
    (∃aS:LI×Nat×Nat,((([.ai 0 l.length 1,J (i:Int),J (j:Int)]:LV)=[.ai 0 aS.1.length 1,J (aS.2.1:Int),J (aS.2.2:Int)])/\(al [(0,.ay (aX ae.1) 3)] 1=dz aS.1)/\aS.2.1<aS.1.length/\aS.2.2<aS.1.length)/\
      br Z 190 48 2 (.ao (decide (aH.2>i0))) (fR aH.1) (CZ (i0:Int) (n:Int) (j:Int)) (al [(0,.aj [.ai 1 l.length 1] 247),(1,.ay (aX (oL aS.1 aS.2.1 aS.2.2)) 3)] 2) (aw Z 190 0)):=by
  intro j g1 g2 g3;have hj:j<l.length:=by omega
  have hi:i<l.length:=by omega
  refine⟨(l,j,i),⟨rfl,rfl,hj,hi⟩,aD.2 ⟨λh5=>?_,λh5=>?_⟩⟩
  .rw[aO (by simpa using h5)]at g3;exact af0 g3
  .have h6:l.getD j 0<l.getD i 0:=by simpa using h5
   rw[az (λh7=>h7 h6)]at g3;exact⟨(l,i,j),⟨rfl,rfl,hi,hj⟩,next j g1 g2 g3⟩
 refine aD.2 ⟨λh4=>?_,λh4=>?_⟩
 .have h4:2*i+2<n:=by simp at h4;omega
  refine⟨(l,2*i+2,2*i+1),⟨rfl,rfl,by show 2*i+2<l.length;omega,by show 2*i+1<l.length;omega⟩,aD.2 ⟨λh5=>?_,λh5=>?_⟩⟩
  .have h5:l.getD (2*i+2) 0<l.getD (2*i+1) 0:=by simpa using h5
   simp only[aO (And.intro h4 h5)]at hf;exact S4 (2*i+2) (by omega) h4 hf
  .have h5:¬l.getD (2*i+2) 0<l.getD (2*i+1) 0:=by simpa using h5
   simp only[az (λh:2*i+2<n/\l.getD (2*i+2) 0<l.getD (2*i+1) 0=>h5 h.2)]at hf;exact S4 (2*i+1) (by omega) h hf
 .have h4:¬2*i+2<n:=by simp at h4;omega
  simp only[az (λh:2*i+2<n/\l.getD (2*i+2) 0<l.getD (2*i+1) 0=>h4 h.1)]at hf;exact S4 (2*i+1) (by omega) h hf
theorem acE:aU Z G7:=by refine cA Uc ?_;rintro⟨l,i,n⟩ args H ⟨rfl,rfl,h1,h2,h3,h4⟩;refine eE 48 Uc axF ?_;exact axE (n+1,l,i) ⟨by simp;omega,h1,h2,h3,h4,rfl⟩
theorem acF:aU Z G8:=by
 refine cA acE ?_;rintro⟨l,x⟩ args H ⟨rfl,rfl,hl⟩;have hl:l.length<1000000:=hl;refine eE 12 acE axg ?_;have bS:(l++[x]).length=l.length+1:=by simp
 have e:wI (aE (l++[x]).length-1)=((l.length:Nat):Int):=by
  rw[bS];have e0:aE (l.length+1)-1=(l.length:Int):=by simp
  rw[e0,cO (by omega) (by omega)]
 exact⟨(l,x),⟨rfl,rfl,by show l.length<1200000;omega⟩,l++[x],⟨rfl,rfl⟩,(l++[x],l.length),⟨by rw[e],rfl,by simp,by simp;omega⟩,rfl,rfl⟩
theorem atQ{l:LI}(h:0<l.length):l=l.take (l.length-1)++[l.getD (l.length-1) 0]:=by
 have h1:l.length-1<l.length:=by omega
 have:l.drop (l.length-1)=[l.getD (l.length-1) 0]:=by rw[fY h1,gQ (by omega)];simp[List.getD,ir h1]
 rw[<-this,xg]
theorem N_:aU Z G9:=by
 refine cA acF ?_;rintro l args H ⟨rfl,rfl,h0,hl⟩;refine eE 15 acF axk ?_;have e:wI (aE l.length-1)=((l.length-1:Nat):Int):=by
  have e0:aE l.length-1=((l.length-1:Nat):Int):=by simp;omega
  rw[e0,cO (by omega) (by omega)]
 have kP:(ry l).length=l.length:=by rw[ry,Ws,sh]
 have hs:=atQ (l:=ry l) (by omega);rw[kP]at hs;have hf:(tM (l.length-1+1) (oL l 0 (l.length-1)) 0 (l.length-1)).1=ry l:=by rw[ry];congr 2;omega
 refine⟨l,⟨rfl,rfl⟩,(l,0,l.length-1),⟨by rw[e];rfl,rfl,h0,by show l.length-1<l.length;omega⟩,(oL l 0 (l.length-1),0,l.length-1),
  ⟨by rw[e];rfl,by simp only[fR,sh],by simp only[sh];omega,by simp only[sh];omega,by simp,by simp only[sh];exact h0⟩,
  ((ry l).take (l.length-1),(ry l).getD (l.length-1) 0),⟨rfl,?_,by simp;omega⟩,rfl,rfl⟩
 simp only[hf];rw[<-hs]
def ja(m:LP):bk:=.bm (bJ J 0 m) m.length true
def Cb(base k:Int)(m:LP)(r:Int):LP:=if r>base then up r k m else m
def E0(base:Int):Nat->LP->gL->LP
 |_,m,[]=>m
 |k,m,i::l=>E0 base (k+1) ((ek i++ec i).foldl (Cb base k) m) l
abbrev zS x0 x1:=al [(0,.ay x0 56),(1,ja x1)] 2
def Zs:cx (mS×Int)where
 bn w A H:=A=[.bq 0 w.1.mR w.1.l.length 0 6 false,J w.2]/\H=my w.1/\w.1.ok
 v w:=.aA 1
 aK w:=zS w.1.cs (E0 w.2 0 [] w.1.l)
theorem atP:Zs.cr:=by rintro w w' A H ⟨h1,h2,h3⟩ ⟨k1,k2,k3⟩;rw[RY h1 h2 h3 k1 k2 k3]
def T8:Ev.bo:=bR 176 (ca Zs atP cD) G9
def Ri:Nat->LN:=fT [(3,[1,5,11,12,13]),(6,[1,5,6,11,12,13,22,23,24])]
def s8(r:Int)(m:LP):Int:=(lk r m).getD 0
def Hu(de:LI)(fe:LP)(use:Int):AH:=al [(0,.aj [.aa 3 0] 246),(1,.aj [.aA 4] 244),(2,.aj [J use] 3),(3,.aj [.ai 5 de.length 1] 247),(4,ja fe),(5,bK de 3)] 6
def ajA(de:LI)(fe:LP)(use:Int):AH:=al [(0,.aj [.aa 3 0] 246),(1,.aj [.aA 4] 244),(2,.aj [J use] 3),(3,.aj [.ai 6 de.length 1] 247),(4,ja fe),(5,.bc []),(6,bK de 3)] 7
def Cs(l:LI)(x:Int):LI:=y_ (l.length+1) (l++[x]) l.length
def akt:cx (LI×LP×Int×Int)where
 bn w A H:=A=[J w.2.2.2,.aa 0 0,.aa 1 0,.aa 2 0]/\H=Hu w.1 w.2.1 w.2.2.1/\w.1.length<1000000
 v w:=.aC []
 aK w:=ajA (Cs w.1 (s8 w.2.2.2 w.2.1)) w.2.1 (wI (w.2.2.1-1))
theorem av4:akt.cr:=by
 rintro⟨f,m,u,r⟩ ⟨f',m',u',r'⟩ A H ⟨h1,h2,_⟩ ⟨k1,k2,_⟩;have e:=h2.symm.trans k2;rw[h1]at k1;simp at k1;have q:=λi=>congrArg (λH=>AH.bf H i) e
 simp at q;have e1:=AD (dw (q 5));have e2:=(bk.bm.inj (dw (q 4))).1;have e3:=(bk.aj.inj (dw (q 2))).1;simp at e3;rw[k1,e1,rU xF e2,e3]
def NY:Ev.bo:=bR 177 (ca akt av4 cD) T8
def r7(m:LP)(r:Int):Int:=(lk r m).getD r
def sK(i:et)(fe:LP):AH:=al [(0,wR i),(1,.aj [.aA 2] 244),(2,ja fe)] 3
def aev:LV->AH->Option Sp
 |[.aa 0 (.succ 0),.aa 1 0],H=>some (.ex (et×LP) (λw=>(H=sK w.1 w.2,.aC [],sK ⟨w.1.op,r7 w.2 w.1.r,w.1.a,w.1.n,w.1.eZ,w.1.ar⟩ w.2)) (λw w' h1 h2=>by
   have e:=h1.symm.trans h2;have q:=λi=>congrArg (λH=>AH.bf H i) e
   simp only[sK,eh]at q;have e0:=GV (bk.aj.inj (dw (q 0))).1;have e2:=rU xF (bk.bm.inj (dw (q 2))).1;rw[e0,e2]))
 |[.aa 0 (.succ (.succ 0)),.aa 1 0],H=>some (.ex (et×LP) (λw=>(H=sK w.1 w.2,.aC [],sK ⟨w.1.op,w.1.r,r7 w.2 w.1.a,w.1.n,w.1.eZ,w.1.ar⟩ w.2)) (λw w' h1 h2=>by
   have e:=h1.symm.trans h2;have q:=λi=>congrArg (λH=>AH.bf H i) e
   simp only[sK,eh]at q;have e0:=GV (bk.aj.inj (dw (q 0))).1;have e2:=rU xF (bk.bm.inj (dw (q 2))).1;rw[e0,e2]))
 |_,_=>none
def Dv:Ev.bo:=bR 182 aev NY
abbrev Nm x0 x1 x2 x3 x4:=aB [(1,J x0),(5,.aA 1),(11,.bq 0 x1 x2 0 6 x3),(12,J (aE x2)),(13,J x4)]
theorem axd{cs off len base L Q}:
 bI Z G9 Ri L Q 1000 176 [.bq 0 off len 0 6 false,J base] (al [(0,.ay cs 56)] 1)=(
 L (Nm base off len false 0) (al [(0,.ay cs 56),(1,.bm [] 0 true)] 2) (aw Z 176 0)):=by kernel_rfl
abbrev Jj x0 x1 x2 x3 x4 x5 x6 x7:=aB [(1,J x0),(5,.aA 1),(6,J x1),(11,.bq 0 x2 x3 0 6 x4),(12,J (aE x3)),(13,J x5),(22,.ai 2 x6 1),(23,J (aE x6)),(24,J x7)]
theorem axe{cs off len base i m L Q}:
 ck Z G9 Ri L Q 1000 176 1 (Nm base off len false i) (aw Z 176 0) (zS cs m)=(
 aq (decide (i<aE len)) (∃aL:Nat,i=(aL:Int)/\aL<len/\(∃n aP bA cf s dc,cw Z 56 cs (off+aL*6)=some (.ah [J n,J aP,J bA,J cf,.ab s,J dc]:AV)/\(∃w,(([.ah [J n,J aP,J bA,J cf,.ab s,J dc]]:LV)=[.ah (dq w)]/\al [] 0=an)/\some (.ah [J n,J aP,J bA,J cf,.ab s,J dc]:AV)=some (.ah [J n,J aP,J bA,J cf,.ab s,J dc]:AV)/\(∃ae,(([.ah [J n,J aP,J bA,J cf,.ab s,J dc]]:LV)=[.ah (dq ae)]/\al [] 0=an)/\(aX (ec ae)).length=(ec ae).length*1/\((ec ae).length=0->(ek w).length<=4194304/\L (Jj base i off len false i (ek w).length 0) (al [(0,.ay cs 56),(1,ja m),(2,bK (ek w) 3)] 3) (aw Z 176 1))/\(1<=(ec ae).length->((aX (ek w)).length=(ek w).length*1/\(ek w).length+(ec ae).length<=4194304/\List.all (aX (ec ae)) AV.cX=true/\List.all (aX (ec ae)) eG=true)/\L (Jj base i off len false i ((ek w).length+(ec ae).length) 0) (al [(0,.ay cs 56),(1,ja m),(2,.ay (aX (ek w)++aX (ec ae)) 3)] 3) (aw Z 176 1)))))) (Q (.aA 1) (zS cs m))):=by kernel_rfl
theorem axb{cs off len base i k j m rs L Q}:
 ck Z G9 Ri L Q 1000 176 1 (Jj base k off len false i rs.length j) (aw Z 176 1) (al [(0,.ay cs 56),(1,ja m),(2,bK rs 3)] 3)=(
 aq (decide (j<aE rs.length)) (∃aL:Nat,j=(aL:Int)/\aL<rs.length/\(∃n,cw Z 3 (aX rs) (aL*1)=some (J n:AV)/\aq (decide (n>base)) (∃bF c',jX Z 3 (bJ J 0 m) m.length (J n) (J k)=some (bF,c')/\L (Jj base k off len false i rs.length (wI (j+1))) (al [(0,.ay cs 56),(1,.bm bF c' true),(2,bK rs 3)] 3) (aw Z 176 1)) (L (Jj base k off len false i rs.length (wI (j+1))) (al [(0,.ay cs 56),(1,ja m),(2,bK rs 3)] 3) (aw Z 176 1)))) (L (Nm base off len false (wI (i+1))) (zS cs m) (aw Z 176 0))):=by kernel_rfl
theorem axf{de fe use r L Q}:
 bI Z T8 (λ_=>[]) L Q 1000 177 [J r,.aa 0 0,.aa 1 0,.aa 2 0] (Hu de fe use)=(
 ∃n b,eT Z 3 3 (bJ J 0 fe) (J r)=some (J n,b)/\(∃w:LI×Int,(([.dT 246 (.aa 0 0),.dT 3 (J n)]:LV)=[.dT 246 (.aa 0 0),.dT 3 (J w.2)]/\fR de=fR w.1/\w.1.length<1000000)/\Q (.aC []) (ajA (y_ (w.1.length+1) (w.1++[w.2]) w.1.length) fe (wI (use-1))))):=by kernel_rfl
theorem axl{i fe L Q}:
 bI Z NY (λ_=>[]) L Q 1000 182 [.aa 0 1,.aa 1 0] (sK i fe)=(
 ∃n b,eT Z 3 3 (bJ J 0 fe) (J i.r)=some (J n,b)/\aq b (Q (.aC []) (al [(0,.aj [J i.op,J n,J i.a,J i.n,.ab i.eZ,J i.ar] 56),(1,.aj [.aA 2] 244),(2,ja fe)] 3)) (Q (.aC []) (sK i fe))):=by kernel_rfl
theorem axm{i fe L Q}:
 bI Z NY (λ_=>[]) L Q 1000 182 [.aa 0 2,.aa 1 0] (sK i fe)=(
 ∃n b,eT Z 3 3 (bJ J 0 fe) (J i.a)=some (J n,b)/\aq b (Q (.aC []) (al [(0,.aj [J i.op,J i.r,J n,J i.n,.ab i.eZ,J i.ar] 56),(1,.aj [.aA 2] 244),(2,ja fe)] 3)) (Q (.aC []) (sK i fe))):=by kernel_rfl
theorem Iu(m r):∃n b,eT Z 3 3 (bJ J 0 m) (J r)=some (J n,b)/\n=s8 r m/\(b=true->lk r m=some n)/\(b=false->lk r m=none):=by
 rw[o7 _ Hc];unfold s8;cases lk r m with
 |none=>exact⟨0,false,by rw[F2];rfl,rfl,λh=>(by cases h),λ_=>rfl⟩
 |some n=>exact⟨n,true,rfl,rfl,λ_=>rfl,λh=>(by cases h)⟩
theorem akU{cs off len base i}{k:Nat}{m0 aH rs}(hr:rs.length<400000)(next:br Z 176 37 1 (.aA 1) (zS cs aH) (Nm base off len false (wI (i+1))) (zS cs (rs.foldl (Cb base k) m0)) (aw Z 176 0)):
 ∀p:Nat×LP,(p.1<=rs.length/\(rs.drop p.1).foldl (Cb base k) p.2=rs.foldl (Cb base k) m0)->
 br Z 176 37 1 (.aA 1) (zS cs aH) (Jj base (k:Int) off len false i rs.length (p.1:Int)) (al [(0,.ay cs 56),(1,ja p.2),(2,bK rs 3)] 3) (aw Z 176 1):=by
 refine dS (λp=>rs.length-p.1) _ _ _ _ ?_;rintro⟨j,m⟩ ⟨hj,hf⟩ ih;refine hE N_ axb ?_;refine aD.2 ⟨λax=>?_,λbu=>?_⟩
 .have ax:j<rs.length:=by simpa using ax
  rw[fY ax,rz]at hf;have hg:rs.getD j 0=rs[j]:=by simp[List.getD,ir ax]
  refine⟨j,rfl,ax,rs[j],by rw[n7 ax,hg],?_⟩;rw[om ax (by omega)];refine aD.2 ⟨λh=>?_,λh=>?_⟩
  .have h:rs[j]>base:=by simpa using h
   rw[Cb,aO h]at hf;exact⟨_,_,pk J Hc,ih (j+1,up rs[j] k m) ⟨by simp;omega,hf⟩ (by simp;omega)⟩
  .have h:¬rs[j]>base:=by simpa using h
   rw[Cb,az h]at hf;exact ih (j+1,m) ⟨by simp;omega,hf⟩ (by simp;omega)
 .have bu:rs.length<=j:=by simpa using bu
  rw[gQ bu]at hf;have hf:m=rs.foldl (Cb base k) m0:=hf;rw[hf];exact next
theorem axc{p:mS}{base aH}(hp:p.ok):
 ∀q:Nat×LP,(q.1<=p.l.length/\E0 base q.1 q.2 (p.l.drop q.1)=aH)->
 br Z 176 37 1 (.aA 1) (zS p.cs aH) (Nm base p.mR p.l.length false (q.1:Int)) (zS p.cs q.2) (aw Z 176 0):=by
 refine dS (λq=>p.l.length-q.1) _ _ _ _ ?_;rintro⟨i,m⟩ ⟨hi,hf⟩ ih;have kP:=hp.2;refine hE N_ axe ?_;refine aD.2 ⟨λax=>?_,λbu=>?_⟩
 .have ax:i<p.l.length:=by simpa using ax
  have bX:=p.get hp ax;rw[fY ax,E0]at hf;have next:=ih (i+1,(ek p.l[i]++ec p.l[i]).foldl (Cb base i) m) ⟨by simp;omega,hf⟩ (by simp;omega)
  generalize p.l[i]=x at bX next
  have⟨o,r,a,n,s,ar⟩:=x;have hr:=aaL ⟨o,r,a,n,s,ar⟩;have hw:=abP ⟨o,r,a,n,s,ar⟩;rw[<-om ax (by omega)]at next
  refine⟨i,rfl,ax,o,r,a,n,s,ar,bX,⟨o,r,a,n,s,ar⟩,⟨rfl,rfl⟩,rfl,⟨o,r,a,n,s,ar⟩,⟨rfl,rfl⟩,by rw[AB];omega,λh0=>⟨by omega,?_⟩,λh1=>⟨⟨by rw[AB];omega,by omega,(M7 _).1,(M7 _).2⟩,?_⟩⟩
  .have he:=mJ h0;rw[he,jm]at next
   exact akU (by omega) next (0,m) ⟨by simp,rfl⟩
  .have nx:=akU (by rw[cI];omega) next (0,m) ⟨by simp,rfl⟩
   simp only[bK,M6,cI]at nx;exact nx
 .have bu:p.l.length<=i:=by simpa using bu
  rw[gQ bu]at hf;have hf:=hf;subst hf;exact⟨rfl,rfl⟩
theorem acz:aU Z T8:=by refine cA N_ ?_;rintro⟨p,base⟩ args H ⟨rfl,rfl,hp⟩;have hp:=hp;refine eS N_ 1000 Ri 37 (by kernel_rfl) ?_;simp only[Zs,my];rw[axd];exact axc hp (0,[]) ⟨by simp,by simp⟩
theorem T9:aU Z NY:=by refine cA acz ?_;rintro⟨f,m,u,r⟩ args H ⟨rfl,rfl,hl⟩;refine eE 14 acz axf ?_;have⟨n,b,h1,h2,_⟩:=Iu m r;refine⟨n,b,h1,(f,n),⟨rfl,rfl,hl⟩,rfl,?_⟩;subst h2;rfl
theorem Gc:aU Z Dv:=by
 refine xW T9 λargs H sp p v H' hs hd hp=>?_
 unfold aev at hs;split at hs
 .cases hs;have⟨⟨i,m⟩,e⟩:=GO hd;cases e;have hp:=hp;subst hp;refine eE 17 T9 axl ?_;have⟨n,b,h1,_,h3,h4⟩:=Iu m i.r;refine⟨n,b,h1,aD.2 ⟨λh=>⟨rfl,?_⟩,λh=>⟨rfl,?_⟩⟩⟩
  .have:r7 m i.r=n:=by unfold r7;rw[h3 h];rfl
   simp only[this];rfl
  .have:r7 m i.r=i.r:=by unfold r7;rw[h4 h];rfl
   simp only[this]
 .cases hs;have⟨⟨i,m⟩,e⟩:=GO hd;cases e;have hp:=hp;subst hp;refine eE 17 T9 axm ?_;have⟨n,b,h1,_,h3,h4⟩:=Iu m i.a;refine⟨n,b,h1,aD.2 ⟨λh=>⟨rfl,?_⟩,λh=>⟨rfl,?_⟩⟩⟩
  .have:r7 m i.a=n:=by unfold r7;rw[h3 h];rfl
   simp only[this];rfl
  .have:r7 m i.a=i.a:=by unfold r7;rw[h4 h];rfl
   simp only[this]
 .cases hs
structure Al where
 aK:gL
 dY:Int
 fe:LP
 de:LI
 lj:Int
 mb:Int
def Al.uB(s:Al)(r:Int):Al:=⟨s.aK,s.dY,s.fe,Cs s.de (s8 r s.fe),s.lj,wI (s.mb-1)⟩
def Al.lC(base:Int)(last:LP)(k:Int)(ws:LI)(s:Al)(r:Int):Al:=if r>base/\s8 r last=k/\r∉ws then s.uB r else s
def Al.mO(base:Int)(s:Al)(r:Int):Al:=
 if(lk r s.fe).isSome\/r<=base then s
 else if 0<s.de.length then⟨s.aK,s.dY,up r ((ry s.de).getD (s.de.length-1) 0) s.fe,(ry s.de).take (s.de.length-1),s.lj,wI (s.mb+1)⟩
 else⟨s.aK,s.dY,up r s.lj s.fe,s.de,wI (s.lj+1),wI (s.mb+1)⟩
def Al.v8(s:Al):Al:=⟨s.aK,max s.dY s.mb,s.fe,s.de,s.lj,s.mb⟩
def Al.aH(base:Int)(last:LP)(k:Int)(s:Al)(r:Int):Al:=if r>base/\s8 r last=k then s.uB r else s
def DK(m:LP)(i:et):et:=⟨i.op,r7 m i.r,r7 m i.a,i.n,i.eZ,i.ar⟩
def Al.put(s:Al)(i:et):Al:=⟨s.aK++[DK s.fe i],s.dY,s.fe,s.de,s.lj,s.mb⟩
def Al.step(base:Int)(last:LP)(k:Int)(s:Al)(i:et):Al:=
 ((ec i).foldl (Al.aH base last k) (((ec i).foldl (Al.mO base) ((ek i).foldl (Al.lC base last k (ec i)) s)).v8)).put i
def Al.run(base:Int)(last:LP):Nat->Al->gL->Al
 |_,s,[]=>s
 |k,s,i::l=>Al.run base last (k+1) (s.step base last k i) l
def Gt(base:Int):Al:=⟨[],0,[],[],wI (base+1),0⟩
def zr(l:gL)(base:Int):Al:=(Gt base).run base (E0 base 0 [] l) 0 l
def kT(l:gL):bk:=.ay (cJ l) 56
abbrev u6 x0 x1:=al [(0,.ay x0 56),(1,kT x1)] 2
def Vt:cx (mS×Int)where
 bn w A H:=A=[.bq 0 w.1.mR w.1.l.length 0 6 false,J w.2]/\H=my w.1/\w.1.ok/\w.1.l.length<240000/\∀x∈w.1.l,(x.op=19\/x.op=20)->x.ar<=w.2
 v w:=.aC [.ai 1 (zr w.1.l w.2).aK.length 6,J (zr w.1.l w.2).dY]
 aK w:=u6 w.1.cs (zr w.1.l w.2).aK
theorem anZ:Vt.cr:=by rintro w w' A H ⟨h1,h2,h3,_⟩ ⟨k1,k2,k3,_⟩;rw[RY h1 h2 h3 k1 k2 k3]
def T_:Ev.bo:=bR 165 (ca Vt anZ cD) Dv
def Iw:Nat->LN:=fT [(8,[1,4,5,6,7,8,9,10,11,34,35,36]),(12,[1,4,5,6,7,8,9,10,11,12,13,15,34,35,36,45,46,47]),(18,[1,4,5,6,7,8,9,10,11,12,13,15,34,35,36,71,72,73]),(30,[1,4,5,6,7,8,9,10,11,12,13,34,35,36,114,115,116])]
def rH(s:Al)(base:Int)(off len:Nat)(i:Int)(m1 m2:List (Nat×AV)):Tr AV:=aB ([(1,J base),(4,.ai 1 s.aK.length 6),(5,J s.dY),(6,.aA 2),(7,.aa 3 0),(8,.aa 4 0),(9,J s.lj),(10,.aa 5 0),(11,.ba (.func 177) [] [.aa 4 0,.aa 3 0,.aa 5 0])]++(m1++([(34,.bq 0 off len 0 6 false),(35,J (aE len)),(36,J i)]++m2)))
def Ec(cs:LV)(last:LP)(s:Al):AH:=al [(0,.ay cs 56),(1,kT s.aK),(2,ja last),(3,.aj [.aA 6] 244),(4,.aj [.aa 7 0] 246),(5,.aj [J s.mb] 3),(6,ja s.fe),(7,.aj [.ai 8 s.de.length 1] 247),(8,bK s.de 3)] 9
def Ht(cs:LV)(last:LP)(s:Al)(x:et)(ws rs:LI):AH:=al [(0,.ay cs 56),(1,kT s.aK),(2,ja last),(3,.aj [.aA 9] 244),(4,.aj [.aa 10 0] 246),(5,.aj [J s.mb] 3),(6,wR x),(7,bK ws 3),(8,bK rs 3),(9,ja s.fe),(10,.aj [.ai 11 s.de.length 1] 247),(11,bK s.de 3)] 12
def u5(cs:LV)(last:LP)(s:Al)(x:et)(ws:LI):AH:=al [(0,.ay cs 56),(1,kT s.aK),(2,ja last),(3,.aj [.aA 8] 244),(4,.aj [.aa 9 0] 246),(5,.aj [J s.mb] 3),(6,wR x),(7,bK ws 3),(8,ja s.fe),(9,.aj [.ai 10 s.de.length 1] 247),(10,bK s.de 3)] 11
theorem awI{cs off len base L Q}:
 bI Z Dv Iw L Q 2000 165 [.bq 0 off len 0 6 false,J base] (al [(0,.ay cs 56)] 1)=(
 ∃w:mS×Int,(([.bq 0 off len 0 6 false,J base]:LV)=[.bq 0 w.1.mR w.1.l.length 0 6 false,J w.2]/\al [(0,.ay cs 56)] 1=my w.1/\w.1.ok)/\L (aB [(1,J base),(4,.aJ),(5,J 0),(6,.aA 1),(7,.aa 2 0),(8,.aa 3 0),(9,J (wI (base+1))),(10,.aa 4 0),(11,.ba (.func 177) [] [.aa 3 0,.aa 2 0,.aa 4 0]),(34,.bq 0 off len 0 6 false),(35,J (aE len)),(36,J 0)]) (al [(0,.ay w.1.cs 56),(1,ja (E0 w.2 0 [] w.1.l)),(2,.aj [.aA 5] 244),(3,.aj [.aa 6 0] 246),(4,.aj [J 0] 3),(5,.bm [] 0 true),(6,.aj [.bq 7 0 0 0 1 true] 247),(7,.aj [] 3)] 8) (aw Z 165 0)):=by kernel_rfl
theorem awJ{cs last s base off len i L Q}:
 ck Z Dv Iw L Q 2000 165 1 (rH s base off len i [] []) (aw Z 165 0) (Ec cs last s)=(
 aq (decide (i<aE len)) (∃aL:Nat,i=(aL:Int)/\aL<len/\(∃n aP bA cf cn dc,cw Z 56 cs (off+aL*6)=some (.ah [J n,J aP,J bA,J cf,.ab cn,J dc]:AV)/\(∃w,(([.ah [J n,J aP,J bA,J cf,.ab cn,J dc]]:LV)=[.ah (dq w)]/\al [] 0=an)/\some (.ah [J n,J aP,J bA,J cf,.ab cn,J dc]:AV)=some (.ah [J n,J aP,J bA,J cf,.ab cn,J dc]:AV)/\(∃ae,(([.ah [J n,J aP,J bA,J cf,.ab cn,J dc]]:LV)=[.ah (dq ae)]/\al [] 0=an)/\L (aB [(1,J base),(4,.ai 1 s.aK.length 6),(5,J s.dY),(6,.aA 2),(7,.aa 3 0),(8,.aa 4 0),(9,J s.lj),(10,.aa 5 0),(11,.ba (.func 177) [] [.aa 4 0,.aa 3 0,.aa 5 0]),(12,J i),(13,.aa 6 0),(15,.ai 7 (ec ae).length 1),(34,.bq 0 off len 0 6 false),(35,J (aE len)),(36,J i),(45,.ai 8 (ek w).length 1),(46,J (aE (ek w).length)),(47,J 0)]) (al [(0,.ay cs 56),(1,kT s.aK),(2,ja last),(3,.aj [.aA 9] 244),(4,.aj [.aa 10 0] 246),(5,.aj [J s.mb] 3),(6,.aj [J n,J aP,J bA,J cf,.ab cn,J dc] 56),(7,bK (ec ae) 3),(8,bK (ek w) 3),(9,ja s.fe),(10,.aj [.ai 11 s.de.length 1] 247),(11,bK s.de 3)] 12) (aw Z 165 1))))) (Q (.aC [.ai 1 s.aK.length 6,J s.dY]) (u6 cs s.aK))):=by kernel_rfl
theorem awK{cs last s base off len i k j x ws rs L Q}:
 ck Z Dv Iw L Q 2000 165 1 (rH s base off len i [(12,J k),(13,.aa 6 0),(15,.ai 7 ws.length 1)] [(45,.ai 8 rs.length 1),(46,J (aE rs.length)),(47,J j)]) (aw Z 165 1) (Ht cs last s x ws rs)=(
 aq (decide (j<aE rs.length)) (∃aL:Nat,j=(aL:Int)/\aL<rs.length/\(∃n,cw Z 3 (aX rs) (aL*1)=some (J n:AV)/\aq (decide (n>base)) (∃aP b,eT Z 3 3 (bJ J 0 last) (J n)=some (J aP,b)/\aq (aP==k) (∃w,(dz ws=dz w/\ws.length=w.length/\w.length<2000000)/\aq (!decide (n∈w)) (∃ae:LI×List (Int×Int)×Int×Int,(([J n,.aa 0 0,.aa 1 0,.aa 2 0]:LV)=[J ae.2.2.2,.aa 0 0,.aa 1 0,.aa 2 0]/\Hu s.de s.fe s.mb=Hu ae.1 ae.2.1 ae.2.2.1/\ae.1.length<1000000)/\L (aB [(1,J base),(4,.ai 1 s.aK.length 6),(5,J s.dY),(6,.aA 2),(7,.aa 3 0),(8,.aa 4 0),(9,J s.lj),(10,.aa 5 0),(11,.ba (.func 177) [] [.aa 4 0,.aa 3 0,.aa 5 0]),(12,J k),(13,.aa 6 0),(15,.ai 7 ws.length 1),(34,.bq 0 off len 0 6 false),(35,J (aE len)),(36,J i),(45,.ai 8 rs.length 1),(46,J (aE rs.length)),(47,J (wI (j+1)))]) (al [(0,.ay cs 56),(1,kT s.aK),(2,ja last),(3,.aj [.aA 9] 244),(4,.aj [.aa 10 0] 246),(5,.aj [J (wI (ae.2.2.1-1))] 3),(6,wR x),(7,bK w 3),(8,bK rs 3),(9,ja ae.2.1),(10,.aj [.ai 11 (Cs ae.1 (s8 ae.2.2.2 ae.2.1)).length 1] 247),(11,bK (Cs ae.1 (s8 ae.2.2.2 ae.2.1)) 3)] 12) (aw Z 165 1)) (L (aB [(1,J base),(4,.ai 1 s.aK.length 6),(5,J s.dY),(6,.aA 2),(7,.aa 3 0),(8,.aa 4 0),(9,J s.lj),(10,.aa 5 0),(11,.ba (.func 177) [] [.aa 4 0,.aa 3 0,.aa 5 0]),(12,J k),(13,.aa 6 0),(15,.ai 7 ws.length 1),(34,.bq 0 off len 0 6 false),(35,J (aE len)),(36,J i),(45,.ai 8 rs.length 1),(46,J (aE rs.length)),(47,J (wI (j+1)))]) (Ht cs last s x w rs) (aw Z 165 1))) (L (aB [(1,J base),(4,.ai 1 s.aK.length 6),(5,J s.dY),(6,.aA 2),(7,.aa 3 0),(8,.aa 4 0),(9,J s.lj),(10,.aa 5 0),(11,.ba (.func 177) [] [.aa 4 0,.aa 3 0,.aa 5 0]),(12,J k),(13,.aa 6 0),(15,.ai 7 ws.length 1),(34,.bq 0 off len 0 6 false),(35,J (aE len)),(36,J i),(45,.ai 8 rs.length 1),(46,J (aE rs.length)),(47,J (wI (j+1)))]) (Ht cs last s x ws rs) (aw Z 165 1))) (L (aB [(1,J base),(4,.ai 1 s.aK.length 6),(5,J s.dY),(6,.aA 2),(7,.aa 3 0),(8,.aa 4 0),(9,J s.lj),(10,.aa 5 0),(11,.ba (.func 177) [] [.aa 4 0,.aa 3 0,.aa 5 0]),(12,J k),(13,.aa 6 0),(15,.ai 7 ws.length 1),(34,.bq 0 off len 0 6 false),(35,J (aE len)),(36,J i),(45,.ai 8 rs.length 1),(46,J (aE rs.length)),(47,J (wI (j+1)))]) (Ht cs last s x ws rs) (aw Z 165 1)))) (L (aB [(1,J base),(4,.ai 1 s.aK.length 6),(5,J s.dY),(6,.aA 2),(7,.aa 3 0),(8,.aa 4 0),(9,J s.lj),(10,.aa 5 0),(11,.ba (.func 177) [] [.aa 4 0,.aa 3 0,.aa 5 0]),(12,J k),(13,.aa 6 0),(15,.ai 7 ws.length 1),(34,.bq 0 off len 0 6 false),(35,J (aE len)),(36,J i),(71,.ai 7 ws.length 1),(72,J (aE ws.length)),(73,J 0)]) (u5 cs last s x ws) (aw Z 165 2))):=by kernel_rfl
theorem awM{cs last s base off len i k j x ws L Q}:
 ck Z Dv Iw L Q 2000 165 1 (rH s base off len i [(12,J k),(13,.aa 6 0),(15,.ai 7 ws.length 1)] [(71,.ai 7 ws.length 1),(72,J (aE ws.length)),(73,J j)]) (aw Z 165 2) (u5 cs last s x ws)=(
 aq (decide (j<aE ws.length)) (∃aL:Nat,j=(aL:Int)/\aL<ws.length/\(∃n,cw Z 3 (aX ws) (aL*1)=some (J n:AV)/\(∃aP b,eT Z 3 3 (bJ J 0 s.fe) (J n)=some (J aP,b)/\aq b (L (aB [(1,J base),(4,.ai 1 s.aK.length 6),(5,J s.dY),(6,.aA 2),(7,.aa 3 0),(8,.aa 4 0),(9,J s.lj),(10,.aa 5 0),(11,.ba (.func 177) [] [.aa 4 0,.aa 3 0,.aa 5 0]),(12,J k),(13,.aa 6 0),(15,.ai 7 ws.length 1),(34,.bq 0 off len 0 6 false),(35,J (aE len)),(36,J i),(71,.ai 7 ws.length 1),(72,J (aE ws.length)),(73,J (wI (j+1)))]) (u5 cs last s x ws) (aw Z 165 2)) (aq (decide (n<=base)) (L (aB [(1,J base),(4,.ai 1 s.aK.length 6),(5,J s.dY),(6,.aA 2),(7,.aa 3 0),(8,.aa 4 0),(9,J s.lj),(10,.aa 5 0),(11,.ba (.func 177) [] [.aa 4 0,.aa 3 0,.aa 5 0]),(12,J k),(13,.aa 6 0),(15,.ai 7 ws.length 1),(34,.bq 0 off len 0 6 false),(35,J (aE len)),(36,J i),(71,.ai 7 ws.length 1),(72,J (aE ws.length)),(73,J (wI (j+1)))]) (u5 cs last s x ws) (aw Z 165 2)) (∃w,(([.ai 0 s.de.length 1]:LV)=[.ai 0 w.length 1]/\dz s.de=dz w)/\aq (decide (aE w.length>0)) (∃ae,(([.dT 246 (.aa 0 0)]:LV)=[.dT 246 (.aa 0 0)]/\al [(0,.aj [.ai 1 s.de.length 1] 247),(1,bK w 3)] 2=fR ae/\0<ae.length/\ae.length<1000000)/\some (.aA 8:AV)=some (.aA 8:AV)/\(∃bF c',jX Z 3 (bJ J 0 s.fe) s.fe.length (J n) (J (List.getD (ry ae) (ae.length-1) 0))=some (bF,c')/\L (aB [(1,J base),(4,.ai 1 s.aK.length 6),(5,J s.dY),(6,.aA 2),(7,.aa 3 0),(8,.aa 4 0),(9,J s.lj),(10,.aa 5 0),(11,.ba (.func 177) [] [.aa 4 0,.aa 3 0,.aa 5 0]),(12,J k),(13,.aa 6 0),(15,.ai 7 ws.length 1),(34,.bq 0 off len 0 6 false),(35,J (aE len)),(36,J i),(71,.ai 7 ws.length 1),(72,J (aE ws.length)),(73,J (wI (j+1)))]) (al [(0,.ay cs 56),(1,kT s.aK),(2,ja last),(3,.aj [.aA 8] 244),(4,.aj [.aa 9 0] 246),(5,.aj [J (wI (s.mb+1))] 3),(6,wR x),(7,bK ws 3),(8,.bm bF c' true),(9,.aj [.ai 10 ((ry ae).take (ae.length-1)).length 1] 247),(10,bK (List.take (ae.length-1) (ry ae)) 3)] 11) (aw Z 165 2))) (∃bF c',jX Z 3 (bJ J 0 s.fe) s.fe.length (J n) (J s.lj)=some (bF,c')/\L (aB [(1,J base),(4,.ai 1 s.aK.length 6),(5,J s.dY),(6,.aA 2),(7,.aa 3 0),(8,.aa 4 0),(9,J (wI (s.lj+1))),(10,.aa 5 0),(11,.ba (.func 177) [] [.aa 4 0,.aa 3 0,.aa 5 0]),(12,J k),(13,.aa 6 0),(15,.ai 7 ws.length 1),(34,.bq 0 off len 0 6 false),(35,J (aE len)),(36,J i),(71,.ai 7 ws.length 1),(72,J (aE ws.length)),(73,J (wI (j+1)))]) (al [(0,.ay cs 56),(1,kT s.aK),(2,ja last),(3,.aj [.aA 8] 244),(4,.aj [.aa 9 0] 246),(5,.aj [J (wI (s.mb+1))] 3),(6,wR x),(7,bK ws 3),(8,.bm bF c' true),(9,.aj [.ai 10 s.de.length 1] 247),(10,bK w 3)] 11) (aw Z 165 2))))))) (L (aB [(1,J base),(4,.ai 1 s.aK.length 6),(5,J (if s.mb>s.dY then s.mb else s.dY)),(6,.aA 2),(7,.aa 3 0),(8,.aa 4 0),(9,J s.lj),(10,.aa 5 0),(11,.ba (.func 177) [] [.aa 4 0,.aa 3 0,.aa 5 0]),(12,J k),(13,.aa 6 0),(34,.bq 0 off len 0 6 false),(35,J (aE len)),(36,J i),(114,.ai 7 ws.length 1),(115,J (aE ws.length)),(116,J 0)]) (u5 cs last s x ws) (aw Z 165 3))):=by kernel_rfl
theorem awF{cs last s base off len i k j x ws L Q}:
 ck Z Dv Iw L Q 2000 165 1 (rH s base off len i [(12,J k),(13,.aa 6 0)] [(114,.ai 7 ws.length 1),(115,J (aE ws.length)),(116,J j)]) (aw Z 165 3) (u5 cs last s x ws)=(
 aq (decide (j<aE ws.length)) (∃aL:Nat,j=(aL:Int)/\aL<ws.length/\(∃n,cw Z 3 (aX ws) (aL*1)=some (J n:AV)/\aq (decide (n>base)) (∃aP b,eT Z 3 3 (bJ J 0 last) (J n)=some (J aP,b)/\aq (aP==k) (∃w:LI×List (Int×Int)×Int×Int,(([J n,.aa 0 0,.aa 1 0,.aa 2 0]:LV)=[J w.2.2.2,.aa 0 0,.aa 1 0,.aa 2 0]/\Hu s.de s.fe s.mb=Hu w.1 w.2.1 w.2.2.1/\w.1.length<1000000)/\L (aB [(1,J base),(4,.ai 1 s.aK.length 6),(5,J s.dY),(6,.aA 2),(7,.aa 3 0),(8,.aa 4 0),(9,J s.lj),(10,.aa 5 0),(11,.ba (.func 177) [] [.aa 4 0,.aa 3 0,.aa 5 0]),(12,J k),(13,.aa 6 0),(34,.bq 0 off len 0 6 false),(35,J (aE len)),(36,J i),(114,.ai 7 ws.length 1),(115,J (aE ws.length)),(116,J (wI (j+1)))]) (al [(0,.ay cs 56),(1,kT s.aK),(2,ja last),(3,.aj [.aA 8] 244),(4,.aj [.aa 9 0] 246),(5,.aj [J (wI (w.2.2.1-1))] 3),(6,wR x),(7,bK ws 3),(8,ja w.2.1),(9,.aj [.ai 10 (Cs w.1 (s8 w.2.2.2 w.2.1)).length 1] 247),(10,bK (Cs w.1 (s8 w.2.2.2 w.2.1)) 3)] 11) (aw Z 165 3)) (L (aB [(1,J base),(4,.ai 1 s.aK.length 6),(5,J s.dY),(6,.aA 2),(7,.aa 3 0),(8,.aa 4 0),(9,J s.lj),(10,.aa 5 0),(11,.ba (.func 177) [] [.aa 4 0,.aa 3 0,.aa 5 0]),(12,J k),(13,.aa 6 0),(34,.bq 0 off len 0 6 false),(35,J (aE len)),(36,J i),(114,.ai 7 ws.length 1),(115,J (aE ws.length)),(116,J (wI (j+1)))]) (u5 cs last s x ws) (aw Z 165 3))) (L (aB [(1,J base),(4,.ai 1 s.aK.length 6),(5,J s.dY),(6,.aA 2),(7,.aa 3 0),(8,.aa 4 0),(9,J s.lj),(10,.aa 5 0),(11,.ba (.func 177) [] [.aa 4 0,.aa 3 0,.aa 5 0]),(12,J k),(13,.aa 6 0),(34,.bq 0 off len 0 6 false),(35,J (aE len)),(36,J i),(114,.ai 7 ws.length 1),(115,J (aE ws.length)),(116,J (wI (j+1)))]) (u5 cs last s x ws) (aw Z 165 3)))) (∃w:et×List (Int×Int),sK x s.fe=sK w.1 w.2/\(∃ae:et×List (Int×Int),sK (et.mk w.1.op (r7 w.2 w.1.r) w.1.a w.1.n w.1.eZ w.1.ar) w.2=sK ae.1 ae.2/\((cJ s.aK).length=s.aK.length*6/\s.aK.length+1<=4194304/\true=true/\true=true)/\L (aB [(1,J base),(4,.ai 1 (s.aK.length+1) 6),(5,J s.dY),(6,.aA 2),(7,.aa 3 0),(8,.aa 4 0),(9,J s.lj),(10,.aa 5 0),(11,.ba (.func 177) [] [.aa 4 0,.aa 3 0,.aa 5 0]),(34,.bq 0 off len 0 6 false),(35,J (aE len)),(36,J (wI (i+1)))]) (al [(0,.ay cs 56),(1,.ay (cJ s.aK++dq (et.mk ae.1.op ae.1.r (r7 ae.2 ae.1.a) ae.1.n ae.1.eZ ae.1.ar)) 56),(2,ja last),(3,.aj [.aA 6] 244),(4,.aj [.aa 7 0] 246),(5,.aj [J s.mb] 3),(6,ja ae.2),(7,.aj [.ai 8 s.de.length 1] 247),(8,bK s.de 3)] 9) (aw Z 165 0)))):=by kernel_rfl
theorem aDC(i):(ec i).length<=2:=by
 have h:=(Jd i.op).2;have h2:(pY i.op).1.2.2.2.2≠[112]:=by
  unfold pY;cases hs:xC i.op with
  |none=>simp[F3]
  |some r=>have:=abb hs;simp only[CQ,dm,List.mem_nil_iff,or_false]at this;rcases this with rfl|rfl|rfl|rfl|rfl|rfl|rfl|rfl|rfl|rfl|rfl|rfl|rfl|rfl|rfl|rfl|rfl|rfl|rfl|rfl|rfl|rfl|rfl|rfl|rfl<;>simp
 unfold ec k8;split
 .rcases h with h|h|h|h|h<;>rw[h]<;>simp[xr]
  .split<;>simp
  .exact absurd h h2
 .simp
def tK(base:Int)(l:LI):Nat:=(l.filter (λr=>decide (r>base))).length
theorem Wc(base l):tK base l<=l.length:=List.length_filter_le _ _
theorem aup{n x}(h:x∈q_ n):x<=n:=by obtain⟨k,h1,rfl⟩:=nJ.1 h;have:=I9.1 h1;omega
theorem av0{i base}(h:(i.op=19\/i.op=20)->i.ar<=base):tK base (ek i)<=2:=by
 have h0:=(Jd i.op).1;have h2:(pY i.op).1.2.2.2.1=[112]->i.op=19\/i.op=20:=by
  unfold pY;cases hs:xC i.op with
  |none=>simp[F3]
  |some r=>
   have nC:r.1=i.op:=by
    have⟨o,a1,a2,a3,a4,a5⟩:=i;cases o with
    |negSucc n=>cases hs
    |ofNat n=>
     match n,hs with
     |n+1,hs=>
      have hn:∀(l:List qM) (m n:Nat) (r:qM),RE l n=some r->(∀j (h:j<l.length),(l[j]).1=((m+j:Nat):Int))->r.1=((m+n:Nat):Int):=by
       intro l;induction l with
       |nil=>intro m n r h;cases h
       |cons a l ih=>
        intro m n r h hj;cases n with
        |zero=>cases h;have:=hj 0 (by simp);exact this
        |succ n=>have:=ih (m+1) n r h (λj h=>by have:=hj (j+1) (by simpa using h);simp at this;rw[this];congr 1;omega);rw[this];omega
      have:=hn CQ 1 n r hs (by decide);rw[this];simp;omega
   have:=abb hs;simp only[CQ,dm,List.mem_nil_iff,or_false]at this;intro hr;rw[<-nC];rcases this with rfl|rfl|rfl|rfl|rfl|rfl|rfl|rfl|rfl|rfl|rfl|rfl|rfl|rfl|rfl|rfl|rfl|rfl|rfl|rfl|rfl|rfl|rfl|rfl|rfl<;>simp at hr⊢
 unfold ek k8;split
 .rcases h0 with h1|h1|h1|h1|h1<;>rw[h1]
  .simp[tK]
  .refine kF (Wc _ _) ?_;simp[xr]
  .refine kF (Wc _ _) ?_;simp[xr]
  .refine kF (Wc _ _) ?_;simp only[rz,Sl,xr];simp;split<;>simp
  .have hb:=h (h2 h1);simp;simp only[tK];rw[Sj.2]
   .simp
   .intro x hx;have:=aup hx;simp;omega
 .simp[tK]
theorem aqg(l i):cJ (l++[i])=cJ l++[J i.op,J i.r,J i.a,J i.n,.ab i.eZ,J i.ar]:=by rw[Pt];rfl
theorem Sa(l x):(Cs l x).length=l.length+1:=by simp[Cs,ami]
theorem aEX(l):(ry l).length=l.length:=by rw[ry,Ws,sh]
section
variable{cs:LV}{off len:Nat}{base i k:Int}{aH sF:Al}{x:et}{ws rs:LI}{last:LP}
theorem awG(hw:ws.length<5000)(ho:sF.aK.length<1200000)(next:br Z 165 148 1 (.aC [.ai 1 aH.aK.length 6,J aH.dY]) (u6 cs aH.aK) (rH (sF.put x) base off len (wI (i+1)) [] []) (Ec cs last (sF.put x)) (aw Z 165 0)):
 ∀p:Nat×Al,(p.1<=ws.length/\p.2.de.length+(ws.length-p.1)<1000000/\(ws.drop p.1).foldl (Al.aH base last k) p.2=sF)->
 br Z 165 148 1 (.aC [.ai 1 aH.aK.length 6,J aH.dY]) (u6 cs aH.aK) (rH p.2 base off len i [(12,J k),(13,.aa 6 0)] [(114,.ai 7 ws.length 1),(115,J (aE ws.length)),(116,J (p.1:Int))]) (u5 cs last p.2 x ws) (aw Z 165 3):=by
 refine dS (λp=>ws.length-p.1) _ _ _ _ ?_;rintro⟨j,s⟩ ⟨hj,hb,hf⟩ ih;simp only at hj hb hf ih⊢;refine hE Gc awF ?_;refine aD.2 ⟨λax=>?_,λbu=>?_⟩
 .have ax:j<ws.length:=by simpa using ax
  rw[fY ax,rz]at hf;have hg:ws.getD j 0=ws[j]:=by simp[List.getD,ir ax]
  refine⟨j,rfl,ax,ws[j],by rw[n7 ax,hg],?_⟩;rw[om ax (by omega)];have skip:¬(ws[j]>base/\s8 ws[j] last=k)->br Z 165 148 1 (.aC [.ai 1 aH.aK.length 6,J aH.dY]) (u6 cs aH.aK) (rH s base off len i [(12,J k),(13,.aa 6 0)] [(114,.ai 7 ws.length 1),(115,J (aE ws.length)),(116,J ((j+1:Nat):Int))]) (u5 cs last s x ws) (aw Z 165 3):=by intro hn;rw[Al.aH,az hn]at hf;exact ih (j+1,s) ⟨by simp;omega,by simp only;omega,hf⟩ (by simp;omega)
  have⟨n,b,h1,h2,_⟩:=Iu last ws[j];refine aD.2 ⟨λhr=>⟨n,b,h1,aD.2 ⟨λhk=>?_,λhk=>?_⟩⟩,λhr=>?_⟩
  .have hc:ws[j]>base/\s8 ws[j] last=k:=⟨by simpa using hr,by rw[<-h2];simpa using hk⟩;rw[Al.aH,aO hc]at hf;have pP:s.de.length<1000000:=by omega
   refine⟨(s.de,s.fe,s.mb,ws[j]),⟨rfl,rfl,pP⟩,?_⟩;exact ih (j+1,s.uB ws[j]) ⟨by simp;omega,by simp only[Al.uB,Sa];omega,hf⟩ (by simp;omega)
  .exact skip (λh=>by simp at hk;exact hk (h2.trans h.2))
  .exact skip (λh=>by simp at hr;omega)
 .have bu:ws.length<=j:=by simpa using bu
  rw[gQ bu]at hf;have hf:s=sF:=hf;subst hf;refine⟨(x,s.fe),rfl,(⟨x.op,r7 s.fe x.r,x.a,x.n,x.eZ,x.ar⟩,s.fe),rfl,⟨by rw[Bc],by omega,rfl,rfl⟩,?_⟩;have hol:(s.put x).aK.length=s.aK.length+1:=by simp[Al.put]
  simp only[rH,Ec,kT,hol]at next
  have hoe:cJ (s.put x).aK=cJ s.aK++[J (DK s.fe x).op,J (DK s.fe x).r,J (DK s.fe x).a,J (DK s.fe x).n,.ab (DK s.fe x).eZ,J (DK s.fe x).ar]:=aqg _ _;rw[hoe]at next
  exact next
theorem awN(hw:ws.length<5000){sW}(s6:sW.de.length+ws.length<1000000)(ho:sF.aK.length<1200000)(YD:ws.foldl (Al.aH base last k) sW.v8=sF)(next:br Z 165 148 1 (.aC [.ai 1 aH.aK.length 6,J aH.dY]) (u6 cs aH.aK) (rH (sF.put x) base off len (wI (i+1)) [] []) (Ec cs last (sF.put x)) (aw Z 165 0)):
 ∀p:Nat×Al,(p.1<=ws.length/\p.2.de.length<1000000/\(ws.drop p.1).foldl (Al.mO base) p.2=sW)->
 br Z 165 148 1 (.aC [.ai 1 aH.aK.length 6,J aH.dY]) (u6 cs aH.aK) (rH p.2 base off len i [(12,J k),(13,.aa 6 0),(15,.ai 7 ws.length 1)] [(71,.ai 7 ws.length 1),(72,J (aE ws.length)),(73,J (p.1:Int))]) (u5 cs last p.2 x ws) (aw Z 165 2):=by
 refine dS (λp=>ws.length-p.1) _ _ _ _ ?_;rintro⟨j,s⟩ ⟨hj,hb,hf⟩ ih;simp only at hj hb hf ih⊢;refine hE Gc awM ?_;refine aD.2 ⟨λax=>?_,λbu=>?_⟩
 .have ax:j<ws.length:=by simpa using ax
  rw[fY ax,rz]at hf;have hg:ws.getD j 0=ws[j]:=by simp[List.getD,ir ax]
  refine⟨j,rfl,ax,ws[j],by rw[n7 ax,hg],?_⟩;rw[om ax (by omega)];have skip:((lk ws[j] s.fe).isSome\/ws[j]<=base)->br Z 165 148 1 (.aC [.ai 1 aH.aK.length 6,J aH.dY]) (u6 cs aH.aK) (rH s base off len i [(12,J k),(13,.aa 6 0),(15,.ai 7 ws.length 1)] [(71,.ai 7 ws.length 1),(72,J (aE ws.length)),(73,J ((j+1:Nat):Int))]) (u5 cs last s x ws) (aw Z 165 2):=by intro hn;rw[Al.mO,aO hn]at hf;exact ih (j+1,s) ⟨by simp;omega,hb,hf⟩ (by simp;omega)
  have⟨n,b,h1,h2,h3,h4⟩:=Iu s.fe ws[j];refine⟨n,b,h1,aD.2 ⟨λh=>skip (.inl (by rw[h3 h];rfl)),λh=>aD.2 ⟨λh5=>skip (.inr (by simpa using h5)),λh5=>?_⟩⟩⟩;have hn:¬((lk ws[j] s.fe).isSome\/ws[j]<=base):=by rw[h4 h];simp at h5⊢;omega
  rw[Al.mO,az hn]at hf;refine⟨s.de,⟨rfl,rfl⟩,aD.2 ⟨λh6=>?_,λh6=>?_⟩⟩
  .have h6:0<s.de.length:=by simpa using h6
   rw[aO h6]at hf;refine⟨s.de,⟨rfl,rfl,h6,hb⟩,rfl,_,_,pk J Hc,?_⟩;exact ih (j+1,_) ⟨by simp;omega,by simp;omega,hf⟩ (by simp;omega)
  .have h6:¬0<s.de.length:=by simpa using h6
   rw[az h6]at hf;refine⟨_,_,pk J Hc,?_⟩;exact ih (j+1,⟨s.aK,s.dY,up ws[j] s.lj s.fe,s.de,wI (s.lj+1),wI (s.mb+1)⟩) ⟨by simp;omega,hb,hf⟩ (by simp;omega)
 .have bu:ws.length<=j:=by simpa using bu
  rw[gQ bu]at hf;have hf:=hf;subst hf;have hm:(if s.mb>s.dY then s.mb else s.dY)=max s.dY s.mb:=by split<;>omega
  rw[hm];exact awG hw ho next (0,s.v8) ⟨by simp,by show s.de.length+(ws.length-0)<1000000;simpa using s6,by simpa using YD⟩
theorem awL(hr:rs.length<5000)(hw:ws.length<5000){sR sW}(hR:sR.de.length<1000000)(hsW:ws.foldl (Al.mO base) sR=sW)(s6:sW.de.length+ws.length<1000000)(ho:sF.aK.length<1200000)(YD:ws.foldl (Al.aH base last k) sW.v8=sF)(next:br Z 165 148 1 (.aC [.ai 1 aH.aK.length 6,J aH.dY]) (u6 cs aH.aK) (rH (sF.put x) base off len (wI (i+1)) [] []) (Ec cs last (sF.put x)) (aw Z 165 0)):
 ∀p:Nat×Al,(p.1<=rs.length/\p.2.de.length+tK base (rs.drop p.1)<1000000/\(rs.drop p.1).foldl (Al.lC base last k ws) p.2=sR)->
 br Z 165 148 1 (.aC [.ai 1 aH.aK.length 6,J aH.dY]) (u6 cs aH.aK) (rH p.2 base off len i [(12,J k),(13,.aa 6 0),(15,.ai 7 ws.length 1)] [(45,.ai 8 rs.length 1),(46,J (aE rs.length)),(47,J (p.1:Int))]) (Ht cs last p.2 x ws rs) (aw Z 165 1):=by
 refine dS (λp=>rs.length-p.1) _ _ _ _ ?_;rintro⟨j,s⟩ ⟨hj,hb,hf⟩ ih;simp only at hj hb hf ih⊢;refine hE Gc awK ?_;refine aD.2 ⟨λax=>?_,λbu=>?_⟩
 .have ax:j<rs.length:=by simpa using ax
  rw[fY ax,rz]at hf;rw[fY ax]at hb;have zU:tK base (rs[j]::rs.drop (j+1))=(if rs[j]>base then 1 else 0)+tK base (rs.drop (j+1)):=by simp only[tK,vQ];by_cases h:rs[j]>base<;>simp[h];omega
  rw[zU]at hb;have hg:rs.getD j 0=rs[j]:=by simp[List.getD,ir ax]
  refine⟨j,rfl,ax,rs[j],by rw[n7 ax,hg],?_⟩;rw[om ax (by omega)];have skip:¬(rs[j]>base/\s8 rs[j] last=k/\rs[j]∉ws)->br Z 165 148 1 (.aC [.ai 1 aH.aK.length 6,J aH.dY]) (u6 cs aH.aK) (rH s base off len i [(12,J k),(13,.aa 6 0),(15,.ai 7 ws.length 1)] [(45,.ai 8 rs.length 1),(46,J (aE rs.length)),(47,J ((j+1:Nat):Int))]) (Ht cs last s x ws rs) (aw Z 165 1):=by intro hn;rw[Al.lC,az hn]at hf;exact ih (j+1,s) ⟨by simp;omega,by simp only;omega,hf⟩ (by simp;omega)
  have⟨n,b,h1,h2,_⟩:=Iu last rs[j];refine aD.2 ⟨λhr=>⟨n,b,h1,aD.2 ⟨λhk=>⟨ws,⟨rfl,rfl,by omega⟩,aD.2 ⟨λhm=>?_,λhm=>?_⟩⟩,λhk=>?_⟩⟩,λhr=>?_⟩
  .have nZ:rs[j]>base:=by simpa using hr
   have hc:rs[j]>base/\s8 rs[j] last=k/\rs[j]∉ws:=⟨nZ,by rw[<-h2];simpa using hk,by simpa using hm⟩;rw[Al.lC,aO hc]at hf;rw[aO nZ]at hb;have pP:s.de.length<1000000:=by omega
   refine⟨(s.de,s.fe,s.mb,rs[j]),⟨rfl,rfl,pP⟩,?_⟩;exact ih (j+1,s.uB rs[j]) ⟨by simp;omega,by simp only[Al.uB,Sa];omega,hf⟩ (by simp;omega)
  .exact skip (λh=>by simp at hm;exact h.2.2 hm)
  .exact skip (λh=>by simp at hk;exact hk (h2.trans h.2.1))
  .exact skip (λh=>by simp at hr;omega)
 .have bu:rs.length<=j:=by simpa using bu
  rw[gQ bu]at hf;have hf:=hf;subst hf;exact awN hw s6 ho YD next (0,s) ⟨by simp,hR,by simpa using hsW⟩
end
theorem PU(base last k ws):∀rs s,(rs.foldl (Al.lC base last k ws) s).de.length<=s.de.length+tK base rs/\(rs.foldl (Al.lC base last k ws) s).aK=s.aK
 |[],s=>⟨by simp,rfl⟩
 |r::rs,s=>by
  have h:=PU base last k ws rs (s.lC base last k ws r);have zU:tK base (r::rs)=(if r>base then 1 else 0)+tK base rs:=by simp only[tK,vQ];by_cases h:r>base<;>simp[h];omega
  simp;rw[zU];have h1:(s.lC base last k ws r).de.length<=s.de.length+(if r>base then 1 else 0)/\(s.lC base last k ws r).aK=s.aK:=by
   unfold Al.lC;split;next hc=>rw[aO hc.1];exact⟨by simp[Al.uB,Sa],rfl⟩
   .exact⟨by omega,rfl⟩
  exact⟨by omega,h.2.trans h1.2⟩
theorem PV(base):∀(ws:LI) (s),(ws.foldl (Al.mO base) s).de.length<=s.de.length/\(ws.foldl (Al.mO base) s).aK=s.aK
 |[],s=>⟨by simp,rfl⟩
 |r::ws,s=>by
  have h:=PV base ws (s.mO base r);simp;have h1:(s.mO base r).de.length<=s.de.length/\(s.mO base r).aK=s.aK:=by
   unfold Al.mO;split
   .exact⟨by omega,rfl⟩
   .split
    .exact⟨by simp;omega,rfl⟩
    .exact⟨by simp,rfl⟩
  exact⟨by omega,h.2.trans h1.2⟩
theorem PR(base last k):∀(ws:LI) (s),(ws.foldl (Al.aH base last k) s).de.length<=s.de.length+ws.length/\(ws.foldl (Al.aH base last k) s).aK=s.aK
 |[],s=>⟨by simp,rfl⟩
 |r::ws,s=>by
  have h:=PR base last k ws (s.aH base last k r);have h1:(s.aH base last k r).de.length<=s.de.length+1/\(s.aH base last k r).aK=s.aK:=by
   unfold Al.aH;split
   .exact⟨by simp[Al.uB,Sa],rfl⟩
   .exact⟨by omega,rfl⟩
  exact⟨by simp;omega,h.2.trans h1.2⟩
theorem awH{p:mS}{base last aH}(hp:p.ok)(hl:p.l.length<240000)(hv:∀x∈p.l,(x.op=19\/x.op=20)->x.ar<=base):
 ∀q:Nat×Al,(q.1<=p.l.length/\q.2.de.length<=4*q.1/\q.2.aK.length=q.1/\Al.run base last q.1 q.2 (p.l.drop q.1)=aH)->
 br Z 165 148 1 (.aC [.ai 1 aH.aK.length 6,J aH.dY]) (u6 p.cs aH.aK) (rH q.2 base p.mR p.l.length (q.1:Int) [] []) (Ec p.cs last q.2) (aw Z 165 0):=by
 refine dS (λq=>p.l.length-q.1) _ _ _ _ ?_;rintro⟨i,s⟩ ⟨hi,hb,ho,hf⟩ ih;simp only at hi hb ho hf ih⊢;refine hE Gc awJ ?_;refine aD.2 ⟨λax=>?_,λbu=>?_⟩
 .have ax:i<p.l.length:=by simpa using ax
  have bX:=p.get hp ax;have hvx:=hv p.l[i] (pW ax);rw[fY ax,Al.run]at hf;generalize p.l[i]=x at bX hf hvx;have c1:=av0 hvx;have c2:=aDC x;have hr:=aaL x;have hw:=abP x;have a1:=PU base last i (ec x) (ek x) s;have a2:=PV base (ec x) ((ek x).foldl (Al.lC base last i (ec x)) s);have a3:=PR base last i (ec x) ((ec x).foldl (Al.mO base) ((ek x).foldl (Al.lC base last i (ec x)) s)).v8;have a4:((ec x).foldl (Al.mO base) ((ek x).foldl (Al.lC base last i (ec x)) s)).v8.de=((ec x).foldl (Al.mO base) ((ek x).foldl (Al.lC base last i (ec x)) s)).de:=rfl;have a5:((ec x).foldl (Al.mO base) ((ek x).foldl (Al.lC base last i (ec x)) s)).v8.aK=((ec x).foldl (Al.mO base) ((ek x).foldl (Al.lC base last i (ec x)) s)).aK:=rfl;rw[a4]at a3;have ey:((ec x).foldl (Al.aH base last i) ((ec x).foldl (Al.mO base) ((ek x).foldl (Al.lC base last i (ec x)) s)).v8).aK=s.aK:=by rw[a3.2,a5,a2.2,a1.2]
  have next:=ih (i+1,s.step base last i x) ⟨by simp;omega,by show((ec x).foldl (Al.aH base last i) _).de.length<=4*(i+1);omega,by show(_++[_]).length=i+1;rw[cI,ey,ho];rfl,hf⟩ (by simp;omega)
  rw[<-om ax (by omega)]at next
  have⟨o,r,a,n,s',ar⟩:=x;refine⟨i,rfl,ax,o,r,a,n,s',ar,bX,⟨o,r,a,n,s',ar⟩,⟨rfl,rfl⟩,rfl,⟨o,r,a,n,s',ar⟩,⟨rfl,rfl⟩,?_⟩;exact awL hr hw (by omega) rfl (by omega) (by rw[ey];omega) rfl next (0,s) ⟨by simp,by simp;omega,by simp⟩
 .have bu:p.l.length<=i:=by simpa using bu
  rw[gQ bu]at hf;have hf:=hf;subst hf;exact⟨rfl,rfl⟩
def aj7:List (Nat×Nat):=[(0,0),(8,1),(1,2),(2,3),(3,4),(4,5),(5,6),(6,7),(7,8)]
def atH(cs:LV)(last:LP):List (Nat×bk):=[(0,.ay cs 56),(1,ja last),(2,.aj [.aA 5] 244),(3,.aj [.aa 6 0] 246),(4,.aj [J 0] 3),(5,.bm [] 0 true),(6,.aj [.bq 7 0 0 0 1 true] 247),(7,.aj [] 3)]
def anJ(base:Int)(off len:Nat):List (Nat×AV):=[(1,J base),(4,.aJ),(5,J 0),(6,.aA 1),(7,.aa 2 0),(8,.aa 3 0),(9,J (wI (base+1))),(10,.aa 4 0),(11,.ba (.func 177) [] [.aa 3 0,.aa 2 0,.aa 4 0]),(34,.bq 0 off len 0 6 false),(35,J (aE len)),(36,J 0)]
theorem aC9(cs last base):l9 1 [8,1,2,3,4,3,2,4,0] (al (zc 7 (.ay [] 3) (atH cs last++[(8,.ay [] 56)])) 9)=some ⟨aj7,Ec cs last (Gt base)⟩:=by kernel_rfl
theorem aDg(base off len):qJ (iz aj7) (aB ((IK 8 6 [4] (anJ base off len)).map λx=>(x.1,wb 7 x.2))) [1,4,5,6,7,8,9,10,11,34,35,36]=some (rH (Gt base) base off len 0 [] []):=by kernel_rfl
theorem T':aU Z T_:=by refine cA Gc ?_;rintro⟨p,base⟩ args H ⟨rfl,rfl,hp,hl,hv⟩;have hp:=hp;refine eS Gc 2000 Iw 148 (by kernel_rfl) ?_;simp only[Vt,my];rw[awI];refine⟨(p,base),⟨rfl,rfl,hp⟩,?_⟩;refine HO 6 56 [4] ?_ rfl (by kernel_rfl);refine yr (g:=7) (new:=.ay [] 3) ?_ rfl (λφ e o h=>rQ rfl h) rfl (by kernel_rfl);refine cb.sm (by kernel_rfl) (aC9 p.cs (E0 base 0 [] p.l) base) (aDg base p.mR p.l.length) ?_;exact awH hp hl hv (0,Gt base) ⟨by simp,by simp[Gt],rfl,rfl⟩
def fk(l:gL)(base:Int):gL×Int:=if tv l base then((zr l base).aK,0)else([],1)
def VD:cx (mS×Int)where
 bn w A H:=A=[.bq 0 w.1.mR w.1.l.length 0 6 false,J w.2]/\H=my w.1/\w.1.ok/\w.1.l.length<240000
 v w:=.aC [.ai 1 (fk w.1.l w.2).1.length 6,J (fk w.1.l w.2).2]
 aK w:=al [(0,.ay w.1.cs 56),(1,kT (fk w.1.l w.2).1)] 2
theorem aoj:VD.cr:=by rintro w w' A H ⟨h1,h2,h3,_⟩ ⟨k1,k2,k3,_⟩;rw[RY h1 h2 h3 k1 k2 k3]
def NZ:Ev.bo:=bR 133 (ca VD aoj cD) T_
def sx(code:gL)(base:LI):Nat->Nat->Nat->gL->gL->gL×Int
 |_,_,_,l,[]=>(l,0)
 |i,fr,part,l,x::rest=>
  if x.op≠19/\i+1<code.length then sx code base (i+1) fr part l rest
  else if(fk ((code.drop fr).take (i+1-fr)) (base.getD part 0)).2≠0 then([],(fk ((code.drop fr).take (i+1-fr)) (base.getD part 0)).2)
  else sx code base (i+1) (i+1) (part+1) (l++(fk ((code.drop fr).take (i+1-fr)) (base.getD part 0)).1) rest
def mU(code:gL)(base:LI):gL×Int:=sx code base 0 0 0 [] code
def gS(l:gL):Nat:=(l.filter (λx=>decide (x.op=19))).length
def Ef(code:gL)(base:LI):AH:=al [(0,kT code),(1,bK base 3)] 2
def FA(code:gL)(base:LI)(l:gL):AH:=al [(0,kT code),(1,bK base 3),(2,kT l)] 3
def VE:cx (gL×LI)where
 bn w A H:=A=[.ai 0 w.1.length 6,.ai 1 w.2.length 1]/\H=Ef w.1 w.2/\w.1.length<240000/\gS w.1<w.2.length/\w.2.length<2000000
 v w:=.aC [.ai 2 (mU w.1 w.2).1.length 6,J (mU w.1 w.2).2]
 aK w:=FA w.1 w.2 (mU w.1 w.2).1
theorem aol:VE.cr:=by
 rintro⟨c,b⟩ ⟨c',b'⟩ A H ⟨_,h2,_⟩ ⟨_,k2,_⟩;have e:=h2.symm.trans k2;have q:=λi=>congrArg (λH=>AH.bf H i) e
 simp at q;have e0:=GX (bk.ay.inj (dw (q 0))).1;have e1:=AD (dw (q 1));rw[e0,e1]
def G15:Ev.bo:=bR 92 (ca VE aol cD) NZ
def aiN:Nat->LN:=fT [(3,[0,1,4,6,7,12,13,14])]
theorem ak5{cs off len base L Q}:
 bI Z T_ (λ_=>[]) L Q 1000 133 [.bq 0 off len 0 6 false,J base] (al [(0,.ay cs 56)] 1)=(
 ∃w:mS×Int,(([.bq 0 off len 0 6 false,J base]:LV)=[.bq 0 w.1.mR w.1.l.length 0 6 false,J w.2]/\al [(0,.ay cs 56)] 1=my w.1/\w.1.ok)/\aq (!tv w.1.l w.2) (Q (.aC [.aJ,J 1]) (my w.1)) (∃ae:mS×Int,(([.bq 0 off len 0 6 false,J base]:LV)=[.bq 0 ae.1.mR ae.1.l.length 0 6 false,J ae.2]/\my w.1=my ae.1/\ae.1.ok/\ae.1.l.length<240000/\(∀x,x∈ae.1.l->x.op=19\/x.op=20->x.ar<=ae.2))/\Q (.aC [.ai 1 (zr ae.1.l ae.2).aK.length 6,J 0]) (al [(0,.ay ae.1.cs 56),(1,kT (zr ae.1.l ae.2).aK)] 2))):=by kernel_rfl
theorem ayp{code base L Q}:
 bI Z NZ aiN L Q 1000 92 [.ai 0 code.length 6,.ai 1 base.length 1] (Ef code base)=(
 L (aB [(0,.ai 0 code.length 6),(1,.ai 1 base.length 1),(4,.aJ),(6,J 0),(7,J 0),(12,.ai 0 code.length 6),(13,J (Int.ofNat code.length)),(14,J 0)]) (Ef code base) (aw Z 92 0)):=by kernel_rfl
abbrev AK x0 x1 x2 x3 x4 x5:=aB [(0,.ai 0 x0 6),(1,.ai 1 x1 1),(4,.ai 2 x2 6),(6,J x3),(7,J x4),(12,.ai 0 x0 6),(13,J (Int.ofNat x0)),(14,J x5)]
theorem ayq{code base l fr part i L Q}:
 ck Z NZ aiN L Q 1000 92 2 (AK code.length base.length l.length fr part i) (aw Z 92 0) (FA code base l)=(
 aq (decide (i<Int.ofNat code.length)) (∃aL:Nat,i=(aL:Int)/\aL<code.length/\(∃n aP bA cf s dc,cw Z 56 (cJ code) (aL*6)=some (.ah [J n,J aP,J bA,J cf,.ab s,J dc]:AV)/\aq (n !=19) (aq (decide (i<wI (Int.ofNat code.length-1))) (L (AK code.length base.length l.length fr part (wI (i+1))) (FA code base l) (aw Z 92 0)) (1<=code.length/\(∃cG:Nat,fr=(cG:Int)/\(∃dO:Nat,wI (i+1)=(dO:Int)/\(cG<=dO/\dO<=code.length)/\(∃f_:Nat,part=(f_:Int)/\f_<base.length/\(∃iP,cw Z 3 (aX base) (f_*1)=some (J iP:AV)/\(∃w:mS×Int,(([.bq 0 (0+cG*6) (dO-cG) 0 6 false,J iP]:LV)=[.bq 0 w.1.mR w.1.l.length 0 6 false,J w.2]/\al [(0,kT code)] 1=my w.1/\w.1.ok/\w.1.l.length<240000)/\aq ((fk w.1.l w.2).2 !=0) (Q (.aC [.aJ,J (fk w.1.l w.2).2]) (al [(0,.ay w.1.cs 56),(1,bK base 3)] 2)) ((cJ (fk w.1.l w.2).1).length=(fk w.1.l w.2).1.length*6/\((fk w.1.l w.2).1.length=0->l.length<=4194304/\L (AK code.length base.length l.length (wI (i+1)) (wI (part+1)) (wI (i+1))) (al [(0,.ay w.1.cs 56),(1,bK base 3),(2,kT l)] 3) (aw Z 92 0))/\(1<=(fk w.1.l w.2).1.length->((cJ l).length=l.length*6/\l.length+(fk w.1.l w.2).1.length<=4194304/\List.all (cJ (fk w.1.l w.2).1) AV.cX=true/\List.all (cJ (fk w.1.l w.2).1) eG=true)/\L (AK code.length base.length (l.length+(fk w.1.l w.2).1.length) (wI (i+1)) (wI (part+1)) (wI (i+1))) (al [(0,.ay w.1.cs 56),(1,bK base 3),(2,.ay (cJ l++cJ (fk w.1.l w.2).1) 56)] 3) (aw Z 92 0)))))))))) (1<=code.length/\(∃cG:Nat,fr=(cG:Int)/\(∃dO:Nat,wI (i+1)=(dO:Int)/\(cG<=dO/\dO<=code.length)/\(∃f_:Nat,part=(f_:Int)/\f_<base.length/\(∃iP,cw Z 3 (aX base) (f_*1)=some (J iP:AV)/\(∃w:mS×Int,(([.bq 0 (0+cG*6) (dO-cG) 0 6 false,J iP]:LV)=[.bq 0 w.1.mR w.1.l.length 0 6 false,J w.2]/\al [(0,kT code)] 1=my w.1/\w.1.ok/\w.1.l.length<240000)/\aq ((fk w.1.l w.2).2 !=0) (Q (.aC [.aJ,J (fk w.1.l w.2).2]) (al [(0,.ay w.1.cs 56),(1,bK base 3)] 2)) ((cJ (fk w.1.l w.2).1).length=(fk w.1.l w.2).1.length*6/\((fk w.1.l w.2).1.length=0->l.length<=4194304/\L (AK code.length base.length l.length (wI (i+1)) (wI (part+1)) (wI (i+1))) (al [(0,.ay w.1.cs 56),(1,bK base 3),(2,kT l)] 3) (aw Z 92 0))/\(1<=(fk w.1.l w.2).1.length->((cJ l).length=l.length*6/\l.length+(fk w.1.l w.2).1.length<=4194304/\List.all (cJ (fk w.1.l w.2).1) AV.cX=true/\List.all (cJ (fk w.1.l w.2).1) eG=true)/\L (AK code.length base.length (l.length+(fk w.1.l w.2).1.length) (wI (i+1)) (wI (part+1)) (wI (i+1))) (al [(0,.ay w.1.cs 56),(1,bK base 3),(2,.ay (cJ l++cJ (fk w.1.l w.2).1) 56)] 3) (aw Z 92 0))))))))))) (Q (.aC [.ai 2 l.length 6,J 0]) (FA code base l))):=by kernel_rfl
theorem anM{φ a a' b}(h:∀x,VR φ a x->VR φ a' x){x}(hx:VR φ (.aC [a,b]) x):VR φ (.aC [a',b]) x:=by obtain⟨cs,rfl,v,vs,h1,h2,h3⟩:=hx;exact⟨cs,rfl,v,vs,h1,h _ h2,h3⟩
theorem afF{P f args H0 n sz b l t}(h:bZ P f args H0 (.aC [.aJ,b]) (al l n))(hn:cN l n=none)(cu:H0.bx<=n):
 bZ P f args H0 (.aC [.ai n 0 sz,b]) (al (l++[(n,.ay [] t)]) (n+1)):=
 Bf h (IE _ hn) cu (λφ aQ hR x hx=>by subst hR;exact anM (λy hy=>qN hy) hx)
theorem amt{base}:∀{l wr},C_ base wr l=true->∀x∈l,(x.op=19\/x.op=20)->x.ar<=base
 |i::l,wr,h,x,hx=>by
  unfold C_ at h;split at h
  .cases h
  next hn=>
   split at h
   .cases h
   .rcases dm.1 hx with rfl|hx
    .intro ho;rcases Int.lt_or_le base x.ar with h1|h1
     .exact absurd (.inr ⟨ho,h1⟩) hn
     .exact h1
    .exact amt h x hx
theorem aC1{base l}(h:tv l base=true):∀x∈l,(x.op=19\/x.op=20)->x.ar<=base:=by
 unfold tv at h;split at h
 .cases h
 .exact amt h
theorem Ua:aU Z NZ:=by
 refine cA T' ?_;rintro⟨p,base⟩ args H ⟨rfl,rfl,hp,hl⟩;have hp:=hp;simp only[VD,my];cases hv:tv p.l base with
 |false=>
  have ha:fk p.l base=([],1):=by simp[fk,hv]
  rw[ha];refine afF (l:=[(0,.ay p.cs 56)]) ?_ rfl (cM _);refine eE 17 T' ak5 ?_;exact⟨(p,base),⟨rfl,rfl,hp⟩,aD.2 ⟨λ_=>⟨rfl,rfl⟩,λh=>by simp only[hv]at h;cases h⟩⟩
 |true=>
  have ha:fk p.l base=((zr p.l base).aK,0):=by simp[fk,hv]
  rw[ha];refine eE 17 T' ak5 ?_;exact⟨(p,base),⟨rfl,rfl,hp⟩,aD.2 ⟨λh=>(by simp only[hv]at h;cases h),λ_=>⟨(p,base),⟨rfl,rfl,hp,hl,aC1 hv⟩,rfl,rfl⟩⟩⟩
theorem aB6(base last k)(s:Al)(i):(s.step base last k i).aK.length=s.aK.length+1:=by have a1:=PU base last k (ec i) (ek i) s;have a2:=PV base (ec i) ((ek i).foldl (Al.lC base last k (ec i)) s);have a3:=PR base last k (ec i) ((ec i).foldl (Al.mO base) ((ek i).foldl (Al.lC base last k (ec i)) s)).v8;have a5:((ec i).foldl (Al.mO base) ((ek i).foldl (Al.lC base last k (ec i)) s)).v8.aK=((ec i).foldl (Al.mO base) ((ek i).foldl (Al.lC base last k (ec i)) s)).aK:=rfl;show(_++[_]).length=_;rw[cI,a3.2,a5,a2.2,a1.2];rfl
theorem akP(base last):∀l k s,(Al.run base last k s l).aK.length=s.aK.length+l.length
 |[],k,s=>rfl
 |i::l,k,s=>by rw[Al.run,akP base last l,aB6];simp;omega
theorem ad3(l base):(fk l base).1.length<=l.length:=by
 unfold fk;split
 .show(zr l base).aK.length<=_;unfold zr;rw[akP];simp[Gt]
 .simp
theorem afu:∀l k,(cJ l).drop (k*6)=cJ (l.drop k)
 |l,0=>by simp
 |[],k+1=>by simp[cJ]
 |i::l,k+1=>by rw[xp,Nat.one_mul,Nat.add_comm,<-xk];have:(cJ (i::l)).drop 6=cJ l:=rfl;rw[this,afu l k];rfl
theorem WK:∀l k,(cJ l).take (k*6)=cJ (l.take k)
 |l,0=>by simp[cJ]
 |[],k+1=>by simp[cJ]
 |i::l,k+1=>by
  have h:=WK l k;have e:(k+1)*6=(dq i).length+k*6:=by rw[GW];omega
  rw[cJ,e,List.take_length_add_append,h];rfl
theorem aoT(l i):gS (l.take i)<=gS l:=by exact(((List.take_sublist i l).filter _).length_le)
theorem aoS{l:gL}{i}(h:i<l.length):gS (l.take (i+1))=gS (l.take i)+(if l[i].op=19 then 1 else 0):=by unfold gS;rw[List.take_succ_eq_append_getElem h,I0,cI];by_cases h1:l[i].op=19<;>simp[h1]
def Bn(aH:gL×Int):AV:=if aH.2=0 then .aC [.ai 2 aH.1.length 6,J 0]else .aC [.aJ,J aH.2]
def Bm(code:gL)(base:LI)(aH:gL×Int):AH:=if aH.2=0 then FA code base aH.1 else Ef code base
theorem ayo{code base aH}(hc:code.length<240000)(hb:gS code<base.length)(il:base.length<2000000):
 ∀q:Nat×Nat×Nat×gL,(q.1<=code.length/\q.2.1<=q.1/\(q.1<code.length->q.2.2.1=gS (code.take q.1))/\q.2.2.2.length<=q.2.1/\q.2.2.1<4000000/\sx code base q.1 q.2.1 q.2.2.1 q.2.2.2 (code.drop q.1)=aH)->
 br Z 92 54 2 (Bn aH) (Bm code base aH) (AK code.length base.length q.2.2.2.length (q.2.1:Int) (q.2.2.1:Int) (q.1:Int)) (FA code base q.2.2.2) (aw Z 92 0):=by
 refine dS (λq=>code.length-q.1) _ _ _ _ ?_;rintro⟨i,fr,part,l⟩ ⟨hi,iJ,Yw,hl,EE,hf⟩ ih;simp only at hi iJ Yw hl EE hf ih⊢;refine hE Ua ayq ?_;refine aD.2 ⟨λax=>?_,λbu=>?_⟩
 .have ax:i<code.length:=by simpa using ax
  have Yw:=Yw ax;have gC:=aoS ax;have hct:=aoT code i;have bX:=mS.get (p:=⟨cJ code,0,code⟩) ⟨by rw[xf,WK,vT],by show code.length<1200000;omega⟩ ax;rw[ki]at bX;rw[fY ax,sx]at hf;have bX:=bX;generalize code[i]=x at bX hf gC;have⟨o,r,a,n,s,ar⟩:=x;have e1:wI (Int.ofNat code.length-1)=(code.length:Int)-1:=by rw[cO (by simp;omega) (by simp;omega)];simp
  refine⟨i,rfl,ax,o,r,a,n,s,ar,bX,?_⟩;rw[e1,om ax (by omega),om (lY part) (by omega)];have cut:¬(o≠19/\i+1<code.length)->((1<=code.length)/\∃cG:Nat,((fr:Int)=(cG:Int))/\∃dO:Nat,(((i+1:Nat):Int)=(dO:Int))/\((cG<=dO)/\dO<=code.length)/\
   ∃f_:Nat,((part:Int)=(f_:Int))/\(f_<base.length)/\∃iP:Int,(cw Z 3 (aX base) (f_*1)=some (J iP))/\
   ∃w:mS×Int,((([.bq 0 (0+(cG*6)) (dO-cG) 0 6 false,J iP]:LV)=[.bq 0 w.1.mR w.1.l.length 0 6 false,J w.2])/\(al [(0,.ay (cJ code) 56)] 1=my w.1)/\w.1.ok/\w.1.l.length<240000)/\
   aq ((fk w.1.l w.2).2 !=0)
    (fA (Bn aH) (Bm code base aH) (.aC [.aJ,J (fk w.1.l w.2).2]) (al [(0,.ay w.1.cs 56),(1,bK base 3)] 2))
    (((cJ (fk w.1.l w.2).1).length=(fk w.1.l w.2).1.length*6)/\
      ((fk w.1.l w.2).1.length=0->(l.length<=4194304)/\br Z 92 54 2 (Bn aH) (Bm code base aH) (AK code.length base.length l.length ((i+1:Nat):Int) ((part+1:Nat):Int) ((i+1:Nat):Int)) (al [(0,.ay w.1.cs 56),(1,bK base 3),(2,kT l)] 3) (aw Z 92 0))/\
      (1<=(fk w.1.l w.2).1.length->(((cJ l).length=l.length*6)/\(l.length+(fk w.1.l w.2).1.length<=4194304)/\((cJ (fk w.1.l w.2).1).all AV.cX=true)/\(cJ (fk w.1.l w.2).1).all eG=true)/\
        br Z 92 54 2 (Bn aH) (Bm code base aH) (AK code.length base.length (l.length+(fk w.1.l w.2).1.length) ((i+1:Nat):Int) ((part+1:Nat):Int) ((i+1:Nat):Int)) (al [(0,.ay w.1.cs 56),(1,bK base 3),(2,.ay (cJ l++cJ (fk w.1.l w.2).1) 56)] 3) (aw Z 92 0)))):=by
   intro hn;rw[az hn]at hf;have hpb:part<base.length:=by omega
   have wN:((code.drop fr).take (i+1-fr)).length=i+1-fr:=by simp;omega
   have hpo:(⟨cJ code,0+fr*6,(code.drop fr).take (i+1-fr)⟩:mS).ok:=⟨by rw[ki,afu,wN,WK],by show((code.drop fr).take (i+1-fr)).length<1200000;omega⟩;have HH:=ad3 ((code.drop fr).take (i+1-fr)) (base.getD part 0);rw[wN]at HH;refine⟨by omega,fr,rfl,i+1,rfl,⟨by omega,by omega⟩,part,rfl,hpb,_,n7 hpb,(⟨cJ code,0+fr*6,(code.drop fr).take (i+1-fr)⟩,base.getD part 0),⟨by simp only[wN],rfl,hpo,by simp;omega⟩,aD.2 ⟨λhe=>?_,λhe=>?_⟩⟩
   .have he:(fk ((code.drop fr).take (i+1-fr)) (base.getD part 0)).2≠0:=by simpa using he
    rw[aO he]at hf;subst hf;simp only[Bn,Bm,az he];exact⟨rfl,rfl⟩
   .have he:(fk ((code.drop fr).take (i+1-fr)) (base.getD part 0)).2=0:=by simpa using he
    rw[az (λh=>h he)]at hf;have next:=ih (i+1,i+1,part+1,l++(fk ((code.drop fr).take (i+1-fr)) (base.getD part 0)).1) ⟨by simp;omega,by simp,λh=>?_,by simp only[cI];omega,by simp;omega,hf⟩ (by simp;omega)
    .simp only at next
     refine⟨by rw[Bc],λh0=>⟨by omega,?_⟩,λh1=>⟨⟨by rw[Bc],by simp only;omega,(WJ _).1,(WJ _).2⟩,?_⟩⟩
     .have h0:=mJ h0;rw[h0,jm]at next
      exact next
     .simp only[FA,kT,Pt,cI]at next
      exact next
    .have h:=h;have ho:o=19:=by
      rcases Decidable.em (o=19)with h1|h1
      .exact h1
      .exact absurd ⟨h1,h⟩ hn
     rw[aO ho]at gC;show part+1=gS (code.take (i+1));omega
  refine aD.2 ⟨λho=>aD.2 ⟨λh2=>?_,λh2=>?_⟩,λho=>?_⟩
  .have ho:o≠19:=by simpa using ho
   have h2:i+1<code.length:=by simp at h2;omega
   rw[aO ⟨ho,h2⟩]at hf;rw[az ho]at gC;exact ih (i+1,fr,part,l) ⟨by simp;omega,by simp;omega,λ_=>by show part=gS (code.take (i+1));omega,hl,EE,hf⟩ (by simp;omega)
  .exact cut (λh=>by simp at h2;omega)
  .exact cut (λh=>h.1 (by simpa using ho))
 .have bu:code.length<=i:=by simpa using bu
  rw[gQ bu]at hf;have hf:=hf;subst hf;exact⟨rfl,rfl⟩
theorem anc:aU Z G15:=by
 refine cA Ua ?_;rintro⟨code,base⟩ args H ⟨rfl,rfl,hc,hb,il⟩;have rj:bZ Z 92 [.ai 0 code.length 6,.ai 1 base.length 1] (Ef code base) (Bn (mU code base)) (Bm code base (mU code base)):=by refine eE 54 Ua ayp ?_;refine HO 6 56 [4] ?_ rfl (by kernel_rfl);exact ayo hc hb il (0,0,0,[]) ⟨by simp,by simp,λ_=>by simp[gS],by simp,by simp,rfl⟩
 simp only[VE];by_cases h0:(mU code base).2=0
 .simp only[Bn,Bm,aO h0]at rj;rw[h0];exact rj
 .simp only[Bn,Bm,az h0]at rj;have he:(mU code base).1=[]:=by
   have key:∀(rest:gL) (i fr part:Nat) (l:gL),(sx code base i fr part l rest).2≠0->(sx code base i fr part l rest).1=[]:=by
    intro rest;induction rest with
    |nil=>intro i fr part l h;exact absurd rfl h
    |cons x rest ih=>
     intro i fr part l h;unfold sx at h⊢;split;next h1=>rw[aO h1]at h;exact ih _ _ _ _ h
     next h1=>
      rw[az h1]at h;split
      .rfl
      next h2=>rw[az h2]at h;exact ih _ _ _ _ h
   exact key code 0 0 0 [] h0
  rw[he];exact afF rj rfl (cM _)
abbrev R6:Ev.bo:=G15
theorem anz:aU Z R6:=anc
def MF(g:qe):Bool:=decide (g.eO=2\/g.eO=3\/g.eO=4)
def fg:fO->Nat
 |[]=>0
 |g::l=>bM g.eN+1+fg l
abbrev R7:Ev.bo:=R6
theorem P':∀l,l.length<=fg l
 |[]=>by simp
 |g::l=>by have:=P' l;simp only[fg,ej];omega
section
variable{nm:LN}{ar au:Int}{cs:LV}{len:Nat}{gs:LV}{gl:Nat}{aH:LP}
end
section
variable{nm:LN}{ar au:Int}{cs:LV}{len:Nat}{aH:LP}{G:fO}
end
theorem anA:aU Z R7:=anz
abbrev R8:Ev.bo:=R7
theorem anB:aU Z R8:=anA
abbrev R9:Ev.bo:=R8
theorem Vk:aU Z R9:=anB
structure fw where
 dW:Int
 Nz:Int
 last:Int
 deriving DecidableEq,Inhabited
def vS(s:fw):AV:=.ah [J s.dW,J s.Nz,J s.last]
theorem aCX:∀a b,vS a=vS b->a=b:=by rintro⟨a,b,c⟩ ⟨a',b',c'⟩ h;obtain⟨rfl,rfl,rfl⟩:=h;rfl
abbrev gA:=List (Int×fw)×LI
def lX(st:gA)(v c:Int):gA:=
 match lk v st.1 with
 |none=>(up v ⟨st.2.length,c,c⟩ st.1,st.2++[v])
 |some s=>(up v ⟨s.dW,s.Nz,c⟩ st.1,st.2)
mutual
def pb(c:Int):gA->aI->gA
 |st,.mk k n _ l=>if k=0 then lX st n c else jb c st l
def jb(c:Int):gA->eK->gA
 |st,[]=>st
 |st,t::l=>jb c (pb c st t) l
end
theorem ajC(st v c):(lX st v c).2.length<=st.2.length+1:=by unfold lX;split<;>simp
mutual
theorem Z9(c:Int):∀(st:gA) (t:aI),(pb c st t).2.length<=st.2.length+bN t
 |st,.mk k n s l=>by
  unfold pb;split
  .have:=ajC st n c;simp only[bN];omega
  .have:=IL c st l;simp only[bN];omega
theorem IL(c:Int):∀(st:gA) (l:eK),(jb c st l).2.length<=st.2.length+bM l
 |st,[]=>by simp[jb,bM]
 |st,t::l=>by have h1:=Z9 c st t;have h2:=IL c (pb c st t) l;simp only[jb,bM];omega
end
def rfA:Code:=match M3 Z 85 0 with|.gy (.rangeFunc _ _ a _)::_=>a|_=>.skip
def rfB:Code:=match M3 Z 85 0 with|.gy (.rangeFunc _ _ _ b)::_=>b|_=>.skip
def o8(st:LoopState)(t:List (Nat×AV))(d:Nat):bk:=.gK st none 85 (aB t) 120 [22] rfA rfB d
def dx(f:bG):bk:=.aj (gH f) 106
def gw(sp:List (Int×fw)):bk:=.bm (bJ vS 0 sp) sp.length true
def rl(od:LI):bk:=.ay (aX od) 2
def lT(F O B C S:Nat):List (Nat×AV):=[(1,.aa F 0),(2,.aa C 0),(4,.aa S 0),(5,.aa O 0),(21,.ba (.func 149) [] [.aa B 0])]
def mX:bk:=.aj [.aJ,.aJ,.aJ] 153
def j3:bk:=.pB (some [])
def hR(f:bG)(st:gA):AH:=al [(0,o8 .ready (lT 2 3 4 5 6) 1),(1,j3),(2,dx f),(3,.aj [.ai 7 st.2.length 1] 35),(4,dx f),(5,mX),(6,.aj [.aA 8] 193),(7,rl st.2),(8,gw st.1)] 9
def oR(f:bG)(st:gA):AH:=al [(0,o8 .ready (lT 2 3 4 5 6) 1),(1,j3),(2,dx f),(3,.aj [.ai 9 st.2.length 1] 35),(4,dx f),(5,mX),(6,.aj [.aA 8] 193),(7,.bc []),(8,gw st.1),(9,rl st.2)] 10
def hW(f:bG)(k:Int)(st:gA):AH:=al [(0,.aj [.gz 2] 221),(1,.aj [J k] 3),(2,o8 .ready (lT 4 5 6 7 8) 3),(3,j3),(4,dx f),(5,.aj [.ai 9 st.2.length 1] 35),(6,dx f),(7,mX),(8,.aj [.aA 10] 193),(9,rl st.2),(10,gw st.1)] 11
def oW(f:bG)(k:Int)(st:gA):AH:=al [(0,.aj [.gz 2] 221),(1,.aj [J k] 3),(2,o8 .ready (lT 4 5 6 7 8) 3),(3,j3),(4,dx f),(5,.aj [.ai 11 st.2.length 1] 35),(6,dx f),(7,mX),(8,.aj [.aA 10] 193),(9,.bc []),(10,gw st.1),(11,rl st.2)] 12
theorem auH(f st):Mv (hR f st) (oR f st) 7:=qz (l':=[(0,o8 .ready (lT 2 3 4 5 6) 1),(1,j3),(2,dx f),(3,.aj [.ai 9 st.2.length 1] 35),(4,dx f),(5,mX),(6,.aj [.aA 8] 193),(7,.bc []),(8,gw st.1)]) rfl rfl rfl
theorem mvW(f k st):Mv (hW f k st) (oW f k st) 9:=qz (l':=[(0,.aj [.gz 2] 221),(1,.aj [J k] 3),(2,o8 .ready (lT 4 5 6 7 8) 3),(3,j3),(4,dx f),(5,.aj [.ai 11 st.2.length 1] 35),(6,dx f),(7,mX),(8,.aj [.aA 10] 193),(9,.bc []),(10,gw st.1)]) rfl rfl rfl
theorem Nb{a b}(h:gw a=gw b):a=b:=rU aCX (bk.bm.inj h).1
theorem RI{a b}(h:rl a=rl b):a=b:=yY (bk.ay.inj h).1
theorem W2{a b}(h:dx a=dx b):a=b:=ye _ _ (bk.aj.inj h).1
theorem arW{f f' st jL}(h:hR f st=hR f' jL):f=f'/\st=jL:=by
 have q:=λi=>congrArg (λH=>AH.bf H i) h
 exact⟨W2 (dw (q 2)),Prod.ext (Nb (dw (q 8))) (RI (dw (q 7)))⟩
theorem Qn{f f' k k' st jL}(h:hW f k st=hW f' k' jL):f=f'/\k=k'/\st=jL:=by
 have q:=λi=>congrArg (λH=>AH.bf H i) h
 have hk:=(bk.aj.inj (dw (q 1))).1;simp at hk;exact⟨W2 (dw (q 4)),hk,Prod.ext (Nb (dw (q 10))) (RI (dw (q 9)))⟩
def aaU:cx (bG×gA×Int×Int)where
 bn w A H:=A=[.gz 0,.ah [J w.2.2.1,J w.2.2.2]]/\H=hR w.1 w.2.1/\w.2.1.2.length<1200000
 v w:=.ao true
 aK w:=oR w.1 (lX w.2.1 w.2.2.1 w.2.2.2)
theorem av9:aaU.cr:=by rintro⟨f,st,v,c⟩ ⟨f',jL,v',c'⟩ A H ⟨h1,h2,_⟩ ⟨k1,k2,_⟩;obtain⟨rfl,rfl⟩:=arW (h2.symm.trans k2);rw[h1]at k1;simp at k1;obtain⟨rfl,rfl⟩:=k1;rfl
def U6:Ev.bo:=bR 999999 (ca aaU av9 cD) R9
def wk1:cx (bG×Int×gA×Int)where
 bn w A H:=A=[J w.2.2.2,.aa 0 0,.aa 1 0]/\H=hW w.1 w.2.1 w.2.2.1/\w.2.2.1.2.length<1200000
 v w:=.ao true
 aK w:=oW w.1 w.2.1 (lX w.2.2.1 w.2.2.2 w.2.1)
theorem aDs:wk1.cr:=by rintro⟨f,k,st,v⟩ ⟨f',k',jL,v'⟩ A H ⟨h1,h2,_⟩ ⟨k1,k2,_⟩;obtain⟨rfl,rfl,rfl⟩:=Qn (h2.symm.trans k2);rw[h1]at k1;simp at k1;rw[k1]
def U7:Ev.bo:=bR 152 (ca wk1 aDs cD) U6
def wkX(N:Nat):cx (bG×Int×gA×aI)where
 bn w A H:=A=[.ah (aW w.2.2.2),.ba (.func 152) [] [.aa 0 0,.aa 1 0]]/\H=hW w.1 w.2.1 w.2.2.1/\bL w.2.2.2/\bN w.2.2.2<N/\w.2.2.1.2.length+bN w.2.2.2<1200000
 v w:=.ao true
 aK w:=oW w.1 w.2.1 (pb w.2.1 w.2.2.1 w.2.2.2)
theorem aDx(N):(wkX N).cr:=by rintro⟨f,k,st,t⟩ ⟨f',k',jL,t'⟩ A H ⟨h1,h2,_⟩ ⟨k1,k2,_⟩;obtain⟨rfl,rfl,rfl⟩:=Qn (h2.symm.trans k2);rw[h1]at k1;simp at k1;rw[m_ k1]
def J9(N:Nat):Ev.bo:=bR 151 (ca (wkX N) (aDx N) cD) U7
def amH:cx (bG×Int×gA×aI)where
 bn w A H:=A=[.ah (aW w.2.2.2),.ba (.func 152) [] [.aa 0 0,.aa 1 0]]/\H=hW w.1 w.2.1 w.2.2.1/\bL w.2.2.2/\w.2.2.1.2.length+bN w.2.2.2<1200000
 v w:=.ao true
 aK w:=oW w.1 w.2.1 (pb w.2.1 w.2.2.1 w.2.2.2)
theorem aDw:amH.cr:=by rintro⟨f,k,st,t⟩ ⟨f',k',jL,t'⟩ A H ⟨h1,h2,_⟩ ⟨k1,k2,_⟩;obtain⟨rfl,rfl,rfl⟩:=Qn (h2.symm.trans k2);rw[h1]at k1;simp at k1;rw[m_ k1]
def OB:Ev.bo:=bR 151 (ca amH aDw cD) U7
def eaX:cx (bG×Int×gA×eK)where
 bn w A H:=A=[.ad (aF w.2.2.2) w.2.2.2.length 4,.aa 0 0,.aa 1 0]/\H=hW w.1 w.2.1 w.2.2.1/\dt w.2.2.2.length/\fy w.2.2.2/\w.2.2.1.2.length+bM w.2.2.2<1200000
 v w:=.ao true
 aK w:=oW w.1 w.2.1 (jb w.2.1 w.2.2.1 w.2.2.2)
theorem apN:eaX.cr:=by rintro⟨f,k,st,t⟩ ⟨f',k',jL,t'⟩ A H ⟨h1,h2,_⟩ ⟨k1,k2,_⟩;obtain⟨rfl,rfl,rfl⟩:=Qn (h2.symm.trans k2);rw[h1]at k1;simp at k1;rw[tQ k1.2 k1.1]
def U9:Ev.bo:=bR 150 (ca eaX apN cD) OB
theorem akm{f st v c L Q}:
 aa4 Z R9 (λ_=>[]) L Q 1000 0 (.ah [J v,J c]) (hR f st)=(
 ∃n aP bA b,(eT Z 2 200 (bJ vS 0 st.fst) (J v)=some ((.ah [J n,J aP,J bA],b)))/\
 aq (!b)
  (((List.length (aX st.snd)=(List.length st.snd)*1)/\
    ((List.length st.snd)+1<=4194304)/\
    (true=true)/\
    true=true)/\
    ∃bF c',(jX Z 2 (bJ vS 0 st.fst) (List.length st.fst) (J v) (.ah [J (aE (List.length st.snd)),J c,J c])=some ((bF,c')))/\
    Q (.ao true) (al [(0,(o8 LoopState.ready [(1,.aa 2 0),(2,.aa 5 0),(4,.aa 6 0),(5,.aa 3 0),(21,.ba (.func 149) [] [.aa 4 0])] 1)),(1,.pB (some [])),(2,.aj [.ab f.aN.cL,J (cV.ar (bG.aN f)),J (cV.au (bG.aN f)),.ad (aF f.bC) (List.length f.bC) 4,.ad (bD f.aZ) (List.length f.aZ) 6] 106),(3,.aj [.ai 9 ((List.length st.snd)+1) 1] 35),(4,.aj [.ab f.aN.cL,J (cV.ar (bG.aN f)),J (cV.au (bG.aN f)),.ad (aF f.bC) (List.length f.bC) 4,.ad (bD f.aZ) (List.length f.aZ) 6] 106),(5,.aj [.aJ,.aJ,.aJ] 153),(6,.aj [.aA 8] 193),(7,.bc []),(8,.bm bF c' true),(9,.ay ((aX st.snd)++[J v]) 2)] 10))
  (∃bF c',(jX Z 2 (bJ vS 0 st.fst) (List.length st.fst) (J v) (.ah [J n,J aP,J c])=some ((bF,c')))/\
    Q (.ao true) (al [(0,(o8 LoopState.ready [(1,.aa 2 0),(2,.aa 5 0),(4,.aa 6 0),(5,.aa 3 0),(21,.ba (.func 149) [] [.aa 4 0])] 1)),(1,.pB (some [])),(2,.aj [.ab f.aN.cL,J (cV.ar (bG.aN f)),J (cV.au (bG.aN f)),.ad (aF f.bC) (List.length f.bC) 4,.ad (bD f.aZ) (List.length f.aZ) 6] 106),(3,.aj [.ai 7 (List.length st.snd) 1] 35),(4,.aj [.ab f.aN.cL,J (cV.ar (bG.aN f)),J (cV.au (bG.aN f)),.ad (aF f.bC) (List.length f.bC) 4,.ad (bD f.aZ) (List.length f.aZ) 6] 106),(5,.aj [.aJ,.aJ,.aJ] 153),(6,.aj [.aA 8] 193),(7,.ay (aX st.snd) 2),(8,.bm bF c' true)] 9))):=by kernel_rfl
abbrev Hy x0 x1 x2 x3 x4:=al [(0,.aj [.gz 2] 221),(1,.aj [J x0] 3),(2,o8 LoopState.ready [(1,.aa 4 0),(2,.aa 7 0),(4,.aa 8 0),(5,.aa 5 0),(21,.ba (.func 149) [] [.aa 6 0])] 3),(3,j3),(4,dx x1),(5,.aj [.ai 11 x2 1] 35),(6,dx x1),(7,mX),(8,.aj [.aA 10] 193),(9,.bc []),(10,gw x3),(11,bK x4 2)] 12
theorem ay9{f k st v L Q}:
 bI Z U6 (λ_=>[]) L Q 1000 152 [J v,.aa 0 0,.aa 1 0] (hW f k st)=(
 ∃w:bG×gA×Int×Int,(([.gz 0,.ah [J v,J k]]:LV)=[.gz 0,.ah [J w.2.2.1,J w.2.2.2]]/\al [(0,o8 LoopState.ready [(1,.aa 2 0),(2,.aa 5 0),(4,.aa 6 0),(5,.aa 3 0),(21,.ba (.func 149) [] [.aa 4 0])] 1),(1,j3),(2,dx f),(3,.aj [.ai 7 st.2.length 1] 35),(4,dx f),(5,mX),(6,.aj [.aA 8] 193),(7,bK st.2 2),(8,gw st.1)] 9=hR w.1 w.2.1/\w.2.1.2.length<1200000)/\Q (.ao true) (Hy k w.1 (lX w.2.1 w.2.2.1 w.2.2.2).2.length (lX w.2.1 w.2.2.1 w.2.2.2).1 (lX w.2.1 w.2.2.1 w.2.2.2).2)):=by kernel_rfl
abbrev SW x0 x1 x2:=aB [(1,.ba (.func 152) [] [.aa 0 0,.aa 1 0]),(15,.ad x0 x1 4),(16,J (aE x1)),(17,J x2)]
abbrev Lg x0 x1 x2 x3 x4:=al [(0,.aj [.gz 2] 221),(1,.aj [J x0] 3),(2,o8 LoopState.ready [(1,.aa 4 0),(2,.aa 7 0),(4,.aa 8 0),(5,.aa 5 0),(21,.ba (.func 149) [] [.aa 6 0])] 3),(3,j3),(4,dx x1),(5,.aj [.ai 9 x2 1] 35),(6,dx x1),(7,mX),(8,.aj [.aA 10] 193),(9,bK x3 2),(10,gw x4)] 11
theorem ay7{f c st k n s cs len N L Q}:
 bI Z (J9 N) (λ_=>[1,15,16,17]) L Q 1000 151 [.ah [J k,J n,.ab s,.ad cs len 4],.ba (.func 152) [] [.aa 0 0,.aa 1 0]] (hW f c st)=(
 aq (k==0) (∃w:bG×Int×gA×Int,(([J n,.aa 0 0,.aa 1 0]:LV)=[J w.2.2.2,.aa 0 0,.aa 1 0]/\Lg c f st.2.length st.2 st.1=hW w.1 w.2.1 w.2.2.1/\w.2.2.1.2.length<1200000)/\Q (.ao true) (Hy w.2.1 w.1 (lX w.2.2.1 w.2.2.2 w.2.1).2.length (lX w.2.2.1 w.2.2.2 w.2.1).1 (lX w.2.2.1 w.2.2.2 w.2.1).2)) (L (SW cs len 0) (Lg c f st.2.length st.2 st.1) (aw Z 151 0))):=by kernel_rfl
theorem ay8{f c st cs len i N L Q}:
 ck Z (J9 N) (λ_=>[1,15,16,17]) L Q 1000 151 11 (SW cs len i) (aw Z 151 0) (oW f c st)=(
 aq (decide (i<aE len)) (∃aL:Nat,i=(aL:Int)/\aL<len/\(∃n aP s bP bH,((cs.drop (aL*4)).take 4:LV)=[J n,J aP,.ab s,.ad bP bH 4]/\(∃w:bG×Int×gA×aI,(([.ah [J n,J aP,.ab s,.ad bP bH 4],.ba (.func 152) [] [.aa 0 0,.aa 1 0]]:LV)=[.ah (aW w.2.2.2),.ba (.func 152) [] [.aa 0 0,.aa 1 0]]/\Lg c f st.2.length st.2 st.1=hW w.1 w.2.1 w.2.2.1/\bL w.2.2.2/\bN w.2.2.2<N/\w.2.2.1.2.length+bN w.2.2.2<1200000)/\L (SW cs len (wI (i+1))) (Hy w.2.1 w.1 (pb w.2.1 w.2.2.1 w.2.2.2).2.length (pb w.2.1 w.2.2.1 w.2.2.2).1 (pb w.2.1 w.2.2.1 w.2.2.2).2) (aw Z 151 0)))) (Q (.ao true) (Hy c f st.2.length st.1 st.2))):=by kernel_rfl
abbrev SX x0 x1 x2:=aB [(1,.aa 0 0),(2,.aa 1 0),(7,.ad x0 x1 4),(8,J (aE x1)),(9,J x2)]
theorem ay4{f c st cs len L Q}:
 bI Z OB (λ_=>[1,2,7,8,9]) L Q 1000 150 [.ad cs len 4,.aa 0 0,.aa 1 0] (hW f c st)=(
 L (SX cs len 0) (Lg c f st.2.length st.2 st.1) (aw Z 150 0)):=by kernel_rfl
theorem ay5{f c st cs len i L Q}:
 ck Z OB (λ_=>[1,2,7,8,9]) L Q 1000 150 11 (SX cs len i) (aw Z 150 0) (oW f c st)=(
 aq (decide (i<aE len)) (∃aL:Nat,i=(aL:Int)/\aL<len/\(∃n aP s bP bH,((cs.drop (aL*4)).take 4:LV)=[J n,J aP,.ab s,.ad bP bH 4]/\(∃w:bG×Int×gA×aI,(([.ah [J n,J aP,.ab s,.ad bP bH 4],.ba (.func 152) [] [.aa 0 0,.aa 1 0]]:LV)=[.ah (aW w.2.2.2),.ba (.func 152) [] [.aa 0 0,.aa 1 0]]/\Lg c f st.2.length st.2 st.1=hW w.1 w.2.1 w.2.2.1/\bL w.2.2.2/\w.2.2.1.2.length+bN w.2.2.2<1200000)/\L (SX cs len (wI (i+1))) (Hy w.2.1 w.1 (pb w.2.1 w.2.2.1 w.2.2.2).2.length (pb w.2.1 w.2.2.1 w.2.2.2).1 (pb w.2.1 w.2.2.1 w.2.2.2).2) (aw Z 150 0)))) (Q (.ao true) (Hy c f st.2.length st.1 st.2))):=by kernel_rfl
theorem amQ:jZ Z 200=some (vS ⟨0,0,0⟩):=by kernel_rfl
theorem Jb(l x):aX (l++[x])=aX l++[J x]:=by simp[aX]
theorem uC(l):(aX l).length=l.length:=by simp[aX]
theorem adl:aU Z U6:=by
 refine anV Vk ?_;rintro⟨f,st,v,c⟩ args H ⟨rfl,rfl,hl⟩;refine⟨0,_,rfl,?_⟩;have hl:=hl;have⟨sp,od⟩:=st;simp only at hl;simp only[aaU];cases hk:lk v sp with
 |none=>
  have e:lX (sp,od) v c=(up v ⟨od.length,c,c⟩ sp,od++[v]):=by simp[lX,hk]
  rw[e];refine akG (n:=1000) (aR:=λ_=>[]) iO Vk rfl (show 0<9 by omega) ?_;rw[akm];refine⟨0,0,0,false,by rw[o7 _ jv,hk,amQ];rfl,?_⟩;refine aD.2 ⟨λ_=>⟨⟨by simp[uC],by simp only;omega,rfl,rfl⟩,_,_,pk vS jv (v:=⟨od.length,c,c⟩),rfl,?_⟩,λh=>by cases h⟩;simp only[oR,rl,Jb,cI,ej,gW,ki];rfl
 |some s0=>
  have⟨a,b,l⟩:=s0;have e:lX (sp,od) v c=(up v ⟨a,b,c⟩ sp,od):=by simp[lX,hk]
  rw[e];refine awc ?_ (auH f _) (cM _);refine akG (n:=1000) (aR:=λ_=>[]) iO Vk rfl (show 0<9 by omega) ?_;rw[akm];refine⟨a,b,l,true,by rw[o7 _ jv,hk];rfl,?_⟩;exact aD.2 ⟨λh=>(by cases h),λ_=>⟨_,_,pk vS jv (v:=⟨a,b,c⟩),rfl,rfl⟩⟩
theorem adm:aU Z U7:=by refine cA adl ?_;rintro⟨f,k,st,v⟩ args H ⟨rfl,rfl,hl⟩;refine eS adl 1000 (λ_=>[]) 10 (by kernel_rfl) ?_;simp;rw[ay9];exact⟨(f,st,v,k),⟨rfl,rfl,hl⟩,rfl,rfl⟩
theorem ay6{f c aH l N}(hS:aU Z (J9 N))(hl:dt l.length)(ho:fy l)(hN:bM l<N):
 ∀p:Nat×gA,(p.1<=l.length/\p.2.2.length+bM (l.drop p.1)<1200000/\jb c p.2 (l.drop p.1)=aH)->
 br Z 151 26 11 (.ao true) (oW f c aH) (SW (aF l) l.length (p.1:Int)) (oW f c p.2) (aw Z 151 0):=by
 refine dS (λp=>l.length-p.1) _ _ _ _ ?_;rintro⟨i,st⟩ ⟨hi,hc,hf⟩ ih;simp only at hi hc hf ih⊢;refine hE hS ay8 ?_;refine aD.2 ⟨λax=>?_,λbu=>?_⟩
 .have ax:i<l.length:=by simpa using ax
  have⟨k1,n1,s1,m1,he,bX,a_⟩:=y9 ax ho;have cv:=Nq ax;rw[he]at cv;rw[fY ax,he,bM]at hc;rw[fY ax,he,jb]at hf;have hg:=Z9 c st (.mk k1 n1 s1 m1);refine⟨i,rfl,ax,k1,n1,s1,_,_,bX,(f,c,st,.mk k1 n1 s1 m1),⟨rfl,rfl,a_,by simp only;omega,by simp only;omega⟩,?_⟩;rw[lh hl ax];exact ih (i+1,pb c st (.mk k1 n1 s1 m1)) ⟨by simp;omega,by simp only;omega,hf⟩ (by simp;omega)
 .have bu:l.length<=i:=by simpa using bu
  rw[gQ bu,jb]at hf;subst hf;exact⟨rfl,rfl⟩
theorem ak6{f c st k n s l N}(hS:aU Z (J9 N))(ho:bL (.mk k n s l))(hN:bM l<N)(hc:st.2.length+(1+bM l)<1200000):
 bZ Z 151 [.ah [J k,J n,.ab s,.ad (aF l) l.length 4],.ba (.func 152) [] [.aa 0 0,.aa 1 0]] (hW f c st) (.ao true) (oW f c (pb c st (.mk k n s l))):=by
 refine eE 26 hS ay7 ?_;refine aD.2 ⟨λhk=>?_,λhk=>?_⟩
 .have hk:k=0:=by simpa using hk
  have e:pb c st (.mk k n s l)=lX st n c:=by rw[pb,aO hk]
  rw[e];exact⟨(f,c,st,n),⟨rfl,rfl,by simp only;omega⟩,rfl,rfl⟩
 .have hk:¬k=0:=by simpa using hk
  have e:pb c st (.mk k n s l)=jb c st l:=by rw[pb,az hk]
  rw[e];refine u9 ?_ (mvW f c st) (by kernel_rfl) (λi a' hi=>⟨a',hi,vC hi (by simp[eC,j8,kW,eg])⟩);exact ay6 hS ho.2.1 ho.2.2 hN (0,st) ⟨by simp,by simp;omega,by simp⟩
theorem anu:∀N,aU Z (J9 N):=by
 refine yX adm ?_ ?_
 .rintro⟨f,c,st,t⟩ args H ⟨_,_,_,h,_⟩;omega
 .rintro N hS ⟨f,c,st,⟨k,n,s,l⟩⟩ args H ⟨rfl,rfl,ho,hN,hc⟩;simp only[bN]at hc hN;exact ak6 hS ho (by omega) hc
theorem U8:aU Z OB:=by refine cA adm ?_;rintro⟨f,c,st,⟨k,n,s,l⟩⟩ args H ⟨rfl,rfl,ho,hc⟩;simp at hc;exact ak6 (anu (bM l+1)) ho (by omega) hc
theorem ay3{f c aH l}(hl:dt l.length)(ho:fy l):
 ∀p:Nat×gA,(p.1<=l.length/\p.2.2.length+bM (l.drop p.1)<1200000/\jb c p.2 (l.drop p.1)=aH)->
 br Z 150 18 11 (.ao true) (oW f c aH) (SX (aF l) l.length (p.1:Int)) (oW f c p.2) (aw Z 150 0):=by
 refine dS (λp=>l.length-p.1) _ _ _ _ ?_;rintro⟨i,st⟩ ⟨hi,hc,hf⟩ ih;simp only at hi hc hf ih⊢;refine hE U8 ay5 ?_;refine aD.2 ⟨λax=>?_,λbu=>?_⟩
 .have ax:i<l.length:=by simpa using ax
  have⟨k1,n1,s1,m1,he,bX,a_⟩:=y9 ax ho;rw[fY ax,he,bM]at hc;rw[fY ax,he,jb]at hf;have hg:=Z9 c st (.mk k1 n1 s1 m1);refine⟨i,rfl,ax,k1,n1,s1,_,_,bX,(f,c,st,.mk k1 n1 s1 m1),⟨rfl,rfl,a_,by simp only;omega⟩,?_⟩;rw[lh hl ax];exact ih (i+1,pb c st (.mk k1 n1 s1 m1)) ⟨by simp;omega,by simp only;omega,hf⟩ (by simp;omega)
 .have bu:l.length<=i:=by simpa using bu
  rw[gQ bu,jb]at hf;subst hf;exact⟨rfl,rfl⟩
theorem adn:aU Z U9:=by refine cA U8 ?_;rintro⟨f,c,st,l⟩ args H ⟨rfl,rfl,hl,ho,hc⟩;have hl:=hl;refine eS U8 1000 (λ_=>[1,2,7,8,9]) 18 (by kernel_rfl) ?_;simp;rw[ay4];refine u9 ?_ (mvW f c st) (by kernel_rfl) (λi a' hi=>⟨a',hi,vC hi (by simp[eC,kW,eg])⟩);exact ay3 hl ho (0,st) ⟨by simp,by simp;omega,by simp⟩
def ajR:LV->Option (Prop×AV)
 |[.ah [.bU .i64 k,.ab _,.bU .i64 _,.bU .i64 _,.ad _ _ 4,.bU .i64 _]]=>some (True,.ao (decide (k=2\/k=3\/k=4)))
 |_=>none
def OC:Ev.bo:=e9 153 (fK ajR) U9
def At(c:Int)(st:gA)(g:qe):gA:=if MF g then lX (jb c st g.eN) g.lG c else jb c st g.eN
def Ck:Nat->gA->fO->gA
 |_,st,[]=>st
 |c,st,g::gs=>Ck (if g.eO=1 then c+1 else c) (At c st g) gs
def Cj(f:bG)(st:gA):gA:=Ck 0 (jb 0 st f.bC) f.aZ
def Lb(f:bG)(st:gA):AH:=al [(0,o8 .ready (lT 3 4 1 5 6) 2),(1,dx f),(2,j3),(3,dx f),(4,.aj [.ai 7 st.2.length 1] 35),(5,mX),(6,.aj [.aA 8] 193),(7,rl st.2),(8,gw st.1)] 9
def o91(f:bG)(st:gA):AH:=al [(0,o8 .ready (lT 3 4 1 5 6) 2),(1,dx f),(2,j3),(3,dx f),(4,.aj [.ai 9 st.2.length 1] 35),(5,mX),(6,.aj [.aA 8] 193),(7,.bc []),(8,gw st.1),(9,rl st.2)] 10
def r91(f:bG)(k:Int)(st:gA):AH:=al [(0,o8 .ready (lT 3 4 1 5 6) 2),(1,dx f),(2,j3),(3,dx f),(4,.aj [.ai 11 st.2.length 1] 35),(5,mX),(6,.aj [.aA 8] 193),(7,.bc []),(8,gw st.1),(9,.aj [.gz 0] 221),(10,.aj [J k] 3),(11,rl st.2)] 12
theorem arN{f f' st jL}(h:Lb f st=Lb f' jL):f=f'/\st=jL:=by
 have q:=λi=>congrArg (λH=>AH.bf H i) h
 exact⟨W2 (dw (q 1)),Prod.ext (Nb (dw (q 8))) (RI (dw (q 7)))⟩
def ocX:cx (bG×gA)where
 bn w A H:=A=[.gz 0,.aa 1 0]/\H=Lb w.1 w.2/\iW w.1/\w.2.2.length+bM w.1.bC+fg w.1.aZ<1200000
 v w:=.aC []
 aK w:=o91 w.1 (Cj w.1 w.2)
theorem auV:ocX.cr:=by rintro⟨f,st⟩ ⟨f',jL⟩ A H ⟨h1,h2,_⟩ ⟨k1,k2,_⟩;obtain⟨rfl,rfl⟩:=arN (h2.symm.trans k2);rfl
def Va:Ev.bo:=bR 149 (ca ocX auV cD) OC
def oc0:cx bG where
 bn f A H:=A=[.ah (gH f)]/\H=an
 v f:=.ba (.func 149) [] [.aa 0 0]
 aK f:=al [(0,dx f)] 1
theorem auU:oc0.cr:=by rintro f f' A H ⟨h1,_⟩ ⟨k1,_⟩;rw[h1]at k1;simp at k1;rw[ye _ _ k1]
def Vb:Ev.bo:=bR 121 (ca oc0 auU cD) Va
theorem aza{k nm ar au cs len v L Q}:
 bI Z U9 (λ_=>[]) L Q 1000 153 [.ah [J k,.ab nm,J ar,J au,.ad cs len 4,J v]] an=(
 aq (k==2) (Q (.ao true) an) (aq (k==3) (Q (.ao true) an) (Q (.ao (k==4)) an))):=by kernel_rfl
abbrev FO x0 x1 x2:=aB [(2,.aa 9 0),(3,.aa 10 0),(4,.ba (.func 150) [] [.aa 9 0,.aa 10 0]),(14,.ad x0 x1 6),(15,J (aE x1)),(16,J x2)]
abbrev agW x0 x1 x2 x3 x4:=al [(0,.aj [.gz 2] 221),(1,.aj [J x0] 3),(2,o8 LoopState.ready [(1,.aa 4 0),(2,.aa 7 0),(4,.aa 8 0),(5,.aa 5 0),(21,.ba (.func 149) [] [.aa 6 0])] 3),(3,j3),(4,dx x1),(5,.aj [.ai 9 x2 1] 35),(6,dx x1),(7,mX),(8,.aj [.aA 10] 193),(9,bK x3 2),(10,gw x4)] 11
abbrev Lh x0 x1 x2 x3 x4:=al [(0,o8 LoopState.ready [(1,.aa 3 0),(2,.aa 5 0),(4,.aa 6 0),(5,.aa 4 0),(21,.ba (.func 149) [] [.aa 1 0])] 2),(1,dx x0),(2,j3),(3,dx x0),(4,.aj [.ai 11 x1 1] 35),(5,mX),(6,.aj [.aA 8] 193),(7,.bc []),(8,gw x2),(9,.aj [.gz 0] 221),(10,.aj [J x3] 3),(11,bK x4 2)] 12
theorem ay1{f st L Q}:
 bI Z OC (λ_=>[2,3,4,14,15,16]) L Q 1000 149 [.gz 0,.aa 1 0] (Lb f st)=(
 ∃w:bG×Int×gA×eK,(([.ad (aF f.bC) f.bC.length 4,.aa 0 0,.aa 1 0]:LV)=[.ad (aF w.2.2.2) w.2.2.2.length 4,.aa 0 0,.aa 1 0]/\agW 0 f st.2.length st.2 st.1=hW w.1 w.2.1 w.2.2.1/\dt w.2.2.2.length/\fy w.2.2.2/\w.2.2.1.2.length+bM w.2.2.2<1200000)/\L (FO (bD w.1.aZ) w.1.aZ.length 0) (Lh w.1 (jb w.2.1 w.2.2.1 w.2.2.2).2.length (jb w.2.1 w.2.2.1 w.2.2.2).1 w.2.1 (jb w.2.1 w.2.2.1 w.2.2.2).2) (aw Z 149 0)):=by kernel_rfl
theorem ay2{f k st gs gl i L Q}:
 ck Z OC (λ_=>[2,3,4,14,15,16]) L Q 1000 149 9 (FO gs gl i) (aw Z 149 0) (r91 f k st)=(
 aq (decide (i<aE gl)) (∃aL:Nat,i=(aL:Int)/\aL<gl/\(∃n s aP bA cs len cf,((gs.drop (aL*6)).take 6:LV)=[J n,.ab s,J aP,J bA,.ad cs len 4,J cf]/\(∃w:bG×Int×gA×eK,(([.ad cs len 4,.aa 0 0,.aa 1 0]:LV)=[.ad (aF w.2.2.2) w.2.2.2.length 4,.aa 0 0,.aa 1 0]/\agW k f st.2.length st.2 st.1=hW w.1 w.2.1 w.2.2.1/\dt w.2.2.2.length/\fy w.2.2.2/\w.2.2.1.2.length+bM w.2.2.2<1200000)/\(al [] 0=an/\True)/\aq (decide (n=2\/n=3\/n=4)) (∃ae:bG×gA×Int×Int,(([.gz 0,.ah [J cf,J w.2.1]]:LV)=[.gz 0,.ah [J ae.2.2.1,J ae.2.2.2]]/\al [(0,o8 LoopState.ready [(1,.aa 2 0),(2,.aa 5 0),(4,.aa 6 0),(5,.aa 3 0),(21,.ba (.func 149) [] [.aa 4 0])] 1),(1,j3),(2,dx w.1),(3,.aj [.ai 7 (jb w.2.1 w.2.2.1 w.2.2.2).2.length 1] 35),(4,dx w.1),(5,mX),(6,.aj [.aA 8] 193),(7,bK (jb w.2.1 w.2.2.1 w.2.2.2).2 2),(8,gw (jb w.2.1 w.2.2.1 w.2.2.2).1)] 9=hR ae.1 ae.2.1/\ae.2.1.2.length<1200000)/\aq (n==1) (L (FO gs gl (wI (i+1))) (Lh ae.1 (lX ae.2.1 ae.2.2.1 ae.2.2.2).2.length (lX ae.2.1 ae.2.2.1 ae.2.2.2).1 (wI (w.2.1+1)) (lX ae.2.1 ae.2.2.1 ae.2.2.2).2) (aw Z 149 0)) (L (FO gs gl (wI (i+1))) (Lh ae.1 (lX ae.2.1 ae.2.2.1 ae.2.2.2).2.length (lX ae.2.1 ae.2.2.1 ae.2.2.2).1 w.2.1 (lX ae.2.1 ae.2.2.1 ae.2.2.2).2) (aw Z 149 0))) (aq (n==1) (L (FO gs gl (wI (i+1))) (Lh w.1 (jb w.2.1 w.2.2.1 w.2.2.2).2.length (jb w.2.1 w.2.2.1 w.2.2.2).1 (wI (w.2.1+1)) (jb w.2.1 w.2.2.1 w.2.2.2).2) (aw Z 149 0)) (L (FO gs gl (wI (i+1))) (Lh w.1 (jb w.2.1 w.2.2.1 w.2.2.2).2.length (jb w.2.1 w.2.2.1 w.2.2.2).1 w.2.1 (jb w.2.1 w.2.2.1 w.2.2.2).2) (aw Z 149 0)))))) (Q (.aC []) (al [(0,o8 LoopState.ready [(1,.aa 3 0),(2,.aa 5 0),(4,.aa 6 0),(5,.aa 4 0),(21,.ba (.func 149) [] [.aa 1 0])] 2),(1,dx f),(2,j3),(3,dx f),(4,.aj [.ai 9 st.2.length 1] 35),(5,mX),(6,.aj [.aA 8] 193),(7,.bc []),(8,gw st.1),(9,bK st.2 2)] 10))):=by kernel_rfl
theorem ayA{f L Q}:
 bI Z Va (λ_=>[]) L Q 1000 121 [.ah (gH f)] an=(
 Q (.ba (.func 149) [] [.aa 0 0]) (fH f.aN.cL f.aN.ar f.aN.au (aF f.bC) f.bC.length (bD f.aZ) f.aZ.length)):=by kernel_rfl
theorem U_:aU Z OC:=by
 refine jD adn λargs q v h hq=>?_
 unfold ajR at h;split at h<;>cases h;rename_i k nm ar au cs len v;refine eS adn 1000 (λ_=>[]) 16 (by kernel_rfl) ?_
 .rw[aza];refine aD.2 ⟨λh=>?_,λh=>aD.2 ⟨λh2=>?_,λh2=>?_⟩⟩
  .have h:k=2:=by simpa using h
   exact⟨by simp[h],rfl⟩
  .have h2:k=3:=by simpa using h2
   exact⟨by simp[h2],rfl⟩
  .have h:¬k=2:=by simpa using h
   have h2:¬k=3:=by simpa using h2
   refine⟨?_,rfl⟩;by_cases h3:k=4<;>simp[h,h2,h3]
theorem ajE(c st g):(At c st g).2.length<=st.2.length+bM g.eN+1:=by have h1:=IL c st g.eN;have h2:=ajC (jb c st g.eN) g.lG c;unfold At;split<;>omega
theorem ay0{f aH gs}(hl:dt gs.length)(ho:∀g∈gs,qA g)(hG:gs.length<1200000):
 ∀p:Nat×Nat×gA,(p.1<=gs.length/\p.2.1<=p.1/\p.2.2.2.length+fg (gs.drop p.1)<1200000/\Ck p.2.1 p.2.2 (gs.drop p.1)=aH)->
 br Z 149 44 9 (.aC []) (o91 f aH) (FO (bD gs) gs.length (p.1:Int)) (r91 f (p.2.1:Int) p.2.2) (aw Z 149 0):=by
 refine dS (λp=>gs.length-p.1) _ _ _ _ ?_;rintro⟨i,c,st⟩ ⟨hi,hc,hq,hf⟩ ih;simp only at hi hc hq hf ih⊢;refine hE U_ ay2 ?_;refine aD.2 ⟨λax=>?_,λbu=>?_⟩
 .have ax:i<gs.length:=by simpa using ax
  have⟨k,nm,ar,au,ls,v,he,bX,a_⟩:=By ax ho;rw[fY ax,he,Ck]at hf;rw[fY ax,he,fg]at hq;simp only at hf hq;have h1:=IL c st ls;have h2:=ajE c st ⟨k,⟨nm,ar,au⟩,ls,v⟩;simp only at h2;have next:=ih (i+1,(if k=1 then c+1 else c),At c st ⟨k,⟨nm,ar,au⟩,ls,v⟩) ⟨by simp;omega,by simp only;split<;>omega,by simp only;omega,hf⟩ (by simp;omega)
  refine⟨i,rfl,ax,k,nm,ar,au,_,_,v,bX,(f,(c:Int),st,ls),⟨rfl,rfl,a_.2.1,a_.2.2,by simp only;omega⟩,⟨rfl,trivial⟩,?_⟩;rw[lh hl ax];have hw:=om (lY c) (by omega);refine aD.2 ⟨λh=>?_,λh=>?_⟩
  .have nC:MF ⟨k,⟨nm,ar,au⟩,ls,v⟩=true:=by simpa[MF]using h
   have e:At c st ⟨k,⟨nm,ar,au⟩,ls,v⟩=lX (jb c st ls) v c:=by simp[At,nC]
   rw[e]at next
   refine⟨(f,jb c st ls,v,(c:Int)),⟨rfl,rfl,by simp only;omega⟩,aD.2 ⟨λhk=>?_,λhk=>?_⟩⟩
   .have hk:k=1:=by simpa using hk
    rw[aO hk]at next
    rw[hw];exact next
   .have hk:¬k=1:=by simpa using hk
    rw[az hk]at next
    exact next
  .have nC:MF ⟨k,⟨nm,ar,au⟩,ls,v⟩=false:=by simpa[MF]using h
   have e:At c st ⟨k,⟨nm,ar,au⟩,ls,v⟩=jb c st ls:=by simp[At,nC]
   rw[e]at next
   refine aD.2 ⟨λhk=>?_,λhk=>?_⟩
   .have hk:k=1:=by simpa using hk
    rw[aO hk]at next
    rw[hw];exact next
   .have hk:¬k=1:=by simpa using hk
    rw[az hk]at next
    exact next
 .have bu:gs.length<=i:=by simpa using bu
  rw[gQ bu,Ck]at hf;subst hf;exact⟨rfl,rfl⟩
theorem ado:aU Z Va:=by refine cA U_ ?_;rintro⟨f,st⟩ args H ⟨rfl,rfl,ho,hc⟩;have hc:st.2.length+bM f.bC+fg f.aZ<1200000:=hc;have hg:=P' f.aZ;have h1:=IL 0 st f.bC;refine eS U_ 1000 (λ_=>[2,3,4,14,15,16]) 44 (by kernel_rfl) ?_;simp;rw[ay1];refine⟨(f,0,st,f.bC),⟨rfl,rfl,ho.2.1,ho.2.2.1,by simp only;omega⟩,?_⟩;exact ay0 ho.2.2.2.1 ho.2.2.2.2 (show f.aZ.length<1200000 by omega) (0,0,jb 0 st f.bC) ⟨by simp,by simp,by simp;omega,rfl⟩
theorem adp:aU Z Vb:=by refine cA ado ?_;rintro f args H ⟨rfl,rfl⟩;refine eS ado 1000 (λ_=>[]) 4 (by kernel_rfl) ?_;rw[ayA];exact⟨rfl,rfl⟩
end
end Go.Cl
namespace Go.Cl
open Go.Ev
noncomputable section
def uk(key:Int->Int)(x:Int):LI->LI
 |[]=>[x]
 |y::l=>if key y>key x then y::uk key x l else x::y::l
def cC(key:Int->Int):LI->LI
 |[]=>[]
 |x::l=>uk key x (cC key l)
def dL(key:Int->Int)(l:LI):Prop:=l.Pairwise (λx y=>key y<=key x)
def xS(key:Int->Int)(s t:LI):Prop:=dL key t/\∀k,t.filter (λx=>key x=k)=s.filter (λx=>key x=k)
theorem ahW(key x k):∀l,(uk key x l).filter (λx=>key x=k)=(x::l).filter (λx=>key x=k)
 |[]=>rfl
 |y::l=>by
  simp only[uk];split;next h=>
   rw[vQ,ahW key x k l];simp only[vQ];by_cases hx:key x=k
   .have hy:¬key y=k:=by omega
    simp[hx,hy]
   .simp[hx]
  .rfl
theorem ahY(key x z):∀l,z∈uk key x l↔z=x\/z∈l
 |[]=>by simp[uk]
 |y::l=>by
  simp only[uk];split
  .simp only[dm,ahY key x z l];constructor
   .rintro(h|h|h)
    .exact .inr (.inl h)
    .exact .inl h
    .exact .inr (.inr h)
   .rintro(h|h|h)
    .exact .inr (.inl h)
    .exact .inl h
    .exact .inr (.inr h)
  .simp
theorem ahV(key x):∀l,dL key l->dL key (uk key x l)
 |[],_=>by simp[uk,dL]
 |y::l,h=>by
  unfold dL at h⊢;rw[Fv]at h;simp only[uk];split;next Aj=>
   rw[Fv];refine⟨λz hz=>?_,ahV key x l h.2⟩;rcases(ahY key x z l).1 hz with rfl|hz
   .omega
   .exact h.1 z hz
  next Aj=>
   rw[Fv];refine⟨λz hz=>?_,Fv.2 h⟩;rcases dm.1 hz with rfl|hz
   .omega
   .have:=h.1 z hz;omega
theorem v5(key):∀s,xS key s (cC key s)
 |[]=>⟨List.Pairwise.nil,λ_=>rfl⟩
 |x::s=>by have ih:=v5 key s;refine⟨ahV key x _ ih.1,λk=>?_⟩;simp only[cC];rw[ahW,vQ,vQ,ih.2 k]
theorem Hh{key:Int->Int}{s t:LI}(h:∀k,t.filter (λx=>key x=k)=s.filter (λx=>key x=k)){x}(hx:x∈t):x∈s:=by have:x∈t.filter (λy=>key y=key x):=vU.2 ⟨hx,by simp⟩;rw[h]at this;exact(vU.1 this).1
theorem xS.Fi{key s t}(h:xS key s t)(x):x∈t↔x∈s:=⟨Hh h.2,Hh (λk=>(h.2 k).symm)⟩
theorem ae2{key}:∀{t u},dL key t->dL key u->(∀k,t.filter (λx=>key x=k)=u.filter (λx=>key x=k))->t=u
 |[],[],_,_,_=>rfl
 |[],y::u,_,_,h=>by have:=Hh (λk=>(h k).symm) (dJ);cases this
 |x::t,[],_,_,h=>by have:=Hh h (dJ);cases this
 |x::t,y::u,ht,hu,h=>by
  have hx:=Hh h (dJ);have hy:=Hh (λk=>(h k).symm) (dJ);unfold dL at ht hu;rw[Fv]at ht hu;have e1:key x<=key y:=by
   rcases dm.1 hx with rfl|hx
   .exact Aw _
   .exact hu.1 x hx
  have e2:key y<=key x:=by
   rcases dm.1 hy with rfl|hy
   .exact Aw _
   .exact ht.1 y hy
  have e:key x=key y:=by omega
  have h0:=h (key x);rw[vQ,vQ,aO (by simp),aO (by simp[e])]at h0;have Aj:=(List.cons.inj h0).1;subst Aj;rw[ae2 ht.2 hu.2 λk=>?_];have h1:=h k;rw[vQ,vQ]at h1;split at h1
  .exact(List.cons.inj h1).2
  .exact h1
theorem xS.eq{key s t}(h:xS key s t):cC key s=t:=
 ae2 (v5 key s).1 h.1 (λk=>((v5 key s).2 k).trans (h.2 k).symm)
theorem ahX(key x):∀l,(uk key x l).length=l.length+1
 |[]=>rfl
 |y::l=>by
  simp only[uk];split
  .simp[ahX key x l]
  .rfl
theorem qG(key):∀s,(cC key s).length=s.length
 |[]=>rfl
 |x::s=>by simp[cC,ahX,qG key s]
theorem Nc{key s}(h:dL key s):cC key s=s:=xS.eq ⟨h,λ_=>rfl⟩
theorem alU{key s p q x}(h:cC key s=p++q)(hq:∀y∈q,key y<key x)(hp:∀y∈p,key x<=key y):cC key (s++[x])=p++x::q:=by
 have hs:=v5 key s;rw[h]at hs;refine xS.eq ⟨?_,λk=>?_⟩
 .have h1:=xj.1 hs.1;refine xj.2 ⟨h1.1,Fv.2 ⟨λy hy=>Int.le_of_lt (hq y hy),h1.2.1⟩,λa ha b hb=>?_⟩;rcases dm.1 hb with rfl|hb
  .exact hp a ha
  .exact h1.2.2 a ha b hb
 .have h2:=hs.2 k;simp at h2⊢;rw[<-h2];by_cases hk:key x=k
  .have:q.filter (λx=>key x=k)=[]:=by rw[Sj];intro y hy;have:=hq y hy;simp;omega
   simp[hk,this]
  .simp[hk]
theorem aBU{key p q x}(hd:dL key (p++q))(hp:∀y∈p,key x<key y)(hq:∀y∈q,key y<=key x):cC key (x::(p++q))=p++x::q:=by
 refine xS.eq ⟨?_,λk=>?_⟩
 .have h1:=xj.1 hd;refine xj.2 ⟨h1.1,Fv.2 ⟨hq,h1.2.1⟩,λa ha b hb=>?_⟩;rcases dm.1 hb with rfl|hb
  .exact Int.le_of_lt (hp a ha)
  .exact h1.2.2 a ha b hb
 .simp;by_cases hk:key x=k
  .have:p.filter (λx=>key x=k)=[]:=by rw[Sj];intro y hy;have:=hp y hy;simp;omega
   simp[hk,this]
  .simp[hk]
theorem aBV{key A B C D}(h1:dL key (A++B))(h2:dL key (C++D))(hBC:∀x∈B,∀y∈C,key x<key y)(hAD:∀x∈A,∀y∈D,key y<=key x):
 cC key ((A++B)++(C++D))=cC key (A++C)++cC key (B++D):=by
 have k1:=xj.1 h1;have k2:=xj.1 h2;have s1:=v5 key (A++C);have s2:=v5 key (B++D);refine xS.eq ⟨xj.2 ⟨s1.1,s2.1,λa ha b hb=>?_⟩,λk=>?_⟩
 .rcases ia.1 ((s1.Fi a).1 ha)with ha|ha<;>rcases ia.1 ((s2.Fi b).1 hb)with hb|hb
  .exact k1.2.2 a ha b hb
  .exact hAD a ha b hb
  .exact Int.le_of_lt (hBC b hb a ha)
  .exact k2.2.2 a ha b hb
 .rw[I0,s1.2 k,s2.2 k];simp;have:B.filter (λx=>key x=k)=[]\/C.filter (λx=>key x=k)=[]:=by
   by_cases hc:C.filter (λx=>key x=k)=[]
   .exact .inr hc
   .left;have⟨y,hy⟩:=List.exists_mem_of_ne_nil _ hc;have hy:=vU.1 hy;rw[Sj];intro x hx;have:=hBC x hx y hy.1;simp at hy⊢;omega
  rcases this with h|h<;>simp[h]
theorem alT{key}(s t):cC key (cC key s++cC key t)=cC key (s++t):=by refine(xS.eq ⟨(v5 key (s++t)).1,λk=>?_⟩);rw[(v5 key (s++t)).2 k,I0,I0,(v5 key s).2 k,(v5 key t).2 k]
end
end Go.Cl
namespace Go.Cl
open Go.Ev Go.Proofs
noncomputable section
def ajc:LV->Option (Prop×AV)
 |[.bU .i64 _]=>some (True,.ao false)
 |_=>none
def qQ(a b:Int):Int:=if a<b then-1 else if a>b then 1 else 0
def aey:LV->Option (Prop×AV)
 |[.bU .i64 a,.bU .i64 b]=>some (True,J (qQ a b))
 |_=>none
def Vc:Ev.bo:=e9 110 (fK ajc) Vb
def Vd:Ev.bo:=e9 74 (fK aey) Vc
def kS(sp:List (Int×fw))(v:Int):Int:=((lk v sp).getD ⟨0,0,0⟩).last
def sL(sp:List (Int×fw)):AH:=al [(0,.aj [.aA 1] 193),(1,gw sp)] 2
theorem arM{a b}(h:sL a=sL b):a=b:=by
 have q:=λi=>congrArg (λH=>AH.bf H i) h
 exact Nb (dw (q 1))
def Wa:cx (List (Int×fw)×Int×Int)where
 bn w A H:=A=[J w.2.1,J w.2.2,.aa 0 0]/\H=sL w.1
 v w:=J (qQ (kS w.1 w.2.2) (kS w.1 w.2.1))
 aK w:=sL w.1
theorem ao7:Wa.cr:=by rintro⟨sp,a,b⟩ ⟨AF,a',b'⟩ A H ⟨h1,h2⟩ ⟨k1,k2⟩;have e:=arM (h2.symm.trans k2);rw[h1]at k1;simp at k1 e;rw[e,k1.1,k1.2]
def J_:Ev.bo:=bR 123 (ca Wa ao7 cD) Vd
def hS(sp:List (Int×fw))(l:LI):AH:=al [(0,rl l),(1,.aj [.aA 2] 193),(2,gw sp)] 3
theorem Eo{a b l m}(h:hS a l=hS b m):a=b/\l=m:=by
 have q:=λi=>congrArg (λH=>AH.bf H i) h
 exact⟨Nb (dw (q 2)),RI (dw (q 0))⟩
def cF:AV:=.ba (.func 123) [] [.aa 1 0]
def isX:cx (List (Int×fw)×LI×LI×LI)where
 bn w A H:=A=[.ai 0 (w.2.1++w.2.2.1++w.2.2.2).length 1,J (w.2.1.length:Int),J ((w.2.1++w.2.2.1).length:Int),cF]/\H=hS w.1 (w.2.1++w.2.2.1++w.2.2.2)/\(w.2.1++w.2.2.1++w.2.2.2).length<1200000
 v w:=.aC []
 aK w:=hS w.1 (w.2.1++cC (kS w.1) w.2.2.1++w.2.2.2)
theorem att:isX.cr:=by
 rintro⟨sp,U,X,W⟩ ⟨AF,U',X',W'⟩ A H ⟨h1,h2,_⟩ ⟨k1,k2,_⟩;obtain⟨rfl,e⟩:=Eo (h2.symm.trans k2);rw[h1]at k1;simp only[jn,AV.bU.injEq,AV.ai.injEq,true_and,and_true]at k1 e;have e1:U.length=U'.length:=by omega
 have e2:(U++X).length=(U'++X').length:=by omega
 obtain⟨e3,rfl⟩:=l4 e e2;obtain⟨rfl,rfl⟩:=l4 e3 e1;rfl
def OD:Ev.bo:=bR 170 (ca isX att cD) J_
def srX:cx (List (Int×fw)×LI×LI×LI×LI×LI)where
 bn w A H:=A=[.ai 0 (w.2.1++w.2.2.1++w.2.2.2.1++w.2.2.2.2.1++w.2.2.2.2.2).length 1,J (w.2.1.length:Int),J ((w.2.1++w.2.2.1++w.2.2.2.1).length:Int),J (w.2.2.1.length:Int),cF]/\H=hS w.1 (w.2.1++w.2.2.1++w.2.2.2.1++w.2.2.2.2.1++w.2.2.2.2.2)/\(w.2.1++w.2.2.1++w.2.2.2.1++w.2.2.2.2.1++w.2.2.2.2.2).length<1200000/\w.2.2.1.length=w.2.2.2.2.1.length
 v w:=.aC []
 aK w:=hS w.1 (w.2.1++w.2.2.2.2.1++w.2.2.2.1++w.2.2.1++w.2.2.2.2.2)
theorem aBR:srX.cr:=by
 rintro⟨sp,U,X,V,Y,W⟩ ⟨AF,U',X',V',Y',W'⟩ A H ⟨h1,h2,_,h4⟩ ⟨k1,k2,_,k4⟩;obtain⟨rfl,e⟩:=Eo (h2.symm.trans k2);rw[h1]at k1;simp only[jn,AV.bU.injEq,AV.ai.injEq,true_and,and_true]at k1 e h4 k4;have e1:U.length=U'.length:=by omega
 have e0:X.length=X'.length:=by omega
 have e2:(U++X++V).length=(U'++X'++V').length:=by omega
 have e6:(U++X++V++Y).length=(U'++X'++V'++Y').length:=by rw[cI,cI (bs:=Y'),e2,<-h4,<-k4,e0]
 obtain⟨e3,rfl⟩:=l4 e e6;obtain⟨e4,rfl⟩:=l4 e3 e2;have e7:(U++X).length=(U'++X').length:=by rw[cI,cI,e1,e0]
 obtain⟨e5,rfl⟩:=l4 e4 e7;obtain⟨rfl,rfl⟩:=l4 e5 e1;rfl
def OE:Ev.bo:=bR 191 (ca srX aBR cD) OD
def Ix:Nat->LN:=fT [(1,[0,1,2,3,8]),(4,[0,1,2,3,8,9])]
theorem azi{a L Q}:
 bI Z Vb (λ_=>[]) L Q 1000 110 [J a] an=(
 Q (.ao (a !=a)) an):=by kernel_rfl
theorem ayD{a b L Q}:
 bI Z Vc (λ_=>[]) L Q 1000 74 [J a,J b] an=(
 (al [] 0=an/\True)/\(al [] 0=an/\True)/\aq (decide (a<b)) (Q (J (-1)) an) (aq (decide (a>b)) (Q (J 1) an) (Q (J 0) an))):=by kernel_rfl
theorem ayC{sp a b L Q}:
 bI Z Vd (λ_=>[]) L Q 1000 123 [J a,J b,.aa 0 0] (sL sp)=(
 ∃n aP bA iE,eT Z 2 200 (bJ vS 0 sp) (J b)=some (.ah [J n,J aP,J bA],iE)/\(∃cf dc iP VN,eT Z 2 200 (bJ vS 0 sp) (J a)=some (.ah [J cf,J dc,J iP],VN)/\(al [] 0=an/\True)/\Q (J (qQ bA iP)) (sL sp))):=by kernel_rfl
abbrev abr x0 x1 x2 x3:=aB [(0,.ai 0 x0 1),(1,J x1),(2,J x2),(3,.ba (.func 123) [] [.aa 1 0]),(8,J x3)]
abbrev Ei x0 x1:=al [(0,bK x0 2),(1,.aj [.aA 2] 193),(2,gw x1)] 3
theorem awV{sp l a b L Q}:
 bI Z J_ Ix L Q 1000 170 [.ai 0 l.length 1,J a,J b,cF] (hS sp l)=(
 L (abr l.length a b (wI (a+1))) (Ei l sp) (aw Z 170 0)):=by kernel_rfl
theorem akR{sp l a b i L Q}:
 ck Z J_ Ix L Q 1000 170 3 (aB [(0,.ai 0 l.length 1),(1,J a),(2,J b),(3,cF),(8,J i)]) (aw Z 170 0) (hS sp l)=(
 aq (decide (i<b)) (L (aB [(0,.ai 0 l.length 1),(1,J a),(2,J b),(3,.ba (.func 123) [] [.aa 1 0]),(8,J i),(9,J i)]) (Ei l sp) (aw Z 170 1)) (Q (.aC []) (Ei l sp))):=by kernel_rfl
theorem awT{sp l a b i j L Q}:
 ck Z J_ Ix L Q 1000 170 3 (aB [(0,.ai 0 l.length 1),(1,J a),(2,J b),(3,cF),(8,J i),(9,J j)]) (aw Z 170 1) (hS sp l)=(
 aq (decide (j>a)) (∃aL:Nat,j=(aL:Int)/\aL<l.length/\(∃n,cw Z 2 (aX l) (aL*1)=some (J n:AV)/\(∃cG:Nat,wI (j-1)=(cG:Int)/\cG<l.length/\(∃aP,cw Z 2 (aX l) (cG*1)=some (J aP:AV)/\(∃w:List (Int×fw)×Int×Int,(([J n,J aP,.aa 0 0]:LV)=[J w.2.1,J w.2.2,.aa 0 0]/\sL sp=sL w.1)/\aq (decide (qQ (kS w.1 w.2.2) (kS w.1 w.2.1)<0)) (∃dO:Nat,wI (j-1)=(dO:Int)/\dO<l.length/\(∃bA,cw Z 2 (aX l) (dO*1)=some (J bA:AV)/\(∃f_:Nat,j=(f_:Int)/\f_<l.length/\(∃cf,cw Z 2 (aX l) (f_*1)=some (J cf:AV)/\(∃Am:Nat,j=(Am:Int)/\Am<l.length/\Am*1+1<=(aX l).length/\(∃QW:Nat,wI (j-1)=(QW:Int)/\QW<l.length/\QW*1+1<=(gg (aX l) (Am*1) [J bA]).length/\L (aB [(0,.ai 0 l.length 1),(1,J a),(2,J b),(3,.ba (.func 123) [] [.aa 1 0]),(8,J i),(9,J (wI (j-1)))]) (al [(0,.ay (gg (gg (aX l) (Am*1) [J bA]) (QW*1) [J cf]) 2),(1,.aj [.aA 2] 193),(2,gw w.1)] 3) (aw Z 170 1))))))) (L (abr l.length a b (wI (i+1))) (Ei l w.1) (aw Z 170 0))))))) (L (abr l.length a b (wI (i+1))) (Ei l sp) (aw Z 170 0))):=by kernel_rfl
theorem axI{sp l a b n L Q}:
 bI Z OD (λ_=>[0,1,2,3,10]) L Q 1000 191 [.ai 0 l.length 1,J a,J b,J n,cF] (hS sp l)=(
 L (aB [(0,.ai 0 l.length 1),(1,J a),(2,J b),(3,J n),(10,J 0)]) (Ei l sp) (aw Z 191 0)):=by kernel_rfl
theorem axJ{sp l a b n i L Q}:
 ck Z OD (λ_=>[0,1,2,3,10]) L Q 1000 191 3 (aB [(0,.ai 0 l.length 1),(1,J a),(2,J b),(3,J n),(10,J i)]) (aw Z 191 0) (hS sp l)=(
 aq (decide (i<n)) (∃aL:Nat,wI (b+i)=(aL:Int)/\aL<l.length/\(∃aP,cw Z 2 (aX l) (aL*1)=some (J aP:AV)/\(∃cG:Nat,wI (a+i)=(cG:Int)/\cG<l.length/\(∃bA,cw Z 2 (aX l) (cG*1)=some (J bA:AV)/\(∃dO:Nat,wI (a+i)=(dO:Int)/\dO<l.length/\dO*1+1<=(aX l).length/\(∃f_:Nat,wI (b+i)=(f_:Int)/\f_<l.length/\f_*1+1<=(gg (aX l) (dO*1) [J aP]).length/\L (aB [(0,.ai 0 l.length 1),(1,J a),(2,J b),(3,J n),(10,J (wI (i+1)))]) (al [(0,.ay (gg (gg (aX l) (dO*1) [J aP]) (f_*1) [J bA]) 2),(1,.aj [.aA 2] 193),(2,gw sp)] 3) (aw Z 191 0))))))) (Q (.aC []) (Ei l sp))):=by kernel_rfl
theorem Nv{l i}(h:i<l.length):cw Z 2 (aX l) (i*1)=some (J (l.getD i 0)):=by rw[ajX,aX,oI,uv,ir h];simp[List.getD,ir h]
theorem sn{A B x i}(h:i=A.length):cw Z 2 (aX (A++x::B)) (i*1)=some (J x):=by subst h;rw[Nv (by simp)];simp[List.getD]
theorem avE{l i}(x)(h:i<l.length):gg (aX l) (i*1) [J x]=aX (l.set i x):=by rw[oI,Sb x h]
theorem Cu{A B x i}(y)(h:i=A.length):gg (aX (A++x::B)) (i*1) [J y]=aX (A++y::B):=by subst h;rw[avE y (by simp)];simp
theorem A5{a b}:qQ a b<0↔a<b:=by
 unfold qQ;split
 .simp[*]
 .split<;>simp[*]
theorem adq:aU Z Vc:=by
 refine jD adp λargs q v h hq=>?_
 unfold ajc at h;split at h<;>cases h;refine eE 6 adp azi ?_;first
  |exact⟨rfl,rfl⟩
  |exact⟨by simp,rfl⟩
  |(refine aD.2 ⟨λh=>?_,λh=>?_⟩<;>first|exact⟨rfl,rfl⟩|simp at h)
theorem adr:aU Z Vd:=by
 refine jD adq λargs q v h hq=>?_
 unfold aey at h;split at h<;>cases h;rename_i a b;refine eE 20 adq ayD ?_;refine⟨⟨rfl,trivial⟩,⟨rfl,trivial⟩,aD.2 ⟨λh=>?_,λh=>aD.2 ⟨λh2=>?_,λh2=>?_⟩⟩⟩
 .have h:a<b:=by simpa using h
  exact⟨by simp[qQ,h],rfl⟩
 .have h:¬a<b:=by simpa using h
  have h2:a>b:=by simpa using h2
  exact⟨by simp[qQ,h,h2],rfl⟩
 .have h:¬a<b:=by simpa using h
  have h2:¬a>b:=by simpa using h2
  exact⟨by simp[qQ,h,h2],rfl⟩
theorem Rg(sp v):∃a b c:Int,∃d,eT Z 2 200 (bJ vS 0 sp) (J v)=some (.ah [J a,J b,J c],d)/\(lk v sp).getD ⟨0,0,0⟩=⟨a,b,c⟩:=by
 rw[o7 _ jv];cases hk:lk v sp with
 |none=>exact⟨0,0,0,false,by rw[amQ];rfl,rfl⟩
 |some s=>exact⟨s.dW,s.Nz,s.last,true,rfl,rfl⟩
theorem J':aU Z J_:=by
 refine cA adr ?_;rintro⟨sp,a,b⟩ args H ⟨rfl,rfl⟩;refine eS adr 1000 (λ_=>[]) 15 (by kernel_rfl) ?_;simp only[Wa];rw[ayC];have⟨a1,b1,c1,d1,e1,f1⟩:=Rg sp b;have⟨a2,b2,c2,d2,e2,f2⟩:=Rg sp a;refine⟨a1,b1,c1,d1,e1,a2,b2,c2,d2,e2,⟨rfl,trivial⟩,?_⟩;have g1:kS sp b=c1:=by rw[kS,f1]
 have g2:kS sp a=c2:=by rw[kS,f2]
 rw[g1,g2];exact⟨rfl,rfl⟩
section
variable{sp:List (Int×fw)}
def Ni(l:LI)(a b i:Nat):Tr AV:=aB [(0,.ai 0 l.length 1),(1,J (a:Int)),(2,J (b:Int)),(3,cF),(8,J (i:Int))]
theorem awU{aH U W s x}{n b:Nat}(hn:(U++s++x::W).length<1200000)(next:∀l,l=U++cC (kS sp) (s++[x])++W->br Z 170 53 3 (.aC []) (hS sp aH) (Ni l U.length b ((U++s).length+1)) (hS sp l) (aw Z 170 0)):
 ∀k:LI×LI,(cC (kS sp) s=k.1++k.2/\∀y∈k.2,kS sp y<kS sp x)->
 br Z 170 53 3 (.aC []) (hS sp aH) (aB [(0,.ai 0 (U++k.1++x::(k.2++W)).length 1),(1,J (U.length:Int)),(2,J (b:Int)),(3,cF),(8,J ((U++s).length:Int)),(9,J ((U++k.1).length:Int))]) (hS sp (U++k.1++x::(k.2++W))) (aw Z 170 1):=by
 refine dS (λk=>k.1.length) _ _ _ _ ?_;rintro⟨p,q⟩ ⟨hs,hq⟩ ih;simp only at hs hq ih⊢;have bS:=qG (kS sp) s;rw[hs]at bS;simp at bS hn;have hw:wI (((U++s).length:Int)+1)=(((U++s).length+1:Nat):Int):=om (lY _) (by simp;omega);have aK:(∀y∈p,kS sp x<=kS sp y)->br Z 170 53 3 (.aC []) (hS sp aH) (aB [(0,.ai 0 (U++p++x::(q++W)).length 1),(1,J (U.length:Int)),(2,J (b:Int)),(3,cF),(8,J (wI (((U++s).length:Int)+1)))]) (hS sp (U++p++x::(q++W))) (aw Z 170 0):=by intro hp;rw[hw];exact next _ (by rw[alU hs hq hp];simp)
 refine hE J' awT ?_;refine aD.2 ⟨λh=>?_,λh=>?_⟩
 .have h:U.length<(U++p).length:=by have:=dQ h;omega
  have hp:p≠[]:=by rintro rfl;simp at h
  obtain⟨p',y,rfl⟩:∃p' y,p=p'++[y]:=⟨p.dropLast,p.getLast hp,(List.dropLast_concat_getLast hp).symm⟩;have hj:(U++(p'++[y])).length=(U++p').length+1:=by simp;omega
  have QV:wI (((U++(p'++[y])).length:Int)-1)=(((U++p').length:Nat):Int):=by rw[hj,cO]<;>simp at bS⊢<;>omega
  have e1:U++(p'++[y])++x::(q++W)=(U++p')++y::x::(q++W):=by simp
  refine⟨(U++(p'++[y])).length,rfl,by simp,x,sn rfl,(U++p').length,QV,by simp,y,by rw[e1];exact sn rfl,(sp,x,y),⟨rfl,rfl⟩,aD.2 ⟨λhc=>?_,λhc=>?_⟩⟩
  .have hc:=A5.1 (by simpa using hc);have e2:∀z:Int,(U++p')++y::z::(q++W)=(U++p'++[y])++z::(q++W):=by intro z;simp
   have p1:gg (aX (U++(p'++[y])++x::(q++W))) ((U++(p'++[y])).length*1) [J y]=aX ((U++p')++y::(y::(q++W))):=by rw[Cu y rfl];simp
   have p2:gg (aX ((U++p')++y::(y::(q++W)))) ((U++p').length*1) [J x]=aX ((U++p')++x::(y::(q++W))):=Cu x rfl;refine⟨(U++p').length,QV,by simp,y,by rw[e1];exact sn rfl,(U++(p'++[y])).length,rfl,by simp,x,sn rfl,(U++(p'++[y])).length,rfl,by simp,by rw[uC];simp;omega,(U++p').length,QV,by simp,?_,?_⟩
   .rw[p1,uC];simp;omega
   .rw[p1,p2,QV];have:=ih (p',y::q) ⟨by rw[hs];simp,by
     intro z hz;rcases dm.1 hz with rfl|hz
     .exact hc
     .exact hq z hz⟩ (by simp)
    have el:(U++p'++x::(y::q++W)).length=(U++(p'++[y])++x::(q++W)).length:=by simp only[cI,ej,gW];omega
    rw[el]at this;exact this
  .have hc:¬kS sp y<kS sp x:=λhh=>by have:=A5.2 hh;simp at hc;omega
   refine aK λz hz=>?_
   have hd:=(v5 (kS sp) s).1;rw[hs]at hd;have hd:=(xj.1 hd).1;rcases ia.1 hz with hz|hz
   .have:=(xj.1 hd).2.2 z hz y (by simp);omega
   .simp at hz;subst hz;omega
 .have h:¬U.length<(U++p).length:=by have:=ez h;omega
  have hp:p=[]:=by rw[<-sb];simp only[cI]at h;omega
  subst hp;exact aK (λz hz=>by cases hz)
theorem awS{U X W}(hn:(U++X++W).length<1200000):
 ∀k:LI×LI×LI,(k.2.2=U++cC (kS sp) k.1++(k.2.1++W)/\k.1++k.2.1=X)->
 br Z 170 53 3 (.aC []) (hS sp (U++cC (kS sp) X++W)) (Ni k.2.2 U.length (U++X).length (U++k.1).length) (hS sp k.2.2) (aw Z 170 0):=by
 refine dS (λk=>k.2.1.length) _ _ _ _ ?_;rintro⟨s,t,l⟩ ⟨hl,hX⟩ ih;simp only at hl hX ih⊢;subst hX;refine hD J' 1000 Ix (by kernel_rfl) ?_;unfold Ni;rw[akR];refine aD.2 ⟨λh=>?_,λh=>?_⟩
 .have h:(U++s).length<(U++(s++t)).length:=by have:=dQ h;omega
  cases t with
  |nil=>simp at h
  |cons x t=>
   subst hl;have:=awU (W:=t++W) (n:=0) (by simp at hn⊢;omega)
    (by
      intro l hl;have:=ih (s++[x],t,l) ⟨by rw[hl],by simp⟩ (by simp);have e:(U++(s++[x])).length=(U++s).length+1:=by simp;omega
      rw[e]at this;exact this) (cC (kS sp) s,[]) ⟨by simp,by intro y hy;cases hy⟩
   have e:(U++cC (kS sp) s).length=(U++s).length:=by simp[qG]
   rw[e]at this;exact this
 .have h:¬(U++s).length<(U++(s++t)).length:=by have:=ez h;omega
  have ht:t=[]:=by rw[<-sb];simp only[cI]at h;omega
  subst ht;subst hl;simp;exact⟨rfl,rfl⟩
end
theorem Ve:aU Z OD:=by
 refine cA J' ?_;rintro⟨sp,U,X,W⟩ args H ⟨rfl,rfl,hn⟩;have hn:=hn;refine eS J' 1000 Ix 53 (by kernel_rfl) ?_;rw[awV];have hw:wI ((U.length:Int)+1)=((U.length+1:Nat):Int):=om (lY _) (by simp at hn;omega);rw[hw];cases X with
 |nil=>
  have H0:br Z 170 53 3 (.aC []) (hS sp (U++cC (kS sp) []++W)) (Ni (U++[]++W) U.length (U++[]).length (U.length+1)) (hS sp (U++[]++W)) (aw Z 170 0):=by refine hD J' 1000 Ix (by kernel_rfl) ?_;unfold Ni;rw[akR];refine aD.2 ⟨λh=>?_,λh=>⟨rfl,rfl⟩⟩;have:=dQ h;simp at this;omega
  exact H0
 |cons x X=>
  have:=awS (sp:=sp) hn ([x],X,U++x::X++W) ⟨by simp[cC,uk],rfl⟩;have e:(U++[x]).length=U.length+1:=by simp
  rw[e]at this;exact this
theorem axH{sp U X V Y W}(hn:(U++X++V++Y++W).length<1200000)(HG:X.length=Y.length):
 ∀k:LI×LI×LI×LI×LI,(k.1++k.2.1=X/\k.2.2.1++k.2.2.2.1=Y/\k.1.length=k.2.2.1.length/\k.2.2.2.2=U++k.2.2.1++k.2.1++V++k.1++k.2.2.2.1++W)->
 br Z 191 38 3 (.aC []) (hS sp (U++Y++V++X++W)) (aB [(0,.ai 0 k.2.2.2.2.length 1),(1,J (U.length:Int)),(2,J ((U++X++V).length:Int)),(3,J (X.length:Int)),(10,J (k.1.length:Int))]) (hS sp k.2.2.2.2) (aw Z 191 0):=by
 refine dS (λk=>k.2.1.length) _ _ _ _ ?_;rintro⟨X1,X2,Y1,Y2,l⟩ ⟨h1,h2,h3,hl⟩ ih;simp only at h1 h2 h3 hl ih⊢;subst h1 h2;simp at HG hn;refine hE Ve axJ ?_;refine aD.2 ⟨λh=>?_,λh=>?_⟩
 .have h:X1.length<(X1++X2).length:=by have:=dQ h;omega
  cases X2 with
  |nil=>simp at h
  |cons x X2=>
   cases Y2 with
   |nil=>simp at HG;omega
   |cons y Y2=>
    subst hl;simp at HG hn;have hb:wI (((U++(X1++x::X2)++V).length:Int)+(X1.length:Int))=(((U++Y1++x::(X2++V++X1)).length:Nat):Int):=by rw[cO]<;>(try simp)<;>omega
    have ha:wI ((U.length:Int)+(X1.length:Int))=(((U++Y1).length:Nat):Int):=by rw[cO]<;>(try simp)<;>omega
    have e1:∀z:Int,U++Y1++z::X2++V++X1++y::Y2++W=(U++Y1)++z::(X2++V++X1++y::Y2++W):=by intro z;simp
    have e2:∀z u:Int,(U++Y1)++z::(X2++V++X1++u::Y2++W)=(U++Y1++z::(X2++V++X1))++u::(Y2++W):=by intro z u;simp
    have bS:∀z:Int,(U++Y1++z::(X2++V++X1)).length=(U++Y1++x::(X2++V++X1)).length:=by intro z;simp
    have fc:(U++Y1++x::X2++V++X1++y::Y2++W).length=(U++Y1++x::(X2++V++X1)).length+1+(Y2++W).length:=by simp;omega
    have hla:(U++Y1).length<(U++Y1++x::(X2++V++X1)).length:=by simp only[cI,ej];omega
    have p1:gg (aX (U++Y1++x::X2++V++X1++y::Y2++W)) ((U++Y1).length*1) [J y]=aX ((U++Y1)++y::(X2++V++X1++y::Y2++W)):=by rw[e1];exact Cu y rfl
    have p2:gg (aX ((U++Y1)++y::(X2++V++X1++y::Y2++W))) ((U++Y1++x::(X2++V++X1)).length*1) [J x]=aX ((U++Y1++y::(X2++V++X1))++x::(Y2++W)):=by rw[e2];exact Cu x (bS y).symm
    refine⟨(U++Y1++x::(X2++V++X1)).length,hb,by omega,y,by rw[e1,e2];exact sn rfl,(U++Y1).length,ha,by omega,x,by rw[e1];exact sn rfl,(U++Y1).length,ha,by omega,by rw[uC];omega,(U++Y1++x::(X2++V++X1)).length,hb,by omega,?_,?_⟩
    .rw[p1,uC];simp;omega
    .rw[p1,p2];have hw:wI ((X1.length:Int)+1)=((X1.length+1:Nat):Int):=om (lY _) (by omega);rw[hw];have:=ih (X1++[x],X2,Y1++[y],Y2,(U++Y1++y::(X2++V++X1))++x::(Y2++W)) ⟨by simp,by simp,by simp[h3],by simp⟩ (by simp);simp only[cI,ej,gW,ki]at this⊢;have el:U.length+Y1.length+(X2.length+V.length+X1.length+1)+(Y2.length+W.length+1)=U.length+Y1.length+(X2.length+1)+V.length+X1.length+(Y2.length+1)+W.length:=by omega
     rw[el]at this;exact this
 .have h:¬X1.length<(X1++X2).length:=by have:=ez h;omega
  have e1:X2=[]:=by rw[<-sb];simp only[cI]at h;omega
  subst e1;have e2:Y2=[]:=by rw[<-sb];simp at HG;omega
  subst e2;subst hl;simp;exact⟨rfl,rfl⟩
theorem Vf:aU Z OE:=by refine cA Ve ?_;rintro⟨sp,U,X,V,Y,W⟩ args H ⟨rfl,rfl,hn,HG⟩;refine eS Ve 1000 (λ_=>[0,1,2,3,10]) 38 (by kernel_rfl) ?_;rw[axI];exact axH hn HG ([],X,[],Y,U++X++V++Y++W) ⟨rfl,rfl,rfl,by simp⟩
end
end Go.Cl
