/- Part of a proof of ClauseValid. -/
import Derived.Test.YtanclcoobcaemaaGreatVB4
set_option linter.all false
set_option linter.unusedSectionVars false
set_option maxRecDepth 100000
namespace Go.Cl
open Go.Ev Go.Proofs
noncomputable section
def eD(l:cn)(base:Int):cn×Int:=if kq l base then((um l base).aN,0)else([],1)
def Qn:dp (h_×Int)where
 ba w A H:=A=[.bE 0 w.1.fW w.1.l.length 0 6 false,J w.2]∧H=gB w.1∧w.1.ok∧w.1.l.length<12000
 v w:=.aJ [.ad 1 (eD w.1.l w.2).1.length 6,J (eD w.1.l w.2).2]
 aN w:=an [(0,.aF w.1.cs 50),(1,c_ (eD w.1.l w.2).1)] 2
theorem ait:Qn.dx:=by rintro w w' A H ⟨h1,h2,h3,_⟩ ⟨k1,k2,k3,_⟩;rw[Fj h1 h2 h3 k1 k2 k3]
def JK:Ev.bz:=cz 67 (cM Qn ait cZ) Pq
def pH(code:cn)(base:LI):Nat->Nat->Nat->cn->cn->cn×Int
 |_,_,_,l,[]=>(l,0)
 |i,fr,part,l,x::rest=>
  if x.op≠19∧i+1<code.length then pH code base (i+1) fr part l rest
  else if(eD ((code.drop fr).take (i+1-fr)) (base.getD part 0)).2≠0 then([],(eD ((code.drop fr).take (i+1-fr)) (base.getD part 0)).2)
  else pH code base (i+1) (i+1) (part+1) (l++(eD ((code.drop fr).take (i+1-fr)) (base.getD part 0)).1) rest
def lB(code:cn)(base:LI):cn×Int:=pH code base 0 0 0 [] code
def gm(l:cn):Nat:=(l.filter (fun x=>decide (x.op=19))).length
def zb(code:cn)(base:LI):AH:=an [(0,c_ code),(1,bp base 3)] 2
def BY(code:cn)(base:LI)(l:cn):AH:=an [(0,c_ code),(1,bp base 3),(2,c_ l)] 3
def Qq:dp (cn×LI)where
 ba w A H:=A=[.ad 0 w.1.length 6,.ad 1 w.2.length 1]∧H=zb w.1 w.2∧w.1.length<12000∧gm w.1<w.2.length∧w.2.length<100000
 v w:=.aJ [.ad 2 (lB w.1 w.2).1.length 6,J (lB w.1 w.2).2]
 aN w:=BY w.1 w.2 (lB w.1 w.2).1
theorem aiu:Qq.dx:=by
 rintro⟨c,b⟩ ⟨c',b'⟩ A H ⟨_,h2,_⟩ ⟨_,k2,_⟩;have e:=h2.symm.trans k2;have q:=fun i=>congrArg (fun H=>AH.bu H i) e
 simp only[zb,dy]at q;have e0:=Dz (aZ.aF.inj (dz (q 0))).1;have e1:=yf (dz (q 1));rw[e0,e1]
def JL:Ev.bz:=cz 29 (cM Qq aiu cZ) JK
def My:Nat->LN:=kg [(3,[0,1,4,6,7,12,13,14])]
theorem afV(cs:LV)(off len:Nat)(base:Int)(L:LT)(Q:QT):
 b8 Z Pq (fun _=>[]) L Q 1000 67 [.bE 0 off len 0 6 false,J base] (an [(0,.aF cs 50)] 1)=(
 ∃w:h_×Int,(([.bE 0 off len 0 6 false,J base]:LV)=[.bE 0 w.1.fW w.1.l.length 0 6 false,J w.2]∧an [(0,.aF cs 50)] 1=gB w.1∧w.1.ok)∧ah (!kq w.1.l w.2) (Q (.aJ [.bB,J 1]) (gB w.1)) (∃ae:h_×Int,(([.bE 0 off len 0 6 false,J base]:LV)=[.bE 0 ae.1.fW ae.1.l.length 0 6 false,J ae.2]∧gB w.1=gB ae.1∧ae.1.ok∧ae.1.l.length<12000∧(∀x:a9,x∈ae.1.l->x.op=19∨x.op=20->x.ar<=ae.2))∧Q (.aJ [.ad 1 (um ae.1.l ae.2).aN.length 6,J 0]) (an [(0,.aF ae.1.cs 50),(1,c_ (um ae.1.l ae.2).aN)] 2))):=by kernel_rfl
theorem asM(code:cn)(base:LI)(L:LT)(Q:QT):
 b8 Z JK My L Q 1000 29 [.ad 0 code.length 6,.ad 1 base.length 1] (zb code base)=(
 L (aQ [(0,.ad 0 code.length 6),(1,.ad 1 base.length 1),(4,.bB),(6,J 0),(7,J 0),(12,.ad 0 code.length 6),(13,J (Int.ofNat code.length)),(14,J 0)]) (zb code base) (ao Z 29 0)):=by kernel_rfl
abbrev yp x0 x1 x2 x3 x4 x5:=aQ [(0,.ad 0 x0 6),(1,.ad 1 x1 1),(4,.ad 2 x2 6),(6,J x3),(7,J x4),(12,.ad 0 x0 6),(13,J (Int.ofNat x0)),(14,J x5)]
theorem asN(code:cn)(base:LI)(l:cn)(fr part i:Int)(L:LT)(Q:QT):
 cO Z JK My L Q 1000 29 2 (yp code.length base.length l.length fr part i) (ao Z 29 0) (BY code base l)=(
 ah (decide (i<Int.ofNat code.length)) (∃aD:Nat,i=(aD:Int)∧aD<code.length∧(∃n:Int,∃aL:Int,∃bD:Int,∃cf:Int,∃s:LN,∃cK:Int,bQ Z 50 (cw code) (aD*6)=some (.au [J n,J aL,J bD,J cf,.aa s,J cK]:AV)∧ah (n !=19) (ah (decide (i<wI (Int.ofNat code.length-1))) (L (yp code.length base.length l.length fr part (wI (i+1))) (BY code base l) (ao Z 29 0)) (1<=code.length∧(∃bU:Nat,fr=(bU:Int)∧(∃cd:Nat,wI (i+1)=(cd:Int)∧(bU<=cd∧cd<=code.length)∧(∃eE:Nat,part=(eE:Int)∧eE<base.length∧(∃fI:Int,bQ Z 3 (aX base) (eE*1)=some (J fI:AV)∧(∃w:h_×Int,(([.bE 0 (0+bU*6) (cd-bU) 0 6 false,J fI]:LV)=[.bE 0 w.1.fW w.1.l.length 0 6 false,J w.2]∧an [(0,c_ code)] 1=gB w.1∧w.1.ok∧w.1.l.length<12000)∧ah ((eD w.1.l w.2).2 !=0) (Q (.aJ [.bB,J (eD w.1.l w.2).2]) (an [(0,.aF w.1.cs 50),(1,bp base 3)] 2)) ((cw (eD w.1.l w.2).1).length=(eD w.1.l w.2).1.length*6∧((eD w.1.l w.2).1.length=0->l.length<=65536∧L (yp code.length base.length l.length (wI (i+1)) (wI (part+1)) (wI (i+1))) (an [(0,.aF w.1.cs 50),(1,bp base 3),(2,c_ l)] 3) (ao Z 29 0))∧(1<=(eD w.1.l w.2).1.length->((cw l).length=l.length*6∧l.length+(eD w.1.l w.2).1.length<=65536∧List.all (cw (eD w.1.l w.2).1) AV.dR=true∧List.all (cw (eD w.1.l w.2).1) iD=true)∧L (yp code.length base.length (l.length+(eD w.1.l w.2).1.length) (wI (i+1)) (wI (part+1)) (wI (i+1))) (an [(0,.aF w.1.cs 50),(1,bp base 3),(2,.aF (cw l++cw (eD w.1.l w.2).1) 50)] 3) (ao Z 29 0)))))))))) (1<=code.length∧(∃bU:Nat,fr=(bU:Int)∧(∃cd:Nat,wI (i+1)=(cd:Int)∧(bU<=cd∧cd<=code.length)∧(∃eE:Nat,part=(eE:Int)∧eE<base.length∧(∃fI:Int,bQ Z 3 (aX base) (eE*1)=some (J fI:AV)∧(∃w:h_×Int,(([.bE 0 (0+bU*6) (cd-bU) 0 6 false,J fI]:LV)=[.bE 0 w.1.fW w.1.l.length 0 6 false,J w.2]∧an [(0,c_ code)] 1=gB w.1∧w.1.ok∧w.1.l.length<12000)∧ah ((eD w.1.l w.2).2 !=0) (Q (.aJ [.bB,J (eD w.1.l w.2).2]) (an [(0,.aF w.1.cs 50),(1,bp base 3)] 2)) ((cw (eD w.1.l w.2).1).length=(eD w.1.l w.2).1.length*6∧((eD w.1.l w.2).1.length=0->l.length<=65536∧L (yp code.length base.length l.length (wI (i+1)) (wI (part+1)) (wI (i+1))) (an [(0,.aF w.1.cs 50),(1,bp base 3),(2,c_ l)] 3) (ao Z 29 0))∧(1<=(eD w.1.l w.2).1.length->((cw l).length=l.length*6∧l.length+(eD w.1.l w.2).1.length<=65536∧List.all (cw (eD w.1.l w.2).1) AV.dR=true∧List.all (cw (eD w.1.l w.2).1) iD=true)∧L (yp code.length base.length (l.length+(eD w.1.l w.2).1.length) (wI (i+1)) (wI (part+1)) (wI (i+1))) (an [(0,.aF w.1.cs 50),(1,bp base 3),(2,.aF (cw l++cw (eD w.1.l w.2).1) 50)] 3) (ao Z 29 0))))))))))) (Q (.aJ [.ad 2 l.length 6,J 0]) (BY code base l))):=by kernel_rfl
theorem ahS{φ:bf}{a a' b:AV}(h:∀x,VR φ a x->VR φ a' x){x:Value}(hx:VR φ (.aJ [a,b]) x):VR φ (.aJ [a',b]) x:=by simp only[VR]at hx⊢;obtain⟨cs,rfl,v,vs,h1,h2,h3⟩:=hx;exact⟨cs,rfl,v,vs,h1,h _ h2,h3⟩
theorem Rt{P:Program}{f:FuncId}{args:LV}{H0:AH}{n sz:Nat}{b:AV}{l:List (Nat×aZ)}{t:TypeId}(h:dT P f args H0 (.aJ [.bB,b]) (an l n))(hn:dq l n=none)(cI:H0.bL<=n):
 dT P f args H0 (.aJ [.ad n 0 sz,b]) (an (l++[(n,.aF [] t)]) (n+1)):=
 DD h (BJ _ hn) cI (fun φ aW hR x hx=>by subst hR;exact ahS (fun y hy=>sY hy) hx)
theorem ahb{base:Int}:∀{l:cn} {wr:List (Int×Bool)},pA base wr l=true->∀x∈l,(x.op=19∨x.op=20)->x.ar<=base
 |i::l,wr,h,x,hx=>by
  unfold pA at h;split at h
  ·cases h
  ·rename_i hn;split at h
   ·cases h
   ·rcases List.mem_cons.1 hx with rfl|hx
    ·intro ho;rcases Int.lt_or_le base x.ar with h1|h1
     ·exact absurd (.inr ⟨ho,h1⟩) hn
     ·exact h1
    ·exact ahb h x hx
theorem awd{base:Int}{l:cn}(h:kq l base=true):∀x∈l,(x.op=19∨x.op=20)->x.ar<=base:=by
 unfold kq at h;split at h
 ·cases h
 ·exact ahb h
theorem Ps:bm Z JK:=by
 refine de Pr ?_;rintro⟨p,base⟩ args H ⟨rfl,rfl,hp,hl⟩;have hp:p.ok:=hp;simp only[Qn,gB];cases hv:kq p.l base with
 |false=>
  have ha:eD p.l base=([],1):=by simp[eD,hv]
  rw[ha];refine Rt (n:=1) (l:=[(0,.aF p.cs 50)]) (t:=50) ?_ rfl (fB _);refine eS Pr 1000 (fun _=>[]) 17 (by kernel_rfl) ?_;rw[afV];exact⟨(p,base),⟨rfl,rfl,hp⟩,aI.2 ⟨fun _=>⟨rfl,rfl⟩,fun h=>by simp only[hv]at h;cases h⟩⟩
 |true=>
  have ha:eD p.l base=((um p.l base).aN,0):=by simp[eD,hv]
  rw[ha];refine eS Pr 1000 (fun _=>[]) 17 (by kernel_rfl) ?_;rw[afV];exact⟨(p,base),⟨rfl,rfl,hp⟩,aI.2 ⟨fun h=>(by simp only[hv]at h;cases h),fun _=>⟨(p,base),⟨rfl,rfl,hp,hl,awd hv⟩,rfl,rfl⟩⟩⟩
theorem avM(base:Int)(last:LP)(k:Int)(s:Al)(i:a9):(s.sS base last k i).aN.length=s.aN.length+1:=by have a1:=RJ base last k (bj i) (bo i) s;have a2:=RL base (bj i) ((bo i).foldl (Al.iH base last k (bj i)) s);have a3:=RI base last k (bj i) ((bj i).foldl (Al.jJ base) ((bo i).foldl (Al.iH base last k (bj i)) s)).qP;have a5:((bj i).foldl (Al.jJ base) ((bo i).foldl (Al.iH base last k (bj i)) s)).qP.aN=((bj i).foldl (Al.jJ base) ((bo i).foldl (Al.iH base last k (bj i)) s)).aN:=rfl;show(_++[_]).length=_;rw[bI,a3.2,a5,a2.2,a1.2];rfl
theorem afs(base:Int)(last:LP):∀(l:cn) (k:Nat) (s:Al),(Al.rV base last k s l).aN.length=s.aN.length+l.length
 |[],k,s=>rfl
 |i::l,k,s=>by rw[Al.rV,afs base last l,avM];simp;omega
theorem aiy(l:cn)(base:Int):(eD l base).1.length<=l.length:=by
 unfold eD;split
 ·show(um l base).aN.length<=_;unfold um;rw[afs];simp[vu]
 ·simp
theorem aam:∀(l:cn) (k:Nat),(cw l).drop (k*6)=cw (l.drop k)
 |l,0=>by simp
 |[],k+1=>by simp[cw]
 |i::l,k+1=>by rw[Nat.add_mul,Nat.one_mul,Nat.add_comm,←List.drop_drop];have:(cw (i::l)).drop 6=cw l:=rfl;rw[this,aam l k];rfl
theorem Rk:∀(l:cn) (k:Nat),(cw l).take (k*6)=cw (l.take k)
 |l,0=>by simp[cw]
 |[],k+1=>by simp[cw]
 |i::l,k+1=>by
  have h:=Rk l k;have e:(k+1)*6=(cb i).length+k*6:=by rw[AN];omega
  rw[cw,e,List.take_length_add_append,h];rfl
theorem aiV(l:cn)(i:Nat):gm (l.take i)<=gm l:=by unfold gm;exact(((List.take_sublist i l).filter _).length_le)
theorem aiU{l:cn}{i:Nat}(h:i<l.length):gm (l.take (i+1))=gm (l.take i)+(if l[i].op=19 then 1 else 0):=by unfold gm;rw[List.take_succ_eq_append_getElem h,List.filter_append,bI];by_cases h1:l[i].op=19<;>simp[h1]
def y8(az:cn×Int):AV:=if az.2=0 then .aJ [.ad 2 az.1.length 6,J 0]else .aJ [.bB,J az.2]
def y7(code:cn)(base:LI)(az:cn×Int):AH:=if az.2=0 then BY code base az.1 else zb code base
theorem asL{code:cn}{base:LI}{az:cn×Int}(hc:code.length<12000)(hb:gm code<base.length)(qu:base.length<100000):
 ∀q:Nat×Nat×Nat×cn,(q.1<=code.length∧q.2.1<=q.1∧(q.1<code.length->q.2.2.1=gm (code.take q.1))∧q.2.2.2.length<=q.2.1∧q.2.2.1<200000∧pH code base q.1 q.2.1 q.2.2.1 q.2.2.2 (code.drop q.1)=az)->
 bJ Z 29 54 2 (y8 az) (y7 code base az) (yp code.length base.length q.2.2.2.length (q.2.1:Int) (q.2.2.1:Int) (q.1:Int)) (BY code base q.2.2.2) (ao Z 29 0):=by
 refine cV (fun q=>code.length-q.1) _ _ _ _ ?_;rintro⟨i,fr,part,l⟩ ⟨hi,jx,Ti,hl,uU,hf⟩ ih;simp only at hi jx Ti hl uU hf ih⊢;refine hD Ps 1000 My (by kernel_rfl) ?_;rw[asN];refine aI.2 ⟨fun aj=>?_,fun aS=>?_⟩
 ·have aj:i<code.length:=by simpa using aj
  have Ti:=Ti aj;have gY:=aiU aj;have hct:=aiV code i;have bX:=h_.get (p:=⟨cw code,0,code⟩) ⟨by rw[jB,Rk,List.take_length],by show code.length<60000;omega⟩ aj;rw[jI]at bX;rw[dN aj,pH]at hf;have bX:bQ Z 50 (cw code) (i*6)=some (.au (cb code[i])):=bX;generalize code[i]=x at bX hf gY;obtain⟨o,r,a,n,s,ar⟩:=x;simp only at hf gY;have e1:wI (Int.ofNat code.length-1)=(code.length:Int)-1:=by rw[cX (by simp only[k_];omega) (by simp only[k_];omega)];simp
  refine⟨i,rfl,aj,o,r,a,n,s,ar,bX,?_⟩;rw[e1,gq aj (by omega),gq (n:=part+1) (lR part) (by omega)];have cut:¬(o≠19∧i+1<code.length)->((1<=code.length)∧∃bU:Nat,((fr:Int)=(bU:Int))∧∃cd:Nat,(((i+1:Nat):Int)=(cd:Int))∧((bU<=cd)∧cd<=code.length)∧
   ∃eE:Nat,((part:Int)=(eE:Int))∧(eE<base.length)∧∃fI:Int,(bQ Z 3 (aX base) (eE*1)=some (J fI))∧
   ∃w:h_×Int,((([.bE 0 (0+(bU*6)) (cd-bU) 0 6 false,J fI]:LV)=[.bE 0 w.1.fW w.1.l.length 0 6 false,J w.2])∧(an [(0,.aF (cw code) 50)] 1=gB w.1)∧w.1.ok∧w.1.l.length<12000)∧
   ah ((eD w.1.l w.2).2 !=0)
    (iS (y8 az) (y7 code base az) (.aJ [.bB,J (eD w.1.l w.2).2]) (an [(0,.aF w.1.cs 50),(1,bp base 3)] 2))
    (((cw (eD w.1.l w.2).1).length=(eD w.1.l w.2).1.length*6)∧
      ((eD w.1.l w.2).1.length=0->(l.length<=65536)∧bJ Z 29 54 2 (y8 az) (y7 code base az) (yp code.length base.length l.length ((i+1:Nat):Int) ((part+1:Nat):Int) ((i+1:Nat):Int)) (an [(0,.aF w.1.cs 50),(1,bp base 3),(2,c_ l)] 3) (ao Z 29 0))∧
      (1<=(eD w.1.l w.2).1.length->(((cw l).length=l.length*6)∧(l.length+(eD w.1.l w.2).1.length<=65536)∧((cw (eD w.1.l w.2).1).all AV.dR=true)∧(cw (eD w.1.l w.2).1).all iD=true)∧
        bJ Z 29 54 2 (y8 az) (y7 code base az) (yp code.length base.length (l.length+(eD w.1.l w.2).1.length) ((i+1:Nat):Int) ((part+1:Nat):Int) ((i+1:Nat):Int)) (an [(0,.aF w.1.cs 50),(1,bp base 3),(2,.aF (cw l++cw (eD w.1.l w.2).1) 50)] 3) (ao Z 29 0)))):=by
   intro hn;rw[aB hn]at hf;have hpb:part<base.length:=by omega
   have tv:((code.drop fr).take (i+1-fr)).length=i+1-fr:=by simp;omega
   have hpo:(⟨cw code,0+fr*6,(code.drop fr).take (i+1-fr)⟩:h_).ok:=⟨by show((cw code).drop (0+fr*6)).take (((code.drop fr).take (i+1-fr)).length*6)=cw ((code.drop fr).take (i+1-fr));rw[jI,aam,tv,Rk],by show((code.drop fr).take (i+1-fr)).length<60000;omega⟩;have ji:=aiy ((code.drop fr).take (i+1-fr)) (base.getD part 0);rw[tv]at ji;refine⟨by omega,fr,rfl,i+1,rfl,⟨by omega,by omega⟩,part,rfl,hpb,_,ja hpb,(⟨cw code,0+fr*6,(code.drop fr).take (i+1-fr)⟩,base.getD part 0),⟨by simp only[tv],rfl,hpo,by simp only[tv];omega⟩,aI.2 ⟨fun he=>?_,fun he=>?_⟩⟩
   ·have he:(eD ((code.drop fr).take (i+1-fr)) (base.getD part 0)).2≠0:=by simpa using he
    rw[aY he]at hf;subst hf;simp only[y8,y7,aB he];exact⟨rfl,rfl⟩
   ·have he:(eD ((code.drop fr).take (i+1-fr)) (base.getD part 0)).2=0:=by simpa using he
    rw[aB (fun h=>h he)]at hf;have next:=ih (i+1,i+1,part+1,l++(eD ((code.drop fr).take (i+1-fr)) (base.getD part 0)).1) ⟨by simp;omega,by simp,fun h=>?_,by simp only[bI];omega,by simp;omega,hf⟩ (by simp;omega)
    ·simp only at next
     refine⟨by rw[xg],fun h0=>⟨by omega,?_⟩,fun h1=>⟨⟨by rw[xg],by simp only;omega,(Ri _).1,(Ri _).2⟩,?_⟩⟩
     ·have h0:(eD ((code.drop fr).take (i+1-fr)) (base.getD part 0)).1=[]:=List.eq_nil_of_length_eq_zero h0;rw[h0,lh]at next
      exact next
     ·simp only[BY,c_,KE,bI]at next
      exact next
    ·have h:i+1<code.length:=h;have ho:o=19:=by
      rcases Decidable.em (o=19)with h1|h1
      ·exact h1
      ·exact absurd ⟨h1,h⟩ hn
     rw[aY ho]at gY;show part+1=gm (code.take (i+1));omega
  refine aI.2 ⟨fun ho=>aI.2 ⟨fun h2=>?_,fun h2=>?_⟩,fun ho=>?_⟩
  ·have ho:o≠19:=by simpa using ho
   have h2:i+1<code.length:=by simp at h2;omega
   rw[aY ⟨ho,h2⟩]at hf;rw[aB ho]at gY;exact ih (i+1,fr,part,l) ⟨by simp;omega,by simp;omega,fun _=>by show part=gm (code.take (i+1));omega,hl,uU,hf⟩ (by simp;omega)
  ·exact cut (fun h=>by simp at h2;omega)
  ·exact cut (fun h=>h.1 (by simpa using ho))
 ·have aS:code.length<=i:=by simpa using aS
  rw[eT aS]at hf;have hf:(l,(0:Int))=az:=hf;subst hf;exact⟨rfl,rfl⟩
theorem Pt:bm Z JL:=by
 refine de Ps ?_;rintro⟨code,base⟩ args H ⟨rfl,rfl,hc,hb,qu⟩;have EY:dT Z 29 [.ad 0 code.length 6,.ad 1 base.length 1] (zb code base) (y8 (lB code base)) (y7 code base (lB code base)):=by refine eS Ps 1000 My 54 (by kernel_rfl) ?_;rw[asM];refine A' (n:=2) (l:=[(0,c_ code),(1,bp base 3)]) (T:=[(0,.ad 0 code.length 6),(1,.ad 1 base.length 1),(4,.bB),(6,J 0),(7,J 0),(12,.ad 0 code.length 6),(13,J (Int.ofNat code.length)),(14,J 0)]) 6 50 [4] ?_ rfl (by kernel_rfl);exact asL hc hb qu (0,0,0,[]) ⟨by simp,by simp,fun _=>by simp[gm],by simp,by simp,rfl⟩
 simp only[Qq];by_cases h0:(lB code base).2=0
 ·simp only[y8,y7,aY h0]at EY;rw[h0];exact EY
 ·simp only[y8,y7,aB h0]at EY;have he:(lB code base).1=[]:=by
   have key:∀(rest:cn) (i fr part:Nat) (l:cn),(pH code base i fr part l rest).2≠0->(pH code base i fr part l rest).1=[]:=by
    intro rest;induction rest with
    |nil=>intro i fr part l h;exact absurd rfl h
    |cons x rest ih=>
     intro i fr part l h;unfold pH at h⊢;split
     ·rename_i h1;rw[aY h1]at h;exact ih _ _ _ _ h
     ·rename_i h1;rw[aB h1]at h;split
      ·rfl
      ·rename_i h2;rw[aB h2]at h;exact ih _ _ _ _ h
   exact key code 0 0 0 [] h0
  rw[he];exact Rt (n:=2) (l:=[(0,c_ code),(1,bp base 3)]) (t:=50) EY rfl (fB _)
structure Tm where
 x:Int
 cr:Int
 qR:Int
 l_:Int
def tb(t:Tm):LV:=[J t.x,J t.cr,J t.qR,J t.l_]
def jh:List Tm->LV
 |[]=>[]
 |t::l=>tb t++jh l
theorem aas{a b:Tm}(h:tb a=tb b):a=b:=by obtain⟨a1,a2,a3,a4⟩:=a;obtain⟨b1,b2,b3,b4⟩:=b;simp only[tb,List.cons.injEq,AV.ck.injEq,true_and,and_true]at h;obtain⟨rfl,rfl,rfl,rfl⟩:=h;rfl
theorem aaw:∀l:List Tm,(jh l).length=l.length*4
 |[]=>rfl
 |t::l=>by simp[jh,tb,aaw l];omega
theorem aav:∀{l m:List Tm},jh l=jh m->l=m
 |[],[],_=>rfl
 |[],i::_,h=>by simp[jh,tb]at h
 |i::_,[],h=>by simp[jh,tb]at h
 |t::l,u::m,h=>by simp only[jh]at h;have h2:=List.append_inj h rfl;rw[aas h2.1,aav h2.2]
theorem aat:∀l m:List Tm,jh (l++m)=jh l++jh m
 |[],m=>rfl
 |t::l,m=>by simp[jh,aat l m]
theorem ajV:∀l:List Tm,(jh l).all AV.dR=true∧(jh l).all iD=true
 |[]=>⟨rfl,rfl⟩
 |t::l=>by have:=ajV l;simp only[jh,List.all_append,this.1,this.2,Bool.and_true];exact⟨rfl,rfl⟩
theorem aau{l:List Tm}{i:Nat}(h:i<l.length):∃r,(jh l).drop (i*4)=tb l[i]++r:=by
 induction l generalizing i with
 |nil=>simp at h
 |cons t l ih=>
  cases i with
  |zero=>exact⟨jh l,by simp[jh]⟩
  |succ i=>obtain⟨r,hr⟩:=ih (i:=i) (by simpa using h);refine⟨r,?_⟩;rw[Nat.add_mul,Nat.one_mul,Nat.add_comm,←List.drop_drop];exact hr
theorem Rp{l:List Tm}{i:Nat}(h:i<l.length)(j:Nat)(hj:j<4):bQ Z 3 (jh l) (i*4+j)=(tb l[i])[j]? :=by obtain⟨r,hr⟩:=aau h;rw[BR,←List.getElem?_drop,hr,List.getElem?_append_left (by exact hj)]
def sM(l:List Tm):aZ:=.aF (jh l) 179
def Y7:dp (LI×Int)where
 ba w A H:=A=[.ad 0 w.1.length 1,J w.2]∧H=cC w.1∧w.1.length<100000
 v w:=.ai (decide (w.2∈w.1))
 aN w:=cC w.1
theorem ah7:Y7.dx:=by rintro⟨l,a⟩ ⟨l',a'⟩ A H ⟨h1,h2,_⟩ ⟨k1,k2,_⟩;have e:=Hp (h2.symm.trans k2);rw[h1]at k1;simp only[List.cons.injEq,AV.ck.injEq,true_and,and_true]at k1 e;rw[e,k1.2]
def lV(t:Tm)(k:Int)(ws:LI):Bool:=decide (t.qR<=k)&&(decide (t.l_>k)||decide (t.x∈ws))
def ag8:dp (Tm×Int×LI)where
 ba w A H:=A=[.au (tb w.1),J w.2.1,.ad 0 w.2.2.length 1]∧H=cC w.2.2∧w.2.2.length<100000
 v w:=.ai (lV w.1 w.2.1 w.2.2)
 aN w:=cC w.2.2
theorem awb:ag8.dx:=by rintro⟨t,k,l⟩ ⟨t',k',l'⟩ A H ⟨h1,h2,_⟩ ⟨k1,k2,_⟩;have e:=Hp (h2.symm.trans k2);rw[h1]at k1;simp only[List.cons.injEq,AV.au.injEq,AV.ck.injEq,true_and,and_true]at k1 e;rw[e,aas k1.1,k1.2.1]
def qH:List Tm->Int->Int
 |[],x=>x
 |t::l,x=>if t.x=x then t.cr else qH l x
def qt(l:List Tm):AH:=an [(0,sM l)] 1
def adQ:dp (List Tm×Int)where
 ba w A H:=A=[.ad 0 w.1.length 4,J w.2]∧H=qt w.1∧w.1.length<100000
 v w:=J (qH w.1 w.2)
 aN w:=qt w.1
theorem anZ:adQ.dx:=by rintro⟨l,a⟩ ⟨l',a'⟩ A H ⟨h1,h2,_⟩ ⟨k1,k2,_⟩;have e:=h2.symm.trans k2;have q:=congrArg (fun H=>AH.bu H 0) e;simp only[qt,dy]at q;have e0:=aav (aZ.aF.inj (dz q)).1;rw[h1]at k1;simp only[List.cons.injEq,AV.ck.injEq,true_and,and_true]at k1 e0;rw[e0,k1.2]
def R1:Ev.bz:=cz 142 (cM Y7 ah7 cZ) JL
def R2:Ev.bz:=cz 133 (cM ag8 awb cZ) R1
def R3:Ev.bz:=cz 114 (cM adQ anZ cZ) R2
abbrev Ab x0 x1 x2 x3:=aQ [(0,.ad 0 x0 x1),(1,J x2),(5,J x3)]
theorem ar2(l:LI)(a:Int)(L:LT)(Q:QT):
 b8 Z JL (fun _=>[0,1,5]) L Q 1000 142 [.ad 0 l.length 1,J a] (cC l)=(
 L (Ab l.length 1 a 0) (cC l) (ao Z 142 0)):=by kernel_rfl
theorem ar3(l:LI)(a i:Int)(L:LT)(Q:QT):
 cO Z JL (fun _=>[0,1,5]) L Q 1000 142 1 (Ab l.length 1 a i) (ao Z 142 0) (cC l)=(
 ah (decide (i<Int.ofNat l.length)) (∃aD:Nat,i=(aD:Int)∧aD<l.length∧(∃n:Int,bQ Z 3 (aX l) (aD*1)=some (J n:AV)∧ah (n==a) (Q (.ai true) (cC l)) (L (Ab l.length 1 a (wI (i+1))) (cC l) (ao Z 142 0)))) (Q (.ai false) (cC l))):=by kernel_rfl
theorem arG(t:Tm)(k:Int)(l:LI)(L:LT)(Q:QT):
 b8 Z R1 (fun _=>[]) L Q 1000 133 [.au (tb t),J k,.ad 0 l.length 1] (cC l)=(
 ah (decide (t.qR<=k)) (ah (decide (t.l_>k)) (Q (.ai true) (cC l)) (∃w:LI×Int,(([.ad 0 l.length 1,J t.x]:LV)=[.ad 0 w.1.length 1,J w.2]∧cC l=cC w.1∧w.1.length<100000)∧Q (.ai (decide (w.2∈w.1))) (cC w.1))) (Q (.ai false) (cC l))):=by kernel_rfl
theorem aqR(l:List Tm)(a:Int)(L:LT)(Q:QT):
 b8 Z R2 (fun _=>[0,1,5]) L Q 1000 114 [.ad 0 l.length 4,J a] (qt l)=(
 L (Ab l.length 4 a 0) (qt l) (ao Z 114 0)):=by kernel_rfl
theorem aqS(l:List Tm)(a i:Int)(L:LT)(Q:QT):
 cO Z R2 (fun _=>[0,1,5]) L Q 1000 114 1 (Ab l.length 4 a i) (ao Z 114 0) (qt l)=(
 ah (decide (i<Int.ofNat l.length)) (∃aD:Nat,i=(aD:Int)∧aD<l.length∧(∃n:Int,bQ Z 3 (jh l) (aD*4+0)=some (J n:AV)∧ah (n==a) (∃bU:Nat,i=(bU:Int)∧bU<l.length∧(∃aL:Int,bQ Z 3 (jh l) (bU*4+1)=some (J aL:AV)∧Q (J aL) (qt l))) (L (Ab l.length 4 a (wI (i+1))) (qt l) (ao Z 114 0)))) (Q (J a) (qt l))):=by kernel_rfl
theorem ar1{l:LI}{a:Int}(hl:l.length<100000):∀i:Nat,(i<=l.length∧decide (a∈l.drop i)=decide (a∈l))->
 bJ Z 142 18 1 (.ai (decide (a∈l))) (cC l) (Ab l.length 1 a (i:Int)) (cC l) (ao Z 142 0):=by
 refine cV (fun i=>l.length-i) _ _ _ _ ?_;rintro i ⟨hi,hf⟩ ih;refine hD Pt 1000 (fun _=>[0,1,5]) (by kernel_rfl) ?_;rw[ar3];refine aI.2 ⟨fun aj=>?_,fun aS=>?_⟩
 ·have aj:i<l.length:=by simpa using aj
  rw[dN aj]at hf;have hg:l.getD i 0=l[i]:=by simp[List.getD,jn aj]
  refine⟨i,rfl,aj,l[i],by rw[ja aj,hg],aI.2 ⟨fun h=>?_,fun h=>?_⟩⟩
  ·have h:l[i]=a:=by simpa using h
   rw[←hf];exact⟨by simp[h],rfl⟩
  ·have h:¬l[i]=a:=by simpa using h
   rw[gq aj (by omega)];have h2:¬a=l[i]:=fun e=>h e.symm
   refine ih (i+1) ⟨by omega,Eq.trans ?_ hf⟩ (by omega);simp only[sy,h2,false_or]
 ·have aS:l.length<=i:=by simpa using aS
  rw[eT aS]at hf;rw[←hf];exact⟨rfl,rfl⟩
theorem YD:bm Z R1:=by refine de Pt ?_;rintro⟨l,a⟩ args H ⟨rfl,rfl,hl⟩;refine eS Pt 1000 (fun _=>[0,1,5]) 18 (by kernel_rfl) ?_;rw[ar2];exact ar1 hl 0 ⟨by simp,by simp⟩
theorem PX:bm Z R2:=by
 refine de YD ?_;rintro⟨t,k,l⟩ args H ⟨rfl,rfl,hl⟩;refine eS YD 1000 (fun _=>[]) 23 (by kernel_rfl) ?_;rw[arG];refine aI.2 ⟨fun h1=>aI.2 ⟨fun h2=>⟨?_,rfl⟩,fun h2=>⟨(l,t.x),⟨rfl,rfl,hl⟩,?_,rfl⟩⟩,fun h1=>⟨?_,rfl⟩⟩;all_goals
  congr 1;simp at h1;try simp at h2
  simp[lV,h1];try omega
theorem aqQ{l:List Tm}{a az:Int}(hl:l.length<100000):∀i:Nat,(i<=l.length∧qH (l.drop i) a=az)->
 bJ Z 114 25 1 (J az) (qt l) (Ab l.length 4 a (i:Int)) (qt l) (ao Z 114 0):=by
 refine cV (fun i=>l.length-i) _ _ _ _ ?_;rintro i ⟨hi,hf⟩ ih;refine hD PX 1000 (fun _=>[0,1,5]) (by kernel_rfl) ?_;rw[aqS];refine aI.2 ⟨fun aj=>?_,fun aS=>?_⟩
 ·have aj:i<l.length:=by simpa using aj
  have c0:=Rp aj 0 (by omega);have c1:=Rp aj 1 (by omega);rw[dN aj,qH]at hf;generalize l[i]=t at c0 c1 hf;refine⟨i,rfl,aj,t.x,c0,aI.2 ⟨fun h=>?_,fun h=>?_⟩⟩
  ·have h:t.x=a:=by simpa using h
   rw[aY h]at hf;subst hf;exact⟨i,rfl,aj,t.cr,c1,rfl,rfl⟩
  ·have h:¬t.x=a:=by simpa using h
   rw[aB h]at hf;rw[gq aj (by omega)];exact ih (i+1) ⟨by omega,hf⟩ (by omega)
 ·have aS:l.length<=i:=by simpa using aS
  rw[eT aS]at hf;have hf:a=az:=hf;subst hf;exact⟨rfl,rfl⟩
theorem yH:bm Z R3:=by refine de PX ?_;rintro⟨l,a⟩ args H ⟨rfl,rfl,hl⟩;refine eS PX 1000 (fun _=>[0,1,5]) 25 (by kernel_rfl) ?_;rw[aqR];exact aqQ hl 0 ⟨by simp,by simp⟩
def fw:Nat->LP->cn->LP
 |_,m,[]=>m
 |k,m,i::l=>fw (k+1) ((bo i++bj i).foldl (fun m r=>up r (k:Int) m) m) l
def tR(base k:Int)(ws:LI)(tk:List Bool)(t:Tm):List Bool:=if lV t k ws then tk.set (t.cr-base).toNat true else tk
def nb(base k:Int)(ws:LI)(ts:List Tm):List Bool:=ts.foldl (tR base k ws) (List.replicate (ts.length+2) false)
def pd(tk:List Bool):Nat->Nat->Nat
 |0,n=>n
 |f+1,n=>if tk.getD n false then pd tk f (n+1)else n
structure Nu where
 ts:List Tm
 eQ:List (Int×Bool)
def Nu.gG(base:Int)(last:LP)(k:Int)(ws:LI)(s:Nu)(w:Int):Nu:=
 if w<=base∨du s.eQ w then s
 else⟨s.ts++[⟨w,base+(pd (nb base k ws s.ts) (s.ts.length+1) 1:Nat),k,fx w last⟩],up w true s.eQ⟩
def Nu.oY(base:Int)(last:LP):Nat->Nu->cn->Nu
 |_,s,[]=>s
 |k,s,i::l=>Nu.oY base last (k+1) ((bj i).foldl (Nu.gG base last k (bj i)) s) l
def oi(l:cn)(base:Int):List Tm:=(Nu.oY base (fw 0 [] l) 0 ⟨[],[]⟩ l).ts
abbrev sb x0 x1:=an [(0,.aF x0 50),(1,sM x1)] 2
def UA:dp (h_×Int)where
 ba w A H:=A=[.bE 0 w.1.fW w.1.l.length 0 6 false,J w.2]∧H=gB w.1∧w.1.ok∧w.1.l.length<12000∧0<=w.2∧w.2<=4096
 v w:=.ad 1 (oi w.1.l w.2).length 4
 aN w:=sb w.1.cs (oi w.1.l w.2)
theorem anS:UA.dx:=by rintro w w' A H ⟨h1,h2,h3,_⟩ ⟨k1,k2,k3,_⟩;rw[Fj h1 h2 h3 k1 k2 k3]
def R4:Ev.bz:=cz 113 (cM UA anS cZ) R3
def rC:Nat->LN:=kg [(3,[0,1,5,6]),(7,[0,1,5,6,7,8]),(13,[0,1,5,9,10,11]),(17,[0,1,5,9,10,11,12,13]),(22,[0,1,5,9,10,11,12,13,14,15]),(27,[0,1,5,9,10,11,12,13,14,16])]
def na(l:List Bool):LV:=l.map AV.ai
abbrev I5 x0 x1 x2 x3 x4:=aQ [(0,.bE 0 x0 x1 0 6 x2),(1,J x3),(5,.aH 1),(6,J x4)]
theorem aqP(cs:LV)(off len:Nat)(base:Int)(L:LT)(Q:QT):
 b8 Z R3 rC L Q 2000 113 [.bE 0 off len 0 6 false,J base] (an [(0,.aF cs 50)] 1)=(
 L (I5 off len false base 0) (an [(0,.aF cs 50),(1,.bC [] 0 true)] 2) (ao Z 113 0)):=by kernel_rfl
abbrev I6 x0 x1 x2 x3 x4 x5 x6:=aQ [(0,.bE 0 x0 x1 0 6 x2),(1,J x3),(5,.aH 1),(6,J x4),(7,.ad 2 x5 1),(8,J x6)]
theorem aqE(cs:LV)(off len:Nat)(base i:Int)(m:LP)(L:LT)(Q:QT):
 cO Z R3 rC L Q 2000 113 1 (I5 off len false base i) (ao Z 113 0) (an [(0,.aF cs 50),(1,gy m)] 2)=(
 ah (decide (i<Int.ofNat len))
  (∃aD:Nat,(i=(aD:Int))∧
    (aD<len)∧
    ∃n:Int,∃aL:Int,∃bD:Int,∃cf:Int,∃s:LN,∃cK:Int,(bQ Z 50 cs (off+(aD*6))=some (.au [J n,J aL,J bD,J cf,.aa s,J cK]:AV))∧
    ∃bU:Nat,(i=(bU:Int))∧
    (bU<len)∧
    ∃fI:Int,∃gS:Int,∃jZ:Int,∃fT:Int,∃db:LN,∃fJ:Int,(bQ Z 50 cs (off+(bU*6))=some (.au [J fI,J gS,J jZ,J fT,.aa db,J fJ]:AV))∧
    ∃w:a9,((([.au [J n,J aL,J bD,J cf,.aa s,J cK]]:LV)=[.au [J (a9.op w),J (a9.r w),J (a9.a w),J (a9.n w),.aa w.cH,J (a9.ar w)]])∧
    an [] 0=aq)∧
    (Option.rec ((fun _=>none) ()) (fun val=>(fun val=>(fun x=>some (AV.au x)) val) val) (oN cs (off+bU*6) ((fun x=>x.size) Z.types[50]))=some (.au [J fI,J gS,J jZ,J fT,.aa db,J fJ]:AV))∧
    ∃ae:a9,((([.au [J fI,J gS,J jZ,J fT,.aa db,J fJ]]:LV)=[.au [J (a9.op ae),J (a9.r ae),J (a9.a ae),J (a9.n ae),.aa ae.cH,J (a9.ar ae)]])∧
    an [] 0=aq)∧
    (List.length (aX (bj ae))=(List.length (bj ae))*1)∧
    ((List.length (bj ae)=0->
      (List.length (bo w)<=65536)∧
      L (I6 off len false base i (List.length (bo w)) 0) (an [(0,.aF cs 50),(1,.bC (bM J 0 m) (List.length m) true),(2,.aF (aX (bo w)) 3)] 3) (ao Z 113 1)))∧
    (1<=List.length (bj ae)->
      ((List.length (aX (bo w))=(List.length (bo w))*1)∧
      ((List.length (bo w))+(List.length (bj ae))<=65536)∧
      (List.all (aX (bj ae)) AV.dR=true)∧
      List.all (aX (bj ae)) iD=true)∧
      L (I6 off len false base i (List.length (bo w)+List.length (bj ae)) 0) (an [(0,.aF cs 50),(1,.bC (bM J 0 m) (List.length m) true),(2,.aF ((aX (bo w))++(aX (bj ae))) 3)] 3) (ao Z 113 1)))
  (L (aQ [(0,.bE 0 off len 0 6 false),(1,J base),(5,.aH 1),(9,.bB),(10,.aH 2),(11,J 0)]) (an [(0,.aF cs 50),(1,.bC (bM J 0 m) (List.length m) true),(2,.bC [] 0 true)] 3) (ao Z 113 2))):=by kernel_rfl
theorem aqG(cs:LV)(off len:Nat)(base i k:Int)(m:LP)(rs:LI)(L:LT)(Q:QT):
 cO Z R3 rC L Q 2000 113 1 (I6 off len false base i rs.length k) (ao Z 113 1) (an [(0,.aF cs 50),(1,gy m),(2,bp rs 3)] 3)=(
 ah (decide (k<Int.ofNat rs.length)) (∃aD:Nat,k=(aD:Int)∧aD<rs.length∧(∃n:Int,bQ Z 3 (aX rs) (aD*1)=some (J n:AV)∧(∃bw:List (AV×AV×Nat),∃c':Nat,jc Z 3 (bM J 0 m) m.length (J n) (J i)=some (bw,c')∧L (I6 off len false base i rs.length (wI (k+1))) (an [(0,.aF cs 50),(1,.bC bw c' true),(2,bp rs 3)] 3) (ao Z 113 1)))) (L (I5 off len false base (wI (i+1))) (an [(0,.aF cs 50),(1,gy m)] 2) (ao Z 113 0))):=by kernel_rfl
abbrev I7 x0 x1 x2 x3 x4 x5:=aQ [(0,.bE 0 x0 x1 0 6 x2),(1,J x3),(5,.aH 1),(9,.ad 2 x4 4),(10,.aH 3),(11,J x5)]
abbrev Cn x0 x1 x2 x3 x4 x5 x6 x7:=aQ [(0,.bE 0 x0 x1 0 6 x2),(1,J x3),(5,.aH 1),(9,.ad 2 x4 4),(10,.aH 3),(11,J x5),(12,.ad 4 x6 1),(13,J x7)]
abbrev Hi x0 x1 x2 x3:=an [(0,.aF x0 50),(1,gy x1),(2,sM x2),(3,mb x3)] 4
abbrev D0 x0 x1 x2 x3 x4:=an [(0,.aF x0 50),(1,gy x1),(2,sM x2),(3,mb x3),(4,bp x4 3)] 5
theorem aqH(cs:LV)(off len:Nat)(base i:Int)(m:LP)(s:Nu)(L:LT)(Q:QT):
 cO Z R3 rC L Q 2000 113 1 (I7 off len false base s.ts.length i) (ao Z 113 2) (Hi cs m s.ts s.eQ)=(
 ah (decide (i<Int.ofNat len)) (∃aD:Nat,i=(aD:Int)∧aD<len∧(∃n:Int,∃aL:Int,∃bD:Int,∃cf:Int,∃db:LN,∃cK:Int,bQ Z 50 cs (off+aD*6)=some (.au [J n,J aL,J bD,J cf,.aa db,J cK]:AV)∧(∃w:a9,(([.au [J n,J aL,J bD,J cf,.aa db,J cK]]:LV)=[.au (cb w)]∧an [] 0=aq)∧L (Cn off len false base s.ts.length i (bj w).length 0) (D0 cs m s.ts s.eQ (bj w)) (ao Z 113 3)))) (Q (.ad 1 s.ts.length 4) (sb cs s.ts))):=by kernel_rfl
abbrev xq x0 x1 x2 x3 x4 x5:=an [(0,.aF x0 50),(1,gy x1),(2,sM x2),(3,mb x3),(4,bp x4 3),(5,.eh x5 4)] 6
theorem aqJ(cs:LV)(off len:Nat)(base i k:Int)(m:LP)(s:Nu)(ws:LI)(L:LT)(Q:QT):
 cO Z R3 rC L Q 2000 113 1 (Cn off len false base s.ts.length i ws.length k) (ao Z 113 3) (D0 cs m s.ts s.eQ ws)=(
 ah (decide (k<Int.ofNat ws.length)) (∃aD:Nat,k=(aD:Int)∧aD<ws.length∧(∃n:Int,bQ Z 3 (aX ws) (aD*1)=some (J n:AV)∧ah (decide (n<=base)) (L (Cn off len false base s.ts.length i ws.length (wI (k+1))) (D0 cs m s.ts s.eQ ws) (ao Z 113 3)) (∃bU:Nat,k=(bU:Int)∧bU<ws.length∧(∃aL:Int,bQ Z 3 (aX ws) (bU*1)=some (J aL:AV)∧(∃b:Bool,∃jD:Bool,fX Z 3 4 (bM vB 0 s.eQ) (J aL)=some (.ai b,jD)∧ah b (L (Cn off len false base s.ts.length i ws.length (wI (k+1))) (D0 cs m s.ts s.eQ ws) (ao Z 113 3)) (∃cd:Nat,wI (Int.ofNat s.ts.length+2)=(cd:Int)∧cd<=65536∧L (aQ [(0,.bE 0 off len 0 6 false),(1,J base),(5,.aH 1),(9,.ad 2 s.ts.length 4),(10,.aH 3),(11,J i),(12,.ad 4 ws.length 1),(13,J k),(14,.bE 5 0 cd cd 1 true),(15,J 0)]) (xq cs m s.ts s.eQ ws (iU [.ai false] cd)) (ao Z 113 4))))))) (L (I7 off len false base s.ts.length (wI (i+1))) (Hi cs m s.ts s.eQ) (ao Z 113 2))):=by kernel_rfl
theorem aqL(cs:LV)(off len:Nat)(base i k j:Int)(m:LP)(s:Nu)(ws:LI)(tk:List Bool)(L:LT)(Q:QT):
 cO Z R3 rC L Q 2000 113 1 (aQ [(0,.bE 0 off len 0 6 false),(1,J base),(5,.aH 1),(9,.ad 2 s.ts.length 4),(10,.aH 3),(11,J i),(12,.ad 4 ws.length 1),(13,J k),(14,.bE 5 0 tk.length tk.length 1 true),(15,J j)]) (ao Z 113 4) (xq cs m s.ts s.eQ ws (na tk))=(
 ah (decide (j<Int.ofNat s.ts.length)) (∃aD:Nat,j=(aD:Int)∧aD<s.ts.length∧(∃n:Int,∃aL:Int,∃bD:Int,∃cf:Int,bQ Z 179 (jh s.ts) (aD*4)=some (.au [J n,J aL,J bD,J cf]:AV)∧(∃w:Tm×Int×LI,(([.au [J n,J aL,J bD,J cf],J i,.ad 0 ws.length 1]:LV)=[.au [J w.1.x,J w.1.cr,J w.1.qR,J w.1.l_],J w.2.1,.ad 0 w.2.2.length 1]∧cC ws=cC w.2.2∧w.2.2.length<100000)∧ah (lV w.1 w.2.1 w.2.2) (∃bU:Nat,j=(bU:Int)∧bU<s.ts.length∧(∃cK:Int,bQ Z 3 (jh s.ts) (bU*4+1)=some (J cK:AV)∧(∃cd:Nat,wI (cK-base)=(cd:Int)∧cd<tk.length∧0+cd*1+1<=(na tk).length∧L (aQ [(0,.bE 0 off len 0 6 false),(1,J base),(5,.aH 1),(9,.ad 2 s.ts.length 4),(10,.aH 3),(11,J i),(12,.ad 4 ws.length 1),(13,J k),(14,.bE 5 0 tk.length tk.length 1 true),(15,J (wI (j+1)))]) (xq cs m s.ts s.eQ w.2.2 (fY (na tk) (0+cd*1) [.ai true])) (ao Z 113 4)))) (L (aQ [(0,.bE 0 off len 0 6 false),(1,J base),(5,.aH 1),(9,.ad 2 s.ts.length 4),(10,.aH 3),(11,J i),(12,.ad 4 ws.length 1),(13,J k),(14,.bE 5 0 tk.length tk.length 1 true),(15,J (wI (j+1)))]) (xq cs m s.ts s.eQ w.2.2 (na tk)) (ao Z 113 4))))) (L (aQ [(0,.bE 0 off len 0 6 false),(1,J base),(5,.aH 1),(9,.ad 2 s.ts.length 4),(10,.aH 3),(11,J i),(12,.ad 4 ws.length 1),(13,J k),(14,.bE 5 0 tk.length tk.length 1 true),(16,J 1)]) (xq cs m s.ts s.eQ ws (na tk)) (ao Z 113 5))):=by kernel_rfl
theorem aqN(cs:LV)(off len:Nat)(base i k n:Int)(m:LP)(s:Nu)(ws:LI)(tk:List Bool)(L:LT)(Q:QT):
 cO Z R3 rC L Q 2000 113 1 (aQ [(0,.bE 0 off len 0 6 false),(1,J base),(5,.aH 1),(9,.ad 2 s.ts.length 4),(10,.aH 3),(11,J i),(12,.ad 4 ws.length 1),(13,J k),(14,.bE 5 0 tk.length tk.length 1 true),(16,J n)]) (ao Z 113 5) (xq cs m s.ts s.eQ ws (na tk))=(
 ∃aD:Nat,n=(aD:Int)∧aD<tk.length∧(∃b:Bool,bQ Z 4 (na tk) (0+aD*1)=some (.ai b:AV)∧ah b (L (aQ [(0,.bE 0 off len 0 6 false),(1,J base),(5,.aH 1),(9,.ad 2 s.ts.length 4),(10,.aH 3),(11,J i),(12,.ad 4 ws.length 1),(13,J k),(14,.bE 5 0 tk.length tk.length 1 true),(16,J (wI (n+1)))]) (xq cs m s.ts s.eQ ws (na tk)) (ao Z 113 5)) (∃bU:Nat,k=(bU:Int)∧bU<ws.length∧(∃aL:Int,bQ Z 3 (aX ws) (bU*1)=some (J aL:AV)∧(∃bw:List (AV×AV×Nat),∃c':Nat,jc Z 3 (bM vB 0 s.eQ) s.eQ.length (J aL) (.ai true)=some (bw,c')∧(∃cd:Nat,k=(cd:Int)∧cd<ws.length∧(∃bD:Int,bQ Z 3 (aX ws) (cd*1)=some (J bD:AV)∧(∃eE:Nat,k=(eE:Int)∧eE<ws.length∧(∃cf:Int,bQ Z 3 (aX ws) (eE*1)=some (J cf:AV)∧(∃cK:Int,∃jD:Bool,fX Z 3 3 (bM J 0 m) (J cf)=some (J cK,jD)∧((jh s.ts).length=s.ts.length*4∧s.ts.length+1<=65536∧true=true∧true=true)∧L (Cn off len false base (s.ts.length+1) i ws.length (wI (k+1))) (an [(0,.aF cs 50),(1,gy m),(2,.aF (jh s.ts++[J bD,J (wI (base+n)),J i,J cK]) 179),(3,.bC bw c' true),(4,bp ws 3)] 5) (ao Z 113 3))))))))))):=by kernel_rfl
theorem ZT:∀(l:List Bool) (i:Nat),(l.set i true).count true<=l.count true+1
 |[],i=>by simp
 |b::l,0=>by cases b<;>simp
 |b::l,i+1=>by have:=ZT l i;simp only[List.set_cons_succ,List.count_cons];omega
theorem ag1(base k:Int)(ws:LI):∀(ts:List Tm) (tk:List Bool),(ts.foldl (tR base k ws) tk).length=tk.length∧(ts.foldl (tR base k ws) tk).count true<=tk.count true+ts.length
 |[],tk=>⟨rfl,by simp⟩
 |t::ts,tk=>by
  have h:=ag1 base k ws ts (tR base k ws tk t);have h1:(tR base k ws tk t).length=tk.length∧(tR base k ws tk t).count true<=tk.count true+1:=by
   unfold tR;split
   ·exact⟨by simp,ZT _ _⟩
   ·exact⟨rfl,by omega⟩
  simp only[iy,dv];exact⟨h.1.trans h1.1,by omega⟩
theorem Y5:∀(l:List Bool),(∀i,i<l.length->l.getD i false=true)->l.count true=l.length
 |[],_=>rfl
 |b::l,h=>by
  have h0:=h 0 (by simp);have h1:=Y5 l (fun i hi=>by have:=h (i+1) (by simpa using hi);simpa using this);have h0:b=true:=by simpa using h0
  subst h0;simp[h1]
theorem aa8(base k:Int)(ws:LI)(ts:List Tm):∃n,1<=n∧n<=ts.length+1∧(nb base k ws ts).getD n false=false:=by
 rcases Classical.em (∃n,1<=n∧n<=ts.length+1∧(nb base k ws ts).getD n false=false)with h|h
 ·exact h
 ·exfalso;have h1:=ag1 base k ws ts (List.replicate (ts.length+2) false);have hl:(nb base k ws ts).length=ts.length+2:=by rw[nb,h1.1];simp
  have hc:(nb base k ws ts).count true<=ts.length:=by have:=h1.2;rw[List.count_replicate]at this;simpa[nb]using this
  cases lL:nb base k ws ts with
  |nil=>rw[lL]at hl;simp at hl
  |cons b l=>
   rw[lL]at hl hc h;have ha:=Y5 l (fun i hi=>by
    cases hg:l.getD i false with
    |true=>rfl
    |false=>exact absurd ⟨i+1,by omega,by simp at hl;omega,by simpa using hg⟩ h)
   simp only[dv,List.count_cons]at hl hc;omega
theorem aoG(cs:LV)(off:Nat):bQ Z 4 cs off=cs[off]? :=by kernel_rfl
theorem apH{l:List Bool}{i:Nat}(h:i<l.length):bQ Z 4 (na l) (0+i*1)=some (.ai (l.getD i false)):=by rw[aoG,na,jI,Nat.mul_one,List.getElem?_map,jn h];simp[List.getD,jn h]
theorem aoX{l:List Bool}{i:Nat}(x:Bool)(h:i<l.length):fY (na l) i [.ai x]=na (l.set i x):=by unfold fY na;rw[List.map_set,List.set_eq_take_append_cons_drop,aY (by simpa using h)];rfl
theorem apI(l:List Bool):(na l).length=l.length:=by simp[na]
theorem aoE(a b c d:AV)(l:LV):bQ Z 179 (a::b::c::d::l) 0=some (.au [a,b,c,d]):=by kernel_rfl
theorem aoF(cs:LV)(off:Nat):bQ Z 179 cs off=bQ Z 179 (cs.drop off) 0:=by kernel_rfl
theorem ajW{l:List Tm}{i:Nat}(h:i<l.length):bQ Z 179 (jh l) (i*4)=some (.au (tb l[i])):=by obtain⟨r,hr⟩:=aau h;rw[aoF,hr];exact aoE _ _ _ _ _
theorem ajX(l:List Tm)(t:Tm):jh (l++[t])=jh l++[J t.x,J t.cr,J t.qR,J t.l_]:=by rw[aat];rfl
section
variable{cs:LV}{off len:Nat}{base i:Int}{m:LP}{az:List Tm}{ws:LI}{s:Nu}{k:Nat}
theorem aqO(hk:k<ws.length)(hw:ws.length<5000)(nX:0<=base)(lI:base<=4096)(ht:s.ts.length<60000){tk:List Bool}(htl:tk.length=s.ts.length+2)(alU:∃n,1<=n∧n<=s.ts.length+1∧tk.getD n false=false){N:Nat}
 (next:bJ Z 113 135 1 (.ad 1 az.length 4) (sb cs az) (aQ [(0,.bE 0 off len 0 6 false),(1,J base),(5,.aH 1),(9,.ad 2 (⟨s.ts++[⟨ws[k],base+(N:Nat),i,fx ws[k] m⟩],up ws[k] true s.eQ⟩:Nu).ts.length 4),(10,.aH 3),(11,J i),(12,.ad 4 ws.length 1),(13,J ((k+1:Nat):Int))]) (an [(0,.aF cs 50),(1,gy m),(2,sM (⟨s.ts++[⟨ws[k],base+(N:Nat),i,fx ws[k] m⟩],up ws[k] true s.eQ⟩:Nu).ts),(3,mb (⟨s.ts++[⟨ws[k],base+(N:Nat),i,fx ws[k] m⟩],up ws[k] true s.eQ⟩:Nu).eQ),(4,bp ws 3)] 5) (ao Z 113 3)):
 ∀p:Nat×Nat,(1<=p.2∧p.1+p.2=s.ts.length+2∧(∀q,1<=q->q<p.2->tk.getD q false=true)∧pd tk p.1 p.2=N)->
 bJ Z 113 135 1 (.ad 1 az.length 4) (sb cs az) (aQ [(0,.bE 0 off len 0 6 false),(1,J base),(5,.aH 1),(9,.ad 2 s.ts.length 4),(10,.aH 3),(11,J i),(12,.ad 4 ws.length 1),(13,J (k:Int)),(14,.bE 5 0 tk.length tk.length 1 true),(16,J (p.2:Int))]) (xq cs m s.ts s.eQ ws (na tk)) (ao Z 113 5):=by
 refine cV (fun p=>p.1) _ _ _ _ ?_;rintro⟨f,n⟩ ⟨h1,jW,jG,hf⟩ ih;simp only at h1 jW jG hf ih⊢;obtain⟨n0,a1,a2,a3⟩:=alU;have LW:n<=n0:=by
  rcases Nat.lt_or_ge n0 n with h|h
  ·rw[jG n0 a1 h]at a3;cases a3
  ·exact h
 have xC:n<tk.length:=by omega
 refine hD yH 2000 rC (by kernel_rfl) ?_;rw[aqN];refine⟨n,rfl,xC,_,apH xC,aI.2 ⟨fun hb=>?_,fun hb=>?_⟩⟩
 ·have di:n≠n0:=by rintro rfl;rw[a3]at hb;cases hb
  obtain⟨f,rfl⟩:∃g,f=g+1:=⟨f-1,by omega⟩;rw[pd,aY hb]at hf;rw[gq (n:=n+1) (lR n) (by omega)];exact ih (f,n+1) ⟨by simp,by simp;omega,fun q q1 q2=>by
   rcases Nat.lt_or_ge q n with h|h
   ·exact jG q q1 h
   ·have:q=n:=by simp at q2;omega
    rw[this];exact hb,hf⟩ (by simp)
 ·have hN:n=N:=by
   cases f with
   |zero=>exact hf
   |succ f=>rw[pd,aB (by rw[hb];simp)]at hf;exact hf
  subst hN;have hg:ws.getD k 0=ws[k]:=by simp[List.getD,jn hk]
  obtain⟨v,b1,e1,e2,_⟩:=BF m ws[k];have bX:bQ Z 3 (aX ws) (k*1)=some (J ws[k]):=by rw[ja hk,hg]
  refine⟨k,rfl,hk,ws[k],bX,_,_,qb vB vL,k,rfl,hk,ws[k],bX,k,rfl,hk,ws[k],bX,v,b1,e1,⟨by rw[aaw],by omega,rfl,rfl⟩,?_⟩;have tz:wI (base+(n:Int))=base+(n:Int):=cX (by omega) (by omega);rw[gq hk (by omega),tz,e2];have pQ:(⟨s.ts++[⟨ws[k],base+(n:Nat),i,fx ws[k] m⟩],up ws[k] true s.eQ⟩:Nu).ts.length=s.ts.length+1:=by simp
  have ze:jh (⟨s.ts++[⟨ws[k],base+(n:Nat),i,fx ws[k] m⟩],up ws[k] true s.eQ⟩:Nu).ts=jh s.ts++[J ws[k],J (base+(n:Int)),J i,J (fx ws[k] m)]:=ajX _ _;rw[pQ]at next
  simp only[sM,ze]at next
  exact next
theorem aqM(hk:k<ws.length)(hw:ws.length<5000)(nX:0<=base)(lI:base<=4096)(ht:s.ts.length<60000)(Ew:∀t∈s.ts,base+1<=t.cr∧t.cr<=base+s.ts.length){N:Nat}(hN:pd (nb base i ws s.ts) (s.ts.length+1) 1=N)
 (next:bJ Z 113 135 1 (.ad 1 az.length 4) (sb cs az) (aQ [(0,.bE 0 off len 0 6 false),(1,J base),(5,.aH 1),(9,.ad 2 (⟨s.ts++[⟨ws[k],base+(N:Nat),i,fx ws[k] m⟩],up ws[k] true s.eQ⟩:Nu).ts.length 4),(10,.aH 3),(11,J i),(12,.ad 4 ws.length 1),(13,J ((k+1:Nat):Int))]) (an [(0,.aF cs 50),(1,gy m),(2,sM (⟨s.ts++[⟨ws[k],base+(N:Nat),i,fx ws[k] m⟩],up ws[k] true s.eQ⟩:Nu).ts),(3,mb (⟨s.ts++[⟨ws[k],base+(N:Nat),i,fx ws[k] m⟩],up ws[k] true s.eQ⟩:Nu).eQ),(4,bp ws 3)] 5) (ao Z 113 3)):
 ∀p:Nat×List Bool,(p.1<=s.ts.length∧p.2.length=s.ts.length+2∧(s.ts.drop p.1).foldl (tR base i ws) p.2=nb base i ws s.ts)->
 bJ Z 113 135 1 (.ad 1 az.length 4) (sb cs az) (aQ [(0,.bE 0 off len 0 6 false),(1,J base),(5,.aH 1),(9,.ad 2 s.ts.length 4),(10,.aH 3),(11,J i),(12,.ad 4 ws.length 1),(13,J (k:Int)),(14,.bE 5 0 p.2.length p.2.length 1 true),(15,J (p.1:Int))]) (xq cs m s.ts s.eQ ws (na p.2)) (ao Z 113 4):=by
 refine cV (fun p=>s.ts.length-p.1) _ _ _ _ ?_;rintro⟨j,tk⟩ ⟨hj,hl,hf⟩ ih;simp only at hj hl hf ih⊢;refine hD yH 2000 rC (by kernel_rfl) ?_;rw[aqL];refine aI.2 ⟨fun aj=>?_,fun aS=>?_⟩
 ·have aj:j<s.ts.length:=by simpa using aj
  have bX:=ajW aj;have LB:=Rp aj 1 (by omega);have hn:=Ew s.ts[j] (Fs aj);rw[dN aj,iy]at hf;generalize s.ts[j]=t at bX LB hn hf;refine⟨j,rfl,aj,t.x,t.cr,t.qR,t.l_,bX,(t,i,ws),⟨rfl,rfl,by show ws.length<100000;omega⟩,?_⟩;rw[gq aj (by omega)];refine aI.2 ⟨fun hu=>?_,fun hu=>?_⟩
  ·have hu:lV t i ws=true:=hu;rw[tR,aY hu]at hf;have e1:wI (t.cr-base)=(((t.cr-base).toNat:Nat):Int):=by rw[cX (by omega) (by omega),Int.toNat_of_nonneg (by omega)]
   have hx:(t.cr-base).toNat<tk.length:=by omega
   have hp:fY (na tk) (0+(t.cr-base).toNat*1) [.ai true]=na (tk.set (t.cr-base).toNat true):=by rw[jI,Nat.mul_one];exact aoX _ hx
   refine⟨j,rfl,aj,t.cr,LB,(t.cr-base).toNat,e1,hx,by rw[apI];omega,?_⟩;rw[hp];have nx:=ih (j+1,tk.set (t.cr-base).toNat true) ⟨by simp;omega,by simp only[List.length_set];exact hl,hf⟩ (by simp;omega);simp only[List.length_set]at nx;exact nx
  ·have hu:lV t i ws=false:=hu;rw[tR,aB (by rw[hu];simp)]at hf;exact ih (j+1,tk) ⟨by simp;omega,hl,hf⟩ (by simp;omega)
 ·have aS:s.ts.length<=j:=by simpa using aS
  rw[eT aS]at hf;have hf:tk=nb base i ws s.ts:=hf;have jx:=aa8 base i ws s.ts;rw[←hf]at jx hN;exact aqO hk hw nX lI ht hl jx next (s.ts.length+1,1) ⟨by simp,by simp,fun q q1 q2=>by simp at q2;omega,hN⟩
theorem aaX(tk:List Bool):∀f n,n<=pd tk f n∧pd tk f n<=n+f
 |0,n=>⟨fB _,fB _⟩
 |f+1,n=>by have:=aaX tk f (n+1);unfold pd;split<;>omega
theorem ae7:∀n:Nat,iU [.ai false] n=na (List.replicate n false)
 |0=>rfl
 |n+1=>by simp[iU,ae7 n,na,List.replicate_succ]
def Nu.ok(base:Int)(s:Nu):Prop:=∀t∈s.ts,base+1<=t.cr∧t.cr<=base+s.ts.length
theorem Nu.IY{base:Int}{last:LP}{k:Int}{ws:LI}{s:Nu}{w:Int}(h:s.ok base):(s.gG base last k ws w).ok base∧(s.gG base last k ws w).ts.length<=s.ts.length+1:=by
 unfold Nu.gG;split
 ·exact⟨h,by omega⟩
 ·refine⟨fun t ht=>?_,by simp⟩;obtain⟨n0,a1,a2,a3⟩:=aa8 base k ws s.ts;have cI:pd (nb base k ws s.ts) (s.ts.length+1) 1<=s.ts.length+1:=by
   have key:∀f n,n<=n0->n0<=n+f->pd (nb base k ws s.ts) f n<=n0:=by
    intro f;induction f with
    |zero=>intro n h1 h2;exact h1
    |succ f ih=>
     intro n h1 h2;unfold pd;split
     ·rename_i hb;have:n≠n0:=by rintro rfl;rw[a3]at hb;cases hb
      exact ih (n+1) (by omega) (by omega)
     ·exact h1
   have:=key (s.ts.length+1) 1 a1 (by omega);omega
  have aS:=(aaX (nb base k ws s.ts) (s.ts.length+1) 1).1;simp only[bI,dv,fk];rcases List.mem_append.1 ht with ht|ht
  ·have:=h t ht;omega
  ·simp at ht;subst ht;simp only;omega
theorem aqK(hw:ws.length<5000)(nX:0<=base)(lI:base<=4096){sF:Nu}
 (next:bJ Z 113 135 1 (.ad 1 az.length 4) (sb cs az) (I7 off len false base sF.ts.length (wI (i+1))) (Hi cs m sF.ts sF.eQ) (ao Z 113 2)):
 ∀p:Nat×Nu,(p.1<=ws.length∧p.2.ok base∧p.2.ts.length+(ws.length-p.1)<60000∧(ws.drop p.1).foldl (Nu.gG base m i ws) p.2=sF)->
 bJ Z 113 135 1 (.ad 1 az.length 4) (sb cs az) (Cn off len false base p.2.ts.length i ws.length (p.1:Int)) (D0 cs m p.2.ts p.2.eQ ws) (ao Z 113 3):=by
 refine cV (fun p=>ws.length-p.1) _ _ _ _ ?_;rintro⟨k,s⟩ ⟨hk,bn,bF,hf⟩ ih;simp only at hk bn bF hf ih⊢;refine hD yH 2000 rC (by kernel_rfl) ?_;rw[aqJ];refine aI.2 ⟨fun aj=>?_,fun aS=>?_⟩
 ·have aj:k<ws.length:=by simpa using aj
  rw[dN aj,iy]at hf;have hg:ws.getD k 0=ws[k]:=by simp[List.getD,jn aj]
  have bX:bQ Z 3 (aX ws) (k*1)=some (J ws[k]):=by rw[ja aj,hg]
  have hso:=Nu.IY (last:=m) (k:=i) (ws:=ws) (w:=ws[k]) bn;have nx:=ih (k+1,s.gG base m i ws ws[k]) ⟨by simp;omega,hso.1,by have:=hso.2;simp only;omega,hf⟩ (by simp;omega);have skip:(ws[k]<=base∨du s.eQ ws[k])->bJ Z 113 135 1 (.ad 1 az.length 4) (sb cs az) (Cn off len false base s.ts.length i ws.length ((k+1:Nat):Int)) (D0 cs m s.ts s.eQ ws) (ao Z 113 3):=by intro hn;rw[Nu.gG,aY hn]at nx;exact nx
  refine⟨k,rfl,aj,ws[k],bX,?_⟩;rw[gq aj (by omega)];refine aI.2 ⟨fun h=>skip (.inl (by simpa using h)),fun h=>?_⟩;obtain⟨b,b1,e1,e2⟩:=Ut s.eQ ws[k];refine⟨k,rfl,aj,ws[k],bX,b,b1,e1,aI.2 ⟨fun hb=>skip (.inr (by rw[e2];exact hb)),fun hb=>?_⟩⟩;have hn:¬(ws[k]<=base∨du s.eQ ws[k]):=by
   rintro(h2|h2)
   ·simp at h;omega
   ·rw[e2,hb]at h2;cases h2
  rw[Nu.gG,aB hn]at nx;have e3:wI (Int.ofNat s.ts.length+2)=((s.ts.length+2:Nat):Int):=by rw[cX (by simp only[k_];omega) (by simp only[k_];omega)];simp
  refine⟨s.ts.length+2,e3,by omega,?_⟩;rw[ae7];have aaR:=aqM (i:=i) (m:=m) (cs:=cs) (off:=off) (len:=len) (az:=az) aj hw nX lI (by omega) bn rfl nx (0,List.replicate (s.ts.length+2) false) ⟨by simp,by simp,by simp[nb]⟩;simp only[List.length_replicate]at aaR;exact aaR
 ·have aS:ws.length<=k:=by simpa using aS
  rw[eT aS]at hf;have hf:s=sF:=hf;subst hf;exact next
end
theorem RK{base:Int}{last:LP}{k:Int}{ws:LI}:∀(l:LI) (s:Nu),s.ok base->(l.foldl (Nu.gG base last k ws) s).ok base∧(l.foldl (Nu.gG base last k ws) s).ts.length<=s.ts.length+l.length
 |[],s,h=>⟨h,by simp⟩
 |w::l,s,h=>by have h1:=Nu.IY (last:=last) (k:=k) (ws:=ws) (w:=w) h;have h2:=RK (last:=last) (k:=k) (ws:=ws) l _ h1.1;simp only[iy,dv];exact⟨h2.1,by omega⟩
section
variable{p:h_}{base:Int}{az:List Tm}
theorem aqI(hp:p.ok)(hl:p.l.length<12000)(nX:0<=base)(lI:base<=4096){m:LP}:
 ∀q:Nat×Nu,(q.1<=p.l.length∧q.2.ok base∧q.2.ts.length<=2*q.1∧(Nu.oY base m q.1 q.2 (p.l.drop q.1)).ts=az)->
 bJ Z 113 135 1 (.ad 1 az.length 4) (sb p.cs az) (I7 p.fW p.l.length false base q.2.ts.length (q.1:Int)) (Hi p.cs m q.2.ts q.2.eQ) (ao Z 113 2):=by
 refine cV (fun q=>p.l.length-q.1) _ _ _ _ ?_;rintro⟨i,s⟩ ⟨hi,bn,bF,hf⟩ ih;simp only at hi bn bF hf ih⊢;refine hD yH 2000 rC (by kernel_rfl) ?_;rw[aqH];refine aI.2 ⟨fun aj=>?_,fun aS=>?_⟩
 ·have aj:i<p.l.length:=by simpa using aj
  have bX:=p.get hp aj;rw[dN aj,Nu.oY]at hf;generalize p.l[i]=x at bX hf;obtain⟨o,r,a,n,s',ar⟩:=x;have hw:=Xi ⟨o,r,a,n,s',ar⟩;have LK:=RK (base:=base) (last:=m) (k:=(i:Int)) (ws:=bj ⟨o,r,a,n,s',ar⟩) (bj ⟨o,r,a,n,s',ar⟩) s bn;have nx:=ih (i+1,(bj ⟨o,r,a,n,s',ar⟩).foldl (Nu.gG base m i (bj ⟨o,r,a,n,s',ar⟩)) s) ⟨by simp;omega,LK.1,by have:=LK.2;simp only;omega,hf⟩ (by simp;omega);simp only at nx;rw[←gq aj (by omega)]at nx;refine⟨i,rfl,aj,o,r,a,n,s',ar,bX,⟨o,r,a,n,s',ar⟩,⟨rfl,rfl⟩,?_⟩;exact aqK (i:=(i:Int)) (ws:=bj ⟨o,r,a,n,s',ar⟩) (by omega) nX lI nx (0,s) ⟨by simp,bn,by simp only;omega,by simp⟩
 ·have aS:p.l.length<=i:=by simpa using aS
  rw[eT aS]at hf;have hf:s.ts=az:=hf;subst hf;exact⟨rfl,rfl⟩
theorem afB{i:Nat}{rs:LI}(hr:rs.length<20000){m0:LP}(hi:i<12000)
 (next:bJ Z 113 135 1 (.ad 1 az.length 4) (sb p.cs az) (I5 p.fW p.l.length false base ((i+1:Nat):Int)) (an [(0,.aF p.cs 50),(1,gy (rs.foldl (fun m r=>up r (i:Int) m) m0))] 2) (ao Z 113 0)):
 ∀q:Nat×LP,(q.1<=rs.length∧(rs.drop q.1).foldl (fun m r=>up r (i:Int) m) q.2=rs.foldl (fun m r=>up r (i:Int) m) m0)->
 bJ Z 113 135 1 (.ad 1 az.length 4) (sb p.cs az) (I6 p.fW p.l.length false base (i:Int) rs.length (q.1:Int)) (an [(0,.aF p.cs 50),(1,gy q.2),(2,bp rs 3)] 3) (ao Z 113 1):=by
 refine cV (fun q=>rs.length-q.1) _ _ _ _ ?_;rintro⟨k,m⟩ ⟨hk,hf⟩ ih;simp only at hk hf ih⊢;refine hD yH 2000 rC (by kernel_rfl) ?_;rw[aqG];refine aI.2 ⟨fun aj=>?_,fun aS=>?_⟩
 ·have aj:k<rs.length:=by simpa using aj
  rw[dN aj,iy]at hf;have hg:rs.getD k 0=rs[k]:=by simp[List.getD,jn aj]
  refine⟨k,rfl,aj,rs[k],by rw[ja aj,hg],_,_,qb J vL,?_⟩;rw[gq aj (by omega)];exact ih (k+1,up rs[k] (i:Int) m) ⟨by simp;omega,hf⟩ (by simp;omega)
 ·have aS:rs.length<=k:=by simpa using aS
  rw[eT aS]at hf;have hf:m=rs.foldl (fun m r=>up r (i:Int) m) m0:=hf;rw[hf,gq (n:=i+1) (lR i) (by omega)];exact next
def aoS:List (Nat×Nat):=[(0,0),(1,1),(3,2),(2,3)]
theorem aoH(cs:LV)(o:Nat):(Option.rec (motive:=fun _=>Option AV) ((fun _=>none) ()) (fun val=>(fun val=>(fun x=>some (AV.au x)) val) val) (oN cs o ((fun x=>x.size) Z.types[50])))=bQ Z 50 cs o:=by kernel_rfl
theorem aqF(hp:p.ok)(hl:p.l.length<12000)(nX:0<=base)(lI:base<=4096)(ny:oi p.l base=az):
 ∀q:Nat×LP,(q.1<=p.l.length∧fw q.1 q.2 (p.l.drop q.1)=fw 0 [] p.l)->
 bJ Z 113 135 1 (.ad 1 az.length 4) (sb p.cs az) (I5 p.fW p.l.length false base (q.1:Int)) (an [(0,.aF p.cs 50),(1,gy q.2)] 2) (ao Z 113 0):=by
 refine cV (fun q=>p.l.length-q.1) _ _ _ _ ?_;rintro⟨i,m⟩ ⟨hi,hf⟩ ih;simp only at hi hf ih⊢;refine hD yH 2000 rC (by kernel_rfl) ?_;rw[aqE];refine aI.2 ⟨fun aj=>?_,fun aS=>?_⟩
 ·have aj:i<p.l.length:=by simpa using aj
  have bX:=p.get hp aj;rw[dN aj,fw]at hf;have next:=ih (i+1,(bo p.l[i]++bj p.l[i]).foldl (fun m r=>up r (i:Int) m) m) ⟨by simp;omega,hf⟩ (by simp;omega)
  simp only at next
  generalize p.l[i]=x at bX next
  obtain⟨o,r,a,n,s,ar⟩:=x;have hr:=Fw ⟨o,r,a,n,s,ar⟩;have hw:=FX ⟨o,r,a,n,s,ar⟩;refine⟨i,rfl,aj,o,r,a,n,s,ar,bX,i,rfl,aj,o,r,a,n,s,ar,bX,⟨o,r,a,n,s,ar⟩,⟨rfl,rfl⟩,(aoH _ _).trans bX,⟨o,r,a,n,s,ar⟩,⟨rfl,rfl⟩,by rw[sG];omega,fun h0=>⟨by omega,?_⟩,fun h1=>⟨⟨by rw[sG];omega,by omega,(Cb _).1,(Cb _).2⟩,?_⟩⟩
  ·have he:bj ⟨o,r,a,n,s,ar⟩=[]:=List.eq_nil_of_length_eq_zero h0;rw[he,lh]at next
   exact afB (by omega) (by omega) next (0,m) ⟨by simp,rfl⟩
  ·have nx:=afB (by rw[bI];omega) (by omega) next (0,m) ⟨by simp,rfl⟩
   simp only[bp,zT,bI]at nx;exact nx
 ·have aS:p.l.length<=i:=by simpa using aS
  rw[eT aS]at hf;have hf:m=fw 0 [] p.l:=hf;refine A' (n:=3) (l:=[(0,.aF p.cs 50),(1,gy m),(2,.bC [] 0 true)]) (T:=[(0,.bE 0 p.fW p.l.length 0 6 false),(1,J base),(5,.aH 1),(9,.bB),(10,.aH 2),(11,J 0)]) 4 179 [9] ?_ rfl (by kernel_rfl);refine dH.rU (by kernel_rfl) (m0:=1) (qa:=[0,1,3,2]) (l:=[0,1,5,9,10,11]) (ps:=aoS) (H2:=Hi p.cs m [] []) (t:=I7 p.fW p.l.length false base 0 0) (by kernel_rfl) (by kernel_rfl) ?_;exact aqI hp hl nX lI (0,⟨[],[]⟩) ⟨by simp,(fun t ht=>by cases ht),by simp,by rw[hf,jB];exact ny⟩
end
theorem JY:bm Z R4:=by refine de yH ?_;rintro⟨p,base⟩ args H ⟨rfl,rfl,hp,hl,nX,lI⟩;have hp:p.ok:=hp;refine eS yH 2000 rC 135 (by kernel_rfl) ?_;simp only[UA,gB];rw[aqP];exact aqF hp hl nX lI rfl (0,[]) ⟨by simp,by simp⟩
def u5(ts:List Tm)(i:a9):a9:=⟨i.op,qH ts i.r,qH ts i.a,i.n,i.cH,i.ar⟩
def vw(l:cn)(base:Int):cn×Int:=if kq l base then(l.map (u5 (oi l base)),0)else([],1)
def Qm:dp (h_×Int)where
 ba w A H:=A=[.bE 0 w.1.fW w.1.l.length 0 6 false,J w.2]∧H=gB w.1∧w.1.ok∧w.1.l.length<12000
 v w:=.aJ [.ad 1 (vw w.1.l w.2).1.length 6,J (vw w.1.l w.2).2]
 aN w:=an [(0,.aF w.1.cs 50),(1,c_ (vw w.1.l w.2).1)] 2
theorem ais:Qm.dx:=by rintro w w' A H ⟨h1,h2,h3,_⟩ ⟨k1,k2,k3,_⟩;rw[Fj h1 h2 h3 k1 k2 k3]
def R5:Ev.bz:=cz 74 (cM Qm ais cZ) R4
theorem afW(cs:LV)(off len:Nat)(base:Int)(L:LT)(Q:QT):
 b8 Z R4 (fun _=>[0,6,7,8]) L Q 1000 74 [.bE 0 off len 0 6 false,J base] (an [(0,.aF cs 50)] 1)=(
 ∃w:h_×Int,(([.bE 0 off len 0 6 false,J base]:LV)=[.bE 0 w.1.fW w.1.l.length 0 6 false,J w.2]∧an [(0,.aF cs 50)] 1=gB w.1∧w.1.ok)∧ah (!kq w.1.l w.2) (Q (.aJ [.bB,J 1]) (gB w.1)) (∃ae:h_×Int,(([.bE 0 off len 0 6 false,J base]:LV)=[.bE 0 ae.1.fW ae.1.l.length 0 6 false,J ae.2]∧gB w.1=gB ae.1∧ae.1.ok∧ae.1.l.length<12000∧(0:Int)<=ae.2∧ae.2<=4096)∧L (aQ [(0,.bE 0 off len 0 6 false),(6,.ad 1 (oi ae.1.l ae.2).length 4),(7,.bB),(8,J 0)]) (an [(0,.aF ae.1.cs 50),(1,sM (oi ae.1.l ae.2))] 2) (ao Z 74 0))):=by kernel_rfl
theorem at2(cs:LV)(off len:Nat)(ts:List Tm)(aN:cn)(i:Int)(L:LT)(Q:QT):
 cO Z R4 (fun _=>[0,6,7,8]) L Q 1000 74 1 (aQ [(0,.bE 0 off len 0 6 false),(6,.ad 1 ts.length 4),(7,.ad 2 aN.length 6),(8,J i)]) (ao Z 74 0) (an [(0,.aF cs 50),(1,sM ts),(2,c_ aN)] 3)=(
 ah (decide (i<Int.ofNat len)) (∃aD:Nat,i=(aD:Int)∧aD<len∧(∃n:Int,∃aL:Int,∃bD:Int,∃cf:Int,∃s:LN,∃cK:Int,bQ Z 50 cs (off+aD*6)=some (.au [J n,J aL,J bD,J cf,.aa s,J cK]:AV)∧(∃w:List Tm×Int,(([.ad 0 ts.length 4,J aL]:LV)=[.ad 0 w.1.length 4,J w.2]∧qt ts=qt w.1∧w.1.length<100000)∧(∃ae:List Tm×Int,(([.ad 0 ts.length 4,J bD]:LV)=[.ad 0 ae.1.length 4,J ae.2]∧qt w.1=qt ae.1∧ae.1.length<100000)∧((cw aN).length=aN.length*6∧aN.length+1<=65536∧true=true∧true=true)∧L (aQ [(0,.bE 0 off len 0 6 false),(6,.ad 1 ts.length 4),(7,.ad 2 (aN.length+1) 6),(8,J (wI (i+1)))]) (an [(0,.aF cs 50),(1,sM ae.1),(2,.aF (cw aN++[J n,J (qH w.1 w.2),J (qH ae.1 ae.2),J cf,.aa s,J cK]) 50)] 3) (ao Z 74 0))))) (Q (.aJ [.ad 1 aN.length 6,J 0]) (an [(0,.aF cs 50),(1,c_ aN)] 2))):=by kernel_rfl
theorem awe{l:cn}{base:Int}(h:kq l base=true):0<=base∧base<=4096:=by
 unfold kq at h;split at h
 ·cases h
 ·omega
theorem aft(base:Int)(last:LP):∀(l:cn) (k:Nat) (s:Nu),s.ok base->(Nu.oY base last k s l).ts.length<=s.ts.length+2*l.length
 |[],k,s,_=>by simp[Nu.oY]
 |i::l,k,s,h=>by have h1:=RK (base:=base) (last:=last) (k:=(k:Int)) (ws:=bj i) (bj i) s h;have h2:=aft base last l (k+1) _ h1.1;have h3:=Xi i;simp only[Nu.oY,dv];omega
theorem an0(l:cn)(base:Int):(oi l base).length<=2*l.length:=by have:=aft base (fw 0 [] l) l 0 ⟨[],[]⟩ (fun t ht=>by cases ht);simpa[oi]using this
theorem at1{p:h_}{ts:List Tm}(hp:p.ok)(hl:p.l.length<12000)(ht:ts.length<30000):
 ∀i:Nat,(i<=p.l.length)->
 bJ Z 74 42 1 (.aJ [.ad 1 (p.l.map (u5 ts)).length 6,J 0]) (an [(0,.aF p.cs 50),(1,c_ (p.l.map (u5 ts)))] 2)
  (aQ [(0,.bE 0 p.fW p.l.length 0 6 false),(6,.ad 1 ts.length 4),(7,.ad 2 ((p.l.take i).map (u5 ts)).length 6),(8,J (i:Int))]) (an [(0,.aF p.cs 50),(1,sM ts),(2,c_ ((p.l.take i).map (u5 ts)))] 3) (ao Z 74 0):=by
 refine cV (fun i=>p.l.length-i) _ _ _ _ ?_;rintro i hi ih;refine hD JY 1000 (fun _=>[0,6,7,8]) (by kernel_rfl) ?_;rw[at2];refine aI.2 ⟨fun aj=>?_,fun aS=>?_⟩
 ·have aj:i<p.l.length:=by simpa using aj
  have bX:=p.get hp aj;have next:=ih (i+1) (by omega) (by omega)
  rw[List.take_succ_eq_append_getElem aj,List.map_append]at next
  simp only[List.map_cons,List.map_nil]at next
  generalize p.l[i]=x at bX next
  obtain⟨o,r,a,n,s,ar⟩:=x;have bF:((p.l.take i).map (u5 ts)).length=i:=by simp;omega
  refine⟨i,rfl,aj,o,r,a,n,s,ar,bX,(ts,r),⟨rfl,rfl,by show ts.length<100000;omega⟩,(ts,a),⟨rfl,rfl,by show ts.length<100000;omega⟩,⟨by rw[xg],by omega,rfl,rfl⟩,?_⟩;rw[gq aj (by omega)];rw[bI]at next
  simp only[c_,aan]at next
  exact next
 ·have aS:p.l.length<=i:=by simpa using aS
  rw[List.take_of_length_le aS];exact⟨rfl,rfl⟩
theorem YJ:bm Z R5:=by
 refine de JY ?_;rintro⟨p,base⟩ args H ⟨rfl,rfl,hp,hl⟩;have hp:p.ok:=hp;have hl:p.l.length<12000:=hl;simp only[Qm,gB];cases hv:kq p.l base with
 |false=>
  have ha:vw p.l base=([],1):=by simp[vw,hv]
  rw[ha];refine Rt (n:=1) (l:=[(0,.aF p.cs 50)]) (t:=50) ?_ rfl (fB _);refine eS JY 1000 (fun _=>[0,6,7,8]) 42 (by kernel_rfl) ?_;rw[afW];exact⟨(p,base),⟨rfl,rfl,hp⟩,aI.2 ⟨fun _=>⟨rfl,rfl⟩,fun h=>by simp only[hv]at h;cases h⟩⟩
 |true=>
  have ha:vw p.l base=(p.l.map (u5 (oi p.l base)),0):=by simp[vw,hv]
  rw[ha];have hb:=awe hv;have hn:=an0 p.l base;refine eS JY 1000 (fun _=>[0,6,7,8]) 42 (by kernel_rfl) ?_;rw[afW];refine⟨(p,base),⟨rfl,rfl,hp⟩,aI.2 ⟨fun h=>(by simp only[hv]at h;cases h),fun _=>⟨(p,base),⟨rfl,rfl,hp,hl,hb.1,hb.2⟩,?_⟩⟩⟩;refine A' (n:=2) (l:=[(0,.aF p.cs 50),(1,sM (oi p.l base))]) (T:=[(0,.bE 0 p.fW p.l.length 0 6 false),(6,.ad 1 (oi p.l base).length 4),(7,.bB),(8,J 0)]) 6 50 [7] ?_ rfl (by kernel_rfl);exact at1 hp hl (by omega) 0 (by omega)
def iX:LP->LV
 |[]=>[]
 |p::l=>J p.1::J p.2::iX l
theorem Rm:∀l,(iX l).length=l.length*2
 |[]=>rfl
 |p::l=>by simp[iX,Rm l];omega
theorem aap:∀{l m:LP},iX l=iX m->l=m
 |[],[],_=>rfl
 |[],i::_,h=>by simp[iX]at h
 |i::_,[],h=>by simp[iX]at h
 |(a,b)::l,(c,d)::m,h=>by simp only[iX,List.cons.injEq,AV.ck.injEq,true_and]at h;rw[h.1,h.2.1,aap h.2.2]
theorem Rl:∀l m:LP,iX (l++m)=iX l++iX m
 |[],m=>rfl
 |t::l,m=>by simp[iX,Rl l m]
theorem ajR:∀l:LP,(iX l).all AV.dR=true∧(iX l).all iD=true
 |[]=>⟨rfl,rfl⟩
 |t::l=>by have:=ajR l;simp only[iX,List.all_cons,this.1,this.2,Bool.and_true];exact⟨rfl,rfl⟩
def mZ(l:LP):aZ:=.aF (iX l) 122
mutual
def lW(c:Int):LP->aK->LP
 |q,.mk k n _ l=>if k=0 then q++[(n,c)]else iP c q l
def iP(c:Int):LP->bH->LP
 |q,[]=>q
 |q,t::l=>iP c (lW c q t) l
end
mutual
theorem Ow(c:Int):∀(q:LP) (t:aK),(lW c q t).length<=q.length+cG t
 |q,.mk k n s l=>by
  unfold lW;split
  ·simp[cG]
  ·have:=Jk c q l;simp only[cG];omega
theorem Jk(c:Int):∀(q:LP) (l:bH),(iP c q l).length<=q.length+bA l
 |q,[]=>by simp[iP]
 |q,t::l=>by have h1:=Ow c q t;have h2:=Jk c (lW c q t) l;simp only[iP,bA];omega
end
def kF(l:LP):AH:=an [(0,mZ l)] 1
def BN(l:LP):AH:=an [(0,.b9 []),(1,mZ l)] 2
theorem abv{l m:LP}(h:kF l=kF m):l=m:=by have:=congrArg (fun H=>AH.bu H 0) h;simp only[kF,dy]at this;exact aap (aZ.aF.inj (dz this)).1
theorem ax8(l:LP):Mv (kF l) (BN l) 0:=ss (l':=[(0,.b9 [])]) rfl rfl rfl
def Xj(N:Nat):dp (LP×aK×Int)where
 ba w A H:=A=[.ad 0 w.1.length 2,.au (cR w.2.1),J w.2.2]∧H=kF w.1∧eR w.2.1∧cG w.2.1<N∧w.1.length+cG w.2.1<60000
 v w:=.ad 1 (lW w.2.2 w.1 w.2.1).length 2
 aN w:=BN (lW w.2.2 w.1 w.2.1)
theorem ahy(N:Nat):(Xj N).dx:=by rintro⟨q,t,c⟩ ⟨q',t',c'⟩ A H ⟨h1,h2,_⟩ ⟨k1,k2,_⟩;have e:=abv (h2.symm.trans k2);rw[h1]at k1;simp only[List.cons.injEq,AV.au.injEq,AV.ck.injEq,true_and,and_true]at k1 e;rw[e,uz k1.2.1,k1.2.2]
def Gj(N:Nat):Ev.bz:=cz 109 (cM (Xj N) (ahy N) cZ) R5
def Np(l:LP)(k n:Int)(s:LN)(cs:LV)(len:Nat):AH:=an [(0,.b9 []),(1,mZ l),(2,.aw [J k,J n,.aa s,.ax cs len 4] 42)] 3
abbrev N6 x0 x1 x2:=aQ [(0,.ad x0 x1 2),(2,J x2),(4,.ab 1 0),(7,J 0)]
theorem aqn(q:LP)(k n c:Int)(s:LN)(cs:LV)(len:Nat)(N:Nat)(L:LT)(Q:QT):
 b8 Z (Gj N) (fun _=>[0,2,4,7]) L Q 1000 109 [.ad 0 q.length 2,.au [J k,J n,.aa s,.ax cs len 4],J c] (kF q)=(
 ah (k==0) (((iX q).length=q.length*2∧q.length+1<=65536∧true=true∧true=true)∧Q (.ad 1 (q.length+1) 2) (an [(0,.b9 []),(1,.aF (iX q++[J n,J c]) 122)] 2)) (L (N6 0 q.length c) (an [(0,mZ q),(1,.aw [J k,J n,.aa s,.ax cs len 4] 42)] 2) (ao Z 109 0))):=by kernel_rfl
abbrev N7 x0 x1 x2:=aQ [(0,.ad 1 x0 2),(2,J x1),(4,.ab 2 0),(7,J x2)]
theorem aqo(q:LP)(k n c i:Int)(s:LN)(cs:LV)(len:Nat)(N:Nat)(L:LT)(Q:QT):
 cO Z (Gj N) (fun _=>[0,2,4,7]) L Q 1000 109 1 (N7 q.length c i) (ao Z 109 0) (Np q k n s cs len)=(
 ah (decide (i<Int.ofNat len)) (∃aD:Nat,i=(aD:Int)∧aD<len∧(∃aL:Int,∃bD:Int,∃db:LN,∃cA:LV,∃cq:Nat,((cs.drop (aD*4)).take 4:LV)=[J aL,J bD,.aa db,.ax cA cq 4]∧(∃w:List (Int×Int)×aK×Int,(([.ad 0 q.length 2,.au [J aL,J bD,.aa db,.ax cA cq 4],J c]:LV)=[.ad 0 w.1.length 2,.au (cR w.2.1),J w.2.2]∧kF q=kF w.1∧eR w.2.1∧cG w.2.1<N∧w.1.length+cG w.2.1<60000)∧L (N7 (lW w.2.2 w.1 w.2.1).length c (wI (i+1))) (Np (lW w.2.2 w.1 w.2.1) k n s cs len) (ao Z 109 0)))) (Q (.ad 1 q.length 2) (BN q))):=by kernel_rfl
theorem aqm{l:bH}{N:Nat}{k n c:Int}{s:LN}{az:LP}(hS:bm Z (Gj N))(hl:eF l.length)(ho:gU l)(hN:bA l<N):
 ∀p:Nat×LP,(p.1<=l.length∧p.2.length+bA (l.drop p.1)<60000∧iP c p.2 (l.drop p.1)=az)->
 bJ Z 109 34 1 (.ad 1 az.length 2) (BN az) (N7 p.2.length c (p.1:Int)) (Np p.2 k n s (aP l) l.length) (ao Z 109 0):=by
 refine cV (fun p=>l.length-p.1) _ _ _ _ ?_;rintro⟨i,q⟩ ⟨hi,hb,hf⟩ ih;simp only at hi hb hf ih⊢;refine hD hS 1000 (fun _=>[0,2,4,7]) (by kernel_rfl) ?_;rw[aqo];refine aI.2 ⟨fun aj=>?_,fun aS=>?_⟩
 ·have aj:i<l.length:=by simpa using aj
  rw[dN aj,iP]at hf;rw[dN aj,bA]at hb;obtain⟨k',n',s',ts,⟨hf,hb⟩,-,bX,bn,cJ⟩:=Cd aj ho hN (P:=fun u=>iP c (lW c q u) (l.drop (i+1))=az∧q.length+(cG u+bA (l.drop (i+1)))<60000) ⟨hf,hb⟩;have cI:=Ow c q (.mk k' n' s' ts);refine⟨i,rfl,aj,k',n',s',_,_,bX,(q,.mk k' n' s' ts,c),⟨rfl,rfl,bn,cJ,by simp only;omega⟩,?_⟩;rw[je hl aj];exact ih (i+1,lW c q (.mk k' n' s' ts)) ⟨by simp;omega,by simp only;omega,hf⟩ (by simp;omega)
 ·have aS:l.length<=i:=by simpa using aS
  rw[eT aS,iP]at hf;subst hf;exact⟨rfl,rfl⟩
def aoR:List (Nat×Nat):=[(0,0),(2,1),(1,2)]
def acQ(q:LP)(k n:Int)(s:LN)(cs:LV)(len:Nat):List (Nat×aZ):=[(0,mZ q),(1,.aw [J k,J n,.aa s,.ax cs len 4] 42)]
def adh(q:LP)(k n:Int)(s:LN)(cs:LV)(len:Nat):List (Nat×aZ):=[(0,.b9 []),(1,.aw [J k,J n,.aa s,.ax cs len 4] 42),(2,mZ q)]
theorem anI(q:LP)(k n:Int)(s:LN)(cs:LV)(len:Nat):Mv (an (acQ q k n s cs len) 2) (an (adh q k n s cs len) 3) 0:=
 ss (l':=[(0,.b9 []),(1,.aw [J k,J n,.aa s,.ax cs len 4] 42)]) rfl rfl rfl
theorem avn(q:Nat)(c:Int)(i:Nat)(a':AV)(h:(N6 2 q c).bV i=some a'):
 ∃a,(N6 0 q c).bV i=some a∧fi (lN 0 2) a=some a':=by
 rw[nE]at h;rw[nE];simp only[wh]at h⊢;split at h
 ·rename_i h0;cases h;exact⟨_,by rw[aY h0],by simp[fi,lN]⟩
 ·rename_i h0;rw[aB h0];split at h
  ·rename_i h1;cases h;exact⟨_,by rw[aY h1],by simp[fi]⟩
  ·rename_i h1;rw[aB h1];split at h
   ·rename_i h2;cases h;exact⟨_,by rw[aY h2],by simp[fi,lN]⟩
   ·rename_i h2;rw[aB h2];split at h
    ·rename_i h3;cases h;exact⟨_,by rw[aY h3],by simp[fi]⟩
    ·cases h
theorem afA{N:Nat}{q:LP}{k n c:Int}{s:LN}{l:bH}(hS:bm Z (Gj N))(ho:eR (.mk k n s l))(hN:bA l<N)(hb:q.length+(1+bA l)<60000):
 dT Z 109 [.ad 0 q.length 2,.au [J k,J n,.aa s,.ax (aP l) l.length 4],J c] (kF q) (.ad 1 (lW c q (.mk k n s l)).length 2) (BN (lW c q (.mk k n s l))):=by
 refine eS hS 1000 (fun _=>[0,2,4,7]) 34 (by kernel_rfl) ?_;rw[aqn];refine aI.2 ⟨fun hk=>?_,fun hk=>?_⟩
 ·have hk:k=0:=by simpa using hk
  have e:lW c q (.mk k n s l)=q++[(n,c)]:=by simp[lW,hk]
  rw[e];refine⟨⟨Rm q,by omega,rfl,rfl⟩,by simp,?_⟩;simp only[BN,mZ,Rl];rfl
 ·have hk:k≠0:=by simpa using hk
  have e:lW c q (.mk k n s l)=iP c q l:=by simp[lW,hk]
  rw[e];refine uK (H:=an (acQ q k n s (aP l) l.length) 2) (H':=an (adh q k n s (aP l) l.length) 3) (t':=N6 2 q.length c) (g:=0) ?_ (anI q k n s (aP l) l.length) (by kernel_rfl) (fun i a' hi=>avn _ _ i a' hi);refine dH.rU (by kernel_rfl) (m0:=1) (qa:=[2,1]) (l:=[0,2,4,7]) (ps:=aoR) (H2:=Np q k n s (aP l) l.length) (t:=N7 q.length c 0) (by kernel_rfl) (by kernel_rfl) ?_;exact aqm hS ho.2.1 ho.2.2 hN (0,q) ⟨by simp,by simp only[jB];omega,by simp⟩
theorem ahN:∀N,bm Z (Gj N):=by
 refine BZ (e:=Xj) (h1:=ahy) YJ ?_ ?_
 ·rintro⟨q,t,c⟩ args H ⟨_,_,_,h,_⟩;omega
 ·rintro N hS ⟨q,⟨k,n,s,l⟩,c⟩ args H ⟨rfl,rfl,ho,hN,hb⟩;simp only[cG]at hN hb;exact afA hS ho (by omega) hb
def ahx:dp (LP×aK×Int)where
 ba w A H:=A=[.ad 0 w.1.length 2,.au (cR w.2.1),J w.2.2]∧H=kF w.1∧eR w.2.1∧w.1.length+cG w.2.1<60000
 v w:=.ad 1 (lW w.2.2 w.1 w.2.1).length 2
 aN w:=BN (lW w.2.2 w.1 w.2.1)
theorem awM:ahx.dx:=by rintro⟨q,t,c⟩ ⟨q',t',c'⟩ A H ⟨h1,h2,_⟩ ⟨k1,k2,_⟩;have e:=abv (h2.symm.trans k2);rw[h1]at k1;simp only[List.cons.injEq,AV.au.injEq,AV.ck.injEq,true_and,and_true]at k1 e;rw[e,uz k1.2.1,k1.2.2]
def R6:Ev.bz:=cz 109 (cM ahx awM cZ) R5
theorem Gk:bm Z R6:=by refine de YJ ?_;rintro⟨q,⟨k,n,s,l⟩,c⟩ args H ⟨rfl,rfl,ho,hb⟩;simp only[cG]at hb;exact afA (ahN (bA l+1)) ho (by omega) hb
def oL(g:gH):Bool:=decide (g.cS=2∨g.cS=3∨g.cS=4)
def uG(c:Nat)(q:LP)(g:gH):LP:=if oL g then iP c q g.cx++[(g.gE,(c:Int))]else iP c q g.cx
def x_:Nat->LP->cY->LP
 |_,q,[]=>q
 |c,q,g::gs=>x_ (if g.cS=1 then c+1 else c) (uG c q g) gs
def BV(f:bg):LP:=x_ 0 (iP 0 [] f.aO) f.aA
def e8:cY->Nat
 |[]=>0
 |g::l=>bA g.cx+1+e8 l
def U_:dp bg where
 ba f A H:=A=[.au (ft f)]∧H=aq∧hJ f∧bA f.aO+e8 f.aA<50000
 v f:=.ad 0 (BV f).length 2
 aN f:=kF (BV f)
theorem aoL:U_.dx:=by rintro f f' A H ⟨h1,_⟩ ⟨h3,_⟩;rw[h1]at h3;simp only[List.cons.injEq,AV.au.injEq,and_true]at h3;rw[vG _ _ h3]
def R7:Ev.bz:=cz 68 (cM U_ aoL cZ) R6
def zB:Nat->LN:=kg [(3,[1,3,4]),(8,[1,3,5,6]),(12,[1,3,5,6,7,8])]
def mP(nm:LN)(ar aC:Int)(cs:LV)(len:Nat)(gs:LV)(gl:Nat):aZ:=.aw [.aa nm,J ar,J aC,.ax cs len 4,.ax gs gl 6] 27
theorem at0(nm:LN)(ar aC:Int)(cs:LV)(len:Nat)(gs:LV)(gl:Nat)(L:LT)(Q:QT):
 b8 Z R6 zB L Q 1000 68 [.au [.aa nm,J ar,J aC,.ax cs len 4,.ax gs gl 6]] aq=(
 L (aQ [(1,.ab 0 0),(3,.bB),(4,J 0)]) (fH nm ar aC cs len gs gl) (ao Z 68 0)):=by kernel_rfl
abbrev sL x0 x1 x2:=aQ [(1,.ab 0 0),(3,.ad 1 x0 2),(5,J x1),(6,J x2)]
theorem atU(nm:LN)(ar aC:Int)(cs:LV)(len:Nat)(gs:LV)(gl:Nat)(q:LP)(i:Int)(L:LT)(Q:QT):
 cO Z R6 zB L Q 1000 68 0 (aQ [(1,.ab 0 0),(3,.ad 1 q.length 2),(4,J i)]) (ao Z 68 0) (an [(0,mP nm ar aC cs len gs gl),(1,mZ q)] 2)=(
 ah (decide (i<Int.ofNat len)) (∃aD:Nat,i=(aD:Int)∧aD<len∧(∃n:Int,∃aL:Int,∃s:LN,∃cA:LV,∃cq:Nat,((cs.drop (aD*4)).take 4:LV)=[J n,J aL,.aa s,.ax cA cq 4]∧(∃w:List (Int×Int)×aK×Int,(([.ad 0 q.length 2,.au [J n,J aL,.aa s,.ax cA cq 4],J 0]:LV)=[.ad 0 w.1.length 2,.au (cR w.2.1),J w.2.2]∧kF q=kF w.1∧eR w.2.1∧w.1.length+cG w.2.1<60000)∧L (aQ [(1,.ab 0 0),(3,.ad 1 (lW w.2.2 w.1 w.2.1).length 2),(4,J (wI (i+1)))]) (an [(0,mP nm ar aC cs len gs gl),(1,mZ (lW w.2.2 w.1 w.2.1))] 2) (ao Z 68 0)))) (L (sL q.length 0 0) (an [(0,mP nm ar aC cs len gs gl),(1,mZ q)] 2) (ao Z 68 1))):=by kernel_rfl
abbrev N8 x0 x1 x2 x3:=aQ [(1,.ab 0 0),(3,.ad 1 x0 2),(5,J x1),(6,J x2),(7,.ab 2 0),(8,J x3)]
theorem atW(nm:LN)(ar aC:Int)(cs:LV)(len:Nat)(gs:LV)(gl:Nat)(q:LP)(c i:Int)(L:LT)(Q:QT):
 cO Z R6 zB L Q 1000 68 0 (sL q.length c i) (ao Z 68 1) (an [(0,mP nm ar aC cs len gs gl),(1,mZ q)] 2)=(
 ah (decide (i<Int.ofNat gl)) (∃aD:Nat,i=(aD:Int)∧aD<gl∧(∃n:Int,∃s:LN,∃aL:Int,∃bD:Int,∃cA:LV,∃cq:Nat,∃cf:Int,((gs.drop (aD*6)).take 6:LV)=[J n,.aa s,J aL,J bD,.ax cA cq 4,J cf]∧L (N8 q.length c i 0) (an [(0,mP nm ar aC cs len gs gl),(1,mZ q),(2,.aw [J n,.aa s,J aL,J bD,.ax cA cq 4,J cf] 46)] 3) (ao Z 68 2))) (Q (.ad 0 q.length 2) (kF q))):=by kernel_rfl
theorem atY(nm:LN)(ar aC:Int)(cs:LV)(len:Nat)(gs:LV)(gl:Nat)(q:LP)(c i j:Int)(k:Int)(ki:LN)(jP j8:Int)(ls:LV)(ll:Nat)(v:Int)(L:LT)(Q:QT):
 cO Z R6 zB L Q 1000 68 0 (N8 q.length c i j) (ao Z 68 2) (an [(0,mP nm ar aC cs len gs gl),(1,mZ q),(2,.aw [J k,.aa ki,J jP,J j8,.ax ls ll 4,J v] 46)] 3)=(
 ah (decide (j<Int.ofNat ll)) (∃aD:Nat,j=(aD:Int)∧aD<ll∧(∃n:Int,∃aL:Int,∃s:LN,∃cA:LV,∃cq:Nat,((ls.drop (aD*4)).take 4:LV)=[J n,J aL,.aa s,.ax cA cq 4]∧(∃w:List (Int×Int)×aK×Int,(([.ad 0 q.length 2,.au [J n,J aL,.aa s,.ax cA cq 4],J c]:LV)=[.ad 0 w.1.length 2,.au (cR w.2.1),J w.2.2]∧kF q=kF w.1∧eR w.2.1∧w.1.length+cG w.2.1<60000)∧L (N8 (lW w.2.2 w.1 w.2.1).length c i (wI (j+1))) (an [(0,mP nm ar aC cs len gs gl),(1,mZ (lW w.2.2 w.1 w.2.1)),(2,.aw [J k,.aa ki,J jP,J j8,.ax ls ll 4,J v] 46)] 3) (ao Z 68 2)))) (ah (k==2) (((iX q).length=q.length*2∧q.length+1<=65536∧true=true∧true=true)∧ah (k==1) (L (sL (q.length+1) (wI (c+1)) (wI (i+1))) (an [(0,mP nm ar aC cs len gs gl),(1,.aF (iX q++[J v,J c]) 122)] 2) (ao Z 68 1)) (L (sL (q.length+1) c (wI (i+1))) (an [(0,mP nm ar aC cs len gs gl),(1,.aF (iX q++[J v,J c]) 122)] 2) (ao Z 68 1))) (ah (k==3) (((iX q).length=q.length*2∧q.length+1<=65536∧true=true∧true=true)∧ah (k==1) (L (sL (q.length+1) (wI (c+1)) (wI (i+1))) (an [(0,mP nm ar aC cs len gs gl),(1,.aF (iX q++[J v,J c]) 122)] 2) (ao Z 68 1)) (L (sL (q.length+1) c (wI (i+1))) (an [(0,mP nm ar aC cs len gs gl),(1,.aF (iX q++[J v,J c]) 122)] 2) (ao Z 68 1))) (ah (k==4) (((iX q).length=q.length*2∧q.length+1<=65536∧true=true∧true=true)∧ah (k==1) (L (sL (q.length+1) (wI (c+1)) (wI (i+1))) (an [(0,mP nm ar aC cs len gs gl),(1,.aF (iX q++[J v,J c]) 122)] 2) (ao Z 68 1)) (L (sL (q.length+1) c (wI (i+1))) (an [(0,mP nm ar aC cs len gs gl),(1,.aF (iX q++[J v,J c]) 122)] 2) (ao Z 68 1))) (ah (k==1) (L (sL q.length (wI (c+1)) (wI (i+1))) (an [(0,mP nm ar aC cs len gs gl),(1,mZ q)] 2) (ao Z 68 1)) (L (sL q.length c (wI (i+1))) (an [(0,mP nm ar aC cs len gs gl),(1,mZ q)] 2) (ao Z 68 1))))))):=by kernel_rfl
theorem G':∀l:cY,l.length<=e8 l
 |[]=>by simp
 |g::l=>by have:=G' l;simp only[e8,dv];omega
section
variable{nm:LN}{ar aC:Int}{cs:LV}{len:Nat}{gs:LV}{gl:Nat}{az:LP}
theorem atZ{c i:Nat}{k:Int}{ki:LN}{jP j8:Int}{ls:bH}{v:Int}{q0:LP}(hc:c<60000)(hi:i<60000)(hl:eF ls.length)(ho:gU ls)
 (hb:(iP c q0 ls).length+1<60000)
 (next:bJ Z 68 76 0 (.ad 0 az.length 2) (kF az) (sL (uG c q0 ⟨k,⟨ki,jP,j8⟩,ls,v⟩).length ((if k=1 then c+1 else c:Nat):Int) ((i+1:Nat):Int)) (an [(0,mP nm ar aC cs len gs gl),(1,mZ (uG c q0 ⟨k,⟨ki,jP,j8⟩,ls,v⟩))] 2) (ao Z 68 1)):
 ∀p:Nat×LP,(p.1<=ls.length∧p.2.length+bA (ls.drop p.1)<60000∧iP c p.2 (ls.drop p.1)=iP c q0 ls)->
 bJ Z 68 76 0 (.ad 0 az.length 2) (kF az) (N8 p.2.length (c:Int) (i:Int) (p.1:Int)) (an [(0,mP nm ar aC cs len gs gl),(1,mZ p.2),(2,.aw [J k,.aa ki,J jP,J j8,.ax (aP ls) ls.length 4,J v] 46)] 3) (ao Z 68 2):=by
 refine cV (fun p=>ls.length-p.1) _ _ _ _ ?_;rintro⟨j,q⟩ ⟨hj,hq,hf⟩ ih;simp only at hj hq hf ih⊢;refine hD Gk 1000 zB (by kernel_rfl) ?_;rw[atY];refine aI.2 ⟨fun aj=>?_,fun aS=>?_⟩
 ·have aj:j<ls.length:=by simpa using aj
  obtain⟨k',n',s',ts,he,bX,bn⟩:=pz aj ho;rw[dN aj,he,iP]at hf;rw[dN aj,he,bA]at hq;have cI:=Ow c q (.mk k' n' s' ts);refine⟨j,rfl,aj,k',n',s',_,_,bX,(q,.mk k' n' s' ts,(c:Int)),⟨rfl,rfl,bn,by simp only;omega⟩,?_⟩;rw[je hl aj];exact ih (j+1,lW c q (.mk k' n' s' ts)) ⟨by simp;omega,by simp only;omega,hf⟩ (by simp;omega)
 ·have aS:ls.length<=j:=by simpa using aS
  rw[eT aS,iP]at hf;subst hf;rw[gq (n:=i+1) (lR i) (by omega),gq (n:=c+1) (lR c) (by omega)];have key:∀(b:Bool),oL ⟨k,⟨ki,jP,j8⟩,ls,v⟩=b->∀(c':Nat),(if k=1 then c+1 else c)=c'->bJ Z 68 76 0 (.ad 0 az.length 2) (kF az) (sL (bif b then(iP c q0 ls).length+1 else(iP c q0 ls).length) (c':Int) ((i+1:Nat):Int)) (an [(0,mP nm ar aC cs len gs gl),(1,.aF (bif b then iX (iP c q0 ls)++[J v,J (c:Int)]else iX (iP c q0 ls)) 122)] 2) (ao Z 68 1):=by
   intro b qu c' qv;rw[qv]at next
   cases b with
   |true=>
    have e:uG c q0 ⟨k,⟨ki,jP,j8⟩,ls,v⟩=iP c q0 ls++[(v,(c:Int))]:=by simp[uG,qu]
    rw[e,bI]at next
    simp only[mZ,Rl]at next
    exact next
   |false=>
    have e:uG c q0 ⟨k,⟨ki,jP,j8⟩,ls,v⟩=iP c q0 ls:=by simp[uG,qu]
    rw[e]at next
    exact next
  have bF:(iX (iP c q0 ls)).length=(iP c q0 ls).length*2∧(iP c q0 ls).length+1<=65536∧true=true∧true=true:=⟨Rm _,by omega,rfl,rfl⟩;have ops:∀x:Int,k=x->(x=2∨x=3∨x=4)->oL ⟨k,⟨ki,jP,j8⟩,ls,v⟩=true:=by intro x h1 h2;subst h1;simp[oL,h2]
  refine aI.2 ⟨fun h2=>⟨bF,?_⟩,fun h2=>aI.2 ⟨fun h3=>⟨bF,?_⟩,fun h3=>aI.2 ⟨fun h4=>⟨bF,?_⟩,fun h4=>?_⟩⟩⟩
  ·have h2:k=2:=by simpa using h2
   exact aI.2 ⟨fun h=>(by simp at h;omega),fun h=>key true (ops 2 h2 (.inl rfl)) c (by rw[aB (by omega)])⟩
  ·have h3:k=3:=by simpa using h3
   exact aI.2 ⟨fun h=>(by simp at h;omega),fun h=>key true (ops 3 h3 (.inr (.inl rfl))) c (by rw[aB (by omega)])⟩
  ·have h4:k=4:=by simpa using h4
   exact aI.2 ⟨fun h=>(by simp at h;omega),fun h=>key true (ops 4 h4 (.inr (.inr rfl))) c (by rw[aB (by omega)])⟩
  ·have hn:oL ⟨k,⟨ki,jP,j8⟩,ls,v⟩=false:=by simp at h2 h3 h4;simp[oL,h2,h3,h4]
   refine aI.2 ⟨fun h=>?_,fun h=>?_⟩
   ·have h:k=1:=by simpa using h
    exact key false hn (c+1) (by rw[aY h])
   ·have h:¬k=1:=by simpa using h
    exact key false hn c (by rw[aB h])
end
theorem abh(c:Nat)(q:LP)(g:gH):(uG c q g).length<=q.length+bA g.cx+1:=by
 have:=Jk c q g.cx;unfold uG;split
 ·simp;omega
 ·omega
section
variable{nm:LN}{ar aC:Int}{cs:LV}{len:Nat}{az:LP}{G:cY}
theorem atX(hl:eF G.length)(ho:∀g∈G,nF g)(hG:G.length<50000):
 ∀p:Nat×Nat×LP,(p.1<=G.length∧p.2.1<=p.1∧p.2.2.length+e8 (G.drop p.1)<50000∧x_ p.2.1 p.2.2 (G.drop p.1)=az)->
 bJ Z 68 76 0 (.ad 0 az.length 2) (kF az) (sL p.2.2.length (p.2.1:Int) (p.1:Int)) (an [(0,mP nm ar aC cs len (bN G) G.length),(1,mZ p.2.2)] 2) (ao Z 68 1):=by
 refine cV (fun p=>G.length-p.1) _ _ _ _ ?_;rintro⟨i,c,q⟩ ⟨hi,hc,hq,hf⟩ ih;simp only at hi hc hq hf ih⊢;refine hD Gk 1000 zB (by kernel_rfl) ?_;rw[atW];refine aI.2 ⟨fun aj=>?_,fun aS=>?_⟩
 ·have aj:i<G.length:=by simpa using aj
  obtain⟨k,ki,jP,j8,ls,v,he,bX,bn⟩:=ra aj ho;rw[dN aj,he,x_]at hf;rw[dN aj,he,e8]at hq;simp only at hf hq;have h1:=Jk c q ls;have h2:=abh c q ⟨k,⟨ki,jP,j8⟩,ls,v⟩;simp only at h2;have next:=ih (i+1,(if k=1 then c+1 else c),uG c q ⟨k,⟨ki,jP,j8⟩,ls,v⟩) ⟨by simp;omega,by simp only;split<;>omega,by simp only;omega,hf⟩ (by simp;omega)
  simp only at next
  refine⟨i,rfl,aj,k,ki,jP,j8,_,_,v,bX,?_⟩;exact atZ (by omega) (by omega) bn.2.1 bn.2.2 (by show(iP (c:Int) q ls).length+1<60000;omega) next (0,q) ⟨by simp,by simp only[jB];omega,by simp⟩
 ·have aS:G.length<=i:=by simpa using aS
  rw[eT aS,x_]at hf;subst hf;exact⟨rfl,rfl⟩
theorem atV{T:bH}(hl:eF G.length)(ho:∀g∈G,nF g)(hG:G.length<50000)(hT:eF T.length)(hoT:gU T)(cJ:bA T+e8 G<50000)(ny:x_ 0 (iP 0 [] T) G=az):
 ∀p:Nat×LP,(p.1<=T.length∧p.2.length+bA (T.drop p.1)<=bA T∧iP 0 p.2 (T.drop p.1)=iP 0 [] T)->
 bJ Z 68 76 0 (.ad 0 az.length 2) (kF az) (aQ [(1,.ab 0 0),(3,.ad 1 p.2.length 2),(4,J (p.1:Int))]) (an [(0,mP nm ar aC (aP T) T.length (bN G) G.length),(1,mZ p.2)] 2) (ao Z 68 0):=by
 refine cV (fun p=>T.length-p.1) _ _ _ _ ?_;rintro⟨i,q⟩ ⟨hi,hq,hf⟩ ih;simp only at hi hq hf ih⊢;refine hD Gk 1000 zB (by kernel_rfl) ?_;rw[atU];refine aI.2 ⟨fun aj=>?_,fun aS=>?_⟩
 ·have aj:i<T.length:=by simpa using aj
  obtain⟨k',n',s',ts,he,bX,bn⟩:=pz aj hoT;rw[dN aj,he,iP]at hf;rw[dN aj,he,bA]at hq;have cI:=Ow 0 q (.mk k' n' s' ts);refine⟨i,rfl,aj,k',n',s',_,_,bX,(q,.mk k' n' s' ts,0),⟨rfl,rfl,bn,by simp only;omega⟩,?_⟩;rw[je hT aj];exact ih (i+1,lW 0 q (.mk k' n' s' ts)) ⟨by simp;omega,by simp only;omega,hf⟩ (by simp;omega)
 ·have aS:T.length<=i:=by simpa using aS
  rw[eT aS]at hf hq;have hf:q=iP 0 [] T:=hf;simp only[bA]at hq;exact atX (len:=T.length) hl ho hG (0,0,q) ⟨by simp,by simp,by simp only[jB];omega,by simp only[jB];rw[hf];exact ny⟩
end
theorem PY:bm Z R7:=by refine de Gk ?_;rintro⟨⟨nm,ar,aC⟩,T,G⟩ args H ⟨rfl,rfl,ho,cJ⟩;have cJ:bA T+e8 G<50000:=cJ;have hg:=G' G;refine eS Gk 1000 zB 76 (by kernel_rfl) ?_;simp only[U_,ft];rw[at0];refine A' (n:=1) (l:=[(0,mP nm ar aC (aP T) T.length (bN G) G.length)]) (T:=[(1,.ab 0 0),(3,.bB),(4,J 0)]) 2 122 [3] ?_ rfl (by kernel_rfl);exact atV ho.2.2.2.1 ho.2.2.2.2 (by show G.length<50000;omega) ho.2.1 ho.2.2.1 cJ rfl (0,[]) ⟨by simp,by simp,by simp⟩
def yR(v:Int):LP->Nat
 |[]=>0
 |p::l=>(if p.1=v then 1 else 0)+yR v l
def QX:dp (bg×Int)where
 ba w A H:=A=[.au (ft w.1),J w.2]∧H=aq∧hJ w.1∧ez w.1=true∧bA w.1.aO+e8 w.1.aA<50000
 v w:=J (yR w.2 (BV w.1):Nat)
 aN w:=aq
theorem ai9:QX.dx:=by rintro⟨f,v⟩ ⟨f',v'⟩ A H ⟨h1,_⟩ ⟨h3,_⟩;rw[h1]at h3;simp only[List.cons.injEq,AV.au.injEq,AV.ck.injEq,true_and,and_true]at h3;rw[vG _ _ h3.1,h3.2]
def R8:Ev.bz:=cz 111 (cM QX ai9 cZ) R7
abbrev I8 x0 x1 x2 x3:=aQ [(1,J x0),(5,.ad 0 x1 2),(6,J x2),(7,J x3)]
theorem aqv(nm:LN)(ar aC:Int)(cs:LV)(len:Nat)(gs:LV)(gl:Nat)(v:Int)(L:LT)(Q:QT):
 b8 Z R7 (fun _=>[1,5,6,7]) L Q 1000 111 [.au [.aa nm,J ar,J aC,.ax cs len 4,.ax gs gl 6],J v] aq=(
 (an [] 0=aq∧By [.aa nm,J ar,J aC,.ax cs len 4,.ax gs gl 6])∧ah (!pJ ez [.aa nm,J ar,J aC,.ax cs len 4,.ax gs gl 6]) (Q (J 0) aq) (∃w:bg,(([.au [.aa nm,J ar,J aC,.ax cs len 4,.ax gs gl 6]]:LV)=[.au (ft w)]∧an [] 0=aq∧hJ w∧bA w.aO+e8 w.aA<50000)∧L (I8 v (BV w).length 0 0) (kF (BV w)) (ao Z 111 0))):=by kernel_rfl
theorem aqw(q:LP)(v n i:Int)(L:LT)(Q:QT):
 cO Z R7 (fun _=>[1,5,6,7]) L Q 1000 111 0 (I8 v q.length n i) (ao Z 111 0) (kF q)=(
 ah (decide (i<Int.ofNat q.length)) (∃aD:Nat,i=(aD:Int)∧aD<q.length∧(∃aL:Int,bQ Z 2 (iX q) (aD*2+0)=some (J aL:AV)∧ah (aL==v) (L (I8 v q.length (wI (n+1)) (wI (i+1))) (kF q) (ao Z 111 0)) (L (I8 v q.length n (wI (i+1))) (kF q) (ao Z 111 0)))) (Q (J n) aq)):=by kernel_rfl
theorem aao:∀{l:LP} {i:Nat} (h:i<l.length),bQ Z 2 (iX l) (i*2+0)=some (J l[i].1)
 |p::l,0,_=>by rw[Iu];rfl
 |p::l,i+1,h=>by
  have:=aao (l:=l) (i:=i) (by simpa using h);rw[Iu]at this⊢;have e:(i+1)*2+0=i*2+0+1+1:=by omega
  rw[e];exact this
theorem awL(f:bg):(BV f).length<=bA f.aO+e8 f.aA:=by
 have key:∀(gs:cY) (c:Nat) (q:LP),(x_ c q gs).length<=q.length+e8 gs:=by
  intro gs;induction gs with
  |nil=>intro c q;simp[x_]
  |cons g gs ih=>intro c q;have h1:=abh c q g;have h2:=ih (if g.cS=1 then c+1 else c) (uG c q g);simp only[x_,e8];omega
 have h1:=Jk 0 [] f.aO;have h2:=key f.aA 0 (iP 0 [] f.aO);unfold BV;simp at h1;omega
theorem ajd(v:Int):∀l:LP,yR v l<=l.length
 |[]=>by simp[yR]
 |p::l=>by have:=ajd v l;simp only[yR,dv];split<;>omega
theorem aqu{q:LP}{v:Int}{az:Nat}(hq:q.length<60000):
 ∀p:Nat×Nat,(p.1<=q.length∧p.2<=p.1∧p.2+yR v (q.drop p.1)=az)->
 bJ Z 111 29 0 (J (az:Int)) aq (I8 v q.length (p.2:Int) (p.1:Int)) (kF q) (ao Z 111 0):=by
 refine cV (fun p=>q.length-p.1) _ _ _ _ ?_;rintro⟨i,n⟩ ⟨hi,hn,hf⟩ ih;simp only at hi hn hf ih⊢;refine hD PY 1000 (fun _=>[1,5,6,7]) (by kernel_rfl) ?_;rw[aqw];refine aI.2 ⟨fun aj=>?_,fun aS=>?_⟩
 ·have aj:i<q.length:=by simpa using aj
  rw[dN aj,yR]at hf;refine⟨i,rfl,aj,q[i].1,aao aj,?_⟩;rw[gq aj (by omega),gq (n:=n+1) (lR n) (by omega)];refine aI.2 ⟨fun h=>?_,fun h=>?_⟩
  ·have h:q[i].1=v:=by simpa using h
   rw[aY h]at hf;exact ih (i+1,n+1) ⟨by simp;omega,by simp;omega,by simp only;omega⟩ (by simp;omega)
  ·have h:¬q[i].1=v:=by simpa using h
   rw[aB h]at hf;exact ih (i+1,n) ⟨by simp;omega,by simp;omega,by simp only;omega⟩ (by simp;omega)
 ·have aS:q.length<=i:=by simpa using aS
  rw[eT aS,yR]at hf;have hf:n=az:=by omega
  subst hf;exact⟨rfl,rfl⟩
theorem YK:bm Z R8:=by
 refine de PY ?_;rintro⟨⟨⟨nm,ar,aC⟩,T,G⟩,v⟩ args H ⟨rfl,rfl,ho,hv,cJ⟩;have ho:hJ ⟨⟨nm,ar,aC⟩,T,G⟩:=ho;have hv:ez ⟨⟨nm,ar,aC⟩,T,G⟩=true:=hv;have cJ:bA T+e8 G<50000:=cJ;have bF:=awL ⟨⟨nm,ar,aC⟩,T,G⟩;simp only at bF;refine eS PY 1000 (fun _=>[1,5,6,7]) 29 (by kernel_rfl) ?_;simp only[QX,ft];rw[aqv];have hd:pJ ez [.aa nm,J ar,J aC,.ax (aP T) T.length 4,.ax (bN G) G.length 6]=true:=by have:=yT ez ⟨⟨nm,ar,aC⟩,T,G⟩;rw[hv]at this;exact this
 refine⟨⟨rfl,⟨⟨nm,ar,aC⟩,T,G⟩,rfl,ho⟩,aI.2 ⟨fun h=>(by rw[hd]at h;cases h),fun _=>?_⟩⟩;refine⟨⟨⟨nm,ar,aC⟩,T,G⟩,⟨rfl,rfl,ho,cJ⟩,?_⟩;exact aqu (by omega) (0,0) ⟨by simp,by simp,by simp⟩
def ZC:LV->Option (Prop×AV)
 |[.ck .i64 op,.au [.aa nm,.ck .i64 ar,.ck .i64 aC]]=>some (True,.au [J op,J 0,J 0,J aC,.aa nm,J ar])
 |_=>none
def R9:Ev.bz:=eB 40 (eG ZC) R8
theorem asQ(op ar aC:Int)(nm:LN)(L:LT)(Q:QT):
 b8 Z R8 (fun _=>[]) L Q 1000 40 [J op,.au [.aa nm,J ar,J aC]] aq=(
 Q (.au [J op,J 0,J 0,J aC,.aa nm,J ar]) aq):=by kernel_rfl
theorem PZ:bm Z R9:=by
 refine iE YK fun args q v h hq=>?_
 unfold ZC at h;split at h<;>cases h;refine eS YK 1000 (fun _=>[]) 13 (by kernel_rfl) ?_;rw[asQ];exact⟨rfl,rfl⟩
structure c9 where
 Gw:Int
 Ak:Int
 Cx:Int
 deriving DecidableEq,Inhabited
def vS(s:c9):AV:=.au [J s.Gw,J s.Ak,J s.Cx]
theorem awc:∀a b,vS a=vS b->a=b:=by rintro⟨a,b,c⟩ ⟨a',b',c'⟩ h;simp only[vS,AV.au.injEq,List.cons.injEq,AV.ck.injEq,true_and,and_true]at h;obtain⟨rfl,rfl,rfl⟩:=h;rfl
abbrev dg:=List (Int×c9)×LI
def jm(st:dg)(v c:Int):dg:=
 match lk v st.1 with
 |none=>(up v ⟨st.2.length,c,c⟩ st.1,st.2++[v])
 |some s=>(up v ⟨s.Gw,s.Ak,c⟩ st.1,st.2)
mutual
def lP(c:Int):dg->aK->dg
 |st,.mk k n _ l=>if k=0 then jm st n c else gg c st l
def gg(c:Int):dg->bH->dg
 |st,[]=>st
 |st,t::l=>gg c (lP c st t) l
end
theorem adX(st:dg)(v c:Int):(jm st v c).2.length<=st.2.length+1:=by unfold jm;split<;>simp
mutual
theorem UL(c:Int):∀(st:dg) (t:aK),(lP c st t).2.length<=st.2.length+cG t
 |st,.mk k n s l=>by
  unfold lP;split
  ·have:=adX st n c;simp only[cG];omega
  ·have:=Fe c st l;simp only[cG];omega
theorem Fe(c:Int):∀(st:dg) (l:bH),(gg c st l).2.length<=st.2.length+bA l
 |st,[]=>by simp[gg,bA]
 |st,t::l=>by have h1:=UL c st t;have h2:=Fe c (lP c st t) l;simp only[gg,bA];omega
end
def rfA:Code:=match IA Z 22 0 with|.fG (.rangeFunc _ _ a _)::_=>a|_=>.skip
def rfB:Code:=match IA Z 22 0 with|.fG (.rangeFunc _ _ _ b)::_=>b|_=>.skip
def oh(st:LoopState)(t:List (Nat×AV))(d:Nat):aZ:=.gb st none 22 (aQ t) 120 [22] rfA rfB d
def cu(f:bg):aZ:=.aw (ft f) 27
def fV(sp:List (Int×c9)):aZ:=.bC (bM vS 0 sp) sp.length true
def pZ(od:LI):aZ:=.aF (aX od) 2
def lT(F O B C S:Nat):List (Nat×AV):=[(1,.ab F 0),(2,.ab C 0),(4,.ab S 0),(5,.ab O 0),(21,.bR (.func 91) [] [.ab B 0])]
def mw:aZ:=.aw [.bB,.bB,.bB] 60
def jE:aZ:=.ot (some [])
def hR(f:bg)(st:dg):AH:=an [(0,oh .ready (lT 2 3 4 5 6) 1),(1,jE),(2,cu f),(3,.aw [.ad 7 st.2.length 1] 58),(4,cu f),(5,mw),(6,.aw [.aH 8] 101),(7,pZ st.2),(8,fV st.1)] 9
def oR(f:bg)(st:dg):AH:=an [(0,oh .ready (lT 2 3 4 5 6) 1),(1,jE),(2,cu f),(3,.aw [.ad 9 st.2.length 1] 58),(4,cu f),(5,mw),(6,.aw [.aH 8] 101),(7,.b9 []),(8,fV st.1),(9,pZ st.2)] 10
def hW(f:bg)(k:Int)(st:dg):AH:=an [(0,.aw [.gd 2] 143),(1,.aw [J k] 3),(2,oh .ready (lT 4 5 6 7 8) 3),(3,jE),(4,cu f),(5,.aw [.ad 9 st.2.length 1] 58),(6,cu f),(7,mw),(8,.aw [.aH 10] 101),(9,pZ st.2),(10,fV st.1)] 11
def oW(f:bg)(k:Int)(st:dg):AH:=an [(0,.aw [.gd 2] 143),(1,.aw [J k] 3),(2,oh .ready (lT 4 5 6 7 8) 3),(3,jE),(4,cu f),(5,.aw [.ad 11 st.2.length 1] 58),(6,cu f),(7,mw),(8,.aw [.aH 10] 101),(9,.b9 []),(10,fV st.1),(11,pZ st.2)] 12
theorem anQ(f:bg)(st:dg):Mv (hR f st) (oR f st) 7:=ss (l':=[(0,oh .ready (lT 2 3 4 5 6) 1),(1,jE),(2,cu f),(3,.aw [.ad 9 st.2.length 1] 58),(4,cu f),(5,mw),(6,.aw [.aH 8] 101),(7,.b9 []),(8,fV st.1)]) rfl rfl rfl
theorem mvW(f:bg)(k:Int)(st:dg):Mv (hW f k st) (oW f k st) 9:=ss (l':=[(0,.aw [.gd 2] 143),(1,.aw [J k] 3),(2,oh .ready (lT 4 5 6 7 8) 3),(3,jE),(4,cu f),(5,.aw [.ad 11 st.2.length 1] 58),(6,cu f),(7,mw),(8,.aw [.aH 10] 101),(9,.b9 []),(10,fV st.1)]) rfl rfl rfl
theorem IN{a b:List (Int×c9)}(h:fV a=fV b):a=b:=qY awc (aZ.bC.inj h).1
theorem MZ{a b:LI}(h:pZ a=pZ b):a=b:=Ca (aZ.aF.inj h).1
theorem RG{a b:bg}(h:cu a=cu b):a=b:=vG _ _ (aZ.aw.inj h).1
theorem alo{f f':bg}{st kN:dg}(h:hR f st=hR f' kN):f=f'∧st=kN:=by
 have q:=fun i=>congrArg (fun H=>AH.bu H i) h
 simp only[hR,dy]at q;exact⟨RG (dz (q 2)),Prod.ext (IN (dz (q 8))) (MZ (dz (q 7)))⟩
theorem Ls{f f':bg}{k k':Int}{st kN:dg}(h:hW f k st=hW f' k' kN):f=f'∧k=k'∧st=kN:=by
 have q:=fun i=>congrArg (fun H=>AH.bu H i) h
 simp only[hW,dy]at q;have hk:=(aZ.aw.inj (dz (q 1))).1;simp only[List.cons.injEq,AV.ck.injEq,true_and,and_true]at hk;exact⟨RG (dz (q 4)),hk,Prod.ext (IN (dz (q 10))) (MZ (dz (q 9)))⟩
def VJ:dp (bg×dg×Int×Int)where
 ba w A H:=A=[.gd 0,.au [J w.2.2.1,J w.2.2.2]]∧H=hR w.1 w.2.1∧w.2.1.2.length<60000
 v w:=.ai true
 aN w:=oR w.1 (jm w.2.1 w.2.2.1 w.2.2.2)
theorem apB:VJ.dx:=by rintro⟨f,st,v,c⟩ ⟨f',kN,v',c'⟩ A H ⟨h1,h2,_⟩ ⟨k1,k2,_⟩;obtain⟨rfl,rfl⟩:=alo (h2.symm.trans k2);rw[h1]at k1;simp only[List.cons.injEq,AV.au.injEq,AV.ck.injEq,true_and,and_true]at k1;obtain⟨rfl,rfl⟩:=k1;rfl
def PG:Ev.bz:=cz 999999 (cM VJ apB cZ) R9
def Xe:dp (bg×Int×dg×Int)where
 ba w A H:=A=[J w.2.2.2,.ab 0 0,.ab 1 0]∧H=hW w.1 w.2.1 w.2.2.1∧w.2.2.1.2.length<60000
 v w:=.ai true
 aN w:=oW w.1 w.2.1 (jm w.2.2.1 w.2.2.2 w.2.1)
theorem awD:Xe.dx:=by rintro⟨f,k,st,v⟩ ⟨f',k',kN,v'⟩ A H ⟨h1,h2,_⟩ ⟨k1,k2,_⟩;obtain⟨rfl,rfl,rfl⟩:=Ls (h2.symm.trans k2);rw[h1]at k1;simp only[List.cons.injEq,AV.ck.injEq,true_and,and_true]at k1;rw[k1]
def PI:Ev.bz:=cz 94 (cM Xe awD cZ) PG
def Xg(N:Nat):dp (bg×Int×dg×aK)where
 ba w A H:=A=[.au (cR w.2.2.2),.bR (.func 94) [] [.ab 0 0,.ab 1 0]]∧H=hW w.1 w.2.1 w.2.2.1∧eR w.2.2.2∧cG w.2.2.2<N∧w.2.2.1.2.length+cG w.2.2.2<60000
 v w:=.ai true
 aN w:=oW w.1 w.2.1 (lP w.2.1 w.2.2.1 w.2.2.2)
theorem ahu(N:Nat):(Xg N).dx:=by rintro⟨f,k,st,t⟩ ⟨f',k',kN,t'⟩ A H ⟨h1,h2,_⟩ ⟨k1,k2,_⟩;obtain⟨rfl,rfl,rfl⟩:=Ls (h2.symm.trans k2);rw[h1]at k1;simp only[List.cons.injEq,AV.au.injEq,true_and,and_true]at k1;rw[uz k1]
def Ge(N:Nat):Ev.bz:=cz 93 (cM (Xg N) (ahu N) cZ) PI
def aht:dp (bg×Int×dg×aK)where
 ba w A H:=A=[.au (cR w.2.2.2),.bR (.func 94) [] [.ab 0 0,.ab 1 0]]∧H=hW w.1 w.2.1 w.2.2.1∧eR w.2.2.2∧w.2.2.1.2.length+cG w.2.2.2<60000
 v w:=.ai true
 aN w:=oW w.1 w.2.1 (lP w.2.1 w.2.2.1 w.2.2.2)
theorem awH:aht.dx:=by rintro⟨f,k,st,t⟩ ⟨f',k',kN,t'⟩ A H ⟨h1,h2,_⟩ ⟨k1,k2,_⟩;obtain⟨rfl,rfl,rfl⟩:=Ls (h2.symm.trans k2);rw[h1]at k1;simp only[List.cons.injEq,AV.au.injEq,true_and,and_true]at k1;rw[uz k1]
def JT:Ev.bz:=cz 93 (cM aht awH cZ) PI
def Rc:dp (bg×Int×dg×bH)where
 ba w A H:=A=[.ax (aP w.2.2.2) w.2.2.2.length 4,.ab 0 0,.ab 1 0]∧H=hW w.1 w.2.1 w.2.2.1∧eF w.2.2.2.length∧gU w.2.2.2∧w.2.2.1.2.length+bA w.2.2.2<60000
 v w:=.ai true
 aN w:=oW w.1 w.2.1 (gg w.2.1 w.2.2.1 w.2.2.2)
theorem ajG:Rc.dx:=by rintro⟨f,k,st,t⟩ ⟨f',k',kN,t'⟩ A H ⟨h1,h2,_⟩ ⟨k1,k2,_⟩;obtain⟨rfl,rfl,rfl⟩:=Ls (h2.symm.trans k2);rw[h1]at k1;simp only[List.cons.injEq,AV.ax.injEq,true_and,and_true]at k1;rw[vJ k1.2 k1.1]
def PK:Ev.bz:=cz 92 (cM Rc ajG cZ) JT
theorem aeO(f:bg)(st:dg)(v c:Int)(L:LT)(Q:QT):
 VZ Z R9 (fun _=>[]) L Q 1000 0 (.au [J v,J c]) (hR f st)=(
 ∃n:Int,∃aL:Int,∃bD:Int,∃b:Bool,(fX Z 2 108 (bM vS 0 st.fst) (J v)=some ((.au [J n,J aL,J bD],b)))∧
 ah (!b)
  (((List.length (aX st.snd)=(List.length st.snd)*1)∧
    ((List.length st.snd)+1<=65536)∧
    (true=true)∧
    true=true)∧
    ∃bw:List (AV×AV×Nat),∃c':Nat,(jc Z 2 (bM vS 0 st.fst) (List.length st.fst) (J v) (.au [J (Int.ofNat (List.length st.snd)),J c,J c])=some ((bw,c')))∧
    Q (.ai true) (an [(0,(oh LoopState.ready [(1,.ab 2 0),(2,.ab 5 0),(4,.ab 6 0),(5,.ab 3 0),(21,.bR (.func 91) [] [.ab 4 0])] 1)),(1,.ot (some [])),(2,.aw [.aa f.ay.ca,J (dG.ar (bg.ay f)),J (dG.aC (bg.ay f)),.ax (aP f.aO) (List.length f.aO) 4,.ax (bN f.aA) (List.length f.aA) 6] 27),(3,.aw [.ad 9 ((List.length st.snd)+1) 1] 58),(4,.aw [.aa f.ay.ca,J (dG.ar (bg.ay f)),J (dG.aC (bg.ay f)),.ax (aP f.aO) (List.length f.aO) 4,.ax (bN f.aA) (List.length f.aA) 6] 27),(5,.aw [.bB,.bB,.bB] 60),(6,.aw [.aH 8] 101),(7,.b9 []),(8,.bC bw c' true),(9,.aF ((aX st.snd)++[J v]) 2)] 10))
  (∃bw:List (AV×AV×Nat),∃c':Nat,(jc Z 2 (bM vS 0 st.fst) (List.length st.fst) (J v) (.au [J n,J aL,J c])=some ((bw,c')))∧
    Q (.ai true) (an [(0,(oh LoopState.ready [(1,.ab 2 0),(2,.ab 5 0),(4,.ab 6 0),(5,.ab 3 0),(21,.bR (.func 91) [] [.ab 4 0])] 1)),(1,.ot (some [])),(2,.aw [.aa f.ay.ca,J (dG.ar (bg.ay f)),J (dG.aC (bg.ay f)),.ax (aP f.aO) (List.length f.aO) 4,.ax (bN f.aA) (List.length f.aA) 6] 27),(3,.aw [.ad 7 (List.length st.snd) 1] 58),(4,.aw [.aa f.ay.ca,J (dG.ar (bg.ay f)),J (dG.aC (bg.ay f)),.ax (aP f.aO) (List.length f.aO) 4,.ax (bN f.aA) (List.length f.aA) 6] 27),(5,.aw [.bB,.bB,.bB] 60),(6,.aw [.aH 8] 101),(7,.aF (aX st.snd) 2),(8,.bC bw c' true)] 9))):=by kernel_rfl
abbrev D_ x0 x1 x2 x3 x4:=an [(0,.aw [.gd 2] 143),(1,.aw [J x0] 3),(2,oh LoopState.ready [(1,.ab 4 0),(2,.ab 7 0),(4,.ab 8 0),(5,.ab 5 0),(21,.bR (.func 91) [] [.ab 6 0])] 3),(3,jE),(4,cu x1),(5,.aw [.ad 11 x2 1] 58),(6,cu x1),(7,mw),(8,.aw [.aH 10] 101),(9,.b9 []),(10,fV x3),(11,bp x4 2)] 12
theorem auF(f:bg)(k:Int)(st:dg)(v:Int)(L:LT)(Q:QT):
 b8 Z PG (fun _=>[]) L Q 1000 94 [J v,.ab 0 0,.ab 1 0] (hW f k st)=(
 ∃w:bg×dg×Int×Int,(([.gd 0,.au [J v,J k]]:LV)=[.gd 0,.au [J w.2.2.1,J w.2.2.2]]∧an [(0,oh LoopState.ready [(1,.ab 2 0),(2,.ab 5 0),(4,.ab 6 0),(5,.ab 3 0),(21,.bR (.func 91) [] [.ab 4 0])] 1),(1,jE),(2,cu f),(3,.aw [.ad 7 st.2.length 1] 58),(4,cu f),(5,mw),(6,.aw [.aH 8] 101),(7,bp st.2 2),(8,fV st.1)] 9=hR w.1 w.2.1∧w.2.1.2.length<60000)∧Q (.ai true) (D_ k w.1 (jm w.2.1 w.2.2.1 w.2.2.2).2.length (jm w.2.1 w.2.2.1 w.2.2.2).1 (jm w.2.1 w.2.2.1 w.2.2.2).2)):=by kernel_rfl
abbrev I9 x0 x1 x2:=aQ [(1,.bR (.func 94) [] [.ab 0 0,.ab 1 0]),(15,.ax x0 x1 4),(16,J (Int.ofNat x1)),(17,J x2)]
abbrev Hj x0 x1 x2 x3 x4:=an [(0,.aw [.gd 2] 143),(1,.aw [J x0] 3),(2,oh LoopState.ready [(1,.ab 4 0),(2,.ab 7 0),(4,.ab 8 0),(5,.ab 5 0),(21,.bR (.func 91) [] [.ab 6 0])] 3),(3,jE),(4,cu x1),(5,.aw [.ad 9 x2 1] 58),(6,cu x1),(7,mw),(8,.aw [.aH 10] 101),(9,bp x3 2),(10,fV x4)] 11
theorem auD(f:bg)(c:Int)(st:dg)(k n:Int)(s:LN)(cs:LV)(len:Nat)(N:Nat)(L:LT)(Q:QT):
 b8 Z (Ge N) (fun _=>[1,15,16,17]) L Q 1000 93 [.au [J k,J n,.aa s,.ax cs len 4],.bR (.func 94) [] [.ab 0 0,.ab 1 0]] (hW f c st)=(
 ah (k==0) (∃w:bg×Int×dg×Int,(([J n,.ab 0 0,.ab 1 0]:LV)=[J w.2.2.2,.ab 0 0,.ab 1 0]∧Hj c f st.2.length st.2 st.1=hW w.1 w.2.1 w.2.2.1∧w.2.2.1.2.length<60000)∧Q (.ai true) (D_ w.2.1 w.1 (jm w.2.2.1 w.2.2.2 w.2.1).2.length (jm w.2.2.1 w.2.2.2 w.2.1).1 (jm w.2.2.1 w.2.2.2 w.2.1).2)) (L (I9 cs len 0) (Hj c f st.2.length st.2 st.1) (ao Z 93 0))):=by kernel_rfl
theorem auE(f:bg)(c:Int)(st:dg)(cs:LV)(len:Nat)(i:Int)(N:Nat)(L:LT)(Q:QT):
 cO Z (Ge N) (fun _=>[1,15,16,17]) L Q 1000 93 11 (I9 cs len i) (ao Z 93 0) (oW f c st)=(
 ah (decide (i<Int.ofNat len)) (∃aD:Nat,i=(aD:Int)∧aD<len∧(∃n:Int,∃aL:Int,∃s:LN,∃cA:LV,∃cq:Nat,((cs.drop (aD*4)).take 4:LV)=[J n,J aL,.aa s,.ax cA cq 4]∧(∃w:bg×Int×dg×aK,(([.au [J n,J aL,.aa s,.ax cA cq 4],.bR (.func 94) [] [.ab 0 0,.ab 1 0]]:LV)=[.au (cR w.2.2.2),.bR (.func 94) [] [.ab 0 0,.ab 1 0]]∧Hj c f st.2.length st.2 st.1=hW w.1 w.2.1 w.2.2.1∧eR w.2.2.2∧cG w.2.2.2<N∧w.2.2.1.2.length+cG w.2.2.2<60000)∧L (I9 cs len (wI (i+1))) (D_ w.2.1 w.1 (lP w.2.1 w.2.2.1 w.2.2.2).2.length (lP w.2.1 w.2.2.1 w.2.2.2).1 (lP w.2.1 w.2.2.1 w.2.2.2).2) (ao Z 93 0)))) (Q (.ai true) (D_ c f st.2.length st.1 st.2))):=by kernel_rfl
abbrev I_ x0 x1 x2:=aQ [(1,.ab 0 0),(2,.ab 1 0),(7,.ax x0 x1 4),(8,J (Int.ofNat x1)),(9,J x2)]
theorem auA(f:bg)(c:Int)(st:dg)(cs:LV)(len:Nat)(L:LT)(Q:QT):
 b8 Z JT (fun _=>[1,2,7,8,9]) L Q 1000 92 [.ax cs len 4,.ab 0 0,.ab 1 0] (hW f c st)=(
 L (I_ cs len 0) (Hj c f st.2.length st.2 st.1) (ao Z 92 0)):=by kernel_rfl
theorem auB(f:bg)(c:Int)(st:dg)(cs:LV)(len:Nat)(i:Int)(L:LT)(Q:QT):
 cO Z JT (fun _=>[1,2,7,8,9]) L Q 1000 92 11 (I_ cs len i) (ao Z 92 0) (oW f c st)=(
 ah (decide (i<Int.ofNat len)) (∃aD:Nat,i=(aD:Int)∧aD<len∧(∃n:Int,∃aL:Int,∃s:LN,∃cA:LV,∃cq:Nat,((cs.drop (aD*4)).take 4:LV)=[J n,J aL,.aa s,.ax cA cq 4]∧(∃w:bg×Int×dg×aK,(([.au [J n,J aL,.aa s,.ax cA cq 4],.bR (.func 94) [] [.ab 0 0,.ab 1 0]]:LV)=[.au (cR w.2.2.2),.bR (.func 94) [] [.ab 0 0,.ab 1 0]]∧Hj c f st.2.length st.2 st.1=hW w.1 w.2.1 w.2.2.1∧eR w.2.2.2∧w.2.2.1.2.length+cG w.2.2.2<60000)∧L (I_ cs len (wI (i+1))) (D_ w.2.1 w.1 (lP w.2.1 w.2.2.1 w.2.2.2).2.length (lP w.2.1 w.2.2.1 w.2.2.2).1 (lP w.2.1 w.2.2.1 w.2.2.2).2) (ao Z 92 0)))) (Q (.ai true) (D_ c f st.2.length st.1 st.2))):=by kernel_rfl
theorem ahz:ku Z 108=some (vS ⟨0,0,0⟩):=by kernel_rfl
theorem IF(l:LI)(x:Int):aX (l++[x])=aX l++[J x]:=by simp[aX]
theorem sH(l:LI):(aX l).length=l.length:=by simp[aX]
theorem Yw:bm Z PG:=by
 refine ah1 PZ ?_;rintro⟨f,st,v,c⟩ args H ⟨rfl,rfl,hl⟩;refine⟨0,_,rfl,?_⟩;have hl:st.2.length<60000:=hl;obtain⟨sp,od⟩:=st;simp only at hl;simp only[VJ];cases hk:lk v sp with
 |none=>
  have e:jm (sp,od) v c=(up v ⟨od.length,c,c⟩ sp,od++[v]):=by simp[jm,hk]
  rw[e];refine afg (n:=1000) (aU:=fun _=>[]) xW PZ (l:=0) rfl (show 0<9 by omega) ?_;rw[aeO];refine⟨0,0,0,false,by rw[sq _ nv,hk,ahz];rfl,?_⟩;refine aI.2 ⟨fun _=>⟨⟨by simp[sH],by simp only;omega,rfl,rfl⟩,_,_,qb vS nv (v:=⟨od.length,c,c⟩),rfl,?_⟩,fun h=>by cases h⟩;simp only[oR,pZ,IF,bI,dv,fk,jI];rfl
 |some s0=>
  obtain⟨a,b,l⟩:=s0;have e:jm (sp,od) v c=(up v ⟨a,b,c⟩ sp,od):=by simp[jm,hk]
  rw[e];refine apF (H:=hR f (up v ⟨a,b,c⟩ sp,od)) ?_ (anQ f _) (fB _);refine afg (n:=1000) (aU:=fun _=>[]) xW PZ (l:=0) rfl (show 0<9 by omega) ?_;rw[aeO];refine⟨a,b,l,true,by rw[sq _ nv,hk];rfl,?_⟩;exact aI.2 ⟨fun h=>(by cases h),fun _=>⟨_,_,qb vS nv (v:=⟨a,b,c⟩),rfl,rfl⟩⟩
theorem Yx:bm Z PI:=by refine de Yw ?_;rintro⟨f,k,st,v⟩ args H ⟨rfl,rfl,hl⟩;refine eS Yw 1000 (fun _=>[]) 10 (by kernel_rfl) ?_;simp only[Xe];rw[auF];exact⟨(f,st,v,k),⟨rfl,rfl,hl⟩,rfl,rfl⟩
theorem auC{f:bg}{c:Int}{az:dg}{l:bH}{N:Nat}(hS:bm Z (Ge N))(hl:eF l.length)(ho:gU l)(hN:bA l<N):
 ∀p:Nat×dg,(p.1<=l.length∧p.2.2.length+bA (l.drop p.1)<60000∧gg c p.2 (l.drop p.1)=az)->
 bJ Z 93 26 11 (.ai true) (oW f c az) (I9 (aP l) l.length (p.1:Int)) (oW f c p.2) (ao Z 93 0):=by
 refine cV (fun p=>l.length-p.1) _ _ _ _ ?_;rintro⟨i,st⟩ ⟨hi,hc,hf⟩ ih;simp only at hi hc hf ih⊢;refine hD hS 1000 (fun _=>[1,15,16,17]) (by kernel_rfl) ?_;rw[auE];refine aI.2 ⟨fun aj=>?_,fun aS=>?_⟩
 ·have aj:i<l.length:=by simpa using aj
  obtain⟨k1,n1,s1,m1,he,bX,bn⟩:=pz aj ho;have cJ:=Je aj;rw[he]at cJ;rw[dN aj,he,bA]at hc;rw[dN aj,he,gg]at hf;have hg:=UL c st (.mk k1 n1 s1 m1);refine⟨i,rfl,aj,k1,n1,s1,_,_,bX,(f,c,st,.mk k1 n1 s1 m1),⟨rfl,rfl,bn,by simp only;omega,by simp only;omega⟩,?_⟩;rw[je hl aj];exact ih (i+1,lP c st (.mk k1 n1 s1 m1)) ⟨by simp;omega,by simp only;omega,hf⟩ (by simp;omega)
 ·have aS:l.length<=i:=by simpa using aS
  rw[eT aS,gg]at hf;subst hf;exact⟨rfl,rfl⟩
theorem afX{f:bg}{c:Int}{st:dg}{k n:Int}{s:LN}{l:bH}{N:Nat}(hS:bm Z (Ge N))(ho:eR (.mk k n s l))(hN:bA l<N)(hc:st.2.length+(1+bA l)<60000):
 dT Z 93 [.au [J k,J n,.aa s,.ax (aP l) l.length 4],.bR (.func 94) [] [.ab 0 0,.ab 1 0]] (hW f c st) (.ai true) (oW f c (lP c st (.mk k n s l))):=by
 refine eS hS 1000 (fun _=>[1,15,16,17]) 26 (by kernel_rfl) ?_;rw[auD];refine aI.2 ⟨fun hk=>?_,fun hk=>?_⟩
 ·have hk:k=0:=by simpa using hk
  have e:lP c st (.mk k n s l)=jm st n c:=by rw[lP,aY hk]
  rw[e];exact⟨(f,c,st,n),⟨rfl,rfl,by simp only;omega⟩,rfl,rfl⟩
 ·have hk:¬k=0:=by simpa using hk
  have e:lP c st (.mk k n s l)=gg c st l:=by rw[lP,aB hk]
  rw[e];refine uK (H':=oW f c st) (t':=I9 (aP l) l.length ((0:Nat):Int)) ?_ (mvW f c st) (by kernel_rfl) (fun i a' hi=>⟨a',hi,xX hi (by simp[fi,iN,lN,hW,an])⟩);exact auC hS ho.2.1 ho.2.2 hN (0,st) ⟨by simp,by simp only[jB];omega,by simp⟩
theorem ahJ:∀N,bm Z (Ge N):=by
 refine BZ (e:=Xg) (h1:=ahu) Yx ?_ ?_
 ·rintro⟨f,c,st,t⟩ args H ⟨_,_,_,h,_⟩;omega
 ·rintro N hS ⟨f,c,st,⟨k,n,s,l⟩⟩ args H ⟨rfl,rfl,ho,hN,hc⟩;simp only[cG]at hc hN;exact afX hS ho (by omega) hc
theorem PJ:bm Z JT:=by refine de Yx ?_;rintro⟨f,c,st,⟨k,n,s,l⟩⟩ args H ⟨rfl,rfl,ho,hc⟩;simp only[cG]at hc;exact afX (ahJ (bA l+1)) ho (by omega) hc
theorem auz{f:bg}{c:Int}{az:dg}{l:bH}(hl:eF l.length)(ho:gU l):
 ∀p:Nat×dg,(p.1<=l.length∧p.2.2.length+bA (l.drop p.1)<60000∧gg c p.2 (l.drop p.1)=az)->
 bJ Z 92 18 11 (.ai true) (oW f c az) (I_ (aP l) l.length (p.1:Int)) (oW f c p.2) (ao Z 92 0):=by
 refine cV (fun p=>l.length-p.1) _ _ _ _ ?_;rintro⟨i,st⟩ ⟨hi,hc,hf⟩ ih;simp only at hi hc hf ih⊢;refine hD PJ 1000 (fun _=>[1,2,7,8,9]) (by kernel_rfl) ?_;rw[auB];refine aI.2 ⟨fun aj=>?_,fun aS=>?_⟩
 ·have aj:i<l.length:=by simpa using aj
  obtain⟨k1,n1,s1,m1,he,bX,bn⟩:=pz aj ho;rw[dN aj,he,bA]at hc;rw[dN aj,he,gg]at hf;have hg:=UL c st (.mk k1 n1 s1 m1);refine⟨i,rfl,aj,k1,n1,s1,_,_,bX,(f,c,st,.mk k1 n1 s1 m1),⟨rfl,rfl,bn,by simp only;omega⟩,?_⟩;rw[je hl aj];exact ih (i+1,lP c st (.mk k1 n1 s1 m1)) ⟨by simp;omega,by simp only;omega,hf⟩ (by simp;omega)
 ·have aS:l.length<=i:=by simpa using aS
  rw[eT aS,gg]at hf;subst hf;exact⟨rfl,rfl⟩
theorem Yy:bm Z PK:=by refine de PJ ?_;rintro⟨f,c,st,l⟩ args H ⟨rfl,rfl,hl,ho,hc⟩;have hl:eF l.length:=hl;have hc:st.2.length+bA l<60000:=hc;refine eS PJ 1000 (fun _=>[1,2,7,8,9]) 18 (by kernel_rfl) ?_;simp only[Rc];rw[auA];refine uK (H':=oW f c st) (t':=I_ (aP l) l.length ((0:Nat):Int)) ?_ (mvW f c st) (by kernel_rfl) (fun i a' hi=>⟨a',hi,xX hi (by simp[fi,iN,lN,hW,an])⟩);exact auz hl ho (0,st) ⟨by simp,by simp only[jB];omega,by simp⟩
end
end Go.Cl
