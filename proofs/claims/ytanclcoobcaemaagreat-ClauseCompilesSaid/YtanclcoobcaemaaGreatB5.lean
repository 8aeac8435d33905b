/- Part of a proof of ClauseCompiles. -/
import Derived.Test.YtanclcoobcaemaaGreatB4
set_option linter.all false
set_option linter.unusedSectionVars false
set_option maxRecDepth 100000
namespace Go.Cl
open Go.Ev Go.Proofs
variable[Ro]
noncomputable section
def fG(l:bS)(base:Int):bS×Int:=if kK l base then((u6 l base).aU,0)else([],1)
def Re:dP (ie×Int)where
 bN w A H:=A=[.bB 0 w.1.gq w.1.l.length 0 6 false,J w.2]∧H=gS w.1∧w.1.ok∧w.1.l.length<12000
 v w:=.aO [.ae 1 (fG w.1.l w.2).1.length 6,J (fG w.1.l w.2).2]
 aU w:=aq [(0,.aL w.1.cs 50),(1,gH (fG w.1.l w.2).1)] 2
theorem aic:Re.dT:=by rintro w w' A H ⟨h1,h2,h3,_⟩ ⟨k1,k2,k3,_⟩;rw[FL h1 h2 h3 k1 k2 k3]
def J':Ev.bC:=cB 67 (cO Re aic cV) Qd
def mA(code:bS)(base:LI):Nat->Nat->Nat->bS->bS->bS×Int
 |_,_,_,l,[]=>(l,0)
 |i,fr,part,l,x::rest=>
  if x.op≠19∧i+1<code.length then mA code base (i+1) fr part l rest
  else if(fG ((code.drop fr).take (i+1-fr)) (base.getD part 0)).2≠0 then([],(fG ((code.drop fr).take (i+1-fr)) (base.getD part 0)).2)
  else mA code base (i+1) (i+1) (part+1) (l++(fG ((code.drop fr).take (i+1-fr)) (base.getD part 0)).1) rest
def jZ(code:bS)(base:LI):bS×Int:=mA code base 0 0 0 [] code
def fh(l:bS):Nat:=(l.filter (fun x=>decide (x.op=19))).length
def zJ(code:bS)(base:LI):AH:=aq [(0,gH code),(1,aD base 3)] 2
def CC(code:bS)(base:LI)(l:bS):AH:=aq [(0,gH code),(1,aD base 3),(2,gH l)] 3
def Rf:dP (bS×LI)where
 bN w A H:=A=[.ae 0 w.1.length 6,.ae 1 w.2.length 1]∧H=zJ w.1 w.2∧w.1.length<12000∧fh w.1<w.2.length∧w.2.length<100000
 v w:=.aO [.ae 2 (jZ w.1 w.2).1.length 6,J (jZ w.1 w.2).2]
 aU w:=CC w.1 w.2 (jZ w.1 w.2).1
theorem aie:Rf.dT:=by
 rintro⟨c,b⟩ ⟨c',b'⟩ A H ⟨_,h2,_⟩ ⟨_,k2,_⟩;have e:=h2.symm.trans k2;have q:=fun i=>congrArg (fun H=>AH.bD H i) e
 simp only[zJ,eA]at q;have e0:=D_ (bc.aL.inj (dk (q 0))).1;have e1:=wa (dk (q 1));rw[e0,e1]
def Ka:Ev.bC:=cB 29 (cO Rf aie cV) J'
def Nd:Nat->LN:=nk [(3,[0,1,4,6,7,12,13,14])]
theorem af3(cs:LV)(off len:Nat)(base:Int)(L:LT)(Q:QT):
 b_ Z Qd (fun _=>[]) L Q 1000 67 [.bB 0 off len 0 6 false,J base] (aq [(0,.aL cs 50)] 1)=(
 ∃w:ie×Int,(([.bB 0 off len 0 6 false,J base]:LV)=[.bB 0 w.1.gq w.1.l.length 0 6 false,J w.2]∧aq [(0,.aL cs 50)] 1=gS w.1∧w.1.ok)∧ai (!kK w.1.l w.2) (Q (.aO [.bg,J 1]) (gS w.1)) (∃ab:ie×Int,(([.bB 0 off len 0 6 false,J base]:LV)=[.bB 0 ab.1.gq ab.1.l.length 0 6 false,J ab.2]∧gS w.1=gS ab.1∧ab.1.ok∧ab.1.l.length<12000∧(∀x:ba,x∈ab.1.l->x.op=19∨x.op=20->x.ar<=ab.2))∧Q (.aO [.ae 1 (u6 ab.1.l ab.2).aU.length 6,J 0]) (aq [(0,.aL ab.1.cs 50),(1,gH (u6 ab.1.l ab.2).aU)] 2))):=by kernel_rfl
theorem asd(code:bS)(base:LI)(L:LT)(Q:QT):
 b_ Z J' Nd L Q 1000 29 [.ae 0 code.length 6,.ae 1 base.length 1] (zJ code base)=(
 L (bk [(0,.ae 0 code.length 6),(1,.ae 1 base.length 1),(4,.bg),(6,J 0),(7,J 0),(12,.ae 0 code.length 6),(13,J (Int.ofNat code.length)),(14,J 0)]) (zJ code base) (ao Z 29 0)):=by kernel_rfl
abbrev y9 x0 x1 x2 x3 x4 x5:=bk [(0,.ae 0 x0 6),(1,.ae 1 x1 1),(4,.ae 2 x2 6),(6,J x3),(7,J x4),(12,.ae 0 x0 6),(13,J (Int.ofNat x0)),(14,J x5)]
theorem ase(code:bS)(base:LI)(l:bS)(fr part i:Int)(L:LT)(Q:QT):
 cT Z J' Nd L Q 1000 29 2 (y9 code.length base.length l.length fr part i) (ao Z 29 0) (CC code base l)=(
 ai (decide (i<Int.ofNat code.length)) (∃aI:Nat,i=(aI:Int)∧aI<code.length∧(∃n:Int,∃aP:Int,∃bp:Int,∃bI:Int,∃s:LN,∃cS:Int,bA Z 50 (bZ code) (aI*6)=some (.aj [J n,J aP,J bp,J bI,.aa s,J cS]:AV)∧ai (n !=19) (ai (decide (i<wI (Int.ofNat code.length-1))) (L (y9 code.length base.length l.length fr part (wI (i+1))) (CC code base l) (ao Z 29 0)) (1<=code.length∧(∃bz:Nat,fr=(bz:Int)∧(∃cd:Nat,wI (i+1)=(cd:Int)∧(bz<=cd∧cd<=code.length)∧(∃dt:Nat,part=(dt:Int)∧dt<base.length∧(∃ib:Int,bA Z 3 (aW base) (dt*1)=some (J ib:AV)∧(∃w:ie×Int,(([.bB 0 (0+bz*6) (cd-bz) 0 6 false,J ib]:LV)=[.bB 0 w.1.gq w.1.l.length 0 6 false,J w.2]∧aq [(0,gH code)] 1=gS w.1∧w.1.ok∧w.1.l.length<12000)∧ai ((fG w.1.l w.2).2 !=0) (Q (.aO [.bg,J (fG w.1.l w.2).2]) (aq [(0,.aL w.1.cs 50),(1,aD base 3)] 2)) ((bZ (fG w.1.l w.2).1).length=(fG w.1.l w.2).1.length*6∧((fG w.1.l w.2).1.length=0->l.length<=65536∧L (y9 code.length base.length l.length (wI (i+1)) (wI (part+1)) (wI (i+1))) (aq [(0,.aL w.1.cs 50),(1,aD base 3),(2,gH l)] 3) (ao Z 29 0))∧(1<=(fG w.1.l w.2).1.length->((bZ l).length=l.length*6∧l.length+(fG w.1.l w.2).1.length<=65536∧List.all (bZ (fG w.1.l w.2).1) AV.ec=true∧List.all (bZ (fG w.1.l w.2).1) je=true)∧L (y9 code.length base.length (l.length+(fG w.1.l w.2).1.length) (wI (i+1)) (wI (part+1)) (wI (i+1))) (aq [(0,.aL w.1.cs 50),(1,aD base 3),(2,.aL (bZ l++bZ (fG w.1.l w.2).1) 50)] 3) (ao Z 29 0)))))))))) (1<=code.length∧(∃bz:Nat,fr=(bz:Int)∧(∃cd:Nat,wI (i+1)=(cd:Int)∧(bz<=cd∧cd<=code.length)∧(∃dt:Nat,part=(dt:Int)∧dt<base.length∧(∃ib:Int,bA Z 3 (aW base) (dt*1)=some (J ib:AV)∧(∃w:ie×Int,(([.bB 0 (0+bz*6) (cd-bz) 0 6 false,J ib]:LV)=[.bB 0 w.1.gq w.1.l.length 0 6 false,J w.2]∧aq [(0,gH code)] 1=gS w.1∧w.1.ok∧w.1.l.length<12000)∧ai ((fG w.1.l w.2).2 !=0) (Q (.aO [.bg,J (fG w.1.l w.2).2]) (aq [(0,.aL w.1.cs 50),(1,aD base 3)] 2)) ((bZ (fG w.1.l w.2).1).length=(fG w.1.l w.2).1.length*6∧((fG w.1.l w.2).1.length=0->l.length<=65536∧L (y9 code.length base.length l.length (wI (i+1)) (wI (part+1)) (wI (i+1))) (aq [(0,.aL w.1.cs 50),(1,aD base 3),(2,gH l)] 3) (ao Z 29 0))∧(1<=(fG w.1.l w.2).1.length->((bZ l).length=l.length*6∧l.length+(fG w.1.l w.2).1.length<=65536∧List.all (bZ (fG w.1.l w.2).1) AV.ec=true∧List.all (bZ (fG w.1.l w.2).1) je=true)∧L (y9 code.length base.length (l.length+(fG w.1.l w.2).1.length) (wI (i+1)) (wI (part+1)) (wI (i+1))) (aq [(0,.aL w.1.cs 50),(1,aD base 3),(2,.aL (bZ l++bZ (fG w.1.l w.2).1) 50)] 3) (ao Z 29 0))))))))))) (Q (.aO [.ae 2 l.length 6,J 0]) (CC code base l))):=by kernel_rfl
theorem ahz{φ:bu}{a a' b:AV}(h:∀x,VR φ a x->VR φ a' x){x:Value}(hx:VR φ (.aO [a,b]) x):VR φ (.aO [a',b]) x:=by simp only[VR]at hx⊢;obtain⟨cs,rfl,v,vs,h1,h2,h3⟩:=hx;exact⟨cs,rfl,v,vs,h1,h _ h2,h3⟩
theorem Sq{P:Program}{f:FuncId}{args:LV}{H0:AH}{n sz:Nat}{b:AV}{l:List (Nat×bc)}{t:TypeId}(h:eC P f args H0 (.aO [.bg,b]) (aq l n))(hn:dL l n=none)(de:H0.bW<=n):
 eC P f args H0 (.aO [.ae n 0 sz,b]) (aq (l++[(n,.aL [] t)]) (n+1)):=
 K_ h (FB _ hn) de (fun φ bf hR x hx=>by subst hR;exact ahz (fun y hy=>rL hy) hx)
theorem agS{base:Int}:∀{l:bS} {wr:List (Int×Bool)},lP base wr l=true->∀x∈l,(x.op=19∨x.op=20)->x.ar<=base
 |i::l,wr,h,x,hx=>by
  unfold lP at h;split at h
  ·cases h
  ·rename_i hn;split at h
   ·cases h
   ·rcases List.mem_cons.1 hx with rfl|hx
    ·intro ho;rcases Int.lt_or_le base x.ar with h1|h1
     ·exact absurd (.inr ⟨ho,h1⟩) hn
     ·exact h1
    ·exact agS h x hx
theorem avH{base:Int}{l:bS}(h:kK l base=true):∀x∈l,(x.op=19∨x.op=20)->x.ar<=base:=by
 unfold kK at h;split at h
 ·cases h
 ·exact agS h
theorem Qf:bn Z J':=by
 refine dc Qe ?_;rintro⟨p,base⟩ args H ⟨rfl,rfl,hp,hl⟩;have hp:p.ok:=hp;simp only[Re,gS];cases hv:kK p.l base with
 |false=>
  have ha:fG p.l base=([],1):=by simp[fG,hv]
  rw[ha];refine Sq (n:=1) (l:=[(0,.aL p.cs 50)]) (t:=50) ?_ rfl (eh _);refine eS Qe 1000 (fun _=>[]) 17 (by kernel_rfl) ?_;rw[af3];exact⟨(p,base),⟨rfl,rfl,hp⟩,aY.2 ⟨fun _=>⟨rfl,rfl⟩,fun h=>by simp only[hv]at h;cases h⟩⟩
 |true=>
  have ha:fG p.l base=((u6 p.l base).aU,0):=by simp[fG,hv]
  rw[ha];refine eS Qe 1000 (fun _=>[]) 17 (by kernel_rfl) ?_;rw[af3];exact⟨(p,base),⟨rfl,rfl,hp⟩,aY.2 ⟨fun h=>(by simp only[hv]at h;cases h),fun _=>⟨(p,base),⟨rfl,rfl,hp,hl,avH hv⟩,rfl,rfl⟩⟩⟩
theorem avl(base:Int)(last:LP)(k:Int)(s:Al)(i:ba):(s.tG base last k i).aU.length=s.aU.length+1:=by have a1:=SP base last k (b8 i) (cf i) s;have a2:=SR base (b8 i) ((cf i).foldl (Al.jg base last k (b8 i)) s);have a3:=SO base last k (b8 i) ((b8 i).foldl (Al.j8 base) ((cf i).foldl (Al.jg base last k (b8 i)) s)).rD;have a5:((b8 i).foldl (Al.j8 base) ((cf i).foldl (Al.jg base last k (b8 i)) s)).rD.aU=((b8 i).foldl (Al.j8 base) ((cf i).foldl (Al.jg base last k (b8 i)) s)).aU:=rfl;show(_++[_]).length=_;rw[bj,a3.2,a5,a2.2,a1.2];rfl
theorem afG(base:Int)(last:LP):∀(l:bS) (k:Nat) (s:Al),(Al.sE base last k s l).aU.length=s.aU.length+l.length
 |[],k,s=>rfl
 |i::l,k,s=>by rw[Al.sE,afG base last l,avl];simp;omega
theorem aij(l:bS)(base:Int):(fG l base).1.length<=l.length:=by
 unfold fG;split
 ·show(u6 l base).aU.length<=_;unfold u6;rw[afG];simp[wC]
 ·simp
theorem aaO:∀(l:bS) (k:Nat),(bZ l).drop (k*6)=bZ (l.drop k)
 |l,0=>by simp
 |[],k+1=>by simp[bZ]
 |i::l,k+1=>by rw[Nat.add_mul,Nat.one_mul,Nat.add_comm,←List.drop_drop];have:(bZ (i::l)).drop 6=bZ l:=rfl;rw[this,aaO l k];rfl
theorem Sh:∀(l:bS) (k:Nat),(bZ l).take (k*6)=bZ (l.take k)
 |l,0=>by simp[bZ]
 |[],k+1=>by simp[bZ]
 |i::l,k+1=>by
  have h:=Sh l k;have e:(k+1)*6=(bP i).length+k*6:=by rw[Bn];omega
  rw[bZ,e,List.take_length_add_append,h];rfl
theorem aiF(l:bS)(i:Nat):fh (l.take i)<=fh l:=by unfold fh;exact(((List.take_sublist i l).filter _).length_le)
theorem aiE{l:bS}{i:Nat}(h:i<l.length):fh (l.take (i+1))=fh (l.take i)+(if l[i].op=19 then 1 else 0):=by unfold fh;rw[List.take_succ_eq_append_getElem h,List.filter_append,bj];by_cases h1:l[i].op=19<;>simp[h1]
def zF(aw:bS×Int):AV:=if aw.2=0 then .aO [.ae 2 aw.1.length 6,J 0]else .aO [.bg,J aw.2]
def zE(code:bS)(base:LI)(aw:bS×Int):AH:=if aw.2=0 then CC code base aw.1 else zJ code base
theorem asc{code:bS}{base:LI}{aw:bS×Int}(hc:code.length<12000)(hb:fh code<base.length)(rZ:base.length<100000):
 ∀q:Nat×Nat×Nat×bS,(q.1<=code.length∧q.2.1<=q.1∧(q.1<code.length->q.2.2.1=fh (code.take q.1))∧q.2.2.2.length<=q.2.1∧q.2.2.1<200000∧mA code base q.1 q.2.1 q.2.2.1 q.2.2.2 (code.drop q.1)=aw)->
 bF Z 29 54 2 (zF aw) (zE code base aw) (y9 code.length base.length q.2.2.2.length (q.2.1:Int) (q.2.2.1:Int) (q.1:Int)) (CC code base q.2.2.2) (ao Z 29 0):=by
 refine cX (fun q=>code.length-q.1) _ _ _ _ ?_;rintro⟨i,fr,part,l⟩ ⟨hi,gZ,Uo,hl,xf,hf⟩ ih;simp only at hi gZ Uo hl xf hf ih⊢;refine hD Qf 1000 Nd (by kernel_rfl) ?_;rw[ase];refine aY.2 ⟨fun an=>?_,fun a8=>?_⟩
 ·have an:i<code.length:=by simpa using an
  have Uo:=Uo an;have iu:=aiE an;have ij:=aiF code i;have bU:=ie.get (p:=⟨bZ code,0,code⟩) ⟨by rw[hI,Sh,List.take_length],by show code.length<60000;omega⟩ an;rw[fD]at bU;rw[dv an,mA]at hf;have bU:bA Z 50 (bZ code) (i*6)=some (.aj (bP code[i])):=bU;generalize code[i]=x at bU hf iu;obtain⟨o,r,a,n,s,ar⟩:=x;simp only at hf iu;have e1:wI (Int.ofNat code.length-1)=(code.length:Int)-1:=by rw[dz (by simp only[fX];omega) (by simp only[fX];omega)];simp
  refine⟨i,rfl,an,o,r,a,n,s,ar,bU,?_⟩;rw[e1,fE an (by omega),fE (n:=part+1) (iz part) (by omega)];have cut:¬(o≠19∧i+1<code.length)->((1<=code.length)∧∃bz:Nat,((fr:Int)=(bz:Int))∧∃cd:Nat,(((i+1:Nat):Int)=(cd:Int))∧((bz<=cd)∧cd<=code.length)∧
   ∃dt:Nat,((part:Int)=(dt:Int))∧(dt<base.length)∧∃ib:Int,(bA Z 3 (aW base) (dt*1)=some (J ib))∧
   ∃w:ie×Int,((([.bB 0 (0+(bz*6)) (cd-bz) 0 6 false,J ib]:LV)=[.bB 0 w.1.gq w.1.l.length 0 6 false,J w.2])∧(aq [(0,.aL (bZ code) 50)] 1=gS w.1)∧w.1.ok∧w.1.l.length<12000)∧
   ai ((fG w.1.l w.2).2 !=0)
    (iI (zF aw) (zE code base aw) (.aO [.bg,J (fG w.1.l w.2).2]) (aq [(0,.aL w.1.cs 50),(1,aD base 3)] 2))
    (((bZ (fG w.1.l w.2).1).length=(fG w.1.l w.2).1.length*6)∧
      ((fG w.1.l w.2).1.length=0->(l.length<=65536)∧bF Z 29 54 2 (zF aw) (zE code base aw) (y9 code.length base.length l.length ((i+1:Nat):Int) ((part+1:Nat):Int) ((i+1:Nat):Int)) (aq [(0,.aL w.1.cs 50),(1,aD base 3),(2,gH l)] 3) (ao Z 29 0))∧
      (1<=(fG w.1.l w.2).1.length->(((bZ l).length=l.length*6)∧(l.length+(fG w.1.l w.2).1.length<=65536)∧((bZ (fG w.1.l w.2).1).all AV.ec=true)∧(bZ (fG w.1.l w.2).1).all je=true)∧
        bF Z 29 54 2 (zF aw) (zE code base aw) (y9 code.length base.length (l.length+(fG w.1.l w.2).1.length) ((i+1:Nat):Int) ((part+1:Nat):Int) ((i+1:Nat):Int)) (aq [(0,.aL w.1.cs 50),(1,aD base 3),(2,.aL (bZ l++bZ (fG w.1.l w.2).1) 50)] 3) (ao Z 29 0)))):=by
   intro hn;rw[az hn]at hf;have hpb:part<base.length:=by omega
   have kD:((code.drop fr).take (i+1-fr)).length=i+1-fr:=by simp;omega
   have hpo:(⟨bZ code,0+fr*6,(code.drop fr).take (i+1-fr)⟩:ie).ok:=⟨by show((bZ code).drop (0+fr*6)).take (((code.drop fr).take (i+1-fr)).length*6)=bZ ((code.drop fr).take (i+1-fr));rw[fD,aaO,kD,Sh],by show((code.drop fr).take (i+1-fr)).length<60000;omega⟩;have Ts:=aij ((code.drop fr).take (i+1-fr)) (base.getD part 0);rw[kD]at Ts;refine⟨by omega,fr,rfl,i+1,rfl,⟨by omega,by omega⟩,part,rfl,hpb,_,ia hpb,(⟨bZ code,0+fr*6,(code.drop fr).take (i+1-fr)⟩,base.getD part 0),⟨by simp only[kD],rfl,hpo,by simp only[kD];omega⟩,aY.2 ⟨fun he=>?_,fun he=>?_⟩⟩
   ·have he:(fG ((code.drop fr).take (i+1-fr)) (base.getD part 0)).2≠0:=by simpa using he
    rw[aN he]at hf;subst hf;simp only[zF,zE,az he];exact⟨rfl,rfl⟩
   ·have he:(fG ((code.drop fr).take (i+1-fr)) (base.getD part 0)).2=0:=by simpa using he
    rw[az (fun h=>h he)]at hf;have next:=ih (i+1,i+1,part+1,l++(fG ((code.drop fr).take (i+1-fr)) (base.getD part 0)).1) ⟨by simp;omega,by simp,fun h=>?_,by simp only[bj];omega,by simp;omega,hf⟩ (by simp;omega)
    ·simp only at next
     refine⟨by rw[o3],fun h0=>⟨by omega,?_⟩,fun h1=>⟨⟨by rw[o3],by simp only;omega,(Hj _).1,(Hj _).2⟩,?_⟩⟩
     ·have h0:(fG ((code.drop fr).take (i+1-fr)) (base.getD part 0)).1=[]:=List.eq_nil_of_length_eq_zero h0;rw[h0,gz]at next
      exact next
     ·simp only[CC,gH,zz,bj]at next
      exact next
    ·have h:i+1<code.length:=h;have ho:o=19:=by
      rcases Decidable.em (o=19)with h1|h1
      ·exact h1
      ·exact absurd ⟨h1,h⟩ hn
     rw[aN ho]at iu;show part+1=fh (code.take (i+1));omega
  refine aY.2 ⟨fun ho=>aY.2 ⟨fun h2=>?_,fun h2=>?_⟩,fun ho=>?_⟩
  ·have ho:o≠19:=by simpa using ho
   have h2:i+1<code.length:=by simp at h2;omega
   rw[aN ⟨ho,h2⟩]at hf;rw[az ho]at iu;exact ih (i+1,fr,part,l) ⟨by simp;omega,by simp;omega,fun _=>by show part=fh (code.take (i+1));omega,hl,xf,hf⟩ (by simp;omega)
  ·exact cut (fun h=>by simp at h2;omega)
  ·exact cut (fun h=>h.1 (by simpa using ho))
 ·have a8:code.length<=i:=by simpa using a8
  rw[dV a8]at hf;have hf:(l,(0:Int))=aw:=hf;subst hf;exact⟨rfl,rfl⟩
theorem Qg:bn Z Ka:=by
 refine dc Qf ?_;rintro⟨code,base⟩ args H ⟨rfl,rfl,hc,hb,rZ⟩;have rj:eC Z 29 [.ae 0 code.length 6,.ae 1 base.length 1] (zJ code base) (zF (jZ code base)) (zE code base (jZ code base)):=by refine eS Qf 1000 Nd 54 (by kernel_rfl) ?_;rw[asd];refine xa (n:=2) (l:=[(0,gH code),(1,aD base 3)]) (T:=[(0,.ae 0 code.length 6),(1,.ae 1 base.length 1),(4,.bg),(6,J 0),(7,J 0),(12,.ae 0 code.length 6),(13,J (Int.ofNat code.length)),(14,J 0)]) 6 50 [4] ?_ rfl (by kernel_rfl);exact asc hc hb rZ (0,0,0,[]) ⟨by simp,by simp,fun _=>by simp[fh],by simp,by simp,rfl⟩
 simp only[Rf];by_cases h0:(jZ code base).2=0
 ·simp only[zF,zE,aN h0]at rj;rw[h0];exact rj
 ·simp only[zF,zE,az h0]at rj;have he:(jZ code base).1=[]:=by
   have key:∀(rest:bS) (i fr part:Nat) (l:bS),(mA code base i fr part l rest).2≠0->(mA code base i fr part l rest).1=[]:=by
    intro rest;induction rest with
    |nil=>intro i fr part l h;exact absurd rfl h
    |cons x rest ih=>
     intro i fr part l h;unfold mA at h⊢;split
     ·rename_i h1;rw[aN h1]at h;exact ih _ _ _ _ h
     ·rename_i h1;rw[az h1]at h;split
      ·rfl
      ·rename_i h2;rw[az h2]at h;exact ih _ _ _ _ h
   exact key code 0 0 0 [] h0
  rw[he];exact Sq (n:=2) (l:=[(0,gH code),(1,aD base 3)]) (t:=50) rj rfl (eh _)
structure Tm where
 x:Int
 cA:Int
 rG:Int
 mM:Int
def tZ(t:Tm):LV:=[J t.x,J t.cA,J t.rG,J t.mM]
def jQ:List Tm->LV
 |[]=>[]
 |t::l=>tZ t++jQ l
theorem aaW{a b:Tm}(h:tZ a=tZ b):a=b:=by obtain⟨a1,a2,a3,a4⟩:=a;obtain⟨b1,b2,b3,b4⟩:=b;simp only[tZ,List.cons.injEq,AV.cM.injEq,true_and,and_true]at h;obtain⟨rfl,rfl,rfl,rfl⟩:=h;rfl
theorem aa0:∀l:List Tm,(jQ l).length=l.length*4
 |[]=>rfl
 |t::l=>by simp[jQ,tZ,aa0 l];omega
theorem aaZ:∀{l m:List Tm},jQ l=jQ m->l=m
 |[],[],_=>rfl
 |[],i::_,h=>by simp[jQ,tZ]at h
 |i::_,[],h=>by simp[jQ,tZ]at h
 |t::l,u::m,h=>by simp only[jQ]at h;have h2:=List.append_inj h rfl;rw[aaW h2.1,aaZ h2.2]
theorem aaX:∀l m:List Tm,jQ (l++m)=jQ l++jQ m
 |[],m=>rfl
 |t::l,m=>by simp[jQ,aaX l m]
theorem ajw:∀l:List Tm,(jQ l).all AV.ec=true∧(jQ l).all je=true
 |[]=>⟨rfl,rfl⟩
 |t::l=>by have:=ajw l;simp only[jQ,List.all_append,this.1,this.2,Bool.and_true];exact⟨rfl,rfl⟩
theorem aaY{l:List Tm}{i:Nat}(h:i<l.length):∃r,(jQ l).drop (i*4)=tZ l[i]++r:=by
 induction l generalizing i with
 |nil=>simp at h
 |cons t l ih=>
  cases i with
  |zero=>exact⟨jQ l,by simp[jQ]⟩
  |succ i=>obtain⟨r,hr⟩:=ih (i:=i) (by simpa using h);refine⟨r,?_⟩;rw[Nat.add_mul,Nat.one_mul,Nat.add_comm,←List.drop_drop];exact hr
theorem Sk{l:List Tm}{i:Nat}(h:i<l.length)(j:Nat)(hj:j<4):bA Z 3 (jQ l) (i*4+j)=(tZ l[i])[j]? :=by obtain⟨r,hr⟩:=aaY h;rw[v5,←List.getElem?_drop,hr,List.getElem?_append_left (by exact hj)]
def tC(l:List Tm):bc:=.aL (jQ l) 179
def ZG:dP (LI×Int)where
 bN w A H:=A=[.ae 0 w.1.length 1,J w.2]∧H=cH w.1∧w.1.length<100000
 v w:=.aA (decide (w.2∈w.1))
 aU w:=cH w.1
theorem ahL:ZG.dT:=by rintro⟨l,a⟩ ⟨l',a'⟩ A H ⟨h1,h2,_⟩ ⟨k1,k2,_⟩;have e:=HN (h2.symm.trans k2);rw[h1]at k1;simp only[List.cons.injEq,AV.cM.injEq,true_and,and_true]at k1 e;rw[e,k1.2]
def mu(t:Tm)(k:Int)(ws:LI):Bool:=decide (t.rG<=k)&&(decide (t.mM>k)||decide (t.x∈ws))
def agP:dP (Tm×Int×LI)where
 bN w A H:=A=[.aj (tZ w.1),J w.2.1,.ae 0 w.2.2.length 1]∧H=cH w.2.2∧w.2.2.length<100000
 v w:=.aA (mu w.1 w.2.1 w.2.2)
 aU w:=cH w.2.2
theorem avF:agP.dT:=by rintro⟨t,k,l⟩ ⟨t',k',l'⟩ A H ⟨h1,h2,_⟩ ⟨k1,k2,_⟩;have e:=HN (h2.symm.trans k2);rw[h1]at k1;simp only[List.cons.injEq,AV.aj.injEq,AV.cM.injEq,true_and,and_true]at k1 e;rw[e,aaW k1.1,k1.2.1]
def vW:List Tm->Int->Int
 |[],x=>x
 |t::l,x=>if t.x=x then t.cA else vW l x
def qP(l:List Tm):AH:=aq [(0,tC l)] 1
def aea:dP (List Tm×Int)where
 bN w A H:=A=[.ae 0 w.1.length 4,J w.2]∧H=qP w.1∧w.1.length<100000
 v w:=J (vW w.1 w.2)
 aU w:=qP w.1
theorem anK:aea.dT:=by rintro⟨l,a⟩ ⟨l',a'⟩ A H ⟨h1,h2,_⟩ ⟨k1,k2,_⟩;have e:=h2.symm.trans k2;have q:=congrArg (fun H=>AH.bD H 0) e;simp only[qP,eA]at q;have e0:=aaZ (bc.aL.inj (dk q)).1;rw[h1]at k1;simp only[List.cons.injEq,AV.cM.injEq,true_and,and_true]at k1 e0;rw[e0,k1.2]
def R1:Ev.bC:=cB 142 (cO ZG ahL cV) Ka
def R2:Ev.bC:=cB 133 (cO agP avF cV) R1
def R3:Ev.bC:=cB 114 (cO aea anK cV) R2
abbrev AS x0 x1 x2 x3:=bk [(0,.ae 0 x0 x1),(1,J x2),(5,J x3)]
theorem aru(l:LI)(a:Int)(L:LT)(Q:QT):
 b_ Z Ka (fun _=>[0,1,5]) L Q 1000 142 [.ae 0 l.length 1,J a] (cH l)=(
 L (AS l.length 1 a 0) (cH l) (ao Z 142 0)):=by kernel_rfl
theorem arv(l:LI)(a i:Int)(L:LT)(Q:QT):
 cT Z Ka (fun _=>[0,1,5]) L Q 1000 142 1 (AS l.length 1 a i) (ao Z 142 0) (cH l)=(
 ai (decide (i<Int.ofNat l.length)) (∃aI:Nat,i=(aI:Int)∧aI<l.length∧(∃n:Int,bA Z 3 (aW l) (aI*1)=some (J n:AV)∧ai (n==a) (Q (.aA true) (cH l)) (L (AS l.length 1 a (wI (i+1))) (cH l) (ao Z 142 0)))) (Q (.aA false) (cH l))):=by kernel_rfl
theorem aq5(t:Tm)(k:Int)(l:LI)(L:LT)(Q:QT):
 b_ Z R1 (fun _=>[]) L Q 1000 133 [.aj (tZ t),J k,.ae 0 l.length 1] (cH l)=(
 ai (decide (t.rG<=k)) (ai (decide (t.mM>k)) (Q (.aA true) (cH l)) (∃w:LI×Int,(([.ae 0 l.length 1,J t.x]:LV)=[.ae 0 w.1.length 1,J w.2]∧cH l=cH w.1∧w.1.length<100000)∧Q (.aA (decide (w.2∈w.1))) (cH w.1))) (Q (.aA false) (cH l))):=by kernel_rfl
theorem aqm(l:List Tm)(a:Int)(L:LT)(Q:QT):
 b_ Z R2 (fun _=>[0,1,5]) L Q 1000 114 [.ae 0 l.length 4,J a] (qP l)=(
 L (AS l.length 4 a 0) (qP l) (ao Z 114 0)):=by kernel_rfl
theorem aqn(l:List Tm)(a i:Int)(L:LT)(Q:QT):
 cT Z R2 (fun _=>[0,1,5]) L Q 1000 114 1 (AS l.length 4 a i) (ao Z 114 0) (qP l)=(
 ai (decide (i<Int.ofNat l.length)) (∃aI:Nat,i=(aI:Int)∧aI<l.length∧(∃n:Int,bA Z 3 (jQ l) (aI*4+0)=some (J n:AV)∧ai (n==a) (∃bz:Nat,i=(bz:Int)∧bz<l.length∧(∃aP:Int,bA Z 3 (jQ l) (bz*4+1)=some (J aP:AV)∧Q (J aP) (qP l))) (L (AS l.length 4 a (wI (i+1))) (qP l) (ao Z 114 0)))) (Q (J a) (qP l))):=by kernel_rfl
theorem art{l:LI}{a:Int}(hl:l.length<100000):∀i:Nat,(i<=l.length∧decide (a∈l.drop i)=decide (a∈l))->
 bF Z 142 18 1 (.aA (decide (a∈l))) (cH l) (AS l.length 1 a (i:Int)) (cH l) (ao Z 142 0):=by
 refine cX (fun i=>l.length-i) _ _ _ _ ?_;rintro i ⟨hi,hf⟩ ih;refine hD Qg 1000 (fun _=>[0,1,5]) (by kernel_rfl) ?_;rw[arv];refine aY.2 ⟨fun an=>?_,fun a8=>?_⟩
 ·have an:i<l.length:=by simpa using an
  rw[dv an]at hf;have hg:l.getD i 0=l[i]:=by simp[List.getD,jN an]
  refine⟨i,rfl,an,l[i],by rw[ia an,hg],aY.2 ⟨fun h=>?_,fun h=>?_⟩⟩
  ·have h:l[i]=a:=by simpa using h
   rw[←hf];exact⟨by simp[h],rfl⟩
  ·have h:¬l[i]=a:=by simpa using h
   rw[fE an (by omega)];have h2:¬a=l[i]:=fun e=>h e.symm
   refine ih (i+1) ⟨by omega,Eq.trans ?_ hf⟩ (by omega);simp only[ss,h2,false_or]
 ·have a8:l.length<=i:=by simpa using a8
  rw[dV a8]at hf;rw[←hf];exact⟨rfl,rfl⟩
theorem Zc:bn Z R1:=by refine dc Qg ?_;rintro⟨l,a⟩ args H ⟨rfl,rfl,hl⟩;refine eS Qg 1000 (fun _=>[0,1,5]) 18 (by kernel_rfl) ?_;rw[aru];exact art hl 0 ⟨by simp,by simp⟩
theorem QE:bn Z R2:=by
 refine dc Zc ?_;rintro⟨t,k,l⟩ args H ⟨rfl,rfl,hl⟩;refine eS Zc 1000 (fun _=>[]) 23 (by kernel_rfl) ?_;rw[aq5];refine aY.2 ⟨fun h1=>aY.2 ⟨fun h2=>⟨?_,rfl⟩,fun h2=>⟨(l,t.x),⟨rfl,rfl,hl⟩,?_,rfl⟩⟩,fun h1=>⟨?_,rfl⟩⟩;all_goals
  congr 1;simp at h1;try simp at h2
  simp[mu,h1];try omega
theorem aql{l:List Tm}{a aw:Int}(hl:l.length<100000):∀i:Nat,(i<=l.length∧vW (l.drop i) a=aw)->
 bF Z 114 25 1 (J aw) (qP l) (AS l.length 4 a (i:Int)) (qP l) (ao Z 114 0):=by
 refine cX (fun i=>l.length-i) _ _ _ _ ?_;rintro i ⟨hi,hf⟩ ih;refine hD QE 1000 (fun _=>[0,1,5]) (by kernel_rfl) ?_;rw[aqn];refine aY.2 ⟨fun an=>?_,fun a8=>?_⟩
 ·have an:i<l.length:=by simpa using an
  have c0:=Sk an 0 (by omega);have c1:=Sk an 1 (by omega);rw[dv an,vW]at hf;generalize l[i]=t at c0 c1 hf;refine⟨i,rfl,an,t.x,c0,aY.2 ⟨fun h=>?_,fun h=>?_⟩⟩
  ·have h:t.x=a:=by simpa using h
   rw[aN h]at hf;subst hf;exact⟨i,rfl,an,t.cA,c1,rfl,rfl⟩
  ·have h:¬t.x=a:=by simpa using h
   rw[az h]at hf;rw[fE an (by omega)];exact ih (i+1) ⟨by omega,hf⟩ (by omega)
 ·have a8:l.length<=i:=by simpa using a8
  rw[dV a8]at hf;have hf:a=aw:=hf;subst hf;exact⟨rfl,rfl⟩
theorem zk:bn Z R3:=by refine dc QE ?_;rintro⟨l,a⟩ args H ⟨rfl,rfl,hl⟩;refine eS QE 1000 (fun _=>[0,1,5]) 25 (by kernel_rfl) ?_;rw[aqm];exact aql hl 0 ⟨by simp,by simp⟩
def fS:Nat->LP->bS->LP
 |_,m,[]=>m
 |k,m,i::l=>fS (k+1) ((cf i++b8 i).foldl (fun m r=>up r (k:Int) m) m) l
def uO(base k:Int)(ws:LI)(tk:List Bool)(t:Tm):List Bool:=if mu t k ws then tk.set (t.cA-base).toNat true else tk
def nK(base k:Int)(ws:LI)(ts:List Tm):List Bool:=ts.foldl (uO base k ws) (List.replicate (ts.length+2) false)
def pJ(tk:List Bool):Nat->Nat->Nat
 |0,n=>n
 |f+1,n=>if tk.getD n false then pJ tk f (n+1)else n
structure Nu where
 ts:List Tm
 fC:List (Int×Bool)
def Nu.iB(base:Int)(last:LP)(k:Int)(ws:LI)(s:Nu)(w:Int):Nu:=
 if w<=base∨dh s.fC w then s
 else⟨s.ts++[⟨w,base+(pJ (nK base k ws s.ts) (s.ts.length+1) 1:Nat),k,fK w last⟩],up w true s.fC⟩
def Nu.rF(base:Int)(last:LP):Nat->Nu->bS->Nu
 |_,s,[]=>s
 |k,s,i::l=>Nu.rF base last (k+1) ((b8 i).foldl (Nu.iB base last k (b8 i)) s) l
def tp(l:bS)(base:Int):List Tm:=(Nu.rF base (fS 0 [] l) 0 ⟨[],[]⟩ l).ts
abbrev sZ x0 x1:=aq [(0,.aL x0 50),(1,tC x1)] 2
def VM:dP (ie×Int)where
 bN w A H:=A=[.bB 0 w.1.gq w.1.l.length 0 6 false,J w.2]∧H=gS w.1∧w.1.ok∧w.1.l.length<12000∧0<=w.2∧w.2<=4096
 v w:=.ae 1 (tp w.1.l w.2).length 4
 aU w:=sZ w.1.cs (tp w.1.l w.2)
theorem anE:VM.dT:=by rintro w w' A H ⟨h1,h2,h3,_⟩ ⟨k1,k2,k3,_⟩;rw[FL h1 h2 h3 k1 k2 k3]
def R4:Ev.bC:=cB 113 (cO VM anE cV) R3
def sf:Nat->LN:=nk [(3,[0,1,5,6]),(7,[0,1,5,6,7,8]),(13,[0,1,5,9,10,11]),(17,[0,1,5,9,10,11,12,13]),(22,[0,1,5,9,10,11,12,13,14,15]),(27,[0,1,5,9,10,11,12,13,14,16])]
def nI(l:List Bool):LV:=l.map AV.aA
abbrev Jq x0 x1 x2 x3 x4:=bk [(0,.bB 0 x0 x1 0 6 x2),(1,J x3),(5,.aS 1),(6,J x4)]
theorem aqk(cs:LV)(off len:Nat)(base:Int)(L:LT)(Q:QT):
 b_ Z R3 sf L Q 2000 113 [.bB 0 off len 0 6 false,J base] (aq [(0,.aL cs 50)] 1)=(
 L (Jq off len false base 0) (aq [(0,.aL cs 50),(1,.bM [] 0 true)] 2) (ao Z 113 0)):=by kernel_rfl
abbrev Jr x0 x1 x2 x3 x4 x5 x6:=bk [(0,.bB 0 x0 x1 0 6 x2),(1,J x3),(5,.aS 1),(6,J x4),(7,.ae 2 x5 1),(8,J x6)]
theorem ap9(cs:LV)(off len:Nat)(base i:Int)(m:LP)(L:LT)(Q:QT):
 cT Z R3 sf L Q 2000 113 1 (Jq off len false base i) (ao Z 113 0) (aq [(0,.aL cs 50),(1,gT m)] 2)=(
 ai (decide (i<Int.ofNat len))
  (∃aI:Nat,(i=(aI:Int))∧
    (aI<len)∧
    ∃n:Int,∃aP:Int,∃bp:Int,∃bI:Int,∃s:LN,∃cS:Int,(bA Z 50 cs (off+(aI*6))=some (.aj [J n,J aP,J bp,J bI,.aa s,J cS]:AV))∧
    ∃bz:Nat,(i=(bz:Int))∧
    (bz<len)∧
    ∃ib:Int,∃jI:Int,∃np:Int,∃oH:Int,∃dO:LN,∃oI:Int,(bA Z 50 cs (off+(bz*6))=some (.aj [J ib,J jI,J np,J oH,.aa dO,J oI]:AV))∧
    ∃w:ba,((([.aj [J n,J aP,J bp,J bI,.aa s,J cS]]:LV)=[.aj [J (ba.op w),J (ba.r w),J (ba.a w),J (ba.n w),.aa w.cR,J (ba.ar w)]])∧
    aq [] 0=ax)∧
    (Option.rec ((fun _=>none) ()) (fun val=>(fun val=>(fun x=>some (AV.aj x)) val) val) (ph cs (off+bz*6) ((fun x=>x.size) Z.types[50]))=some (.aj [J ib,J jI,J np,J oH,.aa dO,J oI]:AV))∧
    ∃ab:ba,((([.aj [J ib,J jI,J np,J oH,.aa dO,J oI]]:LV)=[.aj [J (ba.op ab),J (ba.r ab),J (ba.a ab),J (ba.n ab),.aa ab.cR,J (ba.ar ab)]])∧
    aq [] 0=ax)∧
    (List.length (aW (b8 ab))=(List.length (b8 ab))*1)∧
    ((List.length (b8 ab)=0->
      (List.length (cf w)<=65536)∧
      L (Jr off len false base i (List.length (cf w)) 0) (aq [(0,.aL cs 50),(1,.bM (bK J 0 m) (List.length m) true),(2,.aL (aW (cf w)) 3)] 3) (ao Z 113 1)))∧
    (1<=List.length (b8 ab)->
      ((List.length (aW (cf w))=(List.length (cf w))*1)∧
      ((List.length (cf w))+(List.length (b8 ab))<=65536)∧
      (List.all (aW (b8 ab)) AV.ec=true)∧
      List.all (aW (b8 ab)) je=true)∧
      L (Jr off len false base i (List.length (cf w)+List.length (b8 ab)) 0) (aq [(0,.aL cs 50),(1,.bM (bK J 0 m) (List.length m) true),(2,.aL ((aW (cf w))++(aW (b8 ab))) 3)] 3) (ao Z 113 1)))
  (L (bk [(0,.bB 0 off len 0 6 false),(1,J base),(5,.aS 1),(9,.bg),(10,.aS 2),(11,J 0)]) (aq [(0,.aL cs 50),(1,.bM (bK J 0 m) (List.length m) true),(2,.bM [] 0 true)] 3) (ao Z 113 2))):=by kernel_rfl
theorem aqb(cs:LV)(off len:Nat)(base i k:Int)(m:LP)(rs:LI)(L:LT)(Q:QT):
 cT Z R3 sf L Q 2000 113 1 (Jr off len false base i rs.length k) (ao Z 113 1) (aq [(0,.aL cs 50),(1,gT m),(2,aD rs 3)] 3)=(
 ai (decide (k<Int.ofNat rs.length)) (∃aI:Nat,k=(aI:Int)∧aI<rs.length∧(∃n:Int,bA Z 3 (aW rs) (aI*1)=some (J n:AV)∧(∃bQ:List (AV×AV×Nat),∃c':Nat,lN Z 3 (bK J 0 m) m.length (J n) (J i)=some (bQ,c')∧L (Jr off len false base i rs.length (wI (k+1))) (aq [(0,.aL cs 50),(1,.bM bQ c' true),(2,aD rs 3)] 3) (ao Z 113 1)))) (L (Jq off len false base (wI (i+1))) (aq [(0,.aL cs 50),(1,gT m)] 2) (ao Z 113 0))):=by kernel_rfl
abbrev Js x0 x1 x2 x3 x4 x5:=bk [(0,.bB 0 x0 x1 0 6 x2),(1,J x3),(5,.aS 1),(9,.ae 2 x4 4),(10,.aS 3),(11,J x5)]
abbrev CS x0 x1 x2 x3 x4 x5 x6 x7:=bk [(0,.bB 0 x0 x1 0 6 x2),(1,J x3),(5,.aS 1),(9,.ae 2 x4 4),(10,.aS 3),(11,J x5),(12,.ae 4 x6 1),(13,J x7)]
abbrev HF x0 x1 x2 x3:=aq [(0,.aL x0 50),(1,gT x1),(2,tC x2),(3,mN x3)] 4
abbrev EB x0 x1 x2 x3 x4:=aq [(0,.aL x0 50),(1,gT x1),(2,tC x2),(3,mN x3),(4,aD x4 3)] 5
theorem aqc(cs:LV)(off len:Nat)(base i:Int)(m:LP)(s:Nu)(L:LT)(Q:QT):
 cT Z R3 sf L Q 2000 113 1 (Js off len false base s.ts.length i) (ao Z 113 2) (HF cs m s.ts s.fC)=(
 ai (decide (i<Int.ofNat len)) (∃aI:Nat,i=(aI:Int)∧aI<len∧(∃n:Int,∃aP:Int,∃bp:Int,∃bI:Int,∃dO:LN,∃cS:Int,bA Z 50 cs (off+aI*6)=some (.aj [J n,J aP,J bp,J bI,.aa dO,J cS]:AV)∧(∃w:ba,(([.aj [J n,J aP,J bp,J bI,.aa dO,J cS]]:LV)=[.aj (bP w)]∧aq [] 0=ax)∧L (CS off len false base s.ts.length i (b8 w).length 0) (EB cs m s.ts s.fC (b8 w)) (ao Z 113 3)))) (Q (.ae 1 s.ts.length 4) (sZ cs s.ts))):=by kernel_rfl
abbrev ym x0 x1 x2 x3 x4 x5:=aq [(0,.aL x0 50),(1,gT x1),(2,tC x2),(3,mN x3),(4,aD x4 3),(5,.c9 x5 4)] 6
theorem aqe(cs:LV)(off len:Nat)(base i k:Int)(m:LP)(s:Nu)(ws:LI)(L:LT)(Q:QT):
 cT Z R3 sf L Q 2000 113 1 (CS off len false base s.ts.length i ws.length k) (ao Z 113 3) (EB cs m s.ts s.fC ws)=(
 ai (decide (k<Int.ofNat ws.length)) (∃aI:Nat,k=(aI:Int)∧aI<ws.length∧(∃n:Int,bA Z 3 (aW ws) (aI*1)=some (J n:AV)∧ai (decide (n<=base)) (L (CS off len false base s.ts.length i ws.length (wI (k+1))) (EB cs m s.ts s.fC ws) (ao Z 113 3)) (∃bz:Nat,k=(bz:Int)∧bz<ws.length∧(∃aP:Int,bA Z 3 (aW ws) (bz*1)=some (J aP:AV)∧(∃b:Bool,∃iE:Bool,gf Z 3 4 (bK vB 0 s.fC) (J aP)=some (.aA b,iE)∧ai b (L (CS off len false base s.ts.length i ws.length (wI (k+1))) (EB cs m s.ts s.fC ws) (ao Z 113 3)) (∃cd:Nat,wI (Int.ofNat s.ts.length+2)=(cd:Int)∧cd<=65536∧L (bk [(0,.bB 0 off len 0 6 false),(1,J base),(5,.aS 1),(9,.ae 2 s.ts.length 4),(10,.aS 3),(11,J i),(12,.ae 4 ws.length 1),(13,J k),(14,.bB 5 0 cd cd 1 true),(15,J 0)]) (ym cs m s.ts s.fC ws (jq [.aA false] cd)) (ao Z 113 4))))))) (L (Js off len false base s.ts.length (wI (i+1))) (HF cs m s.ts s.fC) (ao Z 113 2))):=by kernel_rfl
theorem aqg(cs:LV)(off len:Nat)(base i k j:Int)(m:LP)(s:Nu)(ws:LI)(tk:List Bool)(L:LT)(Q:QT):
 cT Z R3 sf L Q 2000 113 1 (bk [(0,.bB 0 off len 0 6 false),(1,J base),(5,.aS 1),(9,.ae 2 s.ts.length 4),(10,.aS 3),(11,J i),(12,.ae 4 ws.length 1),(13,J k),(14,.bB 5 0 tk.length tk.length 1 true),(15,J j)]) (ao Z 113 4) (ym cs m s.ts s.fC ws (nI tk))=(
 ai (decide (j<Int.ofNat s.ts.length)) (∃aI:Nat,j=(aI:Int)∧aI<s.ts.length∧(∃n:Int,∃aP:Int,∃bp:Int,∃bI:Int,bA Z 179 (jQ s.ts) (aI*4)=some (.aj [J n,J aP,J bp,J bI]:AV)∧(∃w:Tm×Int×LI,(([.aj [J n,J aP,J bp,J bI],J i,.ae 0 ws.length 1]:LV)=[.aj [J w.1.x,J w.1.cA,J w.1.rG,J w.1.mM],J w.2.1,.ae 0 w.2.2.length 1]∧cH ws=cH w.2.2∧w.2.2.length<100000)∧ai (mu w.1 w.2.1 w.2.2) (∃bz:Nat,j=(bz:Int)∧bz<s.ts.length∧(∃cS:Int,bA Z 3 (jQ s.ts) (bz*4+1)=some (J cS:AV)∧(∃cd:Nat,wI (cS-base)=(cd:Int)∧cd<tk.length∧0+cd*1+1<=(nI tk).length∧L (bk [(0,.bB 0 off len 0 6 false),(1,J base),(5,.aS 1),(9,.ae 2 s.ts.length 4),(10,.aS 3),(11,J i),(12,.ae 4 ws.length 1),(13,J k),(14,.bB 5 0 tk.length tk.length 1 true),(15,J (wI (j+1)))]) (ym cs m s.ts s.fC w.2.2 (fA (nI tk) (0+cd*1) [.aA true])) (ao Z 113 4)))) (L (bk [(0,.bB 0 off len 0 6 false),(1,J base),(5,.aS 1),(9,.ae 2 s.ts.length 4),(10,.aS 3),(11,J i),(12,.ae 4 ws.length 1),(13,J k),(14,.bB 5 0 tk.length tk.length 1 true),(15,J (wI (j+1)))]) (ym cs m s.ts s.fC w.2.2 (nI tk)) (ao Z 113 4))))) (L (bk [(0,.bB 0 off len 0 6 false),(1,J base),(5,.aS 1),(9,.ae 2 s.ts.length 4),(10,.aS 3),(11,J i),(12,.ae 4 ws.length 1),(13,J k),(14,.bB 5 0 tk.length tk.length 1 true),(16,J 1)]) (ym cs m s.ts s.fC ws (nI tk)) (ao Z 113 5))):=by kernel_rfl
theorem aqi(cs:LV)(off len:Nat)(base i k n:Int)(m:LP)(s:Nu)(ws:LI)(tk:List Bool)(L:LT)(Q:QT):
 cT Z R3 sf L Q 2000 113 1 (bk [(0,.bB 0 off len 0 6 false),(1,J base),(5,.aS 1),(9,.ae 2 s.ts.length 4),(10,.aS 3),(11,J i),(12,.ae 4 ws.length 1),(13,J k),(14,.bB 5 0 tk.length tk.length 1 true),(16,J n)]) (ao Z 113 5) (ym cs m s.ts s.fC ws (nI tk))=(
 ∃aI:Nat,n=(aI:Int)∧aI<tk.length∧(∃b:Bool,bA Z 4 (nI tk) (0+aI*1)=some (.aA b:AV)∧ai b (L (bk [(0,.bB 0 off len 0 6 false),(1,J base),(5,.aS 1),(9,.ae 2 s.ts.length 4),(10,.aS 3),(11,J i),(12,.ae 4 ws.length 1),(13,J k),(14,.bB 5 0 tk.length tk.length 1 true),(16,J (wI (n+1)))]) (ym cs m s.ts s.fC ws (nI tk)) (ao Z 113 5)) (∃bz:Nat,k=(bz:Int)∧bz<ws.length∧(∃aP:Int,bA Z 3 (aW ws) (bz*1)=some (J aP:AV)∧(∃bQ:List (AV×AV×Nat),∃c':Nat,lN Z 3 (bK vB 0 s.fC) s.fC.length (J aP) (.aA true)=some (bQ,c')∧(∃cd:Nat,k=(cd:Int)∧cd<ws.length∧(∃bp:Int,bA Z 3 (aW ws) (cd*1)=some (J bp:AV)∧(∃dt:Nat,k=(dt:Int)∧dt<ws.length∧(∃bI:Int,bA Z 3 (aW ws) (dt*1)=some (J bI:AV)∧(∃cS:Int,∃iE:Bool,gf Z 3 3 (bK J 0 m) (J bI)=some (J cS,iE)∧((jQ s.ts).length=s.ts.length*4∧s.ts.length+1<=65536∧true=true∧true=true)∧L (CS off len false base (s.ts.length+1) i ws.length (wI (k+1))) (aq [(0,.aL cs 50),(1,gT m),(2,.aL (jQ s.ts++[J bp,J (wI (base+n)),J i,J cS]) 179),(3,.bM bQ c' true),(4,aD ws 3)] 5) (ao Z 113 3))))))))))):=by kernel_rfl
theorem aar:∀(l:List Bool) (i:Nat),(l.set i true).count true<=l.count true+1
 |[],i=>by simp
 |b::l,0=>by cases b<;>simp
 |b::l,i+1=>by have:=aar l i;simp only[List.set_cons_succ,List.count_cons];omega
theorem agI(base k:Int)(ws:LI):∀(ts:List Tm) (tk:List Bool),(ts.foldl (uO base k ws) tk).length=tk.length∧(ts.foldl (uO base k ws) tk).count true<=tk.count true+ts.length
 |[],tk=>⟨rfl,by simp⟩
 |t::ts,tk=>by
  have h:=agI base k ws ts (uO base k ws tk t);have h1:(uO base k ws tk t).length=tk.length∧(uO base k ws tk t).count true<=tk.count true+1:=by
   unfold uO;split
   ·exact⟨by simp,aar _ _⟩
   ·exact⟨rfl,by omega⟩
  simp only[ik,bR];exact⟨h.1.trans h1.1,by omega⟩
theorem ZE:∀(l:List Bool),(∀i,i<l.length->l.getD i false=true)->l.count true=l.length
 |[],_=>rfl
 |b::l,h=>by
  have h0:=h 0 (by simp);have h1:=ZE l (fun i hi=>by have:=h (i+1) (by simpa using hi);simpa using this);have h0:b=true:=by simpa using h0
  subst h0;simp[h1]
theorem abF(base k:Int)(ws:LI)(ts:List Tm):∃n,1<=n∧n<=ts.length+1∧(nK base k ws ts).getD n false=false:=by
 rcases Classical.em (∃n,1<=n∧n<=ts.length+1∧(nK base k ws ts).getD n false=false)with h|h
 ·exact h
 ·exfalso;have h1:=agI base k ws ts (List.replicate (ts.length+2) false);have hl:(nK base k ws ts).length=ts.length+2:=by rw[nK,h1.1];simp
  have hc:(nK base k ws ts).count true<=ts.length:=by have:=h1.2;rw[List.count_replicate]at this;simpa[nK]using this
  cases mg:nK base k ws ts with
  |nil=>rw[mg]at hl;simp at hl
  |cons b l=>
   rw[mg]at hl hc h;have ha:=ZE l (fun i hi=>by
    cases hg:l.getD i false with
    |true=>rfl
    |false=>exact absurd ⟨i+1,by omega,by simp at hl;omega,by simpa using hg⟩ h)
   simp only[bR,List.count_cons]at hl hc;omega
theorem aol(cs:LV)(off:Nat):bA Z 4 cs off=cs[off]? :=by kernel_rfl
theorem apo{l:List Bool}{i:Nat}(h:i<l.length):bA Z 4 (nI l) (0+i*1)=some (.aA (l.getD i false)):=by rw[aol,nI,fD,Nat.mul_one,List.getElem?_map,jN h];simp[List.getD,jN h]
theorem aoG{l:List Bool}{i:Nat}(x:Bool)(h:i<l.length):fA (nI l) i [.aA x]=nI (l.set i x):=by unfold fA nI;rw[List.map_set,List.set_eq_take_append_cons_drop,aN (by simpa using h)];rfl
theorem apq(l:List Bool):(nI l).length=l.length:=by simp[nI]
theorem aoj(a b c d:AV)(l:LV):bA Z 179 (a::b::c::d::l) 0=some (.aj [a,b,c,d]):=by kernel_rfl
theorem aok(cs:LV)(off:Nat):bA Z 179 cs off=bA Z 179 (cs.drop off) 0:=by kernel_rfl
theorem ajx{l:List Tm}{i:Nat}(h:i<l.length):bA Z 179 (jQ l) (i*4)=some (.aj (tZ l[i])):=by obtain⟨r,hr⟩:=aaY h;rw[aok,hr];exact aoj _ _ _ _ _
theorem ajy(l:List Tm)(t:Tm):jQ (l++[t])=jQ l++[J t.x,J t.cA,J t.rG,J t.mM]:=by rw[aaX];rfl
section
variable{cs:LV}{off len:Nat}{base i:Int}{m:LP}{aw:List Tm}{ws:LI}{s:Nu}{k:Nat}
theorem aqj(hk:k<ws.length)(hw:ws.length<5000)(mG:0<=base)(lE:base<=4096)(ht:s.ts.length<60000){tk:List Bool}(htl:tk.length=s.ts.length+2)(alA:∃n,1<=n∧n<=s.ts.length+1∧tk.getD n false=false){N:Nat}
 (next:bF Z 113 135 1 (.ae 1 aw.length 4) (sZ cs aw) (bk [(0,.bB 0 off len 0 6 false),(1,J base),(5,.aS 1),(9,.ae 2 (⟨s.ts++[⟨ws[k],base+(N:Nat),i,fK ws[k] m⟩],up ws[k] true s.fC⟩:Nu).ts.length 4),(10,.aS 3),(11,J i),(12,.ae 4 ws.length 1),(13,J ((k+1:Nat):Int))]) (aq [(0,.aL cs 50),(1,gT m),(2,tC (⟨s.ts++[⟨ws[k],base+(N:Nat),i,fK ws[k] m⟩],up ws[k] true s.fC⟩:Nu).ts),(3,mN (⟨s.ts++[⟨ws[k],base+(N:Nat),i,fK ws[k] m⟩],up ws[k] true s.fC⟩:Nu).fC),(4,aD ws 3)] 5) (ao Z 113 3)):
 ∀p:Nat×Nat,(1<=p.2∧p.1+p.2=s.ts.length+2∧(∀q,1<=q->q<p.2->tk.getD q false=true)∧pJ tk p.1 p.2=N)->
 bF Z 113 135 1 (.ae 1 aw.length 4) (sZ cs aw) (bk [(0,.bB 0 off len 0 6 false),(1,J base),(5,.aS 1),(9,.ae 2 s.ts.length 4),(10,.aS 3),(11,J i),(12,.ae 4 ws.length 1),(13,J (k:Int)),(14,.bB 5 0 tk.length tk.length 1 true),(16,J (p.2:Int))]) (ym cs m s.ts s.fC ws (nI tk)) (ao Z 113 5):=by
 refine cX (fun p=>p.1) _ _ _ _ ?_;rintro⟨f,n⟩ ⟨h1,eD,kj,hf⟩ ih;simp only at h1 eD kj hf ih⊢;obtain⟨n0,a1,a2,a3⟩:=alA;have Ml:n<=n0:=by
  rcases Nat.lt_or_ge n0 n with h|h
  ·rw[kj n0 a1 h]at a3;cases a3
  ·exact h
 have yy:n<tk.length:=by omega
 refine hD zk 2000 sf (by kernel_rfl) ?_;rw[aqi];refine⟨n,rfl,yy,_,apo yy,aY.2 ⟨fun hb=>?_,fun hb=>?_⟩⟩
 ·have c6:n≠n0:=by rintro rfl;rw[a3]at hb;cases hb
  obtain⟨f,rfl⟩:∃g,f=g+1:=⟨f-1,by omega⟩;rw[pJ,aN hb]at hf;rw[fE (n:=n+1) (iz n) (by omega)];exact ih (f,n+1) ⟨by simp,by simp;omega,fun q q1 q2=>by
   rcases Nat.lt_or_ge q n with h|h
   ·exact kj q q1 h
   ·have:q=n:=by simp at q2;omega
    rw[this];exact hb,hf⟩ (by simp)
 ·have hN:n=N:=by
   cases f with
   |zero=>exact hf
   |succ f=>rw[pJ,az (by rw[hb];simp)]at hf;exact hf
  subst hN;have hg:ws.getD k 0=ws[k]:=by simp[List.getD,jN hk]
  obtain⟨v,b1,e1,e2,_⟩:=Cn m ws[k];have bU:bA Z 3 (aW ws) (k*1)=some (J ws[k]):=by rw[ia hk,hg]
  refine⟨k,rfl,hk,ws[k],bU,_,_,pj vB yh,k,rfl,hk,ws[k],bU,k,rfl,hk,ws[k],bU,v,b1,e1,⟨by rw[aa0],by omega,rfl,rfl⟩,?_⟩;have xm:wI (base+(n:Int))=base+(n:Int):=dz (by omega) (by omega);rw[fE hk (by omega),xm,e2];have mK:(⟨s.ts++[⟨ws[k],base+(n:Nat),i,fK ws[k] m⟩],up ws[k] true s.fC⟩:Nu).ts.length=s.ts.length+1:=by simp
  have zP:jQ (⟨s.ts++[⟨ws[k],base+(n:Nat),i,fK ws[k] m⟩],up ws[k] true s.fC⟩:Nu).ts=jQ s.ts++[J ws[k],J (base+(n:Int)),J i,J (fK ws[k] m)]:=ajy _ _;rw[mK]at next
  simp only[tC,zP]at next
  exact next
theorem aqh(hk:k<ws.length)(hw:ws.length<5000)(mG:0<=base)(lE:base<=4096)(ht:s.ts.length<60000)(alP:∀t∈s.ts,base+1<=t.cA∧t.cA<=base+s.ts.length){N:Nat}(hN:pJ (nK base i ws s.ts) (s.ts.length+1) 1=N)
 (next:bF Z 113 135 1 (.ae 1 aw.length 4) (sZ cs aw) (bk [(0,.bB 0 off len 0 6 false),(1,J base),(5,.aS 1),(9,.ae 2 (⟨s.ts++[⟨ws[k],base+(N:Nat),i,fK ws[k] m⟩],up ws[k] true s.fC⟩:Nu).ts.length 4),(10,.aS 3),(11,J i),(12,.ae 4 ws.length 1),(13,J ((k+1:Nat):Int))]) (aq [(0,.aL cs 50),(1,gT m),(2,tC (⟨s.ts++[⟨ws[k],base+(N:Nat),i,fK ws[k] m⟩],up ws[k] true s.fC⟩:Nu).ts),(3,mN (⟨s.ts++[⟨ws[k],base+(N:Nat),i,fK ws[k] m⟩],up ws[k] true s.fC⟩:Nu).fC),(4,aD ws 3)] 5) (ao Z 113 3)):
 ∀p:Nat×List Bool,(p.1<=s.ts.length∧p.2.length=s.ts.length+2∧(s.ts.drop p.1).foldl (uO base i ws) p.2=nK base i ws s.ts)->
 bF Z 113 135 1 (.ae 1 aw.length 4) (sZ cs aw) (bk [(0,.bB 0 off len 0 6 false),(1,J base),(5,.aS 1),(9,.ae 2 s.ts.length 4),(10,.aS 3),(11,J i),(12,.ae 4 ws.length 1),(13,J (k:Int)),(14,.bB 5 0 p.2.length p.2.length 1 true),(15,J (p.1:Int))]) (ym cs m s.ts s.fC ws (nI p.2)) (ao Z 113 4):=by
 refine cX (fun p=>s.ts.length-p.1) _ _ _ _ ?_;rintro⟨j,tk⟩ ⟨hj,hl,hf⟩ ih;simp only at hj hl hf ih⊢;refine hD zk 2000 sf (by kernel_rfl) ?_;rw[aqg];refine aY.2 ⟨fun an=>?_,fun a8=>?_⟩
 ·have an:j<s.ts.length:=by simpa using an
  have bU:=ajx an;have L0:=Sk an 1 (by omega);have hn:=alP s.ts[j] (xC an);rw[dv an,ik]at hf;generalize s.ts[j]=t at bU L0 hn hf;refine⟨j,rfl,an,t.x,t.cA,t.rG,t.mM,bU,(t,i,ws),⟨rfl,rfl,by show ws.length<100000;omega⟩,?_⟩;rw[fE an (by omega)];refine aY.2 ⟨fun hu=>?_,fun hu=>?_⟩
  ·have hu:mu t i ws=true:=hu;rw[uO,aN hu]at hf;have e1:wI (t.cA-base)=(((t.cA-base).toNat:Nat):Int):=by rw[dz (by omega) (by omega),Int.toNat_of_nonneg (by omega)]
   have hx:(t.cA-base).toNat<tk.length:=by omega
   have hp:fA (nI tk) (0+(t.cA-base).toNat*1) [.aA true]=nI (tk.set (t.cA-base).toNat true):=by rw[fD,Nat.mul_one];exact aoG _ hx
   refine⟨j,rfl,an,t.cA,L0,(t.cA-base).toNat,e1,hx,by rw[apq];omega,?_⟩;rw[hp];have nx:=ih (j+1,tk.set (t.cA-base).toNat true) ⟨by simp;omega,by simp only[List.length_set];exact hl,hf⟩ (by simp;omega);simp only[List.length_set]at nx;exact nx
  ·have hu:mu t i ws=false:=hu;rw[uO,az (by rw[hu];simp)]at hf;exact ih (j+1,tk) ⟨by simp;omega,hl,hf⟩ (by simp;omega)
 ·have a8:s.ts.length<=j:=by simpa using a8
  rw[dV a8]at hf;have hf:tk=nK base i ws s.ts:=hf;have gZ:=abF base i ws s.ts;rw[←hf]at gZ hN;exact aqj hk hw mG lE ht hl gZ next (s.ts.length+1,1) ⟨by simp,by simp,fun q q1 q2=>by simp at q2;omega,hN⟩
theorem abq(tk:List Bool):∀f n,n<=pJ tk f n∧pJ tk f n<=n+f
 |0,n=>⟨eh _,eh _⟩
 |f+1,n=>by have:=abq tk f (n+1);unfold pJ;split<;>omega
theorem afo:∀n:Nat,jq [.aA false] n=nI (List.replicate n false)
 |0=>rfl
 |n+1=>by simp[jq,afo n,nI,List.replicate_succ]
def Nu.ok(base:Int)(s:Nu):Prop:=∀t∈s.ts,base+1<=t.cA∧t.cA<=base+s.ts.length
theorem Nu.Oj{base:Int}{last:LP}{k:Int}{ws:LI}{s:Nu}{w:Int}(h:s.ok base):(s.iB base last k ws w).ok base∧(s.iB base last k ws w).ts.length<=s.ts.length+1:=by
 unfold Nu.iB;split
 ·exact⟨h,by omega⟩
 ·refine⟨fun t ht=>?_,by simp⟩;obtain⟨n0,a1,a2,a3⟩:=abF base k ws s.ts;have de:pJ (nK base k ws s.ts) (s.ts.length+1) 1<=s.ts.length+1:=by
   have key:∀f n,n<=n0->n0<=n+f->pJ (nK base k ws s.ts) f n<=n0:=by
    intro f;induction f with
    |zero=>intro n h1 h2;exact h1
    |succ f ih=>
     intro n h1 h2;unfold pJ;split
     ·rename_i hb;have:n≠n0:=by rintro rfl;rw[a3]at hb;cases hb
      exact ih (n+1) (by omega) (by omega)
     ·exact h1
   have:=key (s.ts.length+1) 1 a1 (by omega);omega
  have a8:=(abq (nK base k ws s.ts) (s.ts.length+1) 1).1;simp only[bj,bR,cI];rcases List.mem_append.1 ht with ht|ht
  ·have:=h t ht;omega
  ·simp at ht;subst ht;simp only;omega
theorem aqf(hw:ws.length<5000)(mG:0<=base)(lE:base<=4096){sF:Nu}
 (next:bF Z 113 135 1 (.ae 1 aw.length 4) (sZ cs aw) (Js off len false base sF.ts.length (wI (i+1))) (HF cs m sF.ts sF.fC) (ao Z 113 2)):
 ∀p:Nat×Nu,(p.1<=ws.length∧p.2.ok base∧p.2.ts.length+(ws.length-p.1)<60000∧(ws.drop p.1).foldl (Nu.iB base m i ws) p.2=sF)->
 bF Z 113 135 1 (.ae 1 aw.length 4) (sZ cs aw) (CS off len false base p.2.ts.length i ws.length (p.1:Int)) (EB cs m p.2.ts p.2.fC ws) (ao Z 113 3):=by
 refine cX (fun p=>ws.length-p.1) _ _ _ _ ?_;rintro⟨k,s⟩ ⟨hk,bq,bH,hf⟩ ih;simp only at hk bq bH hf ih⊢;refine hD zk 2000 sf (by kernel_rfl) ?_;rw[aqe];refine aY.2 ⟨fun an=>?_,fun a8=>?_⟩
 ·have an:k<ws.length:=by simpa using an
  rw[dv an,ik]at hf;have hg:ws.getD k 0=ws[k]:=by simp[List.getD,jN an]
  have bU:bA Z 3 (aW ws) (k*1)=some (J ws[k]):=by rw[ia an,hg]
  have hso:=Nu.Oj (last:=m) (k:=i) (ws:=ws) (w:=ws[k]) bq;have nx:=ih (k+1,s.iB base m i ws ws[k]) ⟨by simp;omega,hso.1,by have:=hso.2;simp only;omega,hf⟩ (by simp;omega);have skip:(ws[k]<=base∨dh s.fC ws[k])->bF Z 113 135 1 (.ae 1 aw.length 4) (sZ cs aw) (CS off len false base s.ts.length i ws.length ((k+1:Nat):Int)) (EB cs m s.ts s.fC ws) (ao Z 113 3):=by intro hn;rw[Nu.iB,aN hn]at nx;exact nx
  refine⟨k,rfl,an,ws[k],bU,?_⟩;rw[fE an (by omega)];refine aY.2 ⟨fun h=>skip (.inl (by simpa using h)),fun h=>?_⟩;obtain⟨b,b1,e1,e2⟩:=VD s.fC ws[k];refine⟨k,rfl,an,ws[k],bU,b,b1,e1,aY.2 ⟨fun hb=>skip (.inr (by rw[e2];exact hb)),fun hb=>?_⟩⟩;have hn:¬(ws[k]<=base∨dh s.fC ws[k]):=by
   rintro(h2|h2)
   ·simp at h;omega
   ·rw[e2,hb]at h2;cases h2
  rw[Nu.iB,az hn]at nx;have e3:wI (Int.ofNat s.ts.length+2)=((s.ts.length+2:Nat):Int):=by rw[dz (by simp only[fX];omega) (by simp only[fX];omega)];simp
  refine⟨s.ts.length+2,e3,by omega,?_⟩;rw[afo];have abj:=aqh (i:=i) (m:=m) (cs:=cs) (off:=off) (len:=len) (aw:=aw) an hw mG lE (by omega) bq rfl nx (0,List.replicate (s.ts.length+2) false) ⟨by simp,by simp,by simp[nK]⟩;simp only[List.length_replicate]at abj;exact abj
 ·have a8:ws.length<=k:=by simpa using a8
  rw[dV a8]at hf;have hf:s=sF:=hf;subst hf;exact next
end
theorem SQ{base:Int}{last:LP}{k:Int}{ws:LI}:∀(l:LI) (s:Nu),s.ok base->(l.foldl (Nu.iB base last k ws) s).ok base∧(l.foldl (Nu.iB base last k ws) s).ts.length<=s.ts.length+l.length
 |[],s,h=>⟨h,by simp⟩
 |w::l,s,h=>by have h1:=Nu.Oj (last:=last) (k:=k) (ws:=ws) (w:=w) h;have h2:=SQ (last:=last) (k:=k) (ws:=ws) l _ h1.1;simp only[ik,bR];exact⟨h2.1,by omega⟩
section
variable{p:ie}{base:Int}{aw:List Tm}
theorem aqd(hp:p.ok)(hl:p.l.length<12000)(mG:0<=base)(lE:base<=4096){m:LP}:
 ∀q:Nat×Nu,(q.1<=p.l.length∧q.2.ok base∧q.2.ts.length<=2*q.1∧(Nu.rF base m q.1 q.2 (p.l.drop q.1)).ts=aw)->
 bF Z 113 135 1 (.ae 1 aw.length 4) (sZ p.cs aw) (Js p.gq p.l.length false base q.2.ts.length (q.1:Int)) (HF p.cs m q.2.ts q.2.fC) (ao Z 113 2):=by
 refine cX (fun q=>p.l.length-q.1) _ _ _ _ ?_;rintro⟨i,s⟩ ⟨hi,bq,bH,hf⟩ ih;simp only at hi bq bH hf ih⊢;refine hD zk 2000 sf (by kernel_rfl) ?_;rw[aqc];refine aY.2 ⟨fun an=>?_,fun a8=>?_⟩
 ·have an:i<p.l.length:=by simpa using an
  have bU:=p.get hp an;rw[dv an,Nu.rF]at hf;generalize p.l[i]=x at bU hf;obtain⟨o,r,a,n,s',ar⟩:=x;have hw:=X0 ⟨o,r,a,n,s',ar⟩;have BT:=SQ (base:=base) (last:=m) (k:=(i:Int)) (ws:=b8 ⟨o,r,a,n,s',ar⟩) (b8 ⟨o,r,a,n,s',ar⟩) s bq;have nx:=ih (i+1,(b8 ⟨o,r,a,n,s',ar⟩).foldl (Nu.iB base m i (b8 ⟨o,r,a,n,s',ar⟩)) s) ⟨by simp;omega,BT.1,by have:=BT.2;simp only;omega,hf⟩ (by simp;omega);simp only at nx;rw[←fE an (by omega)]at nx;refine⟨i,rfl,an,o,r,a,n,s',ar,bU,⟨o,r,a,n,s',ar⟩,⟨rfl,rfl⟩,?_⟩;exact aqf (i:=(i:Int)) (ws:=b8 ⟨o,r,a,n,s',ar⟩) (by omega) mG lE nx (0,s) ⟨by simp,bq,by simp only;omega,by simp⟩
 ·have a8:p.l.length<=i:=by simpa using a8
  rw[dV a8]at hf;have hf:s.ts=aw:=hf;subst hf;exact⟨rfl,rfl⟩
theorem afL{i:Nat}{rs:LI}(hr:rs.length<20000){m0:LP}(hi:i<12000)
 (next:bF Z 113 135 1 (.ae 1 aw.length 4) (sZ p.cs aw) (Jq p.gq p.l.length false base ((i+1:Nat):Int)) (aq [(0,.aL p.cs 50),(1,gT (rs.foldl (fun m r=>up r (i:Int) m) m0))] 2) (ao Z 113 0)):
 ∀q:Nat×LP,(q.1<=rs.length∧(rs.drop q.1).foldl (fun m r=>up r (i:Int) m) q.2=rs.foldl (fun m r=>up r (i:Int) m) m0)->
 bF Z 113 135 1 (.ae 1 aw.length 4) (sZ p.cs aw) (Jr p.gq p.l.length false base (i:Int) rs.length (q.1:Int)) (aq [(0,.aL p.cs 50),(1,gT q.2),(2,aD rs 3)] 3) (ao Z 113 1):=by
 refine cX (fun q=>rs.length-q.1) _ _ _ _ ?_;rintro⟨k,m⟩ ⟨hk,hf⟩ ih;simp only at hk hf ih⊢;refine hD zk 2000 sf (by kernel_rfl) ?_;rw[aqb];refine aY.2 ⟨fun an=>?_,fun a8=>?_⟩
 ·have an:k<rs.length:=by simpa using an
  rw[dv an,ik]at hf;have hg:rs.getD k 0=rs[k]:=by simp[List.getD,jN an]
  refine⟨k,rfl,an,rs[k],by rw[ia an,hg],_,_,pj J yh,?_⟩;rw[fE an (by omega)];exact ih (k+1,up rs[k] (i:Int) m) ⟨by simp;omega,hf⟩ (by simp;omega)
 ·have a8:rs.length<=k:=by simpa using a8
  rw[dV a8]at hf;have hf:m=rs.foldl (fun m r=>up r (i:Int) m) m0:=hf;rw[hf,fE (n:=i+1) (iz i) (by omega)];exact next
def aoC:List (Nat×Nat):=[(0,0),(1,1),(3,2),(2,3)]
theorem aoo(cs:LV)(o:Nat):(Option.rec (motive:=fun _=>Option AV) ((fun _=>none) ()) (fun val=>(fun val=>(fun x=>some (AV.aj x)) val) val) (ph cs o ((fun x=>x.size) Z.types[50])))=bA Z 50 cs o:=by kernel_rfl
theorem aqa(hp:p.ok)(hl:p.l.length<12000)(mG:0<=base)(lE:base<=4096)(ng:tp p.l base=aw):
 ∀q:Nat×LP,(q.1<=p.l.length∧fS q.1 q.2 (p.l.drop q.1)=fS 0 [] p.l)->
 bF Z 113 135 1 (.ae 1 aw.length 4) (sZ p.cs aw) (Jq p.gq p.l.length false base (q.1:Int)) (aq [(0,.aL p.cs 50),(1,gT q.2)] 2) (ao Z 113 0):=by
 refine cX (fun q=>p.l.length-q.1) _ _ _ _ ?_;rintro⟨i,m⟩ ⟨hi,hf⟩ ih;simp only at hi hf ih⊢;refine hD zk 2000 sf (by kernel_rfl) ?_;rw[ap9];refine aY.2 ⟨fun an=>?_,fun a8=>?_⟩
 ·have an:i<p.l.length:=by simpa using an
  have bU:=p.get hp an;rw[dv an,fS]at hf;have next:=ih (i+1,(cf p.l[i]++b8 p.l[i]).foldl (fun m r=>up r (i:Int) m) m) ⟨by simp;omega,hf⟩ (by simp;omega)
  simp only at next
  generalize p.l[i]=x at bU next
  obtain⟨o,r,a,n,s,ar⟩:=x;have hr:=IZ ⟨o,r,a,n,s,ar⟩;have hw:=JL ⟨o,r,a,n,s,ar⟩;refine⟨i,rfl,an,o,r,a,n,s,ar,bU,i,rfl,an,o,r,a,n,s,ar,bU,⟨o,r,a,n,s,ar⟩,⟨rfl,rfl⟩,(aoo _ _).trans bU,⟨o,r,a,n,s,ar⟩,⟨rfl,rfl⟩,by rw[qq];omega,fun h0=>⟨by omega,?_⟩,fun h1=>⟨⟨by rw[qq];omega,by omega,(AG _).1,(AG _).2⟩,?_⟩⟩
  ·have he:b8 ⟨o,r,a,n,s,ar⟩=[]:=List.eq_nil_of_length_eq_zero h0;rw[he,gz]at next
   exact afL (by omega) (by omega) next (0,m) ⟨by simp,rfl⟩
  ·have nx:=afL (by rw[bj];omega) (by omega) next (0,m) ⟨by simp,rfl⟩
   simp only[aD,yV,bj]at nx;exact nx
 ·have a8:p.l.length<=i:=by simpa using a8
  rw[dV a8]at hf;have hf:m=fS 0 [] p.l:=hf;refine xa (n:=3) (l:=[(0,.aL p.cs 50),(1,gT m),(2,.bM [] 0 true)]) (T:=[(0,.bB 0 p.gq p.l.length 0 6 false),(1,J base),(5,.aS 1),(9,.bg),(10,.aS 2),(11,J 0)]) 4 179 [9] ?_ rfl (by kernel_rfl);refine dN.rE (by kernel_rfl) (m0:=1) (xD:=[0,1,3,2]) (l:=[0,1,5,9,10,11]) (ps:=aoC) (H2:=HF p.cs m [] []) (t:=Js p.gq p.l.length false base 0 0) (by kernel_rfl) (by kernel_rfl) ?_;exact aqd hp hl mG lE (0,⟨[],[]⟩) ⟨by simp,(fun t ht=>by cases ht),by simp,by rw[hf,hI];exact ng⟩
end
theorem Kx:bn Z R4:=by refine dc zk ?_;rintro⟨p,base⟩ args H ⟨rfl,rfl,hp,hl,mG,lE⟩;have hp:p.ok:=hp;refine eS zk 2000 sf 135 (by kernel_rfl) ?_;simp only[VM,gS];rw[aqk];exact aqa hp hl mG lE rfl (0,[]) ⟨by simp,by simp⟩
def uJ(ts:List Tm)(i:ba):ba:=⟨i.op,vW ts i.r,vW ts i.a,i.n,i.cR,i.ar⟩
def eF(l:bS)(base:Int):bS×Int:=if kK l base then(l.map (uJ (tp l base)),0)else([],1)
def Rd:dP (ie×Int)where
 bN w A H:=A=[.bB 0 w.1.gq w.1.l.length 0 6 false,J w.2]∧H=gS w.1∧w.1.ok∧w.1.l.length<12000
 v w:=.aO [.ae 1 (eF w.1.l w.2).1.length 6,J (eF w.1.l w.2).2]
 aU w:=aq [(0,.aL w.1.cs 50),(1,gH (eF w.1.l w.2).1)] 2
theorem aib:Rd.dT:=by rintro w w' A H ⟨h1,h2,h3,_⟩ ⟨k1,k2,k3,_⟩;rw[FL h1 h2 h3 k1 k2 k3]
def R5:Ev.bC:=cB 74 (cO Rd aib cV) R4
theorem af5(cs:LV)(off len:Nat)(base:Int)(L:LT)(Q:QT):
 b_ Z R4 (fun _=>[0,6,7,8]) L Q 1000 74 [.bB 0 off len 0 6 false,J base] (aq [(0,.aL cs 50)] 1)=(
 ∃w:ie×Int,(([.bB 0 off len 0 6 false,J base]:LV)=[.bB 0 w.1.gq w.1.l.length 0 6 false,J w.2]∧aq [(0,.aL cs 50)] 1=gS w.1∧w.1.ok)∧ai (!kK w.1.l w.2) (Q (.aO [.bg,J 1]) (gS w.1)) (∃ab:ie×Int,(([.bB 0 off len 0 6 false,J base]:LV)=[.bB 0 ab.1.gq ab.1.l.length 0 6 false,J ab.2]∧gS w.1=gS ab.1∧ab.1.ok∧ab.1.l.length<12000∧(0:Int)<=ab.2∧ab.2<=4096)∧L (bk [(0,.bB 0 off len 0 6 false),(6,.ae 1 (tp ab.1.l ab.2).length 4),(7,.bg),(8,J 0)]) (aq [(0,.aL ab.1.cs 50),(1,tC (tp ab.1.l ab.2))] 2) (ao Z 74 0))):=by kernel_rfl
theorem atM(cs:LV)(off len:Nat)(ts:List Tm)(aU:bS)(i:Int)(L:LT)(Q:QT):
 cT Z R4 (fun _=>[0,6,7,8]) L Q 1000 74 1 (bk [(0,.bB 0 off len 0 6 false),(6,.ae 1 ts.length 4),(7,.ae 2 aU.length 6),(8,J i)]) (ao Z 74 0) (aq [(0,.aL cs 50),(1,tC ts),(2,gH aU)] 3)=(
 ai (decide (i<Int.ofNat len)) (∃aI:Nat,i=(aI:Int)∧aI<len∧(∃n:Int,∃aP:Int,∃bp:Int,∃bI:Int,∃s:LN,∃cS:Int,bA Z 50 cs (off+aI*6)=some (.aj [J n,J aP,J bp,J bI,.aa s,J cS]:AV)∧(∃w:List Tm×Int,(([.ae 0 ts.length 4,J aP]:LV)=[.ae 0 w.1.length 4,J w.2]∧qP ts=qP w.1∧w.1.length<100000)∧(∃ab:List Tm×Int,(([.ae 0 ts.length 4,J bp]:LV)=[.ae 0 ab.1.length 4,J ab.2]∧qP w.1=qP ab.1∧ab.1.length<100000)∧((bZ aU).length=aU.length*6∧aU.length+1<=65536∧true=true∧true=true)∧L (bk [(0,.bB 0 off len 0 6 false),(6,.ae 1 ts.length 4),(7,.ae 2 (aU.length+1) 6),(8,J (wI (i+1)))]) (aq [(0,.aL cs 50),(1,tC ab.1),(2,.aL (bZ aU++[J n,J (vW w.1 w.2),J (vW ab.1 ab.2),J bI,.aa s,J cS]) 50)] 3) (ao Z 74 0))))) (Q (.aO [.ae 1 aU.length 6,J 0]) (aq [(0,.aL cs 50),(1,gH aU)] 2))):=by kernel_rfl
theorem avI{l:bS}{base:Int}(h:kK l base=true):0<=base∧base<=4096:=by
 unfold kK at h;split at h
 ·cases h
 ·omega
theorem afH(base:Int)(last:LP):∀(l:bS) (k:Nat) (s:Nu),s.ok base->(Nu.rF base last k s l).ts.length<=s.ts.length+2*l.length
 |[],k,s,_=>by simp[Nu.rF]
 |i::l,k,s,h=>by have h1:=SQ (base:=base) (last:=last) (k:=(k:Int)) (ws:=b8 i) (b8 i) s h;have h2:=afH base last l (k+1) _ h1.1;have h3:=X0 i;simp only[Nu.rF,bR];omega
theorem anL(l:bS)(base:Int):(tp l base).length<=2*l.length:=by have:=afH base (fS 0 [] l) l 0 ⟨[],[]⟩ (fun t ht=>by cases ht);simpa[tp]using this
theorem atL{p:ie}{ts:List Tm}(hp:p.ok)(hl:p.l.length<12000)(ht:ts.length<30000):
 ∀i:Nat,(i<=p.l.length)->
 bF Z 74 42 1 (.aO [.ae 1 (p.l.map (uJ ts)).length 6,J 0]) (aq [(0,.aL p.cs 50),(1,gH (p.l.map (uJ ts)))] 2)
  (bk [(0,.bB 0 p.gq p.l.length 0 6 false),(6,.ae 1 ts.length 4),(7,.ae 2 ((p.l.take i).map (uJ ts)).length 6),(8,J (i:Int))]) (aq [(0,.aL p.cs 50),(1,tC ts),(2,gH ((p.l.take i).map (uJ ts)))] 3) (ao Z 74 0):=by
 refine cX (fun i=>p.l.length-i) _ _ _ _ ?_;rintro i hi ih;refine hD Kx 1000 (fun _=>[0,6,7,8]) (by kernel_rfl) ?_;rw[atM];refine aY.2 ⟨fun an=>?_,fun a8=>?_⟩
 ·have an:i<p.l.length:=by simpa using an
  have bU:=p.get hp an;have next:=ih (i+1) (by omega) (by omega)
  rw[List.take_succ_eq_append_getElem an,List.map_append]at next
  simp only[List.map_cons,List.map_nil]at next
  generalize p.l[i]=x at bU next
  obtain⟨o,r,a,n,s,ar⟩:=x;have bH:((p.l.take i).map (uJ ts)).length=i:=by simp;omega
  refine⟨i,rfl,an,o,r,a,n,s,ar,bU,(ts,r),⟨rfl,rfl,by show ts.length<100000;omega⟩,(ts,a),⟨rfl,rfl,by show ts.length<100000;omega⟩,⟨by rw[o3],by omega,rfl,rfl⟩,?_⟩;rw[fE an (by omega)];rw[bj]at next
  simp only[gH,aaQ]at next
  exact next
 ·have a8:p.l.length<=i:=by simpa using a8
  rw[List.take_of_length_le a8];exact⟨rfl,rfl⟩
theorem Zp:bn Z R5:=by
 refine dc Kx ?_;rintro⟨p,base⟩ args H ⟨rfl,rfl,hp,hl⟩;have hp:p.ok:=hp;have hl:p.l.length<12000:=hl;simp only[Rd,gS];cases hv:kK p.l base with
 |false=>
  have ha:eF p.l base=([],1):=by simp[eF,hv]
  rw[ha];refine Sq (n:=1) (l:=[(0,.aL p.cs 50)]) (t:=50) ?_ rfl (eh _);refine eS Kx 1000 (fun _=>[0,6,7,8]) 42 (by kernel_rfl) ?_;rw[af5];exact⟨(p,base),⟨rfl,rfl,hp⟩,aY.2 ⟨fun _=>⟨rfl,rfl⟩,fun h=>by simp only[hv]at h;cases h⟩⟩
 |true=>
  have ha:eF p.l base=(p.l.map (uJ (tp p.l base)),0):=by simp[eF,hv]
  rw[ha];have hb:=avI hv;have hn:=anL p.l base;refine eS Kx 1000 (fun _=>[0,6,7,8]) 42 (by kernel_rfl) ?_;rw[af5];refine⟨(p,base),⟨rfl,rfl,hp⟩,aY.2 ⟨fun h=>(by simp only[hv]at h;cases h),fun _=>⟨(p,base),⟨rfl,rfl,hp,hl,hb.1,hb.2⟩,?_⟩⟩⟩;refine xa (n:=2) (l:=[(0,.aL p.cs 50),(1,tC (tp p.l base))]) (T:=[(0,.bB 0 p.gq p.l.length 0 6 false),(6,.ae 1 (tp p.l base).length 4),(7,.bg),(8,J 0)]) 6 50 [7] ?_ rfl (by kernel_rfl);exact atL hp hl (by omega) 0 (by omega)
def fj:LP->LV
 |[]=>[]
 |p::l=>J p.1::J p.2::fj l
theorem Hl:∀l,(fj l).length=l.length*2
 |[]=>rfl
 |p::l=>by simp[fj,Hl l];omega
theorem Si:∀{l m:LP},fj l=fj m->l=m
 |[],[],_=>rfl
 |[],i::_,h=>by simp[fj]at h
 |i::_,[],h=>by simp[fj]at h
 |(a,b)::l,(c,d)::m,h=>by simp only[fj,List.cons.injEq,AV.cM.injEq,true_and]at h;rw[h.1,h.2.1,Si h.2.2]
theorem Hk:∀l m:LP,fj (l++m)=fj l++fj m
 |[],m=>rfl
 |t::l,m=>by simp[fj,Hk l m]
theorem ajs:∀l:LP,(fj l).all AV.ec=true∧(fj l).all je=true
 |[]=>⟨rfl,rfl⟩
 |t::l=>by have:=ajs l;simp only[fj,List.all_cons,this.1,this.2,Bool.and_true];exact⟨rfl,rfl⟩
def jd(l:LP):bc:=.aL (fj l) 122
mutual
def gI(c:Int):LP->aK->LP
 |q,.mk k n _ l=>if k=0 then q++[(n,c)]else fN c q l
def fN(c:Int):LP->bG->LP
 |q,[]=>q
 |q,t::l=>fN c (gI c q t) l
end
mutual
theorem O9(c:Int):∀(q:LP) (t:aK),(gI c q t).length<=q.length+cD t
 |q,.mk k n s l=>by
  unfold gI;split
  ·simp[cD]
  ·have:=JM c q l;simp only[cD];omega
theorem JM(c:Int):∀(q:LP) (l:bG),(fN c q l).length<=q.length+bh l
 |q,[]=>by simp[fN]
 |q,t::l=>by have h1:=O9 c q t;have h2:=JM c (gI c q t) l;simp only[fN,bh];omega
end
def kV(l:LP):AH:=aq [(0,jd l)] 1
def Cu(l:LP):AH:=aq [(0,.bJ []),(1,jd l)] 2
theorem ab0{l m:LP}(h:kV l=kV m):l=m:=by have:=congrArg (fun H=>AH.bD H 0) h;simp only[kV,eA]at this;exact Si (bc.aL.inj (dk this)).1
theorem axx(l:LP):Mv (kV l) (Cu l) 0:=oG (l':=[(0,.bJ [])]) rfl rfl rfl
def X3(N:Nat):dP (LP×aK×Int)where
 bN w A H:=A=[.ae 0 w.1.length 2,.aj (dy w.2.1),J w.2.2]∧H=kV w.1∧eN w.2.1∧cD w.2.1<N∧w.1.length+cD w.2.1<60000
 v w:=.ae 1 (gI w.2.2 w.1 w.2.1).length 2
 aU w:=Cu (gI w.2.2 w.1 w.2.1)
theorem ahb(N:Nat):(X3 N).dT:=by rintro⟨q,t,c⟩ ⟨q',t',c'⟩ A H ⟨h1,h2,_⟩ ⟨k1,k2,_⟩;have e:=ab0 (h2.symm.trans k2);rw[h1]at k1;simp only[List.cons.injEq,AV.aj.injEq,AV.cM.injEq,true_and,and_true]at k1 e;rw[e,tY k1.2.1,k1.2.2]
def GI(N:Nat):Ev.bC:=cB 109 (cO (X3 N) (ahb N) cV) R5
def NT(l:LP)(k n:Int)(s:LN)(cs:LV)(len:Nat):AH:=aq [(0,.bJ []),(1,jd l),(2,.ay [J k,J n,.aa s,.aB cs len 4] 42)] 3
abbrev OA x0 x1 x2:=bk [(0,.ae x0 x1 2),(2,J x2),(4,.ad 1 0),(7,J 0)]
theorem apW(q:LP)(k n c:Int)(s:LN)(cs:LV)(len:Nat)(N:Nat)(L:LT)(Q:QT):
 b_ Z (GI N) (fun _=>[0,2,4,7]) L Q 1000 109 [.ae 0 q.length 2,.aj [J k,J n,.aa s,.aB cs len 4],J c] (kV q)=(
 ai (k==0) (((fj q).length=q.length*2∧q.length+1<=65536∧true=true∧true=true)∧Q (.ae 1 (q.length+1) 2) (aq [(0,.bJ []),(1,.aL (fj q++[J n,J c]) 122)] 2)) (L (OA 0 q.length c) (aq [(0,jd q),(1,.ay [J k,J n,.aa s,.aB cs len 4] 42)] 2) (ao Z 109 0))):=by kernel_rfl
abbrev OB x0 x1 x2:=bk [(0,.ae 1 x0 2),(2,J x1),(4,.ad 2 0),(7,J x2)]
theorem apX(q:LP)(k n c i:Int)(s:LN)(cs:LV)(len:Nat)(N:Nat)(L:LT)(Q:QT):
 cT Z (GI N) (fun _=>[0,2,4,7]) L Q 1000 109 1 (OB q.length c i) (ao Z 109 0) (NT q k n s cs len)=(
 ai (decide (i<Int.ofNat len)) (∃aI:Nat,i=(aI:Int)∧aI<len∧(∃aP:Int,∃bp:Int,∃dO:LN,∃cN:LV,∃cz:Nat,((cs.drop (aI*4)).take 4:LV)=[J aP,J bp,.aa dO,.aB cN cz 4]∧(∃w:List (Int×Int)×aK×Int,(([.ae 0 q.length 2,.aj [J aP,J bp,.aa dO,.aB cN cz 4],J c]:LV)=[.ae 0 w.1.length 2,.aj (dy w.2.1),J w.2.2]∧kV q=kV w.1∧eN w.2.1∧cD w.2.1<N∧w.1.length+cD w.2.1<60000)∧L (OB (gI w.2.2 w.1 w.2.1).length c (wI (i+1))) (NT (gI w.2.2 w.1 w.2.1) k n s cs len) (ao Z 109 0)))) (Q (.ae 1 q.length 2) (Cu q))):=by kernel_rfl
theorem apV{l:bG}{N:Nat}{k n c:Int}{s:LN}{aw:LP}(hS:bn Z (GI N))(hl:eQ l.length)(ho:iS l)(hN:bh l<N):
 ∀p:Nat×LP,(p.1<=l.length∧p.2.length+bh (l.drop p.1)<60000∧fN c p.2 (l.drop p.1)=aw)->
 bF Z 109 34 1 (.ae 1 aw.length 2) (Cu aw) (OB p.2.length c (p.1:Int)) (NT p.2 k n s (bw l) l.length) (ao Z 109 0):=by
 refine cX (fun p=>l.length-p.1) _ _ _ _ ?_;rintro⟨i,q⟩ ⟨hi,hb,hf⟩ ih;simp only at hi hb hf ih⊢;refine hD hS 1000 (fun _=>[0,2,4,7]) (by kernel_rfl) ?_;rw[apX];refine aY.2 ⟨fun an=>?_,fun a8=>?_⟩
 ·have an:i<l.length:=by simpa using an
  rw[dv an,fN]at hf;rw[dv an,bh]at hb;obtain⟨k',n',s',ts,⟨hf,hb⟩,-,bU,bq,cW⟩:=I4 an ho hN (P:=fun u=>fN c (gI c q u) (l.drop (i+1))=aw∧q.length+(cD u+bh (l.drop (i+1)))<60000) ⟨hf,hb⟩;have de:=O9 c q (.mk k' n' s' ts);refine⟨i,rfl,an,k',n',s',_,_,bU,(q,.mk k' n' s' ts,c),⟨rfl,rfl,bq,cW,by simp only;omega⟩,?_⟩;rw[iA hl an];exact ih (i+1,gI c q (.mk k' n' s' ts)) ⟨by simp;omega,by simp only;omega,hf⟩ (by simp;omega)
 ·have a8:l.length<=i:=by simpa using a8
  rw[dV a8,fN]at hf;subst hf;exact⟨rfl,rfl⟩
def aoB:List (Nat×Nat):=[(0,0),(2,1),(1,2)]
def ac8(q:LP)(k n:Int)(s:LN)(cs:LV)(len:Nat):List (Nat×bc):=[(0,jd q),(1,.ay [J k,J n,.aa s,.aB cs len 4] 42)]
def adC(q:LP)(k n:Int)(s:LN)(cs:LV)(len:Nat):List (Nat×bc):=[(0,.bJ []),(1,.ay [J k,J n,.aa s,.aB cs len 4] 42),(2,jd q)]
theorem ano(q:LP)(k n:Int)(s:LN)(cs:LV)(len:Nat):Mv (aq (ac8 q k n s cs len) 2) (aq (adC q k n s cs len) 3) 0:=
 oG (l':=[(0,.bJ []),(1,.ay [J k,J n,.aa s,.aB cs len 4] 42)]) rfl rfl rfl
theorem au4(q:Nat)(c:Int)(i:Nat)(a':AV)(h:(OA 2 q c).cb i=some a'):
 ∃a,(OA 0 q c).cb i=some a∧eK (jW 0 2) a=some a':=by
 rw[sj]at h;rw[sj];simp only[xu]at h⊢;split at h
 ·rename_i h0;cases h;exact⟨_,by rw[aN h0],by simp[eK,jW]⟩
 ·rename_i h0;rw[az h0];split at h
  ·rename_i h1;cases h;exact⟨_,by rw[aN h1],by simp[eK]⟩
  ·rename_i h1;rw[az h1];split at h
   ·rename_i h2;cases h;exact⟨_,by rw[aN h2],by simp[eK,jW]⟩
   ·rename_i h2;rw[az h2];split at h
    ·rename_i h3;cases h;exact⟨_,by rw[aN h3],by simp[eK]⟩
    ·cases h
theorem afJ{N:Nat}{q:LP}{k n c:Int}{s:LN}{l:bG}(hS:bn Z (GI N))(ho:eN (.mk k n s l))(hN:bh l<N)(hb:q.length+(1+bh l)<60000):
 eC Z 109 [.ae 0 q.length 2,.aj [J k,J n,.aa s,.aB (bw l) l.length 4],J c] (kV q) (.ae 1 (gI c q (.mk k n s l)).length 2) (Cu (gI c q (.mk k n s l))):=by
 refine eS hS 1000 (fun _=>[0,2,4,7]) 34 (by kernel_rfl) ?_;rw[apW];refine aY.2 ⟨fun hk=>?_,fun hk=>?_⟩
 ·have hk:k=0:=by simpa using hk
  have e:gI c q (.mk k n s l)=q++[(n,c)]:=by simp[gI,hk]
  rw[e];refine⟨⟨Hl q,by omega,rfl,rfl⟩,by simp,?_⟩;simp only[Cu,jd,Hk];rfl
 ·have hk:k≠0:=by simpa using hk
  have e:gI c q (.mk k n s l)=fN c q l:=by simp[gI,hk]
  rw[e];refine qa (H:=aq (ac8 q k n s (bw l) l.length) 2) (H':=aq (adC q k n s (bw l) l.length) 3) (t':=OA 2 q.length c) (g:=0) ?_ (ano q k n s (bw l) l.length) (by kernel_rfl) (fun i a' hi=>au4 _ _ i a' hi);refine dN.rE (by kernel_rfl) (m0:=1) (xD:=[2,1]) (l:=[0,2,4,7]) (ps:=aoB) (H2:=NT q k n s (bw l) l.length) (t:=OB q.length c 0) (by kernel_rfl) (by kernel_rfl) ?_;exact apV hS ho.2.1 ho.2.2 hN (0,q) ⟨by simp,by simp only[hI];omega,by simp⟩
theorem ahu:∀N,bn Z (GI N):=by
 refine CE (e:=X3) (h1:=ahb) Zp ?_ ?_
 ·rintro⟨q,t,c⟩ args H ⟨_,_,_,h,_⟩;omega
 ·rintro N hS ⟨q,⟨k,n,s,l⟩,c⟩ args H ⟨rfl,rfl,ho,hN,hb⟩;simp only[cD]at hN hb;exact afJ hS ho (by omega) hb
def aha:dP (LP×aK×Int)where
 bN w A H:=A=[.ae 0 w.1.length 2,.aj (dy w.2.1),J w.2.2]∧H=kV w.1∧eN w.2.1∧w.1.length+cD w.2.1<60000
 v w:=.ae 1 (gI w.2.2 w.1 w.2.1).length 2
 aU w:=Cu (gI w.2.2 w.1 w.2.1)
theorem awg:aha.dT:=by rintro⟨q,t,c⟩ ⟨q',t',c'⟩ A H ⟨h1,h2,_⟩ ⟨k1,k2,_⟩;have e:=ab0 (h2.symm.trans k2);rw[h1]at k1;simp only[List.cons.injEq,AV.aj.injEq,AV.cM.injEq,true_and,and_true]at k1 e;rw[e,tY k1.2.1,k1.2.2]
def R6:Ev.bC:=cB 109 (cO aha awg cV) R5
theorem GJ:bn Z R6:=by refine dc Zp ?_;rintro⟨q,⟨k,n,s,l⟩,c⟩ args H ⟨rfl,rfl,ho,hb⟩;simp only[cD]at hb;exact afJ (ahu (bh l+1)) ho (by omega) hb
def pb(g:iP):Bool:=decide (g.cQ=2∨g.cQ=3∨g.cQ=4)
def sX(c:Nat)(q:LP)(g:iP):LP:=if pb g then fN c q g.cP++[(g.il,(c:Int))]else fN c q g.cP
def uH:Nat->LP->c7->LP
 |_,q,[]=>q
 |c,q,g::gs=>uH (if g.cQ=1 then c+1 else c) (sX c q g) gs
def fT(f:a9):LP:=uH 0 (fN 0 [] f.aQ) f.au
def eg:c7->Nat
 |[]=>0
 |g::l=>bh g.cP+1+eg l
def Wp:dP a9 where
 bN f A H:=A=[.aj (dj f)]∧H=ax∧fL f∧bh f.aQ+eg f.au<50000
 v f:=.ae 0 (fT f).length 2
 aU f:=kV (fT f)
theorem aou:Wp.dT:=by rintro f f' A H ⟨h1,_⟩ ⟨h3,_⟩;rw[h1]at h3;simp only[List.cons.injEq,AV.aj.injEq,and_true]at h3;rw[sU _ _ h3]
def R7:Ev.bC:=cB 68 (cO Wp aou cV) R6
def An:Nat->LN:=nk [(3,[1,3,4]),(8,[1,3,5,6]),(12,[1,3,5,6,7,8])]
def nC(nm:LN)(ar aM:Int)(cs:LV)(len:Nat)(gs:LV)(gl:Nat):bc:=.ay [.aa nm,J ar,J aM,.aB cs len 4,.aB gs gl 6] 27
theorem atv(nm:LN)(ar aM:Int)(cs:LV)(len:Nat)(gs:LV)(gl:Nat)(L:LT)(Q:QT):
 b_ Z R6 An L Q 1000 68 [.aj [.aa nm,J ar,J aM,.aB cs len 4,.aB gs gl 6]] ax=(
 L (bk [(1,.ad 0 0),(3,.bg),(4,J 0)]) (fH nm ar aM cs len gs gl) (ao Z 68 0)):=by kernel_rfl
abbrev tB x0 x1 x2:=bk [(1,.ad 0 0),(3,.ae 1 x0 2),(5,J x1),(6,J x2)]
theorem atp(nm:LN)(ar aM:Int)(cs:LV)(len:Nat)(gs:LV)(gl:Nat)(q:LP)(i:Int)(L:LT)(Q:QT):
 cT Z R6 An L Q 1000 68 0 (bk [(1,.ad 0 0),(3,.ae 1 q.length 2),(4,J i)]) (ao Z 68 0) (aq [(0,nC nm ar aM cs len gs gl),(1,jd q)] 2)=(
 ai (decide (i<Int.ofNat len)) (∃aI:Nat,i=(aI:Int)∧aI<len∧(∃n:Int,∃aP:Int,∃s:LN,∃cN:LV,∃cz:Nat,((cs.drop (aI*4)).take 4:LV)=[J n,J aP,.aa s,.aB cN cz 4]∧(∃w:List (Int×Int)×aK×Int,(([.ae 0 q.length 2,.aj [J n,J aP,.aa s,.aB cN cz 4],J 0]:LV)=[.ae 0 w.1.length 2,.aj (dy w.2.1),J w.2.2]∧kV q=kV w.1∧eN w.2.1∧w.1.length+cD w.2.1<60000)∧L (bk [(1,.ad 0 0),(3,.ae 1 (gI w.2.2 w.1 w.2.1).length 2),(4,J (wI (i+1)))]) (aq [(0,nC nm ar aM cs len gs gl),(1,jd (gI w.2.2 w.1 w.2.1))] 2) (ao Z 68 0)))) (L (tB q.length 0 0) (aq [(0,nC nm ar aM cs len gs gl),(1,jd q)] 2) (ao Z 68 1))):=by kernel_rfl
abbrev OC x0 x1 x2 x3:=bk [(1,.ad 0 0),(3,.ae 1 x0 2),(5,J x1),(6,J x2),(7,.ad 2 0),(8,J x3)]
theorem atr(nm:LN)(ar aM:Int)(cs:LV)(len:Nat)(gs:LV)(gl:Nat)(q:LP)(c i:Int)(L:LT)(Q:QT):
 cT Z R6 An L Q 1000 68 0 (tB q.length c i) (ao Z 68 1) (aq [(0,nC nm ar aM cs len gs gl),(1,jd q)] 2)=(
 ai (decide (i<Int.ofNat gl)) (∃aI:Nat,i=(aI:Int)∧aI<gl∧(∃n:Int,∃s:LN,∃aP:Int,∃bp:Int,∃cN:LV,∃cz:Nat,∃bI:Int,((gs.drop (aI*6)).take 6:LV)=[J n,.aa s,J aP,J bp,.aB cN cz 4,J bI]∧L (OC q.length c i 0) (aq [(0,nC nm ar aM cs len gs gl),(1,jd q),(2,.ay [J n,.aa s,J aP,J bp,.aB cN cz 4,J bI] 46)] 3) (ao Z 68 2))) (Q (.ae 0 q.length 2) (kV q))):=by kernel_rfl
theorem att(nm:LN)(ar aM:Int)(cs:LV)(len:Nat)(gs:LV)(gl:Nat)(q:LP)(c i j:Int)(k:Int)(k_:LN)(kP kQ:Int)(ls:LV)(ll:Nat)(v:Int)(L:LT)(Q:QT):
 cT Z R6 An L Q 1000 68 0 (OC q.length c i j) (ao Z 68 2) (aq [(0,nC nm ar aM cs len gs gl),(1,jd q),(2,.ay [J k,.aa k_,J kP,J kQ,.aB ls ll 4,J v] 46)] 3)=(
 ai (decide (j<Int.ofNat ll)) (∃aI:Nat,j=(aI:Int)∧aI<ll∧(∃n:Int,∃aP:Int,∃s:LN,∃cN:LV,∃cz:Nat,((ls.drop (aI*4)).take 4:LV)=[J n,J aP,.aa s,.aB cN cz 4]∧(∃w:List (Int×Int)×aK×Int,(([.ae 0 q.length 2,.aj [J n,J aP,.aa s,.aB cN cz 4],J c]:LV)=[.ae 0 w.1.length 2,.aj (dy w.2.1),J w.2.2]∧kV q=kV w.1∧eN w.2.1∧w.1.length+cD w.2.1<60000)∧L (OC (gI w.2.2 w.1 w.2.1).length c i (wI (j+1))) (aq [(0,nC nm ar aM cs len gs gl),(1,jd (gI w.2.2 w.1 w.2.1)),(2,.ay [J k,.aa k_,J kP,J kQ,.aB ls ll 4,J v] 46)] 3) (ao Z 68 2)))) (ai (k==2) (((fj q).length=q.length*2∧q.length+1<=65536∧true=true∧true=true)∧ai (k==1) (L (tB (q.length+1) (wI (c+1)) (wI (i+1))) (aq [(0,nC nm ar aM cs len gs gl),(1,.aL (fj q++[J v,J c]) 122)] 2) (ao Z 68 1)) (L (tB (q.length+1) c (wI (i+1))) (aq [(0,nC nm ar aM cs len gs gl),(1,.aL (fj q++[J v,J c]) 122)] 2) (ao Z 68 1))) (ai (k==3) (((fj q).length=q.length*2∧q.length+1<=65536∧true=true∧true=true)∧ai (k==1) (L (tB (q.length+1) (wI (c+1)) (wI (i+1))) (aq [(0,nC nm ar aM cs len gs gl),(1,.aL (fj q++[J v,J c]) 122)] 2) (ao Z 68 1)) (L (tB (q.length+1) c (wI (i+1))) (aq [(0,nC nm ar aM cs len gs gl),(1,.aL (fj q++[J v,J c]) 122)] 2) (ao Z 68 1))) (ai (k==4) (((fj q).length=q.length*2∧q.length+1<=65536∧true=true∧true=true)∧ai (k==1) (L (tB (q.length+1) (wI (c+1)) (wI (i+1))) (aq [(0,nC nm ar aM cs len gs gl),(1,.aL (fj q++[J v,J c]) 122)] 2) (ao Z 68 1)) (L (tB (q.length+1) c (wI (i+1))) (aq [(0,nC nm ar aM cs len gs gl),(1,.aL (fj q++[J v,J c]) 122)] 2) (ao Z 68 1))) (ai (k==1) (L (tB q.length (wI (c+1)) (wI (i+1))) (aq [(0,nC nm ar aM cs len gs gl),(1,jd q)] 2) (ao Z 68 1)) (L (tB q.length c (wI (i+1))) (aq [(0,nC nm ar aM cs len gs gl),(1,jd q)] 2) (ao Z 68 1))))))):=by kernel_rfl
theorem Bt:∀l:c7,l.length<=eg l
 |[]=>by simp
 |g::l=>by have:=Bt l;simp only[eg,bR];omega
section
variable{nm:LN}{ar aM:Int}{cs:LV}{len:Nat}{gs:LV}{gl:Nat}{aw:LP}
theorem atu{c i:Nat}{k:Int}{k_:LN}{kP kQ:Int}{ls:bG}{v:Int}{q0:LP}(hc:c<60000)(hi:i<60000)(hl:eQ ls.length)(ho:iS ls)
 (hb:(fN c q0 ls).length+1<60000)
 (next:bF Z 68 76 0 (.ae 0 aw.length 2) (kV aw) (tB (sX c q0 ⟨k,⟨k_,kP,kQ⟩,ls,v⟩).length ((if k=1 then c+1 else c:Nat):Int) ((i+1:Nat):Int)) (aq [(0,nC nm ar aM cs len gs gl),(1,jd (sX c q0 ⟨k,⟨k_,kP,kQ⟩,ls,v⟩))] 2) (ao Z 68 1)):
 ∀p:Nat×LP,(p.1<=ls.length∧p.2.length+bh (ls.drop p.1)<60000∧fN c p.2 (ls.drop p.1)=fN c q0 ls)->
 bF Z 68 76 0 (.ae 0 aw.length 2) (kV aw) (OC p.2.length (c:Int) (i:Int) (p.1:Int)) (aq [(0,nC nm ar aM cs len gs gl),(1,jd p.2),(2,.ay [J k,.aa k_,J kP,J kQ,.aB (bw ls) ls.length 4,J v] 46)] 3) (ao Z 68 2):=by
 refine cX (fun p=>ls.length-p.1) _ _ _ _ ?_;rintro⟨j,q⟩ ⟨hj,hq,hf⟩ ih;simp only at hj hq hf ih⊢;refine hD GJ 1000 An (by kernel_rfl) ?_;rw[att];refine aY.2 ⟨fun an=>?_,fun a8=>?_⟩
 ·have an:j<ls.length:=by simpa using an
  obtain⟨k',n',s',ts,he,bU,bq⟩:=oj an ho;rw[dv an,he,fN]at hf;rw[dv an,he,bh]at hq;have de:=O9 c q (.mk k' n' s' ts);refine⟨j,rfl,an,k',n',s',_,_,bU,(q,.mk k' n' s' ts,(c:Int)),⟨rfl,rfl,bq,by simp only;omega⟩,?_⟩;rw[iA hl an];exact ih (j+1,gI c q (.mk k' n' s' ts)) ⟨by simp;omega,by simp only;omega,hf⟩ (by simp;omega)
 ·have a8:ls.length<=j:=by simpa using a8
  rw[dV a8,fN]at hf;subst hf;rw[fE (n:=i+1) (iz i) (by omega),fE (n:=c+1) (iz c) (by omega)];have key:∀(b:Bool),pb ⟨k,⟨k_,kP,kQ⟩,ls,v⟩=b->∀(c':Nat),(if k=1 then c+1 else c)=c'->bF Z 68 76 0 (.ae 0 aw.length 2) (kV aw) (tB (bif b then(fN c q0 ls).length+1 else(fN c q0 ls).length) (c':Int) ((i+1:Nat):Int)) (aq [(0,nC nm ar aM cs len gs gl),(1,.aL (bif b then fj (fN c q0 ls)++[J v,J (c:Int)]else fj (fN c q0 ls)) 122)] 2) (ao Z 68 1):=by
   intro b rZ c' qQ;rw[qQ]at next
   cases b with
   |true=>
    have e:sX c q0 ⟨k,⟨k_,kP,kQ⟩,ls,v⟩=fN c q0 ls++[(v,(c:Int))]:=by simp[sX,rZ]
    rw[e,bj]at next
    simp only[jd,Hk]at next
    exact next
   |false=>
    have e:sX c q0 ⟨k,⟨k_,kP,kQ⟩,ls,v⟩=fN c q0 ls:=by simp[sX,rZ]
    rw[e]at next
    exact next
  have bH:(fj (fN c q0 ls)).length=(fN c q0 ls).length*2∧(fN c q0 ls).length+1<=65536∧true=true∧true=true:=⟨Hl _,by omega,rfl,rfl⟩;have ops:∀x:Int,k=x->(x=2∨x=3∨x=4)->pb ⟨k,⟨k_,kP,kQ⟩,ls,v⟩=true:=by intro x h1 h2;subst h1;simp[pb,h2]
  refine aY.2 ⟨fun h2=>⟨bH,?_⟩,fun h2=>aY.2 ⟨fun h3=>⟨bH,?_⟩,fun h3=>aY.2 ⟨fun h4=>⟨bH,?_⟩,fun h4=>?_⟩⟩⟩
  ·have h2:k=2:=by simpa using h2
   exact aY.2 ⟨fun h=>(by simp at h;omega),fun h=>key true (ops 2 h2 (.inl rfl)) c (by rw[az (by omega)])⟩
  ·have h3:k=3:=by simpa using h3
   exact aY.2 ⟨fun h=>(by simp at h;omega),fun h=>key true (ops 3 h3 (.inr (.inl rfl))) c (by rw[az (by omega)])⟩
  ·have h4:k=4:=by simpa using h4
   exact aY.2 ⟨fun h=>(by simp at h;omega),fun h=>key true (ops 4 h4 (.inr (.inr rfl))) c (by rw[az (by omega)])⟩
  ·have hn:pb ⟨k,⟨k_,kP,kQ⟩,ls,v⟩=false:=by simp at h2 h3 h4;simp[pb,h2,h3,h4]
   refine aY.2 ⟨fun h=>?_,fun h=>?_⟩
   ·have h:k=1:=by simpa using h
    exact key false hn (c+1) (by rw[aN h])
   ·have h:¬k=1:=by simpa using h
    exact key false hn c (by rw[az h])
end
theorem abS(c:Nat)(q:LP)(g:iP):(sX c q g).length<=q.length+bh g.cP+1:=by
 have:=JM c q g.cP;unfold sX;split
 ·simp;omega
 ·omega
section
variable{nm:LN}{ar aM:Int}{cs:LV}{len:Nat}{aw:LP}{G:c7}
theorem ats(hl:eQ G.length)(ho:∀g∈G,oK g)(hG:G.length<50000):
 ∀p:Nat×Nat×LP,(p.1<=G.length∧p.2.1<=p.1∧p.2.2.length+eg (G.drop p.1)<50000∧uH p.2.1 p.2.2 (G.drop p.1)=aw)->
 bF Z 68 76 0 (.ae 0 aw.length 2) (kV aw) (tB p.2.2.length (p.2.1:Int) (p.1:Int)) (aq [(0,nC nm ar aM cs len (ck G) G.length),(1,jd p.2.2)] 2) (ao Z 68 1):=by
 refine cX (fun p=>G.length-p.1) _ _ _ _ ?_;rintro⟨i,c,q⟩ ⟨hi,hc,hq,hf⟩ ih;simp only at hi hc hq hf ih⊢;refine hD GJ 1000 An (by kernel_rfl) ?_;rw[atr];refine aY.2 ⟨fun an=>?_,fun a8=>?_⟩
 ·have an:i<G.length:=by simpa using an
  obtain⟨k,k_,kP,kQ,ls,v,he,bU,bq⟩:=o5 an ho;rw[dv an,he,uH]at hf;rw[dv an,he,eg]at hq;simp only at hf hq;have h1:=JM c q ls;have h2:=abS c q ⟨k,⟨k_,kP,kQ⟩,ls,v⟩;simp only at h2;have next:=ih (i+1,(if k=1 then c+1 else c),sX c q ⟨k,⟨k_,kP,kQ⟩,ls,v⟩) ⟨by simp;omega,by simp only;split<;>omega,by simp only;omega,hf⟩ (by simp;omega)
  simp only at next
  refine⟨i,rfl,an,k,k_,kP,kQ,_,_,v,bU,?_⟩;exact atu (by omega) (by omega) bq.2.1 bq.2.2 (by show(fN (c:Int) q ls).length+1<60000;omega) next (0,q) ⟨by simp,by simp only[hI];omega,by simp⟩
 ·have a8:G.length<=i:=by simpa using a8
  rw[dV a8,uH]at hf;subst hf;exact⟨rfl,rfl⟩
theorem atq{T:bG}(hl:eQ G.length)(ho:∀g∈G,oK g)(hG:G.length<50000)(hT:eQ T.length)(hoT:iS T)(cW:bh T+eg G<50000)(ng:uH 0 (fN 0 [] T) G=aw):
 ∀p:Nat×LP,(p.1<=T.length∧p.2.length+bh (T.drop p.1)<=bh T∧fN 0 p.2 (T.drop p.1)=fN 0 [] T)->
 bF Z 68 76 0 (.ae 0 aw.length 2) (kV aw) (bk [(1,.ad 0 0),(3,.ae 1 p.2.length 2),(4,J (p.1:Int))]) (aq [(0,nC nm ar aM (bw T) T.length (ck G) G.length),(1,jd p.2)] 2) (ao Z 68 0):=by
 refine cX (fun p=>T.length-p.1) _ _ _ _ ?_;rintro⟨i,q⟩ ⟨hi,hq,hf⟩ ih;simp only at hi hq hf ih⊢;refine hD GJ 1000 An (by kernel_rfl) ?_;rw[atp];refine aY.2 ⟨fun an=>?_,fun a8=>?_⟩
 ·have an:i<T.length:=by simpa using an
  obtain⟨k',n',s',ts,he,bU,bq⟩:=oj an hoT;rw[dv an,he,fN]at hf;rw[dv an,he,bh]at hq;have de:=O9 0 q (.mk k' n' s' ts);refine⟨i,rfl,an,k',n',s',_,_,bU,(q,.mk k' n' s' ts,0),⟨rfl,rfl,bq,by simp only;omega⟩,?_⟩;rw[iA hT an];exact ih (i+1,gI 0 q (.mk k' n' s' ts)) ⟨by simp;omega,by simp only;omega,hf⟩ (by simp;omega)
 ·have a8:T.length<=i:=by simpa using a8
  rw[dV a8]at hf hq;have hf:q=fN 0 [] T:=hf;simp only[bh]at hq;exact ats (len:=T.length) hl ho hG (0,0,q) ⟨by simp,by simp,by simp only[hI];omega,by simp only[hI];rw[hf];exact ng⟩
end
theorem QV:bn Z R7:=by refine dc GJ ?_;rintro⟨⟨nm,ar,aM⟩,T,G⟩ args H ⟨rfl,rfl,ho,cW⟩;have cW:bh T+eg G<50000:=cW;have hg:=Bt G;refine eS GJ 1000 An 76 (by kernel_rfl) ?_;simp only[Wp,dj];rw[atv];refine xa (n:=1) (l:=[(0,nC nm ar aM (bw T) T.length (ck G) G.length)]) (T:=[(1,.ad 0 0),(3,.bg),(4,J 0)]) 2 122 [3] ?_ rfl (by kernel_rfl);exact atq ho.2.2.2.1 ho.2.2.2.2 (by show G.length<50000;omega) ho.2.1 ho.2.2.1 cW rfl (0,[]) ⟨by simp,by simp,by simp⟩
def lZ(v:Int):LP->Nat
 |[]=>0
 |p::l=>(if p.1=v then 1 else 0)+lZ v l
def RJ:dP (a9×Int)where
 bN w A H:=A=[.aj (dj w.1),J w.2]∧H=ax∧fL w.1∧ei w.1=true∧bh w.1.aQ+eg w.1.au<50000
 v w:=J (lZ w.2 (fT w.1):Nat)
 aU w:=ax
theorem aiR:RJ.dT:=by rintro⟨f,v⟩ ⟨f',v'⟩ A H ⟨h1,_⟩ ⟨h3,_⟩;rw[h1]at h3;simp only[List.cons.injEq,AV.aj.injEq,AV.cM.injEq,true_and,and_true]at h3;rw[sU _ _ h3.1,h3.2]
def R8:Ev.bC:=cB 111 (cO RJ aiR cV) R7
abbrev Jt x0 x1 x2 x3:=bk [(1,J x0),(5,.ae 0 x1 2),(6,J x2),(7,J x3)]
theorem apZ(nm:LN)(ar aM:Int)(cs:LV)(len:Nat)(gs:LV)(gl:Nat)(v:Int)(L:LT)(Q:QT):
 b_ Z R7 (fun _=>[1,5,6,7]) L Q 1000 111 [.aj [.aa nm,J ar,J aM,.aB cs len 4,.aB gs gl 6],J v] ax=(
 (aq [] 0=ax∧Ab [.aa nm,J ar,J aM,.aB cs len 4,.aB gs gl 6])∧ai (!m_ ei [.aa nm,J ar,J aM,.aB cs len 4,.aB gs gl 6]) (Q (J 0) ax) (∃w:a9,(([.aj [.aa nm,J ar,J aM,.aB cs len 4,.aB gs gl 6]]:LV)=[.aj (dj w)]∧aq [] 0=ax∧fL w∧bh w.aQ+eg w.au<50000)∧L (Jt v (fT w).length 0 0) (kV (fT w)) (ao Z 111 0))):=by kernel_rfl
theorem ap1(q:LP)(v n i:Int)(L:LT)(Q:QT):
 cT Z R7 (fun _=>[1,5,6,7]) L Q 1000 111 0 (Jt v q.length n i) (ao Z 111 0) (kV q)=(
 ai (decide (i<Int.ofNat q.length)) (∃aI:Nat,i=(aI:Int)∧aI<q.length∧(∃aP:Int,bA Z 2 (fj q) (aI*2+0)=some (J aP:AV)∧ai (aP==v) (L (Jt v q.length (wI (n+1)) (wI (i+1))) (kV q) (ao Z 111 0)) (L (Jt v q.length n (wI (i+1))) (kV q) (ao Z 111 0)))) (Q (J n) ax)):=by kernel_rfl
theorem aaR:∀{l:LP} {i:Nat} (h:i<l.length),bA Z 2 (fj l) (i*2+0)=some (J l[i].1)
 |p::l,0,_=>by rw[FK];rfl
 |p::l,i+1,h=>by
  have:=aaR (l:=l) (i:=i) (by simpa using h);rw[FK]at this⊢;have e:(i+1)*2+0=i*2+0+1+1:=by omega
  rw[e];exact this
theorem O7(f:a9):(fT f).length<=bh f.aQ+eg f.au:=by
 have key:∀(gs:c7) (c:Nat) (q:LP),(uH c q gs).length<=q.length+eg gs:=by
  intro gs;induction gs with
  |nil=>intro c q;simp[uH]
  |cons g gs ih=>intro c q;have h1:=abS c q g;have h2:=ih (if g.cQ=1 then c+1 else c) (sX c q g);simp only[uH,eg];omega
 have h1:=JM 0 [] f.aQ;have h2:=key f.au 0 (fN 0 [] f.aQ);unfold fT;simp at h1;omega
theorem aam(v:Int):∀l:LP,lZ v l<=l.length
 |[]=>by simp[lZ]
 |p::l=>by have:=aam v l;simp only[lZ,bR];split<;>omega
theorem apY{q:LP}{v:Int}{aw:Nat}(hq:q.length<60000):
 ∀p:Nat×Nat,(p.1<=q.length∧p.2<=p.1∧p.2+lZ v (q.drop p.1)=aw)->
 bF Z 111 29 0 (J (aw:Int)) ax (Jt v q.length (p.2:Int) (p.1:Int)) (kV q) (ao Z 111 0):=by
 refine cX (fun p=>q.length-p.1) _ _ _ _ ?_;rintro⟨i,n⟩ ⟨hi,hn,hf⟩ ih;simp only at hi hn hf ih⊢;refine hD QV 1000 (fun _=>[1,5,6,7]) (by kernel_rfl) ?_;rw[ap1];refine aY.2 ⟨fun an=>?_,fun a8=>?_⟩
 ·have an:i<q.length:=by simpa using an
  rw[dv an,lZ]at hf;refine⟨i,rfl,an,q[i].1,aaR an,?_⟩;rw[fE an (by omega),fE (n:=n+1) (iz n) (by omega)];refine aY.2 ⟨fun h=>?_,fun h=>?_⟩
  ·have h:q[i].1=v:=by simpa using h
   rw[aN h]at hf;exact ih (i+1,n+1) ⟨by simp;omega,by simp;omega,by simp only;omega⟩ (by simp;omega)
  ·have h:¬q[i].1=v:=by simpa using h
   rw[az h]at hf;exact ih (i+1,n) ⟨by simp;omega,by simp;omega,by simp only;omega⟩ (by simp;omega)
 ·have a8:q.length<=i:=by simpa using a8
  rw[dV a8,lZ]at hf;have hf:n=aw:=by omega
  subst hf;exact⟨rfl,rfl⟩
theorem Zq:bn Z R8:=by
 refine dc QV ?_;rintro⟨⟨⟨nm,ar,aM⟩,T,G⟩,v⟩ args H ⟨rfl,rfl,ho,hv,cW⟩;have ho:fL ⟨⟨nm,ar,aM⟩,T,G⟩:=ho;have hv:ei ⟨⟨nm,ar,aM⟩,T,G⟩=true:=hv;have cW:bh T+eg G<50000:=cW;have bH:=O7 ⟨⟨nm,ar,aM⟩,T,G⟩;simp only at bH;refine eS QV 1000 (fun _=>[1,5,6,7]) 29 (by kernel_rfl) ?_;simp only[RJ,dj];rw[apZ];have hd:m_ ei [.aa nm,J ar,J aM,.aB (bw T) T.length 4,.aB (ck G) G.length 6]=true:=by have:=ye ei ⟨⟨nm,ar,aM⟩,T,G⟩;rw[hv]at this;exact this
 refine⟨⟨rfl,⟨⟨nm,ar,aM⟩,T,G⟩,rfl,ho⟩,aY.2 ⟨fun h=>(by rw[hd]at h;cases h),fun _=>?_⟩⟩;refine⟨⟨⟨nm,ar,aM⟩,T,G⟩,⟨rfl,rfl,ho,cW⟩,?_⟩;exact apY (by omega) (0,0) ⟨by simp,by simp,by simp⟩
def aaa:LV->Option (Prop×AV)
 |[.cM .i64 op,.aj [.aa nm,.cM .i64 ar,.cM .i64 aM]]=>some (True,.aj [J op,J 0,J 0,J aM,.aa nm,J ar])
 |_=>none
def R9:Ev.bC:=ft 40 (fy aaa) R8
theorem asN(op ar aM:Int)(nm:LN)(L:LT)(Q:QT):
 b_ Z R8 (fun _=>[]) L Q 1000 40 [J op,.aj [.aa nm,J ar,J aM]] ax=(
 Q (.aj [J op,J 0,J 0,J aM,.aa nm,J ar]) ax):=by kernel_rfl
theorem QW:bn Z R9:=by
 refine jM Zq fun args q v h hq=>?_
 unfold aaa at h;split at h<;>cases h;refine eS Zq 1000 (fun _=>[]) 13 (by kernel_rfl) ?_;rw[asN];exact⟨rfl,rfl⟩
structure dE where
 KI:Int
 tI:Int
 tJ:Int
 deriving DecidableEq,Inhabited
def vS(s:dE):AV:=.aj [J s.KI,J s.tI,J s.tJ]
theorem avG:∀a b,vS a=vS b->a=b:=by rintro⟨a,b,c⟩ ⟨a',b',c'⟩ h;simp only[vS,AV.aj.injEq,List.cons.injEq,AV.cM.injEq,true_and,and_true]at h;obtain⟨rfl,rfl,rfl⟩:=h;rfl
abbrev dM:=List (Int×dE)×LI
def iR(st:dM)(v c:Int):dM:=
 match lk v st.1 with
 |none=>(up v ⟨st.2.length,c,c⟩ st.1,st.2++[v])
 |some s=>(up v ⟨s.KI,s.tI,c⟩ st.1,st.2)
mutual
def nq(c:Int):dM->aK->dM
 |st,.mk k n _ l=>if k=0 then iR st n c else iJ c st l
def iJ(c:Int):dM->bG->dM
 |st,[]=>st
 |st,t::l=>iJ c (nq c st t) l
end
theorem aef(st:dM)(v c:Int):(iR st v c).2.length<=st.2.length+1:=by unfold iR;split<;>simp
mutual
theorem VY(c:Int):∀(st:dM) (t:aK),(nq c st t).2.length<=st.2.length+cD t
 |st,.mk k n s l=>by
  unfold nq;split
  ·have:=aef st n c;simp only[cD];omega
  ·have:=FE c st l;simp only[cD];omega
theorem FE(c:Int):∀(st:dM) (l:bG),(iJ c st l).2.length<=st.2.length+bh l
 |st,[]=>by simp[iJ,bh]
 |st,t::l=>by have h1:=VY c st t;have h2:=FE c (nq c st t) l;simp only[iJ,bh];omega
end
def rfA:Code:=match IY Z 22 0 with|.f_ (.rangeFunc _ _ a _)::_=>a|_=>.skip
def rfB:Code:=match IY Z 22 0 with|.f_ (.rangeFunc _ _ _ b)::_=>b|_=>.skip
def oF(st:LoopState)(t:List (Nat×AV))(d:Nat):bc:=.gG st none 22 (bk t) 120 [22] rfA rfB d
def cj(f:a9):bc:=.ay (dj f) 27
def gA(sp:List (Int×dE)):bc:=.bM (bK vS 0 sp) sp.length true
def ql(od:LI):bc:=.aL (aW od) 2
def lT(F O B C S:Nat):List (Nat×AV):=[(1,.ad F 0),(2,.ad C 0),(4,.ad S 0),(5,.ad O 0),(21,.b9 (.func 91) [] [.ad B 0])]
def gC:bc:=.ay [.bg,.bg,.bg] 60
def j5:bc:=.oP (some [])
def hR(f:a9)(st:dM):AH:=aq [(0,oF .ready (lT 2 3 4 5 6) 1),(1,j5),(2,cj f),(3,.ay [.ae 7 st.2.length 1] 58),(4,cj f),(5,gC),(6,.ay [.aS 8] 101),(7,ql st.2),(8,gA st.1)] 9
def oR(f:a9)(st:dM):AH:=aq [(0,oF .ready (lT 2 3 4 5 6) 1),(1,j5),(2,cj f),(3,.ay [.ae 9 st.2.length 1] 58),(4,cj f),(5,gC),(6,.ay [.aS 8] 101),(7,.bJ []),(8,gA st.1),(9,ql st.2)] 10
def hW(f:a9)(k:Int)(st:dM):AH:=aq [(0,.ay [.gJ 2] 143),(1,.ay [J k] 3),(2,oF .ready (lT 4 5 6 7 8) 3),(3,j5),(4,cj f),(5,.ay [.ae 9 st.2.length 1] 58),(6,cj f),(7,gC),(8,.ay [.aS 10] 101),(9,ql st.2),(10,gA st.1)] 11
def oW(f:a9)(k:Int)(st:dM):AH:=aq [(0,.ay [.gJ 2] 143),(1,.ay [J k] 3),(2,oF .ready (lT 4 5 6 7 8) 3),(3,j5),(4,cj f),(5,.ay [.ae 11 st.2.length 1] 58),(6,cj f),(7,gC),(8,.ay [.aS 10] 101),(9,.bJ []),(10,gA st.1),(11,ql st.2)] 12
theorem anw(f:a9)(st:dM):Mv (hR f st) (oR f st) 7:=oG (l':=[(0,oF .ready (lT 2 3 4 5 6) 1),(1,j5),(2,cj f),(3,.ay [.ae 9 st.2.length 1] 58),(4,cj f),(5,gC),(6,.ay [.aS 8] 101),(7,.bJ []),(8,gA st.1)]) rfl rfl rfl
theorem mvW(f:a9)(k:Int)(st:dM):Mv (hW f k st) (oW f k st) 9:=oG (l':=[(0,.ay [.gJ 2] 143),(1,.ay [J k] 3),(2,oF .ready (lT 4 5 6 7 8) 3),(3,j5),(4,cj f),(5,.ay [.ae 11 st.2.length 1] 58),(6,cj f),(7,gC),(8,.ay [.aS 10] 101),(9,.bJ []),(10,gA st.1)]) rfl rfl rfl
theorem Jb{a b:List (Int×dE)}(h:gA a=gA b):a=b:=rR avG (bc.bM.inj h).1
theorem NA{a b:LI}(h:ql a=ql b):a=b:=CJ (bc.aL.inj h).1
theorem SL{a b:a9}(h:cj a=cj b):a=b:=sU _ _ (bc.ay.inj h).1
theorem ak9{f f':a9}{st mU:dM}(h:hR f st=hR f' mU):f=f'∧st=mU:=by
 have q:=fun i=>congrArg (fun H=>AH.bD H i) h
 simp only[hR,eA]at q;exact⟨SL (dk (q 2)),Prod.ext (Jb (dk (q 8))) (NA (dk (q 7)))⟩
theorem LQ{f f':a9}{k k':Int}{st mU:dM}(h:hW f k st=hW f' k' mU):f=f'∧k=k'∧st=mU:=by
 have q:=fun i=>congrArg (fun H=>AH.bD H i) h
 simp only[hW,eA]at q;have hk:=(bc.ay.inj (dk (q 1))).1;simp only[List.cons.injEq,AV.cM.injEq,true_and,and_true]at hk;exact⟨SL (dk (q 4)),hk,Prod.ext (Jb (dk (q 10))) (NA (dk (q 9)))⟩
def WZ:dP (a9×dM×Int×Int)where
 bN w A H:=A=[.gJ 0,.aj [J w.2.2.1,J w.2.2.2]]∧H=hR w.1 w.2.1∧w.2.1.2.length<60000
 v w:=.aA true
 aU w:=oR w.1 (iR w.2.1 w.2.2.1 w.2.2.2)
theorem apj:WZ.dT:=by rintro⟨f,st,v,c⟩ ⟨f',mU,v',c'⟩ A H ⟨h1,h2,_⟩ ⟨k1,k2,_⟩;obtain⟨rfl,rfl⟩:=ak9 (h2.symm.trans k2);rw[h1]at k1;simp only[List.cons.injEq,AV.aj.injEq,AV.cM.injEq,true_and,and_true]at k1;obtain⟨rfl,rfl⟩:=k1;rfl
def Qp:Ev.bC:=cB 999999 (cO WZ apj cV) R9
def XW:dP (a9×Int×dM×Int)where
 bN w A H:=A=[J w.2.2.2,.ad 0 0,.ad 1 0]∧H=hW w.1 w.2.1 w.2.2.1∧w.2.2.1.2.length<60000
 v w:=.aA true
 aU w:=oW w.1 w.2.1 (iR w.2.2.1 w.2.2.2 w.2.1)
theorem av6:XW.dT:=by rintro⟨f,k,st,v⟩ ⟨f',k',mU,v'⟩ A H ⟨h1,h2,_⟩ ⟨k1,k2,_⟩;obtain⟨rfl,rfl,rfl⟩:=LQ (h2.symm.trans k2);rw[h1]at k1;simp only[List.cons.injEq,AV.cM.injEq,true_and,and_true]at k1;rw[k1]
def Qq:Ev.bC:=cB 94 (cO XW av6 cV) Qp
def XY(N:Nat):dP (a9×Int×dM×aK)where
 bN w A H:=A=[.aj (dy w.2.2.2),.b9 (.func 94) [] [.ad 0 0,.ad 1 0]]∧H=hW w.1 w.2.1 w.2.2.1∧eN w.2.2.2∧cD w.2.2.2<N∧w.2.2.1.2.length+cD w.2.2.2<60000
 v w:=.aA true
 aU w:=oW w.1 w.2.1 (nq w.2.1 w.2.2.1 w.2.2.2)
theorem ag6(N:Nat):(XY N).dT:=by rintro⟨f,k,st,t⟩ ⟨f',k',mU,t'⟩ A H ⟨h1,h2,_⟩ ⟨k1,k2,_⟩;obtain⟨rfl,rfl,rfl⟩:=LQ (h2.symm.trans k2);rw[h1]at k1;simp only[List.cons.injEq,AV.aj.injEq,true_and,and_true]at k1;rw[tY k1]
def GA(N:Nat):Ev.bC:=cB 93 (cO (XY N) (ag6 N) cV) Qq
def ag5:dP (a9×Int×dM×aK)where
 bN w A H:=A=[.aj (dy w.2.2.2),.b9 (.func 94) [] [.ad 0 0,.ad 1 0]]∧H=hW w.1 w.2.1 w.2.2.1∧eN w.2.2.2∧w.2.2.1.2.length+cD w.2.2.2<60000
 v w:=.aA true
 aU w:=oW w.1 w.2.1 (nq w.2.1 w.2.2.1 w.2.2.2)
theorem awb:ag5.dT:=by rintro⟨f,k,st,t⟩ ⟨f',k',mU,t'⟩ A H ⟨h1,h2,_⟩ ⟨k1,k2,_⟩;obtain⟨rfl,rfl,rfl⟩:=LQ (h2.symm.trans k2);rw[h1]at k1;simp only[List.cons.injEq,AV.aj.injEq,true_and,and_true]at k1;rw[tY k1]
def Kl:Ev.bC:=cB 93 (cO ag5 awb cV) Qq
def R_:dP (a9×Int×dM×bG)where
 bN w A H:=A=[.aB (bw w.2.2.2) w.2.2.2.length 4,.ad 0 0,.ad 1 0]∧H=hW w.1 w.2.1 w.2.2.1∧eQ w.2.2.2.length∧iS w.2.2.2∧w.2.2.1.2.length+bh w.2.2.2<60000
 v w:=.aA true
 aU w:=oW w.1 w.2.1 (iJ w.2.1 w.2.2.1 w.2.2.2)
theorem aji:R_.dT:=by rintro⟨f,k,st,t⟩ ⟨f',k',mU,t'⟩ A H ⟨h1,h2,_⟩ ⟨k1,k2,_⟩;obtain⟨rfl,rfl,rfl⟩:=LQ (h2.symm.trans k2);rw[h1]at k1;simp only[List.cons.injEq,AV.aB.injEq,true_and,and_true]at k1;rw[wP k1.2 k1.1]
def Qs:Ev.bC:=cB 92 (cO R_ aji cV) Kl
theorem ae9(f:a9)(st:dM)(v c:Int)(L:LT)(Q:QT):
 W9 Z R9 (fun _=>[]) L Q 1000 0 (.aj [J v,J c]) (hR f st)=(
 ∃n:Int,∃aP:Int,∃bp:Int,∃b:Bool,(gf Z 2 108 (bK vS 0 st.fst) (J v)=some ((.aj [J n,J aP,J bp],b)))∧
 ai (!b)
  (((List.length (aW st.snd)=(List.length st.snd)*1)∧
    ((List.length st.snd)+1<=65536)∧
    (true=true)∧
    true=true)∧
    ∃bQ:List (AV×AV×Nat),∃c':Nat,(lN Z 2 (bK vS 0 st.fst) (List.length st.fst) (J v) (.aj [J (Int.ofNat (List.length st.snd)),J c,J c])=some ((bQ,c')))∧
    Q (.aA true) (aq [(0,(oF LoopState.ready [(1,.ad 2 0),(2,.ad 5 0),(4,.ad 6 0),(5,.ad 3 0),(21,.b9 (.func 91) [] [.ad 4 0])] 1)),(1,.oP (some [])),(2,.ay [.aa f.aH.cL,J (d_.ar (a9.aH f)),J (d_.aM (a9.aH f)),.aB (bw f.aQ) (List.length f.aQ) 4,.aB (ck f.au) (List.length f.au) 6] 27),(3,.ay [.ae 9 ((List.length st.snd)+1) 1] 58),(4,.ay [.aa f.aH.cL,J (d_.ar (a9.aH f)),J (d_.aM (a9.aH f)),.aB (bw f.aQ) (List.length f.aQ) 4,.aB (ck f.au) (List.length f.au) 6] 27),(5,.ay [.bg,.bg,.bg] 60),(6,.ay [.aS 8] 101),(7,.bJ []),(8,.bM bQ c' true),(9,.aL ((aW st.snd)++[J v]) 2)] 10))
  (∃bQ:List (AV×AV×Nat),∃c':Nat,(lN Z 2 (bK vS 0 st.fst) (List.length st.fst) (J v) (.aj [J n,J aP,J c])=some ((bQ,c')))∧
    Q (.aA true) (aq [(0,(oF LoopState.ready [(1,.ad 2 0),(2,.ad 5 0),(4,.ad 6 0),(5,.ad 3 0),(21,.b9 (.func 91) [] [.ad 4 0])] 1)),(1,.oP (some [])),(2,.ay [.aa f.aH.cL,J (d_.ar (a9.aH f)),J (d_.aM (a9.aH f)),.aB (bw f.aQ) (List.length f.aQ) 4,.aB (ck f.au) (List.length f.au) 6] 27),(3,.ay [.ae 7 (List.length st.snd) 1] 58),(4,.ay [.aa f.aH.cL,J (d_.ar (a9.aH f)),J (d_.aM (a9.aH f)),.aB (bw f.aQ) (List.length f.aQ) 4,.aB (ck f.au) (List.length f.au) 6] 27),(5,.ay [.bg,.bg,.bg] 60),(6,.ay [.aS 8] 101),(7,.aL (aW st.snd) 2),(8,.bM bQ c' true)] 9))):=by kernel_rfl
abbrev EC x0 x1 x2 x3 x4:=aq [(0,.ay [.gJ 2] 143),(1,.ay [J x0] 3),(2,oF LoopState.ready [(1,.ad 4 0),(2,.ad 7 0),(4,.ad 8 0),(5,.ad 5 0),(21,.b9 (.func 91) [] [.ad 6 0])] 3),(3,j5),(4,cj x1),(5,.ay [.ae 11 x2 1] 58),(6,cj x1),(7,gC),(8,.ay [.aS 10] 101),(9,.bJ []),(10,gA x3),(11,aD x4 2)] 12
theorem aun(f:a9)(k:Int)(st:dM)(v:Int)(L:LT)(Q:QT):
 b_ Z Qp (fun _=>[]) L Q 1000 94 [J v,.ad 0 0,.ad 1 0] (hW f k st)=(
 ∃w:a9×dM×Int×Int,(([.gJ 0,.aj [J v,J k]]:LV)=[.gJ 0,.aj [J w.2.2.1,J w.2.2.2]]∧aq [(0,oF LoopState.ready [(1,.ad 2 0),(2,.ad 5 0),(4,.ad 6 0),(5,.ad 3 0),(21,.b9 (.func 91) [] [.ad 4 0])] 1),(1,j5),(2,cj f),(3,.ay [.ae 7 st.2.length 1] 58),(4,cj f),(5,gC),(6,.ay [.aS 8] 101),(7,aD st.2 2),(8,gA st.1)] 9=hR w.1 w.2.1∧w.2.1.2.length<60000)∧Q (.aA true) (EC k w.1 (iR w.2.1 w.2.2.1 w.2.2.2).2.length (iR w.2.1 w.2.2.1 w.2.2.2).1 (iR w.2.1 w.2.2.1 w.2.2.2).2)):=by kernel_rfl
abbrev Ju x0 x1 x2:=bk [(1,.b9 (.func 94) [] [.ad 0 0,.ad 1 0]),(15,.aB x0 x1 4),(16,J (Int.ofNat x1)),(17,J x2)]
abbrev HG x0 x1 x2 x3 x4:=aq [(0,.ay [.gJ 2] 143),(1,.ay [J x0] 3),(2,oF LoopState.ready [(1,.ad 4 0),(2,.ad 7 0),(4,.ad 8 0),(5,.ad 5 0),(21,.b9 (.func 91) [] [.ad 6 0])] 3),(3,j5),(4,cj x1),(5,.ay [.ae 9 x2 1] 58),(6,cj x1),(7,gC),(8,.ay [.aS 10] 101),(9,aD x3 2),(10,gA x4)] 11
theorem aul(f:a9)(c:Int)(st:dM)(k n:Int)(s:LN)(cs:LV)(len:Nat)(N:Nat)(L:LT)(Q:QT):
 b_ Z (GA N) (fun _=>[1,15,16,17]) L Q 1000 93 [.aj [J k,J n,.aa s,.aB cs len 4],.b9 (.func 94) [] [.ad 0 0,.ad 1 0]] (hW f c st)=(
 ai (k==0) (∃w:a9×Int×dM×Int,(([J n,.ad 0 0,.ad 1 0]:LV)=[J w.2.2.2,.ad 0 0,.ad 1 0]∧HG c f st.2.length st.2 st.1=hW w.1 w.2.1 w.2.2.1∧w.2.2.1.2.length<60000)∧Q (.aA true) (EC w.2.1 w.1 (iR w.2.2.1 w.2.2.2 w.2.1).2.length (iR w.2.2.1 w.2.2.2 w.2.1).1 (iR w.2.2.1 w.2.2.2 w.2.1).2)) (L (Ju cs len 0) (HG c f st.2.length st.2 st.1) (ao Z 93 0))):=by kernel_rfl
theorem aum(f:a9)(c:Int)(st:dM)(cs:LV)(len:Nat)(i:Int)(N:Nat)(L:LT)(Q:QT):
 cT Z (GA N) (fun _=>[1,15,16,17]) L Q 1000 93 11 (Ju cs len i) (ao Z 93 0) (oW f c st)=(
 ai (decide (i<Int.ofNat len)) (∃aI:Nat,i=(aI:Int)∧aI<len∧(∃n:Int,∃aP:Int,∃s:LN,∃cN:LV,∃cz:Nat,((cs.drop (aI*4)).take 4:LV)=[J n,J aP,.aa s,.aB cN cz 4]∧(∃w:a9×Int×dM×aK,(([.aj [J n,J aP,.aa s,.aB cN cz 4],.b9 (.func 94) [] [.ad 0 0,.ad 1 0]]:LV)=[.aj (dy w.2.2.2),.b9 (.func 94) [] [.ad 0 0,.ad 1 0]]∧HG c f st.2.length st.2 st.1=hW w.1 w.2.1 w.2.2.1∧eN w.2.2.2∧cD w.2.2.2<N∧w.2.2.1.2.length+cD w.2.2.2<60000)∧L (Ju cs len (wI (i+1))) (EC w.2.1 w.1 (nq w.2.1 w.2.2.1 w.2.2.2).2.length (nq w.2.1 w.2.2.1 w.2.2.2).1 (nq w.2.1 w.2.2.1 w.2.2.2).2) (ao Z 93 0)))) (Q (.aA true) (EC c f st.2.length st.1 st.2))):=by kernel_rfl
abbrev Jv x0 x1 x2:=bk [(1,.ad 0 0),(2,.ad 1 0),(7,.aB x0 x1 4),(8,J (Int.ofNat x1)),(9,J x2)]
theorem aui(f:a9)(c:Int)(st:dM)(cs:LV)(len:Nat)(L:LT)(Q:QT):
 b_ Z Kl (fun _=>[1,2,7,8,9]) L Q 1000 92 [.aB cs len 4,.ad 0 0,.ad 1 0] (hW f c st)=(
 L (Jv cs len 0) (HG c f st.2.length st.2 st.1) (ao Z 92 0)):=by kernel_rfl
theorem auj(f:a9)(c:Int)(st:dM)(cs:LV)(len:Nat)(i:Int)(L:LT)(Q:QT):
 cT Z Kl (fun _=>[1,2,7,8,9]) L Q 1000 92 11 (Jv cs len i) (ao Z 92 0) (oW f c st)=(
 ai (decide (i<Int.ofNat len)) (∃aI:Nat,i=(aI:Int)∧aI<len∧(∃n:Int,∃aP:Int,∃s:LN,∃cN:LV,∃cz:Nat,((cs.drop (aI*4)).take 4:LV)=[J n,J aP,.aa s,.aB cN cz 4]∧(∃w:a9×Int×dM×aK,(([.aj [J n,J aP,.aa s,.aB cN cz 4],.b9 (.func 94) [] [.ad 0 0,.ad 1 0]]:LV)=[.aj (dy w.2.2.2),.b9 (.func 94) [] [.ad 0 0,.ad 1 0]]∧HG c f st.2.length st.2 st.1=hW w.1 w.2.1 w.2.2.1∧eN w.2.2.2∧w.2.2.1.2.length+cD w.2.2.2<60000)∧L (Jv cs len (wI (i+1))) (EC w.2.1 w.1 (nq w.2.1 w.2.2.1 w.2.2.2).2.length (nq w.2.1 w.2.2.1 w.2.2.2).1 (nq w.2.1 w.2.2.1 w.2.2.2).2) (ao Z 92 0)))) (Q (.aA true) (EC c f st.2.length st.1 st.2))):=by kernel_rfl
theorem ahc:kM Z 108=some (vS ⟨0,0,0⟩):=by kernel_rfl
theorem yW(l:LI)(x:Int):aW (l++[x])=aW l++[J x]:=by simp[aW]
theorem pg(l:LI):(aW l).length=l.length:=by simp[aW]
theorem Y6:bn Z Qp:=by
 refine ahH QW ?_;rintro⟨f,st,v,c⟩ args H ⟨rfl,rfl,hl⟩;refine⟨0,_,rfl,?_⟩;have hl:st.2.length<60000:=hl;obtain⟨sp,od⟩:=st;simp only at hl;simp only[WZ];cases hk:lk v sp with
 |none=>
  have e:iR (sp,od) v c=(up v ⟨od.length,c,c⟩ sp,od++[v]):=by simp[iR,hk]
  rw[e];refine afw (n:=1000) (aE:=fun _=>[]) yN QW (l:=0) rfl (show 0<9 by omega) ?_;rw[ae9];refine⟨0,0,0,false,by rw[qj _ lz,hk,ahc];rfl,?_⟩;refine aY.2 ⟨fun _=>⟨⟨by simp[pg],by simp only;omega,rfl,rfl⟩,_,_,pj vS lz (v:=⟨od.length,c,c⟩),rfl,?_⟩,fun h=>by cases h⟩;simp only[oR,ql,yW,bj,bR,cI,fD];rfl
 |some s0=>
  obtain⟨a,b,l⟩:=s0;have e:iR (sp,od) v c=(up v ⟨a,b,c⟩ sp,od):=by simp[iR,hk]
  rw[e];refine apm (H:=hR f (up v ⟨a,b,c⟩ sp,od)) ?_ (anw f _) (eh _);refine afw (n:=1000) (aE:=fun _=>[]) yN QW (l:=0) rfl (show 0<9 by omega) ?_;rw[ae9];refine⟨a,b,l,true,by rw[qj _ lz,hk];rfl,?_⟩;exact aY.2 ⟨fun h=>(by cases h),fun _=>⟨_,_,pj vS lz (v:=⟨a,b,c⟩),rfl,rfl⟩⟩
theorem Y7:bn Z Qq:=by refine dc Y6 ?_;rintro⟨f,k,st,v⟩ args H ⟨rfl,rfl,hl⟩;refine eS Y6 1000 (fun _=>[]) 10 (by kernel_rfl) ?_;simp only[XW];rw[aun];exact⟨(f,st,v,k),⟨rfl,rfl,hl⟩,rfl,rfl⟩
theorem auk{f:a9}{c:Int}{aw:dM}{l:bG}{N:Nat}(hS:bn Z (GA N))(hl:eQ l.length)(ho:iS l)(hN:bh l<N):
 ∀p:Nat×dM,(p.1<=l.length∧p.2.2.length+bh (l.drop p.1)<60000∧iJ c p.2 (l.drop p.1)=aw)->
 bF Z 93 26 11 (.aA true) (oW f c aw) (Ju (bw l) l.length (p.1:Int)) (oW f c p.2) (ao Z 93 0):=by
 refine cX (fun p=>l.length-p.1) _ _ _ _ ?_;rintro⟨i,st⟩ ⟨hi,hc,hf⟩ ih;simp only at hi hc hf ih⊢;refine hD hS 1000 (fun _=>[1,15,16,17]) (by kernel_rfl) ?_;rw[aum];refine aY.2 ⟨fun an=>?_,fun a8=>?_⟩
 ·have an:i<l.length:=by simpa using an
  obtain⟨k1,n1,s1,m1,he,bU,bq⟩:=oj an ho;have cW:=Gc an;rw[he]at cW;rw[dv an,he,bh]at hc;rw[dv an,he,iJ]at hf;have hg:=VY c st (.mk k1 n1 s1 m1);refine⟨i,rfl,an,k1,n1,s1,_,_,bU,(f,c,st,.mk k1 n1 s1 m1),⟨rfl,rfl,bq,by simp only;omega,by simp only;omega⟩,?_⟩;rw[iA hl an];exact ih (i+1,nq c st (.mk k1 n1 s1 m1)) ⟨by simp;omega,by simp only;omega,hf⟩ (by simp;omega)
 ·have a8:l.length<=i:=by simpa using a8
  rw[dV a8,iJ]at hf;subst hf;exact⟨rfl,rfl⟩
theorem af6{f:a9}{c:Int}{st:dM}{k n:Int}{s:LN}{l:bG}{N:Nat}(hS:bn Z (GA N))(ho:eN (.mk k n s l))(hN:bh l<N)(hc:st.2.length+(1+bh l)<60000):
 eC Z 93 [.aj [J k,J n,.aa s,.aB (bw l) l.length 4],.b9 (.func 94) [] [.ad 0 0,.ad 1 0]] (hW f c st) (.aA true) (oW f c (nq c st (.mk k n s l))):=by
 refine eS hS 1000 (fun _=>[1,15,16,17]) 26 (by kernel_rfl) ?_;rw[aul];refine aY.2 ⟨fun hk=>?_,fun hk=>?_⟩
 ·have hk:k=0:=by simpa using hk
  have e:nq c st (.mk k n s l)=iR st n c:=by rw[nq,aN hk]
  rw[e];exact⟨(f,c,st,n),⟨rfl,rfl,by simp only;omega⟩,rfl,rfl⟩
 ·have hk:¬k=0:=by simpa using hk
  have e:nq c st (.mk k n s l)=iJ c st l:=by rw[nq,az hk]
  rw[e];refine qa (H':=oW f c st) (t':=Ju (bw l) l.length ((0:Nat):Int)) ?_ (mvW f c st) (by kernel_rfl) (fun i a' hi=>⟨a',hi,rk hi (by simp[eK,iV,jW,hW,aq])⟩);exact auk hS ho.2.1 ho.2.2 hN (0,st) ⟨by simp,by simp only[hI];omega,by simp⟩
theorem ahn:∀N,bn Z (GA N):=by
 refine CE (e:=XY) (h1:=ag6) Y7 ?_ ?_
 ·rintro⟨f,c,st,t⟩ args H ⟨_,_,_,h,_⟩;omega
 ·rintro N hS ⟨f,c,st,⟨k,n,s,l⟩⟩ args H ⟨rfl,rfl,ho,hN,hc⟩;simp only[cD]at hc hN;exact af6 hS ho (by omega) hc
theorem Qr:bn Z Kl:=by refine dc Y7 ?_;rintro⟨f,c,st,⟨k,n,s,l⟩⟩ args H ⟨rfl,rfl,ho,hc⟩;simp only[cD]at hc;exact af6 (ahn (bh l+1)) ho (by omega) hc
theorem auh{f:a9}{c:Int}{aw:dM}{l:bG}(hl:eQ l.length)(ho:iS l):
 ∀p:Nat×dM,(p.1<=l.length∧p.2.2.length+bh (l.drop p.1)<60000∧iJ c p.2 (l.drop p.1)=aw)->
 bF Z 92 18 11 (.aA true) (oW f c aw) (Jv (bw l) l.length (p.1:Int)) (oW f c p.2) (ao Z 92 0):=by
 refine cX (fun p=>l.length-p.1) _ _ _ _ ?_;rintro⟨i,st⟩ ⟨hi,hc,hf⟩ ih;simp only at hi hc hf ih⊢;refine hD Qr 1000 (fun _=>[1,2,7,8,9]) (by kernel_rfl) ?_;rw[auj];refine aY.2 ⟨fun an=>?_,fun a8=>?_⟩
 ·have an:i<l.length:=by simpa using an
  obtain⟨k1,n1,s1,m1,he,bU,bq⟩:=oj an ho;rw[dv an,he,bh]at hc;rw[dv an,he,iJ]at hf;have hg:=VY c st (.mk k1 n1 s1 m1);refine⟨i,rfl,an,k1,n1,s1,_,_,bU,(f,c,st,.mk k1 n1 s1 m1),⟨rfl,rfl,bq,by simp only;omega⟩,?_⟩;rw[iA hl an];exact ih (i+1,nq c st (.mk k1 n1 s1 m1)) ⟨by simp;omega,by simp only;omega,hf⟩ (by simp;omega)
 ·have a8:l.length<=i:=by simpa using a8
  rw[dV a8,iJ]at hf;subst hf;exact⟨rfl,rfl⟩
theorem Y8:bn Z Qs:=by refine dc Qr ?_;rintro⟨f,c,st,l⟩ args H ⟨rfl,rfl,hl,ho,hc⟩;have hl:eQ l.length:=hl;have hc:st.2.length+bh l<60000:=hc;refine eS Qr 1000 (fun _=>[1,2,7,8,9]) 18 (by kernel_rfl) ?_;simp only[R_];rw[aui];refine qa (H':=oW f c st) (t':=Jv (bw l) l.length ((0:Nat):Int)) ?_ (mvW f c st) (by kernel_rfl) (fun i a' hi=>⟨a',hi,rk hi (by simp[eK,iV,jW,hW,aq])⟩);exact auh hl ho (0,st) ⟨by simp,by simp only[hI];omega,by simp⟩
end
end Go.Cl
