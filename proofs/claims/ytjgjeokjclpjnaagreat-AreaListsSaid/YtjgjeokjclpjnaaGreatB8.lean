/- Part of a proof of AreaLists. -/
import Derived.Test.YtjgjeokjclpjnaaGreatB7
set_option linter.all false
set_option linter.unusedSectionVars false
set_option maxRecDepth 100000
namespace Go.Cl
open Go.Ev Go.Proofs
noncomputable section
def pM(z:Ar)(e:Int)(tr:Bool)(aM:LV)(ni:Nat)(bs:LV)(nb:Nat):AH:=b_ z.X z.xc [(0,.aj [.aa 5 0] 25),(1,.aj [J e] 27),(2,.aj [.ao tr] 4),(3,.aj [.ai 6 ni 1] 35),(4,.aj [.ai 7 nb 1] 82),(5,d_ z 8 9 10 11 12 13),(6,.ay aM 2),(7,.ay bs 29),(8,cT z),(9,dg z),(10,df z),(11,cZ z),(12,dh z),(13,cR z)] 14
def BB(z:Ar)(e:Int)(tr:Bool)(aM:LV)(ni:Nat)(bs:LV)(nb:Nat):AH:=b_ z.X z.xc [(0,.aj [.aa 5 0] 25),(1,.aj [J e] 27),(2,.aj [.ao tr] 4),(3,.aj [.ai 14 ni 1] 35),(4,.aj [.ai 15 nb 1] 82),(5,d_ z 8 9 10 11 12 13),(6,.bc []),(7,.bc []),(8,cT z),(9,dg z),(10,df z),(11,cZ z),(12,dh z),(13,cR z),(14,.ay aM 2),(15,.ay bs 29)] 16
def Xk(z:Ar)(e:Int)(tr:Bool)(aM:LV)(ni:Nat)(bs:LV)(nb:Nat)(o:bk):AH:=b_ z.X z.xc [(0,.aj [.aa 5 0] 25),(1,.aj [J e] 27),(2,.aj [.ao tr] 4),(3,.aj [.ai 15 ni 1] 35),(4,.aj [.ai 16 nb 1] 82),(5,d_ z 8 9 10 11 12 13),(6,.bc []),(7,.bc []),(8,cT z),(9,dg z),(10,df z),(11,cZ z),(12,dh z),(13,cR z),(14,o),(15,.ay aM 2),(16,.ay bs 29)] 17
theorem agT{z z' e e' tr FT aM yE bs uO ni ZW nb ZT}(h:pM z e tr aM ni bs nb=pM z' e' FT yE ZW uO ZT):z=z'/\e=e'/\tr=FT/\aM=yE/\ni=ZW/\bs=uO/\nb=ZT:=by have g1:=congrArg (λH=>AH.bf H 1) h;have g2:=congrArg (λH=>AH.bf H 2) h;have g3:=congrArg (λH=>AH.bf H 3) h;have g4:=congrArg (λH=>AH.bf H 4) h;have g6:=congrArg (λH=>AH.bf H 6) h;have g7:=congrArg (λH=>AH.bf H 7) h;have h0:=congrArg (λH=>AH.bf H 5) h;have h1:=congrArg (λH=>AH.bf H 8) h;have h2:=congrArg (λH=>AH.bf H 9) h;have h3:=congrArg (λH=>AH.bf H 10) h;have h4:=congrArg (λH=>AH.bf H 11) h;have h5:=congrArg (λH=>AH.bf H 12) h;have h6:=congrArg (λH=>AH.bf H 13) h;have h7:=congrArg AH.x h;replace g1:some (bk.aj [J e] 27)=some (bk.aj [J e'] 27):=g1;replace g2:some (bk.aj [.ao tr] 4)=some (bk.aj [.ao FT] 4):=g2;replace g3:some (bk.aj [.ai 6 ni 1] 35)=some (bk.aj [.ai 6 ZW 1] 35):=g3;replace g4:some (bk.aj [.ai 7 nb 1] 82)=some (bk.aj [.ai 7 ZT 1] 82):=g4;replace g6:some (bk.ay aM 2)=some (bk.ay yE 2):=g6;replace g7:some (bk.ay bs 29)=some (bk.ay uO 29):=g7;replace h1:some (cT z)=some (cT z'):=h1;replace h6:some (cR z)=some (cR z'):=h6;have⟨a0,a1,a2,a3,a4,a5,a6,a7,a8,a9,Kd,Ke,Kf,Kg,Kh,Ki⟩:=z;have⟨b0,b1,b2,b3,b4,b5,b6,b7,b8,b9,OV,OW,OX,OY,OZ,O0⟩:=z';simp only[d_,cT,dg,df,cZ,dh,cR,pg,bk.aj.injEq,bk.ay.injEq,bk.bm.injEq,jn,AV.bU.injEq,AV.ao.injEq,AV.ai.injEq,XH.mk.injEq,true_and,and_true]at g1 g2 g3 g4 g6 g7 h0 h1 h2 h3 h4 h5 h6 h7;obtain⟨rfl,rfl,rfl,rfl⟩:=h0;obtain⟨rfl,rfl⟩:=h2;obtain⟨rfl,rfl⟩:=h3;obtain⟨rfl,rfl⟩:=h4;obtain⟨rfl,rfl⟩:=h5;obtain⟨rfl,rfl⟩:=h7;subst h1 h6 g1 g2 g3 g4 g6 g7;exact⟨rfl,rfl,rfl,rfl,rfl,rfl,rfl⟩
structure S3 where
 z:Ar
 e:Int
 aM:LI
 cW:List (List fG)
def lO(l:List (List fG)):LV:=l.map λb=>.ad (e_ b) b.length 9
def jF(tr:Bool)(st:S3)(s:ib):S3:=
 if st.e≠0 then st
 else if(ov s.c st.z.au tr).2≠0 then{st with e:=(ov s.c st.z.au tr).2}
 else⟨(mo st.z s.id (ov s.c st.z.au tr).1).1,(mo st.z s.id (ov s.c st.z.au tr).1).2.2,st.aM++[s.id],st.cW++[(mo st.z s.id (ov s.c st.z.au tr).1).2.1]⟩
structure U3 where
 st:S3
 tr:Bool
 p:cV
 s:ib
 lg:S3
def Oa(st:S3)(tr:Bool):AH:=pM st.z st.e tr (aX st.aM) st.aM.length (lO st.cW) st.cW.length
def u3X:cx U3 where
 bn w A H:=A=[.ah (GZ w.p),.ah (qW w.s),.aa 0 0,.aa 1 0,.aa 2 0,.aa 3 0,.aa 4 0]/\H=pM w.st.z w.st.e w.tr (aX w.st.aM) w.st.aM.length (lO w.st.cW) w.st.cW.length/\w.st.z.gG=[]/\rm w.s.c/\w.st.aM.length+1<=4000000/\w.st.cW.length+1<=4000000/\jF w.tr w.st w.s=w.lg
 v w:=.aC []
 aK w:=BB w.lg.z w.lg.e w.tr (aX w.lg.aM) w.lg.aM.length (lO w.lg.cW) w.lg.cW.length
theorem WE:∀{l m},lO l=lO m->l=m
 |[],[],_=>rfl
 |[],_::_,h=>by simp[lO]at h
 |_::_,[],h=>by simp[lO]at h
 |t::l,u::m,h=>by simp only[lO,gR,jn,AV.ad.injEq,and_true]at h;rw[Pm h.1.2 h.1.1,WE h.2]
theorem aCB:u3X.cr:=by rintro⟨st,tr,p,s,lg⟩ ⟨jL,FT,p',s',aEZ⟩ A H ⟨h1,h2,_,_,_,_,q1⟩ ⟨h3,h4,_,_,_,_,q2⟩;have⟨e1,e2,e3,e4,_,e5,_⟩:=agT (h2.symm.trans h4);rw[h1]at h3;simp at h3;have e6:=WS h3.2;have e7:=yY e4;have e8:=WE e5;have⟨z,e,aM,cW⟩:=st;have⟨z',e',yE,aoD⟩:=jL;subst e1 e2 e3 e6 e7 e8;rw[q1]at q2;subst q2;rfl
def Gi:Ev.bo:=bR 26 (ca u3X aCB pO) Gh
theorem aAJ{z e tr aM ni bs nb nm ar au i k n s cs len k' n' s' cs' cB L Q}:
 bI Z Gh (λ_=>[]) L Q 3000 26 [.ah [.ab nm,J ar,J au],.ah [J i,J k,J n,.ab s,.ad cs len 4,J k',J n',.ab s',.ad cs' cB 4],.aa 0 0,.aa 1 0,.aa 2 0,.aa 3 0,.aa 4 0] (pM z e tr aM ni bs nb)=(
 ∃c,aq c (∃b,eT Z 2 83 z.gG (J i)=some (.kE,b)/\aq (e !=0) (Q (.aC []) (pM z e tr aM ni bs nb)) (∃w:Fw,(([.ah [J k,J n,.ab s,.ad cs len 4,J k',J n',.ab s',.ad cs' cB 4],J z.au,.ao tr]:LV)=[.ah (HAppend.hAppend (aW w.c.1) (aW w.c.2)),J w.a,.ao w.tr]/\al [] 0=an/\bL w.c.1/\bL w.c.2/\ov w.c w.a w.tr=Prod.mk w.r w.e)/\aq (w.e==0) (∃ae:Mw,(([.aa 0 0,.ad (dM w.r) w.r.length 5,.ba (.func 29) [] [.aa 1 0]]:LV)=[.aa 0 0,.ad (dM ae.l) ae.l.length 5,.ba (.func 29) [] [.aa 1 0]]/\oy z (pq i k n s cs len k' n' s' cs' cB)=oy ae.z (tn ae.i ae.c)/\(∀f,f∈ae.l->iW f/\sf f)/\ae.l.length<=4000000/\mo ae.z ae.i ae.l=Prod.mk ae.zf (Prod.mk ae.bl ae.e))/\(aM.length=ni*1/\ni+1<=4194304/\true=true/\true=true)/\some (.ai 7 nb 1:AV)=some (.ai 7 nb 1:AV)/\(bs.length=nb*1/\nb+1<=4194304/\true=true/\true=true)/\Q (.aC []) (BB ae.zf ae.e tr (aM++[J ae.i]) (ni+1) (bs++[.ad (e_ ae.bl) ae.bl.length 9]) (nb+1))) (Q (.aC []) (pM z w.e tr aM ni bs nb)))) (∃aP off b,eT Z 2 83 z.gG (J i)=some (.gX aP off,b)/\Q (.aC []) (pM z e tr aM ni bs nb))):=by kernel_rfl
theorem aAG{z e tr aM ni bs nb nx ps np L Q}:
 bI Z Gi vw L Q 1000 23 [.ah [J nx,.ad ps np 4],.ba (.func 26) [] [.aa 0 0,.aa 1 0,.aa 2 0,.aa 3 0,.aa 4 0]] (pM z e tr aM ni bs nb)=(
 L (aB [(1,.ba (.func 26) [] [.aa 0 0,.aa 1 0,.aa 2 0,.aa 3 0,.aa 4 0]),(9,.ad ps np 4),(10,J (aE np)),(11,J 0)]) (pM z e tr aM ni bs nb) (aw Z 23 0)):=by kernel_rfl
theorem alv{z e tr aM ni bs nb ps np i L Q}:
 ck Z Gi vw L Q 1000 23 14 (aB [(1,.ba (.func 26) [] [.aa 0 0,.aa 1 0,.aa 2 0,.aa 3 0,.aa 4 0]),(9,.ad ps np 4),(10,J (aE np)),(11,J i)]) (aw Z 23 0) (BB z e tr aM ni bs nb)=(
 aq (decide (i<aE np)) (∃aL:Nat,i=(aL:Int)/\aL<np/\(∃s n b cs len,((ps.drop (aL*4)).take 4:List AV)=[.ab s,J n,.ao b,.ad cs len 9]/\L (aB [(1,.ba (.func 26) [] [.aa 0 0,.aa 1 0,.aa 2 0,.aa 3 0,.aa 4 0]),(5,.aa 14 0),(9,.ad ps np 4),(10,J (aE np)),(11,J i),(16,.ad cs len 9),(17,J (aE len)),(18,J 0)]) (Xk z e tr aM ni bs nb (ru s n b cs len)) (aw Z 23 1))) (Q (.aC []) (BB z e tr aM ni bs nb))):=by kernel_rfl
theorem alu{z e tr aM ni bs nb ps np i nm ar dy ss ns j L Q}:
 ck Z Gi vw L Q 1000 23 14 (aB [(1,.ba (.func 26) [] [.aa 0 0,.aa 1 0,.aa 2 0,.aa 3 0,.aa 4 0]),(5,.aa 14 0),(9,.ad ps np 4),(10,J (aE np)),(11,J i),(16,.ad ss ns 9),(17,J (aE ns)),(18,J j)]) (aw Z 23 1) (Xk z e tr aM ni bs nb (.aj [.ab nm,J ar,.ao dy,.ad ss ns 9] 34))=(
 aq (decide (j<aE ns)) (∃aL:Nat,j=(aL:Int)/\aL<ns/\(∃n aP bA s cs len cf dc cn bP bH,((ss.drop (aL*9)).take 9:List AV)=[J n,J aP,J bA,.ab s,.ad cs len 4,J cf,J dc,.ab cn,.ad bP bH 4]/\(∃w:U3,(([.ah [.ab nm,J ar,J 0],.ah [J n,J aP,J bA,.ab s,.ad cs len 4,J cf,J dc,.ab cn,.ad bP bH 4],.aa 0 0,.aa 1 0,.aa 2 0,.aa 3 0,.aa 4 0]:LV)=[.ah (GZ w.p),.ah (qW w.s),.aa 0 0,.aa 1 0,.aa 2 0,.aa 3 0,.aa 4 0]/\pM z e tr aM ni bs nb=Oa w.st w.tr/\w.st.z.gG=[]/\rm (ib.c w.s)/\w.st.aM.length+1<=4000000/\w.st.cW.length+1<=4000000/\jF w.tr w.st w.s=w.lg)/\L (aB [(1,.ba (.func 26) [] [.aa 0 0,.aa 1 0,.aa 2 0,.aa 3 0,.aa 4 0]),(5,.aa 14 0),(9,.ad ps np 4),(10,J (aE np)),(11,J i),(16,.ad ss ns 9),(17,J (aE ns)),(18,J (wI (j+1)))]) (b_ w.lg.z.X w.lg.z.xc [(0,.aj [.aa 5 0] 25),(1,.aj [J w.lg.e] 27),(2,.aj [.ao w.tr] 4),(3,.aj [.ai 15 w.lg.aM.length 1] 35),(4,.aj [.ai 16 w.lg.cW.length 1] 82),(5,d_ w.lg.z 8 9 10 11 12 13),(6,.bc []),(7,.bc []),(8,cT w.lg.z),(9,dg w.lg.z),(10,df w.lg.z),(11,cZ w.lg.z),(12,dh w.lg.z),(13,cR w.lg.z),(14,ru nm ar dy ss ns),(15,bK w.lg.aM 2),(16,.ay (lO w.lg.cW) 29)] 17) (aw Z 23 1)))) (L (aB [(1,.ba (.func 26) [] [.aa 0 0,.aa 1 0,.aa 2 0,.aa 3 0,.aa 4 0]),(9,.ad ps np 4),(10,J (aE np)),(11,J (wI (i+1)))]) (BB z e tr aM ni bs nb) (aw Z 23 0))):=by kernel_rfl
theorem Rs{z e tr aM bs ni nb}:Mv (pM z e tr aM ni bs nb) (b_ z.X z.xc [(0,.aj [.aa 5 0] 25),(1,.aj [J e] 27),(2,.aj [.ao tr] 4),(3,.aj [.ai 14 ni 1] 35),(4,.aj [.ai 7 nb 1] 82),(5,d_ z 8 9 10 11 12 13),(6,.bc []),(7,.ay bs 29),(8,cT z),(9,dg z),(10,df z),(11,cZ z),(12,dh z),(13,cR z),(14,.ay aM 2)] 15) 6/\Mv (b_ z.X z.xc [(0,.aj [.aa 5 0] 25),(1,.aj [J e] 27),(2,.aj [.ao tr] 4),(3,.aj [.ai 14 ni 1] 35),(4,.aj [.ai 7 nb 1] 82),(5,d_ z 8 9 10 11 12 13),(6,.bc []),(7,.ay bs 29),(8,cT z),(9,dg z),(10,df z),(11,cZ z),(12,dh z),(13,cR z),(14,.ay aM 2)] 15) (BB z e tr aM ni bs nb) 7:=
 ⟨qz (l':=[(0,.aj [.aa 5 0] 25),(1,.aj [J e] 27),(2,.aj [.ao tr] 4),(3,.aj [.ai 14 ni 1] 35),(4,.aj [.ai 7 nb 1] 82),(5,d_ z 8 9 10 11 12 13),(6,.bc []),(7,.ay bs 29),(8,cT z),(9,dg z),(10,df z),(11,cZ z),(12,dh z),(13,cR z)]) (by kernel_rfl) rfl rfl,
  qz (l':=[(0,.aj [.aa 5 0] 25),(1,.aj [J e] 27),(2,.aj [.ao tr] 4),(3,.aj [.ai 14 ni 1] 35),(4,.aj [.ai 15 nb 1] 82),(5,d_ z 8 9 10 11 12 13),(6,.bc []),(7,.bc []),(8,cT z),(9,dg z),(10,df z),(11,cZ z),(12,dh z),(13,cR z),(14,.ay aM 2)]) (by kernel_rfl) rfl rfl⟩
theorem ai4{z z0 e e0 tr tr0 aM bs ahP bs0 ni nb ni0 nb0 f A}(h:bZ Z f A (pM z0 e0 tr0 ahP ni0 bs0 nb0) (.aC []) (pM z e tr aM ni bs nb)):bZ Z f A (pM z0 e0 tr0 ahP ni0 bs0 nb0) (.aC []) (BB z e tr aM ni bs nb):=
 DU (DU h Rs.1 rfl (by show(14:Nat)<=14;omega)) Rs.2 rfl (by show(14:Nat)<=15;omega)
theorem aeI:∀l z,∃i,(ie z l).1={z with id:=i}
 |[],z=>⟨z.id,rfl⟩
 |f::l,z=>by
  simp only[ie];split
  .exact⟨_,rfl⟩
  .have⟨i,h⟩:=aeI l z.tk;exact⟨i,by rw[h];rfl⟩
theorem aeC(l z i):∃a j,(mo z i l).1={z with au:=a,id:=j}:=by
 cases l with
 |nil=>exact⟨_,z.id,rfl⟩
 |cons f l=>
  have⟨j,h⟩:=aeI l z;simp only[mo];split
  .exact⟨z.au,z.id,rfl⟩
  .split
   .exact⟨z.au,j,by rw[h]⟩
   .exact⟨_,j,by rw[h];rfl⟩
theorem PO{c a tr}(hc:rm c)(h:¬(ov c a tr).2≠0):(∀f∈(ov c a tr).1,iW f/\sf f)/\(ov c a tr).1.length<=4001/\jt c=true/\1<=a/\a<=1099511623776/\(ov c a tr).1=sG c a tr/\∀f∈sG c a tr,jM f=true:=by
 unfold ov at h⊢;by_cases hb:jt c=false\/a<1\/a>1099511623776
 .rw[aO hb]at h;exact absurd (by decide) h
 .rw[az hb]at h⊢;have hv:jt c=true:=by
   cases hh:jt c with
   |true=>rfl
   |false=>exact absurd (.inl hh) hb
  unfold AP at h⊢;by_cases ha:(sG c a tr).all jM=true
  .rw[aO ha];have⟨new,pP⟩:=W3 (first:=a) tr hc.1 hc.2 hv (by omega) (by omega);have h3:=af7 hc.1 hv pP;have h4:=aq0 (first:=a) (tr:=tr) hv;exact⟨λf hf=>⟨h3.1 f hf,h4 f hf⟩,h3.2,hv,by omega,by omega,rfl,lZ.1 ha⟩
  .rw[az ha]at h;exact absurd (by decide) h
theorem aou(l b):lO (l++[b])=lO l++[.ad (e_ b) b.length 9]:=by simp[lO]
theorem aot(l):(lO l).length=l.length:=by simp[lO]
theorem awf(l i):aX (l++[i])=aX l++[J i]:=by simp[aX]
theorem Dz:aU Z Gi:=by
 refine cA zp ?_;rintro⟨⟨z,e,aM,cW⟩,tr,⟨nm,ar,au⟩,⟨i,⟨⟨k,n,s,l⟩,⟨k',n',s',l'⟩⟩⟩,lg⟩ args H ⟨rfl,rfl,hz,a_,mB,h_,hq⟩;simp only at hz a_ mB h_ hq;have Aa:eT Z 2 83 z.gG (J i)=some (.kE,false):=by rw[hz];rfl
 have FJ:=λ(v:AV) (H1:AH)=> @aAJ z e tr (aX aM) aM.length (lO cW) cW.length nm ar au i k n s (aF l) l.length k' n' s' (aF l') l'.length (br Z 26 55 14 v H1) (fA v H1)
 by_cases he:e≠0
 .rw[jF,aO he]at hq;subst hq;refine ai4 ?_;refine eS zp 3000 (λ_=>[]) 55 (by kernel_rfl) ?_;exact cast (FJ _ _).symm ⟨true,aD.2 ⟨λ_=>⟨false,Aa,aD.2 ⟨λ_=>⟨rfl,rfl⟩,λh=>absurd (by simpa using h) he⟩⟩,λh=>by cases h⟩⟩
 .rw[jF,az he]at hq;have HU:=λh=>(PO (a:=z.au) (tr:=tr) a_ h).1
  have Qy:=λh=>(PO (a:=z.au) (tr:=tr) a_ h).2.1
  generalize pP:ov (.mk k n s l,.mk k' n' s' l') z.au tr=r at hq HU Qy;have⟨r1,r2⟩:=r;by_cases hf:r2≠0
  .rw[aO hf]at hq;subst hq;refine ai4 ?_;refine eS zp 3000 (λ_=>[]) 55 (by kernel_rfl) ?_;exact cast (FJ _ _).symm ⟨true,aD.2 ⟨λ_=>⟨false,Aa,aD.2 ⟨λh=>absurd (by simpa using h) he,λ_=>⟨⟨(.mk k n s l,.mk k' n' s' l'),z.au,tr,r1,r2⟩,⟨rfl,rfl,a_.1,a_.2,pP⟩,aD.2 ⟨λh=>absurd (by simpa using h) hf,λ_=>⟨rfl,rfl⟩⟩⟩⟩⟩,λh=>by cases h⟩⟩
  .rw[az hf]at hq;have HU:=HU hf;have Qy:=Qy hf;generalize t_:mo z i r1=q at hq;have⟨zf,bl,e2⟩:=q;subst hq;refine eS zp 3000 (λ_=>[]) 55 (by kernel_rfl) ?_;refine cast (FJ _ _).symm ⟨true,aD.2 ⟨λ_=>⟨false,Aa,aD.2 ⟨λh=>absurd (by simpa using h) he,λ_=>⟨⟨(.mk k n s l,.mk k' n' s' l'),z.au,tr,r1,r2⟩,⟨rfl,rfl,a_.1,a_.2,pP⟩,aD.2 ⟨λ_=>⟨⟨z,i,(.mk k n s l,.mk k' n' s' l'),r1,zf,bl,e2⟩,⟨rfl,rfl,HU,kF Qy (by decide),t_⟩,⟨by rw[aX,og,oI],by omega,rfl,rfl⟩,rfl,⟨by rw[aot,oI],by omega,rfl,rfl⟩,?_⟩,λh=>absurd (by simpa using h) hf⟩⟩⟩⟩,λh=>by cases h⟩⟩;rw[<-awf,<-aou];simp only[fA,u3X,cI,ej,gW];exact⟨trivial,trivial⟩
theorem aCb{tr st s k}(h:st.z.gG=[]/\st.aM.length<=k/\st.cW.length<=k):(jF tr st s).z.gG=[]/\(jF tr st s).aM.length<=k+1/\(jF tr st s).cW.length<=k+1:=by
 unfold jF;split
 .exact⟨h.1,by omega,by omega⟩
 .split
  .exact⟨h.1,by simp only;omega,by simp only;omega⟩
  .have⟨a,j,e⟩:=aeC (ov s.c st.z.au tr).1 st.z s.id;exact⟨by rw[e];exact h.1,by simp;omega,by simp;omega⟩
abbrev tW:AV:=.ba (.func 26) [] [.aa 0 0,.aa 1 0,.aa 2 0,.aa 3 0,.aa 4 0]
theorem Kx:∀{l p},p∈l->p.bO.length<=j6 l
 |x::l,p,h=>by
  have hn:j6 (x::l)=x.bO.length+j6 l:=by simp[j6]
  rcases dm.1 h with rfl|h
  .omega
  .have:=Kx h;omega
abbrev AU(tr:Bool)(st:S3):AH:=BB st.z st.e tr (aX st.aM) st.aM.length (lO st.cW) st.cW.length
abbrev Ob(tr:Bool)(st:S3)(o:bk):AH:=Xk st.z st.e tr (aX st.aM) st.aM.length (lO st.cW) st.cW.length o
theorem apV{v H1 l tr}(st i)(h:i<l.length)(hh:br Z 23 32 14 v H1 (rI tW 14 l i l[i].bO 0) (Ob tr st (rr l[i])) (aw Z 23 1)):br Z 23 32 14 v H1 (si tW l i) (AU tr st) (aw Z 23 0):=by refine hE Dz alv ?_;have bX:=Bd h;generalize l[i]=p at bX hh;have⟨nm,ar,dy,bO⟩:=p;exact aD.2 ⟨λ_=>⟨i,rfl,h,nm,ar,dy,mr bO,bO.length,bX,hh⟩,λhn=>absurd (ez hn) (by simp;omega)⟩
theorem apS{v H1 l tr k}(hk:k<3000000)(st i p j)(h:j<p.bO.length)(ke:p.bO.length<=3000000)(ho:∀s∈p.bO,rm s.c)(oX:st.z.gG=[]/\st.aM.length<=k/\st.cW.length<=k)(hh:br Z 23 32 14 v H1 (rI tW 14 l i p.bO (j+1)) (Ob tr (jF tr st p.bO[j]) (rr p)) (aw Z 23 1)):br Z 23 32 14 v H1 (rI tW 14 l i p.bO j) (Ob tr st (rr p)) (aw Z 23 1):=by
 have⟨nm,ar,dy,bO⟩:=p;refine hE Dz alu ?_;have bX:=KH h;have QK:=ho bO[j] (pW h);generalize bO[j]=s at bX QK hh;have⟨id,⟨⟨k,n,dU,ts⟩,⟨k',n',lV,kH⟩⟩⟩:=s;have q1:st.aM.length+1<=4000000:=by omega
 have q2:st.cW.length+1<=4000000:=by omega
 generalize Ie:jF tr st ⟨id,⟨⟨k,n,dU,ts⟩,⟨k',n',lV,kH⟩⟩⟩=lg at hh;refine aD.2 ⟨λ_=>⟨j,rfl,h,id,k,n,dU,aF ts,ts.length,k',n',lV,aF kH,kH.length,bX,⟨st,tr,⟨nm,ar,0⟩,⟨id,⟨⟨k,n,dU,ts⟩,⟨k',n',lV,kH⟩⟩⟩,lg⟩,⟨rfl,rfl,oX.1,QK,q1,q2,Ie⟩,?_⟩,λhn=>absurd (ez hn) (by simp;omega)⟩;rw[cO (by omega) (by omega)];exact hh
theorem apX{v H1 l tr}(hl:l.length<=3000000)(st i p)(hi:i<l.length)(hh:br Z 23 32 14 v H1 (si tW l (i+1)) (AU tr st) (aw Z 23 0)):br Z 23 32 14 v H1 (rI tW 14 l i p.bO p.bO.length) (Ob tr st (rr p)) (aw Z 23 1):=by have⟨nm,ar,dy,bO⟩:=p;refine hE Dz alu ?_;refine aD.2 ⟨λhn=>absurd (dQ hn) (by simp),λ_=>?_⟩;rw[cO (by omega) (by omega)];exact hh
theorem apT{l}(i a)(h:(si tW l 0).bT i=some a):eC (kW 6 14) a=some a:=by refine vC h ?_;intro x hx;simp at hx;rcases hx with rfl|rfl|rfl|rfl<;>rfl
theorem apU{l}(i a)(h:(si tW l 0).bT i=some a):eC (kW 7 15) a=some a:=by refine vC h ?_;intro x hx;simp at hx;rcases hx with rfl|rfl|rfl|rfl<;>rfl
theorem apW{v H1 z e tr aM ni bs nb nx l}(h:br Z 23 32 14 v H1 (si tW l 0) (pM z e tr aM ni bs nb) (aw Z 23 0)):bZ Z 23 [.ah [J nx,.ad (fo l) l.length 4],tW] (pM z e tr aM ni bs nb) v H1:=by refine eE 32 Dz aAG ?_;exact h
theorem apR{st aH tr nx l}(hz:st.z.gG=[])(h0:st.aM=[]/\st.cW=[])(hl:l.length<=3000000)(hc:j6 l<=3000000)(ho:∀p∈l,∀s∈p.bO,rm s.c)(u_:tN (λst _ s=>jF tr st s) st l=aH):
 bZ Z 23 [.ah [J nx,.ad (fo l) l.length 4],tW] (Oa st tr) (.aC []) (AU tr aH):=by
 have iK:st.z.gG=[]/\st.aM.length<=0/\st.cW.length<=0:=⟨hz,by rw[h0.1];exact cM 0,by rw[h0.2];exact cM 0⟩;have hK:0+j6 l<=j6 l:=by omega
 have this:=(Ph (HS:=AU tr) (v:=.aC []) (H1:=AU tr aH)
  (λst i h hh=>apV st i h hh)
  (λk st i p j h hp hi oX hk=>⟨aCb oX,λhh=>apS (by omega:k<3000000) st i p j h (kF (Kx hp) hc) (ho p hp) oX hh⟩)
  (λst i p hp hi hh=>apX hl st i p hi hh)
  l [] st 0 rfl iK hK).2
 rw[u_]at this;have Ez:br Z 23 32 14 (.aC []) (AU tr aH) (si tW l l.length) (AU tr aH) (aw Z 23 0):=by refine hE Dz alv ?_;exact aD.2 ⟨λhn=>absurd (dQ hn) (by simp),λ_=>⟨rfl,rfl⟩⟩
 have h1:=this Ez;have h3:=u9 h1 Rs.2 (by kernel_rfl) (λi a h=>⟨a,h,apU i a h⟩);have h4:=u9 h3 Rs.1 (by kernel_rfl) (λi a h=>⟨a,h,apT i a h⟩);exact apW h4
def qY(z:Ar)(th:ES)(tc:Nat):AH:=b_ z.X z.xc [(0,.aj [.aA 2] 74),(1,.aj [.aa 3 0] 25),(2,.bm th tc true),(3,d_ z 4 5 6 7 8 9),(4,cT z),(5,dg z),(6,df z),(7,cZ z),(8,dh z),(9,cR z)] 10
def Xn(z:Ar)(th:ES)(tc:Nat)(o:bk):AH:=b_ z.X z.xc [(0,.aj [.aA 2] 74),(1,.aj [.aa 3 0] 25),(2,.bm th tc true),(3,d_ z 4 5 6 7 8 9),(4,cT z),(5,dg z),(6,df z),(7,cZ z),(8,dh z),(9,cR z),(10,o)] 11
theorem agU{z z' th S6 tc tc'}(h:qY z th tc=qY z' S6 tc'):z=z'/\th=S6/\tc=tc':=by have g2:=congrArg (λH=>AH.bf H 2) h;have h0:=congrArg (λH=>AH.bf H 3) h;have h1:=congrArg (λH=>AH.bf H 4) h;have h2:=congrArg (λH=>AH.bf H 5) h;have h3:=congrArg (λH=>AH.bf H 6) h;have h4:=congrArg (λH=>AH.bf H 7) h;have h5:=congrArg (λH=>AH.bf H 8) h;have h6:=congrArg (λH=>AH.bf H 9) h;have h7:=congrArg AH.x h;replace h1:some (cT z)=some (cT z'):=h1;replace h6:some (cR z)=some (cR z'):=h6;have⟨a0,a1,a2,a3,a4,a5,a6,a7,a8,a9,Kd,Ke,Kf,Kg,Kh,Ki⟩:=z;have⟨b0,b1,b2,b3,b4,b5,b6,b7,b8,b9,OV,OW,OX,OY,OZ,O0⟩:=z';simp only[d_,cT,dg,df,cZ,dh,cR,pg,bk.aj.injEq,bk.ay.injEq,bk.bm.injEq,jn,AV.bU.injEq,AV.ai.injEq,XH.mk.injEq,true_and,and_true]at g2 h0 h1 h2 h3 h4 h5 h6 h7;obtain⟨rfl,rfl,rfl,rfl⟩:=h0;obtain⟨rfl,rfl⟩:=h2;obtain⟨rfl,rfl⟩:=h3;obtain⟨rfl,rfl⟩:=h4;obtain⟨rfl,rfl⟩:=h5;obtain⟨rfl,rfl⟩:=h7;obtain⟨rfl,rfl⟩:=g2;subst h1 h6;exact⟨rfl,rfl,rfl⟩
structure S5 where
 z:Ar
 m:List En
 th:List (Int×Bool)
def S5.k(st:S5):Ks:=⟨st.m,st.z.nc,st.z.X,st.z.xc⟩
def Ar.kn(z:Ar)(k:Ks):Ar:={z with eB:=gB k.m,nc:=k.c,X:=k.X,xc:=k.xc}
def iu(st:S5)(p:cV)(i:Int):S5:=⟨st.z.kn (st.k.tA p i),(st.k.tA p i).m,up i true st.th⟩
def p6(th:List (Int×Bool)):ES:=bJ .ao 0 th
structure U5 where
 st:S5
 p:cV
 s:ib
def u5X:cx U5 where
 bn w A H:=A=[.ah (GZ w.p),.ah (qW w.s),.aa 0 0,.aa 1 0]/\H=qY w.st.z (p6 w.st.th) w.st.th.length/\w.st.z.eB=gB w.st.m/\w.st.k.OK 3999999
 v w:=.aC []
 aK w:=qY (iu w.st w.p w.s.id).z (p6 (iu w.st w.p w.s.id).th) (iu w.st w.p w.s.id).th.length
theorem abA:∀{a b} (k),bJ AV.ao k a=bJ AV.ao k b->a=b
 |[],[],_,_=>rfl
 |[],_::_,_,h=>by simp[bJ]at h
 |_::_,[],_,h=>by simp[bJ]at h
 |(i,x)::a,(j,y)::b,k,h=>by simp only[bJ,jn,I7,AV.bU.injEq,AV.ao.injEq,true_and,and_true]at h;obtain⟨⟨rfl,rfl⟩,h2⟩:=h;rw[abA (k+1) h2]
theorem aCC:u5X.cr:=by rintro⟨st,p,s⟩ ⟨jL,p',s'⟩ A H ⟨h1,h2,k1,k2⟩ ⟨h3,h4,k3,k4⟩;have⟨e1,e2,_⟩:=agU (h2.symm.trans h4);rw[h1]at h3;simp at h3;have e6:=WS h3.2;have e7:=abA 0 e2;have⟨z,m,th⟩:=st;have⟨z',m',S6⟩:=jL;have⟨nm,ar,au⟩:=p;have⟨lV,VA,VL⟩:=p';have e8:=h3.1;obtain⟨rfl,rfl,rfl⟩:=e8;subst e1 e6 e7;have e3:=WM (k:=⟨m,z.nc,z.X,z.xc⟩) (k':=⟨m',z.nc,z.X,z.xc⟩) rfl k2 k4 (k1.symm.trans k3);subst e3;rfl
def J2:Ev.bo:=bR 54 (ca u5X aCC pO) Gi
theorem aBj{z th tc nm ar au d k n s cs len k' n' s' cs' cB L Q}:
 bI Z Gi (λ_=>[]) L Q 1000 54 [.ah [.ab nm,J ar,J au],.ah [J d,J k,J n,.ab s,.ad cs len 4,J k',J n',.ab s',.ad cs' cB 4],.aa 0 0,.aa 1 0] (qY z th tc)=(
 ∃bF:List (AV×AV×Nat),∃c':Nat,jX Z 2 th tc (J d) (.ao true)=some (bF,c')/\(∃aP:Nat,∃bH:Nat,∃b:Nat,∃KN:List (AV×AV×Nat),∃aen:Nat,DV Z 39 35 1 z.eB z.nc true (.ah [.ab nm,J ar,J au])=some (aP,(bH,(b,(KN,aen))))/\(bH+1<=4194304/\true=true/\true=true)/\(∃vs:LV,F1 (b_ z.X z.xc [] 0) aP bH 1 vs/\(∃afP:List (AV×AV×Nat),Ct KN b (.fF z.xc (bH+1) 1)=some afP/\Q (.aC []) (b_ (ze z.X z.xc aP bH (vs++[J d]) 2) (z.xc+1) [(0,.aj [.aA 2] 74),(1,.aj [.aa 3 0] 25),(2,.bm bF c' true),(3,d_ z 4 5 6 7 8 9),(4,cT z),(5,dg z),(6,df z),(7,.bm afP aen true),(8,dh z),(9,cR z)] 10))))):=by kernel_rfl
theorem aAH{z th tc nx ps np L Q}:
 bI Z J2 vw L Q 1000 23 [.ah [J nx,.ad ps np 4],.ba (.func 54) [] [.aa 0 0,.aa 1 0]] (qY z th tc)=(
 L (aB [(1,.ba (.func 54) [] [.aa 0 0,.aa 1 0]),(9,.ad ps np 4),(10,J (aE np)),(11,J 0)]) (qY z th tc) (aw Z 23 0)):=by kernel_rfl
theorem alx{z th tc ps np i L Q}:
 ck Z J2 vw L Q 1000 23 10 (aB [(1,.ba (.func 54) [] [.aa 0 0,.aa 1 0]),(9,.ad ps np 4),(10,J (aE np)),(11,J i)]) (aw Z 23 0) (qY z th tc)=(
 aq (decide (i<aE np)) (∃aL:Nat,i=(aL:Int)/\aL<np/\(∃s:LN,∃n:Int,∃b:Bool,∃cs:LV,∃len:Nat,((ps.drop (aL*4)).take 4:List AV)=[.ab s,J n,.ao b,.ad cs len 9]/\L (aB [(1,.ba (.func 54) [] [.aa 0 0,.aa 1 0]),(5,.aa 10 0),(9,.ad ps np 4),(10,J (aE np)),(11,J i),(16,.ad cs len 9),(17,J (aE len)),(18,J 0)]) (Xn z th tc (ru s n b cs len)) (aw Z 23 1))) (Q (.aC []) (qY z th tc))):=by kernel_rfl
theorem alw{z th tc ps np i nm ar dy ss ns j L Q}:
 ck Z J2 vw L Q 1000 23 10 (aB [(1,.ba (.func 54) [] [.aa 0 0,.aa 1 0]),(5,.aa 10 0),(9,.ad ps np 4),(10,J (aE np)),(11,J i),(16,.ad ss ns 9),(17,J (aE ns)),(18,J j)]) (aw Z 23 1) (Xn z th tc (.aj [.ab nm,J ar,.ao dy,.ad ss ns 9] 34))=(
 aq (decide (j<aE ns)) (∃aL:Nat,j=(aL:Int)/\aL<ns/\(∃n:Int,∃aP:Int,∃bA:Int,∃s:LN,∃cs:LV,∃len:Nat,∃cf:Int,∃dc:Int,∃cn:LN,∃bP:LV,∃bH:Nat,((ss.drop (aL*9)).take 9:List AV)=[J n,J aP,J bA,.ab s,.ad cs len 4,J cf,J dc,.ab cn,.ad bP bH 4]/\(∃w:U5,(([.ah [.ab nm,J ar,J 0],.ah [J n,J aP,J bA,.ab s,.ad cs len 4,J cf,J dc,.ab cn,.ad bP bH 4],.aa 0 0,.aa 1 0]:LV)=[.ah (GZ w.p),.ah (qW w.s),.aa 0 0,.aa 1 0]/\qY z th tc=qY w.st.z (p6 w.st.th) w.st.th.length/\w.st.z.eB=gB w.st.m/\Ks.OK w.st.k 3999999)/\L (aB [(1,.ba (.func 54) [] [.aa 0 0,.aa 1 0]),(5,.aa 10 0),(9,.ad ps np 4),(10,J (aE np)),(11,J i),(16,.ad ss ns 9),(17,J (aE ns)),(18,J (wI (j+1)))]) (b_ (iu w.st w.p w.s.id).z.X (iu w.st w.p (ib.id w.s)).z.xc [(0,.aj [.aA 2] 74),(1,.aj [.aa 3 0] 25),(2,.bm (p6 (iu w.st w.p w.s.id).th) (iu w.st w.p w.s.id).th.length true),(3,d_ (iu w.st w.p (ib.id w.s)).z 4 5 6 7 8 9),(4,cT (iu w.st w.p w.s.id).z),(5,.bm (iu w.st w.p w.s.id).z.gG (iu w.st w.p (ib.id w.s)).z.cc true),(6,.bm (iu w.st w.p w.s.id).z.ret (iu w.st w.p (ib.id w.s)).z.rc true),(7,.bm (iu w.st w.p w.s.id).z.eB (iu w.st w.p (ib.id w.s)).z.nc true),(8,.bm (iu w.st w.p w.s.id).z.mI (iu w.st w.p (ib.id w.s)).z.oc true),(9,cR (iu w.st w.p w.s.id).z),(10,ru nm ar dy ss ns)] 11) (aw Z 23 1)))) (L (aB [(1,.ba (.func 54) [] [.aa 0 0,.aa 1 0]),(9,.ad ps np 4),(10,J (aE np)),(11,J (wI (i+1)))]) (qY z th tc) (aw Z 23 0))):=by kernel_rfl
theorem aqC{k:Ks}{L}(a_:k.OK L)(hL:L<=4000000)(p i):∃(n len b:Nat) (bF:ES) (c':Nat) (vs:LV) (He:ES),DV Z 39 35 1 (gB k.m) k.c true (o6 p)=some (n,len,b,bF,c')/\len+1<=4194304/\F1 (b_ k.X k.xc [] 0) n len 1 vs/\Ct bF b (.fF k.xc (len+1) 1)=some He/\
 He=gB (k.tA p i).m/\c'=(k.tA p i).c/\ze k.X k.xc n len (vs++[J i]) 2=(k.tA p i).X:=by
 have cE:=RA a_ p;have⟨c1,c2⟩:=Pb (k:=k) p;have cu:=cE.len _ c1;refine⟨_,_,_,_,_,aX (iT p k.m k.c).aM,_,afG,by omega,?_,?_,rfl,rfl,rfl⟩
 .by_cases h0:(iT p k.m k.c).aM=[]
  .exact .inl ⟨by rw[h0];rfl,by rw[h0];rfl⟩
  .refine .inr ⟨λh=>h0 (mJ h),2,?_,by rw[aX,og,oI]⟩;rw[az h0];exact(cE.vW _ c1 h0).2
 .have:=aaA (n:=k.xc) (aM:=(iT p k.m k.c).aM++[i]) (Pz p k.m k.c) cE.Je;rw[akJ]at this;exact this
theorem Gj:aU Z J2:=by refine cA Dz ?_;rintro⟨⟨z,m,th⟩,⟨nm,ar,au⟩,⟨i,⟨⟨k,n,s,l⟩,⟨k',n',s',l'⟩⟩⟩⟩ args H ⟨rfl,rfl,hz,a_⟩;have⟨n0,len,b,bF,c',vs,He,h1,h2,h3,h4,h5,h6,h7⟩:=aqC (k:=⟨m,z.nc,z.X,z.xc⟩) a_ (by omega) ⟨nm,ar,au⟩ i;rw[<-hz]at h1;refine eE 21 Dz aBj ?_;refine⟨_,_,pk AV.ao jv,n0,len,b,bF,c',h1,⟨h2,rfl,rfl⟩,vs,h3,He,h4,rfl,?_⟩;rw[h5,h6,h7];rfl
abbrev fC(p:fu):cV:=⟨p.iR,p.ar,0⟩
abbrev AW(st:S5):AH:=qY st.z (p6 st.th) st.th.length
abbrev Oc(st:S5)(o:bk):AH:=Xn st.z (p6 st.th) st.th.length o
abbrev yi:AV:=.ba (.func 54) [] [.aa 0 0,.aa 1 0]
def An(k:Nat)(st:S5):Prop:=st.z.eB=gB st.m/\st.k.OK k
theorem ap2{v H1 l}(st i)(h:i<l.length)(hh:br Z 23 32 10 v H1 (rI yi 10 l i l[i].bO 0) (Oc st (rr l[i])) (aw Z 23 1)):br Z 23 32 10 v H1 (si yi l i) (AW st) (aw Z 23 0):=by refine hE Gj alx ?_;have bX:=Bd h;generalize l[i]=p at bX hh;have⟨nm,ar,dy,bO⟩:=p;exact aD.2 ⟨λ_=>⟨i,rfl,h,nm,ar,dy,mr bO,bO.length,bX,hh⟩,λhn=>absurd (ez hn) (by simp;omega)⟩
theorem ap1{v H1 l k}(hk:k<3000000)(st i p j)(h:j<p.bO.length)(ke:p.bO.length<=3000000)(oX:An k st)(hh:br Z 23 32 10 v H1 (rI yi 10 l i p.bO (j+1)) (Oc (iu st (fC p) p.bO[j].id) (rr p)) (aw Z 23 1)):br Z 23 32 10 v H1 (rI yi 10 l i p.bO j) (Oc st (rr p)) (aw Z 23 1):=by have⟨nm,ar,dy,bO⟩:=p;refine hE Gj alw ?_;have bX:=KH h;generalize bO[j]=s at bX hh;have⟨id,⟨⟨k,n,dU,ts⟩,⟨k',n',lV,kH⟩⟩⟩:=s;refine aD.2 ⟨λ_=>⟨j,rfl,h,id,k,n,dU,aF ts,ts.length,k',n',lV,aF kH,kH.length,bX,⟨st,⟨nm,ar,0⟩,⟨id,⟨⟨k,n,dU,ts⟩,⟨k',n',lV,kH⟩⟩⟩⟩,⟨rfl,rfl,oX.1,oX.2.mono (by omega)⟩,?_⟩,λhn=>absurd (ez hn) (by simp;omega)⟩;rw[cO (by omega) (by omega)];exact hh
theorem ap4{v H1 l}(hl:l.length<=3000000)(st i p)(hi:i<l.length)(hh:br Z 23 32 10 v H1 (si yi l (i+1)) (AW st) (aw Z 23 0)):br Z 23 32 10 v H1 (rI yi 10 l i p.bO p.bO.length) (Oc st (rr p)) (aw Z 23 1):=by have⟨nm,ar,dy,bO⟩:=p;refine hE Gj alw ?_;refine aD.2 ⟨λhn=>absurd (dQ hn) (by simp),λ_=>?_⟩;rw[cO (by omega) (by omega)];exact hh
theorem ap3{v H1 st nx l}(h:br Z 23 32 10 v H1 (si yi l 0) (AW st) (aw Z 23 0)):bZ Z 23 [.ah [J nx,.ad (fo l) l.length 4],yi] (AW st) v H1:=by refine eE 32 Gj aAH ?_;exact h
theorem ah0{k st p i}(h:An k st):An (k+1) (iu st p i):=⟨rfl,h.2.add p i⟩
def oU(st:S5)(l:List fu):S5:=tN (λst p s=>iu st (fC p) s.id) st l
theorem apZ{st aH nx l}(h0:An 0 st)(hl:l.length<=3000000)(hc:j6 l<=3000000)(u_:oU st l=aH):
 bZ Z 23 [.ah [J nx,.ad (fo l) l.length 4],yi] (AW st) (.aC []) (AW aH)/\An (j6 l) aH:=by
 have hK:0+j6 l<=j6 l:=by omega
 have this:=Ph (v:=.aC []) (H1:=AW aH) (iA:=λst p s=>iu st (fC p) s.id)
  (λst i h hh=>ap2 st i h hh)
  (λk st i p j h hp hi oX hk=>⟨ah0 oX,λhh=>ap1 (by omega:k<3000000) st i p j h (kF (Kx hp) hc) oX hh⟩)
  (λst i p hp hi hh=>ap4 hl st i p hi hh)
  l [] st 0 rfl h0 hK
 unfold oU at u_;rw[u_,ki]at this;refine⟨ap3 (this.2 ?_),this.1⟩;refine hE Gj alx ?_;exact aD.2 ⟨λhn=>absurd (dQ hn) (by simp),λ_=>⟨rfl,rfl⟩⟩
structure uK(l:List fu):Prop where
 gD:l.length<=3000000
 bO:j6 l<=3000000
 ok:∀p∈l,∀s∈p.bO,rm s.c
structure EcA where
 z:Ar
 b:Bool
 nx:Int
 l:List fu
def afa:cx EcA where
 bn w A H:=A=[.ah [J w.nx,.ad (fo w.l) w.l.length 4],.ba (.func 24) [] [.aa 0 0,.aa 1 0]]/\H=nj w.z w.b/\w.z.ret=[]/\uK w.l
 v w:=.aC []
 aK w:=nj w.z w.b
theorem apO:afa.cr:=by rintro⟨z,b,nx,l⟩ ⟨z',b',Z7,l'⟩ A H ⟨_,h2,_⟩ ⟨_,h4,_⟩;have⟨e1,e2⟩:=agS (h2.symm.trans h4);subst e1 e2;rfl
structure EcB where
 st:S3
 tr:Bool
 nx:Int
 l:List fu
 aH:S3
def afb:cx EcB where
 bn w A H:=A=[.ah [J w.nx,.ad (fo w.l) w.l.length 4],tW]/\H=Oa w.st w.tr/\w.st.z.gG=[]/\(w.st.aM=[]/\w.st.cW=[])/\uK w.l/\tN (λst _ s=>jF w.tr st s) w.st w.l=w.aH
 v w:=.aC []
 aK w:=AU w.tr w.aH
theorem apQ:afb.cr:=by rintro⟨st,tr,nx,l,aH⟩ ⟨jL,FT,Z7,l',afZ⟩ A H ⟨h1,h2,_,_,_,q1⟩ ⟨h3,h4,_,_,_,q2⟩;have⟨e1,e2,e3,e4,_,e5,_⟩:=agT (h2.symm.trans h4);rw[h1]at h3;simp at h3;have e6:=KG h3.2.2 h3.2.1;have e7:=yY e4;have e8:=WE e5;have⟨z,e,aM,cW⟩:=st;have⟨z',e',yE,aoD⟩:=jL;subst e1 e2 e3 e6 e7 e8;rw[q1]at q2;subst q2;rfl
structure EcC where
 st:S5
 nx:Int
 l:List fu
 aH:S5
def afc:cx EcC where
 bn w A H:=A=[.ah [J w.nx,.ad (fo w.l) w.l.length 4],yi]/\H=qY w.st.z (p6 w.st.th) w.st.th.length/\An 0 w.st/\uK w.l/\oU w.st w.l=w.aH
 v w:=.aC []
 aK w:=qY w.aH.z (p6 w.aH.th) w.aH.th.length
theorem apY:afc.cr:=by rintro⟨st,nx,l,aH⟩ ⟨jL,Z7,l',afZ⟩ A H ⟨h1,h2,k1,_,q1⟩ ⟨h3,h4,k2,_,q2⟩;have⟨e1,e2,_⟩:=agU (h2.symm.trans h4);rw[h1]at h3;simp at h3;have e6:=KG h3.2.2 h3.2.1;have e7:=abA 0 e2;have⟨z,m,th⟩:=st;have⟨z',m',S6⟩:=jL;subst e1 e6 e7;have e3:=WM (k:=⟨m,z.nc,z.X,z.xc⟩) (k':=⟨m',z.nc,z.X,z.xc⟩) rfl k1.2 k2.2 (k1.1.symm.trans k2.1);subst e3;rw[q1]at q2;subst q2;rfl
def ae8:LV->AH->Option Sp:=λA H=>match A with
 |[_,.ba (.func 24) _ _]=>ca afa apO pO A H
 |[_,.ba (.func 26) _ _]=>ca afb apQ pO A H
 |[_,.ba (.func 54) _ _]=>ca afc apY pO A H
 |_=>none
def DA:Ev.bo:=bR 23 ae8 J2
def vA:Nat->LN:=fT [(4,[2,3,4,17,18,19]),(11,[2,4,7,40]),(16,[1000000]),(999998,[2,4,7,40])]
def Vs:List dP->List dP
 |.gY ops i (_::rest)::k=>.gY ops (Nat.succ i) rest::k
 |l=>l
def Xl(z:Ar)(eB:ES)(nc:Nat)(nx:Int)(ps:LV)(np:Nat)(th:ES)(tc:Nat):AH:=b_ z.X z.xc [(0,d_ z 1 2 3 10 5 6),(1,cT z),(2,dg z),(3,df z),(4,.bm eB nc true),(5,dh z),(6,cR z),(7,.aj [.aa 0 0] 25),(8,iG nx ps np),(9,.aj [.aA 11] 74),(10,cZ z),(11,.bm th tc true)] 12
def tY(z:Ar)(eB:ES)(nc:Nat)(th:ES)(tc:Nat)(bE:LN):AH:=b_ z.X z.xc [(0,d_ z 1 2 3 10 5 6),(1,cT z),(2,dg z),(3,df z),(4,.bm eB nc true),(5,dh z),(6,cR z),(7,.aj [.aa 0 0] 25),(8,.aj [.aA 11] 74),(9,.je (some 2) z.cc bE z.cc),(10,cZ z),(11,.bm th tc true)] 12
theorem aAU{z nx ps np L Q}:
 bI Z DA vA L Q 1000 31 [.aa 0 0,.ah [J nx,.ad ps np 4]] (hA z)=(
 L (aB [(2,.aa 7 0),(3,.aa 8 0),(4,.aa 9 0),(17,.ad ps np 4),(18,J (aE np)),(19,J 0)]) (b_ z.X z.xc [(0,d_ z 1 2 3 10 5 6),(1,cT z),(2,dg z),(3,df z),(4,cZ z),(5,dh z),(6,cR z),(7,.aj [.aa 0 0] 25),(8,iG nx ps np),(9,.aj [.aA 11] 74),(10,.bm [] 0 false),(11,.bm [] 0 true)] 12) (aw Z 31 0)):=by kernel_rfl
theorem alC{z eB nc nx ps np th tc i L Q}:
 ck Z DA vA L Q 1000 31 7 (aB [(2,.aa 7 0),(3,.aa 8 0),(4,.aa 9 0),(17,.ad ps np 4),(18,J (aE np)),(19,J i)]) (aw Z 31 0) (Xl z eB nc nx ps np th tc)=(
 aq (decide (i<aE np)) (∃aL:Nat,i=(aL:Int)/\aL<np/\(∃s n b cs len,((ps.drop (aL*4)).take 4:List AV)=[.ab s,J n,.ao b,.ad cs len 9]/\(∃bF c',jX Z 39 z.eB z.nc (.ah [.ab s,J n,J 0]) .aJ=some (bF,c')/\L (aB [(2,.aa 7 0),(3,.aa 8 0),(4,.aa 9 0),(17,.ad ps np 4),(18,J (aE np)),(19,J (wI (i+1)))]) (b_ z.X z.xc [(0,d_ z 1 2 3 10 5 6),(1,cT z),(2,dg z),(3,df z),(4,.bm eB nc true),(5,dh z),(6,cR z),(7,.aj [.aa 0 0] 25),(8,iG nx ps np),(9,.aj [.aA 11] 74),(10,.bm bF c' true),(11,.bm th tc true)] 12) (aw Z 31 0)))) (∃w:EcC,(([.ah [J nx,.ad ps np 4],.ba (.func 54) [] [.aa 0 0,.aa 1 0]]:LV)=[.ah [J w.nx,.ad (fo w.l) w.l.length 4],.ba (.func 54) [] [.aa 0 0,.aa 1 0]]/\qY z th tc=AW w.st/\An 0 w.st/\uK w.l/\oU w.st w.l=w.aH)/\L (aB [(2,.aa 7 0),(4,.aa 8 0),(7,.aJ),(40,.aa 9 0)]) (b_ w.aH.z.X w.aH.z.xc [(0,d_ w.aH.z 1 2 3 10 5 6),(1,cT w.aH.z),(2,dg w.aH.z),(3,df w.aH.z),(4,.bm eB nc true),(5,dh w.aH.z),(6,cR w.aH.z),(7,.aj [.aa 0 0] 25),(8,.aj [.aA 11] 74),(9,bk.je (some 2) w.aH.z.cc [] w.aH.z.cc),(10,cZ w.aH.z),(11,.bm (p6 w.aH.th) w.aH.th.length true)] 12) (aw Z 31 1))):=by kernel_rfl
theorem aAT{z eB nc th tc bE L Q}:
 ck Z DA vA L Q 1000 31 7 (aB [(2,.aa 7 0),(4,.aa 8 0),(7,.aJ),(40,.aa 9 0)]) (aw Z 31 1) (tY z eB nc th tc bE)=(
 L (aB [(2,.aa 7 0),(4,.aa 8 0),(7,.aJ),(40,.aa 9 0)]) (b_ z.X z.xc [(0,d_ z 1 2 3 10 5 6),(1,cT z),(2,dg z),(3,df z),(4,.bm eB nc true),(5,dh z),(6,cR z),(7,.aj [.aa 0 0] 25),(8,.aj [.aA 11] 74),(9,bk.je (some 2) z.cc bE z.cc),(10,cZ z),(11,.bm th tc true)] 12) (di Z vA 31 0)):=by kernel_rfl
theorem aAW{z eB nc th tc bE a v L Q}:
 ck Z DA vA L Q 1000 31 7 (aB [(2,.aa 7 0),(4,.aa 8 0),(7,.aJ),(40,.aa 9 0),(41,.aC [.ao true,a,v])]) (Vs (di Z vA 31 0)) (tY z eB nc th tc bE)=(
 ∃n v_1,Ek (iw (Tr.fV (aB [(2,AV.aa 7 0),(4,AV.aa 8 0),(7,AV.aJ),(40,AV.aa 9 0),(41,AV.aC [AV.ao true,a,v])]) 42 (AV.ao true))) (tY z eB nc th tc bE) (Operand.tmp 40)=some (Go.Ev.iM.gE (.aC [J n,v_1]) (tY z eB nc th tc bE))/\(∃b iE,eT Z 2 4 th (J n)=some (.ao b,iE)/\aq (!b) (L (aB [(2,.aa 7 0),(4,.aa 8 0),(7,.ai 9 1 1),(40,.aa 10 0)]) (b_ z.X z.xc [(0,d_ z 1 2 3 11 5 6),(1,cT z),(2,dg z),(3,df z),(4,.bm eB nc true),(5,dh z),(6,cR z),(7,.aj [.aa 0 0] 25),(8,.aj [.aA 12] 74),(9,.aj [J n] 2),(10,bk.je (some 2) z.cc bE z.cc),(11,cZ z),(12,.bm th tc true)] 13) (aw Z 31 1)) (L (aB [(2,.aa 7 0),(4,.aa 8 0),(7,.aJ),(40,.aa 9 0)]) (b_ z.X z.xc [(0,d_ z 1 2 3 10 5 6),(1,cT z),(2,dg z),(3,df z),(4,.bm eB nc true),(5,dh z),(6,cR z),(7,.aj [.aa 0 0] 25),(8,.aj [.aA 11] 74),(9,bk.je (some 2) z.cc bE z.cc),(10,cZ z),(11,.bm th tc true)] 12) (aw Z 31 1)))):=by kernel_rfl
theorem aAV{z eB nc th tc bE L Q}:
 ck Z DA vA L Q 1000 31 7 (aB [(2,.aa 7 0),(4,.aa 8 0),(7,.aJ),(40,.aa 9 0),(41,.aC [.ao false])]) (Vs (di Z vA 31 0)) (tY z eB nc th tc bE)=(
 Q (.aC []) (b_ z.X z.xc [(0,d_ z 1 2 3 7 5 6),(1,cT z),(2,dg z),(3,df z),(4,.bm eB nc true),(5,dh z),(6,cR z),(7,cZ z)] 8)):=by kernel_rfl
theorem DB:aU Z DA:=by
 refine xW Gj λargs H sp p v H' hs hd hp=>?_
 unfold ae8 at hs;have key:∀{W:Type} {e:cx W} {one:e.cr},ca e one pO args H=some sp->∃w,(p,v,H')=(e.bn w args H,e.v w,e.aK w):=by intro W e one h;have⟨_,h⟩:=Kn h;cases h;exact GO hd
 split at hs
 .have⟨⟨z,b,nx,l⟩,e⟩:=key hs;cases e;obtain⟨h1,rfl,h2,h3⟩:=hp;rw[h1];exact apP (d:=⟨nx,l⟩) h2 (kF h3.gD (by decide)) (λp hp=>kF (Kx hp) (kF h3.bO (by decide)))
 .have⟨⟨st,tr,nx,l,aH⟩,e⟩:=key hs;cases e;obtain⟨h1,rfl,h2,h3,h4,h5⟩:=hp;rw[h1];exact apR h2 h3 h4.gD h4.bO h4.ok h5
 .have⟨⟨st,nx,l,aH⟩,e⟩:=key hs;cases e;obtain⟨h1,rfl,h2,h3,h4⟩:=hp;rw[h1];exact(apZ h2 h3.gD h3.bO h4).1
 .cases hs
def Y_(d it:Nat):List dP->Bool
 |.gY _ _ (o::_)::_=>(match o.op with|.next (.tmp t) false=>Nat.beq t it|_=>false)&&(match o.guard with|none=>true|some _=>false)&&(match o.dst with|some x=>Nat.beq x d|none=>false)
 |_=>false
theorem atr{d it l}(h:Y_ d it l=true):∃ops i o rest k,l=.gY ops i (o::rest)::k/\o.op=.next (.tmp it) false/\o.guard=none/\o.dst=some d:=by
 unfold Y_ at h;split at h;next ops i o rest k=>
  simp at h;refine⟨ops,i,o,rest,k,rfl,?_,?_,?_⟩
  .have:=h.1.1;split at this;next t ht=>rw[ht,dG this]
   .cases this
  .have:=h.1.2;split at this;next hg=>exact hg
   .cases this
  .have:=h.2;split at this;next x hx=>rw[hx,dG this]
   .cases this
 .cases h
theorem Pp{β ev}:∀{l:List (Int×β)} {k e},e∈bJ ev k l->∃x∈l,e.1=J x.1/\k<=e.2.2/\e.2.2<k+l.length
 |(i,x)::l,k,e,h=>by
  simp only[bJ,dm]at h;rcases h with rfl|h
  .exact⟨(i,x),dJ ..,rfl,cM _,by simp only[ej];omega⟩
  .have⟨y,h1,h2,h3,h4⟩:=Pp h;exact⟨y,dZ _ h1,h2,by omega,by simp;omega⟩
theorem afn{β ev}:∀{l:List (Int×β)} {k e},e∈bJ ev k l->(bJ ev k l).find? (λx=>Nat.beq x.2.2 e.2.2)=some e
 |(i,x)::l,k,e,h=>by
  simp only[bJ,dm]at h;simp only[bJ,List.find?_cons];rcases h with rfl|h
  .simp
  .have⟨_,_,_,h3,_⟩:=Pp h;have:Nat.beq k e.2.2=false:=by
    cases hb:Nat.beq k e.2.2 with
    |false=>rfl
    |true=>have:=dG hb;omega
   rw[this];exact afn h
theorem at1{es bE e}(h:e∈Ev.rh es bE):(Ev.rh es (bE++[e.2.2])).length<(Ev.rh es bE).length:=by
 have:Ev.rh es (bE++[e.2.2])=(Ev.rh es bE).filter λx=> !Nat.beq x.2.2 e.2.2:=by simp only[Ev.rh,List.filter_filter];congr 1;funext x;simp;rw[Bool.and_comm]
 rw[this];refine List.length_filter_lt_length_iff_exists.2 ⟨e,h,?_⟩;simp
theorem asm{z eB th nc tc bE e t n}(ht:t.bT 40=some (.aa 9 0))(hf:z.gG.find? (λx=>Nat.beq x.2.2 e.2.2)=some e)(hn:e.1=J n):
 Ek (iw t) (tY z eB nc th tc (bE++[e.2.2])) (.tmp 40)=some (.gE (.aC [J n,e.2.1]) (tY z eB nc th tc (bE++[e.2.2]))):=by
 have h1:iw t (.tmp 40)=some (.aa 9 0):=ht;have h2:(tY z eB nc th tc (bE++[e.2.2])).bf 9=some (.je (some 2) z.cc (bE++[e.2.2]) z.cc):=by kernel_rfl
 have h3:(tY z eB nc th tc (bE++[e.2.2])).bf 2=some (.bm z.gG z.cc true):=by kernel_rfl
 simp only[Ek,h1,h2,WU,List.getLast?_append,List.getLast?_singleton,Option.some_or,h3,k7,cond_true,hf,hn]
theorem agc{z eB nc th cm}(ke:z.gG=bJ (λn=>.gX n 0) 0 cm)(jG:z.cc=cm.length)(hth:∀x∈cm,lk x.1 th=some true):∀n bE,(Ev.rh z.gG bE).length<n->
 br Z 31 78 7 (.aC []) (b_ z.X z.xc [(0,d_ z 1 2 3 7 5 6),(1,cT z),(2,dg z),(3,df z),(4,.bm eB nc true),(5,dh z),(6,cR z),(7,cZ z)] 8) (aB [(2,.aa 7 0),(4,.aa 8 0),(7,.aJ),(40,.aa 9 0)]) (tY z eB nc (p6 th) th.length bE) (aw Z 31 1)
 |0,bE,h=>by omega
 |n+1,bE,h=>by
  refine hD DB 1000 vA (by kernel_rfl) ?_;refine cast (@aAT z eB nc (p6 th) th.length bE _ _).symm ?_;have asU:Y_ 41 40 (di Z vA 31 0)=true:=by kernel_rfl
  obtain⟨ops,i,o,rest,k,hs,ho,hg,hd⟩:=atr asU;have agY:Vs (di Z vA 31 0)=.gY ops (Nat.succ i) rest::k:=by rw[hs];rfl
  have ax:∀e∈z.gG,e.2.2<z.cc:=by intro e he;rw[ke]at he;have⟨x,_,_,_,h4⟩:=Pp he;omega
  have hc:(!bE.isEmpty&& !z.gG.isEmpty&&z.gG.all (λe=>Nat.ble z.cc e.2.2))=false:=by
   cases hz:z.gG with
   |nil=>simp
   |cons e es=>
    have:=ax e (by rw[hz];exact dJ ..);have h2:Nat.ble z.cc e.2.2=false:=by
     cases hb:Nat.ble z.cc e.2.2 with
     |false=>rfl
     |true=>have:=ph hb;omega
    simp[h2]
  rw[hs];refine auN (r:=9) (mm:=2) (since:=z.cc) (last:=z.cc) (clock:=z.cc) (p:=true) iO ho hg hd (by decide) (by kernel_rfl) (by kernel_rfl) (by kernel_rfl) hc ax ?_ ?_
  .intro _;rw[<-agY,show Tr.fV (aB [(2,AV.aa 7 0),(4,.aa 8 0),(7,.aJ),(40,.aa 9 0)]) 41 (.aC [.ao false])=aB [(2,.aa 7 0),(4,.aa 8 0),(7,.aJ),(40,.aa 9 0),(41,.aC [.ao false])]by kernel_rfl];refine hD DB 1000 vA (by kernel_rfl) ?_;exact cast (@aAV z eB nc (p6 th) th.length bE _ _).symm ⟨rfl,rfl⟩
  .intro e he;have iK:=(vU.1 he).1;have X_:=iK;rw[ke]at X_;have⟨x,hx,hn,_,_⟩:=Pp X_;have hf:z.gG.find? (λx=>Nat.beq x.2.2 e.2.2)=some e:=by rw[ke];exact afn X_
   have hm:=at1 he;have ih:=agc (eB:=eB) (nc:=nc) ke jG hth n (bE++[e.2.2]) (by omega);have Yx:(tY z eB nc (p6 th) th.length bE).cQ 9 (.je (some 2) z.cc (bE++[e.2.2]) z.cc)=tY z eB nc (p6 th) th.length (bE++[e.2.2]):=by kernel_rfl
   rw[<-agY,show Tr.fV (aB [(2,AV.aa 7 0),(4,.aa 8 0),(7,.aJ),(40,.aa 9 0)]) 41 (.aC [.ao true,e.1,e.2.1])=aB [(2,.aa 7 0),(4,.aa 8 0),(7,.aJ),(40,.aa 9 0),(41,.aC [.ao true,e.1,e.2.1])]by kernel_rfl];show br Z 31 78 7 _ _ _ ((tY z eB nc (p6 th) th.length bE).cQ 9 (.je (some 2) z.cc (bE++[e.2.2]) z.cc)) _;rw[Yx];refine hE DB aAW ?_;refine⟨x.1,e.2.1,asm (by kernel_rfl) hf hn,true,true,?_,aD.2 ⟨λh=>(by cases h),λ_=>ih⟩⟩;rw[p6,o7 AV.ao jv,hth x hx]
theorem azv{m c p}(h:fZ p m=none):jX Z 39 (gB m) c (o6 p) .aJ=some (gB (m++[⟨p,0,[],c⟩]),c+1):=by
 unfold jX;rw[KP];rw[<-L0 p m 0]at h;cases h2:wU p m 0 with
 |some x=>rw[h2]at h;cases h
 |none=>simp only[Option.map_none,gB,qF];rfl
def o_:Nat->List fu->List En
 |_,[]=>[]
 |k,p::l=>⟨fC p,0,[],k⟩::o_ (k+1) l
theorem ajb:∀l k p,o_ k (l++[p])=o_ k l++[⟨fC p,0,[],k+l.length⟩]
 |[],k,p=>rfl
 |x::l,k,p=>by simp only[oH,o_,ajb l (k+1) p,ej];rw[show k+1+l.length=k+(l.length+1)by omega]
theorem yM:∀{l k e},e∈o_ k l->(∃p∈l,e.p=fC p)/\e.n=0/\e.aM=[]/\k<=e.b/\e.b<k+l.length
 |x::l,k,e,h=>by
  rcases dm.1 h with rfl|h
  .exact⟨⟨x,dJ ..,rfl⟩,rfl,rfl,cM _,by simp only[ej];omega⟩
  .have⟨⟨p,h1,h2⟩,h3,h4,h5,h6⟩:=yM h;exact⟨⟨p,dZ _ h1,h2⟩,h3,h4,by omega,by simp;omega⟩
theorem afi{p}:∀{m},(∀e∈m,e.p≠p)->fZ p m=none
 |[],_=>rfl
 |e::m,h=>by simp only[fZ];rw[az λhp=>h e (dJ ..) hp.symm];exact afi λx hx=>h x (dZ _ hx)
theorem aja{X xc}:∀{l k},(l.map fC).Nodup->Ks.OK ⟨o_ k l,k+l.length,X,xc⟩ 0:=by
 intro l k hn;have hp:∀{l:List fu} {k:Nat},(o_ k l).map En.p=l.map fC:=by
  intro l;induction l with
  |nil=>intro k;rfl
  |cons p l ih=>intro k;simp only[o_,gR,ih]
 have hb:∀{l:List fu} {k:Nat},((o_ k l).map En.b).Nodup:=by
  intro l;induction l with
  |nil=>intro k;exact CI
  |cons p l ih=>intro k;simp only[o_,gR,uw];refine⟨λh=>?_,ih⟩;have⟨e,h1,h2⟩:=nJ.1 h;have:=(yM h1).2.2.2.1;omega
 refine⟨hb,λe he=>(yM he).2.2.2.2,by rw[hp];exact hn,λe he _=>(yM he).2.1,λe he h=>absurd (yM he).2.2.1 h,λe he _ _ h=>absurd (yM he).2.2.1 h,λe he=>?_⟩;have:=(yM he).2.2.1;rw[this];exact cM _
theorem aq4{z:Ar}{nx l}(hl:l.length<=3000000)(hn:(l.map fC).Nodup){v H1}(h:br Z 31 78 7 v H1 (aB [(2,.aa 7 0),(3,.aa 8 0),(4,.aa 9 0),(17,.ad (fo l) l.length 4),(18,J (aE l.length)),(19,J (l.length:Int))]) (Xl {z with eB:=gB (o_ 0 l),nc:=l.length} z.eB z.nc nx (fo l) l.length (p6 []) 0) (aw Z 31 0)):
 ∀i,i<=l.length->br Z 31 78 7 v H1 (aB [(2,.aa 7 0),(3,.aa 8 0),(4,.aa 9 0),(17,.ad (fo l) l.length 4),(18,J (aE l.length)),(19,J (i:Int))]) (Xl {z with eB:=gB (o_ 0 (l.take i)),nc:=i} z.eB z.nc nx (fo l) l.length (p6 []) 0) (aw Z 31 0):=by
 refine dS (λi=>l.length-i) _ _ _ _ ?_;rintro i hi ih;by_cases ax:i<l.length
 .refine hE DB alC ?_;have bX:=Bd ax;have h1:=ih (i+1) (by omega) (by omega);have fJ:l.take (i+1)=l.take i++[l[i]]:=by rw[vR,ir ax];rfl
  rw[fJ,ajb,vN,MU hi,ki]at h1;have iJ:∀e∈o_ 0 (l.take i),e.p≠fC l[i]:=by intro e he hp;have⟨⟨p,LD,EE⟩,_⟩:=yM he;have h4:((l.take (i+1)).map fC).Nodup:=List.Nodup.sublist (List.Sublist.map _ (List.take_sublist _ _)) hn;rw[fJ,qF,List.nodup_append]at h4;exact h4.2.2 _ (vP LD) _ (oe.2 rfl) (EE.symm.trans hp)
  have kQ:=azv (c:=i) (afi iJ);generalize l[i]=p at bX kQ h1;have⟨nm,ar,dy,bO⟩:=p;refine aD.2 ⟨λ_=>⟨i,rfl,ax,nm,ar,dy,mr bO,bO.length,bX,_,_,kQ,?_⟩,λhn=>absurd (ez hn) (by simp;omega)⟩;rw[cO (by omega) (by omega)];exact h1
 .obtain rfl:i=l.length:=by omega
  rw[vT];exact h
theorem KB{σ iA}{P:σ->Prop}(h:∀st p s,P st->P (iA st p s)):∀{l st},P st->P (tN iA st l)
 |[],st,h0=>h0
 |p::l,st,h0=>by
  have h1:∀(ss:List ib) (st:σ),P st->P (ss.foldl (λst s=>iA st p s) st):=by
   intro ss;induction ss with
   |nil=>exact λst h=>h
   |cons s ss ih=>exact λst hs=>ih _ (h st p s hs)
  exact KB (l:=l) h (h1 p.bO st h0)
def sH(z:Ar)(l:List fu):S5:=⟨{z with eB:=gB (o_ 0 l),nc:=l.length},o_ 0 l,[]⟩
def hFo(z:Ar)(eB:ES)(nc:Nat):AH:=b_ z.X z.xc [(0,d_ z 1 2 3 7 5 6),(1,cT z),(2,dg z),(3,df z),(4,.bm eB nc true),(5,dh z),(6,cR z),(7,cZ z)] 8
structure Fow where
 z:Ar
 nx:Int
 l:List fu
 cm:List (Int×Nat)
 aH:S5
def foX:cx Fow where
 bn w A H:=A=[.aa 0 0,.ah [J w.nx,.ad (fo w.l) w.l.length 4]]/\H=hA w.z/\w.z.gG=bJ (λn=>.gX n 0) 0 w.cm/\w.z.cc=w.cm.length/\(w.l.map fC).Nodup/\uK w.l/\oU (sH w.z w.l) w.l=w.aH/\∀x∈w.cm,lk x.1 w.aH.th=some true
 v w:=.aC []
 aK w:=hFo w.aH.z w.z.eB w.z.nc
theorem aq3:foX.cr:=by rintro⟨z,nx,l,cm,aH⟩ ⟨z',Z7,l',cm',afZ⟩ A H ⟨h1,h2,_,_,_,_,q1,_⟩ ⟨h3,h4,_,_,_,_,q2,_⟩;have e1:=BE (h2.symm.trans h4);rw[h1]at h3;simp at h3;have e6:=KG h3.2.2 h3.2.1;subst e1 e6;rw[q1]at q2;subst q2;rfl
def UO:Ev.bo:=bR 31 (ca foX aq3 pO) DA
theorem ac3:aU Z UO:=by
 refine cA DB ?_;rintro⟨z,nx,l,cm,aH⟩ args H ⟨rfl,rfl,ke,jG,nY,zW,u_,u7⟩;simp only at ke jG nY zW u_ u7;have hz:aH.z.gG=z.gG/\aH.z.cc=z.cc:=by rw[<-u_];exact KB (iA:=λst p s=>iu st (fC p) s.id) (P:=λst:S5=>st.z.gG=z.gG/\st.z.cc=z.cc) (λst p s h=>h) ⟨rfl,rfl⟩
 have BL:An 0 (sH z l):=⟨rfl,by have:=aja (X:=z.X) (xc:=z.xc) (k:=0) nY;rw[ki]at this;exact this⟩;have asy:=agc (eB:=z.eB) (nc:=z.nc) (hz.1.trans ke) (hz.2.trans jG) u7 _ [] (lY _);refine eE 78 DB aAU ?_;refine sS (aq4 zW.gD nY ?_ 0 (gq _)) (Rq (g:=10) rfl (λid=>by rcases id with _|_|_|_|_|_|_|_|_|_|_|_|id<;>rfl)) (by kernel_rfl);refine hE DB alC ?_;refine aD.2 ⟨λh=>absurd (dQ h) (by simp),λ_=>⟨⟨sH z l,nx,l,aH⟩,⟨rfl,rfl,BL,zW,u_⟩,asy⟩⟩
def nbX:cx Ar where
 bn w A H:=A=[.aa 0 0]/\H=hA w
 v w:=.ao false
 aK w:=hA w
theorem auK:nbX.cr:=λA A' _ _ h1 h2=>by rw[BE (h1.2.symm.trans h2.2)]
def UP:Ev.bo:=bR 21 (ca nbX auK pO) UO
def fj(X:Nat->Option bk)(xc:Nat):Ar:=⟨1,4294967296,[],0,[],0,[],0,[],0,[],0,[],0,X,xc⟩
def nwX:cx ((Nat->Option bk)×Nat)where
 bn w A H:=A=[]/\H=b_ w.1 w.2 [] 0
 v w:=.aa 0 0
 aK w:=hA (fj w.1 w.2)
theorem auS:nwX.cr:=by rintro⟨X,c⟩ ⟨X',c'⟩ A H ⟨_,h2⟩ ⟨_,h4⟩;have h7:=congrArg AH.x (h2.symm.trans h4);cases h7;rfl
def Gk:Ev.bo:=bR 6 (ca nwX auS pO) UP
theorem aAz{z L Q}:
 bI Z UO (λ_=>[]) L Q 1000 21 [.aa 0 0] (hA z)=(
 Q (.ao false) (hA z)):=by kernel_rfl
theorem aBu{X xc L Q}:
 bI Z UP (λ_=>[]) L Q 1000 6 [] (b_ X xc [] 0)=(
 Q (.aa 0 0) (b_ X xc [(0,.aj [J 1,J 4294967296,.aJ,.aA 1,.aA 2,.aA 3,.aA 4,.aJ,.aJ] 78),(1,.bm [] 0 false),(2,.bm [] 0 true),(3,.bm [] 0 false),(4,.bm [] 0 false)] 5)):=by kernel_rfl
theorem ac4:aU Z UP:=by refine cA ac3 ?_;rintro z args H ⟨rfl,rfl⟩;refine eE 12 ac3 aAz ?_;exact⟨rfl,rfl⟩
theorem G_{f args H0 H H1 v}(h:bZ Z f args H0 v H)(hm:lL H0.bx H H1 (λφ aQ=>aQ=φ))(cu:H0.bx<=H.bx)(pS:ju v=.gk v:=by rfl):bZ Z f args H0 v H1:=
 Bf h hm cu (λφ aQ hR x hx=>by subst hR;exact hx) pS
theorem xU:aU Z Gk:=by
 refine cA ac4 ?_;rintro⟨X,c⟩ args H ⟨rfl,rfl⟩;have h0:bZ Z 6 [] (b_ X c [] 0) (.aa 0 0) (b_ X c [(0,.aj [J 1,J 4294967296,.aJ,.aA 1,.aA 2,.aA 3,.aA 4,.aJ,.aJ] 78),(1,.bm [] 0 false),(2,.bm [] 0 true),(3,.bm [] 0 false),(4,.bm [] 0 false)] 5):=by refine eE 8 ac4 aBu ?_;exact⟨rfl,rfl⟩
 have h1:=G_ h0 (Rq (g:=1) (l':=[(0,.aj [J 1,J 4294967296,.aJ,.aA 1,.aA 2,.aA 3,.aA 4,.aJ,.aJ] 78),(1,.bm [] 0 true),(2,.bm [] 0 true),(3,.bm [] 0 false),(4,.bm [] 0 false)]) rfl (λid=>by rcases id with _|_|_|_|_|id<;>rfl)) (gq _);have h2:=G_ h1 (Rq (g:=3) (l':=[(0,.aj [J 1,J 4294967296,.aJ,.aA 1,.aA 2,.aA 3,.aA 4,.aJ,.aJ] 78),(1,.bm [] 0 true),(2,.bm [] 0 true),(3,.bm [] 0 true),(4,.bm [] 0 false)]) rfl (λid=>by rcases id with _|_|_|_|_|id<;>rfl)) (gq _);have h3:=G_ h2 (Rq (g:=4) (l':=[(0,.aj [J 1,J 4294967296,.aJ,.aA 1,.aA 2,.aA 3,.aA 4,.aJ,.aJ] 78),(1,.bm [] 0 true),(2,.bm [] 0 true),(3,.bm [] 0 true),(4,.bm [] 0 true)]) rfl (λid=>by rcases id with _|_|_|_|_|id<;>rfl)) (gq _);have h4:=G_ h3 (IF (t:=83) (g:=0) (l':=[(0,.aj [J 1,J 4294967296,.ai 5 0 1,.aA 1,.aA 2,.aA 3,.aA 4,.aJ,.aJ] 78),(1,.bm [] 0 true),(2,.bm [] 0 true),(3,.bm [] 0 true),(4,.bm [] 0 true)]) rfl (λid=>by rcases id with _|_|_|_|_|id<;>rfl) rfl (λφ x hx=>(iS.fE (.fE (iS.xO (λφ x h=>qN h) (.oq _)))) φ x hx) ⟨rfl,rfl⟩) (gq _);have h5:=G_ h4 (IF (t:=44) (g:=0) (l':=[(0,.aj [J 1,J 4294967296,.ai 5 0 1,.aA 1,.aA 2,.aA 3,.aA 4,.ai 6 0 9,.aJ] 78),(1,.bm [] 0 true),(2,.bm [] 0 true),(3,.bm [] 0 true),(4,.bm [] 0 true),(5,.ay [] 83)]) rfl (λid=>by rcases id with _|_|_|_|_|_|id<;>rfl) rfl (λφ x hx=>(iS.fE (.fE (.fE (.fE (.fE (.fE (.fE (iS.xO (λφ x h=>qN h) (.oq _))))))))) φ x hx) ⟨rfl,rfl⟩) (gq _);exact nh (ps:=[(0,0),(5,1),(1,2),(2,3),(3,4),(4,5),(6,6)]) h5 (by kernel_rfl) (by kernel_rfl)
def Aq:Nat->LN:=fT [(999998,[3,4,5,6,8,26])]
def Ff:Nat->LN:=fT [(999995,[2000013]),(999996,[6]),(999998,[3,4,5,6,9,10])]
def Mm:Nat->LN:=fT [(17,[3,4,6,10,33,34,35]),(999996,[6])]
def hU(z:Ar)(nx:Int)(ps:LV)(np:Nat)(tr:Bool)(e a i:Int):AH:=b_ z.X z.xc [(0,d_ z 1 2 3 4 5 6),(1,cT z),(2,dg z),(3,df z),(4,cZ z),(5,dh z),(6,cR z),(7,.aj [.aa 0 0] 25),(8,iG nx ps np),(9,.aj [.ao tr] 4),(10,.aj [J e] 27),(11,.aj [J a,J i] 72)] 12
def hUn(z:Ar)(nx:Int)(ps:LV)(np:Nat)(tr:Bool)(e a i:Int)(aM:LV)(ni:Nat)(bs:LV)(nb:Nat):AH:=b_ z.X z.xc [(0,d_ z 1 2 3 4 5 6),(1,cT z),(2,dg z),(3,df z),(4,cZ z),(5,dh z),(6,cR z),(7,.aj [.aa 0 0] 25),(8,iG nx ps np),(9,.aj [.ao tr] 4),(10,.aj [J e] 27),(11,.aj [J a,J i] 72),(12,.aj [.ai 14 ni 1] 35),(13,.aj [.ai 15 nb 1] 82),(14,.ay aM 2),(15,.ay bs 29)] 16
abbrev tU:Ev.Tr AV:=aB [(3,.aa 7 0),(4,.aa 8 0),(5,.aa 9 0),(6,.aa 10 0),(8,.aa 11 0),(26,.ba (.func 25) [] [.aa 10 0,.aa 11 0,.aa 7 0])]
def h17(z:Ar)(nx:Int)(ps:LV)(np:Nat)(tr:Bool)(e a i:Int)(aM:LV)(bs:LV)(nb:Nat):AH:=b_ z.X z.xc [(0,d_ z 14 2 3 4 5 15),(1,.bc []),(2,dg z),(3,df z),(4,cZ z),(5,dh z),(6,.bc []),(7,.aj [.aa 0 0] 25),(8,iG nx ps np),(9,.aj [.ao tr] 4),(10,.aj [J e] 27),(11,.aj [J a,J i] 72),(12,.aj [.ai 16 nb 1] 82),(13,.ay aM 2),(14,cT z),(15,cR z),(16,.ay bs 29)] 17
theorem alR{z nx ps np tr L Q}:
 bI Z Gk Aq L Q 1000 7 [.aa 0 0,.ah [J nx,.ad ps np 4],.ao tr] (hA z)=(
 ∃w,(([.aa 0 0]:LV)=[.aa 0 0]/\hA z=hA w)/\(∃ae,(([.ah [J nx,.ad ps np 4]]:LV)=[.ah (lA ae)]/\al [] 0=an/\vG ae)/\aq (!oj ae) (Q (J 1) (hA w)) (∃aS:EcA,(([.ah [J nx,.ad ps np 4],.ba (.func 24) [] [.aa 0 0,.aa 1 0]]:LV)=[.ah [J aS.nx,.ad (fo aS.l) aS.l.length 4],.ba (.func 24) [] [.aa 0 0,.aa 1 0]]/\nj w false=nj aS.z aS.b/\aS.z.ret=[]/\uK aS.l)/\aq aS.b (Q (J 5) (hA aS.z)) (L (aB [(3,.aa 7 0),(4,.aa 8 0),(5,.aa 9 0),(6,.aa 10 0),(8,.aa 11 0),(26,.ba (.func 25) [] [.aa 10 0,.aa 11 0,.aa 7 0])]) (hU aS.z nx ps np tr 0 aS.z.au aS.z.id) (di Z Aq 7 0))))):=by kernel_rfl
theorem aBC{z nx ps np tr a i L R Q}:
 Jc Z Gk Ff L R Q 1000 7 12 tU (GC (di Z Aq 7 0)) (hU z nx ps np tr 0 a i)=(
 L (aB [(3,.aa 7 0),(4,.aa 8 0),(5,.aa 9 0),(6,.aa 10 0),(9,.aa 12 0),(10,.aa 13 0)]) (b_ z.X z.xc [(0,d_ z 1 2 3 4 5 6),(1,cT z),(2,dg z),(3,df z),(4,cZ z),(5,dh z),(6,cR z),(7,.aj [.aa 0 0] 25),(8,iG nx ps np),(9,.aj [.ao tr] 4),(10,.aj [J 0] 27),(11,.aj [J a,J i] 72),(12,.aj [.aJ] 35),(13,.aj [.aJ] 82)] 14) (di Z Ff 7 1)):=by kernel_rfl
theorem aBD{z nx ps np tr a i L R Q}:
 Jc Z Gk Mm L R Q 1000 7 12 (aB [(3,.aa 7 0),(4,.aa 8 0),(5,.aa 9 0),(6,.aa 10 0),(9,.aa 12 0),(10,.aa 13 0)]) (di Z Ff 7 1) (hUn z nx ps np tr 0 a i [] 0 [] 0)=(
 ∃w:EcB,(([.ah [J nx,.ad ps np 4],.ba (.func 26) [] [.aa 0 0,.aa 1 0,.aa 2 0,.aa 3 0,.aa 4 0]]:LV)=[.ah [J w.nx,.ad (fo w.l) w.l.length 4],.ba (.func 26) [] [.aa 0 0,.aa 1 0,.aa 2 0,.aa 3 0,.aa 4 0]]/\pM z 0 tr [] 0 [] 0=Oa w.st w.tr/\w.st.z.gG=[]/\(w.st.aM=[]/\(w.st.cW:List (List fG))=[])/\uK w.l/\tN (λst x s=>jF w.tr st s) w.st w.l=w.aH)/\aq (w.aH.e !=0) (R (aB [(6,.aa 10 0)]) (hU w.aH.z nx ps np w.tr w.aH.e a i)) (L (aB [(3,.aa 7 0),(4,.aa 8 0),(6,.aa 10 0),(10,.aa 12 0),(33,.ai 13 w.aH.aM.length 1),(34,J (aE w.aH.aM.length)),(35,J 0)]) (b_ w.aH.z.X w.aH.z.xc [(0,d_ w.aH.z 1 2 3 4 5 6),(1,cT w.aH.z),(2,dg w.aH.z),(3,df w.aH.z),(4,cZ w.aH.z),(5,dh w.aH.z),(6,cR w.aH.z),(7,.aj [.aa 0 0] 25),(8,iG nx ps np),(9,.aj [.ao w.tr] 4),(10,.aj [J w.aH.e] 27),(11,.aj [J a,J i] 72),(12,.aj [.ai 14 w.aH.cW.length 1] 82),(13,bK w.aH.aM 2),(14,.ay (lO w.aH.cW) 29)] 15) (aw Z 7 0))):=by kernel_rfl
theorem alS{z nx ps np tr e a i aM ni bs nb j L R Q}:
 Jc Z Gk Mm L R Q 1000 7 12 (aB [(3,.aa 7 0),(4,.aa 8 0),(6,.aa 10 0),(10,.aa 12 0),(33,.ai 13 ni 1),(34,J (aE ni)),(35,J j)]) (aw Z 7 0) (h17 z nx ps np tr e a i aM bs nb)=(
 aq (decide (j<aE ni)) (∃aL:Nat,j=(aL:Int)/\aL<ni/\(∃n,cw Z 2 aM (aL*1)=some (J n:AV)/\(∃cG:Nat,j=(cG:Int)/\cG<nb/\(∃cs len,cw Z 29 bs (cG*1)=some (.ad cs len 9:AV)/\(∃w:Kw,(([.aa 0 0,.ad cs len 9,.ao false]:LV)=[.aa 0 0,.ad (e_ w.l) w.l.length 9,.ao w.b]/\hA z=hA w.z/\Ot w.z w.m w.l/\vr w.z w.m w.l w.b=w.zf/\w.zf.xc=w.c+1)/\some (.aA 2:AV)=some (.aA 2:AV)/\some (.aa 0 0:AV)=some (.aa 0 0:AV)/\(∃bF c',jX Z 2 w.zf.gG w.zf.cc (J n) (.gX w.c 0)=some (bF,c')/\L (aB [(3,.aa 7 0),(4,.aa 8 0),(6,.aa 10 0),(10,.aa 12 0),(33,.ai 13 ni 1),(34,J (aE ni)),(35,J (wI (j+1)))]) (b_ w.zf.X w.zf.xc [(0,d_ w.zf 14 2 3 4 5 15),(1,.bc []),(2,.bm bF c' true),(3,df w.zf),(4,cZ w.zf),(5,dh w.zf),(6,.bc []),(7,.aj [.aa 0 0] 25),(8,iG nx ps np),(9,.aj [.ao tr] 4),(10,.aj [J e] 27),(11,.aj [J a,J i] 72),(12,.aj [.ai 16 nb 1] 82),(13,.ay aM 2),(14,cT w.zf),(15,cR w.zf),(16,.ay bs 29)] 17) (aw Z 7 0))))))) (∃w:Fow,(([.aa 0 0,.ah [J nx,.ad ps np 4]]:LV)=[.aa 0 0,.ah [J w.nx,.ad (fo w.l) w.l.length 4]]/\hA z=hA w.z/\w.z.gG=bJ (λn=>AV.gX n 0) 0 w.cm/\w.z.cc=w.cm.length/\List.Nodup (List.map fC w.l)/\uK w.l/\oU (sH w.z w.l) w.l=w.aH/\(∀x,x∈w.cm->lk x.1 w.aH.th=some true))/\R (aB [(6,.aa 10 0)]) (b_ w.aH.z.X w.aH.z.xc [(0,d_ w.aH.z 12 2 3 13 5 14),(1,.bc []),(2,dg w.aH.z),(3,df w.aH.z),(4,cZ w.z),(5,dh w.aH.z),(6,.bc []),(7,.aj [.aa 0 0] 25),(8,iG nx ps np),(9,.aj [.ao tr] 4),(10,.aj [J 0] 27),(11,.aj [J a,J i] 72),(12,cT w.aH.z),(13,cZ w.aH.z),(14,cR w.aH.z)] 15))):=by kernel_rfl
theorem aDD{m c xc L X o}(h:Ks.OK ⟨m,c,X,xc⟩ L):Ks.OK ⟨m,c,Df X xc o,xc+1⟩ L:=by
 refine⟨h.Je,h.lt,h.Q5,h.nil,λe he hi=>?_,h.Mr,h.len⟩;have⟨h1,h2⟩:=h.vW e he hi;simp only at h1 h2;refine⟨Fx h1,?_⟩;have:Nat.beq e.n xc=false:=by
  cases hb:Nat.beq e.n xc with
  |false=>rfl
  |true=>have:=dG hb;omega
 simp only[Df,this,cond_false,h2]
structure S7 where
 z:Ar
 m:List En
 cm:List (Int×Nat)
def S7.ks(st:S7)(l:List fG):Ks:=nQ ⟨st.m,st.z.oc,st.z.X,st.z.xc⟩ l
def pr(st:S7)(x:Int×List fG):S7:=
 ⟨{vr st.z st.m x.2 false with gG:=bJ (λn=>.gX n 0) 0 (up x.1 (st.ks x.2).xc st.cm),cc:=(up x.1 (st.ks x.2).xc st.cm).length},(st.ks x.2).m,up x.1 (st.ks x.2).xc st.cm⟩
structure wS(L:Nat)(st:S7):Prop where
 mI:st.z.mI=gB st.m
 ok:Ks.OK ⟨st.m,st.z.oc,st.z.X,st.z.xc⟩ L
 mw:st.z.mw.length=st.z.ng/\st.z.ng<=L
 add:st.z.mP.length=st.z.na*9/\st.z.na<=L
 gG:st.z.gG=bJ (λn=>.gX n 0) 0 st.cm
 cc:st.z.cc=st.cm.length
theorem ato{L st x}(h:wS L st)(hx:x.2≠[]):wS (L+x.2.length) (pr st x):=by
 have h1:=adI h.ok x.2;have h2:=List.length_pos_iff.2 hx;refine⟨rfl,aDD h1,⟨?_,?_⟩,⟨?_,?_⟩,rfl,rfl⟩
 .simp only[pr,vr,cI,ej,gW,h.mw.1]
 .have:=h.mw.2;simp only[pr,vr];omega
 .simp only[pr,vr,cI,Pn,h.add.1];omega
 .have:=h.add.2;simp only[pr,vr];omega
theorem atn{L st l}(h:wS L st)(hx:l≠[])(h1:l.length<=1000000)(h2:L+l.length<=3000000):Ot st.z st.m l:=
 ⟨h.mI,h.ok.mono (by omega),hx,h1,⟨h.mw.1,by have:=h.mw.2;omega⟩,⟨h.add.1,by have:=h.add.2;omega⟩⟩
def sj(l:List (Int×List fG)):Nat:=(l.map λx=>x.2.length).sum
theorem QY:∀{l L st},(∀x∈l,x.2≠[])->wS L st->wS (L+sj l) (l.foldl pr st)
 |[],L,st,_,h=>h
 |x::l,L,st,hx,h=>by have:=QY (λy hy=>hx y (dZ _ hy)) (ato h (hx x (dJ ..)));rw[show L+sj (x::l)=L+x.2.length+sj l by simp only[sj,gR,List.sum_cons];omega];exact this
theorem aCx{l}(j)(h:j<l.length):sj (l.take j)+l[j].2.length<=sj l:=by
 have:sj (l.take (j+1))+sj (l.drop (j+1))=sj l:=by simp only[sj,<-List.sum_append,<-qF,xg]
 rw[vR,ir h]at this;simp only[sj,Option.toList_some,qF,List.sum_append,gR,List.map_nil,List.sum_cons,List.sum_nil]at this⊢;omega
def mY:List pD:=[.uF (.func 25) [.aa 10 0,.aa 11 0,.aa 7 0] []]
theorem zF:oT 12 mY:=⟨⟨by omega,by omega,by omega,trivial⟩,trivial,trivial⟩
theorem avk(cs off):cw Z 29 cs off=cs[off]? :=by kernel_rfl
theorem MK(cs off):cw Z 2 cs off=cs[off]? :=by kernel_rfl
abbrev AJ(aM:LI)(j:Int):Ev.Tr AV:=aB [(3,.aa 7 0),(4,.aa 8 0),(6,.aa 10 0),(10,.aa 12 0),(33,.ai 13 aM.length 1),(34,J (aE aM.length)),(35,J j)]
abbrev Dw(z:Ar)(nx:Int)(l:List fu)(tr:Bool)(a i:Int)(aM:LI)(cW:List (List fG)):AH:=h17 z nx (fo l) l.length tr 0 a i (aX aM) (lO cW) cW.length
theorem aCL{v H1 st L nx l tr a i aM cW j}(hj:j<aM.length)(HX:j<cW.length)(oX:wS L st)(hb:aM.length<=3000000)(cE:cW[j]≠[])(mB:cW[j].length<=1000000)(h_:L+cW[j].length<=3000000)(h:hZ mY Z 7 55 12 v H1 (AJ aM ((j+1:Nat):Int)) (Dw (pr st (aM[j],cW[j])).z nx l tr a i aM cW) (aw Z 7 0)):
 hZ mY Z 7 55 12 v H1 (AJ aM (j:Int)) (Dw st.z nx l tr a i aM cW) (aw Z 7 0):=by
 refine Lp iO xU (aR:=Mm) (n:=1000) zF (by kernel_rfl) (λ_ _ h=>h) (λ_ _ _ h=>h) ?_;refine cast (@alS st.z nx (fo l) l.length tr 0 a i (aX aM) aM.length (lO cW) cW.length (j:Int) _ _ _).symm ?_;have e1:cw Z 2 (aX aM) (j*1)=some (J aM[j]):=by rw[MK,oI,aX,uv,ir hj];rfl
 have e2:cw Z 29 (lO cW) (j*1)=some (.ad (e_ cW[j]) cW[j].length 9):=by rw[avk,oI,lO,uv,ir HX];rfl
 have hk:=atn oX cE mB h_;have e3:jX Z 2 (vr st.z st.m cW[j] false).gG (vr st.z st.m cW[j] false).cc (J aM[j]) (.gX (st.ks cW[j]).xc 0)=some (bJ (λn=>.gX n 0) 0 (up aM[j] (st.ks cW[j]).xc st.cm),(up aM[j] (st.ks cW[j]).xc st.cm).length):=by show jX Z 2 st.z.gG st.z.cc (J aM[j]) _=_;rw[oX.gG,oX.cc];exact pk (ev:=λn=>AV.gX n 0) jv
 refine aD.2 ⟨λ_=>⟨j,rfl,hj,aM[j],e1,j,rfl,HX,e_ cW[j],cW[j].length,e2,⟨st.z,st.m,cW[j],false,vr st.z st.m cW[j] false,(st.ks cW[j]).xc⟩,⟨rfl,rfl,hk,rfl,rfl⟩,rfl,rfl,_,_,e3,?_⟩,λhn=>absurd (ez hn) (by simp;omega)⟩;rw[cO (by omega) (by omega)];exact h
theorem amR{α β:Type}{a:List α}{b:List β}{j}(h:j<(a.zip b).length)(h1:j<a.length)(h2:j<b.length):(a.zip b)[j]=(a[j],b[j]):=List.getElem_zip ..
theorem amf{v H1 s0 nx l tr a i aM cW}(bS:aM.length=cW.length)(hb:aM.length<=3000000)(nr:∀b∈cW,b≠[]/\b.length<=1000000)(QQ:sj (aM.zip cW)<=3000000)(h0:wS 0 s0)(Ez:hZ mY Z 7 55 12 v H1 (AJ aM (aM.length:Int)) (Dw ((aM.zip cW).foldl pr s0).z nx l tr a i aM cW) (aw Z 7 0)):∀n j:Nat,n+j=aM.length->
 hZ mY Z 7 55 12 v H1 (AJ aM (j:Int)) (Dw (((aM.zip cW).take j).foldl pr s0).z nx l tr a i aM cW) (aw Z 7 0)
 |0,j,h=>by
  obtain rfl:j=aM.length:=by omega
  rw[CB (by rw[List.length_zip];omega)];exact Ez
 |n+1,j,h=>by
  have ih:=amf bS hb nr QQ h0 Ez n (j+1) (by omega);have hz:j<(aM.zip cW).length:=by rw[List.length_zip];omega
  have h1:j<aM.length:=by omega
  have h2:j<cW.length:=by omega
  have hm:=nr cW[j] (pW h2);have ht:=aCx j hz;rw[vR,ir hz,Option.toList_some,I8,rz,Sl,amR hz h1 h2]at ih;rw[amR hz h1 h2]at ht;simp only at ht;refine aCL h1 h2 (QY (λx hx=>?_) h0) hb hm.1 hm.2 (by omega) ih;exact(nr x.2 (List.of_mem_zip (CE hx)).2).1
def BF(z z0:Ar)(nx:Int)(l:List fu)(tr:Bool)(a i:Int):AH:=b_ z.X z.xc [(0,d_ z 12 2 3 13 5 14),(1,.bc []),(2,dg z),(3,df z),(4,cZ z0),(5,dh z),(6,.bc []),(7,.aj [.aa 0 0] 25),(8,iG nx (fo l) l.length),(9,.aj [.ao tr] 4),(10,.aj [J 0] 27),(11,.aj [J a,J i] 72),(12,cT z),(13,cZ z),(14,cR z)] 15
theorem aCH{v H1 st L nx l tr a i aM cW aH}(oX:wS L st)(nY:(l.map fC).Nodup)(zW:uK l)(u_:oU (sH st.z l) l=aH)(u7:∀x∈st.cm,lk x.1 aH.th=some true)(h:cb Z 12 ⟨7,aB [(6,.aa 10 0)],55,[],mY,.iX,none,none⟩ (BF aH.z st.z nx l tr a i) (pX (fA v H1))):
 hZ mY Z 7 55 12 v H1 (AJ aM (aM.length:Int)) (Dw st.z nx l tr a i aM cW) (aw Z 7 0):=by
 refine Lp iO xU (aR:=Mm) (n:=1000) zF (by kernel_rfl) (λ_ _ h=>h) (λ_ _ _ h=>h) ?_;refine cast (@alS st.z nx (fo l) l.length tr 0 a i (aX aM) aM.length (lO cW) cW.length (aM.length:Int) _ _ _).symm ?_;refine aD.2 ⟨λhn=>absurd (dQ hn) (by simp),λ_=>⟨⟨st.z,nx,l,st.cm,aH⟩,⟨rfl,rfl,oX.gG,oX.cc,nY,zW,u_,u7⟩,h⟩⟩
theorem apB(z nx ps np tr a i):uY Z (Bj Z 0) 1 (fB [] none 7 55 tU (di Z Aq 7 0)) (hU z nx ps np tr 0 a i)=
 .go (fB mY none 7 55 tU (GC (di Z Aq 7 0))) (hU z nx ps np tr 0 a i):=by kernel_rfl
theorem apD(z z0 nx l tr a i):uY Z (Bj Z 60) 1 ⟨7,aB [(6,.aa 10 0)],55,[],mY,.iX,none,none⟩ (BF z z0 nx l tr a i)=
 .go ⟨7,aB [(6,.aa 10 0)],55,[],[],.iX,none,none⟩ (BF z z0 nx l tr a i):=by kernel_rfl
theorem apE(z nx ps np tr a i):uY Z (Bj Z 60) 1 ⟨7,aB [(6,.aa 10 0)],55,[],mY,.iX,none,none⟩ (hU z nx ps np tr 1 a i)=
 .go ⟨7,aB [(6,.aa 10 0)],55,[],[],.iX,none,none⟩ (hU {z with au:=a,id:=i} nx ps np tr 1 a i):=by kernel_rfl
theorem apF(z nx ps np tr a i):uY Z (Bj Z 60) 1 ⟨7,aB [(6,.aa 10 0)],55,[],mY,.iX,none,none⟩ (hU z nx ps np tr 2 a i)=
 .go ⟨7,aB [(6,.aa 10 0)],55,[],[],.iX,none,none⟩ (hU {z with au:=a,id:=i} nx ps np tr 2 a i):=by kernel_rfl
theorem apC(z z0 nx l tr a i Q):Ev.pI Z 7 12 Q (aB [(6,.aa 10 0)]) (BF z z0 nx l tr a i)=Q (J 0) (BF z z0 nx l tr a i):=by kernel_rfl
theorem aeX(z nx ps np tr e a i Q):Ev.pI Z 7 12 Q (aB [(6,.aa 10 0)]) (hU z nx ps np tr e a i)=Q (J e) (hU z nx ps np tr e a i):=by kernel_rfl
theorem aCJ(z z0 nx l tr a i):cb Z 12 ⟨7,aB [(6,.aa 10 0)],55,[],mY,.iX,none,none⟩ (BF z z0 nx l tr a i) (pX (fA (J 0) (BF z z0 nx l tr a i))):=by
 refine cb.Bx iO (Bk iO 60) (λk wB H2 hi h=>?_) (apD z z0 nx l tr a i) ?_
 .have:k=0:=by omega
  subst this;cases h;rfl
 refine cb.pI iO (pK xU) ?_;rw[apC];exact⟨rfl,rfl⟩
theorem aCK{z nx ps np tr e a i}(he:e=1\/e=2):cb Z 12 ⟨7,aB [(6,.aa 10 0)],55,[],mY,.iX,none,none⟩ (hU z nx ps np tr e a i) (pX (fA (J e) (hU {z with au:=a,id:=i} nx ps np tr e a i))):=by
 rcases he with rfl|rfl
 .refine cb.Bx iO (Bk iO 60) (λk wB H2 hi h=>?_) (apE z nx ps np tr a i) ?_
  .have:k=0:=by omega
   subst this;cases h;rfl
  refine cb.pI iO (pK xU) ?_;rw[aeX];exact⟨rfl,rfl⟩
 .refine cb.Bx iO (Bk iO 60) (λk wB H2 hi h=>?_) (apF z nx ps np tr a i) ?_
  .have:k=0:=by omega
   subst this;cases h;rfl
  refine cb.pI iO (pK xU) ?_;rw[aeX];exact⟨rfl,rfl⟩
def hL(z:Ar)(nx:Int)(ps:LV)(np:Nat)(tr:Bool)(a i:Int)(aM bs:LV)(nb:Nat):AH:=b_ z.X z.xc [(0,d_ z 1 2 3 4 5 6),(1,cT z),(2,dg z),(3,df z),(4,cZ z),(5,dh z),(6,cR z),(7,.aj [.aa 0 0] 25),(8,iG nx ps np),(9,.aj [.ao tr] 4),(10,.aj [J 0] 27),(11,.aj [J a,J i] 72),(12,.aj [.ai 14 nb 1] 82),(13,.ay aM 2),(14,.ay bs 29)] 15
def hL1(z:Ar)(nx:Int)(ps:LV)(np:Nat)(tr:Bool)(a i:Int)(aM bs:LV)(nb:Nat):AH:=b_ z.X z.xc [(0,d_ z 15 2 3 4 5 6),(1,.bc []),(2,dg z),(3,df z),(4,cZ z),(5,dh z),(6,cR z),(7,.aj [.aa 0 0] 25),(8,iG nx ps np),(9,.aj [.ao tr] 4),(10,.aj [J 0] 27),(11,.aj [J a,J i] 72),(12,.aj [.ai 14 nb 1] 82),(13,.ay aM 2),(14,.ay bs 29),(15,cT z)] 16
def hL2(z:Ar)(nx:Int)(ps:LV)(np:Nat)(tr:Bool)(a i:Int)(aM bs:LV)(nb:Nat):AH:=b_ z.X z.xc [(0,d_ z 15 2 3 4 5 16),(1,.bc []),(2,dg z),(3,df z),(4,cZ z),(5,dh z),(6,.bc []),(7,.aj [.aa 0 0] 25),(8,iG nx ps np),(9,.aj [.ao tr] 4),(10,.aj [J 0] 27),(11,.aj [J a,J i] 72),(12,.aj [.ai 14 nb 1] 82),(13,.ay aM 2),(14,.ay bs 29),(15,cT z),(16,cR z)] 17
theorem auF(z nx ps np tr a i aM bs nb):Mv (hL z nx ps np tr a i aM bs nb) (hL1 z nx ps np tr a i aM bs nb) 1:=
 qz (l':=[(0,d_ z 15 2 3 4 5 6),(1,.bc []),(2,dg z),(3,df z),(4,cZ z),(5,dh z),(6,cR z),(7,.aj [.aa 0 0] 25),(8,iG nx ps np),(9,.aj [.ao tr] 4),(10,.aj [J 0] 27),(11,.aj [J a,J i] 72),(12,.aj [.ai 14 nb 1] 82),(13,.ay aM 2),(14,.ay bs 29)]) (by kernel_rfl) rfl rfl
theorem auG(z nx ps np tr a i aM bs nb):Mv (hL1 z nx ps np tr a i aM bs nb) (hL2 z nx ps np tr a i aM bs nb) 6:=
 qz (l':=[(0,d_ z 15 2 3 4 5 16),(1,.bc []),(2,dg z),(3,df z),(4,cZ z),(5,dh z),(6,.bc []),(7,.aj [.aa 0 0] 25),(8,iG nx ps np),(9,.aj [.ao tr] 4),(10,.aj [J 0] 27),(11,.aj [J a,J i] 72),(12,.aj [.ai 14 nb 1] 82),(13,.ay aM 2),(14,.ay bs 29),(15,cT z)]) (by kernel_rfl) rfl rfl
theorem al5{aM j g n}(hg:g<7)(hn:14<=n)(k a)(h:(AJ aM j).bT k=some a):eC (kW g n) a=some a:=by
 have hr:∀m,7<=m->m<14->kW g n m=some m:=λm hm h2=>by unfold kW;rw[az (by omega),az (by omega)]
 refine vC h ?_;intro x hx;simp at hx;rcases hx with rfl|rfl|rfl|rfl|rfl|rfl|rfl<;>first|rfl|simp[eC,hr]
theorem aCF{v H1 z nx l tr a i aM cW}(h:hZ mY Z 7 55 12 v H1 (AJ aM 0) (Dw z nx l tr a i aM cW) (aw Z 7 0)):
 hZ mY Z 7 55 12 v H1 (AJ aM 0) (hL z nx (fo l) l.length tr a i (aX aM) (lO cW) cW.length) (aw Z 7 0):=by
 refine XX ?_ (auF ..) (by kernel_rfl) (λk a h=>⟨a,h,al5 (by omega) (by show 14<=15;omega) k a h⟩) zF;refine XX ?_ (auG ..) (by kernel_rfl) (λk a h=>⟨a,h,al5 (by omega) (by show 14<=16;omega) k a h⟩) zF;exact cb.Jq (oh:=[7,8,10,12,13]) (l:=[3,4,6,10,33,34,35]) (ps:=[(0,0),(1,1),(2,2),(3,3),(4,4),(5,5),(6,6),(7,7),(8,8),(9,9),(10,10),(11,11),(12,12),(13,13),(15,14),(16,15),(14,16)]) (by kernel_rfl) (by kernel_rfl) (by kernel_rfl) h zF trivial
def ft(z:Ar)(tr:Bool)(l:List fu):S3:=tN (λst _ s=>jF tr st s) ⟨z,0,[],[]⟩ l
def pv(z:Ar)(tr:Bool)(l:List fu):S7:=((ft z tr l).aM.zip (ft z tr l).cW).foldl pr ⟨(ft z tr l).z,[],[]⟩
def FV(z:Ar)(tr:Bool)(l:List fu):S5:=oU (sH (pv z tr l).z l) l
def AN(z:Ar)(d:Db)(tr:Bool):Int×Ar:=if oj d=false then(1,z)else if(ft z tr d.gD).e≠0 then((ft z tr d.gD).e,z)else(0,(FV z tr d.gD).z)
structure Du(z:Ar):Prop where
 mw:z.mw=[]/\z.ng=0
 gG:z.gG=[]/\z.cc=0
 ret:z.ret=[]
 mI:z.mI=[]
 add:z.mP=[]/\z.na=0
structure DE(z:Ar)(d:Db)(tr:Bool):Prop where
 db:vG d
 ok:oj d=true->uK d.gD
 nd:oj d=true->(d.gD.map fC).Nodup
 yh:(ft z tr d.gD).e=0\/(ft z tr d.gD).e=1\/(ft z tr d.gD).e=2
 len:(ft z tr d.gD).aM.length=(ft z tr d.gD).cW.length/\(oj d=true->(ft z tr d.gD).aM.length<=3000000)
 VV:oj d=true->(ft z tr d.gD).e=0->∀b∈(ft z tr d.gD).cW,b≠[]/\b.length<=1000000
 tot:oj d=true->(ft z tr d.gD).e=0->sj ((ft z tr d.gD).aM.zip (ft z tr d.gD).cW)<=3000000
 all:oj d=true->(ft z tr d.gD).e=0->∀x∈(pv z tr d.gD).cm,lk x.1 (FV z tr d.gD).th=some true
theorem Nr(tr l z):∃a i,(ft z tr l).z={z with au:=a,id:=i}:=by
 refine KB (P:=λst:S3=>∃a i,st.z={z with au:=a,id:=i}) (λst p s h=>?_) ⟨z.au,z.id,rfl⟩;have⟨a,i,h⟩:=h;unfold jF;split
 .exact⟨a,i,h⟩
 .split
  .exact⟨a,i,h⟩
  .have⟨a2,i2,h2⟩:=aeC (ov s.c st.z.au tr).1 st.z s.id;exact⟨a2,i2,by show(mo st.z s.id (ov s.c st.z.au tr).1).1=_;rw[h2,h]⟩
def Qf(z:Ar)(nx:Int)(ps:LV)(np:Nat)(tr:Bool)(a i:Int):AH:=b_ z.X z.xc [(0,d_ z 1 2 3 4 5 6),(1,cT z),(2,dg z),(3,df z),(4,cZ z),(5,dh z),(6,cR z),(7,.aj [.aa 0 0] 25),(8,iG nx ps np),(9,.aj [.ao tr] 4),(10,.aj [J 0] 27),(11,.aj [J a,J i] 72),(12,.aj [.aJ] 35),(13,.aj [.aJ] 82)] 14
def agV(z:Ar)(nx:Int)(ps:LV)(np:Nat)(tr:Bool)(a i:Int):AH:=b_ z.X z.xc ([(0,d_ z 1 2 3 4 5 6),(1,cT z),(2,dg z),(3,df z),(4,cZ z),(5,dh z),(6,cR z),(7,.aj [.aa 0 0] 25),(8,iG nx ps np),(9,.aj [.ao tr] 4),(10,.aj [J 0] 27),(11,.aj [J a,J i] 72),(12,.aj [.ai 14 0 1] 35),(13,.aj [.aJ] 82)]++[(14,.ay [] 2)]) 15
theorem atg(z nx ps np tr a i):lL 12 (Qf z nx ps np tr a i) (agV z nx ps np tr a i) (λφ aQ=>aQ=φ):=
 IF (g:=12) rfl (λid=>by rcases id with _|_|_|_|_|_|_|_|_|_|_|_|_|_|id<;>rfl) rfl (λφ x hx=>(iS.xO (λφ x h=>qN h) (.oq _)) φ x hx) ⟨rfl,rfl⟩
theorem ath(z nx ps np tr a i):lL 12 (agV z nx ps np tr a i) (hUn z nx ps np tr 0 a i [] 0 [] 0) (λφ aQ=>aQ=φ):=
 IF (g:=13) (l':=[(0,d_ z 1 2 3 4 5 6),(1,cT z),(2,dg z),(3,df z),(4,cZ z),(5,dh z),(6,cR z),(7,.aj [.aa 0 0] 25),(8,iG nx ps np),(9,.aj [.ao tr] 4),(10,.aj [J 0] 27),(11,.aj [J a,J i] 72),(12,.aj [.ai 14 0 1] 35),(13,.aj [.ai 15 0 1] 82),(14,.ay [] 2)]) rfl (λid=>by rcases id with _|_|_|_|_|_|_|_|_|_|_|_|_|_|_|id<;>rfl) rfl (λφ x hx=>(iS.xO (λφ x h=>qN h) (.oq _)) φ x hx) ⟨rfl,rfl⟩
theorem amg{v H1 z nx l tr a i aH}(hz:z.gG=[])(zW:uK l)(u_:ft z tr l=aH)(he:aH.e≠0->cb Z 12 ⟨7,aB [(6,.aa 10 0)],55,[],mY,.iX,none,none⟩ (hU aH.z nx (fo l) l.length tr aH.e a i) (pX (fA v H1)))(h:aH.e=0->hZ mY Z 7 55 12 v H1 (AJ aH.aM 0) (Dw aH.z nx l tr a i aH.aM aH.cW) (aw Z 7 0)):
 hZ mY Z 7 55 12 v H1 (aB [(3,.aa 7 0),(4,.aa 8 0),(5,.aa 9 0),(6,.aa 10 0),(9,.aa 12 0),(10,.aa 13 0)]) (Qf z nx (fo l) l.length tr a i) (di Z Ff 7 1):=by
 refine HN ?_ (atg ..) (by kernel_rfl) zF;refine HN ?_ (ath ..) (by kernel_rfl) zF;refine Lp iO xU (aR:=Mm) (n:=1000) zF (by kernel_rfl) (λ_ _ h=>h) (λ_ _ _ h=>h) ?_;refine cast (@aBD z nx (fo l) l.length tr a i _ _ _).symm ?_;refine⟨⟨⟨z,0,[],[]⟩,tr,nx,l,aH⟩,⟨rfl,rfl,hz,⟨rfl,rfl⟩,zW,u_⟩,aD.2 ⟨λhb=>he (by simpa using hb),λhb=>?_⟩⟩;have h0:aH.e=0:=by simpa using hb
 simp only[h0];exact aCF (h h0)
structure Vl where
 z:Ar
 d:Db
 tr:Bool
 e:Int
 zf:Ar
def afT{W:Bool->Type}(e:xQ W)(h:e.cr)(ok:LV->AH->Bool):LV->AH->Option Sp:=λargs H=>bif ok args H then Hg e h args H else none
theorem anU{P S f0 W}{e:xQ W}{h1 ok}(hS:aU P S)(h:∀b w args H,e.bn b w args H->bZ P f0 args H (e.v b w) (e.aK b w))(cE:f0≠999999:=by first|assumption|decide):aU P (bR f0 (afT e h1 ok) S):=by
 refine xW hS λargs H sp p v H' hs hd hp=>?_
 have⟨_,hs⟩:=Kn hs;cases hs;simp only[sC]at hd;by_cases hw:∃p:(b:Bool)×W b,e.bn p.1 p.2 args H
 .rw[dif_pos hw]at hd;cases hd;exact h _ _ _ _ hp
 .rw[dif_neg hw]at hd;cases hd
def Qm(z z0:Ar):AH:=b_ z.X z.xc [(0,d_ z 7 2 3 8 5 9),(1,.bc []),(2,dg z),(3,df z),(4,cZ z0),(5,dh z),(6,.bc []),(7,cT z),(8,cZ z),(9,cR z)] 10
def amj:xQ (λ_=>Vl)where
 bn b w A H:=A=[.aa 0 0,.ah (lA w.d),.ao w.tr]/\H=hA w.z/\Du w.z/\DE w.z w.d w.tr/\AN w.z w.d w.tr=(w.e,w.zf)/\decide (w.e=0)=b
 v b w:=match b with|true=>J 0|false=>J w.e
 aK b w:=match b with|true=>Qm w.zf w.z|false=>hA w.z
theorem aCN:amj.cr:=by rintro b ⟨z,d,tr,e,zf⟩ b' ⟨z',d',FT,e',zf'⟩ A H ⟨h1,h2,_,_,q1,q3⟩ ⟨h3,h4,_,_,q2,q4⟩;have e1:=BE (h2.symm.trans h4);rw[h1]at h3;simp at h3;have e6:d=d':=Wp rfl (by rw[h3.1]);have e7:=h3.2;subst e1 e6 e7;rw[q1]at q2;cases q2;subst q3 q4;rfl
def UQ:Ev.bo:=bR 7 (afT amj aCN pO) Gk
theorem aCV(z tr l):(pv z tr l).z.eB=z.eB/\(pv z tr l).z.nc=z.nc:=by
 have⟨a,i,h⟩:=Nr tr l z;have:∀(x:List (Int×List fG)) (st:S7),(st.z.eB=z.eB/\st.z.nc=z.nc)->((x.foldl pr st).z.eB=z.eB/\(x.foldl pr st).z.nc=z.nc):=by
  intro x;induction x with
  |nil=>exact λst h=>h
  |cons y x ih=>exact λst h=>ih _ h
 exact this _ _ (by rw[h];exact⟨rfl,rfl⟩)
theorem aCE{v H1 z nx ps np tr a i}(h:hZ mY Z 7 55 12 v H1 (aB [(3,.aa 7 0),(4,.aa 8 0),(5,.aa 9 0),(6,.aa 10 0),(9,.aa 12 0),(10,.aa 13 0)]) (Qf z nx ps np tr a i) (di Z Ff 7 1)):
 cb Z 12 (fB mY none 7 55 tU (GC (di Z Aq 7 0))) (hU z nx ps np tr 0 a i) (pX (fA v H1)):=by
 refine Lp iO xU (aR:=Ff) (n:=1000) zF (by kernel_rfl) (λ_ _ h=>h) (λ_ _ _ h=>h) ?_;rw[aBC];exact h
theorem aCD{v H1 z nx ps np tr a i}(h:cb Z 12 (fB mY none 7 55 tU (GC (di Z Aq 7 0))) (hU z nx ps np tr 0 a i) (pX (fA v H1))):
 cb Z 7 (fB [] none 7 55 tU (di Z Aq 7 0)) (hU z nx ps np tr 0 a i) (pX (fA v H1)):=by
 refine cb.Bx iO (Bk iO 0) (λi wB H2 hi h=>?_) (apB z nx ps np tr a i) ?_
 .have:i=0:=by omega
  subst this;cases h;rfl
 exact cb.ZF (by omega) (by show(12:Nat)<=12;omega) h
theorem amh{v H1 z nx l tr}(hf:Du z)(XU:vG ⟨nx,l⟩)(zW:uK l)(hv:oj ⟨nx,l⟩=true)(h:hZ mY Z 7 55 12 v H1 (aB [(3,.aa 7 0),(4,.aa 8 0),(5,.aa 9 0),(6,.aa 10 0),(9,.aa 12 0),(10,.aa 13 0)]) (Qf z nx (fo l) l.length tr z.au z.id) (di Z Ff 7 1)):
 bZ Z 7 [.aa 0 0,.ah (lA ⟨nx,l⟩),.ao tr] (hA z) v H1:=by
 refine eS xU 1000 Aq 55 (by kernel_rfl) ?_;have h2:=aCD (aCE h);refine cast (@alR z nx (fo l) l.length tr _ _).symm ?_;refine⟨z,⟨rfl,rfl⟩,⟨nx,l⟩,⟨rfl,rfl,XU⟩,aD.2 ⟨λhb=>(by rw[hv]at hb;cases hb),λ_=>⟨⟨z,false,nx,l⟩,⟨rfl,rfl,hf.ret,zW⟩,aD.2 ⟨λhb=>(by cases hb),λ_=>?_⟩⟩⟩⟩;exact h2
theorem aCI{z nx l tr}(XU:vG ⟨nx,l⟩)(hv:oj ⟨nx,l⟩=false):bZ Z 7 [.aa 0 0,.ah (lA ⟨nx,l⟩),.ao tr] (hA z) (J 1) (hA z):=by refine eE 55 xU alR ?_;exact⟨z,⟨rfl,rfl⟩,⟨nx,l⟩,⟨rfl,rfl,XU⟩,aD.2 ⟨λ_=>⟨rfl,rfl⟩,λhb=>(by rw[hv]at hb;cases hb)⟩⟩
theorem aCG{z nx l tr}(hf:Du z)(ho:DE z ⟨nx,l⟩ tr)(hv:oj ⟨nx,l⟩=true)(he:(ft z tr l).e≠0):bZ Z 7 [.aa 0 0,.ah (lA ⟨nx,l⟩),.ao tr] (hA z) (J (ft z tr l).e) (hA z):=by
 have⟨a3,i3,ET⟩:=Nr tr l z;have asn:=ho.yh;have h1:bZ Z 7 [.aa 0 0,.ah (lA ⟨nx,l⟩),.ao tr] (hA z) (J (ft z tr l).e) (hU {(ft z tr l).z with au:=z.au,id:=z.id} nx (fo l) l.length tr (ft z tr l).e z.au z.id):=by refine amh hf ho.db (ho.ok hv) hv ?_;exact amg hf.gG.1 (ho.ok hv) rfl (λ_=>aCK (asn.resolve_left he)) (λh0=>absurd h0 he)
 have Ak:({(ft z tr l).z with au:=z.au,id:=z.id}:Ar)=z:=by rw[ET]
 rw[Ak]at h1;exact nh (ps:=[(0,0),(1,1),(2,2),(3,3),(4,4),(5,5),(6,6)]) h1 (by kernel_rfl) (by kernel_rfl)
theorem aCM{z nx l tr}(hf:Du z)(ho:DE z ⟨nx,l⟩ tr)(hv:oj ⟨nx,l⟩=true)(BI:(ft z tr l).e=0):bZ Z 7 [.aa 0 0,.ah (lA ⟨nx,l⟩),.ao tr] (hA z) (J 0) (Qm (FV z tr l).z z):=by
 have⟨a3,i3,ET⟩:=Nr tr l z;have bS:=ho.len;have nr:=ho.VV hv BI;have QQ:=ho.tot hv BI;have u7:=ho.all hv BI;have nY:=ho.nd hv;simp only at bS nr QQ u7 nY;have BL:wS 0 ⟨(ft z tr l).z,[],[]⟩:=by
  rw[ET];refine⟨hf.mI,⟨CI,λe h=>(by cases h),CI,λe h=>(by cases h),λe h=>(by cases h),λe h=>(by cases h),λe h=>(by cases h)⟩,⟨?_,?_⟩,⟨?_,?_⟩,hf.gG.1,hf.gG.2⟩
  .rw[hf.mw.1,hf.mw.2];rfl
  .rw[hf.mw.2];exact cM 0
  .rw[hf.add.1,hf.add.2];rfl
  .rw[hf.add.2];exact cM 0
 have hiF:=QY (l:=(ft z tr l).aM.zip (ft z tr l).cW) (λx hx=>(nr x.2 (List.of_mem_zip hx).2).1) BL;have h1:bZ Z 7 [.aa 0 0,.ah (lA ⟨nx,l⟩),.ao tr] (hA z) (J 0) (BF (FV z tr l).z (pv z tr l).z nx l tr z.au z.id):=by refine amh hf ho.db (ho.ok hv) hv ?_;refine amg hf.gG.1 (ho.ok hv) rfl (λh=>absurd BI h) (λ_=>?_);refine amf bS.1 (bS.2 hv) nr QQ BL ?_ (ft z tr l).aM.length 0 (by omega);exact aCH hiF nY (ho.ok hv) rfl u7 (aCJ ..)
 have H9:=aCV z tr l;generalize (FV z tr l).z=z5 at h1⊢;generalize (pv z tr l).z=z7 at h1 H9;have e:cZ z=cZ z7:=by rw[cZ,cZ,H9.1,H9.2]
 have h2:bZ Z 7 [.aa 0 0,.ah (lA ⟨nx,l⟩),.ao tr] (hA z) (J 0) (Qm z5 z7):=
  nh (ps:=[(0,0),(1,1),(2,2),(3,3),(4,4),(5,5),(6,6),(12,7),(13,8),(14,9)]) h1 (by kernel_rfl) (by kernel_rfl)
 rw[Qm,e];exact h2
theorem ac5:aU Z UQ:=by
 refine anU xU ?_;rintro b ⟨z,⟨nx,l⟩,tr,e,zf⟩ args H ⟨h1,h2,hf,ho,hr,hb⟩;simp only at h1 h2 hf ho hr hb;subst h1 h2;cases hv:oj ⟨nx,l⟩with
 |false=>rw[AN,aO hv]at hr;cases hr;cases hb;exact aCI ho.db hv
 |true=>
  rw[AN,az (by rw[hv];decide)]at hr;by_cases he:(ft z tr l).e≠0
  .rw[aO he]at hr;cases hr;rw[decide_eq_false he]at hb;subst hb;exact aCG hf ho hv he
  .rw[az he]at hr;cases hr;cases hb;exact aCM hf ho hv (CG.1 he)
def um(t:aI):Int×Int×LN×Int:=if eJ t=false then(0,0,[],0)else nD t.cq t.n t.cK t.bh.length
def Q6:cx aI where
 bn t A H:=A=[.ah (aW t)]/\H=an/\bL t
 v t:=.ah [J (um t).1,J (um t).2.1,.ab (um t).2.2.1,J (um t).2.2.2]
 aK t:=an
theorem atD:Q6.cr:=λt t' A H h1 h2=>by rw[w_ h1.1 h2.1]
def UR:Ev.bo:=bR 35 (ca Q6 atD cD) UQ
def vt:eK->Int×Int×LN×Int
 |[]=>(0,0,[],0)
 |t::_=>um t
def khX:cx nN where
 bn c A H:=A=[.ah (aW c.1++aW c.2)]/\H=an/\bL c.1
 v c:=.ah [J (vt c.1.bh).1,J (vt c.1.bh).2.1,.ab (vt c.1.bh).2.2.1,J (vt c.1.bh).2.2.2]
 aK c:=an
theorem aty:khX.cr:=by rintro c c' A H ⟨h1,_⟩ ⟨h2,_⟩;rw[h1]at h2;simp at h2;rw[A4 h2]
def Oq:Ev.bo:=bR 12 (ca khX aty cD) UR
def tV(i:Int)(l:List fG):Option fG:=l.find? λb=>b.id==i
structure NU where
 l:List fG
 i:Int
 b:fG
def PK:cx NU where
 bn w A H:=A=[.ai 0 w.l.length 9,J w.i]/\H=al [(0,.ay (e_ w.l) 44)] 1/\w.l.length<=4000000/\tV w.i w.l=some w.b
 v w:=.aC [.ah [J w.b.id,.ab w.b.aN.cL,J w.b.aN.ar,J w.b.aN.au,J w.b.iC.1,J w.b.iC.2.1,.ab w.b.iC.2.2.1,J w.b.iC.2.2.2,.ad (cJ w.b.gi) w.b.gi.length 6],.ao true]
 aK w:=al [(0,.ay (e_ w.l) 44)] 1
theorem aqS:PK.cr:=by rintro⟨l,i,b⟩ ⟨l',i',b'⟩ A H ⟨h1,h2,_,q1⟩ ⟨h3,h4,_,q2⟩;rw[h1]at h3;simp at h3;have h5:=congrArg (λH=>AH.bf H 0) (h2.symm.trans h4);replace h5:some (bk.ay (e_ l) 44)=some (bk.ay (e_ l') 44):=h5;simp at h5;have e1:=Pm h3.1 h5;have e2:=h3.2;subst e1 e2;rw[q1]at q2;cases q2;rfl
def UT:Ev.bo:=bR 11 (ca PK aqS cD) Oq
def Ar.nb(z:Ar):Ar:={z with mP:=[],na:=0}
def hBo(z:Ar):AH:=b_ z.X z.xc [(0,d_ z.nb 1 2 3 4 5 7),(1,cT z),(2,dg z),(3,df z),(4,cZ z),(5,dh z),(6,cR z),(7,.ay [] 44)] 8
def blX:cx Ar where
 bn z A H:=A=[.aa 0 0]/\H=hA z
 v z:=.ai 6 z.na 9
 aK z:=hBo z
theorem aoA:blX.cr:=λA A' _ _ h1 h2=>by rw[BE (h1.2.symm.trans h2.2)]
def UU:Ev.bo:=bR 8 (ca blX aoA pO) UT
structure Xr where
 X:Nat->Option bk
 xc:Nat
 n:Nat
 aM:LI
def xlX:cx Xr where
 bn w A H:=A=[.fF w.n w.aM.length 1]/\H=b_ w.X w.xc [] 0/\(w.aM≠[]->w.X w.n=some (.ay (aX w.aM) 2))/\w.aM.length<=4000000
 v w:=.ai 0 w.aM.length 1
 aK w:=b_ w.X w.xc [(0,.ay (aX w.aM) 2)] 1
theorem akH:∀{l m},aX l=aX m->l=m
 |[],[],_=>rfl
 |[],_::_,h=>by cases h
 |_::_,[],h=>by cases h
 |a::l,b::m,h=>by simp only[aX,gR,jn,AV.bU.injEq,true_and]at h;rw[h.1,akH h.2]
theorem ahS{X:Nat->Option bk}{n l m}(h1:l≠[]->X n=some (.ay (aX l) 2))(h2:m≠[]->X n=some (.ay (aX m) 2))(hl:l.length=m.length):l=m:=by
 by_cases hz:l=[]
 .subst hz;exact(mJ hl.symm).symm
 .have hm:m≠[]:=λh=>hz (by subst h;exact mJ hl)
  have:=(h1 hz).symm.trans (h2 hm);simp at this;exact akH this
theorem aDF:xlX.cr:=by rintro⟨X,c,n,aM⟩ ⟨X',c',n',yE⟩ A H ⟨h1,h2,k1,_⟩ ⟨h3,h4,k2,_⟩;simp only at h1 h2 h3 h4 k1 k2;have h7:=congrArg AH.x (h2.symm.trans h4);cases h7;rw[h1]at h3;simp at h3;obtain⟨rfl,e⟩:=h3;rw[ahS k1 k2 e]
def UX:Ev.bo:=bR 34 (ca xlX aDF pO) UU
def wW(m:List En)(p:cV):Nat×LI×Bool:=match fZ p m with|some e=>(if e.aM=[]then 0 else e.n,e.aM,true)|none=>(0,[],false)
def Ar.Fg(z:Ar)(p:cV):ES:=if p.au=0 then z.eB else z.mI
structure Ox where
 z:Ar
 m:List En
 p:cV
 n:Nat
 aM:LI
 b:Bool
def liX:cx Ox where
 bn w A H:=A=[.aa 0 0,.ah [.ab w.p.cL,J w.p.ar,J w.p.au]]/\H=hA w.z/\w.z.Fg w.p=gB w.m/\wW w.m w.p=(w.n,w.aM,w.b)/\(w.aM≠[]->w.z.X w.n=some (.ay (aX w.aM) 2))/\w.aM.length<=4000000
 v w:=.aC [.ai 7 w.aM.length 1,.ao w.b]
 aK w:=b_ w.z.X w.z.xc [(0,d_ w.z 1 2 3 4 5 6),(1,cT w.z),(2,dg w.z),(3,df w.z),(4,cZ w.z),(5,dh w.z),(6,cR w.z),(7,.ay (aX w.aM) 2)] 8
theorem ZC{m p}:It Z 39 35 1 (gB m) (.ah [.ab p.cL,J p.ar,J p.au])=some ((wW m p).1,(wW m p).2.1.length,(wW m p).2.2):=by
 have h:eT Z 39 35 (gB m) (.ah [.ab p.cL,J p.ar,J p.au])=_:=auj m p;unfold It wW;rw[h];cases fZ p m with
 |none=>rfl
 |some e=>
  have⟨q,n,aM,b⟩:=e;cases aM with
  |nil=>rfl
  |cons i l=>rfl
theorem at6:liX.cr:=by rintro⟨z,m,p,n,aM,b⟩ ⟨z',m',p',n',yE,b'⟩ A H ⟨h1,h2,k1,q1,x1,_⟩ ⟨h3,h4,k2,q2,x2,_⟩;have e1:=BE (h2.symm.trans h4);rw[h1]at h3;subst e1;have⟨a,c,d⟩:=p;have⟨a',c',d'⟩:=p';simp at h3;obtain⟨rfl,rfl,rfl⟩:=h3;have e2:=ZC (m:=m) (p:=⟨a,c,d⟩);have e3:=ZC (m:=m') (p:=⟨a,c,d⟩);rw[q1,<-k1]at e2;rw[q2,<-k2]at e3;have e4:=e2.symm.trans e3;simp at e4;obtain⟨rfl,e5,rfl⟩:=e4;have e6:=ahS x1 x2 e5;subst e6;rfl
def K64:Ev.bo:=bR 10 (ca liX at6 pO) UX
def aiL:Nat->LN:=fT [(2,[0,1,4,6])]
theorem aAX{k n s cs len L Q}:
 bI Z UQ (λ_=>[]) L Q 1000 35 [.ah [J k,J n,.ab s,.ad cs len 4]] an=(
 (al [] 0=an/\kU [J k,J n,.ab s,.ad cs len 4])/\aq (!ig eJ [J k,J n,.ab s,.ad cs len 4]) (Q (.ah [J 0,J 0,.ab [],J 0]) an) (aq (k==1) (Q (.ah [J 1,J n,.ab [],J 0]) an) (aq (k==2) (Q (.ah [J 2,J 0,.ab s,J 0]) an) (aq (k==3) (Q (.ah [J 3,J 0,.ab s,J (aE len)]) an) (Q (.ah [J 0,J 0,.ab [],J 0]) an))))):=by kernel_rfl
theorem aAl{k n s cs len k' n' s' cs' cB L Q}:
 bI Z UR (λ_=>[]) L Q 1000 12 [.ah [J k,J n,.ab s,.ad cs len 4,J k',J n',.ab s',.ad cs' cB 4]] an=(
 aq (aE len==0) (Q (.ah [J 0,J 0,.ab [],J 0]) an) (0<len/\(∃aP:Int,∃bA:Int,∃cn:LN,∃bP:LV,∃bH:Nat,((cs.drop 0).take 4:List AV)=[J aP,J bA,.ab cn,.ad bP bH 4]/\(∃w:aI,(([.ah [J aP,J bA,.ab cn,.ad bP bH 4]]:LV)=[.ah (aW w)]/\al [] 0=an/\bL w)/\Q (.ah [J (um w).1,J (um w).2.1,.ab (um w).2.2.1,J (um w).2.2.2]) an)))):=by kernel_rfl
theorem aAj{bs nb i L Q}:
 bI Z Oq aiL L Q 1000 11 [.ai 0 nb 9,J i] (al [(0,.ay bs 44)] 1)=(
 L (aB [(0,.ai 0 nb 9),(1,J i),(4,.aa 1 0),(6,J 0)]) (al [(0,.ay bs 44),(1,zx)] 2) (aw Z 11 0)):=by kernel_rfl
theorem aAk{bs nb i j L Q}:
 ck Z Oq aiL L Q 1000 11 1 (aB [(0,.ai 0 nb 9),(1,J i),(4,.aa 1 0),(6,J j)]) (aw Z 11 0) (al [(0,.ay bs 44),(1,zx)] 2)=(
 aq (decide (j<aE nb)) (∃aL:Nat,j=(aL:Int)/\aL<nb/\(∃n:Int,cw Z 2 bs (aL*9+0)=some (J n:AV)/\aq (n==i) (∃cG:Nat,j=(cG:Int)/\cG<nb/\(∃aP:Int,∃s:LN,∃bA:Int,∃cf:Int,∃dc:Int,∃iP:Int,∃cn:LN,∃oC:Int,∃cs:LV,∃len:Nat,cw Z 44 bs (cG*9)=some (.ah [J aP,.ab s,J bA,J cf,J dc,J iP,.ab cn,J oC,.ad cs len 6]:AV)/\Q (.aC [.ah [J aP,.ab s,J bA,J cf,J dc,J iP,.ab cn,J oC,.ad cs len 6],.ao true]) (al [(0,.ay bs 44)] 1))) (L (aB [(0,.ai 0 nb 9),(1,J i),(4,.aa 1 0),(6,J (wI (j+1)))]) (al [(0,.ay bs 44),(1,zx)] 2) (aw Z 11 0)))) (Q (.aC [.ah [J 0,.ab [],J 0,J 0,J 0,J 0,.ab [],J 0,.aJ],.ao false]) (al [(0,.ay bs 44)] 1))):=by kernel_rfl
theorem aBP{z L Q}:
 bI Z UT (λ_=>[]) L Q 1000 8 [.aa 0 0] (hA z)=(
 ∃w:Ar,(([.aa 0 0]:LV)=[.aa 0 0]/\hA z=hA w)/\Q (.ai 6 w.na 9) (b_ w.X w.xc [(0,.aj [J w.au,J w.id,.ai 1 w.ng 1,.aA 2,.aA 3,.aA 4,.aA 5,.aJ,.aJ] 78),(1,cT w),(2,dg w),(3,df w),(4,cZ w),(5,dh w),(6,cR w)] 7)):=by kernel_rfl
theorem alD{x xc n len L Q}:
 bI Z UU (λ_=>[]) L Q 1000 34 [.fF n len 1] (b_ x xc [] 0)=(
 aq (Nat.beq len 0) (Q .aJ (b_ x xc [] 0)) (∃vs:LV,F1 (b_ x xc [] 0) n len 1 vs/\(len=0->0<=4194304/\Q (.bq 0 0 0 0 1 true) (b_ x xc [(0,.aj [] 2)] 1))/\(1<=len->(0<=0/\0+len<=4194304/\(List.all vs AV.cX=true/\List.all vs eG=true)/\(true=true/\true=true)/\true=true/\0<=0)/\Q (.ai 0 (0+len) 1) (b_ x xc [(0,.ay ([]++vs) 2)] 1)))):=by kernel_rfl
theorem azR{z nm ar au L Q}:
 bI Z UX (λ_=>[]) L Q 1000 10 [.aa 0 0,.ah [.ab nm,J ar,J au]] (hA z)=(
 ∃w:Ar,(([.aa 0 0]:LV)=[.aa 0 0]/\hA z=hA w)/\aq (au==0) (∃n:Nat,∃len:Nat,∃b:Bool,It Z 39 35 1 w.eB (.ah [.ab nm,J ar,J au])=some (n,(len,b))/\(∃ae:Xr,(([.fF n len 1]:LV)=[.fF ae.n ae.aM.length 1]/\b_ w.X w.xc [] 0=b_ ae.X ae.xc [] 0/\(ae.aM≠[]->ae.X ae.n=some (Go.Ev.bk.ay (aX ae.aM) 2))/\ae.aM.length<=4000000)/\Q (.aC [.ai 7 ae.aM.length 1,.ao b]) (b_ ae.X ae.xc [(0,d_ w 1 2 3 4 5 6),(1,cT w),(2,dg w),(3,df w),(4,cZ w),(5,dh w),(6,cR w),(7,bK ae.aM 2)] 8))) (∃n:Nat,∃len:Nat,∃b:Bool,It Z 39 35 1 w.mI (.ah [.ab nm,J ar,J au])=some (n,(len,b))/\(∃ae:Xr,(([.fF n len 1]:LV)=[.fF ae.n ae.aM.length 1]/\b_ w.X w.xc [] 0=b_ ae.X ae.xc [] 0/\(ae.aM≠[]->ae.X ae.n=some (Go.Ev.bk.ay (aX ae.aM) 2))/\ae.aM.length<=4000000)/\Q (.aC [.ai 7 ae.aM.length 1,.ao b]) (b_ ae.X ae.xc [(0,d_ w 1 2 3 4 5 6),(1,cT w),(2,dg w),(3,df w),(4,cZ w),(5,dh w),(6,cR w),(7,bK ae.aM 2)] 8)))):=by kernel_rfl
theorem ac6:aU Z UR:=by
 refine cA ac5 ?_;rintro⟨k,n,s,l⟩ args H ⟨rfl,rfl,ho⟩;refine eE 28 ac5 aAX ?_;have hd:ig eJ [J k,J n,.ab s,.ad (aF l) l.length 4]=eJ (.mk k n s l):=DO eJ (.mk k n s l);rw[hd];have hk:um (.mk k n s l)=if eJ (.mk k n s l)=false then(0,0,[],0)else nD k n s l.length:=rfl
 refine⟨⟨rfl,mE ho⟩,aD.2 ⟨λh=>?_,λh=>?_⟩⟩
 .have h1:um (.mk k n s l)=(0,0,[],0):=by rw[hk,aO (by simpa using h)]
  simp only[Q6,h1];exact⟨rfl,rfl⟩
 .have h1:um (.mk k n s l)=nD k n s l.length:=by rw[hk,az (by simpa using h)]
  simp only[Q6,h1,nD];refine aD.2 ⟨λh=>?_,λh=>aD.2 ⟨λh2=>?_,λh2=>aD.2 ⟨λh3=>?_,λh3=>?_⟩⟩⟩
  .rw[aO (by simpa using h)];exact⟨rfl,rfl⟩
  .rw[az (by simpa using h),aO (by simpa using h2)];exact⟨rfl,rfl⟩
  .rw[az (by simpa using h),az (by simpa using h2),aO (by simpa using h3)];exact⟨rfl,rfl⟩
  .rw[az (by simpa using h),az (by simpa using h2),az (by simpa using h3)];exact⟨rfl,rfl⟩
theorem US:aU Z Oq:=by
 refine cA ac6 ?_;rintro⟨⟨k,n,s,l⟩,⟨k',n',s',l'⟩⟩ args H ⟨rfl,rfl,ho⟩;refine eE 15 ac6 aAl ?_;cases l with
 |nil=>exact aD.2 ⟨λ_=>⟨rfl,rfl⟩,λh=>by cases h⟩
 |cons t ts=>have hot:=ho.2.2.1;have⟨k1,n1,s1,l1⟩:=t;refine aD.2 ⟨λh=>absurd (beq_iff_eq.1 h) (by simp;omega),λ_=>⟨Nat.succ_pos _,k1,n1,s1,aF l1,l1.length,rfl,.mk k1 n1 s1 l1,⟨rfl,rfl,hot⟩,rfl,rfl⟩⟩
theorem avm(cs off):cw Z 44 cs off=(Ev.oi cs off 9).map .ah:=by kernel_rfl
theorem aoB{l j}(h:j<l.length):cw Z 2 (e_ l) (j*9+0)=some (J l[j].id):=by
 have h1:=KC h;rw[MK,<-tf];have h2:(((e_ l).drop (j*9)).take 9)[0]? =some (J l[j].id):=by rw[h1];rfl
 rw[Ft]at h2;simpa using h2
theorem aoC{l j}(h:j<l.length):cw Z 44 (e_ l) (j*9)=some (.ah (tO l[j])):=by have h1:=KC h;rw[avm];unfold Ev.oi;rw[h1];rfl
theorem ac7:aU Z UT:=by
 refine cA US ?_;rintro⟨l,i,b⟩ args H ⟨rfl,rfl,hl,hf⟩;simp only at hl hf;refine eE 25 US aAj ?_;have key:∀n j:Nat,n+j=l.length->tV i (l.drop j)=some b->
  br Z 11 25 1 (PK.v ⟨l,i,b⟩) (PK.aK ⟨l,i,b⟩) (aB [(0,.ai 0 l.length 9),(1,J i),(4,.aa 1 0),(6,J (j:Int))]) (al [(0,.ay (e_ l) 44),(1,zx)] 2) (aw Z 11 0):=by
  intro n;induction n with
  |zero=>intro j h hf;rw[List.drop_of_length_le (by omega)]at hf;cases hf
  |succ n ih=>
   intro j h hf;have hj:j<l.length:=by omega
   refine hE US aAk ?_;have h1:=aoB hj;have h2:=aoC hj;rw[List.drop_eq_getElem_cons hj]at hf;simp only[tV,List.find?_cons]at hf;generalize l[j]=bj at h1 h2 hf;refine aD.2 ⟨λ_=>⟨j,rfl,hj,bj.id,h1,aD.2 ⟨λhe=>?_,λhe=>?_⟩⟩,λhn=>absurd (ez hn) (by simp;omega)⟩
   .rw[he]at hf;cases hf;exact⟨j,rfl,hj,_,_,_,_,_,_,_,_,_,_,h2,rfl,rfl⟩
   .rw[he]at hf;rw[cO (by omega) (by omega)];exact ih (j+1) (by omega) hf
 exact key l.length 0 (by omega) hf
theorem UW:aU Z UU:=by
 refine cA ac7 ?_;rintro z args H ⟨rfl,rfl⟩;have h1:bZ Z 8 [.aa 0 0] (hA z) (.ai 6 z.na 9) (b_ z.X z.xc [(0,.aj [J z.au,J z.id,.ai 1 z.ng 1,.aA 2,.aA 3,.aA 4,.aA 5,.aJ,.aJ] 78),(1,cT z),(2,dg z),(3,df z),(4,cZ z),(5,dh z),(6,cR z)] 7):=by refine eE 13 ac7 aBP ?_;exact⟨z,⟨rfl,rfl⟩,rfl,rfl⟩
 exact G_ h1 (IF (g:=0) (l':=[(0,d_ z.nb 1 2 3 4 5 7),(1,cT z),(2,dg z),(3,df z),(4,cZ z),(5,dh z),(6,cR z)]) rfl (λid=>by rcases id with _|_|_|_|_|_|_|id<;>rfl) rfl (λφ x hx=>(iS.fE (.fE (.fE (.fE (.fE (.fE (.fE (iS.xO (λφ x h=>qN h) (.oq _))))))))) φ x hx) ⟨rfl,rfl⟩) (cM _)
theorem awe(l):(aX l).all AV.cX=true/\(aX l).all eG=true:=
 ⟨lZ.2 (λx hx=>by obtain⟨i,_,rfl⟩:=nJ.1 hx;rfl),lZ.2 (λx hx=>by obtain⟨i,_,rfl⟩:=nJ.1 hx;rfl)⟩
theorem ac8:aU Z UX:=by
 refine cA UW ?_;rintro⟨X,c,n,aM⟩ args H ⟨rfl,rfl,hx,hl⟩;simp only at hx hl;cases aM with
 |nil=>refine Py (l:=[]) ?_ rfl (cM _);refine eE 8 UW alD ?_;exact aD.2 ⟨λ_=>⟨rfl,rfl⟩,λh=>by cases h⟩
 |cons i l=>
  have h1:=hx (by simp);refine eE 8 UW (@alD X c n (i::l).length _ _) ?_;have bS:(aX (i::l)).length=(i::l).length*1:=by rw[aX,og,oI]
  refine aD.2 ⟨λh=>(by cases h),λ_=>⟨aX (i::l),.inr ⟨by simp,2,h1,bS⟩,λh=>absurd h (by simp),λ_=>⟨⟨cM 0,by omega,awe _,⟨rfl,rfl⟩,rfl,cM 0⟩,?_⟩⟩⟩;rw[ki];exact⟨rfl,rfl⟩
theorem ann:aU Z K64:=by
 refine cA ac8 ?_;rintro⟨z,m,⟨nm,ar,au⟩,n,aM,b⟩ args H ⟨rfl,rfl,hm,Ab,hx,hl⟩;refine eE 32 ac8 azR ?_;have Aa:=ZC (m:=m) (p:=⟨nm,ar,au⟩);rw[Ab,<-hm]at Aa;refine⟨z,⟨rfl,rfl⟩,aD.2 ⟨λha=>?_,λha=>?_⟩⟩
 .rw[Ar.Fg,aO (by simpa using ha)]at Aa;exact⟨n,aM.length,b,Aa,⟨z.X,z.xc,n,aM⟩,⟨rfl,rfl,hx,hl⟩,rfl,rfl⟩
 .rw[Ar.Fg,az (by simpa using ha)]at Aa;exact⟨n,aM.length,b,Aa,⟨z.X,z.xc,n,aM⟩,⟨rfl,rfl,hx,hl⟩,rfl,rfl⟩
def egX:cx Unit where
 bn w A H:=A=[]/\H=an
 v w:=.ao true
 aK w:=an
theorem ap5:egX.cr:=λ_ _ _ _ _ _=>rfl
def tE:Ev.bo:=bR 9 (ca egX ap5 cD) K64
def Mh:Nat->LN:=fT [(6,[2,5,6,7]),(13,[2,5,6,7,8,9,11]),(19,[5,6,14]),(22,[5,6,14,15])]
def h6(z:Ar)(nx:Int)(ps:LV)(np:Nat):AH:=b_ z.X z.xc [(0,iG nx ps np),(1,d_ z.nb 3 4 5 6 7 8),(2,cR z),(3,cT z),(4,dg z),(5,df z),(6,cZ z),(7,dh z),(8,.ay [] 44)] 9
def tX(z:Ar):AH:=b_ z.X z.xc [(0,d_ z.nb 2 3 4 5 6 7),(1,cR z),(2,cT z),(3,dg z),(4,df z),(5,cZ z),(6,dh z),(7,.ay [] 44)] 8
def h13(z:Ar)(nx:Int)(ps:LV)(np:Nat)(s:LN)(n:Int)(b:Bool)(cs:LV)(len:Nat)(aM:LI):AH:=b_ z.X z.xc [(0,iG nx ps np),(1,d_ z.nb 5 6 7 8 9 10),(2,cR z),(3,ru s n b cs len),(4,bK aM 2),(5,cT z),(6,dg z),(7,df z),(8,cZ z),(9,dh z),(10,.ay [] 44)] 11
theorem alG{x xc nx ps np tr L Q}:
 bI Z tE Mh L Q 1000 3 [.ah [J nx,.ad ps np 4],.ao tr] (b_ x xc [] 0)=(
 ∃w:(Nat->Option bk)×Nat,(([]:LV)=[]/\b_ x xc [] 0=b_ w.1 w.2 [] 0)/\(∃b,aq b (∃ae:Vl,(([.aa 0 0,.ah [J nx,.ad ps np 4],.ao tr]:LV)=[.aa 0 0,.ah (lA ae.d),.ao ae.tr]/\b_ (fj w.1 w.2).X (fj w.1 w.2).xc [(0,.aj [J (fj w.1 w.2).au,J (fj w.1 w.2).id,.ai 1 0 1,.aA 2,.aA 3,.aA 4,.aA 5,.ai 6 0 9,.aJ] 78),(1,.ay [] 83),(2,.bm [] 0 true),(3,.bm [] 0 true),(4,.bm [] 0 true),(5,.bm [] 0 true),(6,.ay [] 44)] 7=hA ae.z/\Du ae.z/\DE ae.z ae.d ae.tr/\AN ae.z ae.d ae.tr=Prod.mk ae.e ae.zf/\decide (ae.e=0)=true)/\(∃aS,(([.aa 0 0]:LV)=[.aa 0 0]/\hA ae.zf=hA aS)/\L (aB [(2,.aa 0 0),(5,.aa 1 0),(6,.ai 2 aS.na 9),(7,J 0)]) (b_ aS.X aS.xc [(0,iG nx ps np),(1,.aj [J aS.nb.au,J aS.nb.id,.ai 3 aS.nb.ng 1,.aA 4,.aA 5,.aA 6,.aA 7,.ai 8 0 9,.aJ] 78),(2,cR aS),(3,cT aS),(4,dg aS),(5,df aS),(6,cZ aS),(7,dh aS),(8,.ay [] 44)] 9) (aw Z 3 0))) (∃ae:Vl,(([.aa 0 0,.ah [J nx,.ad ps np 4],.ao tr]:LV)=[.aa 0 0,.ah (lA ae.d),.ao ae.tr]/\b_ (fj w.1 w.2).X (fj w.1 w.2).xc [(0,.aj [J (fj w.1 w.2).au,J (fj w.1 w.2).id,.ai 1 0 1,.aA 2,.aA 3,.aA 4,.aA 5,.ai 6 0 9,.aJ] 78),(1,.ay [] 83),(2,.bm [] 0 true),(3,.bm [] 0 true),(4,.bm [] 0 true),(5,.bm [] 0 true),(6,.ay [] 44)] 7=hA ae.z/\Du ae.z/\DE ae.z ae.d ae.tr/\AN ae.z ae.d ae.tr=Prod.mk ae.e ae.zf/\decide (ae.e=0)=false)/\aq (ae.e !=0) (∃aS,(([.aa 0 0]:LV)=[.aa 0 0]/\hA ae.z=hA aS)/\aq (aE aS.na==0) (∃c_:Unit,(([]:LV)=[]/\al [] 0=an)/\Q (.ao true) (b_ aS.X aS.xc [] 0)) (Q (.ao false) (b_ aS.X aS.xc [] 0))) (∃aS,(([.aa 0 0]:LV)=[.aa 0 0]/\hA ae.z=hA aS)/\L (aB [(2,.aa 0 0),(5,.aa 1 0),(6,.ai 2 aS.na 9),(7,J 0)]) (b_ aS.X aS.xc [(0,iG nx ps np),(1,.aj [J aS.nb.au,J aS.nb.id,.ai 3 aS.nb.ng 1,.aA 4,.aA 5,.aA 6,.aA 7,.ai 8 0 9,.aJ] 78),(2,cR aS),(3,cT aS),(4,dg aS),(5,df aS),(6,cZ aS),(7,dh aS),(8,.ay [] 44)] 9) (aw Z 3 0))))):=by kernel_rfl
theorem alH{z nx ps np i L Q}:
 ck Z tE Mh L Q 1000 3 0 (aB [(2,.aa 0 0),(5,.aa 1 0),(6,.ai 2 z.na 9),(7,J i)]) (aw Z 3 0) (h6 z nx ps np)=(
 aq (decide (i<aE np)) (∃aL:Nat,i=(aL:Int)/\aL<np/\(∃s n b cs len,((ps.drop (aL*4)).take 4:List AV)=[.ab s,J n,.ao b,.ad cs len 9]/\(∃w:Ox,(([.aa 0 0,.ah [.ab s,J n,J 0]]:LV)=[.aa 0 0,.ah [.ab w.p.cL,J w.p.ar,J w.p.au]]/\b_ z.X z.xc [(0,.aj [J z.nb.au,J z.nb.id,.ai 1 z.nb.ng 1,.aA 2,.aA 3,.aA 4,.aA 5,.ai 6 0 9,.aJ] 78),(1,cT z),(2,dg z),(3,df z),(4,cZ z),(5,dh z),(6,.ay [] 44)] 7=hA w.z/\w.z.Fg w.p=gB w.m/\wW w.m w.p=Prod.mk w.n (Prod.mk w.aM w.b)/\(w.aM≠[]->w.z.X w.n=some (Go.Ev.bk.ay (aX w.aM) 2))/\w.aM.length<=4000000)/\aq (!w.b) (Q (.ao false) (b_ w.z.X w.z.xc [] 0)) (aq (aE w.aM.length !=aE len) (Q (.ao false) (b_ w.z.X w.z.xc [] 0)) (L (aB [(2,.aa 0 0),(5,.aa 1 0),(6,.ai 2 z.na 9),(7,J i),(8,.aa 3 0),(9,.ai 4 w.aM.length 1),(11,J 0)]) (b_ w.z.X w.z.xc [(0,iG nx ps np),(1,d_ w.z 5 6 7 8 9 10),(2,cR z),(3,ru s n b cs len),(4,bK w.aM 2),(5,cT w.z),(6,dg w.z),(7,df w.z),(8,cZ w.z),(9,dh w.z),(10,cR w.z)] 11) (aw Z 3 1)))))) (L (aB [(5,.aa 0 0),(6,.ai 1 z.na 9),(14,J 0)]) (b_ z.X z.xc [(0,.aj [J z.nb.au,J z.nb.id,.ai 2 z.nb.ng 1,.aA 3,.aA 4,.aA 5,.aA 6,.ai 7 0 9,.aJ] 78),(1,cR z),(2,cT z),(3,dg z),(4,df z),(5,cZ z),(6,dh z),(7,.ay [] 44)] 8) (aw Z 3 2))):=by kernel_rfl
theorem alE{z i L Q}:
 ck Z tE Mh L Q 1000 3 0 (aB [(5,.aa 0 0),(6,.ai 1 z.na 9),(14,J i)]) (aw Z 3 2) (tX z)=(
 aq (decide (i<aE z.na)) (L (aB [(5,.aa 0 0),(6,.ai 1 z.na 9),(14,J i),(15,J 0)]) (b_ z.X z.xc [(0,.aj [J z.nb.au,J z.nb.id,.ai 2 z.nb.ng 1,.aA 3,.aA 4,.aA 5,.aA 6,.ai 7 0 9,.aJ] 78),(1,cR z),(2,cT z),(3,dg z),(4,df z),(5,cZ z),(6,dh z),(7,.ay [] 44)] 8) (aw Z 3 3)) (∃w:Unit,(([]:LV)=[]/\al [] 0=an)/\Q (.ao true) (b_ z.X z.xc [] 0))):=by kernel_rfl
theorem alF{z i j L Q}:
 ck Z tE Mh L Q 1000 3 0 (aB [(5,.aa 0 0),(6,.ai 1 z.na 9),(14,J i),(15,J j)]) (aw Z 3 3) (tX z)=(
 ∃aL:Nat,i=(aL:Int)/\aL<z.na/\(∃cs len,cw Z 42 z.mP (aL*9+8)=some (.ad cs len 6:AV)/\aq (decide (j<aE len)) (∃cG:Nat,i=(cG:Int)/\cG<z.na/\(∃bP bH,cw Z 42 z.mP (cG*9+8)=some (.ad bP bH 6:AV)/\(∃dO:Nat,j=(dO:Int)/\dO<bH/\(∃n aP bA cf s dc,((bP.drop (dO*6)).take 6:List AV)=[J n,J aP,J bA,J cf,.ab s,J dc]/\aq (n !=19) (aq (n !=20) (L (aB [(5,.aa 0 0),(6,.ai 1 z.na 9),(14,J i),(15,J (wI (j+1)))]) (b_ z.X z.xc [(0,.aj [J z.nb.au,J z.nb.id,.ai 2 z.nb.ng 1,.aA 3,.aA 4,.aA 5,.aA 6,.ai 7 0 9,.aJ] 78),(1,cR z),(2,cT z),(3,dg z),(4,df z),(5,cZ z),(6,dh z),(7,.ay [] 44)] 8) (aw Z 3 3)) (aq (cf==0) (L (aB [(5,.aa 0 0),(6,.ai 1 z.na 9),(14,J i),(15,J (wI (j+1)))]) (b_ z.X z.xc [(0,.aj [J z.nb.au,J z.nb.id,.ai 2 z.nb.ng 1,.aA 3,.aA 4,.aA 5,.aA 6,.ai 7 0 9,.aJ] 78),(1,cR z),(2,cT z),(3,dg z),(4,df z),(5,cZ z),(6,dh z),(7,.ay [] 44)] 8) (aw Z 3 3)) (aq (cf==1099511627776) (L (aB [(5,.aa 0 0),(6,.ai 1 z.na 9),(14,J i),(15,J (wI (j+1)))]) (b_ z.X z.xc [(0,.aj [J z.nb.au,J z.nb.id,.ai 2 z.nb.ng 1,.aA 3,.aA 4,.aA 5,.aA 6,.ai 7 0 9,.aJ] 78),(1,cR z),(2,cT z),(3,dg z),(4,df z),(5,cZ z),(6,dh z),(7,.ay [] 44)] 8) (aw Z 3 3)) (aq (cf==1099511627775) (L (aB [(5,.aa 0 0),(6,.ai 1 z.na 9),(14,J i),(15,J (wI (j+1)))]) (b_ z.X z.xc [(0,.aj [J z.nb.au,J z.nb.id,.ai 2 z.nb.ng 1,.aA 3,.aA 4,.aA 5,.aA 6,.ai 7 0 9,.aJ] 78),(1,cR z),(2,cT z),(3,dg z),(4,df z),(5,cZ z),(6,dh z),(7,.ay [] 44)] 8) (aw Z 3 3)) (∃w:Ox,(([.aa 0 0,.ah [.ab [],J dc,J cf]]:LV)=[.aa 0 0,.ah [.ab w.p.cL,J w.p.ar,J w.p.au]]/\b_ z.X z.xc [(0,.aj [J z.nb.au,J z.nb.id,.ai 1 z.nb.ng 1,.aA 2,.aA 3,.aA 4,.aA 5,.ai 6 0 9,.aJ] 78),(1,cT z),(2,dg z),(3,df z),(4,cZ z),(5,dh z),(6,.ay [] 44)] 7=hA w.z/\w.z.Fg w.p=gB w.m/\wW w.m w.p=Prod.mk w.n (Prod.mk w.aM w.b)/\(w.aM≠[]->w.z.X w.n=some (Go.Ev.bk.ay (aX w.aM) 2))/\w.aM.length<=4000000)/\aq (!w.b) (Q (.ao false) (b_ w.z.X w.z.xc [] 0)) (aq (decide (aE w.aM.length<1)) (Q (.ao false) (b_ w.z.X w.z.xc [] 0)) (aq (decide (aE w.aM.length>2)) (Q (.ao false) (b_ w.z.X w.z.xc [] 0)) (0<w.aM.length/\(∃iP,cw Z 2 (aX w.aM) 0=some (J iP:AV)/\(∃ae:NU,(([.ai 0 z.na 9,J iP]:LV)=[.ai 0 ae.l.length 9,J ae.i]/\al [(0,cR z)] 1=al [(0,.ay (e_ ae.l) 44)] 1/\ae.l.length<=4000000/\tV ae.i ae.l=some ae.b)/\L (aB [(5,.aa 0 0),(6,.ai 1 z.na 9),(14,J i),(15,J (wI (j+1)))]) (oy w.z (.ay (e_ ae.l) 44)) (aw Z 3 3))))))))))) (aq (cf==0) (L (aB [(5,.aa 0 0),(6,.ai 1 z.na 9),(14,J i),(15,J (wI (j+1)))]) (b_ z.X z.xc [(0,.aj [J z.nb.au,J z.nb.id,.ai 2 z.nb.ng 1,.aA 3,.aA 4,.aA 5,.aA 6,.ai 7 0 9,.aJ] 78),(1,cR z),(2,cT z),(3,dg z),(4,df z),(5,cZ z),(6,dh z),(7,.ay [] 44)] 8) (aw Z 3 3)) (aq (cf==1099511627776) (L (aB [(5,.aa 0 0),(6,.ai 1 z.na 9),(14,J i),(15,J (wI (j+1)))]) (b_ z.X z.xc [(0,.aj [J z.nb.au,J z.nb.id,.ai 2 z.nb.ng 1,.aA 3,.aA 4,.aA 5,.aA 6,.ai 7 0 9,.aJ] 78),(1,cR z),(2,cT z),(3,dg z),(4,df z),(5,cZ z),(6,dh z),(7,.ay [] 44)] 8) (aw Z 3 3)) (aq (cf==1099511627775) (L (aB [(5,.aa 0 0),(6,.ai 1 z.na 9),(14,J i),(15,J (wI (j+1)))]) (b_ z.X z.xc [(0,.aj [J z.nb.au,J z.nb.id,.ai 2 z.nb.ng 1,.aA 3,.aA 4,.aA 5,.aA 6,.ai 7 0 9,.aJ] 78),(1,cR z),(2,cT z),(3,dg z),(4,df z),(5,cZ z),(6,dh z),(7,.ay [] 44)] 8) (aw Z 3 3)) (∃w:Ox,(([.aa 0 0,.ah [.ab [],J dc,J cf]]:LV)=[.aa 0 0,.ah [.ab w.p.cL,J w.p.ar,J w.p.au]]/\b_ z.X z.xc [(0,.aj [J z.nb.au,J z.nb.id,.ai 1 z.nb.ng 1,.aA 2,.aA 3,.aA 4,.aA 5,.ai 6 0 9,.aJ] 78),(1,cT z),(2,dg z),(3,df z),(4,cZ z),(5,dh z),(6,.ay [] 44)] 7=hA w.z/\w.z.Fg w.p=gB w.m/\wW w.m w.p=Prod.mk w.n (Prod.mk w.aM w.b)/\(w.aM≠[]->w.z.X w.n=some (Go.Ev.bk.ay (aX w.aM) 2))/\w.aM.length<=4000000)/\aq (!w.b) (Q (.ao false) (b_ w.z.X w.z.xc [] 0)) (aq (decide (aE w.aM.length<1)) (Q (.ao false) (b_ w.z.X w.z.xc [] 0)) (aq (decide (aE w.aM.length>2)) (Q (.ao false) (b_ w.z.X w.z.xc [] 0)) (0<w.aM.length/\(∃iP,cw Z 2 (aX w.aM) 0=some (J iP:AV)/\(∃ae:NU,(([.ai 0 z.na 9,J iP]:LV)=[.ai 0 ae.l.length 9,J ae.i]/\al [(0,cR z)] 1=al [(0,.ay (e_ ae.l) 44)] 1/\ae.l.length<=4000000/\tV ae.i ae.l=some ae.b)/\L (aB [(5,.aa 0 0),(6,.ai 1 z.na 9),(14,J i),(15,J (wI (j+1)))]) (oy w.z (.ay (e_ ae.l) 44)) (aw Z 3 3)))))))))))))) (L (aB [(5,.aa 0 0),(6,.ai 1 z.na 9),(14,J (wI (i+1)))]) (b_ z.X z.xc [(0,.aj [J z.nb.au,J z.nb.id,.ai 2 z.nb.ng 1,.aA 3,.aA 4,.aA 5,.aA 6,.ai 7 0 9,.aJ] 78),(1,cR z),(2,cT z),(3,dg z),(4,df z),(5,cZ z),(6,dh z),(7,.ay [] 44)] 8) (aw Z 3 2)))):=by kernel_rfl
theorem alI{z nx ps np i s n b cs len aM j L Q}:
 ck Z tE Mh L Q 1000 3 0 (aB [(2,.aa 0 0),(5,.aa 1 0),(6,.ai 2 z.na 9),(7,J i),(8,.aa 3 0),(9,.ai 4 aM.length 1),(11,J j)]) (aw Z 3 1) (h13 z nx ps np s n b cs len aM)=(
 aq (decide (j<aE aM.length)) (∃aL:Nat,j=(aL:Int)/\aL<aM.length/\(∃aP,cw Z 2 (aX aM) (aL*1)=some (J aP:AV)/\(∃w:NU,(([.ai 0 z.na 9,J aP]:LV)=[.ai 0 w.l.length 9,J w.i]/\al [(0,cR z)] 1=al [(0,.ay (e_ w.l) 44)] 1/\w.l.length<=4000000/\tV w.i w.l=some w.b)/\(∃cG:Nat,j=(cG:Int)/\cG<aM.length/\(∃bA,cw Z 2 (aX aM) (cG*1)=some (J bA:AV)/\(∃dO:Nat,j=(dO:Int)/\dO<len/\(∃cf dc iP cn bP bH oC Ru lE gN gP,((cs.drop (dO*9)).take 9:List AV)=[J cf,J dc,J iP,.ab cn,.ad bP bH 4,J oC,J Ru,.ab lE,.ad gN gP 4]/\aq (bA !=cf) (Q (.ao false) (b_ z.X z.xc [] 0)) (aq (!(bW w.b.aN.cL s&&(w.b.aN.ar==n&&(w.b.aN.au==0&&true)))) (Q (.ao false) (b_ z.X z.xc [] 0)) (∃f_:Nat,j=(f_:Int)/\f_<len/\(∃n_8 n_9 ai7 s_3 aeP ais ai8 ai9 s_4 aeQ ait,((cs.drop (f_*9)).take 9:List AV)=[J n_8,J n_9,J ai7,.ab s_3,.ad aeP ais 4,J ai8,J ai9,.ab s_4,.ad aeQ ait 4]/\(∃ae:nN,(([.ah [J n_9,J ai7,.ab s_3,.ad aeP ais 4,J ai8,J ai9,.ab s_4,.ad aeQ ait 4]]:LV)=[.ah (HAppend.hAppend (aW ae.1) (aW ae.2))]/\al [] 0=an/\bL ae.1)/\some (.ah [J w.b.iC.1,J w.b.iC.2.1,.ab w.b.iC.2.2.1,J w.b.iC.2.2.2]:AV)=some (.ah [J w.b.iC.1,J w.b.iC.2.1,.ab w.b.iC.2.2.1,J w.b.iC.2.2.2]:AV)/\aq (!(w.b.iC.1==(vt ae.1.bh).1&&(w.b.iC.2.1==(vt ae.1.bh).2.1&&(bW w.b.iC.2.2.1 (vt ae.1.bh).2.2.1&&(w.b.iC.2.2.2==(vt ae.1.bh).2.2.2&&true))))) (Q (.ao false) (b_ z.X z.xc [] 0)) (L (aB [(2,.aa 0 0),(5,.aa 1 0),(6,.ai 2 z.na 9),(7,J i),(8,.aa 3 0),(9,.ai 4 aM.length 1),(11,J (wI (j+1)))]) (b_ z.X z.xc [(0,iG nx ps np),(1,.aj [J z.nb.au,J z.nb.id,.ai 5 z.nb.ng 1,.aA 6,.aA 7,.aA 8,.aA 9,.ai 10 0 9,.aJ] 78),(2,.ay (e_ w.l) 44),(3,ru s n b cs len),(4,bK aM 2),(5,cT z),(6,dg z),(7,df z),(8,cZ z),(9,dh z),(10,.ay [] 44)] 11) (aw Z 3 1))))))))))))) (L (aB [(2,.aa 0 0),(5,.aa 1 0),(6,.ai 2 z.na 9),(7,J (wI (i+1)))]) (b_ z.X z.xc [(0,iG nx ps np),(1,.aj [J z.nb.au,J z.nb.id,.ai 3 z.nb.ng 1,.aA 4,.aA 5,.aA 6,.aA 7,.ai 8 0 9,.aJ] 78),(2,cR z),(3,cT z),(4,dg z),(5,df z),(6,cZ z),(7,dh z),(8,.ay [] 44)] 9) (aw Z 3 0))):=by kernel_rfl
def Ov(z:Ar)(p:cV)(aM:LI):Prop:=∃m n,z.Fg p=gB m/\wW m p=(n,aM,true)/\(aM≠[]->z.X n=some (.ay (aX aM) 2))/\aM.length<=4000000
structure DC(z:Ar)(bl:List fG)(l:List fu):Prop where
 wc:z.mP=e_ bl/\z.na=bl.length/\bl.length<=4000000
 len:l.length<=4000000/\∀p∈l,p.bO.length<=4000000/\∀s∈p.bO,rm s.c
 at9:∀p∈l,Ov z ⟨p.iR,p.ar,0⟩ (p.bO.map ib.id)
 VV:∀p∈l,∀s∈p.bO,∃b,tV s.id bl=some b/\b.aN=⟨p.iR,p.ar,0⟩/\b.iC=vt s.c.1.bh
 code:∀b∈bl,b.gi.length<=4000000
 ins:∀b∈bl,∀x∈b.gi,(x.op=19\/x.op=20)->x.n≠0->x.n≠1099511627776->x.n≠1099511627775->
  ∃i l2,Ov z ⟨[],x.ar,x.n⟩ (i::l2)/\l2.length<=1/\∃b,tV i bl=some b
theorem avx{p q:cV}(h:p=q):(!(bW p.cL q.cL&&(p.ar==q.ar&&(p.au==q.au&&true))))=false:=by subst h;simp[mu]
theorem atE{a b:Int×Int×LN×Int}(h:a=b):(!(a.1==b.1&&(a.2.1==b.2.1&&(bW a.2.2.1 b.2.2.1&&(a.2.2.2==b.2.2.2&&true)))))=false:=by subst h;simp[mu]
abbrev t6(n:Nat)(i:Int):Ev.Tr AV:=aB [(2,.aa 0 0),(5,.aa 1 0),(6,.ai 2 n 9),(7,J i)]
abbrev t13(n:Nat)(i:Int)(len:Nat)(j:Int):Ev.Tr AV:=aB [(2,.aa 0 0),(5,.aa 1 0),(6,.ai 2 n 9),(7,J i),(8,.aa 3 0),(9,.ai 4 len 1),(11,J j)]
abbrev Ue(z:Ar)(nx:Int)(l:List fu)(p:fu)(aM:LI):AH:=h13 z nx (fo l) l.length p.iR p.ar p.A_ (mr p.bO) p.bO.length aM
theorem avK(hK:aU Z tE){v H1 z bl nx l p aM i j}(Lj:z.mP=e_ bl)(EC:z.na=bl.length)(nr:bl.length<=4000000)(zZ:aM=p.bO.map ib.id)(hc:p.bO.length<=4000000)(hj:j<p.bO.length)(a_:rm p.bO[j].c)(hb:∃b,tV p.bO[j].id bl=some b/\b.aN=⟨p.iR,p.ar,0⟩/\b.iC=vt p.bO[j].c.1.bh)(h:br Z 3 200 0 v H1 (t13 z.na i aM.length ((j+1:Nat):Int)) (Ue z nx l p aM) (aw Z 3 1)):br Z 3 200 0 v H1 (t13 z.na i aM.length (j:Int)) (Ue z nx l p aM) (aw Z 3 1):=by
 have⟨z1,z2,z3,z4,z5,z6,z7,z8,z9,z10,z11,z12,z13,z14,z15,z16⟩:=z;subst Lj EC;refine hE hK alI ?_;have vg:aM.length=p.bO.length:=by rw[zZ,og]
 have HY:j<aM.length:=by omega
 have e1:cw Z 2 (aX aM) (j*1)=some (J p.bO[j].id):=by rw[MK,oI,aX,uv,ir HY];simp only[zZ,List.getElem_map,qC]
 have⟨b,hf,hp,hk⟩:=hb;have bX:=KH hj;generalize p.bO[j]=s at e1 hf hk bX a_;have⟨id,⟨⟨k,n,dU,ts⟩,⟨k',n',lV,kH⟩⟩⟩:=s;refine aD.2 ⟨λ_=>⟨j,rfl,HY,id,e1,⟨bl,id,b⟩,⟨rfl,rfl,nr,hf⟩,j,rfl,HY,id,e1,j,rfl,hj,id,k,n,dU,aF ts,ts.length,k',n',lV,aF kH,kH.length,bX,aD.2 ⟨λhh=>?_,λ_=>aD.2 ⟨λhh=>?_,λ_=>⟨j,rfl,hj,id,k,n,dU,aF ts,ts.length,k',n',lV,aF kH,kH.length,bX,(.mk k n dU ts,.mk k' n' lV kH),⟨rfl,rfl,a_.1⟩,rfl,aD.2 ⟨λhh=>?_,λ_=>?_⟩⟩⟩⟩⟩,λhn=>absurd (ez hn) (by simp;omega)⟩
 .simp at hh
 .have:=avx hp;rw[this]at hh;cases hh
 .have:=atE hk;rw[this]at hh;cases hh
 .rw[cO (by omega) (by omega)];exact h
theorem akg(hK:aU Z tE){v H1 z bl nx l}(ho:DC z bl l){i}(hi:i<l.length)(h:br Z 3 200 0 v H1 (t6 z.na ((i+1:Nat):Int)) (h6 z nx (fo l) l.length) (aw Z 3 0)):∀n j:Nat,n+j=l[i].bO.length->
 br Z 3 200 0 v H1 (t13 z.na (i:Int) (l[i].bO.map ib.id).length (j:Int)) (Ue z nx l l[i] (l[i].bO.map ib.id)) (aw Z 3 1)
 |0,j,hj=>by have hl:=ho.len.1;refine hE hK alI ?_;refine aD.2 ⟨λhn=>absurd (dQ hn) (by simp;omega),λ_=>?_⟩;rw[cO (by omega) (by omega)];exact h
 |n+1,j,hj=>by have hm:=pW hi;have ih:=akg hK ho hi h n (j+1) (by omega);have hs:l[i].bO[j]'(by omega)∈l[i].bO:=pW _;exact avK hK ho.wc.1 ho.wc.2.1 ho.wc.2.2 rfl (ho.len.2 _ hm).1 (by omega) ((ho.len.2 _ hm).2 _ hs) (ho.VV _ hm _ hs) ih
theorem ajU(hK:aU Z tE){v H1 z bl nx l}(ho:DC z bl l)(h:br Z 3 200 0 v H1 (aB [(5,.aa 0 0),(6,.ai 1 z.na 9),(14,J 0)]) (tX z) (aw Z 3 2)):∀n i:Nat,n+i=l.length->
 br Z 3 200 0 v H1 (t6 z.na (i:Int)) (h6 z nx (fo l) l.length) (aw Z 3 0)
 |0,i,hi=>by refine hE hK alH ?_;exact aD.2 ⟨λhn=>absurd (dQ hn) (by simp;omega),λ_=>h⟩
 |n+1,i,hi=>by
  have ax:i<l.length:=by omega
  have hm:=pW ax;have ih:=ajU hK (nx:=nx) ho h n (i+1) (by omega);have hq:=akg hK ho ax ih _ 0 rfl;have⟨m,k,H6,Ab,hx,hl⟩:=ho.at9 _ hm;refine hE hK alH ?_;have bX:=Bd ax;generalize l[i]=p at hq H6 Ab hx hl bX;have⟨nm,ar,dy,bO⟩:=p;refine aD.2 ⟨λ_=>⟨i,rfl,ax,nm,ar,dy,mr bO,bO.length,bX,⟨z.nb,m,⟨nm,ar,0⟩,k,bO.map ib.id,true⟩,⟨rfl,rfl,H6,Ab,hx,hl⟩,aD.2 ⟨λhh=>(by cases hh),λ_=>aD.2 ⟨λhh=>?_,λ_=>hq⟩⟩⟩,λhn=>absurd (ez hn) (by simp;omega)⟩;simp only[og,bne_self_eq_false]at hh;cases hh
theorem avl(cs off):cw Z 42 cs off=cs[off]? :=by kernel_rfl
theorem aeh{l j}(h:j<l.length):cw Z 42 (e_ l) (j*9+8)=some (.ad (cJ l[j].gi) l[j].gi.length 6):=by
 have h1:=KC h;rw[avl,<-tf];have h2:(((e_ l).drop (j*9)).take 9)[8]? =some (.ad (cJ l[j].gi) l[j].gi.length 6):=by rw[h1];rfl
 rw[Ft]at h2;simpa using h2
abbrev tB2(n:Nat)(i j:Int):Ev.Tr AV:=aB [(5,.aa 0 0),(6,.ai 1 n 9),(14,J i),(15,J j)]
theorem atc(hK:aU Z tE){v H1 z bl}(Lj:z.mP=e_ bl)(EC:z.na=bl.length)(nr:bl.length<=4000000){i j}(hi:i<bl.length)(hj:j<bl[i].gi.length)(hc:bl[i].gi.length<=4000000)(Yc:(bl[i].gi[j].op=19\/bl[i].gi[j].op=20)->bl[i].gi[j].n≠0->bl[i].gi[j].n≠1099511627776->bl[i].gi[j].n≠1099511627775->∃i1 l2,Ov z ⟨[],bl[i].gi[j].ar,bl[i].gi[j].n⟩ (i1::l2)/\l2.length<=1/\∃b,tV i1 bl=some b)(h:br Z 3 200 0 v H1 (tB2 z.na (i:Int) ((j+1:Nat):Int)) (tX z) (aw Z 3 3)):br Z 3 200 0 v H1 (tB2 z.na (i:Int) (j:Int)) (tX z) (aw Z 3 3):=by
 have⟨z1,z2,z3,z4,z5,z6,z7,z8,z9,z10,z11,z12,z13,z14,z15,z16⟩:=z;subst Lj EC;refine hE hK alF ?_;have e1:=aeh hi;generalize bl[i]=b at e1 hc hj Yc;have bX:=afv hj;generalize b.gi[j]=x at bX Yc;have⟨op,r,a,n,nm,ar⟩:=x;have hw:wI ((j:Int)+1)=((j+1:Nat):Int):=cO (by omega) (by omega);refine⟨i,rfl,hi,cJ b.gi,b.gi.length,e1,aD.2 ⟨λ_=>⟨i,rfl,hi,cJ b.gi,b.gi.length,e1,j,rfl,hj,op,r,a,n,nm,ar,bX,?_⟩,λhn=>absurd (ez hn) (by simp;omega)⟩⟩;rw[hw];have aH:(op=19\/op=20)->(n==0)=false->(n==1099511627776)=false->(n==1099511627775)=false->∃i1 l2,Ov _ ⟨[],ar,n⟩ (i1::l2)/\l2.length<=1/\∃b,tV i1 bl=some b:=λho h0 h1 h2=>Yc ho (by simpa using h0) (by simpa using h1) (by simpa using h2)
 refine aD.2 ⟨λtX=>aD.2 ⟨λ_=>h,λh20=>aD.2 ⟨λ_=>h,λh0=>aD.2 ⟨λ_=>h,λh1=>aD.2 ⟨λ_=>h,λh2=>?_⟩⟩⟩⟩,λtX=>aD.2 ⟨λ_=>h,λh0=>aD.2 ⟨λ_=>h,λh1=>aD.2 ⟨λ_=>h,λh2=>?_⟩⟩⟩⟩
 .have⟨i1,l2,⟨m,k,hm,Ab,hx,hl⟩,h_,b2,hf⟩:=aH (.inr (by simpa using h20)) h0 h1 h2;exact⟨⟨Ar.nb _,m,⟨[],ar,n⟩,k,i1::l2,true⟩,⟨rfl,rfl,hm,Ab,hx,hl⟩,aD.2 ⟨λhh=>(by cases hh),λ_=>aD.2 ⟨λhh=>absurd (dQ hh) (by simp;omega),λ_=>aD.2 ⟨λhh=>absurd (dQ hh) (by simp;omega),λ_=>⟨Nat.succ_pos _,i1,by rw[MK];rfl,⟨bl,i1,b2⟩,⟨rfl,rfl,nr,hf⟩,h⟩⟩⟩⟩⟩
 .have⟨i1,l2,⟨m,k,hm,Ab,hx,hl⟩,h_,b2,hf⟩:=aH (.inl (by simpa using tX)) h0 h1 h2;exact⟨⟨Ar.nb _,m,⟨[],ar,n⟩,k,i1::l2,true⟩,⟨rfl,rfl,hm,Ab,hx,hl⟩,aD.2 ⟨λhh=>(by cases hh),λ_=>aD.2 ⟨λhh=>absurd (dQ hh) (by simp;omega),λ_=>aD.2 ⟨λhh=>absurd (dQ hh) (by simp;omega),λ_=>⟨Nat.succ_pos _,i1,by rw[MK];rfl,⟨bl,i1,b2⟩,⟨rfl,rfl,nr,hf⟩,h⟩⟩⟩⟩⟩
abbrev t19(n:Nat)(i:Int):Ev.Tr AV:=aB [(5,.aa 0 0),(6,.ai 1 n 9),(14,J i)]
theorem ahJ(hK:aU Z tE){v H1 z bl l}(ho:DC z bl l){i}(hi:i<bl.length)(h:br Z 3 200 0 v H1 (t19 z.na ((i+1:Nat):Int)) (tX z) (aw Z 3 2)):∀n j:Nat,n+j=bl[i].gi.length->
 br Z 3 200 0 v H1 (tB2 z.na (i:Int) (j:Int)) (tX z) (aw Z 3 3)
 |0,j,hj=>by have nr:=ho.wc.2.2;refine hE hK alF ?_;have e1:=aeh hi;rw[<-ho.wc.1]at e1;refine⟨i,rfl,by rw[ho.wc.2.1];exact hi,cJ bl[i].gi,bl[i].gi.length,e1,aD.2 ⟨λhn=>absurd (dQ hn) (by simp;omega),λ_=>?_⟩⟩;have hw:wI ((i:Int)+1)=((i+1:Nat):Int):=cO (by omega) (by omega);rw[hw];exact h
 |n+1,j,hj=>by have ih:=ahJ hK ho hi h n (j+1) (by omega);have hm:=pW hi;exact atc hK ho.wc.1 ho.wc.2.1 ho.wc.2.2 hi (by omega) (ho.code _ hm) (ho.ins _ hm _ (pW _)) ih
theorem aec(hK:aU Z tE){z bl l}(ho:DC z bl l):∀n i:Nat,n+i=bl.length->
 br Z 3 200 0 (.ao true) (b_ z.X z.xc [] 0) (t19 z.na (i:Int)) (tX z) (aw Z 3 2)
 |0,i,hi=>by refine hE hK alE ?_;exact aD.2 ⟨λhn=>absurd (dQ hn) (by rw[ho.wc.2.1];simp;omega),λ_=>⟨(),⟨rfl,rfl⟩,rfl,rfl⟩⟩
 |n+1,i,hi=>by
  have ih:=aec hK ho n (i+1) (by omega);have ax:i<bl.length:=by omega
  have hq:=ahJ hK ho ax ih _ 0 rfl;refine hE hK alE ?_;exact aD.2 ⟨λ_=>hq,λhn=>absurd (ez hn) (by rw[ho.wc.2.1];simp;omega)⟩
theorem ags(X xc):Du (fj X xc):=⟨⟨rfl,rfl⟩,⟨rfl,rfl⟩,rfl,rfl,⟨rfl,rfl⟩⟩
theorem atT(hK:aU Z tE){X xc nx l tr}(ho:DE (fj X xc) ⟨nx,l⟩ tr)(ahl:(AN (fj X xc) ⟨nx,l⟩ tr).1=0->∃bl,DC (AN (fj X xc) ⟨nx,l⟩ tr).2 bl l):∃X' Js,bZ Z 3 [.ah (lA ⟨nx,l⟩),.ao tr] (b_ X xc [] 0) (.ao true) (b_ X' Js [] 0):=by
 generalize hr:AN (fj X xc) ⟨nx,l⟩ tr=r at ahl;have⟨e,zf⟩:=r;by_cases he:e=0
 .have⟨bl,hl⟩:=ahl he;have tX:=aec hK hl bl.length 0 rfl;have h6:=ajU hK (nx:=nx) hl tX l.length 0 rfl;refine⟨zf.X,zf.xc,?_⟩;refine eE 200 hK alG ?_;exact⟨(X,xc),⟨rfl,rfl⟩,true,aD.2 ⟨λ_=>⟨⟨fj X xc,⟨nx,l⟩,tr,e,zf⟩,⟨rfl,rfl,ags X xc,ho,hr,decide_eq_true he⟩,zf,⟨rfl,rfl⟩,h6⟩,λhh=>(by cases hh)⟩⟩
 .refine⟨X,xc,?_⟩;refine eE 200 hK alG ?_;exact⟨(X,xc),⟨rfl,rfl⟩,false,aD.2 ⟨λhh=>(by cases hh),λ_=>⟨⟨fj X xc,⟨nx,l⟩,tr,e,zf⟩,⟨rfl,rfl,ags X xc,ho,hr,decide_eq_false he⟩,aD.2 ⟨λ_=>⟨fj X xc,⟨rfl,rfl⟩,aD.2 ⟨λ_=>⟨(),⟨rfl,rfl⟩,rfl,rfl⟩,λhh=>(by cases hh)⟩⟩,λhh=>absurd hh (by simpa using he)⟩⟩⟩⟩
theorem aqQ:∃h n,bZ Z 9 [] an (.ao true) ⟨h,n,none⟩:=by
 have h:=aqR;unfold ama at h;split at h;next b h0 n0 hr=>subst h;refine⟨h0,n0,λφ w bs args' cs ha hw hb=>?_⟩;have⟨aQ,w',h1,h2,h3,h4⟩:=afH (cs:=cs) (Sx iO Z3 1000000) hr ha hw hb (gq _) trivial rfl;exact⟨aQ,w',h1,h2.ag,⟨h3,h2.2.2.2⟩,h4⟩
 .cases h
theorem ano:aU Z tE:=by refine cA ann ?_;rintro w args H ⟨rfl,rfl⟩;have⟨h,n,hE⟩:=aqQ;exact nh hE (by rfl) (by rfl)
def wz(e:Int):Prop:=e=0\/e=1\/e=2
theorem ad2(l b):wz (fk l b).2:=by
 unfold fk;split
 .exact .inl rfl
 .exact .inr (.inl rfl)
theorem aok(code base):∀todo a b c aK,wz (sx code base a b c aK todo).2:=by
 intro todo;induction todo with
 |nil=>intro a b c aK;all_goals first|exact .inl rfl|exact ad2 _ _
 |cons x l ih=>
  intro a b c aK;unfold sx;repeat' split
  all_goals first|exact ih _ _ _ _|exact ad2 _ _|exact .inl rfl
theorem aeE(f i):wz (gp f i).2:=by
 unfold gp;split
 .exact .inr (.inl rfl)
 .split
  .show wz (mn (bw f)).2;unfold mn;split
   .exact .inr (.inr rfl)
   .exact aok _ _ _ _ _ _ _
  .exact .inl rfl
theorem aeF:∀l z,wz (ie z l).2.2
 |[],z=>.inl rfl
 |f::l,z=>by
  simp only[ie];split
  .exact aeE _ _
  .exact aeF l z.tk
theorem aph(z i l):wz (mo z i l).2.2:=by
 cases l with
 |nil=>exact .inl rfl
 |cons f l=>
  simp only[mo];split
  .exact aeE _ _
  .split
   .exact aeF _ _
   .exact .inl rfl
theorem aq1(c a tr):wz (ov c a tr).2:=by
 unfold ov;split
 .exact .inr (.inl rfl)
 .unfold AP;split
  .exact .inl rfl
  .exact .inr (.inr rfl)
theorem aCa{tr st s}(h:wz st.e):wz (jF tr st s).e:=by
 unfold jF;split
 .exact h
 .split
  .exact aq1 _ _ _
  .exact aph _ _ _
theorem aCR(z tr l):wz (ft z tr l).e:=
 KB (P:=λst:S3=>wz st.e) (λst p s h=>aCa h) (.inl rfl)
theorem aCc{tr st s}(h:st.aM.length=st.cW.length):(jF tr st s).aM.length=(jF tr st s).cW.length:=by
 unfold jF;split
 .exact h
 .split
  .exact h
  .simp only[cI,h,ej,gW]
theorem amo(z tr l):(ft z tr l).aM.length=(ft z tr l).cW.length:=
 KB (P:=λst:S3=>st.aM.length=st.cW.length) (λst p s h=>aCc h) rfl
theorem ae7{σ iA}{c:σ->Nat}(h:∀st p s,c (iA st p s)<=c st+1):∀l st,c (tN iA st l)<=c st+j6 l
 |[],st=>cM _
 |p::l,st=>by
  have h1:∀(ss:List ib) (st:σ),c (ss.foldl (λst s=>iA st p s) st)<=c st+ss.length:=by
   intro ss;induction ss with
   |nil=>exact λst=>cM _
   |cons s ss ih=>intro st;have:=ih (iA st p s);have:=h st p s;simp;omega
  have h2:=h1 p.bO st;have h3:=ae7 h l (p.bO.foldl (λst s=>iA st p s) st);show c (tN iA (p.bO.foldl (λst s=>iA st p s) st) l)<=_;simp only[j6,gR,List.sum_cons]at h3⊢;omega
theorem aCQ(z tr l):(ft z tr l).aM.length<=j6 l:=by
 have:=ae7 (iA:=λst _ s=>jF tr st s) (c:=λst:S3=>st.aM.length) (λst p s=>?_) l ⟨z,0,[],[]⟩
 .unfold ft;simpa using this
 .simp only[jF];split
  .omega
  .split
   .simp only;omega
   .simp only[cI,ej,gW];omega
theorem Wy{σ iA}{P:σ->Prop}:∀{l st},(∀st,∀p∈l,∀s∈p.bO,P st->P (iA st p s))->P st->P (tN iA st l)
 |[],st,_,h0=>h0
 |p::l,st,h,h0=>by
  have h1:∀(ss:List ib) (st:σ),(∀s∈ss,s∈p.bO)->P st->P (ss.foldl (λst s=>iA st p s) st):=by
   intro ss;induction ss with
   |nil=>exact λst _ h=>h
   |cons s ss ih=>exact λst hs hp=>ih _ (λx hx=>hs x (dZ _ hx)) (h st p (dJ ..) s (hs s (dJ ..)) hp)
  exact Wy (l:=l) (λst q hq=>h st q (dZ _ hq)) (h1 p.bO st (λs hs=>hs) h0)
theorem aeG:∀l z,(ie z l).2.2=0->(ie z l).2.1.length=l.length
 |[],z,_=>rfl
 |f::l,z,h=>by
  simp only[ie]at h⊢;split at h;next hc=>exact absurd h hc
  next hc=>rw[az hc];simp only[ej,aeG l z.tk h]
theorem api(z i l)(h:(mo z i l).2.2=0):(mo z i l).2.1.length=l.length:=by
 cases l with
 |nil=>rfl
 |cons f l=>
  simp only[mo]at h⊢;split at h;next hc=>exact absurd h hc
  next hc=>
   split at h;next qs=>exact absurd h qs
   next qs=>rw[az hc,az qs];simp only[ej,aeG l z (CG.1 qs)]
theorem aqZ(c a tr):sG c a tr≠[]:=by simp[sG,zP]
theorem amm(z tr l)(ho:∀p∈l,∀s∈p.bO,rm s.c):(ft z tr l).e=0->∀b∈(ft z tr l).cW,b≠[]/\b.length<=4001:=by
 refine Wy (P:=λst:S3=>st.e=0->∀b∈st.cW,b≠[]/\b.length<=4001) (λst p hp s hs h=>?_) (λ_ b hb=>by cases hb);unfold jF;split;next he=>exact λh0=>absurd h0 he
 next he=>
  split;next hf=>exact λh0=>absurd h0 hf
  next hf=>
   intro h0 b hb;rcases ia.1 hb with hb|hb
   .exact h (CG.1 he) b hb
   .rw[oe]at hb;have⟨_,k2,_,_,_,k6,_⟩:=PO (ho p hp s hs) hf;have hl:=api st.z s.id _ h0;rw[<-hb]at hl;refine⟨λhz=>?_,by omega⟩;rw[hz,k6]at hl;exact aqZ _ _ _ (mJ hl.symm)
theorem aiy:∀{a b c},kg a b=true->kg b c=true->kg a c=true
 |[],[],c,h1,h2=>by simp[kg]at h1
 |[],b::l,[],h1,h2=>by simp[kg]at h2
 |[],b::l,c::m,h1,h2=>by simp[kg]
 |a::l,[],c,h1,h2=>by simp[kg]at h1
 |a::l,b::m,[],h1,h2=>by simp[kg]at h2
 |a::l,b::m,c::n,h1,h2=>by
  have ih:= @aiy l m n;simp only[kg]at h1 h2⊢;simp at h1 h2⊢;rcases h1 with h1|⟨h1,h3⟩<;>rcases h2 with h2|⟨h2,h4⟩
  .exact .inl (by omega)
  .exact .inl (by omega)
  .exact .inl (by omega)
  .exact .inr ⟨by omega,ih h3 h4⟩
theorem aix:∀a:LN,kg a a=false
 |[]=>rfl
 |a::l=>by
  have h:Nat.ble (a+1) a=false:=by
   cases hb:Nat.ble (a+1) a with
   |false=>rfl
   |true=>have:=ph hb;omega
  simp[kg,aix l,h]
def PL(q p:fu):Prop:=kg q.iR p.iR=true\/(q.iR=p.iR/\q.ar<p.ar)
theorem PL.trans{a b c}(h1:PL a b)(h2:PL b c):PL a c:=by
 rcases h1 with h1|⟨h1,h3⟩<;>rcases h2 with h2|⟨h2,h4⟩
 .exact .inl (aiy h1 h2)
 .exact .inl (h2▸h1)
 .exact .inl (h1▸h2)
 .exact .inr ⟨h1.trans h2,by omega⟩
theorem PL.atq{a b}(h:PL a b)(hn:a.iR=b.iR)(ha:a.ar=b.ar):False:=by
 rcases h with h|⟨_,h⟩
 .rw[hn,aix]at h;cases h
 .omega
theorem avz{q p}(h:Au (some q) p=true):PL q p:=by
 simp only[Au,RU,DL,qQ,mu]at h;cases hl:kg q.iR p.iR with
 |true=>exact .inl hl
 |false=>
  rw[hl]at h;by_cases he:q.iR=p.iR
  .refine .inr ⟨he,?_⟩;simp[he]at h;split at h
   .assumption
   .split at h<;>omega
  .simp[he]at h
theorem aj5{next}:∀{l q bE},uu next q bE l=true->(∀q0,q=some q0->∀p∈l,PL q0 p)/\(l.map fC).Nodup
 |[],q,bE,h=>⟨λ_ _ p hp=>(by cases hp),CI⟩
 |p::l,q,bE,h=>by
  simp only[uu]at h;split at h;next hc=>
   split at h;next xz hs=>
    have⟨h1,h2⟩:=aj5 h;have h3:=h1 p rfl;simp at hc;refine⟨λq0 hq x hx=>?_,?_⟩
    .subst hq;have h4:=avz hc.2;rcases dm.1 hx with rfl|hx
     .exact h4
     .exact h4.trans (h3 x hx)
    .rw[gR,uw];refine⟨λhm=>?_,h2⟩;have⟨y,hy,he⟩:=nJ.1 hm;have h5:=h3 y hy;simp only[fC,cV.mk.injEq]at he;exact h5.atq he.1.symm he.2.1.symm
   .cases h
  .cases h
theorem amv{d}(h:oj d=true):(d.gD.map fC).Nodup:=by simp only[oj,dk]at h;exact(aj5 h.2).2
theorem aCd{st p i j}(h:lk j st.th=some true):lk j (iu st p i).th=some true:=by
 simp only[iu,Re];split
 .rfl
 .exact h
theorem aCe(st p i):lk i (iu st p i).th=some true:=by simp only[iu,Re,if_true]
theorem W4{p j}:∀(ss:List ib) (st),lk j st.th=some true->lk j (ss.foldl (λst s=>iu st (fC p) s.id) st).th=some true
 |[],st,h=>h
 |s::ss,st,h=>W4 ss _ (aCd h)
theorem agf{p}:∀(ss:List ib) (st),∀s∈ss,lk s.id (ss.foldl (λst s=>iu st (fC p) s.id) st).th=some true
 |s::ss,st,x,h=>by
  rcases dm.1 h with rfl|h
  .exact W4 ss _ (aCe _ _ _)
  .exact agf ss _ x h
theorem agn{j}:∀l st,lk j st.th=some true->lk j (oU st l).th=some true
 |[],st,h=>h
 |p::l,st,h=>agn l _ (W4 p.bO st h)
theorem agm:∀l st,∀p∈l,∀s∈p.bO,lk s.id (oU st l).th=some true
 |p::l,st,q,h,s,hs=>by
  rcases dm.1 h with rfl|h
  .exact agn l _ (agf q.bO st s hs)
  .exact agm l _ q h s hs
theorem aCS(z tr l):∀i∈(ft z tr l).aM,∃p∈l,∃s∈p.bO,s.id=i:=by
 refine Wy (P:=λst:S3=>∀i∈st.aM,∃p∈l,∃s∈p.bO,s.id=i) (λst p hp s hs h=>?_) (λi hi=>by cases hi);unfold jF;split
 .exact h
 .split
  .exact h
  .intro i hi;rcases ia.1 hi with hi|hi
   .exact h i hi
   .rw[oe]at hi;exact⟨p,hp,s,hs,hi.symm⟩
theorem amk{β k v}:∀{m} {x:Int×β},x∈up k v m->x.1=k\/∃y∈m,y.1=x.1
 |[],x,h=>by simp only[up,oe]at h;exact .inl (by rw[h])
 |(i,w)::m,x,h=>by
  simp only[up]at h;split at h
  .rcases dm.1 h with rfl|h
   .exact .inl rfl
   .exact .inr ⟨x,dZ _ h,rfl⟩
  .rcases dm.1 h with rfl|h
   .exact .inr ⟨_,dJ ..,rfl⟩
   .rcases amk h with h|⟨y,h1,h2⟩
    .exact .inl h
    .exact .inr ⟨y,dZ _ h1,h2⟩
theorem agi:∀(l:List (Int×List fG)) (st),∀x∈(l.foldl pr st).cm,(∃y∈l,y.1=x.1)\/∃y∈st.cm,y.1=x.1
 |[],st,x,h=>.inr ⟨x,h,rfl⟩
 |a::l,st,x,h=>by
  rcases agi l (pr st a) x h with⟨y,h1,h2⟩|⟨y,h1,h2⟩
  .exact .inl ⟨y,dZ _ h1,h2⟩
  .rcases amk (show y∈up a.1 _ st.cm from h1)with h3|⟨w,h3,h4⟩
   .exact .inl ⟨a,dJ ..,h3.symm.trans h2⟩
   .exact .inr ⟨w,h3,h4.trans h2⟩
theorem aCT(z tr l):∀x∈(pv z tr l).cm,lk x.1 (FV z tr l).th=some true:=by
 intro x hx;rcases agi _ _ x hx with⟨y,h1,h2⟩|⟨y,h1,_⟩
 .have⟨p,hp,s,hs,hi⟩:=aCS z tr l y.1 (List.of_mem_zip h1).1;rw[<-h2,<-hi];exact agm l _ p hp s hs
 .cases h1
end
end Go.Cl
