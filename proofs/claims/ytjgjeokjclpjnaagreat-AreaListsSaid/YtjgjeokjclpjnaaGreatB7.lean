/- Part of a proof of AreaLists. -/
import Derived.Test.YtjgjeokjclpjnaaGreatB6
set_option linter.all false
set_option linter.unusedSectionVars false
set_option maxRecDepth 100000
namespace Go.Cl
open Go.Ev Go.Proofs
noncomputable section
theorem agy{f A s0 s gs n}(h:bZ Z f A (hT s0) (.ai 2 n 6) (al [(0,ct s 1),(1,cz s),(2,iQ gs)] 3)):bZ Z f A (hT s0) (.ai 2 n 6) (yq s gs):=
 DU (g:=1) h (qz (l':=[(0,ct s 3),(1,.bc []),(2,iQ gs)]) (by kernel_rfl) rfl rfl) (by kernel_rfl) (by show(2:Nat)<=3;omega)
theorem arn{f A s0 s}(h:bZ Z f A (hT s0) .aJ (hT s)):bZ Z f A (hT s0) (.ai 2 0 6) (yq s []):=
 agy (Py h rfl (by show(2:Nat)<=2;omega))
theorem Xd{f A s0 s n cs gs}(hn:n=gs.length)(hc:cs=bD gs)(h:bZ Z f A (hT s0) (.bq 2 0 n n 6 true) (al [(0,ct s 1),(1,cz s),(2,.aj cs 146)] 3)):bZ Z f A (hT s0) (.ai 2 gs.length 6) (yq s gs):=by subst hn hc;exact agy (G' (g:=2) h rfl (λφ e o h=>rQ (zI gs).2 h) rfl (by show(2:Nat)<=3;omega))
theorem aro{f A s0 s n cs gs}(hn:n=gs.length)(hc:cs=bD gs)(h:bZ Z f A (hT s0) (.bq 2 0 n n 6 true) (al [(0,ct s 3),(1,.bc []),(2,.aj cs 146),(3,cz s)] 4)):bZ Z f A (hT s0) (.ai 2 gs.length 6) (yq s gs):=by subst hn hc;exact G' (g:=2) h rfl (λφ e o h=>rQ (zI gs).2 h) rfl (by show(2:Nat)<=4;omega)
abbrev FL(c i:Int):Ev.Tr AV:=aB [(0,.aa 0 0),(2,J c),(4,.aa 2 0),(47,aeJ),(48,J i)]
abbrev sJ(s:da)(g:aI):AH:=al [(0,ct s 1),(1,cz s),(2,en g.cq g.n g.cK (aF g.bh) g.bh.length)] 3
theorem yk{N}(hS:aU Z (T6 N)){v H1 s g c i}(hi:i<4)(lU:dF g (jC i) (lM i)=false)(h:br Z 82 104 2 v H1 (FL c ((i+1:Nat):Int)) (sJ s g) (aw Z 82 0)):br Z 82 104 2 v H1 (FL c (i:Int)) (sJ s g) (aw Z 82 0):=by
 refine hD hS 1000 yJ (by kernel_rfl) ?_;refine cast (@abj s g.cq g.n g.cK (aF g.bh) g.bh.length c i N _ _).symm (aD.2 ⟨λ_=>⟨⟨by omega,by omega⟩,?_⟩,λh=>absurd (ez h) (by omega)⟩);have hw:wI ((i:Int)+1)=((i+1:Nat):Int):=cO (by omega) (by omega);rw[hw];match i,hi with
 |0,_=>exact⟨λ_=>⟨⟨rfl,trivial⟩,aD.2 ⟨λhh=>absurd (hh.symm.trans lU) (by decide),λ_=>h⟩⟩,λe=>absurd e (by decide),λe=>absurd e (by decide),λe=>absurd e (by decide),trivial⟩
 |1,_=>exact⟨λe=>absurd e (by decide),λ_=>⟨⟨rfl,trivial⟩,aD.2 ⟨λhh=>absurd (hh.symm.trans lU) (by decide),λ_=>h⟩⟩,λe=>absurd e (by decide),λe=>absurd e (by decide),trivial⟩
 |2,_=>exact⟨λe=>absurd e (by decide),λe=>absurd e (by decide),λ_=>⟨⟨rfl,trivial⟩,aD.2 ⟨λhh=>absurd (hh.symm.trans lU) (by decide),λ_=>h⟩⟩,λe=>absurd e (by decide),trivial⟩
 |3,_=>exact⟨λe=>absurd e (by decide),λe=>absurd e (by decide),λe=>absurd e (by decide),λ_=>⟨⟨rfl,trivial⟩,aD.2 ⟨λhh=>absurd (hh.symm.trans lU) (by decide),λ_=>h⟩⟩,trivial⟩
theorem arx{N}(hS:aU Z (T6 N)){s s2 g c q i}(hi:i<4)(a_:eL (N+4) 3000000 s g)(lS:dF g (jC i) (lM i)=true)(hr:k9 (dX N) i s g c=(s2,q)):
 br Z 82 104 2 (.bq 2 0 1 1 6 true) (al [(0,ct s2 3),(1,.bc []),(2,.aj (bD [q]) 146),(3,cz s2)] 4) (FL c (i:Int)) (sJ s g) (aw Z 82 0):=by
 refine hD hS 1000 yJ (by kernel_rfl) ?_;refine cast (@abj s g.cq g.n g.cK (aF g.bh) g.bh.length c i N _ _).symm (aD.2 ⟨λ_=>⟨⟨by omega,by omega⟩,?_⟩,λh=>absurd (ez h) (by omega)⟩);have⟨k,n,nm,l⟩:=g;match i,hi with
 |0,_=>exact⟨λ_=>⟨⟨rfl,trivial⟩,aD.2 ⟨λhh=>⟨⟨0,s,.mk k n nm l,c,s2,q⟩,⟨rfl,rfl,a_,lS,(by decide:0<4),hr⟩,rfl,rfl⟩,λhh=>absurd (hh.symm.trans lS) (by decide)⟩⟩,λe=>absurd e (by decide),λe=>absurd e (by decide),λe=>absurd e (by decide),trivial⟩
 |1,_=>exact⟨λe=>absurd e (by decide),λ_=>⟨⟨rfl,trivial⟩,aD.2 ⟨λhh=>⟨⟨1,s,.mk k n nm l,c,s2,q⟩,⟨rfl,rfl,a_,lS,(by decide:1<4),hr⟩,rfl,rfl⟩,λhh=>absurd (hh.symm.trans lS) (by decide)⟩⟩,λe=>absurd e (by decide),λe=>absurd e (by decide),trivial⟩
 |2,_=>exact⟨λe=>absurd e (by decide),λe=>absurd e (by decide),λ_=>⟨⟨rfl,trivial⟩,aD.2 ⟨λhh=>⟨⟨2,s,.mk k n nm l,c,s2,q⟩,⟨rfl,rfl,a_,lS,(by decide:2<4),hr⟩,rfl,rfl⟩,λhh=>absurd (hh.symm.trans lS) (by decide)⟩⟩,λe=>absurd e (by decide),trivial⟩
 |3,_=>exact⟨λe=>absurd e (by decide),λe=>absurd e (by decide),λe=>absurd e (by decide),λ_=>⟨⟨rfl,trivial⟩,aD.2 ⟨λhh=>⟨⟨3,s,.mk k n nm l,c,s2,q⟩,⟨rfl,rfl,a_,lS,(by decide:3<4),hr⟩,rfl,rfl⟩,λhh=>absurd (hh.symm.trans lS) (by decide)⟩⟩,trivial⟩
theorem arv{N}(hS:aU Z (T6 N)){v H1 s g c}(h:br Z 82 104 2 v H1 (aB [(0,.aa 0 0),(4,.aa 2 0)]) (sJ s g) (di Z yJ 82 0)):br Z 82 104 2 v H1 (FL c 4) (sJ s g) (aw Z 82 0):=by refine hD hS 1000 yJ (by kernel_rfl) ?_;exact cast (@abj s g.cq g.n g.cK (aF g.bh) g.bh.length c 4 N _ _).symm (aD.2 ⟨λh=>absurd (dQ h) (by omega),λ_=>h⟩)
theorem Xg{N}(hS:aU Z (T6 N)){v H1 s g c}(h1:¬dF g [116,114,117,101] 0=true)(h2:¬dF g [102,97,105,108] 0=true)(h3:¬dF g [33] 0=true)(ha:dF g [44] 2=true->br Z 82 104 2 v H1 (aB [(0,.aa 0 0),(2,J c),(4,.aa 2 0)]) (sJ s g) (di Z wX 82 0))(hb:dF g [44] 2=false->br Z 82 104 2 v H1 (FL c 0) (sJ s g) (aw Z 82 0)):bZ Z 82 [.aa 0 0,.ah (aW g),J c] (hT s) v H1:=by have⟨k,n,nm,l⟩:=g;refine eS hS 3000 wX 104 (by kernel_rfl) ?_;rw[aW,SG];refine⟨⟨rfl,trivial⟩,aD.2 ⟨λh=>absurd h h1,λ_=>⟨⟨rfl,trivial⟩,aD.2 ⟨λh=>absurd h h2,λ_=>⟨⟨rfl,trivial⟩,aD.2 ⟨λh=>absurd h h3,λ_=>⟨⟨rfl,trivial⟩,aD.2 ⟨λh=>ha h,λh=>?_⟩⟩⟩⟩⟩⟩⟩⟩;refine hD hS 1000 yJ (by kernel_rfl) ?_;exact cast (@aBJ s k n nm (aF l) l.length c N _ _).symm ⟨⟨rfl,trivial⟩,hb h⟩
theorem aru{N}(hS:aU Z (T6 N)){s s2 s3 k n c x y l1 l2}(hx:eL N 3000000 s x)(pT:dX N s x c=(s2,l1))(hy:eL N 3000000 s2 y)(nZ:dX N s2 y c=(s3,l2))(hl:l1.length+l2.length<=4000000):
 br Z 82 104 2 (.ai 2 (l1++l2).length 6) (yq s3 (l1++l2)) (aB [(0,.aa 0 0),(2,J c),(4,.aa 2 0)]) (sJ s (.mk k n [44] [x,y])) (di Z wX 82 0):=by
 refine hE hS (@aBG s k n [44] (aF [x,y]) 2 c N _ _) ?_;have⟨k1,n1,m1,q1⟩:=x;have⟨k2,n2,m2,q2⟩:=y;refine⟨by decide,k1,n1,m1,aF q1,q1.length,zL _ _,⟨s,.mk k1 n1 m1 q1,c,s2,l1⟩,⟨rfl,rfl,hx,pT⟩,by decide,k2,n2,m2,aF q2,q2.length,wv _ _,⟨s2,.mk k2 n2 m2 q2,c,s3,l2⟩,⟨rfl,rfl,hy,nZ⟩,qV _,λh0=>?_,λh1=>?_⟩
 .have:=mJ h0;subst this;refine⟨by show l1.length<=4194304;omega,?_⟩;rw[jm];exact⟨rfl,rfl⟩
 .refine⟨⟨qV _,by show l1.length+l2.length<=4194304;omega,zI _⟩,Xc ?_ ?_⟩
  .simp
  .exact(yf _ _).symm
theorem aqb(a b):ij a++ij b=aF [a,b]:=by rw[zG,zG,aF,aF,aF,jm]
theorem arw{N}(hS:aU Z (T6 N)){s s2 g gl}(a_:bL g)(hl:g.bh.length<4000000)(hr:vK s g=(s2,gl)):
 br Z 82 104 2 (.bq 2 0 gl.length gl.length 6 true) (al [(0,ct s2 1),(1,cz s2),(2,.aj (bD gl) 146)] 3) (aB [(0,.aa 0 0),(4,.aa 2 0)]) (sJ s g) (di Z yJ 82 0):=by
 refine hD hS 3000 Rn (by kernel_rfl) ?_;have⟨k,n,nm,l⟩:=g;refine cast (@aBH s k n nm (aF l) l.length N _ _).symm ?_;refine⟨l,⟨rfl,rfl,a_.2.2,hl⟩,aD.2 ⟨λht=>?_,λht=>⟨⟨rfl,trivial⟩,aD.2 ⟨λhb=>?_,λhb=>?_⟩⟩⟩⟩
 .have he:vK s (.mk k n nm l)=(s,[pJ ⟨nm,(l.length:Int),0⟩ l]):=by rw[vK,aO (by rw[ht];rfl)];rfl
  rw[he]at hr;cases hr;exact⟨rfl,rfl⟩
 .have he:vK s (.mk k n nm l)=(s,[pJ ⟨nm,(l.length:Int),0⟩ l]):=by rw[vK,aO (by rw[Sg];exact .inr hb)];rfl
  rw[he]at hr;cases hr;exact⟨rfl,rfl⟩
 .have he:vK s (.mk k n nm l)=(s.nx,[pJ ⟨[],2,1099511627776⟩ [l8 (bV s.nv),.mk k n nm l],pJ ⟨nm,(l.length:Int),0⟩ l,pJ ⟨[],2,1099511627775⟩ [l8 (bV s.nv),.mk k n nm l]]):=by rw[vK,az (by rw[Sg];intro h;rcases h with h|h;exact absurd (h.symm.trans ht) (by decide);exact absurd (h.symm.trans hb) (by decide))];rfl
  rw[he]at hr;cases hr;refine⟨s,⟨rfl,rfl⟩,⟨rfl,trivial⟩,?_⟩;refine hE hS aBI ?_;refine⟨(l8 (bV s.nv),.mk k n nm l),⟨rfl,rfl,IP _,a_⟩,rfl,rfl,rfl,rfl,(l8 (bV s.nv),.mk k n nm l),⟨rfl,rfl,IP _,a_⟩,rfl,?_⟩;simp only[aqb];exact⟨rfl,rfl⟩
theorem ary{N}(hS:aU Z (T6 N)):∀w A H,(KW (N+1)).bn w A H->bZ Z 82 A H ((KW (N+1)).v w) ((KW (N+1)).aK w):=by
 rintro⟨s,g,c,s2,gl⟩ A H ⟨rfl,rfl,a_,he⟩;simp only at a_ he;replace he:AI (dX N) s g c=(s2,gl):=he;unfold AI at he;have hN:=a_.2.1;have hM:=a_.2.2.1;have hA:=a_.2.2.2.1;have hG:=a_.2.2.2.2;have asH:eL (N+4) 3000000 s g:=⟨a_.1,by omega,hM,hA,hG⟩;by_cases h1:dF g [116,114,117,101] 0=true
 .rw[aO h1]at he;cases he;refine arn ?_;have⟨k,n,nm,l⟩:=g;refine eS hS 3000 wX 104 (by kernel_rfl) ?_;rw[aW,SG];exact⟨⟨rfl,trivial⟩,aD.2 ⟨λ_=>⟨rfl,rfl⟩,λh=>absurd (h.symm.trans h1) (by decide)⟩⟩
 rw[az h1]at he;by_cases h2:dF g [102,97,105,108] 0=true
 .rw[aO h2]at he;cases he;refine Xd rfl rfl ?_;have⟨k,n,nm,l⟩:=g;refine eS hS 3000 wX 104 (by kernel_rfl) ?_;rw[aW,SG];exact⟨⟨rfl,trivial⟩,aD.2 ⟨λh=>absurd h h1,λ_=>⟨⟨rfl,trivial⟩,aD.2 ⟨λ_=>⟨⟨rfl,trivial⟩,rfl,rfl⟩,λh=>absurd (h.symm.trans h2) (by decide)⟩⟩⟩⟩
 rw[az h2]at he;by_cases h3:dF g [33] 0=true
 .rw[aO h3]at he;cases he;refine Xd rfl rfl ?_;have⟨k,n,nm,l⟩:=g;refine eS hS 3000 wX 104 (by kernel_rfl) ?_;rw[aW,SG];exact⟨⟨rfl,trivial⟩,aD.2 ⟨λh=>absurd h h1,λ_=>⟨⟨rfl,trivial⟩,aD.2 ⟨λh=>absurd h h2,λ_=>⟨⟨rfl,trivial⟩,aD.2 ⟨λ_=>⟨⟨rfl,trivial⟩,rfl,rfl⟩,λh=>absurd (h.symm.trans h3) (by decide)⟩⟩⟩⟩⟩⟩
 rw[az h3]at he;by_cases h4:dF g [44] 2=true
 .rw[aO h4]at he;obtain⟨k,n,x,y,rfl,QB,jx⟩:=re (.inl rfl) h4;simp only[ji,aI.bh,mK,rB]at he;have b1:=qX N s x c (by omega);generalize pT:dX N s x c=r1 at he b1;have⟨s3,l1⟩:=r1;have b2:=qX N s3 y c (by omega);generalize nZ:dX N s3 y c=r2 at he b2;have⟨s4,l2⟩:=r2;cases he;simp only at b1 b2;have LH:eL N 3000000 s x:=wC a_ a_.1.2.2.1 (by omega) (by omega) (by omega) (jx hG).1;have LJ:eL N 3000000 s3 y:=wC a_ a_.1.2.2.2.1 (by omega) (by omega) (by omega) (jx hG).2;have fc:l1.length+l2.length<=4000000:=by omega
  exact Xg hS h1 h2 h3 (λ_=>aru hS LH pT LJ nZ fc) (λh=>absurd (h4.symm.trans h) (by decide))
 rw[az h4]at he;have no4:∀{A:Prop},dF g [44] 2=true->A:=λh=>absurd h h4
 have tk:∀{kk:Nat},kk<4->dF g (jC kk) (lM kk)=true->qB (k9 (dX N) kk s g c)=(s2,gl)->(∀{v:AV} {H1:AH},br Z 82 104 2 v H1 (FL c (kk:Int)) (sJ s g) (aw Z 82 0)->br Z 82 104 2 v H1 (FL c 0) (sJ s g) (aw Z 82 0))->bZ Z 82 [.aa 0 0,.ah (aW g),J c] (hT s) (.ai 2 gl.length 6) (yq s2 gl):=by intro kk hk hi hr hs;generalize hq:k9 (dX N) kk s g c=q at hr;have⟨s3,q⟩:=q;cases hr;exact aro rfl rfl (Xg hS h1 h2 h3 no4 λ_=>hs (arx hS hk asH hi hq))
 by_cases h5:dF g [59] 2=true
 .rw[aO h5]at he;exact tk (kk:=0) (by decide) h5 he λh=>h
 rw[az h5]at he;have BC:=qE.2 h5;by_cases h6:dF g [45,62] 2=true
 .rw[aO h6]at he;exact tk (kk:=1) (by decide) h6 he λh=>yk hS (by decide) BC h
 rw[az h6]at he;have Xo:=qE.2 h6;by_cases h7:dF g [92,43] 1=true
 .rw[aO h7]at he;exact tk (kk:=2) (by decide) h7 he λh=>yk hS (by decide) BC (yk hS (by decide) Xo h)
 rw[az h7]at he;have h7':=qE.2 h7;by_cases h8:dF g [111,110,99,101] 1=true
 .rw[aO h8]at he;exact tk (kk:=3) (by decide) h8 he λh=>yk hS (by decide) BC (yk hS (by decide) Xo (yk hS (by decide) h7' h))
 rw[az h8]at he;have h8':=qE.2 h8;refine Xd rfl rfl (Xg hS h1 h2 h3 no4 λ_=>yk hS (by decide) BC (yk hS (by decide) Xo (yk hS (by decide) h7' (yk hS (by decide) h8' (arv hS (arw hS a_.1 ?_ he))))));have⟨k,n,nm,l⟩:=g;show l.length<4000000;match l,hG with
 |[],_=>simp
 |[_],_=>simp
 |[_,_],_=>simp
 |_::_::_::_,h=>exact h
theorem anI:∀N,aU Z (T0 N):=yX anj (λw A H h=>by have:=h.2.2.1.2.1;omega) (λN hS w A H h=>ary (anK hS) w A H h)
theorem ajl:∃n,n=1000000:=⟨_,rfl⟩
def NN:Nat:=ajl.choose
theorem adh:NN=1000000:=ajl.choose_spec
def Gf:Ev.bo:=T0 NN
def ahU(x n:Int):Int:=if wI (n+1)>x then wI (n+1)else x
def qO(x:Int)(l:LI):Int:=l.foldl ahU x
def afX:cx (aI×aI)where
 bn w A H:=A=[.bq 0 0 2 2 4 true]/\H=al [(0,.aj (aW w.1++aW w.2) 49)] 1/\bL w.1/\bL w.2
 v w:=J (qO (qO 0 (gh w.1)) (gh w.2))
 aK w:=al [(0,.aj (ij w.1++ij w.2) 49)] 1
theorem anY:afX.cr:=by rintro⟨a,b⟩ ⟨a',b'⟩ A H ⟨_,h1,_⟩ ⟨_,h2,_⟩;rw[h1]at h2;have:=congrArg (λH=>AH.bf H 0) h2;simp only[eh,cN,if_true,pg,bk.aj.injEq,and_true]at this;rw[A4 (c:=(a,b)) (c':=(a',b')) this]
def UI:Ev.bo:=bR 49 (ca afX anY cD) Gf
def agI:LV->AH->Option Sp
 |[.aJ,.bU .i64 n],H=>some (.zC ((H=an/\0<=n/\n<=4000000),.ai 0 0 5,al [(0,.ay [] 106)] 1))
 |_,_=>none
def JX:Ev.bo:=bR 118 agI UI
def ot(l:List (List bG)):bk:=.ay (iN l) 84
def Bp(l:List bG):bk:=.ay (dM l) 106
def aeR:cx (List (List bG))where
 bn l A H:=A=[.ai 0 l.length 1]/\H=al [(0,ot l)] 1/\(∀x∈l,x≠[])/\l.flatten.length<=4000000/\l.length<=4000000
 v l:=.ai 1 l.flatten.length 5
 aK l:=al [(0,ot l),(1,Bp l.flatten)] 2
theorem apl:aeR.cr:=by rintro l l' A H ⟨_,h1,_⟩ ⟨_,h2,_⟩;rw[h1]at h2;have:=congrArg (λH=>AH.bf H 0) h2;simp only[eh,cN,if_true,pg,ot,bk.ay.injEq,and_true]at this;rw[WC this]
def Dx:Ev.bo:=bR 83 (ca aeR apl cD) JX
def Iy:Nat->LN:=fT [(999995,[2000004,2000006]),(999998,[0,4,5,8])]
def Iz:Nat->LN:=fT [(999995,[2000006]),(999998,[0,4])]
def Ml:Nat->LN:=fT [(999995,[2000007]),(999998,[9])]
def aiO:Nat->LN:=fT [(8,[9,45,46,47])]
def ZJ:Nat->LN:=fT [(3,[0,3,9,10,11]),(11,[6,25,26,27])]
def Mk:Nat->LN:=fT [(3,[1000000]),(6,[3,8,9,10,15,16,17])]
theorem aA7{k n s cs len k' n' s' cs' cB L Q}:
 bI Z Gf Mk L Q 1000 49 [.bq 0 0 2 2 4 true] (al [(0,.aj [J k,J n,.ab s,.ad cs len 4,J k',J n',.ab s',.ad cs' cB 4] 49)] 1)=(
 ∃w,(([.ah [J k,J n,.ab s,.ad cs len 4]]:LV)=[.ah (aW w)]/\al [] 0=an/\bL w)/\L (aB [(3,J 0),(8,.bq 0 0 2 2 4 true),(9,J 2),(10,J 0),(15,.ad (aX (gh w)) (gh w).length 1),(16,J (aE (gh w).length)),(17,J 0)]) (al [(0,.aj [J k,J n,.ab s,.ad cs len 4,J k',J n',.ab s',.ad cs' cB 4] 49)] 1) (aw Z 49 1)):=by kernel_rfl
theorem aA8{x l i k n s cs len k' n' s' cs' cB L Q}:
 ck Z Gf Mk L Q 1000 49 1 (aB [(3,J x),(8,.bq 0 0 2 2 4 true),(9,J 2),(10,J 0),(15,.ad (aX l) l.length 1),(16,J (aE l.length)),(17,J i)]) (aw Z 49 1) (al [(0,.aj [J k,J n,.ab s,.ad cs len 4,J k',J n',.ab s',.ad cs' cB 4] 49)] 1)=(
 aq (decide (i<aE l.length)) (∃aL:Nat,i=(aL:Int)/\aL<l.length/\(∃aP,(((aX l).drop (aL*1)).take 1:List AV)=[J aP]/\L (aB [(3,J (if wI (aP+1)>x then wI (aP+1)else x)),(8,.bq 0 0 2 2 4 true),(9,J 2),(10,J 0),(15,.ad (aX l) l.length 1),(16,J (aE l.length)),(17,J (wI (i+1)))]) (al [(0,.aj [J k,J n,.ab s,.ad cs len 4,J k',J n',.ab s',.ad cs' cB 4] 49)] 1) (aw Z 49 1))) (∃w,(([.ah [J k',J n',.ab s',.ad cs' cB 4]]:LV)=[.ah (aW w)]/\al [] 0=an/\bL w)/\L (aB [(3,J x),(8,.bq 0 0 2 2 4 true),(9,J 2),(10,J 1),(15,.ad (aX (gh w)) (gh w).length 1),(16,J (aE (gh w).length)),(17,J 0)]) (al [(0,.aj [J k,J n,.ab s,.ad cs len 4,J k',J n',.ab s',.ad cs' cB 4] 49)] 1) (aw Z 49 1))):=by kernel_rfl
theorem aA9{x l i k n s cs len k' n' s' cs' cB L Q}:
 ck Z Gf Mk L Q 1000 49 1 (aB [(3,J x),(8,.bq 0 0 2 2 4 true),(9,J 2),(10,J 1),(15,.ad (aX l) l.length 1),(16,J (aE l.length)),(17,J i)]) (aw Z 49 1) (al [(0,.aj [J k,J n,.ab s,.ad cs len 4,J k',J n',.ab s',.ad cs' cB 4] 49)] 1)=(
 aq (decide (i<aE l.length)) (∃aL:Nat,i=(aL:Int)/\aL<l.length/\(∃aP,(((aX l).drop (aL*1)).take 1:List AV)=[J aP]/\L (aB [(3,J (if wI (aP+1)>x then wI (aP+1)else x)),(8,.bq 0 0 2 2 4 true),(9,J 2),(10,J 1),(15,.ad (aX l) l.length 1),(16,J (aE l.length)),(17,J (wI (i+1)))]) (al [(0,.aj [J k,J n,.ab s,.ad cs len 4,J k',J n',.ab s',.ad cs' cB 4] 49)] 1) (aw Z 49 1))) (Q (J x) (al [(0,.aj [J k,J n,.ab s,.ad cs len 4,J k',J n',.ab s',.ad cs' cB 4] 49)] 1))):=by kernel_rfl
theorem aln{n L Q}:
 bI Z UI (λ_=>[]) L Q 1000 118 [.aJ,J n] an=(
 aq (decide (n<0)) (Q (.dH (.dT 9 (.ab [99,97,110,110,111,116,32,98,101,32,110,101,103,97,116,105,118,101]))) an) (aq (decide (wI (n-0)>0)) (∃i:Nat,wI (n-0)=(i:Int)/\i<=4194304/\(i=0->Q .aJ an)/\(1<=i->(i<=4194304/\List.all (j9 (Go.Ev.AV.dK (.ah [.ab [],J 0,J 0,.aJ,.aJ])) i) AV.cX=true/\List.all (j9 (Go.Ev.AV.dK (.ah [.ab [],J 0,J 0,.aJ,.aJ])) i) eG=true)/\(∃aL:Nat,0=(aL:Int)/\(0<=aL/\aL<=i)/\Q (.ai 0 (aL-0) 5) (al [(0,.ay (j9 [.ab [],J 0,J 0,.aJ,.aJ] i) 106)] 1)))) (Q .aJ an))):=by kernel_rfl
theorem aBM{l L Q}:
 bI Z JX ZJ L Q 1000 83 [.ai 0 l.length 1] (al [(0,ot l)] 1)=(
 L (aB [(0,.ai 0 l.length 1),(3,J 0),(9,.ai 0 l.length 1),(10,J (aE l.length)),(11,J 0)]) (al [(0,ot l)] 1) (aw Z 83 0)):=by kernel_rfl
theorem aBN{l x i L Q}:
 ck Z JX ZJ L Q 1000 83 1 (aB [(0,.ai 0 l.length 1),(3,J x),(9,.ai 0 l.length 1),(10,J (aE l.length)),(11,J i)]) (aw Z 83 0) (al [(0,ot l)] 1)=(
 aq (decide (i<aE l.length)) (∃aL:Nat,i=(aL:Int)/\aL<l.length/\(∃cs len,cw Z 84 (iN l) (aL*1)=some (.ad cs len 5:AV)/\aq (decide (wI (x+aE len)<0)) (Q (.dH (.dT 9 (.ab [108,101,110,32,111,117,116,32,111,102,32,114,97,110,103,101]))) (al [(0,ot l)] 1)) (L (aB [(0,.ai 0 l.length 1),(3,J (wI (x+aE len))),(9,.ai 0 l.length 1),(10,J (aE l.length)),(11,J (wI (i+1)))]) (al [(0,ot l)] 1) (aw Z 83 0)))) ((al [] 0=an/\(0:Int)<=x/\x<=4000000)/\L (aB [(6,.ai 1 0 5),(25,.ai 0 l.length 1),(26,J (aE l.length)),(27,J 0)]) (al [(0,ot l),(1,.ay [] 106)] 2) (aw Z 83 1))):=by kernel_rfl
theorem aBO{l fs i L Q}:
 ck Z JX ZJ L Q 1000 83 1 (aB [(6,.ai 1 fs.length 5),(25,.ai 0 l.length 1),(26,J (aE l.length)),(27,J i)]) (aw Z 83 1) (al [(0,ot l),(1,Bp fs)] 2)=(
 aq (decide (i<aE l.length)) (∃aL:Nat,i=(aL:Int)/\aL<l.length/\(∃cs len,cw Z 84 (iN l) (aL*1)=some (.ad cs len 5:AV)/\(len=0->fs.length<=4194304/\L (aB [(6,.ai 1 fs.length 5),(25,.ai 0 l.length 1),(26,J (aE l.length)),(27,J (wI (i+1)))]) (al [(0,ot l),(1,Bp fs)] 2) (aw Z 83 1))/\(1<=len->((dM fs).length=fs.length*5/\fs.length+len<=4194304/\List.all cs AV.cX=true/\List.all cs eG=true)/\L (aB [(6,.ai 1 (fs.length+len) 5),(25,.ai 0 l.length 1),(26,J (aE l.length)),(27,J (wI (i+1)))]) (al [(0,ot l),(1,.ay (dM fs++cs) 106)] 2) (aw Z 83 1)))) (Q (.ai 1 fs.length 5) (al [(0,ot l),(1,Bp fs)] 2))):=by kernel_rfl
theorem aBd{s dU ar au ds m k n nm cs len L Q}:
 bI Z Dx Iy L Q 1000 51 [.aa 0 0,.ah [.ab dU,J ar,J au,.ad ds m 4,.aJ],.ah [J k,J n,.ab nm,.ad cs len 4]] (hT s)=(
 ∃w,(([.ah [J k,J n,.ab nm,.ad cs len 4]]:LV)=[.ah (aW w)]/\al [] 0=an/\bL w)/\aq (DM w) (∃ae,(([.aa 0 0]:LV)=[.aa 0 0]/\hT s=hT ae)/\(al [] 0=an/\True)/\some (.aJ:AV)=some (.aJ:AV)/\L (aB [(0,.aa 0 0),(4,.aa 2 0),(5,.aa 3 0),(8,J (bV ae.nv))]) (al [(0,ct ae.nx 1),(1,cz ae.nx),(2,.aj [.ab dU,J ar,J au,.ad ds m 4,.ai 4 1 6] 106),(3,en k n nm cs len),(4,.aj [J 2,.ab [],J 0,J 0,.ad [] 0 4,J (bV ae.nv)] 146)] 5) (di Z Iy 51 0)) (∃ae:Gw,(([.aa 0 0,.ah [J k,J n,.ab nm,.ad cs len 4],J 0]:LV)=[.aa 0 0,.ah (aW ae.g),J ae.c]/\hT s=hT ae.s/\eL NN 3000000 ae.s ae.g/\dX NN ae.s ae.g ae.c=Prod.mk ae.s2 ae.l)/\L (aB [(0,.aa 0 0),(4,.aa 2 0),(5,.aa 3 0)]) (al [(0,ct ae.s2 4),(1,.bc []),(2,.aj [.ab dU,J ar,J au,.ad ds m 4,.ai 5 ae.l.length 6] 106),(3,en k n nm cs len),(4,cz ae.s2),(5,iQ ae.l)] 6) (di Z Iy 51 1))):=by kernel_rfl
theorem aBa{s dU ar au ds m gs k n nm cs len c L Q}:
 ck Z Dx Iz L Q 1000 51 2 (aB [(0,.aa 0 0),(4,.aa 2 0),(5,.aa 3 0),(8,J c)]) (di Z Iy 51 0) (al [(0,ct s 1),(1,cz s),(2,.aj [.ab dU,J ar,J au,.ad ds m 4,.ai 4 gs.length 6] 106),(3,en k n nm cs len),(4,iQ gs)] 5)=(
 ∃w:Gw,(([.aa 0 0,.ah [J k,J n,.ab nm,.ad cs len 4],J c]:LV)=[.aa 0 0,.ah (aW w.g),J w.c]/\hT s=hT w.s/\eL NN 3000000 w.s w.g/\dX NN w.s w.g w.c=Prod.mk w.s2 w.l)/\some (.ai 4 gs.length 6:AV)=some (.ai 4 gs.length 6:AV)/\(bD w.l).length=w.l.length*6/\(w.l.length=0->gs.length<=4194304/\L (aB [(0,.aa 0 0),(4,.aa 2 0)]) (al [(0,ct w.s2 3),(1,.bc []),(2,.aj [.ab dU,J ar,J au,.ad ds m 4,.ai 4 gs.length 6] 106),(3,cz w.s2),(4,iQ gs)] 5) (di Z Iz 51 0))/\(1<=w.l.length->((bD gs).length=gs.length*6/\gs.length+w.l.length<=4194304/\List.all (bD w.l) AV.cX=true/\List.all (bD w.l) eG=true)/\L (aB [(0,.aa 0 0),(4,.aa 2 0)]) (al [(0,ct w.s2 3),(1,.bc []),(2,.aj [.ab dU,J ar,J au,.ad ds m 4,.ai 4 (gs.length+w.l.length) 6] 106),(3,cz w.s2),(4,.ay (bD gs++bD w.l) 146)] 5) (di Z Iz 51 0))):=by kernel_rfl
theorem aBb{s dU ar au ds m gs ng L Q}:
 ck Z Dx Ml L Q 1000 51 2 (aB [(0,.aa 0 0),(4,.aa 2 0)]) (di Z Iz 51 0) (al [(0,ct s 3),(1,.bc []),(2,.aj [.ab dU,J ar,J au,.ad ds m 4,.ad gs ng 6] 106),(3,cz s),(4,.bc [])] 5)=(
 ∃w,(([.ai 0 s.au.length 1]:LV)=[.ai 0 w.length 1]/\al [(0,cz s)] 1=al [(0,ot w)] 1/\(∀x,x∈w->(x:List bG)=[]->False)/\(List.flatten w).length<=4000000/\w.length<=4000000)/\some (.ah [.ab dU,J ar,J au,.ad ds m 4,.ad gs ng 6]:AV)=some (.ah [.ab dU,J ar,J au,.ad ds m 4,.ad gs ng 6]:AV)/\(dM (List.flatten w)).length=(List.flatten w).length*5/\((List.flatten w).length=0->1<=4194304/\L (aB [(9,.bq 2 0 1 1 5 true)]) (al [(0,ct s 3),(1,.bc []),(2,.aj [.ab dU,J ar,J au,.ad ds m 4,.ad gs ng 6] 106),(3,ot w)] 4) (di Z Ml 51 0))/\(1<=(List.flatten w).length->(5<=5/\1+(List.flatten w).length<=4194304/\(List.all (dM (List.flatten w)) AV.cX=true/\List.all (dM (List.flatten w)) eG=true)/\(true=true/\true=true)/\true=true/\1<=1)/\L (aB [(9,.ai 2 (1+(List.flatten w).length) 5)]) (al [(0,ct s 3),(1,.bc []),(2,.ay (.ab dU::J ar::J au::.ad ds m 4::.ad gs ng 6::List.append._f [] PUnit.unit (dM (List.flatten w))) 106),(3,ot w)] 4) (di Z Ml 51 0))):=by kernel_rfl
theorem aBc{s fs nf L Q}:
 ck Z Dx aiO L Q 1000 51 2 (aB [(9,.ad fs nf 5)]) (di Z Ml 51 0) (al [(0,ct s 2),(1,.bc []),(2,cz s)] 3)=(
 L (aB [(9,.ad fs nf 5),(45,.ad fs nf 5),(46,J (aE nf)),(47,J 0)]) (nq s) (aw Z 51 0)):=by kernel_rfl
theorem aBe{s fs nf i L Q}:
 ck Z Dx aiO L Q 1000 51 2 (aB [(9,.ad fs nf 5),(45,.ad fs nf 5),(46,J (aE nf)),(47,J i)]) (aw Z 51 0) (al [(0,ct s 2),(1,.bc []),(2,cz s)] 3)=(
 aq (decide (i<aE nf)) (∃aL:Nat,i=(aL:Int)/\aL<nf/\(∃cn n aP cs len bP bH,((fs.drop (aL*5)).take 5:List AV)=[.ab cn,J n,J aP,.ad cs len 4,.ad bP bH 6]/\(al [] 0=an/\Q0 [.ab cn,J n,J aP,.ad cs len 4,.ad bP bH 6])/\aq (!DN jM [.ab cn,J n,J aP,.ad cs len 4,.ad bP bH 6]) (Q (.aC [.aJ,J 2]) (nq s)) (L (aB [(9,.ad fs nf 5),(45,.ad fs nf 5),(46,J (aE nf)),(47,J (wI (i+1)))]) (nq s) (aw Z 51 0)))) (Q (.aC [.ad fs nf 5,J 0]) (nq s))):=by kernel_rfl
theorem UG:aU Z Gf:=anI NN
theorem alK(R:Int->Prop){v H1 l k n k' n' s s' cs cs' len cB j}(hl:l.length<4000000)(asR:∀x i,ck Z Gf Mk (br Z 49 28 1 v H1) (fA v H1) 1000 49 1 (aB [(3,J x),(8,.bq 0 0 2 2 4 true),(9,J 2),(10,J j),(15,.ad (aX l) l.length 1),(16,J (aE l.length)),(17,J i)]) (aw Z 49 1) (al [(0,.aj [J k,J n,.ab s,.ad cs len 4,J k',J n',.ab s',.ad cs' cB 4] 49)] 1)=
 aq (decide (i<aE l.length)) (∃aL:Nat,i=(aL:Int)/\aL<l.length/\(∃aP,(((aX l).drop (aL*1)).take 1:List AV)=[J aP]/\br Z 49 28 1 v H1 (aB [(3,J (ahU x aP)),(8,.bq 0 0 2 2 4 true),(9,J 2),(10,J j),(15,.ad (aX l) l.length 1),(16,J (aE l.length)),(17,J (wI (i+1)))]) (al [(0,.aj [J k,J n,.ab s,.ad cs len 4,J k',J n',.ab s',.ad cs' cB 4] 49)] 1) (aw Z 49 1))) (R x)) (x0) (hR:R (qO x0 l)):∀i,i<=l.length->br Z 49 28 1 v H1 (aB [(3,J (qO x0 (l.take i))),(8,.bq 0 0 2 2 4 true),(9,J 2),(10,J j),(15,.ad (aX l) l.length 1),(16,J (aE l.length)),(17,J (i:Int))]) (al [(0,.aj [J k,J n,.ab s,.ad cs len 4,J k',J n',.ab s',.ad cs' cB 4] 49)] 1) (aw Z 49 1):=by
 refine dS (λi=>l.length-i) _ _ _ _ ?_;rintro i hi ih;refine hD UG 1000 Mk (by kernel_rfl) ?_;rw[asR];refine aD.2 ⟨λax=>?_,λbu=>?_⟩
 .have ax:i<l.length:=by simpa using ax
  refine⟨i,rfl,ax,l[i],akI ax,?_⟩;rw[cO (by omega) (by omega)];have:=ih (i+1) (by omega) (by omega);rw[vR,ir ax,qO,I8]at this;exact this
 .have bu:l.length<=i:=by simpa using bu
  have:i=l.length:=by omega
  subst this;rw[vT];exact hR
theorem UJ:aU Z UI:=by
 refine cA UG ?_;rintro⟨⟨k,n,s,l⟩,⟨k',n',s',l'⟩⟩ args H ⟨rfl,rfl,h1,h2⟩;have b1:=Nt (.mk k n s l);have b2:=Nt (.mk k' n' s' l');show bZ Z 49 _ _ (J (qO (qO 0 (gh (.mk k n s l))) (gh (.mk k' n' s' l')))) (al [(0,.aj (ij (.mk k n s l)++ij (.mk k' n' s' l')) 49)] 1);refine eE 28 UG aA7 ?_;refine⟨.mk k n s l,⟨rfl,rfl,h1⟩,?_⟩;generalize EN:gh (.mk k n s l)=u1 at b1⊢;have mA:u1.length<4000000:=by omega
 refine alK (λx=>∃w:aI,(([.ah [J k',J n',.ab s',.ad (aF l') l'.length 4]]:LV)=[.ah (aW w)]/\al [] 0=an/\bL w)/\br Z 49 28 1 (J (qO (qO 0 u1) (gh (.mk k' n' s' l')))) (al [(0,.aj (ij (.mk k n s l)++ij (.mk k' n' s' l')) 49)] 1) (aB [(3,J x),(8,.bq 0 0 2 2 4 true),(9,J 2),(10,J 1),(15,.ad (aX (gh w)) (gh w).length 1),(16,J (aE (gh w).length)),(17,J 0)]) (al [(0,.aj [J k,J n,.ab s,.ad (aF l) l.length 4,J k',J n',.ab s',.ad (aF l') l'.length 4] 49)] 1) (aw Z 49 1)) mA (λx i=> @aA8 x u1 i k n s (aF l) l.length k' n' s' (aF l') l'.length _ _) 0 ?_ 0 (gq _);refine⟨.mk k' n' s' l',⟨rfl,rfl,h2⟩,?_⟩;generalize QR:gh (.mk k' n' s' l')=u2 at b2⊢;have il:u2.length<4000000:=by omega
 exact alK (λx=>fA (J (qO (qO 0 u1) u2)) (al [(0,.aj (ij (.mk k n s l)++ij (.mk k' n' s' l')) 49)] 1) (J x) (al [(0,.aj [J k,J n,.ab s,.ad (aF l) l.length 4,J k',J n',.ab s',.ad (aF l') l'.length 4] 49)] 1)) il (λx i=> @aA9 x u2 i k n s (aF l) l.length k' n' s' (aF l') l'.length _ _) (qO 0 u1) ⟨rfl,rfl⟩ 0 (gq _)
theorem Ol:aU Z JX:=by
 refine xW UJ λargs H sp p v H' hs hd hp=>?_
 unfold agI at hs;split at hs<;>cases hs;cases hd;rename_i n;obtain⟨rfl,h0,h4⟩:=hp;obtain⟨i,rfl⟩:=Int.eq_ofNat_of_zero_le h0;have hw:wI ((i:Int)-0)=(i:Int):=by rw[Int.sub_zero];exact cO (by omega) (by omega)
 by_cases hi:i=0
 .subst hi;refine Py (l:=[]) ?_ rfl (gq _);refine eE 27 UJ aln ?_;exact aD.2 ⟨λh=>absurd (dQ h) (by decide),λ_=>aD.2 ⟨λh=>absurd (dQ h) (by rw[hw];decide),λ_=>⟨rfl,rfl⟩⟩⟩
 .have hz:∀m:Nat,(j9 [AV.ab [],J 0,J 0,.aJ,.aJ] m).all AV.cX=true/\(j9 [AV.ab [],J 0,J 0,.aJ,.aJ] m).all eG=true:=by
   intro m;induction m with
   |zero=>exact⟨rfl,rfl⟩
   |succ m ih=>simp only[j9,sc,ih.1,ih.2,yW];exact⟨rfl,rfl⟩
  refine G' (g:=0) (l:=[(0,.ay (j9 [.ab [],J 0,J 0,.aJ,.aJ] i) 106)]) (v:=.ai 0 (0-0) 5) ?_ rfl (λφ e o h=>adi 0 h) rfl (gq _);refine eS UJ 1000 (λ_=>[]) 27 (by kernel_rfl) ?_;rw[aln,hw];exact aD.2 ⟨λh=>absurd (dQ h) (by omega),λ_=>aD.2 ⟨λ_=>⟨i,rfl,by omega,λh=>absurd h hi,λ_=>⟨⟨by omega,hz i⟩,0,rfl,⟨cM _,gq _⟩,rfl,rfl⟩⟩,λh=>absurd (ez h) (by omega)⟩⟩
theorem avp(cs off):cw Z 84 cs off=cs[off]? :=by kernel_rfl
theorem aea{l}(hl:∀x∈l,x≠[]){i}(h:i<l.length):cw Z 84 (iN l) (i*1)=some (.ad (dM l[i]) l[i].length 5):=by rw[avp,oI,iN,uv,ir h,qC,afA (hl _ (pW h))]
theorem af9{l:List (List bG)}{i}(h:i<l.length):(l.take (i+1)).flatten=(l.take i).flatten++l[i]:=by rw[vR,ir h,qes];simp
theorem af8{l:List (List bG)}(i):(l.take i).flatten.length<=l.flatten.length:=by
 conv=>{rhs;rw[<-xg i l,qes,cI]}
 omega
theorem aBL{l}(hl:∀x∈l,x≠[])(hn:l.flatten.length<=4000000)(BQ:l.length<=4000000):
 ∀i,i<=l.length->br Z 83 36 1 (.ai 1 l.flatten.length 5) (al [(0,ot l),(1,Bp l.flatten)] 2) (aB [(6,.ai 1 (l.take i).flatten.length 5),(25,.ai 0 l.length 1),(26,J (aE l.length)),(27,J (i:Int))]) (al [(0,ot l),(1,Bp (l.take i).flatten)] 2) (aw Z 83 1):=by
 refine dS (λi=>l.length-i) _ _ _ _ ?_;rintro i hi ih;refine hE Ol aBO ?_;refine aD.2 ⟨λax=>?_,λbu=>?_⟩
 .have ax:i<l.length:=by simpa using ax
  have h1:=ih (i+1) (by omega) (by omega);have h2:=af8 (l:=l) (i+1);rw[af9 ax]at h1 h2;rw[cI]at h2;refine⟨i,rfl,ax,dM l[i],l[i].length,aea hl ax,λh0=>absurd (mJ h0) (hl _ (pW ax)),λ_=>⟨⟨GU _,by omega,afq _⟩,?_⟩⟩;rw[cO (by omega) (by omega),<-WI,<-cI];exact h1
 .have bu:l.length<=i:=by simpa using bu
  rw[CB bu];exact⟨rfl,rfl⟩
theorem aBK{l}(hl:∀x∈l,x≠[])(hn:l.flatten.length<=4000000)(BQ:l.length<=4000000):
 ∀i,i<=l.length->br Z 83 36 1 (.ai 1 l.flatten.length 5) (al [(0,ot l),(1,Bp l.flatten)] 2) (aB [(0,.ai 0 l.length 1),(3,J (((l.take i).flatten.length:Nat):Int)),(9,.ai 0 l.length 1),(10,J (aE l.length)),(11,J (i:Int))]) (al [(0,ot l)] 1) (aw Z 83 0):=by
 refine dS (λi=>l.length-i) _ _ _ _ ?_;rintro i hi ih;refine hE Ol aBN ?_;refine aD.2 ⟨λax=>?_,λbu=>?_⟩
 .have ax:i<l.length:=by simpa using ax
  have h1:=ih (i+1) (by omega) (by omega);have h2:=af8 (l:=l) (i+1);rw[af9 ax]at h1 h2;rw[cI]at h1 h2;refine⟨i,rfl,ax,dM l[i],l[i].length,aea hl ax,?_⟩;rw[show aE l[i].length=((l[i].length:Nat):Int)from rfl,cO (by omega) (by omega),cO (by omega) (by omega)];refine aD.2 ⟨λh=>absurd (dQ h) (by omega),λ_=>?_⟩;rw[Int.natCast_add]at h1;exact h1
 .have bu:l.length<=i:=by simpa using bu
  rw[CB bu];exact⟨⟨rfl,by omega,by omega⟩,aBL hl hn BQ 0 (gq _)⟩
theorem Gg:aU Z Dx:=by refine cA Ol ?_;rintro l args H ⟨rfl,rfl,h1,h2,h3⟩;refine eE 36 Ol aBM ?_;exact aBK h1 h2 h3 0 (gq _)
def kv(s:da)(g:aI):da×fO:=
 if DM g then((dX NN s.nx g (bV s.nv)).1,oG 2 (bV s.nv)::(dX NN s.nx g (bV s.nv)).2)else dX NN s g 0
def zP(s:da)(p:cV)(args:eK)(g:aI):List bG:=⟨p,args,(kv s g).2⟩::(kv s g).1.au.flatten
def zb(l:List bG):AV:=if l.all jM then .aC [.ad (dM l) l.length 5,J 0]else .aC [.aJ,J 2]
theorem afp(f):(gH f).length=5:=rfl
theorem Pr:∀{l i} (h:i<l.length),((dM l).drop (i*5)).take 5=gH l[i]
 |[],i,h=>by simp at h
 |t0::l,0,h=>by simp;exact xm (afp t0)
 |t0::l,i+1,h=>by
  have hl:i<l.length:=by simpa using h
  have:=Pr hl;simp only[dM,Cz];rw[<-this];have e:(i+1)*5=(gH t0).length+i*5:=by rw[afp];omega
  rw[e,I2]
theorem av8{s l}(ho:∀f∈l,iW f)(hl:l.length<=4000000):∀i:Nat,i<=l.length->(∀f∈l.take i,jM f=true)->br Z 51 56 2 (zb l) (nq s) (aB [(9,.ad (dM l) l.length 5),(45,.ad (dM l) l.length 5),(46,J (aE l.length)),(47,J (i:Int))]) (nq s) (aw Z 51 0):=by
 have rj:=dS (ds:=[]) (P:=Z) (f:=51) (nt:=56) (m0:=2) (v:=zb l) (H1:=nq s) (λi:Nat=>l.length-i) (λi:Nat=>aB [(9,.ad (dM l) l.length 5),(45,.ad (dM l) l.length 5),(46,J (aE l.length)),(47,J (i:Int))]) (λ_=>nq s) (aw Z 51 0) (λi=>i<=l.length/\∀f∈l.take i,jM f=true) ?_
 .exact λi h1 h2=>rj i ⟨h1,h2⟩
 rintro i ⟨hi,hv⟩ ih;refine hE Gg aBe ?_;refine aD.2 ⟨λax=>?_,λbu=>?_⟩
 .have ax:i<l.length:=by simpa using ax
  have bX:=Pr ax;have sX:=ho _ (pW ax);have iK:=pW ax;generalize hg:l[i]=f at bX sX iK;have⟨⟨nm,ar,au⟩,ts,gs⟩:=f;refine⟨i,rfl,ax,nm,ar,au,aF ts,ts.length,bD gs,gs.length,bX,⟨rfl,⟨_,rfl,sX⟩⟩,?_⟩;rw[show([.ab nm,J ar,J au,.ad (aF ts) ts.length 4,.ad (bD gs) gs.length 6]:LV)=gH ⟨⟨nm,ar,au⟩,ts,gs⟩from rfl,Pe];refine aD.2 ⟨λh=>?_,λh=>?_⟩
  .have h:jM ⟨⟨nm,ar,au⟩,ts,gs⟩=false:=by simpa using h
   have:zb l=.aC [.aJ,J 2]:=by rw[zb,az];intro ha;rw[lZ]at ha;rw[ha _ iK]at h;cases h
   rw[this];exact⟨rfl,rfl⟩
  .have h:jM ⟨⟨nm,ar,au⟩,ts,gs⟩=true:=by simpa using h
   rw[cO (by omega) (by omega)];refine ih (i+1) ⟨by omega,λf hf=>?_⟩ (by omega);rw[vR,ir ax,hg]at hf;rcases ia.1 hf with hf|hf
   .exact hv f hf
   .simp at hf;subst hf;exact h
 .have bu:l.length<=i:=by simpa using bu
  rw[CB bu]at hv;have:zb l=.aC [.ad (dM l) l.length 5,J 0]:=by rw[zb,aO (lZ.2 hv)]
  rw[this];exact⟨rfl,rfl⟩
theorem alM{s l}(ho:∀f∈l,iW f)(hl:l.length<=4000000):br Z 51 56 2 (zb l) (nq s) (aB [(9,.ai 2 l.length 5)]) (al [(0,ct s 3),(1,.bc []),(2,Bp l),(3,cz s)] 4) (di Z Ml 51 0):=by
 have e:gT 2 (dM l) (.ai 2 l.length 5)=.ad (dM l) l.length 5:=by simp[gT,GU]
 refine HM (g:=2) ?_ rfl (by kernel_rfl);simp only[Br];rw[e];refine HR (oh:=[]) (ls:=[9]) (ps:=[(0,0),(1,1),(3,2)]) (H2:=al [(0,ct s 2),(1,.bc []),(2,cz s)] 3) (t:=aB [(9,.ad (dM l) l.length 5)]) (by kernel_rfl) (by kernel_rfl) (by kernel_rfl) ?_;refine hE Gg aBc ?_;exact av8 ho hl 0 (gq _) (λf hf=>by simp at hf)
theorem aBf{s p args gs}(cE:∀x∈s.au,x≠[])(ho:∀f∈⟨p,args,gs⟩::s.au.flatten,iW f)(hl:s.au.flatten.length+1<=4000000)(h_:s.au.length<=4000000):
 br Z 51 56 2 (zb (⟨p,args,gs⟩::s.au.flatten)) (nq s) (aB [(0,.aa 0 0),(4,.aa 2 0)]) (al [(0,ct s 3),(1,.bc []),(2,.aj [.ab p.cL,J p.ar,J p.au,.ad (aF args) args.length 4,.ai 4 gs.length 6] 106),(3,cz s),(4,iQ gs)] 5) (di Z Iz 51 0):=by
 refine HM (g:=4) ?_ rfl (by kernel_rfl);refine sS (H':=al [(0,ct s 3),(1,.bc []),(2,.aj [.ab p.cL,J p.ar,J p.au,.ad (aF args) args.length 4,kb gs] 106),(3,cz s),(4,.bc [])] 5) ?_ (by rw[<-KS gs];exact⟨cM _,λφ bs w _ hw=>⟨φ,hw,⟨jh.zj _ _,.of rfl rfl⟩,rfl⟩⟩) (by kernel_rfl);refine hE Gg aBb ?_;refine⟨s.au,⟨rfl,rfl,λx hx h=>cE x hx h,by omega,h_⟩,rfl,GU _,λh0=>⟨by omega,?_⟩,λh1=>⟨⟨by omega,by omega,afq _,⟨rfl,rfl⟩,rfl,by omega⟩,?_⟩⟩
 .have:=mJ h0;rw[this]at ho⊢;exact yr (g:=2) (alM ho (by simp)) rfl (λφ e o h=>rQ rfl h) rfl (by kernel_rfl)
 .have h2:=alM (s:=s) ho (by simp only[ej];omega);rw[show(⟨p,args,gs⟩::s.au.flatten:List bG).length=1+s.au.flatten.length by simp;omega]at h2;exact h2
def AP(l:List bG):List bG×Int:=if l.all jM then(l,0)else([],2)
structure Ww where
 s:da
 p:cV
 xL:eK
 g:aI
 r:List bG
 e:Int
 s2:da
def whX:cx Ww where
 bn w A H:=A=[.aa 0 0,.ah [.ab w.p.cL,J w.p.ar,J w.p.au,.ad (aF w.xL) w.xL.length 4,.aJ],.ah (aW w.g)]/\H=hT w.s/\eL NN 3000000 w.s w.g/\
  (∀x∈(kv w.s w.g).1.au,x≠[])/\(∀f∈zP w.s w.p w.xL w.g,iW f)/\(zP w.s w.p w.xL w.g).length<=4000000/\AP (zP w.s w.p w.xL w.g)=(w.r,w.e)/\(kv w.s w.g).1=w.s2
 v w:=.aC [.ad (dM w.r) w.r.length 5,J w.e]
 aK w:=nq w.s2
theorem aDp:whX.cr:=by rintro⟨s,⟨nm,ar,au⟩,ts,g,r,e,s2⟩ ⟨s',⟨lV,VA,VL⟩,kH,g',r',e',M9⟩ A H ⟨h1,h2,_,_,_,_,q1,q2⟩ ⟨h3,h4,_,_,_,_,q3,q4⟩;rw[h1]at h3;rw[h2]at h4;simp at h3;obtain⟨⟨rfl,rfl,rfl,e1,e2⟩,e3⟩:=h3;have e4:=HE h4;have e5:=m_ e3;have e6:=tQ e2 e1;subst e4 e5 e6;rw[q1]at q3;cases q3;rw[q2]at q4;subst q4;rfl
def JY:Ev.bo:=bR 51 (ca whX aDp cD) Dx
theorem aDq{s s2 A l r e}(hr:AP l=(r,e))(h:bZ Z 51 A (hT s) (zb l) (nq s2)):bZ Z 51 A (hT s) (.aC [.ad (dM r) r.length 5,J e]) (nq s2):=by
 unfold AP at hr;unfold zb at h;split at hr;next hv=>rw[aO hv]at h;cases hr;exact h
 next hv=>rw[az hv]at h;cases hr;exact tS h (Wk.FU (.ta 5 (.oq _))) (by show(2:Nat)<=3;omega)
theorem ara{N M s g}(h:eL N M s g):eL N M s.nx g:=h
theorem JZ:aU Z JY:=by
 refine cA Gg ?_;rintro⟨s,p,ts,g,r,e,s2⟩ args H ⟨rfl,rfl,hg,cE,ho,hl,pT,nZ⟩;simp only at hg cE ho hl pT nZ;subst nZ;refine aDq pT ?_;simp only[zP]at ho hl⊢;have hb:=qX NN;have h_:(kv s g).1.au.length<=4000000:=by
  have h1:=hg.2.2.2.1;unfold kv;split
  .have:=hb s.nx g (bV s.nv) hg.2.1;simp only[show s.nx.au=s.au from rfl]at this;dsimp only;omega
  .have:=hb s g 0 hg.2.1;omega
 have h6:=aBf cE ho hl h_;have⟨k,n,nm,l⟩:=g;refine eS Gg 1000 Iy 56 (by kernel_rfl) ?_;rw[aW,aBd];refine⟨.mk k n nm l,⟨rfl,rfl,hg.1⟩,aD.2 ⟨λhc=>?_,λhc=>?_⟩⟩
 .have he:kv s (.mk k n nm l)=((dX NN s.nx (.mk k n nm l) (bV s.nv)).1,oG 2 (bV s.nv)::(dX NN s.nx (.mk k n nm l) (bV s.nv)).2):=by rw[kv,aO hc]
  rw[he]at h6;have fp:=hb s.nx (.mk k n nm l) (bV s.nv) hg.2.1;rw[he];generalize hr:dX NN s.nx (.mk k n nm l) (bV s.nv)=r at h6 fp⊢;have⟨s2,gl⟩:=r;simp only at h6 fp;have h9:=hg.2.2.1;refine⟨s,⟨rfl,rfl⟩,⟨rfl,trivial⟩,rfl,?_⟩;refine yr (g:=4) (new:=iQ [oG 2 (bV s.nv)]) ?_ rfl (λφ e o h=>rQ rfl h) rfl (by kernel_rfl);refine hE Gg aBa ?_;refine⟨⟨s.nx,.mk k n nm l,bV s.nv,s2,gl⟩,⟨rfl,rfl,ara hg,hr⟩,rfl,qV _,λh0=>⟨by simp,?_⟩,λh1=>⟨⟨rfl,by show 1+gl.length<=4194304;omega,zI _⟩,?_⟩⟩
  .have:=mJ h0;subst this;exact h6
  .rw[show(oG 2 (bV s.nv)::gl).length=1+gl.length by simp;omega]at h6;exact h6
 .have he:kv s (.mk k n nm l)=dX NN s (.mk k n nm l) 0:=by rw[kv,az (by rw[hc];decide)]
  rw[he]at h6;rw[he];generalize hr:dX NN s (.mk k n nm l) 0=r at h6⊢;have⟨s2,gl⟩:=r;refine⟨⟨s,.mk k n nm l,0,s2,gl⟩,⟨rfl,rfl,hg,hr⟩,?_⟩;rw[show di Z Iy 51 1=di Z Iz 51 0 by kernel_rfl];exact HR (oh:=[2]) (ls:=[0,4]) (ps:=[(0,0),(1,1),(2,2),(4,3),(5,4)]) (by kernel_rfl) (by kernel_rfl) (by kernel_rfl) h6
def ko(all:List (List bG))(gs:fO):Prop:=∀q∈gs,qA q/\(q.eO=1->q.aN.au=0\/q.aN.au=1099511627776\/q.aN.au=1099511627775\/∃l∈all,∃f∈l,q.aN=f.aN)
def acy(na:Int)(all:List (List bG))(l:List bG):Prop:=l≠[]/\l.length<=2/\∃ar,∀f∈l,iW f/\f.aN=⟨[],ar,na⟩/\ko all f.aZ
def nO:Int->List (List bG)->List (List bG)->Prop
 |_,_,[]=>True
 |na,all,l::new=>acy na all l/\nO (na+1) all new
theorem ko.mh{all a b}(h:ko all a)(h2:ko all b):ko all (a++b):=λq hq=>(ia.1 hq).elim (h q) (h2 q)
theorem ko.F4{all q b}(h:qA q/\(q.eO=1->q.aN.au=0\/q.aN.au=1099511627776\/q.aN.au=1099511627775\/∃l∈all,∃f∈l,q.aN=f.aN))(h2:ko all b):ko all (q::b):=λx hx=>(dm.1 hx).elim (λe=>e▸h) (h2 x)
theorem ko.nil(all):ko all []:=λq hq=>by cases hq
theorem auX(k v):qA (oG k v):=⟨by simp[dt,oG],by simp[dt,oG],trivial⟩
theorem ko.op{all k v b}(hk:k≠1)(h2:ko all b):ko all (oG k v::b):=ko.F4 ⟨auX k v,λh=>absurd h hk⟩ h2
theorem nO.mh:∀{a b na all},nO na all a->nO (na+a.length) all b->nO na all (a++b)
 |[],b,na,all,_,h=>by simpa using h
 |l::a,b,na,all,h,h2=>⟨h.1,nO.mh h.2 (by rw[ej]at h2;rw[show na+1+(a.length:Int)=na+((a.length+1:Nat):Int)by omega];exact h2)⟩
def iD(s:da)(r:da×fO)(b:Int):Prop:=∃new,r.1.au=s.au++new/\r.1.na=s.na+new.length/\6*(new.length:Int)<=b/\r.1.tr=s.tr/\∀all:List (List bG),(∀l∈new,l∈all)->nO s.na all new/\ko all r.2
def GN(G:zn)(N:Nat):Prop:=∀(s:da) (g:aI) (c:Int),gm g<N->bL g->kC g->0<=s.na->s.na+(gm g:Int)<4611686018427387904->iD s (G s g c) ((gm g:Int)-3)
theorem atO{n}(h:0<=n)(h2:n<4611686018427387904):bV n=n/\SK n=n+1:=by have h3:wI (n+1)=n+1:=cO (by omega) (by omega);simp only[bV,SK,h3];exact⟨by rw[cO (by omega) (by omega)];omega,trivial⟩
theorem iD.nx{s r b}(h:iD s.nx r b):iD s r b:=h
theorem iD.mono{s r b b'}(h:iD s r b)(hb:b<=b'):iD s r b':=by have⟨new,h1,h2,h3,h4⟩:=h;exact⟨new,h1,h2,by omega,h4⟩
theorem iD.seq{s s1 s2 l1 l2 l b1 b2}(h1:iD s (s1,l1) b1)(h2:iD s1 (s2,l2) b2)(hl:∀all,ko all l1->ko all l2->ko all l):iD s (s2,l) (b1+b2):=by
 have⟨n1,a1,a2,a3,a4,a5⟩:=h1;have⟨n2,c1,c2,c3,c4,c5⟩:=h2;refine⟨n1++n2,by rw[c1,a1,j7],by rw[c2,a2,cI];omega,by rw[cI];omega,by rw[c4,a4],λall ha=>?_⟩;have h3:=a5 all λl hl=>ha l (ia.2 (.inl hl))
 have h4:=c5 all λl hl=>ha l (ia.2 (.inr hl))
 refine⟨nO.mh h3.1 ?_,hl all h3.2 h4.2⟩;rw[<-a2];exact h4.1
theorem iD.Jv(s l)(h:∀all,ko all l):iD s (s,l) 0:=⟨[],by simp,by simp,by simp,rfl,λall _=>⟨trivial,h all⟩⟩
theorem iD.map{s s1 l1 l b}(h1:iD s (s1,l1) b)(hl:∀all,ko all l1->ko all l):iD s (s1,l) b:=by
 have:=iD.seq h1 (iD.Jv s1 [] λall=>.nil all) λall h _=>hl all h
 rw[Int.add_zero]at this;exact this
theorem iD.na{s r b}(h:iD s r b):s.na<=r.1.na/\r.1.na<=s.na+b:=by have⟨n,_,h2,h3,_⟩:=h;omega
theorem aiD{G N}(hG:GN G N){s g}(h1:gm g<N)(h2:bL g)(h3:kC g)(h4:0<=s.na)(h5:s.na+(gm g:Int)<4611686018427387904):iD s (nE G s g) ((gm g:Int)-3):=
 (hG s.nx g (bV s.nv) h1 h2 h3 h4 h5).nx.map λall h=>.op (by decide) (h.mh (.op (by decide) (.nil all)))
def wk(s:da)(r:da×List fO)(b:Int):Prop:=∃new,r.1.au=s.au++new/\r.1.na=s.na+new.length/\6*(new.length:Int)<=b/\r.1.tr=s.tr/\∀all:List (List bG),(∀l∈new,l∈all)->nO s.na all new/\∀gs∈r.2,ko all gs/\gs.length<4000000
theorem wk.of1{s s2 l b}(h:iD s (s2,l) b)(hl:l.length<4000000):wk s (s2,[l]) b:=by have⟨new,h1,h2,h3,h4,h5⟩:=h;exact⟨new,h1,h2,h3,h4,λall ha=>⟨(h5 all ha).1,λgs hg=>by rw[oe.1 hg];exact⟨(h5 all ha).2,hl⟩⟩⟩
theorem wk.Z_{s s1 s2 l1 l2 b1 b2}(h1:iD s (s1,l1) b1)(h2:iD s1 (s2,l2) b2)(mB:l1.length<4000000)(h_:l2.length<4000000):wk s (s2,[l1,l2]) (b1+b2):=by
 have⟨n1,a1,a2,a3,a4,a5⟩:=h1;have⟨n2,c1,c2,c3,c4,c5⟩:=h2;refine⟨n1++n2,by simp only;rw[c1,a1,j7],by simp only;rw[c2,a2,cI];omega,by rw[cI];omega,by simp only;rw[c4,a4],λall ha=>?_⟩;have h3:=a5 all λl hl=>ha l (ia.2 (.inl hl))
 have h4:=c5 all λl hl=>ha l (ia.2 (.inr hl))
 refine⟨nO.mh h3.1 (by rw[<-a2];exact h4.1),λgs hg=>?_⟩;simp at hg;rcases hg with rfl|rfl
 .exact⟨h3.2,mB⟩
 .exact⟨h4.2,h_⟩
theorem aoE{G N}(hG:GN G N)(hB:GB G N){k s g c}(hk:k<4)(hg:gm g<N+4)(hi:dF g (jC k) (lM k)=true)(h2:bL g)(h3:kC g)(h4:0<=s.na)(h5:s.na+(gm g:Int)<4611686018427387905)(h6:gm g<1000000):
 wk s (fP G k s g c) ((gm g:Int)-9):=by
 have lQ:=(O3 (s:=s) (c:=c) hB hk hg hi).2.2.2;match k,hk with
 |0,_=>
  obtain⟨k,n,a,b,rfl,e,jx⟩:=re (.inr (.inl rfl)) hi;have oa:=h2.2.2.1;have ob:=h2.2.2.2.1;have qa:=(jx h3).1;have qb:=(jx h3).2;simp only[fP,ji,aI.bh,mK,rB]at lQ⊢;have ga:=ow a;have gb:=ow b;by_cases hc:dF a [45,62] 2=true
  .rw[aO hc]at lQ⊢;obtain⟨k',n',a',b',rfl,e',ahe⟩:=re (.inr (.inr rfl)) hc;simp only[mK,rB]at lQ⊢;have ga':=ow a';have gb':=ow b';have p1:=hG s.nx.nx a' (bV s.nx.nv) (by omega) oa.2.2.1 (ahe qa).1 h4 (by show s.na+_<_;omega);have q1:=p1.na;generalize G s.nx.nx a' (bV s.nx.nv)=r1 at p1 q1 lQ⊢;obtain⟨s1,l1⟩:=r1;simp only[show s.nx.nx.na=s.na from rfl]at q1;have p2:=hG s1 b' c (by omega) oa.2.2.2.1 (ahe qa).2 (by omega) (by omega);have q2:=p2.na;simp only at lQ⊢;generalize G s1 b' c=r2 at p2 q2 lQ⊢;obtain⟨s2,l2⟩:=r2;simp only at q2;have p3:=hG s2 b c (by omega) ob qb (by omega) (by omega);simp only at lQ⊢;generalize G s2 b c=r3 at p3 lQ⊢;obtain⟨s3,l3⟩:=r3;have p12:=iD.seq (l:=oG 2 (bV s.nv)::oG 3 (bV s.nx.nv)::(l1++oG 4 (bV s.nv)::l2)) p1 p2 (λall h h'=>.op (by decide) (.op (by decide) (h.mh (.op (by decide) h'))));have mA:=lQ _ (dJ ..);have il:=lQ _ (dZ _ (dJ ..));obtain⟨nw,w1,w2,w3,w4⟩:=wk.Z_ p12 p3 (by omega) (by simp only at il;omega);exact⟨nw,w1,w2,by omega,w4⟩
  .rw[az hc]at lQ⊢;have p1:=hG s a c (by omega) oa qa h4 (by omega);have q1:=p1.na;generalize G s a c=r1 at p1 q1 lQ⊢;obtain⟨s1,l1⟩:=r1;simp only at q1;have p2:=hG s1 b c (by omega) ob qb (by omega) (by omega);simp only at lQ⊢;generalize G s1 b c=r2 at p2 lQ⊢;obtain⟨s2,l2⟩:=r2;have mA:=lQ _ (dJ ..);have il:=lQ _ (dZ _ (dJ ..));have⟨nw,w1,w2,w3,w4⟩:=wk.Z_ p1 p2 (by omega) (by simp only at il;omega);exact⟨nw,w1,w2,by omega,w4⟩
 |1,_=>
  obtain⟨k,n,a,b,rfl,e,jx⟩:=re (.inr (.inr rfl)) hi;have oa:=h2.2.2.1;have ob:=h2.2.2.2.1;have qa:=(jx h3).1;have qb:=(jx h3).2;simp only[fP,ji,aI.bh,mK,rB]at lQ⊢;have ga:=ow a;have p1:=aiD hG (by omega:gm a<N) oa qa h4 (by omega);have q1:=p1.na;generalize nE G s a=r1 at p1 q1 lQ⊢;have⟨s1,l1⟩:=r1;simp only at q1;have p2:=hG s1 b c (by omega) ob qb (by omega) (by omega);generalize G s1 b c=r2 at p2 lQ⊢;have⟨s2,l2⟩:=r2;have mA:(l1++l2).length<=_:=lQ _ (dJ ..);have il:(l1++l2).length<4000000:=by omega
  have⟨nw,w1,w2,w3,w4⟩:=wk.of1 (iD.seq p1 p2 λall h h'=>h.mh h') il;exact⟨nw,w1,w2,by omega,w4⟩
 |2,_=>
  obtain⟨k,n,a,rfl,e,jx⟩:=B0 (.inl rfl) hi;simp only[fP,ji,aI.bh,mK]at lQ⊢;have ga:=Ho a;have g1:=ow (iq a);have p1:=hG s.nx.nx (iq a) (bV s.nx.nv) (by omega) (RO h2.2.2.1) (P4 (jx h3)) h4 (by show s.na+_<_;omega);generalize G s.nx.nx (iq a) (bV s.nx.nv)=r1 at p1 lQ⊢;have⟨s1,l1⟩:=r1;have mA:(oG 2 (bV s.nv)::oG 3 (bV s.nx.nv)::(l1++[oG 4 (bV s.nv),oG 5 0])).length<=_:=lQ _ (dJ ..);have il:(oG 2 (bV s.nv)::oG 3 (bV s.nx.nv)::(l1++[oG 4 (bV s.nv),oG 5 0])).length<4000000:=by omega
  have⟨nw,w1,w2,w3,w4⟩:=wk.Z_ (iD.map p1 λall h=>.op (by decide) (.op (by decide) (h.mh (.op (by decide) (.op (by decide) (.nil all)))))) (iD.Jv s1 [] λall=>.nil all) il (by simp);exact⟨nw,w1,w2,by omega,w4⟩
 |3,_=>
  obtain⟨k,n,a,rfl,e,jx⟩:=B0 (.inr rfl) hi;have ga:=Ho a;have p1:=aiD hG (by omega:gm (iq a)<N) (RO h2.2.2.1) (P4 (jx h3)) h4 (by omega);have mA:(nE G s (iq a)).2.length<=_:=lQ _ (dJ ..);have il:(nE G s (iq a)).2.length<4000000:=by omega
  have⟨nw,w1,w2,w3,w4⟩:=wk.of1 p1 il;exact⟨nw,w1,w2,by omega,w4⟩
theorem RK{p ts}(h1:dt p.cL.length)(h2:ts.length<4000000)(h3:fy ts):qA (pJ p ts):=by
 refine⟨h1,by simp only[pJ,og,dt];omega,?_⟩;clear h1 h2;induction ts with
 |nil=>trivial
 |cons t l ih=>exact⟨IN h3.1,ih h3.2⟩
theorem aoG{G k s g c}:(fP G k s g c).2.length<=2:=by
 match k with
 |0=>simp only[fP];split<;>simp
 |1=>simp[fP]
 |2=>simp[fP]
 |k+3=>simp[fP]
theorem Sr{G N}(hG:GN G N)(hB:GB G N){k s g c}(hk:k<4)(hg:gm g<N+4)(hi:dF g (jC k) (lM k)=true)(h2:bL g)(h3:kC g)(h4:0<=s.na)(h5:s.na+(gm g:Int)<4611686018427387904)(h6:gm g<1000000):
 iD s (qB (k9 G k s g c)) ((gm g:Int)-3):=by
 have hl:=atO h4 (by omega:s.na<4611686018427387904);have hn:s.px.j_.na=s.na+1:=hl.2;have XS:=O3 (s:=s.px.j_) (c:=c) hB hk hg hi;have aEP:4<=gm g:=by have:=XS.1;omega
 have hb:wk s.px.j_ (fP G k s.px.j_ g c) ((gm g:Int)-9):=aoE hG hB hk hg hi h2 h3 (by omega) (by omega) h6;have⟨new,a1,a2,a3,a4,a5⟩:=hb;have HH:=adZ g c;have Ys:Fq s g c=⟨[],((lN g c).length:Int),s.na⟩:=by rw[Fq,hl.1]
 refine⟨((fP G k s.px.j_ g c).2.map λgs=>⟨Fq s g c,lN g c,gs⟩)::new,?_,?_,by simp;omega,a4,λall ha=>?_⟩
 .simp only[qB,k9,da.put];rw[a1,show s.px.j_.au=s.au++[[]]from rfl,j7];simp
 .simp only[qB,k9,da.put,ej];rw[a2,hn];omega
 .have h7:=a5 all λl hl=>ha l (dZ _ hl)
  rw[hn]at h7;have iK:=ha _ (dJ ..);refine⟨⟨⟨?_,?_,((lN g c).length:Int),?_⟩,h7.1⟩,?_⟩
  .intro h8;exact XS.2.2.1 (List.map_eq_nil_iff.1 h8)
  .rw[og];exact aoG
  .intro f hf;obtain⟨gs,h8,rfl⟩:=nJ.1 hf;refine⟨⟨by rw[Ys];simp[dt],by simp only[dt];omega,aag g c,by have:=(h7.2 gs h8).2;simp only[dt];omega,λq hq=>((h7.2 gs h8).1 q hq).1⟩,Ys,(h7.2 gs h8).1⟩
  .have:∃gs,gs∈(fP G k s.px.j_ g c).2:=by
    cases h8:(fP G k s.px.j_ g c).2 with
    |nil=>exact absurd h8 XS.2.2.1
    |cons x l=>exact⟨x,dJ ..⟩
   have⟨gs,h8⟩:=this;refine .F4 ⟨RK (by rw[Ys];simp[dt]) (by omega) (aag g c),λ_=>.inr (.inr (.inr ⟨_,iK,_,nJ.2 ⟨gs,h8,rfl⟩,rfl⟩))⟩ (.nil all)
theorem avu{s g}(h2:bL g)(h3:g.bh.length<4000000):iD s (vK s g) 0:=by
 have⟨k,n,nm,l⟩:=g;have h1:=h2.1;have hc:∀all,ko all [pJ ⟨nm,(l.length:Int),0⟩ l]:=λall=>.F4 ⟨RK h1 h3 h2.2.2,λ_=>.inl rfl⟩ (.nil all)
 unfold vK;split
 .exact iD.Jv s _ hc
 .refine(iD.Jv s.nx _ λall=>?_).nx;refine .F4 ⟨RK (by simp[dt]) (by simp) ⟨IP _,h2,trivial⟩,λ_=>.inr (.inl rfl)⟩ (.F4 (hc all _ (dJ ..)) (.F4 ⟨RK (by simp[dt]) (by simp) ⟨IP _,h2,trivial⟩,λ_=>.inr (.inr (.inl rfl))⟩ (.nil all)))
theorem aB0{G N}(hG:GN G N)(hB:GB G N)(hN:N<1000000):GN (AI G) (N+1):=by
 intro s g c hg h2 h3 h4 h5;have bu:=ow g;have z:∀l,(∀all,ko all l)->iD s (s,l) ((gm g:Int)-3):=λl h=>(iD.Jv s l h).mono (by omega)
 unfold AI;by_cases c1:dF g [116,114,117,101] 0=true
 .rw[aO c1];exact z _ λall=>.nil all
 rw[az c1];by_cases c2:dF g [102,97,105,108] 0=true
 .rw[aO c2];exact z _ λall=>.op (by decide) (.nil all)
 rw[az c2];by_cases c3:dF g [33] 0=true
 .rw[aO c3];exact z _ λall=>.op (by decide) (.nil all)
 rw[az c3];by_cases c4:dF g [44] 2=true
 .rw[aO c4];obtain⟨k,n,a,b,rfl,e,jx⟩:=re (.inl rfl) c4;simp only[ji,aI.bh,mK,rB];have p1:=hG s a c (by omega) h2.2.2.1 (jx h3).1 h4 (by omega);have q1:=p1.na;generalize G s a c=r1 at p1 q1⊢;have⟨s1,l1⟩:=r1;simp only at q1;have p2:=hG s1 b c (by omega) h2.2.2.2.1 (jx h3).2 (by omega) (by omega);generalize G s1 b c=r2 at p2⊢;have⟨s2,l2⟩:=r2;exact(iD.seq p1 p2 λall h h'=>h.mh h').mono (by omega)
 rw[az c4];by_cases c5:dF g [59] 2=true
 .rw[aO c5];exact Sr hG hB (by decide) (by omega) c5 h2 h3 h4 h5 (by omega)
 rw[az c5];by_cases c6:dF g [45,62] 2=true
 .rw[aO c6];exact Sr hG hB (by decide) (by omega) c6 h2 h3 h4 h5 (by omega)
 rw[az c6];by_cases c7:dF g [92,43] 1=true
 .rw[aO c7];exact Sr hG hB (by decide) (by omega) c7 h2 h3 h4 h5 (by omega)
 rw[az c7];by_cases c8:dF g [111,110,99,101] 1=true
 .rw[aO c8];exact Sr hG hB (by decide) (by omega) c8 h2 h3 h4 h5 (by omega)
 rw[az c8];refine(avu h2 ?_).mono (by omega);have⟨k,n,nm,l⟩:=g;show l.length<4000000;match l,h3 with
 |[],_=>simp
 |[_],_=>simp
 |[_,_],_=>simp
 |_::_::_::_,h=>exact h
theorem agD:∀N,N<=1000000->GN (dX N) N
 |0,_=>λs g c h=>by have:=ow g;omega
 |N+1,h=>aB0 (agD N (by omega)) (qX N) (by omega)
theorem P8:∀t,gm t<=6*bN t
 |.mk k n s [a,b]=>by have:=P8 a;have:=P8 b;simp only[gm,bN,bM];split<;>omega
 |.mk k n s [a]=>by have:=P8 a;simp only[gm,bN,bM];split<;>omega
 |.mk k n s []=>by simp only[gm,bN,bM];omega
 |.mk k n s (_::_::_::_)=>by simp only[gm,bN];omega
def kG(c:nN)(first:Int)(tr:Bool):da:=⟨qO (qO 0 (gh c.1)) (gh c.2),first,tr,[]⟩
def Fo(c:nN):cV:=⟨c.1.cK,(c.1.bh.length:Int),0⟩
def sG(c:nN)(first:Int)(tr:Bool):List bG:=zP (kG c first tr) (Fo c) (c.1.bh.map dj) c.2
def ov(c:nN)(first:Int)(tr:Bool):List bG×Int:=if jt c=false\/first<1\/first>1099511623776 then([],1)else AP (sG c first tr)
structure Fw where
 c:nN
 a:Int
 tr:Bool
 r:List bG
 e:Int
def fcX:cx Fw where
 bn w A H:=A=[.ah (aW w.c.1++aW w.c.2),J w.a,.ao w.tr]/\H=an/\bL w.c.1/\bL w.c.2/\ov w.c w.a w.tr=(w.r,w.e)
 v w:=.aC [.ad (dM w.r) w.r.length 5,J w.e]
 aK w:=an
theorem aqT:fcX.cr:=by rintro⟨c,a,tr,r,e⟩ ⟨c',a',FT,r',e'⟩ A H ⟨h1,_,_,_,q1⟩ ⟨h2,_,_,_,q2⟩;rw[h1]at h2;simp at h2;obtain⟨e1,rfl,rfl⟩:=h2;rw[A4 e1,q2]at q1;cases q1;rfl
def K44:Ev.bo:=bR 27 (ca fcX aqT cD) JY
def Mg:Nat->LN:=fT [(6,[3,8,9,45,46,47]),(999995,[2000010]),(999998,[3,8,9])]
def yb(k n:Int)(s:LN)(cs:LV)(len:Nat)(k' n':Int)(s':LN)(cs':LV)(cB:Nat):bk:=.aj [J k,J n,.ab s,.ad cs len 4,J k',J n',.ab s',.ad cs' cB 4] 51
theorem aly{k n s cs len k' n' s' cs' cB a b L Q}:
 bI Z JY Mg L Q 1000 27 [.ah [J k,J n,.ab s,.ad cs len 4,J k',J n',.ab s',.ad cs' cB 4],J a,.ao b] an=(
 ∃w,(([.ah [J k,J n,.ab s,.ad cs len 4,J k',J n',.ab s',.ad cs' cB 4]]:LV)=[.ah (HAppend.hAppend (aW w.1) (aW w.2))]/\al [] 0=an/\bL w.1/\bL w.2)/\aq (!jt w) (Q (.aC [.aJ,J 1]) an) (aq (decide (a<1)) (Q (.aC [.aJ,J 1]) an) (aq (decide (a>1099511623776)) (Q (.aC [.aJ,J 1]) an) (∃ae:aI×aI,(([.bq 0 0 2 2 4 true]:LV)=[.bq 0 0 2 2 4 true]/\al [(0,.aj [J k,J n,.ab s,.ad cs len 4,J k',J n',.ab s',.ad cs' cB 4] 49)] 1=al [(0,.aj (aW ae.1++aW ae.2) 49)] 1/\bL ae.1/\bL ae.2)/\L (aB [(3,.aa 0 0),(8,.aa 1 0),(9,.aa 2 0),(45,.ad cs len 4),(46,J (aE len)),(47,J 0)]) (al [(0,yb k n s cs len k' n' s' cs' cB),(1,.aj [J (qO (qO 0 (gh ae.1)) (gh ae.2)),J a,.ao b,.aJ] 120),(2,.aj [.ab s,J (aE len),J 0,.aJ,.aJ] 106)] 3) (aw Z 27 0))))):=by kernel_rfl
theorem aAN{k n s cs len k' n' s' cs' cB nv a b nm ar ds m i L Q}:
 ck Z JY Mg L Q 1000 27 0 (aB [(3,.aa 0 0),(8,.aa 1 0),(9,.aa 2 0),(45,.ad cs len 4),(46,J (aE len)),(47,J i)]) (aw Z 27 0) (al [(0,yb k n s cs len k' n' s' cs' cB),(1,.aj [J nv,J a,.ao b,.aJ] 120),(2,.aj [.ab nm,J ar,J 0,.ai 3 m 4,.aJ] 106),(3,.ay ds 49)] 4)=(
 aq (decide (i<aE len)) (∃aL:Nat,i=(aL:Int)/\aL<len/\(∃aP bA cn bP bH,((cs.drop (aL*4)).take 4:List AV)=[J aP,J bA,.ab cn,.ad bP bH 4]/\(∃w,(([.ah [J aP,J bA,.ab cn,.ad bP bH 4]]:LV)=[.ah (aW w)]/\al [] 0=an/\bL w)/\some (.ai 3 m 4:AV)=some (.ai 3 m 4:AV)/\(ds.length=m*4/\m+1<=4194304/\true=true/\true=true)/\L (aB [(3,.aa 0 0),(8,.aa 1 0),(9,.aa 2 0),(45,.ad cs len 4),(46,J (aE len)),(47,J (wI (i+1)))]) (al [(0,yb k n s cs len k' n' s' cs' cB),(1,.aj [J nv,J a,.ao b,.aJ] 120),(2,.aj [.ab nm,J ar,J 0,.ai 3 (m+1) 4,.aJ] 106),(3,.ay (ds++[J (dj w).cq,J (dj w).n,.ab (dj w).cK,.ad (aF (dj w).bh) (dj w).bh.length 4]) 49)] 4) (aw Z 27 0)))) (L (aB [(3,.aa 0 0),(8,.aa 1 0),(9,.aa 2 0)]) (al [(0,yb k n s cs len k' n' s' cs' cB),(1,.aj [J nv,J a,.ao b,.aJ] 120),(2,.aj [.ab nm,J ar,J 0,.ai 3 m 4,.aJ] 106),(3,.ay ds 49)] 4) (di Z Mg 27 0))):=by kernel_rfl
theorem aAK{k n s cs len k' n' s' cs' cB t nm ar ds m L Q}:
 ck Z JY (λ_=>[]) L Q 1000 27 0 (aB [(3,.aa 0 0),(8,.aa 1 0),(9,.aa 2 0)]) (di Z Mg 27 0) (al [(0,yb k n s cs len k' n' s' cs' cB),(1,ct t 4),(2,.aj [.ab nm,J ar,J 0,.ad ds m 4,.aJ] 106),(3,.bc []),(4,cz t)] 5)=(
 ∃w,(([.aa 0 0,.ah [.ab nm,J ar,J 0,.ad ds m 4,.aJ],.ah [J k',J n',.ab s',.ad cs' cB 4]]:LV)=[.aa 0 0,.ah [.ab (Ww.p w).cL,J (Ww.p w).ar,J (Ww.p w).au,.ad (aF (Ww.xL w)) (Ww.xL w).length 4,.aJ],.ah (aW (Ww.g w))]/\hT t=hT w.s/\eL NN 3000000 (Ww.s w) (Ww.g w)/\(∀x,x∈(kv w.s w.g).1.au->(x:List bG)=[]->False)/\(∀f,f∈zP w.s w.p w.xL w.g->iW f)/\(bG.mk (Ww.p w) (Ww.xL w) (kv (Ww.s w) (Ww.g w)).2::List.flatten (kv w.s w.g).1.au).length<=4000000/\AP (bG.mk (Ww.p w) (Ww.xL w) (kv (Ww.s w) (Ww.g w)).2::List.flatten (kv w.s w.g).1.au)=Prod.mk w.r (Ww.e w)/\(kv (Ww.s w) (Ww.g w)).1=Ww.s2 w)/\Q (.aC [.ad (dM w.r) w.r.length 5,J (Ww.e w)]) an):=by kernel_rfl
theorem Kp{c}(h:jt c=true):eJ c.1=true/\nR c.1.cq=true/\eJ c.2=true:=by simp only[jt,dk]at h;exact⟨h.1.1.1.1.1.1.1,h.1.1.1.1.1.1.2,agC h.1.1.1.1.2⟩
theorem ao6{t}(h:eJ t=true):dj t=t:=by rw[dj,aO h]
structure NW(c:nN)(first:Int)(tr:Bool)(new:List (List bG)):Prop where
 au:(kv (kG c first tr) c.2).1.au=new
 ok:nO first new new
 V6:ko new (kv (kG c first tr) c.2).2
 len:new.length<=2000
 aZ:(kv (kG c first tr) c.2).2.length<=12001
 gok:eL NN 3000000 (kG c first tr) c.2
theorem W3{c first}(tr)(h1:bL c.1)(h2:bL c.2)(hv:jt c=true)(ha:1<=first)(hb:first<=1099511623776):∃new,NW c first tr new:=by
 have⟨v1,v2,v3⟩:=Kp hv;have hs:=y' v3;have hg:=P8 c.2;have jx:kC c.2:=P5 (by omega);have a_:eL NN 3000000 (kG c first tr) c.2:=⟨h2,by rw[adh];omega,by omega,by show 0+gm c.2<3000000;omega,jx⟩;have gn:=agD NN (by rw[adh];omega);have gb:=qX NN;have key:iD (kG c first tr) (kv (kG c first tr) c.2) ((gm c.2:Int)-3)/\(kv (kG c first tr) c.2).2.length<=12001:=by
  unfold kv;split
  .have h3:=gn (kG c first tr).nx c.2 (bV (kG c first tr).nv) a_.2.1 h2 jx (by show 0<=first;omega) (by show first+_<_;omega);have h4:=gb (kG c first tr).nx c.2 (bV (kG c first tr).nv) a_.2.1;exact⟨(iD.nx h3).map λall h=>.op (by decide) h,by simp;omega⟩
  .exact⟨gn _ c.2 0 a_.2.1 h2 jx (by show 0<=first;omega) (by show first+_<_;omega),by have:=gb (kG c first tr) c.2 0 a_.2.1;omega⟩
 have⟨⟨new,a1,a2,a3,a4,a5⟩,k2⟩:=key;have a6:=a5 new λl h=>h
 exact⟨new,by rw[a1];rfl,a6.1,a6.2,by omega,k2,a_⟩
theorem nO.Fi:∀{new na all},nO na all new->∀l∈new,∃n,acy n all l
 |l0::new,na,all,h,l,hl=>by
  rcases dm.1 hl with rfl|hl
  .exact⟨na,h.1⟩
  .exact nO.Fi h.2 l hl
theorem aga{new:List (List bG)}(h:∀l∈new,l.length<=2):new.flatten.length<=2*new.length:=by
 induction new with
 |nil=>simp
 |cons l new ih=>
  have h1:=h l (dJ ..);have h2:=ih λx hx=>h x (dZ _ hx)
  simp only[Fs,cI,ej];omega
theorem ad0{c:nN}(hv:eJ c.1=true):c.1.bh.length<=2000:=by have:=y' hv;have⟨⟨k,n,s,l⟩,b⟩:=c;have h2:=Is l;simp only[bN]at this;show l.length<=2000;omega
theorem af7{c first tr new}(h1:bL c.1)(hv:jt c=true)(h:NW c first tr new):(∀f∈sG c first tr,iW f)/\(sG c first tr).length<=4001:=by
 have⟨v1,v2,v3⟩:=Kp hv;have HH:=ad0 v1;have hn:=nO.Fi h.ok;have hf:=aga λl hl=>(hn l hl).elim λn hn=>hn.2.1
 have hl:=h.len;constructor
 .intro f hf;rcases dm.1 hf with rfl|hf
  .have⟨⟨k,n,s,l⟩,b⟩:=c;refine⟨h1.1,?_,?_,?_,λq hq=>(h.V6 q hq).1⟩
   .simp only[og,aI.bh,dt]at HH⊢;omega
   .have:∀l:eK,fy l->fy (l.map dj):=by
     intro l hl;induction l with
     |nil=>trivial
     |cons t l ih=>exact⟨IN hl.1,ih hl.2⟩
    exact this l h1.2.2
   .exact Nat.lt_of_le_of_lt h.aZ (by decide)
  .rw[h.au]at hf;have⟨l,hl,hf⟩:=List.mem_flatten.1 hf;have⟨n,hn⟩:=hn l hl;have⟨ar,hn⟩:=hn.2.2;exact(hn f hf).1
 .simp only[sG,zP,ej,h.au];omega
theorem aqa(t):[J t.cq,J t.n,.ab t.cK,.ad (aF t.bh) t.bh.length 4]=aF [t]:=by show ij t=_;rw[zG,aF,aF,jm]
theorem aAL{c first tr new r e}(h1:bL c.1)(hv:jt c=true)(h:NW c first tr new)(hr:AP (sG c first tr)=(r,e)){n}(hn:n=c.1.bh.length){ds}(gU:ds=aF (c.1.bh.map dj)):
 br Z 27 66 0 (.aC [.ad (dM r) r.length 5,J e]) an (aB [(3,.aa 0 0),(8,.aa 1 0),(9,.aa 2 0)]) (al [(0,yb c.1.cq c.1.n c.1.cK (aF c.1.bh) c.1.bh.length c.2.cq c.2.n c.2.cK (aF c.2.bh) c.2.bh.length),(1,.aj [J (kG c first tr).nv,J first,.ao tr,.aJ] 120),(2,.aj [.ab c.1.cK,J (c.1.bh.length:Int),J 0,.ai 3 n 4,.aJ] 106),(3,.ay ds 49)] 4) (di Z Mg 27 0):=by
 subst hn gU;have hf:=af7 h1 hv h;have e1:gT 3 (aF (c.1.bh.map dj)) (.ai 3 c.1.bh.length 4)=.ad (aF (c.1.bh.map dj)) (c.1.bh.map dj).length 4:=by simp[gT,rV]
 refine HM (g:=3) ?_ rfl (by kernel_rfl);refine sS (H':=al [(0,yb c.1.cq c.1.n c.1.cK (aF c.1.bh) c.1.bh.length c.2.cq c.2.n c.2.cK (aF c.2.bh) c.2.bh.length),(1,.aj [J (kG c first tr).nv,J first,.ao tr,.aJ] 120),(2,.aj [.ab c.1.cK,J (c.1.bh.length:Int),J 0,.ad (aF (c.1.bh.map dj)) (c.1.bh.map dj).length 4,.aJ] 106),(3,.bc [])] 4) ?_ (by rw[<-e1];exact⟨cM _,λφ bs w _ hw=>⟨φ,hw,⟨jh.zj _ _,.of rfl rfl⟩,rfl⟩⟩) (by kernel_rfl);refine sS (H':=al ([(0,yb c.1.cq c.1.n c.1.cK (aF c.1.bh) c.1.bh.length c.2.cq c.2.n c.2.cK (aF c.2.bh) c.2.bh.length),(1,ct (kG c first tr) 4),(2,.aj [.ab c.1.cK,J (c.1.bh.length:Int),J 0,.ad (aF (c.1.bh.map dj)) (c.1.bh.map dj).length 4,.aJ] 106),(3,.bc [])]++[(4,.ay [] 84)]) (4+1)) ?_ (vD (g:=1) rfl (λid=>by rcases id with _|_|_|_|id<;>rfl) rfl (λφ x hx=>Ch hx) ⟨rfl,rfl⟩) (by kernel_rfl);refine hE JZ aAK ?_;have⟨a,⟨k',n',s',l'⟩⟩:=c;exact⟨⟨kG (a,.mk k' n' s' l') first tr,Fo (a,.mk k' n' s' l'),a.bh.map dj,.mk k' n' s' l',r,e,(kv (kG (a,.mk k' n' s' l') first tr) (.mk k' n' s' l')).1⟩,⟨rfl,rfl,h.gok,λx hx=>(nO.Fi h.ok x (by rw[<-h.au];exact hx)).elim λn hn=>hn.1,hf.1,kF hf.2 (by decide),hr,rfl⟩,rfl,rfl⟩
theorem aAM{c first tr new r e}(h1:bL c.1)(hv:jt c=true)(h:NW c first tr new)(hr:AP (sG c first tr)=(r,e)):
 ∀i,i<=c.1.bh.length->br Z 27 66 0 (.aC [.ad (dM r) r.length 5,J e]) an (aB [(3,.aa 0 0),(8,.aa 1 0),(9,.aa 2 0),(45,.ad (aF c.1.bh) c.1.bh.length 4),(46,J (aE c.1.bh.length)),(47,J (i:Int))]) (al [(0,yb c.1.cq c.1.n c.1.cK (aF c.1.bh) c.1.bh.length c.2.cq c.2.n c.2.cK (aF c.2.bh) c.2.bh.length),(1,.aj [J (kG c first tr).nv,J first,.ao tr,.aJ] 120),(2,.aj [.ab c.1.cK,J (c.1.bh.length:Int),J 0,.ai 3 i 4,.aJ] 106),(3,.ay (aF ((c.1.bh.take i).map dj)) 49)] 4) (aw Z 27 0):=by
 have HH:=ad0 (Kp hv).1;have ho:fy c.1.bh:=by have⟨⟨k,n,s,l⟩,b⟩:=c;exact h1.2.2
 refine dS (λi=>c.1.bh.length-i) _ _ _ _ ?_;rintro i hi ih;refine hE JZ aAN ?_;refine aD.2 ⟨λax=>?_,λbu=>?_⟩
 .have ax:i<c.1.bh.length:=by simpa using ax
  obtain⟨k1,n1,s1,l1,-,hg,bX,a_,-⟩:=xw ax ho (lY _) (P:=λ_=>True) trivial;refine⟨i,rfl,ax,k1,n1,s1,aF l1,l1.length,bX,.mk k1 n1 s1 l1,⟨rfl,rfl,a_⟩,rfl,⟨by rw[rV,og,vN];congr 1;omega,by omega,rfl,rfl⟩,?_⟩;rw[aqa,<-Be,cO (by omega) (by omega)];have:=ih (i+1) (by omega) (by omega);rw[aby _ _ ax,hg]at this;exact this
 .have bu:c.1.bh.length<=i:=by simpa using bu
  have:i=c.1.bh.length:=by omega
  subst this;rw[vT];exact aAL h1 hv h hr rfl rfl
theorem ank:aU Z K44:=by
 refine cA JZ ?_;rintro⟨c,a,tr,r,e⟩ args H ⟨rfl,rfl,o1,o2,he⟩;by_cases hc:jt c=false\/a<1\/a>1099511623776
 .rw[ov,aO hc]at he;cases he;refine tS ?_ (Wk.FU (.ta 5 (.oq _))) (cM _);have⟨⟨k,n,s,l⟩,⟨k',n',s',l'⟩⟩:=c;refine eE 66 JZ aly ?_;refine⟨(.mk k n s l,.mk k' n' s' l'),⟨rfl,rfl,o1,o2⟩,aD.2 ⟨λ_=>⟨rfl,rfl⟩,λh1=>aD.2 ⟨λ_=>⟨rfl,rfl⟩,λh2=>aD.2 ⟨λ_=>⟨rfl,rfl⟩,λh3=>?_⟩⟩⟩⟩;exfalso;rcases hc with hc|hc|hc
  .rw[hc]at h1;cases h1
  .exact ez h2 hc
  .exact ez h3 hc
 .rw[ov,az hc]at he;have hv:jt c=true:=by
   cases h:jt c with
   |true=>rfl
   |false=>exact absurd (.inl h) hc
  have h1:=λh=>hc (.inr (.inl h))
  have h2:=λh=>hc (.inr (.inr h))
  have⟨new,pP⟩:=W3 (first:=a) tr o1 o2 hv (by omega) (by omega);have hh:=aAM o1 hv pP he 0 (gq _);have⟨⟨k,n,s,l⟩,⟨k',n',s',l'⟩⟩:=c;refine eE 66 JZ aly ?_;refine⟨(.mk k n s l,.mk k' n' s' l'),⟨rfl,rfl,o1,o2⟩,aD.2 ⟨λh=>?_,λ_=>aD.2 ⟨λh=>absurd (dQ h) h1,λ_=>aD.2 ⟨λh=>absurd (dQ h) h2,λ_=>?_⟩⟩⟩⟩
  .rw[hv]at h;cases h
  refine⟨(.mk k n s l,.mk k' n' s' l'),⟨rfl,rfl,o1,o2⟩,?_⟩;refine sS (H':=al ([(0,yb k n s (aF l) l.length k' n' s' (aF l') l'.length),(1,.aj [J (kG (.mk k n s l,.mk k' n' s' l') a tr).nv,J a,.ao tr,.aJ] 120),(2,.aj [.ab s,J (l.length:Int),J 0,.ai 3 0 4,.aJ] 106)]++[(3,.ay [] 49)]) (3+1)) ?_ ?_ (by kernel_rfl)
  .exact hh
  .exact vD (g:=2) rfl (λid=>by rcases id with _|_|_|id<;>rfl) rfl (λφ x hx=>(iS.fE (.fE (.fE (iS.xO (λφ x h=>qN h) (.oq _))))) φ x hx) ⟨rfl,rfl⟩
theorem Hr:∀a b:fO,fg (a++b)=fg a+fg b
 |[],b=>by simp[fg]
 |g::a,b=>by simp only[oH,fg,Hr a b];omega
theorem abE(t):bN (dj t)<=bN t:=by
 unfold dj;split
 .exact cM _
 .exact sk t
theorem S_:∀l:eK,bM (l.map dj)<=bM l
 |[]=>cM _
 |t::l=>by have:=abE t;have:=S_ l;simp only[gR,bM];omega
theorem ame:∀l:LI,bM (l.map l8)=l.length
 |[]=>rfl
 |n::l=>by have:=ame l;simp only[gR,bM,ej,this,l8,bN];omega
theorem amc:∀a b:eK,bM (a++b)=bM a+bM b
 |[],b=>by simp[bM]
 |g::a,b=>by simp only[oH,bM,amc a b];omega
def sf(f:bG):Prop:=bM f.bC+fg f.aZ<72000/\f.aZ.length<=10000
def GT(G:zn):Prop:=∀(s:da) (g:aI) (c:Int),bN g<=2001->fg (G s g c).2<=10*bN g/\(G s g c).2.length<=3*bN g/\∀l∈(G s g c).1.au,l∈s.au\/∀f∈l,sf f
theorem aC5(t):(gh t).length<=bN t:=by
 unfold gh;split
 .have:=Te [] t;simp at this;omega
 .simp
theorem Q2{g nm k n a b}(h:g=.mk k n nm [a,b]):bN g=1+bN a+bN b:=by subst h;simp only[bN,bM];omega
theorem aia{g nm k n a}(h:g=.mk k n nm [a]):bN g=1+bN a:=by subst h;simp only[bN,bM];omega
theorem amb{a}(h:bN a<=2000):bN (iq a)<=2001:=by
 unfold iq;split;next g hg=>
  unfold iH at hg;split at hg
  .split at hg
   .split at hg;next g' h1 h2=>cases hg;unfold cU at h2;omega
    .cases hg
   .cases hg
  .cases hg
 .simp only[bN,bM];omega
theorem aCz(g c):bM (lN g c)<=bN g+1:=by have:=aC5 g;simp only[lN,qI,amc,ame];split<;>simp[bM,l8,bN]<;>omega
theorem aiE{G}(hG:GT G){s g}(h:bN g<=2001):fg (nE G s g).2<=10*bN g+2/\(nE G s g).2.length<=3*bN g+2/\∀l∈(nE G s g).1.au,l∈s.au\/∀f∈l,sf f:=by have:=hG s.nx g (bV s.nv) h;simp only[nE,ej,cI,gW];refine⟨?_,by omega,this.2.2⟩;simp only[fg,oG,bM,Hr];omega
theorem Kl{a b c:List (List bG)}{P:List bG->Prop}(h:∀l∈b,l∈a\/P l)(h2:∀l∈c,l∈b\/P l):∀l∈c,l∈a\/P l:=λl hl=>(h2 l hl).elim (h l) .inr
theorem aoF{G}(hG:GT G){k s g c}(hk:k<4)(hi:dF g (jC k) (lM k)=true)(h:bN g<=2001):
 (∀gs∈(fP G k s g c).2,fg gs<=30000/\gs.length<=10000)/\∀l∈(fP G k s g c).1.au,l∈s.au\/∀f∈l,sf f:=by
 match k,hk with
 |0,_=>
  obtain⟨k,n,a,b,hq,-,-⟩:=re (.inr (.inl rfl)) hi;have hz:=Q2 hq;subst hq;simp only[fP,ji,aI.bh,mK,rB];by_cases hc:dF a [45,62] 2=true
  .rw[aO hc];obtain⟨k',n',a',b',BT,-,-⟩:=re (.inr (.inr rfl)) hc;have hz':=Q2 BT;subst BT;have p1:=hG s.nx.nx a' (bV s.nx.nv) (by omega);have p2:=hG (G s.nx.nx a' (bV s.nx.nv)).1 b' c (by omega);have p3:=hG (G (G s.nx.nx a' (bV s.nx.nv)).1 b' c).1 b c (by omega);refine⟨λgs hg=>?_,Kl (Kl p1.2.2 p2.2.2) p3.2.2⟩;simp at hg;rcases hg with rfl|rfl
   .simp only[fg,Hr,ej,cI,oG,bM];omega
   .omega
  .rw[az hc];have p1:=hG s a c (by omega);have p2:=hG (G s a c).1 b c (by omega);refine⟨λgs hg=>?_,Kl p1.2.2 p2.2.2⟩;simp at hg;rcases hg with rfl|rfl<;>omega
 |1,_=>obtain⟨k,n,a,b,hq,-,-⟩:=re (.inr (.inr rfl)) hi;have hz:=Q2 hq;subst hq;simp only[fP,ji,aI.bh,mK,rB];have p1:=aiE (s:=s) hG (by omega:bN a<=2001);have p2:=hG (nE G s a).1 b c (by omega);refine⟨λgs hg=>?_,Kl p1.2.2 p2.2.2⟩;simp at hg;subst hg;simp only[Hr,cI];omega
 |2,_=>
  obtain⟨k,n,a,hq,-,-⟩:=B0 (.inl rfl) hi;have hz:=aia hq;subst hq;simp only[fP,ji,aI.bh,mK];have p0:=amb (a:=a) (by omega);have p1:=hG s.nx.nx (iq a) (bV s.nx.nv) p0;refine⟨λgs hg=>?_,p1.2.2⟩;simp at hg;rcases hg with rfl|rfl
  .simp only[fg,Hr,ej,cI,gW,oG,bM];omega
  .simp[fg]
 |3,_=>obtain⟨k,n,a,hq,-,-⟩:=B0 (.inr rfl) hi;have hz:=aia hq;subst hq;simp only[fP,ji,aI.bh,mK];have p0:=amb (a:=a) (by omega);have p1:=aiE (s:=s) hG p0;refine⟨λgs hg=>?_,p1.2.2⟩;simp at hg;subst hg;omega
theorem auq{α:Type}{l:List α}{i x y}(h:y∈l.set i x):y∈l\/y=x:=by
 rcases List.mem_or_eq_of_mem_set h with h|h
 .exact .inl h
 .exact .inr h
theorem Ss{G}(hG:GT G){k s g c}(hk:k<4)(hi:dF g (jC k) (lM k)=true)(h:bN g<=2001):
 fg (qB (k9 G k s g c)).2<=10*bN g/\(qB (k9 G k s g c)).2.length<=3*bN g/\∀l∈(qB (k9 G k s g c)).1.au,l∈s.au\/∀f∈l,sf f:=by
 have hb:=aoF (s:=s.px.j_) (c:=c) hG hk hi h;have ha:=aCz g c;have hp:=sk g;have hc:=S_ (lN g c);refine⟨by simp only[qB,k9,fg,pJ];omega,by simp only[qB,ej,gW];omega,λl hl=>?_⟩;rcases auq hl with hl|rfl
 .rcases hb.2 l hl with hl|hl
  .rcases ia.1 hl with hl|hl
   .exact .inl hl
   .rw[oe.1 hl];exact .inr λf hf=>by cases hf
  .exact .inr hl
 .refine .inr λf hf=>?_
  obtain⟨gs,h8,rfl⟩:=nJ.1 hf;have:=hb.1 gs h8;exact⟨by simp only;omega,this.2⟩
theorem aB1{G}(hG:GT G):GT (AI G):=by
 intro s g c h;have hp:=sk g;have z:∀l:fO,fg l<=10->l.length<=3->fg ((s,l):da×fO).2<=10*bN g/\((s,l):da×fO).2.length<=3*bN g/\∀l'∈((s,l):da×fO).1.au,l'∈s.au\/∀f∈l',sf f:=λl h1 h2=>⟨by simp only;omega,by simp only;omega,λl hl=>.inl hl⟩
 unfold AI;by_cases c1:dF g [116,114,117,101] 0=true
 .rw[aO c1];exact z _ (by simp[fg]) (by simp)
 rw[az c1];by_cases c2:dF g [102,97,105,108] 0=true
 .rw[aO c2];exact z _ (by simp[fg,oG,bM]) (by simp)
 rw[az c2];by_cases c3:dF g [33] 0=true
 .rw[aO c3];exact z _ (by simp[fg,oG,bM]) (by simp)
 rw[az c3];by_cases c4:dF g [44] 2=true
 .rw[aO c4];obtain⟨k,n,a,b,hq,-,-⟩:=re (.inl rfl) c4;have hz:=Q2 hq;subst hq;simp only[ji,aI.bh,mK,rB];have p1:=hG s a c (by omega);have p2:=hG (G s a c).1 b c (by omega);exact⟨by rw[Hr];omega,by rw[cI];omega,Kl p1.2.2 p2.2.2⟩
 rw[az c4];by_cases c5:dF g [59] 2=true
 .rw[aO c5];exact Ss hG (by decide) c5 h
 rw[az c5];by_cases c6:dF g [45,62] 2=true
 .rw[aO c6];exact Ss hG (by decide) c6 h
 rw[az c6];by_cases c7:dF g [92,43] 1=true
 .rw[aO c7];exact Ss hG (by decide) c7 h
 rw[az c7];by_cases c8:dF g [111,110,99,101] 1=true
 .rw[aO c8];exact Ss hG (by decide) c8 h
 rw[az c8];have hc:=S_ g.bh;have hz:bN g=1+bM g.bh:=by have⟨k,n,nm,l⟩:=g;rfl
 have Qt:=abE g;have hv:∀x,bN (dj (l8 x))<=1:=λx=>abE (l8 x)
 unfold vK;split
 .exact⟨by simp only[fg,pJ];omega,by simp;omega,λl hl=>.inl hl⟩
 .have:=hv (bV s.nv);exact⟨by simp only[fg,pJ,gR,List.map_nil,bM];omega,by simp;omega,λl hl=>.inl hl⟩
theorem agE:∀N,GT (dX N)
 |0=>λs g c h=>⟨by simp[dX,fg],by simp[dX],λl hl=>.inl hl⟩
 |N+1=>aB1 (agE N)
theorem aq0{c first tr}(hv:jt c=true):∀f∈sG c first tr,sf f:=by
 have⟨v1,v2,v3⟩:=Kp hv;have s1:=y' v1;have s2:=y' v3;have gt:=agE NN;have key:fg (kv (kG c first tr) c.2).2<=10*bN c.2+1/\(kv (kG c first tr) c.2).2.length<=3*bN c.2+1/\∀l∈(kv (kG c first tr) c.2).1.au,∀f∈l,sf f:=by
  unfold kv;split
  .have:=gt (kG c first tr).nx c.2 (bV (kG c first tr).nv) (by omega);refine⟨by simp only[fg,oG,bM];omega,by simp;omega,λl hl=>(this.2.2 l hl).elim (λh=>by cases h) id⟩
  .have:=gt (kG c first tr) c.2 0 (by omega);exact⟨by omega,by omega,λl hl=>(this.2.2 l hl).elim (λh=>by cases h) id⟩
 intro f hf;rcases dm.1 hf with rfl|hf
 .have hc:=S_ c.1.bh;have hz:bN c.1=1+bM c.1.bh:=by have⟨⟨k,n,nm,l⟩,b⟩:=c;rfl
  exact⟨by simp only;omega,by simp only;omega⟩
 .have⟨l,hl,hf⟩:=List.mem_flatten.1 hf;exact key.2.2 l hl f hf
structure Cw where
 f:bG
 i:Int
 b:fG
 e:Int
def tO(b:fG):LV:=[J b.id,.ab b.aN.cL,J b.aN.ar,J b.aN.au,J b.iC.1,J b.iC.2.1,.ab b.iC.2.2.1,J b.iC.2.2.2,.ad (cJ b.gi) b.gi.length 6]
def cpX:cx Cw where
 bn w A H:=A=[.ah (gH w.f),J w.i]/\H=an/\iW w.f/\sf w.f/\gp w.f w.i=(w.b,w.e)
 v w:=.aC [.ah (tO w.b),J w.e]
 aK w:=an
theorem apk:cpX.cr:=by rintro⟨f,i,b,e⟩ ⟨f',i',b',e'⟩ A H ⟨h1,_,_,_,q1⟩ ⟨h2,_,_,_,q2⟩;rw[h1]at h2;simp at h2;rw[ye _ _ h2.1,h2.2,q2]at q1;cases q1;rfl
def UK:Ev.bo:=bR 52 (ca cpX apk cD) K44
abbrev ES:=List (AV×AV×Nat)
structure Ar where
 au:Int
 id:Int
 mw:LV
 ng:Nat
 gG:ES
 cc:Nat
 ret:ES
 rc:Nat
 eB:ES
 nc:Nat
 mI:ES
 oc:Nat
 mP:LV
 na:Nat
 X:Nat->Option bk
 xc:Nat
def d_(z:Ar)(a b c d e f:Nat):bk:=.aj [J z.au,J z.id,.ai a z.ng 1,.aA b,.aA c,.aA d,.aA e,.ai f z.na 9,.aJ] 78
def cT(z:Ar):bk:=.ay z.mw 83
def dg(z:Ar):bk:=.bm z.gG z.cc true
def df(z:Ar):bk:=.bm z.ret z.rc true
def cZ(z:Ar):bk:=.bm z.eB z.nc true
def dh(z:Ar):bk:=.bm z.mI z.oc true
def cR(z:Ar):bk:=.ay z.mP 44
def hA(z:Ar):AH:=b_ z.X z.xc [(0,d_ z 1 2 3 4 5 6),(1,cT z),(2,dg z),(3,df z),(4,cZ z),(5,dh z),(6,cR z)] 7
def pO(_:LV)(H:AH):Bool:=H.x.isSome
theorem BE{A A'}(h:hA A=hA A'):A=A':=by have h0:=congrArg (λH=>AH.bf H 0) h;have h1:=congrArg (λH=>AH.bf H 1) h;have h2:=congrArg (λH=>AH.bf H 2) h;have h3:=congrArg (λH=>AH.bf H 3) h;have h4:=congrArg (λH=>AH.bf H 4) h;have h5:=congrArg (λH=>AH.bf H 5) h;have h6:=congrArg (λH=>AH.bf H 6) h;have h7:=congrArg AH.x h;replace h1:some (cT A)=some (cT A'):=h1;replace h6:some (cR A)=some (cR A'):=h6;have⟨a0,a1,a2,a3,a4,a5,a6,a7,a8,a9,Kd,Ke,Kf,Kg,Kh,Ki⟩:=A;have⟨b0,b1,b2,b3,b4,b5,b6,b7,b8,b9,OV,OW,OX,OY,OZ,O0⟩:=A';simp only[d_,cT,dg,df,cZ,dh,cR,pg,bk.aj.injEq,bk.ay.injEq,bk.bm.injEq,jn,AV.bU.injEq,AV.ai.injEq,XH.mk.injEq,true_and,and_true]at h0 h1 h2 h3 h4 h5 h6 h7;obtain⟨rfl,rfl,rfl,rfl⟩:=h0;obtain⟨rfl,rfl⟩:=h2;obtain⟨rfl,rfl⟩:=h3;obtain⟨rfl,rfl⟩:=h4;obtain⟨rfl,rfl⟩:=h5;obtain⟨rfl,rfl⟩:=h7;subst h1 h6;rfl
def Ar.tk(A:Ar):Ar:={A with id:=wI (A.id+1)}
def tkX:cx Ar where
 bn w A H:=A=[.aa 0 0]/\H=hA w
 v w:=J (wI (wI (w.id+1)-1))
 aK w:=hA w.tk
theorem aCr:tkX.cr:=λA A' _ _ h1 h2=>by rw[BE (h1.2.symm.trans h2.2)]
def Om:Ev.bo:=bR 41 (ca tkX aCr pO) UK
def Cq(x:Int)(l:List bG):Int:=l.foldl (λx f=>if wI (f.aN.au+1)>x then wI (f.aN.au+1)else x) x
def Ar.ps(A:Ar)(l:List bG):Ar:={A with au:=Cq A.au l}
def psX:cx (Ar×List bG)where
 bn w A H:=A=[.aa 0 0,.ad (dM w.2) w.2.length 5]/\H=hA w.1/\w.2.length<=4000000
 v w:=.aC []
 aK w:=hA (w.1.ps w.2)
theorem avC:psX.cr:=by rintro⟨A,l⟩ ⟨A',l'⟩ _ _ ⟨h1,h2,_⟩ ⟨h3,h4,_⟩;simp only at h1 h2 h3 h4;rw[h1]at h3;simp at h3;rw[BE (h2.symm.trans h4),Pq h3.2 h3.1]
def UM:Ev.bo:=bR 53 (ca psX avC pO) Om
def aiP:Nat->LN:=fT [(1,[0,6,7,8])]
def Fe:Nat->LN:=fT [(2,[0,1,2,6,12,13,14])]
def pq(i k n:Int)(s:LN)(cs:LV)(len:Nat)(k' n':Int)(s':LN)(cs':LV)(cB:Nat):bk:=.aj [J i,J k,J n,.ab s,.ad cs len 4,J k',J n',.ab s',.ad cs' cB 4] 53
def afS:LV->AH->Option (Prop×AV×AH)
 |[.aa 0 0],H=>match H.bf 0 with
  |some (.aj [.bU .i64 i,.bU .i64 k,.bU .i64 n,.ab s,.ad cs len 4,.bU .i64 k',.bU .i64 n',.ab s',.ad cs' cB 4] _)=>some (H=al [(0,pq i k n s cs len k' n' s' cs' cB)] 1,J i,al [(0,pq i k n s cs len k' n' s' cs' cB)] 1)
  |_=>none
 |_,_=>none
def J0:Ev.bo:=e9 29 afS UM
def oy(z:Ar)(o:bk):AH:=b_ z.X z.xc [(0,d_ z 2 3 4 5 6 7),(1,o),(2,cT z),(3,dg z),(4,df z),(5,cZ z),(6,dh z),(7,cR z)] 8
def Ld(z:Ar)(o:bk)(bs:LV):AH:=b_ z.X z.xc [(0,d_ z 2 3 4 5 6 7),(1,o),(2,cT z),(3,dg z),(4,df z),(5,cZ z),(6,dh z),(7,cR z),(8,.ay bs 44)] 9
theorem aAY{z L Q}:
 bI Z UK (λ_=>[]) L Q 1000 41 [.aa 0 0] (hA z)=(
 Q (J (wI (wI (z.id+1)-1))) (b_ z.X z.xc [(0,.aj [J z.au,J (wI (z.id+1)),.ai 1 z.ng 1,.aA 2,.aA 3,.aA 4,.aA 5,.ai 6 z.na 9,.aJ] 78),(1,cT z),(2,dg z),(3,df z),(4,cZ z),(5,dh z),(6,cR z)] 7)):=by kernel_rfl
theorem aBh{z fs nf L Q}:
 bI Z Om aiP L Q 1000 53 [.aa 0 0,.ad fs nf 5] (hA z)=(
 L (aB [(0,.aa 0 0),(6,.ad fs nf 5),(7,J (aE nf)),(8,J 0)]) (hA z) (aw Z 53 0)):=by kernel_rfl
theorem aBi{z fs nf i L Q}:
 ck Z Om aiP L Q 1000 53 7 (aB [(0,.aa 0 0),(6,.ad fs nf 5),(7,J (aE nf)),(8,J i)]) (aw Z 53 0) (hA z)=(
 aq (decide (i<aE nf)) (∃aL:Nat,i=(aL:Int)/\aL<nf/\(∃s n aP cs len bP bH,((fs.drop (aL*5)).take 5:List AV)=[.ab s,J n,J aP,.ad cs len 4,.ad bP bH 6]/\L (aB [(0,.aa 0 0),(6,.ad fs nf 5),(7,J (aE nf)),(8,J (wI (i+1)))]) (b_ z.X z.xc [(0,.aj [J (if wI (aP+1)>z.au then wI (aP+1)else z.au),J z.id,.ai 1 z.ng 1,.aA 2,.aA 3,.aA 4,.aA 5,.ai 6 z.na 9,.aJ] 78),(1,cT z),(2,dg z),(3,df z),(4,cZ z),(5,dh z),(6,cR z)] 7) (aw Z 53 0))) (Q (.aC []) (hA z))):=by kernel_rfl
theorem aAP{i k n s cs len k' n' s' cs' cB L Q}:
 bI Z UM (λ_=>[]) L Q 1000 29 [.aa 0 0] (al [(0,pq i k n s cs len k' n' s' cs' cB)] 1)=(
 Q (J i) (al [(0,pq i k n s cs len k' n' s' cs' cB)] 1)):=by kernel_rfl
theorem aAO{z fs nf i k n s cs len k' n' s' cs' cB L Q}:
 bI Z J0 Fe L Q 1000 28 [.aa 0 0,.ad fs nf 5,.ba (.func 29) [] [.aa 1 0]] (oy z (pq i k n s cs len k' n' s' cs' cB))=(
 L (aB [(0,.aa 0 0),(1,.ad fs nf 5),(2,.ba (.func 29) [] [.aa 1 0]),(6,.aJ),(12,.ad fs nf 5),(13,J (aE nf)),(14,J 0)]) (oy z (pq i k n s cs len k' n' s' cs' cB)) (aw Z 28 0)):=by kernel_rfl
theorem alz{z fs nf i k n s cs len k' n' s' cs' cB j L Q}:
 ck Z J0 Fe L Q 1000 28 8 (aB [(0,.aa 0 0),(1,.ad fs nf 5),(2,.ba (.func 29) [] [.aa 1 0]),(6,.aJ),(12,.ad fs nf 5),(13,J (aE nf)),(14,J j)]) (aw Z 28 0) (oy z (pq i k n s cs len k' n' s' cs' cB))=(
 aq (decide (j<aE nf)) (∃aL:Nat,j=(aL:Int)/\aL<nf/\(∃cn aP bA bP bH gN gP,((fs.drop (aL*5)).take 5:List AV)=[.ab cn,J aP,J bA,.ad bP bH 4,.ad gN gP 6]/\al [(0,pq i k n s cs len k' n' s' cs' cB)] 1=al [(0,pq i k n s cs len k' n' s' cs' cB)] 1/\some (.ah [.ab cn,J aP,J bA,.ad bP bH 4,.ad gN gP 6]:AV)=some (.ah [.ab cn,J aP,J bA,.ad bP bH 4,.ad gN gP 6]:AV)/\(∃w:Cw,(([.ah [.ab cn,J aP,J bA,.ad bP bH 4,.ad gN gP 6],J i]:LV)=[.ah (gH w.f),J w.i]/\al [] 0=an/\iW w.f/\sf w.f/\gp w.f w.i=Prod.mk w.b w.e)/\aq (w.e !=0) (Q (.aC [.aJ,J w.e]) (oy z (pq i k n s cs len k' n' s' cs' cB))) (L (aB [(0,.aa 0 0),(1,.ad fs nf 5),(2,.ba (.func 41) [.aa 0 0] []),(6,.ai 8 1 9),(12,.ad fs nf 5),(13,J (aE nf)),(14,J (wI (j+1)))]) (b_ z.X z.xc [(0,d_ z 2 3 4 5 6 7),(1,pq i k n s cs len k' n' s' cs' cB),(2,cT z),(3,dg z),(4,df z),(5,cZ z),(6,dh z),(7,cR z),(8,.aj [J w.b.id,.ab w.b.aN.cL,J w.b.aN.ar,J w.b.aN.au,J w.b.iC.1,J w.b.iC.2.1,.ab w.b.iC.2.2.1,J w.b.iC.2.2.2,.ad (cJ w.b.gi) w.b.gi.length 6] 44)] 9) (aw Z 28 0))))) (∃w:Ar×List bG,(([.aa 0 0,.ad fs nf 5]:LV)=[.aa 0 0,.ad (dM w.2) w.2.length 5]/\hA z=hA w.1/\w.2.length<=4000000)/\Q (.aC [.aJ,J 0]) (oy (w.1.ps w.2) (pq i k n s cs len k' n' s' cs' cB)))):=by kernel_rfl
theorem alB{z fs nf i k n s cs len k' n' s' cs' cB bs nb j L Q}:
 ck Z J0 Fe L Q 1000 28 8 (aB [(0,.aa 0 0),(1,.ad fs nf 5),(2,.ba (.func 41) [.aa 0 0] []),(6,.ai 8 nb 9),(12,.ad fs nf 5),(13,J (aE nf)),(14,J j)]) (aw Z 28 0) (Ld z (pq i k n s cs len k' n' s' cs' cB) bs)=(
 aq (decide (j<aE nf)) (∃aL:Nat,j=(aL:Int)/\aL<nf/\(∃cn aP bA bP bH gN gP,((fs.drop (aL*5)).take 5:List AV)=[.ab cn,J aP,J bA,.ad bP bH 4,.ad gN gP 6]/\(∃w,(([.aa 0 0]:LV)=[.aa 0 0]/\hA z=hA w)/\some (.ah [.ab cn,J aP,J bA,.ad bP bH 4,.ad gN gP 6]:AV)=some (.ah [.ab cn,J aP,J bA,.ad bP bH 4,.ad gN gP 6]:AV)/\(∃ae:Cw,(([.ah [.ab cn,J aP,J bA,.ad bP bH 4,.ad gN gP 6],J (wI (wI (w.id+1)-1))]:LV)=[.ah (gH ae.f),J ae.i]/\al [] 0=an/\iW ae.f/\sf ae.f/\gp ae.f ae.i=Prod.mk ae.b ae.e)/\aq (ae.e !=0) (Q (.aC [.aJ,J ae.e]) (oy w.tk (pq i k n s cs len k' n' s' cs' cB))) ((bs.length=nb*9/\nb+1<=4194304/\true=true/\true=true)/\L (aB [(0,.aa 0 0),(1,.ad fs nf 5),(2,.ba (.func 41) [.aa 0 0] []),(6,.ai 8 (nb+1) 9),(12,.ad fs nf 5),(13,J (aE nf)),(14,J (wI (j+1)))]) (Ld w.tk (pq i k n s cs len k' n' s' cs' cB) (bs++[J ae.b.id,.ab ae.b.aN.cL,J ae.b.aN.ar,J ae.b.aN.au,J ae.b.iC.1,J ae.b.iC.2.1,.ab ae.b.iC.2.2.1,J ae.b.iC.2.2.2,.ad (cJ ae.b.gi) ae.b.gi.length 6])) (aw Z 28 0)))))) (∃w:Ar×List bG,(([.aa 0 0,.ad fs nf 5]:LV)=[.aa 0 0,.ad (dM w.2) w.2.length 5]/\hA z=hA w.1/\w.2.length<=4000000)/\Q (.aC [.ai 8 nb 9,J 0]) (Ld (w.1.ps w.2) (pq i k n s cs len k' n' s' cs' cB) bs))):=by kernel_rfl
theorem ac0:aU Z UK:=by
 refine cA ank ?_;rintro⟨f,i,b,e⟩ args H ⟨rfl,rfl,hf,hs,hc⟩;have h:=WZ Vj (w:=(f,i)) ⟨rfl,rfl,hf,λ_=>hs⟩ rfl;have h2:bZ Z 52 [.ah (gH f),J i] an (.aC [.ah (yd b (.ai 0 b.gi.length 6)),J e]) (al [(0,.ay (cJ b.gi) 56)] 1):=by have h3:bZ Z 52 [.ah (gH f),J i] an (.aC [.ah (yd (gp f i).1 (.ai 0 (gp f i).1.gi.length 6)),J (gp f i).2]) (hB (gp f i).1):=h;rw[hc]at h3;exact h3
 have h4:=tR (g:=0) h2 rfl (gq _);have e1:gT 0 (cJ b.gi) (.aC [.ah (yd b (.ai 0 b.gi.length 6)),J e])=.aC [.ah (tO b),J e]:=by simp[gT,qp,yd,tO,Bc]
 rw[e1]at h4;exact nh (ps:=[]) h4 (by kernel_rfl) (by kernel_rfl)
theorem UL:aU Z Om:=by refine cA ac0 ?_;rintro A args H ⟨rfl,rfl⟩;refine eE 15 ac0 aAY ?_;exact⟨rfl,rfl⟩
theorem aBg{A:Ar}{l}(hl:l.length<=4000000):∀i:Nat,i<=l.length->br Z 53 25 7 (.aC []) (hA (A.ps l)) (aB [(0,.aa 0 0),(6,.ad (dM l) l.length 5),(7,J (aE l.length)),(8,J (i:Int))]) (hA (A.ps (l.take i))) (aw Z 53 0):=by
 refine dS (λi=>l.length-i) _ _ _ _ ?_;rintro i hi ih;refine hE UL aBi ?_;refine aD.2 ⟨λax=>?_,λbu=>?_⟩
 .have ax:i<l.length:=by simpa using ax
  have bX:=Pr ax;have fJ:A.ps (l.take (i+1))={A with au:=(if wI (l[i].aN.au+1)>Cq A.au (l.take i)then wI (l[i].aN.au+1)else Cq A.au (l.take i))}:=by simp only[Ar.ps,Cq];rw[vR,ir ax,I8];rfl
  have h1:=ih (i+1) (by omega) (by omega);rw[fJ]at h1;generalize l[i]=f at bX h1;have⟨⟨nm,ar,au⟩,ts,gs⟩:=f;refine⟨i,rfl,ax,nm,ar,au,aF ts,ts.length,bD gs,gs.length,bX,?_⟩;rw[cO (by omega) (by omega)];exact h1
 .have bu:l.length<=i:=by simpa using bu
  rw[CB bu];exact⟨rfl,rfl⟩
theorem ac1:aU Z UM:=by refine cA UL ?_;rintro⟨A,l⟩ args H ⟨rfl,rfl,hl⟩;refine eE 25 UL aBh ?_;exact aBg hl 0 (gq _)
theorem Dy:aU Z J0:=by
 refine Gs ac1 λargs H p v H' h hp=>?_
 unfold afS at h;split at h
 .split at h<;>cases h;subst hp;refine eE 4 ac1 aAP ?_;exact⟨rfl,rfl⟩
 .cases h
def FQ(z:Ar):Int:=wI (wI (z.id+1)-1)
def ie:Ar->List bG->Ar×List fG×Int
 |z,[]=>(z,[],0)
 |z,f::l=>if(gp f (FQ z)).2≠0 then(z.tk,[],(gp f (FQ z)).2)else((ie z.tk l).1,(gp f (FQ z)).1::(ie z.tk l).2.1,(ie z.tk l).2.2)
def mo(z:Ar)(i:Int):List bG->Ar×List fG×Int
 |[]=>(z.ps [],[],0)
 |f::l=>if(gp f i).2≠0 then(z,[],(gp f i).2)else if(ie z l).2.2≠0 then((ie z l).1,[],(ie z l).2.2)else((ie z l).1.ps (f::l),(gp f i).1::(ie z l).2.1,0)
def e_:List fG->LV
 |[]=>[]
 |b::l=>tO b++e_ l
theorem WG:∀a b:List fG,e_ (a++b)=e_ a++e_ b
 |[],b=>rfl
 |x::a,b=>by simp only[oH,e_,WG a b,j7]
theorem Pn:∀l,(e_ l).length=l.length*9
 |[]=>rfl
 |b::l=>by simp[e_,tO,Pn l];omega
theorem aqe(l):(e_ l).all AV.cX=true/\(e_ l).all eG=true:=by
 induction l with
 |nil=>exact⟨rfl,rfl⟩
 |cons g l ih=>simp only[e_,sc,ih.1,ih.2,yW];exact⟨rfl,rfl⟩
def tn(i:Int)(c:nN):bk:=pq i c.1.cq c.1.n c.1.cK (aF c.1.bh) c.1.bh.length c.2.cq c.2.n c.2.cK (aF c.2.bh) c.2.bh.length
def GH(e:Int)(n:Nat):AV:=if e≠0 then .aC [.aJ,J e]else .aC [.ai 8 n 9,J 0]
def GG(z:Ar)(l:List bG)(o:bk)(e:Int)(bs:List fG):AH:=if e≠0 then oy z o else Ld (z.ps l) o (e_ bs)
theorem alA{l i c}(ho:∀f∈l,iW f/\sf f)(hl:l.length<=4000000):∀t bn z bs,l=bn++t->bs.length=bn.length->
 br Z 28 43 8 (GH (ie z t).2.2 (bs++(ie z t).2.1).length) (GG (ie z t).1 l (tn i c) (ie z t).2.2 (bs++(ie z t).2.1))
  (aB [(0,.aa 0 0),(1,.ad (dM l) l.length 5),(2,.ba (.func 41) [.aa 0 0] []),(6,.ai 8 bs.length 9),(12,.ad (dM l) l.length 5),(13,J (aE l.length)),(14,J (bn.length:Int))]) (Ld z (tn i c) (e_ bs)) (aw Z 28 0)
 |[],bn,z,bs,e1,e2=>by rw[jm]at e1;subst e1;refine hE Dy alB ?_;refine aD.2 ⟨λax=>absurd (dQ ax) (by simp),λ_=>?_⟩;refine⟨(z,l),⟨rfl,rfl,hl⟩,?_⟩;simp only[ie,GH,GG,jm];exact⟨rfl,rfl⟩
 |f::t,bn,z,bs,e1,e2=>by
  have ax:bn.length<l.length:=by rw[e1];simp
  have asr:l[bn.length]=f:=by simp[e1]
  have sX:=ho f (by rw[e1];simp);have bX:=Pr ax;rw[asr]at bX;simp only[ie];generalize hc:gp f (FQ z)=r;have⟨b,e⟩:=r;refine hE Dy alB ?_;have ih:=λb=>alA (i:=i) (c:=c) ho hl t (bn++[f]) z.tk (bs++[b]) (by rw[e1,j7];rfl) (by simp[e2])
  refine aD.2 ⟨λ_=>?_,λbu=>absurd (ez bu) (by simp;omega)⟩;have⟨⟨nm,ar,au⟩,ts,gs⟩:=f;refine⟨bn.length,rfl,ax,nm,ar,au,aF ts,ts.length,bD gs,gs.length,bX,z,⟨rfl,rfl⟩,rfl,⟨⟨⟨nm,ar,au⟩,ts,gs⟩,FQ z,b,e⟩,⟨rfl,rfl,sX.1,sX.2,hc⟩,aD.2 ⟨λhe=>?_,λhe=>⟨⟨Pn _,by omega,rfl,rfl⟩,?_⟩⟩⟩
  .have he:e≠0:=by simpa using he
   rw[aO he];simp only[GH,GG,aO he];exact⟨rfl,rfl⟩
  .have he:¬e≠0:=by simpa using he
   rw[az he];rw[cO (by omega) (by omega)];have h1:=ih b;rw[j7,WG,show(bs++[b]).length=bs.length+1 by simp,show(bn++[(⟨⟨nm,ar,au⟩,ts,gs⟩:bG)]).length=bn.length+1 by simp]at h1;exact h1
structure Mw where
 z:Ar
 i:Int
 c:nN
 l:List bG
 zf:Ar
 bl:List fG
 e:Int
def aez:cx Mw where
 bn w A H:=A=[.aa 0 0,.ad (dM w.l) w.l.length 5,.ba (.func 29) [] [.aa 1 0]]/\H=oy w.z (tn w.i w.c)/\(∀f∈w.l,iW f/\sf f)/\w.l.length<=4000000/\mo w.z w.i w.l=(w.zf,w.bl,w.e)
 v w:=.aC [.ad (e_ w.bl) w.bl.length 9,J w.e]
 aK w:=oy w.zf (tn w.i w.c)
theorem arP{A A' o o'}(h:oy A o=oy A' o'):A=A'/\o=o':=by have h0:=congrArg (λH=>AH.bf H 0) h;have h1:=congrArg (λH=>AH.bf H 2) h;have h2:=congrArg (λH=>AH.bf H 3) h;have h3:=congrArg (λH=>AH.bf H 4) h;have h4:=congrArg (λH=>AH.bf H 5) h;have h5:=congrArg (λH=>AH.bf H 6) h;have h6:=congrArg (λH=>AH.bf H 7) h;have h8:=congrArg (λH=>AH.bf H 1) h;have h7:=congrArg AH.x h;replace h1:some (cT A)=some (cT A'):=h1;replace h6:some (cR A)=some (cR A'):=h6;replace h8:some o=some o':=h8;have⟨a0,a1,a2,a3,a4,a5,a6,a7,a8,a9,Kd,Ke,Kf,Kg,Kh,Ki⟩:=A;have⟨b0,b1,b2,b3,b4,b5,b6,b7,b8,b9,OV,OW,OX,OY,OZ,O0⟩:=A';simp only[d_,cT,dg,df,cZ,dh,cR,pg,bk.aj.injEq,bk.ay.injEq,bk.bm.injEq,jn,AV.bU.injEq,AV.ai.injEq,XH.mk.injEq,true_and,and_true]at h0 h1 h2 h3 h4 h5 h6 h7 h8;obtain⟨rfl,rfl,rfl,rfl⟩:=h0;obtain⟨rfl,rfl⟩:=h2;obtain⟨rfl,rfl⟩:=h3;obtain⟨rfl,rfl⟩:=h4;obtain⟨rfl,rfl⟩:=h5;obtain⟨rfl,rfl⟩:=h7;subst h1 h6 h8;exact⟨rfl,rfl⟩
theorem aBT{i i' c c'}(h:tn i c=tn i' c'):i=i'/\c=c':=by have⟨⟨k,n,s,l⟩,⟨k2,n2,s2,l2⟩⟩:=c;have⟨⟨k',n',s',l'⟩,⟨k2',n2',M9,l2'⟩⟩:=c';simp only[tn,pq,aI.cq,aI.n,aI.cK,aI.bh,bk.aj.injEq,jn,AV.bU.injEq,AV.ab.injEq,AV.ad.injEq,true_and,and_true]at h;obtain⟨rfl,rfl,rfl,rfl,⟨e1,e2⟩,rfl,rfl,rfl,e3,e4⟩:=h;rw[tQ e2 e1,tQ e4 e3];exact⟨rfl,rfl⟩
theorem apa:aez.cr:=by rintro⟨z,i,c,l,zf,bl,e⟩ ⟨z',i',c',l',zf',bl',e'⟩ A H ⟨h1,h2,_,_,q1⟩ ⟨h3,h4,_,_,q2⟩;rw[h1]at h3;rw[h2]at h4;simp at h3;have⟨e1,e2⟩:=arP h4;have⟨e3,e4⟩:=aBT e2;have e5:=Pq h3.2 h3.1;subst e1 e3 e4 e5;rw[q1]at q2;cases q2;rfl
def J1:Ev.bo:=bR 28 (ca aez apa pO) J0
theorem ao8{z zf i c l bl e}(ho:∀f∈l,iW f/\sf f)(hl:l.length<=4000000)(hr:mo z i l=(zf,bl,e)):
 bZ Z 28 [.aa 0 0,.ad (dM l) l.length 5,.ba (.func 29) [] [.aa 1 0]] (oy z (tn i c)) (.aC [.ad (e_ bl) bl.length 9,J e]) (oy zf (tn i c)):=by
 have FJ:∀v H1,br Z 28 43 8 v H1 (aB [(0,.aa 0 0),(1,.ad (dM l) l.length 5),(2,.ba (.func 29) [] [.aa 1 0]),(6,.aJ),(12,.ad (dM l) l.length 5),(13,J (aE l.length)),(14,J 0)]) (oy z (tn i c)) (aw Z 28 0)->bZ Z 28 [.aa 0 0,.ad (dM l) l.length 5,.ba (.func 29) [] [.aa 1 0]] (oy z (tn i c)) v H1:=by intro v H1 h;refine eS Dy 1000 Fe 43 (by kernel_rfl) ?_;exact cast (@aAO z (dM l) l.length i c.1.cq c.1.n c.1.cK (aF c.1.bh) c.1.bh.length c.2.cq c.2.n c.2.cK (aF c.2.bh) c.2.bh.length _ _).symm h
 cases l with
 |nil=>cases hr;refine tS (v:=.aC [.aJ,J 0]) (FJ _ _ ?_) (Wk.FU (.ta 9 (.oq _))) (by show(8:Nat)<=8;omega);refine hD Dy 1000 Fe (by kernel_rfl) ?_;refine cast (@alz z [] 0 i c.1.cq c.1.n c.1.cK (aF c.1.bh) c.1.bh.length c.2.cq c.2.n c.2.cK (aF c.2.bh) c.2.bh.length 0 _ _).symm ?_;exact aD.2 ⟨λh=>absurd (dQ h) (by decide),λ_=>⟨(z,[]),⟨rfl,rfl,by simp⟩,rfl,rfl⟩⟩
 |cons f t=>
  have sX:=ho f (dJ ..);have hf0:=λv H1=> @alz z (dM (f::t)) (f::t).length i c.1.cq c.1.n c.1.cK (aF c.1.bh) c.1.bh.length c.2.cq c.2.n c.2.cK (aF c.2.bh) c.2.bh.length 0 (br Z 28 43 8 v H1) (fA v H1)
  simp only[mo]at hr;by_cases he:(gp f i).2≠0
  .rw[aO he]at hr;generalize hc:gp f i=r at he hr;obtain⟨b,e1⟩:=r;cases hr;refine tS (v:=.aC [.aJ,J e1]) (FJ _ _ ?_) (Wk.FU (.ta 9 (.oq _))) (by show(8:Nat)<=8;omega);refine hD Dy 1000 Fe (by kernel_rfl) ?_;refine cast (hf0 _ _).symm ?_;obtain⟨⟨nm,ar,au⟩,ts,gs⟩:=f;exact aD.2 ⟨λ_=>⟨0,rfl,CH _,nm,ar,au,aF ts,ts.length,bD gs,gs.length,rfl,rfl,rfl,⟨⟨⟨nm,ar,au⟩,ts,gs⟩,i,b,e1⟩,⟨rfl,rfl,sX.1,sX.2,hc⟩,aD.2 ⟨λ_=>⟨rfl,rfl⟩,λh=>absurd (by simpa using h) he⟩⟩,λh=>absurd (ez h) (by simp)⟩
  .rw[az he]at hr;generalize hc:gp f i=r at he hr;obtain⟨b,e1⟩:=r;have h1:bZ Z 28 [.aa 0 0,.ad (dM (f::t)) (f::t).length 5,.ba (.func 29) [] [.aa 1 0]] (oy z (tn i c)) (GH (ie z t).2.2 ([b]++(ie z t).2.1).length) (GG (ie z t).1 (f::t) (tn i c) (ie z t).2.2 ([b]++(ie z t).2.1)):=by have hh:=alA (i:=i) (c:=c) ho hl t [f] z [b] rfl rfl;refine FJ _ _ ?_;refine hD Dy 1000 Fe (by kernel_rfl) ?_;refine cast (hf0 _ _).symm ?_;obtain⟨⟨nm,ar,au⟩,ts,gs⟩:=f;refine aD.2 ⟨λ_=>⟨0,rfl,CH _,nm,ar,au,aF ts,ts.length,bD gs,gs.length,rfl,rfl,rfl,⟨⟨⟨nm,ar,au⟩,ts,gs⟩,i,b,e1⟩,⟨rfl,rfl,sX.1,sX.2,hc⟩,aD.2 ⟨λh=>absurd (by simpa using h) he,λ_=>?_⟩⟩,λh=>absurd (ez h) (by simp)⟩;exact yr (xx:=some ⟨z.X,z.xc⟩) (g:=8) (n:=9) (T:=[(0,.aa 0 0),(1,.ad (dM (⟨⟨nm,ar,au⟩,ts,gs⟩::t)) (bG.mk ⟨nm,ar,au⟩ ts gs::t).length 5),(2,.ba (.func 41) [.aa 0 0] []),(6,.ai 8 1 9),(12,.ad (dM (⟨⟨nm,ar,au⟩,ts,gs⟩::t)) (bG.mk ⟨nm,ar,au⟩ ts gs::t).length 5),(13,J (aE (bG.mk ⟨nm,ar,au⟩ ts gs::t).length)),(14,J 1)]) hh rfl (λφ e o h=>rQ rfl h) rfl (by kernel_rfl)
   by_cases wG:(ie z t).2.2≠0
   .rw[aO wG]at hr;simp only[GH,GG,aO wG]at h1;cases hr;exact tS h1 (Wk.FU (.ta 9 (.oq _))) (by show(8:Nat)<=8;omega)
   .rw[az wG]at hr;simp only[GH,GG,az wG]at h1;cases hr;have e1:gT 8 (e_ ([b]++(ie z t).2.1)) (.aC [.ai 8 ([b]++(ie z t).2.1).length 9,J 0])=.aC [.ad (e_ (b::(ie z t).2.1)) (b::(ie z t).2.1).length 9,J 0]:=by simp[gT,qp,Pn]
    generalize (ie z t).1.ps (f::t)=zz at h1⊢;have h4:=tR (g:=8) h1 rfl (by show(8:Nat)<=9;omega);rw[e1]at h4;exact nh (ps:=[(0,0),(1,1),(2,2),(3,3),(4,4),(5,5),(6,6),(7,7)]) h4 (by kernel_rfl) (by kernel_rfl)
theorem On:aU Z J1:=by refine cA Dy ?_;rintro⟨z,i,c,l,zf,bl,e⟩ args H ⟨rfl,rfl,ho,hl,hr⟩;exact ao8 ho hl hr
structure En where
 p:cV
 n:Nat
 aM:LI
 b:Nat
def o6(p:cV):AV:=.ah [.ab p.cL,J p.ar,J p.au]
def CL(n:Nat):LI->AV
 |[]=>.aJ
 |i::l=>.fF n (l.length+1) 1
def zH(e:En):AV×AV×Nat:=(o6 e.p,CL e.n e.aM,e.b)
def gB(m:List En):ES:=m.map zH
theorem aqL(a b c d e f):ik Z 100 39 (.ah [.ab a,J c,J e]) (.ah [.ab b,J d,J f])=some (bW a b&&((c==d)&&((e==f)&&true))):=
 (PH (by kernel_rfl)).1
theorem eqP(p q):ik Z 100 39 (o6 p) (o6 q)=some (decide (p=q)):=by have⟨a,c,e⟩:=p;have⟨b,d,f⟩:=q;rw[o6,o6,aqL,mu];congr 1;rw[rC];simp
def fZ(p:cV):List En->Option En
 |[]=>none
 |e::m=>if p=e.p then some e else fZ p m
def wU(p:cV):List En->Nat->Option (Nat×En)
 |[],_=>none
 |e::m,i=>if p=e.p then some (i,e)else wU p m (i+1)
theorem L0(p):∀m i,(wU p m i).map (·.2)=fZ p m
 |[],_=>rfl
 |e::m,i=>by
  simp only[wU,fZ];split
  .rfl
  .exact L0 p m (i+1)
theorem aic{p}:∀{m i j e},wU p m i=some (j,e)->i<=j/\m[j-i]? =some e/\e.p=p
 |e0::m,i,j,e,h=>by
  simp only[wU]at h;split at h;next hp=>cases h;simp[hp]
  .have⟨h1,h2,h3⟩:=aic h;refine⟨by omega,?_,h3⟩;rw[show j-i=(j-(i+1))+1 by omega,Sd];exact h2
theorem KP(p):∀m i,ou (ik Z 100 39) (o6 p) (gB m) i=some ((wU p m i).map λx=>(x.1,CL x.2.n x.2.aM,x.2.b))
 |[],i=>rfl
 |e::m,i=>by
  have ih:=KP p m (i+1);simp only[gB,gR,zH,ou,eqP,wU];by_cases h:p=e.p
  .simp[h]
  .simp only[h,decide_false,if_false];exact ih
theorem auj(m p):eT Z 39 35 (gB m) (o6 p)=some (match fZ p m with|some e=>(CL e.n e.aM,true)|none=>(.aJ,false)):=by
 unfold eT;rw[KP,<-L0 p m 0];cases wU p m 0 with
 |none=>rfl
 |some x=>rfl
theorem alf:∀{m i e},m[i]? =some e->pn (gB m) i (λx=>(o6 e.p,x.2))=gB m
 |e0::m,0,e,h=>by cases h;rfl
 |e0::m,i+1,e,h=>by have:=alf (by simpa using h);simp only[gB]at this;simp only[gB,gR,pn,this]
theorem aqJ(p):Ha (o6 p) (o6 p)=true:=by have⟨a,b,c⟩:=p;simp[o6,Ha,DW,Hb,mu]
theorem ard{m c p e}(h:fZ p m=some e):Bu Z 39 35 (gB m) c true (o6 p)=some (CL e.n e.aM,e.b,gB m,c):=by
 unfold Bu;rw[KP];rw[<-L0 p m 0]at h;cases h2:wU p m 0 with
 |none=>rw[h2]at h;cases h
 |some x=>
  have⟨j,e'⟩:=x;rw[h2]at h;obtain rfl:e'=e:=by simpa using h
  have⟨_,h3,h4⟩:=aic h2;have hs:xy (gB m) j (o6 p)=true:=by unfold xy gB;rw[uv,show m[j]? =some e' from h3];simp only[qC,zH,h4];exact aqJ p
  have hf:uU true (o6 p) .kE=true:=rfl;simp only[qC,hs,hf,kZ,cond_true];have:=alf (i:=j) h3;rw[h4]at this;rw[this]
theorem arc{m c p}(h:fZ p m=none):Bu Z 39 35 (gB m) c true (o6 p)=some (.aJ,c,gB (m++[⟨p,0,[],c⟩]),c+1):=by
 unfold Bu;rw[KP];rw[<-L0 p m 0]at h;cases h2:wU p m 0 with
 |some x=>rw[h2]at h;cases h
 |none=>
  have hz:jZ Z 35=some .aJ:=by kernel_rfl
  have hf:uU true (o6 p) .aJ=true:=rfl;simp only[Option.map_none,hz,hf,cond_true,gB,qF];rfl
def p7(p:cV)(n:Nat)(aM:LI):List En->List En
 |[]=>[]
 |e::m=>if p=e.p then{e with n:=n,aM:=aM}::m else e::p7 p n aM m
theorem aaA{p n aM}:∀{m e},fZ p m=some e->(m.map En.b).Nodup->Ct (gB m) e.b (CL n aM)=some (gB (p7 p n aM m))
 |e0::m,e,h,hn=>by
  simp only[fZ]at h;rw[gR,uw]at hn;split at h;next hp=>cases h;simp only[Ct,gB,gR,zH,List.findIdx?_cons,k7,if_true,p7,hp,pn]
  next hp=>
   have ih:=aaA (n:=n) (aM:=aM) h hn.2;have cE:Nat.beq e0.b e.b=false:=by
    cases hb:Nat.beq e0.b e.b with
    |false=>rfl
    |true=>
     exfalso;have:=dG hb;apply hn.1;rw[this];have hm:∀{m:List En} {e:En},fZ p m=some e->e∈m:=by
      intro m;induction m with
      |nil=>intro e h;cases h
      |cons x m ih=>
       intro e h;simp only[fZ]at h;split at h
       .cases h;exact dJ ..
       .exact dZ _ (ih h)
     exact vP (hm h)
   simp only[Ct,gB]at ih⊢;simp only[gR,zH,List.findIdx?_cons,cE,p7,hp,if_false];cases hf:List.findIdx? (λe_1=>Nat.beq e_1.2.2 e.b) (List.map zH m)with
   |none=>rw[hf]at ih;cases ih
   |some i=>rw[hf]at ih;simp at ih;simp[pn,ih]
def ql(p:cV)(m:List En)(c:Nat):List En×Nat:=match fZ p m with
 |some _=>(m,c)
 |none=>(m++[⟨p,0,[],c⟩],c+1)
def iT(p:cV)(m:List En)(c:Nat):En:=(fZ p m).getD ⟨p,0,[],c⟩
theorem afh{p c}:∀{m},fZ p m=none->fZ p (m++[⟨p,0,[],c⟩])=some ⟨p,0,[],c⟩
 |[],_=>by simp[fZ]
 |e::m,h=>by
  simp only[fZ]at h;split at h
  .cases h
  next hp=>simp only[oH,fZ,az hp];exact afh h
theorem Pz(p m c):fZ p (ql p m c).1=some (iT p m c):=by
 unfold ql iT;cases h:fZ p m with
 |some e=>exact h
 |none=>exact afh h
theorem afG{m c p}:DV Z 39 35 1 (gB m) c true (o6 p)=some (if(iT p m c).aM=[]then 0 else(iT p m c).n,(iT p m c).aM.length,(iT p m c).b,gB (ql p m c).1,(ql p m c).2):=by
 unfold DV ql iT;cases h:fZ p m with
 |none=>rw[arc h];rfl
 |some e=>
  rw[ard h];have⟨q,n,aM,b⟩:=e;cases aM with
  |nil=>rfl
  |cons i l=>rfl
structure Ks where
 m:List En
 c:Nat
 X:Nat->Option bk
 xc:Nat
def ze(g:Nat->Option bk)(c id len:Nat)(vs:LV)(el:TypeId):Nat->Option bk:=λi=>bif Nat.beq i c then some (.ay vs el)else bif Nat.beq i id&& !Nat.beq len 0 then none else g i
def Ks.nm(k:Ks)(p:cV):Nat:=if(iT p k.m k.c).aM=[]then 0 else(iT p k.m k.c).n
def Ks.tA(k:Ks)(p:cV)(i:Int):Ks:=
 ⟨p7 p k.xc ((iT p k.m k.c).aM++[i]) (ql p k.m k.c).1,(ql p k.m k.c).2,ze k.X k.xc (k.nm p) (iT p k.m k.c).aM.length (aX (iT p k.m k.c).aM++[J i]) 2,k.xc+1⟩
structure Ks.OK(k:Ks)(L:Nat):Prop where
 Je:(k.m.map En.b).Nodup
 lt:∀e∈k.m,e.b<k.c
 Q5:(k.m.map En.p).Nodup
 nil:∀e∈k.m,e.aM=[]->e.n=0
 vW:∀e∈k.m,e.aM≠[]->e.n<k.xc/\k.X e.n=some (.ay (aX e.aM) 2)
 Mr:∀e∈k.m,∀e'∈k.m,e.aM≠[]->e'.aM≠[]->e.n=e'.n->e=e'
 len:∀e∈k.m,e.aM.length<=L
theorem GS{p}:∀{m e},fZ p m=some e->e∈m/\e.p=p
 |x::m,e,h=>by
  simp only[fZ]at h;split at h;next hp=>cases h;exact⟨dJ ..,hp.symm⟩
  .exact⟨dZ _ (GS h).1,(GS h).2⟩
theorem WB{p}:∀{m},fZ p m=none->∀e∈m,e.p≠p
 |x::m,h,e,he=>by
  simp only[fZ]at h;split at h
  .cases h
  next hp=>
   rcases dm.1 he with rfl|he
   .exact λh=>hp h.symm
   .exact WB h e he
theorem RA{k:Ks}{L}(h:k.OK L)(p):Ks.OK ⟨(ql p k.m k.c).1,(ql p k.m k.c).2,k.X,k.xc⟩ L:=by
 unfold ql;cases hp:fZ p k.m with
 |some e=>exact h
 |none=>
  have hn:=WB hp;refine⟨?_,?_,?_,?_,?_,?_,?_⟩
  .rw[qF,List.nodup_append];refine⟨h.Je,by simp,λa ha b hb=>?_⟩;obtain⟨e,he,rfl⟩:=nJ.1 ha;simp at hb;have:=h.lt e he;omega
  .intro e he;rcases ia.1 he with he|he
   .have:=h.lt e he;simp only;omega
   .rw[oe.1 he];simp only;omega
  .rw[qF,List.nodup_append];refine⟨h.Q5,by simp,λa ha b hb=>?_⟩;obtain⟨e,he,rfl⟩:=nJ.1 ha;simp at hb;rw[hb];exact hn e he
  .intro e he;rcases ia.1 he with he|he
   .exact h.nil e he
   .rw[oe.1 he];exact λ_=>rfl
  .intro e he cE;rcases ia.1 he with he|he
   .exact h.vW e he cE
   .rw[oe.1 he]at cE;exact absurd rfl cE
  .intro e he e' im h1 h2;rcases ia.1 he with he|he
   .rcases ia.1 im with im|im
    .exact h.Mr e he e' im h1 h2
    .rw[oe.1 im]at h2;exact absurd rfl h2
   .rw[oe.1 he]at h1;exact absurd rfl h1
  .intro e he;rcases ia.1 he with he|he
   .exact h.len e he
   .rw[oe.1 he];simp
theorem Pb{k:Ks}(p):iT p k.m k.c∈(ql p k.m k.c).1/\(iT p k.m k.c).p=p:=GS (Pz p k.m k.c)
theorem aiY{p n aM}:∀{m x},(m.map En.p).Nodup->x∈p7 p n aM m->(∃e∈m,e.p=p/\x={e with n:=n,aM:=aM})\/(x∈m/\x.p≠p)
 |e::m,x,hn,h=>by
  rw[gR,uw]at hn;simp only[p7]at h;split at h;next hp=>
   rcases dm.1 h with rfl|h
   .exact .inl ⟨e,dJ ..,hp.symm,rfl⟩
   .refine .inr ⟨dZ _ h,λhx=>hn.1 ?_⟩;rw[<-hp,<-hx];exact vP h
  next hp=>
   rcases dm.1 h with rfl|h
   .exact .inr ⟨dJ ..,λhx=>hp hx.symm⟩
   .rcases aiY hn.2 h with⟨e',h1,h2,h3⟩|⟨h1,h2⟩
    .exact .inl ⟨e',dZ _ h1,h2,h3⟩
    .exact .inr ⟨dZ _ h1,h2⟩
theorem ZN{α:Type}(f:En->α){p n aM}(hf:∀e,f {e with n:=n,aM:=aM}=f e):∀m,(p7 p n aM m).map f=m.map f
 |[]=>rfl
 |e::m=>by
  simp only[p7];split
  .simp only[gR,hf]
  .simp only[gR,ZN f hf m]
theorem auQ{k:Ks}{L}(h:k.OK L)(p):k.nm p=(iT p k.m k.c).n:=by
 unfold Ks.nm;split;next h0=>exact((RA h p).nil _ (Pb p).1 h0).symm
 .rfl
theorem atx{m:List En}(hn:(m.map En.p).Nodup){e e'}(h1:e∈m)(h2:e'∈m)(h:e.p=e'.p):e=e':=by
 induction m with
 |nil=>cases h1
 |cons x m ih=>
  rw[gR,uw]at hn;rcases dm.1 h1 with a1|a1<;>rcases dm.1 h2 with a2|a2
  .rw[a1,a2]
  .exact absurd (by rw[<-a1,h];exact vP a2) hn.1
  .exact absurd (by rw[<-a2,<-h];exact vP a1) hn.1
  .exact ih hn.2 a1 a2
theorem Ks.OK.add{k:Ks}{L}(h:k.OK L)(p i):(k.tA p i).OK (L+1):=by
 have h1:=RA h p;have⟨c1,c2⟩:=Pb (k:=k) p;have hk:=h1.Q5;have up:=fun{x:En} (hx:x∈(k.tA p i).m)=>aiY hk hx
 have Qw:∀e∈(ql p k.m k.c).1,e.p=p->e=iT p k.m k.c:=λe he hp=>atx hk he c1 (hp.trans c2.symm)
 refine⟨?_,?_,?_,?_,?_,?_,?_⟩
 .show((p7 _ _ _ _).map En.b).Nodup;rw[ZN En.b (λ_=>rfl)];exact h1.Je
 .intro x hx;rcases up hx with⟨e,he,hp,rfl⟩|⟨he,hp⟩
  .exact h1.lt e he
  .exact h1.lt x he
 .show((p7 _ _ _ _).map En.p).Nodup;rw[ZN En.p (λ_=>rfl)];exact hk
 .intro x hx h0;rcases up hx with⟨e,he,hp,rfl⟩|⟨he,hp⟩
  .simp at h0
  .exact h1.nil x he h0
 .intro x hx h0;rcases up hx with⟨e,he,hp,rfl⟩|⟨he,hp⟩
  .refine⟨by show k.xc<k.xc+1;omega,?_⟩;show ze k.X k.xc _ _ _ _ k.xc=_;simp only[ze,k7,cond_true,aX,qF,gR,List.map_nil]
  .have⟨r1,r2⟩:=h1.vW x he h0;simp only at r1 r2;refine⟨by show x.n<k.xc+1;omega,?_⟩;show ze k.X k.xc _ _ _ _ x.n=_;have e1:Nat.beq x.n k.xc=false:=by
    cases hb:Nat.beq x.n k.xc with
    |false=>rfl
    |true=>have:=dG hb;omega
   have e2:(Nat.beq x.n (k.nm p)&& !Nat.beq (iT p k.m k.c).aM.length 0)=false:=by
    cases hb:Nat.beq x.n (k.nm p)with
    |false=>rfl
    |true=>
     cases hc:Nat.beq (iT p k.m k.c).aM.length 0 with
     |true=>rfl
     |false=>
      exfalso;have hb:=dG hb;rw[auQ h p]at hb;have cE:(iT p k.m k.c).aM≠[]:=by intro hn;rw[hn]at hc;cases hc
      have:=h1.Mr x he _ c1 h0 cE hb;exact hp (by rw[this];exact c2)
   simp only[ze,e1,e2,cond_false];exact r2
 .intro x hx y hy h0 h2 Aj;rcases up hx with⟨e,he,hp,rfl⟩|⟨he,hp⟩
  .rcases up hy with⟨e',im,Ic,rfl⟩|⟨im,Ic⟩
   .rw[Qw e he hp,Qw e' im Ic]
   .have:=(h1.vW y im h2).1;simp only at Aj this;omega
  .rcases up hy with⟨e',im,Ic,rfl⟩|⟨im,Ic⟩
   .have:=(h1.vW x he h0).1;simp only at Aj this;omega
   .exact h1.Mr x he y im h0 h2 Aj
 .intro x hx;rcases up hx with⟨e,he,hp,rfl⟩|⟨he,hp⟩
  .have:=h1.len _ c1;simp;omega
  .have:=h1.len x he;omega
theorem Ks.OK.mono{k:Ks}{L L'}(h:k.OK L)(hl:L<=L'):k.OK L':=⟨h.Je,h.lt,h.Q5,h.nil,h.vW,h.Mr,λe he=>kF (h.len e he) hl⟩
theorem awg{k k':Ks}{L L' e e'}(hX:k.X=k'.X)(h:k.OK L)(h':k'.OK L')(he:e∈k.m)(im:e'∈k'.m)(hv:zH e=zH e'):e=e':=by
 have⟨p,n,aM,b⟩:=e;have⟨p',n',yE,b'⟩:=e';simp only[zH,I7]at hv;have⟨h1,h2,h3⟩:=hv;have hp:p=p':=by have⟨a,c,d⟩:=p;have⟨a',c',d'⟩:=p';obtain⟨rfl,rfl,rfl⟩:=h1;rfl
 subst hp h3;cases aM with
 |nil=>
  cases yE with
  |nil=>rw[show n=0 from h.nil _ he rfl,show n'=0 from h'.nil _ im rfl]
  |cons i l=>cases h2
 |cons i l=>
  cases yE with
  |nil=>cases h2
  |cons i' l'=>simp only[CL,AV.fF.injEq,and_true]at h2;obtain⟨rfl,h4⟩:=h2;have r1:=(h.vW _ he (by simp)).2;have r2:=(h'.vW _ im (by simp)).2;rw[hX,r2]at r1;simp at r1;rw[yY r1]
theorem WM{L L'}:∀{k k':Ks},k.X=k'.X->k.OK L->k'.OK L'->gB k.m=gB k'.m->k.m=k'.m:=by
 intro k k' hX h h' he;apply Sk;intro i;have hi:=congrArg (λl=>l[i]?) he;simp only[gB,uv]at hi;cases h1:k.m[i]? with
 |none=>cases h2:k'.m[i]? with
  |none=>rfl
  |some y=>rw[h1,h2]at hi;cases hi
 |some x=>cases h2:k'.m[i]? with
  |none=>rw[h1,h2]at hi;cases hi
  |some y=>rw[h1,h2]at hi;rw[awg hX h h' (I4 h1) (I4 h2) (by simpa using hi)]
def Ar.ks(z:Ar)(k:Ks):Ar:={z with mI:=gB k.m,oc:=k.c,X:=k.X,xc:=k.xc}
def nQ(k:Ks)(l:List fG):Ks:=l.foldl (λk b=>if b.aN.au≠0 then k.tA b.aN b.id else k) k
def uT:List fG->LV
 |[]=>[]
 |b::l=>[J b.id,.ab b.aN.cL,J b.aN.ar,J b.aN.au]++uT l
def KX(l:List fG)(b:Bool):bk:=.aj [.ad (uT l) l.length 4,.ao b] 97
def vr(z:Ar)(m:List En)(l:List fG)(b:Bool):Ar:=
 {z.ks (nQ ⟨m,z.oc,z.X,z.xc⟩ l)with mw:=z.mw++[.gX (nQ ⟨m,z.oc,z.X,z.xc⟩ l).xc 0],ng:=z.ng+1,X:=Df (nQ ⟨m,z.oc,z.X,z.xc⟩ l).X (nQ ⟨m,z.oc,z.X,z.xc⟩ l).xc (KX l b),xc:=(nQ ⟨m,z.oc,z.X,z.xc⟩ l).xc+1,mP:=z.mP++e_ l,na:=z.na+l.length}
def Xv(z:Ar):AH:=b_ z.X z.xc [(0,d_ z 7 2 3 4 5 8),(1,.bc []),(2,dg z),(3,df z),(4,cZ z),(5,dh z),(6,.bc []),(7,cT z),(8,cR z)] 9
structure Kw where
 z:Ar
 m:List En
 l:List fG
 b:Bool
 zf:Ar
 c:Nat
structure Ot(z:Ar)(m:List En)(l:List fG):Prop where
 mI:z.mI=gB m
 ok:Ks.OK ⟨m,z.oc,z.X,z.xc⟩ (4000000-l.length)
 ne:l≠[]
 len:l.length<=1000000
 mw:z.mw.length=z.ng/\z.ng+1<=4000000
 add:z.mP.length=z.na*9/\z.na+l.length<=4000000
def kpX:cx Kw where
 bn w A H:=A=[.aa 0 0,.ad (e_ w.l) w.l.length 9,.ao w.b]/\H=hA w.z/\Ot w.z w.m w.l/\vr w.z w.m w.l w.b=w.zf/\w.zf.xc=w.c+1
 v w:=.gX w.c 0
 aK w:=Xv w.zf
theorem aqd{b b'}(h:tO b=tO b'):b=b':=by have⟨i,⟨n,a,x⟩,⟨k1,k2,k3,k4⟩,c⟩:=b;have⟨i',⟨n',a',x'⟩,⟨k1',k2',k3',k4'⟩,c'⟩:=b';simp only[tO,jn,AV.bU.injEq,AV.ab.injEq,AV.ad.injEq,true_and,and_true]at h;obtain⟨rfl,rfl,rfl,rfl,rfl,rfl,rfl,rfl,e1,_⟩:=h;rw[GX e1]
theorem Pm:∀{l m},l.length=m.length->e_ l=e_ m->l=m
 |[],[],_,_=>rfl
 |[],_::_,h,_=>by simp at h
 |_::_,[],h,_=>by simp at h
 |t::l,u::m,hl,h=>by have h2:=l4 h (by simp[tO]);rw[aqd h2.1,Pm (by simpa using hl) h2.2]
theorem atA:kpX.cr:=by
 rintro⟨z,m,l,b,zf,c⟩ ⟨z',m',l',b',zf',c'⟩ A H ⟨h1,h2,k1,q1,q2⟩ ⟨h3,h4,k2,q3,q4⟩;simp only at h1 h2 h3 h4 k1 k2 q1 q2 q3 q4;rw[h1]at h3;have e1:=BE (h2.symm.trans h4);subst e1;simp at h3;obtain⟨⟨a1,a2⟩,rfl⟩:=h3;have e2:=Pm a2 a1;subst e2;have e3:=WM (k:=⟨m,z.oc,z.X,z.xc⟩) (k':=⟨m',z.oc,z.X,z.xc⟩) rfl k1.ok k2.ok (k1.mI.symm.trans k2.mI);subst e3;rw[q1]at q3;subst q3;have:c=c':=by omega
 subst this;rfl
def UN:Ev.bo:=bR 30 (ca kpX atA pO) J1
def Mi:Nat->LN:=fT [(3,[0,1,7,13,14,15]),(999995,[2000009]),(999998,[0,1,7])]
def hK(z:Ar)(m:Nat)(b:Bool)(ms:LV):AH:=b_ z.X z.xc [(0,d_ z 1 2 3 4 5 6),(1,cT z),(2,dg z),(3,df z),(4,cZ z),(5,dh z),(6,cR z),(7,.aj [.ai 8 m 4,.ao b] 97),(8,.ay ms 101)] 9
theorem aAR{z bs nb b L Q}:
 bI Z J1 Mi L Q 1000 30 [.aa 0 0,.ad bs nb 9,.ao b] (hA z)=(
 L (aB [(0,.aa 0 0),(1,.ad bs nb 9),(7,.aa 7 0),(13,.ad bs nb 9),(14,J (aE nb)),(15,J 0)]) (b_ z.X z.xc [(0,d_ z 1 2 3 4 5 6),(1,cT z),(2,dg z),(3,df z),(4,cZ z),(5,dh z),(6,cR z),(7,.aj [.aJ,.ao b] 97)] 8) (aw Z 30 0)):=by kernel_rfl
theorem aAS{z bs nb b m ms i L Q}:
 ck Z J1 Mi L Q 1000 30 7 (aB [(0,.aa 0 0),(1,.ad bs nb 9),(7,.aa 7 0),(13,.ad bs nb 9),(14,J (aE nb)),(15,J i)]) (aw Z 30 0) (hK z m b ms)=(
 aq (decide (i<aE nb)) (∃aL:Nat,i=(aL:Int)/\aL<nb/\(∃n:Int,∃s:LN,∃aP:Int,∃bA:Int,∃cf:Int,∃dc:Int,∃cn:LN,∃iP:Int,∃cs:LV,∃len:Nat,((bs.drop (aL*9)).take 9:List AV)=[J n,.ab s,J aP,J bA,J cf,J dc,.ab cn,J iP,.ad cs len 6]/\(ms.length=m*4/\m+1<=4194304/\true=true/\true=true)/\aq (bA !=0) (∃oC:Nat,∃bH:Nat,∃iE:Nat,∃bF:List (AV×AV×Nat),∃c':Nat,DV Z 39 35 1 z.mI z.oc true (.ah [.ab s,J aP,J bA])=some (oC,(bH,(iE,(bF,c'))))/\(bH+1<=4194304/\true=true/\true=true)/\(∃vs:LV,F1 (b_ z.X z.xc [] 0) oC bH 1 vs/\(∃KN:List (AV×AV×Nat),Ct bF iE (.fF z.xc (bH+1) 1)=some KN/\L (aB [(0,.aa 0 0),(1,.ad bs nb 9),(7,.aa 7 0),(13,.ad bs nb 9),(14,J (aE nb)),(15,J (wI (i+1)))]) (b_ (ze z.X z.xc oC bH (vs++[J n]) 2) (z.xc+1) [(0,d_ z 1 2 3 4 5 6),(1,cT z),(2,dg z),(3,df z),(4,cZ z),(5,.bm KN c' true),(6,cR z),(7,.aj [.ai 8 (m+1) 4,.ao b] 97),(8,.ay (ms++[J n,.ab s,J aP,J bA]) 101)] 9) (aw Z 30 0)))) (L (aB [(0,.aa 0 0),(1,.ad bs nb 9),(7,.aa 7 0),(13,.ad bs nb 9),(14,J (aE nb)),(15,J (wI (i+1)))]) (hK z (m+1) b (ms++[J n,.ab s,J aP,J bA])) (aw Z 30 0)))) (L (aB [(0,.aa 0 0),(1,.ad bs nb 9),(7,.aa 7 0)]) (hK z m b ms) (di Z Mi 30 0))):=by kernel_rfl
theorem aAQ{z bs nb c L Q}:
 ck Z J1 (λ_=>[]) L Q 1000 30 7 (aB [(0,.aa 0 0),(1,.ad bs nb 9),(7,.gX c 0)]) (di Z Mi 30 0) (hA z)=(
 (z.mw.length=z.ng*1/\z.ng+1<=4194304/\true=true/\true=true)/\(nb=0->z.na<=4194304/\Q (.gX c 0) (b_ z.X z.xc [(0,.aj [J z.au,J z.id,.ai 7 (z.ng+1) 1,.aA 2,.aA 3,.aA 4,.aA 5,.ai 6 z.na 9,.aJ] 78),(1,.bc []),(2,dg z),(3,df z),(4,cZ z),(5,dh z),(6,cR z),(7,.ay (z.mw++[.gX c 0]) 83)] 8))/\(1<=nb->(z.mP.length=z.na*9/\z.na+nb<=4194304/\List.all bs AV.cX=true/\List.all bs eG=true)/\Q (.gX c 0) (b_ z.X z.xc [(0,.aj [J z.au,J z.id,.ai 7 (z.ng+1) 1,.aA 2,.aA 3,.aA 4,.aA 5,.ai 8 (z.na+nb) 9,.aJ] 78),(1,.bc []),(2,dg z),(3,df z),(4,cZ z),(5,dh z),(6,.bc []),(7,.ay (z.mw++[.gX c 0]) 83),(8,.ay (z.mP++bs) 44)] 9))):=by kernel_rfl
theorem afw:∀a b:List fG,uT (a++b)=uT a++uT b
 |[],b=>rfl
 |x::a,b=>by simp only[oH,uT,afw a b,j7]
theorem WN:∀l:List fG,(uT l).length=l.length*4
 |[]=>rfl
 |b::l=>by simp[uT,WN l];omega
theorem KC:∀{l i} (h:i<l.length),((e_ l).drop (i*9)).take 9=tO l[i]
 |[],i,h=>by simp at h
 |t0::l,0,h=>by simp;exact xm (show(tO t0).length=9 from rfl)
 |t0::l,i+1,h=>by
  have hl:i<l.length:=by simpa using h
  have:=KC hl;simp only[e_,Cz];rw[<-this];have e:(i+1)*9=(tO t0).length+i*9:=by show _=9+i*9;omega
  rw[e,I2]
theorem anX(k l b):nQ k (l++[b])=(if b.aN.au≠0 then(nQ k l).tA b.aN b.id else nQ k l):=by simp only[nQ,I8,rz,Sl]
theorem adI{k L}(h:k.OK L):∀l:List fG,(nQ k l).OK (L+l.length):=by
 intro l;induction l generalizing k L with
 |nil=>exact h
 |cons b l ih=>
  simp only[nQ,rz];by_cases hb:b.aN.au≠0
  .rw[aO hb];exact(ih (h.add b.aN b.id)).mono (by simp;omega)
  .rw[az hb];exact(ih h).mono (by simp only[ej];omega)
def xpT(g c:Nat)(T:List (Nat×AV)):List (Nat×AV):=T.map λx=>(x.1,Dg g c x.2)
theorem amP{g c i a'}:∀{l},(aB (xpT g c l)).bT i=some a'->∃a,(aB l).bT i=some a/\a'=Dg g c a
 |[],h=>by rw[nG]at h;cases h
 |(s,b)::l,h=>by
  rw[nG]at h;rw[nG];simp only[xpT,gR,yI]at h⊢;by_cases hs:i=s
  .rw[aO hs]at h⊢;cases h;exact⟨b,rfl,rfl⟩
  .rw[az hs]at h⊢;rw[<-nG]at h⊢;exact amP h
theorem atB{z l b}(cE:l≠[])(hg:z.mw.length=z.ng/\z.ng+1<=4000000)(ha:z.mP.length=z.na*9/\z.na+l.length<=4000000):
 br Z 30 71 7 (.gX z.xc 0) (Xv {z with mw:=z.mw++[.gX z.xc 0],ng:=z.ng+1,X:=Df z.X z.xc (KX l b),xc:=z.xc+1,mP:=z.mP++e_ l,na:=z.na+l.length}) (aB [(0,.aa 0 0),(1,.ad (e_ l) l.length 9),(7,.aa 7 0)]) (hK z l.length b (uT l)) (di Z Mi 30 0):=by
 have e:gT 8 (uT l) (.ai 8 l.length 4)=.ad (uT l) l.length 4:=by simp[gT,WN]
 refine HM (g:=8) ?_ rfl (by kernel_rfl);refine sS (H':=b_ z.X z.xc [(0,d_ z 1 2 3 4 5 6),(1,cT z),(2,dg z),(3,df z),(4,cZ z),(5,dh z),(6,cR z),(7,KX l b),(8,.bc [])] 9) ?_ (by rw[KX,<-e];exact⟨cM _,λφ bs w _ hw=>⟨φ,hw,⟨jh.zj _ _,.of rfl rfl⟩,rfl⟩⟩) (by kernel_rfl);refine asj (s:=7) ?_ rfl (by simp only[List.all_cons,eG];rfl) rfl (by kernel_rfl) (λi a' h=>amP h) (A8 _);refine HR (oh:=[]) (ls:=[0,1,7]) (ps:=[(0,0),(1,1),(2,2),(3,3),(4,4),(5,5),(6,6)]) (H2:=hA {z with X:=Df z.X z.xc (KX l b),xc:=z.xc+1}) (t:=aB [(0,.aa 0 0),(1,.ad (e_ l) l.length 9),(7,.gX z.xc 0)]) (by kernel_rfl) (by kernel_rfl) (by kernel_rfl) ?_;refine hE On aAQ ?_;refine⟨⟨by simp only;omega,by simp only;omega,rfl,rfl⟩,λh0=>absurd (mJ h0) cE,λ_=>⟨⟨ha.1,by simp only;omega,aqe _⟩,rfl,rfl⟩⟩
theorem IF{xx m0 g n l l' vs ep el t}(hg:cN l g=some (.aj vs el))(hl:∀id,cN l' id=if id=g then some (.aj ep el)else cN l id)(hn:cN l n=none)(hr:∀φ x,bp φ vs x->bp φ ep x)(bS:ep.length=vs.length/\ep.all AV.cX=vs.all AV.cX):
 lL m0 (eg xx l n) (eg xx (l'++[(n,.ay [] t)]) (n+1)) (λφ aQ=>aQ=φ):=by
 have EA:g≠n:=by rintro rfl;rw[hg]at hn;cases hn
 have BP:cN l' n=none:=by rw[hl,az (Ne.symm EA)];exact hn
 have⟨a1,a2⟩:=aut (m0:=m0) (xx:=xx) (n:=n) hg hl hr bS;have⟨b1,b2⟩:=IE (xx:=xx) (m0:=m0) (.ay [] t) BP;refine⟨Nat.le_succ n,λφ bs w cu hw=>?_⟩;obtain⟨lH,k1,k2,rfl⟩:=a2 φ bs w cu hw;obtain⟨φ3,k4,k5,rfl⟩:=b2 _ bs w cu k1;exact⟨_,k4,⟨k2.1.rN k5.1,k2.2.qL k5.2⟩,rfl⟩
theorem akJ(n l i):CL n (l++[i])=.fF n (l.length+1) 1:=by
 cases l with
 |nil=>rfl
 |cons a l=>simp[CL]
theorem atC{z m l b}(hk:Ot z m l):∀i:Nat,i<=l.length->
 br Z 30 71 7 (.gX (nQ ⟨m,z.oc,z.X,z.xc⟩ l).xc 0) (Xv (vr z m l b)) (aB [(0,.aa 0 0),(1,.ad (e_ l) l.length 9),(7,.aa 7 0),(13,.ad (e_ l) l.length 9),(14,J (aE l.length)),(15,J (i:Int))]) (hK (z.ks (nQ ⟨m,z.oc,z.X,z.xc⟩ (l.take i))) i b (uT (l.take i))) (aw Z 30 0):=by
 refine dS (λi=>l.length-i) _ _ _ _ ?_;rintro i hi ih;refine hE On aAS ?_;refine aD.2 ⟨λax=>?_,λbu=>?_⟩
 .have ax:i<l.length:=by simpa using ax
  have bX:=KC ax;have hkl:=hk.len;have a_:=adI hk.ok (l.take i);have hsn:l.take (i+1)=l.take i++[l[i]]:=by rw[vR,ir ax];rfl
  have h1:=ih (i+1) (by omega) (by omega);rw[hsn,anX,afw]at h1;rw[vN,MU hi]at a_;generalize nQ ⟨m,z.oc,z.X,z.xc⟩ (l.take i)=k at h1 a_⊢;generalize l[i]=x at bX h1;have⟨id,⟨nm,ar,au⟩,⟨k1,k2,k3,k4⟩,cd⟩:=x;refine⟨i,rfl,ax,id,nm,ar,au,k1,k2,k3,k4,cJ cd,cd.length,bX,⟨by rw[WN,vN,MU hi],by omega,rfl,rfl⟩,?_⟩;rw[cO (by omega) (by omega)];refine aD.2 ⟨λha=>?_,λha=>?_⟩
  .have ha:au≠0:=by simpa using ha
   rw[aO ha]at h1;have cE:=RA a_ ⟨nm,ar,au⟩;have⟨c1,c2⟩:=Pb (k:=k) ⟨nm,ar,au⟩;have cu:=cE.len _ c1;refine⟨_,_,_,_,_,afG (c:=k.c) (p:=⟨nm,ar,au⟩),⟨by omega,rfl,rfl⟩,aX (iT ⟨nm,ar,au⟩ k.m k.c).aM,?_,_,?_,h1⟩
   .by_cases h0:(iT ⟨nm,ar,au⟩ k.m k.c).aM=[]
    .exact .inl ⟨by rw[h0];rfl,by rw[h0];rfl⟩
    .refine .inr ⟨λh=>h0 (mJ h),2,?_,by rw[aX,og,oI]⟩;rw[az h0];exact(cE.vW _ c1 h0).2
   .have:=aaA (n:=k.xc) (aM:=(iT ⟨nm,ar,au⟩ k.m k.c).aM++[id]) (Pz ⟨nm,ar,au⟩ k.m k.c) cE.Je;rw[akJ]at this;exact this
  .have ha:¬au≠0:=by simpa using ha
   rw[az ha]at h1;exact h1
 .have bu:l.length<=i:=by simpa using bu
  obtain rfl:i=l.length:=by omega
  rw[vT];exact atB hk.ne hk.mw hk.add
theorem ac2:aU Z UN:=by
 refine cA On ?_;rintro⟨z,m,l,b,zf,c⟩ args H ⟨rfl,rfl,hk,hq,hc⟩;simp only at hk hq hc;subst hq;obtain rfl:(nQ ⟨m,z.oc,z.X,z.xc⟩ l).xc=c:=Nat.succ.inj hc;refine eE 71 On aAR ?_;have h:=atC (b:=b) hk 0 (gq _);have hz:z.ks (nQ ⟨m,z.oc,z.X,z.xc⟩ (l.take 0))=z:=by have⟨a0,a1,a2,a3,a4,a5,a6,a7,a8,a9,Kd,Ke,Kf,Kg,Kh,Ki⟩:=z;have:=hk.mI;subst this;rfl
 rw[hz]at h;refine sS h (IF (l':=[(0,d_ z 1 2 3 4 5 6),(1,cT z),(2,dg z),(3,df z),(4,cZ z),(5,dh z),(6,cR z),(7,.aj [.ai 8 0 4,.ao b] 97)]) (g:=7) rfl (λid=>by rcases id with _|_|_|_|_|_|_|_|id<;>rfl) rfl (λφ x hx=>Ch hx) ⟨rfl,rfl⟩) (by kernel_rfl)
abbrev si(F:AV)(l:List fu)(i:Nat):Ev.Tr AV:=aB [(1,F),(9,.ad (fo l) l.length 4),(10,J (aE l.length)),(11,J (i:Int))]
abbrev rI(F:AV)(po:Nat)(l:List fu)(i:Nat)(ss:List ib)(j:Nat):Ev.Tr AV:=aB [(1,F),(5,.aa po 0),(9,.ad (fo l) l.length 4),(10,J (aE l.length)),(11,J (i:Int)),(16,.ad (mr ss) ss.length 9),(17,J (aE ss.length)),(18,J (j:Int))]
abbrev rr(p:fu):bk:=ru p.iR p.ar p.A_ (mr p.bO) p.bO.length
def tN{σ:Type}(iA:σ->fu->ib->σ)(st:σ)(l:List fu):σ:=l.foldl (λst p=>p.bO.foldl (λst s=>iA st p s) st) st
def j6(l:List fu):Nat:=(l.map λp=>p.bO.length).sum
section
variable{σ:Type}{HS:σ->AH}{HP:σ->bk->AH}{F:AV}{m0 po:Nat}{v:AV}{H1:AH}{iA:σ->fu->ib->σ}{zo:Nat->σ->Prop}{K:Nat}{l:List fu}
theorem ae9
 (hI:∀k st i p j (h:j<p.bO.length),p∈l->i<l.length->zo k st->k<K->zo (k+1) (iA st p p.bO[j])/\(br Z 23 32 m0 v H1 (rI F po l i p.bO (j+1)) (HP (iA st p p.bO[j]) (rr p)) (aw Z 23 1)->br Z 23 32 m0 v H1 (rI F po l i p.bO j) (HP st (rr p)) (aw Z 23 1))) (hX:∀st i p,p∈l->i<l.length->br Z 23 32 m0 v H1 (si F l (i+1)) (HS st) (aw Z 23 0)->br Z 23 32 m0 v H1 (rI F po l i p.bO p.bO.length) (HP st (rr p)) (aw Z 23 1)) {p} (hp:p∈l) {i} (hi:i<l.length):∀post bn st k,p.bO=bn++post->zo k st->k+post.length<=K->
   zo (k+post.length) (post.foldl (λst s=>iA st p s) st)/\(br Z 23 32 m0 v H1 (si F l (i+1)) (HS (post.foldl (λst s=>iA st p s) st)) (aw Z 23 0)->br Z 23 32 m0 v H1 (rI F po l i p.bO bn.length) (HP st (rr p)) (aw Z 23 1))
 |[],bn,st,k,e,hk,hK=>by rw[jm]at e;refine⟨hk,λh=>?_⟩;have:=hX st i p hp hi h;rw[e]at this;rw[e];exact this
 |s::post,bn,st,k,e,hk,hK=>by
  have ax:bn.length<p.bO.length:=by rw[e];simp
  have hg:p.bO[bn.length]=s:=by simp[e]
  have⟨h1,h2⟩:=hI k st i p bn.length ax hp hi hk (by simp at hK;omega);rw[hg]at h1 h2;have⟨h3,h4⟩:=ae9 hI hX hp hi post (bn++[s]) (iA st p s) (k+1) (by rw[e,j7];rfl) h1 (by simp at hK;omega);refine⟨by rw[ej,show k+(post.length+1)=k+1+post.length by omega];exact h3,λh=>h2 ?_⟩;have:=h4 h;rw[cI]at this;exact this
theorem Ph
 (hO:∀st i (h:i<l.length),br Z 23 32 m0 v H1 (rI F po l i l[i].bO 0) (HP st (rr l[i])) (aw Z 23 1)->br Z 23 32 m0 v H1 (si F l i) (HS st) (aw Z 23 0))
 (hI:∀k st i p j (h:j<p.bO.length),p∈l->i<l.length->zo k st->k<K->zo (k+1) (iA st p p.bO[j])/\(br Z 23 32 m0 v H1 (rI F po l i p.bO (j+1)) (HP (iA st p p.bO[j]) (rr p)) (aw Z 23 1)->br Z 23 32 m0 v H1 (rI F po l i p.bO j) (HP st (rr p)) (aw Z 23 1)))
 (hX:∀st i p,p∈l->i<l.length->br Z 23 32 m0 v H1 (si F l (i+1)) (HS st) (aw Z 23 0)->br Z 23 32 m0 v H1 (rI F po l i p.bO p.bO.length) (HP st (rr p)) (aw Z 23 1)):
 ∀post bn st k,l=bn++post->zo k st->k+j6 post<=K->
  zo (k+j6 post) (tN iA st post)/\(br Z 23 32 m0 v H1 (si F l l.length) (HS (tN iA st post)) (aw Z 23 0)->br Z 23 32 m0 v H1 (si F l bn.length) (HS st) (aw Z 23 0))
 |[],bn,st,k,e,hk,hK=>by rw[jm]at e;refine⟨hk,λh=>?_⟩;rw[e]at h⊢;exact h
 |p::post,bn,st,k,e,hk,hK=>by
  have ax:bn.length<l.length:=by rw[e];simp
  have hg:l[bn.length]=p:=by simp[e]
  have hp:p∈l:=by rw[e];simp
  have hn:j6 (p::post)=p.bO.length+j6 post:=by simp[j6]
  rw[hn]at hK⊢;have⟨h1,h2⟩:=ae9 hI hX hp ax p.bO [] st k rfl hk (by omega);have⟨h3,h4⟩:=Ph hO hI hX post (bn++[p]) (p.bO.foldl (λst s=>iA st p s) st) (k+p.bO.length) (by rw[e,j7];rfl) h1 (by omega);refine⟨by rw[<-Fz];exact h3,λh=>?_⟩;have h5:=h4 h;rw[cI]at h5;have h6:=hO st bn.length ax;rw[hg]at h6;exact h6 (h2 h5)
end
def nj(z:Ar)(b:Bool):AH:=b_ z.X z.xc [(0,.aj [.ao b] 4),(1,.aj [.aa 2 0] 25),(2,d_ z 3 4 5 6 7 8),(3,cT z),(4,dg z),(5,df z),(6,cZ z),(7,dh z),(8,cR z)] 9
def Qd(z:Ar)(b:Bool)(o:bk):AH:=b_ z.X z.xc [(0,.aj [.ao b] 4),(1,.aj [.aa 2 0] 25),(2,d_ z 3 4 5 6 7 8),(3,cT z),(4,dg z),(5,df z),(6,cZ z),(7,dh z),(8,cR z),(9,o)] 10
theorem agS{z z' b b'}(h:nj z b=nj z' b'):z=z'/\b=b':=by have h0:=congrArg (λH=>AH.bf H 2) h;have h1:=congrArg (λH=>AH.bf H 3) h;have h2:=congrArg (λH=>AH.bf H 4) h;have h3:=congrArg (λH=>AH.bf H 5) h;have h4:=congrArg (λH=>AH.bf H 6) h;have h5:=congrArg (λH=>AH.bf H 7) h;have h6:=congrArg (λH=>AH.bf H 8) h;have h8:=congrArg (λH=>AH.bf H 0) h;have h7:=congrArg AH.x h;replace h1:some (cT z)=some (cT z'):=h1;replace h6:some (cR z)=some (cR z'):=h6;replace h8:some (bk.aj [.ao b] 4)=some (bk.aj [.ao b'] 4):=h8;have⟨a0,a1,a2,a3,a4,a5,a6,a7,a8,a9,Kd,Ke,Kf,Kg,Kh,Ki⟩:=z;have⟨b0,b1,b2,b3,b4,b5,b6,b7,b8,b9,OV,OW,OX,OY,OZ,O0⟩:=z';simp only[d_,cT,dg,df,cZ,dh,cR,pg,bk.aj.injEq,bk.ay.injEq,bk.bm.injEq,jn,AV.bU.injEq,AV.ao.injEq,AV.ai.injEq,XH.mk.injEq,true_and,and_true]at h0 h1 h2 h3 h4 h5 h6 h7 h8;obtain⟨rfl,rfl,rfl,rfl⟩:=h0;obtain⟨rfl,rfl⟩:=h2;obtain⟨rfl,rfl⟩:=h3;obtain⟨rfl,rfl⟩:=h4;obtain⟨rfl,rfl⟩:=h5;obtain⟨rfl,rfl⟩:=h7;subst h1 h6 h8;exact⟨rfl,rfl⟩
structure U1 where
 z:Ar
 b:Bool
 p:cV
 s:ib
def u1X:cx U1 where
 bn w A H:=A=[.ah (GZ w.p),.ah (qW w.s),.aa 0 0,.aa 1 0]/\H=nj w.z w.b/\w.z.ret=[]
 v w:=.aC []
 aK w:=nj w.z w.b
theorem aCA:u1X.cr:=by rintro⟨z,b,p,s⟩ ⟨z',b',p',s'⟩ A H ⟨_,h2,_⟩ ⟨_,h4,_⟩;obtain⟨rfl,rfl⟩:=agS (h2.symm.trans h4);rfl
def Gh:Ev.bo:=bR 24 (ca u1X aCA pO) UN
def vw:Nat->LN:=fT [(2,[1,9,10,11]),(5,[1,5,9,10,11,16,17,18])]
theorem aAI{z b nm ar au i k n s cs len k' n' s' cs' cB L Q}:
 bI Z UN (λ_=>[]) L Q 1000 24 [.ah [.ab nm,J ar,J au],.ah [J i,J k,J n,.ab s,.ad cs len 4,J k',J n',.ab s',.ad cs' cB 4],.aa 0 0,.aa 1 0] (nj z b)=(
 aq b (Q (.aC []) (nj z true)) (∃iE VN,eT Z 2 4 z.ret (J i)=some (.ao iE,VN)/\Q (.aC []) (nj z iE))):=by kernel_rfl
theorem aAF{z b nx ps np L Q}:
 bI Z Gh vw L Q 1000 23 [.ah [J nx,.ad ps np 4],.ba (.func 24) [] [.aa 0 0,.aa 1 0]] (nj z b)=(
 L (aB [(1,.ba (.func 24) [] [.aa 0 0,.aa 1 0]),(9,.ad ps np 4),(10,J (aE np)),(11,J 0)]) (nj z b) (aw Z 23 0)):=by kernel_rfl
theorem als{z b ps np i L Q}:
 ck Z Gh vw L Q 1000 23 9 (aB [(1,.ba (.func 24) [] [.aa 0 0,.aa 1 0]),(9,.ad ps np 4),(10,J (aE np)),(11,J i)]) (aw Z 23 0) (nj z b)=(
 aq (decide (i<aE np)) (∃aL:Nat,i=(aL:Int)/\aL<np/\(∃s n iE cs len,((ps.drop (aL*4)).take 4:List AV)=[.ab s,J n,.ao iE,.ad cs len 9]/\L (aB [(1,.ba (.func 24) [] [.aa 0 0,.aa 1 0]),(5,.aa 9 0),(9,.ad ps np 4),(10,J (aE np)),(11,J i),(16,.ad cs len 9),(17,J (aE len)),(18,J 0)]) (Qd z b (ru s n iE cs len)) (aw Z 23 1))) (Q (.aC []) (nj z b))):=by kernel_rfl
theorem alr{z b ps np i nm ar dy ss ns j L Q}:
 ck Z Gh vw L Q 1000 23 9 (aB [(1,.ba (.func 24) [] [.aa 0 0,.aa 1 0]),(5,.aa 9 0),(9,.ad ps np 4),(10,J (aE np)),(11,J i),(16,.ad ss ns 9),(17,J (aE ns)),(18,J j)]) (aw Z 23 1) (Qd z b (.aj [.ab nm,J ar,.ao dy,.ad ss ns 9] 34))=(
 aq (decide (j<aE ns)) (∃aL:Nat,j=(aL:Int)/\aL<ns/\(∃n aP bA s cs len cf dc cn bP bH,((ss.drop (aL*9)).take 9:List AV)=[J n,J aP,J bA,.ab s,.ad cs len 4,J cf,J dc,.ab cn,.ad bP bH 4]/\(∃w:U1,(([.ah [.ab nm,J ar,J 0],.ah [J n,J aP,J bA,.ab s,.ad cs len 4,J cf,J dc,.ab cn,.ad bP bH 4],.aa 0 0,.aa 1 0]:LV)=[.ah (GZ w.p),.ah (qW w.s),.aa 0 0,.aa 1 0]/\nj z b=nj w.z w.b/\w.z.ret=[])/\L (aB [(1,.ba (.func 24) [] [.aa 0 0,.aa 1 0]),(5,.aa 9 0),(9,.ad ps np 4),(10,J (aE np)),(11,J i),(16,.ad ss ns 9),(17,J (aE ns)),(18,J (wI (j+1)))]) (Qd w.z w.b (ru nm ar dy ss ns)) (aw Z 23 1)))) (L (aB [(1,.ba (.func 24) [] [.aa 0 0,.aa 1 0]),(9,.ad ps np 4),(10,J (aE np)),(11,J (wI (i+1)))]) (nj z b) (aw Z 23 0))):=by kernel_rfl
theorem zp:aU Z Gh:=by
 refine cA ac2 ?_;rintro⟨z,b,⟨nm,ar,au⟩,⟨i,⟨⟨k,n,s,l⟩,⟨k',n',s',l'⟩⟩⟩⟩ args H ⟨rfl,rfl,hz⟩;refine eE 16 ac2 aAI ?_;refine aD.2 ⟨λhb=>?_,λhb=>?_⟩
 .subst hb;exact⟨rfl,rfl⟩
 .subst hb;exact⟨false,false,by rw[show z.ret=[]from hz];rfl,rfl,rfl⟩
theorem apP{z b d}(hz:z.ret=[])(hl:d.gD.length<=4000000)(hc:∀p∈d.gD,p.bO.length<=4000000):
 bZ Z 23 [.ah (lA d),.ba (.func 24) [] [.aa 0 0,.aa 1 0]] (nj z b) (.aC []) (nj z b):=by
 obtain⟨nx,l⟩:=d;refine eS zp 1000 vw 32 (by kernel_rfl) ?_;refine cast (@aAF z b nx (fo l) l.length _ _).symm ?_;have:=Ph (σ:=Unit) (HS:=λ_=>nj z b) (HP:=λ_ o=>Qd z b o) (F:=.ba (.func 24) [] [.aa 0 0,.aa 1 0]) (m0:=9) (v:=.aC []) (H1:=nj z b) (iA:=λst _ _=>st) (zo:=λ_ _=>True) (K:=j6 l) (l:=l)
  (λst i h hh=>by refine hD zp 1000 vw (by kernel_rfl) ?_;refine cast (@als z b (fo l) l.length (i:Int) _ _).symm ?_;have bX:=Bd h;generalize l[i]=p at bX hh;obtain⟨nm,ar,dy,bO⟩:=p;exact aD.2 ⟨λ_=>⟨i,rfl,h,nm,ar,dy,mr bO,bO.length,bX,hh⟩,λhn=>absurd (ez hn) (by simp only[sa];omega)⟩)
  (λk st i p j h hp hi _ _=>⟨trivial,λhh=>by obtain⟨nm,ar,dy,bO⟩:=p;have ke:bO.length<=4000000:=hc _ hp;replace h:j<bO.length:=h;refine hD zp 1000 vw (by kernel_rfl) ?_;refine cast (@alr z b (fo l) l.length (i:Int) nm ar dy (mr bO) bO.length (j:Int) _ _).symm ?_;have bX:=KH h;generalize bO[j]=s at bX;have⟨id,⟨⟨k,n,dU,ts⟩,⟨k',n',lV,kH⟩⟩⟩:=s;refine aD.2 ⟨λ_=>⟨j,rfl,h,id,k,n,dU,aF ts,ts.length,k',n',lV,aF kH,kH.length,bX,⟨z,b,⟨nm,ar,0⟩,⟨id,⟨⟨k,n,dU,ts⟩,⟨k',n',lV,kH⟩⟩⟩⟩,⟨rfl,rfl,hz⟩,?_⟩,λhn=>absurd (ez hn) (by simp;omega)⟩;rw[cO (by omega) (by omega)];exact hh⟩)
  (λst i p hp hi hh=>by have⟨nm,ar,dy,bO⟩:=p;refine hE zp alr ?_;refine aD.2 ⟨λhn=>absurd (dQ hn) (by simp),λ_=>?_⟩;simp only at hl;rw[cO (by omega) (by omega)];exact hh)
  l [] () 0 rfl trivial (by omega)
 refine this.2 ?_;refine hE zp als ?_;exact aD.2 ⟨λhn=>absurd (dQ hn) (by simp),λ_=>⟨rfl,rfl⟩⟩
end
end Go.Cl
