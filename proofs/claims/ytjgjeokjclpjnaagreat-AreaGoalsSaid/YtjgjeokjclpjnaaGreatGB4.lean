/- Part of a proof of AreaGoals. -/
import Derived.Test.YtjgjeokjclpjnaaGreatGB3
set_option linter.all false
set_option linter.unusedSectionVars false
set_option maxRecDepth 100000
namespace Go.Cl
open Go.Ev Go.Proofs
noncomputable section
abbrev Mo(x0:_)(x1:_):=aq [(0,dO x0 3),(1,.bm []),(2,.aA x1 146),(3,d_ x0)] 4
def zh(s:da)(gs:gi):AH:=Mo s (bD gs)
def nL(s:da):AH:=aq [(0,dO s 2),(1,.bm []),(2,d_ s)] 3
def eL(N M:Nat)(s:da)(g:aF):Prop:=bB g/\gm g<N/\gm g<1000000/\s.ao.length+gm g<M/\ku g
theorem ail{s s' g g' c c' A H}(h1:A=[.aa 0 0,.ai (aU g),J c])(h2:H=cp s)(h3:A=[.aa 0 0,.ai (aU g'),J c'])(h4:H=cp s'):s=s'/\g=g'/\c=c':=by rw[h1]at h3;rw[h2]at h4;simp at h3;exact⟨IJ h4,lP h3.1,h3.2⟩
structure Gw where
 s:da
 g:aF
 c:Int
 s2:da
 l:gi
def L7(N:Nat):cq Gw where
 bh w A H:=A=[.aa 0 0,.ai (aU w.g),J w.c]/\H=cp w.s/\eL N 3000000 w.s w.g/\ej N w.s w.g w.c=(w.s2,w.l)
 v w:=.aj 2 w.l.length 6
 aK w:=zh w.s2 w.l
theorem atQ(N):(L7 N).ck:=by rintro⟨s,g,c,s2,l⟩ ⟨s',g',c',Og,l'⟩ A H ⟨h1,h2,_,h5⟩ ⟨h3,h4,_,h6⟩;have⟨e1,e2,e3⟩:=ail h1 h2 h3 h4;subst e1 e2 e3;rw[h5]at h6;cases h6;rfl
def T0(N:Nat):Ev.bp:=bR 82 (bW (L7 N) (atQ N) cB) K38
def M9(N:Nat):cq Gw where
 bh w A H:=A=[.aa 0 0,.ai (aU w.g)]/\H=cp w.s/\eL N 3000000 w.s w.g/\nS (ej N) w.s w.g=(w.s2,w.l)
 v w:=.aj 2 w.l.length 6
 aK w:=zh w.s2 w.l
theorem awt(N):(M9 N).ck:=by rintro⟨s,g,c,s2,l⟩ ⟨s',g',c',Og,l'⟩ A H ⟨h1,h2,_,h5⟩ ⟨h3,h4,_,h6⟩;rw[h1]at h3;rw[h2]at h4;simp at h3;rw[IJ h4,lP h3,h6]at h5;cases h5;rfl
def T1(N:Nat):Ev.bp:=bR 168 (bW (M9 N) (awt N) cB) (T0 N)
def nI(gs:gi):AV:=.ah (bD gs) gs.length 6
structure Bw where
 s:da
 g:aF
 c:Int
 s2:da
 ls:List gi
def qK(k N:Nat):cq Bw where
 bh w A H:=A=[.aa 0 0,.ai (aU w.g),J w.c]/\H=cp w.s/\eL (N+4) 3000001 w.s w.g/\dM w.g (jF k) (l9 k)=true/\gk (ej N) k w.s w.g w.c=(w.s2,w.ls)
 v w:=.ah (w.ls.map nI) w.ls.length 1
 aK w:=nL w.s2
theorem Qd(k N):(qK k N).ck:=by rintro⟨s,g,c,s2,l⟩ ⟨s',g',c',Og,l'⟩ A H ⟨h1,h2,_,_,h5⟩ ⟨h3,h4,_,_,h6⟩;have⟨e1,e2,e3⟩:=ail h1 h2 h3 h4;subst e1 e2 e3;rw[h5]at h6;cases h6;rfl
def T2(N:Nat):Ev.bp:=bR 143 (bW (qK 0 N) (Qd 0 N) cB) (T1 N)
def T3(N:Nat):Ev.bp:=bR 144 (bW (qK 1 N) (Qd 1 N) cB) (T2 N)
def T4(N:Nat):Ev.bp:=bR 145 (bW (qK 2 N) (Qd 2 N) cB) (T3 N)
def T5(N:Nat):Ev.bp:=bR 146 (bW (qK 3 N) (Qd 3 N) cB) (T4 N)
def AO:Nat->Nat
 |0=>143
 |1=>144
 |2=>145
 |3=>146
 |k+4=>k+200
theorem atw{k k'}(h:k<4)(h':k'<4)(e:AO k=AO k'):k=k':=by rcases k with _|_|_|_|k<;>rcases k' with _|_|_|_|k'<;>first|rfl|omega|cases e
structure Rw where
 k:Nat
 s:da
 g:aF
 c:Int
 s2:da
 q:qD
def Of(N:Nat):cq Rw where
 bh w A H:=A=[.aa 0 0,.ai [.ad (jF w.k),J (l9 w.k),.bn (.func (AO w.k)) [] []],.ai (aU w.g),J w.c]/\H=cp w.s/\eL (N+4) 3000000 w.s w.g/\dM w.g (jF w.k) (l9 w.k)=true/\w.k<4/\lE (ej N) w.k w.s w.g w.c=(w.s2,w.q)
 v w:=.ai (vP w.q)
 aK w:=nL w.s2
theorem ayS(N):(Of N).ck:=by rintro⟨k,s,g,c,s2,l⟩ ⟨k',s',g',c',Og,l'⟩ A H ⟨h1,h2,_,_,k1,h5⟩ ⟨h3,h4,_,_,k2,h6⟩;rw[h1]at h3;rw[h2]at h4;simp at h3;have⟨⟨_,_,e1⟩,e2,e3⟩:=h3;obtain rfl:k=k':=atw k1 k2 e1;rw[IJ h4,lP e2,e3,h6]at h5;cases h5;rfl
def T6(N:Nat):Ev.bp:=bR 115 (bW (Of N) (ayS N) cB) (T5 N)
def SN:Nat->LN:=fh [(999995,[2000003]),(999998,[0,3,5,6])]
def Ng:Nat->LN:=fh [(999995,[2000007]),(999998,[0,2,4,7,8,9,10])]
def Nh:Nat->LN:=fh [(999995,[2000008]),(999998,[0,2,4,7,8,9,10])]
def SM:Nat->LN:=fh [(999995,[2000004]),(999998,[0,4,7,8,9])]
def qj:Nat->LN:=fh [(9,[0,8,9,10,11,12,50,51,52]),(999995,[2000008]),(999998,[0,3,5,6,8,9,10,11,12])]
def nT:Nat->LN:=fh [(9,[0,8,9,10,11,12,50,51,52]),(999995,[2000013]),(999998,[0,8,9,10,11,12])]
def zx:Nat->LN:=fh [(11,[0,2,4,47,48]),(999995,[2000016]),(999998,[0,4])]
def agy:AV:=.ai [.ad [59],J 2,.bn (.func 143) [] [],.ad [45,62],J 2,.bn (.func 144) [] [],.ad [92,43],J 1,.bn (.func 145) [] [],.ad [111,110,99,101],J 1,.bn (.func 146) [] []]
def x9:Nat->LN:=fh [(999995,[2000008,2000010]),(999998,[0,2,4])]
def SR:Nat->LN:=fh [(999995,[2000022]),(999998,[4,10,11,12,13])]
def kj(l:gi):bf:=.aA (bD l) 146
def HO(nm:LN)(ar:Int)(f:Nat):bf:=.al [.ad nm,J ar,.bn (.func f) [] []] 184
def pB(ar ao:Int):bf:=.al [.ad [],J ar,J ao] 39
theorem aDp{s k n nm cs len N L Q}:
 bC Z (T0 N) SN L Q 1000 168 [.aa 0 0,.ai [J k,J n,.ad nm,.ah cs len 4]] (cp s)=(
 ∃w:da,(([.aa 0 0]:LV)=[.aa 0 0]/\cp s=cp w)/\(aq [] 0=an/\True)/\L (bg [(0,.aa 0 0),(3,.aa 2 0),(5,J (bY w.nv)),(6,.bw 3 0 1 1 6 true)]) (aq [(0,dO w.nx 1),(1,d_ w.nx),(2,dH k n nm cs len),(3,.al [J 3,.ad [],J 0,J 0,.ah [] 0 4,J (bY w.nv)] 146)] 4) (cM Z SN 168 0)):=by kernel_rfl
theorem aDo{s k n nm cs len m gs N L Q}:
 cg Z (T0 N) (λ_=>[]) L Q 1000 168 2 (bg [(0,.aa 0 0),(3,.aa 2 0),(5,J m),(6,.aj 3 gs.length 6)]) (cM Z SN 168 0) (aq [(0,dO s 1),(1,d_ s),(2,dH k n nm cs len),(3,kj gs)] 4)=(
 ∃w:Gw,(([.aa 0 0,.ai [J k,J n,.ad nm,.ah cs len 4],J m]:LV)=[.aa 0 0,.ai (aU w.g),J w.c]/\cp s=cp w.s/\eL N 3000000 w.s w.g/\ej N w.s w.g w.c=Prod.mk w.s2 w.l)/\(bD w.l).length=w.l.length*6/\(w.l.length=0->gs.length<=4194304/\(aq [] 0=an/\True)/\((bD gs).length=gs.length*6/\gs.length+1<=4194304/\true=true/\true=true)/\Q (.aj 2 (gs.length+1) 6) (Mo w.s2 (bD gs++[J 4,.ad [],J 0,J 0,.ah [] 0 4,J m])))/\(1<=w.l.length->((bD gs).length=gs.length*6/\gs.length+w.l.length<=4194304/\List.all (bD w.l) AV.cY=true/\List.all (bD w.l) eR=true)/\(aq [] 0=an/\True)/\((HAppend.hAppend (bD gs) (bD w.l)).length=(gs.length+w.l.length)*6/\gs.length+w.l.length+1<=4194304/\true=true/\true=true)/\Q (.aj 2 (gs.length+w.l.length+1) 6) (Mo w.s2 (bD gs++bD w.l++[J 4,.ad [],J 0,J 0,.ah [] 0 4,J m])))):=by kernel_rfl
abbrev J'(x0:_)(x1:_)(x2:_)(x3:_):=bg [(0,.aa 0 0),(2,J x0),(4,.aa 2 0),(7,.aj 3 x1 6),(8,.aa 4 0),(9,J x2),(10,J x3)]
abbrev ZO(x0:_)(x1:_)(x2:_)(x3:_)(x4:_):=aq [(0,dO x0 3),(1,.bm []),(2,.al [.aj 4 x1 6,.aj 5 x2 6] 104),(3,d_ x0),(4,kj x3),(5,kj x4)] 6
theorem ans{s k n nm cs len c N L Q}:
 bC Z (T1 N) Ng L Q 1000 143 [.aa 0 0,.ai [J k,J n,.ad nm,.ah cs len 4],J c] (cp s)=(
 0<len/\(∃aN:Int,∃bz:Int,∃cr:LN,∃bP:LV,∃bI:Nat,((cs.drop 0).take 4:List AV)=[J aN,J bz,.ad cr,.ah bP bI 4]/\(aq [] 0=an/\True)/\aw (sM aN cr bI [45,62] 2) (∃w:da,(([.aa 0 0]:LV)=[.aa 0 0]/\cp s=cp w)/\(∃ae:da,(([.aa 0 0]:LV)=[.aa 0 0]/\cp w.nx=cp ae)/\(aq [] 0=an/\True)/\(aq [] 0=an/\True)/\L (J' c 2 (bY w.nv) (bY ae.nv)) (aq [(0,dO ae.nx 1),(1,d_ ae.nx),(2,dH k n nm cs len),(3,.al [J 2,.ad [],J 0,J 0,.ah [] 0 4,J (bY w.nv),J 3,.ad [],J 0,J 0,.ah [] 0 4,J (bY ae.nv)] 146),(4,dH aN bz cr bP bI)] 5) (cM Z Ng 143 0))) (∃w:Gw,(([.aa 0 0,.ai [J aN,J bz,.ad cr,.ah bP bI 4],J c]:LV)=[.aa 0 0,.ai (aU w.g),J w.c]/\cp s=cp w.s/\eL N 3000000 w.s w.g/\ej N w.s w.g w.c=Prod.mk w.s2 w.l)/\1<len/\(∃ct:Int,∃dm:Int,∃m_:LN,∃hZ:LV,∃ib:Nat,((cs.drop 4).take 4:List AV)=[J ct,J dm,.ad m_,.ah hZ ib 4]/\(∃ae:Gw,(([.aa 0 0,.ai [J ct,J dm,.ad m_,.ah hZ ib 4],J c]:LV)=[.aa 0 0,.ai (aU ae.g),J ae.c]/\cp w.s2=cp ae.s/\eL N 3000000 ae.s ae.g/\ej N ae.s ae.g ae.c=Prod.mk ae.s2 ae.l)/\Q (.bw 2 0 2 2 1 true) (ZO ae.s2 w.l.length ae.l.length w.l ae.l)))))):=by kernel_rfl
theorem aDf{s k n nm cs len c k1 n1 et AA F3 a b gs N L Q}:
 cg Z (T1 N) Nh L Q 1000 143 2 (J' c gs.length a b) (cM Z Ng 143 0) (aq [(0,dO s 1),(1,d_ s),(2,dH k n nm cs len),(3,kj gs),(4,dH k1 n1 et AA F3)] 5)=(
 0<F3/\(∃aN:Int,∃bz:Int,∃cr:LN,∃bP:LV,∃bI:Nat,((AA.drop 0).take 4:List AV)=[J aN,J bz,.ad cr,.ah bP bI 4]/\(∃w:Gw,(([.aa 0 0,.ai [J aN,J bz,.ad cr,.ah bP bI 4],J b]:LV)=[.aa 0 0,.ai (aU w.g),J w.c]/\cp s=cp w.s/\eL N 3000000 w.s w.g/\ej N w.s w.g w.c=Prod.mk w.s2 w.l)/\(bD w.l).length=w.l.length*6/\(w.l.length=0->gs.length<=4194304/\L (J' c gs.length a b) (aq [(0,dO w.s2 5),(1,.bm []),(2,dH k n nm cs len),(3,kj gs),(4,dH k1 n1 et AA F3),(5,d_ w.s2)] 6) (cM Z Nh 143 0))/\(1<=w.l.length->((bD gs).length=gs.length*6/\gs.length+w.l.length<=4194304/\List.all (bD w.l) AV.cY=true/\List.all (bD w.l) eR=true)/\L (J' c (gs.length+w.l.length) a b) (aq [(0,dO w.s2 5),(1,.bm []),(2,dH k n nm cs len),(3,.aA (bD gs++bD w.l) 146),(4,dH k1 n1 et AA F3),(5,d_ w.s2)] 6) (cM Z Nh 143 0))))):=by kernel_rfl
theorem aDg{s k n nm cs len c k1 n1 et AA F3 a b gs N L Q}:
 cg Z (T1 N) (λ_=>[]) L Q 1000 143 2 (J' c gs.length a b) (cM Z Nh 143 0) (aq [(0,dO s 5),(1,.bm []),(2,dH k n nm cs len),(3,kj gs),(4,dH k1 n1 et AA F3),(5,d_ s)] 6)=(
 (aq [] 0=an/\True)/\((bD gs).length=gs.length*6/\gs.length+1<=4194304/\true=true/\true=true)/\1<F3/\(∃aN:Int,∃bz:Int,∃cr:LN,∃bP:LV,∃bI:Nat,((AA.drop 4).take 4:List AV)=[J aN,J bz,.ad cr,.ah bP bI 4]/\(∃w:Gw,(([.aa 0 0,.ai [J aN,J bz,.ad cr,.ah bP bI 4],J c]:LV)=[.aa 0 0,.ai (aU w.g),J w.c]/\cp s=cp w.s/\eL N 3000000 w.s w.g/\ej N w.s w.g w.c=Prod.mk w.s2 w.l)/\(bD w.l).length=w.l.length*6/\(w.l.length=0->gs.length+1<=4194304/\1<len/\(∃ct:Int,∃dm:Int,∃m_:LN,∃hZ:LV,∃ib:Nat,((cs.drop 4).take 4:List AV)=[J ct,J dm,.ad m_,.ah hZ ib 4]/\(∃ae:Gw,(([.aa 0 0,.ai [J ct,J dm,.ad m_,.ah hZ ib 4],J c]:LV)=[.aa 0 0,.ai (aU ae.g),J ae.c]/\cp w.s2=cp ae.s/\eL N 3000000 ae.s ae.g/\ej N ae.s ae.g ae.c=Prod.mk ae.s2 ae.l)/\Q (.bw 2 0 2 2 1 true) (aq [(0,dO ae.s2 3),(1,.bm []),(2,.al [.aj 4 (gs.length+1) 6,.aj 5 ae.l.length 6] 104),(3,d_ ae.s2),(4,.aA (bD gs++[J 4,.ad [],J 0,J 0,.ah [] 0 4,J a]) 146),(5,kj ae.l)] 6))))/\(1<=w.l.length->((HAppend.hAppend (bD gs) [J 4,.ad [],J 0,J 0,.ah [] 0 4,J a]).length=(gs.length+1)*6/\gs.length+1+w.l.length<=4194304/\List.all (bD w.l) AV.cY=true/\List.all (bD w.l) eR=true)/\1<len/\(∃ct:Int,∃dm:Int,∃m_:LN,∃hZ:LV,∃ib:Nat,((cs.drop 4).take 4:List AV)=[J ct,J dm,.ad m_,.ah hZ ib 4]/\(∃ae:Gw,(([.aa 0 0,.ai [J ct,J dm,.ad m_,.ah hZ ib 4],J c]:LV)=[.aa 0 0,.ai (aU ae.g),J ae.c]/\cp w.s2=cp ae.s/\eL N 3000000 ae.s ae.g/\ej N ae.s ae.g ae.c=Prod.mk ae.s2 ae.l)/\Q (.bw 2 0 2 2 1 true) (aq [(0,dO ae.s2 3),(1,.bm []),(2,.al [.aj 4 (gs.length+1+w.l.length) 6,.aj 5 ae.l.length 6] 104),(3,d_ ae.s2),(4,.aA (bD gs++[J 4,.ad [],J 0,J 0,.ah [] 0 4,J a]++bD w.l) 146),(5,kj ae.l)] 6))))))):=by kernel_rfl
abbrev RC(x0:_)(x1:_)(x2:_):=aq [(0,dO x0 3),(1,.bm []),(2,.al x1 104),(3,d_ x0),(4,kj x2)] 5
abbrev RD(x0:_)(x1:_)(x2:_):=aq [(0,dO x0 3),(1,.bm []),(2,.al x1 104),(3,d_ x0),(4,.aA x2 146)] 5
theorem aDh{s k n nm cs len c N L Q}:
 bC Z (T2 N) (λ_=>[]) L Q 1000 144 [.aa 0 0,.ai [J k,J n,.ad nm,.ah cs len 4],J c] (cp s)=(
 0<len/\(∃aN:Int,∃bz:Int,∃cr:LN,∃bP:LV,∃bI:Nat,((cs.drop 0).take 4:List AV)=[J aN,J bz,.ad cr,.ah bP bI 4]/\(∃w:Gw,(([.aa 0 0,.ai [J aN,J bz,.ad cr,.ah bP bI 4]]:LV)=[.aa 0 0,.ai (aU w.g)]/\cp s=cp w.s/\eL N 3000000 w.s w.g/\nS (ej N) w.s w.g=Prod.mk w.s2 w.l)/\1<len/\(∃ct:Int,∃dm:Int,∃m_:LN,∃hZ:LV,∃ib:Nat,((cs.drop 4).take 4:List AV)=[J ct,J dm,.ad m_,.ah hZ ib 4]/\(∃ae:Gw,(([.aa 0 0,.ai [J ct,J dm,.ad m_,.ah hZ ib 4],J c]:LV)=[.aa 0 0,.ai (aU ae.g),J ae.c]/\cp w.s2=cp ae.s/\eL N 3000000 ae.s ae.g/\ej N ae.s ae.g ae.c=Prod.mk ae.s2 ae.l)/\(bD ae.l).length=ae.l.length*6/\(ae.l.length=0->w.l.length<=4194304/\Q (.bw 2 0 1 1 1 true) (RC ae.s2 [.aj 4 w.l.length 6] w.l))/\(1<=ae.l.length->((bD w.l).length=w.l.length*6/\w.l.length+ae.l.length<=4194304/\List.all (bD ae.l) AV.cY=true/\List.all (bD ae.l) eR=true)/\Q (.bw 2 0 1 1 1 true) (RD ae.s2 [.aj 4 (w.l.length+ae.l.length) 6] (bD w.l++bD ae.l)))))))):=by kernel_rfl
theorem aDj{s k n nm cs len c N L Q}:
 bC Z (T3 N) SM L Q 1000 145 [.aa 0 0,.ai [J k,J n,.ad nm,.ah cs len 4],J c] (cp s)=(
 ∃w:da,(([.aa 0 0]:LV)=[.aa 0 0]/\cp s=cp w)/\(∃ae:da,(([.aa 0 0]:LV)=[.aa 0 0]/\cp w.nx=cp ae)/\(aq [] 0=an/\True)/\(aq [] 0=an/\True)/\L (bg [(0,.aa 0 0),(4,.aa 2 0),(7,J (bY w.nv)),(8,J (bY ae.nv)),(9,.bw 3 0 2 2 6 true)]) (aq [(0,dO ae.nx 1),(1,d_ ae.nx),(2,dH k n nm cs len),(3,.al [J 2,.ad [],J 0,J 0,.ah [] 0 4,J (bY w.nv),J 3,.ad [],J 0,J 0,.ah [] 0 4,J (bY ae.nv)] 146)] 4) (cM Z SM 145 0))):=by kernel_rfl
theorem aDi{s k n nm cs len a b gs N L Q}:
 cg Z (T3 N) (λ_=>[]) L Q 1000 145 2 (bg [(0,.aa 0 0),(4,.aa 2 0),(7,J a),(8,J b),(9,.aj 3 gs.length 6)]) (cM Z SM 145 0) (aq [(0,dO s 1),(1,d_ s),(2,dH k n nm cs len),(3,kj gs)] 4)=(
 0<len/\(∃aN:Int,∃bz:Int,∃cr:LN,∃bP:LV,∃bI:Nat,((cs.drop 0).take 4:List AV)=[J aN,J bz,.ad cr,.ah bP bI 4]/\(∃w:aF,(([.ai [J aN,J bz,.ad cr,.ah bP bI 4]]:LV)=[.ai (aU w)]/\aq [] 0=an/\bB w)/\(∃ae:Gw,(([.aa 0 0,.ai [J (iD w).cy,J (iD w).n,.ad (iD w).cO,.ah (aH (iD w).bo) (iD w).bo.length 4],J b]:LV)=[.aa 0 0,.ai (aU ae.g),J ae.c]/\cp s=cp ae.s/\eL N 3000000 ae.s ae.g/\ej N ae.s ae.g ae.c=Prod.mk ae.s2 ae.l)/\(bD ae.l).length=ae.l.length*6/\(ae.l.length=0->gs.length<=4194304/\(aq [] 0=an/\True)/\(aq [] 0=an/\True)/\((bD gs).length=gs.length*6/\gs.length+2<=4194304/\true=true/\true=true)/\Q (.bw 2 0 2 2 1 true) (RD ae.s2 [.aj 4 (gs.length+2) 6,.aM] (bD gs++[J 4,.ad [],J 0,J 0,.ah [] 0 4,J a,J 5,.ad [],J 0,J 0,.ah [] 0 4,J 0])))/\(1<=ae.l.length->((bD gs).length=gs.length*6/\gs.length+ae.l.length<=4194304/\List.all (bD ae.l) AV.cY=true/\List.all (bD ae.l) eR=true)/\(aq [] 0=an/\True)/\(aq [] 0=an/\True)/\((HAppend.hAppend (bD gs) (bD ae.l)).length=(gs.length+ae.l.length)*6/\gs.length+ae.l.length+2<=4194304/\true=true/\true=true)/\Q (.bw 2 0 2 2 1 true) (RD ae.s2 [.aj 4 (gs.length+ae.l.length+2) 6,.aM] (bD gs++bD ae.l++[J 4,.ad [],J 0,J 0,.ah [] 0 4,J a,J 5,.ad [],J 0,J 0,.ah [] 0 4,J 0]))))))):=by kernel_rfl
theorem aDk{s k n nm cs len c N L Q}:
 bC Z (T4 N) (λ_=>[]) L Q 1000 146 [.aa 0 0,.ai [J k,J n,.ad nm,.ah cs len 4],J c] (cp s)=(
 0<len/\(∃aN:Int,∃bz:Int,∃cr:LN,∃bP:LV,∃bI:Nat,((cs.drop 0).take 4:List AV)=[J aN,J bz,.ad cr,.ah bP bI 4]/\(∃w:aF,(([.ai [J aN,J bz,.ad cr,.ah bP bI 4]]:LV)=[.ai (aU w)]/\aq [] 0=an/\bB w)/\(∃ae:Gw,(([.aa 0 0,.ai [J (iD w).cy,J (iD w).n,.ad (iD w).cO,.ah (aH (iD w).bo) (iD w).bo.length 4]]:LV)=[.aa 0 0,.ai (aU ae.g)]/\cp s=cp ae.s/\eL N 3000000 ae.s ae.g/\nS (ej N) ae.s ae.g=Prod.mk ae.s2 ae.l)/\Q (.bw 2 0 1 1 1 true) (RC ae.s2 [.aj 4 ae.l.length 6] ae.l))))):=by kernel_rfl
abbrev adn(x0:_)(x1:_)(x2:_):=bg [(0,.aa 0 0),(3,J x0),(5,.aa 2 0),(6,.aa 3 0),(8,.aa 4 0),(9,.aj 5 x1 4),(10,.aa 6 0),(11,J (aP x2)),(12,.aM)]
theorem aCS{s f et kY k n nm cs len c N L Q}:
 bC Z (T5 N) qj L Q 1000 115 [.aa 0 0,.ai [.ad et,J kY,.bn (.func f) [] []],.ai [J k,J n,.ad nm,.ah cs len 4],J c] (cp s)=(
 ∃b:Bool,aw b (∃w:aF,(([.ai [J k,J n,.ad nm,.ah cs len 4]]:LV)=[.ai (aU w)]/\aq [] 0=an/\bB w/\List.isEmpty (dh w)=false)/\(∃ae:aF,(([.ai [J k,J n,.ad nm,.ah cs len 4]]:LV)=[.ai (aU ae)]/\aq [] 0=an/\bB ae)/\aw (ET ae) ((aq [] 0=an/\True)/\((aH (jV w)).length=(dh w).length*4/\(dh w).length+1<=4194304/\true=true/\true=true)/\(∃aE:da,(([.aa 0 0]:LV)=[.aa 0 0]/\cp s=cp aE)/\((iU aE.px.ao).length=aE.px.ao.length*1/\aE.px.ao.length+1<=4194304/\true=true/\true=true)/\L (adn c ((dh w).length+1) aE.px.ao.length) (aq [(0,.al [J aE.px.nv,J aE.px.na,.au aE.px.tr,.aj 7 (aE.px.ao.length+1) 1] 120),(1,.bm []),(2,HO et kY f),(3,dH k n nm cs len),(4,tF),(5,.aA (aH (jV w)++[J 0,J (yy c),.ad [],.ah [] 0 4]) 49),(6,pB (aP ((dh w).length+1)) (bY aE.na)),(7,.aA (iU aE.px.ao++[.aM]) 84)] 8) (cM Z qj 115 0))) (∃aE:da,(([.aa 0 0]:LV)=[.aa 0 0]/\cp s=cp aE)/\((iU aE.px.ao).length=aE.px.ao.length*1/\aE.px.ao.length+1<=4194304/\true=true/\true=true)/\L (adn c (dh w).length aE.px.ao.length) (aq [(0,.al [J aE.px.nv,J aE.px.na,.au aE.px.tr,.aj 7 (aE.px.ao.length+1) 1] 120),(1,.bm []),(2,HO et kY f),(3,dH k n nm cs len),(4,tF),(5,.aA (aH (jV w)) 49),(6,pB (aP (dh w).length) (bY aE.na)),(7,.aA (iU aE.px.ao++[.aM]) 84)] 8) (cM Z qj 115 0)))) (∃w:aF,(([.ai [J k,J n,.ad nm,.ah cs len 4]]:LV)=[.ai (aU w)]/\aq [] 0=an/\bB w/\List.isEmpty (dh w)=true)/\(∃ae:aF,(([.ai [J k,J n,.ad nm,.ah cs len 4]]:LV)=[.ai (aU ae)]/\aq [] 0=an/\bB ae)/\aw (ET ae) ((aq [] 0=an/\True)/\(∃aE:da,(([.aa 0 0]:LV)=[.aa 0 0]/\cp s=cp aE)/\((iU aE.px.ao).length=aE.px.ao.length*1/\aE.px.ao.length+1<=4194304/\true=true/\true=true)/\L (adn c 1 aE.px.ao.length) (aq [(0,.al [J aE.px.nv,J aE.px.na,.au aE.px.tr,.aj 7 (aE.px.ao.length+1) 1] 120),(1,.bm []),(2,HO et kY f),(3,dH k n nm cs len),(4,tF),(5,dH 0 (yy c) [] [] 0),(6,pB 1 (bY aE.na)),(7,.aA (iU aE.px.ao++[.aM]) 84)] 8) (cM Z qj 115 0))) (∃aE:da,(([.aa 0 0]:LV)=[.aa 0 0]/\cp s=cp aE)/\((iU aE.px.ao).length=aE.px.ao.length*1/\aE.px.ao.length+1<=4194304/\true=true/\true=true)/\L (bg [(0,.aa 0 0),(3,J c),(5,.aa 2 0),(6,.aa 3 0),(8,.aa 4 0),(9,.aM),(10,.aa 5 0),(11,J (aP aE.px.ao.length)),(12,.aM)]) (aq [(0,.al [J aE.px.nv,J aE.px.na,.au aE.px.tr,.aj 6 (aE.px.ao.length+1) 1] 120),(1,.bm []),(2,HO et kY f),(3,dH k n nm cs len),(4,tF),(5,pB 0 (bY aE.na)),(6,.aA (iU aE.px.ao++[.aM]) 84)] 7) (cM Z qj 115 0))))):=by kernel_rfl
abbrev UT(x0:_):=bg [(0,.aa 0 0),(2,J x0),(4,.aa 2 0)]
abbrev v9(x0:_)(x1:_)(x2:_)(x3:_)(x4:_)(x5:_):=aq [(0,dO x0 1),(1,d_ x0),(2,dH x1 x2 x3 x4 x5)] 3
theorem T'{s k n nm cs len c N L Q}:
 bC Z (T6 N) x9 L Q 3000 82 [.aa 0 0,.ai [J k,J n,.ad nm,.ah cs len 4],J c] (cp s)=(
 (aq [] 0=an/\True)/\aw (sM k nm len [116,114,117,101] 0) (Q .aM (cp s)) ((aq [] 0=an/\True)/\aw (sM k nm len [102,97,105,108] 0) ((aq [] 0=an/\True)/\Q (.bw 2 0 1 1 6 true) (aq [(0,dO s 1),(1,d_ s),(2,.al [J 5,.ad [],J 0,J 0,.ah [] 0 4,J 0] 146)] 3)) ((aq [] 0=an/\True)/\aw (sM k nm len [33] 0) ((aq [] 0=an/\True)/\Q (.bw 2 0 1 1 6 true) (aq [(0,dO s 1),(1,d_ s),(2,.al [J 4,.ad [],J 0,J 0,.ah [] 0 4,J c] 146)] 3)) ((aq [] 0=an/\True)/\aw (sM k nm len [44] 2) (L (UT c) (v9 s k n nm cs len) (cM Z x9 82 0)) (L (UT c) (v9 s k n nm cs len) (cM Z x9 82 1)))))):=by kernel_rfl
theorem aEC{s k n nm cs len c N L Q}:
 cg Z (T6 N) (λ_=>[]) L Q 1000 82 2 (UT c) (cM Z x9 82 0) (v9 s k n nm cs len)=(
 0<len/\(∃aN:Int,∃bz:Int,∃cr:LN,∃bP:LV,∃bI:Nat,((cs.drop 0).take 4:List AV)=[J aN,J bz,.ad cr,.ah bP bI 4]/\(∃w:Gw,(([.aa 0 0,.ai [J aN,J bz,.ad cr,.ah bP bI 4],J c]:LV)=[.aa 0 0,.ai (aU w.g),J w.c]/\cp s=cp w.s/\eL N 3000000 w.s w.g/\ej N w.s w.g w.c=Prod.mk w.s2 w.l)/\1<len/\(∃ct:Int,∃dm:Int,∃m_:LN,∃hZ:LV,∃ib:Nat,((cs.drop 4).take 4:List AV)=[J ct,J dm,.ad m_,.ah hZ ib 4]/\(∃ae:Gw,(([.aa 0 0,.ai [J ct,J dm,.ad m_,.ah hZ ib 4],J c]:LV)=[.aa 0 0,.ai (aU ae.g),J ae.c]/\cp w.s2=cp ae.s/\eL N 3000000 ae.s ae.g/\ej N ae.s ae.g ae.c=Prod.mk ae.s2 ae.l)/\(bD ae.l).length=ae.l.length*6/\(ae.l.length=0->w.l.length<=4194304/\Q (.aj 2 w.l.length 6) (zh ae.s2 w.l))/\(1<=ae.l.length->((bD w.l).length=w.l.length*6/\w.l.length+ae.l.length<=4194304/\List.all (bD ae.l) AV.cY=true/\List.all (bD ae.l) eR=true)/\Q (.aj 2 (w.l.length+ae.l.length) 6) (Mo ae.s2 (bD w.l++bD ae.l)))))))):=by kernel_rfl
abbrev OI(x0:_)(x1:_):=bg [(0,.aa 0 0),(2,J x0),(4,.aa 2 0),(47,.ai [.ad [59],J 2,.bn (.func 143) [] [],.ad [45,62],J 2,.bn (.func 144) [] [],.ad [92,43],J 1,.bn (.func 145) [] [],.ad [111,110,99,101],J 1,.bn (.func 146) [] []]),(48,J x1)]
theorem aEF{s k n nm cs len c N L Q}:
 cg Z (T6 N) zx L Q 1000 82 2 (UT c) (cM Z x9 82 1) (v9 s k n nm cs len)=(
 (aq [] 0=an/\True)/\L (OI c 0) (v9 s k n nm cs len) (ax Z 82 0)):=by kernel_rfl
abbrev RE(x0:_)(x1:_)(x2:_)(x3:_)(x4:_)(x5:_)(x6:_)(x7:_):=aq [(0,dO x0 3),(1,.bm []),(2,.al [J x1,.ad x2,J x3,J x4,.ah (aH x5) x6 4,J x7] 146),(3,d_ x0)] 4
theorem acW{s k n nm cs len c i N L Q}:
 cg Z (T6 N) zx L Q 1000 82 2 (bg [(0,.aa 0 0),(2,J c),(4,.aa 2 0),(47,agy),(48,J i)]) (ax Z 82 0) (v9 s k n nm cs len)=(
 aw (decide (i<4)) (((0:Int)<=i/\i<4)/\(i=0->(aq [] 0=an/\True)/\aw (sM k nm len [59] 2) (∃w:Rw,(([.aa 0 0,.ai [.ad [59],J 2,.bn (.func 143) [] []],.ai [J k,J n,.ad nm,.ah cs len 4],J c]:LV)=[.aa 0 0,.ai [.ad (jF w.k),J (l9 w.k),.bn (.func (AO w.k)) [] []],.ai (aU w.g),J w.c]/\cp s=cp w.s/\eL (N+4) 3000000 w.s w.g/\dM w.g (jF w.k) (l9 w.k)=true/\w.k<4/\lE (ej N) w.k w.s w.g w.c=Prod.mk w.s2 w.q)/\Q (.bw 2 0 1 1 6 true) (RE w.s2 w.q.fM w.q.aO.cT w.q.aO.ar w.q.aO.ao w.q.fj w.q.fj.length w.q.n7)) (L (OI c (wI (i+1))) (v9 s k n nm cs len) (ax Z 82 0)))/\(i=1->(aq [] 0=an/\True)/\aw (sM k nm len [45,62] 2) (∃w:Rw,(([.aa 0 0,.ai [.ad [45,62],J 2,.bn (.func 144) [] []],.ai [J k,J n,.ad nm,.ah cs len 4],J c]:LV)=[.aa 0 0,.ai [.ad (jF w.k),J (l9 w.k),.bn (.func (AO w.k)) [] []],.ai (aU w.g),J w.c]/\cp s=cp w.s/\eL (N+4) 3000000 w.s w.g/\dM w.g (jF w.k) (l9 w.k)=true/\w.k<4/\lE (ej N) w.k w.s w.g w.c=Prod.mk w.s2 w.q)/\Q (.bw 2 0 1 1 6 true) (RE w.s2 w.q.fM w.q.aO.cT w.q.aO.ar w.q.aO.ao w.q.fj w.q.fj.length w.q.n7)) (L (OI c (wI (i+1))) (v9 s k n nm cs len) (ax Z 82 0)))/\(i=2->(aq [] 0=an/\True)/\aw (sM k nm len [92,43] 1) (∃w:Rw,(([.aa 0 0,.ai [.ad [92,43],J 1,.bn (.func 145) [] []],.ai [J k,J n,.ad nm,.ah cs len 4],J c]:LV)=[.aa 0 0,.ai [.ad (jF w.k),J (l9 w.k),.bn (.func (AO w.k)) [] []],.ai (aU w.g),J w.c]/\cp s=cp w.s/\eL (N+4) 3000000 w.s w.g/\dM w.g (jF w.k) (l9 w.k)=true/\w.k<4/\lE (ej N) w.k w.s w.g w.c=Prod.mk w.s2 w.q)/\Q (.bw 2 0 1 1 6 true) (RE w.s2 w.q.fM w.q.aO.cT w.q.aO.ar w.q.aO.ao w.q.fj w.q.fj.length w.q.n7)) (L (OI c (wI (i+1))) (v9 s k n nm cs len) (ax Z 82 0)))/\(i=3->(aq [] 0=an/\True)/\aw (sM k nm len [111,110,99,101] 1) (∃w:Rw,(([.aa 0 0,.ai [.ad [111,110,99,101],J 1,.bn (.func 146) [] []],.ai [J k,J n,.ad nm,.ah cs len 4],J c]:LV)=[.aa 0 0,.ai [.ad (jF w.k),J (l9 w.k),.bn (.func (AO w.k)) [] []],.ai (aU w.g),J w.c]/\cp s=cp w.s/\eL (N+4) 3000000 w.s w.g/\dM w.g (jF w.k) (l9 w.k)=true/\w.k<4/\lE (ej N) w.k w.s w.g w.c=Prod.mk w.s2 w.q)/\Q (.bw 2 0 1 1 6 true) (RE w.s2 w.q.fM w.q.aO.cT w.q.aO.ar w.q.aO.ao w.q.fj w.q.fj.length w.q.n7)) (L (OI c (wI (i+1))) (v9 s k n nm cs len) (ax Z 82 0)))/\True) (L (bg [(0,.aa 0 0),(4,.aa 2 0)]) (v9 s k n nm cs len) (cM Z zx 82 0))):=by kernel_rfl
theorem aED{s k n nm cs len N L Q}:
 cg Z (T6 N) SR L Q 3000 82 2 (bg [(0,.aa 0 0),(4,.aa 2 0)]) (cM Z zx 82 0) (v9 s k n nm cs len)=(
 ∃w:eH,(([.ai [.ad nm,J (aP len),J 0],.ah cs len 4]:LV)=[.ai [.ad nm,J (aP len),J 0],.ah (aH w) w.length 4]/\aq [] 0=an/\fK w/\w.length<4000000)/\aw (!s.tr) (Q (.bw 2 0 1 1 6 true) (aq [(0,dO s 1),(1,d_ s),(2,Cs nm (aP len) 0 (.ah (aH (List.map dt w)) (List.map dt w).length 4))] 3)) ((aq [] 0=an/\True)/\aw (!Qg nm len) (Q (.bw 2 0 1 1 6 true) (aq [(0,dO s 1),(1,d_ s),(2,Cs nm (aP len) 0 (.ah (aH (List.map dt w)) (List.map dt w).length 4))] 3)) (∃ae:da,(([.aa 0 0]:LV)=[.aa 0 0]/\cp s=cp ae)/\(aq [] 0=an/\True)/\L (bg [(4,.aa 2 0),(10,.aa 3 0),(11,.aa 4 0),(12,.aa 5 0),(13,.aa 6 0)]) (aq [(0,dO ae.nx 1),(1,d_ ae.nx),(2,dH k n nm cs len),(3,Cs nm (aP len) 0 (.ah (aH (List.map dt w)) (List.map dt w).length 4)),(4,dH 0 (yy (bY ae.nv)) [] [] 0),(5,pB 2 1099511627776),(6,pB 2 1099511627775)] 7) (cM Z SR 82 0)))):=by kernel_rfl
theorem aEE{s k n nm cs len et ar ao ds m a N L Q}:
 cg Z (T6 N) (λ_=>[]) L Q 3000 82 2 (bg [(4,.aa 2 0),(10,.aa 3 0),(11,.aa 4 0),(12,.aa 5 0),(13,.aa 6 0)]) (cM Z SR 82 0) (aq [(0,dO s 1),(1,d_ s),(2,dH k n nm cs len),(3,.al [J 1,.ad et,J ar,J ao,.ah ds m 4,J 0] 146),(4,.al [J 0,J a,.ad [],.ah [] 0 4] 49),(5,pB 2 1099511627776),(6,pB 2 1099511627775)] 7)=(
 ∃w:aF×aF,(([.ai [.ad [],J 2,J 1099511627776],.bw 0 0 2 2 4 true]:LV)=[.ai [.ad [],J 2,J 1099511627776],.bw 0 0 2 2 4 true]/\aq [(0,.al [J 0,J a,.ad [],.ah [] 0 4,J k,J n,.ad nm,.ah cs len 4] 49)] 1=aq [(0,.al (aU w.1++aU w.2) 49)] 1/\bB w.1/\bB w.2)/\some (.ai [J k,J n,.ad nm,.ah cs len 4]:AV)=some (.ai [J k,J n,.ad nm,.ah cs len 4]:AV)/\some (.ai [J 0,J a,.ad [],.ah [] 0 4]:AV)=some (.ai [J 0,J a,.ad [],.ah [] 0 4]:AV)/\some (.ai [.ad [],J 2,J 1099511627775]:AV)=some (.ai [.ad [],J 2,J 1099511627775]:AV)/\some (.ai [J 1,.ad et,J ar,J ao,.ah ds m 4,J 0]:AV)=some (.ai [J 1,.ad et,J ar,J ao,.ah ds m 4,J 0]:AV)/\(∃ae:aF×aF,(([.ai [.ad [],J 2,J 1099511627775],.bw 0 0 2 2 4 true]:LV)=[.ai [.ad [],J 2,J 1099511627775],.bw 0 0 2 2 4 true]/\aq [(0,.al [J 0,J a,.ad [],.ah [] 0 4,J k,J n,.ad nm,.ah cs len 4] 49)] 1=aq [(0,.al (aU ae.1++aU ae.2) 49)] 1/\bB ae.1/\bB ae.2)/\some (.ai [J 1,.ad et,J ar,J ao,.ah ds m 4,J 0]:AV)=some (.ai [J 1,.ad et,J ar,J ao,.ah ds m 4,J 0]:AV)/\Q (.bw 2 0 3 3 6 true) (aq [(0,dO s 1),(1,d_ s),(2,.al [J 1,.ad [],J 2,J 1099511627776,.ah (HAppend.hAppend (im (dt w.1)) (im (dt w.2))) 2 4,J 0,J 1,.ad et,J ar,J ao,.ah ds m 4,J 0,J 1,.ad [],J 2,J 1099511627775,.ah (HAppend.hAppend (im (dt ae.1)) (im (dt ae.2))) 2 4,J 0] 146)] 3))):=by kernel_rfl
theorem L2{g}(l):fX g (bD l) (.aj g l.length 6)=nI l:=by simp[fX,nI,rF]
theorem af4{f A s s2 l1 l2}(h:bX Z f A (cp s) (.bw 2 0 2 2 1 true) (ZO s2 l1.length l2.length l1 l2)):
 bX Z f A (cp s) (.ah ([l1,l2].map nI) 2 1) (nL s2):=by
 have h2:=sG (g:=4) h rfl (by show(2:Nat)<=6;omega);have e2:tE 4 (bD l1) [(0,dO s2 3),(1,.bm []),(2,.al [.aj 4 l1.length 6,.aj 5 l2.length 6] 104),(3,d_ s2),(4,kj l1),(5,kj l2)]=[(0,dO s2 3),(1,.bm []),(2,.al [nI l1,.aj 5 l2.length 6] 104),(3,d_ s2),(4,.bm []),(5,kj l2)]:=by rw[<-L2 l1];rfl
 rw[e2]at h2;have h3:=sG (g:=5) h2 rfl (by show(2:Nat)<=6;omega);have e3:tE 5 (bD l2) [(0,dO s2 3),(1,.bm []),(2,.al [nI l1,.aj 5 l2.length 6] 104),(3,d_ s2),(4,.bm []),(5,kj l2)]=[(0,dO s2 3),(1,.bm []),(2,.al [nI l1,nI l2] 104),(3,d_ s2),(4,.bm []),(5,.bm [])]:=by rw[<-L2 l2];rfl
 rw[e3]at h3;have h4:=E0 (g:=2) h3 rfl rfl (by show(2:Nat)<=6;omega);exact lR (ps:=[(0,0),(1,1),(3,2)]) h4
theorem af3{f A s s2 l1}(h:bX Z f A (cp s) (.bw 2 0 1 1 1 true) (RC s2 [.aj 4 l1.length 6] l1)):
 bX Z f A (cp s) (.ah ([l1].map nI) 1 1) (nL s2):=by
 have h2:=sG (g:=4) h rfl (by show(2:Nat)<=5;omega);have e2:tE 4 (bD l1) [(0,dO s2 3),(1,.bm []),(2,.al [.aj 4 l1.length 6] 104),(3,d_ s2),(4,kj l1)]=[(0,dO s2 3),(1,.bm []),(2,.al [nI l1] 104),(3,d_ s2),(4,.bm [])]:=by rw[<-L2 l1];rfl
 rw[e2]at h2;have h4:=E0 (g:=2) h2 rfl rfl (by show(2:Nat)<=5;omega);exact lR (ps:=[(0,0),(1,1),(3,2)]) h4
theorem aGs{a b n sz}(hl:a.length=b.length)(h:iX a b):Wk (.ah a n sz) (.ah b n sz):=by
 intro φ x hx;have⟨p,c,e,h1,h2⟩:=hx;refine⟨p,c,e,by rw[<-hl];exact h1,?_⟩;rcases h2 with h2|⟨b',x,eK,el,fz,h2,h3,h4,h5,h6⟩
 .exact .inl h2
 .exact .inr ⟨b',x,eK,el,fz,h2,h3,h4,by rw[<-hl];exact h5,by rw[<-hl];exact h _ _ h6⟩
theorem aqF{f A s s2 l1}(h:bX Z f A (cp s) (.bw 2 0 2 2 1 true) (RC s2 [.aj 4 l1.length 6,.aM] l1)):
 bX Z f A (cp s) (.ah ([l1,[]].map nI) 2 1) (nL s2):=by
 have h2:=sG (g:=4) h rfl (by show(2:Nat)<=5;omega);have e2:tE 4 (bD l1) [(0,dO s2 3),(1,.bm []),(2,.al [.aj 4 l1.length 6,.aM] 104),(3,d_ s2),(4,kj l1)]=[(0,dO s2 3),(1,.bm []),(2,.al [nI l1,.aM] 104),(3,d_ s2),(4,.bm [])]:=by rw[<-L2 l1];rfl
 rw[e2]at h2;have h3:=E0 (g:=2) h2 rfl rfl (by show(2:Nat)<=5;omega);have h4:=qO (v1:=.ah ([l1,[]].map nI) 2 1) h3 (aGs rfl (.fT (.qm 6 (.mF _)))) (by show(2:Nat)<=5;omega);exact lR (ps:=[(0,0),(1,1),(3,2)]) h4
theorem Zk{s l n cs}(h1:n=l.length)(h2:cs=bD l):fJ (.aj 2 l.length 6) (zh s l) (.aj 2 n 6) (Mo s cs):=by subst h1 h2;exact⟨rfl,rfl⟩
theorem ahm(l k v):bD l++[J k,.ad [],J 0,J 0,.ah [] 0 4,J v]=bD (l++[oG k v]):=by rw[yZ];rfl
theorem AG(l):(bD l).all AV.cY=true/\(bD l).all eR=true:=by
 induction l with
 |nil=>exact⟨rfl,rfl⟩
 |cons g l ih=>simp only[bD,sY,ih.1,ih.2,Bt];exact⟨rfl,rfl⟩
theorem awu{N}(hS:aS Z (T0 N)):∀w A H,(M9 N).bh w A H->bX Z 168 A H ((M9 N).v w) ((M9 N).aK w):=by
 rintro⟨s,⟨k,n,nm,l⟩,c,s2,gl⟩ A H ⟨rfl,rfl,aZ,he⟩;replace aZ:eL N 3000000 s (.mk k n nm l):=aZ;simp only[nS]at he;have hb:=qU N s.nx (.mk k n nm l) (bY s.nv) aZ.2.1;generalize hr:ej N s.nx (.mk k n nm l) (bY s.nv)=r at he hb;have⟨r1,r2⟩:=r;cases he;have hm:=aZ.2.2.1;simp only at hb;refine eS hS SN 25 ?_;rw[aU,aDp];refine⟨s,⟨rfl,rfl⟩,⟨rfl,trivial⟩,?_⟩;refine zi (g:=3) (new:=kj [oG 3 (bY s.nv)]) ?_ rfl (λφ e o h=>sB rfl h) rfl;refine hE hS (@aDo s.nx k n nm (aH l) l.length (bY s.nv) [oG 3 (bY s.nv)] N _ _) ?_;refine⟨⟨s.nx,.mk k n nm l,bY s.nv,r1,r2⟩,⟨rfl,rfl,aZ,hr⟩,rF _,λh0=>?_,λh1=>?_⟩
 .have:=mo h0;subst this;exact⟨by simp,⟨rfl,trivial⟩,⟨rfl,by simp,rfl,rfl⟩,Zk rfl rfl⟩
 .have h1:=h1;refine⟨⟨rfl,by show 1+r2.length<=4194304;omega,AG _⟩,⟨rfl,trivial⟩,⟨by show(bD [oG 3 (bY s.nv)]++bD r2).length=(1+r2.length)*6;rw[<-yZ,rF,cL];rfl,by show 1+r2.length+1<=4194304;omega,rfl,rfl⟩,Zk ?_ ?_⟩
  .show 1+r2.length+1=_;simp;omega
  .show bD [oG 3 (bY s.nv)]++bD r2++_=_;rw[<-yZ,ahm];rfl
theorem afl{N}(hS:aS Z (T0 N)):aS Z (T1 N):=cu hS (awu hS)
theorem aht(a):((aH [a]).drop 0).take 4=aU a:=by rw[ye,aH,aH,jH];exact Br (by rw[tA];omega)
theorem ant{N}(hS:aS Z (T1 N)){s s2 s3 k n c k1 n1 a b nm et x y x1 y1 gs r2 r3}(hy1:eL N 3000000 s y1)(ow:ej N s y1 c=(s2,r2))(hy:eL N 3000000 s2 y)(MS:ej N s2 y c=(s3,r3))(hl:gs.length+1+r2.length<=4000000):
 bu Z 143 68 2 (.bw 2 0 2 2 1 true) (ZO s3 (gs++oG 4 a::r2).length r3.length (gs++oG 4 a::r2) r3)
  (J' c gs.length a b) (aq [(0,dO s 5),(1,.bm []),(2,dH k n nm (aH [x,y]) 2),(3,kj gs),(4,dH k1 n1 et (aH [x1,y1]) 2),(5,d_ s)] 6) (cM Z Nh 143 0):=by
 refine hE hS aDg ?_;have⟨ky,ny,sy,ly⟩:=y;have⟨ky1,ny1,sy1,ly1⟩:=y1;have e1:bD gs++[J 4,.ad [],J 0,J 0,.ah [] 0 4,J a]=bD (gs++[oG 4 a]):=ahm _ _ _;refine⟨⟨rfl,trivial⟩,⟨rF _,by omega,rfl,rfl⟩,by decide,ky1,ny1,sy1,aH ly1,ly1.length,xu _ _,⟨s,.mk ky1 ny1 sy1 ly1,c,s2,r2⟩,⟨rfl,rfl,hy1,ow⟩,rF _,λh0=>?_,λh1=>?_⟩
 .have:=mo h0;subst this;refine⟨by omega,by decide,ky,ny,sy,aH ly,ly.length,xu _ _,⟨s2,.mk ky ny sy ly,c,s3,r3⟩,⟨rfl,rfl,hy,MS⟩,?_⟩;rw[e1,cL];exact⟨rfl,rfl⟩
 .have h1:=h1;refine⟨⟨by rw[e1,rF,cL];rfl,by show gs.length+1+r2.length<=4194304;omega,AG _⟩,by decide,ky,ny,sy,aH ly,ly.length,xu _ _,⟨s2,.mk ky ny sy ly,c,s3,r3⟩,⟨rfl,rfl,hy,MS⟩,?_⟩;have e2:gs.length+1+r2.length=(gs++(oG 4 a::r2)).length:=by simp;omega
  have e3:bD gs++[J 4,.ad [],J 0,J 0,.ah [] 0 4,J a]++bD r2=bD (gs++(oG 4 a::r2)):=by rw[e1,<-yZ,km];rfl
  rw[e2,e3];exact⟨rfl,rfl⟩
theorem xB{N M N' M' s s' g g'}(h:eL N M s g)(h1:bB g')(h2:gm g'<N')(h3:gm g'<=gm g)(h4:s'.ao.length+gm g'<M')(h5:ku g'):eL N' M' s' g':=⟨h1,h2,by have:=h.2.2.1;omega,h4,h5⟩
theorem asv{N}(hS:aS Z (T1 N)):∀w A H,(qK 0 N).bh w A H->bX Z 143 A H ((qK 0 N).v w) ((qK 0 N).aK w):=by
 rintro⟨s,g,c,s2,ls⟩ A H ⟨rfl,rfl,aZ,mg,he⟩;simp only at aZ mg he;obtain⟨k,n,x,y,rfl,RX,iV⟩:=rO (.inr (.inl rfl)) mg;have hx:=aZ.1.2.2.1;have hy:=aZ.1.2.2.2.1;have g1:=oL x;have g2:=oL y;have hN:=aZ.2.1;have hM:=aZ.2.2.1;have hA:=aZ.2.2.2.1;have hG:=aZ.2.2.2.2;simp only[gk,jk,aF.bo,mY,r_]at he;by_cases hi:dM x [45,62] 2=true
 .rw[aL hi]at he;obtain⟨kx,nx,x1,y1,rfl,hgx,ajb⟩:=rO (.inr (.inr rfl)) hi;have zq:=hx.2.2.1;have hy1:=hx.2.2.2.1;have g3:=oL x1;have g4:=oL y1;simp only[mY,r_]at he;have b1:=qU N s.nx.nx x1 (bY s.nx.nv) (by omega);generalize qi:ej N s.nx.nx x1 (bY s.nx.nv)=r1 at he b1;obtain⟨s3,l1⟩:=r1;have b2:=qU N s3 y1 c (by omega);simp only at he;generalize ow:ej N s3 y1 c=r2 at he b2;obtain⟨s4,l2⟩:=r2;have b3:=qU N s4 y c (by omega);simp only at he;generalize MS:ej N s4 y c=r3 at he b3;obtain⟨s5,l3⟩:=r3;cases he;have hs:s.nx.nx.ao=s.ao:=rfl;simp only[hs]at b1 b2 b3;have FL:eL N 3000000 s.nx.nx x1:=xB aZ zq (by omega) (by omega) (by rw[hs];omega) (ajb (iV hG).1).1;have hq2:eL N 3000000 s3 y1:=xB aZ hy1 (by omega) (by omega) (by omega) (ajb (iV hG).1).2;have hq3:eL N 3000000 s4 y:=xB aZ hy (by omega) (by omega) (by omega) (iV hG).2;refine af4 ?_;refine eS hS Ng 68 ?_;rw[aU,ans];refine⟨DL _,kx,nx,[45,62],aH [x1,y1],2,AK _ _,⟨rfl,trivial⟩,aD (λ_=>?_) λh=>by rw[show sM kx [45,62] 2 [45,62] 2=true from hi]at h;cases h⟩;refine⟨s,⟨rfl,rfl⟩,s.nx,⟨rfl,rfl⟩,⟨rfl,trivial⟩,⟨rfl,trivial⟩,?_⟩;refine zi (g:=3) (new:=kj [oG 2 (bY s.nv),oG 3 (bY s.nx.nv)]) ?_ rfl (λφ e o h=>sB rfl h) rfl;refine hE hS (@aDf s.nx.nx k n [59] (aH [.mk kx nx [45,62] [x1,y1],y]) 2 c kx nx [45,62] (aH [x1,y1]) 2 (bY s.nv) (bY s.nx.nv) [oG 2 (bY s.nv),oG 3 (bY s.nx.nv)] N _ _) ?_;have⟨k1,n1,m1,q1⟩:=x1;refine⟨DL _,k1,n1,m1,aH q1,q1.length,AK _ _,⟨s.nx.nx,.mk k1 n1 m1 q1,bY s.nx.nv,s3,l1⟩,⟨rfl,rfl,FL,qi⟩,rF _,λh0=>?_,λh1=>?_⟩
  .have:=mo h0;subst this;exact⟨by simp,ant hS hq2 ow hq3 MS (by simp;omega)⟩
  .refine⟨⟨rfl,by show 2+l1.length<=4194304;omega,AG _⟩,?_⟩;have:=ant (gs:=[oG 2 (bY s.nv),oG 3 (bY s.nx.nv)]++l1) (k:=k) (n:=n) (nm:=[59]) (x:=.mk kx nx [45,62] [.mk k1 n1 m1 q1,y1]) (k1:=kx) (n1:=nx) (et:=[45,62]) (x1:=.mk k1 n1 m1 q1) (a:=bY s.nv) (b:=bY s.nx.nv) hS hq2 ow hq3 MS (by simp;omega);rw[show kj ([oG 2 (bY s.nv),oG 3 (bY s.nx.nv)]++l1)=.aA (bD [oG 2 (bY s.nv),oG 3 (bY s.nx.nv)]++bD l1) 146 by rw[kj,yZ],show([oG 2 (bY s.nv),oG 3 (bY s.nx.nv)]++l1).length=2+l1.length by simp only[cL,ei,gY]]at this;exact this
 .rw[az hi]at he;have b1:=qU N s x c (by omega);generalize qi:ej N s x c=r1 at he b1;have⟨s3,l1⟩:=r1;have b2:=qU N s3 y c (by omega);generalize ow:ej N s3 y c=r2 at he b2;have⟨s4,l2⟩:=r2;cases he;simp only at b1 b2;have MP:eL N 3000000 s x:=xB aZ hx (by omega) (by omega) (by omega) (iV hG).1;have MQ:eL N 3000000 s3 y:=xB aZ hy (by omega) (by omega) (by omega) (iV hG).2;refine af4 ?_;refine eS hS Ng 68 ?_;rw[aU,ans];have⟨k1,n1,m1,q1⟩:=x;have⟨k2,n2,m2,q2⟩:=y;refine⟨DL _,k1,n1,m1,aH q1,q1.length,AK _ _,⟨rfl,trivial⟩,aD (λh=>absurd h hi) λ_=>?_⟩;exact⟨⟨s,.mk k1 n1 m1 q1,c,s3,l1⟩,⟨rfl,rfl,MP,qi⟩,by simp,k2,n2,m2,aH q2,q2.length,xu _ _,⟨s3,.mk k2 n2 m2 q2,c,s4,l2⟩,⟨rfl,rfl,MQ,ow⟩,rfl,rfl⟩
theorem afm{N}(hS:aS Z (T0 N)):aS Z (T2 N):=cu (afl hS) (asv (afl hS))
theorem aFm{N}(hS:aS Z (T2 N)):∀w A H,(qK 1 N).bh w A H->bX Z 144 A H ((qK 1 N).v w) ((qK 1 N).aK w):=by
 rintro⟨s,g,c,s2,ls⟩ A H ⟨rfl,rfl,aZ,mg,he⟩;simp only at aZ mg he;obtain⟨k,n,x,y,rfl,RX,iV⟩:=rO (.inr (.inr rfl)) mg;have hx:=aZ.1.2.2.1;have hy:=aZ.1.2.2.2.1;have hN:=aZ.2.1;have hA:=aZ.2.2.2.1;have hG:=aZ.2.2.2.2;simp only[gk,jk,aF.bo,mY,r_]at he;have b1:=aba (s:=s) (qU N) (by omega:gm x<N);generalize qi:nS (ej N) s x=r1 at he b1;have⟨s3,l1⟩:=r1;have b2:=qU N s3 y c (by omega);generalize ow:ej N s3 y c=r2 at he b2;have⟨s4,l2⟩:=r2;cases he;simp only at b1 b2;have MP:eL N 3000000 s x:=xB aZ hx (by omega) (by omega) (by omega) (iV hG).1;have MQ:eL N 3000000 s3 y:=xB aZ hy (by omega) (by omega) (by omega) (iV hG).2;refine af3 ?_;refine eS hS (λ_=>[]) 24 ?_;rw[aU,aDh];have⟨k1,n1,m1,q1⟩:=x;have⟨k2,n2,m2,q2⟩:=y;refine⟨DL _,k1,n1,m1,aH q1,q1.length,AK _ _,⟨s,.mk k1 n1 m1 q1,0,s3,l1⟩,⟨rfl,rfl,MP,qi⟩,by simp,k2,n2,m2,aH q2,q2.length,xu _ _,⟨s3,.mk k2 n2 m2 q2,c,s4,l2⟩,⟨rfl,rfl,MQ,ow⟩,rF _,λh0=>?_,λh1=>?_⟩
 .have:=mo h0;subst this;refine⟨by show l1.length<=4194304;omega,?_⟩;rw[jH];exact⟨rfl,rfl⟩
 .refine⟨⟨rF _,by show l1.length+l2.length<=4194304;omega,AG _⟩,?_⟩;rw[<-yZ,<-cL];exact⟨rfl,rfl⟩
theorem afn{N}(hS:aS Z (T0 N)):aS Z (T3 N):=cu (afm hS) (aFm (afm hS))
theorem axp{N}(hS:aS Z (T3 N)):∀w A H,(qK 2 N).bh w A H->bX Z 145 A H ((qK 2 N).v w) ((qK 2 N).aK w):=by
 rintro⟨s,g,c,s2,ls⟩ A H ⟨rfl,rfl,aZ,mg,he⟩;simp only at aZ mg he;obtain⟨k,n,x,rfl,RX,iV⟩:=Dg (.inl rfl) mg;have hx:=aZ.1.2.2.1;have hN:=aZ.2.1;have hA:=aZ.2.2.2.1;have hG:=aZ.2.2.2.2;have g2:=Iu x;simp only[gk,jk,aF.bo,mY]at he;have b1:=qU N s.nx.nx (iD x) (bY s.nx.nv) (by omega);generalize qi:ej N s.nx.nx (iD x) (bY s.nx.nv)=r1 at he b1;have⟨s3,l1⟩:=r1;cases he;have hs:s.nx.nx.ao=s.ao:=rfl;simp at b1;have FL:eL N 3000000 s.nx.nx (iD x):=xB aZ (Th hx) (by omega) (by omega) (by rw[hs];omega) (Rk (iV hG));refine aqF ?_;refine eS hS SM 40 ?_;rw[aU,aDj];refine⟨s,⟨rfl,rfl⟩,s.nx,⟨rfl,rfl⟩,⟨rfl,trivial⟩,⟨rfl,trivial⟩,?_⟩;refine zi (g:=3) (new:=kj [oG 2 (bY s.nv),oG 3 (bY s.nx.nv)]) ?_ rfl (λφ e o h=>sB rfl h) rfl;refine hE hS (@aDi s.nx.nx k n [92,43] (aH [x]) 1 (bY s.nv) (bY s.nx.nv) [oG 2 (bY s.nv),oG 3 (bY s.nx.nv)] N _ _) ?_;have⟨k1,n1,m1,q1⟩:=x;refine⟨DL _,k1,n1,m1,aH q1,q1.length,aht _,.mk k1 n1 m1 q1,⟨rfl,rfl,hx⟩,⟨s.nx.nx,iD (.mk k1 n1 m1 q1),bY s.nx.nv,s3,l1⟩,⟨by rw[<-yV];rfl,rfl,FL,qi⟩,rF _,λh0=>?_,λh1=>?_⟩
 .have:=mo h0;subst this;exact⟨by simp,⟨rfl,trivial⟩,⟨rfl,trivial⟩,⟨rfl,by simp,rfl,rfl⟩,rfl,rfl⟩
 .have e1:bD [oG 2 (bY s.nv),oG 3 (bY s.nx.nv)]++bD l1=bD (oG 2 (bY s.nv)::oG 3 (bY s.nx.nv)::l1):=rfl;refine⟨⟨rfl,by show 2+l1.length<=4194304;omega,AG _⟩,⟨rfl,trivial⟩,⟨rfl,trivial⟩,⟨by show(bD [oG 2 (bY s.nv),oG 3 (bY s.nx.nv)]++bD l1).length=(2+l1.length)*6;rw[e1,rF];simp;omega,by show 2+l1.length+2<=4194304;omega,rfl,rfl⟩,?_⟩;have e2:2+l1.length+2=(oG 2 (bY s.nv)::oG 3 (bY s.nx.nv)::(l1++[oG 4 (bY s.nv),oG 5 0])).length:=by simp;omega
  have e3:bD [oG 2 (bY s.nv),oG 3 (bY s.nx.nv)]++bD l1++[J 4,.ad [],J 0,J 0,.ah [] 0 4,J (bY s.nv),J 5,.ad [],J 0,J 0,.ah [] 0 4,J 0]=bD (oG 2 (bY s.nv)::oG 3 (bY s.nx.nv)::(l1++[oG 4 (bY s.nv),oG 5 0])):=by rw[e1,<-oC,<-oC,yZ];rfl
  show fJ _ _ (.bw 2 0 2 2 1 true) (RD s3 [.aj 4 (2+l1.length+2) 6,.aM] (bD [oG 2 (bY s.nv),oG 3 (bY s.nx.nv)]++bD l1++[J 4,.ad [],J 0,J 0,.ah [] 0 4,J (bY s.nv),J 5,.ad [],J 0,J 0,.ah [] 0 4,J 0]));rw[e2,e3];exact⟨rfl,rfl⟩
theorem afo{N}(hS:aS Z (T0 N)):aS Z (T4 N):=cu (afn hS) (axp (afn hS))
theorem axz{N}(hS:aS Z (T4 N)):∀w A H,(qK 3 N).bh w A H->bX Z 146 A H ((qK 3 N).v w) ((qK 3 N).aK w):=by rintro⟨s,g,c,s2,ls⟩ A H ⟨rfl,rfl,aZ,mg,he⟩;simp only at aZ mg he;obtain⟨k,n,x,rfl,RX,iV⟩:=Dg (.inr rfl) mg;have hx:=aZ.1.2.2.1;have hN:=aZ.2.1;have hA:=aZ.2.2.2.1;have hG:=aZ.2.2.2.2;have g2:=Iu x;simp only[gk,jk,aF.bo,mY]at he;generalize qi:nS (ej N) s (iD x)=r1 at he;have⟨s3,l1⟩:=r1;cases he;have FL:eL N 3000000 s (iD x):=xB aZ (Th hx) (by omega) (by omega) (by omega) (Rk (iV hG));refine af3 ?_;refine eS hS (λ_=>[]) 15 ?_;rw[aU,aDk];have⟨k1,n1,m1,q1⟩:=x;refine⟨DL _,k1,n1,m1,aH q1,q1.length,aht _,.mk k1 n1 m1 q1,⟨rfl,rfl,hx⟩,⟨s,iD (.mk k1 n1 m1 q1),0,s3,l1⟩,⟨?_,rfl,FL,qi⟩,rfl,rfl⟩;rw[<-yV];rfl
theorem afp{N}(hS:aS Z (T0 N)):aS Z (T5 N):=cu (afo hS) (axz (afo hS))
def h8(s:da)(et:LN)(kY:Int)(f:Nat)(k n:Int)(nm:LN)(cs:LV)(len:Nat)(m:Nat)(x:Int):AH:=aq [(0,dO s 6),(1,.bm []),(2,HO et kY f),(3,dH k n nm cs len),(4,tF),(5,pB (aP m) x),(6,d_ s)] 7
abbrev UA(x0:_)(x1:_)(x2:_)(x3:_):=bg [(0,.aa 0 0),(3,J x0),(5,.aa 2 0),(6,.aa 3 0),(8,.aa 4 0),(9,.ah x1 x2 4),(10,.aa 5 0),(11,J x3),(12,.aM)]
abbrev UB(x0:_)(x1:_)(x2:_)(x3:_)(x4:_):=bg [(0,.aa 0 0),(8,.aa 2 0),(9,.ah x0 x1 4),(10,.aa 3 0),(11,J x2),(12,.aM),(50,.ah (List.map nI x3) x4 1),(51,J (aP x4)),(52,J 0)]
abbrev AT(x0:_)(x1:_)(x2:_):=aq [(0,dO x0 4),(1,.bm []),(2,tF),(3,pB x1 x2),(4,d_ x0)] 5
theorem aCZ{s et kY k n nm cs len c dq x ds m N L Q}:
 cg Z (T5 N) nT L Q 1000 115 2 (UA c ds m dq) (cM Z qj 115 0) (h8 s et kY 143 k n nm cs len m x)=(
 ∃w:Bw,(([.aa 0 0,.ai [J k,J n,.ad nm,.ah cs len 4],J c]:LV)=[.aa 0 0,.ai (aU w.g),J w.c]/\cp s=cp w.s/\eL (N+4) 3000001 w.s w.g/\dM w.g (jF 0) 2=true/\gk (ej N) 0 w.s w.g w.c=Prod.mk w.s2 w.ls)/\L (UB ds m dq w.ls w.ls.length) (AT w.s2 (aP m) x) (ax Z 115 0)):=by kernel_rfl
abbrev UC(x0:_)(x1:_):=bg [(0,.aa 0 0),(3,J x0),(5,.aa 2 0),(6,.aa 3 0),(8,.aa 4 0),(9,.aM),(10,.aa 5 0),(11,J x1),(12,.aM)]
abbrev UD(x0:_)(x1:_)(x2:_):=bg [(0,.aa 0 0),(8,.aa 2 0),(9,.aM),(10,.aa 3 0),(11,J x0),(12,.aM),(50,.ah (List.map nI x1) x2 1),(51,J (aP x2)),(52,J 0)]
theorem aCT{s et kY k n nm cs len c dq x N L Q}:
 cg Z (T5 N) nT L Q 1000 115 2 (UC c dq) (cM Z qj 115 0) (h8 s et kY 143 k n nm cs len 0 x)=(
 ∃w:Bw,(([.aa 0 0,.ai [J k,J n,.ad nm,.ah cs len 4],J c]:LV)=[.aa 0 0,.ai (aU w.g),J w.c]/\cp s=cp w.s/\eL (N+4) 3000001 w.s w.g/\dM w.g (jF 0) 2=true/\gk (ej N) 0 w.s w.g w.c=Prod.mk w.s2 w.ls)/\L (UD dq w.ls w.ls.length) (AT w.s2 0 x) (ax Z 115 0)):=by kernel_rfl
theorem aC0{s et kY k n nm cs len c dq x ds m N L Q}:
 cg Z (T5 N) nT L Q 1000 115 2 (UA c ds m dq) (cM Z qj 115 0) (h8 s et kY 144 k n nm cs len m x)=(
 ∃w:Bw,(([.aa 0 0,.ai [J k,J n,.ad nm,.ah cs len 4],J c]:LV)=[.aa 0 0,.ai (aU w.g),J w.c]/\cp s=cp w.s/\eL (N+4) 3000001 w.s w.g/\dM w.g (jF 1) 2=true/\gk (ej N) 1 w.s w.g w.c=Prod.mk w.s2 w.ls)/\L (UB ds m dq w.ls w.ls.length) (AT w.s2 (aP m) x) (ax Z 115 0)):=by kernel_rfl
theorem aCU{s et kY k n nm cs len c dq x N L Q}:
 cg Z (T5 N) nT L Q 1000 115 2 (UC c dq) (cM Z qj 115 0) (h8 s et kY 144 k n nm cs len 0 x)=(
 ∃w:Bw,(([.aa 0 0,.ai [J k,J n,.ad nm,.ah cs len 4],J c]:LV)=[.aa 0 0,.ai (aU w.g),J w.c]/\cp s=cp w.s/\eL (N+4) 3000001 w.s w.g/\dM w.g (jF 1) 2=true/\gk (ej N) 1 w.s w.g w.c=Prod.mk w.s2 w.ls)/\L (UD dq w.ls w.ls.length) (AT w.s2 0 x) (ax Z 115 0)):=by kernel_rfl
theorem aC1{s et kY k n nm cs len c dq x ds m N L Q}:
 cg Z (T5 N) nT L Q 1000 115 2 (UA c ds m dq) (cM Z qj 115 0) (h8 s et kY 145 k n nm cs len m x)=(
 ∃w:Bw,(([.aa 0 0,.ai [J k,J n,.ad nm,.ah cs len 4],J c]:LV)=[.aa 0 0,.ai (aU w.g),J w.c]/\cp s=cp w.s/\eL (N+4) 3000001 w.s w.g/\dM w.g (jF 2) 1=true/\gk (ej N) 2 w.s w.g w.c=Prod.mk w.s2 w.ls)/\L (UB ds m dq w.ls w.ls.length) (AT w.s2 (aP m) x) (ax Z 115 0)):=by kernel_rfl
theorem aCV{s et kY k n nm cs len c dq x N L Q}:
 cg Z (T5 N) nT L Q 1000 115 2 (UC c dq) (cM Z qj 115 0) (h8 s et kY 145 k n nm cs len 0 x)=(
 ∃w:Bw,(([.aa 0 0,.ai [J k,J n,.ad nm,.ah cs len 4],J c]:LV)=[.aa 0 0,.ai (aU w.g),J w.c]/\cp s=cp w.s/\eL (N+4) 3000001 w.s w.g/\dM w.g (jF 2) 1=true/\gk (ej N) 2 w.s w.g w.c=Prod.mk w.s2 w.ls)/\L (UD dq w.ls w.ls.length) (AT w.s2 0 x) (ax Z 115 0)):=by kernel_rfl
theorem aC2{s et kY k n nm cs len c dq x ds m N L Q}:
 cg Z (T5 N) nT L Q 1000 115 2 (UA c ds m dq) (cM Z qj 115 0) (h8 s et kY 146 k n nm cs len m x)=(
 ∃w:Bw,(([.aa 0 0,.ai [J k,J n,.ad nm,.ah cs len 4],J c]:LV)=[.aa 0 0,.ai (aU w.g),J w.c]/\cp s=cp w.s/\eL (N+4) 3000001 w.s w.g/\dM w.g (jF 3) 1=true/\gk (ej N) 3 w.s w.g w.c=Prod.mk w.s2 w.ls)/\L (UB ds m dq w.ls w.ls.length) (AT w.s2 (aP m) x) (ax Z 115 0)):=by kernel_rfl
theorem aCW{s et kY k n nm cs len c dq x N L Q}:
 cg Z (T5 N) nT L Q 1000 115 2 (UC c dq) (cM Z qj 115 0) (h8 s et kY 146 k n nm cs len 0 x)=(
 ∃w:Bw,(([.aa 0 0,.ai [J k,J n,.ad nm,.ah cs len 4],J c]:LV)=[.aa 0 0,.ai (aU w.g),J w.c]/\cp s=cp w.s/\eL (N+4) 3000001 w.s w.g/\dM w.g (jF 3) 1=true/\gk (ej N) 3 w.s w.g w.c=Prod.mk w.s2 w.ls)/\L (UD dq w.ls w.ls.length) (AT w.s2 0 x) (ax Z 115 0)):=by kernel_rfl
abbrev Fu(x0:_)(x1:_)(x2:_)(x3:_):=aq [(0,dO x0 5),(1,.bm []),(2,tF),(3,pB x1 x2),(4,.aA x3 106),(5,d_ x0)] 6
theorem aCY{s dq x i ds m bs nb fs nf N L Q}:
 cg Z (T5 N) nT L Q 1000 115 2 (bg [(0,.aa 0 0),(8,.aa 2 0),(9,.ah ds m 4),(10,.aa 3 0),(11,J dq),(12,.aj 4 nf 5),(50,.ah bs nb 1),(51,J (aP nb)),(52,J i)]) (ax Z 115 0) (Fu s (aP m) x fs)=(
 aw (decide (i<aP nb)) (∃aJ:Nat,i=(aJ:Int)/\aJ<nb/\(∃cs len,((bs.drop (aJ*1)).take 1:List AV)=[.ah cs len 6]/\(aq [] 0=an/\(m=0->False)/\m<=4000000/\ds.length=m*4/\List.all ds AV.cY=true/\List.all ds eR=true)/\some (.ai [.ad [],J (aP m),J x]:AV)=some (.ai [.ad [],J (aP m),J x]:AV)/\(fs.length=nf*5/\nf+1<=4194304/\true=true/\true=true)/\L (bg [(0,.aa 0 0),(8,.aa 2 0),(9,.ah ds m 4),(10,.aa 3 0),(11,J dq),(12,.aj 4 (nf+1) 5),(50,.ah bs nb 1),(51,J (aP nb)),(52,J (wI (i+1)))]) (Fu s (aP m) x (fs++[.ad [],J (aP m),J x,.ah ds m 4,.ah cs len 6])) (ax Z 115 0))) (L (bg [(0,.aa 0 0),(8,.aa 2 0),(9,.ah ds m 4),(10,.aa 3 0),(11,J dq),(12,.aj 4 nf 5)]) (Fu s (aP m) x fs) (cM Z nT 115 0))):=by kernel_rfl
theorem aCR{s dq x ds m fs nf N L Q}:
 cg Z (T5 N) (λ_=>[]) L Q 1000 115 2 (bg [(0,.aa 0 0),(8,.aa 2 0),(9,.ah ds m 4),(10,.aa 3 0),(11,J dq),(12,.ah fs nf 5)]) (cM Z nT 115 0) (aq [(0,dO s 5),(1,.bm []),(2,tF),(3,pB (aP m) x),(4,.bm []),(5,d_ s)] 6)=(
 ∃i:Nat,dq=(i:Int)/\i<s.ao.length/\i*1+1<=(iU s.ao).length/\(∃w,(([.ai [.ad [],J (aP m),J x],.ah ds m 4]:LV)=[.ai [.ad [],J (aP m),J x],.ah (aH w) w.length 4]/\aq [] 0=an/\fK w/\w.length<4000000)/\Q (.ai [J 1,.ad [],J (aP m),J x,.ah (aH (List.map dt w)) (List.map dt w).length 4,J 0]) (aq [(0,dO s 2),(1,.bm []),(2,.aA (gE (iU s.ao) (i*1) [.ah fs nf 5]) 84)] 3))):=by kernel_rfl
theorem aCX{s dq x i bs nb fs nf N L Q}:
 cg Z (T5 N) nT L Q 1000 115 2 (bg [(0,.aa 0 0),(8,.aa 2 0),(9,.aM),(10,.aa 3 0),(11,J dq),(12,.aj 4 nf 5),(50,.ah bs nb 1),(51,J (aP nb)),(52,J i)]) (ax Z 115 0) (Fu s 0 x fs)=(
 aw (decide (i<aP nb)) (∃aJ:Nat,i=(aJ:Int)/\aJ<nb/\(∃cs len,((bs.drop (aJ*1)).take 1:List AV)=[.ah cs len 6]/\aq [] 0=an/\some (.ai [.ad [],J 0,J x]:AV)=some (.ai [.ad [],J 0,J x]:AV)/\(fs.length=nf*5/\nf+1<=4194304/\true=true/\true=true)/\L (bg [(0,.aa 0 0),(8,.aa 2 0),(9,.aM),(10,.aa 3 0),(11,J dq),(12,.aj 4 (nf+1) 5),(50,.ah bs nb 1),(51,J (aP nb)),(52,J (wI (i+1)))]) (Fu s 0 x (fs++[.ad [],J 0,J x,.aM,.ah cs len 6])) (ax Z 115 0))) (L (bg [(0,.aa 0 0),(8,.aa 2 0),(9,.aM),(10,.aa 3 0),(11,J dq),(12,.aj 4 nf 5)]) (Fu s 0 x fs) (cM Z nT 115 0))):=by kernel_rfl
theorem aCQ{s dq x fs nf N L Q}:
 cg Z (T5 N) (λ_=>[]) L Q 1000 115 2 (bg [(0,.aa 0 0),(8,.aa 2 0),(9,.aM),(10,.aa 3 0),(11,J dq),(12,.ah fs nf 5)]) (cM Z nT 115 0) (aq [(0,dO s 5),(1,.bm []),(2,tF),(3,pB 0 x),(4,.bm []),(5,d_ s)] 6)=(
 ∃i:Nat,dq=(i:Int)/\i<s.ao.length/\i*1+1<=(iU s.ao).length/\aq [] 0=an/\Q (.ai [J 1,.ad [],J 0,J x,.ah [] 0 4,J 0]) (aq [(0,dO s 2),(1,.bm []),(2,.aA (gE (iU s.ao) (i*1) [.ah fs nf 5]) 84)] 3)):=by kernel_rfl
def a9:eH->AV
 |[]=>.aM
 |t::l=>.ah (aH (t::l)) (l.length+1) 4
theorem apA{φ vs eF el h_}(hw:iX vs eF)(hl:eF.length=vs.length/\eF.all AV.cY=vs.all AV.cY){e o}(h:OR φ (.aA vs el) e o):OR φ (.aA eF h_) e o:=by have⟨cs,kL,h1,h2,h3,h4,h5⟩:=h;exact⟨cs,kL,h1,h2,by rw[hl.1];exact h3,by rw[hl.1];exact hw _ _ h4,by rw[hl.2];exact h5⟩
def pdS(n:Nat)(x:Int):cX:=⟨[],(n:Int),x⟩
abbrev t8(c dq:Int)(a:AV):Ev.Tr AV:=bg [(0,.aa 0 0),(3,J c),(5,.aa 2 0),(6,.aa 3 0),(8,.aa 4 0),(9,a),(10,.aa 5 0),(11,J dq),(12,.aM)]
abbrev t9(dq:Int)(a:AV)(bs:LV)(nb nf:Nat)(i:Int):Ev.Tr AV:=bg [(0,.aa 0 0),(8,.aa 2 0),(9,a),(10,.aa 3 0),(11,J dq),(12,.aj 4 nf 5),(50,.ah bs nb 1),(51,J (aP nb)),(52,J i)]
abbrev h9(s:da)(m:Nat)(x:Int)(fs:LV):AH:=Fu s (aP m) x fs
theorem ayT{N}(hS:aS Z (T5 N)){v H1 s s2 kk t c dq x ls args}(hk:kk<4)(aZ:eL (N+4) 3000001 s t)(hi:dM t (jF kk) (l9 kk)=true)(hr:gk (ej N) kk s t c=(s2,ls))(h:bu Z 115 75 2 v H1 (t9 dq (a9 args) (ls.map nI) ls.length 0 0) (h9 s2 args.length x []) (ax Z 115 0)):
 bu Z 115 75 2 v H1 (t8 c dq (a9 args)) (h8 s (jF kk) (l9 kk) (AO kk) t.cy t.n t.cO (aH t.bo) t.bo.length args.length x) (cM Z qj 115 0):=by
 have⟨k,n,nm,l⟩:=t;have nil:bu Z 115 75 2 v H1 (bg [(0,.aa 0 0),(8,.aa 2 0),(9,a9 args),(10,.aa 3 0),(11,J dq),(12,.aM),(50,.ah (ls.map nI) ls.length 1),(51,J (aP ls.length)),(52,J 0)]) (AT s2 (aP args.length) x) (ax Z 115 0):=by
  cases args with
  |nil=>refine AY 5 106 [12] ?_ rfl;exact AZ (mw:=[2,3,5]) (ls:=[0,8,9,10,11,12,50,51,52]) (ps:=[(0,0),(1,1),(2,2),(3,3),(5,4),(4,5)]) h
  |cons a tl=>refine AY 5 106 [12] ?_ rfl;exact AZ (mw:=[2,3,5]) (ls:=[0,8,9,10,11,12,50,51,52]) (ps:=[(0,0),(1,1),(2,2),(3,3),(5,4),(4,5)]) h
 match kk,hk with
 |0,_=>
  refine hD hS nT ?_;cases args with
  |nil=>exact cast (@aCT ..).symm ⟨⟨s,.mk k n nm l,c,s2,ls⟩,⟨rfl,rfl,aZ,hi,hr⟩,nil⟩
  |cons a tl=>exact cast (@aCZ ..).symm ⟨⟨s,.mk k n nm l,c,s2,ls⟩,⟨rfl,rfl,aZ,hi,hr⟩,nil⟩
 |1,_=>
  refine hD hS nT ?_;cases args with
  |nil=>exact cast (@aCU ..).symm ⟨⟨s,.mk k n nm l,c,s2,ls⟩,⟨rfl,rfl,aZ,hi,hr⟩,nil⟩
  |cons a tl=>exact cast (@aC0 ..).symm ⟨⟨s,.mk k n nm l,c,s2,ls⟩,⟨rfl,rfl,aZ,hi,hr⟩,nil⟩
 |2,_=>
  refine hD hS nT ?_;cases args with
  |nil=>exact cast (@aCV ..).symm ⟨⟨s,.mk k n nm l,c,s2,ls⟩,⟨rfl,rfl,aZ,hi,hr⟩,nil⟩
  |cons a tl=>exact cast (@aC1 ..).symm ⟨⟨s,.mk k n nm l,c,s2,ls⟩,⟨rfl,rfl,aZ,hi,hr⟩,nil⟩
 |3,_=>
  refine hD hS nT ?_;cases args with
  |nil=>exact cast (@aCW ..).symm ⟨⟨s,.mk k n nm l,c,s2,ls⟩,⟨rfl,rfl,aZ,hi,hr⟩,nil⟩
  |cons a tl=>exact cast (@aC2 ..).symm ⟨⟨s,.mk k n nm l,c,s2,ls⟩,⟨rfl,rfl,aZ,hi,hr⟩,nil⟩
def zA(args:eH)(x:Int)(gs:gi):bG:=⟨pdS args.length x,args,gs⟩
theorem YN:∀a b:List bG,du (a++b)=du a++du b
 |[],b=>rfl
 |f::a,b=>by simp only[oC,du,YN a b,km]
theorem HY:∀l,(du l).length=l.length*5
 |[]=>rfl
 |f::l=>by simp[du,gP,HY l];omega
theorem ahj(l):(du l).all AV.cY=true/\(du l).all eR=true:=by
 induction l with
 |nil=>exact⟨rfl,rfl⟩
 |cons g l ih=>simp only[du,sY,ih.1,ih.2,Bt];exact⟨rfl,rfl⟩
theorem asQ(l):(aH l).all AV.cY=true/\(aH l).all eR=true:=by
 induction l with
 |nil=>exact⟨rfl,rfl⟩
 |cons g l ih=>have⟨k,n,s,m⟩:=g;simp only[aH,sY,ih.1,ih.2,Bt];exact⟨rfl,rfl⟩
theorem ahe{ls:List gi}{i}(h:i<ls.length):((ls.map nI).drop (i*1)).take 1=[.ah (bD ls[i]) ls[i].length 6]:=by rw[mu,<-List.map_drop,fV h];rfl
abbrev ade(x0:_)(x1:_)(x2:_):=bg [(0,.aa 0 0),(8,.aa 2 0),(9,a9 x0),(10,.aa 3 0),(11,J x1),(12,.aj 4 x2 5)]
theorem ayW{N}(hS:aS Z (T5 N)){v H1 s dq x}{ls:List gi}{args}(hl:ls.length<10)(ha:args.length<=4000000)(h:bu Z 115 75 2 v H1 (ade args dq ls.length) (h9 s args.length x (du (ls.map (zA args x)))) (cM Z nT 115 0)):
 ∀i,i<=ls.length->bu Z 115 75 2 v H1 (t9 dq (a9 args) (ls.map nI) ls.length i (i:Int)) (h9 s args.length x (du ((ls.take i).map (zA args x)))) (ax Z 115 0):=by
 refine dF (λi=>ls.length-i) _ _ _ _ ?_;rintro i hi ih;refine hD hS nT ?_;have bS:(du ((ls.take i).map (zA args x))).length=i*5:=by rw[HY,qo,wJ];omega
 have A0:ls.length<=i->bu Z 115 75 2 v H1 (ade args dq i) (h9 s args.length x (du ((ls.take i).map (zA args x)))) (cM Z nT 115 0):=by
  intro bq;obtain rfl:i=ls.length:=by omega
  rw[s6];exact h
 have hw:wI ((i:Int)+1)=((i+1:Nat):Int):=cH;have gK:∀ay:i<ls.length,du ((ls.take (i+1)).map (zA args x))=du ((ls.take i).map (zA args x))++gP (zA args x ls[i]):=by intro ay;rw[ado _ _ ay,YN];simp[du]
 cases args with
 |nil=>
  refine cast (@aCX s dq x i (ls.map nI) ls.length (du ((ls.take i).map (zA [] x))) i N _ _).symm ?_;refine aD (λay=>?_) λbq=>A0 (by simpa using bq)
  have ay:i<ls.length:=by simpa using ay
  refine⟨i,rfl,ay,bD ls[i],ls[i].length,ahe ay,rfl,rfl,⟨bS,by omega,rfl,rfl⟩,?_⟩;rw[hw];have:=ih (i+1) (by omega) (by omega);rw[gK ay]at this;refine zi (g:=4) this rfl (λφ e o h=>apA ?_ ?_ h) rfl
  .exact iX.rz (iX.mF _) (.fT (.fT (.fT (.qm 4 (.mF _)))))
  .simp;exact⟨rfl,rfl⟩
 |cons a tl=>
  refine cast (@aCY s dq x i (aH (a::tl)) (a::tl).length (ls.map nI) ls.length (du ((ls.take i).map (zA (a::tl) x))) i N _ _).symm ?_;refine aD (λay=>?_) λbq=>A0 (by simpa using bq)
  have ay:i<ls.length:=by simpa using ay
  refine⟨i,rfl,ay,bD ls[i],ls[i].length,ahe ay,⟨rfl,by simp,ha,rH _,asQ _⟩,rfl,⟨bS,by omega,rfl,rfl⟩,?_⟩;rw[hw];have:=ih (i+1) (by omega) (by omega);rw[gK ay]at this;exact this
theorem ahs{fl}(h:fl≠[]):y4 fl=.ah (du fl) fl.length 5:=by
 cases fl with
 |nil=>exact absurd rfl h
 |cons f l=>rfl
theorem asB{l i fl}(h:i<l.length):gE (iU l) (i*1) [y4 fl]=iU (l.set i fl):=by rw[gE,mu,iU,iU,List.set_eq_take_append_cons_drop,aL h,qp,List.map_take,gZ,List.map_drop];rfl
theorem YJ(l):(iU l).length=l.length:=by simp[iU]
theorem ayV{N}(hS:aS Z (T5 N)){s}{dq:Nat}{x args fl}(cK:fl≠[])(sI:dq<s.ao.length)(ha:args.length<4000000)(aZ:fK args):
 bu Z 115 75 2 (.ai (vP (pY (pdS args.length x) args))) (nL (s.put dq fl)) (ade args (dq:Int) fl.length) (h9 s args.length x (du fl)) (cM Z nT 115 0):=by
 have e:fX 4 (du fl) (.aj 4 fl.length 5)=.ah (du fl) fl.length 5:=by simp[fX,HY]
 have e2:nL (s.put dq fl)=aq [(0,dO s 2),(1,.bm []),(2,.aA (gE (iU s.ao) (dq*1) [.ah (du fl) fl.length 5]) 84)] 3:=by rw[<-ahs cK,asB sI];simp[nL,dO,d_,da.put]
 rw[e2];refine FF (g:=4) ?_ rfl;simp only[Cr];rw[e];refine hD hS (λ_=>[]) ?_;cases args with
 |nil=>exact cast (@aCQ s dq x (du fl) fl.length N _ _).symm ⟨dq,rfl,sI,by rw[YJ];omega,rfl,rfl,rfl⟩
 |cons a tl=>exact cast (@aCR s dq x (aH (a::tl)) (a::tl).length (du fl) fl.length N _ _).symm ⟨dq,rfl,sI,by rw[YJ];omega,a::tl,⟨rfl,rfl,aZ,ha⟩,rfl,rfl⟩
theorem acD{v H1}{s:da}{et nm kY k n c dq x f len cs args}(cK:args≠[])(h:bu Z 115 75 2 v H1 (t8 c dq (a9 args)) (h8 s.kq et kY f k n nm cs len args.length x) (cM Z qj 115 0)):
 bu Z 115 75 2 v H1 (bg [(0,.aa 0 0),(3,J c),(5,.aa 2 0),(6,.aa 3 0),(8,.aa 4 0),(9,.aj 5 args.length 4),(10,.aa 6 0),(11,J dq),(12,.aM)])
  (aq [(0,.al [J s.nv,J s.na,.au s.tr,.aj 7 (s.ao.length+1) 1] 120),(1,.bm []),(2,HO et kY f),(3,dH k n nm cs len),(4,tF),(5,.aA (aH args) 49),(6,pB (aP args.length) x),(7,.aA (iU s.ao++[.aM]) 84)] 8) (cM Z qj 115 0):=by
 have e0:dO s.kq 6=.al [J s.nv,J s.na,.au s.tr,.aj 6 (s.ao.length+1) 1] 120:=by simp[dO,da.kq]
 have e1:d_ s.kq=.aA (iU s.ao++[.aM]) 84:=by simp[d_,da.kq,iU,y4]
 have e:fX 5 (aH args) (.aj 5 args.length 4)=.ah (aH args) args.length 4:=by simp[fX,rH]
 rw[h8,e0,e1]at h;refine FF (g:=5) ?_ rfl;simp only[Cr];rw[e];cases args with
 |nil=>exact absurd rfl cK
 |cons a tl=>exact AZ (mw:=[2,3,4,6]) (ls:=[0,3,5,6,8,9,10,11,12]) (ps:=[(0,0),(1,1),(2,2),(3,3),(4,4),(6,5),(7,6)]) h
theorem alM:∀{a b},fK a->fK b->fK (a++b)
 |[],b,_,h=>h
 |t::a,b,h,h2=>⟨h.1,alM h.2 h2⟩
theorem JE(n):bB (mA n):=⟨by simp[dk],by simp[dk],trivial⟩
theorem abL:∀l:LI,fK (l.map mA)
 |[]=>trivial
 |n::l=>⟨JE n,abL l⟩
theorem abK(g c):fK (l_ g c):=alM (abL _) (by split;exact⟨JE c,trivial⟩;exact trivial)
theorem afP(g c):(l_ g c).length<=2001:=by have:=BH g;simp only[l_,jV,cL,qo];split<;>simp<;>omega
theorem aqR{G k s g c}:(gk G k s g c).2.length<10:=by
 match k with
 |0=>simp only[gk];split<;>simp
 |1=>simp[gk]
 |2=>simp[gk]
 |k+3=>simp[gk]
theorem ayU{N}(hS:aS Z (T5 N)):∀w A H,(Of N).bh w A H->bX Z 115 A H ((Of N).v w) ((Of N).aK w):=by
 rintro⟨kk,s,g,c,s2,q⟩ A H ⟨rfl,rfl,aZ,mg,hk,he⟩;simp only at aZ mg hk he;simp only[lE]at he;have hp:s.px.kq.ao.length=s.ao.length+1:=by simp[da.px,da.kq]
 have hb:=Qe (s:=s.px.kq) (c:=c) (qU N) hk aZ.2.1 mg;have ht:=aqR (G:=ej N) (k:=kk) (s:=s.px.kq) (g:=g) (c:=c);generalize hr:gk (ej N) kk s.px.kq g c=r at he hb ht;have⟨s3,ls⟩:=r;cases he;simp at hb ht;have IM:=afP g c;have rS:∀args,l_ g c=args->bu Z 115 75 2 (.ai (vP (pY (Gg s g c) (l_ g c)))) (nL (s3.put s.ao.length (ls.map λgs=>⟨Gg s g c,l_ g c,gs⟩))) (t8 c (s.ao.length:Int) (a9 args)) (h8 s.px.kq (jF kk) (l9 kk) (AO kk) g.cy g.n g.cO (aH g.bo) g.bo.length args.length (bY s.na)) (cM Z qj 115 0):=by rintro args rfl;refine ayT hS hk ⟨aZ.1,aZ.2.1,aZ.2.2.1,by rw[hp];have:=aZ.2.2.2.1;omega,aZ.2.2.2.2⟩ mg hr ?_;have h0:=ayV (x:=bY s.na) (fl:=ls.map (zA (l_ g c) (bY s.na))) hS (by intro hn;exact hb.2.2.1 (List.map_eq_nil_iff.1 hn)) (by omega:s.ao.length<s3.ao.length) (by omega) (abK g c);rw[qo]at h0;exact ayW hS ht (by omega) h0 0 (fu _)
 have hvl:=BH g;have zq:(iU s.px.ao).length=s.px.ao.length*1:=by rw[YJ,mu]
 have C_:s.px.ao.length+1<=4194304:=by have:=aZ.2.2.2.1;show s.ao.length+1<=_;omega
 have hvo:(aH (jV g)).length=(dh g).length*4:=by rw[rH,jV,qo]
 have⟨k,n,nm,l⟩:=g;refine eS hS qj 75 ?_;rw[aU,aCS];cases hv:(dh (.mk k n nm l)).isEmpty
 .refine⟨true,aD (λ_=>⟨.mk k n nm l,⟨rfl,rfl,aZ.1,hv⟩,.mk k n nm l,⟨rfl,rfl,aZ.1⟩,aD (λhc=>?_) λhc=>?_⟩) λh=>by cases h⟩
  .have ha:l_ (.mk k n nm l) c=jV (.mk k n nm l)++[mA c]:=by rw[l_,aL hc]
   have h:=acD (by simp) (rS _ ha);rw[show(jV (.mk k n nm l)++[mA c]).length=(dh (.mk k n nm l)).length+1 by simp[jV],Ce]at h;exact⟨⟨rfl,trivial⟩,⟨hvo,by omega,rfl,rfl⟩,s,⟨rfl,rfl⟩,⟨zq,C_,rfl,rfl⟩,h⟩
  .have ha:l_ (.mk k n nm l) c=jV (.mk k n nm l):=by rw[l_,az (by rw[hc];decide),jH]
   have h:=acD (by intro hn;rw[List.map_eq_nil_iff.1 hn]at hv;cases hv) (rS _ ha);rw[show(jV (.mk k n nm l)).length=(dh (.mk k n nm l)).length by simp[jV]]at h;exact⟨s,⟨rfl,rfl⟩,⟨zq,C_,rfl,rfl⟩,h⟩
 .have hvn:jV (.mk k n nm l)=[]:=by rw[jV,List.isEmpty_iff.1 hv];rfl
  refine⟨false,aD (λh=>(by cases h)) λ_=>⟨.mk k n nm l,⟨rfl,rfl,aZ.1,hv⟩,.mk k n nm l,⟨rfl,rfl,aZ.1⟩,aD (λhc=>?_) λhc=>?_⟩⟩
  .have ha:l_ (.mk k n nm l) c=[mA c]:=by rw[l_,aL hc,hvn];rfl
   have h:=acD (by simp) (rS _ ha);refine⟨⟨rfl,trivial⟩,s,⟨rfl,rfl⟩,⟨zq,C_,rfl,rfl⟩,?_⟩;exact zi (g:=5) h rfl (λφ e o h=>sB rfl h) rfl
  .have ha:l_ (.mk k n nm l) c=[]:=by rw[l_,az (by rw[hc];decide),hvn];rfl
   have h:=rS _ ha;have e0:dO s.px.kq 6=.al [J s.px.nv,J s.px.na,.au s.px.tr,.aj 6 (s.px.ao.length+1) 1] 120:=by simp[dO,da.kq]
   have e1:d_ s.px.kq=.aA (iU s.px.ao++[.aM]) 84:=by simp[d_,da.kq,iU,y4]
   rw[h8,e0,e1]at h;exact⟨s,⟨rfl,rfl⟩,⟨zq,C_,rfl,rfl⟩,h⟩
theorem apT{N}(hS:aS Z (T0 N)):aS Z (T6 N):=cu (afp hS) (ayU (afp hS))
theorem aio{f A s0 s gs n}(h:bX Z f A (cp s0) (.aj 2 n 6) (aq [(0,dO s 1),(1,d_ s),(2,kj gs)] 3)):bX Z f A (cp s0) (.aj 2 n 6) (zh s gs):=
 E_ (g:=1) h (qk (l':=[(0,dO s 3),(1,.bm []),(2,kj gs)]) (by kernel_rfl) rfl rfl) (by kernel_rfl) (by show(2:Nat)<=3;omega)
theorem atS{f A s0 s}(h:bX Z f A (cp s0) .aM (cp s)):bX Z f A (cp s0) (.aj 2 0 6) (zh s []):=
 aio (QO h rfl (by show(2:Nat)<=2;omega))
theorem Zl{f A s0 s n cs gs}(hn:n=gs.length)(hc:cs=bD gs)(h:bX Z f A (cp s0) (.bw 2 0 n n 6 true) (aq [(0,dO s 1),(1,d_ s),(2,.al cs 146)] 3)):bX Z f A (cp s0) (.aj 2 gs.length 6) (zh s gs):=by subst hn hc;exact aio (Ia (g:=2) h rfl (λφ e o h=>sB (AG gs).2 h) rfl (by show(2:Nat)<=3;omega))
theorem atU{f A s0 s n cs gs}(hn:n=gs.length)(hc:cs=bD gs)(h:bX Z f A (cp s0) (.bw 2 0 n n 6 true) (aq [(0,dO s 3),(1,.bm []),(2,.al cs 146),(3,d_ s)] 4)):bX Z f A (cp s0) (.aj 2 gs.length 6) (zh s gs):=by subst hn hc;exact Ia (g:=2) h rfl (λφ e o h=>sB (AG gs).2 h) rfl (by show(2:Nat)<=4;omega)
abbrev GA(c i:Int):Ev.Tr AV:=bg [(0,.aa 0 0),(2,J c),(4,.aa 2 0),(47,agy),(48,J i)]
abbrev tG(s:da)(g:aF):AH:=aq [(0,dO s 1),(1,d_ s),(2,dH g.cy g.n g.cO (aH g.bo) g.bo.length)] 3
theorem y_{N}(hS:aS Z (T6 N)){v H1 s g c i}(hi:i<4)(mh:dM g (jF i) (l9 i)=false)(h:bu Z 82 104 2 v H1 (GA c ((i+1:Nat):Int)) (tG s g) (ax Z 82 0)):bu Z 82 104 2 v H1 (GA c (i:Int)) (tG s g) (ax Z 82 0):=by
 refine hD hS zx ?_;refine cast (@acW s g.cy g.n g.cO (aH g.bo) g.bo.length c i N _ _).symm (aD (λ_=>⟨⟨by omega,by omega⟩,?_⟩) λh=>ab (eB h));have hw:wI ((i:Int)+1)=((i+1:Nat):Int):=cH;rw[hw];match i,hi with
 |0,_=>exact⟨λ_=>⟨⟨rfl,trivial⟩,aD (λhh=>ab (hh.symm.trans mh)) λ_=>h⟩,λe=>ab e,λe=>ab e,λe=>ab e,trivial⟩
 |1,_=>exact⟨λe=>ab e,λ_=>⟨⟨rfl,trivial⟩,aD (λhh=>ab (hh.symm.trans mh)) λ_=>h⟩,λe=>ab e,λe=>ab e,trivial⟩
 |2,_=>exact⟨λe=>ab e,λe=>ab e,λ_=>⟨⟨rfl,trivial⟩,aD (λhh=>ab (hh.symm.trans mh)) λ_=>h⟩,λe=>ab e,trivial⟩
 |3,_=>exact⟨λe=>ab e,λe=>ab e,λe=>ab e,λ_=>⟨⟨rfl,trivial⟩,aD (λhh=>ab (hh.symm.trans mh)) λ_=>h⟩,trivial⟩
theorem at4{N}(hS:aS Z (T6 N)){s s2 g c q i}(hi:i<4)(aZ:eL (N+4) 3000000 s g)(mg:dM g (jF i) (l9 i)=true)(hr:lE (ej N) i s g c=(s2,q)):
 bu Z 82 104 2 (.bw 2 0 1 1 6 true) (aq [(0,dO s2 3),(1,.bm []),(2,.al (bD [q]) 146),(3,d_ s2)] 4) (GA c (i:Int)) (tG s g) (ax Z 82 0):=by
 refine hD hS zx ?_;refine cast (@acW s g.cy g.n g.cO (aH g.bo) g.bo.length c i N _ _).symm (aD (λ_=>⟨⟨by omega,by omega⟩,?_⟩) λh=>ab (eB h));have⟨k,n,nm,l⟩:=g;match i,hi with
 |0,_=>exact⟨λ_=>⟨⟨rfl,trivial⟩,aD (λhh=>⟨⟨0,s,.mk k n nm l,c,s2,q⟩,⟨rfl,rfl,aZ,mg,(by decide:0<4),hr⟩,rfl,rfl⟩) λhh=>ab (hh.symm.trans mg)⟩,λe=>ab e,λe=>ab e,λe=>ab e,trivial⟩
 |1,_=>exact⟨λe=>ab e,λ_=>⟨⟨rfl,trivial⟩,aD (λhh=>⟨⟨1,s,.mk k n nm l,c,s2,q⟩,⟨rfl,rfl,aZ,mg,(by decide:1<4),hr⟩,rfl,rfl⟩) λhh=>ab (hh.symm.trans mg)⟩,λe=>ab e,λe=>ab e,trivial⟩
 |2,_=>exact⟨λe=>ab e,λe=>ab e,λ_=>⟨⟨rfl,trivial⟩,aD (λhh=>⟨⟨2,s,.mk k n nm l,c,s2,q⟩,⟨rfl,rfl,aZ,mg,(by decide:2<4),hr⟩,rfl,rfl⟩) λhh=>ab (hh.symm.trans mg)⟩,λe=>ab e,trivial⟩
 |3,_=>exact⟨λe=>ab e,λe=>ab e,λe=>ab e,λ_=>⟨⟨rfl,trivial⟩,aD (λhh=>⟨⟨3,s,.mk k n nm l,c,s2,q⟩,⟨rfl,rfl,aZ,mg,(by decide:3<4),hr⟩,rfl,rfl⟩) λhh=>ab (hh.symm.trans mg)⟩,trivial⟩
theorem at2{N}(hS:aS Z (T6 N)){v H1 s g c}(h:bu Z 82 104 2 v H1 (bg [(0,.aa 0 0),(4,.aa 2 0)]) (tG s g) (cM Z zx 82 0)):bu Z 82 104 2 v H1 (GA c 4) (tG s g) (ax Z 82 0):=by refine hD hS zx ?_;exact cast (@acW s g.cy g.n g.cO (aH g.bo) g.bo.length c 4 N _ _).symm (aD (λh=>ab (dX h)) λ_=>h)
theorem Zo{N}(hS:aS Z (T6 N)){v H1 s g c}(h1:¬dM g [116,114,117,101] 0=true)(h2:¬dM g [102,97,105,108] 0=true)(h3:¬dM g [33] 0=true)(ha:dM g [44] 2=true->bu Z 82 104 2 v H1 (bg [(0,.aa 0 0),(2,J c),(4,.aa 2 0)]) (tG s g) (cM Z x9 82 0))(hb:dM g [44] 2=false->bu Z 82 104 2 v H1 (GA c 0) (tG s g) (ax Z 82 0)):bX Z 82 [.aa 0 0,.ai (aU g),J c] (cp s) v H1:=by have⟨k,n,nm,l⟩:=g;refine eT hS 3000 x9 104 ?_;rw[aU,T'];refine⟨⟨rfl,trivial⟩,aD (λh=>absurd h h1) λ_=>⟨⟨rfl,trivial⟩,aD (λh=>absurd h h2) λ_=>⟨⟨rfl,trivial⟩,aD (λh=>absurd h h3) λ_=>⟨⟨rfl,trivial⟩,aD (λh=>ha h) λh=>?_⟩⟩⟩⟩;refine hD hS zx ?_;exact cast (@aEF s k n nm (aH l) l.length c N _ _).symm ⟨⟨rfl,trivial⟩,hb h⟩
theorem at1{N}(hS:aS Z (T6 N)){s s2 s3 k n c x y l1 l2}(hx:eL N 3000000 s x)(qi:ej N s x c=(s2,l1))(hy:eL N 3000000 s2 y)(ow:ej N s2 y c=(s3,l2))(hl:l1.length+l2.length<=4000000):
 bu Z 82 104 2 (.aj 2 (l1++l2).length 6) (zh s3 (l1++l2)) (bg [(0,.aa 0 0),(2,J c),(4,.aa 2 0)]) (tG s (.mk k n [44] [x,y])) (cM Z x9 82 0):=by
 refine hE hS (@aEC s k n [44] (aH [x,y]) 2 c N _ _) ?_;have⟨k1,n1,m1,q1⟩:=x;have⟨k2,n2,m2,q2⟩:=y;refine⟨by decide,k1,n1,m1,aH q1,q1.length,AK _ _,⟨s,.mk k1 n1 m1 q1,c,s2,l1⟩,⟨rfl,rfl,hx,qi⟩,by decide,k2,n2,m2,aH q2,q2.length,xu _ _,⟨s2,.mk k2 n2 m2 q2,c,s3,l2⟩,⟨rfl,rfl,hy,ow⟩,rF _,λh0=>?_,λh1=>?_⟩
 .have:=mo h0;subst this;refine⟨by show l1.length<=4194304;omega,?_⟩;rw[jH];exact⟨rfl,rfl⟩
 .refine⟨⟨rF _,by show l1.length+l2.length<=4194304;omega,AG _⟩,Zk ?_ ?_⟩
  .simp
  .exact(yZ _ _).symm
theorem asA(a b):im a++im b=aH [a,b]:=by rw[yV,yV,aH,aH,aH,jH]
theorem at3{N}(hS:aS Z (T6 N)){s s2 g gl}(aZ:bB g)(hl:g.bo.length<4000000)(hr:wE s g=(s2,gl)):
 bu Z 82 104 2 (.bw 2 0 gl.length gl.length 6 true) (aq [(0,dO s2 1),(1,d_ s2),(2,.al (bD gl) 146)] 3) (bg [(0,.aa 0 0),(4,.aa 2 0)]) (tG s g) (cM Z zx 82 0):=by
 refine hT hS 3000 SR ?_;have⟨k,n,nm,l⟩:=g;refine cast (@aED s k n nm (aH l) l.length N _ _).symm ?_;refine⟨l,⟨rfl,rfl,aZ.2.2,hl⟩,aD (λht=>?_) λht=>⟨⟨rfl,trivial⟩,aD (λhb=>?_) λhb=>?_⟩⟩
 .have he:wE s (.mk k n nm l)=(s,[pY ⟨nm,(l.length:Int),0⟩ l]):=by rw[wE,aL (by rw[ht];rfl)];rfl
  rw[he]at hr;cases hr;exact⟨rfl,rfl⟩
 .have he:wE s (.mk k n nm l)=(s,[pY ⟨nm,(l.length:Int),0⟩ l]):=by rw[wE,aL (by rw[TG];exact .inr hb)];rfl
  rw[he]at hr;cases hr;exact⟨rfl,rfl⟩
 .have he:wE s (.mk k n nm l)=(s.nx,[pY ⟨[],2,1099511627776⟩ [mA (bY s.nv),.mk k n nm l],pY ⟨nm,(l.length:Int),0⟩ l,pY ⟨[],2,1099511627775⟩ [mA (bY s.nv),.mk k n nm l]]):=by rw[wE,az (by rw[TG];intro h;rcases h with h|h;exact ab (h.symm.trans ht);exact ab (h.symm.trans hb))];rfl
  rw[he]at hr;cases hr;refine⟨s,⟨rfl,rfl⟩,⟨rfl,trivial⟩,?_⟩;refine hE hS aEE ?_;refine⟨(mA (bY s.nv),.mk k n nm l),⟨rfl,rfl,JE _,aZ⟩,rfl,rfl,rfl,rfl,(mA (bY s.nv),.mk k n nm l),⟨rfl,rfl,JE _,aZ⟩,rfl,?_⟩;simp only[asA];exact⟨rfl,rfl⟩
theorem at6{N}(hS:aS Z (T6 N)):∀w A H,(L7 (N+1)).bh w A H->bX Z 82 A H ((L7 (N+1)).v w) ((L7 (N+1)).aK w):=by
 rintro⟨s,g,c,s2,gl⟩ A H ⟨rfl,rfl,aZ,he⟩;simp only at aZ he;replace he:BA (ej N) s g c=(s2,gl):=he;unfold BA at he;have hN:=aZ.2.1;have hM:=aZ.2.2.1;have hA:=aZ.2.2.2.1;have hG:=aZ.2.2.2.2;have avg:eL (N+4) 3000000 s g:=⟨aZ.1,by omega,hM,hA,hG⟩;by_cases h1:dM g [116,114,117,101] 0=true
 .rw[aL h1]at he;cases he;refine atS ?_;have⟨k,n,nm,l⟩:=g;refine eT hS 3000 x9 104 ?_;rw[aU,T'];exact⟨⟨rfl,trivial⟩,aD (λ_=>⟨rfl,rfl⟩) λh=>ab (h.symm.trans h1)⟩
 rw[az h1]at he;by_cases h2:dM g [102,97,105,108] 0=true
 .rw[aL h2]at he;cases he;refine Zl rfl rfl ?_;have⟨k,n,nm,l⟩:=g;refine eT hS 3000 x9 104 ?_;rw[aU,T'];exact⟨⟨rfl,trivial⟩,aD (λh=>absurd h h1) λ_=>⟨⟨rfl,trivial⟩,aD (λ_=>⟨⟨rfl,trivial⟩,rfl,rfl⟩) λh=>ab (h.symm.trans h2)⟩⟩
 rw[az h2]at he;by_cases h3:dM g [33] 0=true
 .rw[aL h3]at he;cases he;refine Zl rfl rfl ?_;have⟨k,n,nm,l⟩:=g;refine eT hS 3000 x9 104 ?_;rw[aU,T'];exact⟨⟨rfl,trivial⟩,aD (λh=>absurd h h1) λ_=>⟨⟨rfl,trivial⟩,aD (λh=>absurd h h2) λ_=>⟨⟨rfl,trivial⟩,aD (λ_=>⟨⟨rfl,trivial⟩,rfl,rfl⟩) λh=>ab (h.symm.trans h3)⟩⟩⟩
 rw[az h3]at he;by_cases h4:dM g [44] 2=true
 .rw[aL h4]at he;obtain⟨k,n,x,y,rfl,RX,iV⟩:=rO (.inl rfl) h4;simp only[jk,aF.bo,mY,r_]at he;have b1:=qU N s x c (by omega);generalize qi:ej N s x c=r1 at he b1;have⟨s3,l1⟩:=r1;have b2:=qU N s3 y c (by omega);generalize ow:ej N s3 y c=r2 at he b2;have⟨s4,l2⟩:=r2;cases he;simp only at b1 b2;have MP:eL N 3000000 s x:=xB aZ aZ.1.2.2.1 (by omega) (by omega) (by omega) (iV hG).1;have MQ:eL N 3000000 s3 y:=xB aZ aZ.1.2.2.2.1 (by omega) (by omega) (by omega) (iV hG).2;have fy:l1.length+l2.length<=4000000:=by omega
  exact Zo hS h1 h2 h3 (λ_=>at1 hS MP qi MQ ow fy) (λh=>ab (h4.symm.trans h))
 rw[az h4]at he;have no4:∀{A:Prop},dM g [44] 2=true->A:=λh=>absurd h h4
 have tk:∀{kk:Nat},kk<4->dM g (jF kk) (l9 kk)=true->rh (lE (ej N) kk s g c)=(s2,gl)->(∀{v:AV} {H1:AH},bu Z 82 104 2 v H1 (GA c (kk:Int)) (tG s g) (ax Z 82 0)->bu Z 82 104 2 v H1 (GA c 0) (tG s g) (ax Z 82 0))->bX Z 82 [.aa 0 0,.ai (aU g),J c] (cp s) (.aj 2 gl.length 6) (zh s2 gl):=by intro kk hk hi hr hs;generalize hq:lE (ej N) kk s g c=q at hr;have⟨s3,q⟩:=q;cases hr;exact atU rfl rfl (Zo hS h1 h2 h3 no4 λ_=>hs (at4 hS hk avg hi hq))
 by_cases h5:dM g [59] 2=true
 .rw[aL h5]at he;exact tk (kk:=0) (by decide) h5 he λh=>h
 rw[az h5]at he;have CB:=rj.2 h5;by_cases h6:dM g [45,62] 2=true
 .rw[aL h6]at he;exact tk (kk:=1) (by decide) h6 he λh=>y_ hS (by decide) CB h
 rw[az h6]at he;have Zz:=rj.2 h6;by_cases h7:dM g [92,43] 1=true
 .rw[aL h7]at he;exact tk (kk:=2) (by decide) h7 he λh=>y_ hS (by decide) CB (y_ hS (by decide) Zz h)
 rw[az h7]at he;have h7':=rj.2 h7;by_cases h8:dM g [111,110,99,101] 1=true
 .rw[aL h8]at he;exact tk (kk:=3) (by decide) h8 he λh=>y_ hS (by decide) CB (y_ hS (by decide) Zz (y_ hS (by decide) h7' h))
 rw[az h8]at he;have h8':=rj.2 h8;refine Zl rfl rfl (Zo hS h1 h2 h3 no4 λ_=>y_ hS (by decide) CB (y_ hS (by decide) Zz (y_ hS (by decide) h7' (y_ hS (by decide) h8' (at2 hS (at3 hS aZ.1 ?_ he))))));have⟨k,n,nm,l⟩:=g;show l.length<4000000;match l,hG with
 |[],_=>simp
 |[_],_=>simp
 |[_,_],_=>simp
 |_::_::_::_,h=>exact h
theorem apR:∀N,aS Z (T0 N):=yl aps (λw A H h=>by have:=h.2.2.1.2.1;omega) (λN hS w A H h=>at6 (apT hS) w A H h)
theorem alk:∃n,n=1000000:=⟨_,rfl⟩
def NN:Nat:=alk.choose
theorem PF:NN=1000000:=alk.choose_spec
def Hg:Ev.bp:=T0 NN
def aaF(x n:Int):Int:=if wI (n+1)>x then wI (n+1)else x
def jL(x:Int)(l:LI):Int:=l.foldl aaF x
abbrev qd(x0:_):=aq [(0,.al x0 49)] 1
def afX:cq (aF×aF)where
 bh w A H:=A=[.bw 0 0 2 2 4 true]/\H=qd (aU w.1++aU w.2)/\bB w.1/\bB w.2
 v w:=J (jL (jL 0 (dh w.1)) (dh w.2))
 aK w:=qd (im w.1++im w.2)
theorem ap9:afX.ck:=by rintro⟨a,b⟩ ⟨a',b'⟩ A H ⟨_,h1,_⟩ ⟨_,h2,_⟩;rw[h1]at h2;have:=congrArg (λH=>AH.bc H 0) h2;simp only[ey,cR,if_true,nX,bf.al.injEq,and_true]at this;rw[EO (c:=(a,b)) (c':=(a',b')) this]
def Wy:Ev.bp:=bR 49 (bW afX ap9 cB) Hg
def aiw:LV->AH->Option Sp
 |[.aM,.bV .i64 n],H=>some (.yU ((H=an/\0<=n/\n<=4000000),.aj 0 0 5,aq [(0,.aA [] 106)] 1))
 |_,_=>none
def KO:Ev.bp:=bR 118 aiw Wy
def tq(l:List (List bG)):bf:=.aA (iU l) 84
def flR(l:List bG):bf:=.aA (du l) 106
abbrev Fv(x0:_)(x1:_):=aq [(0,tq x0),(1,flR x1)] 2
def agE:cq (List (List bG))where
 bh l A H:=A=[.aj 0 l.length 1]/\H=aq [(0,tq l)] 1/\(∀x∈l,x≠[])/\l.flatten.length<=4000000/\l.length<=4000000
 v l:=.aj 1 l.flatten.length 5
 aK l:=Fv l l.flatten
theorem arG:agE.ck:=by rintro l l' A H ⟨_,h1,_⟩ ⟨_,h2,_⟩;rw[h1]at h2;have:=congrArg (λH=>AH.bc H 0) h2;simp only[ey,cR,if_true,nX,tq,bf.aA.injEq,and_true]at this;rw[YI this]
def EA:Ev.bp:=bR 83 (bW agE arG cB) KO
def Jn:Nat->LN:=fh [(999995,[2000004,2000006]),(999998,[0,4,5,8])]
def Jo:Nat->LN:=fh [(999995,[2000006]),(999998,[0,4])]
def Nm:Nat->LN:=fh [(999995,[2000007]),(999998,[9])]
def akP:Nat->LN:=fh [(8,[9,45,46,47])]
def abi:Nat->LN:=fh [(3,[0,3,9,10,11]),(11,[6,25,26,27])]
def F8:Nat->LN:=fh [(3,[1000000]),(6,[3,8,9,10,15,16,17])]
abbrev zX(x0:_)(x1:_)(x2:_)(x3:_)(x4:_)(x5:_):=bg [(3,J x0),(8,.bw 0 0 2 2 4 x1),(9,J 2),(10,J x2),(15,.ah (aX x3) x4 1),(16,J (aP x4)),(17,J x5)]
theorem aD0{k n s cs len k' n' s' cs' cG L Q}:
 bC Z Hg F8 L Q 1000 49 [.bw 0 0 2 2 4 true] (qd [J k,J n,.ad s,.ah cs len 4,J k',J n',.ad s',.ah cs' cG 4])=(
 ∃w,(([.ai [J k,J n,.ad s,.ah cs len 4]]:LV)=[.ai (aU w)]/\aq [] 0=an/\bB w)/\L (zX 0 true 0 (dh w) (dh w).length 0) (qd [J k,J n,.ad s,.ah cs len 4,J k',J n',.ad s',.ah cs' cG 4]) (ax Z 49 1)):=by kernel_rfl
theorem aD1{x l i k n s cs len k' n' s' cs' cG L Q}:
 cg Z Hg F8 L Q 1000 49 1 (zX x true 0 l l.length i) (ax Z 49 1) (qd [J k,J n,.ad s,.ah cs len 4,J k',J n',.ad s',.ah cs' cG 4])=(
 aw (decide (i<aP l.length)) (∃aJ:Nat,i=(aJ:Int)/\aJ<l.length/\(∃aN,(((aX l).drop (aJ*1)).take 1:List AV)=[J aN]/\L (zX (if wI (aN+1)>x then wI (aN+1)else x) true 0 l l.length (wI (i+1))) (qd [J k,J n,.ad s,.ah cs len 4,J k',J n',.ad s',.ah cs' cG 4]) (ax Z 49 1))) (∃w,(([.ai [J k',J n',.ad s',.ah cs' cG 4]]:LV)=[.ai (aU w)]/\aq [] 0=an/\bB w)/\L (zX x true 1 (dh w) (dh w).length 0) (qd [J k,J n,.ad s,.ah cs len 4,J k',J n',.ad s',.ah cs' cG 4]) (ax Z 49 1))):=by kernel_rfl
theorem aD2{x l i k n s cs len k' n' s' cs' cG L Q}:
 cg Z Hg F8 L Q 1000 49 1 (zX x true 1 l l.length i) (ax Z 49 1) (qd [J k,J n,.ad s,.ah cs len 4,J k',J n',.ad s',.ah cs' cG 4])=(
 aw (decide (i<aP l.length)) (∃aJ:Nat,i=(aJ:Int)/\aJ<l.length/\(∃aN,(((aX l).drop (aJ*1)).take 1:List AV)=[J aN]/\L (zX (if wI (aN+1)>x then wI (aN+1)else x) true 1 l l.length (wI (i+1))) (qd [J k,J n,.ad s,.ah cs len 4,J k',J n',.ad s',.ah cs' cG 4]) (ax Z 49 1))) (Q (J x) (qd [J k,J n,.ad s,.ah cs len 4,J k',J n',.ad s',.ah cs' cG 4]))):=by kernel_rfl
theorem anr{n L Q}:
 bC Z Wy (λ_=>[]) L Q 1000 118 [.aM,J n] an=(
 aw (decide (n<0)) (Q (.dN (.ec 9 (.ad [99,97,110,110,111,116,32,98,101,32,110,101,103,97,116,105,118,101]))) an) (aw (decide (wI (n-0)>0)) (∃i:Nat,wI (n-0)=(i:Int)/\i<=4194304/\(i=0->Q .aM an)/\(1<=i->(i<=4194304/\List.all (kR (Go.Ev.AV.dQ (.ai [.ad [],J 0,J 0,.aM,.aM])) i) AV.cY=true/\List.all (kR (Go.Ev.AV.dQ (.ai [.ad [],J 0,J 0,.aM,.aM])) i) eR=true)/\(∃aJ:Nat,0=(aJ:Int)/\(0<=aJ/\aJ<=i)/\Q (.aj 0 (aJ-0) 5) (aq [(0,.aA (kR [.ad [],J 0,J 0,.aM,.aM] i) 106)] 1)))) (Q .aM an))):=by kernel_rfl
abbrev UE(x0:_)(x1:_)(x2:_):=bg [(0,.aj 0 x0 1),(3,J x1),(9,.aj 0 x0 1),(10,J (aP x0)),(11,J x2)]
theorem aEI{l L Q}:
 bC Z KO abi L Q 1000 83 [.aj 0 l.length 1] (aq [(0,tq l)] 1)=(
 L (UE l.length 0 0) (aq [(0,tq l)] 1) (ax Z 83 0)):=by kernel_rfl
abbrev OC(x0:_)(x1:_)(x2:_):=bg [(6,.aj 1 x0 5),(25,.aj 0 x1 1),(26,J (aP x1)),(27,J x2)]
theorem aEJ{l x i L Q}:
 cg Z KO abi L Q 1000 83 1 (UE l.length x i) (ax Z 83 0) (aq [(0,tq l)] 1)=(
 aw (decide (i<aP l.length)) (∃aJ:Nat,i=(aJ:Int)/\aJ<l.length/\(∃cs len,cz Z 84 (iU l) (aJ*1)=some (.ah cs len 5:AV)/\aw (decide (wI (x+aP len)<0)) (Q (.dN (.ec 9 (.ad [108,101,110,32,111,117,116,32,111,102,32,114,97,110,103,101]))) (aq [(0,tq l)] 1)) (L (UE l.length (wI (x+aP len)) (wI (i+1))) (aq [(0,tq l)] 1) (ax Z 83 0)))) ((aq [] 0=an/\(0:Int)<=x/\x<=4000000)/\L (OC 0 l.length 0) (aq [(0,tq l),(1,.aA [] 106)] 2) (ax Z 83 1))):=by kernel_rfl
theorem aEK{l fs i L Q}:
 cg Z KO abi L Q 1000 83 1 (OC fs.length l.length i) (ax Z 83 1) (Fv l fs)=(
 aw (decide (i<aP l.length)) (∃aJ:Nat,i=(aJ:Int)/\aJ<l.length/\(∃cs len,cz Z 84 (iU l) (aJ*1)=some (.ah cs len 5:AV)/\(len=0->fs.length<=4194304/\L (OC fs.length l.length (wI (i+1))) (Fv l fs) (ax Z 83 1))/\(1<=len->((du fs).length=fs.length*5/\fs.length+len<=4194304/\List.all cs AV.cY=true/\List.all cs eR=true)/\L (OC (fs.length+len) l.length (wI (i+1))) (aq [(0,tq l),(1,.aA (du fs++cs) 106)] 2) (ax Z 83 1)))) (Q (.aj 1 fs.length 5) (Fv l fs))):=by kernel_rfl
theorem aD6{s et ar ao ds m k n nm cs len L Q}:
 bC Z EA Jn L Q 1000 51 [.aa 0 0,.ai [.ad et,J ar,J ao,.ah ds m 4,.aM],.ai [J k,J n,.ad nm,.ah cs len 4]] (cp s)=(
 ∃w,(([.ai [J k,J n,.ad nm,.ah cs len 4]]:LV)=[.ai (aU w)]/\aq [] 0=an/\bB w)/\aw (ET w) (∃ae,(([.aa 0 0]:LV)=[.aa 0 0]/\cp s=cp ae)/\(aq [] 0=an/\True)/\some (.aM:AV)=some (.aM:AV)/\L (bg [(0,.aa 0 0),(4,.aa 2 0),(5,.aa 3 0),(8,J (bY ae.nv))]) (aq [(0,dO ae.nx 1),(1,d_ ae.nx),(2,.al [.ad et,J ar,J ao,.ah ds m 4,.aj 4 1 6] 106),(3,dH k n nm cs len),(4,.al [J 2,.ad [],J 0,J 0,.ah [] 0 4,J (bY ae.nv)] 146)] 5) (cM Z Jn 51 0)) (∃ae:Gw,(([.aa 0 0,.ai [J k,J n,.ad nm,.ah cs len 4],J 0]:LV)=[.aa 0 0,.ai (aU ae.g),J ae.c]/\cp s=cp ae.s/\eL NN 3000000 ae.s ae.g/\ej NN ae.s ae.g ae.c=Prod.mk ae.s2 ae.l)/\L (bg [(0,.aa 0 0),(4,.aa 2 0),(5,.aa 3 0)]) (aq [(0,dO ae.s2 4),(1,.bm []),(2,.al [.ad et,J ar,J ao,.ah ds m 4,.aj 5 ae.l.length 6] 106),(3,dH k n nm cs len),(4,d_ ae.s2),(5,kj ae.l)] 6) (cM Z Jn 51 1))):=by kernel_rfl
theorem aD3{s et ar ao ds m gs k n nm cs len c L Q}:
 cg Z EA Jo L Q 1000 51 2 (bg [(0,.aa 0 0),(4,.aa 2 0),(5,.aa 3 0),(8,J c)]) (cM Z Jn 51 0) (aq [(0,dO s 1),(1,d_ s),(2,.al [.ad et,J ar,J ao,.ah ds m 4,.aj 4 gs.length 6] 106),(3,dH k n nm cs len),(4,kj gs)] 5)=(
 ∃w:Gw,(([.aa 0 0,.ai [J k,J n,.ad nm,.ah cs len 4],J c]:LV)=[.aa 0 0,.ai (aU w.g),J w.c]/\cp s=cp w.s/\eL NN 3000000 w.s w.g/\ej NN w.s w.g w.c=Prod.mk w.s2 w.l)/\some (.aj 4 gs.length 6:AV)=some (.aj 4 gs.length 6:AV)/\(bD w.l).length=w.l.length*6/\(w.l.length=0->gs.length<=4194304/\L (bg [(0,.aa 0 0),(4,.aa 2 0)]) (aq [(0,dO w.s2 3),(1,.bm []),(2,.al [.ad et,J ar,J ao,.ah ds m 4,.aj 4 gs.length 6] 106),(3,d_ w.s2),(4,kj gs)] 5) (cM Z Jo 51 0))/\(1<=w.l.length->((bD gs).length=gs.length*6/\gs.length+w.l.length<=4194304/\List.all (bD w.l) AV.cY=true/\List.all (bD w.l) eR=true)/\L (bg [(0,.aa 0 0),(4,.aa 2 0)]) (aq [(0,dO w.s2 3),(1,.bm []),(2,.al [.ad et,J ar,J ao,.ah ds m 4,.aj 4 (gs.length+w.l.length) 6] 106),(3,d_ w.s2),(4,.aA (bD gs++bD w.l) 146)] 5) (cM Z Jo 51 0))):=by kernel_rfl
theorem aD4{s et ar ao ds m gs ng L Q}:
 cg Z EA Nm L Q 1000 51 2 (bg [(0,.aa 0 0),(4,.aa 2 0)]) (cM Z Jo 51 0) (aq [(0,dO s 3),(1,.bm []),(2,.al [.ad et,J ar,J ao,.ah ds m 4,.ah gs ng 6] 106),(3,d_ s),(4,.bm [])] 5)=(
 ∃w,(([.aj 0 s.ao.length 1]:LV)=[.aj 0 w.length 1]/\aq [(0,d_ s)] 1=aq [(0,tq w)] 1/\(∀x,x∈w->(x:List bG)=[]->False)/\(List.flatten w).length<=4000000/\w.length<=4000000)/\some (.ai [.ad et,J ar,J ao,.ah ds m 4,.ah gs ng 6]:AV)=some (.ai [.ad et,J ar,J ao,.ah ds m 4,.ah gs ng 6]:AV)/\(du (List.flatten w)).length=(List.flatten w).length*5/\((List.flatten w).length=0->1<=4194304/\L (bg [(9,.bw 2 0 1 1 5 true)]) (aq [(0,dO s 3),(1,.bm []),(2,.al [.ad et,J ar,J ao,.ah ds m 4,.ah gs ng 6] 106),(3,tq w)] 4) (cM Z Nm 51 0))/\(1<=(List.flatten w).length->(5<=5/\1+(List.flatten w).length<=4194304/\(List.all (du (List.flatten w)) AV.cY=true/\List.all (du (List.flatten w)) eR=true)/\(true=true/\true=true)/\true=true/\1<=1)/\L (bg [(9,.aj 2 (1+(List.flatten w).length) 5)]) (aq [(0,dO s 3),(1,.bm []),(2,.aA (.ad et::J ar::J ao::.ah ds m 4::.ah gs ng 6::List.append._f [] PUnit.unit (du (List.flatten w))) 106),(3,tq w)] 4) (cM Z Nm 51 0))):=by kernel_rfl
abbrev OD(x0:_)(x1:_)(x2:_):=bg [(9,.ah x0 x1 5),(45,.ah x0 x1 5),(46,J (aP x1)),(47,J x2)]
theorem aD5{s fs nf L Q}:
 cg Z EA akP L Q 1000 51 2 (bg [(9,.ah fs nf 5)]) (cM Z Nm 51 0) (aq [(0,dO s 2),(1,.bm []),(2,d_ s)] 3)=(
 L (OD fs nf 0) (nL s) (ax Z 51 0)):=by kernel_rfl
theorem aD7{s fs nf i L Q}:
 cg Z EA akP L Q 1000 51 2 (OD fs nf i) (ax Z 51 0) (aq [(0,dO s 2),(1,.bm []),(2,d_ s)] 3)=(
 aw (decide (i<aP nf)) (∃aJ:Nat,i=(aJ:Int)/\aJ<nf/\(∃cr n aN cs len bP bI,((fs.drop (aJ*5)).take 5:List AV)=[.ad cr,J n,J aN,.ah cs len 4,.ah bP bI 6]/\(aq [] 0=an/\Sr [.ad cr,J n,J aN,.ah cs len 4,.ah bP bI 6])/\aw (!EU jU [.ad cr,J n,J aN,.ah cs len 4,.ah bP bI 6]) (Q (.aC [.aM,J 2]) (nL s)) (L (OD fs nf (wI (i+1))) (nL s) (ax Z 51 0)))) (Q (.aC [.ah fs nf 5,J 0]) (nL s))):=by kernel_rfl
theorem Wv:aS Z Hg:=apR NN
theorem anL(R:Int->Prop){v H1 l k n k' n' s s' cs cs' len cG j}(hl:l.length<4000000)(avr:∀x i,cg Z Hg F8 (bu Z 49 28 1 v H1) (fJ v H1) 1000 49 1 (zX x true j l l.length i) (ax Z 49 1) (qd [J k,J n,.ad s,.ah cs len 4,J k',J n',.ad s',.ah cs' cG 4])=
 aw (decide (i<aP l.length)) (∃aJ:Nat,i=(aJ:Int)/\aJ<l.length/\(∃aN,(((aX l).drop (aJ*1)).take 1:List AV)=[J aN]/\bu Z 49 28 1 v H1 (zX (aaF x aN) true j l l.length (wI (i+1))) (qd [J k,J n,.ad s,.ah cs len 4,J k',J n',.ad s',.ah cs' cG 4]) (ax Z 49 1))) (R x)) (x0) (hR:R (jL x0 l)):∀i,i<=l.length->bu Z 49 28 1 v H1 (zX (jL x0 (l.take i)) true j l l.length (i:Int)) (qd [J k,J n,.ad s,.ah cs len 4,J k',J n',.ad s',.ah cs' cG 4]) (ax Z 49 1):=by
 refine dF (λi=>l.length-i) _ _ _ _ ?_;rintro i hi ih;refine hD Wv F8 ?_;rw[avr];refine aD (λay=>?_) λbq=>?_
 .have ay:i<l.length:=by simpa using ay
  refine⟨i,rfl,ay,l[i],acz ay,?_⟩;rw[cH];have:=ih (i+1) (by omega) (by omega);rw[sd,gS ay,jL,DN]at this;exact this
 .have bq:l.length<=i:=by simpa using bq
  have:i=l.length:=by omega
  subst this;rw[s6];exact hR
theorem Wz:aS Z Wy:=by
 refine cu Wv ?_;rintro⟨⟨k,n,s,l⟩,⟨k',n',s',l'⟩⟩ args H ⟨rfl,rfl,h1,h2⟩;have b1:=BH (.mk k n s l);have b2:=BH (.mk k' n' s' l');show bX Z 49 _ _ (J (jL (jL 0 (dh (.mk k n s l))) (dh (.mk k' n' s' l')))) (qd (im (.mk k n s l)++im (.mk k' n' s' l')));refine eE 28 Wv aD0 ?_;refine⟨.mk k n s l,⟨rfl,rfl,h1⟩,?_⟩;generalize FT:dh (.mk k n s l)=u1 at b1⊢;have mQ:u1.length<4000000:=by omega
 refine anL (λx=>∃w:aF,(([.ai [J k',J n',.ad s',.ah (aH l') l'.length 4]]:LV)=[.ai (aU w)]/\aq [] 0=an/\bB w)/\bu Z 49 28 1 (J (jL (jL 0 u1) (dh (.mk k' n' s' l')))) (qd (im (.mk k n s l)++im (.mk k' n' s' l'))) (zX x true 1 (dh w) (dh w).length 0) (qd [J k,J n,.ad s,.ah (aH l) l.length 4,J k',J n',.ad s',.ah (aH l') l'.length 4]) (ax Z 49 1)) mQ (λx i=> @aD1 x u1 i k n s (aH l) l.length k' n' s' (aH l') l'.length _ _) 0 ?_ 0 (fu _);refine⟨.mk k' n' s' l',⟨rfl,rfl,h2⟩,?_⟩;generalize CZ:dh (.mk k' n' s' l')=u2 at b2⊢;have iQ:u2.length<4000000:=by omega
 exact anL (λx=>fJ (J (jL (jL 0 u1) u2)) (qd (im (.mk k n s l)++im (.mk k' n' s' l'))) (J x) (qd [J k,J n,.ad s,.ah (aH l) l.length 4,J k',J n',.ad s',.ah (aH l') l'.length 4])) iQ (λx i=> @aD2 x u2 i k n s (aH l) l.length k' n' s' (aH l') l'.length _ _) (jL 0 u1) ⟨rfl,rfl⟩ 0 (fu _)
theorem Pw:aS Z KO:=by
 refine xp Wz λargs H sp p v H' hs hd hp=>?_
 unfold aiw at hs;split at hs<;>cases hs;cases hd;rename_i n;obtain⟨rfl,h0,h4⟩:=hp;obtain⟨i,rfl⟩:=Int.eq_ofNat_of_zero_le h0;have hw:wI ((i:Int)-0)=(i:Int):=by rw[Int.sub_zero];exact cH
 by_cases hi:i=0
 .subst hi;refine QO (l:=[]) ?_ rfl (fu _);refine eE 27 Wz anr ?_;exact aD (λh=>ab (dX h)) λ_=>aD (λh=>absurd (dX h) (by rw[hw];decide)) λ_=>⟨rfl,rfl⟩
 .have hz:∀m:Nat,(kR [AV.ad [],J 0,J 0,.aM,.aM] m).all AV.cY=true/\(kR [AV.ad [],J 0,J 0,.aM,.aM] m).all eR=true:=by
   intro m;induction m with
   |zero=>exact⟨rfl,rfl⟩
   |succ m ih=>simp only[kR,sY,ih.1,ih.2,Bt];exact⟨rfl,rfl⟩
  refine Ia (g:=0) (l:=[(0,.aA (kR [.ad [],J 0,J 0,.aM,.aM] i) 106)]) (v:=.aj 0 (0-0) 5) ?_ rfl (λφ e o h=>ae3 0 h) rfl (fu _);refine eS Wz (λ_=>[]) 27 ?_;rw[anr,hw];exact aD (λh=>ab (dX h)) λ_=>aD (λ_=>⟨i,rfl,by omega,λh=>absurd h hi,λ_=>⟨⟨by omega,hz i⟩,0,rfl,⟨cE _,fu _⟩,rfl,rfl⟩⟩) λh=>ab (eB h)
theorem axX(cs off):cz Z 84 cs off=cs[off]? :=by kernel_rfl
theorem af0{l}(hl:∀x∈l,x≠[]){i}(h:i<l.length):cz Z 84 (iU l) (i*1)=some (.ah (du l[i]) l[i].length 5):=by rw[axX,mu,iU,sa,gS h,r9,ahs (hl _ (r8 h))]
theorem ah2{l:List (List bG)}{i}(h:i<l.length):(l.take (i+1)).flatten=(l.take i).flatten++l[i]:=by rw[sd,gS h,qes];simp
theorem ah1{l:List (List bG)}(i):(l.take i).flatten.length<=l.flatten.length:=by
 conv=>{rhs;rw[<-wH i l,qes,cL]}
 omega
theorem aEH{l}(hl:∀x∈l,x≠[])(hn:l.flatten.length<=4000000)(CT:l.length<=4000000):
 ∀i,i<=l.length->bu Z 83 36 1 (.aj 1 l.flatten.length 5) (Fv l l.flatten) (OC (l.take i).flatten.length l.length (i:Int)) (Fv l (l.take i).flatten) (ax Z 83 1):=by
 refine dF (λi=>l.length-i) _ _ _ _ ?_;rintro i hi ih;refine hE Pw aEK ?_;refine aD (λay=>?_) λbq=>?_
 .have ay:i<l.length:=by simpa using ay
  have h1:=ih (i+1) (by omega) (by omega);have h2:=ah1 (l:=l) (i+1);rw[ah2 ay]at h1 h2;rw[cL]at h2;refine⟨i,rfl,ay,du l[i],l[i].length,af0 hl ay,λh0=>absurd (mo h0) (hl _ (r8 ay)),λ_=>⟨⟨HY _,by omega,ahj _⟩,?_⟩⟩;rw[cH,<-YN,<-cL];exact h1
 .have bq:l.length<=i:=by simpa using bq
  rw[Br bq];exact⟨rfl,rfl⟩
theorem aEG{l}(hl:∀x∈l,x≠[])(hn:l.flatten.length<=4000000)(CT:l.length<=4000000):
 ∀i,i<=l.length->bu Z 83 36 1 (.aj 1 l.flatten.length 5) (Fv l l.flatten) (UE l.length (((l.take i).flatten.length:Nat):Int) (i:Int)) (aq [(0,tq l)] 1) (ax Z 83 0):=by
 refine dF (λi=>l.length-i) _ _ _ _ ?_;rintro i hi ih;refine hE Pw aEJ ?_;refine aD (λay=>?_) λbq=>?_
 .have ay:i<l.length:=by simpa using ay
  have h1:=ih (i+1) (by omega) (by omega);have h2:=ah1 (l:=l) (i+1);rw[ah2 ay]at h1 h2;rw[cL]at h1 h2;refine⟨i,rfl,ay,du l[i],l[i].length,af0 hl ay,?_⟩;rw[show aP l[i].length=((l[i].length:Nat):Int)from rfl,cH,cH];refine aD (λh=>ab (dX h)) λ_=>?_
  rw[Int.natCast_add]at h1;exact h1
 .have bq:l.length<=i:=by simpa using bq
  rw[Br bq];exact⟨⟨rfl,by omega,by omega⟩,aEH hl hn CT 0 (fu _)⟩
theorem Hh:aS Z EA:=by refine cu Pw ?_;rintro l args H ⟨rfl,rfl,h1,h2,h3⟩;refine eE 36 Pw aEI ?_;exact aEG h1 h2 h3 0 (fu _)
def gI(s:da)(g:aF):da×gi:=
 if ET g then((ej NN s.nx g (bY s.nv)).1,oG 2 (bY s.nv)::(ej NN s.nx g (bY s.nv)).2)else ej NN s g 0
def tD(s:da)(p:cX)(args:eH)(g:aF):List bG:=⟨p,args,(gI s g).2⟩::(gI s g).1.ao.flatten
def Ac(l:List bG):AV:=if l.all jU then .aC [.ah (du l) l.length 5,J 0]else .aC [.aM,J 2]
theorem ahi(f):(gP f).length=5:=rfl
theorem HZ:∀{l i} (h:i<l.length),((du l).drop (i*5)).take 5=gP l[i]
 |[],i,h=>by simp at h
 |t0::l,0,h=>by simp;exact yh (ahi t0)
 |t0::l,i+1,h=>by
  have hl:i<l.length:=by simpa using h
  have:=HZ hl;simp only[du,DI];rw[<-this];have e:(i+1)*5=(gP t0).length+i*5:=by rw[ahi];omega
  rw[e,JR]
theorem ayF{s l}(ho:∀f∈l,ig f)(hl:l.length<=4000000):∀i:Nat,i<=l.length->(∀f∈l.take i,jU f=true)->bu Z 51 56 2 (Ac l) (nL s) (OD (du l) l.length (i:Int)) (nL s) (ax Z 51 0):=by
 have rS:=dF (ds:=[]) (P:=Z) (f:=51) (nt:=56) (m0:=2) (v:=Ac l) (H1:=nL s) (λi:Nat=>l.length-i) (λi:Nat=>OD (du l) l.length (i:Int)) (λ_=>nL s) (ax Z 51 0) (λi=>i<=l.length/\∀f∈l.take i,jU f=true) ?_
 .exact λi h1 h2=>rS i ⟨h1,h2⟩
 rintro i ⟨hi,hv⟩ ih;refine hE Hh aD7 ?_;refine aD (λay=>?_) λbq=>?_
 .have ay:i<l.length:=by simpa using ay
  have b_:=HZ ay;have qZ:=ho _ (r8 ay);have jd:=r8 ay;generalize hg:l[i]=f at b_ qZ jd;have⟨⟨nm,ar,ao⟩,ts,gs⟩:=f;refine⟨i,rfl,ay,nm,ar,ao,aH ts,ts.length,bD gs,gs.length,b_,⟨rfl,⟨_,rfl,qZ⟩⟩,?_⟩;rw[show([.ad nm,J ar,J ao,.ah (aH ts) ts.length 4,.ah (bD gs) gs.length 6]:LV)=gP ⟨⟨nm,ar,ao⟩,ts,gs⟩from rfl,Qt];refine aD (λh=>?_) λh=>?_
  .have h:jU ⟨⟨nm,ar,ao⟩,ts,gs⟩=false:=by simpa using h
   have:Ac l=.aC [.aM,J 2]:=by rw[Ac,az];intro ha;rw[mq]at ha;rw[ha _ jd]at h;cases h
   rw[this];exact⟨rfl,rfl⟩
  .have h:jU ⟨⟨nm,ar,ao⟩,ts,gs⟩=true:=by simpa using h
   rw[cH];refine ih (i+1) ⟨by omega,λf hf=>?_⟩ (by omega);rw[sd,gS ay,hg]at hf;rcases iW.1 hf with hf|hf
   .exact hv f hf
   .simp at hf;subst hf;exact h
 .have bq:l.length<=i:=by simpa using bq
  rw[Br bq]at hv;have:Ac l=.aC [.ah (du l) l.length 5,J 0]:=by rw[Ac,aL (mq.2 hv)]
  rw[this];exact⟨rfl,rfl⟩
theorem anN{s l}(ho:∀f∈l,ig f)(hl:l.length<=4000000):bu Z 51 56 2 (Ac l) (nL s) (bg [(9,.aj 2 l.length 5)]) (aq [(0,dO s 3),(1,.bm []),(2,flR l),(3,d_ s)] 4) (cM Z Nm 51 0):=by
 have e:fX 2 (du l) (.aj 2 l.length 5)=.ah (du l) l.length 5:=by simp[fX,HY]
 refine FF (g:=2) ?_ rfl;simp only[Cr];rw[e];refine AZ (mw:=[]) (ls:=[9]) (ps:=[(0,0),(1,1),(3,2)]) (H2:=aq [(0,dO s 2),(1,.bm []),(2,d_ s)] 3) (t:=bg [(9,.ah (du l) l.length 5)]) ?_;refine hE Hh aD5 ?_;exact ayF ho hl 0 (fu _) (λf hf=>by simp at hf)
theorem aD8{s p args gs}(cK:∀x∈s.ao,x≠[])(ho:∀f∈⟨p,args,gs⟩::s.ao.flatten,ig f)(hl:s.ao.flatten.length+1<=4000000)(iH:s.ao.length<=4000000):
 bu Z 51 56 2 (Ac (⟨p,args,gs⟩::s.ao.flatten)) (nL s) (bg [(0,.aa 0 0),(4,.aa 2 0)]) (aq [(0,dO s 3),(1,.bm []),(2,.al [.ad p.cT,J p.ar,J p.ao,.ah (aH args) args.length 4,.aj 4 gs.length 6] 106),(3,d_ s),(4,kj gs)] 5) (cM Z Jo 51 0):=by
 refine FF (g:=4) ?_ rfl;refine rJ (H':=aq [(0,dO s 3),(1,.bm []),(2,.al [.ad p.cT,J p.ar,J p.ao,.ah (aH args) args.length 4,nI gs] 106),(3,d_ s),(4,.bm [])] 5) ?_ (by rw[<-L2 gs];exact⟨cE _,λφ bs w _ hw=>⟨φ,hw,⟨jj.Aj _ _,.of rfl rfl⟩,rfl⟩⟩);refine hE Hh aD4 ?_;refine⟨s.ao,⟨rfl,rfl,λx hx h=>cK x hx h,by omega,iH⟩,rfl,HY _,λh0=>⟨by omega,?_⟩,λh1=>⟨⟨by omega,by omega,ahj _,⟨rfl,rfl⟩,rfl,by omega⟩,?_⟩⟩
 .have:=mo h0;rw[this]at ho⊢;exact zi (g:=2) (anN ho (by simp)) rfl (λφ e o h=>sB rfl h) rfl
 .have h2:=anN (s:=s) ho (by simp only[ei];omega);rw[show(⟨p,args,gs⟩::s.ao.flatten:List bG).length=1+s.ao.flatten.length by simp;omega]at h2;exact h2
def uw(l:List bG):List bG×Int:=if l.all jU then(l,0)else([],2)
structure Ww where
 s:da
 p:cX
 sx:eH
 g:aF
 r:List bG
 e:Int
 s2:da
def whX:cq Ww where
 bh w A H:=A=[.aa 0 0,.ai [.ad w.p.cT,J w.p.ar,J w.p.ao,.ah (aH w.sx) w.sx.length 4,.aM],.ai (aU w.g)]/\H=cp w.s/\eL NN 3000000 w.s w.g/\
  (∀x∈(gI w.s w.g).1.ao,x≠[])/\(∀f∈tD w.s w.p w.sx w.g,ig f)/\(tD w.s w.p w.sx w.g).length<=4000000/\uw (tD w.s w.p w.sx w.g)=(w.r,w.e)/\(gI w.s w.g).1=w.s2
 v w:=.aC [.ah (du w.r) w.r.length 5,J w.e]
 aK w:=nL w.s2
theorem aGj:whX.ck:=by rintro⟨s,⟨nm,ar,ao⟩,ts,g,r,e,s2⟩ ⟨s',⟨oS,XD,XO⟩,n5,g',r',e',Og⟩ A H ⟨h1,h2,_,_,_,_,q1,q2⟩ ⟨h3,h4,_,_,_,_,q3,q4⟩;rw[h1]at h3;rw[h2]at h4;simp at h3;obtain⟨⟨rfl,rfl,rfl,e1,e2⟩,e3⟩:=h3;have e4:=IJ h4;have e5:=lP e3;have e6:=tB e2 e1;subst e4 e5 e6;rw[q1]at q3;cases q3;rw[q2]at q4;subst q4;rfl
def KP:Ev.bp:=bR 51 (bW whX aGj cB) EA
theorem aGk{s s2 A l r e}(hr:uw l=(r,e))(h:bX Z 51 A (cp s) (Ac l) (nL s2)):bX Z 51 A (cp s) (.aC [.ah (du r) r.length 5,J e]) (nL s2):=by
 unfold uw at hr;unfold Ac at h;split at hr;next hv=>rw[aL hv]at h;cases hr;exact h
 next hv=>rw[az hv]at h;cases hr;exact qO h (Wk.z_ (.qm 5 (.mF _))) (by show(2:Nat)<=3;omega)
theorem atG{N M s g}(h:eL N M s g):eL N M s.nx g:=h
theorem KQ:aS Z KP:=by
 refine cu Hh ?_;rintro⟨s,p,ts,g,r,e,s2⟩ args H ⟨rfl,rfl,hg,cK,ho,hl,qi,ow⟩;simp only at hg cK ho hl qi ow;subst ow;refine aGk qi ?_;simp only[tD]at ho hl⊢;have hb:=qU NN;have iH:(gI s g).1.ao.length<=4000000:=by
  have h1:=hg.2.2.2.1;unfold gI;split
  .have:=hb s.nx g (bY s.nv) hg.2.1;simp only[show s.nx.ao=s.ao from rfl]at this;dsimp only;omega
  .have:=hb s g 0 hg.2.1;omega
 have h6:=aD8 cK ho hl iH;have⟨k,n,nm,l⟩:=g;refine eS Hh Jn 56 ?_;rw[aU,aD6];refine⟨.mk k n nm l,⟨rfl,rfl,hg.1⟩,aD (λhc=>?_) λhc=>?_⟩
 .have he:gI s (.mk k n nm l)=((ej NN s.nx (.mk k n nm l) (bY s.nv)).1,oG 2 (bY s.nv)::(ej NN s.nx (.mk k n nm l) (bY s.nv)).2):=by rw[gI,aL hc]
  rw[he]at h6;have fI:=hb s.nx (.mk k n nm l) (bY s.nv) hg.2.1;rw[he];generalize hr:ej NN s.nx (.mk k n nm l) (bY s.nv)=r at h6 fI⊢;have⟨s2,gl⟩:=r;simp only at h6 fI;have h9:=hg.2.2.1;refine⟨s,⟨rfl,rfl⟩,⟨rfl,trivial⟩,rfl,?_⟩;refine zi (g:=4) (new:=kj [oG 2 (bY s.nv)]) ?_ rfl (λφ e o h=>sB rfl h) rfl;refine hE Hh aD3 ?_;refine⟨⟨s.nx,.mk k n nm l,bY s.nv,s2,gl⟩,⟨rfl,rfl,atG hg,hr⟩,rfl,rF _,λh0=>⟨by simp,?_⟩,λh1=>⟨⟨rfl,by show 1+gl.length<=4194304;omega,AG _⟩,?_⟩⟩
  .have:=mo h0;subst this;exact h6
  .rw[show(oG 2 (bY s.nv)::gl).length=1+gl.length by simp;omega]at h6;exact h6
 .have he:gI s (.mk k n nm l)=ej NN s (.mk k n nm l) 0:=by rw[gI,az (by rw[hc];decide)]
  rw[he]at h6;rw[he];generalize hr:ej NN s (.mk k n nm l) 0=r at h6⊢;have⟨s2,gl⟩:=r;refine⟨⟨s,.mk k n nm l,0,s2,gl⟩,⟨rfl,rfl,hg,hr⟩,?_⟩;rw[show cM Z Jn 51 1=cM Z Jo 51 0 by kernel_rfl];exact AZ (mw:=[2]) (ls:=[0,4]) (ps:=[(0,0),(1,1),(2,2),(4,3),(5,4)]) h6
def kX(all:List (List bG))(gs:gi):Prop:=∀q∈gs,rf q/\(q.fM=1->q.aO.ao=0\/q.aO.ao=1099511627776\/q.aO.ao=1099511627775\/∃l∈all,∃f∈l,q.aO=f.aO)
def aen(na:Int)(all:List (List bG))(l:List bG):Prop:=l≠[]/\l.length<=2/\∃ar,∀f∈l,ig f/\f.aO=⟨[],ar,na⟩/\kX all f.ba
def lK:Int->List (List bG)->List (List bG)->Prop
 |_,_,[]=>True
 |na,all,l::new=>aen na all l/\lK (na+1) all new
theorem kX.rz{all a b}(h:kX all a)(h2:kX all b):kX all (a++b):=λq hq=>(iW.1 hq).elim (h q) (h2 q)
theorem kX.GS{all q b}(h:rf q/\(q.fM=1->q.aO.ao=0\/q.aO.ao=1099511627776\/q.aO.ao=1099511627775\/∃l∈all,∃f∈l,q.aO=f.aO))(h2:kX all b):kX all (q::b):=λx hx=>(dK.1 hx).elim (λe=>e▸h) (h2 x)
theorem kX.nil(all):kX all []:=λq hq=>by cases hq
theorem axv(k v):rf (oG k v):=⟨by simp[dk,oG],by simp[dk,oG],trivial⟩
theorem kX.op{all k v b}(hk:k≠1)(h2:kX all b):kX all (oG k v::b):=kX.GS ⟨axv k v,λh=>absurd h hk⟩ h2
theorem lK.rz:∀{a b na all},lK na all a->lK (na+a.length) all b->lK na all (a++b)
 |[],b,na,all,_,h=>by simpa using h
 |l::a,b,na,all,h,h2=>⟨h.1,lK.rz h.2 (by rw[ei]at h2;rw[show na+1+(a.length:Int)=na+((a.length+1:Nat):Int)by omega];exact h2)⟩
def iz(s:da)(r:da×gi)(b:Int):Prop:=∃new,r.1.ao=s.ao++new/\r.1.na=s.na+new.length/\6*(new.length:Int)<=b/\r.1.tr=s.tr/\∀all:List (List bG),(∀l∈new,l∈all)->lK s.na all new/\kX all r.2
def GN(G:Ao)(N:Nat):Prop:=∀(s:da) (g:aF) (c:Int),gm g<N->bB g->ku g->0<=s.na->s.na+(gm g:Int)<4611686018427387904->iz s (G s g c) ((gm g:Int)-3)
theorem awl{n}(h:0<=n)(h2:n<4611686018427387904):bY n=n/\Ud n=n+1:=by have h3:wI (n+1)=n+1:=cH;simp only[bY,Ud,h3];exact⟨by rw[cH];omega,trivial⟩
theorem iz.nx{s r b}(h:iz s.nx r b):iz s r b:=h
theorem iz.mono{s r b b'}(h:iz s r b)(hb:b<=b'):iz s r b':=by have⟨new,h1,h2,h3,h4⟩:=h;exact⟨new,h1,h2,by omega,h4⟩
theorem iz.seq{s s1 s2 l1 l2 l b1 b2}(h1:iz s (s1,l1) b1)(h2:iz s1 (s2,l2) b2)(hl:∀all,kX all l1->kX all l2->kX all l):iz s (s2,l) (b1+b2):=by
 have⟨n1,a1,a2,a3,a4,a5⟩:=h1;have⟨n2,c1,c2,c3,c4,c5⟩:=h2;refine⟨n1++n2,by rw[c1,a1,km],by rw[c2,a2,cL];omega,by rw[cL];omega,by rw[c4,a4],λall ha=>?_⟩;have h3:=a5 all λl hl=>ha l (iW.2 (.inl hl))
 have h4:=c5 all λl hl=>ha l (iW.2 (.inr hl))
 refine⟨lK.rz h3.1 ?_,hl all h3.2 h4.2⟩;rw[<-a2];exact h4.1
theorem iz.Kk(s l)(h:∀all,kX all l):iz s (s,l) 0:=⟨[],by simp,by simp,by simp,rfl,λall _=>⟨trivial,h all⟩⟩
theorem iz.map{s s1 l1 l b}(h1:iz s (s1,l1) b)(hl:∀all,kX all l1->kX all l):iz s (s1,l) b:=by
 have:=iz.seq h1 (iz.Kk s1 [] λall=>.nil all) λall h _=>hl all h
 rw[Int.add_zero]at this;exact this
theorem iz.na{s r b}(h:iz s r b):s.na<=r.1.na/\r.1.na<=s.na+b:=by have⟨n,_,h2,h3,_⟩:=h;omega
theorem akB{G N}(hG:GN G N){s g}(h1:gm g<N)(h2:bB g)(h3:ku g)(h4:0<=s.na)(h5:s.na+(gm g:Int)<4611686018427387904):iz s (nS G s g) ((gm g:Int)-3):=
 (hG s.nx g (bY s.nv) h1 h2 h3 h4 h5).nx.map λall h=>.op (by decide) (h.rz (.op (by decide) (.nil all)))
def xh(s:da)(r:da×List gi)(b:Int):Prop:=∃new,r.1.ao=s.ao++new/\r.1.na=s.na+new.length/\6*(new.length:Int)<=b/\r.1.tr=s.tr/\∀all:List (List bG),(∀l∈new,l∈all)->lK s.na all new/\∀gs∈r.2,kX all gs/\gs.length<4000000
theorem xh.of1{s s2 l b}(h:iz s (s2,l) b)(hl:l.length<4000000):xh s (s2,[l]) b:=by have⟨new,h1,h2,h3,h4,h5⟩:=h;exact⟨new,h1,h2,h3,h4,λall ha=>⟨(h5 all ha).1,λgs hg=>by rw[pD.1 hg];exact⟨(h5 all ha).2,hl⟩⟩⟩
theorem xh.of2{s s1 s2 l1 l2 b1 b2}(h1:iz s (s1,l1) b1)(h2:iz s1 (s2,l2) b2)(mS:l1.length<4000000)(iH:l2.length<4000000):xh s (s2,[l1,l2]) (b1+b2):=by
 have⟨n1,a1,a2,a3,a4,a5⟩:=h1;have⟨n2,c1,c2,c3,c4,c5⟩:=h2;refine⟨n1++n2,by simp only;rw[c1,a1,km],by simp only;rw[c2,a2,cL];omega,by rw[cL];omega,by simp only;rw[c4,a4],λall ha=>?_⟩;have h3:=a5 all λl hl=>ha l (iW.2 (.inl hl))
 have h4:=c5 all λl hl=>ha l (iW.2 (.inr hl))
 refine⟨lK.rz h3.1 (by rw[<-a2];exact h4.1),λgs hg=>?_⟩;simp at hg;rcases hg with rfl|rfl
 .exact⟨h3.2,mS⟩
 .exact⟨h4.2,iH⟩
theorem aqO{G N}(hG:GN G N)(hB:GB G N){k s g c}(hk:k<4)(hg:gm g<N+4)(hi:dM g (jF k) (l9 k)=true)(h2:bB g)(h3:ku g)(h4:0<=s.na)(h5:s.na+(gm g:Int)<4611686018427387905)(h6:gm g<1000000):
 xh s (gk G k s g c) ((gm g:Int)-9):=by
 have mf:=(Qe (s:=s) (c:=c) hB hk hg hi).2.2.2;match k,hk with
 |0,_=>
  obtain⟨k,n,a,b,rfl,e,iV⟩:=rO (.inr (.inl rfl)) hi;have oa:=h2.2.2.1;have ob:=h2.2.2.2.1;have qa:=(iV h3).1;have qb:=(iV h3).2;simp only[gk,jk,aF.bo,mY,r_]at mf⊢;have ga:=oL a;have gb:=oL b;by_cases hc:dM a [45,62] 2=true
  .rw[aL hc]at mf⊢;obtain⟨k',n',a',b',rfl,e',aja⟩:=rO (.inr (.inr rfl)) hc;simp only[mY,r_]at mf⊢;have ga':=oL a';have gb':=oL b';have p1:=hG s.nx.nx a' (bY s.nx.nv) (by omega) oa.2.2.1 (aja qa).1 h4 (by show s.na+_<_;omega);have q1:=p1.na;generalize G s.nx.nx a' (bY s.nx.nv)=r1 at p1 q1 mf⊢;obtain⟨s1,l1⟩:=r1;simp only[show s.nx.nx.na=s.na from rfl]at q1;have p2:=hG s1 b' c (by omega) oa.2.2.2.1 (aja qa).2 (by omega) (by omega);have q2:=p2.na;simp only at mf⊢;generalize G s1 b' c=r2 at p2 q2 mf⊢;obtain⟨s2,l2⟩:=r2;simp only at q2;have p3:=hG s2 b c (by omega) ob qb (by omega) (by omega);simp only at mf⊢;generalize G s2 b c=r3 at p3 mf⊢;obtain⟨s3,l3⟩:=r3;have p12:=iz.seq (l:=oG 2 (bY s.nv)::oG 3 (bY s.nx.nv)::(l1++oG 4 (bY s.nv)::l2)) p1 p2 (λall h h'=>.op (by decide) (.op (by decide) (h.rz (.op (by decide) h'))));have mQ:=mf _ (dY ..);have iQ:=mf _ (en _ (dY ..));obtain⟨nw,w1,w2,w3,w4⟩:=xh.of2 p12 p3 (by omega) (by simp only at iQ;omega);exact⟨nw,w1,w2,by omega,w4⟩
  .rw[az hc]at mf⊢;have p1:=hG s a c (by omega) oa qa h4 (by omega);have q1:=p1.na;generalize G s a c=r1 at p1 q1 mf⊢;obtain⟨s1,l1⟩:=r1;simp only at q1;have p2:=hG s1 b c (by omega) ob qb (by omega) (by omega);simp only at mf⊢;generalize G s1 b c=r2 at p2 mf⊢;obtain⟨s2,l2⟩:=r2;have mQ:=mf _ (dY ..);have iQ:=mf _ (en _ (dY ..));have⟨nw,w1,w2,w3,w4⟩:=xh.of2 p1 p2 (by omega) (by simp only at iQ;omega);exact⟨nw,w1,w2,by omega,w4⟩
 |1,_=>
  obtain⟨k,n,a,b,rfl,e,iV⟩:=rO (.inr (.inr rfl)) hi;have oa:=h2.2.2.1;have ob:=h2.2.2.2.1;have qa:=(iV h3).1;have qb:=(iV h3).2;simp only[gk,jk,aF.bo,mY,r_]at mf⊢;have ga:=oL a;have p1:=akB hG (by omega:gm a<N) oa qa h4 (by omega);have q1:=p1.na;generalize nS G s a=r1 at p1 q1 mf⊢;have⟨s1,l1⟩:=r1;simp only at q1;have p2:=hG s1 b c (by omega) ob qb (by omega) (by omega);generalize G s1 b c=r2 at p2 mf⊢;have⟨s2,l2⟩:=r2;have mQ:(l1++l2).length<=_:=mf _ (dY ..);have iQ:(l1++l2).length<4000000:=by omega
  have⟨nw,w1,w2,w3,w4⟩:=xh.of1 (iz.seq p1 p2 λall h h'=>h.rz h') iQ;exact⟨nw,w1,w2,by omega,w4⟩
 |2,_=>
  obtain⟨k,n,a,rfl,e,iV⟩:=Dg (.inl rfl) hi;simp only[gk,jk,aF.bo,mY]at mf⊢;have ga:=Iu a;have g1:=oL (iD a);have p1:=hG s.nx.nx (iD a) (bY s.nx.nv) (by omega) (Th h2.2.2.1) (Rk (iV h3)) h4 (by show s.na+_<_;omega);generalize G s.nx.nx (iD a) (bY s.nx.nv)=r1 at p1 mf⊢;have⟨s1,l1⟩:=r1;have mQ:(oG 2 (bY s.nv)::oG 3 (bY s.nx.nv)::(l1++[oG 4 (bY s.nv),oG 5 0])).length<=_:=mf _ (dY ..);have iQ:(oG 2 (bY s.nv)::oG 3 (bY s.nx.nv)::(l1++[oG 4 (bY s.nv),oG 5 0])).length<4000000:=by omega
  have⟨nw,w1,w2,w3,w4⟩:=xh.of2 (iz.map p1 λall h=>.op (by decide) (.op (by decide) (h.rz (.op (by decide) (.op (by decide) (.nil all)))))) (iz.Kk s1 [] λall=>.nil all) iQ (by simp);exact⟨nw,w1,w2,by omega,w4⟩
 |3,_=>
  obtain⟨k,n,a,rfl,e,iV⟩:=Dg (.inr rfl) hi;have ga:=Iu a;have p1:=akB hG (by omega:gm (iD a)<N) (Th h2.2.2.1) (Rk (iV h3)) h4 (by omega);have mQ:(nS G s (iD a)).2.length<=_:=mf _ (dY ..);have iQ:(nS G s (iD a)).2.length<4000000:=by omega
  have⟨nw,w1,w2,w3,w4⟩:=xh.of1 p1 iQ;exact⟨nw,w1,w2,by omega,w4⟩
theorem Td{p ts}(h1:dk p.cT.length)(h2:ts.length<4000000)(h3:fK ts):rf (pY p ts):=by
 refine⟨h1,by simp only[pY,qo,dk];omega,?_⟩;clear h1 h2;induction ts with
 |nil=>trivial
 |cons t l ih=>exact⟨JD h3.1,ih h3.2⟩
theorem aqQ{G k s g c}:(gk G k s g c).2.length<=2:=by
 match k with
 |0=>simp only[gk];split<;>simp
 |1=>simp[gk]
 |2=>simp[gk]
 |k+3=>simp[gk]
theorem TO{G N}(hG:GN G N)(hB:GB G N){k s g c}(hk:k<4)(hg:gm g<N+4)(hi:dM g (jF k) (l9 k)=true)(h2:bB g)(h3:ku g)(h4:0<=s.na)(h5:s.na+(gm g:Int)<4611686018427387904)(h6:gm g<1000000):
 iz s (rh (lE G k s g c)) ((gm g:Int)-3):=by
 have hl:=awl h4 (by omega:s.na<4611686018427387904);have hn:s.px.kq.na=s.na+1:=hl.2;have Z4:=Qe (s:=s.px.kq) (c:=c) hB hk hg hi;have aHL:4<=gm g:=by have:=Z4.1;omega
 have hb:xh s.px.kq (gk G k s.px.kq g c) ((gm g:Int)-9):=aqO hG hB hk hg hi h2 h3 (by omega) (by omega) h6;have⟨new,a1,a2,a3,a4,a5⟩:=hb;have IM:=afP g c;have hpa:Gg s g c=⟨[],((l_ g c).length:Int),s.na⟩:=by rw[Gg,hl.1]
 refine⟨((gk G k s.px.kq g c).2.map λgs=>⟨Gg s g c,l_ g c,gs⟩)::new,?_,?_,by simp;omega,a4,λall ha=>?_⟩
 .simp only[rh,lE,da.put];rw[a1,show s.px.kq.ao=s.ao++[[]]from rfl,km];simp
 .simp only[rh,lE,da.put,ei];rw[a2,hn];omega
 .have h7:=a5 all λl hl=>ha l (en _ hl)
  rw[hn]at h7;have jd:=ha _ (dY ..);refine⟨⟨⟨?_,?_,((l_ g c).length:Int),?_⟩,h7.1⟩,?_⟩
  .intro h8;exact Z4.2.2.1 (List.map_eq_nil_iff.1 h8)
  .rw[qo];exact aqQ
  .intro f hf;obtain⟨gs,h8,rfl⟩:=sb.1 hf;refine⟨⟨by rw[hpa];simp[dk],by simp only[dk];omega,abK g c,by have:=(h7.2 gs h8).2;simp only[dk];omega,λq hq=>((h7.2 gs h8).1 q hq).1⟩,hpa,(h7.2 gs h8).1⟩
  .have:∃gs,gs∈(gk G k s.px.kq g c).2:=by
    cases h8:(gk G k s.px.kq g c).2 with
    |nil=>exact absurd h8 Z4.2.2.1
    |cons x l=>exact⟨x,dY ..⟩
   have⟨gs,h8⟩:=this;refine .GS ⟨Td (by rw[hpa];simp[dk]) (by omega) (abK g c),λ_=>.inr (.inr (.inr ⟨_,jd,_,sb.2 ⟨gs,h8,rfl⟩,rfl⟩))⟩ (.nil all)
theorem ax2{s g}(h2:bB g)(h3:g.bo.length<4000000):iz s (wE s g) 0:=by
 have⟨k,n,nm,l⟩:=g;have h1:=h2.1;have hc:∀all,kX all [pY ⟨nm,(l.length:Int),0⟩ l]:=λall=>.GS ⟨Td h1 h3 h2.2.2,λ_=>.inl rfl⟩ (.nil all)
 unfold wE;split
 .exact iz.Kk s _ hc
 .refine(iz.Kk s.nx _ λall=>?_).nx;refine .GS ⟨Td (by simp[dk]) (by simp) ⟨JE _,h2,trivial⟩,λ_=>.inr (.inl rfl)⟩ (.GS (hc all _ (dY ..)) (.GS ⟨Td (by simp[dk]) (by simp) ⟨JE _,h2,trivial⟩,λ_=>.inr (.inr (.inl rfl))⟩ (.nil all)))
theorem aEW{G N}(hG:GN G N)(hB:GB G N)(hN:N<1000000):GN (BA G) (N+1):=by
 intro s g c hg h2 h3 h4 h5;have bq:=oL g;have z:∀l,(∀all,kX all l)->iz s (s,l) ((gm g:Int)-3):=λl h=>(iz.Kk s l h).mono (by omega)
 unfold BA;by_cases c1:dM g [116,114,117,101] 0=true
 .rw[aL c1];exact z _ λall=>.nil all
 rw[az c1];by_cases c2:dM g [102,97,105,108] 0=true
 .rw[aL c2];exact z _ λall=>.op (by decide) (.nil all)
 rw[az c2];by_cases c3:dM g [33] 0=true
 .rw[aL c3];exact z _ λall=>.op (by decide) (.nil all)
 rw[az c3];by_cases c4:dM g [44] 2=true
 .rw[aL c4];obtain⟨k,n,a,b,rfl,e,iV⟩:=rO (.inl rfl) c4;simp only[jk,aF.bo,mY,r_];have p1:=hG s a c (by omega) h2.2.2.1 (iV h3).1 h4 (by omega);have q1:=p1.na;generalize G s a c=r1 at p1 q1⊢;have⟨s1,l1⟩:=r1;simp only at q1;have p2:=hG s1 b c (by omega) h2.2.2.2.1 (iV h3).2 (by omega) (by omega);generalize G s1 b c=r2 at p2⊢;have⟨s2,l2⟩:=r2;exact(iz.seq p1 p2 λall h h'=>h.rz h').mono (by omega)
 rw[az c4];by_cases c5:dM g [59] 2=true
 .rw[aL c5];exact TO hG hB (by decide) (by omega) c5 h2 h3 h4 h5 (by omega)
 rw[az c5];by_cases c6:dM g [45,62] 2=true
 .rw[aL c6];exact TO hG hB (by decide) (by omega) c6 h2 h3 h4 h5 (by omega)
 rw[az c6];by_cases c7:dM g [92,43] 1=true
 .rw[aL c7];exact TO hG hB (by decide) (by omega) c7 h2 h3 h4 h5 (by omega)
 rw[az c7];by_cases c8:dM g [111,110,99,101] 1=true
 .rw[aL c8];exact TO hG hB (by decide) (by omega) c8 h2 h3 h4 h5 (by omega)
 rw[az c8];refine(ax2 h2 ?_).mono (by omega);have⟨k,n,nm,l⟩:=g;show l.length<4000000;match l,h3 with
 |[],_=>simp
 |[_],_=>simp
 |[_,_],_=>simp
 |_::_::_::_,h=>exact h
theorem Zp:∀N,N<=1000000->GN (ej N) N
 |0,_=>λs g c h=>by have:=oL g;omega
 |N+1,h=>aEW (Zp N (by omega)) (qU N) (by omega)
theorem L8:∀t,gm t<=6*bM t
 |.mk k n s [a,b]=>by have:=L8 a;have:=L8 b;simp only[gm,bM,bN];split<;>omega
 |.mk k n s [a]=>by have:=L8 a;simp only[gm,bM,bN];split<;>omega
 |.mk k n s []=>by simp only[gm,bM,bN];omega
 |.mk k n s (_::_::_::_)=>by simp only[gm,bM];omega
def kT(c:o9)(first:Int)(tr:Bool):da:=⟨jL (jL 0 (dh c.1)) (dh c.2),first,tr,[]⟩
def Tn(c:o9):cX:=⟨c.1.cO,(c.1.bo.length:Int),0⟩
def tC(c:o9)(first:Int)(tr:Bool):List bG:=tD (kT c first tr) (Tn c) (c.1.bo.map dt) c.2
def oK(c:o9)(first:Int)(tr:Bool):List bG×Int:=if j4 c=false\/first<1\/first>1099511623776 then([],1)else uw (tC c first tr)
structure Fw where
 c:o9
 a:Int
 tr:Bool
 r:List bG
 e:Int
def fcX:cq Fw where
 bh w A H:=A=[.ai (aU w.c.1++aU w.c.2),J w.a,.au w.tr]/\H=an/\bB w.c.1/\bB w.c.2/\oK w.c w.a w.tr=(w.r,w.e)
 v w:=.aC [.ah (du w.r) w.r.length 5,J w.e]
 aK w:=an
theorem atl:fcX.ck:=by rintro⟨c,a,tr,r,e⟩ ⟨c',a',BE,r',e'⟩ A H ⟨h1,_,_,_,q1⟩ ⟨h2,_,_,_,q2⟩;rw[h1]at h2;simp at h2;obtain⟨e1,rfl,rfl⟩:=h2;rw[EO e1,q2]at q1;cases q1;rfl
def K44:Ev.bp:=bR 27 (bW fcX atl cB) KP
def Nj:Nat->LN:=fh [(6,[3,8,9,45,46,47]),(999995,[2000010]),(999998,[3,8,9])]
def yS(k n:Int)(s:LN)(cs:LV)(len:Nat)(k' n':Int)(s':LN)(cs':LV)(cG:Nat):bf:=.al [J k,J n,.ad s,.ah cs len 4,J k',J n',.ad s',.ah cs' cG 4] 51
abbrev UF(x0:_)(x1:_)(x2:_):=bg [(3,.aa 0 0),(8,.aa 1 0),(9,.aa 2 0),(45,.ah x0 x1 4),(46,J (aP x1)),(47,J x2)]
theorem anD{k n s cs len k' n' s' cs' cG a b L Q}:
 bC Z KP Nj L Q 1000 27 [.ai [J k,J n,.ad s,.ah cs len 4,J k',J n',.ad s',.ah cs' cG 4],J a,.au b] an=(
 ∃w,(([.ai [J k,J n,.ad s,.ah cs len 4,J k',J n',.ad s',.ah cs' cG 4]]:LV)=[.ai (HAppend.hAppend (aU w.1) (aU w.2))]/\aq [] 0=an/\bB w.1/\bB w.2)/\aw (!j4 w) (Q (.aC [.aM,J 1]) an) (aw (decide (a<1)) (Q (.aC [.aM,J 1]) an) (aw (decide (a>1099511623776)) (Q (.aC [.aM,J 1]) an) (∃ae:aF×aF,(([.bw 0 0 2 2 4 true]:LV)=[.bw 0 0 2 2 4 true]/\aq [(0,.al [J k,J n,.ad s,.ah cs len 4,J k',J n',.ad s',.ah cs' cG 4] 49)] 1=aq [(0,.al (aU ae.1++aU ae.2) 49)] 1/\bB ae.1/\bB ae.2)/\L (UF cs len 0) (aq [(0,yS k n s cs len k' n' s' cs' cG),(1,.al [J (jL (jL 0 (dh ae.1)) (dh ae.2)),J a,.au b,.aM] 120),(2,.al [.ad s,J (aP len),J 0,.aM,.aM] 106)] 3) (ax Z 27 0))))):=by kernel_rfl
theorem aDE{k n s cs len k' n' s' cs' cG nv a b nm ar ds m i L Q}:
 cg Z KP Nj L Q 1000 27 0 (UF cs len i) (ax Z 27 0) (aq [(0,yS k n s cs len k' n' s' cs' cG),(1,.al [J nv,J a,.au b,.aM] 120),(2,.al [.ad nm,J ar,J 0,.aj 3 m 4,.aM] 106),(3,.aA ds 49)] 4)=(
 aw (decide (i<aP len)) (∃aJ:Nat,i=(aJ:Int)/\aJ<len/\(∃aN bz cr bP bI,((cs.drop (aJ*4)).take 4:List AV)=[J aN,J bz,.ad cr,.ah bP bI 4]/\(∃w,(([.ai [J aN,J bz,.ad cr,.ah bP bI 4]]:LV)=[.ai (aU w)]/\aq [] 0=an/\bB w)/\some (.aj 3 m 4:AV)=some (.aj 3 m 4:AV)/\(ds.length=m*4/\m+1<=4194304/\true=true/\true=true)/\L (UF cs len (wI (i+1))) (aq [(0,yS k n s cs len k' n' s' cs' cG),(1,.al [J nv,J a,.au b,.aM] 120),(2,.al [.ad nm,J ar,J 0,.aj 3 (m+1) 4,.aM] 106),(3,.aA (ds++[J (dt w).cy,J (dt w).n,.ad (dt w).cO,.ah (aH (dt w).bo) (dt w).bo.length 4]) 49)] 4) (ax Z 27 0)))) (L (bg [(3,.aa 0 0),(8,.aa 1 0),(9,.aa 2 0)]) (aq [(0,yS k n s cs len k' n' s' cs' cG),(1,.al [J nv,J a,.au b,.aM] 120),(2,.al [.ad nm,J ar,J 0,.aj 3 m 4,.aM] 106),(3,.aA ds 49)] 4) (cM Z Nj 27 0))):=by kernel_rfl
theorem aDB{k n s cs len k' n' s' cs' cG t nm ar ds m L Q}:
 cg Z KP (λ_=>[]) L Q 1000 27 0 (bg [(3,.aa 0 0),(8,.aa 1 0),(9,.aa 2 0)]) (cM Z Nj 27 0) (aq [(0,yS k n s cs len k' n' s' cs' cG),(1,dO t 4),(2,.al [.ad nm,J ar,J 0,.ah ds m 4,.aM] 106),(3,.bm []),(4,d_ t)] 5)=(
 ∃w,(([.aa 0 0,.ai [.ad nm,J ar,J 0,.ah ds m 4,.aM],.ai [J k',J n',.ad s',.ah cs' cG 4]]:LV)=[.aa 0 0,.ai [.ad (Ww.p w).cT,J (Ww.p w).ar,J (Ww.p w).ao,.ah (aH (Ww.sx w)) (Ww.sx w).length 4,.aM],.ai (aU (Ww.g w))]/\cp t=cp w.s/\eL NN 3000000 (Ww.s w) (Ww.g w)/\(∀x,x∈(gI w.s w.g).1.ao->(x:List bG)=[]->False)/\(∀f,f∈tD w.s w.p w.sx w.g->ig f)/\(bG.mk (Ww.p w) (Ww.sx w) (gI (Ww.s w) (Ww.g w)).2::List.flatten (gI w.s w.g).1.ao).length<=4000000/\uw (bG.mk (Ww.p w) (Ww.sx w) (gI (Ww.s w) (Ww.g w)).2::List.flatten (gI w.s w.g).1.ao)=Prod.mk w.r (Ww.e w)/\(gI (Ww.s w) (Ww.g w)).1=Ww.s2 w)/\Q (.aC [.ah (du w.r) w.r.length 5,J (Ww.e w)]) an):=by kernel_rfl
theorem Qf{c}(h:j4 c=true):fv c.1=true/\oe c.1.cy=true/\fv c.2=true:=by simp only[j4,dc]at h;exact⟨h.1.1.1.1.1.1.1,h.1.1.1.1.1.1.2,ait h.1.1.1.1.2⟩
structure Pg(c:o9)(first:Int)(tr:Bool)(new:List (List bG)):Prop where
 ao:(gI (kT c first tr) c.2).1.ao=new
 ok:lK first new new
 Qk:kX new (gI (kT c first tr) c.2).2
 len:new.length<=2000
 ba:(gI (kT c first tr) c.2).2.length<=12001
 Zs:eL NN 3000000 (kT c first tr) c.2
theorem Y8{c first}(tr)(h1:bB c.1)(h2:bB c.2)(hv:j4 c=true)(ha:1<=first)(hb:first<=1099511623776):∃new,Pg c first tr new:=by
 have⟨v1,v2,v3⟩:=Qf hv;have hs:=wW v3;have hg:=L8 c.2;have iV:ku c.2:=L4 (by omega);have aZ:eL NN 3000000 (kT c first tr) c.2:=⟨h2,by rw[PF];omega,by omega,by show 0+gm c.2<3000000;omega,iV⟩;have gn:=Zp NN (by rw[PF];omega);have gb:=qU NN;have key:iz (kT c first tr) (gI (kT c first tr) c.2) ((gm c.2:Int)-3)/\(gI (kT c first tr) c.2).2.length<=12001:=by
  unfold gI;split
  .have h3:=gn (kT c first tr).nx c.2 (bY (kT c first tr).nv) aZ.2.1 h2 iV (by show 0<=first;omega) (by show first+_<_;omega);have h4:=gb (kT c first tr).nx c.2 (bY (kT c first tr).nv) aZ.2.1;exact⟨(iz.nx h3).map λall h=>.op (by decide) h,by simp;omega⟩
  .exact⟨gn _ c.2 0 aZ.2.1 h2 iV (by show 0<=first;omega) (by show first+_<_;omega),by have:=gb (kT c first tr) c.2 0 aZ.2.1;omega⟩
 have⟨⟨new,a1,a2,a3,a4,a5⟩,k2⟩:=key;have a6:=a5 new λl h=>h
 exact⟨new,by rw[a1];rfl,a6.1,a6.2,by omega,k2,aZ⟩
theorem lK.Bi:∀{new na all},lK na all new->∀l∈new,∃n,aen n all l
 |l0::new,na,all,h,l,hl=>by
  rcases dK.1 hl with rfl|hl
  .exact⟨na,h.1⟩
  .exact lK.Bi h.2 l hl
theorem Y9{new:List (List bG)}(h:∀l∈new,l.length<=2):new.flatten.length<=2*new.length:=by
 induction new with
 |nil=>simp
 |cons l new ih=>
  have h1:=h l (dY ..);have h2:=ih λx hx=>h x (en _ hx)
  simp only[JO,cL,ei];omega
theorem afQ{c:o9}(hv:fv c.1=true):c.1.bo.length<=2000:=by have:=wW hv;have⟨⟨k,n,s,l⟩,b⟩:=c;have h2:=Jh l;simp only[bM]at this;show l.length<=2000;omega
theorem ahY{c first tr new}(h1:bB c.1)(hv:j4 c=true)(h:Pg c first tr new):(∀f∈tC c first tr,ig f)/\(tC c first tr).length<=4001:=by
 have⟨v1,v2,v3⟩:=Qf hv;have IM:=afQ v1;have hn:=lK.Bi h.ok;have hf:=Y9 λl hl=>(hn l hl).elim λn hn=>hn.2.1
 have hl:=h.len;constructor
 .intro f hf;rcases dK.1 hf with rfl|hf
  .have⟨⟨k,n,s,l⟩,b⟩:=c;refine⟨h1.1,?_,?_,?_,λq hq=>(h.Qk q hq).1⟩
   .simp only[qo,aF.bo,dk]at IM⊢;omega
   .have:∀l:eH,fK l->fK (l.map dt):=by
     intro l hl;induction l with
     |nil=>trivial
     |cons t l ih=>exact⟨JD hl.1,ih hl.2⟩
    exact this l h1.2.2
   .exact Nat.lt_of_le_of_lt h.ba (by decide)
  .rw[h.ao]at hf;have⟨l,hl,hf⟩:=List.mem_flatten.1 hf;have⟨n,hn⟩:=hn l hl;have⟨ar,hn⟩:=hn.2.2;exact(hn f hf).1
 .simp only[tC,tD,ei,h.ao];omega
theorem asz(t):[J t.cy,J t.n,.ad t.cO,.ah (aH t.bo) t.bo.length 4]=aH [t]:=by show im t=_;rw[yV,aH,aH,jH]
theorem aDC{c first tr new r e}(h1:bB c.1)(hv:j4 c=true)(h:Pg c first tr new)(hr:uw (tC c first tr)=(r,e)){n}(hn:n=c.1.bo.length){ds}(gC:ds=aH (c.1.bo.map dt)):
 bu Z 27 66 0 (.aC [.ah (du r) r.length 5,J e]) an (bg [(3,.aa 0 0),(8,.aa 1 0),(9,.aa 2 0)]) (aq [(0,yS c.1.cy c.1.n c.1.cO (aH c.1.bo) c.1.bo.length c.2.cy c.2.n c.2.cO (aH c.2.bo) c.2.bo.length),(1,.al [J (kT c first tr).nv,J first,.au tr,.aM] 120),(2,.al [.ad c.1.cO,J (c.1.bo.length:Int),J 0,.aj 3 n 4,.aM] 106),(3,.aA ds 49)] 4) (cM Z Nj 27 0):=by
 subst hn gC;have hf:=ahY h1 hv h;have e1:fX 3 (aH (c.1.bo.map dt)) (.aj 3 c.1.bo.length 4)=.ah (aH (c.1.bo.map dt)) (c.1.bo.map dt).length 4:=by simp[fX,rH]
 refine FF (g:=3) ?_ rfl;refine rJ (H':=aq [(0,yS c.1.cy c.1.n c.1.cO (aH c.1.bo) c.1.bo.length c.2.cy c.2.n c.2.cO (aH c.2.bo) c.2.bo.length),(1,.al [J (kT c first tr).nv,J first,.au tr,.aM] 120),(2,.al [.ad c.1.cO,J (c.1.bo.length:Int),J 0,.ah (aH (c.1.bo.map dt)) (c.1.bo.map dt).length 4,.aM] 106),(3,.bm [])] 4) ?_ (by rw[<-e1];exact⟨cE _,λφ bs w _ hw=>⟨φ,hw,⟨jj.Aj _ _,.of rfl rfl⟩,rfl⟩⟩);refine rJ (H':=aq ([(0,yS c.1.cy c.1.n c.1.cO (aH c.1.bo) c.1.bo.length c.2.cy c.2.n c.2.cO (aH c.2.bo) c.2.bo.length),(1,dO (kT c first tr) 4),(2,.al [.ad c.1.cO,J (c.1.bo.length:Int),J 0,.ah (aH (c.1.bo.map dt)) (c.1.bo.map dt).length 4,.aM] 106),(3,.bm [])]++[(4,.aA [] 84)]) (4+1)) ?_ (vg (g:=1) rfl (λid=>by rcases id with _|_|_|_|id<;>rfl) rfl (λφ x hx=>zC hx) ⟨rfl,rfl⟩);refine hE KQ aDB ?_;have⟨a,⟨k',n',s',l'⟩⟩:=c;exact⟨⟨kT (a,.mk k' n' s' l') first tr,Tn (a,.mk k' n' s' l'),a.bo.map dt,.mk k' n' s' l',r,e,(gI (kT (a,.mk k' n' s' l') first tr) (.mk k' n' s' l')).1⟩,⟨rfl,rfl,h.Zs,λx hx=>(lK.Bi h.ok x (by rw[<-h.ao];exact hx)).elim λn hn=>hn.1,hf.1,kQ hf.2 (by decide),hr,rfl⟩,rfl,rfl⟩
theorem aDD{c first tr new r e}(h1:bB c.1)(hv:j4 c=true)(h:Pg c first tr new)(hr:uw (tC c first tr)=(r,e)):
 ∀i,i<=c.1.bo.length->bu Z 27 66 0 (.aC [.ah (du r) r.length 5,J e]) an (UF (aH c.1.bo) c.1.bo.length (i:Int)) (aq [(0,yS c.1.cy c.1.n c.1.cO (aH c.1.bo) c.1.bo.length c.2.cy c.2.n c.2.cO (aH c.2.bo) c.2.bo.length),(1,.al [J (kT c first tr).nv,J first,.au tr,.aM] 120),(2,.al [.ad c.1.cO,J (c.1.bo.length:Int),J 0,.aj 3 i 4,.aM] 106),(3,.aA (aH ((c.1.bo.take i).map dt)) 49)] 4) (ax Z 27 0):=by
 have IM:=afQ (Qf hv).1;have ho:fK c.1.bo:=by have⟨⟨k,n,s,l⟩,b⟩:=c;exact h1.2.2
 refine dF (λi=>c.1.bo.length-i) _ _ _ _ ?_;rintro i hi ih;refine hE KQ aDE ?_;refine aD (λay=>?_) λbq=>?_
 .have ay:i<c.1.bo.length:=by simpa using ay
  obtain⟨k1,n1,s1,l1,-,hg,b_,aZ,-⟩:=wQ ay ho (lA _) (P:=λ_=>True) trivial;refine⟨i,rfl,ay,k1,n1,s1,aH l1,l1.length,b_,.mk k1 n1 s1 l1,⟨rfl,rfl,aZ⟩,rfl,⟨by rw[rH,qo,wJ];congr 1;omega,by omega,rfl,rfl⟩,?_⟩;rw[asz,<-Ce,cH];have:=ih (i+1) (by omega) (by omega);rw[ado _ _ ay,hg]at this;exact this
 .have bq:c.1.bo.length<=i:=by simpa using bq
  have:i=c.1.bo.length:=by omega
  subst this;rw[s6];exact aDC h1 hv h hr rfl rfl
theorem apt:aS Z K44:=by
 refine cu KQ ?_;rintro⟨c,a,tr,r,e⟩ args H ⟨rfl,rfl,o1,o2,he⟩;by_cases hc:j4 c=false\/a<1\/a>1099511623776
 .rw[oK,aL hc]at he;cases he;refine qO ?_ (Wk.z_ (.qm 5 (.mF _))) (cE _);have⟨⟨k,n,s,l⟩,⟨k',n',s',l'⟩⟩:=c;refine eE 66 KQ anD ?_;refine⟨(.mk k n s l,.mk k' n' s' l'),⟨rfl,rfl,o1,o2⟩,aD (λ_=>⟨rfl,rfl⟩) λh1=>aD (λ_=>⟨rfl,rfl⟩) λh2=>aD (λ_=>⟨rfl,rfl⟩) λh3=>?_⟩;exfalso;rcases hc with hc|hc|hc
  .rw[hc]at h1;cases h1
  .exact eB h2 hc
  .exact eB h3 hc
 .rw[oK,az hc]at he;have hv:j4 c=true:=by
   cases h:j4 c with
   |true=>rfl
   |false=>exact absurd (.inl h) hc
  have h1:=λh=>hc (.inr (.inl h))
  have h2:=λh=>hc (.inr (.inr h))
  have⟨new,kN⟩:=Y8 (first:=a) tr o1 o2 hv (by omega) (by omega);have hh:=aDD o1 hv kN he 0 (fu _);have⟨⟨k,n,s,l⟩,⟨k',n',s',l'⟩⟩:=c;refine eE 66 KQ anD ?_;refine⟨(.mk k n s l,.mk k' n' s' l'),⟨rfl,rfl,o1,o2⟩,aD (λh=>?_) λ_=>aD (λh=>absurd (dX h) h1) λ_=>aD (λh=>absurd (dX h) h2) λ_=>?_⟩
  .rw[hv]at h;cases h
  refine⟨(.mk k n s l,.mk k' n' s' l'),⟨rfl,rfl,o1,o2⟩,?_⟩;refine rJ (H':=aq ([(0,yS k n s (aH l) l.length k' n' s' (aH l') l'.length),(1,.al [J (kT (.mk k n s l,.mk k' n' s' l') a tr).nv,J a,.au tr,.aM] 120),(2,.al [.ad s,J (l.length:Int),J 0,.aj 3 0 4,.aM] 106)]++[(3,.aA [] 49)]) (3+1)) ?_ ?_
  .exact hh
  .exact vg (g:=2) rfl (λid=>by rcases id with _|_|_|id<;>rfl) rfl (λφ x hx=>(iX.fT (.fT (.fT (iX.yF (λφ x h=>qG h) (.mF _))))) φ x hx) ⟨rfl,rfl⟩
theorem Ix:∀a b:gi,fp (a++b)=fp a+fp b
 |[],b=>by simp[fp]
 |g::a,b=>by simp only[oC,fp,Ix a b];omega
theorem adu(t):bM (dt t)<=bM t:=by
 unfold dt;split
 .exact cE _
 .exact ta t
theorem UZ:∀l:eH,bN (l.map dt)<=bN l
 |[]=>cE _
 |t::l=>by have:=adu t;have:=UZ l;simp only[gZ,bN];omega
theorem adw:∀l:LI,bN (l.map mA)=l.length
 |[]=>rfl
 |n::l=>by have:=adw l;simp only[gZ,bN,ei,this,mA,bM];omega
theorem aoe:∀a b:eH,bN (a++b)=bN a+bN b
 |[],b=>by simp[bN]
 |g::a,b=>by simp only[oC,bN,aoe a b];omega
def nZ(f:bG):Prop:=bN f.bL+fp f.ba<72000/\f.ba.length<=10000
def GT(G:Ao):Prop:=∀(s:da) (g:aF) (c:Int),bM g<=2001->fp (G s g c).2<=10*bM g/\(G s g c).2.length<=3*bM g/\∀l∈(G s g c).1.ao,l∈s.ao\/∀f∈l,nZ f
theorem aFY(t):(dh t).length<=bM t:=by
 unfold dh;split
 .have:=U8 [] t;simp at this;omega
 .simp
theorem St{g nm k n a b}(h:g=.mk k n nm [a,b]):bM g=1+bM a+bM b:=by subst h;simp only[bM,bN];omega
theorem aj7{g nm k n a}(h:g=.mk k n nm [a]):bM g=1+bM a:=by subst h;simp only[bM,bN];omega
theorem aod{a}(h:bM a<=2000):bM (iD a)<=2001:=by
 unfold iD;split;next g hg=>
  unfold fR at hg;split at hg
  .split at hg
   .split at hg;next g' h1 h2=>cases hg;unfold cW at h2;omega
    .cases hg
   .cases hg
  .cases hg
 .simp only[bM,bN];omega
theorem aFv(g c):bN (l_ g c)<=bM g+1:=by have:=aFY g;simp only[l_,jV,aoe,adw];split<;>simp[bN,mA,bM]<;>omega
theorem akC{G}(hG:GT G){s g}(h:bM g<=2001):fp (nS G s g).2<=10*bM g+2/\(nS G s g).2.length<=3*bM g+2/\∀l∈(nS G s g).1.ao,l∈s.ao\/∀f∈l,nZ f:=by have:=hG s.nx g (bY s.nv) h;simp only[nS,ei,cL,gY];refine⟨?_,by omega,this.2.2⟩;simp only[fp,oG,bN,Ix];omega
theorem Lr{a b c:List (List bG)}{P:List bG->Prop}(h:∀l∈b,l∈a\/P l)(h2:∀l∈c,l∈b\/P l):∀l∈c,l∈a\/P l:=λl hl=>(h2 l hl).elim (h l) .inr
theorem aqP{G}(hG:GT G){k s g c}(hk:k<4)(hi:dM g (jF k) (l9 k)=true)(h:bM g<=2001):
 (∀gs∈(gk G k s g c).2,fp gs<=30000/\gs.length<=10000)/\∀l∈(gk G k s g c).1.ao,l∈s.ao\/∀f∈l,nZ f:=by
 match k,hk with
 |0,_=>
  obtain⟨k,n,a,b,hq,-,-⟩:=rO (.inr (.inl rfl)) hi;have hz:=St hq;subst hq;simp only[gk,jk,aF.bo,mY,r_];by_cases hc:dM a [45,62] 2=true
  .rw[aL hc];obtain⟨k',n',a',b',CX,-,-⟩:=rO (.inr (.inr rfl)) hc;have hz':=St CX;subst CX;have p1:=hG s.nx.nx a' (bY s.nx.nv) (by omega);have p2:=hG (G s.nx.nx a' (bY s.nx.nv)).1 b' c (by omega);have p3:=hG (G (G s.nx.nx a' (bY s.nx.nv)).1 b' c).1 b c (by omega);refine⟨λgs hg=>?_,Lr (Lr p1.2.2 p2.2.2) p3.2.2⟩;simp at hg;rcases hg with rfl|rfl
   .simp only[fp,Ix,ei,cL,oG,bN];omega
   .omega
  .rw[az hc];have p1:=hG s a c (by omega);have p2:=hG (G s a c).1 b c (by omega);refine⟨λgs hg=>?_,Lr p1.2.2 p2.2.2⟩;simp at hg;rcases hg with rfl|rfl<;>omega
 |1,_=>obtain⟨k,n,a,b,hq,-,-⟩:=rO (.inr (.inr rfl)) hi;have hz:=St hq;subst hq;simp only[gk,jk,aF.bo,mY,r_];have p1:=akC (s:=s) hG (by omega:bM a<=2001);have p2:=hG (nS G s a).1 b c (by omega);refine⟨λgs hg=>?_,Lr p1.2.2 p2.2.2⟩;simp at hg;subst hg;simp only[Ix,cL];omega
 |2,_=>
  obtain⟨k,n,a,hq,-,-⟩:=Dg (.inl rfl) hi;have hz:=aj7 hq;subst hq;simp only[gk,jk,aF.bo,mY];have p0:=aod (a:=a) (by omega);have p1:=hG s.nx.nx (iD a) (bY s.nx.nv) p0;refine⟨λgs hg=>?_,p1.2.2⟩;simp at hg;rcases hg with rfl|rfl
  .simp only[fp,Ix,ei,cL,gY,oG,bN];omega
  .simp[fp]
 |3,_=>obtain⟨k,n,a,hq,-,-⟩:=Dg (.inr rfl) hi;have hz:=aj7 hq;subst hq;simp only[gk,jk,aF.bo,mY];have p0:=aod (a:=a) (by omega);have p1:=akC (s:=s) hG p0;refine⟨λgs hg=>?_,p1.2.2⟩;simp at hg;subst hg;omega
theorem aw0{α:Type}{l:List α}{i x y}(h:y∈l.set i x):y∈l\/y=x:=by
 rcases List.mem_or_eq_of_mem_set h with h|h
 .exact .inl h
 .exact .inr h
theorem TP{G}(hG:GT G){k s g c}(hk:k<4)(hi:dM g (jF k) (l9 k)=true)(h:bM g<=2001):
 fp (rh (lE G k s g c)).2<=10*bM g/\(rh (lE G k s g c)).2.length<=3*bM g/\∀l∈(rh (lE G k s g c)).1.ao,l∈s.ao\/∀f∈l,nZ f:=by
 have hb:=aqP (s:=s.px.kq) (c:=c) hG hk hi h;have ha:=aFv g c;have hp:=ta g;have hc:=UZ (l_ g c);refine⟨by simp only[rh,lE,fp,pY];omega,by simp only[rh,ei,gY];omega,λl hl=>?_⟩;rcases aw0 hl with hl|rfl
 .rcases hb.2 l hl with hl|hl
  .rcases iW.1 hl with hl|hl
   .exact .inl hl
   .rw[pD.1 hl];exact .inr λf hf=>by cases hf
  .exact .inr hl
 .refine .inr λf hf=>?_
  obtain⟨gs,h8,rfl⟩:=sb.1 hf;have:=hb.1 gs h8;exact⟨by simp only;omega,this.2⟩
theorem aEX{G}(hG:GT G):GT (BA G):=by
 intro s g c h;have hp:=ta g;have z:∀l:gi,fp l<=10->l.length<=3->fp ((s,l):da×gi).2<=10*bM g/\((s,l):da×gi).2.length<=3*bM g/\∀l'∈((s,l):da×gi).1.ao,l'∈s.ao\/∀f∈l',nZ f:=λl h1 h2=>⟨by simp only;omega,by simp only;omega,λl hl=>.inl hl⟩
 unfold BA;by_cases c1:dM g [116,114,117,101] 0=true
 .rw[aL c1];exact z _ (by simp[fp]) (by simp)
 rw[az c1];by_cases c2:dM g [102,97,105,108] 0=true
 .rw[aL c2];exact z _ (by simp[fp,oG,bN]) (by simp)
 rw[az c2];by_cases c3:dM g [33] 0=true
 .rw[aL c3];exact z _ (by simp[fp,oG,bN]) (by simp)
 rw[az c3];by_cases c4:dM g [44] 2=true
 .rw[aL c4];obtain⟨k,n,a,b,hq,-,-⟩:=rO (.inl rfl) c4;have hz:=St hq;subst hq;simp only[jk,aF.bo,mY,r_];have p1:=hG s a c (by omega);have p2:=hG (G s a c).1 b c (by omega);exact⟨by rw[Ix];omega,by rw[cL];omega,Lr p1.2.2 p2.2.2⟩
 rw[az c4];by_cases c5:dM g [59] 2=true
 .rw[aL c5];exact TP hG (by decide) c5 h
 rw[az c5];by_cases c6:dM g [45,62] 2=true
 .rw[aL c6];exact TP hG (by decide) c6 h
 rw[az c6];by_cases c7:dM g [92,43] 1=true
 .rw[aL c7];exact TP hG (by decide) c7 h
 rw[az c7];by_cases c8:dM g [111,110,99,101] 1=true
 .rw[aL c8];exact TP hG (by decide) c8 h
 rw[az c8];have hc:=UZ g.bo;have hz:bM g=1+bN g.bo:=by have⟨k,n,nm,l⟩:=g;rfl
 have RP:=adu g;have hv:∀x,bM (dt (mA x))<=1:=λx=>adu (mA x)
 unfold wE;split
 .exact⟨by simp only[fp,pY];omega,by simp;omega,λl hl=>.inl hl⟩
 .have:=hv (bY s.nv);exact⟨by simp only[fp,pY,gZ,List.map_nil,bN];omega,by simp;omega,λl hl=>.inl hl⟩
theorem Zq:∀N,GT (ej N)
 |0=>λs g c h=>⟨by simp[ej,fp],by simp[ej],λl hl=>.inl hl⟩
 |N+1=>aEX (Zq N)
theorem att{c first tr}(hv:j4 c=true):∀f∈tC c first tr,nZ f:=by
 have⟨v1,v2,v3⟩:=Qf hv;have s1:=wW v1;have s2:=wW v3;have gt:=Zq NN;have key:fp (gI (kT c first tr) c.2).2<=10*bM c.2+1/\(gI (kT c first tr) c.2).2.length<=3*bM c.2+1/\∀l∈(gI (kT c first tr) c.2).1.ao,∀f∈l,nZ f:=by
  unfold gI;split
  .have:=gt (kT c first tr).nx c.2 (bY (kT c first tr).nv) (by omega);refine⟨by simp only[fp,oG,bN];omega,by simp;omega,λl hl=>(this.2.2 l hl).elim (λh=>by cases h) id⟩
  .have:=gt (kT c first tr) c.2 0 (by omega);exact⟨by omega,by omega,λl hl=>(this.2.2 l hl).elim (λh=>by cases h) id⟩
 intro f hf;rcases dK.1 hf with rfl|hf
 .have hc:=UZ c.1.bo;have hz:bM c.1=1+bN c.1.bo:=by have⟨⟨k,n,nm,l⟩,b⟩:=c;rfl
  exact⟨by simp only;omega,by simp only;omega⟩
 .have⟨l,hl,hf⟩:=List.mem_flatten.1 hf;exact key.2.2 l hl f hf
structure Cw where
 f:bG
 i:Int
 b:eW
 e:Int
def uM(b:eW):LV:=[J b.id,.ad b.aO.cT,J b.aO.ar,J b.aO.ao,J b.l4.1,J b.l4.2.1,.ad b.l4.2.2.1,J b.l4.2.2.2,.ah (cS b.o7) b.o7.length 6]
def cpX:cq Cw where
 bh w A H:=A=[.ai (gP w.f),J w.i]/\H=an/\ig w.f/\nZ w.f/\gW w.f w.i=(w.b,w.e)
 v w:=.aC [.ai (uM w.b),J w.e]
 aK w:=an
theorem arE:cpX.ck:=by rintro⟨f,i,b,e⟩ ⟨f',i',b',e'⟩ A H ⟨h1,_,_,_,q1⟩ ⟨h2,_,_,_,q2⟩;rw[h1]at h2;simp at h2;rw[yY _ _ h2.1,h2.2,q2]at q1;cases q1;rfl
def WA:Ev.bp:=bR 52 (bW cpX arE cB) K44
abbrev ES:=List (AV×AV×Nat)
structure Ar where
 ao:Int
 id:Int
 fG:LV
 ng:Nat
 fo:ES
 cc:Nat
 nq:ES
 rc:Nat
 dT:ES
 nc:Nat
 eQ:ES
 oc:Nat
 pM:LV
 na:Nat
 X:Nat->Option bf
 xc:Nat
def dS(z:Ar)(a b c d e f:Nat):bf:=.al [J z.ao,J z.id,.aj a z.ng 1,.aB b,.aB c,.aB d,.aB e,.aj f z.na 9,.aM] 78
def cQ(z:Ar):bf:=.aA z.fG 83
def dz(z:Ar):bf:=.aY z.fo z.cc true
def dx(z:Ar):bf:=.aY z.nq z.rc true
def dg(z:Ar):bf:=.aY z.dT z.nc true
def dG(z:Ar):bf:=.aY z.eQ z.oc true
def cJ(z:Ar):bf:=.aA z.pM 44
def hA(z:Ar):AH:=bU z.X z.xc [(0,dS z 1 2 3 4 5 6),(1,cQ z),(2,dz z),(3,dx z),(4,dg z),(5,dG z),(6,cJ z)] 7
def lS(_:LV)(H:AH):Bool:=H.x.isSome
theorem uQ{A A'}(h:hA A=hA A'):A=A':=by have h0:=congrArg (λH=>AH.bc H 0) h;have h1:=congrArg (λH=>AH.bc H 1) h;have h2:=congrArg (λH=>AH.bc H 2) h;have h3:=congrArg (λH=>AH.bc H 3) h;have h4:=congrArg (λH=>AH.bc H 4) h;have h5:=congrArg (λH=>AH.bc H 5) h;have h6:=congrArg (λH=>AH.bc H 6) h;have h7:=congrArg AH.x h;replace h1:some (cQ A)=some (cQ A'):=h1;replace h6:some (cJ A)=some (cJ A'):=h6;have⟨a0,a1,a2,a3,a4,a5,a6,a7,a8,a9,Li,Lj,Lk,Ll,Lm,Ln⟩:=A;have⟨b0,b1,b2,b3,b4,b5,b6,b7,b8,b9,P8,P9,P_,P',Qa,Qb⟩:=A';simp only[dS,cQ,dz,dx,dg,dG,cJ,nX,bf.al.injEq,bf.aA.injEq,bf.aY.injEq,iL,AV.bV.injEq,AV.aj.injEq,XH.mk.injEq,true_and,and_true]at h0 h1 h2 h3 h4 h5 h6 h7;obtain⟨rfl,rfl,rfl,rfl⟩:=h0;obtain⟨rfl,rfl⟩:=h2;obtain⟨rfl,rfl⟩:=h3;obtain⟨rfl,rfl⟩:=h4;obtain⟨rfl,rfl⟩:=h5;obtain⟨rfl,rfl⟩:=h7;subst h1 h6;rfl
def Ar.tk(A:Ar):Ar:={A with id:=wI (A.id+1)}
def tkX:cq Ar where
 bh w A H:=A=[.aa 0 0]/\H=hA w
 v w:=J (wI (wI (w.id+1)-1))
 aK w:=hA w.tk
theorem aFo:tkX.ck:=λA A' _ _ h1 h2=>by rw[uQ (h1.2.symm.trans h2.2)]
def Px:Ev.bp:=bR 41 (bW tkX aFo lS) WA
def DA(x:Int)(l:List bG):Int:=l.foldl (λx f=>if wI (f.aO.ao+1)>x then wI (f.aO.ao+1)else x) x
def Ar.ps(A:Ar)(l:List bG):Ar:={A with ao:=DA A.ao l}
def psX:cq (Ar×List bG)where
 bh w A H:=A=[.aa 0 0,.ah (du w.2) w.2.length 5]/\H=hA w.1/\w.2.length<=4000000
 v w:=.aC []
 aK w:=hA (w.1.ps w.2)
theorem aya:psX.ck:=by rintro⟨A,l⟩ ⟨A',l'⟩ _ _ ⟨h1,h2,_⟩ ⟨h3,h4,_⟩;simp only at h1 h2 h3 h4;rw[h1]at h3;simp at h3;rw[uQ (h2.symm.trans h4),LM h3.2 h3.1]
def WC:Ev.bp:=bR 53 (bW psX aya lS) Px
def akQ:Nat->LN:=fh [(1,[0,6,7,8])]
def Bg:Nat->LN:=fh [(2,[0,1,2,6,12,13,14])]
def pI(i k n:Int)(s:LN)(cs:LV)(len:Nat)(k' n':Int)(s':LN)(cs':LV)(cG:Nat):bf:=.al [J i,J k,J n,.ad s,.ah cs len 4,J k',J n',.ad s',.ah cs' cG 4] 53
def ahL:LV->AH->Option (Prop×AV×AH)
 |[.aa 0 0],H=>match H.bc 0 with
  |some (.al [.bV .i64 i,.bV .i64 k,.bV .i64 n,.ad s,.ah cs len 4,.bV .i64 k',.bV .i64 n',.ad s',.ah cs' cG 4] _)=>some (H=aq [(0,pI i k n s cs len k' n' s' cs' cG)] 1,J i,aq [(0,pI i k n s cs len k' n' s' cs' cG)] 1)
  |_=>none
 |_,_=>none
def KS:Ev.bp:=fk 29 ahL WC
def qc(z:Ar)(o:bf):AH:=bU z.X z.xc [(0,dS z 2 3 4 5 6 7),(1,o),(2,cQ z),(3,dz z),(4,dx z),(5,dg z),(6,dG z),(7,cJ z)] 8
def Mg(z:Ar)(o:bf)(bs:LV):AH:=bU z.X z.xc [(0,dS z 2 3 4 5 6 7),(1,o),(2,cQ z),(3,dz z),(4,dx z),(5,dg z),(6,dG z),(7,cJ z),(8,.aA bs 44)] 9
theorem aDO{z L Q}:
 bC Z WA (λ_=>[]) L Q 1000 41 [.aa 0 0] (hA z)=(
 Q (J (wI (wI (z.id+1)-1))) (bU z.X z.xc [(0,.al [J z.ao,J (wI (z.id+1)),.aj 1 z.ng 1,.aB 2,.aB 3,.aB 4,.aB 5,.aj 6 z.na 9,.aM] 78),(1,cQ z),(2,dz z),(3,dx z),(4,dg z),(5,dG z),(6,cJ z)] 7)):=by kernel_rfl
abbrev UG(x0:_)(x1:_)(x2:_):=bg [(0,.aa 0 0),(6,.ah x0 x1 5),(7,J (aP x1)),(8,J x2)]
theorem aEa{z fs nf L Q}:
 bC Z Px akQ L Q 1000 53 [.aa 0 0,.ah fs nf 5] (hA z)=(
 L (UG fs nf 0) (hA z) (ax Z 53 0)):=by kernel_rfl
theorem aEb{z fs nf i L Q}:
 cg Z Px akQ L Q 1000 53 7 (UG fs nf i) (ax Z 53 0) (hA z)=(
 aw (decide (i<aP nf)) (∃aJ:Nat,i=(aJ:Int)/\aJ<nf/\(∃s n aN cs len bP bI,((fs.drop (aJ*5)).take 5:List AV)=[.ad s,J n,J aN,.ah cs len 4,.ah bP bI 6]/\L (UG fs nf (wI (i+1))) (bU z.X z.xc [(0,.al [J (if wI (aN+1)>z.ao then wI (aN+1)else z.ao),J z.id,.aj 1 z.ng 1,.aB 2,.aB 3,.aB 4,.aB 5,.aj 6 z.na 9,.aM] 78),(1,cQ z),(2,dz z),(3,dx z),(4,dg z),(5,dG z),(6,cJ z)] 7) (ax Z 53 0))) (Q (.aC []) (hA z))):=by kernel_rfl
theorem aDG{i k n s cs len k' n' s' cs' cG L Q}:
 bC Z WC (λ_=>[]) L Q 1000 29 [.aa 0 0] (aq [(0,pI i k n s cs len k' n' s' cs' cG)] 1)=(
 Q (J i) (aq [(0,pI i k n s cs len k' n' s' cs' cG)] 1)):=by kernel_rfl
abbrev adf(x0:_)(x1:_)(x2:_):=bg [(0,.aa 0 0),(1,.ah x0 x1 5),(2,.bn (.func 29) [] [.aa 1 0]),(6,.aM),(12,.ah x0 x1 5),(13,J (aP x1)),(14,J x2)]
theorem aDF{z fs nf i k n s cs len k' n' s' cs' cG L Q}:
 bC Z KS Bg L Q 1000 28 [.aa 0 0,.ah fs nf 5,.bn (.func 29) [] [.aa 1 0]] (qc z (pI i k n s cs len k' n' s' cs' cG))=(
 L (adf fs nf 0) (qc z (pI i k n s cs len k' n' s' cs' cG)) (ax Z 28 0)):=by kernel_rfl
abbrev UH(x0:_)(x1:_)(x2:_)(x3:_):=bg [(0,.aa 0 0),(1,.ah x0 x1 5),(2,.bn (.func 41) [.aa 0 0] []),(6,.aj 8 x2 9),(12,.ah x0 x1 5),(13,J (aP x1)),(14,J x3)]
theorem anE{z fs nf i k n s cs len k' n' s' cs' cG j L Q}:
 cg Z KS Bg L Q 1000 28 8 (adf fs nf j) (ax Z 28 0) (qc z (pI i k n s cs len k' n' s' cs' cG))=(
 aw (decide (j<aP nf)) (∃aJ:Nat,j=(aJ:Int)/\aJ<nf/\(∃cr aN bz bP bI hZ ib,((fs.drop (aJ*5)).take 5:List AV)=[.ad cr,J aN,J bz,.ah bP bI 4,.ah hZ ib 6]/\aq [(0,pI i k n s cs len k' n' s' cs' cG)] 1=aq [(0,pI i k n s cs len k' n' s' cs' cG)] 1/\some (.ai [.ad cr,J aN,J bz,.ah bP bI 4,.ah hZ ib 6]:AV)=some (.ai [.ad cr,J aN,J bz,.ah bP bI 4,.ah hZ ib 6]:AV)/\(∃w:Cw,(([.ai [.ad cr,J aN,J bz,.ah bP bI 4,.ah hZ ib 6],J i]:LV)=[.ai (gP w.f),J w.i]/\aq [] 0=an/\ig w.f/\nZ w.f/\gW w.f w.i=Prod.mk w.b w.e)/\aw (w.e !=0) (Q (.aC [.aM,J w.e]) (qc z (pI i k n s cs len k' n' s' cs' cG))) (L (UH fs nf 1 (wI (j+1))) (bU z.X z.xc [(0,dS z 2 3 4 5 6 7),(1,pI i k n s cs len k' n' s' cs' cG),(2,cQ z),(3,dz z),(4,dx z),(5,dg z),(6,dG z),(7,cJ z),(8,.al [J w.b.id,.ad w.b.aO.cT,J w.b.aO.ar,J w.b.aO.ao,J w.b.l4.1,J w.b.l4.2.1,.ad w.b.l4.2.2.1,J w.b.l4.2.2.2,.ah (cS w.b.o7) w.b.o7.length 6] 44)] 9) (ax Z 28 0))))) (∃w:Ar×List bG,(([.aa 0 0,.ah fs nf 5]:LV)=[.aa 0 0,.ah (du w.2) w.2.length 5]/\hA z=hA w.1/\w.2.length<=4000000)/\Q (.aC [.aM,J 0]) (qc (w.1.ps w.2) (pI i k n s cs len k' n' s' cs' cG)))):=by kernel_rfl
theorem anG{z fs nf i k n s cs len k' n' s' cs' cG bs nb j L Q}:
 cg Z KS Bg L Q 1000 28 8 (UH fs nf nb j) (ax Z 28 0) (Mg z (pI i k n s cs len k' n' s' cs' cG) bs)=(
 aw (decide (j<aP nf)) (∃aJ:Nat,j=(aJ:Int)/\aJ<nf/\(∃cr aN bz bP bI hZ ib,((fs.drop (aJ*5)).take 5:List AV)=[.ad cr,J aN,J bz,.ah bP bI 4,.ah hZ ib 6]/\(∃w,(([.aa 0 0]:LV)=[.aa 0 0]/\hA z=hA w)/\some (.ai [.ad cr,J aN,J bz,.ah bP bI 4,.ah hZ ib 6]:AV)=some (.ai [.ad cr,J aN,J bz,.ah bP bI 4,.ah hZ ib 6]:AV)/\(∃ae:Cw,(([.ai [.ad cr,J aN,J bz,.ah bP bI 4,.ah hZ ib 6],J (wI (wI (w.id+1)-1))]:LV)=[.ai (gP ae.f),J ae.i]/\aq [] 0=an/\ig ae.f/\nZ ae.f/\gW ae.f ae.i=Prod.mk ae.b ae.e)/\aw (ae.e !=0) (Q (.aC [.aM,J ae.e]) (qc w.tk (pI i k n s cs len k' n' s' cs' cG))) ((bs.length=nb*9/\nb+1<=4194304/\true=true/\true=true)/\L (UH fs nf (nb+1) (wI (j+1))) (Mg w.tk (pI i k n s cs len k' n' s' cs' cG) (bs++[J ae.b.id,.ad ae.b.aO.cT,J ae.b.aO.ar,J ae.b.aO.ao,J ae.b.l4.1,J ae.b.l4.2.1,.ad ae.b.l4.2.2.1,J ae.b.l4.2.2.2,.ah (cS ae.b.o7) ae.b.o7.length 6])) (ax Z 28 0)))))) (∃w:Ar×List bG,(([.aa 0 0,.ah fs nf 5]:LV)=[.aa 0 0,.ah (du w.2) w.2.length 5]/\hA z=hA w.1/\w.2.length<=4000000)/\Q (.aC [.aj 8 nb 9,J 0]) (Mg (w.1.ps w.2) (pI i k n s cs len k' n' s' cs' cG) bs))):=by kernel_rfl
theorem aeP:aS Z WA:=by
 refine cu apt ?_;rintro⟨f,i,b,e⟩ args H ⟨rfl,rfl,hf,hs,hc⟩;have h:=QY Xj (w:=(f,i)) ⟨rfl,rfl,hf,λ_=>hs⟩ rfl;have h2:bX Z 52 [.ai (gP f),J i] an (.aC [.ai (yW b (.aj 0 b.o7.length 6)),J e]) (aq [(0,.aA (cS b.o7) 56)] 1):=by have h3:bX Z 52 [.ai (gP f),J i] an (.aC [.ai (yW (gW f i).1 (.aj 0 (gW f i).1.o7.length 6)),J (gW f i).2]) (hB (gW f i).1):=h;rw[hc]at h3;exact h3
 have h4:=sG (g:=0) h2 rfl (fu _);have e1:fX 0 (cS b.o7) (.aC [.ai (yW b (.aj 0 b.o7.length 6)),J e])=.aC [.ai (uM b),J e]:=by simp[fX,p8,yW,uM,Cd]
 rw[e1]at h4;exact lR (ps:=[]) h4
theorem WB:aS Z Px:=by refine cu aeP ?_;rintro A args H ⟨rfl,rfl⟩;refine eE 15 aeP aDO ?_;exact⟨rfl,rfl⟩
theorem aD9{A:Ar}{l}(hl:l.length<=4000000):∀i:Nat,i<=l.length->bu Z 53 25 7 (.aC []) (hA (A.ps l)) (UG (du l) l.length (i:Int)) (hA (A.ps (l.take i))) (ax Z 53 0):=by
 refine dF (λi=>l.length-i) _ _ _ _ ?_;rintro i hi ih;refine hE WB aEb ?_;refine aD (λay=>?_) λbq=>?_
 .have ay:i<l.length:=by simpa using ay
  have b_:=HZ ay;have gK:A.ps (l.take (i+1))={A with ao:=(if wI (l[i].aO.ao+1)>DA A.ao (l.take i)then wI (l[i].aO.ao+1)else DA A.ao (l.take i))}:=by simp only[Ar.ps,DA];rw[sd,gS ay,DN];rfl
  have h1:=ih (i+1) (by omega) (by omega);rw[gK]at h1;generalize l[i]=f at b_ h1;have⟨⟨nm,ar,ao⟩,ts,gs⟩:=f;refine⟨i,rfl,ay,nm,ar,ao,aH ts,ts.length,bD gs,gs.length,b_,?_⟩;rw[cH];exact h1
 .have bq:l.length<=i:=by simpa using bq
  rw[Br bq];exact⟨rfl,rfl⟩
theorem aeQ:aS Z WC:=by refine cu WB ?_;rintro⟨A,l⟩ args H ⟨rfl,rfl,hl⟩;refine eE 25 WB aEa ?_;exact aD9 hl 0 (fu _)
theorem EB:aS Z KS:=by
 refine EH aeQ λargs H p v H' h hp=>?_
 unfold ahL at h;split at h
 .split at h<;>cases h;subst hp;refine eE 4 aeQ aDG ?_;exact⟨rfl,rfl⟩
 .cases h
def GI(z:Ar):Int:=wI (wI (z.id+1)-1)
def eu:Ar->List bG->Ar×List eW×Int
 |z,[]=>(z,[],0)
 |z,f::l=>if(gW f (GI z)).2≠0 then(z.tk,[],(gW f (GI z)).2)else((eu z.tk l).1,(gW f (GI z)).1::(eu z.tk l).2.1,(eu z.tk l).2.2)
def og(z:Ar)(i:Int):List bG->Ar×List eW×Int
 |[]=>(z.ps [],[],0)
 |f::l=>if(gW f i).2≠0 then(z,[],(gW f i).2)else if(eu z l).2.2≠0 then((eu z l).1,[],(eu z l).2.2)else((eu z l).1.ps (f::l),(gW f i).1::(eu z l).2.1,0)
def fC:List eW->LV
 |[]=>[]
 |b::l=>uM b++fC l
theorem YL:∀a b:List eW,fC (a++b)=fC a++fC b
 |[],b=>rfl
 |x::a,b=>by simp only[oC,fC,YL a b,km]
theorem HX:∀l,(fC l).length=l.length*9
 |[]=>rfl
 |b::l=>by simp[fC,uM,HX l];omega
theorem asD(l):(fC l).all AV.cY=true/\(fC l).all eR=true:=by
 induction l with
 |nil=>exact⟨rfl,rfl⟩
 |cons g l ih=>simp only[fC,sY,ih.1,ih.2,Bt];exact⟨rfl,rfl⟩
def uj(i:Int)(c:o9):bf:=pI i c.1.cy c.1.n c.1.cO (aH c.1.bo) c.1.bo.length c.2.cy c.2.n c.2.cO (aH c.2.bo) c.2.bo.length
def HI(e:Int)(n:Nat):AV:=if e≠0 then .aC [.aM,J e]else .aC [.aj 8 n 9,J 0]
def HH(z:Ar)(l:List bG)(o:bf)(e:Int)(bs:List eW):AH:=if e≠0 then qc z o else Mg (z.ps l) o (fC bs)
theorem anF{l i c}(ho:∀f∈l,ig f/\nZ f)(hl:l.length<=4000000):∀t bh z bs,l=bh++t->bs.length=bh.length->
 bu Z 28 43 8 (HI (eu z t).2.2 (bs++(eu z t).2.1).length) (HH (eu z t).1 l (uj i c) (eu z t).2.2 (bs++(eu z t).2.1))
  (UH (du l) l.length bs.length (bh.length:Int)) (Mg z (uj i c) (fC bs)) (ax Z 28 0)
 |[],bh,z,bs,e1,e2=>by
  rw[jH]at e1;subst e1;refine hE EB anG ?_;refine aD (λay=>ab (dX ay)) λ_=>?_
  refine⟨(z,l),⟨rfl,rfl,hl⟩,?_⟩;simp only[eu,HI,HH,jH];exact⟨rfl,rfl⟩
 |f::t,bh,z,bs,e1,e2=>by
  have ay:bh.length<l.length:=by rw[e1];simp
  have aac:l[bh.length]=f:=by simp[e1]
  have qZ:=ho f (by rw[e1];simp);have b_:=HZ ay;rw[aac]at b_;simp only[eu];generalize hc:gW f (GI z)=r;have⟨b,e⟩:=r;refine hE EB anG ?_;have ih:=λb=>anF (i:=i) (c:=c) ho hl t (bh++[f]) z.tk (bs++[b]) (by rw[e1,km];rfl) (by simp[e2])
  refine aD (λ_=>?_) λbq=>ab (eB bq)
  have⟨⟨nm,ar,ao⟩,ts,gs⟩:=f;refine⟨bh.length,rfl,ay,nm,ar,ao,aH ts,ts.length,bD gs,gs.length,b_,z,⟨rfl,rfl⟩,rfl,⟨⟨⟨nm,ar,ao⟩,ts,gs⟩,GI z,b,e⟩,⟨rfl,rfl,qZ.1,qZ.2,hc⟩,aD (λhe=>?_) λhe=>⟨⟨HX _,by omega,rfl,rfl⟩,?_⟩⟩
  .have he:e≠0:=by simpa using he
   rw[aL he];simp only[HI,HH,aL he];exact⟨rfl,rfl⟩
  .have he:¬e≠0:=by simpa using he
   rw[az he];rw[cH];have h1:=ih b;rw[km,YL,show(bs++[b]).length=bs.length+1 by simp,show(bh++[(⟨⟨nm,ar,ao⟩,ts,gs⟩:bG)]).length=bh.length+1 by simp]at h1;exact h1
structure Mw where
 z:Ar
 i:Int
 c:o9
 l:List bG
 zf:Ar
 bl:List eW
 e:Int
def agp:cq Mw where
 bh w A H:=A=[.aa 0 0,.ah (du w.l) w.l.length 5,.bn (.func 29) [] [.aa 1 0]]/\H=qc w.z (uj w.i w.c)/\(∀f∈w.l,ig f/\nZ f)/\w.l.length<=4000000/\og w.z w.i w.l=(w.zf,w.bl,w.e)
 v w:=.aC [.ah (fC w.bl) w.bl.length 9,J w.e]
 aK w:=qc w.zf (uj w.i w.c)
theorem aun{A A' o o'}(h:qc A o=qc A' o'):A=A'/\o=o':=by have h0:=congrArg (λH=>AH.bc H 0) h;have h1:=congrArg (λH=>AH.bc H 2) h;have h2:=congrArg (λH=>AH.bc H 3) h;have h3:=congrArg (λH=>AH.bc H 4) h;have h4:=congrArg (λH=>AH.bc H 5) h;have h5:=congrArg (λH=>AH.bc H 6) h;have h6:=congrArg (λH=>AH.bc H 7) h;have h8:=congrArg (λH=>AH.bc H 1) h;have h7:=congrArg AH.x h;replace h1:some (cQ A)=some (cQ A'):=h1;replace h6:some (cJ A)=some (cJ A'):=h6;replace h8:some o=some o':=h8;have⟨a0,a1,a2,a3,a4,a5,a6,a7,a8,a9,Li,Lj,Lk,Ll,Lm,Ln⟩:=A;have⟨b0,b1,b2,b3,b4,b5,b6,b7,b8,b9,P8,P9,P_,P',Qa,Qb⟩:=A';simp only[dS,cQ,dz,dx,dg,dG,cJ,nX,bf.al.injEq,bf.aA.injEq,bf.aY.injEq,iL,AV.bV.injEq,AV.aj.injEq,XH.mk.injEq,true_and,and_true]at h0 h1 h2 h3 h4 h5 h6 h7 h8;obtain⟨rfl,rfl,rfl,rfl⟩:=h0;obtain⟨rfl,rfl⟩:=h2;obtain⟨rfl,rfl⟩:=h3;obtain⟨rfl,rfl⟩:=h4;obtain⟨rfl,rfl⟩:=h5;obtain⟨rfl,rfl⟩:=h7;subst h1 h6 h8;exact⟨rfl,rfl⟩
theorem aEP{i i' c c'}(h:uj i c=uj i' c'):i=i'/\c=c':=by have⟨⟨k,n,s,l⟩,⟨k2,n2,s2,l2⟩⟩:=c;have⟨⟨k',n',s',l'⟩,⟨k2',n2',Og,l2'⟩⟩:=c';simp only[uj,pI,aF.cy,aF.n,aF.cO,aF.bo,bf.al.injEq,iL,AV.bV.injEq,AV.ad.injEq,AV.ah.injEq,true_and,and_true]at h;obtain⟨rfl,rfl,rfl,rfl,⟨e1,e2⟩,rfl,rfl,rfl,e3,e4⟩:=h;rw[tB e2 e1,tB e4 e3];exact⟨rfl,rfl⟩
theorem art:agp.ck:=by rintro⟨z,i,c,l,zf,bl,e⟩ ⟨z',i',c',l',Vd,XW,e'⟩ A H ⟨h1,h2,_,_,q1⟩ ⟨h3,h4,_,_,q2⟩;rw[h1]at h3;rw[h2]at h4;simp at h3;have⟨e1,e2⟩:=aun h4;have⟨e3,e4⟩:=aEP e2;have e5:=LM h3.2 h3.1;subst e1 e3 e4 e5;rw[q1]at q2;cases q2;rfl
def KT:Ev.bp:=bR 28 (bW agp art lS) KS
theorem arp{z zf i c l bl e}(ho:∀f∈l,ig f/\nZ f)(hl:l.length<=4000000)(hr:og z i l=(zf,bl,e)):
 bX Z 28 [.aa 0 0,.ah (du l) l.length 5,.bn (.func 29) [] [.aa 1 0]] (qc z (uj i c)) (.aC [.ah (fC bl) bl.length 9,J e]) (qc zf (uj i c)):=by
 have Gy:∀v H1,bu Z 28 43 8 v H1 (adf (du l) l.length 0) (qc z (uj i c)) (ax Z 28 0)->bX Z 28 [.aa 0 0,.ah (du l) l.length 5,.bn (.func 29) [] [.aa 1 0]] (qc z (uj i c)) v H1:=by intro v H1 h;refine eS EB Bg 43 ?_;exact cast (@aDF z (du l) l.length i c.1.cy c.1.n c.1.cO (aH c.1.bo) c.1.bo.length c.2.cy c.2.n c.2.cO (aH c.2.bo) c.2.bo.length _ _).symm h
 cases l with
 |nil=>cases hr;refine qO (v:=.aC [.aM,J 0]) (Gy _ _ ?_) (Wk.z_ (.qm 9 (.mF _))) (by show(8:Nat)<=8;omega);refine hD EB Bg ?_;refine cast (@anE z [] 0 i c.1.cy c.1.n c.1.cO (aH c.1.bo) c.1.bo.length c.2.cy c.2.n c.2.cO (aH c.2.bo) c.2.bo.length 0 _ _).symm ?_;exact aD (λh=>ab (dX h)) λ_=>⟨(z,[]),⟨rfl,rfl,by simp⟩,rfl,rfl⟩
 |cons f t=>
  have qZ:=ho f (dY ..);have hf0:=λv H1=> @anE z (du (f::t)) (f::t).length i c.1.cy c.1.n c.1.cO (aH c.1.bo) c.1.bo.length c.2.cy c.2.n c.2.cO (aH c.2.bo) c.2.bo.length 0 (bu Z 28 43 8 v H1) (fJ v H1)
  simp only[og]at hr;by_cases he:(gW f i).2≠0
  .rw[aL he]at hr;generalize hc:gW f i=r at he hr;obtain⟨b,e1⟩:=r;cases hr;refine qO (v:=.aC [.aM,J e1]) (Gy _ _ ?_) (Wk.z_ (.qm 9 (.mF _))) (by show(8:Nat)<=8;omega);refine hD EB Bg ?_;refine cast (hf0 _ _).symm ?_;obtain⟨⟨nm,ar,ao⟩,ts,gs⟩:=f;exact aD (λ_=>⟨0,rfl,DL _,nm,ar,ao,aH ts,ts.length,bD gs,gs.length,rfl,rfl,rfl,⟨⟨⟨nm,ar,ao⟩,ts,gs⟩,i,b,e1⟩,⟨rfl,rfl,qZ.1,qZ.2,hc⟩,aD (λ_=>⟨rfl,rfl⟩) λh=>absurd (by simpa using h) he⟩) λh=>ab (eB h)
  .rw[az he]at hr;generalize hc:gW f i=r at he hr;obtain⟨b,e1⟩:=r;have h1:bX Z 28 [.aa 0 0,.ah (du (f::t)) (f::t).length 5,.bn (.func 29) [] [.aa 1 0]] (qc z (uj i c)) (HI (eu z t).2.2 ([b]++(eu z t).2.1).length) (HH (eu z t).1 (f::t) (uj i c) (eu z t).2.2 ([b]++(eu z t).2.1)):=by
    have hh:=anF (i:=i) (c:=c) ho hl t [f] z [b] rfl rfl;refine Gy _ _ ?_;refine hD EB Bg ?_;refine cast (hf0 _ _).symm ?_;obtain⟨⟨nm,ar,ao⟩,ts,gs⟩:=f;refine aD (λ_=>⟨0,rfl,DL _,nm,ar,ao,aH ts,ts.length,bD gs,gs.length,rfl,rfl,rfl,⟨⟨⟨nm,ar,ao⟩,ts,gs⟩,i,b,e1⟩,⟨rfl,rfl,qZ.1,qZ.2,hc⟩,aD (λh=>absurd (by simpa using h) he) λ_=>?_⟩) λh=>ab (eB h)
    exact zi (xx:=some ⟨z.X,z.xc⟩) (g:=8) (n:=9) (T:=[(0,.aa 0 0),(1,.ah (du (⟨⟨nm,ar,ao⟩,ts,gs⟩::t)) (bG.mk ⟨nm,ar,ao⟩ ts gs::t).length 5),(2,.bn (.func 41) [.aa 0 0] []),(6,.aj 8 1 9),(12,.ah (du (⟨⟨nm,ar,ao⟩,ts,gs⟩::t)) (bG.mk ⟨nm,ar,ao⟩ ts gs::t).length 5),(13,J (aP (bG.mk ⟨nm,ar,ao⟩ ts gs::t).length)),(14,J 1)]) hh rfl (λφ e o h=>sB rfl h) rfl
   by_cases xG:(eu z t).2.2≠0
   .rw[aL xG]at hr;simp only[HI,HH,aL xG]at h1;cases hr;exact qO h1 (Wk.z_ (.qm 9 (.mF _))) (by show(8:Nat)<=8;omega)
   .rw[az xG]at hr;simp only[HI,HH,az xG]at h1;cases hr;have e1:fX 8 (fC ([b]++(eu z t).2.1)) (.aC [.aj 8 ([b]++(eu z t).2.1).length 9,J 0])=.aC [.ah (fC (b::(eu z t).2.1)) (b::(eu z t).2.1).length 9,J 0]:=by simp[fX,p8,HX]
    generalize (eu z t).1.ps (f::t)=zz at h1⊢;have h4:=sG (g:=8) h1 rfl (by show(8:Nat)<=9;omega);rw[e1]at h4;exact lR (ps:=[(0,0),(1,1),(2,2),(3,3),(4,4),(5,5),(6,6),(7,7)]) h4
theorem Py:aS Z KT:=by refine cu EB ?_;rintro⟨z,i,c,l,zf,bl,e⟩ args H ⟨rfl,rfl,ho,hl,hr⟩;exact arp ho hl hr
structure En where
 p:cX
 n:Nat
 aW:LI
 b:Nat
def mj(p:cX):AV:=.ai [.ad p.cT,J p.ar,J p.ao]
def DQ(n:Nat):LI->AV
 |[]=>.aM
 |i::l=>.fE n (l.length+1) 1
def yX(e:En):AV×AV×Nat:=(mj e.p,DQ e.n e.aW,e.b)
def ep(m:List En):ES:=m.map yX
theorem atd(a b c d e f):iB Z 100 39 (.ai [.ad a,J c,J e]) (.ai [.ad b,J d,J f])=some (cb a b&&((c==d)&&((e==f)&&true))):=
 (QX (by kernel_rfl)).1
theorem eqP(p q):iB Z 100 39 (mj p) (mj q)=some (decide (p=q)):=by have⟨a,c,e⟩:=p;have⟨b,d,f⟩:=q;rw[mj,mj,atd,om];congr 1;rw[sc];simp
def eC(p:cX):List En->Option En
 |[]=>none
 |e::m=>if p=e.p then some e else eC p m
def sP(p:cX):List En->Nat->Option (Nat×En)
 |[],_=>none
 |e::m,i=>if p=e.p then some (i,e)else sP p m (i+1)
theorem M5(p):∀m i,(sP p m i).map (·.2)=eC p m
 |[],_=>rfl
 |e::m,i=>by
  simp only[sP,eC];split
  .rfl
  .exact M5 p m (i+1)
theorem aj8{p}:∀{m i j e},sP p m i=some (j,e)->i<=j/\m[j-i]? =some e/\e.p=p
 |e0::m,i,j,e,h=>by
  simp only[sP]at h;split at h;next hp=>cases h;simp[hp]
  .have⟨h1,h2,h3⟩:=aj8 h;refine⟨by omega,?_,h3⟩;rw[show j-i=(j-(i+1))+1 by omega,TC];exact h2
theorem Im(p):∀m i,oJ (iB Z 100 39) (mj p) (ep m) i=some ((sP p m i).map λx=>(x.1,DQ x.2.n x.2.aW,x.2.b))
 |[],i=>rfl
 |e::m,i=>by
  have ih:=Im p m (i+1);simp only[ep,gZ,yX,oJ,eqP,sP];by_cases h:p=e.p
  .simp[h]
  .simp only[h,decide_false,if_false];exact ih
theorem awT(m p):eZ Z 39 35 (ep m) (mj p)=some (match eC p m with|some e=>(DQ e.n e.aW,true)|none=>(.aM,false)):=by
 unfold eZ;rw[Im,<-M5 p m 0];cases sP p m 0 with
 |none=>rfl
 |some x=>rfl
theorem ane:∀{m i e},m[i]? =some e->pH (ep m) i (λx=>(mj e.p,x.2))=ep m
 |e0::m,0,e,h=>by cases h;rfl
 |e0::m,i+1,e,h=>by have:=ane (by simpa using h);simp only[ep]at this;simp only[ep,gZ,pH,this]
theorem atb(p):Ib (mj p) (mj p)=true:=by have⟨a,b,c⟩:=p;simp[mj,Ib,Fa,Ic,om]
theorem atJ{m c p e}(h:eC p m=some e):Ct Z 39 35 (ep m) c true (mj p)=some (DQ e.n e.aW,e.b,ep m,c):=by
 unfold Ct;rw[Im];rw[<-M5 p m 0]at h;cases h2:sP p m 0 with
 |none=>rw[h2]at h;cases h
 |some x=>
  have⟨j,e'⟩:=x;rw[h2]at h;obtain rfl:e'=e:=by simpa using h
  have⟨_,h3,h4⟩:=aj8 h2;have hs:yo (ep m) j (mj p)=true:=by unfold yo ep;rw[sa,show m[j]? =some e' from h3];simp only[r9,yX,h4];exact atb p
  have hf:vT true (mj p) .kP=true:=rfl;simp only[r9,hs,hf,lB,cond_true];have:=ane (i:=j) h3;rw[h4]at this;rw[this]
theorem atI{m c p}(h:eC p m=none):Ct Z 39 35 (ep m) c true (mj p)=some (.aM,c,ep (m++[⟨p,0,[],c⟩]),c+1):=by
 unfold Ct;rw[Im];rw[<-M5 p m 0]at h;cases h2:sP p m 0 with
 |some x=>rw[h2]at h;cases h
 |none=>
  have hz:kb Z 35=some .aM:=by kernel_rfl
  have hf:vT true (mj p) .aM=true:=rfl;simp only[Option.map_none,hz,hf,cond_true,ep,qp];rfl
def qv(p:cX)(n:Nat)(aW:LI):List En->List En
 |[]=>[]
 |e::m=>if p=e.p then{e with n:=n,aW:=aW}::m else e::qv p n aW m
theorem ab8{p n aW}:∀{m e},eC p m=some e->(m.map En.b).Nodup->DD (ep m) e.b (DQ n aW)=some (ep (qv p n aW m))
 |e0::m,e,h,hn=>by
  simp only[eC]at h;rw[gZ,wL]at hn;split at h;next hp=>cases h;simp only[DD,ep,gZ,yX,List.findIdx?_cons,lC,if_true,qv,hp,pH]
  next hp=>
   have ih:=ab8 (n:=n) (aW:=aW) h hn.2;have cK:Nat.beq e0.b e.b=false:=by
    cases hb:Nat.beq e0.b e.b with
    |false=>rfl
    |true=>
     exfalso;have:=dw hb;apply hn.1;rw[this];have hm:∀{m:List En} {e:En},eC p m=some e->e∈m:=by
      intro m;induction m with
      |nil=>intro e h;cases h
      |cons x m ih=>
       intro e h;simp only[eC]at h;split at h
       .cases h;exact dY ..
       .exact en _ (ih h)
     exact Bp (hm h)
   simp only[DD,ep]at ih⊢;simp only[gZ,yX,List.findIdx?_cons,cK,qv,hp,if_false];cases hf:List.findIdx? (λe_1=>Nat.beq e_1.2.2 e.b) (List.map yX m)with
   |none=>rw[hf]at ih;cases ih
   |some i=>rw[hf]at ih;simp at ih;simp[pH,ih]
def qP(p:cX)(m:List En)(c:Nat):List En×Nat:=match eC p m with
 |some _=>(m,c)
 |none=>(m++[⟨p,0,[],c⟩],c+1)
def iO(p:cX)(m:List En)(c:Nat):En:=(eC p m).getD ⟨p,0,[],c⟩
theorem ag6{p c}:∀{m},eC p m=none->eC p (m++[⟨p,0,[],c⟩])=some ⟨p,0,[],c⟩
 |[],_=>by simp[eC]
 |e::m,h=>by
  simp only[eC]at h;split at h
  .cases h
  next hp=>simp only[oC,eC,az hp];exact ag6 h
theorem QP(p m c):eC p (qP p m c).1=some (iO p m c):=by
 unfold qP iO;cases h:eC p m with
 |some e=>exact h
 |none=>exact ag6 h
theorem ahy{m c p}:E' Z 39 35 1 (ep m) c true (mj p)=some (if(iO p m c).aW=[]then 0 else(iO p m c).n,(iO p m c).aW.length,(iO p m c).b,ep (qP p m c).1,(qP p m c).2):=by
 unfold E' qP iO;cases h:eC p m with
 |none=>rw[atI h];rfl
 |some e=>
  rw[atJ h];have⟨q,n,aW,b⟩:=e;cases aW with
  |nil=>rfl
  |cons i l=>rfl
structure Ks where
 m:List En
 c:Nat
 X:Nat->Option bf
 xc:Nat
def Af(g:Nat->Option bf)(c id len:Nat)(vs:LV)(el:TypeId):Nat->Option bf:=λi=>bif Nat.beq i c then some (.aA vs el)else bif Nat.beq i id&& !Nat.beq len 0 then none else g i
def Ks.nm(k:Ks)(p:cX):Nat:=if(iO p k.m k.c).aW=[]then 0 else(iO p k.m k.c).n
def Ks.qw(k:Ks)(p:cX)(i:Int):Ks:=
 ⟨qv p k.xc ((iO p k.m k.c).aW++[i]) (qP p k.m k.c).1,(qP p k.m k.c).2,Af k.X k.xc (k.nm p) (iO p k.m k.c).aW.length (aX (iO p k.m k.c).aW++[J i]) 2,k.xc+1⟩
structure Ks.OK(k:Ks)(L:Nat):Prop where
 Gx:(k.m.map En.b).Nodup
 lt:∀e∈k.m,e.b<k.c
 Jg:(k.m.map En.p).Nodup
 nil:∀e∈k.m,e.aW=[]->e.n=0
 ui:∀e∈k.m,e.aW≠[]->e.n<k.xc/\k.X e.n=some (.aA (aX e.aW) 2)
 Jv:∀e∈k.m,∀e'∈k.m,e.aW≠[]->e'.aW≠[]->e.n=e'.n->e=e'
 len:∀e∈k.m,e.aW.length<=L
theorem LJ{p}:∀{m e},eC p m=some e->e∈m/\e.p=p
 |x::m,e,h=>by
  simp only[eC]at h;split at h;next hp=>cases h;exact⟨dY ..,hp.symm⟩
  .exact⟨en _ (LJ h).1,(LJ h).2⟩
theorem ag8{p}:∀{m},eC p m=none->∀e∈m,e.p≠p
 |x::m,h,e,he=>by
  simp only[eC]at h;split at h
  .cases h
  next hp=>
   rcases dK.1 he with rfl|he
   .exact λh=>hp h.symm
   .exact ag8 h e he
theorem Nw{k:Ks}{L}(h:k.OK L)(p):Ks.OK ⟨(qP p k.m k.c).1,(qP p k.m k.c).2,k.X,k.xc⟩ L:=by
 unfold qP;cases hp:eC p k.m with
 |some e=>exact h
 |none=>
  have hn:=ag8 hp;refine⟨?_,?_,?_,?_,?_,?_,?_⟩
  .rw[qp,List.nodup_append];refine⟨h.Gx,by simp,λa ha b hb=>?_⟩;obtain⟨e,he,rfl⟩:=sb.1 ha;simp at hb;have:=h.lt e he;omega
  .intro e he;rcases iW.1 he with he|he
   .have:=h.lt e he;simp only;omega
   .rw[pD.1 he];simp only;omega
  .rw[qp,List.nodup_append];refine⟨h.Jg,by simp,λa ha b hb=>?_⟩;obtain⟨e,he,rfl⟩:=sb.1 ha;simp at hb;rw[hb];exact hn e he
  .intro e he;rcases iW.1 he with he|he
   .exact h.nil e he
   .rw[pD.1 he];exact λ_=>rfl
  .intro e he cK;rcases iW.1 he with he|he
   .exact h.ui e he cK
   .rw[pD.1 he]at cK;exact absurd rfl cK
  .intro e he e' iC h1 h2;rcases iW.1 he with he|he
   .rcases iW.1 iC with iC|iC
    .exact h.Jv e he e' iC h1 h2
    .rw[pD.1 iC]at h2;exact absurd rfl h2
   .rw[pD.1 he]at h1;exact absurd rfl h1
  .intro e he;rcases iW.1 he with he|he
   .exact h.len e he
   .rw[pD.1 he];simp
theorem LC{k:Ks}(p):iO p k.m k.c∈(qP p k.m k.c).1/\(iO p k.m k.c).p=p:=LJ (QP p k.m k.c)
theorem ak0{p n aW}:∀{m x},(m.map En.p).Nodup->x∈qv p n aW m->(∃e∈m,e.p=p/\x={e with n:=n,aW:=aW})\/(x∈m/\x.p≠p)
 |e::m,x,hn,h=>by
  rw[gZ,wL]at hn;simp only[qv]at h;split at h;next hp=>
   rcases dK.1 h with rfl|h
   .exact .inl ⟨e,dY ..,hp.symm,rfl⟩
   .refine .inr ⟨en _ h,λhx=>hn.1 ?_⟩;rw[<-hp,<-hx];exact Bp h
  next hp=>
   rcases dK.1 h with rfl|h
   .exact .inr ⟨dY ..,λhx=>hp hx.symm⟩
   .rcases ak0 hn.2 h with⟨e',h1,h2,h3⟩|⟨h1,h2⟩
    .exact .inl ⟨e',en _ h1,h2,h3⟩
    .exact .inr ⟨en _ h1,h2⟩
theorem abl{α:Type}(f:En->α){p n aW}(hf:∀e,f {e with n:=n,aW:=aW}=f e):∀m,(qv p n aW m).map f=m.map f
 |[]=>rfl
 |e::m=>by
  simp only[qv];split
  .simp only[gZ,hf]
  .simp only[gZ,abl f hf m]
theorem axo{k:Ks}{L}(h:k.OK L)(p):k.nm p=(iO p k.m k.c).n:=by
 unfold Ks.nm;split;next h0=>exact((Nw h p).nil _ (LC p).1 h0).symm
 .rfl
theorem av7{m:List En}(hn:(m.map En.p).Nodup){e e'}(h1:e∈m)(h2:e'∈m)(h:e.p=e'.p):e=e':=by
 induction m with
 |nil=>cases h1
 |cons x m ih=>
  rw[gZ,wL]at hn;rcases dK.1 h1 with a1|a1<;>rcases dK.1 h2 with a2|a2
  .rw[a1,a2]
  .exact absurd (by rw[<-a1,h];exact Bp a2) hn.1
  .exact absurd (by rw[<-a2,<-h];exact Bp a1) hn.1
  .exact ih hn.2 a1 a2
theorem Ks.OK.add{k:Ks}{L}(h:k.OK L)(p i):(k.qw p i).OK (L+1):=by
 have h1:=Nw h p;have⟨c1,c2⟩:=LC (k:=k) p;have hk:=h1.Jg;have up:=fun{x:En} (hx:x∈(k.qw p i).m)=>ak0 hk hx
 have RS:∀e∈(qP p k.m k.c).1,e.p=p->e=iO p k.m k.c:=λe he hp=>av7 hk he c1 (hp.trans c2.symm)
 refine⟨?_,?_,?_,?_,?_,?_,?_⟩
 .show((qv _ _ _ _).map En.b).Nodup;rw[abl En.b (λ_=>rfl)];exact h1.Gx
 .intro x hx;rcases up hx with⟨e,he,hp,rfl⟩|⟨he,hp⟩
  .exact h1.lt e he
  .exact h1.lt x he
 .show((qv _ _ _ _).map En.p).Nodup;rw[abl En.p (λ_=>rfl)];exact hk
 .intro x hx h0;rcases up hx with⟨e,he,hp,rfl⟩|⟨he,hp⟩
  .simp at h0
  .exact h1.nil x he h0
 .intro x hx h0;rcases up hx with⟨e,he,hp,rfl⟩|⟨he,hp⟩
  .refine⟨by show k.xc<k.xc+1;omega,?_⟩;show Af k.X k.xc _ _ _ _ k.xc=_;simp only[Af,lC,cond_true,aX,qp,gZ,List.map_nil]
  .have⟨r1,r2⟩:=h1.ui x he h0;simp only at r1 r2;refine⟨by show x.n<k.xc+1;omega,?_⟩;show Af k.X k.xc _ _ _ _ x.n=_;have e1:Nat.beq x.n k.xc=false:=by
    cases hb:Nat.beq x.n k.xc with
    |false=>rfl
    |true=>have:=dw hb;omega
   have e2:(Nat.beq x.n (k.nm p)&& !Nat.beq (iO p k.m k.c).aW.length 0)=false:=by
    cases hb:Nat.beq x.n (k.nm p)with
    |false=>rfl
    |true=>
     cases hc:Nat.beq (iO p k.m k.c).aW.length 0 with
     |true=>rfl
     |false=>
      exfalso;have hb:=dw hb;rw[axo h p]at hb;have cK:(iO p k.m k.c).aW≠[]:=by intro hn;rw[hn]at hc;cases hc
      have:=h1.Jv x he _ c1 h0 cK hb;exact hp (by rw[this];exact c2)
   simp only[Af,e1,e2,cond_false];exact r2
 .intro x hx y hy h0 h2 Ba;rcases up hx with⟨e,he,hp,rfl⟩|⟨he,hp⟩
  .rcases up hy with⟨e',iC,Sb,rfl⟩|⟨iC,Sb⟩
   .rw[RS e he hp,RS e' iC Sb]
   .have:=(h1.ui y iC h2).1;simp only at Ba this;omega
  .rcases up hy with⟨e',iC,Sb,rfl⟩|⟨iC,Sb⟩
   .have:=(h1.ui x he h0).1;simp only at Ba this;omega
   .exact h1.Jv x he y iC h0 h2 Ba
 .intro x hx;rcases up hx with⟨e,he,hp,rfl⟩|⟨he,hp⟩
  .have:=h1.len _ c1;simp;omega
  .have:=h1.len x he;omega
theorem Ks.OK.GU{k:Ks}{L L'}(h:k.OK L)(hl:L<=L'):k.OK L':=⟨h.Gx,h.lt,h.Jg,h.nil,h.ui,h.Jv,λe he=>kQ (h.len e he) hl⟩
theorem ayO{k k':Ks}{L L' e e'}(hX:k.X=k'.X)(h:k.OK L)(h':k'.OK L')(he:e∈k.m)(iC:e'∈k'.m)(hv:yX e=yX e'):e=e':=by
 have⟨p,n,aW,b⟩:=e;have⟨p',n',zt,b'⟩:=e';simp only[yX,JW]at hv;have⟨h1,h2,h3⟩:=hv;have hp:p=p':=by have⟨a,c,d⟩:=p;have⟨a',c',d'⟩:=p';obtain⟨rfl,rfl,rfl⟩:=h1;rfl
 subst hp h3;cases aW with
 |nil=>
  cases zt with
  |nil=>rw[show n=0 from h.nil _ he rfl,show n'=0 from h'.nil _ iC rfl]
  |cons i l=>cases h2
 |cons i l=>
  cases zt with
  |nil=>cases h2
  |cons i' l'=>simp only[DQ,AV.fE.injEq,and_true]at h2;obtain⟨rfl,h4⟩:=h2;have r1:=(h.ui _ he (by simp)).2;have r2:=(h'.ui _ iC (by simp)).2;rw[hX,r2]at r1;simp at r1;rw[zQ r1]
theorem QJ{L L'}:∀{k k':Ks},k.X=k'.X->k.OK L->k'.OK L'->ep k.m=ep k'.m->k.m=k'.m:=by
 intro k k' hX h h' he;apply TJ;intro i;have hi:=congrArg (λl=>l[i]?) he;simp only[ep,sa]at hi;cases h1:k.m[i]? with
 |none=>cases h2:k'.m[i]? with
  |none=>rfl
  |some y=>rw[h1,h2]at hi;cases hi
 |some x=>cases h2:k'.m[i]? with
  |none=>rw[h1,h2]at hi;cases hi
  |some y=>rw[h1,h2]at hi;rw[ayO hX h h' (JU h1) (JU h2) (by simpa using hi)]
def Ar.ks(z:Ar)(k:Ks):Ar:={z with eQ:=ep k.m,oc:=k.c,X:=k.X,xc:=k.xc}
def iF(k:Ks)(l:List eW):Ks:=l.foldl (λk b=>if b.aO.ao≠0 then k.qw b.aO b.id else k) k
def jw:List eW->LV
 |[]=>[]
 |b::l=>[J b.id,.ad b.aO.cT,J b.aO.ar,J b.aO.ao]++jw l
def oo(l:List eW)(b:Bool):bf:=.al [.ah (jw l) l.length 4,.au b] 97
def rP(z:Ar)(m:List En)(l:List eW)(b:Bool):Ar:=
 {z.ks (iF ⟨m,z.oc,z.X,z.xc⟩ l)with fG:=z.fG++[.fw (iF ⟨m,z.oc,z.X,z.xc⟩ l).xc 0],ng:=z.ng+1,X:=w_ (iF ⟨m,z.oc,z.X,z.xc⟩ l).X (iF ⟨m,z.oc,z.X,z.xc⟩ l).xc (oo l b),xc:=(iF ⟨m,z.oc,z.X,z.xc⟩ l).xc+1,pM:=z.pM++fC l,na:=z.na+l.length}
def Mm(z:Ar):AH:=bU z.X z.xc [(0,dS z 7 2 3 4 5 8),(1,.bm []),(2,dz z),(3,dx z),(4,dg z),(5,dG z),(6,.bm []),(7,cQ z),(8,cJ z)] 9
structure Kw where
 z:Ar
 m:List En
 l:List eW
 b:Bool
 zf:Ar
 c:Nat
structure Hm(z:Ar)(m:List En)(l:List eW):Prop where
 eQ:z.eQ=ep m
 ok:Ks.OK ⟨m,z.oc,z.X,z.xc⟩ (4000000-l.length)
 ne:l≠[]
 len:l.length<=1000000
 fG:z.fG.length=z.ng/\z.ng+1<=4000000
 add:z.pM.length=z.na*9/\z.na+l.length<=4000000
def kpX:cq Kw where
 bh w A H:=A=[.aa 0 0,.ah (fC w.l) w.l.length 9,.au w.b]/\H=hA w.z/\Hm w.z w.m w.l/\rP w.z w.m w.l w.b=w.zf/\w.zf.xc=w.c+1
 v w:=.fw w.c 0
 aK w:=Mm w.zf
theorem asC{b b'}(h:uM b=uM b'):b=b':=by have⟨i,⟨n,a,x⟩,⟨k1,k2,k3,k4⟩,c⟩:=b;have⟨i',⟨n',a',x'⟩,⟨k1',k2',k3',k4'⟩,c'⟩:=b';simp only[uM,iL,AV.bV.injEq,AV.ad.injEq,AV.ah.injEq,true_and,and_true]at h;obtain⟨rfl,rfl,rfl,rfl,rfl,rfl,rfl,rfl,e1,_⟩:=h;rw[H6 e1]
theorem QC:∀{l m},l.length=m.length->fC l=fC m->l=m
 |[],[],_,_=>rfl
 |[],_::_,h,_=>by simp at h
 |_::_,[],h,_=>by simp at h
 |t::l,u::m,hl,h=>by have h2:=mr h (by simp[uM]);rw[asC h2.1,QC (by simpa using hl) h2.2]
theorem av9:kpX.ck:=by
 rintro⟨z,m,l,b,zf,c⟩ ⟨z',m',l',b',Vd,c'⟩ A H ⟨h1,h2,k1,q1,q2⟩ ⟨h3,h4,k2,q3,q4⟩;simp only at h1 h2 h3 h4 k1 k2 q1 q2 q3 q4;rw[h1]at h3;have e1:=uQ (h2.symm.trans h4);subst e1;simp at h3;obtain⟨⟨a1,a2⟩,rfl⟩:=h3;have e2:=QC a2 a1;subst e2;have e3:=QJ (k:=⟨m,z.oc,z.X,z.xc⟩) (k':=⟨m',z.oc,z.X,z.xc⟩) rfl k1.ok k2.ok (k1.eQ.symm.trans k2.eQ);subst e3;rw[q1]at q3;subst q3;have:c=c':=by omega
 subst this;rfl
def WD:Ev.bp:=bR 30 (bW kpX av9 lS) KT
def Nk:Nat->LN:=fh [(3,[0,1,7,13,14,15]),(999995,[2000009]),(999998,[0,1,7])]
def hK(z:Ar)(m:Nat)(b:Bool)(ms:LV):AH:=bU z.X z.xc [(0,dS z 1 2 3 4 5 6),(1,cQ z),(2,dz z),(3,dx z),(4,dg z),(5,dG z),(6,cJ z),(7,.al [.aj 8 m 4,.au b] 97),(8,.aA ms 101)] 9
abbrev OE(x0:_)(x1:_)(x2:_):=bg [(0,.aa 0 0),(1,.ah x0 x1 9),(7,.aa 7 0),(13,.ah x0 x1 9),(14,J (aP x1)),(15,J x2)]
theorem aDI{z bs nb b L Q}:
 bC Z KT Nk L Q 1000 30 [.aa 0 0,.ah bs nb 9,.au b] (hA z)=(
 L (OE bs nb 0) (bU z.X z.xc [(0,dS z 1 2 3 4 5 6),(1,cQ z),(2,dz z),(3,dx z),(4,dg z),(5,dG z),(6,cJ z),(7,.al [.aM,.au b] 97)] 8) (ax Z 30 0)):=by kernel_rfl
theorem aDJ{z bs nb b m ms i L Q}:
 cg Z KT Nk L Q 1000 30 7 (OE bs nb i) (ax Z 30 0) (hK z m b ms)=(
 aw (decide (i<aP nb)) (∃aJ:Nat,i=(aJ:Int)/\aJ<nb/\(∃n:Int,∃s:LN,∃aN:Int,∃bz:Int,∃ct:Int,∃dm:Int,∃cr:LN,∃kC:Int,∃cs:LV,∃len:Nat,((bs.drop (aJ*9)).take 9:List AV)=[J n,.ad s,J aN,J bz,J ct,J dm,.ad cr,J kC,.ah cs len 6]/\(ms.length=m*4/\m+1<=4194304/\true=true/\true=true)/\aw (bz !=0) (∃ql:Nat,∃bI:Nat,∃gA:Nat,∃bJ:List (AV×AV×Nat),∃c':Nat,E' Z 39 35 1 z.eQ z.oc true (.ai [.ad s,J aN,J bz])=some (ql,(bI,(gA,(bJ,c'))))/\(bI+1<=4194304/\true=true/\true=true)/\(∃vs:LV,GP (bU z.X z.xc [] 0) ql bI 1 vs/\(∃LZ:List (AV×AV×Nat),DD bJ gA (.fE z.xc (bI+1) 1)=some LZ/\L (OE bs nb (wI (i+1))) (bU (Af z.X z.xc ql bI (vs++[J n]) 2) (z.xc+1) [(0,dS z 1 2 3 4 5 6),(1,cQ z),(2,dz z),(3,dx z),(4,dg z),(5,.aY LZ c' true),(6,cJ z),(7,.al [.aj 8 (m+1) 4,.au b] 97),(8,.aA (ms++[J n,.ad s,J aN,J bz]) 101)] 9) (ax Z 30 0)))) (L (OE bs nb (wI (i+1))) (hK z (m+1) b (ms++[J n,.ad s,J aN,J bz])) (ax Z 30 0)))) (L (bg [(0,.aa 0 0),(1,.ah bs nb 9),(7,.aa 7 0)]) (hK z m b ms) (cM Z Nk 30 0))):=by kernel_rfl
theorem aDH{z bs nb c L Q}:
 cg Z KT (λ_=>[]) L Q 1000 30 7 (bg [(0,.aa 0 0),(1,.ah bs nb 9),(7,.fw c 0)]) (cM Z Nk 30 0) (hA z)=(
 (z.fG.length=z.ng*1/\z.ng+1<=4194304/\true=true/\true=true)/\(nb=0->z.na<=4194304/\Q (.fw c 0) (bU z.X z.xc [(0,.al [J z.ao,J z.id,.aj 7 (z.ng+1) 1,.aB 2,.aB 3,.aB 4,.aB 5,.aj 6 z.na 9,.aM] 78),(1,.bm []),(2,dz z),(3,dx z),(4,dg z),(5,dG z),(6,cJ z),(7,.aA (z.fG++[.fw c 0]) 83)] 8))/\(1<=nb->(z.pM.length=z.na*9/\z.na+nb<=4194304/\List.all bs AV.cY=true/\List.all bs eR=true)/\Q (.fw c 0) (bU z.X z.xc [(0,.al [J z.ao,J z.id,.aj 7 (z.ng+1) 1,.aB 2,.aB 3,.aB 4,.aB 5,.aj 8 (z.na+nb) 9,.aM] 78),(1,.bm []),(2,dz z),(3,dx z),(4,dg z),(5,dG z),(6,.bm []),(7,.aA (z.fG++[.fw c 0]) 83),(8,.aA (z.pM++bs) 44)] 9))):=by kernel_rfl
theorem aho:∀a b:List eW,jw (a++b)=jw a++jw b
 |[],b=>rfl
 |x::a,b=>by simp only[oC,jw,aho a b,km]
theorem YS:∀l:List eW,(jw l).length=l.length*4
 |[]=>rfl
 |b::l=>by simp[jw,YS l];omega
theorem QD:∀{l i} (h:i<l.length),((fC l).drop (i*9)).take 9=uM l[i]
 |[],i,h=>by simp at h
 |t0::l,0,h=>by simp;exact yh (show(uM t0).length=9 from rfl)
 |t0::l,i+1,h=>by
  have hl:i<l.length:=by simpa using h
  have:=QD hl;simp only[fC,DI];rw[<-this];have e:(i+1)*9=(uM t0).length+i*9:=by show _=9+i*9;omega
  rw[e,JR]
theorem ap7(k l b):iF k (l++[b])=(if b.aO.ao≠0 then(iF k l).qw b.aO b.id else iF k l):=by simp only[iF,DN,sV,NZ]
theorem Xv{k L}(h:k.OK L):∀l:List eW,(iF k l).OK (L+l.length):=by
 intro l;induction l generalizing k L with
 |nil=>exact h
 |cons b l ih=>
  simp only[iF,sV];by_cases hb:b.aO.ao≠0
  .rw[aL hb];exact(ih (h.add b.aO b.id)).GU (by simp;omega)
  .rw[az hb];exact(ih h).GU (by simp only[ei];omega)
def xpT(g c:Nat)(T:List (Nat×AV)):List (Nat×AV):=T.map λx=>(x.1,Eh g c x.2)
theorem aoY{g c i a'}:∀{l},(bg (xpT g c l)).bZ i=some a'->∃a,(bg l).bZ i=some a/\a'=Eh g c a
 |[],h=>by rw[nU]at h;cases h
 |(s,b)::l,h=>by
  rw[nU]at h;rw[nU];simp only[xpT,gZ,zw]at h⊢;by_cases hs:i=s
  .rw[aL hs]at h⊢;cases h;exact⟨b,rfl,rfl⟩
  .rw[az hs]at h⊢;rw[<-nU]at h⊢;exact aoY h
theorem awa{z l b}(cK:l≠[])(hg:z.fG.length=z.ng/\z.ng+1<=4000000)(ha:z.pM.length=z.na*9/\z.na+l.length<=4000000):
 bu Z 30 71 7 (.fw z.xc 0) (Mm {z with fG:=z.fG++[.fw z.xc 0],ng:=z.ng+1,X:=w_ z.X z.xc (oo l b),xc:=z.xc+1,pM:=z.pM++fC l,na:=z.na+l.length}) (bg [(0,.aa 0 0),(1,.ah (fC l) l.length 9),(7,.aa 7 0)]) (hK z l.length b (jw l)) (cM Z Nk 30 0):=by
 have e:fX 8 (jw l) (.aj 8 l.length 4)=.ah (jw l) l.length 4:=by simp[fX,YS]
 refine FF (g:=8) ?_ rfl;refine rJ (H':=bU z.X z.xc [(0,dS z 1 2 3 4 5 6),(1,cQ z),(2,dz z),(3,dx z),(4,dg z),(5,dG z),(6,cJ z),(7,oo l b),(8,.bm [])] 9) ?_ (by rw[oo,<-e];exact⟨cE _,λφ bs w _ hw=>⟨φ,hw,⟨jj.Aj _ _,.of rfl rfl⟩,rfl⟩⟩);refine auS (s:=7) ?_ rfl (by simp only[List.all_cons,eR];rfl) rfl (by kernel_rfl) (λi a' h=>aoY h) (B_ _);refine AZ (mw:=[]) (ls:=[0,1,7]) (ps:=[(0,0),(1,1),(2,2),(3,3),(4,4),(5,5),(6,6)]) (H2:=hA {z with X:=w_ z.X z.xc (oo l b),xc:=z.xc+1}) (t:=bg [(0,.aa 0 0),(1,.ah (fC l) l.length 9),(7,.fw z.xc 0)]) ?_;refine hE Py aDH ?_;refine⟨⟨by simp only;omega,by simp only;omega,rfl,rfl⟩,λh0=>absurd (mo h0) cK,λ_=>⟨⟨ha.1,by simp only;omega,asD _⟩,rfl,rfl⟩⟩
theorem Ga{xx m0 g n l l' vs eF el t}(hg:cR l g=some (.al vs el))(hl:∀id,cR l' id=if id=g then some (.al eF el)else cR l id)(hn:cR l n=none)(hr:∀φ x,br φ vs x->br φ eF x)(bS:eF.length=vs.length/\eF.all AV.cY=vs.all AV.cY):
 lL m0 (eA xx l n) (eA xx (l'++[(n,.aA [] t)]) (n+1)) (λφ aQ=>aQ=φ):=by
 have FG:g≠n:=by rintro rfl;rw[hg]at hn;cases hn
 have CS:cR l' n=none:=by rw[hl,az (Ne.symm FG)];exact hn
 have⟨a1,a2⟩:=aw3 (m0:=m0) (xx:=xx) (n:=n) hg hl hr bS;have⟨b1,b2⟩:=F' (xx:=xx) (m0:=m0) (.aA [] t) CS;refine⟨Nat.le_succ n,λφ bs w cA hw=>?_⟩;obtain⟨kV,k1,k2,rfl⟩:=a2 φ bs w cA hw;obtain⟨φ3,k4,k5,rfl⟩:=b2 _ bs w cA k1;exact⟨_,k4,⟨k2.1.rr k5.1,k2.2.qB k5.2⟩,rfl⟩
theorem amI(n l i):DQ n (l++[i])=.fE n (l.length+1) 1:=by
 cases l with
 |nil=>rfl
 |cons a l=>simp[DQ]
theorem awb{z m l b}(hk:Hm z m l):∀i:Nat,i<=l.length->
 bu Z 30 71 7 (.fw (iF ⟨m,z.oc,z.X,z.xc⟩ l).xc 0) (Mm (rP z m l b)) (OE (fC l) l.length (i:Int)) (hK (z.ks (iF ⟨m,z.oc,z.X,z.xc⟩ (l.take i))) i b (jw (l.take i))) (ax Z 30 0):=by
 refine dF (λi=>l.length-i) _ _ _ _ ?_;rintro i hi ih;refine hE Py aDJ ?_;refine aD (λay=>?_) λbq=>?_
 .have ay:i<l.length:=by simpa using ay
  have b_:=QD ay;have hkl:=hk.len;have aZ:=Xv hk.ok (l.take i);have hsn:l.take (i+1)=l.take i++[l[i]]:=by rw[sd,gS ay];rfl
  have h1:=ih (i+1) (by omega) (by omega);rw[hsn,ap7,aho]at h1;rw[wJ,NU hi]at aZ;generalize iF ⟨m,z.oc,z.X,z.xc⟩ (l.take i)=k at h1 aZ⊢;generalize l[i]=x at b_ h1;have⟨id,⟨nm,ar,ao⟩,⟨k1,k2,k3,k4⟩,cd⟩:=x;refine⟨i,rfl,ay,id,nm,ar,ao,k1,k2,k3,k4,cS cd,cd.length,b_,⟨by rw[YS,wJ,NU hi],by omega,rfl,rfl⟩,?_⟩;rw[cH];refine aD (λha=>?_) λha=>?_
  .have ha:ao≠0:=by simpa using ha
   rw[aL ha]at h1;have cK:=Nw aZ ⟨nm,ar,ao⟩;have⟨c1,c2⟩:=LC (k:=k) ⟨nm,ar,ao⟩;have cA:=cK.len _ c1;refine⟨_,_,_,_,_,ahy (c:=k.c) (p:=⟨nm,ar,ao⟩),⟨by omega,rfl,rfl⟩,aX (iO ⟨nm,ar,ao⟩ k.m k.c).aW,?_,_,?_,h1⟩
   .by_cases h0:(iO ⟨nm,ar,ao⟩ k.m k.c).aW=[]
    .exact .inl ⟨by rw[h0];rfl,by rw[h0];rfl⟩
    .refine .inr ⟨λh=>h0 (mo h),2,?_,by rw[aX,qo,mu]⟩;rw[az h0];exact(cK.ui _ c1 h0).2
   .have:=ab8 (n:=k.xc) (aW:=(iO ⟨nm,ar,ao⟩ k.m k.c).aW++[id]) (QP ⟨nm,ar,ao⟩ k.m k.c) cK.Gx;rw[amI]at this;exact this
  .have ha:¬ao≠0:=by simpa using ha
   rw[az ha]at h1;exact h1
 .have bq:l.length<=i:=by simpa using bq
  obtain rfl:i=l.length:=by omega
  rw[s6];exact awa hk.ne hk.fG hk.add
theorem aeR:aS Z WD:=by
 refine cu Py ?_;rintro⟨z,m,l,b,zf,c⟩ args H ⟨rfl,rfl,hk,hq,hc⟩;simp only at hk hq hc;subst hq;obtain rfl:(iF ⟨m,z.oc,z.X,z.xc⟩ l).xc=c:=Nat.succ.inj hc;refine eE 71 Py aDI ?_;have h:=awb (b:=b) hk 0 (fu _);have hz:z.ks (iF ⟨m,z.oc,z.X,z.xc⟩ (l.take 0))=z:=by have⟨a0,a1,a2,a3,a4,a5,a6,a7,a8,a9,Li,Lj,Lk,Ll,Lm,Ln⟩:=z;have:=hk.eQ;subst this;rfl
 rw[hz]at h;refine rJ h (Ga (l':=[(0,dS z 1 2 3 4 5 6),(1,cQ z),(2,dz z),(3,dx z),(4,dg z),(5,dG z),(6,cJ z),(7,.al [.aj 8 0 4,.au b] 97)]) (g:=7) rfl (λid=>by rcases id with _|_|_|_|_|_|_|_|id<;>rfl) rfl (λφ x hx=>zC hx) ⟨rfl,rfl⟩)
abbrev s_(F:AV)(l:List gj)(i:Nat):Ev.Tr AV:=bg [(1,F),(9,.ah (fW l) l.length 4),(10,J (aP l.length)),(11,J (i:Int))]
abbrev sn(F:AV)(po:Nat)(l:List gj)(i:Nat)(ss:List j3)(j:Nat):Ev.Tr AV:=bg [(1,F),(5,.aa po 0),(9,.ah (fW l) l.length 4),(10,J (aP l.length)),(11,J (i:Int)),(16,.ah (oj ss) ss.length 9),(17,J (aP ss.length)),(18,J (j:Int))]
abbrev rZ(p:gj):bf:=vh p.jK p.ar p.EY (oj p.cf) p.cf.length
def uL{σ:Type}(iE:σ->gj->j3->σ)(st:σ)(l:List gj):σ:=l.foldl (λst p=>p.cf.foldl (λst s=>iE st p s) st) st
def ki(l:List gj):Nat:=(l.map λp=>p.cf.length).sum
section
variable{σ:Type}{HS:σ->AH}{HP:σ->bf->AH}{F:AV}{m0 po:Nat}{v:AV}{H1:AH}{iE:σ->gj->j3->σ}{Ap:Nat->σ->Prop}{K:Nat}{l:List gj}
theorem agY
 (hI:∀k st i p j (h:j<p.cf.length),p∈l->i<l.length->Ap k st->k<K->Ap (k+1) (iE st p p.cf[j])/\(bu Z 23 32 m0 v H1 (sn F po l i p.cf (j+1)) (HP (iE st p p.cf[j]) (rZ p)) (ax Z 23 1)->bu Z 23 32 m0 v H1 (sn F po l i p.cf j) (HP st (rZ p)) (ax Z 23 1))) (hX:∀st i p,p∈l->i<l.length->bu Z 23 32 m0 v H1 (s_ F l (i+1)) (HS st) (ax Z 23 0)->bu Z 23 32 m0 v H1 (sn F po l i p.cf p.cf.length) (HP st (rZ p)) (ax Z 23 1)) {p} (hp:p∈l) {i} (hi:i<l.length):∀post bh st k,p.cf=bh++post->Ap k st->k+post.length<=K->
   Ap (k+post.length) (post.foldl (λst s=>iE st p s) st)/\(bu Z 23 32 m0 v H1 (s_ F l (i+1)) (HS (post.foldl (λst s=>iE st p s) st)) (ax Z 23 0)->bu Z 23 32 m0 v H1 (sn F po l i p.cf bh.length) (HP st (rZ p)) (ax Z 23 1))
 |[],bh,st,k,e,hk,hK=>by rw[jH]at e;refine⟨hk,λh=>?_⟩;have:=hX st i p hp hi h;rw[e]at this;rw[e];exact this
 |s::post,bh,st,k,e,hk,hK=>by
  have ay:bh.length<p.cf.length:=by rw[e];simp
  have hg:p.cf[bh.length]=s:=by simp[e]
  have⟨h1,h2⟩:=hI k st i p bh.length ay hp hi hk (by simp at hK;omega);rw[hg]at h1 h2;have⟨h3,h4⟩:=agY hI hX hp hi post (bh++[s]) (iE st p s) (k+1) (by rw[e,km];rfl) h1 (by simp at hK;omega);refine⟨by rw[ei,show k+(post.length+1)=k+1+post.length by omega];exact h3,λh=>h2 ?_⟩;have:=h4 h;rw[cL]at this;exact this
theorem Qy
 (hO:∀st i (h:i<l.length),bu Z 23 32 m0 v H1 (sn F po l i l[i].cf 0) (HP st (rZ l[i])) (ax Z 23 1)->bu Z 23 32 m0 v H1 (s_ F l i) (HS st) (ax Z 23 0))
 (hI:∀k st i p j (h:j<p.cf.length),p∈l->i<l.length->Ap k st->k<K->Ap (k+1) (iE st p p.cf[j])/\(bu Z 23 32 m0 v H1 (sn F po l i p.cf (j+1)) (HP (iE st p p.cf[j]) (rZ p)) (ax Z 23 1)->bu Z 23 32 m0 v H1 (sn F po l i p.cf j) (HP st (rZ p)) (ax Z 23 1)))
 (hX:∀st i p,p∈l->i<l.length->bu Z 23 32 m0 v H1 (s_ F l (i+1)) (HS st) (ax Z 23 0)->bu Z 23 32 m0 v H1 (sn F po l i p.cf p.cf.length) (HP st (rZ p)) (ax Z 23 1)):
 ∀post bh st k,l=bh++post->Ap k st->k+ki post<=K->
  Ap (k+ki post) (uL iE st post)/\(bu Z 23 32 m0 v H1 (s_ F l l.length) (HS (uL iE st post)) (ax Z 23 0)->bu Z 23 32 m0 v H1 (s_ F l bh.length) (HS st) (ax Z 23 0))
 |[],bh,st,k,e,hk,hK=>by rw[jH]at e;refine⟨hk,λh=>?_⟩;rw[e]at h⊢;exact h
 |p::post,bh,st,k,e,hk,hK=>by
  have ay:bh.length<l.length:=by rw[e];simp
  have hg:l[bh.length]=p:=by simp[e]
  have hp:p∈l:=by rw[e];simp
  have hn:ki (p::post)=p.cf.length+ki post:=by simp[ki]
  rw[hn]at hK⊢;have⟨h1,h2⟩:=agY hI hX hp ay p.cf [] st k rfl hk (by omega);have⟨h3,h4⟩:=Qy hO hI hX post (bh++[p]) (p.cf.foldl (λst s=>iE st p s) st) (k+p.cf.length) (by rw[e,km];rfl) h1 (by omega);refine⟨by rw[<-Gl];exact h3,λh=>?_⟩;have h5:=h4 h;rw[cL]at h5;have h6:=hO st bh.length ay;rw[hg]at h6;exact h6 (h2 h5)
end
def nJ(z:Ar)(b:Bool):AH:=bU z.X z.xc [(0,.al [.au b] 4),(1,.al [.aa 2 0] 25),(2,dS z 3 4 5 6 7 8),(3,cQ z),(4,dz z),(5,dx z),(6,dg z),(7,dG z),(8,cJ z)] 9
def Rt(z:Ar)(b:Bool)(o:bf):AH:=bU z.X z.xc [(0,.al [.au b] 4),(1,.al [.aa 2 0] 25),(2,dS z 3 4 5 6 7 8),(3,cQ z),(4,dz z),(5,dx z),(6,dg z),(7,dG z),(8,cJ z),(9,o)] 10
theorem aiL{z z' b b'}(h:nJ z b=nJ z' b'):z=z'/\b=b':=by have h0:=congrArg (λH=>AH.bc H 2) h;have h1:=congrArg (λH=>AH.bc H 3) h;have h2:=congrArg (λH=>AH.bc H 4) h;have h3:=congrArg (λH=>AH.bc H 5) h;have h4:=congrArg (λH=>AH.bc H 6) h;have h5:=congrArg (λH=>AH.bc H 7) h;have h6:=congrArg (λH=>AH.bc H 8) h;have h8:=congrArg (λH=>AH.bc H 0) h;have h7:=congrArg AH.x h;replace h1:some (cQ z)=some (cQ z'):=h1;replace h6:some (cJ z)=some (cJ z'):=h6;replace h8:some (bf.al [.au b] 4)=some (bf.al [.au b'] 4):=h8;have⟨a0,a1,a2,a3,a4,a5,a6,a7,a8,a9,Li,Lj,Lk,Ll,Lm,Ln⟩:=z;have⟨b0,b1,b2,b3,b4,b5,b6,b7,b8,b9,P8,P9,P_,P',Qa,Qb⟩:=z';simp only[dS,cQ,dz,dx,dg,dG,cJ,nX,bf.al.injEq,bf.aA.injEq,bf.aY.injEq,iL,AV.bV.injEq,AV.au.injEq,AV.aj.injEq,XH.mk.injEq,true_and,and_true]at h0 h1 h2 h3 h4 h5 h6 h7 h8;obtain⟨rfl,rfl,rfl,rfl⟩:=h0;obtain⟨rfl,rfl⟩:=h2;obtain⟨rfl,rfl⟩:=h3;obtain⟨rfl,rfl⟩:=h4;obtain⟨rfl,rfl⟩:=h5;obtain⟨rfl,rfl⟩:=h7;subst h1 h6 h8;exact⟨rfl,rfl⟩
structure U1 where
 z:Ar
 b:Bool
 p:cX
 s:j3
def u1X:cq U1 where
 bh w A H:=A=[.ai (H8 w.p),.ai (rG w.s),.aa 0 0,.aa 1 0]/\H=nJ w.z w.b/\w.z.nq=[]
 v w:=.aC []
 aK w:=nJ w.z w.b
theorem aFw:u1X.ck:=by rintro⟨z,b,p,s⟩ ⟨z',b',p',s'⟩ A H ⟨_,h2,_⟩ ⟨_,h4,_⟩;obtain⟨rfl,rfl⟩:=aiL (h2.symm.trans h4);rfl
def Hi:Ev.bp:=bR 24 (bW u1X aFw lS) WD
def wv:Nat->LN:=fh [(2,[1,9,10,11]),(5,[1,5,9,10,11,16,17,18])]
theorem aDz{z b nm ar ao i k n s cs len k' n' s' cs' cG L Q}:
 bC Z WD (λ_=>[]) L Q 1000 24 [.ai [.ad nm,J ar,J ao],.ai [J i,J k,J n,.ad s,.ah cs len 4,J k',J n',.ad s',.ah cs' cG 4],.aa 0 0,.aa 1 0] (nJ z b)=(
 aw b (Q (.aC []) (nJ z true)) (∃gA Ls,eZ Z 2 4 z.nq (J i)=some (.au gA,Ls)/\Q (.aC []) (nJ z gA))):=by kernel_rfl
abbrev adg(x0:_)(x1:_)(x2:_):=bg [(1,.bn (.func 24) [] [.aa 0 0,.aa 1 0]),(9,.ah x0 x1 4),(10,J (aP x1)),(11,J x2)]
theorem aDw{z b nx ps np L Q}:
 bC Z Hi wv L Q 1000 23 [.ai [J nx,.ah ps np 4],.bn (.func 24) [] [.aa 0 0,.aa 1 0]] (nJ z b)=(
 L (adg ps np 0) (nJ z b) (ax Z 23 0)):=by kernel_rfl
abbrev adh(x0:_)(x1:_)(x2:_)(x3:_)(x4:_)(x5:_):=bg [(1,.bn (.func 24) [] [.aa 0 0,.aa 1 0]),(5,.aa 9 0),(9,.ah x0 x1 4),(10,J (aP x1)),(11,J x2),(16,.ah x3 x4 9),(17,J (aP x4)),(18,J x5)]
theorem anx{z b ps np i L Q}:
 cg Z Hi wv L Q 1000 23 9 (adg ps np i) (ax Z 23 0) (nJ z b)=(
 aw (decide (i<aP np)) (∃aJ:Nat,i=(aJ:Int)/\aJ<np/\(∃s n gA cs len,((ps.drop (aJ*4)).take 4:List AV)=[.ad s,J n,.au gA,.ah cs len 9]/\L (adh ps np i cs len 0) (Rt z b (vh s n gA cs len)) (ax Z 23 1))) (Q (.aC []) (nJ z b))):=by kernel_rfl
theorem anw{z b ps np i nm ar dy ss ns j L Q}:
 cg Z Hi wv L Q 1000 23 9 (adh ps np i ss ns j) (ax Z 23 1) (Rt z b (.al [.ad nm,J ar,.au dy,.ah ss ns 9] 34))=(
 aw (decide (j<aP ns)) (∃aJ:Nat,j=(aJ:Int)/\aJ<ns/\(∃n aN bz s cs len ct dm cr bP bI,((ss.drop (aJ*9)).take 9:List AV)=[J n,J aN,J bz,.ad s,.ah cs len 4,J ct,J dm,.ad cr,.ah bP bI 4]/\(∃w:U1,(([.ai [.ad nm,J ar,J 0],.ai [J n,J aN,J bz,.ad s,.ah cs len 4,J ct,J dm,.ad cr,.ah bP bI 4],.aa 0 0,.aa 1 0]:LV)=[.ai (H8 w.p),.ai (rG w.s),.aa 0 0,.aa 1 0]/\nJ z b=nJ w.z w.b/\w.z.nq=[])/\L (adh ps np i ss ns (wI (j+1))) (Rt w.z w.b (vh nm ar dy ss ns)) (ax Z 23 1)))) (L (adg ps np (wI (i+1))) (nJ z b) (ax Z 23 0))):=by kernel_rfl
theorem Aq:aS Z Hi:=by
 refine cu aeR ?_;rintro⟨z,b,⟨nm,ar,ao⟩,⟨i,⟨⟨k,n,s,l⟩,⟨k',n',s',l'⟩⟩⟩⟩ args H ⟨rfl,rfl,hz⟩;refine eE 16 aeR aDz ?_;refine aD (λhb=>?_) λhb=>?_
 .subst hb;exact⟨rfl,rfl⟩
 .subst hb;exact⟨false,false,by rw[show z.nq=[]from hz];rfl,rfl,rfl⟩
theorem ase{z b d}(hz:z.nq=[])(hl:d.ij.length<=4000000)(hc:∀p∈d.ij,p.cf.length<=4000000):
 bX Z 23 [.ai (lQ d),.bn (.func 24) [] [.aa 0 0,.aa 1 0]] (nJ z b) (.aC []) (nJ z b):=by
 obtain⟨nx,l⟩:=d;refine eS Aq wv 32 ?_;refine cast (@aDw z b nx (fW l) l.length _ _).symm ?_;have:=Qy (σ:=Unit) (HS:=λ_=>nJ z b) (HP:=λ_ o=>Rt z b o) (F:=.bn (.func 24) [] [.aa 0 0,.aa 1 0]) (m0:=9) (v:=.aC []) (H1:=nJ z b) (iE:=λst _ _=>st) (Ap:=λ_ _=>True) (K:=ki l) (l:=l)
  (λst i h hh=>by refine hD Aq wv ?_;refine cast (@anx z b (fW l) l.length (i:Int) _ _).symm ?_;have b_:=EZ h;generalize l[i]=p at b_ hh;obtain⟨nm,ar,dy,cf⟩:=p;exact aD (λ_=>⟨i,rfl,h,nm,ar,dy,oj cf,cf.length,b_,hh⟩) λhn=>absurd (eB hn) (by simp only[r6];omega))
  (λk st i p j h hp hi _ _=>⟨trivial,λhh=>by
    obtain⟨nm,ar,dy,cf⟩:=p;have kv:cf.length<=4000000:=hc _ hp;replace h:j<cf.length:=h;refine hD Aq wv ?_;refine cast (@anw z b (fW l) l.length (i:Int) nm ar dy (oj cf) cf.length (j:Int) _ _).symm ?_;have b_:=QL h;generalize cf[j]=s at b_;have⟨id,⟨⟨k,n,et,ts⟩,⟨k',n',oS,n5⟩⟩⟩:=s;refine aD (λ_=>⟨j,rfl,h,id,k,n,et,aH ts,ts.length,k',n',oS,aH n5,n5.length,b_,⟨z,b,⟨nm,ar,0⟩,⟨id,⟨⟨k,n,et,ts⟩,⟨k',n',oS,n5⟩⟩⟩⟩,⟨rfl,rfl,hz⟩,?_⟩) λhn=>ab (eB hn)
    rw[cH];exact hh⟩)
  (λst i p hp hi hh=>by
    have⟨nm,ar,dy,cf⟩:=p;refine hE Aq anw ?_;refine aD (λhn=>ab (dX hn)) λ_=>?_
    simp only at hl;rw[cH];exact hh)
  l [] () 0 rfl trivial (by omega)
 refine this.2 ?_;refine hE Aq anx ?_;exact aD (λhn=>ab (dX hn)) λ_=>⟨rfl,rfl⟩
def p_(z:Ar)(e:Int)(tr:Bool)(aW:LV)(ni:Nat)(bs:LV)(nb:Nat):AH:=bU z.X z.xc [(0,.al [.aa 5 0] 25),(1,.al [J e] 27),(2,.al [.au tr] 4),(3,.al [.aj 6 ni 1] 35),(4,.al [.aj 7 nb 1] 82),(5,dS z 8 9 10 11 12 13),(6,.aA aW 2),(7,.aA bs 29),(8,cQ z),(9,dz z),(10,dx z),(11,dg z),(12,dG z),(13,cJ z)] 14
def CA(z:Ar)(e:Int)(tr:Bool)(aW:LV)(ni:Nat)(bs:LV)(nb:Nat):AH:=bU z.X z.xc [(0,.al [.aa 5 0] 25),(1,.al [J e] 27),(2,.al [.au tr] 4),(3,.al [.aj 14 ni 1] 35),(4,.al [.aj 15 nb 1] 82),(5,dS z 8 9 10 11 12 13),(6,.bm []),(7,.bm []),(8,cQ z),(9,dz z),(10,dx z),(11,dg z),(12,dG z),(13,cJ z),(14,.aA aW 2),(15,.aA bs 29)] 16
def Zv(z:Ar)(e:Int)(tr:Bool)(aW:LV)(ni:Nat)(bs:LV)(nb:Nat)(o:bf):AH:=bU z.X z.xc [(0,.al [.aa 5 0] 25),(1,.al [J e] 27),(2,.al [.au tr] 4),(3,.al [.aj 15 ni 1] 35),(4,.al [.aj 16 nb 1] 82),(5,dS z 8 9 10 11 12 13),(6,.bm []),(7,.bm []),(8,cQ z),(9,dz z),(10,dx z),(11,dg z),(12,dG z),(13,cJ z),(14,o),(15,.aA aW 2),(16,.aA bs 29)] 17
theorem aiM{z z' e e' tr BE aW zt bs vL ni ni' nb nb'}(h:p_ z e tr aW ni bs nb=p_ z' e' BE zt ni' vL nb'):z=z'/\e=e'/\tr=BE/\aW=zt/\ni=ni'/\bs=vL/\nb=nb':=by have g1:=congrArg (λH=>AH.bc H 1) h;have g2:=congrArg (λH=>AH.bc H 2) h;have g3:=congrArg (λH=>AH.bc H 3) h;have g4:=congrArg (λH=>AH.bc H 4) h;have g6:=congrArg (λH=>AH.bc H 6) h;have g7:=congrArg (λH=>AH.bc H 7) h;have h0:=congrArg (λH=>AH.bc H 5) h;have h1:=congrArg (λH=>AH.bc H 8) h;have h2:=congrArg (λH=>AH.bc H 9) h;have h3:=congrArg (λH=>AH.bc H 10) h;have h4:=congrArg (λH=>AH.bc H 11) h;have h5:=congrArg (λH=>AH.bc H 12) h;have h6:=congrArg (λH=>AH.bc H 13) h;have h7:=congrArg AH.x h;replace g1:some (bf.al [J e] 27)=some (bf.al [J e'] 27):=g1;replace g2:some (bf.al [.au tr] 4)=some (bf.al [.au BE] 4):=g2;replace g3:some (bf.al [.aj 6 ni 1] 35)=some (bf.al [.aj 6 ni' 1] 35):=g3;replace g4:some (bf.al [.aj 7 nb 1] 82)=some (bf.al [.aj 7 nb' 1] 82):=g4;replace g6:some (bf.aA aW 2)=some (bf.aA zt 2):=g6;replace g7:some (bf.aA bs 29)=some (bf.aA vL 29):=g7;replace h1:some (cQ z)=some (cQ z'):=h1;replace h6:some (cJ z)=some (cJ z'):=h6;have⟨a0,a1,a2,a3,a4,a5,a6,a7,a8,a9,Li,Lj,Lk,Ll,Lm,Ln⟩:=z;have⟨b0,b1,b2,b3,b4,b5,b6,b7,b8,b9,P8,P9,P_,P',Qa,Qb⟩:=z';simp only[dS,cQ,dz,dx,dg,dG,cJ,nX,bf.al.injEq,bf.aA.injEq,bf.aY.injEq,iL,AV.bV.injEq,AV.au.injEq,AV.aj.injEq,XH.mk.injEq,true_and,and_true]at g1 g2 g3 g4 g6 g7 h0 h1 h2 h3 h4 h5 h6 h7;obtain⟨rfl,rfl,rfl,rfl⟩:=h0;obtain⟨rfl,rfl⟩:=h2;obtain⟨rfl,rfl⟩:=h3;obtain⟨rfl,rfl⟩:=h4;obtain⟨rfl,rfl⟩:=h5;obtain⟨rfl,rfl⟩:=h7;subst h1 h6 g1 g2 g3 g4 g6 g7;exact⟨rfl,rfl,rfl,rfl,rfl,rfl,rfl⟩
structure S3 where
 z:Ar
 e:Int
 aW:LI
 cP:List (List eW)
def mb(l:List (List eW)):LV:=l.map λb=>.ah (fC b) b.length 9
def jJ(tr:Bool)(st:S3)(s:j3):S3:=
 if st.e≠0 then st
 else if(oK s.c st.z.ao tr).2≠0 then{st with e:=(oK s.c st.z.ao tr).2}
 else⟨(og st.z s.id (oK s.c st.z.ao tr).1).1,(og st.z s.id (oK s.c st.z.ao tr).1).2.2,st.aW++[s.id],st.cP++[(og st.z s.id (oK s.c st.z.ao tr).1).2.1]⟩
structure U3 where
 st:S3
 tr:Bool
 p:cX
 s:j3
 lG:S3
def Pm(st:S3)(tr:Bool):AH:=p_ st.z st.e tr (aX st.aW) st.aW.length (mb st.cP) st.cP.length
def u3X:cq U3 where
 bh w A H:=A=[.ai (H8 w.p),.ai (rG w.s),.aa 0 0,.aa 1 0,.aa 2 0,.aa 3 0,.aa 4 0]/\H=p_ w.st.z w.st.e w.tr (aX w.st.aW) w.st.aW.length (mb w.st.cP) w.st.cP.length/\w.st.z.fo=[]/\ub w.s.c/\w.st.aW.length+1<=4000000/\w.st.cP.length+1<=4000000/\jJ w.tr w.st w.s=w.lG
 v w:=.aC []
 aK w:=CA w.lG.z w.lG.e w.tr (aX w.lG.aW) w.lG.aW.length (mb w.lG.cP) w.lG.cP.length
theorem YK:∀{l m},mb l=mb m->l=m
 |[],[],_=>rfl
 |[],_::_,h=>by simp[mb]at h
 |_::_,[],h=>by simp[mb]at h
 |t::l,u::m,h=>by simp only[mb,gZ,iL,AV.ah.injEq,and_true]at h;rw[QC h.1.2 h.1.1,YK h.2]
theorem aFx:u3X.ck:=by rintro⟨st,tr,p,s,lG⟩ ⟨jT,BE,p',s',aHT⟩ A H ⟨h1,h2,_,_,_,_,q1⟩ ⟨h3,h4,_,_,_,_,q2⟩;have⟨e1,e2,e3,e4,_,e5,_⟩:=aiM (h2.symm.trans h4);rw[h1]at h3;simp at h3;have e6:=YV h3.2;have e7:=zQ e4;have e8:=YK e5;have⟨z,e,aW,cP⟩:=st;have⟨z',e',zt,aqN⟩:=jT;subst e1 e2 e3 e6 e7 e8;rw[q1]at q2;subst q2;rfl
def Hj:Ev.bp:=bR 26 (bW u3X aFx lS) Hi
theorem aDA{z e tr aW ni bs nb nm ar ao i k n s cs len k' n' s' cs' cG L Q}:
 bC Z Hi (λ_=>[]) L Q 3000 26 [.ai [.ad nm,J ar,J ao],.ai [J i,J k,J n,.ad s,.ah cs len 4,J k',J n',.ad s',.ah cs' cG 4],.aa 0 0,.aa 1 0,.aa 2 0,.aa 3 0,.aa 4 0] (p_ z e tr aW ni bs nb)=(
 ∃c,aw c (∃b,eZ Z 2 83 z.fo (J i)=some (.kP,b)/\aw (e !=0) (Q (.aC []) (p_ z e tr aW ni bs nb)) (∃w:Fw,(([.ai [J k,J n,.ad s,.ah cs len 4,J k',J n',.ad s',.ah cs' cG 4],J z.ao,.au tr]:LV)=[.ai (HAppend.hAppend (aU w.c.1) (aU w.c.2)),J w.a,.au w.tr]/\aq [] 0=an/\bB w.c.1/\bB w.c.2/\oK w.c w.a w.tr=Prod.mk w.r w.e)/\aw (w.e==0) (∃ae:Mw,(([.aa 0 0,.ah (du w.r) w.r.length 5,.bn (.func 29) [] [.aa 1 0]]:LV)=[.aa 0 0,.ah (du ae.l) ae.l.length 5,.bn (.func 29) [] [.aa 1 0]]/\qc z (pI i k n s cs len k' n' s' cs' cG)=qc ae.z (uj ae.i ae.c)/\(∀f,f∈ae.l->ig f/\nZ f)/\ae.l.length<=4000000/\og ae.z ae.i ae.l=Prod.mk ae.zf (Prod.mk ae.bl ae.e))/\(aW.length=ni*1/\ni+1<=4194304/\true=true/\true=true)/\some (.aj 7 nb 1:AV)=some (.aj 7 nb 1:AV)/\(bs.length=nb*1/\nb+1<=4194304/\true=true/\true=true)/\Q (.aC []) (CA ae.zf ae.e tr (aW++[J ae.i]) (ni+1) (bs++[.ah (fC ae.bl) ae.bl.length 9]) (nb+1))) (Q (.aC []) (p_ z w.e tr aW ni bs nb)))) (∃aN off b,eZ Z 2 83 z.fo (J i)=some (.fw aN off,b)/\Q (.aC []) (p_ z e tr aW ni bs nb))):=by kernel_rfl
abbrev adi(x0:_)(x1:_)(x2:_):=bg [(1,.bn (.func 26) [] [.aa 0 0,.aa 1 0,.aa 2 0,.aa 3 0,.aa 4 0]),(9,.ah x0 x1 4),(10,J (aP x1)),(11,J x2)]
theorem aDx{z e tr aW ni bs nb nx ps np L Q}:
 bC Z Hj wv L Q 1000 23 [.ai [J nx,.ah ps np 4],.bn (.func 26) [] [.aa 0 0,.aa 1 0,.aa 2 0,.aa 3 0,.aa 4 0]] (p_ z e tr aW ni bs nb)=(
 L (adi ps np 0) (p_ z e tr aW ni bs nb) (ax Z 23 0)):=by kernel_rfl
abbrev adj(x0:_)(x1:_)(x2:_)(x3:_)(x4:_)(x5:_):=bg [(1,.bn (.func 26) [] [.aa 0 0,.aa 1 0,.aa 2 0,.aa 3 0,.aa 4 0]),(5,.aa 14 0),(9,.ah x0 x1 4),(10,J (aP x1)),(11,J x2),(16,.ah x3 x4 9),(17,J (aP x4)),(18,J x5)]
theorem anA{z e tr aW ni bs nb ps np i L Q}:
 cg Z Hj wv L Q 1000 23 14 (adi ps np i) (ax Z 23 0) (CA z e tr aW ni bs nb)=(
 aw (decide (i<aP np)) (∃aJ:Nat,i=(aJ:Int)/\aJ<np/\(∃s n b cs len,((ps.drop (aJ*4)).take 4:List AV)=[.ad s,J n,.au b,.ah cs len 9]/\L (adj ps np i cs len 0) (Zv z e tr aW ni bs nb (vh s n b cs len)) (ax Z 23 1))) (Q (.aC []) (CA z e tr aW ni bs nb))):=by kernel_rfl
theorem anz{z e tr aW ni bs nb ps np i nm ar dy ss ns j L Q}:
 cg Z Hj wv L Q 1000 23 14 (adj ps np i ss ns j) (ax Z 23 1) (Zv z e tr aW ni bs nb (.al [.ad nm,J ar,.au dy,.ah ss ns 9] 34))=(
 aw (decide (j<aP ns)) (∃aJ:Nat,j=(aJ:Int)/\aJ<ns/\(∃n aN bz s cs len ct dm cr bP bI,((ss.drop (aJ*9)).take 9:List AV)=[J n,J aN,J bz,.ad s,.ah cs len 4,J ct,J dm,.ad cr,.ah bP bI 4]/\(∃w:U3,(([.ai [.ad nm,J ar,J 0],.ai [J n,J aN,J bz,.ad s,.ah cs len 4,J ct,J dm,.ad cr,.ah bP bI 4],.aa 0 0,.aa 1 0,.aa 2 0,.aa 3 0,.aa 4 0]:LV)=[.ai (H8 w.p),.ai (rG w.s),.aa 0 0,.aa 1 0,.aa 2 0,.aa 3 0,.aa 4 0]/\p_ z e tr aW ni bs nb=Pm w.st w.tr/\w.st.z.fo=[]/\ub (j3.c w.s)/\w.st.aW.length+1<=4000000/\w.st.cP.length+1<=4000000/\jJ w.tr w.st w.s=w.lG)/\L (adj ps np i ss ns (wI (j+1))) (bU w.lG.z.X w.lG.z.xc [(0,.al [.aa 5 0] 25),(1,.al [J w.lG.e] 27),(2,.al [.au w.tr] 4),(3,.al [.aj 15 w.lG.aW.length 1] 35),(4,.al [.aj 16 w.lG.cP.length 1] 82),(5,dS w.lG.z 8 9 10 11 12 13),(6,.bm []),(7,.bm []),(8,cQ w.lG.z),(9,dz w.lG.z),(10,dx w.lG.z),(11,dg w.lG.z),(12,dG w.lG.z),(13,cJ w.lG.z),(14,vh nm ar dy ss ns),(15,bH w.lG.aW 2),(16,.aA (mb w.lG.cP) 29)] 17) (ax Z 23 1)))) (L (adi ps np (wI (i+1))) (CA z e tr aW ni bs nb) (ax Z 23 0))):=by kernel_rfl
abbrev aiQ(x0:_)(x1:_)(x2:_)(x3:_)(x4:_)(x5:_)(x6:_)(x7:_)(x8:_):=bU x0 x1 [(0,.al [.aa 5 0] 25),(1,.al [J x2] 27),(2,.al [.au x3] 4),(3,.al [.aj 14 x4 1] 35),(4,.al [.aj 7 x5 1] 82),(5,dS x6 8 9 10 11 12 13),(6,.bm []),(7,.aA x7 29),(8,cQ x6),(9,dz x6),(10,dx x6),(11,dg x6),(12,dG x6),(13,cJ x6),(14,.aA x8 2)] 15
theorem SX{z e tr aW bs ni nb}:Mv (p_ z e tr aW ni bs nb) (aiQ z.X z.xc e tr ni nb z bs aW) 6/\Mv (aiQ z.X z.xc e tr ni nb z bs aW) (CA z e tr aW ni bs nb) 7:=
 ⟨qk (l':=[(0,.al [.aa 5 0] 25),(1,.al [J e] 27),(2,.al [.au tr] 4),(3,.al [.aj 14 ni 1] 35),(4,.al [.aj 7 nb 1] 82),(5,dS z 8 9 10 11 12 13),(6,.bm []),(7,.aA bs 29),(8,cQ z),(9,dz z),(10,dx z),(11,dg z),(12,dG z),(13,cJ z)]) (by kernel_rfl) rfl rfl,
  qk (l':=[(0,.al [.aa 5 0] 25),(1,.al [J e] 27),(2,.al [.au tr] 4),(3,.al [.aj 14 ni 1] 35),(4,.al [.aj 15 nb 1] 82),(5,dS z 8 9 10 11 12 13),(6,.bm []),(7,.bm []),(8,cQ z),(9,dz z),(10,dx z),(11,dg z),(12,dG z),(13,cJ z),(14,.aA aW 2)]) (by kernel_rfl) rfl rfl⟩
theorem ak5{z z0 e e0 tr tr0 aW bs ajM bs0 ni nb ni0 nb0 f A}(h:bX Z f A (p_ z0 e0 tr0 ajM ni0 bs0 nb0) (.aC []) (p_ z e tr aW ni bs nb)):bX Z f A (p_ z0 e0 tr0 ajM ni0 bs0 nb0) (.aC []) (CA z e tr aW ni bs nb):=
 E_ (E_ h SX.1 rfl (by show(14:Nat)<=14;omega)) SX.2 rfl (by show(14:Nat)<=15;omega)
theorem Yp:∀l z,∃i,(eu z l).1={z with id:=i}
 |[],z=>⟨z.id,rfl⟩
 |f::l,z=>by
  simp only[eu];split
  .exact⟨_,rfl⟩
  .have⟨i,h⟩:=Yp l z.tk;exact⟨i,by rw[h];rfl⟩
theorem agt(l z i):∃a j,(og z i l).1={z with ao:=a,id:=j}:=by
 cases l with
 |nil=>exact⟨_,z.id,rfl⟩
 |cons f l=>
  have⟨j,h⟩:=Yp l z;simp only[og];split
  .exact⟨z.ao,z.id,rfl⟩
  .split
   .exact⟨z.ao,j,by rw[h]⟩
   .exact⟨_,j,by rw[h];rfl⟩
theorem Rc{c a tr}(hc:ub c)(h:¬(oK c a tr).2≠0):(∀f∈(oK c a tr).1,ig f/\nZ f)/\(oK c a tr).1.length<=4001/\j4 c=true/\1<=a/\a<=1099511623776/\(oK c a tr).1=tC c a tr/\∀f∈tC c a tr,jU f=true:=by
 unfold oK at h⊢;by_cases hb:j4 c=false\/a<1\/a>1099511623776
 .rw[aL hb]at h;exact absurd (by decide) h
 .rw[az hb]at h⊢;have hv:j4 c=true:=by
   cases hh:j4 c with
   |true=>rfl
   |false=>exact absurd (.inl hh) hb
  unfold uw at h⊢;by_cases ha:(tC c a tr).all jU=true
  .rw[aL ha];have⟨new,kN⟩:=Y8 (first:=a) tr hc.1 hc.2 hv (by omega) (by omega);have h3:=ahY hc.1 hv kN;have h4:=att (first:=a) (tr:=tr) hv;exact⟨λf hf=>⟨h3.1 f hf,h4 f hf⟩,h3.2,hv,by omega,by omega,rfl,mq.1 ha⟩
  .rw[az ha]at h;exact absurd (by decide) h
theorem aqE(l b):mb (l++[b])=mb l++[.ah (fC b) b.length 9]:=by simp[mb]
theorem aqD(l):(mb l).length=l.length:=by simp[mb]
theorem ayN(l i):aX (l++[i])=aX l++[J i]:=by simp[aX]
theorem EC:aS Z Hj:=by
 refine cu Aq ?_;rintro⟨⟨z,e,aW,cP⟩,tr,⟨nm,ar,ao⟩,⟨i,⟨⟨k,n,s,l⟩,⟨k',n',s',l'⟩⟩⟩,lG⟩ args H ⟨rfl,rfl,hz,aZ,mS,iH,hq⟩;simp only at hz aZ mS iH hq;have wc:eZ Z 2 83 z.fo (J i)=some (.kP,false):=by rw[hz];rfl
 have Gy:=λ(v:AV) (H1:AH)=> @aDA z e tr (aX aW) aW.length (mb cP) cP.length nm ar ao i k n s (aH l) l.length k' n' s' (aH l') l'.length (bu Z 26 55 14 v H1) (fJ v H1)
 by_cases he:e≠0
 .rw[jJ,aL he]at hq;subst hq;refine ak5 ?_;refine eT Aq 3000 (λ_=>[]) 55 ?_;exact cast (Gy _ _).symm ⟨true,aD (λ_=>⟨false,wc,aD (λ_=>⟨rfl,rfl⟩) λh=>absurd (by simpa using h) he⟩) λh=>by cases h⟩
 .rw[jJ,az he]at hq;have IV:=λh=>(Rc (a:=z.ao) (tr:=tr) aZ h).1
  have RU:=λh=>(Rc (a:=z.ao) (tr:=tr) aZ h).2.1
  generalize kN:oK (.mk k n s l,.mk k' n' s' l') z.ao tr=r at hq IV RU;have⟨r1,r2⟩:=r;by_cases hf:r2≠0
  .rw[aL hf]at hq;subst hq;refine ak5 ?_;refine eT Aq 3000 (λ_=>[]) 55 ?_;exact cast (Gy _ _).symm ⟨true,aD (λ_=>⟨false,wc,aD (λh=>absurd (by simpa using h) he) λ_=>⟨⟨(.mk k n s l,.mk k' n' s' l'),z.ao,tr,r1,r2⟩,⟨rfl,rfl,aZ.1,aZ.2,kN⟩,aD (λh=>absurd (by simpa using h) hf) λ_=>⟨rfl,rfl⟩⟩⟩) λh=>by cases h⟩
  .rw[az hf]at hq;have IV:=IV hf;have RU:=RU hf;generalize uS:og z i r1=q at hq;have⟨zf,bl,e2⟩:=q;subst hq;refine eT Aq 3000 (λ_=>[]) 55 ?_;refine cast (Gy _ _).symm ⟨true,aD (λ_=>⟨false,wc,aD (λh=>absurd (by simpa using h) he) λ_=>⟨⟨(.mk k n s l,.mk k' n' s' l'),z.ao,tr,r1,r2⟩,⟨rfl,rfl,aZ.1,aZ.2,kN⟩,aD (λ_=>⟨⟨z,i,(.mk k n s l,.mk k' n' s' l'),r1,zf,bl,e2⟩,⟨rfl,rfl,IV,kQ RU (by decide),uS⟩,⟨by rw[aX,qo,mu],by omega,rfl,rfl⟩,rfl,⟨by rw[aqD,mu],by omega,rfl,rfl⟩,?_⟩) λh=>absurd (by simpa using h) hf⟩⟩) λh=>by cases h⟩;rw[<-ayN,<-aqE];simp only[fJ,u3X,cL,ei,gY];exact⟨trivial,trivial⟩
theorem aE7{tr st s k}(h:st.z.fo=[]/\st.aW.length<=k/\st.cP.length<=k):(jJ tr st s).z.fo=[]/\(jJ tr st s).aW.length<=k+1/\(jJ tr st s).cP.length<=k+1:=by
 unfold jJ;split
 .exact⟨h.1,by omega,by omega⟩
 .split
  .exact⟨h.1,by simp only;omega,by simp only;omega⟩
  .have⟨a,j,e⟩:=agt (oK s.c st.z.ao tr).1 st.z s.id;exact⟨by rw[e];exact h.1,by simp;omega,by simp;omega⟩
abbrev uN:AV:=.bn (.func 26) [] [.aa 0 0,.aa 1 0,.aa 2 0,.aa 3 0,.aa 4 0]
theorem Qo:∀{l p},p∈l->p.cf.length<=ki l
 |x::l,p,h=>by
  have hn:ki (x::l)=x.cf.length+ki l:=by simp[ki]
  rcases dK.1 h with rfl|h
  .omega
  .have:=Qo h;omega
abbrev BM(tr:Bool)(st:S3):AH:=CA st.z st.e tr (aX st.aW) st.aW.length (mb st.cP) st.cP.length
abbrev Pn(tr:Bool)(st:S3)(o:bf):AH:=Zv st.z st.e tr (aX st.aW) st.aW.length (mb st.cP) st.cP.length o
theorem asl{v H1 l tr}(st i)(h:i<l.length)(hh:bu Z 23 32 14 v H1 (sn uN 14 l i l[i].cf 0) (Pn tr st (rZ l[i])) (ax Z 23 1)):bu Z 23 32 14 v H1 (s_ uN l i) (BM tr st) (ax Z 23 0):=by refine hE EC anA ?_;have b_:=EZ h;generalize l[i]=p at b_ hh;have⟨nm,ar,dy,cf⟩:=p;exact aD (λ_=>⟨i,rfl,h,nm,ar,dy,oj cf,cf.length,b_,hh⟩) λhn=>ab (eB hn)
theorem ash{v H1 l tr k}(hk:k<3000000)(st i p j)(h:j<p.cf.length)(kv:p.cf.length<=3000000)(ho:∀s∈p.cf,ub s.c)(pk:st.z.fo=[]/\st.aW.length<=k/\st.cP.length<=k)(hh:bu Z 23 32 14 v H1 (sn uN 14 l i p.cf (j+1)) (Pn tr (jJ tr st p.cf[j]) (rZ p)) (ax Z 23 1)):bu Z 23 32 14 v H1 (sn uN 14 l i p.cf j) (Pn tr st (rZ p)) (ax Z 23 1):=by
 have⟨nm,ar,dy,cf⟩:=p;refine hE EC anz ?_;have b_:=QL h;have Sa:=ho cf[j] (r8 h);generalize cf[j]=s at b_ Sa hh;have⟨id,⟨⟨k,n,et,ts⟩,⟨k',n',oS,n5⟩⟩⟩:=s;have q1:st.aW.length+1<=4000000:=by omega
 have q2:st.cP.length+1<=4000000:=by omega
 generalize wj:jJ tr st ⟨id,⟨⟨k,n,et,ts⟩,⟨k',n',oS,n5⟩⟩⟩=lG at hh;refine aD (λ_=>⟨j,rfl,h,id,k,n,et,aH ts,ts.length,k',n',oS,aH n5,n5.length,b_,⟨st,tr,⟨nm,ar,0⟩,⟨id,⟨⟨k,n,et,ts⟩,⟨k',n',oS,n5⟩⟩⟩,lG⟩,⟨rfl,rfl,pk.1,Sa,q1,q2,wj⟩,?_⟩) λhn=>ab (eB hn)
 rw[cH];exact hh
theorem asn{v H1 l tr}(hl:l.length<=3000000)(st i p)(hi:i<l.length)(hh:bu Z 23 32 14 v H1 (s_ uN l (i+1)) (BM tr st) (ax Z 23 0)):bu Z 23 32 14 v H1 (sn uN 14 l i p.cf p.cf.length) (Pn tr st (rZ p)) (ax Z 23 1):=by
 have⟨nm,ar,dy,cf⟩:=p;refine hE EC anz ?_;refine aD (λhn=>ab (dX hn)) λ_=>?_
 rw[cH];exact hh
theorem asi{l}(i a)(h:(s_ uN l 0).bZ i=some a):eM (lu 6 14) a=some a:=by refine wz h ?_;intro x hx;simp at hx;rcases hx with rfl|rfl|rfl|rfl<;>rfl
theorem asj{l}(i a)(h:(s_ uN l 0).bZ i=some a):eM (lu 7 15) a=some a:=by refine wz h ?_;intro x hx;simp at hx;rcases hx with rfl|rfl|rfl|rfl<;>rfl
theorem asm{v H1 z e tr aW ni bs nb nx l}(h:bu Z 23 32 14 v H1 (s_ uN l 0) (p_ z e tr aW ni bs nb) (ax Z 23 0)):bX Z 23 [.ai [J nx,.ah (fW l) l.length 4],uN] (p_ z e tr aW ni bs nb) v H1:=by refine eE 32 EC aDx ?_;exact h
theorem asg{st aI tr nx l}(hz:st.z.fo=[])(h0:st.aW=[]/\st.cP=[])(hl:l.length<=3000000)(hc:ki l<=3000000)(ho:∀p∈l,∀s∈p.cf,ub s.c)(wa:uL (λst _ s=>jJ tr st s) st l=aI):
 bX Z 23 [.ai [J nx,.ah (fW l) l.length 4],uN] (Pm st tr) (.aC []) (BM tr aI):=by
 have jd:st.z.fo=[]/\st.aW.length<=0/\st.cP.length<=0:=⟨hz,by rw[h0.1];exact cE 0,by rw[h0.2];exact cE 0⟩;have hK:0+ki l<=ki l:=by omega
 have this:=(Qy (HS:=BM tr) (v:=.aC []) (H1:=BM tr aI)
  (λst i h hh=>asl st i h hh)
  (λk st i p j h hp hi pk hk=>⟨aE7 pk,λhh=>ash (by omega:k<3000000) st i p j h (kQ (Qo hp) hc) (ho p hp) pk hh⟩)
  (λst i p hp hi hh=>asn hl st i p hi hh)
  l [] st 0 rfl jd hK).2
 rw[wa]at this;have A0:bu Z 23 32 14 (.aC []) (BM tr aI) (s_ uN l l.length) (BM tr aI) (ax Z 23 0):=by refine hE EC anA ?_;exact aD (λhn=>ab (dX hn)) λ_=>⟨rfl,rfl⟩
 have h1:=this A0;have h3:=uT h1 SX.2 (λi a h=>⟨a,h,asj i a h⟩);have h4:=uT h3 SX.1 (λi a h=>⟨a,h,asi i a h⟩);exact asm h4
def rI(z:Ar)(th:ES)(tc:Nat):AH:=bU z.X z.xc [(0,.al [.aB 2] 74),(1,.al [.aa 3 0] 25),(2,.aY th tc true),(3,dS z 4 5 6 7 8 9),(4,cQ z),(5,dz z),(6,dx z),(7,dg z),(8,dG z),(9,cJ z)] 10
def Zy(z:Ar)(th:ES)(tc:Nat)(o:bf):AH:=bU z.X z.xc [(0,.al [.aB 2] 74),(1,.al [.aa 3 0] 25),(2,.aY th tc true),(3,dS z 4 5 6 7 8 9),(4,cQ z),(5,dz z),(6,dx z),(7,dg z),(8,dG z),(9,cJ z),(10,o)] 11
theorem aiN{z z' th UW tc tc'}(h:rI z th tc=rI z' UW tc'):z=z'/\th=UW/\tc=tc':=by have g2:=congrArg (λH=>AH.bc H 2) h;have h0:=congrArg (λH=>AH.bc H 3) h;have h1:=congrArg (λH=>AH.bc H 4) h;have h2:=congrArg (λH=>AH.bc H 5) h;have h3:=congrArg (λH=>AH.bc H 6) h;have h4:=congrArg (λH=>AH.bc H 7) h;have h5:=congrArg (λH=>AH.bc H 8) h;have h6:=congrArg (λH=>AH.bc H 9) h;have h7:=congrArg AH.x h;replace h1:some (cQ z)=some (cQ z'):=h1;replace h6:some (cJ z)=some (cJ z'):=h6;have⟨a0,a1,a2,a3,a4,a5,a6,a7,a8,a9,Li,Lj,Lk,Ll,Lm,Ln⟩:=z;have⟨b0,b1,b2,b3,b4,b5,b6,b7,b8,b9,P8,P9,P_,P',Qa,Qb⟩:=z';simp only[dS,cQ,dz,dx,dg,dG,cJ,nX,bf.al.injEq,bf.aA.injEq,bf.aY.injEq,iL,AV.bV.injEq,AV.aj.injEq,XH.mk.injEq,true_and,and_true]at g2 h0 h1 h2 h3 h4 h5 h6 h7;obtain⟨rfl,rfl,rfl,rfl⟩:=h0;obtain⟨rfl,rfl⟩:=h2;obtain⟨rfl,rfl⟩:=h3;obtain⟨rfl,rfl⟩:=h4;obtain⟨rfl,rfl⟩:=h5;obtain⟨rfl,rfl⟩:=h7;obtain⟨rfl,rfl⟩:=g2;subst h1 h6;exact⟨rfl,rfl,rfl⟩
structure S5 where
 z:Ar
 m:List En
 th:List (Int×Bool)
def S5.k(st:S5):Ks:=⟨st.m,st.z.nc,st.z.X,st.z.xc⟩
def Ar.kn(z:Ar)(k:Ks):Ar:={z with dT:=ep k.m,nc:=k.c,X:=k.X,xc:=k.xc}
def jr(st:S5)(p:cX)(i:Int):S5:=⟨st.z.kn (st.k.qw p i),(st.k.qw p i).m,up i true st.th⟩
def qu(th:List (Int×Bool)):ES:=bO .au 0 th
structure U5 where
 st:S5
 p:cX
 s:j3
def u5X:cq U5 where
 bh w A H:=A=[.ai (H8 w.p),.ai (rG w.s),.aa 0 0,.aa 1 0]/\H=rI w.st.z (qu w.st.th) w.st.th.length/\w.st.z.dT=ep w.st.m/\w.st.k.OK 3999999
 v w:=.aC []
 aK w:=rI (jr w.st w.p w.s.id).z (qu (jr w.st w.p w.s.id).th) (jr w.st w.p w.s.id).th.length
theorem adq:∀{a b} (k),bO AV.au k a=bO AV.au k b->a=b
 |[],[],_,_=>rfl
 |[],_::_,_,h=>by simp[bO]at h
 |_::_,[],_,h=>by simp[bO]at h
 |(i,x)::a,(j,y)::b,k,h=>by simp only[bO,iL,JW,AV.bV.injEq,AV.au.injEq,true_and,and_true]at h;obtain⟨⟨rfl,rfl⟩,h2⟩:=h;rw[adq (k+1) h2]
theorem aFy:u5X.ck:=by rintro⟨st,p,s⟩ ⟨jT,p',s'⟩ A H ⟨h1,h2,k1,k2⟩ ⟨h3,h4,k3,k4⟩;have⟨e1,e2,_⟩:=aiN (h2.symm.trans h4);rw[h1]at h3;simp at h3;have e6:=YV h3.2;have e7:=adq 0 e2;have⟨z,m,th⟩:=st;have⟨z',m',UW⟩:=jT;have⟨nm,ar,ao⟩:=p;have⟨oS,XD,XO⟩:=p';have e8:=h3.1;obtain⟨rfl,rfl,rfl⟩:=e8;subst e1 e6 e7;have e3:=QJ (k:=⟨m,z.nc,z.X,z.xc⟩) (k':=⟨m',z.nc,z.X,z.xc⟩) rfl k2 k4 (k1.symm.trans k3);subst e3;rfl
def KU:Ev.bp:=bR 54 (bW u5X aFy lS) Hj
theorem aEc{z th tc nm ar ao d k n s cs len k' n' s' cs' cG L Q}:
 bC Z Hj (λ_=>[]) L Q 1000 54 [.ai [.ad nm,J ar,J ao],.ai [J d,J k,J n,.ad s,.ah cs len 4,J k',J n',.ad s',.ah cs' cG 4],.aa 0 0,.aa 1 0] (rI z th tc)=(
 ∃bJ:List (AV×AV×Nat),∃c':Nat,j9 Z 2 th tc (J d) (.au true)=some (bJ,c')/\(∃aN:Nat,∃bI:Nat,∃b:Nat,∃LZ:List (AV×AV×Nat),∃agb:Nat,E' Z 39 35 1 z.dT z.nc true (.ai [.ad nm,J ar,J ao])=some (aN,(bI,(b,(LZ,agb))))/\(bI+1<=4194304/\true=true/\true=true)/\(∃vs:LV,GP (bU z.X z.xc [] 0) aN bI 1 vs/\(∃ahI:List (AV×AV×Nat),DD LZ b (.fE z.xc (bI+1) 1)=some ahI/\Q (.aC []) (bU (Af z.X z.xc aN bI (vs++[J d]) 2) (z.xc+1) [(0,.al [.aB 2] 74),(1,.al [.aa 3 0] 25),(2,.aY bJ c' true),(3,dS z 4 5 6 7 8 9),(4,cQ z),(5,dz z),(6,dx z),(7,.aY ahI agb true),(8,dG z),(9,cJ z)] 10))))):=by kernel_rfl
abbrev adk(x0:_)(x1:_)(x2:_):=bg [(1,.bn (.func 54) [] [.aa 0 0,.aa 1 0]),(9,.ah x0 x1 4),(10,J (aP x1)),(11,J x2)]
theorem aDy{z th tc nx ps np L Q}:
 bC Z KU wv L Q 1000 23 [.ai [J nx,.ah ps np 4],.bn (.func 54) [] [.aa 0 0,.aa 1 0]] (rI z th tc)=(
 L (adk ps np 0) (rI z th tc) (ax Z 23 0)):=by kernel_rfl
abbrev adl(x0:_)(x1:_)(x2:_)(x3:_)(x4:_)(x5:_):=bg [(1,.bn (.func 54) [] [.aa 0 0,.aa 1 0]),(5,.aa 10 0),(9,.ah x0 x1 4),(10,J (aP x1)),(11,J x2),(16,.ah x3 x4 9),(17,J (aP x4)),(18,J x5)]
theorem anC{z th tc ps np i L Q}:
 cg Z KU wv L Q 1000 23 10 (adk ps np i) (ax Z 23 0) (rI z th tc)=(
 aw (decide (i<aP np)) (∃aJ:Nat,i=(aJ:Int)/\aJ<np/\(∃s:LN,∃n:Int,∃b:Bool,∃cs:LV,∃len:Nat,((ps.drop (aJ*4)).take 4:List AV)=[.ad s,J n,.au b,.ah cs len 9]/\L (adl ps np i cs len 0) (Zy z th tc (vh s n b cs len)) (ax Z 23 1))) (Q (.aC []) (rI z th tc))):=by kernel_rfl
theorem anB{z th tc ps np i nm ar dy ss ns j L Q}:
 cg Z KU wv L Q 1000 23 10 (adl ps np i ss ns j) (ax Z 23 1) (Zy z th tc (.al [.ad nm,J ar,.au dy,.ah ss ns 9] 34))=(
 aw (decide (j<aP ns)) (∃aJ:Nat,j=(aJ:Int)/\aJ<ns/\(∃n:Int,∃aN:Int,∃bz:Int,∃s:LN,∃cs:LV,∃len:Nat,∃ct:Int,∃dm:Int,∃cr:LN,∃bP:LV,∃bI:Nat,((ss.drop (aJ*9)).take 9:List AV)=[J n,J aN,J bz,.ad s,.ah cs len 4,J ct,J dm,.ad cr,.ah bP bI 4]/\(∃w:U5,(([.ai [.ad nm,J ar,J 0],.ai [J n,J aN,J bz,.ad s,.ah cs len 4,J ct,J dm,.ad cr,.ah bP bI 4],.aa 0 0,.aa 1 0]:LV)=[.ai (H8 w.p),.ai (rG w.s),.aa 0 0,.aa 1 0]/\rI z th tc=rI w.st.z (qu w.st.th) w.st.th.length/\w.st.z.dT=ep w.st.m/\Ks.OK w.st.k 3999999)/\L (adl ps np i ss ns (wI (j+1))) (bU (jr w.st w.p w.s.id).z.X (jr w.st w.p (j3.id w.s)).z.xc [(0,.al [.aB 2] 74),(1,.al [.aa 3 0] 25),(2,.aY (qu (jr w.st w.p w.s.id).th) (jr w.st w.p w.s.id).th.length true),(3,dS (jr w.st w.p (j3.id w.s)).z 4 5 6 7 8 9),(4,cQ (jr w.st w.p w.s.id).z),(5,.aY (jr w.st w.p w.s.id).z.fo (jr w.st w.p (j3.id w.s)).z.cc true),(6,.aY (jr w.st w.p w.s.id).z.nq (jr w.st w.p (j3.id w.s)).z.rc true),(7,.aY (jr w.st w.p w.s.id).z.dT (jr w.st w.p (j3.id w.s)).z.nc true),(8,.aY (jr w.st w.p w.s.id).z.eQ (jr w.st w.p (j3.id w.s)).z.oc true),(9,cJ (jr w.st w.p w.s.id).z),(10,vh nm ar dy ss ns)] 11) (ax Z 23 1)))) (L (adk ps np (wI (i+1))) (rI z th tc) (ax Z 23 0))):=by kernel_rfl
theorem as4{k:Ks}{L}(aZ:k.OK L)(hL:L<=4000000)(p i):∃(n len b:Nat) (bJ:ES) (c':Nat) (vs:LV) (Ih:ES),E' Z 39 35 1 (ep k.m) k.c true (mj p)=some (n,len,b,bJ,c')/\len+1<=4194304/\GP (bU k.X k.xc [] 0) n len 1 vs/\DD bJ b (.fE k.xc (len+1) 1)=some Ih/\
 Ih=ep (k.qw p i).m/\c'=(k.qw p i).c/\Af k.X k.xc n len (vs++[J i]) 2=(k.qw p i).X:=by
 have cK:=Nw aZ p;have⟨c1,c2⟩:=LC (k:=k) p;have cA:=cK.len _ c1;refine⟨_,_,_,_,_,aX (iO p k.m k.c).aW,_,ahy,by omega,?_,?_,rfl,rfl,rfl⟩
 .by_cases h0:(iO p k.m k.c).aW=[]
  .exact .inl ⟨by rw[h0];rfl,by rw[h0];rfl⟩
  .refine .inr ⟨λh=>h0 (mo h),2,?_,by rw[aX,qo,mu]⟩;rw[az h0];exact(cK.ui _ c1 h0).2
 .have:=ab8 (n:=k.xc) (aW:=(iO p k.m k.c).aW++[i]) (QP p k.m k.c) cK.Gx;rw[amI]at this;exact this
theorem Hk:aS Z KU:=by refine cu EC ?_;rintro⟨⟨z,m,th⟩,⟨nm,ar,ao⟩,⟨i,⟨⟨k,n,s,l⟩,⟨k',n',s',l'⟩⟩⟩⟩ args H ⟨rfl,rfl,hz,aZ⟩;have⟨n0,len,b,bJ,c',vs,Ih,h1,h2,h3,h4,h5,h6,h7⟩:=as4 (k:=⟨m,z.nc,z.X,z.xc⟩) aZ (by omega) ⟨nm,ar,ao⟩ i;rw[<-hz]at h1;refine eE 21 EC aEc ?_;refine⟨_,_,pG AV.au jy,n0,len,b,bJ,c',h1,⟨h2,rfl,rfl⟩,vs,h3,Ih,h4,rfl,?_⟩;rw[h5,h6,h7];rfl
abbrev lz(p:gj):cX:=⟨p.jK,p.ar,0⟩
abbrev BN(st:S5):AH:=rI st.z (qu st.th) st.th.length
abbrev Po(st:S5)(o:bf):AH:=Zy st.z (qu st.th) st.th.length o
abbrev y7:AV:=.bn (.func 54) [] [.aa 0 0,.aa 1 0]
def Bd(k:Nat)(st:S5):Prop:=st.z.dT=ep st.m/\st.k.OK k
theorem asr{v H1 l}(st i)(h:i<l.length)(hh:bu Z 23 32 10 v H1 (sn y7 10 l i l[i].cf 0) (Po st (rZ l[i])) (ax Z 23 1)):bu Z 23 32 10 v H1 (s_ y7 l i) (BN st) (ax Z 23 0):=by refine hE Hk anC ?_;have b_:=EZ h;generalize l[i]=p at b_ hh;have⟨nm,ar,dy,cf⟩:=p;exact aD (λ_=>⟨i,rfl,h,nm,ar,dy,oj cf,cf.length,b_,hh⟩) λhn=>ab (eB hn)
theorem asq{v H1 l k}(hk:k<3000000)(st i p j)(h:j<p.cf.length)(kv:p.cf.length<=3000000)(pk:Bd k st)(hh:bu Z 23 32 10 v H1 (sn y7 10 l i p.cf (j+1)) (Po (jr st (lz p) p.cf[j].id) (rZ p)) (ax Z 23 1)):bu Z 23 32 10 v H1 (sn y7 10 l i p.cf j) (Po st (rZ p)) (ax Z 23 1):=by
 have⟨nm,ar,dy,cf⟩:=p;refine hE Hk anB ?_;have b_:=QL h;generalize cf[j]=s at b_ hh;have⟨id,⟨⟨k,n,et,ts⟩,⟨k',n',oS,n5⟩⟩⟩:=s;refine aD (λ_=>⟨j,rfl,h,id,k,n,et,aH ts,ts.length,k',n',oS,aH n5,n5.length,b_,⟨st,⟨nm,ar,0⟩,⟨id,⟨⟨k,n,et,ts⟩,⟨k',n',oS,n5⟩⟩⟩⟩,⟨rfl,rfl,pk.1,pk.2.GU (by omega)⟩,?_⟩) λhn=>ab (eB hn)
 rw[cH];exact hh
theorem ast{v H1 l}(hl:l.length<=3000000)(st i p)(hi:i<l.length)(hh:bu Z 23 32 10 v H1 (s_ y7 l (i+1)) (BN st) (ax Z 23 0)):bu Z 23 32 10 v H1 (sn y7 10 l i p.cf p.cf.length) (Po st (rZ p)) (ax Z 23 1):=by
 have⟨nm,ar,dy,cf⟩:=p;refine hE Hk anB ?_;refine aD (λhn=>ab (dX hn)) λ_=>?_
 rw[cH];exact hh
theorem ass{v H1 st nx l}(h:bu Z 23 32 10 v H1 (s_ y7 l 0) (BN st) (ax Z 23 0)):bX Z 23 [.ai [J nx,.ah (fW l) l.length 4],y7] (BN st) v H1:=by refine eE 32 Hk aDy ?_;exact h
theorem ajW{k st p i}(h:Bd k st):Bd (k+1) (jr st p i):=⟨rfl,h.2.add p i⟩
def qR(st:S5)(l:List gj):S5:=uL (λst p s=>jr st (lz p) s.id) st l
theorem asp{st aI nx l}(h0:Bd 0 st)(hl:l.length<=3000000)(hc:ki l<=3000000)(wa:qR st l=aI):
 bX Z 23 [.ai [J nx,.ah (fW l) l.length 4],y7] (BN st) (.aC []) (BN aI)/\Bd (ki l) aI:=by
 have hK:0+ki l<=ki l:=by omega
 have this:=Qy (v:=.aC []) (H1:=BN aI) (iE:=λst p s=>jr st (lz p) s.id)
  (λst i h hh=>asr st i h hh)
  (λk st i p j h hp hi pk hk=>⟨ajW pk,λhh=>asq (by omega:k<3000000) st i p j h (kQ (Qo hp) hc) pk hh⟩)
  (λst i p hp hi hh=>ast hl st i p hi hh)
  l [] st 0 rfl h0 hK
 unfold qR at wa;rw[wa,kD]at this;refine⟨ass (this.2 ?_),this.1⟩;refine hE Hk anC ?_;exact aD (λhn=>ab (dX hn)) λ_=>⟨rfl,rfl⟩
end
end Go.Cl
