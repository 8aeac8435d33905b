/- Part of a proof of AreaViews. -/
import Derived.Test.YtjgjeokjclpjnaaGreatVWB1
set_option linter.all false
set_option linter.unusedSectionVars false
set_option maxRecDepth 100000
namespace Go.Cl
open Go.Ev Go.Proofs
noncomputable section
def GX(l:LI)(wr:List (Int×Bool)):List (Int×Bool):=l.foldl (λm r=>up r true m) wr
def gU(wr:List (Int×Bool))(r:Int):Bool:=(lk r wr).getD false
def zq(base:Int)(wr:List (Int×Bool))(r:Int):Bool:=decide (r>base)&& !gU wr r
def GU(base:Int):List (Int×Bool)->iN->Bool
 |_,[]=>true
 |wr,i::l=>if wM i=false\/((i.op=19\/i.op=20)/\i.ar>base)then false
   else if(fQ i).any (zq base wr)then false else GU base (GX (fR i) wr) l
def v9(l:iN)(base:Int):Bool:=if base<0\/base>4096\/l.length>131072 then false else GU base [] l
structure nL where
 cs:LV
 qQ:Nat
 l:iN
def nL.ok(p:nL):Prop:=(p.cs.drop p.qQ).take (p.l.length*6)=dt p.l/\p.l.length<1200000
abbrev yq x0:=aE [(0,.au x0 56)] 1
def oV(p:nL):AH:=yq p.cs
theorem aFo{p p':nL}(h:p.ok)(h':p'.ok)(h1:p.cs=p'.cs)(h2:p.qQ=p'.qQ)(h3:p.l.length=p'.l.length):p=p':=by have⟨cs,off,l⟩:=p;have⟨cs',aP8,l'⟩:=p';subst h1 h2;have e:=h.1;have e':=h'.1;simp only at e e';rw[h3,e']at e;rw[Lr e]
def ahj:bT (nL×Int)where
 aI w A H:=A=[.bK 0 w.1.qQ w.1.l.length 0 6 false,J w.2]/\H=oV w.1/\w.1.ok
 v w:=.ai (v9 w.1.l w.2)
 aD w:=oV w.1
theorem aBY{p p'}(h:oV p=oV p'):p.cs=p'.cs:=by have:=congrArg (λH=>AH.aR H 0) h;exact(aO.au.inj (cW this)).1
theorem YQ{w w':nL×Int}{A H}(h1:A=[.bK 0 w.1.qQ w.1.l.length 0 6 false,J w.2])(h2:H=oV w.1)(h3:w.1.ok)(k1:A=[.bK 0 w'.1.qQ w'.1.l.length 0 6 false,J w'.2])(k2:H=oV w'.1)(k3:w'.1.ok):w=w':=by have⟨p,b⟩:=w;have⟨p',b'⟩:=w';rw[h1]at k1;rw[h2]at k2;simp at k1;have e:=aFo h3 k3 (aBY k2) k1.1.1 k1.1.2;simp only at e;rw[e,k1.2]
theorem aNX:ahj.bM:=by rintro w w' A H ⟨h1,h2,h3⟩ ⟨k1,k2,k3⟩;rw[YQ h1 h2 h3 k1 k2 k3]
def E12:Ev.aX:=bx 164 (bE ahj aNX bU) Kn
def X4:Nat->LN:=dY [(5,[1,5,24,25,26]),(10,[1,5,7,24,25,26,50,51,52]),(16,[1,5,24,25,26,67,68,69])]
def BF(wr:List (Int×Bool)):aO:=.bI (bJ vB 0 wr) wr.length true
abbrev Ny x0 x1 x2 x3 x4:=aJ [(1,J x0),(5,.aS 1),(24,.bK 0 x1 x2 0 6 x3),(25,J (a_ x2)),(26,J x4)]
abbrev Ep h0 h1:=(.bK 0 h0 h1 0 6 false:AV)
abbrev ze h0 h1 h2:=j_ (.au h0 h1) h2
theorem aGx{cs off len base L Q}:
 fA Kn X4 L Q 164 [Ep off len,J base] (yq cs)=Az (decide (base<0)) (Q (.ai false) (yq cs)) (decide (base>4096)) (gT (decide (a_ len>131072)) (Q (.ai false) (yq cs)) L (Ny base off len false 0) (ze cs 56 (eu [] 0)) 164 0):=by kernel_rfl
abbrev Nz x0 x1 x2 x3 x4 x5 x6:=aJ [(1,J x0),(5,.aS 1),(7,.aa 2 0),(24,.bK 0 x1 x2 0 6 x3),(25,J (a_ x2)),(26,J x4),(50,.ad 3 x5 1),(51,J (a_ x5)),(52,J x6)]
abbrev uX h0 h1 h2 h3:=aE [(0,h0),(1,h1),(2,h2),(3,h3)] 4
abbrev TF(h0:Int) h1 h2(h3:QT) h4 h5 h6 h7:=aZ (h0==h1) (aZ h2 (h3 (.ai h4) h5) h6) (nG (h0==h7) h2 (h3 (.ai h4) h5) h6)
abbrev NS h0(h1:iM->Prop):=∃b0:iM,(([.aj h0]:LV)=[.aj (iO b0)]/\aE [] 0=ay)/\h1 b0
abbrev aah h0 h1(h2:Int->Int->Int->Int->LN->Int->Prop):=∃b0:Int,∃b1:Int,∃b2:Int,∃b3:Int,∃b4:LN,∃b5:Int,oe 56 h0 h1 (.aj (u6 b0 b1 b2 b3 b4 b5))/\h2 b0 b1 b2 b3 b4 b5
theorem aGy{cs off len base i wr L Q}:
 iL Kn X4 L Q 164 1 (Ny base off len false i) 0 (ze cs 56 (BF wr))=jQ i len (λcv=>aah cs (off+cv*6) (λn=>λbm=>λbS=>λdn=>λs=>λfx=>dc True/\sU (!wM (iM.mk n bm bS dn s fx)) Q (yq cs) (TF n 19 (decide (fx>base)) Q false (yq cs) (NS (u6 n bm bS dn s fx) (λw=>L (Nz base off len false i (fQ w).length 0) (uX (.au cs 56) (BF wr) (.ah (u6 n bm bS dn s fx) 56) (bG (fQ w) 3)) (aB Z 164 1))) 20))) (Q (.ai true) (yq cs)):=by kernel_rfl
abbrev ZF x0 x1 x2 x3 x4 x5 x6:=aJ [(1,J x0),(5,.aS 1),(24,.bK 0 x1 x2 0 6 x3),(25,J (a_ x2)),(26,J x4),(67,.ad 2 x5 1),(68,J (a_ x5)),(69,J x6)]
abbrev Qz x0 x1 x2 x3:=aE [(0,.au x0 56),(1,BF x1),(2,DH x2),(3,bG x3 3)] 4
abbrev Om h0 h1 h2:=jv (.au h0 56) h1 (bG h2 3)
theorem aGz{cs off len base i k wr x rs L Q}:
 iL Kn X4 L Q 164 1 (Nz base off len false i rs.length k) 1 (Qz cs wr x rs)=sX k rs 3 (λn=>gT (decide (n>base)) (∃b,∃lH,lu Z 3 4 (bJ vB 0 wr) (J n)=some (.ai b,lH)/\gT (!b) (Q (.ai false) (yq cs)) L (Nz base off len false i rs.length (wI (k+1))) (Qz cs wr x rs) 164 1) L (Nz base off len false i rs.length (wI (k+1))) (Qz cs wr x rs) 164 1) (NS (iO x) (λw=>L (ZF base off len false i (fR w).length 0) (Om cs (BF wr) (fR w)) (aB Z 164 2))):=by kernel_rfl
theorem aGB{cs off len base i k wr ws L Q}:
 iL Kn X4 L Q 164 1 (ZF base off len false i ws.length k) 2 (Om cs (BF wr) ws)=sX k ws 3 (λn=>rP 3 (bJ vB 0 wr) wr.length n (.ai true) (λbF=>λc'=>L (ZF base off len false i ws.length (wI (k+1))) (Om cs (eu bF c') ws) (aB Z 164 2))) (L (Ny base off len false (wI (i+1))) (ze cs 56 (BF wr)) (aB Z 164 0)):=by kernel_rfl
theorem asB{i fs}(h:Fs fs):(nu i fs).length<5000:=by
 unfold nu;split;next hF=>
  have hb:=akQ hF;have hl:=apJ i.ar;rcases h with rfl|rfl|rfl|rfl|rfl<;>simp[Af]
  .split<;>simp
  .omega
 .simp
theorem agi(i):(fQ i).length<5000:=asB (Nr _).1
theorem aht(i):(fR i).length<5000:=asB (Nr _).2
theorem pk{k n:Nat}(h:k<n)(hn:n<20000000):wI ((k:Int)+1)=((k+1:Nat):Int):=by rw[cb];simp
theorem aEj(wr r):∃b lH,lu Z 3 4 (bJ vB 0 wr) (J r)=some (.ai b,lH)/\gU wr r=b:=by
 rw[nq _ LA];unfold gU;cases lk r wr with
 |none=>exact⟨false,false,by rw[Z4];rfl,rfl⟩
 |some b=>exact⟨b,true,rfl,rfl⟩
theorem aFl(a b c d e f l):
 fi Z 56 (a::b::c::d::e::f::l) 0=some (.aj [a,b,c,d,e,f]):=by kernel_rfl
theorem aFm(cs off):
 fi Z 56 cs off=fi Z 56 (cs.drop off) 0:=by kernel_rfl
theorem aNf{l i}(h:l.take 6=iO i):∃r,l=iO i++r:=⟨l.drop 6,by rw[<-h,uK]⟩
theorem nL.get{p:nL}(h:p.ok){i}(hi:i<p.l.length):fi Z 56 p.cs (p.qQ+i*6)=some (.aj (iO p.l[i])):=by
 have h1:(p.cs.drop (p.qQ+i*6)).take 6=iO p.l[i]:=by have h2:=aAa hi;rw[<-h.1,BO,Gq,Ad]at h2;rwa[YZ (by omega)]at h2
 have⟨r,hr⟩:=aNf h1;rw[aFm,hr];exact aFl _ _ _ _ _ _ _
section
variable{cs:LV}{off len:Nat}{base:Int}{aC:Bool}
theorem aGC{i wr0 ws}(hw:ws.length<5000)(next:ba Z 164 77 1 (.ai aC) (yq cs) (Ny base off len false (wI (i+1))) (aE [(0,.au cs 56),(1,BF (GX ws wr0))] 2) (aB Z 164 0)):
 ∀p:Nat×List (Int×Bool),(p.1<=ws.length/\GX (ws.drop p.1) p.2=GX ws wr0)->
 ba Z 164 77 1 (.ai aC) (yq cs) (ZF base off len false i ws.length (p.1:Int)) (aE [(0,.au cs 56),(1,BF p.2),(2,bG ws 3)] 3) (aB Z 164 2):=by
 refine dj (λp=>ws.length-p.1) _ _ _ _ ?_;rintro⟨k,wr⟩ ⟨hk,hf⟩ ih;refine hE OT aGB ?_;delta sX lh oe;refine al (λae=>?_) λaY=>?_
 .have ae:k<ws.length:=by simpa using ae
  rw[fu ae]at hf;have hg:ws.getD k 0=ws[k]:=by simp[List.getD,gg ae]
  refine⟨k,rfl,ae,ws[k],by rw[o7 ae,hg],_,_,ph vB LA,?_⟩;rw[pk ae (by omega)];exact ih (k+1,up ws[k] true wr) ⟨by simp;omega,hf⟩ (by simp;omega)
 .have aY:ws.length<=k:=by simpa using aY
  rw[gf aY]at hf;have hf:wr=GX ws wr0:=hf;rw[hf];exact next
theorem aGA{i wr x}(hb:(fQ x).any (zq base wr)=true->aC=false)(next:(fQ x).any (zq base wr)=false->ba Z 164 77 1 (.ai aC) (yq cs) (Ny base off len false (wI (i+1))) (aE [(0,.au cs 56),(1,BF (GX (fR x) wr))] 2) (aB Z 164 0)):
 ∀k,(k<=(fQ x).length/\((fQ x).drop k).any (zq base wr)=(fQ x).any (zq base wr))->
 ba Z 164 77 1 (.ai aC) (yq cs) (Nz base off len false i (fQ x).length (k:Int)) (Qz cs wr x (fQ x)) (aB Z 164 1):=by
 have hrl:=agi x;refine dj (λk=>(fQ x).length-k) _ _ _ _ ?_;rintro k ⟨hk,hf⟩ ih;refine hE OT aGz ?_;delta sX lh oe;refine al (λae=>?_) λaY=>?_
 .have ae:k<(fQ x).length:=by simpa using ae
  rw[fu ae,List.any_cons]at hf;have hg:(fQ x).getD k 0=(fQ x)[k]:=by simp[List.getD,gg ae]
  refine⟨k,rfl,ae,(fQ x)[k],by rw[o7 ae,hg],?_⟩;rw[pk ae (by omega)];have⟨b,b1,h1,h2⟩:=aEj wr (fQ x)[k];refine al (λhr=>⟨b,b1,h1,al (λh=>?_) λh=>?_⟩) λhr=>?_
  .have:zq base wr (fQ x)[k]=true:=by simp at h hr;simp[zq,h2,hr,h]
   rw[this,Bool.true_or]at hf;rw[hb hf.symm];exact aA
  .have:zq base wr (fQ x)[k]=false:=by simp at h;simp[zq,h2,h]
   rw[this,Bool.false_or]at hf;exact ih (k+1) ⟨by omega,hf⟩ (by omega)
  .have:zq base wr (fQ x)[k]=false:=by simp[zq,hr]
   rw[this,Bool.false_or]at hf;exact ih (k+1) ⟨by omega,hf⟩ (by omega)
 .have aY:(fQ x).length<=k:=by simpa using aY
  rw[gf aY]at hf;have hf:=hf.symm;refine⟨x,aA,?_⟩;exact aGC (aht x) (next hf) (0,wr) ⟨by simp,rfl⟩
end
theorem aGw{p base aC}(hp:p.ok):
 ∀q:Nat×List (Int×Bool),(q.1<=p.l.length/\GU base q.2 (p.l.drop q.1)=aC)->
 ba Z 164 77 1 (.ai aC) (oV p) (Ny base p.qQ p.l.length false (q.1:Int)) (aE [(0,.au p.cs 56),(1,BF q.2)] 2) (aB Z 164 0):=by
 refine dj (λq=>p.l.length-q.1) _ _ _ _ ?_;rintro⟨i,wr⟩ ⟨hi,hf⟩ ih;have kL:=hp.2;refine hE OT aGy ?_;refine al (λae=>?_) λaY=>?_
 .have ae:i<p.l.length:=by simpa using ae
  have bP:=p.get hp ae;rw[fu ae,GU]at hf;have next:GU base (GX (fR p.l[i]) wr) (p.l.drop (i+1))=aC->_:=λh=>ih (i+1,GX (fR p.l[i]) wr) ⟨by simp;omega,h⟩ (by simp;omega)
  generalize p.l[i]=x at bP hf next
  have⟨o,r,a,n,s,ar⟩:=x;refine⟨i,rfl,ae,o,r,a,n,s,ar,bP,da,?_⟩;have rest:¬(wM ⟨o,r,a,n,s,ar⟩=false\/((o=19\/o=20)/\ar>base))->∃w:iM,((([.aj [J o,J r,J a,J n,.ao s,J ar]]:LV)=[.aj [J w.op,J w.r,J w.a,J w.n,.ao w.fU,J w.ar]])/\aE [] 0=ay)/\
   ba Z 164 77 1 (.ai aC) (oV p) (Nz base p.qQ p.l.length false (i:Int) (fQ w).length 0) (Qz p.cs wr ⟨o,r,a,n,s,ar⟩ (fQ w)) (aB Z 164 1):=by
   intro hn;rw[aw hn]at hf;refine⟨⟨o,r,a,n,s,ar⟩,aA,?_⟩;refine aGA (λhb=>?_) (λhb=>?_) 0 ⟨by simp,by simp⟩
   .rw[aP hb]at hf;exact hf.symm
   .rw[aw (by rw[hb];simp)]at hf;rw[pk ae (by omega)];exact next hf
  refine al (λh=>?_) λh=>?_
  .rw[aP (.inl (by simpa using h))]at hf;subst hf;exact aA
  have hF:¬wM ⟨o,r,a,n,s,ar⟩=false:=by simpa using h
  refine al (λh1=>al (λh2=>?_) λh2=>?_) λh1=>al (λh3=>al (λh2=>?_) λh2=>?_) λh3=>?_
  .rw[aP (.inr ⟨.inl (by simpa using h1),by simpa using h2⟩)]at hf;subst hf;exact aA
  .exact rest (by rintro(h|⟨_,h⟩);exact hF h;simp at h2;omega)
  .rw[aP (.inr ⟨.inr (by simpa using h3),by simpa using h2⟩)]at hf;subst hf;exact aA
  .exact rest (by rintro(h|⟨_,h⟩);exact hF h;simp at h2;omega)
  .exact rest (by rintro(h|⟨h|h,_⟩);exact hF h;simp at h1;exact h1 h;simp at h3;exact h3 h)
 .have aY:p.l.length<=i:=by simpa using aY
  rw[gf aY]at hf;subst hf;exact aA
theorem awI:aF Z E12:=by
 refine bY OT ?_;rintro⟨p,base⟩ args H ⟨rfl,rfl,hp⟩;have hp:=hp;refine eE 77 OT aGx ?_;simp only[ahj,oV];refine al (λh=>?_) λh=>al (λh2=>?_) λh2=>al (λh4=>?_) λh3=>?_
 .have:v9 p.l base=false:=by simp at h;simp[v9,h]
  rw[this];exact aA
 .have:v9 p.l base=false:=by simp at h2;simp[v9,h2]
  rw[this];exact aA
 .have:v9 p.l base=false:=by have h4:(p.l.length:Int)>131072:=cP h4;unfold v9;rw[aP (by omega)]
  rw[this];exact aA
 .have:v9 p.l base=GU base [] p.l:=by have h3:¬(p.l.length:Int)>131072:=c9 (by simpa using h3);simp at h h2;unfold v9;rw[aw (by omega)]
  rw[this];exact aGw hp (0,[]) ⟨by simp,rfl⟩
abbrev E13:Ev.aX:=E12
section
variable{p:nL}{base:Int}{aC:Bool}{i:Nat}
end
theorem ajf:aF Z E13:=awI
def gF(l:LI):AH:=aE [(0,.ah [.ad 1 l.length 1] 247),(1,bG l 3)] 2
def YB(l:LI):AH:=aE [(0,.ah [.ad 2 l.length 1] 247),(1,.bg []),(2,bG l 3)] 3
theorem L7{l m}(h:gF l=gF m):l=m:=by have:=congrArg (λH=>AH.aR H 1) h;exact BQ (cW this)
def sQ(l:LI)(i j:Nat):LI:=(l.set i (l.getD j 0)).set j (l.getD i 0)
def aqb:bT LI where
 aI l A H:=A=[.ad 0 l.length 1]/\H=dX l
 v l:=J (a_ l.length)
 aD l:=dX l
def aqe:bT (LI×Nat×Nat)where
 aI w A H:=A=[.ad 0 w.1.length 1,J (w.2.1:Int),J (w.2.2:Int)]/\H=dX w.1/\w.2.1<w.1.length/\w.2.2<w.1.length
 v w:=.ai (decide (w.1.getD w.2.1 0<w.1.getD w.2.2 0))
 aD w:=dX w.1
def auo:bT (LI×Nat×Nat)where
 aI w A H:=A=[.ad 0 w.1.length 1,J (w.2.1:Int),J (w.2.2:Int)]/\H=dX w.1/\w.2.1<w.1.length/\w.2.2<w.1.length
 v w:=.aL []
 aD w:=dX (sQ w.1 w.2.1 w.2.2)
def af5:bT (LI×Int)where
 aI w A H:=A=[.aa 0 0,.ep 3 (J w.2)]/\H=gF w.1/\w.1.length<1200000
 v w:=.aL []
 aD w:=YB (w.1++[w.2])
def ar7:bT (LI×Int)where
 aI w A H:=A=[.aa 0 0]/\H=gF (w.1++[w.2])/\w.1.length<1200000
 v w:=.ep 3 (J w.2)
 aD w:=gF w.1
theorem aD5:aqb.bM:=by rintro l l' A H ⟨_,h⟩ ⟨_,h'⟩;rw[adP (h.symm.trans h')]
theorem apy{w w':LI×Nat×Nat}{A H}(h1:A=[.ad 0 w.1.length 1,J (w.2.1:Int),J (w.2.2:Int)])(h2:H=dX w.1)(k1:A=[.ad 0 w'.1.length 1,J (w'.2.1:Int),J (w'.2.2:Int)])(k2:H=dX w'.1):w=w':=by
 have⟨l,i,j⟩:=w;have⟨l',i',j'⟩:=w';have e:=adP (h2.symm.trans k2);rw[h1]at k1;simp at k1 e;have e1:i=i':=by omega
 have e2:j=j':=by omega
 rw[e,e1,e2]
theorem aD6:aqe.bM:=by rintro w w' A H ⟨h1,h2,_⟩ ⟨k1,k2,_⟩;rw[apy h1 h2 k1 k2]
theorem aM8:auo.bM:=by rintro w w' A H ⟨h1,h2,_⟩ ⟨k1,k2,_⟩;rw[apy h1 h2 k1 k2]
theorem aFC:af5.bM:=by rintro⟨l,x⟩ ⟨l',x'⟩ A H ⟨h1,h2,_⟩ ⟨k1,k2,_⟩;have e:=L7 (h2.symm.trans k2);rw[h1]at k1;simp at k1 e;rw[e,k1]
theorem aFu:ar7.bM:=by rintro⟨l,x⟩ ⟨l',x'⟩ A H ⟨h1,h2,_⟩ ⟨k1,k2,_⟩;have e:=L7 (h2.symm.trans k2);have e2:=List.append_inj' e rfl;simp at e2;rw[e2.1,e2.2]
def G1:Ev.aX:=bx 180 (bE aqb aD5 bU) E13
def G2:Ev.aX:=bx 212 (bE aqe aD6 bU) G1
def G3:Ev.aX:=bx 215 (bE auo aM8 bU) G2
def G4:Ev.aX:=bx 214 (bE af5 aFC bU) G3
def G5:Ev.aX:=bx 213 (bE ar7 aFu bU) G4
theorem aHh{l L Q}:
 eG E13 [] L Q 180 [ej 0 l] (dX l)=Q (J (a_ l.length)) (dX l):=by kernel_rfl
theorem aHM{l i j L Q}:
 eG G1 [] L Q 212 [ej 0 l,J i,J j] (dX l)=u0 i l 3 (λn=>u0 j l 3 (λbm=>Q (.ai (decide (n<bm))) (dX l))):=by kernel_rfl
theorem aHP{l i j L Q}:
 eG G2 [] L Q 215 [ej 0 l,J i,J j] (dX l)=u0 j l 3 (λn=>u0 i l 3 (λbm=>ia i l.length (λjO=>jO*1+1<=(bc l).length/\ia j l.length (λsC=>sC*1+1<=(zd l jO n).length/\Q (.aL []) (oK (iJ (zd l jO n) (sC*1) [J bm]) 3))))):=by kernel_rfl
abbrev rQ h0 h1 h2:=(.ah [.ad h0 h1 1] h2:aO)
theorem aHO{l x L Q}:
 eG G3 [] L Q 214 (sV (.ep 3 (J x))) (gF l)=OA l l (Q (.aL []) (jv (rQ 2 (l.length+1) 247) (.bg []) (.au (bc l++[J x]) 3))):=by kernel_rfl
theorem aHN{l L Q}:
 Cp G4 L Q 213 (gF l)=u0 (Et l) l 3 (λn=>1<=l.length/\(∃cv:Nat,Et l=(cv:Int)/\(0<=cv/\cv<=l.length)/\Q (.ep 3 (J n)) (j_ (rQ 1 (cv-0) 247) (bG l 3)))):=by kernel_rfl
theorem ajl:aF Z G1:=by refine bY ajf ?_;rintro l args H ⟨rfl,rfl⟩;refine eE 5 ajf aHh ?_;exact aA
theorem ajm:aF Z G2:=by refine bY ajl ?_;rintro⟨l,i,j⟩ args H ⟨rfl,rfl,hi,hj⟩;refine eE 16 ajl aHM ?_;exact⟨i,rfl,hi,_,o7 hi,j,rfl,hj,_,o7 hj,rfl,rfl⟩
theorem ajn:aF Z G3:=by
 refine bY ajm ?_;rintro⟨l,i,j⟩ args H ⟨rfl,rfl,hi,hj⟩;have hi:i<l.length:=hi;have hj:j<l.length:=hj;refine eE 20 ajm aHP ?_;delta zd;have e1:iJ (bc l) (i*1) [J (l.getD j 0)]=bc (l.set i (l.getD j 0)):=by rw[n7];exact YX _ hi
 have e2:iJ (bc (l.set i (l.getD j 0))) (j*1) [J (l.getD i 0)]=bc (sQ l i j):=by rw[n7];exact YX _ (by simpa using hj)
 refine⟨j,rfl,hj,_,o7 hj,i,rfl,hi,_,o7 hi,i,rfl,hi,by show i*1+1<=(bc l).length;rw[D_];omega,j,rfl,hj,by rw[e1,D_,List.length_set];show j*1+1<=l.length;omega,rfl,?_⟩;rw[e1,e2];rfl
theorem ajo:aF Z G4:=by refine bY ajn ?_;rintro⟨l,x⟩ args H ⟨rfl,rfl,hl⟩;refine eE 20 ajn aHO ?_;refine⟨⟨by rw[D_];omega,by omega,rfl,rfl⟩,rfl,?_⟩;simp only[af5,YB,bG,Sv,cj];rfl
theorem abd:aF Z G5:=by
 refine bY ajo ?_;rintro⟨l,x⟩ args H ⟨rfl,rfl,hl⟩;have hl:l.length<1200000:=hl;simp;have bB:(l++[x]).length=l.length+1:=by simp
 have e:wI (a_ (l++[x]).length-1)=((l.length:Nat):Int):=by
  rw[bB];have e0:a_ (l.length+1)-1=(l.length:Int):=by simp
  rw[e0,cb]
 have hg:(l++[x]).getD l.length 0=x:=by simp[List.getD]
 have key:bC Z 213 [.aa 0 0] (gF (l++[x])) (.ep 3 (J x)) (aE [(0,.ah [.ad 1 l.length 1] 247),(1,.au (bc (l++[x])) 3)] 2):=by refine eE 27 ajo aHN ?_;delta u0 lh oe;exact⟨l.length,e,by omega,x,by rw[o7 (by omega),hg],by omega,l.length,e,⟨by omega,by omega⟩,rfl,rfl⟩
 have h2:=Ib (g:=1) key rfl (λI e o h=>by
  have h3:=ajY (hJ:=3) l.length h;have:(bc (l++[x])).take l.length=bc l:=by rw[Sv,<-D_ l,List.take_left]
  rw[this]at h3;exact h3) rfl (ct 2)
 exact h2
def B_:Nat->LI->Nat->LI
 |0,l,_=>l
 |f+1,l,j=>if(j-1)/ 2=j\/¬l.getD j 0<l.getD ((j-1)/ 2) 0 then l else B_ f (sQ l ((j-1)/ 2) j) ((j-1)/ 2)
def wJ:Nat->LI->Nat->Nat->LI×Nat
 |0,l,i,_=>(l,i)
 |f+1,l,i,n=>
  if 2*i+1>=n then(l,i)
  else
   let j:=if 2*i+2<n/\l.getD (2*i+2) 0<l.getD (2*i+1) 0 then 2*i+2 else 2*i+1
   if¬l.getD j 0<l.getD i 0 then(l,i)else wJ f (sQ l i j) j n
def upX:bT (LI×Nat)where
 aI w A H:=A=[.ep 246 (.aa 0 0),J (w.2:Int)]/\H=gF w.1/\w.2<w.1.length/\w.1.length<1200000
 v w:=.aL []
 aD w:=gF (B_ (w.2+1) w.1 w.2)
def amm:bT (LI×Nat×Nat)where
 aI w A H:=A=[.ep 246 (.aa 0 0),J (w.2.1:Int),J (w.2.2:Int)]/\H=gF w.1/\w.2.2<=w.1.length/\w.1.length<1200000/\w.2.1<=w.2.2/\w.2.1<w.1.length
 v w:=.ai (decide ((wJ (w.2.2+1) w.1 w.2.1 w.2.2).2>w.2.1))
 aD w:=gF (wJ (w.2.2+1) w.1 w.2.1 w.2.2).1
def apb:bT (LI×Int)where
 aI w A H:=A=[.ep 246 (.aa 0 0),.ep 3 (J w.2)]/\H=gF w.1/\w.1.length<1000000
 v w:=.aL []
 aD w:=YB (B_ (w.1.length+1) (w.1++[w.2]) w.1.length)
def vP(l:LI):LI:=(wJ l.length (sQ l 0 (l.length-1)) 0 (l.length-1)).1
def ao9:bT LI where
 aI l A H:=A=[.ep 246 (.aa 0 0)]/\H=gF l/\0<l.length/\l.length<1000000
 v l:=.ep 3 (J ((vP l).getD (l.length-1) 0))
 aD l:=gF ((vP l).take (l.length-1))
theorem aNH:upX.bM:=by
 rintro⟨l,j⟩ ⟨l',j'⟩ A H ⟨h1,h2,_⟩ ⟨k1,k2,_⟩;have e:=L7 (h2.symm.trans k2);rw[h1]at k1;simp at k1 e;have e1:j=j':=by omega
 rw[e,e1]
theorem azD:amm.bM:=by
 rintro⟨l,i,j⟩ ⟨l',i',j'⟩ A H ⟨h1,h2,_⟩ ⟨k1,k2,_⟩;have e:=L7 (h2.symm.trans k2);rw[h1]at k1;simp at k1 e;have e1:i=i':=by omega
 have e2:j=j':=by omega
 rw[e,e1,e2]
theorem aCN:apb.bM:=by rintro⟨l,x⟩ ⟨l',x'⟩ A H ⟨h1,h2,_⟩ ⟨k1,k2,_⟩;have e:=L7 (h2.symm.trans k2);rw[h1]at k1;simp at k1 e;rw[e,k1]
theorem aCL:ao9.bM:=by rintro l l' A H ⟨_,h2,_⟩ ⟨_,k2,_⟩;rw[L7 (h2.symm.trans k2)]
def G6:Ev.aX:=bx 188 (bE upX aNH bU) G5
def G7:Ev.aX:=bx 190 (bE amm azD bU) G6
def G8:Ev.aX:=bx 178 (bE apb aCN bU) G7
def G9:Ev.aX:=bx 181 (bE ao9 aCL bU) G8
abbrev ZH x0:=aJ [(0,.ep 246 (.aa 0 0)),(1,J x0)]
abbrev On h0:=([.ep 246 (.aa 0 0),h0]:LV)
theorem aHu{l j L Q}:
 eG G5 [0,1] L Q 188 (On (J j)) (gF l)=L (ZH j) (gF l) (aB Z 188 0):=by kernel_rfl
abbrev WB x0 x1:=aE [(0,.ah [.ad 1 x0 1] 247),(1,bG x1 3)] 2
abbrev Z8 h0 h1 h2(h3:(LI×Nat×Nat)->Prop)(h4:(LI×Nat×Nat)->Prop):=∃b0:LI×Nat×Nat,(([h0,h1,h2]:LV)=[.ad 0 b0.1.length 1,ui b0.2.1,ui b0.2.2]/\h3 b0/\b0.2.1<b0.1.length/\b0.2.2<b0.1.length)/\h4 b0
abbrev awp(h0:LI×Nat×Nat):=decide (List.getD h0.1 h0.2.1 0<List.getD h0.1 h0.2.2 0)
abbrev ahU(h0:LI) h1 h2(h3:(LI×Nat×Nat)->Prop)(h4:QT) h5(h6:LT) h7 h8:=Z8 (.ad 0 h0.length 1) (J h1) (J h2) (λb0=>h3 b0) (λb0=>aZ (!awp b0) (h4 h5 (WB h0.length b0.1)) (Z8 (.ad 0 h0.length 1) (J h2) (J h1) (λb1=>dX b0.1=dX b1.1) (λb1=>h6 h7 (WB h0.length (sQ b1.1 b1.2.1 b1.2.2)) (aB Z h8 0))))
abbrev aaG(h0:Int):=wI (Int.tdiv (wI (h0-1)) 2)
theorem aHv{l j L Q}:
 qJ G5 [0,1] L Q 188 2 (ZH j) (gF l)=aZ (aaG j==j) (Q (.aL []) (gF l)) (ahU l j (aaG j) (λw=>dX l=dX w.1) Q (.aL []) L (ZH (aaG j)) 188):=by kernel_rfl
abbrev JG x0 x1 x2:=aJ [(0,.ep 246 (.aa 0 0)),(1,J x0),(2,J x1),(7,J x2)]
theorem aHD{l i n L Q}:
 eG G6 [0,1,2,7] L Q 190 [.ep 246 (.aa 0 0),J i,J n] (gF l)=L (JG i n i) (gF l) (aB Z 190 0):=by kernel_rfl
abbrev Er(h0:Int):=wI (wI (2*h0)+1)
abbrev awh h0 h1(h2:Int)(h3:LI×Nat×Nat) h4(h5:Int) h6 h7:=ahU h0 h1 h2 (λb0=>dX h3.1=dX b0.1) h4 (.ai (decide (h2>h5))) h6 (JG h5 h7 h1) 190
theorem aHE{l i0 i n L Q}:
 qJ G6 [0,1,2,7] L Q 190 2 (JG i0 n i) (gF l)=Az (decide (Er i>=n)) (Q (.ai (decide (i>i0))) (gF l)) (decide (Er i<0)) (aZ (decide (wI (Er i+1)<n)) (Z8 (ej 0 l) (cu (Er i)) (cu (wI (2*i))) (λw=>dX l=dX w.1) (λw=>aZ (awp w) (awh l (wI (Er i+1)) i w Q i0 L n) (awh l (Er i) i w Q i0 L n))) (ahU l (Er i) i (λw=>dX l=dX w.1) Q (.ai (decide (i>i0))) L (JG i0 n (Er i)) 190)):=by kernel_rfl
theorem aHe{l x L Q}:
 eG G7 [] L Q 178 (On (.ep 3 (J x))) (gF l)=(∃w:LI×Int,(Cn (.ep 3 (J x)) (.ep 3 (J w.2))/\gF l=gF w.1/\w.1.length<1200000)/\(∃aH,(([.ad 0 (w.1++[w.2]).length 1]:LV)=[ej 0 aH]/\dX (w.1++[w.2])=dX aH)/\(∃cI:LI×Nat,((On (J (Et aH)):LV)=On (ui cI.2)/\WB (w.1++[w.2]).length aH=gF cI.1/\cI.2<cI.1.length/\cI.1.length<1200000)/\Q (.aL []) (YB (B_ (cI.2+1) cI.1 cI.2))))):=by kernel_rfl
theorem aHi{l L Q}:
 eG G8 [] L Q 181 [.ep 246 (.aa 0 0)] (gF l)=(∃w,(([ej 0 l]:LV)=[ej 0 w]/\dX l=dX w)/\Z8 (ej 0 l) (J 0) (J (Et w)) (λaH=>dX w=dX aH.1) (λaH=>∃cI:LI×Nat×Nat,(([.ep 246 (.aa 0 0),J 0,J (Et w)]:LV)=[.ep 246 (.aa 0 0),ui cI.2.1,ui cI.2.2]/\WB l.length (sQ aH.1 aH.2.1 aH.2.2)=gF cI.1/\cI.2.2<=cI.1.length/\cI.1.length<1200000/\cI.2.1<=cI.2.2/\cI.2.1<cI.1.length)/\(∃eJ:LI×Int,uY (gF (wJ (cI.2.2+1) cI.1 cI.2.1 cI.2.2).1=gF (eJ.1++[eJ.2])/\eJ.1.length<1200000) (Q (.ep 3 (J eJ.2)) (gF eJ.1))))):=by kernel_rfl
theorem v5(l i j):(sQ l i j).length=l.length:=by simp[sQ]
theorem aFg{j:Nat}(h:j<1200000):wI (Int.tdiv (wI ((j:Int)-1)) 2)=(((j-1)/ 2:Nat):Int):=by
 cases j with
 |zero=>rfl
 |succ j=>
  have e0:((j+1:Nat):Int)-1=(j:Int):=by simp
  rw[e0,cb (x:=(j:Int)),Int.tdiv_eq_ediv_of_nonneg (by omega)];have e1:((j:Int)/ 2)=((j / 2:Nat):Int):=by simp
  rw[e1,cb];simp
theorem auJ:∀f l j,(B_ f l j).length=l.length
 |0,l,j=>rfl
 |f+1,l,j=>by
  unfold B_;split
  .rfl
  .rw[auJ f,v5]
theorem aHt{aC}:∀p:Nat×LI×Nat,(p.2.2<p.1/\p.2.2<p.2.1.length/\p.2.1.length<1200000/\B_ p.1 p.2.1 p.2.2=aC)->
 ba Z 188 23 2 (.aL []) (gF aC) (ZH (p.2.2:Int)) (gF p.2.1) (aB Z 188 0):=by
 refine dj (λp=>p.1) _ _ _ _ ?_;rintro⟨f,l,j⟩ ⟨h1,h2,h3,hf⟩ ih;simp only at h1 h2 h3 hf ih⊢;obtain⟨f,rfl⟩:∃g,f=g+1:=⟨f-1,by omega⟩;refine hE abd aHv ?_;delta aaG;rw[aFg (by omega)];unfold B_ at hf;refine al (λh=>?_) λh=>?_
 .rw[aP (.inl (by simp at h;omega))]at hf;subst hf;exact aA
 have h:¬(j-1)/ 2=j:=by simp at h;omega
 have hp:(j-1)/ 2<l.length:=by omega
 refine⟨(l,j,(j-1)/ 2),⟨rfl,rfl,h2,hp⟩,al (λh4=>?_) λh4=>?_⟩
 .rw[aP (.inr (by simpa using h4))]at hf;subst hf;exact aA
 .have h6:l.getD j 0<l.getD ((j-1)/ 2) 0:=by simpa using h4
  rw[aw (by rintro(h5|h5);exact h h5;exact h5 h6)]at hf;refine⟨(l,(j-1)/ 2,j),⟨rfl,rfl,hp,h2⟩,?_⟩;have next:=ih (f,sQ l ((j-1)/ 2) j,(j-1)/ 2) ⟨by simp;omega,by simp only[v5];exact hp,by simp only[v5];exact h3,hf⟩ (by simp)
  simp only[gF,v5]at next
  exact next
theorem abe:aF Z G6:=by refine bY abd ?_;rintro⟨l,j⟩ args H ⟨rfl,rfl,h1,h2⟩;refine eE 23 abd aHu ?_;exact aHt (j+1,l,j) ⟨by simp,h1,h2,rfl⟩
theorem aml:∀f l i n,(wJ f l i n).1.length=l.length
 |0,l,i,n=>rfl
 |f+1,l,i,n=>by
  unfold wJ;split
  .rfl
  .dsimp only;generalize (if 2*i+2<n/\l.getD (2*i+2) 0<l.getD (2*i+1) 0 then 2*i+2 else 2*i+1)=j;split
   .rfl
   .rw[aml f,v5]
theorem w2{i:Nat}(h:i<2000000):wI (wI (2*(i:Int))+1)=((2*i+1:Nat):Int):=by rw[cb (x:=2*(i:Int)),cb];simp
theorem w3{i}(h:i<2000000):wI (((2*i+1:Nat):Int)+1)=((2*i+2:Nat):Int):=by rw[cb];omega
theorem aHC{i0 n aC}:∀p:Nat×LI×Nat,(n<p.1+p.2.2+1/\n<=p.2.1.length/\p.2.1.length<1200000/\p.2.2<=n/\p.2.2<p.2.1.length/\wJ p.1 p.2.1 p.2.2 n=aC)->
 ba Z 190 48 2 (.ai (decide (aC.2>i0))) (gF aC.1) (JG (i0:Int) (n:Int) (p.2.2:Int)) (gF p.2.1) (aB Z 190 0):=by
 refine dj (λp=>p.1) _ _ _ _ ?_;rintro⟨f,l,i⟩ ⟨h0,h1,h2,h3,h3',hf⟩ ih;simp only at h0 h1 h2 h3 h3' hf ih⊢;refine hE abe aHE ?_;delta Er cu;rw[w2 (by omega),w3 (by omega)];have ant:(l,i)=aC->fD (.ai (decide (aC.2>i0))) (gF aC.1) (.ai (decide ((i:Int)>(i0:Int)))) (gF l):=by rintro rfl;exact⟨by simp,rfl⟩
 have Dn:2*i+1>=n->(l,i)=aC:=by
  intro h;cases f with
  |zero=>exact hf
  |succ f=>unfold wJ at hf;rwa[aP h]at hf
 refine al (λh=>ant (Dn (by simp at h;omega))) λh=>?_
 have h:2*i+1<n:=by simp at h;omega
 refine al (λh=>(by simp at h;omega)) λ_=>?_
 obtain⟨f,rfl⟩:∃g,f=g+1:=⟨f-1,by omega⟩;unfold wJ at hf;rw[aw (by omega)]at hf;have next:∀j,2*i+1<=j->j<n->wJ f (sQ l i j) j n=aC->ba Z 190 48 2 (.ai (decide (aC.2>i0))) (gF aC.1) (JG (i0:Int) (n:Int) (j:Int)) (aE [(0,.ah [.ad 1 l.length 1] 247),(1,.au (bc (sQ l i j)) 3)] 2) (aB Z 190 0):=by intro j g1 g2 g3;have nx:=ih (f,sQ l i j,j) ⟨by simp;omega,by simp only[v5];exact h1,by simp only[v5];exact h2,by simp;omega,by simp only[v5];omega,g3⟩ (by simp);simp only[gF,v5]at nx⊢;exact nx
 have ZO:∀j,2*i+1<=j->j<n->(if¬l.getD j 0<l.getD i 0 then(l,i)else wJ f (sQ l i j) j n)=aC->
  ∃aH:LI×Nat×Nat,((([.ad 0 l.length 1,J (j:Int),J (i:Int)]:LV)=[.ad 0 aH.1.length 1,J (aH.2.1:Int),J (aH.2.2:Int)])/\(aE [(0,.au (bc l) 3)] 1=dX aH.1)/\aH.2.1<aH.1.length/\aH.2.2<aH.1.length)/\
   aZ (!(decide (aH.1.getD aH.2.1 0<aH.1.getD aH.2.2 0)))
    (fD (.ai (decide (aC.2>i0))) (gF aC.1) (.ai (decide ((i:Int)>(i0:Int)))) (aE [(0,.ah [.ad 1 l.length 1] 247),(1,.au (bc aH.1) 3)] 2))
    (∃cI:LI×Nat×Nat,((([.ad 0 l.length 1,J (i:Int),J (j:Int)]:LV)=[.ad 0 cI.1.length 1,J (cI.2.1:Int),J (cI.2.2:Int)])/\(aE [(0,.au (bc aH.1) 3)] 1=dX cI.1)/\cI.2.1<cI.1.length/\cI.2.2<cI.1.length)/\
      ba Z 190 48 2 (.ai (decide (aC.2>i0))) (gF aC.1) (JG (i0:Int) (n:Int) (j:Int)) (aE [(0,.ah [.ad 1 l.length 1] 247),(1,.au (bc (sQ cI.1 cI.2.1 cI.2.2)) 3)] 2) (aB Z 190 0)):=by
  intro j g1 g2 g3;have hj:j<l.length:=by omega
  have hi:i<l.length:=by omega
  refine⟨(l,j,i),⟨rfl,rfl,hj,hi⟩,al (λh5=>?_) λh5=>?_⟩
  .rw[aP (by simpa using h5)]at g3;exact ant g3
  .have h6:l.getD j 0<l.getD i 0:=by simpa using h5
   rw[aw (λh7=>h7 h6)]at g3;exact⟨(l,i,j),⟨rfl,rfl,hi,hj⟩,next j g1 g2 g3⟩
 refine al (λh4=>?_) λh4=>?_
 .have h4:2*i+2<n:=by simp at h4;omega
  refine⟨(l,2*i+2,2*i+1),⟨rfl,rfl,by show 2*i+2<l.length;omega,by show 2*i+1<l.length;omega⟩,al (λh5=>?_) λh5=>?_⟩
  .have h5:l.getD (2*i+2) 0<l.getD (2*i+1) 0:=by simpa using h5
   simp only[aP (And.intro h4 h5)]at hf;exact ZO (2*i+2) (by omega) h4 hf
  .have h5:¬l.getD (2*i+2) 0<l.getD (2*i+1) 0:=by simpa using h5
   simp only[aw (λh:2*i+2<n/\l.getD (2*i+2) 0<l.getD (2*i+1) 0=>h5 h.2)]at hf;exact ZO (2*i+1) (by omega) h hf
 .have h4:¬2*i+2<n:=by simp at h4;omega
  simp only[aw (λh:2*i+2<n/\l.getD (2*i+2) 0<l.getD (2*i+1) 0=>h4 h.1)]at hf;exact ZO (2*i+1) (by omega) h hf
theorem ajp:aF Z G7:=by refine bY abe ?_;rintro⟨l,i,n⟩ args H ⟨rfl,rfl,h1,h2,h3,h4⟩;refine eE 48 abe aHD ?_;exact aHC (n+1,l,i) ⟨by simp;omega,h1,h2,h3,h4,rfl⟩
theorem ajq:aF Z G8:=by
 refine bY ajp ?_;rintro⟨l,x⟩ args H ⟨rfl,rfl,hl⟩;have hl:l.length<1000000:=hl;refine eE 12 ajp aHe ?_;delta Et;have bB:(l++[x]).length=l.length+1:=by simp
 have e:wI (a_ (l++[x]).length-1)=((l.length:Nat):Int):=by
  rw[bB];have e0:a_ (l.length+1)-1=(l.length:Int):=by simp
  rw[e0,cb]
 exact⟨(l,x),⟨rfl,rfl,by show l.length<1200000;omega⟩,l++[x],aA,(l++[x],l.length),⟨by rw[e],rfl,by simp,by simp;omega⟩,rfl,rfl⟩
theorem aDM{l:LI}(h:0<l.length):l=l.take (l.length-1)++[l.getD (l.length-1) 0]:=by
 have h1:l.length-1<l.length:=by omega
 have:l.drop (l.length-1)=[l.getD (l.length-1) 0]:=by rw[fu h1,gf (by omega)];simp[List.getD,gg h1]
 rw[<-this,uK]
theorem Uc:aF Z G9:=by
 refine bY ajq ?_;rintro l args H ⟨rfl,rfl,h0,hl⟩;refine eE 15 ajq aHi ?_;delta Et;have e:wI (a_ l.length-1)=((l.length-1:Nat):Int):=by
  have e0:a_ l.length-1=((l.length-1:Nat):Int):=by simp;omega
  rw[e0,cb]
 have kL:(vP l).length=l.length:=by rw[vP,aml,v5]
 have hs:=aDM (l:=vP l) (by omega);rw[kL]at hs;have hf:(wJ (l.length-1+1) (sQ l 0 (l.length-1)) 0 (l.length-1)).1=vP l:=by rw[vP];congr 2;omega
 refine⟨l,aA,(l,0,l.length-1),⟨by rw[e];rfl,rfl,h0,by show l.length-1<l.length;omega⟩,(sQ l 0 (l.length-1),0,l.length-1),
  ⟨by rw[e];rfl,by simp only[gF,v5],by simp only[v5];omega,by simp only[v5];omega,by simp,by simp only[v5];exact h0⟩,
  ((vP l).take (l.length-1),(vP l).getD (l.length-1) 0),⟨rfl,?_,by simp;omega⟩,rfl,rfl⟩
 simp only[hf];rw[<-hs]
def lv(m:LP):aO:=.bI (bJ J 0 m) m.length true
def F7(base k:Int)(m:LP)(r:Int):LP:=if r>base then up r k m else m
def I2(base:Int):Nat->LP->iN->LP
 |_,m,[]=>m
 |k,m,i::l=>I2 base (k+1) ((fQ i++fR i).foldl (F7 base k) m) l
abbrev Dg x0 x1:=aE [(0,.au x0 56),(1,lv x1)] 2
def ap8:bT (nL×Int)where
 aI w A H:=A=[.bK 0 w.1.qQ w.1.l.length 0 6 false,J w.2]/\H=oV w.1/\w.1.ok
 v w:=.aS 1
 aD w:=Dg w.1.cs (I2 w.2 0 [] w.1.l)
theorem aDL:ap8.bM:=by rintro w w' A H ⟨h1,h2,h3⟩ ⟨k1,k2,k3⟩;rw[YQ h1 h2 h3 k1 k2 k3]
def G10:Ev.aX:=bx 176 (bE ap8 aDL bU) G9
def afa:Nat->LN:=dY [(3,[1,5,11,12,13]),(6,[1,5,6,11,12,13,22,23,24])]
def zU(r:Int)(m:LP):Int:=(lk r m).getD 0
def Wr(dm:LI)(fF:LP)(use:Int):AH:=aE [(0,.ah [.aa 3 0] 246),(1,.ah [.aS 4] 244),(2,.ah [J use] 3),(3,.ah [.ad 5 dm.length 1] 247),(4,lv fF),(5,bG dm 3)] 6
def arC(dm:LI)(fF:LP)(use:Int):AH:=aE [(0,.ah [.aa 3 0] 246),(1,.ah [.aS 4] 244),(2,.ah [J use] 3),(3,.ah [.ad 6 dm.length 1] 247),(4,lv fF),(5,.bg []),(6,bG dm 3)] 7
def Sb(l:LI)(x:Int):LI:=B_ (l.length+1) (l++[x]) l.length
def asC:bT (LI×LP×Int×Int)where
 aI w A H:=A=[J w.2.2.2,.aa 0 0,.aa 1 0,.aa 2 0]/\H=Wr w.1 w.2.1 w.2.2.1/\w.1.length<1000000
 v w:=.aL []
 aD w:=arC (Sb w.1 (zU w.2.2.2 w.2.1)) w.2.1 (wI (w.2.2.1-1))
theorem aF2:asC.bM:=by
 rintro⟨f,m,u,r⟩ ⟨f',m',u',r'⟩ A H ⟨h1,h2,_⟩ ⟨k1,k2,_⟩;have e:=h2.symm.trans k2;rw[h1]at k1;simp at k1;have q:=λi=>congrArg (λH=>AH.aR H i) e
 simp at q;have e1:=BQ (cW (q 5));have e2:=(aO.bI.inj (cW (q 4))).1;have e3:=(aO.ah.inj (cW (q 2))).1;simp at e3;rw[k1,e1,tg Ap e2,e3]
def Ua:Ev.aX:=bx 177 (bE asC aF2 bU) G10
def uG(m:LP)(r:Int):Int:=(lk r m).getD r
def wP(i:iM)(fF:LP):AH:=aE [(0,DH i),(1,.ah [.aS 2] 244),(2,lv fF)] 3
def alx:LV->AH->Option Sp
 |[.aa 0 (.succ 0),.aa 1 0],H=>some (.ex (iM×LP) (λw=>(H=wP w.1 w.2,.aL [],wP ⟨w.1.op,uG w.2 w.1.r,w.1.a,w.1.n,w.1.fU,w.1.ar⟩ w.2)) (λw w' h1 h2=>by
   have e:=h1.symm.trans h2;have q:=λi=>congrArg (λH=>AH.aR H i) e
   simp only[wP,eg]at q;have e0:=Lp (aO.ah.inj (cW (q 0))).1;have e2:=tg Ap (aO.bI.inj (cW (q 2))).1;rw[e0,e2]))
 |[.aa 0 (.succ (.succ 0)),.aa 1 0],H=>some (.ex (iM×LP) (λw=>(H=wP w.1 w.2,.aL [],wP ⟨w.1.op,w.1.r,uG w.2 w.1.a,w.1.n,w.1.fU,w.1.ar⟩ w.2)) (λw w' h1 h2=>by
   have e:=h1.symm.trans h2;have q:=λi=>congrArg (λH=>AH.aR H i) e
   simp only[wP,eg]at q;have e0:=Lp (aO.ah.inj (cW (q 0))).1;have e2:=tg Ap (aO.bI.inj (cW (q 2))).1;rw[e0,e2]))
 |_,_=>none
def OY:Ev.aX:=bx 182 alx Ua
abbrev SN x0 x1 x2 x3 x4:=aJ [(1,J x0),(5,.aS 1),(11,.bK 0 x1 x2 0 6 x3),(12,J (a_ x2)),(13,J x4)]
theorem aHb{cs off len base L Q}:
 fA G9 afa L Q 176 [Ep off len,J base] (oK cs 56)=L (SN base off len false 0) (ze cs 56 (eu [] 0)) (aB Z 176 0):=by kernel_rfl
abbrev NA x0 x1 x2 x3 x4 x5 x6 x7:=aJ [(1,J x0),(5,.aS 1),(6,J x1),(11,.bK 0 x2 x3 0 6 x4),(12,J (a_ x3)),(13,J x5),(22,.ad 2 x6 1),(23,J (a_ x6)),(24,J x7)]
abbrev NR h0 h1 h2 h3 h4 h5:=(h0=0->h1<=4194304/\h2)/\(1<=h0->(h3/\h1+h0<=4194304/\h4)/\h5)
abbrev Hm h0:=List.all h0 AV.dH=true/\List.all h0 f_=true
abbrev avI h0 h1(h2:LT) h3 h4 h5 h6 h7 h8 h9 dG eB iV kc jL:=NR h0 h1 (h2 h3 (jv (.au h4 56) h5 h6) (aB Z h7 h8)) (h9=h1*dG) (Hm eB) (h2 iV (jv (.au h4 56) h5 (.au (kc++eB) jL)) (aB Z h7 h8))
theorem aHc{cs off len base i m L Q}:
 iL G9 afa L Q 176 1 (SN base off len false i) 0 (Dg cs m)=jQ i len (λcv=>aah cs (off+cv*6) (λn=>λbm=>λbS=>λdn=>λs=>λfx=>NS (u6 n bm bS dn s fx) (λw=>im (.aj (u6 n bm bS dn s fx))/\NS (u6 n bm bS dn s fx) (λaH=>(bc (fR aH)).length=(fR aH).length*1/\avI (fR aH).length (fQ w).length L (NA base i off len false i (fQ w).length 0) cs (lv m) (bG (fQ w) 3) 176 1 (bc (fQ w)).length 1 (bc (fR aH)) (NA base i off len false i ((fQ w).length+(fR aH).length) 0) (bc (fQ w)) 3)))) (Q (.aS 1) (Dg cs m)):=by kernel_rfl
theorem aG9{cs off len base i k j m rs L Q}:
 iL G9 afa L Q 176 1 (NA base k off len false i rs.length j) 1 (Om cs (lv m) rs)=sX j rs 3 (λn=>gT (decide (n>base)) (rP 3 (bJ J 0 m) m.length n (J k) (λbF=>λc'=>L (NA base k off len false i rs.length (wI (j+1))) (Om cs (eu bF c') rs) (aB Z 176 1))) L (NA base k off len false i rs.length (wI (j+1))) (Om cs (lv m) rs) 176 1) (L (SN base off len false (wI (i+1))) (Dg cs m) (aB Z 176 0)):=by kernel_rfl
theorem aHd{dm fF use r L Q}:
 eG G10 [] L Q 177 (NT r) (Wr dm fF use)=xL 3 fF r (λn=>λb=>∃w:LI×Int,((On (.ep 3 (J n)):LV)=On (.ep 3 (J w.2))/\gF dm=gF w.1/\w.1.length<1000000)/\Q (.aL []) (arC (B_ (w.1.length+1) (w.1++[w.2]) w.1.length) fF (wI (use-1)))):=by kernel_rfl
abbrev k_ h0 h1:=(.ah [.aS h0] h1:aO)
abbrev avR h0(h1:QT)(h2:iM) h3 h4 h5:=aZ h0 (h1 (.aL []) (jv (.ah (u6 h2.op h3 h4 h2.n h2.fU h2.ar) 56) (k_ 2 244) (lv h5))) (h1 (.aL []) (wP h2 h5))
theorem aHj{i fF L Q}:
 eG Ua [] L Q 182 [.aa 0 1,.aa 1 0] (wP i fF)=xL 3 fF i.r (λn=>λb=>avR b Q i n i.a fF):=by kernel_rfl
theorem aHk{i fF L Q}:
 eG Ua [] L Q 182 [.aa 0 2,.aa 1 0] (wP i fF)=xL 3 fF i.a (λn=>λb=>avR b Q i i.r n fF):=by kernel_rfl
theorem MP(m r):∃n b,lu Z 3 3 (bJ J 0 m) (J r)=some (J n,b)/\n=zU r m/\(b=true->lk r m=some n)/\(b=false->lk r m=none):=by
 rw[nq _ LA];unfold zU;cases lk r m with
 |none=>exact⟨0,false,by rw[JR];rfl,rfl,λh=>(by cases h),λ_=>rfl⟩
 |some n=>exact⟨n,true,rfl,rfl,λ_=>rfl,λh=>(by cases h)⟩
theorem as5{cs off len base i}{k:Nat}{m0 aC rs}(hr:rs.length<400000)(next:ba Z 176 37 1 (.aS 1) (Dg cs aC) (SN base off len false (wI (i+1))) (Dg cs (rs.foldl (F7 base k) m0)) (aB Z 176 0)):
 ∀p:Nat×LP,(p.1<=rs.length/\(rs.drop p.1).foldl (F7 base k) p.2=rs.foldl (F7 base k) m0)->
 ba Z 176 37 1 (.aS 1) (Dg cs aC) (NA base (k:Int) off len false i rs.length (p.1:Int)) (aE [(0,.au cs 56),(1,lv p.2),(2,bG rs 3)] 3) (aB Z 176 1):=by
 refine dj (λp=>rs.length-p.1) _ _ _ _ ?_;rintro⟨j,m⟩ ⟨hj,hf⟩ ih;refine hE Uc aG9 ?_;delta sX lh oe;refine al (λae=>?_) λaY=>?_
 .have ae:j<rs.length:=by simpa using ae
  rw[fu ae,qz]at hf;have hg:rs.getD j 0=rs[j]:=by simp[List.getD,gg ae]
  refine⟨j,rfl,ae,rs[j],by rw[o7 ae,hg],?_⟩;rw[pk ae (by omega)];refine al (λh=>?_) λh=>?_
  .have h:rs[j]>base:=by simpa using h
   rw[F7,aP h]at hf;exact⟨_,_,ph J LA,ih (j+1,up rs[j] k m) ⟨by simp;omega,hf⟩ (by simp;omega)⟩
  .have h:¬rs[j]>base:=by simpa using h
   rw[F7,aw h]at hf;exact ih (j+1,m) ⟨by simp;omega,hf⟩ (by simp;omega)
 .have aY:rs.length<=j:=by simpa using aY
  rw[gf aY]at hf;have hf:m=rs.foldl (F7 base k) m0:=hf;rw[hf];exact next
theorem aHa{p:nL}{base aC}(hp:p.ok):
 ∀q:Nat×LP,(q.1<=p.l.length/\I2 base q.1 q.2 (p.l.drop q.1)=aC)->
 ba Z 176 37 1 (.aS 1) (Dg p.cs aC) (SN base p.qQ p.l.length false (q.1:Int)) (Dg p.cs q.2) (aB Z 176 0):=by
 refine dj (λq=>p.l.length-q.1) _ _ _ _ ?_;rintro⟨i,m⟩ ⟨hi,hf⟩ ih;have kL:=hp.2;refine hE Uc aHc ?_;refine al (λae=>?_) λaY=>?_
 .have ae:i<p.l.length:=by simpa using ae
  have bP:=p.get hp ae;rw[fu ae,I2]at hf;have next:=ih (i+1,(fQ p.l[i]++fR p.l[i]).foldl (F7 base i) m) ⟨by simp;omega,hf⟩ (by simp;omega)
  generalize p.l[i]=x at bP next
  have⟨o,r,a,n,s,ar⟩:=x;have hr:=agi ⟨o,r,a,n,s,ar⟩;have hw:=aht ⟨o,r,a,n,s,ar⟩;rw[<-pk ae (by omega)]at next
  refine⟨i,rfl,ae,o,r,a,n,s,ar,bP,⟨o,r,a,n,s,ar⟩,aA,rfl,⟨o,r,a,n,s,ar⟩,aA,by rw[D_];omega,λh0=>⟨by omega,?_⟩,λh1=>⟨⟨by rw[D_];omega,by omega,(Sw _).1,(Sw _).2⟩,?_⟩⟩
  .have he:=mE h0;rw[he,jt]at next
   exact as5 (by omega) next (0,m) ⟨by simp,rfl⟩
  .have nx:=as5 (by rw[cj];omega) next (0,m) ⟨by simp,rfl⟩
   simp only[bG,Sv,cj]at nx;exact nx
 .have aY:p.l.length<=i:=by simpa using aY
  rw[gf aY]at hf;have hf:=hf;subst hf;exact aA
theorem ajk:aF Z G10:=by refine bY Uc ?_;rintro⟨p,base⟩ args H ⟨rfl,rfl,hp⟩;have hp:=hp;refine eE 37 Uc aHb ?_;exact aHa hp (0,[]) ⟨by simp,by simp⟩
theorem aba:aF Z Ua:=by refine bY ajk ?_;rintro⟨f,m,u,r⟩ args H ⟨rfl,rfl,hl⟩;refine eE 14 ajk aHd ?_;have⟨n,b,h1,h2,_⟩:=MP m r;refine⟨n,b,h1,(f,n),⟨rfl,rfl,hl⟩,rfl,?_⟩;subst h2;rfl
theorem Ko:aF Z OY:=by
 refine wA aba λargs H sp p v H' hs hd hp=>?_
 unfold alx at hs;split at hs
 .cases hs;have⟨⟨i,m⟩,e⟩:=HW hd;cases e;have hp:=hp;subst hp;refine eE 17 aba aHj ?_;have⟨n,b,h1,_,h3,h4⟩:=MP m i.r;refine⟨n,b,h1,al (λh=>⟨rfl,?_⟩) λh=>⟨rfl,?_⟩⟩
  .have:uG m i.r=n:=by unfold uG;rw[h3 h];rfl
   simp only[this];rfl
  .have:uG m i.r=i.r:=by unfold uG;rw[h4 h];rfl
   simp only[this]
 .cases hs;have⟨⟨i,m⟩,e⟩:=HW hd;cases e;have hp:=hp;subst hp;refine eE 17 aba aHk ?_;have⟨n,b,h1,_,h3,h4⟩:=MP m i.a;refine⟨n,b,h1,al (λh=>⟨rfl,?_⟩) λh=>⟨rfl,?_⟩⟩
  .have:uG m i.a=n:=by unfold uG;rw[h3 h];rfl
   simp only[this];rfl
  .have:uG m i.a=i.a:=by unfold uG;rw[h4 h];rfl
   simp only[this]
 .cases hs
structure Al where
 aD:iN
 eZ:Int
 fF:LP
 dm:LI
 qM:Int
 oL:Int
def Al.xD(s:Al)(r:Int):Al:=⟨s.aD,s.eZ,s.fF,Sb s.dm (zU r s.fF),s.qM,wI (s.oL-1)⟩
def Al.pd(base:Int)(last:LP)(k:Int)(ws:LI)(s:Al)(r:Int):Al:=if r>base/\zU r last=k/\r∉ws then s.xD r else s
def Al.p8(base:Int)(s:Al)(r:Int):Al:=
 if(lk r s.fF).isSome\/r<=base then s
 else if 0<s.dm.length then⟨s.aD,s.eZ,up r ((vP s.dm).getD (s.dm.length-1) 0) s.fF,(vP s.dm).take (s.dm.length-1),s.qM,wI (s.oL+1)⟩
 else⟨s.aD,s.eZ,up r s.qM s.fF,s.dm,wI (s.qM+1),wI (s.oL+1)⟩
def Al.BX(s:Al):Al:=⟨s.aD,max s.eZ s.oL,s.fF,s.dm,s.qM,s.oL⟩
def Al.aC(base:Int)(last:LP)(k:Int)(s:Al)(r:Int):Al:=if r>base/\zU r last=k then s.xD r else s
def HO(m:LP)(i:iM):iM:=⟨i.op,uG m i.r,uG m i.a,i.n,i.fU,i.ar⟩
def Al.put(s:Al)(i:iM):Al:=⟨s.aD++[HO s.fF i],s.eZ,s.fF,s.dm,s.qM,s.oL⟩
def Al.step(base:Int)(last:LP)(k:Int)(s:Al)(i:iM):Al:=
 ((fR i).foldl (Al.aC base last k) (((fR i).foldl (Al.p8 base) ((fQ i).foldl (Al.pd base last k (fR i)) s)).BX)).put i
def Al.run(base:Int)(last:LP):Nat->Al->iN->Al
 |_,s,[]=>s
 |k,s,i::l=>Al.run base last (k+1) (s.step base last k i) l
def KQ(base:Int):Al:=⟨[],0,[],[],wI (base+1),0⟩
def CN(l:iN)(base:Int):Al:=(KQ base).run base (I2 base 0 [] l) 0 l
def qo(l:iN):aO:=.au (dt l) 56
abbrev yr x0 x1:=aE [(0,.au x0 56),(1,qo x1)] 2
def alX:bT (nL×Int)where
 aI w A H:=A=[.bK 0 w.1.qQ w.1.l.length 0 6 false,J w.2]/\H=oV w.1/\w.1.ok/\w.1.l.length<240000/\∀x∈w.1.l,(x.op=19\/x.op=20)->x.ar<=w.2
 v w:=.aL [.ad 1 (CN w.1.l w.2).aD.length 6,J (CN w.1.l w.2).eZ]
 aD w:=yr w.1.cs (CN w.1.l w.2).aD
theorem axC:alX.bM:=by rintro w w' A H ⟨h1,h2,h3,_⟩ ⟨k1,k2,k3,_⟩;rw[YQ h1 h2 h3 k1 k2 k3]
def G13:Ev.aX:=bx 165 (bE alX axC bU) OY
def X5:Nat->LN:=dY [(8,[1,4,5,6,7,8,9,10,11,34,35,36]),(12,[1,4,5,6,7,8,9,10,11,12,13,15,34,35,36,45,46,47]),(18,[1,4,5,6,7,8,9,10,11,12,13,15,34,35,36,71,72,73]),(30,[1,4,5,6,7,8,9,10,11,12,13,34,35,36,114,115,116])]
def v7(s:Al)(base:Int)(off len:Nat)(i:Int)(m1 m2:List (Nat×AV)):Tr AV:=aJ ([(1,J base),(4,.ad 1 s.aD.length 6),(5,J s.eZ),(6,.aS 2),(7,.aa 3 0),(8,.aa 4 0),(9,J s.qM),(10,.aa 5 0),(11,.cw (.func 177) [] [.aa 4 0,.aa 3 0,.aa 5 0])]++(m1++([(34,.bK 0 off len 0 6 false),(35,J (a_ len)),(36,J i)]++m2)))
def Iq(cs:LV)(last:LP)(s:Al):AH:=aE [(0,.au cs 56),(1,qo s.aD),(2,lv last),(3,.ah [.aS 6] 244),(4,.ah [.aa 7 0] 246),(5,.ah [J s.oL] 3),(6,lv s.fF),(7,.ah [.ad 8 s.dm.length 1] 247),(8,bG s.dm 3)] 9
def Ql(cs:LV)(last:LP)(s:Al)(x:iM)(ws rs:LI):AH:=aE [(0,.au cs 56),(1,qo s.aD),(2,lv last),(3,.ah [.aS 9] 244),(4,.ah [.aa 10 0] 246),(5,.ah [J s.oL] 3),(6,DH x),(7,bG ws 3),(8,bG rs 3),(9,lv s.fF),(10,.ah [.ad 11 s.dm.length 1] 247),(11,bG s.dm 3)] 12
def Bf(cs:LV)(last:LP)(s:Al)(x:iM)(ws:LI):AH:=aE [(0,.au cs 56),(1,qo s.aD),(2,lv last),(3,.ah [.aS 8] 244),(4,.ah [.aa 9 0] 246),(5,.ah [J s.oL] 3),(6,DH x),(7,bG ws 3),(8,lv s.fF),(9,.ah [.ad 10 s.dm.length 1] 247),(10,bG s.dm 3)] 11
abbrev Z_ h0 h1 h2(h3:nL×Int):=([Ep h0 h1,J h2]:LV)=[Ep h3.1.qQ h3.1.l.length,J h3.2]
abbrev avV h0 h1 h2 h3 h4 h5 h6 h7 h8 h9 dG:=aJ [(1,J h0),(4,h1),(5,J h2),(6,.aS h3),(7,.aa h4 0),(8,.aa h5 0),(9,h6),(10,.aa h7 0),(11,JV 177 h5 h4 h7),(34,Ep h8 h9),(35,J (a_ h9)),(36,dG)]
theorem aGG{cs off len base L Q}:
 qE Z OY X5 L Q 2000 165 [Ep off len,J base] (oK cs 56)=(∃w:nL×Int,(Z_ off len base w/\oK cs 56=oV w.1/\w.1.ok)/\L (avV base .aM 0 1 2 3 (cu base) 4 off len (J 0)) (aE [(0,.au w.1.cs 56),(1,lv (I2 w.2 0 [] w.1.l)),(2,k_ 5 244),(3,u4 6 246),(4,.ah [J 0] 3),(5,eu [] 0),(6,.ah [iY 7 0 1] 247),(7,.ah [] 3)] 8) (aB Z 165 0)):=by kernel_rfl
abbrev ahv h0(h1:Al) h2 h3 h4 h5 h6 h7 h8 h9 dG eB iV kc:=([(1,J h0),(4,.ad 1 h1.aD.length 6),(5,J h1.eZ),(6,.aS 2),(7,.aa 3 0),(8,.aa 4 0),(9,J h2),(10,.aa 5 0),(11,JV 177 4 3 5),(12,J h3),(13,.aa 6 0),(15,.ad 7 h4 1),(34,Ep h5 h6),(35,J (a_ h6)),(36,J h7),(h8,.ad h9 dG 1),(eB,J (a_ dG)),(iV,J kc)]:List (Nat×AV))
abbrev avH h0(h1:Al) h2 h3 h4 h5 h6 h7 h8 h9:=aE (Oh (.au h0 56) (qo h1.aD) (lv h2) (k_ 9 244) (u4 10 246) (.ah [J h3] 3) h4 (bG h5 3) (bG h6 3) (lv h7) (rQ 11 h8 247) (bG h9 3)) 12
theorem aGH{cs last s base off len i L Q}:
 pY Z OY X5 L Q 2000 165 1 (v7 s base off len i [] []) (aB Z 165 0) (Iq cs last s)=jQ i len (λcv=>aah cs (off+cv*6) (λn=>λbm=>λbS=>λdn=>λcX=>λfx=>NS (u6 n bm bS dn cX fx) (λw=>im (.aj (u6 n bm bS dn cX fx))/\NS (u6 n bm bS dn cX fx) (λaH=>L (aJ (ahv base s s.qM i (fR aH).length off len i 45 8 (fQ w).length 46 47 0)) (avH cs s last s.oL (.ah (u6 n bm bS dn cX fx) 56) (fR aH) (fQ w) s.fF s.dm.length s.dm) (aB Z 165 1))))) (Q (.aL [.ad 1 s.aD.length 6,J s.eZ]) (yr cs s.aD)):=by kernel_rfl
abbrev avu(h0:Int)(h1:Int) h2 h3 h4 h5 h6 h7 h8:=gT (decide (h0>h1)) (xL 3 h2 h0 (λb0=>λb1=>gT (b0==h3) h4 h5 (aJ h6) h7 165 h8)) h5 (aJ h6) h7 165 h8
abbrev ahX h0 h1 h2 h3 h4 h5 h6 h7 h8 h9(dG:LI) eB iV kc jL Qm:=pY Z OY X5 h0 h1 2000 165 1 (v7 h2 h3 h4 h5 h6 h7 [(h8,ej h9 dG),(eB,J (a_ dG.length)),(iV,J kc)]) (aB Z 165 jL) Qm
abbrev aas h0 h1 h2 h3(h4:LI) h5 h6 h7 h8:=aJ (ahv h0 h1 h2 h3 h4.length h5 h6 h7 71 7 h4.length 72 73 h8)
abbrev aat(h0:LI×List (Int×Int)×Int×Int):=Sb h0.1 (zU h0.2.2.2 h0.2.1)
abbrev av2 h0(h1:Al)(h2:(LI×List (Int×Int)×Int×Int)->Prop):=∃b0:LI×List (Int×Int)×Int×Int,((NT h0:LV)=NT b0.2.2.2/\Wr h1.dm h1.fF h1.oL=Wr b0.1 b0.2.1 b0.2.2.1/\b0.1.length<1000000)/\h2 b0
abbrev aaD h0(h1:Al) h2(h3:LI) h4 h5 h6(h7:LI)(h8:Int):=ahv h0 h1 h1.qM h2 h3.length h4 h5 h6 45 8 h7.length 46 47 (wI (h8+1))
theorem aGI{cs last s base off len i k j x ws rs L Q}:
 ahX L Q s base off len i [(12,J k),(13,.aa 6 0),(15,ej 7 ws)] 45 8 rs 46 47 j 1 (Ql cs last s x ws rs)=sX j rs 3 (λn=>avu n base last k (∃w,(dX ws=dX w/\ws.length=w.length/\w.length<2000000)/\gT (!decide (n∈w)) (av2 n s (λaH=>L (aJ (aaD base s k ws off len i rs j)) (avH cs s last (wI (aH.2.2.1-1)) (DH x) w rs aH.2.1 (aat aH).length (aat aH)) (aB Z 165 1))) L (aJ (aaD base s k ws off len i rs j)) (Ql cs last s x w rs) 165 1) L (aaD base s k ws off len i rs j) (Ql cs last s x ws rs) 1) (L (aas base s s.qM k ws off len i 0) (Bf cs last s x ws) (aB Z 165 2)):=by kernel_rfl
abbrev ail h0(h1:Al) h2 h3 h4 h5 h6(h7:LI) h8:=([(1,J h0),(4,.ad 1 h1.aD.length 6),(5,J h2),(6,.aS 2),(7,.aa 3 0),(8,.aa 4 0),(9,J h1.qM),(10,.aa 5 0),(11,JV 177 4 3 5),(12,J h3),(13,.aa 6 0),(34,Ep h4 h5),(35,J (a_ h5)),(36,J h6),(114,.ad 7 h7.length 1),(115,J (a_ h7.length)),(116,J h8)]:List (Nat×AV))
abbrev ahB h0(h1:Al) h2 h3 h4 h5 h6 h7 h8:=aE [(0,.au h0 56),(1,qo h1.aD),(2,lv h2),(3,k_ 8 244),(4,u4 9 246),(5,.ah [h3] 3),(6,DH h4),(7,bG h5 3),(8,h6),(9,rQ 10 h7 247),(10,bG h8 3)] 11
theorem aGK{cs last s base off len i k j x ws L Q}:
 ahX L Q s base off len i [(12,J k),(13,.aa 6 0),(15,ej 7 ws)] 71 7 ws 72 73 j 2 (Bf cs last s x ws)=sX j ws 3 (λn=>xL 3 s.fF n (λbm=>λb=>Az b (L (aas base s s.qM k ws off len i (wI (j+1))) (Bf cs last s x ws) (aB Z 165 2)) (decide (n<=base)) (∃w,(([.ad 0 s.dm.length 1]:LV)=[ej 0 w]/\dX s.dm=dX w)/\aZ (decide (a_ w.length>0)) (∃aH,xK [.ep 246 (.aa 0 0)] (j_ (rQ 1 s.dm.length 247) (bG w 3)=gF aH/\0<aH.length/\aH.length<1000000) (im (.aS 8)/\rP 3 (bJ J 0 s.fF) s.fF.length n (J (List.getD (vP aH) (aH.length-1) 0)) (λbF=>λc'=>L (aas base s s.qM k ws off len i (wI (j+1))) (ahB cs s last (cu s.oL) x ws (eu bF c') ((vP aH).take (aH.length-1)).length (List.take (aH.length-1) (vP aH))) (aB Z 165 2)))) (rP 3 (bJ J 0 s.fF) s.fF.length n (J s.qM) (λbF=>λc'=>L (aas base s (wI (s.qM+1)) k ws off len i (wI (j+1))) (ahB cs s last (cu s.oL) x ws (eu bF c') s.dm.length w) (aB Z 165 2)))))) (L (aJ (ail base s (Ot s.oL s.eZ) k off len i ws 0)) (Bf cs last s x ws) (aB Z 165 3)):=by kernel_rfl
theorem aGD{cs last s base off len i k j x ws L Q}:
 ahX L Q s base off len i [(12,J k),(13,.aa 6 0)] 114 7 ws 115 116 j 3 (Bf cs last s x ws)=sX j ws 3 (λn=>avu n base last k (av2 n s (λw=>L (aJ (ail base s s.eZ k off len i ws (wI (j+1)))) (ahB cs s last (J (wI (w.2.2.1-1))) x ws (lv w.2.1) (aat w).length (aat w)) (aB Z 165 3))) L (ail base s s.eZ k off len i ws (wI (j+1))) (Bf cs last s x ws) 3) (∃w:iM×List (Int×Int),wP x s.fF=wP w.1 w.2/\(∃aH:iM×List (Int×Int),wP (iM.mk w.1.op (uG w.2 w.1.r) w.1.a w.1.n w.1.fU w.1.ar) w.2=wP aH.1 aH.2/\pn (dt s.aD).length s.aD.length 6 (L (avV base (.ad 1 (s.aD.length+1) 6) s.eZ 2 3 4 (J s.qM) 5 off len (cu i)) (aE (Ax (.au cs 56) (.au (dt s.aD++iO (iM.mk aH.1.op aH.1.r (uG aH.2 aH.1.a) aH.1.n aH.1.fU aH.1.ar)) 56) (lv last) (k_ 6 244) (u4 7 246) (.ah [J s.oL] 3) (lv aH.2) (rQ 8 s.dm.length 247) (bG s.dm 3)) 9) (aB Z 165 0)))):=by kernel_rfl
theorem aOE(i):(fR i).length<=2:=by
 have h:=(Nr i.op).2;have h2:(rL i.op).1.2.2.2.2≠[112]:=by
  unfold rL;cases hs:An i.op with
  |none=>simp[JS]
  |some r=>have:=agI hs;simp only[GH,dU,List.mem_nil_iff,or_false]at this;rcases this with rfl|rfl|rfl|rfl|rfl|rfl|rfl|rfl|rfl|rfl|rfl|rfl|rfl|rfl|rfl|rfl|rfl|rfl|rfl|rfl|rfl|rfl|rfl|rfl|rfl<;>simp
 unfold fR nu;split
 .rcases h with h|h|h|h|h<;>rw[h]<;>simp[Af]
  .split<;>simp
  .exact absurd h h2
 .simp
def wG(base:Int)(l:LI):Nat:=(l.filter (λr=>decide (r>base))).length
theorem acB(base l):wG base l<=l.length:=List.length_filter_le _ _
theorem aEq{n x}(h:x∈tE n):x<=n:=by obtain⟨k,h1,rfl⟩:=vT.1 h;have:=Nm.1 h1;omega
theorem aFY{i base}(h:(i.op=19\/i.op=20)->i.ar<=base):wG base (fQ i)<=2:=by
 have h0:=(Nr i.op).1;have h2:(rL i.op).1.2.2.2.1=[112]->i.op=19\/i.op=20:=by
  unfold rL;cases hs:An i.op with
  |none=>simp[JS]
  |some r=>
   have ox:r.1=i.op:=by
    have⟨o,a1,a2,a3,a4,a5⟩:=i;cases o with
    |negSucc n=>cases hs
    |ofNat n=>
     match n,hs with
     |n+1,hs=>
      have hn:∀(l:List s8) (m n:Nat) (r:s8),Yv l n=some r->(∀j (h:j<l.length),(l[j]).1=((m+j:Nat):Int))->r.1=((m+n:Nat):Int):=by
       intro l;induction l with
       |nil=>intro m n r h;cases h
       |cons a l ih=>
        intro m n r h hj;cases n with
        |zero=>cases h;have:=hj 0 (by simp);exact this
        |succ n=>have:=ih (m+1) n r h (λj h=>by have:=hj (j+1) (by simpa using h);simp at this;rw[this];congr 1;omega);rw[this];omega
      have:=hn GH 1 n r hs (by decide);rw[this];simp;omega
   have:=agI hs;simp only[GH,dU,List.mem_nil_iff,or_false]at this;intro hr;rw[<-ox];rcases this with rfl|rfl|rfl|rfl|rfl|rfl|rfl|rfl|rfl|rfl|rfl|rfl|rfl|rfl|rfl|rfl|rfl|rfl|rfl|rfl|rfl|rfl|rfl|rfl|rfl<;>simp at hr⊢
 unfold fQ nu;split
 .rcases h0 with h1|h1|h1|h1|h1<;>rw[h1]
  .simp[wG]
  .refine lz (acB _ _) ?_;simp[Af]
  .refine lz (acB _ _) ?_;simp[Af]
  .refine lz (acB _ _) ?_;simp only[qz,Nn,Af];simp;split<;>simp
  .have hb:=h (h2 h1);simp;simp only[wG];rw[Jt.2]
   .simp
   .intro x hx;have:=aEq hx;simp;omega
 .simp[wG]
theorem aAb(l i):dt (l++[i])=dt l++[J i.op,J i.r,J i.a,J i.n,.ao i.fU,J i.ar]:=by rw[VN];rfl
theorem YW(l x):(Sb l x).length=l.length+1:=by simp[Sb,auJ]
section
variable{cs:LV}{off len:Nat}{base i k:Int}{aC sF:Al}{x:iM}{ws rs:LI}{last:LP}
theorem aGE(hw:ws.length<5000)(ho:sF.aD.length<1200000)(next:ba Z 165 148 1 (.aL [.ad 1 aC.aD.length 6,J aC.eZ]) (yr cs aC.aD) (v7 (sF.put x) base off len (wI (i+1)) [] []) (Iq cs last (sF.put x)) (aB Z 165 0)):
 ∀p:Nat×Al,(p.1<=ws.length/\p.2.dm.length+(ws.length-p.1)<1000000/\(ws.drop p.1).foldl (Al.aC base last k) p.2=sF)->
 ba Z 165 148 1 (.aL [.ad 1 aC.aD.length 6,J aC.eZ]) (yr cs aC.aD) (v7 p.2 base off len i [(12,J k),(13,.aa 6 0)] [(114,.ad 7 ws.length 1),(115,J (a_ ws.length)),(116,J (p.1:Int))]) (Bf cs last p.2 x ws) (aB Z 165 3):=by
 refine dj (λp=>ws.length-p.1) _ _ _ _ ?_;rintro⟨j,s⟩ ⟨hj,hb,hf⟩ ih;simp only at hj hb hf ih⊢;refine hE Ko aGD ?_;delta sX lh oe;refine al (λae=>?_) λaY=>?_
 .have ae:j<ws.length:=by simpa using ae
  rw[fu ae,qz]at hf;have hg:ws.getD j 0=ws[j]:=by simp[List.getD,gg ae]
  refine⟨j,rfl,ae,ws[j],by rw[o7 ae,hg],?_⟩;rw[pk ae (by omega)];have skip:¬(ws[j]>base/\zU ws[j] last=k)->ba Z 165 148 1 (.aL [.ad 1 aC.aD.length 6,J aC.eZ]) (yr cs aC.aD) (v7 s base off len i [(12,J k),(13,.aa 6 0)] [(114,.ad 7 ws.length 1),(115,J (a_ ws.length)),(116,J ((j+1:Nat):Int))]) (Bf cs last s x ws) (aB Z 165 3):=by intro hn;rw[Al.aC,aw hn]at hf;exact ih (j+1,s) ⟨by simp;omega,by simp only;omega,hf⟩ (by simp;omega)
  have⟨n,b,h1,h2,_⟩:=MP last ws[j];refine al (λhr=>⟨n,b,h1,al (λhk=>?_) λhk=>?_⟩) λhr=>?_
  .have hc:ws[j]>base/\zU ws[j] last=k:=⟨by simpa using hr,by rw[<-h2];simpa using hk⟩;rw[Al.aC,aP hc]at hf;have pK:s.dm.length<1000000:=by omega
   refine⟨(s.dm,s.fF,s.oL,ws[j]),⟨rfl,rfl,pK⟩,?_⟩;exact ih (j+1,s.xD ws[j]) ⟨by simp;omega,by simp only[Al.xD,YW];omega,hf⟩ (by simp;omega)
  .exact skip (λh=>by simp at hk;exact hk (h2.trans h.2))
  .exact skip (λh=>by simp at hr;omega)
 .have aY:ws.length<=j:=by simpa using aY
  rw[gf aY]at hf;have hf:s=sF:=hf;subst hf;refine⟨(x,s.fF),rfl,(⟨x.op,uG s.fF x.r,x.a,x.n,x.fU,x.ar⟩,s.fF),rfl,⟨by rw[Fc],by omega,rfl,rfl⟩,?_⟩;have hol:(s.put x).aD.length=s.aD.length+1:=by simp[Al.put]
  simp only[v7,Iq,qo,hol]at next
  have hoe:dt (s.put x).aD=dt s.aD++[J (HO s.fF x).op,J (HO s.fF x).r,J (HO s.fF x).a,J (HO s.fF x).n,.ao (HO s.fF x).fU,J (HO s.fF x).ar]:=aAb _ _;rw[hoe]at next
  exact next
theorem aGL(hw:ws.length<5000){sW}(sA:sW.dm.length+ws.length<1000000)(ho:sF.aD.length<1200000)(hsF:ws.foldl (Al.aC base last k) sW.BX=sF)(next:ba Z 165 148 1 (.aL [.ad 1 aC.aD.length 6,J aC.eZ]) (yr cs aC.aD) (v7 (sF.put x) base off len (wI (i+1)) [] []) (Iq cs last (sF.put x)) (aB Z 165 0)):
 ∀p:Nat×Al,(p.1<=ws.length/\p.2.dm.length<1000000/\(ws.drop p.1).foldl (Al.p8 base) p.2=sW)->
 ba Z 165 148 1 (.aL [.ad 1 aC.aD.length 6,J aC.eZ]) (yr cs aC.aD) (v7 p.2 base off len i [(12,J k),(13,.aa 6 0),(15,.ad 7 ws.length 1)] [(71,.ad 7 ws.length 1),(72,J (a_ ws.length)),(73,J (p.1:Int))]) (Bf cs last p.2 x ws) (aB Z 165 2):=by
 refine dj (λp=>ws.length-p.1) _ _ _ _ ?_;rintro⟨j,s⟩ ⟨hj,hb,hf⟩ ih;simp only at hj hb hf ih⊢;refine hE Ko aGK ?_;delta sX lh oe Ot;refine al (λae=>?_) λaY=>?_
 .have ae:j<ws.length:=by simpa using ae
  rw[fu ae,qz]at hf;have hg:ws.getD j 0=ws[j]:=by simp[List.getD,gg ae]
  refine⟨j,rfl,ae,ws[j],by rw[o7 ae,hg],?_⟩;rw[pk ae (by omega)];have skip:((lk ws[j] s.fF).isSome\/ws[j]<=base)->ba Z 165 148 1 (.aL [.ad 1 aC.aD.length 6,J aC.eZ]) (yr cs aC.aD) (v7 s base off len i [(12,J k),(13,.aa 6 0),(15,.ad 7 ws.length 1)] [(71,.ad 7 ws.length 1),(72,J (a_ ws.length)),(73,J ((j+1:Nat):Int))]) (Bf cs last s x ws) (aB Z 165 2):=by intro hn;rw[Al.p8,aP hn]at hf;exact ih (j+1,s) ⟨by simp;omega,hb,hf⟩ (by simp;omega)
  have⟨n,b,h1,h2,h3,h4⟩:=MP s.fF ws[j];refine⟨n,b,h1,al (λh=>skip (.inl (by rw[h3 h];rfl))) λh=>al (λh5=>skip (.inr (by simpa using h5))) λh5=>?_⟩;have hn:¬((lk ws[j] s.fF).isSome\/ws[j]<=base):=by rw[h4 h];simp at h5⊢;omega
  rw[Al.p8,aw hn]at hf;refine⟨s.dm,aA,al (λh6=>?_) λh6=>?_⟩
  .have h6:0<s.dm.length:=by simpa using h6
   rw[aP h6]at hf;refine⟨s.dm,⟨rfl,rfl,h6,hb⟩,rfl,_,_,ph J LA,?_⟩;exact ih (j+1,_) ⟨by simp;omega,by simp;omega,hf⟩ (by simp;omega)
  .have h6:¬0<s.dm.length:=by simpa using h6
   rw[aw h6]at hf;refine⟨_,_,ph J LA,?_⟩;exact ih (j+1,⟨s.aD,s.eZ,up ws[j] s.qM s.fF,s.dm,wI (s.qM+1),wI (s.oL+1)⟩) ⟨by simp;omega,hb,hf⟩ (by simp;omega)
 .have aY:ws.length<=j:=by simpa using aY
  rw[gf aY]at hf;have hf:=hf;subst hf;have hm:(if s.oL>s.eZ then s.oL else s.eZ)=max s.eZ s.oL:=by split<;>omega
  rw[hm];exact aGE hw ho next (0,s.BX) ⟨by simp,by show s.dm.length+(ws.length-0)<1000000;simpa using sA,by simpa using hsF⟩
theorem aGJ(hr:rs.length<5000)(hw:ws.length<5000){sR sW}(hR:sR.dm.length<1000000)(hsW:ws.foldl (Al.p8 base) sR=sW)(sA:sW.dm.length+ws.length<1000000)(ho:sF.aD.length<1200000)(hsF:ws.foldl (Al.aC base last k) sW.BX=sF)(next:ba Z 165 148 1 (.aL [.ad 1 aC.aD.length 6,J aC.eZ]) (yr cs aC.aD) (v7 (sF.put x) base off len (wI (i+1)) [] []) (Iq cs last (sF.put x)) (aB Z 165 0)):
 ∀p:Nat×Al,(p.1<=rs.length/\p.2.dm.length+wG base (rs.drop p.1)<1000000/\(rs.drop p.1).foldl (Al.pd base last k ws) p.2=sR)->
 ba Z 165 148 1 (.aL [.ad 1 aC.aD.length 6,J aC.eZ]) (yr cs aC.aD) (v7 p.2 base off len i [(12,J k),(13,.aa 6 0),(15,.ad 7 ws.length 1)] [(45,.ad 8 rs.length 1),(46,J (a_ rs.length)),(47,J (p.1:Int))]) (Ql cs last p.2 x ws rs) (aB Z 165 1):=by
 refine dj (λp=>rs.length-p.1) _ _ _ _ ?_;rintro⟨j,s⟩ ⟨hj,hb,hf⟩ ih;simp only at hj hb hf ih⊢;refine hE Ko aGI ?_;delta sX lh oe aaD;refine al (λae=>?_) λaY=>?_
 .have ae:j<rs.length:=by simpa using ae
  rw[fu ae,qz]at hf;rw[fu ae]at hb;have W2:wG base (rs[j]::rs.drop (j+1))=(if rs[j]>base then 1 else 0)+wG base (rs.drop (j+1)):=by simp only[wG,xy];by_cases h:rs[j]>base<;>simp[h];omega
  rw[W2]at hb;have hg:rs.getD j 0=rs[j]:=by simp[List.getD,gg ae]
  refine⟨j,rfl,ae,rs[j],by rw[o7 ae,hg],?_⟩;rw[pk ae (by omega)];have skip:¬(rs[j]>base/\zU rs[j] last=k/\rs[j]∉ws)->ba Z 165 148 1 (.aL [.ad 1 aC.aD.length 6,J aC.eZ]) (yr cs aC.aD) (v7 s base off len i [(12,J k),(13,.aa 6 0),(15,.ad 7 ws.length 1)] [(45,.ad 8 rs.length 1),(46,J (a_ rs.length)),(47,J ((j+1:Nat):Int))]) (Ql cs last s x ws rs) (aB Z 165 1):=by intro hn;rw[Al.pd,aw hn]at hf;exact ih (j+1,s) ⟨by simp;omega,by simp only;omega,hf⟩ (by simp;omega)
  have⟨n,b,h1,h2,_⟩:=MP last rs[j];refine al (λhr=>⟨n,b,h1,al (λhk=>⟨ws,⟨rfl,rfl,by omega⟩,al (λhm=>?_) λhm=>?_⟩) λhk=>?_⟩) λhr=>?_
  .have l5:rs[j]>base:=by simpa using hr
   have hc:rs[j]>base/\zU rs[j] last=k/\rs[j]∉ws:=⟨l5,by rw[<-h2];simpa using hk,by simpa using hm⟩;rw[Al.pd,aP hc]at hf;rw[aP l5]at hb;have pK:s.dm.length<1000000:=by omega
   refine⟨(s.dm,s.fF,s.oL,rs[j]),⟨rfl,rfl,pK⟩,?_⟩;exact ih (j+1,s.xD rs[j]) ⟨by simp;omega,by simp only[Al.xD,YW];omega,hf⟩ (by simp;omega)
  .exact skip (λh=>by simp at hm;exact h.2.2 hm)
  .exact skip (λh=>by simp at hk;exact hk (h2.trans h.2.1))
  .exact skip (λh=>by simp at hr;omega)
 .have aY:rs.length<=j:=by simpa using aY
  rw[gf aY]at hf;have hf:=hf;subst hf;exact aGL hw sA ho hsF next (0,s) ⟨by simp,hR,by simpa using hsW⟩
end
theorem ado(base last k ws):∀rs s,(rs.foldl (Al.pd base last k ws) s).dm.length<=s.dm.length+wG base rs/\(rs.foldl (Al.pd base last k ws) s).aD=s.aD
 |[],s=>⟨by simp,rfl⟩
 |r::rs,s=>by
  have h:=ado base last k ws rs (s.pd base last k ws r);have W2:wG base (r::rs)=(if r>base then 1 else 0)+wG base rs:=by simp only[wG,xy];by_cases h:r>base<;>simp[h];omega
  simp;rw[W2];have h1:(s.pd base last k ws r).dm.length<=s.dm.length+(if r>base then 1 else 0)/\(s.pd base last k ws r).aD=s.aD:=by
   unfold Al.pd;split;next hc=>rw[aP hc.1];exact⟨by simp[Al.xD,YW],rfl⟩
   .exact⟨by omega,rfl⟩
  exact⟨by omega,h.2.trans h1.2⟩
theorem adp(base):∀(ws:LI) (s),(ws.foldl (Al.p8 base) s).dm.length<=s.dm.length/\(ws.foldl (Al.p8 base) s).aD=s.aD
 |[],s=>⟨by simp,rfl⟩
 |r::ws,s=>by
  have h:=adp base ws (s.p8 base r);simp;have h1:(s.p8 base r).dm.length<=s.dm.length/\(s.p8 base r).aD=s.aD:=by
   unfold Al.p8;split
   .exact⟨by omega,rfl⟩
   .split
    .exact⟨by simp;omega,rfl⟩
    .exact⟨by simp,rfl⟩
  exact⟨by omega,h.2.trans h1.2⟩
theorem adn(base last k):∀(ws:LI) (s),(ws.foldl (Al.aC base last k) s).dm.length<=s.dm.length+ws.length/\(ws.foldl (Al.aC base last k) s).aD=s.aD
 |[],s=>⟨by simp,rfl⟩
 |r::ws,s=>by
  have h:=adn base last k ws (s.aC base last k r);have h1:(s.aC base last k r).dm.length<=s.dm.length+1/\(s.aC base last k r).aD=s.aD:=by
   unfold Al.aC;split
   .exact⟨by simp[Al.xD,YW],rfl⟩
   .exact⟨by omega,rfl⟩
  exact⟨by simp;omega,h.2.trans h1.2⟩
theorem aGF{p:nL}{base last aC}(hp:p.ok)(hl:p.l.length<240000)(hv:∀x∈p.l,(x.op=19\/x.op=20)->x.ar<=base):
 ∀q:Nat×Al,(q.1<=p.l.length/\q.2.dm.length<=4*q.1/\q.2.aD.length=q.1/\Al.run base last q.1 q.2 (p.l.drop q.1)=aC)->
 ba Z 165 148 1 (.aL [.ad 1 aC.aD.length 6,J aC.eZ]) (yr p.cs aC.aD) (v7 q.2 base p.qQ p.l.length (q.1:Int) [] []) (Iq p.cs last q.2) (aB Z 165 0):=by
 refine dj (λq=>p.l.length-q.1) _ _ _ _ ?_;rintro⟨i,s⟩ ⟨hi,hb,ho,hf⟩ ih;simp only at hi hb ho hf ih⊢;refine hE Ko aGH ?_;refine al (λae=>?_) λaY=>?_
 .have ae:i<p.l.length:=by simpa using ae
  have bP:=p.get hp ae;have hvx:=hv p.l[i] (k7 ae);rw[fu ae,Al.run]at hf;generalize p.l[i]=x at bP hf hvx;have c1:=aFY hvx;have c2:=aOE x;have hr:=agi x;have hw:=aht x;have a1:=ado base last i (fR x) (fQ x) s;have a2:=adp base (fR x) ((fQ x).foldl (Al.pd base last i (fR x)) s);have a3:=adn base last i (fR x) ((fR x).foldl (Al.p8 base) ((fQ x).foldl (Al.pd base last i (fR x)) s)).BX;have a4:((fR x).foldl (Al.p8 base) ((fQ x).foldl (Al.pd base last i (fR x)) s)).BX.dm=((fR x).foldl (Al.p8 base) ((fQ x).foldl (Al.pd base last i (fR x)) s)).dm:=rfl;have a5:((fR x).foldl (Al.p8 base) ((fQ x).foldl (Al.pd base last i (fR x)) s)).BX.aD=((fR x).foldl (Al.p8 base) ((fQ x).foldl (Al.pd base last i (fR x)) s)).aD:=rfl;rw[a4]at a3;have eC:((fR x).foldl (Al.aC base last i) ((fR x).foldl (Al.p8 base) ((fQ x).foldl (Al.pd base last i (fR x)) s)).BX).aD=s.aD:=by rw[a3.2,a5,a2.2,a1.2]
  have next:=ih (i+1,s.step base last i x) ⟨by simp;omega,by show((fR x).foldl (Al.aC base last i) _).dm.length<=4*(i+1);omega,by show(_++[_]).length=i+1;rw[cj,eC,ho];rfl,hf⟩ (by simp;omega)
  rw[<-pk ae (by omega)]at next
  have⟨o,r,a,n,s',ar⟩:=x;refine⟨i,rfl,ae,o,r,a,n,s',ar,bP,⟨o,r,a,n,s',ar⟩,aA,rfl,⟨o,r,a,n,s',ar⟩,aA,?_⟩;exact aGJ hr hw (by omega) rfl (by omega) (by rw[eC];omega) rfl next (0,s) ⟨by simp,by simp;omega,by simp⟩
 .have aY:p.l.length<=i:=by simpa using aY
  rw[gf aY]at hf;have hf:=hf;subst hf;exact aA
def ase:List (Nat×Nat):=[(0,0),(8,1),(1,2),(2,3),(3,4),(4,5),(5,6),(6,7),(7,8)]
def aDD(cs:LV)(last:LP):List (Nat×aO):=[(0,.au cs 56),(1,lv last),(2,.ah [.aS 5] 244),(3,.ah [.aa 6 0] 246),(4,.ah [J 0] 3),(5,.bI [] 0 true),(6,.ah [.bK 7 0 0 0 1 true] 247),(7,.ah [] 3)]
def axh(base:Int)(off len:Nat):List (Nat×AV):=[(1,J base),(4,.aM),(5,J 0),(6,.aS 1),(7,.aa 2 0),(8,.aa 3 0),(9,J (wI (base+1))),(10,.aa 4 0),(11,.cw (.func 177) [] [.aa 3 0,.aa 2 0,.aa 4 0]),(34,.bK 0 off len 0 6 false),(35,J (a_ len)),(36,J 0)]
theorem aN8(cs last base):
 nD 1 [8,1,2,3,4,3,2,4,0] (aE (Cc 7 (.au [] 3) (aDD cs last++[(8,.au [] 56)])) 9)=some ⟨ase,Iq cs last (KQ base)⟩:=by kernel_rfl
theorem aOf(base off len):
 sT (iX ase) (aJ ((MZ 8 6 [4] (axh base off len)).map (λx=>(x.1,y_ 7 x.2)))) [1,4,5,6,7,8,9,10,11,34,35,36]=some (v7 (KQ base) base off len 0 [] []):=by kernel_rfl
theorem abb:aF Z G13:=by refine bY Ko ?_;rintro⟨p,base⟩ args H ⟨rfl,rfl,hp,hl,hv⟩;have hp:=hp;refine eT Ko 2000 X5 148 ?_;simp only[alX,oV];rw[aGG];refine⟨(p,base),⟨rfl,rfl,hp⟩,?_⟩;refine zF 6 56 [4] ?_ rfl;refine zG (g:=7) (new:=.au [] 3) ?_ rfl (λI e o h=>r7 rfl h) rfl;refine bW.uU (by kernel_rfl) (aN8 p.cs (I2 base 0 [] p.l) base) (aOf base p.qQ p.l.length) ?_;exact aGF hp hl hv (0,KQ base) ⟨by simp,by simp[KQ],rfl,rfl⟩
def kQ(l:iN)(base:Int):iN×Int:=if v9 l base then((CN l base).aD,0)else([],1)
def asX:bT (nL×Int)where
 aI w A H:=A=[.bK 0 w.1.qQ w.1.l.length 0 6 false,J w.2]/\H=oV w.1/\w.1.ok/\w.1.l.length<240000
 v w:=.aL [.ad 1 (kQ w.1.l w.2).1.length 6,J (kQ w.1.l w.2).2]
 aD w:=aE [(0,.au w.1.cs 56),(1,qo (kQ w.1.l w.2).1)] 2
theorem axX:asX.bM:=by rintro w w' A H ⟨h1,h2,h3,_⟩ ⟨k1,k2,k3,_⟩;rw[YQ h1 h2 h3 k1 k2 k3]
def Ub:Ev.aX:=bx 133 (bE asX axX bU) G13
def AR(code:iN)(base:LI):Nat->Nat->Nat->iN->iN->iN×Int
 |_,_,_,l,[]=>(l,0)
 |i,fr,part,l,x::rest=>
  if x.op≠19/\i+1<code.length then AR code base (i+1) fr part l rest
  else if(kQ ((code.drop fr).take (i+1-fr)) (base.getD part 0)).2≠0 then([],(kQ ((code.drop fr).take (i+1-fr)) (base.getD part 0)).2)
  else AR code base (i+1) (i+1) (part+1) (l++(kQ ((code.drop fr).take (i+1-fr)) (base.getD part 0)).1) rest
def ta(code:iN)(base:LI):iN×Int:=AR code base 0 0 0 [] code
def iw(l:iN):Nat:=(l.filter (λx=>decide (x.op=19))).length
def L1(code:iN)(base:LI):AH:=aE [(0,qo code),(1,bG base 3)] 2
def Ju(code:iN)(base:LI)(l:iN):AH:=aE [(0,qo code),(1,bG base 3),(2,qo l)] 3
def ab8:bT (iN×LI)where
 aI w A H:=A=[.ad 0 w.1.length 6,.ad 1 w.2.length 1]/\H=L1 w.1 w.2/\w.1.length<240000/\iw w.1<w.2.length/\w.2.length<2000000
 v w:=.aL [.ad 2 (ta w.1 w.2).1.length 6,J (ta w.1 w.2).2]
 aD w:=Ju w.1 w.2 (ta w.1 w.2).1
theorem axZ:ab8.bM:=by
 rintro⟨c,b⟩ ⟨c',b'⟩ A H ⟨_,h2,_⟩ ⟨_,k2,_⟩;have e:=h2.symm.trans k2;have q:=λi=>congrArg (λH=>AH.aR H i) e
 simp at q;have e0:=Lr (aO.au.inj (cW (q 0))).1;have e1:=BQ (cW (q 1));rw[e0,e1]
def G15:Ev.aX:=bx 92 (bE ab8 axZ bU) Ub
def aqE:Nat->LN:=dY [(3,[0,1,4,6,7,12,13,14])]
abbrev J3 h0:=(.aL [.aM,J h0]:AV)
theorem atg{cs off len base L Q}:
 eG G13 [] L Q 133 [Ep off len,J base] (oK cs 56)=(∃w:nL×Int,(Z_ off len base w/\oK cs 56=oV w.1/\w.1.ok)/\aZ (!v9 w.1.l w.2) (Q (J3 1) (oV w.1)) (∃aH:nL×Int,(Z_ off len base aH/\oV w.1=oV aH.1/\aH.1.ok/\aH.1.l.length<240000/\(∀x,x∈aH.1.l->x.op=19\/x.op=20->x.ar<=aH.2))/\Q (.aL [.ad 1 (CN aH.1.l aH.2).aD.length 6,J 0]) (ze aH.1.cs 56 (qo (CN aH.1.l aH.2).aD)))):=by kernel_rfl
abbrev J6 h0:=J (Int.ofNat h0)
theorem aIn{code base L Q}:
 fA Ub aqE L Q 92 [.ad 0 code.length 6,ej 1 base] (L1 code base)=L (aJ [(0,.ad 0 code.length 6),(1,ej 1 base),(4,.aM),(6,J 0),(7,J 0),(12,.ad 0 code.length 6),(13,J6 code.length),(14,J 0)]) (L1 code base) (aB Z 92 0):=by kernel_rfl
abbrev JH x0 x1 x2 x3 x4 x5:=aJ [(0,.ad 0 x0 6),(1,.ad 1 x1 1),(4,.ad 2 x2 6),(6,J x3),(7,J x4),(12,.ad 0 x0 6),(13,J (Int.ofNat x0)),(14,J x5)]
abbrev J5(h0:nL×Int):=kQ h0.1.l h0.2
theorem aIo{code base l fr part i L Q}:
 iL Ub aqE L Q 92 2 (JH code.length base.length l.length fr part i) 0 (Ju code base l)=Co i code.length (ia i code.length (λcv=>aah (dt code) (cv*6) (λn=>λbm=>λbS=>λdn=>λs=>λfx=>nG (n !=19) (decide (i<Ex code.length)) (L (JH code.length base.length l.length fr part (wI (i+1))) (Ju code base l) (aB Z 92 0)) (1<=code.length/\(∃jA:Nat,fr=(jA:Int)/\(∃jO:Nat,wI (i+1)=(jO:Int)/\(jA<=jO/\jO<=code.length)/\u0 part base 3 (λrD=>∃w:nL×Int,(Z_ (0+jA*6) (jO-jA) rD w/\iA (qo code)=oV w.1/\w.1.ok/\w.1.l.length<240000)/\aZ ((J5 w).2 !=0) (Q (J3 (J5 w).2) (ze w.1.cs 56 (bG base 3))) ((dt (J5 w).1).length=(J5 w).1.length*6/\avI (J5 w).1.length l.length L (JH code.length base.length l.length (wI (i+1)) (wI (part+1)) (wI (i+1))) w.1.cs (bG base 3) (qo l) 92 0 (dt l).length 6 (dt (J5 w).1) (JH code.length base.length (l.length+(J5 w).1.length) (wI (i+1)) (wI (part+1)) (wI (i+1))) (dt l) 56)))))))) (Q (.aL [.ad 2 l.length 6,J 0]) (Ju code base l)):=by kernel_rfl
theorem axk{I a a' b}(h:∀x,VR I a x->VR I a' x){x}(hx:VR I (.aL [a,b]) x):VR I (.aL [a',b]) x:=by obtain⟨cs,rfl,v,vs,h1,h2,h3⟩:=hx;exact⟨cs,rfl,v,vs,h1,h _ h2,h3⟩
theorem am5{P f args H0 n sz b l t}(h:bC P f args H0 (.aL [.aM,b]) (aE l n))(hn:cH l n=none)(cr:H0.br<=n):
 bC P f args H0 (.aL [.ad n 0 sz,b]) (aE (l++[(n,.au [] t)]) (n+1)):=
 Fe h (Jd _ hn) cr (λI aK hR x hx=>by subst hR;exact axk (λy hy=>r9 hy) hx)
theorem auW{base}:∀{l wr},GU base wr l=true->∀x∈l,(x.op=19\/x.op=20)->x.ar<=base
 |i::l,wr,h,x,hx=>by
  unfold GU at h;split at h
  .cases h
  next hn=>
   split at h
   .cases h
   .rcases dU.1 hx with rfl|hx
    .intro ho;rcases Int.lt_or_le base x.ar with h1|h1
     .exact absurd (.inr ⟨ho,h1⟩) hn
     .exact h1
    .exact auW h x hx
theorem aNY{base l}(h:v9 l base=true):∀x∈l,(x.op=19\/x.op=20)->x.ar<=base:=by
 unfold v9 at h;split at h
 .cases h
 .exact auW h
theorem abc:aF Z Ub:=by
 refine bY abb ?_;rintro⟨p,base⟩ args H ⟨rfl,rfl,hp,hl⟩;have hp:=hp;simp only[asX,oV];cases hv:v9 p.l base with
 |false=>
  have ha:kQ p.l base=([],1):=by simp[kQ,hv]
  rw[ha];refine am5 (l:=[(0,.au p.cs 56)]) ?_ rfl (ct _);refine eE 17 abb atg ?_;exact⟨(p,base),⟨rfl,rfl,hp⟩,al (λ_=>aA) λh=>by simp only[hv]at h;cases h⟩
 |true=>
  have ha:kQ p.l base=((CN p.l base).aD,0):=by simp[kQ,hv]
  rw[ha];refine eE 17 abb atg ?_;exact⟨(p,base),⟨rfl,rfl,hp⟩,al (λh=>(by simp only[hv]at h;cases h)) λ_=>⟨(p,base),⟨rfl,rfl,hp,hl,aNY hv⟩,rfl,rfl⟩⟩
theorem aMX(base last k)(s:Al)(i):(s.step base last k i).aD.length=s.aD.length+1:=by have a1:=ado base last k (fR i) (fQ i) s;have a2:=adp base (fR i) ((fQ i).foldl (Al.pd base last k (fR i)) s);have a3:=adn base last k (fR i) ((fR i).foldl (Al.p8 base) ((fQ i).foldl (Al.pd base last k (fR i)) s)).BX;have a5:((fR i).foldl (Al.p8 base) ((fQ i).foldl (Al.pd base last k (fR i)) s)).BX.aD=((fR i).foldl (Al.p8 base) ((fQ i).foldl (Al.pd base last k (fR i)) s)).aD:=rfl;show(_++[_]).length=_;rw[cj,a3.2,a5,a2.2,a1.2];rfl
theorem asZ(base last):∀l k s,(Al.run base last k s l).aD.length=s.aD.length+l.length
 |[],k,s=>rfl
 |i::l,k,s=>by rw[Al.run,asZ base last l,aMX];simp;omega
theorem ax2(l base):(kQ l base).1.length<=l.length:=by
 unfold kQ;split
 .show(CN l base).aD.length<=_;unfold CN;rw[asZ];simp[KQ]
 .simp
theorem amQ:∀l k,(dt l).drop (k*6)=dt (l.drop k)
 |l,0=>by simp
 |[],k+1=>by simp[dt]
 |i::l,k+1=>by rw[yW,Nat.one_mul,Nat.add_comm,<-Ad];have:(dt (i::l)).drop 6=dt l:=rfl;rw[this,amQ l k];rfl
theorem ac5:∀l k,(dt l).take (k*6)=dt (l.take k)
 |l,0=>by simp[dt]
 |[],k+1=>by simp[dt]
 |i::l,k+1=>by
  have h:=ac5 l k;have e:(k+1)*6=(iO i).length+k*6:=by rw[Lq];omega
  rw[dt,e,List.take_length_add_append,h];rfl
theorem ayJ(l i):iw (l.take i)<=iw l:=by exact(((List.take_sublist i l).filter _).length_le)
theorem ayI{l:iN}{i}(h:i<l.length):iw (l.take (i+1))=iw (l.take i)+(if l[i].op=19 then 1 else 0):=by unfold iw;rw[List.take_succ_eq_append_getElem h,Gr,cj];by_cases h1:l[i].op=19<;>simp[h1]
def Fm(aC:iN×Int):AV:=if aC.2=0 then .aL [.ad 2 aC.1.length 6,J 0]else .aL [.aM,J aC.2]
def Fl(code:iN)(base:LI)(aC:iN×Int):AH:=if aC.2=0 then Ju code base aC.1 else L1 code base
theorem aIm{code base aC}(hc:code.length<240000)(hb:iw code<base.length)(ie:base.length<2000000):
 ∀q:Nat×Nat×Nat×iN,(q.1<=code.length/\q.2.1<=q.1/\(q.1<code.length->q.2.2.1=iw (code.take q.1))/\q.2.2.2.length<=q.2.1/\q.2.2.1<4000000/\AR code base q.1 q.2.1 q.2.2.1 q.2.2.2 (code.drop q.1)=aC)->
 ba Z 92 54 2 (Fm aC) (Fl code base aC) (JH code.length base.length q.2.2.2.length (q.2.1:Int) (q.2.2.1:Int) (q.1:Int)) (Ju code base q.2.2.2) (aB Z 92 0):=by
 refine dj (λq=>code.length-q.1) _ _ _ _ ?_;rintro⟨i,fr,part,l⟩ ⟨hi,jj,hpt,hl,IH,hf⟩ ih;simp only at hi jj hpt hl IH hf ih⊢;refine hE abc aIo ?_;delta Ex;refine al (λae=>?_) λaY=>?_
 .have ae:i<code.length:=by simpa using ae
  have hpt:=hpt ae;have gA:=ayI ae;have hct:=ayJ code i;have bP:=nL.get (p:=⟨dt code,0,code⟩) ⟨by rw[xw,ac5,pX],by show code.length<1200000;omega⟩ ae;rw[lx]at bP;rw[fu ae,AR]at hf;have bP:=bP;generalize code[i]=x at bP hf gA;have⟨o,r,a,n,s,ar⟩:=x;have e1:wI (Int.ofNat code.length-1)=(code.length:Int)-1:=by rw[cb (by simp;omega) (by simp;omega)];simp
  refine⟨i,rfl,ae,o,r,a,n,s,ar,bP,?_⟩;rw[e1,pk ae (by omega),pk (kr part) (by omega)];have cut:¬(o≠19/\i+1<code.length)->((1<=code.length)/\∃jA:Nat,((fr:Int)=(jA:Int))/\∃jO:Nat,(((i+1:Nat):Int)=(jO:Int))/\((jA<=jO)/\jO<=code.length)/\
   ∃sC:Nat,((part:Int)=(sC:Int))/\(sC<base.length)/\∃rD:Int,(fi Z 3 (bc base) (sC*1)=some (J rD))/\
   ∃w:nL×Int,((([.bK 0 (0+(jA*6)) (jO-jA) 0 6 false,J rD]:LV)=[.bK 0 w.1.qQ w.1.l.length 0 6 false,J w.2])/\(aE [(0,.au (dt code) 56)] 1=oV w.1)/\w.1.ok/\w.1.l.length<240000)/\
   aZ ((kQ w.1.l w.2).2 !=0)
    (fD (Fm aC) (Fl code base aC) (.aL [.aM,J (kQ w.1.l w.2).2]) (aE [(0,.au w.1.cs 56),(1,bG base 3)] 2))
    (((dt (kQ w.1.l w.2).1).length=(kQ w.1.l w.2).1.length*6)/\
      ((kQ w.1.l w.2).1.length=0->(l.length<=4194304)/\ba Z 92 54 2 (Fm aC) (Fl code base aC) (JH code.length base.length l.length ((i+1:Nat):Int) ((part+1:Nat):Int) ((i+1:Nat):Int)) (aE [(0,.au w.1.cs 56),(1,bG base 3),(2,qo l)] 3) (aB Z 92 0))/\
      (1<=(kQ w.1.l w.2).1.length->(((dt l).length=l.length*6)/\(l.length+(kQ w.1.l w.2).1.length<=4194304)/\((dt (kQ w.1.l w.2).1).all AV.dH=true)/\(dt (kQ w.1.l w.2).1).all f_=true)/\
        ba Z 92 54 2 (Fm aC) (Fl code base aC) (JH code.length base.length (l.length+(kQ w.1.l w.2).1.length) ((i+1:Nat):Int) ((part+1:Nat):Int) ((i+1:Nat):Int)) (aE [(0,.au w.1.cs 56),(1,bG base 3),(2,.au (dt l++dt (kQ w.1.l w.2).1) 56)] 3) (aB Z 92 0)))):=by
   intro hn;rw[aw hn]at hf;have hpb:part<base.length:=by omega
   have zN:((code.drop fr).take (i+1-fr)).length=i+1-fr:=by simp;omega
   have hpo:(⟨dt code,0+fr*6,(code.drop fr).take (i+1-fr)⟩:nL).ok:=⟨by rw[lx,amQ,zN,ac5],by show((code.drop fr).take (i+1-fr)).length<1200000;omega⟩;have FF:=ax2 ((code.drop fr).take (i+1-fr)) (base.getD part 0);rw[zN]at FF;refine⟨by omega,fr,rfl,i+1,rfl,⟨by omega,by omega⟩,part,rfl,hpb,_,o7 hpb,(⟨dt code,0+fr*6,(code.drop fr).take (i+1-fr)⟩,base.getD part 0),⟨by simp only[zN],rfl,hpo,by simp;omega⟩,al (λhe=>?_) λhe=>?_⟩
   .have he:(kQ ((code.drop fr).take (i+1-fr)) (base.getD part 0)).2≠0:=by simpa using he
    rw[aP he]at hf;subst hf;simp only[Fm,Fl,aw he];exact aA
   .have he:(kQ ((code.drop fr).take (i+1-fr)) (base.getD part 0)).2=0:=by simpa using he
    rw[aw (λh=>h he)]at hf;have next:=ih (i+1,i+1,part+1,l++(kQ ((code.drop fr).take (i+1-fr)) (base.getD part 0)).1) ⟨by simp;omega,by simp,λh=>?_,by simp only[cj];omega,by simp;omega,hf⟩ (by simp;omega)
    .simp only at next
     refine⟨by rw[Fc],λh0=>⟨by omega,?_⟩,λh1=>⟨⟨by rw[Fc],by simp only;omega,(ac4 _).1,(ac4 _).2⟩,?_⟩⟩
     .have h0:=mE h0;rw[h0,jt]at next
      exact next
     .simp only[Ju,qo,VN,cj]at next
      exact next
    .have h:=h;have ho:o=19:=by
      rcases Decidable.em (o=19)with h1|h1
      .exact h1
      .exact absurd ⟨h1,h⟩ hn
     rw[aP ho]at gA;show part+1=iw (code.take (i+1));omega
  refine al (λho=>al (λh2=>?_) λh2=>?_) λho=>?_
  .have ho:o≠19:=by simpa using ho
   have h2:i+1<code.length:=by simp at h2;omega
   rw[aP ⟨ho,h2⟩]at hf;rw[aw ho]at gA;exact ih (i+1,fr,part,l) ⟨by simp;omega,by simp;omega,λ_=>by show part=iw (code.take (i+1));omega,hl,IH,hf⟩ (by simp;omega)
  .exact cut (λh=>by simp at h2;omega)
  .exact cut (λh=>h.1 (by simpa using ho))
 .have aY:code.length<=i:=by simpa using aY
  rw[gf aY]at hf;have hf:=hf;subst hf;exact aA
theorem awO:aF Z G15:=by
 refine bY abc ?_;rintro⟨code,base⟩ args H ⟨rfl,rfl,hc,hb,ie⟩;have tL:bC Z 92 [.ad 0 code.length 6,.ad 1 base.length 1] (L1 code base) (Fm (ta code base)) (Fl code base (ta code base)):=by refine eE 54 abc aIn ?_;refine zF 6 56 [4] ?_ rfl;exact aIm hc hb ie (0,0,0,[]) ⟨by simp,by simp,λ_=>by simp[iw],by simp,by simp,rfl⟩
 simp only[ab8];by_cases h0:(ta code base).2=0
 .simp only[Fm,Fl,aP h0]at tL;rw[h0];exact tL
 .simp only[Fm,Fl,aw h0]at tL;have he:(ta code base).1=[]:=by
   have key:∀(rest:iN) (i fr part:Nat) (l:iN),(AR code base i fr part l rest).2≠0->(AR code base i fr part l rest).1=[]:=by
    intro rest;induction rest with
    |nil=>intro i fr part l h;exact absurd rfl h
    |cons x rest ih=>
     intro i fr part l h;unfold AR at h⊢;split;next h1=>rw[aP h1]at h;exact ih _ _ _ _ h
     next h1=>
      rw[aw h1]at h;split
      .rfl
      next h2=>rw[aw h2]at h;exact ih _ _ _ _ h
   exact key code 0 0 0 [] h0
  rw[he];exact am5 tL rfl (ct _)
abbrev R6:Ev.aX:=G15
theorem aw7:aF Z R6:=awO
def RW(g:rZ):Bool:=decide (g.gq=2\/g.gq=3\/g.gq=4)
def fv:gy->Nat
 |[]=>0
 |g::l=>bz g.fT+1+fv l
abbrev R7:Ev.aX:=R6
theorem Wo:∀l,l.length<=fv l
 |[]=>by simp
 |g::l=>by have:=Wo l;simp only[fv,dJ];omega
section
variable{nm:LN}{ar an:Int}{cs:LV}{len:Nat}{gs:LV}{gl:Nat}{aC:LP}
end
section
variable{nm:LN}{ar an:Int}{cs:LV}{len:Nat}{aC:LP}{G:gy}
end
theorem aw8:aF Z R7:=aw7
abbrev R8:Ev.aX:=R7
theorem aw9:aF Z R8:=aw8
abbrev R9:Ev.aX:=R8
theorem abC:aF Z R9:=aw9
structure fq where
 df:Int
 TG:Int
 last:Int
 deriving DecidableEq,Inhabited
def vS(s:fq):AV:=.aj [J s.df,J s.TG,J s.last]
theorem aNT:∀a b,vS a=vS b->a=b:=by rintro⟨a,b,c⟩ ⟨a',b',c'⟩ h;obtain⟨rfl,rfl,rfl⟩:=h;rfl
abbrev eR:=List (Int×fq)×LI
def vL(st:eR)(v c:Int):eR:=
 match lk v st.1 with
 |none=>(up v ⟨st.2.length,c,c⟩ st.1,st.2++[v])
 |some s=>(up v ⟨s.df,s.TG,c⟩ st.1,st.2)
mutual
def vM(c:Int):eR->ax->eR
 |st,.mk k n _ l=>if k=0 then vL st n c else nZ c st l
def nZ(c:Int):eR->dF->eR
 |st,[]=>st
 |st,t::l=>nZ c (vM c st t) l
end
theorem arE(st v c):(vL st v c).2.length<=st.2.length+1:=by unfold vL;split<;>simp
mutual
theorem afE(c:Int):∀(st:eR) (t:ax),(vM c st t).2.length<=st.2.length+bp t
 |st,.mk k n s l=>by
  unfold vM;split
  .have:=arE st n c;simp only[bp];omega
  .have:=M4 c st l;simp only[bp];omega
theorem M4(c:Int):∀(st:eR) (l:dF),(nZ c st l).2.length<=st.2.length+bz l
 |st,[]=>by simp[nZ,bz]
 |st,t::l=>by have h1:=afE c st t;have h2:=M4 c (vM c st t) l;simp only[nZ,bz];omega
end
def rfA:Code:=match Ss Z 85 0 with|.gP (.rangeFunc _ _ a _)::_=>a|_=>.skip
def rfB:Code:=match Ss Z 85 0 with|.gP (.rangeFunc _ _ _ b)::_=>b|_=>.skip
def vK(st:LoopState)(t:List (Nat×AV))(d:Nat):aO:=.gX st none 85 (aJ t) 120 [22] rfA rfB d
def eN(f:bN):aO:=.ah (iE f) 106
def jF(sp:List (Int×fq)):aO:=.bI (bJ vS 0 sp) sp.length true
def tR(od:LI):aO:=.au (bc od) 2
def lT(F O_9 B C S:Nat):List (Nat×AV):=[(1,.aa F 0),(2,.aa C 0),(4,.aa S 0),(5,.aa O_9 0),(21,.cw (.func 149) [] [.aa B 0])]
def oO:aO:=.ah [.aM,.aM,.aM] 153
def mz:aO:=.qR (some [])
def hR(f:bN)(st:eR):AH:=aE [(0,vK .ready (lT 2 3 4 5 6) 1),(1,mz),(2,eN f),(3,.ah [.ad 7 st.2.length 1] 35),(4,eN f),(5,oO),(6,.ah [.aS 8] 193),(7,tR st.2),(8,jF st.1)] 9
def oR(f:bN)(st:eR):AH:=aE [(0,vK .ready (lT 2 3 4 5 6) 1),(1,mz),(2,eN f),(3,.ah [.ad 9 st.2.length 1] 35),(4,eN f),(5,oO),(6,.ah [.aS 8] 193),(7,.bg []),(8,jF st.1),(9,tR st.2)] 10
def hW(f:bN)(k:Int)(st:eR):AH:=aE [(0,.ah [.ib 2] 221),(1,.ah [J k] 3),(2,vK .ready (lT 4 5 6 7 8) 3),(3,mz),(4,eN f),(5,.ah [.ad 9 st.2.length 1] 35),(6,eN f),(7,oO),(8,.ah [.aS 10] 193),(9,tR st.2),(10,jF st.1)] 11
def oW(f:bN)(k:Int)(st:eR):AH:=aE [(0,.ah [.ib 2] 221),(1,.ah [J k] 3),(2,vK .ready (lT 4 5 6 7 8) 3),(3,mz),(4,eN f),(5,.ah [.ad 11 st.2.length 1] 35),(6,eN f),(7,oO),(8,.ah [.aS 10] 193),(9,.bg []),(10,jF st.1),(11,tR st.2)] 12
theorem aEH(f st):Mv (hR f st) (oR f st) 7:=rC (l':=[(0,vK .ready (lT 2 3 4 5 6) 1),(1,mz),(2,eN f),(3,.ah [.ad 9 st.2.length 1] 35),(4,eN f),(5,oO),(6,.ah [.aS 8] 193),(7,.bg []),(8,jF st.1)]) rfl rfl rfl
theorem mvW(f k st):Mv (hW f k st) (oW f k st) 9:=rC (l':=[(0,.ah [.ib 2] 221),(1,.ah [J k] 3),(2,vK .ready (lT 4 5 6 7 8) 3),(3,mz),(4,eN f),(5,.ah [.ad 11 st.2.length 1] 35),(6,eN f),(7,oO),(8,.ah [.aS 10] 193),(9,.bg []),(10,jF st.1)]) rfl rfl rfl
theorem SF{a b}(h:jF a=jF b):a=b:=tg aNT (aO.bI.inj h).1
theorem YC{a b}(h:tR a=tR b):a=b:=BP (aO.au.inj h).1
theorem adi{a b}(h:eN a=eN b):a=b:=A5 _ _ (aO.ah.inj h).1
theorem aBZ{f f' st kv}(h:hR f st=hR f' kv):f=f'/\st=kv:=by
 have q:=λi=>congrArg (λH=>AH.aR H i) h
 exact⟨adi (cW (q 2)),Prod.ext (SF (cW (q 8))) (YC (cW (q 7)))⟩
theorem WQ{f f' k k' st kv}(h:hW f k st=hW f' k' kv):f=f'/\k=k'/\st=kv:=by
 have q:=λi=>congrArg (λH=>AH.aR H i) h
 have hk:=(aO.ah.inj (cW (q 1))).1;simp at hk;exact⟨adi (cW (q 4)),hk,Prod.ext (SF (cW (q 10))) (YC (cW (q 9)))⟩
def ags:bT (bN×eR×Int×Int)where
 aI w A H:=A=[.ib 0,.aj [J w.2.2.1,J w.2.2.2]]/\H=hR w.1 w.2.1/\w.2.1.2.length<1200000
 v w:=.ai true
 aD w:=oR w.1 (vL w.2.1 w.2.2.1 w.2.2.2)
theorem aF7:ags.bM:=by rintro⟨f,st,v,c⟩ ⟨f',kv,v',c'⟩ A H ⟨h1,h2,_⟩ ⟨k1,k2,_⟩;obtain⟨rfl,rfl⟩:=aBZ (h2.symm.trans k2);rw[h1]at k1;simp at k1;obtain⟨rfl,rfl⟩:=k1;rfl
def R10:Ev.aX:=bx 999999 (bE ags aF7 bU) R9
def wk1:bT (bN×Int×eR×Int)where
 aI w A H:=A=[J w.2.2.2,.aa 0 0,.aa 1 0]/\H=hW w.1 w.2.1 w.2.2.1/\w.2.2.1.2.length<1200000
 v w:=.ai true
 aD w:=oW w.1 w.2.1 (vL w.2.2.1 w.2.2.2 w.2.1)
theorem aOu:wk1.bM:=by rintro⟨f,k,st,v⟩ ⟨f',k',kv,v'⟩ A H ⟨h1,h2,_⟩ ⟨k1,k2,_⟩;obtain⟨rfl,rfl,rfl⟩:=WQ (h2.symm.trans k2);rw[h1]at k1;simp at k1;rw[k1]
def R11:Ev.aX:=bx 152 (bE wk1 aOu bU) R10
def wkX(N:Nat):bT (bN×Int×eR×ax)where
 aI w A H:=A=[.aj (bn w.2.2.2),.cw (.func 152) [] [.aa 0 0,.aa 1 0]]/\H=hW w.1 w.2.1 w.2.2.1/\bA w.2.2.2/\bp w.2.2.2<N/\w.2.2.1.2.length+bp w.2.2.2<1200000
 v w:=.ai true
 aD w:=oW w.1 w.2.1 (vM w.2.1 w.2.2.1 w.2.2.2)
theorem aOz(N):(wkX N).bM:=by rintro⟨f,k,st,t⟩ ⟨f',k',kv,t'⟩ A H ⟨h1,h2,_⟩ ⟨k1,k2,_⟩;obtain⟨rfl,rfl,rfl⟩:=WQ (h2.symm.trans k2);rw[h1]at k1;simp at k1;rw[kT k1]
def Pm(N:Nat):Ev.aX:=bx 151 (bE (wkX N) (aOz N) bU) R11
def avf:bT (bN×Int×eR×ax)where
 aI w A H:=A=[.aj (bn w.2.2.2),.cw (.func 152) [] [.aa 0 0,.aa 1 0]]/\H=hW w.1 w.2.1 w.2.2.1/\bA w.2.2.2/\w.2.2.1.2.length+bp w.2.2.2<1200000
 v w:=.ai true
 aD w:=oW w.1 w.2.1 (vM w.2.1 w.2.2.1 w.2.2.2)
theorem aOy:avf.bM:=by rintro⟨f,k,st,t⟩ ⟨f',k',kv,t'⟩ A H ⟨h1,h2,_⟩ ⟨k1,k2,_⟩;obtain⟨rfl,rfl,rfl⟩:=WQ (h2.symm.trans k2);rw[h1]at k1;simp at k1;rw[kT k1]
def UB:Ev.aX:=bx 151 (bE avf aOy bU) R11
def eaX:bT (bN×Int×eR×dF)where
 aI w A H:=A=[.aq (az w.2.2.2) w.2.2.2.length 4,.aa 0 0,.aa 1 0]/\H=hW w.1 w.2.1 w.2.2.1/\cV w.2.2.2.length/\fe w.2.2.2/\w.2.2.1.2.length+bz w.2.2.2<1200000
 v w:=.ai true
 aD w:=oW w.1 w.2.1 (nZ w.2.1 w.2.2.1 w.2.2.2)
theorem azJ:eaX.bM:=by rintro⟨f,k,st,t⟩ ⟨f',k',kv,t'⟩ A H ⟨h1,h2,_⟩ ⟨k1,k2,_⟩;obtain⟨rfl,rfl,rfl⟩:=WQ (h2.symm.trans k2);rw[h1]at k1;simp at k1;rw[vn k1.2 k1.1]
def R13:Ev.aX:=bx 150 (bE eaX azJ bU) UB
abbrev oJ h0 h1:=nH h0 [.aa h1 0]
abbrev Og h0 h1 h2 h3 h4:=rS h0 (gZ.ar (bN.bh h1)) (gZ.an (bN.bh h1)) (az h2) (List.length h2) h3 h4
abbrev JT(h0:bN):=Og h0.bh.eQ h0 h0.cg (bX h0.bo) (List.length h0.bo)
abbrev J1 h0 h1 h2 h3 h4 h5 h6 h7 h8 h9:=([(h0,.aa h1 0),(h2,.aa h3 0),(h4,h5),(h6,h7),(h8,h9)]:List (Nat×AV))
abbrev aaO h0 h1 h2 h3:=vK LoopState.ready (J1 1 h0 2 5 4 (.aa 6 0) 5 (.aa h1 0) 21 (oJ 149 h2)) h3
abbrev awi h0 h1 h2 h3 h4 h5:=aE (Ax (aaO 2 3 4 1) h0 h1 (rQ 7 h2 35) h1 h3 (k_ 8 193) h4 h5) 9
theorem asv{f st v c L Q}:
 agA Z R9 (λ_=>[]) L Q 1000 0 (.aj [J v,J c]) (hR f st)=(∃n,∃bm,∃bS,Ci 200 (bJ vS 0 st.fst) v (.aj [J n,J bm,J bS]) (λb=>aZ (!b) (pn (List.length (bc st.snd)) (List.length st.snd) 1 (rP 2 (bJ vS 0 st.fst) (List.length st.fst) v (.aj [J (a_ (List.length st.snd)),J c,J c]) (λbF=>λc'=>Q (.ai true) (aE (El (aaO 2 3 4 1) (.qR (some [])) (.ah (JT f) 106) (rQ 9 (List.length st.snd+1) 35) (.ah (JT f) 106) (.ah [.aM,.aM,.aM] 153) (k_ 8 193) (.bg []) (eu bF c') (.au (bc st.snd++[J v]) 2)) 10)))) (rP 2 (bJ vS 0 st.fst) (List.length st.fst) v (.aj [J n,J bm,J c]) (λbF=>λc'=>Q (.ai true) (awi (.qR (some [])) (.ah (JT f) 106) (List.length st.snd) (.ah [.aM,.aM,.aM] 153) (.au (bc st.snd) 2) (eu bF c')))))):=by kernel_rfl
abbrev WC x0 x1 x2 x3 x4:=aE [(0,.ah [.ib 2] 221),(1,.ah [J x0] 3),(2,vK LoopState.ready [(1,.aa 4 0),(2,.aa 7 0),(4,.aa 8 0),(5,.aa 5 0),(21,.cw (.func 149) [] [.aa 6 0])] 3),(3,mz),(4,eN x1),(5,.ah [.ad 11 x2 1] 35),(6,eN x1),(7,oO),(8,.ah [.aS 10] 193),(9,.bg []),(10,jF x3),(11,bG x4 2)] 12
abbrev avC h0 h1(h2:bN×eR×Int×Int) h3 h4 h5 h6 h7:=(([.ib 0,.aj [J h0,J h1]]:LV)=[.ib 0,.aj [J h2.2.2.1,J h2.2.2.2]]/\awi mz (eN h3) h4 oO (bG h5 2) (jF h6)=hR h2.1 h2.2.1/\h2.2.1.2.length<1200000)/\h7
abbrev NZ(h0:bN×eR×Int×Int):=vL h0.2.1 h0.2.2.1 h0.2.2.2
theorem aI7{f k st v L Q}:
 eG R10 [] L Q 152 (xI (J v)) (hW f k st)=(∃w:bN×eR×Int×Int,avC v k w f st.2.length st.2 st.1 (Q (.ai true) (WC k w.1 (NZ w).2.length (NZ w).1 (NZ w).2))):=by kernel_rfl
abbrev ZI x0 x1 x2:=aJ [(1,.cw (.func 152) [] [.aa 0 0,.aa 1 0]),(15,.aq x0 x1 4),(16,J (a_ x1)),(17,J x2)]
abbrev WD x0 x1 x2 x3 x4:=aE [(0,.ah [.ib 2] 221),(1,.ah [J x0] 3),(2,vK LoopState.ready [(1,.aa 4 0),(2,.aa 7 0),(4,.aa 8 0),(5,.aa 5 0),(21,.cw (.func 149) [] [.aa 6 0])] 3),(3,mz),(4,eN x1),(5,.ah [.ad 9 x2 1] 35),(6,eN x1),(7,oO),(8,.ah [.aS 10] 193),(9,bG x3 2),(10,jF x4)] 11
abbrev aim(h0:bN×Int×eR×Int):=vL h0.2.2.1 h0.2.2.2 h0.2.1
theorem aI5{f c st k n s cs len N L Q}:
 eG (Pm N) [1,15,16,17] L Q 151 [cN k n s cs len,nH 152 lS] (hW f c st)=gT (k==0) (∃w:bN×Int×eR×Int,((xI (J n):LV)=xI (J w.2.2.2)/\WD c f st.2.length st.2 st.1=hW w.1 w.2.1 w.2.2.1/\w.2.2.1.2.length<1200000)/\Q (.ai true) (WC w.2.1 w.1 (aim w).2.length (aim w).1 (aim w).2)) L (ZI cs len 0) (WD c f st.2.length st.2 st.1) 151 0:=by kernel_rfl
abbrev Ct h0 h1 h2:=([h0,h1]:LV)=[h2,h1]
abbrev ain(h0:bN×Int×eR×ax):=vM h0.2.1 h0.2.2.1 h0.2.2.2
abbrev avr h0 h1 h2 h3 h4(h5:eR)(h6:(bN×Int×eR×ax)->Prop)(h7:LT) h8 h9(dG:QT):=wi h0 h1 h2 (λb0=>λb1=>λb2=>λb3=>λb4=>∃b5:bN×Int×eR×ax,(Ct (cN b0 b1 b2 b3 b4) (nH 152 lS) (.aj (bn b5.2.2.2))/\WD h3 h4 h5.2.length h5.2 h5.1=hW b5.1 b5.2.1 b5.2.2.1/\bA b5.2.2.2/\h6 b5)/\h7 h8 (WC b5.2.1 b5.1 (ain b5).2.length (ain b5).1 (ain b5).2) (aB Z h9 0)) (dG (.ai true) (WC h3 h4 h5.2.length h5.1 h5.2))
theorem aI6{f c st cs len i N L Q}:
 qJ (Pm N) [1,15,16,17] L Q 151 11 (ZI cs len i) (oW f c st)=avr i len cs c f st (λw=>bp w.2.2.2<N/\w.2.2.1.2.length+bp w.2.2.2<1200000) L (ZI cs len (wI (i+1))) 151 Q:=by kernel_rfl
abbrev ZJ x0 x1 x2:=aJ [(1,.aa 0 0),(2,.aa 1 0),(7,.aq x0 x1 4),(8,J (a_ x1)),(9,J x2)]
theorem aI2{f c st cs len L Q}:
 eG UB [1,2,7,8,9] L Q 150 (xI (.aq cs len 4)) (hW f c st)=L (ZJ cs len 0) (WD c f st.2.length st.2 st.1) (aB Z 150 0):=by kernel_rfl
theorem aI3{f c st cs len i L Q}:
 qJ UB [1,2,7,8,9] L Q 150 11 (ZJ cs len i) (oW f c st)=avr i len cs c f st (λw=>w.2.2.1.2.length+bp w.2.2.2<1200000) L (ZJ cs len (wI (i+1))) 150 Q:=by kernel_rfl
theorem avo:
 kA Z 200=some (vS ⟨0,0,0⟩):=by kernel_rfl
theorem Np(l x):bc (l++[x])=bc l++[J x]:=by simp[bc]
theorem xE(l):(bc l).length=l.length:=by simp[bc]
theorem aj3:aF Z R10:=by
 refine axx abC ?_;rintro⟨f,st,v,c⟩ args H ⟨rfl,rfl,hl⟩;refine⟨0,_,rfl,?_⟩;have hl:=hl;have⟨sp,od⟩:=st;simp only at hl;simp only[ags];cases hk:lk v sp with
 |none=>
  have e:vL (sp,od) v c=(up v ⟨od.length,c,c⟩ sp,od++[v]):=by simp[vL,hk]
  rw[e];refine asR (n:=1000) (aQ:=λ_=>[]) iH abC rfl (show 0<9 by omega) ?_;rw[asv];refine⟨0,0,0,false,by rw[nq _ iF,hk,avo];rfl,?_⟩;refine al (λ_=>⟨⟨by simp[xE],by simp only;omega,rfl,rfl⟩,_,_,ph vS iF (v:=⟨od.length,c,c⟩),rfl,?_⟩) λh=>by cases h
  simp only[oR,tR,Np,cj,dJ,gH,lx];rfl
 |some s0=>
  have⟨a,b,l⟩:=s0;have e:vL (sp,od) v c=(up v ⟨a,b,c⟩ sp,od):=by simp[vL,hk]
  rw[e];refine aGa ?_ (aEH f _) (ct _);refine asR (n:=1000) (aQ:=λ_=>[]) iH abC rfl (show 0<9 by omega) ?_;rw[asv];refine⟨a,b,l,true,by rw[nq _ iF,hk];rfl,?_⟩;exact al (λh=>(by cases h)) λ_=>⟨_,_,ph vS iF (v:=⟨a,b,c⟩),rfl,rfl⟩
theorem aj4:aF Z R11:=by refine bY aj3 ?_;rintro⟨f,k,st,v⟩ args H ⟨rfl,rfl,hl⟩;refine eE 10 aj3 aI7 ?_;exact⟨(f,st,v,k),⟨rfl,rfl,hl⟩,rfl,rfl⟩
theorem aI4{f c aC l N}(hS:aF Z (Pm N))(hl:cV l.length)(ho:fe l)(hN:bz l<N):
 ∀p:Nat×eR,(p.1<=l.length/\p.2.2.length+bz (l.drop p.1)<1200000/\nZ c p.2 (l.drop p.1)=aC)->
 ba Z 151 26 11 (.ai true) (oW f c aC) (ZI (az l) l.length (p.1:Int)) (oW f c p.2) (aB Z 151 0):=by
 refine dj (λp=>l.length-p.1) _ _ _ _ ?_;rintro⟨i,st⟩ ⟨hi,hc,hf⟩ ih;simp only at hi hc hf ih⊢;refine hE hS aI6 ?_;refine al (λae=>?_) λaY=>?_
 .have ae:i<l.length:=by simpa using ae
  have⟨k1,n1,s1,m1,he,bP,aN⟩:=BZ ae ho;have ca:=SW ae;rw[he]at ca;rw[fu ae,he,bz]at hc;rw[fu ae,he,nZ]at hf;have hg:=afE c st (.mk k1 n1 s1 m1);refine⟨i,rfl,ae,k1,n1,s1,_,_,bP,(f,c,st,.mk k1 n1 s1 m1),⟨rfl,rfl,aN,by simp only;omega,by simp only;omega⟩,?_⟩;rw[lB hl ae];exact ih (i+1,vM c st (.mk k1 n1 s1 m1)) ⟨by simp;omega,by simp only;omega,hf⟩ (by simp;omega)
 .have aY:l.length<=i:=by simpa using aY
  rw[gf aY,nZ]at hf;subst hf;exact aA
theorem ath{f c st k n s l N}(hS:aF Z (Pm N))(ho:bA (.mk k n s l))(hN:bz l<N)(hc:st.2.length+(1+bz l)<1200000):
 bC Z 151 [.aj [J k,J n,.ao s,.aq (az l) l.length 4],.cw (.func 152) [] [.aa 0 0,.aa 1 0]] (hW f c st) (.ai true) (oW f c (vM c st (.mk k n s l))):=by
 refine eE 26 hS aI5 ?_;refine al (λhk=>?_) λhk=>?_
 .have hk:k=0:=by simpa using hk
  have e:vM c st (.mk k n s l)=vL st n c:=by rw[vM,aP hk]
  rw[e];exact⟨(f,c,st,n),⟨rfl,rfl,by simp only;omega⟩,rfl,rfl⟩
 .have hk:¬k=0:=by simpa using hk
  have e:vM c st (.mk k n s l)=nZ c st l:=by rw[vM,aw hk]
  rw[e];refine wS ?_ (mvW f c st) (λi a' hi=>⟨a',hi,yN hi (by simp[eF,k8,mb,et])⟩);exact aI4 hS ho.2.1 ho.2.2 hN (0,st) ⟨by simp,by simp;omega,by simp⟩
theorem aw3:∀N,aF Z (Pm N):=by
 refine vV aj4 ?_ ?_
 .rintro⟨f,c,st,t⟩ args H ⟨_,_,_,h,_⟩;omega
 .rintro N hS ⟨f,c,st,⟨k,n,s,l⟩⟩ args H ⟨rfl,rfl,ho,hN,hc⟩;simp only[bp]at hc hN;exact ath hS ho (by omega) hc
theorem abx:aF Z UB:=by refine bY aj4 ?_;rintro⟨f,c,st,⟨k,n,s,l⟩⟩ args H ⟨rfl,rfl,ho,hc⟩;simp at hc;exact ath (aw3 (bz l+1)) ho (by omega) hc
theorem aI1{f c aC l}(hl:cV l.length)(ho:fe l):
 ∀p:Nat×eR,(p.1<=l.length/\p.2.2.length+bz (l.drop p.1)<1200000/\nZ c p.2 (l.drop p.1)=aC)->
 ba Z 150 18 11 (.ai true) (oW f c aC) (ZJ (az l) l.length (p.1:Int)) (oW f c p.2) (aB Z 150 0):=by
 refine dj (λp=>l.length-p.1) _ _ _ _ ?_;rintro⟨i,st⟩ ⟨hi,hc,hf⟩ ih;simp only at hi hc hf ih⊢;refine hE abx aI3 ?_;refine al (λae=>?_) λaY=>?_
 .have ae:i<l.length:=by simpa using ae
  have⟨k1,n1,s1,m1,he,bP,aN⟩:=BZ ae ho;rw[fu ae,he,bz]at hc;rw[fu ae,he,nZ]at hf;have hg:=afE c st (.mk k1 n1 s1 m1);refine⟨i,rfl,ae,k1,n1,s1,_,_,bP,(f,c,st,.mk k1 n1 s1 m1),⟨rfl,rfl,aN,by simp only;omega⟩,?_⟩;rw[lB hl ae];exact ih (i+1,vM c st (.mk k1 n1 s1 m1)) ⟨by simp;omega,by simp only;omega,hf⟩ (by simp;omega)
 .have aY:l.length<=i:=by simpa using aY
  rw[gf aY,nZ]at hf;subst hf;exact aA
theorem aj5:aF Z R13:=by refine bY abx ?_;rintro⟨f,c,st,l⟩ args H ⟨rfl,rfl,hl,ho,hc⟩;have hl:=hl;refine eE 18 abx aI2 ?_;refine wS ?_ (mvW f c st) (λi a' hi=>⟨a',hi,yN hi (by simp[eF,mb,et])⟩);exact aI1 hl ho (0,st) ⟨by simp,by simp;omega,by simp⟩
def arV:LV->Option (Prop×AV)
 |[.aj [.bD .i64 k,.ao _,.bD .i64 _,.bD .i64 _,.aq _ _ 4,.bD .i64 _]]=>some (True,.ai (decide (k=2\/k=3\/k=4)))
 |_=>none
def UC:Ev.aX:=eD 153 (fj arV) R13
def DN(c:Int)(st:eR)(g:rZ):eR:=if RW g then vL (nZ c st g.fT) g.qH c else nZ c st g.fT
def Ge:Nat->eR->gy->eR
 |_,st,[]=>st
 |c,st,g::gs=>Ge (if g.gq=1 then c+1 else c) (DN c st g) gs
def Gd(f:bN)(st:eR):eR:=Ge 0 (nZ 0 st f.cg) f.bo
def Qs(f:bN)(st:eR):AH:=aE [(0,vK .ready (lT 3 4 1 5 6) 2),(1,eN f),(2,mz),(3,eN f),(4,.ah [.ad 7 st.2.length 1] 35),(5,oO),(6,.ah [.aS 8] 193),(7,tR st.2),(8,jF st.1)] 9
def o91(f:bN)(st:eR):AH:=aE [(0,vK .ready (lT 3 4 1 5 6) 2),(1,eN f),(2,mz),(3,eN f),(4,.ah [.ad 9 st.2.length 1] 35),(5,oO),(6,.ah [.aS 8] 193),(7,.bg []),(8,jF st.1),(9,tR st.2)] 10
def r91(f:bN)(k:Int)(st:eR):AH:=aE [(0,vK .ready (lT 3 4 1 5 6) 2),(1,eN f),(2,mz),(3,eN f),(4,.ah [.ad 11 st.2.length 1] 35),(5,oO),(6,.ah [.aS 8] 193),(7,.bg []),(8,jF st.1),(9,.ah [.ib 0] 221),(10,.ah [J k] 3),(11,tR st.2)] 12
theorem aBO{f f' st kv}(h:Qs f st=Qs f' kv):f=f'/\st=kv:=by
 have q:=λi=>congrArg (λH=>AH.aR H i) h
 exact⟨adi (cW (q 1)),Prod.ext (SF (cW (q 8))) (YC (cW (q 7)))⟩
def ocX:bT (bN×eR)where
 aI w A H:=A=[.ib 0,.aa 1 0]/\H=Qs w.1 w.2/\km w.1/\w.2.2.length+bz w.1.cg+fv w.1.bo<1200000
 v w:=.aL []
 aD w:=o91 w.1 (Gd w.1 w.2)
theorem aEU:ocX.bM:=by rintro⟨f,st⟩ ⟨f',kv⟩ A H ⟨h1,h2,_⟩ ⟨k1,k2,_⟩;obtain⟨rfl,rfl⟩:=aBO (h2.symm.trans k2);rfl
def R15:Ev.aX:=bx 149 (bE ocX aEU bU) UC
def oc0:bT bN where
 aI f A H:=A=[.aj (iE f)]/\H=ay
 v f:=.cw (.func 149) [] [.aa 0 0]
 aD f:=aE [(0,eN f)] 1
theorem aET:oc0.bM:=by rintro f f' A H ⟨h1,_⟩ ⟨k1,_⟩;rw[h1]at k1;simp at k1;rw[A5 _ _ k1]
def R16:Ev.aX:=bx 121 (bE oc0 aET bU) R15
theorem aI8{k nm ar an cs len v L Q}:
 fL R13 L Q 153 [.aj (wj k nm ar an cs len v)]=Az (k==2) (Q (.ai true) ay) (k==3) (Q (.ai (k==4)) ay):=by kernel_rfl
abbrev SO x0 x1 x2:=aJ [(2,.aa 9 0),(3,.aa 10 0),(4,.cw (.func 150) [] [.aa 9 0,.aa 10 0]),(14,.aq x0 x1 6),(15,J (a_ x1)),(16,J x2)]
abbrev aBS x0 x1 x2 x3 x4:=aE [(0,.ah [.ib 2] 221),(1,.ah [J x0] 3),(2,vK LoopState.ready [(1,.aa 4 0),(2,.aa 7 0),(4,.aa 8 0),(5,.aa 5 0),(21,.cw (.func 149) [] [.aa 6 0])] 3),(3,mz),(4,eN x1),(5,.ah [.ad 9 x2 1] 35),(6,eN x1),(7,oO),(8,.ah [.aS 10] 193),(9,bG x3 2),(10,jF x4)] 11
abbrev adK x0 x1 x2 x3 x4:=aE [(0,vK LoopState.ready [(1,.aa 3 0),(2,.aa 5 0),(4,.aa 6 0),(5,.aa 4 0),(21,.cw (.func 149) [] [.aa 1 0])] 2),(1,eN x0),(2,mz),(3,eN x0),(4,.ah [.ad 11 x1 1] 35),(5,oO),(6,.ah [.aS 8] 193),(7,.bg []),(8,jF x2),(9,.ah [.ib 0] 221),(10,.ah [J x3] 3),(11,bG x4 2)] 12
abbrev avz h0 h1(h2:bN×Int×eR×dF) h3 h4(h5:eR):=(xI (.aq h0 h1 4):LV)=xI (.aq (az h2.2.2.2) h2.2.2.2.length 4)/\aBS h3 h4 h5.2.length h5.2 h5.1=hW h2.1 h2.2.1 h2.2.2.1/\cV h2.2.2.2.length/\fe h2.2.2.2/\h2.2.2.1.2.length+bz h2.2.2.2<1200000
abbrev Ej(h0:bN×Int×eR×dF):=nZ h0.2.1 h0.2.2.1 h0.2.2.2
theorem aIZ{f st L Q}:
 eG UC [2,3,4,14,15,16] L Q 149 [.ib 0,.aa 1 0] (Qs f st)=(∃w:bN×Int×eR×dF,avz (az f.cg) f.cg.length w 0 f st/\L (SO (bX w.1.bo) w.1.bo.length 0) (adK w.1 (Ej w).2.length (Ej w).1 w.2.1 (Ej w).2) (aB Z 149 0)):=by kernel_rfl
abbrev ahA(h0:Int)(h1:LT) h2 h3(h4:Int) h5 h6 h7(h8:bN×Int×eR×dF) h9:=gT (h0==1) (h1 (SO h2 h3 (wI (h4+1))) (adK h5 h6 h7 (wI (h8.2.1+1)) h9) (aB Z 149 0)) h1 (SO h2 h3 (wI (h4+1))) (adK h5 h6 h7 h8.2.1 h9) 149 0
theorem aI0{f k st gs gl i L Q}:
 qJ UC [2,3,4,14,15,16] L Q 149 9 (SO gs gl i) (r91 f k st)=jQ i gl (λcv=>NO gs cv (λn=>λs=>λbm=>λbS=>λcs=>λlen=>λdn=>∃w:bN×Int×eR×dF,avz cs len w k f st/\dc True/\aZ (decide (n=2\/n=3\/n=4)) (∃aH:bN×eR×Int×Int,avC dn w.2.1 aH w.1 (Ej w).2.length (Ej w).2 (Ej w).1 (ahA n L gs gl i aH.1 (NZ aH).2.length (NZ aH).1 w (NZ aH).2)) (ahA n L gs gl i w.1 (Ej w).2.length (Ej w).1 w (Ej w).2))) (Q (.aL []) (aE (El (aaO 3 4 1 2) (eN f) mz (eN f) (rQ 9 st.2.length 35) oO (k_ 8 193) (.bg []) (jF st.1) (bG st.2 2)) 10)):=by kernel_rfl
theorem aIy{f L Q}:
 fL R15 L Q 121 [.aj (iE f)]=Q (oJ 149 0) (fH f.bh.eQ f.bh.ar f.bh.an (az f.cg) f.cg.length (bX f.bo) f.bo.length):=by kernel_rfl
theorem aby:aF Z UC:=by
 refine jl aj5 λargs q v h hq=>?_
 unfold arV at h;split at h<;>cases h;rename_i k nm ar an cs len v;refine eS aj5 (λ_=>[]) 16 ?_
 .refine cast aI8.symm ?_;refine al (λh=>?_) λh=>al (λh2=>?_) λh2=>?_
  .have h:k=2:=by simpa using h
   exact⟨by simp[h],rfl⟩
  .have h2:k=3:=by simpa using h2
   exact⟨by simp[h2],rfl⟩
  .have h:¬k=2:=by simpa using h
   have h2:¬k=3:=by simpa using h2
   refine⟨?_,rfl⟩;by_cases h3:k=4<;>simp[h,h2,h3]
theorem arG(c st g):(DN c st g).2.length<=st.2.length+bz g.fT+1:=by have h1:=M4 c st g.fT;have h2:=arE (nZ c st g.fT) g.qH c;unfold DN;split<;>omega
theorem aIY{f aC gs}(hl:cV gs.length)(ho:∀g∈gs,sE g)(hG:gs.length<1200000):
 ∀p:Nat×Nat×eR,(p.1<=gs.length/\p.2.1<=p.1/\p.2.2.2.length+fv (gs.drop p.1)<1200000/\Ge p.2.1 p.2.2 (gs.drop p.1)=aC)->
 ba Z 149 44 9 (.aL []) (o91 f aC) (SO (bX gs) gs.length (p.1:Int)) (r91 f (p.2.1:Int) p.2.2) (aB Z 149 0):=by
 refine dj (λp=>gs.length-p.1) _ _ _ _ ?_;rintro⟨i,c,st⟩ ⟨hi,hc,hq,hf⟩ ih;simp only at hi hc hq hf ih⊢;refine hE aby aI0 ?_;delta ahA;refine al (λae=>?_) λaY=>?_
 .have ae:i<gs.length:=by simpa using ae
  have⟨k,nm,ar,an,ls,v,he,bP,aN⟩:=Fz ae ho;rw[fu ae,he,Ge]at hf;rw[fu ae,he,fv]at hq;simp only at hf hq;have h1:=M4 c st ls;have h2:=arG c st ⟨k,⟨nm,ar,an⟩,ls,v⟩;simp only at h2;have next:=ih (i+1,(if k=1 then c+1 else c),DN c st ⟨k,⟨nm,ar,an⟩,ls,v⟩) ⟨by simp;omega,by simp only;split<;>omega,by simp only;omega,hf⟩ (by simp;omega)
  refine⟨i,rfl,ae,k,nm,ar,an,_,_,v,bP,(f,(c:Int),st,ls),⟨rfl,rfl,aN.2.1,aN.2.2,by simp only;omega⟩,da,?_⟩;rw[lB hl ae];have hw:=pk (kr c) (by omega);refine al (λh=>?_) λh=>?_
  .have ox:RW ⟨k,⟨nm,ar,an⟩,ls,v⟩=true:=by simpa[RW]using h
   have e:DN c st ⟨k,⟨nm,ar,an⟩,ls,v⟩=vL (nZ c st ls) v c:=by simp[DN,ox]
   rw[e]at next
   refine⟨(f,nZ c st ls,v,(c:Int)),⟨rfl,rfl,by simp only;omega⟩,al (λhk=>?_) λhk=>?_⟩
   .have hk:k=1:=by simpa using hk
    rw[aP hk]at next
    rw[hw];exact next
   .have hk:¬k=1:=by simpa using hk
    rw[aw hk]at next
    exact next
  .have ox:RW ⟨k,⟨nm,ar,an⟩,ls,v⟩=false:=by simpa[RW]using h
   have e:DN c st ⟨k,⟨nm,ar,an⟩,ls,v⟩=nZ c st ls:=by simp[DN,ox]
   rw[e]at next
   refine al (λhk=>?_) λhk=>?_
   .have hk:k=1:=by simpa using hk
    rw[aP hk]at next
    rw[hw];exact next
   .have hk:¬k=1:=by simpa using hk
    rw[aw hk]at next
    exact next
 .have aY:gs.length<=i:=by simpa using aY
  rw[gf aY,Ge]at hf;subst hf;exact aA
theorem aj6:aF Z R15:=by refine bY aby ?_;rintro⟨f,st⟩ args H ⟨rfl,rfl,ho,hc⟩;have hc:st.2.length+bz f.cg+fv f.bo<1200000:=hc;have hg:=Wo f.bo;have h1:=M4 0 st f.cg;refine eE 44 aby aIZ ?_;refine⟨(f,0,st,f.cg),⟨rfl,rfl,ho.2.1,ho.2.2.1,by simp only;omega⟩,?_⟩;exact aIY ho.2.2.2.1 ho.2.2.2.2 (show f.bo.length<1200000 by omega) (0,0,nZ 0 st f.cg) ⟨by simp,by simp,by simp;omega,rfl⟩
theorem aj7:aF Z R16:=by refine bY aj6 ?_;rintro f args H ⟨rfl,rfl⟩;refine eE 4 aj6 aIy ?_;exact aA
end
end Go.Cl
namespace Go.Cl
open Go.Ev
noncomputable section
def xe(key:Int->Int)(x:Int):LI->LI
 |[]=>[x]
 |y::l=>if key y>key x then y::xe key x l else x::y::l
def c_(key:Int->Int):LI->LI
 |[]=>[]
 |x::l=>xe key x (c_ key l)
def fV(key:Int->Int)(l:LI):Prop:=l.Pairwise (λx y=>key y<=key x)
def AM(key:Int->Int)(s t:LI):Prop:=fV key t/\∀k,t.filter (λx=>key x=k)=s.filter (λx=>key x=k)
theorem apB(key x k):∀l,(xe key x l).filter (λx=>key x=k)=(x::l).filter (λx=>key x=k)
 |[]=>rfl
 |y::l=>by
  simp only[xe];split;next h=>
   rw[xy,apB key x k l];simp only[xy];by_cases hx:key x=k
   .have hy:¬key y=k:=by omega
    simp[hx,hy]
   .simp[hx]
  .rfl
theorem apD(key x z):∀l,z∈xe key x l↔z=x\/z∈l
 |[]=>by simp[xe]
 |y::l=>by
  simp only[xe];split
  .simp only[dU,apD key x z l];constructor
   .rintro(h|h|h)
    .exact .inr (.inl h)
    .exact .inl h
    .exact .inr (.inr h)
   .rintro(h|h|h)
    .exact .inr (.inl h)
    .exact .inl h
    .exact .inr (.inr h)
  .simp
theorem apA(key x):∀l,fV key l->fV key (xe key x l)
 |[],_=>by simp[xe,fV]
 |y::l,h=>by
  unfold fV at h⊢;rw[Jr]at h;simp only[xe];split;next DE=>
   rw[Jr];refine⟨λz hz=>?_,apA key x l h.2⟩;rcases(apD key x z l).1 hz with rfl|hz
   .omega
   .exact h.1 z hz
  next DE=>
   rw[Jr];refine⟨λz hz=>?_,Jr.2 h⟩;rcases dU.1 hz with rfl|hz
   .omega
   .have:=h.1 z hz;omega
theorem y6(key):∀s,AM key s (c_ key s)
 |[]=>⟨List.Pairwise.nil,λ_=>rfl⟩
 |x::s=>by have ih:=y6 key s;refine⟨apA key x _ ih.1,λk=>?_⟩;simp only[c_];rw[apB,xy,xy,ih.2 k]
theorem LG{key:Int->Int}{s t:LI}(h:∀k,t.filter (λx=>key x=k)=s.filter (λx=>key x=k)){x}(hx:x∈t):x∈s:=by have:x∈t.filter (λy=>key y=key x):=xz.2 ⟨hx,by simp⟩;rw[h]at this;exact(xz.1 this).1
theorem AM.Jc{key s t}(h:AM key s t)(x):x∈t↔x∈s:=⟨LG h.2,LG (λk=>(h.2 k).symm)⟩
theorem amk{key}:∀{t u},fV key t->fV key u->(∀k,t.filter (λx=>key x=k)=u.filter (λx=>key x=k))->t=u
 |[],[],_,_,_=>rfl
 |[],y::u,_,_,h=>by have:=LG (λk=>(h k).symm) (dk);cases this
 |x::t,[],_,_,h=>by have:=LG h (dk);cases this
 |x::t,y::u,ht,hu,h=>by
  have hx:=LG h (dk);have hy:=LG (λk=>(h k).symm) (dk);unfold fV at ht hu;rw[Jr]at ht hu;have e1:key x<=key y:=by
   rcases dU.1 hx with rfl|hx
   .exact Gp _
   .exact hu.1 x hx
  have e2:key y<=key x:=by
   rcases dU.1 hy with rfl|hy
   .exact Gp _
   .exact ht.1 y hy
  have e:key x=key y:=by omega
  have h0:=h (key x);rw[xy,xy,aP (by simp),aP (by simp[e])]at h0;have DE:=(List.cons.inj h0).1;subst DE;rw[amk ht.2 hu.2 λk=>?_];have h1:=h k;rw[xy,xy]at h1;split at h1
  .exact(List.cons.inj h1).2
  .exact h1
theorem AM.eq{key s t}(h:AM key s t):c_ key s=t:=
 amk (y6 key s).1 h.1 (λk=>((y6 key s).2 k).trans (h.2 k).symm)
theorem apC(key x):∀l,(xe key x l).length=l.length+1
 |[]=>rfl
 |y::l=>by
  simp only[xe];split
  .simp[apC key x l]
  .rfl
theorem sO(key):∀s,(c_ key s).length=s.length
 |[]=>rfl
 |x::s=>by simp[c_,apC,sO key s]
theorem SG{key s}(h:fV key s):c_ key s=s:=AM.eq ⟨h,λ_=>rfl⟩
theorem auh{key s p q x}(h:c_ key s=p++q)(hq:∀y∈q,key y<key x)(hp:∀y∈p,key x<=key y):c_ key (s++[x])=p++x::q:=by
 have hs:=y6 key s;rw[h]at hs;refine AM.eq ⟨?_,λk=>?_⟩
 .have h1:=Ac.1 hs.1;refine Ac.2 ⟨h1.1,Jr.2 ⟨λy hy=>Int.le_of_lt (hq y hy),h1.2.1⟩,λa ha b hb=>?_⟩;rcases dU.1 hb with rfl|hb
  .exact hp a ha
  .exact h1.2.2 a ha b hb
 .have h2:=hs.2 k;simp at h2⊢;rw[<-h2];by_cases hk:key x=k
  .have:q.filter (λx=>key x=k)=[]:=by rw[Jt];intro y hy;have:=hq y hy;simp;omega
   simp[hk,this]
  .simp[hk]
theorem aML{key p q x}(hd:fV key (p++q))(hp:∀y∈p,key x<key y)(hq:∀y∈q,key y<=key x):c_ key (x::(p++q))=p++x::q:=by
 refine AM.eq ⟨?_,λk=>?_⟩
 .have h1:=Ac.1 hd;refine Ac.2 ⟨h1.1,Jr.2 ⟨hq,h1.2.1⟩,λa ha b hb=>?_⟩;rcases dU.1 hb with rfl|hb
  .exact Int.le_of_lt (hp a ha)
  .exact h1.2.2 a ha b hb
 .simp;by_cases hk:key x=k
  .have:p.filter (λx=>key x=k)=[]:=by rw[Jt];intro y hy;have:=hp y hy;simp;omega
   simp[hk,this]
  .simp[hk]
theorem aMM{key A B C D}(h1:fV key (A++B))(h2:fV key (C++D))(hBC:∀x∈B,∀y∈C,key x<key y)(hAD:∀x∈A,∀y∈D,key y<=key x):
 c_ key ((A++B)++(C++D))=c_ key (A++C)++c_ key (B++D):=by
 have k1:=Ac.1 h1;have k2:=Ac.1 h2;have s1:=y6 key (A++C);have s2:=y6 key (B++D);refine AM.eq ⟨Ac.2 ⟨s1.1,s2.1,λa ha b hb=>?_⟩,λk=>?_⟩
 .rcases iK.1 ((s1.Jc a).1 ha)with ha|ha<;>rcases iK.1 ((s2.Jc b).1 hb)with hb|hb
  .exact k1.2.2 a ha b hb
  .exact hAD a ha b hb
  .exact Int.le_of_lt (hBC b hb a ha)
  .exact k2.2.2 a ha b hb
 .rw[Gr,s1.2 k,s2.2 k];simp;have:B.filter (λx=>key x=k)=[]\/C.filter (λx=>key x=k)=[]:=by
   by_cases hc:C.filter (λx=>key x=k)=[]
   .exact .inr hc
   .left;have⟨y,hy⟩:=List.exists_mem_of_ne_nil _ hc;have hy:=xz.1 hy;rw[Jt];intro x hx;have:=hBC x hx y hy.1;simp at hy⊢;omega
  rcases this with h|h<;>simp[h]
theorem aug{key}(s t):c_ key (c_ key s++c_ key t)=c_ key (s++t):=by refine(AM.eq ⟨(y6 key (s++t)).1,λk=>?_⟩);rw[(y6 key (s++t)).2 k,Gr,Gr,(y6 key s).2 k,(y6 key t).2 k]
end
end Go.Cl
namespace Go.Cl
open Go.Ev Go.Proofs
noncomputable section
def aq6:LV->Option (Prop×AV)
 |[.bD .i64 _]=>some (True,.ai false)
 |_=>none
def wF(a b:Int):Int:=if a<b then-1 else if a>b then 1 else 0
def alG:LV->Option (Prop×AV)
 |[.bD .i64 a,.bD .i64 b]=>some (True,J (wF a b))
 |_=>none
def R17:Ev.aX:=eD 110 (fj aq6) R16
def R18:Ev.aX:=eD 74 (fj alG) R17
def kS(sp:List (Int×fq))(v:Int):Int:=((lk v sp).getD ⟨0,0,0⟩).last
def FD(sp:List (Int×fq)):AH:=aE [(0,.ah [.aS 1] 193),(1,jF sp)] 2
theorem aBN{a b}(h:FD a=FD b):a=b:=by
 have q:=λi=>congrArg (λH=>AH.aR H i) h
 exact SF (cW (q 1))
def cmX:bT (List (Int×fq)×Int×Int)where
 aI w A H:=A=[J w.2.1,J w.2.2,.aa 0 0]/\H=FD w.1
 v w:=J (wF (kS w.1 w.2.2) (kS w.1 w.2.1))
 aD w:=FD w.1
theorem ayW:cmX.bM:=by rintro⟨sp,a,b⟩ ⟨Eb,a',b'⟩ A H ⟨h1,h2⟩ ⟨k1,k2⟩;have e:=aBN (h2.symm.trans k2);rw[h1]at k1;simp at k1 e;rw[e,k1.1,k1.2]
def Pn:Ev.aX:=bx 123 (bE cmX ayW bU) R18
def hS(sp:List (Int×fq))(l:LI):AH:=aE [(0,tR l),(1,.ah [.aS 2] 193),(2,jF sp)] 3
theorem Iw{a b l m}(h:hS a l=hS b m):a=b/\l=m:=by
 have q:=λi=>congrArg (λH=>AH.aR H i) h
 exact⟨SF (cW (q 2)),YC (cW (q 0))⟩
def cF:AV:=.cw (.func 123) [] [.aa 1 0]
def isX:bT (List (Int×fq)×LI×LI×LI)where
 aI w A H:=A=[.ad 0 (w.2.1++w.2.2.1++w.2.2.2).length 1,J (w.2.1.length:Int),J ((w.2.1++w.2.2.1).length:Int),cF]/\H=hS w.1 (w.2.1++w.2.2.1++w.2.2.2)/\(w.2.1++w.2.2.1++w.2.2.2).length<1200000
 v w:=.aL []
 aD w:=hS w.1 (w.2.1++c_ (kS w.1) w.2.2.1++w.2.2.2)
theorem aDo:isX.bM:=by
 rintro⟨sp,U,X,W⟩ ⟨Eb,U',X',W'⟩ A H ⟨h1,h2,_⟩ ⟨k1,k2,_⟩;obtain⟨rfl,e⟩:=Iw (h2.symm.trans k2);rw[h1]at k1;simp only[fG,AV.bD.injEq,AV.ad.injEq,true_and,and_true]at k1 e;have e1:U.length=U'.length:=by omega
 have e2:(U++X).length=(U'++X').length:=by omega
 obtain⟨e3,rfl⟩:=lO e e2;obtain⟨rfl,rfl⟩:=lO e3 e1;rfl
def UD:Ev.aX:=bx 170 (bE isX aDo bU) Pn
def srX:bT (List (Int×fq)×LI×LI×LI×LI×LI)where
 aI w A H:=A=[.ad 0 (w.2.1++w.2.2.1++w.2.2.2.1++w.2.2.2.2.1++w.2.2.2.2.2).length 1,J (w.2.1.length:Int),J ((w.2.1++w.2.2.1++w.2.2.2.1).length:Int),J (w.2.2.1.length:Int),cF]/\H=hS w.1 (w.2.1++w.2.2.1++w.2.2.2.1++w.2.2.2.2.1++w.2.2.2.2.2)/\(w.2.1++w.2.2.1++w.2.2.2.1++w.2.2.2.2.1++w.2.2.2.2.2).length<1200000/\w.2.2.1.length=w.2.2.2.2.1.length
 v w:=.aL []
 aD w:=hS w.1 (w.2.1++w.2.2.2.2.1++w.2.2.2.1++w.2.2.1++w.2.2.2.2.2)
theorem aMI:srX.bM:=by
 rintro⟨sp,U,X,V,Y,W⟩ ⟨Eb,U',X',V',Y',W'⟩ A H ⟨h1,h2,_,h4⟩ ⟨k1,k2,_,k4⟩;obtain⟨rfl,e⟩:=Iw (h2.symm.trans k2);rw[h1]at k1;simp only[fG,AV.bD.injEq,AV.ad.injEq,true_and,and_true]at k1 e h4 k4;have e1:U.length=U'.length:=by omega
 have e0:X.length=X'.length:=by omega
 have e2:(U++X++V).length=(U'++X'++V').length:=by omega
 have e6:(U++X++V++Y).length=(U'++X'++V'++Y').length:=by rw[cj,cj (bs:=Y'),e2,<-h4,<-k4,e0]
 obtain⟨e3,rfl⟩:=lO e e6;obtain⟨e4,rfl⟩:=lO e3 e2;have e7:(U++X).length=(U'++X').length:=by rw[cj,cj,e1,e0]
 obtain⟨e5,rfl⟩:=lO e4 e7;obtain⟨rfl,rfl⟩:=lO e5 e1;rfl
def UE:Ev.aX:=bx 191 (bE srX aMI bU) UD
def ae8:Nat->LN:=dY [(1,[0,1,2,3,8]),(4,[0,1,2,3,8,9])]
theorem aJg{a L Q}:
 fL R16 L Q 110 [J a]=Q (.ai (a !=a)) ay:=by kernel_rfl
abbrev aib h0(h1:QT) h2 h3 h4 h5:=aZ h0 (h1 (J h2) h3) (Cj h4 h1 (J h5) h3 (J 0))
theorem aIB{a b L Q}:
 fL R17 L Q 74 [J a,J b]=(dc True/\dc True/\aib (decide (a<b)) Q (-1) ay (decide (a>b)) 1):=by kernel_rfl
abbrev Ti h0 h1 h2 h3 h4 h5:=Ci 200 (bJ vS 0 h0) h1 (.aj [J h2,J h3,J h4]) (λb0=>h5)
theorem aIA{sp a b L Q}:
 eG R18 [] L Q 123 [J a,J b,.aa 0 0] (FD sp)=(∃n,∃bm,∃bS,Ti sp b n bm bS (∃dn,∃fx,∃rD,Ti sp a dn fx rD (dc True/\Q (J (wF bS rD)) (FD sp)))):=by kernel_rfl
abbrev ag0 x0 x1 x2 x3:=aJ [(0,.ad 0 x0 1),(1,J x1),(2,J x2),(3,.cw (.func 123) [] [.aa 1 0]),(8,J x3)]
abbrev Iu x0 x1:=aE [(0,bG x0 2),(1,.ah [.aS 2] 193),(2,jF x1)] 3
theorem aGT{sp l a b L Q}:
 fA Pn ae8 L Q 170 [ej 0 l,J a,J b,cF] (hS sp l)=L (ag0 l.length a b (wI (a+1))) (Iu l sp) (aB Z 170 0):=by kernel_rfl
abbrev Tn h0 h1 h2 h3 h4 h5 h6 h7 h8:=([(0,ej 0 h0),(1,J h1),(2,h2),(h3,h4),(h5,J h6),(h7,J h8)]:List (Nat×AV))
theorem as2{sp l a b i L Q}:
 ju Pn ae8 L Q 170 3 [(0,ej 0 l),(1,J a),(2,J b),(3,cF),(8,J i)] (hS sp l)=Ew (decide (i<b)) (L (aJ (Tn l a (J b) 3 (oJ 123 1) 8 i 9 i)) (Iu l sp) (aB Z 170 1)) Q (Iu l sp):=by kernel_rfl
abbrev Hi h0(h1:LI) h2(h3:LT) h4 h5 h6 h7:=u0 (wI h0) h1 2 (λb0=>u0 h2 h1 2 (λb1=>ia h2 h1.length (λb2=>b2*1+1<=(bc h1).length/\ia (wI h0) h1.length (λb3=>b3*1+1<=(zd h1 b2 b0).length/\h3 (aJ h4) (jv (.au (iJ (zd h1 b2 b0) (b3*1) [J b1]) 2) (k_ 2 193) (jF h5)) (aB Z h6 h7)))))
abbrev Z7 h0 h1 h2 h3(h4:(List (Int×fq)×Int×Int)->Prop):=u0 h0 h1 2 (λb0=>u0 h2 h1 2 (λb1=>∃b2:List (Int×fq)×Int×Int,(([J b0,J b1,.aa 0 0]:LV)=[J b2.2.1,J b2.2.2,.aa 0 0]/\FD h3=FD b2.1)/\h4 b2))
abbrev NX(h0:List (Int×fq)×Int×Int):=decide (wF (kS h0.1 h0.2.2) (kS h0.1 h0.2.1)<0)
theorem aGR{sp l a b i j L Q}:
 iL Pn ae8 L Q 170 3 (aJ (Tn l a (J b) 3 cF 8 i 9 j)) 1 (hS sp l)=gT (decide (j>a)) (Z7 j l (wI (j-1)) sp (λw=>gT (NX w) (Hi (j-1) l j L (Tn l a (J b) 3 (oJ 123 1) 8 i 9 (wI (j-1))) w.1 170 1) L (ag0 l.length a b (wI (i+1))) (Iu l w.1) 170 0)) L (ag0 l.length a b (wI (i+1))) (Iu l sp) 170 0:=by kernel_rfl
abbrev To h0 h1 h2 h3 h4 h5 h6 h7 h8:=([(0,ej 0 h0),(h1,J h2),(h3,h4),(h5,J h6),(h7,J h8)]:List (Nat×AV))
theorem aHG{sp l a b n L Q}:
 eG UD [0,1,2,3,10] L Q 191 [ej 0 l,J a,J b,J n,cF] (hS sp l)=L (aJ (To l 1 a 2 (J b) 3 n 10 0)) (Iu l sp) (aB Z 191 0):=by kernel_rfl
theorem aHH{sp l a b n i L Q}:
 ju UD (λ_=>[0,1,2,3,10]) L Q 191 3 (To l 1 a 2 (J b) 3 n 10 i) (hS sp l)=Ew (decide (i<n)) (Hi (b+i) l (wI (a+i)) L [(0,ej 0 l),(1,J a),(2,J b),(3,J n),(10,cu i)] sp 191 0) Q (Iu l sp):=by kernel_rfl
theorem S0{l i}(h:i<l.length):fi Z 2 (bc l) (i*1)=some (J (l.getD i 0)):=by rw[arZ,bc,n7,sJ,gg h];simp[List.getD,gg h]
theorem uV{A B x i}(h:i=A.length):fi Z 2 (bc (A++x::B)) (i*1)=some (J x):=by subst h;rw[S0 (by simp)];simp[List.getD]
theorem aFD{l i}(x)(h:i<l.length):iJ (bc l) (i*1) [J x]=bc (l.set i x):=by rw[n7,YX x h]
theorem Gm{A B x i}(y)(h:i=A.length):iJ (bc (A++x::B)) (i*1) [J y]=bc (A++y::B):=by subst h;rw[aFD y (by simp)];simp
theorem EU{a b}:wF a b<0↔a<b:=by
 unfold wF;split
 .simp[*]
 .split<;>simp[*]
theorem aj8:aF Z R17:=by
 refine jl aj7 λargs q v h hq=>?_
 unfold aq6 at h;split at h<;>cases h;refine eE 6 aj7 aJg ?_;first
  |exact⟨rfl,rfl⟩
  |exact⟨by simp,rfl⟩
  |(refine al (λh=>?_) (λh=>?_)<;>first|exact aA|simp at h)
theorem aj9:aF Z R18:=by
 refine jl aj8 λargs q v h hq=>?_
 unfold alG at h;split at h<;>cases h;rename_i a b;refine eE 20 aj8 aIB ?_;refine⟨da,da,al (λh=>?_) λh=>al (λh2=>?_) λh2=>?_⟩
 .have h:a<b:=by simpa using h
  exact⟨by simp[wF,h],rfl⟩
 .have h:¬a<b:=by simpa using h
  have h2:a>b:=by simpa using h2
  exact⟨by simp[wF,h,h2],rfl⟩
 .have h:¬a<b:=by simpa using h
  have h2:¬a>b:=by simpa using h2
  exact⟨by simp[wF,h,h2],rfl⟩
theorem XZ(sp v):∃a b c:Int,∃d,lu Z 2 200 (bJ vS 0 sp) (J v)=some (.aj [J a,J b,J c],d)/\(lk v sp).getD ⟨0,0,0⟩=⟨a,b,c⟩:=by
 rw[nq _ iF];cases hk:lk v sp with
 |none=>exact⟨0,0,0,false,by rw[avo];rfl,rfl⟩
 |some s=>exact⟨s.df,s.TG,s.last,true,rfl,rfl⟩
theorem Po:aF Z Pn:=by
 refine bY aj9 ?_;rintro⟨sp,a,b⟩ args H ⟨rfl,rfl⟩;refine eE 15 aj9 aIA ?_;simp only[cmX];have⟨a1,b1,c1,d1,e1,f1⟩:=XZ sp b;have⟨a2,b2,c2,d2,e2,f2⟩:=XZ sp a;refine⟨a1,b1,c1,d1,e1,a2,b2,c2,d2,e2,da,?_⟩;have g1:kS sp b=c1:=by rw[kS,f1]
 have g2:kS sp a=c2:=by rw[kS,f2]
 rw[g1,g2];exact aA
section
variable{sp:List (Int×fq)}
def agY(l:LI)(a b i:Nat):Tr AV:=aJ [(0,.ad 0 l.length 1),(1,J (a:Int)),(2,J (b:Int)),(3,cF),(8,J (i:Int))]
theorem aGS{aC U W s x}{n b:Nat}(hn:(U++s++x::W).length<1200000)(next:∀l,l=U++c_ (kS sp) (s++[x])++W->ba Z 170 53 3 (.aL []) (hS sp aC) (agY l U.length b ((U++s).length+1)) (hS sp l) (aB Z 170 0)):
 ∀k:LI×LI,(c_ (kS sp) s=k.1++k.2/\∀y∈k.2,kS sp y<kS sp x)->
 ba Z 170 53 3 (.aL []) (hS sp aC) (aJ [(0,.ad 0 (U++k.1++x::(k.2++W)).length 1),(1,J (U.length:Int)),(2,J (b:Int)),(3,cF),(8,J ((U++s).length:Int)),(9,J ((U++k.1).length:Int))]) (hS sp (U++k.1++x::(k.2++W))) (aB Z 170 1):=by
 refine dj (λk=>k.1.length) _ _ _ _ ?_;rintro⟨p,q⟩ ⟨hs,hq⟩ ih;simp only at hs hq ih⊢;have bB:=sO (kS sp) s;rw[hs]at bB;simp at bB hn;have hw:wI (((U++s).length:Int)+1)=(((U++s).length+1:Nat):Int):=pk (kr _) (by simp;omega);have aD:(∀y∈p,kS sp x<=kS sp y)->ba Z 170 53 3 (.aL []) (hS sp aC) (aJ [(0,.ad 0 (U++p++x::(q++W)).length 1),(1,J (U.length:Int)),(2,J (b:Int)),(3,cF),(8,J (wI (((U++s).length:Int)+1)))]) (hS sp (U++p++x::(q++W))) (aB Z 170 0):=by intro hp;rw[hw];exact next _ (by rw[auh hs hq hp];simp)
 refine hE Po aGR ?_;delta Hi zd;refine al (λh=>?_) λh=>?_
 .have h:U.length<(U++p).length:=by have:=cP h;omega
  have hp:p≠[]:=by rintro rfl;simp at h
  obtain⟨p',y,rfl⟩:∃p' y,p=p'++[y]:=⟨p.dropLast,p.getLast hp,(List.dropLast_concat_getLast hp).symm⟩;have hj:(U++(p'++[y])).length=(U++p').length+1:=by simp;omega
  have Xu:wI (((U++(p'++[y])).length:Int)-1)=(((U++p').length:Nat):Int):=by rw[hj,cb ?_ ?_]<;>simp at bB⊢<;>omega
  have e1:U++(p'++[y])++x::(q++W)=(U++p')++y::x::(q++W):=by simp
  refine⟨(U++(p'++[y])).length,rfl,by simp,x,uV rfl,(U++p').length,Xu,by simp,y,by rw[e1];exact uV rfl,(sp,x,y),aA,al (λhc=>?_) λhc=>?_⟩
  .have hc:=EU.1 (by simpa using hc);have e2:∀z:Int,(U++p')++y::z::(q++W)=(U++p'++[y])++z::(q++W):=by intro z;simp
   have p1:iJ (bc (U++(p'++[y])++x::(q++W))) ((U++(p'++[y])).length*1) [J y]=bc ((U++p')++y::(y::(q++W))):=by rw[Gm y rfl];simp
   have p2:iJ (bc ((U++p')++y::(y::(q++W)))) ((U++p').length*1) [J x]=bc ((U++p')++x::(y::(q++W))):=Gm x rfl;refine⟨(U++p').length,Xu,by simp,y,by rw[e1];exact uV rfl,(U++(p'++[y])).length,rfl,by simp,x,uV rfl,(U++(p'++[y])).length,rfl,by simp,by rw[xE];simp;omega,(U++p').length,Xu,by simp,?_,?_⟩
   .rw[p1,xE];simp;omega
   .rw[p1,p2,Xu];have:=ih (p',y::q) ⟨by rw[hs];simp,by
     intro z hz;rcases dU.1 hz with rfl|hz
     .exact hc
     .exact hq z hz⟩ (by simp)
    have el:(U++p'++x::(y::q++W)).length=(U++(p'++[y])++x::(q++W)).length:=by simp only[cj,dJ,gH];omega
    rw[el]at this;exact this
  .have hc:¬kS sp y<kS sp x:=λhh=>by have:=EU.2 hh;simp at hc;omega
   refine aD λz hz=>?_
   have hd:=(y6 (kS sp) s).1;rw[hs]at hd;have hd:=(Ac.1 hd).1;rcases iK.1 hz with hz|hz
   .have:=(Ac.1 hd).2.2 z hz y (by simp);omega
   .simp at hz;subst hz;omega
 .have h:¬U.length<(U++p).length:=by have:=c9 h;omega
  have hp:p=[]:=by rw[<-uM];simp only[cj]at h;omega
  subst hp;exact aD (λz hz=>by cases hz)
theorem aGQ{U X W}(hn:(U++X++W).length<1200000):
 ∀k:LI×LI×LI,(k.2.2=U++c_ (kS sp) k.1++(k.2.1++W)/\k.1++k.2.1=X)->
 ba Z 170 53 3 (.aL []) (hS sp (U++c_ (kS sp) X++W)) (agY k.2.2 U.length (U++X).length (U++k.1).length) (hS sp k.2.2) (aB Z 170 0):=by
 refine dj (λk=>k.2.1.length) _ _ _ _ ?_;rintro⟨s,t,l⟩ ⟨hl,hX⟩ ih;simp only at hl hX ih⊢;subst hX;refine hE Po as2 ?_;refine al (λh=>?_) λh=>?_
 .have h:(U++s).length<(U++(s++t)).length:=by have:=cP h;omega
  cases t with
  |nil=>simp at h
  |cons x t=>
   subst hl;have:=aGS (W:=t++W) (n:=0) (by simp at hn⊢;omega)
    (by
      intro l hl;have:=ih (s++[x],t,l) ⟨by rw[hl],by simp⟩ (by simp);have e:(U++(s++[x])).length=(U++s).length+1:=by simp;omega
      rw[e]at this;exact this) (c_ (kS sp) s,[]) ⟨by simp,by intro y hy;cases hy⟩
   have e:(U++c_ (kS sp) s).length=(U++s).length:=by simp[sO]
   rw[e]at this;exact this
 .have h:¬(U++s).length<(U++(s++t)).length:=by have:=c9 h;omega
  have ht:t=[]:=by rw[<-uM];simp only[cj]at h;omega
  subst ht;subst hl;simp;exact aA
end
theorem abz:aF Z UD:=by
 refine bY Po ?_;rintro⟨sp,U,X,W⟩ args H ⟨rfl,rfl,hn⟩;have hn:=hn;refine eE 53 Po aGT ?_;have hw:wI ((U.length:Int)+1)=((U.length+1:Nat):Int):=pk (kr _) (by simp at hn;omega);rw[hw];cases X with
 |nil=>
  have H0:ba Z 170 53 3 (.aL []) (hS sp (U++c_ (kS sp) []++W)) (agY (U++[]++W) U.length (U++[]).length (U.length+1)) (hS sp (U++[]++W)) (aB Z 170 0):=by
   refine hE Po as2 ?_;refine al (λh=>?_) λh=>aA
   have:=cP h;simp at this;omega
  exact H0
 |cons x X=>
  have:=aGQ (sp:=sp) hn ([x],X,U++x::X++W) ⟨by simp[c_,xe],rfl⟩;have e:(U++[x]).length=U.length+1:=by simp
  rw[e]at this;exact this
theorem aHF{sp U X V Y W}(hn:(U++X++V++Y++W).length<1200000)(Me:X.length=Y.length):
 ∀k:LI×LI×LI×LI×LI,(k.1++k.2.1=X/\k.2.2.1++k.2.2.2.1=Y/\k.1.length=k.2.2.1.length/\k.2.2.2.2=U++k.2.2.1++k.2.1++V++k.1++k.2.2.2.1++W)->
 ba Z 191 38 3 (.aL []) (hS sp (U++Y++V++X++W)) (aJ [(0,.ad 0 k.2.2.2.2.length 1),(1,J (U.length:Int)),(2,J ((U++X++V).length:Int)),(3,J (X.length:Int)),(10,J (k.1.length:Int))]) (hS sp k.2.2.2.2) (aB Z 191 0):=by
 refine dj (λk=>k.2.1.length) _ _ _ _ ?_;rintro⟨X1,X2,Y1,Y2,l⟩ ⟨h1,h2,h3,hl⟩ ih;simp only at h1 h2 h3 hl ih⊢;subst h1 h2;simp at Me hn;refine hE abz aHH ?_;delta ej Hi zd cu;refine al (λh=>?_) λh=>?_
 .have h:X1.length<(X1++X2).length:=by have:=cP h;omega
  cases X2 with
  |nil=>simp at h
  |cons x X2=>
   cases Y2 with
   |nil=>simp at Me;omega
   |cons y Y2=>
    subst hl;simp at Me hn;have hb:wI (((U++(X1++x::X2)++V).length:Int)+(X1.length:Int))=(((U++Y1++x::(X2++V++X1)).length:Nat):Int):=by rw[cb ?_ ?_]<;>(try simp)<;>omega
    have ha:wI ((U.length:Int)+(X1.length:Int))=(((U++Y1).length:Nat):Int):=by rw[cb ?_ ?_]<;>(try simp)<;>omega
    have e1:∀z:Int,U++Y1++z::X2++V++X1++y::Y2++W=(U++Y1)++z::(X2++V++X1++y::Y2++W):=by intro z;simp
    have e2:∀z u:Int,(U++Y1)++z::(X2++V++X1++u::Y2++W)=(U++Y1++z::(X2++V++X1))++u::(Y2++W):=by intro z u;simp
    have bB:∀z:Int,(U++Y1++z::(X2++V++X1)).length=(U++Y1++x::(X2++V++X1)).length:=by intro z;simp
    have eV:(U++Y1++x::X2++V++X1++y::Y2++W).length=(U++Y1++x::(X2++V++X1)).length+1+(Y2++W).length:=by simp;omega
    have hla:(U++Y1).length<(U++Y1++x::(X2++V++X1)).length:=by simp only[cj,dJ];omega
    have p1:iJ (bc (U++Y1++x::X2++V++X1++y::Y2++W)) ((U++Y1).length*1) [J y]=bc ((U++Y1)++y::(X2++V++X1++y::Y2++W)):=by rw[e1];exact Gm y rfl
    have p2:iJ (bc ((U++Y1)++y::(X2++V++X1++y::Y2++W))) ((U++Y1++x::(X2++V++X1)).length*1) [J x]=bc ((U++Y1++y::(X2++V++X1))++x::(Y2++W)):=by rw[e2];exact Gm x (bB y).symm
    refine⟨(U++Y1++x::(X2++V++X1)).length,hb,by omega,y,by rw[e1,e2];exact uV rfl,(U++Y1).length,ha,by omega,x,by rw[e1];exact uV rfl,(U++Y1).length,ha,by omega,by rw[xE];omega,(U++Y1++x::(X2++V++X1)).length,hb,by omega,?_,?_⟩
    .rw[p1,xE];simp;omega
    .rw[p1,p2];have hw:wI ((X1.length:Int)+1)=((X1.length+1:Nat):Int):=pk (kr _) (by omega);rw[hw];have:=ih (X1++[x],X2,Y1++[y],Y2,(U++Y1++y::(X2++V++X1))++x::(Y2++W)) ⟨by simp,by simp,by simp[h3],by simp⟩ (by simp);simp only[cj,dJ,gH,lx]at this⊢;have el:U.length+Y1.length+(X2.length+V.length+X1.length+1)+(Y2.length+W.length+1)=U.length+Y1.length+(X2.length+1)+V.length+X1.length+(Y2.length+1)+W.length:=by omega
     rw[el]at this;exact this
 .have h:¬X1.length<(X1++X2).length:=by have:=c9 h;omega
  have e1:X2=[]:=by rw[<-uM];simp only[cj]at h;omega
  subst e1;have e2:Y2=[]:=by rw[<-uM];simp at Me;omega
  subst e2;subst hl;simp;exact aA
theorem abA:aF Z UE:=by refine bY abz ?_;rintro⟨sp,U,X,V,Y,W⟩ args H ⟨rfl,rfl,hn,Me⟩;refine eE 38 abz aHG ?_;exact aHF hn Me ([],X,[],Y,U++X++V++Y++W) ⟨rfl,rfl,rfl,by simp⟩
def roX:bT (List (Int×fq)×LI×LI×LI×LI)where
 aI w A H:=A=[.ad 0 (w.2.1++w.2.2.1++w.2.2.2.1++w.2.2.2.2).length 1,J (w.2.1.length:Int),J ((w.2.1++w.2.2.1).length:Int),J ((w.2.1++w.2.2.1++w.2.2.2.1).length:Int),cF]/\H=hS w.1 (w.2.1++w.2.2.1++w.2.2.2.1++w.2.2.2.2)/\(w.2.1++w.2.2.1++w.2.2.2.1++w.2.2.2.2).length<1200000/\0<w.2.2.1.length/\0<w.2.2.2.1.length
 v w:=.aL []
 aD w:=hS w.1 (w.2.1++w.2.2.2.1++w.2.2.1++w.2.2.2.2)
theorem aF8:roX.bM:=by
 rintro⟨sp,U,X,Y,W⟩ ⟨Eb,U',X',Y',W'⟩ A H ⟨h1,h2,_⟩ ⟨k1,k2,_⟩;obtain⟨rfl,e⟩:=Iw (h2.symm.trans k2);rw[h1]at k1;simp only[fG,AV.bD.injEq,AV.ad.injEq,true_and,and_true]at k1 e;have e1:U.length=U'.length:=by omega
 have e2:(U++X).length=(U'++X').length:=by omega
 have e3:(U++X++Y).length=(U'++X'++Y').length:=by omega
 obtain⟨e4,rfl⟩:=lO e e3;obtain⟨e5,rfl⟩:=lO e4 e2;obtain⟨rfl,rfl⟩:=lO e5 e1;rfl
def R22:Ev.aX:=bx 183 (bE roX aF8 bU) UE
abbrev aus x0 x1 x2 x3:=aJ [(0,.ad 0 x0 1),(2,J x1),(4,.cw (.func 123) [] [.aa 1 0]),(10,J x2),(11,J x3)]
abbrev WE x0 x1:=aE [(0,bG x0 2),(1,.ah [.aS 2] 193),(2,jF x1)] 3
theorem aHm{sp l a m b L Q}:
 eG UE (OB 4) L Q 183 [ej 0 l,J a,J m,J b,cF] (hS sp l)=L (aus l.length m (wI (m-a)) (wI (b-m))) (WE l sp) (aB Z 183 0):=by kernel_rfl
abbrev aan(h0:List (Int×fq)×LI×LI×LI×LI×LI) h1 h2:=h0.2.1++h1++h0.2.2.2.1++h2++h0.2.2.2.2.2
abbrev aaF(h0:List (Int×fq)×LI×LI×LI×LI×LI):=aan h0 h0.2.2.1 h0.2.2.2.2.1
abbrev aiB h0(h1:Int)(h2:Int) h3 h4 h5(h6:(List (Int×fq)×LI×LI×LI×LI×LI)->Prop):=∃b0:List (Int×fq)×LI×LI×LI×LI×LI,(([ej 0 h0,J (wI (h1-h2)),J h3,J h4,oJ 123 1]:LV)=[.ad 0 (aaF b0).length 1,ui b0.2.1.length,ui (b0.2.1++b0.2.2.1++b0.2.2.2.1).length,ui b0.2.2.1.length,oJ 123 1]/\WE h0 h5=hS b0.1 (aaF b0)/\(aaF b0).length<1200000/\b0.2.2.1.length=b0.2.2.2.2.1.length)/\h6 b0
abbrev aiv(h0:LI) h1 h2 h3 h4 h5(h6:LT) h7 h8:=aiB h0 h1 h2 h3 h4 h5 (λb0=>h6 (aus h0.length h1 h7 h8) (WE (aan b0 b0.2.2.2.2.1 b0.2.2.1) b0.1) (aB Z 183 0))
theorem aHn{sp l m i j L Q}:
 ju UE (λ_=>OB 4) L Q 183 3 (To l 2 m 4 cF 10 i 11 j) (hS sp l)=aZ (i !=j) (aZ (decide (i>j)) (aiv l m i m j sp L (wI (i-j)) j) (aiv l m i (wI (wI (m+j)-i)) i sp L i (wI (j-i)))) (aiB l m i m i sp (λw=>Q (.aL []) (WE (aan w w.2.2.2.2.1 w.2.2.1) w.1))):=by kernel_rfl
theorem ab4{l:LI}{n}(h:n<=l.length):∃a b,l=a++b/\a.length=n:=⟨l.take n,l.drop n,(uK n l).symm,by simp;omega⟩
theorem aHl{sp aC m len}(bB:len<1200000):
 ∀k:LI×LI×LI×LI×LI,(k.2.2.2.2=k.1++k.2.1++k.2.2.1++k.2.2.2.1/\k.1++k.2.2.1++k.2.1++k.2.2.2.1=aC/\(k.1++k.2.1).length=m/\0<k.2.1.length/\0<k.2.2.1.length/\k.2.2.2.2.length=len)->
 ba Z 183 58 3 (.aL []) (hS sp aC) (aJ [(0,.ad 0 len 1),(2,J (m:Int)),(4,cF),(10,J (k.2.1.length:Int)),(11,J (k.2.2.1.length:Int))]) (hS sp k.2.2.2.2) (aB Z 183 0):=by
 refine dj (λk=>k.2.1.length+k.2.2.1.length) _ _ _ _ ?_;rintro⟨U,X,Y,W,l⟩ ⟨hl,hf,hm,hX,hY,eV⟩ ih;simp only at hl hf hm hX hY eV ih⊢;have hn:U.length+X.length+Y.length+W.length=len:=by rw[<-eV,hl];simp only[cj]
 simp only[cj]at hm;rw[<-eV];refine hE abA aHn ?_;delta ej aiv aiB aaF aan;have ha:wI ((m:Int)-(X.length:Int))=(U.length:Int):=by rw[cb]<;>omega
 refine al (λh=>al (λh2=>?_) λh2=>?_) λh=>?_
 .have h2:Y.length<X.length:=by have:=cP h2;omega
  obtain⟨Xa,Xb,rfl,hXa⟩:=ab4 (l:=X) (n:=Y.length) (by omega);simp only[cj]at hm hX hn h2 ha;have hi:wI (((Xa++Xb).length:Int)-(Y.length:Int))=(Xb.length:Int):=by rw[cb ?_ ?_]<;>(try simp only[cj])<;>omega
  refine⟨(sp,U,Xa,Xb,Y,W),⟨?_,?_,?_,hXa⟩,?_⟩
  .simp only[cj]at ha⊢;rw[ha,hl];simp only[cj,hXa];congr 1
   .congr 1;omega
   .congr 2;congr 2;omega
  .have e:l=U++Xa++Xb++Y++W:=by rw[hl];simp
   simp only;rw[<-e];rfl
  .simp only[cj];omega
  .rw[hi];have:=ih (U++Y,Xb,Xa,W,U++Y++Xb++Xa++W) ⟨rfl,by rw[<-hf];simp,by simp only[cj];omega,by simp only;omega,by simp only;omega,by simp only[cj];omega⟩ (by simp only[cj];omega);simp only[hXa]at this;rw[eV];exact this
 .have h2:¬Y.length<X.length:=by have:=c9 h2;omega
  have h:X.length≠Y.length:=by intro he;rw[he]at h;simp at h
  obtain⟨Ya,Yb,rfl,hYa⟩:=ab4 (l:=Y) (n:=Y.length-X.length) (by omega);simp only[cj]at hm hY hn h2 h hYa;have hi:wI (((Ya++Yb).length:Int)-(X.length:Int))=(Ya.length:Int):=by rw[cb ?_ ?_]<;>(try simp only[cj])<;>omega
  have hb:wI (wI ((m:Int)+((Ya++Yb).length:Int))-(X.length:Int))=(((U++X++Ya).length:Nat):Int):=by rw[cb (x:=(m:Int)+((Ya++Yb).length:Int)) ?_ ?_,cb ?_ ?_]<;>(try simp only[cj])<;>omega
  refine⟨(sp,U,X,Ya,Yb,W),⟨?_,?_,?_,?_⟩,?_⟩
  .rw[ha,hb,hl];simp only[jE]
  .have e:l=U++X++Ya++Yb++W:=by rw[hl];simp
   simp only;rw[<-e];rfl
  .simp only[cj];omega
  .simp only;omega
  .rw[hi];have:=ih (U,Yb,Ya,X++W,U++Yb++Ya++X++W) ⟨by simp,by rw[<-hf];simp,by simp only[cj];omega,by simp only;omega,by simp only;omega,by simp;omega⟩ (by simp;omega);have e:X.length=Yb.length:=by omega
   rw[eV,e];exact this
 .have h:X.length=Y.length:=by
   have h:(X.length:Int)=(Y.length:Int):=by simpa using h
   omega
  refine⟨(sp,U,X,[],Y,W),⟨?_,?_,?_,h⟩,?_⟩
  .rw[ha,hl];simp;congr 3;congr 1;omega
  .have e:l=U++X++[]++Y++W:=by rw[hl];simp
   rw[<-e];rfl
  .simp;omega
  .simp only[jt];rw[hf];exact aA
theorem aka:aF Z R22:=by
 refine bY abA ?_;rintro⟨sp,U,X,Y,W⟩ args H ⟨rfl,rfl,hn,hX,hY⟩;have hn:=hn;refine eE 58 abA aHm ?_;have h1:wI (((U++X).length:Int)-(U.length:Int))=(X.length:Int):=by simp at hn⊢;rw[cb]<;>omega
 have h2:wI (((U++X++Y).length:Int)-((U++X).length:Int))=(Y.length:Int):=by simp at hn⊢;rw[cb]<;>omega
 rw[h1,h2];exact aHl hn (U,X,Y,W,U++X++Y++W) ⟨rfl,rfl,rfl,hX,hY,rfl⟩
end
end Go.Cl
namespace Go.Cl
open Go.Ev
noncomputable section
theorem EZ{key l}(h:fV key l){i j}(QV:i<=j)(hj:j<l.length):key (l.getD j 0)<=key (l.getD i 0):=by
 have hi:i<l.length:=by omega
 simp only[List.getD,gg hj,gg hi,Y0];rcases Nat.eq_or_lt_of_le QV with rfl|ae
 .exact Gp _
 .exact List.pairwise_iff_getElem.1 h i j hi hj ae
theorem Wi{A B:LI}{i}(h:i<A.length):(A++B).getD i 0=A.getD i 0:=by simp[List.getD,List.getElem?_append_left h]
theorem Wj{A B:LI}{i}:(A++B).getD (A.length+i) 0=B.getD i 0:=by simp;rw[Se (by omega)];congr 2;omega
theorem F'{l:LI}{x}(h:x∈l):∃i,i<l.length/\x=l.getD i 0:=by obtain⟨i,hi,rfl⟩:=List.mem_iff_getElem.1 h;exact⟨i,hi,by simp[List.getD,gg hi]⟩
theorem Vy{key A B}(h:fV key (A++B)):fV key A/\fV key B:=⟨(Ac.1 h).1,(Ac.1 h).2.1⟩
theorem aEs{key X Y}(hX:fV key X)(hY:fV key Y){i j}(hi:i<=X.length)(hj:j<=Y.length)(nU:i=0\/j=Y.length\/¬key (X.getD (i-1) 0)<key (Y.getD j 0))(ru:i=X.length\/j=0\/key (X.getD i 0)<key (Y.getD (j-1) 0)):
 ∃A B C D,X=A++B/\Y=C++D/\A.length=i/\C.length=j/\c_ key (X++Y)=c_ key (A++C)++c_ key (B++D)/\fV key A/\fV key B/\fV key C/\fV key D:=by
 refine⟨X.take i,X.drop i,Y.take j,Y.drop j,(uK i X).symm,(uK j Y).symm,by simp;omega,by simp;omega,?_⟩;have eX:=uK i X;have eY:=uK j Y;have hX':fV key (X.take i++X.drop i):=by rw[eX];exact hX
 have hY':fV key (Y.take j++Y.drop j):=by rw[eY];exact hY
 refine⟨?_,(Vy hX').1,(Vy hX').2,(Vy hY').1,(Vy hY').2⟩;have:=aMM hX' hY' ?_ ?_
 .rw[eX,eY]at this;exact this
 .intro x hx y hy;obtain⟨a,ha,rfl⟩:=F' hx;obtain⟨b,hb,rfl⟩:=F' hy;simp at ha;simp at hb;have e1:(X.drop i).getD a 0=X.getD (i+a) 0:=by simp[List.getD]
  have e2:(Y.take j).getD b 0=Y.getD b 0:=by simp only[List.getD,Jq,aP (show b<j by omega)]
  rw[e1,e2];rcases ru with h|h|h
  .omega
  .omega
  .have h1:=EZ hX (i:=i) (j:=i+a) (by omega) (by omega);have h2:=EZ hY (i:=b) (j:=j-1) (by omega) (by omega);omega
 .intro x hx y hy;obtain⟨a,ha,rfl⟩:=F' hx;obtain⟨b,hb,rfl⟩:=F' hy;simp at ha;simp at hb;have e1:(X.take i).getD a 0=X.getD a 0:=by simp only[List.getD,Jq,aP (show a<i by omega)]
  have e2:(Y.drop j).getD b 0=Y.getD (j+b) 0:=by simp[List.getD]
  rw[e1,e2];rcases nU with h|h|h
  .omega
  .omega
  .have h1:=EZ hX (i:=a) (j:=i-1) (by omega) (by omega);have h2:=EZ hY (i:=j) (j:=j+b) (by omega) (by omega);omega
theorem azl{key x Y}(hY:fV key Y){j}(hj:j<=Y.length)(nU:j=0\/key x<key (Y.getD (j-1) 0))(ru:j=Y.length\/¬key x<key (Y.getD j 0)):
 ∃P R,Y=P++R/\P.length=j/\c_ key (x::Y)=P++x::R:=by
 have eY:=uK j Y;refine⟨Y.take j,Y.drop j,eY.symm,by simp;omega,?_⟩;have:=aML (x:=x) (by rw[eY];exact hY) ?_ ?_
 .rw[eY]at this;exact this
 .intro y hy;obtain⟨b,hb,rfl⟩:=F' hy;simp at hb;have e2:(Y.take j).getD b 0=Y.getD b 0:=by simp only[List.getD,Jq,aP (show b<j by omega)]
  rw[e2];rcases nU with h|h
  .omega
  .have h2:=EZ hY (i:=b) (j:=j-1) (by omega) (by omega);omega
 .intro y hy;obtain⟨b,hb,rfl⟩:=F' hy;simp at hb;have e2:(Y.drop j).getD b 0=Y.getD (j+b) 0:=by simp[List.getD]
  rw[e2];rcases ru with h|h
  .omega
  .have h2:=EZ hY (i:=j) (j:=j+b) (by omega) (by omega);omega
theorem azm{key y X}(hX:fV key X){i}(hi:i<=X.length)(nU:i=0\/¬key (X.getD (i-1) 0)<key y)(ru:i=X.length\/key (X.getD i 0)<key y):
 ∃P R,X=P++R/\P.length=i/\c_ key (X++[y])=P++y::R:=by
 have eX:=uK i X;refine⟨X.take i,X.drop i,eX.symm,by simp;omega,?_⟩;refine auh (by rw[SG hX,eX]) ?_ ?_
 .intro x hx;obtain⟨a,ha,rfl⟩:=F' hx;simp at ha;have e1:(X.drop i).getD a 0=X.getD (i+a) 0:=by simp[List.getD]
  rw[e1];rcases ru with h|h
  .omega
  .have h1:=EZ hX (i:=i) (j:=i+a) (by omega) (by omega);omega
 .intro x hx;obtain⟨a,ha,rfl⟩:=F' hx;simp at ha;have e1:(X.take i).getD a 0=X.getD a 0:=by simp only[List.getD,Jq,aP (show a<i by omega)]
  rw[e1];rcases nU with h|h
  .omega
  .have h1:=EZ hX (i:=a) (j:=i-1) (by omega) (by omega);omega
end
end Go.Cl
namespace Go.Cl
open Go.Ev Go.Proofs
noncomputable section
def SK(N:Nat):bT (List (Int×fq)×LI×LI×LI×LI)where
 aI w A H:=A=[.ad 0 (w.2.1++w.2.2.1++w.2.2.2.1++w.2.2.2.2).length 1,J (w.2.1.length:Int),J ((w.2.1++w.2.2.1).length:Int),J ((w.2.1++w.2.2.1++w.2.2.2.1).length:Int),cF]/\H=hS w.1 (w.2.1++w.2.2.1++w.2.2.2.1++w.2.2.2.2)/\(w.2.1++w.2.2.1++w.2.2.2.1++w.2.2.2.2).length<1200000/\0<w.2.2.1.length/\0<w.2.2.2.1.length/\
  fV (kS w.1) w.2.2.1/\fV (kS w.1) w.2.2.2.1/\w.2.2.1.length+w.2.2.2.1.length<N
 v w:=.aL []
 aD w:=hS w.1 (w.2.1++c_ (kS w.1) (w.2.2.1++w.2.2.2.1)++w.2.2.2.2)
theorem aNa(N):(SK N).bM:=by
 rintro⟨sp,U,X,Y,W⟩ ⟨Eb,U',X',Y',W'⟩ A H ⟨h1,h2,_⟩ ⟨k1,k2,_⟩;obtain⟨rfl,e⟩:=Iw (h2.symm.trans k2);rw[h1]at k1;simp only[fG,AV.bD.injEq,AV.ad.injEq,true_and,and_true]at k1 e;have e1:U.length=U'.length:=by omega
 have e2:(U++X).length=(U'++X').length:=by omega
 have e3:(U++X++Y).length=(U'++X'++Y').length:=by omega
 obtain⟨e4,rfl⟩:=lO e e3;obtain⟨e5,rfl⟩:=lO e4 e2;obtain⟨rfl,rfl⟩:=lO e5 e1;rfl
def CJ(N:Nat):Ev.aX:=bx 171 (bE (SK N) (aNa N) bU) R22
def ae9:Nat->LN:=dY [(3,[0,1,4,10,11]),(9,[0,10,13]),(15,[0,2,4,14,15]),(21,[0,14,17]),(33,[0,1,2,3,4,18,19,20,21,22])]
abbrev ag1 x0 x1 x2 x3:=aJ [(0,.ad 0 x0 1),(1,J x1),(4,.cw (.func 123) [] [.aa 1 0]),(10,J x2),(11,J x3)]
abbrev ag2 x0 x1 x2 x3:=aJ [(0,.ad 0 x0 1),(2,J x1),(4,.cw (.func 123) [] [.aa 1 0]),(14,J x2),(15,J x3)]
abbrev ag3 x0 x1 x2 x3 x4 x5 x6 x7 x8:=aJ [(0,.ad 0 x0 1),(1,J x1),(2,J x2),(3,J x3),(4,.cw (.func 123) [] [.aa 1 0]),(18,J x4),(19,J x5),(20,J x6),(21,J x7),(22,J x8)]
abbrev rm x0 x1:=aE [(0,bG x0 2),(1,.ah [.aS 2] 193),(2,jF x1)] 3
abbrev p9(h0:Int)(h1:Int):=wI (Int.fdiv (IntKind.u64.wrap (wI (h0+h1))) 2)
abbrev aii(h0:LI) h1 h2 h3 h4 h5:=ag3 h0.length h1 h2 h3 (p9 h1 h3) (wI (p9 h1 h3+h2)) h4 h5 (wI (wI (p9 h1 h3+h2)-1))
theorem aG3{sp l a m b N L Q}:
 qE Z (CJ N) ae9 L Q 2000 171 [ej 0 l,J a,J m,J b,cF] (hS sp l)=aZ (wI (m-a)==1) (L (ag1 l.length a m b) (rm l sp) (aB Z 171 0)) (aZ (wI (b-m)==1) (L (ag2 l.length m a m) (rm l sp) (aB Z 171 2)) (gT (decide (m>p9 a b)) (L (aii l a m b (wI (wI (p9 a b+m)-b)) (p9 a b)) (rm l sp) (aB Z 171 4)) L (aii l a m b a m) (rm l sp) 171 4)):=by kernel_rfl
abbrev S' h0 h1 h2 h3 h4 h5 h6:=pY Z (CJ h0) ae9 h1 h2 2000 171 3 (aJ h3) (aB Z 171 h4) (hS h5 h6)
abbrev zb h0 h1 h2 h3 h4:=([(0,ej 0 h0),(h1,h2),(h3,J h4)]:List (Nat×AV))
abbrev ah9 h0(h1:LT) h2 h3(h4:List (Int×fq)×Int×Int) h5 h6:=gT h0 (h1 h2 (rm h3 h4.1) (aB Z 171 h5)) h1 h6 (rm h3 h4.1) 171 h5
theorem aGU{sp l a i j N L Q}:
 S' N L Q (To l 1 a 4 cF 10 i 11 j) 0 sp l=gT (decide (i<j)) (Z7 (p9 i j) l a sp (λw=>ah9 (NX w) L (ag1 l.length a (wI (p9 i j+1)) j) l w 0 (ag1 l.length a i (p9 i j)))) L (aJ (zb l 10 (J i) 13 a)) (rm l sp) 171 1:=by kernel_rfl
theorem aGW{sp l i k N L Q}:
 S' N L Q (zb l 10 (J i) 13 k) 1 sp l=Ew (decide (k<wI (i-1))) (Hi (k+1) l k L [(0,ej 0 l),(10,J i),(13,cu k)] sp 171 1) Q (rm l sp):=by kernel_rfl
theorem aGY{sp l m i j N L Q}:
 S' N L Q (To l 2 m 4 cF 14 i 15 j) 2 sp l=gT (decide (i<j)) (Z7 m l (p9 i j) sp (λw=>ah9 (!NX w) L (ag2 l.length m (wI (p9 i j+1)) j) l w 2 (ag2 l.length m i (p9 i j)))) L (aJ (zb l 14 (J i) 17 m)) (rm l sp) 171 3:=by kernel_rfl
theorem aG0{sp l i k N L Q}:
 S' N L Q (zb l 14 (J i) 17 k) 3 sp l=Ew (decide (k>i)) (Hi (k-1) l k L (zb l 14 (J i) 17 (wI (k-1))) sp 171 3) Q (rm l sp):=by kernel_rfl
abbrev awk h0 h1 h2 h3 h4 h5:=0<h0/\fV (kS h1) h2/\fV (kS h1) h3/\h4+h0<h5
abbrev ahE(h0:List (Int×fq)×LI×LI×LI×LI) h1:=awk h0.2.2.2.1.length h0.1 h0.2.2.1 h0.2.2.2.1 h0.2.2.1.length h1
abbrev G_(h0:List (Int×fq)×LI×LI×LI×LI):=h0.2.1++h0.2.2.1++h0.2.2.2.1++h0.2.2.2.2
abbrev Hk h0 h1 h2 h3(h4:(List (Int×fq)×LI×LI×LI×LI)->Prop)(h5:(List (Int×fq)×LI×LI×LI×LI)->Prop)(h6:(List (Int×fq)×LI×LI×LI×LI)->Prop):=∃b0:List (Int×fq)×LI×LI×LI×LI,(([.ad 0 h0 1,J h1,J h2,J h3,oJ 123 1]:LV)=[.ad 0 (G_ b0).length 1,ui b0.2.1.length,ui (b0.2.1++b0.2.2.1).length,ui (b0.2.1++b0.2.2.1++b0.2.2.2.1).length,oJ 123 1]/\h4 b0/\(G_ b0).length<1200000/\0<b0.2.2.1.length/\h5 b0)/\h6 b0
abbrev zz1(h0:Int)(h1:Int)(h2:Int)(h3:LI)(h4:(List (Int×fq)×LI×LI×LI×LI)->Prop)(h5:(List (Int×fq)×LI×LI×LI×LI)->Prop) h6(h7:Int)(h8:Int)(h9:(List (Int×fq)×LI×LI×LI×LI)->(List (Int×fq)×LI×LI×LI×LI)->Prop) dG(eB:(List (Int×fq)×LI×LI×LI×LI)->Prop)(iV:(List (Int×fq)×LI×LI×LI×LI)->Prop)(kc:(List (Int×fq)×LI×LI×LI×LI)->Prop)(jL:Prop):=nG (decide (h0<h1)) (decide (h1<h2)) (Hk h3.length h0 h1 h2 (λb0=>h4 b0) (λb0=>h5 b0) (λb0=>nG (decide (h6<h7)) (decide (h7<h8)) (Hk h3.length h6 h7 h8 (λb1=>h9 b0 b1) (λb1=>ahE b1 dG) (λb1=>eB b1)) (iV b0))) (nG (decide (h6<h7)) (decide (h7<h8)) (Hk h3.length h6 h7 h8 (λb0=>h4 b0) (λb0=>ahE b0 dG) (λb0=>kc b0)) jL)
abbrev aaz h0(h1:Int)(h2:Int) h3(h4:LI) h5 h6(h7:List (Int×fq)×LI×LI×LI×LI) h8(h9:QT):=nG (decide (h0<wI (h1-h2))) (decide (wI (h1-h2)<h3)) (Hk h4.length h0 (wI (h1-h2)) h3 (λb0=>rm (h5++h6++h7.2.2.2.2) h7.1=hS b0.1 (b0.2.1++b0.2.2.1++b0.2.2.2.1++b0.2.2.2.2)) (λb0=>awk b0.2.2.2.1.length b0.1 b0.2.2.1 b0.2.2.2.1 b0.2.2.1.length h8) (λb0=>h9 (.aL []) (rm (b0.2.1++c_ (kS b0.1) (b0.2.2.1++b0.2.2.2.1)++b0.2.2.2.2) b0.1))) (h9 (.aL []) (rm (h5++h6++h7.2.2.2.2) h7.1))
abbrev Te(h0:List (Int×fq)×LI×LI×LI×LI):=c_ (kS h0.1) (h0.2.2.1++h0.2.2.2.1)
theorem aG2{sp l a m b iG n s r p N L Q}:
 S' N L Q [(0,ej 0 l),(1,J a),(2,J m),(3,J b),(4,cF),(18,J iG),(19,J n),(20,J s),(21,J r),(22,J p)] 4 sp l=aZ (decide (s<r)) (Z7 (wI (p-p9 s r)) l (p9 s r) sp (λw=>ah9 (!NX w) L (ag3 l.length a m b iG n (wI (p9 s r+1)) r p) l w 4 (ag3 l.length a m b iG n s (p9 s r) p))) (zz1 s m (wI (n-s)) l (λw=>rm l sp=hS w.1 (G_ w)) (λw=>0<w.2.2.2.1.length) a s iG (λw=>λaH=>rm (w.2.1++w.2.2.2.1++w.2.2.1++w.2.2.2.2) w.1=hS aH.1 (G_ aH)) N (λaH=>aaz iG n s b l aH.2.1 (Te aH) aH N Q) (λw=>aaz iG n s b l (w.2.1++w.2.2.2.1) w.2.2.1 w N Q) (λw=>aaz iG n s b l w.2.1 (Te w) w N Q) (nG (decide (iG<wI (n-s))) (decide (wI (n-s)<b)) (Hk l.length iG (wI (n-s)) b (λw=>rm l sp=hS w.1 (G_ w)) (λw=>ahE w N) (λw=>Q (.aL []) (rm (w.2.1++Te w++w.2.2.2.2) w.1))) (Q (.aL []) (rm l sp)))):=by kernel_rfl
theorem WT{i j:Nat}(h:i+j<20000000):wI (Int.fdiv (IntKind.u64.wrap (wI ((i:Int)+(j:Int)))) 2)=(((i+j)/ 2:Nat):Int):=by
 rw[cb (x:=(i:Int)+(j:Int))];have hu:IntKind.u64.wrap ((i:Int)+(j:Int))=(i:Int)+(j:Int):=IntWalk.u64_in _ (by omega);rw[hu];have e:Int.fdiv ((i:Int)+(j:Int)) 2=(((i+j)/ 2:Nat):Int):=by rw[Int.fdiv_eq_ediv_of_nonneg _ (by omega)];omega
 rw[e,cb]<;>omega
section
variable{sp:List (Int×fq)}{N:Nat}
theorem aGX(qj:aF Z (CJ N)){aC U P R W x len}(hf:aC=U++P++x::(R++W))(bB:aC.length=len)(hl:len<1200000):
 ∀k:LI×LI×LI,(k.1++k.2.1=P/\k.2.2=U++k.1++x::(k.2.1++(R++W)))->
 ba Z 171 220 3 (.aL []) (hS sp aC) (aJ [(0,.ad 0 len 1),(10,J ((U.length+1+P.length:Nat):Int)),(13,J ((U++k.1).length:Int))]) (hS sp k.2.2) (aB Z 171 1):=by
 refine dj (λk=>k.2.1.length) _ _ _ _ ?_;rintro⟨P1,P2,l⟩ ⟨hP,gM⟩ ih;simp only at hP gM ih⊢;subst hP;have eV:l.length=len:=by rw[gM,<-bB,hf];simp;omega
 have uz:U.length+P1.length+P2.length+1+R.length+W.length=len:=by rw[<-eV,gM];simp;omega
 rw[<-eV];refine hE qj aGW ?_;delta ej Hi zd cu;have hw:wI (((U.length+1+(P1++P2).length:Nat):Int)-1)=((U.length+(P1++P2).length:Nat):Int):=by simp;rw[cb]<;>omega
 rw[hw];have hk:wI (((U++P1).length:Int)+1)=(((U++P1).length+1:Nat):Int):=pk (kr _) (by simp;omega);refine al (λh=>?_) λh=>?_
 .have h:=cP h;simp at h;cases P2 with
  |nil=>simp only[gH]at h;omega
  |cons y P2=>
   simp at uz;subst gM;have e1:U++P1++x::(y::P2++(R++W))=(U++P1++[x])++y::(P2++(R++W)):=by simp
   have e2:(U++P1)++y::(y::P2++(R++W))=(U++P1++[y])++y::(P2++(R++W)):=by simp
   have p1:iJ (bc (U++P1++x::(y::P2++(R++W)))) ((U++P1).length*1) [J y]=bc ((U++P1)++y::(y::P2++(R++W))):=Gm y rfl;have p2:iJ (bc ((U++P1)++y::(y::P2++(R++W)))) (((U++P1).length+1)*1) [J x]=bc ((U++P1++[y])++x::(P2++(R++W))):=by rw[e2];exact Gm x (by simp only[cj,dJ,gH])
   refine⟨(U++P1).length+1,hk,by simp at eV⊢;omega,y,by rw[e1];exact uV (by simp only[cj,dJ,gH]),(U++P1).length,rfl,by simp only[cj]at eV⊢;omega,x,uV rfl,(U++P1).length,rfl,by simp only[cj]at eV⊢;omega,by rw[xE];simp at eV⊢;omega,(U++P1).length+1,hk,by simp at eV⊢;omega,?_,?_⟩
   .rw[p1,xE];simp at eV⊢;omega
   .rw[p1,p2,hk];have:=ih (P1++[y],P2,(U++P1++[y])++x::(P2++(R++W))) ⟨by simp,by simp⟩ (by simp);have e:(U++(P1++[y])).length=(U++P1).length+1:=by simp;omega
    rw[e]at this;rw[eV];exact this
 .have h:=c9 h;simp at h;have hP:P2=[]:=by rw[<-uM];omega
  subst hP;have:l=aC:=by rw[gM,hf];simp
  rw[this];exact aA
theorem aG1(qj:aF Z (CJ N)){aC U P R W y len}(hf:aC=U++P++y::(R++W))(bB:aC.length=len)(hl:len<1200000):
 ∀k:LI×LI×LI,(k.1++k.2.1=R/\k.2.2=U++P++k.1++y::(k.2.1++W))->
 ba Z 171 220 3 (.aL []) (hS sp aC) (aJ [(0,.ad 0 len 1),(14,J ((U++P).length:Int)),(17,J ((U++P++k.1).length:Int))]) (hS sp k.2.2) (aB Z 171 3):=by
 refine dj (λk=>k.1.length) _ _ _ _ ?_;rintro⟨R1,R2,l⟩ ⟨hR,gM⟩ ih;simp only at hR gM ih⊢;subst hR;have eV:l.length=len:=by rw[gM,<-bB,hf];simp;omega
 have uz:U.length+P.length+R1.length+R2.length+1+W.length=len:=by rw[<-eV,gM];simp;omega
 rw[<-eV];refine hE qj aG0 ?_;delta zb ej Hi zd;refine al (λh=>?_) λh=>?_
 .have h:=cP h;simp at h;have hp:R1≠[]:=by rintro rfl;simp only[gH]at h;omega
  obtain⟨R1,z,rfl⟩:∃p' y,R1=p'++[y]:=⟨R1.dropLast,R1.getLast hp,(List.dropLast_concat_getLast hp).symm⟩;subst gM;simp at uz;have hk:wI (((U++P++(R1++[z])).length:Int)-1)=(((U++P++R1).length:Nat):Int):=by simp;rw[cb]<;>omega
  have e1:U++P++(R1++[z])++y::(R2++W)=(U++P++R1)++z::(y::(R2++W)):=by simp
  have p1:iJ (bc (U++P++(R1++[z])++y::(R2++W))) ((U++P++(R1++[z])).length*1) [J z]=bc ((U++P++R1)++z::(z::(R2++W))):=by rw[Gm z rfl];simp
  have p2:iJ (bc ((U++P++R1)++z::(z::(R2++W)))) ((U++P++R1).length*1) [J y]=bc ((U++P++R1)++y::(z::(R2++W))):=Gm y rfl;have ao2:(U++P++R1).length<(U++P++(R1++[z])++y::(R2++W)).length:=by simp only[cj,dJ];omega
  have sx:(U++P++(R1++[z])).length<(U++P++(R1++[z])++y::(R2++W)).length:=by simp only[cj,dJ];omega
  refine⟨(U++P++R1).length,hk,ao2,z,by rw[e1];exact uV rfl,(U++P++(R1++[z])).length,rfl,sx,y,uV rfl,(U++P++(R1++[z])).length,rfl,sx,by rw[xE];omega,(U++P++R1).length,hk,ao2,?_,?_⟩
  .rw[p1,xE];simp;omega
  .rw[p1,p2,hk];have:=ih (R1,z::R2,(U++P++R1)++y::(z::(R2++W))) ⟨by simp,by simp⟩ (by simp);rw[eV];exact this
 .have h:=c9 h;simp at h;have hP:R1=[]:=by rw[<-uM];omega
  subst hP;have:l=aC:=by rw[gM,hf];simp
  rw[this];exact aA
theorem aGV(qj:aF Z (CJ N)){U Y W x}(hl:(U++[x]++Y++W).length<1200000)(hY:fV (kS sp) Y):
 ∀k:Nat×Nat,(k.1<=k.2/\k.2<=Y.length/\(k.1=0\/kS sp x<kS sp (Y.getD (k.1-1) 0))/\(k.2=Y.length\/¬kS sp x<kS sp (Y.getD k.2 0)))->
 ba Z 171 220 3 (.aL []) (hS sp (U++c_ (kS sp) (x::Y)++W)) (aJ [(0,.ad 0 (U++[x]++Y++W).length 1),(1,J (U.length:Int)),(4,cF),(10,J ((U.length+1+k.1:Nat):Int)),(11,J ((U.length+1+k.2:Nat):Int))]) (hS sp (U++[x]++Y++W)) (aB Z 171 0):=by
 refine dj (λk=>k.2-k.1) _ _ _ _ ?_;rintro⟨i,j⟩ ⟨QV,hj,nU,ru⟩ ih;have eV:(U++[x]++Y++W).length=U.length+1+Y.length+W.length:=by simp only[cj,dJ,gH]
 refine hE qj aGU ?_;delta p9;rw[WT (by omega)];refine al (λh=>?_) λh=>?_
 .have h:=cP h;have hc:(U.length+1+i+(U.length+1+j))/ 2=U.length+1+(i+j)/ 2:=by omega
  rw[hc];have hg:(U++[x]++Y++W).getD (U.length+1+(i+j)/ 2) 0=Y.getD ((i+j)/ 2) 0:=by
   have e:U++[x]++Y++W=(U++[x])++(Y++W):=by simp
   have e2:U.length+1+(i+j)/ 2=(U++[x]).length+(i+j)/ 2:=by simp
   rw[e,e2,Wj,Wi (by omega)]
  have hr:=S0 (l:=U++[x]++Y++W) (i:=U.length+1+(i+j)/ 2) (by omega);rw[hg]at hr;have hw:wI (((U.length+1+(i+j)/ 2:Nat):Int)+1)=((U.length+1+((i+j)/ 2+1):Nat):Int):=by rw[cb]<;>omega
  refine⟨U.length+1+(i+j)/ 2,rfl,by omega,_,hr,U.length,rfl,by omega,x,?_,(sp,Y.getD ((i+j)/ 2) 0,x),aA,al (λhk=>?_) λhk=>?_⟩
  .have e:U++[x]++Y++W=U++x::(Y++W):=by simp
   rw[e];exact uV rfl
  .have hk:=EU.1 (cP hk);rw[hw];exact ih ((i+j)/ 2+1,j) ⟨by simp only;omega,hj,.inr (by simpa using hk),ru⟩ (by simp only;omega)
  .have hk:=λhh=>c9 hk (EU.2 hh)
   exact ih (i,(i+j)/ 2) ⟨by simp only;omega,by simp only;omega,nU,.inr hk⟩ (by simp only;omega)
 .have h:=c9 h;have hj:i=j:=by omega
  subst hj;obtain⟨P,R,rfl,hP,hs⟩:=azl hY hj nU ru;have:=aGX (sp:=sp) qj (aC:=U++c_ (kS sp) (x::(P++R))++W) (U:=U) (P:=P) (R:=R) (W:=W) (x:=x) (by rw[hs];simp) (by simp[sO];omega) hl ([],P,U++[x]++(P++R)++W) ⟨rfl,by simp⟩;simp only[jt,hP]at this;exact this
theorem aGZ(qj:aF Z (CJ N)){U X W y}(hl:(U++X++[y]++W).length<1200000)(hX:fV (kS sp) X):
 ∀k:Nat×Nat,(k.1<=k.2/\k.2<=X.length/\(k.1=0\/¬kS sp (X.getD (k.1-1) 0)<kS sp y)/\(k.2=X.length\/kS sp (X.getD k.2 0)<kS sp y))->
 ba Z 171 220 3 (.aL []) (hS sp (U++c_ (kS sp) (X++[y])++W)) (aJ [(0,.ad 0 (U++X++[y]++W).length 1),(2,J ((U++X).length:Int)),(4,cF),(14,J ((U.length+k.1:Nat):Int)),(15,J ((U.length+k.2:Nat):Int))]) (hS sp (U++X++[y]++W)) (aB Z 171 2):=by
 refine dj (λk=>k.2-k.1) _ _ _ _ ?_;rintro⟨i,j⟩ ⟨QV,hj,nU,ru⟩ ih;have eV:(U++X++[y]++W).length=U.length+X.length+1+W.length:=by simp only[cj,dJ,gH]
 refine hE qj aGY ?_;delta p9 NX;rw[WT (by omega)];refine al (λh=>?_) λh=>?_
 .have h:=cP h;have hc:(U.length+i+(U.length+j))/ 2=U.length+(i+j)/ 2:=by omega
  rw[hc];have hg:(U++X++[y]++W).getD (U.length+(i+j)/ 2) 0=X.getD ((i+j)/ 2) 0:=by
   have e:U++X++[y]++W=U++(X++([y]++W)):=by simp
   rw[e,Wj,Wi (by omega)]
  have hr:=S0 (l:=U++X++[y]++W) (i:=U.length+(i+j)/ 2) (by omega);rw[hg]at hr;have hw:wI (((U.length+(i+j)/ 2:Nat):Int)+1)=((U.length+((i+j)/ 2+1):Nat):Int):=by rw[cb]<;>omega
  refine⟨(U++X).length,rfl,by simp only[cj]at eV⊢;omega,y,?_,U.length+(i+j)/ 2,rfl,by omega,_,hr,(sp,y,X.getD ((i+j)/ 2) 0),aA,al (λhk=>?_) λhk=>?_⟩
  .have e:U++X++[y]++W=(U++X)++y::W:=by simp
   rw[e];exact uV rfl
  .have hk:¬kS sp (X.getD ((i+j)/ 2) 0)<kS sp y:=λhh=>by have:=decide_eq_true (EU.2 hh);rw[this]at hk;cases hk
   rw[hw];exact ih ((i+j)/ 2+1,j) ⟨by simp only;omega,hj,.inr (by simpa using hk),ru⟩ (by simp only;omega)
  .have hk:kS sp (X.getD ((i+j)/ 2) 0)<kS sp y:=by refine EU.1 (cP ?_);simpa using hk
   exact ih (i,(i+j)/ 2) ⟨by simp only;omega,by simp only;omega,nU,.inr hk⟩ (by simp only;omega)
 .have h:=c9 h;have hj:i=j:=by omega
  subst hj;obtain⟨P,R,rfl,hP,hs⟩:=azm hX hj nU ru;have:=aG1 (sp:=sp) qj (aC:=U++c_ (kS sp) (P++R++[y])++W) (U:=U) (P:=P) (R:=R) (W:=W) (y:=y) (by rw[hs];simp) (by simp[sO];omega) hl (R,[],U++(P++R)++[y]++W) ⟨by simp,by simp⟩;simp only[jE]at this;have e:(U++P).length=U.length+i:=by simp[hP]
  rw[e]at this;simp only[jE];exact this
def ND(N:Nat)(Q:AV->AH->Prop)(len:Nat)(iG e b:Int)(sp:List (Int×fq))(l:LI):Prop:=
 aZ (decide (iG<e)) (aZ (decide (e<b)) (∃w,(SK N).aI w [.ad 0 len 1,J iG,J e,J b,cF] (hS sp l)/\Q (.aL []) ((SK N).aD w)) (Q (.aL []) (hS sp l))) (Q (.aL []) (hS sp l))
def NC(N:Nat)(Q:AV->AH->Prop)(len:Nat)(a s iG e b:Int)(sp:List (Int×fq))(l:LI):Prop:=
 aZ (decide (a<s)) (aZ (decide (s<iG)) (∃w,(SK N).aI w [.ad 0 len 1,J a,J s,J iG,cF] (hS sp l)/\ND N Q len iG e b w.1 (w.2.1++c_ (kS w.1) (w.2.2.1++w.2.2.2.1)++w.2.2.2.2)) (ND N Q len iG e b sp l)) (ND N Q len iG e b sp l)
def aNb(N:Nat)(Q:AV->AH->Prop)(len:Nat)(a m s iG e b:Int)(sp:List (Int×fq))(l:LI):Prop:=
 aZ (decide (s<m)) (aZ (decide (m<e)) (∃w,roX.aI w [.ad 0 len 1,J s,J m,J e,cF] (hS sp l)/\NC N Q len a s iG e b w.1 (w.2.1++w.2.2.2.1++w.2.2.1++w.2.2.2.2)) (NC N Q len a s iG e b sp l)) (NC N Q len a s iG e b sp l)
theorem ja{b A B}(h1:b=true->A)(h2:b=false->B):aZ b A B:=al h1 h2
theorem aNe{aC U V B D W}(hf:aC=U++V++c_ (kS sp) (B++D)++W)(hB:fV (kS sp) B)(hD:fV (kS sp) D)(hN:B.length+D.length<N){len}(bB:(U++V++B++D++W).length=len)(hl:len<1200000){iG e b}(h1:iG=(U++V).length)(h2:e=(U++V++B).length)(h3:b=(U++V++B++D).length):
 ND N (fD (.aL []) (hS sp aC)) len (iG:Int) (e:Int) (b:Int) sp (U++V++B++D++W):=by
 subst h1 h2 h3 bB;have fJ:B=[]\/D=[]->fD (.aL []) (hS sp aC) (.aL []) (hS sp (U++V++B++D++W)):=by
  intro h;refine⟨rfl,?_⟩;rw[hf];rcases h with rfl|rfl
  .simp[SG hD]
  .simp[SG hB]
 refine ja (λh=>ja (λh'=>?_) (λh'=>?_)) (λh=>?_)
 .have h:=cP h;have h':=cP h';simp at h h';refine⟨(sp,U++V,B,D,W),⟨rfl,rfl,hl,by simp only;omega,by simp only;omega,hB,hD,hN⟩,rfl,?_⟩;rw[hf];rfl
 .have h':=c9 h';simp at h';exact fJ (.inr (by rw[<-uM];omega))
 .have h':=c9 h;simp at h';exact fJ (.inl (by rw[<-uM];omega))
theorem aNd{aC U A B C D W}(hf:aC=U++c_ (kS sp) (A++C)++c_ (kS sp) (B++D)++W)(hA:fV (kS sp) A)(hC:fV (kS sp) C)(hB:fV (kS sp) B)(hD:fV (kS sp) D)(hN1:A.length+C.length<N)(hN:B.length+D.length<N){len}(bB:(U++A++C++B++D++W).length=len)(hl:len<1200000){a s iG e b}(ha:a=U.length)(hs:s=(U++A).length)(h1:iG=(U++A++C).length)(h2:e=(U++A++C++B).length)(h3:b=(U++A++C++B++D).length):
 NC N (fD (.aL []) (hS sp aC)) len (a:Int) (s:Int) (iG:Int) (e:Int) (b:Int) sp (U++A++C++B++D++W):=by
 have fw:=sO (kS sp) (A++C);simp at fw;have done:∀l,l=U++c_ (kS sp) (A++C)++B++D++W->ND N (fD (.aL []) (hS sp aC)) len (iG:Int) (e:Int) (b:Int) sp l:=by
  intro l h;rw[h];refine aNe hf hB hD hN ?_ hl ?_ ?_ ?_
  .rw[<-bB];simp;omega
  .rw[h1];simp;omega
  .rw[h2];simp;omega
  .rw[h3];simp;omega
 have fJ:A=[]\/C=[]->ND N (fD (.aL []) (hS sp aC)) len (iG:Int) (e:Int) (b:Int) sp (U++A++C++B++D++W):=by
  intro h;refine done _ ?_;rcases h with rfl|rfl
  .simp[SG hC]
  .simp[SG hA]
 subst ha hs h1 bB;refine ja (λh=>ja (λh'=>?_) (λh'=>?_)) (λh=>?_)
 .have h:=cP h;have h':=cP h';simp at h h';refine⟨(sp,U,A,C,B++D++W),⟨?_,?_,?_,by simp only;omega,by simp only;omega,hA,hC,hN1⟩,?_⟩
  .simp[cF]
  .simp
  .simp only[<-jE];exact hl
  .exact done _ (by simp)
 .have h':=c9 h';simp at h';exact fJ (.inr (by rw[<-uM];omega))
 .have h':=c9 h;simp at h';exact fJ (.inl (by rw[<-uM];omega))
theorem aNc{aC U A B C D W}(hf:aC=U++c_ (kS sp) (A++C)++c_ (kS sp) (B++D)++W)(hA:fV (kS sp) A)(hC:fV (kS sp) C)(hB:fV (kS sp) B)(hD:fV (kS sp) D)(hN1:A.length+C.length<N)(hN:B.length+D.length<N){len}(bB:(U++A++B++C++D++W).length=len)(hl:len<1200000){a m s iG e b}(ha:a=U.length)(hm:m=(U++A++B).length)(hs:s=(U++A).length)(h1:iG=(U++A++C).length)(h2:e=(U++A++B++C).length)(h3:b=(U++A++B++C++D).length):
 aNb N (fD (.aL []) (hS sp aC)) len (a:Int) (m:Int) (s:Int) (iG:Int) (e:Int) (b:Int) sp (U++A++B++C++D++W):=by
 have done:∀l,l=U++A++C++B++D++W->NC N (fD (.aL []) (hS sp aC)) len (a:Int) (s:Int) (iG:Int) (e:Int) (b:Int) sp l:=by
  intro l h;rw[h];refine aNd hf hA hC hB hD hN1 hN ?_ hl ha hs h1 ?_ ?_
  .rw[<-bB];simp;omega
  .rw[h2];simp;omega
  .rw[h3];simp;omega
 have fJ:B=[]\/C=[]->NC N (fD (.aL []) (hS sp aC)) len (a:Int) (s:Int) (iG:Int) (e:Int) (b:Int) sp (U++A++B++C++D++W):=by intro h;refine done _ ?_;rcases h with rfl|rfl<;>simp
 subst hm hs h2 bB;refine ja (λh=>ja (λh'=>?_) (λh'=>?_)) (λh=>?_)
 .have h:=cP h;have h':=cP h';simp at h h';refine⟨(sp,U++A,B,C,D++W),⟨?_,?_,?_,by simp only;omega,by simp only;omega⟩,?_⟩
  .simp[cF]
  .simp
  .simp only[<-jE];exact hl
  .exact done _ (by simp)
 .have h':=c9 h';simp at h';exact fJ (.inr (by rw[<-uM];omega))
 .have h':=c9 h;simp at h';exact fJ (.inl (by rw[<-uM];omega))
theorem as3(qj:aF Z (CJ N)){U X Y W M}(hl:(U++X++Y++W).length<1200000)(hX:fV (kS sp) X)(hY:fV (kS sp) Y)(hN:X.length+Y.length<=N)(hM:M=(X.length+Y.length)/ 2)(hx:0<X.length)(hy:0<Y.length):
 ∀k:Nat×Nat,(k.1<=k.2/\k.2<=X.length/\k.2<=M/\M<=k.1+Y.length/\(k.1=0\/M-k.1=Y.length\/¬kS sp (X.getD (k.1-1) 0)<kS sp (Y.getD (M-k.1) 0))/\(k.2=X.length\/M-k.2=0\/kS sp (X.getD k.2 0)<kS sp (Y.getD (M-k.2-1) 0)))->
 ba Z 171 220 3 (.aL []) (hS sp (U++c_ (kS sp) (X++Y)++W)) (aJ [(0,.ad 0 (U++X++Y++W).length 1),(1,J (U.length:Int)),(2,J ((U++X).length:Int)),(3,J ((U++X++Y).length:Int)),(4,cF),(18,J ((U.length+M:Nat):Int)),(19,J ((U.length+M+(U++X).length:Nat):Int)),(20,J ((U.length+k.1:Nat):Int)),(21,J ((U.length+k.2:Nat):Int)),(22,J ((U.length+M+(U++X).length-1:Nat):Int))]) (hS sp (U++X++Y++W)) (aB Z 171 4):=by
 refine dj (λk=>k.2-k.1) _ _ _ _ ?_;rintro⟨i,j⟩ ⟨QV,Xc,hjM,hMi,nU,ru⟩ ih;simp only at QV Xc hjM hMi nU ru ih⊢;have eV:(U++X++Y++W).length=U.length+X.length+Y.length+W.length:=by simp only[cj]
 have WO:(U++X).length=U.length+X.length:=by simp only[cj]
 refine hDn qj 2000 ae9 ?_;refine cast aG2.symm ?_;delta p9 NX aaz;rw[WT (by omega)];refine al (λh=>?_) λh=>?_
 .have h:=cP h;have hc:(U.length+i+(U.length+j))/ 2=U.length+(i+j)/ 2:=by omega
  rw[hc];have hg:(U++X++Y++W).getD (U.length+(i+j)/ 2) 0=X.getD ((i+j)/ 2) 0:=by
   have e:U++X++Y++W=U++(X++(Y++W)):=by simp
   rw[e,Wj,Wi (by omega)]
  have hr:=S0 (l:=U++X++Y++W) (i:=U.length+(i+j)/ 2) (by omega);rw[hg]at hr;have hp:wI (((U.length+M+(U++X).length-1:Nat):Int)-((U.length+(i+j)/ 2:Nat):Int))=(((U++X).length+(M-(i+j)/ 2-1):Nat):Int):=by rw[cb]<;>omega
  have tz:(U++X++Y++W).getD ((U++X).length+(M-(i+j)/ 2-1)) 0=Y.getD (M-(i+j)/ 2-1) 0:=by
   have e:U++X++Y++W=(U++X)++(Y++W):=by simp
   rw[e,Wj,Wi (by omega)]
  have l5:=S0 (l:=U++X++Y++W) (i:=(U++X).length+(M-(i+j)/ 2-1)) (by omega);rw[tz]at l5;have hw:wI (((U.length+(i+j)/ 2:Nat):Int)+1)=((U.length+((i+j)/ 2+1):Nat):Int):=by rw[cb]<;>omega
  refine⟨(U++X).length+(M-(i+j)/ 2-1),hp,by omega,_,l5,U.length+(i+j)/ 2,rfl,by omega,_,hr,(sp,Y.getD (M-(i+j)/ 2-1) 0,X.getD ((i+j)/ 2) 0),aA,al (λhk=>?_) λhk=>?_⟩
  .have hk:¬kS sp (X.getD ((i+j)/ 2) 0)<kS sp (Y.getD (M-(i+j)/ 2-1) 0):=λhh=>by have:=decide_eq_true (EU.2 hh);rw[this]at hk;cases hk
   rw[hw];refine ih ((i+j)/ 2+1,j) ⟨by simp only;omega,Xc,hjM,by simp only;omega,.inr (.inr ?_),ru⟩ (by simp only;omega);have e:M-((i+j)/ 2+1)=M-(i+j)/ 2-1:=by omega
   rw[e];exact hk
  .have hk:kS sp (X.getD ((i+j)/ 2) 0)<kS sp (Y.getD (M-(i+j)/ 2-1) 0):=by refine EU.1 (cP ?_);simpa using hk
   exact ih (i,(i+j)/ 2) ⟨by simp only;omega,by simp only;omega,by simp only;omega,hMi,nU,.inr (.inr hk)⟩ (by simp only;omega)
 .have h:=c9 h;have hj:i=j:=by omega
  subst hj;obtain⟨A,B,C,D,rfl,rfl,hA,hC,hs,dA,dB,dC,dD⟩:=aEs hX hY (i:=i) (j:=M-i) Xc (by omega) nU ru;simp at hM hx hy hN WO Xc hMi;have he:wI (((U.length+M+(U++(A++B)).length:Nat):Int)-((U.length+i:Nat):Int))=(((U++A++B++C).length:Nat):Int):=by simp at hl⊢;rw[cb]<;>omega
  rw[he];have key:=aNc (sp:=sp) (N:=N) (aC:=U++c_ (kS sp) ((A++B)++(C++D))++W) (U:=U) (A:=A) (B:=B) (W:=W) (by rw[hs];simp) dA dC dB dD (by omega) (by omega) rfl (by simpa[jE]using hl)
   (m:=(U++(A++B)).length) (s:=U.length+i) (iG:=U.length+M) (b:=(U++(A++B)++(C++D)).length) rfl (by simp) (by simp;omega) (by simp;omega) rfl (by simp)
  have e:U++(A++B)++(C++D)++W=U++A++B++C++D++W:=by simp
  rw[e];exact key
theorem as4(qj:aF Z (CJ N)){U X Y W}(hl:(U++X++Y++W).length<1200000)(hX:fV (kS sp) X)(hY:fV (kS sp) Y)(hN:X.length+Y.length<=N)(hx:0<X.length)(hy:0<Y.length):
 bC Z 171 [.ad 0 (U++X++Y++W).length 1,J (U.length:Int),J ((U++X).length:Int),J ((U++X++Y).length:Int),cF] (hS sp (U++X++Y++W)) (.aL []) (hS sp (U++c_ (kS sp) (X++Y)++W)):=by
 have eV:(U++X++Y++W).length=U.length+X.length+Y.length+W.length:=by simp only[cj]
 have WO:(U++X).length=U.length+X.length:=by simp only[cj]
 have aPW:(U++X++Y).length=U.length+X.length+Y.length:=by simp only[cj]
 refine eE 220 qj aG3 ?_;delta p9 aii;have h1:wI (((U++X).length:Int)-(U.length:Int))=(X.length:Int):=by rw[cb]<;>omega
 have h2:wI (((U++X++Y).length:Int)-((U++X).length:Int))=(Y.length:Int):=by rw[cb]<;>omega
 have h3:(U.length+(U++X++Y).length)/ 2=U.length+(X.length+Y.length)/ 2:=by omega
 have h4:wI (((U.length+(X.length+Y.length)/ 2:Nat):Int)+((U++X).length:Int))=((U.length+(X.length+Y.length)/ 2+(U++X).length:Nat):Int):=by rw[cb]<;>omega
 have h5:wI (((U.length+(X.length+Y.length)/ 2+(U++X).length:Nat):Int)-1)=((U.length+(X.length+Y.length)/ 2+(U++X).length-1:Nat):Int):=by rw[cb]<;>omega
 rw[h1,h2,WT (by omega),h3,h4,h5];refine al (λh=>?_) λh=>al (λh'=>?_) λh'=>al (λh6=>?_) λh6=>?_
 .have h:X.length=1:=by
   have h:(X.length:Int)=1:=by simpa using h
   omega
  obtain⟨x,rfl⟩:=List.length_eq_one_iff.1 h;have:=aGV qj hl hY (0,Y.length) ⟨by simp,by simp,.inl rfl,.inl rfl⟩;have e1:(U++[x]).length=U.length+1:=by simp
  have e2:(U++[x]++Y).length=U.length+1+Y.length:=by simp;omega
  rw[e1,e2];exact this
 .have h:Y.length=1:=by
   have h:(Y.length:Int)=1:=by simpa using h'
   omega
  obtain⟨y,rfl⟩:=List.length_eq_one_iff.1 h;have:=aGZ qj hl hX (0,X.length) ⟨by simp,by simp,.inl rfl,.inl rfl⟩;rw[<-WO]at this;exact this
 .have h6:=cP h6;have h7:wI (((U.length+(X.length+Y.length)/ 2+(U++X).length:Nat):Int)-((U++X++Y).length:Int))=((U.length+((X.length+Y.length)/ 2-Y.length):Nat):Int):=by rw[cb]<;>omega
  rw[h7];exact as3 qj hl hX hY hN rfl hx hy ((X.length+Y.length)/ 2-Y.length,(X.length+Y.length)/ 2) ⟨by simp only;omega,by simp only;omega,by simp,by simp only;omega,.inr (.inl (by simp only;omega)),.inr (.inl (by simp only;omega))⟩
 .have h6:=c9 h6;have:=as3 qj hl hX hY hN rfl hx hy (0,X.length) ⟨by simp,by simp,by simp only;omega,by simp only;omega,.inl rfl,.inl rfl⟩;rw[<-WO]at this;exact this
end
theorem aw4:∀N,aF Z (CJ N):=by
 refine vV aka ?_ ?_
 .rintro⟨sp,U,X,Y,W⟩ args H ⟨_,_,_,_,_,_,_,h⟩;omega
 .rintro N qj ⟨sp,U,X,Y,W⟩ args H ⟨rfl,rfl,hl,hx,hy,hX,hY,hN⟩;exact as4 qj hl hX hY (by omega) hx hy
def aup:bT (List (Int×fq)×LI×LI×LI×LI)where
 aI w A H:=A=[.ad 0 (w.2.1++w.2.2.1++w.2.2.2.1++w.2.2.2.2).length 1,J (w.2.1.length:Int),J ((w.2.1++w.2.2.1).length:Int),J ((w.2.1++w.2.2.1++w.2.2.2.1).length:Int),cF]/\H=hS w.1 (w.2.1++w.2.2.1++w.2.2.2.1++w.2.2.2.2)/\(w.2.1++w.2.2.1++w.2.2.2.1++w.2.2.2.2).length<1200000/\0<w.2.2.1.length/\0<w.2.2.2.1.length/\
  fV (kS w.1) w.2.2.1/\fV (kS w.1) w.2.2.2.1
 v w:=.aL []
 aD w:=hS w.1 (w.2.1++c_ (kS w.1) (w.2.2.1++w.2.2.2.1)++w.2.2.2.2)
theorem aM9:aup.bM:=by
 rintro⟨sp,U,X,Y,W⟩ ⟨Eb,U',X',Y',W'⟩ A H ⟨h1,h2,_⟩ ⟨k1,k2,_⟩;obtain⟨rfl,e⟩:=Iw (h2.symm.trans k2);rw[h1]at k1;simp only[fG,AV.bD.injEq,AV.ad.injEq,true_and,and_true]at k1 e;have e1:U.length=U'.length:=by omega
 have e2:(U++X).length=(U'++X').length:=by omega
 have e3:(U++X++Y).length=(U'++X'++Y').length:=by omega
 obtain⟨e4,rfl⟩:=lO e e3;obtain⟨e5,rfl⟩:=lO e4 e2;obtain⟨rfl,rfl⟩:=lO e5 e1;rfl
def KC:Ev.aX:=bx 171 (bE aup aM9 bU) R22
theorem Pp:aF Z KC:=by refine bY aka ?_;rintro⟨sp,U,X,Y,W⟩ args H ⟨rfl,rfl,hl,hx,hy,hX,hY⟩;exact as4 (aw4 (X.length+Y.length)) hl hX hY (ct _) hx hy
def sbX:bT (List (Int×fq)×LI)where
 aI w A H:=A=[.ad 0 w.2.length 1,J (w.2.length:Int),cF]/\H=hS w.1 w.2/\w.2.length<400000
 v w:=.aL []
 aD w:=hS w.1 (c_ (kS w.1) w.2)
theorem aJr:sbX.bM:=by rintro⟨sp,l⟩ ⟨Eb,l'⟩ A H ⟨h1,h2,_⟩ ⟨k1,k2,_⟩;obtain⟨rfl,rfl⟩:=Iw (h2.symm.trans k2);rfl
def R24:Ev.aX:=bx 154 (bE sbX aJr bU) KC
def soX:bT (List (Int×fq)×LI)where
 aI w A H:=A=[.ad 0 w.2.length 1,cF]/\H=hS w.1 w.2/\w.2.length<400000
 v w:=.aL []
 aD w:=hS w.1 (c_ (kS w.1) w.2)
theorem aMH:soX.bM:=by rintro⟨sp,l⟩ ⟨Eb,l'⟩ A H ⟨h1,h2,_⟩ ⟨k1,k2,_⟩;obtain⟨rfl,rfl⟩:=Iw (h2.symm.trans k2);rfl
def Pq:Ev.aX:=bx 122 (bE soX aMH bU) R24
def Yh:Nat->LN:=dY [(2,[0,1,2,6,7,8]),(7,[0,1,2,6]),(9,[0,1,2,6,7,8])]
abbrev ZK x0 x1 x2 x3 x4:=aJ [(0,.ad 0 x0 1),(1,J x1),(2,.cw (.func 123) [] [.aa 1 0]),(6,J x2),(7,J x3),(8,J x4)]
abbrev yu x0 x1:=aE [(0,bG x0 2),(1,.ah [.aS 2] 193),(2,jF x1)] 3
theorem aJf{sp l L Q}:
 fA KC Yh L Q 154 [ej 0 l,J (l.length:Int),cF] (hS sp l)=L (ZK l.length ((l.length:Nat):Int) 20 0 20) (yu l sp) (aB Z 154 0):=by kernel_rfl
abbrev ag4 x0 x1 x2:=aJ [(0,.ad 0 x0 1),(1,J x1),(2,.cw (.func 123) [] [.aa 1 0]),(6,J x2)]
abbrev aaI(h0:List (Int×fq)×LI×LI×LI):=h0.2.1++h0.2.2.1++h0.2.2.2
abbrev ahw h0 h1 h2 h3(h4:LT) h5 h6:=∃b0:List (Int×fq)×LI×LI×LI,(([ej 0 h0,J h1,J h2,oJ 123 1]:LV)=[.ad 0 (aaI b0).length 1,ui b0.2.1.length,ui (b0.2.1++b0.2.2.1).length,oJ 123 1]/\yu h0 h3=hS b0.1 (aaI b0)/\(aaI b0).length<1200000)/\h4 h5 (yu (b0.2.1++c_ (kS b0.1) b0.2.2.1++b0.2.2.2) b0.1) (aB Z 154 h6)
theorem aI9{sp l n s a b L Q}:
 ju KC Yh L Q 154 3 (Tn l n cF 6 (J s) 7 a 8 b) (hS sp l)=aZ (decide (b<=n)) (ahw l a b sp L (ZK l.length n s b (wI (b+s))) 0) (ahw l a n sp L (ag4 l.length n s) 1):=by kernel_rfl
theorem aJb{sp l n s L Q}:
 iL KC Yh L Q 154 3 (aJ [(0,ej 0 l),(1,J n),(2,cF),(6,J s)]) 1 (hS sp l)=Ew (decide (s<n)) (L (ZK l.length n s 0 (wI (2*s))) (yu l sp) (aB Z 154 2)) Q (yu l sp):=by kernel_rfl
abbrev av1(h0:List (Int×fq)×LI×LI×LI×LI):=0<h0.2.2.2.1.length/\fV (kS h0.1) h0.2.2.1/\fV (kS h0.1) h0.2.2.2.1
theorem aJd{sp l n s a b L Q}:
 iL KC Yh L Q 154 3 (aJ (Tn l n cF 6 (J s) 7 a 8 b)) 2 (hS sp l)=aZ (decide (b<=n)) (Hk l.length a (wI (a+s)) b (λw=>yu l sp=hS w.1 (G_ w)) (λw=>av1 w) (λw=>L (ZK l.length n s b (wI (b+wI (2*s)))) (yu (w.2.1++Te w++w.2.2.2.2) w.1) (aB Z 154 2))) (gT (decide (wI (a+s)<n)) (Hk l.length a (wI (a+s)) n (λw=>yu l sp=hS w.1 (G_ w)) (λw=>av1 w) (λw=>L (ag4 l.length n (wI (s*2))) (yu (w.2.1++Te w++w.2.2.2.2) w.1) (aB Z 154 1))) L (ag4 l.length n (wI (s*2))) (yu l sp) 154 1):=by kernel_rfl
theorem aIz{sp l L Q}:
 eG R24 [] L Q 122 [ej 0 l,cF] (hS sp l)=(∃w:List (Int×fq)×LI,(([ej 0 l,J (a_ l.length),oJ 123 1]:LV)=[.ad 0 w.2.length 1,ui w.2.length,oJ 123 1]/\yu l sp=hS w.1 w.2/\w.2.length<400000)/\Q (.aL []) (yu (c_ (kS w.1) w.2) w.1)):=by kernel_rfl
def fl(key:Int->Int)(Bs:List LI):LI:=(Bs.map (c_ key)).flatten
theorem Fq(key):∀Bs,(fl key Bs).length=Bs.flatten.length
 |[]=>rfl
 |B::Bs=>by have:=Fq key Bs;simp only[fl,e9,Ng,cj,sO]at this⊢;omega
theorem anz(key Bs B):fl key (Bs++[B])=fl key Bs++c_ key B:=by simp[fl]
theorem aAV(key Bs B):fl key (B::Bs)=c_ key B++fl key Bs:=by simp[fl]
def OO(s:Nat)(Bs:List LI):Prop:=∀B∈Bs,B.length=s
section
variable{sp:List (Int×fq)}{ko:LI}
theorem aJe{s}(hl:ko.length<400000)(hs:20<=s)(Rc:s<ko.length)(next:∀Ms R l,l=fl (kS sp) Ms++c_ (kS sp) R->Ms.flatten++R=ko->OO (2*s) Ms->R.length<2*s->
 ba Z 154 63 3 (.aL []) (hS sp (c_ (kS sp) ko)) (aJ [(0,.ad 0 ko.length 1),(1,J (ko.length:Int)),(2,cF),(6,J ((2*s:Nat):Int))]) (hS sp l) (aB Z 154 1)):
 ∀k:List LI×List LI×LI×LI,(k.2.2.2=fl (kS sp) k.1++fl (kS sp) k.2.1++c_ (kS sp) k.2.2.1/\k.1.flatten++k.2.1.flatten++k.2.2.1=ko/\OO (2*s) k.1/\OO s k.2.1/\k.2.2.1.length<s)->
 ba Z 154 63 3 (.aL []) (hS sp (c_ (kS sp) ko)) (aJ [(0,.ad 0 ko.length 1),(1,J (ko.length:Int)),(2,cF),(6,J (s:Int)),(7,J (k.1.flatten.length:Int)),(8,J ((k.1.flatten.length+2*s:Nat):Int))]) (hS sp k.2.2.2) (aB Z 154 2):=by
 refine dj (λk=>k.2.1.length) _ _ _ _ ?_;rintro⟨Ms,Bs,R,l⟩ ⟨eV,ho,hM,hB,hR⟩ ih;simp only at eV ho hM hB hR ih⊢;have bB:l.length=ko.length:=by rw[eV,<-ho];simp only[cj,Fq,sO]
 have uz:Ms.flatten.length+Bs.flatten.length+R.length=ko.length:=by rw[<-ho];simp only[cj]
 rw[<-bB];refine hE Pp aJd ?_;delta Hk G_;have l8:wI (2*(s:Int))=((2*s:Nat):Int):=by rw[cb]<;>omega
 have sA:wI ((s:Int)*2)=((2*s:Nat):Int):=by rw[cb]<;>omega
 have hw3:wI ((Ms.flatten.length:Int)+(s:Int))=((Ms.flatten.length+s:Nat):Int):=by rw[cb]<;>omega
 have hw4:wI (((Ms.flatten.length+2*s:Nat):Int)+((2*s:Nat):Int))=((Ms.flatten.length+2*s+2*s:Nat):Int):=by rw[cb]<;>omega
 rw[l8,sA,hw3,hw4];have d:=λx=>(y6 (kS sp) x).1
 refine ja (λh=>?_) (λh=>?_)
 .have h:=cP h;cases Bs with
  |nil=>simp only[Si,gH]at uz;omega
  |cons B1 Bs=>
   have ke:=hB B1 (by simp);cases Bs with
   |nil=>simp only[Ng,Si,cj,gH]at uz;omega
   |cons B2 Bs=>
    have ie:=hB B2 (by simp);have e:l=fl (kS sp) Ms++c_ (kS sp) B1++c_ (kS sp) B2++(fl (kS sp) Bs++c_ (kS sp) R):=by rw[eV];simp[aAV]
    refine⟨(sp,fl (kS sp) Ms,c_ (kS sp) B1,c_ (kS sp) B2,fl (kS sp) Bs++c_ (kS sp) R),⟨?_,?_,?_,?_,?_,d _,d _⟩,?_⟩
    .simp only;rw[<-e];simp only[cj,Fq,sO,ke,ie];congr 5;omega
    .simp only;rw[<-e];rfl
    .simp only;rw[<-e];omega
    .simp only[sO];omega
    .simp only[sO];omega
    .have:=ih (Ms++[B1++B2],Bs,R,fl (kS sp) Ms++c_ (kS sp) (c_ (kS sp) B1++c_ (kS sp) B2)++(fl (kS sp) Bs++c_ (kS sp) R)) ⟨by simp only[anz,aug,jE],by rw[<-ho];simp,by
      intro B hb;rcases iK.1 hb with hb|hb
      .exact hM B hb
      .simp only[vQ]at hb;subst hb;simp only[cj];omega,λB hb=>hB B (by simp[hb]),hR⟩ (by simp;omega)
     have el:(Ms++[B1++B2]).flatten.length=Ms.flatten.length+2*s:=by simp;omega
     rw[el]at this;rw[bB];exact this
 .have h:=c9 h;cases Bs with
  |nil=>
   simp only[Si,gH]at uz;refine ja (λh=>?_) (λh=>?_)
   .have h:=cP h;omega
   .have:=next Ms R l (by rw[eV];simp[fl]) (by rw[<-ho];simp) hM (by omega)
    rw[bB];exact this
  |cons B1 Bs=>
   have ke:=hB B1 (by simp);cases Bs with
   |cons B2 Bs=>have ie:=hB B2 (by simp);simp only[Ng,cj]at uz;omega
   |nil=>
    simp only[Ng,Si,jt]at uz ho;refine ja (λh=>?_) (λh=>?_)
    .have h:=cP h;have e:l=fl (kS sp) Ms++c_ (kS sp) B1++c_ (kS sp) R++[]:=by rw[eV];simp[fl]
     refine⟨(sp,fl (kS sp) Ms,c_ (kS sp) B1,c_ (kS sp) R,[]),⟨?_,?_,?_,?_,?_,d _,d _⟩,?_⟩
     .simp only;rw[<-e];simp only[cj,Fq,sO,ke,bB];congr 5;omega
     .simp only;rw[<-e];rfl
     .simp only;rw[<-e];omega
     .simp only[sO];omega
     .simp only[sO];omega
     .have:=next Ms (B1++R) (fl (kS sp) Ms++c_ (kS sp) (c_ (kS sp) B1++c_ (kS sp) R)++[]) (by rw[aug];simp) (by rw[<-ho];simp) hM (by simp;omega)
      rw[bB];exact this
    .have h:=c9 h;have hR0:R=[]:=by rw[<-uM];omega
     subst hR0;have:=next Ms B1 l (by rw[eV];simp[fl,c_]) (by rw[<-ho];simp) hM (by omega)
     rw[bB];exact this
theorem aJc(hl:ko.length<400000):
 ∀k:Nat×List LI×LI×LI,(k.2.2.2=fl (kS sp) k.2.1++c_ (kS sp) k.2.2.1/\k.2.1.flatten++k.2.2.1=ko/\OO k.1 k.2.1/\k.2.2.1.length<k.1/\20<=k.1)->
 ba Z 154 63 3 (.aL []) (hS sp (c_ (kS sp) ko)) (aJ [(0,.ad 0 ko.length 1),(1,J (ko.length:Int)),(2,cF),(6,J (k.1:Int))]) (hS sp k.2.2.2) (aB Z 154 1):=by
 refine dj (λk=>ko.length-k.1) _ _ _ _ ?_;rintro⟨s,Bs,R,l⟩ ⟨eV,ho,hB,hR,hs⟩ ih;simp only at eV ho hB hR hs ih⊢;have bB:l.length=ko.length:=by rw[eV,<-ho];simp only[cj,Fq,sO]
 have uz:Bs.flatten.length+R.length=ko.length:=by rw[<-ho];simp
 have key:= @aJe sp ko s hl hs;rw[<-bB];refine hE Pp aJb ?_;refine ja (λh=>?_) (λh=>?_)
 .have h:=cP h;have h:s<ko.length:=by omega
  have:=key h (λMs R' l' h1 h2 h3 h4=>ih (2*s,Ms,R',l') ⟨h1,h2,h3,h4,by simp only;omega⟩ (by simp only;omega)) ([],Bs,R,l) ⟨by rw[eV];simp[fl],by rw[<-ho];simp,(by intro B hb;cases hb),hB,hR⟩;simp at this;have l8:wI (2*(s:Int))=((2*s:Nat):Int):=by rw[cb]<;>omega
  rw[l8,bB];exact this
 .have h:=c9 h;have:l=c_ (kS sp) ko:=by
   cases Bs with
   |nil=>rw[eV,<-ho];simp[fl]
   |cons B1 Bs=>
    have ke:=hB B1 (by simp);cases Bs with
    |nil=>
     simp at uz ho;have hR0:R=[]:=by rw[<-uM];omega
     subst hR0;rw[eV,<-ho];simp[fl,c_]
    |cons B2 Bs=>have ie:=hB B2 (by simp);simp at uz;omega
  rw[this];exact aA
theorem aJa(hl:ko.length<400000):
 ∀k:List LI×LI×LI,(k.2.2=fl (kS sp) k.1++k.2.1/\k.1.flatten++k.2.1=ko/\OO 20 k.1)->
 ba Z 154 63 3 (.aL []) (hS sp (c_ (kS sp) ko)) (aJ [(0,.ad 0 ko.length 1),(1,J (ko.length:Int)),(2,cF),(6,J 20),(7,J (k.1.flatten.length:Int)),(8,J ((k.1.flatten.length+20:Nat):Int))]) (hS sp k.2.2) (aB Z 154 0):=by
 refine dj (λk=>k.2.1.length) _ _ _ _ ?_;rintro⟨Bs,R,l⟩ ⟨eV,ho,hB⟩ ih;simp only at eV ho hB ih⊢;have bB:l.length=ko.length:=by rw[eV,<-ho];simp only[cj,Fq]
 have uz:Bs.flatten.length+R.length=ko.length:=by rw[<-ho];simp
 have key:= @aJc sp ko hl;rw[<-bB];refine hE Pp aI9 ?_;delta ej ahw aaI;refine ja (λh=>?_) (λh=>?_)
 .have h:=cP h;obtain⟨X,R,rfl,hX⟩:=ab4 (l:=R) (n:=20) (by omega);simp at uz;have e:l=fl (kS sp) Bs++X++R:=by rw[eV];simp
  refine⟨(sp,fl (kS sp) Bs,X,R),⟨?_,?_,?_⟩,?_⟩
  .simp only;rw[<-e];simp only[cj,Fq,hX]
  .simp only;rw[<-e];rfl
  .simp only;rw[<-e];omega
  .have:=ih (Bs++[X],R,fl (kS sp) Bs++c_ (kS sp) X++R) ⟨by simp only[anz],by rw[<-ho];simp,by
    intro B hb;rcases iK.1 hb with hb|hb
    .exact hB B hb
    .simp at hb;subst hb;exact hX⟩ (by simp;omega)
   have el:(Bs++[X]).flatten.length=Bs.flatten.length+20:=by simp;omega
   rw[el]at this;have hw:wI (((Bs.flatten.length+20:Nat):Int)+20)=((Bs.flatten.length+20+20:Nat):Int):=by rw[cb]<;>omega
   rw[hw,bB];exact this
 .have h:=c9 h;have e:l=fl (kS sp) Bs++R++[]:=by rw[eV];simp
  refine⟨(sp,fl (kS sp) Bs,R,[]),⟨?_,?_,?_⟩,?_⟩
  .simp only;rw[<-e];simp only[cj,Fq,uz,bB]
  .simp only;rw[<-e];rfl
  .simp only;rw[<-e];omega
  .have:=key (20,Bs,R,fl (kS sp) Bs++c_ (kS sp) R++[]) ⟨by simp,ho,hB,by simp only;omega,by simp⟩;rw[bB];exact this
end
theorem akb:aF Z R24:=by refine bY Pp ?_;rintro⟨sp,l⟩ args H ⟨rfl,rfl,hl⟩;refine eE 63 Pp aJf ?_;exact aJa hl ([],l,l) ⟨by simp[fl],by simp,(by intro B hb;cases hb)⟩
theorem KD:aF Z Pq:=by refine bY akb ?_;rintro⟨sp,l⟩ args H ⟨rfl,rfl,hl⟩;refine eE 9 akb aIz ?_;exact⟨(sp,l),⟨rfl,rfl,hl⟩,rfl,rfl⟩
end
end Go.Cl
namespace Go.Ev
theorem tM{m0 g n l l' vs eA el t}(hg:cH l g=some (.ah vs el))(hl:∀id,cH l' id=if id=g then some (.ah eA el)else cH l id)(hn:cH l n=none)(hr:∀I x,bf I vs x->bf I eA x)(bB:eA.length=vs.length/\eA.all AV.dH=vs.all AV.dH):
 mr m0 (aE l n) (aE (l'++[(n,.au [] t)]) (n+1)) (λI aK=>aK=I):=by
 have Bo:g≠n:=by rintro rfl;rw[hg]at hn;cases hn
 have Mx:cH l' n=none:=by rw[hl,aw (Ne.symm Bo)];exact hn
 have h1:=Jd (xx:=none) (m0:=m0) (.au [] t) Mx;refine⟨Nat.le_succ n,λI bs w cr hw=>?_⟩;have l8:WR I bs (aE l' n) w:=by
  refine⟨?_,?_,hw.lt,?_,hw.uP rfl rfl rfl (λ_ _=>rfl) λid ob e h1 l1 h2=>.inl ?_⟩
  .intro id ob e k1 k2;rw[eg,hl]at k1;by_cases dw:id=g
   .rw[aP dw]at k1;cases k1;obtain⟨o,q1,q2⟩:=hw.ey id _ e (by rw[eg,dw];exact hg) k2;refine⟨o,q1,?_⟩;obtain⟨cs,hJ,rfl,a1,a2,a3,a4⟩:=q2;exact⟨cs,hJ,rfl,a1,by rw[bB.1];exact a2,by rw[bB.1];exact hr _ _ a3,by rw[bB.2];exact a4⟩
   .rw[aw dw]at k1;exact hw.ey id ob e (by rw[eg];exact k1) k2
  .have nA:∀{id ob},(aE l' n).aR id=some ob->ob.aQ=true->∃dW,(aE l n).aR id=some dW/\dW.aQ=true:=by
    intro id ob k1 k2;rw[eg,hl]at k1;by_cases dw:id=g
    .exact⟨_,by rw[eg,dw];exact hg,rfl⟩
    .rw[aw dw]at k1;exact⟨ob,by rw[eg];exact k1,k2⟩
   intro id ij ob bu e e' k1 l1 k2 k3 l2 k4 hb;have⟨o1,q1,q2⟩:=nA k1 l1;have⟨o2,q3,q4⟩:=nA k3 l2;exact hw.jx id ij o1 o2 e e' q1 q2 k2 q3 q4 k4 hb
  .intro id ob k1;rw[eg,hl]at k1;by_cases dw:id=g
   .rw[dw];exact hw.nx g (.ah vs el) (by rw[eg];exact hg)
   .rw[aw dw]at k1;exact hw.nx id ob (by rw[eg];exact k1)
  .rw[eg,hl]at h1;by_cases dw:id=g
   .exact⟨id,_,e,by rw[eg,dw];exact hg,rfl,h2,rfl⟩
   .rw[aw dw]at h1;exact⟨id,ob,e,by rw[eg];exact h1,l1,h2,rfl⟩
 exact h1.2 I bs w cr l8
end Go.Ev
set_option maxRecDepth 100000
namespace Go.Cl
open Go.Ev Go.Proofs
def ae1(sp:List (Int×fq))(v:Int):fq:=(lk v sp).getD ⟨0,0,0⟩
def Lg(sp:List (Int×fq))(v:Int):Bool:=decide ((ae1 sp v).TG<(ae1 sp v).last)
def F9(sp:List (Int×fq))(c:Int):LI->Nat
 |[]=>0
 |v::l=>if kS sp v>c then F9 sp c l+1 else 0
def yO:Nat->gy->LI
 |_,[]=>[]
 |c,g::gs=>(c:Int)::yO (if g.gq=1 then c+1 else c) gs
def F8(sp:List (Int×fq))(bH:LI):Nat->gy->LI
 |_,[]=>[]
 |c,g::gs=>(if g.gq=1 then(F9 sp c bH:Int)else 0)::F8 sp bH (if g.gq=1 then c+1 else c) gs
def o_(f:bN):eR:=Gd f ([],[])
def jP(f:bN):LI:=c_ (kS (o_ f).1) ((o_ f).2.filter (Lg (o_ f).1))
def ft(f:bN):lq:=⟨yO 0 f.bo,jP f,F8 (o_ f).1 (jP f) 0 f.bo⟩
noncomputable def hCh(c:lq):AH:=aE [(0,bG c.cS 3),(1,bG c.bH 2),(2,bG c.aQ 3)] 3
noncomputable def chX:bT bN where
 aI f A H:=A=[.aj (iE f)]/\H=ay/\km f/\kO f=true/\bz f.cg+fv f.bo<400000
 v f:=.aL [.aj (VI (ft f)),J 0]
 aD f:=hCh (ft f)
theorem ayU:chX.bM:=by rintro f f' A H ⟨h1,_⟩ ⟨k1,_⟩;rw[h1]at k1;simp at k1;rw[A5 _ _ k1]
noncomputable def R26:Ev.aX:=bx 85 (bE chX ayU bU) Pq
def I9:Nat->LN:=dY [(999999,[1,2,4,5,21]),(14,[1,2,4,49,50,51]),(22,[2,4,11,76,77,78]),(27,[2,4,11,14,76,77,78])]
noncomputable def aec(f:bN):AH:=aE [(0,eN f),(1,oO),(2,.ah [.aS 5] 193),(3,.ah [.ad 6 0 1] 35),(4,eN f),(5,jF []),(6,tR [])] 7
noncomputable def adG(f:bN)(st:eR)(bH:LI):AH:=aE [(0,eN f),(1,.ah [.ad 9 0 1,.ad 10 bH.length 1,.ad 11 0 1] 153),(2,.ah [.aS 5] 193),(3,.ah [.ad 8 st.2.length 1] 35),(4,eN f),(5,jF st.1),(6,.bg []),(7,mz),(8,tR st.2),(9,.au [] 3),(10,bG bH 2),(11,.au [] 3)] 12
noncomputable def Bh(f:bN)(st:eR)(cS bH aQ:LI):AH:=aE [(0,eN f),(1,.ah [.ad 8 cS.length 1,.ad 9 bH.length 1,.ad 10 aQ.length 1] 153),(2,.ah [.aS 5] 193),(3,.ah [.ad 11 st.2.length 1] 35),(4,eN f),(5,jF st.1),(6,.bg []),(7,mz),(8,bG cS 3),(9,bG bH 2),(10,bG aQ 3),(11,tR st.2)] 12
noncomputable abbrev ag5:=aJ [(1,.aa 0 0),(2,.aa 1 0),(4,.aa 2 0),(5,.aa 3 0),(21,.cw (.func 149) [] [.aa 4 0])]
noncomputable abbrev Eu h0 h1:=(.aL [.aj h0,J h1]:AV)
theorem aH0{f L Q}:
 fA Pq I9 L Q 85 [.aj (iE f)] ay=(dc (XC (iE f))/\aZ (!HU kO (iE f)) (Q (Eu [.aM,.aM,.aM] 1) ay) (∃w,(([.aj (iE f)]:LV)=[.aj (iE w)]/\aE [] 0=ay)/\L ag5 (JY (eN f) oO (k_ 5 193) (.ah [.aM] 35) (eN w) (eu [] 0)) (Ss Z 85 0))):=by kernel_rfl
noncomputable abbrev SP x0 x1:=aJ [(1,.aa 0 0),(2,.aa 1 0),(4,.aa 2 0),(49,.ad 8 x0 1),(50,J (a_ x0)),(51,J x1)]
theorem aH1{f L Q}:
 agB Z Pq I9 L Q 1000 85 ag5 (Ss Z 85 0) (aec f)=(∃w:bN×eR,xK [.ib 0,.aa 1 0] (aE (Ax (aaO 3 4 1 2) (eN f) mz (eN f) (rQ 7 0 35) oO (k_ 8 193) (.au [] 2) (eu [] 0)) 9=Qs w.1 w.2/\km w.1/\w.2.2.length+bz w.1.cg+fv w.1.bo<1200000) (8<10/\L (SP (Gd w.1 w.2).2.length 0) (aE (Ax (eN w.1) oO (k_ 5 193) (rQ 8 (Gd w.1 w.2).2.length 35) (eN w.1) (jF (Gd w.1 w.2).1) (.bg []) mz (bG (Gd w.1 w.2).2 2)) 9) (aB Z 85 0))):=by kernel_rfl
noncomputable abbrev NB x0 x1 x2 x3:=aJ [(2,.aa 1 0),(4,.aa 2 0),(11,J x0),(76,.aq x1 x2 6),(77,J (a_ x2)),(78,J x3)]
noncomputable abbrev avv h0 h1 h2 h3 h4 h5 h6 h7 h8 h9 dG eB iV kc:=Oh (eN h0) (.ah [.ad h1 h2 1,h3,.ad h4 h5 1] 153) (k_ 5 193) (rQ h6 h7 35) (eN h0) (jF h8) (.bg []) h9 dG eB iV kc
noncomputable abbrev aar h0 h1(h2:LI) h3(h4:eR) h5 h6 h7 h8 h9:=avv h0 8 h1 (.ad 9 h2.length 1) 10 h3 11 h4.2.length h5 h6 h7 (bG h8 2) h9 (bG h4.2 2)
noncomputable abbrev av5 h0 h1(h2:eR) h3:=aE (avv h0 9 0 h1 11 0 8 h2.2.length h2.1 mz (bG h2.2 2) (.au [] 3) h3 (.au [] 3)) 12
noncomputable abbrev aie h0 h1 h2 h3 h4:=agC Z Pq I9 h0 h1 1000 85 8 7 h2 (aB Z 85 h3) h4
theorem aHU{f st bH i L Q}:
 aie L Q (SP st.2.length i) 0 (adG f st bH)=jQ i st.2.length (λcv=>lh 2 (bc st.2) (cv*1) (λn=>∃bm,∃bS,∃dn,Ti st.1 n bm bS dn (∃fx,∃rD,∃zW,Ti st.1 n fx rD zW (gT (decide (bS<zW)) (OA bH bH (L (SP st.2.length (wI (i+1))) (av5 f (.ad 10 (bH.length+1) 1) st (.au (bc bH++[J n]) 2)) (aB Z 85 0))) L (SP st.2.length (wI (i+1))) (av5 f (ej 10 bH) st (bG bH 2)) 85 0)))) (∃w:List (Int×fq)×LI,(Ct (ej 0 bH) (oJ 123 1) (.ad 0 w.2.length 1)/\jv (bG bH 2) (k_ 2 193) (jF st.1)=hS w.1 w.2/\w.2.length<400000)/\L (NB 0 (bX f.bo) f.bo.length 0) (aE (aar f 0 bH 0 st w.1 mz (.au [] 3) (c_ (kS w.1) w.2) (.au [] 3)) 12) (aB Z 85 1)):=by kernel_rfl
noncomputable abbrev ZL x0 x1 x2 x3 x4:=aJ [(2,.aa 1 0),(4,.aa 2 0),(11,J x0),(14,J x1),(76,.aq x2 x3 6),(77,J (a_ x3)),(78,J x4)]
noncomputable abbrev S_(h0:LI)(h1:LT) h2 h3 h4(h5:Int) h6 h7 h8(h9:eR) dG eB:=pn (bc h0).length h0.length 1 (h1 (NB h2 h3 h4 (wI (h5+1))) (aE (aar h6 h7 h8 (h0.length+1) h9 h9.1 mz dG h8 (.au (bc h0++[J eB]) 3)) 12) (aB Z 85 1))
noncomputable abbrev air h0 h1 h2(h3:LI)(h4:eR) h5 h6:=aE (aar h0 h1 h2 h3.length h4 h4.1 h5 h6 h2 (bG h3 3)) 12
theorem aHW{f st cS bH aQ c i gs gl L Q}:
 aie L Q (NB c gs gl i) 1 (Bh f st cS bH aQ)=jQ i gl (λcv=>NO gs cv (λn=>λs=>λbm=>λbS=>λcs=>λlen=>λdn=>OA cS cS (aZ (n==1) (L (ZL c 0 gs gl i) (air f (cS.length+1) bH aQ st mz (.au (bc cS++[J c]) 3)) (aB Z 85 2)) (S_ aQ L c gs gl i f (cS.length+1) bH st (.au (bc cS++[J c]) 3) 0)))) (Q (Eu [ej 8 cS,ej 9 bH,ej 10 aQ] 0) (air f cS.length bH aQ st (.bg []) (bG cS 3))):=by kernel_rfl
theorem aHY{f st cS bH aQ c i k gs gl L Q}:
 aie L Q (ZL c k gs gl i) 2 (Bh f st cS bH aQ)=sX k bH 2 (λn=>∃bm,∃bS,∃dn,Ti st.1 n bm bS dn (aZ (decide (dn>c)) (L (ZL c (wI (k+1)) gs gl i) (air f cS.length bH aQ st mz (bG cS 3)) (aB Z 85 2)) (S_ aQ L (wI (c+1)) gs gl i f cS.length bH st (bG cS 3) k))) (S_ aQ L (wI (c+1)) gs gl i f cS.length bH st (bG cS 3) k):=by kernel_rfl
noncomputable def yL(f:bN)(st:eR)(c1:LV)(ext:List (Nat×aO)):List (Nat×aO):=[(0,eN f),(1,.ah c1 153),(2,.ah [.aS 5] 193),(3,.ah [.ad 8 st.2.length 1] 35),(4,eN f),(5,jF st.1),(6,.bg []),(7,mz),(8,tR st.2)]++ext
noncomputable def Fk(f:bN)(st:eR)(cS bH aQ:LI):AH:=aE [(0,eN f),(1,.ah [.ad 8 cS.length 1,.ad 9 bH.length 1,.ad 10 aQ.length 1] 153),(2,.ah [.aS 5] 193),(3,.ah [.ad 11 st.2.length 1] 35),(4,eN f),(5,jF st.1),(6,.bg []),(7,.bg []),(8,bG cS 3),(9,bG bH 2),(10,bG aQ 3),(11,tR st.2)] 12
def JL(c:lq):AV:=.aL [.aj [.ad 8 c.cS.length 1,.ad 9 c.bH.length 1,.ad 10 c.aQ.length 1],J 0]
theorem arL:∀c gs,(yO c gs).length=gs.length
 |c,[]=>rfl
 |c,g::gs=>by simp[yO,arL _ gs]
section
variable{f:bN}{st:eR}{aC:lq}
theorem aHZ{bH cS aQ}{c i:Nat}{gs gl}(hp:bH.length<400000)(hv:aQ.length<1200000)(hc:c<1200000)(hi:i<1200000){N}(hN:F9 st.1 c bH=N)(next:iB [.pr 7] Z 85 120 8 (JL aC) (Fk f st aC.cS aC.bH aC.aQ) (NB ((c+1:Nat):Int) gs gl ((i+1:Nat):Int)) (Bh f st cS bH (aQ++[(N:Int)])) (aB Z 85 1)):
 ∀k:LI×LI,(k.1++k.2=bH/\k.1.length+F9 st.1 c k.2=N)->
 iB [.pr 7] Z 85 120 8 (JL aC) (Fk f st aC.cS aC.bH aC.aQ) (ZL (c:Int) (k.1.length:Int) gs gl (i:Int)) (Bh f st cS bH aQ) (aB Z 85 2):=by
 refine dj (λk=>k.2.length) _ _ _ _ ?_;rintro⟨A,B⟩ ⟨h1,h2⟩ ih;subst h1;simp at hp;have l8:wI ((c:Int)+1)=((c+1:Nat):Int):=pk (kr _) (by omega);have sA:wI ((i:Int)+1)=((i+1:Nat):Int):=pk (kr _) (by omega);have hw3:wI ((A.length:Int)+1)=((A.length+1:Nat):Int):=pk (kr _) (by omega);have zD:(List.length (bc aQ)=(List.length aQ)*1)/\((List.length aQ)+1<=4194304)/\(true=true)/\true=true:=⟨by simp[xE],by omega,rfl,rfl⟩;have aD:A.length=N->iB [.pr 7] Z 85 120 8 (JL aC) (Fk f st aC.cS aC.bH aC.aQ) (NB ((c+1:Nat):Int) gs gl ((i+1:Nat):Int)) (Bh f st cS (A++B) (aQ++[(A.length:Int)])) (aB Z 85 1):=by intro e;rw[e];exact next
 simp only[Bh,bG,Np,cj,dJ,gH,lx]at aD;refine adW iH KD (n:=1000) (aQ:=I9) (by decide) (by kernel_rfl) ?_;refine cast aHY.symm ?_;delta aar S_;rw[l8,sA,hw3];refine ja (λh=>?_) (λh=>?_)
 .have h:=cP h;cases B with
  |nil=>simp at h
  |cons v B=>
   have⟨a1,b1,c1,d1,e1,f1⟩:=XZ st.1 v;have hk:kS st.1 v=c1:=by rw[kS,f1]
   refine⟨A.length,rfl,by simp,v,uV rfl,a1,b1,c1,d1,e1,ja (λhh=>?_) (λhh=>⟨zD,?_⟩)⟩
   .have hh:=cP hh;have:=ih (A++[v],B) ⟨by simp,by have h2:=h2;simp only[F9,hk,aP hh]at h2;simp;omega⟩ (by simp);simp at this;exact this
   .have hh:=c9 hh;simp only[F9,hk,aw hh]at h2;have:=aD (by omega);simp at this⊢;exact this
 .have h:=c9 h;cases B with
  |cons v B=>simp at h;omega
  |nil=>simp only[F9]at h2;have:=aD (by omega);refine⟨zD,?_⟩;simp at this⊢;exact this
theorem aHX{gs}(hl:cV gs.length)(ho:∀g∈gs,sE g)(hG:gs.length<400000)(hp:aC.bH.length<400000):
 ∀p:Nat×Nat×LI×LI,(p.1<=gs.length/\p.2.1<=p.1/\p.2.2.1.length=p.1/\p.2.2.2.length=p.1/\p.2.2.1++yO p.2.1 (gs.drop p.1)=aC.cS/\p.2.2.2++F8 st.1 aC.bH p.2.1 (gs.drop p.1)=aC.aQ)->
 iB [.pr 7] Z 85 120 8 (JL aC) (Fk f st aC.cS aC.bH aC.aQ) (NB (p.2.1:Int) (bX gs) gs.length (p.1:Int)) (Bh f st p.2.2.1 aC.bH p.2.2.2) (aB Z 85 1):=by
 refine dj (λp=>gs.length-p.1) _ _ _ _ ?_;rintro⟨i,c,cS,aQ⟩ ⟨hi,hc,vE,vA,h1,h2⟩ ih;simp only at hi hc vE vA h1 h2 ih⊢;refine adW iH KD (n:=1000) (aQ:=I9) (by decide) (by kernel_rfl) ?_;refine cast aHW.symm ?_;delta S_;refine ja (λae=>?_) (λaY=>?_)
 .have ae:i<gs.length:=by have:=cP ae;simpa using this
  have⟨k,nm,ar,an,ls,v,he,bP,aN⟩:=Fz ae ho;rw[fu ae,he]at h1 h2;simp only[yO,F8]at h1 h2;refine⟨i,rfl,ae,k,nm,ar,an,_,_,v,bP,⟨by simp[xE],by omega,rfl,rfl⟩,ja (λhk=>?_) (λhk=>?_)⟩
  .have hk:k=1:=by simpa using hk
   simp only[hk,if_true]at h1 h2;have nx:=ih (i+1,c+1,cS++[(c:Int)],aQ++[(F9 st.1 c aC.bH:Int)]) ⟨by simp only;omega,by simp only;omega,by simp[vE],by simp[vA],by rw[<-h1];simp,by rw[<-h2];simp⟩ (by simp only;omega);have:=aHZ hp (by omega) (by omega) (by omega) rfl nx ([],aC.bH) ⟨rfl,by simp⟩;simp only[Bh,bG,Np,cj,dJ,gH,lx]at this;exact this
  .have hk:¬k=1:=by simpa using hk
   simp only[hk,if_false]at h1 h2;have nx:=ih (i+1,c,cS++[(c:Int)],aQ++[(0:Int)]) ⟨by simp only;omega,by simp only;omega,by simp[vE],by simp[vA],by rw[<-h1];simp,by rw[<-h2];simp⟩ (by simp only;omega);simp only[Bh,bG,Np,cj,dJ,gH,lx]at nx;rw[lB hl ae];exact⟨⟨by simp[xE],by omega,rfl,rfl⟩,nx⟩
 .have aY:gs.length<=i:=by have:=c9 aY;simp at this;omega
  rw[gf aY]at h1 h2;simp only[yO,F8,jt]at h1 h2;subst h1 h2;exact aA
theorem aHV(hl:cV f.bo.length)(ho:∀g∈f.bo,sE g)(hG:f.bo.length<400000)(hod:st.2.length<400000)(hfp:aC.bH=c_ (kS st.1) (st.2.filter (Lg st.1)))(Mn:aC.cS=yO 0 f.bo)(pK:aC.aQ=F8 st.1 aC.bH 0 f.bo):
 ∀k:LI×LI×LI,(k.1++k.2.1=st.2/\k.2.2=k.1.filter (Lg st.1))->
 iB [.pr 7] Z 85 120 8 (JL aC) (Fk f st aC.cS aC.bH aC.aQ) (SP st.2.length (k.1.length:Int)) (adG f st k.2.2) (aB Z 85 0):=by
 refine dj (λk=>k.2.1.length) _ _ _ _ ?_;rintro⟨A,B,bH⟩ ⟨h1,h2⟩ ih;simp only at h1 h2 ih⊢;have zC:A.length+B.length=st.2.length:=by rw[<-h1];simp
 have kL:bH.length<=A.length:=by rw[h2];exact List.length_filter_le _ _
 refine adW iH KD (n:=1000) (aQ:=I9) (by decide) (by kernel_rfl) ?_;refine cast aHU.symm ?_;refine ja (λh=>?_) (λh=>?_)
 .have h:=cP h;cases B with
  |nil=>simp at zC;simp at h;omega
  |cons v B=>
   have⟨a1,b1,c1,d1,e1,f1⟩:=XZ st.1 v;have hw:wI ((A.length:Int)+1)=((A.length+1:Nat):Int):=pk (kr _) (by omega);refine⟨A.length,rfl,by simp at zC;omega,v,by rw[<-h1];exact uV rfl,a1,b1,c1,d1,e1,a1,b1,c1,d1,e1,?_⟩;rw[hw];have FH:Lg st.1 v=decide (b1<c1):=by simp[Lg,ae1,f1]
   refine ja (λhh=>⟨⟨by simp[xE],by omega,rfl,rfl⟩,?_⟩) (λhh=>?_)
   .have:=ih (A++[v],B,bH++[v]) ⟨by rw[<-h1];simp,by rw[h2,Gr];simp only[xy,List.filter_nil,FH,hh,if_true]⟩ (by simp);simp only[adG,bG,Np,cj,dJ,gH,lx]at this;exact this
   .have:=ih (A++[v],B,bH) ⟨by rw[<-h1];simp,by rw[h2,Gr];simp only[xy,List.filter_nil,FH,hh];simp⟩ (by simp);simp at this;exact this
 .have h:=c9 h;cases B with
  |cons v B=>simp at zC;simp at h;omega
  |nil=>simp at h1;rw[h1]at h2;rw[<-h2]at hfp;have zN:(c_ (kS st.1) bH).length=bH.length:=sO _ _;refine⟨(st.1,bH),⟨rfl,rfl,by simp only;omega⟩,?_⟩;have:=aHX (f:=f) (st:=st) hl ho hG (by rw[hfp,zN];omega) (0,0,[],[]) ⟨by simp,by simp,rfl,rfl,by simp[Mn],by simp[<-pK]⟩;rw[hfp]at this⊢;simp only[Bh,zN]at this;exact this
end
theorem aN9(f st a b c):
 nD 0 [8,9,10] (Fk f st a b c)=some ⟨[(8,0),(9,1),(10,2)],hCh ⟨a,b,c⟩⟩:=by kernel_rfl
theorem arF(f st):(Gd f st).2.length<=st.2.length+bz f.cg+fv f.bo:=by
 have key:∀(gs:gy) (c:Nat) (st:eR),(Ge c st gs).2.length<=st.2.length+fv gs:=by
  intro gs;induction gs with
  |nil=>intro c st;simp[Ge]
  |cons g gs ih=>intro c st;have h1:=arG c st g;have h2:=ih (if g.gq=1 then c+1 else c) (DN c st g);simp only[Ge,fv];omega
 have h1:=M4 0 st f.cg;have h2:=key f.bo 0 (nZ 0 st f.cg);unfold Gd;omega
theorem aw5:aF Z R26:=by
 refine bY KD ?_;rintro f args H ⟨rfl,rfl,ho,hv,ca⟩;have hg:=Wo f.bo;have hod:(o_ f).2.length<=bz f.cg+fv f.bo:=by have:=arF f ([],[]);simp at this;exact this
 have tL:bC Z 85 [.aj (iE f)] ay (JL (ft f)) (Fk f (o_ f) (ft f).cS (ft f).bH (ft f).aQ):=by
  refine eE 120 KD aH0 ?_;have hd:HU kO (iE f)=true:=by rw[Vx];exact hv
  refine⟨⟨rfl,⟨f,rfl,ho⟩⟩,ja (λh=>(by have h:(!HU kO (iE f))=true:=h;rw[hd]at h;cases h)) (λ_=>⟨f,aA,?_⟩)⟩;refine qk (H:=aE [(0,eN f),(1,oO),(2,.ah [.aS 5] 193),(3,.ah [.aM] 35),(4,eN f),(5,jF [])] 6) (H':=aE ([(0,eN f),(1,oO),(2,.ah [.aS 5] 193),(3,.ah [.ad 6 0 1] 35),(4,eN f),(5,jF [])]++[(6,.au [] 2)]) (6+1)) ?_ (tM (g:=3) (vs:=[.aM]) (eA:=[.ad 6 0 1]) (el:=35) rfl (λid=>by simp only[cH];by_cases h:id=3<;>simp[h]) rfl (λI x hx=>by obtain⟨v,l,rfl,h1,h2⟩:=hx;exact⟨v,l,rfl,r9 h1,h2⟩) aA)
  .have HQ:ba Z 85 120 0 (JL (ft f)) (Fk f (o_ f) (ft f).cS (ft f).bH (ft f).aQ) (ag5) (aec f) (Ss Z 85 0):=by
    refine aCk (H:=aec f) iH KD (n:=1000) (aQ:=I9) (eh _) (by kernel_rfl) ?_;rw[aH1];refine⟨(f,([],[])),⟨rfl,rfl,ho,by simp;omega⟩,by decide,?_⟩;have afw:∀(I:bZ) (x:List Value) (a b c a' b' c':AV),(∀y,VR I a y->VR I a' y)->(∀y,VR I b y->VR I b' y)->(∀y,VR I c y->VR I c' y)->bf I [a,b,c] x->bf I [a',b',c'] x:=by rintro I x a b c a' b' c' h1 h2 h3 ⟨v1,l1,rfl,k1,v2,l2,rfl,k2,v3,l3,rfl,k3,h4⟩;exact⟨v1,_,rfl,h1 _ k1,v2,_,rfl,h2 _ k2,v3,_,rfl,h3 _ k3,h4⟩
    refine Ml (H:=aE (yL f (o_ f) [.aM,.aM,.aM] []) 9) (H':=aE (yL f (o_ f) [.ad 9 0 1,.aM,.aM] []++[(9,.au [] 3)]) (9+1)) ?_ (tM (g:=1) (l:=yL f (o_ f) [.aM,.aM,.aM] []) (l':=yL f (o_ f) [.ad 9 0 1,.aM,.aM] []) (vs:=[.aM,.aM,.aM]) (eA:=[.ad 9 0 1,.aM,.aM]) (el:=153) rfl (λid=>by simp only[yL,jt,cH];by_cases h:id=1<;>simp[h]) rfl (λI x hx=>afw I x _ _ _ _ _ _ (λ_=>r9) (λ_ h=>h) (λ_ h=>h) hx) aA) (by kernel_rfl) ⟨(show 7<8 by omega),trivial⟩;refine Ml (H:=aE (yL f (o_ f) [.ad 9 0 1,.aM,.aM] [(9,.au [] 3)]) 10) (H':=aE (yL f (o_ f) [.ad 9 0 1,.ad 10 0 1,.aM] [(9,.au [] 3)]++[(10,.au [] 2)]) (10+1)) ?_ (tM (g:=1) (l:=yL f (o_ f) [.ad 9 0 1,.aM,.aM] [(9,.au [] 3)]) (l':=yL f (o_ f) [.ad 9 0 1,.ad 10 0 1,.aM] [(9,.au [] 3)]) (eA:=[.ad 9 0 1,.ad 10 0 1,.aM]) rfl (λid=>by simp only[yL,j3,rG,cH];by_cases h:id=1<;>simp[h]) rfl (λI x hx=>afw I x _ _ _ _ _ _ (λ_ h=>h) (λ_=>r9) (λ_ h=>h) hx) aA) (by kernel_rfl) ⟨(show 7<8 by omega),trivial⟩;refine Ml (H':=aE (yL f (o_ f) [.ad 9 0 1,.ad 10 0 1,.ad 11 0 1] [(9,.au [] 3),(10,.au [] 2)]++[(11,.au [] 3)]) (11+1)) ?_ (tM (g:=1) (eA:=[.ad 9 0 1,.ad 10 0 1,.ad 11 0 1]) rfl (λid=>by simp only[yL,j3,rG,cH];by_cases h:id=1<;>simp[h]) rfl (λI x hx=>afw I x _ _ _ _ _ _ (λ_ h=>h) (λ_ h=>h) (λ_=>r9) hx) aA) (by kernel_rfl) ⟨(show 7<8 by omega),trivial⟩;exact aHV ho.2.2.2.1 ho.2.2.2.2 (by omega) (by omega) rfl rfl rfl ([],(o_ f).2,[]) ⟨by simp,by simp⟩
   exact HQ
 refine kJ tL (aN9 f (o_ f) (ft f).cS (ft f).bH (ft f).aQ) ?_;rfl
end Go.Cl
namespace Go.Cl
open Go.Ev Go.Proofs
noncomputable section
structure cp(n:Nat)(m m':Em):Prop where
 tr:∃l:iN,m'.bq=l.foldl rh m.bq/\l.length<=n/\∀i∈l,i.op≠19/\i.op≠20
 f:m'.f=m.f
theorem cp.AI(m):cp 0 m m:=⟨⟨[],rfl,ct _,λ_ h=>by cases h⟩,rfl⟩
theorem cp.fJ{m m'}(h:m'.bq=m.bq)(hf:m'.f=m.f):cp 0 m m':=⟨⟨[],h,ct _,λ_ h=>by cases h⟩,hf⟩
theorem cp.oi{a b m m1 m2}(h1:cp a m m1)(h2:cp b m1 m2):cp (a+b) m m2:=by
 have⟨⟨l1,e1,n1,p1⟩,f1⟩:=h1;have⟨⟨l2,e2,n2,p2⟩,f2⟩:=h2;refine⟨⟨l1++l2,by rw[Gy,<-e1,e2],by simp;omega,λi hi=>?_⟩,f2.trans f1⟩;rcases iK.1 hi with h|h
 .exact p1 i h
 .exact p2 i h
theorem cp.le{a b m m'}(h:cp a m m')(hab:a<=b):cp b m m':=by have⟨⟨l,e,n,p⟩,f⟩:=h;exact⟨⟨l,e,by omega,p⟩,f⟩
theorem cp.bj(m){i}(h:i.op≠19/\i.op≠20):cp 1 m (m.bj i):=⟨⟨[i],rfl,ct _,λj hj=>by simp at hj;subst hj;exact h⟩,rfl⟩
theorem cp.aaP(m):cp 0 m m.bR:=.fJ rfl rfl
theorem cp.ku(m v):cp 0 m (m.ku v):=.fJ rfl rfl
theorem cp.DJ(m v):cp 0 m (m.DJ v):=.fJ rfl rfl
theorem cp.pj(m){v a b c}(h1:a≠19/\a≠20)(h2:b≠19/\b≠20):cp 1 m (m.pj v a b c):=by
 have:cp (0+1+0) m (((m.ku v).bj ⟨bif m.tF v then b else a,m.pg v,c,0,[],0⟩).DJ v):=((cp.ku m v).oi (.bj _ (by
  cases m.tF v
  .exact h1
  .exact h2))).oi (.DJ _ v)
 exact this
theorem cp.zA(m w):cp 1 m (m.zA w):=by
 unfold Em.zA;split
 .exact .pj m (by decide) (by decide)
 .exact(cp.AI m).le (by omega)
theorem cp.yT(m w):cp 1 m (m.yT w):=by
 unfold Em.yT;split
 .exact .pj m (by decide) (by decide)
 .exact .bj m (by simp)
theorem cp.nM(m t b):cp 1 m (m.nM t b):=by
 unfold Em.nM;split
 .split
  .exact .pj m (by decide) (by decide)
  .exact .bj m (by simp)
 .split
  .exact .bj m (by simp)
  .split
   .exact .bj m (by simp)
   .exact .bj m (by simp)
theorem cp.vg:∀l m,cp l.length m (m.vg l)
 |[],m=>.AI m
 |(t,b)::l,m=>by have h:=(cp.nM m t b).oi (cp.vg l (m.nM t b));simp at h⊢;exact h.le (by omega)
mutual
theorem cp.build:∀(m:Em) (r:Int) (t:ax),cp (2*bp t-1) m (m.qN r t)
 |m,r,.mk k n s l=>by
  have h1:=cp.kG m l;have hq:=MO l;have h2:=cp.bj (m.kG l).1 (i:=⟨15,r,0,0,s,l.length⟩) (by simp);have h3:=cp.vg (l.zip (m.kG l).2) ((m.kG l).1.bj ⟨15,r,0,0,s,l.length⟩);have h4:(l.zip (m.kG l).2).length<=l.length:=by simp;omega
  simp only[Em.qN,bp];exact((h1.oi h2).oi h3).le (by omega)
theorem cp.kG:∀(m:Em) (l:dF),cp (2*bz l-l.length) m (m.kG l).1
 |m,[]=>by simp only[Em.kG];exact(cp.AI m).le (by omega)
 |m,t::l=>by
  have hp:=uS t;have hq:=MO l;simp only[Em.kG,bz,dJ];split
  .have h1:=cp.build m.bR m.bR.de t;have h2:=cp.kG (m.bR.qN m.bR.de t) l;have h3:=(cp.aaP m).oi (h1.oi h2);exact h3.le (by omega)
  .exact(cp.kG m l).le (by omega)
end
theorem cp.jS(m t):cp (2*bp t-fI (m.jS t).2) m (m.jS t).1:=by
 have hp:=uS t;unfold Em.jS;split
 .simp only[fI];split
  .exact(cp.pj m (by decide) (by decide)).le (by omega)
  .exact(cp.bj m (by simp)).le (by omega)
 .split
  .simp only[fI];exact(cp.bj m (by simp)).le (by omega)
  .split
   .simp only[fI];exact(cp.bj m (by simp)).le (by omega)
   .have⟨k,n,s,l⟩:=t;simp only[fI,ax.aU,bp];exact((cp.aaP m).oi (.bj _ (by simp))).le (by omega)
theorem cp.jT:∀l m q,cp (2*bz l+fI q-fI (m.jT q l).2) m (m.jT q l).1/\fI (m.jT q l).2<=fI q+2*bz l
 |[],m,q=>by simp only[Em.jT,bz];exact⟨(cp.AI m).le (by omega),by omega⟩
 |t::l,m,q=>by have h1:=cp.jS m t;have h2:=cp.jT l (m.jS t).1 (q++(m.jS t).2);have h3:=akT m t;simp only[Em.jT,bz];rw[Sq]at h2;exact⟨(h1.oi h2.1).le (by omega),by omega⟩
theorem cp.yj:∀n m q,cp (fI q) m (m.yj n q)
 |0,m,q=>(cp.AI m).le (by omega)
 |n+1,m,[]=>(cp.AI m).le (by omega)
 |n+1,m,w::q=>by have h1:=cp.bj m (i:=⟨5,0,w.1,0,w.2.cq,w.2.aU.length⟩) (by simp);have h2:=cp.jT w.2.aU (m.bj ⟨5,0,w.1,0,w.2.cq,w.2.aU.length⟩) q;have h3:=cp.yj n ((m.bj ⟨5,0,w.1,0,w.2.cq,w.2.aU.length⟩).jT q w.2.aU).1 ((m.bj ⟨5,0,w.1,0,w.2.cq,w.2.aU.length⟩).jT q w.2.aU).2;simp only[Em.yj,fI];exact((h1.oi h2.1).oi h3).le (by omega)
theorem cp.get(m w):cp (2*bp w.2) m (m.uk w):=by
 have hp:=uS w.2;unfold Em.uk;split
 .exact(cp.zA m w).le (by omega)
 .split
  .exact(cp.bj m (by simp)).le (by omega)
  .split
   .exact(cp.bj m (by simp)).le (by omega)
   .have:=cp.yj (fI [w]+1) m [w];have⟨r,k,n,s,l⟩:=w;simp only[fI,ax.aU]at this;simp only[Em.LU,bp,fI,ax.aU];exact this.le (by omega)
theorem cp.kK:∀l i m,cp (2*bz l) m (Em.kK i m l)
 |[],i,m=>(cp.AI m).le (by omega)
 |t::l,i,m=>by have h:=(cp.get m (((i+1:Nat):Int),t)).oi (cp.kK l (i+1) (m.uk (((i+1:Nat):Int),t)));simp only[Em.kK,bz]at h⊢;exact h.le (by omega)
theorem cp.put(m w):cp (2*bp w.2) m (m.qO w):=by
 have hp:=uS w.2;unfold Em.qO;split
 .exact(cp.yT m w).le (by omega)
 .split
  .exact(cp.bj m (by simp)).le (by omega)
  .split
   .exact(cp.bj m (by simp)).le (by omega)
   .exact(cp.build m w.1 w.2).le (by omega)
theorem cp.gj:∀l i m,cp (2*bz l) m (Em.gj i m l)
 |[],i,m=>(cp.AI m).le (by omega)
 |t::l,i,m=>by have h:=(cp.put m (((i+1:Nat):Int),t)).oi (cp.gj l (i+1) (m.qO (((i+1:Nat):Int),t)));simp only[Em.gj,bz]at h⊢;exact h.le (by omega)
theorem cp.dm(m e):cp 1 m (m.dm e):=by
 cases e
 .exact(cp.AI m).le (by omega)
 .exact .bj m (by simp)
theorem cp.oY(m w)(h:w.1≠19/\w.1≠20):cp 2 m (m.oY w):=by
 unfold Em.oY;cases m.tF w.2
 .exact((cp.ku m w.2).oi ((cp.bj _ h).oi (.DJ _ w.2))).le (by omega)
 .exact((((cp.aaP m).oi (cp.bj _ h)).oi (.ku _ w.2)).oi (.bj _ (by simp))).le (by omega)
theorem cp.cut(m v):cp 1 m (m.uj v):=by
 unfold Em.uj;cases m.tF v
 .exact(cp.AI m).le (by omega)
 .exact((cp.ku m v).oi (.bj _ (by simp))).le (by omega)
def oB:gy->Nat
 |[]=>0
 |g::l=>(if g.gq=1 then 1 else 0)+oB l
theorem acv(a b):iw (a++b)=iw a+iw b:=by simp[iw]
theorem PH(c i):iw (rh c i)<=iw c+(if i.op=19 then 1 else 0):=by
 have one:∀j:iM,iw [j]=if j.op=19 then 1 else 0:=by intro j;by_cases h:j.op=19<;>simp[iw,h]
 have s_:iw (c++[i])=iw c+(if i.op=19 then 1 else 0):=by rw[acv,one]
 unfold rh;split
 .split;next dG x hx=>
   split;next aC9=>
    obtain⟨d,rfl⟩:∃d,c=d++[x]:=by
     have cx:c≠[]:=by rintro rfl;simp at hx
     refine⟨c.dropLast,?_⟩;have:=List.dropLast_concat_getLast cx;rw[List.getLast?_eq_some_getLast cx]at hx;cases hx;exact this.symm
    rw[acv,acv,one,List.dropLast_concat,aw (by simp[aC9])];omega
   .omega
  .omega
 .omega
theorem alp:∀(l c:iN),(∀i∈l,i.op≠19)->iw (l.foldl rh c)<=iw c/\(l.foldl rh c).length<=c.length+l.length
 |[],c,_=>by simp
 |i::l,c,h=>by have h1:=PH c i;rw[aw (h i (by simp))]at h1;have h2:=Fb c i;have h3:=alp l (rh c i) (λj hj=>h j (by simp[hj]));simp;exact⟨by omega,by omega⟩
theorem cp.wB{n m m'}(h:cp n m m'):iw m'.bq<=iw m.bq/\m'.bq.length<=m.bq.length+n:=by
 have⟨⟨l,e,hl,hp⟩,_⟩:=h;have:=alp l m.bq λi hi=>(hp i hi).1
 rw[<-e]at this;exact⟨this.1,by omega⟩
theorem adB(c base cU):∀l i size m,
 iw (Em.bo c base cU i size m l).bq<=iw m.bq+oB l/\(Em.bo c base cU i size m l).bq.length<=m.bq.length+qi l/\(Em.bo c base cU i size m l).f=m.f
 |[],i,size,m=>by have h:=((cp.dm m cU).oi (cp.bj (m.dm cU) (i:=⟨21,0,0,0,[],0⟩) (by simp)));have hb:=h.wB;simp only[Em.bo,oB,qi];exact⟨by omega,by omega,h.f⟩
 |g::l,i,size,m=>by
  have next:∀(m1:Em) (SA:Int) (k n:Nat),iw m1.bq<=iw m.bq+k->m1.bq.length<=m.bq.length+n->m1.f=m.f->k<=(if g.gq=1 then 1 else 0)->n<=2*bz g.fT+4->
   iw (Em.bo c base cU (i+1) SA m1 l).bq<=iw m.bq+oB (g::l)/\(Em.bo c base cU (i+1) SA m1 l).bq.length<=m.bq.length+qi (g::l)/\(Em.bo c base cU (i+1) SA m1 l).f=m.f:=by
   intro m1 SA k n h1 h2 h3 h4 h5;have⟨a1,a2,a3⟩:=adB c base cU l (i+1) SA m1;simp only[oB,qi];exact⟨by omega,by omega,a3.trans h3⟩
  have done:∀(m1:Em) (n:Nat),cp n m m1->n<=2*bz g.fT+4->iw m1.bq<=iw m.bq+oB (g::l)/\m1.bq.length<=m.bq.length+qi (g::l)/\m1.f=m.f:=by intro m1 n h hn;have hb:=h.wB;simp only[oB,qi];exact⟨by omega,by omega,h.f⟩
  unfold Em.bo;split
  .have h:=cp.oY m (22,g.qH) (by simp);exact next _ _ 0 2 (by have:=h.wB;omega) h.wB.2 h.f (by omega) (by omega)
  split
  .have h:=cp.oY m (23,g.qH) (by simp);exact next _ _ 0 2 (by have:=h.wB;omega) h.wB.2 h.f (by omega) (by omega)
  split
  .have h:=cp.cut m g.qH;exact next _ _ 0 1 (by have:=h.wB;omega) h.wB.2 h.f (by omega) (by omega)
  split
  .exact done _ 1 (cp.bj m (by simp)) (by omega)
  split;next hk=>
   have hp:=cp.gj g.fT 0 m;cases l with
   |nil=>have h1:=hp.oi (cp.dm _ cU);have hb:=h1.wB;have h2:=PH ((m.gj 0 g.fT).dm cU).bq ⟨20,0,0,g.bh.an,g.bh.eQ,g.bh.ar⟩;have h3:=Fb ((m.gj 0 g.fT).dm cU).bq ⟨20,0,0,g.bh.an,g.bh.eQ,g.bh.ar⟩;simp at h2;simp only[oB,qi];exact⟨lz h2 (by omega),lz h3 (by omega),h1.f⟩
   |cons g' l=>
    simp only;split
    .have h1:=hp.oi (cp.bj (m.gj 0 g.fT) (i:=⟨17,0,0,c.aQ.getD i 0,[],0⟩) (by simp));have hb:=h1.wB;have h2:=PH ((m.gj 0 g.fT).bj ⟨17,0,0,c.aQ.getD i 0,[],0⟩).bq ⟨19,0,0,g.bh.an,g.bh.eQ,g.bh.ar⟩;have h3:=Fb ((m.gj 0 g.fT).bj ⟨17,0,0,c.aQ.getD i 0,[],0⟩).bq ⟨19,0,0,g.bh.an,g.bh.eQ,g.bh.ar⟩;simp only[if_true]at h2;exact next _ _ 1 (2*bz g.fT+2) (lz h2 (by omega)) (lz h3 (by omega)) h1.f (by rw[aP hk];omega) (by omega)
    .have hb:=hp.wB;have h2:=PH (m.gj 0 g.fT).bq ⟨19,0,0,g.bh.an,g.bh.eQ,g.bh.ar⟩;have h3:=Fb (m.gj 0 g.fT).bq ⟨19,0,0,g.bh.an,g.bh.eQ,g.bh.ar⟩;simp at h2;exact next _ _ 1 (2*bz g.fT+1) (lz h2 (by omega)) (lz h3 (by omega)) hp.f (by rw[aP hk];omega) (by omega)
  .exact next _ _ 0 0 (by omega) (by omega) rfl (by omega) (by omega)
theorem U9:∀gs d c,(AT d c gs).length=d.length+1+oB gs
 |[],d,c=>by simp[AT,oB]
 |g::gs,d,c=>by
  unfold AT;split;next h=>have:=U9 gs (d++[max c (g.fT.length:Int)]) 0;simp only[oB,aP h,cj,dJ,gH]at this⊢;omega
  next h=>have:=U9 gs d c;simp only[oB,aw h]at this⊢;omega
theorem aq3:∀gs:gy,oB gs<=gs.length
 |[]=>by simp[oB]
 |g::gs=>by have:=aq3 gs;simp only[oB,dJ];split<;>omega
theorem aqi(sp bH):∀c gs,(F8 sp bH c gs).length=gs.length
 |c,[]=>rfl
 |c,g::gs=>by simp[F8,aqi sp bH _ gs]
theorem arJ:∀(gs c i) (h:i<gs.length),(yO c gs).getD i 0=((c+oB (gs.take i):Nat):Int)/\(gs[i].gq=1->oB (gs.take i)+1<=oB gs)
 |[],c,i,h=>by simp at h
 |g::gs,c,0,h=>by simp only[yO,n6,List.take_zero,oB,qdq];refine⟨by simp,λhk=>?_⟩;rw[aP hk];omega
 |g::gs,c,i+1,h=>by
  have hl:i<gs.length:=by simpa using h
  have:=arJ gs (if g.gq=1 then c+1 else c) i hl;simp only[yO,tY,qei,oB,DS];refine⟨?_,λhk=>?_⟩
  .rw[this.1];split<;>(congr 1;omega)
  .have:=this.2 hk;omega
def lY:gy->gy
 |[]=>[]
 |g::l=>if g.gq=5 then[g]else g::lY l
def bw(f:bN):bN:=⟨f.bh,f.cg,lY f.bo⟩
theorem al9:∀l g,g∈lY l->g∈l
 |[],g,h=>h
 |x::l,g,h=>by
  unfold lY at h;split at h
  .simp at h;subst h;simp
  .rcases dU.1 h with rfl|h
   .simp
   .exact dZ _ (al9 l g h)
theorem Vs:∀l:gy,(lY l).length<=l.length
 |[]=>by simp[lY]
 |x::l=>by have:=Vs l;unfold lY;split<;>simp<;>omega
theorem acM:∀l:gy,fv (lY l)<=fv l
 |[]=>by simp[lY]
 |x::l=>by have:=acM l;unfold lY;split<;>simp only[fv]<;>omega
theorem ama:∀l b left,ym b left l=true->ym b left (lY l)=true
 |[],b,left,h=>h
 |x::l,b,left,h=>by
  unfold lY;simp only[ym,cT]at h;split
  .simp only[ym,h.1.1,h.1.2,mg]
  .simp only[ym,h.1.1,h.1.2,pW];exact ama l _ _ h.2
theorem al8{f}(h:kO f=true):kO (bw f)=true:=by simp only[kO,cT]at h⊢;exact⟨h.1,ama _ _ _ h.2⟩
theorem al7{f}(h:km f):km (bw f):=by refine⟨h.1,h.2.1,h.2.2.1,?_,λg hg=>h.2.2.2.2 g (al9 _ g hg)⟩;have:=Vs f.bo;have:=h.2.2.2.1;unfold cV at*;show(lY f.bo).length<_;omega
end
end Go.Cl
