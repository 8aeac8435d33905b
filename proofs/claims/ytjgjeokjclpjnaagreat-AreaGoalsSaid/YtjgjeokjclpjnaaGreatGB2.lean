/- Part of a proof of AreaGoals. -/
import Derived.Test.YtjgjeokjclpjnaaGreatGB1
set_option linter.all false
set_option linter.unusedSectionVars false
set_option maxRecDepth 100000
namespace Go.Cl
open Go.Ev Go.Proofs
noncomputable section
def rL(n:Int):LI:=(List.range n.toNat).map λ(k:Nat)=>(k:Int)+1
def ym(i:eG)(l:LI)(b:Nat):LI:=
 if b=114 then l++[i.r]else if b=97 then(if i.a∈l then l else l++[i.a])else if b=112 then l++rL i.ar else l
def lD(i:eG)(fs:LN):LI:=if qS i then fs.foldl (ym i) []else[]
def AP(fs:LN):Prop:=fs=[]\/fs=[97]\/fs=[114]\/fs=[114,97]\/fs=[112]
def aco:cq (eG×LN)where
 bh w A H:=A=[.ai (dp w.1),.ad w.2]/\H=an/\AP w.2
 v w:=.aj 0 (lD w.1 w.2).length 1
 aK w:=dJ (lD w.1 w.2)
theorem ayA:aco.ck:=by rintro⟨i,fs⟩ ⟨i',fs'⟩ A H ⟨h1,_⟩ ⟨h2,_⟩;rw[h1]at h2;simp at h2;rw[H4 h2.1,h2.2]
def E6:Ev.bp:=bR 187 (bW aco ayA cB) E5
def F7:Nat->LN:=fh [(4,[1000000]),(14,[2,4,12,39,40])]
def xV(i:eG):bf:=.al [J i.op,J i.r,J i.a,J i.n,.ad i.fx,J i.ar] 56
def Rs(i:eG)(l:LI):AH:=aq [(0,xV i),(1,bH l 3),(2,.uk [112] 1)] 3
theorem amS{i L Q}:
 bC Z E5 F7 L Q 1000 187 [.ai (dp i),.ad []] an=(
 (aq [] 0=an/\True)/\aw (!qS (eG.mk i.op i.r i.a i.n i.fx i.ar)) (Q .aM an) (Q .aM an)):=by kernel_rfl
theorem amT{i L Q}:
 bC Z E5 F7 L Q 1000 187 [.ai (dp i),.ad [97]] an=(
 (aq [] 0=an/\True)/\aw (!qS (eG.mk i.op i.r i.a i.n i.fx i.ar)) (Q .aM an) (aq [] 0=an/\Q (.aj 0 1 1) (jR i.a))):=by kernel_rfl
theorem amV{i L Q}:
 bC Z E5 F7 L Q 1000 187 [.ai (dp i),.ad [114]] an=(
 (aq [] 0=an/\True)/\aw (!qS (eG.mk i.op i.r i.a i.n i.fx i.ar)) (Q .aM an) (Q (.aj 0 1 1) (jR i.r))):=by kernel_rfl
theorem acF{i L Q}:
 bC Z E5 F7 L Q 1000 187 [.ai (dp i),.ad [114,97]] an=(
 (aq [] 0=an/\True)/\aw (!qS (eG.mk i.op i.r i.a i.n i.fx i.ar)) (Q .aM an) ((jR i.r=jR i.r/\1=1)/\aw (!decide (i.a∈[i.r])) (Q (.aj 0 2 1) (aq [(0,.al [J i.r,J i.a] 3)] 1)) (Q (.aj 0 1 1) (jR i.r)))):=by kernel_rfl
theorem amU{i L Q}:
 bC Z E5 F7 L Q 1000 187 [.ai (dp i),.ad [112]] an=(
 (aq [] 0=an/\True)/\aw (!qS (eG.mk i.op i.r i.a i.n i.fx i.ar)) (Q .aM an) (L (bg [(2,.aa 0 0),(4,.aM),(12,.aa 1 0),(39,J i.ar),(40,J 0)]) (aq [(0,xV i),(1,bf.uk [112] (0+1))] 2) (ax Z 187 1))):=by kernel_rfl
abbrev Uk x0 x1 x2:=bg [(2,.aa 0 0),(4,.aj 1 x0 1),(12,.aa 2 0),(39,J x1),(40,J x2)]
theorem az1{i l n k L Q}:
 cg Z E5 F7 L Q 1000 187 0 (Uk l.length n k) (ax Z 187 1) (Rs i l)=(
 aw (decide (k<n)) (((aX l).length=l.length*1/\l.length+1<=4194304/\true=true/\true=true)/\L (Uk (l.length+1) n (wI (k+1))) (aq [(0,xV i),(1,.aA (aX l++[J (wI (k+1))]) 3),(2,bf.uk [112] 1)] 3) (ax Z 187 1)) (Q (.aj 0 l.length 1) (dJ l))):=by kernel_rfl
theorem avY{n}{k:Nat}(h:k=n.toNat):rL (n+1)=rL n++[(k:Int)+1]\/n<0:=by
 rcases Int.lt_or_le n 0 with h1|h1
 .exact .inr h1
 .refine .inl ?_;unfold rL;have:(n+1).toNat=n.toNat+1:=by omega
  rw[this,List.range_succ,qp,h];rfl
theorem ajY(n):(rL n).length=n.toNat:=by simp[rL]
theorem afH{i}(h:qS i=true):0<=i.ar/\i.ar<=4096:=by
 unfold qS at h;by_cases h0:i.op=1\/i.op=2\/i.op=11\/i.op=12
 .rw[aL h0]at h;simp at h;omega
 rw[az h0]at h;by_cases h1:i.op=3\/i.op=13
 .rw[aL h1]at h;simp at h;omega
 rw[az h1]at h;by_cases h2:i.op=4\/i.op=14
 .rw[aL h2]at h;simp at h;omega
 rw[az h2]at h;by_cases h3:i.op=5
 .rw[aL h3]at h;simp only[dc,Uf,DG]at h;omega
 rw[az h3]at h;by_cases h4:i.op=15
 .rw[aL h4]at h;simp only[dc,Uf,DG]at h;omega
 rw[az h4]at h;by_cases h5:i.op=6\/i.op=7\/i.op=22\/i.op=23\/i.op=24
 .rw[aL h5]at h;simp at h;omega
 rw[az h5]at h;by_cases h6:i.op=8
 .rw[aL h6]at h;simp at h;omega
 rw[az h6]at h;by_cases h7:i.op=9
 .rw[aL h7]at h;simp at h;omega
 rw[az h7]at h;by_cases h8:i.op=10
 .rw[aL h8]at h;simp at h;omega
 rw[az h8]at h;by_cases h9:i.op=16\/i.op=17
 .rw[aL h9]at h;simp at h;omega
 rw[az h9]at h;by_cases Cz:i.op=19\/i.op=20
 .rw[aL Cz]at h;simp only[dc,ajI,pC]at h;have⟨h,_⟩:=h;by_cases hn:i.n=0
  .rw[aL hn]at h;simp at h;omega
  .rw[az hn]at h;simp at h;omega
 rw[az Cz]at h;by_cases tG:i.op=18\/i.op=21\/i.op=25
 .rw[aL tG]at h;simp at h;omega
 rw[az tG]at h;cases h
theorem ahw{P f args}(h:bX P f args an .aM an):bX P f args an (.aj 0 0 1) (dJ []):=
 QO h rfl (cE _)
theorem QN{P f args l n}(h:bX P f args an (.aj 0 n 1) (aq [(0,.al (aX l) 3)] 1)):bX P f args an (.aj 0 n 1) (dJ l):=
 Ia (g:=0) h rfl (λφ e o h=>sB (Oe _).2 h) rfl (by show(0:Nat)<=1;omega)
theorem az2{i}(h0:0<=i.ar)(h1:i.ar<=4096):∀k:Nat,((k:Int)<=i.ar)->
 bu Z 187 50 0 (.aj 0 (rL i.ar).length 1) (dJ (rL i.ar)) (Uk (rL k).length i.ar (k:Int)) (Rs i (rL k)) (ax Z 187 1):=by
 refine dF (λk=>i.ar.toNat-k) _ _ _ _ ?_;rintro k hk ih;refine hE An az1 ?_;refine aD (λay=>?_) λbq=>?_
 .have ay:(k:Int)<i.ar:=by simpa using ay
  have e:wI ((k:Int)+1)=((k+1:Nat):Int):=by rw[cH];simp
  have hi:rL ((k:Int)+1)=rL k++[(k:Int)+1]:=(avY (by omega)).resolve_right (by omega);have RY:rL ((k+1:Nat):Int)=rL k++[(k:Int)+1]:=by rw[<-hi];simp
  have bS:=ajY (k:Int);refine⟨⟨by rw[Bv];omega,by omega,rfl,rfl⟩,?_⟩;have next:=ih (k+1) (by simp;omega) (by omega)
  rw[RY,cL]at next
  simp only[Rs,bH,Od]at next
  rw[e];have e3:wI ((k:Int)+1)=(k:Int)+1:=by rw[cH]
  exact next
 .have bq:i.ar<=k:=by simpa using bq
  have:i.ar=k:=by omega
  rw[this];exact⟨rfl,rfl⟩
def ax8:List (Nat×Nat):=[(0,0),(2,1),(1,2)]
theorem api:aS Z E6:=by
 refine cu An ?_;rintro⟨i,fs⟩ args H ⟨rfl,rfl,hf⟩;have hf:=hf;simp only[aco];cases hF:qS i with
 |false=>
  have hr:lD i fs=[]:=by simp[lD,hF]
  rw[hr];have zg:=hF;refine ahw ?_;refine eS An F7 50 ?_;rcases hf with rfl|rfl|rfl|rfl|rfl
  .rw[amS];exact⟨⟨rfl,trivial⟩,aD (λ_=>⟨rfl,rfl⟩) λ_=>⟨rfl,rfl⟩⟩
  .rw[amT];exact⟨⟨rfl,trivial⟩,aD (λ_=>⟨rfl,rfl⟩) λh=>by rw[zg]at h;cases h⟩
  .rw[amV];exact⟨⟨rfl,trivial⟩,aD (λ_=>⟨rfl,rfl⟩) λh=>by rw[zg]at h;cases h⟩
  .rw[acF];exact⟨⟨rfl,trivial⟩,aD (λ_=>⟨rfl,rfl⟩) λh=>by rw[zg]at h;cases h⟩
  .rw[amU];exact⟨⟨rfl,trivial⟩,aD (λ_=>⟨rfl,rfl⟩) λh=>by rw[zg]at h;cases h⟩
 |true=>
  have zg:=hF;rcases hf with rfl|rfl|rfl|rfl|rfl
  .have hr:lD i []=[]:=by simp[lD]
   rw[hr];refine ahw ?_;refine eE 50 An amS ?_;exact⟨⟨rfl,trivial⟩,aD (λ_=>⟨rfl,rfl⟩) λ_=>⟨rfl,rfl⟩⟩
  .have hr:lD i [97]=[i.a]:=by simp[lD,hF,ym]
   rw[hr];refine QN ?_;refine eE 50 An amT ?_;exact⟨⟨rfl,trivial⟩,aD (λh=>(by rw[zg]at h;cases h)) λ_=>⟨rfl,rfl,rfl⟩⟩
  .have hr:lD i [114]=[i.r]:=by simp[lD,hF,ym]
   rw[hr];refine QN ?_;refine eE 50 An amV ?_;exact⟨⟨rfl,trivial⟩,aD (λh=>(by rw[zg]at h;cases h)) λ_=>⟨rfl,rfl⟩⟩
  .by_cases ha:i.a=i.r
   .have hr:lD i [114,97]=[i.r]:=by simp[lD,hF,ym,ha]
    rw[hr];refine QN ?_;refine eE 50 An acF ?_;exact⟨⟨rfl,trivial⟩,aD (λh=>(by rw[zg]at h;cases h)) λ_=>⟨⟨rfl,rfl⟩,aD (λh=>(by simp[ha]at h)) λ_=>⟨rfl,rfl⟩⟩⟩
   .have hr:lD i [114,97]=[i.r,i.a]:=by simp[lD,hF,ym,ha]
    rw[hr];refine QN ?_;refine eE 50 An acF ?_;exact⟨⟨rfl,trivial⟩,aD (λh=>(by rw[zg]at h;cases h)) λ_=>⟨⟨rfl,rfl⟩,aD (λ_=>⟨rfl,rfl⟩) λh=>(by simp[ha]at h)⟩⟩
  .have hr:lD i [112]=rL i.ar:=by simp[lD,hF,ym]
   rw[hr];have hb:=afH hF;refine eE 50 An amU ?_;refine⟨⟨rfl,trivial⟩,aD (λh=>(by rw[zg]at h;cases h)) λ_=>?_⟩;refine AY 1 3 [4] ?_ rfl;refine cj.tb (by kernel_rfl) (mw:=[0,2,1]) (l:=[2,4,12,39,40]) (ps:=ax8) (H2:=Rs i []) (t:=Uk 0 i.ar 0) (by kernel_rfl) (by kernel_rfl) ?_;exact az2 hb.1 hb.2 0 (by simpa using hb.1)
abbrev E7:Ev.bp:=E6
def e_(i:eG):LI:=lD i (qs i.op).1.2.2.2.1
def fB(i:eG):LI:=lD i (qs i.op).1.2.2.2.2
def rdX:cq eG where
 bh i A H:=A=[.ai (dp i)]/\H=an
 v i:=.aj 0 (e_ i).length 1
 aK i:=dJ (e_ i)
def wrX:cq eG where
 bh i A H:=A=[.ai (dp i)]/\H=an
 v i:=.aj 0 (fB i).length 1
 aK i:=dJ (fB i)
theorem afw{i i'}{A:LV}(h1:A=[.ai (dp i)])(h2:A=[.ai (dp i')]):i=i':=by rw[h1]at h2;simp at h2;exact H4 h2
theorem ayt:rdX.ck:=by rintro i i' A H ⟨h1,_⟩ ⟨h2,_⟩;rw[afw h1 h2]
theorem aGt:wrX.ck:=by rintro i i' A H ⟨h1,_⟩ ⟨h2,_⟩;rw[afw h1 h2]
def E8:Ev.bp:=bR 174 (bW rdX ayt cB) E7
def E9:Ev.bp:=bR 175 (bW wrX aGt cB) E8
abbrev E10:Ev.bp:=E9
abbrev Hb:Ev.bp:=E10
theorem azH{i L Q}:
 bC Z E7 (λ_=>[]) L Q 1000 174 [.ai (dp i)] an=(
 ∃w:Int×ry×Bool,(([J i.op]:LV)=[J w.1]/\aq [] 0=an/\qs w.1=w.2)/\(∃ae:eG×LN,(([.ai (dp i),.ad w.2.1.2.2.2.1]:LV)=[.ai (dp ae.1),.ad ae.2]/\aq [] 0=an/\AP ae.2)/\Q (.aj 0 (lD ae.1 ae.2).length 1) (dJ (lD ae.1 ae.2)))):=by kernel_rfl
theorem azI{i L Q}:
 bC Z E8 (λ_=>[]) L Q 1000 175 [.ai (dp i)] an=(
 ∃w:Int×ry×Bool,(([J i.op]:LV)=[J w.1]/\aq [] 0=an/\qs w.1=w.2)/\(∃ae:eG×LN,(([.ai (dp i),.ad w.2.1.2.2.2.2]:LV)=[.ai (dp ae.1),.ad ae.2]/\aq [] 0=an/\AP ae.2)/\Q (.aj 0 (lD ae.1 ae.2).length 1) (dJ (lD ae.1 ae.2)))):=by kernel_rfl
theorem ael:aS Z E7:=api
theorem ayR:∀r∈DU,AP r.2.2.2.1/\AP r.2.2.2.2:=by intro r hr;simp only[DU,dK,List.mem_nil_iff,or_false]at hr;rcases hr with rfl|rfl|rfl|rfl|rfl|rfl|rfl|rfl|rfl|rfl|rfl|rfl|rfl|rfl|rfl|rfl|rfl|rfl|rfl|rfl|rfl|rfl|rfl|rfl|rfl<;>simp[AP]
theorem J3(k):AP (qs k).1.2.2.2.1/\AP (qs k).1.2.2.2.2:=by
 unfold qs;cases hs:yu k with
 |none=>exact⟨.inl rfl,.inl rfl⟩
 |some r=>exact ayR r (acO hs)
theorem aem:aS Z E8:=by refine cu ael ?_;rintro i args H ⟨rfl,rfl⟩;refine eE 15 ael azH ?_;exact⟨(i.op,qs i.op),⟨rfl,rfl,rfl⟩,(i,(qs i.op).1.2.2.2.1),⟨rfl,rfl,(J3 _).1⟩,rfl,rfl⟩
theorem apj:aS Z E9:=by refine cu aem ?_;rintro i args H ⟨rfl,rfl⟩;refine eE 15 aem azI ?_;exact⟨(i.op,qs i.op),⟨rfl,rfl,rfl⟩,(i,(qs i.op).1.2.2.2.2),⟨rfl,rfl,(J3 _).2⟩,rfl,rfl⟩
theorem ape:aS Z E10:=apj
theorem Kz:aS Z Hb:=ape
def Eg(l:LI)(wr:List (Int×Bool)):List (Int×Bool):=l.foldl (λm r=>up r true m) wr
def fq(wr:List (Int×Bool))(r:Int):Bool:=(lk r wr).getD false
def xq(base:Int)(wr:List (Int×Bool))(r:Int):Bool:=decide (r>base)&& !fq wr r
def Ed(base:Int):List (Int×Bool)->iu->Bool
 |_,[]=>true
 |wr,i::l=>if qS i=false\/((i.op=19\/i.op=20)/\i.ar>base)then false
   else if(e_ i).any (xq base wr)then false else Ed base (Eg (fB i) wr) l
def ur(l:iu)(base:Int):Bool:=if base<0\/base>4096\/l.length>131072 then false else Ed base [] l
structure nA where
 cs:LV
 nu:Nat
 l:iu
def nA.ok(p:nA):Prop:=(p.cs.drop p.nu).take (p.l.length*6)=cS p.l/\p.l.length<1200000
abbrev tJ x0:=aq [(0,.aA x0 56)] 1
def mO(p:nA):AH:=tJ p.cs
theorem axY{p p':nA}(h:p.ok)(h':p'.ok)(h1:p.cs=p'.cs)(h2:p.nu=p'.nu)(h3:p.l.length=p'.l.length):p=p':=by have⟨cs,off,l⟩:=p;have⟨cs',aHS,l'⟩:=p';subst h1 h2;have e:=h.1;have e':=h'.1;simp only at e e';rw[h3,e']at e;rw[H6 e]
def adA:cq (nA×Int)where
 bh w A H:=A=[.bw 0 w.1.nu w.1.l.length 0 6 false,J w.2]/\H=mO w.1/\w.1.ok
 v w:=.au (ur w.1.l w.2)
 aK w:=mO w.1
theorem auu{p p'}(h:mO p=mO p'):p.cs=p'.cs:=by have:=congrArg (λH=>AH.bc H 0) h;exact(bf.aA.inj (de this)).1
theorem Ts{w w':nA×Int}{A H}(h1:A=[.bw 0 w.1.nu w.1.l.length 0 6 false,J w.2])(h2:H=mO w.1)(h3:w.1.ok)(k1:A=[.bw 0 w'.1.nu w'.1.l.length 0 6 false,J w'.2])(k2:H=mO w'.1)(k3:w'.1.ok):w=w':=by have⟨p,b⟩:=w;have⟨p',b'⟩:=w';rw[h1]at k1;rw[h2]at k2;simp at k1;have e:=axY h3 k3 (auu k2) k1.1.1 k1.1.2;simp only at e;rw[e,k1.2]
theorem aFT:adA.ck:=by rintro w w' A H ⟨h1,h2,h3⟩ ⟨k1,k2,k3⟩;rw[Ts h1 h2 h3 k1 k2 k3]
def E12:Ev.bp:=bR 164 (bW adA aFT cB) Hb
def Nf:Nat->LN:=fh [(5,[1,5,24,25,26]),(10,[1,5,7,24,25,26,50,51,52]),(16,[1,5,24,25,26,67,68,69])]
def wA(wr:List (Int×Bool)):bf:=.aY (bO vB 0 wr) wr.length true
abbrev J7 x0 x1 x2 x3 x4:=bg [(1,J x0),(5,.aB 1),(24,.bw 0 x1 x2 0 6 x3),(25,J (aP x2)),(26,J x4)]
theorem ay7{cs off len base L Q}:
 bC Z Hb Nf L Q 1000 164 [.bw 0 off len 0 6 false,J base] (tJ cs)=(
 aw (decide (base<0)) (Q (.au false) (tJ cs)) (aw (decide (base>4096)) (Q (.au false) (tJ cs)) (aw (decide (aP len>131072)) (Q (.au false) (tJ cs)) (L (J7 base off len false 0) (aq [(0,.aA cs 56),(1,.aY [] 0 true)] 2) (ax Z 164 0))))):=by kernel_rfl
abbrev D_ x0 x1 x2 x3 x4 x5 x6:=bg [(1,J x0),(5,.aB 1),(7,.aa 2 0),(24,.bw 0 x1 x2 0 6 x3),(25,J (aP x2)),(26,J x4),(50,.aj 3 x5 1),(51,J (aP x5)),(52,J x6)]
theorem ay8{cs off len base i wr L Q}:
 cg Z Hb Nf L Q 1000 164 1 (J7 base off len false i) (ax Z 164 0) (aq [(0,.aA cs 56),(1,wA wr)] 2)=(
 aw (decide (i<aP len)) (∃aJ:Nat,i=(aJ:Int)/\aJ<len/\(∃n aN bz ct s dm,cz Z 56 cs (off+aJ*6)=some (.ai [J n,J aN,J bz,J ct,.ad s,J dm]:AV)/\(aq [] 0=an/\True)/\aw (!qS (eG.mk n aN bz ct s dm)) (Q (.au false) (tJ cs)) (aw (n==19) (aw (decide (dm>base)) (Q (.au false) (tJ cs)) (∃w,(([.ai [J n,J aN,J bz,J ct,.ad s,J dm]]:LV)=[.ai (dp w)]/\aq [] 0=an)/\L (D_ base off len false i (e_ w).length 0) (aq [(0,.aA cs 56),(1,wA wr),(2,.al [J n,J aN,J bz,J ct,.ad s,J dm] 56),(3,bH (e_ w) 3)] 4) (ax Z 164 1))) (aw (n==20) (aw (decide (dm>base)) (Q (.au false) (tJ cs)) (∃w,(([.ai [J n,J aN,J bz,J ct,.ad s,J dm]]:LV)=[.ai (dp w)]/\aq [] 0=an)/\L (D_ base off len false i (e_ w).length 0) (aq [(0,.aA cs 56),(1,wA wr),(2,.al [J n,J aN,J bz,J ct,.ad s,J dm] 56),(3,bH (e_ w) 3)] 4) (ax Z 164 1))) (∃w,(([.ai [J n,J aN,J bz,J ct,.ad s,J dm]]:LV)=[.ai (dp w)]/\aq [] 0=an)/\L (D_ base off len false i (e_ w).length 0) (aq [(0,.aA cs 56),(1,wA wr),(2,.al [J n,J aN,J bz,J ct,.ad s,J dm] 56),(3,bH (e_ w) 3)] 4) (ax Z 164 1)))))) (Q (.au true) (tJ cs))):=by kernel_rfl
abbrev Ul x0 x1 x2 x3 x4 x5 x6:=bg [(1,J x0),(5,.aB 1),(24,.bw 0 x1 x2 0 6 x3),(25,J (aP x2)),(26,J x4),(67,.aj 2 x5 1),(68,J (aP x5)),(69,J x6)]
abbrev Mj x0 x1 x2 x3:=aq [(0,.aA x0 56),(1,wA x1),(2,xV x2),(3,bH x3 3)] 4
theorem ay9{cs off len base i k wr x rs L Q}:
 cg Z Hb Nf L Q 1000 164 1 (D_ base off len false i rs.length k) (ax Z 164 1) (Mj cs wr x rs)=(
 aw (decide (k<aP rs.length)) (∃aJ:Nat,k=(aJ:Int)/\aJ<rs.length/\(∃n,cz Z 3 (aX rs) (aJ*1)=some (J n:AV)/\aw (decide (n>base)) (∃b gA,eZ Z 3 4 (bO vB 0 wr) (J n)=some (.au b,gA)/\aw (!b) (Q (.au false) (tJ cs)) (L (D_ base off len false i rs.length (wI (k+1))) (Mj cs wr x rs) (ax Z 164 1))) (L (D_ base off len false i rs.length (wI (k+1))) (Mj cs wr x rs) (ax Z 164 1)))) (∃w,(([.ai (dp x)]:LV)=[.ai (dp w)]/\aq [] 0=an)/\L (Ul base off len false i (fB w).length 0) (aq [(0,.aA cs 56),(1,wA wr),(2,bH (fB w) 3)] 3) (ax Z 164 2))):=by kernel_rfl
theorem azb{cs off len base i k wr ws L Q}:
 cg Z Hb Nf L Q 1000 164 1 (Ul base off len false i ws.length k) (ax Z 164 2) (aq [(0,.aA cs 56),(1,wA wr),(2,bH ws 3)] 3)=(
 aw (decide (k<aP ws.length)) (∃aJ:Nat,k=(aJ:Int)/\aJ<ws.length/\(∃n,cz Z 3 (aX ws) (aJ*1)=some (J n:AV)/\(∃bJ c',j9 Z 3 (bO vB 0 wr) wr.length (J n) (.au true)=some (bJ,c')/\L (Ul base off len false i ws.length (wI (k+1))) (aq [(0,.aA cs 56),(1,.aY bJ c' true),(2,bH ws 3)] 3) (ax Z 164 2)))) (L (J7 base off len false (wI (i+1))) (aq [(0,.aA cs 56),(1,wA wr)] 2) (ax Z 164 0))):=by kernel_rfl
theorem amq{i fs}(h:AP fs):(lD i fs).length<5000:=by
 unfold lD;split;next hF=>
  have hb:=afH hF;have hl:=ajY i.ar;rcases h with rfl|rfl|rfl|rfl|rfl<;>simp[ym]
  .split<;>simp
  .omega
 .simp
theorem ack(i):(e_ i).length<5000:=amq (J3 _).1
theorem adI(i):(fB i).length<5000:=amq (J3 _).2
theorem oF{k n:Nat}(h:k<n)(hn:n<20000000):wI ((k:Int)+1)=((k+1:Nat):Int):=by rw[cH];simp
theorem awU(wr r):∃b gA,eZ Z 3 4 (bO vB 0 wr) (J r)=some (.au b,gA)/\fq wr r=b:=by
 rw[pv _ Ie];unfold fq;cases lk r wr with
 |none=>exact⟨false,false,by rw[adJ];rfl,rfl⟩
 |some b=>exact⟨b,true,rfl,rfl⟩
theorem axV(a b c d e f l):cz Z 56 (a::b::c::d::e::f::l) 0=some (.ai [a,b,c,d,e,f]):=by kernel_rfl
theorem axW(cs off):cz Z 56 cs off=cz Z 56 (cs.drop off) 0:=by kernel_rfl
theorem aFk{l i}(h:l.take 6=dp i):∃r,l=dp i++r:=⟨l.drop 6,by rw[<-h,wH]⟩
theorem nA.get{p:nA}(h:p.ok){i}(hi:i<p.l.length):cz Z 56 p.cs (p.nu+i*6)=some (.ai (dp p.l[i])):=by
 have h1:(p.cs.drop (p.nu+i*6)).take 6=dp p.l[i]:=by have h2:=asF hi;rw[<-h.1,zO,Bq,wM]at h2;rwa[NU (by omega)]at h2
 have⟨r,hr⟩:=aFk h1;rw[axW,hr];exact axV _ _ _ _ _ _ _
section
variable{cs:LV}{off len:Nat}{base:Int}{aI:Bool}
theorem azc{i wr0 ws}(hw:ws.length<5000)(next:bu Z 164 77 1 (.au aI) (tJ cs) (J7 base off len false (wI (i+1))) (aq [(0,.aA cs 56),(1,wA (Eg ws wr0))] 2) (ax Z 164 0)):
 ∀p:Nat×List (Int×Bool),(p.1<=ws.length/\Eg (ws.drop p.1) p.2=Eg ws wr0)->
 bu Z 164 77 1 (.au aI) (tJ cs) (Ul base off len false i ws.length (p.1:Int)) (aq [(0,.aA cs 56),(1,wA p.2),(2,bH ws 3)] 3) (ax Z 164 2):=by
 refine dF (λp=>ws.length-p.1) _ _ _ _ ?_;rintro⟨k,wr⟩ ⟨hk,hf⟩ ih;refine hE Kz azb ?_;refine aD (λay=>?_) λbq=>?_
 .have ay:k<ws.length:=by simpa using ay
  rw[fV ay]at hf;have hg:ws.getD k 0=ws[k]:=by simp[List.getD,gS ay]
  refine⟨k,rfl,ay,ws[k],by rw[oy ay,hg],_,_,pG vB Ie,?_⟩;rw[oF ay (by omega)];exact ih (k+1,up ws[k] true wr) ⟨by simp;omega,hf⟩ (by simp;omega)
 .have bq:ws.length<=k:=by simpa using bq
  rw[gR bq]at hf;have hf:wr=Eg ws wr0:=hf;rw[hf];exact next
theorem aza{i wr x}(hb:(e_ x).any (xq base wr)=true->aI=false)(next:(e_ x).any (xq base wr)=false->bu Z 164 77 1 (.au aI) (tJ cs) (J7 base off len false (wI (i+1))) (aq [(0,.aA cs 56),(1,wA (Eg (fB x) wr))] 2) (ax Z 164 0)):
 ∀k,(k<=(e_ x).length/\((e_ x).drop k).any (xq base wr)=(e_ x).any (xq base wr))->
 bu Z 164 77 1 (.au aI) (tJ cs) (D_ base off len false i (e_ x).length (k:Int)) (Mj cs wr x (e_ x)) (ax Z 164 1):=by
 have hrl:=ack x;refine dF (λk=>(e_ x).length-k) _ _ _ _ ?_;rintro k ⟨hk,hf⟩ ih;refine hE Kz ay9 ?_;refine aD (λay=>?_) λbq=>?_
 .have ay:k<(e_ x).length:=by simpa using ay
  rw[fV ay,List.any_cons]at hf;have hg:(e_ x).getD k 0=(e_ x)[k]:=by simp[List.getD,gS ay]
  refine⟨k,rfl,ay,(e_ x)[k],by rw[oy ay,hg],?_⟩;rw[oF ay (by omega)];have⟨b,b1,h1,h2⟩:=awU wr (e_ x)[k];refine aD (λhr=>⟨b,b1,h1,aD (λh=>?_) λh=>?_⟩) λhr=>?_
  .have:xq base wr (e_ x)[k]=true:=by simp at h hr;simp[xq,h2,hr,h]
   rw[this,Bool.true_or]at hf;rw[hb hf.symm];exact⟨rfl,rfl⟩
  .have:xq base wr (e_ x)[k]=false:=by simp at h;simp[xq,h2,h]
   rw[this,Bool.false_or]at hf;exact ih (k+1) ⟨by omega,hf⟩ (by omega)
  .have:xq base wr (e_ x)[k]=false:=by simp[xq,hr]
   rw[this,Bool.false_or]at hf;exact ih (k+1) ⟨by omega,hf⟩ (by omega)
 .have bq:(e_ x).length<=k:=by simpa using bq
  rw[gR bq]at hf;have hf:=hf.symm;refine⟨x,⟨rfl,rfl⟩,?_⟩;exact azc (adI x) (next hf) (0,wr) ⟨by simp,rfl⟩
end
theorem ay6{p base aI}(hp:p.ok):
 ∀q:Nat×List (Int×Bool),(q.1<=p.l.length/\Ed base q.2 (p.l.drop q.1)=aI)->
 bu Z 164 77 1 (.au aI) (mO p) (J7 base p.nu p.l.length false (q.1:Int)) (aq [(0,.aA p.cs 56),(1,wA q.2)] 2) (ax Z 164 0):=by
 refine dF (λq=>p.l.length-q.1) _ _ _ _ ?_;rintro⟨i,wr⟩ ⟨hi,hf⟩ ih;have mi:=hp.2;refine hE Kz ay8 ?_;refine aD (λay=>?_) λbq=>?_
 .have ay:i<p.l.length:=by simpa using ay
  have b_:=p.get hp ay;rw[fV ay,Ed]at hf;have next:Ed base (Eg (fB p.l[i]) wr) (p.l.drop (i+1))=aI->_:=λh=>ih (i+1,Eg (fB p.l[i]) wr) ⟨by simp;omega,h⟩ (by simp;omega)
  generalize p.l[i]=x at b_ hf next
  have⟨o,r,a,n,s,ar⟩:=x;refine⟨i,rfl,ay,o,r,a,n,s,ar,b_,⟨rfl,trivial⟩,?_⟩;have rest:¬(qS ⟨o,r,a,n,s,ar⟩=false\/((o=19\/o=20)/\ar>base))->∃w:eG,((([.ai [J o,J r,J a,J n,.ad s,J ar]]:LV)=[.ai [J w.op,J w.r,J w.a,J w.n,.ad w.fx,J w.ar]])/\aq [] 0=an)/\
   bu Z 164 77 1 (.au aI) (mO p) (D_ base p.nu p.l.length false (i:Int) (e_ w).length 0) (Mj p.cs wr ⟨o,r,a,n,s,ar⟩ (e_ w)) (ax Z 164 1):=by
   intro hn;rw[az hn]at hf;refine⟨⟨o,r,a,n,s,ar⟩,⟨rfl,rfl⟩,?_⟩;refine aza (λhb=>?_) (λhb=>?_) 0 ⟨by simp,by simp⟩
   .rw[aL hb]at hf;exact hf.symm
   .rw[az (by rw[hb];simp)]at hf;rw[oF ay (by omega)];exact next hf
  refine aD (λh=>?_) λh=>?_
  .rw[aL (.inl (by simpa using h))]at hf;subst hf;exact⟨rfl,rfl⟩
  have hF:¬qS ⟨o,r,a,n,s,ar⟩=false:=by simpa using h
  refine aD (λh1=>aD (λh2=>?_) λh2=>?_) λh1=>aD (λh3=>aD (λh2=>?_) λh2=>?_) λh3=>?_
  .rw[aL (.inr ⟨.inl (by simpa using h1),by simpa using h2⟩)]at hf;subst hf;exact⟨rfl,rfl⟩
  .exact rest (by rintro(h|⟨_,h⟩);exact hF h;simp at h2;omega)
  .rw[aL (.inr ⟨.inr (by simpa using h3),by simpa using h2⟩)]at hf;subst hf;exact⟨rfl,rfl⟩
  .exact rest (by rintro(h|⟨_,h⟩);exact hF h;simp at h2;omega)
  .exact rest (by rintro(h|⟨h|h,_⟩);exact hF h;simp at h1;exact h1 h;simp at h3;exact h3 h)
 .have bq:p.l.length<=i:=by simpa using bq
  rw[gR bq]at hf;subst hf;exact⟨rfl,rfl⟩
theorem apf:aS Z E12:=by
 refine cu Kz ?_;rintro⟨p,base⟩ args H ⟨rfl,rfl,hp⟩;have hp:=hp;refine eS Kz Nf 77 ?_;simp only[adA,mO];rw[ay7];refine aD (λh=>?_) λh=>aD (λh2=>?_) λh2=>aD (λh4=>?_) λh3=>?_
 .have:ur p.l base=false:=by simp at h;simp[ur,h]
  rw[this];exact⟨rfl,rfl⟩
 .have:ur p.l base=false:=by simp at h2;simp[ur,h2]
  rw[this];exact⟨rfl,rfl⟩
 .have:ur p.l base=false:=by have h4:(p.l.length:Int)>131072:=dX h4;unfold ur;rw[aL (by omega)]
  rw[this];exact⟨rfl,rfl⟩
 .have:ur p.l base=Ed base [] p.l:=by have h3:¬(p.l.length:Int)>131072:=eB (by simpa using h3);simp at h h2;unfold ur;rw[az (by omega)]
  rw[this];exact ay6 hp (0,[]) ⟨by simp,rfl⟩
abbrev VT:Ev.bp:=E12
section
variable{p:nA}{base:Int}{aI:Bool}{i:Nat}
end
theorem aek:aS Z VT:=apf
def gq(l:LI):AH:=aq [(0,.al [.aj 1 l.length 1] 247),(1,bH l 3)] 2
def Ta(l:LI):AH:=aq [(0,.al [.aj 2 l.length 1] 247),(1,.bm []),(2,bH l 3)] 3
theorem IF{l m}(h:gq l=gq m):l=m:=by have:=congrArg (λH=>AH.bc H 1) h;exact zR (de this)
def o0(l:LI)(i j:Nat):LI:=(l.set i (l.getD j 0)).set j (l.getD i 0)
def akr:cq LI where
 bh l A H:=A=[.aj 0 l.length 1]/\H=dJ l
 v l:=J (aP l.length)
 aK l:=dJ l
def aku:cq (LI×Nat×Nat)where
 bh w A H:=A=[.aj 0 w.1.length 1,J (w.2.1:Int),J (w.2.2:Int)]/\H=dJ w.1/\w.2.1<w.1.length/\w.2.2<w.1.length
 v w:=.au (decide (w.1.getD w.2.1 0<w.1.getD w.2.2 0))
 aK w:=dJ w.1
def an2:cq (LI×Nat×Nat)where
 bh w A H:=A=[.aj 0 w.1.length 1,J (w.2.1:Int),J (w.2.2:Int)]/\H=dJ w.1/\w.2.1<w.1.length/\w.2.2<w.1.length
 v w:=.aC []
 aK w:=dJ (o0 w.1 w.2.1 w.2.2)
def ab7:cq (LI×Int)where
 bh w A H:=A=[.aa 0 0,.ec 3 (J w.2)]/\H=gq w.1/\w.1.length<1200000
 v w:=.aC []
 aK w:=Ta (w.1++[w.2])
def alZ:cq (LI×Int)where
 bh w A H:=A=[.aa 0 0]/\H=gq (w.1++[w.2])/\w.1.length<1200000
 v w:=.ec 3 (J w.2)
 aK w:=gq w.1
theorem awD:akr.ck:=by rintro l l' A H ⟨_,h⟩ ⟨_,h'⟩;rw[ZR (h.symm.trans h')]
theorem ajQ{w w':LI×Nat×Nat}{A H}(h1:A=[.aj 0 w.1.length 1,J (w.2.1:Int),J (w.2.2:Int)])(h2:H=dJ w.1)(k1:A=[.aj 0 w'.1.length 1,J (w'.2.1:Int),J (w'.2.2:Int)])(k2:H=dJ w'.1):w=w':=by
 have⟨l,i,j⟩:=w;have⟨l',i',j'⟩:=w';have e:=ZR (h2.symm.trans k2);rw[h1]at k1;simp at k1 e;have e1:i=i':=by omega
 have e2:j=j':=by omega
 rw[e,e1,e2]
theorem awE:aku.ck:=by rintro w w' A H ⟨h1,h2,_⟩ ⟨k1,k2,_⟩;rw[ajQ h1 h2 k1 k2]
theorem aFd:an2.ck:=by rintro w w' A H ⟨h1,h2,_⟩ ⟨k1,k2,_⟩;rw[ajQ h1 h2 k1 k2]
theorem ayb:ab7.ck:=by rintro⟨l,x⟩ ⟨l',x'⟩ A H ⟨h1,h2,_⟩ ⟨k1,k2,_⟩;have e:=IF (h2.symm.trans k2);rw[h1]at k1;simp at k1 e;rw[e,k1]
theorem ax4:alZ.ck:=by rintro⟨l,x⟩ ⟨l',x'⟩ A H ⟨h1,h2,_⟩ ⟨k1,k2,_⟩;have e:=IF (h2.symm.trans k2);have e2:=List.append_inj' e rfl;simp at e2;rw[e2.1,e2.2]
def G1:Ev.bp:=bR 180 (bW akr awD cB) VT
def G2:Ev.bp:=bR 212 (bW aku awE cB) G1
def G3:Ev.bp:=bR 215 (bW an2 aFd cB) G2
def G4:Ev.bp:=bR 214 (bW ab7 ayb cB) G3
def G5:Ev.bp:=bR 213 (bW alZ ax4 cB) G4
theorem azR{l L Q}:
 bC Z VT (λ_=>[]) L Q 1000 180 [.aj 0 l.length 1] (dJ l)=(
 Q (J (aP l.length)) (dJ l)):=by kernel_rfl
theorem aAm{l i j L Q}:
 bC Z G1 (λ_=>[]) L Q 1000 212 [.aj 0 l.length 1,J i,J j] (dJ l)=(
 ∃aJ:Nat,i=(aJ:Int)/\aJ<l.length/\(∃n,cz Z 3 (aX l) (aJ*1)=some (J n:AV)/\(∃cN:Nat,j=(cN:Int)/\cN<l.length/\(∃aN,cz Z 3 (aX l) (cN*1)=some (J aN:AV)/\Q (.au (decide (n<aN))) (dJ l))))):=by kernel_rfl
theorem aAp{l i j L Q}:
 bC Z G2 (λ_=>[]) L Q 1000 215 [.aj 0 l.length 1,J i,J j] (dJ l)=(
 ∃aJ:Nat,j=(aJ:Int)/\aJ<l.length/\(∃n,cz Z 3 (aX l) (aJ*1)=some (J n:AV)/\(∃cN:Nat,i=(cN:Int)/\cN<l.length/\(∃aN,cz Z 3 (aX l) (cN*1)=some (J aN:AV)/\(∃ew:Nat,i=(ew:Int)/\ew<l.length/\ew*1+1<=(aX l).length/\(∃ia:Nat,j=(ia:Int)/\ia<l.length/\ia*1+1<=(gE (aX l) (ew*1) [J n]).length/\Q (.aC []) (aq [(0,.aA (gE (gE (aX l) (ew*1) [J n]) (ia*1) [J aN]) 3)] 1))))))):=by kernel_rfl
theorem aAo{l x L Q}:
 bC Z G3 (λ_=>[]) L Q 1000 214 [.aa 0 0,.ec 3 (J x)] (gq l)=(
 ((aX l).length=l.length*1/\l.length+1<=4194304/\true=true/\true=true)/\Q (.aC []) (aq [(0,.al [.aj 2 (l.length+1) 1] 247),(1,.bm []),(2,.aA (aX l++[J x]) 3)] 3)):=by kernel_rfl
theorem aAn{l L Q}:
 bC Z G4 (λ_=>[]) L Q 1000 213 [.aa 0 0] (gq l)=(
 ∃i:Nat,wI (aP l.length-1)=(i:Int)/\i<l.length/\(∃n,cz Z 3 (aX l) (i*1)=some (J n:AV)/\1<=l.length/\(∃aJ:Nat,wI (aP l.length-1)=(aJ:Int)/\(0<=aJ/\aJ<=l.length)/\Q (.ec 3 (J n)) (aq [(0,.al [.aj 1 (aJ-0) 1] 247),(1,bH l 3)] 2)))):=by kernel_rfl
theorem aep:aS Z G1:=by refine cu aek ?_;rintro l args H ⟨rfl,rfl⟩;refine eE 5 aek azR ?_;exact⟨rfl,rfl⟩
theorem aeq:aS Z G2:=by refine cu aep ?_;rintro⟨l,i,j⟩ args H ⟨rfl,rfl,hi,hj⟩;refine eE 16 aep aAm ?_;exact⟨i,rfl,hi,_,oy hi,j,rfl,hj,_,oy hj,rfl,rfl⟩
theorem aer:aS Z G3:=by
 refine cu aeq ?_;rintro⟨l,i,j⟩ args H ⟨rfl,rfl,hi,hj⟩;have hi:i<l.length:=hi;have hj:j<l.length:=hj;refine eE 20 aeq aAp ?_;have e1:gE (aX l) (i*1) [J (l.getD j 0)]=aX (l.set i (l.getD j 0)):=by rw[mu];exact TA _ hi
 have e2:gE (aX (l.set i (l.getD j 0))) (j*1) [J (l.getD i 0)]=aX (o0 l i j):=by rw[mu];exact TA _ (by simpa using hj)
 refine⟨j,rfl,hj,_,oy hj,i,rfl,hi,_,oy hi,i,rfl,hi,by show i*1+1<=(aX l).length;rw[Bv];omega,j,rfl,hj,by rw[e1,Bv,List.length_set];show j*1+1<=l.length;omega,rfl,?_⟩;rw[e1,e2];rfl
theorem aes:aS Z G4:=by refine cu aer ?_;rintro⟨l,x⟩ args H ⟨rfl,rfl,hl⟩;refine eE 20 aer aAo ?_;refine⟨⟨by rw[Bv];omega,by omega,rfl,rfl⟩,rfl,?_⟩;simp only[ab7,Ta,bH,Od,cL];rfl
theorem V0:aS Z G5:=by
 refine cu aes ?_;rintro⟨l,x⟩ args H ⟨rfl,rfl,hl⟩;have hl:l.length<1200000:=hl;simp;have bS:(l++[x]).length=l.length+1:=by simp
 have e:wI (aP (l++[x]).length-1)=((l.length:Nat):Int):=by
  rw[bS];have e0:aP (l.length+1)-1=(l.length:Int):=by simp
  rw[e0,cH]
 have hg:(l++[x]).getD l.length 0=x:=by simp[List.getD]
 have key:bX Z 213 [.aa 0 0] (gq (l++[x])) (.ec 3 (J x)) (aq [(0,.al [.aj 1 l.length 1] 247),(1,.aA (aX (l++[x])) 3)] 2):=by refine eE 27 aes aAn ?_;exact⟨l.length,e,by omega,x,by rw[oy (by omega),hg],by omega,l.length,e,⟨by omega,by omega⟩,rfl,rfl⟩
 have h2:=Ia (g:=1) key rfl (λφ e o h=>by
  have h3:=ae3 (h_:=3) l.length h;have:(aX (l++[x])).take l.length=aX l:=by rw[Od,<-Bv l,List.take_left]
  rw[this]at h3;exact h3) rfl (cE 2)
 exact h2
def Aa:Nat->LI->Nat->LI
 |0,l,_=>l
 |f+1,l,j=>if(j-1)/ 2=j\/¬l.getD j 0<l.getD ((j-1)/ 2) 0 then l else Aa f (o0 l ((j-1)/ 2) j) ((j-1)/ 2)
def uK:Nat->LI->Nat->Nat->LI×Nat
 |0,l,i,_=>(l,i)
 |f+1,l,i,n=>
  if 2*i+1>=n then(l,i)
  else
   let j:=if 2*i+2<n/\l.getD (2*i+2) 0<l.getD (2*i+1) 0 then 2*i+2 else 2*i+1
   if¬l.getD j 0<l.getD i 0 then(l,i)else uK f (o0 l i j) j n
def upX:cq (LI×Nat)where
 bh w A H:=A=[.ec 246 (.aa 0 0),J (w.2:Int)]/\H=gq w.1/\w.2<w.1.length/\w.1.length<1200000
 v w:=.aC []
 aK w:=gq (Aa (w.2+1) w.1 w.2)
def agS:cq (LI×Nat×Nat)where
 bh w A H:=A=[.ec 246 (.aa 0 0),J (w.2.1:Int),J (w.2.2:Int)]/\H=gq w.1/\w.2.2<=w.1.length/\w.1.length<1200000/\w.2.1<=w.2.2/\w.2.1<w.1.length
 v w:=.au (decide ((uK (w.2.2+1) w.1 w.2.1 w.2.2).2>w.2.1))
 aK w:=gq (uK (w.2.2+1) w.1 w.2.1 w.2.2).1
def aju:cq (LI×Int)where
 bh w A H:=A=[.ec 246 (.aa 0 0),.ec 3 (J w.2)]/\H=gq w.1/\w.1.length<1000000
 v w:=.aC []
 aK w:=Ta (Aa (w.1.length+1) (w.1++[w.2]) w.1.length)
def uf(l:LI):LI:=(uK l.length (o0 l 0 (l.length-1)) 0 (l.length-1)).1
def ajt:cq LI where
 bh l A H:=A=[.ec 246 (.aa 0 0)]/\H=gq l/\0<l.length/\l.length<1000000
 v l:=.ec 3 (J ((uf l).getD (l.length-1) 0))
 aK l:=gq ((uf l).take (l.length-1))
theorem aFK:upX.ck:=by
 rintro⟨l,j⟩ ⟨l',j'⟩ A H ⟨h1,h2,_⟩ ⟨k1,k2,_⟩;have e:=IF (h2.symm.trans k2);rw[h1]at k1;simp at k1 e;have e1:j=j':=by omega
 rw[e,e1]
theorem ar6:agS.ck:=by
 rintro⟨l,i,j⟩ ⟨l',i',j'⟩ A H ⟨h1,h2,_⟩ ⟨k1,k2,_⟩;have e:=IF (h2.symm.trans k2);rw[h1]at k1;simp at k1 e;have e1:i=i':=by omega
 have e2:j=j':=by omega
 rw[e,e1,e2]
theorem avl:aju.ck:=by rintro⟨l,x⟩ ⟨l',x'⟩ A H ⟨h1,h2,_⟩ ⟨k1,k2,_⟩;have e:=IF (h2.symm.trans k2);rw[h1]at k1;simp at k1 e;rw[e,k1]
theorem avj:ajt.ck:=by rintro l l' A H ⟨_,h2,_⟩ ⟨_,k2,_⟩;rw[IF (h2.symm.trans k2)]
def G6:Ev.bp:=bR 188 (bW upX aFK cB) G5
def G7:Ev.bp:=bR 190 (bW agS ar6 cB) G6
def G8:Ev.bp:=bR 178 (bW aju avl cB) G7
def G9:Ev.bp:=bR 181 (bW ajt avj cB) G8
abbrev Un x0:=bg [(0,.ec 246 (.aa 0 0)),(1,J x0)]
theorem az4{l j L Q}:
 bC Z G5 (λ_=>[0,1]) L Q 1000 188 [.ec 246 (.aa 0 0),J j] (gq l)=(
 L (Un j) (gq l) (ax Z 188 0)):=by kernel_rfl
abbrev zd x0 x1:=aq [(0,.al [.aj 1 x0 1] 247),(1,bH x1 3)] 2
theorem az5{l j L Q}:
 cg Z G5 (λ_=>[0,1]) L Q 1000 188 2 (Un j) (ax Z 188 0) (gq l)=(
 aw (wI (Int.tdiv (wI (j-1)) 2)==j) (Q (.aC []) (gq l)) (∃w:LI×Nat×Nat,(([.aj 0 l.length 1,J j,J (wI (Int.tdiv (wI (j-1)) 2))]:LV)=[.aj 0 w.1.length 1,J ((w.2.1:Nat):Int),J ((w.2.2:Nat):Int)]/\dJ l=dJ w.1/\w.2.1<w.1.length/\w.2.2<w.1.length)/\aw (!decide (List.getD w.1 w.2.1 0<List.getD w.1 w.2.2 0)) (Q (.aC []) (zd l.length w.1)) (∃ae:LI×Nat×Nat,(([.aj 0 l.length 1,J (wI (Int.tdiv (wI (j-1)) 2)),J j]:LV)=[.aj 0 ae.1.length 1,J ((ae.2.1:Nat):Int),J ((ae.2.2:Nat):Int)]/\dJ w.1=dJ ae.1/\ae.2.1<ae.1.length/\ae.2.2<ae.1.length)/\L (Un (wI (Int.tdiv (wI (j-1)) 2))) (zd l.length (o0 ae.1 ae.2.1 ae.2.2)) (ax Z 188 0)))):=by kernel_rfl
abbrev Ea x0 x1 x2:=bg [(0,.ec 246 (.aa 0 0)),(1,J x0),(2,J x1),(7,J x2)]
theorem aAd{l i n L Q}:
 bC Z G6 (λ_=>[0,1,2,7]) L Q 1000 190 [.ec 246 (.aa 0 0),J i,J n] (gq l)=(
 L (Ea i n i) (gq l) (ax Z 190 0)):=by kernel_rfl
theorem aAe{l i0 i n L Q}:
 cg Z G6 (λ_=>[0,1,2,7]) L Q 1000 190 2 (Ea i0 n i) (ax Z 190 0) (gq l)=(
 aw (decide (wI (wI (2*i)+1)>=n)) (Q (.au (decide (i>i0))) (gq l)) (aw (decide (wI (wI (2*i)+1)<0)) (Q (.au (decide (i>i0))) (gq l)) (aw (decide (wI (wI (wI (2*i)+1)+1)<n)) (∃w:LI×Nat×Nat,(([.aj 0 l.length 1,J (wI (wI (wI (2*i)+1)+1)),J (wI (wI (2*i)+1))]:LV)=[.aj 0 w.1.length 1,J ((w.2.1:Nat):Int),J ((w.2.2:Nat):Int)]/\dJ l=dJ w.1/\w.2.1<w.1.length/\w.2.2<w.1.length)/\aw (decide (List.getD w.1 w.2.1 0<List.getD w.1 w.2.2 0)) (∃ae:LI×Nat×Nat,(([.aj 0 l.length 1,J (wI (wI (wI (2*i)+1)+1)),J i]:LV)=[.aj 0 ae.1.length 1,J ((ae.2.1:Nat):Int),J ((ae.2.2:Nat):Int)]/\dJ w.1=dJ ae.1/\ae.2.1<ae.1.length/\ae.2.2<ae.1.length)/\aw (!decide (List.getD ae.1 ae.2.1 0<List.getD ae.1 ae.2.2 0)) (Q (.au (decide (i>i0))) (zd l.length ae.1)) (∃aE:LI×Nat×Nat,(([.aj 0 l.length 1,J i,J (wI (wI (wI (2*i)+1)+1))]:LV)=[.aj 0 aE.1.length 1,J ((aE.2.1:Nat):Int),J ((aE.2.2:Nat):Int)]/\dJ ae.1=dJ aE.1/\aE.2.1<aE.1.length/\aE.2.2<aE.1.length)/\L (Ea i0 n (wI (wI (wI (2*i)+1)+1))) (zd l.length (o0 aE.1 aE.2.1 aE.2.2)) (ax Z 190 0))) (∃ae:LI×Nat×Nat,(([.aj 0 l.length 1,J (wI (wI (2*i)+1)),J i]:LV)=[.aj 0 ae.1.length 1,J ((ae.2.1:Nat):Int),J ((ae.2.2:Nat):Int)]/\dJ w.1=dJ ae.1/\ae.2.1<ae.1.length/\ae.2.2<ae.1.length)/\aw (!decide (List.getD ae.1 ae.2.1 0<List.getD ae.1 ae.2.2 0)) (Q (.au (decide (i>i0))) (zd l.length ae.1)) (∃aE:LI×Nat×Nat,(([.aj 0 l.length 1,J i,J (wI (wI (2*i)+1))]:LV)=[.aj 0 aE.1.length 1,J ((aE.2.1:Nat):Int),J ((aE.2.2:Nat):Int)]/\dJ ae.1=dJ aE.1/\aE.2.1<aE.1.length/\aE.2.2<aE.1.length)/\L (Ea i0 n (wI (wI (2*i)+1))) (zd l.length (o0 aE.1 aE.2.1 aE.2.2)) (ax Z 190 0)))) (∃w:LI×Nat×Nat,(([.aj 0 l.length 1,J (wI (wI (2*i)+1)),J i]:LV)=[.aj 0 w.1.length 1,J ((w.2.1:Nat):Int),J ((w.2.2:Nat):Int)]/\dJ l=dJ w.1/\w.2.1<w.1.length/\w.2.2<w.1.length)/\aw (!decide (List.getD w.1 w.2.1 0<List.getD w.1 w.2.2 0)) (Q (.au (decide (i>i0))) (zd l.length w.1)) (∃ae:LI×Nat×Nat,(([.aj 0 l.length 1,J i,J (wI (wI (2*i)+1))]:LV)=[.aj 0 ae.1.length 1,J ((ae.2.1:Nat):Int),J ((ae.2.2:Nat):Int)]/\dJ w.1=dJ ae.1/\ae.2.1<ae.1.length/\ae.2.2<ae.1.length)/\L (Ea i0 n (wI (wI (2*i)+1))) (zd l.length (o0 ae.1 ae.2.1 ae.2.2)) (ax Z 190 0)))))):=by kernel_rfl
theorem azO{l x L Q}:
 bC Z G7 (λ_=>[]) L Q 1000 178 [.ec 246 (.aa 0 0),.ec 3 (J x)] (gq l)=(
 ∃w:LI×Int,(([.aa 0 0,.ec 3 (J x)]:LV)=[.aa 0 0,.ec 3 (J w.2)]/\gq l=gq w.1/\w.1.length<1200000)/\(∃ae,(([.aj 0 (w.1++[w.2]).length 1]:LV)=[.aj 0 ae.length 1]/\dJ (w.1++[w.2])=dJ ae)/\(∃aE:LI×Nat,(([.ec 246 (.aa 0 0),J (wI (aP ae.length-1))]:LV)=[.ec 246 (.aa 0 0),J ((aE.2:Nat):Int)]/\zd (w.1++[w.2]).length ae=gq aE.1/\aE.2<aE.1.length/\aE.1.length<1200000)/\Q (.aC []) (Ta (Aa (aE.2+1) aE.1 aE.2))))):=by kernel_rfl
theorem azS{l L Q}:
 bC Z G8 (λ_=>[]) L Q 1000 181 [.ec 246 (.aa 0 0)] (gq l)=(
 ∃w,(([.aj 0 l.length 1]:LV)=[.aj 0 w.length 1]/\dJ l=dJ w)/\(∃ae:LI×Nat×Nat,(([.aj 0 l.length 1,J 0,J (wI (aP w.length-1))]:LV)=[.aj 0 ae.1.length 1,J ((ae.2.1:Nat):Int),J ((ae.2.2:Nat):Int)]/\dJ w=dJ ae.1/\ae.2.1<ae.1.length/\ae.2.2<ae.1.length)/\(∃aE:LI×Nat×Nat,(([.ec 246 (.aa 0 0),J 0,J (wI (aP w.length-1))]:LV)=[.ec 246 (.aa 0 0),J ((aE.2.1:Nat):Int),J ((aE.2.2:Nat):Int)]/\zd l.length (o0 ae.1 ae.2.1 ae.2.2)=gq aE.1/\aE.2.2<=aE.1.length/\aE.1.length<1200000/\aE.2.1<=aE.2.2/\aE.2.1<aE.1.length)/\(∃bQ:LI×Int,(([.aa 0 0]:LV)=[.aa 0 0]/\gq (uK (aE.2.2+1) aE.1 aE.2.1 aE.2.2).1=gq (bQ.1++[bQ.2])/\bQ.1.length<1200000)/\Q (.ec 3 (J bQ.2)) (gq bQ.1))))):=by kernel_rfl
theorem um(l i j):(o0 l i j).length=l.length:=by simp[o0]
theorem axQ{j:Nat}(h:j<1200000):wI (Int.tdiv (wI ((j:Int)-1)) 2)=(((j-1)/ 2:Nat):Int):=by
 cases j with
 |zero=>rfl
 |succ j=>
  have e0:((j+1:Nat):Int)-1=(j:Int):=by simp
  rw[e0,cH (x:=(j:Int)),Int.tdiv_eq_ediv_of_nonneg (by omega)];have e1:((j:Int)/ 2)=((j / 2:Nat):Int):=by simp
  rw[e1,cH];simp
theorem aoj:∀f l j,(Aa f l j).length=l.length
 |0,l,j=>rfl
 |f+1,l,j=>by
  unfold Aa;split
  .rfl
  .rw[aoj f,um]
theorem az3{aI}:∀p:Nat×LI×Nat,(p.2.2<p.1/\p.2.2<p.2.1.length/\p.2.1.length<1200000/\Aa p.1 p.2.1 p.2.2=aI)->
 bu Z 188 23 2 (.aC []) (gq aI) (Un (p.2.2:Int)) (gq p.2.1) (ax Z 188 0):=by
 refine dF (λp=>p.1) _ _ _ _ ?_;rintro⟨f,l,j⟩ ⟨h1,h2,h3,hf⟩ ih;simp only at h1 h2 h3 hf ih⊢;obtain⟨f,rfl⟩:∃g,f=g+1:=⟨f-1,by omega⟩;refine hD V0 (λ_=>[0,1]) ?_;rw[az5,axQ (by omega)];unfold Aa at hf;refine aD (λh=>?_) λh=>?_
 .rw[aL (.inl (by simp at h;omega))]at hf;subst hf;exact⟨rfl,rfl⟩
 have h:¬(j-1)/ 2=j:=by simp at h;omega
 have hp:(j-1)/ 2<l.length:=by omega
 refine⟨(l,j,(j-1)/ 2),⟨rfl,rfl,h2,hp⟩,aD (λh4=>?_) λh4=>?_⟩
 .rw[aL (.inr (by simpa using h4))]at hf;subst hf;exact⟨rfl,rfl⟩
 .have h6:l.getD j 0<l.getD ((j-1)/ 2) 0:=by simpa using h4
  rw[az (by rintro(h5|h5);exact h h5;exact h5 h6)]at hf;refine⟨(l,(j-1)/ 2,j),⟨rfl,rfl,hp,h2⟩,?_⟩;have next:=ih (f,o0 l ((j-1)/ 2) j,(j-1)/ 2) ⟨by simp;omega,by simp only[um];exact hp,by simp only[um];exact h3,hf⟩ (by simp)
  simp only[gq,um]at next
  exact next
theorem V1:aS Z G6:=by refine cu V0 ?_;rintro⟨l,j⟩ args H ⟨rfl,rfl,h1,h2⟩;refine eE 23 V0 az4 ?_;exact az3 (j+1,l,j) ⟨by simp,h1,h2,rfl⟩
theorem agR:∀f l i n,(uK f l i n).1.length=l.length
 |0,l,i,n=>rfl
 |f+1,l,i,n=>by
  unfold uK;split
  .rfl
  .dsimp only;generalize (if 2*i+2<n/\l.getD (2*i+2) 0<l.getD (2*i+1) 0 then 2*i+2 else 2*i+1)=j;split
   .rfl
   .rw[agR f,um]
theorem w2{i:Nat}(h:i<2000000):wI (wI (2*(i:Int))+1)=((2*i+1:Nat):Int):=by rw[cH (x:=2*(i:Int)),cH];simp
theorem w3{i}(h:i<2000000):wI (((2*i+1:Nat):Int)+1)=((2*i+2:Nat):Int):=by rw[cH];omega
theorem aAc{i0 n aI}:∀p:Nat×LI×Nat,(n<p.1+p.2.2+1/\n<=p.2.1.length/\p.2.1.length<1200000/\p.2.2<=n/\p.2.2<p.2.1.length/\uK p.1 p.2.1 p.2.2 n=aI)->
 bu Z 190 48 2 (.au (decide (aI.2>i0))) (gq aI.1) (Ea (i0:Int) (n:Int) (p.2.2:Int)) (gq p.2.1) (ax Z 190 0):=by
 refine dF (λp=>p.1) _ _ _ _ ?_;rintro⟨f,l,i⟩ ⟨h0,h1,h2,h3,h3',hf⟩ ih;simp only at h0 h1 h2 h3 h3' hf ih⊢;refine hD V1 (λ_=>[0,1,2,7]) ?_;rw[aAe,w2 (by omega),w3 (by omega)];have ahS:(l,i)=aI->fJ (.au (decide (aI.2>i0))) (gq aI.1) (.au (decide ((i:Int)>(i0:Int)))) (gq l):=by rintro rfl;exact⟨by simp,rfl⟩
 have A1:2*i+1>=n->(l,i)=aI:=by
  intro h;cases f with
  |zero=>exact hf
  |succ f=>unfold uK at hf;rwa[aL h]at hf
 refine aD (λh=>ahS (A1 (by simp at h;omega))) λh=>?_
 have h:2*i+1<n:=by simp at h;omega
 refine aD (λh=>(by simp at h;omega)) λ_=>?_
 obtain⟨f,rfl⟩:∃g,f=g+1:=⟨f-1,by omega⟩;unfold uK at hf;rw[az (by omega)]at hf;have next:∀j,2*i+1<=j->j<n->uK f (o0 l i j) j n=aI->bu Z 190 48 2 (.au (decide (aI.2>i0))) (gq aI.1) (Ea (i0:Int) (n:Int) (j:Int)) (aq [(0,.al [.aj 1 l.length 1] 247),(1,.aA (aX (o0 l i j)) 3)] 2) (ax Z 190 0):=by intro j g1 g2 g3;have nx:=ih (f,o0 l i j,j) ⟨by simp;omega,by simp only[um];exact h1,by simp only[um];exact h2,by simp;omega,by simp only[um];omega,g3⟩ (by simp);simp only[gq,um]at nx⊢;exact nx
 have UU:∀j,2*i+1<=j->j<n->(if¬l.getD j 0<l.getD i 0 then(l,i)else uK f (o0 l i j) j n)=aI->
  ∃ae:LI×Nat×Nat,((([.aj 0 l.length 1,J (j:Int),J (i:Int)]:LV)=[.aj 0 ae.1.length 1,J (ae.2.1:Int),J (ae.2.2:Int)])/\(aq [(0,.aA (aX l) 3)] 1=dJ ae.1)/\ae.2.1<ae.1.length/\ae.2.2<ae.1.length)/\
   aw (!(decide (ae.1.getD ae.2.1 0<ae.1.getD ae.2.2 0)))
    (fJ (.au (decide (aI.2>i0))) (gq aI.1) (.au (decide ((i:Int)>(i0:Int)))) (aq [(0,.al [.aj 1 l.length 1] 247),(1,.aA (aX ae.1) 3)] 2))
    (∃aE:LI×Nat×Nat,((([.aj 0 l.length 1,J (i:Int),J (j:Int)]:LV)=[.aj 0 aE.1.length 1,J (aE.2.1:Int),J (aE.2.2:Int)])/\(aq [(0,.aA (aX ae.1) 3)] 1=dJ aE.1)/\aE.2.1<aE.1.length/\aE.2.2<aE.1.length)/\
      bu Z 190 48 2 (.au (decide (aI.2>i0))) (gq aI.1) (Ea (i0:Int) (n:Int) (j:Int)) (aq [(0,.al [.aj 1 l.length 1] 247),(1,.aA (aX (o0 aE.1 aE.2.1 aE.2.2)) 3)] 2) (ax Z 190 0)):=by
  intro j g1 g2 g3;have hj:j<l.length:=by omega
  have hi:i<l.length:=by omega
  refine⟨(l,j,i),⟨rfl,rfl,hj,hi⟩,aD (λh5=>?_) λh5=>?_⟩
  .rw[aL (by simpa using h5)]at g3;exact ahS g3
  .have h6:l.getD j 0<l.getD i 0:=by simpa using h5
   rw[az (λh7=>h7 h6)]at g3;exact⟨(l,i,j),⟨rfl,rfl,hi,hj⟩,next j g1 g2 g3⟩
 refine aD (λh4=>?_) λh4=>?_
 .have h4:2*i+2<n:=by simp at h4;omega
  refine⟨(l,2*i+2,2*i+1),⟨rfl,rfl,by show 2*i+2<l.length;omega,by show 2*i+1<l.length;omega⟩,aD (λh5=>?_) λh5=>?_⟩
  .have h5:l.getD (2*i+2) 0<l.getD (2*i+1) 0:=by simpa using h5
   simp only[aL (And.intro h4 h5)]at hf;exact UU (2*i+2) (by omega) h4 hf
  .have h5:¬l.getD (2*i+2) 0<l.getD (2*i+1) 0:=by simpa using h5
   simp only[az (λh:2*i+2<n/\l.getD (2*i+2) 0<l.getD (2*i+1) 0=>h5 h.2)]at hf;exact UU (2*i+1) (by omega) h hf
 .have h4:¬2*i+2<n:=by simp at h4;omega
  simp only[az (λh:2*i+2<n/\l.getD (2*i+2) 0<l.getD (2*i+1) 0=>h4 h.1)]at hf;exact UU (2*i+1) (by omega) h hf
theorem aet:aS Z G7:=by refine cu V1 ?_;rintro⟨l,i,n⟩ args H ⟨rfl,rfl,h1,h2,h3,h4⟩;refine eE 48 V1 aAd ?_;exact aAc (n+1,l,i) ⟨by simp;omega,h1,h2,h3,h4,rfl⟩
theorem aeu:aS Z G8:=by
 refine cu aet ?_;rintro⟨l,x⟩ args H ⟨rfl,rfl,hl⟩;have hl:l.length<1000000:=hl;refine eE 12 aet azO ?_;have bS:(l++[x]).length=l.length+1:=by simp
 have e:wI (aP (l++[x]).length-1)=((l.length:Nat):Int):=by
  rw[bS];have e0:aP (l.length+1)-1=(l.length:Int):=by simp
  rw[e0,cH]
 exact⟨(l,x),⟨rfl,rfl,by show l.length<1200000;omega⟩,l++[x],⟨rfl,rfl⟩,(l++[x],l.length),⟨by rw[e],rfl,by simp,by simp;omega⟩,rfl,rfl⟩
theorem awn{l:LI}(h:0<l.length):l=l.take (l.length-1)++[l.getD (l.length-1) 0]:=by
 have h1:l.length-1<l.length:=by omega
 have:l.drop (l.length-1)=[l.getD (l.length-1) 0]:=by rw[fV h1,gR (by omega)];simp[List.getD,gS h1]
 rw[<-this,wH]
theorem Pl:aS Z G9:=by
 refine cu aeu ?_;rintro l args H ⟨rfl,rfl,h0,hl⟩;refine eE 15 aeu azS ?_;have e:wI (aP l.length-1)=((l.length-1:Nat):Int):=by
  have e0:aP l.length-1=((l.length-1:Nat):Int):=by simp;omega
  rw[e0,cH]
 have mi:(uf l).length=l.length:=by rw[uf,agR,um]
 have hs:=awn (l:=uf l) (by omega);rw[mi]at hs;have hf:(uK (l.length-1+1) (o0 l 0 (l.length-1)) 0 (l.length-1)).1=uf l:=by rw[uf];congr 2;omega
 refine⟨l,⟨rfl,rfl⟩,(l,0,l.length-1),⟨by rw[e];rfl,rfl,h0,by show l.length-1<l.length;omega⟩,(o0 l 0 (l.length-1),0,l.length-1),
  ⟨by rw[e];rfl,by simp only[gq,um],by simp only[um];omega,by simp only[um];omega,by simp,by simp only[um];exact h0⟩,
  ((uf l).take (l.length-1),(uf l).getD (l.length-1) 0),⟨rfl,?_,by simp;omega⟩,rfl,rfl⟩
 simp only[hf];rw[<-hs]
def jE(m:LP):bf:=.aY (bO J 0 m) m.length true
def Dl(base k:Int)(m:LP)(r:Int):LP:=if r>base then up r k m else m
def F2(base:Int):Nat->LP->iu->LP
 |_,m,[]=>m
 |k,m,i::l=>F2 base (k+1) ((e_ i++fB i).foldl (Dl base k) m) l
abbrev AS x0 x1:=aq [(0,.aA x0 56),(1,jE x1)] 2
def aa1:cq (nA×Int)where
 bh w A H:=A=[.bw 0 w.1.nu w.1.l.length 0 6 false,J w.2]/\H=mO w.1/\w.1.ok
 v w:=.aB 1
 aK w:=AS w.1.cs (F2 w.2 0 [] w.1.l)
theorem awm:aa1.ck:=by rintro w w' A H ⟨h1,h2,h3⟩ ⟨k1,k2,k3⟩;rw[Ts h1 h2 h3 k1 k2 k3]
def VV:Ev.bp:=bR 176 (bW aa1 awm cB) G9
def SL:Nat->LN:=fh [(3,[1,5,11,12,13]),(6,[1,5,6,11,12,13,22,23,24])]
def tZ(r:Int)(m:LP):Int:=(lk r m).getD 0
def Iz(df:LI)(fA:LP)(use:Int):AH:=aq [(0,.al [.aa 3 0] 246),(1,.al [.aB 4] 244),(2,.al [J use] 3),(3,.al [.aj 5 df.length 1] 247),(4,jE fA),(5,bH df 3)] 6
def alA(df:LI)(fA:LP)(use:Int):AH:=aq [(0,.al [.aa 3 0] 246),(1,.al [.aB 4] 244),(2,.al [J use] 3),(3,.al [.aj 6 df.length 1] 247),(4,jE fA),(5,.bm []),(6,bH df 3)] 7
def DC(l:LI)(x:Int):LI:=Aa (l.length+1) (l++[x]) l.length
def amr:cq (LI×LP×Int×Int)where
 bh w A H:=A=[J w.2.2.2,.aa 0 0,.aa 1 0,.aa 2 0]/\H=Iz w.1 w.2.1 w.2.2.1/\w.1.length<1000000
 v w:=.aC []
 aK w:=alA (DC w.1 (tZ w.2.2.2 w.2.1)) w.2.1 (wI (w.2.2.1-1))
theorem ayB:amr.ck:=by
 rintro⟨f,m,u,r⟩ ⟨f',m',u',r'⟩ A H ⟨h1,h2,_⟩ ⟨k1,k2,_⟩;have e:=h2.symm.trans k2;rw[h1]at k1;simp at k1;have q:=λi=>congrArg (λH=>AH.bc H i) e
 simp at q;have e1:=zR (de (q 5));have e2:=(bf.aY.inj (de (q 4))).1;have e3:=(bf.al.inj (de (q 2))).1;simp at e3;rw[k1,e1,sE yx e2,e3]
def Pj:Ev.bp:=bR 177 (bW amr ayB cB) VV
def sQ(m:LP)(r:Int):Int:=(lk r m).getD r
def tH(i:eG)(fA:LP):AH:=aq [(0,xV i),(1,.al [.aB 2] 244),(2,jE fA)] 3
def agk:LV->AH->Option Sp
 |[.aa 0 (.succ 0),.aa 1 0],H=>some (.ex (eG×LP) (λw=>(H=tH w.1 w.2,.aC [],tH ⟨w.1.op,sQ w.2 w.1.r,w.1.a,w.1.n,w.1.fx,w.1.ar⟩ w.2)) (λw w' h1 h2=>by
   have e:=h1.symm.trans h2;have q:=λi=>congrArg (λH=>AH.bc H i) e
   simp only[tH,ey]at q;have e0:=H4 (bf.al.inj (de (q 0))).1;have e2:=sE yx (bf.aY.inj (de (q 2))).1;rw[e0,e2]))
 |[.aa 0 (.succ (.succ 0)),.aa 1 0],H=>some (.ex (eG×LP) (λw=>(H=tH w.1 w.2,.aC [],tH ⟨w.1.op,w.1.r,sQ w.2 w.1.a,w.1.n,w.1.fx,w.1.ar⟩ w.2)) (λw w' h1 h2=>by
   have e:=h1.symm.trans h2;have q:=λi=>congrArg (λH=>AH.bc H i) e
   simp only[tH,ey]at q;have e0:=H4 (bf.al.inj (de (q 0))).1;have e2:=sE yx (bf.aY.inj (de (q 2))).1;rw[e0,e2]))
 |_,_=>none
def Ey:Ev.bp:=bR 182 agk Pj
abbrev Oy x0 x1 x2 x3 x4:=bg [(1,J x0),(5,.aB 1),(11,.bw 0 x1 x2 0 6 x3),(12,J (aP x2)),(13,J x4)]
theorem azL{cs off len base L Q}:
 bC Z G9 SL L Q 1000 176 [.bw 0 off len 0 6 false,J base] (aq [(0,.aA cs 56)] 1)=(
 L (Oy base off len false 0) (aq [(0,.aA cs 56),(1,.aY [] 0 true)] 2) (ax Z 176 0)):=by kernel_rfl
abbrev J8 x0 x1 x2 x3 x4 x5 x6 x7:=bg [(1,J x0),(5,.aB 1),(6,J x1),(11,.bw 0 x2 x3 0 6 x4),(12,J (aP x3)),(13,J x5),(22,.aj 2 x6 1),(23,J (aP x6)),(24,J x7)]
theorem azM{cs off len base i m L Q}:
 cg Z G9 SL L Q 1000 176 1 (Oy base off len false i) (ax Z 176 0) (AS cs m)=(
 aw (decide (i<aP len)) (∃aJ:Nat,i=(aJ:Int)/\aJ<len/\(∃n aN bz ct s dm,cz Z 56 cs (off+aJ*6)=some (.ai [J n,J aN,J bz,J ct,.ad s,J dm]:AV)/\(∃w,(([.ai [J n,J aN,J bz,J ct,.ad s,J dm]]:LV)=[.ai (dp w)]/\aq [] 0=an)/\some (.ai [J n,J aN,J bz,J ct,.ad s,J dm]:AV)=some (.ai [J n,J aN,J bz,J ct,.ad s,J dm]:AV)/\(∃ae,(([.ai [J n,J aN,J bz,J ct,.ad s,J dm]]:LV)=[.ai (dp ae)]/\aq [] 0=an)/\(aX (fB ae)).length=(fB ae).length*1/\((fB ae).length=0->(e_ w).length<=4194304/\L (J8 base i off len false i (e_ w).length 0) (aq [(0,.aA cs 56),(1,jE m),(2,bH (e_ w) 3)] 3) (ax Z 176 1))/\(1<=(fB ae).length->((aX (e_ w)).length=(e_ w).length*1/\(e_ w).length+(fB ae).length<=4194304/\List.all (aX (fB ae)) AV.cY=true/\List.all (aX (fB ae)) eR=true)/\L (J8 base i off len false i ((e_ w).length+(fB ae).length) 0) (aq [(0,.aA cs 56),(1,jE m),(2,.aA (aX (e_ w)++aX (fB ae)) 3)] 3) (ax Z 176 1)))))) (Q (.aB 1) (AS cs m))):=by kernel_rfl
theorem azJ{cs off len base i k j m rs L Q}:
 cg Z G9 SL L Q 1000 176 1 (J8 base k off len false i rs.length j) (ax Z 176 1) (aq [(0,.aA cs 56),(1,jE m),(2,bH rs 3)] 3)=(
 aw (decide (j<aP rs.length)) (∃aJ:Nat,j=(aJ:Int)/\aJ<rs.length/\(∃n,cz Z 3 (aX rs) (aJ*1)=some (J n:AV)/\aw (decide (n>base)) (∃bJ c',j9 Z 3 (bO J 0 m) m.length (J n) (J k)=some (bJ,c')/\L (J8 base k off len false i rs.length (wI (j+1))) (aq [(0,.aA cs 56),(1,.aY bJ c' true),(2,bH rs 3)] 3) (ax Z 176 1)) (L (J8 base k off len false i rs.length (wI (j+1))) (aq [(0,.aA cs 56),(1,jE m),(2,bH rs 3)] 3) (ax Z 176 1)))) (L (Oy base off len false (wI (i+1))) (AS cs m) (ax Z 176 0))):=by kernel_rfl
theorem azN{df fA use r L Q}:
 bC Z VV (λ_=>[]) L Q 1000 177 [J r,.aa 0 0,.aa 1 0,.aa 2 0] (Iz df fA use)=(
 ∃n b,eZ Z 3 3 (bO J 0 fA) (J r)=some (J n,b)/\(∃w:LI×Int,(([.ec 246 (.aa 0 0),.ec 3 (J n)]:LV)=[.ec 246 (.aa 0 0),.ec 3 (J w.2)]/\gq df=gq w.1/\w.1.length<1000000)/\Q (.aC []) (alA (Aa (w.1.length+1) (w.1++[w.2]) w.1.length) fA (wI (use-1))))):=by kernel_rfl
theorem azT{i fA L Q}:
 bC Z Pj (λ_=>[]) L Q 1000 182 [.aa 0 1,.aa 1 0] (tH i fA)=(
 ∃n b,eZ Z 3 3 (bO J 0 fA) (J i.r)=some (J n,b)/\aw b (Q (.aC []) (aq [(0,.al [J i.op,J n,J i.a,J i.n,.ad i.fx,J i.ar] 56),(1,.al [.aB 2] 244),(2,jE fA)] 3)) (Q (.aC []) (tH i fA))):=by kernel_rfl
theorem azU{i fA L Q}:
 bC Z Pj (λ_=>[]) L Q 1000 182 [.aa 0 2,.aa 1 0] (tH i fA)=(
 ∃n b,eZ Z 3 3 (bO J 0 fA) (J i.a)=some (J n,b)/\aw b (Q (.aC []) (aq [(0,.al [J i.op,J i.r,J n,J i.n,.ad i.fx,J i.ar] 56),(1,.al [.aB 2] 244),(2,jE fA)] 3)) (Q (.aC []) (tH i fA))):=by kernel_rfl
theorem Ji(m r):∃n b,eZ Z 3 3 (bO J 0 m) (J r)=some (J n,b)/\n=tZ r m/\(b=true->lk r m=some n)/\(b=false->lk r m=none):=by
 rw[pv _ Ie];unfold tZ;cases lk r m with
 |none=>exact⟨0,false,by rw[GQ];rfl,rfl,λh=>(by cases h),λ_=>rfl⟩
 |some n=>exact⟨n,true,rfl,rfl,λ_=>rfl,λh=>(by cases h)⟩
theorem amR{cs off len base i}{k:Nat}{m0 aI rs}(hr:rs.length<400000)(next:bu Z 176 37 1 (.aB 1) (AS cs aI) (Oy base off len false (wI (i+1))) (AS cs (rs.foldl (Dl base k) m0)) (ax Z 176 0)):
 ∀p:Nat×LP,(p.1<=rs.length/\(rs.drop p.1).foldl (Dl base k) p.2=rs.foldl (Dl base k) m0)->
 bu Z 176 37 1 (.aB 1) (AS cs aI) (J8 base (k:Int) off len false i rs.length (p.1:Int)) (aq [(0,.aA cs 56),(1,jE p.2),(2,bH rs 3)] 3) (ax Z 176 1):=by
 refine dF (λp=>rs.length-p.1) _ _ _ _ ?_;rintro⟨j,m⟩ ⟨hj,hf⟩ ih;refine hE Pl azJ ?_;refine aD (λay=>?_) λbq=>?_
 .have ay:j<rs.length:=by simpa using ay
  rw[fV ay,sV]at hf;have hg:rs.getD j 0=rs[j]:=by simp[List.getD,gS ay]
  refine⟨j,rfl,ay,rs[j],by rw[oy ay,hg],?_⟩;rw[oF ay (by omega)];refine aD (λh=>?_) λh=>?_
  .have h:rs[j]>base:=by simpa using h
   rw[Dl,aL h]at hf;exact⟨_,_,pG J Ie,ih (j+1,up rs[j] k m) ⟨by simp;omega,hf⟩ (by simp;omega)⟩
  .have h:¬rs[j]>base:=by simpa using h
   rw[Dl,az h]at hf;exact ih (j+1,m) ⟨by simp;omega,hf⟩ (by simp;omega)
 .have bq:rs.length<=j:=by simpa using bq
  rw[gR bq]at hf;have hf:m=rs.foldl (Dl base k) m0:=hf;rw[hf];exact next
theorem azK{p:nA}{base aI}(hp:p.ok):
 ∀q:Nat×LP,(q.1<=p.l.length/\F2 base q.1 q.2 (p.l.drop q.1)=aI)->
 bu Z 176 37 1 (.aB 1) (AS p.cs aI) (Oy base p.nu p.l.length false (q.1:Int)) (AS p.cs q.2) (ax Z 176 0):=by
 refine dF (λq=>p.l.length-q.1) _ _ _ _ ?_;rintro⟨i,m⟩ ⟨hi,hf⟩ ih;have mi:=hp.2;refine hE Pl azM ?_;refine aD (λay=>?_) λbq=>?_
 .have ay:i<p.l.length:=by simpa using ay
  have b_:=p.get hp ay;rw[fV ay,F2]at hf;have next:=ih (i+1,(e_ p.l[i]++fB p.l[i]).foldl (Dl base i) m) ⟨by simp;omega,hf⟩ (by simp;omega)
  generalize p.l[i]=x at b_ next
  have⟨o,r,a,n,s,ar⟩:=x;have hr:=ack ⟨o,r,a,n,s,ar⟩;have hw:=adI ⟨o,r,a,n,s,ar⟩;rw[<-oF ay (by omega)]at next
  refine⟨i,rfl,ay,o,r,a,n,s,ar,b_,⟨o,r,a,n,s,ar⟩,⟨rfl,rfl⟩,rfl,⟨o,r,a,n,s,ar⟩,⟨rfl,rfl⟩,by rw[Bv];omega,λh0=>⟨by omega,?_⟩,λh1=>⟨⟨by rw[Bv];omega,by omega,(Oe _).1,(Oe _).2⟩,?_⟩⟩
  .have he:=mo h0;rw[he,jH]at next
   exact amR (by omega) next (0,m) ⟨by simp,rfl⟩
  .have nx:=amR (by rw[cL];omega) next (0,m) ⟨by simp,rfl⟩
   simp only[bH,Od,cL]at nx;exact nx
 .have bq:p.l.length<=i:=by simpa using bq
  rw[gR bq]at hf;have hf:=hf;subst hf;exact⟨rfl,rfl⟩
theorem aeo:aS Z VV:=by refine cu Pl ?_;rintro⟨p,base⟩ args H ⟨rfl,rfl,hp⟩;have hp:=hp;refine eS Pl SL 37 ?_;simp only[aa1,mO];rw[azL];exact azK hp (0,[]) ⟨by simp,by simp⟩
theorem VW:aS Z Pj:=by refine cu aeo ?_;rintro⟨f,m,u,r⟩ args H ⟨rfl,rfl,hl⟩;refine eE 14 aeo azN ?_;have⟨n,b,h1,h2,_⟩:=Ji m r;refine⟨n,b,h1,(f,n),⟨rfl,rfl,hl⟩,rfl,?_⟩;subst h2;rfl
theorem Hc:aS Z Ey:=by
 refine xp VW λargs H sp p v H' hs hd hp=>?_
 unfold agk at hs;split at hs
 .cases hs;have⟨⟨i,m⟩,e⟩:=HT hd;cases e;have hp:=hp;subst hp;refine eE 17 VW azT ?_;have⟨n,b,h1,_,h3,h4⟩:=Ji m i.r;refine⟨n,b,h1,aD (λh=>⟨rfl,?_⟩) λh=>⟨rfl,?_⟩⟩
  .have:sQ m i.r=n:=by unfold sQ;rw[h3 h];rfl
   simp only[this];rfl
  .have:sQ m i.r=i.r:=by unfold sQ;rw[h4 h];rfl
   simp only[this]
 .cases hs;have⟨⟨i,m⟩,e⟩:=HT hd;cases e;have hp:=hp;subst hp;refine eE 17 VW azU ?_;have⟨n,b,h1,_,h3,h4⟩:=Ji m i.a;refine⟨n,b,h1,aD (λh=>⟨rfl,?_⟩) λh=>⟨rfl,?_⟩⟩
  .have:sQ m i.a=n:=by unfold sQ;rw[h3 h];rfl
   simp only[this];rfl
  .have:sQ m i.a=i.a:=by unfold sQ;rw[h4 h];rfl
   simp only[this]
 .cases hs
structure Al where
 aK:iu
 ek:Int
 fA:LP
 df:LI
 lH:Int
 mD:Int
def Al.vq(s:Al)(r:Int):Al:=⟨s.aK,s.ek,s.fA,DC s.df (tZ r s.fA),s.lH,wI (s.mD-1)⟩
def Al.oD(base:Int)(last:LP)(k:Int)(ws:LI)(s:Al)(r:Int):Al:=if r>base/\tZ r last=k/\r∉ws then s.vq r else s
def Al.o6(base:Int)(s:Al)(r:Int):Al:=
 if(lk r s.fA).isSome\/r<=base then s
 else if 0<s.df.length then⟨s.aK,s.ek,up r ((uf s.df).getD (s.df.length-1) 0) s.fA,(uf s.df).take (s.df.length-1),s.lH,wI (s.mD+1)⟩
 else⟨s.aK,s.ek,up r s.lH s.fA,s.df,wI (s.lH+1),wI (s.mD+1)⟩
def Al.zZ(s:Al):Al:=⟨s.aK,max s.ek s.mD,s.fA,s.df,s.lH,s.mD⟩
def Al.aI(base:Int)(last:LP)(k:Int)(s:Al)(r:Int):Al:=if r>base/\tZ r last=k then s.vq r else s
def EN(m:LP)(i:eG):eG:=⟨i.op,sQ m i.r,sQ m i.a,i.n,i.fx,i.ar⟩
def Al.put(s:Al)(i:eG):Al:=⟨s.aK++[EN s.fA i],s.ek,s.fA,s.df,s.lH,s.mD⟩
def Al.step(base:Int)(last:LP)(k:Int)(s:Al)(i:eG):Al:=
 ((fB i).foldl (Al.aI base last k) (((fB i).foldl (Al.o6 base) ((e_ i).foldl (Al.oD base last k (fB i)) s)).zZ)).put i
def Al.run(base:Int)(last:LP):Nat->Al->iu->Al
 |_,s,[]=>s
 |k,s,i::l=>Al.run base last (k+1) (s.step base last k i) l
def Hv(base:Int):Al:=⟨[],0,[],[],wI (base+1),0⟩
def At(l:iu)(base:Int):Al:=(Hv base).run base (F2 base 0 [] l) 0 l
def lq(l:iu):bf:=.aA (cS l) 56
abbrev v8 x0 x1:=aq [(0,.aA x0 56),(1,lq x1)] 2
def Xx:cq (nA×Int)where
 bh w A H:=A=[.bw 0 w.1.nu w.1.l.length 0 6 false,J w.2]/\H=mO w.1/\w.1.ok/\w.1.l.length<240000/\∀x∈w.1.l,(x.op=19\/x.op=20)->x.ar<=w.2
 v w:=.aC [.aj 1 (At w.1.l w.2).aK.length 6,J (At w.1.l w.2).ek]
 aK w:=v8 w.1.cs (At w.1.l w.2).aK
theorem aqa:Xx.ck:=by rintro w w' A H ⟨h1,h2,h3,_⟩ ⟨k1,k2,k3,_⟩;rw[Ts h1 h2 h3 k1 k2 k3]
def VX:Ev.bp:=bR 165 (bW Xx aqa cB) Ey
def Jk:Nat->LN:=fh [(8,[1,4,5,6,7,8,9,10,11,34,35,36]),(12,[1,4,5,6,7,8,9,10,11,12,13,15,34,35,36,45,46,47]),(18,[1,4,5,6,7,8,9,10,11,12,13,15,34,35,36,71,72,73]),(30,[1,4,5,6,7,8,9,10,11,12,13,34,35,36,114,115,116])]
def sm(s:Al)(base:Int)(off len:Nat)(i:Int)(m1 m2:List (Nat×AV)):Tr AV:=bg ([(1,J base),(4,.aj 1 s.aK.length 6),(5,J s.ek),(6,.aB 2),(7,.aa 3 0),(8,.aa 4 0),(9,J s.lH),(10,.aa 5 0),(11,.bn (.func 177) [] [.aa 4 0,.aa 3 0,.aa 5 0])]++(m1++([(34,.bw 0 off len 0 6 false),(35,J (aP len)),(36,J i)]++m2)))
def Fi(cs:LV)(last:LP)(s:Al):AH:=aq [(0,.aA cs 56),(1,lq s.aK),(2,jE last),(3,.al [.aB 6] 244),(4,.al [.aa 7 0] 246),(5,.al [J s.mD] 3),(6,jE s.fA),(7,.al [.aj 8 s.df.length 1] 247),(8,bH s.df 3)] 9
def Iy(cs:LV)(last:LP)(s:Al)(x:eG)(ws rs:LI):AH:=aq [(0,.aA cs 56),(1,lq s.aK),(2,jE last),(3,.al [.aB 9] 244),(4,.al [.aa 10 0] 246),(5,.al [J s.mD] 3),(6,xV x),(7,bH ws 3),(8,bH rs 3),(9,jE s.fA),(10,.al [.aj 11 s.df.length 1] 247),(11,bH s.df 3)] 12
def v7(cs:LV)(last:LP)(s:Al)(x:eG)(ws:LI):AH:=aq [(0,.aA cs 56),(1,lq s.aK),(2,jE last),(3,.al [.aB 8] 244),(4,.al [.aa 9 0] 246),(5,.al [J s.mD] 3),(6,xV x),(7,bH ws 3),(8,jE s.fA),(9,.al [.aj 10 s.df.length 1] 247),(10,bH s.df 3)] 11
theorem azg{cs off len base L Q}:
 bC Z Ey Jk L Q 2000 165 [.bw 0 off len 0 6 false,J base] (aq [(0,.aA cs 56)] 1)=(
 ∃w:nA×Int,(([.bw 0 off len 0 6 false,J base]:LV)=[.bw 0 w.1.nu w.1.l.length 0 6 false,J w.2]/\aq [(0,.aA cs 56)] 1=mO w.1/\w.1.ok)/\L (bg [(1,J base),(4,.aM),(5,J 0),(6,.aB 1),(7,.aa 2 0),(8,.aa 3 0),(9,J (wI (base+1))),(10,.aa 4 0),(11,.bn (.func 177) [] [.aa 3 0,.aa 2 0,.aa 4 0]),(34,.bw 0 off len 0 6 false),(35,J (aP len)),(36,J 0)]) (aq [(0,.aA w.1.cs 56),(1,jE (F2 w.2 0 [] w.1.l)),(2,.al [.aB 5] 244),(3,.al [.aa 6 0] 246),(4,.al [J 0] 3),(5,.aY [] 0 true),(6,.al [.bw 7 0 0 0 1 true] 247),(7,.al [] 3)] 8) (ax Z 165 0)):=by kernel_rfl
theorem azh{cs last s base off len i L Q}:
 cg Z Ey Jk L Q 2000 165 1 (sm s base off len i [] []) (ax Z 165 0) (Fi cs last s)=(
 aw (decide (i<aP len)) (∃aJ:Nat,i=(aJ:Int)/\aJ<len/\(∃n aN bz ct cr dm,cz Z 56 cs (off+aJ*6)=some (.ai [J n,J aN,J bz,J ct,.ad cr,J dm]:AV)/\(∃w,(([.ai [J n,J aN,J bz,J ct,.ad cr,J dm]]:LV)=[.ai (dp w)]/\aq [] 0=an)/\some (.ai [J n,J aN,J bz,J ct,.ad cr,J dm]:AV)=some (.ai [J n,J aN,J bz,J ct,.ad cr,J dm]:AV)/\(∃ae,(([.ai [J n,J aN,J bz,J ct,.ad cr,J dm]]:LV)=[.ai (dp ae)]/\aq [] 0=an)/\L (bg [(1,J base),(4,.aj 1 s.aK.length 6),(5,J s.ek),(6,.aB 2),(7,.aa 3 0),(8,.aa 4 0),(9,J s.lH),(10,.aa 5 0),(11,.bn (.func 177) [] [.aa 4 0,.aa 3 0,.aa 5 0]),(12,J i),(13,.aa 6 0),(15,.aj 7 (fB ae).length 1),(34,.bw 0 off len 0 6 false),(35,J (aP len)),(36,J i),(45,.aj 8 (e_ w).length 1),(46,J (aP (e_ w).length)),(47,J 0)]) (aq [(0,.aA cs 56),(1,lq s.aK),(2,jE last),(3,.al [.aB 9] 244),(4,.al [.aa 10 0] 246),(5,.al [J s.mD] 3),(6,.al [J n,J aN,J bz,J ct,.ad cr,J dm] 56),(7,bH (fB ae) 3),(8,bH (e_ w) 3),(9,jE s.fA),(10,.al [.aj 11 s.df.length 1] 247),(11,bH s.df 3)] 12) (ax Z 165 1))))) (Q (.aC [.aj 1 s.aK.length 6,J s.ek]) (v8 cs s.aK))):=by kernel_rfl
theorem azi{cs last s base off len i k j x ws rs L Q}:
 cg Z Ey Jk L Q 2000 165 1 (sm s base off len i [(12,J k),(13,.aa 6 0),(15,.aj 7 ws.length 1)] [(45,.aj 8 rs.length 1),(46,J (aP rs.length)),(47,J j)]) (ax Z 165 1) (Iy cs last s x ws rs)=(
 aw (decide (j<aP rs.length)) (∃aJ:Nat,j=(aJ:Int)/\aJ<rs.length/\(∃n,cz Z 3 (aX rs) (aJ*1)=some (J n:AV)/\aw (decide (n>base)) (∃aN b,eZ Z 3 3 (bO J 0 last) (J n)=some (J aN,b)/\aw (aN==k) (∃w,(dJ ws=dJ w/\ws.length=w.length/\w.length<2000000)/\aw (!decide (n∈w)) (∃ae:LI×List (Int×Int)×Int×Int,(([J n,.aa 0 0,.aa 1 0,.aa 2 0]:LV)=[J ae.2.2.2,.aa 0 0,.aa 1 0,.aa 2 0]/\Iz s.df s.fA s.mD=Iz ae.1 ae.2.1 ae.2.2.1/\ae.1.length<1000000)/\L (bg [(1,J base),(4,.aj 1 s.aK.length 6),(5,J s.ek),(6,.aB 2),(7,.aa 3 0),(8,.aa 4 0),(9,J s.lH),(10,.aa 5 0),(11,.bn (.func 177) [] [.aa 4 0,.aa 3 0,.aa 5 0]),(12,J k),(13,.aa 6 0),(15,.aj 7 ws.length 1),(34,.bw 0 off len 0 6 false),(35,J (aP len)),(36,J i),(45,.aj 8 rs.length 1),(46,J (aP rs.length)),(47,J (wI (j+1)))]) (aq [(0,.aA cs 56),(1,lq s.aK),(2,jE last),(3,.al [.aB 9] 244),(4,.al [.aa 10 0] 246),(5,.al [J (wI (ae.2.2.1-1))] 3),(6,xV x),(7,bH w 3),(8,bH rs 3),(9,jE ae.2.1),(10,.al [.aj 11 (DC ae.1 (tZ ae.2.2.2 ae.2.1)).length 1] 247),(11,bH (DC ae.1 (tZ ae.2.2.2 ae.2.1)) 3)] 12) (ax Z 165 1)) (L (bg [(1,J base),(4,.aj 1 s.aK.length 6),(5,J s.ek),(6,.aB 2),(7,.aa 3 0),(8,.aa 4 0),(9,J s.lH),(10,.aa 5 0),(11,.bn (.func 177) [] [.aa 4 0,.aa 3 0,.aa 5 0]),(12,J k),(13,.aa 6 0),(15,.aj 7 ws.length 1),(34,.bw 0 off len 0 6 false),(35,J (aP len)),(36,J i),(45,.aj 8 rs.length 1),(46,J (aP rs.length)),(47,J (wI (j+1)))]) (Iy cs last s x w rs) (ax Z 165 1))) (L (bg [(1,J base),(4,.aj 1 s.aK.length 6),(5,J s.ek),(6,.aB 2),(7,.aa 3 0),(8,.aa 4 0),(9,J s.lH),(10,.aa 5 0),(11,.bn (.func 177) [] [.aa 4 0,.aa 3 0,.aa 5 0]),(12,J k),(13,.aa 6 0),(15,.aj 7 ws.length 1),(34,.bw 0 off len 0 6 false),(35,J (aP len)),(36,J i),(45,.aj 8 rs.length 1),(46,J (aP rs.length)),(47,J (wI (j+1)))]) (Iy cs last s x ws rs) (ax Z 165 1))) (L (bg [(1,J base),(4,.aj 1 s.aK.length 6),(5,J s.ek),(6,.aB 2),(7,.aa 3 0),(8,.aa 4 0),(9,J s.lH),(10,.aa 5 0),(11,.bn (.func 177) [] [.aa 4 0,.aa 3 0,.aa 5 0]),(12,J k),(13,.aa 6 0),(15,.aj 7 ws.length 1),(34,.bw 0 off len 0 6 false),(35,J (aP len)),(36,J i),(45,.aj 8 rs.length 1),(46,J (aP rs.length)),(47,J (wI (j+1)))]) (Iy cs last s x ws rs) (ax Z 165 1)))) (L (bg [(1,J base),(4,.aj 1 s.aK.length 6),(5,J s.ek),(6,.aB 2),(7,.aa 3 0),(8,.aa 4 0),(9,J s.lH),(10,.aa 5 0),(11,.bn (.func 177) [] [.aa 4 0,.aa 3 0,.aa 5 0]),(12,J k),(13,.aa 6 0),(15,.aj 7 ws.length 1),(34,.bw 0 off len 0 6 false),(35,J (aP len)),(36,J i),(71,.aj 7 ws.length 1),(72,J (aP ws.length)),(73,J 0)]) (v7 cs last s x ws) (ax Z 165 2))):=by kernel_rfl
theorem azk{cs last s base off len i k j x ws L Q}:
 cg Z Ey Jk L Q 2000 165 1 (sm s base off len i [(12,J k),(13,.aa 6 0),(15,.aj 7 ws.length 1)] [(71,.aj 7 ws.length 1),(72,J (aP ws.length)),(73,J j)]) (ax Z 165 2) (v7 cs last s x ws)=(
 aw (decide (j<aP ws.length)) (∃aJ:Nat,j=(aJ:Int)/\aJ<ws.length/\(∃n,cz Z 3 (aX ws) (aJ*1)=some (J n:AV)/\(∃aN b,eZ Z 3 3 (bO J 0 s.fA) (J n)=some (J aN,b)/\aw b (L (bg [(1,J base),(4,.aj 1 s.aK.length 6),(5,J s.ek),(6,.aB 2),(7,.aa 3 0),(8,.aa 4 0),(9,J s.lH),(10,.aa 5 0),(11,.bn (.func 177) [] [.aa 4 0,.aa 3 0,.aa 5 0]),(12,J k),(13,.aa 6 0),(15,.aj 7 ws.length 1),(34,.bw 0 off len 0 6 false),(35,J (aP len)),(36,J i),(71,.aj 7 ws.length 1),(72,J (aP ws.length)),(73,J (wI (j+1)))]) (v7 cs last s x ws) (ax Z 165 2)) (aw (decide (n<=base)) (L (bg [(1,J base),(4,.aj 1 s.aK.length 6),(5,J s.ek),(6,.aB 2),(7,.aa 3 0),(8,.aa 4 0),(9,J s.lH),(10,.aa 5 0),(11,.bn (.func 177) [] [.aa 4 0,.aa 3 0,.aa 5 0]),(12,J k),(13,.aa 6 0),(15,.aj 7 ws.length 1),(34,.bw 0 off len 0 6 false),(35,J (aP len)),(36,J i),(71,.aj 7 ws.length 1),(72,J (aP ws.length)),(73,J (wI (j+1)))]) (v7 cs last s x ws) (ax Z 165 2)) (∃w,(([.aj 0 s.df.length 1]:LV)=[.aj 0 w.length 1]/\dJ s.df=dJ w)/\aw (decide (aP w.length>0)) (∃ae,(([.ec 246 (.aa 0 0)]:LV)=[.ec 246 (.aa 0 0)]/\aq [(0,.al [.aj 1 s.df.length 1] 247),(1,bH w 3)] 2=gq ae/\0<ae.length/\ae.length<1000000)/\some (.aB 8:AV)=some (.aB 8:AV)/\(∃bJ c',j9 Z 3 (bO J 0 s.fA) s.fA.length (J n) (J (List.getD (uf ae) (ae.length-1) 0))=some (bJ,c')/\L (bg [(1,J base),(4,.aj 1 s.aK.length 6),(5,J s.ek),(6,.aB 2),(7,.aa 3 0),(8,.aa 4 0),(9,J s.lH),(10,.aa 5 0),(11,.bn (.func 177) [] [.aa 4 0,.aa 3 0,.aa 5 0]),(12,J k),(13,.aa 6 0),(15,.aj 7 ws.length 1),(34,.bw 0 off len 0 6 false),(35,J (aP len)),(36,J i),(71,.aj 7 ws.length 1),(72,J (aP ws.length)),(73,J (wI (j+1)))]) (aq [(0,.aA cs 56),(1,lq s.aK),(2,jE last),(3,.al [.aB 8] 244),(4,.al [.aa 9 0] 246),(5,.al [J (wI (s.mD+1))] 3),(6,xV x),(7,bH ws 3),(8,.aY bJ c' true),(9,.al [.aj 10 ((uf ae).take (ae.length-1)).length 1] 247),(10,bH (List.take (ae.length-1) (uf ae)) 3)] 11) (ax Z 165 2))) (∃bJ c',j9 Z 3 (bO J 0 s.fA) s.fA.length (J n) (J s.lH)=some (bJ,c')/\L (bg [(1,J base),(4,.aj 1 s.aK.length 6),(5,J s.ek),(6,.aB 2),(7,.aa 3 0),(8,.aa 4 0),(9,J (wI (s.lH+1))),(10,.aa 5 0),(11,.bn (.func 177) [] [.aa 4 0,.aa 3 0,.aa 5 0]),(12,J k),(13,.aa 6 0),(15,.aj 7 ws.length 1),(34,.bw 0 off len 0 6 false),(35,J (aP len)),(36,J i),(71,.aj 7 ws.length 1),(72,J (aP ws.length)),(73,J (wI (j+1)))]) (aq [(0,.aA cs 56),(1,lq s.aK),(2,jE last),(3,.al [.aB 8] 244),(4,.al [.aa 9 0] 246),(5,.al [J (wI (s.mD+1))] 3),(6,xV x),(7,bH ws 3),(8,.aY bJ c' true),(9,.al [.aj 10 s.df.length 1] 247),(10,bH w 3)] 11) (ax Z 165 2))))))) (L (bg [(1,J base),(4,.aj 1 s.aK.length 6),(5,J (if s.mD>s.ek then s.mD else s.ek)),(6,.aB 2),(7,.aa 3 0),(8,.aa 4 0),(9,J s.lH),(10,.aa 5 0),(11,.bn (.func 177) [] [.aa 4 0,.aa 3 0,.aa 5 0]),(12,J k),(13,.aa 6 0),(34,.bw 0 off len 0 6 false),(35,J (aP len)),(36,J i),(114,.aj 7 ws.length 1),(115,J (aP ws.length)),(116,J 0)]) (v7 cs last s x ws) (ax Z 165 3))):=by kernel_rfl
theorem azd{cs last s base off len i k j x ws L Q}:
 cg Z Ey Jk L Q 2000 165 1 (sm s base off len i [(12,J k),(13,.aa 6 0)] [(114,.aj 7 ws.length 1),(115,J (aP ws.length)),(116,J j)]) (ax Z 165 3) (v7 cs last s x ws)=(
 aw (decide (j<aP ws.length)) (∃aJ:Nat,j=(aJ:Int)/\aJ<ws.length/\(∃n,cz Z 3 (aX ws) (aJ*1)=some (J n:AV)/\aw (decide (n>base)) (∃aN b,eZ Z 3 3 (bO J 0 last) (J n)=some (J aN,b)/\aw (aN==k) (∃w:LI×List (Int×Int)×Int×Int,(([J n,.aa 0 0,.aa 1 0,.aa 2 0]:LV)=[J w.2.2.2,.aa 0 0,.aa 1 0,.aa 2 0]/\Iz s.df s.fA s.mD=Iz w.1 w.2.1 w.2.2.1/\w.1.length<1000000)/\L (bg [(1,J base),(4,.aj 1 s.aK.length 6),(5,J s.ek),(6,.aB 2),(7,.aa 3 0),(8,.aa 4 0),(9,J s.lH),(10,.aa 5 0),(11,.bn (.func 177) [] [.aa 4 0,.aa 3 0,.aa 5 0]),(12,J k),(13,.aa 6 0),(34,.bw 0 off len 0 6 false),(35,J (aP len)),(36,J i),(114,.aj 7 ws.length 1),(115,J (aP ws.length)),(116,J (wI (j+1)))]) (aq [(0,.aA cs 56),(1,lq s.aK),(2,jE last),(3,.al [.aB 8] 244),(4,.al [.aa 9 0] 246),(5,.al [J (wI (w.2.2.1-1))] 3),(6,xV x),(7,bH ws 3),(8,jE w.2.1),(9,.al [.aj 10 (DC w.1 (tZ w.2.2.2 w.2.1)).length 1] 247),(10,bH (DC w.1 (tZ w.2.2.2 w.2.1)) 3)] 11) (ax Z 165 3)) (L (bg [(1,J base),(4,.aj 1 s.aK.length 6),(5,J s.ek),(6,.aB 2),(7,.aa 3 0),(8,.aa 4 0),(9,J s.lH),(10,.aa 5 0),(11,.bn (.func 177) [] [.aa 4 0,.aa 3 0,.aa 5 0]),(12,J k),(13,.aa 6 0),(34,.bw 0 off len 0 6 false),(35,J (aP len)),(36,J i),(114,.aj 7 ws.length 1),(115,J (aP ws.length)),(116,J (wI (j+1)))]) (v7 cs last s x ws) (ax Z 165 3))) (L (bg [(1,J base),(4,.aj 1 s.aK.length 6),(5,J s.ek),(6,.aB 2),(7,.aa 3 0),(8,.aa 4 0),(9,J s.lH),(10,.aa 5 0),(11,.bn (.func 177) [] [.aa 4 0,.aa 3 0,.aa 5 0]),(12,J k),(13,.aa 6 0),(34,.bw 0 off len 0 6 false),(35,J (aP len)),(36,J i),(114,.aj 7 ws.length 1),(115,J (aP ws.length)),(116,J (wI (j+1)))]) (v7 cs last s x ws) (ax Z 165 3)))) (∃w:eG×List (Int×Int),tH x s.fA=tH w.1 w.2/\(∃ae:eG×List (Int×Int),tH (eG.mk w.1.op (sQ w.2 w.1.r) w.1.a w.1.n w.1.fx w.1.ar) w.2=tH ae.1 ae.2/\((cS s.aK).length=s.aK.length*6/\s.aK.length+1<=4194304/\true=true/\true=true)/\L (bg [(1,J base),(4,.aj 1 (s.aK.length+1) 6),(5,J s.ek),(6,.aB 2),(7,.aa 3 0),(8,.aa 4 0),(9,J s.lH),(10,.aa 5 0),(11,.bn (.func 177) [] [.aa 4 0,.aa 3 0,.aa 5 0]),(34,.bw 0 off len 0 6 false),(35,J (aP len)),(36,J (wI (i+1)))]) (aq [(0,.aA cs 56),(1,.aA (cS s.aK++dp (eG.mk ae.1.op ae.1.r (sQ ae.2 ae.1.a) ae.1.n ae.1.fx ae.1.ar)) 56),(2,jE last),(3,.al [.aB 6] 244),(4,.al [.aa 7 0] 246),(5,.al [J s.mD] 3),(6,jE ae.2),(7,.al [.aj 8 s.df.length 1] 247),(8,bH s.df 3)] 9) (ax Z 165 0)))):=by kernel_rfl
theorem aGw(i):(fB i).length<=2:=by
 have h:=(J3 i.op).2;have h2:(qs i.op).1.2.2.2.2≠[112]:=by
  unfold qs;cases hs:yu i.op with
  |none=>simp[GR]
  |some r=>have:=acO hs;simp only[DU,dK,List.mem_nil_iff,or_false]at this;rcases this with rfl|rfl|rfl|rfl|rfl|rfl|rfl|rfl|rfl|rfl|rfl|rfl|rfl|rfl|rfl|rfl|rfl|rfl|rfl|rfl|rfl|rfl|rfl|rfl|rfl<;>simp
 unfold fB lD;split
 .rcases h with h|h|h|h|h<;>rw[h]<;>simp[ym]
  .split<;>simp
  .exact absurd h h2
 .simp
def uI(base:Int)(l:LI):Nat:=(l.filter (λr=>decide (r>base))).length
theorem Yh(base l):uI base l<=l.length:=List.length_filter_le _ _
theorem awZ{n x}(h:x∈rL n):x<=n:=by obtain⟨k,h1,rfl⟩:=sb.1 h;have:=JY.1 h1;omega
theorem ayx{i base}(h:(i.op=19\/i.op=20)->i.ar<=base):uI base (e_ i)<=2:=by
 have h0:=(J3 i.op).1;have h2:(qs i.op).1.2.2.2.1=[112]->i.op=19\/i.op=20:=by
  unfold qs;cases hs:yu i.op with
  |none=>simp[GR]
  |some r=>
   have nR:r.1=i.op:=by
    have⟨o,a1,a2,a3,a4,a5⟩:=i;cases o with
    |negSucc n=>cases hs
    |ofNat n=>
     match n,hs with
     |n+1,hs=>
      have hn:∀(l:List ry) (m n:Nat) (r:ry),S9 l n=some r->(∀j (h:j<l.length),(l[j]).1=((m+j:Nat):Int))->r.1=((m+n:Nat):Int):=by
       intro l;induction l with
       |nil=>intro m n r h;cases h
       |cons a l ih=>
        intro m n r h hj;cases n with
        |zero=>cases h;have:=hj 0 (by simp);exact this
        |succ n=>have:=ih (m+1) n r h (λj h=>by have:=hj (j+1) (by simpa using h);simp at this;rw[this];congr 1;omega);rw[this];omega
      have:=hn DU 1 n r hs (by decide);rw[this];simp;omega
   have:=acO hs;simp only[DU,dK,List.mem_nil_iff,or_false]at this;intro hr;rw[<-nR];rcases this with rfl|rfl|rfl|rfl|rfl|rfl|rfl|rfl|rfl|rfl|rfl|rfl|rfl|rfl|rfl|rfl|rfl|rfl|rfl|rfl|rfl|rfl|rfl|rfl|rfl<;>simp at hr⊢
 unfold e_ lD;split
 .rcases h0 with h1|h1|h1|h1|h1<;>rw[h1]
  .simp[uI]
  .refine kQ (Yh _ _) ?_;simp[ym]
  .refine kQ (Yh _ _) ?_;simp[ym]
  .refine kQ (Yh _ _) ?_;simp only[sV,NZ,ym];simp;split<;>simp
  .have hb:=h (h2 h1);simp;simp only[uI];rw[TI.2]
   .simp
   .intro x hx;have:=awZ hx;simp;omega
 .simp[uI]
theorem asG(l i):cS (l++[i])=cS l++[J i.op,J i.r,J i.a,J i.n,.ad i.fx,J i.ar]:=by rw[QH];rfl
theorem Tz(l x):(DC l x).length=l.length+1:=by simp[DC,aoj]
section
variable{cs:LV}{off len:Nat}{base i k:Int}{aI sF:Al}{x:eG}{ws rs:LI}{last:LP}
theorem aze(hw:ws.length<5000)(ho:sF.aK.length<1200000)(next:bu Z 165 148 1 (.aC [.aj 1 aI.aK.length 6,J aI.ek]) (v8 cs aI.aK) (sm (sF.put x) base off len (wI (i+1)) [] []) (Fi cs last (sF.put x)) (ax Z 165 0)):
 ∀p:Nat×Al,(p.1<=ws.length/\p.2.df.length+(ws.length-p.1)<1000000/\(ws.drop p.1).foldl (Al.aI base last k) p.2=sF)->
 bu Z 165 148 1 (.aC [.aj 1 aI.aK.length 6,J aI.ek]) (v8 cs aI.aK) (sm p.2 base off len i [(12,J k),(13,.aa 6 0)] [(114,.aj 7 ws.length 1),(115,J (aP ws.length)),(116,J (p.1:Int))]) (v7 cs last p.2 x ws) (ax Z 165 3):=by
 refine dF (λp=>ws.length-p.1) _ _ _ _ ?_;rintro⟨j,s⟩ ⟨hj,hb,hf⟩ ih;simp only at hj hb hf ih⊢;refine hE Hc azd ?_;refine aD (λay=>?_) λbq=>?_
 .have ay:j<ws.length:=by simpa using ay
  rw[fV ay,sV]at hf;have hg:ws.getD j 0=ws[j]:=by simp[List.getD,gS ay]
  refine⟨j,rfl,ay,ws[j],by rw[oy ay,hg],?_⟩;rw[oF ay (by omega)];have skip:¬(ws[j]>base/\tZ ws[j] last=k)->bu Z 165 148 1 (.aC [.aj 1 aI.aK.length 6,J aI.ek]) (v8 cs aI.aK) (sm s base off len i [(12,J k),(13,.aa 6 0)] [(114,.aj 7 ws.length 1),(115,J (aP ws.length)),(116,J ((j+1:Nat):Int))]) (v7 cs last s x ws) (ax Z 165 3):=by intro hn;rw[Al.aI,az hn]at hf;exact ih (j+1,s) ⟨by simp;omega,by simp only;omega,hf⟩ (by simp;omega)
  have⟨n,b,h1,h2,_⟩:=Ji last ws[j];refine aD (λhr=>⟨n,b,h1,aD (λhk=>?_) λhk=>?_⟩) λhr=>?_
  .have hc:ws[j]>base/\tZ ws[j] last=k:=⟨by simpa using hr,by rw[<-h2];simpa using hk⟩;rw[Al.aI,aL hc]at hf;have kN:s.df.length<1000000:=by omega
   refine⟨(s.df,s.fA,s.mD,ws[j]),⟨rfl,rfl,kN⟩,?_⟩;exact ih (j+1,s.vq ws[j]) ⟨by simp;omega,by simp only[Al.vq,Tz];omega,hf⟩ (by simp;omega)
  .exact skip (λh=>by simp at hk;exact hk (h2.trans h.2))
  .exact skip (λh=>by simp at hr;omega)
 .have bq:ws.length<=j:=by simpa using bq
  rw[gR bq]at hf;have hf:s=sF:=hf;subst hf;refine⟨(x,s.fA),rfl,(⟨x.op,sQ s.fA x.r,x.a,x.n,x.fx,x.ar⟩,s.fA),rfl,⟨by rw[Cd],by omega,rfl,rfl⟩,?_⟩;have hol:(s.put x).aK.length=s.aK.length+1:=by simp[Al.put]
  simp only[sm,Fi,lq,hol]at next
  have hoe:cS (s.put x).aK=cS s.aK++[J (EN s.fA x).op,J (EN s.fA x).r,J (EN s.fA x).a,J (EN s.fA x).n,.ad (EN s.fA x).fx,J (EN s.fA x).ar]:=asG _ _;rw[hoe]at next
  exact next
theorem azl(hw:ws.length<5000){sW}(tW:sW.df.length+ws.length<1000000)(ho:sF.aK.length<1200000)(hsF:ws.foldl (Al.aI base last k) sW.zZ=sF)(next:bu Z 165 148 1 (.aC [.aj 1 aI.aK.length 6,J aI.ek]) (v8 cs aI.aK) (sm (sF.put x) base off len (wI (i+1)) [] []) (Fi cs last (sF.put x)) (ax Z 165 0)):
 ∀p:Nat×Al,(p.1<=ws.length/\p.2.df.length<1000000/\(ws.drop p.1).foldl (Al.o6 base) p.2=sW)->
 bu Z 165 148 1 (.aC [.aj 1 aI.aK.length 6,J aI.ek]) (v8 cs aI.aK) (sm p.2 base off len i [(12,J k),(13,.aa 6 0),(15,.aj 7 ws.length 1)] [(71,.aj 7 ws.length 1),(72,J (aP ws.length)),(73,J (p.1:Int))]) (v7 cs last p.2 x ws) (ax Z 165 2):=by
 refine dF (λp=>ws.length-p.1) _ _ _ _ ?_;rintro⟨j,s⟩ ⟨hj,hb,hf⟩ ih;simp only at hj hb hf ih⊢;refine hE Hc azk ?_;refine aD (λay=>?_) λbq=>?_
 .have ay:j<ws.length:=by simpa using ay
  rw[fV ay,sV]at hf;have hg:ws.getD j 0=ws[j]:=by simp[List.getD,gS ay]
  refine⟨j,rfl,ay,ws[j],by rw[oy ay,hg],?_⟩;rw[oF ay (by omega)];have skip:((lk ws[j] s.fA).isSome\/ws[j]<=base)->bu Z 165 148 1 (.aC [.aj 1 aI.aK.length 6,J aI.ek]) (v8 cs aI.aK) (sm s base off len i [(12,J k),(13,.aa 6 0),(15,.aj 7 ws.length 1)] [(71,.aj 7 ws.length 1),(72,J (aP ws.length)),(73,J ((j+1:Nat):Int))]) (v7 cs last s x ws) (ax Z 165 2):=by intro hn;rw[Al.o6,aL hn]at hf;exact ih (j+1,s) ⟨by simp;omega,hb,hf⟩ (by simp;omega)
  have⟨n,b,h1,h2,h3,h4⟩:=Ji s.fA ws[j];refine⟨n,b,h1,aD (λh=>skip (.inl (by rw[h3 h];rfl))) λh=>aD (λh5=>skip (.inr (by simpa using h5))) λh5=>?_⟩;have hn:¬((lk ws[j] s.fA).isSome\/ws[j]<=base):=by rw[h4 h];simp at h5⊢;omega
  rw[Al.o6,az hn]at hf;refine⟨s.df,⟨rfl,rfl⟩,aD (λh6=>?_) λh6=>?_⟩
  .have h6:0<s.df.length:=by simpa using h6
   rw[aL h6]at hf;refine⟨s.df,⟨rfl,rfl,h6,hb⟩,rfl,_,_,pG J Ie,?_⟩;exact ih (j+1,_) ⟨by simp;omega,by simp;omega,hf⟩ (by simp;omega)
  .have h6:¬0<s.df.length:=by simpa using h6
   rw[az h6]at hf;refine⟨_,_,pG J Ie,?_⟩;exact ih (j+1,⟨s.aK,s.ek,up ws[j] s.lH s.fA,s.df,wI (s.lH+1),wI (s.mD+1)⟩) ⟨by simp;omega,hb,hf⟩ (by simp;omega)
 .have bq:ws.length<=j:=by simpa using bq
  rw[gR bq]at hf;have hf:=hf;subst hf;have hm:(if s.mD>s.ek then s.mD else s.ek)=max s.ek s.mD:=by split<;>omega
  rw[hm];exact aze hw ho next (0,s.zZ) ⟨by simp,by show s.df.length+(ws.length-0)<1000000;simpa using tW,by simpa using hsF⟩
theorem azj(hr:rs.length<5000)(hw:ws.length<5000){sR sW}(hR:sR.df.length<1000000)(hsW:ws.foldl (Al.o6 base) sR=sW)(tW:sW.df.length+ws.length<1000000)(ho:sF.aK.length<1200000)(hsF:ws.foldl (Al.aI base last k) sW.zZ=sF)(next:bu Z 165 148 1 (.aC [.aj 1 aI.aK.length 6,J aI.ek]) (v8 cs aI.aK) (sm (sF.put x) base off len (wI (i+1)) [] []) (Fi cs last (sF.put x)) (ax Z 165 0)):
 ∀p:Nat×Al,(p.1<=rs.length/\p.2.df.length+uI base (rs.drop p.1)<1000000/\(rs.drop p.1).foldl (Al.oD base last k ws) p.2=sR)->
 bu Z 165 148 1 (.aC [.aj 1 aI.aK.length 6,J aI.ek]) (v8 cs aI.aK) (sm p.2 base off len i [(12,J k),(13,.aa 6 0),(15,.aj 7 ws.length 1)] [(45,.aj 8 rs.length 1),(46,J (aP rs.length)),(47,J (p.1:Int))]) (Iy cs last p.2 x ws rs) (ax Z 165 1):=by
 refine dF (λp=>rs.length-p.1) _ _ _ _ ?_;rintro⟨j,s⟩ ⟨hj,hb,hf⟩ ih;simp only at hj hb hf ih⊢;refine hE Hc azi ?_;refine aD (λay=>?_) λbq=>?_
 .have ay:j<rs.length:=by simpa using ay
  rw[fV ay,sV]at hf;rw[fV ay]at hb;have My:uI base (rs[j]::rs.drop (j+1))=(if rs[j]>base then 1 else 0)+uI base (rs.drop (j+1)):=by simp only[uI,ug];by_cases h:rs[j]>base<;>simp[h];omega
  rw[My]at hb;have hg:rs.getD j 0=rs[j]:=by simp[List.getD,gS ay]
  refine⟨j,rfl,ay,rs[j],by rw[oy ay,hg],?_⟩;rw[oF ay (by omega)];have skip:¬(rs[j]>base/\tZ rs[j] last=k/\rs[j]∉ws)->bu Z 165 148 1 (.aC [.aj 1 aI.aK.length 6,J aI.ek]) (v8 cs aI.aK) (sm s base off len i [(12,J k),(13,.aa 6 0),(15,.aj 7 ws.length 1)] [(45,.aj 8 rs.length 1),(46,J (aP rs.length)),(47,J ((j+1:Nat):Int))]) (Iy cs last s x ws rs) (ax Z 165 1):=by intro hn;rw[Al.oD,az hn]at hf;exact ih (j+1,s) ⟨by simp;omega,by simp only;omega,hf⟩ (by simp;omega)
  have⟨n,b,h1,h2,_⟩:=Ji last rs[j];refine aD (λhr=>⟨n,b,h1,aD (λhk=>⟨ws,⟨rfl,rfl,by omega⟩,aD (λhm=>?_) λhm=>?_⟩) λhk=>?_⟩) λhr=>?_
  .have ow:rs[j]>base:=by simpa using hr
   have hc:rs[j]>base/\tZ rs[j] last=k/\rs[j]∉ws:=⟨ow,by rw[<-h2];simpa using hk,by simpa using hm⟩;rw[Al.oD,aL hc]at hf;rw[aL ow]at hb;have kN:s.df.length<1000000:=by omega
   refine⟨(s.df,s.fA,s.mD,rs[j]),⟨rfl,rfl,kN⟩,?_⟩;exact ih (j+1,s.vq rs[j]) ⟨by simp;omega,by simp only[Al.vq,Tz];omega,hf⟩ (by simp;omega)
  .exact skip (λh=>by simp at hm;exact h.2.2 hm)
  .exact skip (λh=>by simp at hk;exact hk (h2.trans h.2.1))
  .exact skip (λh=>by simp at hr;omega)
 .have bq:rs.length<=j:=by simpa using bq
  rw[gR bq]at hf;have hf:=hf;subst hf;exact azl hw tW ho hsF next (0,s) ⟨by simp,hR,by simpa using hsW⟩
end
theorem Zd(base last k ws):∀rs s,(rs.foldl (Al.oD base last k ws) s).df.length<=s.df.length+uI base rs/\(rs.foldl (Al.oD base last k ws) s).aK=s.aK
 |[],s=>⟨by simp,rfl⟩
 |r::rs,s=>by
  have h:=Zd base last k ws rs (s.oD base last k ws r);have My:uI base (r::rs)=(if r>base then 1 else 0)+uI base rs:=by simp only[uI,ug];by_cases h:r>base<;>simp[h];omega
  simp;rw[My];have h1:(s.oD base last k ws r).df.length<=s.df.length+(if r>base then 1 else 0)/\(s.oD base last k ws r).aK=s.aK:=by
   unfold Al.oD;split;next hc=>rw[aL hc.1];exact⟨by simp[Al.vq,Tz],rfl⟩
   .exact⟨by omega,rfl⟩
  exact⟨by omega,h.2.trans h1.2⟩
theorem Ze(base):∀(ws:LI) (s),(ws.foldl (Al.o6 base) s).df.length<=s.df.length/\(ws.foldl (Al.o6 base) s).aK=s.aK
 |[],s=>⟨by simp,rfl⟩
 |r::ws,s=>by
  have h:=Ze base ws (s.o6 base r);simp;have h1:(s.o6 base r).df.length<=s.df.length/\(s.o6 base r).aK=s.aK:=by
   unfold Al.o6;split
   .exact⟨by omega,rfl⟩
   .split
    .exact⟨by simp;omega,rfl⟩
    .exact⟨by simp,rfl⟩
  exact⟨by omega,h.2.trans h1.2⟩
theorem Zc(base last k):∀(ws:LI) (s),(ws.foldl (Al.aI base last k) s).df.length<=s.df.length+ws.length/\(ws.foldl (Al.aI base last k) s).aK=s.aK
 |[],s=>⟨by simp,rfl⟩
 |r::ws,s=>by
  have h:=Zc base last k ws (s.aI base last k r);have h1:(s.aI base last k r).df.length<=s.df.length+1/\(s.aI base last k r).aK=s.aK:=by
   unfold Al.aI;split
   .exact⟨by simp[Al.vq,Tz],rfl⟩
   .exact⟨by omega,rfl⟩
  exact⟨by simp;omega,h.2.trans h1.2⟩
theorem azf{p:nA}{base last aI}(hp:p.ok)(hl:p.l.length<240000)(hv:∀x∈p.l,(x.op=19\/x.op=20)->x.ar<=base):
 ∀q:Nat×Al,(q.1<=p.l.length/\q.2.df.length<=4*q.1/\q.2.aK.length=q.1/\Al.run base last q.1 q.2 (p.l.drop q.1)=aI)->
 bu Z 165 148 1 (.aC [.aj 1 aI.aK.length 6,J aI.ek]) (v8 p.cs aI.aK) (sm q.2 base p.nu p.l.length (q.1:Int) [] []) (Fi p.cs last q.2) (ax Z 165 0):=by
 refine dF (λq=>p.l.length-q.1) _ _ _ _ ?_;rintro⟨i,s⟩ ⟨hi,hb,ho,hf⟩ ih;simp only at hi hb ho hf ih⊢;refine hE Hc azh ?_;refine aD (λay=>?_) λbq=>?_
 .have ay:i<p.l.length:=by simpa using ay
  have b_:=p.get hp ay;have hvx:=hv p.l[i] (r8 ay);rw[fV ay,Al.run]at hf;generalize p.l[i]=x at b_ hf hvx;have c1:=ayx hvx;have c2:=aGw x;have hr:=ack x;have hw:=adI x;have a1:=Zd base last i (fB x) (e_ x) s;have a2:=Ze base (fB x) ((e_ x).foldl (Al.oD base last i (fB x)) s);have a3:=Zc base last i (fB x) ((fB x).foldl (Al.o6 base) ((e_ x).foldl (Al.oD base last i (fB x)) s)).zZ;have a4:((fB x).foldl (Al.o6 base) ((e_ x).foldl (Al.oD base last i (fB x)) s)).zZ.df=((fB x).foldl (Al.o6 base) ((e_ x).foldl (Al.oD base last i (fB x)) s)).df:=rfl;have a5:((fB x).foldl (Al.o6 base) ((e_ x).foldl (Al.oD base last i (fB x)) s)).zZ.aK=((fB x).foldl (Al.o6 base) ((e_ x).foldl (Al.oD base last i (fB x)) s)).aK:=rfl;rw[a4]at a3;have eJ:((fB x).foldl (Al.aI base last i) ((fB x).foldl (Al.o6 base) ((e_ x).foldl (Al.oD base last i (fB x)) s)).zZ).aK=s.aK:=by rw[a3.2,a5,a2.2,a1.2]
  have next:=ih (i+1,s.step base last i x) ⟨by simp;omega,by show((fB x).foldl (Al.aI base last i) _).df.length<=4*(i+1);omega,by show(_++[_]).length=i+1;rw[cL,eJ,ho];rfl,hf⟩ (by simp;omega)
  rw[<-oF ay (by omega)]at next
  have⟨o,r,a,n,s',ar⟩:=x;refine⟨i,rfl,ay,o,r,a,n,s',ar,b_,⟨o,r,a,n,s',ar⟩,⟨rfl,rfl⟩,rfl,⟨o,r,a,n,s',ar⟩,⟨rfl,rfl⟩,?_⟩;exact azj hr hw (by omega) rfl (by omega) (by rw[eJ];omega) rfl next (0,s) ⟨by simp,by simp;omega,by simp⟩
 .have bq:p.l.length<=i:=by simpa using bq
  rw[gR bq]at hf;have hf:=hf;subst hf;exact⟨rfl,rfl⟩
def al5:List (Nat×Nat):=[(0,0),(8,1),(1,2),(2,3),(3,4),(4,5),(5,6),(6,7),(7,8)]
def awe(cs:LV)(last:LP):List (Nat×bf):=[(0,.aA cs 56),(1,jE last),(2,.al [.aB 5] 244),(3,.al [.aa 6 0] 246),(4,.al [J 0] 3),(5,.aY [] 0 true),(6,.al [.bw 7 0 0 0 1 true] 247),(7,.al [] 3)]
def apS(base:Int)(off len:Nat):List (Nat×AV):=[(1,J base),(4,.aM),(5,J 0),(6,.aB 1),(7,.aa 2 0),(8,.aa 3 0),(9,J (wI (base+1))),(10,.aa 4 0),(11,.bn (.func 177) [] [.aa 3 0,.aa 2 0,.aa 4 0]),(34,.bw 0 off len 0 6 false),(35,J (aP len)),(36,J 0)]
theorem aF2(cs last base):mB 1 [8,1,2,3,4,3,2,4,0] (aq (Ad 7 (.aA [] 3) (awe cs last++[(8,.aA [] 56)])) 9)=some ⟨al5,Fi cs last (Hv base)⟩:=by kernel_rfl
theorem aF9(base off len):rn (iK al5) (bg ((Jy 8 6 [4] (apS base off len)).map λx=>(x.1,wZ 7 x.2))) [1,4,5,6,7,8,9,10,11,34,35,36]=some (sm (Hv base) base off len 0 [] []):=by kernel_rfl
theorem VY:aS Z VX:=by refine cu Hc ?_;rintro⟨p,base⟩ args H ⟨rfl,rfl,hp,hl,hv⟩;have hp:=hp;refine eT Hc 2000 Jk 148 ?_;simp only[Xx,mO];rw[azg];refine⟨(p,base),⟨rfl,rfl,hp⟩,?_⟩;refine AY 6 56 [4] ?_ rfl;refine zi (g:=7) (new:=.aA [] 3) ?_ rfl (λφ e o h=>sB rfl h) rfl;refine cj.tb (by kernel_rfl) (aF2 p.cs (F2 base 0 [] p.l) base) (aF9 base p.nu p.l.length) ?_;exact azf hp hl hv (0,Hv base) ⟨by simp,by simp[Hv],rfl,rfl⟩
def fQ(l:iu)(base:Int):iu×Int:=if ur l base then((At l base).aK,0)else([],1)
def XG:cq (nA×Int)where
 bh w A H:=A=[.bw 0 w.1.nu w.1.l.length 0 6 false,J w.2]/\H=mO w.1/\w.1.ok/\w.1.l.length<240000
 v w:=.aC [.aj 1 (fQ w.1.l w.2).1.length 6,J (fQ w.1.l w.2).2]
 aK w:=aq [(0,.aA w.1.cs 56),(1,lq (fQ w.1.l w.2).1)] 2
theorem aqt:XG.ck:=by rintro w w' A H ⟨h1,h2,h3,_⟩ ⟨k1,k2,k3,_⟩;rw[Ts h1 h2 h3 k1 k2 k3]
def Pk:Ev.bp:=bR 133 (bW XG aqt cB) VX
def yM(code:iu)(base:LI):Nat->Nat->Nat->iu->iu->iu×Int
 |_,_,_,l,[]=>(l,0)
 |i,fr,part,l,x::rest=>
  if x.op≠19/\i+1<code.length then yM code base (i+1) fr part l rest
  else if(fQ ((code.drop fr).take (i+1-fr)) (base.getD part 0)).2≠0 then([],(fQ ((code.drop fr).take (i+1-fr)) (base.getD part 0)).2)
  else yM code base (i+1) (i+1) (part+1) (l++(fQ ((code.drop fr).take (i+1-fr)) (base.getD part 0)).1) rest
def nD(code:iu)(base:LI):iu×Int:=yM code base 0 0 0 [] code
def ic(l:iu):Nat:=(l.filter (λx=>decide (x.op=19))).length
def Fl(code:iu)(base:LI):AH:=aq [(0,lq code),(1,bH base 3)] 2
def Gn(code:iu)(base:LI)(l:iu):AH:=aq [(0,lq code),(1,bH base 3),(2,lq l)] 3
def XI:cq (iu×LI)where
 bh w A H:=A=[.aj 0 w.1.length 6,.aj 1 w.2.length 1]/\H=Fl w.1 w.2/\w.1.length<240000/\ic w.1<w.2.length/\w.2.length<2000000
 v w:=.aC [.aj 2 (nD w.1 w.2).1.length 6,J (nD w.1 w.2).2]
 aK w:=Gn w.1 w.2 (nD w.1 w.2).1
theorem aqv:XI.ck:=by
 rintro⟨c,b⟩ ⟨c',b'⟩ A H ⟨_,h2,_⟩ ⟨_,k2,_⟩;have e:=h2.symm.trans k2;have q:=λi=>congrArg (λH=>AH.bc H i) e
 simp at q;have e0:=H6 (bf.aA.inj (de (q 0))).1;have e1:=zR (de (q 1));rw[e0,e1]
def G15:Ev.bp:=bR 92 (bW XI aqv cB) Pk
def akN:Nat->LN:=fh [(3,[0,1,4,6,7,12,13,14])]
theorem am2{cs off len base L Q}:
 bC Z VX (λ_=>[]) L Q 1000 133 [.bw 0 off len 0 6 false,J base] (aq [(0,.aA cs 56)] 1)=(
 ∃w:nA×Int,(([.bw 0 off len 0 6 false,J base]:LV)=[.bw 0 w.1.nu w.1.l.length 0 6 false,J w.2]/\aq [(0,.aA cs 56)] 1=mO w.1/\w.1.ok)/\aw (!ur w.1.l w.2) (Q (.aC [.aM,J 1]) (mO w.1)) (∃ae:nA×Int,(([.bw 0 off len 0 6 false,J base]:LV)=[.bw 0 ae.1.nu ae.1.l.length 0 6 false,J ae.2]/\mO w.1=mO ae.1/\ae.1.ok/\ae.1.l.length<240000/\(∀x,x∈ae.1.l->x.op=19\/x.op=20->x.ar<=ae.2))/\Q (.aC [.aj 1 (At ae.1.l ae.2).aK.length 6,J 0]) (aq [(0,.aA ae.1.cs 56),(1,lq (At ae.1.l ae.2).aK)] 2))):=by kernel_rfl
theorem aAW{code base L Q}:
 bC Z Pk akN L Q 1000 92 [.aj 0 code.length 6,.aj 1 base.length 1] (Fl code base)=(
 L (bg [(0,.aj 0 code.length 6),(1,.aj 1 base.length 1),(4,.aM),(6,J 0),(7,J 0),(12,.aj 0 code.length 6),(13,J (Int.ofNat code.length)),(14,J 0)]) (Fl code base) (ax Z 92 0)):=by kernel_rfl
abbrev BC x0 x1 x2 x3 x4 x5:=bg [(0,.aj 0 x0 6),(1,.aj 1 x1 1),(4,.aj 2 x2 6),(6,J x3),(7,J x4),(12,.aj 0 x0 6),(13,J (Int.ofNat x0)),(14,J x5)]
theorem aAX{code base l fr part i L Q}:
 cg Z Pk akN L Q 1000 92 2 (BC code.length base.length l.length fr part i) (ax Z 92 0) (Gn code base l)=(
 aw (decide (i<Int.ofNat code.length)) (∃aJ:Nat,i=(aJ:Int)/\aJ<code.length/\(∃n aN bz ct s dm,cz Z 56 (cS code) (aJ*6)=some (.ai [J n,J aN,J bz,J ct,.ad s,J dm]:AV)/\aw (n !=19) (aw (decide (i<wI (Int.ofNat code.length-1))) (L (BC code.length base.length l.length fr part (wI (i+1))) (Gn code base l) (ax Z 92 0)) (1<=code.length/\(∃cN:Nat,fr=(cN:Int)/\(∃ew:Nat,wI (i+1)=(ew:Int)/\(cN<=ew/\ew<=code.length)/\(∃ia:Nat,part=(ia:Int)/\ia<base.length/\(∃kC,cz Z 3 (aX base) (ia*1)=some (J kC:AV)/\(∃w:nA×Int,(([.bw 0 (0+cN*6) (ew-cN) 0 6 false,J kC]:LV)=[.bw 0 w.1.nu w.1.l.length 0 6 false,J w.2]/\aq [(0,lq code)] 1=mO w.1/\w.1.ok/\w.1.l.length<240000)/\aw ((fQ w.1.l w.2).2 !=0) (Q (.aC [.aM,J (fQ w.1.l w.2).2]) (aq [(0,.aA w.1.cs 56),(1,bH base 3)] 2)) ((cS (fQ w.1.l w.2).1).length=(fQ w.1.l w.2).1.length*6/\((fQ w.1.l w.2).1.length=0->l.length<=4194304/\L (BC code.length base.length l.length (wI (i+1)) (wI (part+1)) (wI (i+1))) (aq [(0,.aA w.1.cs 56),(1,bH base 3),(2,lq l)] 3) (ax Z 92 0))/\(1<=(fQ w.1.l w.2).1.length->((cS l).length=l.length*6/\l.length+(fQ w.1.l w.2).1.length<=4194304/\List.all (cS (fQ w.1.l w.2).1) AV.cY=true/\List.all (cS (fQ w.1.l w.2).1) eR=true)/\L (BC code.length base.length (l.length+(fQ w.1.l w.2).1.length) (wI (i+1)) (wI (part+1)) (wI (i+1))) (aq [(0,.aA w.1.cs 56),(1,bH base 3),(2,.aA (cS l++cS (fQ w.1.l w.2).1) 56)] 3) (ax Z 92 0)))))))))) (1<=code.length/\(∃cN:Nat,fr=(cN:Int)/\(∃ew:Nat,wI (i+1)=(ew:Int)/\(cN<=ew/\ew<=code.length)/\(∃ia:Nat,part=(ia:Int)/\ia<base.length/\(∃kC,cz Z 3 (aX base) (ia*1)=some (J kC:AV)/\(∃w:nA×Int,(([.bw 0 (0+cN*6) (ew-cN) 0 6 false,J kC]:LV)=[.bw 0 w.1.nu w.1.l.length 0 6 false,J w.2]/\aq [(0,lq code)] 1=mO w.1/\w.1.ok/\w.1.l.length<240000)/\aw ((fQ w.1.l w.2).2 !=0) (Q (.aC [.aM,J (fQ w.1.l w.2).2]) (aq [(0,.aA w.1.cs 56),(1,bH base 3)] 2)) ((cS (fQ w.1.l w.2).1).length=(fQ w.1.l w.2).1.length*6/\((fQ w.1.l w.2).1.length=0->l.length<=4194304/\L (BC code.length base.length l.length (wI (i+1)) (wI (part+1)) (wI (i+1))) (aq [(0,.aA w.1.cs 56),(1,bH base 3),(2,lq l)] 3) (ax Z 92 0))/\(1<=(fQ w.1.l w.2).1.length->((cS l).length=l.length*6/\l.length+(fQ w.1.l w.2).1.length<=4194304/\List.all (cS (fQ w.1.l w.2).1) AV.cY=true/\List.all (cS (fQ w.1.l w.2).1) eR=true)/\L (BC code.length base.length (l.length+(fQ w.1.l w.2).1.length) (wI (i+1)) (wI (part+1)) (wI (i+1))) (aq [(0,.aA w.1.cs 56),(1,bH base 3),(2,.aA (cS l++cS (fQ w.1.l w.2).1) 56)] 3) (ax Z 92 0))))))))))) (Q (.aC [.aj 2 l.length 6,J 0]) (Gn code base l))):=by kernel_rfl
theorem apV{φ a a' b}(h:∀x,VR φ a x->VR φ a' x){x}(hx:VR φ (.aC [a,b]) x):VR φ (.aC [a',b]) x:=by obtain⟨cs,rfl,v,vs,h1,h2,h3⟩:=hx;exact⟨cs,rfl,v,vs,h1,h _ h2,h3⟩
theorem ahx{P f args H0 n sz b l t}(h:bX P f args H0 (.aC [.aM,b]) (aq l n))(hn:cR l n=none)(cA:H0.bx<=n):
 bX P f args H0 (.aC [.aj n 0 sz,b]) (aq (l++[(n,.aA [] t)]) (n+1)):=
 Cf h (F' _ hn) cA (λφ aQ hR x hx=>by subst hR;exact apV (λy hy=>qG hy) hx)
theorem aow{base}:∀{l wr},Ed base wr l=true->∀x∈l,(x.op=19\/x.op=20)->x.ar<=base
 |i::l,wr,h,x,hx=>by
  unfold Ed at h;split at h
  .cases h
  next hn=>
   split at h
   .cases h
   .rcases dK.1 hx with rfl|hx
    .intro ho;rcases Int.lt_or_le base x.ar with h1|h1
     .exact absurd (.inr ⟨ho,h1⟩) hn
     .exact h1
    .exact aow h x hx
theorem aFU{base l}(h:ur l base=true):∀x∈l,(x.op=19\/x.op=20)->x.ar<=base:=by
 unfold ur at h;split at h
 .cases h
 .exact aow h
theorem VZ:aS Z Pk:=by
 refine cu VY ?_;rintro⟨p,base⟩ args H ⟨rfl,rfl,hp,hl⟩;have hp:=hp;simp only[XG,mO];cases hv:ur p.l base with
 |false=>
  have ha:fQ p.l base=([],1):=by simp[fQ,hv]
  rw[ha];refine ahx (l:=[(0,.aA p.cs 56)]) ?_ rfl (cE _);refine eE 17 VY am2 ?_;exact⟨(p,base),⟨rfl,rfl,hp⟩,aD (λ_=>⟨rfl,rfl⟩) λh=>by simp only[hv]at h;cases h⟩
 |true=>
  have ha:fQ p.l base=((At p.l base).aK,0):=by simp[fQ,hv]
  rw[ha];refine eE 17 VY am2 ?_;exact⟨(p,base),⟨rfl,rfl,hp⟩,aD (λh=>(by simp only[hv]at h;cases h)) λ_=>⟨(p,base),⟨rfl,rfl,hp,hl,aFU hv⟩,rfl,rfl⟩⟩
theorem aE2(base last k)(s:Al)(i):(s.step base last k i).aK.length=s.aK.length+1:=by have a1:=Zd base last k (fB i) (e_ i) s;have a2:=Ze base (fB i) ((e_ i).foldl (Al.oD base last k (fB i)) s);have a3:=Zc base last k (fB i) ((fB i).foldl (Al.o6 base) ((e_ i).foldl (Al.oD base last k (fB i)) s)).zZ;have a5:((fB i).foldl (Al.o6 base) ((e_ i).foldl (Al.oD base last k (fB i)) s)).zZ.aK=((fB i).foldl (Al.o6 base) ((e_ i).foldl (Al.oD base last k (fB i)) s)).aK:=rfl;show(_++[_]).length=_;rw[cL,a3.2,a5,a2.2,a1.2];rfl
theorem amM(base last):∀l k s,(Al.run base last k s l).aK.length=s.aK.length+l.length
 |[],k,s=>rfl
 |i::l,k,s=>by rw[Al.run,amM base last l,aE2];simp;omega
theorem aqy(l base):(fQ l base).1.length<=l.length:=by
 unfold fQ;split
 .show(At l base).aK.length<=_;unfold At;rw[amM];simp[Hv]
 .simp
theorem ahn:∀l k,(cS l).drop (k*6)=cS (l.drop k)
 |l,0=>by simp
 |[],k+1=>by simp[cS]
 |i::l,k+1=>by rw[yi,Nat.one_mul,Nat.add_comm,<-wM];have:(cS (i::l)).drop 6=cS l:=rfl;rw[this,ahn l k];rfl
theorem YP:∀l k,(cS l).take (k*6)=cS (l.take k)
 |l,0=>by simp[cS]
 |[],k+1=>by simp[cS]
 |i::l,k+1=>by
  have h:=YP l k;have e:(k+1)*6=(dp i).length+k*6:=by rw[H5];omega
  rw[cS,e,List.take_length_add_append,h];rfl
theorem aq9(l i):ic (l.take i)<=ic l:=by exact(((List.take_sublist i l).filter _).length_le)
theorem aq8{l:iu}{i}(h:i<l.length):ic (l.take (i+1))=ic (l.take i)+(if l[i].op=19 then 1 else 0):=by unfold ic;rw[List.take_succ_eq_append_getElem h,JP,cL];by_cases h1:l[i].op=19<;>simp[h1]
def Co(aI:iu×Int):AV:=if aI.2=0 then .aC [.aj 2 aI.1.length 6,J 0]else .aC [.aM,J aI.2]
def Cn(code:iu)(base:LI)(aI:iu×Int):AH:=if aI.2=0 then Gn code base aI.1 else Fl code base
theorem aAV{code base aI}(hc:code.length<240000)(hb:ic code<base.length)(iQ:base.length<2000000):
 ∀q:Nat×Nat×Nat×iu,(q.1<=code.length/\q.2.1<=q.1/\(q.1<code.length->q.2.2.1=ic (code.take q.1))/\q.2.2.2.length<=q.2.1/\q.2.2.1<4000000/\yM code base q.1 q.2.1 q.2.2.1 q.2.2.2 (code.drop q.1)=aI)->
 bu Z 92 54 2 (Co aI) (Cn code base aI) (BC code.length base.length q.2.2.2.length (q.2.1:Int) (q.2.2.1:Int) (q.1:Int)) (Gn code base q.2.2.2) (ax Z 92 0):=by
 refine dF (λq=>code.length-q.1) _ _ _ _ ?_;rintro⟨i,fr,part,l⟩ ⟨hi,iR,hpt,hl,FJ,hf⟩ ih;simp only at hi iR hpt hl FJ hf ih⊢;refine hE VZ aAX ?_;refine aD (λay=>?_) λbq=>?_
 .have ay:i<code.length:=by simpa using ay
  have hpt:=hpt ay;have gQ:=aq8 ay;have hct:=aq9 code i;have b_:=nA.get (p:=⟨cS code,0,code⟩) ⟨by rw[ye,YP,s6],by show code.length<1200000;omega⟩ ay;rw[kD]at b_;rw[fV ay,yM]at hf;have b_:=b_;generalize code[i]=x at b_ hf gQ;have⟨o,r,a,n,s,ar⟩:=x;have e1:wI (Int.ofNat code.length-1)=(code.length:Int)-1:=by rw[cH (by simp;omega) (by simp;omega)];simp
  refine⟨i,rfl,ay,o,r,a,n,s,ar,b_,?_⟩;rw[e1,oF ay (by omega),oF (lA part) (by omega)];have cut:¬(o≠19/\i+1<code.length)->((1<=code.length)/\∃cN:Nat,((fr:Int)=(cN:Int))/\∃ew:Nat,(((i+1:Nat):Int)=(ew:Int))/\((cN<=ew)/\ew<=code.length)/\
   ∃ia:Nat,((part:Int)=(ia:Int))/\(ia<base.length)/\∃kC:Int,(cz Z 3 (aX base) (ia*1)=some (J kC))/\
   ∃w:nA×Int,((([.bw 0 (0+(cN*6)) (ew-cN) 0 6 false,J kC]:LV)=[.bw 0 w.1.nu w.1.l.length 0 6 false,J w.2])/\(aq [(0,.aA (cS code) 56)] 1=mO w.1)/\w.1.ok/\w.1.l.length<240000)/\
   aw ((fQ w.1.l w.2).2 !=0)
    (fJ (Co aI) (Cn code base aI) (.aC [.aM,J (fQ w.1.l w.2).2]) (aq [(0,.aA w.1.cs 56),(1,bH base 3)] 2))
    (((cS (fQ w.1.l w.2).1).length=(fQ w.1.l w.2).1.length*6)/\
      ((fQ w.1.l w.2).1.length=0->(l.length<=4194304)/\bu Z 92 54 2 (Co aI) (Cn code base aI) (BC code.length base.length l.length ((i+1:Nat):Int) ((part+1:Nat):Int) ((i+1:Nat):Int)) (aq [(0,.aA w.1.cs 56),(1,bH base 3),(2,lq l)] 3) (ax Z 92 0))/\
      (1<=(fQ w.1.l w.2).1.length->(((cS l).length=l.length*6)/\(l.length+(fQ w.1.l w.2).1.length<=4194304)/\((cS (fQ w.1.l w.2).1).all AV.cY=true)/\(cS (fQ w.1.l w.2).1).all eR=true)/\
        bu Z 92 54 2 (Co aI) (Cn code base aI) (BC code.length base.length (l.length+(fQ w.1.l w.2).1.length) ((i+1:Nat):Int) ((part+1:Nat):Int) ((i+1:Nat):Int)) (aq [(0,.aA w.1.cs 56),(1,bH base 3),(2,.aA (cS l++cS (fQ w.1.l w.2).1) 56)] 3) (ax Z 92 0)))):=by
   intro hn;rw[az hn]at hf;have hpb:part<base.length:=by omega
   have xO:((code.drop fr).take (i+1-fr)).length=i+1-fr:=by simp;omega
   have hpo:(⟨cS code,0+fr*6,(code.drop fr).take (i+1-fr)⟩:nA).ok:=⟨by rw[kD,ahn,xO,YP],by show((code.drop fr).take (i+1-fr)).length<1200000;omega⟩;have IM:=aqy ((code.drop fr).take (i+1-fr)) (base.getD part 0);rw[xO]at IM;refine⟨by omega,fr,rfl,i+1,rfl,⟨by omega,by omega⟩,part,rfl,hpb,_,oy hpb,(⟨cS code,0+fr*6,(code.drop fr).take (i+1-fr)⟩,base.getD part 0),⟨by simp only[xO],rfl,hpo,by simp;omega⟩,aD (λhe=>?_) λhe=>?_⟩
   .have he:(fQ ((code.drop fr).take (i+1-fr)) (base.getD part 0)).2≠0:=by simpa using he
    rw[aL he]at hf;subst hf;simp only[Co,Cn,az he];exact⟨rfl,rfl⟩
   .have he:(fQ ((code.drop fr).take (i+1-fr)) (base.getD part 0)).2=0:=by simpa using he
    rw[az (λh=>h he)]at hf;have next:=ih (i+1,i+1,part+1,l++(fQ ((code.drop fr).take (i+1-fr)) (base.getD part 0)).1) ⟨by simp;omega,by simp,λh=>?_,by simp only[cL];omega,by simp;omega,hf⟩ (by simp;omega)
    .simp only at next
     refine⟨by rw[Cd],λh0=>⟨by omega,?_⟩,λh1=>⟨⟨by rw[Cd],by simp only;omega,(YO _).1,(YO _).2⟩,?_⟩⟩
     .have h0:=mo h0;rw[h0,jH]at next
      exact next
     .simp only[Gn,lq,QH,cL]at next
      exact next
    .have h:=h;have ho:o=19:=by
      rcases Decidable.em (o=19)with h1|h1
      .exact h1
      .exact absurd ⟨h1,h⟩ hn
     rw[aL ho]at gQ;show part+1=ic (code.take (i+1));omega
  refine aD (λho=>aD (λh2=>?_) λh2=>?_) λho=>?_
  .have ho:o≠19:=by simpa using ho
   have h2:i+1<code.length:=by simp at h2;omega
   rw[aL ⟨ho,h2⟩]at hf;rw[az ho]at gQ;exact ih (i+1,fr,part,l) ⟨by simp;omega,by simp;omega,λ_=>by show part=ic (code.take (i+1));omega,hl,FJ,hf⟩ (by simp;omega)
  .exact cut (λh=>by simp at h2;omega)
  .exact cut (λh=>h.1 (by simpa using ho))
 .have bq:code.length<=i:=by simpa using bq
  rw[gR bq]at hf;have hf:=hf;subst hf;exact⟨rfl,rfl⟩
theorem apl:aS Z G15:=by
 refine cu VZ ?_;rintro⟨code,base⟩ args H ⟨rfl,rfl,hc,hb,iQ⟩;have rS:bX Z 92 [.aj 0 code.length 6,.aj 1 base.length 1] (Fl code base) (Co (nD code base)) (Cn code base (nD code base)):=by refine eE 54 VZ aAW ?_;refine AY 6 56 [4] ?_ rfl;exact aAV hc hb iQ (0,0,0,[]) ⟨by simp,by simp,λ_=>by simp[ic],by simp,by simp,rfl⟩
 simp only[XI];by_cases h0:(nD code base).2=0
 .simp only[Co,Cn,aL h0]at rS;rw[h0];exact rS
 .simp only[Co,Cn,az h0]at rS;have he:(nD code base).1=[]:=by
   have key:∀(rest:iu) (i fr part:Nat) (l:iu),(yM code base i fr part l rest).2≠0->(yM code base i fr part l rest).1=[]:=by
    intro rest;induction rest with
    |nil=>intro i fr part l h;exact absurd rfl h
    |cons x rest ih=>
     intro i fr part l h;unfold yM at h⊢;split;next h1=>rw[aL h1]at h;exact ih _ _ _ _ h
     next h1=>
      rw[az h1]at h;split
      .rfl
      next h2=>rw[az h2]at h;exact ih _ _ _ _ h
   exact key code 0 0 0 [] h0
  rw[he];exact ahx rS rfl (cE _)
abbrev R6:Ev.bp:=G15
theorem apI:aS Z R6:=apl
def NG(g:qD):Bool:=decide (g.fM=2\/g.fM=3\/g.fM=4)
def fp:gi->Nat
 |[]=>0
 |g::l=>bN g.fj+1+fp l
abbrev R7:Ev.bp:=R6
theorem Rp:∀l,l.length<=fp l
 |[]=>by simp
 |g::l=>by have:=Rp l;simp only[fp,ei];omega
section
variable{nm:LN}{ar ao:Int}{cs:LV}{len:Nat}{gs:LV}{gl:Nat}{aI:LP}
end
section
variable{nm:LN}{ar ao:Int}{cs:LV}{len:Nat}{aI:LP}{G:gi}
end
theorem apJ:aS Z R7:=apI
abbrev R8:Ev.bp:=R7
theorem apK:aS Z R8:=apJ
abbrev R9:Ev.bp:=R8
theorem Xk:aS Z R9:=apK
structure fO where
 dq:Int
 OW:Int
 last:Int
 deriving DecidableEq,Inhabited
def vS(s:fO):AV:=.ai [J s.dq,J s.OW,J s.last]
theorem aFR:∀a b,vS a=vS b->a=b:=by rintro⟨a,b,c⟩ ⟨a',b',c'⟩ h;obtain⟨rfl,rfl,rfl⟩:=h;rfl
abbrev gO:=List (Int×fO)×LI
def mn(st:gO)(v c:Int):gO:=
 match lk v st.1 with
 |none=>(up v ⟨st.2.length,c,c⟩ st.1,st.2++[v])
 |some s=>(up v ⟨s.dq,s.OW,c⟩ st.1,st.2)
mutual
def pz(c:Int):gO->aF->gO
 |st,.mk k n _ l=>if k=0 then mn st n c else je c st l
def je(c:Int):gO->eH->gO
 |st,[]=>st
 |st,t::l=>je c (pz c st t) l
end
theorem alC(st v c):(mn st v c).2.length<=st.2.length+1:=by unfold mn;split<;>simp
mutual
theorem abD(c:Int):∀(st:gO) (t:aF),(pz c st t).2.length<=st.2.length+bM t
 |st,.mk k n s l=>by
  unfold pz;split
  .have:=alC st n c;simp only[bM];omega
  .have:=JB c st l;simp only[bM];omega
theorem JB(c:Int):∀(st:gO) (l:eH),(je c st l).2.length<=st.2.length+bN l
 |st,[]=>by simp[je,bN]
 |st,t::l=>by have h1:=abD c st t;have h2:=JB c (pz c st t) l;simp only[je,bN];omega
end
def rfA:Code:=match Oa Z 85 0 with|.gM (.rangeFunc _ _ a _)::_=>a|_=>.skip
def rfB:Code:=match Oa Z 85 0 with|.gM (.rangeFunc _ _ _ b)::_=>b|_=>.skip
def pw(st:LoopState)(t:List (Nat×AV))(d:Nat):bf:=.hQ st none 85 (bg t) 120 [22] rfA rfB d
def dI(f:bG):bf:=.al (gP f) 106
def gL(sp:List (Int×fO)):bf:=.aY (bO vS 0 sp) sp.length true
def rV(od:LI):bf:=.aA (aX od) 2
def lT(F O B C S:Nat):List (Nat×AV):=[(1,.aa F 0),(2,.aa C 0),(4,.aa S 0),(5,.aa O 0),(21,.bn (.func 149) [] [.aa B 0])]
def nF:bf:=.al [.aM,.aM,.aM] 153
def kf:bf:=.pP (some [])
def hR(f:bG)(st:gO):AH:=aq [(0,pw .ready (lT 2 3 4 5 6) 1),(1,kf),(2,dI f),(3,.al [.aj 7 st.2.length 1] 35),(4,dI f),(5,nF),(6,.al [.aB 8] 193),(7,rV st.2),(8,gL st.1)] 9
def oR(f:bG)(st:gO):AH:=aq [(0,pw .ready (lT 2 3 4 5 6) 1),(1,kf),(2,dI f),(3,.al [.aj 9 st.2.length 1] 35),(4,dI f),(5,nF),(6,.al [.aB 8] 193),(7,.bm []),(8,gL st.1),(9,rV st.2)] 10
def hW(f:bG)(k:Int)(st:gO):AH:=aq [(0,.al [.gN 2] 221),(1,.al [J k] 3),(2,pw .ready (lT 4 5 6 7 8) 3),(3,kf),(4,dI f),(5,.al [.aj 9 st.2.length 1] 35),(6,dI f),(7,nF),(8,.al [.aB 10] 193),(9,rV st.2),(10,gL st.1)] 11
def oW(f:bG)(k:Int)(st:gO):AH:=aq [(0,.al [.gN 2] 221),(1,.al [J k] 3),(2,pw .ready (lT 4 5 6 7 8) 3),(3,kf),(4,dI f),(5,.al [.aj 11 st.2.length 1] 35),(6,dI f),(7,nF),(8,.al [.aB 10] 193),(9,.bm []),(10,gL st.1),(11,rV st.2)] 12
theorem axg(f st):Mv (hR f st) (oR f st) 7:=qk (l':=[(0,pw .ready (lT 2 3 4 5 6) 1),(1,kf),(2,dI f),(3,.al [.aj 9 st.2.length 1] 35),(4,dI f),(5,nF),(6,.al [.aB 8] 193),(7,.bm []),(8,gL st.1)]) rfl rfl rfl
theorem mvW(f k st):Mv (hW f k st) (oW f k st) 9:=qk (l':=[(0,.al [.gN 2] 221),(1,.al [J k] 3),(2,pw .ready (lT 4 5 6 7 8) 3),(3,kf),(4,dI f),(5,.al [.aj 11 st.2.length 1] 35),(6,dI f),(7,nF),(8,.al [.aB 10] 193),(9,.bm []),(10,gL st.1)]) rfl rfl rfl
theorem Ol{a b}(h:gL a=gL b):a=b:=sE aFR (bf.aY.inj h).1
theorem Tb{a b}(h:rV a=rV b):a=b:=zQ (bf.aA.inj h).1
theorem Y7{a b}(h:dI a=dI b):a=b:=yY _ _ (bf.al.inj h).1
theorem auv{f f' st jT}(h:hR f st=hR f' jT):f=f'/\st=jT:=by
 have q:=λi=>congrArg (λH=>AH.bc H i) h
 exact⟨Y7 (de (q 2)),Prod.ext (Ol (de (q 8))) (Tb (de (q 7)))⟩
theorem RI{f f' k k' st jT}(h:hW f k st=hW f' k' jT):f=f'/\k=k'/\st=jT:=by
 have q:=λi=>congrArg (λH=>AH.bc H i) h
 have hk:=(bf.al.inj (de (q 1))).1;simp at hk;exact⟨Y7 (de (q 4)),hk,Prod.ext (Ol (de (q 10))) (Tb (de (q 9)))⟩
def acv:cq (bG×gO×Int×Int)where
 bh w A H:=A=[.gN 0,.ai [J w.2.2.1,J w.2.2.2]]/\H=hR w.1 w.2.1/\w.2.1.2.length<1200000
 v w:=.au true
 aK w:=oR w.1 (mn w.2.1 w.2.2.1 w.2.2.2)
theorem ayH:acv.ck:=by rintro⟨f,st,v,c⟩ ⟨f',jT,v',c'⟩ A H ⟨h1,h2,_⟩ ⟨k1,k2,_⟩;obtain⟨rfl,rfl⟩:=auv (h2.symm.trans k2);rw[h1]at k1;simp at k1;obtain⟨rfl,rfl⟩:=k1;rfl
def W4:Ev.bp:=bR 999999 (bW acv ayH cB) R9
def wk1:cq (bG×Int×gO×Int)where
 bh w A H:=A=[J w.2.2.2,.aa 0 0,.aa 1 0]/\H=hW w.1 w.2.1 w.2.2.1/\w.2.2.1.2.length<1200000
 v w:=.au true
 aK w:=oW w.1 w.2.1 (mn w.2.2.1 w.2.2.2 w.2.1)
theorem aGm:wk1.ck:=by rintro⟨f,k,st,v⟩ ⟨f',k',jT,v'⟩ A H ⟨h1,h2,_⟩ ⟨k1,k2,_⟩;obtain⟨rfl,rfl,rfl⟩:=RI (h2.symm.trans k2);rw[h1]at k1;simp at k1;rw[k1]
def W5:Ev.bp:=bR 152 (bW wk1 aGm cB) W4
def wkX(N:Nat):cq (bG×Int×gO×aF)where
 bh w A H:=A=[.ai (aU w.2.2.2),.bn (.func 152) [] [.aa 0 0,.aa 1 0]]/\H=hW w.1 w.2.1 w.2.2.1/\bB w.2.2.2/\bM w.2.2.2<N/\w.2.2.1.2.length+bM w.2.2.2<1200000
 v w:=.au true
 aK w:=oW w.1 w.2.1 (pz w.2.1 w.2.2.1 w.2.2.2)
theorem aGr(N):(wkX N).ck:=by rintro⟨f,k,st,t⟩ ⟨f',k',jT,t'⟩ A H ⟨h1,h2,_⟩ ⟨k1,k2,_⟩;obtain⟨rfl,rfl,rfl⟩:=RI (h2.symm.trans k2);rw[h1]at k1;simp at k1;rw[lP k1]
def Lc(N:Nat):Ev.bp:=bR 151 (bW (wkX N) (aGr N) cB) W5
def aoQ:cq (bG×Int×gO×aF)where
 bh w A H:=A=[.ai (aU w.2.2.2),.bn (.func 152) [] [.aa 0 0,.aa 1 0]]/\H=hW w.1 w.2.1 w.2.2.1/\bB w.2.2.2/\w.2.2.1.2.length+bM w.2.2.2<1200000
 v w:=.au true
 aK w:=oW w.1 w.2.1 (pz w.2.1 w.2.2.1 w.2.2.2)
theorem aGq:aoQ.ck:=by rintro⟨f,k,st,t⟩ ⟨f',k',jT,t'⟩ A H ⟨h1,h2,_⟩ ⟨k1,k2,_⟩;obtain⟨rfl,rfl,rfl⟩:=RI (h2.symm.trans k2);rw[h1]at k1;simp at k1;rw[lP k1]
def PM:Ev.bp:=bR 151 (bW aoQ aGq cB) W5
def eaX:cq (bG×Int×gO×eH)where
 bh w A H:=A=[.ah (aH w.2.2.2) w.2.2.2.length 4,.aa 0 0,.aa 1 0]/\H=hW w.1 w.2.1 w.2.2.1/\dk w.2.2.2.length/\fK w.2.2.2/\w.2.2.1.2.length+bN w.2.2.2<1200000
 v w:=.au true
 aK w:=oW w.1 w.2.1 (je w.2.1 w.2.2.1 w.2.2.2)
theorem asc:eaX.ck:=by rintro⟨f,k,st,t⟩ ⟨f',k',jT,t'⟩ A H ⟨h1,h2,_⟩ ⟨k1,k2,_⟩;obtain⟨rfl,rfl,rfl⟩:=RI (h2.symm.trans k2);rw[h1]at k1;simp at k1;rw[tB k1.2 k1.1]
def W7:Ev.bp:=bR 150 (bW eaX asc cB) PM
theorem amk{f st v c L Q}:
 acG Z R9 (λ_=>[]) L Q 1000 0 (.ai [J v,J c]) (hR f st)=(
 ∃n aN bz b,(eZ Z 2 200 (bO vS 0 st.fst) (J v)=some ((.ai [J n,J aN,J bz],b)))/\
 aw (!b)
  (((List.length (aX st.snd)=(List.length st.snd)*1)/\
    ((List.length st.snd)+1<=4194304)/\
    (true=true)/\
    true=true)/\
    ∃bJ c',(j9 Z 2 (bO vS 0 st.fst) (List.length st.fst) (J v) (.ai [J (aP (List.length st.snd)),J c,J c])=some ((bJ,c')))/\
    Q (.au true) (aq [(0,(pw LoopState.ready [(1,.aa 2 0),(2,.aa 5 0),(4,.aa 6 0),(5,.aa 3 0),(21,.bn (.func 149) [] [.aa 4 0])] 1)),(1,.pP (some [])),(2,.al [.ad f.aO.cT,J (cX.ar (bG.aO f)),J (cX.ao (bG.aO f)),.ah (aH f.bL) (List.length f.bL) 4,.ah (bD f.ba) (List.length f.ba) 6] 106),(3,.al [.aj 9 ((List.length st.snd)+1) 1] 35),(4,.al [.ad f.aO.cT,J (cX.ar (bG.aO f)),J (cX.ao (bG.aO f)),.ah (aH f.bL) (List.length f.bL) 4,.ah (bD f.ba) (List.length f.ba) 6] 106),(5,.al [.aM,.aM,.aM] 153),(6,.al [.aB 8] 193),(7,.bm []),(8,.aY bJ c' true),(9,.aA ((aX st.snd)++[J v]) 2)] 10))
  (∃bJ c',(j9 Z 2 (bO vS 0 st.fst) (List.length st.fst) (J v) (.ai [J n,J aN,J c])=some ((bJ,c')))/\
    Q (.au true) (aq [(0,(pw LoopState.ready [(1,.aa 2 0),(2,.aa 5 0),(4,.aa 6 0),(5,.aa 3 0),(21,.bn (.func 149) [] [.aa 4 0])] 1)),(1,.pP (some [])),(2,.al [.ad f.aO.cT,J (cX.ar (bG.aO f)),J (cX.ao (bG.aO f)),.ah (aH f.bL) (List.length f.bL) 4,.ah (bD f.ba) (List.length f.ba) 6] 106),(3,.al [.aj 7 (List.length st.snd) 1] 35),(4,.al [.ad f.aO.cT,J (cX.ar (bG.aO f)),J (cX.ao (bG.aO f)),.ah (aH f.bL) (List.length f.bL) 4,.ah (bD f.ba) (List.length f.ba) 6] 106),(5,.al [.aM,.aM,.aM] 153),(6,.al [.aB 8] 193),(7,.aA (aX st.snd) 2),(8,.aY bJ c' true)] 9))):=by kernel_rfl
abbrev ID x0 x1 x2 x3 x4:=aq [(0,.al [.gN 2] 221),(1,.al [J x0] 3),(2,pw LoopState.ready [(1,.aa 4 0),(2,.aa 7 0),(4,.aa 8 0),(5,.aa 5 0),(21,.bn (.func 149) [] [.aa 6 0])] 3),(3,kf),(4,dI x1),(5,.al [.aj 11 x2 1] 35),(6,dI x1),(7,nF),(8,.al [.aB 10] 193),(9,.bm []),(10,gL x3),(11,bH x4 2)] 12
theorem aBG{f k st v L Q}:
 bC Z W4 (λ_=>[]) L Q 1000 152 [J v,.aa 0 0,.aa 1 0] (hW f k st)=(
 ∃w:bG×gO×Int×Int,(([.gN 0,.ai [J v,J k]]:LV)=[.gN 0,.ai [J w.2.2.1,J w.2.2.2]]/\aq [(0,pw LoopState.ready [(1,.aa 2 0),(2,.aa 5 0),(4,.aa 6 0),(5,.aa 3 0),(21,.bn (.func 149) [] [.aa 4 0])] 1),(1,kf),(2,dI f),(3,.al [.aj 7 st.2.length 1] 35),(4,dI f),(5,nF),(6,.al [.aB 8] 193),(7,bH st.2 2),(8,gL st.1)] 9=hR w.1 w.2.1/\w.2.1.2.length<1200000)/\Q (.au true) (ID k w.1 (mn w.2.1 w.2.2.1 w.2.2.2).2.length (mn w.2.1 w.2.2.1 w.2.2.2).1 (mn w.2.1 w.2.2.1 w.2.2.2).2)):=by kernel_rfl
abbrev Uo x0 x1 x2:=bg [(1,.bn (.func 152) [] [.aa 0 0,.aa 1 0]),(15,.ah x0 x1 4),(16,J (aP x1)),(17,J x2)]
abbrev Mk x0 x1 x2 x3 x4:=aq [(0,.al [.gN 2] 221),(1,.al [J x0] 3),(2,pw LoopState.ready [(1,.aa 4 0),(2,.aa 7 0),(4,.aa 8 0),(5,.aa 5 0),(21,.bn (.func 149) [] [.aa 6 0])] 3),(3,kf),(4,dI x1),(5,.al [.aj 9 x2 1] 35),(6,dI x1),(7,nF),(8,.al [.aB 10] 193),(9,bH x3 2),(10,gL x4)] 11
theorem aBE{f c st k n s cs len N L Q}:
 bC Z (Lc N) (λ_=>[1,15,16,17]) L Q 1000 151 [.ai [J k,J n,.ad s,.ah cs len 4],.bn (.func 152) [] [.aa 0 0,.aa 1 0]] (hW f c st)=(
 aw (k==0) (∃w:bG×Int×gO×Int,(([J n,.aa 0 0,.aa 1 0]:LV)=[J w.2.2.2,.aa 0 0,.aa 1 0]/\Mk c f st.2.length st.2 st.1=hW w.1 w.2.1 w.2.2.1/\w.2.2.1.2.length<1200000)/\Q (.au true) (ID w.2.1 w.1 (mn w.2.2.1 w.2.2.2 w.2.1).2.length (mn w.2.2.1 w.2.2.2 w.2.1).1 (mn w.2.2.1 w.2.2.2 w.2.1).2)) (L (Uo cs len 0) (Mk c f st.2.length st.2 st.1) (ax Z 151 0))):=by kernel_rfl
theorem aBF{f c st cs len i N L Q}:
 cg Z (Lc N) (λ_=>[1,15,16,17]) L Q 1000 151 11 (Uo cs len i) (ax Z 151 0) (oW f c st)=(
 aw (decide (i<aP len)) (∃aJ:Nat,i=(aJ:Int)/\aJ<len/\(∃n aN s bP bI,((cs.drop (aJ*4)).take 4:LV)=[J n,J aN,.ad s,.ah bP bI 4]/\(∃w:bG×Int×gO×aF,(([.ai [J n,J aN,.ad s,.ah bP bI 4],.bn (.func 152) [] [.aa 0 0,.aa 1 0]]:LV)=[.ai (aU w.2.2.2),.bn (.func 152) [] [.aa 0 0,.aa 1 0]]/\Mk c f st.2.length st.2 st.1=hW w.1 w.2.1 w.2.2.1/\bB w.2.2.2/\bM w.2.2.2<N/\w.2.2.1.2.length+bM w.2.2.2<1200000)/\L (Uo cs len (wI (i+1))) (ID w.2.1 w.1 (pz w.2.1 w.2.2.1 w.2.2.2).2.length (pz w.2.1 w.2.2.1 w.2.2.2).1 (pz w.2.1 w.2.2.1 w.2.2.2).2) (ax Z 151 0)))) (Q (.au true) (ID c f st.2.length st.1 st.2))):=by kernel_rfl
abbrev Up x0 x1 x2:=bg [(1,.aa 0 0),(2,.aa 1 0),(7,.ah x0 x1 4),(8,J (aP x1)),(9,J x2)]
theorem aBB{f c st cs len L Q}:
 bC Z PM (λ_=>[1,2,7,8,9]) L Q 1000 150 [.ah cs len 4,.aa 0 0,.aa 1 0] (hW f c st)=(
 L (Up cs len 0) (Mk c f st.2.length st.2 st.1) (ax Z 150 0)):=by kernel_rfl
theorem aBC{f c st cs len i L Q}:
 cg Z PM (λ_=>[1,2,7,8,9]) L Q 1000 150 11 (Up cs len i) (ax Z 150 0) (oW f c st)=(
 aw (decide (i<aP len)) (∃aJ:Nat,i=(aJ:Int)/\aJ<len/\(∃n aN s bP bI,((cs.drop (aJ*4)).take 4:LV)=[J n,J aN,.ad s,.ah bP bI 4]/\(∃w:bG×Int×gO×aF,(([.ai [J n,J aN,.ad s,.ah bP bI 4],.bn (.func 152) [] [.aa 0 0,.aa 1 0]]:LV)=[.ai (aU w.2.2.2),.bn (.func 152) [] [.aa 0 0,.aa 1 0]]/\Mk c f st.2.length st.2 st.1=hW w.1 w.2.1 w.2.2.1/\bB w.2.2.2/\w.2.2.1.2.length+bM w.2.2.2<1200000)/\L (Up cs len (wI (i+1))) (ID w.2.1 w.1 (pz w.2.1 w.2.2.1 w.2.2.2).2.length (pz w.2.1 w.2.2.1 w.2.2.2).1 (pz w.2.1 w.2.2.1 w.2.2.2).2) (ax Z 150 0)))) (Q (.au true) (ID c f st.2.length st.1 st.2))):=by kernel_rfl
theorem aoZ:kb Z 200=some (vS ⟨0,0,0⟩):=by kernel_rfl
theorem J1(l x):aX (l++[x])=aX l++[J x]:=by simp[aX]
theorem vr(l):(aX l).length=l.length:=by simp[aX]
theorem afb:aS Z W4:=by
 refine ap4 Xk ?_;rintro⟨f,st,v,c⟩ args H ⟨rfl,rfl,hl⟩;refine⟨0,_,rfl,?_⟩;have hl:=hl;have⟨sp,od⟩:=st;simp only at hl;simp only[acv];cases hk:lk v sp with
 |none=>
  have e:mn (sp,od) v c=(up v ⟨od.length,c,c⟩ sp,od++[v]):=by simp[mn,hk]
  rw[e];refine amG (n:=1000) (aR:=λ_=>[]) iJ Xk rfl (show 0<9 by omega) ?_;rw[amk];refine⟨0,0,0,false,by rw[pv _ jy,hk,aoZ];rfl,?_⟩;refine aD (λ_=>⟨⟨by simp[vr],by simp only;omega,rfl,rfl⟩,_,_,pG vS jy (v:=⟨od.length,c,c⟩),rfl,?_⟩) λh=>by cases h
  simp only[oR,rV,J1,cL,ei,gY,kD];rfl
 |some s0=>
  have⟨a,b,l⟩:=s0;have e:mn (sp,od) v c=(up v ⟨a,b,c⟩ sp,od):=by simp[mn,hk]
  rw[e];refine ayK ?_ (axg f _) (cE _);refine amG (n:=1000) (aR:=λ_=>[]) iJ Xk rfl (show 0<9 by omega) ?_;rw[amk];refine⟨a,b,l,true,by rw[pv _ jy,hk];rfl,?_⟩;exact aD (λh=>(by cases h)) λ_=>⟨_,_,pG vS jy (v:=⟨a,b,c⟩),rfl,rfl⟩
theorem afc:aS Z W5:=by refine cu afb ?_;rintro⟨f,k,st,v⟩ args H ⟨rfl,rfl,hl⟩;refine eS afb (λ_=>[]) 10 ?_;simp;rw[aBG];exact⟨(f,st,v,k),⟨rfl,rfl,hl⟩,rfl,rfl⟩
theorem aBD{f c aI l N}(hS:aS Z (Lc N))(hl:dk l.length)(ho:fK l)(hN:bN l<N):
 ∀p:Nat×gO,(p.1<=l.length/\p.2.2.length+bN (l.drop p.1)<1200000/\je c p.2 (l.drop p.1)=aI)->
 bu Z 151 26 11 (.au true) (oW f c aI) (Uo (aH l) l.length (p.1:Int)) (oW f c p.2) (ax Z 151 0):=by
 refine dF (λp=>l.length-p.1) _ _ _ _ ?_;rintro⟨i,st⟩ ⟨hi,hc,hf⟩ ih;simp only at hi hc hf ih⊢;refine hE hS aBF ?_;refine aD (λay=>?_) λbq=>?_
 .have ay:i<l.length:=by simpa using ay
  have⟨k1,n1,s1,m1,he,b_,aZ⟩:=z9 ay ho;have cx:=OM ay;rw[he]at cx;rw[fV ay,he,bN]at hc;rw[fV ay,he,je]at hf;have hg:=abD c st (.mk k1 n1 s1 m1);refine⟨i,rfl,ay,k1,n1,s1,_,_,b_,(f,c,st,.mk k1 n1 s1 m1),⟨rfl,rfl,aZ,by simp only;omega,by simp only;omega⟩,?_⟩;rw[kU hl ay];exact ih (i+1,pz c st (.mk k1 n1 s1 m1)) ⟨by simp;omega,by simp only;omega,hf⟩ (by simp;omega)
 .have bq:l.length<=i:=by simpa using bq
  rw[gR bq,je]at hf;subst hf;exact⟨rfl,rfl⟩
theorem am3{f c st k n s l N}(hS:aS Z (Lc N))(ho:bB (.mk k n s l))(hN:bN l<N)(hc:st.2.length+(1+bN l)<1200000):
 bX Z 151 [.ai [J k,J n,.ad s,.ah (aH l) l.length 4],.bn (.func 152) [] [.aa 0 0,.aa 1 0]] (hW f c st) (.au true) (oW f c (pz c st (.mk k n s l))):=by
 refine eE 26 hS aBE ?_;refine aD (λhk=>?_) λhk=>?_
 .have hk:k=0:=by simpa using hk
  have e:pz c st (.mk k n s l)=mn st n c:=by rw[pz,aL hk]
  rw[e];exact⟨(f,c,st,n),⟨rfl,rfl,by simp only;omega⟩,rfl,rfl⟩
 .have hk:¬k=0:=by simpa using hk
  have e:pz c st (.mk k n s l)=je c st l:=by rw[pz,az hk]
  rw[e];refine uT ?_ (mvW f c st) (λi a' hi=>⟨a',hi,wz hi (by simp[eM,nY,lu,eA])⟩);exact aBD hS ho.2.1 ho.2.2 hN (0,st) ⟨by simp,by simp;omega,by simp⟩
theorem apE:∀N,aS Z (Lc N):=by
 refine yl afc ?_ ?_
 .rintro⟨f,c,st,t⟩ args H ⟨_,_,_,h,_⟩;omega
 .rintro N hS ⟨f,c,st,⟨k,n,s,l⟩⟩ args H ⟨rfl,rfl,ho,hN,hc⟩;simp only[bM]at hc hN;exact am3 hS ho (by omega) hc
theorem W6:aS Z PM:=by refine cu afc ?_;rintro⟨f,c,st,⟨k,n,s,l⟩⟩ args H ⟨rfl,rfl,ho,hc⟩;simp at hc;exact am3 (apE (bN l+1)) ho (by omega) hc
theorem aBA{f c aI l}(hl:dk l.length)(ho:fK l):
 ∀p:Nat×gO,(p.1<=l.length/\p.2.2.length+bN (l.drop p.1)<1200000/\je c p.2 (l.drop p.1)=aI)->
 bu Z 150 18 11 (.au true) (oW f c aI) (Up (aH l) l.length (p.1:Int)) (oW f c p.2) (ax Z 150 0):=by
 refine dF (λp=>l.length-p.1) _ _ _ _ ?_;rintro⟨i,st⟩ ⟨hi,hc,hf⟩ ih;simp only at hi hc hf ih⊢;refine hE W6 aBC ?_;refine aD (λay=>?_) λbq=>?_
 .have ay:i<l.length:=by simpa using ay
  have⟨k1,n1,s1,m1,he,b_,aZ⟩:=z9 ay ho;rw[fV ay,he,bN]at hc;rw[fV ay,he,je]at hf;have hg:=abD c st (.mk k1 n1 s1 m1);refine⟨i,rfl,ay,k1,n1,s1,_,_,b_,(f,c,st,.mk k1 n1 s1 m1),⟨rfl,rfl,aZ,by simp only;omega⟩,?_⟩;rw[kU hl ay];exact ih (i+1,pz c st (.mk k1 n1 s1 m1)) ⟨by simp;omega,by simp only;omega,hf⟩ (by simp;omega)
 .have bq:l.length<=i:=by simpa using bq
  rw[gR bq,je]at hf;subst hf;exact⟨rfl,rfl⟩
theorem afd:aS Z W7:=by refine cu W6 ?_;rintro⟨f,c,st,l⟩ args H ⟨rfl,rfl,hl,ho,hc⟩;have hl:=hl;refine eS W6 (λ_=>[1,2,7,8,9]) 18 ?_;simp;rw[aBB];refine uT ?_ (mvW f c st) (λi a' hi=>⟨a',hi,wz hi (by simp[eM,lu,eA])⟩);exact aBA hl ho (0,st) ⟨by simp,by simp;omega,by simp⟩
def alP:LV->Option (Prop×AV)
 |[.ai [.bV .i64 k,.ad _,.bV .i64 _,.bV .i64 _,.ah _ _ 4,.bV .i64 _]]=>some (True,.au (decide (k=2\/k=3\/k=4)))
 |_=>none
def PN:Ev.bp:=fk 153 (fY alP) W7
def Bk(c:Int)(st:gO)(g:qD):gO:=if NG g then mn (je c st g.fj) g.n7 c else je c st g.fj
def Dv:Nat->gO->gi->gO
 |_,st,[]=>st
 |c,st,g::gs=>Dv (if g.fM=1 then c+1 else c) (Bk c st g) gs
def Du(f:bG)(st:gO):gO:=Dv 0 (je 0 st f.bL) f.ba
def Me(f:bG)(st:gO):AH:=aq [(0,pw .ready (lT 3 4 1 5 6) 2),(1,dI f),(2,kf),(3,dI f),(4,.al [.aj 7 st.2.length 1] 35),(5,nF),(6,.al [.aB 8] 193),(7,rV st.2),(8,gL st.1)] 9
def o91(f:bG)(st:gO):AH:=aq [(0,pw .ready (lT 3 4 1 5 6) 2),(1,dI f),(2,kf),(3,dI f),(4,.al [.aj 9 st.2.length 1] 35),(5,nF),(6,.al [.aB 8] 193),(7,.bm []),(8,gL st.1),(9,rV st.2)] 10
def r91(f:bG)(k:Int)(st:gO):AH:=aq [(0,pw .ready (lT 3 4 1 5 6) 2),(1,dI f),(2,kf),(3,dI f),(4,.al [.aj 11 st.2.length 1] 35),(5,nF),(6,.al [.aB 8] 193),(7,.bm []),(8,gL st.1),(9,.al [.gN 0] 221),(10,.al [J k] 3),(11,rV st.2)] 12
theorem aum{f f' st jT}(h:Me f st=Me f' jT):f=f'/\st=jT:=by
 have q:=λi=>congrArg (λH=>AH.bc H i) h
 exact⟨Y7 (de (q 1)),Prod.ext (Ol (de (q 8))) (Tb (de (q 7)))⟩
def ocX:cq (bG×gO)where
 bh w A H:=A=[.gN 0,.aa 1 0]/\H=Me w.1 w.2/\ig w.1/\w.2.2.length+bN w.1.bL+fp w.1.ba<1200000
 v w:=.aC []
 aK w:=o91 w.1 (Du w.1 w.2)
theorem axt:ocX.ck:=by rintro⟨f,st⟩ ⟨f',jT⟩ A H ⟨h1,h2,_⟩ ⟨k1,k2,_⟩;obtain⟨rfl,rfl⟩:=aum (h2.symm.trans k2);rfl
def W9:Ev.bp:=bR 149 (bW ocX axt cB) PN
def oc0:cq bG where
 bh f A H:=A=[.ai (gP f)]/\H=an
 v f:=.bn (.func 149) [] [.aa 0 0]
 aK f:=aq [(0,dI f)] 1
theorem axs:oc0.ck:=by rintro f f' A H ⟨h1,_⟩ ⟨k1,_⟩;rw[h1]at k1;simp at k1;rw[yY _ _ k1]
def W_:Ev.bp:=bR 121 (bW oc0 axs cB) W9
theorem aBH{k nm ar ao cs len v L Q}:
 bC Z W7 (λ_=>[]) L Q 1000 153 [.ai [J k,.ad nm,J ar,J ao,.ah cs len 4,J v]] an=(
 aw (k==2) (Q (.au true) an) (aw (k==3) (Q (.au true) an) (Q (.au (k==4)) an))):=by kernel_rfl
abbrev GF x0 x1 x2:=bg [(2,.aa 9 0),(3,.aa 10 0),(4,.bn (.func 150) [] [.aa 9 0,.aa 10 0]),(14,.ah x0 x1 6),(15,J (aP x1)),(16,J x2)]
abbrev aiP x0 x1 x2 x3 x4:=aq [(0,.al [.gN 2] 221),(1,.al [J x0] 3),(2,pw LoopState.ready [(1,.aa 4 0),(2,.aa 7 0),(4,.aa 8 0),(5,.aa 5 0),(21,.bn (.func 149) [] [.aa 6 0])] 3),(3,kf),(4,dI x1),(5,.al [.aj 9 x2 1] 35),(6,dI x1),(7,nF),(8,.al [.aB 10] 193),(9,bH x3 2),(10,gL x4)] 11
abbrev Ml x0 x1 x2 x3 x4:=aq [(0,pw LoopState.ready [(1,.aa 3 0),(2,.aa 5 0),(4,.aa 6 0),(5,.aa 4 0),(21,.bn (.func 149) [] [.aa 1 0])] 2),(1,dI x0),(2,kf),(3,dI x0),(4,.al [.aj 11 x1 1] 35),(5,nF),(6,.al [.aB 8] 193),(7,.bm []),(8,gL x2),(9,.al [.gN 0] 221),(10,.al [J x3] 3),(11,bH x4 2)] 12
theorem aBy{f st L Q}:
 bC Z PN (λ_=>[2,3,4,14,15,16]) L Q 1000 149 [.gN 0,.aa 1 0] (Me f st)=(
 ∃w:bG×Int×gO×eH,(([.ah (aH f.bL) f.bL.length 4,.aa 0 0,.aa 1 0]:LV)=[.ah (aH w.2.2.2) w.2.2.2.length 4,.aa 0 0,.aa 1 0]/\aiP 0 f st.2.length st.2 st.1=hW w.1 w.2.1 w.2.2.1/\dk w.2.2.2.length/\fK w.2.2.2/\w.2.2.1.2.length+bN w.2.2.2<1200000)/\L (GF (bD w.1.ba) w.1.ba.length 0) (Ml w.1 (je w.2.1 w.2.2.1 w.2.2.2).2.length (je w.2.1 w.2.2.1 w.2.2.2).1 w.2.1 (je w.2.1 w.2.2.1 w.2.2.2).2) (ax Z 149 0)):=by kernel_rfl
theorem aBz{f k st gs gl i L Q}:
 cg Z PN (λ_=>[2,3,4,14,15,16]) L Q 1000 149 9 (GF gs gl i) (ax Z 149 0) (r91 f k st)=(
 aw (decide (i<aP gl)) (∃aJ:Nat,i=(aJ:Int)/\aJ<gl/\(∃n s aN bz cs len ct,((gs.drop (aJ*6)).take 6:LV)=[J n,.ad s,J aN,J bz,.ah cs len 4,J ct]/\(∃w:bG×Int×gO×eH,(([.ah cs len 4,.aa 0 0,.aa 1 0]:LV)=[.ah (aH w.2.2.2) w.2.2.2.length 4,.aa 0 0,.aa 1 0]/\aiP k f st.2.length st.2 st.1=hW w.1 w.2.1 w.2.2.1/\dk w.2.2.2.length/\fK w.2.2.2/\w.2.2.1.2.length+bN w.2.2.2<1200000)/\(aq [] 0=an/\True)/\aw (decide (n=2\/n=3\/n=4)) (∃ae:bG×gO×Int×Int,(([.gN 0,.ai [J ct,J w.2.1]]:LV)=[.gN 0,.ai [J ae.2.2.1,J ae.2.2.2]]/\aq [(0,pw LoopState.ready [(1,.aa 2 0),(2,.aa 5 0),(4,.aa 6 0),(5,.aa 3 0),(21,.bn (.func 149) [] [.aa 4 0])] 1),(1,kf),(2,dI w.1),(3,.al [.aj 7 (je w.2.1 w.2.2.1 w.2.2.2).2.length 1] 35),(4,dI w.1),(5,nF),(6,.al [.aB 8] 193),(7,bH (je w.2.1 w.2.2.1 w.2.2.2).2 2),(8,gL (je w.2.1 w.2.2.1 w.2.2.2).1)] 9=hR ae.1 ae.2.1/\ae.2.1.2.length<1200000)/\aw (n==1) (L (GF gs gl (wI (i+1))) (Ml ae.1 (mn ae.2.1 ae.2.2.1 ae.2.2.2).2.length (mn ae.2.1 ae.2.2.1 ae.2.2.2).1 (wI (w.2.1+1)) (mn ae.2.1 ae.2.2.1 ae.2.2.2).2) (ax Z 149 0)) (L (GF gs gl (wI (i+1))) (Ml ae.1 (mn ae.2.1 ae.2.2.1 ae.2.2.2).2.length (mn ae.2.1 ae.2.2.1 ae.2.2.2).1 w.2.1 (mn ae.2.1 ae.2.2.1 ae.2.2.2).2) (ax Z 149 0))) (aw (n==1) (L (GF gs gl (wI (i+1))) (Ml w.1 (je w.2.1 w.2.2.1 w.2.2.2).2.length (je w.2.1 w.2.2.1 w.2.2.2).1 (wI (w.2.1+1)) (je w.2.1 w.2.2.1 w.2.2.2).2) (ax Z 149 0)) (L (GF gs gl (wI (i+1))) (Ml w.1 (je w.2.1 w.2.2.1 w.2.2.2).2.length (je w.2.1 w.2.2.1 w.2.2.2).1 w.2.1 (je w.2.1 w.2.2.1 w.2.2.2).2) (ax Z 149 0)))))) (Q (.aC []) (aq [(0,pw LoopState.ready [(1,.aa 3 0),(2,.aa 5 0),(4,.aa 6 0),(5,.aa 4 0),(21,.bn (.func 149) [] [.aa 1 0])] 2),(1,dI f),(2,kf),(3,dI f),(4,.al [.aj 9 st.2.length 1] 35),(5,nF),(6,.al [.aB 8] 193),(7,.bm []),(8,gL st.1),(9,bH st.2 2)] 10))):=by kernel_rfl
theorem aA7{f L Q}:
 bC Z W9 (λ_=>[]) L Q 1000 121 [.ai (gP f)] an=(
 Q (.bn (.func 149) [] [.aa 0 0]) (fH f.aO.cT f.aO.ar f.aO.ao (aH f.bL) f.bL.length (bD f.ba) f.ba.length)):=by kernel_rfl
theorem W8:aS Z PN:=by
 refine jG afd λargs q v h hq=>?_
 unfold alP at h;split at h<;>cases h;rename_i k nm ar ao cs len v;refine eS afd (λ_=>[]) 16 ?_
 .rw[aBH];refine aD (λh=>?_) λh=>aD (λh2=>?_) λh2=>?_
  .have h:k=2:=by simpa using h
   exact⟨by simp[h],rfl⟩
  .have h2:k=3:=by simpa using h2
   exact⟨by simp[h2],rfl⟩
  .have h:¬k=2:=by simpa using h
   have h2:¬k=3:=by simpa using h2
   refine⟨?_,rfl⟩;by_cases h3:k=4<;>simp[h,h2,h3]
theorem alE(c st g):(Bk c st g).2.length<=st.2.length+bN g.fj+1:=by have h1:=JB c st g.fj;have h2:=alC (je c st g.fj) g.n7 c;unfold Bk;split<;>omega
theorem aBx{f aI gs}(hl:dk gs.length)(ho:∀g∈gs,rf g)(hG:gs.length<1200000):
 ∀p:Nat×Nat×gO,(p.1<=gs.length/\p.2.1<=p.1/\p.2.2.2.length+fp (gs.drop p.1)<1200000/\Dv p.2.1 p.2.2 (gs.drop p.1)=aI)->
 bu Z 149 44 9 (.aC []) (o91 f aI) (GF (bD gs) gs.length (p.1:Int)) (r91 f (p.2.1:Int) p.2.2) (ax Z 149 0):=by
 refine dF (λp=>gs.length-p.1) _ _ _ _ ?_;rintro⟨i,c,st⟩ ⟨hi,hc,hq,hf⟩ ih;simp only at hi hc hq hf ih⊢;refine hE W8 aBz ?_;refine aD (λay=>?_) λbq=>?_
 .have ay:i<gs.length:=by simpa using ay
  have⟨k,nm,ar,ao,ls,v,he,b_,aZ⟩:=Cx ay ho;rw[fV ay,he,Dv]at hf;rw[fV ay,he,fp]at hq;simp only at hf hq;have h1:=JB c st ls;have h2:=alE c st ⟨k,⟨nm,ar,ao⟩,ls,v⟩;simp only at h2;have next:=ih (i+1,(if k=1 then c+1 else c),Bk c st ⟨k,⟨nm,ar,ao⟩,ls,v⟩) ⟨by simp;omega,by simp only;split<;>omega,by simp only;omega,hf⟩ (by simp;omega)
  refine⟨i,rfl,ay,k,nm,ar,ao,_,_,v,b_,(f,(c:Int),st,ls),⟨rfl,rfl,aZ.2.1,aZ.2.2,by simp only;omega⟩,⟨rfl,trivial⟩,?_⟩;rw[kU hl ay];have hw:=oF (lA c) (by omega);refine aD (λh=>?_) λh=>?_
  .have nR:NG ⟨k,⟨nm,ar,ao⟩,ls,v⟩=true:=by simpa[NG]using h
   have e:Bk c st ⟨k,⟨nm,ar,ao⟩,ls,v⟩=mn (je c st ls) v c:=by simp[Bk,nR]
   rw[e]at next
   refine⟨(f,je c st ls,v,(c:Int)),⟨rfl,rfl,by simp only;omega⟩,aD (λhk=>?_) λhk=>?_⟩
   .have hk:k=1:=by simpa using hk
    rw[aL hk]at next
    rw[hw];exact next
   .have hk:¬k=1:=by simpa using hk
    rw[az hk]at next
    exact next
  .have nR:NG ⟨k,⟨nm,ar,ao⟩,ls,v⟩=false:=by simpa[NG]using h
   have e:Bk c st ⟨k,⟨nm,ar,ao⟩,ls,v⟩=je c st ls:=by simp[Bk,nR]
   rw[e]at next
   refine aD (λhk=>?_) λhk=>?_
   .have hk:k=1:=by simpa using hk
    rw[aL hk]at next
    rw[hw];exact next
   .have hk:¬k=1:=by simpa using hk
    rw[az hk]at next
    exact next
 .have bq:gs.length<=i:=by simpa using bq
  rw[gR bq,Dv]at hf;subst hf;exact⟨rfl,rfl⟩
theorem afe:aS Z W9:=by refine cu W8 ?_;rintro⟨f,st⟩ args H ⟨rfl,rfl,ho,hc⟩;have hc:st.2.length+bN f.bL+fp f.ba<1200000:=hc;have hg:=Rp f.ba;have h1:=JB 0 st f.bL;refine eS W8 (λ_=>[2,3,4,14,15,16]) 44 ?_;simp;rw[aBy];refine⟨(f,0,st,f.bL),⟨rfl,rfl,ho.2.1,ho.2.2.1,by simp only;omega⟩,?_⟩;exact aBx ho.2.2.2.1 ho.2.2.2.2 (show f.ba.length<1200000 by omega) (0,0,je 0 st f.bL) ⟨by simp,by simp,by simp;omega,rfl⟩
theorem aff:aS Z W_:=by refine cu afe ?_;rintro f args H ⟨rfl,rfl⟩;refine eS afe (λ_=>[]) 4 ?_;rw[aA7];exact⟨rfl,rfl⟩
end
end Go.Cl
namespace Go.Cl
open Go.Ev
noncomputable section
def u6(key:Int->Int)(x:Int):LI->LI
 |[]=>[x]
 |y::l=>if key y>key x then y::u6 key x l else x::y::l
def cD(key:Int->Int):LI->LI
 |[]=>[]
 |x::l=>u6 key x (cD key l)
def dR(key:Int->Int)(l:LI):Prop:=l.Pairwise (λx y=>key y<=key x)
def yI(key:Int->Int)(s t:LI):Prop:=dR key t/\∀k,t.filter (λx=>key x=k)=s.filter (λx=>key x=k)
theorem ajS(key x k):∀l,(u6 key x l).filter (λx=>key x=k)=(x::l).filter (λx=>key x=k)
 |[]=>rfl
 |y::l=>by
  simp only[u6];split;next h=>
   rw[ug,ajS key x k l];simp only[ug];by_cases hx:key x=k
   .have hy:¬key y=k:=by omega
    simp[hx,hy]
   .simp[hx]
  .rfl
theorem ajU(key x z):∀l,z∈u6 key x l↔z=x\/z∈l
 |[]=>by simp[u6]
 |y::l=>by
  simp only[u6];split
  .simp only[dK,ajU key x z l];constructor
   .rintro(h|h|h)
    .exact .inr (.inl h)
    .exact .inl h
    .exact .inr (.inr h)
   .rintro(h|h|h)
    .exact .inr (.inl h)
    .exact .inl h
    .exact .inr (.inr h)
  .simp
theorem ajR(key x):∀l,dR key l->dR key (u6 key x l)
 |[],_=>by simp[u6,dR]
 |y::l,h=>by
  unfold dR at h⊢;rw[Gj]at h;simp only[u6];split;next Ba=>
   rw[Gj];refine⟨λz hz=>?_,ajR key x l h.2⟩;rcases(ajU key x z l).1 hz with rfl|hz
   .omega
   .exact h.1 z hz
  next Ba=>
   rw[Gj];refine⟨λz hz=>?_,Gj.2 h⟩;rcases dK.1 hz with rfl|hz
   .omega
   .have:=h.1 z hz;omega
theorem wU(key):∀s,yI key s (cD key s)
 |[]=>⟨List.Pairwise.nil,λ_=>rfl⟩
 |x::s=>by have ih:=wU key s;refine⟨ajR key x _ ih.1,λk=>?_⟩;simp only[cD];rw[ajS,ug,ug,ih.2 k]
theorem Ik{key:Int->Int}{s t:LI}(h:∀k,t.filter (λx=>key x=k)=s.filter (λx=>key x=k)){x}(hx:x∈t):x∈s:=by have:x∈t.filter (λy=>key y=key x):=zN.2 ⟨hx,by simp⟩;rw[h]at this;exact(zN.1 this).1
theorem yI.Bi{key s t}(h:yI key s t)(x):x∈t↔x∈s:=⟨Ik h.2,Ik (λk=>(h.2 k).symm)⟩
theorem agQ{key}:∀{t u},dR key t->dR key u->(∀k,t.filter (λx=>key x=k)=u.filter (λx=>key x=k))->t=u
 |[],[],_,_,_=>rfl
 |[],y::u,_,_,h=>by have:=Ik (λk=>(h k).symm) (dY);cases this
 |x::t,[],_,_,h=>by have:=Ik h (dY);cases this
 |x::t,y::u,ht,hu,h=>by
  have hx:=Ik h (dY);have hy:=Ik (λk=>(h k).symm) (dY);unfold dR at ht hu;rw[Gj]at ht hu;have e1:key x<=key y:=by
   rcases dK.1 hx with rfl|hx
   .exact DH _
   .exact hu.1 x hx
  have e2:key y<=key x:=by
   rcases dK.1 hy with rfl|hy
   .exact DH _
   .exact ht.1 y hy
  have e:key x=key y:=by omega
  have h0:=h (key x);rw[ug,ug,aL (by simp),aL (by simp[e])]at h0;have Ba:=(List.cons.inj h0).1;subst Ba;rw[agQ ht.2 hu.2 λk=>?_];have h1:=h k;rw[ug,ug]at h1;split at h1
  .exact(List.cons.inj h1).2
  .exact h1
theorem yI.eq{key s t}(h:yI key s t):cD key s=t:=
 agQ (wU key s).1 h.1 (λk=>((wU key s).2 k).trans (h.2 k).symm)
theorem ajT(key x):∀l,(u6 key x l).length=l.length+1
 |[]=>rfl
 |y::l=>by
  simp only[u6];split
  .simp[ajT key x l]
  .rfl
theorem rk(key):∀s,(cD key s).length=s.length
 |[]=>rfl
 |x::s=>by simp[cD,ajT,rk key s]
theorem Om{key s}(h:dR key s):cD key s=s:=yI.eq ⟨h,λ_=>rfl⟩
theorem anV{key s p q x}(h:cD key s=p++q)(hq:∀y∈q,key y<key x)(hp:∀y∈p,key x<=key y):cD key (s++[x])=p++x::q:=by
 have hs:=wU key s;rw[h]at hs;refine yI.eq ⟨?_,λk=>?_⟩
 .have h1:=yg.1 hs.1;refine yg.2 ⟨h1.1,Gj.2 ⟨λy hy=>Int.le_of_lt (hq y hy),h1.2.1⟩,λa ha b hb=>?_⟩;rcases dK.1 hb with rfl|hb
  .exact hp a ha
  .exact h1.2.2 a ha b hb
 .have h2:=hs.2 k;simp at h2⊢;rw[<-h2];by_cases hk:key x=k
  .have:q.filter (λx=>key x=k)=[]:=by rw[TI];intro y hy;have:=hq y hy;simp;omega
   simp[hk,this]
  .simp[hk]
theorem aEQ{key p q x}(hd:dR key (p++q))(hp:∀y∈p,key x<key y)(hq:∀y∈q,key y<=key x):cD key (x::(p++q))=p++x::q:=by
 refine yI.eq ⟨?_,λk=>?_⟩
 .have h1:=yg.1 hd;refine yg.2 ⟨h1.1,Gj.2 ⟨hq,h1.2.1⟩,λa ha b hb=>?_⟩;rcases dK.1 hb with rfl|hb
  .exact Int.le_of_lt (hp a ha)
  .exact h1.2.2 a ha b hb
 .simp;by_cases hk:key x=k
  .have:p.filter (λx=>key x=k)=[]:=by rw[TI];intro y hy;have:=hp y hy;simp;omega
   simp[hk,this]
  .simp[hk]
theorem aER{key A B C D}(h1:dR key (A++B))(h2:dR key (C++D))(hBC:∀x∈B,∀y∈C,key x<key y)(hAD:∀x∈A,∀y∈D,key y<=key x):
 cD key ((A++B)++(C++D))=cD key (A++C)++cD key (B++D):=by
 have k1:=yg.1 h1;have k2:=yg.1 h2;have s1:=wU key (A++C);have s2:=wU key (B++D);refine yI.eq ⟨yg.2 ⟨s1.1,s2.1,λa ha b hb=>?_⟩,λk=>?_⟩
 .rcases iW.1 ((s1.Bi a).1 ha)with ha|ha<;>rcases iW.1 ((s2.Bi b).1 hb)with hb|hb
  .exact k1.2.2 a ha b hb
  .exact hAD a ha b hb
  .exact Int.le_of_lt (hBC b hb a ha)
  .exact k2.2.2 a ha b hb
 .rw[JP,s1.2 k,s2.2 k];simp;have:B.filter (λx=>key x=k)=[]\/C.filter (λx=>key x=k)=[]:=by
   by_cases hc:C.filter (λx=>key x=k)=[]
   .exact .inr hc
   .left;have⟨y,hy⟩:=List.exists_mem_of_ne_nil _ hc;have hy:=zN.1 hy;rw[TI];intro x hx;have:=hBC x hx y hy.1;simp at hy⊢;omega
  rcases this with h|h<;>simp[h]
theorem anU{key}(s t):cD key (cD key s++cD key t)=cD key (s++t):=by refine(yI.eq ⟨(wU key (s++t)).1,λk=>?_⟩);rw[(wU key (s++t)).2 k,JP,JP,(wU key s).2 k,(wU key t).2 k]
end
end Go.Cl
namespace Go.Cl
open Go.Ev Go.Proofs
noncomputable section
def ala:LV->Option (Prop×AV)
 |[.bV .i64 _]=>some (True,.au false)
 |_=>none
def rB(a b:Int):Int:=if a<b then-1 else if a>b then 1 else 0
def ago:LV->Option (Prop×AV)
 |[.bV .i64 a,.bV .i64 b]=>some (True,J (rB a b))
 |_=>none
def Xc:Ev.bp:=fk 110 (fY ala) W_
def Xd:Ev.bp:=fk 74 (fY ago) Xc
def kS(sp:List (Int×fO))(v:Int):Int:=((lk v sp).getD ⟨0,0,0⟩).last
def tI(sp:List (Int×fO)):AH:=aq [(0,.al [.aB 1] 193),(1,gL sp)] 2
theorem aul{a b}(h:tI a=tI b):a=b:=by
 have q:=λi=>congrArg (λH=>AH.bc H i) h
 exact Ol (de (q 1))
def Yf:cq (List (Int×fO)×Int×Int)where
 bh w A H:=A=[J w.2.1,J w.2.2,.aa 0 0]/\H=tI w.1
 v w:=J (rB (kS w.1 w.2.2) (kS w.1 w.2.1))
 aK w:=tI w.1
theorem aro:Yf.ck:=by rintro⟨sp,a,b⟩ ⟨By,a',b'⟩ A H ⟨h1,h2⟩ ⟨k1,k2⟩;have e:=aul (h2.symm.trans k2);rw[h1]at k1;simp at k1 e;rw[e,k1.1,k1.2]
def Ld:Ev.bp:=bR 123 (bW Yf aro cB) Xd
def hS(sp:List (Int×fO))(l:LI):AH:=aq [(0,rV l),(1,.al [.aB 2] 193),(2,gL sp)] 3
theorem Fx{a b l m}(h:hS a l=hS b m):a=b/\l=m:=by
 have q:=λi=>congrArg (λH=>AH.bc H i) h
 exact⟨Ol (de (q 2)),Tb (de (q 0))⟩
def cF:AV:=.bn (.func 123) [] [.aa 1 0]
def isX:cq (List (Int×fO)×LI×LI×LI)where
 bh w A H:=A=[.aj 0 (w.2.1++w.2.2.1++w.2.2.2).length 1,J (w.2.1.length:Int),J ((w.2.1++w.2.2.1).length:Int),cF]/\H=hS w.1 (w.2.1++w.2.2.1++w.2.2.2)/\(w.2.1++w.2.2.1++w.2.2.2).length<1200000
 v w:=.aC []
 aK w:=hS w.1 (w.2.1++cD (kS w.1) w.2.2.1++w.2.2.2)
theorem av3:isX.ck:=by
 rintro⟨sp,U,X,W⟩ ⟨By,U',X',W'⟩ A H ⟨h1,h2,_⟩ ⟨k1,k2,_⟩;obtain⟨rfl,e⟩:=Fx (h2.symm.trans k2);rw[h1]at k1;simp only[iL,AV.bV.injEq,AV.aj.injEq,true_and,and_true]at k1 e;have e1:U.length=U'.length:=by omega
 have e2:(U++X).length=(U'++X').length:=by omega
 obtain⟨e3,rfl⟩:=mr e e2;obtain⟨rfl,rfl⟩:=mr e3 e1;rfl
def PO:Ev.bp:=bR 170 (bW isX av3 cB) Ld
def srX:cq (List (Int×fO)×LI×LI×LI×LI×LI)where
 bh w A H:=A=[.aj 0 (w.2.1++w.2.2.1++w.2.2.2.1++w.2.2.2.2.1++w.2.2.2.2.2).length 1,J (w.2.1.length:Int),J ((w.2.1++w.2.2.1++w.2.2.2.1).length:Int),J (w.2.2.1.length:Int),cF]/\H=hS w.1 (w.2.1++w.2.2.1++w.2.2.2.1++w.2.2.2.2.1++w.2.2.2.2.2)/\(w.2.1++w.2.2.1++w.2.2.2.1++w.2.2.2.2.1++w.2.2.2.2.2).length<1200000/\w.2.2.1.length=w.2.2.2.2.1.length
 v w:=.aC []
 aK w:=hS w.1 (w.2.1++w.2.2.2.2.1++w.2.2.2.1++w.2.2.1++w.2.2.2.2.2)
theorem aEN:srX.ck:=by
 rintro⟨sp,U,X,V,Y,W⟩ ⟨By,U',X',V',Y',W'⟩ A H ⟨h1,h2,_,h4⟩ ⟨k1,k2,_,k4⟩;obtain⟨rfl,e⟩:=Fx (h2.symm.trans k2);rw[h1]at k1;simp only[iL,AV.bV.injEq,AV.aj.injEq,true_and,and_true]at k1 e h4 k4;have e1:U.length=U'.length:=by omega
 have e0:X.length=X'.length:=by omega
 have e2:(U++X++V).length=(U'++X'++V').length:=by omega
 have e6:(U++X++V++Y).length=(U'++X'++V'++Y').length:=by rw[cL,cL (bs:=Y'),e2,<-h4,<-k4,e0]
 obtain⟨e3,rfl⟩:=mr e e6;obtain⟨e4,rfl⟩:=mr e3 e2;have e7:(U++X).length=(U'++X').length:=by rw[cL,cL,e1,e0]
 obtain⟨e5,rfl⟩:=mr e4 e7;obtain⟨rfl,rfl⟩:=mr e5 e1;rfl
def PQ:Ev.bp:=bR 191 (bW srX aEN cB) PO
def Jl:Nat->LN:=fh [(1,[0,1,2,3,8]),(4,[0,1,2,3,8,9])]
theorem aBP{a L Q}:
 bC Z W_ (λ_=>[]) L Q 1000 110 [J a] an=(
 Q (.au (a !=a)) an):=by kernel_rfl
theorem aBa{a b L Q}:
 bC Z Xc (λ_=>[]) L Q 1000 74 [J a,J b] an=(
 (aq [] 0=an/\True)/\(aq [] 0=an/\True)/\aw (decide (a<b)) (Q (J (-1)) an) (aw (decide (a>b)) (Q (J 1) an) (Q (J 0) an))):=by kernel_rfl
theorem aA9{sp a b L Q}:
 bC Z Xd (λ_=>[]) L Q 1000 123 [J a,J b,.aa 0 0] (tI sp)=(
 ∃n aN bz gA,eZ Z 2 200 (bO vS 0 sp) (J b)=some (.ai [J n,J aN,J bz],gA)/\(∃ct dm kC Ls,eZ Z 2 200 (bO vS 0 sp) (J a)=some (.ai [J ct,J dm,J kC],Ls)/\(aq [] 0=an/\True)/\Q (J (rB bz kC)) (tI sp))):=by kernel_rfl
abbrev ac4 x0 x1 x2 x3:=bg [(0,.aj 0 x0 1),(1,J x1),(2,J x2),(3,.bn (.func 123) [] [.aa 1 0]),(8,J x3)]
abbrev Fp x0 x1:=aq [(0,bH x0 2),(1,.al [.aB 2] 193),(2,gL x1)] 3
theorem azt{sp l a b L Q}:
 bC Z Ld Jl L Q 1000 170 [.aj 0 l.length 1,J a,J b,cF] (hS sp l)=(
 L (ac4 l.length a b (wI (a+1))) (Fp l sp) (ax Z 170 0)):=by kernel_rfl
theorem amO{sp l a b i L Q}:
 cg Z Ld Jl L Q 1000 170 3 (bg [(0,.aj 0 l.length 1),(1,J a),(2,J b),(3,cF),(8,J i)]) (ax Z 170 0) (hS sp l)=(
 aw (decide (i<b)) (L (bg [(0,.aj 0 l.length 1),(1,J a),(2,J b),(3,.bn (.func 123) [] [.aa 1 0]),(8,J i),(9,J i)]) (Fp l sp) (ax Z 170 1)) (Q (.aC []) (Fp l sp))):=by kernel_rfl
theorem azr{sp l a b i j L Q}:
 cg Z Ld Jl L Q 1000 170 3 (bg [(0,.aj 0 l.length 1),(1,J a),(2,J b),(3,cF),(8,J i),(9,J j)]) (ax Z 170 1) (hS sp l)=(
 aw (decide (j>a)) (∃aJ:Nat,j=(aJ:Int)/\aJ<l.length/\(∃n,cz Z 2 (aX l) (aJ*1)=some (J n:AV)/\(∃cN:Nat,wI (j-1)=(cN:Int)/\cN<l.length/\(∃aN,cz Z 2 (aX l) (cN*1)=some (J aN:AV)/\(∃w:List (Int×fO)×Int×Int,(([J n,J aN,.aa 0 0]:LV)=[J w.2.1,J w.2.2,.aa 0 0]/\tI sp=tI w.1)/\aw (decide (rB (kS w.1 w.2.2) (kS w.1 w.2.1)<0)) (∃ew:Nat,wI (j-1)=(ew:Int)/\ew<l.length/\(∃bz,cz Z 2 (aX l) (ew*1)=some (J bz:AV)/\(∃ia:Nat,j=(ia:Int)/\ia<l.length/\(∃ct,cz Z 2 (aX l) (ia*1)=some (J ct:AV)/\(∃Bc:Nat,j=(Bc:Int)/\Bc<l.length/\Bc*1+1<=(aX l).length/\(∃Sm:Nat,wI (j-1)=(Sm:Int)/\Sm<l.length/\Sm*1+1<=(gE (aX l) (Bc*1) [J bz]).length/\L (bg [(0,.aj 0 l.length 1),(1,J a),(2,J b),(3,.bn (.func 123) [] [.aa 1 0]),(8,J i),(9,J (wI (j-1)))]) (aq [(0,.aA (gE (gE (aX l) (Bc*1) [J bz]) (Sm*1) [J ct]) 2),(1,.al [.aB 2] 193),(2,gL w.1)] 3) (ax Z 170 1))))))) (L (ac4 l.length a b (wI (i+1))) (Fp l w.1) (ax Z 170 0))))))) (L (ac4 l.length a b (wI (i+1))) (Fp l sp) (ax Z 170 0))):=by kernel_rfl
theorem aAg{sp l a b n L Q}:
 bC Z PO (λ_=>[0,1,2,3,10]) L Q 1000 191 [.aj 0 l.length 1,J a,J b,J n,cF] (hS sp l)=(
 L (bg [(0,.aj 0 l.length 1),(1,J a),(2,J b),(3,J n),(10,J 0)]) (Fp l sp) (ax Z 191 0)):=by kernel_rfl
theorem aAh{sp l a b n i L Q}:
 cg Z PO (λ_=>[0,1,2,3,10]) L Q 1000 191 3 (bg [(0,.aj 0 l.length 1),(1,J a),(2,J b),(3,J n),(10,J i)]) (ax Z 191 0) (hS sp l)=(
 aw (decide (i<n)) (∃aJ:Nat,wI (b+i)=(aJ:Int)/\aJ<l.length/\(∃aN,cz Z 2 (aX l) (aJ*1)=some (J aN:AV)/\(∃cN:Nat,wI (a+i)=(cN:Int)/\cN<l.length/\(∃bz,cz Z 2 (aX l) (cN*1)=some (J bz:AV)/\(∃ew:Nat,wI (a+i)=(ew:Int)/\ew<l.length/\ew*1+1<=(aX l).length/\(∃ia:Nat,wI (b+i)=(ia:Int)/\ia<l.length/\ia*1+1<=(gE (aX l) (ew*1) [J aN]).length/\L (bg [(0,.aj 0 l.length 1),(1,J a),(2,J b),(3,J n),(10,J (wI (i+1)))]) (aq [(0,.aA (gE (gE (aX l) (ew*1) [J aN]) (ia*1) [J bz]) 2),(1,.al [.aB 2] 193),(2,gL sp)] 3) (ax Z 191 0))))))) (Q (.aC []) (Fp l sp))):=by kernel_rfl
theorem OS{l i}(h:i<l.length):cz Z 2 (aX l) (i*1)=some (J (l.getD i 0)):=by rw[alT,aX,mu,sa,gS h];simp[List.getD,gS h]
theorem te{A B x i}(h:i=A.length):cz Z 2 (aX (A++x::B)) (i*1)=some (J x):=by subst h;rw[OS (by simp)];simp[List.getD]
theorem ayc{l i}(x)(h:i<l.length):gE (aX l) (i*1) [J x]=aX (l.set i x):=by rw[mu,TA x h]
theorem DE{A B x i}(y)(h:i=A.length):gE (aX (A++x::B)) (i*1) [J y]=aX (A++y::B):=by subst h;rw[ayc y (by simp)];simp
theorem BX{a b}:rB a b<0↔a<b:=by
 unfold rB;split
 .simp[*]
 .split<;>simp[*]
theorem afg:aS Z Xc:=by
 refine jG aff λargs q v h hq=>?_
 unfold ala at h;split at h<;>cases h;refine eE 6 aff aBP ?_;first
  |exact⟨rfl,rfl⟩
  |exact⟨by simp,rfl⟩
  |(refine aD (λh=>?_) (λh=>?_)<;>first|exact⟨rfl,rfl⟩|simp at h)
theorem afh:aS Z Xd:=by
 refine jG afg λargs q v h hq=>?_
 unfold ago at h;split at h<;>cases h;rename_i a b;refine eE 20 afg aBa ?_;refine⟨⟨rfl,trivial⟩,⟨rfl,trivial⟩,aD (λh=>?_) λh=>aD (λh2=>?_) λh2=>?_⟩
 .have h:a<b:=by simpa using h
  exact⟨by simp[rB,h],rfl⟩
 .have h:¬a<b:=by simpa using h
  have h2:a>b:=by simpa using h2
  exact⟨by simp[rB,h,h2],rfl⟩
 .have h:¬a<b:=by simpa using h
  have h2:¬a>b:=by simpa using h2
  exact⟨by simp[rB,h,h2],rfl⟩
theorem SJ(sp v):∃a b c:Int,∃d,eZ Z 2 200 (bO vS 0 sp) (J v)=some (.ai [J a,J b,J c],d)/\(lk v sp).getD ⟨0,0,0⟩=⟨a,b,c⟩:=by
 rw[pv _ jy];cases hk:lk v sp with
 |none=>exact⟨0,0,0,false,by rw[aoZ];rfl,rfl⟩
 |some s=>exact⟨s.dq,s.OW,s.last,true,rfl,rfl⟩
theorem Le:aS Z Ld:=by
 refine cu afh ?_;rintro⟨sp,a,b⟩ args H ⟨rfl,rfl⟩;refine eS afh (λ_=>[]) 15 ?_;simp only[Yf];rw[aA9];have⟨a1,b1,c1,d1,e1,f1⟩:=SJ sp b;have⟨a2,b2,c2,d2,e2,f2⟩:=SJ sp a;refine⟨a1,b1,c1,d1,e1,a2,b2,c2,d2,e2,⟨rfl,trivial⟩,?_⟩;have g1:kS sp b=c1:=by rw[kS,f1]
 have g2:kS sp a=c2:=by rw[kS,f2]
 rw[g1,g2];exact⟨rfl,rfl⟩
section
variable{sp:List (Int×fO)}
def Ou(l:LI)(a b i:Nat):Tr AV:=bg [(0,.aj 0 l.length 1),(1,J (a:Int)),(2,J (b:Int)),(3,cF),(8,J (i:Int))]
theorem azs{aI U W s x}{n b:Nat}(hn:(U++s++x::W).length<1200000)(next:∀l,l=U++cD (kS sp) (s++[x])++W->bu Z 170 53 3 (.aC []) (hS sp aI) (Ou l U.length b ((U++s).length+1)) (hS sp l) (ax Z 170 0)):
 ∀k:LI×LI,(cD (kS sp) s=k.1++k.2/\∀y∈k.2,kS sp y<kS sp x)->
 bu Z 170 53 3 (.aC []) (hS sp aI) (bg [(0,.aj 0 (U++k.1++x::(k.2++W)).length 1),(1,J (U.length:Int)),(2,J (b:Int)),(3,cF),(8,J ((U++s).length:Int)),(9,J ((U++k.1).length:Int))]) (hS sp (U++k.1++x::(k.2++W))) (ax Z 170 1):=by
 refine dF (λk=>k.1.length) _ _ _ _ ?_;rintro⟨p,q⟩ ⟨hs,hq⟩ ih;simp only at hs hq ih⊢;have bS:=rk (kS sp) s;rw[hs]at bS;simp at bS hn;have hw:wI (((U++s).length:Int)+1)=(((U++s).length+1:Nat):Int):=oF (lA _) (by simp;omega);have aK:(∀y∈p,kS sp x<=kS sp y)->bu Z 170 53 3 (.aC []) (hS sp aI) (bg [(0,.aj 0 (U++p++x::(q++W)).length 1),(1,J (U.length:Int)),(2,J (b:Int)),(3,cF),(8,J (wI (((U++s).length:Int)+1)))]) (hS sp (U++p++x::(q++W))) (ax Z 170 0):=by intro hp;rw[hw];exact next _ (by rw[anV hs hq hp];simp)
 refine hE Le azr ?_;refine aD (λh=>?_) λh=>?_
 .have h:U.length<(U++p).length:=by have:=dX h;omega
  have hp:p≠[]:=by rintro rfl;simp at h
  obtain⟨p',y,rfl⟩:∃p' y,p=p'++[y]:=⟨p.dropLast,p.getLast hp,(List.dropLast_concat_getLast hp).symm⟩;have hj:(U++(p'++[y])).length=(U++p').length+1:=by simp;omega
  have Sl:wI (((U++(p'++[y])).length:Int)-1)=(((U++p').length:Nat):Int):=by rw[hj,cH ?_ ?_]<;>simp at bS⊢<;>omega
  have e1:U++(p'++[y])++x::(q++W)=(U++p')++y::x::(q++W):=by simp
  refine⟨(U++(p'++[y])).length,rfl,by simp,x,te rfl,(U++p').length,Sl,by simp,y,by rw[e1];exact te rfl,(sp,x,y),⟨rfl,rfl⟩,aD (λhc=>?_) λhc=>?_⟩
  .have hc:=BX.1 (by simpa using hc);have e2:∀z:Int,(U++p')++y::z::(q++W)=(U++p'++[y])++z::(q++W):=by intro z;simp
   have p1:gE (aX (U++(p'++[y])++x::(q++W))) ((U++(p'++[y])).length*1) [J y]=aX ((U++p')++y::(y::(q++W))):=by rw[DE y rfl];simp
   have p2:gE (aX ((U++p')++y::(y::(q++W)))) ((U++p').length*1) [J x]=aX ((U++p')++x::(y::(q++W))):=DE x rfl;refine⟨(U++p').length,Sl,by simp,y,by rw[e1];exact te rfl,(U++(p'++[y])).length,rfl,by simp,x,te rfl,(U++(p'++[y])).length,rfl,by simp,by rw[vr];simp;omega,(U++p').length,Sl,by simp,?_,?_⟩
   .rw[p1,vr];simp;omega
   .rw[p1,p2,Sl];have:=ih (p',y::q) ⟨by rw[hs];simp,by
     intro z hz;rcases dK.1 hz with rfl|hz
     .exact hc
     .exact hq z hz⟩ (by simp)
    have el:(U++p'++x::(y::q++W)).length=(U++(p'++[y])++x::(q++W)).length:=by simp only[cL,ei,gY];omega
    rw[el]at this;exact this
  .have hc:¬kS sp y<kS sp x:=λhh=>by have:=BX.2 hh;simp at hc;omega
   refine aK λz hz=>?_
   have hd:=(wU (kS sp) s).1;rw[hs]at hd;have hd:=(yg.1 hd).1;rcases iW.1 hz with hz|hz
   .have:=(yg.1 hd).2.2 z hz y (by simp);omega
   .simp at hz;subst hz;omega
 .have h:¬U.length<(U++p).length:=by have:=eB h;omega
  have hp:p=[]:=by rw[<-sX];simp only[cL]at h;omega
  subst hp;exact aK (λz hz=>by cases hz)
theorem azq{U X W}(hn:(U++X++W).length<1200000):
 ∀k:LI×LI×LI,(k.2.2=U++cD (kS sp) k.1++(k.2.1++W)/\k.1++k.2.1=X)->
 bu Z 170 53 3 (.aC []) (hS sp (U++cD (kS sp) X++W)) (Ou k.2.2 U.length (U++X).length (U++k.1).length) (hS sp k.2.2) (ax Z 170 0):=by
 refine dF (λk=>k.2.1.length) _ _ _ _ ?_;rintro⟨s,t,l⟩ ⟨hl,hX⟩ ih;simp only at hl hX ih⊢;subst hX;refine hD Le Jl ?_;unfold Ou;rw[amO];refine aD (λh=>?_) λh=>?_
 .have h:(U++s).length<(U++(s++t)).length:=by have:=dX h;omega
  cases t with
  |nil=>simp at h
  |cons x t=>
   subst hl;have:=azs (W:=t++W) (n:=0) (by simp at hn⊢;omega)
    (by
      intro l hl;have:=ih (s++[x],t,l) ⟨by rw[hl],by simp⟩ (by simp);have e:(U++(s++[x])).length=(U++s).length+1:=by simp;omega
      rw[e]at this;exact this) (cD (kS sp) s,[]) ⟨by simp,by intro y hy;cases hy⟩
   have e:(U++cD (kS sp) s).length=(U++s).length:=by simp[rk]
   rw[e]at this;exact this
 .have h:¬(U++s).length<(U++(s++t)).length:=by have:=eB h;omega
  have ht:t=[]:=by rw[<-sX];simp only[cL]at h;omega
  subst ht;subst hl;simp;exact⟨rfl,rfl⟩
end
theorem Xe:aS Z PO:=by
 refine cu Le ?_;rintro⟨sp,U,X,W⟩ args H ⟨rfl,rfl,hn⟩;have hn:=hn;refine eS Le Jl 53 ?_;rw[azt];have hw:wI ((U.length:Int)+1)=((U.length+1:Nat):Int):=oF (lA _) (by simp at hn;omega);rw[hw];cases X with
 |nil=>
  have H0:bu Z 170 53 3 (.aC []) (hS sp (U++cD (kS sp) []++W)) (Ou (U++[]++W) U.length (U++[]).length (U.length+1)) (hS sp (U++[]++W)) (ax Z 170 0):=by
   refine hD Le Jl ?_;unfold Ou;rw[amO];refine aD (λh=>?_) λh=>⟨rfl,rfl⟩
   have:=dX h;simp at this;omega
  exact H0
 |cons x X=>
  have:=azq (sp:=sp) hn ([x],X,U++x::X++W) ⟨by simp[cD,u6],rfl⟩;have e:(U++[x]).length=U.length+1:=by simp
  rw[e]at this;exact this
theorem aAf{sp U X V Y W}(hn:(U++X++V++Y++W).length<1200000)(IL:X.length=Y.length):
 ∀k:LI×LI×LI×LI×LI,(k.1++k.2.1=X/\k.2.2.1++k.2.2.2.1=Y/\k.1.length=k.2.2.1.length/\k.2.2.2.2=U++k.2.2.1++k.2.1++V++k.1++k.2.2.2.1++W)->
 bu Z 191 38 3 (.aC []) (hS sp (U++Y++V++X++W)) (bg [(0,.aj 0 k.2.2.2.2.length 1),(1,J (U.length:Int)),(2,J ((U++X++V).length:Int)),(3,J (X.length:Int)),(10,J (k.1.length:Int))]) (hS sp k.2.2.2.2) (ax Z 191 0):=by
 refine dF (λk=>k.2.1.length) _ _ _ _ ?_;rintro⟨X1,X2,Y1,Y2,l⟩ ⟨h1,h2,h3,hl⟩ ih;simp only at h1 h2 h3 hl ih⊢;subst h1 h2;simp at IL hn;refine hE Xe aAh ?_;refine aD (λh=>?_) λh=>?_
 .have h:X1.length<(X1++X2).length:=by have:=dX h;omega
  cases X2 with
  |nil=>simp at h
  |cons x X2=>
   cases Y2 with
   |nil=>simp at IL;omega
   |cons y Y2=>
    subst hl;simp at IL hn;have hb:wI (((U++(X1++x::X2)++V).length:Int)+(X1.length:Int))=(((U++Y1++x::(X2++V++X1)).length:Nat):Int):=by rw[cH ?_ ?_]<;>(try simp)<;>omega
    have ha:wI ((U.length:Int)+(X1.length:Int))=(((U++Y1).length:Nat):Int):=by rw[cH ?_ ?_]<;>(try simp)<;>omega
    have e1:∀z:Int,U++Y1++z::X2++V++X1++y::Y2++W=(U++Y1)++z::(X2++V++X1++y::Y2++W):=by intro z;simp
    have e2:∀z u:Int,(U++Y1)++z::(X2++V++X1++u::Y2++W)=(U++Y1++z::(X2++V++X1))++u::(Y2++W):=by intro z u;simp
    have bS:∀z:Int,(U++Y1++z::(X2++V++X1)).length=(U++Y1++x::(X2++V++X1)).length:=by intro z;simp
    have fy:(U++Y1++x::X2++V++X1++y::Y2++W).length=(U++Y1++x::(X2++V++X1)).length+1+(Y2++W).length:=by simp;omega
    have hla:(U++Y1).length<(U++Y1++x::(X2++V++X1)).length:=by simp only[cL,ei];omega
    have p1:gE (aX (U++Y1++x::X2++V++X1++y::Y2++W)) ((U++Y1).length*1) [J y]=aX ((U++Y1)++y::(X2++V++X1++y::Y2++W)):=by rw[e1];exact DE y rfl
    have p2:gE (aX ((U++Y1)++y::(X2++V++X1++y::Y2++W))) ((U++Y1++x::(X2++V++X1)).length*1) [J x]=aX ((U++Y1++y::(X2++V++X1))++x::(Y2++W)):=by rw[e2];exact DE x (bS y).symm
    refine⟨(U++Y1++x::(X2++V++X1)).length,hb,by omega,y,by rw[e1,e2];exact te rfl,(U++Y1).length,ha,by omega,x,by rw[e1];exact te rfl,(U++Y1).length,ha,by omega,by rw[vr];omega,(U++Y1++x::(X2++V++X1)).length,hb,by omega,?_,?_⟩
    .rw[p1,vr];simp;omega
    .rw[p1,p2];have hw:wI ((X1.length:Int)+1)=((X1.length+1:Nat):Int):=oF (lA _) (by omega);rw[hw];have:=ih (X1++[x],X2,Y1++[y],Y2,(U++Y1++y::(X2++V++X1))++x::(Y2++W)) ⟨by simp,by simp,by simp[h3],by simp⟩ (by simp);simp only[cL,ei,gY,kD]at this⊢;have el:U.length+Y1.length+(X2.length+V.length+X1.length+1)+(Y2.length+W.length+1)=U.length+Y1.length+(X2.length+1)+V.length+X1.length+(Y2.length+1)+W.length:=by omega
     rw[el]at this;exact this
 .have h:¬X1.length<(X1++X2).length:=by have:=eB h;omega
  have e1:X2=[]:=by rw[<-sX];simp only[cL]at h;omega
  subst e1;have e2:Y2=[]:=by rw[<-sX];simp at IL;omega
  subst e2;subst hl;simp;exact⟨rfl,rfl⟩
theorem Xf:aS Z PQ:=by refine cu Xe ?_;rintro⟨sp,U,X,V,Y,W⟩ args H ⟨rfl,rfl,hn,IL⟩;refine eS Xe (λ_=>[0,1,2,3,10]) 38 ?_;rw[aAg];exact aAf hn IL ([],X,[],Y,U++X++V++Y++W) ⟨rfl,rfl,rfl,by simp⟩
def roX:cq (List (Int×fO)×LI×LI×LI×LI)where
 bh w A H:=A=[.aj 0 (w.2.1++w.2.2.1++w.2.2.2.1++w.2.2.2.2).length 1,J (w.2.1.length:Int),J ((w.2.1++w.2.2.1).length:Int),J ((w.2.1++w.2.2.1++w.2.2.2.1).length:Int),cF]/\H=hS w.1 (w.2.1++w.2.2.1++w.2.2.2.1++w.2.2.2.2)/\(w.2.1++w.2.2.1++w.2.2.2.1++w.2.2.2.2).length<1200000/\0<w.2.2.1.length/\0<w.2.2.2.1.length
 v w:=.aC []
 aK w:=hS w.1 (w.2.1++w.2.2.2.1++w.2.2.1++w.2.2.2.2)
theorem ayI:roX.ck:=by
 rintro⟨sp,U,X,Y,W⟩ ⟨By,U',X',Y',W'⟩ A H ⟨h1,h2,_⟩ ⟨k1,k2,_⟩;obtain⟨rfl,e⟩:=Fx (h2.symm.trans k2);rw[h1]at k1;simp only[iL,AV.bV.injEq,AV.aj.injEq,true_and,and_true]at k1 e;have e1:U.length=U'.length:=by omega
 have e2:(U++X).length=(U'++X').length:=by omega
 have e3:(U++X++Y).length=(U'++X'++Y').length:=by omega
 obtain⟨e4,rfl⟩:=mr e e3;obtain⟨e5,rfl⟩:=mr e4 e2;obtain⟨rfl,rfl⟩:=mr e5 e1;rfl
def Xg:Ev.bp:=bR 183 (bW roX ayI cB) PQ
abbrev ac5 x0 x1 x2 x3:=bg [(0,.aj 0 x0 1),(2,J x1),(4,.bn (.func 123) [] [.aa 1 0]),(10,J x2),(11,J x3)]
abbrev Fq x0 x1:=aq [(0,bH x0 2),(1,.al [.aB 2] 193),(2,gL x1)] 3
theorem azW{sp l a m b L Q}:
 bC Z PQ (λ_=>[0,2,4,10,11]) L Q 1000 183 [.aj 0 l.length 1,J a,J m,J b,cF] (hS sp l)=(
 L (ac5 l.length m (wI (m-a)) (wI (b-m))) (Fq l sp) (ax Z 183 0)):=by kernel_rfl
theorem azX{sp l m i j L Q}:
 cg Z PQ (λ_=>[0,2,4,10,11]) L Q 1000 183 3 (bg [(0,.aj 0 l.length 1),(2,J m),(4,cF),(10,J i),(11,J j)]) (ax Z 183 0) (hS sp l)=(
 aw (i !=j) (aw (decide (i>j)) (∃w:List (Int×fO)×LI×LI×LI×LI×LI,(([.aj 0 l.length 1,J (wI (m-i)),J m,J j,.bn (.func 123) [] [.aa 1 0]]:LV)=[.aj 0 (w.2.1++w.2.2.1++w.2.2.2.1++w.2.2.2.2.1++w.2.2.2.2.2).length 1,J ((w.2.1.length:Nat):Int),J (((w.2.1++w.2.2.1++w.2.2.2.1).length:Nat):Int),J ((w.2.2.1.length:Nat):Int),.bn (.func 123) [] [.aa 1 0]]/\Fq l sp=hS w.1 (w.2.1++w.2.2.1++w.2.2.2.1++w.2.2.2.2.1++w.2.2.2.2.2)/\(w.2.1++w.2.2.1++w.2.2.2.1++w.2.2.2.2.1++w.2.2.2.2.2).length<1200000/\w.2.2.1.length=w.2.2.2.2.1.length)/\L (ac5 l.length m (wI (i-j)) j) (Fq (w.2.1++w.2.2.2.2.1++w.2.2.2.1++w.2.2.1++w.2.2.2.2.2) w.1) (ax Z 183 0)) (∃w:List (Int×fO)×LI×LI×LI×LI×LI,(([.aj 0 l.length 1,J (wI (m-i)),J (wI (wI (m+j)-i)),J i,.bn (.func 123) [] [.aa 1 0]]:LV)=[.aj 0 (w.2.1++w.2.2.1++w.2.2.2.1++w.2.2.2.2.1++w.2.2.2.2.2).length 1,J ((w.2.1.length:Nat):Int),J (((w.2.1++w.2.2.1++w.2.2.2.1).length:Nat):Int),J ((w.2.2.1.length:Nat):Int),.bn (.func 123) [] [.aa 1 0]]/\Fq l sp=hS w.1 (w.2.1++w.2.2.1++w.2.2.2.1++w.2.2.2.2.1++w.2.2.2.2.2)/\(w.2.1++w.2.2.1++w.2.2.2.1++w.2.2.2.2.1++w.2.2.2.2.2).length<1200000/\w.2.2.1.length=w.2.2.2.2.1.length)/\L (ac5 l.length m i (wI (j-i))) (Fq (w.2.1++w.2.2.2.2.1++w.2.2.2.1++w.2.2.1++w.2.2.2.2.2) w.1) (ax Z 183 0))) (∃w:List (Int×fO)×LI×LI×LI×LI×LI,(([.aj 0 l.length 1,J (wI (m-i)),J m,J i,.bn (.func 123) [] [.aa 1 0]]:LV)=[.aj 0 (w.2.1++w.2.2.1++w.2.2.2.1++w.2.2.2.2.1++w.2.2.2.2.2).length 1,J ((w.2.1.length:Nat):Int),J (((w.2.1++w.2.2.1++w.2.2.2.1).length:Nat):Int),J ((w.2.2.1.length:Nat):Int),.bn (.func 123) [] [.aa 1 0]]/\Fq l sp=hS w.1 (w.2.1++w.2.2.1++w.2.2.2.1++w.2.2.2.2.1++w.2.2.2.2.2)/\(w.2.1++w.2.2.1++w.2.2.2.1++w.2.2.2.2.1++w.2.2.2.2.2).length<1200000/\w.2.2.1.length=w.2.2.2.2.1.length)/\Q (.aC []) (Fq (w.2.1++w.2.2.2.2.1++w.2.2.2.1++w.2.2.1++w.2.2.2.2.2) w.1))):=by kernel_rfl
theorem XA{l:LI}{n}(h:n<=l.length):∃a b,l=a++b/\a.length=n:=⟨l.take n,l.drop n,(wH n l).symm,by simp;omega⟩
theorem azV{sp aI m len}(bS:len<1200000):
 ∀k:LI×LI×LI×LI×LI,(k.2.2.2.2=k.1++k.2.1++k.2.2.1++k.2.2.2.1/\k.1++k.2.2.1++k.2.1++k.2.2.2.1=aI/\(k.1++k.2.1).length=m/\0<k.2.1.length/\0<k.2.2.1.length/\k.2.2.2.2.length=len)->
 bu Z 183 58 3 (.aC []) (hS sp aI) (bg [(0,.aj 0 len 1),(2,J (m:Int)),(4,cF),(10,J (k.2.1.length:Int)),(11,J (k.2.2.1.length:Int))]) (hS sp k.2.2.2.2) (ax Z 183 0):=by
 refine dF (λk=>k.2.1.length+k.2.2.1.length) _ _ _ _ ?_;rintro⟨U,X,Y,W,l⟩ ⟨hl,hf,hm,hX,hY,fy⟩ ih;simp only at hl hf hm hX hY fy ih⊢;have hn:U.length+X.length+Y.length+W.length=len:=by rw[<-fy,hl];simp only[cL]
 simp only[cL]at hm;rw[<-fy];refine hD Xf (λ_=>[0,2,4,10,11]) ?_;rw[azX];have ha:wI ((m:Int)-(X.length:Int))=(U.length:Int):=by rw[cH]<;>omega
 refine aD (λh=>aD (λh2=>?_) λh2=>?_) λh=>?_
 .have h2:Y.length<X.length:=by have:=dX h2;omega
  obtain⟨Xa,Xb,rfl,ZV⟩:=XA (l:=X) (n:=Y.length) (by omega);simp only[cL]at hm hX hn h2 ha;have hi:wI (((Xa++Xb).length:Int)-(Y.length:Int))=(Xb.length:Int):=by rw[cH ?_ ?_]<;>(try simp only[cL])<;>omega
  refine⟨(sp,U,Xa,Xb,Y,W),⟨?_,?_,?_,ZV⟩,?_⟩
  .simp only[cL]at ha⊢;rw[ha,hl];simp only[cL,ZV];congr 1
   .congr 1;omega
   .congr 2;congr 2;omega
  .have e:l=U++Xa++Xb++Y++W:=by rw[hl];simp
   simp only;rw[<-e];rfl
  .simp only[cL];omega
  .rw[hi];have:=ih (U++Y,Xb,Xa,W,U++Y++Xb++Xa++W) ⟨rfl,by rw[<-hf];simp,by simp only[cL];omega,by simp only;omega,by simp only;omega,by simp only[cL];omega⟩ (by simp only[cL];omega);simp only[ZV]at this;rw[fy];exact this
 .have h2:¬Y.length<X.length:=by have:=eB h2;omega
  have h:X.length≠Y.length:=by intro he;rw[he]at h;simp at h
  obtain⟨Ya,Yb,rfl,hYa⟩:=XA (l:=Y) (n:=Y.length-X.length) (by omega);simp only[cL]at hm hY hn h2 h hYa;have hi:wI (((Ya++Yb).length:Int)-(X.length:Int))=(Ya.length:Int):=by rw[cH ?_ ?_]<;>(try simp only[cL])<;>omega
  have hb:wI (wI ((m:Int)+((Ya++Yb).length:Int))-(X.length:Int))=(((U++X++Ya).length:Nat):Int):=by rw[cH (x:=(m:Int)+((Ya++Yb).length:Int)) ?_ ?_,cH ?_ ?_]<;>(try simp only[cL])<;>omega
  refine⟨(sp,U,X,Ya,Yb,W),⟨?_,?_,?_,?_⟩,?_⟩
  .rw[ha,hb,hl];simp only[km]
  .have e:l=U++X++Ya++Yb++W:=by rw[hl];simp
   simp only;rw[<-e];rfl
  .simp only[cL];omega
  .simp only;omega
  .rw[hi];have:=ih (U,Yb,Ya,X++W,U++Yb++Ya++X++W) ⟨by simp,by rw[<-hf];simp,by simp only[cL];omega,by simp only;omega,by simp only;omega,by simp;omega⟩ (by simp;omega);have e:X.length=Yb.length:=by omega
   rw[fy,e];exact this
 .have h:X.length=Y.length:=by
   have h:(X.length:Int)=(Y.length:Int):=by simpa using h
   omega
  refine⟨(sp,U,X,[],Y,W),⟨?_,?_,?_,h⟩,?_⟩
  .rw[ha,hl];simp;congr 3;congr 1;omega
  .have e:l=U++X++[]++Y++W:=by rw[hl];simp
   rw[<-e];rfl
  .simp;omega
  .simp only[jH];rw[hf];exact⟨rfl,rfl⟩
theorem afi:aS Z Xg:=by
 refine cu Xf ?_;rintro⟨sp,U,X,Y,W⟩ args H ⟨rfl,rfl,hn,hX,hY⟩;have hn:=hn;refine eS Xf (λ_=>[0,2,4,10,11]) 58 ?_;rw[azW];have h1:wI (((U++X).length:Int)-(U.length:Int))=(X.length:Int):=by simp at hn⊢;rw[cH]<;>omega
 have h2:wI (((U++X++Y).length:Int)-((U++X).length:Int))=(Y.length:Int):=by simp at hn⊢;rw[cH]<;>omega
 rw[h1,h2];exact azV hn (U,X,Y,W,U++X++Y++W) ⟨rfl,rfl,rfl,hX,hY,rfl⟩
end
end Go.Cl
namespace Go.Cl
open Go.Ev
noncomputable section
theorem B0{key l}(h:dR key l){i j}(MI:i<=j)(hj:j<l.length):key (l.getD j 0)<=key (l.getD i 0):=by
 have hi:i<l.length:=by omega
 simp only[List.getD,gS hj,gS hi,TH];rcases Nat.eq_or_lt_of_le MI with rfl|ay
 .exact DH _
 .exact List.pairwise_iff_getElem.1 h i j hi hj ay
theorem Rl{A B:LI}{i}(h:i<A.length):(A++B).getD i 0=A.getD i 0:=by simp[List.getD,List.getElem?_append_left h]
theorem Rm{A B:LI}{i}:(A++B).getD (A.length+i) 0=B.getD i 0:=by simp;rw[JN (by omega)];congr 2;omega
theorem Dr{l:LI}{x}(h:x∈l):∃i,i<l.length/\x=l.getD i 0:=by obtain⟨i,hi,rfl⟩:=List.mem_iff_getElem.1 h;exact⟨i,hi,by simp[List.getD,gS hi]⟩
theorem Qv{key A B}(h:dR key (A++B)):dR key A/\dR key B:=⟨(yg.1 h).1,(yg.1 h).2.1⟩
theorem aw1{key X Y}(hX:dR key X)(hY:dR key Y){i j}(hi:i<=X.length)(hj:j<=Y.length)(ou:i=0\/j=Y.length\/¬key (X.getD (i-1) 0)<key (Y.getD j 0))(qf:i=X.length\/j=0\/key (X.getD i 0)<key (Y.getD (j-1) 0)):
 ∃A B C D,X=A++B/\Y=C++D/\A.length=i/\C.length=j/\cD key (X++Y)=cD key (A++C)++cD key (B++D)/\dR key A/\dR key B/\dR key C/\dR key D:=by
 refine⟨X.take i,X.drop i,Y.take j,Y.drop j,(wH i X).symm,(wH j Y).symm,by simp;omega,by simp;omega,?_⟩;have eX:=wH i X;have eY:=wH j Y;have ZU:dR key (X.take i++X.drop i):=by rw[eX];exact hX
 have ZW:dR key (Y.take j++Y.drop j):=by rw[eY];exact hY
 refine⟨?_,(Qv ZU).1,(Qv ZU).2,(Qv ZW).1,(Qv ZW).2⟩;have:=aER ZU ZW ?_ ?_
 .rw[eX,eY]at this;exact this
 .intro x hx y hy;obtain⟨a,ha,rfl⟩:=Dr hx;obtain⟨b,hb,rfl⟩:=Dr hy;simp at ha;simp at hb;have e1:(X.drop i).getD a 0=X.getD (i+a) 0:=by simp[List.getD]
  have e2:(Y.take j).getD b 0=Y.getD b 0:=by simp only[List.getD,JS,aL (show b<j by omega)]
  rw[e1,e2];rcases qf with h|h|h
  .omega
  .omega
  .have h1:=B0 hX (i:=i) (j:=i+a) (by omega) (by omega);have h2:=B0 hY (i:=b) (j:=j-1) (by omega) (by omega);omega
 .intro x hx y hy;obtain⟨a,ha,rfl⟩:=Dr hx;obtain⟨b,hb,rfl⟩:=Dr hy;simp at ha;simp at hb;have e1:(X.take i).getD a 0=X.getD a 0:=by simp only[List.getD,JS,aL (show a<i by omega)]
  have e2:(Y.drop j).getD b 0=Y.getD (j+b) 0:=by simp[List.getD]
  rw[e1,e2];rcases ou with h|h|h
  .omega
  .omega
  .have h1:=B0 hX (i:=a) (j:=i-1) (by omega) (by omega);have h2:=B0 hY (i:=j) (j:=j+b) (by omega) (by omega);omega
theorem arP{key x Y}(hY:dR key Y){j}(hj:j<=Y.length)(ou:j=0\/key x<key (Y.getD (j-1) 0))(qf:j=Y.length\/¬key x<key (Y.getD j 0)):
 ∃P R,Y=P++R/\P.length=j/\cD key (x::Y)=P++x::R:=by
 have eY:=wH j Y;refine⟨Y.take j,Y.drop j,eY.symm,by simp;omega,?_⟩;have:=aEQ (x:=x) (by rw[eY];exact hY) ?_ ?_
 .rw[eY]at this;exact this
 .intro y hy;obtain⟨b,hb,rfl⟩:=Dr hy;simp at hb;have e2:(Y.take j).getD b 0=Y.getD b 0:=by simp only[List.getD,JS,aL (show b<j by omega)]
  rw[e2];rcases ou with h|h
  .omega
  .have h2:=B0 hY (i:=b) (j:=j-1) (by omega) (by omega);omega
 .intro y hy;obtain⟨b,hb,rfl⟩:=Dr hy;simp at hb;have e2:(Y.drop j).getD b 0=Y.getD (j+b) 0:=by simp[List.getD]
  rw[e2];rcases qf with h|h
  .omega
  .have h2:=B0 hY (i:=j) (j:=j+b) (by omega) (by omega);omega
theorem arQ{key y X}(hX:dR key X){i}(hi:i<=X.length)(ou:i=0\/¬key (X.getD (i-1) 0)<key y)(qf:i=X.length\/key (X.getD i 0)<key y):
 ∃P R,X=P++R/\P.length=i/\cD key (X++[y])=P++y::R:=by
 have eX:=wH i X;refine⟨X.take i,X.drop i,eX.symm,by simp;omega,?_⟩;refine anV (by rw[Om hX,eX]) ?_ ?_
 .intro x hx;obtain⟨a,ha,rfl⟩:=Dr hx;simp at ha;have e1:(X.drop i).getD a 0=X.getD (i+a) 0:=by simp[List.getD]
  rw[e1];rcases qf with h|h
  .omega
  .have h1:=B0 hX (i:=i) (j:=i+a) (by omega) (by omega);omega
 .intro x hx;obtain⟨a,ha,rfl⟩:=Dr hx;simp at ha;have e1:(X.take i).getD a 0=X.getD a 0:=by simp only[List.getD,JS,aL (show a<i by omega)]
  rw[e1];rcases ou with h|h
  .omega
  .have h1:=B0 hX (i:=a) (j:=i-1) (by omega) (by omega);omega
end
end Go.Cl
namespace Go.Cl
open Go.Ev Go.Proofs
noncomputable section
def Ot(N:Nat):cq (List (Int×fO)×LI×LI×LI×LI)where
 bh w A H:=A=[.aj 0 (w.2.1++w.2.2.1++w.2.2.2.1++w.2.2.2.2).length 1,J (w.2.1.length:Int),J ((w.2.1++w.2.2.1).length:Int),J ((w.2.1++w.2.2.1++w.2.2.2.1).length:Int),cF]/\H=hS w.1 (w.2.1++w.2.2.1++w.2.2.2.1++w.2.2.2.2)/\(w.2.1++w.2.2.1++w.2.2.2.1++w.2.2.2.2).length<1200000/\0<w.2.2.1.length/\0<w.2.2.2.1.length/\
  dR (kS w.1) w.2.2.1/\dR (kS w.1) w.2.2.2.1/\w.2.2.1.length+w.2.2.2.1.length<N
 v w:=.aC []
 aK w:=hS w.1 (w.2.1++cD (kS w.1) (w.2.2.1++w.2.2.2.1)++w.2.2.2.2)
theorem aFf(N):(Ot N).ck:=by
 rintro⟨sp,U,X,Y,W⟩ ⟨By,U',X',Y',W'⟩ A H ⟨h1,h2,_⟩ ⟨k1,k2,_⟩;obtain⟨rfl,e⟩:=Fx (h2.symm.trans k2);rw[h1]at k1;simp only[iL,AV.bV.injEq,AV.aj.injEq,true_and,and_true]at k1 e;have e1:U.length=U'.length:=by omega
 have e2:(U++X).length=(U'++X').length:=by omega
 have e3:(U++X++Y).length=(U'++X'++Y').length:=by omega
 obtain⟨e4,rfl⟩:=mr e e3;obtain⟨e5,rfl⟩:=mr e4 e2;obtain⟨rfl,rfl⟩:=mr e5 e1;rfl
def uE(N:Nat):Ev.bp:=bR 171 (bW (Ot N) (aFf N) cB) Xg
def F6:Nat->LN:=fh [(3,[0,1,4,10,11]),(9,[0,10,13]),(15,[0,2,4,14,15]),(21,[0,14,17]),(33,[0,1,2,3,4,18,19,20,21,22])]
abbrev ac6 x0 x1 x2 x3:=bg [(0,.aj 0 x0 1),(1,J x1),(4,.bn (.func 123) [] [.aa 1 0]),(10,J x2),(11,J x3)]
abbrev ac7 x0 x1 x2 x3:=bg [(0,.aj 0 x0 1),(2,J x1),(4,.bn (.func 123) [] [.aa 1 0]),(14,J x2),(15,J x3)]
abbrev Uq x0 x1 x2 x3 x4 x5 x6 x7 x8:=bg [(0,.aj 0 x0 1),(1,J x1),(2,J x2),(3,J x3),(4,.bn (.func 123) [] [.aa 1 0]),(18,J x4),(19,J x5),(20,J x6),(21,J x7),(22,J x8)]
abbrev fD x0 x1:=aq [(0,bH x0 2),(1,.al [.aB 2] 193),(2,gL x1)] 3
theorem azD{sp l a m b N L Q}:
 bC Z (uE N) F6 L Q 2000 171 [.aj 0 l.length 1,J a,J m,J b,cF] (hS sp l)=(
 aw (wI (m-a)==1) (L (ac6 l.length a m b) (fD l sp) (ax Z 171 0)) (aw (wI (b-m)==1) (L (ac7 l.length m a m) (fD l sp) (ax Z 171 2)) (aw (decide (m>wI (Int.fdiv (IntKind.u64.wrap (wI (a+b))) 2))) (L (Uq l.length a m b (wI (Int.fdiv (IntKind.u64.wrap (wI (a+b))) 2)) (wI (wI (Int.fdiv (IntKind.u64.wrap (wI (a+b))) 2)+m)) (wI (wI (wI (Int.fdiv (IntKind.u64.wrap (wI (a+b))) 2)+m)-b)) (wI (Int.fdiv (IntKind.u64.wrap (wI (a+b))) 2)) (wI (wI (wI (Int.fdiv (IntKind.u64.wrap (wI (a+b))) 2)+m)-1))) (fD l sp) (ax Z 171 4)) (L (Uq l.length a m b (wI (Int.fdiv (IntKind.u64.wrap (wI (a+b))) 2)) (wI (wI (Int.fdiv (IntKind.u64.wrap (wI (a+b))) 2)+m)) a m (wI (wI (wI (Int.fdiv (IntKind.u64.wrap (wI (a+b))) 2)+m)-1))) (fD l sp) (ax Z 171 4))))):=by kernel_rfl
theorem azu{sp l a i j N L Q}:
 cg Z (uE N) F6 L Q 2000 171 3 (bg [(0,.aj 0 l.length 1),(1,J a),(4,cF),(10,J i),(11,J j)]) (ax Z 171 0) (hS sp l)=(
 aw (decide (i<j)) (∃aJ:Nat,wI (Int.fdiv (IntKind.u64.wrap (wI (i+j))) 2)=(aJ:Int)/\aJ<l.length/\(∃n,cz Z 2 (aX l) (aJ*1)=some (J n:AV)/\(∃cN:Nat,a=(cN:Int)/\cN<l.length/\(∃aN,cz Z 2 (aX l) (cN*1)=some (J aN:AV)/\(∃w:List (Int×fO)×Int×Int,(([J n,J aN,.aa 0 0]:LV)=[J w.2.1,J w.2.2,.aa 0 0]/\tI sp=tI w.1)/\aw (decide (rB (kS w.1 w.2.2) (kS w.1 w.2.1)<0)) (L (ac6 l.length a (wI (wI (Int.fdiv (IntKind.u64.wrap (wI (i+j))) 2)+1)) j) (fD l w.1) (ax Z 171 0)) (L (ac6 l.length a i (wI (Int.fdiv (IntKind.u64.wrap (wI (i+j))) 2))) (fD l w.1) (ax Z 171 0))))))) (L (bg [(0,.aj 0 l.length 1),(10,J i),(13,J a)]) (fD l sp) (ax Z 171 1))):=by kernel_rfl
theorem azw{sp l i k N L Q}:
 cg Z (uE N) F6 L Q 2000 171 3 (bg [(0,.aj 0 l.length 1),(10,J i),(13,J k)]) (ax Z 171 1) (hS sp l)=(
 aw (decide (k<wI (i-1))) (∃aJ:Nat,wI (k+1)=(aJ:Int)/\aJ<l.length/\(∃n,cz Z 2 (aX l) (aJ*1)=some (J n:AV)/\(∃cN:Nat,k=(cN:Int)/\cN<l.length/\(∃aN,cz Z 2 (aX l) (cN*1)=some (J aN:AV)/\(∃ew:Nat,k=(ew:Int)/\ew<l.length/\ew*1+1<=(aX l).length/\(∃ia:Nat,wI (k+1)=(ia:Int)/\ia<l.length/\ia*1+1<=(gE (aX l) (ew*1) [J n]).length/\L (bg [(0,.aj 0 l.length 1),(10,J i),(13,J (wI (k+1)))]) (aq [(0,.aA (gE (gE (aX l) (ew*1) [J n]) (ia*1) [J aN]) 2),(1,.al [.aB 2] 193),(2,gL sp)] 3) (ax Z 171 1))))))) (Q (.aC []) (fD l sp))):=by kernel_rfl
theorem azy{sp l m i j N L Q}:
 cg Z (uE N) F6 L Q 2000 171 3 (bg [(0,.aj 0 l.length 1),(2,J m),(4,cF),(14,J i),(15,J j)]) (ax Z 171 2) (hS sp l)=(
 aw (decide (i<j)) (∃aJ:Nat,m=(aJ:Int)/\aJ<l.length/\(∃n,cz Z 2 (aX l) (aJ*1)=some (J n:AV)/\(∃cN:Nat,wI (Int.fdiv (IntKind.u64.wrap (wI (i+j))) 2)=(cN:Int)/\cN<l.length/\(∃aN,cz Z 2 (aX l) (cN*1)=some (J aN:AV)/\(∃w:List (Int×fO)×Int×Int,(([J n,J aN,.aa 0 0]:LV)=[J w.2.1,J w.2.2,.aa 0 0]/\tI sp=tI w.1)/\aw (!decide (rB (kS w.1 w.2.2) (kS w.1 w.2.1)<0)) (L (ac7 l.length m (wI (wI (Int.fdiv (IntKind.u64.wrap (wI (i+j))) 2)+1)) j) (fD l w.1) (ax Z 171 2)) (L (ac7 l.length m i (wI (Int.fdiv (IntKind.u64.wrap (wI (i+j))) 2))) (fD l w.1) (ax Z 171 2))))))) (L (bg [(0,.aj 0 l.length 1),(14,J i),(17,J m)]) (fD l sp) (ax Z 171 3))):=by kernel_rfl
theorem azA{sp l i k N L Q}:
 cg Z (uE N) F6 L Q 2000 171 3 (bg [(0,.aj 0 l.length 1),(14,J i),(17,J k)]) (ax Z 171 3) (hS sp l)=(
 aw (decide (k>i)) (∃aJ:Nat,wI (k-1)=(aJ:Int)/\aJ<l.length/\(∃n,cz Z 2 (aX l) (aJ*1)=some (J n:AV)/\(∃cN:Nat,k=(cN:Int)/\cN<l.length/\(∃aN,cz Z 2 (aX l) (cN*1)=some (J aN:AV)/\(∃ew:Nat,k=(ew:Int)/\ew<l.length/\ew*1+1<=(aX l).length/\(∃ia:Nat,wI (k-1)=(ia:Int)/\ia<l.length/\ia*1+1<=(gE (aX l) (ew*1) [J n]).length/\L (bg [(0,.aj 0 l.length 1),(14,J i),(17,J (wI (k-1)))]) (aq [(0,.aA (gE (gE (aX l) (ew*1) [J n]) (ia*1) [J aN]) 2),(1,.al [.aB 2] 193),(2,gL sp)] 3) (ax Z 171 3))))))) (Q (.aC []) (fD l sp))):=by kernel_rfl
theorem azC{sp l a m b e9 n s r p N L Q}:
 cg Z (uE N) F6 L Q 2000 171 3 (bg [(0,.aj 0 l.length 1),(1,J a),(2,J m),(3,J b),(4,cF),(18,J e9),(19,J n),(20,J s),(21,J r),(22,J p)]) (ax Z 171 4) (hS sp l)=(
 aw (decide (s<r)) (∃i:Nat,wI (p-wI (Int.fdiv (IntKind.u64.wrap (wI (s+r))) 2))=(i:Int)/\i<l.length/\(∃aN,cz Z 2 (aX l) (i*1)=some (J aN:AV)/\(∃aJ:Nat,wI (Int.fdiv (IntKind.u64.wrap (wI (s+r))) 2)=(aJ:Int)/\aJ<l.length/\(∃bz,cz Z 2 (aX l) (aJ*1)=some (J bz:AV)/\(∃w:List (Int×fO)×Int×Int,(([J aN,J bz,.aa 0 0]:LV)=[J w.2.1,J w.2.2,.aa 0 0]/\tI sp=tI w.1)/\aw (!decide (rB (kS w.1 w.2.2) (kS w.1 w.2.1)<0)) (L (Uq l.length a m b e9 n (wI (wI (Int.fdiv (IntKind.u64.wrap (wI (s+r))) 2)+1)) r p) (fD l w.1) (ax Z 171 4)) (L (Uq l.length a m b e9 n s (wI (Int.fdiv (IntKind.u64.wrap (wI (s+r))) 2)) p) (fD l w.1) (ax Z 171 4))))))) (aw (decide (s<m)) (aw (decide (m<wI (n-s))) (∃w:List (Int×fO)×LI×LI×LI×LI,(([.aj 0 l.length 1,J s,J m,J (wI (n-s)),.bn (.func 123) [] [.aa 1 0]]:LV)=[.aj 0 (w.2.1++w.2.2.1++w.2.2.2.1++w.2.2.2.2).length 1,J ((w.2.1.length:Nat):Int),J (((w.2.1++w.2.2.1).length:Nat):Int),J (((w.2.1++w.2.2.1++w.2.2.2.1).length:Nat):Int),.bn (.func 123) [] [.aa 1 0]]/\fD l sp=hS w.1 (w.2.1++w.2.2.1++w.2.2.2.1++w.2.2.2.2)/\(w.2.1++w.2.2.1++w.2.2.2.1++w.2.2.2.2).length<1200000/\0<w.2.2.1.length/\0<w.2.2.2.1.length)/\aw (decide (a<s)) (aw (decide (s<e9)) (∃ae:List (Int×fO)×LI×LI×LI×LI,(([.aj 0 l.length 1,J a,J s,J e9,.bn (.func 123) [] [.aa 1 0]]:LV)=[.aj 0 (ae.2.1++ae.2.2.1++ae.2.2.2.1++ae.2.2.2.2).length 1,J ((ae.2.1.length:Nat):Int),J (((ae.2.1++ae.2.2.1).length:Nat):Int),J (((ae.2.1++ae.2.2.1++ae.2.2.2.1).length:Nat):Int),.bn (.func 123) [] [.aa 1 0]]/\fD (w.2.1++w.2.2.2.1++w.2.2.1++w.2.2.2.2) w.1=hS ae.1 (ae.2.1++ae.2.2.1++ae.2.2.2.1++ae.2.2.2.2)/\(ae.2.1++ae.2.2.1++ae.2.2.2.1++ae.2.2.2.2).length<1200000/\0<ae.2.2.1.length/\0<ae.2.2.2.1.length/\dR (kS ae.1) ae.2.2.1/\dR (kS ae.1) ae.2.2.2.1/\ae.2.2.1.length+ae.2.2.2.1.length<N)/\aw (decide (e9<wI (n-s))) (aw (decide (wI (n-s)<b)) (∃aE:List (Int×fO)×LI×LI×LI×LI,(([.aj 0 l.length 1,J e9,J (wI (n-s)),J b,.bn (.func 123) [] [.aa 1 0]]:LV)=[.aj 0 (aE.2.1++aE.2.2.1++aE.2.2.2.1++aE.2.2.2.2).length 1,J ((aE.2.1.length:Nat):Int),J (((aE.2.1++aE.2.2.1).length:Nat):Int),J (((aE.2.1++aE.2.2.1++aE.2.2.2.1).length:Nat):Int),.bn (.func 123) [] [.aa 1 0]]/\fD (ae.2.1++cD (kS ae.1) (ae.2.2.1++ae.2.2.2.1)++ae.2.2.2.2) ae.1=hS aE.1 (aE.2.1++aE.2.2.1++aE.2.2.2.1++aE.2.2.2.2)/\(aE.2.1++aE.2.2.1++aE.2.2.2.1++aE.2.2.2.2).length<1200000/\0<aE.2.2.1.length/\0<aE.2.2.2.1.length/\dR (kS aE.1) aE.2.2.1/\dR (kS aE.1) aE.2.2.2.1/\aE.2.2.1.length+aE.2.2.2.1.length<N)/\Q (.aC []) (fD (aE.2.1++cD (kS aE.1) (aE.2.2.1++aE.2.2.2.1)++aE.2.2.2.2) aE.1)) (Q (.aC []) (fD (ae.2.1++cD (kS ae.1) (ae.2.2.1++ae.2.2.2.1)++ae.2.2.2.2) ae.1))) (Q (.aC []) (fD (ae.2.1++cD (kS ae.1) (ae.2.2.1++ae.2.2.2.1)++ae.2.2.2.2) ae.1))) (aw (decide (e9<wI (n-s))) (aw (decide (wI (n-s)<b)) (∃ae:List (Int×fO)×LI×LI×LI×LI,(([.aj 0 l.length 1,J e9,J (wI (n-s)),J b,.bn (.func 123) [] [.aa 1 0]]:LV)=[.aj 0 (ae.2.1++ae.2.2.1++ae.2.2.2.1++ae.2.2.2.2).length 1,J ((ae.2.1.length:Nat):Int),J (((ae.2.1++ae.2.2.1).length:Nat):Int),J (((ae.2.1++ae.2.2.1++ae.2.2.2.1).length:Nat):Int),.bn (.func 123) [] [.aa 1 0]]/\fD (w.2.1++w.2.2.2.1++w.2.2.1++w.2.2.2.2) w.1=hS ae.1 (ae.2.1++ae.2.2.1++ae.2.2.2.1++ae.2.2.2.2)/\(ae.2.1++ae.2.2.1++ae.2.2.2.1++ae.2.2.2.2).length<1200000/\0<ae.2.2.1.length/\0<ae.2.2.2.1.length/\dR (kS ae.1) ae.2.2.1/\dR (kS ae.1) ae.2.2.2.1/\ae.2.2.1.length+ae.2.2.2.1.length<N)/\Q (.aC []) (fD (ae.2.1++cD (kS ae.1) (ae.2.2.1++ae.2.2.2.1)++ae.2.2.2.2) ae.1)) (Q (.aC []) (fD (w.2.1++w.2.2.2.1++w.2.2.1++w.2.2.2.2) w.1))) (Q (.aC []) (fD (w.2.1++w.2.2.2.1++w.2.2.1++w.2.2.2.2) w.1)))) (aw (decide (e9<wI (n-s))) (aw (decide (wI (n-s)<b)) (∃ae:List (Int×fO)×LI×LI×LI×LI,(([.aj 0 l.length 1,J e9,J (wI (n-s)),J b,.bn (.func 123) [] [.aa 1 0]]:LV)=[.aj 0 (ae.2.1++ae.2.2.1++ae.2.2.2.1++ae.2.2.2.2).length 1,J ((ae.2.1.length:Nat):Int),J (((ae.2.1++ae.2.2.1).length:Nat):Int),J (((ae.2.1++ae.2.2.1++ae.2.2.2.1).length:Nat):Int),.bn (.func 123) [] [.aa 1 0]]/\fD (w.2.1++w.2.2.2.1++w.2.2.1++w.2.2.2.2) w.1=hS ae.1 (ae.2.1++ae.2.2.1++ae.2.2.2.1++ae.2.2.2.2)/\(ae.2.1++ae.2.2.1++ae.2.2.2.1++ae.2.2.2.2).length<1200000/\0<ae.2.2.1.length/\0<ae.2.2.2.1.length/\dR (kS ae.1) ae.2.2.1/\dR (kS ae.1) ae.2.2.2.1/\ae.2.2.1.length+ae.2.2.2.1.length<N)/\Q (.aC []) (fD (ae.2.1++cD (kS ae.1) (ae.2.2.1++ae.2.2.2.1)++ae.2.2.2.2) ae.1)) (Q (.aC []) (fD (w.2.1++w.2.2.2.1++w.2.2.1++w.2.2.2.2) w.1))) (Q (.aC []) (fD (w.2.1++w.2.2.2.1++w.2.2.1++w.2.2.2.2) w.1)))) (aw (decide (a<s)) (aw (decide (s<e9)) (∃w:List (Int×fO)×LI×LI×LI×LI,(([.aj 0 l.length 1,J a,J s,J e9,.bn (.func 123) [] [.aa 1 0]]:LV)=[.aj 0 (w.2.1++w.2.2.1++w.2.2.2.1++w.2.2.2.2).length 1,J ((w.2.1.length:Nat):Int),J (((w.2.1++w.2.2.1).length:Nat):Int),J (((w.2.1++w.2.2.1++w.2.2.2.1).length:Nat):Int),.bn (.func 123) [] [.aa 1 0]]/\fD l sp=hS w.1 (w.2.1++w.2.2.1++w.2.2.2.1++w.2.2.2.2)/\(w.2.1++w.2.2.1++w.2.2.2.1++w.2.2.2.2).length<1200000/\0<w.2.2.1.length/\0<w.2.2.2.1.length/\dR (kS w.1) w.2.2.1/\dR (kS w.1) w.2.2.2.1/\w.2.2.1.length+w.2.2.2.1.length<N)/\aw (decide (e9<wI (n-s))) (aw (decide (wI (n-s)<b)) (∃ae:List (Int×fO)×LI×LI×LI×LI,(([.aj 0 l.length 1,J e9,J (wI (n-s)),J b,.bn (.func 123) [] [.aa 1 0]]:LV)=[.aj 0 (ae.2.1++ae.2.2.1++ae.2.2.2.1++ae.2.2.2.2).length 1,J ((ae.2.1.length:Nat):Int),J (((ae.2.1++ae.2.2.1).length:Nat):Int),J (((ae.2.1++ae.2.2.1++ae.2.2.2.1).length:Nat):Int),.bn (.func 123) [] [.aa 1 0]]/\fD (w.2.1++cD (kS w.1) (w.2.2.1++w.2.2.2.1)++w.2.2.2.2) w.1=hS ae.1 (ae.2.1++ae.2.2.1++ae.2.2.2.1++ae.2.2.2.2)/\(ae.2.1++ae.2.2.1++ae.2.2.2.1++ae.2.2.2.2).length<1200000/\0<ae.2.2.1.length/\0<ae.2.2.2.1.length/\dR (kS ae.1) ae.2.2.1/\dR (kS ae.1) ae.2.2.2.1/\ae.2.2.1.length+ae.2.2.2.1.length<N)/\Q (.aC []) (fD (ae.2.1++cD (kS ae.1) (ae.2.2.1++ae.2.2.2.1)++ae.2.2.2.2) ae.1)) (Q (.aC []) (fD (w.2.1++cD (kS w.1) (w.2.2.1++w.2.2.2.1)++w.2.2.2.2) w.1))) (Q (.aC []) (fD (w.2.1++cD (kS w.1) (w.2.2.1++w.2.2.2.1)++w.2.2.2.2) w.1))) (aw (decide (e9<wI (n-s))) (aw (decide (wI (n-s)<b)) (∃w:List (Int×fO)×LI×LI×LI×LI,(([.aj 0 l.length 1,J e9,J (wI (n-s)),J b,.bn (.func 123) [] [.aa 1 0]]:LV)=[.aj 0 (w.2.1++w.2.2.1++w.2.2.2.1++w.2.2.2.2).length 1,J ((w.2.1.length:Nat):Int),J (((w.2.1++w.2.2.1).length:Nat):Int),J (((w.2.1++w.2.2.1++w.2.2.2.1).length:Nat):Int),.bn (.func 123) [] [.aa 1 0]]/\fD l sp=hS w.1 (w.2.1++w.2.2.1++w.2.2.2.1++w.2.2.2.2)/\(w.2.1++w.2.2.1++w.2.2.2.1++w.2.2.2.2).length<1200000/\0<w.2.2.1.length/\0<w.2.2.2.1.length/\dR (kS w.1) w.2.2.1/\dR (kS w.1) w.2.2.2.1/\w.2.2.1.length+w.2.2.2.1.length<N)/\Q (.aC []) (fD (w.2.1++cD (kS w.1) (w.2.2.1++w.2.2.2.1)++w.2.2.2.2) w.1)) (Q (.aC []) (fD l sp))) (Q (.aC []) (fD l sp)))) (aw (decide (e9<wI (n-s))) (aw (decide (wI (n-s)<b)) (∃w:List (Int×fO)×LI×LI×LI×LI,(([.aj 0 l.length 1,J e9,J (wI (n-s)),J b,.bn (.func 123) [] [.aa 1 0]]:LV)=[.aj 0 (w.2.1++w.2.2.1++w.2.2.2.1++w.2.2.2.2).length 1,J ((w.2.1.length:Nat):Int),J (((w.2.1++w.2.2.1).length:Nat):Int),J (((w.2.1++w.2.2.1++w.2.2.2.1).length:Nat):Int),.bn (.func 123) [] [.aa 1 0]]/\fD l sp=hS w.1 (w.2.1++w.2.2.1++w.2.2.2.1++w.2.2.2.2)/\(w.2.1++w.2.2.1++w.2.2.2.1++w.2.2.2.2).length<1200000/\0<w.2.2.1.length/\0<w.2.2.2.1.length/\dR (kS w.1) w.2.2.1/\dR (kS w.1) w.2.2.2.1/\w.2.2.1.length+w.2.2.2.1.length<N)/\Q (.aC []) (fD (w.2.1++cD (kS w.1) (w.2.2.1++w.2.2.2.1)++w.2.2.2.2) w.1)) (Q (.aC []) (fD l sp))) (Q (.aC []) (fD l sp))))) (aw (decide (a<s)) (aw (decide (s<e9)) (∃w:List (Int×fO)×LI×LI×LI×LI,(([.aj 0 l.length 1,J a,J s,J e9,.bn (.func 123) [] [.aa 1 0]]:LV)=[.aj 0 (w.2.1++w.2.2.1++w.2.2.2.1++w.2.2.2.2).length 1,J ((w.2.1.length:Nat):Int),J (((w.2.1++w.2.2.1).length:Nat):Int),J (((w.2.1++w.2.2.1++w.2.2.2.1).length:Nat):Int),.bn (.func 123) [] [.aa 1 0]]/\fD l sp=hS w.1 (w.2.1++w.2.2.1++w.2.2.2.1++w.2.2.2.2)/\(w.2.1++w.2.2.1++w.2.2.2.1++w.2.2.2.2).length<1200000/\0<w.2.2.1.length/\0<w.2.2.2.1.length/\dR (kS w.1) w.2.2.1/\dR (kS w.1) w.2.2.2.1/\w.2.2.1.length+w.2.2.2.1.length<N)/\aw (decide (e9<wI (n-s))) (aw (decide (wI (n-s)<b)) (∃ae:List (Int×fO)×LI×LI×LI×LI,(([.aj 0 l.length 1,J e9,J (wI (n-s)),J b,.bn (.func 123) [] [.aa 1 0]]:LV)=[.aj 0 (ae.2.1++ae.2.2.1++ae.2.2.2.1++ae.2.2.2.2).length 1,J ((ae.2.1.length:Nat):Int),J (((ae.2.1++ae.2.2.1).length:Nat):Int),J (((ae.2.1++ae.2.2.1++ae.2.2.2.1).length:Nat):Int),.bn (.func 123) [] [.aa 1 0]]/\fD (w.2.1++cD (kS w.1) (w.2.2.1++w.2.2.2.1)++w.2.2.2.2) w.1=hS ae.1 (ae.2.1++ae.2.2.1++ae.2.2.2.1++ae.2.2.2.2)/\(ae.2.1++ae.2.2.1++ae.2.2.2.1++ae.2.2.2.2).length<1200000/\0<ae.2.2.1.length/\0<ae.2.2.2.1.length/\dR (kS ae.1) ae.2.2.1/\dR (kS ae.1) ae.2.2.2.1/\ae.2.2.1.length+ae.2.2.2.1.length<N)/\Q (.aC []) (fD (ae.2.1++cD (kS ae.1) (ae.2.2.1++ae.2.2.2.1)++ae.2.2.2.2) ae.1)) (Q (.aC []) (fD (w.2.1++cD (kS w.1) (w.2.2.1++w.2.2.2.1)++w.2.2.2.2) w.1))) (Q (.aC []) (fD (w.2.1++cD (kS w.1) (w.2.2.1++w.2.2.2.1)++w.2.2.2.2) w.1))) (aw (decide (e9<wI (n-s))) (aw (decide (wI (n-s)<b)) (∃w:List (Int×fO)×LI×LI×LI×LI,(([.aj 0 l.length 1,J e9,J (wI (n-s)),J b,.bn (.func 123) [] [.aa 1 0]]:LV)=[.aj 0 (w.2.1++w.2.2.1++w.2.2.2.1++w.2.2.2.2).length 1,J ((w.2.1.length:Nat):Int),J (((w.2.1++w.2.2.1).length:Nat):Int),J (((w.2.1++w.2.2.1++w.2.2.2.1).length:Nat):Int),.bn (.func 123) [] [.aa 1 0]]/\fD l sp=hS w.1 (w.2.1++w.2.2.1++w.2.2.2.1++w.2.2.2.2)/\(w.2.1++w.2.2.1++w.2.2.2.1++w.2.2.2.2).length<1200000/\0<w.2.2.1.length/\0<w.2.2.2.1.length/\dR (kS w.1) w.2.2.1/\dR (kS w.1) w.2.2.2.1/\w.2.2.1.length+w.2.2.2.1.length<N)/\Q (.aC []) (fD (w.2.1++cD (kS w.1) (w.2.2.1++w.2.2.2.1)++w.2.2.2.2) w.1)) (Q (.aC []) (fD l sp))) (Q (.aC []) (fD l sp)))) (aw (decide (e9<wI (n-s))) (aw (decide (wI (n-s)<b)) (∃w:List (Int×fO)×LI×LI×LI×LI,(([.aj 0 l.length 1,J e9,J (wI (n-s)),J b,.bn (.func 123) [] [.aa 1 0]]:LV)=[.aj 0 (w.2.1++w.2.2.1++w.2.2.2.1++w.2.2.2.2).length 1,J ((w.2.1.length:Nat):Int),J (((w.2.1++w.2.2.1).length:Nat):Int),J (((w.2.1++w.2.2.1++w.2.2.2.1).length:Nat):Int),.bn (.func 123) [] [.aa 1 0]]/\fD l sp=hS w.1 (w.2.1++w.2.2.1++w.2.2.2.1++w.2.2.2.2)/\(w.2.1++w.2.2.1++w.2.2.2.1++w.2.2.2.2).length<1200000/\0<w.2.2.1.length/\0<w.2.2.2.1.length/\dR (kS w.1) w.2.2.1/\dR (kS w.1) w.2.2.2.1/\w.2.2.1.length+w.2.2.2.1.length<N)/\Q (.aC []) (fD (w.2.1++cD (kS w.1) (w.2.2.1++w.2.2.2.1)++w.2.2.2.2) w.1)) (Q (.aC []) (fD l sp))) (Q (.aC []) (fD l sp)))))):=by kernel_rfl
theorem RK{i j:Nat}(h:i+j<20000000):wI (Int.fdiv (IntKind.u64.wrap (wI ((i:Int)+(j:Int)))) 2)=(((i+j)/ 2:Nat):Int):=by
 rw[cH (x:=(i:Int)+(j:Int))];have hu:IntKind.u64.wrap ((i:Int)+(j:Int))=(i:Int)+(j:Int):=IntWalk.u64_in _ (by omega);rw[hu];have e:Int.fdiv ((i:Int)+(j:Int)) 2=(((i+j)/ 2:Nat):Int):=by rw[Int.fdiv_eq_ediv_of_nonneg _ (by omega)];omega
 rw[e,cH]<;>omega
section
variable{sp:List (Int×fO)}{N:Nat}
theorem azx(pg:aS Z (uE N)){aI U P R W x len}(hf:aI=U++P++x::(R++W))(bS:aI.length=len)(hl:len<1200000):
 ∀k:LI×LI×LI,(k.1++k.2.1=P/\k.2.2=U++k.1++x::(k.2.1++(R++W)))->
 bu Z 171 220 3 (.aC []) (hS sp aI) (bg [(0,.aj 0 len 1),(10,J ((U.length+1+P.length:Nat):Int)),(13,J ((U++k.1).length:Int))]) (hS sp k.2.2) (ax Z 171 1):=by
 refine dF (λk=>k.2.1.length) _ _ _ _ ?_;rintro⟨P1,P2,l⟩ ⟨hP,iH⟩ ih;simp only at hP iH ih⊢;subst hP;have fy:l.length=len:=by rw[iH,<-bS,hf];simp;omega
 have sK:U.length+P1.length+P2.length+1+R.length+W.length=len:=by rw[<-fy,iH];simp;omega
 rw[<-fy];refine hE pg azw ?_;have hw:wI (((U.length+1+(P1++P2).length:Nat):Int)-1)=((U.length+(P1++P2).length:Nat):Int):=by simp;rw[cH]<;>omega
 rw[hw];have hk:wI (((U++P1).length:Int)+1)=(((U++P1).length+1:Nat):Int):=oF (lA _) (by simp;omega);refine aD (λh=>?_) λh=>?_
 .have h:=dX h;simp at h;cases P2 with
  |nil=>simp only[gY]at h;omega
  |cons y P2=>
   simp at sK;subst iH;have e1:U++P1++x::(y::P2++(R++W))=(U++P1++[x])++y::(P2++(R++W)):=by simp
   have e2:(U++P1)++y::(y::P2++(R++W))=(U++P1++[y])++y::(P2++(R++W)):=by simp
   have p1:gE (aX (U++P1++x::(y::P2++(R++W)))) ((U++P1).length*1) [J y]=aX ((U++P1)++y::(y::P2++(R++W))):=DE y rfl;have p2:gE (aX ((U++P1)++y::(y::P2++(R++W)))) (((U++P1).length+1)*1) [J x]=aX ((U++P1++[y])++x::(P2++(R++W))):=by rw[e2];exact DE x (by simp only[cL,ei,gY])
   refine⟨(U++P1).length+1,hk,by simp at fy⊢;omega,y,by rw[e1];exact te (by simp only[cL,ei,gY]),(U++P1).length,rfl,by simp only[cL]at fy⊢;omega,x,te rfl,(U++P1).length,rfl,by simp only[cL]at fy⊢;omega,by rw[vr];simp at fy⊢;omega,(U++P1).length+1,hk,by simp at fy⊢;omega,?_,?_⟩
   .rw[p1,vr];simp at fy⊢;omega
   .rw[p1,p2,hk];have:=ih (P1++[y],P2,(U++P1++[y])++x::(P2++(R++W))) ⟨by simp,by simp⟩ (by simp);have e:(U++(P1++[y])).length=(U++P1).length+1:=by simp;omega
    rw[e]at this;rw[fy];exact this
 .have h:=eB h;simp at h;have hP:P2=[]:=by rw[<-sX];omega
  subst hP;have:l=aI:=by rw[iH,hf];simp
  rw[this];exact⟨rfl,rfl⟩
theorem azB(pg:aS Z (uE N)){aI U P R W y len}(hf:aI=U++P++y::(R++W))(bS:aI.length=len)(hl:len<1200000):
 ∀k:LI×LI×LI,(k.1++k.2.1=R/\k.2.2=U++P++k.1++y::(k.2.1++W))->
 bu Z 171 220 3 (.aC []) (hS sp aI) (bg [(0,.aj 0 len 1),(14,J ((U++P).length:Int)),(17,J ((U++P++k.1).length:Int))]) (hS sp k.2.2) (ax Z 171 3):=by
 refine dF (λk=>k.1.length) _ _ _ _ ?_;rintro⟨R1,R2,l⟩ ⟨hR,iH⟩ ih;simp only at hR iH ih⊢;subst hR;have fy:l.length=len:=by rw[iH,<-bS,hf];simp;omega
 have sK:U.length+P.length+R1.length+R2.length+1+W.length=len:=by rw[<-fy,iH];simp;omega
 rw[<-fy];refine hE pg azA ?_;refine aD (λh=>?_) λh=>?_
 .have h:=dX h;simp at h;have hp:R1≠[]:=by rintro rfl;simp only[gY]at h;omega
  obtain⟨R1,z,rfl⟩:∃p' y,R1=p'++[y]:=⟨R1.dropLast,R1.getLast hp,(List.dropLast_concat_getLast hp).symm⟩;subst iH;simp at sK;have hk:wI (((U++P++(R1++[z])).length:Int)-1)=(((U++P++R1).length:Nat):Int):=by simp;rw[cH]<;>omega
  have e1:U++P++(R1++[z])++y::(R2++W)=(U++P++R1)++z::(y::(R2++W)):=by simp
  have p1:gE (aX (U++P++(R1++[z])++y::(R2++W))) ((U++P++(R1++[z])).length*1) [J z]=aX ((U++P++R1)++z::(z::(R2++W))):=by rw[DE z rfl];simp
  have p2:gE (aX ((U++P++R1)++z::(z::(R2++W)))) ((U++P++R1).length*1) [J y]=aX ((U++P++R1)++y::(z::(R2++W))):=DE y rfl;have ajk:(U++P++R1).length<(U++P++(R1++[z])++y::(R2++W)).length:=by simp only[cL,ei];omega
  have A4:(U++P++(R1++[z])).length<(U++P++(R1++[z])++y::(R2++W)).length:=by simp only[cL,ei];omega
  refine⟨(U++P++R1).length,hk,ajk,z,by rw[e1];exact te rfl,(U++P++(R1++[z])).length,rfl,A4,y,te rfl,(U++P++(R1++[z])).length,rfl,A4,by rw[vr];omega,(U++P++R1).length,hk,ajk,?_,?_⟩
  .rw[p1,vr];simp;omega
  .rw[p1,p2,hk];have:=ih (R1,z::R2,(U++P++R1)++y::(z::(R2++W))) ⟨by simp,by simp⟩ (by simp);rw[fy];exact this
 .have h:=eB h;simp at h;have hP:R1=[]:=by rw[<-sX];omega
  subst hP;have:l=aI:=by rw[iH,hf];simp
  rw[this];exact⟨rfl,rfl⟩
theorem azv(pg:aS Z (uE N)){U Y W x}(hl:(U++[x]++Y++W).length<1200000)(hY:dR (kS sp) Y):
 ∀k:Nat×Nat,(k.1<=k.2/\k.2<=Y.length/\(k.1=0\/kS sp x<kS sp (Y.getD (k.1-1) 0))/\(k.2=Y.length\/¬kS sp x<kS sp (Y.getD k.2 0)))->
 bu Z 171 220 3 (.aC []) (hS sp (U++cD (kS sp) (x::Y)++W)) (bg [(0,.aj 0 (U++[x]++Y++W).length 1),(1,J (U.length:Int)),(4,cF),(10,J ((U.length+1+k.1:Nat):Int)),(11,J ((U.length+1+k.2:Nat):Int))]) (hS sp (U++[x]++Y++W)) (ax Z 171 0):=by
 refine dF (λk=>k.2-k.1) _ _ _ _ ?_;rintro⟨i,j⟩ ⟨MI,hj,ou,qf⟩ ih;have fy:(U++[x]++Y++W).length=U.length+1+Y.length+W.length:=by simp only[cL,ei,gY]
 refine hE pg azu ?_;rw[RK (by omega)];refine aD (λh=>?_) λh=>?_
 .have h:=dX h;have hc:(U.length+1+i+(U.length+1+j))/ 2=U.length+1+(i+j)/ 2:=by omega
  rw[hc];have hg:(U++[x]++Y++W).getD (U.length+1+(i+j)/ 2) 0=Y.getD ((i+j)/ 2) 0:=by
   have e:U++[x]++Y++W=(U++[x])++(Y++W):=by simp
   have e2:U.length+1+(i+j)/ 2=(U++[x]).length+(i+j)/ 2:=by simp
   rw[e,e2,Rm,Rl (by omega)]
  have hr:=OS (l:=U++[x]++Y++W) (i:=U.length+1+(i+j)/ 2) (by omega);rw[hg]at hr;have hw:wI (((U.length+1+(i+j)/ 2:Nat):Int)+1)=((U.length+1+((i+j)/ 2+1):Nat):Int):=by rw[cH]<;>omega
  refine⟨U.length+1+(i+j)/ 2,rfl,by omega,_,hr,U.length,rfl,by omega,x,?_,(sp,Y.getD ((i+j)/ 2) 0,x),⟨rfl,rfl⟩,aD (λhk=>?_) λhk=>?_⟩
  .have e:U++[x]++Y++W=U++x::(Y++W):=by simp
   rw[e];exact te rfl
  .have hk:=BX.1 (dX hk);rw[hw];exact ih ((i+j)/ 2+1,j) ⟨by simp only;omega,hj,.inr (by simpa using hk),qf⟩ (by simp only;omega)
  .have hk:=λhh=>eB hk (BX.2 hh)
   exact ih (i,(i+j)/ 2) ⟨by simp only;omega,by simp only;omega,ou,.inr hk⟩ (by simp only;omega)
 .have h:=eB h;have hj:i=j:=by omega
  subst hj;obtain⟨P,R,rfl,hP,hs⟩:=arP hY hj ou qf;have:=azx (sp:=sp) pg (aI:=U++cD (kS sp) (x::(P++R))++W) (U:=U) (P:=P) (R:=R) (W:=W) (x:=x) (by rw[hs];simp) (by simp[rk];omega) hl ([],P,U++[x]++(P++R)++W) ⟨rfl,by simp⟩;simp only[jH,hP]at this;exact this
theorem azz(pg:aS Z (uE N)){U X W y}(hl:(U++X++[y]++W).length<1200000)(hX:dR (kS sp) X):
 ∀k:Nat×Nat,(k.1<=k.2/\k.2<=X.length/\(k.1=0\/¬kS sp (X.getD (k.1-1) 0)<kS sp y)/\(k.2=X.length\/kS sp (X.getD k.2 0)<kS sp y))->
 bu Z 171 220 3 (.aC []) (hS sp (U++cD (kS sp) (X++[y])++W)) (bg [(0,.aj 0 (U++X++[y]++W).length 1),(2,J ((U++X).length:Int)),(4,cF),(14,J ((U.length+k.1:Nat):Int)),(15,J ((U.length+k.2:Nat):Int))]) (hS sp (U++X++[y]++W)) (ax Z 171 2):=by
 refine dF (λk=>k.2-k.1) _ _ _ _ ?_;rintro⟨i,j⟩ ⟨MI,hj,ou,qf⟩ ih;have fy:(U++X++[y]++W).length=U.length+X.length+1+W.length:=by simp only[cL,ei,gY]
 refine hE pg azy ?_;rw[RK (by omega)];refine aD (λh=>?_) λh=>?_
 .have h:=dX h;have hc:(U.length+i+(U.length+j))/ 2=U.length+(i+j)/ 2:=by omega
  rw[hc];have hg:(U++X++[y]++W).getD (U.length+(i+j)/ 2) 0=X.getD ((i+j)/ 2) 0:=by
   have e:U++X++[y]++W=U++(X++([y]++W)):=by simp
   rw[e,Rm,Rl (by omega)]
  have hr:=OS (l:=U++X++[y]++W) (i:=U.length+(i+j)/ 2) (by omega);rw[hg]at hr;have hw:wI (((U.length+(i+j)/ 2:Nat):Int)+1)=((U.length+((i+j)/ 2+1):Nat):Int):=by rw[cH]<;>omega
  refine⟨(U++X).length,rfl,by simp only[cL]at fy⊢;omega,y,?_,U.length+(i+j)/ 2,rfl,by omega,_,hr,(sp,y,X.getD ((i+j)/ 2) 0),⟨rfl,rfl⟩,aD (λhk=>?_) λhk=>?_⟩
  .have e:U++X++[y]++W=(U++X)++y::W:=by simp
   rw[e];exact te rfl
  .have hk:¬kS sp (X.getD ((i+j)/ 2) 0)<kS sp y:=λhh=>by have:=decide_eq_true (BX.2 hh);rw[this]at hk;cases hk
   rw[hw];exact ih ((i+j)/ 2+1,j) ⟨by simp only;omega,hj,.inr (by simpa using hk),qf⟩ (by simp only;omega)
  .have hk:kS sp (X.getD ((i+j)/ 2) 0)<kS sp y:=by refine BX.1 (dX ?_);simpa using hk
   exact ih (i,(i+j)/ 2) ⟨by simp only;omega,by simp only;omega,ou,.inr hk⟩ (by simp only;omega)
 .have h:=eB h;have hj:i=j:=by omega
  subst hj;obtain⟨P,R,rfl,hP,hs⟩:=arQ hX hj ou qf;have:=azB (sp:=sp) pg (aI:=U++cD (kS sp) (P++R++[y])++W) (U:=U) (P:=P) (R:=R) (W:=W) (y:=y) (by rw[hs];simp) (by simp[rk];omega) hl (R,[],U++(P++R)++[y]++W) ⟨by simp,by simp⟩;simp only[km]at this;have e:(U++P).length=U.length+i:=by simp[hP]
  rw[e]at this;simp only[km];exact this
def Kb(N:Nat)(Q:AV->AH->Prop)(len:Nat)(e9 e b:Int)(sp:List (Int×fO))(l:LI):Prop:=
 aw (decide (e9<e)) (aw (decide (e<b)) (∃w,(Ot N).bh w [.aj 0 len 1,J e9,J e,J b,cF] (hS sp l)/\Q (.aC []) ((Ot N).aK w)) (Q (.aC []) (hS sp l))) (Q (.aC []) (hS sp l))
def Ka(N:Nat)(Q:AV->AH->Prop)(len:Nat)(a s e9 e b:Int)(sp:List (Int×fO))(l:LI):Prop:=
 aw (decide (a<s)) (aw (decide (s<e9)) (∃w,(Ot N).bh w [.aj 0 len 1,J a,J s,J e9,cF] (hS sp l)/\Kb N Q len e9 e b w.1 (w.2.1++cD (kS w.1) (w.2.2.1++w.2.2.2.1)++w.2.2.2.2)) (Kb N Q len e9 e b sp l)) (Kb N Q len e9 e b sp l)
def aFg(N:Nat)(Q:AV->AH->Prop)(len:Nat)(a m s e9 e b:Int)(sp:List (Int×fO))(l:LI):Prop:=
 aw (decide (s<m)) (aw (decide (m<e)) (∃w,roX.bh w [.aj 0 len 1,J s,J m,J e,cF] (hS sp l)/\Ka N Q len a s e9 e b w.1 (w.2.1++w.2.2.2.1++w.2.2.1++w.2.2.2.2)) (Ka N Q len a s e9 e b sp l)) (Ka N Q len a s e9 e b sp l)
theorem iN{b A B}(h1:b=true->A)(h2:b=false->B):aw b A B:=aD h1 h2
theorem aFj{aI U V B D W}(hf:aI=U++V++cD (kS sp) (B++D)++W)(hB:dR (kS sp) B)(hD:dR (kS sp) D)(hN:B.length+D.length<N){len}(bS:(U++V++B++D++W).length=len)(hl:len<1200000){e9 e b}(h1:e9=(U++V).length)(h2:e=(U++V++B).length)(h3:b=(U++V++B++D).length):
 Kb N (fJ (.aC []) (hS sp aI)) len (e9:Int) (e:Int) (b:Int) sp (U++V++B++D++W):=by
 subst h1 h2 h3 bS;have fT:B=[]\/D=[]->fJ (.aC []) (hS sp aI) (.aC []) (hS sp (U++V++B++D++W)):=by
  intro h;refine⟨rfl,?_⟩;rw[hf];rcases h with rfl|rfl
  .simp[Om hD]
  .simp[Om hB]
 refine iN (λh=>iN (λh'=>?_) (λh'=>?_)) (λh=>?_)
 .have h:=dX h;have h':=dX h';simp at h h';refine⟨(sp,U++V,B,D,W),⟨rfl,rfl,hl,by simp only;omega,by simp only;omega,hB,hD,hN⟩,rfl,?_⟩;rw[hf];rfl
 .have h':=eB h';simp at h';exact fT (.inr (by rw[<-sX];omega))
 .have h':=eB h;simp at h';exact fT (.inl (by rw[<-sX];omega))
theorem aFi{aI U A B C D W}(hf:aI=U++cD (kS sp) (A++C)++cD (kS sp) (B++D)++W)(hA:dR (kS sp) A)(hC:dR (kS sp) C)(hB:dR (kS sp) B)(hD:dR (kS sp) D)(ZK:A.length+C.length<N)(hN:B.length+D.length<N){len}(bS:(U++A++C++B++D++W).length=len)(hl:len<1200000){a s e9 e b}(ha:a=U.length)(hs:s=(U++A).length)(h1:e9=(U++A++C).length)(h2:e=(U++A++C++B).length)(h3:b=(U++A++C++B++D).length):
 Ka N (fJ (.aC []) (hS sp aI)) len (a:Int) (s:Int) (e9:Int) (e:Int) (b:Int) sp (U++A++C++B++D++W):=by
 have gK:=rk (kS sp) (A++C);simp at gK;have done:∀l,l=U++cD (kS sp) (A++C)++B++D++W->Kb N (fJ (.aC []) (hS sp aI)) len (e9:Int) (e:Int) (b:Int) sp l:=by
  intro l h;rw[h];refine aFj hf hB hD hN ?_ hl ?_ ?_ ?_
  .rw[<-bS];simp;omega
  .rw[h1];simp;omega
  .rw[h2];simp;omega
  .rw[h3];simp;omega
 have fT:A=[]\/C=[]->Kb N (fJ (.aC []) (hS sp aI)) len (e9:Int) (e:Int) (b:Int) sp (U++A++C++B++D++W):=by
  intro h;refine done _ ?_;rcases h with rfl|rfl
  .simp[Om hC]
  .simp[Om hA]
 subst ha hs h1 bS;refine iN (λh=>iN (λh'=>?_) (λh'=>?_)) (λh=>?_)
 .have h:=dX h;have h':=dX h';simp at h h';refine⟨(sp,U,A,C,B++D++W),⟨?_,?_,?_,by simp only;omega,by simp only;omega,hA,hC,ZK⟩,?_⟩
  .simp[cF]
  .simp
  .simp only[<-km];exact hl
  .exact done _ (by simp)
 .have h':=eB h';simp at h';exact fT (.inr (by rw[<-sX];omega))
 .have h':=eB h;simp at h';exact fT (.inl (by rw[<-sX];omega))
theorem aFh{aI U A B C D W}(hf:aI=U++cD (kS sp) (A++C)++cD (kS sp) (B++D)++W)(hA:dR (kS sp) A)(hC:dR (kS sp) C)(hB:dR (kS sp) B)(hD:dR (kS sp) D)(ZK:A.length+C.length<N)(hN:B.length+D.length<N){len}(bS:(U++A++B++C++D++W).length=len)(hl:len<1200000){a m s e9 e b}(ha:a=U.length)(hm:m=(U++A++B).length)(hs:s=(U++A).length)(h1:e9=(U++A++C).length)(h2:e=(U++A++B++C).length)(h3:b=(U++A++B++C++D).length):
 aFg N (fJ (.aC []) (hS sp aI)) len (a:Int) (m:Int) (s:Int) (e9:Int) (e:Int) (b:Int) sp (U++A++B++C++D++W):=by
 have done:∀l,l=U++A++C++B++D++W->Ka N (fJ (.aC []) (hS sp aI)) len (a:Int) (s:Int) (e9:Int) (e:Int) (b:Int) sp l:=by
  intro l h;rw[h];refine aFi hf hA hC hB hD ZK hN ?_ hl ha hs h1 ?_ ?_
  .rw[<-bS];simp;omega
  .rw[h2];simp;omega
  .rw[h3];simp;omega
 have fT:B=[]\/C=[]->Ka N (fJ (.aC []) (hS sp aI)) len (a:Int) (s:Int) (e9:Int) (e:Int) (b:Int) sp (U++A++B++C++D++W):=by intro h;refine done _ ?_;rcases h with rfl|rfl<;>simp
 subst hm hs h2 bS;refine iN (λh=>iN (λh'=>?_) (λh'=>?_)) (λh=>?_)
 .have h:=dX h;have h':=dX h';simp at h h';refine⟨(sp,U++A,B,C,D++W),⟨?_,?_,?_,by simp only;omega,by simp only;omega⟩,?_⟩
  .simp[cF]
  .simp
  .simp only[<-km];exact hl
  .exact done _ (by simp)
 .have h':=eB h';simp at h';exact fT (.inr (by rw[<-sX];omega))
 .have h':=eB h;simp at h';exact fT (.inl (by rw[<-sX];omega))
theorem amP(pg:aS Z (uE N)){U X Y W M}(hl:(U++X++Y++W).length<1200000)(hX:dR (kS sp) X)(hY:dR (kS sp) Y)(hN:X.length+Y.length<=N)(hM:M=(X.length+Y.length)/ 2)(hx:0<X.length)(hy:0<Y.length):
 ∀k:Nat×Nat,(k.1<=k.2/\k.2<=X.length/\k.2<=M/\M<=k.1+Y.length/\(k.1=0\/M-k.1=Y.length\/¬kS sp (X.getD (k.1-1) 0)<kS sp (Y.getD (M-k.1) 0))/\(k.2=X.length\/M-k.2=0\/kS sp (X.getD k.2 0)<kS sp (Y.getD (M-k.2-1) 0)))->
 bu Z 171 220 3 (.aC []) (hS sp (U++cD (kS sp) (X++Y)++W)) (bg [(0,.aj 0 (U++X++Y++W).length 1),(1,J (U.length:Int)),(2,J ((U++X).length:Int)),(3,J ((U++X++Y).length:Int)),(4,cF),(18,J ((U.length+M:Nat):Int)),(19,J ((U.length+M+(U++X).length:Nat):Int)),(20,J ((U.length+k.1:Nat):Int)),(21,J ((U.length+k.2:Nat):Int)),(22,J ((U.length+M+(U++X).length-1:Nat):Int))]) (hS sp (U++X++Y++W)) (ax Z 171 4):=by
 refine dF (λk=>k.2-k.1) _ _ _ _ ?_;rintro⟨i,j⟩ ⟨MI,R0,hjM,ZJ,ou,qf⟩ ih;simp only at MI R0 hjM ZJ ou qf ih⊢;have fy:(U++X++Y++W).length=U.length+X.length+Y.length+W.length:=by simp only[cL]
 have RG:(U++X).length=U.length+X.length:=by simp only[cL]
 refine hT pg 2000 F6 ?_;rw[azC];rw[RK (by omega)];refine aD (λh=>?_) λh=>?_
 .have h:=dX h;have hc:(U.length+i+(U.length+j))/ 2=U.length+(i+j)/ 2:=by omega
  rw[hc];have hg:(U++X++Y++W).getD (U.length+(i+j)/ 2) 0=X.getD ((i+j)/ 2) 0:=by
   have e:U++X++Y++W=U++(X++(Y++W)):=by simp
   rw[e,Rm,Rl (by omega)]
  have hr:=OS (l:=U++X++Y++W) (i:=U.length+(i+j)/ 2) (by omega);rw[hg]at hr;have hp:wI (((U.length+M+(U++X).length-1:Nat):Int)-((U.length+(i+j)/ 2:Nat):Int))=(((U++X).length+(M-(i+j)/ 2-1):Nat):Int):=by rw[cH]<;>omega
  have tN:(U++X++Y++W).getD ((U++X).length+(M-(i+j)/ 2-1)) 0=Y.getD (M-(i+j)/ 2-1) 0:=by
   have e:U++X++Y++W=(U++X)++(Y++W):=by simp
   rw[e,Rm,Rl (by omega)]
  have ow:=OS (l:=U++X++Y++W) (i:=(U++X).length+(M-(i+j)/ 2-1)) (by omega);rw[tN]at ow;have hw:wI (((U.length+(i+j)/ 2:Nat):Int)+1)=((U.length+((i+j)/ 2+1):Nat):Int):=by rw[cH]<;>omega
  refine⟨(U++X).length+(M-(i+j)/ 2-1),hp,by omega,_,ow,U.length+(i+j)/ 2,rfl,by omega,_,hr,(sp,Y.getD (M-(i+j)/ 2-1) 0,X.getD ((i+j)/ 2) 0),⟨rfl,rfl⟩,aD (λhk=>?_) λhk=>?_⟩
  .have hk:¬kS sp (X.getD ((i+j)/ 2) 0)<kS sp (Y.getD (M-(i+j)/ 2-1) 0):=λhh=>by have:=decide_eq_true (BX.2 hh);rw[this]at hk;cases hk
   rw[hw];refine ih ((i+j)/ 2+1,j) ⟨by simp only;omega,R0,hjM,by simp only;omega,.inr (.inr ?_),qf⟩ (by simp only;omega);have e:M-((i+j)/ 2+1)=M-(i+j)/ 2-1:=by omega
   rw[e];exact hk
  .have hk:kS sp (X.getD ((i+j)/ 2) 0)<kS sp (Y.getD (M-(i+j)/ 2-1) 0):=by refine BX.1 (dX ?_);simpa using hk
   exact ih (i,(i+j)/ 2) ⟨by simp only;omega,by simp only;omega,by simp only;omega,ZJ,ou,.inr (.inr hk)⟩ (by simp only;omega)
 .have h:=eB h;have hj:i=j:=by omega
  subst hj;obtain⟨A,B,C,D,rfl,rfl,hA,hC,hs,dA,dB,dC,dD⟩:=aw1 hX hY (i:=i) (j:=M-i) R0 (by omega) ou qf;simp at hM hx hy hN RG R0 ZJ;have he:wI (((U.length+M+(U++(A++B)).length:Nat):Int)-((U.length+i:Nat):Int))=(((U++A++B++C).length:Nat):Int):=by simp at hl⊢;rw[cH]<;>omega
  rw[he];have key:=aFh (sp:=sp) (N:=N) (aI:=U++cD (kS sp) ((A++B)++(C++D))++W) (U:=U) (A:=A) (B:=B) (W:=W) (by rw[hs];simp) dA dC dB dD (by omega) (by omega) rfl (by simpa[km]using hl)
   (m:=(U++(A++B)).length) (s:=U.length+i) (e9:=U.length+M) (b:=(U++(A++B)++(C++D)).length) rfl (by simp) (by simp;omega) (by simp;omega) rfl (by simp)
  have e:U++(A++B)++(C++D)++W=U++A++B++C++D++W:=by simp
  rw[e];exact key
theorem amQ(pg:aS Z (uE N)){U X Y W}(hl:(U++X++Y++W).length<1200000)(hX:dR (kS sp) X)(hY:dR (kS sp) Y)(hN:X.length+Y.length<=N)(hx:0<X.length)(hy:0<Y.length):
 bX Z 171 [.aj 0 (U++X++Y++W).length 1,J (U.length:Int),J ((U++X).length:Int),J ((U++X++Y).length:Int),cF] (hS sp (U++X++Y++W)) (.aC []) (hS sp (U++cD (kS sp) (X++Y)++W)):=by
 have fy:(U++X++Y++W).length=U.length+X.length+Y.length+W.length:=by simp only[cL]
 have RG:(U++X).length=U.length+X.length:=by simp only[cL]
 have aHJ:(U++X++Y).length=U.length+X.length+Y.length:=by simp only[cL]
 refine eE 220 pg azD ?_;have h1:wI (((U++X).length:Int)-(U.length:Int))=(X.length:Int):=by rw[cH]<;>omega
 have h2:wI (((U++X++Y).length:Int)-((U++X).length:Int))=(Y.length:Int):=by rw[cH]<;>omega
 have h3:(U.length+(U++X++Y).length)/ 2=U.length+(X.length+Y.length)/ 2:=by omega
 have h4:wI (((U.length+(X.length+Y.length)/ 2:Nat):Int)+((U++X).length:Int))=((U.length+(X.length+Y.length)/ 2+(U++X).length:Nat):Int):=by rw[cH]<;>omega
 have h5:wI (((U.length+(X.length+Y.length)/ 2+(U++X).length:Nat):Int)-1)=((U.length+(X.length+Y.length)/ 2+(U++X).length-1:Nat):Int):=by rw[cH]<;>omega
 rw[h1,h2,RK (by omega),h3,h4,h5];refine aD (λh=>?_) λh=>aD (λh'=>?_) λh'=>aD (λh6=>?_) λh6=>?_
 .have h:X.length=1:=by
   have h:(X.length:Int)=1:=by simpa using h
   omega
  obtain⟨x,rfl⟩:=List.length_eq_one_iff.1 h;have:=azv pg hl hY (0,Y.length) ⟨by simp,by simp,.inl rfl,.inl rfl⟩;have e1:(U++[x]).length=U.length+1:=by simp
  have e2:(U++[x]++Y).length=U.length+1+Y.length:=by simp;omega
  rw[e1,e2];exact this
 .have h:Y.length=1:=by
   have h:(Y.length:Int)=1:=by simpa using h'
   omega
  obtain⟨y,rfl⟩:=List.length_eq_one_iff.1 h;have:=azz pg hl hX (0,X.length) ⟨by simp,by simp,.inl rfl,.inl rfl⟩;rw[<-RG]at this;exact this
 .have h6:=dX h6;have h7:wI (((U.length+(X.length+Y.length)/ 2+(U++X).length:Nat):Int)-((U++X++Y).length:Int))=((U.length+((X.length+Y.length)/ 2-Y.length):Nat):Int):=by rw[cH]<;>omega
  rw[h7];exact amP pg hl hX hY hN rfl hx hy ((X.length+Y.length)/ 2-Y.length,(X.length+Y.length)/ 2) ⟨by simp only;omega,by simp only;omega,by simp,by simp only;omega,.inr (.inl (by simp only;omega)),.inr (.inl (by simp only;omega))⟩
 .have h6:=eB h6;have:=amP pg hl hX hY hN rfl hx hy (0,X.length) ⟨by simp,by simp,by simp only;omega,by simp only;omega,.inl rfl,.inl rfl⟩;rw[<-RG]at this;exact this
end
theorem apF:∀N,aS Z (uE N):=by
 refine yl afi ?_ ?_
 .rintro⟨sp,U,X,Y,W⟩ args H ⟨_,_,_,_,_,_,_,h⟩;omega
 .rintro N pg ⟨sp,U,X,Y,W⟩ args H ⟨rfl,rfl,hl,hx,hy,hX,hY,hN⟩;exact amQ pg hl hX hY (by omega) hx hy
def an3:cq (List (Int×fO)×LI×LI×LI×LI)where
 bh w A H:=A=[.aj 0 (w.2.1++w.2.2.1++w.2.2.2.1++w.2.2.2.2).length 1,J (w.2.1.length:Int),J ((w.2.1++w.2.2.1).length:Int),J ((w.2.1++w.2.2.1++w.2.2.2.1).length:Int),cF]/\H=hS w.1 (w.2.1++w.2.2.1++w.2.2.2.1++w.2.2.2.2)/\(w.2.1++w.2.2.1++w.2.2.2.1++w.2.2.2.2).length<1200000/\0<w.2.2.1.length/\0<w.2.2.2.1.length/\
  dR (kS w.1) w.2.2.1/\dR (kS w.1) w.2.2.2.1
 v w:=.aC []
 aK w:=hS w.1 (w.2.1++cD (kS w.1) (w.2.2.1++w.2.2.2.1)++w.2.2.2.2)
theorem aFe:an3.ck:=by
 rintro⟨sp,U,X,Y,W⟩ ⟨By,U',X',Y',W'⟩ A H ⟨h1,h2,_⟩ ⟨k1,k2,_⟩;obtain⟨rfl,e⟩:=Fx (h2.symm.trans k2);rw[h1]at k1;simp only[iL,AV.bV.injEq,AV.aj.injEq,true_and,and_true]at k1 e;have e1:U.length=U'.length:=by omega
 have e2:(U++X).length=(U'++X').length:=by omega
 have e3:(U++X++Y).length=(U'++X'++Y').length:=by omega
 obtain⟨e4,rfl⟩:=mr e e3;obtain⟨e5,rfl⟩:=mr e4 e2;obtain⟨rfl,rfl⟩:=mr e5 e1;rfl
def Hr:Ev.bp:=bR 171 (bW an3 aFe cB) Xg
theorem Lf:aS Z Hr:=by refine cu afi ?_;rintro⟨sp,U,X,Y,W⟩ args H ⟨rfl,rfl,hl,hx,hy,hX,hY⟩;exact amQ (apF (X.length+Y.length)) hl hX hY (cE _) hx hy
def sbX:cq (List (Int×fO)×LI)where
 bh w A H:=A=[.aj 0 w.2.length 1,J (w.2.length:Int),cF]/\H=hS w.1 w.2/\w.2.length<400000
 v w:=.aC []
 aK w:=hS w.1 (cD (kS w.1) w.2)
theorem aBZ:sbX.ck:=by rintro⟨sp,l⟩ ⟨By,l'⟩ A H ⟨h1,h2,_⟩ ⟨k1,k2,_⟩;obtain⟨rfl,rfl⟩:=Fx (h2.symm.trans k2);rfl
def Xh:Ev.bp:=bR 154 (bW sbX aBZ cB) Hr
def soX:cq (List (Int×fO)×LI)where
 bh w A H:=A=[.aj 0 w.2.length 1,cF]/\H=hS w.1 w.2/\w.2.length<400000
 v w:=.aC []
 aK w:=hS w.1 (cD (kS w.1) w.2)
theorem aEM:soX.ck:=by rintro⟨sp,l⟩ ⟨By,l'⟩ A H ⟨h1,h2,_⟩ ⟨k1,k2,_⟩;obtain⟨rfl,rfl⟩:=Fx (h2.symm.trans k2);rfl
def EG:Ev.bp:=bR 122 (bW soX aEM cB) Xh
def Jq:Nat->LN:=fh [(2,[0,1,2,6,7,8]),(7,[0,1,2,6]),(9,[0,1,2,6,7,8])]
abbrev Ur x0 x1 x2 x3 x4:=bg [(0,.aj 0 x0 1),(1,J x1),(2,.bn (.func 123) [] [.aa 1 0]),(6,J x2),(7,J x3),(8,J x4)]
abbrev tK x0 x1:=aq [(0,bH x0 2),(1,.al [.aB 2] 193),(2,gL x1)] 3
theorem aBO{sp l L Q}:
 bC Z Hr Jq L Q 1000 154 [.aj 0 l.length 1,J (l.length:Int),cF] (hS sp l)=(
 L (Ur l.length ((l.length:Nat):Int) 20 0 20) (tK l sp) (ax Z 154 0)):=by kernel_rfl
abbrev ac8 x0 x1 x2:=bg [(0,.aj 0 x0 1),(1,J x1),(2,.bn (.func 123) [] [.aa 1 0]),(6,J x2)]
theorem aBI{sp l n s a b L Q}:
 cg Z Hr Jq L Q 1000 154 3 (bg [(0,.aj 0 l.length 1),(1,J n),(2,cF),(6,J s),(7,J a),(8,J b)]) (ax Z 154 0) (hS sp l)=(
 aw (decide (b<=n)) (∃w:List (Int×fO)×LI×LI×LI,(([.aj 0 l.length 1,J a,J b,.bn (.func 123) [] [.aa 1 0]]:LV)=[.aj 0 (w.2.1++w.2.2.1++w.2.2.2).length 1,J ((w.2.1.length:Nat):Int),J (((w.2.1++w.2.2.1).length:Nat):Int),.bn (.func 123) [] [.aa 1 0]]/\tK l sp=hS w.1 (w.2.1++w.2.2.1++w.2.2.2)/\(w.2.1++w.2.2.1++w.2.2.2).length<1200000)/\L (Ur l.length n s b (wI (b+s))) (tK (w.2.1++cD (kS w.1) w.2.2.1++w.2.2.2) w.1) (ax Z 154 0)) (∃w:List (Int×fO)×LI×LI×LI,(([.aj 0 l.length 1,J a,J n,.bn (.func 123) [] [.aa 1 0]]:LV)=[.aj 0 (w.2.1++w.2.2.1++w.2.2.2).length 1,J ((w.2.1.length:Nat):Int),J (((w.2.1++w.2.2.1).length:Nat):Int),.bn (.func 123) [] [.aa 1 0]]/\tK l sp=hS w.1 (w.2.1++w.2.2.1++w.2.2.2)/\(w.2.1++w.2.2.1++w.2.2.2).length<1200000)/\L (ac8 l.length n s) (tK (w.2.1++cD (kS w.1) w.2.2.1++w.2.2.2) w.1) (ax Z 154 1))):=by kernel_rfl
theorem aBK{sp l n s L Q}:
 cg Z Hr Jq L Q 1000 154 3 (bg [(0,.aj 0 l.length 1),(1,J n),(2,cF),(6,J s)]) (ax Z 154 1) (hS sp l)=(
 aw (decide (s<n)) (L (Ur l.length n s 0 (wI (2*s))) (tK l sp) (ax Z 154 2)) (Q (.aC []) (tK l sp))):=by kernel_rfl
theorem aBM{sp l n s a b L Q}:
 cg Z Hr Jq L Q 1000 154 3 (bg [(0,.aj 0 l.length 1),(1,J n),(2,cF),(6,J s),(7,J a),(8,J b)]) (ax Z 154 2) (hS sp l)=(
 aw (decide (b<=n)) (∃w:List (Int×fO)×LI×LI×LI×LI,(([.aj 0 l.length 1,J a,J (wI (a+s)),J b,.bn (.func 123) [] [.aa 1 0]]:LV)=[.aj 0 (w.2.1++w.2.2.1++w.2.2.2.1++w.2.2.2.2).length 1,J ((w.2.1.length:Nat):Int),J (((w.2.1++w.2.2.1).length:Nat):Int),J (((w.2.1++w.2.2.1++w.2.2.2.1).length:Nat):Int),.bn (.func 123) [] [.aa 1 0]]/\tK l sp=hS w.1 (w.2.1++w.2.2.1++w.2.2.2.1++w.2.2.2.2)/\(w.2.1++w.2.2.1++w.2.2.2.1++w.2.2.2.2).length<1200000/\0<w.2.2.1.length/\0<w.2.2.2.1.length/\dR (kS w.1) w.2.2.1/\dR (kS w.1) w.2.2.2.1)/\L (Ur l.length n s b (wI (b+wI (2*s)))) (tK (w.2.1++cD (kS w.1) (w.2.2.1++w.2.2.2.1)++w.2.2.2.2) w.1) (ax Z 154 2)) (aw (decide (wI (a+s)<n)) (∃w:List (Int×fO)×LI×LI×LI×LI,(([.aj 0 l.length 1,J a,J (wI (a+s)),J n,.bn (.func 123) [] [.aa 1 0]]:LV)=[.aj 0 (w.2.1++w.2.2.1++w.2.2.2.1++w.2.2.2.2).length 1,J ((w.2.1.length:Nat):Int),J (((w.2.1++w.2.2.1).length:Nat):Int),J (((w.2.1++w.2.2.1++w.2.2.2.1).length:Nat):Int),.bn (.func 123) [] [.aa 1 0]]/\tK l sp=hS w.1 (w.2.1++w.2.2.1++w.2.2.2.1++w.2.2.2.2)/\(w.2.1++w.2.2.1++w.2.2.2.1++w.2.2.2.2).length<1200000/\0<w.2.2.1.length/\0<w.2.2.2.1.length/\dR (kS w.1) w.2.2.1/\dR (kS w.1) w.2.2.2.1)/\L (ac8 l.length n (wI (s*2))) (tK (w.2.1++cD (kS w.1) (w.2.2.1++w.2.2.2.1)++w.2.2.2.2) w.1) (ax Z 154 1)) (L (ac8 l.length n (wI (s*2))) (tK l sp) (ax Z 154 1)))):=by kernel_rfl
theorem aA8{sp l L Q}:
 bC Z Xh (λ_=>[]) L Q 1000 122 [.aj 0 l.length 1,cF] (hS sp l)=(
 ∃w:List (Int×fO)×LI,(([.aj 0 l.length 1,J (aP l.length),.bn (.func 123) [] [.aa 1 0]]:LV)=[.aj 0 w.2.length 1,J ((w.2.length:Nat):Int),.bn (.func 123) [] [.aa 1 0]]/\tK l sp=hS w.1 w.2/\w.2.length<400000)/\Q (.aC []) (tK (cD (kS w.1) w.2) w.1)):=by kernel_rfl
def fl(key:Int->Int)(Bs:List LI):LI:=(Bs.map (cD key)).flatten
theorem Cq(key):∀Bs,(fl key Bs).length=Bs.flatten.length
 |[]=>rfl
 |B::Bs=>by have:=Cq key Bs;simp only[fl,gZ,JO,cL,rk]at this⊢;omega
theorem ahX(key Bs B):fl key (Bs++[B])=fl key Bs++cD key B:=by simp[fl]
theorem atq(key Bs B):fl key (B::Bs)=cD key B++fl key Bs:=by simp[fl]
def Ku(s:Nat)(Bs:List LI):Prop:=∀B∈Bs,B.length=s
section
variable{sp:List (Int×fO)}{jS:LI}
theorem aBN{s}(hl:jS.length<400000)(hs:20<=s)(hsn:s<jS.length)(next:∀Ms R l,l=fl (kS sp) Ms++cD (kS sp) R->Ms.flatten++R=jS->Ku (2*s) Ms->R.length<2*s->
 bu Z 154 63 3 (.aC []) (hS sp (cD (kS sp) jS)) (bg [(0,.aj 0 jS.length 1),(1,J (jS.length:Int)),(2,cF),(6,J ((2*s:Nat):Int))]) (hS sp l) (ax Z 154 1)):
 ∀k:List LI×List LI×LI×LI,(k.2.2.2=fl (kS sp) k.1++fl (kS sp) k.2.1++cD (kS sp) k.2.2.1/\k.1.flatten++k.2.1.flatten++k.2.2.1=jS/\Ku (2*s) k.1/\Ku s k.2.1/\k.2.2.1.length<s)->
 bu Z 154 63 3 (.aC []) (hS sp (cD (kS sp) jS)) (bg [(0,.aj 0 jS.length 1),(1,J (jS.length:Int)),(2,cF),(6,J (s:Int)),(7,J (k.1.flatten.length:Int)),(8,J ((k.1.flatten.length+2*s:Nat):Int))]) (hS sp k.2.2.2) (ax Z 154 2):=by
 refine dF (λk=>k.2.1.length) _ _ _ _ ?_;rintro⟨Ms,Bs,R,l⟩ ⟨fy,ho,hM,hB,hR⟩ ih;simp only at fy ho hM hB hR ih⊢;have bS:l.length=jS.length:=by rw[fy,<-ho];simp only[cL,Cq,rk]
 have sK:Ms.flatten.length+Bs.flatten.length+R.length=jS.length:=by rw[<-ho];simp only[cL]
 rw[<-bS];refine hD Lf Jq ?_;rw[aBM];have ll:wI (2*(s:Int))=((2*s:Nat):Int):=by rw[cH]<;>omega
 have tW:wI ((s:Int)*2)=((2*s:Nat):Int):=by rw[cH]<;>omega
 have hw3:wI ((Ms.flatten.length:Int)+(s:Int))=((Ms.flatten.length+s:Nat):Int):=by rw[cH]<;>omega
 have hw4:wI (((Ms.flatten.length+2*s:Nat):Int)+((2*s:Nat):Int))=((Ms.flatten.length+2*s+2*s:Nat):Int):=by rw[cH]<;>omega
 rw[ll,tW,hw3,hw4];have d:=λx=>(wU (kS sp) x).1
 refine iN (λh=>?_) (λh=>?_)
 .have h:=dX h;cases Bs with
  |nil=>simp only[NT,gY]at sK;omega
  |cons B1 Bs=>
   have mQ:=hB B1 (by simp);cases Bs with
   |nil=>simp only[JO,NT,cL,gY]at sK;omega
   |cons B2 Bs=>
    have iQ:=hB B2 (by simp);have e:l=fl (kS sp) Ms++cD (kS sp) B1++cD (kS sp) B2++(fl (kS sp) Bs++cD (kS sp) R):=by rw[fy];simp[atq]
    refine⟨(sp,fl (kS sp) Ms,cD (kS sp) B1,cD (kS sp) B2,fl (kS sp) Bs++cD (kS sp) R),⟨?_,?_,?_,?_,?_,d _,d _⟩,?_⟩
    .simp only;rw[<-e];simp only[cL,Cq,rk,mQ,iQ];congr 5;omega
    .simp only;rw[<-e];rfl
    .simp only;rw[<-e];omega
    .simp only[rk];omega
    .simp only[rk];omega
    .have:=ih (Ms++[B1++B2],Bs,R,fl (kS sp) Ms++cD (kS sp) (cD (kS sp) B1++cD (kS sp) B2)++(fl (kS sp) Bs++cD (kS sp) R)) ⟨by simp only[ahX,anU,km],by rw[<-ho];simp,by
      intro B hb;rcases iW.1 hb with hb|hb
      .exact hM B hb
      .simp only[pD]at hb;subst hb;simp only[cL];omega,λB hb=>hB B (by simp[hb]),hR⟩ (by simp;omega)
     have el:(Ms++[B1++B2]).flatten.length=Ms.flatten.length+2*s:=by simp;omega
     rw[el]at this;rw[bS];exact this
 .have h:=eB h;cases Bs with
  |nil=>
   simp only[NT,gY]at sK;refine iN (λh=>?_) (λh=>?_)
   .have h:=dX h;omega
   .have:=next Ms R l (by rw[fy];simp[fl]) (by rw[<-ho];simp) hM (by omega)
    rw[bS];exact this
  |cons B1 Bs=>
   have mQ:=hB B1 (by simp);cases Bs with
   |cons B2 Bs=>have iQ:=hB B2 (by simp);simp only[JO,cL]at sK;omega
   |nil=>
    simp only[JO,NT,jH]at sK ho;refine iN (λh=>?_) (λh=>?_)
    .have h:=dX h;have e:l=fl (kS sp) Ms++cD (kS sp) B1++cD (kS sp) R++[]:=by rw[fy];simp[fl]
     refine⟨(sp,fl (kS sp) Ms,cD (kS sp) B1,cD (kS sp) R,[]),⟨?_,?_,?_,?_,?_,d _,d _⟩,?_⟩
     .simp only;rw[<-e];simp only[cL,Cq,rk,mQ,bS];congr 5;omega
     .simp only;rw[<-e];rfl
     .simp only;rw[<-e];omega
     .simp only[rk];omega
     .simp only[rk];omega
     .have:=next Ms (B1++R) (fl (kS sp) Ms++cD (kS sp) (cD (kS sp) B1++cD (kS sp) R)++[]) (by rw[anU];simp) (by rw[<-ho];simp) hM (by simp;omega)
      rw[bS];exact this
    .have h:=eB h;have ZQ:R=[]:=by rw[<-sX];omega
     subst ZQ;have:=next Ms B1 l (by rw[fy];simp[fl,cD]) (by rw[<-ho];simp) hM (by omega)
     rw[bS];exact this
theorem aBL(hl:jS.length<400000):
 ∀k:Nat×List LI×LI×LI,(k.2.2.2=fl (kS sp) k.2.1++cD (kS sp) k.2.2.1/\k.2.1.flatten++k.2.2.1=jS/\Ku k.1 k.2.1/\k.2.2.1.length<k.1/\20<=k.1)->
 bu Z 154 63 3 (.aC []) (hS sp (cD (kS sp) jS)) (bg [(0,.aj 0 jS.length 1),(1,J (jS.length:Int)),(2,cF),(6,J (k.1:Int))]) (hS sp k.2.2.2) (ax Z 154 1):=by
 refine dF (λk=>jS.length-k.1) _ _ _ _ ?_;rintro⟨s,Bs,R,l⟩ ⟨fy,ho,hB,hR,hs⟩ ih;simp only at fy ho hB hR hs ih⊢;have bS:l.length=jS.length:=by rw[fy,<-ho];simp only[cL,Cq,rk]
 have sK:Bs.flatten.length+R.length=jS.length:=by rw[<-ho];simp
 have key:= @aBN sp jS s hl hs;rw[<-bS];refine hE Lf aBK ?_;refine iN (λh=>?_) (λh=>?_)
 .have h:=dX h;have h:s<jS.length:=by omega
  have:=key h (λMs R' l' h1 h2 h3 h4=>ih (2*s,Ms,R',l') ⟨h1,h2,h3,h4,by simp only;omega⟩ (by simp only;omega)) ([],Bs,R,l) ⟨by rw[fy];simp[fl],by rw[<-ho];simp,(by intro B hb;cases hb),hB,hR⟩;simp at this;have ll:wI (2*(s:Int))=((2*s:Nat):Int):=by rw[cH]<;>omega
  rw[ll,bS];exact this
 .have h:=eB h;have:l=cD (kS sp) jS:=by
   cases Bs with
   |nil=>rw[fy,<-ho];simp[fl]
   |cons B1 Bs=>
    have mQ:=hB B1 (by simp);cases Bs with
    |nil=>
     simp at sK ho;have ZQ:R=[]:=by rw[<-sX];omega
     subst ZQ;rw[fy,<-ho];simp[fl,cD]
    |cons B2 Bs=>have iQ:=hB B2 (by simp);simp at sK;omega
  rw[this];exact⟨rfl,rfl⟩
theorem aBJ(hl:jS.length<400000):
 ∀k:List LI×LI×LI,(k.2.2=fl (kS sp) k.1++k.2.1/\k.1.flatten++k.2.1=jS/\Ku 20 k.1)->
 bu Z 154 63 3 (.aC []) (hS sp (cD (kS sp) jS)) (bg [(0,.aj 0 jS.length 1),(1,J (jS.length:Int)),(2,cF),(6,J 20),(7,J (k.1.flatten.length:Int)),(8,J ((k.1.flatten.length+20:Nat):Int))]) (hS sp k.2.2) (ax Z 154 0):=by
 refine dF (λk=>k.2.1.length) _ _ _ _ ?_;rintro⟨Bs,R,l⟩ ⟨fy,ho,hB⟩ ih;simp only at fy ho hB ih⊢;have bS:l.length=jS.length:=by rw[fy,<-ho];simp only[cL,Cq]
 have sK:Bs.flatten.length+R.length=jS.length:=by rw[<-ho];simp
 have key:= @aBL sp jS hl;rw[<-bS];refine hE Lf aBI ?_;refine iN (λh=>?_) (λh=>?_)
 .have h:=dX h;obtain⟨X,R,rfl,hX⟩:=XA (l:=R) (n:=20) (by omega);simp at sK;have e:l=fl (kS sp) Bs++X++R:=by rw[fy];simp
  refine⟨(sp,fl (kS sp) Bs,X,R),⟨?_,?_,?_⟩,?_⟩
  .simp only;rw[<-e];simp only[cL,Cq,hX]
  .simp only;rw[<-e];rfl
  .simp only;rw[<-e];omega
  .have:=ih (Bs++[X],R,fl (kS sp) Bs++cD (kS sp) X++R) ⟨by simp only[ahX],by rw[<-ho];simp,by
    intro B hb;rcases iW.1 hb with hb|hb
    .exact hB B hb
    .simp at hb;subst hb;exact hX⟩ (by simp;omega)
   have el:(Bs++[X]).flatten.length=Bs.flatten.length+20:=by simp;omega
   rw[el]at this;have hw:wI (((Bs.flatten.length+20:Nat):Int)+20)=((Bs.flatten.length+20+20:Nat):Int):=by rw[cH]<;>omega
   rw[hw,bS];exact this
 .have h:=eB h;have e:l=fl (kS sp) Bs++R++[]:=by rw[fy];simp
  refine⟨(sp,fl (kS sp) Bs,R,[]),⟨?_,?_,?_⟩,?_⟩
  .simp only;rw[<-e];simp only[cL,Cq,sK,bS]
  .simp only;rw[<-e];rfl
  .simp only;rw[<-e];omega
  .have:=key (20,Bs,R,fl (kS sp) Bs++cD (kS sp) R++[]) ⟨by simp,ho,hB,by simp only;omega,by simp⟩;rw[bS];exact this
end
theorem afj:aS Z Xh:=by refine cu Lf ?_;rintro⟨sp,l⟩ args H ⟨rfl,rfl,hl⟩;refine eS Lf Jq 63 ?_;simp;rw[aBO];exact aBJ hl ([],l,l) ⟨by simp[fl],by simp,(by intro B hb;cases hb)⟩
theorem Ht:aS Z EG:=by refine cu afj ?_;rintro⟨sp,l⟩ args H ⟨rfl,rfl,hl⟩;refine eS afj (λ_=>[]) 9 ?_;simp;rw[aA8];exact⟨(sp,l),⟨rfl,rfl,hl⟩,rfl,rfl⟩
end
end Go.Cl
