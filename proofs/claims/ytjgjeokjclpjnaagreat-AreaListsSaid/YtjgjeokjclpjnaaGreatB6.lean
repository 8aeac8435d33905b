/- Part of a proof of AreaLists. -/
import Derived.Test.YtjgjeokjclpjnaaGreatB5
set_option linter.all false
set_option linter.unusedSectionVars false
set_option maxRecDepth 100000
namespace Go.Cl
open Go.Ev Go.Proofs
noncomputable section
structure ib where
 id:Int
 c:nN
structure fu where
 iR:LN
 ar:Int
 A_:Bool
 bO:List ib
structure Db where
 next:Int
 gD:List fu
def qW(s:ib):LV:=J s.id::(aW s.c.1++aW s.c.2)
def mr:List ib->LV
 |[]=>[]
 |s::l=>qW s++mr l
def zJ(p:fu):LV:=[.ab p.iR,J p.ar,.ao p.A_,.ad (mr p.bO) p.bO.length 9]
def fo:List fu->LV
 |[]=>[]
 |s::l=>zJ s++fo l
def lA(d:Db):LV:=[J d.next,.ad (fo d.gD) d.gD.length 4]
theorem Pv(s):(qW s).length=9:=by simp[qW,sE]
theorem WS{s s'}(h:qW s=qW s'):s=s':=by have⟨i,c⟩:=s;have⟨i',c'⟩:=s';simp only[qW,jn,AV.bU.injEq,true_and]at h;rw[h.1,A4 h.2]
theorem afz:∀{l m},l.length=m.length->mr l=mr m->l=m
 |[],[],_,_=>rfl
 |[],_::_,h,_=>by simp at h
 |_::_,[],h,_=>by simp at h
 |t::l,u::m,hl,h=>by have h2:=l4 h (by rw[Pv,Pv]);rw[WS h2.1,afz (by simpa using hl) h2.2]
theorem aqi{s s'}(h:zJ s=zJ s'):s=s':=by have⟨a,b,c,d⟩:=s;have⟨a',b',c',d'⟩:=s';simp only[zJ,jn,AV.bU.injEq,AV.ab.injEq,AV.ao.injEq,AV.ad.injEq,true_and,and_true]at h;obtain⟨rfl,rfl,rfl,h1,h2⟩:=h;rw[afz h2 h1]
theorem KG:∀{l m},l.length=m.length->fo l=fo m->l=m
 |[],[],_,_=>rfl
 |[],_::_,h,_=>by simp at h
 |_::_,[],h,_=>by simp at h
 |t::l,u::m,hl,h=>by have h2:=l4 h (by simp[zJ]);rw[aqi h2.1,KG (by simpa using hl) h2.2]
theorem aqf{s s'}(h:lA s=lA s'):s=s':=by have⟨a,b⟩:=s;have⟨a',b'⟩:=s';simp only[lA,jn,AV.bU.injEq,AV.ad.injEq,true_and,and_true]at h;obtain⟨rfl,h1,h2⟩:=h;rw[KG h2 h1]
theorem aa0{α:Type}{enc:α->LV}{KJ:List α->LV}{sz}(hn:KJ []=[])(hc:∀a l,KJ (a::l)=enc a++KJ l)(cv:∀a,(enc a).length=sz):∀{l i} (h:i<l.length),((KJ l).drop (i*sz)).take sz=enc l[i]
 |[],i,h=>by simp at h
 |a::l,0,h=>by rw[qel,xf,hc];exact xm (cv a)
 |a::l,i+1,h=>by
  have hl:i<l.length:=by simpa using h
  have:=aa0 hn hc cv hl;rw[hc,Cz,<-this];have e:(i+1)*sz=(enc a).length+i*sz:=by rw[cv,xp,Nat.one_mul,Nat.add_comm]
  rw[e,I2]
theorem Bd{l i}(h:i<l.length):((fo l).drop (i*4)).take 4=zJ l[i]:=aa0 (KJ:=fo) rfl (λ_ _=>rfl) (λ_=>rfl) h
theorem KH{l i}(h:i<l.length):((mr l).drop (i*9)).take 9=qW l[i]:=aa0 rfl (λ_ _=>rfl) Pv h
def rm(c:nN):Prop:=bL c.1/\bL c.2
def RL(p:fu):Prop:=dt p.iR.length/\dt p.bO.length/\∀s∈p.bO,rm s.c
def vG(d:Db):Prop:=dt d.gD.length/\∀p∈d.gD,RL p
def DL(a b:LN):Int:=if kg a b then-1 else if !(kg a b||bW a b)then 1 else 0
def ajd:LV->Option (Prop×AV)
 |[.ab s]=>some (True,.ao false)
 |_=>none
def Us:Ev.bo:=e9 109 (fK ajd) Ur
def aeN:LV->Option (Prop×AV)
 |[.ab a,.ab b]=>some (True,J (DL a b))
 |_=>none
def Ut:Ev.bo:=e9 73 (fK aeN) Us
def orX:cx (Int×Int)where
 bn w A H:=A=[.bq 0 0 2 2 1 true]/\H=al [(0,.aj [J w.1,J w.2] 3)] 1
 v w:=J (if w.1=0 then w.2 else w.1)
 aK w:=al [(0,.aj [J w.1,J w.2] 3)] 1
theorem avd:orX.cr:=by rintro⟨a,b⟩ ⟨a',b'⟩ A H ⟨_,h1⟩ ⟨_,h2⟩;rw[h1]at h2;have:=congrArg (λH=>AH.bf H 0) h2;simp only[eh,cN,if_true,pg,bk.aj.injEq,jn,AV.bU.injEq,true_and,and_true]at this;rw[this.1,this.2]
def Uu:Ev.bo:=bR 72 (ca orX avd cD) Ut
def RU(n:LN)(a:Int)(n':LN)(a':Int):Int:=if DL n n'=0 then qQ a a' else DL n n'
def ajF:LV->Option (Prop×AV)
 |[.ah [.ab n,.bU .i64 a,.ao d,.ad cs len 9],.ah [.ab n',.bU .i64 a',.ao d',.ad cs' cB 9]]=>some (True,J (RU n a n' a'))
 |_=>none
def Uv:Ev.bo:=e9 47 (fK ajF) Uu
def yN(s:LN)(a:Int):Bool:=decide ((s.length:Int)<=100)&&decide (a>=0)&&decide (a<=8)
def aje:LV->Option (Prop×AV)
 |[.ab s,.bU .i64 a]=>some (True,.ao (yN s a))
 |_=>none
def Og:Ev.bo:=e9 46 (fK aje) Uv
def y8:Int->List fu->Int
 |n,[]=>n
 |n,p::l=>y8 (wI (n+(p.bO.length:Int))) l
def toX:cx Db where
 bn d A H:=A=[.ah (lA d)]/\H=an/\vG d
 v d:=J (y8 0 d.gD)
 aK d:=an
theorem Wp{d d'}{A:LV}(h1:A=[.ah (lA d)])(h2:A=[.ah (lA d')]):d=d':=by rw[h1]at h2;simp at h2;exact aqf h2
theorem aCu:toX.cr:=λt t' A H h1 h2=>by rw[Wp h1.1 h2.1]
def JT:Ev.bo:=bR 45 (ca toX aCu cD) Og
def vZ(next:Int)(p:fu)(bE:LI)(s:ib):Bool:= !decide (s.id<1)&& !decide (s.id>=next)&& !decide (s.id∈bE)&&jt s.c&&bW s.c.1.cK p.iR&&((s.c.1.bh.length:Int)==p.ar)
def yc(next:Int)(p:fu):LI->List ib->Option LI
 |bE,[]=>some bE
 |bE,s::l=>if vZ next p bE s then yc next p (bE++[s.id]) l else none
def Au:Option fu->fu->Bool
 |none,_=>true
 |some q,p=> !decide (RU q.iR q.ar p.iR p.ar>=0)
def uu(next:Int):Option fu->LI->List fu->Bool
 |_,_,[]=>true
 |q,bE,p::l=>if yN p.iR p.ar&&Au q p then(match yc next p bE p.bO with|some xz=>uu next (some p) xz l|none=>false)else false
def oj(d:Db):Bool:= !decide (d.next<1)&& !decide (d.next>4294967296)&& !decide ((d.gD.length:Int)>500)&& !decide (y8 0 d.gD>500)&&uu d.next none [] d.gD
def vdX:cx Db where
 bn d A H:=A=[.ah (lA d)]/\H=an/\vG d
 v d:=.ao (oj d)
 aK d:=an
theorem aC6:vdX.cr:=λt t' A H h1 h2=>by rw[Wp h1.1 h2.1]
def Ux:Ev.bo:=bR 22 (ca vdX aC6 cD) JT
def ZI:Nat->LN:=fT [(3,[3,7,8,9])]
def Rl:Nat->LN:=fT [(6,[1,3,4,30,31,32]),(11,[1,3,4,6,30,31,32,59,60,61])]
def iG(next:Int)(cs:LV)(len:Nat):bk:=.aj [J next,.ad cs len 4] 24
def ru(nm:LN)(ar:Int)(dy:Bool)(cs:LV)(len:Nat):bk:=.aj [.ab nm,J ar,.ao dy,.ad cs len 9] 34
abbrev t22(cs:LV)(len:Nat)(i:Int):Tr AV:=aB [(1,.aa 0 0),(3,.aA 1),(4,.ao true),(30,.ad cs len 4),(31,J (Int.ofNat len)),(32,J i)]
abbrev abq(cs:LV)(len:Nat)(i:Int)(ss:LV)(sl:Nat)(j:Int):Tr AV:=aB [(1,.aa 0 0),(3,.aA 1),(4,.ao true),(6,.aa 2 0),(30,.ad cs len 4),(31,J (Int.ofNat len)),(32,J i),(59,.ad ss sl 9),(60,J (Int.ofNat sl)),(61,J j)]
theorem azQ{s L Q}:
 bI Z Ur (λ_=>[]) L Q 1000 109 [.ab s] an=(
 Q (.ao (!bW s s)) an):=by kernel_rfl
theorem aBw{a b L Q}:
 bI Z Us (λ_=>[]) L Q 1000 73 [.ab a,.ab b] an=(
 (al [] 0=an/\True)/\(al [] 0=an/\True)/\aq (kg a b) (Q (J (-1)) an) (aq (!(kg a b||bW a b)) (Q (J 1) an) (Q (J 0) an))):=by kernel_rfl
theorem aBv{a b L Q}:
 bI Z Ut (λ_=>[1000000]) L Q 1000 72 [.bq 0 0 2 2 1 true] (al [(0,.aj [J a,J b] 3)] 1)=(
 aq (a !=0) (Q (J a) (al [(0,.aj [J a,J b] 3)] 1)) (aq (b !=0) (Q (J b) (al [(0,.aj [J a,J b] 3)] 1)) (Q (J 0) (al [(0,.aj [J a,J b] 3)] 1)))):=by kernel_rfl
theorem aA5{n a d cs len n' a' d' cs' cB L Q}:
 bI Z Uu (λ_=>[]) L Q 1000 47 [.ah [.ab n,J a,.ao d,.ad cs len 9],.ah [.ab n',J a',.ao d',.ad cs' cB 9]] an=(
 (al [] 0=an/\True)/\some (J a':AV)=some (J a':AV)/\some (J a:AV)=some (J a:AV)/\(al [] 0=an/\True)/\(∃w:Int×Int,(([.bq 0 0 2 2 1 true]:LV)=[.bq 0 0 2 2 1 true]/\al [(0,.aj [J (DL n n'),J (qQ a a')] 3)] 1=al [(0,.aj [J w.1,J w.2] 3)] 1)/\Q (J (if w.1=0 then w.2 else w.1)) an)):=by kernel_rfl
theorem aA4{s a L Q}:
 bI Z Uv (λ_=>[]) L Q 1000 46 [.ab s,J a] an=(
 aq (decide (Int.ofNat s.length<=100)) (aq (decide (a>=0)) (Q (.ao (decide (a<=8))) an) (Q (.ao false) an)) (Q (.ao false) an)):=by kernel_rfl
theorem aA2{next cs len L Q}:
 bI Z Og ZI L Q 1000 45 [.ah [J next,.ad cs len 4]] an=(
 L (aB [(3,J 0),(7,.ad cs len 4),(8,J (Int.ofNat len)),(9,J 0)]) an (aw Z 45 0)):=by kernel_rfl
theorem aA3{cs len n i L Q}:
 ck Z Og ZI L Q 1000 45 0 (aB [(3,J n),(7,.ad cs len 4),(8,J (Int.ofNat len)),(9,J i)]) (aw Z 45 0) an=(
 aq (decide (i<Int.ofNat len)) (∃aL:Nat,i=(aL:Int)/\aL<len/\(∃s aP b bP bH,((cs.drop (aL*4)).take 4:List AV)=[.ab s,J aP,.ao b,.ad bP bH 9]/\L (aB [(3,J (wI (n+Int.ofNat bH))),(7,.ad cs len 4),(8,J (Int.ofNat len)),(9,J (wI (i+1)))]) an (aw Z 45 0))) (Q (J n) an)):=by kernel_rfl
theorem aAC{next cs len L Q}:
 bI Z JT Rl L Q 1000 22 [.ah [J next,.ad cs len 4]] an=(
 aq (decide (next<1)) (Q (.ao false) an) (aq (decide (next>4294967296)) (Q (.ao false) an) (aq (decide (Int.ofNat len>500)) (Q (.ao false) an) (∃w,(([.ah [J next,.ad cs len 4]]:LV)=[.ah (lA w)]/\al [] 0=an/\vG w)/\aq (decide (y8 0 w.gD>500)) (Q (.ao false) an) (L (aB [(1,.aa 0 0),(3,.aA 1),(4,.ao true),(30,.ad cs len 4),(31,J (Int.ofNat len)),(32,J 0)]) (al [(0,iG next cs len),(1,.bm [] 0 true)] 2) (aw Z 22 0)))))):=by kernel_rfl
theorem aAE{next cs len i bE L Q}:
 ck Z JT Rl L Q 1000 22 0 (t22 cs len i) (aw Z 22 0) (al [(0,iG next cs len),(1,o9 bE)] 2)=(
 aq (decide (i<Int.ofNat len)) (∃aL:Nat,i=(aL:Int)/\aL<len/\(∃s n b bP bH,((cs.drop (aL*4)).take 4:List AV)=[.ab s,J n,.ao b,.ad bP bH 9]/\(al [] 0=an/\True)/\aq (!yN s n) (Q (.ao false) an) (aq (decide (i>0)) (∃cG:Nat,wI (i-1)=(cG:Int)/\cG<len/\(∃cn aP iE gN gP,((cs.drop (cG*4)).take 4:List AV)=[.ab cn,J aP,.ao iE,.ad gN gP 9]/\(al [] 0=an/\True)/\aq (decide (RU cn aP s n>=0)) (Q (.ao false) an) (L (aB [(1,.aa 0 0),(3,.aA 1),(4,.ao true),(6,.aa 2 0),(30,.ad cs len 4),(31,J (Int.ofNat len)),(32,J i),(59,.ad bP bH 9),(60,J (Int.ofNat bH)),(61,J 0)]) (al [(0,iG next cs len),(1,o9 bE),(2,ru s n b bP bH)] 3) (aw Z 22 1)))) (L (aB [(1,.aa 0 0),(3,.aA 1),(4,.ao true),(6,.aa 2 0),(30,.ad cs len 4),(31,J (Int.ofNat len)),(32,J i),(59,.ad bP bH 9),(60,J (Int.ofNat bH)),(61,J 0)]) (al [(0,iG next cs len),(1,o9 bE),(2,ru s n b bP bH)] 3) (aw Z 22 1))))) (Q (.ao true) an)):=by kernel_rfl
theorem aAB{next cs len i bE nm ar dy ss sl j L Q}:
 ck Z JT Rl L Q 1000 22 0 (abq cs len i ss sl j) (aw Z 22 1) (al [(0,iG next cs len),(1,o9 bE),(2,ru nm ar dy ss sl)] 3)=(
 aq (decide (j<Int.ofNat sl)) (∃aL:Nat,j=(aL:Int)/\aL<sl/\(∃n aP bA s bP bH cf dc cn gN gP,((ss.drop (aL*9)).take 9:List AV)=[J n,J aP,J bA,.ab s,.ad bP bH 4,J cf,J dc,.ab cn,.ad gN gP 4]/\(∃iP b,eT Z 2 3 (bJ J 0 (mV bE)) (J n)=some (J iP,b)/\(∃bF c',jX Z 2 (bJ J 0 (mV bE)) (mV bE).length (J n) (J (wI (iP+1)))=some (bF,c')/\aq (decide (n<1)) (Q (.ao false) an) (aq (decide (n>=next)) (Q (.ao false) an) (∃oC iE,eT Z 2 3 bF (J n)=some (J oC,iE)/\aq (decide (oC>1)) (Q (.ao false) an) (∃w,(([.ah [J aP,J bA,.ab s,.ad bP bH 4,J cf,J dc,.ab cn,.ad gN gP 4]]:LV)=[.ah (HAppend.hAppend (aW w.1) (aW w.2))]/\al [] 0=an/\bL w.1/\bL w.2)/\aq (!jt w) (Q (.ao false) an) (aq (!bW s nm) (Q (.ao false) an) (aq (Int.ofNat bH !=ar) (Q (.ao false) an) (L (aB [(1,.aa 0 0),(3,.aA 1),(4,.ao true),(6,.aa 2 0),(30,.ad cs len 4),(31,J (Int.ofNat len)),(32,J i),(59,.ad ss sl 9),(60,J (Int.ofNat sl)),(61,J (wI (j+1)))]) (al [(0,iG next cs len),(1,.bm bF c' true),(2,ru nm ar dy ss sl)] 3) (aw Z 22 1))))))))))) (L (aB [(1,.aa 0 0),(3,.aA 1),(4,.ao true),(30,.ad cs len 4),(31,J (Int.ofNat len)),(32,J (wI (i+1)))]) (al [(0,iG next cs len),(1,o9 bE)] 2) (aw Z 22 0))):=by kernel_rfl
theorem afO:∀s,bW s s=true
 |[]=>rfl
 |a::l=>by simp only[bW,k7,cond_true];exact afO l
theorem acR:aU Z Us:=by
 refine jD acQ λargs q v h hq=>?_
 unfold ajd at h;split at h<;>cases h;refine eS acQ 1000 (λ_=>[]) 6 (by kernel_rfl) ?_;rw[azQ,afO];exact⟨rfl,rfl⟩
theorem acS:aU Z Ut:=by
 refine jD acR λargs q v h hq=>?_
 unfold aeN at h;split at h<;>cases h;rename_i a b;refine eS acR 1000 (λ_=>[]) 20 (by kernel_rfl) ?_;rw[aBw,DL];generalize kg a b=x;generalize bW a b=y;cases x<;>cases y<;>exact⟨⟨rfl,trivial⟩,⟨rfl,trivial⟩,rfl,rfl⟩
theorem acT:aU Z Uu:=by
 refine cA acS ?_;rintro⟨a,b⟩ args H ⟨rfl,rfl⟩;refine eS acS 1000 (λ_=>[1000000]) 18 (by kernel_rfl) ?_;simp only[orX];rw[aBv];refine aD.2 ⟨λh=>?_,λh=>aD.2 ⟨λh2=>?_,λh2=>?_⟩⟩
 .have h:¬a=0:=by simpa using h
  rw[az h];exact⟨rfl,rfl⟩
 .have h:a=0:=by simpa using h
  rw[aO h];exact⟨rfl,rfl⟩
 .have h:a=0:=by simpa using h
  have h2:b=0:=by simpa using h2
  rw[aO h,h2,h];exact⟨rfl,rfl⟩
theorem acU:aU Z Uv:=by
 refine jD acT λargs q v h hq=>?_
 unfold ajF at h;split at h<;>cases h;rename_i n a d cs len n' a' d' cs' cB;refine eE 17 acT aA5 ?_;exact⟨⟨rfl,trivial⟩,rfl,rfl,⟨rfl,trivial⟩,(DL n n',qQ a a'),⟨rfl,rfl⟩,rfl,rfl⟩
theorem Uw:aU Z Og:=by
 refine jD acU λargs q v h hq=>?_
 unfold aje at h;split at h<;>cases h;rename_i s a;refine eS acU 1000 (λ_=>[]) 16 (by kernel_rfl) ?_;rw[aA4,yN,sa];generalize decide ((s.length:Int)<=100)=x;generalize decide (a>=0)=y;cases x<;>cases y<;>exact⟨rfl,rfl⟩
theorem aA1{l aH}(hl:dt l.length):∀p:Nat×Int,(p.1<=l.length/\y8 p.2 (l.drop p.1)=aH)->
 br Z 45 20 0 (J aH) an (aB [(3,J p.2),(7,.ad (fo l) l.length 4),(8,J (Int.ofNat l.length)),(9,J (p.1:Int))]) an (aw Z 45 0):=by
 refine dS (λp=>l.length-p.1) _ _ _ _ ?_;rintro⟨i,n⟩ ⟨hi,hf⟩ ih;refine hE Uw aA3 ?_;refine aD.2 ⟨λax=>?_,λbu=>?_⟩
 .have ax:i<l.length:=by simpa using ax
  rw[fY ax,y8]at hf;refine⟨i,rfl,ax,l[i].iR,l[i].ar,l[i].A_,mr l[i].bO,l[i].bO.length,Bd ax,?_⟩;rw[lh hl ax];exact ih (i+1,_) ⟨ax,hf⟩ (by simp only;omega)
 .have bu:l.length<=i:=by simpa using bu
  rw[gQ bu,y8]at hf;subst hf;exact⟨rfl,rfl⟩
theorem Oh:aU Z JT:=by refine cA Uw ?_;rintro⟨next,l⟩ args H ⟨rfl,rfl,ho⟩;refine eS Uw 1000 ZI 20 (by kernel_rfl) ?_;simp only[lA];rw[aA2];exact aA1 ho.1 (0,0) ⟨gq _,rfl⟩
def IZ(l:List fu):Nat->Option fu
 |0=>none
 |k+1=>l[k]?
def adK(next:Int)(p:fu)(rest:List fu):Option LI->Bool
 |some bE=>uu next (some p) bE rest
 |none=>false
theorem avA(next q bE p l):uu next q bE (p::l)=(yN p.iR p.ar&&Au q p&&adK next p l (yc next p bE p.bO)):=by
 rw[uu];cases yN p.iR p.ar&&Au q p
 .rfl
 .simp;cases yc next p bE p.bO<;>rfl
theorem aiG(bE n):eT Z 2 3 (bJ J 0 (mV bE)) (J n)=some (J (if n∈bE then 1 else 0),if n∈bE then true else false):=by
 rw[o7 J jv,Rd];by_cases h:n∈bE
 .simp[h]
 .simp[h,F2]
theorem aAD{next l}{i:Nat}{p rest aH}(ho:RL p)(after:∀bE,uu next (some p) bE rest=aH->br Z 22 115 0 (.ao aH) an (t22 (fo l) l.length (wI ((i:Int)+1))) (al [(0,iG next (fo l) l.length),(1,o9 bE)] 2) (aw Z 22 0)):
 ∀q:Nat×LI,(q.1<=p.bO.length/\adK next p rest (yc next p q.2 (p.bO.drop q.1))=aH)->
 br Z 22 115 0 (.ao aH) an (abq (fo l) l.length (i:Int) (mr p.bO) p.bO.length (q.1:Int)) (al [(0,iG next (fo l) l.length),(1,o9 q.2),(2,ru p.iR p.ar p.A_ (mr p.bO) p.bO.length)] 3) (aw Z 22 1):=by
 refine dS (λq=>p.bO.length-q.1) _ _ _ _ ?_;rintro⟨j,bE⟩ ⟨hj,hf⟩ ih;refine hE Oh aAB ?_;refine aD.2 ⟨λax=>?_,λbu=>?_⟩
 .have ax:j<p.bO.length:=by simpa using ax
  have hc:=ho.2.2 _ (pW ax);rw[fY ax,yc]at hf;generalize hg:p.bO[j]=s at hf hc;have bX:=KH ax;rw[hg]at bX;have⟨id,⟨k,n,nm,ts⟩,⟨k',n',lV,kH⟩⟩:=s;refine⟨j,rfl,ax,id,k,n,nm,aF ts,ts.length,k',n',lV,aF kH,kH.length,bX,_,_,aiG bE id,?_⟩;have CU:vZ next p bE ⟨id,(.mk k n nm ts,.mk k' n' lV kH)⟩=false->fA (.ao aH) an (.ao false) an:=by intro h;rw[h]at hf;simp at hf;subst hf;exact⟨rfl,rfl⟩
  by_cases iK:id∈bE
  .rw[aO iK,show wI (1+1)=2 from by rw[cO (by omega) (by omega)];rfl];refine⟨_,_,pk J jv,aD.2 ⟨λh=>CU ?_,λ_=>aD.2 ⟨λh=>CU ?_,λ_=>⟨2,true,by rw[o7 J jv,Re];simp,aD.2 ⟨λ_=>CU ?_,λh=>(by cases h)⟩⟩⟩⟩⟩;all_goals simp[vZ,iK]
  .rw[az iK,show wI (0+1)=1 from by rw[cO (by omega) (by omega)];rfl];refine⟨_,_,pk J jv,?_⟩;rw[abG iK];refine aD.2 ⟨λh=>CU ?_,λh1=>aD.2 ⟨λh=>CU ?_,λh2=>⟨1,true,by rw[aiG];simp,aD.2 ⟨λh=>(by cases h),λ_=>⟨(.mk k n nm ts,.mk k' n' lV kH),⟨rfl,rfl,hc.1,hc.2⟩,aD.2 ⟨λh=>CU ?_,λh3=>aD.2 ⟨λh=>CU ?_,λh4=>aD.2 ⟨λh=>CU ?_,λh5=>?_⟩⟩⟩⟩⟩⟩⟩⟩
   .simp[vZ,dQ h]
   .simp[vZ,dQ h]
   .simp[vZ,show jt (.mk k n nm ts,.mk k' n' lV kH)=false by simpa using h]
   .simp[vZ,aI.cK,show bW nm p.iR=false by simpa using h]
   .have h:¬(ts.length:Int)=p.ar:=by simpa using h
    simp[vZ,aI.bh,h]
   .have h1:=ez h1;have h2:=ez h2;have h3:jt (.mk k n nm ts,.mk k' n' lV kH)=true:=by simpa using h3
    have h4:bW nm p.iR=true:=by simpa using h4
    have h5:(ts.length:Int)=p.ar:=by simpa using h5
    have fJ:vZ next p bE ⟨id,(.mk k n nm ts,.mk k' n' lV kH)⟩=true:=by simp only[vZ,aI.cK,aI.bh,h3,h4];simp[iK,h5];omega
    rw[fJ]at hf;simp at hf;rw[lh ho.2.1 ax];exact ih (j+1,bE++[id]) ⟨ax,hf⟩ (by simp only;omega)
 .have bu:p.bO.length<=j:=by simpa using bu
  rw[gQ bu,yc]at hf;exact after bE hf
theorem aAA{next l aH}(hl:dt l.length)(ho:∀p∈l,RL p):
 ∀q:Nat×LI,(q.1<=l.length/\uu next (IZ l q.1) q.2 (l.drop q.1)=aH)->
 br Z 22 115 0 (.ao aH) an (t22 (fo l) l.length (q.1:Int)) (al [(0,iG next (fo l) l.length),(1,o9 q.2)] 2) (aw Z 22 0):=by
 refine dS (λq=>l.length-q.1) _ _ _ _ ?_;rintro⟨i,bE⟩ ⟨hi,hf⟩ ih;refine hE Oh aAE ?_;refine aD.2 ⟨λax=>?_,λbu=>?_⟩
 .have ax:i<l.length:=by simpa using ax
  rw[fY ax,avA]at hf;have hp:=ho _ (pW ax);have wQ:Au (IZ l i) l[i]=true->yN l[i].iR l[i].ar=true->br Z 22 115 0 (.ao aH) an (abq (fo l) l.length (i:Int) (mr l[i].bO) l[i].bO.length ((0:Nat):Int)) (al [(0,iG next (fo l) l.length),(1,o9 bE),(2,ru l[i].iR l[i].ar l[i].A_ (mr l[i].bO) l[i].bO.length)] 3) (aw Z 22 1):=by intro h1 h2;rw[h1,h2,rA,rA]at hf;refine aAD hp (λxz h=>?_) (0,bE) ⟨gq _,hf⟩;rw[lh hl ax];refine ih (i+1,xz) ⟨ax,?_⟩ (by simp only;omega);simp only[IZ,ir ax];exact h
  refine⟨i,rfl,ax,l[i].iR,l[i].ar,l[i].A_,mr l[i].bO,l[i].bO.length,Bd ax,⟨rfl,trivial⟩,aD.2 ⟨λh=>?_,λh1=>aD.2 ⟨λh2=>?_,λh2=>?_⟩⟩⟩
  .have h:yN l[i].iR l[i].ar=false:=by simpa using h
   rw[h,tg,tg]at hf;subst hf;exact⟨rfl,rfl⟩
  .have h1:yN l[i].iR l[i].ar=true:=by simpa using h1
   have h2:=dQ h2;have Ac:i-1<l.length:=by omega
   have uf:IZ l i=some l[i-1]:=by obtain⟨k,rfl⟩:∃k,i=k+1:=⟨i-1,by omega⟩;simp only[IZ,Nat.add_sub_cancel];rw[ir (by omega)]
   refine⟨i-1,by unfold dt at hl;rw[cO (by omega) (by omega)];omega,Ac,l[i-1].iR,l[i-1].ar,l[i-1].A_,mr l[i-1].bO,l[i-1].bO.length,Bd Ac,⟨rfl,trivial⟩,aD.2 ⟨λh=>?_,λh=>?_⟩⟩
   .have hb:Au (IZ l i) l[i]=false:=by rw[uf,Au,h];rfl
    rw[hb,I_,tg]at hf;subst hf;exact⟨rfl,rfl⟩
   .exact wQ (by rw[uf,Au,h];rfl) h1
  .have h1:yN l[i].iR l[i].ar=true:=by simpa using h1
   have h2:=ez h2;have BL:i=0:=by omega
   subst BL;exact wQ rfl h1
 .have bu:l.length<=i:=by simpa using bu
  rw[gQ bu,uu]at hf;subst hf;exact⟨rfl,rfl⟩
theorem acV:aU Z Ux:=by
 refine cA Oh ?_;rintro⟨next,l⟩ args H ⟨rfl,rfl,ho⟩;refine eS Oh 1000 Rl 115 (by kernel_rfl) ?_;simp only[vdX,oj,lA];rw[aAC];generalize hv:uu next none [] l=aH
 refine aD.2 ⟨λh=>?_,λh1=>aD.2 ⟨λh=>?_,λh2=>aD.2 ⟨λh=>?_,λh3=>⟨⟨next,l⟩,⟨rfl,rfl,ho⟩,aD.2 ⟨λh=>?_,λh4=>?_⟩⟩⟩⟩⟩
 .rw[h];exact⟨by simp,rfl⟩
 .rw[h];exact⟨by simp,rfl⟩
 .rw[show decide ((l.length:Int)>500)=true from h];exact⟨by simp,rfl⟩
 .rw[h];exact⟨by simp,rfl⟩
 .rw[h1,h2,show decide ((l.length:Int)>500)=false from h3,h4];simp;exact aAA ho.1 ho.2 (0,[]) ⟨gq _,hv⟩
structure da where
 nv:Int
 na:Int
 tr:Bool
 au:List (List bG)
def dM:List bG->LV
 |[]=>[]
 |f::l=>gH f++dM l
def yg:List bG->AV
 |[]=>.aJ
 |f::l=>.ad (dM (f::l)) (l.length+1) 5
def iN(l:List (List bG)):LV:=l.map yg
def ct(s:da)(i:Nat):bk:=.aj [J s.nv,J s.na,.ao s.tr,.ai i s.au.length 1] 120
def cz(s:da):bk:=.ay (iN s.au) 84
def hT(s:da):AH:=al [(0,ct s 1),(1,cz s)] 2
theorem Pq:∀{l m},l.length=m.length->dM l=dM m->l=m
 |[],[],_,_=>rfl
 |[],_::_,h,_=>by simp at h
 |_::_,[],h,_=>by simp at h
 |t::l,u::m,hl,h=>by have h2:=l4 h (by simp[gH]);rw[ye _ _ h2.1,Pq (by simpa using hl) h2.2]
theorem aqv:∀{l m},yg l=yg m->l=m
 |[],[],_=>rfl
 |[],_::_,h=>by simp[yg]at h
 |_::_,[],h=>by simp[yg]at h
 |t::l,u::m,h=>by simp only[yg,AV.ad.injEq,and_true]at h;exact Pq (by simp;omega) h.1
theorem WC:∀{l m},iN l=iN m->l=m
 |[],[],_=>rfl
 |[],_::_,h=>by simp[iN]at h
 |_::_,[],h=>by simp[iN]at h
 |t::l,u::m,h=>by simp only[iN,gR,jn]at h;rw[aqv h.1,WC h.2]
theorem HE{s s'}(h:hT s=hT s'):s=s':=by have h1:some (ct s 1)=some (ct s' 1):=congrArg (λH=>AH.bf H 0) h;have h2:some (cz s)=some (cz s'):=congrArg (λH=>AH.bf H 1) h;simp only[ct,pg,bk.aj.injEq,jn,AV.bU.injEq,AV.ao.injEq,true_and,and_true]at h1;simp only[cz,pg,bk.ay.injEq,and_true]at h2;have⟨a,b,c,d⟩:=s;have⟨a',b',c',d'⟩:=s';have⟨e1,e2,e3,_⟩:=h1;have e4:=WC h2;simp only at e1 e2 e3 e4;rw[e1,e2,e3,e4]
def SK(n:Int):Int:=wI (n+1)
def bV(n:Int):Int:=wI (wI (n+1)-1)
def da.nx(s:da):da:=⟨SK s.nv,s.na,s.tr,s.au⟩
def da.px(s:da):da:=⟨s.nv,SK s.na,s.tr,s.au⟩
def amr:cx da where
 bn s A H:=A=[.aa 0 0]/\H=hT s
 v s:=J (bV s.nv)
 aK s:=hT s.nx
theorem aCY:amr.cr:=λs s' A H h1 h2=>by rw[HE (h1.2.symm.trans h2.2)]
def Uz:Ev.bo:=bR 80 (ca amr aCY cD) Ux
def prX:cx da where
 bn s A H:=A=[.aa 0 0]/\H=hT s
 v s:=J (bV s.na)
 aK s:=hT s.px
theorem avy:prX.cr:=λs s' A H h1 h2=>by rw[HE (h1.2.symm.trans h2.2)]
def UA:Ev.bo:=bR 147 (ca prX avy cD) Uz
def ajP:LV->Option (Prop×AV)
 |[.bU .i64 k,.bU .i64 v]=>some (True,.ah [J k,.ab [],J 0,J 0,.ad [] 0 4,J v])
 |_=>none
def Ge:Ev.bo:=e9 81 (fK ajP) UA
def pJ(p:cV)(args:eK):qe:=⟨1,p,args.map dj,0⟩
def caS:LV->AH->Option Sp
 |[.ah [.ab nm,.bU .i64 ar,.bU .i64 au],.ad cs len 4],H=>ca {bn:=λl A H'=>A=[.ah [.ab nm,.bU .i64 ar,.bU .i64 au],.ad (aF l) l.length 4]/\H'=an/\fy l/\l.length<4000000,v:=λl=>.ah [J 1,.ab nm,J ar,J au,.ad (aF (l.map dj)) (l.map dj).length 4,J 0],aK:=λl=>an} (by rintro l l' A H' ⟨h1,_⟩ ⟨h2,_⟩;rw[h1]at h2;simp only[jn,AV.ad.injEq,true_and,and_true]at h2;rw[tQ h2.2 h2.1]) cD [.ah [.ab nm,.bU .i64 ar,.bU .i64 au],.ad cs len 4] H
 |[.ah [.ab nm,.bU .i64 ar,.bU .i64 au],.aJ],H=>some (.zC (H=an,.ah [J 1,.ab nm,J ar,J au,.ad [] 0 4,J 0],an))
 |[.ah [.ab nm,.bU .i64 ar,.bU .i64 au],.bq 0 0 2 2 4 true],H=>ca {bn:=λw A H'=>A=[.ah [.ab nm,.bU .i64 ar,.bU .i64 au],.bq 0 0 2 2 4 true]/\H'=al [(0,.aj (aW w.1++aW w.2) 49)] 1/\bL w.1/\bL w.2,v:=λ(w:aI×aI)=>.ah [J 1,.ab nm,J ar,J au,.ad (ij (dj w.1)++ij (dj w.2)) 2 4,J 0],aK:=λw=>al [(0,.aj (ij w.1++ij w.2) 49)] 1} (by rintro w w' A H' ⟨_,h1,_⟩ ⟨_,h2,_⟩;rw[h1]at h2;have:=congrArg (λH=>AH.bf H 0) h2;simp only[eh,cN,if_true,pg,bk.aj.injEq,and_true]at this;rw[A4 this]) cD [.ah [.ab nm,.bU .i64 ar,.bU .i64 au],.bq 0 0 2 2 4 true] H
 |_,_=>none
def JV:Ev.bo:=bR 116 caS Ge
def l8(n:Int):aI:=.mk 0 (xG n) [] []
def qI(t:aI):eK:=(gh t).map l8
def amy:xQ (λ_=>aI)where
 bn b t A H:=A=[.ah (aW t)]/\H=an/\bL t/\(gh t).isEmpty= !b
 v b t:=match b with
  |true=>.ai 0 (gh t).length 4
  |false=>.aJ
 aK b t:=match b with
  |true=>al [(0,.ay (aF (qI t)) 49)] 1
  |false=>an
theorem aDj:amy.cr:=by
 intro b t b' t' A H h1 h2;have h3:=w_ h1.1 h2.1;subst h3;have h4:b=b':=by have:=h1.2.2.2.symm.trans h2.2.2.2;cases b<;>cases b'<;>first|rfl|cases this
 subst h4;rfl
def UB:Ev.bo:=bR 65 (Hg amy aDj) JV
def O4(s:LN)(len:Nat):Bool:=
 if bW s []then true
 else if bW s [99,97,108,108]then decide ((len:Int)<1)||decide ((len:Int)>8)
 else if bW s [99,97,116,99,104]||bW s [102,105,110,100,97,108,108]||bW s [98,97,103,111,102]||bW s [115,101,116,111,102]then(len:Int)!=3
 else s.head? !=some 36
def aem:LV->Option (Prop×AV)
 |[.ah [.bU .i64 k,.bU .i64 n,.ab s,.ad cs len 4]]=>some (True,.ao (O4 s len))
 |_=>none
def UC:Ev.bo:=e9 117 (fK aem) UB
def iq(a:aI):aI:=match iH a with
 |some g=>g
 |none=>.mk 3 0 uP [a]
def Y7:cx aI where
 bn t A H:=A=[.ah (aW t)]/\H=an/\bL t
 v t:=.ah (ij (iq t))
 aK t:=an
theorem ati:Y7.cr:=λt t' A H h1 h2=>by rw[w_ h1.1 h2.1]
def Oj:Ev.bo:=bR 169 (ca Y7 ati cD) UC
def aew:LV->AH->Option Sp
 |[.ad cs len 4],H=>some (.zC ((H=an/\len≠0/\len<=4000000/\cs.length=len*4/\cs.all AV.cX=true/\cs.all eG=true),.ad cs len 4,an))
 |[.aJ],H=>some (.zC (H=an,.aJ,an))
 |_,_=>none
def UF:Ev.bo:=bR 148 aew Oj
def aeO:LV->Option (Prop×AV)
 |[]=>some (True,.ah [.ab [59],J 2,.ba (.func 143) [] [],.ab [45,62],J 2,.ba (.func 144) [] [],.ab [92,43],J 1,.ba (.func 145) [] [],.ab [111,110,99,101],J 1,.ba (.func 146) [] []])
 |_=>none
def K38:Ev.bo:=e9 114 (fK aeO) UF
def aiM:Nat->LN:=fT [(3,[4,5,10,11,12])]
def IA:Nat->LN:=fT [(2,[2,6,7,8])]
def Bt(nm:LN)(ar au:Int)(a:AV):bk:=.aj [J 1,.ab nm,J ar,J au,a,J 0] 146
def kc:bk:=.aj [J 0,.ab [],J 0,J 0,.aJ,J 0] 146
theorem aBE{s L Q}:
 bI Z Ux (λ_=>[]) L Q 1000 80 [.aa 0 0] (hT s)=(
 Q (J (wI (wI (da.nv s+1)-1))) (al [(0,.aj [J (wI (da.nv s+1)),J (da.na s),.ao (da.tr s),.ai 1 s.au.length 1] 120),(1,cz s)] 2)):=by kernel_rfl
theorem aAu{s L Q}:
 bI Z Uz (λ_=>[]) L Q 1000 147 [.aa 0 0] (hT s)=(
 Q (J (wI (wI (da.na s+1)-1))) (al [(0,.aj [J (da.nv s),J (wI (da.na s+1)),.ao (da.tr s),.ai 1 s.au.length 1] 120),(1,cz s)] 2)):=by kernel_rfl
theorem aBF{k v L Q}:
 bI Z UA (λ_=>[]) L Q 1000 81 [J k,J v] an=(
 Q (.ah [J k,.ab (du (ByteArray.mk (List.toArray []))),J 0,J 0,.aJ,J v]) an):=by kernel_rfl
theorem aAf{nm ar au cs len L Q}:
 bI Z Ge aiM L Q 1000 116 [.ah [.ab nm,J ar,J au],.ad cs len 4] an=(
 L (aB [(4,.aa 0 0),(5,.aa 1 0),(10,.ad cs len 4),(11,J (Int.ofNat len)),(12,J 0)]) (al [(0,.aj [J 0,.ab (du (ByteArray.mk (List.toArray []))),J 0,J 0,.aJ,J 0] 146),(1,Bt nm ar au .aJ)] 2) (aw Z 116 0)):=by kernel_rfl
theorem aAg{nm ar au L Q}:
 bI Z Ge (λ_=>[1000000]) L Q 1000 116 [.ah [.ab nm,J ar,J au],.aJ] an=(
 Q (.ah [J 1,.ab nm,J ar,J au,.aJ,J 0]) an):=by kernel_rfl
theorem aAh{nm ar au cs len i ds m L Q}:
 ck Z Ge aiM L Q 1000 116 0 (aB [(4,.aa 0 0),(5,.aa 1 0),(10,.ad cs len 4),(11,J (Int.ofNat len)),(12,J i)]) (aw Z 116 0) (al [(0,kc),(1,Bt nm ar au (.ai 2 m 4)),(2,.ay ds 49)] 3)=(
 aq (decide (i<Int.ofNat len)) (∃aL:Nat,i=(aL:Int)/\aL<len/\(∃n aP s bP bH,((cs.drop (aL*4)).take 4:List AV)=[J n,J aP,.ab s,.ad bP bH 4]/\(∃w,(([.ah [J n,J aP,.ab s,.ad bP bH 4]]:LV)=[.ah (aW w)]/\al [] 0=an/\bL w)/\some (.ai 2 m 4:AV)=some (.ai 2 m 4:AV)/\(ds.length=m*4/\m+1<=4194304/\true=true/\true=true)/\L (aB [(4,.aa 0 0),(5,.aa 1 0),(10,.ad cs len 4),(11,J (Int.ofNat len)),(12,J (wI (i+1)))]) (al [(0,kc),(1,Bt nm ar au (.ai 2 (m+1) 4)),(2,.ay (ds++[J (dj w).cq,J (dj w).n,.ab (dj w).cK,.ad (aF (dj w).bh) (dj w).bh.length 4]) 49)] 3) (aw Z 116 0)))) (Q (.ah [J 1,.ab nm,J ar,J au,.ai 0 m 4,J 0]) (al [(0,.ay ds 49)] 1))):=by kernel_rfl
theorem aAd{nm ar au k n s cs len k' n' s' cs' cB L Q}:
 bI Z Ge (λ_=>[1000000]) L Q 3000 116 [.ah [.ab nm,J ar,J au],.bq 0 0 2 2 4 true] (al [(0,.aj [J k,J n,.ab s,.ad cs len 4,J k',J n',.ab s',.ad cs' cB 4] 49)] 1)=(
 ∃w,(([.ah [J k,J n,.ab s,.ad cs len 4]]:LV)=[.ah (aW w)]/\al [] 0=an/\bL w)/\some (.aJ:AV)=some (.aJ:AV)/\(∃ae,(([.ah [J k',J n',.ab s',.ad cs' cB 4]]:LV)=[.ah (aW ae)]/\al [] 0=an/\bL ae)/\some (.bq 6 0 1 1 4 false:AV)=some (.bq 6 0 1 1 4 false:AV)/\Q (.ah [J 1,.ab nm,J ar,J au,.ai 1 2 4,J 0]) (al [(0,.aj [J k,J n,.ab s,.ad cs len 4,J k',J n',.ab s',.ad cs' cB 4] 49),(1,.aj [J (dj w).cq,J (dj w).n,.ab (dj w).cK,.ad (aF (dj w).bh) (dj w).bh.length 4,J (dj ae).cq,J (dj ae).n,.ab (dj ae).cK,.ad (aF (dj ae).bh) (dj ae).bh.length 4] 49)] 2))):=by kernel_rfl
theorem alN{k n s cs len L Q}:
 bI Z JV IA L Q 1000 65 [.ah [J k,J n,.ab s,.ad cs len 4]] an=(
 ∃w,(([.ah [J k,J n,.ab s,.ad cs len 4]]:LV)=[.ah (aW w)]/\al [] 0=an/\bL w)/\L (aB [(2,.aJ),(6,.ad (aX (gh w)) (gh w).length 1),(7,J (Int.ofNat (gh w).length)),(8,J 0)]) an (aw Z 65 0)):=by kernel_rfl
theorem aBn{l i ds m L Q}:
 ck Z JV IA L Q 1000 65 0 (aB [(2,.ai 0 m 4),(6,.ad (aX l) l.length 1),(7,J (Int.ofNat l.length)),(8,J i)]) (aw Z 65 0) (al [(0,.ay ds 49)] 1)=(
 aq (decide (i<Int.ofNat l.length)) (∃aL:Nat,i=(aL:Int)/\aL<l.length/\(∃n,(((aX l).drop (aL*1)).take 1:List AV)=[J n]/\(al [] 0=an/\True)/\(ds.length=m*4/\m+1<=4194304/\true=true/\true=true)/\L (aB [(2,.ai 0 (m+1) 4),(6,.ad (aX l) l.length 1),(7,J (Int.ofNat l.length)),(8,J (wI (i+1)))]) (al [(0,.ay (ds++[J 0,J (xG n),.ab [],.ad [] 0 4]) 49)] 1) (aw Z 65 0))) (Q (.ai 0 m 4) (al [(0,.ay ds 49)] 1))):=by kernel_rfl
theorem aBl{l i L Q}:
 ck Z JV IA L Q 1000 65 0 (aB [(2,.aJ),(6,.ad (aX l) l.length 1),(7,J (Int.ofNat l.length)),(8,J i)]) (aw Z 65 0) an=(
 aq (decide (i<Int.ofNat l.length)) (∃aL:Nat,i=(aL:Int)/\aL<l.length/\(∃n,(((aX l).drop (aL*1)).take 1:List AV)=[J n]/\(al [] 0=an/\True)/\L (aB [(2,.ai 0 1 4),(6,.ad (aX l) l.length 1),(7,J (Int.ofNat l.length)),(8,J (wI (i+1)))]) (al [(0,en 0 (xG n) [] [] 0)] 1) (aw Z 65 0))) (Q .aJ an)):=by kernel_rfl
theorem aAi{k n s cs len L Q}:
 bI Z UB (λ_=>[]) L Q 1000 117 [.ah [J k,J n,.ab s,.ad cs len 4]] an=(
 aq (bW s (du (ByteArray.mk (List.toArray [])))) (Q (.ao true) an) (aq (bW s (du (ByteArray.mk (List.toArray [99,97,108,108])))) (aq (decide (Int.ofNat len<1)) (Q (.ao true) an) (Q (.ao (decide (Int.ofNat len>8))) an)) (aq (bW s (du (ByteArray.mk (List.toArray [99,97,116,99,104])))) (aq (bW s (du (ByteArray.mk (List.toArray [99,97,116,99,104])))) (Q (.ao (Int.ofNat len !=3)) an) (∃b,s[0]?=some b/\Q (.ao (Int.ofNat b !=36)) an)) (aq (bW s (du (ByteArray.mk (List.toArray [102,105,110,100,97,108,108])))) (aq (bW s (du (ByteArray.mk (List.toArray [102,105,110,100,97,108,108])))) (Q (.ao (Int.ofNat len !=3)) an) (∃b,s[0]?=some b/\Q (.ao (Int.ofNat b !=36)) an)) (aq (bW s (du (ByteArray.mk (List.toArray [98,97,103,111,102])))) (aq (bW s (du (ByteArray.mk (List.toArray [98,97,103,111,102])))) (Q (.ao (Int.ofNat len !=3)) an) (∃b,s[0]?=some b/\Q (.ao (Int.ofNat b !=36)) an)) (aq (bW s (du (ByteArray.mk (List.toArray [115,101,116,111,102])))) (Q (.ao (Int.ofNat len !=3)) an) (∃b,s[0]?=some b/\Q (.ao (Int.ofNat b !=36)) an))))))):=by kernel_rfl
theorem alq{k n s cs len L Q}:
 bI Z UC (λ_=>[]) L Q 1000 169 [.ah [J k,J n,.ab s,.ad cs len 4]] an=(
 ∃w,(([.ah [J k,J n,.ab s,.ad cs len 4]]:LV)=[.ah (aW w)]/\al [] 0=an/\bL w)/\aq (Option.isSome (iH w)) (Q (.ah [J (Option.getD (iH w) iB).cq,J (Option.getD (iH w) iB).n,.ab (Option.getD (iH w) iB).cK,.ad (aF (Option.getD (iH w) iB).bh) (Option.getD (iH w) iB).bh.length 4]) an) (Q (.ah [J 3,J 0,.ab (du (ByteArray.mk (List.toArray [99,97,108,108]))),.bq 0 0 1 1 4 true]) (al [(0,en k n s cs len)] 1))):=by kernel_rfl
theorem aAw{cs len L Q}:
 bI Z Oj (λ_=>[]) L Q 1000 148 [.ad cs len 4] an=(
 (len=0->False)/\(len=0->0<=4194304/\Q (.bq 0 0 0 0 4 true) (al [(0,.aj [] 49)] 1))/\(1<=len->(0<=0/\0+len<=4194304/\(List.all cs AV.cX=true/\List.all cs eG=true)/\(true=true/\true=true)/\true=true/\0<=0)/\Q (.ai 0 (0+len) 4) (al [(0,.ay ([]++cs) 49)] 1))):=by kernel_rfl
theorem aAv{L Q}:
 bI Z Oj (λ_=>[]) L Q 1000 148 [.aJ] an=(
 Q .aJ an):=by kernel_rfl
theorem azZ{L Q}:
 bI Z UF (λ_=>[]) L Q 1000 114 [] an=(
 Q (.ah [.ab (du (ByteArray.mk (List.toArray [59]))),J 2,.ba (.func 143) [] [],.ab (du (ByteArray.mk (List.toArray [45,62]))),J 2,.ba (.func 144) [] [],.ab (du (ByteArray.mk (List.toArray [92,43]))),J 1,.ba (.func 145) [] [],.ab (du (ByteArray.mk (List.toArray [111,110,99,101]))),J 1,.ba (.func 146) [] []]) an):=by kernel_rfl
theorem acW:aU Z Uz:=by refine cA acV ?_;rintro s args H ⟨rfl,rfl⟩;refine eE 15 acV aBE ?_;exact⟨rfl,rfl⟩
theorem acX:aU Z UA:=by refine cA acW ?_;rintro s args H ⟨rfl,rfl⟩;refine eE 15 acW aAu ?_;exact⟨rfl,rfl⟩
theorem JU:aU Z Ge:=by
 refine jD acX λargs q v h hq=>?_
 unfold ajP at h;split at h<;>cases h;rename_i k v;refine tS ?_ (.agg (.fE (.fE (.fE (.fE (.ta 4 (.oq _))))))) (cM _);refine eE 8 acX aBF ?_;exact⟨rfl,rfl⟩
theorem aqo(t):[J t.cq,J t.n,.ab t.cK,.ad (aF t.bh) t.bh.length 4]=aF [t]:=by cases t;simp[aF,aW,aI.cq,aI.n,aI.cK,aI.bh]
theorem aby{α β:Type}(f:α->β)(l:List α){i}(h:i<l.length):(l.take (i+1)).map f=(l.take i).map f++[f l[i]]:=by rw[vR,ir h,qF];rfl
theorem aAe{nm ar au l}(hl:l.length<4000000)(ho:fy l):
 ∀i,i<=l.length->br Z 116 25 0 (.ah [J 1,.ab nm,J ar,J au,.ai 0 l.length 4,J 0]) (al [(0,.ay (aF (l.map dj)) 49)] 1)
  (aB [(4,.aa 0 0),(5,.aa 1 0),(10,.ad (aF l) l.length 4),(11,J (Int.ofNat l.length)),(12,J (i:Int))]) (al [(0,kc),(1,Bt nm ar au (.ai 2 i 4)),(2,.ay (aF ((l.take i).map dj)) 49)] 3) (aw Z 116 0):=by
 refine dS (λi=>l.length-i) _ _ _ _ ?_;rintro i hi ih;refine hE JU aAh ?_;refine aD.2 ⟨λax=>?_,λbu=>?_⟩
 .have ax:i<l.length:=by simpa using ax
  obtain⟨k1,n1,s1,l1,-,hg,bX,a_,-⟩:=xw ax ho (lY _) (P:=λ_=>True) trivial;refine⟨i,rfl,ax,k1,n1,s1,aF l1,l1.length,bX,.mk k1 n1 s1 l1,⟨rfl,rfl,a_⟩,rfl,⟨by rw[rV,og,vN];congr 1;omega,by omega,rfl,rfl⟩,?_⟩;rw[aqo,<-Be,cO (by omega) (by omega)];have:=ih (i+1) (by omega) (by omega);rw[aby _ _ ax,hg]at this;exact this
 .have bu:l.length<=i:=by simpa using bu
  have:i=l.length:=by omega
  subst this;rw[vT];exact⟨rfl,rfl⟩
theorem aoR{nm ar au l}(ho:fy l)(hl:l.length<4000000):bZ Z 116 [.ah [.ab nm,J ar,J au],.ad (aF l) l.length 4] an (.ah [J 1,.ab nm,J ar,J au,.ad (aF (l.map dj)) (l.map dj).length 4,J 0]) an:=by
 have h1:bZ Z 116 [.ah [.ab nm,J ar,J au],.ad (aF l) l.length 4] an (.ah [J 1,.ab nm,J ar,J au,.ai 0 l.length 4,J 0]) (al [(0,.ay (aF (l.map dj)) 49)] 1):=by refine eE 25 JU aAf ?_;refine sS (H':=al ([(0,kc),(1,Bt nm ar au (.ai 2 0 4))]++[(2,.ay [] 49)]) (2+1)) ?_ (vD (g:=1) rfl (λid=>by rcases id with _|_|_|id<;>rfl) rfl (λφ x hx=>Ch hx) ⟨rfl,rfl⟩) (by kernel_rfl);exact aAe hl ho 0 (gq _)
 have h2:=tR (g:=0) h1 rfl (gq _);have h3:gT 0 (aF (l.map dj)) (.ah [J 1,.ab nm,J ar,J au,.ai 0 l.length 4,J 0])=.ah [J 1,.ab nm,J ar,J au,.ad (aF (l.map dj)) (l.map dj).length 4,J 0]:=by
  have:(aF (l.map dj)).length=l.length*4:=by rw[rV,og]
  simp[gT,qp,this]
 rw[h3]at h2;exact nh (ps:=[]) h2 (by kernel_rfl) (by kernel_rfl)
theorem JW:aU Z JV:=by
 refine xW JU λargs H sp p v H' hs hd hp=>?_
 unfold caS at hs;split at hs;next nm ar au cs len=>cases hs;have⟨l,e⟩:=GO hd;cases e;obtain⟨h1,rfl,h2,h3⟩:=hp;rw[h1];exact aoR h2 h3
 next nm ar au=>cases hs;cases hd;cases hp;refine tS ?_ (.agg (.fE (.fE (.fE (.fE (.ta 4 (.oq _))))))) (cM _);refine eE 25 JU aAg ?_;exact⟨rfl,rfl⟩
 next nm ar au=>
  cases hs;have⟨⟨⟨k,n,s,l⟩,⟨k',n',s',l'⟩⟩,e⟩:=GO hd;cases e;obtain⟨-,rfl,h2,h3⟩:=hp;have h4:bZ Z 116 [.ah [.ab nm,J ar,J au],.bq 0 0 2 2 4 true] (al [(0,.aj (aW (.mk k n s l)++aW (.mk k' n' s' l')) 49)] 1) (.ah [J 1,.ab nm,J ar,J au,.ai 1 2 4,J 0]) (al [(0,.aj (aW (.mk k n s l)++aW (.mk k' n' s' l')) 49),(1,.aj (ij (dj (.mk k n s l))++ij (dj (.mk k' n' s' l'))) 49)] 2):=by refine eS JU 3000 (λ_=>[1000000]) 25 (by kernel_rfl) ?_;rw[show aW (.mk k n s l)++aW (.mk k' n' s' l')=[J k,J n,.ab s,.ad (aF l) l.length 4,J k',J n',.ab s',.ad (aF l') l'.length 4]from rfl,aAd];exact⟨.mk k n s l,⟨rfl,rfl,h2⟩,rfl,.mk k' n' s' l',⟨rfl,rfl,h3⟩,rfl,rfl,rfl⟩
  have h5:=DT (g:=1) h4 rfl rfl (by show(1:Nat)<=2;omega);exact nh (ps:=[(0,0)]) h5 (by kernel_rfl) (by kernel_rfl)
 .cases hs
theorem aqr(n):aW (l8 n)=[J 0,J (xG n),.ab [],.ad [] 0 4]:=rfl
theorem aqt(l n):aF ((l++[n]).map l8)=aF (l.map l8)++[J 0,J (xG n),.ab [],.ad [] 0 4]:=by rw[qF,Be];simp[aF,aqr]
theorem aqs(l:LI):(aF (l.map l8)).length=l.length*4:=by rw[rV,og]
theorem akI{l i}(h:i<l.length):((aX l).drop (i*1)).take 1=[J l[i]]:=by rw[oI,aX,<-List.map_drop,fY h];rfl
theorem aBm{l}(hl:l.length<4000000):∀i,i<=l.length->br Z 65 19 0 (.ai 0 l.length 4) (al [(0,.ay (aF (l.map l8)) 49)] 1)
 (aB [(2,.ai 0 i 4),(6,.ad (aX l) l.length 1),(7,J (Int.ofNat l.length)),(8,J (i:Int))]) (al [(0,.ay (aF ((l.take i).map l8)) 49)] 1) (aw Z 65 0):=by
 refine dS (λi=>l.length-i) _ _ _ _ ?_;rintro i hi ih;refine hE JW aBn ?_;refine aD.2 ⟨λax=>?_,λbu=>?_⟩
 .have ax:i<l.length:=by simpa using ax
  refine⟨i,rfl,ax,l[i],akI ax,⟨rfl,trivial⟩,⟨by rw[aqs,vN];congr 1;omega,by omega,rfl,rfl⟩,?_⟩;rw[<-aqt,cO (by omega) (by omega)];have:=ih (i+1) (by omega) (by omega);rw[vR,ir ax]at this;exact this
 .have bu:l.length<=i:=by simpa using bu
  have:i=l.length:=by omega
  subst this;rw[vT];exact⟨rfl,rfl⟩
theorem Nt(t):(gh t).length<=2000:=by
 unfold gh;split;next h=>have h1:=Te [] t;have:=y' h;simp at h1;omega
 .simp
theorem acY:aU Z UB:=by
 refine Vr JW ?_;intro b t args H hp;obtain⟨rfl,rfl,ho,hb⟩:=hp;have hl:=Nt t;cases b
 .refine eS JW 1000 IA 19 (by kernel_rfl) ?_;have⟨k,n,s,l⟩:=t;rw[aW,alN];refine⟨.mk k n s l,⟨rfl,rfl,ho⟩,?_⟩;refine hD JW 1000 IA (by kernel_rfl) ?_;rw[show an.bx=0 from rfl,aBl];have:gh (.mk k n s l)=[]:=by simpa using hb
  rw[this];exact aD.2 ⟨λh=>(by cases h),λ_=>⟨rfl,rfl⟩⟩
 .refine eS JW 1000 IA 19 (by kernel_rfl) ?_;have⟨k,n,s,l⟩:=t;rw[aW,alN];refine⟨.mk k n s l,⟨rfl,rfl,ho⟩,?_⟩;refine HO 4 49 [2] ?_ rfl (by kernel_rfl);exact aBm (by omega) 0 (gq _)
theorem UD:aU Z UC:=by
 refine jD acY λargs q v h hq=>?_
 unfold aem at h;split at h<;>cases h;rename_i k n s cs len;refine eS acY 1000 (λ_=>[]) 30 (by kernel_rfl) ?_;rw[aAi,O4,sa,show du (ByteArray.mk (List.toArray []))=[]from rfl,show du (ByteArray.mk (List.toArray [99,97,108,108]))=[99,97,108,108]from rfl,show du (ByteArray.mk (List.toArray [99,97,116,99,104]))=[99,97,116,99,104]from rfl,show du (ByteArray.mk (List.toArray [102,105,110,100,97,108,108]))=[102,105,110,100,97,108,108]from rfl,show du (ByteArray.mk (List.toArray [98,97,103,111,102]))=[98,97,103,111,102]from rfl,show du (ByteArray.mk (List.toArray [115,101,116,111,102]))=[115,101,116,111,102]from rfl];cases h0:bW s []
 .have last:∃b,s[0]? =some b/\fA (.ao (s.head? !=some 36)) an (.ao (Int.ofNat b !=36)) an:=by
   cases s with
   |nil=>cases h0
   |cons a l=>refine⟨a,rfl,?_,rfl⟩;congr 1;rw[rC];simp;omega
  cases h1:bW s [99,97,108,108]
  .cases h2:bW s [99,97,116,99,104]<;>cases h3:bW s [102,105,110,100,97,108,108]<;>cases h4:bW s [98,97,103,111,102]<;>cases h5:bW s [115,101,116,111,102]<;>first
    |exact last
    |exact⟨rfl,rfl⟩
  .cases h2:decide ((len:Int)<1)<;>exact⟨rfl,rfl⟩
 .exact⟨rfl,rfl⟩
theorem UE:aU Z Oj:=by
 refine cA UD ?_;rintro⟨k,n,s,l⟩ args H ⟨rfl,rfl,ho⟩;simp only[Y7,zG];cases hg:iH (.mk k n s l)with
 |some g=>refine eS UD 1000 (λ_=>[]) 15 (by kernel_rfl) ?_;rw[aW,alq,iq,hg];have⟨a,b,c,d⟩:=g;exact⟨.mk k n s l,⟨rfl,rfl,ho⟩,by rw[hg];exact⟨rfl,rfl⟩⟩
 |none=>
  have h1:bZ Z 169 [.ah (aW (.mk k n s l))] an (.ah [J 3,J 0,.ab uP,.bq 0 0 1 1 4 true]) (al [(0,en k n s (aF l) l.length)] 1):=by refine eS UD 1000 (λ_=>[]) 15 (by kernel_rfl) ?_;rw[aW,alq];exact⟨.mk k n s l,⟨rfl,rfl,ho⟩,by rw[hg];exact⟨rfl,rfl⟩⟩
  have h2:=DT (g:=0) h1 rfl rfl (gq _);rw[iq,hg];exact nh (ps:=[]) h2 (by kernel_rfl) (by kernel_rfl)
theorem acZ:aU Z UF:=by
 refine xW UE λargs H sp p v H' hs hd hp=>?_
 unfold aew at hs;split at hs;next cs len=>
  cases hs;cases hd;obtain⟨rfl,h1,h2,h3,h4,h5⟩:=hp;have h6:bZ Z 148 [.ad cs len 4] an (.ai 0 len 4) (al [(0,.ay cs 49)] 1):=by refine eE 8 UE aAw ?_;refine⟨h1,λh=>absurd h h1,λ_=>⟨⟨by omega,by omega,⟨h4,h5⟩,⟨rfl,rfl⟩,rfl,by omega⟩,?_⟩⟩;rw[ki,Cy];exact⟨rfl,rfl⟩
  have h7:=tR (g:=0) h6 rfl (gq _);have h8:gT 0 cs (.ai 0 len 4)=.ad cs len 4:=by simp[gT,h3]
  rw[h8]at h7;exact nh (ps:=[]) h7 (by kernel_rfl) (by kernel_rfl)
 .cases hs;cases hd;cases hp;refine eE 8 UE aAv ?_;exact⟨rfl,rfl⟩
 .cases hs
theorem anj:aU Z K38:=by
 refine jD acZ λargs q v h hq=>?_
 unfold aeO at h;split at h<;>cases h;refine eE 6 acZ azZ ?_;exact⟨rfl,rfl⟩
def ji(g:aI)(i:Nat):aI:=g.bh.getD i iB
def dF(g:aI)(nm:LN)(ar:Int):Bool:=rZ g.cq g.cK g.bh.length nm ar
def oG(k v:Int):qe:=⟨k,⟨[],0,0⟩,[],v⟩
abbrev zn:=da->aI->Int->da×fO
def nE(G:zn)(s:da)(g:aI):da×fO:=
 ((G s.nx g (bV s.nv)).1,oG 3 (bV s.nv)::((G s.nx g (bV s.nv)).2++[oG 4 (bV s.nv)]))
def fP(G:zn)(k:Nat)(s:da)(g:aI)(c:Int):da×List fO:=
 match k with
 |0=>if dF (ji g 0) [45,62] 2 then
   let r1:=G s.nx.nx (ji (ji g 0) 0) (bV s.nx.nv)
   let r2:=G r1.1 (ji (ji g 0) 1) c
   let r3:=G r2.1 (ji g 1) c
   (r3.1,[oG 2 (bV s.nv)::oG 3 (bV s.nx.nv)::(r1.2++oG 4 (bV s.nv)::r2.2),r3.2])
  else
   let r1:=G s (ji g 0) c
   let r3:=G r1.1 (ji g 1) c
   (r3.1,[r1.2,r3.2])
 |1=>
  let r1:=nE G s (ji g 0)
  let r2:=G r1.1 (ji g 1) c
  (r2.1,[r1.2++r2.2])
 |2=>
  let r:=G s.nx.nx (iq (ji g 0)) (bV s.nx.nv)
  (r.1,[oG 2 (bV s.nv)::oG 3 (bV s.nx.nv)::(r.2++[oG 4 (bV s.nv),oG 5 0]),[]])
 |_=>
  let r:=nE G s (iq (ji g 0))
  (r.1,[r.2])
def da.j_(s:da):da:=⟨s.nv,s.na,s.tr,s.au++[[]]⟩
def da.put(s:da)(i:Nat)(l:List bG):da:=⟨s.nv,s.na,s.tr,s.au.set i l⟩
def lN(g:aI)(c:Int):eK:=qI g++(if DM g then[l8 c]else[])
def Fq(s:da)(g:aI)(c:Int):cV:=⟨[],((lN g c).length:Int),bV s.na⟩
def k9(G:zn)(k:Nat)(s:da)(g:aI)(c:Int):da×qe:=
 let r:=fP G k s.px.j_ g c
 (r.1.put s.au.length (r.2.map λgs=>⟨Fq s g c,lN g c,gs⟩),pJ (Fq s g c) (lN g c))
def vK(s:da)(g:aI):da×fO:=
 if !s.tr|| !O4 g.cK g.bh.length then(s,[pJ ⟨g.cK,(g.bh.length:Int),0⟩ g.bh])
 else(s.nx,[pJ ⟨[],2,1099511627776⟩ [l8 (bV s.nv),g],pJ ⟨g.cK,(g.bh.length:Int),0⟩ g.bh,pJ ⟨[],2,1099511627775⟩ [l8 (bV s.nv),g]])
def qB(r:da×qe):da×fO:=(r.1,[r.2])
def AI(G:zn):zn:=λs g c=>
 if dF g [116,114,117,101] 0 then(s,[])
 else if dF g [102,97,105,108] 0 then(s,[oG 5 0])
 else if dF g [33] 0 then(s,[oG 4 c])
 else if dF g [44] 2 then
  let r:=G s (ji g 0) c
  let q:=G r.1 (ji g 1) c
  (q.1,r.2++q.2)
 else if dF g [59] 2 then qB (k9 G 0 s g c)
 else if dF g [45,62] 2 then qB (k9 G 1 s g c)
 else if dF g [92,43] 1 then qB (k9 G 2 s g c)
 else if dF g [111,110,99,101] 1 then qB (k9 G 3 s g c)
 else vK s g
def dX:Nat->zn
 |0=>λs _ _=>(s,[])
 |n+1=>AI (dX n)
def gm:aI->Nat
 |.mk k n s [a,b]=>if nR k&&(bW s [44]||bW s [59]||bW s [45,62])then 4+gm a+gm b else 3
 |.mk k n s [a]=>if nR k&&(bW s [92,43]||bW s [111,110,99,101])then 6+gm a else 3
 |_=>3
def kC:aI->Prop
 |.mk k n s [a,b]=>(nR k&&(bW s [44]||bW s [59]||bW s [45,62]))=true->kC a/\kC b
 |.mk k n s [a]=>(nR k&&(bW s [92,43]||bW s [111,110,99,101]))=true->kC a
 |.mk k n s l=>l.length<4000000
theorem ah3{k s nm len ar}(h:rZ k s len nm ar=true):nR k=true/\s=nm/\(len:Int)=ar:=by simp only[rZ,dk,beq_iff_eq]at h;exact⟨h.1.1,by have:=h.1.2;rw[mu]at this;exact dQ this,h.2⟩
theorem re{g nm}(hn:nm=[44]\/nm=[59]\/nm=[45,62])(h:dF g nm 2=true):∃k n a b,g=.mk k n nm [a,b]/\gm g=4+gm a+gm b/\(kC g->kC a/\kC b):=by
 have⟨k,n,s,l⟩:=g;have⟨h1,h2,h3⟩:=ah3 h;simp only[aI.cK,aI.cq,aI.bh]at h1 h2 h3;obtain⟨a,b,rfl⟩:=L6 (by omega:l.length=2);subst h2;refine⟨k,n,a,b,rfl,?_,?_⟩
 .rcases hn with rfl|rfl|rfl<;>(simp only[gm,h1];rfl)
 .rcases hn with rfl|rfl|rfl<;>(simp only[kC,h1];exact λh=>h rfl)
theorem B0{g nm}(hn:nm=[92,43]\/nm=[111,110,99,101])(h:dF g nm 1=true):∃k n a,g=.mk k n nm [a]/\gm g=6+gm a/\(kC g->kC a):=by
 have⟨k,n,s,l⟩:=g;have⟨h1,h2,h3⟩:=ah3 h;simp only[aI.cK,aI.cq,aI.bh]at h1 h2 h3;match l,h3 with
 |[a],_=>
  subst h2;refine⟨k,n,a,rfl,?_,?_⟩
  .rcases hn with rfl|rfl<;>(simp only[gm,h1];rfl)
  .rcases hn with rfl|rfl<;>(simp only[kC,h1];exact λh=>h rfl)
theorem ow:∀g,3<=gm g
 |.mk k n s [a,b]=>by simp only[gm];split<;>omega
 |.mk k n s [a]=>by simp only[gm];split<;>omega
 |.mk k n s []=>by simp[gm]
 |.mk k n s (_::_::_::_)=>by simp[gm]
theorem arq:gm iB=3:=rfl
theorem agz(a):gm (.mk 3 0 uP [a])=3:=rfl
theorem arp(t):gm (dj t)<=gm t:=by
 unfold dj;split
 .exact cM _
 .rw[arq];exact ow t
theorem Xe:∀{t g},eF t=some g->gm g<=gm t
 |.mk k n s l,g,h=>by
  by_cases hk:k=0
  .subst hk;rw[DH]at h;cases h;rw[agz];exact ow _
  .by_cases hb:j0 k s l.length=true
   .obtain⟨a,b,rfl⟩:=L6 (O5 hb);have il:=hb;rw[O6 hk il]at h;cases h1:eF a with
    |none=>rw[h1]at h;cases h
    |some x=>cases h2:eF b with
     |none=>rw[h1,h2]at h;cases h
     |some y=>
      rw[h1,h2]at h;cases h;have e1:=Xe h1;have e2:=Xe h2;simp only[j0,dk,beq_iff_eq]at il;have hc:nR k=true:=by rw[il.1.1];rfl
      have hc3:nR 3=true:=rfl;simp only[gm,hc,hc3,il.2,kZ,if_true];omega
   .rw[DG hk (by simpa using hb)]at h;split at h
    .cases h;exact arp _
    .cases h
theorem Ho(a):gm (iq a)<=gm a:=by
 unfold iq;split;next g hg=>
  unfold iH at hg;split at hg
  .split at hg;next g' h1=>
    split at hg
    .cases hg;exact Xe h1
    .cases hg
   .cases hg
  .cases hg
 .rw[agz];exact ow a
theorem RO{a}(h:bL a):bL (iq a):=by
 have:=agB h;unfold iq;split;next g hg=>rw[hg]at this;exact this
 .exact⟨by simp[dt,uP],by simp[dt],h,trivial⟩
theorem W9:∀{t g},kC t->eF t=some g->kC g
 |.mk k n s l,g,hg,h=>by
  by_cases hk:k=0
  .subst hk;rw[DH]at h;cases h;exact λh=>by cases h
  .by_cases hb:j0 k s l.length=true
   .obtain⟨a,b,rfl⟩:=L6 (O5 hb);have il:=hb;rw[O6 hk il]at h;simp only[j0,dk,beq_iff_eq]at il;have hc:nR k=true:=by rw[il.1.1];rfl
    have qv:kC a/\kC b:=by simp only[kC,hc,il.2,kZ]at hg;exact hg trivial
    cases h1:eF a with
    |none=>rw[h1]at h;cases h
    |some x=>cases h2:eF b with
     |none=>rw[h1,h2]at h;cases h
     |some y=>rw[h1,h2]at h;cases h;exact λ_=>⟨W9 qv.1 h1,W9 qv.2 h2⟩
   .rw[DG hk (by simpa using hb)]at h;split at h
    .cases h;unfold dj;split
     .exact hg
     .show(0:Nat)<4000000;decide
    .cases h
theorem P4{a}(h:kC a):kC (iq a):=by
 unfold iq;split;next g hg=>
  unfold iH at hg;split at hg
  .split at hg;next g' h1=>
    split at hg
    .cases hg;exact W9 h h1
    .cases hg
   .cases hg
  .cases hg
 .exact λh=>by cases h
theorem P5:∀{t},bN t<4000000->kC t
 |.mk k n s [a,b],h=>by simp only[bN,bM]at h;exact λ_=>⟨P5 (by omega),P5 (by omega)⟩
 |.mk k n s [a],h=>by simp only[bN,bM]at h;exact λ_=>P5 (by omega)
 |.mk k n s [],h=>by simp[kC]
 |.mk k n s (a::b::c::l),h=>by have:=Is (a::b::c::l);simp only[bN]at h;simp only[kC];omega
def GB(G:zn)(N:Nat):Prop:=∀s g c,gm g<N->s.au.length<=(G s g c).1.au.length/\(G s g c).1.au.length+3<=s.au.length+gm g/\(G s g c).2.length<=gm g
theorem ZB{G N}(hG:GB G N){s g}(hg:gm g<N):s.au.length<=(nE G s g).1.au.length/\(nE G s g).1.au.length+3<=s.au.length+gm g/\(nE G s g).2.length<=gm g+2:=by have:=hG s.nx g (bV s.nv) hg;simp only[nE,ej,cI,gW];exact⟨this.1,this.2.1,by omega⟩
def jC:Nat->LN
 |0=>[59]
 |1=>[45,62]
 |2=>[92,43]
 |_=>[111,110,99,101]
def lM(k:Nat):Int:=if k<2 then 2 else 1
theorem O3{G N}(hG:GB G N){k s g c}(hk:k<4)(hg:gm g<N+4)(hi:dF g (jC k) (lM k)=true):
 s.au.length<=(fP G k s g c).1.au.length/\(fP G k s g c).1.au.length+4<=s.au.length+gm g/\((fP G k s g c).2≠[])/\∀l∈(fP G k s g c).2,l.length<=gm g:=by
 match k,hk with
 |0,_=>
  obtain⟨k,n,a,b,rfl,e,-⟩:=re (.inr (.inl rfl)) hi;simp only[fP,ji,aI.bh,mK,rB];have ga:=ow a;have gb:=ow b;split;next hc=>
   obtain⟨k',n',a',b',rfl,e',-⟩:=re (.inr (.inr rfl)) hc;simp only[mK,rB];have h1:=hG s.nx.nx a' (bV s.nx.nv) (by omega);have h2:=hG (G s.nx.nx a' (bV s.nx.nv)).1 b' c (by omega);have h3:=hG (G (G s.nx.nx a' (bV s.nx.nv)).1 b' c).1 b c (by omega);have hs:s.nx.nx.au=s.au:=rfl;rw[hs]at h1;refine⟨by first|omega|(dsimp only;omega),by first|omega|(dsimp only;omega),by simp,?_⟩;intro l hl;simp at hl;rcases hl with rfl|rfl
   .simp;omega
   .omega
  .have h1:=hG s a c (by omega);have h3:=hG (G s a c).1 b c (by omega);refine⟨by first|omega|(dsimp only;omega),by first|omega|(dsimp only;omega),by simp,?_⟩;intro l hl;simp at hl;rcases hl with rfl|rfl<;>omega
 |1,_=>obtain⟨k,n,a,b,rfl,e,-⟩:=re (.inr (.inr rfl)) hi;simp only[fP,ji,aI.bh,mK,rB];have ga:=ow a;have h1:=ZB (s:=s) hG (by omega:gm a<N);have h2:=hG (nE G s a).1 b c (by omega);refine⟨by first|omega|(dsimp only;omega),by first|omega|(dsimp only;omega),by simp,?_⟩;intro l hl;simp at hl;subst hl;simp;omega
 |2,_=>
  obtain⟨k,n,a,rfl,e,-⟩:=B0 (.inl rfl) hi;simp only[fP,ji,aI.bh,mK];have ga:=Ho a;have h1:=hG s.nx.nx (iq a) (bV s.nx.nv) (by omega);have hs:s.nx.nx.au=s.au:=rfl;rw[hs]at h1;refine⟨by first|omega|(dsimp only;omega),by first|omega|(dsimp only;omega),by simp,?_⟩;intro l hl;simp at hl;rcases hl with rfl|rfl
  .simp;omega
  .simp
 |3,_=>obtain⟨k,n,a,rfl,e,-⟩:=B0 (.inr rfl) hi;simp only[fP,ji,aI.bh,mK];have ga:=Ho a;have h1:=ZB (s:=s) hG (by omega:gm (iq a)<N);refine⟨by first|omega|(dsimp only;omega),by first|omega|(dsimp only;omega),by simp,?_⟩;intro l hl;simp at hl;subst hl;omega
theorem av6{G N}(hG:GB G N){k s g c}(hk:k<4)(hg:gm g<N+4)(hi:dF g (jC k) (lM k)=true):
 s.au.length<=(k9 G k s g c).1.au.length/\(k9 G k s g c).1.au.length+3<=s.au.length+gm g:=by
 have h:=O3 (s:=s.px.j_) (c:=c) hG hk hg hi;have e:s.px.j_.au.length=s.au.length+1:=by simp[da.px,da.j_]
 simp only[k9,da.put,List.length_set];omega
theorem aBZ{G N}(hG:GB G N):GB (AI G) (N+1):=by
 intro s g c hg;have bu:=ow g;unfold AI;by_cases h1:dF g [116,114,117,101] 0=true
 .rw[aO h1];exact⟨cM _,by simp only;omega,by simp⟩
 rw[az h1];by_cases h2:dF g [102,97,105,108] 0=true
 .rw[aO h2];exact⟨cM _,by simp only;omega,by simp;omega⟩
 rw[az h2];by_cases h3:dF g [33] 0=true
 .rw[aO h3];exact⟨cM _,by simp only;omega,by simp;omega⟩
 rw[az h3];by_cases h4:dF g [44] 2=true
 .rw[aO h4];obtain⟨k,n,a,b,rfl,e,-⟩:=re (.inl rfl) h4;simp only[ji,aI.bh,mK,rB,cI];have q1:=hG s a c (by omega);have q2:=hG (G s a c).1 b c (by omega);omega
 rw[az h4];have one:∀k,k<4->dF g (jC k) (lM k)=true->s.au.length<=(qB (k9 G k s g c)).1.au.length/\(qB (k9 G k s g c)).1.au.length+3<=s.au.length+gm g/\(qB (k9 G k s g c)).2.length<=gm g:=by intro k hk hi;have h:=av6 (s:=s) (c:=c) hG hk (by omega) hi;simp only[qB,ej,gW];omega
 by_cases h5:dF g [59] 2=true
 .rw[aO h5];exact one 0 (by omega) h5
 rw[az h5];by_cases h6:dF g [45,62] 2=true
 .rw[aO h6];exact one 1 (by omega) h6
 rw[az h6];by_cases h7:dF g [92,43] 1=true
 .rw[aO h7];exact one 2 (by omega) h7
 rw[az h7];by_cases h8:dF g [111,110,99,101] 1=true
 .rw[aO h8];exact one 3 (by omega) h8
 rw[az h8];unfold vK;split
 .exact⟨cM _,by simp only;omega,by simp;omega⟩
 .exact⟨cM _,by simp only[da.nx];omega,by simp;omega⟩
theorem qX:∀N,GB (dX N) N
 |0=>λs g c h=>by have:=ow g;omega
 |N+1=>aBZ (qX N)
def yq(s:da)(gs:fO):AH:=al [(0,ct s 3),(1,.bc []),(2,.ay (bD gs) 146),(3,cz s)] 4
def nq(s:da):AH:=al [(0,ct s 2),(1,.bc []),(2,cz s)] 3
def eL(N M:Nat)(s:da)(g:aI):Prop:=bL g/\gm g<N/\gm g<1000000/\s.au.length+gm g<M/\kC g
theorem agv{s s' g g' c c' A H}(h1:A=[.aa 0 0,.ah (aW g),J c])(h2:H=hT s)(h3:A=[.aa 0 0,.ah (aW g'),J c'])(h4:H=hT s'):s=s'/\g=g'/\c=c':=by rw[h1]at h3;rw[h2]at h4;simp at h3;exact⟨HE h4,m_ h3.1,h3.2⟩
structure Gw where
 s:da
 g:aI
 c:Int
 s2:da
 l:fO
def KW(N:Nat):cx Gw where
 bn w A H:=A=[.aa 0 0,.ah (aW w.g),J w.c]/\H=hT w.s/\eL N 3000000 w.s w.g/\dX N w.s w.g w.c=(w.s2,w.l)
 v w:=.ai 2 w.l.length 6
 aK w:=yq w.s2 w.l
theorem arl(N):(KW N).cr:=by rintro⟨s,g,c,s2,l⟩ ⟨s',g',c',M9,l'⟩ A H ⟨h1,h2,_,h5⟩ ⟨h3,h4,_,h6⟩;have⟨e1,e2,e3⟩:=agv h1 h2 h3 h4;subst e1 e2 e3;rw[h5]at h6;cases h6;rfl
def T0(N:Nat):Ev.bo:=bR 82 (ca (KW N) (arl N) cD) K38
def L5(N:Nat):cx Gw where
 bn w A H:=A=[.aa 0 0,.ah (aW w.g)]/\H=hT w.s/\eL N 3000000 w.s w.g/\nE (dX N) w.s w.g=(w.s2,w.l)
 v w:=.ai 2 w.l.length 6
 aK w:=yq w.s2 w.l
theorem atV(N):(L5 N).cr:=by rintro⟨s,g,c,s2,l⟩ ⟨s',g',c',M9,l'⟩ A H ⟨h1,h2,_,h5⟩ ⟨h3,h4,_,h6⟩;rw[h1]at h3;rw[h2]at h4;simp at h3;rw[HE h4,m_ h3,h6]at h5;cases h5;rfl
def T1(N:Nat):Ev.bo:=bR 168 (ca (L5 N) (atV N) cD) (T0 N)
def kb(gs:fO):AV:=.ad (bD gs) gs.length 6
structure Bw where
 s:da
 g:aI
 c:Int
 s2:da
 ls:List fO
def qj(k N:Nat):cx Bw where
 bn w A H:=A=[.aa 0 0,.ah (aW w.g),J w.c]/\H=hT w.s/\eL (N+4) 3000001 w.s w.g/\dF w.g (jC k) (lM k)=true/\fP (dX N) k w.s w.g w.c=(w.s2,w.ls)
 v w:=.ad (w.ls.map kb) w.ls.length 1
 aK w:=nq w.s2
theorem O2(k N):(qj k N).cr:=by rintro⟨s,g,c,s2,l⟩ ⟨s',g',c',M9,l'⟩ A H ⟨h1,h2,_,_,h5⟩ ⟨h3,h4,_,_,h6⟩;have⟨e1,e2,e3⟩:=agv h1 h2 h3 h4;subst e1 e2 e3;rw[h5]at h6;cases h6;rfl
def T2(N:Nat):Ev.bo:=bR 143 (ca (qj 0 N) (O2 0 N) cD) (T1 N)
def T3(N:Nat):Ev.bo:=bR 144 (ca (qj 1 N) (O2 1 N) cD) (T2 N)
def T4(N:Nat):Ev.bo:=bR 145 (ca (qj 2 N) (O2 2 N) cD) (T3 N)
def T5(N:Nat):Ev.bo:=bR 146 (ca (qj 3 N) (O2 3 N) cD) (T4 N)
def zQ:Nat->Nat
 |0=>143
 |1=>144
 |2=>145
 |3=>146
 |k+4=>k+200
theorem aq2{k k'}(h:k<4)(h':k'<4)(e:zQ k=zQ k'):k=k':=by rcases k with _|_|_|_|k<;>rcases k' with _|_|_|_|k'<;>first|rfl|omega|cases e
structure Rw where
 k:Nat
 s:da
 g:aI
 c:Int
 s2:da
 q:qe
def M8(N:Nat):cx Rw where
 bn w A H:=A=[.aa 0 0,.ah [.ab (jC w.k),J (lM w.k),.ba (.func (zQ w.k)) [] []],.ah (aW w.g),J w.c]/\H=hT w.s/\eL (N+4) 3000000 w.s w.g/\dF w.g (jC w.k) (lM w.k)=true/\w.k<4/\k9 (dX N) w.k w.s w.g w.c=(w.s2,w.q)
 v w:=.ah (uS w.q)
 aK w:=nq w.s2
theorem awk(N):(M8 N).cr:=by rintro⟨k,s,g,c,s2,l⟩ ⟨k',s',g',c',M9,l'⟩ A H ⟨h1,h2,_,_,k1,h5⟩ ⟨h3,h4,_,_,k2,h6⟩;rw[h1]at h3;rw[h2]at h4;simp at h3;have⟨⟨_,_,e1⟩,e2,e3⟩:=h3;obtain rfl:k=k':=aq2 k1 k2 e1;rw[HE h4,m_ e2,e3,h6]at h5;cases h5;rfl
def T6(N:Nat):Ev.bo:=bR 115 (ca (M8 N) (awk N) cD) (T5 N)
def Rk:Nat->LN:=fT [(999995,[2000003]),(999998,[0,3,5,6])]
def Md:Nat->LN:=fT [(999995,[2000007]),(999998,[0,2,4,7,8,9,10])]
def Me:Nat->LN:=fT [(999995,[2000008]),(999998,[0,2,4,7,8,9,10])]
def Rj:Nat->LN:=fT [(999995,[2000004]),(999998,[0,4,7,8,9])]
def pU:Nat->LN:=fT [(9,[0,8,9,10,11,12,50,51,52]),(999995,[2000008]),(999998,[0,3,5,6,8,9,10,11,12])]
def nF:Nat->LN:=fT [(9,[0,8,9,10,11,12,50,51,52]),(999995,[2000013]),(999998,[0,8,9,10,11,12])]
def yJ:Nat->LN:=fT [(11,[0,2,4,47,48]),(999995,[2000016]),(999998,[0,4])]
def aeJ:AV:=.ah [.ab [59],J 2,.ba (.func 143) [] [],.ab [45,62],J 2,.ba (.func 144) [] [],.ab [92,43],J 1,.ba (.func 145) [] [],.ab [111,110,99,101],J 1,.ba (.func 146) [] []]
def wX:Nat->LN:=fT [(999995,[2000008,2000010]),(999998,[0,2,4])]
def Rn:Nat->LN:=fT [(999995,[2000022]),(999998,[4,10,11,12,13])]
def iQ(l:fO):bk:=.ay (bD l) 146
def GL(nm:LN)(ar:Int)(f:Nat):bk:=.aj [.ab nm,J ar,.ba (.func f) [] []] 184
def kh(ar au:Int):bk:=.aj [.ab [],J ar,J au] 39
theorem aAy{s k n nm cs len N L Q}:
 bI Z (T0 N) Rk L Q 1000 168 [.aa 0 0,.ah [J k,J n,.ab nm,.ad cs len 4]] (hT s)=(
 ∃w:da,(([.aa 0 0]:LV)=[.aa 0 0]/\hT s=hT w)/\(al [] 0=an/\True)/\L (aB [(0,.aa 0 0),(3,.aa 2 0),(5,J (bV w.nv)),(6,.bq 3 0 1 1 6 true)]) (al [(0,ct w.nx 1),(1,cz w.nx),(2,en k n nm cs len),(3,.aj [J 3,.ab [],J 0,J 0,.ad [] 0 4,J (bV w.nv)] 146)] 4) (di Z Rk 168 0)):=by kernel_rfl
theorem aAx{s k n nm cs len m gs N L Q}:
 ck Z (T0 N) (λ_=>[]) L Q 1000 168 2 (aB [(0,.aa 0 0),(3,.aa 2 0),(5,J m),(6,.ai 3 gs.length 6)]) (di Z Rk 168 0) (al [(0,ct s 1),(1,cz s),(2,en k n nm cs len),(3,iQ gs)] 4)=(
 ∃w:Gw,(([.aa 0 0,.ah [J k,J n,.ab nm,.ad cs len 4],J m]:LV)=[.aa 0 0,.ah (aW w.g),J w.c]/\hT s=hT w.s/\eL N 3000000 w.s w.g/\dX N w.s w.g w.c=Prod.mk w.s2 w.l)/\(bD w.l).length=w.l.length*6/\(w.l.length=0->gs.length<=4194304/\(al [] 0=an/\True)/\((bD gs).length=gs.length*6/\gs.length+1<=4194304/\true=true/\true=true)/\Q (.ai 2 (gs.length+1) 6) (al [(0,ct w.s2 3),(1,.bc []),(2,.ay (bD gs++[J 4,.ab [],J 0,J 0,.ad [] 0 4,J m]) 146),(3,cz w.s2)] 4))/\(1<=w.l.length->((bD gs).length=gs.length*6/\gs.length+w.l.length<=4194304/\List.all (bD w.l) AV.cX=true/\List.all (bD w.l) eG=true)/\(al [] 0=an/\True)/\((HAppend.hAppend (bD gs) (bD w.l)).length=(gs.length+w.l.length)*6/\gs.length+w.l.length+1<=4194304/\true=true/\true=true)/\Q (.ai 2 (gs.length+w.l.length+1) 6) (al [(0,ct w.s2 3),(1,.bc []),(2,.ay (bD gs++bD w.l++[J 4,.ab [],J 0,J 0,.ad [] 0 4,J m]) 146),(3,cz w.s2)] 4))):=by kernel_rfl
theorem alo{s k n nm cs len c N L Q}:
 bI Z (T1 N) Md L Q 1000 143 [.aa 0 0,.ah [J k,J n,.ab nm,.ad cs len 4],J c] (hT s)=(
 0<len/\(∃aP:Int,∃bA:Int,∃cn:LN,∃bP:LV,∃bH:Nat,((cs.drop 0).take 4:List AV)=[J aP,J bA,.ab cn,.ad bP bH 4]/\(al [] 0=an/\True)/\aq (rZ aP cn bH [45,62] 2) (∃w:da,(([.aa 0 0]:LV)=[.aa 0 0]/\hT s=hT w)/\(∃ae:da,(([.aa 0 0]:LV)=[.aa 0 0]/\hT w.nx=hT ae)/\(al [] 0=an/\True)/\(al [] 0=an/\True)/\L (aB [(0,.aa 0 0),(2,J c),(4,.aa 2 0),(7,.ai 3 2 6),(8,.aa 4 0),(9,J (bV w.nv)),(10,J (bV ae.nv))]) (al [(0,ct ae.nx 1),(1,cz ae.nx),(2,en k n nm cs len),(3,.aj [J 2,.ab [],J 0,J 0,.ad [] 0 4,J (bV w.nv),J 3,.ab [],J 0,J 0,.ad [] 0 4,J (bV ae.nv)] 146),(4,en aP bA cn bP bH)] 5) (di Z Md 143 0))) (∃w:Gw,(([.aa 0 0,.ah [J aP,J bA,.ab cn,.ad bP bH 4],J c]:LV)=[.aa 0 0,.ah (aW w.g),J w.c]/\hT s=hT w.s/\eL N 3000000 w.s w.g/\dX N w.s w.g w.c=Prod.mk w.s2 w.l)/\1<len/\(∃cf:Int,∃dc:Int,∃lE:LN,∃gN:LV,∃gP:Nat,((cs.drop 4).take 4:List AV)=[J cf,J dc,.ab lE,.ad gN gP 4]/\(∃ae:Gw,(([.aa 0 0,.ah [J cf,J dc,.ab lE,.ad gN gP 4],J c]:LV)=[.aa 0 0,.ah (aW ae.g),J ae.c]/\hT w.s2=hT ae.s/\eL N 3000000 ae.s ae.g/\dX N ae.s ae.g ae.c=Prod.mk ae.s2 ae.l)/\Q (.bq 2 0 2 2 1 true) (al [(0,ct ae.s2 3),(1,.bc []),(2,.aj [.ai 4 w.l.length 6,.ai 5 ae.l.length 6] 104),(3,cz ae.s2),(4,iQ w.l),(5,iQ ae.l)] 6)))))):=by kernel_rfl
theorem aAo{s k n nm cs len c k1 n1 dU zA E_ a b gs N L Q}:
 ck Z (T1 N) Me L Q 1000 143 2 (aB [(0,.aa 0 0),(2,J c),(4,.aa 2 0),(7,.ai 3 gs.length 6),(8,.aa 4 0),(9,J a),(10,J b)]) (di Z Md 143 0) (al [(0,ct s 1),(1,cz s),(2,en k n nm cs len),(3,iQ gs),(4,en k1 n1 dU zA E_)] 5)=(
 0<E_/\(∃aP:Int,∃bA:Int,∃cn:LN,∃bP:LV,∃bH:Nat,((zA.drop 0).take 4:List AV)=[J aP,J bA,.ab cn,.ad bP bH 4]/\(∃w:Gw,(([.aa 0 0,.ah [J aP,J bA,.ab cn,.ad bP bH 4],J b]:LV)=[.aa 0 0,.ah (aW w.g),J w.c]/\hT s=hT w.s/\eL N 3000000 w.s w.g/\dX N w.s w.g w.c=Prod.mk w.s2 w.l)/\(bD w.l).length=w.l.length*6/\(w.l.length=0->gs.length<=4194304/\L (aB [(0,.aa 0 0),(2,J c),(4,.aa 2 0),(7,.ai 3 gs.length 6),(8,.aa 4 0),(9,J a),(10,J b)]) (al [(0,ct w.s2 5),(1,.bc []),(2,en k n nm cs len),(3,iQ gs),(4,en k1 n1 dU zA E_),(5,cz w.s2)] 6) (di Z Me 143 0))/\(1<=w.l.length->((bD gs).length=gs.length*6/\gs.length+w.l.length<=4194304/\List.all (bD w.l) AV.cX=true/\List.all (bD w.l) eG=true)/\L (aB [(0,.aa 0 0),(2,J c),(4,.aa 2 0),(7,.ai 3 (gs.length+w.l.length) 6),(8,.aa 4 0),(9,J a),(10,J b)]) (al [(0,ct w.s2 5),(1,.bc []),(2,en k n nm cs len),(3,.ay (bD gs++bD w.l) 146),(4,en k1 n1 dU zA E_),(5,cz w.s2)] 6) (di Z Me 143 0))))):=by kernel_rfl
theorem aAp{s k n nm cs len c k1 n1 dU zA E_ a b gs N L Q}:
 ck Z (T1 N) (λ_=>[]) L Q 1000 143 2 (aB [(0,.aa 0 0),(2,J c),(4,.aa 2 0),(7,.ai 3 gs.length 6),(8,.aa 4 0),(9,J a),(10,J b)]) (di Z Me 143 0) (al [(0,ct s 5),(1,.bc []),(2,en k n nm cs len),(3,iQ gs),(4,en k1 n1 dU zA E_),(5,cz s)] 6)=(
 (al [] 0=an/\True)/\((bD gs).length=gs.length*6/\gs.length+1<=4194304/\true=true/\true=true)/\1<E_/\(∃aP:Int,∃bA:Int,∃cn:LN,∃bP:LV,∃bH:Nat,((zA.drop 4).take 4:List AV)=[J aP,J bA,.ab cn,.ad bP bH 4]/\(∃w:Gw,(([.aa 0 0,.ah [J aP,J bA,.ab cn,.ad bP bH 4],J c]:LV)=[.aa 0 0,.ah (aW w.g),J w.c]/\hT s=hT w.s/\eL N 3000000 w.s w.g/\dX N w.s w.g w.c=Prod.mk w.s2 w.l)/\(bD w.l).length=w.l.length*6/\(w.l.length=0->gs.length+1<=4194304/\1<len/\(∃cf:Int,∃dc:Int,∃lE:LN,∃gN:LV,∃gP:Nat,((cs.drop 4).take 4:List AV)=[J cf,J dc,.ab lE,.ad gN gP 4]/\(∃ae:Gw,(([.aa 0 0,.ah [J cf,J dc,.ab lE,.ad gN gP 4],J c]:LV)=[.aa 0 0,.ah (aW ae.g),J ae.c]/\hT w.s2=hT ae.s/\eL N 3000000 ae.s ae.g/\dX N ae.s ae.g ae.c=Prod.mk ae.s2 ae.l)/\Q (.bq 2 0 2 2 1 true) (al [(0,ct ae.s2 3),(1,.bc []),(2,.aj [.ai 4 (gs.length+1) 6,.ai 5 ae.l.length 6] 104),(3,cz ae.s2),(4,.ay (bD gs++[J 4,.ab [],J 0,J 0,.ad [] 0 4,J a]) 146),(5,iQ ae.l)] 6))))/\(1<=w.l.length->((HAppend.hAppend (bD gs) [J 4,.ab [],J 0,J 0,.ad [] 0 4,J a]).length=(gs.length+1)*6/\gs.length+1+w.l.length<=4194304/\List.all (bD w.l) AV.cX=true/\List.all (bD w.l) eG=true)/\1<len/\(∃cf:Int,∃dc:Int,∃lE:LN,∃gN:LV,∃gP:Nat,((cs.drop 4).take 4:List AV)=[J cf,J dc,.ab lE,.ad gN gP 4]/\(∃ae:Gw,(([.aa 0 0,.ah [J cf,J dc,.ab lE,.ad gN gP 4],J c]:LV)=[.aa 0 0,.ah (aW ae.g),J ae.c]/\hT w.s2=hT ae.s/\eL N 3000000 ae.s ae.g/\dX N ae.s ae.g ae.c=Prod.mk ae.s2 ae.l)/\Q (.bq 2 0 2 2 1 true) (al [(0,ct ae.s2 3),(1,.bc []),(2,.aj [.ai 4 (gs.length+1+w.l.length) 6,.ai 5 ae.l.length 6] 104),(3,cz ae.s2),(4,.ay (bD gs++[J 4,.ab [],J 0,J 0,.ad [] 0 4,J a]++bD w.l) 146),(5,iQ ae.l)] 6))))))):=by kernel_rfl
theorem aAq{s k n nm cs len c N L Q}:
 bI Z (T2 N) (λ_=>[]) L Q 1000 144 [.aa 0 0,.ah [J k,J n,.ab nm,.ad cs len 4],J c] (hT s)=(
 0<len/\(∃aP:Int,∃bA:Int,∃cn:LN,∃bP:LV,∃bH:Nat,((cs.drop 0).take 4:List AV)=[J aP,J bA,.ab cn,.ad bP bH 4]/\(∃w:Gw,(([.aa 0 0,.ah [J aP,J bA,.ab cn,.ad bP bH 4]]:LV)=[.aa 0 0,.ah (aW w.g)]/\hT s=hT w.s/\eL N 3000000 w.s w.g/\nE (dX N) w.s w.g=Prod.mk w.s2 w.l)/\1<len/\(∃cf:Int,∃dc:Int,∃lE:LN,∃gN:LV,∃gP:Nat,((cs.drop 4).take 4:List AV)=[J cf,J dc,.ab lE,.ad gN gP 4]/\(∃ae:Gw,(([.aa 0 0,.ah [J cf,J dc,.ab lE,.ad gN gP 4],J c]:LV)=[.aa 0 0,.ah (aW ae.g),J ae.c]/\hT w.s2=hT ae.s/\eL N 3000000 ae.s ae.g/\dX N ae.s ae.g ae.c=Prod.mk ae.s2 ae.l)/\(bD ae.l).length=ae.l.length*6/\(ae.l.length=0->w.l.length<=4194304/\Q (.bq 2 0 1 1 1 true) (al [(0,ct ae.s2 3),(1,.bc []),(2,.aj [.ai 4 w.l.length 6] 104),(3,cz ae.s2),(4,iQ w.l)] 5))/\(1<=ae.l.length->((bD w.l).length=w.l.length*6/\w.l.length+ae.l.length<=4194304/\List.all (bD ae.l) AV.cX=true/\List.all (bD ae.l) eG=true)/\Q (.bq 2 0 1 1 1 true) (al [(0,ct ae.s2 3),(1,.bc []),(2,.aj [.ai 4 (w.l.length+ae.l.length) 6] 104),(3,cz ae.s2),(4,.ay (bD w.l++bD ae.l) 146)] 5))))))):=by kernel_rfl
theorem aAs{s k n nm cs len c N L Q}:
 bI Z (T3 N) Rj L Q 1000 145 [.aa 0 0,.ah [J k,J n,.ab nm,.ad cs len 4],J c] (hT s)=(
 ∃w:da,(([.aa 0 0]:LV)=[.aa 0 0]/\hT s=hT w)/\(∃ae:da,(([.aa 0 0]:LV)=[.aa 0 0]/\hT w.nx=hT ae)/\(al [] 0=an/\True)/\(al [] 0=an/\True)/\L (aB [(0,.aa 0 0),(4,.aa 2 0),(7,J (bV w.nv)),(8,J (bV ae.nv)),(9,.bq 3 0 2 2 6 true)]) (al [(0,ct ae.nx 1),(1,cz ae.nx),(2,en k n nm cs len),(3,.aj [J 2,.ab [],J 0,J 0,.ad [] 0 4,J (bV w.nv),J 3,.ab [],J 0,J 0,.ad [] 0 4,J (bV ae.nv)] 146)] 4) (di Z Rj 145 0))):=by kernel_rfl
theorem aAr{s k n nm cs len a b gs N L Q}:
 ck Z (T3 N) (λ_=>[]) L Q 1000 145 2 (aB [(0,.aa 0 0),(4,.aa 2 0),(7,J a),(8,J b),(9,.ai 3 gs.length 6)]) (di Z Rj 145 0) (al [(0,ct s 1),(1,cz s),(2,en k n nm cs len),(3,iQ gs)] 4)=(
 0<len/\(∃aP:Int,∃bA:Int,∃cn:LN,∃bP:LV,∃bH:Nat,((cs.drop 0).take 4:List AV)=[J aP,J bA,.ab cn,.ad bP bH 4]/\(∃w:aI,(([.ah [J aP,J bA,.ab cn,.ad bP bH 4]]:LV)=[.ah (aW w)]/\al [] 0=an/\bL w)/\(∃ae:Gw,(([.aa 0 0,.ah [J (iq w).cq,J (iq w).n,.ab (iq w).cK,.ad (aF (iq w).bh) (iq w).bh.length 4],J b]:LV)=[.aa 0 0,.ah (aW ae.g),J ae.c]/\hT s=hT ae.s/\eL N 3000000 ae.s ae.g/\dX N ae.s ae.g ae.c=Prod.mk ae.s2 ae.l)/\(bD ae.l).length=ae.l.length*6/\(ae.l.length=0->gs.length<=4194304/\(al [] 0=an/\True)/\(al [] 0=an/\True)/\((bD gs).length=gs.length*6/\gs.length+2<=4194304/\true=true/\true=true)/\Q (.bq 2 0 2 2 1 true) (al [(0,ct ae.s2 3),(1,.bc []),(2,.aj [.ai 4 (gs.length+2) 6,.aJ] 104),(3,cz ae.s2),(4,.ay (bD gs++[J 4,.ab [],J 0,J 0,.ad [] 0 4,J a,J 5,.ab [],J 0,J 0,.ad [] 0 4,J 0]) 146)] 5))/\(1<=ae.l.length->((bD gs).length=gs.length*6/\gs.length+ae.l.length<=4194304/\List.all (bD ae.l) AV.cX=true/\List.all (bD ae.l) eG=true)/\(al [] 0=an/\True)/\(al [] 0=an/\True)/\((HAppend.hAppend (bD gs) (bD ae.l)).length=(gs.length+ae.l.length)*6/\gs.length+ae.l.length+2<=4194304/\true=true/\true=true)/\Q (.bq 2 0 2 2 1 true) (al [(0,ct ae.s2 3),(1,.bc []),(2,.aj [.ai 4 (gs.length+ae.l.length+2) 6,.aJ] 104),(3,cz ae.s2),(4,.ay (bD gs++bD ae.l++[J 4,.ab [],J 0,J 0,.ad [] 0 4,J a,J 5,.ab [],J 0,J 0,.ad [] 0 4,J 0]) 146)] 5)))))):=by kernel_rfl
theorem aAt{s k n nm cs len c N L Q}:
 bI Z (T4 N) (λ_=>[]) L Q 1000 146 [.aa 0 0,.ah [J k,J n,.ab nm,.ad cs len 4],J c] (hT s)=(
 0<len/\(∃aP:Int,∃bA:Int,∃cn:LN,∃bP:LV,∃bH:Nat,((cs.drop 0).take 4:List AV)=[J aP,J bA,.ab cn,.ad bP bH 4]/\(∃w:aI,(([.ah [J aP,J bA,.ab cn,.ad bP bH 4]]:LV)=[.ah (aW w)]/\al [] 0=an/\bL w)/\(∃ae:Gw,(([.aa 0 0,.ah [J (iq w).cq,J (iq w).n,.ab (iq w).cK,.ad (aF (iq w).bh) (iq w).bh.length 4]]:LV)=[.aa 0 0,.ah (aW ae.g)]/\hT s=hT ae.s/\eL N 3000000 ae.s ae.g/\nE (dX N) ae.s ae.g=Prod.mk ae.s2 ae.l)/\Q (.bq 2 0 1 1 1 true) (al [(0,ct ae.s2 3),(1,.bc []),(2,.aj [.ai 4 ae.l.length 6] 104),(3,cz ae.s2),(4,iQ ae.l)] 5))))):=by kernel_rfl
theorem az2{s f dU kJ k n nm cs len c N L Q}:
 bI Z (T5 N) pU L Q 1000 115 [.aa 0 0,.ah [.ab dU,J kJ,.ba (.func f) [] []],.ah [J k,J n,.ab nm,.ad cs len 4],J c] (hT s)=(
 ∃b:Bool,aq b (∃w:aI,(([.ah [J k,J n,.ab nm,.ad cs len 4]]:LV)=[.ah (aW w)]/\al [] 0=an/\bL w/\List.isEmpty (gh w)=false)/\(∃ae:aI,(([.ah [J k,J n,.ab nm,.ad cs len 4]]:LV)=[.ah (aW ae)]/\al [] 0=an/\bL ae)/\aq (DM ae) ((al [] 0=an/\True)/\((aF (qI w)).length=(gh w).length*4/\(gh w).length+1<=4194304/\true=true/\true=true)/\(∃aS:da,(([.aa 0 0]:LV)=[.aa 0 0]/\hT s=hT aS)/\((iN aS.px.au).length=aS.px.au.length*1/\aS.px.au.length+1<=4194304/\true=true/\true=true)/\L (aB [(0,.aa 0 0),(3,J c),(5,.aa 2 0),(6,.aa 3 0),(8,.aa 4 0),(9,.ai 5 ((gh w).length+1) 4),(10,.aa 6 0),(11,J (aE aS.px.au.length)),(12,.aJ)]) (al [(0,.aj [J aS.px.nv,J aS.px.na,.ao aS.px.tr,.ai 7 (aS.px.au.length+1) 1] 120),(1,.bc []),(2,GL dU kJ f),(3,en k n nm cs len),(4,kc),(5,.ay (aF (qI w)++[J 0,J (xG c),.ab [],.ad [] 0 4]) 49),(6,kh (aE ((gh w).length+1)) (bV aS.na)),(7,.ay (iN aS.px.au++[.aJ]) 84)] 8) (di Z pU 115 0))) (∃aS:da,(([.aa 0 0]:LV)=[.aa 0 0]/\hT s=hT aS)/\((iN aS.px.au).length=aS.px.au.length*1/\aS.px.au.length+1<=4194304/\true=true/\true=true)/\L (aB [(0,.aa 0 0),(3,J c),(5,.aa 2 0),(6,.aa 3 0),(8,.aa 4 0),(9,.ai 5 (gh w).length 4),(10,.aa 6 0),(11,J (aE aS.px.au.length)),(12,.aJ)]) (al [(0,.aj [J aS.px.nv,J aS.px.na,.ao aS.px.tr,.ai 7 (aS.px.au.length+1) 1] 120),(1,.bc []),(2,GL dU kJ f),(3,en k n nm cs len),(4,kc),(5,.ay (aF (qI w)) 49),(6,kh (aE (gh w).length) (bV aS.na)),(7,.ay (iN aS.px.au++[.aJ]) 84)] 8) (di Z pU 115 0)))) (∃w:aI,(([.ah [J k,J n,.ab nm,.ad cs len 4]]:LV)=[.ah (aW w)]/\al [] 0=an/\bL w/\List.isEmpty (gh w)=true)/\(∃ae:aI,(([.ah [J k,J n,.ab nm,.ad cs len 4]]:LV)=[.ah (aW ae)]/\al [] 0=an/\bL ae)/\aq (DM ae) ((al [] 0=an/\True)/\(∃aS:da,(([.aa 0 0]:LV)=[.aa 0 0]/\hT s=hT aS)/\((iN aS.px.au).length=aS.px.au.length*1/\aS.px.au.length+1<=4194304/\true=true/\true=true)/\L (aB [(0,.aa 0 0),(3,J c),(5,.aa 2 0),(6,.aa 3 0),(8,.aa 4 0),(9,.ai 5 1 4),(10,.aa 6 0),(11,J (aE aS.px.au.length)),(12,.aJ)]) (al [(0,.aj [J aS.px.nv,J aS.px.na,.ao aS.px.tr,.ai 7 (aS.px.au.length+1) 1] 120),(1,.bc []),(2,GL dU kJ f),(3,en k n nm cs len),(4,kc),(5,en 0 (xG c) [] [] 0),(6,kh 1 (bV aS.na)),(7,.ay (iN aS.px.au++[.aJ]) 84)] 8) (di Z pU 115 0))) (∃aS:da,(([.aa 0 0]:LV)=[.aa 0 0]/\hT s=hT aS)/\((iN aS.px.au).length=aS.px.au.length*1/\aS.px.au.length+1<=4194304/\true=true/\true=true)/\L (aB [(0,.aa 0 0),(3,J c),(5,.aa 2 0),(6,.aa 3 0),(8,.aa 4 0),(9,.aJ),(10,.aa 5 0),(11,J (aE aS.px.au.length)),(12,.aJ)]) (al [(0,.aj [J aS.px.nv,J aS.px.na,.ao aS.px.tr,.ai 6 (aS.px.au.length+1) 1] 120),(1,.bc []),(2,GL dU kJ f),(3,en k n nm cs len),(4,kc),(5,kh 0 (bV aS.na)),(6,.ay (iN aS.px.au++[.aJ]) 84)] 7) (di Z pU 115 0))))):=by kernel_rfl
theorem SG{s k n nm cs len c N L Q}:
 bI Z (T6 N) wX L Q 3000 82 [.aa 0 0,.ah [J k,J n,.ab nm,.ad cs len 4],J c] (hT s)=(
 (al [] 0=an/\True)/\aq (rZ k nm len [116,114,117,101] 0) (Q .aJ (hT s)) ((al [] 0=an/\True)/\aq (rZ k nm len [102,97,105,108] 0) ((al [] 0=an/\True)/\Q (.bq 2 0 1 1 6 true) (al [(0,ct s 1),(1,cz s),(2,.aj [J 5,.ab [],J 0,J 0,.ad [] 0 4,J 0] 146)] 3)) ((al [] 0=an/\True)/\aq (rZ k nm len [33] 0) ((al [] 0=an/\True)/\Q (.bq 2 0 1 1 6 true) (al [(0,ct s 1),(1,cz s),(2,.aj [J 4,.ab [],J 0,J 0,.ad [] 0 4,J c] 146)] 3)) ((al [] 0=an/\True)/\aq (rZ k nm len [44] 2) (L (aB [(0,.aa 0 0),(2,J c),(4,.aa 2 0)]) (al [(0,ct s 1),(1,cz s),(2,en k n nm cs len)] 3) (di Z wX 82 0)) (L (aB [(0,.aa 0 0),(2,J c),(4,.aa 2 0)]) (al [(0,ct s 1),(1,cz s),(2,en k n nm cs len)] 3) (di Z wX 82 1)))))):=by kernel_rfl
theorem aBG{s k n nm cs len c N L Q}:
 ck Z (T6 N) (λ_=>[]) L Q 1000 82 2 (aB [(0,.aa 0 0),(2,J c),(4,.aa 2 0)]) (di Z wX 82 0) (al [(0,ct s 1),(1,cz s),(2,en k n nm cs len)] 3)=(
 0<len/\(∃aP:Int,∃bA:Int,∃cn:LN,∃bP:LV,∃bH:Nat,((cs.drop 0).take 4:List AV)=[J aP,J bA,.ab cn,.ad bP bH 4]/\(∃w:Gw,(([.aa 0 0,.ah [J aP,J bA,.ab cn,.ad bP bH 4],J c]:LV)=[.aa 0 0,.ah (aW w.g),J w.c]/\hT s=hT w.s/\eL N 3000000 w.s w.g/\dX N w.s w.g w.c=Prod.mk w.s2 w.l)/\1<len/\(∃cf:Int,∃dc:Int,∃lE:LN,∃gN:LV,∃gP:Nat,((cs.drop 4).take 4:List AV)=[J cf,J dc,.ab lE,.ad gN gP 4]/\(∃ae:Gw,(([.aa 0 0,.ah [J cf,J dc,.ab lE,.ad gN gP 4],J c]:LV)=[.aa 0 0,.ah (aW ae.g),J ae.c]/\hT w.s2=hT ae.s/\eL N 3000000 ae.s ae.g/\dX N ae.s ae.g ae.c=Prod.mk ae.s2 ae.l)/\(bD ae.l).length=ae.l.length*6/\(ae.l.length=0->w.l.length<=4194304/\Q (.ai 2 w.l.length 6) (yq ae.s2 w.l))/\(1<=ae.l.length->((bD w.l).length=w.l.length*6/\w.l.length+ae.l.length<=4194304/\List.all (bD ae.l) AV.cX=true/\List.all (bD ae.l) eG=true)/\Q (.ai 2 (w.l.length+ae.l.length) 6) (al [(0,ct ae.s2 3),(1,.bc []),(2,.ay (bD w.l++bD ae.l) 146),(3,cz ae.s2)] 4))))))):=by kernel_rfl
theorem aBJ{s k n nm cs len c N L Q}:
 ck Z (T6 N) yJ L Q 1000 82 2 (aB [(0,.aa 0 0),(2,J c),(4,.aa 2 0)]) (di Z wX 82 1) (al [(0,ct s 1),(1,cz s),(2,en k n nm cs len)] 3)=(
 (al [] 0=an/\True)/\L (aB [(0,.aa 0 0),(2,J c),(4,.aa 2 0),(47,.ah [.ab [59],J 2,.ba (.func 143) [] [],.ab [45,62],J 2,.ba (.func 144) [] [],.ab [92,43],J 1,.ba (.func 145) [] [],.ab [111,110,99,101],J 1,.ba (.func 146) [] []]),(48,J 0)]) (al [(0,ct s 1),(1,cz s),(2,en k n nm cs len)] 3) (aw Z 82 0)):=by kernel_rfl
theorem abj{s k n nm cs len c i N L Q}:
 ck Z (T6 N) yJ L Q 1000 82 2 (aB [(0,.aa 0 0),(2,J c),(4,.aa 2 0),(47,aeJ),(48,J i)]) (aw Z 82 0) (al [(0,ct s 1),(1,cz s),(2,en k n nm cs len)] 3)=(
 aq (decide (i<4)) (((0:Int)<=i/\i<4)/\(i=0->(al [] 0=an/\True)/\aq (rZ k nm len [59] 2) (∃w:Rw,(([.aa 0 0,.ah [.ab [59],J 2,.ba (.func 143) [] []],.ah [J k,J n,.ab nm,.ad cs len 4],J c]:LV)=[.aa 0 0,.ah [.ab (jC w.k),J (lM w.k),.ba (.func (zQ w.k)) [] []],.ah (aW w.g),J w.c]/\hT s=hT w.s/\eL (N+4) 3000000 w.s w.g/\dF w.g (jC w.k) (lM w.k)=true/\w.k<4/\k9 (dX N) w.k w.s w.g w.c=Prod.mk w.s2 w.q)/\Q (.bq 2 0 1 1 6 true) (al [(0,ct w.s2 3),(1,.bc []),(2,.aj [J w.q.eO,.ab w.q.aN.cL,J w.q.aN.ar,J w.q.aN.au,.ad (aF w.q.eN) w.q.eN.length 4,J w.q.lG] 146),(3,cz w.s2)] 4)) (L (aB [(0,.aa 0 0),(2,J c),(4,.aa 2 0),(47,.ah [.ab [59],J 2,.ba (.func 143) [] [],.ab [45,62],J 2,.ba (.func 144) [] [],.ab [92,43],J 1,.ba (.func 145) [] [],.ab [111,110,99,101],J 1,.ba (.func 146) [] []]),(48,J (wI (i+1)))]) (al [(0,ct s 1),(1,cz s),(2,en k n nm cs len)] 3) (aw Z 82 0)))/\(i=1->(al [] 0=an/\True)/\aq (rZ k nm len [45,62] 2) (∃w:Rw,(([.aa 0 0,.ah [.ab [45,62],J 2,.ba (.func 144) [] []],.ah [J k,J n,.ab nm,.ad cs len 4],J c]:LV)=[.aa 0 0,.ah [.ab (jC w.k),J (lM w.k),.ba (.func (zQ w.k)) [] []],.ah (aW w.g),J w.c]/\hT s=hT w.s/\eL (N+4) 3000000 w.s w.g/\dF w.g (jC w.k) (lM w.k)=true/\w.k<4/\k9 (dX N) w.k w.s w.g w.c=Prod.mk w.s2 w.q)/\Q (.bq 2 0 1 1 6 true) (al [(0,ct w.s2 3),(1,.bc []),(2,.aj [J w.q.eO,.ab w.q.aN.cL,J w.q.aN.ar,J w.q.aN.au,.ad (aF w.q.eN) w.q.eN.length 4,J w.q.lG] 146),(3,cz w.s2)] 4)) (L (aB [(0,.aa 0 0),(2,J c),(4,.aa 2 0),(47,.ah [.ab [59],J 2,.ba (.func 143) [] [],.ab [45,62],J 2,.ba (.func 144) [] [],.ab [92,43],J 1,.ba (.func 145) [] [],.ab [111,110,99,101],J 1,.ba (.func 146) [] []]),(48,J (wI (i+1)))]) (al [(0,ct s 1),(1,cz s),(2,en k n nm cs len)] 3) (aw Z 82 0)))/\(i=2->(al [] 0=an/\True)/\aq (rZ k nm len [92,43] 1) (∃w:Rw,(([.aa 0 0,.ah [.ab [92,43],J 1,.ba (.func 145) [] []],.ah [J k,J n,.ab nm,.ad cs len 4],J c]:LV)=[.aa 0 0,.ah [.ab (jC w.k),J (lM w.k),.ba (.func (zQ w.k)) [] []],.ah (aW w.g),J w.c]/\hT s=hT w.s/\eL (N+4) 3000000 w.s w.g/\dF w.g (jC w.k) (lM w.k)=true/\w.k<4/\k9 (dX N) w.k w.s w.g w.c=Prod.mk w.s2 w.q)/\Q (.bq 2 0 1 1 6 true) (al [(0,ct w.s2 3),(1,.bc []),(2,.aj [J w.q.eO,.ab w.q.aN.cL,J w.q.aN.ar,J w.q.aN.au,.ad (aF w.q.eN) w.q.eN.length 4,J w.q.lG] 146),(3,cz w.s2)] 4)) (L (aB [(0,.aa 0 0),(2,J c),(4,.aa 2 0),(47,.ah [.ab [59],J 2,.ba (.func 143) [] [],.ab [45,62],J 2,.ba (.func 144) [] [],.ab [92,43],J 1,.ba (.func 145) [] [],.ab [111,110,99,101],J 1,.ba (.func 146) [] []]),(48,J (wI (i+1)))]) (al [(0,ct s 1),(1,cz s),(2,en k n nm cs len)] 3) (aw Z 82 0)))/\(i=3->(al [] 0=an/\True)/\aq (rZ k nm len [111,110,99,101] 1) (∃w:Rw,(([.aa 0 0,.ah [.ab [111,110,99,101],J 1,.ba (.func 146) [] []],.ah [J k,J n,.ab nm,.ad cs len 4],J c]:LV)=[.aa 0 0,.ah [.ab (jC w.k),J (lM w.k),.ba (.func (zQ w.k)) [] []],.ah (aW w.g),J w.c]/\hT s=hT w.s/\eL (N+4) 3000000 w.s w.g/\dF w.g (jC w.k) (lM w.k)=true/\w.k<4/\k9 (dX N) w.k w.s w.g w.c=Prod.mk w.s2 w.q)/\Q (.bq 2 0 1 1 6 true) (al [(0,ct w.s2 3),(1,.bc []),(2,.aj [J w.q.eO,.ab w.q.aN.cL,J w.q.aN.ar,J w.q.aN.au,.ad (aF w.q.eN) w.q.eN.length 4,J w.q.lG] 146),(3,cz w.s2)] 4)) (L (aB [(0,.aa 0 0),(2,J c),(4,.aa 2 0),(47,.ah [.ab [59],J 2,.ba (.func 143) [] [],.ab [45,62],J 2,.ba (.func 144) [] [],.ab [92,43],J 1,.ba (.func 145) [] [],.ab [111,110,99,101],J 1,.ba (.func 146) [] []]),(48,J (wI (i+1)))]) (al [(0,ct s 1),(1,cz s),(2,en k n nm cs len)] 3) (aw Z 82 0)))/\True) (L (aB [(0,.aa 0 0),(4,.aa 2 0)]) (al [(0,ct s 1),(1,cz s),(2,en k n nm cs len)] 3) (di Z yJ 82 0))):=by kernel_rfl
theorem aBH{s k n nm cs len N L Q}:
 ck Z (T6 N) Rn L Q 3000 82 2 (aB [(0,.aa 0 0),(4,.aa 2 0)]) (di Z yJ 82 0) (al [(0,ct s 1),(1,cz s),(2,en k n nm cs len)] 3)=(
 ∃w:eK,(([.ah [.ab nm,J (aE len),J 0],.ad cs len 4]:LV)=[.ah [.ab nm,J (aE len),J 0],.ad (aF w) w.length 4]/\al [] 0=an/\fy w/\w.length<4000000)/\aq (!s.tr) (Q (.bq 2 0 1 1 6 true) (al [(0,ct s 1),(1,cz s),(2,Bt nm (aE len) 0 (.ad (aF (List.map dj w)) (List.map dj w).length 4))] 3)) ((al [] 0=an/\True)/\aq (!O4 nm len) (Q (.bq 2 0 1 1 6 true) (al [(0,ct s 1),(1,cz s),(2,Bt nm (aE len) 0 (.ad (aF (List.map dj w)) (List.map dj w).length 4))] 3)) (∃ae:da,(([.aa 0 0]:LV)=[.aa 0 0]/\hT s=hT ae)/\(al [] 0=an/\True)/\L (aB [(4,.aa 2 0),(10,.aa 3 0),(11,.aa 4 0),(12,.aa 5 0),(13,.aa 6 0)]) (al [(0,ct ae.nx 1),(1,cz ae.nx),(2,en k n nm cs len),(3,Bt nm (aE len) 0 (.ad (aF (List.map dj w)) (List.map dj w).length 4)),(4,en 0 (xG (bV ae.nv)) [] [] 0),(5,kh 2 1099511627776),(6,kh 2 1099511627775)] 7) (di Z Rn 82 0)))):=by kernel_rfl
theorem aBI{s k n nm cs len dU ar au ds m a N L Q}:
 ck Z (T6 N) (λ_=>[]) L Q 3000 82 2 (aB [(4,.aa 2 0),(10,.aa 3 0),(11,.aa 4 0),(12,.aa 5 0),(13,.aa 6 0)]) (di Z Rn 82 0) (al [(0,ct s 1),(1,cz s),(2,en k n nm cs len),(3,.aj [J 1,.ab dU,J ar,J au,.ad ds m 4,J 0] 146),(4,.aj [J 0,J a,.ab [],.ad [] 0 4] 49),(5,kh 2 1099511627776),(6,kh 2 1099511627775)] 7)=(
 ∃w:aI×aI,(([.ah [.ab [],J 2,J 1099511627776],.bq 0 0 2 2 4 true]:LV)=[.ah [.ab [],J 2,J 1099511627776],.bq 0 0 2 2 4 true]/\al [(0,.aj [J 0,J a,.ab [],.ad [] 0 4,J k,J n,.ab nm,.ad cs len 4] 49)] 1=al [(0,.aj (aW w.1++aW w.2) 49)] 1/\bL w.1/\bL w.2)/\some (.ah [J k,J n,.ab nm,.ad cs len 4]:AV)=some (.ah [J k,J n,.ab nm,.ad cs len 4]:AV)/\some (.ah [J 0,J a,.ab [],.ad [] 0 4]:AV)=some (.ah [J 0,J a,.ab [],.ad [] 0 4]:AV)/\some (.ah [.ab [],J 2,J 1099511627775]:AV)=some (.ah [.ab [],J 2,J 1099511627775]:AV)/\some (.ah [J 1,.ab dU,J ar,J au,.ad ds m 4,J 0]:AV)=some (.ah [J 1,.ab dU,J ar,J au,.ad ds m 4,J 0]:AV)/\(∃ae:aI×aI,(([.ah [.ab [],J 2,J 1099511627775],.bq 0 0 2 2 4 true]:LV)=[.ah [.ab [],J 2,J 1099511627775],.bq 0 0 2 2 4 true]/\al [(0,.aj [J 0,J a,.ab [],.ad [] 0 4,J k,J n,.ab nm,.ad cs len 4] 49)] 1=al [(0,.aj (aW ae.1++aW ae.2) 49)] 1/\bL ae.1/\bL ae.2)/\some (.ah [J 1,.ab dU,J ar,J au,.ad ds m 4,J 0]:AV)=some (.ah [J 1,.ab dU,J ar,J au,.ad ds m 4,J 0]:AV)/\Q (.bq 2 0 3 3 6 true) (al [(0,ct s 1),(1,cz s),(2,.aj [J 1,.ab [],J 2,J 1099511627776,.ad (HAppend.hAppend (ij (dj w.1)) (ij (dj w.2))) 2 4,J 0,J 1,.ab dU,J ar,J au,.ad ds m 4,J 0,J 1,.ab [],J 2,J 1099511627775,.ad (HAppend.hAppend (ij (dj ae.1)) (ij (dj ae.2))) 2 4,J 0] 146)] 3))):=by kernel_rfl
theorem KS{g}(l):gT g (bD l) (.ai g l.length 6)=kb l:=by simp[gT,kb,qV]
theorem aef{f A s s2 l1 l2}(h:bZ Z f A (hT s) (.bq 2 0 2 2 1 true) (al [(0,ct s2 3),(1,.bc []),(2,.aj [.ai 4 l1.length 6,.ai 5 l2.length 6] 104),(3,cz s2),(4,iQ l1),(5,iQ l2)] 6)):
 bZ Z f A (hT s) (.ad ([l1,l2].map kb) 2 1) (nq s2):=by
 have h2:=tR (g:=4) h rfl (by show(2:Nat)<=6;omega);have e2:sI 4 (bD l1) [(0,ct s2 3),(1,.bc []),(2,.aj [.ai 4 l1.length 6,.ai 5 l2.length 6] 104),(3,cz s2),(4,iQ l1),(5,iQ l2)]=[(0,ct s2 3),(1,.bc []),(2,.aj [kb l1,.ai 5 l2.length 6] 104),(3,cz s2),(4,.bc []),(5,iQ l2)]:=by rw[<-KS l1];rfl
 rw[e2]at h2;have h3:=tR (g:=5) h2 rfl (by show(2:Nat)<=6;omega);have e3:sI 5 (bD l2) [(0,ct s2 3),(1,.bc []),(2,.aj [kb l1,.ai 5 l2.length 6] 104),(3,cz s2),(4,.bc []),(5,iQ l2)]=[(0,ct s2 3),(1,.bc []),(2,.aj [kb l1,kb l2] 104),(3,cz s2),(4,.bc []),(5,.bc [])]:=by rw[<-KS l2];rfl
 rw[e3]at h3;have h4:=DT (g:=2) h3 rfl rfl (by show(2:Nat)<=6;omega);exact nh (ps:=[(0,0),(1,1),(3,2)]) h4 (by kernel_rfl) (by kernel_rfl)
theorem aee{f A s s2 l1}(h:bZ Z f A (hT s) (.bq 2 0 1 1 1 true) (al [(0,ct s2 3),(1,.bc []),(2,.aj [.ai 4 l1.length 6] 104),(3,cz s2),(4,iQ l1)] 5)):
 bZ Z f A (hT s) (.ad ([l1].map kb) 1 1) (nq s2):=by
 have h2:=tR (g:=4) h rfl (by show(2:Nat)<=5;omega);have e2:sI 4 (bD l1) [(0,ct s2 3),(1,.bc []),(2,.aj [.ai 4 l1.length 6] 104),(3,cz s2),(4,iQ l1)]=[(0,ct s2 3),(1,.bc []),(2,.aj [kb l1] 104),(3,cz s2),(4,.bc [])]:=by rw[<-KS l1];rfl
 rw[e2]at h2;have h4:=DT (g:=2) h2 rfl rfl (by show(2:Nat)<=5;omega);exact nh (ps:=[(0,0),(1,1),(3,2)]) h4 (by kernel_rfl) (by kernel_rfl)
theorem aDy{a b n sz}(hl:a.length=b.length)(h:iS a b):Wk (.ad a n sz) (.ad b n sz):=by
 intro φ x hx;have⟨p,c,e,h1,h2⟩:=hx;refine⟨p,c,e,by rw[<-hl];exact h1,?_⟩;rcases h2 with h2|⟨b',x,eA,el,fz,h2,h3,h4,h5,h6⟩
 .exact .inl h2
 .exact .inr ⟨b',x,eA,el,fz,h2,h3,h4,by rw[<-hl];exact h5,by rw[<-hl];exact h _ _ h6⟩
theorem aov{f A s s2 l1}(h:bZ Z f A (hT s) (.bq 2 0 2 2 1 true) (al [(0,ct s2 3),(1,.bc []),(2,.aj [.ai 4 l1.length 6,.aJ] 104),(3,cz s2),(4,iQ l1)] 5)):
 bZ Z f A (hT s) (.ad ([l1,[]].map kb) 2 1) (nq s2):=by
 have h2:=tR (g:=4) h rfl (by show(2:Nat)<=5;omega);have e2:sI 4 (bD l1) [(0,ct s2 3),(1,.bc []),(2,.aj [.ai 4 l1.length 6,.aJ] 104),(3,cz s2),(4,iQ l1)]=[(0,ct s2 3),(1,.bc []),(2,.aj [kb l1,.aJ] 104),(3,cz s2),(4,.bc [])]:=by rw[<-KS l1];rfl
 rw[e2]at h2;have h3:=DT (g:=2) h2 rfl rfl (by show(2:Nat)<=5;omega);have h4:=tS (v1:=.ad ([l1,[]].map kb) 2 1) h3 (aDy rfl (.fE (.ta 6 (.oq _)))) (by show(2:Nat)<=5;omega);exact nh (ps:=[(0,0),(1,1),(3,2)]) h4 (by kernel_rfl) (by kernel_rfl)
theorem Xc{s l n cs}(h1:n=l.length)(h2:cs=bD l):fA (.ai 2 l.length 6) (yq s l) (.ai 2 n 6) (al [(0,ct s 3),(1,.bc []),(2,.ay cs 146),(3,cz s)] 4):=by subst h1 h2;exact⟨rfl,rfl⟩
theorem aft(l k v):bD l++[J k,.ab [],J 0,J 0,.ad [] 0 4,J v]=bD (l++[oG k v]):=by rw[yf];rfl
theorem zI(l):(bD l).all AV.cX=true/\(bD l).all eG=true:=by
 induction l with
 |nil=>exact⟨rfl,rfl⟩
 |cons g l ih=>simp only[bD,sc,ih.1,ih.2,yW];exact⟨rfl,rfl⟩
theorem atW{N}(hS:aU Z (T0 N)):∀w A H,(L5 N).bn w A H->bZ Z 168 A H ((L5 N).v w) ((L5 N).aK w):=by
 rintro⟨s,⟨k,n,nm,l⟩,c,s2,gl⟩ A H ⟨rfl,rfl,a_,he⟩;replace a_:eL N 3000000 s (.mk k n nm l):=a_;simp only[nE]at he;have hb:=qX N s.nx (.mk k n nm l) (bV s.nv) a_.2.1;generalize hr:dX N s.nx (.mk k n nm l) (bV s.nv)=r at he hb;have⟨r1,r2⟩:=r;cases he;have hm:=a_.2.2.1;simp only at hb;refine eS hS 1000 Rk 25 (by kernel_rfl) ?_;rw[aW,aAy];refine⟨s,⟨rfl,rfl⟩,⟨rfl,trivial⟩,?_⟩;refine yr (g:=3) (new:=iQ [oG 3 (bV s.nv)]) ?_ rfl (λφ e o h=>rQ rfl h) rfl (by kernel_rfl);refine hE hS (@aAx s.nx k n nm (aF l) l.length (bV s.nv) [oG 3 (bV s.nv)] N _ _) ?_;refine⟨⟨s.nx,.mk k n nm l,bV s.nv,r1,r2⟩,⟨rfl,rfl,a_,hr⟩,qV _,λh0=>?_,λh1=>?_⟩
 .have:=mJ h0;subst this;exact⟨by simp,⟨rfl,trivial⟩,⟨rfl,by simp,rfl,rfl⟩,Xc rfl rfl⟩
 .have h1:=h1;refine⟨⟨rfl,by show 1+r2.length<=4194304;omega,zI _⟩,⟨rfl,trivial⟩,⟨by show(bD [oG 3 (bV s.nv)]++bD r2).length=(1+r2.length)*6;rw[<-yf,qV,cI];rfl,by show 1+r2.length+1<=4194304;omega,rfl,rfl⟩,Xc ?_ ?_⟩
  .show 1+r2.length+1=_;simp;omega
  .show bD [oG 3 (bV s.nv)]++bD r2++_=_;rw[<-yf,aft];rfl
theorem adw{N}(hS:aU Z (T0 N)):aU Z (T1 N):=cA hS (atW hS)
theorem afB(a):((aF [a]).drop 0).take 4=aW a:=by rw[xf,aF,aF,jm];exact CB (by rw[sE];omega)
theorem alp{N}(hS:aU Z (T1 N)){s s2 s3 k n c k1 n1 a b nm dU x y x1 y1 gs r2 r3}(YZ:eL N 3000000 s y1)(nZ:dX N s y1 c=(s2,r2))(hy:eL N 3000000 s2 y)(LK:dX N s2 y c=(s3,r3))(hl:gs.length+1+r2.length<=4000000):
 br Z 143 68 2 (.bq 2 0 2 2 1 true) (al [(0,ct s3 3),(1,.bc []),(2,.aj [.ai 4 (gs++(oG 4 a::r2)).length 6,.ai 5 r3.length 6] 104),(3,cz s3),(4,iQ (gs++(oG 4 a::r2))),(5,iQ r3)] 6)
  (aB [(0,.aa 0 0),(2,J c),(4,.aa 2 0),(7,.ai 3 gs.length 6),(8,.aa 4 0),(9,J a),(10,J b)]) (al [(0,ct s 5),(1,.bc []),(2,en k n nm (aF [x,y]) 2),(3,iQ gs),(4,en k1 n1 dU (aF [x1,y1]) 2),(5,cz s)] 6) (di Z Me 143 0):=by
 refine hE hS aAp ?_;have⟨ky,ny,sy,ly⟩:=y;have⟨ky1,ny1,sy1,ZK⟩:=y1;have e1:bD gs++[J 4,.ab [],J 0,J 0,.ad [] 0 4,J a]=bD (gs++[oG 4 a]):=aft _ _ _;refine⟨⟨rfl,trivial⟩,⟨qV _,by omega,rfl,rfl⟩,by decide,ky1,ny1,sy1,aF ZK,ZK.length,wv _ _,⟨s,.mk ky1 ny1 sy1 ZK,c,s2,r2⟩,⟨rfl,rfl,YZ,nZ⟩,qV _,λh0=>?_,λh1=>?_⟩
 .have:=mJ h0;subst this;refine⟨by omega,by decide,ky,ny,sy,aF ly,ly.length,wv _ _,⟨s2,.mk ky ny sy ly,c,s3,r3⟩,⟨rfl,rfl,hy,LK⟩,?_⟩;rw[e1,cI];exact⟨rfl,rfl⟩
 .have h1:=h1;refine⟨⟨by rw[e1,qV,cI];rfl,by show gs.length+1+r2.length<=4194304;omega,zI _⟩,by decide,ky,ny,sy,aF ly,ly.length,wv _ _,⟨s2,.mk ky ny sy ly,c,s3,r3⟩,⟨rfl,rfl,hy,LK⟩,?_⟩;have e2:gs.length+1+r2.length=(gs++(oG 4 a::r2)).length:=by simp;omega
  have e3:bD gs++[J 4,.ab [],J 0,J 0,.ad [] 0 4,J a]++bD r2=bD (gs++(oG 4 a::r2)):=by rw[e1,<-yf,j7];rfl
  rw[e2,e3];exact⟨rfl,rfl⟩
theorem wC{N M N' M' s s' g g'}(h:eL N M s g)(h1:bL g')(h2:gm g'<N')(h3:gm g'<=gm g)(h4:s'.au.length+gm g'<M')(h5:kC g'):eL N' M' s' g':=⟨h1,h2,by have:=h.2.2.1;omega,h4,h5⟩
theorem ap6{N}(hS:aU Z (T1 N)):∀w A H,(qj 0 N).bn w A H->bZ Z 143 A H ((qj 0 N).v w) ((qj 0 N).aK w):=by
 rintro⟨s,g,c,s2,ls⟩ A H ⟨rfl,rfl,a_,lS,he⟩;simp only at a_ lS he;obtain⟨k,n,x,y,rfl,QB,jx⟩:=re (.inr (.inl rfl)) lS;have hx:=a_.1.2.2.1;have hy:=a_.1.2.2.2.1;have g1:=ow x;have g2:=ow y;have hN:=a_.2.1;have hM:=a_.2.2.1;have hA:=a_.2.2.2.1;have hG:=a_.2.2.2.2;simp only[fP,ji,aI.bh,mK,rB]at he;by_cases hi:dF x [45,62] 2=true
 .rw[aO hi]at he;obtain⟨kx,nx,x1,y1,rfl,hgx,ahf⟩:=re (.inr (.inr rfl)) hi;have yC:=hx.2.2.1;have YZ:=hx.2.2.2.1;have g3:=ow x1;have g4:=ow y1;simp only[mK,rB]at he;have b1:=qX N s.nx.nx x1 (bV s.nx.nv) (by omega);generalize pT:dX N s.nx.nx x1 (bV s.nx.nv)=r1 at he b1;obtain⟨s3,l1⟩:=r1;have b2:=qX N s3 y1 c (by omega);simp only at he;generalize nZ:dX N s3 y1 c=r2 at he b2;obtain⟨s4,l2⟩:=r2;have b3:=qX N s4 y c (by omega);simp only at he;generalize LK:dX N s4 y c=r3 at he b3;obtain⟨s5,l3⟩:=r3;cases he;have hs:s.nx.nx.au=s.au:=rfl;simp only[hs]at b1 b2 b3;have EG:eL N 3000000 s.nx.nx x1:=wC a_ yC (by omega) (by omega) (by rw[hs];omega) (ahf (jx hG).1).1;have hq2:eL N 3000000 s3 y1:=wC a_ YZ (by omega) (by omega) (by omega) (ahf (jx hG).1).2;have hq3:eL N 3000000 s4 y:=wC a_ hy (by omega) (by omega) (by omega) (jx hG).2;refine aef ?_;refine eS hS 1000 Md 68 (by kernel_rfl) ?_;rw[aW,alo];refine⟨CH _,kx,nx,[45,62],aF [x1,y1],2,zL _ _,⟨rfl,trivial⟩,aD.2 ⟨λ_=>?_,λh=>by rw[show rZ kx [45,62] 2 [45,62] 2=true from hi]at h;cases h⟩⟩;refine⟨s,⟨rfl,rfl⟩,s.nx,⟨rfl,rfl⟩,⟨rfl,trivial⟩,⟨rfl,trivial⟩,?_⟩;refine yr (g:=3) (new:=iQ [oG 2 (bV s.nv),oG 3 (bV s.nx.nv)]) ?_ rfl (λφ e o h=>rQ rfl h) rfl (by kernel_rfl);refine hE hS (@aAo s.nx.nx k n [59] (aF [.mk kx nx [45,62] [x1,y1],y]) 2 c kx nx [45,62] (aF [x1,y1]) 2 (bV s.nv) (bV s.nx.nv) [oG 2 (bV s.nv),oG 3 (bV s.nx.nv)] N _ _) ?_;have⟨k1,n1,m1,q1⟩:=x1;refine⟨CH _,k1,n1,m1,aF q1,q1.length,zL _ _,⟨s.nx.nx,.mk k1 n1 m1 q1,bV s.nx.nv,s3,l1⟩,⟨rfl,rfl,EG,pT⟩,qV _,λh0=>?_,λh1=>?_⟩
  .have:=mJ h0;subst this;exact⟨by simp,alp hS hq2 nZ hq3 LK (by simp;omega)⟩
  .refine⟨⟨rfl,by show 2+l1.length<=4194304;omega,zI _⟩,?_⟩;have:=alp (gs:=[oG 2 (bV s.nv),oG 3 (bV s.nx.nv)]++l1) (k:=k) (n:=n) (nm:=[59]) (x:=.mk kx nx [45,62] [.mk k1 n1 m1 q1,y1]) (k1:=kx) (n1:=nx) (dU:=[45,62]) (x1:=.mk k1 n1 m1 q1) (a:=bV s.nv) (b:=bV s.nx.nv) hS hq2 nZ hq3 LK (by simp;omega);rw[show iQ ([oG 2 (bV s.nv),oG 3 (bV s.nx.nv)]++l1)=.ay (bD [oG 2 (bV s.nv),oG 3 (bV s.nx.nv)]++bD l1) 146 by rw[iQ,yf],show([oG 2 (bV s.nv),oG 3 (bV s.nx.nv)]++l1).length=2+l1.length by simp only[cI,ej,gW]]at this;exact this
 .rw[az hi]at he;have b1:=qX N s x c (by omega);generalize pT:dX N s x c=r1 at he b1;have⟨s3,l1⟩:=r1;have b2:=qX N s3 y c (by omega);generalize nZ:dX N s3 y c=r2 at he b2;have⟨s4,l2⟩:=r2;cases he;simp only at b1 b2;have LH:eL N 3000000 s x:=wC a_ hx (by omega) (by omega) (by omega) (jx hG).1;have LJ:eL N 3000000 s3 y:=wC a_ hy (by omega) (by omega) (by omega) (jx hG).2;refine aef ?_;refine eS hS 1000 Md 68 (by kernel_rfl) ?_;rw[aW,alo];have⟨k1,n1,m1,q1⟩:=x;have⟨k2,n2,m2,q2⟩:=y;refine⟨CH _,k1,n1,m1,aF q1,q1.length,zL _ _,⟨rfl,trivial⟩,aD.2 ⟨λh=>absurd h hi,λ_=>?_⟩⟩;exact⟨⟨s,.mk k1 n1 m1 q1,c,s3,l1⟩,⟨rfl,rfl,LH,pT⟩,by simp,k2,n2,m2,aF q2,q2.length,wv _ _,⟨s3,.mk k2 n2 m2 q2,c,s4,l2⟩,⟨rfl,rfl,LJ,nZ⟩,rfl,rfl⟩
theorem adx{N}(hS:aU Z (T0 N)):aU Z (T2 N):=cA (adw hS) (ap6 (adw hS))
theorem aCp{N}(hS:aU Z (T2 N)):∀w A H,(qj 1 N).bn w A H->bZ Z 144 A H ((qj 1 N).v w) ((qj 1 N).aK w):=by
 rintro⟨s,g,c,s2,ls⟩ A H ⟨rfl,rfl,a_,lS,he⟩;simp only at a_ lS he;obtain⟨k,n,x,y,rfl,QB,jx⟩:=re (.inr (.inr rfl)) lS;have hx:=a_.1.2.2.1;have hy:=a_.1.2.2.2.1;have hN:=a_.2.1;have hA:=a_.2.2.2.1;have hG:=a_.2.2.2.2;simp only[fP,ji,aI.bh,mK,rB]at he;have b1:=ZB (s:=s) (qX N) (by omega:gm x<N);generalize pT:nE (dX N) s x=r1 at he b1;have⟨s3,l1⟩:=r1;have b2:=qX N s3 y c (by omega);generalize nZ:dX N s3 y c=r2 at he b2;have⟨s4,l2⟩:=r2;cases he;simp only at b1 b2;have LH:eL N 3000000 s x:=wC a_ hx (by omega) (by omega) (by omega) (jx hG).1;have LJ:eL N 3000000 s3 y:=wC a_ hy (by omega) (by omega) (by omega) (jx hG).2;refine aee ?_;refine eS hS 1000 (λ_=>[]) 24 (by kernel_rfl) ?_;rw[aW,aAq];have⟨k1,n1,m1,q1⟩:=x;have⟨k2,n2,m2,q2⟩:=y;refine⟨CH _,k1,n1,m1,aF q1,q1.length,zL _ _,⟨s,.mk k1 n1 m1 q1,0,s3,l1⟩,⟨rfl,rfl,LH,pT⟩,by simp,k2,n2,m2,aF q2,q2.length,wv _ _,⟨s3,.mk k2 n2 m2 q2,c,s4,l2⟩,⟨rfl,rfl,LJ,nZ⟩,qV _,λh0=>?_,λh1=>?_⟩
 .have:=mJ h0;subst this;refine⟨by show l1.length<=4194304;omega,?_⟩;rw[jm];exact⟨rfl,rfl⟩
 .refine⟨⟨qV _,by show l1.length+l2.length<=4194304;omega,zI _⟩,?_⟩;rw[<-yf,<-cI];exact⟨rfl,rfl⟩
theorem ady{N}(hS:aU Z (T0 N)):aU Z (T3 N):=cA (adx hS) (aCp (adx hS))
theorem auR{N}(hS:aU Z (T3 N)):∀w A H,(qj 2 N).bn w A H->bZ Z 145 A H ((qj 2 N).v w) ((qj 2 N).aK w):=by
 rintro⟨s,g,c,s2,ls⟩ A H ⟨rfl,rfl,a_,lS,he⟩;simp only at a_ lS he;obtain⟨k,n,x,rfl,QB,jx⟩:=B0 (.inl rfl) lS;have hx:=a_.1.2.2.1;have hN:=a_.2.1;have hA:=a_.2.2.2.1;have hG:=a_.2.2.2.2;have g2:=Ho x;simp only[fP,ji,aI.bh,mK]at he;have b1:=qX N s.nx.nx (iq x) (bV s.nx.nv) (by omega);generalize pT:dX N s.nx.nx (iq x) (bV s.nx.nv)=r1 at he b1;have⟨s3,l1⟩:=r1;cases he;have hs:s.nx.nx.au=s.au:=rfl;simp at b1;have EG:eL N 3000000 s.nx.nx (iq x):=wC a_ (RO hx) (by omega) (by omega) (by rw[hs];omega) (P4 (jx hG));refine aov ?_;refine eS hS 1000 Rj 40 (by kernel_rfl) ?_;rw[aW,aAs];refine⟨s,⟨rfl,rfl⟩,s.nx,⟨rfl,rfl⟩,⟨rfl,trivial⟩,⟨rfl,trivial⟩,?_⟩;refine yr (g:=3) (new:=iQ [oG 2 (bV s.nv),oG 3 (bV s.nx.nv)]) ?_ rfl (λφ e o h=>rQ rfl h) rfl (by kernel_rfl);refine hE hS (@aAr s.nx.nx k n [92,43] (aF [x]) 1 (bV s.nv) (bV s.nx.nv) [oG 2 (bV s.nv),oG 3 (bV s.nx.nv)] N _ _) ?_;have⟨k1,n1,m1,q1⟩:=x;refine⟨CH _,k1,n1,m1,aF q1,q1.length,afB _,.mk k1 n1 m1 q1,⟨rfl,rfl,hx⟩,⟨s.nx.nx,iq (.mk k1 n1 m1 q1),bV s.nx.nv,s3,l1⟩,⟨by rw[<-zG];rfl,rfl,EG,pT⟩,qV _,λh0=>?_,λh1=>?_⟩
 .have:=mJ h0;subst this;exact⟨by simp,⟨rfl,trivial⟩,⟨rfl,trivial⟩,⟨rfl,by simp,rfl,rfl⟩,rfl,rfl⟩
 .have e1:bD [oG 2 (bV s.nv),oG 3 (bV s.nx.nv)]++bD l1=bD (oG 2 (bV s.nv)::oG 3 (bV s.nx.nv)::l1):=rfl;refine⟨⟨rfl,by show 2+l1.length<=4194304;omega,zI _⟩,⟨rfl,trivial⟩,⟨rfl,trivial⟩,⟨by show(bD [oG 2 (bV s.nv),oG 3 (bV s.nx.nv)]++bD l1).length=(2+l1.length)*6;rw[e1,qV];simp;omega,by show 2+l1.length+2<=4194304;omega,rfl,rfl⟩,?_⟩;have e2:2+l1.length+2=(oG 2 (bV s.nv)::oG 3 (bV s.nx.nv)::(l1++[oG 4 (bV s.nv),oG 5 0])).length:=by simp;omega
  have e3:bD [oG 2 (bV s.nv),oG 3 (bV s.nx.nv)]++bD l1++[J 4,.ab [],J 0,J 0,.ad [] 0 4,J (bV s.nv),J 5,.ab [],J 0,J 0,.ad [] 0 4,J 0]=bD (oG 2 (bV s.nv)::oG 3 (bV s.nx.nv)::(l1++[oG 4 (bV s.nv),oG 5 0])):=by rw[e1,<-oH,<-oH,yf];rfl
  show fA _ _ (.bq 2 0 2 2 1 true) (al [(0,ct s3 3),(1,.bc []),(2,.aj [.ai 4 (2+l1.length+2) 6,.aJ] 104),(3,cz s3),(4,.ay (bD [oG 2 (bV s.nv),oG 3 (bV s.nx.nv)]++bD l1++[J 4,.ab [],J 0,J 0,.ad [] 0 4,J (bV s.nv),J 5,.ab [],J 0,J 0,.ad [] 0 4,J 0]) 146)] 5);rw[e2,e3];exact⟨rfl,rfl⟩
theorem adz{N}(hS:aU Z (T0 N)):aU Z (T4 N):=cA (ady hS) (auR (ady hS))
theorem au0{N}(hS:aU Z (T4 N)):∀w A H,(qj 3 N).bn w A H->bZ Z 146 A H ((qj 3 N).v w) ((qj 3 N).aK w):=by rintro⟨s,g,c,s2,ls⟩ A H ⟨rfl,rfl,a_,lS,he⟩;simp only at a_ lS he;obtain⟨k,n,x,rfl,QB,jx⟩:=B0 (.inr rfl) lS;have hx:=a_.1.2.2.1;have hN:=a_.2.1;have hA:=a_.2.2.2.1;have hG:=a_.2.2.2.2;have g2:=Ho x;simp only[fP,ji,aI.bh,mK]at he;generalize pT:nE (dX N) s (iq x)=r1 at he;have⟨s3,l1⟩:=r1;cases he;have EG:eL N 3000000 s (iq x):=wC a_ (RO hx) (by omega) (by omega) (by omega) (P4 (jx hG));refine aee ?_;refine eS hS 1000 (λ_=>[]) 15 (by kernel_rfl) ?_;rw[aW,aAt];have⟨k1,n1,m1,q1⟩:=x;refine⟨CH _,k1,n1,m1,aF q1,q1.length,afB _,.mk k1 n1 m1 q1,⟨rfl,rfl,hx⟩,⟨s,iq (.mk k1 n1 m1 q1),0,s3,l1⟩,⟨?_,rfl,EG,pT⟩,rfl,rfl⟩;rw[<-zG];rfl
theorem adA{N}(hS:aU Z (T0 N)):aU Z (T5 N):=cA (adz hS) (au0 (adz hS))
def h8(s:da)(dU:LN)(kJ:Int)(f:Nat)(k n:Int)(nm:LN)(cs:LV)(len:Nat)(m:Nat)(x:Int):AH:=al [(0,ct s 6),(1,.bc []),(2,GL dU kJ f),(3,en k n nm cs len),(4,kc),(5,kh (aE m) x),(6,cz s)] 7
theorem az9{s dU kJ k n nm cs len c dW x ds m N L Q}:
 ck Z (T5 N) nF L Q 1000 115 2 (aB [(0,.aa 0 0),(3,J c),(5,.aa 2 0),(6,.aa 3 0),(8,.aa 4 0),(9,.ad ds m 4),(10,.aa 5 0),(11,J dW),(12,.aJ)]) (di Z pU 115 0) (h8 s dU kJ 143 k n nm cs len m x)=(
 ∃w:Bw,(([.aa 0 0,.ah [J k,J n,.ab nm,.ad cs len 4],J c]:LV)=[.aa 0 0,.ah (aW w.g),J w.c]/\hT s=hT w.s/\eL (N+4) 3000001 w.s w.g/\dF w.g (jC 0) 2=true/\fP (dX N) 0 w.s w.g w.c=Prod.mk w.s2 w.ls)/\L (aB [(0,.aa 0 0),(8,.aa 2 0),(9,.ad ds m 4),(10,.aa 3 0),(11,J dW),(12,.aJ),(50,.ad (List.map kb w.ls) w.ls.length 1),(51,J (aE w.ls.length)),(52,J 0)]) (al [(0,ct w.s2 4),(1,.bc []),(2,kc),(3,kh (aE m) x),(4,cz w.s2)] 5) (aw Z 115 0)):=by kernel_rfl
theorem az3{s dU kJ k n nm cs len c dW x N L Q}:
 ck Z (T5 N) nF L Q 1000 115 2 (aB [(0,.aa 0 0),(3,J c),(5,.aa 2 0),(6,.aa 3 0),(8,.aa 4 0),(9,.aJ),(10,.aa 5 0),(11,J dW),(12,.aJ)]) (di Z pU 115 0) (h8 s dU kJ 143 k n nm cs len 0 x)=(
 ∃w:Bw,(([.aa 0 0,.ah [J k,J n,.ab nm,.ad cs len 4],J c]:LV)=[.aa 0 0,.ah (aW w.g),J w.c]/\hT s=hT w.s/\eL (N+4) 3000001 w.s w.g/\dF w.g (jC 0) 2=true/\fP (dX N) 0 w.s w.g w.c=Prod.mk w.s2 w.ls)/\L (aB [(0,.aa 0 0),(8,.aa 2 0),(9,.aJ),(10,.aa 3 0),(11,J dW),(12,.aJ),(50,.ad (List.map kb w.ls) w.ls.length 1),(51,J (aE w.ls.length)),(52,J 0)]) (al [(0,ct w.s2 4),(1,.bc []),(2,kc),(3,kh 0 x),(4,cz w.s2)] 5) (aw Z 115 0)):=by kernel_rfl
theorem aAa{s dU kJ k n nm cs len c dW x ds m N L Q}:
 ck Z (T5 N) nF L Q 1000 115 2 (aB [(0,.aa 0 0),(3,J c),(5,.aa 2 0),(6,.aa 3 0),(8,.aa 4 0),(9,.ad ds m 4),(10,.aa 5 0),(11,J dW),(12,.aJ)]) (di Z pU 115 0) (h8 s dU kJ 144 k n nm cs len m x)=(
 ∃w:Bw,(([.aa 0 0,.ah [J k,J n,.ab nm,.ad cs len 4],J c]:LV)=[.aa 0 0,.ah (aW w.g),J w.c]/\hT s=hT w.s/\eL (N+4) 3000001 w.s w.g/\dF w.g (jC 1) 2=true/\fP (dX N) 1 w.s w.g w.c=Prod.mk w.s2 w.ls)/\L (aB [(0,.aa 0 0),(8,.aa 2 0),(9,.ad ds m 4),(10,.aa 3 0),(11,J dW),(12,.aJ),(50,.ad (List.map kb w.ls) w.ls.length 1),(51,J (aE w.ls.length)),(52,J 0)]) (al [(0,ct w.s2 4),(1,.bc []),(2,kc),(3,kh (aE m) x),(4,cz w.s2)] 5) (aw Z 115 0)):=by kernel_rfl
theorem az4{s dU kJ k n nm cs len c dW x N L Q}:
 ck Z (T5 N) nF L Q 1000 115 2 (aB [(0,.aa 0 0),(3,J c),(5,.aa 2 0),(6,.aa 3 0),(8,.aa 4 0),(9,.aJ),(10,.aa 5 0),(11,J dW),(12,.aJ)]) (di Z pU 115 0) (h8 s dU kJ 144 k n nm cs len 0 x)=(
 ∃w:Bw,(([.aa 0 0,.ah [J k,J n,.ab nm,.ad cs len 4],J c]:LV)=[.aa 0 0,.ah (aW w.g),J w.c]/\hT s=hT w.s/\eL (N+4) 3000001 w.s w.g/\dF w.g (jC 1) 2=true/\fP (dX N) 1 w.s w.g w.c=Prod.mk w.s2 w.ls)/\L (aB [(0,.aa 0 0),(8,.aa 2 0),(9,.aJ),(10,.aa 3 0),(11,J dW),(12,.aJ),(50,.ad (List.map kb w.ls) w.ls.length 1),(51,J (aE w.ls.length)),(52,J 0)]) (al [(0,ct w.s2 4),(1,.bc []),(2,kc),(3,kh 0 x),(4,cz w.s2)] 5) (aw Z 115 0)):=by kernel_rfl
theorem aAb{s dU kJ k n nm cs len c dW x ds m N L Q}:
 ck Z (T5 N) nF L Q 1000 115 2 (aB [(0,.aa 0 0),(3,J c),(5,.aa 2 0),(6,.aa 3 0),(8,.aa 4 0),(9,.ad ds m 4),(10,.aa 5 0),(11,J dW),(12,.aJ)]) (di Z pU 115 0) (h8 s dU kJ 145 k n nm cs len m x)=(
 ∃w:Bw,(([.aa 0 0,.ah [J k,J n,.ab nm,.ad cs len 4],J c]:LV)=[.aa 0 0,.ah (aW w.g),J w.c]/\hT s=hT w.s/\eL (N+4) 3000001 w.s w.g/\dF w.g (jC 2) 1=true/\fP (dX N) 2 w.s w.g w.c=Prod.mk w.s2 w.ls)/\L (aB [(0,.aa 0 0),(8,.aa 2 0),(9,.ad ds m 4),(10,.aa 3 0),(11,J dW),(12,.aJ),(50,.ad (List.map kb w.ls) w.ls.length 1),(51,J (aE w.ls.length)),(52,J 0)]) (al [(0,ct w.s2 4),(1,.bc []),(2,kc),(3,kh (aE m) x),(4,cz w.s2)] 5) (aw Z 115 0)):=by kernel_rfl
theorem az5{s dU kJ k n nm cs len c dW x N L Q}:
 ck Z (T5 N) nF L Q 1000 115 2 (aB [(0,.aa 0 0),(3,J c),(5,.aa 2 0),(6,.aa 3 0),(8,.aa 4 0),(9,.aJ),(10,.aa 5 0),(11,J dW),(12,.aJ)]) (di Z pU 115 0) (h8 s dU kJ 145 k n nm cs len 0 x)=(
 ∃w:Bw,(([.aa 0 0,.ah [J k,J n,.ab nm,.ad cs len 4],J c]:LV)=[.aa 0 0,.ah (aW w.g),J w.c]/\hT s=hT w.s/\eL (N+4) 3000001 w.s w.g/\dF w.g (jC 2) 1=true/\fP (dX N) 2 w.s w.g w.c=Prod.mk w.s2 w.ls)/\L (aB [(0,.aa 0 0),(8,.aa 2 0),(9,.aJ),(10,.aa 3 0),(11,J dW),(12,.aJ),(50,.ad (List.map kb w.ls) w.ls.length 1),(51,J (aE w.ls.length)),(52,J 0)]) (al [(0,ct w.s2 4),(1,.bc []),(2,kc),(3,kh 0 x),(4,cz w.s2)] 5) (aw Z 115 0)):=by kernel_rfl
theorem aAc{s dU kJ k n nm cs len c dW x ds m N L Q}:
 ck Z (T5 N) nF L Q 1000 115 2 (aB [(0,.aa 0 0),(3,J c),(5,.aa 2 0),(6,.aa 3 0),(8,.aa 4 0),(9,.ad ds m 4),(10,.aa 5 0),(11,J dW),(12,.aJ)]) (di Z pU 115 0) (h8 s dU kJ 146 k n nm cs len m x)=(
 ∃w:Bw,(([.aa 0 0,.ah [J k,J n,.ab nm,.ad cs len 4],J c]:LV)=[.aa 0 0,.ah (aW w.g),J w.c]/\hT s=hT w.s/\eL (N+4) 3000001 w.s w.g/\dF w.g (jC 3) 1=true/\fP (dX N) 3 w.s w.g w.c=Prod.mk w.s2 w.ls)/\L (aB [(0,.aa 0 0),(8,.aa 2 0),(9,.ad ds m 4),(10,.aa 3 0),(11,J dW),(12,.aJ),(50,.ad (List.map kb w.ls) w.ls.length 1),(51,J (aE w.ls.length)),(52,J 0)]) (al [(0,ct w.s2 4),(1,.bc []),(2,kc),(3,kh (aE m) x),(4,cz w.s2)] 5) (aw Z 115 0)):=by kernel_rfl
theorem az6{s dU kJ k n nm cs len c dW x N L Q}:
 ck Z (T5 N) nF L Q 1000 115 2 (aB [(0,.aa 0 0),(3,J c),(5,.aa 2 0),(6,.aa 3 0),(8,.aa 4 0),(9,.aJ),(10,.aa 5 0),(11,J dW),(12,.aJ)]) (di Z pU 115 0) (h8 s dU kJ 146 k n nm cs len 0 x)=(
 ∃w:Bw,(([.aa 0 0,.ah [J k,J n,.ab nm,.ad cs len 4],J c]:LV)=[.aa 0 0,.ah (aW w.g),J w.c]/\hT s=hT w.s/\eL (N+4) 3000001 w.s w.g/\dF w.g (jC 3) 1=true/\fP (dX N) 3 w.s w.g w.c=Prod.mk w.s2 w.ls)/\L (aB [(0,.aa 0 0),(8,.aa 2 0),(9,.aJ),(10,.aa 3 0),(11,J dW),(12,.aJ),(50,.ad (List.map kb w.ls) w.ls.length 1),(51,J (aE w.ls.length)),(52,J 0)]) (al [(0,ct w.s2 4),(1,.bc []),(2,kc),(3,kh 0 x),(4,cz w.s2)] 5) (aw Z 115 0)):=by kernel_rfl
theorem az8{s dW x i ds m bs nb fs nf N L Q}:
 ck Z (T5 N) nF L Q 1000 115 2 (aB [(0,.aa 0 0),(8,.aa 2 0),(9,.ad ds m 4),(10,.aa 3 0),(11,J dW),(12,.ai 4 nf 5),(50,.ad bs nb 1),(51,J (aE nb)),(52,J i)]) (aw Z 115 0) (al [(0,ct s 5),(1,.bc []),(2,kc),(3,kh (aE m) x),(4,.ay fs 106),(5,cz s)] 6)=(
 aq (decide (i<aE nb)) (∃aL:Nat,i=(aL:Int)/\aL<nb/\(∃cs len,((bs.drop (aL*1)).take 1:List AV)=[.ad cs len 6]/\(al [] 0=an/\(m=0->False)/\m<=4000000/\ds.length=m*4/\List.all ds AV.cX=true/\List.all ds eG=true)/\some (.ah [.ab [],J (aE m),J x]:AV)=some (.ah [.ab [],J (aE m),J x]:AV)/\(fs.length=nf*5/\nf+1<=4194304/\true=true/\true=true)/\L (aB [(0,.aa 0 0),(8,.aa 2 0),(9,.ad ds m 4),(10,.aa 3 0),(11,J dW),(12,.ai 4 (nf+1) 5),(50,.ad bs nb 1),(51,J (aE nb)),(52,J (wI (i+1)))]) (al [(0,ct s 5),(1,.bc []),(2,kc),(3,kh (aE m) x),(4,.ay (fs++[.ab [],J (aE m),J x,.ad ds m 4,.ad cs len 6]) 106),(5,cz s)] 6) (aw Z 115 0))) (L (aB [(0,.aa 0 0),(8,.aa 2 0),(9,.ad ds m 4),(10,.aa 3 0),(11,J dW),(12,.ai 4 nf 5)]) (al [(0,ct s 5),(1,.bc []),(2,kc),(3,kh (aE m) x),(4,.ay fs 106),(5,cz s)] 6) (di Z nF 115 0))):=by kernel_rfl
theorem az1{s dW x ds m fs nf N L Q}:
 ck Z (T5 N) (λ_=>[]) L Q 1000 115 2 (aB [(0,.aa 0 0),(8,.aa 2 0),(9,.ad ds m 4),(10,.aa 3 0),(11,J dW),(12,.ad fs nf 5)]) (di Z nF 115 0) (al [(0,ct s 5),(1,.bc []),(2,kc),(3,kh (aE m) x),(4,.bc []),(5,cz s)] 6)=(
 ∃i:Nat,dW=(i:Int)/\i<s.au.length/\i*1+1<=(iN s.au).length/\(∃w,(([.ah [.ab [],J (aE m),J x],.ad ds m 4]:LV)=[.ah [.ab [],J (aE m),J x],.ad (aF w) w.length 4]/\al [] 0=an/\fy w/\w.length<4000000)/\Q (.ah [J 1,.ab [],J (aE m),J x,.ad (aF (List.map dj w)) (List.map dj w).length 4,J 0]) (al [(0,ct s 2),(1,.bc []),(2,.ay (gg (iN s.au) (i*1) [.ad fs nf 5]) 84)] 3))):=by kernel_rfl
theorem az7{s dW x i bs nb fs nf N L Q}:
 ck Z (T5 N) nF L Q 1000 115 2 (aB [(0,.aa 0 0),(8,.aa 2 0),(9,.aJ),(10,.aa 3 0),(11,J dW),(12,.ai 4 nf 5),(50,.ad bs nb 1),(51,J (aE nb)),(52,J i)]) (aw Z 115 0) (al [(0,ct s 5),(1,.bc []),(2,kc),(3,kh 0 x),(4,.ay fs 106),(5,cz s)] 6)=(
 aq (decide (i<aE nb)) (∃aL:Nat,i=(aL:Int)/\aL<nb/\(∃cs len,((bs.drop (aL*1)).take 1:List AV)=[.ad cs len 6]/\al [] 0=an/\some (.ah [.ab [],J 0,J x]:AV)=some (.ah [.ab [],J 0,J x]:AV)/\(fs.length=nf*5/\nf+1<=4194304/\true=true/\true=true)/\L (aB [(0,.aa 0 0),(8,.aa 2 0),(9,.aJ),(10,.aa 3 0),(11,J dW),(12,.ai 4 (nf+1) 5),(50,.ad bs nb 1),(51,J (aE nb)),(52,J (wI (i+1)))]) (al [(0,ct s 5),(1,.bc []),(2,kc),(3,kh 0 x),(4,.ay (fs++[.ab [],J 0,J x,.aJ,.ad cs len 6]) 106),(5,cz s)] 6) (aw Z 115 0))) (L (aB [(0,.aa 0 0),(8,.aa 2 0),(9,.aJ),(10,.aa 3 0),(11,J dW),(12,.ai 4 nf 5)]) (al [(0,ct s 5),(1,.bc []),(2,kc),(3,kh 0 x),(4,.ay fs 106),(5,cz s)] 6) (di Z nF 115 0))):=by kernel_rfl
theorem az0{s dW x fs nf N L Q}:
 ck Z (T5 N) (λ_=>[]) L Q 1000 115 2 (aB [(0,.aa 0 0),(8,.aa 2 0),(9,.aJ),(10,.aa 3 0),(11,J dW),(12,.ad fs nf 5)]) (di Z nF 115 0) (al [(0,ct s 5),(1,.bc []),(2,kc),(3,kh 0 x),(4,.bc []),(5,cz s)] 6)=(
 ∃i:Nat,dW=(i:Int)/\i<s.au.length/\i*1+1<=(iN s.au).length/\al [] 0=an/\Q (.ah [J 1,.ab [],J 0,J x,.ad [] 0 4,J 0]) (al [(0,ct s 2),(1,.bc []),(2,.ay (gg (iN s.au) (i*1) [.ad fs nf 5]) 84)] 3)):=by kernel_rfl
def a9:eK->AV
 |[]=>.aJ
 |t::l=>.ad (aF (t::l)) (l.length+1) 4
theorem ans{φ vs ep el gO}(hw:iS vs ep)(hl:ep.length=vs.length/\ep.all AV.cX=vs.all AV.cX){e o}(h:OR φ (.ay vs el) e o):OR φ (.ay ep gO) e o:=by have⟨cs,kB,h1,h2,h3,h4,h5⟩:=h;exact⟨cs,kB,h1,h2,by rw[hl.1];exact h3,by rw[hl.1];exact hw _ _ h4,by rw[hl.2];exact h5⟩
def pdS(n:Nat)(x:Int):cV:=⟨[],(n:Int),x⟩
abbrev t8(c dW:Int)(a:AV):Ev.Tr AV:=aB [(0,.aa 0 0),(3,J c),(5,.aa 2 0),(6,.aa 3 0),(8,.aa 4 0),(9,a),(10,.aa 5 0),(11,J dW),(12,.aJ)]
abbrev t9(dW:Int)(a:AV)(bs:LV)(nb nf:Nat)(i:Int):Ev.Tr AV:=aB [(0,.aa 0 0),(8,.aa 2 0),(9,a),(10,.aa 3 0),(11,J dW),(12,.ai 4 nf 5),(50,.ad bs nb 1),(51,J (aE nb)),(52,J i)]
abbrev h9(s:da)(m:Nat)(x:Int)(fs:LV):AH:=al [(0,ct s 5),(1,.bc []),(2,kc),(3,kh (aE m) x),(4,.ay fs 106),(5,cz s)] 6
theorem awl{N}(hS:aU Z (T5 N)){v H1 s s2 kk t c dW x ls args}(hk:kk<4)(a_:eL (N+4) 3000001 s t)(hi:dF t (jC kk) (lM kk)=true)(hr:fP (dX N) kk s t c=(s2,ls))(h:br Z 115 75 2 v H1 (t9 dW (a9 args) (ls.map kb) ls.length 0 0) (h9 s2 args.length x []) (aw Z 115 0)):
 br Z 115 75 2 v H1 (t8 c dW (a9 args)) (h8 s (jC kk) (lM kk) (zQ kk) t.cq t.n t.cK (aF t.bh) t.bh.length args.length x) (di Z pU 115 0):=by
 have⟨k,n,nm,l⟩:=t;have nil:br Z 115 75 2 v H1 (aB [(0,.aa 0 0),(8,.aa 2 0),(9,a9 args),(10,.aa 3 0),(11,J dW),(12,.aJ),(50,.ad (ls.map kb) ls.length 1),(51,J (aE ls.length)),(52,J 0)]) (al [(0,ct s2 4),(1,.bc []),(2,kc),(3,kh (aE args.length) x),(4,cz s2)] 5) (aw Z 115 0):=by
  cases args with
  |nil=>refine HO 5 106 [12] ?_ rfl (by kernel_rfl);exact HR (oh:=[2,3,5]) (ls:=[0,8,9,10,11,12,50,51,52]) (ps:=[(0,0),(1,1),(2,2),(3,3),(5,4),(4,5)]) (by kernel_rfl) (by kernel_rfl) (by kernel_rfl) h
  |cons a tl=>refine HO 5 106 [12] ?_ rfl (by kernel_rfl);exact HR (oh:=[2,3,5]) (ls:=[0,8,9,10,11,12,50,51,52]) (ps:=[(0,0),(1,1),(2,2),(3,3),(5,4),(4,5)]) (by kernel_rfl) (by kernel_rfl) (by kernel_rfl) h
 match kk,hk with
 |0,_=>
  refine hD hS 1000 nF (by kernel_rfl) ?_;cases args with
  |nil=>exact cast (@az3 ..).symm ⟨⟨s,.mk k n nm l,c,s2,ls⟩,⟨rfl,rfl,a_,hi,hr⟩,nil⟩
  |cons a tl=>exact cast (@az9 ..).symm ⟨⟨s,.mk k n nm l,c,s2,ls⟩,⟨rfl,rfl,a_,hi,hr⟩,nil⟩
 |1,_=>
  refine hD hS 1000 nF (by kernel_rfl) ?_;cases args with
  |nil=>exact cast (@az4 ..).symm ⟨⟨s,.mk k n nm l,c,s2,ls⟩,⟨rfl,rfl,a_,hi,hr⟩,nil⟩
  |cons a tl=>exact cast (@aAa ..).symm ⟨⟨s,.mk k n nm l,c,s2,ls⟩,⟨rfl,rfl,a_,hi,hr⟩,nil⟩
 |2,_=>
  refine hD hS 1000 nF (by kernel_rfl) ?_;cases args with
  |nil=>exact cast (@az5 ..).symm ⟨⟨s,.mk k n nm l,c,s2,ls⟩,⟨rfl,rfl,a_,hi,hr⟩,nil⟩
  |cons a tl=>exact cast (@aAb ..).symm ⟨⟨s,.mk k n nm l,c,s2,ls⟩,⟨rfl,rfl,a_,hi,hr⟩,nil⟩
 |3,_=>
  refine hD hS 1000 nF (by kernel_rfl) ?_;cases args with
  |nil=>exact cast (@az6 ..).symm ⟨⟨s,.mk k n nm l,c,s2,ls⟩,⟨rfl,rfl,a_,hi,hr⟩,nil⟩
  |cons a tl=>exact cast (@aAc ..).symm ⟨⟨s,.mk k n nm l,c,s2,ls⟩,⟨rfl,rfl,a_,hi,hr⟩,nil⟩
def yL(args:eK)(x:Int)(gs:fO):bG:=⟨pdS args.length x,args,gs⟩
theorem WI:∀a b:List bG,dM (a++b)=dM a++dM b
 |[],b=>rfl
 |f::a,b=>by simp only[oH,dM,WI a b,j7]
theorem GU:∀l,(dM l).length=l.length*5
 |[]=>rfl
 |f::l=>by simp[dM,gH,GU l];omega
theorem afq(l):(dM l).all AV.cX=true/\(dM l).all eG=true:=by
 induction l with
 |nil=>exact⟨rfl,rfl⟩
 |cons g l ih=>simp only[dM,sc,ih.1,ih.2,yW];exact⟨rfl,rfl⟩
theorem aqq(l):(aF l).all AV.cX=true/\(aF l).all eG=true:=by
 induction l with
 |nil=>exact⟨rfl,rfl⟩
 |cons g l ih=>have⟨k,n,s,m⟩:=g;simp only[aF,sc,ih.1,ih.2,yW];exact⟨rfl,rfl⟩
theorem afl{ls:List fO}{i}(h:i<ls.length):((ls.map kb).drop (i*1)).take 1=[.ad (bD ls[i]) ls[i].length 6]:=by rw[oI,<-List.map_drop,fY h];rfl
theorem awo{N}(hS:aU Z (T5 N)){v H1 s dW x}{ls:List fO}{args}(hl:ls.length<10)(ha:args.length<=4000000)(h:br Z 115 75 2 v H1 (aB [(0,.aa 0 0),(8,.aa 2 0),(9,a9 args),(10,.aa 3 0),(11,J dW),(12,.ai 4 ls.length 5)]) (h9 s args.length x (dM (ls.map (yL args x)))) (di Z nF 115 0)):
 ∀i,i<=ls.length->br Z 115 75 2 v H1 (t9 dW (a9 args) (ls.map kb) ls.length i (i:Int)) (h9 s args.length x (dM ((ls.take i).map (yL args x)))) (aw Z 115 0):=by
 refine dS (λi=>ls.length-i) _ _ _ _ ?_;rintro i hi ih;refine hD hS 1000 nF (by kernel_rfl) ?_;have bS:(dM ((ls.take i).map (yL args x))).length=i*5:=by rw[GU,og,vN];omega
 have Ez:ls.length<=i->br Z 115 75 2 v H1 (aB [(0,.aa 0 0),(8,.aa 2 0),(9,a9 args),(10,.aa 3 0),(11,J dW),(12,.ai 4 i 5)]) (h9 s args.length x (dM ((ls.take i).map (yL args x)))) (di Z nF 115 0):=by
  intro bu;obtain rfl:i=ls.length:=by omega
  rw[vT];exact h
 have hw:wI ((i:Int)+1)=((i+1:Nat):Int):=cO (by omega) (by omega);have fJ:∀ax:i<ls.length,dM ((ls.take (i+1)).map (yL args x))=dM ((ls.take i).map (yL args x))++gH (yL args x ls[i]):=by intro ax;rw[aby _ _ ax,WI];simp[dM]
 cases args with
 |nil=>
  refine cast (@az7 s dW x i (ls.map kb) ls.length (dM ((ls.take i).map (yL [] x))) i N _ _).symm ?_;refine aD.2 ⟨λax=>?_,λbu=>Ez (by simpa using bu)⟩;have ax:i<ls.length:=by simpa using ax
  refine⟨i,rfl,ax,bD ls[i],ls[i].length,afl ax,rfl,rfl,⟨bS,by omega,rfl,rfl⟩,?_⟩;rw[hw];have:=ih (i+1) (by omega) (by omega);rw[fJ ax]at this;refine yr (g:=4) this rfl (λφ e o h=>ans ?_ ?_ h) rfl (by kernel_rfl)
  .exact iS.mh (iS.oq _) (.fE (.fE (.fE (.ta 4 (.oq _)))))
  .simp;exact⟨rfl,rfl⟩
 |cons a tl=>
  refine cast (@az8 s dW x i (aF (a::tl)) (a::tl).length (ls.map kb) ls.length (dM ((ls.take i).map (yL (a::tl) x))) i N _ _).symm ?_;refine aD.2 ⟨λax=>?_,λbu=>Ez (by simpa using bu)⟩;have ax:i<ls.length:=by simpa using ax
  refine⟨i,rfl,ax,bD ls[i],ls[i].length,afl ax,⟨rfl,by simp,ha,rV _,aqq _⟩,rfl,⟨bS,by omega,rfl,rfl⟩,?_⟩;rw[hw];have:=ih (i+1) (by omega) (by omega);rw[fJ ax]at this;exact this
theorem afA{fl}(h:fl≠[]):yg fl=.ad (dM fl) fl.length 5:=by
 cases fl with
 |nil=>exact absurd rfl h
 |cons f l=>rfl
theorem aqc{l i fl}(h:i<l.length):gg (iN l) (i*1) [yg fl]=iN (l.set i fl):=by rw[gg,oI,iN,iN,List.set_eq_take_append_cons_drop,aO h,qF,List.map_take,gR,List.map_drop];rfl
theorem WD(l):(iN l).length=l.length:=by simp[iN]
theorem awn{N}(hS:aU Z (T5 N)){s}{dW:Nat}{x args fl}(cE:fl≠[])(XQ:dW<s.au.length)(ha:args.length<4000000)(a_:fy args):
 br Z 115 75 2 (.ah (uS (pJ (pdS args.length x) args))) (nq (s.put dW fl)) (aB [(0,.aa 0 0),(8,.aa 2 0),(9,a9 args),(10,.aa 3 0),(11,J (dW:Int)),(12,.ai 4 fl.length 5)]) (h9 s args.length x (dM fl)) (di Z nF 115 0):=by
 have e:gT 4 (dM fl) (.ai 4 fl.length 5)=.ad (dM fl) fl.length 5:=by simp[gT,GU]
 have e2:nq (s.put dW fl)=al [(0,ct s 2),(1,.bc []),(2,.ay (gg (iN s.au) (dW*1) [.ad (dM fl) fl.length 5]) 84)] 3:=by rw[<-afA cE,aqc XQ];simp[nq,ct,cz,da.put]
 rw[e2];refine HM (g:=4) ?_ rfl (by kernel_rfl);simp only[Br];rw[e];refine hD hS 1000 (λ_=>[]) (by kernel_rfl) ?_;cases args with
 |nil=>exact cast (@az0 s dW x (dM fl) fl.length N _ _).symm ⟨dW,rfl,XQ,by rw[WD];omega,rfl,rfl,rfl⟩
 |cons a tl=>exact cast (@az1 s dW x (aF (a::tl)) (a::tl).length (dM fl) fl.length N _ _).symm ⟨dW,rfl,XQ,by rw[WD];omega,a::tl,⟨rfl,rfl,a_,ha⟩,rfl,rfl⟩
theorem aa1{v H1}{s:da}{dU nm kJ k n c dW x f len cs args}(cE:args≠[])(h:br Z 115 75 2 v H1 (t8 c dW (a9 args)) (h8 s.j_ dU kJ f k n nm cs len args.length x) (di Z pU 115 0)):
 br Z 115 75 2 v H1 (aB [(0,.aa 0 0),(3,J c),(5,.aa 2 0),(6,.aa 3 0),(8,.aa 4 0),(9,.ai 5 args.length 4),(10,.aa 6 0),(11,J dW),(12,.aJ)])
  (al [(0,.aj [J s.nv,J s.na,.ao s.tr,.ai 7 (s.au.length+1) 1] 120),(1,.bc []),(2,GL dU kJ f),(3,en k n nm cs len),(4,kc),(5,.ay (aF args) 49),(6,kh (aE args.length) x),(7,.ay (iN s.au++[.aJ]) 84)] 8) (di Z pU 115 0):=by
 have e0:ct s.j_ 6=.aj [J s.nv,J s.na,.ao s.tr,.ai 6 (s.au.length+1) 1] 120:=by simp[ct,da.j_]
 have e1:cz s.j_=.ay (iN s.au++[.aJ]) 84:=by simp[cz,da.j_,iN,yg]
 have e:gT 5 (aF args) (.ai 5 args.length 4)=.ad (aF args) args.length 4:=by simp[gT,rV]
 rw[h8,e0,e1]at h;refine HM (g:=5) ?_ rfl (by kernel_rfl);simp only[Br];rw[e];cases args with
 |nil=>exact absurd rfl cE
 |cons a tl=>exact HR (oh:=[2,3,4,6]) (ls:=[0,3,5,6,8,9,10,11,12]) (ps:=[(0,0),(1,1),(2,2),(3,3),(4,4),(6,5),(7,6)]) (by kernel_rfl) (by kernel_rfl) (by kernel_rfl) h
theorem ajM:∀{a b},fy a->fy b->fy (a++b)
 |[],b,_,h=>h
 |t::a,b,h,h2=>⟨h.1,ajM h.2 h2⟩
theorem IP(n):bL (l8 n):=⟨by simp[dt],by simp[dt],trivial⟩
theorem ajO:∀l:LI,fy (l.map l8)
 |[]=>trivial
 |n::l=>⟨IP n,ajO l⟩
theorem aag(g c):fy (lN g c):=ajM (ajO _) (by split;exact⟨IP c,trivial⟩;exact trivial)
theorem adZ(g c):(lN g c).length<=2001:=by have:=Nt g;simp only[lN,qI,cI,og];split<;>simp<;>omega
theorem aoH{G k s g c}:(fP G k s g c).2.length<10:=by
 match k with
 |0=>simp only[fP];split<;>simp
 |1=>simp[fP]
 |2=>simp[fP]
 |k+3=>simp[fP]
theorem awm{N}(hS:aU Z (T5 N)):∀w A H,(M8 N).bn w A H->bZ Z 115 A H ((M8 N).v w) ((M8 N).aK w):=by
 rintro⟨kk,s,g,c,s2,q⟩ A H ⟨rfl,rfl,a_,lS,hk,he⟩;simp only at a_ lS hk he;simp only[k9]at he;have hp:s.px.j_.au.length=s.au.length+1:=by simp[da.px,da.j_]
 have hb:=O3 (s:=s.px.j_) (c:=c) (qX N) hk a_.2.1 lS;have ht:=aoH (G:=dX N) (k:=kk) (s:=s.px.j_) (g:=g) (c:=c);generalize hr:fP (dX N) kk s.px.j_ g c=r at he hb ht;have⟨s3,ls⟩:=r;cases he;simp at hb ht;have HH:=adZ g c;have rj:∀args,lN g c=args->br Z 115 75 2 (.ah (uS (pJ (Fq s g c) (lN g c)))) (nq (s3.put s.au.length (ls.map λgs=>⟨Fq s g c,lN g c,gs⟩))) (t8 c (s.au.length:Int) (a9 args)) (h8 s.px.j_ (jC kk) (lM kk) (zQ kk) g.cq g.n g.cK (aF g.bh) g.bh.length args.length (bV s.na)) (di Z pU 115 0):=by rintro args rfl;refine awl hS hk ⟨a_.1,a_.2.1,a_.2.2.1,by rw[hp];have:=a_.2.2.2.1;omega,a_.2.2.2.2⟩ lS hr ?_;have h0:=awn (x:=bV s.na) (fl:=ls.map (yL (lN g c) (bV s.na))) hS (by intro hn;exact hb.2.2.1 (List.map_eq_nil_iff.1 hn)) (by omega:s.au.length<s3.au.length) (by omega) (aag g c);rw[og]at h0;exact awo hS ht (by omega) h0 0 (gq _)
 have hvl:=Nt g;have yC:(iN s.px.au).length=s.px.au.length*1:=by rw[WD,oI]
 have BW:s.px.au.length+1<=4194304:=by have:=a_.2.2.2.1;show s.au.length+1<=_;omega
 have hvo:(aF (qI g)).length=(gh g).length*4:=by rw[rV,qI,og]
 have⟨k,n,nm,l⟩:=g;refine eS hS 1000 pU 75 (by kernel_rfl) ?_;rw[aW,az2];cases hv:(gh (.mk k n nm l)).isEmpty
 .refine⟨true,aD.2 ⟨λ_=>⟨.mk k n nm l,⟨rfl,rfl,a_.1,hv⟩,.mk k n nm l,⟨rfl,rfl,a_.1⟩,aD.2 ⟨λhc=>?_,λhc=>?_⟩⟩,λh=>by cases h⟩⟩
  .have ha:lN (.mk k n nm l) c=qI (.mk k n nm l)++[l8 c]:=by rw[lN,aO hc]
   have h:=aa1 (by simp) (rj _ ha);rw[show(qI (.mk k n nm l)++[l8 c]).length=(gh (.mk k n nm l)).length+1 by simp[qI],Be]at h;exact⟨⟨rfl,trivial⟩,⟨hvo,by omega,rfl,rfl⟩,s,⟨rfl,rfl⟩,⟨yC,BW,rfl,rfl⟩,h⟩
  .have ha:lN (.mk k n nm l) c=qI (.mk k n nm l):=by rw[lN,az (by rw[hc];decide),jm]
   have h:=aa1 (by intro hn;rw[List.map_eq_nil_iff.1 hn]at hv;cases hv) (rj _ ha);rw[show(qI (.mk k n nm l)).length=(gh (.mk k n nm l)).length by simp[qI]]at h;exact⟨s,⟨rfl,rfl⟩,⟨yC,BW,rfl,rfl⟩,h⟩
 .have hvn:qI (.mk k n nm l)=[]:=by rw[qI,List.isEmpty_iff.1 hv];rfl
  refine⟨false,aD.2 ⟨λh=>(by cases h),λ_=>⟨.mk k n nm l,⟨rfl,rfl,a_.1,hv⟩,.mk k n nm l,⟨rfl,rfl,a_.1⟩,aD.2 ⟨λhc=>?_,λhc=>?_⟩⟩⟩⟩
  .have ha:lN (.mk k n nm l) c=[l8 c]:=by rw[lN,aO hc,hvn];rfl
   have h:=aa1 (by simp) (rj _ ha);refine⟨⟨rfl,trivial⟩,s,⟨rfl,rfl⟩,⟨yC,BW,rfl,rfl⟩,?_⟩;exact yr (g:=5) h rfl (λφ e o h=>rQ rfl h) rfl (by kernel_rfl)
  .have ha:lN (.mk k n nm l) c=[]:=by rw[lN,az (by rw[hc];decide),hvn];rfl
   have h:=rj _ ha;have e0:ct s.px.j_ 6=.aj [J s.px.nv,J s.px.na,.ao s.px.tr,.ai 6 (s.px.au.length+1) 1] 120:=by simp[ct,da.j_]
   have e1:cz s.px.j_=.ay (iN s.px.au++[.aJ]) 84:=by simp[cz,da.j_,iN,yg]
   rw[h8,e0,e1]at h;exact⟨s,⟨rfl,rfl⟩,⟨yC,BW,rfl,rfl⟩,h⟩
theorem anK{N}(hS:aU Z (T0 N)):aU Z (T6 N):=cA (adA hS) (awm (adA hS))
end
end Go.Cl
