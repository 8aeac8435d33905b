/- Part of a proof of ClauseCompiles. -/
import Derived.Test.YtanclcoobcaemaaGreatB8
set_option linter.all false
set_option linter.unusedSectionVars false
set_option maxRecDepth 100000
namespace Go.Cl
open Go.Ev Go.Proofs
variable[Ro]
noncomputable section
def Rm.g_:Nat->Rm->bG->Rm
 |_,m,[]=>m
 |j,m,t::l=>Rm.g_ (j+1) (m.iX (((j+1:Nat):Int),t)) l
def Rm.kp(m:Rm)(b:Int):Rm:=⟨m.f,m.c,m.aZ,m.bV,b,m.cx⟩
structure RS where
 m:Rm
 cn:Int
 tn:Nat
 fr:Nat
 en:Bool
def pR(m:Rm)(fr:Nat)(base:Int):Prop:=¬m.cx>4096∧(eF (m.aZ.drop fr) base).2=0
instance(m:Rm)(fr:Nat)(base:Int):Decidable (pR m fr base):=by unfold pR;infer_instance
def dX(op:Int)(p:d_):ba:=⟨op,0,0,p.aM,p.cL,p.ar⟩
def nW(s:RS)(lv:Int)(g:iP):Rm:=(if lv<s.cn then(s.m.g_ 0 g.cP).ah ⟨17,0,0,lv,[],0⟩else s.m.g_ 0 g.cP).ah (dX 19 g.aH)
def pH(b:Bool)(base:LI)(lv:Int)(last:Bool)(s:RS)(g:iP):Option RS:=
 if last=true then some ⟨(if b=true then(s.m.g_ 0 g.cP).ah ⟨18,0,0,0,[],0⟩else s.m.g_ 0 g.cP).ah (dX 20 g.aH),s.cn,s.tn,s.fr,true⟩
 else if pR (nW s lv g) s.fr (base.getD s.tn 0)then some ⟨((nW s lv g).aw (s.fr,base.getD s.tn 0)).kp (base.getD (s.tn+1) 0),if lv<s.cn then lv else s.cn,s.tn+1,((nW s lv g).aw (s.fr,base.getD s.tn 0)).aZ.length,s.en⟩
 else none
def Rm.pV(m:Rm)(v:Int):Rm:=match cu v m.bV with|some r=>m.ah ⟨24,r,0,0,[],0⟩|none=>m
def sy(b:Bool)(base:LI)(lv:Int)(last:Bool)(s:RS)(g:iP):Option RS:=
 if g.cQ=2 then some ⟨s.m.dR (22,g.il),s.cn,s.tn,s.fr,s.en⟩
 else if g.cQ=3 then some ⟨s.m.dR (23,g.il),s.cn,s.tn,s.fr,s.en⟩
 else if g.cQ=4 then some ⟨s.m.pV g.il,s.cn,s.tn,s.fr,s.en⟩
 else if g.cQ=5 then some ⟨s.m.ah ⟨25,0,0,0,[],0⟩,s.cn,s.tn,s.fr,true⟩
 else pH b base lv last s g
def S0(b:Bool)(base aE:LI):Nat->RS->c7->Option RS
 |_,s,[]=>some s
 |i,s,g::l=>match sy b base (aE.getD i 0) l.isEmpty s g with
  |none=>none
  |some s'=>S0 b base aE (i+1) s' l
def Rm.tH(m:Rm)(en b:Bool):Rm:=if en=true then m else(if b=true then m.ah ⟨18,0,0,0,[],0⟩else m).ah ⟨21,0,0,0,[],0⟩
def Sn(b:Bool)(base:LI)(s:RS):Option bS:=
 if pR (s.m.tH s.en b) s.fr (base.getD s.tn 0)then some ((s.m.tH s.en b).aw (s.fr,base.getD s.tn 0)).aZ else none
def wV(b:Bool)(base aE:LI)(i:Nat)(s:RS)(l:c7):Option bS:=
 match S0 b base aE i s l with
 |none=>none
 |some s=>Sn b base s
def wR:Bool->c7->Bool
 |b,[]=>b
 |b,[_]=>b
 |b,g::h::l=>wR (b||g.cQ==1) (h::l)
def Ef(g:a9):Bool:=wR (decide ((gb g).aC.length>0)) g.au
def v9(g:a9):Rm:=⟨g,gb g,[],[],0,0⟩
def v_(g:a9):Rm:=if Ef g=true then(v9 g).ah ⟨16,0,0,((gb g).aC.length:Int),[],0⟩else v9 g
def I2(g:a9):Rm:=((v_ g).kp ((dg g).getD 0 0)).dJ 0 g.aQ
def wH(g:a9):Option bS:=wV (Ef g) (dg g) (gb g).aE 0 ⟨I2 g,((gb g).aC.length:Int),0,0,false⟩ g.au
def jk(f:a9)(id:Int):mz×Int:=
 if ei f=false∨id<1∨id>1099511627776 then(oO,1)
 else match wH (a_ f)with
  |none=>(oO,2)
  |some c=>(⟨id,f.aH,lJ uu f.aQ,c⟩,0)
def Kw:Ev.bC:=cB 8 (cO (G' jk) (aas jk) cV) DC
def nU(id:Int)(p:d_)(k:Int×Int×LN×Int):bc:=.ay [J id,.aa p.cL,J p.ar,J p.aM,J k.1,J k.2.1,.aa k.2.2.1,J k.2.2.2,.bg] 34
def c8(a b c:Nat)(x:eu):bc:=.ay [.ae a x.aR.length 1,.ae b x.aC.length 1,.ae c x.aE.length 1] 60
def Tc(f g:a9)(id:Int)(k:Int×Int×LN×Int)(c:eu):AH:=aq [(0,cj g),(1,kR),(2,nU id f.aH k),(3,c8 5 6 7 c),(4,fQ ⟨g,c,[],[],0,0⟩ 5 6 7 8 9),(5,aD c.aR 3),(6,aD c.aC 2),(7,aD c.aE 3),(8,.aL [] 50),(9,.aL [] 128)] 10
def Ex(f g:a9)(c:eu)(id:Int)(k:Int×Int×LN×Int)(base:LI)(m:Rm):AH:=aq [(0,cj g),(1,kR),(2,nU id f.aH k),(3,c8 6 7 8 c),(4,fQ m 6 7 8 9 10),(5,aD base 3),(6,aD m.c.aR 3),(7,aD m.c.aC 2),(8,aD m.c.aE 3),(9,fI m),(10,fR m)] 11
def h8c(f g:a9)(c:eu)(id:Int)(k:Int×Int×LN×Int)(base:LI)(m:Rm)(gk:Int)(nm:LN)(ar aM:Int)(cs:LV)(len:Nat)(v:Int):AH:=aq [(0,cj g),(1,kR),(2,nU id f.aH k),(3,c8 7 8 9 c),(4,fQ m 7 8 9 10 11),(5,aD base 3),(6,.ay [J gk,.aa nm,J ar,J aM,.aB cs len 4,J v] 46),(7,aD m.c.aR 3),(8,aD m.c.aC 2),(9,aD m.c.aE 3),(10,fI m),(11,fR m)] 12
def Ao:Nat->LN:=nk [(13,[2,4,6,7,9,10,11]),(25,[2,4,6,7,9,10,12,13,14,15,16,17]),(30,[2,4,6,7,9,10,12,13,14,15,16,17,18,21])]
abbrev CV x0 x1:=bk [(2,.ad 0 0),(4,.ad 1 0),(6,.ad 2 0),(7,.ad 3 0),(9,.ad 4 0),(10,.aA x0),(11,J x1)]
theorem aub(f:a9)(id:Int)(L:LT)(Q:QT):
 b_ Z DC Ao L Q 1000 8 [.aj (dj f),J id] ax=(
 (aq [] 0=ax∧Ab (dj f))∧ai (!m_ ei (dj f)) (Q (.aO [.aj [J 0,.aa [],J 0,J 0,J 0,J 0,.aa [],J 0,.bg],J 1]) ax) (ai (decide (id<1)) (Q (.aO [.aj [J 0,.aa [],J 0,J 0,J 0,J 0,.aa [],J 0,.bg],J 1]) ax) (ai (decide (id>1099511627776)) (Q (.aO [.aj [J 0,.aa [],J 0,J 0,J 0,J 0,.aa [],J 0,.bg],J 1]) ax) (ai (decide (Int.ofNat f.aQ.length>0)) (0<f.aQ.length∧(∃n:Int,∃aP:Int,∃s:LN,∃cs:LV,∃len:Nat,(((bw f.aQ).drop 0).take 4:LV)=[J n,J aP,.aa s,.aB cs len 4]∧(∃w:Int×Int×LN×LV×Nat,(([.aj [J n,J aP,.aa s,.aB cs len 4]]:LV)=[.aj [J w.1,J w.2.1,.aa w.2.2.1,.aB w.2.2.2.1 w.2.2.2.2 4]]∧aq [] 0=ax)∧(∃ab:a9,(([.aj (dj f)]:LV)=[.aj (dj ab)]∧aq [] 0=ax∧fL ab)∧(∃aJ:a9,(([.aj (dj (a_ ab))]:LV)=[.aj (dj aJ)]∧aq [] 0=ax∧fL aJ∧ei aJ=true∧bh aJ.aQ+eg aJ.au<20000)∧ai (decide (Int.ofNat (gb aJ).aC.length>4096)) (Q (.aO [.aj [J 0,.aa [],J 0,J 0,J 0,J 0,.aa [],J 0,.bg],J 2]) ax) (L (CV (decide (Int.ofNat (gb aJ).aC.length>0)) 0) (aq [(0,cj (a_ ab)),(1,kR),(2,nU id f.aH (uu w.1 w.2.1 w.2.2.1 w.2.2.2.2)),(3,c8 5 6 7 (gb aJ)),(4,.ay [.aa (a_ ab).aH.cL,J (a_ ab).aH.ar,J (a_ ab).aH.aM,.aB (bw (a_ ab).aQ) (a_ ab).aQ.length 4,.aB (ck (a_ ab).au) (a_ ab).au.length 6,.ae 5 (gb aJ).aR.length 1,.ae 6 (gb aJ).aC.length 1,.ae 7 (gb aJ).aE.length 1,.bg,.bg,J 0,J 0] 82),(5,aD (gb aJ).aR 3),(6,aD (gb aJ).aC 2),(7,aD (gb aJ).aE 3)] 8) (ao Z 8 0))))))) (∃w:a9,(([.aj (dj f)]:LV)=[.aj (dj w)]∧aq [] 0=ax∧fL w)∧(∃ab:a9,(([.aj (dj (a_ w))]:LV)=[.aj (dj ab)]∧aq [] 0=ax∧fL ab∧ei ab=true∧bh ab.aQ+eg ab.au<20000)∧ai (decide (Int.ofNat (gb ab).aC.length>4096)) (Q (.aO [.aj [J 0,.aa [],J 0,J 0,J 0,J 0,.aa [],J 0,.bg],J 2]) ax) (L (CV (decide (Int.ofNat (gb ab).aC.length>0)) 0) (aq [(0,cj (a_ w)),(1,kR),(2,.ay [J id,.aa f.aH.cL,J f.aH.ar,J f.aH.aM,J 0,J 0,.aa [],J 0,.bg] 34),(3,c8 5 6 7 (gb ab)),(4,.ay [.aa (a_ w).aH.cL,J (a_ w).aH.ar,J (a_ w).aH.aM,.aB (bw (a_ w).aQ) (a_ w).aQ.length 4,.aB (ck (a_ w).au) (a_ w).au.length 6,.ae 5 (gb ab).aR.length 1,.ae 6 (gb ab).aC.length 1,.ae 7 (gb ab).aE.length 1,.bg,.bg,J 0,J 0] 82),(5,aD (gb ab).aR 3),(6,aD (gb ab).aC 2),(7,aD (gb ab).aE 3)] 8) (ao Z 8 0)))))))):=by kernel_rfl
abbrev pU x0 x1 x2 x3 x4 x5 x6:=bk [(2,.ad 0 0),(4,.ad 1 0),(6,.ad 2 0),(7,.ad 3 0),(9,.ad 4 0),(10,.aA x0),(12,J x1),(13,.ae 5 x2 1),(14,J x3),(15,J x4),(16,.aA x5),(17,J x6)]
theorem at5(f g:a9)(id:Int)(k:Int×Int×LN×Int)(c:eu)(b:Bool)(i:Int)(L:LT)(Q:QT):
 cT Z DC Ao L Q 1000 8 0 (CV b i) (ao Z 8 0) (Tc f g id k c)=(
 ai (decide (wI (i+1)<Int.ofNat g.au.length)) (ai b (L (CV true (wI (i+1))) (aq [(0,cj g),(1,kR),(2,nU id f.aH k),(3,c8 5 6 7 c),(4,.ay [.aa (Rm.mk g c [] [] 0 0).f.aH.cL,J (Rm.mk g c [] [] 0 0).f.aH.ar,J (Rm.mk g c [] [] 0 0).f.aH.aM,.aB (bw (Rm.mk g c [] [] 0 0).f.aQ) (Rm.mk g c [] [] 0 0).f.aQ.length 4,.aB (ck (Rm.mk g c [] [] 0 0).f.au) (Rm.mk g c [] [] 0 0).f.au.length 6,.ae 5 (Rm.mk g c [] [] 0 0).c.aR.length 1,.ae 6 (Rm.mk g c [] [] 0 0).c.aC.length 1,.ae 7 (Rm.mk g c [] [] 0 0).c.aE.length 1,.ae 8 0 6,.ae 9 0 2,J (Rm.mk g c [] [] 0 0).cE,J (Rm.mk g c [] [] 0 0).cx] 82),(5,aD c.aR 3),(6,aD c.aC 2),(7,aD c.aE 3),(8,.aL [] 50),(9,.aL [] 128)] 10) (ao Z 8 0)) (∃aI:Nat,i=(aI:Int)∧aI<g.au.length∧(∃n:Int,∃s:LN,∃aP:Int,∃bp:Int,∃cs:LV,∃len:Nat,∃bI:Int,(((ck g.au).drop (aI*6)).take 6:LV)=[J n,.aa s,J aP,J bp,.aB cs len 4,J bI]∧L (CV (n==1) (wI (i+1))) (aq [(0,cj g),(1,kR),(2,nU id f.aH k),(3,c8 5 6 7 c),(4,.ay [.aa (Rm.mk g c [] [] 0 0).f.aH.cL,J (Rm.mk g c [] [] 0 0).f.aH.ar,J (Rm.mk g c [] [] 0 0).f.aH.aM,.aB (bw (Rm.mk g c [] [] 0 0).f.aQ) (Rm.mk g c [] [] 0 0).f.aQ.length 4,.aB (ck (Rm.mk g c [] [] 0 0).f.au) (Rm.mk g c [] [] 0 0).f.au.length 6,.ae 5 (Rm.mk g c [] [] 0 0).c.aR.length 1,.ae 6 (Rm.mk g c [] [] 0 0).c.aC.length 1,.ae 7 (Rm.mk g c [] [] 0 0).c.aE.length 1,.ae 8 0 6,.ae 9 0 2,J (Rm.mk g c [] [] 0 0).cE,J (Rm.mk g c [] [] 0 0).cx] 82),(5,aD c.aR 3),(6,aD c.aC 2),(7,aD c.aE 3),(8,.aL [] 50),(9,.aL [] 128)] 10) (ao Z 8 0)))) (ai b (∃w:Rm×ba,(([.ad 0 0,.aj [J 16,J 0,J 0,J (Int.ofNat c.aC.length),.aa [],J 0]]:LV)=[.ad 0 0,.aj (bP w.2)]∧aq [(0,.ay [.aa (Rm.mk g c [] [] 0 0).f.aH.cL,J (Rm.mk g c [] [] 0 0).f.aH.ar,J (Rm.mk g c [] [] 0 0).f.aH.aM,.aB (bw (Rm.mk g c [] [] 0 0).f.aQ) (Rm.mk g c [] [] 0 0).f.aQ.length 4,.aB (ck (Rm.mk g c [] [] 0 0).f.au) (Rm.mk g c [] [] 0 0).f.au.length 6,.ae 1 (Rm.mk g c [] [] 0 0).c.aR.length 1,.ae 2 (Rm.mk g c [] [] 0 0).c.aC.length 1,.ae 3 (Rm.mk g c [] [] 0 0).c.aE.length 1,.ae 4 0 6,.ae 5 0 2,J (Rm.mk g c [] [] 0 0).cE,J (Rm.mk g c [] [] 0 0).cx] 82),(1,aD c.aR 3),(2,aD c.aC 2),(3,aD c.aE 3),(4,.aL [] 50),(5,.aL [] 128)] 6=bE w.1∧js w.1 w.2)∧(∃ab:a9,(([.aj (dj g)]:LV)=[.aj (dj ab)]∧aq [] 0=ax∧fL ab∧ei ab=true∧ab.au.length<60000)∧0<(dg ab).length∧(∃n:Int,bA Z 3 (aW (dg ab)) 0=some (J n:AV)∧(∃aJ:Rm×Unit,(([.ad 0 0]:LV)=[.ad 0 0]∧aq [(0,.ay [.aa (w.1.ah w.2).f.aH.cL,J (w.1.ah w.2).f.aH.ar,J (w.1.ah w.2).f.aH.aM,.aB (bw (w.1.ah w.2).f.aQ) (w.1.ah w.2).f.aQ.length 4,.aB (ck (w.1.ah w.2).f.au) (w.1.ah w.2).f.au.length 6,.ae 1 (w.1.ah w.2).c.aR.length 1,.ae 2 (w.1.ah w.2).c.aC.length 1,.ae 3 (w.1.ah w.2).c.aE.length 1,.ae 4 (w.1.ah w.2).aZ.length 6,.ae 5 (w.1.ah w.2).bV.length 2,J n,J (w.1.ah w.2).cx] 82),(1,aD (w.1.ah w.2).c.aR 3),(2,aD (w.1.ah w.2).c.aC 2),(3,aD (w.1.ah w.2).c.aE 3),(4,fI (w.1.ah w.2)),(5,fR (w.1.ah w.2))] 6=bE aJ.1∧jr aJ.1 (2*bh aJ.1.f.aQ))∧L (pU b (Int.ofNat c.aC.length) (dg ab).length 0 0 false 0) (aq [(0,cj g),(1,kR),(2,nU id f.aH k),(3,c8 6 7 8 c),(4,fQ (Rm.dJ 0 aJ.1 aJ.1.f.aQ) 6 7 8 9 10),(5,aD (dg ab) 3),(6,aD (Rm.dJ 0 aJ.1 aJ.1.f.aQ).c.aR 3),(7,aD (Rm.dJ 0 aJ.1 aJ.1.f.aQ).c.aC 2),(8,aD (Rm.dJ 0 aJ.1 aJ.1.f.aQ).c.aE 3),(9,fI (Rm.dJ 0 aJ.1 aJ.1.f.aQ)),(10,fR (Rm.dJ 0 aJ.1 aJ.1.f.aQ))] 11) (ao Z 8 1))))) (∃w:a9,(([.aj (dj g)]:LV)=[.aj (dj w)]∧aq [] 0=ax∧fL w∧ei w=true∧w.au.length<60000)∧0<(dg w).length∧(∃n:Int,bA Z 3 (aW (dg w)) 0=some (J n:AV)∧(∃ab:Rm×Unit,(([.ad 0 0]:LV)=[.ad 0 0]∧aq [(0,.ay [.aa (Rm.mk g c [] [] 0 0).f.aH.cL,J (Rm.mk g c [] [] 0 0).f.aH.ar,J (Rm.mk g c [] [] 0 0).f.aH.aM,.aB (bw (Rm.mk g c [] [] 0 0).f.aQ) (Rm.mk g c [] [] 0 0).f.aQ.length 4,.aB (ck (Rm.mk g c [] [] 0 0).f.au) (Rm.mk g c [] [] 0 0).f.au.length 6,.ae 1 (Rm.mk g c [] [] 0 0).c.aR.length 1,.ae 2 (Rm.mk g c [] [] 0 0).c.aC.length 1,.ae 3 (Rm.mk g c [] [] 0 0).c.aE.length 1,.ae 4 0 6,.ae 5 0 2,J n,J (Rm.mk g c [] [] 0 0).cx] 82),(1,aD c.aR 3),(2,aD c.aC 2),(3,aD c.aE 3),(4,.aL [] 50),(5,.aL [] 128)] 6=bE ab.1∧jr ab.1 (2*bh ab.1.f.aQ))∧L (pU b (Int.ofNat c.aC.length) (dg w).length 0 0 false 0) (aq [(0,cj g),(1,kR),(2,nU id f.aH k),(3,c8 6 7 8 c),(4,fQ (Rm.dJ 0 ab.1 ab.1.f.aQ) 6 7 8 9 10),(5,aD (dg w) 3),(6,aD (Rm.dJ 0 ab.1 ab.1.f.aQ).c.aR 3),(7,aD (Rm.dJ 0 ab.1 ab.1.f.aQ).c.aC 2),(8,aD (Rm.dJ 0 ab.1 ab.1.f.aQ).c.aE 3),(9,fI (Rm.dJ 0 ab.1 ab.1.f.aQ)),(10,fR (Rm.dJ 0 ab.1 ab.1.f.aQ))] 11) (ao Z 8 1)))))):=by kernel_rfl
abbrev OM x0 x1 x2 x3 x4 x5 x6 x7:=bk [(2,.ad 0 0),(4,.ad 1 0),(6,.ad 2 0),(7,.ad 3 0),(9,.ad 4 0),(10,.aA x0),(12,J x1),(13,.ae 5 x2 1),(14,J x3),(15,J x4),(16,.aA x5),(17,J x6),(18,.ad 6 0),(21,J x7)]
theorem at7(f g:a9)(c:eu)(id:Int)(k:Int×Int×LN×Int)(base:LI)(m:Rm)(b en:Bool)(cn tn fr i:Int)(L:LT)(Q:QT):
 cT Z DC Ao L Q 1000 8 0 (pU b cn base.length tn fr en i) (ao Z 8 1) (Ex f g c id k base m)=(
 ai (decide (i<Int.ofNat g.au.length)) (∃aI:Nat,i=(aI:Int)∧aI<g.au.length∧(∃n:Int,∃s:LN,∃aP:Int,∃bp:Int,∃cs:LV,∃len:Nat,∃bI:Int,(((ck g.au).drop (aI*6)).take 6:LV)=[J n,.aa s,J aP,J bp,.aB cs len 4,J bI]∧ai (n==2) (∃w:Rm×Int×Int,(([.ad 0 0,J 22,J bI]:LV)=[.ad 0 0,J w.2.1,J w.2.2]∧bE m=bE w.1∧jr w.1 2)∧L (pU b cn base.length tn fr en (wI (i+1))) (aq [(0,cj g),(1,kR),(2,nU id f.aH k),(3,c8 6 7 8 c),(4,fQ (w.1.dR w.2) 6 7 8 9 10),(5,aD base 3),(6,aD (w.1.dR w.2).c.aR 3),(7,aD (w.1.dR w.2).c.aC 2),(8,aD (w.1.dR w.2).c.aE 3),(9,fI (w.1.dR w.2)),(10,fR (w.1.dR w.2))] 11) (ao Z 8 1)) (ai (n==3) (∃w:Rm×Int×Int,(([.ad 0 0,J 23,J bI]:LV)=[.ad 0 0,J w.2.1,J w.2.2]∧bE m=bE w.1∧jr w.1 2)∧L (pU b cn base.length tn fr en (wI (i+1))) (aq [(0,cj g),(1,kR),(2,nU id f.aH k),(3,c8 6 7 8 c),(4,fQ (w.1.dR w.2) 6 7 8 9 10),(5,aD base 3),(6,aD (w.1.dR w.2).c.aR 3),(7,aD (w.1.dR w.2).c.aC 2),(8,aD (w.1.dR w.2).c.aE 3),(9,fI (w.1.dR w.2)),(10,fR (w.1.dR w.2))] 11) (ao Z 8 1)) (ai (n==4) (∃w:Rm×Int,(([.ad 0 0,J bI]:LV)=[.ad 0 0,J w.2]∧bE m=bE w.1∧w.1.bV.length<65536)∧ai (Option.isSome (cu w.2 w.1.bV)) (∃ab:Rm×ba,(([.ad 0 0,.aj [J 24,J (Option.getD (cu w.2 w.1.bV) 0),J 0,J 0,.aa [],J 0]]:LV)=[.ad 0 0,.aj (bP ab.2)]∧bE w.1=bE ab.1∧js ab.1 ab.2)∧L (pU b cn base.length tn fr en (wI (i+1))) (aq [(0,cj g),(1,kR),(2,nU id f.aH k),(3,c8 6 7 8 c),(4,fQ (ab.1.ah ab.2) 6 7 8 9 10),(5,aD base 3),(6,aD (ab.1.ah ab.2).c.aR 3),(7,aD (ab.1.ah ab.2).c.aC 2),(8,aD (ab.1.ah ab.2).c.aE 3),(9,fI (ab.1.ah ab.2)),(10,fR (ab.1.ah ab.2))] 11) (ao Z 8 1)) (L (pU b cn base.length tn fr en (wI (i+1))) (aq [(0,cj g),(1,kR),(2,nU id f.aH k),(3,c8 6 7 8 c),(4,fQ w.1 6 7 8 9 10),(5,aD base 3),(6,aD w.1.c.aR 3),(7,aD w.1.c.aC 2),(8,aD w.1.c.aE 3),(9,fI w.1),(10,fR w.1)] 11) (ao Z 8 1))) (ai (n==5) (∃w:Rm×ba,(([.ad 0 0,.aj [J 25,J 0,J 0,J 0,.aa [],J 0]]:LV)=[.ad 0 0,.aj (bP w.2)]∧bE m=bE w.1∧js w.1 w.2)∧L (pU b cn base.length tn fr true (wI (i+1))) (aq [(0,cj g),(1,kR),(2,nU id f.aH k),(3,c8 6 7 8 c),(4,fQ (w.1.ah w.2) 6 7 8 9 10),(5,aD base 3),(6,aD (w.1.ah w.2).c.aR 3),(7,aD (w.1.ah w.2).c.aC 2),(8,aD (w.1.ah w.2).c.aE 3),(9,fI (w.1.ah w.2)),(10,fR (w.1.ah w.2))] 11) (ao Z 8 1)) (L (OM b cn base.length tn fr en i 0) (aq [(0,cj g),(1,kR),(2,nU id f.aH k),(3,c8 7 8 9 c),(4,fQ m 7 8 9 10 11),(5,aD base 3),(6,.ay [J n,.aa s,J aP,J bp,.aB cs len 4,J bI] 46),(7,aD m.c.aR 3),(8,aD m.c.aC 2),(9,aD m.c.aE 3),(10,fI m),(11,fR m)] 12) (ao Z 8 2))))))) (ai (!en) (ai b (∃w:Rm×ba,(([.ad 0 0,.aj [J 18,J 0,J 0,J 0,.aa [],J 0]]:LV)=[.ad 0 0,.aj (bP w.2)]∧bE m=bE w.1∧js w.1 w.2)∧(∃ab:Rm×ba,(([.ad 0 0,.aj [J 21,J 0,J 0,J 0,.aa [],J 0]]:LV)=[.ad 0 0,.aj (bP ab.2)]∧bE (w.1.ah w.2)=bE ab.1∧js ab.1 ab.2)∧ai (decide ((ab.1.ah ab.2).cx>4096)) (Q (.aO [.aj [J 0,.aa [],J 0,J 0,J 0,J 0,.aa [],J 0,.bg],J 2]) ax) (∃aI:Nat,tn=(aI:Int)∧aI<base.length∧(∃n:Int,bA Z 3 (aW base) (aI*1)=some (J n:AV)∧(∃aJ:Rm×Nat×Int,(([.ad 0 0,J fr,J n]:LV)=[.ad 0 0,J ((aJ.2.1:Nat):Int),J aJ.2.2]∧bE (ab.1.ah ab.2)=bE aJ.1∧aJ.2.1<aJ.1.aZ.length∧aJ.1.aZ.length<12000)∧ai (!decide ((eF (aJ.1.aZ.drop aJ.2.1) aJ.2.2).2=0)) (Q (.aO [.aj [J 0,.aa [],J 0,J 0,J 0,J 0,.aa [],J 0,.bg],J 2]) ax) (ai (decide (Int.ofNat (aJ.1.aw aJ.2).aZ.length>131072)) (Q (.aO [.aj [J 0,.aa [],J 0,J 0,J 0,J 0,.aa [],J 0,.bg],J 2]) ax) (Q (.aO [.aj [J id,.aa f.aH.cL,J f.aH.ar,J f.aH.aM,J k.1,J k.2.1,.aa k.2.2.1,J k.2.2.2,.ae 0 (aJ.1.aw aJ.2).aZ.length 6],J 0]) (aq [(0,fI (aJ.1.aw aJ.2))] 1)))))))) (∃w:Rm×ba,(([.ad 0 0,.aj [J 21,J 0,J 0,J 0,.aa [],J 0]]:LV)=[.ad 0 0,.aj (bP w.2)]∧bE m=bE w.1∧js w.1 w.2)∧ai (decide ((w.1.ah w.2).cx>4096)) (Q (.aO [.aj [J 0,.aa [],J 0,J 0,J 0,J 0,.aa [],J 0,.bg],J 2]) ax) (∃aI:Nat,tn=(aI:Int)∧aI<base.length∧(∃n:Int,bA Z 3 (aW base) (aI*1)=some (J n:AV)∧(∃ab:Rm×Nat×Int,(([.ad 0 0,J fr,J n]:LV)=[.ad 0 0,J ((ab.2.1:Nat):Int),J ab.2.2]∧bE (w.1.ah w.2)=bE ab.1∧ab.2.1<ab.1.aZ.length∧ab.1.aZ.length<12000)∧ai (!decide ((eF (ab.1.aZ.drop ab.2.1) ab.2.2).2=0)) (Q (.aO [.aj [J 0,.aa [],J 0,J 0,J 0,J 0,.aa [],J 0,.bg],J 2]) ax) (ai (decide (Int.ofNat (ab.1.aw ab.2).aZ.length>131072)) (Q (.aO [.aj [J 0,.aa [],J 0,J 0,J 0,J 0,.aa [],J 0,.bg],J 2]) ax) (Q (.aO [.aj [J id,.aa f.aH.cL,J f.aH.ar,J f.aH.aM,J k.1,J k.2.1,.aa k.2.2.1,J k.2.2.2,.ae 0 (ab.1.aw ab.2).aZ.length 6],J 0]) (aq [(0,fI (ab.1.aw ab.2))] 1)))))))) (ai (decide (m.cx>4096)) (Q (.aO [.aj [J 0,.aa [],J 0,J 0,J 0,J 0,.aa [],J 0,.bg],J 2]) ax) (∃aI:Nat,tn=(aI:Int)∧aI<base.length∧(∃n:Int,bA Z 3 (aW base) (aI*1)=some (J n:AV)∧(∃w:Rm×Nat×Int,(([.ad 0 0,J fr,J n]:LV)=[.ad 0 0,J ((w.2.1:Nat):Int),J w.2.2]∧bE m=bE w.1∧w.2.1<w.1.aZ.length∧w.1.aZ.length<12000)∧ai (!decide ((eF (w.1.aZ.drop w.2.1) w.2.2).2=0)) (Q (.aO [.aj [J 0,.aa [],J 0,J 0,J 0,J 0,.aa [],J 0,.bg],J 2]) ax) (ai (decide (Int.ofNat (w.1.aw w.2).aZ.length>131072)) (Q (.aO [.aj [J 0,.aa [],J 0,J 0,J 0,J 0,.aa [],J 0,.bg],J 2]) ax) (Q (.aO [.aj [J id,.aa f.aH.cL,J f.aH.ar,J f.aH.aM,J k.1,J k.2.1,.aa k.2.2.1,J k.2.2.2,.ae 0 (w.1.aw w.2).aZ.length 6],J 0]) (aq [(0,fI (w.1.aw w.2))] 1))))))))):=by kernel_rfl
theorem at9(f g:a9)(c:eu)(id:Int)(k:Int×Int×LN×Int)(base:LI)(m:Rm)(b en:Bool)(cn tn fr i:Int)(gk:Int)(nm:LN)(ar aM:Int)(cs:LV)(len:Nat)(v j:Int)(L:LT)(Q:QT):
 cT Z DC Ao L Q 1000 8 0 (OM b cn base.length tn fr en i j) (ao Z 8 2) (h8c f g c id k base m gk nm ar aM cs len v)=(
 ai (decide (j<Int.ofNat len)) (∃aI:Nat,j=(aI:Int)∧aI<len∧(∃n:Int,∃aP:Int,∃s:LN,∃cN:LV,∃cz:Nat,((cs.drop (aI*4)).take 4:LV)=[J n,J aP,.aa s,.aB cN cz 4]∧(∃w:Rm×Int×aK,(([.ad 0 0,J (wI (j+1)),.aj [J n,J aP,.aa s,.aB cN cz 4]]:LV)=[.ad 0 0,J w.2.1,.aj (dy w.2.2)]∧bE m=bE w.1∧jr w.1 (2*cD w.2.2)∧eN w.2.2)∧L (OM b cn base.length tn fr en i (wI (j+1))) (aq [(0,cj g),(1,kR),(2,nU id f.aH k),(3,c8 7 8 9 c),(4,fQ (w.1.iX w.2) 7 8 9 10 11),(5,aD base 3),(6,.ay [J gk,.aa nm,J ar,J aM,.aB cs len 4,J v] 46),(7,aD (w.1.iX w.2).c.aR 3),(8,aD (w.1.iX w.2).c.aC 2),(9,aD (w.1.iX w.2).c.aE 3),(10,fI (w.1.iX w.2)),(11,fR (w.1.iX w.2))] 12) (ao Z 8 2)))) (ai (wI (i+1)==Int.ofNat g.au.length) (ai b (∃w:Rm×ba,(([.ad 0 0,.aj [J 18,J 0,J 0,J 0,.aa [],J 0]]:LV)=[.ad 0 0,.aj (bP w.2)]∧bE m=bE w.1∧js w.1 w.2)∧(aq [] 0=ax∧True)∧(∃ab:Rm×ba,(([.ad 0 0,.aj [J 20,J 0,J 0,J aM,.aa nm,J ar]]:LV)=[.ad 0 0,.aj (bP ab.2)]∧bE (w.1.ah w.2)=bE ab.1∧js ab.1 ab.2)∧L (pU b cn base.length tn fr true (wI (i+1))) (aq [(0,cj g),(1,kR),(2,nU id f.aH k),(3,c8 6 7 8 c),(4,fQ (ab.1.ah ab.2) 6 7 8 9 10),(5,aD base 3),(6,aD (ab.1.ah ab.2).c.aR 3),(7,aD (ab.1.ah ab.2).c.aC 2),(8,aD (ab.1.ah ab.2).c.aE 3),(9,fI (ab.1.ah ab.2)),(10,fR (ab.1.ah ab.2))] 11) (ao Z 8 1))) ((aq [] 0=ax∧True)∧(∃w:Rm×ba,(([.ad 0 0,.aj [J 20,J 0,J 0,J aM,.aa nm,J ar]]:LV)=[.ad 0 0,.aj (bP w.2)]∧bE m=bE w.1∧js w.1 w.2)∧L (pU b cn base.length tn fr true (wI (i+1))) (aq [(0,cj g),(1,kR),(2,nU id f.aH k),(3,c8 6 7 8 c),(4,fQ (w.1.ah w.2) 6 7 8 9 10),(5,aD base 3),(6,aD (w.1.ah w.2).c.aR 3),(7,aD (w.1.ah w.2).c.aC 2),(8,aD (w.1.ah w.2).c.aE 3),(9,fI (w.1.ah w.2)),(10,fR (w.1.ah w.2))] 11) (ao Z 8 1)))) (∃aI:Nat,i=(aI:Int)∧aI<c.aE.length∧(∃n:Int,bA Z 3 (aW m.c.aE) (aI*1)=some (J n:AV)∧ai (decide (n<cn)) (∃bz:Nat,i=(bz:Int)∧bz<c.aE.length∧(∃aP:Int,bA Z 3 (aW m.c.aE) (bz*1)=some (J aP:AV)∧(∃w:Rm×ba,(([.ad 0 0,.aj [J 17,J 0,J 0,J aP,.aa [],J 0]]:LV)=[.ad 0 0,.aj (bP w.2)]∧bE m=bE w.1∧js w.1 w.2)∧(aq [] 0=ax∧True)∧(∃ab:Rm×ba,(([.ad 0 0,.aj [J 19,J 0,J 0,J aM,.aa nm,J ar]]:LV)=[.ad 0 0,.aj (bP ab.2)]∧bE (w.1.ah w.2)=bE ab.1∧js ab.1 ab.2)∧ai (decide ((ab.1.ah ab.2).cx>4096)) (Q (.aO [.aj [J 0,.aa [],J 0,J 0,J 0,J 0,.aa [],J 0,.bg],J 2]) ax) (∃cd:Nat,tn=(cd:Int)∧cd<base.length∧(∃bp:Int,bA Z 3 (aW base) (cd*1)=some (J bp:AV)∧(∃aJ:Rm×Nat×Int,(([.ad 0 0,J fr,J bp]:LV)=[.ad 0 0,J ((aJ.2.1:Nat):Int),J aJ.2.2]∧bE (ab.1.ah ab.2)=bE aJ.1∧aJ.2.1<aJ.1.aZ.length∧aJ.1.aZ.length<12000)∧ai (!decide ((eF (aJ.1.aZ.drop aJ.2.1) aJ.2.2).2=0)) (Q (.aO [.aj [J 0,.aa [],J 0,J 0,J 0,J 0,.aa [],J 0,.bg],J 2]) ax) (∃dt:Nat,wI (tn+1)=(dt:Int)∧dt<base.length∧(∃bI:Int,bA Z 3 (aW base) (dt*1)=some (J bI:AV)∧L (pU b aP base.length (wI (tn+1)) (Int.ofNat (aJ.1.aw aJ.2).aZ.length) en (wI (i+1))) (aq [(0,cj g),(1,kR),(2,nU id f.aH k),(3,c8 6 7 8 c),(4,.ay [.aa (aJ.1.aw aJ.2).f.aH.cL,J (aJ.1.aw aJ.2).f.aH.ar,J (aJ.1.aw aJ.2).f.aH.aM,.aB (bw (aJ.1.aw aJ.2).f.aQ) (aJ.1.aw aJ.2).f.aQ.length 4,.aB (ck (aJ.1.aw aJ.2).f.au) (aJ.1.aw aJ.2).f.au.length 6,.ae 6 (aJ.1.aw aJ.2).c.aR.length 1,.ae 7 (aJ.1.aw aJ.2).c.aC.length 1,.ae 8 (aJ.1.aw aJ.2).c.aE.length 1,.ae 9 (aJ.1.aw aJ.2).aZ.length 6,.ae 10 (aJ.1.aw aJ.2).bV.length 2,J bI,J (aJ.1.aw aJ.2).cx] 82),(5,aD base 3),(6,aD (aJ.1.aw aJ.2).c.aR 3),(7,aD (aJ.1.aw aJ.2).c.aC 2),(8,aD (aJ.1.aw aJ.2).c.aE 3),(9,fI (aJ.1.aw aJ.2)),(10,fR (aJ.1.aw aJ.2))] 11) (ao Z 8 1)))))))))) ((aq [] 0=ax∧True)∧(∃w:Rm×ba,(([.ad 0 0,.aj [J 19,J 0,J 0,J aM,.aa nm,J ar]]:LV)=[.ad 0 0,.aj (bP w.2)]∧bE m=bE w.1∧js w.1 w.2)∧ai (decide ((w.1.ah w.2).cx>4096)) (Q (.aO [.aj [J 0,.aa [],J 0,J 0,J 0,J 0,.aa [],J 0,.bg],J 2]) ax) (∃bz:Nat,tn=(bz:Int)∧bz<base.length∧(∃aP:Int,bA Z 3 (aW base) (bz*1)=some (J aP:AV)∧(∃ab:Rm×Nat×Int,(([.ad 0 0,J fr,J aP]:LV)=[.ad 0 0,J ((ab.2.1:Nat):Int),J ab.2.2]∧bE (w.1.ah w.2)=bE ab.1∧ab.2.1<ab.1.aZ.length∧ab.1.aZ.length<12000)∧ai (!decide ((eF (ab.1.aZ.drop ab.2.1) ab.2.2).2=0)) (Q (.aO [.aj [J 0,.aa [],J 0,J 0,J 0,J 0,.aa [],J 0,.bg],J 2]) ax) (∃cd:Nat,wI (tn+1)=(cd:Int)∧cd<base.length∧(∃bp:Int,bA Z 3 (aW base) (cd*1)=some (J bp:AV)∧L (pU b cn base.length (wI (tn+1)) (Int.ofNat (ab.1.aw ab.2).aZ.length) en (wI (i+1))) (aq [(0,cj g),(1,kR),(2,nU id f.aH k),(3,c8 6 7 8 c),(4,.ay [.aa (ab.1.aw ab.2).f.aH.cL,J (ab.1.aw ab.2).f.aH.ar,J (ab.1.aw ab.2).f.aH.aM,.aB (bw (ab.1.aw ab.2).f.aQ) (ab.1.aw ab.2).f.aQ.length 4,.aB (ck (ab.1.aw ab.2).f.au) (ab.1.aw ab.2).f.au.length 6,.ae 6 (ab.1.aw ab.2).c.aR.length 1,.ae 7 (ab.1.aw ab.2).c.aC.length 1,.ae 8 (ab.1.aw ab.2).c.aE.length 1,.ae 9 (ab.1.aw ab.2).aZ.length 6,.ae 10 (ab.1.aw ab.2).bV.length 2,J bp,J (ab.1.aw ab.2).cx] 82),(5,aD base 3),(6,aD (ab.1.aw ab.2).c.aR 3),(7,aD (ab.1.aw ab.2).c.aC 2),(8,aD (ab.1.aw ab.2).c.aE 3),(9,fI (ab.1.aw ab.2)),(10,fR (ab.1.aw ab.2))] 11) (ao Z 8 1)))))))))))):=by kernel_rfl
theorem RG.put(m:Rm)(w:Int×aK):RG (2*cD w.2) m (m.iX w):=by
 have hp:=kJ w.2;unfold Rm.iX;split
 ·exact(RG.ah m _).le (by omega)
 ·split
  ·exact(RG.ah m _).le (by omega)
  ·split
   ·exact(RG.Pc m _ _).le (by omega)
   ·split
    ·exact(RG.ah m _).le (by omega)
    ·split
     ·exact(RG.ah m _).le (by omega)
     ·exact(SJ m _ _).le (by omega)
theorem RG.dR(m:Rm)(w:Int×Int):RG 2 m (m.dR w):=by
 unfold Rm.dR;split
 ·exact((RG.bo m).sG ((RG.ah _ _).sG (RG.ah _ _))).le (by omega)
 ·exact(SJ m _ _).le (by omega)
theorem RG.cut(m:Rm)(v:Int):RG 1 m (m.pV v):=by
 unfold Rm.pV;split
 ·exact .ah m _
 ·exact(RG.xO m).le (by omega)
theorem RG.g_:∀(l:bG) (j:Nat) (m:Rm),RG (2*bh l) m (m.g_ j l)
 |[],_,m=>(RG.xO m).le (by omega)
 |t::l,j,m=>by have h:=(RG.put m (((j+1:Nat):Int),t)).sG (RG.g_ l (j+1) (m.iX (((j+1:Nat):Int),t)));simp only[Rm.g_,bh];exact h.le (by simp only;omega)
def nd:c7->Nat
 |[]=>3
 |g::l=>2*bh g.cP+3+nd l
theorem adU:∀l:c7,nd l<=3+2*eg l+3*l.length
 |[]=>by simp[nd]
 |g::l=>by have:=adU l;simp only[nd,eg,bR];omega
def Gu(e:Int):AV:=.aO [.aj [J 0,.aa [],J 0,J 0,J 0,J 0,.aa [],J 0,.bg],J e]
def O8(f:a9)(id:Int)(k:Int×Int×LN×Int)(code:bS):AV:=.aO [.aj [J id,.aa f.aH.cL,J f.aH.ar,J f.aH.aM,J k.1,J k.2.1,.aa k.2.2.1,J k.2.2.2,.ae 0 code.length 6],J 0]
theorem abb{X:mz×Int}{e:Int}(h:X=(oO,e))(he:e≠0):iI (jo X) (jn X) (Gu e) ax:=by rw[h,jo,jn,az he,az he];exact⟨rfl,rfl⟩
theorem okX{X:mz×Int}{f:a9}{id:Int}{k:Int×Int×LN×Int}{code:bS}(h:X=(⟨id,f.aH,k,code⟩,0)):iI (jo X) (jn X) (O8 f id k code) (aq [(0,.aL (bZ code) 50)] 1):=by rw[h,jo,jn,aN rfl,aN rfl];exact⟨rfl,rfl⟩
section
variable{f:a9}{id:Int}{k:Int×Int×LN×Int}{base:LI}{X:mz×Int}{b:Bool}
def Pf(X:mz×Int)(f g:a9)(c:eu)(id:Int)(k:Int×Int×LN×Int)(base:LI)(b:Bool)(s:RS)(i:Nat):Prop:=bF Z 8 270 0 (jo X) (jn X) (pU b s.cn base.length (s.tn:Int) (s.fr:Int) s.en (i:Int)) (Ex f g c id k base s.m) (ao Z 8 1)
def Qa(X:mz×Int)(base:LI)(M:Rm)(fr tn:Nat)(K:Rm×Nat×Int->Prop):Prop:=
 ai (decide (M.cx>4096)) (iI (jo X) (jn X) (Gu 2) ax)
  (∃aI:Nat,((tn:Int)=(aI:Int))∧(aI<base.length)∧∃n:Int,(bA Z 3 (aW base) (aI*1)=some (J n:AV))∧
    ∃w:Rm×Nat×Int,((([.ad 0 0,J (fr:Int),J n]:LV)=[.ad 0 0,J (w.2.1:Int),J w.2.2])∧(bE M=bE w.1)∧(w.2.1<w.1.aZ.length)∧w.1.aZ.length<12000)∧
    ai (!(decide ((eF (w.1.aZ.drop w.2.1) w.2.2).2=0))) (iI (jo X) (jn X) (Gu 2) ax) (K w))
theorem SF{M:Rm}{fr tn:Nat}(K:Rm×Nat×Int->Prop)(gZ:fr<M.aZ.length)(hM:M.aZ.length<12000)(mh:tn<base.length)
 (iH:¬pR M fr (base.getD tn 0)->X=(oO,2)) (hK:pR M fr (base.getD tn 0)->K (M,fr,base.getD tn 0)):Qa X base M fr tn K:=by
 unfold Qa;refine cv (fun h=>?_) (fun h=>?_)
 ·exact abb (iH fun hh=>hh.1 (dW h)) (by decide)
 ·have h:=eJ h;refine⟨tn,rfl,mh,base.getD tn 0,ia mh,(M,fr,base.getD tn 0),⟨rfl,rfl,gZ,hM⟩,cv (fun h2=>?_) (fun h2=>?_)⟩
  ·refine abb (iH fun hh=>?_) (by decide);have h2:(!decide ((eF (M.aZ.drop fr) (base.getD tn 0)).2=0))=true:=h2;rw[decide_eq_true hh.2]at h2;cases h2
  ·have h2:(!decide ((eF (M.aZ.drop fr) (base.getD tn 0)).2=0))=false:=h2;exact hK ⟨h,by simpa using h2⟩
theorem abk{M:Rm}{fr:Nat}{bs:Int}(h:fr<=M.aZ.length):(M.aw (fr,bs)).aZ.length=M.aZ.length:=by
 unfold Rm.aw;split
 ·rename_i h0;have:=KE h0;simp only[bj,this,List.length_take,List.length_drop];omega
 ·rfl
theorem aua{s:RS}{i:Nat}{gk:Int}{nm:LN}{ar aM v:Int}{ls:bG}{g:a9}{c:eu}(jF:vY g)(hi:i<g.au.length)(qV:g.au.length<20000)(p_:base.length<60000)(nh:c.aE.length=g.au.length)(qb:c.aC.length<60000)(hls:eQ ls.length)(Mr:iS ls)
 (hc:s.m.aZ.length+2*bh ls+3<12000) (gM:s.m.bV.length+2*bh ls+3<12000) (hsf:s.m.f=g) (hsc:s.m.c=c) (gZ:s.fr<=s.m.aZ.length) (mh:decide (i+1=g.au.length)=false->s.tn+1<base.length) (ui:s.tn<base.length)
 (iH:pH b base (c.aE.getD i 0) (decide (i+1=g.au.length)) s ⟨gk,⟨nm,ar,aM⟩,ls,v⟩=none->X=(oO,2))
 (nx:∀s',pH b base (c.aE.getD i 0) (decide (i+1=g.au.length)) s ⟨gk,⟨nm,ar,aM⟩,ls,v⟩=some s'->Pf X f g c id k base b s' (i+1)):
 ∀p:Nat×Rm,(p.1<=ls.length∧p.2.f=g∧p.2.c=c∧p.2.aZ.length+2*bh (ls.drop p.1)+3<12000∧p.2.bV.length+2*bh (ls.drop p.1)+3<12000∧s.m.aZ.length<=p.2.aZ.length∧p.2.g_ p.1 (ls.drop p.1)=s.m.g_ 0 ls)->
 bF Z 8 270 0 (jo X) (jn X) (OM b s.cn base.length (s.tn:Int) (s.fr:Int) s.en (i:Int) (p.1:Int)) (h8c f g c id k base p.2 gk nm ar aM (bw ls) ls.length v) (ao Z 8 2):=by
 refine cX (fun p=>ls.length-p.1) _ _ _ _ ?_;rintro⟨j,m⟩ ⟨hj,pL,ta,jC,kD,de,qX⟩ ih;simp only at hj pL ta jC kD de qX ih⊢;refine hD GH 1000 Ao (by kernel_rfl) ?_;rw[at9];subst pL ta;refine cv (fun h=>?_) (fun h=>?_)
 ·have an:j<ls.length:=by have:=dW h;simpa using this
  obtain⟨k',n,nn,l,he,bU,bq⟩:=oj an Mr;rw[dv an,he,bh]at jC kD;rw[dv an,he,Rm.g_]at qX;have hg:=RG.put m (((j+1:Nat):Int),.mk k' n nn l);simp only at hg;have h1:=hg.hi;have h2:=hg.set;have h3:=hg.lo;have:=ih (j+1,m.iX (((j+1:Nat):Int),.mk k' n nn l)) ⟨by simp only;omega,hg.f,hg.c,by simp only;omega,by simp only;omega,by simp only;omega,qX⟩ (by simp only;omega);rw[iA hls an];exact⟨j,rfl,an,k',n,nn,_,_,bU,(m,((j+1:Nat):Int),.mk k' n nn l),⟨rfl,rfl,⟨by simp only;omega,by simp only;omega,qb,jF⟩,bq⟩,this⟩
 ·have a8:ls.length<=j:=by have:=eJ h;simp at this;omega
  rw[dV a8]at qX jC kD;simp only[Rm.g_,bh,Nat.mul_zero,Nat.add_zero]at qX jC kD;have hw:wI ((i:Int)+1)=((i+1:Nat):Int):=fE (iz _) (by omega);have n5:wI ((s.tn:Int)+1)=((s.tn+1:Nat):Int):=fE (iz _) (by omega);rw[hw,n5];refine cv (fun hl=>?_) (fun hl=>?_)
  ·have hl:i+1=m.f.au.length:=by
    have hl:((i+1:Nat):Int)=Int.ofNat m.f.au.length:=by simpa using hl
    simp only[fX]at hl;omega
   have hd:decide (i+1=m.f.au.length)=true:=by simp[hl]
   rw[hd]at nx;refine cv (fun hb=>?_) (fun hb=>?_)
   ·have hb:b=true:=hb;have:=nx _ (by rw[pH,aN rfl,aN hb,←qX]);exact⟨(m,⟨18,0,0,0,[],0⟩),⟨rfl,rfl,by show m.aZ.length<65536;omega⟩,⟨rfl,trivial⟩,(m.ah ⟨18,0,0,0,[],0⟩,dX 20 ⟨nm,ar,aM⟩),⟨rfl,rfl,by show(m.aZ++[_]).length<65536;simp only[bj,bR,cI];omega⟩,this⟩
   ·have hb:b=false:=hb;have:=nx _ (by rw[pH,aN rfl,az (by rw[hb];simp),←qX]);exact⟨⟨rfl,trivial⟩,(m,dX 20 ⟨nm,ar,aM⟩),⟨rfl,rfl,by show m.aZ.length<65536;omega⟩,this⟩
  ·have hl:i+1≠m.f.au.length:=by
    have hl:((i+1:Nat):Int)≠Int.ofNat m.f.au.length:=by simpa using hl
    simp only[fX]at hl;omega
   have hd:decide (i+1=m.f.au.length)=false:=by simp[hl]
   have mh:=mh hd;rw[hd]at nx iH;have km:i<m.c.aE.length:=by omega
   refine⟨i,rfl,km,m.c.aE.getD i 0,ia km,cv (fun hn=>?_) (fun hn=>?_)⟩
   ·have hn:=dW hn;have eM:nW s (m.c.aE.getD i 0) ⟨gk,⟨nm,ar,aM⟩,ls,v⟩=(m.ah ⟨17,0,0,m.c.aE.getD i 0,[],0⟩).ah (dX 19 ⟨nm,ar,aM⟩):=by rw[nW,aN hn,←qX]
    have eL:(nW s (m.c.aE.getD i 0) ⟨gk,⟨nm,ar,aM⟩,ls,v⟩).aZ.length=m.aZ.length+2:=by rw[eM];simp[Rm.ah]
    refine⟨i,rfl,km,m.c.aE.getD i 0,ia km,(m,⟨17,0,0,m.c.aE.getD i 0,[],0⟩),⟨rfl,rfl,by show m.aZ.length<65536;omega⟩,⟨rfl,trivial⟩,(m.ah ⟨17,0,0,m.c.aE.getD i 0,[],0⟩,dX 19 ⟨nm,ar,aM⟩),⟨rfl,rfl,by show(m.aZ++[_]).length<65536;simp only[bj,bR,cI];omega⟩,?_⟩;have aw:=SF (X:=X) (base:=base) (M:=(m.ah ⟨17,0,0,m.c.aE.getD i 0,[],0⟩).ah (dX 19 ⟨nm,ar,aM⟩)) (fr:=s.fr) (tn:=s.tn) (fun w=>∃dt:Nat,(((s.tn+1:Nat):Int)=(dt:Int))∧(dt<base.length)∧∃bI:Int,(bA Z 3 (aW base) (dt*1)=some (J bI:AV))∧
     bF Z 8 270 0 (jo X) (jn X) (pU b (m.c.aE.getD i 0) base.length ((s.tn+1:Nat):Int) (Int.ofNat (Rm.aw w.1 w.2).aZ.length) s.en ((i+1:Nat):Int)) (Ex f m.f m.c id k base ((Rm.aw w.1 w.2).kp bI)) (ao Z 8 1))
     (by rw[←eM,eL];omega) (by rw[←eM,eL];omega) ui (fun hh=>iH (by rw[pH,az (by simp),az (by rw[eM];exact hh)])) (fun hh=>?_)
    ·exact aw
    ·have:=nx _ (by rw[pH,az (by simp),aN (by rw[eM];exact hh)]);rw[eM,aN hn]at this;exact⟨s.tn+1,rfl,mh,base.getD (s.tn+1) 0,ia mh,this⟩
   ·have hn:=eJ hn;have eM:nW s (m.c.aE.getD i 0) ⟨gk,⟨nm,ar,aM⟩,ls,v⟩=m.ah (dX 19 ⟨nm,ar,aM⟩):=by rw[nW,az hn,←qX]
    have eL:(nW s (m.c.aE.getD i 0) ⟨gk,⟨nm,ar,aM⟩,ls,v⟩).aZ.length=m.aZ.length+1:=by rw[eM];simp[Rm.ah]
    refine⟨⟨rfl,trivial⟩,(m,dX 19 ⟨nm,ar,aM⟩),⟨rfl,rfl,by show m.aZ.length<65536;omega⟩,?_⟩;have aw:=SF (X:=X) (base:=base) (M:=m.ah (dX 19 ⟨nm,ar,aM⟩)) (fr:=s.fr) (tn:=s.tn) (fun w=>∃dt:Nat,(((s.tn+1:Nat):Int)=(dt:Int))∧(dt<base.length)∧∃bI:Int,(bA Z 3 (aW base) (dt*1)=some (J bI:AV))∧
     bF Z 8 270 0 (jo X) (jn X) (pU b s.cn base.length ((s.tn+1:Nat):Int) (Int.ofNat (Rm.aw w.1 w.2).aZ.length) s.en ((i+1:Nat):Int)) (Ex f m.f m.c id k base ((Rm.aw w.1 w.2).kp bI)) (ao Z 8 1))
     (by rw[←eM,eL];omega) (by rw[←eM,eL];omega) ui (fun hh=>iH (by rw[pH,az (by simp),az (by rw[eM];exact hh)])) (fun hh=>?_)
    ·exact aw
    ·have:=nx _ (by rw[pH,az (by simp),aN (by rw[eM];exact hh)]);rw[eM,az hn]at this;exact⟨s.tn+1,rfl,mh,base.getD (s.tn+1) 0,ia mh,this⟩
theorem abQ{aE:LI}{i:Nat}{s:RS}{x:iP}{l:c7}:wV b base aE i s (x::l)=match sy b base (aE.getD i 0) l.isEmpty s x with|none=>none|some s'=>wV b base aE (i+1) s' l:=by simp only[wV,S0];cases sy b base (aE.getD i 0) l.isEmpty s x<;>rfl
theorem Sm{qF:Option bS}{M:Rm}{fr tn:Nat}(hN:qF=none->X=(oO,2))(hS:∀code,qF=some code->X=(⟨id,f.aH,k,code⟩,0))(gZ:fr<M.aZ.length)(hM:M.aZ.length<12000)(mh:tn<base.length)
 (hF:(if pR M fr (base.getD tn 0)then some (M.aw (fr,base.getD tn 0)).aZ else none)=qF):
 Qa X base M fr tn (fun w=>ai (decide (Int.ofNat (Rm.aw w.1 w.2).aZ.length>131072)) (iI (jo X) (jn X) (Gu 2) ax) (iI (jo X) (jn X) (O8 f id k (Rm.aw w.1 w.2).aZ) (aq [(0,.aL (bZ (Rm.aw w.1 w.2).aZ) 50)] 1))):=
 SF (X:=X) (base:=base) (M:=M) (fr:=fr) (tn:=tn) (fun w=>ai (decide (Int.ofNat (Rm.aw w.1 w.2).aZ.length>131072)) (iI (jo X) (jn X) (Gu 2) ax) (iI (jo X) (jn X) (O8 f id k (Rm.aw w.1 w.2).aZ) (aq [(0,.aL (bZ (Rm.aw w.1 w.2).aZ) 50)] 1)))
  gZ hM mh (fun hh=>hN (by rw[←hF,az hh])) (fun hh=>cv (fun h=>by have h:=dW h;simp only[abk (Nat.le_of_lt gZ),fX]at h;omega) (fun _=>okX (hS _ (by rw[←hF,aN hh]))))
theorem U5:∀(l:c7) (b:Bool) (left:Int),lC b left l=true->∀g∈l,g.cQ=1∨g.cQ=2∨g.cQ=3∨g.cQ=4∨g.cQ=5
 |[],_,_,_,g,hg=>by cases hg
 |x::l,b,left,h,g,hg=>by
  simp only[lC,cy]at h;rcases List.mem_cons.1 hg with rfl|hg
  ·have:=h.1.1;unfold p8 at this;by_cases h1:g.cQ=1
   ·exact .inl h1
   ·by_cases h2:g.cQ=2
    ·exact .inr (.inl h2)
    ·by_cases h3:g.cQ=3∨g.cQ=4
     ·rcases h3 with h3|h3
      ·exact .inr (.inr (.inl h3))
      ·exact .inr (.inr (.inr (.inl h3)))
     ·by_cases h5:g.cQ=5
      ·exact .inr (.inr (.inr (.inr h5)))
      ·rw[az h1,az h2,az h3,az h5]at this;cases this
  ·exact U5 l _ _ h.2 g hg
theorem XK{f:a9}(h:ei f=true):lC false (131072-bh f.aQ) f.au=true:=by simp only[ei,cy]at h;exact h.2
theorem at8{g:a9}{c:eu}{qF:Option bS}(jF:vY g)(qV:g.au.length<20000)(p_:base.length<60000)(nh:c.aE.length=g.au.length)(qb:c.aC.length<60000)(hN:qF=none->X=(oO,2))(hS:∀code,qF=some code->X=(⟨id,f.aH,k,code⟩,0)):
 ∀p:Nat×RS,(p.1<=g.au.length∧p.2.m.f=g∧p.2.m.c=c∧p.2.m.aZ.length+nd (g.au.drop p.1)<12000∧p.2.m.bV.length+nd (g.au.drop p.1)<12000∧p.2.fr<=p.2.m.aZ.length∧(p.2.en=true->p.2.fr<p.2.m.aZ.length∧g.au.drop p.1=[])∧p.2.tn+fe (g.au.drop p.1)<base.length+(if p.2.en=true then 1 else 0)∧p.2.tn<base.length∧fc (g.au.drop p.1)=g.au.drop p.1∧wV b base c.aE p.1 p.2 (g.au.drop p.1)=qF)->
 bF Z 8 270 0 (jo X) (jn X) (pU b p.2.cn base.length (p.2.tn:Int) (p.2.fr:Int) p.2.en (p.1:Int)) (Ex f g c id k base p.2.m) (ao Z 8 1):=by
 refine cX (fun p=>g.au.length-p.1) _ _ _ _ ?_;rintro⟨i,⟨m,cn,tn,fr,en⟩⟩ ⟨hi,pL,ta,jC,kD,gZ,yn,mh,ui,nc,eD⟩ ih;simp only at hi pL ta jC kD gZ yn mh ui nc eD ih⊢;have aci:vY m.f:=by rw[pL];exact jF
 have acA:m.c.aC.length<60000:=by rw[ta];exact qb
 refine hD GH 1000 Ao (by kernel_rfl) ?_;rw[at7];refine cv (fun h=>?_) (fun h=>?_)
 ·have an:i<g.au.length:=by have:=dW h;simpa using this
  obtain⟨gk,nm,ar,aM,ls,v,he,bU,bq⟩:=o5 an jF.1.2.2.2.2;have vD:=U5 _ _ _ (XK jF.2.1) g.au[i] (xC an);rw[he]at vD;have vD:gk=1∨gk=2∨gk=3∨gk=4∨gk=5:=vD;have hw:wI ((i:Int)+1)=((i+1:Nat):Int):=fE (iz _) (by omega);rw[dv an,he]at jC kD yn mh nc eD;have alv:en=false:=by
   cases en
   ·rfl
   ·have:=(yn rfl).2;cases this
  subst alv;rw[abQ]at eD;simp only[nd,fe]at jC kD mh;have alk:gk=5->g.au.drop (i+1)=[]:=by intro h5;simp only[fc,h5,if_true]at nc;exact(List.cons.inj nc).2.symm
  have L3:gk≠5->fc (g.au.drop (i+1))=g.au.drop (i+1):=by intro h5;simp only[fc,h5,if_false]at nc;exact(List.cons.inj nc).2
  rw[hw];refine⟨i,rfl,an,gk,nm,ar,aM,_,_,v,bU,cv (fun h2=>?_) (fun h2=>cv (fun h3=>?_) (fun h3=>cv (fun h4=>?_) (fun h4=>cv (fun h5=>?_) (fun h5=>?_))))⟩
  ·have h2:gk=2:=by simpa using h2
   subst h2;have hg:=RG.dR m (22,v);have g1:=hg.lo;have g2:=hg.hi;have g3:=hg.set;have:=ih (i+1,⟨m.dR (22,v),cn,tn,fr,false⟩) ⟨by simp only;omega,hg.f.trans pL,hg.c.trans ta,by simp only;omega,by simp only;omega,by simp only;omega,(fun hh=>by cases hh),by simpa using mh,ui,L3 (by decide),eD⟩ (by simp only;omega);exact⟨(m,22,v),⟨rfl,rfl,by simp only;omega,by simp only;omega,acA,aci⟩,this⟩
  ·have h3:gk=3:=by simpa using h3
   subst h3;have hg:=RG.dR m (23,v);have g1:=hg.lo;have g2:=hg.hi;have g3:=hg.set;have:=ih (i+1,⟨m.dR (23,v),cn,tn,fr,false⟩) ⟨by simp only;omega,hg.f.trans pL,hg.c.trans ta,by simp only;omega,by simp only;omega,by simp only;omega,(fun hh=>by cases hh),by simpa using mh,ui,L3 (by decide),eD⟩ (by simp only;omega);exact⟨(m,23,v),⟨rfl,rfl,by simp only;omega,by simp only;omega,acA,aci⟩,this⟩
  ·have h4:gk=4:=by simpa using h4
   subst h4;have hg:=RG.cut m v;have g1:=hg.lo;have g2:=hg.hi;have g3:=hg.set;have nx:=ih (i+1,⟨m.pV v,cn,tn,fr,false⟩) ⟨by simp only;omega,hg.f.trans pL,hg.c.trans ta,by simp only;omega,by simp only;omega,by simp only;omega,(fun hh=>by cases hh),by simpa using mh,ui,L3 (by decide),eD⟩ (by simp only;omega);refine⟨(m,v),⟨rfl,rfl,by simp only;omega⟩,cv (fun ho=>?_) (fun ho=>?_)⟩
   ·have ho:(cu v m.bV).isSome=true:=ho;cases BX:cu v m.bV with
    |none=>rw[BX]at ho;cases ho
    |some r=>
     have e:m.pV v=m.ah ⟨24,r,0,0,[],0⟩:=by rw[Rm.pV,BX]
     rw[e]at nx;exact⟨(m,⟨24,r,0,0,[],0⟩),⟨rfl,rfl,by show m.aZ.length<65536;omega⟩,nx⟩
   ·have ho:(cu v m.bV).isSome=false:=ho;cases BX:cu v m.bV with
    |some r=>rw[BX]at ho;cases ho
    |none=>
     have e:m.pV v=m:=by rw[Rm.pV,BX]
     rw[e]at nx;exact nx
  ·have h5:gk=5:=by simpa using h5
   subst h5;have hd:=alk rfl;have nx:=ih (i+1,⟨m.ah ⟨25,0,0,0,[],0⟩,cn,tn,fr,true⟩) ⟨by simp only;omega,pL,ta,by simp only[Rm.ah,bj,bR,cI];omega,by simp only[Rm.ah];omega,by simp only[Rm.ah,bj,bR,cI];omega,fun _=>⟨by simp only[Rm.ah,bj,bR,cI];omega,hd⟩,by simp only[if_true];simp at mh;omega,ui,by simp only[hd,fc],eD⟩ (by simp only;omega);exact⟨(m,⟨25,0,0,0,[],0⟩),⟨rfl,rfl,by show m.aZ.length<65536;omega⟩,nx⟩
  ·have h2:gk≠2:=by simpa using h2
   have h3:gk≠3:=by simpa using h3
   have h4:gk≠4:=by simpa using h4
   have h5:gk≠5:=by simpa using h5
   have h1:gk=1:=by omega
   subst h1;have vF:(g.au.drop (i+1)).isEmpty=decide (i+1=g.au.length):=by
    by_cases hh:i+1=g.au.length
    ·rw[dV (by omega)];simp[hh]
    ·rw[decide_eq_false hh,dv (show i+1<g.au.length by omega)];rfl
   simp only[if_true]at mh;have est:sy b base (c.aE.getD i 0) (g.au.drop (i+1)).isEmpty ⟨m,cn,tn,fr,false⟩ ⟨1,⟨nm,ar,aM⟩,ls,v⟩=pH b base (c.aE.getD i 0) (decide (i+1=g.au.length)) ⟨m,cn,tn,fr,false⟩ ⟨1,⟨nm,ar,aM⟩,ls,v⟩:=by rw[vF];rfl
   rw[est]at eD;have hP:=RG.g_ ls 0 m;have p1:=hP.lo;have p2:=hP.hi;have p3:=hP.set;refine aua (X:=X) (f:=f) (id:=id) (k:=k) (base:=base) (b:=b) (s:=⟨m,cn,tn,fr,false⟩) (i:=i) (gk:=1) (g:=g) (c:=c) jF an qV p_ nh qb bq.2.1 bq.2.2 (by simp only;omega) (by simp only;omega) pL ta gZ (fun _=>by simp only;simp at mh;omega) (by simp only;omega) (fun hh=>?_) (fun s' hs=>?_) (0,m) ⟨Nat.zero_le _,pL,ta,by simp only[hI];omega,by simp only[hI];omega,eh _,rfl⟩
   ·rw[hh]at eD;exact hN eD.symm
   ·rw[hs]at eD;have eD:wV b base c.aE (i+1) s' (g.au.drop (i+1))=qF:=eD;by_cases hl:i+1=g.au.length
    ·have hd:g.au.drop (i+1)=[]:=dV (by omega);rw[pH,aN (by simp[hl])]at hs;have hs:=dk hs;have key:∀M:Rm,M.f=m.f->M.c=m.c->m.aZ.length<=M.aZ.length->M.aZ.length<=m.aZ.length+2*bh ls+1->M.bV.length<=m.bV.length+2*bh ls->s'=⟨M.ah (dX 20 ⟨nm,ar,aM⟩),cn,tn,fr,true⟩->Pf X f g c id k base b s' (i+1):=by intro M q1 q2 q3 q4 q5 q6;subst q6;exact ih (i+1,⟨M.ah (dX 20 ⟨nm,ar,aM⟩),cn,tn,fr,true⟩) ⟨by simp only;omega,q1.trans pL,q2.trans ta,by simp only[Rm.ah,bj,bR,cI];omega,by simp only[Rm.ah];omega,by simp only[Rm.ah,bj,bR,cI];omega,fun _=>⟨by simp only[Rm.ah,bj,bR,cI];omega,hd⟩,by simp only[if_true];simp at mh;omega,ui,by simp only[hd,fc],eD⟩ (by simp only;omega)
     by_cases hb:b=true
     ·rw[aN hb]at hs;exact key ((m.g_ 0 ls).ah ⟨18,0,0,0,[],0⟩) hP.f hP.c (by simp only[Rm.ah,bj,bR,cI];omega) (by simp only[Rm.ah,bj,bR,cI];omega) (by simp only[Rm.ah];omega) hs.symm
     ·rw[az hb]at hs;exact key (m.g_ 0 ls) hP.f hP.c p1 (by omega) p3 hs.symm
    ·rw[pH,az (by simp[hl])]at hs;split at hs
     ·rename_i zV;have hs:=dk hs;have key:∀(M:Rm) (tW:Int),M.f=m.f->M.c=m.c->m.aZ.length<=M.aZ.length->M.aZ.length<=m.aZ.length+2*bh ls+2->M.bV.length<=m.bV.length+2*bh ls->s'=⟨(M.aw (fr,base.getD tn 0)).kp (base.getD (tn+1) 0),tW,tn+1,(M.aw (fr,base.getD tn 0)).aZ.length,false⟩->Pf X f g c id k base b s' (i+1):=by
       intro M tW q1 q2 q3 q4 q5 q6;subst q6;have e1:(M.aw (fr,base.getD tn 0)).f=M.f:=by unfold Rm.aw;split<;>rfl
       have e2:(M.aw (fr,base.getD tn 0)).c=M.c:=by unfold Rm.aw;split<;>rfl
       have e3:(M.aw (fr,base.getD tn 0)).bV=M.bV:=by unfold Rm.aw;split<;>rfl
       have e4:(M.aw (fr,base.getD tn 0)).aZ.length=M.aZ.length:=abk (by omega);exact ih (i+1,⟨(M.aw (fr,base.getD tn 0)).kp (base.getD (tn+1) 0),tW,tn+1,(M.aw (fr,base.getD tn 0)).aZ.length,false⟩) ⟨by simp only;omega,(e1.trans q1).trans pL,(e2.trans q2).trans ta,by simp only[Rm.kp,e4];omega,by simp only[Rm.kp,e3];omega,by simp only[Rm.kp];omega,(fun hh=>by cases hh),by simp at mh⊢;omega,by simp at mh⊢;omega,L3 (by decide),eD⟩ (by simp only;omega)
      by_cases hn:c.aE.getD i 0<cn
      ·have eM:nW ⟨m,cn,tn,fr,false⟩ (c.aE.getD i 0) ⟨1,⟨nm,ar,aM⟩,ls,v⟩=((m.g_ 0 ls).ah ⟨17,0,0,c.aE.getD i 0,[],0⟩).ah (dX 19 ⟨nm,ar,aM⟩):=by rw[nW,aN hn]
       rw[eM]at hs;exact key (((m.g_ 0 ls).ah ⟨17,0,0,c.aE.getD i 0,[],0⟩).ah (dX 19 ⟨nm,ar,aM⟩)) _ hP.f hP.c (by simp only[Rm.ah,bj,bR,cI];omega) (by simp only[Rm.ah,bj,bR,cI];omega) (by simp only[Rm.ah];omega) hs.symm
      ·have eM:nW ⟨m,cn,tn,fr,false⟩ (c.aE.getD i 0) ⟨1,⟨nm,ar,aM⟩,ls,v⟩=(m.g_ 0 ls).ah (dX 19 ⟨nm,ar,aM⟩):=by rw[nW,az hn]
       rw[eM]at hs;exact key ((m.g_ 0 ls).ah (dX 19 ⟨nm,ar,aM⟩)) _ hP.f hP.c (by simp only[Rm.ah,bj,bR,cI];omega) (by simp only[Rm.ah,bj,bR,cI];omega) (by simp only[Rm.ah];omega) hs.symm
     ·cases hs
 ·have a8:g.au.length<=i:=by have:=eJ h;simp at this;omega
  rw[dV a8]at jC kD eD;simp only[nd]at jC kD;have eD:(if pR (m.tH en b) fr (base.getD tn 0)then some ((m.tH en b).aw (fr,base.getD tn 0)).aZ else none)=qF:=eD;refine cv (fun he=>?_) (fun he=>?_)
  ·have he:en=false:=by simpa using he
   subst he;refine cv (fun hb=>?_) (fun hb=>?_)
   ·have hb:b=true:=hb;have eL:m.tH false b=(m.ah ⟨18,0,0,0,[],0⟩).ah ⟨21,0,0,0,[],0⟩:=by rw[Rm.tH,az (by simp),aN hb]
    rw[eL]at eD;have:=Sm hN hS (by simp only[Rm.ah,bj,bR,cI];omega) (by simp only[Rm.ah,bj,bR,cI];omega) ui eD;exact⟨(m,⟨18,0,0,0,[],0⟩),⟨rfl,rfl,by show m.aZ.length<65536;omega⟩,(m.ah ⟨18,0,0,0,[],0⟩,⟨21,0,0,0,[],0⟩),⟨rfl,rfl,by show(m.aZ++[_]).length<65536;simp only[bj,bR,cI];omega⟩,this⟩
   ·have hb:b=false:=hb;have eL:m.tH false b=m.ah ⟨21,0,0,0,[],0⟩:=by rw[Rm.tH,az (by simp),az (by rw[hb];simp)]
    rw[eL]at eD;have:=Sm hN hS (by simp only[Rm.ah,bj,bR,cI];omega) (by simp only[Rm.ah,bj,bR,cI];omega) ui eD;exact⟨(m,⟨21,0,0,0,[],0⟩),⟨rfl,rfl,by show m.aZ.length<65536;omega⟩,this⟩
  ·have he:en=true:=by simpa using he
   subst he;have eL:m.tH true b=m:=by rw[Rm.tH,aN rfl]
   rw[eL]at eD;exact Sm hN hS (yn rfl).1 (by omega) ui eD
theorem RG.dJ:∀(l:bG) (j:Nat) (m:Rm),RG (2*bh l) m (m.dJ j l)
 |[],_,m=>(RG.xO m).le (by omega)
 |t::l,j,m=>by have h:=(RG.hd m ((j+1:Nat):Int) t).sG (RG.dJ l (j+1) (m.hd ((j+1:Nat):Int) t));simp only[Rm.dJ,bh];exact h.le (by omega)
theorem RQ:∀l:c7,fc (fc l)=fc l
 |[]=>rfl
 |g::l=>by
  by_cases h:g.cQ=5
  ·simp[fc,h]
  ·simp only[fc,h,if_false,RQ l]
theorem at6{g:a9}{B:Bool}{qF:Option bS}(jF:vY g)(cW:bh g.aQ+eg g.au<3600)(qV:g.au.length<=500)(qb:(gb g).aC.length<60000)(nh:(gb g).aE.length=g.au.length)(nc:fc g.au=g.au)(hB:Ef g=B)
 (hN:qF=none->X=(oO,2)) (hS:∀code,qF=some code->X=(⟨id,f.aH,k,code⟩,0)) (hF:wH g=qF):
 ∀p:Nat×Bool,(p.1<=g.au.length∧wR p.2 (g.au.drop p.1)=B)->
 bF Z 8 270 0 (jo X) (jn X) (CV p.2 (p.1:Int)) (Tc f g id k (gb g)) (ao Z 8 0):=by
 have p_:(dg g).length=1+fe g.au:=by rw[dg,GU];simp
 have BZ:=No g.au;have mG:=ia (l:=dg g) (i:=0) (by omega);rw[Nat.zero_mul]at mG;have mb:=adU g.au;refine cX (fun p=>g.au.length-p.1) _ _ _ _ ?_;rintro⟨i,bb⟩ ⟨hi,he⟩ ih;simp only at hi he ih⊢;have hw:wI ((i:Int)+1)=((i+1:Nat):Int):=fE (iz _) (by omega);refine hD GH 1000 Ao (by kernel_rfl) ?_;rw[at5,hw];refine cv (fun h=>?_) (fun h=>?_)
 ·have h:=dW h;have Mk:i+1<g.au.length:=by simp only[fX]at h;omega
  have an:i<g.au.length:=by omega
  obtain⟨gk,nm,ar,aM,ls,v,hg,bU,bq⟩:=o5 an jF.1.2.2.2.2;have e1:wR bb (g.au.drop i)=wR (bb||gk==1) (g.au.drop (i+1)):=by rw[dv an,dv Mk,wR,hg]
  rw[e1]at he;refine cv (fun hb=>?_) (fun hb=>?_)
  ·have hb:bb=true:=hb;subst hb;exact ih (i+1,true) ⟨by simp only;omega,he⟩ (by simp only;omega)
  ·have hb:bb=false:=hb;subst hb;exact⟨i,rfl,an,gk,nm,ar,aM,_,_,v,bU,ih (i+1,gk==1) ⟨by simp only;omega,he⟩ (by simp only;omega)⟩
 ·have h:=eJ h;have a8:g.au.length<=i+1:=by simp only[fX]at h;omega
  have kh:bb=B:=by
   cases hd:g.au.drop i with
   |nil=>rw[hd]at he;exact he
   |cons x l=>
    have:l=[]:=by
     have hl:(g.au.drop i).length<=1:=by simp;omega
     rw[hd]at hl;simp only[bR]at hl;exact List.eq_nil_of_length_eq_zero (by omega)
    subst this;rw[hd]at he;exact he
  subst kh;have go:∀M1:Rm,v_ g=M1->M1.f=g->M1.c=gb g->M1.aZ.length<=1->M1.bV=[]->jr (M1.kp ((dg g).getD 0 0)) (2*bh g.aQ)∧bF Z 8 270 0 (jo X) (jn X) (pU bb ((gb g).aC.length:Int) (dg g).length ((0:Nat):Int) ((0:Nat):Int) false ((0:Nat):Int)) (Ex f g (gb g) id k (dg g) ((M1.kp ((dg g).getD 0 0)).dJ 0 g.aQ)) (ao Z 8 1):=by
   intro M1 q0 q1 q2 q3 q4;have hh:=RG.dJ g.aQ 0 (M1.kp ((dg g).getD 0 0));have h1:=hh.hi;have h2:=hh.set;have e1:(M1.kp ((dg g).getD 0 0)).aZ.length=M1.aZ.length:=rfl;have e2:(M1.kp ((dg g).getD 0 0)).bV.length=0:=by simp[Rm.kp,q4]
   have eR:I2 g=(M1.kp ((dg g).getD 0 0)).dJ 0 g.aQ:=by rw[I2,q0]
   rw[wH,hB,eR]at hF;refine⟨⟨by omega,by omega,by show M1.c.aC.length<60000;rw[q2];exact qb,by show vY M1.f;rw[q1];exact jF⟩,?_⟩;exact at8 (X:=X) (f:=f) (id:=id) (k:=k) (base:=dg g) (b:=bb) (g:=g) (c:=gb g) (qF:=qF) jF (by omega) (by omega) nh qb hN hS (0,⟨(M1.kp ((dg g).getD 0 0)).dJ 0 g.aQ,((gb g).aC.length:Int),0,0,false⟩)
    ⟨Nat.zero_le _,hh.f.trans q1,hh.c.trans q2,by simp only[hI];omega,by simp only[hI];omega,Nat.zero_le _,(fun hh=>by cases hh),by simp only[hI];rw[p_];simp,by simp only;omega,nc,hF⟩
  refine cv (fun hb=>?_) (fun hb=>?_)
  ·have hb:bb=true:=hb;obtain⟨g1,g2⟩:=go ((v9 g).ah ⟨16,0,0,((gb g).aC.length:Int),[],0⟩) (by rw[v_,aN (hB.trans hb)]) rfl rfl (eh _) rfl;exact⟨(v9 g,⟨16,0,0,((gb g).aC.length:Int),[],0⟩),⟨rfl,rfl,by show 0<65536;omega⟩,g,⟨rfl,rfl,jF.1,jF.2.1,by omega⟩,by omega,(dg g).getD 0 0,mG,(((v9 g).ah ⟨16,0,0,((gb g).aC.length:Int),[],0⟩).kp ((dg g).getD 0 0),()),⟨rfl,rfl,g1⟩,g2⟩
  ·have hb:bb=false:=hb;obtain⟨g1,g2⟩:=go (v9 g) (by rw[v_,az (by rw[hB,hb];simp)]) rfl rfl (Nat.zero_le _) rfl;exact⟨g,⟨rfl,rfl,jF.1,jF.2.1,by omega⟩,by omega,(dg g).getD 0 0,mG,((v9 g).kp ((dg g).getD 0 0),()),⟨rfl,rfl,g1⟩,g2⟩
end
theorem lX{φ:bu}{n sz:Nat}:∀(A B:LV) (x:List Value),bm φ (A++.bg::B) x->bm φ (A++.ae n 0 sz::B) x
 |[],B,x,h=>by obtain⟨v,l,rfl,h1,h2⟩:=h;exact⟨v,l,rfl,rL h1,h2⟩
 |a::A,B,x,h=>by obtain⟨v,l,rfl,h1,h2⟩:=h;exact⟨v,l,rfl,h1,lX A B l h2⟩
def CI(g:a9)(c:eu)(x y:AV):LV:=[.aa g.aH.cL,J g.aH.ar,J g.aH.aM,.aB (bw g.aQ) g.aQ.length 4,.aB (ck g.au) g.au.length 6,.ae 5 c.aR.length 1,.ae 6 c.aC.length 1,.ae 7 c.aE.length 1,x,y,J 0,J 0]
def l8(f g:a9)(id:Int)(k:Int×Int×LN×Int)(c:eu)(x y:AV)(r:List (Nat×bc)):List (Nat×bc):=[(0,cj g),(1,kR),(2,nU id f.aH k),(3,c8 5 6 7 c),(4,.ay (CI g c x y) 82),(5,aD c.aR 3),(6,aD c.aC 2),(7,aD c.aE 3)]++r
theorem auc{f g:a9}{id:Int}{k:Int×Int×LN×Int}{c:eu}{X:mz×Int}{t:Tr AV}(h:bF Z 8 270 0 (jo X) (jn X) t (Tc f g id k c) (ao Z 8 0)):
 bF Z 8 270 0 (jo X) (jn X) t (aq (l8 f g id k c .bg .bg []) 8) (ao Z 8 0):=by
 refine BQ (H':=aq (l8 f g id k c (.ae 8 0 6) .bg []++[(8,.aL [] 50)]) (8+1)) ?_ (xx (g:=4) (l:=l8 f g id k c .bg .bg []) (l':=l8 f g id k c (.ae 8 0 6) .bg []) (vs:=CI g c .bg .bg) (eT:=CI g c (.ae 8 0 6) .bg) (el:=82) rfl (fun i=>by simp only[l8,gz,dL];by_cases h:i=4<;>simp[h]) rfl (fun φ x hx=>lX (CI g c .bg .bg |>.take 8) [.bg,J 0,J 0] x hx) ⟨rfl,rfl⟩) (by kernel_rfl);refine BQ (H:=aq (l8 f g id k c (.ae 8 0 6) .bg [(8,.aL [] 50)]) 9) (H':=aq (l8 f g id k c (.ae 8 0 6) (.ae 9 0 2) [(8,.aL [] 50)]++[(9,.aL [] 128)]) (9+1)) ?_ (xx (g:=4) (l:=l8 f g id k c (.ae 8 0 6) .bg [(8,.aL [] 50)]) (l':=l8 f g id k c (.ae 8 0 6) (.ae 9 0 2) [(8,.aL [] 50)]) (vs:=CI g c (.ae 8 0 6) .bg) (eT:=CI g c (.ae 8 0 6) (.ae 9 0 2)) (el:=82) rfl (fun i=>by simp only[l8,mQ,pS,dL];by_cases h:i=4<;>simp[h]) rfl (fun φ x hx=>lX (CI g c (.ae 8 0 6) .bg |>.take 9) [J 0,J 0] x hx) ⟨rfl,rfl⟩) (by kernel_rfl);exact h
theorem adr(dG:LI):∀(c:Nat) (gs:c7),(tj dG c gs).length=gs.length
 |_,[]=>rfl
 |c,g::gs=>by simp[tj,adr dG _ gs]
theorem QU:bn Z Kw:=by
 refine dc GH ?_;rintro⟨f,id⟩ args H ⟨rfl,rfl,hf,hs⟩;simp only[G'];have hz:(jk f id).2≠0->(jk f id).1=oO:=by
  unfold jk;split
  ·intro _;rfl
  ·split
   ·intro _;rfl
   ·intro h;exact absurd rfl h
 refine ae8 hz ?_;refine eS GH 1000 Ao 270 (by kernel_rfl) ?_;rw[aub];have Be:ei f=false∨id<1∨id>1099511627776->iI (jo (jk f id)) (jn (jk f id)) (.aO [.aj (qL oO .bg),J 1]) ax:=by intro h;rw[jk,aN h];exact⟨rfl,rfl⟩
 have hd:m_ ei (dj f)=ei f:=ye ei f;refine⟨⟨rfl,⟨f,rfl,hf⟩⟩,cv (fun h=>?_) (fun h=>cv (fun h2=>?_) (fun h2=>cv (fun h3=>?_) (fun h3=>?_)))⟩
 ·have h:(!m_ ei (dj f))=true:=h;rw[hd]at h;exact Be (.inl (by simpa using h))
 ·exact Be (.inr (.inl (dW h2)))
 ·exact Be (.inr (.inr (dW h3)))
 ·have h:(!m_ ei (dj f))=false:=h;rw[hd]at h;have hv:ei f=true:=by simpa using h
  have h2:=eJ h2;have h3:=eJ h3;obtain⟨s1,s2⟩:=hs hv;have s1:bh f.aQ+eg f.au<3600:=s1;have s2:f.au.length<=500:=s2;have bq:=RP hf;have yG:=K0 hv;have zY:bh (a_ f).aQ+eg (a_ f).au<3600:=by have:=Hb f.au;show bh f.aQ+eg (fc f.au)<3600;omega
  have kD:(a_ f).au.length<=500:=by have:=DN f.au;show(fc f.au).length<=500;omega
  have hgp:=Bt (a_ f).au;have qb:(gb (a_ f)).aC.length<4000:=by have h1:=Wo (fe (a_ f).au) (fT (a_ f)) (Cw (a_ f));have h2:=O7 (a_ f);show(lh (fT (a_ f)) (Cw (a_ f)) (fe (a_ f).au)).1.length<4000;omega
  have ud:¬(ei f=false∨id<1∨id>1099511627776):=by
   rintro(hh|hh|hh)
   ·rw[hv]at hh;cases hh
   ·omega
   ·omega
  have hN:wH (a_ f)=none->jk f id=(oO,2):=fun hh=>by rw[jk,az ud,hh]
  have hS:∀code,wH (a_ f)=some code->jk f id=(⟨id,f.aH,lJ uu f.aQ,code⟩,0):=fun code hh=>by rw[jk,az ud,hh]
  have ags:∀{A B:Prop},B->ai (decide (Int.ofNat (gb (a_ f)).aC.length>4096)) A B:=by intro A B hB;refine cv (fun h=>?_) (fun _=>hB);have h:=dW h;simp only[fX]at h;omega
  have eH:∀k,lJ uu f.aQ=k->bF Z 8 270 0 (jo (jk f id)) (jn (jk f id)) (CV (decide (Int.ofNat (gb (a_ f)).aC.length>0)) ((0:Nat):Int)) (aq (l8 f (a_ f) id k (gb (a_ f)) .bg .bg []) 8) (ao Z 8 0):=by
   intro k hk;rw[hk]at hS;have e:decide (Int.ofNat (gb (a_ f)).aC.length>0)=decide ((gb (a_ f)).aC.length>0):=by
    by_cases hh:(gb (a_ f)).aC.length>0
    ·rw[decide_eq_true hh,decide_eq_true];simp only[fX];omega
    ·rw[decide_eq_false hh,decide_eq_false];simp only[fX];omega
   rw[e];exact auc (at6 (f:=f) (id:=id) (k:=k) (X:=jk f id) (g:=a_ f) (B:=Ef (a_ f)) ⟨bq,yG,by omega⟩ zY kD (by omega) (adr _ _ _) (RQ f.au) rfl hN hS rfl (0,decide ((gb (a_ f)).aC.length>0)) ⟨Nat.zero_le _,rfl⟩)
  cases hT:f.aQ with
  |nil=>
   refine cv (fun hz=>?_) (fun hz=>?_)
   ·have hz:=dW hz;simp at hz
   ·exact⟨f,⟨rfl,rfl,hf⟩,a_ f,⟨rfl,rfl,bq,yG,by omega⟩,ags (eH (0,0,[],0) (by rw[hT];rfl))⟩
  |cons t T=>
   obtain⟨kk,n,s,ls⟩:=t;refine cv (fun hz=>?_) (fun hz=>?_)
   ·exact⟨by simp,kk,n,s,bw ls,ls.length,rfl,(kk,n,s,bw ls,ls.length),⟨rfl,rfl⟩,f,⟨rfl,rfl,hf⟩,a_ f,⟨rfl,rfl,bq,yG,by omega⟩,ags (eH (uu kk n s ls.length) (by rw[hT];rfl))⟩
   ·have hz:=eJ hz;simp at hz
abbrev BG x0:=aq [(0,gH x0),(1,gH x0)] 2
def h9(b:mz):AH:=BG b.fB
def m9(b:mz):AH:=aq [(0,gH b.fB),(1,gH b.fB),(2,.ay (qL b (.ae 0 b.fB.length 6)) 34),(3,.ay (qL b (.ae 1 b.fB.length 6)) 34)] 4
def Nf:Nat->LN:=nk [(4,[2,3,5])]
def W7:dP mz where
 bN b A H:=A=[.aj (qL b (.ae 0 b.fB.length 6)),.aj (qL b (.ae 1 b.fB.length 6))]∧H=h9 b∧b.fB.length<60000
 v b:=.aA true
 aU b:=h9 b
theorem auI:W7.dT:=by rintro b b' A H ⟨_,h1,_⟩ ⟨_,h2,_⟩;have e:h9 b=h9 b':=h1.symm.trans h2;simp only[W7,e]
def Zn:Ev.bC:=cB 9 (cO W7 auI cV) Kw
abbrev ON x0:=bk [(2,.ad 2 0),(3,.ad 3 0),(5,J x0)]
theorem auH(b:mz)(L:LT)(Q:QT):
 b_ Z Kw Nf L Q 1000 9 [.aj (qL b (.ae 0 b.fB.length 6)),.aj (qL b (.ae 1 b.fB.length 6))] (h9 b)=(
 ai (b.id !=b.id) (Q (.aA false) (BG b.fB)) (ai (!(dF b.aH.cL b.aH.cL&&(b.aH.ar==b.aH.ar&&(b.aH.aM==b.aH.aM&&true)))) (Q (.aA false) (BG b.fB)) (ai (!(b.fF.1==b.fF.1&&(b.fF.2.1==b.fF.2.1&&(dF b.fF.2.2.1 b.fF.2.2.1&&(b.fF.2.2.2==b.fF.2.2.2&&true))))) (Q (.aA false) (BG b.fB)) (ai (Int.ofNat b.fB.length !=Int.ofNat b.fB.length) (Q (.aA false) (BG b.fB)) (L (ON 0) (aq [(0,gH b.fB),(1,gH b.fB),(2,.ay [J b.id,.aa b.aH.cL,J b.aH.ar,J b.aH.aM,J b.fF.1,J b.fF.2.1,.aa b.fF.2.2.1,J b.fF.2.2.2,.ae 0 b.fB.length 6] 34),(3,.ay [J b.id,.aa b.aH.cL,J b.aH.ar,J b.aH.aM,J b.fF.1,J b.fF.2.1,.aa b.fF.2.2.1,J b.fF.2.2.2,.ae 1 b.fB.length 6] 34)] 4) (ao Z 9 0)))))):=by kernel_rfl
theorem auF(b:mz)(i:Int)(L:LT)(Q:QT):
 cT Z Kw Nf L Q 1000 9 2 (ON i) (ao Z 9 0) (m9 b)=(
 ai (decide (i<Int.ofNat b.fB.length)) (∃aI:Nat,i=(aI:Int)∧aI<b.fB.length∧(∃n:Int,∃aP:Int,∃bp:Int,∃bI:Int,∃s:LN,∃cS:Int,bA Z 50 (bZ b.fB) (aI*6)=some (.aj [J n,J aP,J bp,J bI,.aa s,J cS]:AV)∧(∃bz:Nat,i=(bz:Int)∧bz<b.fB.length∧(∃ib:Int,∃jI:Int,∃np:Int,∃oH:Int,∃dO:LN,∃oI:Int,bA Z 50 (bZ b.fB) (bz*6)=some (.aj [J ib,J jI,J np,J oH,.aa dO,J oI]:AV)∧ai (!(n==ib&&(aP==jI&&(bp==np&&(bI==oH&&(dF s dO&&(cS==oI&&true))))))) (Q (.aA false) (BG b.fB)) (L (ON (wI (i+1))) (aq [(0,gH b.fB),(1,gH b.fB),(2,.ay [J b.id,.aa b.aH.cL,J b.aH.ar,J b.aH.aM,J b.fF.1,J b.fF.2.1,.aa b.fF.2.2.1,J b.fF.2.2.2,.ae 0 b.fB.length 6] 34),(3,.ay [J b.id,.aa b.aH.cL,J b.aH.ar,J b.aH.aM,J b.fF.1,J b.fF.2.1,.aa b.fF.2.2.1,J b.fF.2.2.2,.ae 1 b.fB.length 6] 34)] 4) (ao Z 9 0)))))) (Q (.aA true) (BG b.fB))):=by kernel_rfl
theorem Sy(l:LN):dF l l=true:=by rw[lA];simp
theorem amt{l:bS}{i:Nat}(hl:l.length<60000)(h:i<l.length):∃n n1 n2 n3 s n4,bA Z 50 (bZ l) (i*6)=some (.aj [J n,J n1,J n2,J n3,.aa s,J n4]):=by have hp:ie.ok ⟨bZ l,0,l⟩:=⟨by rw[hI,←o3 l,List.take_length],hl⟩;have:=ie.get hp h;simp only[fD]at this;exact⟨_,_,_,_,_,_,this⟩
theorem auG{b:mz}(hl:b.fB.length<60000):
 ∀i:Nat,i<=b.fB.length->
 bF Z 9 52 2 (.aA true) (h9 b) (ON (i:Int)) (m9 b) (ao Z 9 0):=by
 refine cX (fun i=>b.fB.length-i) _ _ _ _ ?_;rintro i hi ih;refine hD QU 1000 Nf (by kernel_rfl) ?_;rw[auF];refine cv (fun h=>?_) (fun h=>?_)
 ·have an:i<b.fB.length:=by have:=dW h;simpa using this
  obtain⟨n,n1,n2,n3,s,n4,e⟩:=amt hl an;rw[fE (iz i) (by omega)];refine⟨i,rfl,an,n,n1,n2,n3,s,n4,e,i,rfl,an,n,n1,n2,n3,s,n4,e,cv (fun h=>?_) (fun h=>?_)⟩
  ·have h:(!((n==n)&&((n1==n1)&&((n2==n2)&&((n3==n3)&&((dF s s)&&((n4==n4)&&true)))))))=true:=h;simp[Sy]at h
  ·exact ih (i+1) (by omega) (by omega)
 ·exact⟨rfl,rfl⟩
theorem ahs:bn Z Zn:=by
 refine dc QU ?_;rintro b args H ⟨rfl,rfl,hl⟩;refine eS QU 1000 Nf 52 (by kernel_rfl) ?_;rw[auH];refine cv (fun h=>?_) (fun _=>cv (fun h=>?_) (fun _=>cv (fun h=>?_) (fun _=>cv (fun h=>?_) (fun _=>?_))))
 ·have h:(b.id !=b.id)=true:=h;simp at h
 ·have h:(!((dF b.aH.cL b.aH.cL)&&((b.aH.ar==b.aH.ar)&&((b.aH.aM==b.aH.aM)&&true))))=true:=h;simp[Sy]at h
 ·have h:(!((b.fF.1==b.fF.1)&&((b.fF.2.1==b.fF.2.1)&&((dF b.fF.2.2.1 b.fF.2.2.1)&&((b.fF.2.2.2==b.fF.2.2.2)&&true)))))=true:=h;simp[Sy]at h
 ·have h:((Int.ofNat b.fB.length)!=(Int.ofNat b.fB.length))=true:=h;simp at h
 ·exact auG hl 0 (Nat.zero_le _)
end
end Go.Cl
