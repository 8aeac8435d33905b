/- Part of a proof of AreaLists. -/
import Derived.Test.YtjgjeokjclpjnaaGreatB4
set_option linter.all false
set_option linter.unusedSectionVars false
set_option maxRecDepth 100000
namespace Go.Cl
open Go.Ev Go.Proofs
noncomputable section
def nD(k n:Int)(s:LN)(len:Nat):Int×Int×LN×Int:=
 if k=1 then(1,n,[],0)else if k=2 then(2,0,s,0)else if k=3 then(3,0,s,len)else(0,0,[],0)
def WL(k:Int×Int×LN×Int):LV:=[J k.1,J k.2.1,.ab k.2.2.1,J k.2.2.2]
theorem atF(k n s len):Q4 k n s len=WL (nD k n s len):=by
 unfold Q4 nD WL;split
 .rfl
 .split
  .rfl
  .split<;>rfl
def kyX(ky:Int->Int->LN->Nat->Int×Int×LN×Int):cx (Int×Int×LN×LV×Nat)where
 bn w A H:=A=[.ah [J w.1,J w.2.1,.ab w.2.2.1,.ad w.2.2.2.1 w.2.2.2.2 4]]/\H=an
 v w:=.ah [J (ky w.1 w.2.1 w.2.2.1 w.2.2.2.2).1,J (ky w.1 w.2.1 w.2.2.1 w.2.2.2.2).2.1,.ab (ky w.1 w.2.1 w.2.2.1 w.2.2.2.2).2.2.1,J (ky w.1 w.2.1 w.2.2.1 w.2.2.2.2).2.2.2]
 aK w:=an
theorem atG(ky):(kyX ky).cr:=by rintro⟨k,n,s,cs,len⟩ ⟨k',n',s',cs',cB⟩ A H ⟨h1,_⟩ ⟨h2,_⟩;rw[h1]at h2;simp at h2;obtain⟨rfl,rfl,rfl,rfl,rfl⟩:=h2;rfl
def R27:Ev.bo:=bR 93 (ca (kyX nD) (atG nD) cD) R26
abbrev Kb:Ev.bo:=R27
theorem anx:aU Z R27:=by refine cA anw ?_;rintro⟨k,n,s,cs,len⟩ args H ⟨rfl,rfl⟩;refine ab8.1 93 _ an (an=an/\True) _ an (by decide) (OH ?_) ⟨rfl,trivial⟩;unfold fK;simp only[Zh,atF,WL];rfl
theorem OF:aU Z Kb:=anx
def Cr:Nat->LP->LI->LP
 |_,m,[]=>m
 |i,m,v::l=>Cr (i+1) (up v ((i+1:Nat):Int) m) l
def zx:bk:=.aj [J 0,.ab [],J 0,J 0,J 0,J 0,.ab [],J 0,.aJ] 44
def La(f:bG):AH:=al [(0,dx f),(1,zx)] 2
def Xs(f:bG)(c:mg)(base:LI)(m:Em):AH:=al [(0,dx f),(1,zx),(2,.aj [.ai 6 c.cy.length 1,.ai 5 c.bz.length 1,.ai 7 c.aR.length 1] 153),(3,bK base 3),(4,fi m 8 9 10 11 12),(5,bK c.bz 2),(6,bK c.cy 3),(7,bK c.aR 3),(8,fx m),(9,eQ m),(10,eW m),(11,eU m),(12,eR m)] 13
structure fG where
 id:Int
 aN:cV
 iC:Int×Int×LN×Int
 gi:gL
def Dh:fG:=⟨0,⟨[],0,0⟩,(0,0,[],0),[]⟩
def yd(b:fG)(c:AV):LV:=[J b.id,.ab b.aN.cL,J b.aN.ar,J b.aN.au,J b.iC.1,J b.iC.2.1,.ab b.iC.2.2.1,J b.iC.2.2.2,c]
def hB(b:fG):AH:=al [(0,kT b.gi)] 1
def mZ(g:bG):Em:=⟨[],g,uR g,Cr 0 [] (jc g),[],[],(fW g).getD 0 0,false⟩
def rT(g:bG):Em:=bif qm g (eu g)then(mZ g).aY ⟨16,0,0,((jc g).length:Int),[],0⟩else mZ g
def lx(g:bG):Em:=Em.aZ (eu g) (fW g) (qm g (eu g)) 0 ((jc g).length:Int) ((rT g).i_ 0 (rT g).f.bC) ((rT g).i_ 0 (rT g).f.bC).f.aZ
def mn(g:bG):gL×Int:=if(lx g).iL=true\/(lx g).bg.length>131072\/(jc g).length>4096 then([],2)else mU (lx g).bg (fW g)
def rf(ky:Int->Int->LN->Nat->Int×Int×LN×Int):eK->Int×Int×LN×Int
 |[]=>(0,0,[],0)
 |t::_=>ky t.cq t.n t.cK t.bh.length
def gp(f:bG)(id:Int):fG×Int:=
 if jM f=false\/id<1\/id>1099511627776 then(Dh,1)
 else if(mn (bw f)).2≠0 then(Dh,(mn (bw f)).2)
 else(⟨id,f.aN,rf nD f.bC,(mn (bw f)).1⟩,0)
def uz(r:fG×Int):AV:=if r.2=0 then .aC [.ah (yd r.1 (.ai 0 r.1.gi.length 6)),J r.2]else .aC [.ah (yd Dh .aJ),J r.2]
def uy(r:fG×Int):AH:=if r.2=0 then hB r.1 else an
def coX(GI:bG->Int->fG×Int):cx (bG×Int)where
 bn w A H:=A=[.ah (gH w.1),J w.2]/\H=an/\iW w.1/\(jM w.1=true->bM w.1.bC+fg w.1.aZ<72000/\w.1.aZ.length<=10000)
 v w:=.aC [.ah (yd (GI w.1 w.2).1 (.ai 0 (GI w.1 w.2).1.gi.length 6)),J (GI w.1 w.2).2]
 aK w:=hB (GI w.1 w.2).1
theorem apf(GI):(coX GI).cr:=by rintro⟨f,id⟩ ⟨f',g_⟩ A H ⟨h1,_⟩ ⟨k1,_⟩;rw[h1]at k1;simp at k1;rw[ye _ _ k1.1,k1.2]
def Vi:Ev.bo:=bR 52 (ca (coX gp) (apf gp) cD) Kb
def Rm:Nat->LN:=fT [(4,[1,2,4,28,29,30]),(15,[1,2,4,8,9,10,68,69,70])]
abbrev S1 x0 x1 x2 x3:=aB [(1,J x0),(2,.aa 0 0),(4,.aa 1 0),(28,.ad (bD x1) x2 6),(29,J (aE x2)),(30,J x3)]
theorem ayT{f id L Q}:
 bI Z Kb Rm L Q 1000 52 [.ah (gH f),J id] an=(
 (al [] 0=an/\Q0 (gH f))/\aq (!DN jM (gH f)) (Q (.aC [.ah [J 0,.ab [],J 0,J 0,J 0,J 0,.ab [],J 0,.aJ],J 1]) an) (aq (decide (id<1)) (Q (.aC [.ah [J 0,.ab [],J 0,J 0,J 0,J 0,.ab [],J 0,.aJ],J 1]) an) (aq (decide (id>1099511627776)) (Q (.aC [.ah [J 0,.ab [],J 0,J 0,J 0,J 0,.ab [],J 0,.aJ],J 1]) an) (L (S1 id f.aZ f.aZ.length 0) (al [(0,dx f),(1,zx)] 2) (aw Z 52 0))))):=by kernel_rfl
abbrev Jk x0 x1 x2 x3:=aB [(1,J x0),(2,.aa 0 0),(4,.aa 1 0),(8,.aa 2 0),(9,.ai 3 x1 1),(10,.aa 4 0),(68,.ai 5 x2 1),(69,J (aE x2)),(70,J x3)]
theorem ayP{f id i L Q}:
 ck Z Kb Rm L Q 1000 52 0 (S1 id f.aZ f.aZ.length i) (aw Z 52 0) (La f)=(
 aq (decide (i<aE (List.length f.aZ)))
  (∃aL:Nat,(i=(aL:Int))/\
    (aL<List.length f.aZ)/\
    ∃n s aP bA cs len cf,((((bD f.aZ).drop (aL*6)).take 6:LV)=[J n,.ab s,J aP,J bA,.ad cs len 4,J cf])/\
    aq (n==5)
     (∃cG:Nat,(wI (i+1)=(cG:Int))/\
       ((0<=cG)/\
       cG<=List.length f.aZ)/\
       ∃w,((([.ah [.ab f.aN.cL,J (cV.ar (bG.aN f)),J (cV.au (bG.aN f)),.ad (aF f.bC) (List.length f.bC) 4,.ad (((bD f.aZ).drop 0).take ((cG-0)*6)) (cG-0) 6]]:LV)=[.ah [.ab w.aN.cL,J (cV.ar (bG.aN w)),J (cV.au (bG.aN w)),.ad (aF w.bC) (List.length w.bC) 4,.ad (bD w.aZ) (List.length w.aZ) 6]])/\
       (al [] 0=an)/\
       (iW w)/\
       (jM w=true)/\
       (bM w.bC)+(fg w.aZ)<400000)/\
       ∃ae,((([.ah [.ab f.aN.cL,J (cV.ar (bG.aN f)),J (cV.au (bG.aN f)),.ad (aF f.bC) (List.length f.bC) 4,.ad (((bD f.aZ).drop 0).take ((cG-0)*6)) (cG-0) 6]]:LV)=[.ah [.ab ae.aN.cL,J (cV.ar (bG.aN ae)),J (cV.au (bG.aN ae)),.ad (aF ae.bC) (List.length ae.bC) 4,.ad (bD ae.aZ) (List.length ae.aZ) 6]])/\
       (al [] 0=an)/\
       (iW ae)/\
       List.length ae.aZ<1200000)/\
       (0<List.length (fW ae))/\
       ∃dc,(cw Z 3 (aX (fW ae)) 0=some (J dc:AV))/\
       ∃aS,((([.ah [.ab f.aN.cL,J (cV.ar (bG.aN f)),J (cV.au (bG.aN f)),.ad (aF f.bC) (List.length f.bC) 4,.ad (((bD f.aZ).drop 0).take ((cG-0)*6)) (cG-0) 6]]:LV)=[.ah [.ab aS.aN.cL,J (cV.ar (bG.aN aS)),J (cV.au (bG.aN aS)),.ad (aF aS.bC) (List.length aS.bC) 4,.ad (bD aS.aZ) (List.length aS.aZ) 6]])/\
       (al [] 0=an)/\
       iW aS)/\
       ((List.brecOn.go (motive:=λx=>Nat->Option AV) (aX (fW ae)) List.get?Internal._f).1 (0*1)=some (J dc:AV))/\
       (some (.ah [.ab f.aN.cL,J (cV.ar (bG.aN f)),J (cV.au (bG.aN f)),.ad (aF f.bC) (List.length f.bC) 4,.ad (((bD f.aZ).drop 0).take ((cG-0)*6)) (cG-0) 6]:AV)=some (.ah [.ab f.aN.cL,J (cV.ar (bG.aN f)),J (cV.au (bG.aN f)),.ad (aF f.bC) (List.length f.bC) 4,.ad (((bD f.aZ).drop 0).take ((cG-0)*6)) (cG-0) 6]:AV))/\
       L (Jk id (List.length (fW ae)) (List.length (eu w).bz) 0) (al [(0,.aj [.ab f.aN.cL,J (cV.ar (bG.aN f)),J (cV.au (bG.aN f)),.ad (aF f.bC) (List.length f.bC) 4,.ad (((bD f.aZ).drop 0).take ((cG-0)*6)) (cG-0) 6] 106),(1,.aj [J 0,.ab [],J 0,J 0,J 0,J 0,.ab [],J 0,.aJ] 44),(2,.aj [.ai 6 (List.length ((eu w).cy)) 1,.ai 5 (List.length ((eu w).bz)) 1,.ai 7 (List.length ((eu w).aR)) 1] 153),(3,.ay (aX (fW ae)) 3),(4,.aj [.aJ,.ab f.aN.cL,J (cV.ar (bG.aN f)),J (cV.au (bG.aN f)),.ad (aF f.bC) (List.length f.bC) 4,.ad (((bD f.aZ).drop 0).take ((cG-0)*6)) (cG-0) 6,.aA 8,.aA 9,.aA 10,.aA 11,J dc,.ao false] 162),(5,.ay (aX (eu w).bz) 2),(6,.ay (aX (eu w).cy) 3),(7,.ay (aX (eu w).aR) 3),(8,.bm (bJ J 0 (uR aS)) (List.length (uR aS)) true),(9,.bm [] 0 true),(10,.bm [] 0 true),(11,.bm [] 0 true)] 12) (aw Z 52 1))
     (L (S1 id f.aZ (List.length f.aZ) (wI (i+1))) (al [(0,.aj [.ab f.aN.cL,J (cV.ar (bG.aN f)),J (cV.au (bG.aN f)),.ad (aF f.bC) (List.length f.bC) 4,.ad (bD f.aZ) (List.length f.aZ) 6] 106),(1,.aj [J 0,.ab [],J 0,J 0,J 0,J 0,.ab [],J 0,.aJ] 44)] 2) (aw Z 52 0)))
  (∃w,((([.ah [.ab f.aN.cL,J (cV.ar (bG.aN f)),J (cV.au (bG.aN f)),.ad (aF f.bC) (List.length f.bC) 4,.ad (bD f.aZ) (List.length f.aZ) 6]]:LV)=[.ah [.ab w.aN.cL,J (cV.ar (bG.aN w)),J (cV.au (bG.aN w)),.ad (aF w.bC) (List.length w.bC) 4,.ad (bD w.aZ) (List.length w.aZ) 6]])/\
    (al [] 0=an)/\
    (iW w)/\
    (jM w=true)/\
    (bM w.bC)+(fg w.aZ)<400000)/\
    ∃ae,((([.ah [.ab f.aN.cL,J (cV.ar (bG.aN f)),J (cV.au (bG.aN f)),.ad (aF f.bC) (List.length f.bC) 4,.ad (bD f.aZ) (List.length f.aZ) 6]]:LV)=[.ah [.ab ae.aN.cL,J (cV.ar (bG.aN ae)),J (cV.au (bG.aN ae)),.ad (aF ae.bC) (List.length ae.bC) 4,.ad (bD ae.aZ) (List.length ae.aZ) 6]])/\
    (al [] 0=an)/\
    (iW ae)/\
    List.length ae.aZ<1200000)/\
    (0<List.length (fW ae))/\
    ∃n,(cw Z 3 (aX (fW ae)) 0=some (J n:AV))/\
    ∃aS,((([.ah [.ab f.aN.cL,J (cV.ar (bG.aN f)),J (cV.au (bG.aN f)),.ad (aF f.bC) (List.length f.bC) 4,.ad (bD f.aZ) (List.length f.aZ) 6]]:LV)=[.ah [.ab aS.aN.cL,J (cV.ar (bG.aN aS)),J (cV.au (bG.aN aS)),.ad (aF aS.bC) (List.length aS.bC) 4,.ad (bD aS.aZ) (List.length aS.aZ) 6]])/\
    (al [] 0=an)/\
    iW aS)/\
    ((List.brecOn.go (motive:=λx=>Nat->Option AV) (aX (fW ae)) List.get?Internal._f).1 (0*1)=some (J n:AV))/\
    (some (.ah [.ab f.aN.cL,J (cV.ar (bG.aN f)),J (cV.au (bG.aN f)),.ad (aF f.bC) (List.length f.bC) 4,.ad (bD f.aZ) (List.length f.aZ) 6]:AV)=some (.ah [.ab f.aN.cL,J (cV.ar (bG.aN f)),J (cV.au (bG.aN f)),.ad (aF f.bC) (List.length f.bC) 4,.ad (bD f.aZ) (List.length f.aZ) 6]:AV))/\
    L (Jk id (List.length (fW ae)) (List.length (eu w).bz) 0) (al [(0,.aj [.ab f.aN.cL,J (cV.ar (bG.aN f)),J (cV.au (bG.aN f)),.ad (aF f.bC) (List.length f.bC) 4,.ad (bD f.aZ) (List.length f.aZ) 6] 106),(1,.aj [J 0,.ab [],J 0,J 0,J 0,J 0,.ab [],J 0,.aJ] 44),(2,.aj [.ai 6 (List.length ((eu w).cy)) 1,.ai 5 (List.length ((eu w).bz)) 1,.ai 7 (List.length ((eu w).aR)) 1] 153),(3,.ay (aX (fW ae)) 3),(4,.aj [.aJ,.ab f.aN.cL,J (cV.ar (bG.aN f)),J (cV.au (bG.aN f)),.ad (aF f.bC) (List.length f.bC) 4,.ad (bD f.aZ) (List.length f.aZ) 6,.aA 8,.aA 9,.aA 10,.aA 11,J n,.ao false] 162),(5,.ay (aX (eu w).bz) 2),(6,.ay (aX (eu w).cy) 3),(7,.ay (aX (eu w).aR) 3),(8,.bm (bJ J 0 (uR aS)) (List.length (uR aS)) true),(9,.bm [] 0 true),(10,.bm [] 0 true),(11,.bm [] 0 true)] 12) (aw Z 52 1))):=by kernel_rfl
theorem ayR{f id i c base m L Q}:
 ck Z Kb Rm L Q 1000 52 0 (Jk id base.length c.bz.length i) (aw Z 52 1) (Xs f c base m)=(
 aq (decide (i<aE c.bz.length)) (∃aL:Nat,i=(aL:Int)/\aL<c.bz.length/\(∃n,cw Z 2 (aX c.bz) (aL*1)=some (J n:AV)/\(∃bF c',jX Z 2 (bJ J 0 m.bz) m.bz.length (J n) (J (wI (i+1)))=some (bF,c')/\L (Jk id base.length c.bz.length (wI (i+1))) (al [(0,dx f),(1,zx),(2,.aj [.ai 6 c.cy.length 1,.ai 5 c.bz.length 1,.ai 7 c.aR.length 1] 153),(3,bK base 3),(4,fi m 8 9 10 11 12),(5,bK c.bz 2),(6,bK c.cy 3),(7,bK c.aR 3),(8,fx m),(9,eQ m),(10,.bm bF c' true),(11,eU m),(12,eR m)] 13) (aw Z 52 1)))) (∃w:bG×mg,(([.ah (gH f),.ah [.ai 0 c.cy.length 1,.ai 1 c.bz.length 1,.ai 2 c.aR.length 1]]:LV)=[.ah (gH w.1),.ah [.ai 0 w.2.cy.length 1,.ai 1 w.2.bz.length 1,.ai 2 w.2.aR.length 1]]/\ya c=ya w.2/\iW w.1)/\aq (qm w.1 w.2) (∃ae:Em×et,(([.aa 0 0,.ah [J 16,J 0,J 0,J (aE c.bz.length),.ab [],J 0]]:LV)=[.aa 0 0,.ah (dq ae.2)]/\bQ m=bQ ae.1/\ae.1.bg.length<4194304)/\(∃aS:Em×Unit,(([.aa 0 0]:LV)=[.aa 0 0]/\bQ (ae.1.aY ae.2)=bQ aS.1/\aaW aS.1 aS.2)/\(∃c_:Em×mg×LI×Bool,(([.aa 0 0,.ah [.ai 1 c.cy.length 1,.ai 2 c.bz.length 1,.ai 3 c.aR.length 1],.ai 4 base.length 1,.ao (qm w.1 w.2)]:LV)=[.aa 0 0,.ah [.ai 1 c_.2.1.cy.length 1,.ai 2 c_.2.1.bz.length 1,.ai 3 c_.2.1.aR.length 1],.ai 4 c_.2.2.1.length 1,.ao c_.2.2.2]/\Ee (Em.i_ 0 aS.1 aS.1.f.bC) w.2 base=Ee c_.1 c_.2.1 c_.2.2.1/\c_.1.bg.length+ox c_.1.f.aZ<4194304/\JM c_.2.1 c_.2.2.1 c_.1.f.aZ)/\aq (Em.aZ c_.2.1 c_.2.2.1 c_.2.2.2 0 ((c_.2.1.bz.length:Nat):Int) c_.1 c_.1.f.aZ).iL (Q (.aC [.ah [J 0,.ab [],J 0,J 0,J 0,J 0,.ab [],J 0,.aJ],J 2]) an) (aq (decide (aE (Em.aZ c_.2.1 c_.2.2.1 c_.2.2.2 0 ↑c_.2.1.bz.length c_.1 c_.1.f.aZ).bg.length>131072)) (Q (.aC [.ah [J 0,.ab [],J 0,J 0,J 0,J 0,.ab [],J 0,.aJ],J 2]) an) (aq (decide (aE c.bz.length>4096)) (Q (.aC [.ah [J 0,.ab [],J 0,J 0,J 0,J 0,.ab [],J 0,.aJ],J 2]) an) (∃fM:gL×LI,(([.ai 0 (Em.aZ c_.2.1 c_.2.2.1 c_.2.2.2 0 ↑c_.2.1.bz.length c_.1 c_.1.f.aZ).bg.length 6,.ai 1 base.length 1]:LV)=[.ai 0 fM.1.length 6,.ai 1 fM.2.length 1]/\al [(0,fx (Em.aZ c_.2.1 c_.2.2.1 c_.2.2.2 0 ↑c_.2.1.bz.length c_.1 c_.1.f.aZ)),(1,bK c_.2.2.1 3)] 2=Ef fM.1 fM.2/\fM.1.length<240000/\gS fM.1<fM.2.length/\fM.2.length<2000000)/\aq ((mU fM.1 fM.2).2 !=0) (Q (.aC [.ah [J 0,.ab [],J 0,J 0,J 0,J 0,.ab [],J 0,.aJ],J (mU fM.1 fM.2).2]) an) (aq (decide (aE f.bC.length>0)) (0<f.bC.length/\(∃n aP s cs len,(((aF f.bC).drop 0).take 4:LV)=[J n,J aP,.ab s,.ad cs len 4]/\(∃kj:Int×Int×LN×LV×Nat,(([.ah [J n,J aP,.ab s,.ad cs len 4]]:LV)=[.ah [J kj.1,J kj.2.1,.ab kj.2.2.1,.ad kj.2.2.2.1 kj.2.2.2.2 4]]/\al [] 0=an)/\Q (.aC [.ah [J id,.ab f.aN.cL,J f.aN.ar,J f.aN.au,J (nD kj.1 kj.2.1 kj.2.2.1 kj.2.2.2.2).1,J (nD kj.1 kj.2.1 kj.2.2.1 kj.2.2.2.2).2.1,.ab (nD kj.1 kj.2.1 kj.2.2.1 kj.2.2.2.2).2.2.1,J (nD kj.1 kj.2.1 kj.2.2.1 kj.2.2.2.2).2.2.2,.ai 0 (mU fM.1 fM.2).1.length 6],J 0]) (al [(0,kT (mU fM.1 fM.2).1)] 1)))) (Q (.aC [.ah [J id,.ab f.aN.cL,J f.aN.ar,J f.aN.au,J 0,J 0,.ab [],J 0,.ai 0 (mU fM.1 fM.2).1.length 6],J 0]) (al [(0,kT (mU fM.1 fM.2).1)] 1))))))))) (∃ae:Em×Unit,(([.aa 0 0]:LV)=[.aa 0 0]/\bQ m=bQ ae.1/\aaW ae.1 ae.2)/\(∃aS:Em×mg×LI×Bool,(([.aa 0 0,.ah [.ai 1 c.cy.length 1,.ai 2 c.bz.length 1,.ai 3 c.aR.length 1],.ai 4 base.length 1,.ao (qm w.1 w.2)]:LV)=[.aa 0 0,.ah [.ai 1 aS.2.1.cy.length 1,.ai 2 aS.2.1.bz.length 1,.ai 3 aS.2.1.aR.length 1],.ai 4 aS.2.2.1.length 1,.ao aS.2.2.2]/\Ee (Em.i_ 0 ae.1 ae.1.f.bC) w.2 base=Ee aS.1 aS.2.1 aS.2.2.1/\aS.1.bg.length+ox aS.1.f.aZ<4194304/\JM aS.2.1 aS.2.2.1 aS.1.f.aZ)/\aq (Em.aZ aS.2.1 aS.2.2.1 aS.2.2.2 0 ((aS.2.1.bz.length:Nat):Int) aS.1 aS.1.f.aZ).iL (Q (.aC [.ah [J 0,.ab [],J 0,J 0,J 0,J 0,.ab [],J 0,.aJ],J 2]) an) (aq (decide (aE (Em.aZ aS.2.1 aS.2.2.1 aS.2.2.2 0 ↑aS.2.1.bz.length aS.1 aS.1.f.aZ).bg.length>131072)) (Q (.aC [.ah [J 0,.ab [],J 0,J 0,J 0,J 0,.ab [],J 0,.aJ],J 2]) an) (aq (decide (aE c.bz.length>4096)) (Q (.aC [.ah [J 0,.ab [],J 0,J 0,J 0,J 0,.ab [],J 0,.aJ],J 2]) an) (∃c_:gL×LI,(([.ai 0 (Em.aZ aS.2.1 aS.2.2.1 aS.2.2.2 0 ↑aS.2.1.bz.length aS.1 aS.1.f.aZ).bg.length 6,.ai 1 base.length 1]:LV)=[.ai 0 c_.1.length 6,.ai 1 c_.2.length 1]/\al [(0,fx (Em.aZ aS.2.1 aS.2.2.1 aS.2.2.2 0 ↑aS.2.1.bz.length aS.1 aS.1.f.aZ)),(1,bK aS.2.2.1 3)] 2=Ef c_.1 c_.2/\c_.1.length<240000/\gS c_.1<c_.2.length/\c_.2.length<2000000)/\aq ((mU c_.1 c_.2).2 !=0) (Q (.aC [.ah [J 0,.ab [],J 0,J 0,J 0,J 0,.ab [],J 0,.aJ],J (mU c_.1 c_.2).2]) an) (aq (decide (aE f.bC.length>0)) (0<f.bC.length/\(∃n aP s cs len,(((aF f.bC).drop 0).take 4:LV)=[J n,J aP,.ab s,.ad cs len 4]/\(∃fM:Int×Int×LN×LV×Nat,(([.ah [J n,J aP,.ab s,.ad cs len 4]]:LV)=[.ah [J fM.1,J fM.2.1,.ab fM.2.2.1,.ad fM.2.2.2.1 fM.2.2.2.2 4]]/\al [] 0=an)/\Q (.aC [.ah [J id,.ab f.aN.cL,J f.aN.ar,J f.aN.au,J (nD fM.1 fM.2.1 fM.2.2.1 fM.2.2.2.2).1,J (nD fM.1 fM.2.1 fM.2.2.1 fM.2.2.2.2).2.1,.ab (nD fM.1 fM.2.1 fM.2.2.1 fM.2.2.2.2).2.2.1,J (nD fM.1 fM.2.1 fM.2.2.1 fM.2.2.2.2).2.2.2,.ai 0 (mU c_.1 c_.2).1.length 6],J 0]) (al [(0,kT (mU c_.1 c_.2).1)] 1)))) (Q (.aC [.ah [J id,.ab f.aN.cL,J f.aN.ar,J f.aN.au,J 0,J 0,.ab [],J 0,.ai 0 (mU c_.1 c_.2).1.length 6],J 0]) (al [(0,kT (mU c_.1 c_.2).1)] 1)))))))))):=by kernel_rfl
theorem aif{t}(h:eJ t=true):0<=t.cq/\t.cq<4:=by
 have⟨k,n,s,l⟩:=t;simp only[eJ,iV,dk,Cx]at h;have h:=h.2.1;simp only[aI.cq];unfold As at h;split at h
 .omega
 .split at h
  .omega
  .split at h
   .omega
   .split at h
    .omega
    .cases h
theorem agG:∀l b left,uZ b left l=true->∀g∈l,Co g.eN
 |[],_,_,_,g,hg=>by cases hg
 |x::l,b,left,h,g,hg=>by
  simp only[uZ,dk]at h;rcases dm.1 hg with rfl|hg
  .exact λt ht=>aif ((D0.1 h.1.2).1 t ht)
  .exact agG l _ _ h.2 g hg
theorem aC2{f}(h:jM f=true):Co f.bC/\∀g∈f.aZ,Co g.eN:=by simp only[jM,dk]at h;exact⟨λt ht=>aif ((D0.1 h.1.2).1 t ht),agG _ _ _ h.2⟩
theorem agO:∀l,ox l<=4+2*fg l+2*l.length
 |[]=>by simp[ox]
 |g::l=>by have:=agO l;simp only[ox,fg,ej];omega
section
variable{f:bG}{id:Int}
theorem avr(i m v l):Cr i m (v::l)=Cr (i+1) (up v ((i+1:Nat):Int) m) l:=rfl
theorem ayS(hv:jM f=true)(dE:¬(id<1\/id>1099511627776))(hf:iW f)(QM:bM f.bC+fg f.aZ<72000)(Ie:f.aZ.length<=10000):
 ∀k:LI×LI×LP,(k.1++k.2.1=jc (bw f)/\Cr k.1.length k.2.2 k.2.1=Cr 0 [] (jc (bw f)))->
 br Z 52 152 0 (uz (gp f id)) (uy (gp f id)) (Jk id (fW (bw f)).length (eu (bw f)).bz.length (k.1.length:Int))
  (Xs (bw f) (eu (bw f)) (fW (bw f)) ⟨[],bw f,uR (bw f),k.2.2,[],[],(fW (bw f)).getD 0 0,false⟩) (aw Z 52 1):=by
 have a_:=aeT hf;have H4:=aC2 (aeU hv);have QN:bM (bw f).bC+fg (bw f).aZ<72000:=by have:=Wm f.aZ;show bM f.bC+fg (kL f.aZ)<72000;omega
 have wN:(bw f).aZ.length<=10000:=by have:=Pc f.aZ;show(kL f.aZ).length<=10000;omega
 have hgz:=agO (bw f).aZ;have hgp:=P' (bw f).aZ;have nr:(fW (bw f)).length=1+nH (bw f).aZ:=by rw[fW,O1];simp
 have hnc:=ai6 (bw f).aZ;have QC:JM (eu (bw f)) (fW (bw f)) (bw f).aZ:=by refine⟨a_.2.2.2.1,a_.2.2.2.2,H4.2,aiB _ _ _ _,ajI _ _,λi h hk=>?_⟩;have:=ajH (bw f).aZ 0 i h;have h2:=this.2 hk;show 0<=(vF 0 (bw f).aZ).getD i 0/\_;have e:(eu (bw f)).cy.getD i 0=((0+nH ((bw f).aZ.take i):Nat):Int):=this.1;rw[e,this.1,nr];exact⟨by omega,by omega,by omega⟩
 have okc:(mn (bw f)).2=0->gp f id=(⟨id,f.aN,rf nD f.bC,(mn (bw f)).1⟩,0):=by
  intro h;rw[gp,az,az (by rw[h];simp)];rintro(hh|hh)
  .rw[hv]at hh;cases hh
  .exact dE hh
 have yh:∀e,(mn (bw f)).2=e->e≠0->fA (uz (gp f id)) (uy (gp f id)) (.aC [.ah (yd Dh .aJ),J e]) an:=by
  intro e he cE;have:gp f id=(Dh,e):=by
   rw[gp,az,aO (by rw[he];exact cE),he];rintro(hh|hh)
   .rw[hv]at hh;cases hh
   .exact dE hh
  rw[this,uz,uy,az cE,az cE];exact⟨rfl,rfl⟩
 have aES:(jc (bw f)).length<80000:=by rw[jc,qG];have h1:=List.length_filter_le (GK (n9 (bw f)).1) (n9 (bw f)).2;have h2:=ajD (bw f) ([],[]);simp only[gW,ki]at h2;have h2:(n9 (bw f)).2.length<=bM (bw f).bC+fg (bw f).aZ:=h2;omega
 refine dS (λk=>k.2.1.length) _ _ _ _ ?_;rintro⟨A,B,pm⟩ ⟨h1,h2⟩ ih;simp only at h1 h2 ih⊢;refine hD OF 1000 Rm (by kernel_rfl) ?_;rw[ayR];have wE:A.length+B.length=(jc (bw f)).length:=by rw[<-h1];simp
 have kP:(eu (bw f)).bz.length=(jc (bw f)).length:=rfl;refine iF (λh=>?_) (λh=>?_)
 .have h:=dQ h;cases B with
  |nil=>simp only[gW]at wE;simp only[sa]at h;omega
  |cons v B=>have hw:wI ((A.length:Int)+1)=((A.length+1:Nat):Int):=om (lY _) (by omega);refine⟨A.length,rfl,by simp only[ej]at wE;omega,v,by show cw Z 2 (aX (jc (bw f))) _=_;rw[<-h1];exact sn rfl,?_⟩;rw[hw];refine⟨_,_,pk J jv,?_⟩;have:=ih (A++[v],B,up v ((A.length+1:Nat):Int) pm) ⟨by rw[<-h1];simp,by rw[<-h2,avr];simp⟩ (by simp);simp only[cI,ej,gW,ki]at this;exact this
 .have h:=ez h;cases B with
  |cons v B=>simp only[ej]at wE;simp only[sa]at h;omega
  |nil=>
  simp only[Cr]at h2;subst h2;have e0:(⟨[],bw f,uR (bw f),Cr 0 [] (jc (bw f)),[],[],(fW (bw f)).getD 0 0,false⟩:Em)=mZ (bw f):=rfl;refine⟨(bw f,eu (bw f)),⟨rfl,rfl,a_⟩,iF (λhe=>?_) (λhe=>?_)⟩
  .refine⟨(mZ (bw f),⟨16,0,0,((jc (bw f)).length:Int),[],0⟩),⟨rfl,rfl,by simp[mZ]⟩,?_⟩;have MA:rT (bw f)=(mZ (bw f)).aY ⟨16,0,0,((jc (bw f)).length:Int),[],0⟩:=by have he:=he;rw[rT,he];rfl
   have oO:((mZ (bw f)).aY ⟨16,0,0,((jc (bw f)).length:Int),[],0⟩).f=bw f:=rfl;have U0:((mZ (bw f)).aY ⟨16,0,0,((jc (bw f)).length:Int),[],0⟩).bg.length<=1:=by have:=Bb (mZ (bw f)).bg ⟨16,0,0,((jc (bw f)).length:Int),[],0⟩;exact this
   have UZ:gS ((mZ (bw f)).aY ⟨16,0,0,((jc (bw f)).length:Int),[],0⟩).bg=0:=by have:=Kq (mZ (bw f)).bg ⟨16,0,0,((jc (bw f)).length:Int),[],0⟩;simp[mZ,gS]at this;simpa[Em.aY,mZ,gS]using this
   generalize hM1:(mZ (bw f)).aY ⟨16,0,0,((jc (bw f)).length:Int),[],0⟩=M1 at MA oO U0 UZ;refine⟨(M1,()),⟨rfl,rfl,?_,?_,?_,?_⟩,?_⟩
   .simp only[oO];show M1.bg.length+2*bM (bw f).bC+1<4194304;omega
   .simp only[oO];exact a_.2.1
   .simp only[oO];exact a_.2.2.1
   .simp only[oO];exact H4.1
   have Eg:(M1.i_ 0 M1.f.bC).f=bw f:=by rw[(cg.i_ M1.f.bC 0 M1).f];exact oO
   have K':=(cg.i_ M1.f.bC 0 M1).tH;rw[oO]at K';have Xm:=Xh (eu (bw f)) (fW (bw f)) (qm (bw f) (eu (bw f))) (bw f).aZ 0 ((jc (bw f)).length:Int) (M1.i_ 0 M1.f.bC);refine⟨(M1.i_ 0 M1.f.bC,eu (bw f),fW (bw f),qm (bw f) (eu (bw f))),⟨rfl,rfl,?_,?_⟩,?_⟩
   .simp only[Eg];rw[oO];have:=K'.2;omega
   .simp only[Eg];exact QC
   obtain⟨E,hE⟩:∃E,E=Em.aZ (eu (bw f)) (fW (bw f)) (qm (bw f) (eu (bw f))) 0 ((jc (bw f)).length:Int) (M1.i_ 0 M1.f.bC) (M1.i_ 0 M1.f.bC).f.aZ:=⟨_,rfl⟩;have hM:Em.aZ (eu (bw f)) (fW (bw f)) (qm (bw f) (eu (bw f))) 0 ((jc (bw f)).length:Int) (M1.i_ 0 M1.f.bC) (M1.i_ 0 M1.f.bC).f.aZ=lx (bw f):=by rw[lx,MA]
   have El:=hE.trans hM;have hG:(lx (bw f)).bg.length<240000/\gS (lx (bw f)).bg<(fW (bw f)).length:=by rw[<-hM,Eg];rw[oO]at Xm⊢;exact⟨by omega,by omega⟩
   refine iF (λh=>?_) (λh=>iF (λh'=>?_) (λh'=>iF (λh6=>?_) (λh6=>?_)))
   .have h:(lx (bw f)).iL=true:=by rw[<-hM];exact h
    exact yh 2 (by rw[mn,aO (.inl h)]) (by decide)
   .have h':=dQ h';have h':aE E.bg.length>131072:=by rw[hE];exact h'
    have h':(lx (bw f)).bg.length>131072:=by rw[El]at h';simp only[sa]at h';omega
    exact yh 2 (by rw[mn,aO (.inr (.inl h'))]) (by decide)
   .have h6:=dQ h6;have h6:(jc (bw f)).length>4096:=by simp only[sa]at h6;have h6:=h6;omega
    exact yh 2 (by rw[mn,aO (.inr (.inr h6))]) (by decide)
   .have h:E.iL=false:=by rw[hE];exact h
    have h:¬(lx (bw f)).iL=true:=by rw[El]at h;rw[h];simp
    have h':=ez h';have h':¬aE E.bg.length>131072:=by rw[hE];exact h'
    have h':¬(lx (bw f)).bg.length>131072:=by rw[El]at h';simp only[sa]at h';omega
    have h6:=ez h6;have h6:¬(jc (bw f)).length>4096:=by simp only[sa]at h6;have h6:=h6;omega
    have zV:mn (bw f)=mU (lx (bw f)).bg (fW (bw f)):=by
     rw[mn,az];rintro(hh|hh|hh)
     .exact h hh
     .exact h' hh
     .exact h6 hh
    refine⟨((lx (bw f)).bg,fW (bw f)),⟨by rw[<-hM];rfl,by rw[<-hM];rfl,hG.1,hG.2,by simp only;rw[nr];omega⟩,iF (λh0=>?_) (λh0=>?_)⟩
    .have h0:(mn (bw f)).2≠0:=by rw[zV];simpa using h0
     have:=yh _ rfl h0;rw[zV]at this;exact this
    .have h0:(mn (bw f)).2=0:=by rw[zV];simpa using h0
     have e:=okc h0;rw[zV]at e;cases hT:f.bC with
     |nil=>
      refine iF (λhz=>?_) (λhz=>?_)
      .have hz:=dQ hz;have hz:aE f.bC.length>0:=hz;rw[hT]at hz;simp at hz
      .rw[e,uz,uy,aO rfl,aO rfl,hT];exact⟨rfl,rfl⟩
     |cons t T=>
      obtain⟨k,n,s,ls⟩:=t;refine iF (λhz=>?_) (λhz=>?_)
      .refine⟨by show 0<f.bC.length;rw[hT];simp,k,n,s,aF ls,ls.length,?_,(k,n,s,aF ls,ls.length),⟨rfl,rfl⟩,?_⟩
       .show((aF f.bC).drop 0).take 4=_;rw[hT];rfl
       .rw[e,uz,uy,aO rfl,aO rfl,hT];exact⟨rfl,rfl⟩
      .have hz:=ez hz;have hz:¬aE f.bC.length>0:=hz;rw[hT]at hz;simp at hz
  .have MA:rT (bw f)=mZ (bw f):=by have he:=he;rw[rT,he];rfl
   have oO:(mZ (bw f)).f=bw f:=rfl;have U0:(mZ (bw f)).bg.length<=1:=by simp[mZ]
   have UZ:gS (mZ (bw f)).bg=0:=by simp[mZ,gS]
   rw[e0];generalize hM1:mZ (bw f)=M1 at MA oO U0 UZ;refine⟨(M1,()),⟨rfl,rfl,?_,?_,?_,?_⟩,?_⟩
   .simp only[oO];show M1.bg.length+2*bM (bw f).bC+1<4194304;omega
   .simp only[oO];exact a_.2.1
   .simp only[oO];exact a_.2.2.1
   .simp only[oO];exact H4.1
   have Eg:(M1.i_ 0 M1.f.bC).f=bw f:=by rw[(cg.i_ M1.f.bC 0 M1).f];exact oO
   have K':=(cg.i_ M1.f.bC 0 M1).tH;rw[oO]at K';have Xm:=Xh (eu (bw f)) (fW (bw f)) (qm (bw f) (eu (bw f))) (bw f).aZ 0 ((jc (bw f)).length:Int) (M1.i_ 0 M1.f.bC);refine⟨(M1.i_ 0 M1.f.bC,eu (bw f),fW (bw f),qm (bw f) (eu (bw f))),⟨rfl,rfl,?_,?_⟩,?_⟩
   .simp only[Eg];rw[oO];have:=K'.2;omega
   .simp only[Eg];exact QC
   obtain⟨E,hE⟩:∃E,E=Em.aZ (eu (bw f)) (fW (bw f)) (qm (bw f) (eu (bw f))) 0 ((jc (bw f)).length:Int) (M1.i_ 0 M1.f.bC) (M1.i_ 0 M1.f.bC).f.aZ:=⟨_,rfl⟩;have hM:Em.aZ (eu (bw f)) (fW (bw f)) (qm (bw f) (eu (bw f))) 0 ((jc (bw f)).length:Int) (M1.i_ 0 M1.f.bC) (M1.i_ 0 M1.f.bC).f.aZ=lx (bw f):=by rw[lx,MA]
   have El:=hE.trans hM;have hG:(lx (bw f)).bg.length<240000/\gS (lx (bw f)).bg<(fW (bw f)).length:=by rw[<-hM,Eg];rw[oO]at Xm⊢;exact⟨by omega,by omega⟩
   refine iF (λh=>?_) (λh=>iF (λh'=>?_) (λh'=>iF (λh6=>?_) (λh6=>?_)))
   .have h:(lx (bw f)).iL=true:=by rw[<-hM];exact h
    exact yh 2 (by rw[mn,aO (.inl h)]) (by decide)
   .have h':=dQ h';have h':aE E.bg.length>131072:=by rw[hE];exact h'
    have h':(lx (bw f)).bg.length>131072:=by rw[El]at h';simp at h';omega
    exact yh 2 (by rw[mn,aO (.inr (.inl h'))]) (by decide)
   .have h6:=dQ h6;have h6:(jc (bw f)).length>4096:=by simp at h6;have h6:=h6;omega
    exact yh 2 (by rw[mn,aO (.inr (.inr h6))]) (by decide)
   .have h:E.iL=false:=by rw[hE];exact h
    have h:¬(lx (bw f)).iL=true:=by rw[El]at h;rw[h];simp
    have h':=ez h';have h':¬aE E.bg.length>131072:=by rw[hE];exact h'
    have h':¬(lx (bw f)).bg.length>131072:=by rw[El]at h';simp at h';omega
    have h6:=ez h6;have h6:¬(jc (bw f)).length>4096:=by simp only[sa]at h6;have h6:=h6;omega
    have zV:mn (bw f)=mU (lx (bw f)).bg (fW (bw f)):=by
     rw[mn,az];rintro(hh|hh|hh)
     .exact h hh
     .exact h' hh
     .exact h6 hh
    refine⟨((lx (bw f)).bg,fW (bw f)),⟨by rw[<-hM];rfl,by rw[<-hM];rfl,hG.1,hG.2,by simp only;rw[nr];omega⟩,iF (λh0=>?_) (λh0=>?_)⟩
    .have h0:(mn (bw f)).2≠0:=by rw[zV];simpa using h0
     have:=yh _ rfl h0;rw[zV]at this;exact this
    .have h0:(mn (bw f)).2=0:=by rw[zV];simpa using h0
     have e:=okc h0;rw[zV]at e;cases hT:f.bC with
     |nil=>
      refine iF (λhz=>?_) (λhz=>?_)
      .have hz:=dQ hz;have hz:aE f.bC.length>0:=hz;rw[hT]at hz;simp at hz
      .rw[e,uz,uy,aO rfl,aO rfl,hT];exact⟨rfl,rfl⟩
     |cons t T=>
      have⟨k,n,s,ls⟩:=t;refine iF (λhz=>?_) (λhz=>?_)
      .refine⟨by show 0<f.bC.length;rw[hT];simp,k,n,s,aF ls,ls.length,?_,(k,n,s,aF ls,ls.length),⟨rfl,rfl⟩,?_⟩
       .show((aF f.bC).drop 0).take 4=_;rw[hT];rfl
       .rw[e,uz,uy,aO rfl,aO rfl,hT];exact⟨rfl,rfl⟩
      .have hz:=ez hz;have hz:¬aE f.bC.length>0:=hz;rw[hT]at hz;simp at hz
theorem akk(cs):(List.brecOn.go (motive:=λ_=>Nat->Option AV) cs List.get?Internal._f).1 (0*1)=cw Z 3 cs 0:=by kernel_rfl
theorem yf:∀a b,bD (a++b)=bD a++bD b
 |[],b=>rfl
 |x::a,b=>by simp[bD,yf a b]
theorem qV:∀a,(bD a).length=a.length*6
 |[]=>rfl
 |x::a=>by simp[bD,KF,qV a];omega
def l7(g:bG)(c:AV):List (Nat×bk):=[(0,dx g),(1,zx),(2,.aj [.ai 6 (eu g).cy.length 1,.ai 5 (eu g).bz.length 1,.ai 7 (eu g).aR.length 1] 153),(3,bK (fW g) 3),
 (4,.aj [c,.ab g.aN.cL,J g.aN.ar,J g.aN.au,.ad (aF g.bC) g.bC.length 4,.ad (bD g.aZ) g.aZ.length 6,.aA 8,.aA 9,.aA 10,.aA 11,J ((fW g).getD 0 0),.ao false] 162),
 (5,bK (eu g).bz 2),(6,bK (eu g).cy 3),(7,bK (eu g).aR 3),(8,.bm (bJ J 0 (uR g)) (uR g).length true),(9,.bm [] 0 true),(10,.bm [] 0 true),(11,.bm [] 0 true)]
def t7(id:Int)(g:bG)(i:Int):Tr AV:=Jk id (fW g).length (eu g).bz.length i
def ps7:List (Nat×Nat):=[(0,0),(1,1),(2,2),(3,3),(4,4),(5,5),(6,6),(7,7),(12,8),(8,9),(9,10),(10,11),(11,12)]
theorem aDc(g):l9 0 [0,1,2,3,4,5] (al (l7 g (.ai 12 0 6)++[(12,.ay [] 56)]) (12+1))=some ⟨ps7,Xs g (eu g) (fW g) ⟨[],g,uR g,[],[],[],(fW g).getD 0 0,false⟩⟩:=by kernel_rfl
theorem aDi(id g i):qJ (iz ps7) (t7 id g i) [1,2,4,8,9,10,68,69,70]=some (t7 id g i):=by kernel_rfl
theorem ayU(hv:jM f=true)(dE:¬(id<1\/id>1099511627776))(hf:iW f)(QM:bM f.bC+fg f.aZ<72000)(Ie:f.aZ.length<=10000):
 br Z 52 152 0 (uz (gp f id)) (uy (gp f id)) (t7 id (bw f) 0) (al (l7 (bw f) .aJ) 12) (aw Z 52 1):=by
 have:=ayS hv dE hf QM Ie ([],jc (bw f),[]) ⟨rfl,rfl⟩;refine sS (H':=al (l7 (bw f) (.ai 12 0 6)++[(12,.ay [] 56)]) (12+1)) ?_ (vD (g:=4) (l:=l7 (bw f) .aJ) (ep:=[.ai 12 0 6,.ab (bw f).aN.cL,J (bw f).aN.ar,J (bw f).aN.au,.ad (aF (bw f).bC) (bw f).bC.length 4,.ad (bD (bw f).aZ) (bw f).aZ.length 6,.aA 8,.aA 9,.aA 10,.aA 11,J ((fW (bw f)).getD 0 0),.ao false]) rfl (λi=>by simp only[l7,cN];by_cases h:i=4<;>simp[h]) rfl (λφ x hx=>by obtain⟨v,l,rfl,h1,h2⟩:=hx;exact⟨v,l,rfl,qN h1,h2⟩) ⟨rfl,rfl⟩) (by kernel_rfl);exact cb.sm (by kernel_rfl) (aDc (bw f)) (aDi id (bw f) 0) this
theorem ayQ(hv:jM f=true)(dE:¬(id<1\/id>1099511627776))(hf:iW f)(QM:bM f.bC+fg f.aZ<72000)(Ie:f.aZ.length<=10000):
 ∀k:fO×fO,(k.1++k.2=f.aZ/\kL f.aZ=k.1++kL k.2)->
 br Z 52 152 0 (uz (gp f id)) (uy (gp f id)) (S1 id f.aZ f.aZ.length (k.1.length:Int)) (La f) (aw Z 52 0):=by
 have eM:=ayU hv dE hf QM Ie;have a_:=aeT hf;have YS:=aeU hv;have QN:bM (bw f).bC+fg (bw f).aZ<400000:=by have:=Wm f.aZ;show bM f.bC+fg (kL f.aZ)<400000;omega
 have wN:(bw f).aZ.length<1200000:=by have:=Pc f.aZ;show(kL f.aZ).length<1200000;omega
 have nr:0<(fW (bw f)).length:=by rw[fW,O1];omega
 have HI:=n7 nr;rw[qel]at HI;have bS:=hf.2.2.2.1;refine dS (λk=>k.2.length) _ _ _ _ ?_;rintro⟨A,B⟩ ⟨h1,h2⟩ ih;simp only at h1 h2 ih⊢;have wE:A.length+B.length=f.aZ.length:=by rw[<-h1];simp
 refine hE OF ayP ?_;refine iF (λh=>?_) (λh=>?_)
 .have h:=dQ h;cases B with
  |nil=>simp at wE;simp at h;omega
  |cons g B=>
   have ax:A.length<f.aZ.length:=by simp at wE;omega
   have⟨k,nm,ar,au,ls,v,he,bX,aER⟩:=By ax hf.2.2.2.2;have hg:f.aZ[A.length]=g:=by simp[<-h1]
   rw[hg]at he;have hw:=lh bS ax;refine⟨A.length,rfl,ax,k,nm,ar,au,_,_,v,bX,iF (λhk=>?_) (λhk=>?_)⟩
   .have hk:g.eO=5:=by rw[he];simpa using hk
    have hc:kL f.aZ=A++[g]:=by rw[h2];simp[kL,hk]
    have ex:f.aZ=(A++[g])++B:=by rw[<-h1];simp
    have e1:((bD f.aZ).drop 0).take ((A.length+1-0)*6)=bD (bw f).aZ:=by show _=bD (kL f.aZ);rw[hc,xf,ex,yf];exact xm (by rw[qV];simp)
    have e2:A.length+1-0=(bw f).aZ.length:=by show _=(kL f.aZ).length;rw[hc];simp
    refine⟨A.length+1,hw,⟨gq _,by omega⟩,?_⟩;rw[e1,e2];refine⟨bw f,⟨rfl,rfl,a_,YS,QN⟩,bw f,⟨rfl,rfl,a_,wN⟩,nr,(fW (bw f)).getD 0 0,HI,bw f,⟨rfl,rfl,a_⟩,(akk _).trans HI,rfl,?_⟩;exact eM
   .have hk:g.eO≠5:=by rw[he];simpa using hk
    rw[hw];have:=ih (A++[g],B) ⟨by rw[<-h1];simp,by rw[h2];simp[kL,hk]⟩ (by simp);simp at this;exact this
 .have h:=ez h;cases B with
  |cons g B=>simp at wE;simp at h;omega
  |nil=>
   have hc:bw f=f:=by
    have:kL f.aZ=f.aZ:=by rw[h2];simpa[kL]using h1
    have⟨p,a,g⟩:=f;simp only[bw]at this⊢;rw[this]
   rw[hc]at a_ YS QN wN nr HI eM;refine⟨f,⟨rfl,rfl,a_,YS,QN⟩,f,⟨rfl,rfl,a_,wN⟩,nr,(fW f).getD 0 0,HI,f,⟨rfl,rfl,a_⟩,(akk _).trans HI,rfl,?_⟩;exact eM
end
theorem anL{φ a b c d e f g h n x y}(hx:VR φ (.aC [.ah [a,b,c,d,e,f,g,h,.aJ],y]) x):VR φ (.aC [.ah [a,b,c,d,e,f,g,h,.ai n 0 6],y]) x:=by obtain⟨cs,rfl,v1,l1,gC,⟨oQ,rfl,w1,m1,asb,q1,w2,m2,rfl,q2,w3,m3,rfl,q3,w4,m4,rfl,q4,w5,m5,rfl,q5,w6,m6,rfl,q6,w7,m7,rfl,q7,w8,m8,rfl,q8,w9,m9,rfl,q9,q10⟩,rest⟩:=hx;exact⟨cs,rfl,_,l1,gC,⟨oQ,rfl,w1,_,asb,q1,w2,_,rfl,q2,w3,_,rfl,q3,w4,_,rfl,q4,w5,_,rfl,q5,w6,_,rfl,q6,w7,_,rfl,q7,w8,_,rfl,q8,w9,_,rfl,qN q9,q10⟩,rest⟩
theorem avN{fn args r}(hr:r.2≠0->r.1=Dh)(h:bZ Z fn args an (uz r) (uy r)):bZ Z fn args an (.aC [.ah (yd r.1 (.ai 0 r.1.gi.length 6)),J r.2]) (hB r.1):=by
 by_cases h0:r.2=0
 .rw[uz,uy,aO h0,aO h0]at h;exact h
 .rw[uz,uy,az h0,az h0]at h;rw[hr h0];exact Bf h (IE (.ay [] 56) rfl) (cM _) (λφ aQ hR x hx=>by subst hR;exact anL hx)
theorem Vj:aU Z Vi:=by
 refine cA OF ?_;rintro⟨f,id⟩ args H ⟨rfl,rfl,hf,hs⟩;simp;have hz:(gp f id).2≠0->(gp f id).1=Dh:=by
  unfold gp;split
  .intro _;rfl
  .split
   .intro _;rfl
   .intro h;exact absurd rfl h
 refine avN hz ?_;refine eE 152 OF ayT ?_;have VS:jM f=false\/id<1\/id>1099511627776->fA (uz (gp f id)) (uy (gp f id)) (.aC [.ah (yd Dh .aJ),J 1]) an:=by intro h;rw[gp,aO h];exact⟨rfl,rfl⟩
 have hd:=Pe jM f;refine⟨⟨rfl,⟨f,rfl,hf⟩⟩,iF (λh=>?_) (λh=>iF (λh2=>?_) (λh2=>iF (λh3=>?_) (λh3=>?_)))⟩
 .have h:=h;rw[hd]at h;exact VS (.inl (by simpa using h))
 .exact VS (.inr (.inl (dQ h2)))
 .exact VS (.inr (.inr (dQ h3)))
 .have h:=h;rw[hd]at h;have hv:jM f=true:=by simpa using h
  have h2:=ez h2;have h3:=ez h3;have⟨s1,s2⟩:=hs hv;exact ayQ hv (by omega) hf s1 s2 ([],f.aZ) ⟨rfl,rfl⟩
end
end Go.Cl
namespace Go.Ev
def Wk(a b:AV):Prop:=∀φ x,VR φ a x->VR φ b x
def iS(a b:LV):Prop:=∀φ l,bp φ a l->bp φ b l
theorem Wk.refl(a):Wk a a:=λ_ _ h=>h
theorem iS.oq(a):iS a a:=λ_ _ h=>h
theorem iS.xO{a b m l}(h:Wk a b)(t:iS m l):iS (a::m) (b::l):=by rintro φ l ⟨x,l',rfl,h1,h2⟩;exact⟨x,l',rfl,h _ _ h1,t _ _ h2⟩
theorem adE{φ c}:∀{a l},bp φ (a++c) l->∃l1 l2,l=l1++l2/\bp φ a l1/\bp φ c l2
 |[],l,h=>⟨[],l,rfl,rfl,h⟩
 |x::a,l,h=>by obtain⟨v,l',rfl,h1,h2⟩:=h;obtain⟨l1,l2,rfl,h3,h4⟩:=adE h2;exact⟨v::l1,l2,rfl,⟨v,l1,rfl,h1,h3⟩,h4⟩
theorem iS.mh{a b c d}(h:iS a b)(t:iS c d):iS (a++c) (b++d):=by intro φ l hl;obtain⟨l1,l2,rfl,h1,h2⟩:=adE hl;exact(h _ _ h1).wi (t _ _ h2)
theorem Wk.agg{a b}(h:iS a b):Wk (.ah a) (.ah b):=by rintro φ x hx;obtain⟨cs,rfl,h1⟩:=hx;exact⟨cs,rfl,h _ _ h1⟩
theorem Wk.FU{a b}(h:iS a b):Wk (.aC a) (.aC b):=by rintro φ x hx;obtain⟨cs,rfl,h1⟩:=hx;exact⟨cs,rfl,h _ _ h1⟩
theorem Wk.ta(sz):Wk .aJ (.ad [] 0 sz):=by intro φ x hx;simp only[VR]at hx⊢;subst hx;exact⟨none,0,rfl,by simp,.inl trivial⟩
theorem iS.ta(sz){m l}(t:iS m l):iS (.aJ::m) (.ad [] 0 sz::l):=iS.xO (Wk.ta sz) t
theorem iS.fE{a m l}(t:iS m l):iS (a::m) (a::l):=iS.xO (Wk.refl a) t
theorem aDr(m H):lL m H H (λφ aQ=>aQ=φ):=⟨cM _,λφ bs w _ hw=>⟨φ,hw,⟨jh.zj _ _,.of rfl rfl⟩,rfl⟩⟩
theorem tS{P f args H0 H v v1}(h:bZ P f args H0 v H)(hw:Wk v v1)(cu:H0.bx<=H.bx)(pS:ju v=.gk v:=by rfl):bZ P f args H0 v1 H:=
 Bf h (aDr _ _) cu (λφ aQ hR x hx=>by subst hR;exact hw _ _ hx) pS
theorem WZ{P S f W e one ok}(h:aU P (bR f (ca e one ok) S)){w:W}{args H}(hp:e.bn w args H)(a_:ok args H=true)(cE:f≠999999:=by first|assumption|decide):
 bZ P f args H (e.v w) (e.aK w):=by
 have hx:∃w,e.bn w args H:=⟨w,hp⟩;have h1:=h.1 f args H (e.bn hx.choose args H) (e.v hx.choose) (e.aK hx.choose) cE (by simp only[oS,bR,k7,cond_true,ca,a_,sC];rw[dif_pos hx]) hx.choose_spec;have h2:=one hx.choose w args H hx.choose_spec hp;simp at h2;rw[h2.1,h2.2]at h1;exact h1
theorem aut{m0 g n xx l l' vs ep el}(hg:cN l g=some (.aj vs el))(hl:∀id,cN l' id=if id=g then some (.aj ep el)else cN l id)(hr:iS vs ep)(bS:ep.length=vs.length/\ep.all AV.cX=vs.all AV.cX):
 lL m0 (eg xx l n) (eg xx l' n) (λφ aQ=>aQ=φ):=by
 refine⟨cM n,λφ bs w cu hw=>⟨φ,⟨?_,?_,hw.lt,?_,hw.se rfl rfl rfl (λ_ _=>rfl) λid ob e h1 l1 h2=>.inl ?_⟩,⟨jh.zj _ _,.of rfl rfl⟩,rfl⟩⟩
 .intro id ob e k1 k2;rw[eh,hl]at k1;by_cases dE:id=g
  .rw[aO dE]at k1;cases k1;obtain⟨o,q1,q2⟩:=hw.ew id _ e (by rw[eh,dE];exact hg) k2;refine⟨o,q1,?_⟩;obtain⟨cs,gO,rfl,a1,a2,a3,a4⟩:=q2;exact⟨cs,gO,rfl,a1,by rw[bS.1];exact a2,by rw[bS.1];exact hr _ _ a3,by rw[bS.2];exact a4⟩
  .rw[az dE]at k1;exact hw.ew id ob e (by rw[eh];exact k1) k2
 .have l6:∀{id ob},(eg xx l' n).bf id=some ob->ob.aR=true->∃dV,(eg xx l n).bf id=some dV/\dV.aR=true:=by
   intro id ob k1 k2;rw[eh,hl]at k1;by_cases dE:id=g
   .exact⟨_,by rw[eh,dE];exact hg,rfl⟩
   .rw[az dE]at k1;exact⟨ob,by rw[eh];exact k1,k2⟩
  intro id g_ ob bB e e' k1 l1 k2 k3 l2 k4 hb;have⟨o1,q1,q2⟩:=l6 k1 l1;have⟨o2,q3,q4⟩:=l6 k3 l2;exact hw.jg id g_ o1 o2 e e' q1 q2 k2 q3 q4 k4 hb
 .intro id ob k1;rw[eh,hl]at k1;by_cases dE:id=g
  .rw[dE];exact hw.nx g (.aj vs el) (by rw[eh];exact hg)
  .rw[az dE]at k1;exact hw.nx id ob (by rw[eh];exact k1)
 .rw[eh,hl]at h1;by_cases dE:id=g
  .exact⟨id,_,e,by rw[eh,dE];exact hg,rfl,h2,rfl⟩
  .rw[az dE]at h1;exact⟨id,ob,e,by rw[eh];exact h1,l1,h2,rfl⟩
theorem DT{P f args H0 v xx g n l vs el}(h:bZ P f args H0 v (eg xx l n))(hg:cN l g=some (.aj vs el))(hp:vs.all eG=true)(cu:H0.bx<=n)(pS:ju v=.gk v:=by rfl)(qv:cN (zc g (.ay vs el) l) g=some (.ay vs el):=by rfl):
 bZ P f args H0 (gT g vs v) (eg xx (sI g vs (zc g (.ay vs el) l)) n):=
 tR (Bf h (Mp hg (λφ e o h=>rQ hp h) rfl) cu (λφ aQ hR x hx=>by subst hR;exact hx) pS) qv cu pS
def aaP(r:Nat->Option Nat):List (Nat×AV)->Option (List (Nat×AV))
 |[]=>some []
 |(s,a)::l=>match eC r a,aaP r l with
  |some a',some l'=>some ((s,a')::l')
  |_,_=>none
theorem ai1{r}:∀{l l'},aaP r l=some l'->∀i a',(aB l').bT i=some a'->∃a,(aB l).bT i=some a/\eC r a=some a'
 |[],l',h,i,a',hg=>by cases h;rw[nG]at hg;cases hg
 |(s,a)::l,l',h,i,a',hg=>by
  simp only[aaP]at h;split at h;next b l2 h1 h2=>
   cases h;rw[nG,yI]at hg;rw[nG,yI];by_cases hs:i=s
   .rw[aO hs]at hg⊢;cases hg;exact⟨a,rfl,h1⟩
   .rw[az hs]at hg⊢;rw[<-nG]at hg⊢;exact ai1 h2 i a' hg
  .cases h
end Go.Ev
namespace Go.Cl
abbrev RT:=Go.Ev.Tr Go.Ev.AV->Go.Ev.AH->Prop
abbrev PT:=Go.Ev.AV->Go.Ev.Tr Go.Ev.AV->Go.Ev.AH->Prop
end Go.Cl
namespace Go.Cl
open Go.Ev Go.Proofs
noncomputable section
def ah8(N:Nat)(cells:LV):Prop:=∃t,aW t=cells/\bL t/\iV t=true/\bN t<N
def ah9(cells:LV):Prop:=∃t,aW t=cells/\bL t/\iV t=true
theorem Be:∀a b:eK,aF (a++b)=aF a++aF b
 |[],b=>rfl
 |t::a,b=>by simp[aF,Be a b]
theorem RC:∀{l i} (h:i<l.length),pV l=true->iV l[i]=true
 |[],i,h,_=>by simp at h
 |t::l,0,h,ho=>by simp only[pV,dk]at ho;exact ho.1
 |t::l,i+1,h,ho=>by simp only[pV,dk]at ho;exact RC (l:=l) (by simpa using h) ho.2
def iB:aI:=.mk 0 0 [] []
def dj(t:aI):aI:=if eJ t then t else iB
def ij(t:aI):LV:=[J t.cq,J t.n,.ab t.cK,.ad (aF t.bh) t.bh.length 4]
theorem zG(t):ij t=aW t:=by cases t;rfl
def ahN:LV->Option (Prop×AV)
 |[.ah [.bU .i64 k,.bU .i64 n,.ab s,.ad cs len 4]]=>some (True,.ah [J k,J n,.ab s,.ad cs len 4])
 |_=>none
def OM(N:Nat):LV->Option (Prop×AV)
 |[.ah [.bU .i64 k,.bU .i64 n,.ab s,.ad cs len 4],.ba (.func 78) [] []]=>some (ah8 N [J k,J n,.ab s,.ad cs len 4],.ah [J k,J n,.ab s,.ad cs len 4])
 |_=>none
def adN:LV->Option (Prop×AV)
 |[.ah [.bU .i64 k,.bU .i64 n,.ab s,.ad cs len 4],.ba (.func 78) [] []]=>some (ah9 [J k,J n,.ab s,.ad cs len 4],.ah [J k,J n,.ab s,.ad cs len 4])
 |_=>none
def V_:cx aI where
 bn t A H:=A=[.ah (aW t)]/\H=an/\bL t
 v t:=.ah (ij (dj t))
 aK t:=an
theorem ao5:V_.cr:=by rintro t t' A H ⟨h1,_⟩ ⟨h2,_⟩;rw[h1]at h2;simp at h2;rw[m_ h2]
def K1:Ev.bo:=e9 78 (fK ahN) Vi
def Oi(N:Nat):Ev.bo:=e9 67 (fK (OM N)) K1
def K2:Ev.bo:=e9 67 (fK adN) K1
def K3:Ev.bo:=bR 50 (ca V_ ao5 cD) K2
def en(k n:Int)(s:LN)(cs:LV)(len:Nat):bk:=.aj [J k,J n,.ab s,.ad cs len 4] 49
def vX:bk:=.aj [J 0,J 0,.ab [],.aJ] 49
def l5(k n:Int)(s:LN)(a:AV):bk:=.aj [J k,J n,.ab s,a] 49
def Ce:Nat->LN:=fT [(5,[1,4,5,22,23,24])]
def Xp(k n:Int)(s:LN)(ds:LV)(m:Nat):AH:=al [(0,vX),(1,l5 k n s (.ai 2 m 4)),(2,.ay ds 49)] 3
theorem aBA{k n s cs len L Q}:
 bI Z Vi (λ_=>[]) L Q 1000 78 [.ah [J k,J n,.ab s,.ad cs len 4]] an=(
 Q (.ah [J k,J n,.ab s,.ad cs len 4]) an):=by kernel_rfl
theorem alO{k n s cs len N L Q}:
 bI Z (Oi N) Ce L Q 1000 67 [.ah [J k,J n,.ab s,.ad cs len 4],.ba (.func 78) [] []] an=(
 aq (k==0) ((al [] 0=an/\True)/\Q (.ah [J k,J n,.ab s,.ad cs len 4]) an) (L (aB [(1,.ba (.func 78) [] []),(4,.aa 0 0),(5,.aa 1 0),(22,.ad cs len 4),(23,J (aE len)),(24,J 0)]) (al [(0,l5 0 0 (du (ByteArray.mk (List.toArray []))) .aJ),(1,l5 k n s .aJ)] 2) (aw Z 67 0))):=by kernel_rfl
theorem aBq{k n s cs len i ds m N L Q}:
 ck Z (Oi N) Ce L Q 1000 67 0 (aB [(1,.ba (.func 78) [] []),(4,.aa 0 0),(5,.aa 1 0),(22,.ad cs len 4),(23,J (aE len)),(24,J i)]) (aw Z 67 0) (Xp k n s ds m)=(
 aq (decide (i<aE len)) (∃aL:Nat,i=(aL:Int)/\aL<len/\(∃aP:Int,∃bA:Int,∃cn:LN,∃bP:LV,∃bH:Nat,((cs.drop (aL*4)).take 4:List AV)=[J aP,J bA,.ab cn,.ad bP bH 4]/\(al [] 0=an/\ah8 N [J aP,J bA,.ab cn,.ad bP bH 4])/\some (.ai 2 m 4:AV)=some (.ai 2 m 4:AV)/\(ds.length=m*4/\m+1<=4194304/\true=true/\true=true)/\L (aB [(1,.ba (.func 78) [] []),(4,.aa 0 0),(5,.aa 1 0),(22,.ad cs len 4),(23,J (aE len)),(24,J (wI (i+1)))]) (Xp k n s (ds++[J aP,J bA,.ab cn,.ad bP bH 4]) (m+1)) (aw Z 67 0))) (Q (.ah [J k,J n,.ab s,.ai 0 m 4]) (al [(0,.ay ds 49)] 1))):=by kernel_rfl
theorem alL{k n s cs len L Q}:
 bI Z K2 (λ_=>[]) L Q 1000 50 [.ah [J k,J n,.ab s,.ad cs len 4]] an=(
 (al [] 0=an/\kU [J k,J n,.ab s,.ad cs len 4])/\aq (!ig eJ [J k,J n,.ab s,.ad cs len 4]) (Q (.ah [J 0,J 0,.ab (du (ByteArray.mk (List.toArray []))),.aJ]) an) ((al [] 0=an/\ah9 [J k,J n,.ab s,.ad cs len 4])/\Q (.ah [J k,J n,.ab s,.ad cs len 4]) an)):=by kernel_rfl
theorem acO:aU Z K1:=by
 refine jD Vj λargs q v h hq=>?_
 unfold ahN at h;split at h<;>cases h;refine eE 4 Vj aBA ?_;exact⟨rfl,rfl⟩
theorem aBp{k n s l N}(hS:aU Z (Oi N))(hv:pV l=true)(h8:l.length<=8)(ho:fy l)(hN:bM l<N):
 ∀i:Nat,i<=l.length->br Z 67 38 0 (.ah [J k,J n,.ab s,.ai 0 l.length 4]) (al [(0,.ay (aF l) 49)] 1)
  (aB [(1,.ba (.func 78) [] []),(4,.aa 0 0),(5,.aa 1 0),(22,.ad (aF l) l.length 4),(23,J (aE l.length)),(24,J (i:Int))]) (Xp k n s (aF (l.take i)) i) (aw Z 67 0):=by
 refine dS (λi=>l.length-i) _ _ _ _ ?_;rintro i hi ih;refine hE hS aBq ?_;refine aD.2 ⟨λax=>?_,λbu=>?_⟩
 .have ax:i<l.length:=by simpa using ax
  obtain⟨k1,n1,s1,l1,-,hg,bX,a_,cv⟩:=xw ax ho hN (P:=λ_=>True) trivial;have yy:=RC ax hv;rw[hg]at yy;have bS:(aF (l.take i)).length=i*4:=by rw[rV,vN];omega
  refine⟨i,rfl,ax,k1,n1,s1,aF l1,l1.length,bX,⟨rfl,_,rfl,a_,yy,cv⟩,rfl,⟨bS,by omega,rfl,rfl⟩,?_⟩;have e2:aF (l.take (i+1))=aF (l.take i)++[J k1,J n1,.ab s1,.ad (aF l1) l1.length 4]:=by rw[vR,ir ax,Be,hg];simp[aF,aW]
  rw[cO (by omega) (by omega),<-e2];exact ih (i+1) (by omega) (by omega)
 .have bu:l.length<=i:=by simpa using bu
  have:i=l.length:=by omega
  subst this;rw[vT];exact⟨rfl,rfl⟩
theorem azx{k n s m0}:lL m0 (al [(0,l5 0 0 (du (ByteArray.mk (List.toArray []))) .aJ),(1,l5 k n s .aJ)] 2) (al ([(0,vX),(1,l5 k n s (.ai 2 0 4))]++[(2,.ay [] 49)]) (2+1)) (λφ aQ=>aQ=φ):=
 vD (g:=1) rfl (λid=>by rcases id with _|_|_|id<;>rfl) rfl (λφ x hx=>Ch hx) ⟨rfl,rfl⟩
theorem aBo{k n s l N}(hS:aU Z (Oi N))(hv:iV (.mk k n s l)=true)(ho:bL (.mk k n s l))(hN:bM l<N):
 bZ Z 67 [.ah (aW (.mk k n s l)),.ba (.func 78) [] []] an (.ah (aW (.mk k n s l))) an:=by
 by_cases hk:k=0
 .subst hk;refine eS hS 1000 Ce 38 (by kernel_rfl) ?_;rw[aW,alO];exact aD.2 ⟨λ_=>⟨⟨rfl,trivial⟩,rfl,rfl⟩,λh=>(by cases h)⟩
 have h1:bZ Z 67 [.ah (aW (.mk k n s l)),.ba (.func 78) [] []] an (.ah [J k,J n,.ab s,.ai 0 l.length 4]) (al [(0,.ay (aF l) 49)] 1):=by refine eS hS 1000 Ce 38 (by kernel_rfl) ?_;rw[aW,alO];simp only[iV,dk]at hv;have h8:=Z1 hv.1;refine aD.2 ⟨λh=>absurd (by simpa using h) hk,λ_=>?_⟩;refine sS ?_ azx (by kernel_rfl);exact aBp hS hv.2 h8 ho.2.2 hN 0 (gq _)
 have h2:=tR (g:=0) h1 rfl (gq _);have h3:gT 0 (aF l) (.ah [J k,J n,.ab s,.ai 0 l.length 4])=.ah (aW (.mk k n s l)):=by have:(aF l).length=l.length*4:=rV _;simp[gT,qp,this,aW]
 rw[h3]at h2;exact nh h2 (by rfl) (by rfl)
theorem Uy:aU Z K2:=by
 refine R5 acO (sN:=OM) (R_ acO ?_ ?_) ?_
 .intro args q v h;unfold OM at h;split at h<;>cases h;rintro⟨t,_,_,_,h⟩;omega
 .intro N hS args q v h hq;unfold OM at h;split at h<;>cases h;have⟨⟨k,n,s,l⟩,h1,a_,hv,cv⟩:=hq;obtain⟨rfl,rfl,rfl,rfl,rfl⟩:=h1;simp only[bN]at cv;exact aBo hS hv a_ (by omega)
 .intro args q v h hq;unfold adN at h;split at h<;>cases h;have⟨t,h1,a_,hv⟩:=hq;exact⟨bN t+1,_,rfl,t,h1,a_,hv,by omega⟩
theorem abN:iS [J 0,J 0,.ab [],.aJ] (aW iB):=.fE (.fE (.fE (.ta 4 (.oq _))))
theorem Ns{t}(h:eJ t=true):iV t=true:=by unfold eJ at h;simp at h;exact h.2
theorem y'{t}(h:eJ t=true):bN t<=2000:=by unfold eJ at h;simp at h;exact h.1
theorem UH:aU Z K3:=by
 refine cA Uy ?_;rintro⟨k,n,s,l⟩ args H ⟨rfl,rfl,ho⟩;simp only[V_,zG];have hT:=mE ho;by_cases hv:eJ (.mk k n s l)=true
 .rw[dj,aO hv];refine eS Uy 1000 (λ_=>[]) 9 (by kernel_rfl) ?_;rw[aW,alL,jV,hv];exact⟨⟨rfl,hT⟩,aD.2 ⟨λh=>(by cases h),λ_=>⟨⟨rfl,_,rfl,ho,Ns hv⟩,rfl,rfl⟩⟩⟩
 .rw[dj,az hv];refine tS ?_ (.agg abN) (cM _);refine eS Uy 1000 (λ_=>[]) 9 (by kernel_rfl) ?_;rw[aW,alL,jV];have hv:eJ (.mk k n s l)=false:=by simpa using hv
  rw[hv];exact⟨⟨rfl,hT⟩,aD.2 ⟨λ_=>⟨rfl,rfl⟩,λh=>by cases h⟩⟩
def Il(l:LI)(n:Int):LI:=if n∈l then l else l++[n]
mutual
def nL:LI->aI->LI
 |l,.mk k n s ts=>if k=0 then Il l n else v9 l ts
def v9:LI->eK->LI
 |l,[]=>l
 |l,t::ts=>v9 (nL l t) ts
end
def mV(l:LI):List (Int×Int):=l.map λn=>(n,1)
def o9(l:LI):bk:=.bm (bJ J 0 (mV l)) (mV l).length true
def hV(l:LI):AH:=al [(0,.aj [.aA 2] 110),(1,.aj [.ai 3 l.length 1] 35),(2,o9 l),(3,bK l 2)] 4
def HF(l:LI):AH:=al [(0,.aj [.aA 2] 110),(1,.aj [.ai 4 l.length 1] 35),(2,o9 l),(3,.bc []),(4,bK l 2)] 5
def v1X:cx (LI×Int×Int×LN×LV×Nat)where
 bn w A H:=A=[.ah [J w.2.1,J w.2.2.1,.ab w.2.2.2.1,.ad w.2.2.2.2.1 w.2.2.2.2.2 4],.aa 0 0,.aa 1 0]/\H=hV w.1/\w.1.length<4000000
 v w:=.ah [J w.2.1,J w.2.2.1,.ab w.2.2.2.1,.ad w.2.2.2.2.1 w.2.2.2.2.2 4]
 aK w:=HF (Il w.1 w.2.2.1)
theorem agX{l m}(h:hV l=hV m):l=m:=by have:=congrArg (λH=>AH.bf H 3) h;exact AD (dw this)
theorem aCW:v1X.cr:=by rintro⟨l,k,n,s,cs,len⟩ ⟨l',k',n',s',cs',cB⟩ A H ⟨h1,h2,_⟩ ⟨h3,h4,_⟩;rw[h2]at h4;rw[h1]at h3;have:=agX h4;subst this;simp at h3;obtain⟨rfl,rfl,rfl,rfl,rfl⟩:=h3;rfl
def K4:Ev.bo:=bR 68 (ca v1X aCW cD) K3
def Vz(N:Nat):cx (LI×aI)where
 bn w A H:=A=[.ah (aW w.2),.ba (.func 68) [] [.aa 0 0,.aa 1 0]]/\H=hV w.1/\bL w.2/\iV w.2=true/\bN w.2<N/\w.1.length+bN w.2<4000000
 v w:=.ah (ij w.2)
 aK w:=HF (nL w.1 w.2)
theorem adP(N):(Vz N).cr:=by rintro⟨l,t⟩ ⟨l',t'⟩ A H ⟨h1,h2,_⟩ ⟨h3,h4,_⟩;rw[h2]at h4;rw[h1]at h3;have:=agX h4;subst this;simp at h3;rw[m_ h3]
def J3(N:Nat):Ev.bo:=bR 67 (ca (Vz N) (adP N) cD) K4
def Xq(l:LI)(k n:Int)(s:LN)(ds:LV)(m:Nat):AH:=al [(0,.aj [.aA 2] 110),(1,.aj [.ai 6 l.length 1] 35),(2,o9 l),(3,.bc []),(4,vX),(5,l5 k n s (.ai 7 m 4)),(6,bK l 2),(7,.ay ds 49)] 8
def gh(t:aI):LI:=if eJ t then nL [] t else[]
def vaX:cx aI where
 bn t A H:=A=[.ah (aW t)]/\H=an/\bL t
 v t:=.ad (aX (gh t)) (gh t).length 1
 aK t:=an
theorem aCZ:vaX.cr:=by rintro t t' A H ⟨h1,_⟩ ⟨h2,_⟩;rw[h1]at h2;simp at h2;rw[m_ h2]
def K5:Ev.bo:=bR 67 (ca (Vz 3000) (adP 3000) cD) K4
def K6:Ev.bo:=bR 42 (ca vaX aCZ cD) K5
def Mj:Nat->LN:=fT [(999997,[2000067]),(999998,[3,9,10])]
def h42:AH:=al [(0,.aj [.ai 3 0 1] 35),(1,.aj [.aA 2] 110),(2,.bm [] 0 true),(3,.ay [] 2)] 4
def t42(cells:LV):List (Nat×AV):=[(3,.aa 0 0),(9,.ah cells),(10,.ba (.func 68) [] [.aa 1 0,.aa 0 0])]
theorem alQ{l k n s cs len L Q}:
 bI Z K3 (λ_=>[]) L Q 1000 68 [.ah [J k,J n,.ab s,.ad cs len 4],.aa 0 0,.aa 1 0] (hV l)=(
 ∃aP b,eT Z 2 3 (bJ J 0 (mV l)) (J n)=some (J aP,b)/\aq (aP==0) (∃bF c',jX Z 2 (bJ J 0 (mV l)) (mV l).length (J n) (J 1)=some (bF,c')/\((aX l).length=l.length*1/\l.length+1<=4194304/\true=true/\true=true)/\Q (.ah [J k,J n,.ab s,.ad cs len 4]) (al [(0,.aj [.aA 2] 110),(1,.aj [.ai 4 (l.length+1) 1] 35),(2,.bm bF c' true),(3,.bc []),(4,.ay (aX l++[J n]) 2)] 5)) (Q (.ah [J k,J n,.ab s,.ad cs len 4]) (hV l))):=by kernel_rfl
theorem alP{l k n s cs len N L Q}:
 bI Z (J3 N) Ce L Q 1000 67 [.ah [J k,J n,.ab s,.ad cs len 4],.ba (.func 68) [] [.aa 0 0,.aa 1 0]] (hV l)=(
 aq (k==0) (∃w:LI×Int×Int×LN×LV×Nat,(([.ah [J k,J n,.ab s,.ad cs len 4],.aa 0 0,.aa 1 0]:LV)=[.ah [J w.2.1,J w.2.2.1,.ab w.2.2.2.1,.ad w.2.2.2.2.1 w.2.2.2.2.2 4],.aa 0 0,.aa 1 0]/\hV l=hV w.1/\w.1.length<4000000)/\Q (.ah [J w.2.1,J w.2.2.1,.ab w.2.2.2.1,.ad w.2.2.2.2.1 w.2.2.2.2.2 4]) (HF (Il w.1 w.2.2.1))) (L (aB [(1,.ba (.func 68) [] [.aa 0 0,.aa 1 0]),(4,.aa 4 0),(5,.aa 5 0),(22,.ad cs len 4),(23,J (aE len)),(24,J 0)]) (al [(0,.aj [.aA 2] 110),(1,.aj [.ai 3 l.length 1] 35),(2,o9 l),(3,bK l 2),(4,l5 0 0 (du (ByteArray.mk (List.toArray []))) .aJ),(5,l5 k n s .aJ)] 6) (aw Z 67 0))):=by kernel_rfl
theorem aBt{l k n s cs len i ds m N L Q}:
 ck Z (J3 N) Ce L Q 1000 67 4 (aB [(1,.ba (.func 68) [] [.aa 0 0,.aa 1 0]),(4,.aa 4 0),(5,.aa 5 0),(22,.ad cs len 4),(23,J (aE len)),(24,J i)]) (aw Z 67 0) (Xq l k n s ds m)=(
 aq (decide (i<aE len)) (∃aL:Nat,i=(aL:Int)/\aL<len/\(∃aP bA cn bP bH,((cs.drop (aL*4)).take 4:List AV)=[J aP,J bA,.ab cn,.ad bP bH 4]/\(∃w:LI×aI,(([.ah [J aP,J bA,.ab cn,.ad bP bH 4],.ba (.func 68) [] [.aa 0 0,.aa 1 0]]:LV)=[.ah (aW w.2),.ba (.func 68) [] [.aa 0 0,.aa 1 0]]/\hV l=hV w.1/\bL w.2/\iV w.2=true/\bN w.2<N/\w.1.length+bN w.2<4000000)/\some (.ai 7 m 4:AV)=some (.ai 7 m 4:AV)/\(ds.length=m*4/\m+1<=4194304/\true=true/\true=true)/\L (aB [(1,.ba (.func 68) [] [.aa 0 0,.aa 1 0]),(4,.aa 4 0),(5,.aa 5 0),(22,.ad cs len 4),(23,J (aE len)),(24,J (wI (i+1)))]) (Xq (nL w.1 w.2) k n s (ds++[J w.2.cq,J w.2.n,.ab w.2.cK,.ad (aF w.2.bh) w.2.bh.length 4]) (m+1)) (aw Z 67 0)))) (Q (.ah [J k,J n,.ab s,.ai 4 m 4]) (al [(0,.aj [.aA 2] 110),(1,.aj [.ai 5 l.length 1] 35),(2,o9 l),(3,.bc []),(4,.ay ds 49),(5,bK l 2)] 6))):=by kernel_rfl
theorem alJ{k n s cs len L Q}:
 bI Z K5 Mj L Q 1000 42 [.ah [J k,J n,.ab s,.ad cs len 4]] an=(
 (al [] 0=an/\kU [J k,J n,.ab s,.ad cs len 4])/\aq (!ig eJ [J k,J n,.ab s,.ad cs len 4]) (Q .aJ an) (L (aB [(3,.aa 0 0),(9,.ah [J k,J n,.ab s,.ad cs len 4]),(10,.ba (.func 68) [] [.aa 1 0,.aa 0 0])]) (al [(0,.aj [.aJ] 35),(1,.aj [.aA 2] 110),(2,.bm [] 0 true)] 3) (di Z Mj 42 0))):=by kernel_rfl
theorem aAZ{t:aI}{L Q}:
 ck Z K5 (λ_=>[]) L Q 1000 42 0 (aB (t42 [J t.cq,J t.n,.ab t.cK,.ad (aF t.bh) t.bh.length 4])) (di Z Mj 42 0) h42=(
 ∃w:LI×aI,(([.ah [J t.cq,J t.n,.ab t.cK,.ad (aF t.bh) t.bh.length 4],.ba (.func 68) [] [.aa 0 0,.aa 1 0]]:LV)=[.ah (aW w.2),.ba (.func 68) [] [.aa 0 0,.aa 1 0]]/\al [(0,.aj [.aA 2] 110),(1,.aj [.ai 3 0 1] 35),(2,.bm [] 0 true),(3,.ay [] 2)] 4=hV w.1/\bL w.2/\iV w.2=true/\bN w.2<3000/\w.1.length+bN w.2<4000000)/\Q (.ai 0 (nL w.1 w.2).length 1) (al [(0,bK (nL w.1 w.2) 2)] 1)):=by kernel_rfl
theorem Rd(n):∀l,lk n (mV l)=if n∈l then some 1 else none
 |[]=>rfl
 |x::l=>by
  have:=Rd n l;simp only[mV,gR,lk]at this⊢;by_cases h:n=x
  .subst h;simp
  .have h2:¬x=n:=λe=>h e.symm
   simp only[h,dm,false_or,if_false]at this⊢;exact this
theorem abG{n}:∀{l},n∉l->up n 1 (mV l)=mV (l++[n])
 |[],_=>rfl
 |x::l,h=>by simp at h;have:=abG h.2;simp only[mV,gR,oH,up]at this⊢;simp only[h.1,if_false];rw[this]
theorem arY(l):Mv (hV l) (HF l) 3:=qz (l':=[(0,.aj [.aA 2] 110),(1,.aj [.ai 4 l.length 1] 35),(2,o9 l),(3,.bc [])]) (by rfl) (by rfl) (by rfl)
theorem atk{l n}(h:n∉l):Il l n=l++[n]:=az h
theorem atl{l n}(h:n∈l):Il l n=l:=aO h
theorem anl:aU Z K4:=by
 refine cA UH ?_;rintro⟨l,k,n,s,cs,len⟩ args H ⟨rfl,rfl,hl⟩;simp only[v1X]at hl⊢;by_cases hn:n∈l
 .rw[atl hn];refine DU (v:=.ah [J k,J n,.ab s,.ad cs len 4]) ?_ (arY l) (by rfl) (by show(4:Nat)<=4;omega);refine eE 19 UH alQ ?_;refine⟨1,true,by rw[o7 J jv,Rd,aO hn],aD.2 ⟨λh=>(by cases h),λ_=>⟨rfl,rfl⟩⟩⟩
 .rw[atk hn];refine eE 19 UH alQ ?_;refine⟨0,false,by rw[o7 J jv,Rd,az hn,F2];rfl,aD.2 ⟨λ_=>⟨_,_,by rw[pk J jv,abG hn],⟨by simp[aX],by omega,rfl,rfl⟩,?_⟩,λh=>(by cases h)⟩⟩;refine⟨rfl,?_⟩;simp only[HF,o9,bK,Jb,cI,ej,gW]
mutual
theorem Te:∀(l:LI) (t:aI),(nL l t).length<=l.length+bN t
 |l,.mk k n s ts=>by
  have:=amw l ts;simp only[nL,bN,Il];split
  .split
   .omega
   .simp only[cI,ej,gW];omega
  .omega
theorem amw:∀(l:LI) (ts:eK),(v9 l ts).length<=l.length+bM ts
 |l,[]=>by simp[v9,bM]
 |l,t::ts=>by have h1:=Te l t;have h2:=amw (nL l t) ts;simp only[v9,bM];omega
end
theorem aBs{k n s ts N aH}(hS:aU Z (J3 N))(hv:pV ts=true)(h8:ts.length<=8)(ho:fy ts)(hN:bM ts<N):
 ∀p:Nat×LI,(p.1<=ts.length/\v9 p.2 (ts.drop p.1)=aH/\p.2.length+bM (ts.drop p.1)<4000000)->
 br Z 67 38 4 (.ah [J k,J n,.ab s,.ai 4 ts.length 4]) (al [(0,.aj [.aA 2] 110),(1,.aj [.ai 5 aH.length 1] 35),(2,o9 aH),(3,.bc []),(4,.ay (aF ts) 49),(5,bK aH 2)] 6)
  (aB [(1,.ba (.func 68) [] [.aa 0 0,.aa 1 0]),(4,.aa 4 0),(5,.aa 5 0),(22,.ad (aF ts) ts.length 4),(23,J (aE ts.length)),(24,J (p.1:Int))]) (Xq p.2 k n s (aF (ts.take p.1)) p.1) (aw Z 67 0):=by
 refine dS (λp=>ts.length-p.1) _ _ _ _ ?_;rintro⟨i,l⟩ ⟨hi,hf,hb⟩ ih;simp only at hi hf hb ih⊢;refine hE hS aBt ?_;refine aD.2 ⟨λax=>?_,λbu=>?_⟩
 .have ax:i<ts.length:=by simpa using ax
  obtain⟨k1,n1,s1,l1,-,hg,bX,a_,cv⟩:=xw ax ho hN (P:=λ_=>True) trivial;have yy:=RC ax hv;rw[hg]at yy;rw[fY ax,hg]at hf hb;rw[v9]at hf;rw[bM]at hb;have QR:=Te l (.mk k1 n1 s1 l1);have bS:(aF (ts.take i)).length=i*4:=by rw[rV,vN];omega
  refine⟨i,rfl,ax,k1,n1,s1,aF l1,l1.length,bX,(l,.mk k1 n1 s1 l1),⟨rfl,rfl,a_,yy,cv,by simp only;omega⟩,rfl,⟨bS,by omega,rfl,rfl⟩,?_⟩;have e2:aF (ts.take (i+1))=aF (ts.take i)++[J k1,J n1,.ab s1,.ad (aF l1) l1.length 4]:=by rw[vR,ir ax,Be,hg];simp[aF,aW]
  rw[cO (by omega) (by omega)];have:=ih (i+1,nL l (.mk k1 n1 s1 l1)) ⟨by simp only;omega,hf,by simp only;omega⟩ (by simp only;omega);simp only[e2]at this;exact this
 .have bu:ts.length<=i:=by simpa using bu
  have:i=ts.length:=by omega
  subst this;rw[gQ (cM _),v9]at hf;subst hf;rw[vT];exact⟨rfl,rfl⟩
theorem aBr{l k n s ts N}(hS:aU Z (J3 N))(hv:iV (.mk k n s ts)=true)(ho:bL (.mk k n s ts))(hN:bM ts<N)(hb:l.length+bN (.mk k n s ts)<4000000):
 bZ Z 67 [.ah (aW (.mk k n s ts)),.ba (.func 68) [] [.aa 0 0,.aa 1 0]] (hV l) (.ah (ij (.mk k n s ts))) (HF (nL l (.mk k n s ts))):=by
 by_cases hk:k=0
 .subst hk;refine eS hS 1000 Ce 38 (by kernel_rfl) ?_;rw[aW,alP];refine aD.2 ⟨λ_=>⟨(l,0,n,s,aF ts,ts.length),⟨rfl,rfl,by simp only[bN]at hb;simp only;omega⟩,rfl,?_⟩,λh=>(by cases h)⟩;rw[nL,aO rfl]
 have hvt:nL l (.mk k n s ts)=v9 l ts:=by rw[nL,az hk]
 have h1:bZ Z 67 [.ah (aW (.mk k n s ts)),.ba (.func 68) [] [.aa 0 0,.aa 1 0]] (hV l) (.ah [J k,J n,.ab s,.ai 4 ts.length 4]) (al [(0,.aj [.aA 2] 110),(1,.aj [.ai 5 (v9 l ts).length 1] 35),(2,o9 (v9 l ts)),(3,.bc []),(4,.ay (aF ts) 49),(5,bK (v9 l ts) 2)] 6):=by refine eS hS 1000 Ce 38 (by kernel_rfl) ?_;rw[aW,alP];simp only[iV,dk]at hv;have h8:=Z1 hv.1;simp only[bN]at hb;refine aD.2 ⟨λh=>absurd (by simpa using h) hk,λ_=>?_⟩;refine u9 (g:=3) ?_ (qz rfl rfl rfl) (by kernel_rfl) (ai1 (by rfl));refine sS (H':=al ([(0,.aj [.aA 2] 110),(1,.aj [.ai 6 l.length 1] 35),(2,o9 l),(3,.bc []),(4,vX),(5,l5 k n s (.ai 7 0 4)),(6,.ay (aX l) 2)]++[(7,.ay [] 49)]) (7+1)) ?_ (vD (g:=5) rfl (λid=>by rcases id with _|_|_|_|_|_|_|id<;>rfl) rfl (λφ x hx=>Ch hx) ⟨rfl,rfl⟩) (by kernel_rfl);exact aBs hS hv.2 h8 ho.2.2 hN (0,l) ⟨gq _,rfl,by simp;omega⟩
 have h2:=tR (g:=4) h1 rfl (by show(4:Nat)<=6;omega);have h3:gT 4 (aF ts) (.ah [J k,J n,.ab s,.ai 4 ts.length 4])=.ah (ij (.mk k n s ts)):=by have:(aF ts).length=ts.length*4:=rV _;simp[gT,qp,this,ij,aI.cq,aI.n,aI.cK,aI.bh]
 rw[h3]at h2;rw[hvt];exact nh (ps:=[(0,0),(1,1),(2,2),(3,3),(5,4)]) h2 (by kernel_rfl) (by kernel_rfl)
theorem anm:∀N,aU Z (J3 N):=by
 refine yX anl ?_ ?_
 .rintro w args H ⟨_,_,_,_,h,_⟩;omega
 .intro N hS;rintro⟨l,k,n,s,ts⟩ args H ⟨rfl,rfl,a_,hv,hN,hb⟩;have hN:1+bM ts<N+1:=hN;exact aBr hS hv a_ (by omega) hb
theorem Oo:aU Z K5:=anm 3000
theorem aA0{t}(ho:bL t)(hv:eJ t=true):bZ Z 42 [.ah (aW t)] an (.ai 0 (nL [] t).length 1) (al [(0,bK (nL [] t) 2)] 1):=by have⟨k,n,s,l⟩:=t;refine eS Oo 1000 Mj 13 (by kernel_rfl) ?_;rw[aW,alJ,jV,hv];refine⟨⟨rfl,mE ho⟩,aD.2 ⟨λh=>(by cases h),λ_=>?_⟩⟩;refine sS (H':=al ([(0,.aj [.ai 3 0 1] 35),(1,.aj [.aA 2] 110),(2,.bm [] 0 true)]++[(3,.ay [] 2)]) (3+1)) ?_ (vD (g:=0) rfl (λid=>by rcases id with _|_|_|id<;>rfl) rfl (λφ x hx=>Ch hx) ⟨rfl,rfl⟩) (by kernel_rfl);have h2:=y' hv;refine hD Oo 1000 (λ_=>[]) (by kernel_rfl) ?_;rw[show an.bx=0 from rfl];have:= @aAZ (.mk k n s l);simp only[aI.cq,aI.n,aI.cK,aI.bh,t42]at this;rw[show al ([(0,.aj [.ai 3 0 1] 35),(1,.aj [.aA 2] 110),(2,.bm [] 0 true)]++[(3,.ay [] 2)]) (3+1)=h42 from rfl,this];exact⟨([],.mk k n s l),⟨rfl,rfl,ho,Ns hv,by simp only;omega,by simp;omega⟩,rfl,rfl⟩
theorem ac9:aU Z K6:=by
 refine cA Oo ?_;rintro t args H ⟨rfl,rfl,ho⟩;simp only[vaX];by_cases hv:eJ t=true
 .rw[gh,aO hv];have h2:=tR (g:=0) (aA0 ho hv) rfl (gq _);have h3:gT 0 (aX (nL [] t)) (.ai 0 (nL [] t).length 1)=.ad (aX (nL [] t)) (nL [] t).length 1:=by
   have:(aX (nL [] t)).length=(nL [] t).length*1:=by simp[aX]
   simp[gT,this]
  rw[h3]at h2;exact nh (ps:=[]) h2 (by kernel_rfl) (by kernel_rfl)
 .rw[gh,az hv];refine tS ?_ (Wk.ta 1) (cM _);have⟨k,n,s,l⟩:=t;refine eS Oo 1000 Mj 13 (by kernel_rfl) ?_;have hv:eJ (.mk k n s l)=false:=by simpa using hv
  rw[aW,alJ,jV,hv];exact⟨⟨rfl,mE ho⟩,aD.2 ⟨λ_=>⟨rfl,rfl⟩,λh=>(by cases h)⟩⟩
mutual
def wP:aI->aI->Bool
 |.mk k n s l,.mk k' n' s' l'=>k==k'&&n==n'&&bW s s'&&l.length==l'.length&&EU l l'
def EU:eK->eK->Bool
 |[],_=>true
 |_::_,[]=>false
 |t::l,u::m=>wP t u&&EU l m
end
def uD(a b:aI):Bool:=eJ a&&eJ b&&wP a b
def idX(N:Nat):cx (aI×aI)where
 bn w A H:=A=[.ah (aW w.1),.ah (aW w.2)]/\H=an/\bL w.1/\bL w.2/\bN w.1<N
 v w:=.ao (wP w.1 w.2)
 aK w:=an
theorem abF{a b a' b'}{A:LV}(h1:A=[.ah (aW a),.ah (aW b)])(h2:A=[.ah (aW a'),.ah (aW b')]):a=a'/\b=b':=by rw[h1]at h2;simp at h2;exact⟨m_ h2.1,m_ h2.2⟩
theorem ate(N):(idX N).cr:=by rintro⟨a,b⟩ ⟨a',b'⟩ A H ⟨h1,_⟩ ⟨h2,_⟩;have⟨h3,h4⟩:=abF h1 h2;simp only at h3 h4;rw[h3,h4]
def J4(N:Nat):Ev.bo:=bR 104 (ca (idX N) (ate N) cD) K6
def ahO:cx (aI×aI)where
 bn w A H:=A=[.ah (aW w.1),.ah (aW w.2)]/\H=an/\bL w.1/\bL w.2
 v w:=.ao (wP w.1 w.2)
 aK w:=an
theorem atd:ahO.cr:=by rintro⟨a,b⟩ ⟨a',b'⟩ A H ⟨h1,_⟩ ⟨h2,_⟩;have⟨h3,h4⟩:=abF h1 h2;simp only at h3 h4;rw[h3,h4]
def K7:Ev.bo:=bR 104 (ca ahO atd cD) K6
def smX:cx (aI×aI)where
 bn w A H:=A=[.ah (aW w.1),.ah (aW w.2)]/\H=an/\bL w.1/\bL w.2
 v w:=.ao (uD w.1 w.2)
 aK w:=an
theorem azH:smX.cr:=by rintro⟨a,b⟩ ⟨a',b'⟩ A H ⟨h1,_⟩ ⟨h2,_⟩;have⟨h3,h4⟩:=abF h1 h2;simp only at h3 h4;rw[h3,h4]
def K8:Ev.bo:=bR 64 (ca smX azH cD) K7
def ajw:LV->Option (Prop×AV)
 |[.bU .i64 n]=>some (True,.ao (uE n))
 |_=>none
def K9:Ev.bo:=e9 141 (fK ajw) K8
def xG(n:Int):Int:=if uE n then n else 0
def amx:LV->Option (Prop×AV)
 |[.bU .i64 n]=>some (True,.ah [J 0,J (xG n),.ab [],.ad [] 0 4])
 |_=>none
def Ug:Ev.bo:=e9 105 (fK amx) K9
def nR(k:Int):Bool:=k==2||k==3
def aeo:LV->Option (Prop×AV)
 |[.ah [.bU .i64 k,.bU .i64 n,.ab s,.ad cs len 4]]=>some (True,.ao (nR k))
 |_=>none
def Uh:Ev.bo:=e9 75 (fK aeo) Ug
def j0(k:Int)(s:LN)(len:Nat):Bool:=k==3&&((len:Int)==2)&&(bW s [44]||bW s [59]||bW s [45,62])
def aej:LV->Option (Prop×AV)
 |[.ah [.bU .i64 k,.bU .i64 n,.ab s,.ad cs len 4]]=>some (True,.ao (j0 k s len))
 |_=>none
def Ui:Ev.bo:=e9 142 (fK aej) Uh
def rS:aI->Bool
 |.mk k n s [a,b]=>if k=2 then bW s [33]else j0 k s 2&&(if bW s [45,62]then rS b else rS a||rS b)
 |.mk k n s _=>if k=2 then bW s [33]else false
def cuX(N:Nat):cx aI where
 bn t A H:=A=[.ah (aW t)]/\H=an/\bL t/\bN t<N
 v t:=.ao (rS t)
 aK t:=an
theorem w_{a a'}{A:LV}(h1:A=[.ah (aW a)])(h2:A=[.ah (aW a')]):a=a':=by rw[h1]at h2;simp at h2;exact m_ h2
theorem apo(N):(cuX N).cr:=λt t' A H h1 h2=>by rw[w_ h1.1 h2.1]
def Uk(N:Nat):Ev.bo:=bR 112 (ca (cuX N) (apo N) cD) Ui
def aeS:cx aI where
 bn t A H:=A=[.ah (aW t)]/\H=an/\bL t
 v t:=.ao (rS t)
 aK t:=an
theorem apn:aeS.cr:=λt t' A H h1 h2=>by rw[w_ h1.1 h2.1]
def Uj:Ev.bo:=bR 112 (ca aeS apn cD) Ui
def DM(t:aI):Bool:=eJ t&&rS t
def Wj:cx aI where
 bn t A H:=A=[.ah (aW t)]/\H=an/\bL t
 v t:=.ao (DM t)
 aK t:=an
theorem apm:Wj.cr:=λt t' A H h1 h2=>by rw[w_ h1.1 h2.1]
def Ul:Ev.bo:=bR 79 (ca Wj apm cD) Uj
def rZ(k:Int)(s:LN)(len:Nat)(nm:LN)(ar:Int):Bool:=nR k&&bW s nm&&((len:Int)==ar)
def ah5:LV->Option (Prop×AV)
 |[.ah [.bU .i64 k,.bU .i64 n,.ab s,.ad cs len 4],.ab nm,.bU .i64 ar]=>some (True,.ao (rZ k s len nm ar))
 |_=>none
def Um:Ev.bo:=e9 113 (fK ah5) Ul
abbrev nN:=aI×aI
def fiX:cx nN where
 bn c A H:=A=[.ah (aW c.1++aW c.2)]/\H=an/\bL c.1/\bL c.2
 v c:=.ao (decide (cU c.1+cU c.2<=2000))
 aK c:=an
theorem A4{c c':nN}(h:aW c.1++aW c.2=aW c'.1++aW c'.2):c=c':=by have:=l4 h (by rw[sE,sE]);exact Prod.ext (m_ this.1) (m_ this.2)
theorem aqU:fiX.cr:=by rintro c c' A H ⟨h1,_⟩ ⟨h2,_⟩;rw[h1]at h2;simp at h2;rw[A4 h2]
def Un:Ev.bo:=bR 76 (ca fiX aqU cD) Um
def ZG:Nat->LN:=fT [(4,[3,36,37,38])]
theorem azN{k n s cs len k' n' s' cs' cB N L Q}:
 bI Z (J4 N) ZG L Q 1000 104 [.ah [J k,J n,.ab s,.ad cs len 4],.ah [J k',J n',.ab s',.ad cs' cB 4]] an=(
 aq (k !=k') (Q (.ao false) an) (aq (n !=n') (Q (.ao false) an) (aq (!bW s s') (Q (.ao false) an) (aq (Int.ofNat len !=Int.ofNat cB) (Q (.ao false) an) (L (aB [(3,.aa 0 0),(36,.ad cs len 4),(37,J (Int.ofNat len)),(38,J 0)]) (al [(0,en k' n' s' cs' cB)] 1) (aw Z 104 0)))))):=by kernel_rfl
theorem azO{cs len k' n' s' cs' cB i N L Q}:
 ck Z (J4 N) ZG L Q 1000 104 0 (aB [(3,.aa 0 0),(36,.ad cs len 4),(37,J (Int.ofNat len)),(38,J i)]) (aw Z 104 0) (al [(0,en k' n' s' cs' cB)] 1)=(
 aq (decide (i<Int.ofNat len)) (∃aL:Nat,i=(aL:Int)/\aL<len/\(∃n aP s bP bH,((cs.drop (aL*4)).take 4:List AV)=[J n,J aP,.ab s,.ad bP bH 4]/\(∃cG:Nat,i=(cG:Int)/\cG<cB/\(∃bA cf cn gN gP,((cs'.drop (cG*4)).take 4:List AV)=[J bA,J cf,.ab cn,.ad gN gP 4]/\(∃w:aI×aI,(([.ah [J n,J aP,.ab s,.ad bP bH 4],.ah [J bA,J cf,.ab cn,.ad gN gP 4]]:LV)=[.ah (aW w.1),.ah (aW w.2)]/\al [] 0=an/\bL w.1/\bL w.2/\bN w.1<N)/\aq (!wP w.1 w.2) (Q (.ao false) an) (L (aB [(3,.aa 0 0),(36,.ad cs len 4),(37,J (Int.ofNat len)),(38,J (wI (i+1)))]) (al [(0,en k' n' s' cs' cB)] 1) (aw Z 104 0))))))) (Q (.ao true) an)):=by kernel_rfl
theorem aBk{k n s cs len k' n' s' cs' cB L Q}:
 bI Z K7 (λ_=>[]) L Q 1000 64 [.ah [J k,J n,.ab s,.ad cs len 4],.ah [J k',J n',.ab s',.ad cs' cB 4]] an=(
 (al [] 0=an/\kU [J k,J n,.ab s,.ad cs len 4])/\aq (ig eJ [J k,J n,.ab s,.ad cs len 4]) ((al [] 0=an/\kU [J k',J n',.ab s',.ad cs' cB 4])/\aq (ig eJ [J k',J n',.ab s',.ad cs' cB 4]) (∃w:aI×aI,(([.ah [J k,J n,.ab s,.ad cs len 4],.ah [J k',J n',.ab s',.ad cs' cB 4]]:LV)=[.ah (aW w.1),.ah (aW w.2)]/\al [] 0=an/\bL w.1/\bL w.2)/\Q (.ao (wP w.1 w.2)) an) (Q (.ao false) an)) (Q (.ao false) an)):=by kernel_rfl
theorem aAm{n L Q}:
 bI Z K8 (λ_=>[]) L Q 1000 141 [J n] an=(
 aq (decide (n>=0)) (Q (.ao (decide (n<=1099511627776))) an) (Q (.ao false) an)):=by kernel_rfl
theorem azP{n L Q}:
 bI Z K9 (λ_=>[]) L Q 1000 105 [J n] an=(
 (al [] 0=an/\True)/\aq (!uE n) (Q (.ah [J 0,J 0,.ab (du (ByteArray.mk (List.toArray []))),.aJ]) an) (Q (.ah [J 0,J n,.ab (du (ByteArray.mk (List.toArray []))),.aJ]) an)):=by kernel_rfl
theorem aBx{k n s cs len L Q}:
 bI Z Ug (λ_=>[]) L Q 1000 75 [.ah [J k,J n,.ab s,.ad cs len 4]] an=(
 aq (k==2) (Q (.ao true) an) (Q (.ao (k==3)) an)):=by kernel_rfl
theorem aAn{k n s cs len L Q}:
 bI Z Uh (λ_=>[]) L Q 1000 142 [.ah [J k,J n,.ab s,.ad cs len 4]] an=(
 aq (k==3) (aq (Int.ofNat len==2) (aq (bW s (du (ByteArray.mk (List.toArray [44])))) (Q (.ao true) an) (aq (bW s (du (ByteArray.mk (List.toArray [59])))) (Q (.ao true) an) (Q (.ao (bW s (du (ByteArray.mk (List.toArray [45,62]))))) an))) (Q (.ao false) an)) (Q (.ao false) an)):=by kernel_rfl
theorem azX{k n s cs len N L Q}:
 bI Z (Uk N) (λ_=>[]) L Q 1000 112 [.ah [J k,J n,.ab s,.ad cs len 4]] an=(
 aq (k==2) (Q (.ao (bW s (du (ByteArray.mk (List.toArray [33]))))) an) ((al [] 0=an/\True)/\aq (!j0 k s len) (Q (.ao false) an) (aq (bW s (du (ByteArray.mk (List.toArray [45,62])))) (1<len/\(∃aP bA cn bP bH,((cs.drop 4).take 4:List AV)=[J aP,J bA,.ab cn,.ad bP bH 4]/\(∃w,(([.ah [J aP,J bA,.ab cn,.ad bP bH 4]]:LV)=[.ah (aW w)]/\al [] 0=an/\bL w/\bN w<N)/\Q (.ao (rS w)) an))) (0<len/\(∃aP bA cn bP bH,((cs.drop 0).take 4:List AV)=[J aP,J bA,.ab cn,.ad bP bH 4]/\(∃w,(([.ah [J aP,J bA,.ab cn,.ad bP bH 4]]:LV)=[.ah (aW w)]/\al [] 0=an/\bL w/\bN w<N)/\aq (rS w) (Q (.ao true) an) (1<len/\(∃cf dc lE gN gP,((cs.drop 4).take 4:List AV)=[J cf,J dc,.ab lE,.ad gN gP 4]/\(∃ae,(([.ah [J cf,J dc,.ab lE,.ad gN gP 4]]:LV)=[.ah (aW ae)]/\al [] 0=an/\bL ae/\bN ae<N)/\Q (.ao (rS ae)) an))))))))):=by kernel_rfl
theorem aBB{k n s cs len L Q}:
 bI Z Uj (λ_=>[]) L Q 1000 79 [.ah [J k,J n,.ab s,.ad cs len 4]] an=(
 (al [] 0=an/\kU [J k,J n,.ab s,.ad cs len 4])/\aq (ig eJ [J k,J n,.ab s,.ad cs len 4]) (∃w,(([.ah [J k,J n,.ab s,.ad cs len 4]]:LV)=[.ah (aW w)]/\al [] 0=an/\bL w)/\Q (.ao (rS w)) an) (Q (.ao false) an)):=by kernel_rfl
theorem azY{k n s cs len nm ar L Q}:
 bI Z Ul (λ_=>[]) L Q 1000 113 [.ah [J k,J n,.ab s,.ad cs len 4],.ab nm,J ar] an=(
 aq (k==2) (aq (bW s nm) (Q (.ao (Int.ofNat len==ar)) an) (Q (.ao false) an)) (aq (k==3) (aq (bW s nm) (Q (.ao (Int.ofNat len==ar)) an) (Q (.ao false) an)) (Q (.ao false) an))):=by kernel_rfl
theorem aBy{k n s cs len k' n' s' cs' cB L Q}:
 bI Z Um (λ_=>[]) L Q 1000 76 [.ah [J k,J n,.ab s,.ad cs len 4,J k',J n',.ab s',.ad cs' cB 4]] an=(
 (al [] 0=an/\kU [J k,J n,.ab s,.ad cs len 4])/\some (.ah [J k',J n',.ab s',.ad cs' cB 4]:AV)=some (.ah [J k',J n',.ab s',.ad cs' cB 4]:AV)/\(al [] 0=an/\kU [J k',J n',.ab s',.ad cs' cB 4])/\Q (.ao (decide (wI (ig cU [J k,J n,.ab s,.ad cs len 4]+ig cU [J k',J n',.ab s',.ad cs' cB 4])<=2000))) an):=by kernel_rfl
theorem atf{l m:eK}{i}(hl:i<l.length)(hm:i<m.length):EU (l.drop i) (m.drop i)=(wP l[i] m[i]&&EU (l.drop (i+1)) (m.drop (i+1))):=by rw[fY hl,fY hm,EU]
theorem azM{k' n' s' l m N aH}(hS:aU Z (J4 N))(h8:dt l.length)(h8m:dt m.length)(Ab:l.length=m.length)(ho:fy l)(hom:fy m)(hN:bM l<N):
 ∀i,(i<=l.length/\EU (l.drop i) (m.drop i)=aH)->br Z 104 52 0 (.ao aH) an
  (aB [(3,.aa 0 0),(36,.ad (aF l) l.length 4),(37,J (Int.ofNat l.length)),(38,J (i:Int))]) (al [(0,en k' n' s' (aF m) m.length)] 1) (aw Z 104 0):=by
 refine dS (λi=>l.length-i) _ _ _ _ ?_;rintro i ⟨hi,hf⟩ ih;refine hE hS azO ?_;refine aD.2 ⟨λax=>?_,λbu=>?_⟩
 .have ax:i<l.length:=by simpa using ax
  have Ac:i<m.length:=by omega
  obtain⟨k1,n1,s1,l1,-,hg,bX,a_,cv⟩:=xw ax ho hN (P:=λ_=>True) trivial;obtain⟨k2,n2,s2,l2,-,qv,asP,Yq,_⟩:=xw Ac hom (lY _) (P:=λ_=>True) trivial;rw[atf ax Ac,hg,qv]at hf;refine⟨i,rfl,ax,k1,n1,s1,aF l1,l1.length,bX,i,rfl,Ac,k2,n2,s2,aF l2,l2.length,asP,(.mk k1 n1 s1 l1,.mk k2 n2 s2 l2),⟨rfl,rfl,a_,Yq,cv⟩,aD.2 ⟨λh=>?_,λh=>?_⟩⟩
  .have h:wP (.mk k1 n1 s1 l1) (.mk k2 n2 s2 l2)=false:=by simpa using h
   rw[h,tg]at hf;subst hf;exact⟨rfl,rfl⟩
  .have h:wP (.mk k1 n1 s1 l1) (.mk k2 n2 s2 l2)=true:=by simpa using h
   rw[h,rA]at hf;rw[lh h8 ax];exact ih (i+1) ⟨by omega,hf⟩ (by omega)
 .have bu:l.length<=i:=by simpa using bu
  rw[gQ bu,EU]at hf;subst hf;exact⟨rfl,rfl⟩
theorem azL{a b N}(hS:aU Z (J4 N))(ha:bL a)(hb:bL b)(hN:bN a<N+1):
 bZ Z 104 [.ah (aW a),.ah (aW b)] an (.ao (wP a b)) an:=by
 have⟨k,n,s,l⟩:=a;have⟨k',n',s',m⟩:=b;refine eS hS 1000 ZG 52 (by kernel_rfl) ?_;rw[aW,aW,azN,wP];simp only[bN]at hN;refine aD.2 ⟨λh=>?_,λh1=>aD.2 ⟨λh=>?_,λh2=>aD.2 ⟨λh=>?_,λh3=>aD.2 ⟨λh=>?_,λh4=>?_⟩⟩⟩⟩
 .have:(k==k')=false:=by simpa using h
  rw[this];exact⟨rfl,rfl⟩
 .have:(n==n')=false:=by simpa using h
  rw[this,I_];exact⟨rfl,rfl⟩
 .have:bW s s'=false:=by simpa using h
  rw[this,I_];exact⟨rfl,rfl⟩
 .have:(l.length==m.length)=false:=by simp at h;simp;omega
  rw[this,I_];exact⟨rfl,rfl⟩
 .have e1:(k==k')=true:=by simpa using h1
  have e2:(n==n')=true:=by simpa using h2
  have e3:bW s s'=true:=by simpa using h3
  have e4:l.length=m.length:=by have:(l.length:Int)=(m.length:Int):=by simpa using h4
                                omega
  have e5:(l.length==m.length)=true:=by simpa using e4
  rw[e1,e2,e3,e5];exact azM hS ha.2.1 hb.2.1 e4 ha.2.2 hb.2.2 (by omega) 0 ⟨gq _,by simp⟩
theorem anp:∀N,aU Z (J4 N):=by
 refine yX ac9 ?_ ?_
 .rintro w args H ⟨_,_,_,_,h⟩;omega
 .intro N hS;rintro⟨a,b⟩ args H ⟨rfl,rfl,ha,hb,hN⟩;exact azL hS ha hb hN
theorem ada:aU Z K7:=by refine cA ac9 ?_;rintro⟨a,b⟩ args H ⟨rfl,rfl,ha,hb⟩;exact WZ (anp (bN a+1)) ⟨rfl,rfl,ha,hb,lY _⟩ rfl
theorem adb:aU Z K8:=by
 refine cA ada ?_;rintro⟨a,b⟩ args H ⟨rfl,rfl,ha,hb⟩;have⟨k,n,s,l⟩:=a;have⟨k',n',s',m⟩:=b;refine eS ada 1000 (λ_=>[]) 16 (by kernel_rfl) ?_;simp only[smX,uD];rw[aW,aW,aBk,jV,jV];refine⟨⟨rfl,mE ha⟩,aD.2 ⟨λh1=>⟨⟨rfl,mE hb⟩,aD.2 ⟨λh2=>⟨(.mk k n s l,.mk k' n' s' m),⟨rfl,rfl,ha,hb⟩,?_⟩,λh2=>?_⟩⟩,λh1=>?_⟩⟩
 .rw[h1,h2];exact⟨rfl,rfl⟩
 .rw[h1,h2];exact⟨rfl,rfl⟩
 .rw[h1];exact⟨rfl,rfl⟩
theorem ade:aU Z K9:=by
 refine jD adb λargs q v h hq=>?_
 unfold ajw at h;split at h<;>cases h;rename_i n;refine eE 9 adb aAm ?_;have e:uE n=(decide (n>=0)&&decide (n<=1099511627776)):=by simp only[uE];rw[<-Bool.decide_and]
 rw[e];generalize decide (n>=0)=a;cases a<;>exact⟨rfl,rfl⟩
theorem acH:aU Z Ug:=by
 refine jD ade λargs q v h hq=>?_
 unfold amx at h;split at h<;>cases h;rename_i n;refine tS ?_ (.agg (.fE (.fE (.fE (.ta 4 (.oq _)))))) (cM _);refine eE 9 ade azP ?_;refine⟨⟨rfl,trivial⟩,aD.2 ⟨λh=>?_,λh=>?_⟩⟩
 .have h:uE n=false:=by simpa using h
  rw[xG,h];exact⟨rfl,rfl⟩
 .have h:uE n=true:=by simpa using h
  rw[xG,h];exact⟨rfl,rfl⟩
theorem acI:aU Z Uh:=by
 refine jD acH λargs q v h hq=>?_
 unfold aeo at h;split at h<;>cases h;rename_i k n s cs len;refine eS acH 1000 (λ_=>[]) 11 (by kernel_rfl) ?_;rw[aBx,nR];generalize (k==2)=a;cases a<;>exact⟨rfl,rfl⟩
theorem acJ:aU Z Ui:=by
 refine jD acI λargs q v h hq=>?_
 unfold aej at h;split at h<;>cases h;rename_i k n s cs len;refine eS acI 1000 (λ_=>[]) 27 (by kernel_rfl) ?_;rw[aAn,j0,sa,show du (ByteArray.mk (List.toArray [44]))=[44]from rfl,show du (ByteArray.mk (List.toArray [59]))=[59]from rfl,show du (ByteArray.mk (List.toArray [45,62]))=[45,62]from rfl];generalize (k==3)=a;generalize ((len:Int)==2)=b;generalize bW s [44]=c;generalize bW s [59]=d;cases a<;>cases b<;>cases c<;>cases d<;>exact⟨rfl,rfl⟩
theorem O5{k s len}(h:j0 k s len=true):len=2:=by unfold j0 at h;simp at h;omega
theorem L6{α:Type}{l:List α}(h:l.length=2):∃a b,l=[a,b]:=by
 match l,h with
 |[a,b],_=>exact⟨a,b,rfl⟩
theorem aeW{k n s l}(h:j0 k s l.length=false):rS (.mk k n s l)=if k=2 then bW s [33]else false:=by
 match l with
 |[a,b]=>simp only[rS];rw[show j0 k s 2=false from h,tg]
 |[]=>rfl
 |[_]=>rfl
 |_::_::_::_=>rfl
theorem afC(a b):aF [a,b]=aW a++aW b:=by simp[aF]
theorem zL(a b):((aF [a,b]).drop 0).take 4=aW a:=by rw[afC];exact xm (sE a)
theorem wv(a b):((aF [a,b]).drop 4).take 4=aW b:=by rw[afC,List.drop_append_of_le_length (by rw[sE];exact cM _),gQ (by rw[sE];exact cM _),Cy,CB (by rw[sE];exact cM _)]
theorem azW{t N}(hS:aU Z (Uk N))(ho:bL t)(hN:bN t<N+1):bZ Z 112 [.ah (aW t)] an (.ao (rS t)) an:=by
 have⟨k,n,s,l⟩:=t;refine eS hS 1000 (λ_=>[]) 35 (by kernel_rfl) ?_;rw[aW,azX];by_cases hk:k=2
 .subst hk;have e:rS (.mk 2 n s l)=bW s [33]:=by rw[aeW (by rfl)];rfl
  rw[e];exact aD.2 ⟨λ_=>⟨rfl,rfl⟩,λh=>(by cases h)⟩
 refine aD.2 ⟨λh=>absurd (by simpa using h) hk,λ_=>⟨⟨rfl,trivial⟩,aD.2 ⟨λh=>?_,λh=>?_⟩⟩⟩
 .have h:j0 k s l.length=false:=by simpa using h
  rw[aeW h,az hk];exact⟨rfl,rfl⟩
 .have h:j0 k s l.length=true:=by simpa using h
  have h2:=O5 h;obtain⟨a,b,rfl⟩:=L6 h2;rw[rS,az hk,show j0 k s 2=true from h,rA];simp only[bN,bM]at hN;have ha:=ho.2.2.1;have hb:=ho.2.2.2.1;refine aD.2 ⟨λh=>?_,λh=>?_⟩
  .have h:bW s [45,62]=true:=h;rw[aO h];have⟨k1,n1,s1,l1⟩:=b;exact⟨by simp,k1,n1,s1,aF l1,l1.length,wv _ _,.mk k1 n1 s1 l1,⟨rfl,rfl,hb,by omega⟩,rfl,rfl⟩
  .have h:¬bW s [45,62]=true:=by rw[show bW s [45,62]=false from h];simp
   rw[az h];have⟨k0,n0,s0,l0⟩:=a;refine⟨by simp,k0,n0,s0,aF l0,l0.length,zL _ _,.mk k0 n0 s0 l0,⟨rfl,rfl,ha,by omega⟩,aD.2 ⟨λh=>?_,λh=>?_⟩⟩
   .rw[h];exact⟨rfl,rfl⟩
   .rw[h];have⟨k1,n1,s1,l1⟩:=b;exact⟨by simp,k1,n1,s1,aF l1,l1.length,wv _ _,.mk k1 n1 s1 l1,⟨rfl,rfl,hb,by omega⟩,rfl,rfl⟩
theorem ane:∀N,aU Z (Uk N):=by
 refine yX acJ ?_ ?_
 .rintro w args H ⟨_,_,_,h⟩;omega
 .intro N hS;rintro t args H ⟨rfl,rfl,ho,hN⟩;exact azW hS ho hN
theorem acK:aU Z Uj:=by refine cA acJ ?_;rintro t args H ⟨rfl,rfl,ho⟩;exact WZ (ane (bN t+1)) ⟨rfl,rfl,ho,lY _⟩ rfl
theorem acL:aU Z Ul:=by
 refine cA acK ?_;rintro⟨k,n,s,l⟩ args H ⟨rfl,rfl,ho⟩;refine eS acK 1000 (λ_=>[]) 9 (by kernel_rfl) ?_;simp only[Wj,DM];rw[aW,aBB,jV];refine⟨⟨rfl,mE ho⟩,aD.2 ⟨λh=>⟨.mk k n s l,⟨rfl,rfl,ho⟩,?_⟩,λh=>?_⟩⟩
 .rw[h];exact⟨rfl,rfl⟩
 .rw[h];exact⟨rfl,rfl⟩
theorem acM:aU Z Um:=by
 refine jD acL λargs q v h hq=>?_
 unfold ah5 at h;split at h<;>cases h;rename_i k n s cs len nm ar;refine eS acL 1000 (λ_=>[]) 28 (by kernel_rfl) ?_;rw[azY,rZ,nR,sa];generalize (k==2)=a;generalize (k==3)=b;generalize bW s nm=c;cases a<;>cases b<;>cases c<;>exact⟨rfl,rfl⟩
theorem alk(t):0<=cU t/\cU t<=2001:=by unfold cU;omega
theorem anf:aU Z Un:=by refine cA acM ?_;rintro⟨⟨k,n,s,l⟩,⟨k',n',s',m⟩⟩ args H ⟨rfl,rfl,ha,hb⟩;refine eS acM 1000 (λ_=>[]) 11 (by kernel_rfl) ?_;simp;rw[show aW (.mk k n s l)++aW (.mk k' n' s' m)=[J k,J n,.ab s,.ad (aF l) l.length 4,J k',J n',.ab s',.ad (aF m) m.length 4]from rfl,aBy,jV,jV];have h1:=alk (.mk k n s l);have h2:=alk (.mk k' n' s' m);rw[cO (by omega) (by omega)];exact⟨⟨rfl,mE ha⟩,rfl,⟨rfl,mE hb⟩,rfl,rfl⟩
def oE(m:LP)(k n:Int):Int×LP:=if k=0 then(match lk n m with|some v=>(v,m)|none=>((m.length:Int),m++[(n,(m.length:Int))]))else(n,m)
mutual
def gf:LP->aI->aI×LP
 |m,.mk k n s l=>(.mk k (oE m k n).1 s (oD (oE m k n).2 l).1,(oD (oE m k n).2 l).2)
def oD:LP->eK->eK×LP
 |m,[]=>([],m)
 |m,t::l=>((gf m t).1::(oD (gf m t).2 l).1,(oD (gf m t).2 l).2)
end
theorem RF:∀m l,(oD m l).1.length=l.length
 |m,[]=>rfl
 |m,t::l=>by simp[oD,RF _ l]
def IG(m:LP):bk:=.bm (bJ J 0 m) m.length true
def hM(m:LP):AH:=al [(0,IG m)] 1
theorem arT{m m'}(h:hM m=hM m'):m=m':=by have:=congrArg (λH=>AH.bf H 0) h;have:=dw this;simp only[IG,bk.bm.injEq]at this;exact rU xF this.1
def ZZ(N:Nat):cx (LP×aI)where
 bn w A H:=A=[.ah (aW w.2),.aA 0]/\H=hM w.1/\bL w.2/\iV w.2=true/\bN w.2<N/\w.1.length+bN w.2<4000000
 v w:=.ah (ij (gf w.1 w.2).1)
 aK w:=hM (gf w.1 w.2).2
theorem ajk(N):(ZZ N).cr:=by rintro⟨l,t⟩ ⟨l',t'⟩ A H ⟨h1,h2,_⟩ ⟨h3,h4,_⟩;rw[h2]at h4;rw[h1]at h3;have:=arT h4;subst this;simp at h3;rw[m_ h3]
def JQ(N:Nat):Ev.bo:=bR 111 (ca (ZZ N) (ajk N) cD) Un
def Uo:Ev.bo:=bR 111 (ca (ZZ 3000) (ajk 3000) cD) Un
def jT(c:nN):nN×Nat:=(((gf [] c.1).1,(gf (gf [] c.1).2 c.2).1),(gf (gf [] c.1).2 c.2).2.length)
def cnX:cx nN where
 bn c A H:=A=[.ah (aW c.1++aW c.2)]/\H=an/\bL c.1/\bL c.2/\eJ c.1=true/\eJ c.2=true
 v c:=.aC [.ah [J (jT c).1.1.cq,J (jT c).1.1.n,.ab (jT c).1.1.cK,.ad (aF (jT c).1.1.bh) (jT c).1.1.bh.length 4,J (jT c).1.2.cq,J (jT c).1.2.n,.ab (jT c).1.2.cK,.ad (aF (jT c).1.2.bh) (jT c).1.2.bh.length 4],J ((jT c).2:Int)]
 aK c:=an
theorem apb:cnX.cr:=by rintro c c' A H ⟨h1,_⟩ ⟨h2,_⟩;rw[h1]at h2;simp at h2;rw[A4 h2]
def K18:Ev.bo:=bR 77 (ca cnX apb cD) Uo
def ZH:Nat->LN:=fT [(9,[1,4,5,38,39,40])]
def agR(m:LP)(k n:Int)(s:LN)(ds:LV)(j:Nat):AH:=al [(0,IG m),(1,vX),(2,l5 k n s (.ai 3 j 4)),(3,.ay ds 49)] 4
theorem azU{m k n s cs len N L Q}:
 bI Z (JQ N) ZH L Q 1000 111 [.ah [J k,J n,.ab s,.ad cs len 4],.aA 0] (hM m)=(
 aq (k==0) (∃aP:Int,∃b:Bool,eT Z 2 2 (bJ J 0 m) (J n)=some (J aP,b)/\aq (!b) (∃bF:List (AV×AV×Nat),∃c':Nat,jX Z 2 (bJ J 0 m) m.length (J n) (J (Int.ofNat (bJ J 0 m).length))=some (bF,c')/\L (aB [(1,.aA 0),(4,.aa 1 0),(5,.aa 2 0),(38,.ad cs len 4),(39,J (Int.ofNat len)),(40,J 0)]) (al [(0,.bm bF c' true),(1,l5 0 0 (du (ByteArray.mk (List.toArray []))) .aJ),(2,l5 k (Int.ofNat (bJ J 0 m).length) s .aJ)] 3) (aw Z 111 0)) (L (aB [(1,.aA 0),(4,.aa 1 0),(5,.aa 2 0),(38,.ad cs len 4),(39,J (Int.ofNat len)),(40,J 0)]) (al [(0,ja m),(1,l5 0 0 (du (ByteArray.mk (List.toArray []))) .aJ),(2,l5 k aP s .aJ)] 3) (aw Z 111 0))) (L (aB [(1,.aA 0),(4,.aa 1 0),(5,.aa 2 0),(38,.ad cs len 4),(39,J (Int.ofNat len)),(40,J 0)]) (al [(0,ja m),(1,l5 0 0 (du (ByteArray.mk (List.toArray []))) .aJ),(2,l5 k n s .aJ)] 3) (aw Z 111 0))):=by kernel_rfl
theorem azV{m k n s cs len i ds j N L Q}:
 ck Z (JQ N) ZH L Q 1000 111 1 (aB [(1,.aA 0),(4,.aa 1 0),(5,.aa 2 0),(38,.ad cs len 4),(39,J (Int.ofNat len)),(40,J i)]) (aw Z 111 0) (agR m k n s ds j)=(
 aq (decide (i<Int.ofNat len)) (∃aL:Nat,i=(aL:Int)/\aL<len/\(∃aP:Int,∃bA:Int,∃cn:LN,∃bP:LV,∃bH:Nat,((cs.drop (aL*4)).take 4:List AV)=[J aP,J bA,.ab cn,.ad bP bH 4]/\(∃w:LP×aI,(([.ah [J aP,J bA,.ab cn,.ad bP bH 4],.aA 0]:LV)=[.ah (aW w.2),.aA 0]/\mH m=hM w.1/\bL w.2/\iV w.2=true/\bN w.2<N/\w.1.length+bN w.2<4000000)/\some (.ai 3 j 4:AV)=some (.ai 3 j 4:AV)/\(ds.length=j*4/\j+1<=4194304/\true=true/\true=true)/\L (aB [(1,.aA 0),(4,.aa 1 0),(5,.aa 2 0),(38,.ad cs len 4),(39,J (Int.ofNat len)),(40,J (wI (i+1)))]) (al [(0,ja (gf w.1 w.2).2),(1,vX),(2,l5 k n s (.ai 3 (j+1) 4)),(3,.ay (ds++[J (gf w.1 w.2).1.cq,J (gf w.1 w.2).1.n,.ab (gf w.1 w.2).1.cK,.ad (aF (gf w.1 w.2).1.bh) (gf w.1 w.2).1.bh.length 4]) 49)] 4) (aw Z 111 0)))) (Q (.ah [J k,J n,.ab s,.ai 1 j 4]) (al [(0,ja m),(1,.ay ds 49)] 2))):=by kernel_rfl
theorem aBz{k n s cs len k' n' s' cs' cB L Q}:
 bI Z Uo (λ_=>[]) L Q 1000 77 [.ah [J k,J n,.ab s,.ad cs len 4,J k',J n',.ab s',.ad cs' cB 4]] an=(
 ∃w:LP×aI,(([.ah [J k,J n,.ab s,.ad cs len 4],.aA 0]:LV)=[.ah (aW w.2),.aA 0]/\al [(0,.bm [] 0 true)] 1=hM w.1/\bL w.2/\iV w.2=true/\bN w.2<3000/\w.1.length+bN w.2<4000000)/\(∃ae:LP×aI,(([.ah [J k',J n',.ab s',.ad cs' cB 4],.aA 0]:LV)=[.ah (aW ae.2),.aA 0]/\mH (gf w.1 w.2).2=hM ae.1/\bL ae.2/\iV ae.2=true/\bN ae.2<3000/\ae.1.length+bN ae.2<4000000)/\Q (.aC [.ah [J (gf w.1 w.2).1.cq,J (gf w.1 w.2).1.n,.ab (gf w.1 w.2).1.cK,.ad (aF (gf w.1 w.2).1.bh) (gf w.1 w.2).1.bh.length 4,J (gf ae.1 ae.2).1.cq,J (gf ae.1 ae.2).1.n,.ab (gf ae.1 ae.2).1.cK,.ad (aF (gf ae.1 ae.2).1.bh) (gf ae.1 ae.2).1.bh.length 4],J (Int.ofNat (bJ J 0 (gf ae.1 ae.2).2).length)]) an)):=by kernel_rfl
mutual
theorem Z6:∀(m:LP) (t:aI),(gf m t).2.length<=m.length+bN t
 |m,.mk k n s l=>by
  have:=ajx (oE m k n).2 l;simp only[gf,bN];have h:(oE m k n).2.length<=m.length+1:=by
   unfold oE;split
   .split
    .simp
    .simp
   .simp
  omega
theorem ajx:∀(m:LP) (l:eK),(oD m l).2.length<=m.length+bM l
 |m,[]=>by simp[oD]
 |m,t::l=>by have h1:=Z6 m t;have h2:=ajx (gf m t).2 l;simp only[oD,bM];omega
end
theorem aDK:jZ Z 2=some (J 0):=by kernel_rfl
theorem WH{β}(ev):∀(l:List (Int×β)) (b),(bJ ev b l).length=l.length
 |[],_=>rfl
 |x::l,b=>by simp[bJ,WH ev l]
theorem aml{k v}:∀{l:LP},lk k l=none->up k v l=l++[(k,v)]
 |[],_=>rfl
 |(a,b)::l,h=>by
  simp only[lk]at h;split at h
  .cases h
  next hk=>simp only[up,hk,if_false,oH];rw[aml h]
theorem azT{k n s ts N aH}(hS:aU Z (JQ N))(hv:pV ts=true)(h8:ts.length<=8)(ho:fy ts)(hN:bM ts<N):
 ∀p:Nat×LP×eK,(p.1<=ts.length/\p.2.2.length=p.1/\(p.2.2++(oD p.2.1 (ts.drop p.1)).1,(oD p.2.1 (ts.drop p.1)).2)=aH/\p.2.1.length+bM (ts.drop p.1)<4000000)->
 br Z 111 54 1 (.ah [J k,J n,.ab s,.ai 1 ts.length 4]) (al [(0,IG aH.2),(1,.ay (aF aH.1) 49)] 2)
  (aB [(1,.aA 0),(4,.aa 1 0),(5,.aa 2 0),(38,.ad (aF ts) ts.length 4),(39,J (Int.ofNat ts.length)),(40,J (p.1:Int))]) (agR p.2.1 k n s (aF p.2.2) p.1) (aw Z 111 0):=by
 refine dS (λp=>ts.length-p.1) _ _ _ _ ?_;rintro⟨i,m,us⟩ ⟨hi,hu,hf,hb⟩ ih;simp only at hi hu hf hb ih⊢;refine hE hS azV ?_;refine aD.2 ⟨λax=>?_,λbu=>?_⟩
 .have ax:i<ts.length:=by simpa using ax
  obtain⟨k1,n1,s1,l1,-,hg,bX,a_,cv⟩:=xw ax ho hN (P:=λ_=>True) trivial;have yy:=RC ax hv;rw[hg]at yy;rw[fY ax,hg]at hf hb;rw[oD]at hf;rw[bM]at hb;have QR:=Z6 m (.mk k1 n1 s1 l1);refine⟨i,rfl,ax,k1,n1,s1,aF l1,l1.length,bX,(m,.mk k1 n1 s1 l1),⟨rfl,rfl,a_,yy,cv,by simp only;omega⟩,rfl,⟨by rw[rV,hu],by omega,rfl,rfl⟩,?_⟩;rw[cO (by omega) (by omega)];have:=ih (i+1,(gf m (.mk k1 n1 s1 l1)).2,us++[(gf m (.mk k1 n1 s1 l1)).1]) ⟨by simp only;omega,by simp[hu],by rw[<-hf];simp,by simp only;omega⟩ (by simp only;omega);have e2:aF (us++[(gf m (.mk k1 n1 s1 l1)).1])=aF us++[J (gf m (.mk k1 n1 s1 l1)).1.cq,J (gf m (.mk k1 n1 s1 l1)).1.n,.ab (gf m (.mk k1 n1 s1 l1)).1.cK,.ad (aF (gf m (.mk k1 n1 s1 l1)).1.bh) (gf m (.mk k1 n1 s1 l1)).1.bh.length 4]:=by rw[Be];simp[aF,aW,gf,aI.cq,aI.n,aI.cK,aI.bh]
  simp only[e2]at this;exact this
 .have bu:ts.length<=i:=by simpa using bu
  have:i=ts.length:=by omega
  subst this;rw[gQ (cM _),oD]at hf;rw[jm]at hf;subst hf;exact⟨rfl,rfl⟩
theorem azy{k n s m0 o}:lL m0 (al [(0,o),(1,l5 0 0 (du (ByteArray.mk (List.toArray []))) .aJ),(2,l5 k n s .aJ)] 3) (al ([(0,o),(1,vX),(2,l5 k n s (.ai 3 0 4))]++[(3,.ay [] 49)]) (3+1)) (λφ aQ=>aQ=φ):=
 vD (g:=2) rfl (λid=>by rcases id with _|_|_|_|id<;>rfl) rfl (λφ x hx=>Ch hx) ⟨rfl,rfl⟩
theorem azS{m k n s ts N}(hS:aU Z (JQ N))(hv:iV (.mk k n s ts)=true)(ho:bL (.mk k n s ts))(hN:bM ts<N)(hb:m.length+bN (.mk k n s ts)<4000000):
 bZ Z 111 [.ah (aW (.mk k n s ts)),.aA 0] (hM m) (.ah (ij (gf m (.mk k n s ts)).1)) (hM (gf m (.mk k n s ts)).2):=by
 have h1:bZ Z 111 [.ah (aW (.mk k n s ts)),.aA 0] (hM m) (.ah [J k,J (oE m k n).1,.ab s,.ai 1 ts.length 4]) (al [(0,IG (oD (oE m k n).2 ts).2),(1,.ay (aF (oD (oE m k n).2 ts).1) 49)] 2):=by
  refine eS hS 1000 ZH 54 (by kernel_rfl) ?_;rw[aW,azU];simp only[iV,dk]at hv;have h8:=Z1 hv.1;simp only[bN]at hb;have key:∀m1 n1,(n1,m1)=oE m k n->m1.length<=m.length+1->br Z 111 54 1 (.ah [J k,J (oE m k n).1,.ab s,.ai 1 ts.length 4]) (al [(0,IG (oD (oE m k n).2 ts).2),(1,.ay (aF (oD (oE m k n).2 ts).1) 49)] 2) (aB [(1,.aA 0),(4,.aa 1 0),(5,.aa 2 0),(38,.ad (aF ts) ts.length 4),(39,J (Int.ofNat ts.length)),(40,J 0)]) (al [(0,ja m1),(1,l5 0 0 (du (ByteArray.mk (List.toArray []))) .aJ),(2,l5 k n1 s .aJ)] 3) (aw Z 111 0):=by intro m1 n1 he hl;rw[<-he];refine sS ?_ azy (by kernel_rfl);exact azT hS hv.2 h8 ho.2.2 hN (0,m1,[]) ⟨gq _,rfl,rfl,by simp;omega⟩
  refine aD.2 ⟨λh=>?_,λh=>?_⟩
  .have h:k=0:=by simpa using h
   rw[o7 J jv];cases hl:lk n m with
   |none=>
    refine⟨0,false,by rw[aDK];rfl,aD.2 ⟨λ_=>?_,λh=>(by cases h)⟩⟩;have yy:((m.length:Int),m++[(n,(m.length:Int))])=oE m k n:=by rw[oE,aO h,hl]
    refine⟨_,_,pk J jv,?_⟩;rw[WH,sa,aml hl];exact key _ _ yy (by simp)
   |some v=>refine⟨v,true,rfl,aD.2 ⟨λh=>(by cases h),λ_=>?_⟩⟩;exact key _ _ (by rw[oE,aO h,hl]) (by omega)
  .have h:¬k=0:=by simpa using h
   exact key _ _ (by rw[oE,az h]) (by omega)
 have h2:=tR (g:=1) h1 rfl (by show(1:Nat)<=2;omega);have h3:gT 1 (aF (oD (oE m k n).2 ts).1) (.ah [J k,J (oE m k n).1,.ab s,.ai 1 ts.length 4])=.ah (ij (gf m (.mk k n s ts)).1):=by
  have:(aF (oD (oE m k n).2 ts).1).length=ts.length*4:=by rw[rV,RF]
  simp[gT,qp,this,ij,gf,aI.cq,aI.n,aI.cK,aI.bh,RF]
 rw[h3]at h2;exact nh (ps:=[(0,0)]) h2 (by kernel_rfl) (by kernel_rfl)
theorem ang:∀N,aU Z (JQ N):=by
 refine yX anf ?_ ?_
 .rintro w args H ⟨_,_,_,_,h,_⟩;omega
 .intro N hS;rintro⟨m,k,n,s,ts⟩ args H ⟨rfl,rfl,a_,hv,hN,hb⟩;have hN:1+bM ts<N+1:=hN;exact azS hS hv a_ (by omega) hb
theorem acN:aU Z Uo:=ang 3000
theorem anh:aU Z K18:=by refine cA acN ?_;rintro⟨⟨k,n,s,l⟩,⟨k',n',s',l'⟩⟩ args H ⟨rfl,rfl,ho,nA,hv,Ij⟩;refine eS acN 1000 (λ_=>[]) 19 (by kernel_rfl) ?_;simp;rw[show aW (.mk k n s l)++aW (.mk k' n' s' l')=[J k,J n,.ab s,.ad (aF l) l.length 4,J k',J n',.ab s',.ad (aF l') l'.length 4]from rfl,aBz];have h1:=y' hv;have h2:=y' Ij;have h3:=Z6 [] (.mk k n s l);simp at h3;simp only at h1 h2;refine⟨([],.mk k n s l),⟨rfl,rfl,ho,Ns hv,by simp only;omega,by simp;omega⟩,((gf [] (.mk k n s l)).2,.mk k' n' s' l'),⟨rfl,rfl,nA,Ns Ij,by simp only;omega,by simp only;omega⟩,?_⟩;rw[WH];exact⟨rfl,rfl⟩
def uP:LN:=[99,97,108,108]
def eF:aI->Option aI
 |.mk k n s [a,b]=>if k=0 then some (.mk 3 0 uP [.mk k n s [a,b]])else if j0 k s 2 then(match eF a,eF b with|some x,some y=>some (.mk 3 0 s [x,y])|_,_=>none)else if nR k then some (dj (.mk k n s [a,b]))else none
 |.mk k n s l=>if k=0 then some (.mk 3 0 uP [.mk k n s l])else if nR k then some (dj (.mk k n s l))else none
abbrev ajo:AV:=.dH (.dT 214 (.ah []))
def buX(N:Nat):xQ (λb=>bif b then aI×aI else aI)where
 bn b w A H:=match b,w with
  |true,(t,g)=>A=[.ah (aW t)]/\H=an/\bL t/\bN t<N/\eF t=some g
  |false,t=>A=[.ah (aW t)]/\H=an/\bL t/\bN t<N/\eF t=none
 v b w:=match b,w with
  |true,(t,g)=>.ah (ij g)
  |false,t=>ajo
 aK b w:=an
theorem aoL(N):(buX N).cr:=by
 intro b w b' w' A H h1 h2;cases b<;>cases b'
 .rfl
 .have⟨t,g⟩:=w';rw[w_ h1.1 h2.1]at h1;have h3:=h1.2.2.2.2;rw[h2.2.2.2.2]at h3;cases h3
 .have⟨t,g⟩:=w;rw[w_ h1.1 h2.1]at h1;have h3:=h1.2.2.2.2;rw[h2.2.2.2.2]at h3;cases h3
 .have⟨t,g⟩:=w;have⟨t',g'⟩:=w';have h3:=h1.2.2.2.2;rw[w_ h1.1 h2.1,h2.2.2.2.2]at h3;cases h3;rfl
def Of(N:Nat):Ev.bo:=bR 139 (Hg (buX N) (aoL N)) K18
theorem Na{k n s cs len N L Q}:
 bI Z (Of N) (λ_=>[]) L Q 1000 139 [.ah [J k,J n,.ab s,.ad cs len 4]] an=(
 aq (k==0) (Q (.ah [J 3,J 0,.ab (du (ByteArray.mk (List.toArray [99,97,108,108]))),.bq 0 0 1 1 4 true]) (al [(0,en k n s cs len)] 1)) ((al [] 0=an/\True)/\aq (j0 k s len) (0<len/\(∃aP:Int,∃bA:Int,∃cn:LN,∃bP:LV,∃bH:Nat,((cs.drop 0).take 4:List AV)=[J aP,J bA,.ab cn,.ad bP bH 4]/\1<len/\(∃cf:Int,∃dc:Int,∃lE:LN,∃gN:LV,∃gP:Nat,((cs.drop 4).take 4:List AV)=[J cf,J dc,.ab lE,.ad gN gP 4]/\(∃b:Bool,aq b (∃w:bif true then aI×aI else aI,(([.ah [J aP,J bA,.ab cn,.ad bP bH 4]]:LV)=[.ah (aW w.1)]/\al [] 0=an/\bL w.1/\bN w.1<N/\eF w.1=some w.2)/\some (.ah [J cf,J dc,.ab lE,.ad gN gP 4]:AV)=some (.ah [J cf,J dc,.ab lE,.ad gN gP 4]:AV)/\some (.ad cs len 4:AV)=some (.ad cs len 4:AV)/\some (.ab s:AV)=some (.ab s:AV)/\(∃iE:Bool,aq iE (∃ae:bif true then aI×aI else aI,(([.ah [J cf,J dc,.ab lE,.ad gN gP 4]]:LV)=[.ah (aW ae.1)]/\al [] 0=an/\bL ae.1/\bN ae.1<N/\eF ae.1=some ae.2)/\some (.ab s:AV)=some (.ab s:AV)/\Q (.ah [J 3,J 0,.ab s,.bq 0 0 2 2 4 true]) (al [(0,.aj [J w.2.cq,J w.2.n,.ab w.2.cK,.ad (aF w.2.bh) w.2.bh.length 4,J ae.2.cq,J ae.2.n,.ab ae.2.cK,.ad (aF ae.2.bh) ae.2.bh.length 4] 49)] 1)) (∃ae:bif false then aI×aI else aI,(([.ah [J cf,J dc,.ab lE,.ad gN gP 4]]:LV)=[.ah (aW ae)]/\al [] 0=an/\bL ae/\bN ae<N/\eF ae=none)/\Q (.dH (.dT 214 (.ah []))) an))) (∃w:bif false then aI×aI else aI,(([.ah [J aP,J bA,.ab cn,.ad bP bH 4]]:LV)=[.ah (aW w)]/\al [] 0=an/\bL w/\bN w<N/\eF w=none)/\Q (.dH (.dT 214 (.ah []))) an))))) ((al [] 0=an/\True)/\aq (nR k) (∃w:aI,(([.ah [J k,J n,.ab s,.ad cs len 4]]:LV)=[.ah (aW w)]/\al [] 0=an/\bL w)/\Q (.ah [J (dj w).cq,J (dj w).n,.ab (dj w).cK,.ad (aF (dj w).bh) (dj w).bh.length 4]) an) (Q (.dH (.dT 214 (.ah []))) an)))):=by kernel_rfl
theorem DH(n s l):eF (.mk 0 n s l)=some (.mk 3 0 uP [.mk 0 n s l]):=by
 match l with
 |[a,b]=>simp[eF]
 |[]=>rfl
 |[_]=>rfl
 |_::_::_::_=>rfl
theorem DG{k n s l}(hk:¬k=0)(h:j0 k s l.length=false):eF (.mk k n s l)=if nR k then some (dj (.mk k n s l))else none:=by
 match l with
 |[a,b]=>simp only[eF];rw[az hk,show j0 k s 2=false from h];rfl
 |[]=>simp only[eF];rw[az hk]
 |[_]=>simp only[eF];rw[az hk]
 |_::_::_::_=>simp only[eF];rw[az hk]
def aei(s:LN):Option aI->Option aI->Option aI
 |some x,some y=>some (.mk 3 0 s [x,y])
 |_,_=>none
theorem O6{k n s a b}(hk:¬k=0)(h:j0 k s 2=true):eF (.mk k n s [a,b])=aei s (eF a) (eF b):=by simp only[eF];rw[az hk,h,aO rfl];rfl
def VW:Option aI->AV
 |some g=>.ah (aW g)
 |none=>ajo
theorem aek{t N}(hS:aU Z (Of N))(ho:bL t)(hN:bN t<N+1):bZ Z 139 [.ah (aW t)] an (VW (eF t)) an:=by
 have⟨k,n,s,l⟩:=t;by_cases hk:k=0
 .subst hk;rw[DH,VW];have h1:bZ Z 139 [.ah (aW (.mk 0 n s l))] an (.ah [J 3,J 0,.ab uP,.bq 0 0 1 1 4 true]) (al [(0,en 0 n s (aF l) l.length)] 1):=by refine eS hS 1000 (λ_=>[]) 34 (by kernel_rfl) ?_;rw[aW,Na];exact aD.2 ⟨λ_=>⟨rfl,rfl⟩,λh=>(by cases h)⟩
  have h2:=DT (g:=0) h1 rfl rfl (gq _);exact nh (ps:=[]) h2 (by kernel_rfl) (by kernel_rfl)
 .by_cases hb:j0 k s l.length=true
  .obtain⟨a,b,rfl⟩:=L6 (O5 hb);have il:=hb;rw[O6 hk il];have ha:=ho.2.2.1;have eH:=ho.2.2.2.1;simp only[bN,bM]at hN;have nk:(k==0)=false:=by simpa using hk
   cases h1:eF a with
   |none=>refine eS hS 1000 (λ_=>[]) 34 (by kernel_rfl) ?_;rw[aW,Na,nk];have⟨k0,n0,s0,l0⟩:=a;have⟨k1,n1,s1,l1⟩:=b;exact⟨⟨rfl,trivial⟩,aD.2 ⟨λ_=>⟨by simp,k0,n0,s0,aF l0,l0.length,zL _ _,by simp,k1,n1,s1,aF l1,l1.length,wv _ _,false,.mk k0 n0 s0 l0,⟨rfl,rfl,ha,by omega,h1⟩,rfl,rfl⟩,λh=>(by rw[show j0 k s [aI.mk k0 n0 s0 l0,aI.mk k1 n1 s1 l1].length=true from il]at h;cases h)⟩⟩
   |some x=>cases h2:eF b with
    |none=>refine eS hS 1000 (λ_=>[]) 34 (by kernel_rfl) ?_;rw[aW,Na,nk];have⟨k0,n0,s0,l0⟩:=a;have⟨k1,n1,s1,l1⟩:=b;exact⟨⟨rfl,trivial⟩,aD.2 ⟨λ_=>⟨by simp,k0,n0,s0,aF l0,l0.length,zL _ _,by simp,k1,n1,s1,aF l1,l1.length,wv _ _,true,(.mk k0 n0 s0 l0,x),⟨rfl,rfl,ha,by simp only;omega,h1⟩,rfl,rfl,rfl,false,.mk k1 n1 s1 l1,⟨rfl,rfl,eH,by omega,h2⟩,rfl,rfl⟩,λh=>(by rw[show j0 k s [aI.mk k0 n0 s0 l0,aI.mk k1 n1 s1 l1].length=true from il]at h;cases h)⟩⟩
    |some y=>
     have h3:bZ Z 139 [.ah (aW (.mk k n s [a,b]))] an (.ah [J 3,J 0,.ab s,.bq 0 0 2 2 4 true]) (al [(0,.aj (aF [x,y]) 49)] 1):=by refine eS hS 1000 (λ_=>[]) 34 (by kernel_rfl) ?_;rw[aW,Na,nk];have⟨k0,n0,s0,l0⟩:=a;have⟨k1,n1,s1,l1⟩:=b;have⟨k2,n2,s2,l2⟩:=x;have⟨k3,n3,s3,l3⟩:=y;exact⟨⟨rfl,trivial⟩,aD.2 ⟨λ_=>⟨by simp,k0,n0,s0,aF l0,l0.length,zL _ _,by simp,k1,n1,s1,aF l1,l1.length,wv _ _,true,(.mk k0 n0 s0 l0,.mk k2 n2 s2 l2),⟨rfl,rfl,ha,by simp only;omega,h1⟩,rfl,rfl,rfl,true,(.mk k1 n1 s1 l1,.mk k3 n3 s3 l3),⟨rfl,rfl,eH,by simp only;omega,h2⟩,rfl,rfl,rfl⟩,λh=>(by rw[show j0 k s [aI.mk k0 n0 s0 l0,aI.mk k1 n1 s1 l1].length=true from il]at h;cases h)⟩⟩
     have h4:=DT (g:=0) h3 rfl (by have⟨k2,n2,s2,l2⟩:=x;have⟨k3,n3,s3,l3⟩:=y;rfl) (gq _);have h5:gT 0 (aF [x,y]) (.ah [J 3,J 0,.ab s,.bq 0 0 2 2 4 true])=VW (aei s (some x) (some y)):=by have⟨k2,n2,s2,l2⟩:=x;have⟨k3,n3,s3,l3⟩:=y;rfl
     rw[h5]at h4;exact nh (ps:=[]) h4 (by kernel_rfl) (by kernel_rfl)
  .have hb:j0 k s l.length=false:=by simpa using hb
   rw[DG hk hb];have nk:(k==0)=false:=by simpa using hk
   refine eS hS 1000 (λ_=>[]) 34 (by kernel_rfl) ?_;rw[aW,Na,nk,hb];refine⟨⟨rfl,trivial⟩,⟨rfl,trivial⟩,aD.2 ⟨λh=>?_,λh=>?_⟩⟩
   .rw[h];refine⟨.mk k n s l,⟨rfl,rfl,ho⟩,?_⟩;generalize dj (.mk k n s l)=c;have⟨k2,n2,s2,l2⟩:=c;exact⟨rfl,rfl⟩
   .rw[h];exact⟨rfl,rfl⟩
theorem ani:∀N,aU Z (Of N):=by
 refine akp anh ?_ ?_
 .rintro b w args H hp;cases b
  .have:=hp.2.2.2.1;omega
  .have⟨t,g⟩:=w;have:=hp.2.2.2.1;omega
 .intro N hS b w args H hp;cases b
  .obtain⟨rfl,rfl,ho,hN,h⟩:=hp;have:=aek hS ho hN;rw[h]at this;exact this
  .have⟨t,g⟩:=w;obtain⟨rfl,rfl,ho,hN,h⟩:=hp;have:=aek hS ho hN;rw[h]at this;have⟨k,n,s,l⟩:=g;exact this
def Oe:Ev.bo:=Of 3000
theorem JR:aU Z Oe:=ani 3000
def cvX:cx aI where
 bn t A H:=A=[.ah (aW t)]/\H=an/\bL t/\bN t<3000
 v t:=.aC [.ah (ij ((eF t).getD iB)),.ao (eF t).isSome]
 aK t:=an
theorem apv:cvX.cr:=λt t' A H h1 h2=>by rw[w_ h1.1 h2.1]
def Up:Ev.bo:=bR 102 (ca cvX apv cD) Oe
def iH(t:aI):Option aI:=if eJ t then(match eF t with|some g=>if cU g<=2000 then some g else none|none=>none)else none
def Xf:cx aI where
 bn t A H:=A=[.ah (aW t)]/\H=an/\bL t
 v t:=.aC [.ah (ij ((iH t).getD iB)),.ao (iH t).isSome]
 aK t:=an
theorem art:Xf.cr:=λt t' A H h1 h2=>by rw[w_ h1.1 h2.1]
def Uq:Ev.bo:=bR 63 (ca Xf art cD) Up
def jt(c:nN):Bool:=eJ c.1&&nR c.1.cq&&decide (cU c.1+cU c.2<=2000)&&
 (iH c.2).isSome&&uD ((iH c.2).getD iB) c.2&&decide (((jT c).2:Int)<=64)&&uD (jT c).1.1 c.1&&uD (jT c).1.2 c.2
def V3:cx nN where
 bn c A H:=A=[.ah (aW c.1++aW c.2)]/\H=an/\bL c.1/\bL c.2
 v c:=.ao (jt c)
 aK c:=an
theorem aoO:V3.cr:=by rintro c c' A H ⟨h1,_⟩ ⟨h2,_⟩;rw[h1]at h2;simp at h2;rw[A4 h2]
def Ur:Ev.bo:=bR 48 (ca V3 aoO cD) Uq
def Iv:Nat->LN:=fT [(999998,[1,2,3,4])]
def aiK:Nat->LN:=fT [(999996,[2,3])]
def KZ(k n:Int)(s:LN)(cs:LV)(len:Nat):AH:=al [(0,en k n s cs len),(1,vX),(2,.aj [.ao false] 4)] 3
theorem azK{k n s cs len L Q}:
 bI Z Oe Iv L Q 1000 102 [.ah [J k,J n,.ab s,.ad cs len 4]] an=(
 L (aB [(1,.aa 0 0),(2,.aa 1 0),(3,.aa 2 0),(4,.ba (.func 138) [] [.aa 1 0,.aa 2 0])]) (al [(0,en k n s cs len),(1,l5 0 0 (du (ByteArray.mk (List.toArray []))) .aJ),(2,.aj [.ao false] 4)] 3) (di Z Iv 102 0)):=by kernel_rfl
theorem azI{k n s cs len L R Q}:
 Jc Z Oe aiK L R Q 1000 102 3 (aB [(1,.aa 0 0),(2,.aa 1 0),(3,.aa 2 0),(4,.ba (.func 138) [] [.aa 1 0,.aa 2 0])]) (GC (di Z Iv 102 0)) (KZ k n s cs len)=(
 ∃b,aq b (∃w:bif true then aI×aI else aI,(([.ah [J k,J n,.ab s,.ad cs len 4]]:LV)=[.ah (aW w.1)]/\al [] 0=an/\bL w.1/\bN w.1<3000/\eF w.1=some w.2)/\R (aB [(2,.aa 1 0),(3,.aa 2 0)]) (al [(0,en k n s cs len),(1,en w.2.cq w.2.n w.2.cK (aF w.2.bh) w.2.bh.length),(2,.aj [.ao true] 4)] 3)) (∃w:bif false then aI×aI else aI,(([.ah [J k,J n,.ab s,.ad cs len 4]]:LV)=[.ah (aW w)]/\al [] 0=an/\bL w/\bN w<3000/\eF w=none)/\Q (.dT 214 (.ah [])) (aB [(2,.aa 1 0),(3,.aa 2 0)]) (KZ k n s cs len))):=by kernel_rfl
theorem SF{k n s cs len L Q}:
 bI Z Up (λ_=>[]) L Q 1000 63 [.ah [J k,J n,.ab s,.ad cs len 4]] an=(
 (al [] 0=an/\kU [J k,J n,.ab s,.ad cs len 4])/\aq (!ig eJ [J k,J n,.ab s,.ad cs len 4]) (Q (.aC [.ah [J 0,J 0,.ab (du (ByteArray.mk (List.toArray []))),.aJ],.ao false]) an) (∃w,(([.ah [J k,J n,.ab s,.ad cs len 4]]:LV)=[.ah (aW w)]/\al [] 0=an/\bL w/\bN w<3000)/\aq (!Option.isSome (eF w)) (Q (.aC [.ah [J 0,J 0,.ab (du (ByteArray.mk (List.toArray []))),.aJ],.ao false]) an) ((al [] 0=an/\kU [J (Option.getD (eF w) iB).cq,J (Option.getD (eF w) iB).n,.ab (Option.getD (eF w) iB).cK,.ad (aF (Option.getD (eF w) iB).bh) (Option.getD (eF w) iB).bh.length 4])/\aq (decide (ig cU [J (Option.getD (eF w) iB).cq,J (Option.getD (eF w) iB).n,.ab (Option.getD (eF w) iB).cK,.ad (aF (Option.getD (eF w) iB).bh) (Option.getD (eF w) iB).bh.length 4]>2000)) (Q (.aC [.ah [J 0,J 0,.ab (du (ByteArray.mk (List.toArray []))),.aJ],.ao false]) an) (Q (.aC [.ah [J (Option.getD (eF w) iB).cq,J (Option.getD (eF w) iB).n,.ab (Option.getD (eF w) iB).cK,.ad (aF (Option.getD (eF w) iB).bh) (Option.getD (eF w) iB).bh.length 4],.ao true]) an)))):=by kernel_rfl
theorem aA6{k n s cs len k' n' s' cs' cB L Q}:
 bI Z Uq (λ_=>[]) L Q 1000 48 [.ah [J k,J n,.ab s,.ad cs len 4,J k',J n',.ab s',.ad cs' cB 4]] an=(
 (al [] 0=an/\kU [J k,J n,.ab s,.ad cs len 4])/\aq (!ig eJ [J k,J n,.ab s,.ad cs len 4]) (Q (.ao false) an) ((al [] 0=an/\True)/\aq (!nR k) (Q (.ao false) an) (∃w:nN,(([.ah [J k,J n,.ab s,.ad cs len 4,J k',J n',.ab s',.ad cs' cB 4]]:LV)=[.ah (HAppend.hAppend (aW w.1) (aW w.2))]/\al [] 0=an/\bL w.1/\bL w.2)/\aq (!decide (cU w.1+cU w.2<=2000)) (Q (.ao false) an) (∃ae,(([.ah [J k',J n',.ab s',.ad cs' cB 4]]:LV)=[.ah (aW ae)]/\al [] 0=an/\bL ae)/\aq (!Option.isSome (iH ae)) (Q (.ao false) an) (∃aS:aI×aI,(([.ah [J (Option.getD (iH ae) iB).cq,J (Option.getD (iH ae) iB).n,.ab (Option.getD (iH ae) iB).cK,.ad (aF (Option.getD (iH ae) iB).bh) (Option.getD (iH ae) iB).bh.length 4],.ah [J k',J n',.ab s',.ad cs' cB 4]]:LV)=[.ah (aW aS.1),.ah (aW aS.2)]/\al [] 0=an/\bL aS.1/\bL aS.2)/\aq (!uD aS.1 aS.2) (Q (.ao false) an) (∃c_,(([.ah [J k,J n,.ab s,.ad cs len 4,J k',J n',.ab s',.ad cs' cB 4]]:LV)=[.ah (HAppend.hAppend (aW c_.1) (aW c_.2))]/\al [] 0=an/\bL c_.1/\bL c_.2/\eJ c_.1=true/\eJ c_.2=true)/\aq (decide ((((jT c_).2:Nat):Int)<=64)) (∃fM:aI×aI,(([.ah [J (jT c_).1.1.cq,J (jT c_).1.1.n,.ab (jT c_).1.1.cK,.ad (aF (jT c_).1.1.bh) (jT c_).1.1.bh.length 4],.ah [J k,J n,.ab s,.ad cs len 4]]:LV)=[.ah (aW fM.1),.ah (aW fM.2)]/\al [] 0=an/\bL fM.1/\bL fM.2)/\aq (uD fM.1 fM.2) (∃kj:aI×aI,(([.ah [J (jT c_).1.2.cq,J (jT c_).1.2.n,.ab (jT c_).1.2.cK,.ad (aF (jT c_).1.2.bh) (jT c_).1.2.bh.length 4],.ah [J k',J n',.ab s',.ad cs' cB 4]]:LV)=[.ah (aW kj.1),.ah (aW kj.2)]/\al [] 0=an/\bL kj.1/\bL kj.2)/\Q (.ao (uD kj.1 kj.2)) an) (Q (.ao false) an)) (Q (.ao false) an))))))):=by kernel_rfl
def Wu:List pD:=[.uF (.func 138) [.aa 1 0,.aa 2 0] []]
theorem apw(k n s cs len):uY Z (Bj Z 0) 1 (fB [] none 102 7 (aB [(1,.aa 0 0),(2,.aa 1 0),(3,.aa 2 0),(4,.ba (.func 138) [] [.aa 1 0,.aa 2 0])]) (di Z Iv 102 0)) (KZ k n s cs len)=
 .go (fB Wu none 102 7 (aB [(1,.aa 0 0),(2,.aa 1 0),(3,.aa 2 0),(4,.ba (.func 138) [] [.aa 1 0,.aa 2 0])]) (GC (di Z Iv 102 0))) (KZ k n s cs len):=by kernel_rfl
theorem apA(o o'):uY Z (Bj Z 60) 1 ⟨102,aB [(2,.aa 1 0),(3,.aa 2 0)],7,[],Wu,.iX,none,none⟩ (al [(0,o),(1,o'),(2,.aj [.ao true] 4)] 3)=
 .go ⟨102,aB [(2,.aa 1 0),(3,.aa 2 0)],7,[],[],.iX,none,none⟩ (al [(0,o),(1,o'),(2,.aj [.ao true] 4)] 3):=by kernel_rfl
theorem apz(k n s cs len):uY Z (Bj Z 60) 1 ⟨102,aB [(2,.aa 1 0),(3,.aa 2 0)],7,[],Wu,.ll [(.dT 214 (.ah []),false)],none,none⟩ (KZ k n s cs len)=
 .go ⟨102,aB [(2,.aa 1 0),(3,.aa 2 0)],7,[],[],.iX,none,none⟩ (al [(0,en k n s cs len),(1,vX),(2,.aj [.ao false] 4),(3,.aj [] 214)] 4):=by kernel_rfl
theorem apx(k n s cs len k' n' s' cs' cB Q):pI Z 102 3 Q (aB [(2,.aa 1 0),(3,.aa 2 0)]) (al [(0,en k n s cs len),(1,en k' n' s' cs' cB),(2,.aj [.ao true] 4)] 3)=Q (.aC [.ah [J k',J n',.ab s',.ad cs' cB 4],.ao true]) (al [(0,en k n s cs len),(1,en k' n' s' cs' cB),(2,.aj [.ao true] 4)] 3):=by kernel_rfl
theorem apy(k n s cs len Q):pI Z 102 3 Q (aB [(2,.aa 1 0),(3,.aa 2 0)]) (al [(0,en k n s cs len),(1,vX),(2,.aj [.ao false] 4),(3,.aj [] 214)] 4)=Q (.aC [.ah [J 0,J 0,.ab [],.aJ],.ao false]) (al [(0,en k n s cs len),(1,vX),(2,.aj [.ao false] 4)] 3):=by kernel_rfl
theorem azJ{t}(ho:bL t)(hN:bN t<3000):bZ Z 102 [.ah (aW t)] an (.aC [.ah (ij ((eF t).getD iB)),.ao (eF t).isSome]) an:=by
 have⟨k,n,s,l⟩:=t;have rj:∀(v:AV) (o:bk),((∃g,eF (.mk k n s l)=some g/\v=.aC [.ah (ij g),.ao true]/\o=.aj (ij g) 49)\/(eF (.mk k n s l)=none/\v=.aC [.ah [J 0,J 0,.ab [],.aJ],.ao false]/\o=vX))->
  bZ Z 102 [.ah (aW (.mk k n s l))] an v (al [(0,en k n s (aF l) l.length),(1,o),(2,.aj [.ao (eF (.mk k n s l)).isSome] 4)] 3):=by
  intro v o hc;refine eS JR 1000 Iv 7 (by kernel_rfl) ?_;rw[aW,azK];refine cb.Bx iO (Bk iO 0) (λi wB H2 hi h=>?_) (apw k n s (aF l) l.length) ?_
  .have:i=0:=by omega
   subst this;cases h;rfl
  refine cb.ZF (gq _) (by show(3:Nat)<=3;omega) ?_;refine Lp iO JR (aR:=aiK) (n:=1000) ⟨⟨by omega,by omega,trivial⟩,trivial,trivial⟩ (by kernel_rfl) (λ_ _ h=>h) (λ_ _ _ h=>h) ?_;rw[azI];rcases hc with⟨g,hg,rfl,rfl⟩|⟨hg,rfl,rfl⟩
  .refine⟨true,(.mk k n s l,g),⟨rfl,rfl,ho,hN,hg⟩,?_⟩;refine cb.Bx iO (Bk iO 60) (λi wB H2 hi h=>?_) (apA _ _) ?_
   .have:i=0:=by omega
    subst this;cases h;rfl
   refine cb.pI iO (pK JR) ?_;rw[hg];have e:=apx k n s (aF l) l.length g.cq g.n g.cK (aF g.bh) g.bh.length;refine(e _).symm▸ ?_;exact⟨rfl,rfl⟩
  .refine⟨false,.mk k n s l,⟨rfl,rfl,ho,hN,hg⟩,?_⟩;refine cb.Bx iO (Bk iO 60) (λi wB H2 hi h=>?_) (apz k n s (aF l) l.length) ?_
   .have:i=0:=by omega
    subst this;cases h;rfl
   refine cb.pI iO (pK JR) ?_;rw[hg];refine(apy k n s (aF l) l.length _).symm▸ ?_;exact⟨rfl,rfl⟩
 cases hb:eF (.mk k n s l)with
 |some g=>have h1:=rj _ _ (.inl ⟨g,hb,rfl,rfl⟩);exact nh (ps:=[]) h1 (by kernel_rfl) (by kernel_rfl)
 |none=>have h1:=rj _ _ (.inr ⟨hb,rfl,rfl⟩);have h2:=nh (ps:=[]) h1 (by kernel_rfl) (by kernel_rfl) (v2:=.aC [.ah [J 0,J 0,.ab [],.aJ],.ao false]) (H2:=an);exact tS h2 (.FU (.xO (.agg abN) (.oq _))) (gq _)
theorem JS:aU Z Up:=by refine cA JR ?_;rintro t args H ⟨rfl,rfl,ho,hN⟩;exact azJ ho hN
theorem RP:bL iB:=⟨by simp[dt],by simp[dt],trivial⟩
theorem IN{t}(h:bL t):bL (dj t):=by
 unfold dj;split
 .exact h
 .exact RP
theorem RN:∀{t g},bL t->eF t=some g->bL g
 |.mk k n s [a,b],g,ho,h=>by
  by_cases hk:k=0
  .subst hk;rw[DH]at h;cases h;exact⟨by simp[dt,uP],by simp[dt],ho,trivial⟩
  by_cases hb:j0 k s 2=true
  .rw[O6 hk hb]at h;cases h1:eF a with
   |none=>rw[h1]at h;cases h
   |some x=>cases h2:eF b with
    |none=>rw[h1,h2]at h;cases h
    |some y=>rw[h1,h2]at h;cases h;exact⟨ho.1,by simp[dt],RN ho.2.2.1 h1,RN ho.2.2.2.1 h2,trivial⟩
  .rw[DG hk (by simpa using hb)]at h;split at h
   .cases h;exact IN ho
   .cases h
 |.mk k n s [],g,ho,h=>by
  by_cases hk:k=0
  .subst hk;rw[DH]at h;cases h;exact⟨by simp[dt,uP],by simp[dt],ho,trivial⟩
  .rw[DG hk (by simp[j0])]at h;split at h
   .cases h;exact IN ho
   .cases h
 |.mk k n s [a],g,ho,h=>by
  by_cases hk:k=0
  .subst hk;rw[DH]at h;cases h;exact⟨by simp[dt,uP],by simp[dt],ho,trivial⟩
  .rw[DG hk (by simp[j0])]at h;split at h
   .cases h;exact IN ho
   .cases h
 |.mk k n s (a::b::c::l),g,ho,h=>by
  by_cases hk:k=0
  .subst hk;rw[DH]at h;cases h;exact⟨by simp[dt,uP],by simp[dt],ho,trivial⟩
  .rw[DG hk (by simp[j0];omega)]at h;split at h
   .cases h;exact IN ho
   .cases h
theorem aeZ{α}[Inhabited α](f:aI->α)(t):ig f [J t.cq,J t.n,.ab t.cK,.ad (aF t.bh) t.bh.length 4]=f t:=by cases t;exact jV _ _ _ _ _
theorem ah6{t}(h:bL t):kU [J t.cq,J t.n,.ab t.cK,.ad (aF t.bh) t.bh.length 4]:=by cases t;exact mE h
theorem acP:aU Z Uq:=by
 refine cA JS ?_;rintro⟨k,n,s,l⟩ args H ⟨rfl,rfl,ho⟩;simp only[Xf];have no:iH (.mk k n s l)=none->bZ Z 63 [.ah (aW (.mk k n s l))] an (.aC [.ah [J 0,J 0,.ab [],.aJ],.ao false]) an->bZ Z 63 [.ah (aW (.mk k n s l))] an (.aC [.ah (ij ((iH (.mk k n s l)).getD iB)),.ao (iH (.mk k n s l)).isSome]) an:=by intro h h1;rw[h];exact tS h1 (.FU (.xO (.agg abN) (.oq _))) (gq _)
 by_cases hv:eJ (.mk k n s l)=true
 .have cv:=y' hv;cases hb:eF (.mk k n s l)with
  |none=>refine no (by rw[iH,aO hv,hb]) ?_;refine eS JS 1000 (λ_=>[]) 22 (by kernel_rfl) ?_;rw[aW,SF,jV,hv];exact⟨⟨rfl,mE ho⟩,aD.2 ⟨λh=>(by cases h),λ_=>⟨.mk k n s l,⟨rfl,rfl,ho,by omega⟩,aD.2 ⟨λ_=>⟨rfl,rfl⟩,λh=>(by rw[hb]at h;cases h)⟩⟩⟩⟩
  |some g=>
   have H_:=RN ho hb;by_cases hs:cU g<=2000
   .have hg:iH (.mk k n s l)=some g:=by rw[iH,aO hv,hb];exact aO hs
    rw[hg];refine eS JS 1000 (λ_=>[]) 22 (by kernel_rfl) ?_;rw[aW,SF,jV,hv];refine⟨⟨rfl,mE ho⟩,aD.2 ⟨λh=>(by cases h),λ_=>⟨.mk k n s l,⟨rfl,rfl,ho,by omega⟩,aD.2 ⟨λh=>(by rw[hb]at h;cases h),λ_=>?_⟩⟩⟩⟩;rw[hb];refine⟨⟨rfl,ah6 H_⟩,aD.2 ⟨λh=>?_,λ_=>⟨rfl,rfl⟩⟩⟩;have h:=dQ h;rw[aeZ]at h;simp at h;omega
   .refine no (by rw[iH,aO hv,hb];exact az hs) ?_;refine eS JS 1000 (λ_=>[]) 22 (by kernel_rfl) ?_;rw[aW,SF,jV,hv];refine⟨⟨rfl,mE ho⟩,aD.2 ⟨λh=>(by cases h),λ_=>⟨.mk k n s l,⟨rfl,rfl,ho,by omega⟩,aD.2 ⟨λh=>(by rw[hb]at h;cases h),λ_=>?_⟩⟩⟩⟩;rw[hb];refine⟨⟨rfl,ah6 H_⟩,aD.2 ⟨λ_=>⟨rfl,rfl⟩,λh=>?_⟩⟩;have h:=ez h;rw[aeZ]at h;simp at h;omega
 .have hv:eJ (.mk k n s l)=false:=by simpa using hv
  refine no (by rw[iH,hv];rfl) ?_;refine eS JS 1000 (λ_=>[]) 22 (by kernel_rfl) ?_;rw[aW,SF,jV,hv];exact⟨⟨rfl,mE ho⟩,aD.2 ⟨λ_=>⟨rfl,rfl⟩,λh=>(by cases h)⟩⟩
mutual
theorem aae:∀(m:LP) (t:aI),bL t->bL (gf m t).1
 |m,.mk k n s l,h=>by refine⟨h.1,?_,ajN _ l h.2.2⟩;rw[RF];exact h.2.1
theorem ajN:∀(m:LP) (l:eK),fy l->fy (oD m l).1
 |m,[],_=>trivial
 |m,t::l,h=>⟨aae m t h.1,ajN _ l h.2⟩
end
theorem agB{t}(ho:bL t):bL ((iH t).getD iB):=by
 unfold iH;split
 .cases hb:eF t with
  |none=>exact RP
  |some g=>
   simp only;split
   .exact RN ho hb
   .exact RP
 .exact RP
theorem agC{t}(h:(iH t).isSome=true):eJ t=true:=by
 unfold iH at h;split at h
 .assumption
 .cases h
theorem acQ:aU Z Ur:=by
 refine cA acP ?_;rintro⟨⟨k,n,s,l⟩,⟨k',n',s',m⟩⟩ args H ⟨rfl,rfl,ho,nA⟩;refine eS acP 1000 (λ_=>[]) 57 (by kernel_rfl) ?_;simp only[V3];have aH:jt (.mk k n s l,.mk k' n' s' m)=false->fA (.ao (jt (.mk k n s l,.mk k' n' s' m))) an (.ao false) an:=λh=>by rw[h];exact⟨rfl,rfl⟩
 rw[show aW (.mk k n s l)++aW (.mk k' n' s' m)=[J k,J n,.ab s,.ad (aF l) l.length 4,J k',J n',.ab s',.ad (aF m) m.length 4]from rfl,aA6,jV];refine⟨⟨rfl,mE ho⟩,aD.2 ⟨λh=>aH ?_,λh1=>⟨⟨rfl,trivial⟩,aD.2 ⟨λh=>aH ?_,λh2=>⟨(.mk k n s l,.mk k' n' s' m),⟨rfl,rfl,ho,nA⟩,aD.2 ⟨λh=>aH ?_,λh3=>⟨.mk k' n' s' m,⟨rfl,rfl,nA⟩,aD.2 ⟨λh=>aH ?_,λh4=>?_⟩⟩⟩⟩⟩⟩⟩⟩
 .simp[jt,show eJ (.mk k n s l)=false by simpa using h]
 .simp[jt,show nR (aI.mk k n s l).cq=false by simpa[aI.cq]using h]
 .have h:decide (cU (.mk k n s l)+cU (.mk k' n' s' m)<=2000)=false:=by simpa using h
  simp[jt,ez h]
 .simp[jt,show(iH (.mk k' n' s' m)).isSome=false by simpa using h]
 have h1:eJ (.mk k n s l)=true:=by simpa using h1
 have h2:nR (aI.mk k n s l).cq=true:=by simpa[aI.cq]using h2
 have h3:decide (cU (.mk k n s l)+cU (.mk k' n' s' m)<=2000)=true:=by simpa using h3
 have h4:(iH (.mk k' n' s' m)).isSome=true:=by simpa using h4
 have hv:=agC h4;have hg:=agB nA;have e:jt (.mk k n s l,.mk k' n' s' m)=(uD ((iH (.mk k' n' s' m)).getD iB) (.mk k' n' s' m)&&decide (((jT (.mk k n s l,.mk k' n' s' m)).2:Int)<=64)&&uD (jT (.mk k n s l,.mk k' n' s' m)).1.1 (.mk k n s l)&&uD (jT (.mk k n s l,.mk k' n' s' m)).1.2 (.mk k' n' s' m)):=by simp only[jt,h1,h2,h3,h4,rA]
 rw[e]at aH⊢;generalize HV:(iH (.mk k' n' s' m)).getD iB=gd at hg aH⊢;have Qt:=aae [] (.mk k n s l) ho;have qs:=aae (gf [] (.mk k n s l)).2 (.mk k' n' s' m) nA;have⟨a,b,c,d⟩:=gd;refine⟨(.mk a b c d,.mk k' n' s' m),⟨rfl,rfl,hg,nA⟩,aD.2 ⟨λh=>aH ?_,λh5=>?_⟩⟩
 .simp[show uD (.mk a b c d) (.mk k' n' s' m)=false by simpa using h]
 have h5:uD (.mk a b c d) (.mk k' n' s' m)=true:=by simpa using h5
 rw[h5,rA]at aH⊢;refine⟨(.mk k n s l,.mk k' n' s' m),⟨rfl,rfl,ho,nA,h1,hv⟩,aD.2 ⟨λh6=>?_,λh=>aH ?_⟩⟩
 .rw[h6,rA]at aH⊢;refine⟨((jT (.mk k n s l,.mk k' n' s' m)).1.1,.mk k n s l),⟨by rw[<-zG];rfl,rfl,Qt,ho⟩,aD.2 ⟨λh7=>?_,λh=>aH ?_⟩⟩
  .rw[h7,rA];exact⟨((jT (.mk k n s l,.mk k' n' s' m)).1.2,.mk k' n' s' m),⟨by rw[<-zG];rfl,rfl,qs,nA⟩,rfl,rfl⟩
  .rw[h,tg]
 .rw[h,tg,tg]
end
end Go.Cl
