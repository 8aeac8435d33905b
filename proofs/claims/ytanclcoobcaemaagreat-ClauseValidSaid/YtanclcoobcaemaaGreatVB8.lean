/- Part of a proof of ClauseValid. -/
import Derived.Test.YtanclcoobcaemaaGreatVB7
set_option linter.all false
set_option linter.unusedSectionVars false
set_option maxRecDepth 100000
namespace Go.Cl
open Go.Ev Go.Proofs
noncomputable section
def xU:Nat->List Nat:=kg [(5,[0,2,3,5,9,10]),(26,[0,14,15]),(48,[0,13])]
def MG(c:Ck)(i:a9)(rs:List Int):AH:=an [(0,qW 1 c),(1,dO c),(2,mU i),(3,bp rs 3)] 4
def xZ(c:Ck)(ws:List Int):AH:=an [(0,qW 1 c),(1,dO c),(2,bp ws 3)] 3
theorem as2(c:Ck)(op r a n:Int)(s:List Nat)(ar:Int)(f la:Bool)(L:LT)(Q:QT):
 b8 Z V7 xU L Q 3000 45 [.ab 0 0,.au [J op,J r,J a,J n,.aa s,J ar],.ai f,.ai la] (cj c)=(
 (an [] 0=aq∧True)∧some (J c.args:AV)=some (J c.args:AV)∧ah (!(e9 op==decide (c.args>0))) (Q (.ai false) (cj c)) (∃w:a9,(([.au [J op,J r,J a,J n,.aa s,J ar]]:LV)=[.au (cb w)]∧an [] 0=aq)∧L (aQ [(0,.ab 0 0),(2,.ai f),(3,.ai la),(5,.ab 2 0),(9,.ad 3 (bo w).length 1),(10,J 0)]) (an [(0,qW 1 c),(1,dO c),(2,.aw [J op,J r,J a,J n,.aa s,J ar] 50),(3,bp (bo w) 3)] 4) (ao Z 45 0))):=by kernel_rfl
theorem afN(c:Ck)(i:a9)(rs:List Int)(k:Int)(f la:Bool)(L:LT)(Q:QT):
 cO Z V7 xU L Q 3000 45 2 (aQ [(0,.ab 0 0),(2,.ai f),(3,.ai la),(5,.ab 2 0),(9,.ad 3 rs.length 1),(10,J k)]) (ao Z 45 0) (MG c i rs)=(
 ah (decide (k<Int.ofNat rs.length)) (∃aD:Nat,k=(aD:Int)∧aD<rs.length∧(∃n:Int,bQ Z 3 (aX rs) (aD*1)=some (J n:AV)∧(∃aL:Int,∃b:Bool,fX Z 3 3 (gw c.d) (J n)=some (J aL,b)∧ah (aL==0) (Q (.ai false) (cj c)) (L (aQ [(0,.ab 0 0),(2,.ai f),(3,.ai la),(5,.ab 2 0),(9,.ad 3 rs.length 1),(10,J (wI (k+1)))]) (MG c i rs) (ao Z 45 0))))) ((an [] 0=aq∧True)∧ah (e9 i.op) (ah (i.op==10) (ah (i.op==6) (∃w:Ck×Int,(([.ab 0 0,J i.r]:LV)=[.ab 0 0,J w.2]∧an [(0,.aw [.aH 1,J c.aR,J (wI (c.args-i.n)),J c.after,.ai c.bP] 139),(1,dO c)] 2=cj w.1∧fU w.2)∧ah (!w.1.ex w.2) (Q (.ai false) (cj (w.1.ew w.2))) (ah (decide ((w.1.ew w.2).args<0)) (Q (.ai false) (cj (w.1.ew w.2))) (ah la (Q (.ai false) (cj (w.1.ew w.2))) (ah ((w.1.ew w.2).args==0) (ah ((w.1.ew w.2).after !=0) (∃bw:List (AV×AV×Nat),∃c':Nat,jc Z 3 (gw (w.1.ew w.2).d) (w.1.ew w.2).kV (J (w.1.ew w.2).after) (J 1)=some (bw,c')∧Q (.ai true) (an [(0,.aw [.aH 1,J (w.1.ew w.2).aR,J (w.1.ew w.2).args,J 0,.ai (w.1.ew w.2).bP] 139),(1,.bC bw c' true)] 2)) (Q (.ai true) (cj (w.1.ew w.2)))) (Q (.ai true) (cj (w.1.ew w.2))))))) (ah (decide (wI (c.args-i.n)<0)) (Q (.ai false) (an [(0,.aw [.aH 1,J c.aR,J (wI (c.args-i.n)),J c.after,.ai c.bP] 139),(1,dO c)] 2)) (ah la (Q (.ai false) (an [(0,.aw [.aH 1,J c.aR,J (wI (c.args-i.n)),J c.after,.ai c.bP] 139),(1,dO c)] 2)) (ah (wI (c.args-i.n)==0) (ah (c.after !=0) (∃bw:List (AV×AV×Nat),∃c':Nat,jc Z 3 (gw c.d) c.kV (J c.after) (J 1)=some (bw,c')∧Q (.ai true) (an [(0,.aw [.aH 1,J c.aR,J (wI (c.args-i.n)),J 0,.ai c.bP] 139),(1,.bC bw c' true)] 2)) (Q (.ai true) (an [(0,.aw [.aH 1,J c.aR,J (wI (c.args-i.n)),J c.after,.ai c.bP] 139),(1,dO c)] 2))) (Q (.ai true) (an [(0,.aw [.aH 1,J c.aR,J (wI (c.args-i.n)),J c.after,.ai c.bP] 139),(1,dO c)] 2)))))) (ah (i.op==6) (∃w:Ck×Int,(([.ab 0 0,J i.r]:LV)=[.ab 0 0,J w.2]∧an [(0,.aw [.aH 1,J c.aR,J (wI (c.args-1)),J c.after,.ai c.bP] 139),(1,dO c)] 2=cj w.1∧fU w.2)∧ah (!w.1.ex w.2) (Q (.ai false) (cj (w.1.ew w.2))) (ah (decide ((w.1.ew w.2).args<0)) (Q (.ai false) (cj (w.1.ew w.2))) (ah la (Q (.ai false) (cj (w.1.ew w.2))) (ah ((w.1.ew w.2).args==0) (ah ((w.1.ew w.2).after !=0) (∃bw:List (AV×AV×Nat),∃c':Nat,jc Z 3 (gw (w.1.ew w.2).d) (w.1.ew w.2).kV (J (w.1.ew w.2).after) (J 1)=some (bw,c')∧Q (.ai true) (an [(0,.aw [.aH 1,J (w.1.ew w.2).aR,J (w.1.ew w.2).args,J 0,.ai (w.1.ew w.2).bP] 139),(1,.bC bw c' true)] 2)) (Q (.ai true) (cj (w.1.ew w.2)))) (Q (.ai true) (cj (w.1.ew w.2))))))) (ah (decide (wI (c.args-1)<0)) (Q (.ai false) (an [(0,.aw [.aH 1,J c.aR,J (wI (c.args-1)),J c.after,.ai c.bP] 139),(1,dO c)] 2)) (ah la (Q (.ai false) (an [(0,.aw [.aH 1,J c.aR,J (wI (c.args-1)),J c.after,.ai c.bP] 139),(1,dO c)] 2)) (ah (wI (c.args-1)==0) (ah (c.after !=0) (∃bw:List (AV×AV×Nat),∃c':Nat,jc Z 3 (gw c.d) c.kV (J c.after) (J 1)=some (bw,c')∧Q (.ai true) (an [(0,.aw [.aH 1,J c.aR,J (wI (c.args-1)),J 0,.ai c.bP] 139),(1,.bC bw c' true)] 2)) (Q (.ai true) (an [(0,.aw [.aH 1,J c.aR,J (wI (c.args-1)),J c.after,.ai c.bP] 139),(1,dO c)] 2))) (Q (.ai true) (an [(0,.aw [.aH 1,J c.aR,J (wI (c.args-1)),J c.after,.ai c.bP] 139),(1,dO c)] 2))))))) (ah (i.op==20) (ah (!(true==la)) (Q (.ai false) (cj c)) (ah (i.op==5) (Q (.ai true) (an [(0,.aw [.aH 1,J c.aR,J i.ar,J c.after,.ai c.bP] 139),(1,dO c)] 2)) (ah (i.op==15) (some (J i.r:AV)=some (J i.r:AV)∧(∃w:Ck×Int,(([.ab 0 0,J i.r]:LV)=[.ab 0 0,J w.2]∧an [(0,.aw [.aH 1,J c.aR,J i.ar,J i.r,.ai c.bP] 139),(1,dO c)] 2=cj w.1∧fU w.2)∧Q (.ai (w.1.ex w.2)) (cj w.1))) (ah (i.op==16) (Q (.ai f) (an [(0,.aw [.aH 1,J i.n,J c.args,J c.after,.ai c.bP] 139),(1,dO c)] 2)) (ah (i.op==17) (ah (decide (c.aR<i.n)) (Q (.ai false) (cj c)) (∃w:Ck×Int,(([.ab 0 0,J i.n]:LV)=[.ab 0 0,J w.2]∧cj c=cj w.1)∧Q (.ai true) (cj (w.1.ko w.2)))) (ah (i.op==18) (ah (decide (c.aR<0)) (Q (.ai false) (cj c)) (∃w:Ck×Int,(([.ab 0 0,J (-1)]:LV)=[.ab 0 0,J w.2]∧cj c=cj w.1)∧Q (.ai true) (cj (w.1.ko w.2)))) (ah (i.op==19) (L (aQ [(0,.ab 0 0),(13,J 1)]) (cj c) (ao Z 45 1)) (ah (i.op==20) (ah (i.op==20) (Q (.ai (decide (c.aR<0))) (cj c)) (ah (i.op==22) (ah (!c.bP) (∃w:Ck×Int,(([.ab 0 0,J i.r]:LV)=[.ab 0 0,J w.2]∧cj c=cj w.1∧fU w.2)∧Q (.ai (w.1.ex w.2)) (cj (w.1.ew w.2))) (Q (.ai false) (cj c))) (∃w:a9,(([.au (cb i)]:LV)=[.au (cb w)]∧an [] 0=aq)∧L (aQ [(0,.ab 0 0),(14,.ad 2 (bj w).length 1),(15,J 0)]) (xZ c (bj w)) (ao Z 45 2)))) (ah (i.op==21) (Q (.ai (decide (c.aR<0))) (cj c)) (ah (i.op==22) (ah (!c.bP) (∃w:Ck×Int,(([.ab 0 0,J i.r]:LV)=[.ab 0 0,J w.2]∧cj c=cj w.1∧fU w.2)∧Q (.ai (w.1.ex w.2)) (cj (w.1.ew w.2))) (Q (.ai false) (cj c))) (∃w:a9,(([.au (cb i)]:LV)=[.au (cb w)]∧an [] 0=aq)∧L (aQ [(0,.ab 0 0),(14,.ad 2 (bj w).length 1),(15,J 0)]) (xZ c (bj w)) (ao Z 45 2)))))))))))) (ah (i.op==21) (ah (!(true==la)) (Q (.ai false) (cj c)) (ah (i.op==5) (Q (.ai true) (an [(0,.aw [.aH 1,J c.aR,J i.ar,J c.after,.ai c.bP] 139),(1,dO c)] 2)) (ah (i.op==15) (some (J i.r:AV)=some (J i.r:AV)∧(∃w:Ck×Int,(([.ab 0 0,J i.r]:LV)=[.ab 0 0,J w.2]∧an [(0,.aw [.aH 1,J c.aR,J i.ar,J i.r,.ai c.bP] 139),(1,dO c)] 2=cj w.1∧fU w.2)∧Q (.ai (w.1.ex w.2)) (cj w.1))) (ah (i.op==16) (Q (.ai f) (an [(0,.aw [.aH 1,J i.n,J c.args,J c.after,.ai c.bP] 139),(1,dO c)] 2)) (ah (i.op==17) (ah (decide (c.aR<i.n)) (Q (.ai false) (cj c)) (∃w:Ck×Int,(([.ab 0 0,J i.n]:LV)=[.ab 0 0,J w.2]∧cj c=cj w.1)∧Q (.ai true) (cj (w.1.ko w.2)))) (ah (i.op==18) (ah (decide (c.aR<0)) (Q (.ai false) (cj c)) (∃w:Ck×Int,(([.ab 0 0,J (-1)]:LV)=[.ab 0 0,J w.2]∧cj c=cj w.1)∧Q (.ai true) (cj (w.1.ko w.2)))) (ah (i.op==19) (L (aQ [(0,.ab 0 0),(13,J 1)]) (cj c) (ao Z 45 1)) (ah (i.op==20) (ah (i.op==20) (Q (.ai (decide (c.aR<0))) (cj c)) (ah (i.op==22) (ah (!c.bP) (∃w:Ck×Int,(([.ab 0 0,J i.r]:LV)=[.ab 0 0,J w.2]∧cj c=cj w.1∧fU w.2)∧Q (.ai (w.1.ex w.2)) (cj (w.1.ew w.2))) (Q (.ai false) (cj c))) (∃w:a9,(([.au (cb i)]:LV)=[.au (cb w)]∧an [] 0=aq)∧L (aQ [(0,.ab 0 0),(14,.ad 2 (bj w).length 1),(15,J 0)]) (xZ c (bj w)) (ao Z 45 2)))) (ah (i.op==21) (Q (.ai (decide (c.aR<0))) (cj c)) (ah (i.op==22) (ah (!c.bP) (∃w:Ck×Int,(([.ab 0 0,J i.r]:LV)=[.ab 0 0,J w.2]∧cj c=cj w.1∧fU w.2)∧Q (.ai (w.1.ex w.2)) (cj (w.1.ew w.2))) (Q (.ai false) (cj c))) (∃w:a9,(([.au (cb i)]:LV)=[.au (cb w)]∧an [] 0=aq)∧L (aQ [(0,.ab 0 0),(14,.ad 2 (bj w).length 1),(15,J 0)]) (xZ c (bj w)) (ao Z 45 2)))))))))))) (ah (!((i.op==25)==la)) (Q (.ai false) (cj c)) (ah (i.op==5) (Q (.ai true) (an [(0,.aw [.aH 1,J c.aR,J i.ar,J c.after,.ai c.bP] 139),(1,dO c)] 2)) (ah (i.op==15) (some (J i.r:AV)=some (J i.r:AV)∧(∃w:Ck×Int,(([.ab 0 0,J i.r]:LV)=[.ab 0 0,J w.2]∧an [(0,.aw [.aH 1,J c.aR,J i.ar,J i.r,.ai c.bP] 139),(1,dO c)] 2=cj w.1∧fU w.2)∧Q (.ai (w.1.ex w.2)) (cj w.1))) (ah (i.op==16) (Q (.ai f) (an [(0,.aw [.aH 1,J i.n,J c.args,J c.after,.ai c.bP] 139),(1,dO c)] 2)) (ah (i.op==17) (ah (decide (c.aR<i.n)) (Q (.ai false) (cj c)) (∃w:Ck×Int,(([.ab 0 0,J i.n]:LV)=[.ab 0 0,J w.2]∧cj c=cj w.1)∧Q (.ai true) (cj (w.1.ko w.2)))) (ah (i.op==18) (ah (decide (c.aR<0)) (Q (.ai false) (cj c)) (∃w:Ck×Int,(([.ab 0 0,J (-1)]:LV)=[.ab 0 0,J w.2]∧cj c=cj w.1)∧Q (.ai true) (cj (w.1.ko w.2)))) (ah (i.op==19) (L (aQ [(0,.ab 0 0),(13,J 1)]) (cj c) (ao Z 45 1)) (ah (i.op==20) (ah (i.op==20) (Q (.ai (decide (c.aR<0))) (cj c)) (ah (i.op==22) (ah (!c.bP) (∃w:Ck×Int,(([.ab 0 0,J i.r]:LV)=[.ab 0 0,J w.2]∧cj c=cj w.1∧fU w.2)∧Q (.ai (w.1.ex w.2)) (cj (w.1.ew w.2))) (Q (.ai false) (cj c))) (∃w:a9,(([.au (cb i)]:LV)=[.au (cb w)]∧an [] 0=aq)∧L (aQ [(0,.ab 0 0),(14,.ad 2 (bj w).length 1),(15,J 0)]) (xZ c (bj w)) (ao Z 45 2)))) (ah (i.op==21) (Q (.ai (decide (c.aR<0))) (cj c)) (ah (i.op==22) (ah (!c.bP) (∃w:Ck×Int,(([.ab 0 0,J i.r]:LV)=[.ab 0 0,J w.2]∧cj c=cj w.1∧fU w.2)∧Q (.ai (w.1.ex w.2)) (cj (w.1.ew w.2))) (Q (.ai false) (cj c))) (∃w:a9,(([.au (cb i)]:LV)=[.au (cb w)]∧an [] 0=aq)∧L (aQ [(0,.ab 0 0),(14,.ad 2 (bj w).length 1),(15,J 0)]) (xZ c (bj w)) (ao Z 45 2)))))))))))))))):=by kernel_rfl
theorem asZ(c:Ck)(x:Int)(L:LT)(Q:QT):
 cO Z V7 xU L Q 3000 45 2 (aQ [(0,.ab 0 0),(13,J x)]) (ao Z 45 1) (cj c)=(
 ah (decide (x<=4096)) (∃bw:List (AV×AV×Nat),Dl Z 3 (gw c.d) (J x)=some bw∧L (aQ [(0,.ab 0 0),(13,J (wI (x+1)))]) (an [(0,qW 1 c),(1,.bC bw c.kV true)] 2) (ao Z 45 1)) (Q (.ai (decide (c.aR>=0))) (an [(0,.aw [.aH 1,J c.aR,J c.args,J c.after,.ai true] 139),(1,dO c)] 2))):=by kernel_rfl
theorem as4(c:Ck)(ws:List Int)(k:Int)(L:LT)(Q:QT):
 cO Z V7 xU L Q 3000 45 2 (aQ [(0,.ab 0 0),(14,.ad 2 ws.length 1),(15,J k)]) (ao Z 45 2) (xZ c ws)=(
 ah (decide (k<Int.ofNat ws.length)) (∃i:Nat,k=(i:Int)∧i<ws.length∧(∃n:Int,bQ Z 3 (aX ws) (i*1)=some (J n:AV)∧(∃w:Ck×Int,(([.ab 0 0,J n]:LV)=[.ab 0 0,J w.2]∧cj c=cj w.1∧fU w.2)∧ah (!w.1.ex w.2) (Q (.ai false) (cj (w.1.ew w.2))) (L (aQ [(0,.ab 0 0),(14,.ad 2 ws.length 1),(15,J (wI (k+1)))]) (xZ (w.1.ew w.2) ws) (ao Z 45 2))))) (Q (.ai true) (cj c))):=by kernel_rfl
def yl(c:Ck)(la:Bool):Bool×Ck:=
 if c.args<0 then(false,c)
 else if la=true then(false,c)
 else if c.args=0∧c.after≠0 then(true,{c.mj c.after with after:=0})
 else(true,c)
def jo(c:Ck)(i:a9)(la:Bool):Bool×Ck:=
 if i.op=6 then if c.ex i.r=true then yl (c.ew i.r) la else(false,c.ew i.r)
 else yl c la
def xd:Ck->List Int->Bool×Ck
 |c,[]=>(true,c)
 |c,r::l=>if c.ex r=true then xd (c.ew r) l else(false,c.ew r)
def pc:Nat->Int->List (Int×Nat)->List (Int×Nat)
 |0,_,d=>d
 |k+1,x,d=>pc k (x+1) (mN d x)
def nL(c:Ck)(i:a9)(f:Bool):Bool×Ck:=
 if i.op=5 then(true,{c with args:=i.ar})
 else if i.op=15 then(Ck.ex {c with args:=i.ar,after:=i.r} i.r,{c with args:=i.ar,after:=i.r})
 else if i.op=16 then(f,{c with aR:=i.n})
 else if i.op=17 then if c.aR<i.n then(false,c)else(true,c.ko i.n)
 else if i.op=18 then if c.aR<0 then(false,c)else(true,c.ko (-1))
 else if i.op=19 then(decide (c.aR>=0),{c with d:=pc 4096 1 c.d,bP:=true})
 else if i.op=20 then(decide (c.aR<0),c)
 else if i.op=21 then(decide (c.aR<0),c)
 else if i.op=22 then if c.bP=true then(false,c)else(c.ex i.r,c.ew i.r)
 else xd c (bj i)
def my(i:a9):Bool:=decide (i.op=20)||decide (i.op=21)||decide (i.op=25)
def sK(c:Ck)(i:a9)(f la:Bool):Bool×Ck:=
 if e9 i.op=true then jo {c with args:=wI (c.args-(if i.op=10 then i.n else 1))} i la
 else if my i=la then nL c i f else(false,c)
def eJ(c:Ck)(i:a9)(f la:Bool):Bool×Ck:=
 if e9 i.op=decide (c.args>0)then
  if(bo i).all (iL c.d)=true then sK c i f la else(false,c)
 else(false,c)
theorem as5{ws:List Int}{az:Bool×Ck}(hl:ws.length<5000)(ho:∀x∈ws,fU x):
 ∀p:Nat×Ck,(p.1<=ws.length∧xd p.2 (ws.drop p.1)=az)->
 bJ Z 45 229 2 (.ai az.1) (cj az.2) (aQ [(0,.ab 0 0),(14,.ad 2 ws.length 1),(15,J (p.1:Int))]) (xZ p.2 ws) (ao Z 45 2):=by
 refine cV (fun p=>ws.length-p.1) _ _ _ _ ?_;rintro⟨k,c⟩ ⟨hk,hf⟩ ih;simp only at hk hf ih⊢;refine hD CZ 3000 xU (by kernel_rfl) ?_;rw[as4];refine cU (fun h=>?_) (fun h=>?_)
 ·have aj:k<ws.length:=by have:=of_decide_eq_true h;simp at this;omega
  rw[dN aj,xd]at hf;refine⟨k,rfl,aj,ws[k],by rw[ja aj,List.getD_eq_getElem?_getD,List.getElem?_eq_getElem aj];rfl,(c,ws[k]),⟨rfl,rfl,ho _ (List.getElem_mem aj)⟩,cU (fun h2=>?_) (fun h2=>?_)⟩
  ·have h2:c.ex ws[k]=false:=by simpa using h2
   rw[h2]at hf;simp at hf;subst hf;exact⟨rfl,rfl⟩
  ·have h2:c.ex ws[k]=true:=by simpa using h2
   rw[if_pos h2]at hf;rw[gq aj (by omega)];exact ih (k+1,c.ew ws[k]) ⟨by simp only;omega,hf⟩ (by simp only;omega)
 ·have aS:ws.length<=k:=by have:=of_decide_eq_false h;simp at this;omega
  rw[List.drop_eq_nil_of_le aS,xd]at hf;subst hf;exact⟨rfl,rfl⟩
theorem as0{c:Ck}{D:List (Int×Nat)}:
 ∀p:Nat×List (Int×Nat),(p.1<=4096∧pc (4096-p.1) ((p.1:Int)+1) p.2=D)->
 bJ Z 45 229 2 (.ai (decide (c.aR>=0))) (cj {c with d:=D,bP:=true}) (aQ [(0,.ab 0 0),(13,J ((p.1:Int)+1))]) (cj {c with d:=p.2}) (ao Z 45 1):=by
 refine cV (fun p=>4097-p.1) _ _ _ _ ?_;rintro⟨k,d⟩ ⟨hk,hf⟩ ih;simp only at hk hf ih⊢;refine hD CZ 3000 xU (by kernel_rfl) ?_;rw[asZ];refine cU (fun h=>?_) (fun h=>?_)
 ·have h:(k:Int)+1<=4096:=of_decide_eq_true h;have hw:wI ((k:Int)+1+1)=((k+1:Nat):Int)+1:=by rw[cX (by omega) (by omega)];simp
  obtain⟨j,hj⟩:∃j,4096-k=j+1:=⟨4096-k-1,by omega⟩;have rl:4096-(k+1)=j:=by omega
  rw[hj,pc]at hf;rw[hw];exact⟨_,aah d _,ih (k+1,mN d ((k:Int)+1)) ⟨by simp only;omega,by simp only[rl];rw[show((k+1:Nat):Int)+1=(k:Int)+1+1 by omega];exact hf⟩ (by simp only;omega)⟩
 ·have h:¬(k:Int)+1<=4096:=of_decide_eq_false h;have HJ:k=4096:=by omega
  subst HJ;rw[show 4096-4096=0 from rfl,pc]at hf;subst hf;exact⟨rfl,rfl⟩
section
variable{c:Ck}{i:a9}{f la:Bool}{az:Bool×Ck}
theorem ayc{r:Int}(h:dj r=true):fU r:=by unfold dj at h;have:=of_decide_eq_true h;unfold fU;omega
theorem NC(c:Ck)(hf:yl c la=az):
 ah (decide (c.args<0)) (iS (.ai az.1) (cj az.2) (.ai false) (cj c)) (ah la (iS (.ai az.1) (cj az.2) (.ai false) (cj c)) (ah (c.args==0) (ah (c.after !=0) (∃bw:List (AV×AV×Nat),∃c':Nat,jc Z 3 (gw c.d) c.kV (J c.after) (J 1)=some (bw,c')∧iS (.ai az.1) (cj az.2) (.ai true) (an [(0,.aw [.aH 1,J c.aR,J c.args,J 0,.ai c.bP] 139),(1,.bC bw c' true)] 2)) (iS (.ai az.1) (cj az.2) (.ai true) (cj c))) (iS (.ai az.1) (cj az.2) (.ai true) (cj c)))):=by
 unfold yl at hf;refine cU (fun h=>?_) (fun h=>?_)
 ·rw[if_pos (of_decide_eq_true h)]at hf;subst hf;exact⟨rfl,rfl⟩
 ·rw[if_neg (of_decide_eq_false h)]at hf;refine cU (fun h=>?_) (fun h=>?_)
  ·rw[if_pos h]at hf;subst hf;exact⟨rfl,rfl⟩
  ·rw[if_neg (by rw[h];decide)]at hf;refine cU (fun h=>cU (fun h2=>?_) (fun h2=>?_)) (fun h=>?_)
   ·rw[if_pos ⟨by simpa using h,by simpa using h2⟩]at hf;subst hf;refine⟨_,_,Rf c c.after,rfl,?_⟩;obtain⟨h1,h2,h3,h4⟩:=BW c c.after;simp only[cj,qW,dO,h1,h2,h4]
   ·rw[if_neg (fun e=>e.2 (by simpa using h2))]at hf;subst hf;exact⟨rfl,rfl⟩
   ·rw[if_neg (fun e=>(by simpa using h:¬c.args=0) e.1)]at hf;subst hf;exact⟨rfl,rfl⟩
theorem MO{x y:Bool}(h:(!(x==y))=true):x≠y:=by cases x<;>cases y<;>simp_all
theorem KU{x y:Bool}(h:(!(x==y))=false):x=y:=by cases x<;>cases y<;>simp_all
theorem as1{rs:List Int}{k:Int}(hk:¬k<(rs.length:Int))(hr:i.op=6∨i.op=15∨i.op=22->fU i.r)(hw:(bj i).length<5000)(HY:∀x∈bj i,fU x)(hf:sK c i f la=az):
 bJ Z 45 229 2 (.ai az.1) (cj az.2) (aQ [(0,.ab 0 0),(2,.ai f),(3,.ai la),(5,.ab 2 0),(9,.ad 3 rs.length 1),(10,J k)]) (MG c i rs) (ao Z 45 0):=by
 refine hD CZ 3000 xU (by kernel_rfl) ?_;rw[afN];refine cU (fun h=>absurd (by have:=of_decide_eq_true h;simpa using this) hk) (fun _=>?_);refine⟨⟨rfl,trivial⟩,?_⟩;unfold sK at hf;refine cU (fun ha=>?_) (fun ha=>?_)
 ·rw[if_pos ha]at hf;refine cU (fun mQ=>?_) (fun mQ=>?_)
  ·rw[show(if i.op=10 then i.n else(1:Int))=i.n from if_pos (by simpa using mQ)]at hf;unfold jo at hf;refine cU (fun h6=>?_) (fun h6=>?_)
   ·have h6:i.op=6:=by simpa using h6
    rw[if_pos h6]at hf;refine⟨({c with args:=wI (c.args-i.n)},i.r),⟨rfl,rfl,hr (.inl h6)⟩,cU (fun h=>?_) (fun h=>?_)⟩
    ·rw[if_neg (by simpa using h)]at hf;subst hf;exact⟨rfl,rfl⟩
    ·rw[if_pos (by simpa using h)]at hf;exact NC _ hf
   ·rw[if_neg (by simpa using h6)]at hf;exact NC _ hf
  ·rw[show(if i.op=10 then i.n else(1:Int))=1 from if_neg (by simpa using mQ)]at hf;unfold jo at hf;refine cU (fun h6=>?_) (fun h6=>?_)
   ·have h6:i.op=6:=by simpa using h6
    rw[if_pos h6]at hf;refine⟨({c with args:=wI (c.args-1)},i.r),⟨rfl,rfl,hr (.inl h6)⟩,cU (fun h=>?_) (fun h=>?_)⟩
    ·rw[if_neg (by simpa using h)]at hf;subst hf;exact⟨rfl,rfl⟩
    ·rw[if_pos (by simpa using h)]at hf;exact NC _ hf
   ·rw[if_neg (by simpa using h6)]at hf;exact NC _ hf
 ·have Lt:¬e9 i.op=true:=by rw[ha];decide
  rw[if_neg Lt]at hf;have Ad:my i=la->nL c i f=az:=fun e=>by rw[if_pos e]at hf;exact hf
  have AE:my i≠la->az=(false,c):=fun e=>by rw[if_neg e]at hf;exact hf.symm
  have wr:=as5 (az:=az) hw HY (0,c);have e1:(i.op==20)=true->my i=true:=fun h=>by have h:i.op=20:=(by simpa using h);simp[my,h]
  have e2:(i.op==21)=true->my i=true:=fun h=>by have h:i.op=21:=(by simpa using h);simp[my,h]
  have e3:(i.op==20)=false->(i.op==21)=false->my i=(i.op==25):=fun h h'=>by
   have h:¬i.op=20:=by simpa using h
   have h':¬i.op=21:=by simpa using h'
   rw[Bool.eq_iff_iff];simp[my,h,h']
  refine cU (fun vQ=>cU (fun hb=>?_) (fun hb=>?_)) (fun vQ=>cU (fun vR=>cU (fun hb=>?_) (fun hb=>?_)) (fun vR=>cU (fun hb=>?_) (fun hb=>?_)))
  ·rw[AE (by rw[e1 vQ];exact MO hb)];exact⟨rfl,rfl⟩
  rotate_left
  ·rw[AE (by rw[e2 vR];exact MO hb)];exact⟨rfl,rfl⟩
  rotate_left
  ·rw[AE (by rw[e3 vQ vR];exact MO hb)];exact⟨rfl,rfl⟩
  have t1:=Ad ((e3 vQ vR).trans (KU hb))
  rotate_left
  have t1:=Ad ((e1 vQ).trans (KU hb))
  rotate_left
  have t1:=Ad ((e2 vR).trans (KU hb));all_goals
   clear hf;have hf:=t1;unfold nL at hf;refine cU (fun h=>?_) (fun h=>?_)
   ·rw[if_pos (by simpa using h)]at hf;subst hf;exact⟨rfl,rfl⟩
   rw[if_neg (by simpa using h)]at hf;refine cU (fun h=>?_) (fun h=>?_)
   ·have h:i.op=15:=by simpa using h
    rw[if_pos h]at hf;subst hf;exact⟨rfl,({c with args:=i.ar,after:=i.r},i.r),⟨rfl,rfl,hr (.inr (.inl h))⟩,rfl,rfl⟩
   rw[if_neg (by simpa using h)]at hf;refine cU (fun h=>?_) (fun h=>?_)
   ·rw[if_pos (by simpa using h)]at hf;subst hf;exact⟨rfl,rfl⟩
   rw[if_neg (by simpa using h)]at hf;refine cU (fun h=>cU (fun h2=>?_) (fun h2=>?_)) (fun h=>?_)
   ·rw[if_pos (by simpa using h),if_pos (of_decide_eq_true h2)]at hf;subst hf;exact⟨rfl,rfl⟩
   ·rw[if_pos (by simpa using h),if_neg (of_decide_eq_false h2)]at hf;subst hf;exact⟨(c,i.n),⟨rfl,rfl⟩,rfl,rfl⟩
   rw[if_neg (by simpa using h)]at hf;refine cU (fun h=>cU (fun h2=>?_) (fun h2=>?_)) (fun h=>?_)
   ·rw[if_pos (by simpa using h),if_pos (of_decide_eq_true h2)]at hf;subst hf;exact⟨rfl,rfl⟩
   ·rw[if_pos (by simpa using h),if_neg (of_decide_eq_false h2)]at hf;subst hf;exact⟨(c,-1),⟨rfl,rfl⟩,rfl,rfl⟩
   rw[if_neg (by simpa using h)]at hf;refine cU (fun h=>?_) (fun h=>?_)
   ·rw[if_pos (by simpa using h)]at hf;subst hf;exact as0 (c:=c) (0,c.d) ⟨by simp,rfl⟩
   rw[if_neg (by simpa using h)]at hf;refine cU (fun h=>?_) (fun h=>?_)
   ·rw[if_pos (by simpa using h)]at hf;subst hf;exact cU (fun _=>⟨rfl,rfl⟩) (fun h2=>absurd h (by rw[h2];decide))
   rw[if_neg (by simpa using h)]at hf;refine cU (fun h=>?_) (fun h=>?_)
   ·rw[if_pos (by simpa using h)]at hf;subst hf;exact⟨rfl,rfl⟩
   rw[if_neg (by simpa using h)]at hf;refine cU (fun h=>cU (fun h2=>?_) (fun h2=>?_)) (fun h=>?_)
   ·have h:i.op=22:=by simpa using h
    have h2:¬c.bP=true:=by simpa using h2
    rw[if_pos h,if_neg h2]at hf;subst hf;exact⟨(c,i.r),⟨rfl,rfl,hr (.inr (.inr h))⟩,rfl,rfl⟩
   ·have h2:c.bP=true:=by simpa using h2
    rw[if_pos (by simpa using h),if_pos h2]at hf;subst hf;exact⟨rfl,rfl⟩
   rw[if_neg (by simpa using h)]at hf;exact⟨i,⟨rfl,rfl⟩,wr ⟨Nat.zero_le _,by simpa using hf⟩⟩
end
theorem apm(d:List (Int×Nat))(rs:List Int)(k:Nat):(rs.drop k).all (iL d)=if h:k<rs.length then(iL d rs[k]&&(rs.drop (k+1)).all (iL d))else true:=by
 split
 ·rename_i h;rw[dN h];rfl
 ·rename_i h;rw[List.drop_eq_nil_of_le (by omega)];rfl
section
variable{c:Ck}{i:a9}{f la:Bool}{az:Bool×Ck}
theorem as3{rs:List Int}(hl:rs.length<5000)(hr:i.op=6∨i.op=15∨i.op=22->fU i.r)(hw:(bj i).length<5000)(HY:∀x∈bj i,fU x):
 ∀k:Nat,(k<=rs.length∧(if(rs.drop k).all (iL c.d)=true then sK c i f la else(false,c))=az)->
 bJ Z 45 229 2 (.ai az.1) (cj az.2) (aQ [(0,.ab 0 0),(2,.ai f),(3,.ai la),(5,.ab 2 0),(9,.ad 3 rs.length 1),(10,J (k:Int))]) (MG c i rs) (ao Z 45 0):=by
 refine cV (fun k=>rs.length-k) _ _ _ _ ?_;rintro k ⟨hk,hf⟩ ih;by_cases aj:k<rs.length
 ·refine hD CZ 3000 xU (by kernel_rfl) ?_;rw[afN];refine cU (fun _=>?_) (fun h=>absurd aj (by have:=of_decide_eq_false h;simp at this;omega));rw[apm,dif_pos aj]at hf;refine⟨k,rfl,aj,rs[k],by rw[ja aj,List.getD_eq_getElem?_getD,List.getElem?_eq_getElem aj];rfl,_,_,ajO c.d rs[k],cU (fun h=>?_) (fun h=>?_)⟩
  ·have h:iL c.d rs[k]=false:=by
    cases hh:iL c.d rs[k]with
    |false=>rfl
    |true=>rw[hh]at h;simp at h
   rw[h]at hf;simp at hf;subst hf;exact⟨rfl,rfl⟩
  ·have h:iL c.d rs[k]=true:=by
    cases hh:iL c.d rs[k]with
    |true=>rfl
    |false=>rw[hh]at h;simp at h
   rw[h,Bool.true_and]at hf;rw[gq aj (by omega)];exact ih (k+1) ⟨by omega,hf⟩ (by omega)
 ·rw[List.drop_eq_nil_of_le (by omega)]at hf;exact as1 (by omega) hr hw HY (by simpa using hf)
end
def NR:dp (Ck×a9×Bool×Bool)where
 ba w A H:=A=[.ab 0 0,.au (cb w.2.1),.ai w.2.2.1,.ai w.2.2.2]∧H=cj w.1∧bG w.2.1=true
 v w:=.ai (eJ w.1 w.2.1 w.2.2.1 w.2.2.2).1
 aN w:=cj (eJ w.1 w.2.1 w.2.2.1 w.2.2.2).2
theorem avr:NR.dx:=by rintro⟨c,⟨op,r,a,n,s,ar⟩,f,la⟩ ⟨c',⟨op',r',a',n',s',jP⟩,f',la'⟩ A H ⟨h1,h2,_⟩ ⟨h3,h4,_⟩;simp only at h1 h2 h3 h4;rw[h2]at h4;rw[h1]at h3;simp only[cb,List.cons.injEq,AV.au.injEq,AV.ck.injEq,AV.aa.injEq,AV.ai.injEq,and_true,true_and]at h3;obtain⟨⟨rfl,rfl,rfl,rfl,rfl,rfl⟩,rfl,rfl⟩:=h3;rw[Ln h4]
def V8:Ev.bz:=cz 45 (cM NR avr cZ) V7
theorem Ov{i:a9}(h:bG i=true):(∀x∈bj i,fU x)∧(i.op=6∨i.op=15∨i.op=22->fU i.r):=by
 have key:∀k:Nat,k<=25->i.op=(k:Int)->(∀x∈bj i,fU x)∧(i.op=6∨i.op=15∨i.op=22->fU i.r):=by
  intro k hk jY;have hw:bj i=(dm i.op).1.2.2.2.2.foldl (eI i) []:=by rw[bj,c7,if_pos h]
  rw[hw];obtain⟨op,r,a,n,s,ar⟩:=i;simp only at jY;subst jY;match k,hk with
  |0,_=>simp[bG]at h
  |1,_|2,_|3,_|4,_|5,_|6,_|7,_|8,_|9,_|10,_|11,_|12,_|13,_|14,_|15,_|16,_|17,_|18,_|19,_|20,_|21,_|22,_|23,_|24,_|25,_=>
   simp[bG,dj,dJ]at h;refine⟨fun x hx=>?_,fun ho=>?_⟩
   ·unfold fU;first
    |(simp[dm,eZ,gp,fe,eI]at hx;done)
    |(simp[dm,eZ,gp,fe,eI]at hx;omega)
    |(simp[dm,eZ,gp,fe,eI]at hx;obtain⟨⟨h1,h2⟩,h3⟩:=h;omega)
    |(simp[dm,eZ,gp,fe,eI]at hx;obtain⟨h1,h3⟩:=h;omega)
    |(simp[dm,eZ,gp,fe,eI]at hx;obtain⟨⟨h1,h2⟩,h3⟩:=h;split at hx<;>simp at hx<;>omega)
   ·show-4096<=r∧r<=4096;first
    |(exfalso;simp at ho;done)
    |(obtain⟨⟨h1,h2⟩,h3⟩:=h;omega)
    |(obtain⟨⟨⟨h0,h1⟩,h2⟩,h3⟩:=h;omega)
    |omega
  |(k+26),hk=>exact absurd hk (by omega)
 have jY:0<=i.op∧i.op<=25:=by
  apply Classical.byContradiction;intro hn;have:bG i=false:=by unfold bG;repeat (first|rw[if_neg (by omega)])
  rw[this]at h;cases h
 exact key i.op.toNat (by omega) (by omega)
theorem JZ:bm Z V8:=by
 refine de CZ ?_;rintro⟨c,⟨op,r,a,n,s,ar⟩,f,la⟩ args H ⟨rfl,rfl,hF⟩;have hF:bG ⟨op,r,a,n,s,ar⟩=true:=hF;obtain⟨HY,hr⟩:=Ov hF;refine eS CZ 3000 xU 229 (by kernel_rfl) ?_;simp only[cb];rw[as2];refine⟨⟨rfl,trivial⟩,rfl,cU (fun h=>?_) (fun h=>?_)⟩
 ·have h:=MO h;have e:eJ c ⟨op,r,a,n,s,ar⟩ f la=(false,c):=if_neg h;simp only[NR,e];exact⟨rfl,rfl⟩
 ·have h:=KU h;have e:eJ c ⟨op,r,a,n,s,ar⟩ f la=if(bo ⟨op,r,a,n,s,ar⟩).all (iL c.d)=true then sK c ⟨op,r,a,n,s,ar⟩ f la else(false,c):=if_pos h
  simp only[NR,e];exact⟨⟨op,r,a,n,s,ar⟩,⟨rfl,rfl⟩,as3 (Fw _) hr (FX _) HY 0 ⟨Nat.zero_le _,rfl⟩⟩
def EV:Nat->List Nat:=kg [(5,[1,3,4]),(11,[1,3,5,6])]
def bO(b:fR):aZ:=.aw (nu b (.ad 0 b.bk.length 6)) 34
def m10(b:fR):AH:=an [(0,c_ b.bk),(1,bO b)] 2
def n10(b:fR)(c:Ck):AH:=an [(0,c_ b.bk),(1,bO b),(2,qW 3 c),(3,dO c)] 4
theorem aqr(b:fR)(L:LT)(Q:QT):
 b8 Z V8 EV L Q 1000 10 (Ay b) (hB b)=(
 ∃w:fR,(([.au [J b.id,.aa b.ay.ca,J b.ay.ar,J b.ay.aC,J b.bZ.1,J b.bZ.2.1,.aa b.bZ.2.2.1,J b.bZ.2.2.2,.ad 0 b.bk.length 6]]:LV)=[.au (nu w (.ad 0 w.bk.length 6))]∧hB b=hB w)∧ah (!tj w) (Q (.ai false) (hB w)) (ah (decide (Int.ofNat b.bk.length<1)) (Q (.ai false) (hB w)) (ah (decide (Int.ofNat b.bk.length>131072)) (Q (.ai false) (hB w)) (L (aQ [(1,.ab 1 0),(3,J (Int.ofNat b.bk.length)),(4,J 0)]) (an [(0,c_ w.bk),(1,.aw [J b.id,.aa b.ay.ca,J b.ay.ar,J b.ay.aC,J b.bZ.1,J b.bZ.2.1,.aa b.bZ.2.2.1,J b.bZ.2.2.2,.ad 0 b.bk.length 6] 34)] 2) (ao Z 10 0))))):=by kernel_rfl
theorem aqp(b:fR)(i:Int)(L:LT)(Q:QT):
 cO Z V8 EV L Q 1000 10 1 (aQ [(1,.ab 1 0),(3,J (Int.ofNat b.bk.length)),(4,J i)]) (ao Z 10 0) (m10 b)=(
 ah (decide (i<Int.ofNat b.bk.length)) (∃aD:Nat,i=(aD:Int)∧aD<b.bk.length∧(∃n:Int,∃aL:Int,∃bD:Int,∃cf:Int,∃s:LN,∃cK:Int,bQ Z 50 (cw b.bk) (aD*6)=some (.au [J n,J aL,J bD,J cf,.aa s,J cK]:AV)∧(an [] 0=aq∧True)∧ah (!bG (a9.mk n aL bD cf s cK)) (Q (.ai false) (hB b)) (L (aQ [(1,.ab 1 0),(3,J (Int.ofNat b.bk.length)),(4,J (wI (i+1)))]) (an [(0,c_ b.bk),(1,.aw [J b.id,.aa b.ay.ca,J b.ay.ar,J b.ay.aC,J b.bZ.1,J b.bZ.2.1,.aa b.bZ.2.2.1,J b.bZ.2.2.2,.ad 0 b.bk.length 6] 34)] 2) (ao Z 10 0)))) (∃w:dG,(([.au [.aa b.ay.ca,J b.ay.ar,J b.ay.aC]]:LV)=[.au (GR w)]∧an [] 0=aq∧w.ar<=4096)∧L (aQ [(1,.ab 1 0),(3,J (Int.ofNat b.bk.length)),(5,.ab 2 0),(6,J 0)]) (an [(0,c_ b.bk),(1,.aw [J b.id,.aa b.ay.ca,J b.ay.ar,J b.ay.aC,J b.bZ.1,J b.bZ.2.1,.aa b.bZ.2.2.1,J b.bZ.2.2.2,.ad 0 b.bk.length 6] 34),(2,.aw [.aH 3,J (pb w).aR,J (pb w).args,J (pb w).after,.ai false] 139),(3,dO (pb w))] 4) (ao Z 10 1))):=by kernel_rfl
theorem aqs(b:fR)(c:Ck)(i:Int)(L:LT)(Q:QT):
 cO Z V8 EV L Q 1000 10 1 (aQ [(1,.ab 1 0),(3,J (Int.ofNat b.bk.length)),(5,.ab 2 0),(6,J i)]) (ao Z 10 1) (n10 b c)=(
 ah (decide (i<Int.ofNat b.bk.length)) (∃aD:Nat,i=(aD:Int)∧aD<b.bk.length∧(∃n:Int,∃aL:Int,∃bD:Int,∃cf:Int,∃s:LN,∃cK:Int,bQ Z 50 (cw b.bk) (aD*6)=some (.au [J n,J aL,J bD,J cf,.aa s,J cK]:AV)∧(∃w:Ck×a9×Bool×Bool,(([.ab 0 0,.au [J n,J aL,J bD,J cf,.aa s,J cK],.ai (i==0),.ai (i==wI (Int.ofNat b.bk.length-1))]:LV)=[.ab 0 0,.au (cb w.2.1),.ai w.2.2.1,.ai w.2.2.2]∧cj c=cj w.1∧bG w.2.1=true)∧ah (!(eJ w.1 w.2.1 w.2.2.1 w.2.2.2).1) (Q (.ai false) (hB b)) (L (aQ [(1,.ab 1 0),(3,J (Int.ofNat b.bk.length)),(5,.ab 2 0),(6,J (wI (i+1)))]) (an [(0,c_ b.bk),(1,.aw [J b.id,.aa b.ay.ca,J b.ay.ar,J b.ay.aC,J b.bZ.1,J b.bZ.2.1,.aa b.bZ.2.2.1,J b.bZ.2.2.2,.ad 0 b.bk.length 6] 34),(2,qW 3 (eJ w.1 w.2.1 w.2.2.1 w.2.2.2).2),(3,dO (eJ w.1 w.2.1 w.2.2.1 w.2.2.2).2)] 4) (ao Z 10 1))))) (Q (.ai true) (hB b))):=by kernel_rfl
def zY(len:Nat):Nat->Ck->List a9->Bool
 |_,_,[]=>true
 |i,c,x::l=>if(eJ c x (decide (i=0)) (decide (i+1=len))).1=true then zY len (i+1) (eJ c x (decide (i=0)) (decide (i+1=len))).2 l else false
def yu(b:fR):Bool:=tj b&&(decide (1<=b.bk.length∧b.bk.length<=131072)&&(b.bk.all bG&&zY b.bk.length 0 (pb b.ay) b.bk))
theorem acz{l:List a9}{i:Nat}(h:i<l.length):bQ Z 50 (cw l) (i*6)=some (.au (cb l[i])):=by obtain⟨r,hr⟩:=WH (Rj h);rw[aem,hr];exact ael _ _ _ _ _ _ _
theorem Fo{p:dG}(h:hU p=true):p.ar<=4096:=by
 unfold hU at h;split at h
 ·have:=of_decide_eq_true h;omega
 ·have:=of_decide_eq_true h;omega
theorem aqt{b:fR}{az:Bool}(hl:b.bk.length<=131072)(hF:∀x∈b.bk,bG x=true):
 ∀p:Nat×Ck,(p.1<=b.bk.length∧zY b.bk.length p.1 p.2 (b.bk.drop p.1)=az)->
 bJ Z 10 55 1 (.ai az) (hB b) (aQ [(1,.ab 1 0),(3,J (Int.ofNat b.bk.length)),(5,.ab 2 0),(6,J (p.1:Int))]) (n10 b p.2) (ao Z 10 1):=by
 refine cV (fun p=>b.bk.length-p.1) _ _ _ _ ?_;rintro⟨k,c⟩ ⟨hk,hf⟩ ih;simp only at hk hf ih⊢;refine hD JZ 1000 EV (by kernel_rfl) ?_;rw[aqs];refine cU (fun h=>?_) (fun h=>?_)
 ·have aj:k<b.bk.length:=by have:=of_decide_eq_true h;simp at this;omega
  rw[dN aj,zY]at hf;have e1:((k:Int)==0)=decide (k=0):=by rw[Bool.eq_iff_iff];simp
  have e2:((k:Int)==wI (Int.ofNat b.bk.length-1))=decide (k+1=b.bk.length):=by rw[cX (by simp only[Int.ofNat_eq_natCast];omega) (by simp only[Int.ofNat_eq_natCast];omega),Bool.eq_iff_iff];simp;omega
  have hx:=hF _ (List.getElem_mem aj);have hg:=acz aj;rw[e1,e2];refine⟨k,rfl,aj,(b.bk[k]).op,(b.bk[k]).r,(b.bk[k]).a,(b.bk[k]).n,(b.bk[k]).cH,(b.bk[k]).ar,hg,(c,b.bk[k],decide (k=0),decide (k+1=b.bk.length)),⟨rfl,rfl,hx⟩,cU (fun h2=>?_) (fun h2=>?_)⟩
  ·have h2:¬(eJ c b.bk[k] (decide (k=0)) (decide (k+1=b.bk.length))).1=true:=by have h2:(!(eJ c b.bk[k] (decide (k=0)) (decide (k+1=b.bk.length))).1)=true:=h2;simpa using h2
   rw[if_neg h2]at hf;subst hf;exact⟨rfl,rfl⟩
  ·have h2:(eJ c b.bk[k] (decide (k=0)) (decide (k+1=b.bk.length))).1=true:=by have h2:(!(eJ c b.bk[k] (decide (k=0)) (decide (k+1=b.bk.length))).1)=false:=h2;simpa using h2
   rw[if_pos h2]at hf;rw[gq aj (by omega)];exact ih (k+1,(eJ c b.bk[k] (decide (k=0)) (decide (k+1=b.bk.length))).2) ⟨by simp only;omega,hf⟩ (by simp only;omega)
 ·have aS:b.bk.length<=k:=by have:=of_decide_eq_false h;simp at this;omega
  rw[List.drop_eq_nil_of_le aS,zY]at hf;subst hf;exact⟨rfl,rfl⟩
theorem aqq{b:fR}(hl:b.bk.length<=131072)(hp:b.ay.ar<=4096){az:Bool}:
 ∀k:Nat,(k<=b.bk.length∧(∀x∈b.bk.take k,bG x=true)∧((b.bk.drop k).all bG&&zY b.bk.length 0 (pb b.ay) b.bk)=az)->
 bJ Z 10 55 1 (.ai az) (hB b) (aQ [(1,.ab 1 0),(3,J (Int.ofNat b.bk.length)),(4,J (k:Int))]) (m10 b) (ao Z 10 0):=by
 refine cV (fun k=>b.bk.length-k) _ _ _ _ ?_;rintro k ⟨hk,hF,hf⟩ ih;refine hD JZ 1000 EV (by kernel_rfl) ?_;rw[aqp];refine cU (fun h=>?_) (fun h=>?_)
 ·have aj:k<b.bk.length:=by have:=of_decide_eq_true h;simp at this;omega
  have hg:=acz aj;rw[dN aj,List.all_cons]at hf;refine⟨k,rfl,aj,(b.bk[k]).op,(b.bk[k]).r,(b.bk[k]).a,(b.bk[k]).n,(b.bk[k]).cH,(b.bk[k]).ar,hg,⟨rfl,trivial⟩,cU (fun h2=>?_) (fun h2=>?_)⟩
  ·have h2:bG b.bk[k]=false:=by have h2:(!bG b.bk[k])=true:=h2;simpa using h2
   rw[h2]at hf;simp only[Bool.false_and]at hf;subst hf;exact⟨rfl,rfl⟩
  ·have h2:bG b.bk[k]=true:=by have h2:(!bG b.bk[k])=false:=h2;simpa using h2
   rw[h2,Bool.true_and]at hf;rw[gq aj (by omega)];refine ih (k+1) ⟨by omega,?_,hf⟩ (by omega);intro x hx;rw[List.take_succ,List.getElem?_eq_getElem aj]at hx;simp only[Option.toList_some,List.mem_append,List.mem_singleton]at hx;rcases hx with hx|rfl
   ·exact hF x hx
   ·exact h2
 ·have aS:b.bk.length<=k:=by have:=of_decide_eq_false h;simp at this;omega
  rw[List.drop_eq_nil_of_le aS,List.all_nil,Bool.true_and]at hf;refine⟨b.ay,⟨rfl,rfl,hp⟩,?_⟩;rw[List.take_of_length_le aS]at hF;exact aqt hl hF (0,pb b.ay) ⟨Nat.zero_le _,hf⟩
def FU:dp fR where
 ba b A H:=A=Ay b∧H=hB b
 v b:=.ai (yu b)
 aN b:=hB b
theorem awk:FU.dx:=by rintro b b' A H ⟨h1,h2⟩ ⟨h3,h4⟩;rw[abt (h1.symm.trans h3) (h2.symm.trans h4)]
def V9:Ev.bz:=cz 10 (cM FU awk cZ) V8
theorem YT:bm Z V9:=by
 refine de JZ ?_;rintro b args H ⟨rfl,rfl⟩;refine eS JZ 1000 EV 55 (by kernel_rfl) ?_;rw[aqr];refine⟨b,⟨rfl,rfl⟩,cU (fun h=>?_) (fun h=>cU (fun h1=>?_) (fun h1=>cU (fun h2=>?_) (fun h2=>?_)))⟩
 ·have h:tj b=false:=by simpa using h
  simp only[FU,yu];rw[h];exact⟨rfl,rfl⟩
 ·have h1:¬(1<=b.bk.length∧b.bk.length<=131072):=by have:=of_decide_eq_true h1;simp at this;omega
  have h:tj b=true:=by simpa using h
  simp only[FU,yu];rw[h,decide_eq_false h1];exact⟨rfl,rfl⟩
 ·have h1:¬(1<=b.bk.length∧b.bk.length<=131072):=by have:=of_decide_eq_true h2;simp at this;omega
  have h:tj b=true:=by simpa using h
  simp only[FU,yu];rw[h,decide_eq_false h1];exact⟨rfl,rfl⟩
 ·have h3:1<=b.bk.length∧b.bk.length<=131072:=by have:=of_decide_eq_false h1;have:=of_decide_eq_false h2;simp at*;omega
  have h:tj b=true:=by simpa using h
  simp only[FU,yu];rw[h,decide_eq_true h3,Bool.true_and,Bool.true_and];have hp:b.ay.ar<=4096:=by unfold tj at h;simp only[Bool.and_eq_true]at h;exact Fo h.1.2
  exact aqq h3.2 hp 0 ⟨Nat.zero_le _,by simp,rfl⟩
def JN(l:LI)(n:Nat):Prop:=∀i,0<i->i<n->l.getD ((i-1)/ 2) 0<=l.getD i 0
theorem amg{l:LI}{n:Nat}(h:JN l n):∀i,i<n->l.getD 0 0<=l.getD i 0:=by
 intro i;induction i using Nat.strongRecOn with
 |_ i ih=>
  intro hi;by_cases h0:i=0
  ·subst h0;exact u4 _
  ·have h1:=h i (by omega) hi;have h2:=ih ((i-1)/ 2) (by omega) (by omega);omega
theorem Wx{l:LI}{i j:Nat}(hi:i<l.length)(hj:j<l.length)(k:Nat):(iW l i j).getD k 0=if k=j then l.getD i 0 else if k=i then l.getD j 0 else l.getD k 0:=by
 unfold iW;simp only[List.getD_eq_getElem?_getD,List.getElem?_set,List.length_set];by_cases SX:k=j
 ·subst SX;simp[hj]
 ·rw[aB (fun e=>SX e.symm),aB SX];by_cases v5:k=i
  ·subst v5;simp[hi]
  ·rw[aB (fun e=>v5 e.symm),aB v5]
theorem NU{l:LI}{i j:Nat}(hi:i<l.length)(hj:j<l.length):(iW l i j).Perm l:=by
 unfold iW;have e1:l.getD j 0=l[j]:=by simp[List.getD,hj]
 have e2:l.getD i 0=l[i]:=by simp[List.getD,hi]
 rw[e1,e2];exact List.set_set_perm hi hj
theorem ag7:∀(f:Nat) (l:LI) (j:Nat),j<l.length->j<f->(∀i,0<i->i<l.length->i≠j->l.getD ((i-1)/ 2) 0<=l.getD i 0)->(0<j->∀i,0<i->i<l.length->(i-1)/ 2=j->l.getD ((j-1)/ 2) 0<=l.getD i 0)->
 JN (sO f l j) l.length∧(sO f l j).Perm l
 |0,l,j,_,hf,_,_=>by omega
 |f+1,l,j,hj,hf,h1,h2=>by
  unfold sO;split
  ·rename_i hc;refine⟨fun i uM hi=>?_,List.Perm.refl _⟩;by_cases mR:i=j
   ·subst mR;rcases hc with hc|hc
    ·omega
    ·omega
   ·exact h1 i uM hi mR
  ·rename_i hc;have HO:(j-1)/ 2≠j:=fun e=>hc (.inl e)
   have aj:l.getD j 0<l.getD ((j-1)/ 2) 0:=by apply tL;intro e;exact hc (.inr e)
   obtain⟨p,hp⟩:∃p,p=(j-1)/ 2:=⟨_,rfl⟩;rw[←hp]at HO aj⊢;have kH:p<j:=by omega
   have hg:=Wx (l:=l) (i:=p) (j:=j) (by omega) hj;have bF:(iW l p j).length=l.length:=oO _ _ _;have ih:=ag7 f (iW l p j) p (by omega) (by omega) (fun i uM hi HI=>?_) (fun hp0 i uM hi HN=>?_)
   ·rw[bF]at ih;exact⟨ih.1,ih.2.trans (NU (by omega) hj)⟩
   ·rw[bF]at hi;rw[hg,hg];by_cases mR:i=j
    ·subst mR;rw[aY rfl,←hp,aB (by omega),aY rfl];omega
    ·rw[aB mR,aB HI];by_cases Tn:(i-1)/ 2=j
     ·rw[aY Tn,hp];exact h2 (by omega) i uM hi Tn
     ·rw[aB Tn];have:=h1 i uM hi mR;by_cases To:(i-1)/ 2=p
      ·rw[aY To];rw[To]at this;omega
      ·rw[aB To];exact this
   ·rw[bF]at hi;rw[hg,hg];have q1:=h1 p hp0 (by omega) (by omega);rw[aB (show¬(p-1)/ 2=j by omega),aB (show¬(p-1)/ 2=p by omega)];by_cases mR:i=j
    ·rw[aY mR];exact q1
    ·rw[aB mR,aB (show¬i=p by omega)];have q2:=h1 i uM hi mR;rw[HN]at q2;omega
theorem Z9:∀(f:Nat) (l:LI) (i n:Nat),n<=l.length->n<=f+i->i<l.length->(∀m,0<m->m<n->(m-1)/ 2≠i->l.getD ((m-1)/ 2) 0<=l.getD m 0)->(0<i->∀m,0<m->m<n->(m-1)/ 2=i->l.getD ((i-1)/ 2) 0<=l.getD m 0)->
 JN (oB f l i n).1 n∧(oB f l i n).1.Perm l∧∀k,n<=k->i<n->(oB f l i n).1.getD k 0=l.getD k 0
 |0,l,i,n,hn,hf,hi,h1,h2=>by refine⟨fun m uQ hm=>h1 m uQ hm (by omega),List.Perm.refl _,fun k _ _=>rfl⟩
 |f+1,l,i,n,hn,hf,hi,h1,h2=>by
  unfold oB;split
  ·rename_i hc;exact⟨fun m uQ hm=>h1 m uQ hm (by omega),List.Perm.refl _,fun k _ _=>rfl⟩
  ·rename_i hc;obtain⟨j,hj⟩:∃j,j=if 2*i+2<n∧l.getD (2*i+2) 0<l.getD (2*i+1) 0 then 2*i+2 else 2*i+1:=⟨_,rfl⟩
   have hjn:j<n∧(j=2*i+1∨j=2*i+2)∧∀m,m<n->(m=2*i+1∨m=2*i+2)->l.getD j 0<=l.getD m 0:=by
    rw[hj];split
    ·rename_i hh;exact⟨hh.1,.inr rfl,fun m hm S6=>by rcases S6 with rfl|rfl<;>omega⟩
    ·rename_i hh;refine⟨by omega,.inl rfl,fun m hm S6=>?_⟩;rcases S6 with rfl|rfl
     ·exact u4 _
     ·have:¬l.getD (2*i+2) 0<l.getD (2*i+1) 0:=fun e=>hh ⟨hm,e⟩
      omega
   simp only[←hj];obtain⟨j1,j2,j3⟩:=hjn;have HO:(j-1)/ 2=i:=by omega
   split
   ·rename_i aS;refine⟨fun m uQ hm=>?_,List.Perm.refl _,fun k _ _=>rfl⟩;by_cases HK:(m-1)/ 2=i
    ·have:=j3 m hm (by omega);have aS:¬l.getD j 0<l.getD i 0:=aS;show l.getD ((m-1)/ 2) 0<=l.getD m 0;rw[HK];omega
    ·exact h1 m uQ hm HK
   ·rename_i aj;have aj:l.getD j 0<l.getD i 0:=by apply tL;exact aj
    have hg:=Wx (l:=l) (i:=i) (j:=j) hi (by omega);have bF:(iW l i j).length=l.length:=oO _ _ _;have ih:=Z9 f (iW l i j) j n (by omega) (by omega) (by omega) (fun m uQ hm S5=>?_) (fun SS m uQ hm S5=>?_)
    ·refine⟨ih.1,ih.2.1.trans (NU hi (by omega)),fun k hk kc=>?_⟩;rw[ih.2.2 k hk j1,hg,aB (by omega),aB (by omega)]
    ·rw[hg,hg];rw[aB S5];by_cases abX:m=j
     ·subst abX;rw[aY rfl,HO,aY rfl];omega
     ·rw[aB abX];by_cases HN:(m-1)/ 2=i
      ·rw[aY HN,aB (show¬m=i by omega)];exact j3 m hm (by omega)
      ·rw[aB HN];by_cases HK:m=i
       ·subst HK;rw[aY rfl];exact h2 (by omega) j (by omega) j1 HO
       ·rw[aB HK];exact h1 m uQ hm HN
    ·rw[hg,hg,HO,aB (show¬i=j by omega),aY rfl,aB (show¬m=j by omega),aB (show¬m=i by omega)];have:=h1 m uQ hm (by omega);rw[S5]at this;exact this
def yF(l:LI):Prop:=JN l l.length
theorem aoV{l:LI}(x:Int)(h:yF l):yF (sx l x)∧(sx l x).Perm (l++[x]):=by
 unfold sx;have hg:∀k,k<l.length->(l++[x]).getD k 0=l.getD k 0:=fun k hk=>by simp[List.getD,List.getElem?_append_left hk]
 have:=ag7 (l.length+1) (l++[x]) l.length (by simp) (by omega) (fun i uM hi di=>?_) (fun _ i uM hi hp=>?_)
 ·refine⟨?_,this.2⟩;unfold yF;rw[WO];exact this.1
 ·simp only[bI,dv,fk]at hi;rw[hg _ (by omega),hg _ (by omega)];exact h i uM (by omega)
 ·simp only[bI,dv,fk]at hi;omega
theorem aoP{l:LI}(h:yF l)(hl:0<l.length):yF ((mc l).take (l.length-1))∧l.Perm ((mc l).take (l.length-1)++[(mc l).getD (l.length-1) 0])∧∀y∈l,(mc l).getD (l.length-1) 0<=y:=by
 unfold mc;have hg:=Wx (l:=l) (i:=0) (j:=l.length-1) hl (by omega);have bF:(iW l 0 (l.length-1)).length=l.length:=oO _ _ _;have hd:=Z9 l.length (iW l 0 (l.length-1)) 0 (l.length-1) (by omega) (by omega) (by omega) (fun m uQ hm hp=>by rw[hg,hg,aB (by omega),aB (by omega),aB (by omega),aB (by omega)];exact h m uQ (by omega)) (fun h0=>by omega);obtain⟨D,hD⟩:∃D,D=(oB l.length (iW l 0 (l.length-1)) 0 (l.length-1)).1:=⟨_,rfl⟩;rw[←hD]at hd⊢;have hDl:D.length=l.length:=by rw[hd.2.1.length_eq,bF]
 have amr:D.getD (l.length-1) 0=l.getD 0 0:=by
  by_cases h1:0<l.length-1
  ·rw[hd.2.2 (l.length-1) (fB _) h1,hg,aY rfl]
  ·have e:l.length=1:=by omega
   have p:=hd.2.1.trans (NU hl (show l.length-1<l.length by omega));obtain⟨a,rfl⟩:=List.length_eq_one_iff.1 e;have:=List.perm_singleton.1 p;rw[this];rfl
 have zm:D=D.take (l.length-1)++[D.getD (l.length-1) 0]:=by have:=acT (l:=D) (by omega);rw[hDl]at this;exact this
 have HM:D.Perm l:=hd.2.1.trans (NU hl (by omega));refine⟨?_,?_,?_⟩
 ·unfold yF;have ht:(D.take (l.length-1)).length=l.length-1:=by simp;omega
  rw[ht];intro i uM hi;have e:∀k,k<l.length-1->(D.take (l.length-1)).getD k 0=D.getD k 0:=fun k hk=>by simp[List.getD,List.getElem?_take,hk]
  rw[e _ (by omega),e _ hi];exact hd.1 i uM hi
 ·rw[←zm];exact HM.symm
 ·intro y hy;rw[amr];obtain⟨i,hi,rfl⟩:=List.getElem_of_mem hy;have:=amg h i hi;have e:l.getD i 0=l[i]:=by simp[List.getD,hi]
  omega
theorem apn{i:a9}(h:bG i=true):bo i=(dm i.op).1.2.2.2.1.foldl (eI i) []:=by rw[bo,c7,aY h]
theorem awI{i:a9}(h:bG i=true):bj i=(dm i.op).1.2.2.2.2.foldl (eI i) []:=by rw[bj,c7,aY h]
theorem amM(n:Int):(gR n).Nodup:=by unfold gR;refine List.Pairwise.map _ (fun a b Sj=>?_) List.nodup_range;intro e;exact Sj (by omega)
theorem aa9{i:a9}{fs:LN}(h:pN fs):(fs.foldl (eI i) []).Nodup:=by
 rcases h with rfl|rfl|rfl|rfl|rfl
 ·simp
 ·simp[eI]
 ·simp[eI]
 ·simp only[iy,List.foldl_nil,eI];by_cases e:i.a=i.r
  ·simp[e]
  ·have e':¬i.r=i.a:=fun h=>e h.symm
   simp[e,e']
 ·simp only[iy,List.foldl_nil,eI];simpa using amM i.ar
theorem apo(i:a9):(bo i).Nodup:=by
 rw[bo,c7];split
 ·exact aa9 (u9 i.op).1
 ·exact List.Pairwise.nil
theorem awK(i:a9):(bj i).Nodup:=by
 rw[bj,c7];split
 ·exact aa9 (u9 i.op).2
 ·exact List.Pairwise.nil
theorem akL{i:a9}(h:bG i=true):(i.r=0∨i.r∈bo i++bj i)∧(i.a=0∨i.a∈bo i++bj i):=by
 have key:∀k:Nat,k<=25->i.op=(k:Int)->(i.r=0∨i.r∈bo i++bj i)∧(i.a=0∨i.a∈bo i++bj i):=by
  intro k hk jY;rw[apn h,awI h];obtain⟨op,r,a,n,s,ar⟩:=i;simp only at jY;subst jY;match k,hk with
  |0,_=>simp[bG]at h
  |1,_|2,_|3,_|4,_|5,_|6,_|7,_|8,_|9,_|10,_|11,_|12,_|13,_|14,_|15,_|16,_|17,_|18,_|19,_|20,_|21,_|22,_|23,_|24,_|25,_=>simp[bG]at*;simp[dm,eZ,gp,fe,eI];try (first|(constructor<;>(first|(left;omega)|(right;split<;>simp_all)|simp_all))|omega|simp_all)
  |(k+26),hk=>exact absurd hk (by omega)
 have jY:0<=i.op∧i.op<=25:=by
  apply tL;intro hn;have:bG i=false:=by unfold bG;repeat (first|rw[aB (by omega)])
  rw[this]at h;cases h
 exact key i.op.toNat (by omega) (by omega)
def Oc(i:a9)(x:Int):Prop:=x∈bo i++bj i
instance(i:a9)(x:Int):Decidable (Oc i x):=by unfold Oc;infer_instance
theorem Mt(x:Int)(k:Int):∀(l:LI) (m:LP),lk x (l.foldl (fun m r=>up r k m) m)=if x∈l then some k else lk x m
 |[],m=>by simp
 |r::l,m=>by
  simp only[iy,Mt x k l,nC,sy];by_cases h1:x∈l
  ·simp[h1]
  ·by_cases h2:x=r
   ·simp[h2]
   ·simp[h1,h2]
theorem ac8(base:Int)(x:Int)(k:Int):∀(l:LI) (m:LP),lk x (l.foldl (wc base k) m)=if x∈l∧x>base then some k else lk x m
 |[],m=>by simp
 |r::l,m=>by
  simp only[iy,ac8 base x k l,sy];unfold wc;by_cases h1:x∈l∧x>base
  ·rw[aY h1,aY ⟨.inr h1.1,h1.2⟩]
  ·rw[aB h1];by_cases h2:x=r
   ·subst h2;by_cases h3:x>base
    ·rw[aY h3,aY ⟨.inl rfl,h3⟩,nC,aY rfl]
    ·rw[aB h3,aB (fun e=>h3 e.2)]
   ·have e3:¬((x=r∨x∈l)∧x>base):=by
     rintro⟨e1|e1,e2⟩
     ·exact h2 e1
     ·exact h1 ⟨e1,e2⟩
    rw[aB e3];split
    ·rw[nC,aB h2]
    ·rfl
theorem acU{base x:Int}(hx:x>base):∀(l:cn) (k:Nat) (m m':LP),lk x m=lk x m'->lk x (uW base k m l)=lk x (fw k m' l)
 |[],k,m,m',h=>h
 |i::l,k,m,m',h=>by
  simp only[uW,fw];refine acU hx l (k+1) _ _ ?_;rw[ac8,Mt,h];by_cases e:x∈bo i++bj i
  ·rw[aY ⟨e,hx⟩,aY e]
  ·rw[aB (fun q=>e q.1),aB e]
theorem Um(x:Int):∀(l:cn) (k:Nat) (m:LP),(∀i∈l,¬Oc i x)->lk x (fw k m l)=lk x m
 |[],k,m,_=>rfl
 |i::l,k,m,h=>by simp only[fw];rw[Um x l (k+1) _ (fun j hj=>h j (fF _ hj)),Mt,aB (show¬x∈bo i++bj i from h i (gi ..))]
theorem Mn(x:Int):∀(l:cn) (k:Nat) (m:LP),(∃i∈l,Oc i x)->∃j:Nat,k<=j∧j<k+l.length∧lk x (fw k m l)=some (j:Int)
 |[],k,m,h=>by obtain⟨i,hi,_⟩:=h;cases hi
 |i::l,k,m,h=>by
  simp only[fw,dv];by_cases h2:∃i∈l,Oc i x
  ·obtain⟨j,h3,h4,h5⟩:=Mn x l (k+1) ((bo i++bj i).foldl (fun m r=>up r (k:Int) m) m) h2;exact⟨j,by omega,by omega,h5⟩
  ·have jX:∀j∈l,¬Oc j x:=fun j hj ho=>h2 ⟨j,hj,ho⟩
   obtain⟨j,hj,ho⟩:=h;rcases List.mem_cons.1 hj with rfl|hj
   ·refine⟨k,fB _,by omega,?_⟩;have ho:x∈bo j++bj j:=ho;rw[Um x l _ _ jX,Mt,aY ho]
   ·exact absurd ho (jX j hj)
theorem Ul:∀(p l:cn) (k:Nat) (m:LP),fw k m (p++l)=fw (k+p.length) (fw k m p) l
 |[],l,k,m=>rfl
 |i::p,l,k,m=>by simp only[sA,fw,dv];rw[Ul p l (k+1)];congr 1;omega
theorem am5{p l:cn}{i:a9}{x:Int}(ho:Oc i x):(p.length:Int)<=fx x (fw 0 [] (p++i::l)):=by obtain⟨j,h1,h2,h3⟩:=Mn x (i::l) (0+p.length) (fw 0 [] p) ⟨i,gi ..,ho⟩;rw[fx,Ul,h3];simp only[Option.getD_some];omega
theorem am4{p l:cn}{i:a9}{x:Int}(hp:∃j∈p,Oc j x)(he:fx x (fw 0 [] (p++i::l))=(p.length:Int)):Oc i x:=by
 apply tL;intro hn;rw[fx,Ul]at he;by_cases h2:∃j∈i::l,Oc j x
 ·obtain⟨j,hj,ho⟩:=h2;rcases List.mem_cons.1 hj with rfl|hj
  ·exact hn ho
  ·have e:fw (0+p.length) (fw 0 [] p) (i::l)=fw (0+p.length+1) ((bo i++bj i).foldl (fun m r=>up r ((0+p.length:Nat):Int) m) (fw 0 [] p)) l:=rfl;obtain⟨q,h1,h3,h4⟩:=Mn x l (0+p.length+1) ((bo i++bj i).foldl (fun m r=>up r ((0+p.length:Nat):Int) m) (fw 0 [] p)) ⟨j,hj,ho⟩;rw[e,h4]at he;simp only[Option.getD_some]at he;omega
 ·rw[Um x _ _ _ (fun j hj ho=>h2 ⟨j,hj,ho⟩)]at he;obtain⟨q,h1,h3,h4⟩:=Mn x p 0 [] hp;rw[h4]at he;simp only[Option.getD_some]at he;omega
def oQ:List Tm->Int->Option Int
 |[],_=>none
 |t::l,x=>if t.x=x then some t.cr else oQ l x
theorem adP(x:Int):∀ts:List Tm,qH ts x=(oQ ts x).getD x
 |[]=>rfl
 |t::l=>by
  unfold qH oQ;split
  ·rfl
  ·exact adP x l
theorem WL(x:Int)(us:List Tm):∀ts:List Tm,oQ (ts++us) x=match oQ ts x with|some n=>some n|none=>oQ us x
 |[]=>rfl
 |t::l=>by
  simp only[sA,oQ];split
  ·rfl
  ·exact WL x us l
theorem Oe{x:Int}:∀{ts:List Tm},(∀t∈ts,t.x≠x)->oQ ts x=none
 |[],_=>rfl
 |t::l,h=>by unfold oQ;rw[aB (h t (gi ..))];exact Oe (fun u hu=>h u (fF _ hu))
theorem Of{x:Int}:∀{ts:List Tm},(∃t∈ts,t.x=x)->∃u∈ts,u.x=x∧oQ ts x=some u.cr
 |[],h=>by obtain⟨t,ht,_⟩:=h;cases ht
 |t::l,h=>by
  unfold oQ;by_cases e:t.x=x
  ·exact⟨t,gi ..,e,by rw[aY e]⟩
  ·obtain⟨u,hu,hx⟩:=h;rcases List.mem_cons.1 hu with rfl|hu
   ·exact absurd hx e
   ·obtain⟨v,h1,h2,h3⟩:=Of ⟨u,hu,hx⟩;exact⟨v,fF _ h1,h2,by rw[aB e];exact h3⟩
structure wT(base:Int)(cm:LI)(next:Int)(ts:List Tm)(al:Tm->Prop):Prop where
 heap:yF cm
 nd:cm.Nodup
 uY:∀y,y∈cm↔base<y∧y<next∧∀u∈ts,al u->u.cr≠y
 inj:∀u∈ts,∀v∈ts,al u->al v->u.cr=v.cr->u.x=v.x
 wy:∀u∈ts,al u->base<u.cr∧u.cr<next
theorem wT.congr{base next:Int}{cm:LI}{ts:List Tm}{al AA:Tm->Prop}(h:wT base cm next ts al)(he:∀u∈ts,al u↔AA u):wT base cm next ts AA:=by
 refine⟨h.heap,h.nd,fun y=>?_,fun u hu v hv a1 a2=>h.inj u hu v hv ((he u hu).2 a1) ((he v hv).2 a2),fun u hu a=>h.wy u hu ((he u hu).2 a)⟩;rw[h.uY y];constructor
 ·rintro⟨h1,h2,h3⟩;exact⟨h1,h2,fun u hu a=>h3 u hu ((he u hu).2 a)⟩
 ·rintro⟨h1,h2,h3⟩;exact⟨h1,h2,fun u hu a=>h3 u hu ((he u hu).1 a)⟩
theorem wT.oo{base next:Int}{cm:LI}{ts:List Tm}{al:Tm->Prop}(h:wT base cm next ts al)(uq:∀u∈ts,∀v∈ts,u.x=v.x->u=v){u:Tm}(hu:u∈ts)(ha:al u):
 wT base (sx cm u.cr) next ts (fun v=>al v∧v.x≠u.x):=by
 obtain⟨p1,p2⟩:=aoV u.cr h.heap;have jX:u.cr∉cm:=fun hm=>((h.uY _).1 hm).2.2 u hu ha rfl
 refine⟨p1,?_,fun y=>?_,fun a h1 c h2 a1 a2=>h.inj a h1 c h2 a1.1 a2.1,fun a h1 a1=>h.wy a h1 a1.1⟩
 ·rw[p2.nodup_iff];rw[List.nodup_append];refine⟨h.nd,by simp,fun a ha1 c hc=>?_⟩;simp only[nH]at hc;subst hc;rintro rfl;exact jX ha1
 ·rw[p2.mem_iff,List.mem_append,nH,h.uY];constructor
  ·rintro(⟨h1,h2,h3⟩|rfl)
   ·exact⟨h1,h2,fun v hv a=>h3 v hv a.1⟩
   ·obtain⟨h1,h2⟩:=h.wy u hu ha;exact⟨h1,h2,fun v hv a e=>a.2 (h.inj v hv u hu a.1 ha e)⟩
  ·rintro⟨h1,h2,h3⟩;by_cases hy:y=u.cr
   ·exact .inr hy
   ·refine .inl ⟨h1,h2,fun v hv a e=>?_⟩;by_cases hx:v.x=u.x
    ·have:=uq v hv u hu hx;subst this;exact hy e.symm
    ·exact h3 v hv ⟨a,hx⟩ e
structure AI(base:Int)(last:LP)(s:Al)(ts:List Tm)(al:Tm->Prop):Prop where
 fp:wT base s.cm s.gV ts al
 map:∀x,lk x s.cr=oQ ts x
 uq:∀u∈ts,∀v∈ts,u.x=v.x->u=v
 xs:∀u∈ts,base<u.x
 l_:∀u∈ts,u.l_=fx u.x last
 nx:base+1<=s.gV∧s.gV<=base+1+ts.length
 rn:∀u∈ts,base+1<=u.cr∧u.cr<=base+ts.length
theorem AI.FZ{base:Int}{last:LP}{s:Al}{ts:List Tm}{al AA:Tm->Prop}(h:AI base last s ts al)(he:∀u∈ts,al u↔AA u):AI base last s ts AA:=
 ⟨h.fp.congr he,h.map,h.uq,h.xs,h.l_,h.nx,h.rn⟩
theorem AI.oo{base:Int}{last:LP}{s:Al}{ts:List Tm}{al:Tm->Prop}(h:AI base last s ts al){u:Tm}(hu:u∈ts)(ha:al u):AI base last (s.oo u.x) ts (fun v=>al v∧v.x≠u.x):=by
 obtain⟨v,hv,hx,hf⟩:=Of ⟨u,hu,rfl⟩;have:=h.uq v hv u hu hx;subst this;have e:fx v.x s.cr=v.cr:=by rw[fx,h.map,hf];rfl
 refine⟨?_,h.map,h.uq,h.xs,h.l_,h.nx,h.rn⟩;show wT base (sx s.cm (fx v.x s.cr)) s.gV ts _;rw[e];exact h.fp.oo h.uq hu ha
theorem AI.Fv{base:Int}{last:LP}{k:Int}{ws:LI}{ts:List Tm}:∀(rs:LI) (s:Al) (al:Tm->Prop),rs.Nodup->AI base last s ts al->(∀r∈rs,r>base->fx r last=k->r∉ws->∃u∈ts,u.x=r∧al u)->
 AI base last (rs.foldl (Al.iH base last k ws) s) ts (fun v=>al v∧¬(v.x∈rs∧fx v.x last=k∧v.x∉ws))∧(rs.foldl (Al.iH base last k ws) s).aN=s.aN∧(rs.foldl (Al.iH base last k ws) s).cr=s.cr
 |[],s,al,_,h,_=>⟨h.FZ (fun u hu=>by simp),rfl,rfl⟩
 |r::rs,s,al,oH,h,hk=>by
  obtain⟨n1,n2⟩:=List.nodup_cons.1 oH;simp only[iy];by_cases hc:r>base∧fx r last=k∧r∉ws
  ·have e:Al.iH base last k ws s r=s.oo r:=aY hc;rw[e];obtain⟨u,hu,hx,ha⟩:=hk r (gi ..) hc.1 hc.2.1 hc.2.2;have h1:=h.oo hu ha;rw[hx]at h1;have ih:=AI.Fv rs (s.oo r) (fun v=>al v∧v.x≠r) n2 h1 (fun r' ru g1 g2 g3=>by obtain⟨v,hv,HW,EF⟩:=hk r' (fF _ ru) g1 g2 g3;exact⟨v,hv,HW,EF,by rw[HW];rintro rfl;exact n1 ru⟩);refine⟨ih.1.FZ fun v hv=>?_,ih.2.1,ih.2.2⟩;constructor
   ·rintro⟨⟨a1,a2⟩,a3⟩;refine⟨a1,fun hh=>?_⟩;rcases List.mem_cons.1 hh.1 with e1|e1
    ·exact a2 e1
    ·exact a3 ⟨e1,hh.2⟩
   ·rintro⟨a1,a2⟩;refine⟨⟨a1,fun e1=>a2 ⟨by rw[e1];exact gi ..,by rw[e1];exact hc.2⟩⟩,fun hh=>a2 ⟨fF _ hh.1,hh.2⟩⟩
  ·have e:Al.iH base last k ws s r=s:=aB hc;rw[e];have ih:=AI.Fv rs s al n2 h (fun r' ru g1 g2 g3=>hk r' (fF _ ru) g1 g2 g3);refine⟨ih.1.FZ fun v hv=>?_,ih.2.1,ih.2.2⟩;constructor
   ·rintro⟨a1,a2⟩;refine⟨a1,fun hh=>?_⟩;rcases List.mem_cons.1 hh.1 with e1|e1
    ·exact hc (by rw[←e1];exact⟨h.xs v hv,hh.2⟩)
    ·exact a2 ⟨e1,hh.2⟩
   ·rintro⟨a1,a2⟩;exact⟨a1,fun hh=>a2 ⟨fF _ hh.1,hh.2⟩⟩
theorem akM(base:Int)(last:LP)(k:Int)(s:Al)(r:Int):Al.az base last k s r=Al.iH base last k [] s r:=by
 unfold Al.az Al.iH;by_cases h:r>base∧fx r last=k
 ·rw[aY h,aY ⟨h.1,h.2,by simp⟩]
 ·rw[aB h,aB (fun e=>h ⟨e.1,e.2.1⟩)]
theorem agZ(base k:Int)(ws:LI)(n:Nat):∀(ts:List Tm) (tk:List Bool),((ts.foldl (tR base k ws) tk).getD n false=true↔tk.getD n false=true∨(n<tk.length∧∃u∈ts,lV u k ws=true∧(u.cr-base).toNat=n))
 |[],tk=>by simp
 |t::ts,tk=>by
  simp only[iy];rw[agZ base k ws n ts];unfold tR;by_cases hu:lV t k ws=true
  ·rw[aY hu];simp only[List.length_set];by_cases hn:(t.cr-base).toNat=n
   ·subst hn;by_cases hl:(t.cr-base).toNat<tk.length
    ·have e:(tk.set (t.cr-base).toNat true).getD (t.cr-base).toNat false=true:=by simp[List.getD,hl]
     constructor
     ·intro _;exact .inr ⟨hl,t,gi ..,hu,rfl⟩
     ·intro _;exact .inl e
    ·have e1:(tk.set (t.cr-base).toNat true).getD (t.cr-base).toNat false=false:=by simp[List.getD,hl]
     have e2:tk.getD (t.cr-base).toNat false=false:=by simp[List.getD,hl]
     rw[e1,e2];constructor
     ·rintro(h|⟨h,_⟩)
      ·cases h
      ·exact absurd h hl
     ·rintro(h|⟨h,_⟩)
      ·cases h
      ·exact absurd h hl
   ·have e:(tk.set (t.cr-base).toNat true).getD n false=tk.getD n false:=by simp only[List.getD_eq_getElem?_getD,List.getElem?_set_ne hn]
    rw[e];constructor
    ·rintro(h|⟨h1,u,h2,h3⟩)
     ·exact .inl h
     ·exact .inr ⟨h1,u,fF _ h2,h3⟩
    ·rintro(h|⟨h1,u,h2,h3,h4⟩)
     ·exact .inl h
     ·rcases List.mem_cons.1 h2 with rfl|h2
      ·exact absurd h4 hn
      ·exact .inr ⟨h1,u,h2,h3,h4⟩
  ·rw[aB hu];constructor
   ·rintro(h|⟨h1,u,h2,h3⟩)
    ·exact .inl h
    ·exact .inr ⟨h1,u,fF _ h2,h3⟩
   ·rintro(h|⟨h1,u,h2,h3,h4⟩)
    ·exact .inl h
    ·rcases List.mem_cons.1 h2 with rfl|h2
     ·exact absurd h3 hu
     ·exact .inr ⟨h1,u,h2,h3,h4⟩
theorem ag0(base k:Int)(ws:LI)(ts:List Tm)(n:Nat):(nb base k ws ts).getD n false=true↔(n<ts.length+2∧∃u∈ts,lV u k ws=true∧(u.cr-base).toNat=n):=by
 unfold nb;rw[agZ];have e:(List.replicate (ts.length+2) false).getD n false=false:=by simp only[List.getD_eq_getElem?_getD,List.getElem?_replicate];split<;>rfl
 rw[e,List.length_replicate];simp
theorem aaW(tk:List Bool)(m:Nat):∀(f n:Nat),n<=m->m<=n+f->(∀j,n<=j->j<m->tk.getD j false=true)->tk.getD m false=false->pd tk f n=m
 |0,n,h1,h2,_,_=>by
  have:n=m:=by omega
  subst this;rfl
 |f+1,n,h1,h2,h3,h4=>by
  unfold pd;by_cases hn:n=m
  ·subst hn;rw[h4];rfl
  ·rw[aY (h3 n (fB _) (by omega))];exact aaW tk m f (n+1) (by omega) (by omega) (fun j hj=>h3 j (by omega)) h4
theorem akO{base k:Int}{ws:LI}{cm:LI}{next y:Int}{ts:List Tm}(h:wT base cm next ts (fun v=>lV v k ws=true))(hn:next<=base+1+ts.length)
 (h1:base<y) (h2:y<=next) (h3:∀z,base<z->z<y->z∉cm) (h4:∀u∈ts,lV u k ws=true->u.cr≠y):
 base+(pd (nb base k ws ts) (ts.length+1) 1:Nat)=y:=by
 have:pd (nb base k ws ts) (ts.length+1) 1=(y-base).toNat:=by
  refine aaW _ _ _ _ (by omega) (by omega) (fun j sh LO=>?_) ?_
  ·have hz:=h3 (base+j) (by omega) (by omega);rw[h.uY]at hz;rw[ag0];refine⟨by omega,?_⟩;apply tL;intro jX;refine hz ⟨by omega,by omega,fun u hu ha e=>jX ⟨u,hu,ha,by omega⟩⟩
  ·apply tL;intro hh;have hh:(nb base k ws ts).getD (y-base).toNat false=true:=by simpa using hh
   rw[ag0]at hh;obtain⟨_,u,hu,ha,e⟩:=hh;have:=(h.wy u hu ha).1;exact h4 u hu ha (by omega)
 rw[this];omega
def yG(eQ:List (Int×Bool))(ts:List Tm):Prop:=∀x,du eQ x=true↔∃u∈ts,u.x=x
theorem T4(eQ:List (Int×Bool))(w x:Int):du (up w true eQ) x=true↔x=w∨du eQ x=true:=by
 unfold du;rw[nC];by_cases h:x=w
 ·simp[h]
 ·simp[h]
theorem AI.FW{base k:Int}{last:LP}{ws:LI}{s:Al}{t:Nu}{w:Int}(hw:w∈ws)(h:AI base last s t.ts (fun v=>lV v k ws=true))(hm:yG t.eQ t.ts)(hb:0<=base∧base<=4096)(hl:t.ts.length<1000000000000):
 AI base last (Al.jJ base s w) (Nu.gG base last k ws t w).ts (fun v=>lV v k ws=true)∧yG (Nu.gG base last k ws t w).eQ (Nu.gG base last k ws t w).ts∧(Al.jJ base s w).aN=s.aN∧
 (∃kK,(Nu.gG base last k ws t w).ts=t.ts++kK∧kK.length<=1∧∀u∈kK,u.x=w∧u.qR=k)∧(w>base->∃u∈(Nu.gG base last k ws t w).ts,u.x=w):=by
 by_cases hc:w<=base∨du t.eQ w=true
 ·have e1:Nu.gG base last k ws t w=t:=aY hc;have e2:Al.jJ base s w=s:=by
   unfold Al.jJ;rw[aY];rcases hc with hc|hc
   ·exact .inr hc
   ·obtain⟨u,hu,hx,hf⟩:=Of ((hm w).1 hc);exact .inl (by rw[h.map,hf];rfl)
  rw[e1,e2];refine⟨h,hm,rfl,⟨[],by simp,by simp,fun u hu=>by cases hu⟩,fun hwb=>?_⟩;rcases hc with hc|hc
  ·omega
  ·exact(hm w).1 hc
 ·have hwb:base<w:=by apply tL;intro hh;exact hc (.inl (by omega))
  have xB:¬du t.eQ w=true:=fun hh=>hc (.inr hh)
  have zj:∀u∈t.ts,u.x≠w:=fun u hu e=>xB ((hm w).2 ⟨u,hu,e⟩)
  have hlk:lk w s.cr=none:=by rw[h.map];exact Oe zj
  have e1:Nu.gG base last k ws t w=⟨t.ts++[⟨w,base+(pd (nb base k ws t.ts) (t.ts.length+1) 1:Nat),k,fx w last⟩],up w true t.eQ⟩:=aB hc;obtain⟨nx1,nx2⟩:=h.nx;have go:∀(y wk:Int) (GZ:LI),base<y->y<=s.gV->(∀z,base<z->z<y->z∉s.cm)->(∀u∈t.ts,lV u k ws=true->u.cr≠y)->yF GZ->GZ.Nodup->(∀z,z∈GZ↔base<z∧z<wk∧(∀u∈t.ts,lV u k ws=true->u.cr≠z)∧z≠y)->
   s.gV<=wk->wk<=s.gV+1->y<wk->∀(o:cn) (mo us:Int),
   AI base last ⟨o,mo,up w y s.cr,GZ,wk,us⟩ (Nu.gG base last k ws t w).ts (fun v=>lV v k ws=true)∧yG (Nu.gG base last k ws t w).eQ (Nu.gG base last k ws t w).ts∧
   (∃kK,(Nu.gG base last k ws t w).ts=t.ts++kK∧kK.length<=1∧∀u∈kK,u.x=w∧u.qR=k)∧(w>base->∃u∈(Nu.gG base last k ws t w).ts,u.x=w):=by
   intro y wk GZ y1 y2 y3 y4 f1 f2 f3 n1 n2 n3 o mo us;have hy:=akO h.fp nx2 y1 y2 y3 y4;rw[e1,hy];have Bm:lV ⟨w,y,k,fx w last⟩ k ws=true:=by unfold lV;simp[hw]
   refine⟨⟨⟨f1,f2,fun z=>?_,fun u hu v hv a1 a2 e=>?_,fun u hu a=>?_⟩,fun x=>?_,fun u hu v hv e=>?_,fun u hu=>?_,fun u hu=>?_,⟨by simp only;omega,by simp only[bI,dv,fk];push_cast;omega⟩,fun u hu=>?_⟩,fun x=>?_,⟨[⟨w,y,k,fx w last⟩],rfl,by simp,fun u hu=>by simp only[nH]at hu;subst hu;exact⟨rfl,rfl⟩⟩,fun _=>⟨⟨w,y,k,fx w last⟩,by simp,rfl⟩⟩
   ·rw[f3];constructor
    ·rintro⟨g1,g2,g3,g4⟩;refine⟨g1,g2,fun u hu a=>?_⟩;rcases List.mem_append.1 hu with hu|hu
     ·exact g3 u hu a
     ·simp only[nH]at hu;subst hu;exact fun e=>g4 e.symm
    ·rintro⟨g1,g2,g3⟩;exact⟨g1,g2,fun u hu a=>g3 u (List.mem_append_left _ hu) a,fun e=>g3 ⟨w,y,k,fx w last⟩ (by simp) Bm e.symm⟩
   ·rcases List.mem_append.1 hu with hu|hu<;>rcases List.mem_append.1 hv with hv|hv
    ·exact h.fp.inj u hu v hv a1 a2 e
    ·simp only[nH]at hv;subst hv;exact absurd e (y4 u hu a1)
    ·simp only[nH]at hu;subst hu;exact absurd e.symm (y4 v hv a2)
    ·simp only[nH]at hu hv;rw[hu,hv]
   ·rcases List.mem_append.1 hu with hu|hu
    ·have:=h.fp.wy u hu a;show base<u.cr∧u.cr<wk;omega
    ·simp only[nH]at hu;subst hu;exact⟨y1,n3⟩
   ·show lk x (up w y s.cr)=_;rw[nC,WL,h.map];by_cases hx:x=w
    ·subst hx;rw[aY rfl,Oe zj];simp[oQ]
    ·rw[aB hx];have:oQ [⟨w,y,k,fx w last⟩] x=none:=by unfold oQ;rw[aB (fun e=>hx e.symm)];rfl
     rw[this];cases oQ t.ts x<;>rfl
   ·rcases List.mem_append.1 hu with hu|hu<;>rcases List.mem_append.1 hv with hv|hv
    ·exact h.uq u hu v hv e
    ·simp only[nH]at hv;subst hv;exact absurd e (zj u hu)
    ·simp only[nH]at hu;subst hu;exact absurd e.symm (zj v hv)
    ·simp only[nH]at hu hv;rw[hu,hv]
   ·rcases List.mem_append.1 hu with hu|hu
    ·exact h.xs u hu
    ·simp only[nH]at hu;subst hu;exact hwb
   ·rcases List.mem_append.1 hu with hu|hu
    ·exact h.l_ u hu
    ·simp only[nH]at hu;subst hu;rfl
   ·simp only[bI,dv,fk];rcases List.mem_append.1 hu with hu|hu
    ·have:=h.rn u hu
     push_cast
     omega
    ·simp only[nH]at hu;subst hu
     push_cast
     omega
   ·rw[T4,hm x];constructor
    ·rintro(rfl|⟨u,hu,hx⟩)
     ·exact⟨⟨x,y,k,fx x last⟩,by simp,rfl⟩
     ·exact⟨u,List.mem_append_left _ hu,hx⟩
    ·rintro⟨u,hu,hx⟩;rcases List.mem_append.1 hu with hu|hu
     ·exact .inr ⟨u,hu,hx⟩
     ·simp only[nH]at hu;subst hu;exact .inl hx.symm
  unfold Al.jJ;rw[aB (by rintro(hh|hh)<;>first|omega|(rw[hlk]at hh;cases hh))];by_cases hf:0<s.cm.length
  ·rw[aY hf];obtain⟨p1,p2,p3⟩:=aoP h.fp.heap hf;obtain⟨y,hy⟩:∃y,y=(mc s.cm).getD (s.cm.length-1) 0:=⟨_,rfl⟩;rw[←hy]at p2 p3⊢;have Es:y∈s.cm:=p2.mem_iff.2 (by simp);have TS:=(h.fp.uY y).1 Es;have oH:=p2.nodup_iff.1 h.fp.nd;rw[List.nodup_append]at oH;have:=go y s.gV ((mc s.cm).take (s.cm.length-1)) TS.1 (by omega) (fun z _ hz hzf=>by have:=p3 z hzf;omega) TS.2.2 p1 oH.1 (fun z=>by
    have hz:=p2.mem_iff (a:=z);rw[List.mem_append,nH,h.fp.uY]at hz;constructor
    ·intro hzt;obtain⟨g1,g2,g3⟩:=hz.2 (.inl hzt);exact⟨g1,g2,g3,fun e=>oH.2.2 z hzt y (by simp) e⟩
    ·rintro⟨g1,g2,g3,g4⟩;rcases hz.1 ⟨g1,g2,g3⟩with q|q
     ·exact q
     ·exact absurd q g4) (u4 _) (by omega) TS.2.1 s.aN s.dS (wI (s.kO+1))
   exact⟨this.1,this.2.1,rfl,this.2.2⟩
  ·rw[aB hf];have tq:s.cm=[]:=List.eq_nil_of_length_eq_zero (by omega);have hwp:wI (s.gV+1)=s.gV+1:=cX (by omega) (by omega);rw[hwp];have:=go s.gV (s.gV+1) s.cm (by omega) (u4 _) (fun z _ _ hz=>by rw[tq]at hz;cases hz) (fun u hu a e=>by have:=(h.fp.wy u hu a).2;omega) h.fp.heap h.fp.nd (fun z=>by
    rw[h.fp.uY];constructor
    ·rintro⟨g1,g2,g3⟩;exact⟨g1,by omega,g3,by omega⟩
    ·rintro⟨g1,g2,g3,g4⟩;exact⟨g1,by omega,g3⟩) (by omega) (u4 _) (by omega) s.aN s.dS (wI (s.kO+1))
   exact⟨this.1,this.2.1,rfl,this.2.2⟩
theorem AI.ahw{base k:Int}{last:LP}{ws:LI}(hb:0<=base∧base<=4096):∀(sP:LI) (s:Al) (t:Nu),(∀w∈sP,w∈ws)->AI base last s t.ts (fun v=>lV v k ws=true)->yG t.eQ t.ts->t.ts.length+sP.length<1000000000000->
 AI base last (sP.foldl (Al.jJ base) s) (sP.foldl (Nu.gG base last k ws) t).ts (fun v=>lV v k ws=true)∧yG (sP.foldl (Nu.gG base last k ws) t).eQ (sP.foldl (Nu.gG base last k ws) t).ts∧(sP.foldl (Al.jJ base) s).aN=s.aN∧
 (∃kK,(sP.foldl (Nu.gG base last k ws) t).ts=t.ts++kK∧kK.length<=sP.length∧∀u∈kK,u.x∈ws∧u.qR=k)∧(∀w∈sP,w>base->∃u∈(sP.foldl (Nu.gG base last k ws) t).ts,u.x=w)
 |[],s,t,_,h,hm,_=>⟨h,hm,rfl,⟨[],by simp,by simp,fun u hu=>by cases hu⟩,fun w hw=>by cases hw⟩
 |w::sP,s,t,hw,h,hm,hl=>by
  simp only[dv]at hl;obtain⟨a1,a2,a3,⟨kK,a4,a5,a6⟩,a7⟩:=AI.FW (hw w (gi ..)) h hm hb (by omega);have jy:(Nu.gG base last k ws t w).ts.length<=t.ts.length+1:=by rw[a4];simp;omega
  obtain⟨b1,b2,b3,⟨ML,b4,b5,b6⟩,b7⟩:=AI.ahw hb sP (Al.jJ base s w) (Nu.gG base last k ws t w) (fun x hx=>hw x (fF _ hx)) a1 a2 (by omega);simp only[iy];refine⟨b1,b2,b3.trans a3,⟨kK++ML,by rw[b4,a4,nG],by simp;omega,fun u hu=>?_⟩,fun x hx L_=>?_⟩
  ·rcases List.mem_append.1 hu with hu|hu
   ·obtain⟨q1,q2⟩:=a6 u hu;exact⟨by rw[q1];exact hw w (gi ..),q2⟩
   ·exact b6 u hu
  ·rcases List.mem_cons.1 hx with rfl|hx
   ·obtain⟨u,hu,TC⟩:=a7 L_;exact⟨u,by rw[b4];exact List.mem_append_left _ hu,TC⟩
   ·exact b7 x hx L_
theorem WQ(v:Tm)(k:Int)(ws:LI):lV v k ws=true↔v.qR<=k∧(v.l_>k∨v.x∈ws):=by unfold lV;simp
theorem avH{base:Int}{lg lr:LP}(h:∀x,x>base->fx x lg=fx x lr)(k:Int)(s:Al)(i:a9):Al.sS base lg k s i=Al.sS base lr k s i:=by
 have e1:Al.iH base lg k (bj i)=Al.iH base lr k (bj i):=by
  funext s r;unfold Al.iH;by_cases hr:r>base
  ·rw[h r hr]
  ·rw[aB (fun e=>hr e.1),aB (fun e=>hr e.1)]
 have e2:Al.az base lg k=Al.az base lr k:=by
  funext s r;unfold Al.az;by_cases hr:r>base
  ·rw[h r hr]
  ·rw[aB (fun e=>hr e.1),aB (fun e=>hr e.1)]
 unfold Al.sS;rw[e1,e2]
theorem afq{base:Int}{lg lr:LP}(h:∀x,x>base->fx x lg=fx x lr):∀(l:cn) (k:Nat) (s:Al),Al.rV base lg k s l=Al.rV base lr k s l
 |[],_,_=>rfl
 |i::l,k,s=>by simp only[Al.rV];rw[avH h,afq h l]
theorem IY{base:Int}{p j4:cn}{i:a9}{s:Al}{t:Nu}(hb:0<=base∧base<=4096)(hl:t.ts.length+(bj i).length<1000000000000)
 (h:AI base (fw 0 [] (p++i::j4)) s t.ts (fun u=>(p.length:Int)<=u.l_)) (hm:yG t.eQ t.ts) (HF:∀u∈t.ts,u.qR<=(p.length:Int)) (LY:∀u∈t.ts,∃j∈p,Oc j u.x) (rm:∀r∈bo i,r>base->∃u∈t.ts,u.x=r):
 AI base (fw 0 [] (p++i::j4)) (s.sS base (fw 0 [] (p++i::j4)) p.length i) ((bj i).foldl (Nu.gG base (fw 0 [] (p++i::j4)) p.length (bj i)) t).ts (fun u=>((p.length+1:Nat):Int)<=u.l_)∧
 yG ((bj i).foldl (Nu.gG base (fw 0 [] (p++i::j4)) p.length (bj i)) t).eQ ((bj i).foldl (Nu.gG base (fw 0 [] (p++i::j4)) p.length (bj i)) t).ts∧
 (∃kK,((bj i).foldl (Nu.gG base (fw 0 [] (p++i::j4)) p.length (bj i)) t).ts=t.ts++kK∧kK.length<=(bj i).length∧∀u∈kK,u.x∈bj i∧u.qR=p.length)∧
 (∀w∈bj i,w>base->∃u∈((bj i).foldl (Nu.gG base (fw 0 [] (p++i::j4)) p.length (bj i)) t).ts,u.x=w)∧
 (s.sS base (fw 0 [] (p++i::j4)) p.length i).aN=s.aN++[vF (s.sS base (fw 0 [] (p++i::j4)) p.length i).cr i]:=by
 obtain⟨last,xy⟩:∃last,last=fw 0 [] (p++i::j4):=⟨_,rfl⟩;have aS:∀x,Oc i x->(p.length:Int)<=fx x last:=fun x ho=>by rw[xy];exact am5 ho
 have hat:∀x,(∃j∈p,Oc j x)->fx x last=(p.length:Int)->Oc i x:=fun x ho he=>by rw[xy]at he;exact am4 ho he
 rw[←xy]at h⊢;obtain⟨r1,r2,r3⟩:=AI.Fv (k:=(p.length:Int)) (ws:=bj i) (bo i) s _ (apo i) h (fun r hr g1 g2 g3=>by obtain⟨u,hu,hx⟩:=rm r hr g1;exact⟨u,hu,hx,by rw[h.l_ u hu,hx,g2];exact u4 _⟩);have r1:=r1.FZ (AA:=fun v=>lV v (p.length:Int) (bj i)=true) (fun v hv=>by
  rw[WQ];have e:=h.l_ v hv;constructor
  ·rintro⟨q1,q2⟩;refine⟨HF v hv,?_⟩;by_cases hgt:v.l_>(p.length:Int)
   ·exact .inl hgt
   ·have he:fx v.x last=(p.length:Int):=by omega
    have:=hat v.x (LY v hv) he;rcases List.mem_append.1 this with hh|hh
    ·apply tL;intro jX;exact q2 ⟨hh,he,fun hw=>jX (.inr hw)⟩
    ·exact .inr hh
  ·rintro⟨_,q|q⟩
   ·exact⟨by omega,fun hh=>by have:=hh.2.1;omega⟩
   ·exact⟨by rw[e];exact aS v.x (List.mem_append_right _ q),fun hh=>hh.2.2 q⟩)
 obtain⟨w1,w2,w3,⟨kK,w4,w5,w6⟩,w7⟩:=AI.ahw hb (bj i) _ t (fun w hw=>hw) r1 hm hl;obtain⟨S,hS⟩:∃S,S=(bj i).foldl (Al.jJ base) ((bo i).foldl (Al.iH base last p.length (bj i)) s):=⟨_,rfl⟩;obtain⟨T,hT⟩:∃T,T=(bj i).foldl (Nu.gG base last p.length (bj i)) t:=⟨_,rfl⟩;rw[←hS,←hT]at w1;rw[←hS]at w3;rw[←hT]at w2 w4 w7⊢;have w1:AI base last S.qP T.ts (fun v=>lV v (p.length:Int) (bj i)=true):=⟨w1.fp,w1.map,w1.uq,w1.xs,w1.l_,w1.nx,w1.rn⟩;have abP:∀u∈T.ts,u.qR<=(p.length:Int):=by
  intro u hu;rw[w4]at hu;rcases List.mem_append.1 hu with hu|hu
  ·exact HF u hu
  ·rw[(w6 u hu).2];exact u4 _
 have ef:Al.az base last (p.length:Int)=Al.iH base last (p.length:Int) []:=by funext s r;exact akM ..
 obtain⟨f1,f2,f3⟩:=AI.Fv (k:=(p.length:Int)) (ws:=[]) (bj i) S.qP _ (awK i) w1 (fun r hr g1 g2 g3=>by obtain⟨u,hu,hx⟩:=w7 r hr g1;exact⟨u,hu,hx,(WQ ..).2 ⟨abP u hu,.inr (by rw[hx];exact hr)⟩⟩);have f1:=f1.FZ (AA:=fun u=>((p.length+1:Nat):Int)<=u.l_) (fun v hv=>by
  rw[WQ];have e:=w1.l_ v hv;constructor
  ·rintro⟨⟨q0,q|q⟩,q2⟩
   ·push_cast;omega
   ·have h1:=aS v.x (List.mem_append_right _ q);have h2:fx v.x last≠(p.length:Int):=fun hh=>q2 ⟨q,hh,by simp⟩
    push_cast
    omega
  ·intro q
   push_cast at q
   exact⟨⟨abP v hv,.inl (by omega)⟩,fun hh=>by have:=hh.2.1;omega⟩)
 have es:s.sS base last p.length i=((bj i).foldl (Al.iH base last (p.length:Int) []) S.qP).t_ i:=by unfold Al.sS;rw[ef,hS]
 rw[es];refine⟨⟨f1.fp,f1.map,f1.uq,f1.xs,f1.l_,f1.nx,f1.rn⟩,w2,⟨kK,w4,w5,w6⟩,w7,?_⟩;show((bj i).foldl (Al.iH base last (p.length:Int) []) S.qP).aN++[_]=s.aN++[_];have eo:S.qP.aN=s.aN:=w3.trans r2;rw[f2,eo];rfl
theorem acO(x:Int):∀(ws:LI) (wr:List (Int×Bool)),du (oq ws wr) x=true↔x∈ws∨du wr x=true
 |[],wr=>by simp[oq]
 |w::ws,wr=>by
  have:=acO x ws (up w true wr);simp only[oq,iy,sy]at this⊢;rw[this,T4];constructor
  ·rintro(h|h|h)
   ·exact .inl (.inr h)
   ·exact .inl (.inl h)
   ·exact .inr h
  ·rintro((h|h)|h)
   ·exact .inr (.inl h)
   ·exact .inl h
   ·exact .inr (.inr h)
theorem awJ(i:a9):(bj i).length<5000:=Vz (u9 i.op).2
theorem afr{base:Int}(hb:0<=base∧base<=4096)(l:cn)(d_:l.length<60000):∀(j4 p:cn) (s:Al) (t:Nu) (wr:List (Int×Bool)),l=p++j4->AI base (fw 0 [] l) s t.ts (fun u=>(p.length:Int)<=u.l_)->yG t.eQ t.ts->(∀u∈t.ts,u.qR<=(p.length:Int))->(∀u∈t.ts,∃j∈p,Oc j u.x)->
 (∀r,r>base->du wr r=true->∃u∈t.ts,u.x=r)->pA base wr j4=true->t.ts.length<=5000*p.length->
 ∃kK,(Nu.oY base (fw 0 [] l) p.length t j4).ts=t.ts++kK∧(∀u∈kK,base<u.x)∧(Al.rV base (fw 0 [] l) p.length s j4).aN=s.aN++j4.map (u5 (Nu.oY base (fw 0 [] l) p.length t j4).ts)
 |[],p,s,t,wr,_,_,_,_,_,_,_,_=>⟨[],by simp[Nu.oY],(fun u hu=>by cases hu),by simp[Al.rV]⟩
 |i::j4,p,s,t,wr,zm,h,hm,HF,LY,tz,hv,nz=>by
  have kH:p.length<60000:=by rw[zm]at d_;simp at d_;omega
  have TO:=awJ i;have tl:bG i=true:=by
   cases hf:bG i with
   |true=>rfl
   |false=>unfold pA at hv;rw[aY (.inl hf)]at hv;cases hv
  unfold pA at hv;split at hv
  ·cases hv
  split at hv
  ·cases hv
  rename_i Hq;have EB:∀r∈bo i,r>base->∃u∈t.ts,u.x=r:=by intro r hr xH;refine tz r xH ?_;apply tL;intro hk;refine Hq (List.any_eq_true.2 ⟨r,hr,?_⟩);unfold lD;simp only[Bool.not_eq_true]at hk;rw[hk];simp only[cW,mf,Bool.not_false,and_true];exact xH
  rw[zm]at h;obtain⟨a1,a2,⟨kK,a3,a4,a5⟩,a6,a7⟩:=IY (j4:=j4) (i:=i) hb (by omega) h hm HF LY EB;rw[←zm]at a1 a2 a3 a6 a7;obtain⟨S,hS⟩:∃S,S=s.sS base (fw 0 [] l) p.length i:=⟨_,rfl⟩;obtain⟨T,hT⟩:∃T,T=(bj i).foldl (Nu.gG base (fw 0 [] l) p.length (bj i)) t:=⟨_,rfl⟩;rw[←hS,←hT]at a1;rw[←hS]at a7;rw[←hT]at a2 a3 a6;have e:(p++[i]).length=p.length+1:=by simp
  obtain⟨ML,b1,b2,b3⟩:=afr hb l d_ j4 (p++[i]) S T (oq (bj i) wr) (by rw[zm];simp) (by rw[e];exact a1) a2
   (fun u hu=>by
     rw[a3]at hu;rw[e];rcases List.mem_append.1 hu with hu|hu
     ·have:=HF u hu;omega
     ·rw[(a5 u hu).2];omega)
   (fun u hu=>by
     rw[a3]at hu;rcases List.mem_append.1 hu with hu|hu
     ·obtain⟨j,hj,ho⟩:=LY u hu;exact⟨j,List.mem_append_left _ hj,ho⟩
     ·exact⟨i,by simp,List.mem_append_right _ (a5 u hu).1⟩)
   (fun r xH hk=>by
     rw[acO]at hk;rcases hk with hk|hk
     ·exact a6 r hk xH
     ·obtain⟨u,hu,hx⟩:=tz r xH hk;exact⟨u,by rw[a3];exact List.mem_append_left _ hu,hx⟩)
   hv (by rw[a3,e];simp only[bI];omega)
  rw[e]at b1 b3;have en:Nu.oY base (fw 0 [] l) p.length t (i::j4)=Nu.oY base (fw 0 [] l) (p.length+1) T j4:=by rw[hT];rfl
  have ea:Al.rV base (fw 0 [] l) p.length s (i::j4)=Al.rV base (fw 0 [] l) (p.length+1) S j4:=by rw[hS];rfl
  rw[en,ea];have TQ:∀u∈kK,base<u.x:=fun u hu=>a1.xs u (by rw[a3];exact List.mem_append_right _ hu)
  refine⟨kK++ML,by rw[b1,a3,nG],fun u hu=>by
   rcases List.mem_append.1 hu with hu|hu
   ·exact TQ u hu
   ·exact b2 u hu,?_⟩
  rw[b3,a7,nG,List.map_cons];have fld:∀x,(x=0∨x∈bo i++bj i)->pq S.cr x=qH (Nu.oY base (fw 0 [] l) (p.length+1) T j4).ts x:=by
   intro x hx;rw[adP,b1,WL,pq,a1.map];cases hq:oQ T.ts x with
   |some n=>rfl
   |none=>
    have:x<=base:=by
     apply tL;intro hgt;have nZ:∃u∈T.ts,u.x=x:=by
      rcases hx with hx|hx
      ·omega
      ·rcases List.mem_append.1 hx with hx|hx
       ·obtain⟨u,hu,TC⟩:=EB x hx (by omega);exact⟨u,by rw[a3];exact List.mem_append_left _ hu,TC⟩
       ·exact a6 x hx (by omega)
     obtain⟨u,_,_,hh⟩:=Of nZ;rw[hq]at hh;cases hh
    have:oQ ML x=none:=Oe (fun u hu e=>by have:=b2 u hu;omega);rw[this]
  obtain⟨g1,g2⟩:=akL tl;have key:vF S.cr i=u5 (Nu.oY base (fw 0 [] l) (p.length+1) T j4).ts i:=by unfold vF u5;rw[fld i.r g1,fld i.a g2]
  rw[key];rfl
theorem aix{l:cn}{base:Int}(hl:l.length<60000):eD l base=vw l base:=by
 unfold eD vw;by_cases hv:kq l base=true
 ·rw[aY hv,aY hv];unfold kq at hv;split at hv
  ·cases hv
  rename_i hb;have hb:0<=base∧base<=4096:=by omega
  have h0:AI base (fw 0 [] l) (vu base) (⟨[],[]⟩:Nu).ts (fun u=>((([]:cn).length:Nat):Int)<=u.l_):=by
   have hn:(vu base).gV=base+1:=cX (by omega) (by omega);refine⟨⟨(fun i _ hi=>by cases hi),List.Pairwise.nil,fun y=>?_,(fun u hu=>by cases hu),(fun u hu=>by cases hu)⟩,fun x=>rfl,(fun u hu=>by cases hu),(fun u hu=>by cases hu),(fun u hu=>by cases hu),by rw[hn];simp,fun u hu=>by cases hu⟩;rw[hn];constructor
   ·intro h;cases h
   ·rintro⟨h1,h2,_⟩;omega
  obtain⟨kK,h1,h2,h3⟩:=afr hb l hl l [] (vu base) ⟨[],[]⟩ [] rfl h0 (fun x=>by
   constructor
   ·intro h;cases h
   ·rintro⟨u,hu,_⟩;cases hu) (fun u hu=>by cases hu) (fun u hu=>by cases hu) (fun r _ hk=>by cases hk) hv (by simp)
  have e:(um l base).aN=l.map (u5 (oi l base)):=by unfold um oi;rw[afq (lr:=fw 0 [] l) (fun x hx=>by unfold fx;rw[acU hx l 0 [] [] rfl])];simpa[vu]using h3
  rw[e]
 ·rw[aB hv,aB hv]
def Dn(c:Ck)(r:Int):Prop:=iL c.d r=true
theorem nW{x:Int}:∀{d:List (Int×Nat)},iL d x=true↔∃p∈d,p.1=x
 |[]=>by simp[iL,mV]
 |q::d=>by
  have ih:=nW (x:=x) (d:=d);unfold iL at ih⊢;simp only[mV,List.mem_cons,exists_eq_or_imp];by_cases h:x=q.1
  ·simp[h]
  ·rw[if_neg h,Option.isSome_map,ih];constructor
   ·exact .inr
   ·rintro(h2|h2)
    ·exact absurd h2.symm h
    ·exact h2
theorem Z4{r:Int}:∀{d:List (Int×Nat)} {p:Int×Nat},p∈d->p.1≠r->p∈mN d r
 |[],_,h,_=>by cases h
 |q::d,p,h,hn=>by
  simp only[mN];split
  ·rename_i hq;rcases List.mem_cons.1 h with rfl|h
   ·exact absurd hq.symm hn
   ·exact h
  ·rcases List.mem_cons.1 h with rfl|h
   ·exact List.mem_cons_self ..
   ·exact List.mem_cons_of_mem _ (Z4 h hn)
theorem abA{r x:Int}{d:List (Int×Nat)}(h:iL d x=true)(hn:x≠r):iL (mN d r) x=true:=by obtain⟨p,h1,h2⟩:=nW.1 h;exact nW.2 ⟨p,Z4 h1 (by rw[h2];exact hn),h2⟩
theorem CK(c:Ck)(r:Int):Dn (c.mj r) r∧∀x,Dn c x->Dn (c.mj r) x:=by
 unfold Ck.mj Dn;split
 ·rename_i h;exact⟨h,fun _ h=>h⟩
 ·refine⟨nW.2 ⟨(r,c.kV),by simp,rfl⟩,fun x hx=>?_⟩;obtain⟨p,h1,h2⟩:=nW.1 hx;exact nW.2 ⟨p,by simp[h1],h2⟩
structure kT(c c':Ck):Prop where
 mq:c'.args=c.args
 nO:c'.after=c.after
 aR:c'.aR=c.aR
 bP:c'.bP=c.bP
 up:∀r,Dn c r->Dn c' r
theorem kT.yv(c:Ck):kT c c:=⟨rfl,rfl,rfl,rfl,fun _ h=>h⟩
theorem kT.Cw{a b c:Ck}(h:kT a b)(h':kT b c):kT a c:=⟨h'.mq.trans h.mq,h'.nO.trans h.nO,h'.aR.trans h.aR,h'.bP.trans h.bP,fun r hr=>h'.up r (h.up r hr)⟩
theorem GJ{c:Ck}{r:Int}(h:c.ex r=true):kT c (c.ew r)∧Dn (c.ew r) r:=by unfold Ck.ew;rw[if_pos h];obtain⟨h1,h2,h3,h4⟩:=BW c r;exact⟨⟨h2,h3,h1,h4,(CK c r).2⟩,(CK c r).1⟩
theorem aaJ{c c':Ck}(h:c'.aR=c.aR)(r:Int):c'.ex r=c.ex r:=by unfold Ck.ex;rw[h]
theorem Kt:∀{ws:List Int} {c:Ck},(∀w∈ws,c.ex w=true)->∃c',xd c ws=(true,c')∧kT c c'∧∀w∈ws,Dn c' w
 |[],c,_=>⟨c,rfl,.yv c,fun w hw=>by cases hw⟩
 |w::ws,c,h=>by
  have hw:=h w (List.mem_cons_self ..);obtain⟨h1,h2⟩:=GJ hw;obtain⟨c',h3,h4,h5⟩:=Kt (ws:=ws) (c:=c.ew w) (fun x hx=>by rw[aaJ h1.aR];exact h x (List.mem_cons_of_mem _ hx));refine⟨c',by simp only[xd];rw[if_pos hw];exact h3,h1.Cw h4,fun x hx=>?_⟩;rcases List.mem_cons.1 hx with rfl|hx
  ·exact h4.up _ h2
  ·exact h5 x hx
theorem Wh{n:Int}{x:Int}(hx:0<=x∨-x<=n):∀(k:Nat) (y:Int) (d:List (Int×Nat)),1<=y->iL d x=true->iL (rP n k y d) x=true
 |0,y,d,_,h=>h
 |k+1,y,d,hy,h=>by
  simp only[rP];refine Wh hx k (y+1) _ (by omega) ?_;split
  ·exact abA h (by omega)
  ·exact h
theorem QQ{x:Int}(hx:x<=0):∀(k:Nat) (y:Int) (d:List (Int×Nat)),1<=y->iL d x=true->iL (pc k y d) x=true
 |0,y,d,_,h=>h
 |k+1,y,d,hy,h=>by simp only[pc];exact QQ hx k (y+1) _ (by omega) (abA h (by omega))
section
variable{r a n ar:Int}{s:List Nat}
theorem VT(h:bG ⟨1,r,a,n,s,ar⟩=true):bo ⟨1,r,a,n,s,ar⟩=[a]∧bj ⟨1,r,a,n,s,ar⟩=[r]:=by rw[bo,bj,c7,c7,if_pos h,if_pos h];simp[dm,eZ,gp,fe,eI]
theorem NB(h:bG ⟨2,r,a,n,s,ar⟩=true):(∀x∈bo ⟨2,r,a,n,s,ar⟩,x=r∨x=a)∧bj ⟨2,r,a,n,s,ar⟩=[]:=by rw[bo,bj,c7,c7,if_pos h,if_pos h];simp[dm,eZ,gp,fe,eI];split<;>simp
theorem rw3(h:bG ⟨3,r,a,n,s,ar⟩=true):bo ⟨3,r,a,n,s,ar⟩=[a]∧bj ⟨3,r,a,n,s,ar⟩=[]:=by rw[bo,bj,c7,c7,if_pos h,if_pos h];simp[dm,eZ,gp,fe,eI]
theorem rw4(h:bG ⟨4,r,a,n,s,ar⟩=true):bo ⟨4,r,a,n,s,ar⟩=[a]∧bj ⟨4,r,a,n,s,ar⟩=[]:=by rw[bo,bj,c7,c7,if_pos h,if_pos h];simp[dm,eZ,gp,fe,eI]
theorem rw5(h:bG ⟨5,r,a,n,s,ar⟩=true):bo ⟨5,r,a,n,s,ar⟩=[a]∧bj ⟨5,r,a,n,s,ar⟩=[]:=by rw[bo,bj,c7,c7,if_pos h,if_pos h];simp[dm,eZ,gp,fe,eI]
theorem rw6(h:bG ⟨6,r,a,n,s,ar⟩=true):bo ⟨6,r,a,n,s,ar⟩=[]∧bj ⟨6,r,a,n,s,ar⟩=[r]:=by rw[bo,bj,c7,c7,if_pos h,if_pos h];simp[dm,eZ,gp,fe,eI]
theorem rw7(h:bG ⟨7,r,a,n,s,ar⟩=true):bo ⟨7,r,a,n,s,ar⟩=[r]∧bj ⟨7,r,a,n,s,ar⟩=[]:=by rw[bo,bj,c7,c7,if_pos h,if_pos h];simp[dm,eZ,gp,fe,eI]
theorem rw8:bo ⟨8,r,a,n,s,ar⟩=[]∧bj ⟨8,r,a,n,s,ar⟩=[]:=by rw[bo,bj,c7,c7];simp[dm,eZ,gp,fe]
theorem rw9:bo ⟨9,r,a,n,s,ar⟩=[]∧bj ⟨9,r,a,n,s,ar⟩=[]:=by rw[bo,bj,c7,c7];simp[dm,eZ,gp,fe]
theorem afu:bo ⟨10,r,a,n,s,ar⟩=[]∧bj ⟨10,r,a,n,s,ar⟩=[]:=by rw[bo,bj,c7,c7];simp[dm,eZ,gp,fe]
theorem Cf(h:bG ⟨11,r,a,n,s,ar⟩=true):bo ⟨11,r,a,n,s,ar⟩=[]∧(∀x,x∈bj ⟨11,r,a,n,s,ar⟩↔x=r∨x=a):=by
 rw[bo,bj,c7,c7,if_pos h,if_pos h];simp[dm,eZ,gp,fe,eI];intro x;split
 ·rename_i e;subst e;simp
 ·simp
theorem afv(h:bG ⟨12,r,a,n,s,ar⟩=true):bo ⟨12,r,a,n,s,ar⟩=[r]∧bj ⟨12,r,a,n,s,ar⟩=[a]:=by rw[bo,bj,c7,c7,if_pos h,if_pos h];simp[dm,eZ,gp,fe,eI]
theorem VU(h:bG ⟨13,r,a,n,s,ar⟩=true):bo ⟨13,r,a,n,s,ar⟩=[]∧bj ⟨13,r,a,n,s,ar⟩=[a]:=by rw[bo,bj,c7,c7,if_pos h,if_pos h];simp[dm,eZ,gp,fe,eI]
theorem VV(h:bG ⟨14,r,a,n,s,ar⟩=true):bo ⟨14,r,a,n,s,ar⟩=[]∧bj ⟨14,r,a,n,s,ar⟩=[a]:=by rw[bo,bj,c7,c7,if_pos h,if_pos h];simp[dm,eZ,gp,fe,eI]
theorem apP(h:bG ⟨15,r,a,n,s,ar⟩=true):bo ⟨15,r,a,n,s,ar⟩=[]∧bj ⟨15,r,a,n,s,ar⟩=[r]:=by rw[bo,bj,c7,c7,if_pos h,if_pos h];simp[dm,eZ,gp,fe,eI]
theorem apQ:bo ⟨16,r,a,n,s,ar⟩=[]:=by rw[bo,c7];simp[dm,eZ,gp,fe]
theorem apR:bo ⟨17,r,a,n,s,ar⟩=[]:=by rw[bo,c7];simp[dm,eZ,gp,fe]
theorem apS:bo ⟨18,r,a,n,s,ar⟩=[]:=by rw[bo,c7];simp[dm,eZ,gp,fe]
theorem apT:∀x∈bo ⟨19,r,a,n,s,ar⟩,1<=x∧x<=ar:=by
 rw[bo,c7];split
 ·intro x hx;simp[dm,eZ,gp,fe,eI,gR]at hx;omega
 ·simp
theorem apU:∀x∈bo ⟨20,r,a,n,s,ar⟩,1<=x∧x<=ar:=by
 rw[bo,c7];split
 ·intro x hx;simp[dm,eZ,gp,fe,eI,gR]at hx;omega
 ·simp
theorem apV:bo ⟨21,r,a,n,s,ar⟩=[]:=by rw[bo,c7];simp[dm,eZ,gp,fe]
theorem afw(h:bG ⟨22,r,a,n,s,ar⟩=true):bo ⟨22,r,a,n,s,ar⟩=[]∧bj ⟨22,r,a,n,s,ar⟩=[r]:=by rw[bo,bj,c7,c7,if_pos h,if_pos h];simp[dm,eZ,gp,fe,eI]
theorem Fy(h:bG ⟨23,r,a,n,s,ar⟩=true):bo ⟨23,r,a,n,s,ar⟩=[]∧bj ⟨23,r,a,n,s,ar⟩=[r]:=by rw[bo,bj,c7,c7,if_pos h,if_pos h];simp[dm,eZ,gp,fe,eI]
theorem afx(h:bG ⟨24,r,a,n,s,ar⟩=true):bo ⟨24,r,a,n,s,ar⟩=[r]∧bj ⟨24,r,a,n,s,ar⟩=[]:=by rw[bo,bj,c7,c7,if_pos h,if_pos h];simp[dm,eZ,gp,fe,eI]
theorem afy:bo ⟨25,r,a,n,s,ar⟩=[]∧bj ⟨25,r,a,n,s,ar⟩=[]:=by rw[bo,bj,c7,c7];simp[dm,eZ,gp,fe]
end
theorem Qk(op:Int):e9 op=true↔6<=op∧op<=10:=by simp[e9]
theorem IX{c:Ck}{i:a9}{f la:Bool}(h1:e9 i.op=decide (c.args>0))(h2:∀x∈bo i,Dn c x):eJ c i f la=sK c i f la:=by unfold eJ;rw[if_pos h1,if_pos (List.all_eq_true.2 h2)]
structure vl(k:Int)(c c':Ck):Prop where
 ua:c'.args=c.args-k
 aR:c'.aR=c.aR
 bP:c'.bP=c.bP
 up:∀r,Dn c r->Dn c' r
 az:c.args=k->c'.after=0∧(c.after≠0->Dn c' c.after)
 et:c.args≠k->c'.after=c.after
theorem agK{c:Ck}(h:0<=c.args):∃c',yl c false=(true,c')∧c'.args=c.args∧c'.aR=c.aR∧c'.bP=c.bP∧(∀r,Dn c r->Dn c' r)∧(c.args=0->c'.after=0∧(c.after≠0->Dn c' c.after))∧(c.args≠0->c'=c):=by
 unfold yl;rw[if_neg (by omega),if_neg (by simp)];by_cases h1:c.args=0∧c.after≠0
 ·rw[if_pos h1];obtain⟨e1,e2,e3,e4⟩:=BW c c.after;exact⟨_,rfl,e2,e1,e4,(CK c c.after).2,fun _=>⟨rfl,fun _=>(CK c c.after).1⟩,fun hn=>absurd h1.1 hn⟩
 ·rw[if_neg h1];refine⟨c,rfl,rfl,rfl,rfl,fun _ h=>h,fun h2=>?_,fun _=>rfl⟩;have h3:c.after=0:=by apply Classical.byContradiction;intro hn;exact h1 ⟨h2,hn⟩
  exact⟨h3,fun hn=>absurd h3 hn⟩
theorem NT{c:Ck}{i:a9}{f:Bool}{k:Int}(hi:e9 i.op=true)(hk:k=(if i.op=10 then i.n else 1))(k1:1<=k)(k2:k<=c.args)(h8:c.args<=8)(hr:∀x∈bo i,Dn c x)(hx:i.op=6->c.ex i.r=true):
 ∃c',eJ c i f false=(true,c')∧vl k c c'∧(i.op=6->Dn c' i.r)∧(c.args≠k->i.op=10->c'={c with args:=c.args-k}):=by
 rw[IX (by rw[hi];symm;exact decide_eq_true (by omega)) hr];unfold sK;rw[if_pos hi,←hk,cX (by omega) (by omega)];unfold jo;by_cases h6:i.op=6
 ·rw[if_pos h6];have xK:Ck.ex {c with args:=c.args-k} i.r=true:=hx h6;rw[if_pos xK];obtain⟨d1,d2⟩:=GJ xK;obtain⟨c',e1,e2,e3,e4,e5,e6,e7⟩:=agK (c:=Ck.ew {c with args:=c.args-k} i.r) (by rw[d1.mq];simp only;omega);refine⟨c',e1,⟨by rw[e2,d1.mq],by rw[e3,d1.aR],by rw[e4,d1.bP],fun r hr=>e5 r (d1.up r hr),fun h=>?_,fun h=>?_⟩,fun _=>e5 _ d2,fun _ mQ=>by omega⟩
  ·obtain⟨q1,q2⟩:=e6 (by rw[d1.mq];simp only;omega);exact⟨q1,fun hn=>by rw[←show(Ck.ew {c with args:=c.args-k} i.r).after=c.after from d1.nO];exact q2 (by rw[d1.nO];exact hn)⟩
  ·rw[e7 (by rw[d1.mq];simp only;omega),d1.nO]
 ·rw[if_neg h6];obtain⟨c',e1,e2,e3,e4,e5,e6,e7⟩:=agK (c:={c with args:=c.args-k}) (by simp only;omega);refine⟨c',e1,⟨e2,e3,e4,e5,fun h=>e6 (by simp only;omega),fun h=>by rw[e7 (by simp only;omega)]⟩,fun h=>absurd h h6,fun h _=>e7 (by simp only;omega)⟩
theorem FD{c:Ck}{i:a9}{f:Bool}(ho:i.op=1∨i.op=2∨i.op=3∨i.op=4∨i.op=11∨i.op=12∨i.op=13∨i.op=14∨i.op=23∨i.op=24)(h0:c.args=0)(hr:∀x∈bo i,Dn c x)(hw:∀x∈bj i,c.ex x=true):
 ∃c',eJ c i f false=(true,c')∧kT c c'∧∀x∈bj i,Dn c' x:=by
 have ha:e9 i.op=false:=by rw[Bool.eq_false_iff,Ne,Qk];omega
 rw[IX (by rw[ha];symm;exact decide_eq_false (by omega)) hr];unfold sK;rw[if_neg (by rw[ha];simp),if_pos (show my i=false by simp[my];omega)];unfold nL;rw[if_neg (by omega),if_neg (by omega),if_neg (by omega),if_neg (by omega),if_neg (by omega),if_neg (by omega),if_neg (by omega),if_neg (by omega),if_neg (by omega)];exact Kt hw
theorem yn{c:Ck}{i:a9}{f la:Bool}(ha:e9 i.op=false)(h0:c.args=0)(hr:∀x∈bo i,Dn c x)(he:my i=la):eJ c i f la=nL c i f:=by rw[IX (by rw[ha];symm;exact decide_eq_false (by omega)) hr];unfold sK;rw[if_neg (by rw[ha];simp),if_pos he]
theorem agP{c:Ck}{i:a9}{f:Bool}(ho:i.op=22)(h0:c.args=0)(hc:c.bP=false)(hr:∀x∈bo i,Dn c x)(hw:c.ex i.r=true):∃c',eJ c i f false=(true,c')∧kT c c'∧Dn c' i.r:=by rw[yn (by rw[ho];rfl) h0 hr (by simp[my,ho])];unfold nL;rw[if_neg (by omega),if_neg (by omega),if_neg (by omega),if_neg (by omega),if_neg (by omega),if_neg (by omega),if_neg (by omega),if_neg (by omega),if_pos ho,if_neg (by rw[hc];simp),hw];obtain⟨d1,d2⟩:=GJ hw;exact⟨_,rfl,d1,d2⟩
theorem avG{c:Ck}{i:a9}{f:Bool}(ho:i.op=5)(h0:c.args=0)(hr:∀x∈bo i,Dn c x):eJ c i f false=(true,{c with args:=i.ar}):=by rw[yn (by rw[ho];rfl) h0 hr (by simp[my,ho])];unfold nL;rw[if_pos ho]
theorem avN{c:Ck}{i:a9}{f:Bool}(ho:i.op=15)(h0:c.args=0)(hr:∀x∈bo i,Dn c x)(hx:c.ex i.r=true):eJ c i f false=(true,{c with args:=i.ar,after:=i.r}):=by rw[yn (by rw[ho];rfl) h0 hr (by simp[my,ho])];unfold nL;rw[if_neg (by omega),if_pos ho];have:Ck.ex {c with args:=i.ar,after:=i.r} i.r=true:=hx;rw[this]
theorem avB{c:Ck}{i:a9}(ho:i.op=16)(h0:c.args=0)(hr:∀x∈bo i,Dn c x):eJ c i true false=(true,{c with aR:=i.n}):=by rw[yn (by rw[ho];rfl) h0 hr (by simp[my,ho])];unfold nL;rw[if_neg (by omega),if_neg (by omega),if_pos ho]
theorem avO{c:Ck}{i:a9}{f:Bool}(ho:i.op=17)(h0:c.args=0)(hr:∀x∈bo i,Dn c x)(hn:i.n<=c.aR):eJ c i f false=(true,c.ko i.n):=by rw[yn (by rw[ho];rfl) h0 hr (by simp[my,ho])];unfold nL;rw[if_neg (by omega),if_neg (by omega),if_neg (by omega),if_pos ho,if_neg (by omega)]
theorem avF{c:Ck}{i:a9}{f:Bool}(ho:i.op=18)(h0:c.args=0)(hr:∀x∈bo i,Dn c x)(hn:0<=c.aR):eJ c i f false=(true,c.ko (-1)):=by rw[yn (by rw[ho];rfl) h0 hr (by simp[my,ho])];unfold nL;rw[if_neg (by omega),if_neg (by omega),if_neg (by omega),if_neg (by omega),if_pos ho,if_neg (by omega)]
theorem avC{c:Ck}{i:a9}{f:Bool}(ho:i.op=19)(h0:c.args=0)(hr:∀x∈bo i,Dn c x)(hn:0<=c.aR):eJ c i f false=(true,{c with d:=pc 4096 1 c.d,bP:=true}):=by rw[yn (by rw[ho];rfl) h0 hr (by simp[my,ho])];unfold nL;rw[if_neg (by omega),if_neg (by omega),if_neg (by omega),if_neg (by omega),if_neg (by omega),if_pos ho];have:decide (c.aR>=0)=true:=decide_eq_true hn;rw[this]
theorem agO{c:Ck}{i:a9}{f:Bool}(ho:i.op=20∨i.op=21)(h0:c.args=0)(hr:∀x∈bo i,Dn c x)(hn:c.aR<0):eJ c i f true=(true,c):=by
 rw[yn (by rcases ho with h|h<;>(rw[h];rfl)) h0 hr (by rcases ho with h|h<;>simp[my,h])];unfold nL;have:decide (c.aR<0)=true:=decide_eq_true hn;rcases ho with ho|ho
 ·rw[if_neg (by omega),if_neg (by omega),if_neg (by omega),if_neg (by omega),if_neg (by omega),if_neg (by omega),if_pos ho,this]
 ·rw[if_neg (by omega),if_neg (by omega),if_neg (by omega),if_neg (by omega),if_neg (by omega),if_neg (by omega),if_neg (by omega),if_pos ho,this]
theorem avE{c:Ck}{f:Bool}(h0:c.args=0):eJ c ⟨25,0,0,0,[],0⟩ f true=(true,c):=by rw[yn (la:=true) rfl h0 (by rw[afy.1];simp) (by rfl)];unfold nL;rw[if_neg (by decide),if_neg (by decide),if_neg (by decide),if_neg (by decide),if_neg (by decide),if_neg (by decide),if_neg (by decide),if_neg (by decide),if_neg (by decide),afy.2];rfl
def sI:Ck->cn->Option Ck
 |c,[]=>some c
 |c,x::l=>if(eJ c x false false).1=true then sI (eJ c x false false).2 l else none
theorem afo:∀{a b:cn} {c c1:Ck},sI c a=some c1->sI c (a++b)=sI c1 b
 |[],b,c,c1,h=>by cases h;rfl
 |x::a,b,c,c1,h=>by
  simp only[sI,List.cons_append]at h⊢;split at h
  ·rename_i hx;rw[if_pos hx];exact afo h
  ·cases h
theorem VS{S:cn}{c0 c c':Ck}{i:a9}(h:sI c0 S=some c)(hs:eJ c i false false=(true,c')):sI c0 (S++[i])=some c':=by rw[afo h];simp only[sI,hs,if_true]
structure eL(ba:cn)(c0:Ck)(m:Em)(c:Ck):Prop where
 run:∃S,m.aM=ba++S∧sI c0 S=some c∧∀D j,S=D++[j]->j.op=10->∃cD,sI c0 D=some cD∧1<=j.n∧cD.args<=8∧(0<c.args->c={cD with args:=cD.args-j.n})
def qG(ba:cn):Prop:=∀j,ba.getLast? =some j->j.op≠10
section
variable{ba:cn}{c0:Ck}{m:Em}{c c':Ck}
theorem eL.km(h:eL ba c0 m c){m':Em}(hc:m'.aM=m.aM):eL ba c0 m' c:=by obtain⟨S,h1,h2⟩:=h.run;exact⟨S,hc.trans h1,h2⟩
theorem eL.aE(h:eL ba c0 m c){i:a9}(ho:i.op≠10)(hs:eJ c i false false=(true,c')):eL ba c0 (m.aE i) c':=by
 obtain⟨S,h1,h2,h3⟩:=h.run;have e:(m.aE i).aM=m.aM++[i]:=by show gM m.aM i=_;unfold gM;rw[if_neg ho]
 refine⟨S++[i],by rw[e,h1,List.append_assoc],VS h2 hs,fun D j hD hj=>?_⟩;have:=(List.append_inj' hD rfl).2;simp only[List.cons.injEq,and_true]at this;subst this;exact absurd hj ho
theorem eL.awv(h:eL ba c0 m c)(hp:qG ba)(h1:0<c.args)(h8:c.args<=8):∃c',eL ba c0 (m.aE ⟨10,0,0,1,[],0⟩) c'∧vl 1 c c':=by
 obtain⟨S,e1,e2,e3⟩:=h.run;have aes:gM m.aM ⟨10,0,0,1,[],0⟩=m.aM++[⟨10,0,0,1,[],0⟩]->∃c',eL ba c0 (m.aE ⟨10,0,0,1,[],0⟩) c'∧vl 1 c c':=by
  intro he;obtain⟨c',s1,s2,_,s4⟩:=NT (c:=c) (i:=⟨10,0,0,1,[],0⟩) (f:=false) (k:=1) rfl rfl (by omega) (by omega) h8 (by rw[afu.1];simp) (fun h=>absurd h (show¬(10:Int)=6 by omega));refine⟨c',⟨S++[⟨10,0,0,1,[],0⟩],?_,VS e2 s1,fun D j hD hj=>?_⟩,s2⟩
  ·show gM m.aM ⟨10,0,0,1,[],0⟩=_;rw[he,e1,List.append_assoc]
  ·have h9:=List.append_inj' hD rfl;have mQ:=h9.2;simp only[List.cons.injEq,and_true]at mQ;subst mQ;rw[←h9.1];refine⟨c,e2,Int.le_refl _,h8,fun mT=>s4 ?_ rfl⟩;rw[s2.ua]at mT;omega
 rcases List.eq_nil_or_concat S with rfl|⟨D,j,rfl⟩
 ·refine aes ?_;rw[List.append_nil]at e1;unfold gM;rw[if_pos rfl];split
  ·rename_i j hj;rw[e1]at hj;rw[if_neg (hp j hj)]
  ·rfl
 ·rw[List.concat_eq_append]at e1 e2 e3;by_cases hj:j.op=10
  ·obtain⟨cD,d1,d2,d3,d4⟩:=e3 D j rfl hj;have d4:=d4 h1;have da:c.args=cD.args-j.n:=by rw[d4]
   have hw:wI (j.n+1)=j.n+1:=cX (by omega) (by omega);have he:(m.aE ⟨10,0,0,1,[],0⟩).aM=ba++(D++[⟨j.op,j.r,j.a,j.n+1,j.cH,j.ar⟩]):=by show gM m.aM ⟨10,0,0,1,[],0⟩=_;unfold gM;rw[if_pos rfl,e1,←List.append_assoc,List.getLast?_append];simp only[List.getLast?_singleton,Option.some_or];rw[if_pos hj,List.dropLast_concat,hw];simp
   have hr:∀x∈bo ⟨j.op,j.r,j.a,j.n+1,j.cH,j.ar⟩,Dn cD x:=by rw[hj,afu.1];simp
   obtain⟨c',s1,s2,_,s4⟩:=NT (c:=cD) (i:=⟨j.op,j.r,j.a,j.n+1,j.cH,j.ar⟩) (f:=false) (k:=j.n+1) (by rw[Qk];simp only;omega) (by rw[if_pos hj]) (by omega) (by omega) d3 hr (fun h=>by have h:j.op=6:=h;omega);have tw:∀r,Dn c r->Dn cD r:=fun r hr=>by rw[d4]at hr;exact hr
   refine⟨c',⟨D++[_],he,VS d1 s1,fun D' j' hD rl=>?_⟩,⟨by rw[s2.ua];omega,by rw[s2.aR,d4],by rw[s2.bP,d4],fun r hr=>s2.up r (tw r hr),fun h=>?_,fun h=>?_⟩⟩
   ·have h9:=List.append_inj' hD rfl;have mQ:=h9.2;simp only[List.cons.injEq,and_true]at mQ;subst mQ;rw[←h9.1];refine⟨cD,d1,by simp only;omega,d3,fun mT=>s4 ?_ hj⟩;rw[s2.ua]at mT;omega
   ·have:=s2.az (by omega);rw[d4];exact this
   ·rw[s2.et (by omega),d4]
  ·refine aes ?_;unfold gM;rw[if_pos rfl,e1,←List.append_assoc,List.getLast?_append];simp only[List.getLast?_singleton,Option.some_or];rw[if_neg hj]
end
structure eA(pm:List (Int×Int))(O K:Int->Prop)(m:Em)(c:Ck):Prop where
 pe:m.a8=pm
 sub:∀v,O v->K v
 nx:0<=m.bT∧m.bT<=4096
 tp:∀v r,lk v m.dZ=some r->0<r
 kn:∀v,m.ei v=true->K v
 BB:∀v,m.ei v=true->O v->lk v m.a8=none->∃r,lk v m.dZ=some r∧Dn c r
 ES:∀v k,m.ei v=true->lk v m.a8=some k->k<=c.aR->Dn c (-k)
 pos:∀v k,lk v m.a8=some k->1<=k∧k<=4096
 ey:∀v k,O v->lk v m.a8=some k->k<=c.aR
section
variable{pm:List (Int×Int)}{O K:Int->Prop}{m m':Em}{c c':Ck}{v:Int}
theorem eA.rW(h:eA pm O K m c)(h1:m'.bT=m.bT)(h2:m'.dZ=m.dZ)(h3:m'.du=m.du)(h4:m'.a8=m.a8):eA pm O K m' c:=by
 have hk:∀v,m'.ei v=m.ei v:=fun v=>by unfold Em.ei;rw[h3]
 exact⟨h4.trans h.pe,h.sub,by rw[h1];exact h.nx,by rw[h2];exact h.tp,fun v=>by rw[hk];exact h.kn v,fun v=>by rw[hk,h4,h2];exact h.BB v,fun v k=>by rw[hk,h4];exact h.ES v k,by rw[h4];exact h.pos,by rw[h4];exact h.ey⟩
theorem eA.up(h:eA pm O K m c)(hu:∀r,Dn c r->Dn c' r)(he:c'.aR=c.aR):eA pm O K m c':=
 ⟨h.pe,h.sub,h.nx,h.tp,h.kn,fun v a b d=>let⟨r,h1,h2⟩:=h.BB v a b d;⟨r,h1,hu r h2⟩,fun v k a b d=>hu _ (h.ES v k a b (by rw[←he];exact d)),h.pos,fun v k a b=>by rw[he];exact h.ey v k a b⟩
theorem eA.zP(h:eA pm O K m c)(hv:O v)(hk:m.ei v=true):Dn c (m.ej v):=by
 unfold Em.ej;cases hp:lk v m.a8 with
 |some k=>simp only;obtain⟨q1,q2⟩:=h.pos v k hp;rw[cX (by omega) (by omega)];exact h.ES v k hk hp (h.ey v k hv hp)
 |none=>simp only;obtain⟨r,h1,h2⟩:=h.BB v hk hv hp;rw[h1];exact h2
theorem eA.new(h:eA pm O K m c)(hv:O v)(hb:dj (m.ej v)=true):c.ex (m.ej v)=true∧∀c',(∀r,Dn c r->Dn c' r)->c'.aR=c.aR->Dn c' (m.ej v)->eA pm O K ((m.eH v).l9 v) c':=by
 obtain⟨n1,n2⟩:=h.nx;have hw:wI (m.bT+1)=m.bT+1:=cX (by omega) (by omega);have sc:m.ej v≠0∧-4096<=m.ej v∧m.ej v<=4096:=by simpa[dj]using hb
 refine⟨?_,fun c' hu he hd=>?_⟩
 ·unfold Em.ej Ck.ex;simp only[Bool.or_eq_true,decide_eq_true_eq];cases hp:lk v m.a8 with
  |some k=>simp only;obtain⟨q1,q2⟩:=h.pos v k hp;rw[cX (by omega) (by omega)];have:=h.ey v k hv hp;omega
  |none=>
   simp only;cases ht:lk v m.dZ with
   |some r=>have:=h.tp v r ht;simp only;omega
   |none=>simp only;omega
 ·have h0:=h.up hu he;have rm:∀w,((m.eH v).l9 v).ei w=if w=v then true else m.ei w:=by intro w;show(lk w (Go.Cl.up v true m.du)).getD false=_;rw[nC];split<;>rfl
  have hpe:((m.eH v).l9 v).a8=m.a8:=rfl;have zj:((m.eH v).l9 v).bT=bif m.jV v then wI (m.bT+1)else m.bT:=rfl
  have Tx:((m.eH v).l9 v).dZ=bif m.jV v then Go.Cl.up v (wI (m.bT+1)) m.dZ else m.dZ:=rfl
  have Tp:lk v m.a8=none->lk v ((m.eH v).l9 v).dZ=some (m.ej v):=by
   intro hp;rw[Tx];unfold Em.ej Em.jV;rw[hp];cases ht:lk v m.dZ with
   |some r=>simp[ht]
   |none=>simp[nC]
  have ab1:∀w,w≠v->lk w ((m.eH v).l9 v).dZ=lk w m.dZ:=by
   intro w hw;rw[Tx];cases m.jV v
   ·rfl
   ·simp only[cond_true];rw[nC,if_neg hw]
  refine⟨h0.pe,h0.sub,?_,fun w r hr=>?_,fun w hk=>?_,fun w hk ho hp=>?_,fun w k hk hp cI=>?_,h0.pos,h0.ey⟩
  ·rw[zj];cases hf:m.jV v with
   |false=>exact h.nx
   |true=>
    simp only[cond_true];have jw:=hf;unfold Em.jV at jw;simp only[Bool.and_eq_true,Option.isNone_iff_eq_none]at jw;have e:m.ej v=wI (m.bT+1):=by unfold Em.ej;rw[jw.1,jw.2]
    rw[←e];rw[e,hw]at sc⊢;omega
  ·by_cases xJ:w=v
   ·subst xJ;rw[Tx]at hr;cases hf:m.jV w with
    |false=>rw[hf]at hr;exact h.tp w r hr
    |true=>rw[hf]at hr;simp only[cond_true,nC,if_true,Option.some.injEq]at hr;omega
   ·rw[ab1 w xJ]at hr;exact h.tp w r hr
  ·rw[rm]at hk;split at hk
   ·rename_i e;rw[e];exact h.sub v hv
   ·exact h.kn w hk
  ·rw[rm]at hk;by_cases xJ:w=v
   ·subst xJ;exact⟨_,Tp hp,hd⟩
   ·rw[if_neg xJ]at hk;rw[ab1 w xJ];exact h0.BB w hk ho hp
  ·rw[rm]at hk;by_cases xJ:w=v
   ·subst xJ;have:m.ej w= -k:=by obtain⟨q1,q2⟩:=h.pos w k hp;unfold Em.ej;rw[show lk w m.a8=some k from hp];exact cX (by omega) (by omega)
    rw[←this];exact hd
   ·rw[if_neg xJ]at hk;exact h0.ES w k hk hp cI
theorem eA.OA(h:eA pm O K m c)(hb:m.bq.bT<=4096):eA pm O K m.bq c∧0<m.bq.bT:=by obtain⟨n1,n2⟩:=h.nx;have hw:wI (m.bT+1)=m.bT+1:=cX (by omega) (by omega);have hn:m.bq.bT=m.bT+1:=hw;refine⟨⟨h.pe,h.sub,by rw[hn]at hb⊢;omega,h.tp,h.kn,h.BB,h.ES,h.pos,h.ey⟩,by omega⟩
end
def fS(m:Em):Prop:=∀x∈m.aM,x.op≠10->bG x=true
theorem yY{c:cn}{i x:a9}(h:x∈c)(ho:x.op≠10):x∈gM c i:=by
 unfold gM;split
 ·split
  ·rename_i j hj;split
   ·rename_i hjo;obtain⟨D,rfl⟩:∃D,c=D++[j]:=by
     rcases List.eq_nil_or_concat c with rfl|⟨D,j',rfl⟩
     ·cases hj
     ·simp only[List.concat_eq_append,List.getLast?_append,List.getLast?_singleton,Option.some_or,Option.some.injEq]at hj;subst hj;exact⟨D,by simp⟩
    simp only[List.mem_append,List.mem_singleton]at h;rcases h with h|rfl
    ·simp[h]
    ·exact absurd hjo ho
   ·simp[h]
  ·simp[h]
 ·simp[h]
theorem K2{x:a9}(ho:x.op≠10):∀(l c:cn),x∈c->x∈l.foldl gM c
 |[],c,h=>h
 |i::l,c,h=>K2 ho l _ (yY h ho)
theorem fS.s6{n:Nat}{m m':Em}(h:fS m')(g:bS n m m'):fS m:=by obtain⟨l,hl,_⟩:=g.tr;intro x hx ho;exact h x (by rw[hl];exact K2 ho l _ hx) ho
theorem fS.oX{m:Em}{i:a9}(h:fS (m.aE i))(ho:i.op≠10):bG i=true:=by refine h i ?_ ho;show i∈gM m.aM i;unfold gM;rw[if_neg ho];simp
theorem zQ{op r a n ar:Int}{s:List Nat}(h:bG ⟨op,r,a,n,s,ar⟩=true)(ho:op=1∨op=2∨op=6∨op=7∨op=11∨op=12∨op=15∨op=22∨op=23∨op=24):dj r=true:=by unfold bG at h;simp only at h;rcases ho with rfl|rfl|rfl|rfl|rfl|rfl|rfl|rfl|rfl|rfl<;>(simp at h;first|exact h.1|exact h.1.1|exact h.1.1.1)
theorem awN{op r a n ar:Int}{s:List Nat}(h:bG ⟨op,r,a,n,s,ar⟩=true)(ho:op=1∨op=2∨op=3∨op=4∨op=5∨op=11∨op=12∨op=13∨op=14):1<=a∧a<=4096:=by
 have:dJ a=true:=by unfold bG at h;simp only at h;rcases ho with rfl|rfl|rfl|rfl|rfl|rfl|rfl|rfl|rfl<;>(simp at h;first|exact h.1|exact h.1.1|exact h.1.2|exact h.1.1.2|exact h.2.1)
 simpa[dJ]using this
end
end Go.Cl
