/- Part of a proof of ClauseCompiles. -/
import Derived.Test.YtanclcoobcaemaaGreatB1
set_option linter.all false
set_option linter.unusedSectionVars false
set_option maxRecDepth 100000
namespace Go.Cl
open Go.Ev Go.Proofs
variable[Ro]
noncomputable section
def k7{W:Type}(args:W->LV)(step:Em->W->Em)(ok:Em->W->Prop):dP (Em×W)where
 bN w A H:=A=.ad 0 0::args w.2∧H=bT w.1∧ok w.1 w.2
 v w:=.aO []
 aU w:=jU (step w.1 w.2)
theorem si{W:Type}{args:W->LV}{step:Em->W->Em}{ok:Em->W->Prop}(hi:∀a b,args a=args b->a=b):(k7 args step ok).dT:=by rintro⟨m,w⟩ ⟨m',w'⟩ A H ⟨h1,h2,_⟩ ⟨h3,h4,_⟩;simp only at h1 h2 h3 h4;rw[h2]at h4;rw[h1]at h3;rw[Hh h4,hi _ _ (List.cons.inj h3).2]
def Em.pI(m:Em)(v:Int):Int:=(lk v m.hJ).getD 0
def aT(w:Int×aK):LV:=[J w.1,.aj (dy w.2)]
theorem qI(a b:Int×aK)(h:aT a=aT b):a=b:=by obtain⟨a,t⟩:=a;obtain⟨b,u⟩:=b;simp only[aT,List.cons.injEq,AV.cM.injEq,AV.aj.injEq,true_and,and_true]at h;rw[h.1,tY h.2]
def sv{W:Type}(m:Em)(_:W):Prop:=m.aX.length<65536
def W0{W:Type}(m:Em)(_:W):Prop:=m.aX.length<65535
def Em.vn(m:Em)(w:Int×aK):Em:=if m.pI w.2.n>1 then m.fY w.2.n 1 2 w.1 else m
def Em.Hv(m:Em)(w:Int×aK):Em:=m.ah ⟨3,0,w.1,w.2.n,[],0⟩
def Em.Hu(m:Em)(w:Int×aK):Em:=m.ah ⟨4,0,w.1,0,w.2.fZ,0⟩
def Em.tz(m:Em)(w:Int×aK):Em:=if m.pI w.2.n>1 then m.fY w.2.n 11 12 w.1 else m.ah ⟨11,w.1,w.1,0,[],0⟩
def Em.IX(m:Em)(w:Int×aK):Em:=m.ah ⟨13,0,w.1,w.2.n,[],0⟩
def Em.IV(m:Em)(w:Int×aK):Em:=m.ah ⟨14,0,w.1,0,w.2.fZ,0⟩
def aV(w:Int×Int):LV:=[J w.1,J w.2]
theorem ZA(a b:Int×Int)(h:aV a=aV b):a=b:=by obtain⟨a,t⟩:=a;obtain⟨b,u⟩:=b;simp only[aV,List.cons.injEq,AV.cM.injEq,true_and,and_true]at h;rw[h.1,h.2]
def a1(v:Int):LV:=[J v]
theorem Ky(a b:Int)(h:a1 a=a1 b):a=b:=by cases h;rfl
def Em.dR(m:Em)(w:Int×Int):Em:=bif m.lI w.2 then
 ((m.bX.ah ⟨w.1,m.bX.cG,0,0,[],0⟩).ic w.2).ah ⟨2,(m.bX.ah ⟨w.1,m.bX.cG,0,0,[],0⟩).iU w.2,m.bX.cG,0,[],0⟩
 else((m.ic w.2).ah ⟨w.1,m.iU w.2,0,0,[],0⟩).ur w.2
def Em.nN(m:Em)(v:Int):Em:=bif m.lI v then(m.ic v).ah ⟨24,m.iU v,0,0,[],0⟩else m
def Pt:Ev.bC:=cB 59 (cO (k7 aT Em.vn sv) (si qI) cV) Pr
def Pu:Ev.bC:=cB 60 (cO (k7 aT Em.Hv sv) (si qI) cV) Pt
def Pv:Ev.bC:=cB 61 (cO (k7 aT Em.Hu sv) (si qI) cV) Pu
def Pw:Ev.bC:=cB 103 (cO (k7 aT Em.tz sv) (si qI) cV) Pv
def Px:Ev.bC:=cB 104 (cO (k7 aT Em.IX sv) (si qI) cV) Pw
def Py:Ev.bC:=cB 105 (cO (k7 aT Em.IV sv) (si qI) cV) Px
def Pz:Ev.bC:=cB 64 (cO (k7 aV Em.dR W0) (si ZA) cV) Py
def PD:Ev.bC:=cB 65 (cO (k7 a1 Em.nN sv) (si Ky) cV) Pz
theorem afZ(m:Em)(a k n:Int)(s:LN)(cs:LV)(len:Nat)(L:LT)(Q:QT):
 b_ Z Pr (fun _=>[]) L Q 1000 59 [.ad 0 0,J a,.aj [J k,J n,.aa s,.aB cs len 4]] (bT m)=(
 ∃aP:Int,∃b:Bool,gf Z 2 3 (bK J 0 m.hJ) (J n)=some (J aP,b)∧ai (decide (aP>1)) (∃w:Em×Int×Int×Int×Int,(([.ad 0 0,J n,J 1,J 2,J a]:LV)=[.ad 0 0,J w.2.1,J w.2.2.1,J w.2.2.2.1,J w.2.2.2.2]∧bT m=bT w.1∧w.1.aX.length<65536)∧Q (.aO []) (jU (w.1.fY w.2.1 w.2.2.1 w.2.2.2.1 w.2.2.2.2))) (Q (.aO []) (bT m))):=by kernel_rfl
theorem atg(m:Em)(a k n:Int)(s:LN)(cs:LV)(len:Nat)(L:LT)(Q:QT):
 b_ Z Pt (fun _=>[]) L Q 1000 60 [.ad 0 0,J a,.aj [J k,J n,.aa s,.aB cs len 4]] (bT m)=(
 ∃w:Em×ba,(([.ad 0 0,.aj [J 3,J 0,J a,J n,.aa [],J 0]]:LV)=[.ad 0 0,.aj (bP w.2)]∧bT m=bT w.1∧w.1.aX.length<65536)∧Q (.aO []) (jU (w.1.ah w.2))):=by kernel_rfl
theorem ath(m:Em)(a k n:Int)(s:LN)(cs:LV)(len:Nat)(L:LT)(Q:QT):
 b_ Z Pu (fun _=>[]) L Q 1000 61 [.ad 0 0,J a,.aj [J k,J n,.aa s,.aB cs len 4]] (bT m)=(
 ∃w:Em×ba,(([.ad 0 0,.aj [J 4,J 0,J a,J 0,.aa s,J 0]]:LV)=[.ad 0 0,.aj (bP w.2)]∧bT m=bT w.1∧w.1.aX.length<65536)∧Q (.aO []) (jU (w.1.ah w.2))):=by kernel_rfl
theorem apz(m:Em)(a k n:Int)(s:LN)(cs:LV)(len:Nat)(L:LT)(Q:QT):
 b_ Z Pv (fun _=>[]) L Q 1000 103 [.ad 0 0,J a,.aj [J k,J n,.aa s,.aB cs len 4]] (bT m)=(
 ∃aP:Int,∃b:Bool,gf Z 2 3 (bK J 0 m.hJ) (J n)=some (J aP,b)∧ai (decide (aP>1)) (∃w:Em×Int×Int×Int×Int,(([.ad 0 0,J n,J 11,J 12,J a]:LV)=[.ad 0 0,J w.2.1,J w.2.2.1,J w.2.2.2.1,J w.2.2.2.2]∧bT m=bT w.1∧w.1.aX.length<65536)∧Q (.aO []) (jU (w.1.fY w.2.1 w.2.2.1 w.2.2.2.1 w.2.2.2.2))) (∃w:Em×ba,(([.ad 0 0,.aj [J 11,J a,J a,J 0,.aa [],J 0]]:LV)=[.ad 0 0,.aj (bP w.2)]∧bT m=bT w.1∧w.1.aX.length<65536)∧Q (.aO []) (jU (w.1.ah w.2)))):=by kernel_rfl
theorem apA(m:Em)(a k n:Int)(s:LN)(cs:LV)(len:Nat)(L:LT)(Q:QT):
 b_ Z Pw (fun _=>[]) L Q 1000 104 [.ad 0 0,J a,.aj [J k,J n,.aa s,.aB cs len 4]] (bT m)=(
 ∃w:Em×ba,(([.ad 0 0,.aj [J 13,J 0,J a,J n,.aa [],J 0]]:LV)=[.ad 0 0,.aj (bP w.2)]∧bT m=bT w.1∧w.1.aX.length<65536)∧Q (.aO []) (jU (w.1.ah w.2))):=by kernel_rfl
theorem apB(m:Em)(a k n:Int)(s:LN)(cs:LV)(len:Nat)(L:LT)(Q:QT):
 b_ Z Px (fun _=>[]) L Q 1000 105 [.ad 0 0,J a,.aj [J k,J n,.aa s,.aB cs len 4]] (bT m)=(
 ∃w:Em×ba,(([.ad 0 0,.aj [J 14,J 0,J a,J 0,.aa s,J 0]]:LV)=[.ad 0 0,.aj (bP w.2)]∧bT m=bT w.1∧w.1.aX.length<65536)∧Q (.aO []) (jU (w.1.ah w.2))):=by kernel_rfl
theorem atl(m:Em)(op v:Int)(L:LT)(Q:QT):
 b_ Z Py (fun _=>[]) L Q 1000 64 [.ad 0 0,J op,J v] (bT m)=(
 ∃b:Bool,∃iE:Bool,gf Z 2 4 (bK vB 0 m.dh) (J v)=some (.aA b,iE)∧ai (!b) (∃w:Em×Int,(([.ad 0 0,J v]:LV)=[.ad 0 0,J w.2]∧bT m=bT w.1)∧(∃ab:Em×ba,(([.ad 0 0,.aj [J op,J (w.1.iU w.2),J 0,J 0,.aa [],J 0]]:LV)=[.ad 0 0,.aj (bP ab.2)]∧bT (w.1.ic w.2)=bT ab.1∧ab.1.aX.length<65536)∧(∃bQ:List (AV×AV×Nat),∃c':Nat,lN Z 2 (bK vB 0 (ab.1.ah ab.2).dh) (ab.1.ah ab.2).dh.length (J v) (.aA true)=some (bQ,c')∧Q (.aO []) (aq [(0,.ay [.ae 6 (ab.1.ah ab.2).aX.length 6,.aa (ab.1.ah ab.2).f.aH.cL,J (ab.1.ah ab.2).f.aH.ar,J (ab.1.ah ab.2).f.aH.aM,.aB (bw (ab.1.ah ab.2).f.aQ) (ab.1.ah ab.2).f.aQ.length 4,.aB (ck (ab.1.ah ab.2).f.au) (ab.1.ah ab.2).f.au.length 6,.aS 2,.aS 3,.aS 4,.aS 5,J (ab.1.ah ab.2).cG,.aA (ab.1.ah ab.2).c_] 71),(1,.bJ []),(2,.bM (bK J 0 (ab.1.ah ab.2).hJ) (ab.1.ah ab.2).hJ.length true),(3,.bM (bK J 0 (ab.1.ah ab.2).aC) (ab.1.ah ab.2).aC.length true),(4,.bM (bK J 0 (ab.1.ah ab.2).bo) (ab.1.ah ab.2).bo.length true),(5,.bM bQ c' true),(6,.aL (bZ (ab.1.ah ab.2).aX) 50)] 7)))) (∃w:Em,(([.ad 0 0]:LV)=[.ad 0 0]∧bT m=bT w)∧(∃ab:Em×ba,(([.ad 0 0,.aj [J op,J w.bX.cG,J 0,J 0,.aa [],J 0]]:LV)=[.ad 0 0,.aj (bP ab.2)]∧bT w.bX=bT ab.1∧ab.1.aX.length<65536)∧(∃aJ:Em×Int,(([.ad 0 0,J v]:LV)=[.ad 0 0,J aJ.2]∧bT (ab.1.ah ab.2)=bT aJ.1)∧(∃cU:Em×ba,(([.ad 0 0,.aj [J 2,J (aJ.1.iU aJ.2),J w.bX.cG,J 0,.aa [],J 0]]:LV)=[.ad 0 0,.aj (bP cU.2)]∧bT (aJ.1.ic aJ.2)=bT cU.1∧cU.1.aX.length<65536)∧Q (.aO []) (jU (cU.1.ah cU.2))))))):=by kernel_rfl
theorem af2(m:Em)(v:Int)(L:LT)(Q:QT):
 b_ Z Pz (fun _=>[]) L Q 1000 65 [.ad 0 0,J v] (bT m)=(
 ∃b:Bool,∃iE:Bool,gf Z 2 4 (bK vB 0 m.dh) (J v)=some (.aA b,iE)∧ai b (∃w:Em×Int,(([.ad 0 0,J v]:LV)=[.ad 0 0,J w.2]∧bT m=bT w.1)∧(∃ab:Em×ba,(([.ad 0 0,.aj [J 24,J (w.1.iU w.2),J 0,J 0,.aa [],J 0]]:LV)=[.ad 0 0,.aj (bP ab.2)]∧bT (w.1.ic w.2)=bT ab.1∧ab.1.aX.length<65536)∧Q (.aO []) (jU (ab.1.ah ab.2)))) (Q (.aO []) (bT m))):=by kernel_rfl
theorem Na(m:Em)(v:Int):∃n:Int,∃b:Bool,gf Z 2 3 (bK J 0 m.hJ) (J v)=some (J n,b)∧m.pI v=n:=by
 rw[qj _ lz];unfold Em.pI;cases lk v m.hJ with
 |none=>exact⟨0,false,by rw[Dd];rfl,rfl⟩
 |some b=>exact⟨b,true,rfl,rfl⟩
theorem adA(m:Em)(v:Int):∃b:Bool,∃iE:Bool,gf Z 2 4 (bK vB 0 m.dh) (J v)=some (.aA b,iE)∧m.lI v=b:=by
 rw[qj _ lz];unfold Em.lI;cases lk v m.dh with
 |none=>exact⟨false,false,by rw[Pa];rfl,rfl⟩
 |some b=>exact⟨b,true,rfl,rfl⟩
theorem aa1{f:FuncId}{args:LV}{m0 m:Em}(h:eC Z f args (bT m0) (.aO []) (bT m)):eC Z f args (bT m0) (.aO []) (jU m):=
 Ec h (aaM m) (by simp[eK,iV]) (eh _)
theorem axa{f:FuncId}{args:LV}{H0 H H':AH}{v v':AV}(h:eC Z f args H0 v H)(hv:v=v')(e:H=H'):eC Z f args H0 v' H':=by rw[←e,←hv];exact h
theorem Yh:bn Z Pt:=by
 refine dc Ps ?_;rintro⟨m,a,⟨k,n,s,l⟩⟩ args H ⟨rfl,rfl,hl⟩;simp only[k7,aT,dy];obtain⟨c,b,h1,h2⟩:=Na m n;by_cases hc:c>1
 ·refine eS Ps 1000 (fun _=>[]) 19 (by kernel_rfl) ?_;rw[afZ];refine⟨c,b,h1,aY.2 ⟨fun h=>⟨(m,n,1,2,a),⟨rfl,rfl,hl⟩,rfl,?_⟩,fun h=>absurd hc (by simpa using h)⟩⟩;have:m.vn (a,.mk k n s l)=m.fY n 1 2 a:=aN (by rw[show(aK.mk k n s l).n=n from rfl,h2];exact hc);rw[this]
 ·have:m.vn (a,.mk k n s l)=m:=az (by rw[show(aK.mk k n s l).n=n from rfl,h2];exact hc);rw[this];refine aa1 ?_;refine eS Ps 1000 (fun _=>[]) 19 (by kernel_rfl) ?_;rw[afZ];exact⟨c,b,h1,aY.2 ⟨fun h=>absurd (by simpa using h) hc,fun h=>⟨rfl,rfl⟩⟩⟩
theorem Yi:bn Z Pu:=by refine dc Yh ?_;rintro⟨m,a,⟨k,n,s,l⟩⟩ args H ⟨rfl,rfl,hl⟩;refine eS Yh 1000 (fun _=>[]) 14 (by kernel_rfl) ?_;simp only[k7,aT,dy];rw[atg];exact⟨(m,⟨3,0,a,n,[],0⟩),⟨rfl,rfl,hl⟩,rfl,rfl⟩
theorem Yj:bn Z Pv:=by refine dc Yi ?_;rintro⟨m,a,⟨k,n,s,l⟩⟩ args H ⟨rfl,rfl,hl⟩;refine eS Yi 1000 (fun _=>[]) 14 (by kernel_rfl) ?_;simp only[k7,aT,dy];rw[ath];exact⟨(m,⟨4,0,a,0,s,0⟩),⟨rfl,rfl,hl⟩,rfl,rfl⟩
theorem Yk:bn Z Pw:=by
 refine dc Yj ?_;rintro⟨m,a,⟨k,n,s,l⟩⟩ args H ⟨rfl,rfl,hl⟩;simp only[k7,aT,dy];obtain⟨c,b,h1,h2⟩:=Na m n;refine eS Yj 1000 (fun _=>[]) 26 (by kernel_rfl) ?_;rw[apz];refine⟨c,b,h1,aY.2 ⟨fun h=>⟨(m,n,11,12,a),⟨rfl,rfl,hl⟩,rfl,?_⟩,fun h=>⟨(m,⟨11,a,a,0,[],0⟩),⟨rfl,rfl,hl⟩,rfl,?_⟩⟩⟩
 ·have hc:c>1:=by simpa using h
  have:m.tz (a,.mk k n s l)=m.fY n 11 12 a:=aN (by rw[show(aK.mk k n s l).n=n from rfl,h2];exact hc);rw[this]
 ·have hc:¬c>1:=by simpa using h
  have:m.tz (a,.mk k n s l)=m.ah ⟨11,a,a,0,[],0⟩:=az (by rw[show(aK.mk k n s l).n=n from rfl,h2];exact hc);rw[this]
theorem Yl:bn Z Px:=by refine dc Yk ?_;rintro⟨m,a,⟨k,n,s,l⟩⟩ args H ⟨rfl,rfl,hl⟩;refine eS Yk 1000 (fun _=>[]) 14 (by kernel_rfl) ?_;simp only[k7,aT,dy];rw[apA];exact⟨(m,⟨13,0,a,n,[],0⟩),⟨rfl,rfl,hl⟩,rfl,rfl⟩
theorem Ym:bn Z Py:=by refine dc Yl ?_;rintro⟨m,a,⟨k,n,s,l⟩⟩ args H ⟨rfl,rfl,hl⟩;refine eS Yl 1000 (fun _=>[]) 14 (by kernel_rfl) ?_;simp only[k7,aT,dy];rw[apB];exact⟨(m,⟨14,0,a,0,s,0⟩),⟨rfl,rfl,hl⟩,rfl,rfl⟩
theorem PC:bn Z Pz:=by
 refine dc Ym ?_;rintro⟨m,op,v⟩ args H ⟨rfl,rfl,hl⟩;have hl:m.aX.length<65535:=hl;refine eS Ym 1000 (fun _=>[]) 46 (by kernel_rfl) ?_;simp only[k7,aV];rw[atl];obtain⟨b,b1,h1,h2⟩:=adA m v;refine⟨b,b1,h1,aY.2 ⟨fun h=>?_,fun h=>?_⟩⟩
 ·have h:b=false:=by simpa using h
  have:m.dR (op,v)=((m.ic v).ah ⟨op,m.iU v,0,0,[],0⟩).ur v:=by simp only[Em.dR,h2,h,cond_false]
  rw[this];exact⟨(m,v),⟨rfl,rfl⟩,(m.ic v,⟨op,m.iU v,0,0,[],0⟩),⟨rfl,rfl,by show m.aX.length<65536;omega⟩,_,_,pj vB lz,rfl,rfl⟩
 ·have h:b=true:=by simpa using h
  have:m.dR (op,v)=((m.bX.ah ⟨op,m.bX.cG,0,0,[],0⟩).ic v).ah ⟨2,(m.bX.ah ⟨op,m.bX.cG,0,0,[],0⟩).iU v,m.bX.cG,0,[],0⟩:=by simp only[Em.dR,h2,h,cond_true]
  rw[this];have bH:=zy m.aX ⟨op,m.bX.cG,0,0,[],0⟩;exact⟨m,⟨rfl,rfl⟩,(m.bX,⟨op,m.bX.cG,0,0,[],0⟩),⟨rfl,rfl,by show m.aX.length<65536;omega⟩,(m.bX.ah ⟨op,m.bX.cG,0,0,[],0⟩,v),⟨rfl,rfl⟩,
   ((m.bX.ah ⟨op,m.bX.cG,0,0,[],0⟩).ic v,⟨2,(m.bX.ah ⟨op,m.bX.cG,0,0,[],0⟩).iU v,m.bX.cG,0,[],0⟩),⟨rfl,rfl,by show(jt m.aX _).length<65536;omega⟩,rfl,rfl⟩
theorem Yn:bn Z PD:=by
 refine dc PC ?_;rintro⟨m,v⟩ args H ⟨rfl,rfl,hl⟩;have hl:m.aX.length<65536:=hl;simp only[k7,a1];obtain⟨b,b1,h1,h2⟩:=adA m v;cases b with
 |true=>
  refine eS PC 1000 (fun _=>[]) 18 (by kernel_rfl) ?_;rw[af2];have:m.nN v=(m.ic v).ah ⟨24,m.iU v,0,0,[],0⟩:=by simp only[Em.nN,h2,cond_true]
  rw[this];exact⟨true,b1,h1,aY.2 ⟨fun _=>⟨(m,v),⟨rfl,rfl⟩,(m.ic v,⟨24,m.iU v,0,0,[],0⟩),⟨rfl,rfl,hl⟩,rfl,rfl⟩,fun h=>(by cases h)⟩⟩
 |false=>
  have:m.nN v=m:=by simp only[Em.nN,h2,cond_false]
  rw[this];refine aa1 ?_;refine eS PC 1000 (fun _=>[]) 18 (by kernel_rfl) ?_;rw[af2];exact⟨false,b1,h1,aY.2 ⟨fun h=>(by cases h),fun h=>⟨rfl,rfl⟩⟩⟩
def fu(m:Em)(g c p t k:Nat):bc:=.ay [.ae g m.aX.length 6,.aa m.f.aH.cL,J m.f.aH.ar,J m.f.aH.aM,.aB (bw m.f.aQ) m.f.aQ.length 4,.aB (ck m.f.au) m.f.au.length 6,.aS c,.aS p,.aS t,.aS k,J m.cG,.aA m.c_] 71
def fJ(m:Em):bc:=.aL (bZ m.aX) 50
def eV(m:Em):bc:=.bM (bK J 0 m.hJ) m.hJ.length true
def fg(m:Em):bc:=.bM (bK J 0 m.aC) m.aC.length true
def e9(m:Em):bc:=.bM (bK J 0 m.bo) m.bo.length true
def eZ(m:Em):bc:=.bM (bK vB 0 m.dh) m.dh.length true
theorem DW{m m':Em}{g c p t k:Nat}(h0:fu m g c p t k=fu m' g c p t k)(h1:fJ m=fJ m')(h2:eV m=eV m')(h3:fg m=fg m')(h4:e9 m=e9 m')(h5:eZ m=eZ m'):m=m':=by obtain⟨code,⟨⟨a,b,c⟩,l,g⟩,count,aC,bo,dh,next,c_⟩:=m;obtain⟨KW,⟨⟨a',b',c'⟩,l',g'⟩,RL,Wn,XB,U6,vU,adu⟩:=m';simp only[fu,fJ,eV,fg,e9,eZ,bc.ay.injEq,bc.aL.injEq,bc.bM.injEq,List.cons.injEq,AV.cM.injEq,AV.aa.injEq,AV.aB.injEq,AV.aA.injEq,AV.ae.injEq,true_and,and_true]at h0 h1 h2 h3 h4 h5;obtain⟨_,rfl,rfl,rfl,⟨k1,k2⟩,⟨k3,k4⟩,rfl,rfl⟩:=h0;rw[D_ h1,wP k2 k1,Hi k4 k3,rR xJ h2.1,rR xJ h3.1,rR xJ h4.1,rR agQ h5.1]
def aW(bs:LI):LV:=bs.map (AV.cM .i64)
def HA(m:Em)(bs:LI):AH:=aq [(0,.ay [.ad 2 0] 64),(1,.ay [.bB 3 0 bs.length bs.length 1 true] 57),(2,fu m 4 5 6 7 8),(3,.c9 (aW bs) 3),(4,fJ m),(5,eV m),(6,fg m),(7,e9 m),(8,eZ m)] 9
def aec(m:Em)(bs:LI):AH:=aq [(0,.ay [.ad 2 0] 64),(1,.ay [.bB 3 0 bs.length bs.length 1 true] 57),(2,fu m 9 5 6 7 8),(3,.c9 (aW bs) 3),(4,.bJ []),(5,eV m),(6,fg m),(7,e9 m),(8,eZ m),(9,fJ m)] 10
def BC(m:Em)(bs:LI):AH:=aq [(0,fu m 3 4 5 6 7),(1,.ay [.ad 0 0] 64),(2,.ay [.bB 8 0 bs.length bs.length 1 true] 57),(3,fJ m),(4,eV m),(5,fg m),(6,e9 m),(7,eZ m),(8,.c9 (aW bs) 3)] 9
def uz(m:Em)(bs:LI):AH:=aq [(0,fu m 9 4 5 6 7),(1,.ay [.ad 0 0] 64),(2,.ay [.bB 8 0 bs.length bs.length 1 true] 57),(3,.bJ []),(4,eV m),(5,fg m),(6,e9 m),(7,eZ m),(8,.c9 (aW bs) 3),(9,fJ m)] 10
theorem anu(m:Em)(bs:LI):Mv (BC m bs) (uz m bs) 3:=oG (l':=[(0,fu m 9 4 5 6 7),(1,.ay [.ad 0 0] 64),(2,.ay [.bB 8 0 bs.length bs.length 1 true] 57),(3,.bJ []),(4,eV m),(5,fg m),(6,e9 m),(7,eZ m),(8,.c9 (aW bs) 3)]) rfl rfl rfl
def Em.ir(m:Em)(t:aK)(b:Int):Em:=
 if t.cY=0 then(if m.pI t.n>1 then m.fY t.n 6 7 0 else m.ah ⟨10,0,0,1,[],0⟩)
 else if t.cY=1 then m.ah ⟨8,0,0,t.n,[],0⟩
 else if t.cY=2 then m.ah ⟨9,0,0,0,t.fZ,0⟩
 else m.ah ⟨7,b,0,0,[],0⟩
def Em.oU(m:Em)(l:List (aK×Int)):Em:=l.foldl (fun m p=>m.ir p.1 p.2) m
def Zx:dP (Em×LI×Nat)where
 bN w A H:=A=[J (w.2.2:Int),.ad 0 0,.ad 1 0]∧H=HA w.1 w.2.1∧w.1.aX.length<65536∧w.2.2<w.2.1.length
 v w:=.aO []
 aU w:=aec (w.1.ah ⟨7,w.2.1.getD w.2.2 0,0,0,[],0⟩) w.2.1
def Q4:dP (Em×LI×aK)where
 bN w A H:=A=[.ad 0 0,.aj (dy w.2.2),.b9 (.func 122) [] [.ad 1 0,.ad 2 0]]∧H=BC w.1 w.2.1∧w.1.aX.length+w.2.2.cK.length<65536∧w.2.1.length=w.2.2.cK.length∧eN w.2.2
 v w:=.aO []
 aU w:=uz (w.1.oU (w.2.2.cK.zip w.2.1)) w.2.1
theorem CJ{a b:LI}(h:aW a=aW b):a=b:=by unfold aW at h;exact(List.map_inj_right (fun x y e=>by cases e;rfl)).1 h
theorem anV:Zx.dT:=by
 rintro⟨m,bs,i⟩ ⟨m',Bf,i'⟩ A H ⟨h1,h2,_⟩ ⟨h3,h4,_⟩;simp only at h1 h2 h3 h4;rw[h1]at h3;rw[h2]at h4;have q:=fun i=>congrArg (fun H=>AH.bD H i) h4
 simp only[HA,eA]at q;have e:=DW (m:=m) (m':=m') (dk (q 2)) (dk (q 4)) (dk (q 5)) (dk (q 6)) (dk (q 7)) (dk (q 8));have e2:aW bs=aW Bf:=(bc.c9.inj (dk (q 3))).1;have e3:=CJ e2;simp only[List.cons.injEq,AV.cM.injEq,true_and,and_true]at h3;have e4:i=i':=by omega
 rw[e,e3,e4]
theorem anY:Q4.dT:=by
 rintro⟨m,bs,t⟩ ⟨m',Bf,t'⟩ A H ⟨h1,h2,_⟩ ⟨h3,h4,_⟩;simp only at h1 h2 h3 h4;rw[h1]at h3;rw[h2]at h4;have q:=fun i=>congrArg (fun H=>AH.bD H i) h4
 simp only[BC,eA]at q;have e:=DW (m:=m) (m':=m') (dk (q 0)) (dk (q 3)) (dk (q 4)) (dk (q 5)) (dk (q 6)) (dk (q 7));have e2:aW bs=aW Bf:=(bc.c9.inj (dk (q 8))).1;have e3:=CJ e2;simp only[List.cons.injEq,AV.aj.injEq,true_and,and_true]at h3;rw[e,e3,tY h3]
def JU:Ev.bC:=cB 122 (cO Zx anV cV) PD
def PI:Ev.bC:=cB 99 (cO Q4 anY cV) JU
theorem aqL(m:Em)(i:Int)(bs:LI)(L:LT)(Q:QT):
 b_ Z PD (fun _=>[]) L Q 1000 122 [J i,.ad 0 0,.ad 1 0] (HA m bs)=(
 ∃aI:Nat,i=(aI:Int)∧aI<bs.length∧(∃n:Int,bA Z 3 (aW bs) (0+aI*1)=some (J n:AV)∧(∃w:Em×ba,(([.ad 0 0,.aj [J 7,J n,J 0,J 0,.aa [],J 0]]:LV)=[.ad 0 0,.aj (bP w.2)]∧bT m=bT w.1∧w.1.aX.length<65536)∧Q (.aO []) (aec (w.1.ah w.2) bs)))):=by kernel_rfl
abbrev xH x0 x1 x2:=bk [(0,.ad 0 0),(2,.b9 (.func 122) [] [.ad 1 0,.ad 2 0]),(9,.aB x0 x1 4),(10,J (Int.ofNat x1)),(11,J x2)]
theorem auA(m:Em)(k n:Int)(s:LN)(cs:LV)(len:Nat)(bs:LI)(L:LT)(Q:QT):
 b_ Z JU (fun _=>[0,2,9,10,11]) L Q 1000 99 [.ad 0 0,.aj [J k,J n,.aa s,.aB cs len 4],.b9 (.func 122) [] [.ad 1 0,.ad 2 0]] (BC m bs)=(
 L (xH cs len 0) (BC m bs) (ao Z 99 0)):=by kernel_rfl
theorem auB(m:Em)(i:Int)(cs:LV)(len:Nat)(bs:LI)(L:LT)(Q:QT):
 cT Z JU (fun _=>[0,2,9,10,11]) L Q 1000 99 9 (xH cs len i) (ao Z 99 0) (uz m bs)=(
 ai (decide (i<Int.ofNat len)) (∃aI:Nat,i=(aI:Int)∧aI<len∧(∃n:Int,∃aP:Int,∃s:LN,∃cN:LV,∃cz:Nat,((cs.drop (aI*4)).take 4:LV)=[J n,J aP,.aa s,.aB cN cz 4]∧ai (n==0) (∃bp:Int,∃b:Bool,gf Z 2 3 (bK J 0 m.hJ) (J aP)=some (J bp,b)∧ai (decide (bp>1)) (∃w:Em×Int×Int×Int×Int,(([.ad 0 0,J aP,J 6,J 7,J 0]:LV)=[.ad 0 0,J w.2.1,J w.2.2.1,J w.2.2.2.1,J w.2.2.2.2]∧bT m=bT w.1∧w.1.aX.length<65536)∧L (xH cs len (wI (i+1))) (uz (w.1.fY w.2.1 w.2.2.1 w.2.2.2.1 w.2.2.2.2) bs) (ao Z 99 0)) (∃w:Em×ba,(([.ad 0 0,.aj [J 10,J 0,J 0,J 1,.aa [],J 0]]:LV)=[.ad 0 0,.aj (bP w.2)]∧bT m=bT w.1∧w.1.aX.length<65536)∧L (xH cs len (wI (i+1))) (uz (w.1.ah w.2) bs) (ao Z 99 0))) (ai (n==1) (∃w:Em×ba,(([.ad 0 0,.aj [J 8,J 0,J 0,J aP,.aa [],J 0]]:LV)=[.ad 0 0,.aj (bP w.2)]∧bT m=bT w.1∧w.1.aX.length<65536)∧L (xH cs len (wI (i+1))) (uz (w.1.ah w.2) bs) (ao Z 99 0)) (ai (n==2) (∃w:Em×ba,(([.ad 0 0,.aj [J 9,J 0,J 0,J 0,.aa s,J 0]]:LV)=[.ad 0 0,.aj (bP w.2)]∧bT m=bT w.1∧w.1.aX.length<65536)∧L (xH cs len (wI (i+1))) (uz (w.1.ah w.2) bs) (ao Z 99 0)) (∃w:Em×LI×Nat,(([J i,.ad 0 0,.ad 1 0]:LV)=[J ((w.2.2:Nat):Int),.ad 0 0,.ad 1 0]∧HA m bs=HA w.1 w.2.1∧w.1.aX.length<65536∧w.2.2<w.2.1.length)∧L (xH cs len (wI (i+1))) (aq [(0,.ay [.ae 9 (w.1.ah {op:=7,r:=List.getD w.2.1 w.2.2 0,a:=0,n:=0,cR:=[],ar:=0}).aX.length 6,.aa (w.1.ah {op:=7,r:=List.getD w.2.1 w.2.2 0,a:=0,n:=0,cR:=[],ar:=0}).f.aH.cL,J (w.1.ah (ba.mk 7 (List.getD w.2.1 w.2.2 0) 0 0 [] 0)).f.aH.ar,J (w.1.ah (ba.mk 7 (List.getD w.2.1 w.2.2 0) 0 0 [] 0)).f.aH.aM,.aB (bw (w.1.ah {op:=7,r:=List.getD w.2.1 w.2.2 0,a:=0,n:=0,cR:=[],ar:=0}).f.aQ) (w.1.ah {op:=7,r:=List.getD w.2.1 w.2.2 0,a:=0,n:=0,cR:=[],ar:=0}).f.aQ.length 4,.aB (ck (w.1.ah {op:=7,r:=List.getD w.2.1 w.2.2 0,a:=0,n:=0,cR:=[],ar:=0}).f.au) (w.1.ah {op:=7,r:=List.getD w.2.1 w.2.2 0,a:=0,n:=0,cR:=[],ar:=0}).f.au.length 6,.aS 4,.aS 5,.aS 6,.aS 7,J (w.1.ah (ba.mk 7 (List.getD w.2.1 w.2.2 0) 0 0 [] 0)).cG,.aA (w.1.ah (ba.mk 7 (List.getD w.2.1 w.2.2 0) 0 0 [] 0)).c_] 71),(1,.ay [.ad 0 0] 64),(2,.ay [.bB 8 0 w.2.1.length w.2.1.length 1 true] 57),(3,.bJ []),(4,eV (w.1.ah {op:=7,r:=List.getD w.2.1 w.2.2 0,a:=0,n:=0,cR:=[],ar:=0})),(5,fg (w.1.ah {op:=7,r:=List.getD w.2.1 w.2.2 0,a:=0,n:=0,cR:=[],ar:=0})),(6,e9 (w.1.ah {op:=7,r:=List.getD w.2.1 w.2.2 0,a:=0,n:=0,cR:=[],ar:=0})),(7,eZ (w.1.ah {op:=7,r:=List.getD w.2.1 w.2.2 0,a:=0,n:=0,cR:=[],ar:=0})),(8,.c9 (aW w.2.1) 3),(9,fJ (w.1.ah {op:=7,r:=List.getD w.2.1 w.2.2 0,a:=0,n:=0,cR:=[],ar:=0}))] 10) (ao Z 99 0)))))) (Q (.aO []) (uz m bs))):=by kernel_rfl
theorem PF:bn Z JU:=by refine dc Yn ?_;rintro⟨m,bs,i⟩ args H ⟨rfl,rfl,hl,hi⟩;have hi:i<bs.length:=hi;refine eS Yn 1000 (fun _=>[]) 13 (by kernel_rfl) ?_;rw[aqL];refine⟨i,rfl,hi,bs.getD i 0,?_,(m,⟨7,bs.getD i 0,0,0,[],0⟩),⟨rfl,rfl,hl⟩,rfl,rfl⟩;rw[v5,aW,fD,Nat.mul_one,List.getElem?_map,jN hi];simp[List.getD,jN hi]
theorem ly(m:Em)(i:ba):(m.ah i).aX.length<=m.aX.length+1:=zy _ _
theorem O1(m:Em)(v a b c:Int):(m.fY v a b c).aX.length<=m.aX.length+1:=zy _ _
theorem ZH(m:Em)(t:aK)(b:Int):(m.ir t b).aX.length<=m.aX.length+1:=by
 unfold Em.ir;split
 ·split
  ·exact O1 _ _ _ _ _
  ·exact ly _ _
 ·split
  ·exact ly _ _
  ·split
   ·exact ly _ _
   ·exact ly _ _
section
variable{m:Em}{k n b:Int}{s:LN}{ts:bG}
theorem ahZ(hk:k=0)(hc:m.pI n>1):m.ir (.mk k n s ts) b=m.fY n 6 7 0:=by simp[Em.ir,aK.cY,aK.n,hk,hc]
theorem ah0(hk:k=0)(hc:¬m.pI n>1):m.ir (.mk k n s ts) b=m.ah ⟨10,0,0,1,[],0⟩:=by simp[Em.ir,aK.cY,aK.n,hk,hc]
theorem ahX(hk:k=1):m.ir (.mk k n s ts) b=m.ah ⟨8,0,0,n,[],0⟩:=by simp[Em.ir,aK.cY,aK.n,hk]
theorem ahV(hk:k=2):m.ir (.mk k n s ts) b=m.ah ⟨9,0,0,0,s,0⟩:=by simp[Em.ir,aK.cY,aK.fZ,hk]
theorem ahY(h0:k≠0)(h1:k≠1)(h2:k≠2):m.ir (.mk k n s ts) b=m.ah ⟨7,b,0,0,[],0⟩:=by simp[Em.ir,aK.cY,h0,h1,h2]
end
theorem auz{l:bG}{bs:LI}{M:Em}(hl:eQ l.length)(ho:iS l)(hb:bs.length=l.length):
 ∀p:Nat×Em,(p.1<=l.length∧p.2.aX.length+(l.length-p.1)<65536∧p.2.oU ((l.zip bs).drop p.1)=M)->
 bF Z 99 59 9 (.aO []) (uz M bs) (xH (bw l) l.length (p.1:Int)) (uz p.2 bs) (ao Z 99 0):=by
 refine cX (fun p=>l.length-p.1) _ _ _ _ ?_;rintro⟨i,m⟩ ⟨hi,hc,hf⟩ ih;simp only at hi hc hf ih⊢;refine hD PF 1000 (fun _=>[0,2,9,10,11]) (by kernel_rfl) ?_;rw[auB];refine aY.2 ⟨fun an=>?_,fun a8=>?_⟩
 ·have an:i<l.length:=by simpa using an
  obtain⟨k,n,s,ts,he,bU,bq⟩:=oj an ho;have hz:i<(l.zip bs).length:=by simp;omega
  have hib:i<bs.length:=by omega
  rw[dv hz,List.getElem_zip,he]at hf;simp only[Em.oU,ik]at hf;have H5:bs.getD i 0=bs[i]:=by simp[List.getD,jN hib]
  refine⟨i,rfl,an,k,n,s,_,_,bU,?_⟩;rw[iA hl an];have bH:=ZH m (.mk k n s ts) bs[i];have next:bF Z 99 59 9 (.aO []) (uz M bs) (xH (bw l) l.length ((i+1:Nat):Int)) (uz (m.ir (.mk k n s ts) bs[i]) bs) (ao Z 99 0):=
   ih (i+1,m.ir (.mk k n s ts) bs[i]) ⟨by simp;omega,by simp only;omega,hf⟩ (by simp;omega)
  obtain⟨c,b,h1,h2⟩:=Na m n;have hr:m.aX.length<65536:=by omega
  refine aY.2 ⟨fun hk=>?_,fun s9=>?_⟩
  ·have hk:k=0:=by simpa using hk
   refine⟨c,b,h1,aY.2 ⟨fun hc=>?_,fun hc=>?_⟩⟩
   ·have hc:c>1:=by simpa using hc
    rw[ahZ hk (by rw[h2];exact hc)]at next
    exact⟨(m,n,6,7,0),⟨rfl,rfl,hr⟩,next⟩
   ·have hc:¬c>1:=by simpa using hc
    rw[ah0 hk (by rw[h2];exact hc)]at next
    exact⟨(m,⟨10,0,0,1,[],0⟩),⟨rfl,rfl,hr⟩,next⟩
  ·have s9:k≠0:=by simpa using s9
   refine aY.2 ⟨fun hk=>?_,fun kX=>?_⟩
   ·have hk:k=1:=by simpa using hk
    rw[ahX hk]at next
    exact⟨(m,⟨8,0,0,n,[],0⟩),⟨rfl,rfl,hr⟩,next⟩
   ·have kX:k≠1:=by simpa using kX
    refine aY.2 ⟨fun hk=>?_,fun nZ=>?_⟩
    ·have hk:k=2:=by simpa using hk
     rw[ahV hk]at next
     exact⟨(m,⟨9,0,0,0,s,0⟩),⟨rfl,rfl,hr⟩,next⟩
    ·have nZ:k≠2:=by simpa using nZ
     rw[ahY s9 kX nZ,←H5]at next
     exact⟨(m,bs,i),⟨rfl,rfl,hr,hib⟩,next⟩
 ·have a8:l.length<=i:=by simpa using a8
  rw[dV (by simp;omega)]at hf;subst hf;exact⟨rfl,rfl⟩
theorem Yp:bn Z PI:=by
 refine dc PF ?_;rintro⟨m,bs,⟨k,n,s,l⟩⟩ args H ⟨rfl,rfl,hl,hb,ho⟩;simp only[aK.cK]at hl hb;refine eS PF 1000 (fun _=>[0,2,9,10,11]) 59 (by kernel_rfl) ?_;simp only[Q4,dy,aK.cK];rw[auA];refine qa (g:=3) ?_ (anu m bs) (by kernel_rfl) (t':=xH (bw l) l.length ((0:Nat):Int)) ?_
 ·exact auz ho.2.1 ho.2.2 hb (0,m) ⟨by simp,by simpa using hl,by simp⟩
 ·intro i a' hi;exact⟨a',hi,rk hi (by simp[eK,iV,jW,BC,aq])⟩
mutual
def Em.lR:Em->Int->aK->Em
 |m,r,.mk k n s l=>((m.dq l).1.ah ⟨15,r,0,0,s,l.length⟩).oU (l.zip (m.dq l).2)
def Em.dq:Em->bG->Em×LI
 |m,[]=>(m,[])
 |m,t::l=>if t.cY=3 then(((m.bX.lR m.bX.cG t).dq l).1,m.bX.cG::((m.bX.lR m.bX.cG t).dq l).2)
   else((m.dq l).1,0::(m.dq l).2)
end
def W1(N:Nat)(m:Em)(w:Int×aK):Prop:=m.aX.length+2*cD w.2<65536∧eN w.2∧cD w.2<N
def Gl(N:Nat):Ev.bC:=cB 106 (cO (k7 aT (fun m w=>m.lR w.1 w.2) (W1 N)) (si qI) cV) PI
def afs(m:Em)(w:Int×aK):Prop:=m.aX.length+2*cD w.2<65536∧eN w.2
def JV:Ev.bC:=cB 106 (cO (k7 aT (fun m w=>m.lR w.1 w.2) afs) (si qI) cV) PI
def Hz(m:Em)(k n:Int)(s:LN)(cs:LV)(len:Nat)(c9:LV):AH:=aq [(0,fu m 9 2 3 4 5),(1,.bJ []),(2,eV m),(3,fg m),(4,e9 m),(5,eZ m),(6,.ay [.ad 0 0] 64),(7,.ay [J k,J n,.aa s,.aB cs len 4] 42),(8,.ay [.bB 10 0 len len 1 true] 57),(9,fJ m),(10,.c9 c9 3)] 11
abbrev F2 x0 x1 x2 x3:=bk [(1,J x0),(3,.ad 6 0),(5,.ad 7 0),(6,.ad 8 0),(14,.aB x1 x2 4),(15,J (Int.ofNat x2)),(16,J x3)]
theorem apD(m:Em)(r k n:Int)(s:LN)(cs:LV)(len:Nat)(N:Nat)(L:LT)(Q:QT):
 b_ Z (Gl N) (fun _=>[1,3,5,6,14,15,16]) L Q 1000 106 [.ad 0 0,J r,.aj [J k,J n,.aa s,.aB cs len 4]] (bT m)=(
 ∃i:Nat,Int.ofNat len=(i:Int)∧i<=65536∧L (F2 r cs len 0) (aq [(0,fu m 1 2 3 4 5),(1,fJ m),(2,eV m),(3,fg m),(4,e9 m),(5,eZ m),(6,.ay [.ad 0 0] 64),(7,.ay [J k,J n,.aa s,.aB cs len 4] 42),(8,.ay [.bB 9 0 i i 1 true] 57),(9,.c9 (jq [J 0] i) 3)] 10) (ao Z 106 0)):=by kernel_rfl
theorem apE(m:Em)(r k n i:Int)(s:LN)(cs:LV)(len:Nat)(c9:LV)(N:Nat)(L:LT)(Q:QT):
 cT Z (Gl N) (fun _=>[1,3,5,6,14,15,16]) L Q 1000 106 6 (F2 r cs len i) (ao Z 106 0) (Hz m k n s cs len c9)=(
 ai (decide (i<Int.ofNat len)) (∃aI:Nat,i=(aI:Int)∧aI<len∧(∃aP:Int,∃bp:Int,∃dO:LN,∃cN:LV,∃cz:Nat,((cs.drop (aI*4)).take 4:LV)=[J aP,J bp,.aa dO,.aB cN cz 4]∧ai (aP==3) (∃w:Em,(([.ad 0 0]:LV)=[.ad 0 0]∧bT m=bT w)∧some (.bB 10 0 len len 1 true:AV)=some (.bB 10 0 len len 1 true:AV)∧(∃bz:Nat,i=(bz:Int)∧bz<len∧0+bz*1+1<=c9.length∧(∃cd:Nat,i=(cd:Int)∧cd<len∧(∃bI:Int,bA Z 3 (fA c9 (0+bz*1) [J w.bX.cG]) (0+cd*1)=some (J bI:AV)∧(∃ab:Em×Int×aK,(([.ad 0 0,J bI,.aj [J aP,J bp,.aa dO,.aB cN cz 4]]:LV)=[.ad 0 0,J ab.2.1,.aj (dy ab.2.2)]∧bT w.bX=bT ab.1∧W1 N ab.1 ab.2)∧L (F2 r cs len (wI (i+1))) (Hz (ab.1.lR ab.2.1 ab.2.2) k n s cs len (fA c9 (0+bz*1) [J w.bX.cG])) (ao Z 106 0)))))) (L (F2 r cs len (wI (i+1))) (Hz m k n s cs len c9) (ao Z 106 0)))) (∃w:Em×ba,(([.ad 0 0,.aj [J 15,J r,J 0,J 0,.aa s,J (Int.ofNat len)]]:LV)=[.ad 0 0,.aj (bP w.2)]∧bT m=bT w.1∧w.1.aX.length<65536)∧(∃ab:Em×LI×aK,(([.ad 0 0,.aj [J k,J n,.aa s,.aB cs len 4],.b9 (.func 122) [] [.ad 1 0,.ad 2 0]]:LV)=[.ad 0 0,.aj (dy ab.2.2),.b9 (.func 122) [] [.ad 1 0,.ad 2 0]]∧aq [(0,fu (w.1.ah w.2) 3 4 5 6 7),(1,.ay [.ad 0 0] 64),(2,.ay [.bB 8 0 len len 1 true] 57),(3,fJ (w.1.ah w.2)),(4,eV (w.1.ah w.2)),(5,fg (w.1.ah w.2)),(6,e9 (w.1.ah w.2)),(7,eZ (w.1.ah w.2)),(8,.c9 c9 3)] 9=BC ab.1 ab.2.1∧ab.1.aX.length+ab.2.2.cK.length<65536∧ab.2.1.length=ab.2.2.cK.length∧eN ab.2.2)∧Q (.aO []) (jU (ab.1.oU (List.zip ab.2.2.cK ab.2.1)))))):=by kernel_rfl
theorem ZN:∀(l:List (aK×Int)) (m:Em),(m.oU l).aX.length<=m.aX.length+l.length
 |[],m=>by simp[Em.oU]
 |(t,b)::l,m=>by have h1:=ZH m t b;have h2:=ZN l (m.ir t b);simp only[Em.oU,ik,bR]at h2⊢;omega
theorem G0(m:Em):m.bX.aX=m.aX:=rfl
mutual
theorem Ry:∀(m:Em) (r:Int) (t:aK),(m.lR r t).aX.length+1<=m.aX.length+2*cD t
 |m,r,.mk k n s l=>by
  have h1:=Rx m l;have h2:=ly (m.dq l).1 ⟨15,r,0,0,s,l.length⟩;have h3:=ZN (l.zip (m.dq l).2) ((m.dq l).1.ah ⟨15,r,0,0,s,l.length⟩);have h4:(l.zip (m.dq l).2).length<=l.length:=by simp;omega
  simp only[Em.lR,cD];omega
theorem Rx:∀(m:Em) (l:bG),(m.dq l).1.aX.length+l.length<=m.aX.length+2*bh l
 |m,[]=>by simp[Em.dq,bh]
 |m,t::l=>by
  have hp:=kJ t;simp only[Em.dq,bh,bR];split
  ·have h1:=Ry m.bX m.bX.cG t;have h2:=Rx (m.bX.lR m.bX.cG t) l;rw[G0]at h1;simp only;omega
  ·have h2:=Rx m l;simp only;omega
end
theorem Z9:∀(m:Em) (l:bG),(m.dq l).2.length=l.length
 |m,[]=>rfl
 |m,t::l=>by
  simp only[Em.dq];split
  ·simp[Z9 _ l]
  ·simp[Z9 m l]
theorem afn{len i:Nat}(h:i<len):List.replicate (len-i) (0:Int)=0::List.replicate (len-(i+1)) 0:=by
 have:len-i=(len-(i+1))+1:=by omega
 rw[this,List.replicate_succ]
theorem N5{bN:LI}{len:Nat}(x:Int)(h:bN.length<len):
 fA (aW (bN++List.replicate (len-bN.length) 0)) (0+bN.length*1) [J x]=aW ((bN++[x])++List.replicate (len-(bN.length+1)) 0):=by
 rw[afn h];have e:aW (bN++0::List.replicate (len-(bN.length+1)) 0)=(aW bN++[J 0])++aW (List.replicate (len-(bN.length+1)) 0):=by simp[aW]
 have hl:(aW bN).length=bN.length:=by simp[aW]
 unfold fA;rw[e,List.drop_left' (by simp[hl]),iy,List.take_left' (by simp[hl])];simp[aW]
theorem afx{bN:LI}{len:Nat}(h:bN.length<len):bN++List.replicate (len-bN.length) 0=(bN++[0])++List.replicate (len-(bN.length+1)) 0:=by rw[afn h];simp
theorem afy{bN:LI}{rest:LI}(x:Int):bA Z 3 (aW ((bN++[x])++rest)) (0+bN.length*1)=some (J x):=by rw[v5];simp[aW]
theorem apC{k n r:Int}{s:LN}{l:bG}{N:Nat}{M:Em}{BS:LI}(hS:bn Z (Gl N))(ho:eN (.mk k n s l))(hN:bh l<N):
 ∀p:Em×LI,(p.2.length<=l.length∧p.1.aX.length+p.2.length+2*bh (l.drop p.2.length)+2<65536∧(p.1.dq (l.drop p.2.length)).1=M∧p.2++(p.1.dq (l.drop p.2.length)).2=BS)->
 bF Z 106 52 6 (.aO []) (jU ((M.ah ⟨15,r,0,0,s,l.length⟩).oU (l.zip BS))) (F2 r (bw l) l.length (p.2.length:Int))
  (Hz p.1 k n s (bw l) l.length (aW (p.2++List.replicate (l.length-p.2.length) 0))) (ao Z 106 0):=by
 have hl:=ho.2.1;refine cX (fun p=>l.length-p.2.length) _ _ _ _ ?_;rintro⟨m,bN⟩ ⟨hi,hc,kz,jV⟩ ih;simp only at hi hc kz jV ih⊢;refine hD hS 1000 (fun _=>[1,3,5,6,14,15,16]) (by kernel_rfl) ?_;rw[apE];refine aY.2 ⟨fun an=>?_,fun a8=>?_⟩
 ·have an:bN.length<l.length:=by simpa using an
  obtain⟨k1,n1,s1,m1,he,bU,bq⟩:=oj an ho.2.2;have cW:=Gc an;rw[he]at cW;have uh:=kJ (.mk k1 n1 s1 m1);rw[dv an,he,bh]at hc;rw[dv an,he,Em.dq]at kz jV;refine⟨bN.length,rfl,an,k1,n1,s1,_,_,bU,?_⟩;rw[iA hl an];refine aY.2 ⟨fun hk=>?_,fun hk=>?_⟩
  ·have hk:k1=3:=by simpa using hk
   rw[aN (show(aK.mk k1 n1 s1 m1).cY=3 from hk)]at kz jV;have hb:=Ry m.bX m.bX.cG (.mk k1 n1 s1 m1);rw[G0]at hb;refine⟨m,⟨rfl,rfl⟩,rfl,bN.length,rfl,an,by simp[aW];omega,bN.length,rfl,an,m.bX.cG,?_,(m.bX,m.bX.cG,.mk k1 n1 s1 m1),⟨rfl,rfl,?_,bq,?_⟩,?_⟩
   ·rw[N5 _ an];exact afy _
   ·show m.bX.aX.length+_<_;rw[G0];simp only;omega
   ·simp only;omega
   ·rw[N5 _ an];have:=ih (m.bX.lR m.bX.cG (.mk k1 n1 s1 m1),bN++[m.bX.cG]) ⟨by simp;omega,by simp only[bj,bR,cI,fD];omega,by simpa using kz,by simpa using jV⟩ (by simp;omega);simp only[bj,bR,cI,fD]at this;exact this
  ·have hk:k1≠3:=by simpa using hk
   rw[az (show¬(aK.mk k1 n1 s1 m1).cY=3 from hk)]at kz jV;rw[afx an];have:=ih (m,bN++[0]) ⟨by simp;omega,by simp only[bj,bR,cI,fD];omega,by simpa using kz,by simpa using jV⟩ (by simp;omega);simp only[bj,bR,cI,fD]at this;exact this
 ·have a8:l.length<=bN.length:=by simpa using a8
  have dY:bN.length=l.length:=by omega
  rw[dV a8]at kz jV hc;simp only[Em.dq,gz]at kz jV;subst kz jV;have he:=ly m ⟨15,r,0,0,s,l.length⟩;have h0:List.replicate (l.length-bN.length) (0:Int)=[]:=by rw[dY];simp
  rw[h0,gz,←dY];refine⟨(m,⟨15,r,0,0,s,l.length⟩),⟨by rw[dY];rfl,rfl,by simp only;omega⟩,(m.ah ⟨15,r,0,0,s,l.length⟩,bN,.mk k n s l),⟨by rw[dY];rfl,rfl,by simp only[aK.cK];omega,by simpa[aK.cK]using dY,ho⟩,rfl,?_⟩;rw[dY];rfl
def TS(m:Em)(k n:Int)(s:LN)(cs:LV)(len:Nat)(c9:LV):AH:=aq [(0,fu m 1 2 3 4 5),(1,fJ m),(2,eV m),(3,fg m),(4,e9 m),(5,eZ m),(6,.ay [.ad 0 0] 64),(7,.ay [J k,J n,.aa s,.aB cs len 4] 42),(8,.ay [.bB 9 0 len len 1 true] 57),(9,.c9 c9 3)] 10
def acr(m:Em)(k n:Int)(s:LN)(cs:LV)(len:Nat)(c9:LV):AH:=aq [(0,fu m 10 2 3 4 5),(1,.bJ []),(2,eV m),(3,fg m),(4,e9 m),(5,eZ m),(6,.ay [.ad 0 0] 64),(7,.ay [J k,J n,.aa s,.aB cs len 4] 42),(8,.ay [.bB 9 0 len len 1 true] 57),(9,.c9 c9 3),(10,fJ m)] 11
theorem ann(m:Em)(k n:Int)(s:LN)(cs:LV)(len:Nat)(c9:LV):Mv (TS m k n s cs len c9) (acr m k n s cs len c9) 1:=
 oG (l':=[(0,fu m 10 2 3 4 5),(1,.bJ []),(2,eV m),(3,fg m),(4,e9 m),(5,eZ m),(6,.ay [.ad 0 0] 64),(7,.ay [J k,J n,.aa s,.aB cs len 4] 42),(8,.ay [.bB 9 0 len len 1 true] 57),(9,.c9 c9 3)]) rfl rfl rfl
def Om(r:Int)(cs:LV)(len:Nat)(i:Int):Tr AV:=F2 r cs len i
def aeL:List (Nat×Nat):=[(0,0),(1,1),(2,2),(3,3),(4,4),(5,5),(6,6),(7,7),(8,8),(10,9),(9,10)]
theorem avN(m:Em)(k n:Int)(s:LN)(cs:LV)(len:Nat)(c9:LV):om 6 [6,7,8] (acr m k n s cs len c9)=some ⟨aeL,Hz m k n s cs len c9⟩:=by kernel_rfl
theorem avV(r:Int)(cs:LV)(len:Nat)(i:Int):tE (jS aeL) (Om r cs len i) [1,3,5,6,14,15,16]=some (Om r cs len i):=by kernel_rfl
theorem WU:∀n:Nat,jq [J 0] n=aW (List.replicate n 0)
 |0=>rfl
 |n+1=>by simp[jq,WU n,aW,List.replicate_succ]
theorem Ck:∀l:bG,l.length<=bh l
 |[]=>by simp[bh]
 |t::l=>by have:=kJ t;have:=Ck l;simp only[bh,bR];omega
theorem afI{N:Nat}{m:Em}{r k n:Int}{s:LN}{l:bG}(hS:bn Z (Gl N))(hc:m.aX.length+2*(1+bh l)<65536)(ho:eN (.mk k n s l))(hN:bh l<N):
 eC Z 106 [.ad 0 0,J r,.aj [J k,J n,.aa s,.aB (bw l) l.length 4]] (bT m) (.aO []) (jU (m.lR r (.mk k n s l))):=by
 refine eS hS 1000 (fun _=>[1,3,5,6,14,15,16]) 52 (by kernel_rfl) ?_;rw[apD];have bH:=Ck l;refine⟨l.length,rfl,by omega,?_⟩;rw[WU];refine qa (H:=TS m k n s (bw l) l.length (aW (List.replicate l.length 0))) (t:=Om r (bw l) l.length 0) (t':=Om r (bw l) l.length 0) (g:=1) ?_ (ann m k n s (bw l) l.length (aW (List.replicate l.length 0))) (by kernel_rfl) (fun i a' hi=>⟨a',hi,rk hi (by simp[eK,iV,jW,TS,aq])⟩);refine dN.rE (by kernel_rfl) (avN m k n s (bw l) l.length (aW (List.replicate l.length 0))) (avV r (bw l) l.length 0) ?_;exact apC (r:=r) hS ho hN (m,[]) ⟨by simp,by simp only[cI,hI];omega,rfl,by simp only[cI,hI,pS]⟩
theorem ahd:∀N,bn Z (Gl N):=by
 refine CE (e:=fun N=>k7 aT (fun m w=>m.lR w.1 w.2) (W1 N)) (h1:=fun N=>si qI) Yp ?_ ?_
 ·rintro⟨m,r,t⟩ args H ⟨_,_,_,_,h⟩;omega
 ·rintro N hS ⟨m,r,⟨k,n,s,l⟩⟩ args H ⟨rfl,rfl,hc,ho,hN⟩;simp only[cD]at hc hN;exact afI hS hc ho (by omega)
theorem PJ:bn Z JV:=by refine dc Yp ?_;rintro⟨m,r,⟨k,n,s,l⟩⟩ args H ⟨rfl,rfl,hc,ho⟩;simp only[cD]at hc;exact afI (ahd (bh l+1)) hc ho (by omega)
def Em.lq(m:Em)(w:Int×aK):Em:=
 if w.2.cY=0 then m.tz w else if w.2.cY=1 then m.IX w else if w.2.cY=2 then m.IV w else m.lR w.1 w.2
def Em.eO:Nat->Em->bG->Em
 |_,m,[]=>m
 |i,m,t::l=>Em.eO (i+1) (m.lq (((i+1:Nat):Int),t)) l
def Ax(l:bG):Prop:=∀t∈l,0<=t.cY∧t.cY<4
def aG(g:iP):LV:=[.aj (qM g)]
theorem ahE(a b:iP)(h:aG a=aG b):a=b:=by simp only[aG,List.cons.injEq,AV.aj.injEq,and_true]at h;exact Se h
def aft(m:Em)(g:iP):Prop:=m.aX.length+2*bh g.cP+1<65536∧oK g∧Ax g.cP
def PK:Ev.bC:=cB 66 (cO (k7 aG (fun m g=>m.eO 0 g.cP) aft) (si ahE) cV) JV
def Af(a b c d:Nat):bc:=.ay [.b9 (.func a) [.ad 0 0] [],.b9 (.func b) [.ad 0 0] [],.b9 (.func c) [.ad 0 0] [],.b9 (.func d) [.ad 0 0] []] 115
def BB(m:Em):AH:=aq [(0,fu m 7 2 3 4 5),(1,.bJ []),(2,eV m),(3,fg m),(4,e9 m),(5,eZ m),(6,Af 103 104 105 106),(7,fJ m)] 8
abbrev AM x0 x1 x2:=bk [(4,.ad 6 0),(17,.aB x0 x1 4),(18,J (Int.ofNat x1)),(19,J x2)]
theorem atn(m:Em)(k ar aM v:Int)(nm:LN)(cs:LV)(len:Nat)(L:LT)(Q:QT):
 b_ Z JV (fun _=>[4,17,18,19]) L Q 1000 66 [.ad 0 0,.aj [J k,.aa nm,J ar,J aM,.aB cs len 4,J v]] (bT m)=(
 L (AM cs len 0) (aq [(0,fu m 1 2 3 4 5),(1,fJ m),(2,eV m),(3,fg m),(4,e9 m),(5,eZ m),(6,Af 103 104 105 106)] 7) (ao Z 66 0)):=by kernel_rfl
theorem ato(m:Em)(i:Int)(cs:LV)(len:Nat)(L:LT)(Q:QT):
 cT Z JV (fun _=>[4,17,18,19]) L Q 1000 66 6 (AM cs len i) (ao Z 66 0) (BB m)=(
 ai (decide (i<Int.ofNat len)) (∃aI:Nat,i=(aI:Int)∧aI<len∧(∃n:Int,∃aP:Int,∃s:LN,∃cN:LV,∃cz:Nat,((cs.drop (aI*4)).take 4:LV)=[J n,J aP,.aa s,.aB cN cz 4]∧((0:Int)<=n∧n<4)∧(n=0->(∃w:Em×Int×aK,(([.ad 0 0,J (wI (i+1)),.aj [J n,J aP,.aa s,.aB cN cz 4]]:LV)=[.ad 0 0,J w.2.1,.aj (dy w.2.2)]∧bT m=bT w.1∧sv w.1 w.2)∧L (AM cs len (wI (i+1))) (BB (w.1.tz w.2)) (ao Z 66 0)))∧(n=1->(∃w:Em×Int×aK,(([.ad 0 0,J (wI (i+1)),.aj [J n,J aP,.aa s,.aB cN cz 4]]:LV)=[.ad 0 0,J w.2.1,.aj (dy w.2.2)]∧bT m=bT w.1∧sv w.1 w.2)∧L (AM cs len (wI (i+1))) (BB (w.1.IX w.2)) (ao Z 66 0)))∧(n=2->(∃w:Em×Int×aK,(([.ad 0 0,J (wI (i+1)),.aj [J n,J aP,.aa s,.aB cN cz 4]]:LV)=[.ad 0 0,J w.2.1,.aj (dy w.2.2)]∧bT m=bT w.1∧sv w.1 w.2)∧L (AM cs len (wI (i+1))) (BB (w.1.IV w.2)) (ao Z 66 0)))∧(n=3->(∃w:Em×Int×aK,(([.ad 0 0,J (wI (i+1)),.aj [J n,J aP,.aa s,.aB cN cz 4]]:LV)=[.ad 0 0,J w.2.1,.aj (dy w.2.2)]∧bT m=bT w.1∧afs w.1 w.2)∧L (AM cs len (wI (i+1))) (BB (w.1.lR w.2.1 w.2.2)) (ao Z 66 0)))∧True)) (Q (.aO []) (jU m))):=by kernel_rfl
theorem aeY(m:Em)(w:Int×aK):(m.lq w).aX.length<=m.aX.length+2*cD w.2:=by
 have hp:=kJ w.2;unfold Em.lq;split
 ·unfold Em.tz;split
  ·have:=O1 m w.2.n 11 12 w.1;omega
  ·have:=ly m ⟨11,w.1,w.1,0,[],0⟩;omega
 ·split
  ·have:=ly m ⟨13,0,w.1,w.2.n,[],0⟩;unfold Em.IX;omega
  ·split
   ·have:=ly m ⟨14,0,w.1,0,w.2.fZ,0⟩;unfold Em.IV;omega
   ·have:=Ry m w.1 w.2;omega
section
variable{m:Em}{k n a:Int}{s:LN}{ts:bG}
theorem aoQ(hk:k=0):m.lq (a,.mk k n s ts)=m.tz (a,.mk k n s ts):=by simp[Em.lq,aK.cY,hk]
theorem aoO(hk:k=1):m.lq (a,.mk k n s ts)=m.IX (a,.mk k n s ts):=by simp[Em.lq,aK.cY,hk]
theorem aoM(hk:k=2):m.lq (a,.mk k n s ts)=m.IV (a,.mk k n s ts):=by simp[Em.lq,aK.cY,hk]
theorem aoP(hk:k=3):m.lq (a,.mk k n s ts)=m.lR a (.mk k n s ts):=by simp[Em.lq,aK.cY,hk]
end
theorem atm{l:bG}{M:Em}(hl:eQ l.length)(ho:iS l)(hk:Ax l):
 ∀p:Nat×Em,(p.1<=l.length∧p.2.aX.length+2*bh (l.drop p.1)+1<65536∧Em.eO p.1 p.2 (l.drop p.1)=M)->
 bF Z 66 33 6 (.aO []) (jU M) (AM (bw l) l.length (p.1:Int)) (BB p.2) (ao Z 66 0):=by
 refine cX (fun p=>l.length-p.1) _ _ _ _ ?_;rintro⟨i,m⟩ ⟨hi,hc,hf⟩ ih;simp only at hi hc hf ih⊢;refine hD PJ 1000 (fun _=>[4,17,18,19]) (by kernel_rfl) ?_;rw[ato];refine aY.2 ⟨fun an=>?_,fun a8=>?_⟩
 ·have an:i<l.length:=by simpa using an
  obtain⟨k,n,s,ts,he,bU,bq⟩:=oj an ho;have vD:=hk l[i] (xC an);rw[he]at vD;simp only[aK.cY]at vD;rw[dv an,he]at hf hc;simp only[Em.eO,bh]at hf hc;have uh:=kJ (.mk k n s ts);have bH:=aeY m (((i+1:Nat):Int),.mk k n s ts);simp only at bH;have hr:m.aX.length<65536:=by omega
  have yE:m.aX.length+2*cD (.mk k n s ts)<65536:=by omega
  have next:=ih (i+1,m.lq (((i+1:Nat):Int),.mk k n s ts)) ⟨by simp;omega,by simp only;omega,hf⟩ (by simp;omega)
  refine⟨i,rfl,an,k,n,s,_,_,bU,vD,?_⟩;rw[iA hl an];refine⟨fun h=>?_,fun h=>?_,fun h=>?_,fun h=>?_,trivial⟩
  ·rw[aoQ h]at next
   exact⟨(m,((i+1:Nat):Int),.mk k n s ts),⟨rfl,rfl,hr⟩,next⟩
  ·rw[aoO h]at next
   exact⟨(m,((i+1:Nat):Int),.mk k n s ts),⟨rfl,rfl,hr⟩,next⟩
  ·rw[aoM h]at next
   exact⟨(m,((i+1:Nat):Int),.mk k n s ts),⟨rfl,rfl,hr⟩,next⟩
  ·rw[aoP h]at next
   exact⟨(m,((i+1:Nat):Int),.mk k n s ts),⟨rfl,rfl,yE,bq⟩,next⟩
 ·have a8:l.length<=i:=by simpa using a8
  rw[dV a8,Em.eO]at hf;subst hf;exact⟨rfl,rfl⟩
def TU(m:Em):AH:=aq [(0,fu m 1 2 3 4 5),(1,fJ m),(2,eV m),(3,fg m),(4,e9 m),(5,eZ m),(6,Af 103 104 105 106)] 7
theorem ant(m:Em):Mv (TU m) (BB m) 1:=
 oG (l':=[(0,fu m 7 2 3 4 5),(1,.bJ []),(2,eV m),(3,fg m),(4,e9 m),(5,eZ m),(6,Af 103 104 105 106)]) rfl rfl rfl
theorem Yq:bn Z PK:=by refine dc PJ ?_;rintro⟨m,⟨k,⟨nm,ar,aM⟩,ls,v⟩⟩ args H ⟨rfl,rfl,hc,ho,hk⟩;simp only at hc hk;refine eS PJ 1000 (fun _=>[4,17,18,19]) 33 (by kernel_rfl) ?_;simp only[k7,aG,qM];rw[atn];refine qa (H:=TU m) (t':=AM (bw ls) ls.length ((0:Nat):Int)) (g:=1) ?_ (ant m) (by kernel_rfl) (fun i a' hi=>⟨a',hi,rk hi (by simp[eK,iV,jW,TU,aq])⟩);exact atm ho.2.1 ho.2.2 hk (0,m) ⟨by simp,by simp only[hI];omega,by simp⟩
def Fo(k n:Int)(s:LN)(len:Nat):LV:=
 if k=1 then[J 1,J n,.aa [],J 0]
 else if k=2 then[J 2,J 0,.aa s,J 0]
 else if k=3 then[J 3,J 0,.aa s,J len]
 else[J 0,J 0,.aa [],J 0]
def Fp(k n:Int)(s:LN)(len:Nat):LV:=
 if k=0 then[J 0,J 0,.aa [],J 0]else[J k,J n,.aa s,J len]
theorem axu{k n:Int}{s:LN}{len:Nat}(h:sk k n s len=true):Fo k n s len=Fp k n s len:=by
 unfold sk at h;unfold Fo Fp;by_cases h0:k=0
 ·subst h0;simp
 ·by_cases h1:k=1
  ·subst h1;simp at h;simp[h]
  ·by_cases h2:k=2
   ·subst h2;simp at h;simp[h]
   ·by_cases h3:k=3
    ·subst h3;simp at h;simp[h]
    ·simp[h0,h1,h2,h3]at h
def MV:LV->Option (Prop×AV)
 |[.aj [.cM .i64 k,.cM .i64 n,.aa s,.aB cs len 4]]=>some (True,.aj (Fo k n s len))
 |_=>none
def MU:LV->Option (Prop×AV)
 |[.aj [.cM .i64 k,.cM .i64 n,.aa s,.aB cs len 4]]=>some (True,.aj (Fp k n s len))
 |_=>none
def wY(m:Em)(bL:Bool):AH:=aq [(0,.ay [.aA bL] 4),(1,.ay [.ad 2 0] 64),(2,fu m 3 4 5 6 7),(3,fJ m),(4,eV m),(5,fg m),(6,e9 m),(7,eZ m)] 8
def VU(m:Em)(bL:Bool):AH:=aq [(0,.ay [.aA bL] 4),(1,.ay [.ad 2 0] 64),(2,fu m 8 4 5 6 7),(3,.bJ []),(4,eV m),(5,fg m),(6,e9 m),(7,eZ m),(8,fJ m)] 9
theorem ans(m:Em)(bL:Bool):Mv (wY m bL) (VU m bL) 3:=
 oG (l':=[(0,.ay [.aA bL] 4),(1,.ay [.ad 2 0] 64),(2,fu m 8 4 5 6 7),(3,.bJ []),(4,eV m),(5,fg m),(6,e9 m),(7,eZ m)]) rfl rfl rfl
def Em.cw(m:Em)(bL:Bool):Em:=bif bL then m.ah ⟨18,0,0,0,[],0⟩else m
def Q3:dP (Em×Bool)where
 bN w A H:=A=[.ad 0 0,.ad 1 0]∧H=wY w.1 w.2∧w.1.aX.length<65536
 v w:=.aO []
 aU w:=VU (w.1.cw w.2) w.2
theorem anX:Q3.dT:=by
 rintro⟨m,e⟩ ⟨m',e'⟩ A H ⟨_,h2,_⟩ ⟨_,h4,_⟩;simp only at h2 h4;rw[h2]at h4;have q:=fun i=>congrArg (fun H=>AH.bD H i) h4
 simp only[wY,eA]at q;have e1:=DW (m:=m) (m':=m') (dk (q 2)) (dk (q 3)) (dk (q 4)) (dk (q 5)) (dk (q 6)) (dk (q 7));have e2:[AV.aA e]=[AV.aA e']:=(bc.ay.inj (dk (q 0))).1;simp only[List.cons.injEq,AV.aA.injEq,and_true]at e2;rw[e1,e2]
def PL:Ev.bC:=ft 30 (fy MV) PK
def PN:Ev.bC:=ft 31 (fy MU) PL
def PO:Ev.bC:=cB 63 (cO Q3 anX cV) PN
theorem asf(k n:Int)(s:LN)(cs:LV)(len:Nat)(L:LT)(Q:QT):
 b_ Z PK (fun _=>[]) L Q 1000 30 [.aj [J k,J n,.aa s,.aB cs len 4]] ax=(
 ai (k==1) (Q (.aj [J 1,J n,.aa [],J 0]) ax) (ai (k==2) (Q (.aj [J 2,J 0,.aa s,J 0]) ax) (ai (k==3) (Q (.aj [J 3,J 0,.aa s,J (Int.ofNat len)]) ax) (Q (.aj [J 0,J 0,.aa [],J 0]) ax)))):=by kernel_rfl
theorem asg(k n:Int)(s:LN)(cs:LV)(len:Nat)(L:LT)(Q:QT):
 b_ Z PL (fun _=>[]) L Q 1000 31 [.aj [J k,J n,.aa s,.aB cs len 4]] ax=(
 ai (k==0) (Q (.aj [J 0,J 0,.aa [],J 0]) ax) (Q (.aj [J k,J n,.aa s,J (Int.ofNat len)]) ax)):=by kernel_rfl
theorem af1(m:Em)(bL:Bool)(L:LT)(Q:QT):
 b_ Z PN (fun _=>[]) L Q 1000 63 [.ad 0 0,.ad 1 0] (wY m bL)=(
 ai bL (∃w:Em×ba,(([.ad 0 0,.aj [J 18,J 0,J 0,J 0,.aa [],J 0]]:LV)=[.ad 0 0,.aj (bP w.2)]∧bT m=bT w.1∧w.1.aX.length<65536)∧Q (.aO []) (VU (w.1.ah w.2) bL)) (Q (.aO []) (wY m bL))):=by kernel_rfl
theorem PM:bn Z PL:=by
 refine jM Yq fun args q v h hq=>?_
 unfold MV at h;split at h<;>cases h;refine eS Yq 1000 (fun _=>[]) 24 (by kernel_rfl) ?_;rw[asf]
 (repeat' (refine aY.2 ⟨fun _=>?_,fun _=>?_⟩))
 all_goals
  refine⟨?_,rfl⟩;simp_all[Fo]
theorem JW:bn Z PN:=by
 refine jM PM fun args q v h hq=>?_
 unfold MU at h;split at h<;>cases h;refine eS PM 1000 (fun _=>[]) 17 (by kernel_rfl) ?_;rw[asg]
 (repeat' (refine aY.2 ⟨fun _=>?_,fun _=>?_⟩))
 all_goals
  refine⟨?_,rfl⟩;simp_all[Fp]
theorem Yr:bn Z PO:=by
 refine dc JW ?_;rintro⟨m,bL⟩ args H ⟨rfl,rfl,hl⟩;cases bL with
 |true=>refine eS JW 1000 (fun _=>[]) 8 (by kernel_rfl) ?_;rw[af1];exact aY.2 ⟨fun _=>⟨(m,⟨18,0,0,0,[],0⟩),⟨rfl,rfl,hl⟩,rfl,rfl⟩,fun h=>(by cases h)⟩
 |false=>refine Ec (v:=.aO []) (H:=wY m false) ?_ (ans m false) (by simp[eK,iV,Q3]) (eh _);refine eS JW 1000 (fun _=>[]) 8 (by kernel_rfl) ?_;rw[af1];exact aY.2 ⟨fun h=>(by cases h),fun _=>⟨rfl,rfl⟩⟩
def z_(v:Int)(m:LP):LP:=up v (wI ((lk v m).getD 0+1)) m
mutual
def pY:LP->aK->LP
 |m,.mk k n _ l=>nX (if k=0 then z_ n m else m) l
def nX:LP->bG->LP
 |m,[]=>m
 |m,t::l=>nX (pY m t) l
end
def mH(m:LP):AH:=aq [(0,.bM (bK J 0 m) m.length true)] 1
def RI(N:Nat):dP (LP×aK)where
 bN w A H:=A=[.aS 0,.aj (dy w.2)]∧H=mH w.1∧eN w.2∧cD w.2<N
 v w:=.aO []
 aU w:=mH (pY w.1 w.2)
theorem adD{m m':LP}(h:mH m=mH m'):m=m':=by have q:=congrArg (fun H=>AH.bD H 0) h;simp only[mH,eA]at q;have q:bc.bM (bK J 0 m) m.length true=bc.bM (bK J 0 m') m'.length true:=dk q;simp only[bc.bM.injEq,and_true]at q;exact rR xJ q.1
theorem aaq(N:Nat):(RI N).dT:=by rintro⟨m,t⟩ ⟨m',t'⟩ A H ⟨h1,h2,_⟩ ⟨h3,h4,_⟩;simp only at h1 h2 h3 h4;rw[h2]at h4;rw[h1]at h3;simp only[List.cons.injEq,AV.aj.injEq,and_true,true_and]at h3;rw[adD h4,tY h3]
def Gm(N:Nat):Ev.bC:=cB 58 (cO (RI N) (aaq N) cV) PO
def aap:dP (LP×aK)where
 bN w A H:=A=[.aS 0,.aj (dy w.2)]∧H=mH w.1∧eN w.2
 v w:=.aO []
 aU w:=mH (pY w.1 w.2)
theorem aiX:aap.dT:=by rintro⟨m,t⟩ ⟨m',t'⟩ A H ⟨h1,h2,_⟩ ⟨h3,h4,_⟩;simp only at h1 h2 h3 h4;rw[h2]at h4;rw[h1]at h3;simp only[List.cons.injEq,AV.aj.injEq,and_true,true_and]at h3;rw[adD h4,tY h3]
def Dq:Ev.bC:=cB 58 (cO aap aiX cV) PO
abbrev Jm x0 x1 x2:=bk [(0,.aS 0),(15,.aB x0 x1 4),(16,J (Int.ofNat x1)),(17,J x2)]
theorem as8(m:LP)(k n:Int)(s:LN)(cs:LV)(len:Nat)(N:Nat)(L:LT)(Q:QT):
 b_ Z (Gm N) (fun _=>[0,15,16,17]) L Q 1000 58 [.aS 0,.aj [J k,J n,.aa s,.aB cs len 4]] (mH m)=(
 ai (k==0) (∃aP:Int,∃b:Bool,gf Z 2 3 (bK J 0 m) (J n)=some (J aP,b)∧(∃bQ:List (AV×AV×Nat),∃c':Nat,lN Z 2 (bK J 0 m) m.length (J n) (J (wI (aP+1)))=some (bQ,c')∧L (Jm cs len 0) (aq [(0,.bM bQ c' true)] 1) (ao Z 58 0))) (L (Jm cs len 0) (mH m) (ao Z 58 0))):=by kernel_rfl
theorem as9(m:LP)(i:Int)(cs:LV)(len:Nat)(N:Nat)(L:LT)(Q:QT):
 cT Z (Gm N) (fun _=>[0,15,16,17]) L Q 1000 58 1 (Jm cs len i) (ao Z 58 0) (mH m)=(
 ai (decide (i<Int.ofNat len)) (∃aI:Nat,i=(aI:Int)∧aI<len∧(∃n:Int,∃aP:Int,∃s:LN,∃cN:LV,∃cz:Nat,((cs.drop (aI*4)).take 4:LV)=[J n,J aP,.aa s,.aB cN cz 4]∧(∃w:List (Int×Int)×aK,(([.aS 0,.aj [J n,J aP,.aa s,.aB cN cz 4]]:LV)=[.aS 0,.aj (dy w.2)]∧mH m=mH w.1∧eN w.2∧cD w.2<N)∧L (Jm cs len (wI (i+1))) (mH (pY w.1 w.2)) (ao Z 58 0)))) (Q (.aO []) (mH m))):=by kernel_rfl
theorem adz(m:LP)(v:Int):∃n:Int,∃b:Bool,gf Z 2 3 (bK J 0 m) (J v)=some (J n,b)∧(lk v m).getD 0=n:=by
 rw[qj _ lz];cases lk v m with
 |none=>exact⟨0,false,by rw[Dd];rfl,rfl⟩
 |some b=>exact⟨b,true,rfl,rfl⟩
theorem afY{l:bG}{N:Nat}{M:LP}(hS:bn Z (Gm N))(hl:eQ l.length)(ho:iS l)(hN:bh l<N):
 ∀p:Nat×LP,(p.1<=l.length∧nX p.2 (l.drop p.1)=M)->
 bF Z 58 25 1 (.aO []) (mH M) (Jm (bw l) l.length (p.1:Int)) (mH p.2) (ao Z 58 0):=by
 refine cX (fun p=>l.length-p.1) _ _ _ _ ?_;rintro⟨i,m⟩ ⟨hi,hf⟩ ih;simp only at hi hf ih⊢;refine hD hS 1000 (fun _=>[0,15,16,17]) (by kernel_rfl) ?_;rw[as9];refine aY.2 ⟨fun an=>?_,fun a8=>?_⟩
 ·have an:i<l.length:=by simpa using an
  rw[dv an,nX]at hf;obtain⟨k,n,s,ts,hf,-,bU,bq,cW⟩:=I4 an ho hN (P:=fun u=>nX (pY m u) (l.drop (i+1))=M) hf;refine⟨i,rfl,an,k,n,s,_,_,bU,?_⟩;rw[iA hl an];exact⟨(m,.mk k n s ts),⟨rfl,rfl,bq,cW⟩,ih (i+1,pY m (.mk k n s ts)) ⟨by simp;omega,hf⟩ (by simp;omega)⟩
 ·have a8:l.length<=i:=by simpa using a8
  rw[dV a8,nX]at hf;subst hf;exact⟨rfl,rfl⟩
theorem afX{N:Nat}{m:LP}{k n:Int}{s:LN}{l:bG}(hS:bn Z (Gm N))(ho:eN (.mk k n s l))(hN:bh l<N):
 eC Z 58 [.aS 0,.aj [J k,J n,.aa s,.aB (bw l) l.length 4]] (mH m) (.aO []) (mH (pY m (.mk k n s l))):=by
 refine eS hS 1000 (fun _=>[0,15,16,17]) 25 (by kernel_rfl) ?_;rw[as8];refine aY.2 ⟨fun hk=>?_,fun hk=>?_⟩
 ·have hk:k=0:=by simpa using hk
  obtain⟨c,b,h1,h2⟩:=adz m n;refine⟨c,b,h1,_,_,pj J lz,?_⟩;exact afY hS ho.2.1 ho.2.2 hN (0,up n (wI (c+1)) m) ⟨by simp,by simp only[pY,hk,if_true,z_,h2,hI]⟩
 ·have hk:k≠0:=by simpa using hk
  exact afY hS ho.2.1 ho.2.2 hN (0,m) ⟨by simp,by simp only[pY,az hk,hI]⟩
theorem ahe:∀N,bn Z (Gm N):=by
 refine CE (e:=RI) (h1:=aaq) Yr ?_ ?_
 ·rintro⟨m,t⟩ args H ⟨_,_,_,h⟩;omega
 ·rintro N hS ⟨m,⟨k,n,s,l⟩⟩ args H ⟨rfl,rfl,ho,hN⟩;simp only[cD]at hN;exact afX hS ho (by omega)
theorem Gn:bn Z Dq:=by refine dc Yr ?_;rintro⟨m,⟨k,n,s,l⟩⟩ args H ⟨rfl,rfl,ho⟩;exact afX (ahe (bh l+1)) ho (by omega)
def Ak:Nat->LN:=nk [(3,[1,3,12,13,14]),(8,[3,23,24,25]),(11,[3,7,23,24,25,30,31,32])]
def Ac(k:Int):Bool:=k==2||k==3||k==4
def Bi(m:LP)(g:iP):LP:=if Ac g.cQ then z_ g.il (nX m g.cP)else nX m g.cP
def zt(m:LP)(l:c7):LP:=l.foldl Bi m
def oX(f:a9):LP:=zt (nX [] f.aQ) f.au
def RH:dP a9 where
 bN f A H:=A=[.aj (dj f)]∧H=ax∧fL f
 v f:=.aS 0
 aU f:=mH (oX f)
theorem aiT:RH.dT:=by rintro f g A H ⟨h1,_⟩ ⟨h2,_⟩;rw[h1]at h2;simp only[List.cons.injEq,AV.aj.injEq,and_true]at h2;rw[sU _ _ h2]
def JX:Ev.bC:=cB 24 (cO RH aiT cV) Dq
def Lr(m:LP)(k v ar aM:Int)(nm:LN)(cs:LV)(len:Nat):AH:=aq [(0,.bM (bK J 0 m) m.length true),(1,.ay [J k,.aa nm,J ar,J aM,.aB cs len 4,J v] 46)] 2
def SE(m:LP)(nm:LN)(ar aM:Int)(cs:LV)(len:Nat)(gs:LV)(gl:Nat):AH:=aq [(0,.ay [.aa nm,J ar,J aM,.aB cs len 4,.aB gs gl 6] 27),(1,.bM (bK J 0 m) m.length true)] 2
abbrev Oo x0 x1 x2:=bk [(1,.ad 0 0),(3,.aS 1),(12,.aB x0 x1 4),(13,J (Int.ofNat x1)),(14,J x2)]
theorem arY(nm:LN)(ar aM:Int)(cs:LV)(len:Nat)(gs:LV)(gl:Nat)(L:LT)(Q:QT):
 b_ Z Dq Ak L Q 1000 24 [.aj [.aa nm,J ar,J aM,.aB cs len 4,.aB gs gl 6]] ax=(
 L (Oo cs len 0) (aq [(0,.ay [.aa nm,J ar,J aM,.aB cs len 4,.aB gs gl 6] 27),(1,.bM [] 0 true)] 2) (ao Z 24 0)):=by kernel_rfl
abbrev uN x0 x1 x2:=bk [(3,.aS 0),(23,.aB x0 x1 6),(24,J (Int.ofNat x1)),(25,J x2)]
theorem arZ(m:LP)(nm:LN)(ar aM i:Int)(cs:LV)(len:Nat)(gs:LV)(gl:Nat)(L:LT)(Q:QT):
 cT Z Dq Ak L Q 1000 24 0 (Oo cs len i) (ao Z 24 0) (SE m nm ar aM cs len gs gl)=(
 ai (decide (i<Int.ofNat len)) (∃aI:Nat,i=(aI:Int)∧aI<len∧(∃n:Int,∃aP:Int,∃s:LN,∃cN:LV,∃cz:Nat,((cs.drop (aI*4)).take 4:LV)=[J n,J aP,.aa s,.aB cN cz 4]∧(∃w:List (Int×Int)×aK,(([.aS 0,.aj [J n,J aP,.aa s,.aB cN cz 4]]:LV)=[.aS 0,.aj (dy w.2)]∧mH m=mH w.1∧eN w.2)∧L (Oo cs len (wI (i+1))) (SE (pY w.1 w.2) nm ar aM cs len gs gl) (ao Z 24 0)))) (L (uN gs gl 0) (mH m) (ao Z 24 1))):=by kernel_rfl
abbrev Oq x0 x1 x2 x3 x4 x5:=bk [(3,.aS 0),(7,.ad 1 0),(23,.aB x0 x1 6),(24,J (Int.ofNat x1)),(25,J x2),(30,.aB x3 x4 4),(31,J (Int.ofNat x4)),(32,J x5)]
theorem ar0(m:LP)(i:Int)(gs:LV)(gl:Nat)(L:LT)(Q:QT):
 cT Z Dq Ak L Q 1000 24 0 (uN gs gl i) (ao Z 24 1) (mH m)=(
 ai (decide (i<Int.ofNat gl)) (∃aI:Nat,i=(aI:Int)∧aI<gl∧(∃n:Int,∃s:LN,∃aP:Int,∃bp:Int,∃cs:LV,∃len:Nat,∃bI:Int,((gs.drop (aI*6)).take 6:LV)=[J n,.aa s,J aP,J bp,.aB cs len 4,J bI]∧L (Oq gs gl i cs len 0) (Lr m n bI aP bp s cs len) (ao Z 24 2))) (Q (.aS 0) (mH m))):=by kernel_rfl
theorem ar1(m:LP)(i j k v ar aM:Int)(nm:LN)(cs:LV)(len:Nat)(gs:LV)(gl:Nat)(L:LT)(Q:QT):
 cT Z Dq Ak L Q 1000 24 0 (Oq gs gl i cs len j) (ao Z 24 2) (Lr m k v ar aM nm cs len)=(
 ai (decide (j<Int.ofNat len)) (∃aI:Nat,j=(aI:Int)∧aI<len∧(∃n:Int,∃aP:Int,∃s:LN,∃cN:LV,∃cz:Nat,((cs.drop (aI*4)).take 4:LV)=[J n,J aP,.aa s,.aB cN cz 4]∧(∃w:List (Int×Int)×aK,(([.aS 0,.aj [J n,J aP,.aa s,.aB cN cz 4]]:LV)=[.aS 0,.aj (dy w.2)]∧mH m=mH w.1∧eN w.2)∧L (Oq gs gl i cs len (wI (j+1))) (Lr (pY w.1 w.2) k v ar aM nm cs len) (ao Z 24 2)))) (ai (k==2) (ai (k==2) (∃n:Int,∃b:Bool,gf Z 2 3 (bK J 0 m) (J v)=some (J n,b)∧(∃bQ:List (AV×AV×Nat),∃c':Nat,lN Z 2 (bK J 0 m) m.length (J v) (J (wI (n+1)))=some (bQ,c')∧L (uN gs gl (wI (i+1))) (aq [(0,.bM bQ c' true)] 1) (ao Z 24 1))) (L (uN gs gl (wI (i+1))) (mH m) (ao Z 24 1))) (ai (k==3) (ai (k==3) (∃n:Int,∃b:Bool,gf Z 2 3 (bK J 0 m) (J v)=some (J n,b)∧(∃bQ:List (AV×AV×Nat),∃c':Nat,lN Z 2 (bK J 0 m) m.length (J v) (J (wI (n+1)))=some (bQ,c')∧L (uN gs gl (wI (i+1))) (aq [(0,.bM bQ c' true)] 1) (ao Z 24 1))) (L (uN gs gl (wI (i+1))) (mH m) (ao Z 24 1))) (ai (k==4) (∃n:Int,∃b:Bool,gf Z 2 3 (bK J 0 m) (J v)=some (J n,b)∧(∃bQ:List (AV×AV×Nat),∃c':Nat,lN Z 2 (bK J 0 m) m.length (J v) (J (wI (n+1)))=some (bQ,c')∧L (uN gs gl (wI (i+1))) (aq [(0,.bM bQ c' true)] 1) (ao Z 24 1))) (L (uN gs gl (wI (i+1))) (mH m) (ao Z 24 1)))))):=by kernel_rfl
theorem arX{gs:c7}{M m':LP}{i:Nat}{k v ar aM:Int}{nm:LN}{l:bG}(qV:eQ gs.length)(hi:i<gs.length)(hl:eQ l.length)(ho:iS l)
 (ew:bF Z 24 53 0 (.aS 0) (mH M) (uN (ck gs) gs.length ((i+1:Nat):Int)) (mH m') (ao Z 24 1)):
 ∀p:Nat×LP,(p.1<=l.length∧(if Ac k then z_ v (nX p.2 (l.drop p.1))else nX p.2 (l.drop p.1))=m')->
 bF Z 24 53 0 (.aS 0) (mH M) (Oq (ck gs) gs.length (i:Int) (bw l) l.length (p.1:Int)) (Lr p.2 k v ar aM nm (bw l) l.length) (ao Z 24 2):=by
 refine cX (fun p=>l.length-p.1) _ _ _ _ ?_;rintro⟨j,m⟩ ⟨hj,hf⟩ ih;simp only at hj hf ih⊢;refine hD Gn 1000 Ak (by kernel_rfl) ?_;rw[ar1];refine aY.2 ⟨fun an=>?_,fun a8=>?_⟩
 ·have an:j<l.length:=by simpa using an
  obtain⟨k1,n1,s1,ts,he,bU,bq⟩:=oj an ho;rw[dv an,he]at hf;simp only[nX]at hf;refine⟨j,rfl,an,k1,n1,s1,_,_,bU,?_⟩;rw[iA hl an];exact⟨(m,.mk k1 n1 s1 ts),⟨rfl,rfl,bq⟩,ih (j+1,pY m (.mk k1 n1 s1 ts)) ⟨by simp;omega,hf⟩ (by simp;omega)⟩
 ·have a8:l.length<=j:=by simpa using a8
  rw[dV a8]at hf;simp only[nX]at hf;rw[iA qV hi];obtain⟨c,b,h1,h2⟩:=adz m v;have wj:Ac k=true->∃n:Int,∃b:Bool,(gf Z 2 3 (bK J 0 m) (J v)=some ((J n,b)))∧∃bQ:List (AV×AV×Nat),∃c':Nat,(lN Z 2 (bK J 0 m) (List.length m) (J v) (J (wI (n+1)))=some ((bQ,c')))∧
   bF Z 24 53 0 (.aS 0) (mH M) (uN (ck gs) gs.length ((i+1:Nat):Int)) (aq [(0,.bM bQ c' true)] 1) (ao Z 24 1):=by
   intro h;rw[aN h]at hf;refine⟨c,b,h1,_,_,pj J lz,?_⟩;rw[←hf]at ew;simp only[z_,h2]at ew;exact ew
  have no:Ac k=false->bF Z 24 53 0 (.aS 0) (mH M) (uN (ck gs) gs.length ((i+1:Nat):Int)) (aq [(0,.bM (bK J 0 m) m.length true)] 1) (ao Z 24 1):=by intro h;rw[az (by simp[h])]at hf;rw[←hf]at ew;exact ew
  clear ih hf ew
  (repeat' (refine aY.2 ⟨fun _=>?_,fun _=>?_⟩))
  all_goals first
   |(refine wj ?_;clear wj no;simp_all[Ac];done)
   |(refine no ?_;clear wj no;simp_all[Ac];done)
   |(exfalso;clear wj no;simp_all;done)
theorem arW{gs:c7}{M:LP}(qV:eQ gs.length)(Uh:∀g∈gs,oK g):
 ∀p:Nat×LP,(p.1<=gs.length∧zt p.2 (gs.drop p.1)=M)->
 bF Z 24 53 0 (.aS 0) (mH M) (uN (ck gs) gs.length (p.1:Int)) (mH p.2) (ao Z 24 1):=by
 refine cX (fun p=>gs.length-p.1) _ _ _ _ ?_;rintro⟨i,m⟩ ⟨hi,hf⟩ ih;simp only at hi hf ih⊢;refine hD Gn 1000 Ak (by kernel_rfl) ?_;rw[ar0];refine aY.2 ⟨fun an=>?_,fun a8=>?_⟩
 ·have an:i<gs.length:=by simpa using an
  obtain⟨k,nm,ar,aM,ls,v,he,bU,bq⟩:=o5 an Uh;rw[dv an,he]at hf;simp only[zt,ik]at hf;refine⟨i,rfl,an,k,nm,ar,aM,_,_,v,bU,?_⟩;exact arX (m':=Bi m ⟨k,⟨nm,ar,aM⟩,ls,v⟩) qV an bq.2.1 bq.2.2 (ih (i+1,Bi m ⟨k,⟨nm,ar,aM⟩,ls,v⟩) ⟨by simp;omega,hf⟩ (by simp;omega)) (0,m) ⟨by simp,by simp only[Bi,hI]⟩
 ·have a8:gs.length<=i:=by simpa using a8
  rw[dV a8]at hf;simp only[zt,List.foldl_nil]at hf;subst hf;exact⟨rfl,rfl⟩
theorem arV{gs:c7}{M:LP}{nm:LN}{ar aM:Int}{l:bG}(qV:eQ gs.length)(Uh:∀g∈gs,oK g)(hl:eQ l.length)(ho:iS l):
 ∀p:Nat×LP,(p.1<=l.length∧zt (nX p.2 (l.drop p.1)) gs=M)->
 bF Z 24 53 0 (.aS 0) (mH M) (Oo (bw l) l.length (p.1:Int)) (SE p.2 nm ar aM (bw l) l.length (ck gs) gs.length) (ao Z 24 0):=by
 refine cX (fun p=>l.length-p.1) _ _ _ _ ?_;rintro⟨j,m⟩ ⟨hj,hf⟩ ih;simp only at hj hf ih⊢;refine hD Gn 1000 Ak (by kernel_rfl) ?_;rw[arZ];refine aY.2 ⟨fun an=>?_,fun a8=>?_⟩
 ·have an:j<l.length:=by simpa using an
  obtain⟨k1,n1,s1,ts,he,bU,bq⟩:=oj an ho;rw[dv an,he]at hf;simp only[nX]at hf;refine⟨j,rfl,an,k1,n1,s1,_,_,bU,?_⟩;rw[iA hl an];exact⟨(m,.mk k1 n1 s1 ts),⟨rfl,rfl,bq⟩,ih (j+1,pY m (.mk k1 n1 s1 ts)) ⟨by simp;omega,hf⟩ (by simp;omega)⟩
 ·have a8:l.length<=j:=by simpa using a8
  rw[dV a8]at hf;simp only[nX]at hf;exact arW qV Uh (0,m) ⟨by simp,by simpa using hf⟩
theorem PQ:bn Z JX:=by refine dc Gn ?_;rintro⟨⟨nm,ar,aM⟩,l,gs⟩ args H ⟨rfl,rfl,ho⟩;refine eS Gn 1000 Ak 53 (by kernel_rfl) ?_;simp only[RH,dj];rw[arY];exact arV ho.2.2.2.1 ho.2.2.2.2 ho.2.1 ho.2.2.1 (0,[]) ⟨by simp,by simp only[oX,hI]⟩
structure eu where
 aR:LI
 aC:LI
 aE:LI
def DZ(c:eu):LV:=[.ae 0 c.aR.length 1,.ae 1 c.aC.length 1,.ae 2 c.aE.length 1]
def ve(c:eu):AH:=aq [(0,.aL (aW c.aR) 3),(1,.aL (aW c.aC) 2),(2,.aL (aW c.aE) 3)] 3
def ra:c7->Bool
 |[]=>false
 |[_]=>false
 |g::l=>g.cQ==1||ra l
def nz(f:a9)(c:eu):Bool:=ra f.au||decide (0<c.aC.length)
def Sw:dP (a9×eu)where
 bN w A H:=A=[.aj (dj w.1),.aj (DZ w.2)]∧H=ve w.2∧fL w.1
 v w:=.aA (nz w.1 w.2)
 aU w:=ve w.2
theorem aiK{c d:eu}(h:ve c=ve d):c=d:=by
 have q:=fun i=>congrArg (fun H=>AH.bD H i) h
 simp only[ve,eA]at q;have q0:bc.aL (aW c.aR) 3=bc.aL (aW d.aR) 3:=dk (q 0);have q1:bc.aL (aW c.aC) 2=bc.aL (aW d.aC) 2:=dk (q 1);have q2:bc.aL (aW c.aE) 3=bc.aL (aW d.aE) 3:=dk (q 2);obtain⟨a,b,e⟩:=c;obtain⟨a',b',e'⟩:=d;rw[eu.mk.injEq];exact⟨CJ (bc.aL.inj q0).1,CJ (bc.aL.inj q1).1,CJ (bc.aL.inj q2).1⟩
theorem ajO:Sw.dT:=by rintro⟨f,c⟩ ⟨f',c'⟩ A H ⟨h1,h2,_⟩ ⟨h3,h4,_⟩;simp only at h1 h2 h3 h4;rw[h2]at h4;rw[h1]at h3;have:=aiK h4;subst this;simp only[List.cons.injEq,AV.aj.injEq,and_true]at h3;rw[sU _ _ h3]
def PR:Ev.bC:=cB 25 (cO Sw ajO cV) JX
def h25(nm:LN)(ar aM:Int)(cs:LV)(len:Nat)(gs:LV)(gl:Nat)(c:eu):AH:=aq [(0,.aL (aW c.aR) 3),(1,.aL (aW c.aC) 2),(2,.aL (aW c.aE) 3),(3,.ay [.aa nm,J ar,J aM,.aB cs len 4,.aB gs gl 6] 27),(4,.ay (DZ c) 60)] 5
abbrev Jn x0 x1 x2:=bk [(2,.ad 3 0),(3,.ad 4 0),(8,.aB x0 x1 6),(9,J (Int.ofNat x1)),(10,J x2)]
theorem ar3(nm:LN)(ar aM:Int)(cs:LV)(len:Nat)(gs:LV)(gl:Nat)(c:eu)(L:LT)(Q:QT):
 b_ Z JX (fun _=>[2,3,8,9,10]) L Q 1000 25 [.aj [.aa nm,J ar,J aM,.aB cs len 4,.aB gs gl 6],.aj (DZ c)] (ve c)=(
 L (Jn gs gl 0) (aq [(0,.aL (aW c.aR) 3),(1,.aL (aW c.aC) 2),(2,.aL (aW c.aE) 3),(3,.ay [.aa nm,J ar,J aM,.aB cs len 4,.aB gs gl 6] 27),(4,.ay [.ae 0 c.aR.length 1,.ae 1 c.aC.length 1,.ae 2 c.aE.length 1] 60)] 5) (ao Z 25 0)):=by kernel_rfl
theorem ar4(nm:LN)(ar aM i:Int)(cs:LV)(len:Nat)(gs:LV)(gl:Nat)(c:eu)(L:LT)(Q:QT):
 cT Z JX (fun _=>[2,3,8,9,10]) L Q 1000 25 3 (Jn gs gl i) (ao Z 25 0) (h25 nm ar aM cs len gs gl c)=(
 ai (decide (i<Int.ofNat gl)) (∃aI:Nat,i=(aI:Int)∧aI<gl∧(∃n:Int,∃s:LN,∃aP:Int,∃bp:Int,∃cN:LV,∃cz:Nat,∃bI:Int,((gs.drop (aI*6)).take 6:LV)=[J n,.aa s,J aP,J bp,.aB cN cz 4,J bI]∧ai (n==1) (ai (decide (i<wI (Int.ofNat gl-1))) (Q (.aA true) (ve c)) (L (Jn gs gl (wI (i+1))) (aq [(0,.aL (aW c.aR) 3),(1,.aL (aW c.aC) 2),(2,.aL (aW c.aE) 3),(3,.ay [.aa nm,J ar,J aM,.aB cs len 4,.aB gs gl 6] 27),(4,.ay [.ae 0 c.aR.length 1,.ae 1 c.aC.length 1,.ae 2 c.aE.length 1] 60)] 5) (ao Z 25 0))) (L (Jn gs gl (wI (i+1))) (aq [(0,.aL (aW c.aR) 3),(1,.aL (aW c.aC) 2),(2,.aL (aW c.aE) 3),(3,.ay [.aa nm,J ar,J aM,.aB cs len 4,.aB gs gl 6] 27),(4,.ay [.ae 0 c.aR.length 1,.ae 1 c.aC.length 1,.ae 2 c.aE.length 1] 60)] 5) (ao Z 25 0)))) (Q (.aA (decide (Int.ofNat c.aC.length>0))) (ve c))):=by kernel_rfl
theorem ams{gs:c7}{i:Nat}(h:i<gs.length):ra (gs.drop i)=((gs[i].cQ==1&&decide (i+1<gs.length))||ra (gs.drop (i+1))):=by
 rw[dv h];cases hd:gs.drop (i+1)with
 |nil=>
  have:¬i+1<gs.length:=by have:=List.drop_eq_nil_iff.1 hd;omega
  simp[ra,this]
 |cons g l=>
  have:i+1<gs.length:=by
   rcases Nat.lt_or_ge (i+1) gs.length with h|h
   ·exact h
   ·rw[dV h]at hd;cases hd
  simp[ra,this]
theorem ar2{nm:LN}{ar aM:Int}{cs:LV}{len:Nat}{gs:c7}{c:eu}{aw:Bool}(hl:eQ gs.length)(ho:∀g∈gs,oK g):
 ∀i:Nat,(i<=gs.length∧(ra (gs.drop i)||decide (0<c.aC.length))=aw)->
 bF Z 25 31 3 (.aA aw) (ve c) (Jn (ck gs) gs.length (i:Int)) (h25 nm ar aM cs len (ck gs) gs.length c) (ao Z 25 0):=by
 refine cX (fun i=>gs.length-i) _ _ _ _ ?_;rintro i ⟨hi,hf⟩ ih;refine hD PQ 1000 (fun _=>[2,3,8,9,10]) (by kernel_rfl) ?_;rw[ar4];refine aY.2 ⟨fun an=>?_,fun a8=>?_⟩
 ·have an:i<gs.length:=by simpa using an
  obtain⟨k,k_,kP,kQ,ls,v,he,bU,bq⟩:=o5 an ho;rw[ams an,he]at hf;simp only at hf;refine⟨i,rfl,an,k,k_,kP,kQ,_,_,v,bU,?_⟩;have e:wI (Int.ofNat gs.length-1)=(gs.length:Int)-1:=by unfold eQ at hl;rw[dz (by simp only[fX];omega) (by simp only[fX];omega)];simp
  rw[iA hl an,e];refine aY.2 ⟨fun hk=>aY.2 ⟨fun h2=>?_,fun h2=>?_⟩,fun hk=>?_⟩
  ·have h2:i+1<gs.length:=by simp at h2;omega
   simp[hk,h2]at hf;exact⟨by rw[←hf],rfl⟩
  ·have h2:¬i+1<gs.length:=by simp at h2;omega
   simp only[h2,decide_false,Bool.and_false,Bool.false_or]at hf;exact ih (i+1) ⟨by omega,hf⟩ (by omega)
  ·simp only[hk,Bool.false_and,Bool.false_or]at hf;exact ih (i+1) ⟨by omega,hf⟩ (by omega)
 ·have a8:gs.length<=i:=by simpa using a8
  rw[dV a8]at hf;subst hf;exact⟨by simp[ra],rfl⟩
theorem Ys:bn Z PR:=by refine dc PQ ?_;rintro⟨⟨⟨nm,ar,aM⟩,l,gs⟩,c⟩ args H ⟨rfl,rfl,ho⟩;refine eS PQ 1000 (fun _=>[2,3,8,9,10]) 31 (by kernel_rfl) ?_;simp only[Sw,dj];rw[ar3];exact ar2 ho.2.2.2.1 ho.2.2.2.2 0 ⟨by omega,by simp only[nz,hI]⟩
def sV(w:Int×aK):LV:=J w.1::dy w.2
def iF:List (Int×aK)->LV
 |[]=>[]
 |w::l=>sV w++iF l
theorem Ho(w:Int×aK):(sV w).length=5:=by simp[sV,DY]
theorem Hm:∀l:List (Int×aK),(iF l).length=l.length*5
 |[]=>rfl
 |t::l=>by simp[iF,Ho,Hm l];omega
theorem aaT:∀l m:List (Int×aK),iF (l++m)=iF l++iF m
 |[],m=>rfl
 |t::l,m=>by simp[iF,aaT l m]
theorem ajA{a b:Int×aK}(h:sV a=sV b):a=b:=by obtain⟨r,t⟩:=a;obtain⟨r',t'⟩:=b;simp only[sV,List.cons.injEq,AV.cM.injEq,true_and]at h;obtain⟨rfl,h⟩:=h;rw[tY h]
theorem Sj:∀{l m:List (Int×aK)},iF l=iF m->l=m
 |[],[],_=>rfl
 |[],i::_,h=>by simp[iF,sV]at h
 |i::_,[],h=>by simp[iF,sV]at h
 |t::l,u::m,h=>by simp only[iF]at h;have h2:=List.append_inj h (by rw[Ho,Ho]);rw[ajA h2.1,Sj h2.2]
theorem ajo(t:aK):(dy t).all AV.ec=true∧(dy t).all je=true:=by obtain⟨k,n,s,l⟩:=t;exact⟨rfl,rfl⟩
theorem ajt:∀l:List (Int×aK),(iF l).all AV.ec=true∧(iF l).all je=true
 |[]=>⟨rfl,rfl⟩
 |(r,t)::l=>by have:=ajt l;have h:=ajo t;simp only[iF,sV,mQ,List.all_cons,List.all_append,this.1,this.2,h.1,h.2,Bool.and_true];exact⟨rfl,rfl⟩
def Ay(l:List (Int×aK)):Prop:=∀w∈l,eN w.2
def dw:List (Int×aK)->Nat
 |[]=>0
 |w::l=>1+2*bh w.2.cK+dw l
theorem CB:∀l m:List (Int×aK),dw (l++m)=dw l+dw m
 |[],m=>by simp[dw]
 |t::l,m=>by simp[dw,CB l m];omega
theorem Vv:∀l:List (Int×aK),l.length<=dw l
 |[]=>by simp
 |t::l=>by have:=Vv l;simp only[dw,bR];omega
def Em.hO(m:Em)(t:aK):Em×List (Int×aK):=
 if t.cY=0 then(if m.pI t.n>1 then m.fY t.n 6 7 0 else m.ah ⟨10,0,0,1,[],0⟩,[])
 else if t.cY=1 then(m.ah ⟨8,0,0,t.n,[],0⟩,[])
 else if t.cY=2 then(m.ah ⟨9,0,0,0,t.fZ,0⟩,[])
 else(m.bX.ah ⟨6,m.bX.cG,0,0,[],0⟩,[(m.bX.cG,t)])
def Em.i_:Em->List (Int×aK)->bG->Em×List (Int×aK)
 |m,q,[]=>(m,q)
 |m,q,t::l=>Em.i_ (m.hO t).1 (q++(m.hO t).2) l
def Em.gD:Nat->Em->List (Int×aK)->Em
 |0,m,_=>m
 |_+1,m,[]=>m
 |n+1,m,w::q=>Em.gD n ((m.ah ⟨5,0,w.1,0,w.2.fZ,w.2.cK.length⟩).i_ q w.2.cK).1 ((m.ah ⟨5,0,w.1,0,w.2.fZ,w.2.cK.length⟩).i_ q w.2.cK).2
def Em.Bq(m:Em)(w:Int×aK):Em:=Em.gD (dw [w]+1) m [w]
def kf(i:Nat):bc:=.ay [.ad i 0] 64
def oa(q:List (Int×aK)):bc:=.aL (iF q) 150
def wO(w:Int×aK):bc:=.ay [J w.1,J w.2.cY,J w.2.n,.aa w.2.fZ,.aB (bw w.2.cK) w.2.cK.length 4] 150
theorem av1{w w':Int×aK}(h:wO w=wO w'):w=w':=by obtain⟨r,⟨k,n,s,l⟩⟩:=w;obtain⟨r',⟨k',n',s',l'⟩⟩:=w';simp only[wO,aK.cY,aK.n,aK.fZ,aK.cK,bc.ay.injEq,List.cons.injEq,AV.cM.injEq,AV.aa.injEq,AV.aB.injEq,true_and,and_true]at h;obtain⟨rfl,rfl,rfl,rfl,h1,h2⟩:=h;rw[wP h2 h1]
def LD(m:Em)(q:List (Int×aK))(w:Int×aK):AH:=aq [(0,kf 3),(1,.ay [.ae 4 q.length 5] 151),(2,wO w),(3,fu m 5 6 7 8 9),(4,oa q),(5,fJ m),(6,eV m),(7,fg m),(8,e9 m),(9,eZ m)] 10
def aeb(m:Em)(q:List (Int×aK))(w:Int×aK):AH:=aq [(0,kf 3),(1,.ay [.ae 10 q.length 5] 151),(2,wO w),(3,fu m 11 6 7 8 9),(4,.bJ []),(5,.bJ []),(6,eV m),(7,fg m),(8,e9 m),(9,eZ m),(10,oa q),(11,fJ m)] 12
def BD(m:Em)(q:List (Int×aK))(w:Int×aK):AH:=aq [(0,fu m 4 5 6 7 8),(1,kf 0),(2,.ay [.bB 9 5 q.length 0 5 false] 151),(3,wO w),(4,fJ m),(5,eV m),(6,fg m),(7,e9 m),(8,eZ m),(9,oa (w::q))] 10
def acQ(m:Em)(q:List (Int×aK))(w:Int×aK):AH:=aq [(0,fu m 10 5 6 7 8),(1,kf 0),(2,.ay [.bB 9 5 q.length 0 5 false] 151),(3,wO w),(4,.bJ []),(5,eV m),(6,fg m),(7,e9 m),(8,eZ m),(9,oa (w::q)),(10,fJ m)] 11
def IE(m:Em)(q:List (Int×aK))(w:Int×aK):AH:=aq [(0,fu m 10 5 6 7 8),(1,kf 0),(2,.ay [.ae 11 q.length 5] 151),(3,wO w),(4,.bJ []),(5,eV m),(6,fg m),(7,e9 m),(8,eZ m),(9,.bJ []),(10,fJ m),(11,oa q)] 12
def Q1:dP (Em×List (Int×aK)×(Int×aK)×Nat)where
 bN w A H:=A=[J (w.2.2.2:Int),.ad 0 0,.ad 1 0,.ad 2 0]∧H=LD w.1 w.2.1 w.2.2.1∧w.1.aX.length<65536∧w.2.1.length<65536∧w.2.2.2<w.2.2.1.2.cK.length
 v w:=.aO []
 aU w:=aeb (w.1.bX.ah ⟨6,w.1.bX.cG,0,0,[],0⟩) (w.2.1++[(w.1.bX.cG,w.2.2.1.2.cK.getD w.2.2.2 default)]) w.2.2.1
def Q5:dP (Em×List (Int×aK)×(Int×aK))where
 bN w A H:=A=[.ad 0 0,.aj (dy w.2.2.2),.b9 (.func 100) [] [.ad 1 0,.ad 2 0,.ad 3 0]]∧H=BD w.1 w.2.1 w.2.2∧w.1.aX.length+dw w.2.1+2*bh w.2.2.2.cK<65536∧eN w.2.2.2
 v w:=.aO []
 aU w:=IE (w.1.i_ w.2.1 w.2.2.2.cK).1 (w.1.i_ w.2.1 w.2.2.2.cK).2 w.2.2
theorem anU:Q1.dT:=by
 rintro⟨m,q,w,i⟩ ⟨m',q',w',i'⟩ A H ⟨h1,h2,_⟩ ⟨h3,h4,_⟩;simp only at h1 h2 h3 h4;rw[h1]at h3;rw[h2]at h4;have k:=fun i=>congrArg (fun H=>AH.bD H i) h4
 simp only[LD,eA]at k;have e:=DW (m:=m) (m':=m') (dk (k 3)) (dk (k 5)) (dk (k 6)) (dk (k 7)) (dk (k 8)) (dk (k 9));have e2:=Sj (bc.aL.inj (dk (k 4))).1;have e3:=av1 (dk (k 2));simp only[List.cons.injEq,AV.cM.injEq,true_and,and_true]at h3;have e4:i=i':=by omega
 rw[e,e2,e3,e4]
theorem anZ:Q5.dT:=by
 rintro⟨m,q,w⟩ ⟨m',q',w'⟩ A H ⟨h1,h2,_⟩ ⟨h3,h4,_⟩;simp only at h1 h2 h3 h4;rw[h1]at h3;rw[h2]at h4;have k:=fun i=>congrArg (fun H=>AH.bD H i) h4
 simp only[BD,eA]at k;have e:=DW (m:=m) (m':=m') (dk (k 0)) (dk (k 4)) (dk (k 5)) (dk (k 6)) (dk (k 7)) (dk (k 8));have e2:=Sj (bc.aL.inj (dk (k 9))).1;rw[List.cons.injEq]at e2;rw[e,e2.1,e2.2]
def JY:Ev.bC:=cB 100 (cO Q1 anU cV) PR
def JZ:Ev.bC:=cB 99 (cO Q5 anZ cV) JY
theorem avD{l:bG}{i:Nat}(h:i<l.length):∃k n s m,l[i]=.mk k n s m∧((bw l).drop (i*4)).take 4=[J k,J n,.aa s,.aB (bw m) m.length 4]:=by have bU:=Hn h;generalize l[i]=u at*;obtain⟨k,n,s,m⟩:=u;exact⟨k,n,s,m,rfl,bU⟩
theorem apw(m:Em)(i r k n:Int)(s:LN)(cs:LV)(len:Nat)(q:List (Int×aK))(L:LT)(Q:QT):
 b_ Z PR (fun _=>[]) L Q 1000 100 [J i,.ad 0 0,.ad 1 0,.ad 2 0] (aq [(0,kf 3),(1,.ay [.ae 4 q.length 5] 151),(2,.ay [J r,J k,J n,.aa s,.aB cs len 4] 150),(3,fu m 5 6 7 8 9),(4,oa q),(5,fJ m),(6,eV m),(7,fg m),(8,e9 m),(9,eZ m)] 10)=(
 ∃w:Em,(([.ad 0 0]:LV)=[.ad 0 0]∧bT m=bT w)∧(∃ab:Em×ba,(([.ad 0 0,.aj [J 6,J w.bX.cG,J 0,J 0,.aa [],J 0]]:LV)=[.ad 0 0,.aj (bP ab.2)]∧bT w.bX=bT ab.1∧ab.1.aX.length<65536)∧(∃aI:Nat,i=(aI:Int)∧aI<len∧(∃aP:Int,∃bp:Int,∃dO:LN,∃cN:LV,∃cz:Nat,((cs.drop (aI*4)).take 4:LV)=[J aP,J bp,.aa dO,.aB cN cz 4]∧((iF q).length=q.length*5∧q.length+1<=65536∧true=true∧true=true)∧Q (.aO []) (aq [(0,kf 3),(1,.ay [.ae 10 (q.length+1) 5] 151),(2,.ay [J r,J k,J n,.aa s,.aB cs len 4] 150),(3,fu (ab.1.ah ab.2) 11 6 7 8 9),(4,.bJ []),(5,.bJ []),(6,eV (ab.1.ah ab.2)),(7,fg (ab.1.ah ab.2)),(8,e9 (ab.1.ah ab.2)),(9,eZ (ab.1.ah ab.2)),(10,.aL (iF q++[J w.bX.cG,J aP,J bp,.aa dO,.aB cN cz 4]) 150),(11,fJ (ab.1.ah ab.2))] 12))))):=by kernel_rfl
abbrev xG x0 x1 x2:=bk [(0,.ad 0 0),(2,.b9 (.func 100) [] [.ad 1 0,.ad 2 0,.ad 3 0]),(9,.aB x0 x1 4),(10,J (Int.ofNat x1)),(11,J x2)]
theorem auD(m:Em)(q:List (Int×aK))(c9:LV)(r k n:Int)(s:LN)(cs:LV)(len:Nat)(L:LT)(Q:QT):
 b_ Z JY (fun _=>[0,2,9,10,11]) L Q 1000 99 [.ad 0 0,.aj [J k,J n,.aa s,.aB cs len 4],.b9 (.func 100) [] [.ad 1 0,.ad 2 0,.ad 3 0]] (aq [(0,fu m 4 5 6 7 8),(1,kf 0),(2,.ay [.bB 9 5 q.length 0 5 false] 151),(3,.ay [J r,J k,J n,.aa s,.aB cs len 4] 150),(4,fJ m),(5,eV m),(6,fg m),(7,e9 m),(8,eZ m),(9,.aL c9 150)] 10)=(
 L (xG cs len 0) (aq [(0,fu m 4 5 6 7 8),(1,kf 0),(2,.ay [.bB 9 5 q.length 0 5 false] 151),(3,.ay [J r,J k,J n,.aa s,.aB cs len 4] 150),(4,fJ m),(5,eV m),(6,fg m),(7,e9 m),(8,eZ m),(9,.aL c9 150)] 10) (ao Z 99 0)):=by kernel_rfl
abbrev EA x0 x1 x2 x3 x4 x5 x6 x7 x8:=aq [(0,fu x0 10 5 6 7 8),(1,kf 0),(2,.ay [.ae 11 x1 5] 151),(3,.ay [J x2,J x3,J x4,.aa x5,.aB x6 x7 4] 150),(4,.bJ []),(5,eV x0),(6,fg x0),(7,e9 x0),(8,eZ x0),(9,.bJ []),(10,fJ x0),(11,oa x8)] 12
theorem auE(m:Em)(i:Int)(q:List (Int×aK))(r k n:Int)(s:LN)(cs:LV)(len:Nat)(L:LT)(Q:QT):
 cT Z JY (fun _=>[0,2,9,10,11]) L Q 1000 99 10 (xG cs len i) (ao Z 99 0) (EA m q.length r k n s cs len q)=(
 ai (decide (i<Int.ofNat len)) (∃aI:Nat,i=(aI:Int)∧aI<len∧(∃aP:Int,∃bp:Int,∃dO:LN,∃cN:LV,∃cz:Nat,((cs.drop (aI*4)).take 4:LV)=[J aP,J bp,.aa dO,.aB cN cz 4]∧ai (aP==0) (∃bI:Int,∃b:Bool,gf Z 2 3 (bK J 0 m.hJ) (J bp)=some (J bI,b)∧ai (decide (bI>1)) (∃w:Em×Int×Int×Int×Int,(([.ad 0 0,J bp,J 6,J 7,J 0]:LV)=[.ad 0 0,J w.2.1,J w.2.2.1,J w.2.2.2.1,J w.2.2.2.2]∧bT m=bT w.1∧w.1.aX.length<65536)∧L (xG cs len (wI (i+1))) (EA (w.1.fY w.2.1 w.2.2.1 w.2.2.2.1 w.2.2.2.2) q.length r k n s cs len q) (ao Z 99 0)) (∃w:Em×ba,(([.ad 0 0,.aj [J 10,J 0,J 0,J 1,.aa [],J 0]]:LV)=[.ad 0 0,.aj (bP w.2)]∧bT m=bT w.1∧w.1.aX.length<65536)∧L (xG cs len (wI (i+1))) (EA (w.1.ah w.2) q.length r k n s cs len q) (ao Z 99 0))) (ai (aP==1) (∃w:Em×ba,(([.ad 0 0,.aj [J 8,J 0,J 0,J bp,.aa [],J 0]]:LV)=[.ad 0 0,.aj (bP w.2)]∧bT m=bT w.1∧w.1.aX.length<65536)∧L (xG cs len (wI (i+1))) (EA (w.1.ah w.2) q.length r k n s cs len q) (ao Z 99 0)) (ai (aP==2) (∃w:Em×ba,(([.ad 0 0,.aj [J 9,J 0,J 0,J 0,.aa dO,J 0]]:LV)=[.ad 0 0,.aj (bP w.2)]∧bT m=bT w.1∧w.1.aX.length<65536)∧L (xG cs len (wI (i+1))) (EA (w.1.ah w.2) q.length r k n s cs len q) (ao Z 99 0)) (∃w:Em×List (Int×aK)×(Int×aK)×Nat,(([J i,.ad 0 0,.ad 1 0,.ad 2 0]:LV)=[J ((w.2.2.2:Nat):Int),.ad 0 0,.ad 1 0,.ad 2 0]∧aq [(0,kf 3),(1,.ay [.ae 4 q.length 5] 151),(2,.ay [J r,J k,J n,.aa s,.aB cs len 4] 150),(3,fu m 5 6 7 8 9),(4,oa q),(5,fJ m),(6,eV m),(7,fg m),(8,e9 m),(9,eZ m)] 10=LD w.1 w.2.1 w.2.2.1∧w.1.aX.length<65536∧w.2.1.length<65536∧w.2.2.2<w.2.2.1.2.cK.length)∧L (xG cs len (wI (i+1))) (aq [(0,.ay [.ae 10 (w.1.bX.ah {op:=6,r:=w.1.bX.cG,a:=0,n:=0,cR:=[],ar:=0}).aX.length 6,.aa (w.1.bX.ah {op:=6,r:=w.1.bX.cG,a:=0,n:=0,cR:=[],ar:=0}).f.aH.cL,J (w.1.bX.ah (ba.mk 6 w.1.bX.cG 0 0 [] 0)).f.aH.ar,J (w.1.bX.ah (ba.mk 6 w.1.bX.cG 0 0 [] 0)).f.aH.aM,.aB (bw (w.1.bX.ah {op:=6,r:=w.1.bX.cG,a:=0,n:=0,cR:=[],ar:=0}).f.aQ) (w.1.bX.ah {op:=6,r:=w.1.bX.cG,a:=0,n:=0,cR:=[],ar:=0}).f.aQ.length 4,.aB (ck (w.1.bX.ah {op:=6,r:=w.1.bX.cG,a:=0,n:=0,cR:=[],ar:=0}).f.au) (w.1.bX.ah {op:=6,r:=w.1.bX.cG,a:=0,n:=0,cR:=[],ar:=0}).f.au.length 6,.aS 5,.aS 6,.aS 7,.aS 8,J (w.1.bX.ah (ba.mk 6 w.1.bX.cG 0 0 [] 0)).cG,.aA (w.1.bX.ah (ba.mk 6 w.1.bX.cG 0 0 [] 0)).c_] 71),(1,kf 0),(2,.ay [.ae 11 (w.2.1++[Prod.mk w.1.bX.cG (List.getD w.2.2.1.2.cK w.2.2.2 Inhabited.default)]).length 5] 151),(3,wO w.2.2.1),(4,.bJ []),(5,eV (w.1.bX.ah {op:=6,r:=w.1.bX.cG,a:=0,n:=0,cR:=[],ar:=0})),(6,fg (w.1.bX.ah {op:=6,r:=w.1.bX.cG,a:=0,n:=0,cR:=[],ar:=0})),(7,e9 (w.1.bX.ah {op:=6,r:=w.1.bX.cG,a:=0,n:=0,cR:=[],ar:=0})),(8,eZ (w.1.bX.ah {op:=6,r:=w.1.bX.cG,a:=0,n:=0,cR:=[],ar:=0})),(9,.bJ []),(10,fJ (w.1.bX.ah {op:=6,r:=w.1.bX.cG,a:=0,n:=0,cR:=[],ar:=0})),(11,oa (w.2.1++[(w.1.bX.cG,List.getD w.2.2.1.2.cK w.2.2.2 default)]))] 12) (ao Z 99 0)))))) (Q (.aO []) (EA m q.length r k n s cs len q))):=by kernel_rfl
theorem aaU(q:List (Int×aK))(r k n:Int)(s:LN)(l:bG):iF (q++[(r,.mk k n s l)])=iF q++[J r,J k,J n,.aa s,.aB (bw l) l.length 4]:=by rw[aaT];rfl
theorem PT:bn Z JY:=by
 refine dc Ys ?_;rintro⟨m,q,⟨r,⟨k,n,s,l⟩⟩,i⟩ args H ⟨rfl,rfl,hl,hq,hi⟩;simp only at hl hq;have hi:i<l.length:=hi;refine eS Ys 1000 (fun _=>[]) 25 (by kernel_rfl) ?_;simp only[LD,wO,aK.cY,aK.n,aK.fZ,aK.cK];rw[apw];obtain⟨k',n',s',ts,he,bU⟩:=avD hi;refine⟨m,⟨rfl,rfl⟩,(m.bX,⟨6,m.bX.cG,0,0,[],0⟩),⟨rfl,rfl,hl⟩,i,rfl,hi,k',n',s',_,_,bU,⟨Hm q,by omega,rfl,rfl⟩,rfl,?_⟩;have hg:l.getD i default=.mk k' n' s' ts:=by simp[List.getD,jN hi,he]
 simp only[Q1,aeb,oa,wO,aK.cK,aK.cY,aK.n,aK.fZ,hg,aaU,bj,bR,cI,fD]
theorem ZI(m:Em)(t:aK):(m.hO t).1.aX.length+dw (m.hO t).2<=m.aX.length+2*cD t:=by
 have hp:=kJ t;unfold Em.hO;split
 ·split
  ·have:=O1 m t.n 6 7 0;simp only[dw];omega
  ·have:=ly m ⟨10,0,0,1,[],0⟩;simp only[dw];omega
 ·split
  ·have:=ly m ⟨8,0,0,t.n,[],0⟩;simp only[dw];omega
  ·split
   ·have:=ly m ⟨9,0,0,0,t.fZ,0⟩;simp only[dw];omega
   ·have:=ly m.bX ⟨6,m.bX.cG,0,0,[],0⟩;rw[G0]at this;obtain⟨k,n,s,l⟩:=t;simp only[dw,cD,aK.cK];omega
theorem Rc:∀(l:bG) (m:Em) (q:List (Int×aK)),(m.i_ q l).1.aX.length+dw (m.i_ q l).2<=m.aX.length+dw q+2*bh l
 |[],m,q=>by simp[Em.i_]
 |t::l,m,q=>by have h1:=ZI m t;have h2:=Rc l (m.hO t).1 (q++(m.hO t).2);rw[CB]at h2;simp only[Em.i_,bh];omega
section
variable{m:Em}{k n:Int}{s:LN}{ts:bG}
theorem ah8(hk:k=0)(hc:m.pI n>1):m.hO (.mk k n s ts)=(m.fY n 6 7 0,[]):=by simp[Em.hO,aK.cY,aK.n,hk,hc]
theorem ah9(hk:k=0)(hc:¬m.pI n>1):m.hO (.mk k n s ts)=(m.ah ⟨10,0,0,1,[],0⟩,[]):=by simp[Em.hO,aK.cY,aK.n,hk,hc]
theorem ah5(hk:k=1):m.hO (.mk k n s ts)=(m.ah ⟨8,0,0,n,[],0⟩,[]):=by simp[Em.hO,aK.cY,aK.n,hk]
theorem ah4(hk:k=2):m.hO (.mk k n s ts)=(m.ah ⟨9,0,0,0,s,0⟩,[]):=by simp[Em.hO,aK.cY,aK.fZ,hk]
theorem ah7(h0:k≠0)(h1:k≠1)(h2:k≠2):m.hO (.mk k n s ts)=(m.bX.ah ⟨6,m.bX.cG,0,0,[],0⟩,[(m.bX.cG,.mk k n s ts)]):=by simp[Em.hO,aK.cY,h0,h1,h2]
end
theorem auC{l:bG}{r k0 n0:Int}{s0:LN}{M:Em}{Qu:List (Int×aK)}(hl:eQ l.length)(ho:iS l):
 ∀p:Nat×Em×List (Int×aK),(p.1<=l.length∧p.2.1.aX.length+dw p.2.2+2*bh (l.drop p.1)<65536∧p.2.1.i_ p.2.2 (l.drop p.1)=(M,Qu))->
 bF Z 99 59 10 (.aO []) (IE M Qu (r,.mk k0 n0 s0 l)) (xG (bw l) l.length (p.1:Int)) (IE p.2.1 p.2.2 (r,.mk k0 n0 s0 l)) (ao Z 99 0):=by
 refine cX (fun p=>l.length-p.1) _ _ _ _ ?_;rintro⟨i,m,q⟩ ⟨hi,hc,hf⟩ ih;simp only at hi hc hf ih⊢;refine hD PT 1000 (fun _=>[0,2,9,10,11]) (by kernel_rfl) ?_;simp only[IE,wO,aK.cY,aK.n,aK.fZ,aK.cK];rw[auE];refine aY.2 ⟨fun an=>?_,fun a8=>?_⟩
 ·have an:i<l.length:=by simpa using an
  obtain⟨k,n,s,ts,he,bU,bq⟩:=oj an ho;rw[dv an,he]at hf hc;simp only[Em.i_,bh]at hf hc;refine⟨i,rfl,an,k,n,s,_,_,bU,?_⟩;rw[iA hl an];have bH:=ZI m (.mk k n s ts);have hq:=Vv q;have hp:=kJ (.mk k n s ts);have next:=ih (i+1,(m.hO (.mk k n s ts)).1,q++(m.hO (.mk k n s ts)).2) ⟨by simp;omega,by simp only[CB];omega,hf⟩ (by simp;omega)
  simp only at next
  obtain⟨c,b,h1,h2⟩:=Na m n;have hr:m.aX.length<65536:=by omega
  refine aY.2 ⟨fun hk=>?_,fun s9=>?_⟩
  ·have hk:k=0:=by simpa using hk
   refine⟨c,b,h1,aY.2 ⟨fun hc=>?_,fun hc=>?_⟩⟩
   ·have hc:c>1:=by simpa using hc
    rw[ah8 hk (by rw[h2];exact hc),gz]at next
    exact⟨(m,n,6,7,0),⟨rfl,rfl,hr⟩,next⟩
   ·have hc:¬c>1:=by simpa using hc
    rw[ah9 hk (by rw[h2];exact hc),gz]at next
    exact⟨(m,⟨10,0,0,1,[],0⟩),⟨rfl,rfl,hr⟩,next⟩
  ·have s9:k≠0:=by simpa using s9
   refine aY.2 ⟨fun hk=>?_,fun kX=>?_⟩
   ·have hk:k=1:=by simpa using hk
    rw[ah5 hk,gz]at next
    exact⟨(m,⟨8,0,0,n,[],0⟩),⟨rfl,rfl,hr⟩,next⟩
   ·have kX:k≠1:=by simpa using kX
    refine aY.2 ⟨fun hk=>?_,fun nZ=>?_⟩
    ·have hk:k=2:=by simpa using hk
     rw[ah4 hk,gz]at next
     exact⟨(m,⟨9,0,0,0,s,0⟩),⟨rfl,rfl,hr⟩,next⟩
    ·have nZ:k≠2:=by simpa using nZ
     rw[ah7 s9 kX nZ]at next
     have hg:l.getD i default=.mk k n s ts:=by simp[List.getD,jN an,he]
     rw[←hg]at next
     exact⟨(m,q,(r,.mk k0 n0 s0 l),i),⟨rfl,rfl,hr,by show q.length<65536;omega,an⟩,next⟩
 ·have a8:l.length<=i:=by simpa using a8
  rw[dV a8,Em.i_]at hf;cases hf;exact⟨rfl,rfl⟩
theorem anv(m:Em)(q:List (Int×aK))(w:Int×aK):Mv (BD m q w) (acQ m q w) 4:=
 oG (l':=[(0,fu m 10 5 6 7 8),(1,kf 0),(2,.ay [.bB 9 5 q.length 0 5 false] 151),(3,wO w),(4,.bJ []),(5,eV m),(6,fg m),(7,e9 m),(8,eZ m),(9,oa (w::q))]) rfl rfl rfl
theorem aje(m:Em)(q:List (Int×aK))(w:Int×aK):pX 10 (acQ m q w) (IE m q w) (fun φ bf=>φ 11=none∧bf=ow 9 5 11 φ):=by
 have h:=adM (m0:=10) (g:=9) (k:=5) (n:=11) (l:=[(0,fu m 10 5 6 7 8),(1,kf 0),(2,.ay [.bB 9 5 q.length 0 5 false] 151),(3,wO w),(4,.bJ []),(5,eV m),(6,fg m),(7,e9 m),(8,eZ m),(9,oa (w::q)),(10,fJ m)]) (l':=[(0,fu m 10 5 6 7 8),(1,kf 0),(2,.ay [.ae 11 q.length 5] 151),(3,wO w),(4,.bJ []),(5,eV m),(6,fg m),(7,e9 m),(8,eZ m),(9,.bJ []),(10,fJ m)]) (vs:=iF (w::q)) (el:=150) rfl rfl rfl (by rw[Hm];simp;omega);have e:(iF (w::q)).drop 5=iF q:=by rw[iF,←Ho w,v7]
 rw[e]at h;exact h
theorem PU:bn Z JZ:=by
 refine dc PT ?_;rintro⟨m,q,⟨r,⟨k,n,s,l⟩⟩⟩ args H ⟨rfl,rfl,hl,ho⟩;simp only[aK.cK]at hl;refine eS PT 1000 (fun _=>[0,2,9,10,11]) 59 (by kernel_rfl) ?_;simp only[Q5,dy,aK.cK,BD,wO,aK.cY,aK.n,aK.fZ];rw[oa,auD];refine qa (H:=BD m q (r,.mk k n s l)) (g:=4) ?_ (anv m q (r,.mk k n s l)) (by kernel_rfl) (t':=xG (bw l) l.length ((0:Nat):Int)) (fun i a' hi=>⟨a',hi,rk hi (by simp[eK,iV,jW,BD,aq])⟩);refine TL ?_ (aje m q (r,.mk k n s l)) (by kernel_rfl) (fun φ bf hR i a' hi=>⟨a',hi,fun x hx=>?_⟩) (t':=xG (bw l) l.length ((0:Nat):Int))
 ·exact auC ho.2.1 ho.2.2 (0,m,q) ⟨by simp,by simpa using hl,by simp⟩
 ·obtain⟨h1,rfl⟩:=hR;exact VR.qC (RZ h1) _ _ hx
def afu(m:Em)(w:Int×aK):Prop:=m.aX.length+dw [w]<65536∧eN w.2
def J0:Ev.bC:=cB 62 (cO (k7 aT Em.Bq afu) (si qI) cV) JZ
def LH(m:Em)(q:List (Int×aK)):AH:=aq [(0,fu m 8 2 3 4 5),(1,.bJ []),(2,eV m),(3,fg m),(4,e9 m),(5,eZ m),(6,kf 0),(7,.ay [.ae 9 q.length 5] 151),(8,fJ m),(9,oa q)] 10
abbrev Jo:=bk [(3,.ad 6 0),(6,.ad 7 0)]
theorem atj(m:Em)(a k n:Int)(s:LN)(cs:LV)(len:Nat)(L:LT)(Q:QT):
 b_ Z JZ (fun _=>[3,6]) L Q 1000 62 [.ad 0 0,J a,.aj [J k,J n,.aa s,.aB cs len 4]] (bT m)=(
 L (Jo) (aq [(0,fu m 1 2 3 4 5),(1,fJ m),(2,eV m),(3,fg m),(4,e9 m),(5,eZ m),(6,kf 0),(7,.ay [.bB 8 0 1 1 5 true] 151),(8,.ay [J a,J k,J n,.aa s,.aB cs len 4] 150)] 9) (ao Z 62 0)):=by kernel_rfl
theorem atk(m:Em)(q:List (Int×aK))(L:LT)(Q:QT):
 cT Z JZ (fun _=>[3,6]) L Q 1000 62 6 (Jo) (ao Z 62 0) (LH m q)=(
 ai (decide (Int.ofNat q.length>0)) (0<q.length∧(∃n:Int,∃aP:Int,∃bp:Int,∃s:LN,∃cs:LV,∃len:Nat,bA Z 150 (iF q) 0=some (.aj [J n,J aP,J bp,.aa s,.aB cs len 4]:AV)∧1<=q.length∧(1<=q.length∧q.length<=q.length)∧(∃w:Em×ba,(([.ad 0 0,.aj [J 5,J 0,J n,J 0,.aa s,J (Int.ofNat len)]]:LV)=[.ad 0 0,.aj (bP w.2)]∧bT m=bT w.1∧w.1.aX.length<65536)∧(∃ab:Em×List (Int×aK)×Int×aK,(([.ad 0 0,.aj [J aP,J bp,.aa s,.aB cs len 4],.b9 (.func 100) [] [.ad 1 0,.ad 2 0,.ad 3 0]]:LV)=[.ad 0 0,.aj (dy ab.2.2.2),.b9 (.func 100) [] [.ad 1 0,.ad 2 0,.ad 3 0]]∧aq [(0,fu (w.1.ah w.2) 4 5 6 7 8),(1,kf 0),(2,.ay [.bB 9 5 (q.length-1) 0 5 false] 151),(3,.ay [J n,J aP,J bp,.aa s,.aB cs len 4] 150),(4,fJ (w.1.ah w.2)),(5,eV (w.1.ah w.2)),(6,fg (w.1.ah w.2)),(7,e9 (w.1.ah w.2)),(8,eZ (w.1.ah w.2)),(9,oa q)] 10=BD ab.1 ab.2.1 ab.2.2∧ab.1.aX.length+dw ab.2.1+2*bh ab.2.2.2.cK<65536∧eN ab.2.2.2)∧L (Jo) (LH (ab.1.i_ ab.2.1 ab.2.2.2.cK).1 (ab.1.i_ ab.2.1 ab.2.2.2.cK).2) (ao Z 62 0))))) (Q (.aO []) (jU m))):=by kernel_rfl
theorem ZJ(m:Em)(t:aK):dw (m.hO t).2<=2*cD t:=by
 have hp:=kJ t;unfold Em.hO;split
 ·simp only[dw];omega
 ·split
  ·simp only[dw];omega
  ·split
   ·simp only[dw];omega
   ·obtain⟨k,n,s,l⟩:=t;simp only[dw,cD,aK.cK];omega
theorem ZP:∀(l:bG) (m:Em) (q:List (Int×aK)),dw (m.i_ q l).2<=dw q+2*bh l
 |[],m,q=>by simp[Em.i_]
 |t::l,m,q=>by have h1:=ZJ m t;have h2:=ZP l (m.hO t).1 (q++(m.hO t).2);rw[CB]at h2;simp only[Em.i_,bh];omega
theorem ah6{m:Em}{t:aK}(h:eN t):Ay (m.hO t).2:=by
 intro w hw;unfold Em.hO at hw;split at hw
 ·simp at hw
 ·split at hw
  ·simp at hw
  ·split at hw
   ·simp at hw
   ·simp at hw;subst hw;exact h
theorem ZO:∀{l:bG} {m:Em} {q:List (Int×aK)},iS l->Ay q->Ay (m.i_ q l).2
 |[],m,q,_,hq=>hq
 |t::l,m,q,hl,hq=>ZO (l:=l) hl.2 (fun w hw=>by
   rcases List.mem_append.1 hw with h|h
   ·exact hq w h
   ·exact ah6 hl.1 w h)
theorem aoh(a b c d e:AV)(l:LV):bA Z 150 (a::b::c::d::e::l) 0=some (.aj [a,b,c,d,e]):=by kernel_rfl
theorem abM:∀(n:Nat) (m:Em) (q:List (Int×aK)),(m.gD n q).aX.length<=m.aX.length+dw q
 |0,m,q=>by simp[Em.gD]
 |n+1,m,[]=>by simp[Em.gD]
 |n+1,m,w::q=>by have h0:=ly m ⟨5,0,w.1,0,w.2.fZ,w.2.cK.length⟩;have h1:=Rc w.2.cK (m.ah ⟨5,0,w.1,0,w.2.fZ,w.2.cK.length⟩) q;have h2:=abM n ((m.ah ⟨5,0,w.1,0,w.2.fZ,w.2.cK.length⟩).i_ q w.2.cK).1 ((m.ah ⟨5,0,w.1,0,w.2.fZ,w.2.cK.length⟩).i_ q w.2.cK).2;simp only[Em.gD,dw];omega
theorem ati{M:Em}:
 ∀p:Nat×Em×List (Int×aK),(dw p.2.2<p.1∧p.2.1.aX.length+dw p.2.2<65536∧Ay p.2.2∧p.2.1.gD p.1 p.2.2=M)->
 bF Z 62 39 6 (.aO []) (jU M) (Jo) (LH p.2.1 p.2.2) (ao Z 62 0):=by
 refine cX (fun p=>p.1) _ _ _ _ ?_;rintro⟨f,m,q⟩ ⟨hq,hc,ho,hf⟩ ih;simp only at hq hc ho hf ih⊢;refine hD PU 1000 (fun _=>[3,6]) (by kernel_rfl) ?_;rw[atk];obtain⟨f,rfl⟩:∃g,f=g+1:=⟨f-1,by omega⟩;cases q with
 |nil=>refine aY.2 ⟨fun h=>(by simp at h),fun _=>?_⟩;simp only[Em.gD]at hf;subst hf;exact⟨rfl,rfl⟩
 |cons w q=>refine aY.2 ⟨fun _=>?_,fun h=>absurd h (by simp)⟩;obtain⟨r,⟨k,n,s,l⟩⟩:=w;simp only[dw,aK.cK]at hq hc;simp only[Em.gD,aK.fZ,aK.cK]at hf;have bq:eN (.mk k n s l):=ho (r,.mk k n s l) (by simp);have h0:=ly m ⟨5,0,r,0,s,l.length⟩;have h1:=Rc l (m.ah ⟨5,0,r,0,s,l.length⟩) q;have h2:=ZP l (m.ah ⟨5,0,r,0,s,l.length⟩) q;refine⟨by simp,r,k,n,s,_,_,aoh _ _ _ _ _ _,by simp,⟨by simp,by simp⟩,(m,⟨5,0,r,0,s,l.length⟩),⟨rfl,rfl,by show m.aX.length<65536;omega⟩,(m.ah ⟨5,0,r,0,s,l.length⟩,q,(r,.mk k n s l)),⟨rfl,rfl,by simp only[aK.cK];omega,bq⟩,?_⟩;exact ih (f,((m.ah ⟨5,0,r,0,s,l.length⟩).i_ q l).1,((m.ah ⟨5,0,r,0,s,l.length⟩).i_ q l).2) ⟨by simp only;omega,by simp only;omega,ZO bq.2.2 (fun w hw=>ho w (by simp[hw])),hf⟩ (by simp)
def l62(m:Em)(w:Int×aK):List (Nat×bc):=[(0,fu m 1 2 3 4 5),(1,fJ m),(2,eV m),(3,fg m),(4,e9 m),(5,eZ m),(6,kf 0),(7,.ay [.bB 8 0 1 1 5 true] 151),(8,.ay (sV w) 150)]
def UY(m:Em)(w:Int×aK):AH:=aq [(0,fu m 1 2 3 4 5),(1,fJ m),(2,eV m),(3,fg m),(4,e9 m),(5,eZ m),(6,kf 0),(7,.ay [.ae 8 1 5] 151),(8,oa [w])] 9
def j62(m:Em)(w:Int×aK):AH:=aq [(0,fu m 9 2 3 4 5),(1,.bJ []),(2,eV m),(3,fg m),(4,e9 m),(5,eZ m),(6,kf 0),(7,.ay [.ae 8 1 5] 151),(8,oa [w]),(9,fJ m)] 10
theorem av7(m:Em)(w:Int×aK):pX 6 (aq (l62 m w) 9) (UY m w) (fun φ bf=>bf=φ):=by have h:=Nk (m0:=6) (g:=8) (n:=9) (l:=l62 m w) (old:=.ay (sV w) 150) (new:=oa [w]) rfl (fun φ e o h=>by have:=zj (jB:=150) (by obtain⟨r,⟨k,n,s,l⟩⟩:=w;rfl) h;simp only[oa,iF,gz];exact this) rfl;exact h
theorem anr(m:Em)(w:Int×aK):Mv (UY m w) (j62 m w) 1:=
 oG (l':=[(0,fu m 9 2 3 4 5),(1,.bJ []),(2,eV m),(3,fg m),(4,e9 m),(5,eZ m),(6,kf 0),(7,.ay [.ae 8 1 5] 151),(8,oa [w])]) rfl rfl rfl
def On:Tr AV:=Jo
def aeO:List (Nat×Nat):=[(0,0),(1,1),(2,2),(3,3),(4,4),(5,5),(6,6),(7,7),(9,8),(8,9)]
theorem avR(m:Em)(w:Int×aK):om 6 [6,7] (j62 m w)=some ⟨aeO,LH m [w]⟩:=by kernel_rfl
theorem avY:tE (jS aeO) On [3,6]=some On:=by kernel_rfl
theorem PW:bn Z J0:=by refine dc PU ?_;rintro⟨m,a,⟨k,n,s,l⟩⟩ args H ⟨rfl,rfl,hc,ho⟩;refine eS PU 1000 (fun _=>[3,6]) 39 (by kernel_rfl) ?_;simp only[k7,aT,dy];rw[atj];refine TL (R:=fun φ bf=>bf=φ) ?_ (av7 m (a,.mk k n s l)) (by kernel_rfl) (fun φ bf hR i a' hi=>⟨a',hi,fun x hx=>by rw[hR];exact hx⟩) (t':=On);refine qa (t':=On) (g:=1) ?_ (anr m (a,.mk k n s l)) (by kernel_rfl) (fun i a' hi=>⟨a',hi,rk hi (by simp[eK,jW,UY,aq])⟩);refine dN.rE (by kernel_rfl) (avR m (a,.mk k n s l)) avY ?_;exact ati (dw [(a,.mk k n s l)]+1,m,[(a,.mk k n s l)]) ⟨by simp,hc,by intro w hw;simp at hw;subst hw;exact ho,rfl⟩
def Em.nO(m:Em)(w:Int×aK):Em:=
 if w.2.cY=0 then m.vn w else if w.2.cY=1 then m.Hv w else if w.2.cY=2 then m.Hu w else m.Bq w
def Em.dJ:Nat->Em->bG->Em
 |_,m,[]=>m
 |i,m,t::l=>Em.dJ (i+1) (m.nO (((i+1:Nat):Int),t)) l
def a0(_:Unit):LV:=[]
def W2(m:Em)(_:Unit):Prop:=m.aX.length+2*bh m.f.aQ+1<65536∧eQ m.f.aQ.length∧iS m.f.aQ∧Ax m.f.aQ
def J1:Ev.bC:=cB 27 (cO (k7 a0 (fun m _=>m.dJ 0 m.f.aQ) W2) (si (fun _ _ _=>rfl)) cV) J0
def Bx(m:Em):AH:=aq [(0,fu m 7 2 3 4 5),(1,.bJ []),(2,eV m),(3,fg m),(4,e9 m),(5,eZ m),(6,Af 59 60 61 62),(7,fJ m)] 8
abbrev AN x0 x1 x2:=bk [(2,.ad 6 0),(18,.aB x0 x1 4),(19,J (Int.ofNat x1)),(20,J x2)]
theorem ar7(m:Em)(L:LT)(Q:QT):
 b_ Z J0 (fun _=>[2,18,19,20]) L Q 1000 27 [.ad 0 0] (bT m)=(
 L (AN (bw m.f.aQ) m.f.aQ.length 0) (aq [(0,fu m 1 2 3 4 5),(1,fJ m),(2,eV m),(3,fg m),(4,e9 m),(5,eZ m),(6,Af 59 60 61 62)] 7) (ao Z 27 0)):=by kernel_rfl
theorem ar8(m:Em)(i:Int)(cs:LV)(len:Nat)(L:LT)(Q:QT):
 cT Z J0 (fun _=>[2,18,19,20]) L Q 1000 27 6 (AN cs len i) (ao Z 27 0) (Bx m)=(
 ai (decide (i<Int.ofNat len)) (∃aI:Nat,i=(aI:Int)∧aI<len∧(∃n:Int,∃aP:Int,∃s:LN,∃cN:LV,∃cz:Nat,((cs.drop (aI*4)).take 4:LV)=[J n,J aP,.aa s,.aB cN cz 4]∧((0:Int)<=n∧n<4)∧(n=0->(∃w:Em×Int×aK,(([.ad 0 0,J (wI (i+1)),.aj [J n,J aP,.aa s,.aB cN cz 4]]:LV)=[.ad 0 0,J w.2.1,.aj (dy w.2.2)]∧bT m=bT w.1∧sv w.1 w.2)∧L (AN cs len (wI (i+1))) (Bx (w.1.vn w.2)) (ao Z 27 0)))∧(n=1->(∃w:Em×Int×aK,(([.ad 0 0,J (wI (i+1)),.aj [J n,J aP,.aa s,.aB cN cz 4]]:LV)=[.ad 0 0,J w.2.1,.aj (dy w.2.2)]∧bT m=bT w.1∧sv w.1 w.2)∧L (AN cs len (wI (i+1))) (Bx (w.1.Hv w.2)) (ao Z 27 0)))∧(n=2->(∃w:Em×Int×aK,(([.ad 0 0,J (wI (i+1)),.aj [J n,J aP,.aa s,.aB cN cz 4]]:LV)=[.ad 0 0,J w.2.1,.aj (dy w.2.2)]∧bT m=bT w.1∧sv w.1 w.2)∧L (AN cs len (wI (i+1))) (Bx (w.1.Hu w.2)) (ao Z 27 0)))∧(n=3->(∃w:Em×Int×aK,(([.ad 0 0,J (wI (i+1)),.aj [J n,J aP,.aa s,.aB cN cz 4]]:LV)=[.ad 0 0,J w.2.1,.aj (dy w.2.2)]∧bT m=bT w.1∧afu w.1 w.2)∧L (AN cs len (wI (i+1))) (Bx (w.1.Bq w.2)) (ao Z 27 0)))∧True)) (Q (.aO []) (jU m))):=by kernel_rfl
theorem akF(m:Em)(w:Int×aK):(m.nO w).aX.length<=m.aX.length+2*cD w.2:=by
 have hp:=kJ w.2;unfold Em.nO;split
 ·unfold Em.vn;split
  ·have:=O1 m w.2.n 1 2 w.1;omega
  ·omega
 ·split
  ·have:=ly m ⟨3,0,w.1,w.2.n,[],0⟩;unfold Em.Hv;omega
  ·split
   ·have:=ly m ⟨4,0,w.1,0,w.2.fZ,0⟩;unfold Em.Hu;omega
   ·have:=abM (dw [w]+1) m [w];obtain⟨r,⟨k,n,s,l⟩⟩:=w;unfold Em.Bq;simp only[dw,cD,aK.cK]at this⊢;omega
section
variable{m:Em}{k n a:Int}{s:LN}{ts:bG}
theorem akH(hk:k=0):m.nO (a,.mk k n s ts)=m.vn (a,.mk k n s ts):=by simp[Em.nO,aK.cY,hk]
theorem akE(hk:k=1):m.nO (a,.mk k n s ts)=m.Hv (a,.mk k n s ts):=by simp[Em.nO,aK.cY,hk]
theorem akC(hk:k=2):m.nO (a,.mk k n s ts)=m.Hu (a,.mk k n s ts):=by simp[Em.nO,aK.cY,hk]
theorem akG(hk:k=3):m.nO (a,.mk k n s ts)=m.Bq (a,.mk k n s ts):=by simp[Em.nO,aK.cY,hk]
end
theorem ar6{l:bG}{M:Em}(hl:eQ l.length)(ho:iS l)(hk:Ax l):
 ∀p:Nat×Em,(p.1<=l.length∧p.2.aX.length+2*bh (l.drop p.1)+1<65536∧Em.dJ p.1 p.2 (l.drop p.1)=M)->
 bF Z 27 34 6 (.aO []) (jU M) (AN (bw l) l.length (p.1:Int)) (Bx p.2) (ao Z 27 0):=by
 refine cX (fun p=>l.length-p.1) _ _ _ _ ?_;rintro⟨i,m⟩ ⟨hi,hc,hf⟩ ih;simp only at hi hc hf ih⊢;refine hD PW 1000 (fun _=>[2,18,19,20]) (by kernel_rfl) ?_;rw[ar8];refine aY.2 ⟨fun an=>?_,fun a8=>?_⟩
 ·have an:i<l.length:=by simpa using an
  obtain⟨k,n,s,ts,he,bU,bq⟩:=oj an ho;have vD:=hk l[i] (xC an);rw[he]at vD;simp only[aK.cY]at vD;rw[dv an,he]at hf hc;simp only[Em.dJ,bh]at hf hc;have uh:=kJ (.mk k n s ts);have bH:=akF m (((i+1:Nat):Int),.mk k n s ts);simp only at bH;have hr:m.aX.length<65536:=by omega
  have yE:m.aX.length+dw [(((i+1:Nat):Int),aK.mk k n s ts)]<65536:=by simp only[dw,aK.cK,cD]at hc⊢;omega
  have next:=ih (i+1,m.nO (((i+1:Nat):Int),.mk k n s ts)) ⟨by simp;omega,by simp only;omega,hf⟩ (by simp;omega)
  refine⟨i,rfl,an,k,n,s,_,_,bU,vD,?_⟩;rw[iA hl an];refine⟨fun h=>?_,fun h=>?_,fun h=>?_,fun h=>?_,trivial⟩
  ·rw[akH h]at next
   exact⟨(m,((i+1:Nat):Int),.mk k n s ts),⟨rfl,rfl,hr⟩,next⟩
  ·rw[akE h]at next
   exact⟨(m,((i+1:Nat):Int),.mk k n s ts),⟨rfl,rfl,hr⟩,next⟩
  ·rw[akC h]at next
   exact⟨(m,((i+1:Nat):Int),.mk k n s ts),⟨rfl,rfl,hr⟩,next⟩
  ·rw[akG h]at next
   exact⟨(m,((i+1:Nat):Int),.mk k n s ts),⟨rfl,rfl,yE,bq⟩,next⟩
 ·have a8:l.length<=i:=by simpa using a8
  rw[dV a8,Em.dJ]at hf;subst hf;exact⟨rfl,rfl⟩
def TT(m:Em):AH:=aq [(0,fu m 1 2 3 4 5),(1,fJ m),(2,eV m),(3,fg m),(4,e9 m),(5,eZ m),(6,Af 59 60 61 62)] 7
theorem anp(m:Em):Mv (TT m) (Bx m) 1:=
 oG (l':=[(0,fu m 7 2 3 4 5),(1,.bJ []),(2,eV m),(3,fg m),(4,e9 m),(5,eZ m),(6,Af 59 60 61 62)]) rfl rfl rfl
theorem PX:bn Z J1:=by refine dc PW ?_;rintro⟨m,u⟩ args H ⟨rfl,rfl,hc,hl,ho,hk⟩;refine eS PW 1000 (fun _=>[2,18,19,20]) 34 (by kernel_rfl) ?_;simp only[k7,a0];rw[ar7];refine qa (H:=TT m) (t':=AN (bw m.f.aQ) m.f.aQ.length ((0:Nat):Int)) (g:=1) ?_ (anp m) (by kernel_rfl) (fun i a' hi=>⟨a',hi,rk hi (by simp[eK,iV,jW,TT,aq])⟩);exact ar6 hl ho hk (0,m) ⟨by simp,by simp only[hI];omega,by simp⟩
end
end Go.Cl
