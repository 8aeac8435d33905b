/- Part of a proof of ClauseValid. -/
import Derived.Test.YtanclcoobcaemaaGreatVB1
set_option linter.all false
set_option linter.unusedSectionVars false
set_option maxRecDepth 100000
namespace Go.Cl
open Go.Ev Go.Proofs
noncomputable section
def kJ{W:Type}(args:W->LV)(step:Em->W->Em)(ok:Em->W->Prop):dp (Em×W)where
 ba w A H:=A=.ab 0 0::args w.2∧H=bK w.1∧ok w.1 w.2
 v w:=.aJ []
 aN w:=jv (step w.1 w.2)
theorem rE{W:Type}{args:W->LV}{step:Em->W->Em}{ok:Em->W->Prop}(hi:∀a b,args a=args b->a=b):(kJ args step ok).dx:=by rintro⟨m,w⟩ ⟨m',w'⟩ A H ⟨h1,h2,_⟩ ⟨h3,h4,_⟩;simp only at h1 h2 h3 h4;rw[h2]at h4;rw[h1]at h3;rw[GQ h4,hi _ _ (List.cons.inj h3).2]
def Em.qX(m:Em)(v:Int):Int:=(lk v m.gF).getD 0
def aT(w:Int×aK):LV:=[J w.1,.au (cR w.2)]
theorem vt(a b:Int×aK)(h:aT a=aT b):a=b:=by obtain⟨a,t⟩:=a;obtain⟨b,u⟩:=b;simp only[aT,List.cons.injEq,AV.ck.injEq,AV.au.injEq,true_and,and_true]at h;rw[h.1,uz h.2]
def rN{W:Type}(m:Em)(_:W):Prop:=m.aM.length<65536
def VK{W:Type}(m:Em)(_:W):Prop:=m.aM.length<65535
def Em.sa(m:Em)(w:Int×aK):Em:=if m.qX w.2.n>1 then m.gO w.2.n 1 2 w.1 else m
def Em.DQ(m:Em)(w:Int×aK):Em:=m.aE ⟨3,0,w.1,w.2.n,[],0⟩
def Em.DP(m:Em)(w:Int×aK):Em:=m.aE ⟨4,0,w.1,0,w.2.f_,0⟩
def Em.rL(m:Em)(w:Int×aK):Em:=if m.qX w.2.n>1 then m.gO w.2.n 11 12 w.1 else m.aE ⟨11,w.1,w.1,0,[],0⟩
def Em.Fq(m:Em)(w:Int×aK):Em:=m.aE ⟨13,0,w.1,w.2.n,[],0⟩
def Em.Fp(m:Em)(w:Int×aK):Em:=m.aE ⟨14,0,w.1,0,w.2.f_,0⟩
def aV(w:Int×Int):LV:=[J w.1,J w.2]
theorem ah0(a b:Int×Int)(h:aV a=aV b):a=b:=by obtain⟨a,t⟩:=a;obtain⟨b,u⟩:=b;simp only[aV,List.cons.injEq,AV.ck.injEq,true_and,and_true]at h;rw[h.1,h.2]
def a1(v:Int):LV:=[J v]
theorem ahY(a b:Int)(h:a1 a=a1 b):a=b:=by cases h;rfl
def Em.jj(m:Em)(w:Int×Int):Em:=bif m.ei w.2 then
 ((m.bq.aE ⟨w.1,m.bq.bT,0,0,[],0⟩).eH w.2).aE ⟨2,(m.bq.aE ⟨w.1,m.bq.bT,0,0,[],0⟩).ej w.2,m.bq.bT,0,[],0⟩
 else((m.eH w.2).aE ⟨w.1,m.ej w.2,0,0,[],0⟩).l9 w.2
def Em.ml(m:Em)(v:Int):Em:=bif m.ei v then(m.eH v).aE ⟨24,m.ej v,0,0,[],0⟩else m
def OQ:Ev.bz:=cz 59 (cM (kJ aT Em.sa rN) (rE vt) cZ) ON
def OS:Ev.bz:=cz 60 (cM (kJ aT Em.DQ rN) (rE vt) cZ) OQ
def OT:Ev.bz:=cz 61 (cM (kJ aT Em.DP rN) (rE vt) cZ) OS
def OU:Ev.bz:=cz 103 (cM (kJ aT Em.rL rN) (rE vt) cZ) OT
def OV:Ev.bz:=cz 104 (cM (kJ aT Em.Fq rN) (rE vt) cZ) OU
def OW:Ev.bz:=cz 105 (cM (kJ aT Em.Fp rN) (rE vt) cZ) OV
def OX:Ev.bz:=cz 64 (cM (kJ aV Em.jj VK) (rE ah0) cZ) OW
def OZ:Ev.bz:=cz 65 (cM (kJ a1 Em.ml rN) (rE ahY) cZ) OX
theorem afR(m:Em)(a k n:Int)(s:LN)(cs:LV)(len:Nat)(L:LT)(Q:QT):
 b8 Z ON (fun _=>[]) L Q 1000 59 [.ab 0 0,J a,.au [J k,J n,.aa s,.ax cs len 4]] (bK m)=(
 ∃aL:Int,∃b:Bool,fX Z 2 3 (bM J 0 m.gF) (J n)=some (J aL,b)∧ah (decide (aL>1)) (∃w:Em×Int×Int×Int×Int,(([.ab 0 0,J n,J 1,J 2,J a]:LV)=[.ab 0 0,J w.2.1,J w.2.2.1,J w.2.2.2.1,J w.2.2.2.2]∧bK m=bK w.1∧w.1.aM.length<65536)∧Q (.aJ []) (jv (w.1.gO w.2.1 w.2.2.1 w.2.2.2.1 w.2.2.2.2))) (Q (.aJ []) (bK m))):=by kernel_rfl
theorem atK(m:Em)(a k n:Int)(s:LN)(cs:LV)(len:Nat)(L:LT)(Q:QT):
 b8 Z OQ (fun _=>[]) L Q 1000 60 [.ab 0 0,J a,.au [J k,J n,.aa s,.ax cs len 4]] (bK m)=(
 ∃w:Em×a9,(([.ab 0 0,.au [J 3,J 0,J a,J n,.aa [],J 0]]:LV)=[.ab 0 0,.au (cb w.2)]∧bK m=bK w.1∧w.1.aM.length<65536)∧Q (.aJ []) (jv (w.1.aE w.2))):=by kernel_rfl
theorem atL(m:Em)(a k n:Int)(s:LN)(cs:LV)(len:Nat)(L:LT)(Q:QT):
 b8 Z OS (fun _=>[]) L Q 1000 61 [.ab 0 0,J a,.au [J k,J n,.aa s,.ax cs len 4]] (bK m)=(
 ∃w:Em×a9,(([.ab 0 0,.au [J 4,J 0,J a,J 0,.aa s,J 0]]:LV)=[.ab 0 0,.au (cb w.2)]∧bK m=bK w.1∧w.1.aM.length<65536)∧Q (.aJ []) (jv (w.1.aE w.2))):=by kernel_rfl
theorem apZ(m:Em)(a k n:Int)(s:LN)(cs:LV)(len:Nat)(L:LT)(Q:QT):
 b8 Z OT (fun _=>[]) L Q 1000 103 [.ab 0 0,J a,.au [J k,J n,.aa s,.ax cs len 4]] (bK m)=(
 ∃aL:Int,∃b:Bool,fX Z 2 3 (bM J 0 m.gF) (J n)=some (J aL,b)∧ah (decide (aL>1)) (∃w:Em×Int×Int×Int×Int,(([.ab 0 0,J n,J 11,J 12,J a]:LV)=[.ab 0 0,J w.2.1,J w.2.2.1,J w.2.2.2.1,J w.2.2.2.2]∧bK m=bK w.1∧w.1.aM.length<65536)∧Q (.aJ []) (jv (w.1.gO w.2.1 w.2.2.1 w.2.2.2.1 w.2.2.2.2))) (∃w:Em×a9,(([.ab 0 0,.au [J 11,J a,J a,J 0,.aa [],J 0]]:LV)=[.ab 0 0,.au (cb w.2)]∧bK m=bK w.1∧w.1.aM.length<65536)∧Q (.aJ []) (jv (w.1.aE w.2)))):=by kernel_rfl
theorem ap1(m:Em)(a k n:Int)(s:LN)(cs:LV)(len:Nat)(L:LT)(Q:QT):
 b8 Z OU (fun _=>[]) L Q 1000 104 [.ab 0 0,J a,.au [J k,J n,.aa s,.ax cs len 4]] (bK m)=(
 ∃w:Em×a9,(([.ab 0 0,.au [J 13,J 0,J a,J n,.aa [],J 0]]:LV)=[.ab 0 0,.au (cb w.2)]∧bK m=bK w.1∧w.1.aM.length<65536)∧Q (.aJ []) (jv (w.1.aE w.2))):=by kernel_rfl
theorem ap2(m:Em)(a k n:Int)(s:LN)(cs:LV)(len:Nat)(L:LT)(Q:QT):
 b8 Z OV (fun _=>[]) L Q 1000 105 [.ab 0 0,J a,.au [J k,J n,.aa s,.ax cs len 4]] (bK m)=(
 ∃w:Em×a9,(([.ab 0 0,.au [J 14,J 0,J a,J 0,.aa s,J 0]]:LV)=[.ab 0 0,.au (cb w.2)]∧bK m=bK w.1∧w.1.aM.length<65536)∧Q (.aJ []) (jv (w.1.aE w.2))):=by kernel_rfl
theorem atP(m:Em)(op v:Int)(L:LT)(Q:QT):
 b8 Z OW (fun _=>[]) L Q 1000 64 [.ab 0 0,J op,J v] (bK m)=(
 ∃b:Bool,∃jD:Bool,fX Z 2 4 (bM vB 0 m.du) (J v)=some (.ai b,jD)∧ah (!b) (∃w:Em×Int,(([.ab 0 0,J v]:LV)=[.ab 0 0,J w.2]∧bK m=bK w.1)∧(∃ae:Em×a9,(([.ab 0 0,.au [J op,J (w.1.ej w.2),J 0,J 0,.aa [],J 0]]:LV)=[.ab 0 0,.au (cb ae.2)]∧bK (w.1.eH w.2)=bK ae.1∧ae.1.aM.length<65536)∧(∃bw:List (AV×AV×Nat),∃c':Nat,jc Z 2 (bM vB 0 (ae.1.aE ae.2).du) (ae.1.aE ae.2).du.length (J v) (.ai true)=some (bw,c')∧Q (.aJ []) (an [(0,.aw [.ad 6 (ae.1.aE ae.2).aM.length 6,.aa (ae.1.aE ae.2).f.ay.ca,J (ae.1.aE ae.2).f.ay.ar,J (ae.1.aE ae.2).f.ay.aC,.ax (aP (ae.1.aE ae.2).f.aO) (ae.1.aE ae.2).f.aO.length 4,.ax (bN (ae.1.aE ae.2).f.aA) (ae.1.aE ae.2).f.aA.length 6,.aH 2,.aH 3,.aH 4,.aH 5,J (ae.1.aE ae.2).bT,.ai (ae.1.aE ae.2).gN] 71),(1,.b9 []),(2,.bC (bM J 0 (ae.1.aE ae.2).gF) (ae.1.aE ae.2).gF.length true),(3,.bC (bM J 0 (ae.1.aE ae.2).a8) (ae.1.aE ae.2).a8.length true),(4,.bC (bM J 0 (ae.1.aE ae.2).dZ) (ae.1.aE ae.2).dZ.length true),(5,.bC bw c' true),(6,.aF (cw (ae.1.aE ae.2).aM) 50)] 7)))) (∃w:Em,(([.ab 0 0]:LV)=[.ab 0 0]∧bK m=bK w)∧(∃ae:Em×a9,(([.ab 0 0,.au [J op,J w.bq.bT,J 0,J 0,.aa [],J 0]]:LV)=[.ab 0 0,.au (cb ae.2)]∧bK w.bq=bK ae.1∧ae.1.aM.length<65536)∧(∃bh:Em×Int,(([.ab 0 0,J v]:LV)=[.ab 0 0,J bh.2]∧bK (ae.1.aE ae.2)=bK bh.1)∧(∃dQ:Em×a9,(([.ab 0 0,.au [J 2,J (bh.1.ej bh.2),J w.bq.bT,J 0,.aa [],J 0]]:LV)=[.ab 0 0,.au (cb dQ.2)]∧bK (bh.1.eH bh.2)=bK dQ.1∧dQ.1.aM.length<65536)∧Q (.aJ []) (jv (dQ.1.aE dQ.2))))))):=by kernel_rfl
theorem afU(m:Em)(v:Int)(L:LT)(Q:QT):
 b8 Z OX (fun _=>[]) L Q 1000 65 [.ab 0 0,J v] (bK m)=(
 ∃b:Bool,∃jD:Bool,fX Z 2 4 (bM vB 0 m.du) (J v)=some (.ai b,jD)∧ah b (∃w:Em×Int,(([.ab 0 0,J v]:LV)=[.ab 0 0,J w.2]∧bK m=bK w.1)∧(∃ae:Em×a9,(([.ab 0 0,.au [J 24,J (w.1.ej w.2),J 0,J 0,.aa [],J 0]]:LV)=[.ab 0 0,.au (cb ae.2)]∧bK (w.1.eH w.2)=bK ae.1∧ae.1.aM.length<65536)∧Q (.aJ []) (jv (ae.1.aE ae.2)))) (Q (.aJ []) (bK m))):=by kernel_rfl
theorem Mu(m:Em)(v:Int):∃n:Int,∃b:Bool,fX Z 2 3 (bM J 0 m.gF) (J v)=some (J n,b)∧m.qX v=n:=by
 rw[sq _ nv];unfold Em.qX;cases lk v m.gF with
 |none=>exact⟨0,false,by rw[FY];rfl,rfl⟩
 |some b=>exact⟨b,true,rfl,rfl⟩
theorem adf(m:Em)(v:Int):∃b:Bool,∃jD:Bool,fX Z 2 4 (bM vB 0 m.du) (J v)=some (.ai b,jD)∧m.ei v=b:=by
 rw[sq _ nv];unfold Em.ei;cases lk v m.du with
 |none=>exact⟨false,false,by rw[Xl];rfl,rfl⟩
 |some b=>exact⟨b,true,rfl,rfl⟩
theorem aay{f:FuncId}{args:LV}{m0 m:Em}(h:dT Z f args (bK m0) (.aJ []) (bK m)):dT Z f args (bK m0) (.aJ []) (jv m):=
 Rr h (aak m) (by simp[fi,iN]) (fB _)
theorem axN{f:FuncId}{args:LV}{H0 H H':AH}{v v':AV}(h:dT Z f args H0 v H)(hv:v=v')(e:H=H'):dT Z f args H0 v' H':=by rw[←e,←hv];exact h
theorem Xx:bm Z OQ:=by
 refine de OO ?_;rintro⟨m,a,⟨k,n,s,l⟩⟩ args H ⟨rfl,rfl,hl⟩;simp only[kJ,aT,cR];obtain⟨c,b,h1,h2⟩:=Mu m n;by_cases hc:c>1
 ·refine eS OO 1000 (fun _=>[]) 19 (by kernel_rfl) ?_;rw[afR];refine⟨c,b,h1,aI.2 ⟨fun h=>⟨(m,n,1,2,a),⟨rfl,rfl,hl⟩,rfl,?_⟩,fun h=>absurd hc (by simpa using h)⟩⟩;have:m.sa (a,.mk k n s l)=m.gO n 1 2 a:=aY (by rw[show(aK.mk k n s l).n=n from rfl,h2];exact hc);rw[this]
 ·have:m.sa (a,.mk k n s l)=m:=aB (by rw[show(aK.mk k n s l).n=n from rfl,h2];exact hc);rw[this];refine aay ?_;refine eS OO 1000 (fun _=>[]) 19 (by kernel_rfl) ?_;rw[afR];exact⟨c,b,h1,aI.2 ⟨fun h=>absurd (by simpa using h) hc,fun h=>⟨rfl,rfl⟩⟩⟩
theorem Xy:bm Z OS:=by refine de Xx ?_;rintro⟨m,a,⟨k,n,s,l⟩⟩ args H ⟨rfl,rfl,hl⟩;refine eS Xx 1000 (fun _=>[]) 14 (by kernel_rfl) ?_;simp only[kJ,aT,cR];rw[atK];exact⟨(m,⟨3,0,a,n,[],0⟩),⟨rfl,rfl,hl⟩,rfl,rfl⟩
theorem Xz:bm Z OT:=by refine de Xy ?_;rintro⟨m,a,⟨k,n,s,l⟩⟩ args H ⟨rfl,rfl,hl⟩;refine eS Xy 1000 (fun _=>[]) 14 (by kernel_rfl) ?_;simp only[kJ,aT,cR];rw[atL];exact⟨(m,⟨4,0,a,0,s,0⟩),⟨rfl,rfl,hl⟩,rfl,rfl⟩
theorem XA:bm Z OU:=by
 refine de Xz ?_;rintro⟨m,a,⟨k,n,s,l⟩⟩ args H ⟨rfl,rfl,hl⟩;simp only[kJ,aT,cR];obtain⟨c,b,h1,h2⟩:=Mu m n;refine eS Xz 1000 (fun _=>[]) 26 (by kernel_rfl) ?_;rw[apZ];refine⟨c,b,h1,aI.2 ⟨fun h=>⟨(m,n,11,12,a),⟨rfl,rfl,hl⟩,rfl,?_⟩,fun h=>⟨(m,⟨11,a,a,0,[],0⟩),⟨rfl,rfl,hl⟩,rfl,?_⟩⟩⟩
 ·have hc:c>1:=by simpa using h
  have:m.rL (a,.mk k n s l)=m.gO n 11 12 a:=aY (by rw[show(aK.mk k n s l).n=n from rfl,h2];exact hc);rw[this]
 ·have hc:¬c>1:=by simpa using h
  have:m.rL (a,.mk k n s l)=m.aE ⟨11,a,a,0,[],0⟩:=aB (by rw[show(aK.mk k n s l).n=n from rfl,h2];exact hc);rw[this]
theorem XB:bm Z OV:=by refine de XA ?_;rintro⟨m,a,⟨k,n,s,l⟩⟩ args H ⟨rfl,rfl,hl⟩;refine eS XA 1000 (fun _=>[]) 14 (by kernel_rfl) ?_;simp only[kJ,aT,cR];rw[ap1];exact⟨(m,⟨13,0,a,n,[],0⟩),⟨rfl,rfl,hl⟩,rfl,rfl⟩
theorem XC:bm Z OW:=by refine de XB ?_;rintro⟨m,a,⟨k,n,s,l⟩⟩ args H ⟨rfl,rfl,hl⟩;refine eS XB 1000 (fun _=>[]) 14 (by kernel_rfl) ?_;simp only[kJ,aT,cR];rw[ap2];exact⟨(m,⟨14,0,a,0,s,0⟩),⟨rfl,rfl,hl⟩,rfl,rfl⟩
theorem OY:bm Z OX:=by
 refine de XC ?_;rintro⟨m,op,v⟩ args H ⟨rfl,rfl,hl⟩;have hl:m.aM.length<65535:=hl;refine eS XC 1000 (fun _=>[]) 46 (by kernel_rfl) ?_;simp only[kJ,aV];rw[atP];obtain⟨b,b1,h1,h2⟩:=adf m v;refine⟨b,b1,h1,aI.2 ⟨fun h=>?_,fun h=>?_⟩⟩
 ·have h:b=false:=by simpa using h
  have:m.jj (op,v)=((m.eH v).aE ⟨op,m.ej v,0,0,[],0⟩).l9 v:=by simp only[Em.jj,h2,h,cond_false]
  rw[this];exact⟨(m,v),⟨rfl,rfl⟩,(m.eH v,⟨op,m.ej v,0,0,[],0⟩),⟨rfl,rfl,by show m.aM.length<65536;omega⟩,_,_,qb vB nv,rfl,rfl⟩
 ·have h:b=true:=by simpa using h
  have:m.jj (op,v)=((m.bq.aE ⟨op,m.bq.bT,0,0,[],0⟩).eH v).aE ⟨2,(m.bq.aE ⟨op,m.bq.bT,0,0,[],0⟩).ej v,m.bq.bT,0,[],0⟩:=by simp only[Em.jj,h2,h,cond_true]
  rw[this];have bF:=AM m.aM ⟨op,m.bq.bT,0,0,[],0⟩;exact⟨m,⟨rfl,rfl⟩,(m.bq,⟨op,m.bq.bT,0,0,[],0⟩),⟨rfl,rfl,by show m.aM.length<65536;omega⟩,(m.bq.aE ⟨op,m.bq.bT,0,0,[],0⟩,v),⟨rfl,rfl⟩,
   ((m.bq.aE ⟨op,m.bq.bT,0,0,[],0⟩).eH v,⟨2,(m.bq.aE ⟨op,m.bq.bT,0,0,[],0⟩).ej v,m.bq.bT,0,[],0⟩),⟨rfl,rfl,by show(gM m.aM _).length<65536;omega⟩,rfl,rfl⟩
theorem XD:bm Z OZ:=by
 refine de OY ?_;rintro⟨m,v⟩ args H ⟨rfl,rfl,hl⟩;have hl:m.aM.length<65536:=hl;simp only[kJ,a1];obtain⟨b,b1,h1,h2⟩:=adf m v;cases b with
 |true=>
  refine eS OY 1000 (fun _=>[]) 18 (by kernel_rfl) ?_;rw[afU];have:m.ml v=(m.eH v).aE ⟨24,m.ej v,0,0,[],0⟩:=by simp only[Em.ml,h2,cond_true]
  rw[this];exact⟨true,b1,h1,aI.2 ⟨fun _=>⟨(m,v),⟨rfl,rfl⟩,(m.eH v,⟨24,m.ej v,0,0,[],0⟩),⟨rfl,rfl,hl⟩,rfl,rfl⟩,fun h=>(by cases h)⟩⟩
 |false=>
  have:m.ml v=m:=by simp only[Em.ml,h2,cond_false]
  rw[this];refine aay ?_;refine eS OY 1000 (fun _=>[]) 18 (by kernel_rfl) ?_;rw[afU];exact⟨false,b1,h1,aI.2 ⟨fun h=>(by cases h),fun h=>⟨rfl,rfl⟩⟩⟩
def fg(m:Em)(g c p t k:Nat):aZ:=.aw [.ad g m.aM.length 6,.aa m.f.ay.ca,J m.f.ay.ar,J m.f.ay.aC,.ax (aP m.f.aO) m.f.aO.length 4,.ax (bN m.f.aA) m.f.aA.length 6,.aH c,.aH p,.aH t,.aH k,J m.bT,.ai m.gN] 71
def fu(m:Em):aZ:=.aF (cw m.aM) 50
def eN(m:Em):aZ:=.bC (bM J 0 m.gF) m.gF.length true
def eW(m:Em):aZ:=.bC (bM J 0 m.a8) m.a8.length true
def eU(m:Em):aZ:=.bC (bM J 0 m.dZ) m.dZ.length true
def eP(m:Em):aZ:=.bC (bM vB 0 m.du) m.du.length true
theorem Dt{m m':Em}{g c p t k:Nat}(h0:fg m g c p t k=fg m' g c p t k)(h1:fu m=fu m')(h2:eN m=eN m')(h3:eW m=eW m')(h4:eU m=eU m')(h5:eP m=eP m'):m=m':=by obtain⟨code,⟨⟨a,b,c⟩,l,g⟩,count,a8,dZ,du,next,gN⟩:=m;obtain⟨Km,⟨⟨a',b',c'⟩,l',g'⟩,Q0,U9,WI,T3,wk,ac9⟩:=m';simp only[fg,fu,eN,eW,eU,eP,aZ.aw.injEq,aZ.aF.injEq,aZ.bC.injEq,List.cons.injEq,AV.ck.injEq,AV.aa.injEq,AV.ax.injEq,AV.ai.injEq,AV.ad.injEq,true_and,and_true]at h0 h1 h2 h3 h4 h5;obtain⟨_,rfl,rfl,rfl,⟨k1,k2⟩,⟨k3,k4⟩,rfl,rfl⟩:=h0;rw[Dz h1,vJ k2 k1,KC k4 k3,qY wF h2.1,qY wF h3.1,qY wF h4.1,qY ag9 h5.1]
def aX(bs:LI):LV:=bs.map (AV.ck .i64)
def Hc(m:Em)(bs:LI):AH:=an [(0,.aw [.ab 2 0] 64),(1,.aw [.bE 3 0 bs.length bs.length 1 true] 57),(2,fg m 4 5 6 7 8),(3,.eh (aX bs) 3),(4,fu m),(5,eN m),(6,eW m),(7,eU m),(8,eP m)] 9
def adS(m:Em)(bs:LI):AH:=an [(0,.aw [.ab 2 0] 64),(1,.aw [.bE 3 0 bs.length bs.length 1 true] 57),(2,fg m 9 5 6 7 8),(3,.eh (aX bs) 3),(4,.b9 []),(5,eN m),(6,eW m),(7,eU m),(8,eP m),(9,fu m)] 10
def A0(m:Em)(bs:LI):AH:=an [(0,fg m 3 4 5 6 7),(1,.aw [.ab 0 0] 64),(2,.aw [.bE 8 0 bs.length bs.length 1 true] 57),(3,fu m),(4,eN m),(5,eW m),(6,eU m),(7,eP m),(8,.eh (aX bs) 3)] 9
def tE(m:Em)(bs:LI):AH:=an [(0,fg m 9 4 5 6 7),(1,.aw [.ab 0 0] 64),(2,.aw [.bE 8 0 bs.length bs.length 1 true] 57),(3,.b9 []),(4,eN m),(5,eW m),(6,eU m),(7,eP m),(8,.eh (aX bs) 3),(9,fu m)] 10
theorem anO(m:Em)(bs:LI):Mv (A0 m bs) (tE m bs) 3:=ss (l':=[(0,fg m 9 4 5 6 7),(1,.aw [.ab 0 0] 64),(2,.aw [.bE 8 0 bs.length bs.length 1 true] 57),(3,.b9 []),(4,eN m),(5,eW m),(6,eU m),(7,eP m),(8,.eh (aX bs) 3)]) rfl rfl rfl
def Em.e9(m:Em)(t:aK)(b:Int):Em:=
 if t.df=0 then(if m.qX t.n>1 then m.gO t.n 6 7 0 else m.aE ⟨10,0,0,1,[],0⟩)
 else if t.df=1 then m.aE ⟨8,0,0,t.n,[],0⟩
 else if t.df=2 then m.aE ⟨9,0,0,0,t.f_,0⟩
 else m.aE ⟨7,b,0,0,[],0⟩
def Em.jQ(m:Em)(l:List (aK×Int)):Em:=l.foldl (fun m p=>m.e9 p.1 p.2) m
def YX:dp (Em×LI×Nat)where
 ba w A H:=A=[J (w.2.2:Int),.ab 0 0,.ab 1 0]∧H=Hc w.1 w.2.1∧w.1.aM.length<65536∧w.2.2<w.2.1.length
 v w:=.aJ []
 aN w:=adS (w.1.aE ⟨7,w.2.1.getD w.2.2 0,0,0,[],0⟩) w.2.1
def Qb:dp (Em×LI×aK)where
 ba w A H:=A=[.ab 0 0,.au (cR w.2.2),.bR (.func 122) [] [.ab 1 0,.ab 2 0]]∧H=A0 w.1 w.2.1∧w.1.aM.length+w.2.2.dE.length<65536∧w.2.1.length=w.2.2.dE.length∧eR w.2.2
 v w:=.aJ []
 aN w:=tE (w.1.jQ (w.2.2.dE.zip w.2.1)) w.2.1
theorem Ca{a b:LI}(h:aX a=aX b):a=b:=by unfold aX at h;exact(List.map_inj_right (fun x y e=>by cases e;rfl)).1 h
theorem aod:YX.dx:=by
 rintro⟨m,bs,i⟩ ⟨m',AF,i'⟩ A H ⟨h1,h2,_⟩ ⟨h3,h4,_⟩;simp only at h1 h2 h3 h4;rw[h1]at h3;rw[h2]at h4;have q:=fun i=>congrArg (fun H=>AH.bu H i) h4
 simp only[Hc,dy]at q;have e:=Dt (m:=m) (m':=m') (dz (q 2)) (dz (q 4)) (dz (q 5)) (dz (q 6)) (dz (q 7)) (dz (q 8));have e2:aX bs=aX AF:=(aZ.eh.inj (dz (q 3))).1;have e3:=Ca e2;simp only[List.cons.injEq,AV.ck.injEq,true_and,and_true]at h3;have e4:i=i':=by omega
 rw[e,e3,e4]
theorem aog:Qb.dx:=by
 rintro⟨m,bs,t⟩ ⟨m',AF,t'⟩ A H ⟨h1,h2,_⟩ ⟨h3,h4,_⟩;simp only at h1 h2 h3 h4;rw[h1]at h3;rw[h2]at h4;have q:=fun i=>congrArg (fun H=>AH.bu H i) h4
 simp only[A0,dy]at q;have e:=Dt (m:=m) (m':=m') (dz (q 0)) (dz (q 3)) (dz (q 4)) (dz (q 5)) (dz (q 6)) (dz (q 7));have e2:aX bs=aX AF:=(aZ.eh.inj (dz (q 8))).1;have e3:=Ca e2;simp only[List.cons.injEq,AV.au.injEq,true_and,and_true]at h3;rw[e,e3,uz h3]
def Js:Ev.bz:=cz 122 (cM YX aod cZ) OZ
def O1:Ev.bz:=cz 99 (cM Qb aog cZ) Js
theorem ark(m:Em)(i:Int)(bs:LI)(L:LT)(Q:QT):
 b8 Z OZ (fun _=>[]) L Q 1000 122 [J i,.ab 0 0,.ab 1 0] (Hc m bs)=(
 ∃aD:Nat,i=(aD:Int)∧aD<bs.length∧(∃n:Int,bQ Z 3 (aX bs) (0+aD*1)=some (J n:AV)∧(∃w:Em×a9,(([.ab 0 0,.au [J 7,J n,J 0,J 0,.aa [],J 0]]:LV)=[.ab 0 0,.au (cb w.2)]∧bK m=bK w.1∧w.1.aM.length<65536)∧Q (.aJ []) (adS (w.1.aE w.2) bs)))):=by kernel_rfl
abbrev wE x0 x1 x2:=aQ [(0,.ab 0 0),(2,.bR (.func 122) [] [.ab 1 0,.ab 2 0]),(9,.ax x0 x1 4),(10,J (Int.ofNat x1)),(11,J x2)]
theorem auR(m:Em)(k n:Int)(s:LN)(cs:LV)(len:Nat)(bs:LI)(L:LT)(Q:QT):
 b8 Z Js (fun _=>[0,2,9,10,11]) L Q 1000 99 [.ab 0 0,.au [J k,J n,.aa s,.ax cs len 4],.bR (.func 122) [] [.ab 1 0,.ab 2 0]] (A0 m bs)=(
 L (wE cs len 0) (A0 m bs) (ao Z 99 0)):=by kernel_rfl
theorem auS(m:Em)(i:Int)(cs:LV)(len:Nat)(bs:LI)(L:LT)(Q:QT):
 cO Z Js (fun _=>[0,2,9,10,11]) L Q 1000 99 9 (wE cs len i) (ao Z 99 0) (tE m bs)=(
 ah (decide (i<Int.ofNat len)) (∃aD:Nat,i=(aD:Int)∧aD<len∧(∃n:Int,∃aL:Int,∃s:LN,∃cA:LV,∃cq:Nat,((cs.drop (aD*4)).take 4:LV)=[J n,J aL,.aa s,.ax cA cq 4]∧ah (n==0) (∃bD:Int,∃b:Bool,fX Z 2 3 (bM J 0 m.gF) (J aL)=some (J bD,b)∧ah (decide (bD>1)) (∃w:Em×Int×Int×Int×Int,(([.ab 0 0,J aL,J 6,J 7,J 0]:LV)=[.ab 0 0,J w.2.1,J w.2.2.1,J w.2.2.2.1,J w.2.2.2.2]∧bK m=bK w.1∧w.1.aM.length<65536)∧L (wE cs len (wI (i+1))) (tE (w.1.gO w.2.1 w.2.2.1 w.2.2.2.1 w.2.2.2.2) bs) (ao Z 99 0)) (∃w:Em×a9,(([.ab 0 0,.au [J 10,J 0,J 0,J 1,.aa [],J 0]]:LV)=[.ab 0 0,.au (cb w.2)]∧bK m=bK w.1∧w.1.aM.length<65536)∧L (wE cs len (wI (i+1))) (tE (w.1.aE w.2) bs) (ao Z 99 0))) (ah (n==1) (∃w:Em×a9,(([.ab 0 0,.au [J 8,J 0,J 0,J aL,.aa [],J 0]]:LV)=[.ab 0 0,.au (cb w.2)]∧bK m=bK w.1∧w.1.aM.length<65536)∧L (wE cs len (wI (i+1))) (tE (w.1.aE w.2) bs) (ao Z 99 0)) (ah (n==2) (∃w:Em×a9,(([.ab 0 0,.au [J 9,J 0,J 0,J 0,.aa s,J 0]]:LV)=[.ab 0 0,.au (cb w.2)]∧bK m=bK w.1∧w.1.aM.length<65536)∧L (wE cs len (wI (i+1))) (tE (w.1.aE w.2) bs) (ao Z 99 0)) (∃w:Em×LI×Nat,(([J i,.ab 0 0,.ab 1 0]:LV)=[J ((w.2.2:Nat):Int),.ab 0 0,.ab 1 0]∧Hc m bs=Hc w.1 w.2.1∧w.1.aM.length<65536∧w.2.2<w.2.1.length)∧L (wE cs len (wI (i+1))) (an [(0,.aw [.ad 9 (w.1.aE {op:=7,r:=List.getD w.2.1 w.2.2 0,a:=0,n:=0,cH:=[],ar:=0}).aM.length 6,.aa (w.1.aE {op:=7,r:=List.getD w.2.1 w.2.2 0,a:=0,n:=0,cH:=[],ar:=0}).f.ay.ca,J (w.1.aE (a9.mk 7 (List.getD w.2.1 w.2.2 0) 0 0 [] 0)).f.ay.ar,J (w.1.aE (a9.mk 7 (List.getD w.2.1 w.2.2 0) 0 0 [] 0)).f.ay.aC,.ax (aP (w.1.aE {op:=7,r:=List.getD w.2.1 w.2.2 0,a:=0,n:=0,cH:=[],ar:=0}).f.aO) (w.1.aE {op:=7,r:=List.getD w.2.1 w.2.2 0,a:=0,n:=0,cH:=[],ar:=0}).f.aO.length 4,.ax (bN (w.1.aE {op:=7,r:=List.getD w.2.1 w.2.2 0,a:=0,n:=0,cH:=[],ar:=0}).f.aA) (w.1.aE {op:=7,r:=List.getD w.2.1 w.2.2 0,a:=0,n:=0,cH:=[],ar:=0}).f.aA.length 6,.aH 4,.aH 5,.aH 6,.aH 7,J (w.1.aE (a9.mk 7 (List.getD w.2.1 w.2.2 0) 0 0 [] 0)).bT,.ai (w.1.aE (a9.mk 7 (List.getD w.2.1 w.2.2 0) 0 0 [] 0)).gN] 71),(1,.aw [.ab 0 0] 64),(2,.aw [.bE 8 0 w.2.1.length w.2.1.length 1 true] 57),(3,.b9 []),(4,eN (w.1.aE {op:=7,r:=List.getD w.2.1 w.2.2 0,a:=0,n:=0,cH:=[],ar:=0})),(5,eW (w.1.aE {op:=7,r:=List.getD w.2.1 w.2.2 0,a:=0,n:=0,cH:=[],ar:=0})),(6,eU (w.1.aE {op:=7,r:=List.getD w.2.1 w.2.2 0,a:=0,n:=0,cH:=[],ar:=0})),(7,eP (w.1.aE {op:=7,r:=List.getD w.2.1 w.2.2 0,a:=0,n:=0,cH:=[],ar:=0})),(8,.eh (aX w.2.1) 3),(9,fu (w.1.aE {op:=7,r:=List.getD w.2.1 w.2.2 0,a:=0,n:=0,cH:=[],ar:=0}))] 10) (ao Z 99 0)))))) (Q (.aJ []) (tE m bs))):=by kernel_rfl
theorem O0:bm Z Js:=by refine de XD ?_;rintro⟨m,bs,i⟩ args H ⟨rfl,rfl,hl,hi⟩;have hi:i<bs.length:=hi;refine eS XD 1000 (fun _=>[]) 13 (by kernel_rfl) ?_;rw[ark];refine⟨i,rfl,hi,bs.getD i 0,?_,(m,⟨7,bs.getD i 0,0,0,[],0⟩),⟨rfl,rfl,hl⟩,rfl,rfl⟩;rw[BR,aX,jI,Nat.mul_one,List.getElem?_map,jn hi];simp[List.getD,jn hi]
theorem kX(m:Em)(i:a9):(m.aE i).aM.length<=m.aM.length+1:=AM _ _
theorem Oq(m:Em)(v a b c:Int):(m.gO v a b c).aM.length<=m.aM.length+1:=AM _ _
theorem Y8(m:Em)(t:aK)(b:Int):(m.e9 t b).aM.length<=m.aM.length+1:=by
 unfold Em.e9;split
 ·split
  ·exact Oq _ _ _ _ _
  ·exact kX _ _
 ·split
  ·exact kX _ _
  ·split
   ·exact kX _ _
   ·exact kX _ _
section
variable{m:Em}{k n b:Int}{s:LN}{ts:bH}
theorem aij(hk:k=0)(hc:m.qX n>1):m.e9 (.mk k n s ts) b=m.gO n 6 7 0:=by simp[Em.e9,aK.df,aK.n,hk,hc]
theorem aik(hk:k=0)(hc:¬m.qX n>1):m.e9 (.mk k n s ts) b=m.aE ⟨10,0,0,1,[],0⟩:=by simp[Em.e9,aK.df,aK.n,hk,hc]
theorem aif(hk:k=1):m.e9 (.mk k n s ts) b=m.aE ⟨8,0,0,n,[],0⟩:=by simp[Em.e9,aK.df,aK.n,hk]
theorem aid(hk:k=2):m.e9 (.mk k n s ts) b=m.aE ⟨9,0,0,0,s,0⟩:=by simp[Em.e9,aK.df,aK.f_,hk]
theorem aii(h0:k≠0)(h1:k≠1)(h2:k≠2):m.e9 (.mk k n s ts) b=m.aE ⟨7,b,0,0,[],0⟩:=by simp[Em.e9,aK.df,h0,h1,h2]
end
theorem auQ{l:bH}{bs:LI}{M:Em}(hl:eF l.length)(ho:gU l)(hb:bs.length=l.length):
 ∀p:Nat×Em,(p.1<=l.length∧p.2.aM.length+(l.length-p.1)<65536∧p.2.jQ ((l.zip bs).drop p.1)=M)->
 bJ Z 99 59 9 (.aJ []) (tE M bs) (wE (aP l) l.length (p.1:Int)) (tE p.2 bs) (ao Z 99 0):=by
 refine cV (fun p=>l.length-p.1) _ _ _ _ ?_;rintro⟨i,m⟩ ⟨hi,hc,hf⟩ ih;simp only at hi hc hf ih⊢;refine hD O0 1000 (fun _=>[0,2,9,10,11]) (by kernel_rfl) ?_;rw[auS];refine aI.2 ⟨fun aj=>?_,fun aS=>?_⟩
 ·have aj:i<l.length:=by simpa using aj
  obtain⟨k,n,s,ts,he,bX,bn⟩:=pz aj ho;have hz:i<(l.zip bs).length:=by simp;omega
  have hib:i<bs.length:=by omega
  rw[dN hz,List.getElem_zip,he]at hf;simp only[Em.jQ,iy]at hf;have HH:bs.getD i 0=bs[i]:=by simp[List.getD,jn hib]
  refine⟨i,rfl,aj,k,n,s,_,_,bX,?_⟩;rw[je hl aj];have bF:=Y8 m (.mk k n s ts) bs[i];have next:bJ Z 99 59 9 (.aJ []) (tE M bs) (wE (aP l) l.length ((i+1:Nat):Int)) (tE (m.e9 (.mk k n s ts) bs[i]) bs) (ao Z 99 0):=
   ih (i+1,m.e9 (.mk k n s ts) bs[i]) ⟨by simp;omega,by simp only;omega,hf⟩ (by simp;omega)
  obtain⟨c,b,h1,h2⟩:=Mu m n;have hr:m.aM.length<65536:=by omega
  refine aI.2 ⟨fun hk=>?_,fun qx=>?_⟩
  ·have hk:k=0:=by simpa using hk
   refine⟨c,b,h1,aI.2 ⟨fun hc=>?_,fun hc=>?_⟩⟩
   ·have hc:c>1:=by simpa using hc
    rw[aij hk (by rw[h2];exact hc)]at next
    exact⟨(m,n,6,7,0),⟨rfl,rfl,hr⟩,next⟩
   ·have hc:¬c>1:=by simpa using hc
    rw[aik hk (by rw[h2];exact hc)]at next
    exact⟨(m,⟨10,0,0,1,[],0⟩),⟨rfl,rfl,hr⟩,next⟩
  ·have qx:k≠0:=by simpa using qx
   refine aI.2 ⟨fun hk=>?_,fun iM=>?_⟩
   ·have hk:k=1:=by simpa using hk
    rw[aif hk]at next
    exact⟨(m,⟨8,0,0,n,[],0⟩),⟨rfl,rfl,hr⟩,next⟩
   ·have iM:k≠1:=by simpa using iM
    refine aI.2 ⟨fun hk=>?_,fun iA=>?_⟩
    ·have hk:k=2:=by simpa using hk
     rw[aid hk]at next
     exact⟨(m,⟨9,0,0,0,s,0⟩),⟨rfl,rfl,hr⟩,next⟩
    ·have iA:k≠2:=by simpa using iA
     rw[aii qx iM iA,←HH]at next
     exact⟨(m,bs,i),⟨rfl,rfl,hr,hib⟩,next⟩
 ·have aS:l.length<=i:=by simpa using aS
  rw[eT (by simp;omega)]at hf;subst hf;exact⟨rfl,rfl⟩
theorem XF:bm Z O1:=by
 refine de O0 ?_;rintro⟨m,bs,⟨k,n,s,l⟩⟩ args H ⟨rfl,rfl,hl,hb,ho⟩;simp only[aK.dE]at hl hb;refine eS O0 1000 (fun _=>[0,2,9,10,11]) 59 (by kernel_rfl) ?_;simp only[Qb,cR,aK.dE];rw[auR];refine uK (g:=3) ?_ (anO m bs) (by kernel_rfl) (t':=wE (aP l) l.length ((0:Nat):Int)) ?_
 ·exact auQ ho.2.1 ho.2.2 hb (0,m) ⟨by simp,by simpa using hl,by simp⟩
 ·intro i a' hi;exact⟨a',hi,xX hi (by simp[fi,iN,lN,A0,an])⟩
mutual
def Em.jf:Em->Int->aK->Em
 |m,r,.mk k n s l=>((m.fq l).1.aE ⟨15,r,0,0,s,l.length⟩).jQ (l.zip (m.fq l).2)
def Em.fq:Em->bH->Em×LI
 |m,[]=>(m,[])
 |m,t::l=>if t.df=3 then(((m.bq.jf m.bq.bT t).fq l).1,m.bq.bT::((m.bq.jf m.bq.bT t).fq l).2)
   else((m.fq l).1,0::(m.fq l).2)
end
def VL(N:Nat)(m:Em)(w:Int×aK):Prop:=m.aM.length+2*cG w.2<65536∧eR w.2∧cG w.2<N
def F3(N:Nat):Ev.bz:=cz 106 (cM (kJ aT (fun m w=>m.jf w.1 w.2) (VL N)) (rE vt) cZ) O1
def afc(m:Em)(w:Int×aK):Prop:=m.aM.length+2*cG w.2<65536∧eR w.2
def Jt:Ev.bz:=cz 106 (cM (kJ aT (fun m w=>m.jf w.1 w.2) afc) (rE vt) cZ) O1
def Hb(m:Em)(k n:Int)(s:LN)(cs:LV)(len:Nat)(eh:LV):AH:=an [(0,fg m 9 2 3 4 5),(1,.b9 []),(2,eN m),(3,eW m),(4,eU m),(5,eP m),(6,.aw [.ab 0 0] 64),(7,.aw [J k,J n,.aa s,.ax cs len 4] 42),(8,.aw [.bE 10 0 len len 1 true] 57),(9,fu m),(10,.eh eh 3)] 11
abbrev FH x0 x1 x2 x3:=aQ [(1,J x0),(3,.ab 6 0),(5,.ab 7 0),(6,.ab 8 0),(14,.ax x1 x2 4),(15,J (Int.ofNat x2)),(16,J x3)]
theorem ap4(m:Em)(r k n:Int)(s:LN)(cs:LV)(len:Nat)(N:Nat)(L:LT)(Q:QT):
 b8 Z (F3 N) (fun _=>[1,3,5,6,14,15,16]) L Q 1000 106 [.ab 0 0,J r,.au [J k,J n,.aa s,.ax cs len 4]] (bK m)=(
 ∃i:Nat,Int.ofNat len=(i:Int)∧i<=65536∧L (FH r cs len 0) (an [(0,fg m 1 2 3 4 5),(1,fu m),(2,eN m),(3,eW m),(4,eU m),(5,eP m),(6,.aw [.ab 0 0] 64),(7,.aw [J k,J n,.aa s,.ax cs len 4] 42),(8,.aw [.bE 9 0 i i 1 true] 57),(9,.eh (iU [J 0] i) 3)] 10) (ao Z 106 0)):=by kernel_rfl
theorem ap5(m:Em)(r k n i:Int)(s:LN)(cs:LV)(len:Nat)(eh:LV)(N:Nat)(L:LT)(Q:QT):
 cO Z (F3 N) (fun _=>[1,3,5,6,14,15,16]) L Q 1000 106 6 (FH r cs len i) (ao Z 106 0) (Hb m k n s cs len eh)=(
 ah (decide (i<Int.ofNat len)) (∃aD:Nat,i=(aD:Int)∧aD<len∧(∃aL:Int,∃bD:Int,∃db:LN,∃cA:LV,∃cq:Nat,((cs.drop (aD*4)).take 4:LV)=[J aL,J bD,.aa db,.ax cA cq 4]∧ah (aL==3) (∃w:Em,(([.ab 0 0]:LV)=[.ab 0 0]∧bK m=bK w)∧some (.bE 10 0 len len 1 true:AV)=some (.bE 10 0 len len 1 true:AV)∧(∃bU:Nat,i=(bU:Int)∧bU<len∧0+bU*1+1<=eh.length∧(∃cd:Nat,i=(cd:Int)∧cd<len∧(∃cf:Int,bQ Z 3 (fY eh (0+bU*1) [J w.bq.bT]) (0+cd*1)=some (J cf:AV)∧(∃ae:Em×Int×aK,(([.ab 0 0,J cf,.au [J aL,J bD,.aa db,.ax cA cq 4]]:LV)=[.ab 0 0,J ae.2.1,.au (cR ae.2.2)]∧bK w.bq=bK ae.1∧VL N ae.1 ae.2)∧L (FH r cs len (wI (i+1))) (Hb (ae.1.jf ae.2.1 ae.2.2) k n s cs len (fY eh (0+bU*1) [J w.bq.bT])) (ao Z 106 0)))))) (L (FH r cs len (wI (i+1))) (Hb m k n s cs len eh) (ao Z 106 0)))) (∃w:Em×a9,(([.ab 0 0,.au [J 15,J r,J 0,J 0,.aa s,J (Int.ofNat len)]]:LV)=[.ab 0 0,.au (cb w.2)]∧bK m=bK w.1∧w.1.aM.length<65536)∧(∃ae:Em×LI×aK,(([.ab 0 0,.au [J k,J n,.aa s,.ax cs len 4],.bR (.func 122) [] [.ab 1 0,.ab 2 0]]:LV)=[.ab 0 0,.au (cR ae.2.2),.bR (.func 122) [] [.ab 1 0,.ab 2 0]]∧an [(0,fg (w.1.aE w.2) 3 4 5 6 7),(1,.aw [.ab 0 0] 64),(2,.aw [.bE 8 0 len len 1 true] 57),(3,fu (w.1.aE w.2)),(4,eN (w.1.aE w.2)),(5,eW (w.1.aE w.2)),(6,eU (w.1.aE w.2)),(7,eP (w.1.aE w.2)),(8,.eh eh 3)] 9=A0 ae.1 ae.2.1∧ae.1.aM.length+ae.2.2.dE.length<65536∧ae.2.1.length=ae.2.2.dE.length∧eR ae.2.2)∧Q (.aJ []) (jv (ae.1.jQ (List.zip ae.2.2.dE ae.2.1)))))):=by kernel_rfl
theorem Zd:∀(l:List (aK×Int)) (m:Em),(m.jQ l).aM.length<=m.aM.length+l.length
 |[],m=>by simp[Em.jQ]
 |(t,b)::l,m=>by have h1:=Y8 m t b;have h2:=Zd l (m.e9 t b);simp only[Em.jQ,iy,dv]at h2⊢;omega
theorem GF(m:Em):m.bq.aM=m.aM:=rfl
mutual
theorem QK:∀(m:Em) (r:Int) (t:aK),(m.jf r t).aM.length+1<=m.aM.length+2*cG t
 |m,r,.mk k n s l=>by
  have h1:=QI m l;have h2:=kX (m.fq l).1 ⟨15,r,0,0,s,l.length⟩;have h3:=Zd (l.zip (m.fq l).2) ((m.fq l).1.aE ⟨15,r,0,0,s,l.length⟩);have h4:(l.zip (m.fq l).2).length<=l.length:=by simp;omega
  simp only[Em.jf,cG];omega
theorem QI:∀(m:Em) (l:bH),(m.fq l).1.aM.length+l.length<=m.aM.length+2*bA l
 |m,[]=>by simp[Em.fq,bA]
 |m,t::l=>by
  have hp:=oS t;simp only[Em.fq,bA,dv];split
  ·have h1:=QK m.bq m.bq.bT t;have h2:=QI (m.bq.jf m.bq.bT t) l;rw[GF]at h1;simp only;omega
  ·have h2:=QI m l;simp only;omega
end
theorem Zz:∀(m:Em) (l:bH),(m.fq l).2.length=l.length
 |m,[]=>rfl
 |m,t::l=>by
  simp only[Em.fq];split
  ·simp[Zz _ l]
  ·simp[Zz m l]
theorem ae6{len i:Nat}(h:i<len):List.replicate (len-i) (0:Int)=0::List.replicate (len-(i+1)) 0:=by
 have:len-i=(len-(i+1))+1:=by omega
 rw[this,List.replicate_succ]
theorem afh{ba:LI}{len:Nat}(x:Int)(h:ba.length<len):
 fY (aX (ba++List.replicate (len-ba.length) 0)) (0+ba.length*1) [J x]=aX ((ba++[x])++List.replicate (len-(ba.length+1)) 0):=by
 rw[ae6 h];have e:aX (ba++0::List.replicate (len-(ba.length+1)) 0)=(aX ba++[J 0])++aX (List.replicate (len-(ba.length+1)) 0):=by simp[aX]
 have hl:(aX ba).length=ba.length:=by simp[aX]
 unfold fY;rw[e,List.drop_left' (by simp[hl]),nG,List.take_left' (by simp[hl])];simp[aX]
theorem apL{ba:LI}{len:Nat}(h:ba.length<len):ba++List.replicate (len-ba.length) 0=(ba++[0])++List.replicate (len-(ba.length+1)) 0:=by rw[ae6 h];simp
theorem apM{ba:LI}{rest:LI}(x:Int):bQ Z 3 (aX ((ba++[x])++rest)) (0+ba.length*1)=some (J x):=by rw[BR];simp[aX]
theorem ap3{k n r:Int}{s:LN}{l:bH}{N:Nat}{M:Em}{BS:LI}(hS:bm Z (F3 N))(ho:eR (.mk k n s l))(hN:bA l<N):
 ∀p:Em×LI,(p.2.length<=l.length∧p.1.aM.length+p.2.length+2*bA (l.drop p.2.length)+2<65536∧(p.1.fq (l.drop p.2.length)).1=M∧p.2++(p.1.fq (l.drop p.2.length)).2=BS)->
 bJ Z 106 52 6 (.aJ []) (jv ((M.aE ⟨15,r,0,0,s,l.length⟩).jQ (l.zip BS))) (FH r (aP l) l.length (p.2.length:Int))
  (Hb p.1 k n s (aP l) l.length (aX (p.2++List.replicate (l.length-p.2.length) 0))) (ao Z 106 0):=by
 have hl:=ho.2.1;refine cV (fun p=>l.length-p.2.length) _ _ _ _ ?_;rintro⟨m,ba⟩ ⟨hi,hc,n5,jw⟩ ih;simp only at hi hc n5 jw ih⊢;refine hD hS 1000 (fun _=>[1,3,5,6,14,15,16]) (by kernel_rfl) ?_;rw[ap5];refine aI.2 ⟨fun aj=>?_,fun aS=>?_⟩
 ·have aj:ba.length<l.length:=by simpa using aj
  obtain⟨k1,n1,s1,m1,he,bX,bn⟩:=pz aj ho.2.2;have cJ:=Je aj;rw[he]at cJ;have mT:=oS (.mk k1 n1 s1 m1);rw[dN aj,he,bA]at hc;rw[dN aj,he,Em.fq]at n5 jw;refine⟨ba.length,rfl,aj,k1,n1,s1,_,_,bX,?_⟩;rw[je hl aj];refine aI.2 ⟨fun hk=>?_,fun hk=>?_⟩
  ·have hk:k1=3:=by simpa using hk
   rw[aY (show(aK.mk k1 n1 s1 m1).df=3 from hk)]at n5 jw;have hb:=QK m.bq m.bq.bT (.mk k1 n1 s1 m1);rw[GF]at hb;refine⟨m,⟨rfl,rfl⟩,rfl,ba.length,rfl,aj,by simp[aX];omega,ba.length,rfl,aj,m.bq.bT,?_,(m.bq,m.bq.bT,.mk k1 n1 s1 m1),⟨rfl,rfl,?_,bn,?_⟩,?_⟩
   ·rw[afh _ aj];exact apM _
   ·show m.bq.aM.length+_<_;rw[GF];simp only;omega
   ·simp only;omega
   ·rw[afh _ aj];have:=ih (m.bq.jf m.bq.bT (.mk k1 n1 s1 m1),ba++[m.bq.bT]) ⟨by simp;omega,by simp only[bI,dv,fk,jI];omega,by simpa using n5,by simpa using jw⟩ (by simp;omega);simp only[bI,dv,fk,jI]at this;exact this
  ·have hk:k1≠3:=by simpa using hk
   rw[aB (show¬(aK.mk k1 n1 s1 m1).df=3 from hk)]at n5 jw;rw[apL aj];have:=ih (m,ba++[0]) ⟨by simp;omega,by simp only[bI,dv,fk,jI];omega,by simpa using n5,by simpa using jw⟩ (by simp;omega);simp only[bI,dv,fk,jI]at this;exact this
 ·have aS:l.length<=ba.length:=by simpa using aS
  have d_:ba.length=l.length:=by omega
  rw[eT aS]at n5 jw hc;simp only[Em.fq,lh]at n5 jw;subst n5 jw;have he:=kX m ⟨15,r,0,0,s,l.length⟩;have h0:List.replicate (l.length-ba.length) (0:Int)=[]:=by rw[d_];simp
  rw[h0,lh,←d_];refine⟨(m,⟨15,r,0,0,s,l.length⟩),⟨by rw[d_];rfl,rfl,by simp only;omega⟩,(m.aE ⟨15,r,0,0,s,l.length⟩,ba,.mk k n s l),⟨by rw[d_];rfl,rfl,by simp only[aK.dE];omega,by simpa[aK.dE]using d_,ho⟩,rfl,?_⟩;rw[d_];rfl
def SM(m:Em)(k n:Int)(s:LN)(cs:LV)(len:Nat)(eh:LV):AH:=an [(0,fg m 1 2 3 4 5),(1,fu m),(2,eN m),(3,eW m),(4,eU m),(5,eP m),(6,.aw [.ab 0 0] 64),(7,.aw [J k,J n,.aa s,.ax cs len 4] 42),(8,.aw [.bE 9 0 len len 1 true] 57),(9,.eh eh 3)] 10
def abV(m:Em)(k n:Int)(s:LN)(cs:LV)(len:Nat)(eh:LV):AH:=an [(0,fg m 10 2 3 4 5),(1,.b9 []),(2,eN m),(3,eW m),(4,eU m),(5,eP m),(6,.aw [.ab 0 0] 64),(7,.aw [J k,J n,.aa s,.ax cs len 4] 42),(8,.aw [.bE 9 0 len len 1 true] 57),(9,.eh eh 3),(10,fu m)] 11
theorem anH(m:Em)(k n:Int)(s:LN)(cs:LV)(len:Nat)(eh:LV):Mv (SM m k n s cs len eh) (abV m k n s cs len eh) 1:=
 ss (l':=[(0,fg m 10 2 3 4 5),(1,.b9 []),(2,eN m),(3,eW m),(4,eU m),(5,eP m),(6,.aw [.ab 0 0] 64),(7,.aw [J k,J n,.aa s,.ax cs len 4] 42),(8,.aw [.bE 9 0 len len 1 true] 57),(9,.eh eh 3)]) rfl rfl rfl
def NV(r:Int)(cs:LV)(len:Nat)(i:Int):Tr AV:=FH r cs len i
def aew:List (Nat×Nat):=[(0,0),(1,1),(2,2),(3,3),(4,4),(5,5),(6,6),(7,7),(8,8),(10,9),(9,10)]
theorem awm(m:Em)(k n:Int)(s:LN)(cs:LV)(len:Nat)(eh:LV):oT 6 [6,7,8] (abV m k n s cs len eh)=some ⟨aew,Hb m k n s cs len eh⟩:=by kernel_rfl
theorem awr(r:Int)(cs:LV)(len:Nat)(i:Int):tV (jA aew) (NV r cs len i) [1,3,5,6,14,15,16]=some (NV r cs len i):=by kernel_rfl
theorem afa:∀n:Nat,iU [J 0] n=aX (List.replicate n 0)
 |0=>rfl
 |n+1=>by simp[iU,afa n,aX,List.replicate_succ]
theorem Mp:∀l:bH,l.length<=bA l
 |[]=>by simp[bA]
 |t::l=>by have:=oS t;have:=Mp l;simp only[bA,dv];omega
theorem afz{N:Nat}{m:Em}{r k n:Int}{s:LN}{l:bH}(hS:bm Z (F3 N))(hc:m.aM.length+2*(1+bA l)<65536)(ho:eR (.mk k n s l))(hN:bA l<N):
 dT Z 106 [.ab 0 0,J r,.au [J k,J n,.aa s,.ax (aP l) l.length 4]] (bK m) (.aJ []) (jv (m.jf r (.mk k n s l))):=by
 refine eS hS 1000 (fun _=>[1,3,5,6,14,15,16]) 52 (by kernel_rfl) ?_;rw[ap4];have bF:=Mp l;refine⟨l.length,rfl,by omega,?_⟩;rw[afa];refine uK (H:=SM m k n s (aP l) l.length (aX (List.replicate l.length 0))) (t:=NV r (aP l) l.length 0) (t':=NV r (aP l) l.length 0) (g:=1) ?_ (anH m k n s (aP l) l.length (aX (List.replicate l.length 0))) (by kernel_rfl) (fun i a' hi=>⟨a',hi,xX hi (by simp[fi,iN,lN,SM,an])⟩);refine dH.rU (by kernel_rfl) (awm m k n s (aP l) l.length (aX (List.replicate l.length 0))) (awr r (aP l) l.length 0) ?_;exact ap3 (r:=r) hS ho hN (m,[]) ⟨by simp,by simp only[fk,jB];omega,rfl,by simp only[fk,jB,BX]⟩
theorem ahA:∀N,bm Z (F3 N):=by
 refine BZ (e:=fun N=>kJ aT (fun m w=>m.jf w.1 w.2) (VL N)) (h1:=fun N=>rE vt) XF ?_ ?_
 ·rintro⟨m,r,t⟩ args H ⟨_,_,_,_,h⟩;omega
 ·rintro N hS ⟨m,r,⟨k,n,s,l⟩⟩ args H ⟨rfl,rfl,hc,ho,hN⟩;simp only[cG]at hc hN;exact afz hS hc ho (by omega)
theorem O2:bm Z Jt:=by refine de XF ?_;rintro⟨m,r,⟨k,n,s,l⟩⟩ args H ⟨rfl,rfl,hc,ho⟩;simp only[cG]at hc;exact afz (ahA (bA l+1)) hc ho (by omega)
def Em.kP(m:Em)(w:Int×aK):Em:=
 if w.2.df=0 then m.rL w else if w.2.df=1 then m.Fq w else if w.2.df=2 then m.Fp w else m.jf w.1 w.2
def Em.dW:Nat->Em->bH->Em
 |_,m,[]=>m
 |i,m,t::l=>Em.dW (i+1) (m.kP (((i+1:Nat):Int),t)) l
def zI(l:bH):Prop:=∀t∈l,0<=t.df∧t.df<4
def aG(g:gH):LV:=[.au (qn g)]
theorem ahZ(a b:gH)(h:aG a=aG b):a=b:=by simp only[aG,List.cons.injEq,AV.au.injEq,and_true]at h;exact Rg h
def afd(m:Em)(g:gH):Prop:=m.aM.length+2*bA g.cx+1<65536∧nF g∧zI g.cx
def O3:Ev.bz:=cz 66 (cM (kJ aG (fun m g=>m.dW 0 g.cx) afd) (rE ahZ) cZ) Jt
def zu(a b c d:Nat):aZ:=.aw [.bR (.func a) [.ab 0 0] [],.bR (.func b) [.ab 0 0] [],.bR (.func c) [.ab 0 0] [],.bR (.func d) [.ab 0 0] []] 115
def AZ(m:Em):AH:=an [(0,fg m 7 2 3 4 5),(1,.b9 []),(2,eN m),(3,eW m),(4,eU m),(5,eP m),(6,zu 103 104 105 106),(7,fu m)] 8
abbrev z6 x0 x1 x2:=aQ [(4,.ab 6 0),(17,.ax x0 x1 4),(18,J (Int.ofNat x1)),(19,J x2)]
theorem atS(m:Em)(k ar aC v:Int)(nm:LN)(cs:LV)(len:Nat)(L:LT)(Q:QT):
 b8 Z Jt (fun _=>[4,17,18,19]) L Q 1000 66 [.ab 0 0,.au [J k,.aa nm,J ar,J aC,.ax cs len 4,J v]] (bK m)=(
 L (z6 cs len 0) (an [(0,fg m 1 2 3 4 5),(1,fu m),(2,eN m),(3,eW m),(4,eU m),(5,eP m),(6,zu 103 104 105 106)] 7) (ao Z 66 0)):=by kernel_rfl
theorem atT(m:Em)(i:Int)(cs:LV)(len:Nat)(L:LT)(Q:QT):
 cO Z Jt (fun _=>[4,17,18,19]) L Q 1000 66 6 (z6 cs len i) (ao Z 66 0) (AZ m)=(
 ah (decide (i<Int.ofNat len)) (∃aD:Nat,i=(aD:Int)∧aD<len∧(∃n:Int,∃aL:Int,∃s:LN,∃cA:LV,∃cq:Nat,((cs.drop (aD*4)).take 4:LV)=[J n,J aL,.aa s,.ax cA cq 4]∧((0:Int)<=n∧n<4)∧(n=0->(∃w:Em×Int×aK,(([.ab 0 0,J (wI (i+1)),.au [J n,J aL,.aa s,.ax cA cq 4]]:LV)=[.ab 0 0,J w.2.1,.au (cR w.2.2)]∧bK m=bK w.1∧rN w.1 w.2)∧L (z6 cs len (wI (i+1))) (AZ (w.1.rL w.2)) (ao Z 66 0)))∧(n=1->(∃w:Em×Int×aK,(([.ab 0 0,J (wI (i+1)),.au [J n,J aL,.aa s,.ax cA cq 4]]:LV)=[.ab 0 0,J w.2.1,.au (cR w.2.2)]∧bK m=bK w.1∧rN w.1 w.2)∧L (z6 cs len (wI (i+1))) (AZ (w.1.Fq w.2)) (ao Z 66 0)))∧(n=2->(∃w:Em×Int×aK,(([.ab 0 0,J (wI (i+1)),.au [J n,J aL,.aa s,.ax cA cq 4]]:LV)=[.ab 0 0,J w.2.1,.au (cR w.2.2)]∧bK m=bK w.1∧rN w.1 w.2)∧L (z6 cs len (wI (i+1))) (AZ (w.1.Fp w.2)) (ao Z 66 0)))∧(n=3->(∃w:Em×Int×aK,(([.ab 0 0,J (wI (i+1)),.au [J n,J aL,.aa s,.ax cA cq 4]]:LV)=[.ab 0 0,J w.2.1,.au (cR w.2.2)]∧bK m=bK w.1∧afc w.1 w.2)∧L (z6 cs len (wI (i+1))) (AZ (w.1.jf w.2.1 w.2.2)) (ao Z 66 0)))∧True)) (Q (.aJ []) (jv m))):=by kernel_rfl
theorem aeD(m:Em)(w:Int×aK):(m.kP w).aM.length<=m.aM.length+2*cG w.2:=by
 have hp:=oS w.2;unfold Em.kP;split
 ·unfold Em.rL;split
  ·have:=Oq m w.2.n 11 12 w.1;omega
  ·have:=kX m ⟨11,w.1,w.1,0,[],0⟩;omega
 ·split
  ·have:=kX m ⟨13,0,w.1,w.2.n,[],0⟩;unfold Em.Fq;omega
  ·split
   ·have:=kX m ⟨14,0,w.1,0,w.2.f_,0⟩;unfold Em.Fp;omega
   ·have:=QK m w.1 w.2;omega
section
variable{m:Em}{k n a:Int}{s:LN}{ts:bH}
theorem ao5(hk:k=0):m.kP (a,.mk k n s ts)=m.rL (a,.mk k n s ts):=by simp[Em.kP,aK.df,hk]
theorem ao1(hk:k=1):m.kP (a,.mk k n s ts)=m.Fq (a,.mk k n s ts):=by simp[Em.kP,aK.df,hk]
theorem aoZ(hk:k=2):m.kP (a,.mk k n s ts)=m.Fp (a,.mk k n s ts):=by simp[Em.kP,aK.df,hk]
theorem ao4(hk:k=3):m.kP (a,.mk k n s ts)=m.jf a (.mk k n s ts):=by simp[Em.kP,aK.df,hk]
end
theorem atQ{l:bH}{M:Em}(hl:eF l.length)(ho:gU l)(hk:zI l):
 ∀p:Nat×Em,(p.1<=l.length∧p.2.aM.length+2*bA (l.drop p.1)+1<65536∧Em.dW p.1 p.2 (l.drop p.1)=M)->
 bJ Z 66 33 6 (.aJ []) (jv M) (z6 (aP l) l.length (p.1:Int)) (AZ p.2) (ao Z 66 0):=by
 refine cV (fun p=>l.length-p.1) _ _ _ _ ?_;rintro⟨i,m⟩ ⟨hi,hc,hf⟩ ih;simp only at hi hc hf ih⊢;refine hD O2 1000 (fun _=>[4,17,18,19]) (by kernel_rfl) ?_;rw[atT];refine aI.2 ⟨fun aj=>?_,fun aS=>?_⟩
 ·have aj:i<l.length:=by simpa using aj
  obtain⟨k,n,s,ts,he,bX,bn⟩:=pz aj ho;have Bj:=hk l[i] (Fs aj);rw[he]at Bj;simp only[aK.df]at Bj;rw[dN aj,he]at hf hc;simp only[Em.dW,bA]at hf hc;have mT:=oS (.mk k n s ts);have bF:=aeD m (((i+1:Nat):Int),.mk k n s ts);simp only at bF;have hr:m.aM.length<65536:=by omega
  have xH:m.aM.length+2*cG (.mk k n s ts)<65536:=by omega
  have next:=ih (i+1,m.kP (((i+1:Nat):Int),.mk k n s ts)) ⟨by simp;omega,by simp only;omega,hf⟩ (by simp;omega)
  refine⟨i,rfl,aj,k,n,s,_,_,bX,Bj,?_⟩;rw[je hl aj];refine⟨fun h=>?_,fun h=>?_,fun h=>?_,fun h=>?_,trivial⟩
  ·rw[ao5 h]at next
   exact⟨(m,((i+1:Nat):Int),.mk k n s ts),⟨rfl,rfl,hr⟩,next⟩
  ·rw[ao1 h]at next
   exact⟨(m,((i+1:Nat):Int),.mk k n s ts),⟨rfl,rfl,hr⟩,next⟩
  ·rw[aoZ h]at next
   exact⟨(m,((i+1:Nat):Int),.mk k n s ts),⟨rfl,rfl,hr⟩,next⟩
  ·rw[ao4 h]at next
   exact⟨(m,((i+1:Nat):Int),.mk k n s ts),⟨rfl,rfl,xH,bn⟩,next⟩
 ·have aS:l.length<=i:=by simpa using aS
  rw[eT aS,Em.dW]at hf;subst hf;exact⟨rfl,rfl⟩
def SO(m:Em):AH:=an [(0,fg m 1 2 3 4 5),(1,fu m),(2,eN m),(3,eW m),(4,eU m),(5,eP m),(6,zu 103 104 105 106)] 7
theorem anN(m:Em):Mv (SO m) (AZ m) 1:=
 ss (l':=[(0,fg m 7 2 3 4 5),(1,.b9 []),(2,eN m),(3,eW m),(4,eU m),(5,eP m),(6,zu 103 104 105 106)]) rfl rfl rfl
theorem XG:bm Z O3:=by refine de O2 ?_;rintro⟨m,⟨k,⟨nm,ar,aC⟩,ls,v⟩⟩ args H ⟨rfl,rfl,hc,ho,hk⟩;simp only at hc hk;refine eS O2 1000 (fun _=>[4,17,18,19]) 33 (by kernel_rfl) ?_;simp only[kJ,aG,qn];rw[atS];refine uK (H:=SO m) (t':=z6 (aP ls) ls.length ((0:Nat):Int)) (g:=1) ?_ (anN m) (by kernel_rfl) (fun i a' hi=>⟨a',hi,xX hi (by simp[fi,iN,lN,SO,an])⟩);exact atQ ho.2.1 ho.2.2 hk (0,m) ⟨by simp,by simp only[jB];omega,by simp⟩
def EO(k n:Int)(s:LN)(len:Nat):LV:=
 if k=1 then[J 1,J n,.aa [],J 0]
 else if k=2 then[J 2,J 0,.aa s,J 0]
 else if k=3 then[J 3,J 0,.aa s,J len]
 else[J 0,J 0,.aa [],J 0]
def EP(k n:Int)(s:LN)(len:Nat):LV:=
 if k=0 then[J 0,J 0,.aa [],J 0]else[J k,J n,.aa s,J len]
theorem ax5{k n:Int}{s:LN}{len:Nat}(h:pY k n s len=true):EO k n s len=EP k n s len:=by
 unfold pY at h;unfold EO EP;by_cases h0:k=0
 ·subst h0;simp
 ·by_cases h1:k=1
  ·subst h1;simp at h;simp[h]
  ·by_cases h2:k=2
   ·subst h2;simp at h;simp[h]
   ·by_cases h3:k=3
    ·subst h3;simp at h;simp[h]
    ·simp[h0,h1,h2,h3]at h
def Mg:LV->Option (Prop×AV)
 |[.au [.ck .i64 k,.ck .i64 n,.aa s,.ax cs len 4]]=>some (True,.au (EO k n s len))
 |_=>none
def Mf:LV->Option (Prop×AV)
 |[.au [.ck .i64 k,.ck .i64 n,.aa s,.ax cs len 4]]=>some (True,.au (EP k n s len))
 |_=>none
def vU(m:Em)(aR:Bool):AH:=an [(0,.aw [.ai aR] 4),(1,.aw [.ab 2 0] 64),(2,fg m 3 4 5 6 7),(3,fu m),(4,eN m),(5,eW m),(6,eU m),(7,eP m)] 8
def UI(m:Em)(aR:Bool):AH:=an [(0,.aw [.ai aR] 4),(1,.aw [.ab 2 0] 64),(2,fg m 8 4 5 6 7),(3,.b9 []),(4,eN m),(5,eW m),(6,eU m),(7,eP m),(8,fu m)] 9
theorem anM(m:Em)(aR:Bool):Mv (vU m aR) (UI m aR) 3:=
 ss (l':=[(0,.aw [.ai aR] 4),(1,.aw [.ab 2 0] 64),(2,fg m 8 4 5 6 7),(3,.b9 []),(4,eN m),(5,eW m),(6,eU m),(7,eP m)]) rfl rfl rfl
def Em.cm(m:Em)(aR:Bool):Em:=bif aR then m.aE ⟨18,0,0,0,[],0⟩else m
def Qa:dp (Em×Bool)where
 ba w A H:=A=[.ab 0 0,.ab 1 0]∧H=vU w.1 w.2∧w.1.aM.length<65536
 v w:=.aJ []
 aN w:=UI (w.1.cm w.2) w.2
theorem aof:Qa.dx:=by
 rintro⟨m,e⟩ ⟨m',e'⟩ A H ⟨_,h2,_⟩ ⟨_,h4,_⟩;simp only at h2 h4;rw[h2]at h4;have q:=fun i=>congrArg (fun H=>AH.bu H i) h4
 simp only[vU,dy]at q;have e1:=Dt (m:=m) (m':=m') (dz (q 2)) (dz (q 3)) (dz (q 4)) (dz (q 5)) (dz (q 6)) (dz (q 7));have e2:[AV.ai e]=[AV.ai e']:=(aZ.aw.inj (dz (q 0))).1;simp only[List.cons.injEq,AV.ai.injEq,and_true]at e2;rw[e1,e2]
def O4:Ev.bz:=eB 30 (eG Mg) O3
def O6:Ev.bz:=eB 31 (eG Mf) O4
def O7:Ev.bz:=cz 63 (cM Qa aof cZ) O6
theorem asO(k n:Int)(s:LN)(cs:LV)(len:Nat)(L:LT)(Q:QT):
 b8 Z O3 (fun _=>[]) L Q 1000 30 [.au [J k,J n,.aa s,.ax cs len 4]] aq=(
 ah (k==1) (Q (.au [J 1,J n,.aa [],J 0]) aq) (ah (k==2) (Q (.au [J 2,J 0,.aa s,J 0]) aq) (ah (k==3) (Q (.au [J 3,J 0,.aa s,J (Int.ofNat len)]) aq) (Q (.au [J 0,J 0,.aa [],J 0]) aq)))):=by kernel_rfl
theorem asP(k n:Int)(s:LN)(cs:LV)(len:Nat)(L:LT)(Q:QT):
 b8 Z O4 (fun _=>[]) L Q 1000 31 [.au [J k,J n,.aa s,.ax cs len 4]] aq=(
 ah (k==0) (Q (.au [J 0,J 0,.aa [],J 0]) aq) (Q (.au [J k,J n,.aa s,J (Int.ofNat len)]) aq)):=by kernel_rfl
theorem afT(m:Em)(aR:Bool)(L:LT)(Q:QT):
 b8 Z O6 (fun _=>[]) L Q 1000 63 [.ab 0 0,.ab 1 0] (vU m aR)=(
 ah aR (∃w:Em×a9,(([.ab 0 0,.au [J 18,J 0,J 0,J 0,.aa [],J 0]]:LV)=[.ab 0 0,.au (cb w.2)]∧bK m=bK w.1∧w.1.aM.length<65536)∧Q (.aJ []) (UI (w.1.aE w.2) aR)) (Q (.aJ []) (vU m aR))):=by kernel_rfl
theorem O5:bm Z O4:=by
 refine iE XG fun args q v h hq=>?_
 unfold Mg at h;split at h<;>cases h;refine eS XG 1000 (fun _=>[]) 24 (by kernel_rfl) ?_;rw[asO]
 (repeat' (refine aI.2 ⟨fun _=>?_,fun _=>?_⟩))
 all_goals
  refine⟨?_,rfl⟩;simp_all[EO]
theorem Ju:bm Z O6:=by
 refine iE O5 fun args q v h hq=>?_
 unfold Mf at h;split at h<;>cases h;refine eS O5 1000 (fun _=>[]) 17 (by kernel_rfl) ?_;rw[asP]
 (repeat' (refine aI.2 ⟨fun _=>?_,fun _=>?_⟩))
 all_goals
  refine⟨?_,rfl⟩;simp_all[EP]
theorem XH:bm Z O7:=by
 refine de Ju ?_;rintro⟨m,aR⟩ args H ⟨rfl,rfl,hl⟩;cases aR with
 |true=>refine eS Ju 1000 (fun _=>[]) 8 (by kernel_rfl) ?_;rw[afT];exact aI.2 ⟨fun _=>⟨(m,⟨18,0,0,0,[],0⟩),⟨rfl,rfl,hl⟩,rfl,rfl⟩,fun h=>(by cases h)⟩
 |false=>refine Rr (v:=.aJ []) (H:=vU m false) ?_ (anM m false) (by simp[fi,iN,Qa]) (fB _);refine eS Ju 1000 (fun _=>[]) 8 (by kernel_rfl) ?_;rw[afT];exact aI.2 ⟨fun h=>(by cases h),fun _=>⟨rfl,rfl⟩⟩
def xO(v:Int)(m:LP):LP:=up v (wI ((lk v m).getD 0+1)) m
mutual
def pI:LP->aK->LP
 |m,.mk k n _ l=>lE (if k=0 then xO n m else m) l
def lE:LP->bH->LP
 |m,[]=>m
 |m,t::l=>lE (pI m t) l
end
def mH(m:LP):AH:=an [(0,.bC (bM J 0 m) m.length true)] 1
def QW(N:Nat):dp (LP×aK)where
 ba w A H:=A=[.aH 0,.au (cR w.2)]∧H=mH w.1∧eR w.2∧cG w.2<N
 v w:=.aJ []
 aN w:=mH (pI w.1 w.2)
theorem adi{m m':LP}(h:mH m=mH m'):m=m':=by have q:=congrArg (fun H=>AH.bu H 0) h;simp only[mH,dy]at q;have q:aZ.bC (bM J 0 m) m.length true=aZ.bC (bM J 0 m') m'.length true:=dz q;simp only[aZ.bC.injEq,and_true]at q;exact qY wF q.1
theorem ZS(N:Nat):(QW N).dx:=by rintro⟨m,t⟩ ⟨m',t'⟩ A H ⟨h1,h2,_⟩ ⟨h3,h4,_⟩;simp only at h1 h2 h3 h4;rw[h2]at h4;rw[h1]at h3;simp only[List.cons.injEq,AV.au.injEq,and_true,true_and]at h3;rw[adi h4,uz h3]
def F4(N:Nat):Ev.bz:=cz 58 (cM (QW N) (ZS N) cZ) O7
def ZR:dp (LP×aK)where
 ba w A H:=A=[.aH 0,.au (cR w.2)]∧H=mH w.1∧eR w.2
 v w:=.aJ []
 aN w:=mH (pI w.1 w.2)
theorem ajf:ZR.dx:=by rintro⟨m,t⟩ ⟨m',t'⟩ A H ⟨h1,h2,_⟩ ⟨h3,h4,_⟩;simp only at h1 h2 h3 h4;rw[h2]at h4;rw[h1]at h3;simp only[List.cons.injEq,AV.au.injEq,and_true,true_and]at h3;rw[adi h4,uz h3]
def CI:Ev.bz:=cz 58 (cM ZR ajf cZ) O7
abbrev I1 x0 x1 x2:=aQ [(0,.aH 0),(15,.ax x0 x1 4),(16,J (Int.ofNat x1)),(17,J x2)]
theorem atC(m:LP)(k n:Int)(s:LN)(cs:LV)(len:Nat)(N:Nat)(L:LT)(Q:QT):
 b8 Z (F4 N) (fun _=>[0,15,16,17]) L Q 1000 58 [.aH 0,.au [J k,J n,.aa s,.ax cs len 4]] (mH m)=(
 ah (k==0) (∃aL:Int,∃b:Bool,fX Z 2 3 (bM J 0 m) (J n)=some (J aL,b)∧(∃bw:List (AV×AV×Nat),∃c':Nat,jc Z 2 (bM J 0 m) m.length (J n) (J (wI (aL+1)))=some (bw,c')∧L (I1 cs len 0) (an [(0,.bC bw c' true)] 1) (ao Z 58 0))) (L (I1 cs len 0) (mH m) (ao Z 58 0))):=by kernel_rfl
theorem atD(m:LP)(i:Int)(cs:LV)(len:Nat)(N:Nat)(L:LT)(Q:QT):
 cO Z (F4 N) (fun _=>[0,15,16,17]) L Q 1000 58 1 (I1 cs len i) (ao Z 58 0) (mH m)=(
 ah (decide (i<Int.ofNat len)) (∃aD:Nat,i=(aD:Int)∧aD<len∧(∃n:Int,∃aL:Int,∃s:LN,∃cA:LV,∃cq:Nat,((cs.drop (aD*4)).take 4:LV)=[J n,J aL,.aa s,.ax cA cq 4]∧(∃w:List (Int×Int)×aK,(([.aH 0,.au [J n,J aL,.aa s,.ax cA cq 4]]:LV)=[.aH 0,.au (cR w.2)]∧mH m=mH w.1∧eR w.2∧cG w.2<N)∧L (I1 cs len (wI (i+1))) (mH (pI w.1 w.2)) (ao Z 58 0)))) (Q (.aJ []) (mH m))):=by kernel_rfl
theorem ade(m:LP)(v:Int):∃n:Int,∃b:Bool,fX Z 2 3 (bM J 0 m) (J v)=some (J n,b)∧(lk v m).getD 0=n:=by
 rw[sq _ nv];cases lk v m with
 |none=>exact⟨0,false,by rw[FY];rfl,rfl⟩
 |some b=>exact⟨b,true,rfl,rfl⟩
theorem afQ{l:bH}{N:Nat}{M:LP}(hS:bm Z (F4 N))(hl:eF l.length)(ho:gU l)(hN:bA l<N):
 ∀p:Nat×LP,(p.1<=l.length∧lE p.2 (l.drop p.1)=M)->
 bJ Z 58 25 1 (.aJ []) (mH M) (I1 (aP l) l.length (p.1:Int)) (mH p.2) (ao Z 58 0):=by
 refine cV (fun p=>l.length-p.1) _ _ _ _ ?_;rintro⟨i,m⟩ ⟨hi,hf⟩ ih;simp only at hi hf ih⊢;refine hD hS 1000 (fun _=>[0,15,16,17]) (by kernel_rfl) ?_;rw[atD];refine aI.2 ⟨fun aj=>?_,fun aS=>?_⟩
 ·have aj:i<l.length:=by simpa using aj
  rw[dN aj,lE]at hf;obtain⟨k,n,s,ts,hf,-,bX,bn,cJ⟩:=Cd aj ho hN (P:=fun u=>lE (pI m u) (l.drop (i+1))=M) hf;refine⟨i,rfl,aj,k,n,s,_,_,bX,?_⟩;rw[je hl aj];exact⟨(m,.mk k n s ts),⟨rfl,rfl,bn,cJ⟩,ih (i+1,pI m (.mk k n s ts)) ⟨by simp;omega,hf⟩ (by simp;omega)⟩
 ·have aS:l.length<=i:=by simpa using aS
  rw[eT aS,lE]at hf;subst hf;exact⟨rfl,rfl⟩
theorem afP{N:Nat}{m:LP}{k n:Int}{s:LN}{l:bH}(hS:bm Z (F4 N))(ho:eR (.mk k n s l))(hN:bA l<N):
 dT Z 58 [.aH 0,.au [J k,J n,.aa s,.ax (aP l) l.length 4]] (mH m) (.aJ []) (mH (pI m (.mk k n s l))):=by
 refine eS hS 1000 (fun _=>[0,15,16,17]) 25 (by kernel_rfl) ?_;rw[atC];refine aI.2 ⟨fun hk=>?_,fun hk=>?_⟩
 ·have hk:k=0:=by simpa using hk
  obtain⟨c,b,h1,h2⟩:=ade m n;refine⟨c,b,h1,_,_,qb J nv,?_⟩;exact afQ hS ho.2.1 ho.2.2 hN (0,up n (wI (c+1)) m) ⟨by simp,by simp only[pI,hk,if_true,xO,h2,jB]⟩
 ·have hk:k≠0:=by simpa using hk
  exact afQ hS ho.2.1 ho.2.2 hN (0,m) ⟨by simp,by simp only[pI,aB hk,jB]⟩
theorem ahB:∀N,bm Z (F4 N):=by
 refine BZ (e:=QW) (h1:=ZS) XH ?_ ?_
 ·rintro⟨m,t⟩ args H ⟨_,_,_,h⟩;omega
 ·rintro N hS ⟨m,⟨k,n,s,l⟩⟩ args H ⟨rfl,rfl,ho,hN⟩;simp only[cG]at hN;exact afP hS ho (by omega)
theorem F5:bm Z CI:=by refine de XH ?_;rintro⟨m,⟨k,n,s,l⟩⟩ args H ⟨rfl,rfl,ho⟩;exact afP (ahB (bA l+1)) ho (by omega)
def zz:Nat->LN:=kg [(3,[1,3,12,13,14]),(8,[3,23,24,25]),(11,[3,7,23,24,25,30,31,32])]
def xP(k:Int):Bool:=k==2||k==3||k==4
def yQ(m:LP)(g:gH):LP:=if xP g.cS then xO g.gE (lE m g.cx)else lE m g.cx
def xb(m:LP)(l:cY):LP:=l.foldl yQ m
def ql(f:bg):LP:=xb (lE [] f.aO) f.aA
def QV:dp bg where
 ba f A H:=A=[.au (ft f)]∧H=aq∧hJ f
 v f:=.aH 0
 aN f:=mH (ql f)
theorem aja:QV.dx:=by rintro f g A H ⟨h1,_⟩ ⟨h2,_⟩;rw[h1]at h2;simp only[List.cons.injEq,AV.au.injEq,and_true]at h2;rw[vG _ _ h2]
def Jv:Ev.bz:=cz 24 (cM QV aja cZ) CI
def K9(m:LP)(k v ar aC:Int)(nm:LN)(cs:LV)(len:Nat):AH:=an [(0,.bC (bM J 0 m) m.length true),(1,.aw [J k,.aa nm,J ar,J aC,.ax cs len 4,J v] 46)] 2
def RD(m:LP)(nm:LN)(ar aC:Int)(cs:LV)(len:Nat)(gs:LV)(gl:Nat):AH:=an [(0,.aw [.aa nm,J ar,J aC,.ax cs len 4,.ax gs gl 6] 27),(1,.bC (bM J 0 m) m.length true)] 2
abbrev NX x0 x1 x2:=aQ [(1,.ab 0 0),(3,.aH 1),(12,.ax x0 x1 4),(13,J (Int.ofNat x1)),(14,J x2)]
theorem asx(nm:LN)(ar aC:Int)(cs:LV)(len:Nat)(gs:LV)(gl:Nat)(L:LT)(Q:QT):
 b8 Z CI zz L Q 1000 24 [.au [.aa nm,J ar,J aC,.ax cs len 4,.ax gs gl 6]] aq=(
 L (NX cs len 0) (an [(0,.aw [.aa nm,J ar,J aC,.ax cs len 4,.ax gs gl 6] 27),(1,.bC [] 0 true)] 2) (ao Z 24 0)):=by kernel_rfl
abbrev tQ x0 x1 x2:=aQ [(3,.aH 0),(23,.ax x0 x1 6),(24,J (Int.ofNat x1)),(25,J x2)]
theorem asy(m:LP)(nm:LN)(ar aC i:Int)(cs:LV)(len:Nat)(gs:LV)(gl:Nat)(L:LT)(Q:QT):
 cO Z CI zz L Q 1000 24 0 (NX cs len i) (ao Z 24 0) (RD m nm ar aC cs len gs gl)=(
 ah (decide (i<Int.ofNat len)) (∃aD:Nat,i=(aD:Int)∧aD<len∧(∃n:Int,∃aL:Int,∃s:LN,∃cA:LV,∃cq:Nat,((cs.drop (aD*4)).take 4:LV)=[J n,J aL,.aa s,.ax cA cq 4]∧(∃w:List (Int×Int)×aK,(([.aH 0,.au [J n,J aL,.aa s,.ax cA cq 4]]:LV)=[.aH 0,.au (cR w.2)]∧mH m=mH w.1∧eR w.2)∧L (NX cs len (wI (i+1))) (RD (pI w.1 w.2) nm ar aC cs len gs gl) (ao Z 24 0)))) (L (tQ gs gl 0) (mH m) (ao Z 24 1))):=by kernel_rfl
abbrev NY x0 x1 x2 x3 x4 x5:=aQ [(3,.aH 0),(7,.ab 1 0),(23,.ax x0 x1 6),(24,J (Int.ofNat x1)),(25,J x2),(30,.ax x3 x4 4),(31,J (Int.ofNat x4)),(32,J x5)]
theorem asz(m:LP)(i:Int)(gs:LV)(gl:Nat)(L:LT)(Q:QT):
 cO Z CI zz L Q 1000 24 0 (tQ gs gl i) (ao Z 24 1) (mH m)=(
 ah (decide (i<Int.ofNat gl)) (∃aD:Nat,i=(aD:Int)∧aD<gl∧(∃n:Int,∃s:LN,∃aL:Int,∃bD:Int,∃cs:LV,∃len:Nat,∃cf:Int,((gs.drop (aD*6)).take 6:LV)=[J n,.aa s,J aL,J bD,.ax cs len 4,J cf]∧L (NY gs gl i cs len 0) (K9 m n cf aL bD s cs len) (ao Z 24 2))) (Q (.aH 0) (mH m))):=by kernel_rfl
theorem asA(m:LP)(i j k v ar aC:Int)(nm:LN)(cs:LV)(len:Nat)(gs:LV)(gl:Nat)(L:LT)(Q:QT):
 cO Z CI zz L Q 1000 24 0 (NY gs gl i cs len j) (ao Z 24 2) (K9 m k v ar aC nm cs len)=(
 ah (decide (j<Int.ofNat len)) (∃aD:Nat,j=(aD:Int)∧aD<len∧(∃n:Int,∃aL:Int,∃s:LN,∃cA:LV,∃cq:Nat,((cs.drop (aD*4)).take 4:LV)=[J n,J aL,.aa s,.ax cA cq 4]∧(∃w:List (Int×Int)×aK,(([.aH 0,.au [J n,J aL,.aa s,.ax cA cq 4]]:LV)=[.aH 0,.au (cR w.2)]∧mH m=mH w.1∧eR w.2)∧L (NY gs gl i cs len (wI (j+1))) (K9 (pI w.1 w.2) k v ar aC nm cs len) (ao Z 24 2)))) (ah (k==2) (ah (k==2) (∃n:Int,∃b:Bool,fX Z 2 3 (bM J 0 m) (J v)=some (J n,b)∧(∃bw:List (AV×AV×Nat),∃c':Nat,jc Z 2 (bM J 0 m) m.length (J v) (J (wI (n+1)))=some (bw,c')∧L (tQ gs gl (wI (i+1))) (an [(0,.bC bw c' true)] 1) (ao Z 24 1))) (L (tQ gs gl (wI (i+1))) (mH m) (ao Z 24 1))) (ah (k==3) (ah (k==3) (∃n:Int,∃b:Bool,fX Z 2 3 (bM J 0 m) (J v)=some (J n,b)∧(∃bw:List (AV×AV×Nat),∃c':Nat,jc Z 2 (bM J 0 m) m.length (J v) (J (wI (n+1)))=some (bw,c')∧L (tQ gs gl (wI (i+1))) (an [(0,.bC bw c' true)] 1) (ao Z 24 1))) (L (tQ gs gl (wI (i+1))) (mH m) (ao Z 24 1))) (ah (k==4) (∃n:Int,∃b:Bool,fX Z 2 3 (bM J 0 m) (J v)=some (J n,b)∧(∃bw:List (AV×AV×Nat),∃c':Nat,jc Z 2 (bM J 0 m) m.length (J v) (J (wI (n+1)))=some (bw,c')∧L (tQ gs gl (wI (i+1))) (an [(0,.bC bw c' true)] 1) (ao Z 24 1))) (L (tQ gs gl (wI (i+1))) (mH m) (ao Z 24 1)))))):=by kernel_rfl
theorem asw{gs:cY}{M m':LP}{i:Nat}{k v ar aC:Int}{nm:LN}{l:bH}(vY:eF gs.length)(hi:i<gs.length)(hl:eF l.length)(ho:gU l)
 (dM:bJ Z 24 53 0 (.aH 0) (mH M) (tQ (bN gs) gs.length ((i+1:Nat):Int)) (mH m') (ao Z 24 1)):
 ∀p:Nat×LP,(p.1<=l.length∧(if xP k then xO v (lE p.2 (l.drop p.1))else lE p.2 (l.drop p.1))=m')->
 bJ Z 24 53 0 (.aH 0) (mH M) (NY (bN gs) gs.length (i:Int) (aP l) l.length (p.1:Int)) (K9 p.2 k v ar aC nm (aP l) l.length) (ao Z 24 2):=by
 refine cV (fun p=>l.length-p.1) _ _ _ _ ?_;rintro⟨j,m⟩ ⟨hj,hf⟩ ih;simp only at hj hf ih⊢;refine hD F5 1000 zz (by kernel_rfl) ?_;rw[asA];refine aI.2 ⟨fun aj=>?_,fun aS=>?_⟩
 ·have aj:j<l.length:=by simpa using aj
  obtain⟨k1,n1,s1,ts,he,bX,bn⟩:=pz aj ho;rw[dN aj,he]at hf;simp only[lE]at hf;refine⟨j,rfl,aj,k1,n1,s1,_,_,bX,?_⟩;rw[je hl aj];exact⟨(m,.mk k1 n1 s1 ts),⟨rfl,rfl,bn⟩,ih (j+1,pI m (.mk k1 n1 s1 ts)) ⟨by simp;omega,hf⟩ (by simp;omega)⟩
 ·have aS:l.length<=j:=by simpa using aS
  rw[eT aS]at hf;simp only[lE]at hf;rw[je vY hi];obtain⟨c,b,h1,h2⟩:=ade m v;have vh:xP k=true->∃n:Int,∃b:Bool,(fX Z 2 3 (bM J 0 m) (J v)=some ((J n,b)))∧∃bw:List (AV×AV×Nat),∃c':Nat,(jc Z 2 (bM J 0 m) (List.length m) (J v) (J (wI (n+1)))=some ((bw,c')))∧
   bJ Z 24 53 0 (.aH 0) (mH M) (tQ (bN gs) gs.length ((i+1:Nat):Int)) (an [(0,.bC bw c' true)] 1) (ao Z 24 1):=by
   intro h;rw[aY h]at hf;refine⟨c,b,h1,_,_,qb J nv,?_⟩;rw[←hf]at dM;simp only[xO,h2]at dM;exact dM
  have no:xP k=false->bJ Z 24 53 0 (.aH 0) (mH M) (tQ (bN gs) gs.length ((i+1:Nat):Int)) (an [(0,.bC (bM J 0 m) m.length true)] 1) (ao Z 24 1):=by intro h;rw[aB (by simp[h])]at hf;rw[←hf]at dM;exact dM
  clear ih hf dM
  (repeat' (refine aI.2 ⟨fun _=>?_,fun _=>?_⟩))
  all_goals first
   |(refine vh ?_;clear vh no;simp_all[xP];done)
   |(refine no ?_;clear vh no;simp_all[xP];done)
   |(exfalso;clear vh no;simp_all;done)
theorem asv{gs:cY}{M:LP}(vY:eF gs.length)(Tf:∀g∈gs,nF g):
 ∀p:Nat×LP,(p.1<=gs.length∧xb p.2 (gs.drop p.1)=M)->
 bJ Z 24 53 0 (.aH 0) (mH M) (tQ (bN gs) gs.length (p.1:Int)) (mH p.2) (ao Z 24 1):=by
 refine cV (fun p=>gs.length-p.1) _ _ _ _ ?_;rintro⟨i,m⟩ ⟨hi,hf⟩ ih;simp only at hi hf ih⊢;refine hD F5 1000 zz (by kernel_rfl) ?_;rw[asz];refine aI.2 ⟨fun aj=>?_,fun aS=>?_⟩
 ·have aj:i<gs.length:=by simpa using aj
  obtain⟨k,nm,ar,aC,ls,v,he,bX,bn⟩:=ra aj Tf;rw[dN aj,he]at hf;simp only[xb,iy]at hf;refine⟨i,rfl,aj,k,nm,ar,aC,_,_,v,bX,?_⟩;exact asw (m':=yQ m ⟨k,⟨nm,ar,aC⟩,ls,v⟩) vY aj bn.2.1 bn.2.2 (ih (i+1,yQ m ⟨k,⟨nm,ar,aC⟩,ls,v⟩) ⟨by simp;omega,hf⟩ (by simp;omega)) (0,m) ⟨by simp,by simp only[yQ,jB]⟩
 ·have aS:gs.length<=i:=by simpa using aS
  rw[eT aS]at hf;simp only[xb,List.foldl_nil]at hf;subst hf;exact⟨rfl,rfl⟩
theorem asu{gs:cY}{M:LP}{nm:LN}{ar aC:Int}{l:bH}(vY:eF gs.length)(Tf:∀g∈gs,nF g)(hl:eF l.length)(ho:gU l):
 ∀p:Nat×LP,(p.1<=l.length∧xb (lE p.2 (l.drop p.1)) gs=M)->
 bJ Z 24 53 0 (.aH 0) (mH M) (NX (aP l) l.length (p.1:Int)) (RD p.2 nm ar aC (aP l) l.length (bN gs) gs.length) (ao Z 24 0):=by
 refine cV (fun p=>l.length-p.1) _ _ _ _ ?_;rintro⟨j,m⟩ ⟨hj,hf⟩ ih;simp only at hj hf ih⊢;refine hD F5 1000 zz (by kernel_rfl) ?_;rw[asy];refine aI.2 ⟨fun aj=>?_,fun aS=>?_⟩
 ·have aj:j<l.length:=by simpa using aj
  obtain⟨k1,n1,s1,ts,he,bX,bn⟩:=pz aj ho;rw[dN aj,he]at hf;simp only[lE]at hf;refine⟨j,rfl,aj,k1,n1,s1,_,_,bX,?_⟩;rw[je hl aj];exact⟨(m,.mk k1 n1 s1 ts),⟨rfl,rfl,bn⟩,ih (j+1,pI m (.mk k1 n1 s1 ts)) ⟨by simp;omega,hf⟩ (by simp;omega)⟩
 ·have aS:l.length<=j:=by simpa using aS
  rw[eT aS]at hf;simp only[lE]at hf;exact asv vY Tf (0,m) ⟨by simp,by simpa using hf⟩
theorem O8:bm Z Jv:=by refine de F5 ?_;rintro⟨⟨nm,ar,aC⟩,l,gs⟩ args H ⟨rfl,rfl,ho⟩;refine eS F5 1000 zz 53 (by kernel_rfl) ?_;simp only[QV,ft];rw[asx];exact asu ho.2.2.2.1 ho.2.2.2.2 ho.2.1 ho.2.2.1 (0,[]) ⟨by simp,by simp only[ql,jB]⟩
structure gP where
 cg:LI
 a8:LI
 aU:LI
def KA(c:gP):LV:=[.ad 0 c.cg.length 1,.ad 1 c.a8.length 1,.ad 2 c.aU.length 1]
def uw(c:gP):AH:=an [(0,.aF (aX c.cg) 3),(1,.aF (aX c.a8) 2),(2,.aF (aX c.aU) 3)] 3
def oI:cY->Bool
 |[]=>false
 |[_]=>false
 |g::l=>g.cS==1||oI l
def iY(f:bg)(c:gP):Bool:=oI f.aA||decide (0<c.a8.length)
def Rw:dp (bg×gP)where
 ba w A H:=A=[.au (ft w.1),.au (KA w.2)]∧H=uw w.2∧hJ w.1
 v w:=.ai (iY w.1 w.2)
 aN w:=uw w.2
theorem ai0{c d:gP}(h:uw c=uw d):c=d:=by
 have q:=fun i=>congrArg (fun H=>AH.bu H i) h
 simp only[uw,dy]at q;have q0:aZ.aF (aX c.cg) 3=aZ.aF (aX d.cg) 3:=dz (q 0);have q1:aZ.aF (aX c.a8) 2=aZ.aF (aX d.a8) 2:=dz (q 1);have q2:aZ.aF (aX c.aU) 3=aZ.aF (aX d.aU) 3:=dz (q 2);obtain⟨a,b,e⟩:=c;obtain⟨a',b',e'⟩:=d;rw[gP.mk.injEq];exact⟨Ca (aZ.aF.inj q0).1,Ca (aZ.aF.inj q1).1,Ca (aZ.aF.inj q2).1⟩
theorem akc:Rw.dx:=by rintro⟨f,c⟩ ⟨f',c'⟩ A H ⟨h1,h2,_⟩ ⟨h3,h4,_⟩;simp only at h1 h2 h3 h4;rw[h2]at h4;rw[h1]at h3;have:=ai0 h4;subst this;simp only[List.cons.injEq,AV.au.injEq,and_true]at h3;rw[vG _ _ h3]
def O9:Ev.bz:=cz 25 (cM Rw akc cZ) Jv
def h25(nm:LN)(ar aC:Int)(cs:LV)(len:Nat)(gs:LV)(gl:Nat)(c:gP):AH:=an [(0,.aF (aX c.cg) 3),(1,.aF (aX c.a8) 2),(2,.aF (aX c.aU) 3),(3,.aw [.aa nm,J ar,J aC,.ax cs len 4,.ax gs gl 6] 27),(4,.aw (KA c) 60)] 5
abbrev I2 x0 x1 x2:=aQ [(2,.ab 3 0),(3,.ab 4 0),(8,.ax x0 x1 6),(9,J (Int.ofNat x1)),(10,J x2)]
theorem asC(nm:LN)(ar aC:Int)(cs:LV)(len:Nat)(gs:LV)(gl:Nat)(c:gP)(L:LT)(Q:QT):
 b8 Z Jv (fun _=>[2,3,8,9,10]) L Q 1000 25 [.au [.aa nm,J ar,J aC,.ax cs len 4,.ax gs gl 6],.au (KA c)] (uw c)=(
 L (I2 gs gl 0) (an [(0,.aF (aX c.cg) 3),(1,.aF (aX c.a8) 2),(2,.aF (aX c.aU) 3),(3,.aw [.aa nm,J ar,J aC,.ax cs len 4,.ax gs gl 6] 27),(4,.aw [.ad 0 c.cg.length 1,.ad 1 c.a8.length 1,.ad 2 c.aU.length 1] 60)] 5) (ao Z 25 0)):=by kernel_rfl
theorem asD(nm:LN)(ar aC i:Int)(cs:LV)(len:Nat)(gs:LV)(gl:Nat)(c:gP)(L:LT)(Q:QT):
 cO Z Jv (fun _=>[2,3,8,9,10]) L Q 1000 25 3 (I2 gs gl i) (ao Z 25 0) (h25 nm ar aC cs len gs gl c)=(
 ah (decide (i<Int.ofNat gl)) (∃aD:Nat,i=(aD:Int)∧aD<gl∧(∃n:Int,∃s:LN,∃aL:Int,∃bD:Int,∃cA:LV,∃cq:Nat,∃cf:Int,((gs.drop (aD*6)).take 6:LV)=[J n,.aa s,J aL,J bD,.ax cA cq 4,J cf]∧ah (n==1) (ah (decide (i<wI (Int.ofNat gl-1))) (Q (.ai true) (uw c)) (L (I2 gs gl (wI (i+1))) (an [(0,.aF (aX c.cg) 3),(1,.aF (aX c.a8) 2),(2,.aF (aX c.aU) 3),(3,.aw [.aa nm,J ar,J aC,.ax cs len 4,.ax gs gl 6] 27),(4,.aw [.ad 0 c.cg.length 1,.ad 1 c.a8.length 1,.ad 2 c.aU.length 1] 60)] 5) (ao Z 25 0))) (L (I2 gs gl (wI (i+1))) (an [(0,.aF (aX c.cg) 3),(1,.aF (aX c.a8) 2),(2,.aF (aX c.aU) 3),(3,.aw [.aa nm,J ar,J aC,.ax cs len 4,.ax gs gl 6] 27),(4,.aw [.ad 0 c.cg.length 1,.ad 1 c.a8.length 1,.ad 2 c.aU.length 1] 60)] 5) (ao Z 25 0)))) (Q (.ai (decide (Int.ofNat c.a8.length>0))) (uw c))):=by kernel_rfl
theorem amK{gs:cY}{i:Nat}(h:i<gs.length):oI (gs.drop i)=((gs[i].cS==1&&decide (i+1<gs.length))||oI (gs.drop (i+1))):=by
 rw[dN h];cases hd:gs.drop (i+1)with
 |nil=>
  have:¬i+1<gs.length:=by have:=List.drop_eq_nil_iff.1 hd;omega
  simp[oI,this]
 |cons g l=>
  have:i+1<gs.length:=by
   rcases Nat.lt_or_ge (i+1) gs.length with h|h
   ·exact h
   ·rw[eT h]at hd;cases hd
  simp[oI,this]
theorem asB{nm:LN}{ar aC:Int}{cs:LV}{len:Nat}{gs:cY}{c:gP}{az:Bool}(hl:eF gs.length)(ho:∀g∈gs,nF g):
 ∀i:Nat,(i<=gs.length∧(oI (gs.drop i)||decide (0<c.a8.length))=az)->
 bJ Z 25 31 3 (.ai az) (uw c) (I2 (bN gs) gs.length (i:Int)) (h25 nm ar aC cs len (bN gs) gs.length c) (ao Z 25 0):=by
 refine cV (fun i=>gs.length-i) _ _ _ _ ?_;rintro i ⟨hi,hf⟩ ih;refine hD O8 1000 (fun _=>[2,3,8,9,10]) (by kernel_rfl) ?_;rw[asD];refine aI.2 ⟨fun aj=>?_,fun aS=>?_⟩
 ·have aj:i<gs.length:=by simpa using aj
  obtain⟨k,ki,jP,j8,ls,v,he,bX,bn⟩:=ra aj ho;rw[amK aj,he]at hf;simp only at hf;refine⟨i,rfl,aj,k,ki,jP,j8,_,_,v,bX,?_⟩;have e:wI (Int.ofNat gs.length-1)=(gs.length:Int)-1:=by unfold eF at hl;rw[cX (by simp only[k_];omega) (by simp only[k_];omega)];simp
  rw[je hl aj,e];refine aI.2 ⟨fun hk=>aI.2 ⟨fun h2=>?_,fun h2=>?_⟩,fun hk=>?_⟩
  ·have h2:i+1<gs.length:=by simp at h2;omega
   simp[hk,h2]at hf;exact⟨by rw[←hf],rfl⟩
  ·have h2:¬i+1<gs.length:=by simp at h2;omega
   simp only[h2,decide_false,Bool.and_false,Bool.false_or]at hf;exact ih (i+1) ⟨by omega,hf⟩ (by omega)
  ·simp only[hk,Bool.false_and,Bool.false_or]at hf;exact ih (i+1) ⟨by omega,hf⟩ (by omega)
 ·have aS:gs.length<=i:=by simpa using aS
  rw[eT aS]at hf;subst hf;exact⟨by simp[oI],rfl⟩
theorem XI:bm Z O9:=by refine de O8 ?_;rintro⟨⟨⟨nm,ar,aC⟩,l,gs⟩,c⟩ args H ⟨rfl,rfl,ho⟩;refine eS O8 1000 (fun _=>[2,3,8,9,10]) 31 (by kernel_rfl) ?_;simp only[Rw,ft];rw[asC];exact asB ho.2.2.2.1 ho.2.2.2.2 0 ⟨by omega,by simp only[iY,jB]⟩
def uB(w:Int×aK):LV:=J w.1::cR w.2
def kC:List (Int×aK)->LV
 |[]=>[]
 |w::l=>uB w++kC l
theorem KH(w:Int×aK):(uB w).length=5:=by simp[uB,Dw]
theorem Ro:∀l:List (Int×aK),(kC l).length=l.length*5
 |[]=>rfl
 |t::l=>by simp[kC,KH,Ro l];omega
theorem aaq:∀l m:List (Int×aK),kC (l++m)=kC l++kC m
 |[],m=>rfl
 |t::l,m=>by simp[kC,aaq l m]
theorem ajY{a b:Int×aK}(h:uB a=uB b):a=b:=by obtain⟨r,t⟩:=a;obtain⟨r',t'⟩:=b;simp only[uB,List.cons.injEq,AV.ck.injEq,true_and]at h;obtain⟨rfl,h⟩:=h;rw[uz h]
theorem Rn:∀{l m:List (Int×aK)},kC l=kC m->l=m
 |[],[],_=>rfl
 |[],i::_,h=>by simp[kC,uB]at h
 |i::_,[],h=>by simp[kC,uB]at h
 |t::l,u::m,h=>by simp only[kC]at h;have h2:=List.append_inj h (by rw[KH,KH]);rw[ajY h2.1,Rn h2.2]
theorem ajN(t:aK):(cR t).all AV.dR=true∧(cR t).all iD=true:=by obtain⟨k,n,s,l⟩:=t;exact⟨rfl,rfl⟩
theorem ajS:∀l:List (Int×aK),(kC l).all AV.dR=true∧(kC l).all iD=true
 |[]=>⟨rfl,rfl⟩
 |(r,t)::l=>by have:=ajS l;have h:=ajN t;simp only[kC,uB,sA,List.all_cons,List.all_append,this.1,this.2,h.1,h.2,Bool.and_true];exact⟨rfl,rfl⟩
def M3(l:List (Int×aK)):Prop:=∀w∈l,eR w.2
def fc:List (Int×aK)->Nat
 |[]=>0
 |w::l=>1+2*bA w.2.dE+fc l
theorem Iz:∀l m:List (Int×aK),fc (l++m)=fc l+fc m
 |[],m=>by simp[fc]
 |t::l,m=>by simp[fc,Iz l m];omega
theorem acY:∀l:List (Int×aK),l.length<=fc l
 |[]=>by simp
 |t::l=>by have:=acY l;simp only[fc,dv];omega
def Em.gf(m:Em)(t:aK):Em×List (Int×aK):=
 if t.df=0 then(if m.qX t.n>1 then m.gO t.n 6 7 0 else m.aE ⟨10,0,0,1,[],0⟩,[])
 else if t.df=1 then(m.aE ⟨8,0,0,t.n,[],0⟩,[])
 else if t.df=2 then(m.aE ⟨9,0,0,0,t.f_,0⟩,[])
 else(m.bq.aE ⟨6,m.bq.bT,0,0,[],0⟩,[(m.bq.bT,t)])
def Em.gk:Em->List (Int×aK)->bH->Em×List (Int×aK)
 |m,q,[]=>(m,q)
 |m,q,t::l=>Em.gk (m.gf t).1 (q++(m.gf t).2) l
def Em.lY:Nat->Em->List (Int×aK)->Em
 |0,m,_=>m
 |_+1,m,[]=>m
 |n+1,m,w::q=>Em.lY n ((m.aE ⟨5,0,w.1,0,w.2.f_,w.2.dE.length⟩).gk q w.2.dE).1 ((m.aE ⟨5,0,w.1,0,w.2.f_,w.2.dE.length⟩).gk q w.2.dE).2
def Em.y'(m:Em)(w:Int×aK):Em:=Em.lY (fc [w]+1) m [w]
def jS(i:Nat):aZ:=.aw [.ab i 0] 64
def nI(q:List (Int×aK)):aZ:=.aF (kC q) 150
def wO(w:Int×aK):aZ:=.aw [J w.1,J w.2.df,J w.2.n,.aa w.2.f_,.ax (aP w.2.dE) w.2.dE.length 4] 150
theorem awx{w w':Int×aK}(h:wO w=wO w'):w=w':=by obtain⟨r,⟨k,n,s,l⟩⟩:=w;obtain⟨r',⟨k',n',s',l'⟩⟩:=w';simp only[wO,aK.df,aK.n,aK.f_,aK.dE,aZ.aw.injEq,List.cons.injEq,AV.ck.injEq,AV.aa.injEq,AV.ax.injEq,true_and,and_true]at h;obtain⟨rfl,rfl,rfl,rfl,h1,h2⟩:=h;rw[vJ h2 h1]
def Lf(m:Em)(q:List (Int×aK))(w:Int×aK):AH:=an [(0,jS 3),(1,.aw [.ad 4 q.length 5] 151),(2,wO w),(3,fg m 5 6 7 8 9),(4,nI q),(5,fu m),(6,eN m),(7,eW m),(8,eU m),(9,eP m)] 10
def adR(m:Em)(q:List (Int×aK))(w:Int×aK):AH:=an [(0,jS 3),(1,.aw [.ad 10 q.length 5] 151),(2,wO w),(3,fg m 11 6 7 8 9),(4,.b9 []),(5,.b9 []),(6,eN m),(7,eW m),(8,eU m),(9,eP m),(10,nI q),(11,fu m)] 12
def A1(m:Em)(q:List (Int×aK))(w:Int×aK):AH:=an [(0,fg m 4 5 6 7 8),(1,jS 0),(2,.aw [.bE 9 5 q.length 0 5 false] 151),(3,wO w),(4,fu m),(5,eN m),(6,eW m),(7,eU m),(8,eP m),(9,nI (w::q))] 10
def acn(m:Em)(q:List (Int×aK))(w:Int×aK):AH:=an [(0,fg m 10 5 6 7 8),(1,jS 0),(2,.aw [.bE 9 5 q.length 0 5 false] 151),(3,wO w),(4,.b9 []),(5,eN m),(6,eW m),(7,eU m),(8,eP m),(9,nI (w::q)),(10,fu m)] 11
def Im(m:Em)(q:List (Int×aK))(w:Int×aK):AH:=an [(0,fg m 10 5 6 7 8),(1,jS 0),(2,.aw [.ad 11 q.length 5] 151),(3,wO w),(4,.b9 []),(5,eN m),(6,eW m),(7,eU m),(8,eP m),(9,.b9 []),(10,fu m),(11,nI q)] 12
def P_:dp (Em×List (Int×aK)×(Int×aK)×Nat)where
 ba w A H:=A=[J (w.2.2.2:Int),.ab 0 0,.ab 1 0,.ab 2 0]∧H=Lf w.1 w.2.1 w.2.2.1∧w.1.aM.length<65536∧w.2.1.length<65536∧w.2.2.2<w.2.2.1.2.dE.length
 v w:=.aJ []
 aN w:=adR (w.1.bq.aE ⟨6,w.1.bq.bT,0,0,[],0⟩) (w.2.1++[(w.1.bq.bT,w.2.2.1.2.dE.getD w.2.2.2 default)]) w.2.2.1
def Qc:dp (Em×List (Int×aK)×(Int×aK))where
 ba w A H:=A=[.ab 0 0,.au (cR w.2.2.2),.bR (.func 100) [] [.ab 1 0,.ab 2 0,.ab 3 0]]∧H=A1 w.1 w.2.1 w.2.2∧w.1.aM.length+fc w.2.1+2*bA w.2.2.2.dE<65536∧eR w.2.2.2
 v w:=.aJ []
 aN w:=Im (w.1.gk w.2.1 w.2.2.2.dE).1 (w.1.gk w.2.1 w.2.2.2.dE).2 w.2.2
theorem aoc:P_.dx:=by
 rintro⟨m,q,w,i⟩ ⟨m',q',w',i'⟩ A H ⟨h1,h2,_⟩ ⟨h3,h4,_⟩;simp only at h1 h2 h3 h4;rw[h1]at h3;rw[h2]at h4;have k:=fun i=>congrArg (fun H=>AH.bu H i) h4
 simp only[Lf,dy]at k;have e:=Dt (m:=m) (m':=m') (dz (k 3)) (dz (k 5)) (dz (k 6)) (dz (k 7)) (dz (k 8)) (dz (k 9));have e2:=Rn (aZ.aF.inj (dz (k 4))).1;have e3:=awx (dz (k 2));simp only[List.cons.injEq,AV.ck.injEq,true_and,and_true]at h3;have e4:i=i':=by omega
 rw[e,e2,e3,e4]
theorem aoh:Qc.dx:=by
 rintro⟨m,q,w⟩ ⟨m',q',w'⟩ A H ⟨h1,h2,_⟩ ⟨h3,h4,_⟩;simp only at h1 h2 h3 h4;rw[h1]at h3;rw[h2]at h4;have k:=fun i=>congrArg (fun H=>AH.bu H i) h4
 simp only[A1,dy]at k;have e:=Dt (m:=m) (m':=m') (dz (k 0)) (dz (k 4)) (dz (k 5)) (dz (k 6)) (dz (k 7)) (dz (k 8));have e2:=Rn (aZ.aF.inj (dz (k 9))).1;rw[List.cons.injEq]at e2;rw[e,e2.1,e2.2]
def Jw:Ev.bz:=cz 100 (cM P_ aoc cZ) O9
def Jx:Ev.bz:=cz 99 (cM Qc aoh cZ) Jw
theorem av9{l:bH}{i:Nat}(h:i<l.length):∃k n s m,l[i]=.mk k n s m∧((aP l).drop (i*4)).take 4=[J k,J n,.aa s,.ax (aP m) m.length 4]:=by have bX:=GS h;generalize l[i]=u at*;obtain⟨k,n,s,m⟩:=u;exact⟨k,n,s,m,rfl,bX⟩
theorem apW(m:Em)(i r k n:Int)(s:LN)(cs:LV)(len:Nat)(q:List (Int×aK))(L:LT)(Q:QT):
 b8 Z O9 (fun _=>[]) L Q 1000 100 [J i,.ab 0 0,.ab 1 0,.ab 2 0] (an [(0,jS 3),(1,.aw [.ad 4 q.length 5] 151),(2,.aw [J r,J k,J n,.aa s,.ax cs len 4] 150),(3,fg m 5 6 7 8 9),(4,nI q),(5,fu m),(6,eN m),(7,eW m),(8,eU m),(9,eP m)] 10)=(
 ∃w:Em,(([.ab 0 0]:LV)=[.ab 0 0]∧bK m=bK w)∧(∃ae:Em×a9,(([.ab 0 0,.au [J 6,J w.bq.bT,J 0,J 0,.aa [],J 0]]:LV)=[.ab 0 0,.au (cb ae.2)]∧bK w.bq=bK ae.1∧ae.1.aM.length<65536)∧(∃aD:Nat,i=(aD:Int)∧aD<len∧(∃aL:Int,∃bD:Int,∃db:LN,∃cA:LV,∃cq:Nat,((cs.drop (aD*4)).take 4:LV)=[J aL,J bD,.aa db,.ax cA cq 4]∧((kC q).length=q.length*5∧q.length+1<=65536∧true=true∧true=true)∧Q (.aJ []) (an [(0,jS 3),(1,.aw [.ad 10 (q.length+1) 5] 151),(2,.aw [J r,J k,J n,.aa s,.ax cs len 4] 150),(3,fg (ae.1.aE ae.2) 11 6 7 8 9),(4,.b9 []),(5,.b9 []),(6,eN (ae.1.aE ae.2)),(7,eW (ae.1.aE ae.2)),(8,eU (ae.1.aE ae.2)),(9,eP (ae.1.aE ae.2)),(10,.aF (kC q++[J w.bq.bT,J aL,J bD,.aa db,.ax cA cq 4]) 150),(11,fu (ae.1.aE ae.2))] 12))))):=by kernel_rfl
abbrev wD x0 x1 x2:=aQ [(0,.ab 0 0),(2,.bR (.func 100) [] [.ab 1 0,.ab 2 0,.ab 3 0]),(9,.ax x0 x1 4),(10,J (Int.ofNat x1)),(11,J x2)]
theorem auU(m:Em)(q:List (Int×aK))(eh:LV)(r k n:Int)(s:LN)(cs:LV)(len:Nat)(L:LT)(Q:QT):
 b8 Z Jw (fun _=>[0,2,9,10,11]) L Q 1000 99 [.ab 0 0,.au [J k,J n,.aa s,.ax cs len 4],.bR (.func 100) [] [.ab 1 0,.ab 2 0,.ab 3 0]] (an [(0,fg m 4 5 6 7 8),(1,jS 0),(2,.aw [.bE 9 5 q.length 0 5 false] 151),(3,.aw [J r,J k,J n,.aa s,.ax cs len 4] 150),(4,fu m),(5,eN m),(6,eW m),(7,eU m),(8,eP m),(9,.aF eh 150)] 10)=(
 L (wD cs len 0) (an [(0,fg m 4 5 6 7 8),(1,jS 0),(2,.aw [.bE 9 5 q.length 0 5 false] 151),(3,.aw [J r,J k,J n,.aa s,.ax cs len 4] 150),(4,fu m),(5,eN m),(6,eW m),(7,eU m),(8,eP m),(9,.aF eh 150)] 10) (ao Z 99 0)):=by kernel_rfl
abbrev DZ x0 x1 x2 x3 x4 x5 x6 x7 x8:=an [(0,fg x0 10 5 6 7 8),(1,jS 0),(2,.aw [.ad 11 x1 5] 151),(3,.aw [J x2,J x3,J x4,.aa x5,.ax x6 x7 4] 150),(4,.b9 []),(5,eN x0),(6,eW x0),(7,eU x0),(8,eP x0),(9,.b9 []),(10,fu x0),(11,nI x8)] 12
theorem auV(m:Em)(i:Int)(q:List (Int×aK))(r k n:Int)(s:LN)(cs:LV)(len:Nat)(L:LT)(Q:QT):
 cO Z Jw (fun _=>[0,2,9,10,11]) L Q 1000 99 10 (wD cs len i) (ao Z 99 0) (DZ m q.length r k n s cs len q)=(
 ah (decide (i<Int.ofNat len)) (∃aD:Nat,i=(aD:Int)∧aD<len∧(∃aL:Int,∃bD:Int,∃db:LN,∃cA:LV,∃cq:Nat,((cs.drop (aD*4)).take 4:LV)=[J aL,J bD,.aa db,.ax cA cq 4]∧ah (aL==0) (∃cf:Int,∃b:Bool,fX Z 2 3 (bM J 0 m.gF) (J bD)=some (J cf,b)∧ah (decide (cf>1)) (∃w:Em×Int×Int×Int×Int,(([.ab 0 0,J bD,J 6,J 7,J 0]:LV)=[.ab 0 0,J w.2.1,J w.2.2.1,J w.2.2.2.1,J w.2.2.2.2]∧bK m=bK w.1∧w.1.aM.length<65536)∧L (wD cs len (wI (i+1))) (DZ (w.1.gO w.2.1 w.2.2.1 w.2.2.2.1 w.2.2.2.2) q.length r k n s cs len q) (ao Z 99 0)) (∃w:Em×a9,(([.ab 0 0,.au [J 10,J 0,J 0,J 1,.aa [],J 0]]:LV)=[.ab 0 0,.au (cb w.2)]∧bK m=bK w.1∧w.1.aM.length<65536)∧L (wD cs len (wI (i+1))) (DZ (w.1.aE w.2) q.length r k n s cs len q) (ao Z 99 0))) (ah (aL==1) (∃w:Em×a9,(([.ab 0 0,.au [J 8,J 0,J 0,J bD,.aa [],J 0]]:LV)=[.ab 0 0,.au (cb w.2)]∧bK m=bK w.1∧w.1.aM.length<65536)∧L (wD cs len (wI (i+1))) (DZ (w.1.aE w.2) q.length r k n s cs len q) (ao Z 99 0)) (ah (aL==2) (∃w:Em×a9,(([.ab 0 0,.au [J 9,J 0,J 0,J 0,.aa db,J 0]]:LV)=[.ab 0 0,.au (cb w.2)]∧bK m=bK w.1∧w.1.aM.length<65536)∧L (wD cs len (wI (i+1))) (DZ (w.1.aE w.2) q.length r k n s cs len q) (ao Z 99 0)) (∃w:Em×List (Int×aK)×(Int×aK)×Nat,(([J i,.ab 0 0,.ab 1 0,.ab 2 0]:LV)=[J ((w.2.2.2:Nat):Int),.ab 0 0,.ab 1 0,.ab 2 0]∧an [(0,jS 3),(1,.aw [.ad 4 q.length 5] 151),(2,.aw [J r,J k,J n,.aa s,.ax cs len 4] 150),(3,fg m 5 6 7 8 9),(4,nI q),(5,fu m),(6,eN m),(7,eW m),(8,eU m),(9,eP m)] 10=Lf w.1 w.2.1 w.2.2.1∧w.1.aM.length<65536∧w.2.1.length<65536∧w.2.2.2<w.2.2.1.2.dE.length)∧L (wD cs len (wI (i+1))) (an [(0,.aw [.ad 10 (w.1.bq.aE {op:=6,r:=w.1.bq.bT,a:=0,n:=0,cH:=[],ar:=0}).aM.length 6,.aa (w.1.bq.aE {op:=6,r:=w.1.bq.bT,a:=0,n:=0,cH:=[],ar:=0}).f.ay.ca,J (w.1.bq.aE (a9.mk 6 w.1.bq.bT 0 0 [] 0)).f.ay.ar,J (w.1.bq.aE (a9.mk 6 w.1.bq.bT 0 0 [] 0)).f.ay.aC,.ax (aP (w.1.bq.aE {op:=6,r:=w.1.bq.bT,a:=0,n:=0,cH:=[],ar:=0}).f.aO) (w.1.bq.aE {op:=6,r:=w.1.bq.bT,a:=0,n:=0,cH:=[],ar:=0}).f.aO.length 4,.ax (bN (w.1.bq.aE {op:=6,r:=w.1.bq.bT,a:=0,n:=0,cH:=[],ar:=0}).f.aA) (w.1.bq.aE {op:=6,r:=w.1.bq.bT,a:=0,n:=0,cH:=[],ar:=0}).f.aA.length 6,.aH 5,.aH 6,.aH 7,.aH 8,J (w.1.bq.aE (a9.mk 6 w.1.bq.bT 0 0 [] 0)).bT,.ai (w.1.bq.aE (a9.mk 6 w.1.bq.bT 0 0 [] 0)).gN] 71),(1,jS 0),(2,.aw [.ad 11 (w.2.1++[Prod.mk w.1.bq.bT (List.getD w.2.2.1.2.dE w.2.2.2 Inhabited.default)]).length 5] 151),(3,wO w.2.2.1),(4,.b9 []),(5,eN (w.1.bq.aE {op:=6,r:=w.1.bq.bT,a:=0,n:=0,cH:=[],ar:=0})),(6,eW (w.1.bq.aE {op:=6,r:=w.1.bq.bT,a:=0,n:=0,cH:=[],ar:=0})),(7,eU (w.1.bq.aE {op:=6,r:=w.1.bq.bT,a:=0,n:=0,cH:=[],ar:=0})),(8,eP (w.1.bq.aE {op:=6,r:=w.1.bq.bT,a:=0,n:=0,cH:=[],ar:=0})),(9,.b9 []),(10,fu (w.1.bq.aE {op:=6,r:=w.1.bq.bT,a:=0,n:=0,cH:=[],ar:=0})),(11,nI (w.2.1++[(w.1.bq.bT,List.getD w.2.2.1.2.dE w.2.2.2 default)]))] 12) (ao Z 99 0)))))) (Q (.aJ []) (DZ m q.length r k n s cs len q))):=by kernel_rfl
theorem ajT(q:List (Int×aK))(r k n:Int)(s:LN)(l:bH):kC (q++[(r,.mk k n s l)])=kC q++[J r,J k,J n,.aa s,.ax (aP l) l.length 4]:=by rw[aaq];rfl
theorem O_:bm Z Jw:=by
 refine de XI ?_;rintro⟨m,q,⟨r,⟨k,n,s,l⟩⟩,i⟩ args H ⟨rfl,rfl,hl,hq,hi⟩;simp only at hl hq;have hi:i<l.length:=hi;refine eS XI 1000 (fun _=>[]) 25 (by kernel_rfl) ?_;simp only[Lf,wO,aK.df,aK.n,aK.f_,aK.dE];rw[apW];obtain⟨k',n',s',ts,he,bX⟩:=av9 hi;refine⟨m,⟨rfl,rfl⟩,(m.bq,⟨6,m.bq.bT,0,0,[],0⟩),⟨rfl,rfl,hl⟩,i,rfl,hi,k',n',s',_,_,bX,⟨Ro q,by omega,rfl,rfl⟩,rfl,?_⟩;have hg:l.getD i default=.mk k' n' s' ts:=by simp[List.getD,jn hi,he]
 simp only[P_,adR,nI,wO,aK.dE,aK.df,aK.n,aK.f_,hg,ajT,bI,dv,fk,jI]
theorem Y_(m:Em)(t:aK):(m.gf t).1.aM.length+fc (m.gf t).2<=m.aM.length+2*cG t:=by
 have hp:=oS t;unfold Em.gf;split
 ·split
  ·have:=Oq m t.n 6 7 0;simp only[fc];omega
  ·have:=kX m ⟨10,0,0,1,[],0⟩;simp only[fc];omega
 ·split
  ·have:=kX m ⟨8,0,0,t.n,[],0⟩;simp only[fc];omega
  ·split
   ·have:=kX m ⟨9,0,0,0,t.f_,0⟩;simp only[fc];omega
   ·have:=kX m.bq ⟨6,m.bq.bT,0,0,[],0⟩;rw[GF]at this;obtain⟨k,n,s,l⟩:=t;simp only[fc,cG,aK.dE];omega
theorem Ql:∀(l:bH) (m:Em) (q:List (Int×aK)),(m.gk q l).1.aM.length+fc (m.gk q l).2<=m.aM.length+fc q+2*bA l
 |[],m,q=>by simp[Em.gk]
 |t::l,m,q=>by have h1:=Y_ m t;have h2:=Ql l (m.gf t).1 (q++(m.gf t).2);rw[Iz]at h2;simp only[Em.gk,bA];omega
section
variable{m:Em}{k n:Int}{s:LN}{ts:bH}
theorem aiq(hk:k=0)(hc:m.qX n>1):m.gf (.mk k n s ts)=(m.gO n 6 7 0,[]):=by simp[Em.gf,aK.df,aK.n,hk,hc]
theorem air(hk:k=0)(hc:¬m.qX n>1):m.gf (.mk k n s ts)=(m.aE ⟨10,0,0,1,[],0⟩,[]):=by simp[Em.gf,aK.df,aK.n,hk,hc]
theorem aim(hk:k=1):m.gf (.mk k n s ts)=(m.aE ⟨8,0,0,n,[],0⟩,[]):=by simp[Em.gf,aK.df,aK.n,hk]
theorem ail(hk:k=2):m.gf (.mk k n s ts)=(m.aE ⟨9,0,0,0,s,0⟩,[]):=by simp[Em.gf,aK.df,aK.f_,hk]
theorem aip(h0:k≠0)(h1:k≠1)(h2:k≠2):m.gf (.mk k n s ts)=(m.bq.aE ⟨6,m.bq.bT,0,0,[],0⟩,[(m.bq.bT,.mk k n s ts)]):=by simp[Em.gf,aK.df,h0,h1,h2]
end
theorem auT{l:bH}{r k0 n0:Int}{s0:LN}{M:Em}{Qu:List (Int×aK)}(hl:eF l.length)(ho:gU l):
 ∀p:Nat×Em×List (Int×aK),(p.1<=l.length∧p.2.1.aM.length+fc p.2.2+2*bA (l.drop p.1)<65536∧p.2.1.gk p.2.2 (l.drop p.1)=(M,Qu))->
 bJ Z 99 59 10 (.aJ []) (Im M Qu (r,.mk k0 n0 s0 l)) (wD (aP l) l.length (p.1:Int)) (Im p.2.1 p.2.2 (r,.mk k0 n0 s0 l)) (ao Z 99 0):=by
 refine cV (fun p=>l.length-p.1) _ _ _ _ ?_;rintro⟨i,m,q⟩ ⟨hi,hc,hf⟩ ih;simp only at hi hc hf ih⊢;refine hD O_ 1000 (fun _=>[0,2,9,10,11]) (by kernel_rfl) ?_;simp only[Im,wO,aK.df,aK.n,aK.f_,aK.dE];rw[auV];refine aI.2 ⟨fun aj=>?_,fun aS=>?_⟩
 ·have aj:i<l.length:=by simpa using aj
  obtain⟨k,n,s,ts,he,bX,bn⟩:=pz aj ho;rw[dN aj,he]at hf hc;simp only[Em.gk,bA]at hf hc;refine⟨i,rfl,aj,k,n,s,_,_,bX,?_⟩;rw[je hl aj];have bF:=Y_ m (.mk k n s ts);have hq:=acY q;have hp:=oS (.mk k n s ts);have next:=ih (i+1,(m.gf (.mk k n s ts)).1,q++(m.gf (.mk k n s ts)).2) ⟨by simp;omega,by simp only[Iz];omega,hf⟩ (by simp;omega)
  simp only at next
  obtain⟨c,b,h1,h2⟩:=Mu m n;have hr:m.aM.length<65536:=by omega
  refine aI.2 ⟨fun hk=>?_,fun qx=>?_⟩
  ·have hk:k=0:=by simpa using hk
   refine⟨c,b,h1,aI.2 ⟨fun hc=>?_,fun hc=>?_⟩⟩
   ·have hc:c>1:=by simpa using hc
    rw[aiq hk (by rw[h2];exact hc),lh]at next
    exact⟨(m,n,6,7,0),⟨rfl,rfl,hr⟩,next⟩
   ·have hc:¬c>1:=by simpa using hc
    rw[air hk (by rw[h2];exact hc),lh]at next
    exact⟨(m,⟨10,0,0,1,[],0⟩),⟨rfl,rfl,hr⟩,next⟩
  ·have qx:k≠0:=by simpa using qx
   refine aI.2 ⟨fun hk=>?_,fun iM=>?_⟩
   ·have hk:k=1:=by simpa using hk
    rw[aim hk,lh]at next
    exact⟨(m,⟨8,0,0,n,[],0⟩),⟨rfl,rfl,hr⟩,next⟩
   ·have iM:k≠1:=by simpa using iM
    refine aI.2 ⟨fun hk=>?_,fun iA=>?_⟩
    ·have hk:k=2:=by simpa using hk
     rw[ail hk,lh]at next
     exact⟨(m,⟨9,0,0,0,s,0⟩),⟨rfl,rfl,hr⟩,next⟩
    ·have iA:k≠2:=by simpa using iA
     rw[aip qx iM iA]at next
     have hg:l.getD i default=.mk k n s ts:=by simp[List.getD,jn aj,he]
     rw[←hg]at next
     exact⟨(m,q,(r,.mk k0 n0 s0 l),i),⟨rfl,rfl,hr,by show q.length<65536;omega,aj⟩,next⟩
 ·have aS:l.length<=i:=by simpa using aS
  rw[eT aS,Em.gk]at hf;cases hf;exact⟨rfl,rfl⟩
theorem anP(m:Em)(q:List (Int×aK))(w:Int×aK):Mv (A1 m q w) (acn m q w) 4:=
 ss (l':=[(0,fg m 10 5 6 7 8),(1,jS 0),(2,.aw [.bE 9 5 q.length 0 5 false] 151),(3,wO w),(4,.b9 []),(5,eN m),(6,eW m),(7,eU m),(8,eP m),(9,nI (w::q))]) rfl rfl rfl
theorem ajB(m:Em)(q:List (Int×aK))(w:Int×aK):ox 10 (acn m q w) (Im m q w) (fun φ aW=>φ 11=none∧aW=xe 9 5 11 φ):=by
 have h:=anF (m0:=10) (g:=9) (k:=5) (n:=11) (l:=[(0,fg m 10 5 6 7 8),(1,jS 0),(2,.aw [.bE 9 5 q.length 0 5 false] 151),(3,wO w),(4,.b9 []),(5,eN m),(6,eW m),(7,eU m),(8,eP m),(9,nI (w::q)),(10,fu m)]) (l':=[(0,fg m 10 5 6 7 8),(1,jS 0),(2,.aw [.ad 11 q.length 5] 151),(3,wO w),(4,.b9 []),(5,eN m),(6,eW m),(7,eU m),(8,eP m),(9,.b9 []),(10,fu m)]) (vs:=kC (w::q)) (el:=150) rfl rfl rfl (by rw[Ro];simp;omega);have e:(kC (w::q)).drop 5=kC q:=by rw[kC,←KH w,qbe]
 rw[e]at h;exact h
theorem O':bm Z Jx:=by
 refine de O_ ?_;rintro⟨m,q,⟨r,⟨k,n,s,l⟩⟩⟩ args H ⟨rfl,rfl,hl,ho⟩;simp only[aK.dE]at hl;refine eS O_ 1000 (fun _=>[0,2,9,10,11]) 59 (by kernel_rfl) ?_;simp only[Qc,cR,aK.dE,A1,wO,aK.df,aK.n,aK.f_];rw[nI,auU];refine uK (H:=A1 m q (r,.mk k n s l)) (g:=4) ?_ (anP m q (r,.mk k n s l)) (by kernel_rfl) (t':=wD (aP l) l.length ((0:Nat):Int)) (fun i a' hi=>⟨a',hi,xX hi (by simp[fi,iN,lN,A1,an])⟩);refine abD ?_ (ajB m q (r,.mk k n s l)) (by kernel_rfl) (fun φ aW hR i a' hi=>⟨a',hi,fun x hx=>?_⟩) (t':=wD (aP l) l.length ((0:Nat):Int))
 ·exact auT ho.2.1 ho.2.2 (0,m,q) ⟨by simp,by simpa using hl,by simp⟩
 ·obtain⟨h1,rfl⟩:=hR;exact VR.gW (Ra h1) _ _ hx
def afe(m:Em)(w:Int×aK):Prop:=m.aM.length+fc [w]<65536∧eR w.2
def Jy:Ev.bz:=cz 62 (cM (kJ aT Em.y' afe) (rE vt) cZ) Jx
def Lk(m:Em)(q:List (Int×aK)):AH:=an [(0,fg m 8 2 3 4 5),(1,.b9 []),(2,eN m),(3,eW m),(4,eU m),(5,eP m),(6,jS 0),(7,.aw [.ad 9 q.length 5] 151),(8,fu m),(9,nI q)] 10
abbrev I3:=aQ [(3,.ab 6 0),(6,.ab 7 0)]
theorem atN(m:Em)(a k n:Int)(s:LN)(cs:LV)(len:Nat)(L:LT)(Q:QT):
 b8 Z Jx (fun _=>[3,6]) L Q 1000 62 [.ab 0 0,J a,.au [J k,J n,.aa s,.ax cs len 4]] (bK m)=(
 L (I3) (an [(0,fg m 1 2 3 4 5),(1,fu m),(2,eN m),(3,eW m),(4,eU m),(5,eP m),(6,jS 0),(7,.aw [.bE 8 0 1 1 5 true] 151),(8,.aw [J a,J k,J n,.aa s,.ax cs len 4] 150)] 9) (ao Z 62 0)):=by kernel_rfl
theorem atO(m:Em)(q:List (Int×aK))(L:LT)(Q:QT):
 cO Z Jx (fun _=>[3,6]) L Q 1000 62 6 (I3) (ao Z 62 0) (Lk m q)=(
 ah (decide (Int.ofNat q.length>0)) (0<q.length∧(∃n:Int,∃aL:Int,∃bD:Int,∃s:LN,∃cs:LV,∃len:Nat,bQ Z 150 (kC q) 0=some (.au [J n,J aL,J bD,.aa s,.ax cs len 4]:AV)∧1<=q.length∧(1<=q.length∧q.length<=q.length)∧(∃w:Em×a9,(([.ab 0 0,.au [J 5,J 0,J n,J 0,.aa s,J (Int.ofNat len)]]:LV)=[.ab 0 0,.au (cb w.2)]∧bK m=bK w.1∧w.1.aM.length<65536)∧(∃ae:Em×List (Int×aK)×Int×aK,(([.ab 0 0,.au [J aL,J bD,.aa s,.ax cs len 4],.bR (.func 100) [] [.ab 1 0,.ab 2 0,.ab 3 0]]:LV)=[.ab 0 0,.au (cR ae.2.2.2),.bR (.func 100) [] [.ab 1 0,.ab 2 0,.ab 3 0]]∧an [(0,fg (w.1.aE w.2) 4 5 6 7 8),(1,jS 0),(2,.aw [.bE 9 5 (q.length-1) 0 5 false] 151),(3,.aw [J n,J aL,J bD,.aa s,.ax cs len 4] 150),(4,fu (w.1.aE w.2)),(5,eN (w.1.aE w.2)),(6,eW (w.1.aE w.2)),(7,eU (w.1.aE w.2)),(8,eP (w.1.aE w.2)),(9,nI q)] 10=A1 ae.1 ae.2.1 ae.2.2∧ae.1.aM.length+fc ae.2.1+2*bA ae.2.2.2.dE<65536∧eR ae.2.2.2)∧L (I3) (Lk (ae.1.gk ae.2.1 ae.2.2.2.dE).1 (ae.1.gk ae.2.1 ae.2.2.2.dE).2) (ao Z 62 0))))) (Q (.aJ []) (jv m))):=by kernel_rfl
theorem Za(m:Em)(t:aK):fc (m.gf t).2<=2*cG t:=by
 have hp:=oS t;unfold Em.gf;split
 ·simp only[fc];omega
 ·split
  ·simp only[fc];omega
  ·split
   ·simp only[fc];omega
   ·obtain⟨k,n,s,l⟩:=t;simp only[fc,cG,aK.dE];omega
theorem Zh:∀(l:bH) (m:Em) (q:List (Int×aK)),fc (m.gk q l).2<=fc q+2*bA l
 |[],m,q=>by simp[Em.gk]
 |t::l,m,q=>by have h1:=Za m t;have h2:=Zh l (m.gf t).1 (q++(m.gf t).2);rw[Iz]at h2;simp only[Em.gk,bA];omega
theorem ain{m:Em}{t:aK}(h:eR t):M3 (m.gf t).2:=by
 intro w hw;unfold Em.gf at hw;split at hw
 ·simp at hw
 ·split at hw
  ·simp at hw
  ·split at hw
   ·simp at hw
   ·simp at hw;subst hw;exact h
theorem Zf:∀{l:bH} {m:Em} {q:List (Int×aK)},gU l->M3 q->M3 (m.gk q l).2
 |[],m,q,_,hq=>hq
 |t::l,m,q,hl,hq=>Zf (l:=l) hl.2 (fun w hw=>by
   rcases List.mem_append.1 hw with h|h
   ·exact hq w h
   ·exact ain hl.1 w h)
theorem aoD(a b c d e:AV)(l:LV):bQ Z 150 (a::b::c::d::e::l) 0=some (.au [a,b,c,d,e]):=by kernel_rfl
theorem abe:∀(n:Nat) (m:Em) (q:List (Int×aK)),(m.lY n q).aM.length<=m.aM.length+fc q
 |0,m,q=>by simp[Em.lY]
 |n+1,m,[]=>by simp[Em.lY]
 |n+1,m,w::q=>by have h0:=kX m ⟨5,0,w.1,0,w.2.f_,w.2.dE.length⟩;have h1:=Ql w.2.dE (m.aE ⟨5,0,w.1,0,w.2.f_,w.2.dE.length⟩) q;have h2:=abe n ((m.aE ⟨5,0,w.1,0,w.2.f_,w.2.dE.length⟩).gk q w.2.dE).1 ((m.aE ⟨5,0,w.1,0,w.2.f_,w.2.dE.length⟩).gk q w.2.dE).2;simp only[Em.lY,fc];omega
theorem atM{M:Em}:
 ∀p:Nat×Em×List (Int×aK),(fc p.2.2<p.1∧p.2.1.aM.length+fc p.2.2<65536∧M3 p.2.2∧p.2.1.lY p.1 p.2.2=M)->
 bJ Z 62 39 6 (.aJ []) (jv M) (I3) (Lk p.2.1 p.2.2) (ao Z 62 0):=by
 refine cV (fun p=>p.1) _ _ _ _ ?_;rintro⟨f,m,q⟩ ⟨hq,hc,ho,hf⟩ ih;simp only at hq hc ho hf ih⊢;refine hD O' 1000 (fun _=>[3,6]) (by kernel_rfl) ?_;rw[atO];obtain⟨f,rfl⟩:∃g,f=g+1:=⟨f-1,by omega⟩;cases q with
 |nil=>refine aI.2 ⟨fun h=>(by simp at h),fun _=>?_⟩;simp only[Em.lY]at hf;subst hf;exact⟨rfl,rfl⟩
 |cons w q=>refine aI.2 ⟨fun _=>?_,fun h=>absurd h (by simp)⟩;obtain⟨r,⟨k,n,s,l⟩⟩:=w;simp only[fc,aK.dE]at hq hc;simp only[Em.lY,aK.f_,aK.dE]at hf;have bn:eR (.mk k n s l):=ho (r,.mk k n s l) (by simp);have h0:=kX m ⟨5,0,r,0,s,l.length⟩;have h1:=Ql l (m.aE ⟨5,0,r,0,s,l.length⟩) q;have h2:=Zh l (m.aE ⟨5,0,r,0,s,l.length⟩) q;refine⟨by simp,r,k,n,s,_,_,aoD _ _ _ _ _ _,by simp,⟨by simp,by simp⟩,(m,⟨5,0,r,0,s,l.length⟩),⟨rfl,rfl,by show m.aM.length<65536;omega⟩,(m.aE ⟨5,0,r,0,s,l.length⟩,q,(r,.mk k n s l)),⟨rfl,rfl,by simp only[aK.dE];omega,bn⟩,?_⟩;exact ih (f,((m.aE ⟨5,0,r,0,s,l.length⟩).gk q l).1,((m.aE ⟨5,0,r,0,s,l.length⟩).gk q l).2) ⟨by simp only;omega,by simp only;omega,Zf bn.2.2 (fun w hw=>ho w (by simp[hw])),hf⟩ (by simp)
def l62(m:Em)(w:Int×aK):List (Nat×aZ):=[(0,fg m 1 2 3 4 5),(1,fu m),(2,eN m),(3,eW m),(4,eU m),(5,eP m),(6,jS 0),(7,.aw [.bE 8 0 1 1 5 true] 151),(8,.aw (uB w) 150)]
def TW(m:Em)(w:Int×aK):AH:=an [(0,fg m 1 2 3 4 5),(1,fu m),(2,eN m),(3,eW m),(4,eU m),(5,eP m),(6,jS 0),(7,.aw [.ad 8 1 5] 151),(8,nI [w])] 9
def j62(m:Em)(w:Int×aK):AH:=an [(0,fg m 9 2 3 4 5),(1,.b9 []),(2,eN m),(3,eW m),(4,eU m),(5,eP m),(6,jS 0),(7,.aw [.ad 8 1 5] 151),(8,nI [w]),(9,fu m)] 10
theorem awE(m:Em)(w:Int×aK):ox 6 (an (l62 m w) 9) (TW m w) (fun φ aW=>aW=φ):=by have h:=MK (m0:=6) (g:=8) (n:=9) (l:=l62 m w) (old:=.aw (uB w) 150) (new:=nI [w]) rfl (fun φ e o h=>by have:=CT (ic:=150) (by obtain⟨r,⟨k,n,s,l⟩⟩:=w;rfl) h;simp only[nI,kC,lh];exact this) rfl;exact h
theorem anL(m:Em)(w:Int×aK):Mv (TW m w) (j62 m w) 1:=
 ss (l':=[(0,fg m 9 2 3 4 5),(1,.b9 []),(2,eN m),(3,eW m),(4,eU m),(5,eP m),(6,jS 0),(7,.aw [.ad 8 1 5] 151),(8,nI [w])]) rfl rfl rfl
def NW:Tr AV:=I3
def aey:List (Nat×Nat):=[(0,0),(1,1),(2,2),(3,3),(4,4),(5,5),(6,6),(7,7),(9,8),(8,9)]
theorem awp(m:Em)(w:Int×aK):oT 6 [6,7] (j62 m w)=some ⟨aey,Lk m [w]⟩:=by kernel_rfl
theorem awt:tV (jA aey) NW [3,6]=some NW:=by kernel_rfl
theorem Pa:bm Z Jy:=by refine de O' ?_;rintro⟨m,a,⟨k,n,s,l⟩⟩ args H ⟨rfl,rfl,hc,ho⟩;refine eS O' 1000 (fun _=>[3,6]) 39 (by kernel_rfl) ?_;simp only[kJ,aT,cR];rw[atN];refine abD (R:=fun φ aW=>aW=φ) ?_ (awE m (a,.mk k n s l)) (by kernel_rfl) (fun φ aW hR i a' hi=>⟨a',hi,fun x hx=>by rw[hR];exact hx⟩) (t':=NW);refine uK (t':=NW) (g:=1) ?_ (anL m (a,.mk k n s l)) (by kernel_rfl) (fun i a' hi=>⟨a',hi,xX hi (by simp[fi,lN,TW,an])⟩);refine dH.rU (by kernel_rfl) (awp m (a,.mk k n s l)) awt ?_;exact atM (fc [(a,.mk k n s l)]+1,m,[(a,.mk k n s l)]) ⟨by simp,hc,by intro w hw;simp at hw;subst hw;exact ho,rfl⟩
def Em.mn(m:Em)(w:Int×aK):Em:=
 if w.2.df=0 then m.sa w else if w.2.df=1 then m.DQ w else if w.2.df=2 then m.DP w else m.y' w
def Em.fA:Nat->Em->bH->Em
 |_,m,[]=>m
 |i,m,t::l=>Em.fA (i+1) (m.mn (((i+1:Nat):Int),t)) l
def a0(_:Unit):LV:=[]
def VM(m:Em)(_:Unit):Prop:=m.aM.length+2*bA m.f.aO+1<65536∧eF m.f.aO.length∧gU m.f.aO∧zI m.f.aO
def Jz:Ev.bz:=cz 27 (cM (kJ a0 (fun m _=>m.fA 0 m.f.aO) VM) (rE (fun _ _ _=>rfl)) cZ) Jy
def AU(m:Em):AH:=an [(0,fg m 7 2 3 4 5),(1,.b9 []),(2,eN m),(3,eW m),(4,eU m),(5,eP m),(6,zu 59 60 61 62),(7,fu m)] 8
abbrev z7 x0 x1 x2:=aQ [(2,.ab 6 0),(18,.ax x0 x1 4),(19,J (Int.ofNat x1)),(20,J x2)]
theorem asG(m:Em)(L:LT)(Q:QT):
 b8 Z Jy (fun _=>[2,18,19,20]) L Q 1000 27 [.ab 0 0] (bK m)=(
 L (z7 (aP m.f.aO) m.f.aO.length 0) (an [(0,fg m 1 2 3 4 5),(1,fu m),(2,eN m),(3,eW m),(4,eU m),(5,eP m),(6,zu 59 60 61 62)] 7) (ao Z 27 0)):=by kernel_rfl
theorem asH(m:Em)(i:Int)(cs:LV)(len:Nat)(L:LT)(Q:QT):
 cO Z Jy (fun _=>[2,18,19,20]) L Q 1000 27 6 (z7 cs len i) (ao Z 27 0) (AU m)=(
 ah (decide (i<Int.ofNat len)) (∃aD:Nat,i=(aD:Int)∧aD<len∧(∃n:Int,∃aL:Int,∃s:LN,∃cA:LV,∃cq:Nat,((cs.drop (aD*4)).take 4:LV)=[J n,J aL,.aa s,.ax cA cq 4]∧((0:Int)<=n∧n<4)∧(n=0->(∃w:Em×Int×aK,(([.ab 0 0,J (wI (i+1)),.au [J n,J aL,.aa s,.ax cA cq 4]]:LV)=[.ab 0 0,J w.2.1,.au (cR w.2.2)]∧bK m=bK w.1∧rN w.1 w.2)∧L (z7 cs len (wI (i+1))) (AU (w.1.sa w.2)) (ao Z 27 0)))∧(n=1->(∃w:Em×Int×aK,(([.ab 0 0,J (wI (i+1)),.au [J n,J aL,.aa s,.ax cA cq 4]]:LV)=[.ab 0 0,J w.2.1,.au (cR w.2.2)]∧bK m=bK w.1∧rN w.1 w.2)∧L (z7 cs len (wI (i+1))) (AU (w.1.DQ w.2)) (ao Z 27 0)))∧(n=2->(∃w:Em×Int×aK,(([.ab 0 0,J (wI (i+1)),.au [J n,J aL,.aa s,.ax cA cq 4]]:LV)=[.ab 0 0,J w.2.1,.au (cR w.2.2)]∧bK m=bK w.1∧rN w.1 w.2)∧L (z7 cs len (wI (i+1))) (AU (w.1.DP w.2)) (ao Z 27 0)))∧(n=3->(∃w:Em×Int×aK,(([.ab 0 0,J (wI (i+1)),.au [J n,J aL,.aa s,.ax cA cq 4]]:LV)=[.ab 0 0,J w.2.1,.au (cR w.2.2)]∧bK m=bK w.1∧afe w.1 w.2)∧L (z7 cs len (wI (i+1))) (AU (w.1.y' w.2)) (ao Z 27 0)))∧True)) (Q (.aJ []) (jv m))):=by kernel_rfl
theorem ak1(m:Em)(w:Int×aK):(m.mn w).aM.length<=m.aM.length+2*cG w.2:=by
 have hp:=oS w.2;unfold Em.mn;split
 ·unfold Em.sa;split
  ·have:=Oq m w.2.n 1 2 w.1;omega
  ·omega
 ·split
  ·have:=kX m ⟨3,0,w.1,w.2.n,[],0⟩;unfold Em.DQ;omega
  ·split
   ·have:=kX m ⟨4,0,w.1,0,w.2.f_,0⟩;unfold Em.DP;omega
   ·have:=abe (fc [w]+1) m [w];obtain⟨r,⟨k,n,s,l⟩⟩:=w;unfold Em.y';simp only[fc,cG,aK.dE]at this⊢;omega
section
variable{m:Em}{k n a:Int}{s:LN}{ts:bH}
theorem ak4(hk:k=0):m.mn (a,.mk k n s ts)=m.sa (a,.mk k n s ts):=by simp[Em.mn,aK.df,hk]
theorem ak0(hk:k=1):m.mn (a,.mk k n s ts)=m.DQ (a,.mk k n s ts):=by simp[Em.mn,aK.df,hk]
theorem akY(hk:k=2):m.mn (a,.mk k n s ts)=m.DP (a,.mk k n s ts):=by simp[Em.mn,aK.df,hk]
theorem ak3(hk:k=3):m.mn (a,.mk k n s ts)=m.y' (a,.mk k n s ts):=by simp[Em.mn,aK.df,hk]
end
theorem asF{l:bH}{M:Em}(hl:eF l.length)(ho:gU l)(hk:zI l):
 ∀p:Nat×Em,(p.1<=l.length∧p.2.aM.length+2*bA (l.drop p.1)+1<65536∧Em.fA p.1 p.2 (l.drop p.1)=M)->
 bJ Z 27 34 6 (.aJ []) (jv M) (z7 (aP l) l.length (p.1:Int)) (AU p.2) (ao Z 27 0):=by
 refine cV (fun p=>l.length-p.1) _ _ _ _ ?_;rintro⟨i,m⟩ ⟨hi,hc,hf⟩ ih;simp only at hi hc hf ih⊢;refine hD Pa 1000 (fun _=>[2,18,19,20]) (by kernel_rfl) ?_;rw[asH];refine aI.2 ⟨fun aj=>?_,fun aS=>?_⟩
 ·have aj:i<l.length:=by simpa using aj
  obtain⟨k,n,s,ts,he,bX,bn⟩:=pz aj ho;have Bj:=hk l[i] (Fs aj);rw[he]at Bj;simp only[aK.df]at Bj;rw[dN aj,he]at hf hc;simp only[Em.fA,bA]at hf hc;have mT:=oS (.mk k n s ts);have bF:=ak1 m (((i+1:Nat):Int),.mk k n s ts);simp only at bF;have hr:m.aM.length<65536:=by omega
  have xH:m.aM.length+fc [(((i+1:Nat):Int),aK.mk k n s ts)]<65536:=by simp only[fc,aK.dE,cG]at hc⊢;omega
  have next:=ih (i+1,m.mn (((i+1:Nat):Int),.mk k n s ts)) ⟨by simp;omega,by simp only;omega,hf⟩ (by simp;omega)
  refine⟨i,rfl,aj,k,n,s,_,_,bX,Bj,?_⟩;rw[je hl aj];refine⟨fun h=>?_,fun h=>?_,fun h=>?_,fun h=>?_,trivial⟩
  ·rw[ak4 h]at next
   exact⟨(m,((i+1:Nat):Int),.mk k n s ts),⟨rfl,rfl,hr⟩,next⟩
  ·rw[ak0 h]at next
   exact⟨(m,((i+1:Nat):Int),.mk k n s ts),⟨rfl,rfl,hr⟩,next⟩
  ·rw[akY h]at next
   exact⟨(m,((i+1:Nat):Int),.mk k n s ts),⟨rfl,rfl,hr⟩,next⟩
  ·rw[ak3 h]at next
   exact⟨(m,((i+1:Nat):Int),.mk k n s ts),⟨rfl,rfl,xH,bn⟩,next⟩
 ·have aS:l.length<=i:=by simpa using aS
  rw[eT aS,Em.fA]at hf;subst hf;exact⟨rfl,rfl⟩
def SN(m:Em):AH:=an [(0,fg m 1 2 3 4 5),(1,fu m),(2,eN m),(3,eW m),(4,eU m),(5,eP m),(6,zu 59 60 61 62)] 7
theorem anJ(m:Em):Mv (SN m) (AU m) 1:=
 ss (l':=[(0,fg m 7 2 3 4 5),(1,.b9 []),(2,eN m),(3,eW m),(4,eU m),(5,eP m),(6,zu 59 60 61 62)]) rfl rfl rfl
theorem Pb:bm Z Jz:=by refine de Pa ?_;rintro⟨m,u⟩ args H ⟨rfl,rfl,hc,hl,ho,hk⟩;refine eS Pa 1000 (fun _=>[2,18,19,20]) 34 (by kernel_rfl) ?_;simp only[kJ,a0];rw[asG];refine uK (H:=SN m) (t':=z7 (aP m.f.aO) m.f.aO.length ((0:Nat):Int)) (g:=1) ?_ (anJ m) (by kernel_rfl) (fun i a' hi=>⟨a',hi,xX hi (by simp[fi,iN,lN,SN,an])⟩);exact asF hl ho hk (0,m) ⟨by simp,by simp only[jB];omega,by simp⟩
end
end Go.Cl
