/- Part of a proof of ClauseCompiles. -/
import Derived.Test.YtanclcoobcaemaaGreatB11
set_option linter.all false
set_option linter.unusedSectionVars false
namespace Go.Cl
open Go.Ev Go.Proofs
variable[Ro]
noncomputable section
section
variable{base c:Int}{P:LP}{C:eu}{B:bS}
def Kd(base c:Int)(P:LP)(B:bS)(r:Rm)(w:Int×aK):Prop:=rJ c P w.2∧w.2.cY=3∧dK w.1=true∧nb base B r w.1
theorem VI.ig(fx:Fx base c P C B){q:Int}{r:Rm}(h:VI base c P C B q r)(h0:0<=q)(h7:q+1<=8){t:aK}(ht:rJ c P t)(hg:(r.ig t).1.cx<=4096):VI base c P C B (q+1) (r.ig t).1∧jO B r (r.ig t).1∧∀w∈(r.ig t).2,Kd base c P B (r.ig t).1 w:=by
 by_cases h3:t.cY=3
 ·have e:r.ig t=(r.bo.ah ⟨6,r.bo.cE,0,0,[],0⟩,[(r.bo.cE,t)]):=aN h3;rw[e]at hg⊢;obtain⟨t1,t2,t3,t4⟩:=h.bo fx.b0 hg;have mG:=fx.b0;have kZ:df r.bo.cE=true:=FQ.2 ⟨by omega,by omega,t4⟩;have hf:=Bp (k:=6) (.inl rfl) kZ;obtain⟨e1,e2,e3⟩:=t1.ah (q':=q+1) (i:=⟨6,r.bo.cE,0,0,[],0⟩) (show(6:Int)≠10 by decide) hf (fun hh=>by have hh:(6:Int)=19∨(6:Int)=20:=hh;omega) (oL hf (fun hh=>by have hh:(6:Int)=2∨(6:Int)=7∨(6:Int)=12∨(6:Int)=24:=hh;omega) (fun _=>k9 fx.b0) (fun hh=>by have hh:(6:Int)=19∨(6:Int)=20:=hh;omega));refine⟨e1,t2.wu e2,fun w hw=>?_⟩;simp only[ko]at hw;subst hw;exact⟨ht,h3,O'.2 ⟨by omega,t4⟩,fun _=>e3 _ (O5 hf (by show(6:Int)=1∨(6:Int)=6∨(6:Int)=11∨(6:Int)=15∨(6:Int)=22∨(6:Int)=23;omega))⟩
 ·have e:r.ig t=(r.gP t,[]):=az h3;rw[e]at hg⊢;obtain⟨s1,s2⟩:=h.gP fx h0 h7 ht h3 hg;exact⟨s1,s2,fun w hw=>by cases hw⟩
theorem VI.gR(fx:Fx base c P C B):∀(l:bG) {q:Int} {r:Rm} (qu:List (Int×aK)),VI base c P C B q r->0<=q->q+l.length<=8->qG c P l->(∀w∈qu,Kd base c P B r w)->(r.gR qu l).1.cx<=4096->
 VI base c P C B 8 (r.gR qu l).1∧jO B r (r.gR qu l).1∧∀w∈(r.gR qu l).2,Kd base c P B (r.gR qu l).1 w
 |[],q,r,qu,h,h0,h7,_,hq,_=>⟨h.Dh (by simpa using h7),jO.Dg,hq⟩
 |t::l,q,r,qu,h,h0,h7,hl,hq,hg=>by
  simp only[bR]at h7
  push_cast at h7
  simp only[Rm.gR]at hg⊢;have qU:(r.ig t).1.cx<=4096:=Int.le_trans (SV l _ _) hg;obtain⟨l1,l2⟩:=hl.Df;obtain⟨a1,a2,a3⟩:=h.ig fx h0 (by omega) l1 qU;obtain⟨b1,b2,b3⟩:=VI.gR fx l (qu++(r.ig t).2) a1 (by omega) (by omega) l2 (fun w hw=>by
   rcases List.mem_append.1 hw with hw|hw
   ·obtain⟨x1,x2,x3,x4⟩:=hq w hw;exact⟨x1,x2,x3,a2.nb x4⟩
   ·exact a3 w hw) hg
  exact⟨b1,a2.wu b2,b3⟩
theorem VI.gD(fx:Fx base c P C B):∀(n:Nat) {q:Int} {r:Rm} (qu:List (Int×aK)),VI base c P C B q r->q<=8->(∀w∈qu,Kd base c P B r w)->(r.gD n qu).cx<=4096->VI base c P C B 8 (r.gD n qu)∧jO B r (r.gD n qu)
 |0,q,r,qu,h,Mu,_,_=>by simp only[Rm.gD];exact⟨h.Dh Mu,jO.Dg⟩
 |n+1,q,r,[],h,Mu,_,_=>by simp only[Rm.gD];exact⟨h.Dh Mu,jO.Dg⟩
 |n+1,q,r,w::qu,h,Mu,hq,hg=>by
  simp only[Rm.gD]at hg⊢;obtain⟨x,t⟩:=w;obtain⟨g1,g2,g3,g4⟩:=hq (x,t) (eP ..);obtain⟨k,nn,s,l⟩:=t;have g2:k=3:=g2;subst g2;rcases rJ.De g1 with⟨e,_⟩|e|⟨e,_⟩|⟨_,hs,mK,T6,hl⟩
  ·cases e
  ·cases e
  ·cases e
  simp only[aK.fZ,aK.cK]at hg⊢;have hf:=fm5 g3 hs mK T6;have qU:((r.ah ⟨5,0,x,0,s,l.length⟩).gR qu l).1.cx<=4096:=Int.le_trans (SX n _ _) hg;obtain⟨e1,e2,e3⟩:=h.ah (q':=0) (i:=⟨5,0,x,0,s,l.length⟩) (show(5:Int)≠10 by decide) hf (fun hh=>by have hh:(5:Int)=19∨(5:Int)=20:=hh;omega) (oL hf (fun hh=>by have hh:(5:Int)=2∨(5:Int)=7∨(5:Int)=12∨(5:Int)=24:=hh;omega) (fun _=>g4) (fun hh=>by have hh:(5:Int)=19∨(5:Int)=20:=hh;omega));obtain⟨a1,a2,a3⟩:=VI.gR fx l qu e1 (fM _) (by omega) hl (fun w hw=>by obtain⟨y1,y2,y3,y4⟩:=hq w (eE _ hw);exact⟨y1,y2,y3,e2.nb y4⟩) qU;obtain⟨b1,b2⟩:=VI.gD fx n _ a1 (fM _) a3 hg;exact⟨b1,e2.wu (a2.wu b2)⟩
theorem VI.hd(fx:Fx base c P C B){r:Rm}(h:VI base c P C B 8 r){t:aK}{a:Int}(ht:rJ c P t)(HP:1<=a)(ha:a<=base)(hg:(r.hd a t).cx<=4096):VI base c P C B 8 (r.hd a t)∧jO B r (r.hd a t):=by
 have vP:dK a=true:=O'.2 ⟨HP,Int.le_trans ha fx.b1⟩;obtain⟨k,n,s,l⟩:=t;rcases ht.De with⟨rfl,hv⟩|rfl|⟨rfl,hs⟩|⟨rfl,_⟩
 ·rw[ab8]at hg⊢;split
  ·exact⟨h,jO.Dg⟩
  ·rename_i Ia;rw[az Ia]at hg;exact h.fY fx hv (.inl ⟨rfl,rfl⟩) ha (fun x hx=>⟨El (.inl rfl) hx vP,El (.inr (.inl rfl)) hx vP⟩) hg
 ·rw[ab9];have hf:=fm3 (k:=3) (n:=n) (.inl rfl) vP;have:=h.ah (q':=8) (i:=⟨3,0,a,n,[],0⟩) (show(3:Int)≠10 by decide) hf (fun hh=>by have hh:(3:Int)=19∨(3:Int)=20:=hh;omega) (oL hf (fun _=>k9 fx.b0) (fun _=>k9 ha) (fun hh=>by have hh:(3:Int)=19∨(3:Int)=20:=hh;omega));exact⟨this.1,this.2.1⟩
 ·rw[aca];have hf:=fm4 (k:=4) (.inl rfl) vP hs;have:=h.ah (q':=8) (i:=⟨4,0,a,0,s,0⟩) (show(4:Int)≠10 by decide) hf (fun hh=>by have hh:(4:Int)=19∨(4:Int)=20:=hh;omega) (oL hf (fun _=>k9 fx.b0) (fun _=>k9 ha) (fun hh=>by have hh:(4:Int)=19∨(4:Int)=20:=hh;omega));exact⟨this.1,this.2.1⟩
 ·rw[acb]at hg⊢;exact VI.gD fx _ _ h (fM _) (fun w hw=>by simp only[ko]at hw;subst hw;exact⟨ht,rfl,vP,k9 ha⟩) hg
theorem VI.put(fx:Fx base c P C B){r:Rm}(h:VI base c P C B 8 r){t:aK}{a:Int}(ht:rJ c P t)(HP:1<=a)(ha:a<=base)(hg:(r.iX (a,t)).cx<=4096):VI base c P C B 8 (r.iX (a,t))∧jO B r (r.iX (a,t)):=by
 have lE:=fx.b1;have vP:dK a=true:=O'.2 ⟨HP,Int.le_trans ha fx.b1⟩;have hra:df a=true:=FQ.2 ⟨by omega,by omega,by omega⟩;obtain⟨k,n,s,l⟩:=t;rcases ht.De with⟨rfl,hv⟩|rfl|⟨rfl,hs⟩|⟨rfl,_⟩
 ·rw[aeT]at hg⊢;split
  ·have hf:=El (k:=11) (.inr (.inr (.inl rfl))) hra vP;have:=h.ah (q':=8) (i:=⟨11,a,a,0,[],0⟩) (show(11:Int)≠10 by decide) hf (fun hh=>by have hh:(11:Int)=19∨(11:Int)=20:=hh;omega) (oL hf (fun _=>k9 ha) (fun _=>k9 ha) (fun hh=>by have hh:(11:Int)=19∨(11:Int)=20:=hh;omega));exact⟨this.1,this.2.1⟩
  ·rename_i Ia;rw[az Ia]at hg;exact h.fY fx hv (.inr (.inr ⟨rfl,rfl⟩)) ha (fun x hx=>⟨El (.inr (.inr (.inl rfl))) hx vP,El (.inr (.inr (.inr rfl))) hx vP⟩) hg
 ·rw[aeU];have hf:=fm3 (k:=13) (n:=n) (.inr rfl) vP;have:=h.ah (q':=8) (i:=⟨13,0,a,n,[],0⟩) (show(13:Int)≠10 by decide) hf (fun hh=>by have hh:(13:Int)=19∨(13:Int)=20:=hh;omega) (oL hf (fun _=>k9 fx.b0) (fun _=>k9 ha) (fun hh=>by have hh:(13:Int)=19∨(13:Int)=20:=hh;omega));exact⟨this.1,this.2.1⟩
 ·rw[aeV];have hf:=fm4 (k:=14) (.inr rfl) vP hs;have:=h.ah (q':=8) (i:=⟨14,0,a,0,s,0⟩) (show(14:Int)≠10 by decide) hf (fun hh=>by have hh:(14:Int)=19∨(14:Int)=20:=hh;omega) (oL hf (fun _=>k9 fx.b0) (fun _=>k9 ha) (fun hh=>by have hh:(14:Int)=19∨(14:Int)=20:=hh;omega));exact⟨this.1,this.2.1⟩
 ·rw[aeW]at hg⊢;have:=VI.build fx _ h ht rfl hra hg;exact⟨this.1,this.2.1⟩
theorem VI.dJ(fx:Fx base c P C B):∀(l:bG) (j:Nat) {r:Rm},VI base c P C B 8 r->qG c P l->(j+l.length:Int)<=base->(r.dJ j l).cx<=4096->VI base c P C B 8 (r.dJ j l)
 |[],_,r,h,_,_,_=>h
 |t::l,j,r,h,hl,hj,hg=>by
  simp only[bR]at hj
  push_cast at hj
  simp only[Rm.dJ]at hg⊢;have qU:(r.hd ((j+1:Nat):Int) t).cx<=4096:=Int.le_trans (abN l (j+1) _) hg;obtain⟨l1,l2⟩:=hl.Df;have:=h.hd fx (a:=((j+1:Nat):Int)) l1 (by omega) (by push_cast;omega) qU;exact VI.dJ fx l (j+1) this.1 l2 (by push_cast;omega) hg
theorem VI.g_(fx:Fx base c P C B):∀(l:bG) (j:Nat) {r:Rm},VI base c P C B 8 r->qG c P l->(j+l.length:Int)<=base->(r.g_ j l).cx<=4096->VI base c P C B 8 (r.g_ j l)
 |[],_,r,h,_,_,_=>h
 |t::l,j,r,h,hl,hj,hg=>by
  simp only[bR]at hj
  push_cast at hj
  simp only[Rm.g_]at hg⊢;have qU:(r.iX (((j+1:Nat):Int),t)).cx<=4096:=Int.le_trans (SY l (j+1) _) hg;obtain⟨l1,l2⟩:=hl.Df;have:=h.put fx (a:=((j+1:Nat):Int)) l1 (by omega) (by push_cast;omega) qU;exact VI.g_ fx l (j+1) this.1 l2 (by push_cast;omega) hg
theorem VI.dR(fx:Fx base c P C B){r:Rm}(h:VI base c P C B 8 r){op v:Int}(kY:op=22∨op=23)(hv:(v,c)∈P)(hg:(r.dR (op,v)).cx<=4096):VI base c P C B 8 (r.dR (op,v)):=by
 unfold Rm.dR at hg⊢;simp only at hg⊢;cases hx:cu v r.bV with
 |some x=>rw[hx]at hg;have hg:r.bo.cx<=4096:=hg;obtain⟨u1,u2⟩:=h.use fx.b0 fx.one hx hv;obtain⟨t1,t2,t3,t4⟩:=h.bo fx.b0 hg;have mG:=fx.b0;have kZ:df r.bo.cE=true:=FQ.2 ⟨by omega,by omega,t4⟩;have hf:=Bp (k:=op) (.inr (.inr (by omega))) kZ;obtain⟨e1,e2,e3⟩:=t1.ah (q':=8) (i:=⟨op,r.bo.cE,0,0,[],0⟩) (by show op≠10;omega) hf (fun hh=>by have hh:op=19∨op=20:=hh;omega) (oL hf (fun hh=>by have hh:op=2∨op=7∨op=12∨op=24:=hh;omega) (fun _=>k9 fx.b0) (fun hh=>by have hh:op=19∨op=20:=hh;omega));have hk:=e3 _ (O5 hf (by show op=1∨op=6∨op=11∨op=15∨op=22∨op=23;omega));have jV:=El (k:=2) (.inr (.inl rfl)) u1 (O'.2 ⟨by omega,t4⟩);have:=e1.ah (q':=8) (i:=⟨2,x,r.bo.cE,0,[],0⟩) (show(2:Int)≠10 by decide) jV (fun hh=>by have hh:(2:Int)=19∨(2:Int)=20:=hh;omega) (oL jV (fun _=>(t2.wu e2).nb u2) (fun _=>fun _=>hk) (fun hh=>by have hh:(2:Int)=19∨(2:Int)=20:=hh;omega));exact this.1
 |none=>
  rw[hx]at hg;have TP:(r.gw v).cx<=4096:=hg;have:=h.first (q':=8) fx.b0 fx.one fx.Nq hx hv (i:=⟨op,r.gY v,0,0,[],0⟩) TP rfl (by show op=1∨op=6∨op=11∨op=22∨op=23;omega) (fun kZ=>Bp (.inr (.inr (by omega))) kZ) (fun x UR=>by
   have:ca ⟨op,r.gY v,0,0,[],0⟩=true∨ca ⟨op,r.gY v,0,0,[],0⟩=false:=by cases ca ⟨op,r.gY v,0,0,[],0⟩<;>simp
   rcases this with hq|hq
   ·exact oL hq (fun hh=>by have hh:op=2∨op=7∨op=12∨op=24:=hh;omega) (fun _=>k9 fx.b0) (fun hh=>by have hh:op=19∨op=20:=hh;omega) x UR
   ·rw[cf,gO,az (by rw[hq];simp)]at UR;cases UR)
  exact this.1
theorem VI.cut(fx:Fx base c P C B){r:Rm}(h:VI base c P C B 8 r){v:Int}(hv:(v,c)∈P):VI base c P C B 8 (r.pV v):=by
 unfold Rm.pV;cases hx:cu v r.bV with
 |some x=>obtain⟨u1,u2⟩:=h.use fx.b0 fx.one hx hv;have hf:=Bp (k:=24) (.inr (.inr (.inr (.inr rfl)))) u1;have:=h.ah (q':=8) (i:=⟨24,x,0,0,[],0⟩) (show(24:Int)≠10 by decide) hf (fun hh=>by have hh:(24:Int)=19∨(24:Int)=20:=hh;omega) (oL hf (fun _=>u2) (fun _=>k9 fx.b0) (fun hh=>by have hh:(24:Int)=19∨(24:Int)=20:=hh;omega));exact this.1
 |none=>exact h
theorem VI.IQ(fx:Fx base c P C B){q:Int}{r:Rm}(h:VI base c P C B q r){i:ba}(hi:i.op≠10)(hf:ca i=true)(hr:i.r=0)(ha:i.a=0)(w_:(i.op=19∨i.op=20)->i.ar<=base):VI base c P C B 8 (r.ah i):=
 (h.ah hi hf w_ (oL hf (fun _=>by rw[hr];exact k9 fx.b0) (fun _=>by rw[ha];exact k9 fx.b0) w_)).1
end
inductive u4(base:LI):bS->bS->Nat->Prop
 |nil:u4 base [] [] 0
 |CO {A B:bS} {k:Nat} {S:bS} {x:ba}:u4 base A B k->(∀i∈S,i.op≠19)->x.op=19->(S++[x]).length<60000->(eF (S++[x]) (base.getD k 0)).2=0->u4 base (A++(S++[x])) (B++(eF (S++[x]) (base.getD k 0)).1) (k+1)
theorem ZU{code:bS}{base:LI}{fr part:Nat}{l rest:bS}:∀(S:bS) (i:Nat),(∀y∈S,y.op≠19)->i+S.length<code.length->mA code base i fr part l (S++rest)=mA code base (i+S.length) fr part l rest
 |[],i,_,_=>rfl
 |x::S,i,h,hl=>by
  simp only[bR]at hl;have e:mA code base i fr part l (x::(S++rest))=mA code base (i+1) fr part l (S++rest):=by rw[mA,aN ⟨h x (eP ..),by omega⟩]
  rw[mQ,e,ZU S (i+1) (fun y hy=>h y (eE _ hy)) (by omega)];congr 1;simp only[bR];omega
theorem auO(A T rest:bS):((A++(T++rest)).drop A.length).take (A.length+T.length-A.length)=T:=by
 rw[v7];have:A.length+T.length-A.length=T.length:=by omega
 rw[this,List.take_left]
theorem ZT{code:bS}{base:LI}{A S rest l:bS}{x:ba}{part:Nat}(hc:code=A++((S++[x])++rest))(hS:∀y∈S,y.op≠19)(hx:x.op=19∨rest=[])(hl:(S++[x]).length<60000)(ha:(eF (S++[x]) (base.getD part 0)).2=0):
 mA code base A.length A.length part l ((S++[x])++rest)=mA code base (A++(S++[x])).length (A++(S++[x])).length (part+1) (l++(eF (S++[x]) (base.getD part 0)).1) rest:=by
 have jC:code.length=A.length+(S.length+1+rest.length):=by rw[hc];simp;omega
 have e1:mA code base A.length A.length part l ((S++[x])++rest)=mA code base (A.length+S.length) A.length part l (x::rest):=by
  have:(S++[x])++rest=S++(x::rest):=by simp
  rw[this];exact ZU S A.length hS (by omega)
 have e2:(code.drop A.length).take (A.length+S.length+1-A.length)=S++[x]:=by have:=auO A (S++[x]) rest;rw[←hc]at this;simp only[bj,bR,cI,fD]at this;exact this
 have hn:¬(x.op≠19∧A.length+S.length+1<code.length):=by
  rintro⟨h1,h2⟩;rcases hx with hx|hx
  ·exact h1 hx
  ·subst hx;simp only[cI]at jC;omega
 rw[e1,mA,az hn,e2,ZV hl,az (by rw[ha];simp)];congr 1<;>simp<;>omega
theorem auQ{base:LI}{A B:bS}{k:Nat}(h:u4 base A B k):∀(code rest:bS),code=A++rest->mA code base 0 0 0 [] code=mA code base A.length A.length k B rest:=by
 induction h with
 |nil=>intro code rest hc;rw[hc];rfl
 |CO h0 h1 h2 h3 h4 ih=>intro code rest hc;rw[ih code _ (by rw[hc,iy])];exact ZT (by rw[hc,iy]) h1 (.inl h2) h3 h4
theorem auR{base:LI}{A B S:bS}{x:ba}{k:Nat}(h:u4 base A B k)(hS:∀y∈S,y.op≠19)(hl:(S++[x]).length<60000)(ha:(eF (S++[x]) (base.getD k 0)).2=0):jZ (A++(S++[x])) base=(B++(eF (S++[x]) (base.getD k 0)).1,0):=by unfold jZ;rw[auQ h _ (S++[x]) rfl];have:=ZT (code:=A++(S++[x])) (base:=base) (A:=A) (S:=S) (x:=x) (rest:=[]) (l:=B) (part:=k) (by simp) hS (.inr rfl) hl ha;rw[gz]at this;rw[this];rfl
theorem aii{l:bS}{b:Int}(h:(eF l b).2=0):∃ts,(eF l b).1=l.map (uJ ts):=by
 unfold eF at h⊢;split at h
 ·rename_i hv;rw[aN hv];exact⟨_,rfl⟩
 ·cases h
theorem Xc{base:LI}{A B:bS}{k:Nat}(h:u4 base A B k):jx A∧jx B:=by
 cases h with
 |nil=>exact⟨fun j hj=>(by cases hj),fun j hj=>(by cases hj)⟩
 |CO h0 h1 h2 h3 h4=>
  rename_i A' B' k' S x;constructor
  ·intro j hj;rw[←iy,List.getLast?_append]at hj;simp only[List.getLast?_singleton,Option.some_or,nu]at hj;subst hj;omega
  ·intro j hj;obtain⟨ts,mi⟩:=aii h4;rw[mi,List.map_append,←iy,List.getLast?_append]at hj;simp only[List.map_cons,List.map_nil,List.getLast?_singleton,Option.some_or,nu]at hj;subst hj;show x.op≠10;omega
theorem anI{l:bS}(h:fh l=0):∀y∈l,y.op≠19:=by intro y hy e;unfold fh at h;have:=List.eq_nil_of_length_eq_zero h;rw[List.filter_eq_nil_iff]at this;exact this y hy (by simp[e])
theorem akV(c:eu)(base:LI)(bL:Bool):∀(l:c7) (i:Nat) (size:Int) (m:Em),m.c_=true->(Em.au c base bL i size m l).c_=true:=by
 have zN:∀m:Em,m.c_=true->m.bX.c_=true:=fun m h=>by show(m.c_||_)=true;rw[h];rfl
 have zR:∀(m:Em) (i:ba),m.c_=true->(m.ah i).c_=true:=fun m i h=>h
 have Mx:∀(m:Em) (v:Int),m.c_=true->(m.ic v).c_=true:=fun m v h=>by
  show(bif m.mF v then m.c_||_ else m.c_)=true;cases m.mF v
  ·exact h
  ·show(m.c_||_)=true;rw[h];rfl
 have sa:∀(m:Em) (v a b d:Int),m.c_=true->(m.fY v a b d).c_=true:=fun m v a b d h=>Mx m v h
 have hhe:∀(m:Em) (w:Int×Int),m.c_=true->(m.dR w).c_=true:=fun m w h=>by
  unfold Em.dR;cases m.lI w.2
  ·exact Mx m _ h
  ·exact Mx _ _ (zN m h)
 have hcu:∀(m:Em) (v:Int),m.c_=true->(m.nN v).c_=true:=fun m v h=>by
  unfold Em.nN;cases m.lI v
  ·exact h
  ·exact Mx m v h
 have BL:∀(m:Em) (t:aK) (b:Int),m.c_=true->(m.ir t b).c_=true:=fun m t b h=>by
  unfold Em.ir;split
  ·split
   ·exact sa m _ _ _ _ h
   ·exact h
  ·split
   ·exact h
   ·split<;>exact h
 have BN:∀(ps:List (aK×Int)) (m:Em),m.c_=true->(m.oU ps).c_=true:=by
  intro ps;induction ps with
  |nil=>intro m h;exact h
  |cons p ps ih=>intro m h;exact ih _ (BL m p.1 p.2 h)
 have hbu:∀(n:Nat) (t:aK),cD t<=n->∀(m:Em) (x:Int),m.c_=true->(m.lR x t).c_=true:=by
  intro n;induction n with
  |zero=>intro t ht;have:=kJ t;omega
  |succ n ih=>
   intro t ht m x h;obtain⟨k,nn,s,l⟩:=t;simp only[cD]at ht;have mi:∀(l:bG),bh l<=n->∀m:Em,m.c_=true->(m.dq l).1.c_=true:=by
    intro l;induction l with
    |nil=>intro _ m h;exact h
    |cons t l MM=>
     intro hl m h;simp only[bh]at hl;simp only[Em.dq];split
     ·exact MM (by omega) _ (ih t (by omega) _ _ (zN m h))
     ·exact MM (by omega) _ h
   simp only[Em.lR];exact BN _ _ (mi l (by omega) m h)
 have qX:∀(m:Em) (w:Int×aK),m.c_=true->(m.lq w).c_=true:=fun m w h=>by
  unfold Em.lq;split
  ·unfold Em.tz;split
   ·exact sa m _ _ _ _ h
   ·exact h
  ·split
   ·exact h
   ·split
    ·exact h
    ·exact hbu _ _ (eh _) m _ h
 have qc:∀(l:bG) (j:Nat) (m:Em),m.c_=true->(m.eO j l).c_=true:=by
  intro l;induction l with
  |nil=>intro j m h;exact h
  |cons t l ih=>intro j m h;exact ih (j+1) _ (qX m _ h)
 have gZ:∀(m:Em) (e:Bool),m.c_=true->(m.cw e).c_=true:=fun m e h=>by unfold Em.cw;cases e<;>exact h
 intro l;induction l with
 |nil=>intro i size m h;exact gZ m bL h
 |cons g l ih=>
  intro i size m h;unfold Em.au;split
  ·exact ih _ _ _ (hhe m _ h)
  ·split
   ·exact ih _ _ _ (hhe m _ h)
   ·split
    ·exact ih _ _ _ (hcu m _ h)
    ·split
     ·exact h
     ·split
      ·split
       ·exact gZ _ bL (qc _ 0 m h)
       ·split
        ·exact ih _ _ _ (qc _ 0 m h)
        ·exact ih _ _ _ (qc _ 0 m h)
      ·exact ih _ _ _ h
structure Gx(pm ct:LP)(F:a9)(C:eu)(P:LP)(base:LI):Prop where
 gj:pD pm C
 ij:qD ct F
 one:Gz P C
 Nq:Kh C
 b0:∀k,0<=base.getD k 0
 b1:∀k,base.getD k 0<=4096
 lv:∀i,0<=C.aE.getD i 0
theorem agT{S:bS}{b:Int}(h0:0<=b)(h1:b<=4096)(hl:S.length<60000)(hv:lP b [] S=true):(eF S b).2=0:=by
 have:kK S b=true:=by unfold kK;rw[az (by omega)];exact hv
 unfold eF;rw[aN this]
section
variable{pm ct:LP}{F:a9}{C:eu}{P:LP}{base:LI}
theorem Gx.fx(gx:Gx pm ct F C P base)(k:Nat){c:Int}{B:bS}(hB:jx B):Fx (base.getD k 0) c P C B:=⟨gx.b0 k,gx.b1 k,gx.one,gx.Nq,hB⟩
theorem ajC(gx:Gx pm ct F C P base){A B:bS}{k:Nat}{M:Em}{R:Rm}(hs:du pm ct F C A B M R)(qd:u4 base A B k)(hv:R.cx<=4096->VI (base.getD k 0) k P C B 8 R)(bH:R.aZ.length<60000){T:bS}{x:ba}(hT:R.aZ=B++(T++[x]))(hn:∀y∈T,y.op≠19):
  match(if pR R B.length (base.getD k 0)then some (R.aw (B.length,base.getD k 0)).aZ else none)with
  |none=>M.c_=true
  |some code=>M.c_=false∧jZ M.aX base=(code,0):=by
 obtain⟨S,e1,e2⟩:=hs.uT;have eS:S=T++[x]:=by rw[e2]at hT;exact List.append_cancel_left hT
 subst eS;have s7:R.aZ.drop B.length=T++[x]:=by rw[e2,v7]
 have HO:(T++[x]).length<60000:=by rw[e2]at bH;simp at bH⊢;omega
 by_cases bq:pR R B.length (base.getD k 0)
 ·rw[aN bq];obtain⟨h1,h2⟩:=bq;simp only;refine⟨by rw[hs.c_,decide_eq_false h1],?_⟩;have ng:(R.aw (B.length,base.getD k 0)).aZ=B++(eF (T++[x]) (base.getD k 0)).1:=by unfold Rm.aw;simp only;rw[aN h2,s7];simp only;rw[e2,List.take_left]
  rw[ng,e1];rw[s7]at h2;exact auR qd hn HO h2
 ·rw[az bq];simp only;rw[hs.c_];apply decide_eq_true;apply ml;intro hg;refine bq ⟨hg,?_⟩;have Cb:=hv (by omega);have:=Cb.val;unfold rA at this;exact agT (gx.b0 k) (gx.b1 k) (by rw[s7];exact HO) this
theorem GS:∀(gs:c7) (d:LI) (c:Int),jh d c gs=d++jh [] c gs
 |[],d,c=>by simp[jh]
 |g::gs,d,c=>by
  simp only[jh];split
  ·rw[GS gs (d++[_]),GS gs ([]++[_])];simp
  ·exact GS gs d c
theorem K3{l:LI}{k:Nat}{x:Int}{r:LI}(h:l.drop k=x::r):l.getD k 0=x∧l.drop (k+1)=r:=by
 have hk:k<l.length:=by apply ml;intro hn;rw[dV (by omega)]at h;cases h
 rw[dv hk]at h;obtain⟨h1,h2⟩:=List.cons.inj h;exact⟨by rw[←h1];simp[List.getD,hk],h2⟩
theorem Z4{k:Nat}{c0:Int}:∀{gs:c7},base.drop k=jh [] c0 gs->c0<=base.getD k 0
 |[],h=>by have:=(K3 (h.trans (by rfl:jh [] c0 []=c0::[]))).1;omega
 |g::gs,h=>by
  simp only[jh]at h;split at h
  ·rw[GS]at h;have:=(K3 h).1;omega
  ·exact Z4 h
theorem aac{A S:bS}{M:Em}(e:M.aX=A++S)(h:fh M.aX<=fh A):∀y∈S,y.op≠19:=by rw[e,KO]at h;exact anI (by omega)
structure ahj(c:Int)(P:LP)(F:a9)(g:iP):Prop where
 gv:qG c P g.cP
 gd:wA F g.cP
 ar:g.cQ=1->(g.cP.length:Int)=g.aH.ar∧jL g.aH=true
 op:g.cQ=2∨g.cQ=3∨g.cQ=4->(g.il,c)∈P
 kd:g.cQ=1∨g.cQ=2∨g.cQ=3∨g.cQ=4∨g.cQ=5
def Kc(P:LP)(F:a9):Nat->c7->Prop
 |_,[]=>True
 |c,g::gs=>ahj c P F g∧Kc P F (if g.cQ=1 then c+1 else c) gs
theorem abG{A B:bS}{m:Em}{r:Rm}(h:du pm ct F C A B m r)(bL:Bool):du pm ct F C A B (m.cw bL) (if bL=true then r.ah ⟨18,0,0,0,[],0⟩else r):=by
 cases bL
 ·exact h
 ·exact h.ah (i:=⟨18,0,0,0,[],0⟩) (show(18:Int)≠10 by decide)
theorem abH{b c:Int}{B:bS}(fx:Fx b c P C B){r:Rm}(h:VI b c P C B 8 r)(bL:Bool):VI b c P C B 8 (if bL=true then r.ah ⟨18,0,0,0,[],0⟩else r):=by
 cases bL
 ·exact h
 ·exact h.IQ fx (show(18:Int)≠10 by decide) (SM (.inl rfl)) rfl rfl (fun hh=>by have hh:(18:Int)=19∨(18:Int)=20:=hh;omega)
theorem abD(r:Rm)(bL:Bool):(if bL=true then r.ah ⟨18,0,0,0,[],0⟩else r).cx=r.cx:=by cases bL<;>rfl
theorem Vp(gx:Gx pm ct F C P base){A B:bS}{k:Nat}{M:Em}{R:Rm}(hs:du pm ct F C A B M R)(qd:u4 base A B k)(hv:R.cx<=4096->VI (base.getD k 0) k P C B 8 R)(bH:R.aZ.length+1<60000)(hc:fh M.aX<=fh A){x:ba}(hx:x.op≠10)
  (hxf:ca x=true) (hr:x.r=0) (ha:x.a=0) (w_:(x.op=19∨x.op=20)->x.ar<=base.getD k 0):
  match(if pR (R.ah x) B.length (base.getD k 0)then some ((R.ah x).aw (B.length,base.getD k 0)).aZ else none)with
  |none=>(M.ah x).c_=true
  |some code=>(M.ah x).c_=false∧jZ (M.ah x).aX base=(code,0):=by
 obtain⟨S,e1,e2⟩:=hs.uT;have hn:=aac e1 hc;refine ajC gx (hs.ah hx) qd (fun hg=>(hv hg).IQ (gx.fx k (Xc qd).2) hx hxf hr ha w_) (by simp only[Rm.ah,bj,bR,cI];omega) (T:=S) (x:=x) ?_ hn;show R.aZ++[x]=_;rw[e2,iy]
theorem FX{A B:bS}{m m':Em}{r r':Rm}(h:du pm ct F C A B m r)(h':du pm ct F C A B m' r')(hl:r.aZ.length=m.aX.length):r'.aZ.length=m'.aX.length:=by obtain⟨S,e1,e2⟩:=h.uT;obtain⟨S',e3,e4⟩:=h'.uT;rw[e1,e2]at hl;rw[e3,e4];simp only[bj]at hl⊢;omega
theorem Hx(gx:Gx pm ct F C P base)(bL:Bool):∀(gs:c7) (i:Nat) (m:Em) (s:RS) (A B:bS) (c0:Int),du pm ct F C A B m s.m->u4 base A B s.tn->(s.m.cx<=4096->VI (base.getD s.tn 0) s.tn P C B 8 s.m)->s.fr=B.length->fh m.aX<=fh A->s.en=false->
  base.drop s.tn=jh [] c0 gs->0<=c0->Kc P F s.tn gs->C.aR.drop i=mO s.tn gs->fc gs=gs->s.cn<=4096->m.aX.length+lD gs<60000->s.m.aZ.length=m.aX.length->
  match wV bL base C.aE i s gs with
  |none=>(Em.au C base bL i s.cn m gs).c_=true
  |some code=>(Em.au C base bL i s.cn m gs).c_=false∧jZ (Em.au C base bL i s.cn m gs).aX base=(code,0)
 |[],i,m,s,A,B,c0,hs,qd,hv,gZ,hc,yn,hb,r4,lG,zV,nc,EO,bH,dY=>by
  simp only[lD]at bH;have e:wV bL base C.aE i s []=(if pR ((if bL=true then s.m.ah ⟨18,0,0,0,[],0⟩else s.m).ah ⟨21,0,0,0,[],0⟩) B.length (base.getD s.tn 0)then some (((if bL=true then s.m.ah ⟨18,0,0,0,[],0⟩else s.m).ah ⟨21,0,0,0,[],0⟩).aw (B.length,base.getD s.tn 0)).aZ else none):=by
   show Sn bL base s=_;have el:s.m.tH s.en bL=(if bL=true then s.m.ah ⟨18,0,0,0,[],0⟩else s.m).ah ⟨21,0,0,0,[],0⟩:=by unfold Rm.tH;exact az (by rw[yn];simp)
   unfold Sn;rw[gZ,el]
  rw[e];have rZ:=(cq.cw m bL).nV;have jF:(if bL=true then s.m.ah ⟨18,0,0,0,[],0⟩else s.m).aZ.length<=s.m.aZ.length+1:=by cases bL<;>simp[Rm.ah]
  exact Vp gx (abG hs bL) qd (fun hg=>abH (gx.fx s.tn (Xc qd).2) (hv (by rw[abD]at hg;exact hg)) bL) (by omega) (by omega) (x:=⟨21,0,0,0,[],0⟩) (show(21:Int)≠10 by decide) (SM (.inr (.inl rfl))) rfl rfl (fun hh=>by have hh:(21:Int)=19∨(21:Int)=20:=hh;omega)
 |g::gs,i,m,s,A,B,c0,hs,qd,hv,gZ,hc,yn,hb,r4,lG,zV,nc,EO,bH,dY=>by
  obtain⟨m0,cn,tn,fr,en⟩:=s;simp only at hs qd hv gZ yn hb lG zV EO dY⊢;subst yn gZ;obtain⟨g1,g2⟩:=lG;obtain⟨nA,nB⟩:=Xc qd;have fx:Fx (base.getD tn 0) (tn:Int) P C B:=gx.fx tn nB;have yz:C.aR.getD i 0=(tn:Int)∧C.aR.drop (i+1)=mO (if g.cQ=1 then tn+1 else tn) gs:=K3 zV;rw[abQ];simp only[lD]at bH;by_cases k2:g.cQ=2
  ·have e1:sy bL base (C.aE.getD i 0) gs.isEmpty ⟨m0,cn,tn,B.length,false⟩ g=some ⟨m0.dR (22,g.il),cn,tn,B.length,false⟩:=by rw[sy,aN k2]
   have e2:Em.au C base bL i cn m (g::gs)=Em.au C base bL (i+1) cn (m.dR (22,g.il)) gs:=by conv=>{lhs;unfold Em.au};exact aN k2
   rw[e1,e2];have kX:g.cQ≠1:=by omega
   rw[az kX]at g2 yz;have Mc:=(cq.dR m (22,g.il) (show(22:Int)≠19 by decide)).nV;have zZ:=hs.dR gx.gj (op:=22) (v:=g.il) (by decide);exact Hx gx bL gs (i+1) _ ⟨m0.dR (22,g.il),cn,tn,B.length,false⟩ A B c0 zZ qd
    (fun hg=>(hv (Int.le_trans (abO m0 _) hg)).dR fx (.inl rfl) (g1.op (.inl k2)) hg) rfl (by omega) rfl (by simpa only[jh,az kX]using hb) r4 g2 yz.2 (by
      have:g.cQ≠5:=by omega
      simp only[fc,az this]at nc;exact(List.cons.inj nc).2) EO (by omega) (FX hs zZ dY)
  ·by_cases k3:g.cQ=3
   ·have e1:sy bL base (C.aE.getD i 0) gs.isEmpty ⟨m0,cn,tn,B.length,false⟩ g=some ⟨m0.dR (23,g.il),cn,tn,B.length,false⟩:=by rw[sy,az k2,aN k3]
    have e2:Em.au C base bL i cn m (g::gs)=Em.au C base bL (i+1) cn (m.dR (23,g.il)) gs:=by conv=>{lhs;unfold Em.au};rw[az k2];exact aN k3
    rw[e1,e2];have kX:g.cQ≠1:=by omega
    rw[az kX]at g2 yz;have Mc:=(cq.dR m (23,g.il) (show(23:Int)≠19 by decide)).nV;have zZ:=hs.dR gx.gj (op:=23) (v:=g.il) (by decide);exact Hx gx bL gs (i+1) _ ⟨m0.dR (23,g.il),cn,tn,B.length,false⟩ A B c0 zZ qd
     (fun hg=>(hv (Int.le_trans (abO m0 _) hg)).dR fx (.inr rfl) (g1.op (.inr (.inl k3))) hg) rfl (by omega) rfl (by simpa only[jh,az kX]using hb) r4 g2 yz.2 (by
       have:g.cQ≠5:=by omega
       simp only[fc,az this]at nc;exact(List.cons.inj nc).2) EO (by omega) (FX hs zZ dY)
   ·by_cases k4:g.cQ=4
    ·have e1:sy bL base (C.aE.getD i 0) gs.isEmpty ⟨m0,cn,tn,B.length,false⟩ g=some ⟨m0.pV g.il,cn,tn,B.length,false⟩:=by rw[sy,az k2,az k3,aN k4]
     have e2:Em.au C base bL i cn m (g::gs)=Em.au C base bL (i+1) cn (m.nN g.il) gs:=by conv=>{lhs;unfold Em.au};rw[az k2,az k3];exact aN k4
     rw[e1,e2];have kX:g.cQ≠1:=by omega
     rw[az kX]at g2 yz;have Mc:=(cq.cut m g.il).nV;have zZ:=hs.cut (v:=g.il);exact Hx gx bL gs (i+1) _ ⟨m0.pV g.il,cn,tn,B.length,false⟩ A B c0 zZ qd
      (fun hg=>(hv (Int.le_trans (akK m0 _) hg)).cut fx (g1.op (.inr (.inr k4)))) rfl (by omega) rfl (by simpa only[jh,az kX]using hb) r4 g2 yz.2 (by
        have:g.cQ≠5:=by omega
        simp only[fc,az this]at nc;exact(List.cons.inj nc).2) EO (by omega) (FX hs zZ dY)
    ·by_cases k5:g.cQ=5
     ·have ET:gs=[]:=by simp only[fc,aN k5]at nc;exact(List.cons.inj nc).2.symm
      subst ET;have e1:sy bL base (C.aE.getD i 0) ([]:c7).isEmpty ⟨m0,cn,tn,B.length,false⟩ g=some ⟨m0.ah ⟨25,0,0,0,[],0⟩,cn,tn,B.length,true⟩:=by rw[sy,az k2,az k3,az k4,aN k5]
      have e2:Em.au C base bL i cn m [g]=m.ah ⟨25,0,0,0,[],0⟩:=by rw[Em.au,az k2,az k3,az k4,aN k5]
      rw[e1,e2];exact Vp gx hs qd hv (by omega) hc (x:=⟨25,0,0,0,[],0⟩) (show(25:Int)≠10 by decide) (SM (.inr (.inr rfl))) rfl rfl (fun hh=>by have hh:(25:Int)=19∨(25:Int)=20:=hh;omega)
     ·have k1:g.cQ=1:=by rcases g1.kd with h|h|h|h|h<;>omega
      obtain⟨ga,gp⟩:=g1.ar k1;have e1:sy bL base (C.aE.getD i 0) gs.isEmpty ⟨m0,cn,tn,B.length,false⟩ g=pH bL base (C.aE.getD i 0) gs.isEmpty ⟨m0,cn,tn,B.length,false⟩ g:=by rw[sy,az k2,az k3,az k4,az k5]
      rw[e1];simp only[aN k1]at g2 yz;have rZ:base.getD tn 0=max c0 (g.cP.length:Int)∧base.drop (tn+1)=jh [] 0 gs:=by simp only[jh,aN k1]at hb;rw[GS]at hb;exact K3 hb
      have de:(g.cP.length:Int)<=base.getD tn 0:=by omega
      have qc:=hs.eO gx.gj gx.ij nA nB g.cP 0 g1.gd;have Un:=(cq.eO g.cP 0 m).nV;have jG:=FX hs qc dY;have qY:(m0.g_ 0 g.cP).cx<=4096->VI (base.getD tn 0) tn P C B 8 (m0.g_ 0 g.cP):=fun hg=>(hv (Int.le_trans (SY g.cP 0 m0) hg)).g_ fx g.cP 0 g1.gv (by simpa using de) hg
      cases gs with
      |nil=>
       have e2:Em.au C base bL i cn m [g]=((m.eO 0 g.cP).cw bL).ah (dX 20 g.aH):=by rw[Em.au,az k2,az k3,az k4,az k5,aN k1];rfl
       have e3:pH bL base (C.aE.getD i 0) ([]:c7).isEmpty ⟨m0,cn,tn,B.length,false⟩ g=some ⟨(if bL=true then(m0.g_ 0 g.cP).ah ⟨18,0,0,0,[],0⟩else m0.g_ 0 g.cP).ah (dX 20 g.aH),cn,tn,B.length,true⟩:=by unfold pH;exact aN rfl
       rw[e2,e3];have hb3:=(cq.cw (m.eO 0 g.cP) bL).nV;have jF:(if bL=true then(m0.g_ 0 g.cP).ah ⟨18,0,0,0,[],0⟩else m0.g_ 0 g.cP).aZ.length<=(m0.g_ 0 g.cP).aZ.length+1:=by cases bL<;>simp[Rm.ah]
       exact Vp gx (abG qc bL) qd (fun hg=>abH fx (qY (by rw[abD]at hg;exact hg)) bL) (by omega) (by omega) (x:=dX 20 g.aH) (show(20:Int)≠10 by decide) (abw (.inr rfl) gp) rfl rfl (fun _=>by show g.aH.ar<=_;omega)
      |cons h t=>
       have e3:pH bL base (C.aE.getD i 0) (h::t).isEmpty ⟨m0,cn,tn,B.length,false⟩ g=if pR (nW ⟨m0,cn,tn,B.length,false⟩ (C.aE.getD i 0) g) B.length (base.getD tn 0)then some ⟨((nW ⟨m0,cn,tn,B.length,false⟩ (C.aE.getD i 0) g).aw (B.length,base.getD tn 0)).kp (base.getD (tn+1) 0),if C.aE.getD i 0<cn then C.aE.getD i 0 else cn,tn+1,((nW ⟨m0,cn,tn,B.length,false⟩ (C.aE.getD i 0) g).aw (B.length,base.getD tn 0)).aZ.length,false⟩else none:=by rw[pH,az (by simp)]
       rw[e3]
       have go:∀(m1:Em) (r1:Rm) (tW:Int),du pm ct F C A B m1 r1->(r1.cx<=4096->VI (base.getD tn 0) tn P C B 8 r1)->fh m1.aX<=fh A->m1.aX.length<=m.aX.length+2*bh g.cP+1->r1.aZ.length=m1.aX.length->tW<=4096->
         match(if pR (r1.ah (dX 19 g.aH)) B.length (base.getD tn 0)then some (⟨((r1.ah (dX 19 g.aH)).aw (B.length,base.getD tn 0)).kp (base.getD (tn+1) 0),tW,tn+1,((r1.ah (dX 19 g.aH)).aw (B.length,base.getD tn 0)).aZ.length,false⟩:RS)else none)with
         |none=>(Em.au C base bL (i+1) tW ((m1.ah (dX 19 g.aH)).qs (base.getD (C.aR.getD i 0+1).toNat 0)) (h::t)).c_=true
         |some s'=>match wV bL base C.aE (i+1) s' (h::t)with
          |none=>(Em.au C base bL (i+1) tW ((m1.ah (dX 19 g.aH)).qs (base.getD (C.aR.getD i 0+1).toNat 0)) (h::t)).c_=true
          |some code=>(Em.au C base bL (i+1) tW ((m1.ah (dX 19 g.aH)).qs (base.getD (C.aR.getD i 0+1).toNat 0)) (h::t)).c_=false∧jZ (Em.au C base bL (i+1) tW ((m1.ah (dX 19 g.aH)).qs (base.getD (C.aR.getD i 0+1).toNat 0)) (h::t)).aX base=(code,0):=by
        intro m1 r1 tW q1 q2 q3 q4 q5 q6;have hS:=q1.ah (i:=dX 19 g.aH) (show(19:Int)≠10 by decide);obtain⟨S,c1,c2⟩:=q1.uT;have hn:=aac c1 q3;have cr:(r1.ah (dX 19 g.aH)).aZ=B++(S++[dX 19 g.aH]):=by show r1.aZ++[_]=_;rw[c2,iy]
        have cm:(m1.ah (dX 19 g.aH)).aX=A++(S++[dX 19 g.aH]):=by show jt m1.aX (dX 19 g.aH)=_;rw[Bl (show(19:Int)≠10 by decide),c1,iy]
        have HO:(S++[dX 19 g.aH]).length<60000:=by rw[c2]at q5;simp only[bj,bR,cI]at q5⊢;omega
        have hvR:(r1.ah (dX 19 g.aH)).cx<=4096->VI (base.getD tn 0) tn P C B 8 (r1.ah (dX 19 g.aH)):=fun hg=>(q2 hg).IQ fx (show(19:Int)≠10 by decide) (abw (.inl rfl) gp) rfl rfl (fun _=>by show g.aH.ar<=_;omega)
        have s7:(r1.ah (dX 19 g.aH)).aZ.drop B.length=S++[dX 19 g.aH]:=by rw[cr,v7]
        have xd:(C.aR.getD i 0+1).toNat=tn+1:=by rw[yz.1];omega
        rw[xd];by_cases bq:pR (r1.ah (dX 19 g.aH)) B.length (base.getD tn 0)
        ·rw[aN bq];simp only;obtain⟨o1,o2⟩:=bq;have VT:=o2;rw[s7]at VT;have ajj:(r1.ah (dX 19 g.aH)).aw (B.length,base.getD tn 0)=⟨(r1.ah (dX 19 g.aH)).f,(r1.ah (dX 19 g.aH)).c,B++(eF (S++[dX 19 g.aH]) (base.getD tn 0)).1,(r1.ah (dX 19 g.aH)).bV,(r1.ah (dX 19 g.aH)).cE,(r1.ah (dX 19 g.aH)).cx⟩:=by unfold Rm.aw;simp only;rw[aN o2,s7,cr,List.take_left]
         have Ts:(eF (S++[dX 19 g.aH]) (base.getD tn 0)).1.length=(S++[dX 19 g.aH]).length:=KE VT;have Cb:=hvR (by omega);rw[ajj];refine Hx gx bL (h::t) (i+1) ((m1.ah (dX 19 g.aH)).qs (base.getD (tn+1) 0)) ⟨_,tW,tn+1,_,false⟩ (A++(S++[dX 19 g.aH])) (B++(eF (S++[dX 19 g.aH]) (base.getD tn 0)).1) 0 ?_ (u4.CO qd hn rfl HO VT) (fun hg=>?_) rfl ?_ rfl rZ.2 (fM _) g2 yz.2 ?_ q6 ?_ ?_
         ·exact⟨⟨[],by show(m1.ah (dX 19 g.aH)).aX=_;rw[cm,gz],by show B++_=_;rw[gz]⟩,rfl,hS.c_,hS.dh,fun v x hx=>⟨(hS.old v x hx).1,(afj (m:=m1.ah (dX 19 g.aH)) (m':=(m1.ah (dX 19 g.aH)).qs (base.getD (tn+1) 0)) rfl rfl (hS.old v x hx).1).trans (hS.old v x hx).2⟩,hS.new,hS.mp,hS.mc,hS.mf,hS.rf,hS.rc⟩
         ·have Bo:∀r2:Rm,r2.aZ=B++(eF (S++[dX 19 g.aH]) (base.getD tn 0)).1->rA (B++(eF (S++[dX 19 g.aH]) (base.getD tn 0)).1) r2=[]:=fun r2 h2=>by unfold rA;rw[h2,List.drop_length]
          refine⟨⟨[],by show B++_=_;rw[gz]⟩,by rw[Bo _ rfl];rfl,fun v x hx=>?_,⟨fM _,gx.b1 (tn+1)⟩,(fun j hj=>by rw[Bo _ rfl]at hj;cases hj),Cb.rc⟩;obtain⟨d1,d2,d3,c',d4,d5⟩:=Cb.DS v x hx;exact⟨d1,d2,fun _=>.inr ⟨c',by simp only;push_cast;omega,d5⟩,c',by simp only;push_cast;omega,d5⟩
         ·show fh (m1.ah (dX 19 g.aH)).aX<=_;rw[cm];exact eh _
         ·have:g.cQ≠5:=k5;simp only[fc,az this]at nc;exact(List.cons.inj nc).2
         ·show(m1.ah (dX 19 g.aH)).aX.length+_<60000;rw[cm,←iy,←c1];simp only[bj,bR,cI];omega
         ·show(B++(eF (S++[dX 19 g.aH]) (base.getD tn 0)).1).length=(m1.ah (dX 19 g.aH)).aX.length;have h1:(B++(eF (S++[dX 19 g.aH]) (base.getD tn 0)).1).length=B.length+(S.length+1):=by rw[bj,Ts];simp
          have h2:(A++(S++[dX 19 g.aH])).length=A.length+(S.length+1):=by simp
          rw[cm,h1,h2];have:=q5;rw[c1,c2]at this;simp only[bj]at this;omega
        ·rw[az bq];simp only;refine akV _ _ _ _ _ _ _ ?_;show(m1.ah (dX 19 g.aH)).c_=true;rw[hS.c_];apply decide_eq_true;apply ml;intro hg;refine bq ⟨hg,?_⟩;have Cb:=(hvR (by omega)).val;unfold rA at Cb;exact agT (gx.b0 tn) (gx.b1 tn) (by rw[s7];exact HO) Cb
       by_cases an:C.aE.getD i 0<cn
       ·have e2:Em.au C base bL i cn m (g::h::t)=Em.au C base bL (i+1) (C.aE.getD i 0) ((((m.eO 0 g.cP).ah ⟨17,0,0,C.aE.getD i 0,[],0⟩).ah (dX 19 g.aH)).qs (base.getD (C.aR.getD i 0+1).toNat 0)) (h::t):=by rw[Em.au,az k2,az k3,az k4,az k5,aN k1];exact aN an
        have eM:nW ⟨m0,cn,tn,B.length,false⟩ (C.aE.getD i 0) g=((m0.g_ 0 g.cP).ah ⟨17,0,0,C.aE.getD i 0,[],0⟩).ah (dX 19 g.aH):=by rw[nW,aN an]
        rw[e2,eM,aN an];have a8:=(cq.ah (m.eO 0 g.cP) (i:=⟨17,0,0,C.aE.getD i 0,[],0⟩) (show(17:Int)≠19 by decide)).nV;have this:=go ((m.eO 0 g.cP).ah ⟨17,0,0,C.aE.getD i 0,[],0⟩) ((m0.g_ 0 g.cP).ah ⟨17,0,0,C.aE.getD i 0,[],0⟩) (C.aE.getD i 0) (qc.ah (show(17:Int)≠10 by decide)) (fun hg=>(qY hg).IQ fx (show(17:Int)≠10 by decide) (abv (.inr rfl) (gx.lv i) (by omega)) rfl rfl (fun hh=>by have hh:(17:Int)=19∨(17:Int)=20:=hh;omega)) (by omega) (by omega) (FX qc (qc.ah (i:=⟨17,0,0,C.aE.getD i 0,[],0⟩) (show(17:Int)≠10 by decide)) jG) (by omega);by_cases bq:pR (((m0.g_ 0 g.cP).ah ⟨17,0,0,C.aE.getD i 0,[],0⟩).ah (dX 19 g.aH)) B.length (base.getD tn 0)
        ·simp only[aN bq]at this⊢;exact this
        ·simp only[az bq]at this⊢;exact this
       ·have e2:Em.au C base bL i cn m (g::h::t)=Em.au C base bL (i+1) cn (((m.eO 0 g.cP).ah (dX 19 g.aH)).qs (base.getD (C.aR.getD i 0+1).toNat 0)) (h::t):=by rw[Em.au,az k2,az k3,az k4,az k5,aN k1];exact az an
        have eM:nW ⟨m0,cn,tn,B.length,false⟩ (C.aE.getD i 0) g=(m0.g_ 0 g.cP).ah (dX 19 g.aH):=by rw[nW,az an]
        rw[e2,eM,az an];have:=go (m.eO 0 g.cP) (m0.g_ 0 g.cP) cn qc qY (by omega) (by omega) jG EO;by_cases bq:pR ((m0.g_ 0 g.cP).ah (dX 19 g.aH)) B.length (base.getD tn 0)
        ·simp only[aN bq]at this⊢;exact this
        ·simp only[az bq]at this⊢;exact this
end
theorem Wg{v:Int}:∀(l:LI) (i:Nat) (r:Int),v∉l->kG v i r l=r
 |[],_,_,_=>rfl
 |x::l,i,r,h=>by simp only[ss,not_or]at h;simp only[kG];rw[az (fun e=>h.1 e.symm)];exact Wg l (i+1) r h.2
theorem Wh{v:Int}:∀(l:LI) (i:Nat) (r:Int),v∈l->∃j:Nat,i<=j∧j<i+l.length∧kG v i r l= -(j:Int)-1
 |[],_,_,h=>by cases h
 |x::l,i,r,h=>by
  simp only[kG,bR];by_cases h2:v∈l
  ·obtain⟨j,h3,h4,h5⟩:=Wh l (i+1) (if x=v then-(i:Int)-1 else r) h2;exact⟨j,by omega,by omega,h5⟩
  ·rcases List.mem_cons.1 h with rfl|h
   ·exact⟨i,eh _,by omega,by rw[Wg l _ _ h2,aN rfl]⟩
   ·exact absurd h h2
theorem anF{C:eu}(h:C.aC.length<=4096):Kh C:=by
 intro v;by_cases hv:v∈C.aC
 ·obtain⟨j,h1,h2,h3⟩:=Wh C.aC 0 0 hv;exact .inr (by rw[h3];omega)
 ·exact .inl (Wg _ _ _ hv)
theorem anP(P:LP):∀v,(lk v (jJ P).1).isSome->v∈(jJ P).2:=by
 refine M6 (Q:=fun P=>∀v,(lk v (jJ P).1).isSome->v∈(jJ P).2) (fun v h=>by cases h) (fun P p ih v h=>?_) P;rw[aej]at h⊢;unfold iR at h⊢;split
 ·rename_i hn;rw[hn]at h;simp only[lK]at h;by_cases hv:v=p.1
  ·subst hv;simp
  ·rw[az hv]at h;exact List.mem_append_left _ (ih v h)
 ·rename_i s hs;rw[hs]at h;simp only[lK]at h;by_cases hv:v=p.1
  ·subst hv;exact ih p.1 (by rw[hs];rfl)
  ·rw[az hv]at h;exact ih v h
theorem SK:∀(Q:LP) (v a b:Int),Q.Pairwise (fun a b=>a.2<=b.2)->cu v Q=some a->(v,b)∈Q->a<=b
 |[],v,a,b,_,h,_=>by cases h
 |q::Q,v,a,b,hq,h1,h2=>by
  obtain⟨q1,q2⟩:=List.pairwise_cons.1 hq;unfold cu at h1;split at h1
  ·cases h1;rcases List.mem_cons.1 h2 with rfl|h2
   ·exact fM _
   ·exact q1 _ h2
  ·rename_i c6;rcases List.mem_cons.1 h2 with rfl|h2
   ·exact absurd rfl c6
   ·exact SK Q v a b q2 h1 h2
theorem Vo:∀(Q:LP) (v a b:Int),Q.Pairwise (fun a b=>b.2<=a.2)->cu v Q=some a->(v,b)∈Q->b<=a
 |[],v,a,b,_,h,_=>by cases h
 |q::Q,v,a,b,hq,h1,h2=>by
  obtain⟨q1,q2⟩:=List.pairwise_cons.1 hq;unfold cu at h1;split at h1
  ·cases h1;rcases List.mem_cons.1 h2 with rfl|h2
   ·exact fM _
   ·exact q1 _ h2
  ·rename_i c6;rcases List.mem_cons.1 h2 with rfl|h2
   ·exact absurd rfl c6
   ·exact Vo Q v a b q2 h1 h2
theorem ads{v:Int}:∀{P:LP},cu v P=none->∀p∈P,p.1≠v
 |q::P,h,p,hp=>by
  unfold cu at h;split at h
  ·cases h
  ·rename_i e;rcases List.mem_cons.1 hp with rfl|hp
   ·exact e
   ·exact ads h p hp
theorem an0(g:a9):Gz (fT g) (dp g):=by
 intro v hp c1 c2 m1 m2;have hm:=aeG g;have H_:v∉fo g:=by intro hv;obtain⟨j,_,_,h3⟩:=Wh (fo g) 0 0 hv;have hp:kG v 0 0 (fo g)=0:=hp;rw[h3]at hp;omega
 rcases aei (fT g) v with⟨h1,h2,h3⟩|⟨s,h1,h2,h3⟩
 ·exact absurd rfl (ads h2 _ m1)
 ·have Fa:=anP (fT g) v (by rw[h1];rfl);have BZ:oY (gN g).1 v=false:=by
   cases hc:oY (gN g).1 v with
   |false=>rfl
   |true=>exfalso;apply H_;have EZ:v∈(gN g).2.filter (oY (gN g).1):=List.mem_filter.2 ⟨by rw[IF];exact Fa,hc⟩;have gM:=(qt (kS (gN g).1) ((gN g).2.filter (oY (gN g).1))).2 (kS (gN g).1 v);have h4:v∈((gN g).2.filter (oY (gN g).1)).filter (fun x=>kS (gN g).1 x=kS (gN g).1 v):=List.mem_filter.2 ⟨EZ,by simp⟩;rw[←gM]at h4;exact(List.mem_filter.1 h4).1
  have de:s.tJ<=s.tI:=by unfold oY Iy at BZ;rw[IF,h1]at BZ;have:=eJ BZ;simp only[Option.getD_some]at this;omega
  have Ig:(fT g).reverse.Pairwise (fun a b=>b.2<=a.2):=List.pairwise_reverse.2 hm.1;have a1:=SK _ v s.tI c1 hm.1 h2 m1;have a2:=SK _ v s.tI c2 hm.1 h2 m2;have b1:=Vo _ v s.tJ c1 Ig h3 (List.mem_reverse.2 m1);have b2:=Vo _ v s.tJ c2 Ig h3 (List.mem_reverse.2 m2);omega
theorem Rq(M:Int):∀(gs:c7) (d:LI) (c:Int),(∀y∈d,0<=y∧y<=M)->0<=c->c<=M->(∀g∈gs,(g.cP.length:Int)<=M)->∀y∈jh d c gs,0<=y∧y<=M
 |[],d,c,hd,h0,h1,_,y,hy=>by
  simp only[jh]at hy;rcases List.mem_append.1 hy with hy|hy
  ·exact hd y hy
  ·simp only[ko]at hy;subst hy;exact⟨h0,h1⟩
 |g::gs,d,c,hd,h0,h1,hg,y,hy=>by
  simp only[jh]at hy;have qV:=hg g (eP ..);split at hy
  ·refine Rq M gs _ 0 (fun z hz=>?_) (fM _) (by omega) (fun x hx=>hg x (eE _ hx)) y hy;rcases List.mem_append.1 hz with hz|hz
   ·exact hd z hz
   ·simp only[ko]at hz;subst hz;omega
  ·exact Rq M gs d c hd h0 h1 (fun x hx=>hg x (eE _ hx)) y hy
theorem akx{l:LI}{M:Int}(hM:0<=M)(h:∀y∈l,0<=y∧y<=M)(k:Nat):0<=l.getD k 0∧l.getD k 0<=M:=by
 by_cases hk:k<l.length
 ·have:l.getD k 0=l[k]:=by simp[List.getD,hk]
  rw[this];exact h _ (xC hk)
 ·have:l.getD k 0=0:=by simp[List.getD,List.getElem?_eq_none (Nat.le_of_not_lt hk)]
  rw[this];omega
theorem adp(sp:List (Int×dE))(aC:LI):∀(gs:c7) (c:Nat),∀y∈uw sp aC c gs,0<=y
 |[],c,y,hy=>by cases hy
 |g::gs,c,y,hy=>by
  simp only[uw]at hy;rcases List.mem_cons.1 hy with rfl|hy
  ·split<;>omega
  ·exact adp sp aC gs _ y hy
theorem aan{v c:Int}:∀{P:LP},(v,c)∈P->1<=lZ v P
 |p::P,h=>by
  simp only[lZ];rcases List.mem_cons.1 h with rfl|h
  ·simp
  ·have:=aan h;omega
mutual
theorem akv{F:a9}(c:Int):∀t:aK,rJ c (fT F) t->rI F t
 |.mk k n s l,h=>by
  rcases h.De with⟨rfl,hv⟩|rfl|⟨rfl,_⟩|⟨rfl,_,_,_,hl⟩
  ·have:=ad4 h.1;subst this;exact⟨by omega,by omega,fun _=>aan hv,trivial⟩
  ·refine⟨by omega,by omega,fun e=>absurd e (by decide),Er c l ⟨?_,?_⟩⟩
   ·have:=h.1;simp only[lL,cy]at this;exact this.2
   ·have:=h.2;simpa[gI]using this
  ·refine⟨by omega,by omega,fun e=>absurd e (by decide),Er c l ⟨?_,?_⟩⟩
   ·have:=h.1;simp only[lL,cy]at this;exact this.2
   ·have:=h.2;simpa[gI]using this
  ·exact⟨by omega,by omega,fun e=>absurd e (by decide),Er c l hl⟩
theorem Er{F:a9}(c:Int):∀l:bG,qG c (fT F) l->wA F l
 |[],_=>trivial
 |t::l,h=>by obtain⟨h1,h2⟩:=h.Df;exact⟨akv c t h1,Er c l h2⟩
end
theorem Nw:∀l:bG,(∀t∈l,jX t=true)->n_ l=true
 |[],_=>rfl
 |t::l,h=>by have h1:=h t (eP ..);simp only[jX,cy]at h1;simp only[n_,cy];exact⟨h1.2,Nw l (fun x hx=>h x (eE _ hx))⟩
theorem abT{F:a9}:∀(gs:c7) (c:Nat) (b:Bool) (left:Int),lC b left gs=true->(∀p∈sY c gs,p∈fT F)->Kc (fT F) F c gs
 |[],_,_,_,_,_=>trivial
 |g::gs,c,b,left,h,hp=>by
  have hk:=U5 _ _ _ h g (eP ..);have w_:=S1 _ _ _ h g (eP ..);have ME:=Lz _ _ _ h g (eP ..);simp only[lC,cy]at h;simp only[sY]at hp;have Un:∀p∈t_ c g,p∈fT F:=fun p tb=>hp p (List.mem_append_left _ tb)
  have Me:qG (c:Int) (fT F) g.cP:=⟨Nw _ ME,fun p tb=>Un p (by unfold t_;exact List.mem_append_left _ tb)⟩;refine⟨⟨Me,Er _ _ Me,fun k1=>⟨w_ k1,?_⟩,fun ho=>Un _ ?_,hk⟩,abT gs _ _ _ h.2 (fun p tb=>hp p (List.mem_append_right _ tb))⟩
  ·have:=h.1.1;simp only[p8,k1,if_true,cy]at this;exact this.1
  ·unfold t_;have:pb g=true:=decide_eq_true ho;rw[this];simp
theorem aa5:∀(gs:c7) (b:Bool),wR b gs=(ra gs||b)
 |[],b=>by simp[wR,ra]
 |[g],b=>by simp[wR,ra]
 |g::h::l,b=>by simp only[wR,ra];rw[aa5 (h::l)];cases ra (h::l)<;>cases b<;>cases(g.cQ==1)<;>rfl
theorem Sv(g:a9):Ef g=nz g (dp g):=by rw[Ef,nz,aa5,G_]
theorem Vx:∀l:bG,l.length<=bh l
 |[]=>Nat.zero_le _
 |t::l=>by have:=Vx l;have:=kJ t;simp only[bR,bh];omega
theorem abX:∀{gs:c7} {g:iP},g∈gs->bh g.cP<=eg gs
 |x::gs,g,h=>by
  simp only[eg];rcases List.mem_cons.1 h with rfl|h
  ·omega
  ·have:=abX h;omega
theorem aiY{g:a9}(hv:ei g=true)(nc:fc g.au=g.au)(cW:bh g.aQ+eg g.au<3600)(qV:g.au.length<=500):
 match wH g with
 |none=>(lx g).2=2
 |some code=>lx g=(code,0)∧(kx g).aX.length<60000:=by
 have sa:∀t∈g.aQ,jX t=true:=by have hv:=hv;simp only[ei,cy]at hv;exact(rS.1 hv.1.2).1
 have hgb:=XK hv;have E':=Nw _ sa;have hng:Nt g.au:=fun x hx=>Nw _ (Lz _ _ _ hgb x hx)
 have jG:=O7 g;have qb:(fo g).length<4000:=by rw[fo,pk];have h1:=List.length_filter_le (oY (gN g).1) (gN g).2;have h2:=VX g ([],[]);simp only[cI,fD]at h2;have h2:(gN g).2.length<=bh g.aQ+eg g.au:=h2;omega
 have hla:=Vx g.aQ;have TF:=akx (M:=4096) (by omega) (Rq 4096 g.au [] g.aQ.length (fun y hy=>by cases hy) (by omega) (by omega) (fun x hx=>by have:=Vx x.cP;have:=abX hx;omega));have gx:Gx (rr 0 [] (fo g)) (oX g) g (dp g) (fT g) (dg g):=⟨aos (C:=dp g) (by show(fo g).length<1000000;omega),aiV E' hng (by omega),an0 g,anF (by show(fo g).length<=4096;omega),fun k=>(TF k).1,fun k=>(TF k).2,fun i=>by
  by_cases hi:i<(dp g).aE.length
  ·have:(dp g).aE.getD i 0=(dp g).aE[i]:=by simp[List.getD,hi]
   rw[this];exact adp _ _ _ _ _ (xC hi)
  ·have:(dp g).aE.getD i 0=0:=by simp[List.getD,List.getElem?_eq_none (Nat.le_of_not_lt hi)]
   rw[this];exact fM _⟩
 have hP:∀p∈fN 0 [] g.aQ,p∈fT g:=fun p hp=>by rw[IP];exact List.mem_append_left _ hp
 have acn:qG 0 (fT g) g.aQ:=⟨E',hP⟩;have lG:Kc (fT g) g 0 g.au:=abT _ _ _ _ hgb (fun p hp=>by rw[IP];exact List.mem_append_right _ hp);obtain⟨bL,yo⟩:∃bL,bL=nz g (dp g):=⟨_,rfl⟩;have hA:du (rr 0 [] (fo g)) (oX g) g (dp g) [] [] (mD g) ((v_ g).kp ((dg g).getD 0 0))∧VI ((dg g).getD 0 0) 0 (fT g) (dp g) [] 8 ((v_ g).kp ((dg g).getD 0 0))∧fh (mD g).aX<=0∧(mD g).aX.length<=1∧((v_ g).kp ((dg g).getD 0 0)).aZ.length=(mD g).aX.length:=by
  have h0:du (rr 0 [] (fo g)) (oX g) g (dp g) [] [] (l4 g) ((v9 g).kp ((dg g).getD 0 0)):=⟨⟨[],rfl,rfl⟩,rfl,rfl,fun v=>rfl,(fun v x hx=>by cases hx),fun v _=>rfl,rfl,rfl,rfl,rfl,G_ g⟩;have v0:VI ((dg g).getD 0 0) 0 (fT g) (dp g) [] 8 ((v9 g).kp ((dg g).getD 0 0)):=⟨⟨[],rfl⟩,rfl,(fun v x hx=>by cases hx),⟨fM _,(TF 0).2⟩,(fun j hj=>by cases hj),G_ g⟩;have er:(gb g).aC=fo g:=by rw[G_];rfl
  cases hE:nz g (dp g)with
  |true=>
   have e1:mD g=(l4 g).ah ⟨16,0,0,((fo g).length:Int),[],0⟩:=by rw[mD,hE];rfl
   have e2:(v_ g).kp ((dg g).getD 0 0)=((v9 g).kp ((dg g).getD 0 0)).ah ⟨16,0,0,((fo g).length:Int),[],0⟩:=by rw[v_,Sv,hE,aN rfl,er];rfl
   rw[e1,e2];refine⟨h0.ah (show(16:Int)≠10 by decide),v0.IQ (gx.fx 0 (B:=[]) (fun j hj=>by cases hj)) (show(16:Int)≠10 by decide) (abv (.inl rfl) (by omega) (by omega)) rfl rfl (fun hh=>by have hh:(16:Int)=19∨(16:Int)=20:=hh;omega),?_,?_,rfl⟩
   ·exact eh 0
   ·exact eh 1
  |false=>
   have e1:mD g=l4 g:=by rw[mD,hE];rfl
   have e2:v_ g=v9 g:=by rw[v_,Sv,hE];rfl
   rw[e1,e2];exact⟨h0,v0,eh 0,Nat.zero_le 1,rfl⟩
 obtain⟨a1,a2,a3,a4,a5⟩:=hA;have VS:jx []:=fun j hj=>by cases hj
 have hf:(mD g).f=g:=a1.mf;have hh:=a1.dJ gx.gj gx.ij VS VS g.aQ 0 (Er 0 g.aQ acn);have Mc:=(cq.dJ g.aQ 0 (mD g)).nV;have hgf:((mD g).dJ 0 g.aQ).f=g:=by rw[(cq.dJ g.aQ 0 (mD g)).f,hf]
 have hgz:=S3 g.au;have EJ:(dg g).drop 0=jh [] (g.aQ.length:Int) g.au:=rfl;have jb:=Z4 EJ;have rj:=Hx gx bL g.au 0 ((mD g).dJ 0 g.aQ) ⟨I2 g,((dp g).aC.length:Int),0,0,false⟩ [] [] (g.aQ.length:Int) hh u4.nil (fun hg=>a2.dJ (gx.fx 0 VS) g.aQ 0 acn (by simpa using jb) hg) rfl (Nat.le_trans Mc.1 a3) rfl EJ (by omega) lG rfl nc (by show((fo g).length:Int)<=4096;omega) (by omega) (FX a1 hh a5);have eG:Em.au (dp g) (dg g) bL 0 ((dp g).aC.length:Int) ((mD g).dJ 0 g.aQ) g.au=kx g:=by rw[kx,hf,hgf,yo];rfl
 have eR:wV bL (dg g) (dp g).aE 0 ⟨I2 g,((dp g).aC.length:Int),0,0,false⟩ g.au=wH g:=by rw[wH,Sv,G_,yo]
 simp only at rj;rw[eG,eR]at rj;have hbd:=Ly (dp g) (dg g) bL g.au 0 ((dp g).aC.length:Int) ((mD g).dJ 0 g.aQ);rw[eG]at hbd;have bH:(kx g).aX.length<60000:=by omega
 cases hR:wH g with
 |none=>rw[hR]at rj;simp only at rj⊢;rw[lx,aN (.inl rj)]
 |some code=>
  rw[hR]at rj;simp only at rj⊢;obtain⟨m1,m2⟩:=rj;refine⟨?_,bH⟩;rw[lx,az]
  ·exact m2
  ·rintro(q|q|q)
   ·rw[m1]at q;cases q
   ·omega
   ·omega
theorem amB{k n:Int}{s:LN}{l:bG}(h:jX (.mk k n s l)=true):pO k n s l.length=uu k n s l.length:=by
 simp only[jX,lL,cy]at h;obtain⟨_,h,_⟩:=h;unfold sk at h;unfold pO uu;split at h
 ·rename_i e;subst e;rfl
 ·split at h
  ·rename_i e;subst e;simp only[iK]at h;have:s=[]:=List.eq_nil_of_length_eq_zero h.1;rw[this,h.2];rfl
  ·split at h
   ·rename_i e;subst e;simp only[iK]at h;rw[h.1,h.2.2];rfl
   ·split at h
    ·rename_i e;subst e;simp only[iK]at h;rw[h.1];rfl
    ·cases h
theorem aid{code:bS}{base:LI}{c:bS}(h:jZ code base=(c,0))(hl:code.length<60000):c.length<=code.length:=by
 have key:∀(rest:bS) (i fr part:Nat) (l:bS),fr<=i->i+rest.length=code.length->l.length<=fr->∀c,mA code base i fr part l rest=(c,0)->c.length<=code.length:=by
  intro rest;induction rest with
  |nil=>intro i fr part l h1 h2 h3 c h;simp only[mA,Prod.mk.injEq,and_true]at h;subst h;simp only[cI]at h2;omega
  |cons x rest ih=>
   intro i fr part l h1 h2 h3 c h;simp only[bR]at h2;unfold mA at h;split at h
   ·exact ih (i+1) fr part l (by omega) (by omega) h3 c h
   ·split at h
    ·rename_i h4;simp only[Prod.mk.injEq]at h;exact absurd h.2 h4
    ·rename_i h4;have h4:(fG ((code.drop fr).take (i+1-fr)) (base.getD part 0)).2=0:=by apply ml;exact h4
     refine ih (i+1) (i+1) (part+1) _ (eh _) (by omega) ?_ c h;have hs:((code.drop fr).take (i+1-fr)).length<=i+1-fr:=List.length_take_le _ _;have Ff:((code.drop fr).take (i+1-fr)).length<60000:=by omega
     rw[ZV Ff]at h4⊢;rw[bj,KE h4];omega
 exact key code 0 0 0 [] (eh _) (by simp) (eh _) c h
theorem ai0{f:a9}{id:Int}(hw:wi f=false):gX f id=jk f id∧(gX f id).1.fB.length<60000:=by
 by_cases hc:ei f=false∨id<1∨id>1099511627776
 ·rw[gX,jk,aN hc,aN hc];exact⟨rfl,by show 0<60000;omega⟩
 ·have hv:ei f=true:=by
   cases h:ei f with
   |true=>rfl
   |false=>exact absurd (.inl h) hc
  obtain⟨s1,s2⟩:=XV hw hv;have yG:=K0 hv;have zY:bh (a_ f).aQ+eg (a_ f).au<3600:=by have:=Hb f.au;show bh f.aQ+eg (fc f.au)<3600;omega
  have kD:(a_ f).au.length<=500:=by have:=DN f.au;show(fc f.au).length<=500;omega
  have BO:=aiY yG (RQ f.au) zY kD;have Mj:lJ pO f.aQ=lJ uu f.aQ:=by
   have sa:∀t∈f.aQ,jX t=true:=by simp only[ei,cy]at hv;exact(rS.1 hv.1.2).1
   cases ht:f.aQ with
   |nil=>rfl
   |cons t T=>rw[ht]at sa;have:=sa t (eP ..);obtain⟨k,n,s,l⟩:=t;exact amB this
  rw[gX,jk,az hc,az hc];cases hR:wH (a_ f)with
  |none=>rw[hR]at BO;simp only at BO⊢;rw[aN (by rw[BO];decide),BO];exact⟨rfl,by show 0<60000;omega⟩
  |some code=>
   rw[hR]at BO;simp only at BO⊢;obtain⟨h1,h2⟩:=BO;rw[az (by rw[h1];simp),h1,Mj];refine⟨rfl,?_⟩;show code.length<60000;rw[lx]at h1;split at h1
   ·cases h1
   ·have:=aid h1 h2;omega
theorem amQ{f:a9}{id:Int}(hf:fL f):eC Z 3 [.aj (dj f),J id] ax (.aA true) ax:=
 amS hf (fun hw=>ai0 hw)
theorem amR(f:a9)(id:Int)(hf:fL f):eC Tryz.prog 3 [.aj (dj f),.cM .i64 id] ax (.aA true) ax:=amQ hf
end
end Go.Cl
