/- Part of a proof of ClauseValid. -/
import Derived.Test.YtanclcoobcaemaaGreatVB8
set_option linter.all false
set_option linter.unusedSectionVars false
set_option maxRecDepth 100000
namespace Go.Cl
open Go.Ev Go.Proofs
noncomputable section
def Kn(d:List (Int×Nat)):Prop:=(d.map (·.1)).Nodup
theorem Q7{r x:Int}:∀{d:List (Int×Nat)},Kn d->iL (mN d r) x=true->x≠r∧iL d x=true
 |[],_,h=>by simp[mN,iL,mV]at h
 |q::d,hn,h=>by
  unfold Kn at hn;simp only[List.map_cons,List.nodup_cons]at hn;simp only[mN]at h;split at h
  ·rename_i hq;obtain⟨p,h1,h2⟩:=nW.1 h;refine⟨?_,nW.2 ⟨p,List.mem_cons_of_mem _ h1,h2⟩⟩;rintro rfl;exact hn.1 (by rw[←hq,←h2];exact List.mem_map_of_mem (f:=(·.1)) h1)
  ·rename_i hq;obtain⟨p,h1,h2⟩:=nW.1 h;rcases List.mem_cons.1 h1 with rfl|h1
   ·exact⟨fun e=>hq (by rw[←e,h2]),nW.2 ⟨_,List.mem_cons_self ..,h2⟩⟩
   ·obtain⟨g1,g2⟩:=Q7 (r:=r) (x:=x) (d:=d) hn.2 (nW.2 ⟨p,h1,h2⟩);obtain⟨p',k1,k2⟩:=nW.1 g2;exact⟨g1,nW.2 ⟨p',List.mem_cons_of_mem _ k1,k2⟩⟩
theorem Z6{r:Int}:∀{d:List (Int×Nat)} {p:Int×Nat},p∈mN d r->p∈d
 |[],p,h=>h
 |q::d,p,h=>by
  simp only[mN]at h;split at h
  ·exact List.mem_cons_of_mem _ h
  ·rcases List.mem_cons.1 h with rfl|h
   ·exact List.mem_cons_self ..
   ·exact List.mem_cons_of_mem _ (Z6 h)
theorem GK{r:Int}:∀{d:List (Int×Nat)},Kn d->Kn (mN d r)
 |[],h=>h
 |q::d,h=>by
  unfold Kn at h⊢;simp only[List.map_cons,List.nodup_cons]at h;simp only[mN];split
  ·exact h.2
  ·simp only[List.map_cons,List.nodup_cons];refine⟨fun hm=>h.1 ?_,GK h.2⟩;obtain⟨p,h1,h2⟩:=List.mem_map.1 hm;exact List.mem_map.2 ⟨p,Z6 h1,h2⟩
theorem agx{n:Int}:∀(k:Nat) (y:Int) (d:List (Int×Nat)),Kn d->Kn (rP n k y d)
 |0,y,d,h=>h
 |k+1,y,d,h=>by
  simp only[rP];refine agx k _ _ ?_;split
  ·exact GK h
  ·exact h
theorem ZN:∀(k:Nat) (y:Int) (d:List (Int×Nat)),Kn d->Kn (pc k y d)
 |0,y,d,h=>h
 |k+1,y,d,h=>by simp only[pc];exact ZN k _ _ (GK h)
theorem Wi{n x:Int}:∀(k:Nat) (y:Int) (d:List (Int×Nat)),Kn d->iL (rP n k y d) x=true->iL d x=true∧¬(y<=-x∧-x<y+k∧-x>n)
 |0,y,d,hk,h=>⟨h,by push_cast;omega⟩
 |k+1,y,d,hk,h=>by
  simp only[rP]at h;split at h
  ·rename_i hy;obtain⟨h1,h2⟩:=Wi k (y+1) _ (GK hk) h;obtain⟨h3,h4⟩:=Q7 hk h1;exact⟨h4,by push_cast;omega⟩
  ·rename_i hy;obtain⟨h1,h2⟩:=Wi k (y+1) _ hk h;exact⟨h1,by push_cast;omega⟩
theorem ZO{x:Int}:∀(k:Nat) (y:Int) (d:List (Int×Nat)),Kn d->iL (pc k y d) x=true->iL d x=true∧¬(y<=x∧x<y+k)
 |0,y,d,hk,h=>⟨h,by push_cast;omega⟩
 |k+1,y,d,hk,h=>by simp only[pc]at h;obtain⟨h1,h2⟩:=ZO k (y+1) _ (GK hk) h;obtain⟨h3,h4⟩:=Q7 hk h1;exact⟨h4,by push_cast;omega⟩
theorem No{c:Ck}{r:Int}(h:Kn c.d):Kn (c.mj r).d:=by
 unfold Ck.mj;split
 ·exact h
 ·rename_i hn;unfold Kn at h⊢;simp only[List.map_append,List.map_cons,List.map_nil];refine List.nodup_append.2 ⟨h,by simp,fun a ha b hb=>?_⟩;simp only[List.mem_singleton]at hb;subst hb;rintro rfl;obtain⟨p,h1,h2⟩:=List.mem_map.1 ha;exact hn (nW.2 ⟨p,h1,h2⟩)
theorem Nn{c:Ck}{r x:Int}:Dn (c.mj r) x↔x=r∨Dn c x:=by
 constructor
 ·intro h;unfold Ck.mj Dn at*;split at h
  ·exact .inr h
  ·obtain⟨p,h1,h2⟩:=nW.1 h;simp only[List.mem_append,List.mem_singleton]at h1;rcases h1 with h1|rfl
   ·exact .inr (nW.2 ⟨p,h1,h2⟩)
   ·exact .inl h2.symm
 ·rintro(rfl|h)
  ·exact(CK c x).1
  ·exact(CK c r).2 x h
structure pD(b:Int)(ρ:Int->Int):Prop where
 b0:0<=b
 BG:∀x,x<=b->ρ x=x
 alY:∀x,b<x->x<=4096->b<ρ x∧ρ x<=4096
abbrev fZ(ρ:Int->Int)(i:a9):a9:=⟨i.op,ρ i.r,ρ i.a,i.n,i.cH,i.ar⟩
section
variable{b:Int}{ρ:Int->Int}(dU:pD b ρ)
include dU
theorem IE:ρ 0=0:=dU.BG 0 dU.b0
theorem B'{x:Int}(h:fU x):fU (ρ x)∧(0<x↔0<ρ x)∧(x<=0->ρ x=x)∧(ρ x=0↔x=0):=by
 unfold fU at*;have:=dU.b0;by_cases hx:x<=b
 ·rw[dU.BG x hx];omega
 ·have:=dU.alY x (by omega) (by omega);omega
theorem Vx{x:Int}(h:dj x=true):dj (ρ x)=true:=by
 have h':x≠0∧-4096<=x∧x<=4096:=of_decide_eq_true h;obtain⟨h1,h2,h3,h4⟩:=B' dU (x:=x) ⟨h'.2.1,h'.2.2⟩;unfold fU at h1;have:ρ x≠0:=fun e=>h'.1 (h4.1 e)
 exact decide_eq_true ⟨this,h1.1,h1.2⟩
theorem Ox{x:Int}(h:dJ x=true):dJ (ρ x)=true:=by have h':1<=x∧x<=4096:=of_decide_eq_true h;obtain⟨h1,h2,h3,h4⟩:=B' dU (x:=x) ⟨by omega,by omega⟩;unfold fU at h1;have:=h2.1 (by omega);exact decide_eq_true ⟨by omega,by omega⟩
theorem aa5{i:a9}(h:bG i=true):bG (fZ ρ i)=true:=by
 have h0:=IE dU;unfold bG at h⊢;dsimp only[fZ];by_cases hc:i.op=1∨i.op=2∨i.op=11∨i.op=12
 ·rw[if_pos hc]at h⊢;simp only[Bool.and_eq_true]at h⊢;exact⟨⟨Vx dU h.1.1,Ox dU h.1.2⟩,h.2⟩
 rw[if_neg hc]at h⊢;clear hc;by_cases hc:i.op=3∨i.op=13
 ·rw[if_pos hc]at h⊢;simp only[Bool.and_eq_true,decide_eq_true_eq]at h⊢;exact⟨Ox dU h.1,by rw[h.2.1];exact h0,h.2.2⟩
 rw[if_neg hc]at h⊢;clear hc;by_cases hc:i.op=4∨i.op=14
 ·rw[if_pos hc]at h⊢;simp only[Bool.and_eq_true,decide_eq_true_eq]at h⊢;exact⟨Ox dU h.1,h.2.1,by rw[h.2.2.1];exact h0,h.2.2.2⟩
 rw[if_neg hc]at h⊢;clear hc;by_cases hc:i.op=5
 ·rw[if_pos hc]at h⊢;simp only[Bool.and_eq_true,decide_eq_true_eq]at h⊢;exact⟨⟨Ox dU h.1.1,h.1.2⟩,by rw[h.2.1];exact h0,h.2.2⟩
 rw[if_neg hc]at h⊢;clear hc;by_cases hc:i.op=15
 ·rw[if_pos hc]at h⊢;simp only[Bool.and_eq_true,decide_eq_true_eq]at h⊢;exact⟨⟨Vx dU h.1.1,h.1.2⟩,by rw[h.2.1];exact h0,h.2.2⟩
 rw[if_neg hc]at h⊢;clear hc;by_cases hc:i.op=6∨i.op=7∨i.op=22∨i.op=23∨i.op=24
 ·rw[if_pos hc]at h⊢;simp only[Bool.and_eq_true,decide_eq_true_eq]at h⊢;exact⟨Vx dU h.1,by rw[h.2.1];exact h0,h.2.2⟩
 rw[if_neg hc]at h⊢;clear hc;by_cases hc:i.op=8
 ·rw[if_pos hc]at h⊢;simp only[decide_eq_true_eq]at h⊢;exact⟨by rw[h.1];exact h0,by rw[h.2.1];exact h0,h.2.2⟩
 rw[if_neg hc]at h⊢;clear hc;by_cases hc:i.op=9
 ·rw[if_pos hc]at h⊢;simp only[decide_eq_true_eq]at h⊢;exact⟨h.1,by rw[h.2.1];exact h0,by rw[h.2.2.1];exact h0,h.2.2.2⟩
 rw[if_neg hc]at h⊢;clear hc;by_cases hc:i.op=10
 ·rw[if_pos hc]at h⊢;simp only[decide_eq_true_eq]at h⊢;exact⟨h.1,h.2.1,by rw[h.2.2.1];exact h0,by rw[h.2.2.2.1];exact h0,h.2.2.2.2⟩
 rw[if_neg hc]at h⊢;clear hc;by_cases hc:i.op=16∨i.op=17
 ·rw[if_pos hc]at h⊢;simp only[decide_eq_true_eq]at h⊢;exact⟨h.1,h.2.1,by rw[h.2.2.1];exact h0,by rw[h.2.2.2.1];exact h0,h.2.2.2.2⟩
 rw[if_neg hc]at h⊢;clear hc;by_cases hc:i.op=19∨i.op=20
 ·rw[if_pos hc]at h⊢;simp only[Bool.and_eq_true,decide_eq_true_eq]at h⊢;exact⟨h.1,by rw[h.2.1];exact h0,by rw[h.2.2];exact h0⟩
 rw[if_neg hc]at h⊢;clear hc;by_cases hc:i.op=18∨i.op=21∨i.op=25
 ·rw[if_pos hc]at h⊢;simp only[decide_eq_true_eq]at h⊢;exact⟨by rw[h.1];exact h0,by rw[h.2.1];exact h0,h.2.2⟩
 ·rw[if_neg hc]at h;cases h
theorem E_{i:a9}{l:List Int}{f:Nat}{x:Int}:x∈eI i l f↔x∈l∨(f=114∧x=i.r)∨(f=97∧x=i.a)∨(f=112∧x∈gR i.ar):=by
 unfold eI;split
 ·rename_i h;subst h;simp
 ·rename_i h1;split
  ·rename_i h;subst h;split
   ·rename_i ha;constructor
    ·exact .inl
    ·rintro(h|⟨h,_⟩|⟨_,h⟩|⟨h,_⟩)
     ·exact h
     ·omega
     ·rw[h];exact ha
     ·omega
   ·simp
  ·rename_i h2;split
   ·rename_i h;subst h;simp
   ·rename_i h3;simp[h1,h2,h3]
theorem VE{i:a9}:∀(fs:List Nat) (l l':List Int),(112∈fs->∀x∈gR i.ar,x<=b)->(∀y,y∈l'↔∃x∈l,y=ρ x)->∀y,y∈fs.foldl (eI (fZ ρ i)) l'↔∃x∈fs.foldl (eI i) l,y=ρ x
 |[],l,l',_,h,y=>h y
 |f::fs,l,l',th,h,y=>by
  simp only[List.foldl_cons];refine VE fs _ _ (fun hm=>th (List.mem_cons_of_mem _ hm)) (fun z=>?_) y;rw[E_ dU,h z];constructor
  ·rintro(⟨x,h1,h2⟩|⟨h1,h2⟩|⟨h1,h2⟩|⟨h1,h2⟩)
   ·exact⟨x,(E_ dU).2 (.inl h1),h2⟩
   ·exact⟨i.r,(E_ dU).2 (.inr (.inl ⟨h1,rfl⟩)),h2⟩
   ·exact⟨i.a,(E_ dU).2 (.inr (.inr (.inl ⟨h1,rfl⟩))),h2⟩
   ·exact⟨z,(E_ dU).2 (.inr (.inr (.inr ⟨h1,h2⟩))),(dU.BG z (th (by rw[h1];exact List.mem_cons_self ..) z h2)).symm⟩
  ·rintro⟨x,hx,rfl⟩;rcases(E_ dU).1 hx with h1|⟨h1,rfl⟩|⟨h1,rfl⟩|⟨h1,h2⟩
   ·exact .inl ⟨x,h1,rfl⟩
   ·exact .inr (.inl ⟨h1,rfl⟩)
   ·exact .inr (.inr (.inl ⟨h1,rfl⟩))
   ·exact .inr (.inr (.inr ⟨h1,by rw[dU.BG x (th (by rw[h1];exact List.mem_cons_self ..) x h2)];exact h2⟩))
end
theorem aeS{i:a9}(h:bG i=true):∀x∈bo i,fU x:=by
 have key:∀k:Nat,k<=25->i.op=(k:Int)->∀x∈bo i,fU x:=by
  intro k hk jY;have hw:bo i=(dm i.op).1.2.2.2.1.foldl (eI i) []:=by rw[bo,c7,if_pos h]
  rw[hw];obtain⟨op,r,a,n,s,ar⟩:=i;simp only at jY;subst jY;match k,hk with
  |0,_=>simp[bG]at h
  |19,_|20,_=>intro x hx;unfold fU;simp[dm,eZ,gp,fe,eI,gR]at hx;simp[bG,H5]at h;have hp:=Fo h.1;simp only at hp;omega
  |1,_|2,_|3,_|4,_|5,_|6,_|7,_|8,_|9,_|10,_|11,_|12,_|13,_|14,_|15,_|16,_|17,_|18,_|21,_|22,_|23,_|24,_|25,_=>
   simp[bG,dj,dJ]at h;intro x hx;unfold fU;first
   |(simp[dm,eZ,gp,fe,eI]at hx;done)
   |(simp[dm,eZ,gp,fe,eI]at hx;omega)
   |(simp[dm,eZ,gp,fe,eI]at hx;obtain⟨⟨h1,h2⟩,h3⟩:=h;omega)
   |(simp[dm,eZ,gp,fe,eI]at hx;obtain⟨h1,h3⟩:=h;omega)
   |(simp[dm,eZ,gp,fe,eI]at hx;obtain⟨⟨h1,h2⟩,h3⟩:=h;split at hx<;>simp at hx<;>omega)
  |(k+26),hk=>exact absurd hk (by omega)
 have jY:0<=i.op∧i.op<=25:=by
  apply Classical.byContradiction;intro hn;have:bG i=false:=by unfold bG;repeat (first|rw[if_neg (by omega)])
  rw[this]at h;cases h
 exact key i.op.toNat (by omega) (by omega)
structure ni(ρ:Int->Int)(c c':Ck):Prop where
 vj:c'.args=c.args
 aR:c'.aR=c.aR
 bP:c'.bP=c.bP
 yw:c'.after=ρ c.after
 dn:∀x,fU x->Dn c x->Dn c' (ρ x)
structure o6(c:Ck):Prop where
 kn:Kn c.d
 af:c.args<=0->c.after=0
 ok:fU c.after
theorem amN{n x:Int}(h:x∈gR n):1<=x∧x<=n:=by simp[gR]at h;omega
theorem aaP{op:Int}:(112∈(dm op).1.2.2.2.1->op=19∨op=20)∧¬112∈(dm op).1.2.2.2.2:=by
 have key:∀k:Nat,k<=25->op=(k:Int)->(112∈(dm op).1.2.2.2.1->op=19∨op=20)∧¬112∈(dm op).1.2.2.2.2:=by
  intro k hk jY;subst jY;match k,hk with
  |0,_|1,_|2,_|3,_|4,_|5,_|6,_|7,_|8,_|9,_|10,_|11,_|12,_|13,_|14,_|15,_|16,_|17,_|18,_|19,_|20,_|21,_|22,_|23,_|24,_|25,_=>simp[dm,eZ,gp,fe,sQ]
  |(k+26),hk=>exact absurd hk (by omega)
 by_cases h:0<=op∧op<=25
 ·exact key op.toNat (by omega) (by omega)
 ·have:eZ op=none:=by
   cases op with
   |ofNat n=>
    cases n with
    |zero=>rfl
    |succ n=>
     have hn:25<=n:=by apply Classical.byContradiction;intro hh;exact h ⟨Int.natCast_nonneg _,by simp only[Int.ofNat_eq_natCast];omega⟩
     obtain⟨m,rfl⟩:∃m,n=m+25:=⟨n-25,by omega⟩;rfl
   |negSucc n=>rfl
  unfold dm;rw[this];simp[sQ]
section
variable{b:Int}{ρ:Int->Int}{c c' c1:Ck}
theorem GX(dU:pD b ρ)(hR:ni ρ c c'){r:Int}(hr:fU r):c'.ex (ρ r)=c.ex r:=by
 obtain⟨h1,h2,h3,h4⟩:=B' dU hr;unfold Ck.ex;rw[hR.aR];by_cases hp:0<r
 ·have:=h2.1 hp;simp[hp,this]
 ·rw[h3 (by omega)]
theorem aeF(hR:ni ρ c c')(r:Int):ni ρ (c.mj r) (c'.mj (ρ r)):=by
 obtain⟨e1,e2,e3,e4⟩:=BW c r;obtain⟨f1,f2,f3,f4⟩:=BW c' (ρ r);refine⟨by rw[e2,f2,hR.vj],by rw[e1,f1,hR.aR],by rw[e4,f4,hR.bP],by rw[e3,f3,hR.yw],fun x hx hd=>?_⟩;rcases Nn.1 hd with rfl|hd
 ·exact Nn.2 (.inl rfl)
 ·exact Nn.2 (.inr (hR.dn x hx hd))
theorem Z2(dU:pD b ρ)(hR:ni ρ c c'){r:Int}(hr:fU r):ni ρ (c.ew r) (c'.ew (ρ r)):=by
 unfold Ck.ew;rw[GX dU hR hr];split
 ·exact aeF hR r
 ·exact hR
theorem ao2(h:o6 c)(r:Int):o6 (c.mj r):=by obtain⟨e1,e2,e3,e4⟩:=BW c r;exact⟨No h.kn,by rw[e2,e3];exact h.af,by rw[e3];exact h.ok⟩
theorem ajw(h:o6 c)(r:Int):o6 (c.ew r):=by
 unfold Ck.ew;split
 ·exact ao2 h r
 ·exact h
theorem agL(dU:pD b ρ)(hR:ni ρ c c'){la:Bool}(hk:Kn c.d)(bn:fU c.after)(hs:yl c la=(true,c1)):∃nq,yl c' la=(true,nq)∧ni ρ c1 nq∧o6 c1:=by
 obtain⟨h1,h2,h3,h4⟩:=B' dU bn;unfold yl at hs⊢;rw[hR.vj,hR.yw];split at hs
 ·cases hs
 ·rename_i g1;rw[if_neg g1];split at hs
  ·cases hs
  ·rename_i g2;rw[if_neg g2];by_cases g3:c.args=0∧c.after≠0
   ·rw[if_pos g3]at hs;cases hs;rw[if_pos ⟨g3.1,fun e=>g3.2 (h4.1 e)⟩];refine⟨_,rfl,?_,?_⟩
    ·have:=aeF hR c.after;exact⟨this.vj,this.aR,this.bP,(IE dU).symm,this.dn⟩
    ·exact⟨No hk,fun _=>rfl,⟨by show(-4096:Int)<=0;omega,by show(0:Int)<=4096;omega⟩⟩
   ·rw[if_neg g3]at hs;cases hs;rw[if_neg (fun e=>g3 ⟨e.1,fun e2=>e.2 (h4.2 e2)⟩)];refine⟨_,rfl,hR,hk,fun h0=>?_,bn⟩;apply Classical.byContradiction;intro hn;exact g3 ⟨by omega,hn⟩
theorem agy(dU:pD b ρ){n:Int}(k:Nat)(hk:4096<=k)(hR:ni ρ c c')(hI:o6 c){d d':Ck}(h1:d={c with aR:=n,d:=rP n k 1 c.d})(h2:d'={c' with aR:=n,d:=rP n k 1 c'.d}):ni ρ d d'∧o6 d:=by
 subst h1 h2;refine⟨⟨hR.vj,rfl,hR.bP,hR.yw,fun x hx hd=>?_⟩,agx k 1 c.d hI.kn,hI.af,hI.ok⟩;obtain⟨g1,g2⟩:=Wi k 1 c.d hI.kn hd;obtain⟨q1,q2,q3,q4⟩:=B' dU hx;unfold fU at hx;refine Wh ?_ k 1 c'.d (by omega) (hR.dn x hx g1);by_cases hp:0<x
 ·exact .inl (by have:=q2.1 hp;omega)
 ·rw[q3 (by omega)];omega
theorem ai6(k:Nat)(hk:4096<=k)(hR:ni ρ c c')(dU:pD b ρ)(hI:o6 c)(h0:c.args<=0){d d':Ck}(h1:d={c with d:=pc k 1 c.d,bP:=true})(h2:d'={c' with d:=pc k 1 c'.d,bP:=true}):(∀{b2:Int} {Aj:Int->Int},pD b2 Aj->ni Aj d d')∧o6 d:=by
 subst h1 h2;refine⟨fun{b2 Aj} ack=>⟨hR.vj,hR.aR,rfl,?_,fun x hx hd=>?_⟩,ZN k 1 c.d hI.kn,hI.af,hI.ok⟩
 ·show c'.after=Aj c.after;rw[hR.yw,hI.af h0,IE dU,IE ack]
 ·obtain⟨g1,g2⟩:=ZO k 1 c.d hI.kn hd;obtain⟨q1,q2,q3,q4⟩:=B' dU hx;obtain⟨p1,p2,p3,p4⟩:=B' ack hx;have cI:x<=0:=by unfold fU at hx;omega
  have:=hR.dn x hx g1;rw[q3 cI]at this;rw[p3 cI];exact QQ cI k 1 c'.d (by omega) this
theorem Z3:∀{ws:List Int} {c c1:Ck},xd c ws=(true,c1)->(∀w∈ws,c.ex w=true)∧(∀x,Dn c1 x->x∈ws∨Dn c x)∧(Kn c.d->Kn c1.d)
 |[],c,c1,h=>by cases h;exact⟨(fun w hw=>by cases hw),fun x hx=>.inr hx,fun h=>h⟩
 |w::ws,c,c1,h=>by
  simp only[xd]at h;split at h
  ·rename_i hw;obtain⟨p,_⟩:=GJ hw;obtain⟨h1,h2,h3⟩:=Z3 h;refine⟨fun x hx=>?_,fun x hx=>?_,fun hk=>h3 ?_⟩
   ·rcases List.mem_cons.1 hx with rfl|hx
    ·exact hw
    ·rw[←aaJ p.aR];exact h1 x hx
   ·rcases h2 x hx with hx|hx
    ·exact .inl (List.mem_cons_of_mem _ hx)
    ·unfold Ck.ew at hx;rw[if_pos hw]at hx;rcases Nn.1 hx with rfl|hx
     ·exact .inl (List.mem_cons_self ..)
     ·exact .inr hx
   ·unfold Ck.ew;rw[if_pos hw];exact No hk
  ·cases h
theorem aeU(dU:pD b ρ){i:a9}(hf:bG i=true)(th:(i.op=19∨i.op=20)->i.ar<=b):(∀y,y∈bo (fZ ρ i)↔∃x∈bo i,y=ρ x)∧(∀y,y∈bj (fZ ρ i)↔∃x∈bj i,y=ρ x):=by
 have Bb:=aa5 dU hf;have e1:bo i=(dm i.op).1.2.2.2.1.foldl (eI i) []:=by rw[bo,c7,if_pos hf]
 have e2:bo (fZ ρ i)=(dm i.op).1.2.2.2.1.foldl (eI (fZ ρ i)) []:=by rw[bo,c7,if_pos Bb]
 have e3:bj i=(dm i.op).1.2.2.2.2.foldl (eI i) []:=by rw[bj,c7,if_pos hf]
 have e4:bj (fZ ρ i)=(dm i.op).1.2.2.2.2.foldl (eI (fZ ρ i)) []:=by rw[bj,c7,if_pos Bb]
 refine⟨fun y=>?_,fun y=>?_⟩
 ·rw[e1,e2];refine VE dU _ [] [] (fun hm x hx=>?_) (fun y=>by simp) y;have:=th (aaP.1 hm);have:=amN hx;omega
 ·rw[e3,e4];exact VE dU _ [] [] (fun hm=>absurd hm aaP.2) (fun y=>by simp) y
theorem agS{i:a9}(h:bG i=true)(ho:i.op=5∨i.op=15):1<=i.ar:=by
 obtain⟨op,r,a,n,s,ar⟩:=i;simp only at ho⊢;have:zZ ⟨op,r,a,n,s,ar⟩=true:=by unfold bG at h;simp only at h;rcases ho with rfl|rfl<;>(simp at h;first|exact h.1.2|exact h.2.1)
 simp only[zZ,decide_eq_true_eq]at this;omega
theorem US{i:a9}(h:bG i=true)(ho:i.op=6∨i.op=15∨i.op=22):fU i.r:=(Ov h).2 ho
theorem agR(dU:pD b ρ){i:a9}{f la:Bool}(hR:ni ρ c c')(hI:o6 c)(hf:bG i=true)(th:(i.op=19∨i.op=20)->i.ar<=b)(ho:i.op≠19)(hs:eJ c i f la=(true,c1)):
 ∃nq,eJ c' (fZ ρ i) f la=(true,nq)∧ni ρ c1 nq∧o6 c1:=by
 obtain⟨qz,tz⟩:=aeU dU hf th;unfold eJ at hs;split at hs
 ·rename_i g1;split at hs
  ·rename_i g2;have RO:∀y∈bo (fZ ρ i),Dn c' y:=by intro y hy;obtain⟨x,hx,rfl⟩:=(qz y).1 hy;exact hR.dn x (aeS hf x hx) (List.all_eq_true.1 g2 x hx)
   rw[IX (by rw[hR.vj];exact g1) RO];unfold sK at hs⊢;by_cases ga:e9 i.op=true
   ·rw[if_pos ga]at hs;rw[if_pos (show e9 (fZ ρ i).op=true from ga)];rw[hR.vj];have ka:ni ρ {c with args:=wI (c.args-(if i.op=10 then i.n else 1))} {c' with args:=wI (c.args-(if i.op=10 then i.n else 1))}:=⟨rfl,hR.aR,hR.bP,hR.yw,hR.dn⟩;show∃nq,jo {c' with args:=wI (c.args-(if i.op=10 then i.n else 1))} (fZ ρ i) la=(true,nq)∧_;generalize wI (c.args-(if i.op=10 then i.n else 1))=w at hs ka⊢;unfold jo at hs⊢;by_cases h6:i.op=6
    ·rw[if_pos h6]at hs;rw[if_pos (show(fZ ρ i).op=6 from h6)];have hr:=US hf (.inl h6);have nZ:=GX dU ka hr;split at hs
     ·rename_i hx;rw[if_pos (show Ck.ex {c' with args:=w} (ρ i.r)=true by rw[nZ];exact hx)];have hd:=Z2 dU ka hr;have kc:=GJ hx;refine agL dU hd ?_ (by rw[kc.1.nO];exact hI.ok) hs;unfold Ck.ew;rw[if_pos hx];exact No hI.kn
     ·cases hs
    ·rw[if_neg h6]at hs;rw[if_neg (show¬(fZ ρ i).op=6 from h6)];exact agL dU ka hI.kn hI.ok hs
   ·rw[if_neg ga]at hs;rw[if_neg (show¬e9 (fZ ρ i).op=true from ga)];split at hs
    ·rename_i ge;rw[if_pos (show my (fZ ρ i)=la from ge)];unfold nL at hs⊢;by_cases h5:i.op=5
     ·rw[if_pos h5]at hs;rw[if_pos (show(fZ ρ i).op=5 from h5)];cases hs;have:=agS hf (.inl h5);exact⟨_,rfl,⟨rfl,hR.aR,hR.bP,hR.yw,hR.dn⟩,hI.kn,(fun h0=>by have h0:i.ar<=0:=h0;omega),hI.ok⟩
     rw[if_neg h5]at hs;rw[if_neg (show¬(fZ ρ i).op=5 from h5)];by_cases DW:i.op=15
     ·rw[if_pos DW]at hs;rw[if_pos (show(fZ ρ i).op=15 from DW)];have hr:=US hf (.inr (.inl DW));simp only[Prod.mk.injEq]at hs;obtain⟨hx,rfl⟩:=hs;have xK:c.ex i.r=true:=hx;have nZ:Ck.ex {c' with args:=i.ar,after:=ρ i.r} (ρ i.r)=true:=(GX dU hR hr).trans xK;refine⟨{c' with args:=i.ar,after:=ρ i.r},?_,⟨rfl,hR.aR,hR.bP,rfl,hR.dn⟩,hI.kn,(fun h0=>by have h0:i.ar<=0:=h0;have:=agS hf (.inr DW);omega),hr⟩;show(Ck.ex {c' with args:=i.ar,after:=ρ i.r} (ρ i.r),_)=_;rw[nZ]
     rw[if_neg DW]at hs;rw[if_neg (show¬(fZ ρ i).op=15 from DW)];by_cases xn:i.op=16
     ·rw[if_pos xn]at hs;rw[if_pos (show(fZ ρ i).op=16 from xn)];simp only[Prod.mk.injEq]at hs;obtain⟨n5,rfl⟩:=hs;rw[n5];exact⟨_,rfl,⟨hR.vj,rfl,hR.bP,hR.yw,hR.dn⟩,hI.kn,hI.af,hI.ok⟩
     rw[if_neg xn]at hs;rw[if_neg (show¬(fZ ρ i).op=16 from xn)];by_cases Lh:i.op=17
     ·rw[if_pos Lh]at hs;rw[if_pos (show(fZ ρ i).op=17 from Lh),hR.aR];split at hs
      ·cases hs
      ·rename_i hn;rw[if_neg (show¬c.aR<(fZ ρ i).n from hn)];have:=agy dU 4096 (Nat.le_refl _) hR hI (Ck.ko.eq_1 c i.n) (Ck.ko.eq_1 c' i.n);have e:c1=c.ko i.n:=(congrArg Prod.snd hs).symm;rw[e];exact⟨c'.ko i.n,rfl,this.1,this.2⟩
     rw[if_neg Lh]at hs;rw[if_neg (show¬(fZ ρ i).op=17 from Lh)];by_cases Li:i.op=18
     ·rw[if_pos Li]at hs;rw[if_pos (show(fZ ρ i).op=18 from Li),hR.aR];split at hs
      ·cases hs
      ·rename_i hn;rw[if_neg hn];have:=agy dU 4096 (Nat.le_refl _) hR hI (Ck.ko.eq_1 c (-1)) (Ck.ko.eq_1 c' (-1));have e:c1=c.ko (-1):=(congrArg Prod.snd hs).symm;rw[e];exact⟨c'.ko (-1),rfl,this.1,this.2⟩
     rw[if_neg Li,if_neg ho]at hs;rw[if_neg (show¬(fZ ρ i).op=18 from Li),if_neg (show¬(fZ ρ i).op=19 from ho)];by_cases vQ:i.op=20
     ·rw[if_pos vQ]at hs;rw[if_pos (show(fZ ρ i).op=20 from vQ),hR.aR];simp only[Prod.mk.injEq]at hs;obtain⟨h1,rfl⟩:=hs;rw[h1];exact⟨_,rfl,hR,hI⟩
     rw[if_neg vQ]at hs;rw[if_neg (show¬(fZ ρ i).op=20 from vQ)];by_cases vR:i.op=21
     ·rw[if_pos vR]at hs;rw[if_pos (show(fZ ρ i).op=21 from vR),hR.aR];simp only[Prod.mk.injEq]at hs;obtain⟨h1,rfl⟩:=hs;rw[h1];exact⟨_,rfl,hR,hI⟩
     rw[if_neg vR]at hs;rw[if_neg (show¬(fZ ρ i).op=21 from vR)];by_cases He:i.op=22
     ·rw[if_pos He]at hs;rw[if_pos (show(fZ ρ i).op=22 from He),hR.bP];split at hs
      ·cases hs
      ·rename_i hc;rw[if_neg hc];have hr:=US hf (.inr (.inr He));simp only[Prod.mk.injEq]at hs;obtain⟨hx,rfl⟩:=hs;refine⟨c'.ew (ρ i.r),?_,Z2 dU hR hr,ajw hI _⟩;show(c'.ex (ρ i.r),_)=_;rw[GX dU hR hr,hx]
     rw[if_neg He]at hs;rw[if_neg (show¬(fZ ρ i).op=22 from He)];obtain⟨u1,u2,u3⟩:=Z3 hs;have ry:∀w∈bj (fZ ρ i),c'.ex w=true:=by intro w hw;obtain⟨x,hx,rfl⟩:=(tz w).1 hw;rw[GX dU hR ((Ov hf).1 x hx)];exact u1 x hx
     obtain⟨nq,e1,e2,e3⟩:=Kt ry;obtain⟨axH,f1,f2,f3⟩:=Kt u1;rw[hs]at f1;simp only[Prod.mk.injEq,true_and]at f1;subst f1;refine⟨nq,e1,⟨by rw[e2.mq,f2.mq,hR.vj],by rw[e2.aR,f2.aR,hR.aR],by rw[e2.bP,f2.bP,hR.bP],by rw[e2.nO,f2.nO,hR.yw],fun x hx hd=>?_⟩,u3 hI.kn,by rw[f2.mq,f2.nO];exact hI.af,by rw[f2.nO];exact hI.ok⟩;rcases u2 x hd with hd|hd
     ·exact e3 _ ((tz _).2 ⟨x,hd,rfl⟩)
     ·exact e2.up _ (hR.dn x hx hd)
    ·cases hs
  ·cases hs
 ·cases hs
theorem aiT(dU:pD b ρ){i:a9}{f la:Bool}(hR:ni ρ c c')(hI:o6 c)(hf:bG i=true)(th:i.ar<=b)(ho:i.op=19)(hs:eJ c i f la=(true,c1)):
 ∃nq,eJ c' (fZ ρ i) f la=(true,nq)∧(∀{b2:Int} {Aj:Int->Int},pD b2 Aj->ni Aj c1 nq)∧o6 c1:=by
 obtain⟨qz,tz⟩:=aeU dU hf (fun _=>th);unfold eJ at hs;split at hs
 ·rename_i g1;split at hs
  ·rename_i g2;have ga:e9 i.op=false:=by rw[ho];rfl
   have g0:c.args<=0:=by rw[ga]at g1;have:=of_decide_eq_false g1.symm;omega
   have RO:∀y∈bo (fZ ρ i),Dn c' y:=by intro y hy;obtain⟨x,hx,rfl⟩:=(qz y).1 hy;exact hR.dn x (aeS hf x hx) (List.all_eq_true.1 g2 x hx)
   rw[IX (by rw[hR.vj];exact g1) RO];unfold sK at hs⊢;rw[if_neg (by rw[ga];simp)]at hs;rw[if_neg (show¬e9 (fZ ρ i).op=true by rw[show(fZ ρ i).op=i.op from rfl,ga];simp)];split at hs
   ·rename_i ge;rw[if_pos (show my (fZ ρ i)=la from ge)];unfold nL at hs⊢;rw[if_neg (by omega),if_neg (by omega),if_neg (by omega),if_neg (by omega),if_neg (by omega),if_pos ho]at hs;have e:=congrArg Prod.snd hs;have e1:=congrArg Prod.fst hs;simp only at e e1;have pR:(fZ ρ i).op=19:=ho;rw[if_neg (by omega),if_neg (by omega),if_neg (by omega),if_neg (by omega),if_neg (by omega),if_pos pR];have lZ:=ai6 4096 (Nat.le_refl _) hR dU hI g0 e.symm (d':={c' with d:=pc 4096 1 c'.d,bP:=true}) rfl;refine⟨{c' with d:=pc 4096 1 c'.d,bP:=true},?_,lZ.1,lZ.2⟩;rw[hR.aR,e1]
   ·cases hs
  ·cases hs
 ·cases hs
end
mutual
def wX(O:Int->Prop):aK->Prop
 |.mk k n _ l=>(k=0->O n)∧wY O l
def wY(O:Int->Prop):bH->Prop
 |[]=>True
 |t::l=>wX O t∧wY O l
end
theorem anV{k n:Int}{s:List Nat}{len:Nat}(h:pY k n s len=true):k=0∨k=1∨k=2∨k=3:=by
 unfold pY at h;split at h
 ·exact .inl (by assumption)
 ·split at h
  ·exact .inr (.inl (by assumption))
  ·split at h
   ·exact .inr (.inr (.inl (by assumption)))
   ·split at h
    ·exact .inr (.inr (.inr (by assumption)))
    ·cases h
theorem MU{t:aK}(h:gT t=true):t.df=0∨t.df=1∨t.df=2∨t.df=3:=by obtain⟨k,n,s,l⟩:=t;simp only[gT,Bool.and_eq_true]at h;exact anV h.1
theorem J5{O:Int->Prop}{t:aK}(h:wX O t)(hk:t.df=0):O t.n:=by obtain⟨k,n,s,l⟩:=t;exact h.1 hk
section
variable{ba:cn}{c0:Ck}{pm:List (Int×Int)}{O K:Int->Prop}
theorem WU(m:Em)(v a b x:Int):(m.gO v a b x).aM=((m.eH v).aE ⟨bif m.ei v then b else a,m.ej v,x,0,[],0⟩).aM∧(m.gO v a b x).bT=((m.eH v).l9 v).bT∧(m.gO v a b x).dZ=((m.eH v).l9 v).dZ∧(m.gO v a b x).du=((m.eH v).l9 v).du∧(m.gO v a b x).a8=((m.eH v).l9 v).a8:=⟨rfl,rfl,rfl,rfl,rfl⟩
theorem ahe{m:Em}{c:Ck}{v:Int}(hR:eL ba c0 m c)(hV:eA pm O K m c)(hv:O v)(h1:0<c.args)(h8:c.args<=8)(hF:fS (m.gO v 6 7 0)):
 ∃c',eL ba c0 (m.gO v 6 7 0) c'∧eA pm O K (m.gO v 6 7 0) c'∧vl 1 c c':=by
 obtain⟨q1,q2,q3,q4,q5⟩:=WU m v 6 7 0;have lG:fS ((m.eH v).aE ⟨bif m.ei v then 7 else 6,m.ej v,0,0,[],0⟩):=hF;have ho:(bif m.ei v then(7:Int)else 6)=6∨(bif m.ei v then(7:Int)else 6)=7:=by cases m.ei v<;>simp
 have hf:=lG.oX (by simp only;omega);obtain⟨hx,hn⟩:=hV.new hv (zQ hf (by omega));have EB:∀x∈bo ⟨bif m.ei v then 7 else 6,m.ej v,0,0,[],0⟩,Dn c x:=by
  cases hk:m.ei v with
  |true=>rw[hk]at hf;simp only[cond_true]at hf⊢;rw[(rw7 hf).1];intro x hx;simp only[List.mem_singleton]at hx;subst hx;exact hV.zP hv hk
  |false=>rw[hk]at hf;simp only[cond_false]at hf⊢;rw[(rw6 hf).1];simp
 obtain⟨c',s1,s2,s3,_⟩:=NT (c:=c) (i:=⟨bif m.ei v then 7 else 6,m.ej v,0,0,[],0⟩) (f:=false) (k:=1) (by rw[Qk];simp only;omega) (by rw[if_neg (by simp only;omega)]) (by omega) (by omega) h8 EB (fun _=>hx);refine⟨c',((hR.km (m':=m.eH v) rfl).aE (by simp only;omega) s1).km q1,(hn c' s2.up s2.aR ?_).rW q2 q3 q4 q5,s2⟩;cases hk:m.ei v with
 |true=>exact s2.up _ (hV.zP hv hk)
 |false=>exact s3 (by rw[hk];rfl)
theorem awh{m:Em}{c:Ck}{v a:Int}(hR:eL ba c0 m c)(hV:eA pm O K m c)(hv:O v)(h0:c.args=0)(ha:Dn c a)(hF:fS (m.gO v 1 2 a)):
 ∃c',eL ba c0 (m.gO v 1 2 a) c'∧eA pm O K (m.gO v 1 2 a) c'∧kT c c':=by
 obtain⟨q1,q2,q3,q4,q5⟩:=WU m v 1 2 a;have lG:fS ((m.eH v).aE ⟨bif m.ei v then 2 else 1,m.ej v,a,0,[],0⟩):=hF;have ho:(bif m.ei v then(2:Int)else 1)=1∨(bif m.ei v then(2:Int)else 1)=2:=by cases m.ei v<;>simp
 have hf:=lG.oX (by simp only;omega);obtain⟨hx,hn⟩:=hV.new hv (zQ hf (by omega));have EC:(∀x∈bo ⟨bif m.ei v then 2 else 1,m.ej v,a,0,[],0⟩,Dn c x)∧(∀x∈bj ⟨bif m.ei v then 2 else 1,m.ej v,a,0,[],0⟩,c.ex x=true):=by
  cases hk:m.ei v with
  |true=>
   rw[hk]at hf;simp only[cond_true]at hf⊢;rw[(NB hf).2];refine⟨fun x hx=>?_,by simp⟩;rcases(NB hf).1 x hx with rfl|rfl
   ·exact hV.zP hv hk
   ·exact ha
  |false=>rw[hk]at hf;simp only[cond_false]at hf⊢;rw[(VT hf).1,(VT hf).2];simp only[List.mem_singleton,forall_eq];exact⟨ha,hx⟩
 obtain⟨c',s1,s2,s3⟩:=FD (c:=c) (i:=⟨bif m.ei v then 2 else 1,m.ej v,a,0,[],0⟩) (f:=false) (by simp only;omega) h0 EC.1 EC.2;refine⟨c',((hR.km (m':=m.eH v) rfl).aE (by simp only;omega) s1).km q1,(hn c' s2.up s2.aR ?_).rW q2 q3 q4 q5,s2⟩;cases hk:m.ei v with
 |true=>exact s2.up _ (hV.zP hv hk)
 |false=>refine s3 _ ?_;rw[hk]at hf⊢;simp only[cond_false]at hf⊢;rw[(VT hf).2];simp
theorem awj{m:Em}{c:Ck}{v a:Int}(hR:eL ba c0 m c)(hV:eA pm O K m c)(hv:O v)(h0:c.args=0)(hF:fS (m.gO v 11 12 a)):
 ∃c',eL ba c0 (m.gO v 11 12 a) c'∧eA pm O K (m.gO v 11 12 a) c'∧kT c c'∧Dn c' a:=by
 obtain⟨q1,q2,q3,q4,q5⟩:=WU m v 11 12 a;have lG:fS ((m.eH v).aE ⟨bif m.ei v then 12 else 11,m.ej v,a,0,[],0⟩):=hF;have ho:(bif m.ei v then(12:Int)else 11)=11∨(bif m.ei v then(12:Int)else 11)=12:=by cases m.ei v<;>simp
 have hf:=lG.oX (by simp only;omega);obtain⟨hx,hn⟩:=hV.new hv (zQ hf (by omega));have hea:c.ex a=true:=by have:=awN hf (by omega);unfold Ck.ex;simp only[Bool.or_eq_true,decide_eq_true_eq];omega
 have EC:(∀x∈bo ⟨bif m.ei v then 12 else 11,m.ej v,a,0,[],0⟩,Dn c x)∧(∀x∈bj ⟨bif m.ei v then 12 else 11,m.ej v,a,0,[],0⟩,c.ex x=true)∧a∈bj ⟨bif m.ei v then 12 else 11,m.ej v,a,0,[],0⟩:=by
  cases hk:m.ei v with
  |true=>rw[hk]at hf;simp only[cond_true]at hf⊢;rw[(afv hf).1,(afv hf).2];simp only[List.mem_singleton,forall_eq,and_true];exact⟨hV.zP hv hk,hea⟩
  |false=>
   rw[hk]at hf;simp only[cond_false]at hf⊢;rw[(Cf hf).1];refine⟨by simp,fun x xK=>?_,((Cf hf).2 a).2 (.inr rfl)⟩;rcases((Cf hf).2 x).1 xK with rfl|rfl
   ·exact hx
   ·exact hea
 obtain⟨c',s1,s2,s3⟩:=FD (c:=c) (i:=⟨bif m.ei v then 12 else 11,m.ej v,a,0,[],0⟩) (f:=false) (by simp only;omega) h0 EC.1 EC.2.1;refine⟨c',((hR.km (m':=m.eH v) rfl).aE (by simp only;omega) s1).km q1,(hn c' s2.up s2.aR ?_).rW q2 q3 q4 q5,s2,s3 a EC.2.2⟩;cases hk:m.ei v with
 |true=>exact s2.up _ (hV.zP hv hk)
 |false=>refine s3 _ ?_;rw[hk]at hf⊢;simp only[cond_false]at hf⊢;exact((Cf hf).2 _).2 (.inl rfl)
theorem Du{m:Em}{c:Ck}{i:a9}(hR:eL ba c0 m c)(hV:eA pm O K m c)(h1:0<c.args)(h8:c.args<=8)(hi:e9 i.op=true)(mQ:i.op≠10)(hr:∀x∈bo i,Dn c x)(hx:i.op=6->c.ex i.r=true):
 ∃c',eL ba c0 (m.aE i) c'∧eA pm O K (m.aE i) c'∧vl 1 c c'∧(i.op=6->Dn c' i.r):=by
 obtain⟨c',s1,s2,s3,_⟩:=NT (c:=c) (i:=i) (f:=false) (k:=1) hi (by rw[if_neg mQ]) (by omega) (by omega) h8 hr hx;exact⟨c',hR.aE mQ s1,(hV.up s2.up s2.aR).rW rfl rfl rfl rfl,s2,s3⟩
theorem ahg{m:Em}{c:Ck}(hp:qG ba)(hR:eL ba c0 m c)(hV:eA pm O K m c)(h1:0<c.args)(h8:c.args<=8):
 ∃c',eL ba c0 (m.aE ⟨10,0,0,1,[],0⟩) c'∧eA pm O K (m.aE ⟨10,0,0,1,[],0⟩) c'∧vl 1 c c':=by
 obtain⟨c',s1,s2⟩:=hR.awv hp h1 h8;exact⟨c',s1,(hV.up s2.up s2.aR).rW rfl rfl rfl rfl,s2⟩
theorem aih(hp:qG ba){m:Em}{c:Ck}{t:aK}{b:Int}(hR:eL ba c0 m c)(hV:eA pm O K m c)(h1:0<c.args)(h8:c.args<=8)(hF:fS (m.e9 t b))(hv:t.df=0->O t.n)(hb:t.df≠0->t.df≠1->t.df≠2->Dn c b):
 ∃c',eL ba c0 (m.e9 t b) c'∧eA pm O K (m.e9 t b) c'∧vl 1 c c':=by
 unfold Em.e9 at hF⊢;split
 ·rename_i h0;rw[if_pos h0]at hF;split
  ·rename_i hc;rw[if_pos hc]at hF;exact ahe hR hV (hv h0) h1 h8 hF
  ·exact ahg hp hR hV h1 h8
 ·rename_i h0;rw[if_neg h0]at hF;split
  ·obtain⟨c',a,b,d,_⟩:=Du (i:=⟨8,0,0,t.n,[],0⟩) hR hV h1 h8 rfl (by simp) (by rw[rw8.1];simp) (fun h=>absurd h (show¬(8:Int)=6 by omega));exact⟨c',a,b,d⟩
  ·rename_i iM;rw[if_neg iM]at hF;split
   ·obtain⟨c',a,b,d,_⟩:=Du (i:=⟨9,0,0,0,t.f_,0⟩) hR hV h1 h8 rfl (by simp) (by rw[rw9.1];simp) (fun h=>absurd h (show¬(9:Int)=6 by omega));exact⟨c',a,b,d⟩
   ·rename_i iA;rw[if_neg iA]at hF;have hf:=hF.oX (by simp);obtain⟨c',a,b',d,_⟩:=Du (i:=⟨7,b,0,0,[],0⟩) hR hV h1 h8 rfl (by simp) (by rw[(rw7 hf).1];simp only[List.mem_singleton,forall_eq];exact hb h0 iM iA) (fun h=>absurd h (show¬(7:Int)=6 by omega));exact⟨c',a,b',d⟩
structure JI(c c':Ck):Prop where
 args:c'.args=0
 aR:c'.aR=c.aR
 bP:c'.bP=c.bP
 up:∀r,Dn c r->Dn c' r
 az:0<c.args->c'.after=0∧(c.after≠0->Dn c' c.after)
theorem vl.aax{c c1 c2:Ck}(h:vl 1 c c1)(h0:0<c.args)(h2:JI c1 c2)(hz:c1.args=0->c2=c1):JI c c2:=by
 refine⟨h2.args,h2.aR.trans h.aR,h2.bP.trans h.bP,fun r hr=>h2.up r (h.up r hr),fun _=>?_⟩;by_cases h1:c.args=1
 ·have:c1.args=0:=by rw[h.ua];omega
  rw[hz this];exact h.az h1
 ·obtain⟨f1,f2⟩:=h2.az (by rw[h.ua];omega);rw[h.et h1]at f2;exact⟨f1,f2⟩
theorem Ze(hp:qG ba):∀(l:List (aK×Int)) {m:Em} {c:Ck},eL ba c0 m c->eA pm O K m c->c.args=l.length->c.args<=8->fS (m.jQ l)->(∀p∈l,p.1.df=0->O p.1.n)->(∀p∈l,p.1.df≠0->p.1.df≠1->p.1.df≠2->Dn c p.2)->
 ∃c',eL ba c0 (m.jQ l) c'∧eA pm O K (m.jQ l) c'∧JI c c'∧(l=[]->c'=c)
 |[],m,c,hR,hV,hl,h8,hF,hv,hb=>⟨c,hR,hV,⟨by simpa using hl,rfl,rfl,fun _ h=>h,fun h=>by rw[hl]at h;simp at h⟩,fun _=>rfl⟩
 |(t,b)::l,m,c,hR,hV,hl,h8,hF,hv,hb=>by
  have uO:c.args=(l.length:Int)+1:=by rw[hl];simp
  have nw:fS ((m.e9 t b).jQ l):=hF;obtain⟨c1,r1,v1,a1⟩:=aih hp hR hV (by omega) h8 (nw.s6 (bS.jQ l (m.e9 t b))) (hv (t,b) (List.mem_cons_self ..)) (hb (t,b) (List.mem_cons_self ..));obtain⟨c2,r2,v2,e2,z2⟩:=Ze hp l r1 v1 (by rw[a1.ua];omega) (by rw[a1.ua];omega) nw (fun p mD=>hv p (List.mem_cons_of_mem _ mD)) (fun p mD k0 k1 k2=>a1.up _ (hb p (List.mem_cons_of_mem _ mD) k0 k1 k2));refine⟨c2,r2,v2,a1.aax (by omega) e2 (fun hz=>z2 ?_),fun h=>by cases h⟩;rw[a1.ua]at hz;exact List.eq_nil_of_length_eq_zero (by omega)
theorem agT{op r a n:Int}{s:List Nat}{len:Nat}(h:bG ⟨op,r,a,n,s,(len:Int)⟩=true)(ho:op=5∨op=15):1<=len∧len<=8:=by
 have:zZ ⟨op,r,a,n,s,(len:Int)⟩=true:=by unfold bG at h;simp only at h;rcases ho with rfl|rfl<;>(simp at h;first|exact h.1.2|exact h.2.1)
 simp only[zZ,decide_eq_true_eq]at this;omega
mutual
theorem ZB(hp:qG ba):∀(m:Em) (r:Int) (t:aK) {c:Ck},eL ba c0 m c->eA pm O K m c->c.args=0->c.after=0->0<r->gT t=true->t.df=3->wX O t->fS (m.jf r t)->
 ∃c',eL ba c0 (m.jf r t) c'∧eA pm O K (m.jf r t) c'∧kT c c'∧Dn c' r
 |m,r,.mk k n s l,c,hR,hV,h0,ha,hr,hn,hk,ji,hF=>by
  have nw:fS (((m.fq l).1.aE ⟨15,r,0,0,s,l.length⟩).jQ (l.zip (m.fq l).2)):=by rw[Em.jf]at hF;exact hF
  have Ea:=nw.s6 (bS.jQ (l.zip (m.fq l).2) ((m.fq l).1.aE ⟨15,r,0,0,s,l.length⟩));have hf:=Ea.oX (by simp);obtain⟨l1,l2⟩:=agT hf (.inr rfl);simp only[gT,Bool.and_eq_true]at hn;obtain⟨c1,r1,v1,p1,d1,ln⟩:=QJ hp m l hR hV h0 ha hn.2 ji.2 (Ea.s6 (bS.aE _ (by simp)));have hx:c1.ex r=true:=by unfold Ck.ex;simp[hr]
  have s1:=avN (c:=c1) (i:=⟨15,r,0,0,s,l.length⟩) (f:=false) rfl (by rw[p1.mq];exact h0) (by rw[(apP hf).1];simp) hx;have Bv:(l.zip (m.fq l).2).length=l.length:=by rw[List.length_zip,ln];simp
  obtain⟨c2,r2,v2,e2,_⟩:=Ze hp (l.zip (m.fq l).2) (r1.aE (i:=⟨15,r,0,0,s,l.length⟩) (by simp) s1) ((v1.up (c':={c1 with args:=(l.length:Int),after:=r}) (fun _ h=>h) rfl).rW (m':=(m.fq l).1.aE ⟨15,r,0,0,s,l.length⟩) rfl rfl rfl rfl) (by rw[Bv]) (by simp only;omega) nw
   (fun p mD qx=>by have:=(List.of_mem_zip mD).1;exact J5 (Y4 ji.2 this) qx)
   (fun p mD k0 k1 k2=>by have h3:=MU (adI hn.2 (List.of_mem_zip mD).1);exact d1 p mD (by omega))
  obtain⟨f1,f2⟩:=e2.az (by simp only;omega);refine⟨c2,by rw[Em.jf];exact r2,by rw[Em.jf];exact v2,⟨by rw[e2.args,h0],by rw[f1,ha],e2.aR.trans p1.aR,e2.bP.trans p1.bP,fun x hx=>e2.up x (p1.up x hx)⟩,f2 (by simp only;omega)⟩
theorem QJ(hp:qG ba):∀(m:Em) (l:bH) {c:Ck},eL ba c0 m c->eA pm O K m c->c.args=0->c.after=0->g_ l=true->wY O l->fS (m.fq l).1->
 ∃c',eL ba c0 (m.fq l).1 c'∧eA pm O K (m.fq l).1 c'∧kT c c'∧(∀p∈l.zip (m.fq l).2,p.1.df=3->Dn c' p.2)∧(m.fq l).2.length=l.length
 |m,[],c,hR,hV,h0,ha,hn,ji,hF=>⟨c,hR,hV,.yv c,by simp,rfl⟩
 |m,t::l,c,hR,hV,h0,ha,hn,ji,hF=>by
  simp only[g_,Bool.and_eq_true]at hn;simp only[Em.fq]at hF⊢;by_cases hk:t.df=3
  ·rw[if_pos hk]at hF;simp only[if_pos hk];have nw:=hF.s6 (bS.fq (m.bq.jf m.bq.bT t) l);have Tp:dj m.bq.bT=true:=by
    obtain⟨k',n',s',l'⟩:=t;have Ea:fS (((m.bq.fq l').1.aE ⟨15,m.bq.bT,0,0,s',l'.length⟩).jQ (l'.zip (m.bq.fq l').2)):=by rw[Em.jf]at nw;exact nw
    exact zQ ((Ea.s6 (bS.jQ _ _)).oX (by simp)) (by omega)
   have sc:m.bq.bT≠0∧-4096<=m.bq.bT∧m.bq.bT<=4096:=by simpa[dj]using Tp
   obtain⟨vc,mT⟩:=hV.OA sc.2.2;obtain⟨c1,r1,v1,p1,d1⟩:=ZB hp m.bq m.bq.bT t (hR.km rfl) vc h0 ha mT hn.1 hk ji.1 nw;obtain⟨c2,r2,v2,p2,d2,ln⟩:=QJ hp (m.bq.jf m.bq.bT t) l r1 v1 (by rw[p1.mq];exact h0) (by rw[p1.nO];exact ha) hn.2 ji.2 hF;refine⟨c2,r2,v2,p1.Cw p2,fun p mD xx=>?_,by simp[ln]⟩;simp only[List.zip_cons_cons,List.mem_cons]at mD;rcases mD with rfl|mD
   ·exact p2.up _ d1
   ·exact d2 p mD xx
  ·rw[if_neg hk]at hF;simp only[if_neg hk];obtain⟨c2,r2,v2,p2,d2,ln⟩:=QJ hp m l hR hV h0 ha hn.2 ji.2 hF;refine⟨c2,r2,v2,p2,fun p mD xx=>?_,by simp[ln]⟩;simp only[List.zip_cons_cons,List.mem_cons]at mD;rcases mD with rfl|mD
   ·exact absurd xx hk
   ·exact d2 p mD xx
theorem Y4:∀{l:bH} {t:aK},wY O l->t∈l->wX O t
 |x::l,t,h,hm=>by
  rcases List.mem_cons.1 hm with rfl|hm
  ·exact h.1
  ·exact Y4 h.2 hm
theorem adI:∀{l:bH} {t:aK},g_ l=true->t∈l->gT t=true
 |x::l,t,h,hm=>by
  simp only[g_,Bool.and_eq_true]at h;rcases List.mem_cons.1 hm with rfl|hm
  ·exact h.1
  ·exact adI h.2 hm
end
end
section
variable{ba:cn}{c0:Ck}{pm:List (Int×Int)}{O K:Int->Prop}
theorem Dv{m:Em}{c:Ck}{i:a9}(hR:eL ba c0 m c)(hV:eA pm O K m c)(ho:i.op=1∨i.op=2∨i.op=3∨i.op=4∨i.op=11∨i.op=12∨i.op=13∨i.op=14∨i.op=23∨i.op=24)(h0:c.args=0)(hr:∀x∈bo i,Dn c x)(hw:∀x∈bj i,c.ex x=true):
 ∃c',eL ba c0 (m.aE i) c'∧eA pm O K (m.aE i) c'∧kT c c'∧∀x∈bj i,Dn c' x:=by
 obtain⟨c',s1,s2,s3⟩:=FD (f:=false) ho h0 hr hw;exact⟨c',hR.aE (by omega) s1,(hV.up s2.up s2.aR).rW rfl rfl rfl rfl,s2,s3⟩
theorem GW{c:Ck}{a:Int}(h:1<=a):c.ex a=true:=by unfold Ck.ex;simp only[Bool.or_eq_true,decide_eq_true_eq];omega
theorem ao3(hp:qG ba){m:Em}{c:Ck}{a:Int}{t:aK}(hR:eL ba c0 m c)(hV:eA pm O K m c)(h0:c.args=0)(ha:c.after=0)(mT:0<a)(hn:gT t=true)(ji:wX O t)(hF:fS (m.kP (a,t))):
 ∃c',eL ba c0 (m.kP (a,t)) c'∧eA pm O K (m.kP (a,t)) c'∧kT c c'∧Dn c' a:=by
 unfold Em.kP at hF⊢;simp only at hF⊢;split
 ·rename_i hk;rw[if_pos hk]at hF;unfold Em.rL at hF⊢;simp only at hF⊢;split
  ·rename_i hc;rw[if_pos hc]at hF;exact awj hR hV (J5 ji hk) h0 hF
  ·rename_i hc;rw[if_neg hc]at hF;have hf:=hF.oX (by simp);obtain⟨c',r1,v1,p1,d1⟩:=Dv (i:=⟨11,a,a,0,[],0⟩) hR hV (by simp) h0 (by rw[(Cf hf).1];simp) (fun x hx=>by have:=((Cf hf).2 x).1 hx;rcases this with rfl|rfl<;>exact GW (by omega));exact⟨c',r1,v1,p1,d1 a (((Cf hf).2 a).2 (.inr rfl))⟩
 ·rename_i hk;rw[if_neg hk]at hF;split
  ·rename_i iM;rw[if_pos iM]at hF;have hf:bG ⟨13,0,a,t.n,[],0⟩=true:=fS.oX hF (by simp);obtain⟨c',r1,v1,p1,d1⟩:=Dv (i:=⟨13,0,a,t.n,[],0⟩) hR hV (by simp) h0 (by rw[(VU hf).1];simp) (by rw[(VU hf).2];simp only[List.mem_singleton,forall_eq];exact GW (by omega));exact⟨c',r1,v1,p1,d1 a (by rw[(VU hf).2];simp)⟩
  ·rename_i iM;rw[if_neg iM]at hF;split
   ·rename_i iA;rw[if_pos iA]at hF;have hf:bG ⟨14,0,a,0,t.f_,0⟩=true:=fS.oX hF (by simp);obtain⟨c',r1,v1,p1,d1⟩:=Dv (i:=⟨14,0,a,0,t.f_,0⟩) hR hV (by simp) h0 (by rw[(VV hf).1];simp) (by rw[(VV hf).2];simp only[List.mem_singleton,forall_eq];exact GW (by omega));exact⟨c',r1,v1,p1,d1 a (by rw[(VV hf).2];simp)⟩
   ·rename_i iA;rw[if_neg iA]at hF;have xx:=MU hn;exact ZB hp m a t hR hV h0 ha mT hn (by omega) ji hF
theorem Vk(hp:qG ba):∀(l:bH) (i:Nat) {m:Em} {c:Ck},eL ba c0 m c->eA pm O K m c->c.args=0->c.after=0->g_ l=true->wY O l->fS (Em.dW i m l)->
 ∃c',eL ba c0 (Em.dW i m l) c'∧eA pm O K (Em.dW i m l) c'∧kT c c'∧∀a:Int,(i:Int)<a->a<=(i:Int)+l.length->Dn c' a
 |[],i,m,c,hR,hV,h0,ha,hn,ji,hF=>⟨c,hR,hV,.yv c,fun a h1 h2=>by simp at h2;omega⟩
 |t::l,i,m,c,hR,hV,h0,ha,hn,ji,hF=>by
  simp only[g_,Bool.and_eq_true]at hn;simp only[Em.dW]at hF⊢;obtain⟨c1,r1,v1,p1,d1⟩:=ao3 hp (a:=((i+1:Nat):Int)) (t:=t) hR hV h0 ha (by omega) hn.1 ji.1 (hF.s6 (bS.dW l (i+1) _));obtain⟨c2,r2,v2,p2,d2⟩:=Vk hp l (i+1) r1 v1 (by rw[p1.mq];exact h0) (by rw[p1.nO];exact ha) hn.2 ji.2 hF;refine⟨c2,r2,v2,p1.Cw p2,fun a h1 h2=>?_⟩;by_cases h3:a=((i+1:Nat):Int)
  ·subst h3;exact p2.up _ d1
  ·refine d2 a (by omega) ?_;simp only[List.length_cons]at h2
   push_cast at h2⊢
   omega
def AQ(O:Int->Prop)(c:Ck)(w:Int×aK):Prop:=Dn c w.1∧gT w.2=true∧w.2.df=3∧wX O w.2
theorem AQ.up{c c':Ck}{w:Int×aK}(h:AQ O c w)(hu:∀r,Dn c r->Dn c' r):AQ O c' w:=⟨hu _ h.1,h.2⟩
theorem aio(hp:qG ba){m:Em}{c:Ck}{t:aK}(hR:eL ba c0 m c)(hV:eA pm O K m c)(h1:0<c.args)(h8:c.args<=8)(hn:gT t=true)(ji:wX O t)(hF:fS (m.gf t).1):
 ∃c',eL ba c0 (m.gf t).1 c'∧eA pm O K (m.gf t).1 c'∧vl 1 c c'∧∀w∈(m.gf t).2,AQ O c' w:=by
 unfold Em.gf at hF⊢;by_cases hk:t.df=0
 ·rw[if_pos hk]at hF;simp only[if_pos hk]at hF⊢;by_cases hc:m.qX t.n>1
  ·rw[if_pos hc]at hF;simp only[if_pos hc]at hF⊢;obtain⟨c',a,b,d⟩:=ahe hR hV (J5 ji hk) h1 h8 hF;exact⟨c',a,b,d,fun w hw=>by cases hw⟩
  ·simp only[if_neg hc];obtain⟨c',a,b,d⟩:=ahg hp hR hV h1 h8;exact⟨c',a,b,d,fun w hw=>by cases hw⟩
 ·rw[if_neg hk]at hF;simp only[if_neg hk];by_cases iM:t.df=1
  ·simp only[if_pos iM];obtain⟨c',a,b,d,_⟩:=Du (i:=⟨8,0,0,t.n,[],0⟩) hR hV h1 h8 rfl (by simp) (by rw[rw8.1];simp) (fun h=>absurd h (show¬(8:Int)=6 by omega));exact⟨c',a,b,d,fun w hw=>by cases hw⟩
  ·rw[if_neg iM]at hF;simp only[if_neg iM];by_cases iA:t.df=2
   ·simp only[if_pos iA];obtain⟨c',a,b,d,_⟩:=Du (i:=⟨9,0,0,0,t.f_,0⟩) hR hV h1 h8 rfl (by simp) (by rw[rw9.1];simp) (fun h=>absurd h (show¬(9:Int)=6 by omega));exact⟨c',a,b,d,fun w hw=>by cases hw⟩
   ·rw[if_neg iA]at hF;simp only[if_neg iA];have hf:bG ⟨6,m.bq.bT,0,0,[],0⟩=true:=fS.oX hF (by simp);have sc:m.bq.bT≠0∧-4096<=m.bq.bT∧m.bq.bT<=4096:=by simpa[dj]using zQ hf (by omega)
    obtain⟨vc,mT⟩:=hV.OA sc.2.2;obtain⟨c',a,b,d,e⟩:=Du (m:=m.bq) (i:=⟨6,m.bq.bT,0,0,[],0⟩) (hR.km rfl) vc h1 h8 rfl (by simp) (by rw[(rw6 hf).1];simp) (fun _=>GW (by simp only;omega));refine⟨c',a,b,d,fun w hw=>?_⟩;simp only[List.mem_singleton]at hw;subst hw;exact⟨e rfl,hn,by have:=MU hn;simp only;omega,ji⟩
theorem Zg(hp:qG ba):∀(l:bH) (q:List (Int×aK)) {m:Em} {c:Ck},eL ba c0 m c->eA pm O K m c->c.args=l.length->c.args<=8->g_ l=true->wY O l->(∀w∈q,AQ O c w)->fS (m.gk q l).1->
 ∃c',eL ba c0 (m.gk q l).1 c'∧eA pm O K (m.gk q l).1 c'∧JI c c'∧(l=[]->c'=c)∧∀w∈(m.gk q l).2,AQ O c' w
 |[],q,m,c,hR,hV,hl,h8,hn,ji,hq,hF=>⟨c,hR,hV,⟨by simpa using hl,rfl,rfl,fun _ h=>h,fun h=>by rw[hl]at h;simp at h⟩,fun _=>rfl,hq⟩
 |t::l,q,m,c,hR,hV,hl,h8,hn,ji,hq,hF=>by
  have uO:c.args=(l.length:Int)+1:=by rw[hl];simp
  simp only[g_,Bool.and_eq_true]at hn;simp only[Em.gk]at hF⊢;obtain⟨c1,r1,v1,a1,g1⟩:=aio hp hR hV (by omega) h8 hn.1 ji.1 (hF.s6 (bS.gk l _ _).1);obtain⟨c2,r2,v2,e2,z2,g2⟩:=Zg hp l (q++(m.gf t).2) r1 v1 (by rw[a1.ua];omega) (by rw[a1.ua];omega) hn.2 ji.2 (fun w hw=>by
   rcases List.mem_append.1 hw with hw|hw
   ·exact(hq w hw).up a1.up
   ·exact g1 w hw) hF
  refine⟨c2,r2,v2,a1.aax (by omega) e2 (fun hz=>z2 ?_),(fun h=>by cases h),g2⟩;rw[a1.ua]at hz;exact List.eq_nil_of_length_eq_zero (by omega)
theorem abf(hp:qG ba):∀(n:Nat) (q:List (Int×aK)) {m:Em} {c:Ck},eL ba c0 m c->eA pm O K m c->c.args=0->c.after=0->(∀w∈q,AQ O c w)->fS (m.lY n q)->
 ∃c',eL ba c0 (m.lY n q) c'∧eA pm O K (m.lY n q) c'∧kT c c'
 |0,q,m,c,hR,hV,h0,ha,hq,hF=>⟨c,hR,hV,.yv c⟩
 |n+1,[],m,c,hR,hV,h0,ha,hq,hF=>⟨c,hR,hV,.yv c⟩
 |n+1,w::q,m,c,hR,hV,h0,ha,hq,hF=>by simp only[Em.lY]at hF⊢;obtain⟨w1,t⟩:=w;obtain⟨k,nn,s,l⟩:=t;simp only[aK.f_,aK.dE]at hF⊢;obtain⟨g1,g2,g3,g4⟩:=hq (w1,.mk k nn s l) (List.mem_cons_self ..);have nw:=hF.s6 (bS.lY n _ _);have Ea:=nw.s6 (bS.gk l _ _).1;have hf:bG ⟨5,0,w1,0,s,l.length⟩=true:=fS.oX Ea (by simp);obtain⟨l1,l2⟩:=agT hf (.inl rfl);simp only[gT,Bool.and_eq_true]at g2;have s1:=avG (c:=c) (i:=⟨5,0,w1,0,s,l.length⟩) (f:=false) rfl h0 (by rw[(rw5 hf).1];simp only[List.mem_singleton,forall_eq];exact g1);obtain⟨c1,r1,v1,e1,_,q1⟩:=Zg hp l q (hR.aE (i:=⟨5,0,w1,0,s,l.length⟩) (by simp) s1) ((hV.up (c':={c with args:=(l.length:Int)}) (fun _ h=>h) rfl).rW (m':=m.aE ⟨5,0,w1,0,s,l.length⟩) rfl rfl rfl rfl) rfl (by simp only;omega) g2.2 g4.2 (fun w hw=>(hq w (List.mem_cons_of_mem _ hw)).up (fun _ h=>h)) nw;obtain⟨f1,f2⟩:=e1.az (by simp only;omega);obtain⟨c2,r2,v2,p2⟩:=abf hp n _ r1 v1 e1.args f1 q1 hF;exact⟨c2,r2,v2,kT.Cw ⟨by rw[e1.args,h0],by rw[f1,ha],e1.aR,e1.bP,e1.up⟩ p2⟩
theorem ak2(hp:qG ba){m:Em}{c:Ck}{a:Int}{t:aK}(hR:eL ba c0 m c)(hV:eA pm O K m c)(h0:c.args=0)(ha:c.after=0)(hd:Dn c a)(hn:gT t=true)(ji:wX O t)(hF:fS (m.mn (a,t))):
 ∃c',eL ba c0 (m.mn (a,t)) c'∧eA pm O K (m.mn (a,t)) c'∧kT c c':=by
 unfold Em.mn at hF⊢;simp only at hF⊢;split
 ·rename_i hk;rw[if_pos hk]at hF;unfold Em.sa at hF⊢;simp only at hF⊢;split
  ·rename_i hc;rw[if_pos hc]at hF;exact awh hR hV (J5 ji hk) h0 hd hF
  ·exact⟨c,hR,hV,.yv c⟩
 ·rename_i hk;rw[if_neg hk]at hF;split
  ·rename_i iM;rw[if_pos iM]at hF;have hf:bG ⟨3,0,a,t.n,[],0⟩=true:=fS.oX hF (by simp);obtain⟨c',r1,v1,p1,_⟩:=Dv (i:=⟨3,0,a,t.n,[],0⟩) hR hV (by simp) h0 (by rw[(rw3 hf).1];simp only[List.mem_singleton,forall_eq];exact hd) (by rw[(rw3 hf).2];simp);exact⟨c',r1,v1,p1⟩
  ·rename_i iM;rw[if_neg iM]at hF;split
   ·rename_i iA;rw[if_pos iA]at hF;have hf:bG ⟨4,0,a,0,t.f_,0⟩=true:=fS.oX hF (by simp);obtain⟨c',r1,v1,p1,_⟩:=Dv (i:=⟨4,0,a,0,t.f_,0⟩) hR hV (by simp) h0 (by rw[(rw4 hf).1];simp only[List.mem_singleton,forall_eq];exact hd) (by rw[(rw4 hf).2];simp);exact⟨c',r1,v1,p1⟩
   ·rename_i iA;rw[if_neg iA]at hF;unfold Em.y' at hF⊢;refine abf hp _ _ hR hV h0 ha (fun w hw=>?_) hF;simp only[List.mem_singleton]at hw;subst hw;exact⟨hd,hn,by have:=MU hn;simp only;omega,ji⟩
theorem abF(hp:qG ba):∀(l:bH) (i:Nat) {m:Em} {c:Ck},eL ba c0 m c->eA pm O K m c->c.args=0->c.after=0->(∀a:Int,(i:Int)<a->a<=(i:Int)+l.length->Dn c a)->g_ l=true->wY O l->fS (Em.fA i m l)->
 ∃c',eL ba c0 (Em.fA i m l) c'∧eA pm O K (Em.fA i m l) c'∧kT c c'
 |[],i,m,c,hR,hV,h0,ha,hd,hn,ji,hF=>⟨c,hR,hV,.yv c⟩
 |t::l,i,m,c,hR,hV,h0,ha,hd,hn,ji,hF=>by
  simp only[g_,Bool.and_eq_true]at hn;simp only[Em.fA]at hF⊢;have bF:((t::l).length:Int)=(l.length:Int)+1:=by simp
  obtain⟨c1,r1,v1,p1⟩:=ak2 hp (a:=((i+1:Nat):Int)) (t:=t) hR hV h0 ha (hd _ (by omega) (by omega)) hn.1 ji.1 (hF.s6 (bS.fA l (i+1) _));obtain⟨c2,r2,v2,p2⟩:=abF hp l (i+1) r1 v1 (by rw[p1.mq];exact h0) (by rw[p1.nO];exact ha) (fun a h1 h2=>p1.up _ (hd a (by omega) (by omega))) hn.2 ji.2 hF;exact⟨c2,r2,v2,p1.Cw p2⟩
theorem abL{m:Em}{c:Ck}{op v:Int}(hR:eL ba c0 m c)(hV:eA pm O K m c)(hv:O v)(h0:c.args=0)(ho:op=22∧c.bP=false∨op=23)(hF:fS (m.jj (op,v))):
 ∃c',eL ba c0 (m.jj (op,v)) c'∧eA pm O K (m.jj (op,v)) c'∧kT c c':=by
 have jY:op=22∨op=23:=ho.elim (fun h=>.inl h.1) .inr;have one:∀{m:Em} {c:Ck} {r:Int},eL ba c0 m c->eA pm O K m c->c.args=0->(op=22∧c.bP=false∨op=23)->bG ⟨op,r,0,0,[],0⟩=true->c.ex r=true->∃c',eL ba c0 (m.aE ⟨op,r,0,0,[],0⟩) c'∧eA pm O K (m.aE ⟨op,r,0,0,[],0⟩) c'∧kT c c'∧Dn c' r:=by
  intro m c r hR hV h0 ho hf hx;rcases ho with⟨rfl,hc⟩|rfl
  ·obtain⟨c',s1,s2,s3⟩:=agP (f:=false) (i:=⟨22,r,0,0,[],0⟩) rfl h0 hc (by rw[(afw hf).1];simp) hx;exact⟨c',hR.aE (by simp) s1,(hV.up s2.up s2.aR).rW rfl rfl rfl rfl,s2,s3⟩
  ·obtain⟨c',r1,v1,p1,d1⟩:=Dv (i:=⟨23,r,0,0,[],0⟩) hR hV (by simp) h0 (by rw[(Fy hf).1];simp) (by rw[(Fy hf).2];simpa using hx);exact⟨c',r1,v1,p1,d1 r (by rw[(Fy hf).2];simp)⟩
 unfold Em.jj at hF⊢;simp only at hF⊢;cases hk:m.ei v with
 |true=>
  rw[hk]at hF;simp only[cond_true]at hF⊢;have jw:bG ⟨2,(m.bq.aE ⟨op,m.bq.bT,0,0,[],0⟩).ej v,m.bq.bT,0,[],0⟩=true:=fS.oX hF (by simp);have nw:=hF.s6 ((bS.eH (m.bq.aE ⟨op,m.bq.bT,0,0,[],0⟩) v).j5 (bS.aE _ (by simp)));have hf:bG ⟨op,m.bq.bT,0,0,[],0⟩=true:=fS.oX nw (by simp only;omega);have sc:m.bq.bT≠0∧-4096<=m.bq.bT∧m.bq.bT<=4096:=by simpa[dj]using zQ hf (by omega)
  obtain⟨vc,mT⟩:=hV.OA sc.2.2;obtain⟨c1,r1,v1,p1,d1⟩:=one (m:=m.bq) (hR.km rfl) vc h0 ho hf (GW (by omega));have iM:(m.bq.aE ⟨op,m.bq.bT,0,0,[],0⟩).ei v=true:=hk;have hd:=v1.zP hv iM;obtain⟨hx,hn⟩:=v1.new hv (zQ jw (by omega));obtain⟨c2,s1,s2,s3⟩:=FD (c:=c1) (i:=⟨2,(m.bq.aE ⟨op,m.bq.bT,0,0,[],0⟩).ej v,m.bq.bT,0,[],0⟩) (f:=false) (by simp) (by rw[p1.mq];exact h0) (fun x hx=>by
   rcases(NB jw).1 x hx with rfl|rfl
   ·exact hd
   ·exact d1) (by rw[(NB jw).2];simp)
  refine⟨c2,(r1.km (m':=(m.bq.aE ⟨op,m.bq.bT,0,0,[],0⟩).eH v) rfl).aE (by simp) s1,?_,p1.Cw s2⟩;have vX:(m.bq.aE ⟨op,m.bq.bT,0,0,[],0⟩).jV v=false:=by
   unfold Em.jV;cases hp:lk v m.a8 with
   |some k=>show((lk v m.a8).isNone&&(lk v m.dZ).isNone)=false;rw[hp];rfl
   |none=>obtain⟨r,h1,_⟩:=hV.BB v hk hv hp;show((lk v m.a8).isNone&&(lk v m.dZ).isNone)=false;rw[h1];simp
  refine(v1.up s2.up s2.aR).rW ?_ ?_ rfl rfl
  ·show(bif (m.bq.aE ⟨op,m.bq.bT,0,0,[],0⟩).jV v then _ else _)=_;rw[vX];rfl
  ·show(bif (m.bq.aE ⟨op,m.bq.bT,0,0,[],0⟩).jV v then _ else _)=_;rw[vX];rfl
 |false=>
  rw[hk]at hF;simp only[cond_false]at hF⊢;have nw:fS ((m.eH v).aE ⟨op,m.ej v,0,0,[],0⟩):=hF;have hf:=nw.oX (by simp only;omega);obtain⟨hx,hn⟩:=hV.new hv (zQ hf (by omega));have hR1:eL ba c0 (m.eH v) c:=hR.km rfl;have:∃c',eJ c ⟨op,m.ej v,0,0,[],0⟩ false false=(true,c')∧kT c c'∧Dn c' (m.ej v):=by
   rcases ho with⟨rfl,hc⟩|rfl
   ·exact agP (f:=false) (i:=⟨22,m.ej v,0,0,[],0⟩) rfl h0 hc (by rw[(afw hf).1];simp) hx
   ·obtain⟨c',s1,s2,s3⟩:=FD (c:=c) (f:=false) (i:=⟨23,m.ej v,0,0,[],0⟩) (by simp) h0 (by rw[(Fy hf).1];simp) (by rw[(Fy hf).2];simpa using hx);exact⟨c',s1,s2,s3 _ (by rw[(Fy hf).2];simp)⟩
  obtain⟨c',s1,s2,s3⟩:=this;exact⟨c',(hR1.aE (by simp only;omega) s1).km rfl,(hn c' s2.up s2.aR s3).rW rfl rfl rfl rfl,s2⟩
theorem aju{m:Em}{c:Ck}{v:Int}(hR:eL ba c0 m c)(hV:eA pm O K m c)(hv:O v)(h0:c.args=0)(hF:fS (m.ml v)):
 ∃c',eL ba c0 (m.ml v) c'∧eA pm O K (m.ml v) c'∧kT c c':=by
 unfold Em.ml at hF⊢;cases hk:m.ei v with
 |false=>simp only[cond_false];exact⟨c,hR,hV,.yv c⟩
 |true=>
  rw[hk]at hF;simp only[cond_true]at hF⊢;have hf:=hF.oX (by simp);have hd:=hV.zP hv hk;obtain⟨c',s1,s2,_⟩:=FD (c:=c) (f:=false) (i:=⟨24,m.ej v,0,0,[],0⟩) (by simp) h0 (by rw[(afx hf).1];simpa using hd) (by rw[(afx hf).2];simp);have vX:m.jV v=false:=by
   unfold Em.jV;cases hp:lk v m.a8 with
   |some k=>rfl
   |none=>obtain⟨r,h1,_⟩:=hV.BB v hk hv hp;rw[h1];rfl
  refine⟨c',(hR.km (m':=m.eH v) rfl).aE (by simp) s1,(hV.up s2.up s2.aR).rW ?_ ?_ rfl rfl,s2⟩
  ·show(bif m.jV v then _ else _)=_;rw[vX];rfl
  ·show(bif m.jV v then _ else _)=_;rw[vX];rfl
end
mutual
def pT(c:Int):aK->List (Int×Int)
 |.mk k n _ l=>if k=0 then[(n,c)]else sv c l
def sv(c:Int):bH->List (Int×Int)
 |[]=>[]
 |t::l=>pT c t++sv c l
end
def pG(c:Int)(g:gH):List (Int×Int):=sv c g.cx++(if oL g then[(g.gE,c)]else[])
def rI:Nat->cY->List (Int×Int)
 |_,[]=>[]
 |c,g::gs=>pG c g++rI (if g.cS=1 then c+1 else c) gs
def pF(f:bg):List (Int×Int):=sv 0 f.aO++rI 0 f.aA
def pM(st:dg)(P:List (Int×Int)):dg:=P.foldl (fun st p=>jm st p.1 p.2) st
theorem K1(st:dg)(P Q:List (Int×Int)):pM st (P++Q)=pM (pM st P) Q:=by simp[pM]
mutual
theorem an6(c:Int):∀(t:aK) (st:dg),lP c st t=pM st (pT c t)
 |.mk k n s l,st=>by
  simp only[lP,pT];split
  ·rfl
  ·exact MX c l st
theorem MX(c:Int):∀(l:bH) (st:dg),gg c st l=pM st (sv c l)
 |[],st=>rfl
 |t::l,st=>by simp only[gg,sv,K1,←an6 c t st,MX c l]
end
theorem an4(c:Int)(st:dg)(g:gH):rG c st g=pM st (pG c g):=by unfold rG pG;rw[K1,←MX];cases oL g<;>rfl
theorem ad1:∀(gs:cY) (c:Nat) (st:dg),rH c st gs=pM st (rI c gs)
 |[],c,st=>rfl
 |g::gs,c,st=>by simp only[rH,rI,K1,←an4,ad1 gs]
theorem adV(f:bg):ik f=pM ([],[]) (pF f):=by unfold ik wm pF;rw[K1,←MX,ad1]
def wV(a b:Int)(P:List (Int×Int)):Prop:=P.Pairwise (fun p q=>p.2<=q.2)∧∀p∈P,a<=p.2∧p.2<=b
theorem wV.uo{a b c:Int}{P Q:List (Int×Int)}(Sj:a<=b)(hbc:b<=c)(hP:wV a b P)(hQ:wV b c Q):wV a c (P++Q):=by
 refine⟨List.pairwise_append.2 ⟨hP.1,hQ.1,fun p hp q hq=>?_⟩,fun p hp=>?_⟩
 ·have:=(hP.2 p hp).2;have:=(hQ.2 q hq).1;omega
 ·rcases List.mem_append.1 hp with hp|hp
  ·have:=hP.2 p hp;omega
  ·have:=hQ.2 p hp;omega
mutual
theorem aoy(c:Int):∀t:aK,wV c c (pT c t)
 |.mk k n s l=>by
  simp only[pT];split
  ·exact⟨by simp,by simp⟩
  ·exact Nc c l
theorem Nc(c:Int):∀l:bH,wV c c (sv c l)
 |[]=>⟨by simp[sv],by simp[sv]⟩
 |t::l=>by simp only[sv];exact(aoy c t).uo (Int.le_refl _) (Int.le_refl _) (Nc c l)
end
theorem aow(c:Int)(g:gH):wV c c (pG c g):=by
 unfold pG;refine(Nc c g.cx).uo (Int.le_refl _) (Int.le_refl _) ?_;split
 ·exact⟨by simp,by simp⟩
 ·exact⟨by simp,by simp⟩
theorem aek:∀(gs:cY) (c:Nat),∃b:Int,(c:Int)<=b∧wV c b (rI c gs)
 |[],c=>⟨c,Int.le_refl _,by simp[rI],by simp[rI]⟩
 |g::gs,c=>by obtain⟨b,h1,h2⟩:=aek gs (if g.cS=1 then c+1 else c);refine⟨b,by split at h1<;>omega,?_⟩;simp only[rI];refine(aow c g).uo (Int.le_refl _) (by split at h1<;>omega) ⟨h2.1,fun p hp=>?_⟩;have:=h2.2 p hp;split at this<;>omega
theorem aej(f:bg):∃b:Int,wV 0 b (pF f):=by obtain⟨b,h1,h2⟩:=aek f.aA 0;exact⟨b,(Nc 0 f.aO).uo (Int.le_refl _) (by simpa using h1) (by simpa using h2)⟩
theorem avo{α:Type}{Q:List α->Prop}(h0:Q [])(h1:∀l x,Q l->Q (l++[x]))(l:List α):Q l:=by
 rw[←List.reverse_reverse l];induction l.reverse with
 |nil=>exact h0
 |cons x l ih=>rw[List.reverse_cons];exact h1 _ _ ih
theorem akQ(st:dg)(P:List (Int×Int))(p:Int×Int):pM st (P++[p])=jm (pM st P) p.1 p.2:=by simp[pM]
theorem UM(P:List (Int×Int)):P.Pairwise (fun p q=>p.2<=q.2)->(∀v j,(v,j)∈P->∃s,lk v (pM ([],[]) P).1=some s∧s.Ak<=j∧j<=s.Cx∧v∈(pM ([],[]) P).2)∧(∀v s,lk v (pM ([],[]) P).1=some s->∃j,(v,j)∈P∧s.Cx=j):=by
 induction P using avo with
 |h0=>exact fun _=>⟨fun v j h=>(by cases h),fun v s h=>(by cases h)⟩
 |h1 P p ih=>
  intro hp;rw[List.pairwise_append]at hp;obtain⟨EG,EH⟩:=ih hp.1;have cI:∀q∈P,q.2<=p.2:=fun q hq=>hp.2.2 q hq p (by simp)
  obtain⟨w,c⟩:=p;rw[akQ];generalize pM ([],[]) P=st at EG EH⊢;simp only at cI⊢;unfold jm;cases hw:lk w st.1 with
  |none=>
   simp only;refine⟨fun v j hm=>?_,fun v s hs=>?_⟩
   ·rcases List.mem_append.1 hm with hm|hm
    ·obtain⟨s,h1,h2,h3,h4⟩:=EG v j hm;have di:v≠w:=by rintro rfl;rw[hw]at h1;cases h1
     exact⟨s,by rw[nC,if_neg di];exact h1,h2,h3,by simp[h4]⟩
    ·simp only[List.mem_singleton,Prod.mk.injEq]at hm;obtain⟨rfl,rfl⟩:=hm;exact⟨_,by rw[nC,if_pos rfl],Int.le_refl _,Int.le_refl _,by simp⟩
   ·rw[nC]at hs;split at hs
    ·rename_i e;cases hs;exact⟨c,by simp[e],rfl⟩
    ·obtain⟨j,h1,h2⟩:=EH v s hs;exact⟨j,by simp[h1],h2⟩
  |some s0=>
   simp only;obtain⟨j0,SS,v7⟩:=EH w s0 hw;obtain⟨s1,g1,g2,g3,g4⟩:=EG w j0 SS;rw[hw]at g1;cases g1;refine⟨fun v j hm=>?_,fun v s hs=>?_⟩
   ·rcases List.mem_append.1 hm with rp|hm
    ·obtain⟨s,h1,h2,h3,h4⟩:=EG v j rp;by_cases di:v=w
     ·subst di;rw[hw]at h1;cases h1;exact⟨⟨s0.Gw,s0.Ak,c⟩,by rw[nC,if_pos rfl],h2,cI (v,j) rp,h4⟩
     ·exact⟨s,by rw[nC,if_neg di];exact h1,h2,h3,h4⟩
    ·simp only[List.mem_singleton,Prod.mk.injEq]at hm;obtain⟨rfl,rfl⟩:=hm;exact⟨⟨s0.Gw,s0.Ak,j⟩,by rw[nC,if_pos rfl],Int.le_trans g2 (cI (v,j0) SS),Int.le_refl _,g4⟩
   ·rw[nC]at hs;split at hs
    ·rename_i e;cases hs;exact⟨c,by simp[e],rfl⟩
    ·obtain⟨j,h1,h2⟩:=EH v s hs;exact⟨j,by simp[h1],h2⟩
theorem an8{f:bg}{v j:Int}(h:(v,j)∈pF f):j<=kS (ik f).1 v:=by obtain⟨b,hm⟩:=aej f;obtain⟨s,h1,h2,h3,h4⟩:=(UM (pF f) hm.1).1 v j h;rw[adV];unfold kS;rw[h1];exact h3
theorem an9{f:bg}{v i j:Int}(h1:(v,i)∈pF f)(h2:(v,j)∈pF f)(mR:i≠j):v∈dV f:=by obtain⟨b,hm⟩:=aej f;obtain⟨s,a1,a2,a3,a4⟩:=(UM (pF f) hm.1).1 v i h1;obtain⟨s',b1,b2,b3,_⟩:=(UM (pF f) hm.1).1 v j h2;rw[a1]at b1;cases b1;unfold dV;rw[(px _ _).uY,List.mem_filter,adV];refine⟨a4,?_⟩;unfold s_ Ib;rw[a1];exact decide_eq_true (by simp only[Option.getD_some];omega)
theorem aoJ(f:bg):dt (kS (ik f).1) (dV f):=(px _ _).1
theorem aeo(v:Int):∀(l:List Int) (i:Nat) (m:List (Int×Int)) (k:Int),i+l.length<1000000->lk v (mG i m l)=some k->lk v m=some k∨∃j,j<l.length∧k=((i+j+1:Nat):Int)∧l.getD j 0=v
 |[],i,m,k,_,h=>.inl h
 |x::l,i,m,k,hb,h=>by
  simp only[mG]at h;simp only[List.length_cons]at hb;rcases aeo v l (i+1) _ k (by omega) h with h|⟨j,h1,h2,h3⟩
  ·rw[nC]at h;split at h
   ·rename_i e;cases h;exact .inr ⟨0,by simp,by simp,by simp[e]⟩
   ·exact .inl h
  ·exact .inr ⟨j+1,by simp;omega,by rw[h2];congr 1;omega,by simpa using h3⟩
theorem aep(v:Int):∀(l:List Int) (i:Nat) (m:List (Int×Int)),(v∈l∨(lk v m).isSome=true)->(lk v (mG i m l)).isSome=true
 |[],i,m,h=>by
  rcases h with h|h
  ·cases h
  ·exact h
 |x::l,i,m,h=>by
  simp only[mG];refine aep v l (i+1) _ ?_;by_cases hx:v=x
  ·right;rw[nC,if_pos hx];rfl
  ·rcases h with h|h
   ·rcases List.mem_cons.1 h with h|h
    ·exact absurd h hx
    ·exact .inl h
   ·right;rw[nC,if_neg hx];exact h
theorem ac6{sp:List (Int×c9)}{c:Int}:∀{l:List Int} {j:Nat},dt (kS sp) l->j<l.length->c<kS sp (l.getD j 0)->j+1<=og sp c l
 |[],j,_,h,_=>by simp at h
 |x::l,0,hd,h,hc=>by simp only[List.getD_cons_zero]at hc;simp only[og];rw[if_pos hc];omega
 |x::l,j+1,hd,h,hc=>by
  have hj:j<l.length:=by simpa using h
  simp only[List.getD_cons_succ]at hc;unfold dt at hd;rw[List.pairwise_cons]at hd;have Es:l.getD j 0∈l:=by rw[List.getD_eq_getElem?_getD,List.getElem?_eq_getElem hj];exact List.getElem_mem hj
  have:=hd.1 _ Es;simp only[og];rw[if_pos (by omega)];have:=ac6 (sp:=sp) (c:=c) (l:=l) (j:=j) hd.2 hj hc;omega
theorem ann(sp:List (Int×c9))(c:Int):∀l:List Int,og sp c l<=l.length
 |[]=>by simp[og]
 |x::l=>by have:=ann sp c l;simp only[og,List.length_cons];split<;>omega
mutual
theorem aox{O:Int->Prop}{c:Int}:∀{t:aK},gT t=true->(∀v,(v,c)∈pT c t->O v)->wX O t
 |.mk k n s l,hn,h=>by
  simp only[gT,Bool.and_eq_true]at hn;simp only[pT]at h;refine⟨fun hk=>?_,?_⟩
  ·rw[if_pos hk]at h;exact h n (by simp)
  ·by_cases hk:k=0
   ·have hl:l=[]:=by have h1:=hn.1;unfold pY at h1;rw[if_pos hk]at h1;simp only[decide_eq_true_eq]at h1;exact List.eq_nil_of_length_eq_zero h1.2.2.2
    subst hl;trivial
   ·rw[if_neg hk]at h;exact Nb hn.2 h
theorem Nb{O:Int->Prop}{c:Int}:∀{l:bH},g_ l=true->(∀v,(v,c)∈sv c l->O v)->wY O l
 |[],_,_=>trivial
 |t::l,hn,h=>by simp only[g_,Bool.and_eq_true]at hn;simp only[sv,List.mem_append]at h;exact⟨aox hn.1 (fun v hv=>h v (.inl hv)),Nb hn.2 (fun v hv=>h v (.inr hv))⟩
end
def F6(ba:cn)(c0:Ck)(m:Em):Prop:=∃S last c1,m.aM=ba++(S++[last])∧sI c0 S=some c1∧(eJ c1 last false true).1=true
theorem eL.done{ba:cn}{c0 c:Ck}{m:Em}(h:eL ba c0 m c){i:a9}(ho:i.op≠10)(hs:(eJ c i false true).1=true):F6 ba c0 (m.aE i):=by
 obtain⟨S,h1,h2,_⟩:=h.run;have e:(m.aE i).aM=m.aM++[i]:=by show gM m.aM i=_;unfold gM;rw[if_neg ho]
 exact⟨S,i,c,by rw[e,h1,List.append_assoc],h2,hs⟩
theorem AP(c:gP)(base:List Int)(aR:Bool):∀(l:cY) (i:Nat) (size:Int) (m:Em) (x:a9),x∈m.aM->x.op≠10->x∈(Em.aA c base aR i size m l).aM
 |[],i,size,m,x,h,ho=>by have:=(bS.cm m aR).j5 (bS.aE (m.cm aR) (i:=⟨21,0,0,0,[],0⟩) (by simp));obtain⟨k,hk,_⟩:=this.tr;show x∈((m.cm aR).aE ⟨21,0,0,0,[],0⟩).aM;rw[hk];exact K2 ho k _ h
 |g::l,i,size,m,x,h,ho=>by
  have use:∀{n:Nat} {m1:Em},bS n m m1->x∈m1.aM:=by intro n m1 hg;obtain⟨k,hk,_⟩:=hg.tr;rw[hk];exact K2 ho k _ h
  have em:∀(m1:Em) (i:a9),x∈m1.aM->x∈(m1.aE i).aM:=fun m1 i hm=>yY hm ho
  unfold Em.aA;split
  ·exact AP c base aR l _ _ _ x (use (bS.jj m _ (by simp))) ho
  ·split
   ·exact AP c base aR l _ _ _ x (use (bS.jj m _ (by simp))) ho
   ·split
    ·exact AP c base aR l _ _ _ x (use (bS.cut m _)) ho
    ·split
     ·exact em _ _ h
     ·split
      ·split
       ·refine em _ _ ?_;exact use ((bS.dW g.cx 0 m).j5 (bS.cm _ aR))
       ·split
        ·refine AP c base aR _ _ _ _ x ?_ ho;exact(show x∈gM (gM (Em.dW 0 m g.cx).aM ⟨17,0,0,c.aU.getD i 0,[],0⟩) ⟨19,0,0,g.ay.aC,g.ay.ca,g.ay.ar⟩from yY (yY (use (bS.dW g.cx 0 m)) ho) ho)
        ·refine AP c base aR _ _ _ _ x ?_ ho;exact(show x∈gM (Em.dW 0 m g.cx).aM ⟨19,0,0,g.ay.aC,g.ay.ca,g.ay.ar⟩from yY (use (bS.dW g.cx 0 m)) ho)
      ·exact AP c base aR l _ _ _ x h ho
theorem fS.aA{c:gP}{base:List Int}{aR:Bool}{l:cY}{i:Nat}{size:Int}{m:Em}(h:fS (Em.aA c base aR i size m l)):fS m:=
 fun x hx ho=>h x (AP c base aR l i size m x hx ho) ho
theorem avh{n:Int}(k:Nat){c c':Ck}(h:c'={c with aR:=n,d:=rP n k 1 c.d}):c'.args=c.args∧c'.after=c.after∧c'.aR=n∧∀x,0<=x∨-x<=n->Dn c x->Dn c' x:=by subst h;exact⟨rfl,rfl,rfl,fun x hx hd=>Wh hx k 1 c.d (by omega) hd⟩
theorem ai5(k:Nat){c c':Ck}(h:c'={c with d:=pc k 1 c.d,bP:=true}):c'.args=c.args∧c'.after=c.after∧c'.aR=c.aR∧∀x,x<=0->Dn c x->Dn c' x:=by subst h;exact⟨rfl,rfl,rfl,fun x hx hd=>QQ hx k 1 c.d (by omega) hd⟩
theorem agw(c:Ck)(n:Int):(c.ko n).args=c.args∧(c.ko n).after=c.after∧(c.ko n).aR=n∧∀x,0<=x∨-x<=n->Dn c x->Dn (c.ko n) x:=avh 4096 (Ck.ko.eq_1 c n)
theorem avD{c:Ck}{i:a9}{f:Bool}(ho:i.op=19)(h0:c.args=0)(hr:∀x∈bo i,Dn c x)(hn:0<=c.aR):∃c',eJ c i f false=(true,c')∧c'.args=c.args∧c'.after=c.after∧c'.aR=c.aR∧∀x,x<=0->Dn c x->Dn c' x:=
 ⟨_,avC ho h0 hr hn,ai5 4096 rfl⟩
section
variable{ba:cn}{c0:Ck}{pm:List (Int×Int)}
structure Yr(O:Int->Int->Prop)(pm:List (Int×Int))(sp:List (Int×c9))(a8:List Int):Prop where
 one:∀v i j,O v i->O v j->lk v pm=none->i=j
 cr:∀v k,lk v pm=some k->∃n:Nat,n<a8.length∧k=(n:Int)+1∧a8.getD n 0=v
 last:∀v j,O v j->j<=kS sp v
 ajy:dt (kS sp) a8
 few:a8.length<=4096
theorem aa7{m:Em}{c:Ck}{aR:Bool}{size:Int}{O K:Int->Prop}(hR:eL ba c0 m c)(hV:eA pm O K m c)(h0:c.args=0)(he:c.aR=if aR=true then size else-1)(hs:0<=size):
 ∃c',eL ba c0 (m.cm aR) c'∧c'.args=0∧c'.aR= -1∧∀r,0<r->Dn c r->Dn c' r:=by
 unfold Em.cm;cases aR with
 |false=>exact⟨c,hR,h0,by rw[he];simp,fun r _ h=>h⟩
 |true=>rw[if_pos rfl]at he;have s1:=avF (c:=c) (i:=⟨18,0,0,0,[],0⟩) (f:=false) rfl h0 (by rw[apS];simp) (by omega);obtain⟨e1,_,e2,e3⟩:=agw c (-1);generalize c.ko (-1)=c' at s1 e1 e2 e3;exact⟨c',hR.aE (i:=⟨18,0,0,0,[],0⟩) (by simp) s1,e1.trans h0,e2,fun r hr hd=>e3 r (.inl (by omega)) hd⟩
theorem G_(hp:qG ba){O:Int->Int->Prop}{sp:List (Int×c9)}{a8:List Int}(gx:Yr O pm sp a8){lX:gP}{base:List Int}{aR:Bool}(sd:∀x∈base,0<=x∧x<=4096):
 ∀(l:cY) (i ch:Nat) (size:Int) (bP:Bool) (left:Int) {m:Em} {c:Ck},eL ba c0 m c->eA pm (fun v=>O v ch) (fun v=>∃j,j<=(ch:Int)∧O v j) m c->c.args=0->c.after=0->(c.aR=if aR=true then size else-1)->0<=size->
  (∀v k j,(ch:Int)<=j->O v j->lk v pm=some k->k<=size)->(bP=false->c.bP=false)->k6 bP left l=true->(aR=false->oI l=false∧pm=[])->
  (∀k,lX.aU.getD (i+k) 0=(pk sp a8 ch l).getD k 0)->(∀v j,(v,j)∈rI ch l->O v j)->fS (Em.aA lX base aR i size m l)->F6 ba c0 (Em.aA lX base aR i size m l)
 |[],i,ch,size,bP,left,m,c,hR,hV,h0,ha,he,hs,cJ,hc,hg,zg,k8,hO,hF=>by obtain⟨c1,r1,a1,e1,_⟩:=aa7 hR hV h0 he hs;show F6 ba c0 ((m.cm aR).aE ⟨21,0,0,0,[],0⟩);refine r1.done (by simp) ?_;rw[agO (.inr rfl) a1 (by rw[apV];simp) (by omega)]
 |g::l,i,ch,size,bP,left,m,c,hR,hV,h0,ha,he,hs,cJ,hc,hg,zg,k8,hO,hF=>by
  simp only[k6,Bool.and_eq_true]at hg;obtain⟨⟨oF,Be⟩,Bf⟩:=hg;have hk:g.cS=1∨g.cS=2∨g.cS=3∨g.cS=4∨g.cS=5:=by
   unfold nT at oF;split at oF
   ·exact .inl (by assumption)
   ·split at oF
    ·exact .inr (.inl (by assumption))
    ·split at oF
     ·rename_i h;rcases h with h|h
      ·exact .inr (.inr (.inl h))
      ·exact .inr (.inr (.inr (.inl h)))
     ·split at oF
      ·exact .inr (.inr (.inr (.inr (by assumption))))
      ·cases oF
  have Tb:g_ g.cx=true:=by
   have:=(qo.1 Be).1;generalize g.cx=al at this⊢;induction al with
   |nil=>rfl
   |cons t al ih=>have h1:=this t (List.mem_cons_self ..);unfold jd at h1;simp only[Bool.and_eq_true]at h1;simp only[g_,Bool.and_eq_true];exact⟨h1.2,ih (fun t ht=>this t (List.mem_cons_of_mem _ ht))⟩
  have kc:∀v,(v,(ch:Int))∈pG ch g->O v ch:=fun v hv=>hO v ch (by simp only[rI,List.mem_append];exact .inl hv)
  have Lv:wY (fun v=>O v ch) g.cx:=Nb (c:=(ch:Int)) Tb (fun v hv=>kc v (by unfold pG;simp[hv]));have SR:oI (g::l)=false->oI l=false:=by
   intro h;cases l with
   |nil=>rfl
   |cons x l=>simp only[oI,Bool.or_eq_false_iff]at h;exact h.2
  have xB:g.cS≠1->(∀k,lX.aU.getD (i+1+k) 0=(pk sp a8 ch l).getD k 0)∧(∀v j,(v,j)∈rI ch l->O v j)∧((bP||g.cS==1)=bP):=by
   intro hn;refine⟨fun k=>?_,fun v j hv=>hO v j ?_,?_⟩
   ·have:=k8 (k+1);rw[show i+1+k=i+(k+1)by omega,this];simp only[pk,if_neg hn,List.getD_cons_succ]
   ·simp only[rI,List.mem_append,if_neg hn];exact .inr hv
   ·have:(g.cS==1)=false:=by simpa using hn
    rw[this,Bool.or_false]
  unfold Em.aA at hF⊢;by_cases h2:g.cS=2
  ·rw[if_pos h2]at hF⊢;obtain⟨n1,n2,n3⟩:=xB (by omega);have alA:bP=false:=by unfold nT at oF;rw[if_neg (by omega),if_pos h2]at oF;simp only[Bool.and_eq_true,Bool.not_eq_true']at oF;exact oF.2
   obtain⟨c1,r1,v1,p1⟩:=abL (op:=22) hR hV (kc g.gE (by unfold pG oL;simp[h2])) h0 (.inl ⟨rfl,hc alA⟩) hF.aA;rw[n3]at Bf;exact G_ hp gx sd l (i+1) ch size bP _ r1 v1 (by rw[p1.mq];exact h0) (by rw[p1.nO];exact ha) (by rw[p1.aR];exact he) hs cJ (fun h=>by rw[p1.bP];exact hc h) Bf (fun h=>⟨SR (zg h).1,(zg h).2⟩) n1 n2 hF
  ·rw[if_neg h2]at hF⊢;by_cases h3:g.cS=3
   ·rw[if_pos h3]at hF⊢;obtain⟨n1,n2,n3⟩:=xB (by omega);obtain⟨c1,r1,v1,p1⟩:=abL (op:=23) hR hV (kc g.gE (by unfold pG oL;simp[h3])) h0 (.inr rfl) hF.aA;rw[n3]at Bf;exact G_ hp gx sd l (i+1) ch size bP _ r1 v1 (by rw[p1.mq];exact h0) (by rw[p1.nO];exact ha) (by rw[p1.aR];exact he) hs cJ (fun h=>by rw[p1.bP];exact hc h) Bf (fun h=>⟨SR (zg h).1,(zg h).2⟩) n1 n2 hF
   ·rw[if_neg h3]at hF⊢;by_cases h4:g.cS=4
    ·rw[if_pos h4]at hF⊢;obtain⟨n1,n2,n3⟩:=xB (by omega);obtain⟨c1,r1,v1,p1⟩:=aju hR hV (kc g.gE (by unfold pG oL;simp[h4])) h0 hF.aA;rw[n3]at Bf;exact G_ hp gx sd l (i+1) ch size bP _ r1 v1 (by rw[p1.mq];exact h0) (by rw[p1.nO];exact ha) (by rw[p1.aR];exact he) hs cJ (fun h=>by rw[p1.bP];exact hc h) Bf (fun h=>⟨SR (zg h).1,(zg h).2⟩) n1 n2 hF
    ·rw[if_neg h4]at hF⊢;by_cases h5:g.cS=5
     ·rw[if_pos h5];refine hR.done (by simp) ?_;rw[avE h0]
     ·rw[if_neg h5]at hF⊢;have h1:g.cS=1:=by omega
      rw[if_pos h1]at hF⊢;have th:(g.cx.length:Int)=g.ay.ar:=by unfold nT at oF;rw[if_pos h1]at oF;simp only[Bool.and_eq_true,decide_eq_true_eq]at oF;exact oF.2.1
      cases l with
      |nil=>simp only at hF⊢;have nw:fS (m.dW 0 g.cx):=hF.s6 ((bS.cm _ aR).j5 (bS.aE _ (by simp)));obtain⟨c1,r1,v1,p1,d1⟩:=Vk hp g.cx 0 hR hV h0 ha Tb Lv nw;obtain⟨c2,r2,a2,e2,d2⟩:=aa7 r1 v1 (by rw[p1.mq];exact h0) (by rw[p1.aR];exact he) hs;refine r2.done (by simp) ?_;rw[agO (.inl rfl) a2 (fun x hx=>?_) (by omega)];have xK:=apU x hx;exact d2 x (by omega) (d1 x (by simp;omega) (by simp;omega))
      |cons g2 l2=>
       simp only at hF⊢;have uL:aR=true:=by
        cases aR with
        |true=>rfl
        |false=>have:=(zg rfl).1;simp only[oI,h1]at this;simp at this
       subst uL;rw[if_pos rfl]at he;have after:∀{m1:Em} {cP c1:Ck} (tO:Int),eL ba c0 m1 c1->eA pm (fun v=>O v ch) (fun v=>∃j,j<=(ch:Int)∧O v j) m1 cP->tO<=cP.aR->(∀x,x<=0->-x<=tO->Dn cP x->Dn c1 x)->c1.args=0->c1.after=0->c1.aR=tO->0<=tO->(∀v k j,((ch+1:Nat):Int)<=j->O v j->lk v pm=some k->k<=tO)->
        (∀a:Int,0<a->a<=g.ay.ar->Dn c1 a)->fS (Em.aA lX base true (i+1) tO ((m1.aE ⟨19,0,0,g.ay.aC,g.ay.ca,g.ay.ar⟩).rO (base.getD (lX.cg.getD i 0+1).toNat 0)) (g2::l2))->
        F6 ba c0 (Em.aA lX base true (i+1) tO ((m1.aE ⟨19,0,0,g.ay.aC,g.ay.ca,g.ay.ar⟩).rO (base.getD (lX.cg.getD i 0+1).toNat 0)) (g2::l2)):=by
        intro m1 cP c1 tO r1 v1 le1 amR a1 af1 e1 s1 Bp d1 nw;obtain⟨c2,st,q0,q1,q2,al5⟩:=avD (c:=c1) (i:=⟨19,0,0,g.ay.aC,g.ay.ca,g.ay.ar⟩) (f:=false) rfl a1 (fun x hx=>by have:=apT x hx;exact d1 x (by omega) this.2) (by omega);rw[a1]at q0;rw[af1]at q1;rw[e1]at q2;have hb:0<=base.getD (lX.cg.getD i 0+1).toNat 0∧base.getD (lX.cg.getD i 0+1).toNat 0<=4096:=by
         rw[List.getD_eq_getElem?_getD];cases hq:base[(lX.cg.getD i 0+1).toNat]? with
         |none=>simp
         |some x=>simp only[Option.getD_some];exact sd x (List.mem_of_getElem? hq)
        have mD:((m1.aE ⟨19,0,0,g.ay.aC,g.ay.ca,g.ay.ar⟩).rO (base.getD (lX.cg.getD i 0+1).toNat 0)).a8=pm:=v1.pe;have TD:eA pm (fun v=>O v ((ch+1:Nat):Int)) (fun v=>∃j,j<=((ch+1:Nat):Int)∧O v j) ((m1.aE ⟨19,0,0,g.ay.aC,g.ay.ca,g.ay.ar⟩).rO (base.getD (lX.cg.getD i 0+1).toNat 0)) c2:=by
         refine⟨mD,fun v hv=>⟨_,Int.le_refl _,hv⟩,hb,v1.tp,fun v hv=>?_,fun v hv ho hpn=>?_,fun v k hv v9 cI=>?_,v1.pos,fun v k ho v9=>?_⟩
         ·obtain⟨j,hj,ho⟩:=v1.kn v hv;exact⟨j,by push_cast;omega,ho⟩
         ·obtain⟨j,hj,pR⟩:=v1.kn v hv;have amh:lk v pm=none:=by rw[←mD];exact hpn
          have:=gx.one v j _ pR ho amh
          push_cast at this
          omega
         ·have mT:=v1.pos v k v9;rw[q2]at cI;exact al5 _ (by omega) (amR _ (by omega) (by omega) (v1.ES v k hv v9 (by omega)))
         ·rw[q2];exact Bp v k _ (Int.le_refl _) ho (by rw[←mD];exact v9)
        refine G_ hp gx sd (g2::l2) (i+1) (ch+1) tO (bP||g.cS==1) _ ((r1.aE (i:=⟨19,0,0,g.ay.aC,g.ay.ca,g.ay.ar⟩) (by simp) st).km rfl) TD q0 q1 (by rw[if_pos rfl];exact q2) s1 Bp (fun h=>?_) Bf (fun h=>by cases h) (fun k=>?_) (fun v j hv=>hO v j ?_) nw
        ·rw[h1]at h;simp at h
        ·have:=k8 (k+1);rw[show i+1+k=i+(k+1)by omega,this];simp only[pk,h1,if_true,List.getD_cons_succ]
        ·simp only[rI,List.mem_append,h1,if_true];simp only[rI,List.mem_append]at hv;exact .inr hv
       have n7:lX.aU.getD i 0=(og sp ch a8:Int):=by have:=k8 0;simp only[pk,h1,if_true,List.getD_cons_zero,Nat.add_zero]at this;exact this
       have Bm:∀v k j,((ch+1:Nat):Int)<=j->O v j->lk v pm=some k->k<=(og sp ch a8:Int):=by intro v k j hj ho v9;obtain⟨n,n1,n2,n3⟩:=gx.cr v k v9;have hl:=gx.last v j ho;have:=ac6 (c:=(ch:Int)) gx.ajy n1 (by rw[n3];push_cast at hj;omega);omega
       have hFp:fS (m.dW 0 g.cx):=by
        split at hF
        ·have hh:=hF.aA;exact fun x hx ho=>hh x (show x∈gM (gM (Em.dW 0 m g.cx).aM ⟨17,0,0,lX.aU.getD i 0,[],0⟩) ⟨19,0,0,g.ay.aC,g.ay.ca,g.ay.ar⟩from yY (yY hx ho) ho) ho
        ·have hh:=hF.aA;exact fun x hx ho=>hh x (show x∈gM (Em.dW 0 m g.cx).aM ⟨19,0,0,g.ay.aC,g.ay.ca,g.ay.ar⟩from yY hx ho) ho
       obtain⟨c1,r1,v1,p1,d1⟩:=Vk hp g.cx 0 hR hV h0 ha Tb Lv hFp;have e1:c1.aR=size:=p1.aR.trans he;split
       ·rename_i aj;rw[if_pos aj]at hF;rw[n7]at aj;have st:=avO (c:=c1) (i:=⟨17,0,0,lX.aU.getD i 0,[],0⟩) (f:=false) rfl (by rw[p1.mq];exact h0) (by rw[apR];simp) (by rw[e1];simp only;omega);obtain⟨q0,q1,q2,q3⟩:=agw c1 (lX.aU.getD i 0);have kN:eJ c1 ⟨17,0,0,lX.aU.getD i 0,[],0⟩ false false=(true,c1.ko (lX.aU.getD i 0)):=st;generalize c1.ko (lX.aU.getD i 0)=c2 at kN q0 q1 q2 q3;exact after (lX.aU.getD i 0) (r1.aE (i:=⟨17,0,0,lX.aU.getD i 0,[],0⟩) (by simp) kN) (v1.rW (m':=(Em.dW 0 m g.cx).aE ⟨17,0,0,lX.aU.getD i 0,[],0⟩) rfl rfl rfl rfl) (by rw[e1,n7];omega) (fun x _ hx hd=>q3 x (.inr hx) hd) (by rw[q0,p1.mq];exact h0) (by rw[q1,p1.nO];exact ha) q2 (by rw[n7];omega) (fun v k j hj ho v9=>by rw[n7];exact Bm v k j hj ho v9) (fun a g1 g2=>q3 a (.inl (by omega)) (d1 a (by simpa using g1) (by simp;omega))) hF
       ·rename_i aj;rw[if_neg aj]at hF;exact after size r1 v1 (by rw[e1];exact Int.le_refl _) (fun x _ _ hd=>hd) (by rw[p1.mq];exact h0) (by rw[p1.nO];exact ha) e1 hs (fun v k j hj ho v9=>cJ v k j (by push_cast at hj;omega) ho v9) (fun a g1 g2=>d1 a (by simpa using g1) (by simp;omega)) hF
end
theorem Y9{x:Int}:∀{n:Nat},1<=x->x<=n->iL (pE n) x=true
 |0,h1,h2=>by simp at h2;omega
 |n+1,h1,h2=>by
  rw[nW];by_cases h:x=(n:Int)+1
  ·exact⟨((n:Int)+1,n),by simp[pE],h.symm⟩
  ·obtain⟨p,q1,q2⟩:=nW.1 (Y9 (x:=x) (n:=n) h1 (by omega));exact⟨p,by simp[pE,q1],q2⟩
theorem QA:∀(gs:cY) (d:List Int) (c:Int),(∀x∈d,0<=x∧x<=4096)->0<=c->c<=4096->(∀g∈gs,g.cS=1->(g.cx.length:Int)<=4096)->∀x∈kA d c gs,0<=x∧x<=4096
 |[],d,c,hd,h0,h1,hg,x,hx=>by
  simp only[kA,List.mem_append,List.mem_singleton]at hx;rcases hx with hx|rfl
  ·exact hd x hx
  ·exact⟨h0,h1⟩
 |g::gs,d,c,hd,h0,h1,hg,x,hx=>by
  simp only[kA]at hx;split at hx
  ·rename_i hk;have:=hg g (List.mem_cons_self ..) hk;refine QA gs _ 0 (fun y hy=>?_) (Int.le_refl _) (by omega) (fun g' SK=>hg g' (List.mem_cons_of_mem _ SK)) x hx;simp only[List.mem_append,List.mem_singleton]at hy;rcases hy with hy|rfl
   ·exact hd y hy
   ·omega
  ·exact QA gs d c hd h0 h1 (fun g' SK=>hg g' (List.mem_cons_of_mem _ SK)) x hx
theorem abj:∀{l:cY} {bP:Bool} {left:Int},k6 bP left l=true->∀g∈l,g.cS=1->(g.cx.length:Int)=g.ay.ar∧hU g.ay=true
 |[],_,_,_,g,hg,_=>by cases hg
 |x::l,bP,left,h,g,hg,hk=>by
  simp only[k6,Bool.and_eq_true]at h;rcases List.mem_cons.1 hg with rfl|hg
  ·have h1:=h.1.1;unfold nT at h1;rw[if_pos hk]at h1;simp only[Bool.and_eq_true,decide_eq_true_eq]at h1;exact⟨h1.2.1,h1.1⟩
  ·exact abj h.2 g hg hk
theorem On{g:bg}(h:ez g=true):hU g.ay=true∧(g.aO.length:Int)=g.ay.ar∧g_ g.aO=true∧k6 false (131072-bA g.aO) g.aA=true:=by
 unfold ez at h;simp only[Bool.and_eq_true,decide_eq_true_eq]at h;refine⟨h.1.1.1,h.1.1.2,?_,h.2⟩;have:=(qo.1 h.1.2).1;generalize g.aO=al at this⊢;induction al with
 |nil=>rfl
 |cons t al ih=>have h1:=this t (List.mem_cons_self ..);unfold jd at h1;simp only[Bool.and_eq_true]at h1;simp only[g_,Bool.and_eq_true];exact⟨h1.2,ih (fun t ht=>this t (List.mem_cons_of_mem _ ht))⟩
theorem aiF{g:bg}(h:ez g=true):∀x∈ep g,0<=x∧x<=4096:=by obtain⟨h1,h2,h3,h4⟩:=On h;have:=Fo h1;refine QA g.aA [] _ (by simp) (by omega) (by omega) (fun x hx hk=>?_);obtain⟨q1,q2⟩:=abj h4 x hx hk;have:=Fo q2;omega
def s8(g:bg):Ck:=if iY g (dc g)=true then{pb g.ay with aR:=((dV g).length:Int)}else pb g.ay
def wu(g:bg):cn:=if iY g (dc g)=true then[⟨16,0,0,((dV g).length:Int),[],0⟩]else[]
theorem aov{g:bg}{v:Int}(h:(v,0)∈sv 0 g.aO):(v,0)∈pF g:=by unfold pF;simp[h]
theorem aad{g:bg}(h:ez g=true)(hp:(dV g).length<=4096)(hF:fS (fO g)):F6 (wu g) (s8 g) (fO g):=by
 obtain⟨h1,h2,h3,h4⟩:=On h;have th:=Fo h1;have HL:qG (wu g):=by
  intro j hj;unfold wu at hj;split at hj
  ·simp only[List.getLast?_singleton,Option.some.injEq]at hj;subst hj;simp
  ·cases hj
 have Ew:∀v k,lk v (mG 0 [] (dV g))=some k->∃n:Nat,n<(dV g).length∧k=(n:Int)+1∧(dV g).getD n 0=v:=by
  intro v k hk;rcases aeo v (dV g) 0 [] k (by omega) hk with hk|⟨j,q1,q2,q3⟩
  ·cases hk
  ·exact⟨j,q1,by rw[q2];push_cast;omega,q3⟩
 have gx:Yr (fun v j=>(v,j)∈pF g) (mG 0 [] (dV g)) (ik g).1 (dV g):=by refine⟨fun v i j hi hj hn=>?_,Ew,fun v j hj=>an8 hj,aoJ g,hp⟩;apply Classical.byContradiction;intro mR;have:=aep v (dV g) 0 [] (.inl (an9 hi hj mR));rw[hn]at this;cases this
 have sf:(gQ g).aM=wu g:=by unfold gQ wu;cases iY g (dc g)<;>rfl
 have pP:(s8 g).args=0∧(s8 g).after=0∧(s8 g).bP=false∧(s8 g).aR=(if iY g (dc g)=true then((dV g).length:Int)else-1)∧(s8 g).d=pE g.ay.ar.toNat:=by unfold s8;split<;>exact⟨rfl,rfl,rfl,rfl,rfl⟩
 obtain⟨k1,k2,k3,k4,k5⟩:=pP;have hR:eL (wu g) (s8 g) (gQ g) (s8 g):=⟨[],by rw[sf,List.append_nil],rfl,fun D j hD _=>by simp at hD⟩;have sd:=aiF h;have nX:0<=(ep g).getD 0 0∧(ep g).getD 0 0<=4096:=by
  rw[List.getD_eq_getElem?_getD];cases hq:(ep g)[0]? with
  |none=>simp
  |some x=>simp only[Option.getD_some];exact sd x (List.mem_of_getElem? hq)
 have uL:iY g (dc g)=false->oI g.aA=false∧mG 0 [] (dV g)=[]:=by intro he;unfold iY at he;simp only[Bool.or_eq_false_iff,decide_eq_false_iff_not]at he;have:dV g=[]:=List.eq_nil_of_length_eq_zero (by have:=he.2;simp only[dc]at this;omega);rw[this];exact⟨he.1,rfl⟩
 have alS:(gQ g).a8=mG 0 [] (dV g)∧(gQ g).dZ=[]∧(gQ g).du=[]∧(gQ g).bT=(ep g).getD 0 0∧(gQ g).f=g:=by unfold gQ;cases iY g (dc g)<;>exact⟨rfl,rfl,rfl,rfl,rfl⟩
 obtain⟨f1,f2,f3,f4,f5⟩:=alS;have rm:∀v,(gQ g).ei v=false:=fun v=>by unfold Em.ei;rw[f3];rfl
 have hV:eA (mG 0 [] (dV g)) (fun v=>(v,((0:Nat):Int))∈pF g) (fun v=>∃j,j<=((0:Nat):Int)∧(v,j)∈pF g) (gQ g) (s8 g):=by
  refine⟨f1,fun v hv=>⟨_,Int.le_refl _,hv⟩,by rw[f4];exact nX,fun v r hr=>(by rw[f2]at hr;cases hr),fun v hv=>(by rw[rm]at hv;cases hv),fun v hv=>(by rw[rm]at hv;cases hv),fun v k hv=>(by rw[rm]at hv;cases hv),fun v k hk=>?_,fun v k _ hk=>?_⟩
  ·rw[f1]at hk;obtain⟨n,q1,q2,_⟩:=Ew v k hk;omega
  ·rw[f1]at hk;obtain⟨n,q1,q2,_⟩:=Ew v k hk;rw[k4];cases he:iY g (dc g)with
   |true=>rw[if_pos rfl];omega
   |false=>rw[(uL he).2]at hk;cases hk
 have hFh:fS ((gQ g).fA 0 g.aO):=by have lG:=hF;unfold fO at lG;rw[f5]at lG;exact lG.aA
 obtain⟨c1,r1,v1,p1⟩:=abF HL g.aO 0 hR hV k1 k2 (fun a q1 q2=>by unfold Dn;rw[k5];exact Y9 (by simp at q1;omega) (by simp at q2;omega)) h3 (Nb (c:=0) h3 (fun v hv=>aov hv)) hFh;have jw:((gQ g).fA 0 g.aO).f=g:=(bS.fA g.aO 0 (gQ g)).f.trans f5;unfold fO at hF⊢;rw[f5,jw]at hF⊢;refine G_ HL gx sd g.aA 0 0 _ false _ r1 v1 (by rw[p1.mq];exact k1) (by rw[p1.nO];exact k2) (by rw[p1.aR];exact k4) (by omega) (fun v k j _ _ hk=>?_) (fun _=>by rw[p1.bP];exact k3) h4 uL (fun k=>by rw[Nat.zero_add];rfl) (fun v j hv=>by unfold pF;simp[hv]) hF;obtain⟨n,q1,q2,_⟩:=Ew v k hk;omega
theorem UG:∀(n:Nat) (b:Int) (l:List Int),l.Nodup->(∀x∈l,b<x∧x<=b+n)->l.length<=n
 |0,b,l,hn,h=>by
  cases l with
  |nil=>simp
  |cons x l=>have:=h x (List.mem_cons_self ..);simp at this;omega
 |n+1,b,l,hn,h=>by
  by_cases hm:b+(n+1:Nat)∈l
  ·have h1:=UG n b (l.erase (b+(n+1:Nat))) (hn.erase _) (fun x hx=>by
    have h2:=List.mem_of_mem_erase hx;have h3:=h x h2;have h4:x≠b+(n+1:Nat):=by rintro rfl;exact(hn.mem_erase_iff.1 hx).1 rfl
    push_cast at*
    omega)
   rw[List.length_erase_of_mem hm]at h1;omega
  ·have:=UG n b l hn (fun x hx=>by
    have h3:=h x hx;have h4:x≠b+(n+1:Nat):=by rintro rfl;exact hm hx
    push_cast at*
    omega)
   omega
structure Aw(base:Int)(s:Nu):Prop where
 ok:s.ok base
 wy:∀t∈s.ts,base<t.x∧t.x<=4096
 nd:(s.ts.map (·.x)).Nodup
 eQ:∀t∈s.ts,du s.eQ t.x=true
theorem anY{base:Int}{last:List (Int×Int)}{k:Int}{ws:List Int}{s:Nu}{w:Int}(h:Aw base s)(hw:w<=4096):Aw base (s.gG base last k ws w):=by
 have h0:=(Nu.IY (last:=last) (k:=k) (ws:=ws) (w:=w) h.ok).1;unfold Nu.gG at h0⊢;split
 ·exact h
 ·rename_i hn;rw[if_neg hn]at h0;have hb:base<w:=by apply Classical.byContradiction;intro hh;exact hn (.inl (by omega))
  have hk:¬du s.eQ w=true:=fun hh=>hn (.inr hh)
  refine⟨h0,fun t ht=>?_,?_,fun t ht=>?_⟩
  ·simp only[List.mem_append,List.mem_singleton]at ht;rcases ht with ht|rfl
   ·exact h.wy t ht
   ·exact⟨hb,hw⟩
  ·simp only[List.map_append,List.map_cons,List.map_nil];refine List.nodup_append.2 ⟨h.nd,by simp,fun a ha x hx=>?_⟩;simp only[List.mem_singleton]at hx;subst hx;rintro rfl;obtain⟨t,h1,h2⟩:=List.mem_map.1 ha;exact hk (by rw[←h2];exact h.eQ t h1)
  ·simp only[List.mem_append,List.mem_singleton]at ht;rw[T4];rcases ht with ht|rfl
   ·exact .inr (h.eQ t ht)
   ·exact .inl rfl
theorem adN{base:Int}{last:List (Int×Int)}{k:Int}{ws:List Int}:∀(l:List Int) {s:Nu},Aw base s->(∀w∈l,w<=4096)->Aw base (l.foldl (Nu.gG base last k ws) s)
 |[],s,h,_=>h
 |w::l,s,h,hw=>adN l (anY h (hw w (List.mem_cons_self ..))) (fun x hx=>hw x (List.mem_cons_of_mem _ hx))
theorem adO{base:Int}{last:List (Int×Int)}:∀(l:cn) (k:Nat) {s:Nu},Aw base s->(∀i∈l,bG i=true)->Aw base (Nu.oY base last k s l)
 |[],k,s,h,_=>h
 |i::l,k,s,h,hf=>adO l (k+1) (adN (bj i) h (fun w hw=>by have:=(Ov (hf i (List.mem_cons_self ..))).1 w hw;unfold fU at this;omega)) (fun j hj=>hf j (List.mem_cons_of_mem _ hj))
theorem UH(x:Int):∀ts:List Tm,(∃t∈ts,t.x=x∧qH ts x=t.cr)∨((∀t∈ts,t.x≠x)∧qH ts x=x)
 |[]=>.inr ⟨fun t ht=>(by cases ht),rfl⟩
 |t::ts=>by
  unfold qH;by_cases h:t.x=x
  ·rw[if_pos h];exact .inl ⟨t,List.mem_cons_self ..,h,rfl⟩
  ·rw[if_neg h];rcases UH x ts with⟨u,h1,h2,h3⟩|⟨h1,h2⟩
   ·exact .inl ⟨u,List.mem_cons_of_mem _ h1,h2,h3⟩
   ·refine .inr ⟨fun u hu=>?_,h2⟩;rcases List.mem_cons.1 hu with rfl|hu
    ·exact h
    ·exact h1 u hu
theorem an1{l:cn}{base:Int}(h0:0<=base)(h1:base<=4096)(hf:∀i∈l,bG i=true):pD base (qH (oi l base)):=by
 have hk:Aw base (Nu.oY base (fw 0 [] l) 0 ⟨[],[]⟩ l):=adO l 0 ⟨fun t ht=>(by cases ht),fun t ht=>(by cases ht),by simp,fun t ht=>(by cases ht)⟩ hf;have bF:(oi l base).length<=(4096-base).toNat:=by have:=UG (4096-base).toNat base ((oi l base).map (·.x)) hk.nd (fun x hx=>by obtain⟨t,h2,h3⟩:=List.mem_map.1 hx;have:=hk.wy t h2;rw[←h3];omega);simpa using this
 refine⟨h0,fun x hx=>?_,fun x hx xL=>?_⟩
 ·rcases UH x (oi l base)with⟨t,h2,h3,h4⟩|⟨_,h2⟩
  ·have:=hk.wy t h2;omega
  ·exact h2
 ·rcases UH x (oi l base)with⟨t,h2,h3,h4⟩|⟨_,h2⟩
  ·have h5:=hk.ok t h2;have h6:(Nu.oY base (fw 0 [] l) 0 ⟨[],[]⟩ l).ts.length=(oi l base).length:=rfl;rw[h4];omega
  ·rw[h2];exact⟨hx,xL⟩
theorem ahc{base:Int}:∀{l:cn} {wr:List (Int×Bool)},pA base wr l=true->∀i∈l,bG i=true∧((i.op=19∨i.op=20)->i.ar<=base)
 |[],_,_,i,hi=>by cases hi
 |x::l,wr,h,i,hi=>by
  unfold pA at h;split at h
  ·cases h
  ·rename_i h1;split at h
   ·cases h
   ·rcases List.mem_cons.1 hi with rfl|hi
    ·refine⟨?_,fun ho=>?_⟩
     ·cases hq:bG i with
      |true=>rfl
      |false=>exact absurd (.inl hq) h1
     ·apply Classical.byContradiction;intro hn;exact h1 (.inr ⟨ho,by omega⟩)
    ·exact ahc h i hi
theorem Zk{l:cn}{base:Int}(hl:l.length<60000)(h:(eD l base).2=0):∃ρ,pD base ρ∧(eD l base).1=l.map (fZ ρ)∧∀i∈l,bG i=true∧((i.op=19∨i.op=20)->i.ar<=base):=by
 rw[aix hl]at h⊢;unfold vw at h⊢;cases hv:kq l base with
 |false=>rw[hv]at h;simp at h
 |true=>
  unfold kq at hv;split at hv
  ·cases hv
  ·rename_i hb;have hf:=ahc hv;exact⟨_,an1 (by omega) (by omega) (fun i hi=>(hf i hi).1),rfl,hf⟩
def iO(n:Nat):Nat->Ck->cn->Option Ck
 |_,c,[]=>some c
 |k,c,x::l=>if(eJ c x (decide (k=0)) (decide (k+1=n))).1=true then iO n (k+1) (eJ c x (decide (k=0)) (decide (k+1=n))).2 l else none
theorem afm{n:Nat}:∀{l:cn} {k:Nat} {c:Ck},(iO n k c l).isSome=true->zY n k c l=true
 |[],k,c,h=>rfl
 |x::l,k,c,h=>by
  unfold iO at h;unfold zY;split at h
  ·rename_i hx;rw[if_pos hx];exact afm h
  ·cases h
theorem Ce{n:Nat}:∀{a b:cn} {k:Nat} {c c1:Ck},iO n k c a=some c1->iO n k c (a++b)=iO n (k+a.length) c1 b
 |[],b,k,c,c1,h=>by cases h;rfl
 |x::a,b,k,c,c1,h=>by
  simp only[iO,List.cons_append,List.length_cons]at h⊢;split at h
  ·rename_i hx;rw[if_pos hx,Ce h];congr 1;omega
  ·cases h
theorem VQ{n:Nat}:∀{a b:cn} {k:Nat} {c c2:Ck},iO n k c (a++b)=some c2->∃c1,iO n k c a=some c1∧iO n (k+a.length) c1 b=some c2
 |[],b,k,c,c2,h=>⟨c,rfl,h⟩
 |x::a,b,k,c,c2,h=>by
  simp only[iO,List.cons_append,List.length_cons]at h⊢;split at h
  ·rename_i hx;obtain⟨c1,h1,h2⟩:=VQ h;refine⟨c1,by rw[if_pos hx];exact h1,?_⟩;rw[show k+(a.length+1)=k+1+a.length by omega];exact h2
  ·cases h
theorem Wu{c:Ck}{i:a9}{f la:Bool}(h:(eJ c i f la).1=true):eJ c i f la=(true,(eJ c i f la).2):=by rw[←h]
theorem af2{n:Nat}{b:Int}{ρ:Int->Int}(dU:pD b ρ):∀{T:cn} {k:Nat} {c c' c1:Ck},iO n k c T=some c1->ni ρ c c'->o6 c->(∀i∈T,bG i=true∧((i.op=19∨i.op=20)->i.ar<=b))->(∀i∈T,i.op≠19)->
 ∃nq,iO n k c' (T.map (fZ ρ))=some nq∧ni ρ c1 nq∧o6 c1
 |[],k,c,c',c1,h,hR,hI,_,_=>by cases h;exact⟨c',rfl,hR,hI⟩
 |x::T,k,c,c',c1,h,hR,hI,hf,ho=>by
  simp only[iO]at h;split at h
  ·rename_i hx;have Bd:=hf x (List.mem_cons_self ..);obtain⟨d',e1,e2,e3⟩:=agR dU hR hI Bd.1 Bd.2 (ho x (List.mem_cons_self ..)) (Wu hx);obtain⟨nq,g1,g2,g3⟩:=af2 dU (k:=k+1) h e2 e3 (fun i hi=>hf i (List.mem_cons_of_mem _ hi)) (fun i hi=>ho i (List.mem_cons_of_mem _ hi));refine⟨nq,?_,g2,g3⟩;simp only[List.map_cons,iO,e1,if_true];exact g1
  ·cases h
theorem J9{code:cn}{base:List Int}(bF:code.length<60000){cB cE:Ck}(HG:iO code.length 0 cB code=some cE):
 ∀(rest:cn) (i fr part:Nat) (l r:cn),rest=code.drop i->i<=code.length->fr<=i->(fr=i∨i<code.length)->l.length=fr->(∀x∈(code.drop fr).take (i-fr),x.op≠19)->(∀x∈l,bG x=true)->
  (∃cv cp,iO code.length 0 cB (code.take fr)=some cv∧iO code.length 0 cB l=some cp∧(rest≠[]->o6 cv∧∀ρ,pD (base.getD part 0) ρ->ni ρ cv cp))->
  pH code base i fr part l rest=(r,0)->(∃c,iO code.length 0 cB r=some c)∧r.length=code.length∧∀x∈r,bG x=true
 |[],i,fr,part,l,r,qA,hi,jx,lZ,d_,h6,rk,⟨cv,cp,g1,g2,g3⟩,h=>by
  have:code.length<=i:=List.drop_eq_nil_iff.1 qA.symm;have hfi:fr=i:=lZ.elim id fun h=>by omega
  simp only[pH,Prod.mk.injEq,and_true]at h;subst h;exact⟨⟨cp,g2⟩,by omega,rk⟩
 |x::rest,i,fr,part,l,r,qA,hi,jx,lZ,d_,h6,rk,⟨cv,cp,g1,g2,g3⟩,h=>by
  have aj:i<code.length:=by apply Classical.byContradiction;intro hn;rw[List.drop_eq_nil_of_le (by omega)]at qA;cases qA
  have hx:code[i]=x∧code.drop (i+1)=rest:=by
   rw[List.drop_eq_getElem_cons aj]at qA;injection qA with h1 h2
   exact⟨h1.symm,h2.symm⟩
  have hT:(code.drop fr).take (i+1-fr)=(code.drop fr).take (i-fr)++[x]:=by rw[show i+1-fr=(i-fr)+1 by omega,List.take_add_one];congr 1;rw[List.getElem?_drop,show fr+(i-fr)=i by omega,List.getElem?_eq_getElem aj,hx.1];rfl
  simp only[pH]at h;split at h
  ·rename_i hc;refine J9 bF HG rest (i+1) fr part l r hx.2.symm aj (by omega) (.inr hc.2) d_ (fun y hy=>?_) rk ⟨cv,cp,g1,g2,fun _=>g3 (by simp)⟩ h;rw[hT]at hy;rcases List.mem_append.1 hy with hy|hy
   ·exact h6 y hy
   ·simp only[List.mem_singleton]at hy;subst hy;exact hc.1
  ·rename_i hc;split at h
   ·rename_i he;simp only[Prod.mk.injEq]at h;exact absurd h.2 he
   ·rename_i he;have he:(eD ((code.drop fr).take (i+1-fr)) (base.getD part 0)).2=0:=by apply Classical.byContradiction;exact he
    have hTl:((code.drop fr).take (i+1-fr)).length=i+1-fr:=by rw[List.length_take,List.length_drop];omega
    obtain⟨ρ,dU,dM,tl⟩:=Zk (by rw[hTl];omega) he;obtain⟨q1,q2⟩:=g3 (by simp);have alq:=q2 ρ dU;have amp:code=code.take fr++((code.drop fr).take (i-fr)++([x]++rest)):=by
     conv=>lhs;rw[←List.take_append_drop fr code]
     congr 1;conv=>lhs;rw[←List.take_append_drop (i+1-fr) (code.drop fr)]
     rw[hT,List.append_assoc];congr 2;rw[List.drop_drop,show fr+(i+1-fr)=i+1 by omega,hx.2]
    have axV:=HG;have hn:∀n,n=code.length->iO n 0 cB (code.take fr++((code.drop fr).take (i-fr)++([x]++rest)))=some cE:=by rintro n rfl;rw[←amp];exact HG
    have SJ:=hn _ rfl;rw[Ce g1]at SJ;have abO:(code.take fr).length=fr:=by rw[List.length_take];omega
    rw[abO,Nat.zero_add]at SJ;obtain⟨c1,v1,v2⟩:=VQ SJ;have Lq:((code.drop fr).take (i-fr)).length=i-fr:=by rw[List.length_take,List.length_drop];omega
    rw[Lq,show fr+(i-fr)=i by omega]at v2;rw[hT]at tl dM;have Bd:=tl x (by simp);obtain⟨nq,w1,w2,w3⟩:=af2 dU v1 alq q1 (fun y hy=>tl y (by simp[hy])) h6;obtain⟨c2,v3,v4⟩:=VQ v2;simp only[iO]at v3;split at v3
    ·rename_i Tw;cases v3;have ab3:∀{yO:Ck},eJ nq (fZ ρ x) (decide (i=0)) (decide (i+1=code.length))=(true,yO)->iO code.length 0 cB (l++(eD ((code.drop fr).take (i+1-fr)) (base.getD part 0)).1)=some yO:=by intro yO hs;rw[hT,dM,Ce g2,d_,Nat.zero_add,List.map_append,Ce w1,List.length_map,Lq,show fr+(i-fr)=i by omega];simp only[List.map_cons,List.map_nil,iO,hs,if_true]
     have aci:iO code.length 0 cB (code.take (i+1))=some (eJ c1 x (decide (i=0)) (decide (i+1=code.length))).2:=by
      have e:code.take (i+1)=code.take fr++((code.drop fr).take (i-fr)++[x]):=by rw[←hT,show i+1=fr+(i+1-fr)by omega,List.take_add,show fr+(i+1-fr)-fr=i+1-fr by omega]
      rw[e,Ce g1,abO,Nat.zero_add,Ce v1,Lq,show fr+(i-fr)=i by omega];simp only[iO];rw[if_pos Tw]
     have Bk:(l++(eD ((code.drop fr).take (i+1-fr)) (base.getD part 0)).1).length=i+1:=by rw[hT,dM,List.length_append,List.length_map,List.length_append,Lq,d_];simp;omega
     have abM:∀y∈l++(eD ((code.drop fr).take (i+1-fr)) (base.getD part 0)).1,bG y=true:=by
      intro y hy;rcases List.mem_append.1 hy with hy|hy
      ·exact rk y hy
      ·rw[hT,dM]at hy;obtain⟨z,hz,rfl⟩:=List.mem_map.1 hy;exact aa5 dU (tl z hz).1
     by_cases Lj:x.op=19
     ·obtain⟨yO,s1,s2,s3⟩:=aiT dU w2 w3 Bd.1 (Bd.2 (.inl Lj)) Lj (Wu Tw);exact J9 bF HG rest (i+1) (i+1) (part+1) _ r hx.2.symm aj (Nat.le_refl _) (.inl rfl) Bk (fun y hy=>by simp at hy) abM ⟨_,yO,aci,ab3 s1,fun _=>⟨s3,fun Aj h2=>s2 h2⟩⟩ h
     ·have alP:rest=[]:=by
       have:¬i+1<code.length:=fun hh=>hc ⟨Lj,hh⟩
       rw[←hx.2];exact List.drop_eq_nil_of_le (by omega)
      obtain⟨yO,s1,s2,s3⟩:=agR dU w2 w3 Bd.1 Bd.2 Lj (Wu Tw);exact J9 bF HG rest (i+1) (i+1) (part+1) _ r hx.2.symm aj (Nat.le_refl _) (.inl rfl) Bk (fun y hy=>by simp at hy) abM ⟨_,yO,aci,ab3 s1,fun di=>absurd alP di⟩ h
    ·cases v3
theorem Qp{code:cn}{base:List Int}(bF:code.length<60000):∀(rest:cn) (i fr part:Nat) (l r:cn),rest=code.drop i->i<=code.length->fr<=i->(fr=i∨i<code.length)->pH code base i fr part l rest=(r,0)->∀x∈code.drop fr,bG x=true
 |[],i,fr,part,l,r,qA,hi,jx,lZ,h=>by
  have:code.length<=i:=List.drop_eq_nil_iff.1 qA.symm;have hfi:fr=i:=lZ.elim id fun h=>by omega
  rw[List.drop_eq_nil_of_le (by omega)];intro x hx;cases hx
 |x::rest,i,fr,part,l,r,qA,hi,jx,lZ,h=>by
  have aj:i<code.length:=by apply Classical.byContradiction;intro hn;rw[List.drop_eq_nil_of_le (by omega)]at qA;cases qA
  have hx:code.drop (i+1)=rest:=by
   rw[List.drop_eq_getElem_cons aj]at qA;injection qA with h1 h2
   exact h2.symm
  simp only[pH]at h;split at h
  ·rename_i hc;exact Qp bF rest (i+1) fr part l r hx.symm aj (by omega) (.inr hc.2) h
  ·split at h
   ·rename_i he;simp only[Prod.mk.injEq]at h;exact absurd h.2 he
   ·rename_i he;have he:(eD ((code.drop fr).take (i+1-fr)) (base.getD part 0)).2=0:=by apply Classical.byContradiction;exact he
    obtain⟨ρ,dU,dM,tl⟩:=Zk (by rw[List.length_take,List.length_drop];omega) he;have ih:=Qp bF rest (i+1) (i+1) (part+1) _ r hx.symm aj (Nat.le_refl _) (.inl rfl) h;intro y hy;rw[←List.take_append_drop (i+1-fr) (code.drop fr)]at hy;rcases List.mem_append.1 hy with hy|hy
    ·exact(tl y hy).1
    ·rw[List.drop_drop,show fr+(i+1-fr)=i+1 by omega]at hy;exact ih y hy
theorem agI{c:Ck}{x:a9}{la:Bool}(h:(eJ c x false la).1=true):eJ c x true la=eJ c x false la:=by
 by_cases xn:x.op=16
 ·exfalso;unfold eJ at h;split at h
  ·split at h
   ·unfold sK at h;rw[if_neg (by rw[xn];decide)]at h;split at h
    ·unfold nL at h;rw[if_neg (by omega),if_neg (by omega),if_pos xn]at h;cases h
    ·cases h
   ·cases h
  ·cases h
 ·have hT:nL c x true=nL c x false:=by
   unfold nL;split
   ·rfl
   ·split
    ·rfl
    ·first|rfl|rw[if_neg xn,if_neg xn]
  unfold eJ sK;rw[hT]
theorem afp{n:Nat}:∀{S:cn} {k:Nat} {c c1:Ck},sI c S=some c1->k+S.length<n->iO n k c S=some c1
 |[],k,c,c1,h,_=>h
 |x::S,k,c,c1,h,hn=>by
  simp only[List.length_cons]at hn;simp only[sI]at h;split at h
  ·rename_i hx;have LS:decide (k+1=n)=false:=decide_eq_false (by omega);have gC:eJ c x (decide (k=0)) (decide (k+1=n))=eJ c x false false:=by
    rw[LS];cases decide (k=0)with
    |false=>rfl
    |true=>exact agI hx
   simp only[iO];rw[gC,if_pos hx];exact afp h (by omega)
  ·cases h
theorem ajJ{g:bg}(h:ez g=true)(hp:(dV g).length<=4096)(hF:fS (fO g)):∃c,iO (fO g).aM.length 0 (pb g.ay) (fO g).aM=some c:=by
 obtain⟨S,last,c1,e1,e2,e3⟩:=aad h hp hF;have key:∀n k,k+S.length+1=n->∃c,iO n k (s8 g) (S++[last])=some c:=by
  intro n k hn;rw[Ce (afp e2 (by omega))];have LS:decide (k+S.length+1=n)=true:=decide_eq_true hn;have gC:eJ c1 last (decide (k+S.length=0)) (decide (k+S.length+1=n))=eJ c1 last false true:=by
   rw[LS];cases decide (k+S.length=0)with
   |false=>rfl
   |true=>exact agI e3
  simp only[iO];rw[gC,if_pos e3];exact⟨_,rfl⟩
 have hl:(fO g).aM.length=(wu g).length+(S.length+1):=by rw[e1];simp
 rw[e1];have jy:(wu g++(S++[last])).length=(wu g).length+(S.length+1):=by simp
 rw[jy];unfold wu s8 at*;split
 ·rename_i he;rw[if_pos he]at key;have st:=avB (c:=pb g.ay) (i:=⟨16,0,0,((dV g).length:Int),[],0⟩) rfl rfl (by rw[apQ];simp);have hd:decide (0+1=([⟨16,0,0,((dV g).length:Int),[],0⟩]:cn).length+(S.length+1))=false:=decide_eq_false (by simp);simp only[List.cons_append,List.nil_append,iO];rw[hd,show decide True=true from rfl,st,if_pos rfl];exact key _ 1 (by simp;omega)
 ·rename_i he;rw[if_neg he]at key;exact key _ 0 (by simp)
theorem amX{t:aK}(h:gT t=true):EN (nB t.df t.n t.f_ t.dE.length)=true:=by
 obtain⟨k,n,s,l⟩:=t;simp only[gT,Bool.and_eq_true]at h;have h1:=h.1;simp only[aK.df,aK.n,aK.f_,aK.dE];unfold pY at h1;unfold nB EN;split at h1
 ·rename_i hk;subst hk;simp
 ·split at h1
  ·rename_i hk;subst hk;simp
  ·split at h1
   ·rename_i hk;subst hk;simp only[decide_eq_true_eq]at h1;simp;omega
   ·split at h1
    ·rename_i hk;subst hk;simp only[decide_eq_true_eq]at h1;simp;omega
    ·cases h1
theorem ajI{g:bg}(h:bA g.aO+e8 g.aA<3600):(fO g).aM.length<60000:=by
 have hf5:(gQ g).f=g:=by unfold gQ;cases iY g (dc g)<;>rfl
 have ha:(gQ g).aM.length<=1:=by unfold gQ;cases iY g (dc g)<;>simp[kW,Em.aE,gM]
 have hb:=(bS.fA g.aO 0 (gQ g)).r7;have jw:((gQ g).fA 0 g.aO).f=g:=(bS.fA g.aO 0 (gQ g)).f.trans hf5;have hg:=Lb (dc g) (ep g) (iY g (dc g)) g.aA 0 ((dV g).length:Int) ((gQ g).fA 0 g.aO);have hz:=abp g.aA;unfold fO;rw[hf5,jw];omega
theorem ajl{f:bg}{id:Int}(hs:bA f.aO+e8 f.aA<3600)(h:(cL f id).2=0):yu (cL f id).1=true∧(cL f id).1.bk.length<60000∧(cL f id).1.id=id∧(cL f id).1.ay=f.ay∧ez f=true:=by
 unfold cL at h⊢;split at h
 ·cases h
 ·rename_i h1;split at h
  ·rename_i h2;exact absurd h h2
  ·rename_i h2;rw[if_neg h1,if_neg h2];have hv:ez f=true:=by
    cases hq:ez f with
    |true=>rfl
    |false=>exact absurd (.inl hq) h1
   have dF:1<=id∧id<=1099511627776:=by
    constructor
    ·apply Classical.byContradiction;intro hh;exact h1 (.inr (.inl (by omega)))
    ·apply Classical.byContradiction;intro hh;exact h1 (.inr (.inr (by omega)))
   have hc:(jt (a_ f)).2=0:=by apply Classical.byContradiction;exact h2
   have Bu:=Q4 hv;have Ek:=Kr f.aA;have bF:(fO (a_ f)).aM.length<60000:=ajI (by show bA f.aO+e8 (ju f.aA)<3600;omega);simp only;have sf:(jt (a_ f)).2=0->¬((fO (a_ f)).gN=true∨(fO (a_ f)).aM.length>131072∨(dV (a_ f)).length>4096)∧jt (a_ f)=lB (fO (a_ f)).aM (ep (a_ f)):=by
    intro hh;unfold jt at hh⊢;split at hh
    ·cases hh
    ·rename_i hn;rw[if_neg hn];exact⟨hn,rfl⟩
   obtain⟨hn,hce⟩:=sf hc;have hp:(dV (a_ f)).length<=4096:=by apply Classical.byContradiction;intro hh;exact hn (.inr (.inr (by omega)))
   obtain⟨r,hr⟩:∃r,lB (fO (a_ f)).aM (ep (a_ f))=(r,0):=⟨(jt (a_ f)).1,by rw[←hce,←hc]⟩;have tl:=Qp bF (fO (a_ f)).aM 0 0 0 [] r rfl (Nat.zero_le _) (Nat.le_refl _) (.inl rfl) hr;rw[List.drop_zero]at tl;obtain⟨cE,dK⟩:=ajJ Bu hp (fun x hx _=>tl x hx);obtain⟨Ez,uU,hp3,hp4⟩:=On Bu;have th:=Fo Ez;have alw:o6 (pb (a_ f).ay)∧∀ρ,pD ((ep (a_ f)).getD 0 0) ρ->ni ρ (pb (a_ f).ay) (pb (a_ f).ay):=by
    have rm:∀n:Nat,Kn (pE n)∧∀p∈pE n,1<=p.1∧p.1<=n:=by
     intro n;induction n with
     |zero=>exact⟨by simp[Kn,pE],fun p hp=>by cases hp⟩
     |succ n ih=>
      refine⟨?_,fun p hp=>?_⟩
      ·unfold Kn pE;simp only[List.map_append,List.map_cons,List.map_nil];refine List.nodup_append.2 ⟨ih.1,by simp,fun a ha x hx=>?_⟩;simp only[List.mem_singleton]at hx;subst hx;rintro rfl;obtain⟨p,h3,h4⟩:=List.mem_map.1 ha;have:=ih.2 p h3;omega
      ·simp only[pE,List.mem_append,List.mem_singleton]at hp;rcases hp with hp|rfl
       ·have:=ih.2 p hp;push_cast;omega
       ·simp only;push_cast;omega
    refine⟨⟨(rm _).1,fun _=>rfl,⟨by show(-4096:Int)<=0;omega,by show(0:Int)<=4096;omega⟩⟩,fun ρ dU=>⟨rfl,rfl,rfl,(IE dU).symm,fun x hx hd=>?_⟩⟩;obtain⟨p,h3,h4⟩:=nW.1 hd;have h5:=(rm _).2 p h3;have sd:(a_ f).ay.ar<=(ep (a_ f)).getD 0 0:=by
     have hb:∀(gs:cY) (c:Int),c<=(kA [] c gs).getD 0 0:=by
      intro gs;have gen:∀(gs:cY) (d:List Int) (c y:Int),(kA (y::d) c gs).getD 0 0=y:=by
       intro gs;induction gs with
       |nil=>intro d c y;simp[kA]
       |cons g gs ih=>
        intro d c y;simp only[kA];split
        ·rw[List.cons_append];exact ih _ _ _
        ·exact ih _ _ _
      induction gs with
      |nil=>intro c;simp[kA]
      |cons g gs ih=>
       intro c;simp only[kA];split
       ·rw[List.nil_append,gen];exact Int.le_max_left _ _
       ·exact ih c
     have:=hb (a_ f).aA (a_ f).aO.length;unfold ep;omega
    rw[dU.BG x (by omega)];exact hd
   obtain⟨⟨c,vW⟩,hlr,jx⟩:=J9 bF dK (fO (a_ f)).aM 0 0 0 [] r rfl (Nat.zero_le _) (Nat.le_refl _) (.inl rfl) rfl (fun x hx=>by simp at hx) (fun x hx=>by cases hx) ⟨_,_,rfl,rfl,fun _=>alw⟩ hr;have alD:(jt (a_ f)).1=r:=by rw[hce,hr]
   rw[alD];have di:1<=(fO (a_ f)).aM.length:=by obtain⟨S,last,c1,e1,_,_⟩:=aad Bu hp (fun x hx _=>tl x hx);rw[e1];simp;omega
   refine⟨?_,by rw[hlr];exact bF,trivial,trivial,hv⟩;unfold yu tj;simp only[Bool.and_eq_true,decide_eq_true_eq];refine⟨⟨⟨dF,Ez⟩,?_⟩,by omega,List.all_eq_true.2 jx,?_⟩
   ·cases ha:f.aO with
    |nil=>rfl
    |cons t l=>have:g_ f.aO=true:=hp3;rw[ha]at this;simp only[g_,Bool.and_eq_true]at this;exact amX this.1
   ·rw[hlr];refine afm ?_;have:iO (fO (a_ f)).aM.length 0 (pb f.ay) r=some c:=vW;rw[this];rfl
end
end Go.Cl
