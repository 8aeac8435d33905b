/- Part of a proof of ClauseCompiles. -/
import Derived.Test.YtanclcoobcaemaaGreatB9
set_option linter.all false
set_option linter.unusedSectionVars false
set_option maxRecDepth 100000
namespace Go.Cl
open Go.Ev Go.Proofs
variable[Ro]
noncomputable section
def Z2(args:LV)(H:AH):Option (Prop×AV×AH):=bif args.isEmpty then some (H=ax,.aA true,ax)else none
def Zo:Ev.bC:=ft 6 Z2 Zn
theorem ail:∃H,eC Z 6 [] ax (.aA true) H:=by
 have h:=aim;unfold agN at h;split at h
 ·rename_i b H hr;subst h;refine⟨H,fun φ w bs args' cs ha hw hb=>?_⟩;rw[ajT]at hr;obtain⟨bf,w',h1,h2,h3,h4⟩:=St (m:=0) (cs:=cs) (N7 yN anJ 1000000) hr ha hw hb (Nat.zero_le _) trivial (kind:=.normal) rfl;exact⟨bf,w',h1,(fun id dn=>absurd dn (Nat.not_lt_zero _)),h3,h4⟩
 ·cases h
theorem aht:bn Z Zo:=by
 refine Ba ahs fun args H p v H' h hp=>?_
 unfold Z2 at h;obtain⟨h1,h2⟩:=di h;cases h2;have h1:args=[]:=by simpa using h1
 subst h1;have hp:H=ax:=hp;subst hp;obtain⟨H,hE⟩:=ail;exact Ss (ps:=[]) hE (by rfl) (by rfl)
theorem asM(f:a9)(id:Int)(L:LT)(Q:QT):
 b_ Z Zo (fun _=>[]) L Q 1000 3 [.aj (dj f),J id] ax=(
 (aq [] 0=ax∧Ab (dj f))∧ai (m_ wi (dj f)) (aq [] 0=ax∧Q (.aA true) ax) (∃w:a9×Int,(([.aj (dj f),J id]:LV)=[.aj (dj w.1),J w.2]∧aq [] 0=ax∧fL w.1∧(ei w.1=true->bh w.1.aQ+eg w.1.au<3600∧w.1.au.length<=500))∧(∃ab:a9×Int,(([.aj (dj f),J id]:LV)=[.aj (dj ab.1),J ab.2]∧aq [] 0=ax∧fL ab.1∧(ei ab.1=true->bh ab.1.aQ+eg ab.1.au<3600∧ab.1.au.length<=500))∧ai ((gX w.1 w.2).2==(jk ab.1 ab.2).2) (∃aJ:mz,(([.aj [J (gX w.1 w.2).1.id,.aa (gX w.1 w.2).1.aH.cL,J (gX w.1 w.2).1.aH.ar,J (gX w.1 w.2).1.aH.aM,J (gX w.1 w.2).1.fF.1,J (gX w.1 w.2).1.fF.2.1,.aa (gX w.1 w.2).1.fF.2.2.1,J (gX w.1 w.2).1.fF.2.2.2,.ae 0 (gX w.1 w.2).1.fB.length 6],.aj [J (jk ab.1 ab.2).1.id,.aa (jk ab.1 ab.2).1.aH.cL,J (jk ab.1 ab.2).1.aH.ar,J (jk ab.1 ab.2).1.aH.aM,J (jk ab.1 ab.2).1.fF.1,J (jk ab.1 ab.2).1.fF.2.1,.aa (jk ab.1 ab.2).1.fF.2.2.1,J (jk ab.1 ab.2).1.fF.2.2.2,.ae 1 (jk ab.1 ab.2).1.fB.length 6]]:LV)=[.aj [J aJ.id,.aa aJ.aH.cL,J aJ.aH.ar,J aJ.aH.aM,J aJ.fF.1,J aJ.fF.2.1,.aa aJ.fF.2.2.1,J aJ.fF.2.2.2,.ae 0 aJ.fB.length 6],.aj [J aJ.id,.aa aJ.aH.cL,J aJ.aH.ar,J aJ.aH.aM,J aJ.fF.1,J aJ.fF.2.1,.aa aJ.fF.2.2.1,J aJ.fF.2.2.2,.ae 1 aJ.fB.length 6]]∧aq [(0,gH (gX w.1 w.2).1.fB),(1,gH (jk ab.1 ab.2).1.fB)] 2=h9 aJ∧aJ.fB.length<60000)∧aq [] 0=ax∧Q (.aA true) ax) (Q (.aA false) ax)))):=by kernel_rfl
theorem Xq:∀(l:bG) (n:Int),(∀t∈l,jX t=true)->oh n l<=3000->oh n l=n+(bh l:Int)
 |[],n,_,_=>by simp[oh,bh]
 |t::l,n,hv,h=>by
  unfold oh at h⊢;split at h
  ·rename_i hn;rw[aN hn];have:=Xq l _ (fun t ht=>hv t (eE _ ht)) h;rw[this,Xf (hv t (eP ..)),bh]
   push_cast
   omega
  ·omega
theorem avp:∀(l:bG) (n:Int),n>3000->oh n l>3000
 |[],n,h=>h
 |t::l,n,h=>by unfold oh;rw[az (by omega)];exact h
theorem XU:∀(l:c7) (n:Int),n>3000->xM n l=true
 |[],n,h=>decide_eq_true h
 |g::l,n,h=>by
  unfold xM;split
  ·rfl
  ·exact XU l _ (avp _ _ h)
theorem ag1:∀(l:c7) (n:Int),(∀g∈l,∀t∈g.cP,jX t=true)->xM n l=false->n+(eg l:Int)<=3000+l.length
 |[],n,_,h=>by have:=eJ h;simp[eg];omega
 |g::l,n,hv,h=>by
  unfold xM at h;split at h
  ·cases h
  ·have ih:=ag1 l _ (fun g hg=>hv g (eE _ hg)) h;have de:oh n g.cP<=3000:=by apply ml;intro hh;rw[XU l _ (by omega)]at h;cases h
   rw[Xq _ _ (hv g (eP ..)) de]at ih;simp only[eg,bR]
   push_cast
   omega
theorem Lz:∀(l:c7) (b:Bool) (left:Int),lC b left l=true->∀g∈l,∀t∈g.cP,jX t=true
 |[],_,_,_,g,hg=>by cases hg
 |x::l,b,left,h,g,hg=>by
  simp only[lC,cy]at h;rcases List.mem_cons.1 hg with rfl|hg
  ·exact(rS.1 h.1.2).1
  ·exact Lz l _ _ h.2 g hg
theorem XV{f:a9}(h:wi f=false)(hv:ei f=true):bh f.aQ+eg f.au<3600∧f.au.length<=500:=by
 unfold wi at h;split at h
 ·cases h
 ·rename_i hn;have sa:∀t∈f.aQ,jX t=true:=by simp only[ei,cy]at hv;exact(rS.1 hv.1.2).1
  have de:oh 0 f.aQ<=3000:=by apply ml;intro hh;rw[XU _ _ (by omega)]at h;cases h
  have h2:=ag1 _ _ (Lz _ _ _ (XK hv)) h;rw[Xq _ _ sa de]at h2;omega
theorem amS{f:a9}{id:Int}(hf:fL f)(hC:wi f=false->gX f id=jk f id∧(gX f id).1.fB.length<60000):eC Z 3 [.aj (dj f),J id] ax (.aA true) ax:=by
 refine eS aht 1000 (fun _=>[]) 35 (by kernel_rfl) ?_;rw[asM];have hd:m_ wi (dj f)=wi f:=ye wi f;refine⟨⟨rfl,⟨f,rfl,hf⟩⟩,cv (fun h=>⟨rfl,rfl,rfl⟩) (fun h=>?_)⟩;have h:m_ wi (dj f)=false:=h;rw[hd]at h;obtain⟨hc,hl⟩:=hC h;refine⟨(f,id),⟨rfl,rfl,hf,XV h⟩,(f,id),⟨rfl,rfl,hf,XV h⟩,cv (fun he=>?_) (fun he=>?_)⟩
 ·refine⟨(gX f id).1,⟨?_,?_,hl⟩,rfl,rfl,rfl⟩
  ·show[AV.aj (qL (gX f id).1 _),AV.aj (qL (jk f id).1 (.ae 1 (jk f id).1.fB.length 6))]=_;rw[←hc];rfl
  ·show aq [(0,.aL (bZ (gX f id).1.fB) 50),(1,.aL (bZ (jk f id).1.fB) 50)] 2=_;rw[←hc];rfl
 ·have he:((gX f id).2==(jk f id).2)=false:=he;rw[hc]at he;simp at he
end
end Go.Cl
