/- 'hornbeamlaw37.AreaGoals' returns true for every database, every goal and either trace, and both read afterwards as they read before. The row's own cells are its only conditions. -/
import Derived.Test.YtjgjeokjclpjnaaGreatGB7
set_option linter.all false
set_option linter.unusedSectionVars false
namespace Go.Proofs.YtjgjeokjclpjnaaGreat
open Go.ChangeShapes Go.WideShapes Go.ChangeAt Go.RowKit
theorem Tryz.own:ownKnob Tryz.prog.godebug=none:=by kernel_rfl
theorem facts:laidOutB Tryz.prog=true:=by kernel_rfl
set_option maxRecDepth 100000 in
theorem aqg(os:Os)(acX:os.Started)(H:Type)(enc:TypeId×Value->H):
 ReturnsInHanded {} Tryz.checked os 5 .any (Rows.areaGoalsSpec.pre6 enc Tryz.prog Tryz.f5 Rows.areaGoalsRow.domain false) (Rows.areaGoalsSpec.post enc Tryz.prog Tryz.f5 false true false false):=by
 refine returnsInHanded_of_change (C:=Tryz.checked) Tryz.own acX (by as_aux_lemma=>kernel_rfl) Tryz.func5
  (ChangeSpec.witness6 (enc:=enc) (C:=Tryz.checked) false ⟨#[],#[.agg #[.int .i64 0,.slice none 0 0],.agg #[.int .i64 0,.int .i64 0,.string ⟨#[]⟩,.slice none 0 0],.bool false],[]⟩ 8 (by as_aux_lemma=>kernel_rfl) (by as_aux_lemma=>kernel_rfl) (by as_aux_lemma=>kernel_rfl) (by as_aux_lemma=>kernel_rfl)) ?_
 intro W base args ds gs aHI avF hW aHK _;have xQ:∀(j:Nat) t v,Tryz.f5.params[j]? =some t->args[j]? =some v->Value.okWide Tryz.prog W .any base t v:=avF;have ZT:=hW;obtain⟨p,q,hA0,hV,rfl,hfz,ov⟩:=hW;have hA:DataW.TrodAll enc Tryz.prog W 0 (λ_=>true) true Tryz.f5.params.toList args.toList ds p:=hA0;rw[Tryz.params5]at hA xQ;obtain⟨v0,v1,v2,d0,d1,d2,p0,p1,p2,rfl,rfl,rfl,h0,h1,h2⟩:=trodAll_three hA;obtain⟨rfl,rfl⟩:=trodVars_none hV;have ok0:=xQ 0 24 v0 rfl rfl;have ok1:=xQ 1 49 v1 rfl rfl;have ok2:=xQ 2 4 v2 rfl rfl;simp at ZT;have ay:∀x∈p0++(p1++p2),x.block<W.heap.size:=λx hx=>by simpa using ZT.lt x (by simpa using hx)
 have g0:∀(W':World),Below W.heap.size W W'->DataW.Trod enc Tryz.prog W' 0 (λb=>decide (b<W.heap.size)) true 24 v0 d0 p0:=
  λW' hn=>Below.trod facts (by as_aux_lemma=>kernel_rfl) (of_decide_eq_true (by as_aux_lemma=>kernel_rfl)) h0 hn (λx hx=>ay x (by simp[hx]))
 have g1:∀(W':World),Below W.heap.size W W'->DataW.Trod enc Tryz.prog W' 0 (λb=>decide (b<W.heap.size)) true 49 v1 d1 p1:=
  λW' hn=>Below.trod facts (by as_aux_lemma=>kernel_rfl) (of_decide_eq_true (by as_aux_lemma=>kernel_rfl)) h1 hn (λx hx=>ay x (by simp[hx]))
 have g2:∀(W':World),Below W.heap.size W W'->DataW.Trod enc Tryz.prog W' 0 (λb=>decide (b<W.heap.size)) true 4 v2 d2 p2:=
  λW' hn=>Below.trod facts (by as_aux_lemma=>kernel_rfl) (of_decide_eq_true (by as_aux_lemma=>kernel_rfl)) h2 hn (λx hx=>ay x (by simp[hx]))
 obtain⟨tr,rfl⟩:=okWide_bool Tryz.underlying4 ok2;unfold Value.okWide at ok0 ok1;rw[Tryz.underlying24]at ok0;rw[Tryz.underlying49]at ok1;obtain⟨cs,rfl,_⟩:=ok0;obtain⟨ts,rfl,_⟩:=ok1;have⟨k9,hf⟩:=h0;have⟨atA,mR⟩:=h1;have⟨⟨nx,l⟩,aZ,iR⟩:=Go.Cl.axI k9 _ _ hf;have⟨⟨k,i,s,u⟩,MM,auX⟩:=Go.Cl.abP atA _ _ mR;have⟨X',rp,hE⟩:=Go.Cl.awo (X:=λ_=>none) (xc:=0) (nx:=nx) (tr:=tr) (l:=l) aZ MM;have FA:=Go.Cl.asY (args':= #[.agg cs,.agg ts,.bool tr]) (b:=true) (w:=W) hE ⟨_,_,rfl,⟨cs,rfl,iR⟩,_,_,rfl,⟨ts,rfl,auX⟩,_,_,rfl,rfl,rfl⟩;refine FA.mono λe W' ⟨he,hw⟩=>?_
 subst he;exact⟨_,rfl,⟨_,_,_,[],_,[],ZT,trodAll_mk1 (shut_bool Tryz.underlying4 true),trodAll_mk3 (g0 _ hw) (g1 _ hw) (g2 _ hw),rfl,hw.frame _,λh=>by cases h⟩⟩
theorem areaGoals_holds:Rows.AreaGoalsSaid:=
 OpenClaim.holds_of_wide 5 Tryz.f5 rfl rfl rfl rfl rfl rfl rfl ⟨rfl,rfl,rfl,rfl,rfl⟩ rfl rfl rfl rfl rfl (by kernel_rfl) Tryz.func5 (by kernel_rfl)
  (of_decide_eq_true (by kernel_rfl)) (by unfold Func.isWrapper;rw[if_neg (by decide+kernel)];exact⟨rfl,rfl⟩)
  (λos acX H enc _=>aqg os acX H enc)
#print axioms areaGoals_holds
end Go.Proofs.YtjgjeokjclpjnaaGreat
