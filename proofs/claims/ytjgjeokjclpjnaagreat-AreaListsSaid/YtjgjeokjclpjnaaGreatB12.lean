/- 'hornbeamlaw37.AreaLists' returns true for every database and either trace, and the database reads afterwards as it read before. The row's own cells are its only conditions. -/
import Derived.Test.YtjgjeokjclpjnaaGreatB11
set_option linter.all false
set_option linter.unusedSectionVars false
namespace Go.Proofs.YtjgjeokjclpjnaaGreat
open Go.ChangeShapes Go.WideShapes Go.ChangeAt Go.RowKit
theorem Tryz.own:ownKnob Tryz.prog.godebug=none:=by kernel_rfl
theorem facts:laidOutB Tryz.prog=true:=by kernel_rfl
set_option maxRecDepth 100000 in
theorem an5(os:Os)(abk:os.Started)(H:Type)(enc:TypeId×Value->H):
 ReturnsInHanded {} Tryz.checked os 3 .any (Rows.areaListsSpec.pre6 enc Tryz.prog Tryz.f3 Rows.areaListsRow.domain false) (Rows.areaListsSpec.post enc Tryz.prog Tryz.f3 false true false false):=by
 refine returnsInHanded_of_change (C:=Tryz.checked) Tryz.own abk (by as_aux_lemma=>kernel_rfl) Tryz.func3
  (ChangeSpec.witness6 (enc:=enc) (C:=Tryz.checked) false ⟨#[],#[.agg #[.int .i64 0,.slice none 0 0],.bool false],[]⟩ 8 (by as_aux_lemma=>kernel_rfl) (by as_aux_lemma=>kernel_rfl) (by as_aux_lemma=>kernel_rfl) (by as_aux_lemma=>kernel_rfl)) ?_
 intro W base args ds gs aEM as6 hW aEO _;have yB:∀(j:Nat) t v,Tryz.f3.params[j]? =some t->args[j]? =some v->Value.okWide Tryz.prog W .any base t v:=as6;have XF:=hW;obtain⟨p,q,hA0,hV,rfl,hfz,nY⟩:=hW;have hA:DataW.TrodAll enc Tryz.prog W 0 (λ_=>true) true Tryz.f3.params.toList args.toList ds p:=hA0;rw[Tryz.params3]at hA yB;obtain⟨v0,v1,d0,d1,p0,p1,rfl,rfl,rfl,h0,h1⟩:=trodAll_two hA;obtain⟨rfl,rfl⟩:=trodVars_none hV;have Z':=yB 0 24 v0 rfl rfl;have ok1:=yB 1 4 v1 rfl rfl;simp at XF;have ax:∀x∈p0++p1,x.block<W.heap.size:=λx hx=>by simpa using XF.lt x hx
 have g0:∀(W':World),Below W.heap.size W W'->DataW.Trod enc Tryz.prog W' 0 (λb=>decide (b<W.heap.size)) true 24 v0 d0 p0:=
  λW' hn=>Below.trod facts (by as_aux_lemma=>kernel_rfl) (of_decide_eq_true (by as_aux_lemma=>kernel_rfl)) h0 hn (λx hx=>ax x (by simp[hx]))
 have g1:∀(W':World),Below W.heap.size W W'->DataW.Trod enc Tryz.prog W' 0 (λb=>decide (b<W.heap.size)) true 4 v1 d1 p1:=
  λW' hn=>Below.trod facts (by as_aux_lemma=>kernel_rfl) (of_decide_eq_true (by as_aux_lemma=>kernel_rfl)) h1 hn (λx hx=>ax x (by simp[hx]))
 obtain⟨tr,rfl⟩:=okWide_bool Tryz.underlying4 ok1;unfold Value.okWide at Z';rw[Tryz.underlying24]at Z';obtain⟨cs,rfl,_⟩:=Z';have⟨kM,hf⟩:=h0;have⟨⟨nx,l⟩,a_,iJ⟩:=Go.Cl.au9 kM _ _ hf;have⟨X',Js,hE⟩:=Go.Cl.atS (X:=λ_=>none) (xc:=0) (nx:=nx) (tr:=tr) (l:=l) a_;have Et:=Go.Cl.aqx (args':= #[.agg cs,.bool tr]) (b:=true) (w:=W) hE ⟨_,_,rfl,⟨cs,rfl,iJ⟩,_,_,rfl,rfl,rfl⟩;refine Et.mono λe W' ⟨he,hw⟩=>?_
 subst he;exact⟨_,rfl,⟨_,_,_,[],_,[],XF,trodAll_mk1 (shut_bool Tryz.underlying4 true),trodAll_mk2 (g0 _ hw) (g1 _ hw),rfl,hw.frame _,λh=>by cases h⟩⟩
theorem areaLists_holds:Rows.AreaListsSaid:=
 OpenClaim.holds_of_wide 3 Tryz.f3 rfl rfl rfl rfl rfl rfl rfl ⟨rfl,rfl,rfl,rfl,rfl⟩ rfl rfl rfl rfl rfl (by kernel_rfl) Tryz.func3 (by kernel_rfl)
  (of_decide_eq_true (by kernel_rfl)) (by unfold Func.isWrapper;rw[if_neg (by decide+kernel)];exact⟨rfl,rfl⟩)
  (λos abk H enc _=>an5 os abk H enc)
#print axioms areaLists_holds
end Go.Proofs.YtjgjeokjclpjnaaGreat
