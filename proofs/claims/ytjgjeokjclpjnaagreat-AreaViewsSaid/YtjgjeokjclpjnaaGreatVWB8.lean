/- 'hornbeamlaw37.AreaViews' returns true for every database, every number and every byte, and the database reads afterwards as it read before. The row's own cells are its only conditions. -/
import Derived.Test.YtjgjeokjclpjnaaGreatVWB7
set_option linter.all false
set_option linter.unusedSectionVars false
namespace Go.Proofs.YtjgjeokjclpjnaaGreat
open Go.ChangeShapes Go.WideShapes Go.ChangeAt Go.RowKit
theorem Tryz.own:ownKnob Tryz.prog.godebug=none:=by kernel_rfl
theorem facts:laidOutB Tryz.prog=true:=by kernel_rfl
set_option maxRecDepth 100000 in
theorem axJ(os:Os)(agS:os.Started)(H:Type)(enc:TypeId×Value->H):
 ReturnsInHanded {} Tryz.checked os 4 .any (Rows.areaViewsSpec.pre6 enc Tryz.prog Tryz.f4 Rows.areaViewsRow.domain false) (Rows.areaViewsSpec.post enc Tryz.prog Tryz.f4 false true false false):=by
 refine returnsInHanded_of_change (C:=Tryz.checked) Tryz.own agS (by as_aux_lemma=>kernel_rfl) Tryz.func4
  (ChangeSpec.witness6 (enc:=enc) (C:=Tryz.checked) false ⟨#[],#[.agg #[.int .i64 0,.slice none 0 0],.int .i64 0,.int .u8 0],[]⟩ 8 (by as_aux_lemma=>kernel_rfl) (by as_aux_lemma=>kernel_rfl) (by as_aux_lemma=>kernel_rfl) (by as_aux_lemma=>kernel_rfl)) ?_
 intro W base args ds gs aPV aC5 hW aPX _;have zO:∀(j:Nat) t v,Tryz.f4.params[j]? =some t->args[j]? =some v->Value.okWide Tryz.prog W .any base t v:=aC5;have hW':=hW;obtain⟨p,q,hA0,hV,rfl,hfz,kf⟩:=hW;have hA:DataW.TrodAll enc Tryz.prog W 0 (λ_=>true) true Tryz.f4.params.toList args.toList ds p:=hA0;rw[Tryz.params4]at hA zO;obtain⟨v0,v1,v2,d0,d1,d2,p0,p1,p2,rfl,rfl,rfl,h0,h1,h2⟩:=trodAll_three hA;obtain⟨rfl,rfl⟩:=trodVars_none hV;have ok0:=zO 0 24 v0 rfl rfl;have ok1:=zO 1 2 v1 rfl rfl;have ok2:=zO 2 5 v2 rfl rfl;simp at hW';have ae:∀x∈p0++(p1++p2),x.block<W.heap.size:=λx hx=>by simpa using hW'.lt x (by simpa using hx)
 have g0:∀(W':World),Below W.heap.size W W'->DataW.Trod enc Tryz.prog W' 0 (λb=>decide (b<W.heap.size)) true 24 v0 d0 p0:=
  λW' hn=>Below.trod facts (by as_aux_lemma=>kernel_rfl) (of_decide_eq_true (by as_aux_lemma=>kernel_rfl)) h0 hn (λx hx=>ae x (by simp[hx]))
 have g1:∀(W':World),Below W.heap.size W W'->DataW.Trod enc Tryz.prog W' 0 (λb=>decide (b<W.heap.size)) true 2 v1 d1 p1:=
  λW' hn=>Below.trod facts (by as_aux_lemma=>kernel_rfl) (of_decide_eq_true (by as_aux_lemma=>kernel_rfl)) h1 hn (λx hx=>ae x (by simp[hx]))
 have g2:∀(W':World),Below W.heap.size W W'->DataW.Trod enc Tryz.prog W' 0 (λb=>decide (b<W.heap.size)) true 5 v2 d2 p2:=
  λW' hn=>Below.trod facts (by as_aux_lemma=>kernel_rfl) (of_decide_eq_true (by as_aux_lemma=>kernel_rfl)) h2 hn (λx hx=>ae x (by simp[hx]))
 obtain⟨k,rfl⟩:=okWide_int Tryz.underlying2 ok1;obtain⟨a,rfl⟩:=okWide_int Tryz.underlying5 ok2;simp only[Value.okWide,Tryz.underlying5,Cell.okWide,Cell.ok]at ok2;have ha:0<=a/\a<256:=by have h:IntKind.min .u8<=a/\a<=IntKind.max .u8:=ok2.2;rw[show IntKind.min .u8=0 from rfl,show IntKind.max .u8=255 from rfl]at h;omega
 unfold Value.okWide at ok0;rw[Tryz.underlying24]at ok0;obtain⟨cs,rfl,_⟩:=ok0;have⟨lZ,hf⟩:=h0;have⟨⟨nx,l⟩,aN,jj⟩:=Go.Cl.aE9 lZ _ _ hf;have⟨X',Cf,hE⟩:=Go.Cl.aDN (X:=λ_=>none) (xc:=0) (nx:=nx) (l:=l) (k:=k) ha aN;have IA:=Go.Cl.aAs (args':= #[.agg cs,.int .i64 k,.int .u8 a]) (b:=true) (w:=W) hE ⟨_,_,rfl,⟨cs,rfl,jj⟩,_,_,rfl,rfl,_,_,rfl,rfl,rfl⟩;refine IA.mono λe W' ⟨he,hw⟩=>?_
 subst he;exact⟨_,rfl,⟨_,_,_,[],_,[],hW',trodAll_mk1 (shut_bool Tryz.underlying4 true),trodAll_mk3 (g0 _ hw) (g1 _ hw) (g2 _ hw),rfl,hw.frame _,λh=>by cases h⟩⟩
theorem areaViews_holds:Rows.AreaViewsSaid:=
 OpenClaim.holds_of_wide 4 Tryz.f4 rfl rfl rfl rfl rfl rfl rfl ⟨rfl,rfl,rfl,rfl,rfl⟩ rfl rfl rfl rfl rfl (by kernel_rfl) Tryz.func4 (by kernel_rfl)
  (of_decide_eq_true (by kernel_rfl)) (by unfold Func.isWrapper;rw[if_neg (by decide+kernel)];exact⟨rfl,rfl⟩)
  (λos agS H enc _=>axJ os agS H enc)
#print axioms areaViews_holds
end Go.Proofs.YtjgjeokjclpjnaaGreat
