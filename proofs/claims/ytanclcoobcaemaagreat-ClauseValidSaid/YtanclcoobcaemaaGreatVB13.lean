/- 'hornbeamlaw28.ClauseValid' returns true for every flat clause, every Id and every count, and they read afterwards as they read before. The row's own cells are its only conditions. -/
import Derived.Test.YtanclcoobcaemaaGreatVB12
set_option linter.all false
set_option linter.unusedSectionVars false
namespace Go.Proofs.YtanclcoobcaemaaGreat
open Go.ChangeShapes Go.WideShapes Go.ChangeAt Go.RowKit
theorem Tryz.own:ownKnob Tryz.prog.godebug=none:=by kernel_rfl
theorem facts:laidOutB Tryz.prog=true:=by kernel_rfl
set_option maxRecDepth 100000 in
theorem ai3(os:Os)(Wr:os.Started)(H:Type)(enc:TypeId×Value->H):
 ReturnsInHanded {} Tryz.checked os 4 .any (Rows.clauseValidSpec.pre6 enc Tryz.prog Tryz.f4 Rows.clauseValidRow.domain false) (Rows.clauseValidSpec.post enc Tryz.prog Tryz.f4 false true false false):=by
 refine returnsInHanded_of_change (C:=Tryz.checked) Tryz.own Wr (by as_aux_lemma=>kernel_rfl) Tryz.func4
  (ChangeSpec.witness6 (enc:=enc) (C:=Tryz.checked) false ⟨#[],#[.agg #[.string ⟨#[]⟩,.int .i64 0,.int .i64 0,.slice none 0 0,.slice none 0 0],.int .i64 0,.int .i64 0],[]⟩ 8 (by as_aux_lemma=>kernel_rfl) (by as_aux_lemma=>kernel_rfl) (by as_aux_lemma=>kernel_rfl) (by as_aux_lemma=>kernel_rfl)) ?_
 intro W base args ds gs axG ach hW axU _;have pU:∀(j:Nat) t v,Tryz.f4.params[j]? =some t->args[j]? =some v->Value.okWide Tryz.prog W .any base t v:=ach;have Sf:=hW;obtain⟨p,q,hA0,hV,rfl,hfz,oH⟩:=hW;have hA:DataW.TrodAll enc Tryz.prog W 0 (fun _=>true) true Tryz.f4.params.toList args.toList ds p:=hA0;rw[Tryz.params4]at hA pU;obtain⟨v0,v1,v2,d0,d1,d2,p0,p1,p2,rfl,rfl,rfl,h0,h1,h2⟩:=trodAll_three hA;obtain⟨rfl,rfl⟩:=trodVars_none hV;have zH:=pU 0 27 v0 rfl rfl;have ok1:=pU 1 2 v1 rfl rfl;have ok2:=pU 2 2 v2 rfl rfl;clear hA0 ach;simp only[List.append_nil]at Sf;have aj:∀x∈p0++p1++p2,x.block<W.heap.size:=fun x hx=>by simpa using Sf.lt x hx
 have g0:∀(W':World),Below W.heap.size W W'->DataW.Trod enc Tryz.prog W' 0 (fun b=>decide (b<W.heap.size)) true 27 v0 d0 p0:=
  fun W' hn=>Below.trod facts (by as_aux_lemma=>kernel_rfl) (of_decide_eq_true (by as_aux_lemma=>kernel_rfl)) h0 hn (fun x hx=>aj x (by simp[hx]))
 have g1:∀(W':World),Below W.heap.size W W'->DataW.Trod enc Tryz.prog W' 0 (fun b=>decide (b<W.heap.size)) true 2 v1 d1 p1:=
  fun W' hn=>Below.trod facts (by as_aux_lemma=>kernel_rfl) (of_decide_eq_true (by as_aux_lemma=>kernel_rfl)) h1 hn (fun x hx=>aj x (by simp[hx]))
 have g2:∀(W':World),Below W.heap.size W W'->DataW.Trod enc Tryz.prog W' 0 (fun b=>decide (b<W.heap.size)) true 2 v2 d2 p2:=
  fun W' hn=>Below.trod facts (by as_aux_lemma=>kernel_rfl) (of_decide_eq_true (by as_aux_lemma=>kernel_rfl)) h2 hn (fun x hx=>aj x (by simp[hx]))
 obtain⟨n,rfl⟩:=okWide_int Tryz.underlying2 ok1;obtain⟨m,rfl⟩:=okWide_int Tryz.underlying2 ok2;unfold Value.okWide at zH;rw[Tryz.underlying27]at zH;obtain⟨cs,rfl,_⟩:=zH;obtain⟨lF,hf⟩:=h0;obtain⟨f,bn,jx⟩:=Go.Cl.aos lF _ _ hf;have LD:=Go.Cl.aj0 (args':= #[.agg cs,.int .i64 n,.int .i64 m]) (b:=true) (w:=W) (Go.Cl.am8 f n m bn) ⟨_,_,rfl,⟨cs,rfl,jx⟩,_,_,rfl,rfl,_,_,rfl,rfl,rfl⟩;refine LD.mono fun e W' ⟨he,hw⟩=>?_
 subst he;exact⟨_,rfl,⟨_,_,_,[],_,[],Sf,trodAll_mk1 (shut_bool Tryz.underlying4 true),trodAll_mk3 (g0 _ hw) (g1 _ hw) (g2 _ hw),rfl,hw.frame _,fun h=>by cases h⟩⟩
theorem clauseValid_holds:Rows.ClauseValidSaid:=
 OpenClaim.holds_of_wide 4 Tryz.f4 rfl rfl rfl rfl rfl rfl rfl ⟨rfl,rfl,rfl,rfl,rfl⟩ rfl rfl rfl rfl rfl (by kernel_rfl) Tryz.func4 (by kernel_rfl)
  (of_decide_eq_true (by kernel_rfl)) (by unfold Func.isWrapper;rw[if_neg (by decide+kernel)];exact⟨rfl,rfl⟩)
  (fun os Wr H enc _=>ai3 os Wr H enc)
#print axioms clauseValid_holds
end Go.Proofs.YtanclcoobcaemaaGreat
