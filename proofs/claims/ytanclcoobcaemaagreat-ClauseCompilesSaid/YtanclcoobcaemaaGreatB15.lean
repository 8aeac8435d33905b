/- 'hornbeamlaw28.ClauseCompiles' returns true for every flat clause and every Id, and they read afterwards as they read before. The row's own cells are its only conditions. -/
import Derived.Test.YtanclcoobcaemaaGreatB14
set_option linter.all false
set_option linter.unusedSectionVars false
namespace Go.Proofs.YtanclcoobcaemaaGreat
open Go.ChangeShapes Go.WideShapes Go.ChangeAt Go.RowKit
theorem Tryz.own:ownKnob Tryz.prog.godebug=none:=by kernel_rfl
theorem facts:laidOutB Tryz.prog=true:=by kernel_rfl
set_option maxRecDepth 100000 in
theorem aiO(os:Os)(Xm:os.Started)(H:Type)(enc:TypeId×Value->H):
 ReturnsInHanded {} Tryz.checked os 3 .any (Rows.clauseCompilesSpec.pre6 enc Tryz.prog Tryz.f3 Rows.clauseCompilesRow.domain false) (Rows.clauseCompilesSpec.post enc Tryz.prog Tryz.f3 false true false false):=by
 refine returnsInHanded_of_change (C:=Tryz.checked) Tryz.own Xm (by as_aux_lemma=>kernel_rfl) Tryz.func3
  (ChangeSpec.witness6 (enc:=enc) (C:=Tryz.checked) false ⟨#[],#[.agg #[.string ⟨#[]⟩,.int .i64 0,.int .i64 0,.slice none 0 0,.slice none 0 0],.int .i64 0],[]⟩ 8 (by as_aux_lemma=>kernel_rfl) (by as_aux_lemma=>kernel_rfl) (by as_aux_lemma=>kernel_rfl) (by as_aux_lemma=>kernel_rfl)) ?_
 intro W base args ds gs aw5 acN hW axj _;have xl:∀(j:Nat) t v,Tryz.f3.params[j]? =some t->args[j]? =some v->Value.okWide Tryz.prog W .any base t v:=acN;have Tl:=hW;obtain⟨p,q,hA0,hV,rfl,hfz,mb⟩:=hW;have hA:DataW.TrodAll enc Tryz.prog W 0 (fun _=>true) true Tryz.f3.params.toList args.toList ds p:=hA0;rw[Tryz.params3]at hA xl;obtain⟨v0,v1,d0,d1,p0,p1,rfl,rfl,rfl,h0,h1⟩:=trodAll_two hA;obtain⟨rfl,rfl⟩:=trodVars_none hV;have V1:=xl 0 27 v0 rfl rfl;have ok1:=xl 1 2 v1 rfl rfl;clear hA0 acN;simp only[List.append_nil]at Tl;have an:∀x∈p0++p1,x.block<W.heap.size:=fun x hx=>by simpa using Tl.lt x hx
 have g0:∀(W':World),Below W.heap.size W W'->DataW.Trod enc Tryz.prog W' 0 (fun b=>decide (b<W.heap.size)) true 27 v0 d0 p0:=
  fun W' hn=>Below.trod facts (by as_aux_lemma=>kernel_rfl) (of_decide_eq_true (by as_aux_lemma=>kernel_rfl)) h0 hn (fun x hx=>an x (by simp[hx]))
 have g1:∀(W':World),Below W.heap.size W W'->DataW.Trod enc Tryz.prog W' 0 (fun b=>decide (b<W.heap.size)) true 2 v1 d1 p1:=
  fun W' hn=>Below.trod facts (by as_aux_lemma=>kernel_rfl) (of_decide_eq_true (by as_aux_lemma=>kernel_rfl)) h1 hn (fun x hx=>an x (by simp[hx]))
 obtain⟨n,rfl⟩:=okWide_int Tryz.underlying2 ok1;unfold Value.okWide at V1;rw[Tryz.underlying27]at V1;obtain⟨cs,rfl,_⟩:=V1;obtain⟨l5,hf⟩:=h0;obtain⟨f,bq,gZ⟩:=Go.Cl.aoa l5 _ _ hf;have L2:=Go.Cl.ajD (args':= #[.agg cs,.int .i64 n]) (b:=true) (w:=W) (@Go.Cl.amR (Go.Cl.qo W) f n bq) ⟨_,_,rfl,⟨cs,rfl,gZ⟩,_,_,rfl,rfl,rfl⟩;refine L2.mono fun e W' ⟨he,hw⟩=>?_
 subst he;exact⟨_,rfl,⟨_,_,_,[],_,[],Tl,trodAll_mk1 (shut_bool Tryz.underlying4 true),trodAll_mk2 (g0 _ hw) (g1 _ hw),rfl,hw.frame _,fun h=>by cases h⟩⟩
theorem clauseCompiles_holds:Rows.ClauseCompilesSaid:=
 OpenClaim.holds_of_wide 3 Tryz.f3 rfl rfl rfl rfl rfl rfl rfl ⟨rfl,rfl,rfl,rfl,rfl⟩ rfl rfl rfl rfl rfl (by kernel_rfl) Tryz.func3 (by kernel_rfl)
  (of_decide_eq_true (by kernel_rfl)) (by unfold Func.isWrapper;rw[if_neg (by decide+kernel)];exact⟨rfl,rfl⟩)
  (fun os Xm H enc _=>aiO os Xm H enc)
#print axioms clauseCompiles_holds
end Go.Proofs.YtanclcoobcaemaaGreat
