/- Part of a proof of ClauseCompiles. -/
import Derived.Test.YtanclcoobcaemaaGreatB13
set_option linter.all false
set_option linter.unusedSectionVars false
namespace Go.Cl
open Go.Ev Go.Proofs Go.ChangeShapes Go.WideShapes Go.ChangeAt Go.RowKit
theorem dm.ais{w w':World}(h:dm (FH w) w w'):Below w.heap.size w w':=
 ⟨h.2.2.1,h.2.2.2.1,h.2.2.2.2,h.1,h.2.1⟩
theorem ajD{f:FuncId}{args:List AV}{args':Array Value}{b:Bool}{w:World}(h: @eC (qo w) Tryz.prog f args ⟨.gB,0⟩ (.aA b) ⟨.gB,0⟩)(ha: @bm (qo w) gU args args'.toList):
 Calls Tryz.prog f args' w fun e w'=>e=.returned (.bool b)∧Below w.heap.size w w':=by
 letI:=qo w
 have hw:WR gU (FH w) ⟨.gB,0⟩ w:=⟨(fun i ob e h=>by cases h),(fun i _ ob _ e _ h=>by cases h),(fun i e h=>by cases h),(fun i ob h=>by cases h),(fun b o hb=>by have hb:w.heap[b]? =some o:=hb;exact⟨(Array.getElem?_eq_some_iff.1 hb).1,hb⟩)⟩;intro cs;obtain⟨bf,w',h1,h2,h3,jj,e',h4,h5,h6,h7⟩:=h gU w (FH w) args' cs ha hw (gQ.old w);obtain⟨v',rfl,hv⟩:=h4;simp only[VR]at hv;subst hv;exact⟨_,w',jj,⟨rfl,dm.ais h3⟩,h5,h7,h6⟩
end Go.Cl
