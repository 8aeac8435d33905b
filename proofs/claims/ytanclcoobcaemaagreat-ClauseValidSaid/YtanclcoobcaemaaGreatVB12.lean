/- Part of a proof of ClauseValid. -/
import Derived.Test.YtanclcoobcaemaaGreatVB11
set_option linter.all false
set_option linter.unusedSectionVars false
namespace Go.Cl
open Go.Ev Go.Proofs Go.ChangeShapes Go.WideShapes Go.ChangeAt Go.RowKit
theorem c8.aiH{w w':World}(h:c8 (M6 w) w w'):Below w.heap.size w w':=
 ⟨h.2.2.1,h.2.2.2.1,h.2.2.2.2,h.1,h.2.1⟩
theorem aj0{f:FuncId}{args:List AV}{args':Array Value}{b:Bool}{w:World}(h:dT Tryz.prog f args ⟨.fL,0⟩ (.ai b) ⟨.fL,0⟩)(ha:bc (wz w) args args'.toList):
 Calls Tryz.prog f args' w fun e w'=>e=.returned (.bool b)∧Below w.heap.size w w':=by
 have hw:WR (wz w) (fun _=>False) ⟨.fL,0⟩ w:=⟨(fun i ob e h=>by cases h),(fun i _ ob _ e _ h=>by cases h),(fun i e h=>by cases h),(fun i ob h=>by cases h),(fun b o hb=>⟨⟨fun h=>h,hb⟩,fun i ob e h=>by cases h⟩)⟩;intro cs;obtain⟨aW,w',h1,h2,h3,iJ,e',h4,h5,h6,h7⟩:=h (wz w) w (fun _=>False) args' cs ha hw (fun b hb=>hb.elim);obtain⟨v',rfl,hv⟩:=h4;simp only[VR]at hv;subst hv;exact⟨_,w',iJ,⟨rfl,c8.aiH ⟨h3.1,fun b hb=>by have hb:b<w.heap.size:=hb;have h9:=(h1.ro b _ (h2.ro b _ (Array.getElem?_eq_getElem hb))).1.2;rw[h9,Array.getElem?_eq_getElem hb],h3.2.2⟩⟩,h5,h7,h6⟩
end Go.Cl
