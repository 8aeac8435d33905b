/- Part of a proof of AreaViews. -/
import Derived.Test.YtjgjeokjclpjnaaGreatVWB6
set_option linter.all false
set_option linter.unusedSectionVars false
namespace Go.Cl
open Go.Ev Go.Proofs Go.ChangeShapes Go.WideShapes Go.ChangeAt Go.RowKit
theorem cM.ayc{w w'}(h:cM (aEZ w) w w'):Below w.heap.size w w':=
 ⟨h.2.2.1,h.2.2.2.1,h.2.2.2.2,h.1,h.2.1⟩
theorem aAs{f args args' b w X' Cf}(h:bC Tryz.prog f args (cC (λ_=>none) 0 [] 0) (.ai b) (cC X' Cf [] 0))(ha:bf (Ag w) args args'.toList):
 Calls Tryz.prog f args' w λe w'=>e=.returned (.bool b)/\Below w.heap.size w w':=by
 have hw:WR (Ag w) (λ_=>False) (cC (λ_=>none) 0 [] 0) w:=⟨(λi ob e h=>by cases h),(λi _ ob _ e _ h=>by cases h),(λi e h=>by cases h),(λi ob h=>by cases h),⟨(λb o hb=>⟨⟨λh=>h,hb⟩,λi ob e h=>by cases h⟩),(λn ob h=>by cases h),(λn n' ob bu e e' h=>by cases h),(λX hX n e h=>by cases h)⟩⟩;intro cs;have⟨aK,w',h1,h2,h3,kI,e',h4,h5,h6,h7⟩:=h (Ag w) w (λ_=>False) args' cs ha hw (λb hb=>hb.elim);obtain⟨v',rfl,hv⟩:=h4;subst hv;exact⟨_,w',kI,⟨rfl,cM.ayc ⟨h3.1.1,λb hb=>by have hb:=hb;have h9:=(h1.ro b _ (h2.ro b _ (Array.getElem?_eq_getElem hb))).1.2;rw[h9,Array.getElem?_eq_getElem hb],h3.1.2.2⟩⟩,h5,h7,h6⟩
end Go.Cl
