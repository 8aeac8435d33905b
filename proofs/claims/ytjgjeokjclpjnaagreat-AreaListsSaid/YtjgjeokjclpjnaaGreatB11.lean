/- Part of a proof of AreaLists. -/
import Derived.Test.YtjgjeokjclpjnaaGreatB10
set_option linter.all false
set_option linter.unusedSectionVars false
namespace Go.Cl
open Go.Ev Go.Proofs Go.ChangeShapes Go.WideShapes Go.ChangeAt Go.RowKit
theorem cY.aox{w w'}(h:cY (auZ w) w w'):Below w.heap.size w w':=
 ⟨h.2.2.1,h.2.2.2.1,h.2.2.2.2,h.1,h.2.1⟩
theorem aqx{f args args' b w X' Js}(h:bZ Tryz.prog f args (b_ (λ_=>none) 0 [] 0) (.ao b) (b_ X' Js [] 0))(ha:bp (xu w) args args'.toList):
 Calls Tryz.prog f args' w λe w'=>e=.returned (.bool b)/\Below w.heap.size w w':=by
 have hw:WR (xu w) (λ_=>False) (b_ (λ_=>none) 0 [] 0) w:=⟨(λi ob e h=>by cases h),(λi _ ob _ e _ h=>by cases h),(λi e h=>by cases h),(λi ob h=>by cases h),⟨(λb o hb=>⟨⟨λh=>h,hb⟩,λi ob e h=>by cases h⟩),(λn ob h=>by cases h),(λn n' ob bB e e' h=>by cases h),(λX hX n e h=>by cases h)⟩⟩;intro cs;have⟨aQ,w',h1,h2,h3,jU,e',h4,h5,h6,h7⟩:=h (xu w) w (λ_=>False) args' cs ha hw (λb hb=>hb.elim);obtain⟨v',rfl,hv⟩:=h4;subst hv;exact⟨_,w',jU,⟨rfl,cY.aox ⟨h3.1.1,λb hb=>by have hb:=hb;have h9:=(h1.ro b _ (h2.ro b _ (Array.getElem?_eq_getElem hb))).1.2;rw[h9,Array.getElem?_eq_getElem hb],h3.1.2.2⟩⟩,h5,h7,h6⟩
end Go.Cl
