/- Part of a proof of AreaGoals. -/
import Derived.Test.YtjgjeokjclpjnaaGreatGB6
set_option linter.all false
set_option linter.unusedSectionVars false
namespace Go.Cl
open Go.Ev Go.Proofs Go.ChangeShapes Go.WideShapes Go.ChangeAt Go.RowKit
theorem cZ.aqH{w w'}(h:cZ (axy w) w w'):Below w.heap.size w w':=
 ⟨h.2.2.1,h.2.2.2.1,h.2.2.2.2,h.1,h.2.1⟩
theorem asY{f args args' b w X' rp}(h:bX Tryz.prog f args (bU (λ_=>none) 0 [] 0) (.au b) (bU X' rp [] 0))(ha:br (yn w) args args'.toList):
 Calls Tryz.prog f args' w λe w'=>e=.returned (.bool b)/\Below w.heap.size w w':=by
 have hw:WR (yn w) (λ_=>False) (bU (λ_=>none) 0 [] 0) w:=⟨(λi ob e h=>by cases h),(λi _ ob _ e _ h=>by cases h),(λi e h=>by cases h),(λi ob h=>by cases h),⟨(λb o hb=>⟨⟨λh=>h,hb⟩,λi ob e h=>by cases h⟩),(λn ob h=>by cases h),(λn n' ob bE e e' h=>by cases h),(λX hX n e h=>by cases h)⟩⟩;intro cs;have⟨aQ,w',h1,h2,h3,j7,e',h4,h5,h6,h7⟩:=h (yn w) w (λ_=>False) args' cs ha hw (λb hb=>hb.elim);obtain⟨v',rfl,hv⟩:=h4;subst hv;exact⟨_,w',j7,⟨rfl,cZ.aqH ⟨h3.1.1,λb hb=>by have hb:=hb;have h9:=(h1.ro b _ (h2.ro b _ (Array.getElem?_eq_getElem hb))).1.2;rw[h9,Array.getElem?_eq_getElem hb],h3.1.2.2⟩⟩,h5,h7,h6⟩
end Go.Cl
