/- Steps of a region in the order of its text. -/
import Derived.Test.YtbinpohgchgpaaaGreatEvStep2
set_option linter.unusedVariables false
namespace Go.Ev

section
variable {P : Program} {call : Caller} {bs m : Nat} {H H' : AH} {φ φ' : Phi} {w w' : World} {fr fr' : AFrame} {b : Frame} {a a' : Act} {todo todo' : List Item} {cs : List Frame}

theorem onSeq_ok {o : Oper} {v : AV} {v' : Value} {todoA : List AItem} (hrun : fr.mode = .run) (hs : Steps P (lone (b.atR a todo) cs w) (lone (b.atR (a.put o.dst v') todo') cs w')) (hf : FR φ' fr b a) (hv : VR φ' v v') (hi : IRs φ' todoA todo')
    (hw : WR φ' bs H' w') (he : Ext m φ H φ' H') (hk : Keep bs w w') (hu : UpR φ fr.up cs) : StepOk P m bs φ H w fr (b.atR a todo) cs (onSeq fr o todoA v H') := by
  obtain ⟨fn, tmps, nt, td, defers, mode, up, round⟩ := fr
  cases hrun
  simp only [onSeq]
  split
  · rename_i t hset
    exact go_ok hs ⟨hf.fn, TR.put hf.tr hset hv, by rw [put_defers]; exact hf.dr, hf.round, hf.kind, hf.alone⟩ rfl hi hw he hk rfl rfl hu
  · trivial

theorem raise_ok {c : Chain} {c' : List PanicEntry} (hrun : fr.mode = .run) (hs : Steps P (lone (b.atR a todo) cs w) (lone ((b.atR a' todo').raise c') cs w')) (hd : a'.defers = a.defers) {t : Tr AV} (ht : TR φ' t fr.nt a'.tmps) {k : List AItem} (hf : FR φ fr b a) (hc : CR φ' c c')
    (hw : WR φ' bs H' w') (he : Ext m φ H φ' H') (hk : Keep bs w w') (hu : UpR φ fr.up cs) : StepOk P m bs φ H w fr (b.atR a todo) cs (.go ⟨fr.fn, t, fr.nt, k, fr.defers, raiseA fr.mode c, fr.up, fr.round⟩ H') := by
  obtain ⟨fn, tmps, nt, td, defers, mode, up, round⟩ := fr
  cases hrun
  have hf' := hf.mono he.1
  refine ⟨φ', w', (b.atR a' todo').raise c', cs, hs, ⟨⟨hf.fn, ht, ?_, hf'.round, hf.kind, hf.alone⟩, ⟨c', rfl, hc⟩⟩, hu.mono he.1, CsStep.refl hu, rfl, rfl, hw, he, hk, rfl⟩
  show DRs φ' defers a'.defers
  rw [hd]
  exact hf'.dr

theorem seq_items {ops : Array Oper} {i : Nat} {o : Oper} {rest : List Oper} (h : o :: rest = ops.toList.drop i) : ops[i]? = some o ∧ rest = ops.toList.drop (i + 1) := by
  constructor
  · have : (ops.toList.drop i)[0]? = some o := by rw [← h]; rfl
    rw [List.getElem?_drop] at this
    simpa using this
  · have : (ops.toList.drop i).drop 1 = rest := by rw [← h]; rfl
    rw [List.drop_drop] at this
    exact this.symm

theorem step_op_recover {ops : Array Oper} {k : List Item} {i : Nat} {rest : List Nat} {o : Oper} (ho : ops[i]? = some o) (hw : Region.wanted o (yielded ops a.tmps) = true) (hb : b.roundOf = none)
    (hr : (o.semAt b.roundOf a.eval).run P w = .ok .recover w') :
    step P (lone (b.atR a (.inRegion ops (i :: rest) :: k)) cs w) = match tryRecover (b.atR a (.inRegion ops (i :: rest) :: k)) cs with
      | some (v, cs') => .next (lone (b.atR (a.put o.dst v) (.inRegion ops rest :: k)) cs' w')
      | none => .next (lone (b.atR (a.put o.dst .nilIface) (.inRegion ops rest :: k)) cs w') := by
  have hg := stepGR_op (P := P) (b := b) (k := k) (cs := cs) (w := w) (rest := rest) ho hw
  have hro : (b.atR a (.inRegion ops (i :: rest) :: k)).roundOf = none := hb
  cases ht : tryRecover (b.atR a (.inRegion ops (i :: rest) :: k)) cs with
  | none =>
    simp only
    refine step_lone_go ?_
    rw [hg, ← finish_op ho]
    simp [stepG.apply, hr, hro, ht]
  | some r =>
    obtain ⟨v, cs'⟩ := r
    simp only
    refine step_lone_go ?_
    rw [hg, ← finish_op ho]
    simp [stepG.apply, hr, hro, ht]

theorem seq_ok (hc : CallerOK P call) (hrun : fr.mode = .run) (hf : FR φ fr b a) (hw : WR φ bs H w) (hb : bs ≤ w.heap.size) (hm : m ≤ H.next) (hu : UpR φ fr.up cs) {ops : Array Oper} {i : Nat} {o : Oper} {rest : List Oper} {k : List AItem} {ks : List Item} (hdrop : o :: rest = ops.toList.drop i)
    (hi : IRs φ k ks) : StepOk P m bs φ H w fr (b.atR a (.inRegion ops (List.range' i (rest.length + 1)) :: ks)) cs (stepSeq P call fr H ops i o rest k) := by
  obtain ⟨ho, hrest⟩ := seq_items hdrop
  rw [List.range'_succ]
  have htr := hf.tr
  have hitems : ∀ {ψ : Phi}, PLe φ ψ → IRs ψ (.seq ops (Nat.succ i) rest :: k) (.inRegion ops (List.range' (i + 1) rest.length) :: ks) := fun h => ⟨_, _, rfl, ⟨rfl, hrest⟩, hi.mono h⟩
  have hrel : Rel φ (aval fr.tmps) a.eval o.op.operands.toList := TR.rel htr _
  obtain ⟨fn, tmps, nt, td, defers, mode, up, round⟩ := fr
  cases hrun
  simp only at htr hrel
  simp only [stepSeq]
  cases hwant : wantedA ops o tmps.get with
  | none => trivial
  | some bb =>
    simp only
    have hwc : Region.wanted o (yielded ops a.tmps) = bb := wanted_of (cur := tmps) hwant fun g want d x _ _ hx => htr.2 d x hx
    cases bb with
    | false =>
      simp only [cond_false]
      refine onSeq_ok (v' := undef) rfl (.one ?_) hf (undef_VR φ) (hitems (PLe.refl φ)) hw (Ext.refl _ _ _) (Keep.refl _ _) hu
      have := stepR_op_skip (P := P) (b := b) (a := a) (k := ks) (cs := cs) (w := w) (ops := ops) (i := i) (rest := List.range' (i + 1) rest.length) (by simp [ho, hwc])
      simpa [ho] using this
    | true =>
      simp only [cond_true]
      cases hr : isRead o.op with
      | true =>
        simp only [cond_true]
        cases hv : readA P (aval tmps) H o.op with
        | none => trivial
        | some v =>
          obtain ⟨v', h1, h2⟩ := read_sound hw hrel hv
          simp only [seqRead]
          exact onSeq_ok (v' := v') rfl (.one (step_op_value ho hwc (.inl (by rw [semAt_of _ _ (read_not_defer hr)]; exact h1)))) hf h2 (hitems (PLe.refl φ)) hw (Ext.refl _ _ _) (Keep.refl _ _) hu
      | false =>
        simp only [cond_false]
        cases hmk : isMake o.op with
        | true =>
          simp only [cond_true]
          cases hmd : made P (aval tmps) o.op with
          | none => trivial
          | some r =>
            obtain ⟨ob, g⟩ := r
            obtain ⟨hh, n⟩ := H
            obtain ⟨o', sz, f, h1, h2, h3, h4⟩ := made_sound hrel hmd
            obtain ⟨g1, g2, g3⟩ := hw.make (m := m) (n := sz) hb h2 hm
            simp only [seqMake]
            exact onSeq_ok (v' := f w.heap.size) rfl (.one (step_op_value ho hwc (.inl (by rw [semAt_of _ _ (made_not_defer hmd)]; exact h1 w)))) (hf.mono g2.1) (h3 _ n _ (bindAt_same ..)) (hitems g2.1) g1 g2 g3 hu
        | false =>
          simp only [cond_false]
          cases hout : heavy P (aval tmps) H o.op with
          | none => trivial
          | some out =>
            have hsound := heavy_sound (P := P) (m := m) hw hb hm hrel hout
            have hgen : ∀ r, doCall P call H none out = some r → StepOk P m bs φ H w ⟨fn, tmps, nt, td, defers, .run, up, round⟩ (b.atR a (.inRegion ops (i :: List.range' (i + 1) rest.length) :: ks)) cs
                (seqRes ⟨fn, tmps, nt, td, defers, .run, up, round⟩ o (.seq ops (Nat.succ i) rest :: k) (some r)) := by
              intro r hres
              have hnd : ∀ c, o.op ≠ .defer c := by
                intro cc hcc
                rw [hcc] at hout
                simp only [heavy, hDefer] at hout
                split at hout
                · split at hout
                  · rename_i fn first captured l _ _
                    cases hy : isYield fn with
                    | true => rw [hy] at hout; cases hout
                    | false =>
                      rw [hy] at hout
                      cases hout
                      simp [doCall] at hres
                  · cases hout
                · cases hout
              obtain ⟨φ', w', g1, g2, g3, g4⟩ := ops_ok hc b ops ks cs a i (List.range' (i + 1) rest.length) o φ H w m out r hm hb ho hwc hw (semAt_of _ _ hnd) hsound hres
              obtain ⟨e, up', H1⟩ := r
              cases e with
              | ret v =>
                obtain ⟨v', hv, hsteps⟩ := g4
                rw [finish_op ho] at hsteps
                exact onSeq_ok rfl hsteps (hf.mono g2.1) hv (hitems g2.1) g1 g2 g3 hu
              | pan c =>
                obtain ⟨c', hcr, hsteps⟩ := g4
                exact raise_ok (fr := ⟨fn, tmps, nt, td, defers, .run, up, round⟩) rfl hsteps rfl (htr.mono g2.1) hf hcr g1 g2 g3 hu
            have hres : StepOk P m bs φ H w ⟨fn, tmps, nt, td, defers, .run, up, round⟩ (b.atR a (.inRegion ops (i :: List.range' (i + 1) rest.length) :: ks)) cs
                (seqRes ⟨fn, tmps, nt, td, defers, .run, up, round⟩ o (.seq ops (Nat.succ i) rest :: k) (doCall P call H none out)) := by
              cases hd : doCall P call H none out with
              | none => trivial
              | some r => exact hgen r hd
            have hround : ∀ {c : Call}, o.op = .defer c → round = none → o.semAt b.roundOf a.eval = execOp a.eval o := by
              intro c _ hro
              subst hro
              have : b.roundOf = none := hf.round
              rw [this]
              rfl
            cases out with
            | val v H1 => exact hres
            | enter f args => exact hres
            | round l args => exact hres
            | defer d =>
              simp only [seqHeavy, seqDefer]
              split
              · rename_i e
                cases e
                split
                · rename_i t hset
                  obtain ⟨d', h1, h2⟩ := hsound
                  have hro : b.roundOf = none := hf.round
                  refine go_ok (.one (step_op_defer ho hwc (by rw [hro]; exact h1))) ⟨hf.fn, TR.put (a := ⟨a.tmps, d' :: a.defers⟩) htr hset (undef_VR φ), ?_, hf.round, hf.kind, hf.alone⟩ rfl (hitems (PLe.refl φ)) hw (Ext.refl _ _ _) (Keep.refl _ _) rfl rfl hu
                  rw [put_defers]
                  exact ⟨d', a.defers, rfl, h2, hf.dr⟩
                · trivial
              · trivial
            | panic v =>
              obtain ⟨v', h1, h2⟩ := hsound
              have hnd : ∀ c, o.op ≠ .defer c := by
                intro cc hcc
                rw [hcc] at hout
                simp only [heavy, hDefer] at hout
                split at hout
                · split at hout
                  · rename_i fn first captured l _ _
                    cases hy : isYield fn with
                    | true => rw [hy] at hout; cases hout
                    | false => rw [hy] at hout; cases hout
                  · cases hout
                · cases hout
              exact raise_ok (fr := ⟨fn, tmps, nt, td, defers, .run, up, round⟩) (c' := [{ v := v', recovered := false }]) rfl (.one (step_op_panic ho hwc (by rw [semAt_of _ _ hnd]; exact h1))) rfl htr hf ⟨v', [], rfl, h2, rfl⟩ hw (Ext.refl _ _ _) (Keep.refl _ _) hu
            | recover =>
              have hnd : ∀ c, o.op ≠ .defer c := by
                intro cc hcc
                rw [hcc] at hout
                simp only [heavy, hDefer] at hout
                split at hout
                · split at hout
                  · rename_i fn first captured l _ _
                    cases hy : isYield fn with
                    | true => rw [hy] at hout; cases hout
                    | false => rw [hy] at hout; cases hout
                  · cases hout
                · cases hout
              simp only [OutR] at hsound
              simp only [seqHeavy, seqRecover]
              have hnone : ∀ (hro : round = none), (∀ v older, up ≠ some (.panicking ((v, false) :: older))) → ∀ t, setDst nt tmps o.dst .nilIface = some t →
                  StepOk P m bs φ H w ⟨fn, tmps, nt, td, defers, .run, up, round⟩ (b.atR a (.inRegion ops (i :: List.range' (i + 1) rest.length) :: ks)) cs (.go ⟨fn, t, nt, .seq ops (Nat.succ i) rest :: k, defers, .run, up, round⟩ H) := by
                intro hro hno t hset
                subst hro
                have hstep := step_op_recover (P := P) (b := b) (k := ks) (cs := cs) (w := w) (w' := w) (rest := List.range' (i + 1) rest.length) ho hwc hf.round (by rw [semAt_of _ _ hnd]; exact hsound)
                have htry : tryRecover (b.atR a (.inRegion ops (i :: List.range' (i + 1) rest.length) :: ks)) cs = none := by
                  cases up with
                  | none =>
                    have hk : b.kind = .normal := hf.kind
                    unfold tryRecover
                    rw [show (b.atR a (.inRegion ops (i :: List.range' (i + 1) rest.length) :: ks)).kind = b.kind from rfl, hk]
                  | some u =>
                    obtain ⟨c, cs', rfl, hmr⟩ := hu
                    have hk : b.kind = .deferred := hf.kind
                    unfold tryRecover
                    rw [show (b.atR a (.inRegion ops (i :: List.range' (i + 1) rest.length) :: ks)).kind = b.kind from rfl, hk]
                    simp only
                    cases u with
                    | run => rw [hmr]
                    | returning => rw [hmr]
                    | panicking ch =>
                      obtain ⟨ch', e1, hch⟩ := hmr
                      rw [e1]
                      cases ch with
                      | nil => simp only [CR] at hch; subst hch; rfl
                      | cons x ch =>
                        obtain ⟨v, rec⟩ := x
                        obtain ⟨v', l', rfl, _, _⟩ := hch
                        cases rec with
                        | false => exact (hno v ch rfl).elim
                        | true => rfl
                rw [htry] at hstep
                exact go_ok (.one hstep) ⟨hf.fn, TR.put htr hset (show VR φ .nilIface .nilIface from rfl), by rw [put_defers]; exact hf.dr, hf.round, hf.kind, hf.alone⟩ rfl (hitems (PLe.refl φ)) hw (Ext.refl _ _ _) (Keep.refl _ _) rfl rfl hu
              split
              · rename_i v older e
                cases e
                split
                · rename_i t hset
                  have hstep := step_op_recover (P := P) (b := b) (k := ks) (cs := cs) (w := w) (w' := w) (rest := List.range' (i + 1) rest.length) ho hwc hf.round (by rw [semAt_of _ _ hnd]; exact hsound)
                  obtain ⟨c, cs', rfl, ch', e1, hch⟩ := hu
                  obtain ⟨v', l', rfl, hv, hl⟩ := hch
                  have hk : b.kind = .deferred := hf.kind
                  have htry : tryRecover (b.atR a (.inRegion ops (i :: List.range' (i + 1) rest.length) :: ks)) (c :: cs') = some (v', { c with mode := .panicking ({ v := v', recovered := true } :: l') } :: cs') := by
                    unfold tryRecover
                    rw [show (b.atR a (.inRegion ops (i :: List.range' (i + 1) rest.length) :: ks)).kind = b.kind from rfl, hk]
                    simp only [e1]
                  rw [htry] at hstep
                  refine ⟨φ, w, _, _, .one hstep, ⟨b, _, _, rfl, ⟨hf.fn, TR.put htr hset hv, by rw [put_defers]; exact hf.dr, hf.round, hf.kind, hf.alone⟩, hitems (PLe.refl φ)⟩, ⟨_, _, rfl, _, rfl, v', l', rfl, hv, hl⟩, ⟨c, cs', _, rfl, rfl⟩, rfl, rfl, hw, Ext.refl _ _ _, Keep.refl _ _, rfl⟩
                · trivial
              · rename_i hno e
                cases e
                split
                · rename_i t hset
                  exact hnone rfl (fun v older hh => hno v older hh) t hset
                · trivial
              · trivial
end
end Go.Ev
