/- Forks: a range over a map with several entries left. Every order is followed. -/
import Derived.Test.YtbinpohgchgpaaaGreatEvRun
set_option linter.unusedVariables false
namespace Go.Ev

/-- What comes next of a map's entries: one branch for each entry that is left. -/
noncomputable def forksOf (H : AH) (fr : AFrame) (o : Oper) (todo : List AItem) (it : Operand) : Option (List StepR) :=
  match aval fr.tmps it with
  | some (.ptr r 0) => match H.obj r with
    | some (.mapIter (some m) since seen last) => match H.obj m with
      | some (.map es clock) =>
        bif !seen.isEmpty && !es.isEmpty && es.all (fun e => Nat.ble last e.2.2) then none else
        bif Nat.ble 2 (es.filter fun e => !seen.any (Nat.beq e.2.2)).length && (es.filter fun e => !seen.any (Nat.beq e.2.2)).all (fun e => Nat.ble (e.2.2 + 1) since) then
          some ((es.filter fun e => !seen.any (Nat.beq e.2.2)).map fun e => onSeq fr o todo (.tuple [.bool true, e.1, e.2.1]) (H.put r (.mapIter (some m) since (seen ++ [e.2.2]) clock)))
        else none
      | _ => none
    | _ => none
  | _ => none

noncomputable def forkOp (H : AH) (fr : AFrame) (ops : Array Oper) (i : Nat) (o : Oper) (rest : List Oper) (k : List AItem) : Op → Option (List StepR)
  | .next it false => match wantedA ops o fr.tmps.get with
    | some true => forksOf H fr o (.seq ops (Nat.succ i) rest :: k) it
    | _ => none
  | _ => none

noncomputable def forkAt (H : AH) (fr : AFrame) : Option (List StepR) :=
  match fr.mode, fr.todo with
  | .run, .seq ops i (o :: rest) :: k => forkOp H fr ops i o rest k o.op
  | _, _ => none

/-- Every branch ends, and all ends are as wanted. -/
noncomputable def expl (P : Program) (call : Caller) (Q : Res → Bool) : Nat → AFrame → AH → Bool
  | 0, _, _ => false
  | n + 1, fr, H => match forkAt H fr with
    | some l => l.all fun s => match s with
      | .go fr' H' => expl P call Q n fr' H'
      | _ => false
    | none => match stepA P call fr H with
      | .go fr' H' => expl P call Q n fr' H'
      | .done r => Q r
      | .stuck _ => false

section
variable {P : Program} {φ : Phi} {base m : Nat} {H : AH} {w : World} {ρ : Operand → Option AV} {ev : Operand → Value}

theorem ERs.nth : ∀ {es : List (AV × AV × Nat)} {ms : List MapEntry}, ERs φ es ms → ∀ {i : Nat} {x : MapEntry}, ms[i]? = some x → ∃ e, es[i]? = some e ∧ VR φ e.1 x.key ∧ VR φ e.2.1 x.val ∧ x.born = e.2.2
  | [], _, h, i, x, hi => by simp only [ERs] at h; subst h; simp at hi
  | (k, v, b) :: es, _, h, i, x, hi => by
    simp only [ERs] at h
    obtain ⟨y, ms, rfl, h1, h2, h3, h4⟩ := h
    cases i with
    | zero =>
      simp only [List.getElem?_cons_zero, Option.some.injEq] at hi
      subst hi
      exact ⟨_, rfl, h1, h2, h3⟩
    | succ i =>
      simp only [List.getElem?_cons_succ] at hi ⊢
      exact ERs.nth h4 hi

/-- The machine draws one of the entries that are left. -/
theorem nextMany_sound (hw : WR φ base H w) {r mm since last clock : Nat} {seen : List Nat} {es : List (AV × AV × Nat)} {er em : PE} {T : TypeId}
    (hr : H.obj r = some (.mapIter (some mm) since seen last)) (her : φ r = some er) (ho : H.obj mm = some (.map es clock)) (hem : φ mm = some em)
    (hc : (!seen.isEmpty && !es.isEmpty && es.all (fun e => Nat.ble last e.2.2)) = false)
    (h2l : 2 ≤ (es.filter fun e => !seen.any (Nat.beq e.2.2)).length) (hall : (es.filter fun e => !seen.any (Nat.beq e.2.2)).all (fun e => Nat.ble (e.2.2 + 1) since) = true) :
    ∃ e ∈ es.filter (fun e => !seen.any (Nat.beq e.2.2)),
      ValR P m base φ H w (do pure (.value (← Instr.next (.pointer (some ⟨er.b, 0, none⟩)) false T)) : Sem Next) (.tuple [.bool true, e.1, e.2.1]) (H.put r (.mapIter (some mm) since (seen ++ [e.2.2]) clock)) := by
  obtain ⟨o, hg, m', rfl, her0, hm'⟩ := hw.here r _ er hr her
  obtain ⟨e', he', rfl⟩ := hm'
  rw [hem] at he'; cases he'
  obtain ⟨o2, hg2, es', rfl, hes⟩ := hw.here mm _ em ho hem
  have h1 := getObj_at (P := P) hg rfl
  have h2 := getObj_at (P := P) hg2 rfl
  have hcond : (!seen.toArray.isEmpty && !es'.isEmpty && es'.all (fun x => decide (x.born ≥ last))) = false := by
    have e1 : seen.toArray.isEmpty = seen.isEmpty := by cases seen <;> rfl
    have e2 : es'.isEmpty = es.isEmpty := by
      have := hes.length
      cases es <;> cases es' <;> rename_i l <;> cases l <;> simp at this ⊢
    have e3 : es'.all (fun x => decide (x.born ≥ last)) = es.all (fun e => Nat.ble last e.2.2) := by
      rw [← hes.all (fun b => Nat.ble last b), ← Array.all_toList]
      congr 1
      funext x
      rw [Bool.eq_iff_iff]; simp
    rw [e1, e2, e3]; exact hc
  have hleft : ERs φ (es.filter fun e => !seen.any (Nat.beq e.2.2)) (es'.filter fun e => !seen.toArray.contains e.born).toList := by
    have := hes.filter (fun b => !seen.any (Nat.beq b))
    rw [Array.toList_filter]
    have e : (fun (e : MapEntry) => !seen.toArray.contains e.born) = (fun (x : MapEntry) => (fun b => !seen.any (Nat.beq b)) x.born) := by
      funext x; simp only [seen_contains]
    rw [e]; exact this
  generalize es.filter (fun e => !seen.any (Nat.beq e.2.2)) = left at h2l hall hleft ⊢
  generalize hL : es'.filter (fun e => !seen.toArray.contains e.born) = left' at hleft
  have hlen : left.length = left'.size := by have := hleft.length; simpa using this
  have hborn : ∀ x ∈ left'.toList, x.born < since := by
    intro x hx
    obtain ⟨i, hi⟩ := List.getElem?_of_mem hx
    obtain ⟨e, h3, _, _, h4⟩ := ERs.nth hleft hi
    have := List.all_eq_true.1 hall e (List.mem_of_getElem? h3)
    have := Nat.le_of_ble_eq_true this
    omega
  have o1 : left'.filter (fun e => decide (e.born < since)) = left' := by
    rw [Array.filter_eq_self]
    intro x hx
    simpa using hborn x (by simpa using hx)
  have o2 : left'.filter (fun e => decide (e.born ≥ since)) = #[] := by
    rw [Array.filter_eq_empty_iff]
    intro x hx
    have := hborn x (by simpa using hx)
    simp; omega
  have hlt : w.tape w.drawn (.mapNext left'.size) % left'.size < left'.size := Nat.mod_lt _ (by omega)
  generalize hj : w.tape w.drawn (.mapNext left'.size) % left'.size = j at hlt
  have hx : left'.toList[j]? = some left'[j] := by simp [hlt]
  obtain ⟨e, h3, h4, h5, h6⟩ := ERs.nth hleft hx
  have hwd : WR φ base H w.drew := hw.same_heap rfl
  obtain ⟨w', b1, b2, b3⟩ := hwd.setMap (P := P) (ob' := .mapIter (some mm) since (seen ++ [e.2.2]) clock) (o' := .mapIter (some em.b) since (seen ++ [e.2.2]).toArray clock) hr rfl her hg rfl
    ⟨some em.b, rfl, her0, em, hem, rfl⟩
  refine ⟨e, List.mem_of_getElem? h3, ValR.of (v' := .tuple #[.bool true, left'[j].key, left'[j].val]) ?_ (triple_VR (by simp [VR]) h4 h5) b2 (Ext.put her _) ((Keep.same_heap (base := base) (w' := w.drew) rfl).trans b3)⟩
  have hf : (Question.mapNext left'.size).forced = false := by
    show decide (left'.size ≤ 1) = false
    simp; omega
  have hne : left' ≠ #[] := by
    intro h0
    subst h0
    simp at hlt
  have b1' : (setObj er.b (.mapIter (some em.b) since (seen ++ [left'[j].born]).toArray clock)).run P w.drew = .ok () w' := by
    rw [← b1, h6]
  simp only [Instr.next, Sem.run_bind, h1, Result.andThen_ok, h2, hcond, hL, o1, o2]
  simp [hne, hf, hlt, Question.cut, hj]
  rw [b1']
  rfl

theorem fork_ok {call : Caller} {bs : Nat} {fr : AFrame} {b : Frame} {a : Act} {cs : List Frame} (hrun : fr.mode = .run) (hf : FR φ fr b a) (hw : WR φ bs H w) (hb : bs ≤ w.heap.size) (hm : m ≤ H.next) (hu : UpR φ fr.up cs) {ops : Array Oper} {i : Nat} {o : Oper} {rest : List Oper} {k : List AItem} {ks : List Item}
    (hdrop : o :: rest = ops.toList.drop i) (hi : IRs φ k ks) {l : List StepR} (h : forkOp H fr ops i o rest k o.op = some l) :
    ∃ s ∈ l, StepOk P m bs φ H w fr (b.atR a (.inRegion ops (List.range' i (rest.length + 1)) :: ks)) cs s := by
  obtain ⟨ho, hrest⟩ := seq_items hdrop
  rw [List.range'_succ]
  have htr := hf.tr
  have hitems : IRs φ (.seq ops (Nat.succ i) rest :: k) (.inRegion ops (List.range' (i + 1) rest.length) :: ks) := ⟨_, _, rfl, ⟨rfl, hrest⟩, hi⟩
  have hrel : Rel φ (aval fr.tmps) a.eval o.op.operands.toList := TR.rel htr _
  unfold forkOp at h
  split at h
  · rename_i it hop
    split at h
    · rename_i hwant
      have hwc : Region.wanted o (yielded ops a.tmps) = true := wanted_of (cur := fr.tmps) hwant fun g want d x _ _ hx => htr.2 d x hx
      unfold forksOf at h
      split at h
      · rename_i r hx
        obtain ⟨e, he, hv⟩ := hrel.of (x := it) (by rw [hop]; simp [Op.operands]) hx
        split at h
        · rename_i mm since seen last ho1
          split at h
          · rename_i es clock ho2
            obtain ⟨o3, hg, m', rfl, h0, em, hem, _⟩ := hw.here r _ e ho1 he
            cases hc : (!seen.isEmpty && !es.isEmpty && es.all (fun e => Nat.ble last e.2.2))
            case true => rw [hc] at h; cases h
            rw [hc] at h
            simp only [cond_false] at h
            obtain ⟨hcc, h⟩ := bif_some h
            simp only [Bool.and_eq_true] at hcc
            cases h
            obtain ⟨x, hx1, φ', w', v', g1, g2, g3, g4, g5⟩ := nextMany_sound (P := P) (m := m) (T := o.type) hw ho1 he ho2 hem hc (Nat.le_of_ble_eq_true hcc.1) hcc.2
            refine ⟨_, List.mem_map_of_mem hx1, ?_⟩
            refine onSeq_ok (v' := v') hrun (.one (step_op_value ho hwc ?_)) (hf.mono g4.1) g2 (hitems.mono g4.1) g3 g4 g5 hu
            rw [semAt_of _ _ (by rw [hop]; intro c hcx; cases hcx)]
            have hev : a.eval it = .pointer (some ⟨e.b, 0, none⟩) := by rw [hv, h0]
            rw [← hev] at g1
            have hx' : execOp a.eval o = (do pure (.value (← Instr.next (a.eval it) false o.type)) : Sem Next) := by
              simp only [execOp, hop]
            rw [hx']
            exact g1
          · cases h
        · cases h
      · cases h
    · cases h
  · cases h

/-- All ends are as wanted: so is the machine's. -/
theorem expl_sound (hmix : P.follows .mixedOrders = true) {call : Caller} (hc : CallerOK P call) {Q : Res → Bool} : ∀ (n : Nat) (fr : AFrame) (H : AH), expl P call Q n fr H = true → ∀ (φ : Phi) (w : World) (m bs : Nat) (cfr : Frame) (cs : List Frame), WR φ bs H w → bs ≤ w.heap.size → m ≤ H.next → FRel φ fr cfr → UpR φ fr.up cs →
    ∃ r, Q r = true ∧ RunOk P m bs φ H w cfr cs r fr.up fr.round
  | 0, fr, H, h => by cases h
  | n + 1, fr, H, h => by
    intro φ w m bs cfr cs hw hb hm hf hu
    have next : ∀ {fr' : AFrame} {H' : AH}, StepOk P m bs φ H w fr cfr cs (.go fr' H') → expl P call Q n fr' H' = true → ∃ r, Q r = true ∧ RunOk P m bs φ H w cfr cs r fr.up fr.round := by
      intro fr' H' hs he
      obtain ⟨φ', w', cfr', cs2, g1, g2, g3, g4, g5, g6, g7, g8, g9, g10⟩ := hs
      obtain ⟨r, hq, hr⟩ := expl_sound hmix hc n fr' H' he φ' w' m bs cfr' cs2 g7 (Nat.le_trans hb g9.1) (Nat.le_trans hm g8.2.1) g2 g3
      rw [g5] at hr
      exact ⟨r, hq, RunOk.after g1 g4 g6 g8 g9 g10 hr⟩
    simp only [expl] at h
    split at h
    · rename_i l hfk
      have hl : ∃ s ∈ l, StepOk P m bs φ H w fr cfr cs s := by
        unfold forkAt at hfk
        split at hfk
        · rename_i ops i o rest k hmode htodo
          unfold FRel at hf
          rw [hmode] at hf
          obtain ⟨b, a, todo, rfl, h1, h2⟩ := hf
          rw [htodo] at h2
          obtain ⟨y, ks, rfl, h3, h4⟩ := h2
          obtain ⟨rfl, hdrop⟩ := h3
          exact fork_ok (call := call) hmode h1 hw hb hm hu hdrop h4 hfk
        · cases hfk
      obtain ⟨s, hs, hok⟩ := hl
      have := List.all_eq_true.1 h s hs
      split at this
      · exact next hok this
      · cases this
    · have hstep := step_sound hmix hc fr H φ w m bs cfr cs hw hb hm hf hu
      split at h
      · rename_i fr' H' hs
        rw [hs] at hstep
        exact next hstep h
      · rename_i r hs
        rw [hs] at hstep
        exact ⟨r, h, hstep⟩
      · cases h
end
end Go.Ev
