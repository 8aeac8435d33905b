/- Operations that only read: the theorem. -/
import Derived.Test.YtbinpohgchgpaaaGreatEvRead7
namespace Go.Ev

section
variable {P : Program} {φ : Phi} {base : Nat} {H : AH} {w : World} {ρ : Operand → Option AV} {ev : Operand → Value}

theorem execV {s : Sem Value} {v : Value} (h : s.run P w = .ok v w) : (do pure (.value (← s)) : Sem Next).run P w = .ok (.value v) w := by
  simp [h]

theorem rel_parts {parts : Array (Nat × Operand)} {l : List Operand} (hr : Rel φ ρ ev l) (hs : ∀ x ∈ (parts.toList.map (·.2)), x ∈ l) : Rel φ ρ ev (parts.toList.map (·.2)) := hr.sub hs

theorem buildS_sound {t : TypeId} {fields : Array Field} {z v : AV} {vz : Value} {ps : List (Nat × AV)} {parts : Array (Nat × Value)} (hu : P.underlying t = some (.struct fields)) (hz : VR φ z vz) (hzr : (zeroValue t).run P w = .ok vz w)
    (hp : PartsR φ ps parts.toList) (h : buildS P z fields ps = some v) : ∃ v', (Instr.build t parts).run P w = .ok v' w ∧ VR φ v v' := by
  unfold buildS at h
  split at h
  · rename_i pl hpl
    obtain ⟨cs, hf, rfl⟩ := opt2 h
    obtain ⟨r', h1, h2⟩ := fillA_sound hp (AV.cells_rel hz) hf
    refine ⟨.agg r', ?_, ⟨_, rfl, h2⟩⟩
    have h3 := placesT_sound hpl w
    have h4 : (fun (x : Nat) => (pl.toArray)[x]?) = (fun (x : Nat) => pl[x]?) := by funext x; simp
    simp only [Instr.build, Sem.run_bind, hzr, Result.andThen_ok, run_underlying hu w, h3, h4, h1, Sem.run_pure]
  · cases h

theorem buildR_sound {t elem : TypeId} {n : Nat} {z v : AV} {vz : Value} {ps : List (Nat × AV)} {parts : Array (Nat × Value)} (hu : P.underlying t = some (.array n elem)) (hz : VR φ z vz) (hzr : (zeroValue t).run P w = .ok vz w)
    (hp : PartsR φ ps parts.toList) (h : buildR P z elem ps = some v) : ∃ v', (Instr.build t parts).run P w = .ok v' w ∧ VR φ v v' := by
  unfold buildR at h
  split at h
  · rename_i s hs
    obtain ⟨cs, hf, rfl⟩ := opt2 h
    obtain ⟨r', h1, h2⟩ := fillA_sound hp (AV.cells_rel hz) hf
    refine ⟨.agg r', ?_, ⟨_, rfl, h2⟩⟩
    simp only [Instr.build, Sem.run_bind, hzr, Result.andThen_ok, run_underlying hu w, sizeT_run hs w, h1, Sem.run_pure]
  · cases h

theorem lBuild_sound {t : TypeId} {parts : Array (Nat × Operand)} {v : AV} (hr : Rel φ ρ ev (parts.toList.map (·.2))) (h : lBuild P ρ t parts = some v) :
    ∃ v', (Instr.build t (parts.map fun (i, x) => (i, ev x))).run P w = .ok v' w ∧ VR φ v v' := by
  unfold lBuild at h
  split at h
  · rename_i z fields ps e1 e2 e3
    obtain ⟨vz, h1, h2⟩ := zeroT_sound (φ := φ) e1
    exact buildS_sound e2 h1 (h2 w) (by have := aparts_sound hr e3; simpa using this) h
  · rename_i z n elem ps e1 e2 e3
    obtain ⟨vz, h1, h2⟩ := zeroT_sound (φ := φ) e1
    exact buildR_sound e2 h1 (h2 w) (by have := aparts_sound hr e3; simpa using this) h
  · cases h

theorem zeroBound_eq {a : Option AV} (h : zeroBound a = true) : (match a with | some v => natOf v | none => some 0) = some 0 := by
  cases a with
  | none => rfl
  | some v =>
    simp only [zeroBound] at h
    cases hn : natOf v with
    | none => simp [hn] at h
    | some n =>
      simp only [hn, Option.any_some] at h
      have := Nat.eq_of_beq_eq_true h
      simp [hn, ← this]

theorem lSlice_sound (hw : WR φ base H w) {t : TypeId} {x : Operand} {lo hi mx : Option Operand} {v : AV} (hr : Rel φ ρ ev ((#[x] ++ lo.toArray ++ hi.toArray ++ mx.toArray).toList)) (h : lSlice P ρ H t x lo hi mx = some v) :
    ∃ v', (Instr.sliceAt t (ev x) (lo.map ev) (hi.map ev) (mx.map ev)).run P w = .ok v' w ∧ VR φ v v' := by
  unfold lSlice at h
  split at h
  · rename_i l hh m e1 e2 e3
    have r1 := optR_of (hr.sub (l' := lo.toList) (fun y hy => by cases lo <;> simp at hy; subst hy; simp)) e1
    have r2 := optR_of (hr.sub (l' := hi.toList) (fun y hy => by cases hi <;> simp at hy; subst hy; simp)) e2
    have r3 := optR_of (hr.sub (l' := mx.toList) (fun y hy => by cases mx <;> simp at hy; subst hy; simp)) e3
    have rx : ∀ a, ρ x = some a → VR φ a (ev x) := hr x (by simp)
    split at h
    · rename_i s hu hx
      obtain ⟨b, hb, rfl⟩ := rx _ hx
      obtain ⟨hm, h⟩ := bif_some h
      have hm' : m = none := by cases m <;> simp at hm ⊢
      subst hm'
      have hmx : mx.map ev = none := by rcases r3 with ⟨_, h⟩ | ⟨_, _, e, _⟩; exact h; cases e
      obtain ⟨l', h', h1, h2⟩ := sliceStr_sound (P := P) h r1 r2 w
      refine ⟨_, ?_, h2⟩
      simp [Instr.sliceAt, Instr.slice, run_underlying hu w, hb, hmx, h1]
    · rename_i elem id off len cap sz ex hu hx
      obtain ⟨hs, h⟩ := bif_some h
      obtain ⟨e, y, c, he, hv, hy, hlen, hex, hroom⟩ := rx _ hx
      obtain ⟨l', h', m', h1, h2⟩ := sliceSl_sound (P := P) h he hy hlen hex hroom r1 r2 r3 w true
      have hsz : sizeT P elem = some sz := by
        cases hq : sizeT P elem with
        | none => simp [hq] at hs
        | some s => simp [hq] at hs; rw [hs]
      refine ⟨_, ?_, h2⟩
      by_cases hml : m' = l'
      · simp [Instr.sliceAt, Instr.slice, run_underlying hu w, hv, h1, sizeT_run hsz w, hml]
      · simp [Instr.sliceAt, Instr.slice, run_underlying hu w, hv, h1, sizeT_run hsz w, hml]
    · rename_i elem hu hx
      have hv := rx _ hx
      simp only [VR] at hv
      obtain ⟨hz, h⟩ := bif_some h
      cases h
      simp only [Bool.and_eq_true] at hz
      obtain ⟨⟨⟨⟨z1, z2⟩, z3⟩, z4⟩, z5⟩ := hz
      obtain ⟨sz, hsz⟩ := Option.isSome_iff_exists.1 z5
      refine ⟨.slice none 0 0, ?_, by simp [VR]⟩
      have b1 := zeroBound_eq z1
      have b2 := zeroBound_eq z2
      have key : (Instr.sliceBounds true 0 0 (lo.map ev) (hi.map ev) (mx.map ev)).run P w = .ok (0, 0, 0) w := by
        cases m with
        | none =>
          have hmx : mx.map ev = none := by rcases r3 with ⟨_, h⟩ | ⟨_, _, e, _⟩; exact h; cases e
          rw [hmx]
          exact sliceBounds2 b2 b1 r1 r2 (Nat.le_refl _) (Nat.le_refl _) w
        | some ma =>
          cases hh with
          | none => simp at z4
          | some ha =>
            rcases r3 with ⟨e, _⟩ | ⟨ma', mv, e, hmv, hma⟩
            · cases e
            · cases e
              rcases r2 with ⟨e, _⟩ | ⟨ha', hv', e, hhv, hha⟩
              · cases e
              · cases e
                rw [hmv, hhv]
                exact sliceBounds3 (zeroBound_eq z3) hma b2 hha b1 r1 (Nat.le_refl _) (Nat.le_refl _) (Nat.le_refl _) w
      simp [Instr.sliceAt, Instr.slice, run_underlying hu w, hv, key, sizeT_run hsz w]
    · rename_i n elem id off hu hx
      obtain ⟨e, he, hv⟩ := rx _ hx
      split at h
      · rename_i sz vs hs hvs
        obtain ⟨hb, h⟩ := bif_some h
        obtain ⟨cs, el, hg, hsz, hle, _, _⟩ := hw.cells hvs he
        have hroom : e.o + off + n * sz ≤ e.n := by have := Nat.le_of_ble_eq_true hb; omega
        obtain ⟨l', h', m', h1, h2⟩ := sliceSl_sound (P := P) h he (.inr rfl) (Nat.le_refl n) (fun _ => rfl) hroom r1 r2 r3 w false
        refine ⟨_, ?_, h2⟩
        by_cases hml : m' = l'
        · simp [Instr.sliceAt, Instr.sureAddr, run_underlying hu w, hv, h1, sizeT_run hs w, hml]
        · simp [Instr.sliceAt, Instr.sureAddr, run_underlying hu w, hv, h1, sizeT_run hs w, hml]
      · cases h
    · cases h
  · cases h
theorem lBuiltin_sound (hw : WR φ base H w) {b : Builtin} {args : List AV} {argTypes : Array TypeId} {T : TypeId} {vs : Array Value} {v : AV} (hv : VRs φ args vs.toList) (h : lBuiltin P H b args argTypes = some v) :
    ∃ v', (∀ consts, (builtin b argTypes T consts vs).run P w = .ok (.value v') w) ∧ VR φ v v' := by
  unfold lBuiltin at h
  split at h
  · rename_i x
    simp only [VRs] at hv
    obtain ⟨vx, rest, e, hx, rfl⟩ := hv
    have h0 : vs[0]? = some vx := by rw [← Array.getElem?_toList, e]; rfl
    unfold lLen at h
    split at h
    · rename_i n elem hu
      cases h
      cases ht : argTypes[0]? with
      | none => simp [ht] at hu
      | some t =>
        simp only [ht, Option.bind_some] at hu
        exact ⟨goInt n, fun _ => by simp [builtin, Builtin.len_, ht, h0, run_underlying hu w], goIntA_sound n⟩
    · rename_i d _ hu
      obtain ⟨hf, h⟩ := bif_some h
      obtain ⟨n, hn, rfl⟩ := opt2 h
      cases ht : argTypes[0]? with
      | none => simp [ht] at hu
      | some t =>
        simp only [ht, Option.bind_some] at hu
        exact ⟨goInt n, fun _ => by simp [builtin, lenA_sound (P := P) (T := T) hw hx hn hu hf ht h0], goIntA_sound n⟩
    · cases h
  · rename_i x
    simp only [VRs] at hv
    obtain ⟨vx, rest, e, hx, rfl⟩ := hv
    have h0 : vs[0]? = some vx := by rw [← Array.getElem?_toList, e]; rfl
    unfold lCap at h
    split at h
    · rename_i elem id off len c sz hu
      cases h
      obtain ⟨e', y, c', he, rfl, hy, hlen, hex, hroom⟩ := hx
      cases ht : argTypes[0]? with
      | none => simp [ht] at hu
      | some t =>
        simp only [ht, Option.bind_some] at hu
        exact ⟨goInt c', fun _ => by simp [builtin, Builtin.cap_, ht, h0, run_underlying hu w], by rw [hex rfl]; exact goIntA_sound c⟩
    · rename_i elem hu
      cases h
      simp only [VR] at hx
      subst hx
      cases ht : argTypes[0]? with
      | none => simp [ht] at hu
      | some t =>
        simp only [ht, Option.bind_some] at hu
        exact ⟨goInt 0, fun _ => by simp [builtin, Builtin.cap_, ht, h0, run_underlying hu w], goIntA_sound 0⟩
    · cases h
  · rename_i a l
    simp only [VRs] at hv
    obtain ⟨va, rest, e, ha, hl⟩ := hv
    obtain ⟨v', h1, h2⟩ := foldMM_sound (P := P) (w := w) ha hl h
    refine ⟨v', fun _ => ?_, h2⟩
    simp only [if_true] at h1
    simp [builtin, Builtin.max_, e, h1]
  · rename_i a l
    simp only [VRs] at hv
    obtain ⟨va, rest, e, ha, hl⟩ := hv
    obtain ⟨v', h1, h2⟩ := foldMM_sound (P := P) (w := w) ha hl h
    refine ⟨v', fun _ => ?_, h2⟩
    simp only [Bool.false_eq_true, if_false] at h1
    simp [builtin, Builtin.min_, e, h1]
  · cases h

/-- The theorem: what an operation that only reads comes to. -/
theorem read_sound {o : Oper} {v : AV} (hw : WR φ base H w) (hr : Rel φ ρ ev o.op.operands.toList) (h : readA P ρ H o.op = some v) :
    ∃ v', (execOp ev o).run P w = .ok (.value v') w ∧ VR φ v v' := by
  cases o with
  | mk dst op type pos after guard =>
  simp only at hr h
  cases op <;> simp only [readA] at h <;> try (cases h; done)
  case move x => exact ⟨ev x, by simp [execOp], hr x (by simp [Op.operands]) v h⟩
  case assign x => exact ⟨ev x, by simp [execOp], hr x (by simp [Op.operands]) v h⟩
  case pick c a b =>
    unfold lPick at h
    split at h
    · rename_i t hc
      have h1 := hr c (by simp [Op.operands]) _ hc
      simp only [VR] at h1
      cases t
      · simp only [cond_false] at h
        exact ⟨ev b, by simp [execOp, h1, asBool], hr b (by simp [Op.operands]) v h⟩
      · simp only [cond_true] at h
        exact ⟨ev a, by simp [execOp, h1, asBool], hr a (by simp [Op.operands]) v h⟩
    · cases h
  case build t parts =>
    obtain ⟨v', h1, h2⟩ := lBuild_sound (ev := ev) (w := w) (hr.sub (fun x hx => by simpa [Op.operands] using hx)) h
    exact ⟨v', by simp only [execOp]; exact execV h1, h2⟩
  case load t a =>
    unfold lLoad at h
    split at h
    · rename_i id off ha
      obtain ⟨e, he, hv⟩ := hr a (by simp [Op.operands]) _ ha
      obtain ⟨v', h1, h2⟩ := loadA_sound hw h he
      exact ⟨v', by simp only [execOp]; exact execV (by simp [Instr.loadAt, Instr.sureAddr, hv, h1]), h2⟩
    · cases h
  case nilCheck x =>
    unfold lNilCheck at h
    split at h
    · rename_i id off hx
      cases h
      have h0 := hr x (by simp [Op.operands]) _ hx
      obtain ⟨e, he, hv⟩ := h0
      exact ⟨ev x, by simp [execOp, hv], e, he, hv⟩
    · rename_i f l c hx
      cases h
      have h0 := hr x (by simp [Op.operands]) _ hx
      have h1 := h0
      obtain ⟨f', c', hv, _⟩ := h0
      exact ⟨ev x, by simp [execOp, hv], h1⟩
    · rename_i t a hx
      cases h
      have h0 := hr x (by simp [Op.operands]) _ hx
      have h1 := h0
      obtain ⟨a', hv, _⟩ := h0
      exact ⟨ev x, by simp [execOp, hv], h1⟩
    · cases h
  case binOp op t x y yt =>
    unfold lBin at h
    split at h
    · rename_i a b ha hb
      obtain ⟨v', h1, h2⟩ := binA_sound (P := P) (hr x (by simp [Op.operands]) _ ha) (hr y (by simp [Op.operands]) _ hb) h w
      exact ⟨v', by simp only [execOp]; exact execV h1, h2⟩
    · cases h
  case unOp op t x =>
    unfold lUn at h
    split at h
    · rename_i a ha
      cases hv : toV a with
      | none => simp [hv] at h
      | some va =>
        simp only [hv, Option.bind_some] at h
        have h0 := toV_sound hv (hr x (by simp [Op.operands]) _ ha)
        cases hp : pureRun P (Op.unary op va) with
        | none => simp [hp] at h
        | some v' =>
          simp only [hp, Option.bind_some] at h
          exact ⟨v', by simp only [execOp]; exact execV (by rw [h0]; exact pureRun_run hp w), ofV_sound h⟩
    · cases h
  case convert src dst x =>
    unfold lConvert at h
    split at h
    · rename_i k0 k k1 n h1 h2 h3
      cases h
      have h0 := hr x (by simp [Op.operands]) _ h3
      simp only [VR] at h0
      exact ⟨.int k (k.wrap n), by simp only [execOp]; exact execV (by simp [convert, run_underlying h1 w, run_underlying h2 w, h0, Conv.intToInt]), by simp [VR]⟩
    · rename_i s h1 h2 h3
      cases h
      have h0 := hr x (by simp [Op.operands]) _ h3
      obtain ⟨b, hb, e⟩ := h0
      exact ⟨.string b, by simp only [execOp]; exact execV (by simp [convert, run_underlying h1 w, run_underlying h2 w, hb]), b, rfl, e⟩
    · cases h
  case makeInterface t x =>
    unfold lMakeInterface at h
    split at h
    · cases h
    · rename_i d a hni hu ha
      cases h
      refine ⟨.iface t (ev x), ?_, _, rfl, hr x (by simp [Op.operands]) _ ha⟩
      simp only [execOp]
      refine execV ?_
      simp only [Instr.makeInterface, Sem.run_bind, run_underlying hu w, Result.andThen_ok]
      cases d <;> first
        | rfl
        | (exact absurd rfl (hni _))
    · cases h
  case makeFunc fn first captured =>
    unfold lMakeFunc at h
    split at h
    · rename_i f c hf hc
      cases hy : isYield fn
      · rw [hy] at h
        cases h
        refine ⟨.func fn (first.map ev) (captured.map ev), by simp only [execOp]; exact execV (by simp [Instr.makeFunc]), _, _, rfl, hy, ?_, ?_⟩
        · have := avals_sound (hr.sub (l' := first.toList) (fun x hx => by simp only [Op.operands, Array.toList_append, List.mem_append]; exact .inl hx)) hf
          simpa using this
        · have := avals_sound (hr.sub (l' := captured.toList) (fun x hx => by simp only [Op.operands, Array.toList_append, List.mem_append]; exact .inr hx)) hc
          simpa using this
      · rw [hy] at h; cases h
    · cases h
  case slice t x lo hi mx =>
    obtain ⟨v', h1, h2⟩ := lSlice_sound (P := P) hw (hr.sub (fun y hy => by simpa [Op.operands] using hy)) h
    exact ⟨v', by simp only [execOp]; exact execV h1, h2⟩
  case fieldAddr s x f =>
    unfold lFieldAddr at h
    split at h
    · rename_i fields id off hu hx
      obtain ⟨e, he, hv⟩ := hr x (by simp [Op.operands]) _ hx
      unfold fieldPtr at h
      split at h
      · rename_i fd hfd
        split at h
        · rename_i sz hsz
          cases h
          refine ⟨.pointer (some ⟨e.b, e.o + (off + fd.offset), none⟩), ?_, e, he, rfl⟩
          simp only [execOp]
          refine execV ?_
          simp only [Instr.fieldAt, Sem.run_bind, run_underlying hu w, Result.andThen_ok, hfd, Instr.sureAddr, hv, Sem.run_pure, fieldPlace, sizeT_run hsz w]
          simp [add_addr, Nat.add_assoc]
        · cases h
      · cases h
    · cases h
  case field t x f =>
    unfold lField at h
    split at h
    · rename_i fields cs hu hx
      obtain ⟨cs', hv, hc⟩ := hr x (by simp [Op.operands]) _ hx
      unfold fieldOf at h
      split at h
      · rename_i fd hfd
        obtain ⟨v', h1, h2⟩ := partA_sound hc h w
        exact ⟨v', by simp only [execOp]; exact execV (by simp [Instr.field, run_underlying hu w, hfd, hv, asAgg, h1]), h2⟩
      · cases h
    · cases h
  case indexAddr t x i =>
    unfold lIndexAddr at h
    split at h
    · rename_i n elem id off k j hu hx hi
      obtain ⟨e, he, hv⟩ := hr x (by simp [Op.operands]) _ hx
      have hi' := hr i (by simp [Op.operands]) _ hi
      simp only [VR] at hi'
      obtain ⟨s, hs, hlt, rfl⟩ := elemPtr_sound h
      refine ⟨.pointer (some ⟨e.b, e.o + (off + j * s), none⟩), ?_, e, he, rfl⟩
      simp only [execOp]
      refine execV ?_
      simp [Instr.indexAt, hi', asIntOf, run_underlying hu w, Instr.sureAddr, hv, hlt, hs, add_addr, Nat.add_assoc]
    · rename_i elem id off len cap sz ex k j hu hx hi
      obtain ⟨e, y, c, he, hv, hy, hlen, hex, hroom⟩ := hr x (by simp [Op.operands]) _ hx
      have hi' := hr i (by simp [Op.operands]) _ hi
      simp only [VR] at hi'
      obtain ⟨s, hs, hlt, rfl⟩ := elemPtr_sound h
      have hy' : y = e.o + off := by rcases hy with h | h <;> omega
      subst hy'
      refine ⟨.pointer (some ⟨e.b, e.o + (off + j * s), none⟩), ?_, e, he, rfl⟩
      simp only [execOp]
      refine execV ?_
      simp [Instr.indexAt, hi', asIntOf, run_underlying hu w, hv, hlt, hs, add_addr, Nat.add_assoc]
    · cases h
  case index t x i =>
    unfold lIndex at h
    split at h
    · rename_i n elem cs k j hu hx hi
      obtain ⟨cs', hv, hc⟩ := hr x (by simp [Op.operands]) _ hx
      have hi' := hr i (by simp [Op.operands]) _ hi
      simp only [VR] at hi'
      unfold elemOfA at h
      split at h
      · rename_i s hs
        obtain ⟨hb, h⟩ := bif_some h
        obtain ⟨v', h1, h2⟩ := partA_sound hc h w
        have hlt : j < n := by have := Nat.le_of_ble_eq_true hb; omega
        exact ⟨v', by simp only [execOp]; exact execV (by simp [Instr.index, hi', asIntOf, run_underlying hu w, hv, hlt, sizeT_run hs w, h1]), h2⟩
      · cases h
    · rename_i s k j hu hx hi
      obtain ⟨b, hv, rfl⟩ := hr x (by simp [Op.operands]) _ hx
      have hi' := hr i (by simp [Op.operands]) _ hi
      simp only [VR] at hi'
      unfold byteAt at h
      split at h
      · rename_i c hc
        cases h
        have hj : ∃ u, b[j]? = some u ∧ u.toNat = c := by
          simp only [toNats, List.getElem?_map] at hc
          cases hq : b.data.toList[j]? with
          | none => simp [hq] at hc
          | some u =>
            simp only [hq, Option.map_some, Option.some.injEq] at hc
            refine ⟨u, ?_, hc⟩
            obtain ⟨hlt, hq'⟩ := List.getElem?_eq_some_iff.1 hq
            have hlt' : j < b.size := by simpa using hlt
            rw [getElem?_pos b j hlt']
            simp only [← hq']; rfl
        obtain ⟨u, hu1, hu2⟩ := hj
        exact ⟨.int .u8 u.toNat, by simp only [execOp]; exact execV (by simp [Instr.index, hi', asIntOf, run_underlying hu w, hv, hu1]), by simp [VR, hu2]⟩
      · cases h
    · cases h
  case lookup t x k ok =>
    unfold lLookup at h
    split at h
    · rename_i kt elem m key hu hx hk
      obtain ⟨v', h1, h2⟩ := lookA_sound (P := P) hw hu h (hr x (by simp [Op.operands]) _ hx) (hr k (by simp [Op.operands]) _ hk)
      exact ⟨v', by simp only [execOp]; exact execV h1, h2⟩
    · cases h
  case typeAssert x xt asserted ok =>
    unfold lTypeAssert at h
    split at h
    · cases h
    · rename_i d a hni hu hx
      obtain ⟨v', h1, h2⟩ := assertA_sound (P := P) (xT := xt) hu (fun ms e => hni ms e) h (hr x (by simp [Op.operands]) _ hx) w
      exact ⟨v', by simp only [execOp]; exact execV h1, h2⟩
    · cases h
  case extract x i =>
    unfold lExtract at h
    split at h
    · rename_i vs hx
      obtain ⟨vs', hv, hvs⟩ := hr x (by simp [Op.operands]) _ hx
      obtain ⟨v', h1, h2⟩ := hvs.get h
      have h3 : vs'[i]? = some v' := by simpa using h1
      exact ⟨v', by simp only [execOp]; exact execV (by simp [Instr.extract, hv, h3]), h2⟩
    · cases h
  case call c =>
    obtain ⟨callee, args, argTypes⟩ := c
    cases callee <;> simp only at h <;> try (cases h; done)
    rename_i b
    unfold lCall at h
    split at h
    · rename_i l hl
      have hvs := avals_sound (hr.sub (l' := args.toList) (fun x hx => by simp [Op.operands, Call.operands]; simpa using hx)) hl
      obtain ⟨v', h1, h2⟩ := lBuiltin_sound (P := P) (T := type) hw (vs := args.map ev) (by simpa using hvs) h
      refine ⟨v', ?_, h2⟩
      simp only [execOp, resolve, Sem.run_bind, Sem.run_pure, Result.andThen_ok, invoke]
      exact h1 _
    · cases h
end
end Go.Ev
