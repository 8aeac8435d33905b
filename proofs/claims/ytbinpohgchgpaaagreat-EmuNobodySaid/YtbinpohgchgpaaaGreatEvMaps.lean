/- Operations that change maps. -/
import Derived.Test.YtbinpohgchgpaaaGreatEvHeavy
namespace Go.Ev

section
variable {P : Program} {φ : Phi} {base : Nat} {H : AH} {w : World} {ρ : Operand → Option AV} {ev : Operand → Value}

theorem eqFlat1_sound {a b : AV} {va vb : Value} (h : eqFlat1 a b = true) (ha : VR φ a va) (hb : VR φ b vb) (n : Nat) : va = vb ∧ Instr.sameBits n va vb = true := by
  unfold eqFlat1 at h
  split at h
  · simp only [Bool.and_eq_true, decide_eq_true_eq] at h
    obtain ⟨rfl, rfl⟩ := h
    simp only [VR] at ha hb
    subst ha hb
    exact ⟨rfl, by cases n <;> simp [Instr.sameBits]⟩
  · rw [eqNats_eq, decide_eq_true_eq] at h
    subst h
    obtain ⟨x, rfl, h1⟩ := ha
    obtain ⟨y, rfl, h2⟩ := hb
    have := toNats_inj (h1.trans h2.symm)
    subst this
    exact ⟨rfl, by cases n <;> simp [Instr.sameBits, beq_toListBytes]⟩
  · simp only [beq_iff_eq] at h
    subst h
    simp only [VR] at ha hb
    subst ha hb
    exact ⟨rfl, by cases n <;> simp [Instr.sameBits]⟩
  · cases h

theorem eqFlats_sound : ∀ {as bs : List AV} {va vb : List Value}, eqFlats as bs = true → VRs φ as va → VRs φ bs vb → ∀ n, va = vb ∧ (va.zip vb).all (fun p => Instr.sameBits n p.1 p.2) = true
  | [], [], va, vb, _, ha, hb, n => by simp only [VRs] at ha hb; subst ha hb; simp
  | a :: as, b :: bs, va, vb, h, ha, hb, n => by
    simp only [VRs] at ha hb
    obtain ⟨x, xs, rfl, h1, h2⟩ := ha
    obtain ⟨y, ys, rfl, h3, h4⟩ := hb
    simp only [eqFlats, Bool.and_eq_true] at h
    obtain ⟨e1, e2⟩ := eqFlat1_sound h.1 h1 h3 n
    obtain ⟨e3, e4⟩ := eqFlats_sound h.2 h2 h4 n
    subst e1 e3
    exact ⟨rfl, by simp only [List.zip_cons_cons, List.all_cons, Bool.and_eq_true]; exact ⟨e2, e4⟩⟩
  | [], _ :: _, _, _, h, _, _, _ => by simp [eqFlats] at h
  | _ :: _, [], _, _, h, _, _, _ => by simp [eqFlats] at h

theorem eqFlat_sound {a b : AV} {va vb : Value} (h : eqFlat a b = true) (ha : VR φ a va) (hb : VR φ b vb) (n : Nat) : va = vb ∧ Instr.sameBits (n + 1) va vb = true := by
  unfold eqFlat at h
  split at h
  · obtain ⟨x, rfl, h1⟩ := ha
    obtain ⟨y, rfl, h2⟩ := hb
    obtain ⟨e, e2⟩ := eqFlats_sound h h1 h2 n
    have : x = y := by cases x; cases y; simpa using e
    subst this
    exact ⟨rfl, by simp only [Instr.sameBits, beq_self_eq_true, Bool.true_and]; exact e2⟩
  · exact eqFlat1_sound h ha hb (n + 1)

theorem keyThatStays_run {old new : Value} (h : Instr.sameBits 10000 old new = true) (w : World) : (Instr.keyThatStays old new).run P w = .ok new w := by
  unfold Instr.keyThatStays
  rw [if_pos h]; rfl

theorem ERs.get : ∀ {es : List (AV × AV × Nat)} {ms : List MapEntry}, ERs φ es ms → ∀ {i : Nat} {k v : AV} {b : Nat}, es[i]? = some (k, v, b) → ∃ m, ms[i]? = some m ∧ VR φ k m.key ∧ VR φ v m.val ∧ m.born = b
  | [], _, _, i, _, _, _, h => by simp at h
  | (k, v, b) :: es, _, he, i, k', v', b', h => by
    simp only [ERs] at he
    obtain ⟨m, ms, rfl, h1, h2, h3, h4⟩ := he
    cases i with
    | zero => simp at h; obtain ⟨rfl, rfl, rfl⟩ := h; exact ⟨m, rfl, h1, h2, h3⟩
    | succ i => simp only [List.getElem?_cons_succ] at h ⊢; exact ERs.get h4 h

theorem ERs.modify {f : AV × AV × Nat → AV × AV × Nat} {g : MapEntry → MapEntry} : ∀ {es : List (AV × AV × Nat)} {ms : List MapEntry}, ERs φ es ms → ∀ {i : Nat},
    (∀ k v b m, es[i]? = some (k, v, b) → ms[i]? = some m → VR φ k m.key → VR φ v m.val → m.born = b → VR φ (f (k, v, b)).1 (g m).key ∧ VR φ (f (k, v, b)).2.1 (g m).val ∧ (g m).born = (f (k, v, b)).2.2) →
    ERs φ (setEntry es i f) (ms.modify i g)
  | [], _, he, i, _ => by simp only [ERs] at he; subst he; simp [setEntry, ERs]
  | (k, v, b) :: es, _, he, i, h => by
    simp only [ERs] at he
    obtain ⟨m, ms, rfl, h1, h2, h3, h4⟩ := he
    cases i with
    | zero =>
      obtain ⟨e1, e2, e3⟩ := h k v b m rfl rfl h1 h2 h3
      simp only [setEntry, List.modify_zero_cons]
      exact ⟨g m, ms, rfl, e1, e2, e3, h4⟩
    | succ i =>
      simp only [setEntry, List.modify_succ_cons]
      exact ⟨m, _, rfl, h1, h2, h3, ERs.modify h4 (fun k v b m a1 a2 => h k v b m (by simpa using a1) (by simpa using a2))⟩

theorem ERs.append : ∀ {es es' : List (AV × AV × Nat)} {ms ms' : List MapEntry}, ERs φ es ms → ERs φ es' ms' → ERs φ (es ++ es') (ms ++ ms')
  | [], _, _, _, he, h' => by simp only [ERs] at he; subst he; simpa using h'
  | (k, v, b) :: es, _, _, _, he, h' => by
    simp only [ERs] at he
    obtain ⟨m, ms, rfl, h1, h2, h3, h4⟩ := he
    exact ⟨m, _, rfl, h1, h2, h3, ERs.append h4 h'⟩

theorem ERs.erase : ∀ {es : List (AV × AV × Nat)} {ms : List MapEntry}, ERs φ es ms → ∀ i, ERs φ (eraseEntry es i) (ms.eraseIdx i)
  | [], _, he, i => by simp only [ERs] at he; subst he; simp [eraseEntry, ERs]
  | (k, v, b) :: es, _, he, i => by
    simp only [ERs] at he
    obtain ⟨m, ms, rfl, h1, h2, h3, h4⟩ := he
    cases i with
    | zero => simpa [eraseEntry] using h4
    | succ i => simp only [eraseEntry, List.eraseIdx_cons_succ]; exact ⟨m, _, rfl, h1, h2, h3, ERs.erase h4 i⟩

theorem ERs.findBorn : ∀ {es : List (AV × AV × Nat)} {ms : List MapEntry}, ERs φ es ms → ∀ (b : Nat), ms.findIdx? (fun e => (e.born : Int) == (b : Int)) = es.findIdx? (fun e => Nat.beq e.2.2 b)
  | [], _, he, b => by simp only [ERs] at he; subst he; simp
  | (k, v, b') :: es, _, he, b => by
    simp only [ERs] at he
    obtain ⟨m, ms, rfl, h1, h2, h3, h4⟩ := he
    simp only [List.findIdx?_cons]
    have e1 : ((m.born : Int) == (b : Int)) = Nat.beq b' b := by
      rw [Tr.nbeq, h3, Bool.eq_iff_iff]; simp; omega
    rw [e1, ERs.findBorn h4 b]

theorem heapSet {r : Nat} {o o' : Obj} (hb : w.heap[r]? = some o) : (w.heap.setIfInBounds r o')[r]? = some o' ∧ ∀ r', r' ≠ r → (w.heap.setIfInBounds r o')[r']? = w.heap[r']? := by
  have hlt : r < w.heap.size := (Array.getElem?_eq_some_iff.1 hb).1
  exact ⟨by simp [hlt], fun r' hne => by simp [Ne.symm hne]⟩

/-- A map's block is written. -/
theorem WR.setMap (hw : WR φ base H w) {id : Nat} {ob ob' : AObj} {e : PE} {o o' : Obj} (ho : H.obj id = some ob) (hl : ob.live = true) (he : φ id = some e) (hg : w.heap[e.b]? = some o) (hc : o.isCells = false) (hor : OR φ ob' e o') :
    ∃ w', (setObj e.b o').run P w = .ok () w' ∧ WR φ base (H.put id ob') w' ∧ Keep base w w' := by
  have hs := heapSet (o' := o') hg
  refine ⟨_, setObj_at (P := P) hg hc, hw.put ho hl he (by simp) (fun b hb => hs.2 b hb) ⟨o', hs.1, hor⟩, Keep.of_put hw he (by simp) (fun b hb => hs.2 b hb)⟩

theorem plainKey_desc {kt : TypeId} {k : AV} (hp : plainKey P kt k = true) : ∃ d, P.underlying kt = some d := by
  cases hkt : P.underlying kt with
  | none => simp [plainKey, hkt] at hp
  | some d => exact ⟨d, rfl⟩

theorem mapUpdateA_sound (hw : WR φ base H w) {t : TypeId} {m k v : AV} {vm vk vv : Value} {H' : AH} (h : mapUpdateA P H t m k v = some H') (hm : VR φ m vm) (hk : VR φ k vk) (hv : VR φ v vv) :
    ∃ w', (Instr.mapUpdate t vm vk vv).run P w = .ok () w' ∧ WR φ base H' w' ∧ Keep base w w' ∧ ∀ m, Ext m φ H φ H' := by
  unfold mapUpdateA at h
  split at h
  · rename_i kt elem id hu
    split at h
    · rename_i es clock ho
      obtain ⟨e, he, rfl⟩ := hm
      obtain ⟨o, hg, es', rfl, hes⟩ := hw.here id _ e ho he
      obtain ⟨hp, h⟩ := bif_some h
      obtain ⟨d, hd⟩ := plainKey_desc hp
      have hck := checkKey_sound (φ := φ) hp hk false 9998 w
      split at h
      · rename_i i x b hf
        obtain ⟨hsk, h⟩ := bif_some h
        cases h
        obtain ⟨r', h1, h2⟩ := find_sound hd hk hes hf w
        obtain ⟨me, k0, rfl, e3, e4, e5, e6⟩ := h2.at
        have e4' : es'[i]? = some me := by simpa using e4
        have hsame : vk = me.key ∧ Instr.sameBits 10000 me.key vk = true := by
          unfold sameKey at hsk
          rw [e3] at hsk
          obtain ⟨m', a1, a2, _, _⟩ := hes.get e3
          rw [e4] at a1; cases a1
          have := eqFlat_sound hsk a2 hk 9999
          exact ⟨this.1.symm, this.2⟩
        obtain ⟨w', b1, b2, b3⟩ := hw.setMap (P := P) (ob' := .map (setEntry es i fun e => (k, v, e.2.2)) clock) (o' := .map (es'.modify i fun e => { e with key := vk, val := vv }) clock) ho rfl he hg rfl
          ⟨_, rfl, by
            rw [Array.toList_modify]
            exact hes.modify (fun k v b m _ _ _ _ hb => ⟨hk, hv, hb⟩)⟩
        refine ⟨w', ?_, b2, b3, fun m => Ext.put he _⟩
        simp only [Instr.mapUpdate, Sem.run_bind, run_underlying hu w, Result.andThen_ok, getObj_at (P := P) hg rfl, hck, h1, e4', Option.map_some, Option.getD_some, keyThatStays_run (P := P) hsame.2, b1]
      · rename_i hf
        cases h
        obtain ⟨r', h1, h2⟩ := find_sound hd hk hes hf w
        simp only [FindR] at h2
        subst h2
        obtain ⟨w', b1, b2, b3⟩ := hw.setMap (P := P) (ob' := .map (es ++ [(k, v, clock)]) (clock + 1)) (o' := .map (es'.push { key := vk, val := vv, born := clock }) (clock + 1)) ho rfl he hg rfl
          ⟨_, rfl, by
            rw [Array.toList_push]
            exact hes.append ⟨_, [], rfl, hk, hv, rfl, by simp [ERs]⟩⟩
        refine ⟨w', ?_, b2, b3, fun m => Ext.put he _⟩
        simp only [Instr.mapUpdate, Sem.run_bind, run_underlying hu w, Result.andThen_ok, getObj_at (P := P) hg rfl, hck, h1, b1]
      · cases h
    · cases h
  · cases h
end
end Go.Ev
