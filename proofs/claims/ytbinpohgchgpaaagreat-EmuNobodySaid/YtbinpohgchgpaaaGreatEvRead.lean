/- The heap's relation; operations that only read. -/
import Derived.Test.YtbinpohgchgpaaaGreatEvRel
namespace Go.Ev

def ERs (φ : Phi) : List (AV × AV × Nat) → List MapEntry → Prop
  | [], l => l = []
  | (k, v, b) :: es, l => ∃ m ms, l = m :: ms ∧ VR φ k m.key ∧ VR φ v m.val ∧ m.born = b ∧ ERs φ es ms

def DR (φ : Phi) : ADef → Deferred → Prop
  | .call fn cap args, d => ∃ cap' args' : Array Value, d = { target := .fn fn cap', args := args' } ∧ isYield fn = false ∧ VRs φ cap cap'.toList ∧ VRs φ args args'.toList
  | .collected r, d => ∃ e, φ r = some e ∧ d = { target := .collected e.b, args := #[] }

def DRs (φ : Phi) : List ADef → List Deferred → Prop
  | [], l => l = []
  | a :: as, l => ∃ d ds, l = d :: ds ∧ DR φ a d ∧ DRs φ as ds

/-- The slots. -/
def TR (φ : Phi) (t : Tr AV) (nt : Nat) (tmps : Array Value) : Prop :=
  tmps.size = nt ∧ ∀ i a, t.get i = some a → ∃ v, tmps[i]? = some v ∧ VR φ a v

def OR (φ : Phi) : AObj → PE → Obj → Prop
  | .cells vs _, e, o => ∃ cs el, o = .cells cs el (0, 0) ∧ cs.size = e.n ∧ e.o + vs.length ≤ e.n ∧ VRs φ vs ((cs.toList.drop e.o).take vs.length) ∧ vs.all AV.one = true
  | .map es clock, _, o => ∃ es' : Array MapEntry, o = .map es' clock ∧ ERs φ es es'.toList
  | .strIter s pos, e, o => ∃ b, o = .stringIter b pos ∧ toNats b = s ∧ e.o = 0
  | .mapIter m since seen stepped, e, o => ∃ m', o = .mapIter m' since seen.toArray stepped ∧ e.o = 0 ∧ (match m with | none => m' = none | some id => ∃ e, φ id = some e ∧ m' = some e.b)
  | .loop st p fn tmps nt ps a b d, _, o => ∃ tmps' ed, o = .loop { state := st, pending := p, fn, tmps := tmps', params := ps.toArray, assign := a, body := b, defers := ed.b } ∧ φ d = some ed ∧ TR φ tmps nt tmps'
  | .deferred ds, _, o => (match ds with | none => o = .deferred none | some l => ∃ l', o = .deferred (some l') ∧ DRs φ l l')
  | .dead _, _, _ => True
  | .rep z n _, e, o => ∃ cs el, o = .cells cs el (0, 0) ∧ cs.size = e.n ∧ e.o + (replic z n).length ≤ e.n ∧ VRs φ (replic z n) ((cs.toList.drop e.o).take (replic z n).length) ∧ (replic z n).all AV.one = true
  | .bag es, _, o => ∃ (l : List (AV × AV × Nat)) (es' : Array MapEntry) (clock : Nat), o = .map es' clock ∧ (l.map fun x => (x.1, x.2.1)).Perm es ∧ ERs φ l es'.toList

def AObj.live : AObj → Bool
  | .dead _ => false
  | _ => true

structure WR (φ : Phi) (base : Nat) (H : AH) (w : World) : Prop where
  here : ∀ id ob e, H.obj id = some ob → φ id = some e → ∃ o, w.heap[e.b]? = some o ∧ OR φ ob e o
  inj : ∀ id id' ob ob' e e', H.obj id = some ob → ob.live = true → φ id = some e → H.obj id' = some ob' → ob'.live = true → φ id' = some e' → e.b = e'.b → id = id'
  lt : ∀ id e, φ id = some e → e.b < w.heap.size ∧ base ≤ e.b ∧ id < H.next
  nx : ∀ id ob, H.obj id = some ob → id < H.next

/-- What operands stand for. -/
def Rel (φ : Phi) (ρ : Operand → Option AV) (ev : Operand → Value) (l : List Operand) : Prop := ∀ x ∈ l, ∀ a, ρ x = some a → VR φ a (ev x)

theorem Rel.of {φ : Phi} {ρ : Operand → Option AV} {ev : Operand → Value} {l : List Operand} (h : Rel φ ρ ev l) {x : Operand} (hx : x ∈ l) {a : AV} (ha : ρ x = some a) : VR φ a (ev x) := h x hx a ha

theorem Rel.sub {φ : Phi} {ρ : Operand → Option AV} {ev : Operand → Value} {l l' : List Operand} (h : Rel φ ρ ev l) (hs : ∀ x ∈ l', x ∈ l) : Rel φ ρ ev l' := fun x hx => h x (hs x hx)

theorem avals_sound {φ : Phi} {ρ : Operand → Option AV} {ev : Operand → Value} : ∀ {l : List Operand} {as : List AV}, Rel φ ρ ev l → avals ρ l = some as → VRs φ as (l.map ev)
  | [], as, _, h => by simp [avals] at h; subst h; exact VRs_nil
  | x :: l, as, hr, h => by
    simp only [avals] at h
    split at h
    · cases h
    · rename_i a ha
      split at h
      · cases h
      · rename_i as' has
        cases h
        exact VRs_cons.2 ⟨hr x (by simp) a ha, avals_sound (hr.sub (fun y hy => by simp [hy])) has⟩

theorem optA_sound {φ : Phi} {ρ : Operand → Option AV} {ev : Operand → Value} {x : Option Operand} {r : Option AV} (hr : Rel φ ρ ev x.toList) (h : optA ρ x = some r) :
    (r = none ∧ x.map ev = none) ∨ (∃ a v, r = some a ∧ x.map ev = some v ∧ VR φ a v) := by
  cases x with
  | none => simp [optA] at h; subst h; exact .inl ⟨rfl, rfl⟩
  | some x =>
    simp only [optA] at h
    cases hx : ρ x with
    | none => simp [hx] at h
    | some a => simp [hx] at h; subst h; exact .inr ⟨a, ev x, rfl, rfl, hr x (by simp) a hx⟩

section reads
variable {P : Program} {φ : Phi} {base : Nat} {H : AH} {w : World}

theorem WR.cells (hw : WR φ base H w) {id : Nat} {vs : List AV} {e : PE} (h : H.cells id = some vs) (he : φ id = some e) :
    ∃ cs el, w.heap[e.b]? = some (.cells cs el (0, 0)) ∧ cs.size = e.n ∧ e.o + vs.length ≤ e.n ∧ VRs φ vs ((cs.toList.drop e.o).take vs.length) ∧ vs.all AV.one = true := by
  unfold AH.cells at h
  split at h
  · rename_i ho
    cases h
    obtain ⟨o, h1, h2⟩ := hw.here id _ e ho he
    obtain ⟨cs, el, rfl, h3⟩ := h2
    exact ⟨cs, el, h1, h3⟩
  · rename_i ho
    cases h
    obtain ⟨o, h1, h2⟩ := hw.here id _ e ho he
    obtain ⟨cs, el, rfl, h3⟩ := h2
    exact ⟨cs, el, h1, h3⟩
  · cases h

theorem seg_some {l r : List AV} {off n : Nat} (h : seg l off n = some r) : r = (l.drop off).take n ∧ r.length = n := by
  unfold seg at h
  simp only at h
  cases hb : Nat.beq ((l.drop off).take n).length n
  · rw [hb] at h; cases h
  · rw [hb] at h
    cases h
    exact ⟨rfl, Nat.eq_of_beq_eq_true hb⟩

theorem map_agg {r : Option (List AV)} {v : AV} (h : r.map AV.agg = some v) : ∃ l, r = some l ∧ v = .agg l := by
  cases r with
  | none => cases h
  | some l => cases h; exact ⟨l, rfl, rfl⟩

/-- A part of a row of values. -/
theorem partA_sound {t : TypeId} {cs : List AV} {cs' : Array Value} {off : Nat} {v : AV} (hc : VRs φ cs cs'.toList) (h : partA P t cs off = some v) (w : World) :
    ∃ v', (part t cs' off).run P w = .ok v' w ∧ VR φ v v' := by
  unfold partA at h
  split at h
  · rename_i ha
    split at h
    · rename_i s hs
      obtain ⟨l, hl, rfl⟩ := map_agg h
      obtain ⟨rfl, hlen⟩ := seg_some hl
      refine ⟨.agg (cs'.extract off (off + s)), ?_, ?_⟩
      · simp [part, isAggT_run ha w, sizeT_run hs w]
      · refine ⟨_, rfl, ?_⟩
        have := (hc.drop off).take s
        have e : (cs'.extract off (off + s)).toList = (cs'.toList.drop off).take s := by simp
        rw [e]; exact this
    · cases h
  · rename_i ha
    obtain ⟨v', h1, h2⟩ := hc.get h
    refine ⟨v', ?_, h2⟩
    have h3 : cs'[off]? = some v' := by simpa using h1
    simp [part, isAggT_run ha w, h3]
  · cases h

/-- A load of cells that lie in a row. -/
theorem run_loadCells_at {b o n : Nat} {cs : Array Value} {el : TypeId} {fz : Nat × Nat} (hg : w.heap[b]? = some (.cells cs el fz)) (h : o + n ≤ cs.size) :
    (loadCells ⟨b, o, none⟩ n).run P w = .ok ((cs.toList.drop o).take n).toArray w := by
  have hl : ((cs.toList.drop o).take n).length = n := by simp; omega
  have := run_loadCells_list (P := P) w ⟨b, o, none⟩ ((cs.toList.drop o).take n) (fun j v hv => by
    have hadd : (⟨b, o, none⟩ : Addr).add j = ⟨b, o + j, none⟩ := by unfold Addr.add; split <;> simp_all
    rw [hadd, cell_of_row w b (o + j) cs el fz hg]
    have hj : j < n := by
      rcases Nat.lt_or_ge j n with h1 | h1
      · exact h1
      · rw [List.getElem?_eq_none (by simp; omega)] at hv; cases hv
    rw [List.getElem?_take_of_lt hj, List.getElem?_drop] at hv
    simpa using hv)
  rwa [hl] at this

theorem loadA_sound (hw : WR φ base H w) {t : TypeId} {id off : Nat} {v : AV} {e : PE} (h : loadA P H t id off = some v) (he : φ id = some e) :
    ∃ v', (loadVar t ⟨e.b, e.o + off, none⟩).run P w = .ok v' w ∧ VR φ v v' := by
  unfold loadA at h
  split at h
  · cases h
  · rename_i vs hvs
    obtain ⟨cs, el, hg, hsz, hle, hv, h1⟩ := hw.cells hvs he
    unfold partA at h
    split at h
    · rename_i ha
      split at h
      · rename_i s hs
        obtain ⟨l, hl, rfl⟩ := map_agg h
        obtain ⟨rfl, hlen⟩ := seg_some hl
        by_cases hs0 : s = 0
        · subst hs0
          refine ⟨.agg #[], ?_, ?_⟩
          · simp [loadVar, isAggT_run ha w, sizeT_run hs w, loadCells, loadCellsFrom]
          · refine ⟨#[], rfl, ?_⟩; simp [VRs]
        · have hin : off + s ≤ vs.length := by simp at hlen; omega
          refine ⟨.agg ((cs.toList.drop (e.o + off)).take s).toArray, ?_, ?_⟩
          · simp [loadVar, isAggT_run ha w, sizeT_run hs w, run_loadCells_at (P := P) hg (show e.o + off + s ≤ cs.size by omega)]
          · refine ⟨_, rfl, ?_⟩
            have h2 := (hv.drop off).take s
            have e2 : (((cs.toList.drop e.o).take vs.length).drop off).take s = (cs.toList.drop (e.o + off)).take s := by
              rw [List.drop_take, List.drop_drop, List.take_take]
              congr 1; omega
            rw [e2] at h2
            simpa using h2
      · cases h
    · rename_i ha
      obtain ⟨v', h2, h3⟩ := hv.get h
      have hlt : off < vs.length := by
        rcases Nat.lt_or_ge off vs.length with h | h'
        · exact h
        · rw [List.getElem?_eq_none h'] at h; cases h
      rw [List.getElem?_take_of_lt hlt, List.getElem?_drop] at h2
      refine ⟨v', ?_, h3⟩
      have hcell : w.cell? ⟨e.b, e.o + off, none⟩ = some v' := by
        rw [cell_of_row w e.b (e.o + off) cs el (0, 0) hg]; simpa using h2
      simp [loadVar, isAggT_run ha w, hcell]
    · cases h

end reads
end Go.Ev
