/- append and copy. -/
import Derived.Test.YtbinpohgchgpaaaGreatEvMaps3
namespace Go.Ev

section
variable {P : Program} {φ : Phi} {base m : Nat} {H : AH} {w : World} {ρ : Operand → Option AV} {ev : Operand → Value}

theorem growBy_le (newLen : Nat) : ∀ (r c : Nat), Builtin.growBy newLen r c ≤ max c (newLen + (newLen + 768) / 4)
  | 0, c => by simp [Builtin.growBy]; omega
  | r + 1, c => by
    simp only [Builtin.growBy]
    split
    · omega
    · have := growBy_le newLen r (c + (c + 768) / 4)
      omega

theorem nextcap_le {need c : Nat} (h : c < need) : Builtin.nextslicecap need c ≤ 2 * need + 192 := by
  unfold Builtin.nextslicecap
  split
  · omega
  · split
    · omega
    · have := growBy_le need 4 c
      omega

def isIntD : TypeDesc → Bool
  | .int _ => true
  | _ => false

/-- What is appended, in the model. -/
def TakenR (P : Program) (φ : Phi) (w : World) (argTypes : Array TypeId) (elem : TypeId) (sz n : Nat) (l : List AV) (x : Value) : Prop :=
  ∃ xt d, ∃ cs : Array Value, argTypes[1]? = some xt ∧ P.underlying xt = some d ∧ VRs φ l cs.toList ∧ l.length = n * sz ∧
    ((isIntD d = false ∧ (∀ w, (Builtin.lenOf x).run P w = .ok n w) ∧ (∀ w', w'.heap = w.heap → (Builtin.firstCells sz n x).run P w' = .ok cs w')) ∨
     (isIntD d = true ∧ x = .int .i64 (n : Int) ∧ n ≤ 65536 ∧ ∀ w', (if n * sz = 0 then pure #[] else do pure (Builtin.zeroCells (← zeroValue elem).cells n) : Sem (Array Value)).run P w' = .ok cs w'))

theorem elemsA_sound (hw : WR φ base H w) {sz n : Nat} {l : List AV} {x : AV} {vx : Value} (h : elemsA H sz x = some (n, l)) (hx : VR φ x vx) :
    ∃ cs : Array Value, VRs φ l cs.toList ∧ l.length = n * sz ∧ (∀ w, (Builtin.lenOf vx).run P w = .ok n w) ∧ (∀ w', w'.heap = w.heap → (Builtin.firstCells sz n vx).run P w' = .ok cs w') := by
  unfold elemsA at h
  split at h
  · cases h
    simp only [VR] at hx; subst hx
    exact ⟨#[], VRs_nil, by simp, fun w => by simp [Builtin.lenOf], fun w' _ => by simp [Builtin.firstCells]⟩
  · rename_i id off len cap s ex
    obtain ⟨hb, h⟩ := bif_some h
    have hs : s = sz := Nat.eq_of_beq_eq_true hb
    subst hs
    split at h
    · rename_i vs hvs
      obtain ⟨r, hr, h⟩ := opt2 h
      cases h
      obtain ⟨rfl, hlen⟩ := seg_some hr
      obtain ⟨e, y, c, he, rfl, hy, hlc, hex, hroom⟩ := hx
      obtain ⟨cs, el, hg, hsz, hle, hv, h1⟩ := hw.cells hvs he
      by_cases h0 : n * s = 0
      · refine ⟨#[], ?_, by simp [h0], fun w => by simp [Builtin.lenOf], fun w' _ => ?_⟩
        · rw [h0]; simp [VRs]
        · simp [Builtin.firstCells, h0, loadCells, loadCellsFrom]
      · have hlen0 : n ≠ 0 := by rintro rfl; simp at h0
        have hy' : y = e.o + off := by rcases hy with h | h <;> omega
        subst hy'
        have hin : off + n * s ≤ vs.length := by simp at hlen; omega
        refine ⟨((cs.toList.drop (e.o + off)).take (n * s)).toArray, ?_, hlen, fun w => by simp [Builtin.lenOf], fun w' hh => ?_⟩
        · have h2 := (hv.drop off).take (n * s)
          have e2 : (((cs.toList.drop e.o).take vs.length).drop off).take (n * s) = (cs.toList.drop (e.o + off)).take (n * s) := by
            rw [List.drop_take, List.drop_drop, List.take_take]
            congr 1; omega
          rw [e2] at h2
          simpa using h2
        · have := run_loadCells_at (P := P) (w := w') (n := n * s) (o := e.o + off) (by rw [hh]; exact hg) (by omega)
          simp [Builtin.firstCells, this]
    · cases h
  · rename_i s
    obtain ⟨hb, h⟩ := bif_some h
    have hs : sz = 1 := Nat.eq_of_beq_eq_true hb
    subst hs
    cases h
    obtain ⟨b, rfl, rfl⟩ := hx
    refine ⟨b.data.map fun c => .int .u8 c.toNat, ?_, by simp, fun w => by simp [Builtin.lenOf, toNats_length], fun w' _ => ?_⟩
    · refine VRs_of (by simp [toNats]) ?_
      intro i a v h1 h2
      simp only [toNats, List.getElem?_map, Array.toList_map] at h1 h2
      cases hq : b.data.toList[i]? with
      | none => simp [hq] at h1
      | some u =>
        simp only [hq, Option.map_some, Option.some.injEq] at h1 h2
        subst h1 h2
        simp [VR]
    · have : b.extract 0 b.size = b := by
        apply toNats_inj
        simp [toNats]
      simp [Builtin.firstCells, toNats_length, this]
  · cases h

theorem takenA_sound (hw : WR φ base H w) {argTypes : Array TypeId} {elem : TypeId} {sz n : Nat} {l : List AV} {x : AV} {vx : Value}
    (h : takenA P H argTypes elem sz x = some (n, l)) (hx : VR φ x vx) : TakenR P φ w argTypes elem sz n l vx := by
  unfold takenA at h
  cases ht : argTypes[1]? with
  | none => simp [ht] at h
  | some xt =>
    simp only [ht, Option.bind_some] at h
    split at h
    · rename_i k hu
      split at h
      · rename_i n' z hz
        obtain ⟨hc, h⟩ := bif_some h
        cases h
        simp only [Bool.and_eq_true, Nat.ble_eq] at hc
        obtain ⟨hn, hl⟩ := hc
        have hzl : z.cells.length = sz := Nat.eq_of_beq_eq_true hl
        simp only [VR] at hx; subst hx
        obtain ⟨vz, h1, h2⟩ := zeroT_sound (φ := φ) hz
        have hzr := AV.cells_rel h1
        have hzs : vz.cells.size = sz := by have := hzr.length; simp at this; omega
        have hrel := replic_rel hzr n
        refine ⟨xt, _, ((Array.range (n * vz.cells.size)).map (vz.cells[· % vz.cells.size]!)), ht, hu, hrel, by rw [replic_length, hzl], .inr ⟨rfl, rfl, hn, fun w' => ?_⟩⟩
        by_cases h0 : n * sz = 0
        · rw [if_pos h0, hzs, h0, range0]; rfl
        · rw [if_neg h0]
          simp [h2 w', Builtin.zeroCells]
      · cases h
    · rename_i d hni hu
      obtain ⟨cs, h1, h2, h3, h4⟩ := elemsA_sound (P := P) hw h hx
      refine ⟨xt, d, cs, ht, hu, h1, h2, .inl ⟨?_, h3, h4⟩⟩
      cases d <;> first
        | rfl
        | (exact absurd rfl (hni _))
    · cases h

/-- Where there is room, an append writes behind the slice's elements: the new identifier lies in the old one's block. -/
theorem grow_here (hw : WR φ base H w) {elem : TypeId} {id off len sz n c : Nat} {l old vs : List AV} {el0 : TypeId} {e : PE} {cs : Array Value} (hm : m ≤ H.next) (ho : H.obj id = some (.cells vs el0)) (he : φ id = some e)
    (hold : seg vs off (len * sz) = some old) (hl : VRs φ l cs.toList) (hln : l.length = n * sz) (h1 : (old ++ l).all AV.one = true) (hroom : e.o + off + c * sz ≤ e.n) (hc : len + n ≤ c) :
    ∃ w', (storeCells ⟨e.b, e.o + off + len * sz, none⟩ cs.toList).run P w = .ok () w' ∧
      WR (bindAt φ H.next ⟨e.b, e.o + off, e.n⟩) base ((H.put id (.dead [])).new (.cells (old ++ l) elem)) w' ∧
      Ext m φ H (bindAt φ H.next ⟨e.b, e.o + off, e.n⟩) ((H.put id (.dead [])).new (.cells (old ++ l) elem)) ∧ Keep base w w' := by
  obtain ⟨o, hg, cs0, el', rfl, hsz, hle, hv, hones⟩ := hw.here id _ e ho he
  obtain ⟨rfl, hlen⟩ := seg_some hold
  have hll := hl.length
  have hmul : len * sz + n * sz ≤ c * sz := by rw [← Nat.add_mul]; exact Nat.mul_le_mul_right sz hc
  have h1' := h1
  rw [List.all_append, Bool.and_eq_true] at h1'
  have hrun := run_storeCells_at P e.b (e.o + off + len * sz) el' cs.toList 0 cs0 w hg (by omega) (AV.ones_rel hl h1'.2)
  simp only [Nat.add_zero] at hrun
  have hfresh := hw.fresh (Nat.le_refl H.next)
  have hle' := bindAt_le (e := ⟨e.b, e.o + off, e.n⟩) hfresh
  have hidne : id ≠ H.next := fun h => by rw [h, hfresh] at he; cases he
  refine ⟨_, hrun, ?_, ?_, Keep.of_put hw he (setRow_size _ _ _) (fun b hb => setRow_other _ _ _ hb)⟩
  · have hk := hw.kill (vs := []) ho
    refine ⟨?_, ?_, ?_, ?_⟩
    · intro i ob e1 a1 a2
      rw [obj_new, next_put] at a1
      by_cases hi : i = H.next
      · subst hi
        rw [if_pos rfl] at a1; cases a1
        rw [bindAt_same] at a2; cases a2
        refine ⟨_, setRow_heap w e.b cs0 _ el' _ hg, _, el', rfl, ?_, ?_, ?_, h1⟩
        · have hcs : cs.size = n * sz := by simp at hll; omega
          simp; omega
        · simp at hlen ⊢; omega
        · refine VRs.mono hle' _ _ ?_
          have hlen' : (List.take (len * sz) (List.drop off vs) ++ l).length = len * sz + n * sz := by simp at hlen ⊢; omega
          rw [hlen']
          have hin : len * sz = 0 ∨ off + len * sz ≤ vs.length := by simp at hlen; omega
          have e3 : ((List.take (e.o + off + len * sz) cs0.toList ++ cs.toList ++ List.drop (e.o + off + len * sz + cs.toList.length) cs0.toList).drop (e.o + off)).take (len * sz + n * sz) = (cs0.toList.drop (e.o + off)).take (len * sz) ++ cs.toList := by
            apply List.ext_getElem?
            intro j
            by_cases hj : j < len * sz + n * sz
            · rw [List.getElem?_take_of_lt hj, List.getElem?_drop, List.append_assoc]
              simp only [List.getElem?_append, List.length_take, List.length_drop]
              rw [show min (e.o + off + len * sz) cs0.toList.length = e.o + off + len * sz by simp; omega, show min (len * sz) (cs0.toList.length - (e.o + off)) = len * sz by simp; omega]
              by_cases h3 : j < len * sz
              · rw [if_pos (by omega), if_pos h3, List.getElem?_take_of_lt (by omega), List.getElem?_take_of_lt h3, List.getElem?_drop]
              · rw [if_neg (by omega), if_neg h3, show e.o + off + j - (e.o + off + len * sz) = j - len * sz by omega, if_pos (by omega)]
            · rw [List.getElem?_eq_none (by simp; omega), List.getElem?_eq_none (by simp; simp at hll; omega)]
          show VRs φ _ (((List.take (e.o + off + len * sz) cs0.toList ++ cs.toList ++ List.drop (e.o + off + len * sz + cs.toList.length) cs0.toList).drop (e.o + off)).take (len * sz + n * sz))
          rw [e3]
          refine VRs.append ?_ hl
          have h2 := (hv.drop off).take (len * sz)
          have e2 : (((cs0.toList.drop e.o).take vs.length).drop off).take (len * sz) = (cs0.toList.drop (e.o + off)).take (len * sz) := by
            rcases hin with hin | hin
            · simp [hin]
            · rw [List.drop_take, List.drop_drop, List.take_take]
              congr 1; omega
          rw [e2] at h2
          exact h2
      · rw [if_neg hi] at a1
        simp only [bindAt, if_neg hi] at a2
        by_cases hl1 : ob.live = true
        · have hii : i ≠ id := by rintro rfl; rw [obj_put, if_pos rfl] at a1; cases a1; simp [AObj.live] at hl1
          rw [obj_put, if_neg hii] at a1
          obtain ⟨o, h3, h4⟩ := hw.here i ob e1 a1 a2
          have hb : e1.b ≠ e.b := fun h => hii (hw.inj i id ob _ e1 e a1 hl1 a2 ho rfl he h)
          exact ⟨o, by rw [setRow_other _ _ _ hb]; exact h3, h4.mono hle'⟩
        · cases ob <;> simp [AObj.live] at hl1
          have h5 := (hw.lt i e1 a2).1
          rw [← setRow_size w e.b (List.take (e.o + off + len * sz) cs0.toList ++ cs.toList ++ List.drop (e.o + off + len * sz + cs.toList.length) cs0.toList).toArray] at h5
          exact ⟨_, Array.getElem?_eq_getElem h5, trivial⟩
    · intro i i' ob1 ob2 e1 e2 a1 l1 a2 a3 l2 a4 hb
      rw [obj_new, next_put] at a1 a3
      have live_ne : ∀ {i ob}, i ≠ H.next → (H.put id (.dead [])).obj i = some ob → ob.live = true → i ≠ id ∧ H.obj i = some ob := by
        intro i ob hi h hl
        have hii : i ≠ id := by rintro rfl; rw [obj_put, if_pos rfl] at h; cases h; simp [AObj.live] at hl
        rw [obj_put, if_neg hii] at h
        exact ⟨hii, h⟩
      by_cases hi : i = H.next <;> by_cases hi' : i' = H.next
      · rw [hi, hi']
      · exfalso
        subst hi
        rw [bindAt_same] at a2; cases a2
        rw [if_neg hi'] at a3
        simp only [bindAt, if_neg hi'] at a4
        obtain ⟨n1, n2⟩ := live_ne hi' a3 l2
        exact n1 (hw.inj i' id ob2 _ e2 e n2 l2 a4 ho rfl he hb.symm)
      · exfalso
        subst hi'
        rw [bindAt_same] at a4; cases a4
        rw [if_neg hi] at a1
        simp only [bindAt, if_neg hi] at a2
        obtain ⟨n1, n2⟩ := live_ne hi a1 l1
        exact n1 (hw.inj i id ob1 _ e1 e n2 l1 a2 ho rfl he hb)
      · rw [if_neg hi] at a1
        rw [if_neg hi'] at a3
        simp only [bindAt, if_neg hi] at a2
        simp only [bindAt, if_neg hi'] at a4
        obtain ⟨_, n2⟩ := live_ne hi a1 l1
        obtain ⟨_, n4⟩ := live_ne hi' a3 l2
        exact hw.inj i i' ob1 ob2 e1 e2 n2 l1 a2 n4 l2 a4 hb
    · intro i e1 a2
      rw [setRow_size, next_new, next_put]
      by_cases hi : i = H.next
      · subst hi
        rw [bindAt_same] at a2; cases a2
        have := hw.lt id e he
        exact ⟨this.1, this.2.1, by omega⟩
      · simp only [bindAt, if_neg hi] at a2
        have := hw.lt i e1 a2
        exact ⟨this.1, this.2.1, by omega⟩
    · intro i ob a1
      rw [obj_new, next_put] at a1
      rw [next_new, next_put]
      by_cases hi : i = H.next
      · omega
      · rw [if_neg hi] at a1
        have := hk.nx i ob a1
        rw [next_put] at this; omega
  · refine ⟨hle', by rw [next_new, next_put]; omega, fun i hi hn => ⟨?_, ?_⟩⟩
    · simp only [bindAt]; rw [if_neg (by omega)]; exact hn
    · rw [obj_new, next_put, if_neg (by omega), obj_put, if_neg (fun h => by subst h; rw [he] at hn; cases hn)]
end
end Go.Ev
