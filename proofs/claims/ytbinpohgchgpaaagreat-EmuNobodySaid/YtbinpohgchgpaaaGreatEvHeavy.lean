/- Operations that change memory. -/
import Derived.Test.YtbinpohgchgpaaaGreatEvHeap
namespace Go.Ev

section
variable {P : Program} {φ : Phi} {base : Nat} {H : AH} {w : World} {ρ : Operand → Option AV} {ev : Operand → Value}

/-- What an operation that is not light comes to. -/
def ValR (P : Program) (m base : Nat) (φ : Phi) (H : AH) (w : World) (s : Sem Next) (v : AV) (H' : AH) : Prop :=
  ∃ (φ' : Phi) (w' : World) (v' : Value), (s.run P w = .ok (.value v') w' ∨ (s.run P w = .ok .skip w' ∧ v' = undef)) ∧ VR φ' v v' ∧ WR φ' base H' w' ∧ Ext m φ H φ' H' ∧ Keep base w w'

def OutR (P : Program) (m base : Nat) (φ : Phi) (H : AH) (w : World) (s : Sem Next) : Out → Prop
  | .val v H' => ValR P m base φ H w s v H'
  | .enter f args => ∃ args' : Array Value, s.run P w = .ok (.enter f args') w ∧ VRs φ args args'.toList
  | .round l args => ∃ (e : PE) (args' : Array Value), φ l = some e ∧ s.run P w = (Instr.yield e.b args').run P w ∧ VRs φ args args'.toList
  | .defer d => ∃ d', s.run P w = .ok (.defer d') w ∧ DR φ d d'
  | .panic v => ∃ v', s.run P w = .halt (.panic v') w ∧ VR φ v v'
  | .recover => s.run P w = .ok .recover w

theorem undef_VR (φ : Phi) : VR φ .undef undef := ⟨#[], rfl, VRs_nil⟩

theorem seg_put (cur xs : List Value) (o off L : Nat) (h1 : o + L ≤ cur.length) (h2 : off + xs.length ≤ L) :
    ((cur.take (o + off) ++ xs ++ cur.drop (o + off + xs.length)).drop o).take L = ((cur.drop o).take L).take off ++ (xs ++ ((cur.drop o).take L).drop (off + xs.length)) := by
  apply List.ext_getElem?
  intro i
  by_cases hL : i < L
  · rw [List.getElem?_take_of_lt hL, List.getElem?_drop, List.append_assoc]
    simp only [List.getElem?_append, List.length_take, List.length_drop]
    rw [show min (o + off) cur.length = o + off by omega, show min off (min L (cur.length - o)) = off by omega]
    by_cases h3 : i < off
    · rw [if_pos (by omega), if_pos h3, List.getElem?_take_of_lt (by omega), List.getElem?_take_of_lt h3, List.getElem?_take_of_lt hL, List.getElem?_drop]
    · rw [if_neg (by omega), if_neg h3]
      rw [show o + i - (o + off) = i - off by omega]
      by_cases h4 : i - off < xs.length
      · rw [if_pos h4, if_pos h4]
      · rw [if_neg h4, if_neg h4, List.getElem?_drop, List.getElem?_drop, List.getElem?_take_of_lt (by omega), List.getElem?_drop]
        congr 1; omega
  · rw [List.getElem?_eq_none (by simp; omega), List.getElem?_eq_none (by simp; omega)]

theorem setRow_size (w : World) (g : Nat) (cs : Array Value) : (w.setRow g cs).heap.size = w.heap.size := by
  unfold World.setRow; simp
theorem setRow_other (w : World) (g : Nat) (cs : Array Value) {b : Nat} (h : b ≠ g) : (w.setRow g cs).heap[b]? = w.heap[b]? := by
  unfold World.setRow
  simp only [Array.getElem?_modify]
  rw [if_neg (fun e => h e.symm)]

/-- A row of cells is written within an object. -/
theorem WR.write (hw : WR φ base H w) {id off : Nat} {vs r cells : List AV} {el : TypeId} {vcells : List Value} {e : PE} {ob : AObj} (ho : H.obj id = some ob) (hlive : ob.live = true) (hob : ∀ o, OR φ ob e o → OR φ (.cells vs el) e o) (he : φ id = some e)
    (hp : putSeg vs off cells = some r) (hc : VRs φ cells vcells) (h1 : cells.all AV.one = true) :
    ∃ w', (storeCells ⟨e.b, e.o + off, none⟩ vcells).run P w = .ok () w' ∧ WR φ base (H.put id (.cells r el)) w' ∧ Keep base w w' := by
  obtain ⟨o, hg, hor⟩ := hw.here id _ e ho he
  obtain ⟨cs, el', rfl, hsz, hle, hv, hones⟩ := hob o hor
  obtain ⟨hle2, rfl⟩ := putSeg_some hp
  have hl := hc.length
  have hrun := run_storeCells_at P e.b (e.o + off) el' vcells 0 cs w hg (by simp; omega) (AV.ones_rel hc h1)
  simp only [Nat.add_zero] at hrun
  refine ⟨_, hrun, ?_, ?_⟩
  · refine hw.put ho hlive he (setRow_size _ _ _) (fun b hb => setRow_other _ _ _ hb) ⟨_, setRow_heap w e.b cs _ el' _ hg, ?_⟩
    refine ⟨_, el', rfl, ?_, ?_, ?_, ?_⟩
    · simp; omega
    · simp; omega
    · have hlen : (vs.take off ++ (cells ++ vs.drop (off + cells.length))).length = vs.length := by simp; omega
      rw [hlen]
      have := seg_put cs.toList vcells e.o off vs.length (by simp; omega) (by omega)
      rw [this]
      exact hv.put hc
    · simp only [List.all_append, Bool.and_eq_true]
      refine ⟨?_, h1, ?_⟩
      · rw [List.all_eq_true] at hones ⊢
        exact fun x hx => hones x (List.mem_of_mem_take hx)
      · rw [List.all_eq_true] at hones ⊢
        exact fun x hx => hones x (List.mem_of_mem_drop hx)
  · exact Keep.of_put hw he (setRow_size _ _ _) (fun b hb => setRow_other _ _ _ hb)

theorem storeA_sound (hw : WR φ base H w) {t : TypeId} {id off : Nat} {v : AV} {vv : Value} {H' : AH} {e : PE} (h : storeA P H t id off v = some H') (he : φ id = some e) (hv : VR φ v vv) :
    ∃ w', (storeVar t ⟨e.b, e.o + off, none⟩ vv).run P w = .ok () w' ∧ WR φ base H' w' ∧ Keep base w w' ∧ ∀ m, Ext m φ H φ H' := by
  unfold storeA at h
  split at h
  · rename_i vs el s ho hs
    obtain ⟨hb, h⟩ := bif_some h
    simp only [Bool.and_eq_true] at hb
    obtain ⟨r, hr, rfl⟩ := opt2 h
    have hc := AV.cells_rel hv
    have hlen : vv.cells.size = s := by have h1 := hc.length; have h2 := Nat.eq_of_beq_eq_true hb.1; simp at h1; omega
    obtain ⟨w', h1, h2, h3⟩ := hw.write (P := P) ho rfl (fun o h => h) he hr hc hb.2
    refine ⟨w', ?_, h2, h3, fun m => Ext.put he _⟩
    simp [storeVar, sizeT_run hs w, hlen, h1]
  · rename_i z n el s ho hs
    obtain ⟨hb, h⟩ := bif_some h
    simp only [Bool.and_eq_true] at hb
    obtain ⟨r, hr, rfl⟩ := opt2 h
    have hc := AV.cells_rel hv
    have hlen : vv.cells.size = s := by have h1 := hc.length; have h2 := Nat.eq_of_beq_eq_true hb.1; simp at h1; omega
    obtain ⟨w', h1, h2, h3⟩ := hw.write (P := P) (vs := replic z n) (el := el) ho rfl (fun o h => h) he hr hc hb.2
    refine ⟨w', ?_, h2, h3, fun m => Ext.put he _⟩
    simp [storeVar, sizeT_run hs w, hlen, h1]
  · cases h
end
end Go.Ev
