/- Operations that change maps and iterators. -/
import Derived.Test.YtbinpohgchgpaaaGreatEvMaps
namespace Go.Ev

section
variable {P : Program} {φ : Phi} {base m : Nat} {H : AH} {w : World} {ρ : Operand → Option AV} {ev : Operand → Value}

/-- A result that a run of a value gives. -/
theorem ValR.of {s : Sem Value} {v : AV} {H' : AH} {φ' : Phi} {w' : World} {v' : Value} (h : s.run P w = .ok v' w') (hv : VR φ' v v') (hw : WR φ' base H' w') (he : Ext m φ H φ' H') (hk : Keep base w w') :
    ValR P m base φ H w (do pure (.value (← s)) : Sem Next) v H' := ⟨φ', w', v', .inl (execV' h), hv, hw, he, hk⟩
theorem ValR.skip {s : Sem Unit} {H' : AH} {φ' : Phi} {w' : World} (h : s.run P w = .ok () w') (hw : WR φ' base H' w') (he : Ext m φ H φ' H') (hk : Keep base w w') :
    ValR P m base φ H w (do s; pure .skip : Sem Next) .undef H' := ⟨φ', w', undef, .inr ⟨by simp [h], rfl⟩, undef_VR _, hw, he, hk⟩

theorem pair_VR {a b : AV} {x y : Value} (ha : VR φ a x) (hb : VR φ b y) : VR φ (.tuple [a, b]) (.tuple #[x, y]) := ⟨_, rfl, VRs_cons.2 ⟨ha, VRs_one hb⟩⟩
theorem triple_VR {a b c : AV} {x y z : Value} (ha : VR φ a x) (hb : VR φ b y) (hc : VR φ c z) : VR φ (.tuple [a, b, c]) (.tuple #[x, y, z]) := ⟨_, rfl, VRs_cons.2 ⟨ha, VRs_cons.2 ⟨hb, VRs_one hc⟩⟩⟩

theorem entryA_sound (hw : WR φ base H w) {t kt elem : TypeId} {id : Nat} {key : AV} {vk : Value} {e : PE} {out : Out} (hu : P.underlying t = some (.map kt elem)) (h : entryA P H kt elem id key = some out) (he : φ id = some e) (hk : VR φ key vk) :
    ∃ v H', out = .val v H' ∧ ValR P m base φ H w (do pure (.value (← Instr.mapEntry t (.map (some e.b)) vk)) : Sem Next) v H' := by
  unfold entryA at h
  split at h
  · rename_i es clock ho
    obtain ⟨o, hg, es', rfl, hes⟩ := hw.here id _ e ho he
    obtain ⟨hp, h⟩ := bif_some h
    obtain ⟨d, hd⟩ := plainKey_desc hp
    have hck := checkKey_sound (φ := φ) hp hk false 9998 w
    split at h
    · rename_i i x b hf
      obtain ⟨hsk, h⟩ := bif_some h
      cases h
      obtain ⟨r', h1, h2⟩ := find_sound hd hk hes hf w
      obtain ⟨me, k0, rfl, e3, e4, e5, e6⟩ := h2.at
      have e4' : es'[i]? = some me := by simpa using e4
      have hsame : vk = me.key ∧ Instr.sameBits 10000 me.key vk = true := by
        unfold sameKey at hsk
        rw [e3] at hsk
        obtain ⟨m', a1, a2, _, _⟩ := hes.get e3
        rw [e4] at a1; cases a1
        have := eqFlat_sound hsk a2 hk 9999
        exact ⟨this.1.symm, this.2⟩
      obtain ⟨w', b1, b2, b3⟩ := hw.setMap (P := P) (ob' := .map (setEntry es i fun e => (key, e.2)) clock) (o' := .map (es'.modify i fun e => { e with key := vk }) clock) ho rfl he hg rfl
        ⟨_, rfl, by
          rw [Array.toList_modify]
          exact hes.modify (fun k v b m _ _ _ hv hb => ⟨hk, hv, hb⟩)⟩
      refine ⟨_, _, rfl, ValR.of (v' := .tuple #[me.val, goInt me.born]) ?_ (pair_VR e5 (by rw [e6]; exact goIntA_sound b)) b2 (Ext.put he _) b3⟩
      simp only [Instr.mapEntry, Sem.run_bind, run_underlying hu w, Result.andThen_ok, getObj_at (P := P) hg rfl, hck, h1, e4', Option.map_some, Option.getD_some, keyThatStays_run (P := P) hsame.2, b1, Sem.run_pure]
    · rename_i hf
      split at h
      · rename_i z hz
        cases h
        obtain ⟨vz, hz1, hz2⟩ := zeroT_sound (φ := φ) hz
        obtain ⟨r', h1, h2⟩ := find_sound hd hk hes hf w
        simp only [FindR] at h2
        subst h2
        obtain ⟨w', b1, b2, b3⟩ := hw.setMap (P := P) (ob' := .map (es ++ [(key, z, clock)]) (clock + 1)) (o' := .map (es'.push { key := vk, val := vz, born := clock }) (clock + 1)) ho rfl he hg rfl
          ⟨_, rfl, by
            rw [Array.toList_push]
            exact hes.append ⟨_, [], rfl, hk, hz1, rfl, by simp [ERs]⟩⟩
        refine ⟨_, _, rfl, ValR.of (v' := .tuple #[vz, goInt clock]) ?_ (pair_VR hz1 (goIntA_sound clock)) b2 (Ext.put he _) b3⟩
        simp only [Instr.mapEntry, Sem.run_bind, run_underlying hu w, Result.andThen_ok, getObj_at (P := P) hg rfl, hck, h1, hz2 w, b1, Sem.run_pure]
      · cases h
    · cases h
  · cases h

theorem entryStoreA_sound (hw : WR φ base H w) {t : TypeId} {id born : Nat} {k : IntKind} {v : AV} {vv : Value} {e : PE} {out : Out} (h : entryStoreA H id born v = some out) (he : φ id = some e) (hv : VR φ v vv) :
    ∃ H', out = .val .undef H' ∧ ValR P m base φ H w (do Instr.entryStore t (.map (some e.b)) (.int k (born : Int)) vv; pure .skip : Sem Next) .undef H' := by
  unfold entryStoreA at h
  split at h
  · rename_i es clock ho
    obtain ⟨o, hg, es', rfl, hes⟩ := hw.here id _ e ho he
    split at h
    · rename_i i hi
      cases h
      have hf := hes.findBorn born
      rw [hi] at hf
      have hf' : es'.findIdx? (fun e => (e.born : Int) == (born : Int)) = some i := by cases es'; simpa using hf
      obtain ⟨w', b1, b2, b3⟩ := hw.setMap (P := P) (ob' := .map (setEntry es i fun e => (e.1, v, e.2.2)) clock) (o' := .map (es'.modify i fun e => { e with val := vv }) clock) ho rfl he hg rfl
        ⟨_, rfl, by
          rw [Array.toList_modify]
          exact hes.modify (fun k v b m _ _ hk _ hb => ⟨hk, hv, hb⟩)⟩
      refine ⟨_, rfl, ValR.skip ?_ b2 (Ext.put he _) b3⟩
      simp only [Instr.entryStore, Sem.run_bind, getObj_at (P := P) hg rfl, Result.andThen_ok, asInt, asIntOf, Sem.run_pure, hf', b1]
    · cases h
  · cases h

/-- A new object, made in the world at once. -/
theorem WR.make (hw : WR φ base H w) (hb : base ≤ w.heap.size) {ob : AObj} {o' : Obj} {n : Nat} (hor : ∀ ψ b, PLe φ ψ → OR ψ ob ⟨b, 0, n⟩ o') (hm : m ≤ H.next) :
    WR (bindAt φ H.next ⟨w.heap.size, 0, n⟩) base (H.new ob) (w.alloc o') ∧ Ext m φ H (bindAt φ H.next ⟨w.heap.size, 0, n⟩) (H.new ob) ∧ Keep base w (w.alloc o') := by
  have hf := hw.fresh (Nat.le_refl H.next)
  refine ⟨(hw.new ob).bind_new hf (by simp) hb hor, ?_, Keep.alloc hb o'⟩
  refine ⟨bindAt_le hf, by rw [next_new]; omega, fun id hi hn => ⟨?_, by rw [obj_new, if_neg (by omega)]⟩⟩
  simp only [bindAt]
  rw [if_neg (by omega)]; exact hn

theorem iter_VR (n : Nat) : VR (bindAt φ H.next ⟨w.heap.size, 0, n⟩) (.ptr H.next 0) (.pointer (some ⟨w.heap.size, 0, none⟩)) := by
  simp only [VR]; exact ⟨_, bindAt_same _ _ _, rfl⟩

theorem hRange_sound (hw : WR φ base H w) (hb : base ≤ w.heap.size) (hm : m ≤ H.next) {t : TypeId} {x : Operand} {out : Out} (hr : ∀ a, ρ x = some a → VR φ a (ev x)) (h : hRange P ρ H t x = some out) :
    ∃ v H', out = .val v H' ∧ ValR P m base φ H w (do pure (.value (← Instr.range t (ev x))) : Sem Next) v H' := by
  unfold hRange at h
  split at h
  · rename_i s hu hx
    cases h
    obtain ⟨b, hv, rfl⟩ := hr _ hx
    obtain ⟨h1, h2, h3⟩ := hw.make (m := m) hb (ob := .strIter (toNats b) 0) (o' := .stringIter b 0) (n := 0) (fun ψ b' _ => ⟨b, rfl, rfl, rfl⟩) hm
    refine ⟨_, _, rfl, ValR.of (v' := .pointer (some ⟨w.heap.size, 0, none⟩)) ?_ (iter_VR _) h1 h2 h3⟩
    simp [Instr.range, run_underlying hu w, hv]
  · rename_i kt el hu hx
    cases h
    have hv := hr _ hx
    simp only [VR] at hv
    obtain ⟨h1, h2, h3⟩ := hw.make (m := m) hb (ob := .mapIter none 0 [] 0) (o' := .mapIter none 0 #[] 0) (n := 0) (fun ψ b' _ => ⟨none, rfl, rfl, rfl⟩) hm
    refine ⟨_, _, rfl, ValR.of (v' := .pointer (some ⟨w.heap.size, 0, none⟩)) ?_ (iter_VR _) h1 h2 h3⟩
    simp [Instr.range, run_underlying hu w, hv]
  · rename_i kt el id hu hx
    obtain ⟨e, he, hv⟩ := hr _ hx
    unfold rangeMap at h
    split at h
    · rename_i es clock ho
      cases h
      obtain ⟨o, hg, es', rfl, hes⟩ := hw.here id _ e ho he
      obtain ⟨h1, h2, h3⟩ := hw.make (m := m) hb (ob := .mapIter (some id) clock [] clock) (o' := .mapIter (some e.b) clock #[] clock) (n := 0) (fun ψ b' hle => ⟨some e.b, rfl, rfl, e, hle _ _ he, rfl⟩) hm
      refine ⟨_, _, rfl, ValR.of (v' := .pointer (some ⟨w.heap.size, 0, none⟩)) ?_ (iter_VR _) h1 h2 h3⟩
      simp [Instr.range, run_underlying hu w, hv, getObj_at (P := P) hg rfl]
    · cases h
  · cases h

theorem deleteA_sound (hw : WR φ base H w) {ts : Array TypeId} {T : TypeId} {id : Nat} {key : AV} {vk : Value} {e : PE} {out : Out} {vs : Array Value} (h : deleteA P H ts id key = some out) (he : φ id = some e) (hk : VR φ key vk)
    (hv : vs.toList = [.map (some e.b), vk]) :
    ∃ v H', out = .val v H' ∧ ValR P m base φ H w (do pure (.value (← Builtin.delete_ ts T vs)) : Sem Next) v H' := by
  have v0 : vs[0]? = some (.map (some e.b)) := by rw [← Array.getElem?_toList, hv]; rfl
  have v1 : vs[1]? = some vk := by rw [← Array.getElem?_toList, hv]; rfl
  unfold deleteA at h
  split at h
  · rename_i kt el es clock hu ho
    obtain ⟨o, hg, es', rfl, hes⟩ := hw.here id _ e ho he
    obtain ⟨hp, h⟩ := bif_some h
    obtain ⟨d, hd⟩ := plainKey_desc hp
    have hck := checkKey_sound (φ := φ) hp hk es'.isEmpty 9998 w
    cases ht : ts[0]? with
    | none => simp [ht] at hu
    | some t =>
      simp only [ht, Option.bind_some] at hu
      split at h
      · rename_i i x b hf
        cases h
        obtain ⟨r', h1, h2⟩ := find_sound hd hk hes hf w
        obtain ⟨me, k0, rfl, e3, e4, e5, e6⟩ := h2.at
        obtain ⟨w', b1, b2, b3⟩ := hw.setMap (P := P) (ob' := .map (eraseEntry es i) clock) (o' := .map (es'.eraseIdxIfInBounds i) clock) ho rfl he hg rfl
          ⟨_, rfl, by
            have : (es'.eraseIdxIfInBounds i).toList = es'.toList.eraseIdx i := by simp
            rw [this]
            exact hes.erase i⟩
        refine ⟨_, _, rfl, ValR.of (v' := .tuple #[]) ?_ (undef_VR _) b2 (Ext.put he _) b3⟩
        simp only [Builtin.delete_, ht, v0, v1, Sem.run_bind, run_underlying hu w, Result.andThen_ok, getObj_at (P := P) hg rfl, hck, h1, b1, Sem.run_pure]
      · rename_i hf
        cases h
        obtain ⟨r', h1, h2⟩ := find_sound hd hk hes hf w
        simp only [FindR] at h2
        subst h2
        have hlt : e.b < w.heap.size := (hw.lt id e he).1
        have hsame : w.heap.setIfInBounds e.b (.map es' clock) = w.heap := by
          apply Array.ext_getElem?
          intro j
          by_cases hj : j = e.b
          · subst hj; rw [(heapSet hg).1, hg]
          · rw [(heapSet hg).2 j hj]
        refine ⟨_, _, rfl, ValR.of (φ' := φ) (w' := { w with heap := w.heap.setIfInBounds e.b (.map es' clock) }) (v' := .tuple #[]) ?_ (undef_VR _) (hw.same_heap hsame) (Ext.refl _ _ _) (Keep.same_heap hsame)⟩
        simp only [Builtin.delete_, ht, v0, v1, Sem.run_bind, run_underlying hu w, Result.andThen_ok, getObj_at (P := P) hg rfl, hck, h1, setObj_at (P := P) (o' := .map es' clock) hg rfl, Sem.run_pure]
      · cases h
  · cases h
end
end Go.Ev
