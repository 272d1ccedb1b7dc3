/- Contracts of the reference's Less (09) and of key.Less, every world. -/
import Derived.Test.YtplbcbamnjnhlaaDoorMP11
import Derived.Test.YtplbcbamnjnhlaaDoorMP06
import Derived.Deep.QuietTactic
import Derived.BigQuiet
namespace Go.Proofs.YtplbcbamnjnhlaaDoor
open Go.RowKit

theorem less_step (x y : List UInt8) (i : Nat) (h1 : i < x.length) (h2 : i < y.length) :
    Op.bytesLess (x.drop i) (y.drop i) = (decide (x[i].toNat < y[i].toNat) || (x[i] == y[i] && Op.bytesLess (x.drop (i + 1)) (y.drop (i + 1)))) := by
  rw [List.drop_eq_getElem_cons h1, List.drop_eq_getElem_cons h2, Op.bytesLess]
  rfl
theorem below_drewN' {B : Nat} {w w' : World} (h : Below B w w') (n : Nat) : Below B w (w'.drewN n) := ⟨h.os, h.tape, h.output, h.size, h.block⟩
set_option maxRecDepth 100000 in
set_option maxHeartbeats 400000 in
theorem less09_any (x y : List UInt8) (w : World) (hx : x.length ≤ 68719476736) (hy : y.length ≤ 68719476736) :
    Calls Tryd.prog 56 #[.string ⟨x.toArray⟩, .string ⟨y.toArray⟩] w fun e w' => e = .returned (.bool (Op.bytesLess x y)) ∧ Below w.heap.size w w' := by
  obtain ⟨X, hX⟩ : ∃ X : ByteArray, X = ⟨x.toArray⟩ := ⟨_, rfl⟩
  obtain ⟨Y, hY⟩ : ∃ Y : ByteArray, Y = ⟨y.toArray⟩ := ⟨_, rfl⟩
  have hXs : X.size = x.length := by rw [hX]; rfl
  have hYs : Y.size = y.length := by rw [hY]; rfl
  rw [← hX, ← hY]
  have HXX := Lib.hid hX
  have HYY := Lib.hid hY
  clear hX hY
  go_enter Tryd.func56, Tryd.ntmps56
  go_wp2_with fail
  go_loopw [5] (fun v5 wr => ∃ (i : Nat), i ≤ x.length ∧ i ≤ y.length ∧ v5 = .int .i64 i ∧ Hid (Op.bytesLess (x.drop i) (y.drop i) = Op.bytesLess x y) ∧ Hid (Below w.heap.size w wr)) (fun v5 _ => x.length - (intOf v5).toNat)
  case atStart => exact ⟨0, by omega, by omega, rfl, rfl, (Below.refl _ _)⟩
  case round =>
    obtain ⟨i, hi, hj, rfl, HB, HW⟩ := hrel
    by_cases h1 : i < x.length
    · by_cases h2 : i < y.length
      · have hXi : ∀ (h : i < X.size), X[i] = x[i] := fun h => by
          have := HXX.out
          subst this
          rfl
        have hYi : ∀ (h : i < Y.size), Y[i] = y[i] := fun h => by
          have := HYY.out
          subst this
          rfl
        have HXI := Lib.hid hXi
        have HYI := Lib.hid hYi
        clear hXi hYi
        have HS := Lib.hid (less_step x y i h1 h2)
        go_wp2_with fail
        go_quiet (fail)
        go_wp2_with (go_quiet (fail))
        · rename_i _ hne
          go_ret
          refine ⟨rt1 (vbool ?_), below_drewN' (below_drewN' HW.out _) _⟩
          rw [← HB.out, HS.out]
          rw [HXI.out, HYI.out] at hne ⊢
          have : (x[i] == y[i]) = false := by
            rw [beq_eq_false_iff_ne]
            intro h
            rw [h] at hne
            simp at hne
          rw [this]
          simp
        · rename_i hne
          rw [HXI.out, HYI.out] at hne
          have he : x[i] = y[i] := UInt8.toNat_inj.1 (Int.ofNat_inj.1 (bne_eq_false_iff_eq.1 hne))
          refine ⟨⟨i + 1, by omega, by omega, by simp, ?_, below_drewN' HW.out _⟩, ?_⟩
          · show Op.bytesLess _ _ = _
            rw [← HB.out, HS.out, he]
            simp
          · simp [intOf]; omega
      · have HS := Lib.hid (show Op.bytesLess (x.drop i) (y.drop i) = decide (x.length < y.length) by
          have := HXX
          rw [List.drop_eq_nil_of_le (show y.length ≤ i by omega), List.drop_eq_getElem_cons h1]
          simp [Op.bytesLess]; omega)
        go_wp2_with fail
        go_ret
        exact ⟨rt1 (vbool (by rw [← HB.out, HS.out])), HW.out⟩
    · have HS := Lib.hid (show Op.bytesLess (x.drop i) (y.drop i) = decide (x.length < y.length) by
        rw [List.drop_eq_nil_of_le (show x.length ≤ i by omega)]
        by_cases h2 : i < y.length
        · rw [List.drop_eq_getElem_cons h2]
          simp [Op.bytesLess]; omega
        · rw [List.drop_eq_nil_of_le (show y.length ≤ i by omega)]
          simp [Op.bytesLess]; omega)
      go_wp2_with fail
      go_ret
      exact ⟨rt1 (vbool (by rw [← HB.out, HS.out])), HW.out⟩
theorem key_size' (h : List UInt8) (k : Int) (hh : h.length = 32) : (Tryd.prog.info? 26).map (·.size) = some (hkCells h k).length := by rw [hkCells_length, hh]; kernel_rfl
theorem bytesLess_self : ∀ (x : List UInt8), Op.bytesLess x x = false
  | [] => rfl
  | a :: x => by rw [Op.bytesLess, bytesLess_self x]; simp
/-- whether a key stands ahead of another one -/
def keyLess (h : List UInt8) (k : Int) (h' : List UInt8) (k' : Int) : Bool := Op.bytesLess (keyText h k) (keyText h' k')
set_option maxRecDepth 100000 in
set_option maxHeartbeats 400000 in
theorem keyLess_any (h h' : List UInt8) (k k' : Int) (w : World) (hh : h.length = 32) (hh' : h'.length = 32) :
    Calls Tryd.prog 69 #[hkv h k, hkv h' k'] w fun e w' => e = .returned (.bool (keyLess h k h' k')) ∧ Below w.heap.size w w' := by
  go_enter Tryd.func69, Tryd.ntmps69
  go_wp2_with fail
  have HG1 := Lib.hid (row_cells (Go.heap_alloc2_old w (.cells (hkCells h k).toArray 26) (.cells (hkCells h' k').toArray 26)))
  have HG2 := Lib.hid (row_cells (Go.heap_alloc2_new w (.cells (hkCells h k).toArray 26) (.cells (hkCells h' k').toArray 26)))
  have HH := Lib.hid hh
  have HH' := Lib.hid hh'
  clear hh hh'
  refine Text.wp_grow [2, 5, 7] [0, 1, 4, 6] [2] (by kernel_rfl) (by kernel_rfl) ?_
  refine Text.wpS_seg 2 _ _ _ _ (by decide) (fun Q' hQ' => ?_)
  simp only [List.take_succ_cons, List.take_zero]
  refine wpList_load_agg rfl 26 rfl rfl keyTy.ut rfl (key_size' h k HH.out) HG1.out ?_
  refine wpList_load_agg rfl 26 rfl rfl keyTy.ut rfl (key_size' h' k' HH'.out) HG2.out ?_
  refine hQ' _ _ ?_
  simp only [List.drop_succ_cons, List.drop_zero]
  generalize ha : Act.put _ _ _ = a9
  simp [Act.put] at ha
  subst ha
  refine Text.wpS_one (fun Q1 hQ1 => ?_)
  refine wpList_bin rfl .neq 26 rfl rfl rfl (hkv_guard keyTy.gd ..) (hkv_neq keyTy HH.out HH'.out) ?_
  by_cases he : h = h' ∧ k = k'
  · rw [show (!(decide (h = h') && decide (k = k'))) = false by simp [he]]
    have hle : keyLess h k h' k' = false := by
      obtain ⟨rfl, rfl⟩ := he
      exact bytesLess_self _
    have HLE := Lib.hid hle
    clear hle he
    refine hQ1 _ _ ⟨Below.refl _ _, ?_⟩
    generalize ha : Act.put _ _ _ = a9
    simp [Act.put] at ha
    subst ha
    refine Text.wpS_seg 2 _ _ _ _ (by decide) (fun Q2 hQ2 => ?_)
    simp only [List.take_succ_cons, List.take_zero]
    refine wpList_val rfl (v := .bool false) rfl ?_
    refine wpList_skip rfl ?_
    refine hQ2 _ _ ?_
    simp only [List.drop_succ_cons, List.drop_zero]
    generalize ha : Act.put _ _ _ = a9
    simp [Act.put] at ha
    subst ha
    refine Text.wpS_one (fun Q3 hQ3 => ?_)
    refine wpList_skip rfl ?_
    refine hQ3 _ _ ⟨Below.refl _ _, ?_⟩
    generalize ha : Act.put _ _ _ = a9
    simp [Act.put] at ha
    subst ha
    refine Text.wpS_seg 1 _ _ _ _ (by decide) (fun Q4 hQ4 => ?_)
    simp only [List.take_succ_cons, List.take_zero]
    refine wpList_skip rfl ?_
    refine hQ4 _ _ ?_
    simp only [List.drop_succ_cons, List.drop_zero]
    generalize ha : Act.put _ _ _ = a9
    simp [Act.put] at ha
    subst ha
    refine Text.wpS_one (fun Q5 hQ5 => ?_)
    refine wpList_skip rfl ?_
    refine hQ5 _ _ ⟨Below.refl _ _, ?_⟩
    generalize ha : Act.put _ _ _ = a9
    simp [Act.put] at ha
    subst ha
    refine Text.wpS_seg 3 _ _ _ _ (by decide) (fun Q6 hQ6 => ?_)
    simp only [List.take_succ_cons, List.take_zero]
    refine wpList_skip rfl ?_
    refine wpList_val rfl (v := .bool false) rfl ?_
    refine wpList_val rfl (v := .bool false) rfl ?_
    refine hQ6 _ _ ?_
    generalize ha : Act.put _ _ _ = a9
    simp [Act.put] at ha
    subst ha
    simp only [List.drop_succ_cons, List.drop_zero]
    refine ⟨by rfl, ⟨fun _ => ⟨_, _, rfl, HG1.out 0 _ (List.getElem?_eq_getElem (by rw [hkCells_length]; omega))⟩, fun _ => ⟨_, _, rfl, HG2.out 0 _ (List.getElem?_eq_getElem (by rw [hkCells_length]; omega))⟩, (fun hh => absurd hh Bool.false_ne_true), (fun hh => absurd hh Bool.false_ne_true), trivial⟩, ?_⟩
    go_wp2_with fail
    go_ret
    exact ⟨rt1 (vbool HLE.out.symm), (((Below.refl _ _).alloc (Nat.le_refl _) _).alloc (Nat.le_of_lt (by show _ < (Array.push _ _).size; rw [Array.size_push]; exact Nat.lt_succ_self _)) _).drew⟩
  · rw [show (!(decide (h = h') && decide (k = k'))) = true by by_cases h1 : h = h' <;> by_cases h2 : k = k' <;> simp_all]
    clear he
    refine hQ1 _ _ ⟨Below.refl _ _, ?_⟩
    generalize ha : Act.put _ _ _ = a9
    simp [Act.put] at ha
    subst ha
    refine Text.wpS_seg 2 _ _ _ _ (by decide) (fun Q2 hQ2 => ?_)
    simp only [List.take_succ_cons, List.take_zero]
    refine wpList_val rfl (v := .bool true) rfl ?_
    refine wpList_load_aggG rfl 26 rfl rfl keyTy.ut rfl (key_size' h k HH.out) HG1.out ?_
    refine hQ2 _ _ ?_
    simp only [List.drop_succ_cons, List.drop_zero]
    generalize ha : Act.put _ _ _ = a9
    simp [Act.put] at ha
    subst ha
    refine Text.wpS_one (fun Q3 hQ3 => ?_)
    go_wp2_with fail
    refine (text_any h k _ HH.out).mono ?_
    rintro e w2 ⟨rfl, hb2⟩
    have HB2 := Lib.hid hb2
    clear hb2
    obtain ⟨s1, hs1⟩ : ∃ s1 : ByteArray, s1 = ⟨(keyText h k).toArray⟩ := ⟨_, rfl⟩
    rw [← hs1]
    have HS1 := Lib.hid hs1
    clear hs1
    go_wp2_with fail
    refine ⟨HB2.out, ?_⟩
    refine Text.wpS_seg 1 _ _ _ _ (by decide) (fun Q4 hQ4 => ?_)
    simp only [List.take_succ_cons, List.take_zero]
    refine wpList_load_aggG rfl 26 rfl rfl keyTy.ut rfl (key_size' h' k' HH'.out) (fun j u hu => (HB2.out.cell (p := ⟨w.heap.size + 1, 0 + j, none⟩) (by show _ < (Array.push (Array.push _ _) _).size; rw [Array.size_push, Array.size_push]; show w.heap.size + 1 < _; omega)).trans (HG2.out j u hu)) ?_
    refine hQ4 _ _ ?_
    simp only [List.drop_succ_cons, List.drop_zero]
    generalize ha : Act.put _ _ _ = a9
    simp [Act.put] at ha
    subst ha
    refine Text.wpS_one (fun Q5 hQ5 => ?_)
    go_wp2_with fail
    refine (text_any h' k' _ HH'.out).mono ?_
    rintro e w3 ⟨rfl, hb3⟩
    have HB3 := Lib.hid (HB2.out.trans (hb3.mono HB2.out.size))
    clear hb3
    obtain ⟨s2, hs2⟩ : ∃ s2 : ByteArray, s2 = ⟨(keyText h' k').toArray⟩ := ⟨_, rfl⟩
    rw [← hs2]
    have HS2 := Lib.hid hs2
    clear hs2
    go_wp2_with fail
    refine ⟨HB3.out, ?_⟩
    have HLE := Lib.hid (show Op.bytesLess s1.toList s2.toList = keyLess h k h' k' by rw [HS1.out, HS2.out]; unfold keyLess; simp)
    refine Text.wpS_seg 3 _ _ _ _ (by decide) (fun Q6 hQ6 => ?_)
    simp only [List.take_succ_cons, List.take_zero]
    go_wp2_with fail
    simp only [List.drop_succ_cons, List.drop_zero]
    refine ⟨by rfl, ⟨fun _ => ⟨_, _, rfl, HG1.out 0 _ (List.getElem?_eq_getElem (by rw [hkCells_length]; omega))⟩, fun _ => ⟨_, _, rfl, HG2.out 0 _ (List.getElem?_eq_getElem (by rw [hkCells_length]; omega))⟩, fun _ => ⟨_, _, rfl, HG1.out 0 _ (List.getElem?_eq_getElem (by rw [hkCells_length]; omega))⟩, fun _ => ⟨_, _, rfl, HG2.out 0 _ (List.getElem?_eq_getElem (by rw [hkCells_length]; omega))⟩, trivial⟩, ?_⟩
    go_wp2_with fail
    go_ret
    refine ⟨rt1 (vbool HLE.out), ?_⟩
    exact (((Below.refl _ _).alloc (Nat.le_refl _) _).alloc (Nat.le_of_lt (by show _ < (Array.push _ _).size; rw [Array.size_push]; exact Nat.lt_succ_self _)) _).trans ((below_drew HB3.out).mono (by show _ ≤ (Array.push (Array.push _ _) _).size; rw [Array.size_push, Array.size_push]; omega))
end Go.Proofs.YtplbcbamnjnhlaaDoor
