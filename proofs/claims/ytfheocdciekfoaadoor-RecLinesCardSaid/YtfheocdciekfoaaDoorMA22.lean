/- Contracts of rec.keyed, rec.rising and the reference's rising. -/
import Derived.Test.YtfheocdciekfoaaDoorMA19
import Derived.Test.YtfheocdciekfoaaDoorMA21
namespace Go.Proofs.YtfheocdciekfoaaDoor
open Go.RowKit

set_option maxRecDepth 100000 in
theorem keyed_any (h : List UInt8) (k : Int) (w : World) (hh : h.length = 32) :
    Calls Tryd.prog 74 #[hkv h k] w fun e w' => e = .returned (.bool (kOk k)) ∧ Below w.heap.size w w' := by
  have HH := Lib.hid hh
  clear hh
  obtain ⟨S, hS⟩ : ∃ S : ByteArray, S = ⟨(keyText h k).toArray⟩ := ⟨_, rfl⟩
  have hz : S.toList.isEmpty = !kOk k := by
    rw [hS]
    have := keyText_ne h k
    cases hk : kOk k <;> rw [hk] at this <;> simpa using this
  have HS := Lib.hid hS
  clear hS
  have HB := Lib.hid ((Below.refl _ _).alloc (Nat.le_refl _) (.cells (hkCells h k).toArray 24) : Below w.heap.size w _)
  have HG := Lib.hid (Go.heap_alloc_new w (.cells (hkCells h k).toArray 24))
  go_enter Tryd.func74, Tryd.ntmps74
  go_wp2_with (refine stop_at (some 1) rfl ?_)
  refine Stop.go (wpList_box rfl _ rfl rfl (hkv_cells h k) ?_)
  generalize w.alloc (.cells (hkCells h k).toArray 24) = w1 at *
  go_wp2_with (refine stop_at (some 3) rfl ?_)
  refine Stop.go (wpList_load_agg rfl 24 rfl rfl keyTy.ut rfl (key_size h k HH.out) (row_cells HG.out) ?_)
  go_wp2_with (go_at_call 29; refine (text_any h k _ HH.out).mono ?_; rw [← HS.out]; rintro e w2 ⟨rfl, hb2⟩)
  go_ret
  exact ⟨rt1 (vbool (by simp)), HB.out.trans (hb2.mono HB.out.size)⟩
/-- key i may be, and stands behind the one ahead of it -/
def stepOk (xs : List KeyD) (i : Nat) : Bool := kOk (xs.getD i (z32, 0)).2 && (i == 0 || keyLess (xs.getD (i - 1) (z32, 0)).1 (xs.getD (i - 1) (z32, 0)).2 (xs.getD i (z32, 0)).1 (xs.getD i (z32, 0)).2)
def stepsOk (xs : List KeyD) (i : Nat) : Bool := (List.range i).all (stepOk xs)
def risingB (xs : List KeyD) : Bool := stepsOk xs xs.length && decide (1 ≤ xs.length ∧ xs.length ≤ 256)
theorem stepsOk_succ (xs : List KeyD) (i : Nat) : stepsOk xs (i + 1) = (stepsOk xs i && stepOk xs i) := by
  unfold stepsOk
  rw [List.range_succ, List.all_append]
  simp
theorem stepsOk_no (xs : List KeyD) (i n : Nat) (hi : i < n) (h : stepOk xs i = false) : stepsOk xs n = false := by
  unfold stepsOk
  rw [List.all_eq_false]
  exact ⟨i, List.mem_range.2 hi, by simp [h]⟩
theorem getD_at (xs : List KeyD) (i : Nat) (h : i < xs.length) : xs.getD i (z32, 0) = xs[i] := by rw [List.getD_eq_getElem?_getD, List.getElem?_eq_getElem h]; rfl
theorem stepOk_at (xs : List KeyD) (i : Nat) (h : i < xs.length) : stepOk xs i = (kOk xs[i].2 && (i == 0 || keyLess xs[i - 1].1 xs[i - 1].2 xs[i].1 xs[i].2)) := by
  unfold stepOk
  rw [getD_at xs i h, getD_at xs (i - 1) (by omega)]
set_option maxRecDepth 100000 in
set_option maxHeartbeats 1000000 in
theorem rising_any (A : Option Addr) (c B n : Nat) (xs : List KeyD) (w : World) (h1 : SlR eKey w B (.slice A n c) xs) (hB : B ≤ w.heap.size) :
    Calls Tryd.prog 75 #[.slice A n c] w fun e w' => e = .returned (.bool (risingB xs)) ∧ Below w.heap.size w w' := by
  have N1 := Lib.hid h1.n_eq
  have hc1 := h1.n_le
  have H1 := Lib.hid h1
  have HBW := Lib.hid hB
  clear h1 hB
  go_enter Tryd.func75, Tryd.ntmps75
  go_wp2_with fail
  go_loopw [7] (fun v7 wr => ∃ i : Nat, i ≤ n ∧ v7 = .int .i64 i ∧ Hid (stepsOk xs i = true) ∧ Hid (Below w.heap.size w wr)) (fun v7 _ => n - (intOf v7).toNat)
  case atStart => exact ⟨0, by omega, rfl, rfl, Below.refl _ _⟩
  case round =>
    obtain ⟨i, hi, rfl, HP, HB⟩ := hrel
    by_cases hlt : i < n
    · have hlt1 : i < xs.length := by have := N1.out; omega
      have HR := Lib.hid (H1.out.below (HB.out.mono HBW.out))
      obtain ⟨b1, o1, rfl, _, hb1, l1, e1⟩ := keys_at HR.out hlt1
      obtain ⟨x1, x2, hx⟩ : ∃ x1 x2, xs[i] = (x1, x2) := ⟨_, _, rfl⟩
      rw [hx] at l1 e1
      simp only at l1 e1
      have HX := Lib.hid hx
      have E1 := Lib.hid e1
      have L1 := Lib.hid l1
      clear e1 hx l1
      go_wp2_with (refine stop_at (some 10) rfl ?_)
      refine Stop.go (wpList_seg 1 _ _ _ (fun Q' hQ' => ?_))
      simp only [List.take_succ_cons, List.take_zero]
      go_wp2_with fail
      try simp only [List.drop_succ_cons, List.drop_zero]
      refine Stop.go (wpList_load_agg rfl 24 rfl rfl keyTy.ut rfl (key_size x1 x2 L1.out) E1.out ?_)
      refine wpList_alloc rfl 24 rfl zero_key rfl ?_
      refine wpList_seg 1 _ _ _ (fun Q' hQ' => ?_)
      simp only [List.take_succ_cons, List.take_zero]
      go_wp2_with fail
      try simp only [List.drop_succ_cons, List.drop_zero]
      refine Stop.go (wpList_store_agg rfl 24 rfl rfl rfl (store_new2 (g := wr.heap.size) rfl (hkv_cells _ _) (key_size _ _ L1.out) (by rw [List.size_toArray, hkCells_length, hkCells_length, L1.out]; rfl) (hkCells_one _ _)) ?_)
      have hb2 : Below wr.heap.size wr (wr.alloc (.cells (hkCells x1 x2).toArray 24)) := (Below.refl _ _).alloc (Nat.le_refl _) _
      have HG := Lib.hid (Go.heap_alloc_new wr (.cells (hkCells x1 x2).toArray 24))
      have HB2 := Lib.hid (HB.out.trans (hb2.mono HB.out.size))
      have HR2 := Lib.hid (H1.out.below (HB2.out.mono HBW.out))
      have HLT := Lib.hid (Nat.lt_of_lt_of_le hb1 (Nat.le_trans HBW.out HB.out.size))
      clear hb2 E1 HR hb1
      generalize wr.alloc (.cells (hkCells x1 x2).toArray 24) = w2 at *
      generalize wr.heap.size = m2 at *
      go_wp2_with fail
      refine wpT_grow [1, 13] [0, 11, 12] [] (by kernel_rfl) (by kernel_rfl) ?_
      refine wpT_seg 1 (by decide) (fun Q' hQ' => ?_)
      simp only [List.take_succ_cons, List.take_zero]
      refine wpList_load_agg rfl 24 rfl rfl keyTy.ut rfl (key_size x1 x2 L1.out) (row_cells HG.out) ?_
      refine hQ' _ _ ?_
      simp only [List.drop_succ_cons, List.drop_zero]
      generalize hac : Act.put _ _ _ = a9
      simp [Act.put] at hac
      subst hac
      refine wpT_one (fun Q1 hQ1 => ?_)
      go_wp2_with fail
      refine (keyed_any x1 x2 _ L1.out).mono ?_
      rintro e w3 ⟨rfl, hb3⟩
      have HB3 := Lib.hid hb3
      clear hb3
      cases hk : kOk x2
      · have HF := Lib.hid (show risingB xs = false by unfold risingB; rw [stepsOk_no xs i xs.length hlt1 (by rw [stepOk_at xs i hlt1, HX.out]; simp [hk])]; rfl)
        clear hk
        go_wp2_with fail
        refine ⟨HB3.out, ?_⟩
        refine wpT_seg 11 (by decide) (fun Q2 hQ2 => ?_)
        simp only [List.take_succ_cons, List.take_zero]
        go_wp2_with fail
        try simp only [List.drop_succ_cons, List.drop_zero]
        refine wpT_one (fun Q3 hQ3 => ?_)
        go_wp2_with fail
        refine ⟨HB3.out, ?_⟩
        refine wpT_seg 3 (by decide) (fun Q2 hQ2 => ?_)
        simp only [List.take_succ_cons, List.take_zero]
        go_wp2_with fail
        try simp only [List.drop_succ_cons, List.drop_zero]
        refine wpT_end ⟨by rfl, ⟨(fun _ => ⟨_, _, rfl, row_cells HG.out 0 _ (List.getElem?_eq_getElem (by rw [hkCells_length]; omega))⟩), Text.no_want rfl, Text.no_want rfl, trivial⟩, ?_⟩
        go_wp2_with fail
        go_ret
        exact ⟨rt1 (vbool HF.out.symm), HB2.out.trans ((below_drew HB3.out).mono HB2.out.size)⟩
      · have HRT := Lib.hid (HR2.out.below (show Below B w2 w3 from (below_drew HB3.out).mono (Nat.le_trans HBW.out HB2.out.size)))
        have HBT := Lib.hid (HB2.out.trans ((below_drew HB3.out).mono HB2.out.size))
        by_cases hi0 : i = 0
        · subst hi0
          have HS1 := Lib.hid (show stepsOk xs (0 + 1) = true by rw [stepsOk_succ, HP.out, stepOk_at xs 0 hlt1, HX.out]; simp [hk])
          clear hk
          go_wp2_with fail
          refine ⟨HB3.out, ?_⟩
          refine wpT_seg 11 (by decide) (fun Q2 hQ2 => ?_)
          simp only [List.take_succ_cons, List.take_zero]
          go_wp2_with fail
          try simp only [List.drop_succ_cons, List.drop_zero]
          refine wpT_one (fun Q3 hQ3 => ?_)
          go_wp2_with fail
          refine ⟨HB3.out, ?_⟩
          refine wpT_seg 3 (by decide) (fun Q2 hQ2 => ?_)
          simp only [List.take_succ_cons, List.take_zero]
          go_wp2_with fail
          try simp only [List.drop_succ_cons, List.drop_zero]
          refine wpT_end ⟨by rfl, ⟨(fun _ => ⟨_, _, rfl, row_cells HG.out 0 _ (List.getElem?_eq_getElem (by rw [hkCells_length]; omega))⟩), Text.no_want rfl, Text.no_want rfl, trivial⟩, ?_⟩
          go_wp2_with fail
          refine ⟨⟨1, by omega, rfl, HS1, HBT⟩, ?_⟩
          simp [intOf]; omega
        · obtain ⟨j, rfl⟩ : ∃ j, i = j + 1 := ⟨i - 1, by omega⟩
          have hj : j < xs.length := by omega
          obtain ⟨b2, o2, hA2, _, hb2, l2, e2⟩ := keys_at HR2.out hj
          injection hA2 with hA2
          injection hA2 with hA2 hA3
          subst hA2 hA3
          obtain ⟨y1, y2, hy⟩ : ∃ y1 y2, xs[j] = (y1, y2) := ⟨_, _, rfl⟩
          rw [hy] at l2 e2
          simp only at l2 e2
          have HY := Lib.hid hy
          have E2 := Lib.hid e2
          have L2 := Lib.hid l2
          have E3 := Lib.hid (fun (q : Nat) (u : Value) (hu : (hkCells y1 y2)[q]? = some u) => ((below_drew HB3.out).cell (p := ⟨b1, o1 + j * 33 + q, none⟩) (Nat.lt_of_lt_of_le hb2 (Nat.le_trans HBW.out HB2.out.size))).trans (e2 q u hu))
          have HG3 := Lib.hid (((below_drew HB3.out).block _ (Array.getElem?_eq_some_iff.1 HG.out).1).trans HG.out)
          clear e2 hy l2 hi0
          have HST := Lib.hid (show stepsOk xs (j + 1 + 1) = keyLess y1 y2 x1 x2 by rw [stepsOk_succ, HP.out, stepOk_at xs (j + 1) hlt1, HX.out]; simp only [Nat.add_sub_cancel, HY.out, hk]; simp)
          have HNO := Lib.hid (show keyLess y1 y2 x1 x2 = false → risingB xs = false from fun hL => by unfold risingB; rw [stepsOk_no xs (j + 1) xs.length hlt1 (by rw [stepOk_at xs (j + 1) hlt1, HX.out]; simp only [Nat.add_sub_cancel, HY.out, hL]; simp)]; rfl)
          clear hk
          obtain ⟨Lb, hLb⟩ : ∃ Lb, Lb = keyLess y1 y2 x1 x2 := ⟨_, rfl⟩
          rw [← hLb] at HST HNO
          have HLB := Lib.hid hLb
          clear hLb
          go_wp2_with fail
          refine ⟨HB3.out, ?_⟩
          refine wpT_seg 9 (by decide) (fun Q2 hQ2 => ?_)
          simp only [List.take_succ_cons, List.take_zero]
          go_wp2_with fail
          try simp only [List.drop_succ_cons, List.drop_zero]
          refine wpT_seg 2 (by decide) (fun Q2 hQ2 => ?_)
          simp only [List.take_succ_cons, List.take_zero]
          refine wpList_load_aggG (by rfl) 24 rfl rfl keyTy.ut rfl (key_size y1 y2 L2.out) E3.out ?_
          refine wpList_load_aggG (by rfl) 24 rfl rfl keyTy.ut rfl (key_size x1 x2 L1.out) (row_cells HG3.out) ?_
          refine hQ2 _ _ ?_
          simp only [List.drop_succ_cons, List.drop_zero]
          generalize hac : Act.put _ _ _ = a9
          simp [Act.put] at hac
          subst hac
          refine wpT_one (fun Q3 hQ3 => ?_)
          go_wp2_with fail
          refine (keyLess_any y1 x1 y2 x2 _ L2.out L1.out).mono ?_
          rw [← HLB.out]
          rintro e w4 ⟨rfl, hb4⟩
          have HB4 := Lib.hid (HB3.out.trans (hb4.mono HB3.out.size))
          clear hb4
          cases Lb
          · have HF := Lib.hid (HNO.out rfl)
            go_wp2_with fail
            refine ⟨HB4.out, ?_⟩
            refine wpT_seg 3 (by decide) (fun Q2 hQ2 => ?_)
            simp only [List.take_succ_cons, List.take_zero]
            go_wp2_with fail
            try simp only [List.drop_succ_cons, List.drop_zero]
            refine wpT_end ⟨by rfl, ⟨(fun _ => ⟨_, _, rfl, row_cells HG.out 0 _ (List.getElem?_eq_getElem (by rw [hkCells_length]; omega))⟩), (fun _ => ⟨_, _, rfl, E2.out 0 _ (List.getElem?_eq_getElem (by rw [hkCells_length]; omega))⟩), (fun _ => ⟨_, _, rfl, row_cells HG.out 0 _ (List.getElem?_eq_getElem (by rw [hkCells_length]; omega))⟩), trivial⟩, ?_⟩
            go_wp2_with fail
            go_ret
            exact ⟨rt1 (vbool HF.out.symm), HB2.out.trans ((below_drew HB4.out).mono HB2.out.size)⟩
          · have HBT4 := Lib.hid (HB2.out.trans ((below_drew HB4.out).mono HB2.out.size))
            go_wp2_with fail
            refine ⟨HB4.out, ?_⟩
            refine wpT_seg 3 (by decide) (fun Q2 hQ2 => ?_)
            simp only [List.take_succ_cons, List.take_zero]
            go_wp2_with fail
            try simp only [List.drop_succ_cons, List.drop_zero]
            refine wpT_end ⟨by rfl, ⟨(fun _ => ⟨_, _, rfl, row_cells HG.out 0 _ (List.getElem?_eq_getElem (by rw [hkCells_length]; omega))⟩), (fun _ => ⟨_, _, rfl, E2.out 0 _ (List.getElem?_eq_getElem (by rw [hkCells_length]; omega))⟩), (fun _ => ⟨_, _, rfl, row_cells HG.out 0 _ (List.getElem?_eq_getElem (by rw [hkCells_length]; omega))⟩), trivial⟩, ?_⟩
            go_wp2_with fail
            refine ⟨⟨j + 1 + 1, by omega, by simp, HST, HBT4⟩, ?_⟩
            simp [intOf]; omega
    · obtain rfl : i = n := by omega
      have HS := Lib.hid (show stepsOk xs xs.length = true by have := HP.out; rwa [N1.out] at this)
      have HZ := Lib.hid (show risingB xs = decide (1 ≤ i ∧ i ≤ 256) by unfold risingB; rw [HS.out, N1.out]; simp)
      by_cases h1 : 1 ≤ i
      · by_cases h2 : i ≤ 256
        · have HF := Lib.hid (show risingB xs = true by rw [HZ.out]; exact decide_eq_true ⟨h1, h2⟩)
          go_wp2_with fail
          go_ret
          exact ⟨rt1 (vbool (by rw [HF.out]; exact decide_eq_true (by omega))), HB.out⟩
        · have HF := Lib.hid (show risingB xs = false by rw [HZ.out]; exact decide_eq_false (fun h => h2 h.2))
          go_wp2_with fail
          go_ret
          exact ⟨rt1 (vbool (by rw [HF.out]; exact decide_eq_false (by omega))), HB.out⟩
      · have HF := Lib.hid (show risingB xs = false by rw [HZ.out]; exact decide_eq_false (fun h => h1 h.1))
        go_wp2_with fail
        go_ret
        exact ⟨rt1 (vbool HF.out.symm), HB.out⟩
end Go.Proofs.YtfheocdciekfoaaDoor
