/- The walk of the law KeyNames. -/
import Derived.Test.YtfheocdciekfoaaDoorKeyAwake
import Derived.Test.YtfheocdciekfoaaDoorName3
namespace Go.Proofs.YtfheocdciekfoaaDoor
open Go.RowKit

theorem nameL_five (x : NmD) (h : nameL x ≠ []) : x.kind = 1 ∨ x.kind = 2 ∨ x.kind = 3 ∨ x.kind = 4 ∨ x.kind = 5 := by
  refine Decidable.by_contra fun hn => h ?_
  unfold nameL
  rw [if_neg (fun e => hn (.inl e)), if_neg (fun e => hn (e.elim (fun q => .inr (.inl q)) (fun q => .inr (.inr (.inl q))))), if_neg (fun e => hn (.inr (.inr (.inr (.inl e))))), if_neg (fun e => hn (.inr (.inr (.inr (.inr e)))))]
set_option maxRecDepth 100000 in
set_option maxHeartbeats 1000000 in
theorem keyNames_any (kind : Int) (h : List UInt8) (k n : Int) (w : World) (hh : h.length = 32) (ht : Tabs w) :
    Calls Tryd.prog 8 #[.int .i64 kind, hkv h k, .int .i64 n] w fun e w' => e = .returned (.bool true) ∧ Below w.heap.size w w' := by
  have HH := Lib.hid hh
  have HT := Lib.hid ht
  clear hh ht
  obtain ⟨x, hx⟩ : ∃ x : NmD, x = ⟨kind, h, k, n⟩ := ⟨_, rfl⟩
  have HXL := Lib.hid (show x.h.length = 32 by rw [hx]; exact HH.out)
  obtain ⟨S, hS⟩ : ∃ S : ByteArray, S = ⟨(nameL x).toArray⟩ := ⟨_, rfl⟩
  have HST := Lib.hid (show S.toList = nameL x by rw [hS]; simp)
  have HS := Lib.hid hS
  have HX := Lib.hid hx
  clear hS hx
  have hE : (S.toList == S.toList) = true := by simp
  have hb1 : Below w.heap.size w (w.alloc (.cells (hkCells h k).toArray 24)) := (Below.refl _ _).alloc (Nat.le_refl _) _
  have HG1 := Lib.hid (Go.heap_alloc_new w (.cells (hkCells h k).toArray 24))
  have HB1 := Lib.hid hb1
  go_enter Tryd.func8, Tryd.ntmps8
  go_wp2_with (refine stop_at (some 4) rfl ?_)
  refine Stop.go (wpList_box rfl _ rfl rfl (hkv_cells h k) ?_)
  clear hb1
  generalize w.alloc (.cells (hkCells h k).toArray 24) = w1 at *
  go_wp2_with (refine stop_at (some 11) rfl ?_)
  refine Stop.go (wpList_load_agg rfl 24 rfl rfl keyTy.ut rfl (key_size h k HH.out) (row_cells HG1.out) ?_)
  refine wpList_seg 1 _ _ _ (fun Q' hQ' => ?_)
  simp only [List.take_succ_cons, List.take_zero]
  go_wp2_with fail
  try simp only [List.drop_succ_cons, List.drop_zero]
  refine Stop.go (wpList_build rfl 68 rfl (vs := #[(0, .int .i64 kind), (1, hkv h k), (2, .int .i64 n)]) (by rfl) (build_nm3 kind h k n HH.out _) ?_)
  rw [← HX.out]
  refine wpList_alloc rfl 68 rfl zero_nm rfl ?_
  refine wpList_store_agg rfl 68 rfl rfl rfl (store_new2 (g := w1.heap.size) rfl (nmv_cells _) (nm_size _ HXL.out) (by rw [List.size_toArray, nmCells_length, nmCells_length, HXL.out]; rfl) (nmCells_one _)) ?_
  have hb2 : Below w1.heap.size w1 (w1.alloc (.cells (nmCells x).toArray 68)) := (Below.refl _ _).alloc (Nat.le_refl _) _
  have HN2 := Lib.hid (NmAt.new w1 68 HXL.out)
  have HB2 := Lib.hid (HB1.out.trans (hb2.mono HB1.out.size))
  have HG2 := Lib.hid ((hb2.block _ (Array.getElem?_eq_some_iff.1 HG1.out).1).trans HG1.out)
  have HT2 := Lib.hid (HT.out.below HB2.out)
  clear hb2 HG1 HB1
  generalize w1.alloc (.cells (nmCells x).toArray 68) = w2 at *
  generalize w1.heap.size = m2 at *
  go_wp2_with (refine stop_at (some 14) rfl ?_)
  refine Stop.go (wpList_load_agg rfl 68 rfl rfl nmTy_u rfl (nm_size x HXL.out) HN2.out.all_ ?_)
  go_wp2_with (first | (go_at_call 30; refine (kwrite_any x _ HXL.out HT2.out).mono ?_; rw [← HS.out]; rintro e w3 ⟨rfl, hb3⟩; have HN3 := Lib.hid (HN2.out.later hb3); have HB3 := Lib.hid (HB2.out.trans (hb3.mono HB2.out.size)); have HG3 := Lib.hid ((hb3.block _ (Array.getElem?_eq_some_iff.1 HG2.out).1).trans HG2.out); clear hb3 HN2 HB2 HT2 HG2) | refine stop_at (some 17) rfl ?_)
  refine Stop.go (wpList_load_agg rfl 68 rfl rfl nmTy_u rfl (nm_size x HXL.out) HN3.out.all_ ?_)
  by_cases hne : nameL x = []
  · have hz : S.toList.isEmpty = true := by rw [HST.out, hne]; rfl
    clear hne
    go_wp2_with (first | (go_at_call 31; refine (name_any x _ HXL.out).mono ?_; rw [← HS.out]; rintro e w4 ⟨rfl, hb4⟩; have HB4 := Lib.hid (HB3.out.trans (hb4.mono HB3.out.size)); have HG4 := Lib.hid ((hb4.block _ (Array.getElem?_eq_some_iff.1 HG3.out).1).trans HG3.out); have HT4 := Lib.hid (HT.out.below HB4.out); clear hb4 HN3 HB3 HG3) | (go_at_call 26; refine (awake17_any _ HT4.out).mono ?_; rintro e w5 ⟨rfl, hb5⟩) | refine stop_at (some 24) rfl ?_)
    go_ret
    exact ⟨rfl, HB4.out.trans (hb5.mono HB4.out.size)⟩
  · have hz : S.toList.isEmpty = false := by rw [HST.out]; simpa using hne
    obtain ⟨y, hy⟩ : ∃ y : NmD, y = readL (nameL x) := ⟨_, rfl⟩
    have HYL := Lib.hid (show y.h.length = 32 by rw [hy]; exact readL_len _)
    have HY := Lib.hid (hy.trans (read_write x HXL.out hne))
    have HRW := Lib.hid hy.symm
    clear hy
    have HNL := Lib.hid (show (nameL x).length ≤ 1099511627776 from by
      have h5 := nameL_five x hne
      unfold nameL
      split
      · split
        · rw [List.length_append, keyText_len _ _ HXL.out (by assumption)]; decide
        · decide
      split
      · split
        · rename_i h1 h23 hr
          rw [List.length_append]
          have := Lib.itoa_length_le x.n (by omega) (by omega)
          have : (frontL x.kind).length = 2 := by rcases h23 with e | e <;> rw [e] <;> rfl
          omega
        · decide
      split
      · decide
      split
      · decide
      · decide)
    have H5 := Lib.hid (nameL_five x hne)
    clear hne
    go_wp2_with (first | (go_at_call 31; refine (name_any x _ HXL.out).mono ?_; rw [← HS.out]; rintro e w4 ⟨rfl, hb4⟩; have HB4 := Lib.hid (HB3.out.trans (hb4.mono HB3.out.size)); have HG4 := Lib.hid ((hb4.block _ (Array.getElem?_eq_some_iff.1 HG3.out).1).trans HG3.out); have HT4 := Lib.hid (HT.out.below HB4.out); clear hb4 HN3 HB3 HG3) | (go_at_call 26; refine (awake17_any _ HT4.out).mono ?_; rintro e w5 ⟨rfl, hb5⟩) | refine stop_at (some 24) rfl ?_)
    refine Stop.go (wpList_seg 1 _ _ _ (fun Q' hQ' => ?_))
    simp only [List.take_succ_cons, List.take_zero]
    go_wp2_with (go_at_call 32; rw [HS.out]; refine (kread_any (nameL x) _ HNL.out HT4.out).mono ?_; rw [HRW.out, ← HS.out]; rintro e w5 ⟨rfl, hb5⟩)
    try simp only [List.drop_succ_cons, List.drop_zero]
    refine Stop.go (wpList_alloc rfl 68 rfl zero_nm rfl ?_)
    refine wpList_store_agg rfl 68 rfl rfl rfl (store_new2 (g := w5.heap.size) rfl (nmv_cells _) (nm_size _ HYL.out) (by rw [List.size_toArray, nmCells_length, nmCells_length, HYL.out]; rfl) (nmCells_one _)) ?_
    have hb6 := hb5.trans ((Below.refl _ _).alloc hb5.size (.cells (nmCells y).toArray 68))
    have HN6 := Lib.hid (NmAt.new w5 68 HYL.out)
    have HB6 := Lib.hid (HB4.out.trans (hb6.mono HB4.out.size))
    have HG6 := Lib.hid ((hb6.block _ (Array.getElem?_eq_some_iff.1 HG4.out).1).trans HG4.out)
    have HT6 := Lib.hid (HT.out.below HB6.out)
    clear hb5 hb6 HG4 HB4 HT4
    generalize w5.alloc (.cells (nmCells y).toArray 68) = w6 at *
    generalize w5.heap.size = m6 at *
    have c0 := HN6.out.kind_
    have c34 := HN6.out.n_
    have HK6 := Lib.hid HN6.out.key_
    obtain rfl := HX.out
    clear HX
    have hy := HY.out
    simp only at hy H5
    have HYL' := HYL.out
    clear HYL HRW
    subst hy
    have HYL := Lib.hid HYL'
    clear HYL'
    simp only at c0 c34 HK6
    rcases H5.out with rfl | rfl | rfl | rfl | rfl
    · have c34' : w6.cell? ⟨m6, 34, none⟩ = some (.int .i64 0) := c34
      have HK7 := Lib.hid (show ∀ j u, (hkCells h k)[j]? = some u → w6.cell? ⟨m6, 1 + j, none⟩ = some u from HK6.out)
      clear c34 HK6 HN6 HYL HY
      go_wp2_with (refine stop_at (some 25) rfl ?_)
      refine Stop.go (wpList_seg 9 _ _ _ (fun Q' hQ' => ?_))
      simp only [List.take_succ_cons, List.take_zero]
      go_wp2_with fail
      try simp only [List.drop_succ_cons, List.drop_zero]
      refine Stop.go (wpList_load_aggG (by rfl) 24 rfl rfl keyTy.ut rfl (key_size h k HH.out) HK7.out ?_)
      refine wpList_load_aggG (by rfl) 24 rfl rfl keyTy.ut rfl (key_size h k HH.out) (row_cells HG6.out) ?_
      refine wpList_binG (by rfl) .neq 24 rfl rfl rfl (hkv_guard keyTy.gd ..) (hkv_neq keyTy HH.out HH.out) ?_
      rw [show (!(decide (h = h) && decide (k = k))) = false by simp]
      go_wp2_with (go_at_call 26; refine (awake17_any _ HT6.out).mono ?_; rintro e w7 ⟨rfl, hb7⟩)
      go_ret
      exact ⟨rfl, HB6.out.trans (hb7.mono HB6.out.size)⟩
    · have c34' : w6.cell? ⟨m6, 34, none⟩ = some (.int .i64 n) := c34
      have HK7 := Lib.hid (show ∀ j u, (hkCells z32 0)[j]? = some u → w6.cell? ⟨m6, 1 + j, none⟩ = some u from HK6.out)
      clear c34 HK6 HN6 HYL HY
      go_wp2_with (refine stop_at (some 25) rfl ?_)
      refine Stop.go (wpList_seg 19 _ _ _ (fun Q' hQ' => ?_))
      simp only [List.take_succ_cons, List.take_zero]
      go_wp2_with fail
      try simp only [List.drop_succ_cons, List.drop_zero]
      refine Stop.go (wpList_load_aggG (by rfl) 24 rfl rfl keyTy.ut rfl (key_size z32 0 rfl) HK7.out ?_)
      refine wpList_buildG (by rfl) 24 rfl (vs := #[]) (by rfl) (build_key0 _) ?_
      refine wpList_binG (by rfl) .neq 24 rfl rfl rfl (hkv_guard keyTy.gd ..) (hkv_neq keyTy rfl rfl) ?_
      rw [show (!(decide (z32 = z32) && decide ((0 : Int) = 0))) = false by simp]
      go_wp2_with (go_at_call 26; refine (awake17_any _ HT6.out).mono ?_; rintro e w7 ⟨rfl, hb7⟩)
      go_ret
      exact ⟨rfl, HB6.out.trans (hb7.mono HB6.out.size)⟩
    · have c34' : w6.cell? ⟨m6, 34, none⟩ = some (.int .i64 n) := c34
      have HK7 := Lib.hid (show ∀ j u, (hkCells z32 0)[j]? = some u → w6.cell? ⟨m6, 1 + j, none⟩ = some u from HK6.out)
      clear c34 HK6 HN6 HYL HY
      go_wp2_with (refine stop_at (some 25) rfl ?_)
      refine Stop.go (wpList_seg 19 _ _ _ (fun Q' hQ' => ?_))
      simp only [List.take_succ_cons, List.take_zero]
      go_wp2_with fail
      try simp only [List.drop_succ_cons, List.drop_zero]
      refine Stop.go (wpList_load_aggG (by rfl) 24 rfl rfl keyTy.ut rfl (key_size z32 0 rfl) HK7.out ?_)
      refine wpList_buildG (by rfl) 24 rfl (vs := #[]) (by rfl) (build_key0 _) ?_
      refine wpList_binG (by rfl) .neq 24 rfl rfl rfl (hkv_guard keyTy.gd ..) (hkv_neq keyTy rfl rfl) ?_
      rw [show (!(decide (z32 = z32) && decide ((0 : Int) = 0))) = false by simp]
      go_wp2_with (go_at_call 26; refine (awake17_any _ HT6.out).mono ?_; rintro e w7 ⟨rfl, hb7⟩)
      go_ret
      exact ⟨rfl, HB6.out.trans (hb7.mono HB6.out.size)⟩
    · have c34' : w6.cell? ⟨m6, 34, none⟩ = some (.int .i64 0) := c34
      have HK7 := Lib.hid (show ∀ j u, (hkCells z32 0)[j]? = some u → w6.cell? ⟨m6, 1 + j, none⟩ = some u from HK6.out)
      clear c34 HK6 HN6 HYL HY
      go_wp2_with (refine stop_at (some 25) rfl ?_)
      refine Stop.go (wpList_seg 19 _ _ _ (fun Q' hQ' => ?_))
      simp only [List.take_succ_cons, List.take_zero]
      go_wp2_with fail
      try simp only [List.drop_succ_cons, List.drop_zero]
      refine Stop.go (wpList_load_aggG (by rfl) 24 rfl rfl keyTy.ut rfl (key_size z32 0 rfl) HK7.out ?_)
      refine wpList_buildG (by rfl) 24 rfl (vs := #[]) (by rfl) (build_key0 _) ?_
      refine wpList_binG (by rfl) .neq 24 rfl rfl rfl (hkv_guard keyTy.gd ..) (hkv_neq keyTy rfl rfl) ?_
      rw [show (!(decide (z32 = z32) && decide ((0 : Int) = 0))) = false by simp]
      go_wp2_with (go_at_call 26; refine (awake17_any _ HT6.out).mono ?_; rintro e w7 ⟨rfl, hb7⟩)
      go_ret
      exact ⟨rfl, HB6.out.trans (hb7.mono HB6.out.size)⟩
    · have c34' : w6.cell? ⟨m6, 34, none⟩ = some (.int .i64 0) := c34
      have HK7 := Lib.hid (show ∀ j u, (hkCells z32 0)[j]? = some u → w6.cell? ⟨m6, 1 + j, none⟩ = some u from HK6.out)
      clear c34 HK6 HN6 HYL HY
      go_wp2_with (refine stop_at (some 25) rfl ?_)
      refine Stop.go (wpList_seg 19 _ _ _ (fun Q' hQ' => ?_))
      simp only [List.take_succ_cons, List.take_zero]
      go_wp2_with fail
      try simp only [List.drop_succ_cons, List.drop_zero]
      refine Stop.go (wpList_load_aggG (by rfl) 24 rfl rfl keyTy.ut rfl (key_size z32 0 rfl) HK7.out ?_)
      refine wpList_buildG (by rfl) 24 rfl (vs := #[]) (by rfl) (build_key0 _) ?_
      refine wpList_binG (by rfl) .neq 24 rfl rfl rfl (hkv_guard keyTy.gd ..) (hkv_neq keyTy rfl rfl) ?_
      rw [show (!(decide (z32 = z32) && decide ((0 : Int) = 0))) = false by simp]
      go_wp2_with (go_at_call 26; refine (awake17_any _ HT6.out).mono ?_; rintro e w7 ⟨rfl, hb7⟩)
      go_ret
      exact ⟨rfl, HB6.out.trans (hb7.mono HB6.out.size)⟩
end Go.Proofs.YtfheocdciekfoaaDoor
