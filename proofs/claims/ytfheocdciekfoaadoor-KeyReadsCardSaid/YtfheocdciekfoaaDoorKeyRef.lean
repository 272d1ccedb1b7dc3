/- Contracts of the reference's value and Parse (17), every world. -/
import Derived.Test.YtfheocdciekfoaaDoorKeyParse
import Derived.Test.YtfheocdciekfoaaDoorKeyLaw
namespace Go.Proofs.YtfheocdciekfoaaDoor
open Go.RowKit

/-- a digit's number, or -1 -/
def dig17 (n : Nat) : Int := if 48 ≤ n ∧ n ≤ 57 then (n : Int) - 48 else if 97 ≤ n ∧ n ≤ 102 then (n : Int) - 87 else -1
theorem value17_any (n : Nat) (w : World) (hn : n < 256) :
    Calls Tryd.prog 58 #[.int .u8 n] w fun e w' => e = .returned (.int .i64 (dig17 n)) ∧ w = w' := by
  by_cases h1 : 48 ≤ n ∧ n ≤ 57
  · have HD := Lib.hid (show dig17 n = (n : Int) - 48 by unfold dig17; rw [if_pos h1])
    obtain ⟨h1, h2⟩ := h1
    go_enter Tryd.func58, Tryd.ntmps58
    go_wp2
    go_ret
    exact ⟨rt1 (vint HD.out.symm), rfl⟩
  · by_cases h2 : 97 ≤ n ∧ n ≤ 102
    · have HD := Lib.hid (show dig17 n = (n : Int) - 87 by unfold dig17; rw [if_neg h1, if_pos h2])
      obtain ⟨h2, h3⟩ := h2
      have h4 : ¬ n ≤ 57 := by omega
      have h5 : 48 ≤ n := by omega
      clear h1
      go_enter Tryd.func58, Tryd.ntmps58
      go_wp2
      go_ret
      exact ⟨rt1 (vint HD.out.symm), rfl⟩
    · have HD := Lib.hid (show dig17 n = -1 by unfold dig17; rw [if_neg h1, if_neg h2])
      by_cases h3 : 48 ≤ n
      · have h4 : ¬ n ≤ 57 := by omega
        by_cases h5 : 97 ≤ n
        · have h6 : ¬ n ≤ 102 := by omega
          clear h1 h2
          go_enter Tryd.func58, Tryd.ntmps58
          go_wp2
          go_ret
          exact ⟨rt1 (vint HD.out.symm), rfl⟩
        · clear h1 h2
          go_enter Tryd.func58, Tryd.ntmps58
          go_wp2
          go_ret
          exact ⟨rt1 (vint HD.out.symm), rfl⟩
      · have h5 : ¬ 97 ≤ n := by omega
        clear h1 h2
        go_enter Tryd.func58, Tryd.ntmps58
        go_wp2
        go_ret
        exact ⟨rt1 (vint HD.out.symm), rfl⟩
theorem dig17_ok (b : UInt8) (h : dB b = true) : dig17 b.toNat = (dN b : Nat) ∧ dN b < 16 := by
  unfold dB digValB at h
  unfold dig17 dN digValN
  simp at h
  by_cases h1 : 48 ≤ b.toNat ∧ b.toNat ≤ 57
  · rw [if_pos h1, if_pos (by omega)]; omega
  · rw [if_neg h1, if_pos (by omega), if_neg (by omega), if_pos (by omega)]; omega
theorem dig17_no (b : UInt8) (h : dB b = false) : dig17 b.toNat = -1 := by
  unfold dB digValB at h
  unfold dig17
  simp at h
  rw [if_neg (by omega), if_neg (by omega)]
def RefRel (l : List UInt8) (g2 g4 N : Nat) (w0 : World) (i : Nat) (wr : World) : Prop :=
  ∃ t : List UInt8, t.length = i ∧ i ≤ 32 ∧ unhex (l.take 64) = (unhex ((l.take 64).drop (2 * i))).map (t ++ ·) ∧
    wr.heap[g4]? = some (.cells (hkCells (t ++ List.replicate (32 - i) 0) 0).toArray 24 (0, 0)) ∧ wr.heap[g2]? = some (.cells (hkCells z32 0).toArray 24 (0, 0)) ∧ Below N w0 wr
theorem key_row (t : List UInt8) (i da db : Nat) (ht : t.length = i) (hi : i < 32) (hb : 16 * da + db < 256) :
    ((hkCells (t ++ List.replicate (32 - i) 0) 0).toArray.toList.take i ++ [Value.int .u8 (16 * (da : Int) + (db : Int))] ++ (hkCells (t ++ List.replicate (32 - i) 0) 0).toArray.toList.drop (i + 1)).toArray =
      (hkCells ((t ++ [UInt8.ofNat (16 * da + db)]) ++ List.replicate (32 - (i + 1)) 0) 0).toArray := by
  have e0 : List.replicate (32 - i) (0 : UInt8) = 0 :: List.replicate (32 - (i + 1)) 0 := by
    rw [show 32 - i = (32 - (i + 1)) + 1 by omega, List.replicate_succ]
  have e1 : hkCells (t ++ List.replicate (32 - i) 0) 0 = bcells t ++ (bcell 0 :: (bcells (List.replicate (32 - (i + 1)) 0) ++ [.int .i64 0])) := by
    rw [e0]
    simp [hkCells, bcells]
  have hl : (bcells t).length = i := by rw [bcells_length, ht]
  simp only [e1]
  rw [List.take_append_of_le_length (by omega), List.take_of_length_le (by omega), List.drop_append, List.drop_eq_nil_of_le (by omega), hl, show i + 1 - i = 1 by omega]
  have e2 : Value.int .u8 (16 * (da : Int) + (db : Int)) = bcell (UInt8.ofNat (16 * da + db)) := by
    unfold bcell
    rw [UInt8.toNat_ofNat', Nat.mod_eq_of_lt (by omega)]
    push_cast
    rfl
  rw [e2]
  simp [hkCells, bcells]
set_option maxRecDepth 100000 in
set_option maxHeartbeats 1000000 in
theorem parse17_any (l : List UInt8) (w : World) (hl : l.length ≤ 1099511627776) :
    Calls Tryd.prog 28 #[.string ⟨l.toArray⟩] w (KeyTo w (parse17 l)) := by
  obtain ⟨s, hs⟩ : ∃ s : ByteArray, s = ⟨l.toArray⟩ := ⟨_, rfl⟩
  have hsz : s.size = l.length := by rw [hs]; rfl
  rw [← hs]
  have HS := Lib.hid hs
  clear hs
  have HG2 := Lib.hid (Go.heap_alloc2_old w (.cells (hkCells z32 0).toArray 24) (.cells (hkCells z32 0).toArray 24))
  have HG4 := Lib.hid (Go.heap_alloc2_new w (.cells (hkCells z32 0).toArray 24) (.cells (hkCells z32 0).toArray 24))
  have HB := Lib.hid (((Below.refl _ _).alloc (Nat.le_refl _) _).alloc (Nat.le_of_lt (by show _ < (Array.push _ _).size; rw [Array.size_push]; exact Nat.lt_succ_self _)) _ : Below w.heap.size w ((w.alloc (.cells (hkCells z32 0).toArray 24)).alloc (.cells (hkCells z32 0).toArray 24)))
  go_enter Tryd.func28, Tryd.ntmps28
  go_wp2_with (refine stop_at (some 2) rfl ?_)
  refine Stop.go (wpList_alloc rfl _ rfl zero_key rfl ?_)
  go_wp2_with (refine stop_at (some 4) rfl ?_)
  refine Stop.go (wpList_alloc rfl _ rfl zero_key rfl ?_)
  by_cases h66 : l.length = 66
  · have hp4 : 64 < s.size := by omega
    have hp5 : 65 < s.size := by omega
    have H64 := Lib.hid (show s[64] = l.getD 64 0 by
      rw [List.getD_eq_getElem?_getD, List.getElem?_eq_getElem (by omega)]
      have := HS.out
      subst this
      rfl)
    have H65 := Lib.hid (show s[65] = l.getD 65 0 by
      rw [List.getD_eq_getElem?_getD, List.getElem?_eq_getElem (by omega)]
      have := HS.out
      subst this
      rfl)
    have HSI := Lib.hid (show ∀ (i : Nat) (h : i < s.size) (h2 : i < l.length), s[i] = l[i] from fun i h h2 => by
      have := HS.out
      subst this
      rfl)
    have H66 := Lib.hid h66
    have hs66 : s.size = 66 := by omega
    clear hsz h66
    have h256 : s[65].toNat < 256 := UInt8.toNat_lt _
    by_cases h45 : s[64].toNat = 45
    · by_cases h49 : s[65].toNat < 49
      · have HN := Lib.hid (show parse17 l = none by unfold parse17; rw [if_neg]; rintro ⟨_, _, h, _⟩; rw [← H65.out] at h; omega)
        go_wp2_with (refine stop_at (some 26) rfl ?_)
        refine Stop.go (wpList_build rfl 24 rfl (vs := #[]) (by rfl) (build_key0 _) ?_)
        refine wpList_store_agg rfl 24 rfl rfl rfl (store_row (hkv_cells _ _) (key_size _ _ z32_len) HG2.out (by simp [hkCells_length]) (hkCells_one _ _)) ?_
        go_wp2_with fail
        refine ret_key rfl z32_len rfl rfl rfl (setRow_heap _ _ _ _ _ _ HG2.out) ?_
        exact KeyTo.no HN.out (below_setRow HB.out (Nat.le_refl _) _)
      · by_cases h52 : s[65].toNat ≤ 52
        · have HN := Lib.hid (show parse17 l = (unhex (l.take 64)).map fun b => (b, (s[65].toNat : Int) - 48) by
            unfold parse17
            rw [if_pos ⟨H66.out, by rw [← H64.out]; exact UInt8.toNat_inj.1 h45, by rw [← H65.out]; omega, by rw [← H65.out]; omega⟩, H65.out])
          have hd1 : decide ((s[65].toNat : Int) < 49) = false := by simp; omega
          have hd2 : decide (52 < (s[65].toNat : Int)) = false := by simp; omega
          go_wp2_with fail
          go_loopw [5, 6, 7] (fun v5 v6 v7 wr => ∃ i : Nat, i ≤ 32 ∧ v5 = .int .i64 i ∧ Hid (RefRel l w.heap.size (w.heap.size + 1) w.heap.size w i wr)) (fun v5 _ _ _ => 32 - (intOf v5).toNat)
          case atStart => exact ⟨0, by omega, rfl, ⟨[], rfl, by omega, by simp, HG4.out, HG2.out, HB.out⟩⟩
          case round =>
            obtain ⟨i, hi, rfl, HR⟩ := hrel
            by_cases hlt : i < 32
            · have q1 : 2 * i < s.size := by omega
              have q2 : 2 * i + 1 < s.size := by omega
              have HST := Lib.hid (show unhex ((l.take 64).drop (2 * i)) = if dB s[2 * i] && dB s[2 * i + 1] then (unhex ((l.take 64).drop (2 * (i + 1)))).map (fun t => UInt8.ofNat (16 * dN s[2 * i] + dN s[2 * i + 1]) :: t) else none by
                have h6 := H66.out
                rw [unhex_step (l.take 64) i (by rw [List.length_take]; omega), List.getElem_take, List.getElem_take, HSI.out _ q1 (by omega), HSI.out _ q2 (by omega)])
              obtain ⟨t, ht, _, hun, hw4, hw2, hwb⟩ := HR.out
              have HUN := Lib.hid hun
              have HW4 := Lib.hid hw4
              have HW2 := Lib.hid hw2
              have HWB := Lib.hid hwb
              have HT := Lib.hid ht
              clear hun hw4 hw2 hwb ht HR
              cases hA : dB s[2 * i]
              · have hdA : dig17 s[2 * i].toNat = -1 := dig17_no _ hA
                have HNN := Lib.hid (show parse17 l = none by rw [HN.out, HUN.out, HST.out, hA]; rfl)
                clear hA
                go_wp2_with (first | (go_at_call 58; refine (value17_any _ _ (UInt8.toNat_lt _)).mono ?_; rintro e w3 ⟨rfl, rfl⟩) | refine stop_at (some 48) rfl ?_)
                refine Stop.go (wpList_build rfl 24 rfl (vs := #[]) (by rfl) (build_key0 _) ?_)
                refine wpList_store_agg rfl 24 rfl rfl rfl (store_row (hkv_cells _ _) (key_size _ _ z32_len) HW2.out (by simp [hkCells_length]) (hkCells_one _ _)) ?_
                go_wp2_with fail
                refine ret_key rfl z32_len rfl rfl rfl (setRow_heap _ _ _ _ _ _ HW2.out) ?_
                exact KeyTo.no HNN.out (below_setRow HWB.out (Nat.le_refl _) _)
              · cases hB : dB s[2 * i + 1]
                · have hdB : dig17 s[2 * i + 1].toNat = -1 := dig17_no _ hB
                  have HNN := Lib.hid (show parse17 l = none by rw [HN.out, HUN.out, HST.out, hA, hB]; rfl)
                  obtain ⟨hdA, hdA2⟩ := dig17_ok _ hA
                  clear hA hB
                  go_wp2_with (first | (go_at_call 58; refine (value17_any _ _ (UInt8.toNat_lt _)).mono ?_; rintro e w3 ⟨rfl, rfl⟩) | refine stop_at (some 48) rfl ?_)
                  refine Stop.go (wpList_build rfl 24 rfl (vs := #[]) (by rfl) (build_key0 _) ?_)
                  refine wpList_store_agg rfl 24 rfl rfl rfl (store_row (hkv_cells _ _) (key_size _ _ z32_len) HW2.out (by simp [hkCells_length]) (hkCells_one _ _)) ?_
                  go_wp2_with fail
                  refine ret_key rfl z32_len rfl rfl rfl (setRow_heap _ _ _ _ _ _ HW2.out) ?_
                  exact KeyTo.no HNN.out (below_setRow HWB.out (Nat.le_refl _) _)
                · obtain ⟨hdA, hdA2⟩ := dig17_ok _ hA
                  obtain ⟨hdB, hdB2⟩ := dig17_ok _ hB
                  have HAB := Lib.hid (And.intro hA hB)
                  clear hA hB
                  obtain ⟨da, hda⟩ : ∃ da : Nat, da = dN s[2 * i] := ⟨_, rfl⟩
                  obtain ⟨db, hdb⟩ : ∃ db : Nat, db = dN s[2 * i + 1] := ⟨_, rfl⟩
                  rw [← hda] at hdA hdA2
                  rw [← hdb] at hdB hdB2
                  have HDA := Lib.hid hda
                  have HDB := Lib.hid hdb
                  clear hda hdb
                  go_wp2_with (first | (go_at_call 58; refine (value17_any _ _ (UInt8.toNat_lt _)).mono ?_; rintro e w3 ⟨rfl, rfl⟩) | refine stop_at (some 51) rfl ?_)
                  refine Stop.go (wpList_seg 6 _ _ _ (fun Q' hQ' => ?_))
                  simp only [List.take_succ_cons, List.take_zero]
                  go_wp2_with fail
                  simp only [List.drop_succ_cons, List.drop_zero]
                  have hst : (Instr.storeAt 5 (.pointer (some ⟨w.heap.size + 1, i, none⟩)) (.int .u8 (16 * (da : Int) + (db : Int)))).run Tryd.prog wr = .ok () (wr.setRow (w.heap.size + 1) (hkCells ((t ++ [UInt8.ofNat (16 * da + db)]) ++ List.replicate (32 - (i + 1)) 0) 0).toArray) := by
                    rw [store_agg (vs := [.int .u8 (16 * (da : Int) + (db : Int))]) rfl (by kernel_rfl) HW4.out (by rw [List.size_toArray, hkCells_length, List.length_append, HT.out, List.length_replicate]; simp) (fun u hu => by rw [List.mem_singleton.1 hu]; rfl)]
                    exact congrArg (fun r => Result.ok () (wr.setRow (w.heap.size + 1) r)) (key_row t i da db HT.out hlt (by omega))
                  refine Stop.go (wpList_store_agg rfl 5 rfl rfl rfl hst ?_)
                  have HUN2 := Lib.hid (show unhex (l.take 64) = (unhex ((l.take 64).drop (2 * (i + 1)))).map ((t ++ [UInt8.ofNat (16 * da + db)]) ++ ·) by
                    rw [HUN.out, HST.out, HAB.out.1, HAB.out.2, ← HDA.out, ← HDB.out, Bool.and_self, if_pos rfl, Option.map_map]
                    congr 1
                    funext r
                    simp)
                  have HR2 := Lib.hid (show RefRel l w.heap.size (w.heap.size + 1) w.heap.size w (i + 1) (wr.setRow (w.heap.size + 1) (hkCells ((t ++ [UInt8.ofNat (16 * da + db)]) ++ List.replicate (32 - (i + 1)) 0) 0).toArray) from
                    ⟨t ++ [UInt8.ofNat (16 * da + db)], by simp [HT.out], by omega, HUN2.out, setRow_heap wr (w.heap.size + 1) _ _ _ _ HW4.out, (setRow_other wr (w.heap.size + 1) w.heap.size _ (by omega)).trans HW2.out, below_setRow HWB.out (Nat.le_succ _) _⟩)
                  clear hst
                  generalize wr.setRow (w.heap.size + 1) _ = w9 at HR2 ⊢
                  go_wp2_with fail
                  refine ⟨⟨i + 1, by omega, by simp, HR2⟩, ?_⟩
                  simp [intOf]; omega
            · obtain rfl : i = 32 := by omega
              obtain ⟨t, ht, _, hun, hw4, hw2, hwb⟩ := HR.out
              have hd : (l.take 64).drop (2 * 32) = [] := List.drop_eq_nil_of_le (by rw [List.length_take]; omega)
              rw [hd] at hun
              have HNN := Lib.hid (show parse17 l = some (t, (s[65].toNat : Int) - 48) by rw [HN.out, hun]; simp [unhex])
              rw [show t ++ List.replicate (32 - 32) 0 = t by simp] at hw4
              have HT := Lib.hid ht
              have HW4 := Lib.hid hw4
              have HW2 := Lib.hid hw2
              have HWB := Lib.hid hwb
              clear hun hw4 hw2 hwb ht HR hd
              go_wp2_with (refine stop_at (some 58) rfl ?_)
              refine Stop.go (wpList_seg 4 _ _ _ (fun Q' hQ' => ?_))
              simp only [List.take_succ_cons, List.take_zero]
              go_wp2_with fail
              simp only [List.drop_succ_cons, List.drop_zero]
              have hrow : ((hkCells t 0).toArray.toList.take 32 ++ [Value.int .i64 ((s[65].toNat : Int) - 48)] ++ (hkCells t 0).toArray.toList.drop (32 + 1)).toArray = (hkCells t ((s[65].toNat : Int) - 48)).toArray := by
                have hlt : (bcells t).length = 32 := by rw [bcells_length, HT.out]
                have e1 : (hkCells t 0).take 32 = bcells t := by unfold hkCells; rw [List.take_append_of_le_length (by omega), List.take_of_length_le (by omega)]
                have e2 : (hkCells t 0).drop 33 = [] := List.drop_eq_nil_of_le (by rw [hkCells_length, HT.out]; exact Nat.le_refl _)
                rw [e1, e2, List.append_nil]
                rfl
              have hst : (Instr.storeAt 3 (.pointer (some ⟨w.heap.size + 1, 32, none⟩)) (.int .i64 ((s[65].toNat : Int) - 48))).run Tryd.prog wr = .ok () (wr.setRow (w.heap.size + 1) (hkCells t ((s[65].toNat : Int) - 48)).toArray) := by
                rw [store_agg (vs := [.int .i64 ((s[65].toNat : Int) - 48)]) rfl (by kernel_rfl) HW4.out (by simp [hkCells_length, HT.out]) (fun u hu => by rw [List.mem_singleton.1 hu]; rfl)]
                exact congrArg (fun r => Result.ok () (wr.setRow (w.heap.size + 1) r)) hrow
              refine Stop.go (wpList_store_agg rfl 3 rfl rfl rfl hst ?_)
              have HW5 := Lib.hid (setRow_heap wr (w.heap.size + 1) _ (hkCells t ((s[65].toNat : Int) - 48)).toArray _ _ HW4.out)
              have hne : w.heap.size ≠ w.heap.size + 1 := by omega
              have HW6 := Lib.hid ((setRow_other wr (w.heap.size + 1) w.heap.size (hkCells t ((s[65].toNat : Int) - 48)).toArray hne).trans HW2.out)
              have HW7 := Lib.hid (below_setRow HWB.out (Nat.le_succ _) (hkCells t ((s[65].toNat : Int) - 48)).toArray : Below w.heap.size w (wr.setRow (w.heap.size + 1) _))
              clear hne hrow hst
              go_wp2_with (refine stop_at (some 62) rfl ?_)
              refine Stop.go (wpList_load_agg rfl 24 rfl rfl keyTy.ut rfl (key_size t _ HT.out) (row_cells HW5.out) ?_)
              refine wpList_store_agg rfl 24 rfl rfl rfl (store_row (hkv_cells _ _) (key_size _ _ HT.out) HW6.out (by simp [hkCells_length, HT.out, z32_len]) (hkCells_one _ _)) ?_
              go_wp2_with fail
              refine ret_key rfl HT.out rfl rfl rfl (setRow_heap _ _ _ _ _ _ HW6.out) ?_
              exact KeyTo.yes HNN.out HT.out (below_setRow HW7.out (Nat.le_refl _) _)
        · have HN := Lib.hid (show parse17 l = none by unfold parse17; rw [if_neg]; rintro ⟨_, _, _, h⟩; rw [← H65.out] at h; omega)
          go_wp2_with (refine stop_at (some 26) rfl ?_)
          refine Stop.go (wpList_build rfl 24 rfl (vs := #[]) (by rfl) (build_key0 _) ?_)
          refine wpList_store_agg rfl 24 rfl rfl rfl (store_row (hkv_cells _ _) (key_size _ _ z32_len) HG2.out (by simp [hkCells_length]) (hkCells_one _ _)) ?_
          go_wp2_with fail
          refine ret_key rfl z32_len rfl rfl rfl (setRow_heap _ _ _ _ _ _ HG2.out) ?_
          exact KeyTo.no HN.out (below_setRow HB.out (Nat.le_refl _) _)
    · have HN := Lib.hid (show parse17 l = none by unfold parse17; rw [if_neg]; rintro ⟨_, h, _⟩; rw [← H64.out] at h; rw [h] at h45; exact h45 rfl)
      have h46 : ((s[64].toNat : Int) != 45) = true := by simp; omega
      go_wp2_with (refine stop_at (some 26) rfl ?_)
      refine Stop.go (wpList_build rfl 24 rfl (vs := #[]) (by rfl) (build_key0 _) ?_)
      refine wpList_store_agg rfl 24 rfl rfl rfl (store_row (hkv_cells _ _) (key_size _ _ z32_len) HG2.out (by simp [hkCells_length]) (hkCells_one _ _)) ?_
      go_wp2_with fail
      refine ret_key rfl z32_len rfl rfl rfl (setRow_heap _ _ _ _ _ _ HG2.out) ?_
      exact KeyTo.no HN.out (below_setRow HB.out (Nat.le_refl _) _)
  · have HN := Lib.hid (show parse17 l = none by unfold parse17; rw [if_neg (fun h => h66 h.1)])
    have h67 : ((l.length : Int) != 66) = true := by simp; omega
    clear h66
    go_wp2_with (refine stop_at (some 26) rfl ?_)
    refine Stop.go (wpList_build rfl 24 rfl (vs := #[]) (by rfl) (build_key0 _) ?_)
    refine wpList_store_agg rfl 24 rfl rfl rfl (store_row (hkv_cells _ _) (key_size _ _ z32_len) HG2.out (by simp [hkCells_length]) (hkCells_one _ _)) ?_
    go_wp2_with fail
    refine ret_key rfl z32_len rfl rfl rfl (setRow_heap _ _ _ _ _ _ HG2.out) ?_
    exact KeyTo.no HN.out (below_setRow HB.out (Nat.le_refl _) _)
end Go.Proofs.YtfheocdciekfoaaDoor
