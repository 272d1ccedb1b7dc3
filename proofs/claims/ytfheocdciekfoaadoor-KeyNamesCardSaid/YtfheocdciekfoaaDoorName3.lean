/- Contracts of the law's own dec, name, tail (17), every world. -/
import Derived.Test.YtfheocdciekfoaaDoorName1
namespace Go.Proofs.YtfheocdciekfoaaDoor
open Go.RowKit

def decStr : ByteArray := ⟨#[48, 49, 50, 51, 52, 53, 54, 55, 56, 57]⟩
theorem decStr_at (x : Nat) (hx : x < 10) : decStr.extract x (x + 1) = ⟨[UInt8.ofNat (48 + x)].toArray⟩ := by
  have h : ∀ j : Fin 10, (decStr.extract j.val (j.val + 1)).data = #[UInt8.ofNat (48 + j.val)] := by decide +kernel
  apply ByteArray.ext
  exact h ⟨x, hx⟩
set_option maxRecDepth 100000 in
set_option maxHeartbeats 400000 in
theorem dec_any (u : Nat) : u ≤ 1000000000 → ∀ (w : World), Calls Tryd.prog 62 #[.int .i64 u] w fun e w' => e = .returned (.string ⟨(Lib.decDigits u).toArray⟩) ∧ Below w.heap.size w w' := by
  induction u using Nat.strongRecOn with
  | _ u ih =>
    intro hu w
    have HU := Lib.hid hu
    clear hu
    by_cases h10 : u < 10
    · have HE := Lib.hid (show decStr.extract u (u + 1) = ⟨(Lib.decDigits u).toArray⟩ by rw [decStr_at u h10, Lib.decDigits_one h10])
      go_enter Tryd.func62, Tryd.ntmps62
      go_wp2
      go_ret
      exact ⟨rt1 (vstr HE.out), Below.refl _ _⟩
    · have IH := Lib.hid (ih (u / 10) (by omega) (by have := HU.out; omega))
      clear ih
      have HE := Lib.hid (show decStr.extract (u % 10) (u % 10 + 1) = ⟨[UInt8.ofNat (48 + u % 10)].toArray⟩ from decStr_at _ (by omega))
      have HL := Lib.hid (show Lib.decDigits u = Lib.decDigits (u / 10) ++ [UInt8.ofNat (48 + u % 10)] by rw [Lib.decDigits, dif_neg h10])
      go_enter Tryd.func62, Tryd.ntmps62
      go_wp2_with fail
      refine Text.wp_grow [2] [] [] (by kernel_rfl) (by kernel_rfl) ?_
      refine Text.wpS_seg 2 _ _ _ _ (by decide) (fun Q' hQ' => ?_)
      simp only [List.take_succ_cons, List.take_zero]
      go_wp2_with fail
      simp only [List.drop_succ_cons, List.drop_zero]
      refine Text.wpS_one (fun Q' hQ' => ?_)
      go_wp2_with fail
      rw [show wrap64 ((u : Int) / 10) = ((u / 10 : Nat) : Int) by have := HU.out; unfold wrap64; omega]
      refine (IH.out _).mono ?_
      rintro e w2 ⟨rfl, hb2⟩
      have HB2 := Lib.hid hb2
      clear hb2
      obtain ⟨S, hS⟩ : ∃ S : ByteArray, S = ⟨(Lib.decDigits (u / 10)).toArray⟩ := ⟨_, rfl⟩
      have hz1 : S.size ≤ 10 := by
        rw [hS]
        show (Lib.decDigits (u / 10)).toArray.size ≤ 10
        rw [List.size_toArray, Lib.decDigits_length]
        exact nDigits_le10 _ (by have := HU.out; omega)
      rw [← hS]
      have HS := Lib.hid hS
      clear hS
      obtain ⟨T, hT⟩ : ∃ T : ByteArray, T = decStr.extract (u % 10) (u % 10 + 1) := ⟨_, rfl⟩
      have hz2 : T.size = 1 := by rw [hT, HE.out]; rfl
      have HTT := Lib.hid hT
      go_wp2_with fail
      refine ⟨HB2.out, ?_⟩
      refine Text.wpS_seg 9 _ _ _ _ (by decide) (fun Q' hQ' => ?_)
      simp only [List.take_succ_cons, List.take_zero]
      go_wp2_with fail
      refine ⟨by rfl, trivial, ?_⟩
      go_wp2
      go_ret
      refine ⟨rt1 (vstr ?_), below_drew HB2.out⟩
      show S ++ decStr.extract (u % 10) (u % 10 + 1) = _
      rw [HE.out, HS.out, HL.out]
      apply ByteArray.ext
      simp
theorem tail_any (l : List UInt8) (w : World) (hl : l.length ≤ 1099511627776) :
    Calls Tryd.prog 33 #[.string ⟨l.toArray⟩] w fun e w' => e = .returned (.string ⟨(l.drop 2).toArray⟩) ∧ w' = w := by
  obtain ⟨s, hs⟩ : ∃ s : ByteArray, s = ⟨l.toArray⟩ := ⟨_, rfl⟩
  have hsz : s.size = l.length := by rw [hs]; rfl
  rw [← hs]
  have HS := Lib.hid hs
  clear hs
  by_cases h2 : l.length < 2
  · go_enter Tryd.func33, Tryd.ntmps33
    go_wp2
    go_ret
    refine ⟨rt1 (vstr ?_), rfl⟩
    rw [List.drop_eq_nil_of_le (by omega)]
  · go_enter Tryd.func33, Tryd.ntmps33
    go_wp2
    go_ret
    refine ⟨rt1 (vstr ?_), rfl⟩
    rw [HS.out]
    apply ByteArray.ext
    simp [List.extract_eq_take_drop]
    exact List.take_of_length_le (by simp)
theorem emptyNot (x : NmD) (h : kOk x.k = true) : keyText x.h x.k ≠ [] := fun e => by rw [(keyText_ne x.h x.k).1 e] at h; cases h
set_option maxRecDepth 100000 in
set_option maxHeartbeats 1000000 in
theorem name_any (x : NmD) (w : World) (hh : x.h.length = 32) :
    Calls Tryd.prog 31 #[nmv x] w fun e w' => e = .returned (.string ⟨(nameL x).toArray⟩) ∧ Below w.heap.size w w' := by
  have hb := Lib.hid ((Below.refl _ _).alloc (Nat.le_refl _) (.cells (nmCells x).toArray 68) : Below w.heap.size w (w.alloc (.cells (nmCells x).toArray 68)))
  have hn := NmAt.new w 68 hh
  have c0 := hn.kind_
  have c34 := hn.n_
  have HN := Lib.hid hn
  have HH := Lib.hid hh
  clear hn hh
  by_cases h1 : x.kind = 1
  · have HL := Lib.hid (nameL_key x h1)
    rw [h1] at c0
    obtain ⟨S, hS⟩ : ∃ S : ByteArray, S = ⟨(keyText x.h x.k).toArray⟩ := ⟨_, rfl⟩
    have hz : S.size = (keyText x.h x.k).length := by rw [hS]; rfl
    have HS := Lib.hid hS
    clear hS
    go_enter Tryd.func31, Tryd.ntmps31
    go_wp2_with (refine stop_at (some 1) rfl ?_)
    refine Stop.go (wpList_box rfl _ rfl rfl (nmv_cells x) ?_)
    go_wp2_with (refine stop_at (some 3) rfl ?_)
    refine Stop.go (wpList_seg 5 _ _ _ (fun Q' hQ' => ?_))
    simp only [List.take_succ_cons, List.take_zero]
    go_wp2_with fail
    simp only [List.drop_succ_cons, List.drop_zero]
    refine Stop.go (wpList_load_aggG (by rfl) 24 rfl rfl keyTy.ut rfl (key_size _ _ HH.out) HN.out.key_ ?_)
    cases hk : kOk x.k
    · have hz0 : S.toList.isEmpty = true := by rw [HS.out, (keyText_ne x.h x.k).2 hk]; simp
      rcases Decidable.em (0 ≤ x.n) with h0 | h0
      all_goals
        rcases Bool.eq_false_or_eq_true (decide (x.n ≤ 1000000000)) with hd | hd
        all_goals
          go_wp2_with (go_at_call 34; refine (refText_any x.h x.k _ HH.out).mono ?_; rintro e w2 ⟨rfl, hb2⟩; rw [← HS.out]; have d0 := (hb2.cell (p := ⟨w.heap.size, 0, none⟩) HN.out.lt).trans c0; have d34 := (hb2.cell (p := ⟨w.heap.size, 34, none⟩) HN.out.lt).trans c34)
          go_ret
          refine ⟨rt1 (vstr ?_), hb.out.trans (hb2.mono (Nat.le_of_lt HN.out.lt))⟩
          rw [HL.out, hk]
          rfl
    · have hz0 : S.toList.isEmpty = false := by rw [HS.out]; have := keyText_ne x.h x.k; rw [hk] at this; simpa using this
      have hz1 : S.size = 66 := by rw [hz, keyText_len _ _ HH.out hk]
      clear hz
      go_wp2_with (first | (go_at_call 34; refine (refText_any x.h x.k _ HH.out).mono ?_; rintro e w2 ⟨rfl, hb2⟩; rw [← HS.out]) | refine stop_at (some 12) rfl ?_)
      have HB2 := Lib.hid hb2
      have HN2 := Lib.hid (HN.out.later hb2)
      clear hb2
      refine Stop.go (wpList_seg 1 _ _ _ (fun Q' hQ' => ?_))
      simp only [List.take_succ_cons, List.take_zero]
      go_wp2_with fail
      simp only [List.drop_succ_cons, List.drop_zero]
      refine Stop.go (wpList_load_agg rfl 24 rfl rfl keyTy.ut rfl (key_size _ _ HH.out) HN2.out.key_ ?_)
      go_wp2_with (go_at_call 34; refine (refText_any x.h x.k _ HH.out).mono ?_; rintro e w3 ⟨rfl, hb3⟩; rw [← HS.out])
      go_ret
      refine ⟨rt1 (vstr ?_), hb.out.trans ((HB2.out.mono (Nat.le_of_lt HN.out.lt)).trans (hb3.mono (Nat.le_of_lt HN2.out.lt)))⟩
      rw [HL.out, hk, HS.out]
      apply ByteArray.ext
      simp
  · by_cases h23 : x.kind = 2 ∨ x.kind = 3
    · by_cases hr : 0 ≤ x.n ∧ x.n ≤ 1000000000
      · have HL := Lib.hid (show nameL x = frontL x.kind ++ Lib.itoa x.n by unfold nameL; rw [if_neg h1, if_pos h23, if_pos hr])
        obtain ⟨h0, hm⟩ := hr
        have HM := Lib.hid hm
        have hd1 : decide (x.n ≤ 1000000000) = true := decide_eq_true hm
        clear hm
        obtain ⟨u, hu⟩ : ∃ u : Nat, x.n = u := ⟨x.n.toNat, by omega⟩
        have HU := Lib.hid (show u ≤ 1000000000 by have := HM.out; omega)
        obtain ⟨S, hS⟩ : ∃ S : ByteArray, S = ⟨(Lib.decDigits u).toArray⟩ := ⟨_, rfl⟩
        have hz1 : S.size ≤ 10 := by
          rw [hS]
          show (Lib.decDigits u).toArray.size ≤ 10
          rw [List.size_toArray, Lib.decDigits_length]
          exact nDigits_le10 _ HU.out
        have HS := Lib.hid hS
        have HNU := Lib.hid hu
        clear hS
        rw [hu] at c34 hd1
        clear hu h0
        rcases h23 with h2 | h2
        all_goals
          rw [h2] at c0 HL
          clear h1
          go_enter Tryd.func31, Tryd.ntmps31
          go_wp2_with (refine stop_at (some 1) rfl ?_)
          refine Stop.go (wpList_box rfl _ rfl rfl (nmv_cells x) ?_)
          go_wp2_with (go_at_call 62; refine (dec_any u HU.out _).mono ?_; rintro e w2 ⟨rfl, hb2⟩; rw [← HS.out])
          go_ret
          refine ⟨rt1 (vstr ?_), hb.out.trans (hb2.mono (Nat.le_of_lt HN.out.lt))⟩
          rw [HL.out, HNU.out, Lib.itoa_nonneg, HS.out]
          apply ByteArray.ext
          simp [frontL]
      · have HL := Lib.hid (show nameL x = [] by unfold nameL; rw [if_neg h1, if_pos h23, if_neg hr])
        by_cases h0 : 0 ≤ x.n
        · have hd1 : decide (x.n ≤ 1000000000) = false := decide_eq_false (fun h => hr ⟨h0, h⟩)
          clear hr
          rcases h23 with h2 | h2
          all_goals
            rw [h2] at c0
            clear h1
            go_enter Tryd.func31, Tryd.ntmps31
            go_wp2_with (refine stop_at (some 1) rfl ?_)
            refine Stop.go (wpList_box rfl _ rfl rfl (nmv_cells x) ?_)
            go_wp2_with fail
            go_ret
            exact ⟨rt1 (vstr (by rw [HL.out])), hb.out⟩
        · clear hr
          rcases h23 with h2 | h2
          all_goals
            rw [h2] at c0
            clear h1
            go_enter Tryd.func31, Tryd.ntmps31
            go_wp2_with (refine stop_at (some 1) rfl ?_)
            refine Stop.go (wpList_box rfl _ rfl rfl (nmv_cells x) ?_)
            go_wp2_with fail
            go_ret
            exact ⟨rt1 (vstr (by rw [HL.out])), hb.out⟩
    · have h2 : ¬ x.kind = 2 := fun h => h23 (.inl h)
      have h3 : ¬ x.kind = 3 := fun h => h23 (.inr h)
      have HL := Lib.hid (show nameL x = if x.kind = 4 then jour else if x.kind = 5 then jnew else [] by unfold nameL; rw [if_neg h1, if_neg h23])
      clear h23
      rcases Decidable.em (0 ≤ x.n) with h0 | h0
      all_goals
        rcases Bool.eq_false_or_eq_true (decide (x.n ≤ 1000000000)) with hd | hd
        all_goals
          by_cases h4 : x.kind = 4
          · rw [h4] at c0 HL
            clear h1 h2 h3
            go_enter Tryd.func31, Tryd.ntmps31
            go_wp2_with (refine stop_at (some 1) rfl ?_)
            refine Stop.go (wpList_box rfl _ rfl rfl (nmv_cells x) ?_)
            go_wp2_with fail
            go_ret
            exact ⟨rt1 (vstr (by rw [HL.out]; rfl)), hb.out⟩
          · by_cases h5 : x.kind = 5
            · rw [h5] at c0 HL
              clear h1 h2 h3 h4
              go_enter Tryd.func31, Tryd.ntmps31
              go_wp2_with (refine stop_at (some 1) rfl ?_)
              refine Stop.go (wpList_box rfl _ rfl rfl (nmv_cells x) ?_)
              go_wp2_with fail
              go_ret
              exact ⟨rt1 (vstr (by rw [HL.out]; rfl)), hb.out⟩
            · have HL2 := Lib.hid (show nameL x = [] by rw [HL.out, if_neg h4, if_neg h5])
              go_enter Tryd.func31, Tryd.ntmps31
              go_wp2_with (refine stop_at (some 1) rfl ?_)
              refine Stop.go (wpList_box rfl _ rfl rfl (nmv_cells x) ?_)
              go_wp2_with fail
              go_ret
              exact ⟨rt1 (vstr (by rw [HL2.out])), hb.out⟩
end Go.Proofs.YtfheocdciekfoaaDoor
