/- Texts of this proof joined: LadfaOfLaw, TabOpen, Laid26. -/
import Derived.Test.YtfpihflepeiagaaGreatDoorLO30
import Derived.Test.YtfpihflepeiagaaGreatDoorLO32
import Derived.Test.YtfpihflepeiagaaGreatDoorRows
import Derived.Test.YtfpihflepeiagaaGreatDoorLO01
import Derived.Test.YtfpihflepeiagaaGreatDoorLO10
import Derived.Test.YtfpihflepeiagaaGreatDoorLO06
import Derived.Carry
import Derived.Test.YtfpihflepeiagaaGreatDoorCards
import Derived.Test.YtfpihflepeiagaaGreatDoorTie
import Derived.Test.YtfpihflepeiagaaGreatDoorLO27
import Derived.WalkKit
import Derived.ProofKit
import Derived.OpenShut
import Derived.Deep.DeepHandedRow
import Derived.Lib.LaidTab
import Derived.Stop.LaidErr
namespace Go.Proofs.YtfpihflepeiagaaGreatDoor
open Go.RowKit

theorem wv_toList (x : Wd) : (⟨x.toArray⟩ : ByteArray).toList = x := by rw [ByteArray.toList_eq]
theorem beq_decide (x y : Wd) : (x == y) = decide (x = y) := by
  by_cases h : x = y
  · subst h; simp
  · rw [decide_eq_false h]; simpa using h
def smallRow (r : Row) : Prop := r.2.1.length ≤ 6 ∧ 0 ≤ r.2.2 ∧ ∀ c ∈ r.2.1, c.toNat < 6
theorem wantOf_cons (r : Row) (l : List Row) (left : Int) (wd : Wd) : wantOf (r :: l) left wd = if r.1 = left ∧ r.2.1 = wd then r.2.2 else wantOf l left wd := by
  unfold wantOf
  rw [List.find?_cons]
  by_cases h : r.1 = left ∧ r.2.1 = wd
  · obtain ⟨rfl, rfl⟩ := h
    simp
  · rw [if_neg h]
    have : (decide (r.1 = left) && decide (r.2.1 = wd)) = false := by
      rw [Bool.and_eq_false_iff]
      simp only [decide_eq_false_iff_not]
      by_cases h1 : r.1 = left
      · exact .inr fun h2 => h ⟨h1, h2⟩
      · exact .inl h1
    rw [this]
theorem wantOf_low {rows : List Row} (h : ∀ r ∈ rows, 0 ≤ r.2.2) (left : Int) (wd : Wd) : -1 ≤ wantOf rows left wd := by
  unfold wantOf
  split
  · rename_i r hr
    have := h r (List.mem_of_find?_eq_some hr)
    omega
  · omega
set_option maxRecDepth 100000 in
set_option maxHeartbeats 40000000 in
theorem ladfaOf_any {A1 A2 A3 Ar : Option Addr} {n m q c1 c2 c3 nr cr : Nat} {ns ts : List ByteArray} {rs : List (Int × List Int)} (rows : List Row) (left : Int) (wd : Wd) (w : World)
    (h1 : SlR eStr w w.heap.size (.slice A1 n c1) ns) (h2 : SlR eStr w w.heap.size (.slice A2 m c2) ts) (h3 : SlR eRule w w.heap.size (.slice A3 q c3) rs) (h4 : SlR eRow w w.heap.size (.slice Ar nr cr) rows) (hwd : wd.length ≤ maxLen) (ht : TabP w) :
    Calls Tryz.prog 4 #[gramV A1 A2 A3 n m q c1 c2 c3, .slice Ar nr cr, .int .i64 left, wv wd] w fun e w' => e = .returned (.bool true) ∧ Below w.heap.size w w' := by
  have hbx := (Below.refl w.heap.size w).alloc (Nat.le_refl _) (.cells #[.slice A1 n c1, .slice A2 m c2, .slice A3 q c3] 25)
  have HK := Lib.hid (Go.heap_alloc_new w (.cells #[.slice A1 n c1, .slice A2 m c2, .slice A3 q c3] 25))
  have HZ := Lib.hid (World.size_alloc w (.cells #[.slice A1 n c1, .slice A2 m c2, .slice A3 q c3] 25))
  have HBX := Lib.hid hbx
  have hl1 := h1.n_le
  have hl2 := h2.n_le
  have hl3 := h3.n_le
  have hl4 := h4.n_le
  unfold maxLen at hwd
  have HN := Lib.hid (show n = ns.length ∧ m = ts.length ∧ q = rs.length from ⟨h1.n_eq, h2.n_eq, h3.n_eq⟩)
  have HNR := Lib.hid h4.n_eq
  have H1 := Lib.hid (h1.fut (B' := w.heap.size + 1) hbx (Nat.le_refl _) (by omega))
  have H2 := Lib.hid (h2.fut (B' := w.heap.size + 1) hbx (Nat.le_refl _) (by omega))
  have H3 := Lib.hid (h3.fut (B' := w.heap.size + 1) hbx (Nat.le_refl _) (by omega))
  have H4 := Lib.hid (h4.fut (B' := w.heap.size + 1) hbx (Nat.le_refl _) (by omega))
  have HT := Lib.hid (ht.below hbx)
  have HCELL : Hid (∀ (w2 : World), w2.heap[w.heap.size]? = some (.cells #[.slice A1 n c1, .slice A2 m c2, .slice A3 q c3] 25 (0, 0)) → w2.cell? ⟨w.heap.size, 0, none⟩ = some (.slice A1 n c1) ∧ w2.cell? ⟨w.heap.size, 1, none⟩ = some (.slice A2 m c2) ∧ w2.cell? ⟨w.heap.size, 2, none⟩ = some (.slice A3 q c3)) := fun w2 hk => ⟨by rw [cell_of_row _ _ _ _ _ _ hk]; rfl, by rw [cell_of_row _ _ _ _ _ _ hk]; rfl, by rw [cell_of_row _ _ _ _ _ _ hk]; rfl⟩
  obtain ⟨X, hX⟩ : ∃ X : ByteArray, X = ⟨wd.toArray⟩ := ⟨_, rfl⟩
  have hXs : X.size = wd.length := by rw [hX]; rfl
  rw [show wv wd = Value.string X by rw [hX]]
  have HX := Lib.hid hX
  obtain ⟨nw, hnw⟩ : ∃ nw, nw = wd.length := ⟨_, rfl⟩
  rw [← hnw] at hXs hwd
  have HNW := Lib.hid hnw
  clear h1 h2 h3 h4 hbx ht hX hnw
  go_enter Tryz.func4, Tryz.ntmps4
  go_wp2_with fail
  generalize w.alloc (.cells #[.slice A1 n c1, .slice A2 m c2, .slice A3 q c3] 25) = w1 at *
  have HAW := Lib.hid (fun (w' : World) (h : Below (w.heap.size + 1) w1 w') (hs : w.heap.size + 1 ≤ w'.heap.size) => (awake26_any w' (HT.out.below (h.mono (Nat.le_of_eq HZ.out)))).mono (fun e w'' (hx : e = .returned (.bool true) ∧ Below w'.heap.size w' w'') => (⟨hx.1, h.trans (hx.2.mono hs)⟩ : e = .returned (.bool true) ∧ Below (w.heap.size + 1) w1 w'')))
  refine (few14_any _ _ _ ns ts rs w1 (by rw [HZ.out]; exact H1.out) (by rw [HZ.out]; exact H2.out) (by rw [HZ.out]; exact H3.out)).mono ?_
  rintro e w2 ⟨z, rfl, hz, hb2⟩
  have HB2 := Lib.hid (show Below (w.heap.size + 1) w1 w2 from hb2.mono (Nat.le_of_eq HZ.out.symm))
  have HS2 := Lib.hid (show w.heap.size + 1 ≤ w2.heap.size by have := hb2.size; have := HZ.out; omega)
  clear hb2
  have HK2 := Lib.hid ((HB2.out.block w.heap.size (by omega)).trans HK.out)
  obtain ⟨a0, a1, a2⟩ := HCELL.out w2 HK2.out
  have HFIN := Lib.hid (show ∀ w', Below (w.heap.size + 1) w1 w' → Below w.heap.size w w' from fun w' h => HBX.out.trans (h.mono (Nat.le_succ _)))
  have hcase : (z = 0 ∨ (z = 1 ∧ 30 < nr) ∨ (z = 1 ∧ nr ≤ 30 ∧ 10 < nw)) ∨ (z = 1 ∧ nr ≤ 30 ∧ nw ≤ 10 ∧ n ≤ 12 ∧ m ≤ 12 ∧ q ≤ 40) := by
    have := HN.out
    rcases hz with h | ⟨h, h1, h2, h3⟩
    · exact .inl (.inl h)
    · omega
  clear hz
  rcases hcase with hbad | ⟨rfl, hnr, hnw, hn12, hm12, hq40⟩
  · rcases hbad with rfl | ⟨rfl, hg⟩ | ⟨rfl, hg1, hg⟩
    all_goals
      go_wp2_with fail
    all_goals try (exfalso; omega)
    all_goals
      refine (HAW.out w2 HB2.out HS2.out).mono ?_
      rintro e w3 ⟨rfl, hb3⟩
      go_wp2_with fail
      go_ret
      exact ⟨rfl, HFIN.out _ hb3⟩
  · have d30 : decide ((30 : Int) < (nr : Int)) = false := by rw [decide_eq_false_iff_not]; omega
    have d30' : decide (30 < nr) = false := by rw [decide_eq_false_iff_not]; omega
    have d10 : decide ((10 : Int) < (nw : Int)) = false := by rw [decide_eq_false_iff_not]; omega
    have d10' : decide (10 < nw) = false := by rw [decide_eq_false_iff_not]; omega
    go_wp2_with fail
    go_loopw [9] (fun v9 wr => ∃ i : Nat, i ≤ nr ∧ v9 = .int .i64 i ∧ w2 = wr ∧ Hid (∀ r ∈ rows.take i, smallRow r)) (fun v9 _ => nr - (intOf v9).toNat)
    case atStart => exact ⟨0, by omega, rfl, rfl, fun r hr => by simp at hr⟩
    case round =>
      obtain ⟨i, hi, rfl, rfl, HSM⟩ := hrel
      by_cases hin : i < nr
      · have hir : i < rows.length := by rw [← HNR.out]; exact hin
        obtain ⟨b1, o1, rfl, -, hb1, x0, x1, x2, hrep⟩ := (H4.out.below HB2.out).rowAt hir
        obtain ⟨-, hr0, hr1, hr2⟩ := eRow_open hrep
        have HTK := Lib.hid (List.take_succ_eq_append_getElem hir)
        obtain ⟨r, hr⟩ : ∃ r, r = rows[i] := ⟨_, rfl⟩
        rw [← hr] at x0 x1 x2 hr0 hr1 hr2 HTK
        clear hr hrep hir
        obtain ⟨rl, rw1, rr⟩ := r
        simp only at x0 x1 x2 hr0 hr1 hr2
        obtain ⟨Y, hY⟩ : ∃ Y : ByteArray, Y = ⟨rw1.toArray⟩ := ⟨_, rfl⟩
        have hYs : Y.size = rw1.length := by rw [hY]; rfl
        rw [show wv rw1 = Value.string Y by rw [hY]] at x1
        have HY := Lib.hid hY
        clear hY
        obtain ⟨ny, hny⟩ : ∃ ny, ny = rw1.length := ⟨_, rfl⟩
        rw [← hny] at hYs hr1
        have HNY := Lib.hid hny
        clear hny
        unfold maxLen at hr1
        by_cases hbad : 6 < ny ∨ rr < 0
        · have hbc : (6 < ny) ∨ (¬ 6 < ny ∧ rr < 0) := by omega
          rcases hbc with h6 | ⟨h6, h0⟩
          all_goals
            go_wp2_with fail
          all_goals try (exfalso; omega)
          all_goals
            refine (HAW.out w2 HB2.out HS2.out).mono ?_
            rintro e w3 ⟨rfl, hb3⟩
            go_wp2_with fail
            go_ret
            exact ⟨rfl, HFIN.out _ hb3⟩
        · have h6 : ny ≤ 6 := by omega
          have h0 : 0 ≤ rr := by omega
          have d6 : decide ((6 : Int) < (ny : Int)) = false := by rw [decide_eq_false_iff_not]; omega
          have d6' : decide (6 < ny) = false := by rw [decide_eq_false_iff_not]; omega
          have d0 : decide (rr < 0) = false := by rw [decide_eq_false_iff_not]; omega
          go_wp2_with fail
          go_loopw [10] (fun v10 wr => ∃ k : Nat, k ≤ ny ∧ v10 = .int .i64 k ∧ w2 = wr ∧ Hid (∀ c ∈ rw1.take k, c.toNat < 6)) (fun v10 _ => ny - (intOf v10).toNat)
          case atStart => exact ⟨0, by omega, rfl, rfl, fun c hc => by simp at hc⟩
          case round =>
            obtain ⟨k, hk, rfl, rfl, HCS⟩ := hrel
            by_cases hkn : k < ny
            · have hkl : k < rw1.length := by rw [← HNY.out]; exact hkn
              have hYk : ∀ (h : k < Y.size), Y[k] = rw1[k] := fun h => by
                have := HY.out
                subst this
                rfl
              have HCT := Lib.hid (List.take_succ_eq_append_getElem hkl)
              obtain ⟨ch, hch⟩ : ∃ ch, ch = rw1[k] := ⟨_, rfl⟩
              rw [← hch] at hYk HCT
              clear hch hkl
              have HWR := Lib.hid (show wrap64 ((ch.toNat : Nat) : Int) = ((ch.toNat : Nat) : Int) by have := ch.toNat_lt; unfold wrap64; omega)
              by_cases h5 : 5 < ch.toNat
              · have d5 : decide ((5 : Int) < wrap64 ((ch.toNat : Nat) : Int)) = true := by rw [HWR.out, decide_eq_true_eq]; omega
                go_wp2_with fail
                refine (HAW.out w2 HB2.out HS2.out).mono ?_
                rintro e w3 ⟨rfl, hb3⟩
                go_wp2_with fail
                go_ret
                exact ⟨rfl, HFIN.out _ hb3⟩
              · have d5 : decide ((5 : Int) < wrap64 ((ch.toNat : Nat) : Int)) = false := by rw [HWR.out, decide_eq_false_iff_not]; omega
                have HCN := Lib.hid (show ∀ c ∈ rw1.take (k + 1), c.toNat < 6 from fun c hc => by
                  rw [HCT.out, List.mem_append, List.mem_singleton] at hc
                  rcases hc with hc | rfl
                  · exact HCS.out c hc
                  · omega)
                go_wp2_with fail
                go_roundw
                case rel => exact ⟨k + 1, by omega, by go_num, trivial, HCN.out⟩
                case measure => simp [intOf]; omega
            · have HSN := Lib.hid (show ∀ r ∈ rows.take (i + 1), smallRow r from fun r hr => by
                rw [HTK.out, List.mem_append, List.mem_singleton] at hr
                rcases hr with hr | rfl
                · exact HSM.out r hr
                · refine ⟨by rw [← HNY.out]; exact h6, h0, fun c hc => HCS.out c ?_⟩
                  rw [List.take_of_length_le (by rw [← HNY.out]; omega)]
                  exact hc)
              go_wp2_with fail
              go_roundw
              case rel => exact ⟨i + 1, by omega, by go_num, trivial, HSN.out⟩
              case measure => simp [intOf]; omega
      · have HSA := Lib.hid (show ∀ r ∈ rows, smallRow r from fun r hr => HSM.out r (by rw [List.take_of_length_le (by rw [← HNR.out]; omega)]; exact hr))
        have HLOW := Lib.hid (show ∀ r ∈ rows, 0 ≤ r.2.2 from fun r hr => (HSA.out r hr).2.1)
        have HRF := Lib.hid (show RowsFit rows from ⟨by rw [← HNR.out]; omega, fun r hr => by have := (HSA.out r hr).1; omega⟩)
        clear HSM
        go_wp2_with fail
        refine (of26_any (A1 := A1) (A2 := A2) (A3 := A3) (n := n) (m := m) (q := q) (c1 := c1) (c2 := c2) (c3 := c3) rows w2 (H4.out.fut HB2.out (Nat.le_refl _) HS2.out) HRF.out (by omega) (HT.out.below (HB2.out.mono (Nat.le_of_eq HZ.out)))).mono ?_
        rintro e w3 ⟨v, rfl, hms, hb3⟩
        obtain ⟨A5, c5, rfl, hc5, hc5'⟩ := hms.form
        unfold maxLen at hc5'
        rw [machs_len] at hc5 hms ⊢
        have HB3 := Lib.hid (HB2.out.trans (hb3.mono HS2.out))
        have HS3 := Lib.hid (Nat.le_trans HS2.out hb3.size)
        have HMS := Lib.hid hms
        clear hms hb3 a0 a1 a2
        obtain ⟨a0, a1, a2⟩ := HCELL.out w3 ((HB3.out.block w.heap.size (by omega)).trans HK.out)
        go_wp2_with fail
        go_loopw [13, 12] (fun v13 v12 wr => ∃ j : Nat, j ≤ nr ∧ v13 = .int .i64 ((j : Int) - 1) ∧ v12 = .int .i64 (wantOf (rows.drop j) left wd) ∧ w3 = wr) (fun v13 _ _ => (intOf v13 + 1).toNat)
        case atStart => exact ⟨nr, by omega, rfl, by rw [List.drop_of_length_le (by rw [← HNR.out]; omega)]; rfl, rfl⟩
        case round =>
          obtain ⟨j, hj, rfl, rfl, rfl⟩ := hrel
          by_cases hj0 : 0 < j
          · obtain ⟨i, rfl⟩ : ∃ i, j = i + 1 := ⟨j - 1, by omega⟩
            have hir : i < rows.length := by rw [← HNR.out]; omega
            obtain ⟨b1, o1, rfl, -, hb1, x0, x1, x2, hrep⟩ := (H4.out.below HB3.out).rowAt hir
            obtain ⟨-, hr0, hr1, hr2⟩ := eRow_open hrep
            have HDR := Lib.hid (show wantOf (rows.drop i) left wd = if rows[i].1 = left ∧ rows[i].2.1 = wd then rows[i].2.2 else wantOf (rows.drop (i + 1)) left wd by rw [List.drop_eq_getElem_cons hir, wantOf_cons])
            generalize wantOf (rows.drop (i + 1)) left wd = wo at *
            obtain ⟨r, hr⟩ : ∃ r, r = rows[i] := ⟨_, rfl⟩
            rw [← hr] at x0 x1 x2 hr0 hr1 hr2 HDR
            clear hr hrep hir
            obtain ⟨rl, rw1, rr⟩ := r
            simp only at x0 x1 x2 hr0 hr1 hr2 HDR
            obtain ⟨Y, hY⟩ : ∃ Y : ByteArray, Y = ⟨rw1.toArray⟩ := ⟨_, rfl⟩
            rw [show wv rw1 = Value.string Y by rw [hY]] at x1
            have heq : (Y.toList == X.toList) = decide (rw1 = wd) := by rw [hY, HX.out, wv_toList, wv_toList]; exact beq_decide rw1 wd
            have HY := Lib.hid hY
            clear hY
            have hci : ((i + 1 : Nat) : Int) - 1 = (i : Int) := by omega
            rw [hci]
            have hd13 : decide (0 ≤ (i : Int)) = true := by rw [decide_eq_true_eq]; omega
            by_cases hl : rl = left
            · subst hl
              by_cases hw : rw1 = wd
              · have hyx : (Y.toList == X.toList) = true := by rw [heq]; simpa using hw
                have HW2 := Lib.hid (show wantOf (rows.drop i) rl wd = rr by rw [HDR.out, if_pos ⟨rfl, hw⟩])
                clear heq hw
                go_wp2_with fail
                go_roundw
                case rel => exact ⟨i, by omega, by go_num, by rw [HW2.out], trivial⟩
                case measure => simp [intOf]
              · have hyx : (Y.toList == X.toList) = false := by rw [heq]; simpa using hw
                have HW2 := Lib.hid (show wantOf (rows.drop i) rl wd = wo by rw [HDR.out, if_neg (fun h => hw h.2)])
                clear heq hw
                go_wp2_with fail
                go_roundw
                case rel => exact ⟨i, by omega, by go_num, by rw [HW2.out], trivial⟩
                case measure => simp [intOf]
            · have hll : (rl == left) = false := by simpa using hl
              have HW2 := Lib.hid (show wantOf (rows.drop i) left wd = wo by rw [HDR.out, if_neg (fun h => hl h.1)])
              clear heq hl
              go_wp2_with fail
              go_roundw
              case rel => exact ⟨i, by omega, by go_num, by rw [HW2.out], trivial⟩
              case measure => simp [intOf]
          · have hj1 : j = 0 := by omega
            subst hj1
            have HWO := Lib.hid (show wantOf (rows.drop 0) left wd = wantOf rows left wd by rw [List.drop_zero])
            have HSY := Lib.hid (show saysL rows n left wd = if 0 ≤ left ∧ left < n then wantOf rows left wd else -1 by unfold saysL; rw [outOf_want HLOW.out])
            have HWL := Lib.hid (wantOf_low HLOW.out left wd)
            have HPR := Lib.hid (predict_any (.slice A5 n c5) (machsM rows n) left X w3 HMS.out (by rw [hXs]; omega))
            have HPE := Lib.hid (show predictR (machsM rows n) left X.data.toList = saysL rows n left wd by rw [HX.out]; exact machs_predict HLOW.out n left wd)
            generalize wantOf (rows.drop 0) left wd = wa at *
            generalize wantOf rows left wd = wb at *
            have hab : wa = wb := HWO.out
            subst hab
            generalize saysL rows n left wd = sy at *
            have hpost : Calls Tryz.prog 12 #[.slice A5 n c5, .int .i64 left, .string X] w3 (fun e w' => e = .returned (.tuple #[.int .i64 (max sy 0), .bool (decide (0 ≤ sy))]) ∧ Below w3.heap.size w3 w') := by
              have := HPR.out
              rw [HPE.out] at this
              exact this
            clear HPR HPE
            have HPR := Lib.hid hpost
            clear hpost
            have HLE := Lib.hid (show ∀ (a : Nat), a < n → ∀ (w' : World), Below w3.heap.size w3 w' → ∃ (A4 : Option Addr) (l4 c4 b5 o5 : Nat), A5 = some ⟨b5, o5, none⟩ ∧ w'.cell? ⟨b5, o5 + a, none⟩ = some (.slice A4 l4 c4) ∧ 0 < l4 ∧ l4 ≤ 9223372036854775807 ∧ Calls Tryz.prog 14 #[.slice A4 l4 c4, .int .i64 6] w' (fun e w'' => e = .returned (.bool true) ∧ Below w'.heap.size w' w'') from fun a ha w' hb => by
              have hms := HMS.out.fut hb (Nat.le_refl _) hb.size
              have hal : a < (machsM rows n).length := by rw [machs_len]; exact ha
              obtain ⟨b5, o5, cs, e5, -, -, ⟨u, rfl, hu⟩, hcell⟩ := hms.get hal (by decide)
              have hget : (machsM rows n)[a] = machM (ofRows (a : Int) rows) := (List.getElem?_eq_some_iff.1 (machs_get rows ha)).2
              have hro : ∀ r ∈ ofRows (a : Int) rows, r ∈ rows := fun r hr => (List.mem_filter.1 hr).1
              have hlow := ofRows_low HLOW.out (a : Int)
              have hml := mach_len hlow 6 (fun r hr => (HSA.out r (hro r hr)).1)
              have hol : (ofRows (a : Int) rows).length ≤ rows.length := List.length_filter_le _ _
              rw [hget] at hu
              obtain ⟨A4, c4, rfl, hc4, hc4'⟩ := hu.form
              have d0 := hcell 0 _ rfl
              simp only [show (eSl eState).size = 1 from rfl, Nat.mul_one, Nat.add_zero] at d0
              have hr30 : rows.length ≤ 30 := by rw [← HNR.out]; exact hnr
              have hb1 : (machM (ofRows (a : Int) rows)).length ≤ 1000 := by omega
              refine ⟨A4, _, c4, b5, o5, e5, d0, List.length_pos_iff.2 (mach_least hlow).good.some, by omega, ?_⟩
              exact least24_any A4 c4 6 _ _ w' hu (mach_least hlow) (by omega) (by omega) (mach_term (n := 6) hlow fun r hr => (HSA.out r (hro r hr)).2.2))
            clear HMS HLOW HRF
            have hlast : (left < 0 ∧ sy = -1) ∨ (0 ≤ left ∧ (n : Int) ≤ left ∧ sy = -1) ∨ (0 ≤ left ∧ ¬ (n : Int) ≤ left ∧ wa = sy ∧ sy = -1) ∨ (0 ≤ left ∧ ¬ (n : Int) ≤ left ∧ wa = sy ∧ 0 ≤ sy) := by
              have h1 := HSY.out
              have h2 := HWL.out
              split at h1 <;> omega
            clear HSY HWL HWO
            simp only [show ((0 : Nat) : Int) - 1 = -1 from rfl]
            rcases hlast with ⟨hl, rfl⟩ | ⟨hl, hl', rfl⟩ | ⟨hl, hl', rfl, rfl⟩ | ⟨hl, hl', rfl, hs0⟩
            all_goals
              first
                | (have hmx : max wa 0 = wa := by omega
                   have hdm : decide (0 ≤ wa) = true := by rw [decide_eq_true_eq]; exact hs0
                   rw [hmx, hdm] at HPR)
                | (rw [show max (-1 : Int) 0 = 0 from rfl, show decide ((0 : Int) ≤ -1) = false from rfl] at HPR)
            all_goals
              go_wp2_with fail
            all_goals
              refine HPR.out.mono ?_
              rintro e w4 ⟨rfl, hb4⟩
              have HB4 := Lib.hid hb4
              clear hb4
              go_wp2_with fail
            all_goals
              go_loopw [16] (fun v16 wr => ∃ a : Nat, a ≤ n ∧ v16 = .int .i64 a ∧ Hid (Below w3.heap.size w3 wr)) (fun v16 _ => n - (intOf v16).toNat)
              case atStart => exact ⟨0, by omega, rfl, HB4.out⟩
              case round =>
                obtain ⟨a, ha, rfl, HBA⟩ := hrel
                by_cases han : a < n
                · obtain ⟨A4, l4, c4, b5, o5, rfl, d0, hl0, hl4, hcall⟩ := HLE.out a han wr HBA.out
                  have HCL := Lib.hid hcall
                  clear hcall
                  have hz4 : ((l4 : Int) == 0) = false := by rw [beq_eq_false_iff_ne]; omega
                  go_wp2_with fail
                  refine HCL.out.mono ?_
                  rintro e w5 ⟨rfl, hb5⟩
                  have HB5 := Lib.hid (HBA.out.trans (hb5.mono HBA.out.size))
                  clear hb5
                  go_wp2_with fail
                  go_roundw
                  case rel => exact ⟨a + 1, by omega, by go_num, HB5.out⟩
                  case measure => simp [intOf]; omega
                · have HB5 := Lib.hid (HB3.out.trans (HBA.out.mono HS3.out))
                  have HS5 := Lib.hid (Nat.le_trans HS3.out HBA.out.size)
                  go_wp2_with fail
                  refine (HAW.out wr HB5.out HS5.out).mono ?_
                  rintro e w6 ⟨rfl, hb6⟩
                  go_wp2_with fail
                  go_ret
                  exact ⟨rfl, HFIN.out _ hb6⟩
end Go.Proofs.YtfpihflepeiagaaGreatDoor
namespace Go.Proofs.YtfpihflepeiagaaGreatDoor
open Go.ChangeMaps (open_string)
open Go.ChangeShapes Go.WideShapes Go.ChangeAt Go.RowKit

theorem own : ownKnob Tryz.prog.godebug = none := by kernel_rfl
theorem laidOut : laidOutB Tryz.prog = true := by kernel_rfl
section
variable {H : Type} {enc : TypeId × Value → H}
theorem opens_strs : Opens enc Tryz.prog (eSl eStr) 22 := opens_sl (opens_str Tryz.underlying9) Tryz.underlying22 (by kernel_rfl) (by decide)
theorem opens_ints : Opens enc Tryz.prog (eSl eInt) 39 := opens_sl (opens_int Tryz.underlying3) Tryz.underlying39 (by kernel_rfl) (by decide)
theorem opens_rule : Opens enc Tryz.prog eRule 55 := opens_two Tryz.underlying55 (opens_int Tryz.underlying3) opens_ints (by kernel_rfl) (by kernel_rfl) rfl rfl (by kernel_rfl)
theorem opens_rules : Opens enc Tryz.prog (eSl eRule) 23 := opens_sl opens_rule Tryz.underlying23 (by kernel_rfl) (by decide)
def eGram : Elt Gram := eProd (eSl eStr) (eProd (eSl eStr) (eSl eRule))
theorem opens_gram : Opens enc Tryz.prog eGram 25 := opens_three Tryz.underlying25 opens_strs opens_strs opens_rules (by kernel_rfl) (by kernel_rfl) (by kernel_rfl) rfl rfl rfl (by kernel_rfl)
theorem opens_word : Opens enc Tryz.prog eW 9 := opens_map (opens_str Tryz.underlying9) (fun b => b.data.toList) (fun b => by cases b; rfl)
theorem opens_row : Opens enc Tryz.prog eRow 43 := opens_three Tryz.underlying43 (opens_int Tryz.underlying3) opens_word (opens_int Tryz.underlying3) (by kernel_rfl) (by kernel_rfl) (by kernel_rfl) rfl rfl rfl (by kernel_rfl)
theorem opens_rows : Opens enc Tryz.prog (eSl eRow) 41 := opens_sl opens_row Tryz.underlying41 (by kernel_rfl) (by decide)
end
end Go.Proofs.YtfpihflepeiagaaGreatDoor
namespace Go.Proofs.YtfpihflepeiagaaGreatDoor
open Go.ChangeShapes Go.WideShapes Go.ChangeAt Go.RowKit

abbrev list26 : List (String × DataW Unit) := Rows.ladfaOfRow.laid
theorem gTab : Tryz.prog.globalNamed "internal/strconv.uint64pow10" = some 1 := by kernel_rfl
theorem gTabType : (Tryz.prog.globals[1]?).map (·.type) = some 201 := by kernel_rfl
theorem cellsTab : Tryz.prog.cellsOf 201 = 20 := by kernel_rfl
theorem cellsU64 : Tryz.prog.cellsOf 153 = 1 := by kernel_rfl
theorem tabP_of {W : World} (h : laidMetH Tryz.prog list26 W) : TabP W := by
  have h0 : laidMet Tryz.prog list26 W := h
  exact Lib.tabIs_of_head gTab gTabType Tryz.underlying201 Tryz.underlying153 cellsU64 cellsTab h0.tail.tail
def tab32 : Array Value := (#[0, 1, 28, 2, 29, 14, 24, 3, 30, 22, 20, 15, 25, 17, 4, 8, 31, 27, 13, 23, 21, 19, 16, 7, 26, 12, 18, 6, 11, 5, 10, 9] : Array Int).map fun z => .int .u8 z
def tab64 : Array Value := (#[0, 1, 56, 2, 57, 49, 28, 3, 61, 58, 42, 50, 38, 29, 17, 4, 62, 47, 59, 36, 45, 43, 51, 22, 53, 39, 33, 30, 24, 18, 12, 5, 63, 55, 48, 27, 60, 41, 37, 16, 46, 35, 44, 21, 52, 32, 23, 11, 54, 26, 40, 15, 34, 20, 31, 10, 25, 14, 19, 9, 13, 8, 7, 6] : Array Int).map fun z => .int .u8 z
def tabPow : Array Value := (#[1, 10, 100, 1000, 10000, 100000, 1000000, 10000000, 100000000, 1000000000, 10000000000, 100000000000, 1000000000000, 10000000000000, 100000000000000, 1000000000000000, 10000000000000000, 100000000000000000, 1000000000000000000, 10000000000000000000] : Array Int).map fun z => .int .u64 z
def putIn (cs : Array Value) : Obj → Obj
  | .cells _ t frozen => .cells cs t frozen
  | o => o
noncomputable def laidWorld (os : Os) : World :=
  let w0 := World.holding Tryz.prog os ⟨#[], #[], []⟩
  { w0 with heap := ((w0.heap.modify 2 (putIn tab32)).modify 3 (putIn tab64)).modify 1 (putIn tabPow) }
theorem laid26_met (os : Os) (args : Array Value) : laidMet Tryz.prog list26 ((laidWorld os).forCall (fun _ _ => 0) ⟨#[], args, []⟩).memory :=
  laidMet_of_run' 8 (by kernel_rfl) (by kernel_rfl)
end Go.Proofs.YtfpihflepeiagaaGreatDoor
