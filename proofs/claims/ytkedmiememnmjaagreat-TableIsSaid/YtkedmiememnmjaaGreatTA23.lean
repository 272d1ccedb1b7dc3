import Derived.Test.YtkedmiememnmjaaGreatTA10
import Derived.Test.YtkedmiememnmjaaGreatTA12
import Derived.Test.YtkedmiememnmjaaGreatTA22
namespace Go.Proofs.YtkedmiememnmjaaGreat
open Go.RowKit

def badRow (g : Gram) (k : Int) (x : Row) : Bool := decide (x.2.2 < 0) || decide ((g.2.2.length : Int) ≤ x.2.2) || !wordOk g.2.1.length k x.2.1
theorem isRow_bad (g : Gram) (k : Int) (x : Row) : isRow g k x = (!badRow g k x && decide (leftAt g x.2.2 = x.1)) := by
  unfold isRow badRow
  cases decide (x.2.2 < 0) <;> cases decide ((g.2.2.length : Int) ≤ x.2.2) <;> cases wordOk g.2.1.length k x.2.1 <;> by_cases h : leftAt g x.2.2 = x.1 <;> simp [h]
theorem aheadR_lt (y x : Row) : aheadR (some y) x = !ltB y x := by
  unfold aheadR
  rw [Bool.eq_iff_iff]
  have h1 := ordR_lt y x
  have h2 := ltB_iff y x
  simp only [decide_eq_true_eq, Bool.not_eq_true', ← Bool.not_eq_true]
  rw [h2, ← h1]
  omega
theorem alike_step (alike : Bool) (x y : Row) (l m : List Row) : (alike && decide (x :: l = y :: m)) = ((alike && !(alike && !decide (some x = some y))) && decide (l = m)) := by
  cases alike <;> by_cases h : x = y <;> simp [h]
theorem ofRows_take (left : Int) (xs : List Row) (i : Nat) : ofRows left xs = ofRows left (xs.take i) ++ ofRows left (xs.drop i) := by
  unfold ofRows
  rw [← List.filter_append, List.take_append_drop]
set_option maxRecDepth 100000 in
set_option maxHeartbeats 16000000 in
theorem tableIs_any {A1 A2 A3 Ar Ao : Option Addr} {n m q nr no c1 c2 c3 cr co : Nat} {ns ts : List ByteArray} {rs : List (Int × List Int)} {rows others : List Row} (k left : Int) (w : World)
    (h1 : SlR eStr w w.heap.size (.slice A1 n c1) ns) (h2 : SlR eStr w w.heap.size (.slice A2 m c2) ts) (h3 : SlR eRule w w.heap.size (.slice A3 q c3) rs) (h4 : SlR eRow w w.heap.size (.slice Ar nr cr) rows) (h5 : SlR eRow w w.heap.size (.slice Ao no co) others) :
    Calls Tryz.prog 5 #[gramV A1 A2 A3 n m q c1 c2 c3, .int .i64 k, .slice Ar nr cr, .slice Ao no co, .int .i64 left] w fun e w' => e = .returned (.bool true) ∧ Below w.heap.size w w' := by
  have hbx := (Below.refl w.heap.size w).alloc (Nat.le_refl _) (.cells #[.slice A1 n c1, .slice A2 m c2, .slice A3 q c3] 25)
  have HK := Lib.hid (Go.heap_alloc_new w (.cells #[.slice A1 n c1, .slice A2 m c2, .slice A3 q c3] 25))
  have HZ := Lib.hid (World.size_alloc w (.cells #[.slice A1 n c1, .slice A2 m c2, .slice A3 q c3] 25))
  have HBX := Lib.hid hbx
  have hl1 := h1.n_le
  have hl2 := h2.n_le
  have hl3 := h3.n_le
  have hl4 := h4.n_le
  have hl5 := h5.n_le
  have HN := Lib.hid (show n = ns.length ∧ m = ts.length ∧ q = rs.length ∧ nr = rows.length ∧ no = others.length from ⟨h1.n_eq, h2.n_eq, h3.n_eq, h4.n_eq, h5.n_eq⟩)
  have H1 := Lib.hid (h1.fut (B' := w.heap.size + 1) hbx (Nat.le_refl _) (by omega))
  have H2 := Lib.hid (h2.fut (B' := w.heap.size + 1) hbx (Nat.le_refl _) (by omega))
  have H3 := Lib.hid (h3.fut (B' := w.heap.size + 1) hbx (Nat.le_refl _) (by omega))
  have H4 := Lib.hid (h4.fut (B' := w.heap.size) hbx (Nat.le_refl _) (by omega))
  have H5 := Lib.hid (h5.fut (B' := w.heap.size) hbx (Nat.le_refl _) (by omega))
  have HCELL : Hid (∀ (w2 : World), w2.heap[w.heap.size]? = some (.cells #[.slice A1 n c1, .slice A2 m c2, .slice A3 q c3] 25 (0, 0)) → w2.cell? ⟨w.heap.size, 0, none⟩ = some (.slice A1 n c1) ∧ w2.cell? ⟨w.heap.size, 1, none⟩ = some (.slice A2 m c2) ∧ w2.cell? ⟨w.heap.size, 2, none⟩ = some (.slice A3 q c3)) := fun w2 hk => ⟨by rw [cell_of_row _ _ _ _ _ _ hk]; rfl, by rw [cell_of_row _ _ _ _ _ _ hk]; rfl, by rw [cell_of_row _ _ _ _ _ _ hk]; rfl⟩
  clear h1 h2 h3 h4 h5 hbx
  go_enter Tryz.func5, Tryz.ntmps5
  go_wp2_with fail
  generalize w.alloc (.cells #[.slice A1 n c1, .slice A2 m c2, .slice A3 q c3] 25) = w1 at *
  refine (few14_any _ _ _ ns ts rs w1 (by rw [HZ.out]; exact H1.out) (by rw [HZ.out]; exact H2.out) (by rw [HZ.out]; exact H3.out)).mono ?_
  rintro e w2 ⟨z, rfl, hz, hb2⟩
  have HB2 := Lib.hid (show Below (w.heap.size + 1) w1 w2 from hb2.mono (Nat.le_of_eq HZ.out.symm))
  have HS2 := Lib.hid (show w.heap.size + 1 ≤ w2.heap.size by have := hb2.size; have := HZ.out; omega)
  clear hb2
  rcases hz with rfl | ⟨rfl, hz1, hz2, hz3⟩
  · go_wp2_with fail
    refine (awake_any w2).mono ?_
    rintro e w3 ⟨rfl, hb3⟩
    go_wp2_with fail
    go_ret
    exact ⟨rfl, HBX.out.trans ((HB2.out.trans (hb3.mono HS2.out)).mono (Nat.le_succ _))⟩
  · by_cases hr6 : nr ≤ 60
    case neg =>
      have d1 : decide ((60 : Int) < (nr : Int)) = true := by simp; omega
      go_wp2_with fail
      refine (awake_any w2).mono ?_
      rintro e w3 ⟨rfl, hb3⟩
      go_wp2_with fail
      go_ret
      exact ⟨rfl, HBX.out.trans ((HB2.out.trans (hb3.mono HS2.out)).mono (Nat.le_succ _))⟩
    by_cases ho6 : no ≤ 60
    case neg =>
      have d1 : decide ((60 : Int) < (nr : Int)) = false := by simp; omega
      have d2 : decide ((60 : Int) < (no : Int)) = true := by simp; omega
      go_wp2_with fail
      refine (awake_any w2).mono ?_
      rintro e w3 ⟨rfl, hb3⟩
      go_wp2_with fail
      go_ret
      exact ⟨rfl, HBX.out.trans ((HB2.out.trans (hb3.mono HS2.out)).mono (Nat.le_succ _))⟩
    have d1 : decide ((60 : Int) < (nr : Int)) = false := by simp; omega
    have d2 : decide ((60 : Int) < (no : Int)) = false := by simp; omega
    have HSM := Lib.hid (show n ≤ 1048576 ∧ m ≤ 1048576 ∧ q ≤ 1048576 by have := HN.out; omega)
    have HGR := Lib.hid (show ∀ w' : World, Below (w.heap.size + 1) w1 w' → w.heap.size + 1 ≤ w'.heap.size → GramR w' w'.heap.size A1 A2 A3 n m q c1 c2 c3 (ns, ts, rs) from fun w' hb hs => ⟨H1.out.fut hb (Nat.le_refl _) hs, H2.out.fut hb (Nat.le_refl _) hs, H3.out.fut hb (Nat.le_refl _) hs, HSM.out⟩)
    have HK2 := Lib.hid ((HB2.out.block w.heap.size (by omega)).trans HK.out)
    obtain ⟨a0, a1, a2⟩ := HCELL.out w2 HK2.out
    clear hz1 hz2 hz3
    go_wp2_with fail
    refine (valid14_any w2 (HGR.out w2 HB2.out HS2.out)).mono ?_
    rintro e w3 ⟨rfl, hb3⟩
    have HB3 := Lib.hid (HB2.out.trans (hb3.mono HS2.out))
    have HS3 := Lib.hid (Nat.le_trans HS2.out hb3.size)
    have H43 := Lib.hid (H4.out.fut (B' := w3.heap.size) HB3.out (Nat.le_succ _) (by have := HS3.out; omega))
    clear hb3 a0 a1 a2
    go_wp2_with fail
    refine (of_rows _ left rows w3 H43.out (by have := HN.out; omega)).mono ?_
    rintro e w4 ⟨v, rfl, hown, hb4⟩
    have HB4 := Lib.hid (HB3.out.trans (hb4.mono HS3.out))
    have HS4 := Lib.hid (Nat.le_trans HS3.out hb4.size)
    obtain ⟨A9, c9, rfl, h91, h92⟩ := own_form hown
    have HOF := Lib.hid (slR_own (t := 54) (fun x hx => H4.out.fitR x ((List.mem_filter.1 hx).1)) hown)
    have h95 : (ofRows left rows).length ≤ nr := by
      have := ofRows_le left rows nr
      rwa [List.take_of_length_le (by have := HN.out; omega)] at this
    obtain ⟨nf, hnf⟩ : ∃ nf, nf = (ofRows left rows).length := ⟨_, rfl⟩
    rw [← hnf] at HOF h91 h95 ⊢
    have HNF := Lib.hid hnf
    clear hown hb4 hnf
    obtain ⟨G, hG⟩ : ∃ G, G = gramB (ns, ts, rs) := ⟨_, rfl⟩
    rw [← hG]
    have HGG := Lib.hid hG
    clear hG
    go_wp2_with fail
    go_loopg [11, 12, 14, 15] nr (fun lft v11 v12 v14 v15 wr => ∃ (i : Nat) (well alike : Bool), i ≤ nr ∧ nr - i ≤ lft ∧ v15 = .int .i64 i ∧ v11 = .bool well ∧ v12 = .bool alike ∧ v14 = .int .i64 ((ofRows left (rows.take i)).length : Nat) ∧ Hid (Below (w.heap.size + 1) w1 wr) ∧ Hid (Below w4.heap.size w4 wr) ∧
      Hid (isW (ns, ts, rs) k rows = (well && isFrom (ns, ts, rs) k (prevAt rows i) (rows.drop i))) ∧ Hid (alike = true → nr = no) ∧ Hid (decide (rows = others) = (alike && decide (rows.drop i = others.drop i))))
    case atStart =>
      refine ⟨0, G, ((nr : Int) == (no : Int)), by omega, by omega, rfl, rfl, rfl, rfl, HB4.out, Below.refl _ _, ?_, ?_, ?_⟩
      · show isW (ns, ts, rs) k rows = _
        unfold isW
        rw [← HGG.out]
        rfl
      · intro h
        have := beq_iff_eq.1 h
        omega
      · show decide (rows = others) = _
        by_cases he : nr = no
        · rw [show ((nr : Int) == (no : Int)) = true by rw [beq_iff_eq]; omega]
          rfl
        · rw [show ((nr : Int) == (no : Int)) = false by rw [beq_eq_false_iff_ne]; omega]
          rw [Bool.false_and, decide_eq_false_iff_not]
          intro e
          have := HN.out
          rw [e] at this
          omega
    case round =>
      obtain ⟨i, well, alike, hi, hlft, rfl, rfl, rfl, rfl, HB, HB4R, HI, HAL, HEQ⟩ := hrel
      have HSR := Lib.hid (show w.heap.size + 1 ≤ wr.heap.size by have := HB.out.size; have := HZ.out; omega)
      have HKR := Lib.hid ((HB.out.block w.heap.size (by omega)).trans HK.out)
      by_cases hib : i < nr
      · have hil : i < rows.length := by have := HN.out; omega
        obtain ⟨b1, o1, rfl, -, hb1, x0, x1, x2, hrep⟩ := (H4.out.below (HB.out.mono (Nat.le_succ _))).rowAt hil
        have hfit := (eRow_open hrep).2
        have HI2 := Lib.hid (HI.out.trans (congrArg (well && ·) (isFrom_at hil)))
        have HXE := Lib.hid (List.getElem?_eq_getElem hil)
        have HTK := Lib.hid (ofRows_succ left rows i hil)
        have HDR := Lib.hid (List.drop_eq_getElem_cons hil)
        obtain ⟨x, hx⟩ : ∃ x, x = rows[i] := ⟨_, rfl⟩
        rw [← hx] at x0 x1 x2 hfit HI2 HXE HTK HDR
        clear hx hrep HI hil
        obtain ⟨xa, xs1, xi⟩ := x
        simp only at x0 x1 x2 hfit
        go_upto_region 11 with fail
        have hb3 := (Below.refl wr.heap.size wr).alloc (Nat.le_refl _) (.cells #[.int .i64 xa, wv xs1, .int .i64 xi] 54)
        have HB3' := Lib.hid (show Below (w.heap.size + 1) w1 _ from HB.out.trans (hb3.mono HSR.out))
        have HB43 := Lib.hid (show Below w4.heap.size w4 _ from HB4R.out.trans (hb3.mono HB4R.out.size))
        have HZ3 := Lib.hid (World.size_alloc wr (.cells #[.int .i64 xa, wv xs1, .int .i64 xi] 54))
        have HK3 := Lib.hid (Go.heap_alloc_new wr (.cells #[.int .i64 xa, wv xs1, .int .i64 xi] 54))
        have HKG := Lib.hid ((hb3.block w.heap.size (by have := HSR.out; omega)).trans HKR.out)
        clear x0 x1 x2 hb3
        generalize wr.alloc (.cells #[.int .i64 xa, wv xs1, .int .i64 xi] 54) = w5 at *
        have y0 : w5.cell? ⟨wr.heap.size, 0, none⟩ = some (.int .i64 xa) := by rw [cell_of_row _ _ _ _ _ _ HK3.out]; rfl
        have y1 : w5.cell? ⟨wr.heap.size, 1, none⟩ = some (wv xs1) := by rw [cell_of_row _ _ _ _ _ _ HK3.out]; rfl
        have y2 : w5.cell? ⟨wr.heap.size, 2, none⟩ = some (.int .i64 xi) := by rw [cell_of_row _ _ _ _ _ _ HK3.out]; rfl
        obtain ⟨a0, a1, a2⟩ := HCELL.out w5 HKG.out
        obtain ⟨b11, hb11⟩ : ∃ b11, b11 = (aheadR (prevAt rows i) (xa, xs1, xi) || badRow (ns, ts, rs) k (xa, xs1, xi)) := ⟨_, rfl⟩
        have HB11 := Lib.hid hb11
        obtain ⟨bw, hbw⟩ : ∃ bw, bw = wordOk m k xs1 := ⟨_, rfl⟩
        have HBWE := Lib.hid (show bw = wordOk m k xs1 from hbw)
        have HVA := Lib.hid (fun w' => valid18_any xs1 (m : Int) k w' hfit.2.1)
        rw [← hbw] at HVA
        clear hb11 hbw
        go_cut [85] (fun v85 wx => v85 = .bool b11 ∧ Hid (Below w5.heap.size w5 wx))
        case first =>
          cases i with
          | zero =>
            have HAH := Lib.hid (show aheadR (prevAt rows 0) (xa, xs1, xi) = false from rfl)
            by_cases hx0 : xi < 0
            · have hd0 : decide (xi < 0) = true := by simpa using hx0
              have HE := Lib.hid (show b11 = true by rw [HB11.out, HAH.out]; unfold badRow; simp [hx0])
              clear hx0
              refine Text.wp_grow [9, 32] [7, 8, 14, 19, 21, 27, 29] [] (by kernel_rfl) (by kernel_rfl) ?_
              refine Text.wpS_seg 9 _ _ _ _ (by decide) (fun Q' hQ' => ?_)
              simp only [List.take_succ_cons, List.take_zero]
              go_wp2_with fail
              try simp only [List.drop_succ_cons, List.drop_zero]
              refine Text.wpS_one (fun Q' hQ' => ?_)
              go_wp2_with fail
              refine ⟨Below.refl _ _, ?_⟩
              refine Text.wpS_seg 22 _ _ _ _ (by decide) (fun Q' hQ' => ?_)
              simp only [List.take_succ_cons, List.take_zero]
              go_wp2_with fail
              try simp only [List.drop_succ_cons, List.drop_zero]
              refine Text.wpS_one (fun Q' hQ' => ?_)
              go_wp2_with fail
              refine ⟨Below.refl _ _, ?_⟩
              refine Text.wpS_seg 2 _ _ _ _ (by decide) (fun Q' hQ' => ?_)
              simp only [List.take_succ_cons, List.take_zero]
              go_wp2_with fail
              refine ⟨by rfl, ?_, ?_⟩
              · exact ⟨Text.no_want rfl, Text.no_want rfl, fun _ => ⟨_, _, rfl, y2⟩, Text.no_want rfl, Text.no_want rfl, Text.no_want rfl, Text.no_want rfl, trivial⟩
              go_wp2_with fail
              go_meet
              case rel => exact ⟨by rw [HE.out], (Below.refl _ _).drew⟩
            · have hd0 : decide (xi < 0) = false := by simpa using hx0
              by_cases hxq : (q : Int) ≤ xi
              · have hd1 : decide ((q : Int) ≤ xi) = true := by simpa using hxq
                have HE := Lib.hid (show b11 = true by rw [HB11.out, HAH.out]; unfold badRow; rw [← HN.out.2.2.1, hd1]; simp)
                clear hx0 hxq
                refine Text.wp_grow [9, 32] [7, 8, 14, 19, 21, 27, 29] [] (by kernel_rfl) (by kernel_rfl) ?_
                refine Text.wpS_seg 9 _ _ _ _ (by decide) (fun Q' hQ' => ?_)
                simp only [List.take_succ_cons, List.take_zero]
                go_wp2_with fail
                try simp only [List.drop_succ_cons, List.drop_zero]
                refine Text.wpS_one (fun Q' hQ' => ?_)
                go_wp2_with fail
                refine ⟨Below.refl _ _, ?_⟩
                refine Text.wpS_seg 22 _ _ _ _ (by decide) (fun Q' hQ' => ?_)
                simp only [List.take_succ_cons, List.take_zero]
                go_wp2_with fail
                try simp only [List.drop_succ_cons, List.drop_zero]
                refine Text.wpS_one (fun Q' hQ' => ?_)
                go_wp2_with fail
                refine ⟨Below.refl _ _, ?_⟩
                refine Text.wpS_seg 2 _ _ _ _ (by decide) (fun Q' hQ' => ?_)
                simp only [List.take_succ_cons, List.take_zero]
                go_wp2_with fail
                refine ⟨by rfl, ?_, ?_⟩
                · exact ⟨Text.no_want rfl, Text.no_want rfl, fun _ => ⟨_, _, rfl, y2⟩, fun _ => ⟨_, _, rfl, y2⟩, fun _ => ⟨_, _, rfl, a2⟩, Text.no_want rfl, Text.no_want rfl, trivial⟩
                go_wp2_with fail
                go_meet
                case rel => exact ⟨by rw [HE.out], (Below.refl _ _).drew⟩
              · have hd1 : decide ((q : Int) ≤ xi) = false := by simpa using hxq
                have HE := Lib.hid (show b11 = !bw by rw [HB11.out, HAH.out, HBWE.out]; unfold badRow; rw [← HN.out.2.2.1, ← HN.out.2.1, hd0, hd1]; simp)
                clear hx0 hxq
                refine Text.wp_grow [9, 32] [7, 8, 14, 19, 21, 27, 29] [] (by kernel_rfl) (by kernel_rfl) ?_
                refine Text.wpS_seg 9 _ _ _ _ (by decide) (fun Q' hQ' => ?_)
                simp only [List.take_succ_cons, List.take_zero]
                go_wp2_with fail
                try simp only [List.drop_succ_cons, List.drop_zero]
                refine Text.wpS_one (fun Q' hQ' => ?_)
                go_wp2_with fail
                refine ⟨Below.refl _ _, ?_⟩
                refine Text.wpS_seg 22 _ _ _ _ (by decide) (fun Q' hQ' => ?_)
                simp only [List.take_succ_cons, List.take_zero]
                go_wp2_with fail
                try simp only [List.drop_succ_cons, List.drop_zero]
                refine Text.wpS_one (fun Q' hQ' => ?_)
                go_wp2_with fail
                refine (HVA.out _).mono ?_
                rintro e w7 ⟨rfl, rfl⟩
                go_wp2_with fail
                refine ⟨Below.refl _ _, ?_⟩
                refine Text.wpS_seg 2 _ _ _ _ (by decide) (fun Q' hQ' => ?_)
                simp only [List.take_succ_cons, List.take_zero]
                go_wp2_with fail
                refine ⟨by rfl, ?_, ?_⟩
                · exact ⟨Text.no_want rfl, Text.no_want rfl, fun _ => ⟨_, _, rfl, y2⟩, fun _ => ⟨_, _, rfl, y2⟩, fun _ => ⟨_, _, rfl, a2⟩, fun _ => ⟨_, _, rfl, y1⟩, fun _ => ⟨_, _, rfl, a1⟩, trivial⟩
                go_wp2_with fail
                go_meet
                case rel => exact ⟨by rw [HE.out], (Below.refl _ _).drew⟩
          | succ i' =>
            have hil : i' < rows.length := by have := HN.out; omega
            obtain ⟨b5, o5, he5, -, hb5, z0, z1, z2, hrep⟩ := (H4.out.below (HB3'.out.mono (Nat.le_succ _))).rowAt hil
            injection he5 with he5
            injection he5 with e1 e2
            subst e1 e2
            have HAE := Lib.hid (show aheadR (prevAt rows (i' + 1)) (xa, xs1, xi) = !ltB rows[i'] (xa, xs1, xi) by
              rw [← aheadR_lt]
              simp only [prevAt, List.getElem?_eq_getElem hil])
            have HBF := Lib.hid (fun w' => before_any rows[i'] (xa, xs1, xi) w' (eRow_open hrep).2.2.1 hfit.2.1)
            obtain ⟨y, hy⟩ : ∃ y, y = rows[i'] := ⟨_, rfl⟩
            rw [← hy] at z0 z1 z2 HAE HBF
            clear hy hil hrep
            obtain ⟨ya, ys1, yi⟩ := y
            simp only at z0 z1 z2
            obtain ⟨bl, hbl⟩ : ∃ bl, bl = ltB (ya, ys1, yi) (xa, xs1, xi) := ⟨_, rfl⟩
            rw [← hbl] at HAE HBF
            clear hbl
            have he7 : ((i' + 1 : Nat) : Int) - 1 = i' := by omega
            cases bl with
            | false =>
              have HE := Lib.hid (show b11 = true by rw [HB11.out, HAE.out]; rfl)
              refine Text.wp_grow [9, 32] [7, 8, 14, 19, 21, 27, 29] [] (by kernel_rfl) (by kernel_rfl) ?_
              refine Text.wpS_seg 9 _ _ _ _ (by decide) (fun Q' hQ' => ?_)
              simp only [List.take_succ_cons, List.take_zero]
              go_wp2_with fail
              try simp only [List.drop_succ_cons, List.drop_zero]
              refine Text.wpS_one (fun Q' hQ' => ?_)
              go_wp2_with fail
              refine (HBF.out _).mono ?_
              rintro e w6 ⟨rfl, hb6'⟩
              have y1' := (hb6'.cell (World.block_lt_of_cell? w5.drew _ y1)).trans y1
              have y2' := (hb6'.cell (World.block_lt_of_cell? w5.drew _ y2)).trans y2
              have a1' := (hb6'.cell (World.block_lt_of_cell? w5.drew _ a1)).trans a1
              have a2' := (hb6'.cell (World.block_lt_of_cell? w5.drew _ a2)).trans a2
              go_wp2_with fail
              refine ⟨hb6', ?_⟩
              refine Text.wpS_seg 22 _ _ _ _ (by decide) (fun Q' hQ' => ?_)
              simp only [List.take_succ_cons, List.take_zero]
              go_wp2_with fail
              try simp only [List.drop_succ_cons, List.drop_zero]
              refine Text.wpS_one (fun Q' hQ' => ?_)
              go_wp2_with fail
              refine ⟨hb6', ?_⟩
              refine Text.wpS_seg 2 _ _ _ _ (by decide) (fun Q' hQ' => ?_)
              simp only [List.take_succ_cons, List.take_zero]
              go_wp2_with fail
              refine ⟨by rfl, ?_, ?_⟩
              · exact ⟨fun _ => ⟨_, _, rfl, z0⟩, fun _ => ⟨_, _, rfl, y0⟩, Text.no_want rfl, Text.no_want rfl, Text.no_want rfl, Text.no_want rfl, Text.no_want rfl, trivial⟩
              go_wp2_with fail
              go_meet
              case rel => exact ⟨by rw [HE.out], (Below.refl _ _).drew.trans hb6'⟩
            | true =>
              have HAH := Lib.hid (show aheadR (prevAt rows (i' + 1)) (xa, xs1, xi) = false by rw [HAE.out]; rfl)
              by_cases hx0 : xi < 0
              · have hd0 : decide (xi < 0) = true := by simpa using hx0
                have HE := Lib.hid (show b11 = true by rw [HB11.out, HAH.out]; unfold badRow; simp [hx0])
                clear hx0
                refine Text.wp_grow [9, 32] [7, 8, 14, 19, 21, 27, 29] [] (by kernel_rfl) (by kernel_rfl) ?_
                refine Text.wpS_seg 9 _ _ _ _ (by decide) (fun Q' hQ' => ?_)
                simp only [List.take_succ_cons, List.take_zero]
                go_wp2_with fail
                try simp only [List.drop_succ_cons, List.drop_zero]
                refine Text.wpS_one (fun Q' hQ' => ?_)
                go_wp2_with fail
                refine (HBF.out _).mono ?_
                rintro e w6 ⟨rfl, hb6'⟩
                have y1' := (hb6'.cell (World.block_lt_of_cell? w5.drew _ y1)).trans y1
                have y2' := (hb6'.cell (World.block_lt_of_cell? w5.drew _ y2)).trans y2
                have a1' := (hb6'.cell (World.block_lt_of_cell? w5.drew _ a1)).trans a1
                have a2' := (hb6'.cell (World.block_lt_of_cell? w5.drew _ a2)).trans a2
                go_wp2_with fail
                refine ⟨hb6', ?_⟩
                refine Text.wpS_seg 22 _ _ _ _ (by decide) (fun Q' hQ' => ?_)
                simp only [List.take_succ_cons, List.take_zero]
                go_wp2_with fail
                try simp only [List.drop_succ_cons, List.drop_zero]
                refine Text.wpS_one (fun Q' hQ' => ?_)
                go_wp2_with fail
                refine ⟨hb6', ?_⟩
                refine Text.wpS_seg 2 _ _ _ _ (by decide) (fun Q' hQ' => ?_)
                simp only [List.take_succ_cons, List.take_zero]
                go_wp2_with fail
                refine ⟨by rfl, ?_, ?_⟩
                · exact ⟨fun _ => ⟨_, _, rfl, z0⟩, fun _ => ⟨_, _, rfl, y0⟩, fun _ => ⟨_, _, rfl, y2⟩, Text.no_want rfl, Text.no_want rfl, Text.no_want rfl, Text.no_want rfl, trivial⟩
                go_wp2_with fail
                go_meet
                case rel => exact ⟨by rw [HE.out], (Below.refl _ _).drew.trans hb6'⟩
              · have hd0 : decide (xi < 0) = false := by simpa using hx0
                by_cases hxq : (q : Int) ≤ xi
                · have hd1 : decide ((q : Int) ≤ xi) = true := by simpa using hxq
                  have HE := Lib.hid (show b11 = true by rw [HB11.out, HAH.out]; unfold badRow; rw [← HN.out.2.2.1, hd1]; simp)
                  clear hx0 hxq
                  refine Text.wp_grow [9, 32] [7, 8, 14, 19, 21, 27, 29] [] (by kernel_rfl) (by kernel_rfl) ?_
                  refine Text.wpS_seg 9 _ _ _ _ (by decide) (fun Q' hQ' => ?_)
                  simp only [List.take_succ_cons, List.take_zero]
                  go_wp2_with fail
                  try simp only [List.drop_succ_cons, List.drop_zero]
                  refine Text.wpS_one (fun Q' hQ' => ?_)
                  go_wp2_with fail
                  refine (HBF.out _).mono ?_
                  rintro e w6 ⟨rfl, hb6'⟩
                  have y1' := (hb6'.cell (World.block_lt_of_cell? w5.drew _ y1)).trans y1
                  have y2' := (hb6'.cell (World.block_lt_of_cell? w5.drew _ y2)).trans y2
                  have a1' := (hb6'.cell (World.block_lt_of_cell? w5.drew _ a1)).trans a1
                  have a2' := (hb6'.cell (World.block_lt_of_cell? w5.drew _ a2)).trans a2
                  go_wp2_with fail
                  refine ⟨hb6', ?_⟩
                  refine Text.wpS_seg 22 _ _ _ _ (by decide) (fun Q' hQ' => ?_)
                  simp only [List.take_succ_cons, List.take_zero]
                  go_wp2_with fail
                  try simp only [List.drop_succ_cons, List.drop_zero]
                  refine Text.wpS_one (fun Q' hQ' => ?_)
                  go_wp2_with fail
                  refine ⟨hb6', ?_⟩
                  refine Text.wpS_seg 2 _ _ _ _ (by decide) (fun Q' hQ' => ?_)
                  simp only [List.take_succ_cons, List.take_zero]
                  go_wp2_with fail
                  refine ⟨by rfl, ?_, ?_⟩
                  · exact ⟨fun _ => ⟨_, _, rfl, z0⟩, fun _ => ⟨_, _, rfl, y0⟩, fun _ => ⟨_, _, rfl, y2⟩, fun _ => ⟨_, _, rfl, y2⟩, fun _ => ⟨_, _, rfl, a2⟩, Text.no_want rfl, Text.no_want rfl, trivial⟩
                  go_wp2_with fail
                  go_meet
                  case rel => exact ⟨by rw [HE.out], (Below.refl _ _).drew.trans hb6'⟩
                · have hd1 : decide ((q : Int) ≤ xi) = false := by simpa using hxq
                  have HE := Lib.hid (show b11 = !bw by rw [HB11.out, HAH.out, HBWE.out]; unfold badRow; rw [← HN.out.2.2.1, ← HN.out.2.1, hd0, hd1]; simp)
                  clear hx0 hxq
                  refine Text.wp_grow [9, 32] [7, 8, 14, 19, 21, 27, 29] [] (by kernel_rfl) (by kernel_rfl) ?_
                  refine Text.wpS_seg 9 _ _ _ _ (by decide) (fun Q' hQ' => ?_)
                  simp only [List.take_succ_cons, List.take_zero]
                  go_wp2_with fail
                  try simp only [List.drop_succ_cons, List.drop_zero]
                  refine Text.wpS_one (fun Q' hQ' => ?_)
                  go_wp2_with fail
                  refine (HBF.out _).mono ?_
                  rintro e w6 ⟨rfl, hb6'⟩
                  have y1' := (hb6'.cell (World.block_lt_of_cell? w5.drew _ y1)).trans y1
                  have y2' := (hb6'.cell (World.block_lt_of_cell? w5.drew _ y2)).trans y2
                  have a1' := (hb6'.cell (World.block_lt_of_cell? w5.drew _ a1)).trans a1
                  have a2' := (hb6'.cell (World.block_lt_of_cell? w5.drew _ a2)).trans a2
                  go_wp2_with fail
                  refine ⟨hb6', ?_⟩
                  refine Text.wpS_seg 22 _ _ _ _ (by decide) (fun Q' hQ' => ?_)
                  simp only [List.take_succ_cons, List.take_zero]
                  go_wp2_with fail
                  try simp only [List.drop_succ_cons, List.drop_zero]
                  refine Text.wpS_one (fun Q' hQ' => ?_)
                  go_wp2_with fail
                  refine (HVA.out _).mono ?_
                  rintro e w7 ⟨rfl, rfl⟩
                  go_wp2_with fail
                  refine ⟨hb6', ?_⟩
                  refine Text.wpS_seg 2 _ _ _ _ (by decide) (fun Q' hQ' => ?_)
                  simp only [List.take_succ_cons, List.take_zero]
                  go_wp2_with fail
                  refine ⟨by rfl, ?_, ?_⟩
                  · exact ⟨fun _ => ⟨_, _, rfl, z0⟩, fun _ => ⟨_, _, rfl, y0⟩, fun _ => ⟨_, _, rfl, y2⟩, fun _ => ⟨_, _, rfl, y2⟩, fun _ => ⟨_, _, rfl, a2⟩, fun _ => ⟨_, _, rfl, y1⟩, fun _ => ⟨_, _, rfl, a1⟩, trivial⟩
                  go_wp2_with fail
                  go_meet
                  case rel => exact ⟨by rw [HE.out], (Below.refl _ _).drew.trans hb6'⟩
        case rest =>
          obtain ⟨rfl, HBX6⟩ := hcut
          generalize wc = wx at *
          have HB5 := Lib.hid (show Below (w.heap.size + 1) w1 wx from HB3'.out.trans (HBX6.out.mono (by have := HZ3.out; have := HSR.out; omega)))
          have HB45 := Lib.hid (show Below w4.heap.size w4 wx from HB43.out.trans (HBX6.out.mono HB43.out.size))
          have HK5 := Lib.hid ((HBX6.out.block wr.heap.size (by have := HZ3.out; omega)).trans HK3.out)
          have HKG5 := Lib.hid ((HB5.out.block w.heap.size (by omega)).trans HK.out)
          have HS5 := Lib.hid (show wr.heap.size + 1 ≤ wx.heap.size by have := HBX6.out.size; have := HZ3.out; omega)
          clear a0 a1 a2 y0 y1 y2 HK3 HB3' HB43 HKG HBX6 HVA HBWE HKR
          obtain ⟨wl, hwl⟩ : ∃ wl, wl = (well && !b11) := ⟨_, rfl⟩
          have HWL := Lib.hid hwl
          clear hwl
          go_upto_if 85 with fail
          go_cut [11] (fun v11 wy => v11 = .bool wl ∧ wy = wx)
          case first =>
            cases b11 with
            | true =>
              have HE := Lib.hid (show wl = false by rw [HWL.out, Bool.not_true, Bool.and_false])
              go_wp2_with fail
              go_meet
              case rel => exact ⟨by rw [HE.out], rfl⟩
            | false =>
              have HE := Lib.hid (show wl = well by rw [HWL.out, Bool.not_false, Bool.and_true])
              go_wp2_with fail
              go_meet
              case rel => exact ⟨by rw [HE.out], rfl⟩
          case rest =>
          obtain ⟨rfl, hwc⟩ := hcut
          subst hwc
          generalize wc = wx at *
          go_upto_region 13 with fail
          obtain ⟨b13, hb13⟩ : ∃ b13, b13 = (wl && !decide (leftAt (ns, ts, rs) xi = xa)) := ⟨_, rfl⟩
          have HB13 := Lib.hid hb13
          clear hb13
          go_cut [98] (fun v98 wy => v98 = .bool b13 ∧ Hid (Below wx.heap.size wx wy))
          case first =>
            cases wl with
            | false =>
              have HE := Lib.hid (show b13 = false by rw [HB13.out, Bool.false_and])
              refine Text.wp_text [] (by kernel_rfl) (by kernel_rfl) (fun Q' hQ' => ?_)
              go_wp2_with fail
              refine ⟨by rfl, ?_⟩
              go_wp2_with fail
              go_meet
              case rel => exact ⟨by rw [HE.out], (Below.refl _ _).drew⟩
            | true =>
              obtain ⟨a0, a1, a2⟩ := HCELL.out wx HKG5.out
              have y0 : wx.cell? ⟨wr.heap.size, 0, none⟩ = some (.int .i64 xa) := by rw [cell_of_row _ _ _ _ _ _ HK5.out]; rfl
              have y2 : wx.cell? ⟨wr.heap.size, 2, none⟩ = some (.int .i64 xi) := by rw [cell_of_row _ _ _ _ _ _ HK5.out]; rfl
              have hbad : badRow (ns, ts, rs) k (xa, xs1, xi) = false := by
                have h1 := HWL.out
                rw [HB11.out] at h1
                cases hb : badRow (ns, ts, rs) k (xa, xs1, xi) with
                | false => rfl
                | true => rw [hb] at h1; simp at h1
              unfold badRow at hbad
              rw [Bool.or_eq_false_iff, Bool.or_eq_false_iff] at hbad
              have hx0 := of_decide_eq_false hbad.1.1
              have hxq := of_decide_eq_false hbad.1.2
              simp only at hx0 hxq
              obtain ⟨j, rfl⟩ : ∃ j : Nat, xi = (j : Int) := ⟨xi.toNat, by omega⟩
              have hjl : j < rs.length := by omega
              have hjq : j < q := by have := HN.out; omega
              obtain ⟨b2, o2, cs, rfl, -, -, hrep, hcell⟩ := ((HGR.out wx HB5.out (by have := HS5.out; have := HSR.out; omega)).rules).get (k := j) hjl (by decide)
              obtain ⟨v, rfl, -, -, -⟩ := eRule_open hrep
              have hc0 := hcell 0 _ rfl
              simp only [show eRule.size = 2 from rfl, Nat.add_zero] at hc0
              have HLF := Lib.hid (show leftAt (ns, ts, rs) (j : Int) = rs[j].1 by unfold leftAt; rw [Int.toNat_natCast, List.getD_eq_getElem?_getD, List.getElem?_eq_getElem hjl]; rfl)
              obtain ⟨lf, hlf⟩ : ∃ lf, lf = rs[j].1 := ⟨_, rfl⟩
              rw [← hlf] at hc0 HLF
              have HE := Lib.hid (show b13 = !decide (lf = xa) by rw [HB13.out, HLF.out, Bool.true_and])
              clear hcell hrep hlf hjl hx0 hxq hbad a0 a1
              by_cases hll : lf = xa
              · have hd2 : (lf != xa) = false := by simpa using hll
                have HE2 := Lib.hid (show b13 = false by rw [HE.out]; simpa using hll)
                clear hll
                refine Text.wp_text [] (by kernel_rfl) (by kernel_rfl) (fun Q' hQ' => ?_)
                go_wp2_with fail
                refine ⟨by rfl, ?_⟩
                go_wp2_with fail
                go_meet
                case rel => exact ⟨by rw [HE2.out], (Below.refl _ _).drew⟩
              · have hd2 : (lf != xa) = true := by simpa using hll
                have HE2 := Lib.hid (show b13 = true by rw [HE.out]; simpa using hll)
                clear hll
                refine Text.wp_text [] (by kernel_rfl) (by kernel_rfl) (fun Q' hQ' => ?_)
                go_wp2_with fail
                refine ⟨by rfl, ?_⟩
                go_wp2_with fail
                go_meet
                case rel => exact ⟨by rw [HE2.out], (Below.refl _ _).drew⟩
          case rest =>
          obtain ⟨rfl, HB9⟩ := hcut
          generalize wc = wy at *
          have HB7 := Lib.hid (show Below (w.heap.size + 1) w1 wy from HB5.out.trans (HB9.out.mono (by have := HS5.out; have := HSR.out; omega)))
          have HB47 := Lib.hid (show Below w4.heap.size w4 wy from HB45.out.trans (HB9.out.mono HB45.out.size))
          have HK7 := Lib.hid ((HB9.out.block wr.heap.size (by have := HS5.out; omega)).trans HK5.out)
          have HS7 := Lib.hid (show wr.heap.size + 1 ≤ wy.heap.size from Nat.le_trans HS5.out HB9.out.size)
          clear HB5 HB45 HK5 HKG5 HS5 HB9
          obtain ⟨we, hwe⟩ : ∃ we, we = (wl && !b13) := ⟨_, rfl⟩
          have HWE := Lib.hid hwe
          have HI3 := Lib.hid (show isW (ns, ts, rs) k rows = (we && isFrom (ns, ts, rs) k (prevAt rows (i + 1)) (rows.drop (i + 1))) by
            rw [HI2.out, hwe, HWL.out, HB13.out, HWL.out, HB11.out, isRow_bad]
            cases well <;> cases aheadR (prevAt rows i) (xa, xs1, xi) <;> cases badRow (ns, ts, rs) k (xa, xs1, xi) <;> cases decide (leftAt (ns, ts, rs) (xa, xs1, xi).2.2 = (xa, xs1, xi).1) <;> rfl)
          clear hwe HI2
          go_upto_if 98 with fail
          go_cut [11] (fun v11 wz => v11 = .bool we ∧ wz = wy)
          case first =>
            cases b13 with
            | true =>
              have HE := Lib.hid (show we = false by rw [HWE.out, Bool.not_true, Bool.and_false])
              go_wp2_with fail
              go_meet
              case rel => exact ⟨by rw [HE.out], rfl⟩
            | false =>
              have HE := Lib.hid (show we = wl by rw [HWE.out, Bool.not_false, Bool.and_true])
              go_wp2_with fail
              go_meet
              case rel => exact ⟨by rw [HE.out], rfl⟩
          case rest =>
          obtain ⟨rfl, hwc⟩ := hcut
          subst hwc
          generalize wc = wy at *
          clear HB11 HWL HB13 HWE
          go_upto_region 15 with fail
          obtain ⟨b15, hb15⟩ : ∃ b15, b15 = (alike && !decide (some (xa, xs1, xi) = others[i]?)) := ⟨_, rfl⟩
          have HB15 := Lib.hid hb15
          clear hb15
          have y0 : wy.cell? ⟨wr.heap.size, 0, none⟩ = some (.int .i64 xa) := by rw [cell_of_row _ _ _ _ _ _ HK7.out]; rfl
          have y1 : wy.cell? ⟨wr.heap.size, 1, none⟩ = some (wv xs1) := by rw [cell_of_row _ _ _ _ _ _ HK7.out]; rfl
          have y2 : wy.cell? ⟨wr.heap.size, 2, none⟩ = some (.int .i64 xi) := by rw [cell_of_row _ _ _ _ _ _ HK7.out]; rfl
          go_cut [107] (fun v107 wz => v107 = .bool b15 ∧ Hid (Below wy.heap.size wy wz))
          case first =>
            cases alike with
            | false =>
              have HE := Lib.hid (show b15 = false by rw [HB15.out, Bool.false_and])
              refine Text.wp_text [7] (by kernel_rfl) (by kernel_rfl) (fun Q' hQ' => ?_)
              go_wp2_with fail
              refine ⟨by rfl, ?_⟩
              go_wp2_with fail
              go_meet
              case rel => exact ⟨by rw [HE.out], (Below.refl _ _).drew⟩
            | true =>
              have hno := HAL.out rfl
              have hio : i < others.length := by have := HN.out; omega
              have hion : i < no := by omega
              obtain ⟨b3, o3, rfl, -, hb3, z0, z1, z2, -⟩ := (H5.out.below (HB7.out.mono (Nat.le_succ _))).rowAt hio
              have HOE := Lib.hid (List.getElem?_eq_getElem hio)
              obtain ⟨y, hy⟩ : ∃ y, y = others[i] := ⟨_, rfl⟩
              rw [← hy] at z0 z1 z2 HOE
              clear hy hio hno
              obtain ⟨ya, ys1, yi⟩ := y
              simp only at z0 z1 z2
              have HE := Lib.hid (show b15 = !decide ((xa, xs1, xi) = (ya, ys1, yi)) by rw [HB15.out, HOE.out, Bool.true_and]; simp)
              refine Text.wp_text [7] (by kernel_rfl) (by kernel_rfl) (fun Q' hQ' => ?_)
              go_wp2_with fail
              · refine ⟨by rfl, ?_⟩
                rename_i g1 g2 g3
                subst g1 g2 g3
                have HE2 := Lib.hid (show b15 = false by rw [HE.out]; simp)
                go_wp2_with fail
                go_meet
                case rel => exact ⟨by rw [HE2.out], (Below.refl _ _).drew⟩
              all_goals
                refine ⟨by rfl, ?_⟩
                have HE2 := Lib.hid (show b15 = true by
                  rw [HE.out, Bool.not_eq_true', decide_eq_false_iff_not]
                  intro e2
                  injection e2 with e2 e3
                  injection e3 with e3 e4
                  contradiction)
                go_wp2_with fail
                go_meet
                case rel => exact ⟨by rw [HE2.out], (Below.refl _ _).drew⟩
          case rest =>
          obtain ⟨rfl, HB9⟩ := hcut
          generalize wc = wz at *
          have HB8 := Lib.hid (show Below (w.heap.size + 1) w1 wz from HB7.out.trans (HB9.out.mono (by have := HS7.out; have := HSR.out; omega)))
          have HB48 := Lib.hid (show Below w4.heap.size w4 wz from HB47.out.trans (HB9.out.mono HB47.out.size))
          have HK8 := Lib.hid ((HB9.out.block wr.heap.size (by have := HS7.out; omega)).trans HK7.out)
          have HS8 := Lib.hid (show wr.heap.size + 1 ≤ wz.heap.size from Nat.le_trans HS7.out HB9.out.size)
          clear y0 y1 y2 HB7 HB47 HK7 HS7 HB9
          obtain ⟨al2, hal2⟩ : ∃ al2, al2 = (alike && !b15) := ⟨_, rfl⟩
          have HA2 := Lib.hid hal2
          have HAL2 := Lib.hid (show al2 = true → nr = no by
            intro h
            refine HAL.out ?_
            rw [hal2] at h
            exact (Bool.and_eq_true _ _ ▸ h).1)
          have HEQ2 := Lib.hid (show decide (rows = others) = (al2 && decide (rows.drop (i + 1) = others.drop (i + 1))) by
            rw [HEQ.out, hal2, HB15.out]
            cases ha : alike with
            | false => rfl
            | true =>
              have hno := HAL.out ha
              have hio : i < others.length := by have := HN.out; omega
              rw [HDR.out, List.drop_eq_getElem_cons hio, List.getElem?_eq_getElem hio]
              exact alike_step true (xa, xs1, xi) others[i] (rows.drop (i + 1)) (others.drop (i + 1)))
          clear hal2 HAL HEQ HDR
          go_upto_if 107 with fail
          go_cut [12] (fun v12 wy => v12 = .bool al2 ∧ wy = wz)
          case first =>
            cases b15 with
            | true =>
              have HE := Lib.hid (show al2 = false by rw [HA2.out, Bool.not_true, Bool.and_false])
              go_wp2_with fail
              go_meet
              case rel => exact ⟨by rw [HE.out], rfl⟩
            | false =>
              have HE := Lib.hid (show al2 = alike by rw [HA2.out, Bool.not_false, Bool.and_true])
              go_wp2_with fail
              go_meet
              case rel => exact ⟨by rw [HE.out], rfl⟩
          case rest =>
          obtain ⟨rfl, hwc⟩ := hcut
          subst hwc
          generalize wc = wz at *
          clear HA2 HB15
          have y0 : wz.cell? ⟨wr.heap.size, 0, none⟩ = some (.int .i64 xa) := by rw [cell_of_row _ _ _ _ _ _ HK8.out]; rfl
          have y1 : wz.cell? ⟨wr.heap.size, 1, none⟩ = some (wv xs1) := by rw [cell_of_row _ _ _ _ _ _ HK8.out]; rfl
          have y2 : wz.cell? ⟨wr.heap.size, 2, none⟩ = some (.int .i64 xi) := by rw [cell_of_row _ _ _ _ _ _ HK8.out]; rfl
          by_cases hxl : xa = left
          · have hq1 : (xa == left) = true := by simpa using hxl
            have HTK1 := Lib.hid (show ofRows left (rows.take (i + 1)) = ofRows left (rows.take i) ++ [(xa, xs1, xi)] by rw [HTK.out, if_pos hxl])
            obtain ⟨at_, hat⟩ : ∃ at_, at_ = (ofRows left (rows.take i)).length := ⟨_, rfl⟩
            have HAT1 := Lib.hid (show (ofRows left (rows.take (i + 1))).length = at_ + 1 by rw [HTK1.out, hat, List.length_append]; rfl)
            have hat2 : (ofRows left rows)[at_]? = some (xa, xs1, xi) := by
              rw [ofRows_take left rows (i + 1), HTK1.out, hat, List.append_assoc, List.getElem?_append_right (Nat.le_refl _)]
              simp
            have hatl : at_ < (ofRows left rows).length := by
              rcases Nat.lt_or_ge at_ (ofRows left rows).length with h | h
              · exact h
              · rw [List.getElem?_eq_none h] at hat2; cases hat2
            have hatn : at_ < nf := by rw [HNF.out]; exact hatl
            rw [← hat]
            obtain ⟨b6, o6, he6, -, hb6, z0, z1, z2, -⟩ := (show SlR eRow wz w4.heap.size (.slice A9 nf c9) (ofRows left rows) from HOF.out.below HB48.out).rowAt hatl
            rw [List.getElem?_eq_getElem hatl] at hat2
            injection hat2 with hat2
            rw [hat2] at z0 z1 z2
            subst he6
            simp only at z0 z1 z2
            clear hat2 hatl hat
            subst hxl
            go_upto_region 18 with fail
            refine Text.wp_text [10] (by kernel_rfl) (by kernel_rfl) (fun Q' hQ' => ?_)
            go_wp2_with fail
            refine ⟨by rfl, ?_⟩
            go_wp2_with fail
            go_roundg (gk - 1)
            case measure => omega
            case rel => exact ⟨i + 1, we, al2, by omega, by omega, by go_num, rfl, rfl, by rw [HAT1.out]; go_num, HB8.out.drew, HB48.out.drew, HI3.out, HAL2.out, HEQ2.out⟩
          · have hq1 : (xa == left) = false := by simpa using hxl
            have HTK1 := Lib.hid (show ofRows left (rows.take (i + 1)) = ofRows left (rows.take i) by rw [HTK.out, if_neg hxl, List.append_nil])
            clear hxl
            go_wp2_with fail
            go_roundg (gk - 1)
            case measure => omega
            case rel => exact ⟨i + 1, we, al2, by omega, by omega, by go_num, rfl, rfl, by rw [HTK1.out], HB8.out, HB48.out, HI3.out, HAL2.out, HEQ2.out⟩
      · have hin : i = nr := by omega
        subst hin
        obtain ⟨a0, a1, a2⟩ := HCELL.out wr HKR.out
        have HW := Lib.hid (show isW (ns, ts, rs) k rows = well by
          rw [HI.out, List.drop_eq_nil_of_le (by have := HN.out; omega)]
          cases well <;> rfl)
        have HQ := Lib.hid (show decide (rows = others) = alike by
          rw [HEQ.out, List.drop_eq_nil_of_le (by have := HN.out; omega)]
          cases alike with
          | false => rfl
          | true =>
            have := HAL.out rfl
            rw [List.drop_eq_nil_of_le (by have := HN.out; omega)]
            rfl)
        have HAT := Lib.hid (show (ofRows left (rows.take i)).length = nf by rw [List.take_of_length_le (by have := HN.out; omega)]; exact HNF.out.symm)
        rw [HAT.out]
        have H4R := Lib.hid (H4.out.fut (B' := wr.heap.size) HB.out (Nat.le_succ _) (by have := HSR.out; omega))
        have HIS := Lib.hid (isTab_any Ar i cr k rows wr (HGR.out wr HB.out HSR) H4R.out (by omega))
        rw [HW.out] at HIS
        clear HI HEQ HAL
        go_wp2_with fail
        refine HIS.out.mono ?_
        rintro e w5 ⟨rfl, hb5⟩
        have HB5 := Lib.hid (HB.out.trans (hb5.mono HSR))
        have HS5 := Lib.hid (Nat.le_trans HSR hb5.size)
        have HSA := Lib.hid (same_rows Ar Ao cr co rows others w5 (by rw [← HN.out.2.2.2.1]; exact H4.out.fut HB5.out (Nat.le_succ _) (by have := HS5.out; omega)) (by rw [← HN.out.2.2.2.2]; exact H5.out.fut HB5.out (Nat.le_succ _) (by have := HS5.out; omega)))
        rw [← HN.out.2.2.2.1, ← HN.out.2.2.2.2, HQ.out] at HSA
        clear hb5 a0 a1 a2
        have q1 : (well == well) = true := by cases well <;> rfl
        have q2 : (alike == alike) = true := by cases alike <;> rfl
        go_wp2_with fail
        refine HSA.out.mono ?_
        rintro e w6 ⟨rfl, hb6⟩
        have HB6 := Lib.hid (HB5.out.trans (hb6.mono HS5.out))
        have HS6 := Lib.hid (Nat.le_trans HS5.out hb6.size)
        clear hb6
        go_wp2_with fail
        refine (awake_any w6).mono ?_
        rintro e w7 ⟨rfl, hb7⟩
        have HB7 := Lib.hid (HB6.out.trans (hb7.mono HS6.out))
        clear hb7
        go_wp2_with fail
        go_ret
        exact ⟨rfl, HBX.out.trans (HB7.out.mono (Nat.le_succ _))⟩
end Go.Proofs.YtkedmiememnmjaaGreat
