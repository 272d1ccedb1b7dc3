/- Texts of this proof joined: NamesLaw, TabOpen. -/
import Derived.Test.YtkedmiememnmjaaGreatTN29
import Derived.Test.YtkedmiememnmjaaGreatTN32
import Derived.Test.YtkedmiememnmjaaGreatRows
import Derived.Test.YtkedmiememnmjaaGreatTN01
import Derived.Test.YtkedmiememnmjaaGreatTN26
import Derived.Test.YtkedmiememnmjaaGreatTN06
import Derived.Carry
namespace Go.Proofs.YtkedmiememnmjaaGreat
open Go.RowKit

theorem check_eq (g : Gram) : check15 g = checkN g := rfl
set_option maxRecDepth 100000 in
set_option maxHeartbeats 40000000 in
theorem tableNames_any {A1 A2 A3 : Option Addr} {n m q c1 c2 c3 : Nat} {ns ts : List ByteArray} {rs : List (Int × List Int)} (k : Int) (w : World)
    (h1 : SlR eStr w w.heap.size (.slice A1 n c1) ns) (h2 : SlR eStr w w.heap.size (.slice A2 m c2) ts) (h3 : SlR eRule w w.heap.size (.slice A3 q c3) rs) :
    Calls Tryz.prog 3 #[gramV A1 A2 A3 n m q c1 c2 c3, .int .i64 k] w fun e w' => e = .returned (.bool true) ∧ Below w.heap.size w w' := by
  have hbx := (Below.refl w.heap.size w).alloc (Nat.le_refl _) (.cells #[.slice A1 n c1, .slice A2 m c2, .slice A3 q c3] 25)
  have HK := Lib.hid (Go.heap_alloc_new w (.cells #[.slice A1 n c1, .slice A2 m c2, .slice A3 q c3] 25))
  have HZ := Lib.hid (World.size_alloc w (.cells #[.slice A1 n c1, .slice A2 m c2, .slice A3 q c3] 25))
  have HBX := Lib.hid hbx
  have hl1 := h1.n_le
  have hl2 := h2.n_le
  have hl3 := h3.n_le
  have HN := Lib.hid (show n = ns.length ∧ m = ts.length ∧ q = rs.length from ⟨h1.n_eq, h2.n_eq, h3.n_eq⟩)
  have H1 := Lib.hid (h1.fut (B' := w.heap.size + 1) hbx (Nat.le_refl _) (by omega))
  have H2 := Lib.hid (h2.fut (B' := w.heap.size + 1) hbx (Nat.le_refl _) (by omega))
  have H3 := Lib.hid (h3.fut (B' := w.heap.size + 1) hbx (Nat.le_refl _) (by omega))
  have HCELL : Hid (∀ (w2 : World), w2.heap[w.heap.size]? = some (.cells #[.slice A1 n c1, .slice A2 m c2, .slice A3 q c3] 25 (0, 0)) → w2.cell? ⟨w.heap.size, 0, none⟩ = some (.slice A1 n c1) ∧ w2.cell? ⟨w.heap.size, 1, none⟩ = some (.slice A2 m c2) ∧ w2.cell? ⟨w.heap.size, 2, none⟩ = some (.slice A3 q c3)) := fun w2 hk => ⟨by rw [cell_of_row _ _ _ _ _ _ hk]; rfl, by rw [cell_of_row _ _ _ _ _ _ hk]; rfl, by rw [cell_of_row _ _ _ _ _ _ hk]; rfl⟩
  clear h1 h2 h3 hbx
  go_enter Tryz.func3, Tryz.ntmps3
  go_wp2_with fail
  generalize w.alloc (.cells #[.slice A1 n c1, .slice A2 m c2, .slice A3 q c3] 25) = w1 at *
  refine (few14_any _ _ _ ns ts rs w1 (by rw [HZ.out]; exact H1.out) (by rw [HZ.out]; exact H2.out) (by rw [HZ.out]; exact H3.out)).mono ?_
  rintro e w2 ⟨z, rfl, hz, hb2⟩
  have HB2 := Lib.hid (show Below (w.heap.size + 1) w1 w2 from hb2.mono (Nat.le_of_eq HZ.out.symm))
  have HS2 := Lib.hid (show w.heap.size + 1 ≤ w2.heap.size by have := hb2.size; have := HZ.out; omega)
  clear hb2
  have HK2 := Lib.hid ((HB2.out.block w.heap.size (by omega)).trans HK.out)
  obtain ⟨a0, a1, a2⟩ := HCELL.out w2 HK2.out
  rcases hz with rfl | ⟨rfl, hz1, hz2, hz3⟩
  · go_wp2_with fail
    refine (awake_any w2).mono ?_
    rintro e w3 ⟨rfl, hb3⟩
    go_wp2_with fail
    go_ret
    exact ⟨rfl, HBX.out.trans ((HB2.out.trans (hb3.mono HS2.out)).mono (Nat.le_succ _))⟩
  · by_cases hm3 : 3 < m
    · have d1 : decide ((3 : Int) < (m : Int)) = true := by simp; omega
      go_wp2_with fail
      refine (awake_any w2).mono ?_
      rintro e w3 ⟨rfl, hb3⟩
      go_wp2_with fail
      go_ret
      exact ⟨rfl, HBX.out.trans ((HB2.out.trans (hb3.mono HS2.out)).mono (Nat.le_succ _))⟩
    have d1 : decide ((3 : Int) < (m : Int)) = false := by simp; omega
    have hn12 : n ≤ 12 := by have := HN.out; omega
    have hm12 : m ≤ 3 := by omega
    have hq40 : q ≤ 40 := by have := HN.out; omega
    have HGR := Lib.hid (show ∀ w' : World, Below (w.heap.size + 1) w1 w' → w.heap.size + 1 ≤ w'.heap.size → GramR w' w'.heap.size A1 A2 A3 n m q c1 c2 c3 (ns, ts, rs) from fun w' hb hs => ⟨H1.out.fut hb (Nat.le_refl _) hs, H2.out.fut hb (Nat.le_refl _) hs, H3.out.fut hb (Nat.le_refl _) hs, by omega⟩)
    have HMF := Lib.hid (show ((ns, ts, rs) : Gram).2.1.length ≤ 3 by have := HN.out; show ts.length ≤ 3; omega)
    clear hz1 hz2 hz3
    go_wp2_with fail
    refine (make_any k w2 (HGR.out w2 HB2.out HS2.out)).mono ?_
    rintro e w3 ⟨hb3, hbad, hgood⟩
    have HB3 := Lib.hid (HB2.out.trans (hb3.mono HS2.out))
    have HS3 := Lib.hid (Nat.le_trans HS2.out hb3.size)
    have HAW := Lib.hid (fun (w' : World) (h : Below (w.heap.size + 1) w1 w') (hs : w.heap.size + 1 ≤ w'.heap.size) => (awake_any w').mono (fun e w'' (hx : e = .returned (.bool true) ∧ Below w'.heap.size w' w'') => (⟨hx.1, h.trans (hx.2.mono hs)⟩ : e = .returned (.bool true) ∧ Below (w.heap.size + 1) w1 w'')))
    have HCH := Lib.hid (fun (w' : World) (h : Below (w.heap.size + 1) w1 w') (hs : w.heap.size + 1 ≤ w'.heap.size) => check15_any w' (HGR.out w' h hs))
    clear hb3 a0 a1 a2
    obtain ⟨a0, a1, a2⟩ := HCELL.out w3 ((HB3.out.block w.heap.size (by omega)).trans HK.out)
    by_cases hk : BadK k (ns, ts, rs)
    · have he := hbad hk
      subst he
      clear hbad hgood
      by_cases hk1 : k < 1
      · have d2 : decide (k < 1) = true := by simpa using hk1
        clear hk
        go_wp2_with fail
        refine (HAW.out w3 HB3.out HS3.out).mono ?_
        rintro e w4 ⟨rfl, hb4⟩
        go_wp2_with fail
        go_ret
        exact ⟨rfl, HBX.out.trans (hb4.mono (Nat.le_succ _))⟩
      have d2 : decide (k < 1) = false := by simpa using hk1
      by_cases hk4 : 4 < k
      · have d3 : decide (4 < k) = true := by simpa using hk4
        clear hk
        go_wp2_with fail
        refine (HAW.out w3 HB3.out HS3.out).mono ?_
        rintro e w4 ⟨rfl, hb4⟩
        go_wp2_with fail
        go_ret
        exact ⟨rfl, HBX.out.trans (hb4.mono (Nat.le_succ _))⟩
      have d3 : decide (4 < k) = false := by simpa using hk4
      have hc0 : checkN (ns, ts, rs) ≠ 0 := by
        unfold BadK at hk
        rcases hk with h | h | h
        · exact absurd h hk1
        · exact absurd h hk4
        · exact h
      obtain ⟨ck, hck⟩ : ∃ ck, ck = check15 (ns, ts, rs) := ⟨_, rfl⟩
      have d4 : (ck != 0) = true := by rw [bne_iff_ne, hck, check_eq]; exact hc0
      rw [← hck] at HCH
      clear hk hc0 hck hk1 hk4
      go_wp2_with fail
      refine (HCH.out w3 HB3.out HS3.out).mono ?_
      rintro e w4 ⟨rfl, hb4⟩
      have HB4 := Lib.hid (HB3.out.trans (hb4.mono HS3.out))
      have HS4 := Lib.hid (Nat.le_trans HS3.out hb4.size)
      clear hb4
      go_wp2_with fail
      refine (HAW.out w4 HB4.out HS4.out).mono ?_
      rintro e w5 ⟨rfl, hb5⟩
      go_wp2_with fail
      go_ret
      exact ⟨rfl, HBX.out.trans (hb5.mono (Nat.le_succ _))⟩
    obtain ⟨o, ho, hout⟩ := hgood hk
    have d4 : check15 (ns, ts, rs) = 0 := by
      rw [check_eq]
      unfold BadK at hk
      rcases Decidable.em (checkN (ns, ts, rs) = 0) with e | e
      · exact e
      · exact absurd (.inr (.inr e)) hk
    rw [d4] at HCH
    obtain ⟨kk, rfl, hlg⟩ := lawG_of hk HMF.out
    obtain ⟨s, rfl, hM⟩ := hlg.sets ho
    have hkk1 := hlg.k1
    have hkk4 := hlg.k4
    have d2 : decide ((kk : Int) < 1) = false := by rw [decide_eq_false_iff_not]; omega
    have d3 : decide ((4 : Int) < (kk : Int)) = false := by rw [decide_eq_false_iff_not]; omega
    have HLG := Lib.hid hlg
    have HM := Lib.hid hM
    have HCO := Lib.hid (clash_ok hlg hM)
    have HALL := Lib.hid (fun (w' : World) (h : Below (w.heap.size + 1) w1 w') (hs : w.heap.size + 1 ≤ w'.heap.size) => all23_any kk w' (HGR.out w' h hs) hlg)
    obtain ⟨words, hwords⟩ : ∃ words, words = wordsW m kk := ⟨_, rfl⟩
    have HWW := Lib.hid hwords
    have HWL := Lib.hid (show words.length ≤ 121 by rw [hwords]; exact words_len hm12 hkk4)
    clear hbad hgood ho hk d4 hlg hM hwords
    rcases hout with ⟨hne, v, rfl, hown⟩ | ⟨hnil, v, rows, rfl, hperm, hsort, hown⟩
    · obtain ⟨A9, c9, rfl, h91, h92⟩ := own_form hown
      have HOK := Lib.hid (show okB rs kk n words = false by
        rw [← Bool.not_eq_true, HWW.out]
        intro h
        refine hne ?_
        have h2 := HCO.out
        simp only at h2
        rw [← HN.out.1, ← HN.out.2.1] at h2
        exact h2.2 h)
      obtain ⟨nc, hnc⟩ : ∃ nc, nc = (clashW ((ns, ts, rs) : Gram).2.2 n s).length := ⟨_, rfl⟩
      rw [← hnc] at h91 ⊢
      have hnc0 : 0 < nc := by rw [hnc]; exact List.length_pos_iff.2 hne
      have dz1 : decide ((0 : Int) < (nc : Int)) = true := by rw [decide_eq_true_eq]; omega
      have dz2 : decide (0 < nc) = true := by rw [decide_eq_true_eq]; omega
      clear hown hne hnc
      go_wp2_with fail
      refine (HCH.out w3 HB3.out HS3.out).mono ?_
      rintro e w4 ⟨rfl, hb4⟩
      have HB4 := Lib.hid (HB3.out.trans (hb4.mono HS3.out))
      have HS4 := Lib.hid (Nat.le_trans HS3.out hb4.size)
      clear hb4 a0 a1 a2
      obtain ⟨a0, a1, a2⟩ := HCELL.out w4 ((HB4.out.block w.heap.size (by omega)).trans HK.out)
      go_wp2_with fail
      refine (HALL.out w4 HB4.out HS4.out).mono ?_
      rintro e w5 ⟨G, rfl, hG, hb5⟩
      have HB5 := Lib.hid (HB4.out.trans (hb5.mono HS4.out))
      have HS5 := Lib.hid (Nat.le_trans HS4.out hb5.size)
      rw [← HWW.out]
      simp only
      rw [HOK.out]
      clear hG hb5
      go_wp2_with fail
      refine (HAW.out w5 HB5.out HS5.out).mono ?_
      rintro e w6 ⟨rfl, hb6⟩
      go_wp2_with fail
      go_ret
      exact ⟨rfl, HBX.out.trans (hb6.mono (Nat.le_succ _))⟩
    · have hnil2 : clashW rs ns.length s = [] := by
        rw [← HN.out.1]
        exact hnil
      have HOK := Lib.hid (show okB rs kk n words = true by
        have h2 := HCO.out
        simp only at h2
        rw [HWW.out, HN.out.1, HN.out.2.1]
        exact h2.1 hnil2)
      have HIS := Lib.hid (show isW (ns, ts, rs) kk rows = true from is_made HLG.out HM.out hnil2 hperm hsort)
      have hfit : FitR rows := rows_fit HLG.out HM.out hperm
      have hcnt : hitsW words (hitB rs kk) n = rows.length := by
        have := rows_count (ah := ahD rs kk) (m := ts.length) (by have : ts.length ≤ 3 := HMF.out; omega) HLG.out.well HLG.out.wellT HM.out (fun w _ => ahD_ok rs kk w) hnil2 hperm
        rw [HWW.out, HN.out.1, HN.out.2.1]
        exact this
      have HLM := Lib.hid (show ∀ (a : Int) (x : Wd), x ∈ words → (matchW rs (ahD rs kk x) a).length ≤ 1 → ∀ (r : Int) (ok : Bool), LookTo rows a x r ok → ok = decide (matchW rs (ahD rs kk x) a ≠ []) ∧ (ok = true → (matchW rs (ahD rs kk x) a).getLast? = some r.toNat ∧ 0 ≤ r) ∧ (ok = false → r = 0) from fun a x hx h1 r ok hl => by
        refine look_match (ah := ahD rs kk) (m := ts.length) (by have : ts.length ≤ 3 := HMF.out; omega) HLG.out.wellT HM.out (fun w _ => ahD_ok rs kk w) hperm ?_ h1 hl
        rw [← HN.out.2.1, ← HWW.out]
        exact hx)
      have hnr : rows.length ≤ 12 * 121 := by
        have := hitsW_le words (hitB rs kk) n
        have h2 := HWL.out
        have : n * words.length ≤ 12 * 121 := Nat.mul_le_mul hn12 h2
        omega
      have hone : ∀ a, a < n → ∀ x ∈ words, (matchW rs (ahD rs kk x) (a : Int)).length ≤ 1 := by
        have := HOK.out
        rw [HN.out.1] at this ⊢
        exact (okB_iff (g := (ns, ts, rs)) words).1 this
      have HONE := Lib.hid hone
      have hslr := slR_own hfit hown
      obtain ⟨A9, c9, rfl, h91, h92⟩ := own_form hown
      obtain ⟨nr, hnr2⟩ : ∃ nr, nr = rows.length := ⟨_, rfl⟩
      rw [← hnr2] at hslr hcnt hnr h91 ⊢
      have HSLR := Lib.hid hslr
      have HSORT := Lib.hid hsort
      have HCNT := Lib.hid hcnt
      have h93 : c9 ≤ 9223372036854775807 := by simpa [maxLen] using h92
      clear hown hperm hnil hnil2 hfit hcnt hone hslr hsort hnr2
      go_wp2_with fail
      refine (HCH.out w3 HB3.out HS3.out).mono ?_
      rintro e w4 ⟨rfl, hb4⟩
      have HB4 := Lib.hid (HB3.out.trans (hb4.mono HS3.out))
      have HS4 := Lib.hid (Nat.le_trans HS3.out hb4.size)
      have HSLR4 := Lib.hid (HSLR.out.fut hb4 (Nat.le_refl _) hb4.size)
      clear hb4 a0 a1 a2
      obtain ⟨a0, a1, a2⟩ := HCELL.out w4 ((HB4.out.block w.heap.size (by omega)).trans HK.out)
      go_wp2_with fail
      refine (HALL.out w4 HB4.out HS4.out).mono ?_
      rintro e w5 ⟨G, rfl, hG, hb5⟩
      have HB5 := Lib.hid (HB4.out.trans (hb5.mono HS4.out))
      have HS5 := Lib.hid (Nat.le_trans HS4.out hb5.size)
      have HSLR5 := Lib.hid (HSLR4.out.fut hb5 (Nat.le_refl _) hb5.size)
      rw [← HWW.out] at hG ⊢
      have HG := Lib.hid (show SlR (eSl eInt) w5 w5.heap.size (.slice (some ⟨G, 0, none⟩) n n) ((List.range n).map fun b => words.map (valW rs kk b)) from hG)
      simp only
      rw [HOK.out]
      clear hG hb5 a0 a1 a2
      obtain ⟨a0, a1, a2⟩ := HCELL.out w5 ((HB5.out.block w.heap.size (by omega)).trans HK.out)
      go_wp2_with fail
      refine (isTab_any A9 nr c9 kk rows w5 (HGR.out w5 HB5.out HS5.out) HSLR5.out (by omega)).mono ?_
      rintro e w6 ⟨rfl, hb6⟩
      rw [HIS.out]
      have HB6 := Lib.hid (HB5.out.trans (hb6.mono HS5.out))
      have HS6 := Lib.hid (Nat.le_trans HS5.out hb6.size)
      have HSLR6 := Lib.hid (HSLR5.out.fut hb6 (Nat.le_refl _) hb6.size)
      have HG6 := Lib.hid (HG.out.fut hb6 (Nat.le_refl _) hb6.size)
      clear hb6 a0 a1 a2
      obtain ⟨a0, a1, a2⟩ := HCELL.out w6 ((HB6.out.block w.heap.size (by omega)).trans HK.out)
      go_wp2_with fail
      refine (words18_any m kk w6 hm12 hkk1 hkk4).mono ?_
      rintro e w7 ⟨v, rfl, hown, hb7⟩
      rw [← HWW.out] at hown
      have HB7 := Lib.hid (HB6.out.trans (hb7.mono HS6.out))
      have HS7 := Lib.hid (Nat.le_trans HS6.out hb7.size)
      have HSLR7 := Lib.hid (HSLR6.out.fut hb7 (Nat.le_refl _) hb7.size)
      have HG7 := Lib.hid (HG6.out.fut hb7 (Nat.le_refl _) hb7.size)
      obtain ⟨nw, hnw⟩ : ∃ nw, nw = words.length := ⟨_, rfl⟩
      rw [← hnw] at hown
      have HNW := Lib.hid hnw
      have hnw9 : nw ≤ 121 := by rw [hnw]; exact HWL.out
      obtain ⟨A10, c10, rfl, h101, h102⟩ := own_form hown
      have HOW := Lib.hid hown
      clear hown hb7 hnw a0 a1 a2
      go_wp2_with fail
      go_loopg [12, 11] n (fun lft v12 v11 wr => ∃ a : Nat, a ≤ n ∧ n - a ≤ lft ∧ v12 = .int .i64 a ∧ v11 = .int .i64 (hitsW words (hitB rs kk) a : Nat) ∧ Hid (Below w7.heap.size w7 wr))
      case atStart => exact ⟨0, by omega, by omega, rfl, rfl, Below.refl _ _⟩
      case round =>
        obtain ⟨a, ha, hlft, rfl, rfl, HBW⟩ := hrel
        have HB8 := Lib.hid (HB7.out.trans (HBW.out.mono HS7.out))
        have HS8 := Lib.hid (Nat.le_trans HS7.out HBW.out.size)
        obtain ⟨a0, a1, a2⟩ := HCELL.out wr ((HB8.out.block w.heap.size (by omega)).trans HK.out)
        by_cases hab : a < n
        · obtain ⟨gas, hgas⟩ : ∃ gas, gas = gk := ⟨_, rfl⟩
          rw [← hgas] at hlft
          have HGK := Lib.hid hgas
          clear hgas
          have hht : hitsW words (hitB rs kk) a ≤ 12 * 121 := by
            have h1 := hitsW_le words (hitB rs kk) a
            have : a * words.length ≤ 12 * 121 := Nat.mul_le_mul (by omega) HWL.out
            omega
          have HSUC := Lib.hid (show hitsW words (hitB rs kk) (a + 1) = hitsW words (hitB rs kk) a + words.countP (hitB rs kk (a : Int)) from rfl)
          obtain ⟨ht, hhe⟩ : ∃ ht, ht = hitsW words (hitB rs kk) a := ⟨_, rfl⟩
          rw [← hhe] at hht HSUC ⊢
          clear hhe
          generalize wr = wo at *
          go_wp2_with fail
          go_loopg [13, 11] nw (fun lf2 v13 v11 wt => ∃ i : Nat, i ≤ nw ∧ nw - i ≤ lf2 ∧ v13 = .int .i64 i ∧ v11 = .int .i64 ((ht + (words.take i).countP (hitB rs kk (a : Int)) : Nat) : Int) ∧ Hid (Below w7.heap.size w7 wt))
          case atStart => exact ⟨0, by omega, by omega, rfl, by simp, HBW.out⟩
          case round =>
            clear a0 a1 a2
            obtain ⟨i, hi, hlf2, rfl, rfl, HBW2⟩ := hrel
            have HB9 := Lib.hid (HB7.out.trans (HBW2.out.mono HS7.out))
            have hs9 := HBW2.out.size
            by_cases hib : i < nw
            · have hil : i < words.length := by rw [← HNW.out]; exact hib
              obtain ⟨b10, o10, rfl, -, hcw⟩ := (Rd.of_own (own_below HOW.out HBW2.out)).at_ (k := i) (by rw [wcells_len]; exact hil)
              have hxi : (wcells words)[i]'(by rw [wcells_len]; exact hil) = wv words[i] := by simp [wcells]
              rw [hxi] at hcw
              have HTK := Lib.hid (List.take_succ_eq_append_getElem hil)
              have hmem := List.getElem_mem hil
              have HL1 := Lib.hid (HONE.out a hab words[i] hmem)
              have HLK := Lib.hid (HLM.out (a : Int) words[i] hmem HL1.out)
              have hga : a < ((List.range n).map fun b => words.map (valW rs kk b)).length := by simpa using hab
              obtain ⟨bg, og, Ag, cg, hAG, -, -, ca, hca1, hca2, hsa⟩ := (HG7.out.below HBW2.out).slAt hga
              injection hAG with hAG
              injection hAG with e5 e6
              subst e5 e6
              have hgx : ((List.range n).map fun b => words.map (valW rs kk b))[a] = words.map (valW rs kk a) := by simp
              rw [hgx] at ca hca1 hsa
              rw [Nat.zero_add] at ca
              have hgi : i < (words.map (valW rs kk a)).length := by simpa using hil
              obtain ⟨bi, oi, cs, rfl, -, -, hrep, hcell⟩ := hsa.get hgi (by decide)
              obtain ⟨rfl, hx1, hx2⟩ := hrep
              have hci := hcell 0 _ rfl
              simp only [show eInt.size = 1 from rfl, Nat.mul_one, Nat.add_zero, List.getElem_map] at hci
              rw [List.length_map, ← HNW.out] at ca hca1
              have HVW := Lib.hid (show valW rs kk a words[i] = lastL (matchW rs (ahD rs kk words[i]) (a : Int)) from rfl)
              have HHB := Lib.hid (show hitB rs kk (a : Int) words[i] = decide (matchW rs (ahD rs kk words[i]) (a : Int) ≠ []) from rfl)
              obtain ⟨M, hM⟩ : ∃ M, M = matchW rs (ahD rs kk words[i]) (a : Int) := ⟨_, rfl⟩
              rw [← hM] at HVW HHB HLK
              have HLOOK := Lib.hid (fun (s' : Wd) => look_any A9 nr c9 rows (a : Int) s' wr (HSLR7.out.fut HBW2.out (Nat.le_refl _) hs9) HSORT.out (by omega))
              have hcp : (words.take i).countP (hitB rs kk (a : Int)) ≤ 121 := by
                have h1 := List.countP_le_length (p := hitB rs kk (a : Int)) (l := words.take i)
                rw [List.length_take] at h1
                omega
              have HCP := Lib.hid (show (words.take (i + 1)).countP (hitB rs kk (a : Int)) = (words.take i).countP (hitB rs kk (a : Int)) + if hitB rs kk (a : Int) words[i] = true then 1 else 0 by
                rw [HTK.out, List.countP_append, List.countP_cons, List.countP_nil]
                simp)
              obtain ⟨wi, hwi⟩ : ∃ wi, wi = words[i] := ⟨_, rfl⟩
              rw [← hwi] at hcw HVW HHB HLK hci HCP
              obtain ⟨vw, hvw⟩ : ∃ vw, vw = valW rs kk a wi := ⟨_, rfl⟩
              rw [← hvw] at HVW hci
              obtain ⟨cp, hcp2⟩ : ∃ cp, cp = (words.take i).countP (hitB rs kk (a : Int)) := ⟨_, rfl⟩
              rw [← hcp2] at HCP hcp ⊢
              have HLO := Lib.hid (HLOOK.out wi)
              clear hxi hmem hga hgx hgi hcell hsa hM hwi hvw hcp2 HTK HL1 HLOOK hil hx1 hx2
              go_wp2_with fail
              refine HLO.out.mono ?_
              rintro e w9 ⟨r, ok, rfl, hl, hb9⟩
              obtain ⟨k1, k2, k3⟩ := HLK.out r ok hl
              have ca' := (hb9.cell (World.block_lt_of_cell? wr _ ca)).trans ca
              have hci' := (hb9.cell (World.block_lt_of_cell? wr _ hci)).trans hci
              have HBW9 := Lib.hid (HBW2.out.trans (hb9.mono hs9))
              have HGV := Lib.hid (lastL_ge M)
              cases ok with
              | true =>
                obtain ⟨k4, k5⟩ := k2 rfl
                have hvr : vw = r := HVW.out.trans (lastL_some k4 k5)
                have HC9 := Lib.hid (show (words.take (i + 1)).countP (hitB rs kk (a : Int)) = cp + 1 by rw [HCP.out, HHB.out, ← k1]; rfl)
                have dr : decide (0 ≤ r) = true := by simpa using k5
                subst hvr
                clear k1 k2 k3 k4 k5 hl hb9 HLK
                go_wp2_with fail
                go_roundg (gk - 1)
                case measure => omega
                case rel => exact ⟨i + 1, by omega, by omega, by go_num, by rw [HC9.out]; go_num, HBW9.out⟩
              | false =>
                have hr0 := k3 rfl
                have hvr : vw = -1 := HVW.out.trans ((lastL_none M).2 (by
                  have := k1
                  rw [eq_comm, decide_eq_false_iff_not] at this
                  exact Decidable.not_not.1 this))
                have HC9 := Lib.hid (show (words.take (i + 1)).countP (hitB rs kk (a : Int)) = cp by rw [HCP.out, HHB.out, ← k1]; rfl)
                subst hr0 hvr
                clear k1 k2 k3 hl hb9 HLK
                go_wp2_with fail
                go_roundg (gk - 1)
                case measure => omega
                case rel => exact ⟨i + 1, by omega, by omega, by go_num, by rw [HC9.out]; first | rfl | go_num | simp, HBW9.out⟩
            · have HE := Lib.hid (show ht + (words.take i).countP (hitB rs kk (a : Int)) = hitsW words (hitB rs kk) (a + 1) by
                rw [HSUC.out, List.take_of_length_le (by rw [← HNW.out]; omega)])
              rw [HE.out]
              go_wp2_with fail
              go_roundg (gas - 1)
              case measure => have := HGK.out; omega
              case rel => exact ⟨a + 1, by omega, by omega, by go_num, rfl, HBW2.out⟩
        · obtain rfl : n = a := by omega
          rw [HCNT.out]
          go_wp2_with fail
          refine (HAW.out wr HB8.out HS8.out).mono ?_
          rintro e w9 ⟨rfl, hb9⟩
          go_wp2_with fail
          go_ret
          exact ⟨rfl, HBX.out.trans (hb9.mono (Nat.le_succ _))⟩
end Go.Proofs.YtkedmiememnmjaaGreat
namespace Go.Proofs.YtkedmiememnmjaaGreat
open Go.ChangeMaps (open_string)
open Go.ChangeShapes Go.WideShapes Go.ChangeAt Go.RowKit

theorem own : ownKnob Tryz.prog.godebug = none := by kernel_rfl
theorem laidOut : laidOutB Tryz.prog = true := by kernel_rfl
section
variable {H : Type} {enc : TypeId × Value → H}
theorem opens_strs : Opens enc Tryz.prog (eSl eStr) 22 := opens_sl (opens_str Tryz.underlying9) Tryz.underlying22 (by kernel_rfl) (by decide)
theorem opens_ints : Opens enc Tryz.prog (eSl eInt) 40 := opens_sl (opens_int Tryz.underlying3) Tryz.underlying40 (by kernel_rfl) (by decide)
theorem opens_rule : Opens enc Tryz.prog eRule 48 := opens_two Tryz.underlying48 (opens_int Tryz.underlying3) opens_ints (by kernel_rfl) (by kernel_rfl) rfl rfl (by kernel_rfl)
theorem opens_rules : Opens enc Tryz.prog (eSl eRule) 23 := opens_sl opens_rule Tryz.underlying23 (by kernel_rfl) (by decide)
def eGram : Elt Gram := eProd (eSl eStr) (eProd (eSl eStr) (eSl eRule))
theorem opens_gram : Opens enc Tryz.prog eGram 25 := opens_three Tryz.underlying25 opens_strs opens_strs opens_rules (by kernel_rfl) (by kernel_rfl) (by kernel_rfl) rfl rfl rfl (by kernel_rfl)
end
end Go.Proofs.YtkedmiememnmjaaGreat
