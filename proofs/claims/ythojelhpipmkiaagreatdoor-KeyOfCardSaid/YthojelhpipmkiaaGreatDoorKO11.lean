import Derived.Test.YthojelhpipmkiaaGreatDoorKO08
import Derived.Test.YthojelhpipmkiaaGreatDoorKO06
import Derived.Test.YthojelhpipmkiaaGreatDoorKO04
import Derived.Test.YthojelhpipmkiaaGreatDoorKO10
import Derived.Deep.DeepCutAuto
import Derived.Laws.CopyOwn
namespace Go.Proofs.YthojelhpipmkiaaGreatDoor
open Go.RowKit

theorem rowC_cells {w : World} {g : Nat} {a b c : Value} {t : TypeId} {fr : Nat × Nat} (h : w.heap[g]? = some (.cells #[a, b, c] t fr)) : w.cell? ⟨g, 0, none⟩ = some a ∧ w.cell? ⟨g, 1, none⟩ = some b ∧ w.cell? ⟨g, 2, none⟩ = some c := by
 refine ⟨?_, ?_, ?_⟩ <;> (rw [cell_of_row _ _ _ _ _ _ h]; rfl)
theorem rule_app : AppTy Tryz.prog 23 36 2 32 (.agg #[.int .i64 0, .slice none 0 0]) := appTy (by kernel_rfl) (by kernel_rfl) rfl (by omega)
theorem ret_gram {fn : Func} {p : Tmp} {Q : Ending → World → Prop} (h : fn.results = #[.cell p 25]) {a : Act} {w : World} {g : Nat} {c0 c1 c2 : Value} {t : TypeId} {fr : Nat × Nat} (hd : a.defers = []) (hp : a.tmps.getD p undef = .pointer (some ⟨g, 0, none⟩))
  (hg : w.heap[g]? = some (.cells #[c0, c1, c2] t fr)) (hq : Q (.returned (.agg #[c0, c1, c2])) w) : bodyPost Tryz.prog fn Q .ret a w :=
 bodyPost_ret (v := .agg #[c0, c1, c2]) (results_cell_row h _ w g t _ fr _ hp hg Tryz.underlying25 rfl (by kernel_rfl)) hd hq
set_option maxRecDepth 100000 in
set_option maxHeartbeats 16000000 in
theorem canonOf_any (v1 v2 v3 : Value) (ns ts : List Wd) (rs : List RuleD) (w : World) (hg : GoodC (ns.map toB, ts.map toB, rs)) (h1 : SlR eStr w w.heap.size v1 (ns.map toB)) (h2 : SlR eStr w w.heap.size v2 (ts.map toB)) (h3 : SlR eRule w w.heap.size v3 rs) :
  Calls Tryz.prog 35 #[.agg #[v1, v2, v3]] w (CanTo ns ts rs w) := by
 obtain ⟨A1, c1, rfl, ha1, ha2⟩ := h1.form
 obtain ⟨A2, c2, rfl, hb1, hb2⟩ := h2.form
 obtain ⟨A3, c3, rfl, hd1, hd2⟩ := h3.form
 unfold maxLen at ha2 hb2 hd2
 simp only [List.length_map] at h1 h2 ha1 hb1 ⊢
 have HGD := Lib.hid hg
 have H1 := Lib.hid h1
 have H2 := Lib.hid h2
 have H3 := Lib.hid h3
 clear h1 h2 h3 hg
 obtain ⟨n, hnn⟩ : ∃ n, n = ns.length := ⟨_, rfl⟩
 obtain ⟨m, hmm⟩ : ∃ m, m = ts.length := ⟨_, rfl⟩
 obtain ⟨q, hqq⟩ : ∃ q, q = rs.length := ⟨_, rfl⟩
 rw [← hnn] at H1 ha1 ⊢
 rw [← hmm] at H2 hb1 ⊢
 rw [← hqq] at H3 hd1 ⊢
 have HNN := Lib.hid hnn
 have HMM := Lib.hid hmm
 have HQQ := Lib.hid hqq
 have hnm : n + m ≤ 256 := by have := HGD.out.nm; simp only [List.length_map] at this; omega
 have hn1 : 1 ≤ n := by have := HGD.out.n1; simp only [List.length_map] at this; omega
 have hq4 : q ≤ 4096 := by have := HGD.out.q; simp only at this; omega
 clear hnn hmm hqq
 obtain ⟨S, hS⟩ : ∃ S, S = w.heap.size := ⟨_, rfl⟩
 have HS := Lib.hid hS
 have HB1 := Lib.hid (show Below S w ((w.alloc (.cells #[.slice A1 n c1, .slice A2 m c2, .slice A3 q c3] 25)).alloc (.cells #[.slice none 0 0, .slice none 0 0, .slice none 0 0] 25)) from
  ((Below.refl S w).alloc (Nat.le_of_eq hS) _).alloc (by rw [World.size_alloc]; omega) _)
 have HG1 := Lib.hid (show ((w.alloc (.cells #[.slice A1 n c1, .slice A2 m c2, .slice A3 q c3] 25)).alloc (.cells #[.slice none 0 0, .slice none 0 0, .slice none 0 0] 25)).heap[S]? = some (.cells #[.slice A1 n c1, .slice A2 m c2, .slice A3 q c3] 25 (0, 0)) by
  rw [Below.heap_alloc _ _ _ (by rw [World.size_alloc]; omega), hS]
  exact Go.heap_alloc_new w _)
 have HR1 := Lib.hid (show ((w.alloc (.cells #[.slice A1 n c1, .slice A2 m c2, .slice A3 q c3] 25)).alloc (.cells #[.slice none 0 0, .slice none 0 0, .slice none 0 0] 25)).heap[S + 1]? = some (.cells #[.slice none 0 0, .slice none 0 0, .slice none 0 0] 25 (0, 0)) by
  have := Go.heap_alloc_new (w.alloc (.cells #[.slice A1 n c1, .slice A2 m c2, .slice A3 q c3] 25)) (.cells #[.slice none 0 0, .slice none 0 0, .slice none 0 0] 25)
  rwa [World.size_alloc, ← hS] at this)
 rw [← hS] at H1 H2 H3
 have HVAL := Lib.hid (fun (W : World) (hb : Below S w W) (hs : S ≤ W.heap.size) => gramValid_any (.slice A1 n c1) (.slice A2 m c2) (.slice A3 q c3) (ns.map toB) (ts.map toB) rs W (by simp only [List.length_map]; rw [← HNN.out, ← HMM.out]; omega) (H1.out.fut hb (Nat.le_refl _) hs) (H2.out.fut hb (Nat.le_refl _) hs) (H3.out.fut hb (Nat.le_refl _) hs))
 go_enter Tryz.func35, Tryz.ntmps35
 go_wp2_with fail
 rw [← hS]
 clear hS
 generalize (w.alloc (.cells #[.slice A1 n c1, .slice A2 m c2, .slice A3 q c3] 25)).alloc (.cells #[.slice none 0 0, .slice none 0 0, .slice none 0 0] 25) = w1 at *
 have HZ1 := Lib.hid (show S + 1 < w1.heap.size from (Array.getElem?_eq_some_iff.1 HR1.out).1)
 refine (HVAL.out w1 HB1.out (by have := HZ1.out; omega)).mono ?_
 rintro e w2 ⟨rfl, hb2⟩
 rw [(goodC_iff _).2 HGD.out]
 have HB2 := Lib.hid (HB1.out.trans (hb2.mono (by have := HZ1.out; omega)))
 have HG2 := Lib.hid ((hb2.block S (by have := HZ1.out; omega)).trans HG1.out)
 have HR2 := Lib.hid ((hb2.block (S + 1) HZ1.out).trans HR1.out)
 have HZ2 := Lib.hid (Nat.lt_of_lt_of_le HZ1.out hb2.size)
 clear hb2 HB1 HG1 HR1 HZ1 HVAL
 go_wp2_with fail
 have HG3 := Lib.hid (show w2.drew.heap[S]? = _ from HG2.out)
 have HR3 := Lib.hid (show w2.drew.heap[S + 1]? = _ from HR2.out)
 have HB3 := Lib.hid (show Below S w w2.drew from HB2.out.drew)
 have HZ3 := Lib.hid (show S + 1 < w2.drew.heap.size from HZ2.out)
 clear HG2 HR2 HB2 HZ2
 refine TextU.wp_anyInv (fun L a' w' => ∃ x3 x16 x17 x18 x19 x20 x21 x22 : Value, a' = ⟨List.toArray (.agg #[.slice A1 n c1, .slice A2 m c2, .slice A3 q c3] :: .pointer (some ⟨S, 0, none⟩) :: .pointer (some ⟨S + 1, 0, none⟩) :: x3 :: undef :: undef :: undef :: undef :: undef :: undef :: undef :: undef :: .agg #[.slice A1 n c1, .slice A2 m c2, .slice A3 q c3] :: .bool true :: .bool false :: undef :: x16 :: x17 :: x18 :: x19 :: x20 :: x21 :: x22 :: undef :: undef :: undef :: undef :: undef :: undef :: undef :: undef :: undef :: undef :: undef :: undef :: undef :: undef :: undef :: undef :: undef :: undef :: undef :: undef :: undef :: undef :: undef :: undef :: undef :: undef :: undef :: undef :: undef :: undef :: undef :: undef :: undef :: undef :: undef :: undef :: undef :: undef :: undef :: undef :: undef :: undef :: undef :: undef :: undef :: undef :: undef :: undef :: undef :: undef :: undef :: undef :: undef :: undef :: undef :: undef :: undef :: []), []⟩ ∧ Hid (Below w2.drew.heap.size w2.drew w') ∧ (L 0 = true → x16 = .pointer (some ⟨S, 0, none⟩)) ∧ (L 1 = true → x17 = .slice A1 n c1) ∧ (L 2 = true → w'.ownsRow w2.drew.heap.size 9 1 x18 n (wcells ns)) ∧ (L 3 = true → x19 = .pointer (some ⟨S, 1, none⟩)) ∧ (L 4 = true → x20 = .slice A2 m c2) ∧ (L 5 = true → ApartAt w' w2.drew.heap.size x18 x21 m (wcells ts)) ∧ (L 6 = true → x22 = .agg #[x18, x21, .slice none 0 0]) ∧
  (L 7 = true → L 8 = false → BlkAt w' w2.drew.heap.size x3 #[.slice none 0 0, .slice none 0 0, .slice none 0 0] 25) ∧
  (L 8 = true → BlkAt w' w2.drew.heap.size x3 #[x18, x21, .slice none 0 0] 25) ∧ Hid (L 6 = true → L 2 = true ∧ L 5 = true) ∧ Hid (L 8 = true → L 7 = true ∧ L 6 = true) ∧ Hid (L 5 = true → L 2 = true)) (by kernel_rfl) (by kernel_rfl) ?_ ?_ ?_
 ·exact ⟨undef, undef, undef, undef, undef, undef, undef, undef, rfl, Below.refl _ _, by simp, by simp, by simp, by simp, by simp, by simp, by simp, by simp, by simp, by simp [Hid], by simp [Hid], by simp [Hid]⟩
 ·have HC1 := Lib.hid (show ∀ W, Below w2.drew.heap.size w2.drew W → Calls Tryz.prog 69 #[.slice A1 n c1] W (CloneTo W ns) from fun W hb => by
   have h := clone_any A1 c1 ns W (sl_W (by
    have := H1.out.fut (HB3.out.trans (hb.mono (show S ≤ w2.drew.heap.size by have := HZ3.out; omega))) (Nat.le_refl _) (B' := W.heap.size) (Nat.le_trans (show S ≤ w2.drew.heap.size by have := HZ3.out; omega) hb.size)
    rwa [HNN.out] at this)) (by rw [← HNN.out]; omega)
   rwa [← HNN.out] at h)
  have HC2 := Lib.hid (show ∀ W, Below w2.drew.heap.size w2.drew W → Calls Tryz.prog 69 #[.slice A2 m c2] W (CloneTo W ts) from fun W hb => by
   have h := clone_any A2 c2 ts W (sl_W (by
    have := H2.out.fut (HB3.out.trans (hb.mono (show S ≤ w2.drew.heap.size by have := HZ3.out; omega))) (Nat.le_refl _) (B' := W.heap.size) (Nat.le_trans (show S ≤ w2.drew.heap.size by have := HZ3.out; omega) hb.size)
    rwa [HMM.out] at this)) (by rw [← HMM.out]; omega)
   rwa [← HMM.out] at h)
  generalize w2.drew = w3 at *
  intro j o L a' w' hj hL hd hJ J' Q' hJ' hQ'
  have HJ := Lib.hid hJ'
  clear hJ'
  have hj9 : j < 9 := (List.getElem?_eq_some_iff.1 hj).1
  obtain ⟨x3, x16, x17, x18, x19, x20, x21, x22, rfl, HB, f0, f1, f2, f3, f4, f5, f6, f7, f8, f9, f10, f11⟩ := hJ
  obtain rfl | rfl | rfl | rfl | rfl | rfl | rfl | rfl | rfl : j = 0 ∨ j = 1 ∨ j = 2 ∨ j = 3 ∨ j = 4 ∨ j = 5 ∨ j = 6 ∨ j = 7 ∨ j = 8 := by omega
  all_goals
   injection hj with hj
   subst hj
  ·go_wp2_with fail
   refine HJ.out _ _ _ ⟨_, _, _, _, _, _, _, _, rfl, HB, ?_, ?_, ?_, ?_, ?_, ?_, ?_, ?_, ?_, ?_, ?_, ?_⟩
   all_goals first | exact fun _ => rfl | exact fun h => TextU.andL_old (f11.out (TextU.andL_back (by decide) h)) | exact fun h => f0 (TextU.andL_back (by decide) h) | exact fun h => f1 (TextU.andL_back (by decide) h) | exact fun h => f2 (TextU.andL_back (by decide) h) | exact fun h => f3 (TextU.andL_back (by decide) h) | exact fun h => f4 (TextU.andL_back (by decide) h) | exact fun h => f5 (TextU.andL_back (by decide) h) | exact fun h => f6 (TextU.andL_back (by decide) h) | exact fun h => f8 (TextU.andL_back (by decide) h) | exact fun h h' => f7 (TextU.andL_back (by decide) h) (TextU.andL_off h') | exact fun h => ⟨TextU.andL_old (f9.out (TextU.andL_back (by decide) h)).1, TextU.andL_old (f9.out (TextU.andL_back (by decide) h)).2⟩ | exact fun h => ⟨TextU.andL_old (f10.out (TextU.andL_back (by decide) h)).1, TextU.andL_old (f10.out (TextU.andL_back (by decide) h)).2⟩
  ·obtain rfl := f0 (hd ⟨0, .data⟩ (by simp) rfl)
   have hc : w'.cell? ⟨S, 0, none⟩ = some (.slice A1 n c1) := by rw [cell_of_row _ _ _ _ _ _ ((HB.out.block S (by have := HZ3.out; omega)).trans HG3.out)]; rfl
   go_wp2_with fail
   refine HJ.out _ _ _ ⟨_, _, _, _, _, _, _, _, rfl, HB, ?_, ?_, ?_, ?_, ?_, ?_, ?_, ?_, ?_, ?_, ?_, ?_⟩
   all_goals first | exact fun _ => rfl | exact fun h => TextU.andL_old (f11.out (TextU.andL_back (by decide) h)) | exact fun h => f0 (TextU.andL_back (by decide) h) | exact fun h => f1 (TextU.andL_back (by decide) h) | exact fun h => f2 (TextU.andL_back (by decide) h) | exact fun h => f3 (TextU.andL_back (by decide) h) | exact fun h => f4 (TextU.andL_back (by decide) h) | exact fun h => f5 (TextU.andL_back (by decide) h) | exact fun h => f6 (TextU.andL_back (by decide) h) | exact fun h => f8 (TextU.andL_back (by decide) h) | exact fun h h' => f7 (TextU.andL_back (by decide) h) (TextU.andL_off h') | exact fun h => ⟨TextU.andL_old (f9.out (TextU.andL_back (by decide) h)).1, TextU.andL_old (f9.out (TextU.andL_back (by decide) h)).2⟩ | exact fun h => ⟨TextU.andL_old (f10.out (TextU.andL_back (by decide) h)).1, TextU.andL_old (f10.out (TextU.andL_back (by decide) h)).2⟩
  ·obtain rfl := f1 (hd ⟨1, .data⟩ (by simp) rfl)
   have HC := Lib.hid (HC1.out w' HB.out)
   go_wp2_with fail
   refine HC.out.mono ?_
   rintro e w'' ⟨v, rfl, ho, hb⟩
   have HBX := Lib.hid (HB.out.trans (hb.mono HB.out.size))
   have g := own_more ho HB.out.size
   rw [← HNN.out] at g
   have G := Lib.hid g
   have f7 := fun h h' => blk_lift (f7 h h') hb
   have f8 := fun h => blk_lift (f8 h) hb
   clear ho hb g
   go_wp2_with fail
   refine HJ.out _ _ _ ⟨_, _, _, _, _, _, _, _, rfl, HBX.out, ?_, ?_, ?_, ?_, ?_, ?_, ?_, ?_, ?_, ?_, ?_, ?_⟩
   all_goals first | exact fun _ => rfl | exact fun h => TextU.andL_old (f11.out (TextU.andL_back (by decide) h)) | exact fun _ => G.out | exact fun h => absurd (f11.out (TextU.andL_back (by decide) h)) (by rw [hL]; decide) | exact fun h => absurd (f9.out (TextU.andL_back (by decide) h)).1 (by rw [hL]; decide) | exact fun h => absurd (f9.out (f10.out (TextU.andL_back (by decide) h)).2).1 (by rw [hL]; decide) | exact fun h => f0 (TextU.andL_back (by decide) h) | exact fun h => f1 (TextU.andL_back (by decide) h) | exact fun h => f2 (TextU.andL_back (by decide) h) | exact fun h => f3 (TextU.andL_back (by decide) h) | exact fun h => f4 (TextU.andL_back (by decide) h) | exact fun h => f5 (TextU.andL_back (by decide) h) | exact fun h => f6 (TextU.andL_back (by decide) h) | exact fun h => f8 (TextU.andL_back (by decide) h) | exact fun h h' => f7 (TextU.andL_back (by decide) h) (TextU.andL_off h') | exact fun h => ⟨TextU.andL_old (f9.out (TextU.andL_back (by decide) h)).1, TextU.andL_old (f9.out (TextU.andL_back (by decide) h)).2⟩ | exact fun h => ⟨TextU.andL_old (f10.out (TextU.andL_back (by decide) h)).1, TextU.andL_old (f10.out (TextU.andL_back (by decide) h)).2⟩
  ·go_wp2_with fail
   refine HJ.out _ _ _ ⟨_, _, _, _, _, _, _, _, rfl, HB, ?_, ?_, ?_, ?_, ?_, ?_, ?_, ?_, ?_, ?_, ?_, ?_⟩
   all_goals first | exact fun _ => rfl | exact fun h => TextU.andL_old (f11.out (TextU.andL_back (by decide) h)) | exact fun h => f0 (TextU.andL_back (by decide) h) | exact fun h => f1 (TextU.andL_back (by decide) h) | exact fun h => f2 (TextU.andL_back (by decide) h) | exact fun h => f3 (TextU.andL_back (by decide) h) | exact fun h => f4 (TextU.andL_back (by decide) h) | exact fun h => f5 (TextU.andL_back (by decide) h) | exact fun h => f6 (TextU.andL_back (by decide) h) | exact fun h => f8 (TextU.andL_back (by decide) h) | exact fun h h' => f7 (TextU.andL_back (by decide) h) (TextU.andL_off h') | exact fun h => ⟨TextU.andL_old (f9.out (TextU.andL_back (by decide) h)).1, TextU.andL_old (f9.out (TextU.andL_back (by decide) h)).2⟩ | exact fun h => ⟨TextU.andL_old (f10.out (TextU.andL_back (by decide) h)).1, TextU.andL_old (f10.out (TextU.andL_back (by decide) h)).2⟩
  ·obtain rfl := f3 (hd ⟨3, .data⟩ (by simp) rfl)
   have hc : w'.cell? ⟨S, 1, none⟩ = some (.slice A2 m c2) := by rw [cell_of_row _ _ _ _ _ _ ((HB.out.block S (by have := HZ3.out; omega)).trans HG3.out)]; rfl
   go_wp2_with fail
   refine HJ.out _ _ _ ⟨_, _, _, _, _, _, _, _, rfl, HB, ?_, ?_, ?_, ?_, ?_, ?_, ?_, ?_, ?_, ?_, ?_, ?_⟩
   all_goals first | exact fun _ => rfl | exact fun h => TextU.andL_old (f11.out (TextU.andL_back (by decide) h)) | exact fun h => f0 (TextU.andL_back (by decide) h) | exact fun h => f1 (TextU.andL_back (by decide) h) | exact fun h => f2 (TextU.andL_back (by decide) h) | exact fun h => f3 (TextU.andL_back (by decide) h) | exact fun h => f4 (TextU.andL_back (by decide) h) | exact fun h => f5 (TextU.andL_back (by decide) h) | exact fun h => f6 (TextU.andL_back (by decide) h) | exact fun h => f8 (TextU.andL_back (by decide) h) | exact fun h h' => f7 (TextU.andL_back (by decide) h) (TextU.andL_off h') | exact fun h => ⟨TextU.andL_old (f9.out (TextU.andL_back (by decide) h)).1, TextU.andL_old (f9.out (TextU.andL_back (by decide) h)).2⟩ | exact fun h => ⟨TextU.andL_old (f10.out (TextU.andL_back (by decide) h)).1, TextU.andL_old (f10.out (TextU.andL_back (by decide) h)).2⟩
  ·obtain rfl := f4 (hd ⟨4, .data⟩ (by simp) rfl)
   have HC := Lib.hid (HC2.out w' HB.out)
   go_wp2_with fail
   refine HC.out.mono ?_
   rintro e w'' ⟨v, rfl, ho, hb⟩
   have HBX := Lib.hid (HB.out.trans (hb.mono HB.out.size))
   have l2 := hd ⟨2, .chain⟩ (by simp) rfl
   have g : ApartAt w'' w3.heap.size x18 v m (wcells ts) := ⟨w'.heap.size, HB.out.size, fun k hk => ((f2 l2).lt k hk).2, by rw [← HMM.out] at ho; exact ho⟩
   have G := Lib.hid g
   have f2 := fun h => own_below (f2 h) hb
   have f7 := fun h h' => blk_lift (f7 h h') hb
   have f8 := fun h => blk_lift (f8 h) hb
   clear ho hb g
   go_wp2_with fail
   refine HJ.out _ _ _ ⟨_, _, _, _, _, _, _, _, rfl, HBX.out, ?_, ?_, ?_, ?_, ?_, ?_, ?_, ?_, ?_, ?_, ?_, ?_⟩
   all_goals first | exact fun _ => rfl | exact fun h => TextU.andL_old (f11.out (TextU.andL_back (by decide) h)) | exact fun _ => G.out | exact fun _ => TextU.andL_old l2 | exact fun h => absurd (f9.out (TextU.andL_back (by decide) h)).2 (by rw [hL]; decide) | exact fun h => absurd (f9.out (f10.out (TextU.andL_back (by decide) h)).2).2 (by rw [hL]; decide) | exact fun h => f0 (TextU.andL_back (by decide) h) | exact fun h => f1 (TextU.andL_back (by decide) h) | exact fun h => f2 (TextU.andL_back (by decide) h) | exact fun h => f3 (TextU.andL_back (by decide) h) | exact fun h => f4 (TextU.andL_back (by decide) h) | exact fun h => f5 (TextU.andL_back (by decide) h) | exact fun h => f6 (TextU.andL_back (by decide) h) | exact fun h => f8 (TextU.andL_back (by decide) h) | exact fun h h' => f7 (TextU.andL_back (by decide) h) (TextU.andL_off h') | exact fun h => ⟨TextU.andL_old (f9.out (TextU.andL_back (by decide) h)).1, TextU.andL_old (f9.out (TextU.andL_back (by decide) h)).2⟩ | exact fun h => ⟨TextU.andL_old (f10.out (TextU.andL_back (by decide) h)).1, TextU.andL_old (f10.out (TextU.andL_back (by decide) h)).2⟩
  ·obtain ⟨B1, e1, rfl, _⟩ := own_form (f2 (hd ⟨2, .data⟩ (by simp) rfl))
   obtain ⟨_, _, _, o5⟩ := f5 (hd ⟨5, .data⟩ (by simp) rfl)
   obtain ⟨B2, e2, rfl, _⟩ := own_form o5
   go_wp2_with fail
   have HBX := Lib.hid HB.out
   refine HJ.out _ _ _ ⟨_, _, _, _, _, _, _, _, rfl, HBX.out, ?_, ?_, ?_, ?_, ?_, ?_, ?_, ?_, ?_, ?_, ?_, ?_⟩
   all_goals first | exact fun _ => rfl | exact fun h => TextU.andL_old (f11.out (TextU.andL_back (by decide) h)) | exact fun _ => ⟨TextU.andL_old (hd ⟨2, .data⟩ (by simp) rfl), TextU.andL_old (hd ⟨5, .data⟩ (by simp) rfl)⟩ | exact fun h => f0 (TextU.andL_back (by decide) h) | exact fun h => f1 (TextU.andL_back (by decide) h) | exact fun h => f2 (TextU.andL_back (by decide) h) | exact fun h => f3 (TextU.andL_back (by decide) h) | exact fun h => f4 (TextU.andL_back (by decide) h) | exact fun h => f5 (TextU.andL_back (by decide) h) | exact fun h => f6 (TextU.andL_back (by decide) h) | exact fun h => f8 (TextU.andL_back (by decide) h) | exact fun h h' => f7 (TextU.andL_back (by decide) h) (TextU.andL_off h') | exact fun h => ⟨TextU.andL_old (f9.out (TextU.andL_back (by decide) h)).1, TextU.andL_old (f9.out (TextU.andL_back (by decide) h)).2⟩ | exact fun h => ⟨TextU.andL_old (f10.out (TextU.andL_back (by decide) h)).1, TextU.andL_old (f10.out (TextU.andL_back (by decide) h)).2⟩
  ·have hb : Below w'.heap.size w' (w'.alloc (.cells #[.slice none 0 0, .slice none 0 0, .slice none 0 0] 25)) := (Below.refl _ _).alloc (Nat.le_refl _) _
   have HBX := Lib.hid (HB.out.trans (hb.mono HB.out.size))
   have f2 := fun h => own_below (f2 h) hb
   have f5 := fun h => apart_keep (f5 h) (KeepT.of_below hb)
   have HNEW := Lib.hid (blk_new w' #[.slice none 0 0, .slice none 0 0, .slice none 0 0] 25 HB.out.size)
   clear hb
   go_wp2_with fail
   generalize w'.alloc (.cells #[.slice none 0 0, .slice none 0 0, .slice none 0 0] 25) = w5 at *
   refine HJ.out _ _ _ ⟨_, _, _, _, _, _, _, _, rfl, HBX.out, ?_, ?_, ?_, ?_, ?_, ?_, ?_, ?_, ?_, ?_, ?_, ?_⟩
   all_goals first | exact fun _ => rfl | exact fun h => TextU.andL_old (f11.out (TextU.andL_back (by decide) h)) | exact fun _ _ => HNEW.out | exact fun h => absurd (f10.out (TextU.andL_back (by decide) h)).1 (by rw [hL]; decide) | exact fun h => f0 (TextU.andL_back (by decide) h) | exact fun h => f1 (TextU.andL_back (by decide) h) | exact fun h => f2 (TextU.andL_back (by decide) h) | exact fun h => f3 (TextU.andL_back (by decide) h) | exact fun h => f4 (TextU.andL_back (by decide) h) | exact fun h => f5 (TextU.andL_back (by decide) h) | exact fun h => f6 (TextU.andL_back (by decide) h) | exact fun h => f8 (TextU.andL_back (by decide) h) | exact fun h h' => f7 (TextU.andL_back (by decide) h) (TextU.andL_off h') | exact fun h => ⟨TextU.andL_old (f9.out (TextU.andL_back (by decide) h)).1, TextU.andL_old (f9.out (TextU.andL_back (by decide) h)).2⟩ | exact fun h => ⟨TextU.andL_old (f10.out (TextU.andL_back (by decide) h)).1, TextU.andL_old (f10.out (TextU.andL_back (by decide) h)).2⟩
  ·have l6 := hd ⟨6, .data⟩ (by simp) rfl
   have l7 := hd ⟨7, .data⟩ (by simp) rfl
   obtain ⟨b, rfl, hbs, hbh⟩ := f7 l7 hL
   obtain rfl := f6 l6
   have o2 := f2 (f9.out l6).1
   obtain ⟨M5, m51, m52, o5⟩ := f5 (f9.out l6).2
   obtain ⟨B1, e1, rfl, _⟩ := own_form o2
   obtain ⟨B2, e2, rfl, _⟩ := own_form o5
   have HKT := Lib.hid (keepT_setRow (ts := [9]) (cs' := [Value.slice B1 n e1, .slice B2 m e2, .slice none 0 0].toArray) hbh (by decide))
   have O2 := Lib.hid (own_keepT o2 HKT.out (by simp))
   have O5 := Lib.hid (apart_keep (show ApartAt w' w3.heap.size (.slice B1 n e1) (.slice B2 m e2) m (wcells ts) from ⟨M5, m51, m52, o5⟩) HKT.out)
   have HST := Lib.hid (store_rowC (P := Tryz.prog) (ty := 25) (vs := [Value.slice B1 n e1, .slice B2 m e2, .slice none 0 0]) (v := .agg #[.slice B1 n e1, .slice B2 m e2, .slice none 0 0]) rfl (by kernel_rfl) hbh rfl (by simp [Value.oneCell']))
   have HBX := Lib.hid (below_setRow HB.out hbs [Value.slice B1 n e1, .slice B2 m e2, .slice none 0 0].toArray)
   have HB8 := Lib.hid (show BlkAt (w'.setRow b [Value.slice B1 n e1, .slice B2 m e2, .slice none 0 0].toArray) w3.heap.size (.pointer (some ⟨b, 0, none⟩)) #[.slice B1 n e1, .slice B2 m e2, .slice none 0 0] 25 from ⟨b, rfl, hbs, setRow_heap _ _ _ _ _ _ hbh⟩)
   clear o2 o5
   go_wp2_with (refine stop_at none rfl ?_)
   refine Stop.go (wpList_store_agg rfl 25 rfl rfl rfl HST.out ?_)
   generalize w'.setRow b [Value.slice B1 n e1, .slice B2 m e2, .slice none 0 0].toArray = w5 at *
   generalize hac : Act.put _ _ _ = a9
   simp [Act.put] at hac
   subst hac
   go_wp2_with fail
   refine HJ.out _ _ _ ⟨_, _, _, _, _, _, _, _, rfl, HBX.out, ?_, ?_, ?_, ?_, ?_, ?_, ?_, ?_, ?_, ?_, ?_, ?_⟩
   all_goals first | exact fun _ => rfl | exact fun h => TextU.andL_old (f11.out (TextU.andL_back (by decide) h)) | exact fun _ => O2.out | exact fun _ => O5.out | exact fun _ h' => absurd h' (by rw [TextU.andL_self]; decide) | exact fun _ => HB8.out | exact fun _ => ⟨TextU.andL_old l7, TextU.andL_old l6⟩ | exact fun h => f0 (TextU.andL_back (by decide) h) | exact fun h => f1 (TextU.andL_back (by decide) h) | exact fun h => f3 (TextU.andL_back (by decide) h) | exact fun h => f4 (TextU.andL_back (by decide) h) | exact fun h => ⟨TextU.andL_old (f9.out (TextU.andL_back (by decide) h)).1, TextU.andL_old (f9.out (TextU.andL_back (by decide) h)).2⟩
 ·have HZW := Lib.hid (show S + 1 < w2.drew.heap.size from HZ3.out)
  generalize w2.drew = w3 at *
  intro L a' w4 hall hJ
  obtain ⟨x3, x16, x17, x18, x19, x20, x21, x22, rfl, HB, f0, f1, f2, f3, f4, f5, f6, f7, f8, f9, f10, f11⟩ := hJ
  obtain rfl := f0 (hall 0 (by decide))
  obtain rfl := f1 (hall 1 (by decide))
  have HU := Lib.hid (f2 (hall 2 (by decide)))
  obtain rfl := f3 (hall 3 (by decide))
  obtain rfl := f4 (hall 4 (by decide))
  obtain ⟨MV, hmv1, hmv2, hv⟩ := f5 (hall 5 (by decide))
  have HV := Lib.hid hv
  have HMV := Lib.hid (And.intro hmv1 hmv2)
  clear hmv1 hmv2 hv
  obtain rfl := f6 (hall 6 (by decide))
  obtain ⟨P, rfl, hPS, hP⟩ := f8 (hall 8 (by decide))
  have HP := Lib.hid hP
  clear f0 f1 f2 f3 f4 f5 f6 f7 f8 f9 f10 f11 hP hall
  obtain ⟨B1, e1, rfl, hl1, hl2⟩ := own_form HU.out
  obtain ⟨B2, e2, rfl, hl3, hl4⟩ := own_form HV.out
  unfold maxLen at hl2 hl4
  have HG4 := Lib.hid ((HB.out.block S (by have := HZW.out; omega)).trans HG3.out)
  have HR4 := Lib.hid ((HB.out.block (S + 1) HZW.out).trans HR3.out)
  have HB4 := Lib.hid (HB3.out.trans (HB.out.mono (show S ≤ w3.heap.size by have := HZW.out; omega)))
  obtain ⟨x0, xs, hns⟩ : ∃ x0 xs, ns = x0 :: xs := by
   cases hn : ns with
   |nil => have := HNN.out; rw [hn] at this; simp at this; omega
   |cons a b => exact ⟨a, b, rfl⟩
  have HNS := Lib.hid hns
  have hnx : n = xs.length + 1 := by have := HNN.out; rw [hns] at this; simpa using this
  have HSO := Lib.hid (show Calls Tryz.prog 70 #[.slice (if e1 = 1 then B1 else B1.map (·.add 1)) (n - 1) (e1 - 1)] w4 (TailTo w3.heap.size B1 e1 x0 xs w4) from by
   have h := HU.out
   rw [hns, hnx] at h
   have := sortTail_any w3.heap.size B1 e1 x0 xs w4 h (by omega)
   rw [hnx]
   exact this)
  have hc0 : w4.cell? ⟨P, 0, none⟩ = some (.slice B1 n e1) := by rw [cell_of_row _ _ _ _ _ _ HP.out]; rfl
  clear hns hnx
  go_step
  go_step
  go_step
  go_cut [25] (fun _ wx => Hid (TailTo w3.heap.size B1 e1 x0 xs w4 (.returned (.tuple #[])) wx))
  case first =>
   rcases Nat.lt_or_ge 1 e1 with he | he
   ·have h := HSO.out
    rw [if_neg (show ¬ e1 = 1 by omega)] at h
    have HSO := Lib.hid h
    have hne : ¬ e1 = 1 := by omega
    clear h
    go_wp2_with fail
    refine HSO.out.mono ?_
    rintro e w5 hT
    obtain rfl := hT.1
    have HT := Lib.hid hT
    clear hT
    go_wp2_with fail
    go_meet
    exact HT.out
   ·obtain rfl : e1 = 1 := by omega
    have h := HSO.out
    rw [if_pos rfl] at h
    obtain rfl : n = 1 := by omega
    have HSO := Lib.hid h
    clear h
    go_wp2_with fail
    refine HSO.out.mono ?_
    rintro e w5 hT
    obtain rfl := hT.1
    have HT := Lib.hid hT
    clear hT
    go_wp2_with fail
    go_meet
    exact HT.out
  case rest =>
   have hnx : n = xs.length + 1 := by have := HNN.out; rw [HNS.out] at this; simpa using this
   have hcan : canN ns = x0 :: sortW xs := by rw [HNS.out]; rfl
   obtain ⟨_, hu5, hgr⟩ := hcut.out
   rw [← hcan, ← hnx] at hu5
   rw [← hnx] at hgr
   have HU5 := Lib.hid hu5
   have HV5 := Lib.hid (own_grown HV.out hgr fun k hk e => by
    have h1 := HMV.out.2 k e
    have h2 := (HV.out.lt k hk).1
    omega)
   have HP5 := Lib.hid (grown_other HU.out hgr HP.out (by decide))
   have HB5 := Lib.hid (grown_below HB.out hgr HU.out (Nat.le_refl _) HB.out.size)
   clear hu5 hgr hcut HSO HU HV HP hc0 hnx hcan
   generalize wc = w5 at *
   have hc1 : w5.cell? ⟨P, 1, none⟩ = some (.slice B2 m e2) := by rw [cell_of_row _ _ _ _ _ _ HP5.out]; rfl
   have HSO := Lib.hid (show Calls Tryz.prog 70 #[.slice B2 m e2] w5 (SortTo w5 MV (.slice B2 m e2) ts) from sort_any MV (.slice B2 m e2) ts w5 (by have h := HV5.out; rw [HMM.out] at h ⊢; exact h) (by rw [← HMM.out]; omega))
   go_wp2_with fail
   refine HSO.out.mono ?_
   rintro e w6 ⟨rfl, hv6, hgr⟩
   have HV6 := Lib.hid (show w6.ownsRow MV 9 1 (.slice B2 m e2) m (wcells (sortW ts)) by rw [← HMM.out] at hv6; exact hv6)
   have HU6 := Lib.hid (own_grown HU5.out hgr fun k hk e => by
    have h1 := HMV.out.2 k hk
    have h2 := (HV5.out.lt k e).1
    omega)
   have HP6 := Lib.hid (grown_other HV5.out hgr HP5.out (by decide))
   have HB6 := Lib.hid (grown_below HB5.out hgr HV5.out HMV.out.1 HB5.out.size)
   clear hv6 hgr HSO HU5 HV5 HP5 HB5 hc1
   have HG6 := Lib.hid ((HB6.out.block S (by have := HZW.out; omega)).trans HG3.out)
   have HR6 := Lib.hid ((HB6.out.block (S + 1) HZW.out).trans HR3.out)
   clear HG4 HR4 HB4 HB HZ3
   go_wp2_with fail
   have HBW := Lib.hid (show ∀ W, Below w6.drew.heap.size w6.drew W → Below S w W ∧ S ≤ W.heap.size ∧ Below w6.heap.size w6 W from fun W hb => by
    have h1 : S ≤ w3.heap.size := by have := HZW.out; omega
    have h2 : Below w6.heap.size w6 W := (Below.refl w6.heap.size w6).drew.trans hb
    have h3 : Below S w W := (HB3.out.trans (HB6.out.mono h1)).trans (h2.mono (Nat.le_trans h1 HB6.out.size))
    exact ⟨h3, Nat.le_trans h1 (Nat.le_trans HB6.out.size h2.size), h2⟩)
   have HSN := Lib.hid (show SlR eW w S (.slice A1 n c1) ns from sl_W H1.out)
   have HST := Lib.hid (show SlR eW w S (.slice A2 m c2) ts from sl_W H2.out)
   have HSU := Lib.hid (show SlR eW w6 w6.heap.size (.slice B1 n e1) (canN ns) from by
    have hl : n = (canN ns).length := by rw [HNN.out, canN_len]
    have h := HU6.out
    rw [hl] at h ⊢
    exact slW_of (fun x hx => HSN.out.fits x ((canN_perm ns).mem_iff.1 hx)) (Rd.of_own h) (by rw [← hl]; exact hl1) (by unfold maxLen; exact hl2))
   have HSV := Lib.hid (show SlR eW w6 w6.heap.size (.slice B2 m e2) (sortW ts) from by
    have hl : m = (sortW ts).length := by rw [HMM.out, sortW_len]
    have h := HV6.out
    rw [hl] at h ⊢
    exact slW_of (fun x hx => HST.out.fits x ((sortW_perm ts).mem_iff.1 hx)) (Rd.of_own h) (by rw [← hl]; exact hl3) (by unfold maxLen; exact hl4))
   have HN1 := Lib.hid (show ∀ W, Below w6.drew.heap.size w6.drew W → Calls Tryz.prog 71 #[.slice A1 n c1, .slice B1 n e1] W (NumTo ns (canN ns) W) from fun W hb => by
    obtain ⟨k1, k2, k3⟩ := HBW.out W hb
    exact numbers_any _ _ ns (canN ns) W (HSN.out.fut k1 (Nat.le_refl _) k2) (HSU.out.fut k3 (Nat.le_refl _) k3.size) (fun x hx => (canN_perm ns).mem_iff.2 hx) (by rw [← HNN.out]; omega) (by rw [canN_len, ← HNN.out]; omega))
   have HN2 := Lib.hid (show ∀ W, Below w6.drew.heap.size w6.drew W → Calls Tryz.prog 71 #[.slice A2 m c2, .slice B2 m e2] W (NumTo ts (sortW ts) W) from fun W hb => by
    obtain ⟨k1, k2, k3⟩ := HBW.out W hb
    exact numbers_any _ _ ts (sortW ts) W (HST.out.fut k1 (Nat.le_refl _) k2) (HSV.out.fut k3 (Nat.le_refl _) k3.size) (fun x hx => (sortW_perm ts).mem_iff.2 hx) (by rw [← HMM.out]; omega) (by rw [sortW_len, ← HMM.out]; omega))
   have HG0 := Lib.hid (show w6.drew.heap[S]? = _ from HG6.out)
   have HP0 := Lib.hid (show w6.drew.heap[P]? = _ from HP6.out)
   have HZ0 := Lib.hid (show S + 1 < w6.drew.heap.size from Nat.lt_of_lt_of_le HZW.out HB6.out.size)
   have HPZ := Lib.hid (show P < w6.drew.heap.size from (Array.getElem?_eq_some_iff.1 HP0.out).1)
   obtain ⟨W0, hW0⟩ : ∃ W0, W0 = w6.drew := ⟨_, rfl⟩
   rw [← hW0] at HN1 HN2 HG0 HP0 HZ0 HPZ
   refine TextU.wp_anyInv (fun L a' w' => ∃ x4 x5 x30 x31 x32 x33 x34 x35 x36 x37 x38 x39 : Value, a' = ⟨List.toArray (.agg #[.slice A1 n c1, .slice A2 m c2, .slice A3 q c3] :: .pointer (some ⟨S, 0, none⟩) :: .pointer (some ⟨S + 1, 0, none⟩) :: .pointer (some ⟨P, 0, none⟩) :: x4 :: x5 :: undef :: undef :: undef :: undef :: undef :: undef :: u12 :: u13 :: u14 :: u15 :: u16 :: u17 :: u18 :: u19 :: u20 :: u21 :: u22 :: u23 :: u24 :: u25 :: u26 :: .pointer (some ⟨P, 1, none⟩) :: .slice B2 m e2 :: .tuple #[] :: x30 :: x31 :: x32 :: x33 :: x34 :: x35 :: x36 :: x37 :: x38 :: x39 :: u40 :: u41 :: undef :: undef :: undef :: u45 :: u46 :: u47 :: u48 :: u49 :: u50 :: u51 :: u52 :: u53 :: undef :: undef :: undef :: u57 :: u58 :: u59 :: u60 :: u61 :: u62 :: u63 :: u64 :: u65 :: u66 :: u67 :: u68 :: u69 :: u70 :: u71 :: u72 :: u73 :: u74 :: u75 :: u76 :: u77 :: u78 :: u79 :: []), []⟩ ∧ Hid (Below W0.heap.size W0 w') ∧ (L 0 = true → x30 = .pointer (some ⟨S, 0, none⟩)) ∧ (L 1 = true → x31 = .slice A1 n c1) ∧ (L 2 = true → x32 = .pointer (some ⟨P, 0, none⟩)) ∧ (L 3 = true → x33 = .slice B1 n e1) ∧ (L 4 = true → OwnT oInt 3 w' W0.heap.size x34 (ns.map fun x => (((canN ns).idxOf x : Nat) : Int))) ∧ (L 5 = true → x35 = .pointer (some ⟨S, 1, none⟩)) ∧ (L 6 = true → x36 = .slice A2 m c2) ∧ (L 7 = true → x37 = .pointer (some ⟨P, 1, none⟩)) ∧ (L 8 = true → x38 = .slice B2 m e2) ∧ (L 9 = true → OwnT oInt 3 w' W0.heap.size x39 (ts.map fun x => (((sortW ts).idxOf x : Nat) : Int))) ∧ (L 10 = true → L 12 = false → BlkAt w' W0.heap.size x4 #[.slice none 0 0] 34) ∧ (L 11 = true → L 13 = false → BlkAt w' W0.heap.size x5 #[.slice none 0 0] 34) ∧ (L 12 = true → BlkAt w' W0.heap.size x4 #[x34] 34) ∧ (L 13 = true → BlkAt w' W0.heap.size x5 #[x39] 34) ∧ Hid (L 10 = true → L 11 = true → x4 ≠ x5) ∧ Hid (L 12 = true → L 10 = true ∧ L 4 = true ∧ L 11 = true ∧ L 9 = true) ∧ Hid (L 13 = true → L 12 = true)) (by kernel_rfl) (by kernel_rfl) (by rw [← hW0]; exact ⟨undef, undef, u30, u31, u32, u33, u34, u35, u36, u37, u38, u39, rfl, Below.refl _ _, by simp, by simp, by simp, by simp, by simp, by simp, by simp, by simp, by simp, by simp, by simp, by simp, by simp, by simp, by simp [Hid], by simp [Hid], by simp [Hid]⟩) ?_ ?_
   ·intro j o L a' w' hj hL hd hJ J' Q' hJ' hQ'
    have HJ := Lib.hid hJ'
    clear hJ'
    have hj14 : j < 14 := (List.getElem?_eq_some_iff.1 hj).1
    obtain ⟨x4, x5, x30, x31, x32, x33, x34, x35, x36, x37, x38, x39, rfl, HB, f0, f1, f2, f3, f4, f5, f6, f7, f8, f9, f10, f11, f12, f13, fd, fi, fj⟩ := hJ
    obtain rfl | rfl | rfl | rfl | rfl | rfl | rfl | rfl | rfl | rfl | rfl | rfl | rfl | rfl : j = 0 ∨ j = 1 ∨ j = 2 ∨ j = 3 ∨ j = 4 ∨ j = 5 ∨ j = 6 ∨ j = 7 ∨ j = 8 ∨ j = 9 ∨ j = 10 ∨ j = 11 ∨ j = 12 ∨ j = 13 := by omega
    all_goals
     injection hj with hj
     subst hj
    ·skip
     have HBX := Lib.hid HB.out
     go_wp2_with fail
     refine HJ.out _ _ _ ⟨_, _, _, _, _, _, _, _, _, _, _, _, rfl, HBX.out, ?_, ?_, ?_, ?_, ?_, ?_, ?_, ?_, ?_, ?_, ?_, ?_, ?_, ?_, ?_, ?_, ?_⟩
     all_goals first | exact fun _ => rfl | exact fun h => f0 (TextU.andL_back (by decide) h) | exact fun h => f1 (TextU.andL_back (by decide) h) | exact fun h => f2 (TextU.andL_back (by decide) h) | exact fun h => f3 (TextU.andL_back (by decide) h) | exact fun h => f4 (TextU.andL_back (by decide) h) | exact fun h => f5 (TextU.andL_back (by decide) h) | exact fun h => f6 (TextU.andL_back (by decide) h) | exact fun h => f7 (TextU.andL_back (by decide) h) | exact fun h => f8 (TextU.andL_back (by decide) h) | exact fun h => f9 (TextU.andL_back (by decide) h) | exact fun h => f12 (TextU.andL_back (by decide) h) | exact fun h => f13 (TextU.andL_back (by decide) h) | exact fun h h' => f10 (TextU.andL_back (by decide) h) (TextU.andL_off h') | exact fun h h' => f11 (TextU.andL_back (by decide) h) (TextU.andL_off h') | exact fun h h' => fd.out (TextU.andL_back (by decide) h) (TextU.andL_back (by decide) h') | exact fun h => ⟨TextU.andL_old (fi.out (TextU.andL_back (by decide) h)).1, TextU.andL_old (fi.out (TextU.andL_back (by decide) h)).2.1, TextU.andL_old (fi.out (TextU.andL_back (by decide) h)).2.2.1, TextU.andL_old (fi.out (TextU.andL_back (by decide) h)).2.2.2⟩ | exact fun h => TextU.andL_old (fj.out (TextU.andL_back (by decide) h))
    ·obtain rfl := f0 (hd ⟨0, .data⟩ (by simp) rfl)
     have hc : w'.cell? ⟨S, 0, none⟩ = some (.slice A1 n c1) := by rw [cell_of_row _ _ _ _ _ _ ((HB.out.block S (by have := HZ0.out; omega)).trans HG0.out)]; rfl
     have HBX := Lib.hid HB.out
     go_wp2_with fail
     refine HJ.out _ _ _ ⟨_, _, _, _, _, _, _, _, _, _, _, _, rfl, HBX.out, ?_, ?_, ?_, ?_, ?_, ?_, ?_, ?_, ?_, ?_, ?_, ?_, ?_, ?_, ?_, ?_, ?_⟩
     all_goals first | exact fun _ => rfl | exact fun h => f0 (TextU.andL_back (by decide) h) | exact fun h => f1 (TextU.andL_back (by decide) h) | exact fun h => f2 (TextU.andL_back (by decide) h) | exact fun h => f3 (TextU.andL_back (by decide) h) | exact fun h => f4 (TextU.andL_back (by decide) h) | exact fun h => f5 (TextU.andL_back (by decide) h) | exact fun h => f6 (TextU.andL_back (by decide) h) | exact fun h => f7 (TextU.andL_back (by decide) h) | exact fun h => f8 (TextU.andL_back (by decide) h) | exact fun h => f9 (TextU.andL_back (by decide) h) | exact fun h => f12 (TextU.andL_back (by decide) h) | exact fun h => f13 (TextU.andL_back (by decide) h) | exact fun h h' => f10 (TextU.andL_back (by decide) h) (TextU.andL_off h') | exact fun h h' => f11 (TextU.andL_back (by decide) h) (TextU.andL_off h') | exact fun h h' => fd.out (TextU.andL_back (by decide) h) (TextU.andL_back (by decide) h') | exact fun h => ⟨TextU.andL_old (fi.out (TextU.andL_back (by decide) h)).1, TextU.andL_old (fi.out (TextU.andL_back (by decide) h)).2.1, TextU.andL_old (fi.out (TextU.andL_back (by decide) h)).2.2.1, TextU.andL_old (fi.out (TextU.andL_back (by decide) h)).2.2.2⟩ | exact fun h => TextU.andL_old (fj.out (TextU.andL_back (by decide) h))
    ·skip
     have HBX := Lib.hid HB.out
     go_wp2_with fail
     refine HJ.out _ _ _ ⟨_, _, _, _, _, _, _, _, _, _, _, _, rfl, HBX.out, ?_, ?_, ?_, ?_, ?_, ?_, ?_, ?_, ?_, ?_, ?_, ?_, ?_, ?_, ?_, ?_, ?_⟩
     all_goals first | exact fun _ => rfl | exact fun h => f0 (TextU.andL_back (by decide) h) | exact fun h => f1 (TextU.andL_back (by decide) h) | exact fun h => f2 (TextU.andL_back (by decide) h) | exact fun h => f3 (TextU.andL_back (by decide) h) | exact fun h => f4 (TextU.andL_back (by decide) h) | exact fun h => f5 (TextU.andL_back (by decide) h) | exact fun h => f6 (TextU.andL_back (by decide) h) | exact fun h => f7 (TextU.andL_back (by decide) h) | exact fun h => f8 (TextU.andL_back (by decide) h) | exact fun h => f9 (TextU.andL_back (by decide) h) | exact fun h => f12 (TextU.andL_back (by decide) h) | exact fun h => f13 (TextU.andL_back (by decide) h) | exact fun h h' => f10 (TextU.andL_back (by decide) h) (TextU.andL_off h') | exact fun h h' => f11 (TextU.andL_back (by decide) h) (TextU.andL_off h') | exact fun h h' => fd.out (TextU.andL_back (by decide) h) (TextU.andL_back (by decide) h') | exact fun h => ⟨TextU.andL_old (fi.out (TextU.andL_back (by decide) h)).1, TextU.andL_old (fi.out (TextU.andL_back (by decide) h)).2.1, TextU.andL_old (fi.out (TextU.andL_back (by decide) h)).2.2.1, TextU.andL_old (fi.out (TextU.andL_back (by decide) h)).2.2.2⟩ | exact fun h => TextU.andL_old (fj.out (TextU.andL_back (by decide) h))
    ·obtain rfl := f2 (hd ⟨2, .data⟩ (by simp) rfl)
     have hc : w'.cell? ⟨P, 0, none⟩ = some (.slice B1 n e1) := by rw [cell_of_row _ _ _ _ _ _ ((HB.out.block P HPZ.out).trans HP0.out)]; rfl
     have HBX := Lib.hid HB.out
     go_wp2_with fail
     refine HJ.out _ _ _ ⟨_, _, _, _, _, _, _, _, _, _, _, _, rfl, HBX.out, ?_, ?_, ?_, ?_, ?_, ?_, ?_, ?_, ?_, ?_, ?_, ?_, ?_, ?_, ?_, ?_, ?_⟩
     all_goals first | exact fun _ => rfl | exact fun h => f0 (TextU.andL_back (by decide) h) | exact fun h => f1 (TextU.andL_back (by decide) h) | exact fun h => f2 (TextU.andL_back (by decide) h) | exact fun h => f3 (TextU.andL_back (by decide) h) | exact fun h => f4 (TextU.andL_back (by decide) h) | exact fun h => f5 (TextU.andL_back (by decide) h) | exact fun h => f6 (TextU.andL_back (by decide) h) | exact fun h => f7 (TextU.andL_back (by decide) h) | exact fun h => f8 (TextU.andL_back (by decide) h) | exact fun h => f9 (TextU.andL_back (by decide) h) | exact fun h => f12 (TextU.andL_back (by decide) h) | exact fun h => f13 (TextU.andL_back (by decide) h) | exact fun h h' => f10 (TextU.andL_back (by decide) h) (TextU.andL_off h') | exact fun h h' => f11 (TextU.andL_back (by decide) h) (TextU.andL_off h') | exact fun h h' => fd.out (TextU.andL_back (by decide) h) (TextU.andL_back (by decide) h') | exact fun h => ⟨TextU.andL_old (fi.out (TextU.andL_back (by decide) h)).1, TextU.andL_old (fi.out (TextU.andL_back (by decide) h)).2.1, TextU.andL_old (fi.out (TextU.andL_back (by decide) h)).2.2.1, TextU.andL_old (fi.out (TextU.andL_back (by decide) h)).2.2.2⟩ | exact fun h => TextU.andL_old (fj.out (TextU.andL_back (by decide) h))
    ·obtain rfl := f1 (hd ⟨1, .data⟩ (by simp) rfl)
     obtain rfl := f3 (hd ⟨3, .data⟩ (by simp) rfl)
     have HC := Lib.hid (HN1.out w' HB.out)
     go_wp2_with fail
     refine HC.out.mono ?_
     rintro e w'' ⟨v, rfl, ho, hb⟩
     have HBX := Lib.hid (HB.out.trans (hb.mono HB.out.size))
     have G := Lib.hid (ho.more HB.out.size)
     have f9 := fun h => (f9 h).below hb
     have f10 := fun h h' => blk_lift (f10 h h') hb
     have f11 := fun h h' => blk_lift (f11 h h') hb
     have f12 := fun h => blk_lift (f12 h) hb
     have f13 := fun h => blk_lift (f13 h) hb
     clear ho hb
     go_wp2_with fail
     refine HJ.out _ _ _ ⟨_, _, _, _, _, _, _, _, _, _, _, _, rfl, HBX.out, ?_, ?_, ?_, ?_, ?_, ?_, ?_, ?_, ?_, ?_, ?_, ?_, ?_, ?_, ?_, ?_, ?_⟩
     all_goals first | exact fun _ => rfl | exact fun _ => G.out | exact fun h => absurd (fi.out (TextU.andL_back (by decide) h)).2.1 (by rw [hL]; decide) | exact fun h => absurd (fi.out (fj.out (TextU.andL_back (by decide) h))).2.1 (by rw [hL]; decide) | exact fun h => f0 (TextU.andL_back (by decide) h) | exact fun h => f1 (TextU.andL_back (by decide) h) | exact fun h => f2 (TextU.andL_back (by decide) h) | exact fun h => f3 (TextU.andL_back (by decide) h) | exact fun h => f4 (TextU.andL_back (by decide) h) | exact fun h => f5 (TextU.andL_back (by decide) h) | exact fun h => f6 (TextU.andL_back (by decide) h) | exact fun h => f7 (TextU.andL_back (by decide) h) | exact fun h => f8 (TextU.andL_back (by decide) h) | exact fun h => f9 (TextU.andL_back (by decide) h) | exact fun h => f12 (TextU.andL_back (by decide) h) | exact fun h => f13 (TextU.andL_back (by decide) h) | exact fun h h' => f10 (TextU.andL_back (by decide) h) (TextU.andL_off h') | exact fun h h' => f11 (TextU.andL_back (by decide) h) (TextU.andL_off h') | exact fun h h' => fd.out (TextU.andL_back (by decide) h) (TextU.andL_back (by decide) h') | exact fun h => ⟨TextU.andL_old (fi.out (TextU.andL_back (by decide) h)).1, TextU.andL_old (fi.out (TextU.andL_back (by decide) h)).2.1, TextU.andL_old (fi.out (TextU.andL_back (by decide) h)).2.2.1, TextU.andL_old (fi.out (TextU.andL_back (by decide) h)).2.2.2⟩ | exact fun h => TextU.andL_old (fj.out (TextU.andL_back (by decide) h))
    ·skip
     have HBX := Lib.hid HB.out
     go_wp2_with fail
     refine HJ.out _ _ _ ⟨_, _, _, _, _, _, _, _, _, _, _, _, rfl, HBX.out, ?_, ?_, ?_, ?_, ?_, ?_, ?_, ?_, ?_, ?_, ?_, ?_, ?_, ?_, ?_, ?_, ?_⟩
     all_goals first | exact fun _ => rfl | exact fun h => f0 (TextU.andL_back (by decide) h) | exact fun h => f1 (TextU.andL_back (by decide) h) | exact fun h => f2 (TextU.andL_back (by decide) h) | exact fun h => f3 (TextU.andL_back (by decide) h) | exact fun h => f4 (TextU.andL_back (by decide) h) | exact fun h => f5 (TextU.andL_back (by decide) h) | exact fun h => f6 (TextU.andL_back (by decide) h) | exact fun h => f7 (TextU.andL_back (by decide) h) | exact fun h => f8 (TextU.andL_back (by decide) h) | exact fun h => f9 (TextU.andL_back (by decide) h) | exact fun h => f12 (TextU.andL_back (by decide) h) | exact fun h => f13 (TextU.andL_back (by decide) h) | exact fun h h' => f10 (TextU.andL_back (by decide) h) (TextU.andL_off h') | exact fun h h' => f11 (TextU.andL_back (by decide) h) (TextU.andL_off h') | exact fun h h' => fd.out (TextU.andL_back (by decide) h) (TextU.andL_back (by decide) h') | exact fun h => ⟨TextU.andL_old (fi.out (TextU.andL_back (by decide) h)).1, TextU.andL_old (fi.out (TextU.andL_back (by decide) h)).2.1, TextU.andL_old (fi.out (TextU.andL_back (by decide) h)).2.2.1, TextU.andL_old (fi.out (TextU.andL_back (by decide) h)).2.2.2⟩ | exact fun h => TextU.andL_old (fj.out (TextU.andL_back (by decide) h))
    ·obtain rfl := f5 (hd ⟨5, .data⟩ (by simp) rfl)
     have hc : w'.cell? ⟨S, 1, none⟩ = some (.slice A2 m c2) := by rw [cell_of_row _ _ _ _ _ _ ((HB.out.block S (by have := HZ0.out; omega)).trans HG0.out)]; rfl
     have HBX := Lib.hid HB.out
     go_wp2_with fail
     refine HJ.out _ _ _ ⟨_, _, _, _, _, _, _, _, _, _, _, _, rfl, HBX.out, ?_, ?_, ?_, ?_, ?_, ?_, ?_, ?_, ?_, ?_, ?_, ?_, ?_, ?_, ?_, ?_, ?_⟩
     all_goals first | exact fun _ => rfl | exact fun h => f0 (TextU.andL_back (by decide) h) | exact fun h => f1 (TextU.andL_back (by decide) h) | exact fun h => f2 (TextU.andL_back (by decide) h) | exact fun h => f3 (TextU.andL_back (by decide) h) | exact fun h => f4 (TextU.andL_back (by decide) h) | exact fun h => f5 (TextU.andL_back (by decide) h) | exact fun h => f6 (TextU.andL_back (by decide) h) | exact fun h => f7 (TextU.andL_back (by decide) h) | exact fun h => f8 (TextU.andL_back (by decide) h) | exact fun h => f9 (TextU.andL_back (by decide) h) | exact fun h => f12 (TextU.andL_back (by decide) h) | exact fun h => f13 (TextU.andL_back (by decide) h) | exact fun h h' => f10 (TextU.andL_back (by decide) h) (TextU.andL_off h') | exact fun h h' => f11 (TextU.andL_back (by decide) h) (TextU.andL_off h') | exact fun h h' => fd.out (TextU.andL_back (by decide) h) (TextU.andL_back (by decide) h') | exact fun h => ⟨TextU.andL_old (fi.out (TextU.andL_back (by decide) h)).1, TextU.andL_old (fi.out (TextU.andL_back (by decide) h)).2.1, TextU.andL_old (fi.out (TextU.andL_back (by decide) h)).2.2.1, TextU.andL_old (fi.out (TextU.andL_back (by decide) h)).2.2.2⟩ | exact fun h => TextU.andL_old (fj.out (TextU.andL_back (by decide) h))
    ·skip
     have HBX := Lib.hid HB.out
     go_wp2_with fail
     refine HJ.out _ _ _ ⟨_, _, _, _, _, _, _, _, _, _, _, _, rfl, HBX.out, ?_, ?_, ?_, ?_, ?_, ?_, ?_, ?_, ?_, ?_, ?_, ?_, ?_, ?_, ?_, ?_, ?_⟩
     all_goals first | exact fun _ => rfl | exact fun h => f0 (TextU.andL_back (by decide) h) | exact fun h => f1 (TextU.andL_back (by decide) h) | exact fun h => f2 (TextU.andL_back (by decide) h) | exact fun h => f3 (TextU.andL_back (by decide) h) | exact fun h => f4 (TextU.andL_back (by decide) h) | exact fun h => f5 (TextU.andL_back (by decide) h) | exact fun h => f6 (TextU.andL_back (by decide) h) | exact fun h => f7 (TextU.andL_back (by decide) h) | exact fun h => f8 (TextU.andL_back (by decide) h) | exact fun h => f9 (TextU.andL_back (by decide) h) | exact fun h => f12 (TextU.andL_back (by decide) h) | exact fun h => f13 (TextU.andL_back (by decide) h) | exact fun h h' => f10 (TextU.andL_back (by decide) h) (TextU.andL_off h') | exact fun h h' => f11 (TextU.andL_back (by decide) h) (TextU.andL_off h') | exact fun h h' => fd.out (TextU.andL_back (by decide) h) (TextU.andL_back (by decide) h') | exact fun h => ⟨TextU.andL_old (fi.out (TextU.andL_back (by decide) h)).1, TextU.andL_old (fi.out (TextU.andL_back (by decide) h)).2.1, TextU.andL_old (fi.out (TextU.andL_back (by decide) h)).2.2.1, TextU.andL_old (fi.out (TextU.andL_back (by decide) h)).2.2.2⟩ | exact fun h => TextU.andL_old (fj.out (TextU.andL_back (by decide) h))
    ·obtain rfl := f7 (hd ⟨7, .data⟩ (by simp) rfl)
     have hc : w'.cell? ⟨P, 1, none⟩ = some (.slice B2 m e2) := by rw [cell_of_row _ _ _ _ _ _ ((HB.out.block P HPZ.out).trans HP0.out)]; rfl
     have HBX := Lib.hid HB.out
     go_wp2_with fail
     refine HJ.out _ _ _ ⟨_, _, _, _, _, _, _, _, _, _, _, _, rfl, HBX.out, ?_, ?_, ?_, ?_, ?_, ?_, ?_, ?_, ?_, ?_, ?_, ?_, ?_, ?_, ?_, ?_, ?_⟩
     all_goals first | exact fun _ => rfl | exact fun h => f0 (TextU.andL_back (by decide) h) | exact fun h => f1 (TextU.andL_back (by decide) h) | exact fun h => f2 (TextU.andL_back (by decide) h) | exact fun h => f3 (TextU.andL_back (by decide) h) | exact fun h => f4 (TextU.andL_back (by decide) h) | exact fun h => f5 (TextU.andL_back (by decide) h) | exact fun h => f6 (TextU.andL_back (by decide) h) | exact fun h => f7 (TextU.andL_back (by decide) h) | exact fun h => f8 (TextU.andL_back (by decide) h) | exact fun h => f9 (TextU.andL_back (by decide) h) | exact fun h => f12 (TextU.andL_back (by decide) h) | exact fun h => f13 (TextU.andL_back (by decide) h) | exact fun h h' => f10 (TextU.andL_back (by decide) h) (TextU.andL_off h') | exact fun h h' => f11 (TextU.andL_back (by decide) h) (TextU.andL_off h') | exact fun h h' => fd.out (TextU.andL_back (by decide) h) (TextU.andL_back (by decide) h') | exact fun h => ⟨TextU.andL_old (fi.out (TextU.andL_back (by decide) h)).1, TextU.andL_old (fi.out (TextU.andL_back (by decide) h)).2.1, TextU.andL_old (fi.out (TextU.andL_back (by decide) h)).2.2.1, TextU.andL_old (fi.out (TextU.andL_back (by decide) h)).2.2.2⟩ | exact fun h => TextU.andL_old (fj.out (TextU.andL_back (by decide) h))
    ·obtain rfl := f6 (hd ⟨6, .data⟩ (by simp) rfl)
     obtain rfl := f8 (hd ⟨8, .data⟩ (by simp) rfl)
     have HC := Lib.hid (HN2.out w' HB.out)
     go_wp2_with fail
     refine HC.out.mono ?_
     rintro e w'' ⟨v, rfl, ho, hb⟩
     have HBX := Lib.hid (HB.out.trans (hb.mono HB.out.size))
     have G := Lib.hid (ho.more HB.out.size)
     have f4 := fun h => (f4 h).below hb
     have f10 := fun h h' => blk_lift (f10 h h') hb
     have f11 := fun h h' => blk_lift (f11 h h') hb
     have f12 := fun h => blk_lift (f12 h) hb
     have f13 := fun h => blk_lift (f13 h) hb
     clear ho hb
     go_wp2_with fail
     refine HJ.out _ _ _ ⟨_, _, _, _, _, _, _, _, _, _, _, _, rfl, HBX.out, ?_, ?_, ?_, ?_, ?_, ?_, ?_, ?_, ?_, ?_, ?_, ?_, ?_, ?_, ?_, ?_, ?_⟩
     all_goals first | exact fun _ => rfl | exact fun _ => G.out | exact fun h => absurd (fi.out (TextU.andL_back (by decide) h)).2.2.2 (by rw [hL]; decide) | exact fun h => absurd (fi.out (fj.out (TextU.andL_back (by decide) h))).2.2.2 (by rw [hL]; decide) | exact fun h => f0 (TextU.andL_back (by decide) h) | exact fun h => f1 (TextU.andL_back (by decide) h) | exact fun h => f2 (TextU.andL_back (by decide) h) | exact fun h => f3 (TextU.andL_back (by decide) h) | exact fun h => f4 (TextU.andL_back (by decide) h) | exact fun h => f5 (TextU.andL_back (by decide) h) | exact fun h => f6 (TextU.andL_back (by decide) h) | exact fun h => f7 (TextU.andL_back (by decide) h) | exact fun h => f8 (TextU.andL_back (by decide) h) | exact fun h => f9 (TextU.andL_back (by decide) h) | exact fun h => f12 (TextU.andL_back (by decide) h) | exact fun h => f13 (TextU.andL_back (by decide) h) | exact fun h h' => f10 (TextU.andL_back (by decide) h) (TextU.andL_off h') | exact fun h h' => f11 (TextU.andL_back (by decide) h) (TextU.andL_off h') | exact fun h h' => fd.out (TextU.andL_back (by decide) h) (TextU.andL_back (by decide) h') | exact fun h => ⟨TextU.andL_old (fi.out (TextU.andL_back (by decide) h)).1, TextU.andL_old (fi.out (TextU.andL_back (by decide) h)).2.1, TextU.andL_old (fi.out (TextU.andL_back (by decide) h)).2.2.1, TextU.andL_old (fi.out (TextU.andL_back (by decide) h)).2.2.2⟩ | exact fun h => TextU.andL_old (fj.out (TextU.andL_back (by decide) h))
    ·have hb : Below w'.heap.size w' (w'.alloc (.cells #[.slice none 0 0] 34)) := (Below.refl _ _).alloc (Nat.le_refl _) _
     have HBX := Lib.hid (HB.out.trans (hb.mono HB.out.size))
     have HNEW := Lib.hid (blk_new w' #[.slice none 0 0] 34 HB.out.size)
     have HD := Lib.hid (show L 11 = true → Value.pointer (some ⟨w'.heap.size, 0, none⟩) ≠ x5 from fun h => by
      cases h13 : L 13 with
      |true => exact absurd (fi.out (fj.out h13)).1 (by rw [hL]; decide)
      |false =>
       obtain ⟨b, rfl, _, hbb⟩ := f11 h h13
       intro e
       injection e with e
       injection e with e
       injection e with e
       have := (Array.getElem?_eq_some_iff.1 hbb).1
       omega)
     have f4 := fun h => (f4 h).below hb
     have f9 := fun h => (f9 h).below hb
     have f11 := fun h h' => blk_lift (f11 h h') hb
     have f13 := fun h => blk_lift (f13 h) hb
     clear hb
     go_wp2_with fail
     generalize w'.alloc (.cells #[.slice none 0 0] 34) = w7 at *
     refine HJ.out _ _ _ ⟨_, _, _, _, _, _, _, _, _, _, _, _, rfl, HBX.out, ?_, ?_, ?_, ?_, ?_, ?_, ?_, ?_, ?_, ?_, ?_, ?_, ?_, ?_, ?_, ?_, ?_⟩
     all_goals first | exact fun _ => rfl | exact fun _ _ => HNEW.out | exact fun h => absurd (fi.out (TextU.andL_back (by decide) h)).1 (by rw [hL]; decide) | exact fun _ h' => HD.out (TextU.andL_back (by decide) h') | exact fun h => f0 (TextU.andL_back (by decide) h) | exact fun h => f1 (TextU.andL_back (by decide) h) | exact fun h => f2 (TextU.andL_back (by decide) h) | exact fun h => f3 (TextU.andL_back (by decide) h) | exact fun h => f4 (TextU.andL_back (by decide) h) | exact fun h => f5 (TextU.andL_back (by decide) h) | exact fun h => f6 (TextU.andL_back (by decide) h) | exact fun h => f7 (TextU.andL_back (by decide) h) | exact fun h => f8 (TextU.andL_back (by decide) h) | exact fun h => f9 (TextU.andL_back (by decide) h) | exact fun h => f12 (TextU.andL_back (by decide) h) | exact fun h => f13 (TextU.andL_back (by decide) h) | exact fun h h' => f10 (TextU.andL_back (by decide) h) (TextU.andL_off h') | exact fun h h' => f11 (TextU.andL_back (by decide) h) (TextU.andL_off h') | exact fun h h' => fd.out (TextU.andL_back (by decide) h) (TextU.andL_back (by decide) h') | exact fun h => ⟨TextU.andL_old (fi.out (TextU.andL_back (by decide) h)).1, TextU.andL_old (fi.out (TextU.andL_back (by decide) h)).2.1, TextU.andL_old (fi.out (TextU.andL_back (by decide) h)).2.2.1, TextU.andL_old (fi.out (TextU.andL_back (by decide) h)).2.2.2⟩ | exact fun h => TextU.andL_old (fj.out (TextU.andL_back (by decide) h))
    ·have hb : Below w'.heap.size w' (w'.alloc (.cells #[.slice none 0 0] 34)) := (Below.refl _ _).alloc (Nat.le_refl _) _
     have HBX := Lib.hid (HB.out.trans (hb.mono HB.out.size))
     have HNEW := Lib.hid (blk_new w' #[.slice none 0 0] 34 HB.out.size)
     have HD := Lib.hid (show L 10 = true → x4 ≠ Value.pointer (some ⟨w'.heap.size, 0, none⟩) from fun h => by
      cases h13 : L 12 with
      |true => exact absurd (fi.out h13).2.2.1 (by rw [hL]; decide)
      |false =>
       obtain ⟨b, rfl, _, hbb⟩ := f10 h h13
       intro e
       injection e with e
       injection e with e
       injection e with e
       have := (Array.getElem?_eq_some_iff.1 hbb).1
       omega)
     have f4 := fun h => (f4 h).below hb
     have f9 := fun h => (f9 h).below hb
     have f10 := fun h h' => blk_lift (f10 h h') hb
     have f12 := fun h => blk_lift (f12 h) hb
     clear hb
     go_wp2_with fail
     generalize w'.alloc (.cells #[.slice none 0 0] 34) = w7 at *
     refine HJ.out _ _ _ ⟨_, _, _, _, _, _, _, _, _, _, _, _, rfl, HBX.out, ?_, ?_, ?_, ?_, ?_, ?_, ?_, ?_, ?_, ?_, ?_, ?_, ?_, ?_, ?_, ?_, ?_⟩
     all_goals first | exact fun _ => rfl | exact fun _ _ => HNEW.out | exact fun h => absurd (fi.out (fj.out (TextU.andL_back (by decide) h))).2.2.1 (by rw [hL]; decide) | exact fun h _ => HD.out (TextU.andL_back (by decide) h) | exact fun h => f0 (TextU.andL_back (by decide) h) | exact fun h => f1 (TextU.andL_back (by decide) h) | exact fun h => f2 (TextU.andL_back (by decide) h) | exact fun h => f3 (TextU.andL_back (by decide) h) | exact fun h => f4 (TextU.andL_back (by decide) h) | exact fun h => f5 (TextU.andL_back (by decide) h) | exact fun h => f6 (TextU.andL_back (by decide) h) | exact fun h => f7 (TextU.andL_back (by decide) h) | exact fun h => f8 (TextU.andL_back (by decide) h) | exact fun h => f9 (TextU.andL_back (by decide) h) | exact fun h => f12 (TextU.andL_back (by decide) h) | exact fun h => f13 (TextU.andL_back (by decide) h) | exact fun h h' => f10 (TextU.andL_back (by decide) h) (TextU.andL_off h') | exact fun h h' => f11 (TextU.andL_back (by decide) h) (TextU.andL_off h') | exact fun h h' => fd.out (TextU.andL_back (by decide) h) (TextU.andL_back (by decide) h') | exact fun h => ⟨TextU.andL_old (fi.out (TextU.andL_back (by decide) h)).1, TextU.andL_old (fi.out (TextU.andL_back (by decide) h)).2.1, TextU.andL_old (fi.out (TextU.andL_back (by decide) h)).2.2.1, TextU.andL_old (fi.out (TextU.andL_back (by decide) h)).2.2.2⟩ | exact fun h => TextU.andL_old (fj.out (TextU.andL_back (by decide) h))
    ·
     have l10 := hd ⟨10, .data⟩ (by simp) rfl
     have l4 := hd ⟨4, .data⟩ (by simp) rfl
     have l11 := hd ⟨11, .phase⟩ (by simp) rfl
     have l9 := hd ⟨9, .chain⟩ (by simp) rfl
     have hne := fd.out l10 l11
     obtain ⟨b, rfl, hbs, hbh⟩ := f10 l10 hL
     have hx : x34.cells = [x34].toArray ∧ x34.oneCell' = true := by
      obtain ⟨A, c, e, _⟩ := (f4 l4).form
      rw [e]
      exact ⟨rfl, rfl⟩
     have f11 := fun h h' => blk_other (f11 h h') hne (b := b) [x34].toArray
     have HST := Lib.hid (store_rowC (P := Tryz.prog) (ty := 34) (vs := [x34]) (v := x34) hx.1 (by kernel_rfl) hbh rfl (by simp [hx.2]))
     have hkt := keepT_setRow (ts := [3]) (cs' := [x34].toArray) hbh (by decide)
     have HBX := Lib.hid (below_setRow HB.out hbs [x34].toArray)
     have HB8 := Lib.hid (show BlkAt (w'.setRow b [x34].toArray) W0.heap.size (.pointer (some ⟨b, 0, none⟩)) #[x34] 34 from ⟨b, rfl, hbs, setRow_heap _ _ _ _ _ _ hbh⟩)
     have f4 := fun h => (f4 h).keep hkt
     have f9 := fun h => (f9 h).keep hkt
     clear hkt
     go_wp2_with (refine stop_at none rfl ?_)
     refine Stop.go (wpList_store_agg rfl 34 rfl rfl rfl HST.out ?_)
     generalize w'.setRow b [x34].toArray = w7 at *
     generalize hac : Act.put _ _ _ = a9
     simp [Act.put] at hac
     subst hac
     go_wp2_with fail
     refine HJ.out _ _ _ ⟨_, _, _, _, _, _, _, _, _, _, _, _, rfl, HBX.out, ?_, ?_, ?_, ?_, ?_, ?_, ?_, ?_, ?_, ?_, ?_, ?_, ?_, ?_, ?_, ?_, ?_⟩
     all_goals first | exact fun _ => rfl | exact fun _ => HB8.out | exact fun _ h' => absurd h' (by rw [TextU.andL_self]; decide) | exact fun h => absurd (fj.out (TextU.andL_back (by decide) h)) (by rw [hL]; decide) | exact fun _ => ⟨TextU.andL_old l10, TextU.andL_old l4, TextU.andL_old l11, TextU.andL_old l9⟩ | exact fun h => f0 (TextU.andL_back (by decide) h) | exact fun h => f1 (TextU.andL_back (by decide) h) | exact fun h => f2 (TextU.andL_back (by decide) h) | exact fun h => f3 (TextU.andL_back (by decide) h) | exact fun h => f4 (TextU.andL_back (by decide) h) | exact fun h => f5 (TextU.andL_back (by decide) h) | exact fun h => f6 (TextU.andL_back (by decide) h) | exact fun h => f7 (TextU.andL_back (by decide) h) | exact fun h => f8 (TextU.andL_back (by decide) h) | exact fun h => f9 (TextU.andL_back (by decide) h) | exact fun h => f12 (TextU.andL_back (by decide) h) | exact fun h => f13 (TextU.andL_back (by decide) h) | exact fun h h' => f10 (TextU.andL_back (by decide) h) (TextU.andL_off h') | exact fun h h' => f11 (TextU.andL_back (by decide) h) (TextU.andL_off h') | exact fun h h' => fd.out (TextU.andL_back (by decide) h) (TextU.andL_back (by decide) h') | exact fun h => ⟨TextU.andL_old (fi.out (TextU.andL_back (by decide) h)).1, TextU.andL_old (fi.out (TextU.andL_back (by decide) h)).2.1, TextU.andL_old (fi.out (TextU.andL_back (by decide) h)).2.2.1, TextU.andL_old (fi.out (TextU.andL_back (by decide) h)).2.2.2⟩ | exact fun h => TextU.andL_old (fj.out (TextU.andL_back (by decide) h))
    ·
     have l12 := hd ⟨12, .chain⟩ (by simp) rfl
     have l11 := hd ⟨11, .data⟩ (by simp) rfl
     have l9 := hd ⟨9, .data⟩ (by simp) rfl
     have hne := fd.out (fi.out l12).1 l11
     obtain ⟨b, rfl, hbs, hbh⟩ := f11 l11 hL
     have hx : x39.cells = [x39].toArray ∧ x39.oneCell' = true := by
      obtain ⟨A, c, e, _⟩ := (f9 l9).form
      rw [e]
      exact ⟨rfl, rfl⟩
     have f12 := fun h => blk_other (f12 h) hne.symm (b := b) [x39].toArray
     have HST := Lib.hid (store_rowC (P := Tryz.prog) (ty := 34) (vs := [x39]) (v := x39) hx.1 (by kernel_rfl) hbh rfl (by simp [hx.2]))
     have hkt := keepT_setRow (ts := [3]) (cs' := [x39].toArray) hbh (by decide)
     have HBX := Lib.hid (below_setRow HB.out hbs [x39].toArray)
     have HB8 := Lib.hid (show BlkAt (w'.setRow b [x39].toArray) W0.heap.size (.pointer (some ⟨b, 0, none⟩)) #[x39] 34 from ⟨b, rfl, hbs, setRow_heap _ _ _ _ _ _ hbh⟩)
     have f4 := fun h => (f4 h).keep hkt
     have f9 := fun h => (f9 h).keep hkt
     clear hkt
     go_wp2_with (refine stop_at none rfl ?_)
     refine Stop.go (wpList_store_agg rfl 34 rfl rfl rfl HST.out ?_)
     generalize w'.setRow b [x39].toArray = w7 at *
     generalize hac : Act.put _ _ _ = a9
     simp [Act.put] at hac
     subst hac
     go_wp2_with fail
     refine HJ.out _ _ _ ⟨_, _, _, _, _, _, _, _, _, _, _, _, rfl, HBX.out, ?_, ?_, ?_, ?_, ?_, ?_, ?_, ?_, ?_, ?_, ?_, ?_, ?_, ?_, ?_, ?_, ?_⟩
     all_goals first | exact fun _ => rfl | exact fun _ => HB8.out | exact fun _ h' => absurd h' (by rw [TextU.andL_self]; decide) | exact fun _ h' => absurd (TextU.andL_off h') (by rw [l12]; decide) | exact fun _ => TextU.andL_old l12 | exact fun h => f0 (TextU.andL_back (by decide) h) | exact fun h => f1 (TextU.andL_back (by decide) h) | exact fun h => f2 (TextU.andL_back (by decide) h) | exact fun h => f3 (TextU.andL_back (by decide) h) | exact fun h => f4 (TextU.andL_back (by decide) h) | exact fun h => f5 (TextU.andL_back (by decide) h) | exact fun h => f6 (TextU.andL_back (by decide) h) | exact fun h => f7 (TextU.andL_back (by decide) h) | exact fun h => f8 (TextU.andL_back (by decide) h) | exact fun h => f9 (TextU.andL_back (by decide) h) | exact fun h => f12 (TextU.andL_back (by decide) h) | exact fun h => f13 (TextU.andL_back (by decide) h) | exact fun h h' => f10 (TextU.andL_back (by decide) h) (TextU.andL_off h') | exact fun h h' => f11 (TextU.andL_back (by decide) h) (TextU.andL_off h') | exact fun h h' => fd.out (TextU.andL_back (by decide) h) (TextU.andL_back (by decide) h') | exact fun h => ⟨TextU.andL_old (fi.out (TextU.andL_back (by decide) h)).1, TextU.andL_old (fi.out (TextU.andL_back (by decide) h)).2.1, TextU.andL_old (fi.out (TextU.andL_back (by decide) h)).2.2.1, TextU.andL_old (fi.out (TextU.andL_back (by decide) h)).2.2.2⟩ | exact fun h => TextU.andL_old (fj.out (TextU.andL_back (by decide) h))
   ·intro L7 a' w7 hall hJ
    obtain ⟨x4, x5, x30, x31, x32, x33, x34, x35, x36, x37, x38, x39, rfl, HB7, f0, f1, f2, f3, f4, f5, f6, f7, f8, f9, f10, f11, f12, f13, fd, fi, fj⟩ := hJ
    have HNL := Lib.hid (f4 (hall 4 (by decide)))
    have HTL := Lib.hid (f9 (hall 9 (by decide)))
    obtain ⟨g4, rfl, hg4, hh4⟩ := f12 (hall 12 (by decide))
    obtain ⟨g5, rfl, hg5, hh5⟩ := f13 (hall 13 (by decide))
    have HH4 := Lib.hid hh4
    have HH5 := Lib.hid hh5
    have HGS := Lib.hid (And.intro hg4 hg5)
    clear f0 f1 f2 f3 f4 f5 f6 f7 f8 f9 f10 f11 f12 f13 fd fi fj hh4 hh5 hall HN1 HN2 HG0 HP0 HZ0 HPZ hg4 hg5
    have HB8 := Lib.hid (show Below w6.heap.size w6 w7 from by
     have h := HB7.out
     rw [hW0] at h
     exact (Below.refl w6.heap.size w6).drew.trans h)
    have HGE := Lib.hid (show w6.heap.size ≤ g4 ∧ w6.heap.size ≤ g5 from by
     have h := HGS.out
     rw [hW0] at h
     exact h)
    have HPW := Lib.hid (Array.getElem?_eq_some_iff.1 HP6.out).1
    have hP7 := (HB8.out.block P (Array.getElem?_eq_some_iff.1 HP6.out).1).trans HP6.out
    have HP7 := Lib.hid hP7
    have HU7 := Lib.hid (own_below HU6.out HB8.out)
    have HV7 := Lib.hid (own_below HV6.out HB8.out)
    have HBX7 := Lib.hid (HBW.out w7 (by have h := HB7.out; rw [hW0] at h; exact h))
    have HR7 := Lib.hid ((HB8.out.block (S + 1) (Array.getElem?_eq_some_iff.1 HR6.out).1).trans HR6.out)
    have HG7 := Lib.hid ((HB8.out.block S (Array.getElem?_eq_some_iff.1 HG6.out).1).trans HG6.out)
    have hc2 : w7.cell? ⟨S, 2, none⟩ = some (.slice A3 q c3) := by rw [cell_of_row _ _ _ _ _ _ HG7.out]; rfl
    clear HB7 HGS HU6 HV6 HP6 HG6 HR6 HB6 hP7 HSU HSV HG3 HR3
    go_wp2_with fail
    have H37 := Lib.hid (H3.out.fut HBX7.out.1 (Nat.le_refl _) HBX7.out.2.1)
    have HPL := Lib.hid (show P < w6.heap.size ∧ P < w7.heap.size from by
     have h1 := (Array.getElem?_eq_some_iff.1 HP7.out).1
     refine ⟨?_, h1⟩
     rcases Nat.lt_or_ge P w6.heap.size with h | h
     ·exact h
     ·exact absurd h (by have := HPW.out; omega))
    have HCLO := Lib.hid (show ∀ (W : World) (x : Int), KeepP P w7 W → SymIn ns.length ts.length x → Calls Tryz.prog 72 #[.int .i64 x, .pointer (some ⟨g5, 0, none⟩), .pointer (some ⟨g4, 0, none⟩)] W fun e w' => e = .returned (.int .i64 (symM ns ts (canN ns) (sortW ts) x)) ∧ W = w' from fun W x hk hx => by
     have hkt : KeepT [3] w7 W := ⟨hk.size, fun g cur t ht hg => (hk.block g (Array.getElem?_eq_some_iff.1 hg).1 (fun e => by
      subst e
      rw [HP7.out] at hg
      injection hg with hg
      injection hg with _ hg
      subst hg
      exact absurd ht (by decide))).trans hg⟩
     have hb4 : W.heap[g4]? = some (.cells #[x34] 34 (0, 0)) := (hk.block g4 (Array.getElem?_eq_some_iff.1 HH4.out).1 (by have := HPL.out.1; have := HGE.out.1; omega)).trans HH4.out
     have hb5 : W.heap[g5]? = some (.cells #[x39] 34 (0, 0)) := (hk.block g5 (Array.getElem?_eq_some_iff.1 HH5.out).1 (by have := HPL.out.1; have := HGE.out.2; omega)).trans HH5.out
     have := of1_any1 g5 g4 x39 x34 _ _ W.heap.size x W (by rw [cell_of_row _ _ _ _ _ _ hb5]; rfl) (by rw [cell_of_row _ _ _ _ _ _ hb4]; rfl) (HTL.out.keep hkt).sl (HNL.out.keep hkt).sl (by rw [List.length_map]; exact hx.1) (by rw [List.length_map]; exact hx.2) (by rw [List.length_map, ← HMM.out]; omega) (by rw [List.length_map, ← HNN.out]; omega)
     rw [symM_of ns ts (canN ns) (sortW ts) hx] at this
     exact this)
    have HLC := Lib.hid (show LoopC w7 P (.slice B1 n e1) (.slice B2 m e2) ((rs.take 0).map (ruleM ns ts (canN ns) (sortW ts))) (.slice none 0 0) w7 from ⟨HP7.out, OwnT.nil _ _, ⟨Nat.le_refl _, rfl, rfl, rfl, fun _ _ _ => rfl⟩⟩)
    go_loopw [44] (fun v44 wr => ∃ (k : Nat) (v3 : Value), k ≤ q ∧ v44 = .int .i64 k ∧ Hid (LoopC w7 P (.slice B1 n e1) (.slice B2 m e2) ((rs.take k).map (ruleM ns ts (canN ns) (sortW ts))) v3 wr)) (fun v44 _ => q - (intOf v44).toNat)
    case atStart => exact ⟨0, _, by omega, rfl, HLC.out⟩
    case round =>
     clear HLC hc2
     obtain ⟨k, v3, hk, rfl, HLC⟩ := hrel
     by_cases hlt : k < q
     ·have hkl : k < rs.length := by rw [← HQQ.out]; exact hlt
      have HBR := Lib.hid (show Below S w wr from HBX7.out.1.trans ⟨HLC.out.keep.os, HLC.out.keep.tape, HLC.out.keep.output, HLC.out.keep.size, fun j hj => HLC.out.keep.block j (Nat.lt_of_lt_of_le hj HBX7.out.2.1) (by have := hPS; have := HZW.out; omega)⟩)
      have HSR := Lib.hid (Nat.le_trans HBX7.out.2.1 HLC.out.keep.size)
      obtain ⟨bb, off, cs, rfl, _, hbl, hrep, hcell⟩ := (H3.out.fut HBR.out (Nat.le_refl _) HSR.out).get hkl (by decide)
      obtain ⟨v, rfl, hsl, hz1, hz2⟩ := eRule_open hrep
      obtain ⟨A5, c5, rfl, hl5, hl6⟩ := hsl.form
      unfold maxLen at hl6
      have hr0 := hcell 0 _ rfl
      have hr1 := hcell 1 _ rfl
      simp only [show eRule.size = 2 from rfl, Nat.add_zero, ← Nat.add_assoc] at hr0 hr1
      have HFIT := Lib.hid (HGD.out.fit rs[k] (List.getElem_mem hkl))
      have HSL := Lib.hid hsl
      have HTK := Lib.hid (List.take_succ_eq_append_getElem hkl)
      clear hcell hrep hsl
      obtain ⟨r, hr⟩ : ∃ r, r = rs[k] := ⟨_, rfl⟩
      rw [← hr] at hr0 hr1 HFIT HSL HTK hl5 hz1 hz2
      clear hr
      obtain ⟨p, hpe⟩ : ∃ p, p = r.2.length := ⟨_, rfl⟩
      rw [← hpe] at hr1 HSL hl5
      have HPP := Lib.hid hpe
      clear hpe
      have HFI := Lib.hid (show (0 ≤ r.1 ∧ r.1 < ns.length) ∧ r.2.length ≤ 64 ∧ ∀ s ∈ r.2, SymIn ns.length ts.length s from by
       have h := HFIT.out
       simp only [List.length_map] at h
       exact h)
      have HFB := Lib.hid (show ∀ s, SymIn ns.length ts.length s → -9223372036854775808 ≤ symM ns ts (canN ns) (sortW ts) s ∧ symM ns ts (canN ns) (sortW ts) s ≤ 9223372036854775807 from fun s hs => by
       have h := symM_in (canN_perm ns) (sortW_perm ts) hs
       unfold SymIn at h
       have e1 := HNN.out
       have e2 := HMM.out
       omega)
      clear HFIT
      have HS0 := Lib.hid (show SymIn ns.length ts.length r.1 from ⟨by have := HFI.out.1.1; omega, HFI.out.1.2⟩)
      obtain ⟨F, hF⟩ : ∃ F, F = symM ns ts (canN ns) (sortW ts) := ⟨_, rfl⟩
      have HRM := Lib.hid (show ruleM ns ts (canN ns) (sortW ts) r = (F r.1, r.2.map F) by rw [hF]; rfl)
      rw [← hF] at HFB
      have HCL := Lib.hid (show ∀ (W : World) (x : Int), KeepP P w7 W → SymIn ns.length ts.length x → Calls Tryz.prog 72 #[.int .i64 x, .pointer (some ⟨g5, 0, none⟩), .pointer (some ⟨g4, 0, none⟩)] W fun e w' => e = .returned (.int .i64 (F x)) ∧ W = w' from fun W x h1 h2 => by rw [hF]; exact HCLO.out W x h1 h2)
      clear hF
      have HKA := Lib.hid ((Below.refl wr.heap.size wr).alloc (Nat.le_refl _) (.cells #[.int .i64 r.1, .slice A5 p c5] 36))
      have HRA := Lib.hid (Go.heap_alloc_new wr (.cells #[.int .i64 r.1, .slice A5 p c5] 36))
      have HZA := Lib.hid (World.size_alloc wr (.cells #[.int .i64 r.1, .slice A5 p c5] 36))
      have HC1 := Lib.hid (HCL.out _ r.1 (HLC.out.keep.trans (KeepP.of_below HKA.out (Nat.le_refl _))) HS0.out)
      go_wp2_with fail
      refine HC1.out.mono ?_
      rintro e w8 ⟨rfl, rfl⟩
      have HB0 := Lib.hid (HFB.out r.1 HS0.out)
      generalize F r.1 = M0 at *
      clear HC1
      generalize wr.alloc (.cells #[.int .i64 r.1, .slice A5 p c5] 36) = w8 at *
      obtain ⟨b9, hb9⟩ : ∃ b9, b9 = w8.heap.size := ⟨_, rfl⟩
      have HK9 := Lib.hid ((Below.refl w8.heap.size w8).alloc (Nat.le_refl _) (.cells #[.int .i64 M0, .slice none 0 0] 36))
      have HR9 := Lib.hid (Go.heap_alloc_new w8 (.cells #[.int .i64 M0, .slice none 0 0] 36))
      have HA9 := Lib.hid ((HK9.out.block wr.heap.size (by have := HZA.out; omega)).trans HRA.out)
      have ca1 : (w8.alloc (.cells #[.int .i64 M0, .slice none 0 0] 36)).cell? ⟨wr.heap.size, 1, none⟩ = some (.slice A5 p c5) := by rw [cell_of_row _ _ _ _ _ _ HA9.out]; rfl
      go_wp2_with fail
      clear ca1
      rw [← hb9] at HK9 HR9 ⊢
      have HB9 := Lib.hid hb9
      have HZ9 := Lib.hid (show wr.heap.size < b9 from by rw [hb9]; have := HZA.out; omega)
      have HSZ9 := Lib.hid (show (w8.alloc (.cells #[.int .i64 M0, .slice none 0 0] 36)).heap.size = b9 + 1 from by rw [World.size_alloc, ← hb9])
      clear hb9
      generalize w8.alloc (.cells #[.int .i64 M0, .slice none 0 0] 36) = w9 at *
      have HIN := Lib.hid (show InC w8 b9 M0 ((r.2.take 0).map F) (.slice none 0 0) w9 from ⟨HR9.out, OwnT.nil _ _, HK9.out⟩)
      generalize wr = wo at *
      go_loopw [56] (fun v56 wr => ∃ (j : Nat) (v9 : Value), j ≤ p ∧ v56 = .int .i64 j ∧ Hid (InC w8 b9 M0 ((r.2.take j).map F) v9 wr)) (fun v56 _ => p - (intOf v56).toNat)
      case atStart => exact ⟨0, _, by omega, rfl, HIN.out⟩
      case round =>
       clear HIN HK9 HR9 HSZ9
       obtain ⟨j, v9, hj, rfl, HIN⟩ := hrel
       have HLN := Lib.hid (show ((r.2.take j).map F).length = j by rw [List.length_map, List.length_take]; have := HPP.out; omega)
       have HKO := Lib.hid (show Below wo.heap.size wo wr from HKA.out.trans (HIN.out.keep.mono (Nat.le_of_lt HZ9.out)))
       by_cases hjl : j < p
       ·have hjr : j < r.2.length := by rw [← HPP.out]; exact hjl
        obtain ⟨b7, o7, cs, rfl, _, _, hrep, hcell⟩ := (HSL.out.below HKO.out).get hjr (by decide)
        obtain ⟨rfl, hs1, hs2⟩ := hrep
        have hc7 := hcell 0 _ rfl
        simp only [show eInt.size = 1 from rfl, Nat.mul_one, Nat.add_zero] at hc7
        clear hcell
        have HSY := Lib.hid (HFI.out.2.2 r.2[j] (List.getElem_mem hjr))
        have HTK2 := Lib.hid (show (r.2.take (j + 1)).map F = (r.2.take j).map F ++ [F r.2[j]] by rw [List.take_succ_eq_append_getElem hjr, List.map_append, List.map_singleton])
        generalize r.2[j] = s at *
        obtain ⟨A9, c9, hv9, hv91, hv92⟩ := HIN.out.own.form
        rw [HLN.out] at hv9 hv91
        subst hv9
        go_wp2_with fail
        clear hc7
        have hrow := HIN.out.row
        have HCX := Lib.hid (show wr.drew.cell? ⟨b9, 1, none⟩ = some (.slice A9 j c9) from by rw [cell_of_row wr.drew _ _ _ _ _ hrow]; rfl)
        refine wpU_start (fun w' => w'.cell? ⟨b9, 1, none⟩ = some (.slice A9 j c9)) [6] 9 (by kernel_rfl) rfl ?_
        have HIND := Lib.hid (show InC w8 b9 M0 ((r.2.take j).map F) (.slice A9 j c9) wr.drew from ⟨HIN.out.row, HIN.out.own.below ((Below.refl wr.heap.size wr).drew), HIN.out.keep.drew⟩)
        have HKD := Lib.hid (show Below wo.heap.size wo wr.drew from HKO.out.drew)
        clear HIN HKO hrow
        generalize wr.drew = wd at *
        refine wpU_pure (i := 0) (v := .pointer (some ⟨b9, 1, none⟩)) rfl (by kernel_rfl) (by kernel_rfl) (by kernel_rfl) (by kernel_rfl) (by kernel_rfl) rfl (fun wq => by go_simp) HCX.out ?_
        generalize hac : Act.put _ _ _ = a9
        simp [Act.put] at hac
        subst hac
        refine wpU_load (i := 1) (v := .slice A9 j c9) rfl (by kernel_rfl) (by kernel_rfl) (by kernel_rfl) (by kernel_rfl) (by kernel_rfl) (by kernel_rfl) rfl (fun wq hbq => exec_load rfl rfl (load_slice (e := 3) (by kernel_rfl) hbq)) HCX.out ?_
        generalize hac : Act.put _ _ _ = a9
        simp [Act.put] at hac
        subst hac
        refine wpU_pure (i := 2) (v := .func (.func 72) #[] #[.pointer (some ⟨g5, 0, none⟩), .pointer (some ⟨g4, 0, none⟩)]) rfl (by kernel_rfl) (by kernel_rfl) (by kernel_rfl) (by kernel_rfl) (by kernel_rfl) rfl (fun wq => by go_simp) HCX.out ?_
        generalize hac : Act.put _ _ _ = a9
        simp [Act.put] at hac
        subst hac
        refine wpU_pure (i := 3) (v := .int .i64 s) rfl (by kernel_rfl) (by kernel_rfl) (by kernel_rfl) (by kernel_rfl) (by kernel_rfl) rfl (fun wq => by go_simp) HCX.out ?_
        generalize hac : Act.put _ _ _ = a9
        simp [Act.put] at hac
        subst hac
        refine wpU_one (i := 4) (by kernel_rfl) rfl (fun Q' hQ' => ?_)
        go_wp2_with fail
        refine (HCL.out wd s (HLC.out.keep.trans (KeepP.of_below HKD.out (Nat.le_refl _))) HSY.out).mono ?_
        rintro e w10 ⟨rfl, rfl⟩
        have HBM := Lib.hid (HFB.out s HSY.out)
        generalize F s = M1 at *
        go_wp2_with fail
        refine ⟨okU HCX.out, ?_⟩
        have HB3 := Lib.hid ((Below.refl wd.heap.size wd).alloc (Nat.le_refl _) (.cells #[.int .i64 M1] 3))
        have HNEW := Lib.hid (Go.heap_alloc_new wd (.cells #[.int .i64 M1] 3))
        have HZN := Lib.hid (show wd.heap.size + 1 = (wd.alloc (.cells #[.int .i64 M1] 3)).heap.size from (World.size_alloc _ _).symm)
        refine wpU_one (i := 5) (by kernel_rfl) rfl (fun Q' hQ' => ?_)
        go_wp2_with fail
        generalize wd.alloc (.cells #[.int .i64 M1] 3) = w3' at *
        have HR3' := Lib.hid ((HB3.out.block b9 (Array.getElem?_eq_some_iff.1 HIND.out.row).1).trans HIND.out.row)
        refine ⟨okU (by rw [cell_of_row _ _ _ _ _ _ HR3'.out]; rfl), ?_⟩
        obtain ⟨css, h0, h2, h3⟩ := (HIND.out.own.below HB3.out).row
        rw [HLN.out] at h0 h2
        have hp64 : p ≤ 64 := by rw [HPP.out]; exact HFI.out.2.1
        have hbase : b9 + 1 ≤ w3'.heap.size := by have := (Array.getElem?_eq_some_iff.1 HR3'.out).1; omega
        refine wpU_one (i := 6) (by kernel_rfl) rfl (fun Q' hQ' => ?_)
        refine wpList_app (m := 1) int_app rfl rfl rfl rfl h0 (Rd.row (B := w3'.heap.size) HNEW.out (by rw [← HZN.out]; exact Nat.lt_succ_self _)) rfl (by simp [Value.oneCell']) (by simp only [maxLen]; omega) (by omega) hbase ?_
        intro v9' w11 hown11 hg11 _ _
        obtain ⟨A8, c8, hv8, _, _⟩ := own_form hown11
        subst hv8
        have HR11 := Lib.hid (grown_other h0 hg11 HR3'.out (by decide))
        have HNX := Lib.hid (InC.snoc (m := M1) HIND.out HB3.out (by rw [HLN.out]; exact h0) (by rw [HLN.out]; exact h2) h3 HBM.out (by rw [HLN.out]; exact hown11) hg11)
        rw [← HTK2.out] at HNX
        generalize hac : Act.put _ _ _ = a9
        simp [Act.put] at hac
        subst hac
        refine hQ' _ _ ⟨okU_past (by kernel_rfl), ?_⟩
        clear h0 h2 h3 hown11 hg11 HNEW HZN HB3 HR3' hbase HCX
        refine wpU_one (i := 7) (by kernel_rfl) rfl (fun Q' hQ' => ?_)
        go_wp2_with fail
        refine ⟨okU_past (by kernel_rfl), ?_⟩
        have hcell : w11.cell? ⟨b9, 1, none⟩ = some (.slice A9 j c9) := by rw [cell_of_row _ _ _ _ _ _ HR11.out]; rfl
        have hfr : w11.frozen? ⟨b9, 1, none⟩ = false := by simp [World.frozen?, HR11.out]
        refine wpU_one (i := 8) (by kernel_rfl) rfl (fun Q' hQ' => ?_)
        go_wp2_with fail
        refine ⟨okU_past (by kernel_rfl), ?_⟩
        refine wpU_end (by kernel_rfl) ?_ _
        clear hcell hfr HR11
        go_wp2_with fail
        go_roundw
        case rel => exact ⟨j + 1, _, by omega, by go_num, HNX.out⟩
        case measure => simp [intOf]; omega
       ·obtain rfl : j = p := by omega
        have HRX := Lib.hid (show r.2.take j = r.2 from by rw [HPP.out]; exact List.take_length)
        rw [HRX.out] at HIN HLN
        obtain ⟨A9, c9, hv9, hv91, hv92⟩ := HIN.out.own.form
        rw [HLN.out] at hv9 hv91
        subst hv9
        have HKL := Lib.hid (show ((rs.take k).map (ruleM ns ts (canN ns) (sortW ts))).length = k by rw [List.length_map, List.length_take]; have := HQQ.out; omega)
        obtain ⟨A3', c3', hv3, hv31, hv32⟩ := HLC.out.own.form
        rw [HKL.out] at hv3 hv31
        subst hv3
        have HPR := Lib.hid ((HKO.out.block P (Array.getElem?_eq_some_iff.1 HLC.out.row).1).trans HLC.out.row)
        have hp2 : wr.cell? ⟨P, 2, none⟩ = some (.slice A3' k c3') := by rw [cell_of_row _ _ _ _ _ _ HPR.out]; rfl
        have hb0 : wr.cell? ⟨b9, 0, none⟩ = some (.int .i64 M0) := by rw [cell_of_row _ _ _ _ _ _ HIN.out.row]; rfl
        have hb1' : wr.cell? ⟨b9, 1, none⟩ = some (.slice A9 j c9) := by rw [cell_of_row _ _ _ _ _ _ HIN.out.row]; rfl
        have HBA := Lib.hid ((Below.refl wr.heap.size wr).alloc (Nat.le_refl _) (.cells #[.int .i64 M0, .slice A9 j c9] 36))
        have HNEW := Lib.hid (Go.heap_alloc_new wr (.cells #[.int .i64 M0, .slice A9 j c9] 36))
        have HKA2 := Lib.hid (HKO.out.trans (HBA.out.mono HKO.out.size))
        have HW7 := Lib.hid (HLC.out.keep.size)
        obtain ⟨css, h0, h2, h3⟩ := (HLC.out.own.below HKA2.out).row
        rw [HKL.out] at h0 h2
        go_wp2_with (at_builtin; refine wpList_app (m := 1) rule_app rfl rfl rfl rfl h0 (Rd.row (B := wr.heap.size + 1) HNEW.out (Nat.lt_succ_self _)) rfl (by simp [Value.oneCell']) ?h63 ?hby ?hbase ?_)
        case h63 => simp only [maxLen]; omega
        case hby => omega
        case hbase => exact Nat.le_trans HW7.out HKA2.out.size
        intro v3' w12 hown12 hg12 _ _
        obtain ⟨A8, c8, hv8, _, _⟩ := own_form hown12
        subst hv8
        have HR12 := Lib.hid (grown_other h0 hg12 ((HKA2.out.block P (Array.getElem?_eq_some_iff.1 HLC.out.row).1).trans HLC.out.row) (by decide))
        have HNX := Lib.hid (LoopC.snoc (r := ruleM ns ts (canN ns) (sortW ts) r) HLC.out HPL.out.2 HKA2.out (by rw [HKL.out]; exact h0) (by rw [HKL.out]; exact h2) h3 (by
         rw [HRM.out]
         exact ⟨[.int .i64 M0], [.slice A9 j c9], rfl, ⟨rfl, HB0.out⟩, _, rfl, (HIN.out.own.below HBA.out).more (by have := HW7.out; have := HZ9.out; omega)⟩) (by rw [HKL.out]; exact hown12) hg12)
        have hcell : w12.cell? ⟨P, 2, none⟩ = some (.slice A3' k c3') := by rw [cell_of_row _ _ _ _ _ _ HR12.out]; rfl
        have hfr : w12.frozen? ⟨P, 2, none⟩ = false := by simp [World.frozen?, HR12.out]
        clear h0 h2 h3 hown12 hg12
        go_wp2_with fail
        go_roundw
        case rel => exact ⟨k + 1, _, by omega, by go_num, by rw [HTK.out, List.map_append, List.map_singleton]; exact HNX.out⟩
        case measure => simp [intOf]; omega
     ·obtain rfl : k = q := by omega
      have HALL := Lib.hid (show rs.take k = rs from by rw [HQQ.out]; exact List.take_length)
      rw [HALL.out] at HLC
      have HOK := Lib.hid (show ∀ r ∈ rs.map (ruleM ns ts (canN ns) (sortW ts)), RuleOk r from fun r hr => by
       obtain ⟨x, hx, rfl⟩ := List.mem_map.1 hr
       intro s hs
       obtain ⟨y, hy, rfl⟩ := List.mem_map.1 (show s ∈ x.2.map _ from hs)
       have hf := (HGD.out.fit x hx).2.2 y hy
       simp only [List.length_map] at hf
       have h := (symM_in (canN_perm ns) (sortW_perm ts) hf).1
       have e2 := HMM.out
       omega)
      have HKL := Lib.hid (show (rs.map (ruleM ns ts (canN ns) (sortW ts))).length = k by rw [List.length_map]; exact HQQ.out.symm)
      obtain ⟨A3', c3', hv3, hv31, hv32⟩ := HLC.out.own.form
      rw [HKL.out] at hv3 hv31
      subst hv3
      have hp2 : wr.cell? ⟨P, 2, none⟩ = some (.slice A3' k c3') := by rw [cell_of_row _ _ _ _ _ _ HLC.out.row]; rfl
      go_wp2_with fail
      refine (sortRules_any w7.heap.size (.slice A3' k c3') (rs.map (ruleM ns ts (canN ns) (sortW ts))) wr HLC.out.own HOK.out (by rw [HKL.out]; omega)).mono ?_
      rintro e w13 ⟨rfl, ho13, hg13⟩
      obtain ⟨css, h0, _⟩ := HLC.out.own.row
      have HR13 := Lib.hid (grown_other h0 hg13 HLC.out.row (by decide))
      have HKS := Lib.hid ((HLC.out.keep.T (ts := [9]) HP7.out (by decide)).trans (KeepT.of_grown h0 hg13 (by decide)))
      have HBS := Lib.hid (show Below S w wr from HBX7.out.1.trans ⟨HLC.out.keep.os, HLC.out.keep.tape, HLC.out.keep.output, HLC.out.keep.size, fun j hj => HLC.out.keep.block j (Nat.lt_of_lt_of_le hj HBX7.out.2.1) (by have := hPS; have := HZW.out; omega)⟩)
      have HBT := Lib.hid (grown_below HBS.out hg13 h0 (by have := HBX7.out.2.1; omega) (by have := HBX7.out.2.1; have := HLC.out.keep.size; omega))
      have HO13 := Lib.hid ho13
      have HRS := Lib.hid (show w13.heap[S + 1]? = some (.cells #[.slice none 0 0, .slice none 0 0, .slice none 0 0] 25 (0, 0)) from by
       have h1 := (HLC.out.keep.block (S + 1) (Array.getElem?_eq_some_iff.1 HR7.out).1 (by have := hPS; have := HZW.out; omega)).trans HR7.out
       exact grown_other h0 hg13 h1 (by decide))
      clear ho13 hg13 h0 hp2
      obtain ⟨g0, g1, g2⟩ := rowC_cells HR13.out
      go_wp2_with (refine stop_at none rfl ?_)
      refine Stop.go (wpList_store_agg rfl 25 rfl rfl rfl (store_rowC (vs := [.slice B1 n e1, .slice B2 m e2, .slice A3' k c3']) rfl (by kernel_rfl) HRS.out rfl (by intro u hu; simp at hu; rcases hu with rfl | rfl | rfl <;> rfl)) ?_)
      have HNN2 := Lib.hid (setRow_heap _ _ _ _ _ _ HRS.out : (w13.setRow (S + 1) [.slice B1 n e1, .slice B2 m e2, .slice A3' k c3'].toArray).heap[S + 1]? = _)
      have HBN := Lib.hid (below_setRow HBT.out (Nat.le_succ S) [.slice B1 n e1, .slice B2 m e2, .slice A3' k c3'].toArray)
      have HK1 := Lib.hid (keepT_setRow (ts := [9, 36, 3]) (cs' := [.slice B1 n e1, .slice B2 m e2, .slice A3' k c3'].toArray) HRS.out (by decide))
      generalize w13.setRow (S + 1) [.slice B1 n e1, .slice B2 m e2, .slice A3' k c3'].toArray = w14 at *
      generalize hac : Act.put _ _ _ = a9
      simp [Act.put] at hac
      subst hac
      go_wp2_with fail
      have HFN := Lib.hid (show Fits (canN ns) from fun x hx => by
       have hx' := (canN_perm ns).mem_iff.1 hx
       exact HSN.out.fits x hx')
      have HFT := Lib.hid (show Fits (sortW ts) from fun x hx => by
       have hx' := (sortW_perm ts).mem_iff.1 hx
       exact HST.out.fits x hx')
      have hU := own_keepT (own_keepT HU7.out HKS.out (by simp)) HK1.out (by simp)
      have hV := own_keepT (own_keepT HV7.out HKS.out (by simp)) HK1.out (by simp)
      have eU : n = (canN ns).length := by rw [canN_len]; exact HNN.out
      have eV : m = (sortW ts).length := by rw [sortW_len]; exact HMM.out
      have hw := HO13.out.keep (w' := w14) (HK1.out.less (by simp [oRule, oProd, oInt, oPure, oSl]))
      refine ret_gram rfl rfl rfl HNN2.out ⟨_, _, _, rfl, ?_, ?_, hw.sl, by rw [← HS.out]; exact HBN.out⟩
      ·exact slW_own (base := w3.heap.size) (t := 9) HFN.out (by rw [← eU]; exact hU)
      ·exact slW_own (base := MV) (t := 9) HFT.out (by rw [← eV]; exact hV)
end Go.Proofs.YthojelhpipmkiaaGreatDoor
