import Derived.Test.YthojelhpipmkiaaGreatDoorKO23
import Derived.Test.YthojelhpipmkiaaGreatDoorKO21
import Derived.Test.YthojelhpipmkiaaGreatDoorKO08
import Derived.Test.YthojelhpipmkiaaGreatDoorKO10
import Derived.Test.YthojelhpipmkiaaGreatDoorKO09
import Derived.Deep.DeepCutAuto
import Derived.Test.YthojelhpipmkiaaGreatDoorKO11
namespace Go.Proofs.YthojelhpipmkiaaGreatDoor
open Go.RowKit

theorem load_strC {P : Program} {w : World} {ty : TypeId} {v : Value} {p : Addr} (hu : P.underlying ty = some .string) (hc : w.cell? p = some v) : (Instr.loadAt ty (.pointer (some p))).run P w = .ok v w := by
 have hagg : (isAgg ty).run P w = .ok false w := by
  unfold isAgg
  rw [Sem.run_bind, run_underlying hu w]
  rfl
 simp [Instr.loadAt, Instr.sureAddr, loadVar, Sem.run_bind, hagg, hc]
theorem find_word (v : Value) (ms : List Wd) (x : Wd) (M : Nat) (w : World) (h : SlR eStr w M v (ms.map toB)) (hM : M ≤ w.heap.size) (hx : x ∈ ms) :
  Calls Tryz.prog 37 #[v, wv x] w fun e w' => e = .returned (.int .i64 ((ms.idxOf x : Nat) : Int)) ∧ w = w' := by
 have hl := List.idxOf_lt_length_of_mem hx
 have e : idxOf (fun y => decide (y = toB x)) (ms.map toB) = ((ms.idxOf x : Nat) : Int) := by
  refine idxOf_hit (by rw [List.length_map]; exact hl) (fun j hj hji => ?_) ?_
  ·rw [List.getElem_map, decide_eq_false_iff_not]
   intro e
   have hjl : j < ms.length := by rw [List.length_map] at hj; exact hj
   have e2 : ms[j] = x := by rw [← ofB_toB ms[j], e, ofB_toB]
   have := List.not_of_lt_findIdx (p := (· == x)) (xs := ms) hji
   simp [e2] at this
  ·rw [List.getElem_map, decide_eq_true_eq, List.getElem_idxOf]
 have := find14_any v (ms.map toB) (toB x) w (h.more hM)
 rw [e] at this
 exact this
theorem slW_fit {w : World} {base : Nat} {t : TypeId} {v : Value} {n : Nat} {xs : List Wd} (h : w.ownsRow base t 1 v n (wcells xs)) (hf : Fits xs) (hn : n = xs.length) : SlR eStr w w.heap.size v (xs.map toB) := by
 subst hn
 have := slW_own hf h
 obtain ⟨A, c, css, e, h1, h2, h3, h4, h5⟩ := this
 refine ⟨A, c, css, by rw [List.length_map]; exact e, by rw [List.length_map]; exact h1, h2, by rw [List.length_map]; exact h3, h4, fun i cs x hc hx => ?_⟩
 rw [List.getElem?_map] at hx
 cases hxi : xs[i]? with
 |none => rw [hxi] at hx; cases hx
 |some y =>
  rw [hxi] at hx
  injection hx with hx
  subst hx
  exact h5 i cs y hc hxi
theorem flat_two : ∀ (css : List (List Value)) (a : Nat), (∀ cs ∈ css, cs.length = 2) → (css.take a).flatten = css.flatten.take (a * 2) ∧ (css.drop a).flatten = css.flatten.drop (a * 2)
 |[], a, _ => by simp
 |cs :: r, 0, _ => by simp
 |cs :: r, a + 1, h => by
  have h1 := h cs (List.mem_cons_self ..)
  obtain ⟨e1, e2⟩ := flat_two r a fun x hx => h x (List.mem_cons_of_mem _ hx)
  rw [List.take_succ_cons, List.drop_succ_cons, List.flatten_cons, List.flatten_cons, e1, e2]
  refine ⟨?_, ?_⟩
  ·rw [List.take_append, h1, List.take_of_length_le (l := cs) (by omega), show (a + 1) * 2 - 2 = a * 2 by omega]
  ·rw [List.drop_append, h1, List.drop_of_length_le (l := cs) (by omega), List.nil_append, show (a + 1) * 2 - 2 = a * 2 by omega]
theorem OwnT.ins {α : Type} {O : OElt α} {t : TypeId} {w w1 : World} {N a : Nat} {v1 : Value} {xs : List α} {x : α} {css : List (List Value)} {cs : List Value} (h2 : css.length = xs.length) (ha : a ≤ xs.length) (h3 : ∀ (i : Nat) (cs : List Value) (x : α), css[i]? = some cs → xs[i]? = some x → O.rep w N cs x)
  (hx : O.rep w N cs x) (hk : KeepT O.ts w w1) (ho : w1.ownsRow N t O.E.size v1 (xs.length + 1) ((css.take a).flatten ++ cs ++ (css.drop a).flatten)) : OwnT O t w1 N v1 (xs.take a ++ x :: xs.drop a) := by
 have l1 : (css.take a).length = a := by rw [List.length_take]; omega
 have l2 : (xs.take a).length = a := by rw [List.length_take]; omega
 have el : (xs.take a ++ x :: xs.drop a).length = xs.length + 1 := by
  rw [List.length_append, List.length_cons, List.length_take, List.length_drop]
  omega
 refine ⟨css.take a ++ cs :: css.drop a, ?_, ?_, fun i cs' x' hc hx' => ?_⟩
 ·rw [el, List.flatten_append, List.flatten_cons, ← List.append_assoc]
  exact ho
 ·rw [el, List.length_append, List.length_cons, List.length_take, List.length_drop]
  omega
 ·by_cases h : i < a
  ·rw [List.getElem?_append_left (by omega), List.getElem?_take_of_lt h] at hc hx'
   exact O.keep (h3 i cs' x' hc hx') hk
  ·by_cases h4 : i = a
   ·subst h4
    rw [List.getElem?_append_right (by omega), l1, Nat.sub_self, List.getElem?_cons_zero] at hc
    rw [List.getElem?_append_right (by omega), l2, Nat.sub_self, List.getElem?_cons_zero] at hx'
    injection hc with hc
    injection hx' with hx'
    subst hc hx'
    exact O.keep hx hk
   ·rw [List.getElem?_append_right (by omega), l1, show i - a = (i - a - 1) + 1 by omega, List.getElem?_cons_succ, List.getElem?_drop] at hc
    rw [List.getElem?_append_right (by omega), l2, show i - a = (i - a - 1) + 1 by omega, List.getElem?_cons_succ, List.getElem?_drop] at hx'
    exact O.keep (h3 _ cs' x' hc hx') hk
theorem LoopC.put {w7 wr w8 : World} {P : Nat} {u1 u2 v3 v' : Value} {l l' : List RuleD} (h : LoopC w7 P u1 u2 l v3 wr) (hb : Below wr.heap.size wr w8) (ho : OwnT oRule 36 w8 w7.heap.size v' l') : LoopC w7 P u1 u2 l' v' (w8.setCell ⟨P, 2, none⟩ v') := by
 have hz := (Array.getElem?_eq_some_iff.1 h.row).1
 have hr := (hb.block P hz).trans h.row
 have hk := keepT_setCell (ts := [36, 3]) (k := 2) hr (by decide) v'
 refine ⟨heap_setC hr v', ho.keep hk, h.keep.trans ((KeepP.of_below hb (Nat.le_refl _)).trans ⟨by simp [World.setCell], rfl, rfl, rfl, fun k hk hn => heap_setCell_other _ _ _ _ hn⟩)⟩
def Sor16To (l m : List Wd) (w : World) (e : Ending) (w' : World) : Prop := ∃ v, e = .returned v ∧ w'.ownsRow w.heap.size 9 1 v l.length (wcells m) ∧ Below w.heap.size w w'
theorem sortedN_any (v : Value) (l : List Wd) (w : World) (h : SlR eW w w.heap.size v l) (hn : l.length ≤ 1048576) : Calls Tryz.prog 43 #[v, .int .i64 1] w (Sor16To l (canN l) w) := sorted16_any v l 1 w h hn (by omega)
theorem sortedT_any (v : Value) (l : List Wd) (w : World) (h : SlR eW w w.heap.size v l) (hn : l.length ≤ 1048576) : Calls Tryz.prog 43 #[v, .int .i64 0] w (Sor16To l (sortW l) w) := by
 have := sorted16_any v l 0 w h hn (by omega)
 unfold Sorted16To at this
 rw [List.take_zero, List.drop_zero, List.nil_append] at this
 exact this
set_option maxRecDepth 100000 in
set_option maxHeartbeats 16000000 in
theorem canon16_any (v1 v2 v3 : Value) (ns ts : List Wd) (rs : List RuleD) (w : World) (hg : GoodC (ns.map toB, ts.map toB, rs)) (h1 : SlR eStr w w.heap.size v1 (ns.map toB)) (h2 : SlR eStr w w.heap.size v2 (ts.map toB)) (h3 : SlR eRule w w.heap.size v3 rs) :
  Calls Tryz.prog 17 #[.agg #[v1, v2, v3]] w (CanTo ns ts rs w) := by
 obtain ⟨A1, c1, rfl, ha1, ha2⟩ := h1.form
 obtain ⟨A2, c2, rfl, hb1, hb2⟩ := h2.form
 obtain ⟨A3, c3, rfl, hd1, hd2⟩ := h3.form
 unfold maxLen at ha2 hb2 hd2
 simp only [List.length_map] at h1 h2 ha1 hb1 ⊢
 have HGD := Lib.hid hg
 have H1 := Lib.hid h1
 have H2 := Lib.hid h2
 have H3 := Lib.hid h3
 clear h1 h2 h3 hg
 obtain ⟨n, hnn⟩ : ∃ n, n = ns.length := ⟨_, rfl⟩
 obtain ⟨m, hmm⟩ : ∃ m, m = ts.length := ⟨_, rfl⟩
 obtain ⟨q, hqq⟩ : ∃ q, q = rs.length := ⟨_, rfl⟩
 rw [← hnn] at H1 ha1 ⊢
 rw [← hmm] at H2 hb1 ⊢
 rw [← hqq] at H3 hd1 ⊢
 have HNN := Lib.hid hnn
 have HMM := Lib.hid hmm
 have HQQ := Lib.hid hqq
 have hnm : n + m ≤ 256 := by have := HGD.out.nm; simp only [List.length_map] at this; omega
 have hn1 : 1 ≤ n := by have := HGD.out.n1; simp only [List.length_map] at this; omega
 have hq4 : q ≤ 4096 := by have := HGD.out.q; simp only at this; omega
 clear hnn hmm hqq
 obtain ⟨S, hS⟩ : ∃ S, S = w.heap.size := ⟨_, rfl⟩
 have HS := Lib.hid hS
 have HB1 := Lib.hid (show Below S w ((w.alloc (.cells #[.slice A1 n c1, .slice A2 m c2, .slice A3 q c3] 25)).alloc (.cells #[.slice none 0 0, .slice none 0 0, .slice none 0 0] 25)) from
  ((Below.refl S w).alloc (Nat.le_of_eq hS) _).alloc (by rw [World.size_alloc]; omega) _)
 have HG1 := Lib.hid (show ((w.alloc (.cells #[.slice A1 n c1, .slice A2 m c2, .slice A3 q c3] 25)).alloc (.cells #[.slice none 0 0, .slice none 0 0, .slice none 0 0] 25)).heap[S]? = some (.cells #[.slice A1 n c1, .slice A2 m c2, .slice A3 q c3] 25 (0, 0)) by
  rw [Below.heap_alloc _ _ _ (by rw [World.size_alloc]; omega), hS]
  exact Go.heap_alloc_new w _)
 have HR1 := Lib.hid (show ((w.alloc (.cells #[.slice A1 n c1, .slice A2 m c2, .slice A3 q c3] 25)).alloc (.cells #[.slice none 0 0, .slice none 0 0, .slice none 0 0] 25)).heap[S + 1]? = some (.cells #[.slice none 0 0, .slice none 0 0, .slice none 0 0] 25 (0, 0)) by
  have := Go.heap_alloc_new (w.alloc (.cells #[.slice A1 n c1, .slice A2 m c2, .slice A3 q c3] 25)) (.cells #[.slice none 0 0, .slice none 0 0, .slice none 0 0] 25)
  rwa [World.size_alloc, ← hS] at this)
 rw [← hS] at H1 H2 H3
 go_enter Tryz.func17, Tryz.ntmps17
 go_wp2_with fail
 rw [← hS]
 clear hS
 generalize (w.alloc (.cells #[.slice A1 n c1, .slice A2 m c2, .slice A3 q c3] 25)).alloc (.cells #[.slice none 0 0, .slice none 0 0, .slice none 0 0] 25) = w2 at *
 have HG3 := Lib.hid (show w2.drew.heap[S]? = _ from HG1.out)
 have HR3 := Lib.hid (show w2.drew.heap[S + 1]? = _ from HR1.out)
 have HB3 := Lib.hid (show Below S w w2.drew from HB1.out.drew)
 have HZ3 := Lib.hid (show S + 1 < w2.drew.heap.size from (Array.getElem?_eq_some_iff.1 HR1.out).1)
 clear HG1 HR1 HB1
 refine TextU.wp_anyInv (fun L a' w' => ∃ x3 x16 x17 x18 x19 x20 x21 x22 : Value, a' = ⟨List.toArray (.agg #[.slice A1 n c1, .slice A2 m c2, .slice A3 q c3] :: .pointer (some ⟨S, 0, none⟩) :: .pointer (some ⟨S + 1, 0, none⟩) :: x3 :: undef :: undef :: undef :: undef :: undef :: undef :: x16 :: x17 :: x18 :: x19 :: x20 :: x21 :: x22 :: undef :: undef :: undef :: undef :: undef :: undef :: undef :: undef :: undef :: undef :: undef :: undef :: undef :: undef :: undef :: undef :: undef :: undef :: undef :: undef :: undef :: undef :: undef :: undef :: undef :: undef :: undef :: undef :: undef :: undef :: undef :: undef :: undef :: undef :: undef :: undef :: undef :: undef :: undef :: undef :: undef :: undef :: undef :: undef :: undef :: undef :: undef :: undef :: undef :: undef :: undef :: undef :: undef :: undef :: undef :: undef :: undef :: undef :: undef :: undef :: undef :: undef :: undef :: undef :: undef :: undef :: undef :: undef :: undef :: undef :: undef :: undef :: undef :: undef :: undef :: undef :: undef :: undef :: undef :: undef :: undef :: undef :: undef :: undef :: undef :: undef :: undef :: undef :: undef :: undef :: undef :: undef :: undef :: undef :: undef :: undef :: undef :: undef :: undef :: undef :: undef :: undef :: undef :: undef :: undef :: undef :: []), []⟩ ∧ Hid (Below w2.drew.heap.size w2.drew w') ∧ (L 0 = true → x16 = .pointer (some ⟨S, 0, none⟩)) ∧ (L 1 = true → x17 = .slice A1 n c1) ∧ (L 2 = true → w'.ownsRow w2.drew.heap.size 9 1 x18 n (wcells (canN ns))) ∧ (L 3 = true → x19 = .pointer (some ⟨S, 1, none⟩)) ∧ (L 4 = true → x20 = .slice A2 m c2) ∧ (L 5 = true → ApartAt w' w2.drew.heap.size x18 x21 m (wcells (sortW ts))) ∧ (L 6 = true → x22 = .agg #[x18, x21, .slice none 0 0]) ∧
  (L 7 = true → L 8 = false → BlkAt w' w2.drew.heap.size x3 #[.slice none 0 0, .slice none 0 0, .slice none 0 0] 25) ∧
  (L 8 = true → BlkAt w' w2.drew.heap.size x3 #[x18, x21, .slice none 0 0] 25) ∧ Hid (L 6 = true → L 2 = true ∧ L 5 = true) ∧ Hid (L 8 = true → L 7 = true ∧ L 6 = true) ∧ Hid (L 5 = true → L 2 = true)) (by kernel_rfl) (by kernel_rfl) ?_ ?_ ?_
 ·exact ⟨undef, undef, undef, undef, undef, undef, undef, undef, rfl, Below.refl _ _, by simp, by simp, by simp, by simp, by simp, by simp, by simp, by simp, by simp, by simp [Hid], by simp [Hid], by simp [Hid]⟩
 ·have HC1 := Lib.hid (show ∀ W, Below w2.drew.heap.size w2.drew W → Calls Tryz.prog 43 #[.slice A1 n c1, .int .i64 1] W (Sor16To ns (canN ns) W) from fun W hb => by
   have h := sortedN_any (.slice A1 n c1) ns W (sl_W (H1.out.fut (HB3.out.trans (hb.mono (show S ≤ w2.drew.heap.size by have := HZ3.out; omega))) (Nat.le_refl _) (B' := W.heap.size) (Nat.le_trans (show S ≤ w2.drew.heap.size by have := HZ3.out; omega) hb.size))) (by rw [← HNN.out]; omega)
   exact h)
  have HC2 := Lib.hid (show ∀ W, Below w2.drew.heap.size w2.drew W → Calls Tryz.prog 43 #[.slice A2 m c2, .int .i64 0] W (Sor16To ts (sortW ts) W) from fun W hb => by
   have h := sortedT_any (.slice A2 m c2) ts W (sl_W (H2.out.fut (HB3.out.trans (hb.mono (show S ≤ w2.drew.heap.size by have := HZ3.out; omega))) (Nat.le_refl _) (B' := W.heap.size) (Nat.le_trans (show S ≤ w2.drew.heap.size by have := HZ3.out; omega) hb.size))) (by rw [← HMM.out]; omega)
   exact h)
  generalize w2.drew = w3 at *
  intro j o L a' w' hj hL hd hJ J' Q' hJ' hQ'
  have HJ := Lib.hid hJ'
  clear hJ'
  have hj9 : j < 9 := (List.getElem?_eq_some_iff.1 hj).1
  obtain ⟨x3, x16, x17, x18, x19, x20, x21, x22, rfl, HB, f0, f1, f2, f3, f4, f5, f6, f7, f8, f9, f10, f11⟩ := hJ
  obtain rfl | rfl | rfl | rfl | rfl | rfl | rfl | rfl | rfl : j = 0 ∨ j = 1 ∨ j = 2 ∨ j = 3 ∨ j = 4 ∨ j = 5 ∨ j = 6 ∨ j = 7 ∨ j = 8 := by omega
  all_goals
   injection hj with hj
   subst hj
  ·go_wp2_with fail
   refine HJ.out _ _ _ ⟨_, _, _, _, _, _, _, _, rfl, HB, ?_, ?_, ?_, ?_, ?_, ?_, ?_, ?_, ?_, ?_, ?_, ?_⟩
   all_goals first | exact fun _ => rfl | exact fun h => TextU.andL_old (f11.out (TextU.andL_back (by decide) h)) | exact fun h => f0 (TextU.andL_back (by decide) h) | exact fun h => f1 (TextU.andL_back (by decide) h) | exact fun h => f2 (TextU.andL_back (by decide) h) | exact fun h => f3 (TextU.andL_back (by decide) h) | exact fun h => f4 (TextU.andL_back (by decide) h) | exact fun h => f5 (TextU.andL_back (by decide) h) | exact fun h => f6 (TextU.andL_back (by decide) h) | exact fun h => f8 (TextU.andL_back (by decide) h) | exact fun h h' => f7 (TextU.andL_back (by decide) h) (TextU.andL_off h') | exact fun h => ⟨TextU.andL_old (f9.out (TextU.andL_back (by decide) h)).1, TextU.andL_old (f9.out (TextU.andL_back (by decide) h)).2⟩ | exact fun h => ⟨TextU.andL_old (f10.out (TextU.andL_back (by decide) h)).1, TextU.andL_old (f10.out (TextU.andL_back (by decide) h)).2⟩
  ·obtain rfl := f0 (hd ⟨0, .data⟩ (by simp) rfl)
   have hc : w'.cell? ⟨S, 0, none⟩ = some (.slice A1 n c1) := by rw [cell_of_row _ _ _ _ _ _ ((HB.out.block S (by have := HZ3.out; omega)).trans HG3.out)]; rfl
   go_wp2_with fail
   refine HJ.out _ _ _ ⟨_, _, _, _, _, _, _, _, rfl, HB, ?_, ?_, ?_, ?_, ?_, ?_, ?_, ?_, ?_, ?_, ?_, ?_⟩
   all_goals first | exact fun _ => rfl | exact fun h => TextU.andL_old (f11.out (TextU.andL_back (by decide) h)) | exact fun h => f0 (TextU.andL_back (by decide) h) | exact fun h => f1 (TextU.andL_back (by decide) h) | exact fun h => f2 (TextU.andL_back (by decide) h) | exact fun h => f3 (TextU.andL_back (by decide) h) | exact fun h => f4 (TextU.andL_back (by decide) h) | exact fun h => f5 (TextU.andL_back (by decide) h) | exact fun h => f6 (TextU.andL_back (by decide) h) | exact fun h => f8 (TextU.andL_back (by decide) h) | exact fun h h' => f7 (TextU.andL_back (by decide) h) (TextU.andL_off h') | exact fun h => ⟨TextU.andL_old (f9.out (TextU.andL_back (by decide) h)).1, TextU.andL_old (f9.out (TextU.andL_back (by decide) h)).2⟩ | exact fun h => ⟨TextU.andL_old (f10.out (TextU.andL_back (by decide) h)).1, TextU.andL_old (f10.out (TextU.andL_back (by decide) h)).2⟩
  ·obtain rfl := f1 (hd ⟨1, .data⟩ (by simp) rfl)
   have HC := Lib.hid (HC1.out w' HB.out)
   go_wp2_with fail
   refine HC.out.mono ?_
   rintro e w'' ⟨v, rfl, ho, hb⟩
   have HBX := Lib.hid (HB.out.trans (hb.mono HB.out.size))
   have g := own_more ho HB.out.size
   rw [← HNN.out] at g
   have G := Lib.hid g
   have f7 := fun h h' => blk_lift (f7 h h') hb
   have f8 := fun h => blk_lift (f8 h) hb
   clear ho hb g
   go_wp2_with fail
   refine HJ.out _ _ _ ⟨_, _, _, _, _, _, _, _, rfl, HBX.out, ?_, ?_, ?_, ?_, ?_, ?_, ?_, ?_, ?_, ?_, ?_, ?_⟩
   all_goals first | exact fun _ => rfl | exact fun h => TextU.andL_old (f11.out (TextU.andL_back (by decide) h)) | exact fun _ => G.out | exact fun h => absurd (f11.out (TextU.andL_back (by decide) h)) (by rw [hL]; decide) | exact fun h => absurd (f9.out (TextU.andL_back (by decide) h)).1 (by rw [hL]; decide) | exact fun h => absurd (f9.out (f10.out (TextU.andL_back (by decide) h)).2).1 (by rw [hL]; decide) | exact fun h => f0 (TextU.andL_back (by decide) h) | exact fun h => f1 (TextU.andL_back (by decide) h) | exact fun h => f2 (TextU.andL_back (by decide) h) | exact fun h => f3 (TextU.andL_back (by decide) h) | exact fun h => f4 (TextU.andL_back (by decide) h) | exact fun h => f5 (TextU.andL_back (by decide) h) | exact fun h => f6 (TextU.andL_back (by decide) h) | exact fun h => f8 (TextU.andL_back (by decide) h) | exact fun h h' => f7 (TextU.andL_back (by decide) h) (TextU.andL_off h') | exact fun h => ⟨TextU.andL_old (f9.out (TextU.andL_back (by decide) h)).1, TextU.andL_old (f9.out (TextU.andL_back (by decide) h)).2⟩ | exact fun h => ⟨TextU.andL_old (f10.out (TextU.andL_back (by decide) h)).1, TextU.andL_old (f10.out (TextU.andL_back (by decide) h)).2⟩
  ·go_wp2_with fail
   refine HJ.out _ _ _ ⟨_, _, _, _, _, _, _, _, rfl, HB, ?_, ?_, ?_, ?_, ?_, ?_, ?_, ?_, ?_, ?_, ?_, ?_⟩
   all_goals first | exact fun _ => rfl | exact fun h => TextU.andL_old (f11.out (TextU.andL_back (by decide) h)) | exact fun h => f0 (TextU.andL_back (by decide) h) | exact fun h => f1 (TextU.andL_back (by decide) h) | exact fun h => f2 (TextU.andL_back (by decide) h) | exact fun h => f3 (TextU.andL_back (by decide) h) | exact fun h => f4 (TextU.andL_back (by decide) h) | exact fun h => f5 (TextU.andL_back (by decide) h) | exact fun h => f6 (TextU.andL_back (by decide) h) | exact fun h => f8 (TextU.andL_back (by decide) h) | exact fun h h' => f7 (TextU.andL_back (by decide) h) (TextU.andL_off h') | exact fun h => ⟨TextU.andL_old (f9.out (TextU.andL_back (by decide) h)).1, TextU.andL_old (f9.out (TextU.andL_back (by decide) h)).2⟩ | exact fun h => ⟨TextU.andL_old (f10.out (TextU.andL_back (by decide) h)).1, TextU.andL_old (f10.out (TextU.andL_back (by decide) h)).2⟩
  ·obtain rfl := f3 (hd ⟨3, .data⟩ (by simp) rfl)
   have hc : w'.cell? ⟨S, 1, none⟩ = some (.slice A2 m c2) := by rw [cell_of_row _ _ _ _ _ _ ((HB.out.block S (by have := HZ3.out; omega)).trans HG3.out)]; rfl
   go_wp2_with fail
   refine HJ.out _ _ _ ⟨_, _, _, _, _, _, _, _, rfl, HB, ?_, ?_, ?_, ?_, ?_, ?_, ?_, ?_, ?_, ?_, ?_, ?_⟩
   all_goals first | exact fun _ => rfl | exact fun h => TextU.andL_old (f11.out (TextU.andL_back (by decide) h)) | exact fun h => f0 (TextU.andL_back (by decide) h) | exact fun h => f1 (TextU.andL_back (by decide) h) | exact fun h => f2 (TextU.andL_back (by decide) h) | exact fun h => f3 (TextU.andL_back (by decide) h) | exact fun h => f4 (TextU.andL_back (by decide) h) | exact fun h => f5 (TextU.andL_back (by decide) h) | exact fun h => f6 (TextU.andL_back (by decide) h) | exact fun h => f8 (TextU.andL_back (by decide) h) | exact fun h h' => f7 (TextU.andL_back (by decide) h) (TextU.andL_off h') | exact fun h => ⟨TextU.andL_old (f9.out (TextU.andL_back (by decide) h)).1, TextU.andL_old (f9.out (TextU.andL_back (by decide) h)).2⟩ | exact fun h => ⟨TextU.andL_old (f10.out (TextU.andL_back (by decide) h)).1, TextU.andL_old (f10.out (TextU.andL_back (by decide) h)).2⟩
  ·obtain rfl := f4 (hd ⟨4, .data⟩ (by simp) rfl)
   have HC := Lib.hid (HC2.out w' HB.out)
   go_wp2_with fail
   refine HC.out.mono ?_
   rintro e w'' ⟨v, rfl, ho, hb⟩
   have HBX := Lib.hid (HB.out.trans (hb.mono HB.out.size))
   have l2 := hd ⟨2, .chain⟩ (by simp) rfl
   have g : ApartAt w'' w3.heap.size x18 v m (wcells (sortW ts)) := ⟨w'.heap.size, HB.out.size, fun k hk => ((f2 l2).lt k hk).2, by rw [← HMM.out] at ho; exact ho⟩
   have G := Lib.hid g
   have f2 := fun h => own_below (f2 h) hb
   have f7 := fun h h' => blk_lift (f7 h h') hb
   have f8 := fun h => blk_lift (f8 h) hb
   clear ho hb g
   go_wp2_with fail
   refine HJ.out _ _ _ ⟨_, _, _, _, _, _, _, _, rfl, HBX.out, ?_, ?_, ?_, ?_, ?_, ?_, ?_, ?_, ?_, ?_, ?_, ?_⟩
   all_goals first | exact fun _ => rfl | exact fun h => TextU.andL_old (f11.out (TextU.andL_back (by decide) h)) | exact fun _ => G.out | exact fun _ => TextU.andL_old l2 | exact fun h => absurd (f9.out (TextU.andL_back (by decide) h)).2 (by rw [hL]; decide) | exact fun h => absurd (f9.out (f10.out (TextU.andL_back (by decide) h)).2).2 (by rw [hL]; decide) | exact fun h => f0 (TextU.andL_back (by decide) h) | exact fun h => f1 (TextU.andL_back (by decide) h) | exact fun h => f2 (TextU.andL_back (by decide) h) | exact fun h => f3 (TextU.andL_back (by decide) h) | exact fun h => f4 (TextU.andL_back (by decide) h) | exact fun h => f5 (TextU.andL_back (by decide) h) | exact fun h => f6 (TextU.andL_back (by decide) h) | exact fun h => f8 (TextU.andL_back (by decide) h) | exact fun h h' => f7 (TextU.andL_back (by decide) h) (TextU.andL_off h') | exact fun h => ⟨TextU.andL_old (f9.out (TextU.andL_back (by decide) h)).1, TextU.andL_old (f9.out (TextU.andL_back (by decide) h)).2⟩ | exact fun h => ⟨TextU.andL_old (f10.out (TextU.andL_back (by decide) h)).1, TextU.andL_old (f10.out (TextU.andL_back (by decide) h)).2⟩
  ·obtain ⟨B1, e1, rfl, _⟩ := own_form (f2 (hd ⟨2, .data⟩ (by simp) rfl))
   obtain ⟨_, _, _, o5⟩ := f5 (hd ⟨5, .data⟩ (by simp) rfl)
   obtain ⟨B2, e2, rfl, _⟩ := own_form o5
   go_wp2_with fail
   have HBX := Lib.hid HB.out
   refine HJ.out _ _ _ ⟨_, _, _, _, _, _, _, _, rfl, HBX.out, ?_, ?_, ?_, ?_, ?_, ?_, ?_, ?_, ?_, ?_, ?_, ?_⟩
   all_goals first | exact fun _ => rfl | exact fun h => TextU.andL_old (f11.out (TextU.andL_back (by decide) h)) | exact fun _ => ⟨TextU.andL_old (hd ⟨2, .data⟩ (by simp) rfl), TextU.andL_old (hd ⟨5, .data⟩ (by simp) rfl)⟩ | exact fun h => f0 (TextU.andL_back (by decide) h) | exact fun h => f1 (TextU.andL_back (by decide) h) | exact fun h => f2 (TextU.andL_back (by decide) h) | exact fun h => f3 (TextU.andL_back (by decide) h) | exact fun h => f4 (TextU.andL_back (by decide) h) | exact fun h => f5 (TextU.andL_back (by decide) h) | exact fun h => f6 (TextU.andL_back (by decide) h) | exact fun h => f8 (TextU.andL_back (by decide) h) | exact fun h h' => f7 (TextU.andL_back (by decide) h) (TextU.andL_off h') | exact fun h => ⟨TextU.andL_old (f9.out (TextU.andL_back (by decide) h)).1, TextU.andL_old (f9.out (TextU.andL_back (by decide) h)).2⟩ | exact fun h => ⟨TextU.andL_old (f10.out (TextU.andL_back (by decide) h)).1, TextU.andL_old (f10.out (TextU.andL_back (by decide) h)).2⟩
  ·have hb : Below w'.heap.size w' (w'.alloc (.cells #[.slice none 0 0, .slice none 0 0, .slice none 0 0] 25)) := (Below.refl _ _).alloc (Nat.le_refl _) _
   have HBX := Lib.hid (HB.out.trans (hb.mono HB.out.size))
   have f2 := fun h => own_below (f2 h) hb
   have f5 := fun h => apart_keep (f5 h) (KeepT.of_below hb)
   have HNEW := Lib.hid (blk_new w' #[.slice none 0 0, .slice none 0 0, .slice none 0 0] 25 HB.out.size)
   clear hb
   go_wp2_with fail
   generalize w'.alloc (.cells #[.slice none 0 0, .slice none 0 0, .slice none 0 0] 25) = w5 at *
   refine HJ.out _ _ _ ⟨_, _, _, _, _, _, _, _, rfl, HBX.out, ?_, ?_, ?_, ?_, ?_, ?_, ?_, ?_, ?_, ?_, ?_, ?_⟩
   all_goals first | exact fun _ => rfl | exact fun h => TextU.andL_old (f11.out (TextU.andL_back (by decide) h)) | exact fun _ _ => HNEW.out | exact fun h => absurd (f10.out (TextU.andL_back (by decide) h)).1 (by rw [hL]; decide) | exact fun h => f0 (TextU.andL_back (by decide) h) | exact fun h => f1 (TextU.andL_back (by decide) h) | exact fun h => f2 (TextU.andL_back (by decide) h) | exact fun h => f3 (TextU.andL_back (by decide) h) | exact fun h => f4 (TextU.andL_back (by decide) h) | exact fun h => f5 (TextU.andL_back (by decide) h) | exact fun h => f6 (TextU.andL_back (by decide) h) | exact fun h => f8 (TextU.andL_back (by decide) h) | exact fun h h' => f7 (TextU.andL_back (by decide) h) (TextU.andL_off h') | exact fun h => ⟨TextU.andL_old (f9.out (TextU.andL_back (by decide) h)).1, TextU.andL_old (f9.out (TextU.andL_back (by decide) h)).2⟩ | exact fun h => ⟨TextU.andL_old (f10.out (TextU.andL_back (by decide) h)).1, TextU.andL_old (f10.out (TextU.andL_back (by decide) h)).2⟩
  ·have l6 := hd ⟨6, .data⟩ (by simp) rfl
   have l7 := hd ⟨7, .data⟩ (by simp) rfl
   obtain ⟨b, rfl, hbs, hbh⟩ := f7 l7 hL
   obtain rfl := f6 l6
   have o2 := f2 (f9.out l6).1
   obtain ⟨M5, m51, m52, o5⟩ := f5 (f9.out l6).2
   obtain ⟨B1, e1, rfl, _⟩ := own_form o2
   obtain ⟨B2, e2, rfl, _⟩ := own_form o5
   have HKT := Lib.hid (keepT_setRow (ts := [9]) (cs' := [Value.slice B1 n e1, .slice B2 m e2, .slice none 0 0].toArray) hbh (by decide))
   have O2 := Lib.hid (own_keepT o2 HKT.out (by simp))
   have O5 := Lib.hid (apart_keep (show ApartAt w' w3.heap.size (.slice B1 n e1) (.slice B2 m e2) m (wcells (sortW ts)) from ⟨M5, m51, m52, o5⟩) HKT.out)
   have HST := Lib.hid (store_rowC (P := Tryz.prog) (ty := 25) (vs := [Value.slice B1 n e1, .slice B2 m e2, .slice none 0 0]) (v := .agg #[.slice B1 n e1, .slice B2 m e2, .slice none 0 0]) rfl (by kernel_rfl) hbh rfl (by simp [Value.oneCell']))
   have HBX := Lib.hid (below_setRow HB.out hbs [Value.slice B1 n e1, .slice B2 m e2, .slice none 0 0].toArray)
   have HB8 := Lib.hid (show BlkAt (w'.setRow b [Value.slice B1 n e1, .slice B2 m e2, .slice none 0 0].toArray) w3.heap.size (.pointer (some ⟨b, 0, none⟩)) #[.slice B1 n e1, .slice B2 m e2, .slice none 0 0] 25 from ⟨b, rfl, hbs, setRow_heap _ _ _ _ _ _ hbh⟩)
   clear o2 o5
   go_wp2_with (refine stop_at none rfl ?_)
   refine Stop.go (wpList_store_agg rfl 25 rfl rfl rfl HST.out ?_)
   generalize w'.setRow b [Value.slice B1 n e1, .slice B2 m e2, .slice none 0 0].toArray = w5 at *
   generalize hac : Act.put _ _ _ = a9
   simp [Act.put] at hac
   subst hac
   go_wp2_with fail
   refine HJ.out _ _ _ ⟨_, _, _, _, _, _, _, _, rfl, HBX.out, ?_, ?_, ?_, ?_, ?_, ?_, ?_, ?_, ?_, ?_, ?_, ?_⟩
   all_goals first | exact fun _ => rfl | exact fun h => TextU.andL_old (f11.out (TextU.andL_back (by decide) h)) | exact fun _ => O2.out | exact fun _ => O5.out | exact fun _ h' => absurd h' (by rw [TextU.andL_self]; decide) | exact fun _ => HB8.out | exact fun _ => ⟨TextU.andL_old l7, TextU.andL_old l6⟩ | exact fun h => f0 (TextU.andL_back (by decide) h) | exact fun h => f1 (TextU.andL_back (by decide) h) | exact fun h => f3 (TextU.andL_back (by decide) h) | exact fun h => f4 (TextU.andL_back (by decide) h) | exact fun h => ⟨TextU.andL_old (f9.out (TextU.andL_back (by decide) h)).1, TextU.andL_old (f9.out (TextU.andL_back (by decide) h)).2⟩
 ·have HZW := Lib.hid (show S + 1 < w2.drew.heap.size from HZ3.out)
  generalize w2.drew = w3 at *
  intro L a' w4 hall hJ
  obtain ⟨x3, x16, x17, x18, x19, x20, x21, x22, rfl, HB, f0, f1, f2, f3, f4, f5, f6, f7, f8, f9, f10, f11⟩ := hJ
  obtain rfl := f0 (hall 0 (by decide))
  obtain rfl := f1 (hall 1 (by decide))
  have HU := Lib.hid (f2 (hall 2 (by decide)))
  obtain rfl := f3 (hall 3 (by decide))
  obtain rfl := f4 (hall 4 (by decide))
  obtain ⟨MV, hmv1, hmv2, hv⟩ := f5 (hall 5 (by decide))
  have HV := Lib.hid hv
  have HMV := Lib.hid (And.intro hmv1 hmv2)
  clear hmv1 hmv2 hv
  obtain rfl := f6 (hall 6 (by decide))
  obtain ⟨P, rfl, hPS, hP⟩ := f8 (hall 8 (by decide))
  have HP := Lib.hid hP
  clear f0 f1 f2 f3 f4 f5 f6 f7 f8 f9 f10 f11 hP hall
  obtain ⟨B1, e1, rfl, hl1, hl2⟩ := own_form HU.out
  obtain ⟨B2, e2, rfl, hl3, hl4⟩ := own_form HV.out
  unfold maxLen at hl2 hl4
  have HG4 := Lib.hid ((HB.out.block S (by have := HZW.out; omega)).trans HG3.out)
  have HR4 := Lib.hid ((HB.out.block (S + 1) HZW.out).trans HR3.out)
  have HB4 := Lib.hid (HB3.out.trans (HB.out.mono (show S ≤ w3.heap.size by have := HZW.out; omega)))
  have HBW := Lib.hid (show ∀ W, KeepP P w4 W → Below S w W from fun W hk => HB4.out.trans ⟨hk.os, hk.tape, hk.output, hk.size, fun j hj => hk.block j (Nat.lt_of_lt_of_le hj (by have := (Array.getElem?_eq_some_iff.1 HG4.out).1; omega)) (by have := hPS; have := HZW.out; omega)⟩)
  have HLC := Lib.hid (show LoopC w4 P (.slice B1 n e1) (.slice B2 m e2) [] (.slice none 0 0) w4 from ⟨HP.out, OwnT.nil _ _, ⟨Nat.le_refl _, rfl, rfl, rfl, fun _ _ _ => rfl⟩⟩)
  have HIR := Lib.hid (InsR.zero (rs.map (ruleM ns ts (canN ns) (sortW ts))))
  have HPL := Lib.hid (show P < w4.heap.size from (Array.getElem?_eq_some_iff.1 HP.out).1)
  have HSL4 := Lib.hid (show S < w4.heap.size from (Array.getElem?_eq_some_iff.1 HG4.out).1)
  have HPS := Lib.hid (show S ≠ P by have := hPS; have := HZW.out; omega)
  have HUW := Lib.hid (slW_fit HU.out (show Fits (canN ns) from fun x hx => (sl_W H1.out).fits x ((canN_perm ns).mem_iff.1 hx)) (by rw [canN_len]; exact HNN.out))
  have HVW := Lib.hid (slW_fit HV.out (show Fits (sortW ts) from fun x hx => (sl_W H2.out).fits x ((sortW_perm ts).mem_iff.1 hx)) (by rw [sortW_len]; exact HMM.out))
  clear HB
  go_wp2_with fail
  go_loopw [4] (fun v4 wr => ∃ (k : Nat) (out : List RuleD) (v3 : Value), k ≤ q ∧ v4 = .int .i64 k ∧ Hid (InsR (rs.map (ruleM ns ts (canN ns) (sortW ts))) k out) ∧ Hid (LoopC w4 P (.slice B1 n e1) (.slice B2 m e2) out v3 wr)) (fun v4 _ => q - (intOf v4).toNat)
  case atStart => exact ⟨0, [], _, by omega, rfl, HIR.out, HLC.out⟩
  case round =>
   clear HIR HLC
   obtain ⟨k, out, v3, hk, rfl, HIR, HLC⟩ := hrel
   have HRS := Lib.hid ((HLC.out.keep.block S HSL4.out HPS.out).trans HG4.out)
   have HBR := Lib.hid (HBW.out wr HLC.out.keep)
   have HSR := Lib.hid (Nat.lt_of_lt_of_le HSL4.out HLC.out.keep.size)
   obtain ⟨g0, g1, g2⟩ := rowC_cells HRS.out
   by_cases hlt : k < q
   ·have hkl : k < rs.length := by rw [← HQQ.out]; exact hlt
    obtain ⟨bb, off, cs, rfl, _, hbl, hrep, hcell⟩ := (H3.out.below HBR.out).get hkl (by decide)
    obtain ⟨v, rfl, hsl, hz1, hz2⟩ := eRule_open hrep
    obtain ⟨A6, c6, rfl, hl5, hl6⟩ := hsl.form
    unfold maxLen at hl6
    have hr0 := hcell 0 _ rfl
    have hr1 := hcell 1 _ rfl
    simp only [show eRule.size = 2 from rfl, Nat.add_zero, ← Nat.add_assoc] at hr0 hr1
    have HFIT := Lib.hid (HGD.out.fit rs[k] (List.getElem_mem hkl))
    have HSL := Lib.hid hsl
    have HRC := Lib.hid (show ∀ W, Below wr.heap.size wr W → W.cell? ⟨bb, off + k * 2, none⟩ = some (.int .i64 rs[k].1) ∧ W.cell? ⟨bb, off + k * 2 + 1, none⟩ = some (.slice A6 rs[k].2.length c6) from fun W hb => ⟨(hb.cell (p := ⟨bb, off + k * 2, none⟩) (by show bb < _; have := HSR.out; omega)).trans hr0, (hb.cell (p := ⟨bb, off + k * 2 + 1, none⟩) (by show bb < _; have := HSR.out; omega)).trans hr1⟩)
    have HIN2 := Lib.hid (fun (kk : Nat) (a) (b) (c) => HIR.out.succ (k := kk) (by rw [List.length_map]; exact hkl) a b c)
    have HGE := Lib.hid (show (rs.map (ruleM ns ts (canN ns) (sortW ts)))[k]'(by rw [List.length_map]; exact hkl) = ruleM ns ts (canN ns) (sortW ts) rs[k] from List.getElem_map ..)
    rw [HGE.out] at HIN2
    clear hcell hrep hsl HGE
    obtain ⟨r, hr⟩ : ∃ r, r = rs[k] := ⟨_, rfl⟩
    rw [← hr] at hr0 hr1 HFIT HSL HRC hl5 hz1 hz2 HIN2
    clear hr
    obtain ⟨p, hpe⟩ : ∃ p, p = r.2.length := ⟨_, rfl⟩
    rw [← hpe] at hr1 HSL HRC hl5
    have HPP := Lib.hid hpe
    clear hpe
    have HFI := Lib.hid (show (0 ≤ r.1 ∧ r.1 < ns.length) ∧ r.2.length ≤ 64 ∧ ∀ s ∈ r.2, SymIn ns.length ts.length s from by
     have h := HFIT.out
     simp only [List.length_map] at h
     exact h)
    obtain ⟨F, hF⟩ : ∃ F, F = symM ns ts (canN ns) (sortW ts) := ⟨_, rfl⟩
    have HRM := Lib.hid (show ruleM ns ts (canN ns) (sortW ts) r = (F r.1, r.2.map F) by rw [hF]; rfl)
    have HFB := Lib.hid (show ∀ s, SymIn ns.length ts.length s → SymIn ns.length ts.length (F s) from fun s hs => by rw [hF]; exact symM_in (canN_perm ns) (sortW_perm ts) hs)
    have HFP := Lib.hid (show ∀ (s : Int) (x : Nat) (h : x < ns.length), s = (x : Int) → F s = (((canN ns).idxOf ns[x] : Nat) : Int) from fun s x h e => by
     rw [hF, e]
     unfold symM
     rw [if_neg (by omega), Int.toNat_natCast]
     simp [h])
    have HFN := Lib.hid (show ∀ (s : Int) (x : Nat) (h : x < ts.length), s = -1 - (x : Int) → F s = -1 - (((sortW ts).idxOf ts[x] : Nat) : Int) from fun s x h e => by
     rw [hF]
     unfold symM
     rw [if_pos (by omega), show (-1 - s).toNat = x by omega]
     simp [h])
    clear hF HFIT
    have HUWK := Lib.hid (show ∀ W, KeepP P w4 W → SlR eStr W W.heap.size (.slice B1 n e1) ((canN ns).map toB) from fun W hk => slW_fit (own_keepT HU.out (hk.T (ts := [9]) HP.out (by decide)) (by simp)) (show Fits (canN ns) from fun x hx => (sl_W H1.out).fits x ((canN_perm ns).mem_iff.1 hx)) (by rw [canN_len]; exact HNN.out))
    have HVWK := Lib.hid (show ∀ W, KeepP P w4 W → SlR eStr W W.heap.size (.slice B2 m e2) ((sortW ts).map toB) from fun W hk => slW_fit (own_keepT HV.out (hk.T (ts := [9]) HP.out (by decide)) (by simp)) (show Fits (sortW ts) from fun x hx => (sl_W H2.out).fits x ((sortW_perm ts).mem_iff.1 hx)) (by rw [sortW_len]; exact HMM.out))
    have HKW := Lib.hid (show ∀ W, Below wr.heap.size wr W → KeepP P w4 W from fun W hb => HLC.out.keep.trans (KeepP.of_below hb (Nat.le_refl _)))
    obtain ⟨lk, hlk⟩ : ∃ lk : Nat, r.1 = (lk : Int) := ⟨r.1.toNat, by have := HFI.out.1.1; omega⟩
    have hlkn : lk < ns.length := by have := HFI.out.1.2; omega
    have hlkn2 : lk < n := by rw [HNN.out]; exact hlkn
    obtain ⟨bq, oq, cs, hAq, _, hbq, hrep, hcell⟩ := (H1.out.below HBR.out).get (k := lk) (by rw [List.length_map]; exact hlkn) (by decide)
    subst hAq
    obtain ⟨rfl, hxq⟩ := hrep
    have hcq := hcell 0 _ rfl
    simp only [show eStr.size = 1 from rfl, Nat.mul_one, Nat.add_zero, List.getElem_map] at hcq
    clear hcell hxq
    have HFX := Lib.hid (HFP.out r.1 lk hlkn hlk)
    have HFW := Lib.hid (show ∀ W, Below wr.heap.size wr W → Calls Tryz.prog 37 #[.slice B1 n e1, wv ns[lk]] W fun e w' => e = .returned (.int .i64 (F r.1)) ∧ W = w' from fun W hb => by
     rw [HFX.out]
     exact find_word (.slice B1 n e1) (canN ns) ns[lk] W.heap.size W (HUWK.out W (HKW.out W hb)) (Nat.le_refl _) ((canN_perm ns).mem_iff.2 (List.getElem_mem hlkn)))
    change wr.cell? ⟨bq, oq + lk, none⟩ = some (wv ns[lk]) at hcq
    have HCQ := Lib.hid (show ∀ W, Below wr.heap.size wr W → W.cell? ⟨bq, oq + lk, none⟩ = some (wv ns[lk]) from fun W hb => (hb.cell (p := ⟨bq, oq + lk, none⟩) (by show bq < _; have := HSR.out; omega)).trans hcq)
    have HB0 := Lib.hid (show -9223372036854775808 ≤ F r.1 ∧ F r.1 ≤ 9223372036854775807 from by
     have h := HFB.out r.1 ⟨by omega, HFI.out.1.2⟩
     unfold SymIn at h
     have e1 := HNN.out
     have e2 := HMM.out
     omega)
    have HPR := Lib.hid (show ∀ W, Below wr.heap.size wr W → W.heap[P]? = some (.cells #[.slice B1 n e1, .slice B2 m e2, v3] 25 (0, 0)) from fun W hb => (hb.block P (Array.getElem?_eq_some_iff.1 HLC.out.row).1).trans HLC.out.row)
    have HSW := Lib.hid (show ∀ W, Below wr.heap.size wr W → W.heap[S]? = some (.cells #[.slice (some ⟨bq, oq, none⟩) n c1, .slice A2 m c2, .slice (some ⟨bb, off, none⟩) q c3] 25 (0, 0)) from fun W hb => (hb.block S HSR.out).trans HRS.out)
    rw [hlk] at hr0 HRC
    generalize ns[lk] = xq at *
    generalize F r.1 = M0 at *
    go_wp2_with fail
    clear g0 g1 g2 hr0 hr1 hcq
    go_cut [5] (fun v5 wx => ∃ b5 : Nat, v5 = .pointer (some ⟨b5, 0, none⟩) ∧ b5 = wr.heap.size ∧ Hid (InC wr b5 M0 [] (.slice none 0 0) wx))
    case first =>
     have HWD := Lib.hid (show Below wr.heap.size wr wr.drew from (Below.refl _ _).drew)
     refine wpU_start (fun w' => Below wr.drew.heap.size wr.drew w') [15] 16 (by kernel_rfl) rfl ?_
     have HZD := Lib.hid (show wr.drew.heap.size = wr.heap.size from rfl)
     generalize wr.drew = wd at *
     have HLA := Lib.hid (show ∀ W, Below wd.heap.size wd W → W.cell? ⟨P, 0, none⟩ = some (.slice B1 n e1) ∧ W.cell? ⟨S, 0, none⟩ = some (.slice (some ⟨bq, oq, none⟩) n c1) ∧ W.cell? ⟨S, 2, none⟩ = some (.slice (some ⟨bb, off, none⟩) q c3) ∧ W.cell? ⟨bb, off + k * 2, none⟩ = some (.int .i64 (lk : Int)) ∧ W.cell? ⟨bq, oq + lk, none⟩ = some (wv xq) from fun W hb => by
      have hb' : Below wr.heap.size wr W := HWD.out.trans (by rw [← HZD.out]; exact hb)
      exact ⟨(rowC_cells (HPR.out W hb')).1, (rowC_cells (HSW.out W hb')).1, (rowC_cells (HSW.out W hb')).2.2, (HRC.out W hb').1, HCQ.out W hb'⟩)
     have HCX := Lib.hid (Below.refl wd.heap.size wd)
     refine wpU_pure (i := 0) (v := .pointer (some ⟨P, 0, none⟩)) rfl (by kernel_rfl) (by kernel_rfl) (by kernel_rfl) (by kernel_rfl) (by kernel_rfl) rfl (fun wq => by go_simp) HCX.out ?_
     generalize hac : Act.put _ _ _ = a9
     simp [Act.put] at hac
     subst hac
     refine wpU_load (i := 1) (v := .slice B1 n e1) rfl (by kernel_rfl) (by kernel_rfl) (by kernel_rfl) (by kernel_rfl) (by kernel_rfl) (by kernel_rfl) rfl (fun wq hbq => exec_load rfl rfl (load_slice (e := 9) (by kernel_rfl) (HLA.out wq hbq).1)) HCX.out ?_
     generalize hac : Act.put _ _ _ = a9
     simp [Act.put] at hac
     subst hac
     refine wpU_pure (i := 2) (v := .pointer (some ⟨S, 0, none⟩)) rfl (by kernel_rfl) (by kernel_rfl) (by kernel_rfl) (by kernel_rfl) (by kernel_rfl) rfl (fun wq => by go_simp) HCX.out ?_
     generalize hac : Act.put _ _ _ = a9
     simp [Act.put] at hac
     subst hac
     refine wpU_load (i := 3) (v := .slice (some ⟨bq, oq, none⟩) n c1) rfl (by kernel_rfl) (by kernel_rfl) (by kernel_rfl) (by kernel_rfl) (by kernel_rfl) (by kernel_rfl) rfl (fun wq hbq => exec_load rfl rfl (load_slice (e := 9) (by kernel_rfl) (HLA.out wq hbq).2.1)) HCX.out ?_
     generalize hac : Act.put _ _ _ = a9
     simp [Act.put] at hac
     subst hac
     refine wpU_pure (i := 4) (v := .pointer (some ⟨S, 2, none⟩)) rfl (by kernel_rfl) (by kernel_rfl) (by kernel_rfl) (by kernel_rfl) (by kernel_rfl) rfl (fun wq => by go_simp) HCX.out ?_
     generalize hac : Act.put _ _ _ = a9
     simp [Act.put] at hac
     subst hac
     refine wpU_load (i := 5) (v := .slice (some ⟨bb, off, none⟩) q c3) rfl (by kernel_rfl) (by kernel_rfl) (by kernel_rfl) (by kernel_rfl) (by kernel_rfl) (by kernel_rfl) rfl (fun wq hbq => exec_load rfl rfl (load_slice (e := 36) (by kernel_rfl) (HLA.out wq hbq).2.2.1)) HCX.out ?_
     generalize hac : Act.put _ _ _ = a9
     simp [Act.put] at hac
     subst hac
     refine wpU_pure (i := 6) (v := .int .i64 (k : Int)) rfl (by kernel_rfl) (by kernel_rfl) (by kernel_rfl) (by kernel_rfl) (by kernel_rfl) rfl (fun wq => by go_simp) HCX.out ?_
     generalize hac : Act.put _ _ _ = a9
     simp [Act.put] at hac
     subst hac
     refine wpU_pure (i := 7) (v := .pointer (some ⟨bb, off + k * 2, none⟩)) rfl (by kernel_rfl) (by kernel_rfl) (by kernel_rfl) (by kernel_rfl) (by kernel_rfl) rfl (fun wq => by go_simp) HCX.out ?_
     generalize hac : Act.put _ _ _ = a9
     simp [Act.put] at hac
     subst hac
     refine wpU_pure (i := 8) (v := .pointer (some ⟨bb, off + k * 2, none⟩)) rfl (by kernel_rfl) (by kernel_rfl) (by kernel_rfl) (by kernel_rfl) (by kernel_rfl) rfl (fun wq => by go_simp) HCX.out ?_
     generalize hac : Act.put _ _ _ = a9
     simp [Act.put] at hac
     subst hac
     refine wpU_load (i := 9) (v := .int .i64 (lk : Int)) rfl (by kernel_rfl) (by kernel_rfl) (by kernel_rfl) (by kernel_rfl) (by kernel_rfl) (by kernel_rfl) rfl (fun wq hbq => exec_load rfl rfl (load_int (k := .i64) (by kernel_rfl) (HLA.out wq hbq).2.2.2.1)) HCX.out ?_
     generalize hac : Act.put _ _ _ = a9
     simp [Act.put] at hac
     subst hac
     refine wpU_pure (i := 10) (v := .pointer (some ⟨bq, oq + lk, none⟩)) rfl (by kernel_rfl) (by kernel_rfl) (by kernel_rfl) (by kernel_rfl) (by kernel_rfl) rfl (fun wq => by go_simp) HCX.out ?_
     generalize hac : Act.put _ _ _ = a9
     simp [Act.put] at hac
     subst hac
     refine wpU_load (i := 11) (v := wv xq) rfl (by kernel_rfl) (by kernel_rfl) (by kernel_rfl) (by kernel_rfl) (by kernel_rfl) (by kernel_rfl) rfl (fun wq hbq => exec_load rfl rfl (load_strC (by kernel_rfl) (HLA.out wq hbq).2.2.2.2)) HCX.out ?_
     generalize hac : Act.put _ _ _ = a9
     simp [Act.put] at hac
     subst hac
     refine wpU_two (i := 12) (j := 14) (by kernel_rfl) rfl rfl (fun Q' hQ' => ?_) (fun Q' hQ' => ?_)
     ·go_wp2_with fail
      refine (HFW.out wd HWD.out).mono ?_
      rintro e w10 ⟨rfl, rfl⟩
      go_wp2_with fail
      refine ⟨okU HCX.out, ?_⟩
      refine wpU_pure (i := 13) (v := .agg #[.int .i64 M0, .slice none 0 0]) rfl (by kernel_rfl) (by kernel_rfl) (by kernel_rfl) (by kernel_rfl) (by kernel_rfl) rfl (fun wq => by go_simp) HCX.out ?_
      generalize hac : Act.put _ _ _ = a9
      simp [Act.put] at hac
      subst hac
      have HB3 := Lib.hid ((Below.refl wd.heap.size wd).alloc (Nat.le_refl _) (.cells #[.int .i64 0, .slice none 0 0] 36))
      have HR3 := Lib.hid (Go.heap_alloc_new wd (.cells #[.int .i64 0, .slice none 0 0] 36))
      refine wpU_one (i := 14) (by kernel_rfl) rfl (fun Q' hQ' => ?_)
      go_wp2_with fail
      generalize wd.alloc (.cells #[.int .i64 0, .slice none 0 0] 36) = w3 at *
      refine ⟨okU HB3.out, ?_⟩
      have HNEWC := Lib.hid (InC.mk (w2 := wr) (b9 := wr.heap.size) (M0 := M0) (l := []) (v9 := .slice none 0 0) (wz := w3.setRow wd.heap.size [.int .i64 M0, .slice none 0 0].toArray) (by rw [← HZD.out]; exact setRow_heap _ _ _ _ _ _ HR3.out) (OwnT.nil _ _) (below_setRow (HWD.out.trans (by rw [← HZD.out]; exact HB3.out)) (Nat.le_of_eq HZD.out.symm) _))
      refine wpU_one (i := 15) (by kernel_rfl) rfl (fun Q' hQ' => ?_)
      go_wp2_with (refine stop_at none rfl ?_)
      refine Stop.go (wpList_store_agg rfl 36 rfl rfl rfl (store_rowC (vs := [.int .i64 M0, .slice none 0 0]) rfl (by kernel_rfl) HR3.out rfl (by intro u hu; simp at hu; rcases hu with rfl | rfl <;> rfl)) ?_)
      generalize w3.setRow wd.heap.size [.int .i64 M0, .slice none 0 0].toArray = w5 at *
      generalize hac : Act.put _ _ _ = a9
      simp [Act.put] at hac
      subst hac
      go_wp2_with fail
      refine ⟨okU_past (by kernel_rfl), ?_⟩
      refine wpU_end (by kernel_rfl) ?_ _
      go_wp2_with fail
      go_meet
      exact ⟨_, by rw [HZD.out], rfl, HNEWC.out⟩
     ·have HB3 := Lib.hid ((Below.refl wd.heap.size wd).alloc (Nat.le_refl _) (.cells #[.int .i64 0, .slice none 0 0] 36))
      have HR3 := Lib.hid (Go.heap_alloc_new wd (.cells #[.int .i64 0, .slice none 0 0] 36))
      go_wp2_with fail
      generalize wd.alloc (.cells #[.int .i64 0, .slice none 0 0] 36) = w3 at *
      refine ⟨okU HB3.out, ?_⟩
      refine wpU_one (i := 12) (by kernel_rfl) rfl (fun Q' hQ' => ?_)
      go_wp2_with fail
      refine (HFW.out w3 (HWD.out.trans (by rw [← HZD.out]; exact HB3.out))).mono ?_
      rintro e w10 ⟨rfl, rfl⟩
      go_wp2_with fail
      refine ⟨okU HB3.out, ?_⟩
      refine wpU_one (i := 13) (by kernel_rfl) rfl (fun Q' hQ' => ?_)
      go_wp2_with fail
      refine ⟨okU HB3.out, ?_⟩
      have HNEWC := Lib.hid (InC.mk (w2 := wr) (b9 := wr.heap.size) (M0 := M0) (l := []) (v9 := .slice none 0 0) (wz := w3.setRow wd.heap.size [.int .i64 M0, .slice none 0 0].toArray) (by rw [← HZD.out]; exact setRow_heap _ _ _ _ _ _ HR3.out) (OwnT.nil _ _) (below_setRow (HWD.out.trans (by rw [← HZD.out]; exact HB3.out)) (Nat.le_of_eq HZD.out.symm) _))
      refine wpU_one (i := 15) (by kernel_rfl) rfl (fun Q' hQ' => ?_)
      go_wp2_with (refine stop_at none rfl ?_)
      refine Stop.go (wpList_store_agg rfl 36 rfl rfl rfl (store_rowC (vs := [.int .i64 M0, .slice none 0 0]) rfl (by kernel_rfl) HR3.out rfl (by intro u hu; simp at hu; rcases hu with rfl | rfl <;> rfl)) ?_)
      generalize w3.setRow wd.heap.size [.int .i64 M0, .slice none 0 0].toArray = w5 at *
      generalize hac : Act.put _ _ _ = a9
      simp [Act.put] at hac
      subst hac
      go_wp2_with fail
      refine ⟨okU_past (by kernel_rfl), ?_⟩
      refine wpU_end (by kernel_rfl) ?_ _
      go_wp2_with fail
      go_meet
      exact ⟨_, by rw [HZD.out], rfl, HNEWC.out⟩
    case rest =>
     obtain ⟨b5, rfl, hb5, HIN⟩ := hcut
     have HBZ := Lib.hid hb5
     clear hb5
     generalize wc = w5 at *
     generalize wr = wo at *
     have HIN0 := Lib.hid (show InC wo b5 M0 ((r.2.take 0).map F) (.slice none 0 0) w5 from HIN.out)
     clear HIN
     go_wp2_with fail
     go_loopw [6] (fun v6 wr => ∃ (j : Nat) (v9 : Value), j ≤ p ∧ v6 = .int .i64 j ∧ Hid (InC wo b5 M0 ((r.2.take j).map F) v9 wr)) (fun v6 _ => p - (intOf v6).toNat)
     case atStart => exact ⟨0, _, by omega, rfl, HIN0.out⟩
     case round =>
      clear HIN0
      obtain ⟨j, v9, hj, rfl, HIN⟩ := hrel
      have HLN := Lib.hid (show ((r.2.take j).map F).length = j by rw [List.length_map, List.length_take]; have := HPP.out; omega)
      have HKO := Lib.hid (show Below wo.heap.size wo wr from HIN.out.keep.mono (Nat.le_of_eq HBZ.out.symm))
      obtain ⟨A9, c9, hv9, hv91, hv92⟩ := HIN.out.own.form
      rw [HLN.out] at hv9 hv91
      subst hv9
      obtain ⟨g0, g1, g2⟩ := rowC_cells (HSW.out wr HKO.out)
      have hr1 := (HRC.out wr HKO.out).2
      have hrow := HIN.out.row
      by_cases hjl : j < p
      ·have hjr : j < r.2.length := by rw [← HPP.out]; exact hjl
       obtain ⟨b7, o7, cs, rfl, _, _, hrep, hcell⟩ := (HSL.out.below (HKO.out.mono (Nat.le_of_lt HSR.out))).get hjr (by decide)
       obtain ⟨rfl, hs1, hs2⟩ := hrep
       have hc7 := hcell 0 _ rfl
       simp only [show eInt.size = 1 from rfl, Nat.mul_one, Nat.add_zero] at hc7
       clear hcell
       have HSY := Lib.hid (HFI.out.2.2 r.2[j] (List.getElem_mem hjr))
       have HTK2 := Lib.hid (show (r.2.take (j + 1)).map F = (r.2.take j).map F ++ [F r.2[j]] by rw [List.take_succ_eq_append_getElem hjr, List.map_append, List.map_singleton])
       obtain ⟨s, hs⟩ : ∃ s, s = r.2[j] := ⟨_, rfl⟩
       rw [← hs] at hc7 HSY HTK2 hs1 hs2
       clear hs
       have HBM := Lib.hid (show -9223372036854775808 ≤ F s ∧ F s ≤ 9223372036854775807 from by
        have h := HFB.out s HSY.out
        unfold SymIn at h
        have e1 := HNN.out
        have e2 := HMM.out
        omega)
       obtain ⟨p0, p1, _⟩ := rowC_cells (HPR.out wr HKO.out)
       have hrowP := HPR.out wr HKO.out
       have hrowS := HSW.out wr HKO.out
       by_cases hneg : s < 0
       ·obtain ⟨kt, hkt⟩ : ∃ kt : Nat, s = -1 - (kt : Int) := ⟨(-1 - s).toNat, by omega⟩
        have hktm : kt < ts.length := by have h : -(ts.length : Int) ≤ s := HSY.out.1; omega
        have hktm2 : kt < m := by rw [HMM.out]; exact hktm
        obtain ⟨bt, ot, cs, rfl, _, hbt, hrep, hcell⟩ := (H2.out.below HBR.out).get (k := kt) (by rw [List.length_map]; exact hktm) (by decide)
        obtain ⟨rfl, hxt⟩ := hrep
        have hct := hcell 0 _ rfl
        simp only [show eStr.size = 1 from rfl, Nat.mul_one, Nat.add_zero, List.getElem_map] at hct
        clear hcell hxt
        change wo.cell? ⟨bt, ot + kt, none⟩ = some (wv ts[kt]) at hct
        have HFX := Lib.hid (HFN.out s kt hktm hkt)
        have HFW := Lib.hid (show ∀ W, Below wo.heap.size wo W → Calls Tryz.prog 37 #[.slice B2 m e2, wv ts[kt]] W fun e w' => e = .returned (.int .i64 (((sortW ts).idxOf ts[kt] : Nat) : Int)) ∧ W = w' from fun W hb => find_word (.slice B2 m e2) (sortW ts) ts[kt] W.heap.size W (HVWK.out W (HKW.out W hb)) (Nat.le_refl _) ((sortW_perm ts).mem_iff.2 (List.getElem_mem hktm)))
        have HIX := Lib.hid (show (sortW ts).idxOf ts[kt] ≤ 256 from by
         have h1 := List.idxOf_lt_length_of_mem ((sortW_perm ts).mem_iff.2 (List.getElem_mem hktm))
         rw [sortW_len] at h1
         have e2 := HMM.out
         omega)
        have HSTAY := Lib.hid (show ∀ W, Below wo.heap.size wo W → W.cell? ⟨P, 1, none⟩ = some (.slice B2 m e2) ∧ W.cell? ⟨S, 1, none⟩ = some (.slice (some ⟨bt, ot, none⟩) m c2) ∧ W.cell? ⟨bt, ot + kt, none⟩ = some (wv ts[kt]) from fun W hb => ⟨(rowC_cells (HPR.out W hb)).2.1, (rowC_cells (HSW.out W hb)).2.1, (hb.cell (p := ⟨bt, ot + kt, none⟩) (by show bt < _; have := HSR.out; omega)).trans hct⟩)
        have hcq := (HSTAY.out wr HKO.out).2.2
        have HFE := Lib.hid (show -1 - (((sortW ts).idxOf ts[kt] : Nat) : Int) = F s from HFX.out.symm)
        have hixb := HIX.out
        generalize (sortW ts).idxOf ts[kt] = ix at *
        generalize ts[kt] = xt at *
        generalize F s = M1 at *
        have e1 : -1 - s = (kt : Int) := by omega
        have d1 : decide (s < 0) = true := by simpa using hneg
        clear hneg hkt hktm hct
        go_wp2_with fail
        have HCX := Lib.hid (show wr.drew.cell? ⟨b5, 1, none⟩ = some (.slice A9 j c9) ∧ wr.drew.cell? ⟨P, 1, none⟩ = some (.slice B2 m e2) ∧ wr.drew.cell? ⟨S, 1, none⟩ = some (.slice (some ⟨bt, ot, none⟩) m c2) ∧ wr.drew.cell? ⟨bt, ot + kt, none⟩ = some (wv xt) from ⟨by rw [cell_of_row wr.drew _ _ _ _ _ hrow]; rfl, by rw [cell_of_row wr.drew _ _ _ _ _ hrowP]; rfl, by rw [cell_of_row wr.drew _ _ _ _ _ hrowS]; rfl, hcq⟩)
        refine wpU_start (fun w' => w'.cell? ⟨b5, 1, none⟩ = some (.slice A9 j c9) ∧ w'.cell? ⟨P, 1, none⟩ = some (.slice B2 m e2) ∧ w'.cell? ⟨S, 1, none⟩ = some (.slice (some ⟨bt, ot, none⟩) m c2) ∧ w'.cell? ⟨bt, ot + kt, none⟩ = some (wv xt)) [14] 16 (by kernel_rfl) rfl ?_
        have HIND := Lib.hid (show InC wo b5 M0 ((r.2.take j).map F) (.slice A9 j c9) wr.drew from ⟨HIN.out.row, HIN.out.own.below ((Below.refl wr.heap.size wr).drew), HIN.out.keep.drew⟩)
        have HKD := Lib.hid (show Below wo.heap.size wo wr.drew from HKO.out.drew)
        clear HIN HKO hrow hrowP hrowS hcq g0 g1 g2 p0 p1 hr1 hc7
        generalize wr.drew = wd at *
        refine wpU_pure (i := 0) (v := .pointer (some ⟨b5, 1, none⟩)) rfl (by kernel_rfl) (by kernel_rfl) (by kernel_rfl) (by kernel_rfl) (by kernel_rfl) rfl (fun wq => by go_simp) HCX.out ?_
        generalize hac : Act.put _ _ _ = a9
        simp [Act.put] at hac
        subst hac
        refine wpU_load (i := 1) (v := .slice A9 j c9) rfl (by kernel_rfl) (by kernel_rfl) (by kernel_rfl) (by kernel_rfl) (by kernel_rfl) (by kernel_rfl) rfl (fun wq hbq => exec_load rfl rfl (load_slice (e := 3) (by kernel_rfl) hbq.1)) HCX.out ?_
        generalize hac : Act.put _ _ _ = a9
        simp [Act.put] at hac
        subst hac
        refine wpU_pure (i := 2) (v := .pointer (some ⟨P, 1, none⟩)) rfl (by kernel_rfl) (by kernel_rfl) (by kernel_rfl) (by kernel_rfl) (by kernel_rfl) rfl (fun wq => by go_simp) HCX.out ?_
        generalize hac : Act.put _ _ _ = a9
        simp [Act.put] at hac
        subst hac
        refine wpU_load (i := 3) (v := .slice B2 m e2) rfl (by kernel_rfl) (by kernel_rfl) (by kernel_rfl) (by kernel_rfl) (by kernel_rfl) (by kernel_rfl) rfl (fun wq hbq => exec_load rfl rfl (load_slice (e := 9) (by kernel_rfl) hbq.2.1)) HCX.out ?_
        generalize hac : Act.put _ _ _ = a9
        simp [Act.put] at hac
        subst hac
        refine wpU_pure (i := 4) (v := .pointer (some ⟨S, 1, none⟩)) rfl (by kernel_rfl) (by kernel_rfl) (by kernel_rfl) (by kernel_rfl) (by kernel_rfl) rfl (fun wq => by go_simp) HCX.out ?_
        generalize hac : Act.put _ _ _ = a9
        simp [Act.put] at hac
        subst hac
        refine wpU_load (i := 5) (v := .slice (some ⟨bt, ot, none⟩) m c2) rfl (by kernel_rfl) (by kernel_rfl) (by kernel_rfl) (by kernel_rfl) (by kernel_rfl) (by kernel_rfl) rfl (fun wq hbq => exec_load rfl rfl (load_slice (e := 9) (by kernel_rfl) hbq.2.2.1)) HCX.out ?_
        generalize hac : Act.put _ _ _ = a9
        simp [Act.put] at hac
        subst hac
        refine wpU_pure (i := 6) (v := .int .i64 s) rfl (by kernel_rfl) (by kernel_rfl) (by kernel_rfl) (by kernel_rfl) (by kernel_rfl) rfl (fun wq => by go_simp) HCX.out ?_
        generalize hac : Act.put _ _ _ = a9
        simp [Act.put] at hac
        subst hac
        refine wpU_pure (i := 7) (v := .int .i64 (kt : Int)) rfl (by kernel_rfl) (by kernel_rfl) (by kernel_rfl) (by kernel_rfl) (by kernel_rfl) rfl (fun wq => by go_simp; rw [IntKind.wrap_i64]; omega) HCX.out ?_
        generalize hac : Act.put _ _ _ = a9
        simp [Act.put] at hac
        subst hac
        refine wpU_pure (i := 8) (v := .pointer (some ⟨bt, ot + kt, none⟩)) rfl (by kernel_rfl) (by kernel_rfl) (by kernel_rfl) (by kernel_rfl) (by kernel_rfl) rfl (fun wq => by go_simp) HCX.out ?_
        generalize hac : Act.put _ _ _ = a9
        simp [Act.put] at hac
        subst hac
        refine wpU_load (i := 9) (v := wv xt) rfl (by kernel_rfl) (by kernel_rfl) (by kernel_rfl) (by kernel_rfl) (by kernel_rfl) (by kernel_rfl) rfl (fun wq hbq => exec_load rfl rfl (load_strC (by kernel_rfl) hbq.2.2.2)) HCX.out ?_
        generalize hac : Act.put _ _ _ = a9
        simp [Act.put] at hac
        subst hac
        refine wpU_one (i := 10) (by kernel_rfl) rfl (fun Q' hQ' => ?_)
        go_wp2_with fail
        refine (HFW.out wd HKD.out).mono ?_
        rintro e w10 ⟨rfl, rfl⟩
        go_wp2_with fail
        refine ⟨okU HCX.out, ?_⟩
        refine wpU_one (i := 11) (by kernel_rfl) rfl (fun Q' hQ' => ?_)
        go_wp2_with fail
        refine ⟨okU HCX.out, ?_⟩
        rw [HFE.out]
        have HB3 := Lib.hid ((Below.refl wd.heap.size wd).alloc (Nat.le_refl _) (.cells #[.int .i64 M1] 3))
        have HNEW := Lib.hid (Go.heap_alloc_new wd (.cells #[.int .i64 M1] 3))
        have HZN := Lib.hid (show wd.heap.size + 1 = (wd.alloc (.cells #[.int .i64 M1] 3)).heap.size from (World.size_alloc _ _).symm)
        refine wpU_one (i := 12) (by kernel_rfl) rfl (fun Q' hQ' => ?_)
        go_wp2_with fail
        generalize wd.alloc (.cells #[.int .i64 M1] 3) = w3' at *
        have HR3' := Lib.hid ((HB3.out.block b5 (Array.getElem?_eq_some_iff.1 HIND.out.row).1).trans HIND.out.row)
        have HKS := Lib.hid (HSTAY.out w3' (HKD.out.trans (HB3.out.mono HKD.out.size)))
        have HCX3 := Lib.hid (And.intro (show w3'.cell? ⟨b5, 1, none⟩ = some (.slice A9 j c9) by rw [cell_of_row _ _ _ _ _ _ HR3'.out]; rfl) HKS.out)
        refine ⟨okU HCX3.out, ?_⟩
        obtain ⟨css, h0, h2, h3⟩ := (HIND.out.own.below HB3.out).row
        rw [HLN.out] at h0 h2
        have hp64 : p ≤ 64 := by rw [HPP.out]; exact HFI.out.2.1
        have hbase : b5 + 1 ≤ w3'.heap.size := by have := (Array.getElem?_eq_some_iff.1 HR3'.out).1; omega
        refine wpU_one (i := 13) (by kernel_rfl) rfl (fun Q' hQ' => ?_)
        refine wpList_app (m := 1) int_app rfl rfl rfl rfl h0 (Rd.row (B := w3'.heap.size) HNEW.out (by rw [← HZN.out]; exact Nat.lt_succ_self _)) rfl (by simp [Value.oneCell']) (by simp only [maxLen]; omega) (by omega) hbase ?_
        intro v9' w11 hown11 hg11 _ _
        obtain ⟨A8, c8, hv8, _, _⟩ := own_form hown11
        subst hv8
        have HR11 := Lib.hid (grown_other h0 hg11 HR3'.out (by decide))
        have HNZ := Lib.hid (InC.snoc (m := M1) HIND.out HB3.out (by rw [HLN.out]; exact h0) (by rw [HLN.out]; exact h2) h3 HBM.out (by rw [HLN.out]; exact hown11) hg11)
        rw [← HTK2.out] at HNZ
        have HKB := Lib.hid (show Below wo.heap.size wo w11 from (grown_below (HKD.out.trans (HB3.out.mono HKD.out.size)) hg11 h0 (by rw [← HBZ.out]; exact Nat.le_succ _) (by have := HKD.out.size; have := HB3.out.size; omega)))
        have HCX4 := Lib.hid (And.intro (show w11.cell? ⟨b5, 1, none⟩ = some (.slice A9 j c9) by rw [cell_of_row _ _ _ _ _ _ HR11.out]; rfl) (HSTAY.out w11 HKB.out))
        generalize hac : Act.put _ _ _ = a9
        simp [Act.put] at hac
        subst hac
        refine hQ' _ _ ⟨okU HCX4.out, ?_⟩
        clear h0 h2 h3 hown11 hg11 HNEW HZN HB3 HR3' hbase HCX HKS HCX3 HKB
        refine wpU_one (i := 14) (by kernel_rfl) rfl (fun Q' hQ' => ?_)
        go_wp2_with fail
        refine ⟨okU_past (by kernel_rfl), ?_⟩
        have hcell : w11.cell? ⟨b5, 1, none⟩ = some (.slice A9 j c9) := HCX4.out.1
        have hfr : w11.frozen? ⟨b5, 1, none⟩ = false := by simp [World.frozen?, HR11.out]
        refine wpU_one (i := 15) (by kernel_rfl) rfl (fun Q' hQ' => ?_)
        go_wp2_with fail
        refine ⟨okU_past (by kernel_rfl), ?_⟩
        refine wpU_end (by kernel_rfl) ?_ _
        clear hcell hfr HR11 HCX4
        go_wp2_with fail
        go_roundw
        case rel => exact ⟨j + 1, _, by omega, by go_num, HNZ.out⟩
        case measure => simp [intOf]; omega
       ·obtain ⟨kt, hkt⟩ : ∃ kt : Nat, s = (kt : Int) := ⟨s.toNat, by omega⟩
        have hktm : kt < ns.length := by have h : s < (ns.length : Int) := HSY.out.2; omega
        have hktm2 : kt < n := by rw [HNN.out]; exact hktm
        obtain ⟨bt, ot, cs, hAB, _, hbt, hrep, hcell⟩ := (H1.out.below HBR.out).get (k := kt) (by rw [List.length_map]; exact hktm) (by decide)
        injection hAB with hAB
        injection hAB with hab1 hab2
        subst hab1 hab2
        obtain ⟨rfl, hxt⟩ := hrep
        have hct := hcell 0 _ rfl
        simp only [show eStr.size = 1 from rfl, Nat.mul_one, Nat.add_zero, List.getElem_map] at hct
        clear hcell hxt
        change wo.cell? ⟨bq, oq + kt, none⟩ = some (wv ns[kt]) at hct
        have HFX := Lib.hid (HFP.out s kt hktm hkt)
        have HFW := Lib.hid (show ∀ W, Below wo.heap.size wo W → Calls Tryz.prog 37 #[.slice B1 n e1, wv ns[kt]] W fun e w' => e = .returned (.int .i64 (F s)) ∧ W = w' from fun W hb => by
         rw [HFX.out]
         exact find_word (.slice B1 n e1) (canN ns) ns[kt] W.heap.size W (HUWK.out W (HKW.out W hb)) (Nat.le_refl _) ((canN_perm ns).mem_iff.2 (List.getElem_mem hktm)))
        have HSTAY := Lib.hid (show ∀ W, Below wo.heap.size wo W → W.cell? ⟨P, 0, none⟩ = some (.slice B1 n e1) ∧ W.cell? ⟨S, 0, none⟩ = some (.slice (some ⟨bq, oq, none⟩) n c1) ∧ W.cell? ⟨bq, oq + kt, none⟩ = some (wv ns[kt]) from fun W hb => ⟨(rowC_cells (HPR.out W hb)).1, (rowC_cells (HSW.out W hb)).1, (hb.cell (p := ⟨bq, oq + kt, none⟩) (by show bq < _; have := HSR.out; omega)).trans hct⟩)
        have hcq := (HSTAY.out wr HKO.out).2.2
        generalize ns[kt] = xt at *
        generalize F s = M1 at *
        have d1 : decide (s < 0) = false := by simpa using hneg
        subst hkt
        clear hneg hktm hct
        go_wp2_with fail
        have HCX := Lib.hid (show wr.drew.cell? ⟨b5, 1, none⟩ = some (.slice A9 j c9) ∧ wr.drew.cell? ⟨P, 0, none⟩ = some (.slice B1 n e1) ∧ wr.drew.cell? ⟨S, 0, none⟩ = some (.slice (some ⟨bq, oq, none⟩) n c1) ∧ wr.drew.cell? ⟨bq, oq + kt, none⟩ = some (wv xt) from ⟨by rw [cell_of_row wr.drew _ _ _ _ _ hrow]; rfl, by rw [cell_of_row wr.drew _ _ _ _ _ hrowP]; rfl, by rw [cell_of_row wr.drew _ _ _ _ _ hrowS]; rfl, hcq⟩)
        refine wpU_start (fun w' => w'.cell? ⟨b5, 1, none⟩ = some (.slice A9 j c9) ∧ w'.cell? ⟨P, 0, none⟩ = some (.slice B1 n e1) ∧ w'.cell? ⟨S, 0, none⟩ = some (.slice (some ⟨bq, oq, none⟩) n c1) ∧ w'.cell? ⟨bq, oq + kt, none⟩ = some (wv xt)) [12] 14 (by kernel_rfl) rfl ?_
        have HIND := Lib.hid (show InC wo b5 M0 ((r.2.take j).map F) (.slice A9 j c9) wr.drew from ⟨HIN.out.row, HIN.out.own.below ((Below.refl wr.heap.size wr).drew), HIN.out.keep.drew⟩)
        have HKD := Lib.hid (show Below wo.heap.size wo wr.drew from HKO.out.drew)
        clear HIN HKO hrow hrowP hrowS hcq g0 g1 g2 p0 p1 hr1 hc7
        generalize wr.drew = wd at *
        refine wpU_pure (i := 0) (v := .pointer (some ⟨b5, 1, none⟩)) rfl (by kernel_rfl) (by kernel_rfl) (by kernel_rfl) (by kernel_rfl) (by kernel_rfl) rfl (fun wq => by go_simp) HCX.out ?_
        generalize hac : Act.put _ _ _ = a9
        simp [Act.put] at hac
        subst hac
        refine wpU_load (i := 1) (v := .slice A9 j c9) rfl (by kernel_rfl) (by kernel_rfl) (by kernel_rfl) (by kernel_rfl) (by kernel_rfl) (by kernel_rfl) rfl (fun wq hbq => exec_load rfl rfl (load_slice (e := 3) (by kernel_rfl) hbq.1)) HCX.out ?_
        generalize hac : Act.put _ _ _ = a9
        simp [Act.put] at hac
        subst hac
        refine wpU_pure (i := 2) (v := .pointer (some ⟨P, 0, none⟩)) rfl (by kernel_rfl) (by kernel_rfl) (by kernel_rfl) (by kernel_rfl) (by kernel_rfl) rfl (fun wq => by go_simp) HCX.out ?_
        generalize hac : Act.put _ _ _ = a9
        simp [Act.put] at hac
        subst hac
        refine wpU_load (i := 3) (v := .slice B1 n e1) rfl (by kernel_rfl) (by kernel_rfl) (by kernel_rfl) (by kernel_rfl) (by kernel_rfl) (by kernel_rfl) rfl (fun wq hbq => exec_load rfl rfl (load_slice (e := 9) (by kernel_rfl) hbq.2.1)) HCX.out ?_
        generalize hac : Act.put _ _ _ = a9
        simp [Act.put] at hac
        subst hac
        refine wpU_pure (i := 4) (v := .pointer (some ⟨S, 0, none⟩)) rfl (by kernel_rfl) (by kernel_rfl) (by kernel_rfl) (by kernel_rfl) (by kernel_rfl) rfl (fun wq => by go_simp) HCX.out ?_
        generalize hac : Act.put _ _ _ = a9
        simp [Act.put] at hac
        subst hac
        refine wpU_load (i := 5) (v := .slice (some ⟨bq, oq, none⟩) n c1) rfl (by kernel_rfl) (by kernel_rfl) (by kernel_rfl) (by kernel_rfl) (by kernel_rfl) (by kernel_rfl) rfl (fun wq hbq => exec_load rfl rfl (load_slice (e := 9) (by kernel_rfl) hbq.2.2.1)) HCX.out ?_
        generalize hac : Act.put _ _ _ = a9
        simp [Act.put] at hac
        subst hac
        refine wpU_pure (i := 6) (v := .int .i64 (kt : Int)) rfl (by kernel_rfl) (by kernel_rfl) (by kernel_rfl) (by kernel_rfl) (by kernel_rfl) rfl (fun wq => by go_simp) HCX.out ?_
        generalize hac : Act.put _ _ _ = a9
        simp [Act.put] at hac
        subst hac
        refine wpU_pure (i := 7) (v := .pointer (some ⟨bq, oq + kt, none⟩)) rfl (by kernel_rfl) (by kernel_rfl) (by kernel_rfl) (by kernel_rfl) (by kernel_rfl) rfl (fun wq => by go_simp) HCX.out ?_
        generalize hac : Act.put _ _ _ = a9
        simp [Act.put] at hac
        subst hac
        refine wpU_load (i := 8) (v := wv xt) rfl (by kernel_rfl) (by kernel_rfl) (by kernel_rfl) (by kernel_rfl) (by kernel_rfl) (by kernel_rfl) rfl (fun wq hbq => exec_load rfl rfl (load_strC (by kernel_rfl) hbq.2.2.2)) HCX.out ?_
        generalize hac : Act.put _ _ _ = a9
        simp [Act.put] at hac
        subst hac
        refine wpU_one (i := 9) (by kernel_rfl) rfl (fun Q' hQ' => ?_)
        go_wp2_with fail
        refine (HFW.out wd HKD.out).mono ?_
        rintro e w10 ⟨rfl, rfl⟩
        go_wp2_with fail
        refine ⟨okU HCX.out, ?_⟩
        have HB3 := Lib.hid ((Below.refl wd.heap.size wd).alloc (Nat.le_refl _) (.cells #[.int .i64 M1] 3))
        have HNEW := Lib.hid (Go.heap_alloc_new wd (.cells #[.int .i64 M1] 3))
        have HZN := Lib.hid (show wd.heap.size + 1 = (wd.alloc (.cells #[.int .i64 M1] 3)).heap.size from (World.size_alloc _ _).symm)
        refine wpU_one (i := 10) (by kernel_rfl) rfl (fun Q' hQ' => ?_)
        go_wp2_with fail
        generalize wd.alloc (.cells #[.int .i64 M1] 3) = w3' at *
        have HR3' := Lib.hid ((HB3.out.block b5 (Array.getElem?_eq_some_iff.1 HIND.out.row).1).trans HIND.out.row)
        have HKS := Lib.hid (HSTAY.out w3' (HKD.out.trans (HB3.out.mono HKD.out.size)))
        have HCX3 := Lib.hid (And.intro (show w3'.cell? ⟨b5, 1, none⟩ = some (.slice A9 j c9) by rw [cell_of_row _ _ _ _ _ _ HR3'.out]; rfl) HKS.out)
        refine ⟨okU HCX3.out, ?_⟩
        obtain ⟨css, h0, h2, h3⟩ := (HIND.out.own.below HB3.out).row
        rw [HLN.out] at h0 h2
        have hp64 : p ≤ 64 := by rw [HPP.out]; exact HFI.out.2.1
        have hbase : b5 + 1 ≤ w3'.heap.size := by have := (Array.getElem?_eq_some_iff.1 HR3'.out).1; omega
        refine wpU_one (i := 11) (by kernel_rfl) rfl (fun Q' hQ' => ?_)
        refine wpList_app (m := 1) int_app rfl rfl rfl rfl h0 (Rd.row (B := w3'.heap.size) HNEW.out (by rw [← HZN.out]; exact Nat.lt_succ_self _)) rfl (by simp [Value.oneCell']) (by simp only [maxLen]; omega) (by omega) hbase ?_
        intro v9' w11 hown11 hg11 _ _
        obtain ⟨A8, c8, hv8, _, _⟩ := own_form hown11
        subst hv8
        have HR11 := Lib.hid (grown_other h0 hg11 HR3'.out (by decide))
        have HNZ := Lib.hid (InC.snoc (m := M1) HIND.out HB3.out (by rw [HLN.out]; exact h0) (by rw [HLN.out]; exact h2) h3 HBM.out (by rw [HLN.out]; exact hown11) hg11)
        rw [← HTK2.out] at HNZ
        have HKB := Lib.hid (show Below wo.heap.size wo w11 from (grown_below (HKD.out.trans (HB3.out.mono HKD.out.size)) hg11 h0 (by rw [← HBZ.out]; exact Nat.le_succ _) (by have := HKD.out.size; have := HB3.out.size; omega)))
        have HCX4 := Lib.hid (And.intro (show w11.cell? ⟨b5, 1, none⟩ = some (.slice A9 j c9) by rw [cell_of_row _ _ _ _ _ _ HR11.out]; rfl) (HSTAY.out w11 HKB.out))
        generalize hac : Act.put _ _ _ = a9
        simp [Act.put] at hac
        subst hac
        refine hQ' _ _ ⟨okU HCX4.out, ?_⟩
        clear h0 h2 h3 hown11 hg11 HNEW HZN HB3 HR3' hbase HCX HKS HCX3 HKB
        refine wpU_one (i := 12) (by kernel_rfl) rfl (fun Q' hQ' => ?_)
        go_wp2_with fail
        refine ⟨okU_past (by kernel_rfl), ?_⟩
        have hcell : w11.cell? ⟨b5, 1, none⟩ = some (.slice A9 j c9) := HCX4.out.1
        have hfr : w11.frozen? ⟨b5, 1, none⟩ = false := by simp [World.frozen?, HR11.out]
        refine wpU_one (i := 13) (by kernel_rfl) rfl (fun Q' hQ' => ?_)
        go_wp2_with fail
        refine ⟨okU_past (by kernel_rfl), ?_⟩
        refine wpU_end (by kernel_rfl) ?_ _
        clear hcell hfr HR11 HCX4
        go_wp2_with fail
        go_roundw
        case rel => exact ⟨j + 1, _, by omega, by go_num, HNZ.out⟩
        case measure => simp [intOf]; omega
      ·obtain rfl : j = p := by omega
       have HRX := Lib.hid (show r.2.take j = r.2 from by rw [HPP.out]; exact List.take_length)
       rw [HRX.out] at HIN HLN
       have HKL := Lib.hid (show out.length = k from HIR.out.len (by rw [List.length_map]; exact Nat.le_of_lt hkl))
       obtain ⟨A3', c3', hv3, hv31, hv32⟩ := HLC.out.own.form
       rw [HKL.out] at hv3 hv31
       subst hv3
       unfold maxLen at hv32
       have p2 := (rowC_cells (HPR.out wr HKO.out)).2.2
       have HSX := Lib.hid (show SmallS (r.2.map F) from fun s hs => by
        obtain ⟨y, hy, rfl⟩ := List.mem_map.1 hs
        have h := HFB.out y (HFI.out.2.2 y hy)
        unfold SymIn at h
        have e1 := HNN.out
        have e2 := HMM.out
        omega)
       have HSO := Lib.hid (show ∀ x ∈ out, SmallS x.2 from fun x hx s hs => by
        obtain ⟨y, hy, rfl⟩ := List.mem_map.1 (List.mem_of_mem_take ((HIR.out.perm.mem_iff).1 hx))
        obtain ⟨z, hz, rfl⟩ := List.mem_map.1 (show s ∈ y.2.map _ from hs)
        have hf := (HGD.out.fit y hy).2.2 z hz
        simp only [List.length_map] at hf
        have h := symM_in (canN_perm ns) (sortW_perm ts) hf
        unfold SymIn at h
        have e1 := HNN.out
        have e2 := HMM.out
        omega)
       go_wp2_with fail
       have HIW := Lib.hid HIN.out
       have HOW := Lib.hid (HLC.out.own.below HKO.out)
       have HZI := Lib.hid (show b5 < wr.heap.size from (Array.getElem?_eq_some_iff.1 HIN.out.row).1)
       have HPI := Lib.hid (HPR.out wr HKO.out)
       clear HIN hrow g0 g1 g2 hr1 p2 HRS hbq
       generalize wr = wi at *
       have HBI := Lib.hid (Below.refl wi.heap.size wi)
       have HGT := Lib.hid (show ∀ (j : Nat) (h : j < out.length), k ≤ j → ruleLt (M0, r.2.map F) out[j] from fun j h hj => by have := HKL.out; omega)
       go_loopw [8] (fun v8 wr => ∃ a : Nat, v8 = .int .i64 a ∧ a ≤ k ∧ Hid (∀ (j : Nat) (h : j < out.length), a ≤ j → ruleLt (M0, r.2.map F) out[j]) ∧ Hid (Below wi.heap.size wi wr)) (fun v8 _ => (intOf v8).toNat)
       case atStart => exact ⟨k, rfl, Nat.le_refl _, HGT.out, HBI.out⟩
       case round =>
        clear HGT HBI
        obtain ⟨a, rfl, hak, HGT, HBI⟩ := hrel
        have HPW := Lib.hid ((HBI.out.block P (Array.getElem?_eq_some_iff.1 HPI.out).1).trans HPI.out)
        have hb5r := (HBI.out.block b5 HZI.out).trans HIW.out.row
        have q0 : wr.cell? ⟨b5, 0, none⟩ = some (.int .i64 M0) := by rw [cell_of_row _ _ _ _ _ _ hb5r]; rfl
        have q1 : wr.cell? ⟨b5, 1, none⟩ = some (.slice A9 j c9) := by rw [cell_of_row _ _ _ _ _ _ hb5r]; rfl
        have p2 := (rowC_cells HPW.out).2.2
        have HUP := Lib.hid (fun (hd) => HIN2.out a (by rw [HKL.out]; exact hak) (by rw [HRM.out]; exact HGT.out) hd)
        by_cases h0 : 0 < a
        focus
         have hal : a - 1 < out.length := by have := HKL.out; omega
         obtain ⟨bo, oo, cs, rfl, _, hbo, hrep, hcell⟩ := (HOW.out.sl.below HBI.out).get hal (by decide)
         obtain ⟨vo, rfl, hso, _, _⟩ := eRule_open hrep
         obtain ⟨A7, c7, rfl, hl7, hl8⟩ := hso.form
         unfold maxLen at hl8
         have ho0 := hcell 0 _ rfl
         have ho1 := hcell 1 _ rfl
         simp only [show oRule.E.size = 2 from rfl, Nat.add_zero, ← Nat.add_assoc] at ho0 ho1
         have HSE := Lib.hid (HSO.out out[a - 1] (List.getElem_mem hal))
         have HNXT := Lib.hid (show ruleLt (M0, r.2.map F) out[a - 1] → ∀ (j : Nat) (h : j < out.length), a - 1 ≤ j → ruleLt (M0, r.2.map F) out[j] from fun hl j h hj => by
          by_cases e : j = a - 1
          ·subst e; exact hl
          ·exact HGT.out j h (by omega))
         have HUP2 := Lib.hid (show ¬ ruleLt (M0, r.2.map F) out[a - 1] → _ from fun hn => HUP.out (.inr ⟨hal, by rw [HRM.out]; exact hn⟩))
         have HWD := Lib.hid (show Below wi.heap.size wi wr.drew from HBI.out.drew)
         have HS1 := Lib.hid (show SlR eInt wr.drew wr.drew.heap.size (.slice A9 j c9) (r.2.map F) from by
          have := (HIW.out.own.below HWD.out).sl
          exact this)
         have HS2 := Lib.hid (show SlR eInt wr.drew wr.drew.heap.size (.slice A7 out[a - 1].2.length c7) out[a - 1].2 from (hso.below (Below.refl _ _).drew).more HBI.out.size)
         have HLS := Lib.hid (less16_any (.slice A9 j c9) (.slice A7 out[a - 1].2.length c7) M0 out[a - 1].1 (r.2.map F) out[a - 1].2 wr.drew HS1.out HS2.out HSX.out HSE.out)
         clear hcell hrep hso HS1 HS2
         obtain ⟨xl, hxl⟩ : ∃ xl, xl = out[a - 1].1 := ⟨_, rfl⟩
         obtain ⟨xr, hxr⟩ : ∃ xr, xr = out[a - 1].2 := ⟨_, rfl⟩
         have HXP := Lib.hid (show out[a - 1] = (xl, xr) from by rw [hxl, hxr])
         rw [HXP.out] at HNXT HUP2
         rw [← hxl, ← hxr] at HLS
         rw [← hxl] at ho0
         rw [← hxr] at ho1 hl7
         clear hxl hxr HSE
         obtain ⟨L7, hL7⟩ : ∃ L7, L7 = xr.length := ⟨_, rfl⟩
         rw [← hL7] at HLS ho1 hl7
         clear hL7
         have d0 : decide ((0 : Int) < (a : Int)) = true := by simp; omega
         have e1 : (a : Int) - 1 = ((a - 1 : Nat) : Int) := by omega
         have hak2 : a - 1 < k := by omega
         by_cases hru : ruleLt (M0, r.2.map F) (xl, xr)
         focus
          have HNX3 := Lib.hid (HNXT.out hru)
          unfold Less16To at HLS
          rw [decide_eq_true hru] at HLS
          clear HNXT HUP2 hru HUP
          go_wp2_with fail
          refine Text.wp_text [] (by kernel_rfl) (by kernel_rfl) (fun Q' hQ' => ?_)
          go_wp2_with fail
          refine HLS.out.mono ?_
          rintro e w3 ⟨rfl, hb3⟩
          have HB3 := Lib.hid (HWD.out.trans (hb3.mono HWD.out.size))
          clear hb3
          go_wp2_with fail
          refine ⟨by rfl, ?_⟩
          go_wp2_with fail
          go_roundw
          case rel => exact ⟨a - 1, by go_num, by omega, HNX3.out, HB3.out⟩
          case measure => simp [intOf]; omega
         have HINS := Lib.hid (HUP2.out hru)
         unfold Less16To at HLS
         rw [decide_eq_false hru] at HLS
         clear HNXT HUP2 hru HUP
         go_wp2_with fail
         refine Text.wp_text [] (by kernel_rfl) (by kernel_rfl) (fun Q' hQ' => ?_)
         go_wp2_with fail
         refine HLS.out.mono ?_
         rintro e w3 ⟨rfl, hb3⟩
         have HB3 := Lib.hid (HWD.out.trans (hb3.mono HWD.out.size))
         clear hb3
         go_wp2_with fail
         refine ⟨by rfl, ?_⟩
         obtain ⟨A3', hA3'⟩ : ∃ A3', A3' = (some ⟨bo, oo, none⟩ : Option Addr) := ⟨_, rfl⟩
         rw [← hA3'] at HLC HPR HPI HPW HOW ⊢
         clear hA3' ho0 ho1 hl7 hl8 HLS d0 e1 hak2 q0 q1 p2 HWD HPW HGT HBI hb5r hbo
        rotate_left
        focus
         have d0 : decide ((0 : Int) < (a : Int)) = false := by simp; omega
         have HINS := Lib.hid (HUP.out (.inl (by omega)))
         have HB3 := Lib.hid (show Below wi.heap.size wi wr.drew from HBI.out.drew)
         clear HUP
         go_wp2_with fail
         refine Text.wp_text [] (by kernel_rfl) (by kernel_rfl) (fun Q' hQ' => ?_)
         go_wp2_with fail
         refine ⟨by rfl, ?_⟩
         clear q0 q1 p2 HPW HGT HBI hb5r d0
         generalize wr.drew = w3 at *
        rotate_left
        all_goals
         have HPW := Lib.hid ((HB3.out.block P (Array.getElem?_eq_some_iff.1 HPI.out).1).trans HPI.out)
         have p2 := (rowC_cells HPW.out).2.2
         have HB5R := Lib.hid ((HB3.out.block b5 HZI.out).trans HIW.out.row)
         have HZ3 := Lib.hid HB3.out.size
         obtain ⟨css, h0, h2, h3⟩ := (HOW.out.below HB3.out).row
         rw [HKL.out] at h0 h2
         have hl2 : ∀ cs ∈ css, cs.length = 2 := fun cs hcs => by
          obtain ⟨i, hi, rfl⟩ := List.getElem_of_mem hcs
          exact oRule.E.len (oRule.elt (h3 i _ (out[i]'(by have := HKL.out; omega)) (List.getElem?_eq_getElem hi) (List.getElem?_eq_getElem (by have := HKL.out; omega))))
         have hone : ∀ u ∈ css.flatten, u.oneCell' = true := fun u hu => by
          obtain ⟨cs, hcs, hu⟩ := List.mem_flatten.1 hu
          obtain ⟨i, hi, rfl⟩ := List.getElem_of_mem hcs
          exact oRule.E.one (oRule.elt (h3 i _ (out[i]'(by have := HKL.out; omega)) (List.getElem?_eq_getElem hi) (List.getElem?_eq_getElem (by have := HKL.out; omega)))) u hu
         have HFT := Lib.hid (flat_two css a hl2)
         have HFL := Lib.hid (show css.flatten.length = k * 2 from h0.1)
         have HR3 := Lib.hid (Rd.of_own h0)
         have HCSS := Lib.hid (And.intro h2 h3)
         have HONE := Lib.hid hone
         clear h0 h2 h3 hl2 hone
         generalize hfl : css.flatten = fl at *
         have HFE := Lib.hid hfl
         clear hfl
         have HB4 := Lib.hid ((Below.refl w3.heap.size w3).alloc (Nat.le_refl _) (.cells #[] 36))
         have HO4 := Lib.hid (show (w3.alloc (.cells #[] 36)).ownsRow w3.heap.size 36 2 (.slice (some ⟨w3.heap.size, 0, none⟩) 0 0) 0 [] from ⟨rfl, .inr ⟨w3.heap.size, 0, #[], rfl, Nat.le_refl _, Go.heap_alloc_new w3 _, Nat.le_refl _, by simp [maxLen], rfl, rfl⟩⟩)
         have HR4 := Lib.hid ((HR3.out.below HB4.out).take_ (a * 2))
         have HT4 := Lib.hid (show (fl.take (a * 2)).length = a * 2 from by rw [List.length_take, HFL.out]; omega)
         have p4 : (w3.alloc (.cells #[] 36)).cell? ⟨P, 2, none⟩ = some (.slice A3' k c3') := by rw [HB4.out.cell (p := ⟨P, 2, none⟩) (Array.getElem?_eq_some_iff.1 HPW.out).1]; exact p2
         have hac : a ≤ c3' := by omega
         go_wp2_with (at_builtin; go_loud (refine wpList_app (m := a) rule_app rfl rfl rfl rfl HO4.out HR4.out HT4.out (fun u hu => HONE.out u (List.mem_of_mem_take hu)) (by simp only [maxLen]; omega) (by omega) HB4.out.size ?_))
         intro v8 w5' hown5 hg5 _ _
         have HB5 := Lib.hid (grown_below HB4.out hg5 HO4.out (Nat.le_refl _) HB4.out.size)
         obtain ⟨A8, c8, hv8, _, _⟩ := own_form hown5
         subst hv8
         have HO5 := Lib.hid hown5
         clear hown5 hg5 HO4 HR4 p4 p2 HT4
         generalize w3.alloc (.cells #[] 36) = w4' at *
         have HZ5 := Lib.hid HB5.out.size
         have q0 : w5'.cell? ⟨b5, 0, none⟩ = some (.int .i64 M0) := by rw [cell_of_row _ _ _ _ _ _ ((HB5.out.block b5 (Array.getElem?_eq_some_iff.1 HB5R.out).1).trans HB5R.out)]; rfl
         have q1 : w5'.cell? ⟨b5, 1, none⟩ = some (.slice A9 j c9) := by rw [cell_of_row _ _ _ _ _ _ ((HB5.out.block b5 (Array.getElem?_eq_some_iff.1 HB5R.out).1).trans HB5R.out)]; rfl
         have HB6 := Lib.hid ((Below.refl w5'.heap.size w5').alloc (Nat.le_refl _) (.cells #[.int .i64 M0, .slice A9 j c9] 36))
         have HNEW := Lib.hid (Go.heap_alloc_new w5' (.cells #[.int .i64 M0, .slice A9 j c9] 36))
         have HO6 := Lib.hid (own_below HO5.out HB6.out)
         go_wp2_with (at_builtin; go_loud (refine wpList_app (m := 1) rule_app rfl rfl rfl rfl HO6.out (Rd.row (B := w5'.heap.size + 1) HNEW.out (Nat.lt_succ_self _)) rfl (by simp [Value.oneCell']) (by simp only [maxLen]; omega) (by omega) (by have := HZ5.out; have := HB6.out.size; omega) ?_))
         intro v9' w7 hown7 hg7 _ _
         have HB7 := Lib.hid (grown_below (HB5.out.trans (HB6.out.mono HZ5.out)) hg7 HO6.out (Nat.le_refl _) (by have := HZ5.out; have := HB6.out.size; omega))
         obtain ⟨A9', c9', hv9', _, _⟩ := own_form hown7
         subst hv9'
         have HO7 := Lib.hid hown7
         clear hown7 hg7 HO6 q0 q1
         generalize w5'.alloc (.cells #[.int .i64 M0, .slice A9 j c9] 36) = w6' at *
         have HZ7 := Lib.hid HB7.out.size
         have p7 : w7.cell? ⟨P, 2, none⟩ = some (.slice A3' k c3') := by rw [HB7.out.cell (p := ⟨P, 2, none⟩) (Array.getElem?_eq_some_iff.1 HPW.out).1]; exact (rowC_cells HPW.out).2.2
         have HR7 := Lib.hid (HR3.out.below HB7.out)
         have HT7 := Lib.hid (show (fl.drop (a * 2)).length = (k - a) * 2 from by rw [List.length_drop, HFL.out]; omega)
         have HFIN := Lib.hid (show ∀ (W : World) (v' : Value), Below w3.heap.size w3 W → W.ownsRow w3.heap.size 36 2 v' (k + 1) (fl.take (a * 2) ++ [.int .i64 M0, .slice A9 j c9] ++ fl.drop (a * 2)) → LoopC w4 P (.slice B1 n e1) (.slice B2 m e2) (out.take a ++ ruleM ns ts (canN ns) (sortW ts) r :: out.drop a) v' (W.setCell ⟨P, 2, none⟩ v') from fun W v' hb ho => by
          refine LoopC.put HLC.out (HKO.out.trans ((HB3.out.trans (hb.mono HZ3.out)).mono HKO.out.size)) ?_
          refine OwnT.ins (O := oRule) (css := css) (cs := [.int .i64 M0, .slice A9 j c9]) (w := w3) (by rw [HKL.out]; exact HCSS.out.1) (by rw [HKL.out]; exact hak) HCSS.out.2 ?_ (KeepT.of_below hb) ?_
          ·rw [HRM.out]
           have hw4 : w4.heap.size ≤ b5 + 1 := by have h1 := HLC.out.keep.size; have h2 := HBZ.out; omega
           exact ⟨[.int .i64 M0], [.slice A9 j c9], rfl, ⟨rfl, HB0.out⟩, _, rfl, (HIW.out.own.below HB3.out).more hw4⟩
          ·rw [HFT.out.1, HFT.out.2, HKL.out]
           exact own_more ho (by have h1 := HLC.out.keep.size; have h2 := HKO.out.size; have := HZ3.out; omega))
         by_cases hcap : c3' = a
         ·have hai2 : k - a = 0 := by omega
          have HD0 := Lib.hid (show fl.drop (a * 2) = [] from List.drop_eq_nil_of_le (by rw [HFL.out]; omega))
          rw [HD0.out] at HFIN
          subst hcap
          go_wp2_with (at_builtin; go_loud (refine wpList_app (m := 0) (B := 0) (news := []) rule_app rfl rfl rfl rfl HO7.out Rd.nil_ rfl (by simp) (by simp only [maxLen]; omega) (by omega) HZ7.out ?_))
          intro v10 w8 hown8 hg8 _ _
          rw [show c3' + 1 = k + 1 by omega] at hown8
          replace hown8 : w8.ownsRow w3.heap.size 36 2 v10 (k + 1) (fl.take (c3' * 2) ++ [.int .i64 M0, .slice A9 j c9] ++ []) := by rw [List.append_nil]; exact hown8
          have HB8 := Lib.hid (grown_below HB7.out hg8 HO7.out (Nat.le_refl _) HZ7.out)
          have HPX := (HB8.out.block P (Array.getElem?_eq_some_iff.1 HPW.out).1).trans HPW.out
          have hcell : w8.cell? ⟨P, 2, none⟩ = some (.slice A3' k c3') := (rowC_cells HPX).2.2
          have hfr : w8.frozen? ⟨P, 2, none⟩ = false := by simp [World.frozen?, HPX]
          obtain ⟨A10, c10, hv10, _, _⟩ := own_form hown8
          subst hv10
          have HLN2 := Lib.hid (HFIN.out w8 _ HB8.out hown8)
          clear hown8 hg8 HPX
          go_wp2_with fail
          go_roundw
          case rel => exact ⟨k + 1, _, _, by omega, by go_num, HINS.out, HLN2.out⟩
          case measure => simp [intOf]; omega
         ·have HRb := Lib.hid (show Rd w7 w3.heap.size (A3'.map (·.add (a * 2))) (fl.drop (a * 2)) from by have := HR7.out.drop_ (a * 2) (cap := a * 2 + 1) (by omega); rwa [if_neg (by omega)] at this)
          go_wp2_with (at_builtin; go_loud (refine wpList_app (m := k - a) rule_app rfl rfl rfl rfl HO7.out HRb.out HT7.out (fun u hu => HONE.out u (List.mem_of_mem_drop hu)) (by simp only [maxLen]; omega) (by omega) HZ7.out ?_))
          intro v10 w8 hown8 hg8 _ _
          rw [show a + 1 + (k - a) = k + 1 by omega] at hown8
          replace hown8 : w8.ownsRow w3.heap.size 36 2 v10 (k + 1) (fl.take (a * 2) ++ [.int .i64 M0, .slice A9 j c9] ++ fl.drop (a * 2)) := by rw [List.append_assoc]; exact hown8
          have HB8 := Lib.hid (grown_below HB7.out hg8 HO7.out (Nat.le_refl _) HZ7.out)
          have HPX := (HB8.out.block P (Array.getElem?_eq_some_iff.1 HPW.out).1).trans HPW.out
          have hcell : w8.cell? ⟨P, 2, none⟩ = some (.slice A3' k c3') := (rowC_cells HPX).2.2
          have hfr : w8.frozen? ⟨P, 2, none⟩ = false := by simp [World.frozen?, HPX]
          obtain ⟨A10, c10, hv10, _, _⟩ := own_form hown8
          subst hv10
          have HLN2 := Lib.hid (HFIN.out w8 _ HB8.out hown8)
          clear hown8 hg8 HPX
          go_wp2_with fail
          go_roundw
          case rel => exact ⟨k + 1, _, _, by omega, by go_num, HINS.out, HLN2.out⟩
          case measure => simp [intOf]; omega
   ·obtain rfl : k = q := by omega
    have HDO := Lib.hid (HIR.out)
    have HOK := Lib.hid (show ∀ r ∈ rs.map (ruleM ns ts (canN ns) (sortW ts)), RuleOk r from fun r hr => by
     obtain ⟨x, hx, rfl⟩ := List.mem_map.1 hr
     intro s hs
     obtain ⟨y, hy, rfl⟩ := List.mem_map.1 (show s ∈ x.2.map _ from hs)
     have hf := (HGD.out.fit x hx).2.2 y hy
     simp only [List.length_map] at hf
     have h := (symM_in (canN_perm ns) (sortW_perm ts) hf).1
     have e2 := HMM.out
     omega)
    have HCR := Lib.hid (show out = canR ns ts rs from InsR.done HOK.out (by rw [List.length_map, ← HQQ.out]; exact HIR.out))
    obtain ⟨A3', c3', hv3, hv31, hv32⟩ := HLC.out.own.form
    have hone3 : v3.oneCell' = true := by rw [hv3]; rfl
    obtain ⟨p0, p1, p2⟩ := rowC_cells HLC.out.row
    have HRX := Lib.hid (show wr.heap[S + 1]? = some (.cells #[.slice none 0 0, .slice none 0 0, .slice none 0 0] 25 (0, 0)) from (HLC.out.keep.block (S + 1) (Array.getElem?_eq_some_iff.1 HR4.out).1 (by have := hPS; have := HZW.out; omega)).trans HR4.out)
    generalize out.length = no at *
    subst hv3
    go_wp2_with (refine stop_at none rfl ?_)
    refine Stop.go (wpList_store_agg rfl 25 rfl rfl rfl (store_rowC (vs := [.slice B1 n e1, .slice B2 m e2, .slice A3' no c3']) rfl (by kernel_rfl) HRX.out rfl (by intro u hu; simp at hu; rcases hu with rfl | rfl | rfl <;> rfl)) ?_)
    have HNN2 := Lib.hid (setRow_heap _ _ _ _ _ _ HRX.out : (wr.setRow (S + 1) [.slice B1 n e1, .slice B2 m e2, .slice A3' no c3'].toArray).heap[S + 1]? = _)
    have HBN := Lib.hid (below_setRow HBR.out (Nat.le_succ S) [.slice B1 n e1, .slice B2 m e2, .slice A3' no c3'].toArray)
    have HK1 := Lib.hid (keepT_setRow (ts := [9, 36, 3]) (cs' := [.slice B1 n e1, .slice B2 m e2, .slice A3' no c3'].toArray) HRX.out (by decide))
    have HKS := Lib.hid (HLC.out.keep.T (ts := [9]) HP.out (by decide))
    have HO13 := Lib.hid HLC.out.own
    rw [HCR.out] at HO13
    generalize wr.setRow (S + 1) [.slice B1 n e1, .slice B2 m e2, .slice A3' no c3'].toArray = w14 at *
    generalize hac : Act.put _ _ _ = a9
    simp [Act.put] at hac
    subst hac
    go_wp2_with fail
    have HFN := Lib.hid (show Fits (canN ns) from fun x hx => (sl_W H1.out).fits x ((canN_perm ns).mem_iff.1 hx))
    have HFT := Lib.hid (show Fits (sortW ts) from fun x hx => (sl_W H2.out).fits x ((sortW_perm ts).mem_iff.1 hx))
    have hU := own_keepT (own_keepT HU.out HKS.out (by simp)) HK1.out (by simp)
    have hV := own_keepT (own_keepT HV.out HKS.out (by simp)) HK1.out (by simp)
    have eU : n = (canN ns).length := by rw [canN_len]; exact HNN.out
    have eV : m = (sortW ts).length := by rw [sortW_len]; exact HMM.out
    have hw := HO13.out.keep (w' := w14) (HK1.out.less (by simp [oRule, oProd, oInt, oPure, oSl]))
    refine ret_gram rfl rfl rfl HNN2.out ⟨_, _, _, rfl, ?_, ?_, hw.sl, by rw [← HS.out]; exact HBN.out⟩
    ·exact slW_own (base := w3.heap.size) (t := 9) HFN.out (by rw [← eU]; exact hU)
    ·exact slW_own (base := MV) (t := 9) HFT.out (by rw [← eV]; exact hV)
end Go.Proofs.YthojelhpipmkiaaGreatDoor
