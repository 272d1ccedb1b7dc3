/- Texts of this proof joined: Sha5, Sha6. -/
import Derived.Test.YthojelhpipmkiaaGreatDoorKO15
namespace Go.Proofs.YthojelhpipmkiaaGreatDoor
open Go.RowKit

theorem ret_st8 {fn : Func} {p u : Tmp} {r : Value} {Q : Ending → World → Prop} (h : fn.results = #[.cell p 75, .tmp u]) {a : Act} {w : World} {g : Nat} {s : St8} {fr : Nat × Nat} {t : TypeId} (hd : a.defers = [])
  (hp : a.tmps.getD p undef = .pointer (some ⟨g, 0, none⟩)) (hu : a.tmps.getD u undef = r) (hg : w.heap[g]? = some (.cells (st8 s).toArray t fr)) (hq : Q (.returned (.tuple #[.agg (st8 s).toArray, r])) w) : bodyPost Tryz.prog fn Q .ret a w := by
 refine bodyPost_ret (v := .tuple #[.agg (st8 s).toArray, r]) ?_ hd hq
 rw [results_cell_tmp h, hp, hu]
 simp [asAddr, Result.andThen, run_loadVar_row w g t 75 (st8 s).toArray fr _ hg a8_u rfl a8_s]
def mixS (t s : St8) (i : Nat) : List W32 := (addS t s).list.take i ++ t.list.drop i
theorem mixS_step (t s : St8) : ∀ {i : Nat}, i < 8 → (mixS t s i)[i]? = some (t.list.getD i 0) ∧ (mixS t s i).set i (t.list.getD i 0 + s.list.getD i 0) = mixS t s (i + 1)
 |0, _ => ⟨rfl, rfl⟩
 |1, _ => ⟨rfl, rfl⟩
 |2, _ => ⟨rfl, rfl⟩
 |3, _ => ⟨rfl, rfl⟩
 |4, _ => ⟨rfl, rfl⟩
 |5, _ => ⟨rfl, rfl⟩
 |6, _ => ⟨rfl, rfl⟩
 |7, _ => ⟨rfl, rfl⟩
theorem mixS_end (t s : St8) : mixS t s 8 = (addS t s).list := rfl
theorem row_w32 {w : World} {g : Nat} {l : List W32} {t : TypeId} {fr : Nat × Nat} (h : w.heap[g]? = some (.cells (w32s l).toArray t fr)) {i : Nat} {x : W32} (hx : l[i]? = some x) : w.cell? ⟨g, i, none⟩ = some (w32v x) := by
 rw [cell_of_row _ _ _ _ _ _ h, ← Array.getElem?_toList]
 show (w32s l)[i]? = _
 unfold w32s
 rw [List.getElem?_map, hx]
 rfl
structure BlkI (w wr : World) (B M : Nat) (s : St8) (t : List W32) (W : List W32) : Prop where
 a : wr.heap[M + 2]? = some (.cells (w32s t).toArray 75 (0, 0))
 b : wr.heap[M]? = some (.cells (w32s W).toArray 121 (0, 0))
 c : wr.heap[M + 1]? = some (.cells rootVs.toArray 121 (0, 0))
 d : wr.heap[B]? = some (.cells (st8 s).toArray 75 (0, 0))
 e : wr.heap[B + 1]? = some (.cells zeros8.toArray 75 (0, 0))
 f : Below B w wr
theorem BlkI.lt {w wr : World} {B M : Nat} {s : St8} {t W : List W32} (h : BlkI w wr B M s t W) : M + 2 < wr.heap.size := (Array.getElem?_eq_some_iff.1 h.a).1
theorem BlkI.next {w wr w' : World} {B M : Nat} {s : St8} {t W : List W32} (h : BlkI w wr B M s t W) (hb : Below wr.heap.size wr w') : BlkI w w' B M s t W :=
 ⟨(hb.block _ (Array.getElem?_eq_some_iff.1 h.a).1).trans h.a, (hb.block _ (Array.getElem?_eq_some_iff.1 h.b).1).trans h.b, (hb.block _ (Array.getElem?_eq_some_iff.1 h.c).1).trans h.c, (hb.block _ (Array.getElem?_eq_some_iff.1 h.d).1).trans h.d,
  (hb.block _ (Array.getElem?_eq_some_iff.1 h.e).1).trans h.e, h.f.trans (hb.mono (Nat.le_of_lt (Array.getElem?_eq_some_iff.1 h.d).1))⟩
theorem BlkI.row {w wr : World} {B M : Nat} {s : St8} {t W : List W32} (h : BlkI w wr B M s t W) (hM : B + 2 ≤ M) (t' : List W32) : BlkI w (wr.setRow (M + 2) (w32s t').toArray) B M s t' W :=
 ⟨setRow_heap _ _ _ _ _ _ h.a, (setRow_other _ _ _ _ (by omega)).trans h.b, (setRow_other _ _ _ _ (by omega)).trans h.c, (setRow_other _ _ _ _ (by omega)).trans h.d, (setRow_other _ _ _ _ (by omega)).trans h.e, below_setRow h.f (by omega) _⟩
theorem BlkI.put {w wr : World} {B M : Nat} {s : St8} {t W : List W32} (h : BlkI w wr B M s t W) (hM : B + 2 ≤ M) (i : Nat) (x : W32) : BlkI w (wr.setCell ⟨M + 2, i, none⟩ (w32v x)) B M s (t.set i x) W := by
 refine ⟨?_, (heap_setCell_other _ _ _ _ (by show M ≠ M + 2; omega)).trans h.b, (heap_setCell_other _ _ _ _ (by show M + 1 ≠ M + 2; omega)).trans h.c, (heap_setCell_other _ _ _ _ (by show B ≠ M + 2; omega)).trans h.d, (heap_setCell_other _ _ _ _ (by show B + 1 ≠ M + 2; omega)).trans h.e, h.f.setCell (by show B ≤ M + 2; omega) _⟩
 have h0 := h.a
 simp only [World.setCell, Array.getElem?_modify, if_true, h0, Option.map_some]
 rw [List.setIfInBounds_toArray]
 unfold w32s
 rw [List.map_set]
 rfl
set_option maxRecDepth 100000 in
set_option maxHeartbeats 16000000 in
theorem block_any (s : St8) (b : List UInt8) (A : Option Addr) (c B' : Nat) (w : World) (hb : Rd w B' A (bcells b)) (hB' : B' ≤ w.heap.size) (hl : b.length = 64) :
  Calls Tryz.prog 63 #[.agg (st8 s).toArray, .slice A 64 c] w fun e w' => e = .returned (.tuple #[.agg (st8 (blockS s b)).toArray, .bool true]) ∧ Below w.heap.size w w' := by
 go_enter Tryz.func63, Tryz.ntmps63
 go_wp2_with (refine stop_at (some 2) rfl ?_)
 refine Stop.go (wpList_box rfl _ rfl rfl (vs := st8 s) rfl ?_)
 refine wpList_alloc rfl _ rfl zero_a8 (vs := zeros8) rfl ?_
 obtain ⟨hg1, hg2, hs1, hb1⟩ := two_allocs w (.cells (st8 s).toArray 75) (.cells zeros8.toArray 75)
 have HG1 := Lib.hid hg1
 have HG2 := Lib.hid hg2
 have HS1 := Lib.hid hs1
 have HB1 := Lib.hid hb1
 clear hg1 hg2 hs1 hb1
 simp only [World.size_alloc]
 generalize (w.alloc (.cells (st8 s).toArray 75)).alloc (.cells zeros8.toArray 75) = w1 at *
 obtain ⟨B, hB⟩ : ∃ B, B = w.heap.size := ⟨_, rfl⟩
 rw [← hB] at HG1 HG2 HS1 HB1 hB' ⊢
 have HBE := Lib.hid hB
 have HR := Lib.hid hb
 have HL := Lib.hid hl
 clear hB hb hl
 generalize hac : Act.put _ _ _ = a9
 simp [Act.put] at hac
 subst hac
 go_wp2_with fail
 refine (words_any b A c B' w1 (HR.out.below (HB1.out.mono hB')) (by have := HS1.out; omega) HL.out).mono ?_
 rintro e w2 ⟨rfl, hb2⟩
 have HB2 := Lib.hid hb2
 clear hb2
 go_wp2_with fail
 refine (roots_any w2).mono ?_
 rintro e w3 ⟨rfl, hb3⟩
 have HB3 := Lib.hid (HB2.out.trans (hb3.mono HB2.out.size))
 clear hb3
 have HWL := Lib.hid (wordsN_len b 64)
 have HONE := Lib.hid (w32s_one (wordsN b 64))
 have HWS := Lib.hid (show (w32s (wordsN b 64)).length = 64 by unfold w32s; rw [List.length_map, HWL.out])
 obtain ⟨W, hW⟩ : ∃ W, W = wordsN b 64 := ⟨_, rfl⟩
 rw [← hW] at HWL HONE HWS ⊢
 have HW := Lib.hid hW
 clear hW
 go_wp2_with (refine stop_at (some 6) rfl ?_)
 refine Stop.go (wpList_alloc rfl _ rfl zero_a64 (vs := zeros64) rfl ?_)
 refine wpList_alloc rfl _ rfl zero_a64 (vs := zeros64) rfl ?_
 obtain ⟨hg1, hg2, hs1, hb1⟩ := two_allocs w3 (.cells zeros64.toArray 121) (.cells zeros64.toArray 121)
 have HM6 := Lib.hid hg1
 have HM7 := Lib.hid hg2
 have HSM := Lib.hid hs1
 have HBM := Lib.hid hb1
 clear hg1 hg2 hs1 hb1
 simp only [World.size_alloc]
 generalize (w3.alloc (.cells zeros64.toArray 121)).alloc (.cells zeros64.toArray 121) = w4 at *
 obtain ⟨M, hM⟩ : ∃ M, M = w3.heap.size := ⟨_, rfl⟩
 have HMB := Lib.hid (show B + 2 ≤ M by have := HS1.out; have := HB3.out.size; omega)
 rw [← hM] at HM6 HM7 HSM HBM ⊢
 have HME := Lib.hid hM
 have HB4 := Lib.hid (HB3.out.trans (HBM.out.mono (by have := HMB.out; have := HS1.out; omega)))
 clear hM HB2 HB3 HBM
 refine wpList_store_agg rfl 121 rfl rfl rfl (store_rowS (vs := w32s W) rfl (by rw [HWS.out]; exact a64_s) HM6.out (by rw [HWS.out]; rfl) HONE.out) ?_
 have hn6 := setRow_heap _ _ _ (w32s W).toArray _ _ HM6.out
 have hn7 := (setRow_other w4 M (M + 1) (w32s W).toArray (by omega)).trans HM7.out
 have hb5 := below_setRow HB4.out (show w1.heap.size ≤ M by have := HMB.out; have := HS1.out; omega) (w32s W).toArray
 have hs5 : (w4.setRow M (w32s W).toArray).heap.size = M + 2 := by rw [← HSM.out]; simp [World.setRow]
 have HN6 := Lib.hid hn6
 have HN7 := Lib.hid hn7
 have HB5 := Lib.hid hb5
 have HS5 := Lib.hid hs5
 clear hn6 hn7 hb5 hs5 HM6 HM7 HB4 HSM
 generalize w4.setRow M (w32s W).toArray = w5 at *
 refine wpList_store_agg rfl 121 rfl rfl rfl (store_rowS (vs := rootVs) rfl a64_s HN7.out rfl (u32s_one _)) ?_
 have hn7 := setRow_heap _ _ _ rootVs.toArray _ _ HN7.out
 have hn6 := (setRow_other w5 (M + 1) M rootVs.toArray (by omega)).trans HN6.out
 have hb6 := below_setRow HB5.out (show w1.heap.size ≤ M + 1 by have := HMB.out; have := HS1.out; omega) rootVs.toArray
 have hs6 : (w5.setRow (M + 1) rootVs.toArray).heap.size = M + 2 := by rw [← HS5.out]; simp [World.setRow]
 have HO6 := Lib.hid hn6
 have HO7 := Lib.hid hn7
 have HB6 := Lib.hid hb6
 have HS6 := Lib.hid hs6
 clear hn6 hn7 hb6 hs6 HN6 HN7 HB5 HS5
 generalize w5.setRow (M + 1) rootVs.toArray = w6 at *
 generalize hac : Act.put _ _ _ = a9
 simp [Act.put] at hac
 subst hac
 have HG6 := Lib.hid ((HB6.out.block B (by have := HS1.out; omega)).trans HG1.out)
 have HR6 := Lib.hid ((HB6.out.block (B + 1) (by have := HS1.out; omega)).trans HG2.out)
 have HBW := Lib.hid (HB1.out.trans (HB6.out.mono (by have := HS1.out; omega)))
 clear HB6 HG1 HG2 HB1 HS1
 go_wp2_with (refine stop_at (some 18) rfl ?_)
 refine Stop.go (wpList_load_agg rfl 75 rfl rfl a8_u rfl (cs := st8 s) a8_s (by have := row_cells HG6.out; simpa using this) ?_)
 refine wpList_alloc rfl _ rfl zero_a8 (vs := zeros8) rfl ?_
 refine wpList_store_agg rfl 75 rfl rfl rfl (store_new2 (vs := st8 s) rfl rfl a8_s rfl (w32s_one _)) ?_
 generalize hac : Act.put _ _ _ = a9
 simp [Act.put] at hac
 subst hac
 rw [HS6.out]
 have hnew := Go.heap_alloc_new w6 (.cells (st8 s).toArray 75)
 rw [HS6.out] at hnew
 have hkeep : ∀ k, k < M + 2 → (w6.alloc (.cells (st8 s).toArray 75)).heap[k]? = w6.heap[k]? := fun k hk => Below.heap_alloc w6 _ k (by rw [HS6.out]; exact hk)
 have HI := Lib.hid (show BlkI w (w6.alloc (.cells (st8 s).toArray 75)) B M s (stepsN s W 0).list W from ⟨hnew, (hkeep _ (by omega)).trans HO6.out, (hkeep _ (by omega)).trans HO7.out, (hkeep _ (by have := HMB.out; omega)).trans HG6.out, (hkeep _ (by have := HMB.out; omega)).trans HR6.out, HBW.out.alloc (by have := HMB.out; have := HS6.out; omega) _⟩)
 clear hnew hkeep HO6 HO7 HG6 HR6 HBW
 generalize w6.alloc (.cells (st8 s).toArray 75) = w7 at *
 go_wp2_with fail
 go_loopw [19] (fun v19 wr => ∃ i : Nat, i ≤ 64 ∧ v19 = .int .i64 i ∧ Hid (BlkI w wr B M s (stepsN s W i).list W)) (fun v19 _ => 64 - (intOf v19).toNat)
 case atStart => exact ⟨0, by omega, rfl, HI.out⟩
 case round =>
  obtain ⟨i, hi, rfl, HX⟩ := hrel
  by_cases hlt : i < 64
  ·have c6 := row_w32 HX.out.b (i := i) (x := W.getD i 0) (by rw [List.getD_eq_getElem?_getD, List.getElem?_eq_getElem (by rw [HWL.out]; exact hlt)]; rfl)
   have c7 : wr.cell? ⟨M + 1, i, none⟩ = some (w32v (rootAt i)) := by rw [cell_of_row _ _ _ _ _ _ HX.out.c, ← Array.getElem?_toList]; exact roots_get hlt
   have HST := Lib.hid (show stepsN s W (i + 1) = stepS (stepsN s W i) (rootAt i) (W.getD i 0) from rfl)
   generalize stepsN s W i = t at *
   generalize W.getD i 0 = x at *
   generalize rootAt i = r at *
   go_wp2_with fail
   refine Text.wp_text [] (by kernel_rfl) (by kernel_rfl) (fun Q' hQ' => ?_)
   go_wp2_with (refine stop_at (some 22) rfl ?_)
   refine Stop.go (wpList_load_agg rfl 75 rfl rfl a8_u rfl (cs := st8 t) a8_s (row_cells (w := wr.drew) (vs := st8 t) HX.out.a) ?_)
   go_wp2_with fail
   refine (step_any t r x _).mono ?_
   rintro e w8 ⟨rfl, hb8⟩
   have HX8 := Lib.hid (show BlkI w w8 B M s t.list W from HX.out.next ((Below.refl wr.heap.size wr).drew.trans hb8))
   rw [← HST.out]
   clear hb8 c6 c7
   go_wp2_with (refine stop_at none rfl ?_)
   refine Stop.go (wpList_store_agg rfl 75 rfl rfl rfl (store_rowS (vs := st8 (stepsN s W (i + 1))) rfl a8_s HX8.out.a rfl (w32s_one _)) ?_)
   have HX9 := Lib.hid (HX8.out.row HMB.out (stepsN s W (i + 1)).list)
   clear HX8 HX
   rw [show w32s (stepsN s W (i + 1)).list = st8 (stepsN s W (i + 1)) from rfl] at HX9
   generalize w8.setRow (M + 2) (st8 (stepsN s W (i + 1))).toArray = w9 at *
   generalize hac : Act.put _ _ _ = a9
   simp [Act.put] at hac
   subst hac
   go_wp2_with fail
   refine ⟨by rfl, ?_⟩
   go_wp2_with fail
   go_roundw
   case rel => exact ⟨i + 1, by omega, by go_num, HX9.out⟩
   case measure => simp [intOf]; omega
  ·have HX2 := Lib.hid (show BlkI w wr B M s (mixS (stepsN s W 64) s 0) W from by
    have h := HX.out
    rw [show i = 64 by omega] at h
    exact h)
   have HFIN := Lib.hid (show blockS s b = addS (stepsN s W 64) s by unfold blockS; rw [HW.out])
   generalize stepsN s W 64 = t at *
   clear HX
   go_wp2_with fail
   go_loopw [31] (fun v31 wq => ∃ k : Nat, k ≤ 8 ∧ v31 = .int .i64 k ∧ Hid (BlkI w wq B M s (mixS t s k) W)) (fun v31 _ => 8 - (intOf v31).toNat)
   case atStart => exact ⟨0, by omega, rfl, HX2.out⟩
   case round =>
    clear HX2
    obtain ⟨k, hk, rfl, HX⟩ := hrel
    by_cases hlt2 : k < 8
    ·obtain ⟨hm1, hm2⟩ := mixS_step t s hlt2
     have ct := row_w32 HX.out.a hm1
     have cs := row_w32 (l := s.list) HX.out.d (i := k) (x := s.list.getD k 0) (by rw [List.getD_eq_getElem?_getD, List.getElem?_eq_getElem (show k < s.list.length from hlt2)]; rfl)
     have cf : wr.frozen? ⟨M + 2, k, none⟩ = false := by simp [World.frozen?, HX.out.a]
     have HX3 := Lib.hid (HX.out.put HMB.out k (t.list.getD k 0 + s.list.getD k 0))
     rw [hm2] at HX3
     have fs := nv_add (t.list.getD k 0) (s.list.getD k 0)
     generalize t.list.getD k 0 = tk at *
     generalize s.list.getD k 0 = sk at *
     clear hm1 hm2 HX
     go_wp2_with fail
     refine Text.wp_text [] (by kernel_rfl) (by kernel_rfl) (fun Q' hQ' => ?_)
     go_wp2_with fail
     refine ⟨by rfl, ?_⟩
     have HX4 := Lib.hid (show BlkI w (wr.setCell ⟨M + 2, k, none⟩ (.int .u32 (nv (tk + sk) : Int))).drew B M s (mixS t s (k + 1)) W from HX3.out.next (Below.refl _ _).drew)
     clear HX3 ct cs cf fs
     generalize (wr.setCell ⟨M + 2, k, none⟩ (.int .u32 (nv (tk + sk) : Int))).drew = w9 at *
     go_wp2_with fail
     go_roundw
     case rel => exact ⟨k + 1, by omega, by go_num, HX4.out⟩
     case measure => simp [intOf]; omega
    ·have HX2 := Lib.hid (show BlkI w wr B M s (addS t s).list W from by
      have h := HX.out
      rw [show k = 8 by omega, mixS_end] at h
      exact h)
     rw [← HFIN.out] at HX2
     clear HX
     obtain ⟨z, hz⟩ : ∃ z, z = blockS s b := ⟨_, rfl⟩
     rw [← hz] at HX2
     have HZ := Lib.hid hz
     clear hz
     go_wp2_with (refine stop_at (some 43) rfl ?_)
     refine Stop.go (wpList_load_agg rfl 75 rfl rfl a8_u rfl (cs := st8 z) a8_s (row_cells (vs := st8 z) HX2.out.a) ?_)
     refine wpList_store_agg rfl 75 rfl rfl rfl (store_rowS (vs := st8 z) rfl a8_s HX2.out.e rfl (w32s_one _)) ?_
     have HN := Lib.hid (setRow_heap _ _ _ _ _ _ HX2.out.e : (wr.setRow (B + 1) (st8 z).toArray).heap[B + 1]? = _)
     have HBN := Lib.hid (below_setRow HX2.out.f (Nat.le_succ B) (st8 z).toArray)
     generalize wr.setRow (B + 1) (st8 z).toArray = w9 at *
     generalize hac : Act.put _ _ _ = a9
     simp [Act.put] at hac
     subst hac
     go_wp2_with fail
     refine ret_st8 (s := z) (r := .bool true) rfl rfl rfl rfl HN.out ?_
     exact ⟨by rw [HZ.out], by rw [← HBE.out]; exact HBN.out⟩
end Go.Proofs.YthojelhpipmkiaaGreatDoor
namespace Go.Proofs.YthojelhpipmkiaaGreatDoor
open Go.RowKit

theorem padW_zero {l : List W32} (h : l.length < 64) : padW l = padW (l ++ [0]) := by
 unfold padW
 obtain ⟨k, hk⟩ : ∃ k, 64 - l.length = k + 1 := ⟨63 - l.length, by omega⟩
 rw [show 64 - (l ++ [(0 : W32)]).length = k by rw [List.length_append, List.length_singleton]; omega, hk, List.replicate_succ, List.append_assoc]
 rfl
theorem padW_put {l : List W32} (x y : W32) : (w32s (padW (l ++ [x]))).set l.length (w32v y) = w32s (padW (l ++ [y])) := by
 have e : ∀ z : W32, w32s (padW (l ++ [z])) = w32s l ++ w32v z :: w32s (List.replicate (64 - (l.length + 1)) 0) := fun z => by
  unfold padW w32s
  rw [List.length_append, List.length_singleton, List.append_assoc, List.map_append]
  rfl
 have hl : (w32s l).length = l.length := List.length_map ..
 rw [e, e, ← hl, List.set_append_right _ _ (Nat.le_refl _), Nat.sub_self]
 rfl
theorem ArrT.put {T : TypeId} {w : World} {g : Nat} {l : List W32} {x : W32} (h : ArrT T w g (l ++ [x])) (y : W32) : ArrT T (w.setCell ⟨g, l.length, none⟩ (w32v y)) g (l ++ [y]) := by
 unfold ArrT
 have h0 : w.heap[g]? = _ := h
 simp only [World.setCell, Array.getElem?_modify, if_true, h0, Option.map_some]
 rw [List.setIfInBounds_toArray, padW_put]
 rfl
def horW (b : List UInt8) (i : Nat) : Nat → W32
 |0 => 0
 |k + 1 => horW b i k * 256 + BitVec.ofNat 32 (b.getD (4 * i + k) 0).toNat
theorem horW_four (b : List UInt8) (i : Nat) : horW b i 4 = be4 (b.getD (4 * i) 0) (b.getD (4 * i + 1) 0) (b.getD (4 * i + 2) 0) (b.getD (4 * i + 3) 0) := by
 apply BitVec.eq_of_toNat_eq
 unfold be4 horW horW horW horW horW
 have h0 := (b.getD (4 * i) 0).toNat_lt
 have h1 := (b.getD (4 * i + 1) 0).toNat_lt
 have h2 := (b.getD (4 * i + 2) 0).toNat_lt
 have h3 := (b.getD (4 * i + 3) 0).toNat_lt
 simp only [BitVec.toNat_add, BitVec.toNat_mul, BitVec.toNat_ofNat, Nat.add_zero, show BitVec.toNat (256 : W32) = 256 from rfl, show BitVec.toNat (0 : W32) = 0 from rfl]
 generalize (b.getD (4 * i) 0).toNat = n0 at *
 generalize (b.getD (4 * i + 1) 0).toNat = n1 at *
 generalize (b.getD (4 * i + 2) 0).toNat = n2 at *
 generalize (b.getD (4 * i + 3) 0).toNat = n3 at *
 omega
theorem nv_hor (x : W32) (n : Nat) (h : n < 256) : (nv x : Int) * 256 % 4294967296 + (n : Int) = (nv (x * 256 + BitVec.ofNat 32 n) : Int) := by
 rw [nv_eq, nv_eq, BitVec.toNat_add, BitVec.toNat_mul, BitVec.toNat_ofNat]
 have : (256 : W32).toNat = 256 := rfl
 rw [this]
 omega
theorem make_u32 (w : World) : (Instr.makeSlice 119 (.int .i64 64) (.int .i64 64)).run Tryz.prog w = .ok (.slice (some ⟨w.heap.size, 0, none⟩) 64 64) (w.alloc (.cells zeros64.toArray 74)) := by kernel_rfl
abbrev ArrU (w : World) (g : Nat) (l : List W32) : Prop := ArrT 74 w g l
set_option maxRecDepth 100000 in
set_option maxHeartbeats 16000000 in
theorem words04_any (b : List UInt8) (A : Option Addr) (c B' : Nat) (w : World) (hb : Rd w B' A (bcells b)) (hB' : B' ≤ w.heap.size) (hl : b.length = 64) :
  Calls Tryz.prog 82 #[.slice A 64 c] w fun e w' => e = .returned (.slice (some ⟨w.heap.size, 0, none⟩) 64 64) ∧ w'.heap[w.heap.size]? = some (.cells (w32s (wordsN b 64)).toArray 74 (0, 0)) ∧ Below w.heap.size w w' := by
 have hmk := make_u32
 go_enter Tryz.func82, Tryz.ntmps82
 go_wp2_with fail
 have hg := Go.heap_alloc_new w (.cells zeros64.toArray 74)
 have HG := Lib.hid (show ArrU (w.alloc (.cells zeros64.toArray 74)) w.heap.size [] from by unfold ArrU ArrT; rw [padW_nil]; exact hg)
 have HB1 := Lib.hid ((Below.refl w.heap.size w).alloc (Nat.le_refl _) (.cells zeros64.toArray 74))
 clear hg hmk
 generalize w.alloc (.cells zeros64.toArray 74) = w1 at *
 obtain ⟨B, hB⟩ : ∃ B, B = w.heap.size := ⟨_, rfl⟩
 rw [← hB] at HG HB1 hB' ⊢
 have HBE := Lib.hid hB
 obtain ⟨ab, ao, rfl, hab, hby⟩ := rd_bytes hb (by omega)
 rw [hl] at hby
 have HR := Lib.hid hby
 clear hB hb hl hby
 go_loopw [4] (fun v4 wr => ∃ i : Nat, i ≤ 16 ∧ v4 = .int .i64 i ∧ Hid (ArrU wr B (wordsN b i)) ∧ Hid (Below B w wr)) (fun v4 _ => 16 - (intOf v4).toNat)
 case atStart => exact ⟨0, by omega, rfl, HG.out, HB1.out⟩
 case round =>
  obtain ⟨i, hi, rfl, HA, HBW⟩ := hrel
  by_cases hlt : i < 16
  ·have HWL := Lib.hid (wordsN_len b i)
   have HA0 := Lib.hid (show ArrU wr B (wordsN b i ++ [horW b i 0]) from by
    have h := HA.out
    unfold ArrU ArrT at h ⊢
    rw [padW_zero (by rw [HWL.out]; omega)] at h
    exact h)
   have HFIN := Lib.hid (show wordsN b i ++ [horW b i 4] = wordsN b (i + 1) by
    rw [horW_four]
    show _ = wordsN b i ++ [nextW b (wordsN b i)]
    unfold nextW
    simp only [wordsN_len]
    rw [if_pos hlt])
   clear HA
   go_wp2_with fail
   go_loopw [5] (fun v5 wq => ∃ k : Nat, k ≤ 4 ∧ v5 = .int .i64 k ∧ Hid (ArrU wq B (wordsN b i ++ [horW b i k])) ∧ Hid (Below B w wq)) (fun v5 _ => 4 - (intOf v5).toNat)
   case atStart => exact ⟨0, by omega, rfl, HA0.out, HBW.out⟩
   case round =>
    clear HA0 HBW
    obtain ⟨k, hk, rfl, HA, HBW⟩ := hrel
    by_cases hk4 : k < 4
    ·have bk := HR.out wr (HBW.out.mono hB') (4 * i + k) (by omega)
     have lk := (b.getD (4 * i + k) 0).toNat_lt
     have hc := HA.out.cell (i := i) (by rw [List.length_append, HWL.out]; simp)
     rw [List.getD_eq_getElem?_getD, List.getElem?_append_right (by rw [HWL.out]; exact Nat.le_refl _), HWL.out, Nat.sub_self] at hc
     have hfr := HA.out.free i
     have HNX := Lib.hid (nv_hor (horW b i k) (b.getD (4 * i + k) 0).toNat lk)
     have HA1 := Lib.hid (HA.out.put (horW b i (k + 1)))
     rw [HWL.out] at HA1
     have HHK := Lib.hid (show horW b i (k + 1) = horW b i k * 256 + BitVec.ofNat 32 (b.getD (4 * i + k) 0).toNat from rfl)
     simp only [List.getElem?_cons_zero, Option.getD_some] at hc
     obtain ⟨y, hy⟩ : ∃ y, y = horW b i (k + 1) := ⟨_, rfl⟩
     rw [← hy] at HA1 HHK
     rw [← HHK.out] at HNX
     generalize (b.getD (4 * i + k) 0).toNat = n0 at *
     generalize horW b i k = x at *
     have hnx := HNX.out
     have hym : (nv y : Int) % 4294967296 = (nv y : Int) := by have := nv_lt y; omega
     have HY := Lib.hid hy
     clear HHK hy
     go_wp2_with fail
     refine Text.wp_text [] (by kernel_rfl) (by kernel_rfl) (fun Q' hQ' => ?_)
     go_wp2_with fail
     refine ⟨by rfl, ?_⟩
     have HA2 := Lib.hid (show ArrU (wr.setCell ⟨B, i, none⟩ (.int .u32 (nv y : Int))).drew B (wordsN b i ++ [horW b i (k + 1)]) from by rw [← HY.out]; exact HA1.out)
     have HB2 := Lib.hid (show Below B w (wr.setCell ⟨B, i, none⟩ (.int .u32 (nv y : Int))).drew from (HBW.out.setCell (Nat.le_refl B) _).drew)
     generalize (wr.setCell ⟨B, i, none⟩ (.int .u32 (nv y : Int))).drew = w3 at *
     clear hc hfr bk hnx hym HY HA1
     go_wp2_with fail
     go_roundw
     case rel => exact ⟨k + 1, by omega, by go_num, HA2.out, HB2.out⟩
     case measure => simp [intOf]; omega
    ·have HA2 := Lib.hid (show ArrU wr B (wordsN b (i + 1)) from by
      have h := HA.out
      rw [show k = 4 by omega, HFIN.out] at h
      exact h)
     go_wp2_with fail
     go_roundw
     case rel => exact ⟨i + 1, by omega, by go_num, HA2.out, HBW.out⟩
     case measure => simp [intOf]; omega
  ·have HA16 := Lib.hid (show ArrU wr B (wordsN b 16) from by
    have h := HA.out
    rw [show i = 16 by omega] at h
    exact h)
   clear HA
   go_wp2_with fail
   go_loopw [6] (fun v6 wq => ∃ i : Nat, 16 ≤ i ∧ i ≤ 64 ∧ v6 = .int .i64 i ∧ Hid (ArrU wq B (wordsN b i)) ∧ Hid (Below B w wq)) (fun v6 _ => 64 - (intOf v6).toNat)
   case atStart => exact ⟨16, by omega, by omega, rfl, HA16.out, HBW.out⟩
   case round =>
    clear HA16 HBW
    obtain ⟨i, h16, hi, rfl, HA, HBW⟩ := hrel
    by_cases hlt : i < 64
    ·have HWL := Lib.hid (wordsN_len b i)
     have g15 := HA.out.cell (i := i - 15) (by rw [HWL.out]; omega)
     have g16 := HA.out.cell (i := i - 16) (by rw [HWL.out]; omega)
     have g7 := HA.out.cell (i := i - 7) (by rw [HWL.out]; omega)
     have g2 := HA.out.cell (i := i - 2) (by rw [HWL.out]; omega)
     have HV := Lib.hid (show nextW b (wordsN b i) = (wordsN b i).getD (i - 16) 0 + (wordsN b i).getD (i - 7) 0 + sig0 ((wordsN b i).getD (i - 15) 0) + sig1 ((wordsN b i).getD (i - 2) 0) by
      unfold nextW
      simp only [wordsN_len]
      rw [if_neg (by omega)]
      ac_rfl)
     have HCELLS := Lib.hid (fun (w' : World) (h : ArrU w' B (wordsN b i)) => (⟨h.cell (i := i - 15) (by rw [HWL.out]; omega), h.cell (i := i - 16) (by rw [HWL.out]; omega), h.cell (i := i - 7) (by rw [HWL.out]; omega), h.cell (i := i - 2) (by rw [HWL.out]; omega)⟩ : _ ∧ _ ∧ _ ∧ _))
     generalize (wordsN b i).getD (i - 15) 0 = y15 at *
     generalize (wordsN b i).getD (i - 16) 0 = y16 at *
     generalize (wordsN b i).getD (i - 7) 0 = y7 at *
     generalize (wordsN b i).getD (i - 2) 0 = y2 at *
     have fx := nv_xor
     have fs := nv_add
     go_wp2_with fail
     refine Text.wp_grow [5, 11, 18] [4, 10, 17] [] (by kernel_rfl) (by kernel_rfl) ?_
     refine Text.wpS_seg 5 _ _ _ _ (by decide) (fun Q' hQ' => ?_)
     simp only [List.take_succ_cons, List.take_zero]
     go_wp2_with fail
     try simp only [List.drop_succ_cons, List.drop_zero]
     refine Text.wpS_one (fun Q' hQ' => ?_)
     go_wp2_with fail
     refine (turn04_any y15 7 _ (by omega)).mono ?_
     rintro e w2 ⟨rfl, hb1⟩
     have HBw2 := Lib.hid hb1
     clear hb1
     have HAw2 := Lib.hid (show ArrU w2 B (wordsN b i) from (HBw2.out.block B (show B < wr.heap.size from (Array.getElem?_eq_some_iff.1 HA.out).1)).trans HA.out)
     obtain ⟨p15, p16, p7, p2⟩ := HCELLS.out w2 HAw2.out
     go_wp2_with fail
     refine ⟨HBw2.out, ?_⟩
     refine Text.wpS_seg 5 _ _ _ _ (by decide) (fun Q' hQ' => ?_)
     simp only [List.take_succ_cons, List.take_zero]
     go_wp2_with fail
     try simp only [List.drop_succ_cons, List.drop_zero]
     refine Text.wpS_one (fun Q' hQ' => ?_)
     go_wp2_with fail
     refine (turn04_any y15 18 _ (by omega)).mono ?_
     rintro e w3 ⟨rfl, hb1⟩
     have HBw3 := Lib.hid (HBw2.out.trans (hb1.mono HBw2.out.size))
     clear hb1 p15 p16 p7 p2
     have HAw3 := Lib.hid (show ArrU w3 B (wordsN b i) from (HBw3.out.block B (show B < wr.heap.size from (Array.getElem?_eq_some_iff.1 HA.out).1)).trans HA.out)
     obtain ⟨p15, p16, p7, p2⟩ := HCELLS.out w3 HAw3.out
     go_wp2_with fail
     refine ⟨HBw3.out, ?_⟩
     refine Text.wpS_seg 6 _ _ _ _ (by decide) (fun Q' hQ' => ?_)
     simp only [List.take_succ_cons, List.take_zero]
     go_wp2_with fail
     try simp only [List.drop_succ_cons, List.drop_zero]
     refine Text.wpS_one (fun Q' hQ' => ?_)
     go_wp2_with fail
     refine (move04_any y15 3 _ (by omega)).mono ?_
     rintro e w4 ⟨rfl, hb1⟩
     have HBw4 := Lib.hid (HBw3.out.trans (hb1.mono HBw3.out.size))
     clear hb1 p15 p16 p7 p2
     have HAw4 := Lib.hid (show ArrU w4 B (wordsN b i) from (HBw4.out.block B (show B < wr.heap.size from (Array.getElem?_eq_some_iff.1 HA.out).1)).trans HA.out)
     obtain ⟨p15, p16, p7, p2⟩ := HCELLS.out w4 HAw4.out
     go_wp2_with fail
     refine ⟨HBw4.out, ?_⟩
     refine Text.wpS_seg 2 _ _ _ _ (by decide) (fun Q' hQ' => ?_)
     simp only [List.take_succ_cons, List.take_zero]
     go_wp2_with fail
     refine ⟨by rfl, ?_, ?_⟩
     ·exact ⟨fun _ => ⟨_, _, rfl, g15⟩, fun _ => ⟨_, _, rfl, g15⟩, fun _ => ⟨_, _, rfl, g15⟩, trivial⟩
     rw [show rotr y15 7 ^^^ rotr y15 18 ^^^ y15 >>> 3 = sig0 y15 from rfl]
     obtain ⟨s0, hs0⟩ : ∃ s0, s0 = sig0 y15 := ⟨_, rfl⟩
     rw [← hs0] at HV ⊢
     have HBX := Lib.hid (show Below B w w4 from HBW.out.trans ((Below.refl wr.heap.size wr).drew.trans HBw4.out |>.mono (Nat.le_of_lt (Array.getElem?_eq_some_iff.1 HA.out).1)))
     clear hs0 g15 g16 g7 g2
     go_wp2_with fail
     refine Text.wp_grow [5, 11, 18] [4, 10, 17] [] (by kernel_rfl) (by kernel_rfl) ?_
     refine Text.wpS_seg 5 _ _ _ _ (by decide) (fun Q' hQ' => ?_)
     simp only [List.take_succ_cons, List.take_zero]
     go_wp2_with fail
     try simp only [List.drop_succ_cons, List.drop_zero]
     refine Text.wpS_one (fun Q' hQ' => ?_)
     go_wp2_with fail
     have r2 := p2
     clear p15 p16 p7 p2
     refine (turn04_any y2 17 _ (by omega)).mono ?_
     rintro e w5 ⟨rfl, hb1⟩
     have HBw5 := Lib.hid hb1
     clear hb1
     have HAw5 := Lib.hid (show ArrU w5 B (wordsN b i) from (HBw5.out.block B (show B < w4.heap.size from (Array.getElem?_eq_some_iff.1 HAw4.out).1)).trans HAw4.out)
     obtain ⟨p15, p16, p7, p2⟩ := HCELLS.out w5 HAw5.out
     go_wp2_with fail
     refine ⟨HBw5.out, ?_⟩
     refine Text.wpS_seg 5 _ _ _ _ (by decide) (fun Q' hQ' => ?_)
     simp only [List.take_succ_cons, List.take_zero]
     go_wp2_with fail
     try simp only [List.drop_succ_cons, List.drop_zero]
     refine Text.wpS_one (fun Q' hQ' => ?_)
     go_wp2_with fail
     refine (turn04_any y2 19 _ (by omega)).mono ?_
     rintro e w6 ⟨rfl, hb1⟩
     have HBw6 := Lib.hid (HBw5.out.trans (hb1.mono HBw5.out.size))
     clear hb1 p15 p16 p7 p2
     have HAw6 := Lib.hid (show ArrU w6 B (wordsN b i) from (HBw6.out.block B (show B < w4.heap.size from (Array.getElem?_eq_some_iff.1 HAw4.out).1)).trans HAw4.out)
     obtain ⟨p15, p16, p7, p2⟩ := HCELLS.out w6 HAw6.out
     go_wp2_with fail
     refine ⟨HBw6.out, ?_⟩
     refine Text.wpS_seg 6 _ _ _ _ (by decide) (fun Q' hQ' => ?_)
     simp only [List.take_succ_cons, List.take_zero]
     go_wp2_with fail
     try simp only [List.drop_succ_cons, List.drop_zero]
     refine Text.wpS_one (fun Q' hQ' => ?_)
     go_wp2_with fail
     refine (move04_any y2 10 _ (by omega)).mono ?_
     rintro e w7 ⟨rfl, hb1⟩
     have HBw7 := Lib.hid (HBw6.out.trans (hb1.mono HBw6.out.size))
     clear hb1 p15 p16 p7 p2
     have HAw7 := Lib.hid (show ArrU w7 B (wordsN b i) from (HBw7.out.block B (show B < w4.heap.size from (Array.getElem?_eq_some_iff.1 HAw4.out).1)).trans HAw4.out)
     obtain ⟨p15, p16, p7, p2⟩ := HCELLS.out w7 HAw7.out
     go_wp2_with fail
     refine ⟨HBw7.out, ?_⟩
     refine Text.wpS_seg 2 _ _ _ _ (by decide) (fun Q' hQ' => ?_)
     simp only [List.take_succ_cons, List.take_zero]
     go_wp2_with fail
     refine ⟨by rfl, ?_, ?_⟩
     ·exact ⟨fun _ => ⟨_, _, rfl, r2⟩, fun _ => ⟨_, _, rfl, r2⟩, fun _ => ⟨_, _, rfl, r2⟩, trivial⟩
     rw [show rotr y2 17 ^^^ rotr y2 19 ^^^ y2 >>> 10 = sig1 y2 from rfl]
     obtain ⟨s1, hs1⟩ : ∃ s1, s1 = sig1 y2 := ⟨_, rfl⟩
     rw [← hs1] at HV ⊢
     have HBY := Lib.hid (show Below B w w7 from HBX.out.trans ((Below.refl w4.heap.size w4).drew.trans HBw7.out |>.mono (Nat.le_of_lt (Array.getElem?_eq_some_iff.1 HAw4.out).1)))
     clear hs1 r2
     obtain ⟨old, hcell⟩ := HAw7.out.any (i := i) (by rw [HWL.out]; omega) hlt
     have hfr := HAw7.out.free i
     clear HBw2 HBw3 HBw4 HBw5 HBw6 HBw7 HAw2 HAw3 HAw4 HAw5 HAw6 HBX
     go_wp2_with fail
     refine Text.wp_text [] (by kernel_rfl) (by kernel_rfl) (fun Q' hQ' => ?_)
     go_wp2_with fail
     refine ⟨by rfl, ?_⟩
     rw [← HV.out]
     have HA2 := Lib.hid (show ArrU (w7.setCell ⟨B, i, none⟩ (.int .u32 (nv (nextW b (wordsN b i)) : Int))).drew B (wordsN b (i + 1)) from by
      have h := ArrT.set (w := w7) HAw7.out (by rw [HWL.out]; omega) (nextW b (wordsN b i))
      rw [HWL.out] at h
      exact h)
     have HB2 := Lib.hid (show Below B w (w7.setCell ⟨B, i, none⟩ (.int .u32 (nv (nextW b (wordsN b i)) : Int))).drew from (HBY.out.setCell (Nat.le_refl B) _).drew)
     generalize (w7.setCell ⟨B, i, none⟩ _).drew = w8 at *
     clear hcell hfr p15 p16 p7 p2
     go_wp2_with fail
     go_roundw
     case rel => exact ⟨i + 1, by omega, by omega, by go_num, HA2.out, HB2.out⟩
     case measure => simp [intOf]; omega
    ·have HA2 := Lib.hid (show wr.heap[B]? = some (.cells (w32s (wordsN b 64)).toArray 74 (0, 0)) from by
      have h := HA.out
      rw [show i = 64 by omega] at h
      unfold ArrU ArrT at h
      rw [show padW (wordsN b 64) = wordsN b 64 by unfold padW; rw [wordsN_len]; simp] at h
      exact h)
     go_wp2_with fail
     go_ret
     have hbe := HBE.out
     subst hbe
     exact ⟨rfl, HA2.out, HBW.out⟩
end Go.Proofs.YthojelhpipmkiaaGreatDoor
