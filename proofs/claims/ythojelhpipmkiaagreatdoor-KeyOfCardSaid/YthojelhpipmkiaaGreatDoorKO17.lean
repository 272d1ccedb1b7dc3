/- Texts of this proof joined: Sha7, Sha8, Sha9. -/
import Derived.Test.YthojelhpipmkiaaGreatDoorKO16
import Derived.Test.YthojelhpipmkiaaGreatDoorKO07
import Derived.Deep.LoopGhost
namespace Go.Proofs.YthojelhpipmkiaaGreatDoor
open Go.RowKit

theorem nv_sub (a : W32) : (4294967295 : Int) - (nv a : Int) = (nv (~~~ a) : Int) := by
 have := nv_lt a
 rw [nv_eq] at this
 rw [nv_eq, nv_eq, BitVec.toNat_not]
 omega
theorem nv_mod (a : W32) : (nv a : Int) % 4294967296 = (nv a : Int) := by have := nv_lt a; omega
theorem ch_or (e f g : W32) : (e &&& f) ||| (~~~ e &&& g) = (e &&& f) ^^^ (~~~ e &&& g) := by
 apply BitVec.eq_of_getLsbD_eq
 intro i hi
 simp only [BitVec.getLsbD_and, BitVec.getLsbD_or, BitVec.getLsbD_xor, BitVec.getLsbD_not, hi, decide_true, Bool.true_and]
 cases e.getLsbD i <;> cases f.getLsbD i <;> cases g.getLsbD i <;> rfl
structure BlkR (w wr : World) (B M : Nat) (s t : St8) (W : List W32) : Prop where
 a : wr.heap[M + 1]? = some (.cells (st8 t).toArray 75 (0, 0))
 b : wr.heap[B + 2]? = some (.cells (w32s W).toArray 74 (0, 0))
 c : wr.heap[M]? = some (.cells rootVs.toArray 121 (0, 0))
 d : wr.heap[B]? = some (.cells (st8 s).toArray 75 (0, 0))
 e : wr.heap[B + 1]? = some (.cells zeros8.toArray 75 (0, 0))
 f : Below B w wr
theorem BlkR.next {w wr w' : World} {B M : Nat} {s t : St8} {W : List W32} (h : BlkR w wr B M s t W) (hb : Below wr.heap.size wr w') : BlkR w w' B M s t W :=
 ⟨(hb.block _ (Array.getElem?_eq_some_iff.1 h.a).1).trans h.a, (hb.block _ (Array.getElem?_eq_some_iff.1 h.b).1).trans h.b, (hb.block _ (Array.getElem?_eq_some_iff.1 h.c).1).trans h.c, (hb.block _ (Array.getElem?_eq_some_iff.1 h.d).1).trans h.d,
  (hb.block _ (Array.getElem?_eq_some_iff.1 h.e).1).trans h.e, h.f.trans (hb.mono (Nat.le_of_lt (Array.getElem?_eq_some_iff.1 h.d).1))⟩
theorem set_eight {w : World} {g : Nat} {t t' : St8} {T : TypeId} (h : w.heap[g]? = some (.cells (st8 t).toArray T (0, 0))) :
  ((((((((w.setCell ⟨g, 7, none⟩ (w32v t'.h)).setCell ⟨g, 6, none⟩ (w32v t'.g)).setCell ⟨g, 5, none⟩ (w32v t'.f)).setCell ⟨g, 4, none⟩ (w32v t'.e)).setCell ⟨g, 3, none⟩ (w32v t'.d)).setCell ⟨g, 2, none⟩ (w32v t'.c)).setCell ⟨g, 1, none⟩ (w32v t'.b)).setCell ⟨g, 0, none⟩ (w32v t'.a)).heap[g]? = some (.cells (st8 t').toArray T (0, 0)) := by
 have key : ∀ (w : World) (l : List Value) (o : Nat) (v : Value), w.heap[g]? = some (.cells l.toArray T (0, 0)) → (w.setCell ⟨g, o, none⟩ v).heap[g]? = some (.cells (l.set o v).toArray T (0, 0)) := fun w l o v hh => by
  simp only [World.setCell, Array.getElem?_modify, if_true, hh, Option.map_some]
  rw [List.setIfInBounds_toArray]
  rfl
 have h7 := key _ _ 7 (w32v t'.h) h
 have h6 := key _ _ 6 (w32v t'.g) h7
 have h5 := key _ _ 5 (w32v t'.f) h6
 have h4 := key _ _ 4 (w32v t'.e) h5
 have h3 := key _ _ 3 (w32v t'.d) h4
 have h2 := key _ _ 2 (w32v t'.c) h3
 have h1 := key _ _ 1 (w32v t'.b) h2
 have h0 := key _ _ 0 (w32v t'.a) h1
 exact h0
theorem set_other {w : World} {g k : Nat} {t' : St8} (h : k ≠ g) :
  ((((((((w.setCell ⟨g, 7, none⟩ (w32v t'.h)).setCell ⟨g, 6, none⟩ (w32v t'.g)).setCell ⟨g, 5, none⟩ (w32v t'.f)).setCell ⟨g, 4, none⟩ (w32v t'.e)).setCell ⟨g, 3, none⟩ (w32v t'.d)).setCell ⟨g, 2, none⟩ (w32v t'.c)).setCell ⟨g, 1, none⟩ (w32v t'.b)).setCell ⟨g, 0, none⟩ (w32v t'.a)).heap[k]? = w.heap[k]? := by
 have key : ∀ (w : World) (o : Nat) (v : Value), (w.setCell ⟨g, o, none⟩ v).heap[k]? = w.heap[k]? := fun w o v => heap_setCell_other _ _ _ _ h
 rw [key, key, key, key, key, key, key, key]
theorem BlkR.set8 {w wr : World} {B M : Nat} {s t : St8} {W : List W32} (h : BlkR w wr B M s t W) (hM : B + 3 ≤ M) (t' : St8) : BlkR w ((((((((wr.setCell ⟨M + 1, 7, none⟩ (w32v t'.h)).setCell ⟨M + 1, 6, none⟩ (w32v t'.g)).setCell ⟨M + 1, 5, none⟩ (w32v t'.f)).setCell ⟨M + 1, 4, none⟩ (w32v t'.e)).setCell ⟨M + 1, 3, none⟩ (w32v t'.d)).setCell ⟨M + 1, 2, none⟩ (w32v t'.c)).setCell ⟨M + 1, 1, none⟩ (w32v t'.b)).setCell ⟨M + 1, 0, none⟩ (w32v t'.a)) B M s t' W :=
 ⟨set_eight h.a, (set_other (by omega)).trans h.b, (set_other (by omega)).trans h.c, (set_other (by omega)).trans h.d, (set_other (by omega)).trans h.e,
  ((((((((h.f.setCell (by show B ≤ M + 1; omega) _).setCell (by show B ≤ M + 1; omega) _).setCell (by show B ≤ M + 1; omega) _).setCell (by show B ≤ M + 1; omega) _).setCell (by show B ≤ M + 1; omega) _).setCell (by show B ≤ M + 1; omega) _).setCell (by show B ≤ M + 1; omega) _).setCell (by show B ≤ M + 1; omega) _)⟩
set_option maxRecDepth 100000 in
set_option maxHeartbeats 32000000 in
theorem block04_any (s : St8) (b : List UInt8) (A : Option Addr) (c B' : Nat) (w : World) (hb : Rd w B' A (bcells b)) (hB' : B' ≤ w.heap.size) (hl : b.length = 64) :
  Calls Tryz.prog 42 #[.agg (st8 s).toArray, .slice A 64 c] w fun e w' => e = .returned (.agg (st8 (blockS s b)).toArray) ∧ Below w.heap.size w w' := by
 go_enter Tryz.func42, Tryz.ntmps42
 go_wp2_with (refine stop_at (some 2) rfl ?_)
 refine Stop.go (wpList_box rfl _ rfl rfl (vs := st8 s) rfl ?_)
 refine wpList_alloc rfl _ rfl zero_a8 (vs := zeros8) rfl ?_
 obtain ⟨hg1, hg2, hs1, hb1⟩ := two_allocs w (.cells (st8 s).toArray 75) (.cells zeros8.toArray 75)
 have HG1 := Lib.hid hg1
 have HG2 := Lib.hid hg2
 have HS1 := Lib.hid hs1
 have HB1 := Lib.hid hb1
 clear hg1 hg2 hs1 hb1
 simp only [World.size_alloc]
 generalize (w.alloc (.cells (st8 s).toArray 75)).alloc (.cells zeros8.toArray 75) = w1 at *
 obtain ⟨B, hB⟩ : ∃ B, B = w.heap.size := ⟨_, rfl⟩
 rw [← hB] at HG1 HG2 HS1 HB1 hB' ⊢
 have HBE := Lib.hid hB
 have HR := Lib.hid hb
 have HL := Lib.hid hl
 clear hB hb hl
 generalize hac : Act.put _ _ _ = a9
 simp [Act.put] at hac
 subst hac
 go_wp2_with fail
 refine (words04_any b A c B' w1 (HR.out.below (HB1.out.mono hB')) (by have := HS1.out; omega) HL.out).mono ?_
 rintro e w2 ⟨rfl, hk2, hb2⟩
 rw [HS1.out] at hk2 ⊢
 have HK2 := Lib.hid hk2
 have HB2 := Lib.hid hb2
 clear hb2 hk2
 go_wp2_with fail
 refine (known_any w2).mono ?_
 rintro e w3 ⟨rfl, hb3⟩
 have HK3 := Lib.hid ((hb3.block _ (Array.getElem?_eq_some_iff.1 HK2.out).1).trans HK2.out)
 have HB3 := Lib.hid (HB2.out.trans (hb3.mono HB2.out.size))
 clear hb3 HK2 HB2
 have HWL := Lib.hid (wordsN_len b 64)
 obtain ⟨W, hW⟩ : ∃ W, W = wordsN b 64 := ⟨_, rfl⟩
 rw [← hW] at HWL HK3
 have HW := Lib.hid hW
 clear hW
 obtain ⟨M, hM⟩ : ∃ M, M = w3.heap.size := ⟨_, rfl⟩
 have HMB := Lib.hid (show B + 3 ≤ M by have := (Array.getElem?_eq_some_iff.1 HK3.out).1; omega)
 have HME := Lib.hid hM
 clear hM
 go_wp2_with (refine stop_at (some 6) rfl ?_)
 refine Stop.go (wpList_alloc rfl _ rfl zero_a64 (vs := zeros64) rfl ?_)
 refine wpList_store_agg rfl 121 rfl rfl rfl (store_new2 (vs := rootVs) rfl rfl a64_s rfl (u32s_one _)) ?_
 generalize hac : Act.put _ _ _ = a9
 simp [Act.put] at hac
 subst hac
 have hnew := Go.heap_alloc_new w3 (.cells rootVs.toArray 121)
 have hsz := World.size_alloc w3 (.cells rootVs.toArray 121)
 rw [← HME.out] at hnew hsz ⊢
 have hkeep : ∀ k, k < M → (w3.alloc (.cells rootVs.toArray 121)).heap[k]? = w3.heap[k]? := fun k hk => Below.heap_alloc w3 _ k (by rw [← HME.out]; exact hk)
 have HC4 := Lib.hid hnew
 have HS4 := Lib.hid hsz
 have HW4 := Lib.hid ((hkeep (B + 2) (by have := HMB.out; omega)).trans HK3.out)
 have HD4 := Lib.hid ((hkeep B (by have := HMB.out; omega)).trans ((HB3.out.block B (by have := HS1.out; omega)).trans HG1.out))
 have HE4 := Lib.hid ((hkeep (B + 1) (by have := HMB.out; omega)).trans ((HB3.out.block (B + 1) (by have := HS1.out; omega)).trans HG2.out))
 have HB4 := Lib.hid (HB1.out.trans ((HB3.out.alloc (by rw [← HME.out]; have := HMB.out; have := HS1.out; omega) (.cells rootVs.toArray 121)).mono (by have := HS1.out; omega)))
 clear hnew hsz hkeep HB1 HG1 HG2 HB3 HK3
 generalize w3.alloc (.cells rootVs.toArray 121) = w4 at *
 go_wp2_with (refine stop_at (some 19) rfl ?_)
 refine Stop.go (wpList_load_agg rfl 75 rfl rfl a8_u rfl (cs := st8 s) a8_s (row_cells (vs := st8 s) HD4.out) ?_)
 refine wpList_alloc rfl _ rfl zero_a8 (vs := zeros8) rfl ?_
 refine wpList_store_agg rfl 75 rfl rfl rfl (store_new2 (vs := st8 s) rfl rfl a8_s rfl (w32s_one _)) ?_
 generalize hac : Act.put _ _ _ = a9
 simp [Act.put] at hac
 subst hac
 rw [HS4.out]
 have hnew := Go.heap_alloc_new w4 (.cells (st8 s).toArray 75)
 rw [HS4.out] at hnew
 have hkeep : ∀ k, k < M + 1 → (w4.alloc (.cells (st8 s).toArray 75)).heap[k]? = w4.heap[k]? := fun k hk => Below.heap_alloc w4 _ k (by rw [HS4.out]; exact hk)
 have HI := Lib.hid (show BlkR w (w4.alloc (.cells (st8 s).toArray 75)) B M s (stepsN s W 0) W from ⟨hnew, (hkeep _ (by have := HMB.out; omega)).trans HW4.out, (hkeep _ (by omega)).trans HC4.out, (hkeep _ (by have := HMB.out; omega)).trans HD4.out, (hkeep _ (by have := HMB.out; omega)).trans HE4.out, HB4.out.alloc (by have := HMB.out; have := HS4.out; omega) _⟩)
 clear hnew hkeep HC4 HW4 HD4 HE4 HB4
 generalize w4.alloc (.cells (st8 s).toArray 75) = w5 at *
 go_wp2_with fail
 go_loopw [8] (fun v8 wr => ∃ i : Nat, i ≤ 64 ∧ v8 = .int .i64 i ∧ Hid (BlkR w wr B M s (stepsN s W i) W)) (fun v8 _ => 64 - (intOf v8).toNat)
 case atStart => exact ⟨0, by omega, rfl, HI.out⟩
 case round =>
  obtain ⟨i, hi, rfl, HX⟩ := hrel
  by_cases hlt : i < 64
  ·have HXwr := HX
   have HCW := Lib.hid (fun (w' : World) (h : BlkR w w' B M s (stepsN s W i) W) => row_w32 h.b (i := i) (x := W.getD i 0) (by rw [List.getD_eq_getElem?_getD, List.getElem?_eq_getElem (by rw [HWL.out]; exact hlt)]; rfl))
   have HCK := Lib.hid (fun (w' : World) (h : BlkR w w' B M s (stepsN s W i) W) => (show w'.cell? ⟨M, i, none⟩ = some (w32v (rootAt i)) by rw [cell_of_row _ _ _ _ _ _ h.c, ← Array.getElem?_toList]; exact roots_get hlt))
   have HST := Lib.hid (show stepsN s W (i + 1) = stepS (stepsN s W i) (rootAt i) (W.getD i 0) from rfl)
   clear HX
   generalize stepsN s W i = t at *
   generalize W.getD i 0 = x at *
   generalize rootAt i = r at *
   have HC := Lib.hid (fun (w' : World) (h : w'.heap[M + 1]? = some (.cells (st8 t).toArray 75 (0, 0))) => st8_cells h)
   obtain ⟨c0, c1, c2, c3, c4, c5, c6, c7⟩ := HC.out wr HXwr.out.a
   have fx := nv_xor
   have fa := nv_and
   have fo := nv_or
   have fs := nv_add
   have fn := nv_sub
   have fm := nv_mod
   go_wp2_with fail
   refine Text.wp_grow [2, 5, 9] [1, 4, 8] [] (by kernel_rfl) (by kernel_rfl) ?_
   refine Text.wpS_seg 2 _ _ _ _ (by decide) (fun Q' hQ' => ?_)
   simp only [List.take_succ_cons, List.take_zero]
   go_wp2_with fail
   try simp only [List.drop_succ_cons, List.drop_zero]
   refine Text.wpS_one (fun Q' hQ' => ?_)
   go_wp2_with fail
   refine (turn04_any t.e 6 _ (by omega)).mono ?_
   rintro e w6 ⟨rfl, hb1⟩
   have HBw6 := Lib.hid hb1
   clear hb1
   obtain ⟨d0, d1, d2, d3, d4, d5, d6, d7⟩ := HC.out w6 (((HBw6.out.block _ (show M + 1 < wr.heap.size from (Array.getElem?_eq_some_iff.1 HXwr.out.a).1))).trans HXwr.out.a)
   go_wp2_with fail
   refine ⟨HBw6.out, ?_⟩
   refine Text.wpS_seg 2 _ _ _ _ (by decide) (fun Q' hQ' => ?_)
   simp only [List.take_succ_cons, List.take_zero]
   go_wp2_with fail
   try simp only [List.drop_succ_cons, List.drop_zero]
   refine Text.wpS_one (fun Q' hQ' => ?_)
   go_wp2_with fail
   refine (turn04_any t.e 11 _ (by omega)).mono ?_
   rintro e w7 ⟨rfl, hb1⟩
   have HBw7 := Lib.hid (HBw6.out.trans (hb1.mono HBw6.out.size))
   clear hb1 d0 d1 d2 d3 d4 d5 d6 d7
   obtain ⟨d0, d1, d2, d3, d4, d5, d6, d7⟩ := HC.out w7 (((HBw7.out.block _ (show M + 1 < wr.heap.size from (Array.getElem?_eq_some_iff.1 HXwr.out.a).1))).trans HXwr.out.a)
   go_wp2_with fail
   refine ⟨HBw7.out, ?_⟩
   refine Text.wpS_seg 3 _ _ _ _ (by decide) (fun Q' hQ' => ?_)
   simp only [List.take_succ_cons, List.take_zero]
   go_wp2_with fail
   try simp only [List.drop_succ_cons, List.drop_zero]
   refine Text.wpS_one (fun Q' hQ' => ?_)
   go_wp2_with fail
   refine (turn04_any t.e 25 _ (by omega)).mono ?_
   rintro e w8 ⟨rfl, hb1⟩
   have HBw8 := Lib.hid (HBw7.out.trans (hb1.mono HBw7.out.size))
   have HXw8 := Lib.hid (show BlkR w w8 B M s t W from HXwr.out.next ((Below.refl wr.heap.size wr).drew.trans HBw8.out))
   clear hb1 d0 d1 d2 d3 d4 d5 d6 d7
   obtain ⟨d0, d1, d2, d3, d4, d5, d6, d7⟩ := HC.out w8 HXw8.out.a
   go_wp2_with fail
   refine ⟨HBw8.out, ?_⟩
   refine Text.wpS_seg 2 _ _ _ _ (by decide) (fun Q' hQ' => ?_)
   simp only [List.take_succ_cons, List.take_zero]
   go_wp2_with fail
   refine ⟨by rfl, ?_, ?_⟩
   ·exact ⟨fun _ => ⟨_, _, rfl, c4⟩, fun _ => ⟨_, _, rfl, c4⟩, fun _ => ⟨_, _, rfl, c4⟩, trivial⟩
   clear HBw6 HBw7 HBw8
   clear c0 c1 c2 c3 c4 c5 c6 c7
   obtain ⟨big, hbig⟩ : ∃ z, z = rotr t.e 6 ^^^ rotr t.e 11 ^^^ rotr t.e 25 := ⟨_, rfl⟩
   rw [← hbig]
   have HBIG := Lib.hid hbig
   clear hbig
   go_wp2_with fail
   have cw := HCW.out w8 HXw8.out
   have ck := HCK.out w8 HXw8.out
   obtain ⟨ch, hch⟩ : ∃ z, z = t.e &&& t.f ||| ~~~t.e &&& t.g := ⟨_, rfl⟩
   rw [← hch]
   have HCH := Lib.hid hch
   clear hch
   refine Text.wp_text [] (by kernel_rfl) (by kernel_rfl) (fun Q' hQ' => ?_)
   go_wp2_with fail
   refine ⟨by rfl, ?_⟩
   have HXw9 := Lib.hid (show BlkR w w8.drew B M s t W from HXw8.out.next (Below.refl _ _).drew)
   clear HXwr HXw8 cw ck
   generalize w8.drew = w9 at *
   obtain ⟨X, hX⟩ : ∃ X, X = t.h + big + ch + r + x := ⟨_, rfl⟩
   try simp only [nv_add]
   rw [← hX]
   have HXX := Lib.hid (show X = sumX t r x by unfold sumX; rw [hX, HBIG.out, HCH.out, ch_or])
   clear hX
   clear d0 d1 d2 d3 d4 d5 d6 d7
   obtain ⟨c0, c1, c2, c3, c4, c5, c6, c7⟩ := HC.out w9 HXw9.out.a
   go_wp2_with fail
   refine Text.wp_grow [2, 5, 9] [1, 4, 8] [] (by kernel_rfl) (by kernel_rfl) ?_
   refine Text.wpS_seg 2 _ _ _ _ (by decide) (fun Q' hQ' => ?_)
   simp only [List.take_succ_cons, List.take_zero]
   go_wp2_with fail
   try simp only [List.drop_succ_cons, List.drop_zero]
   refine Text.wpS_one (fun Q' hQ' => ?_)
   go_wp2_with fail
   refine (turn04_any t.a 2 _ (by omega)).mono ?_
   rintro e w10 ⟨rfl, hb1⟩
   have HBw10 := Lib.hid hb1
   clear hb1
   obtain ⟨d0, d1, d2, d3, d4, d5, d6, d7⟩ := HC.out w10 (((HBw10.out.block _ (show M + 1 < w9.heap.size from (Array.getElem?_eq_some_iff.1 HXw9.out.a).1))).trans HXw9.out.a)
   go_wp2_with fail
   refine ⟨HBw10.out, ?_⟩
   refine Text.wpS_seg 2 _ _ _ _ (by decide) (fun Q' hQ' => ?_)
   simp only [List.take_succ_cons, List.take_zero]
   go_wp2_with fail
   try simp only [List.drop_succ_cons, List.drop_zero]
   refine Text.wpS_one (fun Q' hQ' => ?_)
   go_wp2_with fail
   refine (turn04_any t.a 13 _ (by omega)).mono ?_
   rintro e w11 ⟨rfl, hb1⟩
   have HBw11 := Lib.hid (HBw10.out.trans (hb1.mono HBw10.out.size))
   clear hb1 d0 d1 d2 d3 d4 d5 d6 d7
   obtain ⟨d0, d1, d2, d3, d4, d5, d6, d7⟩ := HC.out w11 (((HBw11.out.block _ (show M + 1 < w9.heap.size from (Array.getElem?_eq_some_iff.1 HXw9.out.a).1))).trans HXw9.out.a)
   go_wp2_with fail
   refine ⟨HBw11.out, ?_⟩
   refine Text.wpS_seg 3 _ _ _ _ (by decide) (fun Q' hQ' => ?_)
   simp only [List.take_succ_cons, List.take_zero]
   go_wp2_with fail
   try simp only [List.drop_succ_cons, List.drop_zero]
   refine Text.wpS_one (fun Q' hQ' => ?_)
   go_wp2_with fail
   refine (turn04_any t.a 22 _ (by omega)).mono ?_
   rintro e w12 ⟨rfl, hb1⟩
   have HBw12 := Lib.hid (HBw11.out.trans (hb1.mono HBw11.out.size))
   have HXw12 := Lib.hid (show BlkR w w12 B M s t W from HXw9.out.next ((Below.refl w9.heap.size w9).drew.trans HBw12.out))
   clear hb1 d0 d1 d2 d3 d4 d5 d6 d7
   obtain ⟨d0, d1, d2, d3, d4, d5, d6, d7⟩ := HC.out w12 HXw12.out.a
   go_wp2_with fail
   refine ⟨HBw12.out, ?_⟩
   refine Text.wpS_seg 2 _ _ _ _ (by decide) (fun Q' hQ' => ?_)
   simp only [List.take_succ_cons, List.take_zero]
   go_wp2_with fail
   refine ⟨by rfl, ?_, ?_⟩
   ·exact ⟨fun _ => ⟨_, _, rfl, c0⟩, fun _ => ⟨_, _, rfl, c0⟩, fun _ => ⟨_, _, rfl, c0⟩, trivial⟩
   clear HBw10 HBw11 HBw12
   clear c0 c1 c2 c3 c4 c5 c6 c7
   obtain ⟨sml, hsml⟩ : ∃ z, z = rotr t.a 2 ^^^ rotr t.a 13 ^^^ rotr t.a 22 := ⟨_, rfl⟩
   rw [← hsml]
   have HSML := Lib.hid hsml
   clear hsml
   have hfr : ∀ j, w12.frozen? ⟨M + 1, j, none⟩ = false := fun j => by simp [World.frozen?, HXw12.out.a]
   have hf0 := hfr 0
   have hf1 := hfr 1
   have hf2 := hfr 2
   have hf3 := hfr 3
   have hf4 := hfr 4
   have hf5 := hfr 5
   have hf6 := hfr 6
   have hf7 := hfr 7
   clear hfr
   have HST2 := Lib.hid (show stepS t r x = ⟨X + (sml + (t.a &&& t.b ||| t.a &&& t.c ||| t.b &&& t.c)), t.a, t.b, t.c, t.d + X, t.e, t.f, t.g⟩ by
    unfold stepS sumY
    rw [← HXX.out, HSML.out, maj_eq])
   have HX8 := Lib.hid (HXw12.out.set8 HMB.out ⟨X + (sml + (t.a &&& t.b ||| t.a &&& t.c ||| t.b &&& t.c)), t.a, t.b, t.c, t.d + X, t.e, t.f, t.g⟩)
   go_wp2_with fail
   refine ⟨⟨i + 1, by omega, by go_num, ?_⟩, ?_⟩
   ·show BlkR _ _ _ _ _ _ _
    rw [HST.out, HST2.out]
    exact HX8.out
   ·simp [intOf]; omega
  ·have HI2 := Lib.hid (show BlkR w wr B M s (stepsN s W 64) W from by
    have h := HX.out
    rw [show i = 64 by omega] at h
    exact h)
   have HFIN := Lib.hid (show blockS s b = addS (stepsN s W 64) s by unfold blockS; rw [HW.out])
   generalize stepsN s W 64 = t at *
   clear HX
   go_wp2_with fail
   go_loopw [15] (fun v15 wq => ∃ k : Nat, k ≤ 8 ∧ v15 = .int .i64 k ∧ Hid (wq.heap[M + 1]? = some (.cells (w32s (mixS t s k)).toArray 75 (0, 0))) ∧ Hid (wq.heap[B]? = some (.cells (st8 s).toArray 75 (0, 0))) ∧ Hid (wq.heap[B + 1]? = some (.cells zeros8.toArray 75 (0, 0))) ∧ Hid (Below B w wq)) (fun v15 _ => 8 - (intOf v15).toNat)
   case atStart => exact ⟨0, by omega, rfl, HI2.out.a, HI2.out.d, HI2.out.e, HI2.out.f⟩
   case round =>
    clear HI2
    obtain ⟨k, hk, rfl, HA, HD, HE, HF⟩ := hrel
    by_cases hlt2 : k < 8
    ·obtain ⟨hm1, hm2⟩ := mixS_step t s hlt2
     have ct := row_w32 HA.out hm1
     have cs := row_w32 (l := s.list) HD.out (i := k) (x := s.list.getD k 0) (by rw [List.getD_eq_getElem?_getD, List.getElem?_eq_getElem (show k < s.list.length from hlt2)]; rfl)
     have cf : wr.frozen? ⟨M + 1, k, none⟩ = false := by simp [World.frozen?, HA.out]
     have hset : (wr.setCell ⟨M + 1, k, none⟩ (w32v (t.list.getD k 0 + s.list.getD k 0))).heap[M + 1]? = some (.cells (w32s (mixS t s (k + 1))).toArray 75 (0, 0)) := by
      simp only [World.setCell, Array.getElem?_modify, if_true, HA.out, Option.map_some]
      rw [List.setIfInBounds_toArray, ← hm2]
      unfold w32s
      rw [List.map_set]
      rfl
     have fs2 := nv_add (t.list.getD k 0) (s.list.getD k 0)
     have HSET := Lib.hid hset
     have HD2 := Lib.hid (show (wr.setCell ⟨M + 1, k, none⟩ (w32v (t.list.getD k 0 + s.list.getD k 0))).heap[B]? = _ from (heap_setCell_other _ _ _ _ (show B ≠ M + 1 by have := HMB.out; omega)).trans HD.out)
     have HE2 := Lib.hid (show (wr.setCell ⟨M + 1, k, none⟩ (w32v (t.list.getD k 0 + s.list.getD k 0))).heap[B + 1]? = _ from (heap_setCell_other _ _ _ _ (show B + 1 ≠ M + 1 by have := HMB.out; omega)).trans HE.out)
     have HF2 := Lib.hid (HF.out.setCell (p := ⟨M + 1, k, none⟩) (show B ≤ M + 1 by have := HMB.out; omega) (w32v (t.list.getD k 0 + s.list.getD k 0)))
     generalize t.list.getD k 0 = tk at *
     generalize s.list.getD k 0 = sk at *
     clear hm1 hm2 hset HA HD HE HF
     go_wp2_with fail
     refine Text.wp_text [] (by kernel_rfl) (by kernel_rfl) (fun Q' hQ' => ?_)
     go_wp2_with fail
     refine ⟨by rfl, ?_⟩
     have HF3 := Lib.hid HF2.out.drew
     have HA3 := Lib.hid (show (wr.setCell ⟨M + 1, k, none⟩ (.int .u32 (nv (tk + sk) : Int))).drew.heap[M + 1]? = _ from HSET.out)
     have HD3 := Lib.hid (show (wr.setCell ⟨M + 1, k, none⟩ (.int .u32 (nv (tk + sk) : Int))).drew.heap[B]? = _ from HD2.out)
     have HE3 := Lib.hid (show (wr.setCell ⟨M + 1, k, none⟩ (.int .u32 (nv (tk + sk) : Int))).drew.heap[B + 1]? = _ from HE2.out)
     clear HSET HD2 HE2 HF2 ct cs cf fs2
     generalize (wr.setCell ⟨M + 1, k, none⟩ (.int .u32 (nv (tk + sk) : Int))).drew = w9 at *
     go_wp2_with fail
     go_roundw
     case rel => exact ⟨k + 1, by omega, by go_num, HA3.out, HD3.out, HE3.out, HF3.out⟩
     case measure => simp [intOf]; omega
    ·have HX2 := Lib.hid (show wr.heap[M + 1]? = some (.cells (st8 (blockS s b)).toArray 75 (0, 0)) from by
      have h := HA.out
      rw [show k = 8 by omega, mixS_end, ← HFIN.out] at h
      exact h)
     clear HA
     obtain ⟨z, hz⟩ : ∃ z, z = blockS s b := ⟨_, rfl⟩
     rw [← hz] at HX2
     have HZ := Lib.hid hz
     clear hz
     go_wp2_with (refine stop_at (some 133) rfl ?_)
     refine Stop.go (wpList_load_agg rfl 75 rfl rfl a8_u rfl (cs := st8 z) a8_s (row_cells (vs := st8 z) HX2.out) ?_)
     refine wpList_store_agg rfl 75 rfl rfl rfl (store_rowS (vs := st8 z) rfl a8_s HE.out rfl (w32s_one _)) ?_
     have HN := Lib.hid (setRow_heap _ _ _ _ _ _ HE.out : (wr.setRow (B + 1) (st8 z).toArray).heap[B + 1]? = _)
     have HBN := Lib.hid (below_setRow HF.out (Nat.le_succ B) (st8 z).toArray)
     generalize wr.setRow (B + 1) (st8 z).toArray = w9 at *
     generalize hac : Act.put _ _ _ = a9
     simp [Act.put] at hac
     subst hac
     go_wp2_with fail
     exact bodyPost_ret (v := .agg (st8 z).toArray) (results_cell_row rfl _ _ (B + 1) _ _ _ _ rfl HN.out a8_u rfl (by kernel_rfl)) rfl ⟨by rw [HZ.out], by rw [← HBE.out]; exact HBN.out⟩
end Go.Proofs.YthojelhpipmkiaaGreatDoor
namespace Go.Proofs.YthojelhpipmkiaaGreatDoor
open Go.RowKit

theorem u8_appS : AppTy Tryz.prog 45 5 1 1 (.int .u8 0) := appTy Tryz.underlying45 (by kernel_rfl) rfl (by omega)
def lenFirst (n q : Nat) : List UInt8 := (List.range q).map fun i => UInt8.ofNat (n * 8 / 256 ^ (7 - i) % 256)
theorem lenFirst_all (n : Nat) : lenFirst n 8 = lenBytes n := rfl
theorem lenFirst_succ (n q : Nat) : lenFirst n (q + 1) = lenFirst n q ++ [UInt8.ofNat (n * 8 / 256 ^ (7 - q) % 256)] := by
 unfold lenFirst
 rw [List.range_succ, List.map_append]
 rfl
def fillTo (j : Nat) : List UInt8 := 128 :: List.replicate j 0
theorem fillTo_succ (j : Nat) : fillTo (j + 1) = fillTo j ++ [0] := by
 unfold fillTo
 rw [List.replicate_succ', List.cons_append]
theorem fillTo_len (j : Nat) : (fillTo j).length = j + 1 := by simp [fillTo]
theorem fill_eq (n : Nat) : fillS n = fillTo (zerosF n) ++ lenBytes n := by unfold fillS fillTo; rfl
theorem zerosF_lt (n : Nat) : zerosF n < 64 := by unfold zerosF; omega
theorem byte_cell (x : Nat) : bcells [UInt8.ofNat (x % 256)] = [.int .u8 ((x % 256 : Nat) : Int)] := by
 simp [bcells, bcell]
theorem fillS_length (n : Nat) : (fillS n).length = zerosF n + 9 := by
 rw [fill_eq, List.length_append, fillTo_len, ← lenFirst_all]
 simp [lenFirst]
def FillRes (n : Nat) (w : World) (e : Ending) (w' : World) : Prop := ∃ v, e = .returned v ∧ w'.ownsRow w.heap.size 5 1 v (zerosF n + 9) (bcells (fillS n)) ∧ Below w.heap.size w w'
set_option maxRecDepth 100000 in
set_option maxHeartbeats 8000000 in
theorem fill_any (n : Nat) (w : World) (hn : n ≤ 1099511627776) : Calls Tryz.prog 64 #[.int .i64 n] w (FillRes n w) := by
 have hz := zerosF_lt n
 go_enter Tryz.func64, Tryz.ntmps64
 go_wp2_with fail
 have ho := (World.ownsRow_nil w w.heap.size 5 1)
 have HO := Lib.hid (show (w.alloc (.cells #[.int .u8 128] 5)).ownsRow w.heap.size 5 1 (.slice (some ⟨w.heap.size, 0, none⟩) 1 1) 1 (bcells (fillTo 0)) from
  ⟨rfl, .inr ⟨w.heap.size, 1, #[.int .u8 128], rfl, Nat.le_refl _, Go.heap_alloc_new w _, Nat.le_refl _, by simp [maxLen], rfl, rfl⟩⟩)
 have HB := Lib.hid ((Below.refl w.heap.size w).alloc (Nat.le_refl _) (.cells #[.int .u8 128] 5))
 clear ho
 generalize w.alloc (.cells #[.int .u8 128] 5) = w1 at *
 go_loopg [3] 64 (fun lft v3 wr => ∃ j L : Nat, j ≤ zerosF n ∧ zerosF n - j ≤ lft ∧ Hid (L = j + 1) ∧ L ≤ 64 ∧ Hid (wr.ownsRow w.heap.size 5 1 v3 L (bcells (fillTo j))) ∧ Hid (Below w.heap.size w wr) ∧ (∃ A c, v3 = .slice A L c ∧ c ≤ 9223372036854775807))
 case atStart => exact ⟨0, 1, by omega, by omega, rfl, by omega, HO.out, HB.out, _, _, rfl, by omega⟩
 case round =>
  obtain ⟨j, L, hj, hlft, HL, hL, HOW, HBW, A, c, rfl, hc⟩ := hrel
  by_cases hlt : j < zerosF n
  ·have d : (((n : Int) + (L : Int)) % 64 != 56) = true := by
    have := HL.out
    rw [bne_iff_ne]
    unfold zerosF at hlt
    omega
   have HSZ := Lib.hid HBW.out.size
   go_wp2_with (at_builtin; refine wpList_app (m := 1) (n := L) u8_appS rfl rfl rfl rfl (HOW.out.alloc _) (Rd.row (B := wr.heap.size + 1) (Go.heap_alloc_new wr _) (by omega)) rfl (by simp [Value.oneCell']) (by unfold maxLen; omega) (by omega) (by rw [World.size_alloc]; have := HSZ.out; omega) ?_)
   intro v' w7 ho7 hg7 hv7 _
   have HB7 := Lib.hid (show Below w.heap.size w w7 from grown_below (HBW.out.alloc HSZ.out (.cells #[.int .u8 0] 5)) hg7 (HOW.out.alloc _) (Nat.le_refl _) (by rw [World.size_alloc]; have := HSZ.out; omega))
   have HO7 := Lib.hid (show w7.ownsRow w.heap.size 5 1 v' (L + 1) (bcells (fillTo (j + 1))) from by
    rw [fillTo_succ, bcells_append]
    exact ho7)
   obtain ⟨A7, c7, rfl, h71, h72⟩ := own_form ho7
   unfold maxLen at h72
   clear ho7 hg7 hv7
   go_wp2_with fail
   go_roundg (gk - 1)
   case measure => omega
   case rel => exact ⟨j + 1, L + 1, by omega, by omega, by have := HL.out; show _ = _; omega, by have := HL.out; omega, HO7.out, HB7.out, _, _, rfl, h72⟩
  ·have d : (((n : Int) + (L : Int)) % 64 != 56) = false := by
    have := HL.out
    rw [bne_eq_false_iff_eq]
    unfold zerosF at hlt hj
    omega
   have HO1 := Lib.hid (show wr.ownsRow w.heap.size 5 1 (.slice A L c) L (bcells (fillTo (zerosF n) ++ lenFirst n 0)) from by
    have h := HOW.out
    rw [show j = zerosF n by omega] at h
    simpa [lenFirst] using h)
   have HL1 := Lib.hid (show L = zerosF n + 1 by have := HL.out; omega)
   clear HOW HL
   go_wp2_with fail
   obtain ⟨gas, hgas⟩ : ∃ gas, gas = gk := ⟨_, rfl⟩
   rw [← hgas] at hlft
   clear hgas
   go_loopg [5, 3] 8 (fun lft v5 v3 wq => ∃ q K : Nat, q ≤ 8 ∧ 8 - q ≤ lft ∧ v5 = .int .i64 (7 - (q : Int)) ∧ Hid (K = zerosF n + 1 + q) ∧ K ≤ 80 ∧ Hid (wq.ownsRow w.heap.size 5 1 v3 K (bcells (fillTo (zerosF n) ++ lenFirst n q))) ∧ Hid (Below w.heap.size w wq) ∧ (∃ A c, v3 = .slice A K c ∧ c ≤ 9223372036854775807))
   case atStart => exact ⟨0, L, by omega, by omega, rfl, by have := HL1.out; show _ = _; omega, by omega, HO1.out, HBW.out, _, _, rfl, hc⟩
   case round =>
    clear HO1 HBW hc d
    obtain ⟨q, K, hq, hlft2, rfl, HK, hK, HOW, HBW, A2, c2, rfl, hc2⟩ := hrel
    by_cases hq8 : q < 8
    ·have d0 : decide ((0 : Int) ≤ 7 - (q : Int)) = true := by rw [decide_eq_true_eq]; omega
     have HSZ := Lib.hid HBW.out.size
     have HBY := Lib.hid (show bcells [UInt8.ofNat (n * 8 / 256 ^ (7 - q) % 256)] = [.int .u8 ((n : Int) * 8 / 2 ^ (8 * (7 - q)) % 256)] by
      rw [byte_cell, show (256 : Nat) ^ (7 - q) = 2 ^ (8 * (7 - q)) by rw [show (256 : Nat) = 2 ^ 8 by decide, ← Nat.pow_mul]]
      simp)
     go_wp2_with (at_builtin; refine wpList_app (m := 1) (n := K) u8_appS rfl rfl rfl rfl (HOW.out.alloc _) (Rd.row (B := wr.heap.size + 1) (Go.heap_alloc_new wr _) (by omega)) rfl (by simp [Value.oneCell']) (by unfold maxLen; omega) (by omega) (by rw [World.size_alloc]; have := HSZ.out; omega) ?_)
     intro v' w7 ho7 hg7 hv7 _
     have HB7 := Lib.hid (show Below w.heap.size w w7 from grown_below (HBW.out.alloc HSZ.out (.cells #[.int .u8 ((n : Int) * 8 / 2 ^ (8 * (7 - q)) % 256)] 5)) hg7 (HOW.out.alloc _) (Nat.le_refl _) (by rw [World.size_alloc]; have := HSZ.out; omega))
     have HO7 := Lib.hid (show w7.ownsRow w.heap.size 5 1 v' (K + 1) (bcells (fillTo (zerosF n) ++ lenFirst n (q + 1))) from by
      rw [lenFirst_succ, ← List.append_assoc, bcells_append, HBY.out]
      exact ho7)
     obtain ⟨A7, c7, rfl, h71, h72⟩ := own_form ho7
     unfold maxLen at h72
     clear ho7 hg7 hv7
     go_wp2_with fail
     go_roundg (gk - 1)
     case measure => omega
     case rel => exact ⟨q + 1, K + 1, by omega, by omega, by go_num, by have := HK.out; show _ = _; omega, by have := HK.out; omega, HO7.out, HB7.out, _, _, rfl, h72⟩
    ·have d0 : decide ((0 : Int) ≤ 7 - (q : Int)) = false := by rw [decide_eq_false_iff_not]; omega
     have HOF := Lib.hid (show wr.ownsRow w.heap.size 5 1 (.slice A2 K c2) (zerosF n + 9) (bcells (fillS n)) from by
      have h := HOW.out
      have hk := HK.out
      rw [show q = 8 by omega] at h hk
      rw [fill_eq, ← lenFirst_all]
      rw [hk] at h ⊢
      exact h)
     go_wp2_with fail
     go_ret
     exact ⟨_, rfl, HOF.out, HBW.out⟩
end Go.Proofs.YthojelhpipmkiaaGreatDoor
namespace Go.Proofs.YthojelhpipmkiaaGreatDoor
open Go.RowKit

def tailTo (n q : Nat) : List UInt8 := List.replicate (8 - q) 0 ++ (lenBytes n).drop (8 - q)
theorem lenBytes_get (n : Nat) {p : Nat} (h : p < 8) : (lenBytes n)[p]? = some (UInt8.ofNat (n * 8 / 256 ^ (7 - p) % 256)) := by
 unfold lenBytes
 rw [List.getElem?_map, List.getElem?_range h]
 rfl
theorem lenBytes_len (n : Nat) : (lenBytes n).length = 8 := by simp [lenBytes]
theorem tailTo_len (n : Nat) {q : Nat} (h : q ≤ 8) : (tailTo n q).length = 8 := by
 unfold tailTo
 rw [List.length_append, List.length_replicate, List.length_drop, lenBytes_len]
 omega
theorem tailTo_succ (n : Nat) {q : Nat} (h : q < 8) : (tailTo n q).set (7 - q) (UInt8.ofNat (n * 8 / 256 ^ q % 256)) = tailTo n (q + 1) := by
 have h1 : (lenBytes n).drop (7 - q) = UInt8.ofNat (n * 8 / 256 ^ q % 256) :: (lenBytes n).drop (8 - q) := by
  have hl : 7 - q < (lenBytes n).length := by rw [lenBytes_len]; omega
  rw [List.drop_eq_getElem_cons hl]
  have h2 := lenBytes_get n (p := 7 - q) (by omega)
  rw [List.getElem?_eq_getElem hl] at h2
  injection h2 with h2
  rw [h2, show 7 - (7 - q) = q by omega, show 7 - q + 1 = 8 - q by omega]
 unfold tailTo
 rw [show 8 - (q + 1) = 7 - q by omega, h1, show 8 - q = (7 - q) + 1 by omega, List.replicate_succ', List.append_assoc, List.set_append_right _ _ (by rw [List.length_replicate]; exact Nat.le_refl _), List.length_replicate, Nat.sub_self]
 rfl
def zero8B : List UInt8 := List.replicate 8 0
theorem make_u8 (w : World) : (Instr.makeSlice 45 (.int .i64 8) (.int .i64 8)).run Tryz.prog w = .ok (.slice (some ⟨w.heap.size, 0, none⟩) 8 8) (w.alloc (.cells (bcells zero8B).toArray 5)) := by kernel_rfl
set_option maxRecDepth 100000 in
set_option maxHeartbeats 8000000 in
theorem fill04_any (n : Nat) (w : World) (hn : n ≤ 1099511627776) : Calls Tryz.prog 40 #[.int .i64 n] w (FillRes n w) := by
 have hz := zerosF_lt n
 go_enter Tryz.func40, Tryz.ntmps40
 go_wp2_with fail
 have HO := Lib.hid (show (w.alloc (.cells #[.int .u8 128] 5)).ownsRow w.heap.size 5 1 (.slice (some ⟨w.heap.size, 0, none⟩) 1 1) 1 (bcells (fillTo 0)) from
  ⟨rfl, .inr ⟨w.heap.size, 1, #[.int .u8 128], rfl, Nat.le_refl _, Go.heap_alloc_new w _, Nat.le_refl _, by simp [maxLen], rfl, rfl⟩⟩)
 have HB := Lib.hid ((Below.refl w.heap.size w).alloc (Nat.le_refl _) (.cells #[.int .u8 128] 5))
 generalize w.alloc (.cells #[.int .u8 128] 5) = w1 at *
 go_loopg [3] 64 (fun lft v3 wr => ∃ j L : Nat, j ≤ zerosF n ∧ zerosF n - j ≤ lft ∧ Hid (L = j + 1) ∧ L ≤ 64 ∧ Hid (wr.ownsRow w.heap.size 5 1 v3 L (bcells (fillTo j))) ∧ Hid (Below w.heap.size w wr) ∧ (∃ A c, v3 = .slice A L c ∧ c ≤ 9223372036854775807))
 case atStart => exact ⟨0, 1, by omega, by omega, rfl, by omega, HO.out, HB.out, _, _, rfl, by omega⟩
 case round =>
  obtain ⟨j, L, hj, hlft, HL, hL, HOW, HBW, A, c, rfl, hc⟩ := hrel
  by_cases hlt : j < zerosF n
  ·have d : (((n : Int) + (L : Int) + 8) % 64 != 0) = true := by
    have := HL.out
    rw [bne_iff_ne]
    unfold zerosF at hlt
    omega
   have HSZ := Lib.hid HBW.out.size
   go_wp2_with (at_builtin; refine wpList_app (m := 1) (n := L) u8_appS rfl rfl rfl rfl (HOW.out.alloc _) (Rd.row (B := wr.heap.size + 1) (Go.heap_alloc_new wr _) (by omega)) rfl (by simp [Value.oneCell']) (by unfold maxLen; omega) (by omega) (by rw [World.size_alloc]; have := HSZ.out; omega) ?_)
   intro v' w7 ho7 hg7 hv7 _
   have HB7 := Lib.hid (show Below w.heap.size w w7 from grown_below (HBW.out.alloc HSZ.out (.cells #[.int .u8 0] 5)) hg7 (HOW.out.alloc _) (Nat.le_refl _) (by rw [World.size_alloc]; have := HSZ.out; omega))
   have HO7 := Lib.hid (show w7.ownsRow w.heap.size 5 1 v' (L + 1) (bcells (fillTo (j + 1))) from by
    rw [fillTo_succ, bcells_append]
    exact ho7)
   obtain ⟨A7, c7, rfl, h71, h72⟩ := own_form ho7
   unfold maxLen at h72
   clear ho7 hg7 hv7
   go_wp2_with fail
   go_roundg (gk - 1)
   case measure => omega
   case rel => exact ⟨j + 1, L + 1, by omega, by omega, by have := HL.out; show _ = _; omega, by have := HL.out; omega, HO7.out, HB7.out, _, _, rfl, h72⟩
  ·have d : (((n : Int) + (L : Int) + 8) % 64 != 0) = false := by
    have := HL.out
    rw [bne_eq_false_iff_eq]
    unfold zerosF at hlt hj
    omega
   have HO1 := Lib.hid (show wr.ownsRow w.heap.size 5 1 (.slice A L c) L (bcells (fillTo (zerosF n))) from by
    have h := HOW.out
    rw [show j = zerosF n by omega] at h
    exact h)
   have HL1 := Lib.hid (show L = zerosF n + 1 by have := HL.out; omega)
   clear HOW HL
   have hmk := make_u8
   go_wp2_with fail
   clear hmk
   obtain ⟨gas, hgas⟩ : ∃ gas, gas = gk := ⟨_, rfl⟩
   rw [← hgas] at hlft
   clear hgas
   have HG0 := Lib.hid (Go.heap_alloc_new wr (.cells (bcells zero8B).toArray 5))
   have HBX := Lib.hid ((Below.refl wr.heap.size wr).alloc (Nat.le_refl _) (.cells (bcells zero8B).toArray 5))
   have HZ0 := Lib.hid (World.size_alloc wr (.cells (bcells zero8B).toArray 5))
   generalize wr.alloc (.cells (bcells zero8B).toArray 5) = w2 at *
   obtain ⟨wo, rfl⟩ : ∃ wo, wo = wr := ⟨_, rfl⟩
   have HSO := Lib.hid HBW.out.size
   go_loopg [6, 4] 8 (fun lft v6 v4 wq => ∃ q x : Nat, q ≤ 8 ∧ 8 - q ≤ lft ∧ v6 = .int .i64 (7 - (q : Int)) ∧ v4 = .int .u64 x ∧ Hid (x = n * 8 / 256 ^ q) ∧ x ≤ 8796093022208 ∧ Hid (wq.heap[wo.heap.size]? = some (.cells (bcells (tailTo n q)).toArray 5 (0, 0))) ∧ Hid (Below wo.heap.size wo wq))
   case atStart => exact ⟨0, n * 8, by omega, by omega, rfl, rfl, by show _ = _; simp, by omega, HG0.out, HBX.out⟩
   case round =>
    obtain ⟨q, x, hq, hlft2, rfl, rfl, HX, hx, HT, HBQ⟩ := hrel
    by_cases hq8 : q < 8
    ·have d0 : decide ((0 : Int) ≤ 7 - (q : Int)) = true := by rw [decide_eq_true_eq]; omega
     have HT2 := Lib.hid (show (wr.setCell ⟨wo.heap.size, 7 - q, none⟩ (.int .u8 ((x : Int) % 256))).heap[wo.heap.size]? = some (.cells (bcells (tailTo n (q + 1))).toArray 5 (0, 0)) by
      show (wr.setCell ⟨wo.heap.size, 7 - q, none⟩ (.int .u8 ((x % 256 : Nat) : Int))).heap[wo.heap.size]? = _
      simp only [World.setCell, Array.getElem?_modify, if_true, HT.out, Option.map_some]
      rw [List.setIfInBounds_toArray, ← tailTo_succ n hq8, ← HX.out]
      unfold bcells
      rw [List.map_set]
      simp [bcell])
     have HB2 := Lib.hid (HBQ.out.setCell (p := ⟨wo.heap.size, 7 - q, none⟩) (Nat.le_refl _) (.int .u8 ((x : Int) % 256)))
     have cf : wr.frozen? ⟨wo.heap.size, 7 - q, none⟩ = false := by simp [World.frozen?, HT.out]
     have hlen : 7 - q < (tailTo n q).length := by rw [tailTo_len n (by omega)]; omega
     have cc : wr.cell? ⟨wo.heap.size, 7 - q, none⟩ = some (bcell (tailTo n q)[7 - q]) := by
      rw [cell_of_row _ _ _ _ _ _ HT.out, ← Array.getElem?_toList]
      show (bcells (tailTo n q))[7 - q]? = _
      unfold bcells
      rw [List.getElem?_map, List.getElem?_eq_getElem hlen]
      rfl
     have HX2 := Lib.hid (show x / 256 = n * 8 / 256 ^ (q + 1) by rw [HX.out, Nat.div_div_eq_div_mul, Nat.pow_succ])
     generalize bcell (tailTo n q)[7 - q] = old at *
     clear hlen
     go_wp2_with fail
     go_roundg (gk - 1)
     case measure => omega
     case rel => exact ⟨q + 1, x / 256, by omega, by omega, by go_num, by go_num, HX2.out, by omega, HT2.out, HB2.out⟩
    ·have d0 : decide ((0 : Int) ≤ 7 - (q : Int)) = false := by rw [decide_eq_false_iff_not]; omega
     have HT2 := Lib.hid (show wr.heap[wo.heap.size]? = some (.cells (bcells (lenBytes n)).toArray 5 (0, 0)) from by
      have h := HT.out
      rw [show q = 8 by omega] at h
      exact h)
     have HO2 := Lib.hid (own_below HO1.out HBQ.out)
     have HBQ2 := Lib.hid (HBW.out.trans (HBQ.out.mono HSO.out))
     have HSQ := Lib.hid HBQ2.out.size
     have hgl := (Array.getElem?_eq_some_iff.1 HT2.out).1
     have HRD := Lib.hid (Rd.row (B := wr.heap.size) HT2.out hgl)
     have HBL := Lib.hid (show (bcells (lenBytes n)).length = 8 * 1 by rw [bcells_length, lenBytes_len])
     have HONE := Lib.hid (bcells_one (lenBytes n))
     clear hgl
     go_wp2_with (at_builtin; refine wpList_app (m := 8) (n := L) (news := bcells (lenBytes n)) u8_appS rfl rfl rfl rfl HO2.out (by simpa using HRD.out) HBL.out HONE.out (by unfold maxLen; omega) (by omega) HSQ.out ?_)
     intro v' w7 ho7 hg7 hv7 _
     have HB7 := Lib.hid (show Below w.heap.size w w7 from grown_below HBQ2.out hg7 HO2.out (Nat.le_refl _) HSQ.out)
     have HO7 := Lib.hid (show w7.ownsRow w.heap.size 5 1 v' (zerosF n + 9) (bcells (fillS n)) from by
      rw [fill_eq, bcells_append]
      rw [HL1.out] at ho7
      exact ho7)
     clear ho7 hg7 hv7
     go_wp2_with fail
     go_ret
     exact ⟨_, rfl, HO7.out, HB7.out⟩
end Go.Proofs.YthojelhpipmkiaaGreatDoor
