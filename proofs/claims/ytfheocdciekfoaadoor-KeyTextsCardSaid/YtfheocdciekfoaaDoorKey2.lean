/- Contracts of the reference's Text (17) and Less (09), and of key.Less, for any keys, every world. -/
import Derived.Test.YtfheocdciekfoaaDoorKey
import Derived.WalkLawsBesides
namespace Go.Proofs.YtfheocdciekfoaaDoor
open Go.RowKit

set_option maxRecDepth 100000 in
set_option maxHeartbeats 400000 in
theorem refText_any (h : List UInt8) (k : Int) (w : World) (hh : h.length = 32) :
    Calls Tryd.prog 34 #[hkv h k] w fun e w' => e = .returned (.string ⟨(keyText h k).toArray⟩) ∧ Below w.heap.size w w' := by
  have hck : (w.alloc (.cells (hkCells h k).toArray 24)).cell? ⟨w.heap.size, 32, none⟩ = some (.int .i64 k) := by
    rw [cell_of_row _ _ _ _ _ _ (Go.heap_alloc_new w _), ← Array.getElem?_toList]
    exact hkCells_get h k hh
  have hgk : (hkCells h k)[32]? = some (.int .i64 k) := hkCells_get h k hh
  have hi32 : (Tryd.prog.info? 22).map (·.size) = some (bcells h).length := by rw [bcells_length, hh]; kernel_rfl
  have hcs : ∀ j u, (bcells h)[j]? = some u → (w.alloc (.cells (hkCells h k).toArray 24)).drew.cell? ⟨w.heap.size, 0 + j, none⟩ = some u := by
    intro j u hu
    rw [Nat.zero_add]
    refine (cell_of_row _ _ _ _ _ _ (Go.heap_alloc_new w _)).trans ?_
    rw [← Array.getElem?_toList]
    simp only [hkCells]
    rw [List.getElem?_append_left (List.getElem?_eq_some_iff.1 hu).1]
    exact hu
  obtain ⟨u0, hu0⟩ : ∃ u0, (w.alloc (.cells (hkCells h k).toArray 24)).cell? ⟨w.heap.size, 0, none⟩ = some u0 := ⟨_, hcs 0 _ (List.getElem?_eq_getElem (by rw [bcells_length]; omega))⟩
  have HCS := Lib.hid hcs
  have HU0 := Lib.hid hu0
  have HI := Lib.hid hi32
  clear hcs hu0 hi32
  have HH := Lib.hid hh
  clear hh
  rcases Bool.eq_false_or_eq_true (kOk k) with hb | hb
  · have hq : k = 1 ∨ k = 2 ∨ k = 3 ∨ k = 4 := by unfold kOk at hb; simp at hb; omega
    have HB := Lib.hid hb
    clear hb
    rcases hq with rfl | rfl | rfl | rfl
    all_goals
      go_enter Tryd.func34, Tryd.ntmps34
      go_wp2_with fail
      refine Text.wp_grow [2] [1, 6, 8] [] (by kernel_rfl) (by kernel_rfl) ?_
      refine Text.wpS_seg 1 _ _ _ _ (by decide) (fun Q' hQ' => ?_)
      simp only [List.take_succ_cons, List.take_zero]
      go_wp2_with fail
      try simp only [Nat.zero_add, List.drop_succ_cons, List.drop_zero]
      refine Text.wpS_seg 1 _ _ _ _ (by decide) (fun Q' hQ' => ?_)
      simp only [List.take_succ_cons, List.take_zero]
      refine wpList_load_agg rfl 22 rfl rfl hashTy.ua rfl HI.out HCS.out ?_
      go_wp2_with fail
      try simp only [Nat.zero_add, List.drop_succ_cons, List.drop_zero]
      refine Text.wpS_one (fun Q' hQ' => ?_)
      go_wp2_with fail
      refine (digits_any h _ HH.out).mono ?_
      rintro e w2 ⟨rfl, hb2⟩
      have hb2' : Below w.heap.size w w2 := ((Below.refl _ _).alloc (Nat.le_refl _) _).trans ((below_drew hb2).mono (by simp))
      have hck2 : w2.cell? ⟨w.heap.size, 32, none⟩ = _ := (hb2.cell (p := ⟨w.heap.size, 32, none⟩) (by show w.heap.size < (w.alloc _).heap.size; simp)).trans hck
      have HB2 := Lib.hid hb2
      have HB2' := Lib.hid hb2'
      clear hb2 hb2'
      obtain ⟨sh, hsh⟩ : ∃ sh : ByteArray, sh = ⟨(hexOf h).toArray⟩ := ⟨_, rfl⟩
      have hsz : sh.size ≤ 64 := by
        rw [hsh]
        show (hexOf h).toArray.size ≤ 64
        have := hexOf_length h
        have := HH.out
        simp; omega
      rw [← hsh]
      have HSH := Lib.hid hsh
      clear hsh
      go_wp2_with fail
      refine ⟨HB2.out, ?_⟩
      refine Text.wpS_seg 10 _ _ _ _ (by decide) (fun Q' hQ' => ?_)
      simp only [List.take_succ_cons, List.take_zero]
      go_wp2_with fail
      refine ⟨by rfl, ⟨fun _ => ⟨_, _, rfl, HU0.out⟩, fun _ => ⟨_, _, rfl, hck⟩, fun _ => ⟨_, _, rfl, hck⟩, trivial⟩, ?_⟩
      go_wp2
      go_ret
      refine ⟨rt1 (vstr ?_), HB2'.out⟩
      unfold keyText
      rw [HB.out, if_pos rfl, HSH.out]
      apply ByteArray.ext
      simp
  · have hq : k < 1 ∨ 4 < k := by unfold kOk at hb; simp at hb; omega
    have HB := Lib.hid hb
    clear hb
    have HK := Lib.hid (show keyText h k = [] by unfold keyText; rw [HB.out]; rfl)
    rcases Int.lt_or_le k 1 with h1 | h1
    all_goals
      go_enter Tryd.func34, Tryd.ntmps34
      go_wp2
      go_ret
      exact ⟨rt1 (vstr (by rw [HK.out])), (Below.refl _ _).alloc (Nat.le_refl _) _⟩
end Go.Proofs.YtfheocdciekfoaaDoor
