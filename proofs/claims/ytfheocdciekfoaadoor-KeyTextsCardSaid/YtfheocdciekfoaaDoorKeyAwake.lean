/- The walk of law 17's awake, every world that holds the library's tables. -/
import Derived.Test.YtfheocdciekfoaaDoorName2
namespace Go.Proofs.YtfheocdciekfoaaDoor
open Go.RowKit

theorem nm4_name : nameL ⟨4, z32, 0, 0⟩ = jour := rfl
set_option maxRecDepth 100000 in
set_option maxHeartbeats 1000000 in
theorem awake17_any (w : World) (ht : Tabs w) : Calls Tryd.prog 26 #[] w fun e w' => e = .returned (.bool true) ∧ Below w.heap.size w w' := by
  have HT := Lib.hid ht
  clear ht
  go_enter Tryd.func26, Tryd.ntmps26
  go_wp2_with (refine stop_at (some 3) rfl ?_)
  refine Stop.go (wpList_seg 1 _ _ _ (fun Q' hQ' => ?_))
  simp only [List.take_succ_cons, List.take_zero]
  go_wp2_with (go_at_call 32; refine (kread_any [116, 45, 55] _ (by decide) HT.out).mono ?_; rintro e w1 ⟨rfl, hb1⟩; rw [read_t7])
  simp only [List.drop_succ_cons, List.drop_zero]
  refine Stop.go (wpList_alloc rfl 68 rfl zero_nm rfl ?_)
  refine wpList_store_agg rfl 68 rfl rfl rfl (store_new2 (g := w1.heap.size) rfl (nmv_cells _) (nm_size _ rfl) rfl (nmCells_one _)) ?_
  have hb2 : Below w.heap.size w (w1.alloc (.cells (nmCells ⟨2, z32, 0, 7⟩).toArray 68)) := hb1.trans ((Below.refl _ _).alloc hb1.size _)
  have HN1 := Lib.hid (NmAt.new w1 68 (x := ⟨2, z32, 0, 7⟩) rfl)
  have HB2 := Lib.hid hb2
  have HT2 := Lib.hid (HT.out.below hb2)
  clear hb1 hb2
  generalize w1.alloc (.cells (nmCells ⟨2, z32, 0, 7⟩).toArray 68) = w2 at *
  generalize w1.heap.size = m1 at *
  go_wp2_with (refine stop_at (some 4) rfl ?_)
  refine Stop.go (wpList_seg 1 _ _ _ (fun Q' hQ' => ?_))
  simp only [List.take_succ_cons, List.take_zero]
  go_wp2_with (go_at_call 32; refine (kread_any [116, 45, 48, 55] _ (by decide) HT2.out).mono ?_; rintro e w3 ⟨rfl, hb3⟩; rw [read_t07])
  simp only [List.drop_succ_cons, List.drop_zero]
  refine Stop.go (wpList_alloc rfl 68 rfl zero_nm rfl ?_)
  refine wpList_store_agg rfl 68 rfl rfl rfl (store_new2 (g := w3.heap.size) rfl (nmv_cells _) (nm_size _ rfl) rfl (nmCells_one _)) ?_
  have hb4 : Below w2.heap.size w2 (w3.alloc (.cells (nmCells noName).toArray 68)) := hb3.trans ((Below.refl _ _).alloc hb3.size _)
  have HB4 := Lib.hid (HB2.out.trans (hb4.mono HB2.out.size))
  have HN2 := Lib.hid (HN1.out.later hb4)
  have HN3 := Lib.hid (NmAt.new w3 68 (x := noName) rfl)
  have HT4 := Lib.hid (HT2.out.below hb4)
  clear hb3 hb4 HB2 HN1 HT2
  generalize w3.alloc (.cells (nmCells noName).toArray 68) = w4 at *
  generalize w3.heap.size = m2 at *
  have c1 := HN2.out.kind_
  have c2 := HN2.out.n_
  have c3 := HN3.out.kind_
  have c4 := HN3.out.n_
  simp only [noName] at c1 c2 c3 c4
  go_wp2_with (go_at_call 30; refine (kwrite_any ⟨4, z32, 0, 0⟩ _ rfl HT4.out).mono ?_; rintro e w5 ⟨rfl, hb5⟩; rw [nm4_name])
  go_ret
  exact ⟨rt1 (vbool (by decide)), HB4.out.trans (hb5.mono HB4.out.size)⟩
end Go.Proofs.YtfheocdciekfoaaDoor
