/- Contracts of rec.putKey and rec.load. -/
import Derived.Test.YtfheocdciekfoaaDoorMA25
namespace Go.Proofs.YtfheocdciekfoaaDoor
open Go.RowKit

/-- a key's bytes -/
def keyB (k : KeyD) : List UInt8 := k.1 ++ [UInt8.ofNat k.2.toNat]
set_option maxRecDepth 100000 in
set_option maxHeartbeats 1000000 in
theorem putKey_any (g : Nat) (l h : List UInt8) (k : Int) (w : World) (hw : WrR w g l) (hh : h.length = 32) (hk : kOk k = true) (hl : l.length ≤ 1048576) :
    Calls Tryd.prog 73 #[.pointer (some ⟨g, 0, none⟩), hkv h k] w fun e w' => e = .returned (.tuple #[]) ∧ WrR w' g (l ++ keyB (h, k)) ∧ Keep g w w' := by
  have hkk : 1 ≤ k ∧ k ≤ 4 := by unfold kOk at hk; simpa using hk
  obtain ⟨x, rfl⟩ : ∃ x : Nat, k = x := ⟨k.toNat, by omega⟩
  have HH := Lib.hid hh
  have HB1 := Lib.hid ((Below.refl _ _).alloc (Nat.le_refl _) (.cells (hkCells h x).toArray 24) : Below w.heap.size w _)
  have HG1 := Lib.hid (Go.heap_alloc_new w (.cells (hkCells h x).toArray 24))
  have HW1 := Lib.hid (hw.later HB1.out)
  have HGW := Lib.hid hw.lt
  have hs1 : (w.alloc (.cells (hkCells h x).toArray 24)).heap.size = w.heap.size + 1 := Array.size_push _
  have HS1 := Lib.hid hs1
  clear hw hh hk hs1
  go_enter Tryd.func73, Tryd.ntmps73
  go_wp2_with (refine stop_at (some 3) rfl ?_)
  refine Stop.go (wpList_box rfl _ rfl rfl (hkv_cells h x) ?_)
  generalize w.alloc (.cells (hkCells h x).toArray 24) = w1 at *
  go_wp2_with fail
  have hb2 : Below w1.heap.size w1 (w1.alloc (.cells #[.slice (some ⟨w.heap.size, 0, none⟩) 32 32] 34)) := (Below.refl _ _).alloc (Nat.le_refl _) _
  have hrd : Rd w1 (w.heap.size + 1) (some ⟨w.heap.size, 0, none⟩) (bcells h) := by
    have := Rd.row (B := w.heap.size + 1) HG1.out (by omega)
    exact rd_hash (k := (x : Int)) (by simpa using this)
  refine (raw_any g w1.heap.size 0 1 l h (some ⟨w.heap.size, 0, none⟩) 32 (w.heap.size + 1) _ (HW1.out.later hb2) (by rw [HH.out]; exact cell_new w1 _ _) (hrd.below (hb2.mono (by rw [HS1.out]; exact Nat.le_refl _))) (by rw [← HS1.out]; exact hb2.size) (by omega) (by rw [HH.out]; decide)).mono ?_
  rintro e w3 ⟨rfl, hw3, hk3⟩
  have HG3 := Lib.hid (hk3.other w.heap.size _ _ _ (Nat.ne_of_gt HGW.out) (by decide) ((hb2.block _ (Array.getElem?_eq_some_iff.1 HG1.out).1).trans HG1.out))
  have HW3 := Lib.hid hw3
  have HK3 := Lib.hid (((Keep.of_below HB1.out (Nat.le_of_lt HGW.out)).trans (Keep.of_below hb2 (Nat.le_trans (Nat.le_of_lt HGW.out) HB1.out.size))).trans hk3)
  have c32 : w3.cell? ⟨w.heap.size, 32, none⟩ = some (.int .i64 x) := by
    rw [cell_of_row _ _ _ _ _ _ HG3.out, ← Array.getElem?_toList]
    exact hkCells_get h x HH.out
  clear hw3 hk3 hb2 hrd
  obtain ⟨h1, h4⟩ := hkk
  go_wp2_with fail
  refine (num_any g 1 x (l ++ h) _ HW3.out (by decide) (by decide) (by omega) (by rw [List.length_append, HH.out]; omega)).mono ?_
  rintro e w4 ⟨rfl, hw4, hk4⟩
  go_wp2_with fail
  go_end0
  refine ⟨rfl, ?_, HK3.out.trans hk4⟩
  rw [beBytes_one x (by omega), List.append_assoc] at hw4
  exact hw4
end Go.Proofs.YtfheocdciekfoaaDoor
