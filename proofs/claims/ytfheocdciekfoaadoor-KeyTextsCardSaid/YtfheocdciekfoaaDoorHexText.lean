/- Contract of hex.Text, for any bytes and every world. -/
import Derived.Test.YtfheocdciekfoaaDoorHexDig
import Derived.Test.YtfheocdciekfoaaDoorText5
import Derived.Maps.AppendAt
namespace Go.Proofs.YtfheocdciekfoaaDoor
open Go.RowKit

/-- the digits of a byte -/
def hex2 (b : UInt8) : List UInt8 := [(digAt (b.toNat / 16)).toNat.toUInt8, (digAt (b.toNat % 16)).toNat.toUInt8]
def hexOf (l : List UInt8) : List UInt8 := l.flatMap hex2

theorem u8_app : AppTy Tryd.prog 34 5 1 1 (.int .u8 0) := appTy Tryd.underlying34 (by kernel_rfl) rfl (by omega)
theorem digAt_bd (k : Nat) (h : k < 16) : 0 ≤ digAt k ∧ digAt k < 256 := by unfold digAt; split <;> omega
theorem hex2_cells (b : UInt8) : bcells (hex2 b) = [.int .u8 (digAt (b.toNat / 16)), .int .u8 (digAt (b.toNat % 16))] := by
  have h1 := digAt_bd (b.toNat / 16) (by have := b.toNat_lt; omega)
  have h2 := digAt_bd (b.toNat % 16) (by omega)
  simp only [bcells, hex2, List.map_cons, List.map_nil, bcell, UInt8.toNat_ofNat']
  rw [show (((digAt (b.toNat / 16)).toNat % 2 ^ 8 : Nat) : Int) = digAt (b.toNat / 16) by omega, show (((digAt (b.toNat % 16)).toNat % 2 ^ 8 : Nat) : Int) = digAt (b.toNat % 16) by omega]
theorem hexOf_snoc (l : List UInt8) (k : Nat) (h : k < l.length) : hexOf (l.take (k + 1)) = hexOf (l.take k) ++ hex2 l[k] := by
  rw [List.take_succ_eq_append_getElem h, hexOf, List.flatMap_append]
  simp [hexOf]
theorem hexOf_length (l : List UInt8) : (hexOf l).length = 2 * l.length := by
  induction l with
  | nil => rfl
  | cons b l ih => simp only [hexOf, List.flatMap_cons, List.length_append, List.length_cons] at *; rw [ih]; simp [hex2]; omega
theorem dig_zero : Array.replicate 16 (Value.int .u8 0) = #[.int .u8 0, .int .u8 0, .int .u8 0, .int .u8 0, .int .u8 0, .int .u8 0, .int .u8 0, .int .u8 0, .int .u8 0, .int .u8 0, .int .u8 0, .int .u8 0, .int .u8 0, .int .u8 0, .int .u8 0, .int .u8 0] := rfl
theorem dig_store (w : World) : (storeCells ⟨w.heap.size, 0, none⟩ digArr.toList).run Tryd.prog (w.alloc (.cells #[.int .u8 0, .int .u8 0, .int .u8 0, .int .u8 0, .int .u8 0, .int .u8 0, .int .u8 0, .int .u8 0, .int .u8 0, .int .u8 0, .int .u8 0, .int .u8 0, .int .u8 0, .int .u8 0, .int .u8 0, .int .u8 0] 138)) =
    .ok () (w.alloc (.cells digArr 138)) :=
  run_store_new w _ _ _ rfl (by simp [digArr, Value.oneCell'])

set_option maxHeartbeats 400000 in
theorem hex_text (l : List UInt8) (A : Option Addr) (c : Nat) (w : World) (hr : Rd w w.heap.size A (bcells l)) (hl : l.length ≤ 1099511627776) :
    Calls Tryd.prog 59 #[.slice A l.length c] w fun e w' => e = .returned (.string ⟨(hexOf l).toArray⟩) ∧ Below w.heap.size w w' := by
  have hst := dig_store
  go_enter Tryd.func59, Tryd.ntmps59
  go_wp2_with (go_call hex_digits _ as e w1 ⟨rfl, hb⟩)
  go_loopw [4, 6, 10] (fun v4 v6 v10 wr => ∃ k : Nat, k ≤ l.length ∧ v10 = .int .i64 k ∧ wr.ownsRow w.heap.size 5 1 v4 (2 * k) (bcells (hexOf (l.take k))) ∧ wr.heap[w1.heap.size]? = some (.cells digArr 138 (0, 0)) ∧ Below w.heap.size w wr) (fun _ _ i _ => l.length - (intOf i).toNat)
  case atStart => exact ⟨0, by omega, rfl, World.ownsRow_nil _ _ _ _, Go.heap_alloc_new w1 _, hb.alloc hb.size _⟩
  case round =>
    obtain ⟨k, hk, rfl, hown, hd, hbr⟩ := hrel
    by_cases hlt : k < l.length
    · obtain ⟨ab, ao, rfl, hab, hcell⟩ := (hr.below hbr).byte hlt
      go_wp2
      have hb8 := l[k].toNat_lt
      have hd1 : wr.cell? ⟨w1.heap.size, l[k].toNat / 16, none⟩ = some (.int .u8 (digAt (l[k].toNat / 16))) := by
        rw [cell_of_row _ _ _ _ _ _ hd]; exact dig_get _ (by have := l[k].toNat_lt; omega)
      have hd2 : wr.cell? ⟨w1.heap.size, l[k].toNat % 16, none⟩ = some (.int .u8 (digAt (l[k].toNat % 16))) := by
        rw [cell_of_row _ _ _ _ _ _ hd]; exact dig_get _ (by omega)
      refine Text.wp_text [] (by kernel_rfl) (by kernel_rfl) (fun Q' hQ' => ?_)
      go_wp2_with (at_builtin; refine wpList_app u8_app rfl rfl rfl rfl (hown.alloc _).drew (Rd.row (B := wr.heap.size + 1) (Go.heap_alloc_new wr _) (by omega)) rfl (by simp [Value.oneCell']) ?h63 ?hby ?hbase ?_)
      case h63 => simp only [maxLen]; omega
      case hby => omega
      case hbase => have := hbr.size; simp; omega
      intro v1 w2 hown2 hg2 _ _
      go_wp2
      refine ⟨by rfl, ?_⟩
      go_wp2
      go_roundw
      case rel =>
        refine ⟨k + 1, by omega, by go_num, ?_, ?_, ?_⟩
        · rw [hexOf_snoc l k hlt, bcells_append, hex2_cells]; exact hown2
        · exact grown_other (hown.alloc _).drew hg2 ((Below.heap_alloc _ _ _ (Array.getElem?_eq_some_iff.1 hd).1).trans hd) (by decide)
        · exact grown_below ((hbr.alloc hbr.size _).drew) hg2 (hown.alloc _).drew (Nat.le_refl _) (by have := hbr.size; simp; omega)
      case measure => simp [intOf]; omega
    · have hkl : k = l.length := by omega
      subst hkl
      obtain ⟨A4, c4, rfl, _, _⟩ := own_form hown
      rw [List.take_length] at hown
      have hcv := conv_bytes (P := Tryd.prog) (Rd.of_own hown) Tryd.underlying34 Tryd.underlying5 Tryd.underlying9 (2 * l.length) (hexOf_length l).symm
      go_wp2
      go_ret
      exact ⟨rfl, hbr⟩

end Go.Proofs.YtfheocdciekfoaaDoor
