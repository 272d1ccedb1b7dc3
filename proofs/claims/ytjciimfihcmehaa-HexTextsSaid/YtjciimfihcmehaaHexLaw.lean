/- The walks of the laws of hex: awake, digit, HexTexts, HexParses. -/
import Derived.Test.YtjciimfihcmehaaHexParse
import Derived.Deep.QuietTactic
import Derived.BigQuiet
namespace Go.Proofs.Ytjciimfihcmehaa
open Go.RowKit

set_option maxHeartbeats 400000 in
theorem hex_is (s : ByteArray) (w : World) (hl : s.size ≤ 1099511627776) :
    Calls Try.prog 9 #[.string s] w fun e w' => e = .returned (.bool (unhex s.data.toList).isSome) ∧ Below w.heap.size w w' := by
  rcases hr : unhex s.data.toList with _ | t
  all_goals
    have HR := Lib.hid hr
    clear hr
    go_enter Try.func9, Try.ntmps9
    go_wp2_with fail
    go_call hex_parse s w hl as e w1 hp
    rw [HR.out] at hp
  · obtain ⟨rfl, hb⟩ := hp
    go_wp2
    go_ret
    exact ⟨rfl, hb⟩
  · obtain ⟨v, rfl, _, hb⟩ := hp
    go_wp2
    go_ret
    exact ⟨rfl, hb⟩

def hexDig (k : Nat) : UInt8 := (digAt k).toNat.toUInt8
theorem digit_cut (k : Nat) (h : k < 16) : (ByteArray.mk #[48, 49, 50, 51, 52, 53, 54, 55, 56, 57, 97, 98, 99, 100, 101, 102]).extract k (k + 1) = ByteArray.mk [hexDig k].toArray := by
  have h2 : ∀ j : Fin 16, (ByteArray.mk #[48, 49, 50, 51, 52, 53, 54, 55, 56, 57, 97, 98, 99, 100, 101, 102]).extract j.val (j.val + 1) = ByteArray.mk [hexDig j.val].toArray := by
    intro j
    rw [show (ByteArray.mk #[48, 49, 50, 51, 52, 53, 54, 55, 56, 57, 97, 98, 99, 100, 101, 102]) = ByteArray.mk ([48, 49, 50, 51, 52, 53, 54, 55, 56, 57, 97, 98, 99, 100, 101, 102] : List UInt8).toArray from rfl, ByteArray.extract_mk]
    congr 2
    revert j
    decide +kernel
  exact h2 ⟨k, h⟩
set_option maxHeartbeats 400000 in
theorem law_digit (x : Int) (w : World) (h0 : 0 ≤ x) (h1 : x < 16) :
    Calls Try.prog 6 #[.int .i64 x] w fun e w' => e = .returned (.string ⟨[hexDig x.toNat].toArray⟩) ∧ w' = w := by
  obtain ⟨k, rfl⟩ := Int.eq_ofNat_of_zero_le h0
  have hd := digit_cut k (by omega)
  go_enter Try.func6, Try.ntmps6
  go_wp2
  go_ret
  exact ⟨rfl, rfl⟩

theorem awake1 : unhex [48, 48, 97, 98] = some [0, 171] := by decide +kernel
theorem awake2 : hexOf [0, 171] = [48, 48, 97, 98] := by decide +kernel
theorem awake3 : unhex [48, 48, 65, 66] = none := by decide +kernel
theorem awake4 : unhex [48, 48, 97] = none := by decide +kernel
set_option maxHeartbeats 800000 in
theorem law_awake (w : World) : Calls Try.prog 5 #[] w fun e w' => e = .returned (.bool true) ∧ Below w.heap.size w w' := by
  go_enter Try.func5, Try.ntmps5
  go_wp2_with fail
  go_call hex_parse _ _ (by decide) as e w1 hp
  rw [awake1] at hp
  obtain ⟨v1, rfl, hown1, hb1⟩ := hp
  obtain ⟨A1, c1, rfl, _, _⟩ := own_form hown1
  go_wp2_with fail
  refine (hex_text [0, 171] (some ⟨w1.heap.size, 0, none⟩) 2 _ (Rd.row (Go.heap_alloc_new w1 _) (by simp)) (by decide)).mono ?_
  rintro e w2 ⟨rfl, hb2⟩
  rw [awake2]
  have hb12 : Below w.heap.size w w2 := (hb1.alloc hb1.size _).trans (hb2.mono (by have := hb1.size; simp; omega))
  have hown2 := own_below (own_below hown1 ((Below.refl _ w1).alloc (Nat.le_refl _) _)) hb2
  have hcv := conv_bytes (P := Try.prog) (Rd.of_own hown2) Try.underlying22 Try.underlying5 Try.underlying9 2 rfl
  go_wp2_with fail
  go_call hex_is _ _ (by decide) as e w3 ⟨rfl, hb3⟩
  rw [awake3]
  go_wp2_with fail
  go_call hex_is _ _ (by decide) as e w4 ⟨rfl, hb4⟩
  rw [awake4]
  go_wp2
  go_ret
  exact ⟨rfl, (hb12.trans (hb3.mono hb12.size)).trans (hb4.mono (Nat.le_trans hb12.size hb3.size))⟩

/-! HexTexts -/
theorem hexOf_take (l : List UInt8) (k : Nat) (h : k < l.length) : hexOf (l.take (k + 1)) = hexOf (l.take k) ++ [hexDig (l[k].toNat / 16)] ++ [hexDig (l[k].toNat % 16)] := by
  rw [hexOf_snoc l k h, List.append_assoc]
  rfl
theorem dig_back (k : Nat) (h : k < 16) : dB (hexDig k) = true ∧ dN (hexDig k) = k := by
  have h2 : ∀ j : Fin 16, dB (hexDig j.val) = true ∧ dN (hexDig j.val) = j.val := by decide +kernel
  exact h2 ⟨k, h⟩
theorem unhex_hexOf : ∀ (l : List UInt8), unhex (hexOf l) = some l
  | [] => rfl
  | b :: l => by
    have hb := b.toNat_lt
    have h1 := dig_back (b.toNat / 16) (by omega)
    have h2 := dig_back (b.toNat % 16) (by omega)
    show unhex (hexDig (b.toNat / 16) :: hexDig (b.toNat % 16) :: hexOf l) = _
    rw [unhex, h1.1, h2.1, h1.2, h2.2, unhex_hexOf l]
    have : 16 * (b.toNat / 16) + b.toNat % 16 = b.toNat := by omega
    rw [this]
    simp
set_option maxHeartbeats 1000000 in
theorem hex_texts (l : List UInt8) (A : Option Addr) (c : Nat) (w : World) (hr : Rd w w.heap.size A (bcells l)) :
    Calls Try.prog 3 #[.slice A l.length c] w fun e w' => e = .returned (.bool true) ∧ Below w.heap.size w w' := by
  by_cases h4 : 400 < l.length
  · go_enter Try.func3, Try.ntmps3
    go_wp2_with fail
    go_call law_awake _ as e w1 ⟨rfl, hb⟩
    go_wp2
    go_ret
    exact ⟨rfl, hb⟩
  · go_enter Try.func3, Try.ntmps3
    go_wp2_with fail
    go_loopw [3, 4] (fun v3 v4 wr => ∃ k : Nat, k ≤ l.length ∧ v4 = .int .i64 k ∧ v3 = .string ⟨(hexOf (l.take k)).toArray⟩ ∧ Below w.heap.size w wr) (fun _ v4 _ => l.length - (intOf v4).toNat)
    case atStart => exact ⟨0, by omega, rfl, rfl, Below.refl _ _⟩
    case round =>
      obtain ⟨k, hk, rfl, rfl, hbr⟩ := hrel
      by_cases hlt : k < l.length
      · obtain ⟨ad, rfl, hab, hcell⟩ := (hr.below hbr).byte hlt
        have hb8 := l[k].toNat_lt
        have hlen : (hexOf (l.take k)).length ≤ 800 := by rw [hexOf_length, List.length_take]; omega
        go_wp2_with fail
        go_quiet ((go_at_call 6; exact Calls.quiet_of_same (law_digit _ _ (by omega) (by omega))))
        go_wp2
        go_roundw
        case rel =>
          refine ⟨k + 1, by omega, by go_num, ?_, below_drewN hbr _⟩
          rw [hexOf_take l k hlt, ← ByteArray.mk_append_mk, ← ByteArray.mk_append_mk]
        case measure => simp [intOf]; omega
      · have hkl : k = l.length := by omega
        subst hkl
        rw [List.take_length]
        have hsz : (ByteArray.mk (hexOf l).toArray).size ≤ 1099511627776 := by show (hexOf l).length ≤ _; rw [hexOf_length]; omega
        go_wp2_with fail
        go_call hex_parse _ _ hsz as e w1 hp
        rw [show (ByteArray.mk (hexOf l).toArray).data.toList = hexOf l from rfl, unhex_hexOf] at hp
        obtain ⟨v1, rfl, hown1, hb1⟩ := hp
        have hbw1 : Below w.heap.size w w1 := hbr.trans (hb1.mono hbr.size)
        go_wp2_with fail
        go_call hex_text l A c _ ((hr.below hbw1).more hbw1.size) (by omega) as e w2 ⟨rfl, hb2⟩
        have hbw2 : Below w.heap.size w w2 := hbw1.trans (hb2.mono hbw1.size)
        have hown2 := own_below hown1 hb2
        obtain ⟨A1, c1, rfl, _, _⟩ := own_form hown2
        have hcv1 := conv_bytes (P := Try.prog) (Rd.of_own hown2) Try.underlying22 Try.underlying5 Try.underlying9 l.length rfl
        have hcv2 := conv_bytes (P := Try.prog) (hr.below hbw2) Try.underlying22 Try.underlying5 Try.underlying9 l.length rfl
        go_wp2_with fail
        go_call hex_is _ _ hsz as e w3 ⟨rfl, hb3⟩
        rw [show (ByteArray.mk (hexOf l).toArray).data.toList = hexOf l from rfl, unhex_hexOf]
        go_wp2_with fail
        go_call law_awake _ as e w4 ⟨rfl, hb4⟩
        go_wp2
        go_ret
        exact ⟨rfl, (hbw2.trans (hb3.mono hbw2.size)).trans (hb4.mono (Nat.le_trans hbw2.size hb3.size))⟩

end Go.Proofs.Ytjciimfihcmehaa
