/- Contracts of crc.half, Step, Of, Begin, End, frame.tail, and of the reference's Step and Sum, for any bytes and every world. -/
import Derived.Test.YtfheocdciekfoaaDoorChecked
import Derived.Test.YtfheocdciekfoaaDoorRep
import Derived.Test.YtfheocdciekfoaaDoorCrcMath
import Derived.Laws.BitsAllLaws
import Derived.Outline
namespace Go.Proofs.YtfheocdciekfoaaDoor
open Go.RowKit

theorem rd_two {w w' : World} {B : Nat} {A : Option Addr} {xs : List Value} (h : Rd w w.heap.size A xs) (hb : Below w.heap.size w w') (hB : B = w'.heap.size) : Rd w' B A xs := (h.below hb).more (by rw [hB]; exact hb.size)

theorem crc_el (k : Nat) (h : k < 16) : ([.int .u32 0, .int .u32 498536548, .int .u32 997073096, .int .u32 651767980, .int .u32 1994146192, .int .u32 1802195444, .int .u32 1303535960, .int .u32 1342533948, .int .u32 3988292384, .int .u32 4027552580, .int .u32 3604390888, .int .u32 3412177804, .int .u32 2607071920, .int .u32 2262029012, .int .u32 2685067896, .int .u32 3183342108] : List Value)[k]'h = .int .u32 (crcRow k : Nat) := by
  have hall : ∀ j : Fin 16, ([.int .u32 0, .int .u32 498536548, .int .u32 997073096, .int .u32 651767980, .int .u32 1994146192, .int .u32 1802195444, .int .u32 1303535960, .int .u32 1342533948, .int .u32 3988292384, .int .u32 4027552580, .int .u32 3604390888, .int .u32 3412177804, .int .u32 2607071920, .int .u32 2262029012, .int .u32 2685067896, .int .u32 3183342108] : List Value)[j.val]'j.isLt = Value.int .u32 (crcRow j.val : Nat) := by
    intro j
    match j with
    | ⟨0, _⟩ | ⟨1, _⟩ | ⟨2, _⟩ | ⟨3, _⟩ | ⟨4, _⟩ | ⟨5, _⟩ | ⟨6, _⟩ | ⟨7, _⟩ | ⟨8, _⟩ | ⟨9, _⟩ | ⟨10, _⟩ | ⟨11, _⟩ | ⟨12, _⟩ | ⟨13, _⟩ | ⟨14, _⟩ | ⟨15, _⟩ => rfl
    | ⟨n + 16, h⟩ => omega
  exact hall ⟨k, h⟩
theorem and15 (n : Nat) : n &&& 15 = n % 16 := by
  rw [show (15 : Nat) = 2 ^ 4 - 1 by decide, Nat.and_two_pow_sub_one_eq_mod]
set_option maxHeartbeats 400000 in
theorem half_any (r : BitVec 32) (w : World) :
    Calls Tryd.prog 115 #[.int .u32 (r.toNat : Nat)] w fun e w' => e = .returned (.int .u32 ((crcHalf r).toNat : Nat)) ∧ Below w.heap.size w w' := by
  have hr := r.isLt
  have hand : bits .and .u32 (r.toNat : Int) 15 = ((r.toNat % 16 : Nat) : Int) := by
    rw [show (15 : Int) = ((15 : Nat) : Int) by rfl, u32_and_nat _ _ hr (by omega), and15]
  have hel := crc_el (r.toNat % 16)
  have hlt : r.toNat % 16 < 16 := by omega
  have HX : Hid (bits .xor .u32 ((r.toNat : Int) / 16) (crcRow (r.toNat % 16) : Nat) = ((crcHalf r).toNat : Nat)) := by
    show _ = _
    have := crcRow_lt (r.toNat % 16)
    rw [show ((r.toNat : Int) / 16) = ((r.toNat / 16 : Nat) : Int) by omega, u32_xor_nat _ _ (by omega) this]
    unfold crcHalf
    rw [BitVec.toNat_xor, BitVec.toNat_ofNat, BitVec.toNat_ushiftRight, Nat.shiftRight_eq_div_pow, Nat.mod_eq_of_lt (a := crcRow _) this]
  go_enter Tryd.func115, Tryd.ntmps115
  go_wp2
  go_ret
  exact ⟨rt1 (vint HX.out), (Below.refl _ _).alloc (Nat.le_refl _) _⟩

theorem begin_crc (w : World) : Calls Tryd.prog 98 #[] w fun e w' => e = .returned (.int .u32 (crcOnes.toNat : Nat)) ∧ w = w' := by
  go_enter Tryd.func98, Tryd.ntmps98
  go_wp2
  go_ret
  exact ⟨rfl, rfl⟩
theorem end_crc (r : BitVec 32) (w : World) : Calls Tryd.prog 100 #[.int .u32 (r.toNat : Nat)] w fun e w' => e = .returned (.int .u32 ((~~~ r).toNat : Nat)) ∧ w = w' := by
  have hr := r.isLt
  go_enter Tryd.func100, Tryd.ntmps100
  go_wp2
  go_ret
  refine ⟨rt1 (vint ?_), rfl⟩
  rw [show IntKind.u32.max = ((4294967295 : Nat) : Int) by decide, u32_xor_nat _ _ (by omega) hr]
  have h : (BitVec.allOnes 32 ^^^ r) = ~~~ r := by rw [BitVec.allOnes_xor]
  have h2 := congrArg BitVec.toNat h
  rw [BitVec.toNat_xor] at h2
  rw [BitVec.toNat_not] at h2
  exact congrArg Nat.cast h2

theorem crcList_snoc (s : BitVec 32) (l : List UInt8) (k : Nat) (h : k < l.length) : crcList s (l.take (k + 1)) = crcHalf (crcHalf (crcList s (l.take k) ^^^ BitVec.ofNat 32 l[k].toNat)) := by
  rw [List.take_succ_eq_append_getElem h, crcList_append, ← crcByte_half]
  rfl
theorem xor_byte (s : BitVec 32) (c : UInt8) : bits .xor .u32 (s.toNat : Int) (c.toNat : Int) = ((s.toNat ^^^ c.toNat : Nat) : Int) := by
  have := c.toNat_lt
  rw [u32_xor_nat _ _ s.isLt (by omega)]
theorem xor_bv (s : BitVec 32) (c : UInt8) : s.toNat ^^^ c.toNat = (s ^^^ BitVec.ofNat 32 c.toNat).toNat := by
  have := c.toNat_lt
  rw [BitVec.toNat_xor, BitVec.toNat_ofNat, Nat.mod_eq_of_lt (by omega)]
set_option maxHeartbeats 400000 in
theorem step_crc (r : BitVec 32) (l : List UInt8) (A : Option Addr) (c B : Nat) (w : World) (hr : Rd w B A (bcells l)) (hB : B ≤ w.heap.size) (hl : l.length ≤ 1099511627776) :
    Calls Tryd.prog 99 #[.int .u32 (r.toNat : Nat), .slice A l.length c] w fun e w' => e = .returned (.int .u32 ((crcList r l).toNat : Nat)) ∧ Below w.heap.size w w' := by
  have HR := Lib.hid hr
  clear hr
  go_enter Tryd.func99, Tryd.ntmps99
  go_wp2
  go_loopw [0, 9] (fun v0 v9 wr => ∃ k : Nat, k ≤ l.length ∧ v9 = .int .i64 k ∧ v0 = .int .u32 ((crcList r (l.take k)).toNat : Nat) ∧ Below w.heap.size w wr) (fun _ i _ => l.length - (intOf i).toNat)
  case atStart => exact ⟨0, by omega, rfl, rfl, Below.refl _ _⟩
  case round =>
    obtain ⟨k, hk, rfl, rfl, hbr⟩ := hrel
    by_cases hlt : k < l.length
    · obtain ⟨ab, ao, rfl, hab, hcell⟩ := (HR.out.below (hbr.mono hB)).byte hlt
      have hs := Lib.hid (crcList_snoc r l k hlt)
      have hx := xor_byte (crcList r (l.take k)) l[k]
      have hb8 := l[k].toNat_lt
      go_wp2_with fail
      rw [xor_bv]
      refine (half_any _ _).mono ?_
      rintro e w1 ⟨rfl, h1⟩
      go_wp2_with fail
      refine (half_any _ _).mono ?_
      rintro e w2 ⟨rfl, h2⟩
      go_wp2
      go_roundw
      case rel => exact ⟨k + 1, by omega, by go_num, by rw [hs.out], (hbr.trans (h1.mono hbr.size)).trans (h2.mono (Nat.le_trans hbr.size h1.size))⟩
      case measure => simp [intOf]; omega
    · have hkl : k = l.length := by omega
      subst hkl
      go_wp2
      go_ret
      exact ⟨rt1 (vint (by rw [List.take_length])), hbr⟩

theorem crcSum_nat (l : List UInt8) : (crcSum l).toNat = 4294967295 - (crcList crcOnes l).toNat := by unfold crcSum; rw [BitVec.toNat_not]
theorem of_crc (g o cap : Nat) (l : List UInt8) (A : Option Addr) (c B : Nat) (w : World) (hg : w.cell? ⟨g, o, none⟩ = some (.slice A l.length c)) (hgB : g < B) (hr : Rd w B A (bcells l)) (hB : B ≤ w.heap.size) (hl : l.length ≤ 1099511627776) :
    Calls Tryd.prog 71 #[.slice (some ⟨g, o, none⟩) 1 cap] w fun e w' => e = .returned (.int .u32 ((crcSum l).toNat : Nat)) ∧ Below w.heap.size w w' := by
  have HR := Lib.hid hr
  have HG := Lib.hid hg
  clear hr hg
  go_enter Tryd.func71, Tryd.ntmps71
  go_wp2_with fail
  refine (begin_crc _).mono ?_
  rintro e w1 ⟨rfl, rfl⟩
  go_wp2_with fail
  go_loopw [3, 9] (fun v3 v9 wr => ∃ k : Nat, k ≤ 1 ∧ v9 = .int .i64 k ∧ v3 = .int .u32 ((crcList crcOnes (if k = 0 then [] else l)).toNat : Nat) ∧ Below w.heap.size w wr) (fun _ i _ => 1 - (intOf i).toNat)
  case atStart => exact ⟨0, by omega, rfl, rfl, Below.refl _ _⟩
  case round =>
    obtain ⟨k, hk, rfl, rfl, hbr⟩ := hrel
    by_cases hlt : k = 0
    · subst hlt
      have hc : wr.cell? ⟨g, o, none⟩ = some (.slice A l.length c) := (hbr.cell (p := ⟨g, o, none⟩) (by show g < _; omega)).trans HG.out
      go_wp2_with fail
      refine (step_crc crcOnes l A c B wr (HR.out.below (hbr.mono hB)) (Nat.le_trans hB hbr.size) hl).mono ?_
      rintro e w1 ⟨rfl, h1⟩
      go_wp2
      go_roundw
      case rel => exact ⟨1, by omega, rfl, rfl, hbr.trans (h1.mono hbr.size)⟩
      case measure => simp [intOf]
    · have hkl : k = 1 := by omega
      subst hkl
      go_wp2_with fail
      refine (end_crc _ _).mono ?_
      rintro e w1 ⟨rfl, rfl⟩
      go_wp2
      go_ret
      exact ⟨rt1 (vint (by rw [crcSum_nat])), hbr⟩

/-! the reference, bit by bit -/
theorem crcBit_nat (s : BitVec 32) (b : Bool) : (crcBit s b).toNat = if s.toNat % 2 = b.toNat then s.toNat / 2 else s.toNat / 2 ^^^ 3988292384 := by
  have h1 : (s ^^^ bv1 b) >>> 1 = s >>> 1 := by
    apply BitVec.eq_of_getLsbD_eq
    intro i hi
    rw [BitVec.getLsbD_ushiftRight, BitVec.getLsbD_ushiftRight, BitVec.getLsbD_xor]
    have : (bv1 b).getLsbD (1 + i) = false := by cases b <;> simp [bv1, BitVec.getLsbD_one]
    rw [this, Bool.xor_false]
  have h2 : (s ^^^ bv1 b).getLsbD 0 = (s.getLsbD 0 != b) := by
    rw [BitVec.getLsbD_xor]
    cases b <;> simp [bv1]
  have h3 : s.getLsbD 0 = decide (s.toNat % 2 = 1) := by simp [BitVec.getLsbD, Nat.testBit_zero]
  unfold crcBit crcL
  rw [h1, h2, h3, BitVec.toNat_xor, BitVec.toNat_ushiftRight, Nat.shiftRight_eq_div_pow]
  rcases Nat.mod_two_eq_zero_or_one s.toNat with h | h <;> rw [h] <;> cases b <;> simp [crcPoly]
theorem byteBits_snoc (c : UInt8) (j : Nat) (h : j < 8) : (byteBits c).take (j + 1) = (byteBits c).take j ++ [c.toNat.testBit j] := by
  rw [List.take_succ_eq_append_getElem (by rw [byteBits_length]; exact h)]
  simp [byteBits]
theorem testBit_mod (n j : Nat) : (n.testBit j).toNat = n / 2 ^ j % 2 := by
  rw [Nat.testBit_eq_decide_div_mod_eq]
  rcases Nat.mod_two_eq_zero_or_one (n / 2 ^ j) with h | h <;> simp [h]
set_option maxHeartbeats 400000 in
theorem refStep_any (r : BitVec 32) (l : List UInt8) (A : Option Addr) (c B : Nat) (w : World) (hr : Rd w B A (bcells l)) (hl : l.length ≤ 1099511627776) :
    Calls Tryd.prog 105 #[.int .u32 (r.toNat : Nat), .slice A l.length c] w fun e w' => e = .returned (.int .u32 ((crcList r l).toNat : Nat)) ∧ w = w' := by
  have HR := Lib.hid hr
  clear hr
  go_enter Tryd.func105, Tryd.ntmps105
  go_wp2
  go_loop [0, 5] (fun v0 v5 => ∃ (k : Nat) (s : BitVec 32), k ≤ l.length ∧ v5 = .int .i64 k ∧ v0 = .int .u32 (s.toNat : Nat) ∧ Hid (s = crcList r (l.take k))) (fun _ i => l.length - (intOf i).toNat)
  case atStart => exact ⟨0, r, by omega, rfl, rfl, rfl⟩
  case round =>
    obtain ⟨k, s, hk, rfl, rfl, hs⟩ := hrel
    by_cases hlt : k < l.length
    · obtain ⟨ab, ao, rfl, hab, hcell⟩ := HR.out.byte hlt
      have hb8 := l[k].toNat_lt
      go_wp2
      go_loop [0, 6, 7] (fun v0 v6 v7 => ∃ (j x : Nat) (s' : BitVec 32), j ≤ 8 ∧ v7 = .int .i64 j ∧ x < 256 ∧ v6 = .int .u8 x ∧ Hid (x = l[k].toNat / 2 ^ j) ∧ v0 = .int .u32 (s'.toNat : Nat) ∧ Hid (s' = crcBits s ((byteBits l[k]).take j))) (fun _ _ i => 8 - (intOf i).toNat)
      case atStart => exact ⟨0, _, s, by omega, rfl, hb8, rfl, by show _ = _; simp, rfl, rfl⟩
      case round =>
        obtain ⟨j, x, s', hj, rfl, hx, rfl, hxe, rfl, hs'⟩ := hrel
        have hs32 := s'.isLt
        by_cases hj8 : j < 8
        · have HN := Lib.hid (show crcBits s ((byteBits l[k]).take (j + 1)) = crcBit s' (l[k].toNat.testBit j) by rw [byteBits_snoc _ _ hj8, crcBits_append, ← hs'.out]; rfl)
          have HB := Lib.hid (show (l[k].toNat.testBit j).toNat = x % 2 by rw [testBit_mod, hxe.out])
          have HX := Lib.hid (show bits .xor .u32 ((s'.toNat : Int) / 2) 3988292384 = ((s'.toNat / 2 ^^^ 3988292384 : Nat) : Int) by
            rw [show ((s'.toNat : Int) / 2) = ((s'.toNat / 2 : Nat) : Int) by omega]
            exact u32_xor_nat _ 3988292384 (by omega) (by omega))
          have HQ := Lib.hid (crcBit_nat s' (l[k].toNat.testBit j))
          by_cases hq : x % 2 = s'.toNat % 2
          · have hq1 : (((x : Int) % 2) != ((s'.toNat : Int) % 2)) = false := by simp; omega
            go_wp2
            go_round
            case rel =>
              refine ⟨j + 1, x / 2, crcBit s' (l[k].toNat.testBit j), by omega, by go_num, by omega, by rfl, ?_, ?_, HN.out.symm⟩
              · show _ = _
                rw [hxe.out, Nat.div_div_eq_div_mul, Nat.pow_succ]
              · exact vint (by rw [HQ.out, if_pos (by rw [HB.out]; omega)]; rfl)
            case measure => simp [intOf]; omega
          · have hq1 : (((x : Int) % 2) != ((s'.toNat : Int) % 2)) = true := by simp; omega
            go_wp2
            go_round
            case rel =>
              refine ⟨j + 1, x / 2, crcBit s' (l[k].toNat.testBit j), by omega, by go_num, by omega, by rfl, ?_, ?_, HN.out.symm⟩
              · show _ = _
                rw [hxe.out, Nat.div_div_eq_div_mul, Nat.pow_succ]
              · exact vint (by rw [HQ.out, if_neg (by rw [HB.out]; omega)]; exact HX.out)
            case measure => simp [intOf]; omega
        · have hj' : j = 8 := by omega
          subst hj'
          go_wp2
          go_round
          case rel =>
            refine ⟨k + 1, s', by omega, by go_num, rfl, ?_⟩
            show _ = _
            rw [hs'.out, hs.out, List.take_of_length_le (l := byteBits l[k]) (by rw [byteBits_length]; omega), List.take_succ_eq_append_getElem hlt, crcList_append]
            rfl
          case measure => simp [intOf]; omega
    · have hkl : k = l.length := by omega
      subst hkl
      go_wp2
      go_ret
      exact ⟨rt1 (vint (by rw [hs.out, List.take_length])), rfl⟩
theorem refSum_any (l : List UInt8) (A : Option Addr) (c B : Nat) (w : World) (hr : Rd w B A (bcells l)) (hl : l.length ≤ 1099511627776) :
    Calls Tryd.prog 86 #[.slice A l.length c] w fun e w' => e = .returned (.int .u32 ((crcSum l).toNat : Nat)) ∧ w = w' := by
  have HR := Lib.hid hr
  clear hr
  have h32 := (crcList crcOnes l).isLt
  have HN := Lib.hid (crcSum_nat l)
  go_enter Tryd.func86, Tryd.ntmps86
  go_wp2_with fail
  refine (refStep_any crcOnes l A c B w HR.out hl).mono ?_
  rintro e w1 ⟨rfl, rfl⟩
  go_wp2
  go_ret
  exact ⟨rt1 (vint (by rw [HN.out]; omega)), rfl⟩
/-! a sum's bytes -/
theorem frame_tail (s : BitVec 32) (w : World) :
    Calls Tryd.prog 70 #[.int .u32 (s.toNat : Nat)] w fun e w' => e = .returned (.slice (some ⟨w.heap.size, 0, none⟩) 4 4) ∧ w' = w.alloc (.cells (bcells (crcTail s)).toArray 5) := by
  have hs := s.isLt
  have HT : Hid ((bcells (crcTail s)).toArray = #[.int .u8 ((s.toNat : Int) % 256), .int .u8 ((s.toNat : Int) / 256 % 256), .int .u8 ((s.toNat : Int) / 65536 % 256), .int .u8 ((s.toNat : Int) / 16777216)]) := by
    show _ = _
    simp only [bcells, crcTail, List.map_cons, List.map_nil, bcell, UInt8.toNat_ofNat']
    rw [show ((s.toNat / 16777216 % 2 ^ 8 : Nat) : Int) = (s.toNat : Int) / 16777216 by omega]
    congr
  go_enter Tryd.func70, Tryd.ntmps70
  go_wp2
  go_ret
  rw [HT.out]
  exact ⟨rfl, rfl⟩
end Go.Proofs.YtfheocdciekfoaaDoor
