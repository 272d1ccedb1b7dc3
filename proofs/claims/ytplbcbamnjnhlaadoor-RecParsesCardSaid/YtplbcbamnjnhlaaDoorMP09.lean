/- Texts of this proof joined: Crc, Frame, Map. -/
import Derived.Test.YtplbcbamnjnhlaaDoorChecked
import Derived.Test.YtplbcbamnjnhlaaDoorMP05
import Derived.Test.YtplbcbamnjnhlaaDoorMP08
import Derived.Laws.BitsAllLaws
import Derived.Outline
import Derived.Test.YtplbcbamnjnhlaaDoorMP04
/- Contracts of crc.half, Step, Of, Begin, End, frame.tail, and of the reference's Step and Sum, for any bytes and every world. -/
namespace Go.Proofs.YtplbcbamnjnhlaaDoor
open Go.RowKit

theorem rd_two {w w' : World} {B : Nat} {A : Option Addr} {xs : List Value} (h : Rd w w.heap.size A xs) (hb : Below w.heap.size w w') (hB : B = w'.heap.size) : Rd w' B A xs := (h.below hb).more (by rw [hB]; exact hb.size)

theorem crc_el (k : Nat) (h : k < 16) : ([.int .u32 0, .int .u32 498536548, .int .u32 997073096, .int .u32 651767980, .int .u32 1994146192, .int .u32 1802195444, .int .u32 1303535960, .int .u32 1342533948, .int .u32 3988292384, .int .u32 4027552580, .int .u32 3604390888, .int .u32 3412177804, .int .u32 2607071920, .int .u32 2262029012, .int .u32 2685067896, .int .u32 3183342108] : List Value)[k]'h = .int .u32 (crcRow k : Nat) := by
  have hall : ∀ j : Fin 16, ([.int .u32 0, .int .u32 498536548, .int .u32 997073096, .int .u32 651767980, .int .u32 1994146192, .int .u32 1802195444, .int .u32 1303535960, .int .u32 1342533948, .int .u32 3988292384, .int .u32 4027552580, .int .u32 3604390888, .int .u32 3412177804, .int .u32 2607071920, .int .u32 2262029012, .int .u32 2685067896, .int .u32 3183342108] : List Value)[j.val]'j.isLt = Value.int .u32 (crcRow j.val : Nat) := by
    intro j
    match j with
    | ⟨0, _⟩ | ⟨1, _⟩ | ⟨2, _⟩ | ⟨3, _⟩ | ⟨4, _⟩ | ⟨5, _⟩ | ⟨6, _⟩ | ⟨7, _⟩ | ⟨8, _⟩ | ⟨9, _⟩ | ⟨10, _⟩ | ⟨11, _⟩ | ⟨12, _⟩ | ⟨13, _⟩ | ⟨14, _⟩ | ⟨15, _⟩ => rfl
    | ⟨n + 16, h⟩ => omega
  exact hall ⟨k, h⟩
theorem and15 (n : Nat) : n &&& 15 = n % 16 := by
  rw [show (15 : Nat) = 2 ^ 4 - 1 by decide, Nat.and_two_pow_sub_one_eq_mod]
set_option maxHeartbeats 400000 in
theorem half_any (r : BitVec 32) (w : World) :
    Calls Tryd.prog 70 #[.int .u32 (r.toNat : Nat)] w fun e w' => e = .returned (.int .u32 ((crcHalf r).toNat : Nat)) ∧ Below w.heap.size w w' := by
  have hr := r.isLt
  have hand : bits .and .u32 (r.toNat : Int) 15 = ((r.toNat % 16 : Nat) : Int) := by
    rw [show (15 : Int) = ((15 : Nat) : Int) by rfl, u32_and_nat _ _ hr (by omega), and15]
  have hel := crc_el (r.toNat % 16)
  have hlt : r.toNat % 16 < 16 := by omega
  have HX : Hid (bits .xor .u32 ((r.toNat : Int) / 16) (crcRow (r.toNat % 16) : Nat) = ((crcHalf r).toNat : Nat)) := by
    show _ = _
    have := crcRow_lt (r.toNat % 16)
    rw [show ((r.toNat : Int) / 16) = ((r.toNat / 16 : Nat) : Int) by omega, u32_xor_nat _ _ (by omega) this]
    unfold crcHalf
    rw [BitVec.toNat_xor, BitVec.toNat_ofNat, BitVec.toNat_ushiftRight, Nat.shiftRight_eq_div_pow, Nat.mod_eq_of_lt (a := crcRow _) this]
  go_enter Tryd.func70, Tryd.ntmps70
  go_wp2
  go_ret
  exact ⟨rt1 (vint HX.out), (Below.refl _ _).alloc (Nat.le_refl _) _⟩

theorem begin_crc (w : World) : Calls Tryd.prog 62 #[] w fun e w' => e = .returned (.int .u32 (crcOnes.toNat : Nat)) ∧ w = w' := by
  go_enter Tryd.func62, Tryd.ntmps62
  go_wp2
  go_ret
  exact ⟨rfl, rfl⟩
theorem end_crc (r : BitVec 32) (w : World) : Calls Tryd.prog 64 #[.int .u32 (r.toNat : Nat)] w fun e w' => e = .returned (.int .u32 ((~~~ r).toNat : Nat)) ∧ w = w' := by
  have hr := r.isLt
  go_enter Tryd.func64, Tryd.ntmps64
  go_wp2
  go_ret
  refine ⟨rt1 (vint ?_), rfl⟩
  rw [show IntKind.u32.max = ((4294967295 : Nat) : Int) by decide, u32_xor_nat _ _ (by omega) hr]
  have h : (BitVec.allOnes 32 ^^^ r) = ~~~ r := by rw [BitVec.allOnes_xor]
  have h2 := congrArg BitVec.toNat h
  rw [BitVec.toNat_xor] at h2
  rw [BitVec.toNat_not] at h2
  exact congrArg Nat.cast h2

theorem crcList_snoc (s : BitVec 32) (l : List UInt8) (k : Nat) (h : k < l.length) : crcList s (l.take (k + 1)) = crcHalf (crcHalf (crcList s (l.take k) ^^^ BitVec.ofNat 32 l[k].toNat)) := by
  rw [List.take_succ_eq_append_getElem h, crcList_append, ← crcByte_half]
  rfl
theorem xor_byte (s : BitVec 32) (c : UInt8) : bits .xor .u32 (s.toNat : Int) (c.toNat : Int) = ((s.toNat ^^^ c.toNat : Nat) : Int) := by
  have := c.toNat_lt
  rw [u32_xor_nat _ _ s.isLt (by omega)]
theorem xor_bv (s : BitVec 32) (c : UInt8) : s.toNat ^^^ c.toNat = (s ^^^ BitVec.ofNat 32 c.toNat).toNat := by
  have := c.toNat_lt
  rw [BitVec.toNat_xor, BitVec.toNat_ofNat, Nat.mod_eq_of_lt (by omega)]
set_option maxHeartbeats 400000 in
theorem step_crc (r : BitVec 32) (l : List UInt8) (A : Option Addr) (c B : Nat) (w : World) (hr : Rd w B A (bcells l)) (hB : B ≤ w.heap.size) (hl : l.length ≤ 1099511627776) :
    Calls Tryd.prog 63 #[.int .u32 (r.toNat : Nat), .slice A l.length c] w fun e w' => e = .returned (.int .u32 ((crcList r l).toNat : Nat)) ∧ Below w.heap.size w w' := by
  have HR := Lib.hid hr
  clear hr
  go_enter Tryd.func63, Tryd.ntmps63
  go_wp2
  go_loopw [0, 9] (fun v0 v9 wr => ∃ k : Nat, k ≤ l.length ∧ v9 = .int .i64 k ∧ v0 = .int .u32 ((crcList r (l.take k)).toNat : Nat) ∧ Below w.heap.size w wr) (fun _ i _ => l.length - (intOf i).toNat)
  case atStart => exact ⟨0, by omega, rfl, rfl, Below.refl _ _⟩
  case round =>
    obtain ⟨k, hk, rfl, rfl, hbr⟩ := hrel
    by_cases hlt : k < l.length
    · obtain ⟨ab, ao, rfl, hab, hcell⟩ := (HR.out.below (hbr.mono hB)).byte hlt
      have hs := Lib.hid (crcList_snoc r l k hlt)
      have hx := xor_byte (crcList r (l.take k)) l[k]
      have hb8 := l[k].toNat_lt
      go_wp2_with fail
      rw [xor_bv]
      refine (half_any _ _).mono ?_
      rintro e w1 ⟨rfl, h1⟩
      go_wp2_with fail
      refine (half_any _ _).mono ?_
      rintro e w2 ⟨rfl, h2⟩
      go_wp2
      go_roundw
      case rel => exact ⟨k + 1, by omega, by go_num, by rw [hs.out], (hbr.trans (h1.mono hbr.size)).trans (h2.mono (Nat.le_trans hbr.size h1.size))⟩
      case measure => simp [intOf]; omega
    · have hkl : k = l.length := by omega
      subst hkl
      go_wp2
      go_ret
      exact ⟨rt1 (vint (by rw [List.take_length])), hbr⟩

theorem crcSum_nat (l : List UInt8) : (crcSum l).toNat = 4294967295 - (crcList crcOnes l).toNat := by unfold crcSum; rw [BitVec.toNat_not]
theorem of_crc (g o cap : Nat) (l : List UInt8) (A : Option Addr) (c B : Nat) (w : World) (hg : w.cell? ⟨g, o, none⟩ = some (.slice A l.length c)) (hgB : g < B) (hr : Rd w B A (bcells l)) (hB : B ≤ w.heap.size) (hl : l.length ≤ 1099511627776) :
    Calls Tryd.prog 47 #[.slice (some ⟨g, o, none⟩) 1 cap] w fun e w' => e = .returned (.int .u32 ((crcSum l).toNat : Nat)) ∧ Below w.heap.size w w' := by
  have HR := Lib.hid hr
  have HG := Lib.hid hg
  clear hr hg
  go_enter Tryd.func47, Tryd.ntmps47
  go_wp2_with fail
  refine (begin_crc _).mono ?_
  rintro e w1 ⟨rfl, rfl⟩
  go_wp2_with fail
  go_loopw [3, 9] (fun v3 v9 wr => ∃ k : Nat, k ≤ 1 ∧ v9 = .int .i64 k ∧ v3 = .int .u32 ((crcList crcOnes (if k = 0 then [] else l)).toNat : Nat) ∧ Below w.heap.size w wr) (fun _ i _ => 1 - (intOf i).toNat)
  case atStart => exact ⟨0, by omega, rfl, rfl, Below.refl _ _⟩
  case round =>
    obtain ⟨k, hk, rfl, rfl, hbr⟩ := hrel
    by_cases hlt : k = 0
    · subst hlt
      have hc : wr.cell? ⟨g, o, none⟩ = some (.slice A l.length c) := (hbr.cell (p := ⟨g, o, none⟩) (by show g < _; omega)).trans HG.out
      go_wp2_with fail
      refine (step_crc crcOnes l A c B wr (HR.out.below (hbr.mono hB)) (Nat.le_trans hB hbr.size) hl).mono ?_
      rintro e w1 ⟨rfl, h1⟩
      go_wp2
      go_roundw
      case rel => exact ⟨1, by omega, rfl, rfl, hbr.trans (h1.mono hbr.size)⟩
      case measure => simp [intOf]
    · have hkl : k = 1 := by omega
      subst hkl
      go_wp2_with fail
      refine (end_crc _ _).mono ?_
      rintro e w1 ⟨rfl, rfl⟩
      go_wp2
      go_ret
      exact ⟨rt1 (vint (by rw [crcSum_nat])), hbr⟩

/-! the reference, bit by bit -/
theorem crcBit_nat (s : BitVec 32) (b : Bool) : (crcBit s b).toNat = if s.toNat % 2 = b.toNat then s.toNat / 2 else s.toNat / 2 ^^^ 3988292384 := by
  have h1 : (s ^^^ bv1 b) >>> 1 = s >>> 1 := by
    apply BitVec.eq_of_getLsbD_eq
    intro i hi
    rw [BitVec.getLsbD_ushiftRight, BitVec.getLsbD_ushiftRight, BitVec.getLsbD_xor]
    have : (bv1 b).getLsbD (1 + i) = false := by cases b <;> simp [bv1, BitVec.getLsbD_one]
    rw [this, Bool.xor_false]
  have h2 : (s ^^^ bv1 b).getLsbD 0 = (s.getLsbD 0 != b) := by
    rw [BitVec.getLsbD_xor]
    cases b <;> simp [bv1]
  have h3 : s.getLsbD 0 = decide (s.toNat % 2 = 1) := by simp [BitVec.getLsbD, Nat.testBit_zero]
  unfold crcBit crcL
  rw [h1, h2, h3, BitVec.toNat_xor, BitVec.toNat_ushiftRight, Nat.shiftRight_eq_div_pow]
  rcases Nat.mod_two_eq_zero_or_one s.toNat with h | h <;> rw [h] <;> cases b <;> simp [crcPoly]
theorem byteBits_snoc (c : UInt8) (j : Nat) (h : j < 8) : (byteBits c).take (j + 1) = (byteBits c).take j ++ [c.toNat.testBit j] := by
  rw [List.take_succ_eq_append_getElem (by rw [byteBits_length]; exact h)]
  simp [byteBits]
theorem testBit_mod (n j : Nat) : (n.testBit j).toNat = n / 2 ^ j % 2 := by
  rw [Nat.testBit_eq_decide_div_mod_eq]
  rcases Nat.mod_two_eq_zero_or_one (n / 2 ^ j) with h | h <;> simp [h]
set_option maxHeartbeats 400000 in
theorem refStep_any (r : BitVec 32) (l : List UInt8) (A : Option Addr) (c B : Nat) (w : World) (hr : Rd w B A (bcells l)) (hl : l.length ≤ 1099511627776) :
    Calls Tryd.prog 55 #[.int .u32 (r.toNat : Nat), .slice A l.length c] w fun e w' => e = .returned (.int .u32 ((crcList r l).toNat : Nat)) ∧ w = w' := by
  have HR := Lib.hid hr
  clear hr
  go_enter Tryd.func55, Tryd.ntmps55
  go_wp2
  go_loop [0, 5] (fun v0 v5 => ∃ (k : Nat) (s : BitVec 32), k ≤ l.length ∧ v5 = .int .i64 k ∧ v0 = .int .u32 (s.toNat : Nat) ∧ Hid (s = crcList r (l.take k))) (fun _ i => l.length - (intOf i).toNat)
  case atStart => exact ⟨0, r, by omega, rfl, rfl, rfl⟩
  case round =>
    obtain ⟨k, s, hk, rfl, rfl, hs⟩ := hrel
    by_cases hlt : k < l.length
    · obtain ⟨ab, ao, rfl, hab, hcell⟩ := HR.out.byte hlt
      have hb8 := l[k].toNat_lt
      go_wp2
      go_loop [0, 6, 7] (fun v0 v6 v7 => ∃ (j x : Nat) (s' : BitVec 32), j ≤ 8 ∧ v7 = .int .i64 j ∧ x < 256 ∧ v6 = .int .u8 x ∧ Hid (x = l[k].toNat / 2 ^ j) ∧ v0 = .int .u32 (s'.toNat : Nat) ∧ Hid (s' = crcBits s ((byteBits l[k]).take j))) (fun _ _ i => 8 - (intOf i).toNat)
      case atStart => exact ⟨0, _, s, by omega, rfl, hb8, rfl, by show _ = _; simp, rfl, rfl⟩
      case round =>
        obtain ⟨j, x, s', hj, rfl, hx, rfl, hxe, rfl, hs'⟩ := hrel
        have hs32 := s'.isLt
        by_cases hj8 : j < 8
        · have HN := Lib.hid (show crcBits s ((byteBits l[k]).take (j + 1)) = crcBit s' (l[k].toNat.testBit j) by rw [byteBits_snoc _ _ hj8, crcBits_append, ← hs'.out]; rfl)
          have HB := Lib.hid (show (l[k].toNat.testBit j).toNat = x % 2 by rw [testBit_mod, hxe.out])
          have HX := Lib.hid (show bits .xor .u32 ((s'.toNat : Int) / 2) 3988292384 = ((s'.toNat / 2 ^^^ 3988292384 : Nat) : Int) by
            rw [show ((s'.toNat : Int) / 2) = ((s'.toNat / 2 : Nat) : Int) by omega]
            exact u32_xor_nat _ 3988292384 (by omega) (by omega))
          have HQ := Lib.hid (crcBit_nat s' (l[k].toNat.testBit j))
          by_cases hq : x % 2 = s'.toNat % 2
          · have hq1 : (((x : Int) % 2) != ((s'.toNat : Int) % 2)) = false := by simp; omega
            go_wp2
            go_round
            case rel =>
              refine ⟨j + 1, x / 2, crcBit s' (l[k].toNat.testBit j), by omega, by go_num, by omega, by rfl, ?_, ?_, HN.out.symm⟩
              · show _ = _
                rw [hxe.out, Nat.div_div_eq_div_mul, Nat.pow_succ]
              · exact vint (by rw [HQ.out, if_pos (by rw [HB.out]; omega)]; rfl)
            case measure => simp [intOf]; omega
          · have hq1 : (((x : Int) % 2) != ((s'.toNat : Int) % 2)) = true := by simp; omega
            go_wp2
            go_round
            case rel =>
              refine ⟨j + 1, x / 2, crcBit s' (l[k].toNat.testBit j), by omega, by go_num, by omega, by rfl, ?_, ?_, HN.out.symm⟩
              · show _ = _
                rw [hxe.out, Nat.div_div_eq_div_mul, Nat.pow_succ]
              · exact vint (by rw [HQ.out, if_neg (by rw [HB.out]; omega)]; exact HX.out)
            case measure => simp [intOf]; omega
        · have hj' : j = 8 := by omega
          subst hj'
          go_wp2
          go_round
          case rel =>
            refine ⟨k + 1, s', by omega, by go_num, rfl, ?_⟩
            show _ = _
            rw [hs'.out, hs.out, List.take_of_length_le (l := byteBits l[k]) (by rw [byteBits_length]; omega), List.take_succ_eq_append_getElem hlt, crcList_append]
            rfl
          case measure => simp [intOf]; omega
    · have hkl : k = l.length := by omega
      subst hkl
      go_wp2
      go_ret
      exact ⟨rt1 (vint (by rw [hs.out, List.take_length])), rfl⟩
theorem refSum_any (l : List UInt8) (A : Option Addr) (c B : Nat) (w : World) (hr : Rd w B A (bcells l)) (hl : l.length ≤ 1099511627776) :
    Calls Tryd.prog 35 #[.slice A l.length c] w fun e w' => e = .returned (.int .u32 ((crcSum l).toNat : Nat)) ∧ w = w' := by
  have HR := Lib.hid hr
  clear hr
  have h32 := (crcList crcOnes l).isLt
  have HN := Lib.hid (crcSum_nat l)
  go_enter Tryd.func35, Tryd.ntmps35
  go_wp2_with fail
  refine (refStep_any crcOnes l A c B w HR.out hl).mono ?_
  rintro e w1 ⟨rfl, rfl⟩
  go_wp2
  go_ret
  exact ⟨rt1 (vint (by rw [HN.out]; omega)), rfl⟩
/-! a sum's bytes -/
theorem frame_tail (s : BitVec 32) (w : World) :
    Calls Tryd.prog 46 #[.int .u32 (s.toNat : Nat)] w fun e w' => e = .returned (.slice (some ⟨w.heap.size, 0, none⟩) 4 4) ∧ w' = w.alloc (.cells (bcells (crcTail s)).toArray 5) := by
  have hs := s.isLt
  have HT : Hid ((bcells (crcTail s)).toArray = #[.int .u8 ((s.toNat : Int) % 256), .int .u8 ((s.toNat : Int) / 256 % 256), .int .u8 ((s.toNat : Int) / 65536 % 256), .int .u8 ((s.toNat : Int) / 16777216)]) := by
    show _ = _
    simp only [bcells, crcTail, List.map_cons, List.map_nil, bcell, UInt8.toNat_ofNat']
    rw [show ((s.toNat / 16777216 % 2 ^ 8 : Nat) : Int) = (s.toNat : Int) / 16777216 by omega]
    congr
  go_enter Tryd.func46, Tryd.ntmps46
  go_wp2
  go_ret
  rw [HT.out]
  exact ⟨rfl, rfl⟩
end Go.Proofs.YtplbcbamnjnhlaaDoor
/- Contracts of frame.Seal and of the reference's Seal, for any load of at most 1048576 bytes, every world. -/
namespace Go.Proofs.YtplbcbamnjnhlaaDoor
open Go.RowKit

def frameBody (kind : UInt8) (load : List UInt8) : List UInt8 := kind :: (vForm load.length ++ load)
def frameSeal (kind : UInt8) (load : List UInt8) : List UInt8 := frameBody kind load ++ crcTail (crcSum (frameBody kind load))
theorem frameBody_length (kind : UInt8) (load : List UInt8) : (frameBody kind load).length = 1 + (vForm load.length).length + load.length := by simp [frameBody]; omega
theorem frameSeal_length (kind : UInt8) (load : List UInt8) : (frameSeal kind load).length = 5 + (vForm load.length).length + load.length := by simp [frameSeal, crcTail, frameBody_length]; omega
theorem vForm_len_le (v : Nat) (h : v < 1180591620717411303424) : (vForm v).length ≤ 10 := vForm_length v 9 (by simpa using h)

theorem own_of_row {w : World} {base g n : Nat} {l : List UInt8} (h : w.heap[g]? = some (.cells (bcells l).toArray 5 (0, 0))) (hb : base ≤ g) (hn : n = l.length) (hl : l.length ≤ 1099511627776) :
    w.ownsRow base 5 1 (.slice (some ⟨g, 0, none⟩) n n) n (bcells l) := by
  subst hn
  refine ⟨by simp [bcells_length], .inr ⟨g, l.length, _, rfl, hb, h, Nat.le_refl _, by simp only [maxLen]; omega, by simp [bcells_length], ?_⟩⟩
  simp only [Nat.mul_one]
  rw [List.take_of_length_le (by simp [bcells_length])]
theorem rd_of_bytes {w : World} {g B : Nat} {l : List UInt8} {t : TypeId} {fr : Nat × Nat} (h : w.heap[g]? = some (.cells (bcells l).toArray t fr)) (hg : g < B) : Rd w B (some ⟨g, 0, none⟩) (bcells l) := by
  have := Rd.row h hg
  simpa using this
theorem rd_alloc {w : World} {B B' : Nat} {A : Option Addr} {xs : List Value} (h : Rd w B A xs) (hB : B ≤ w.heap.size) (hB' : B ≤ B') (o : Obj) : Rd (w.alloc o) B' A xs :=
  (h.below ((Below.refl _ _).mono hB |>.alloc hB o)).more hB'
theorem cell_new (w : World) (v : Value) (t : TypeId) : (w.alloc (.cells #[v] t)).cell? ⟨w.heap.size, 0, none⟩ = some v := by
  rw [cell_of_row _ _ _ _ _ _ (Go.heap_alloc_new w _)]; rfl
theorem cell_new2 (w : World) (o : Obj) (v : Value) (t : TypeId) : ((w.alloc o).alloc (.cells #[v] t)).cell? ⟨w.heap.size + 1, 0, none⟩ = some v := by
  have h := cell_new (w.alloc o) v t
  rwa [World.size_alloc] at h
set_option maxRecDepth 100000 in
set_option maxHeartbeats 1000000 in
theorem seal_any (kind : UInt8) (load : List UInt8) (A : Option Addr) (c B : Nat) (w : World) (hr : Rd w B A (bcells load)) (hB : B ≤ w.heap.size) (hl : load.length ≤ 1048576) :
    Calls Tryd.prog 23 #[.int .u8 (kind.toNat : Nat), .slice A load.length c] w fun e w' => ∃ v, e = .returned (.tuple #[v, .int .i64 0]) ∧ w'.ownsRow w.heap.size 5 1 v (frameSeal kind load).length (bcells (frameSeal kind load)) ∧ Below w.heap.size w w' := by
  have HR := Lib.hid hr
  clear hr
  have hvl := vForm_len_le load.length (by omega)
  have hbl : (frameBody kind load).length ≤ 1048600 := by rw [frameBody_length]; omega
  have hsl : (frameSeal kind load).length ≤ 1048600 := by rw [frameSeal_length]; omega
  have hk8 := kind.toNat_lt
  go_enter Tryd.func23, Tryd.ntmps23
  go_wp2_with fail
  refine (write_any w).mono ?_
  rintro e w1 ⟨rfl, hw1, hb1, hs1⟩
  clear hs1
  have W1 := Lib.hid hw1
  have B1 : Hid (Below w.heap.size w w1) := hb1
  clear hw1 hb1
  have HRd1 := Lib.hid (HR.out.below (B1.out.mono hB))
  go_wp2_with fail
  refine (num_any w.heap.size 1 kind.toNat [] w1 W1.out (by omega) (by omega) (by omega) (by simp)).mono ?_
  rintro e w2 ⟨rfl, hw2, hk2⟩
  rw [beBytes_one _ (by omega), List.nil_append, UInt8.ofNat_toNat] at hw2
  have W2 := Lib.hid hw2
  have B2 := Lib.hid (B1.out.trans hk2.below)
  clear hw2 hk2
  go_wp2_with fail
  refine (put_any w.heap.size load.length [kind] w2 W2.out (by simp) (by omega)).mono ?_
  rintro e w3 ⟨rfl, hw3, hk3⟩
  have W3 := Lib.hid hw3
  have B3 := Lib.hid (B2.out.trans hk3.below)
  clear hw3 hk3
  go_wp2_with fail
  have hs3 := B3.out.size
  refine (raw_any w.heap.size w3.heap.size 0 1 ([kind] ++ vForm load.length) load A c B _ (W3.out.later ((Below.refl _ _).alloc (Nat.le_refl _) _)) (by rw [cell_of_row _ _ _ _ _ _ (Go.heap_alloc_new w3 _)]; rfl) ((HR.out.below (B3.out.mono hB)).below ((Below.refl _ _).alloc (by omega) _)) (by simp; omega) (by simp; omega) (by omega)).mono ?_
  rintro e w4 ⟨rfl, hw4, hk4⟩
  rw [List.append_assoc] at hw4
  have W4 : Hid (WrR w4 w.heap.size (frameBody kind load)) := Lib.hid hw4
  have B4 := Lib.hid ((B3.out.alloc hs3 _).trans hk4.below)
  clear hw4 hk4
  have hs4 := B4.out.size
  go_wp2_with fail
  refine (bytes_any w.heap.size (frameBody kind load) w4 W4.out (by omega)).mono ?_
  rintro e w5 ⟨rfl, hr5, hb5, hs5⟩
  have R5 := Lib.hid hr5
  have W5 := Lib.hid (W4.out.later hb5)
  have B5 := Lib.hid (B4.out.trans (hb5.mono hs4))
  have S5 := Lib.hid hs5
  have hlt5 : w4.heap.size < w5.heap.size := by omega
  clear hr5 hb5 hs5
  go_wp2_with fail
  have hs5' : w.heap.size ≤ w5.heap.size := by omega
  refine (of_crc w5.heap.size 0 1 (frameBody kind load) (some ⟨w4.heap.size, 0, none⟩) (frameBody kind load).length (w5.heap.size + 1) _ (cell_new _ _ _) (by omega) (rd_alloc (rd_of_bytes (B := w5.heap.size) R5.out (by omega)) (Nat.le_refl _) (by omega) _) (by simp) (by omega)).mono ?_
  rintro e w6 ⟨rfl, hb6⟩
  have B6 := Lib.hid ((B5.out.alloc hs5' _).trans (hb6.mono (by simp; omega)))
  have W6 := Lib.hid ((W5.out.later ((Below.refl _ _).alloc (Nat.le_refl _) _)).later hb6)
  clear hb6
  have hs6 := B6.out.size
  go_wp2_with fail
  refine (frame_tail _ w6).mono ?_
  rintro e w7 ⟨rfl, rfl⟩
  go_wp2_with fail
  refine (raw_any w.heap.size (w6.heap.size + 1) 0 1 (frameBody kind load) (crcTail (crcSum (frameBody kind load))) (some ⟨w6.heap.size, 0, none⟩) 4 (w6.heap.size + 1) _ ((W6.out.later ((Below.refl _ _).alloc (Nat.le_refl _) _)).later ((Below.refl _ _).alloc (Nat.le_refl _) _)) (cell_new2 _ _ _ _) (rd_alloc (rd_of_bytes (B := w6.heap.size + 1) (Go.heap_alloc_new w6 _) (by omega)) (by simp) (Nat.le_refl _) _) (by simp) (by omega) (by simp [crcTail])).mono ?_
  rintro e w8 ⟨rfl, hw8, hk8'⟩
  have W8 : Hid (WrR w8 w.heap.size (frameSeal kind load)) := Lib.hid hw8
  have B8 := Lib.hid (((B6.out.alloc hs6 _).alloc (by simp; omega) _).trans hk8'.below)
  clear hw8 hk8'
  have hs8 := B8.out.size
  go_wp2_with fail
  refine (bytes_any w.heap.size (frameSeal kind load) w8 W8.out (by omega)).mono ?_
  rintro e w9 ⟨rfl, hr9, hb9, hs9⟩
  have R9 := Lib.hid hr9
  have B9 := Lib.hid (B8.out.trans (hb9.mono hs8))
  clear hr9 hb9 hs9
  go_wp2
  go_ret2
  exact ⟨_, rfl, own_of_row R9.out hs8 rfl (by omega), B9.out⟩

end Go.Proofs.YtplbcbamnjnhlaaDoor
/- Maps of the call's own: what a look-up and a store do, told by a list of pairs in the order of insertion. No program is named here. -/
namespace Go.Proofs.YtplbcbamnjnhlaaDoor
open Go.RowKit

/-- the value that a list of pairs has for a key -/
def assoc {α : Type} [DecidableEq α] (l : List (α × Value)) (k : α) : Option Value := (l.find? fun p => decide (p.1 = k)).map (·.2)
/-- a value put at a key: in its place, or at the end -/
def assocSet {α : Type} [DecidableEq α] : List (α × Value) → α → Value → List (α × Value)
  | [], k, v => [(k, v)]
  | p :: r, k, v => if p.1 = k then (k, v) :: r else p :: assocSet r k v
/-- block g is a map whose entries are these pairs -/
def MapR {α : Type} (κ : α → Value) (w : World) (g : Nat) (l : List (α × Value)) : Prop :=
  ∃ (es : Array MapEntry) (clock : Nat), w.heap[g]? = some (.map es clock) ∧ es.toList.map (fun e => (e.key, e.val)) = l.map (fun p => (κ p.1, p.2))
/-- keys of a kind: they may be, are found, and stay -/
structure KeyTy {α : Type} [DecidableEq α] (P : Program) (mt kt et : TypeId) (κ : α → Value) : Prop where
  und : P.underlying mt = some (.map kt et)
  check : ∀ (b : Bool) (a : α) (w : World), (Instr.checkKey b 10000 kt (κ a)).run P w = .ok () w
  find : ∀ (k : α) (l : List (α × Value)) (es : List MapEntry) (w : World), es.map (fun e => (e.key, e.val)) = l.map (fun p => (κ p.1, p.2)) →
    (Instr.findKey kt (κ k) es).run P w = .ok ((l.findIdx? fun p => decide (p.1 = k)).bind fun i => (l[i]?).map fun p => (i, p.2)) w
  stays : ∀ a : α, Instr.sameBits 10000 (κ a) (κ a) = true

section
variable {α : Type} {κ : α → Value} {w : World} {g : Nat} {l : List (α × Value)}
theorem MapR.made (w : World) : MapR κ (w.alloc (.map #[] 0)) w.heap.size [] := ⟨#[], 0, heap_alloc_new w _, rfl⟩
theorem MapR.lt (h : MapR κ w g l) : g < w.heap.size := by
  obtain ⟨es, c, hh, _⟩ := h
  exact (Array.getElem?_eq_some_iff.1 hh).1
theorem MapR.of_block {w' : World} (h : MapR κ w g l) (hb : w'.heap[g]? = w.heap[g]?) : MapR κ w' g l := by
  obtain ⟨es, c, hh, he⟩ := h
  exact ⟨es, c, hb.trans hh, he⟩
theorem MapR.below {B : Nat} {w' : World} (h : MapR κ w g l) (hb : Below B w w') (hg : g < B) : MapR κ w' g l := h.of_block (hb.block g hg)
theorem MapR.drew (h : MapR κ w g l) : MapR κ w.drew g l := h
theorem MapR.alloc (h : MapR κ w g l) (o : Obj) : MapR κ (w.alloc o) g l := h.of_block (Below.heap_alloc w o g h.lt)
theorem MapR.grown {row : Option Nat} {w' : World} (h : MapR κ w g l) (hg : w.grownBy w' row) (hne : some g ≠ row) : MapR κ w' g l := h.of_block (hg.block g h.lt hne)
theorem MapR.setCell {p : Addr} {v : Value} (h : MapR κ w g l) (hp : g ≠ p.block) : MapR κ (w.setCell p v) g l := h.of_block (Below.heap_setCell w p v g hp)

end
section
variable {α : Type} [DecidableEq α] {P : Program} {mt kt et : TypeId} {κ : α → Value} {w : World} {g : Nat} {l : List (α × Value)}
theorem assoc_idx : ∀ (l : List (α × Value)) (k : α), ((l.findIdx? fun p => decide (p.1 = k)).bind fun i => (l[i]?).map fun p => (i, p.2)).map (·.2) = assoc l k
  | [], k => rfl
  | p :: r, k => by
    have ih := assoc_idx r k
    unfold assoc at ih ⊢
    rw [List.findIdx?_cons, List.find?_cons]
    by_cases hp : p.1 = k
    · simp [hp]
    · simp only [hp, decide_false, Bool.false_eq_true, if_false]
      rw [← ih]
      cases hf : r.findIdx? fun p => decide (p.1 = k) with
      | none => simp
      | some i => simp [Option.map_map, Function.comp_def]

theorem MapR.lookup (K : KeyTy P mt kt et κ) (h : MapR κ w g l) {z : Value} (hz : ∀ w : World, (zeroValue et).run P w = .ok z w) (k : α) :
    (Instr.lookup mt (.map (some g)) (κ k) false).run P w = .ok ((assoc l k).getD z) w := by
  obtain ⟨es, c, hh, he⟩ := h
  have hf := K.find k l es.toList w he
  have ha := assoc_idx l k
  cases hx : ((l.findIdx? fun p => decide (p.1 = k)).bind fun i => (l[i]?).map fun p => (i, p.2)) with
  | none =>
    rw [hx] at hf ha
    rw [← ha]
    simp [Instr.lookup, run_underlying K.und, getObj, Sem.run, hh, K.check, hf, hz, Sem.run_bind, Result.andThen]
  | some r =>
    rw [hx] at hf ha
    rw [← ha]
    simp [Instr.lookup, run_underlying K.und, getObj, Sem.run, hh, K.check, hf, Sem.run_bind, Result.andThen]
theorem MapR.lookup_ok (K : KeyTy P mt kt et κ) (h : MapR κ w g l) {z : Value} (hz : ∀ w : World, (zeroValue et).run P w = .ok z w) (k : α) :
    (Instr.lookup mt (.map (some g)) (κ k) true).run P w = .ok (.tuple #[(assoc l k).getD z, .bool (assoc l k).isSome]) w := by
  obtain ⟨es, c, hh, he⟩ := h
  have hf := K.find k l es.toList w he
  have ha := assoc_idx l k
  cases hx : ((l.findIdx? fun p => decide (p.1 = k)).bind fun i => (l[i]?).map fun p => (i, p.2)) with
  | none =>
    rw [hx] at hf ha
    rw [← ha]
    simp [Instr.lookup, run_underlying K.und, getObj, Sem.run, hh, K.check, hf, hz, Sem.run_bind, Result.andThen]
  | some r =>
    rw [hx] at hf ha
    rw [← ha]
    simp [Instr.lookup, run_underlying K.und, getObj, Sem.run, hh, K.check, hf, Sem.run_bind, Result.andThen]

theorem assocSet_idx : ∀ (l : List (α × Value)) (k : α) (v : Value), assocSet l k v = match l.findIdx? fun p => decide (p.1 = k) with
    | some i => l.set i (k, v)
    | none => l ++ [(k, v)]
  | [], k, v => rfl
  | p :: r, k, v => by
    have ih := assocSet_idx r k v
    unfold assocSet
    rw [List.findIdx?_cons]
    by_cases hp : p.1 = k
    · simp [hp]
    · simp only [hp, decide_false, Bool.false_eq_true, if_false]
      rw [ih]
      cases hf : r.findIdx? fun p => decide (p.1 = k) with
      | none => simp
      | some i => simp
/-- the world behind a store into the map: block g alone has turned -/
theorem MapR.update (K : KeyTy P mt kt et κ) (h : MapR κ w g l) (k : α) (v : Value) :
    ∃ w', (Instr.mapUpdate mt (.map (some g)) (κ k) v).run P w = .ok () w' ∧ MapR κ w' g (assocSet l k v) ∧ w.grownBy w' (some g) ∧ w'.heap.size = w.heap.size := by
  obtain ⟨es, c, hh, he⟩ := h
  have hf := K.find k l es.toList w he
  have hgrow : ∀ o : Obj, w.grownBy { w with heap := w.heap.setIfInBounds g o } (some g) := fun o => ⟨rfl, rfl, rfl, by simp, fun k' _ hne => by
    have : g ≠ k' := fun e => hne (by rw [e])
    simp [Array.getElem?_setIfInBounds_ne this]⟩
  have hlt : g < w.heap.size := (Array.getElem?_eq_some_iff.1 hh).1
  rw [assocSet_idx]
  cases hi : l.findIdx? fun p => decide (p.1 = k) with
  | none =>
    rw [hi] at hf
    simp only [Option.bind_none] at hf
    refine ⟨{ w with heap := w.heap.setIfInBounds g (.map (es.push { key := κ k, val := v, born := c }) (c + 1)) }, ?_, ⟨es.push { key := κ k, val := v, born := c }, c + 1, by simp [hlt], ?_⟩, hgrow _, by simp⟩
    · simp [Instr.mapUpdate, run_underlying K.und, getObj, Sem.run, hh, K.check, hf, setObj, Result.andThen]
    · simp [he]
  | some i =>
    have hil : i < l.length := by
      rw [List.findIdx?_eq_some_iff_getElem] at hi
      exact hi.1
    have hik : l[i].1 = k := by
      rw [List.findIdx?_eq_some_iff_getElem] at hi
      simpa using hi.2.1
    have hsz : es.size = l.length := by
      have := congrArg List.length he
      simpa using this
    have hie : i < es.size := by omega
    have hei : (es[i]).key = κ k := by
      have := congrArg (fun q => q[i]?) he
      simp [hil, hie] at this
      rw [this.1, hik]
    rw [hi] at hf
    simp only [Option.bind_some, List.getElem?_eq_getElem hil, Option.map_some] at hf
    refine ⟨{ w with heap := w.heap.setIfInBounds g (.map (es.modify i fun e => { e with key := κ k, val := v }) c) }, ?_, ⟨es.modify i fun e => { e with key := κ k, val := v }, c, by simp [hlt], ?_⟩, hgrow _, by simp⟩
    · simp [Instr.mapUpdate, run_underlying K.und, getObj, Sem.run, hh, K.check, hf, setObj, Result.andThen, Instr.keyThatStays, hei, hie, K.stays]
    · apply List.ext_getElem?
      intro j
      have hj := congrArg (fun q => q[j]?) he
      simp only [List.getElem?_map, Array.getElem?_toList] at hj ⊢
      rw [Array.getElem?_modify, List.getElem?_set]
      by_cases hji : i = j
      · subst hji
        simp [hil, hie]
      · rw [if_neg hji, if_neg hji]
        exact hj
theorem wpList_update {ops : Array Oper} {rest : List Oper} {o : Oper} {a : Act} {Q : Exit → Act → World → Prop} {m x y : Operand} (K : KeyTy P mt kt et κ) (hgd : o.guard = none) (ho : o.op = .mapUpdate mt m x y)
    {k : α} {v : Value} (hm : a.eval m = .map (some g)) (hx : a.eval x = κ k) (hy : a.eval y = v) (h : MapR κ w g l)
    (hK : ∀ w', MapR κ w' g (assocSet l k v) → w.grownBy w' (some g) → w'.heap.size = w.heap.size → wpList P ops Q rest (a.put o.dst undef) w') : wpList P ops Q (o :: rest) a w := by
  refine wpList_plain hgd fun K' hK' => ?_
  obtain ⟨w', hrun, h1, h2, h3⟩ := h.update K k v
  unfold Oper.wp execOp
  simp only [ho, Sem.run_bind, Sem.run_pure, hm, hx, hy, hrun, Result.andThen]
  exact hK' _ _ (hK w' h1 h2 h3)
end

/-! keys that are strings, and numbers -/
theorem findNow_spec {α : Type} [DecidableEq α] {κ : α → Value} {d : TypeDesc} (hs : ∀ a b : α, Instr.sameNow d (κ a) (κ b) = some (decide (b = a))) (k : α) : ∀ (l : List (α × Value)) (es : List MapEntry) (n : Nat), es.map (fun e => (e.key, e.val)) = l.map (fun p => (κ p.1, p.2)) →
    Instr.findNow d (κ k) es n = some ((l.findIdx? fun p => decide (p.1 = k)).bind fun i => (l[i]?).map fun p => (n + i, p.2))
  | [], [], n, _ => rfl
  | [], e :: es, n, h => by simp at h
  | p :: r, [], n, h => by simp at h
  | p :: r, e :: es, n, h => by
    simp only [List.map_cons, List.cons.injEq, Prod.mk.injEq] at h
    unfold Instr.findNow
    rw [h.1.1, hs, List.findIdx?_cons]
    by_cases hp : p.1 = k
    · simp [hp, h.1.2]
    · simp only [hp, decide_false, Bool.false_eq_true, if_false]
      rw [findNow_spec hs k r es (n + 1) h.2]
      cases hf : r.findIdx? fun p => decide (p.1 = k) with
      | none => simp
      | some i => simp [Nat.add_assoc, Nat.add_comm 1 i]
theorem beq_swap {α : Type} [DecidableEq α] [BEq α] [LawfulBEq α] (a b : α) : (a == b) = decide (b = a) := by
  by_cases e : a = b
  · subst e; simp
  · rw [beq_eq_false_iff_ne.2 e, decide_eq_false fun h => e h.symm]
theorem bytes_beq (a b : ByteArray) : (a == b) = decide (b = a) := by
  obtain ⟨x⟩ := a
  obtain ⟨y⟩ := b
  have h : ((⟨x⟩ : ByteArray) == ⟨y⟩) = (x == y) := rfl
  rw [h]
  by_cases e : x = y
  · subst e; simp
  · rw [beq_eq_false_iff_ne.2 e, decide_eq_false fun h => e (by injection h with h; exact h.symm)]
theorem keyTy_str {P : Program} {mt kt et : TypeId} (h1 : P.underlying mt = some (.map kt et)) (h2 : P.underlying kt = some .string) : KeyTy P mt kt et Value.string where
  und := h1
  check := fun b a w => by
    show (Instr.checkKey b (9999 + 1) kt (.string a)).run P w = _
    unfold Instr.checkKey
    simp only [Sem.run_bind, run_underlying h2, Result.andThen, Sem.run_pure]
  find := fun k l es w h => by
    unfold Instr.findKey
    have := findNow_spec (κ := Value.string) (d := .string) (fun a b : ByteArray => (congrArg some (bytes_beq a b) : some (a == b) = some (decide (b = a)))) k l es 0 h
    simp only [Sem.run_bind, run_underlying h2, Result.andThen, this, Nat.zero_add, Sem.run_pure]
  stays := fun a => by
    rw [show (10000 : Nat) = 9999 + 1 from rfl]
    have := bytes_beq a a
    simp [Instr.sameBits, this]
theorem keyTy_int {P : Program} {mt kt et : TypeId} {q : IntKind} (h1 : P.underlying mt = some (.map kt et)) (h2 : P.underlying kt = some (.int q)) : KeyTy P mt kt et (Value.int q) where
  und := h1
  check := fun b a w => by
    show (Instr.checkKey b (9999 + 1) kt (.int q a)).run P w = _
    unfold Instr.checkKey
    simp only [Sem.run_bind, run_underlying h2, Result.andThen, Sem.run_pure]
  find := fun k l es w h => by
    unfold Instr.findKey
    have := findNow_spec (κ := Value.int q) (d := .int q) (fun a b : Int => (if_pos rfl).trans (congrArg some (beq_swap a b))) k l es 0 h
    simp only [Sem.run_bind, run_underlying h2, Result.andThen, this, Nat.zero_add, Sem.run_pure]
  stays := fun a => by
    rw [show (10000 : Nat) = 9999 + 1 from rfl]
    simp [Instr.sameBits]
end Go.Proofs.YtplbcbamnjnhlaaDoor
