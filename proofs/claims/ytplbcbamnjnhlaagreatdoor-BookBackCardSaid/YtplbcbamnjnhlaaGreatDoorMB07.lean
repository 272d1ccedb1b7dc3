/- Texts of this proof joined: CrcMath, Crc, Frame, Map. -/
import Derived.WalkKit
import Derived.Test.YtplbcbamnjnhlaaGreatDoorChecked
import Derived.Test.YtplbcbamnjnhlaaGreatDoorMB04
import Derived.Laws.BitsAllLaws
import Derived.Outline
import Derived.Test.YtplbcbamnjnhlaaGreatDoorMB06
namespace Go.Proofs.YtplbcbamnjnhlaaGreatDoor

def crcPoly : BitVec 32 := 0xedb88320#32
def crcL (r : BitVec 32) : BitVec 32 := (r >>> 1) ^^^ (if r.getLsbD 0 then crcPoly else 0#32)
def bv1 (b : Bool) : BitVec 32 := if b then 1#32 else 0#32
def crcBit (s : BitVec 32) (b : Bool) : BitVec 32 := crcL (s ^^^ bv1 b)
def crcBits (s : BitVec 32) (l : List Bool) : BitVec 32 := l.foldl crcBit s
def crcLn : Nat → BitVec 32 → BitVec 32
  | 0, r => r
  | n + 1, r => crcLn n (crcL r)

theorem xor4 (a b c d : BitVec 32) : (a ^^^ b) ^^^ (c ^^^ d) = (a ^^^ c) ^^^ (b ^^^ d) := by
  rw [BitVec.xor_assoc, BitVec.xor_assoc]
  congr 1
  rw [← BitVec.xor_assoc, ← BitVec.xor_assoc, BitVec.xor_comm b c]
theorem crcL_xor (x y : BitVec 32) : crcL (x ^^^ y) = crcL x ^^^ crcL y := by
  unfold crcL
  rw [BitVec.getLsbD_xor, BitVec.ushiftRight_xor_distrib, xor4]
  congr 1
  cases x.getLsbD 0 <;> cases y.getLsbD 0 <;> simp
theorem crcLn_xor : ∀ (n : Nat) (x y : BitVec 32), crcLn n (x ^^^ y) = crcLn n x ^^^ crcLn n y
  | 0, _, _ => rfl
  | n + 1, x, y => by rw [crcLn, crcL_xor, crcLn_xor n]; rfl
def bval : List Bool → Nat
  | [] => 0
  | b :: l => (if b then 1 else 0) + 2 * bval l
theorem bval_lt : ∀ l : List Bool, bval l < 2 ^ l.length
  | [] => by simp [bval]
  | b :: l => by
    have := bval_lt l
    rw [bval, List.length_cons, Nat.pow_succ]
    cases b <;> simp <;> omega
theorem bv_cons (b : Bool) (v : Nat) : BitVec.ofNat 32 ((if b then 1 else 0) + 2 * v) = bv1 b ^^^ (BitVec.ofNat 32 v <<< 1) := by
  apply BitVec.eq_of_getLsbD_eq
  intro i hi
  rw [BitVec.getLsbD_xor, BitVec.getLsbD_ofNat, BitVec.getLsbD_shiftLeft, BitVec.getLsbD_ofNat]
  have hb1 : (bv1 b).getLsbD i = (decide (i = 0) && b) := by
    unfold bv1
    cases b with
    | false => simp
    | true => simp [BitVec.getLsbD_one]
  rw [hb1]
  cases i with
  | zero =>
    have e : Nat.testBit ((if b then 1 else 0) + 2 * v) 0 = b := by
      rw [Nat.testBit_zero]
      cases b <;> simp <;> omega
    rw [e]
    simp
  | succ i =>
    have e : Nat.testBit ((if b then 1 else 0) + 2 * v) (i + 1) = Nat.testBit v i := by
      rw [Nat.testBit_succ]
      congr 1
      cases b <;> simp <;> omega
    rw [e]
    simp [hi, show i < 32 by omega]
theorem crcL_shl (v : Nat) (h : v < 2 ^ 31) : crcL (BitVec.ofNat 32 v <<< 1) = BitVec.ofNat 32 v := by
  unfold crcL
  rw [BitVec.getLsbD_shiftLeft]
  simp only [Nat.lt_add_one, decide_true, Bool.not_true, Bool.and_false, Bool.false_and, Bool.false_eq_true, if_false, BitVec.xor_zero]
  apply BitVec.eq_of_toNat_eq
  rw [BitVec.toNat_ushiftRight, BitVec.toNat_shiftLeft, BitVec.toNat_ofNat, Nat.shiftRight_eq_div_pow, Nat.shiftLeft_eq]
  omega
theorem crcBits_val : ∀ (l : List Bool) (s : BitVec 32), l.length ≤ 32 → crcBits s l = crcLn l.length (s ^^^ BitVec.ofNat 32 (bval l))
  | [], s, _ => by simp [crcBits, crcLn, bval]
  | b :: l, s, h => by
    have hl : l.length ≤ 31 := by simpa using h
    have hv : bval l < 2 ^ 31 := Nat.lt_of_lt_of_le (bval_lt l) (Nat.pow_le_pow_right (by omega) hl)
    have ih := crcBits_val l (crcBit s b) (by omega)
    rw [crcBits, List.foldl_cons]
    rw [crcBits] at ih
    rw [ih, List.length_cons, crcLn, bval, bv_cons, ← BitVec.xor_assoc, crcL_xor, crcL_shl _ hv]
    rfl
theorem crcBits_append (s : BitVec 32) (x y : List Bool) : crcBits s (x ++ y) = crcBits (crcBits s x) y := by simp [crcBits]
def byteBits (c : UInt8) : List Bool := (List.range 8).map fun i => c.toNat.testBit i
theorem byteBits_length (c : UInt8) : (byteBits c).length = 8 := by simp [byteBits]
theorem bval_byte (c : UInt8) : bval (byteBits c) = c.toNat := by
  have h : ∀ k : Fin 256, bval ((List.range 8).map fun i => k.val.testBit i) = k.val := by decide +kernel
  exact h ⟨c.toNat, c.toNat_lt⟩
def crcByte (s : BitVec 32) (c : UInt8) : BitVec 32 := crcBits s (byteBits c)
theorem crcByte_val (s : BitVec 32) (c : UInt8) : crcByte s c = crcLn 8 (s ^^^ BitVec.ofNat 32 c.toNat) := by
  unfold crcByte
  rw [crcBits_val _ _ (by rw [byteBits_length]; omega), bval_byte, byteBits_length]
def crcList (s : BitVec 32) (l : List UInt8) : BitVec 32 := l.foldl crcByte s
theorem crcList_append (s : BitVec 32) (x y : List UInt8) : crcList s (x ++ y) = crcList (crcList s x) y := by simp [crcList]

def crcRows : List Nat := [0x00000000, 0x1db71064, 0x3b6e20c8, 0x26d930ac, 0x76dc4190, 0x6b6b51f4, 0x4db26158, 0x5005713c,
  0xedb88320, 0xf00f9344, 0xd6d6a3e8, 0xcb61b38c, 0x9b64c2b0, 0x86d3d2d4, 0xa00ae278, 0xbdbdf21c]
def crcRow (k : Nat) : Nat := crcRows.getD k 0
theorem crcL_even {y : BitVec 32} (h : y.getLsbD 0 = false) : crcL y = y >>> 1 := by unfold crcL; rw [h]; simp
theorem crcLn_four_even (r : BitVec 32) : crcLn 4 ((r >>> 4) <<< 4) = r >>> 4 := by
  have e : ∀ k, k < 4 → ((r >>> 4) <<< 4).getLsbD k = false := by
    intro k hk
    rw [BitVec.getLsbD_shiftLeft]
    simp [hk]
  have e1 := e 1 (by omega)
  have e2 := e 2 (by omega)
  have e3 := e 3 (by omega)
  have f1 : ((r >>> 4) <<< 4 >>> 1).getLsbD 0 = false := by rw [BitVec.getLsbD_ushiftRight]; exact e1
  have f2 : ((r >>> 4) <<< 4 >>> 1 >>> 1).getLsbD 0 = false := by rw [BitVec.getLsbD_ushiftRight, BitVec.getLsbD_ushiftRight]; exact e2
  have f3 : ((r >>> 4) <<< 4 >>> 1 >>> 1 >>> 1).getLsbD 0 = false := by rw [BitVec.getLsbD_ushiftRight, BitVec.getLsbD_ushiftRight, BitVec.getLsbD_ushiftRight]; exact e3
  show crcL (crcL (crcL (crcL ((r >>> 4) <<< 4)))) = _
  rw [crcL_even (e 0 (by omega)), crcL_even f1, crcL_even f2, crcL_even f3]
  apply BitVec.eq_of_toNat_eq
  have := r.isLt
  simp only [BitVec.toNat_ushiftRight, BitVec.toNat_shiftLeft, Nat.shiftRight_eq_div_pow, Nat.shiftLeft_eq]
  omega
theorem crc_split (r : BitVec 32) : r = ((r >>> 4) <<< 4) ^^^ BitVec.ofNat 32 (r.toNat % 16) := by
  apply BitVec.eq_of_getLsbD_eq
  intro i hi
  rw [BitVec.getLsbD_xor, BitVec.getLsbD_shiftLeft, BitVec.getLsbD_ushiftRight, BitVec.getLsbD_ofNat, show r.toNat % 16 = r.toNat % 2 ^ 4 by rfl, Nat.testBit_mod_two_pow]
  by_cases h4 : i < 4
  · simp [h4, hi, BitVec.getLsbD]
  · simp [h4, hi, show 4 + (i - 4) = i by omega]
def crcHalf (r : BitVec 32) : BitVec 32 := (r >>> 4) ^^^ BitVec.ofNat 32 (crcRow (r.toNat % 16))
theorem crcHalf_eq (r : BitVec 32) : crcHalf r = crcLn 4 r := by
  have h : ∀ k : Fin 16, BitVec.ofNat 32 (crcRow k.val) = crcLn 4 (BitVec.ofNat 32 k.val) := by decide +kernel
  have hk := h ⟨r.toNat % 16, by omega⟩
  unfold crcHalf
  rw [hk, ← crcLn_four_even r, ← crcLn_xor, ← crc_split]
theorem crcLn_add : ∀ (m n : Nat) (r : BitVec 32), crcLn (m + n) r = crcLn n (crcLn m r)
  | 0, n, r => by rw [Nat.zero_add]; rfl
  | m + 1, n, r => by rw [show m + 1 + n = (m + n) + 1 by omega, crcLn, crcLn_add m n]; rfl
theorem crcByte_half (s : BitVec 32) (c : UInt8) : crcByte s c = crcHalf (crcHalf (s ^^^ BitVec.ofNat 32 c.toNat)) := by
  rw [crcByte_val, crcHalf_eq, crcHalf_eq, ← crcLn_add 4 4]
theorem crcRow_lt (k : Nat) : crcRow k < 4294967296 := by
  by_cases h : k < 16
  · have : ∀ i : Fin 16, crcRow i.val < 4294967296 := by decide
    exact this ⟨k, h⟩
  · unfold crcRow
    rw [List.getD_eq_getElem?_getD, List.getElem?_eq_none (by simp [crcRows]; omega)]
    decide

def crcOnes : BitVec 32 := 0xffffffff#32
def crcSum (l : List UInt8) : BitVec 32 := ~~~ (crcList crcOnes l)
def crcTail (s : BitVec 32) : List UInt8 := [UInt8.ofNat s.toNat, UInt8.ofNat (s.toNat / 256), UInt8.ofNat (s.toNat / 65536), UInt8.ofNat (s.toNat / 16777216)]
end Go.Proofs.YtplbcbamnjnhlaaGreatDoor
namespace Go.Proofs.YtplbcbamnjnhlaaGreatDoor
open Go.RowKit

theorem crc_el (k : Nat) (h : k < 16) : ([.int .u32 0, .int .u32 498536548, .int .u32 997073096, .int .u32 651767980, .int .u32 1994146192, .int .u32 1802195444, .int .u32 1303535960, .int .u32 1342533948, .int .u32 3988292384, .int .u32 4027552580, .int .u32 3604390888, .int .u32 3412177804, .int .u32 2607071920, .int .u32 2262029012, .int .u32 2685067896, .int .u32 3183342108] : List Value)[k]'h = .int .u32 (crcRow k : Nat) := by
  have hall : ∀ j : Fin 16, ([.int .u32 0, .int .u32 498536548, .int .u32 997073096, .int .u32 651767980, .int .u32 1994146192, .int .u32 1802195444, .int .u32 1303535960, .int .u32 1342533948, .int .u32 3988292384, .int .u32 4027552580, .int .u32 3604390888, .int .u32 3412177804, .int .u32 2607071920, .int .u32 2262029012, .int .u32 2685067896, .int .u32 3183342108] : List Value)[j.val]'j.isLt = Value.int .u32 (crcRow j.val : Nat) := by
    intro j
    match j with
    | ⟨0, _⟩ | ⟨1, _⟩ | ⟨2, _⟩ | ⟨3, _⟩ | ⟨4, _⟩ | ⟨5, _⟩ | ⟨6, _⟩ | ⟨7, _⟩ | ⟨8, _⟩ | ⟨9, _⟩ | ⟨10, _⟩ | ⟨11, _⟩ | ⟨12, _⟩ | ⟨13, _⟩ | ⟨14, _⟩ | ⟨15, _⟩ => rfl
    | ⟨n + 16, h⟩ => omega
  exact hall ⟨k, h⟩
theorem and15 (n : Nat) : n &&& 15 = n % 16 := by
  rw [show (15 : Nat) = 2 ^ 4 - 1 by decide, Nat.and_two_pow_sub_one_eq_mod]
set_option maxHeartbeats 400000 in
theorem half_any (r : BitVec 32) (w : World) :
    Calls Tryz.prog 141 #[.int .u32 (r.toNat : Nat)] w fun e w' => e = .returned (.int .u32 ((crcHalf r).toNat : Nat)) ∧ Below w.heap.size w w' := by
  have hr := r.isLt
  have hand : bits .and .u32 (r.toNat : Int) 15 = ((r.toNat % 16 : Nat) : Int) := by
    rw [show (15 : Int) = ((15 : Nat) : Int) by rfl, u32_and_nat _ _ hr (by omega), and15]
  have hel := crc_el (r.toNat % 16)
  have hlt : r.toNat % 16 < 16 := by omega
  have HX : Hid (bits .xor .u32 ((r.toNat : Int) / 16) (crcRow (r.toNat % 16) : Nat) = ((crcHalf r).toNat : Nat)) := by
    show _ = _
    have := crcRow_lt (r.toNat % 16)
    rw [show ((r.toNat : Int) / 16) = ((r.toNat / 16 : Nat) : Int) by omega, u32_xor_nat _ _ (by omega) this]
    unfold crcHalf
    rw [BitVec.toNat_xor, BitVec.toNat_ofNat, BitVec.toNat_ushiftRight, Nat.shiftRight_eq_div_pow, Nat.mod_eq_of_lt (a := crcRow _) this]
  go_enter Tryz.func141, Tryz.ntmps141
  go_wp2
  go_ret
  exact ⟨rt1 (vint HX.out), (Below.refl _ _).alloc (Nat.le_refl _) _⟩

theorem begin_crc (w : World) : Calls Tryz.prog 111 #[] w fun e w' => e = .returned (.int .u32 (crcOnes.toNat : Nat)) ∧ w = w' := by
  go_enter Tryz.func111, Tryz.ntmps111
  go_wp2
  go_ret
  exact ⟨rfl, rfl⟩
theorem end_crc (r : BitVec 32) (w : World) : Calls Tryz.prog 113 #[.int .u32 (r.toNat : Nat)] w fun e w' => e = .returned (.int .u32 ((~~~ r).toNat : Nat)) ∧ w = w' := by
  have hr := r.isLt
  go_enter Tryz.func113, Tryz.ntmps113
  go_wp2
  go_ret
  refine ⟨rt1 (vint ?_), rfl⟩
  rw [show IntKind.u32.max = ((4294967295 : Nat) : Int) by decide, u32_xor_nat _ _ (by omega) hr]
  have h : (BitVec.allOnes 32 ^^^ r) = ~~~ r := by rw [BitVec.allOnes_xor]
  have h2 := congrArg BitVec.toNat h
  rw [BitVec.toNat_xor] at h2
  rw [BitVec.toNat_not] at h2
  exact congrArg Nat.cast h2

theorem crcList_snoc (s : BitVec 32) (l : List UInt8) (k : Nat) (h : k < l.length) : crcList s (l.take (k + 1)) = crcHalf (crcHalf (crcList s (l.take k) ^^^ BitVec.ofNat 32 l[k].toNat)) := by
  rw [List.take_succ_eq_append_getElem h, crcList_append, ← crcByte_half]
  rfl
theorem xor_byte (s : BitVec 32) (c : UInt8) : bits .xor .u32 (s.toNat : Int) (c.toNat : Int) = ((s.toNat ^^^ c.toNat : Nat) : Int) := by
  have := c.toNat_lt
  rw [u32_xor_nat _ _ s.isLt (by omega)]
theorem xor_bv (s : BitVec 32) (c : UInt8) : s.toNat ^^^ c.toNat = (s ^^^ BitVec.ofNat 32 c.toNat).toNat := by
  have := c.toNat_lt
  rw [BitVec.toNat_xor, BitVec.toNat_ofNat, Nat.mod_eq_of_lt (by omega)]
set_option maxHeartbeats 400000 in
theorem step_crc (r : BitVec 32) (l : List UInt8) (A : Option Addr) (c B : Nat) (w : World) (hr : Rd w B A (bcells l)) (hB : B ≤ w.heap.size) (hl : l.length ≤ 1099511627776) :
    Calls Tryz.prog 112 #[.int .u32 (r.toNat : Nat), .slice A l.length c] w fun e w' => e = .returned (.int .u32 ((crcList r l).toNat : Nat)) ∧ Below w.heap.size w w' := by
  have HR := Lib.hid hr
  clear hr
  go_enter Tryz.func112, Tryz.ntmps112
  go_wp2
  go_loopw [0, 9] (fun v0 v9 wr => ∃ k : Nat, k ≤ l.length ∧ v9 = .int .i64 k ∧ v0 = .int .u32 ((crcList r (l.take k)).toNat : Nat) ∧ Below w.heap.size w wr) (fun _ i _ => l.length - (intOf i).toNat)
  case atStart => exact ⟨0, by omega, rfl, rfl, Below.refl _ _⟩
  case round =>
    obtain ⟨k, hk, rfl, rfl, hbr⟩ := hrel
    by_cases hlt : k < l.length
    · obtain ⟨ab, ao, rfl, hab, hcell⟩ := (HR.out.below (hbr.mono hB)).byte hlt
      have hs := Lib.hid (crcList_snoc r l k hlt)
      have hx := xor_byte (crcList r (l.take k)) l[k]
      have hb8 := l[k].toNat_lt
      go_wp2_with fail
      rw [xor_bv]
      refine (half_any _ _).mono ?_
      rintro e w1 ⟨rfl, h1⟩
      go_wp2_with fail
      refine (half_any _ _).mono ?_
      rintro e w2 ⟨rfl, h2⟩
      go_wp2
      go_roundw
      case rel => exact ⟨k + 1, by omega, by go_num, by rw [hs.out], (hbr.trans (h1.mono hbr.size)).trans (h2.mono (Nat.le_trans hbr.size h1.size))⟩
      case measure => simp [intOf]; omega
    · have hkl : k = l.length := by omega
      subst hkl
      go_wp2
      go_ret
      exact ⟨rt1 (vint (by rw [List.take_length])), hbr⟩

theorem crcSum_nat (l : List UInt8) : (crcSum l).toNat = 4294967295 - (crcList crcOnes l).toNat := by unfold crcSum; rw [BitVec.toNat_not]
theorem of_crc (g o cap : Nat) (l : List UInt8) (A : Option Addr) (c B : Nat) (w : World) (hg : w.cell? ⟨g, o, none⟩ = some (.slice A l.length c)) (hgB : g < B) (hr : Rd w B A (bcells l)) (hB : B ≤ w.heap.size) (hl : l.length ≤ 1099511627776) :
    Calls Tryz.prog 83 #[.slice (some ⟨g, o, none⟩) 1 cap] w fun e w' => e = .returned (.int .u32 ((crcSum l).toNat : Nat)) ∧ Below w.heap.size w w' := by
  have HR := Lib.hid hr
  have HG := Lib.hid hg
  clear hr hg
  go_enter Tryz.func83, Tryz.ntmps83
  go_wp2_with fail
  refine (begin_crc _).mono ?_
  rintro e w1 ⟨rfl, rfl⟩
  go_wp2_with fail
  go_loopw [3, 9] (fun v3 v9 wr => ∃ k : Nat, k ≤ 1 ∧ v9 = .int .i64 k ∧ v3 = .int .u32 ((crcList crcOnes (if k = 0 then [] else l)).toNat : Nat) ∧ Below w.heap.size w wr) (fun _ i _ => 1 - (intOf i).toNat)
  case atStart => exact ⟨0, by omega, rfl, rfl, Below.refl _ _⟩
  case round =>
    obtain ⟨k, hk, rfl, rfl, hbr⟩ := hrel
    by_cases hlt : k = 0
    · subst hlt
      have hc : wr.cell? ⟨g, o, none⟩ = some (.slice A l.length c) := (hbr.cell (p := ⟨g, o, none⟩) (by show g < _; omega)).trans HG.out
      go_wp2_with fail
      refine (step_crc crcOnes l A c B wr (HR.out.below (hbr.mono hB)) (Nat.le_trans hB hbr.size) hl).mono ?_
      rintro e w1 ⟨rfl, h1⟩
      go_wp2
      go_roundw
      case rel => exact ⟨1, by omega, rfl, rfl, hbr.trans (h1.mono hbr.size)⟩
      case measure => simp [intOf]
    · have hkl : k = 1 := by omega
      subst hkl
      go_wp2_with fail
      refine (end_crc _ _).mono ?_
      rintro e w1 ⟨rfl, rfl⟩
      go_wp2
      go_ret
      exact ⟨rt1 (vint (by rw [crcSum_nat])), hbr⟩

theorem crcBit_nat (s : BitVec 32) (b : Bool) : (crcBit s b).toNat = if s.toNat % 2 = b.toNat then s.toNat / 2 else s.toNat / 2 ^^^ 3988292384 := by
  have h1 : (s ^^^ bv1 b) >>> 1 = s >>> 1 := by
    apply BitVec.eq_of_getLsbD_eq
    intro i hi
    rw [BitVec.getLsbD_ushiftRight, BitVec.getLsbD_ushiftRight, BitVec.getLsbD_xor]
    have : (bv1 b).getLsbD (1 + i) = false := by cases b <;> simp [bv1, BitVec.getLsbD_one]
    rw [this, Bool.xor_false]
  have h2 : (s ^^^ bv1 b).getLsbD 0 = (s.getLsbD 0 != b) := by
    rw [BitVec.getLsbD_xor]
    cases b <;> simp [bv1]
  have h3 : s.getLsbD 0 = decide (s.toNat % 2 = 1) := by simp [BitVec.getLsbD, Nat.testBit_zero]
  unfold crcBit crcL
  rw [h1, h2, h3, BitVec.toNat_xor, BitVec.toNat_ushiftRight, Nat.shiftRight_eq_div_pow]
  rcases Nat.mod_two_eq_zero_or_one s.toNat with h | h <;> rw [h] <;> cases b <;> simp [crcPoly]
theorem byteBits_snoc (c : UInt8) (j : Nat) (h : j < 8) : (byteBits c).take (j + 1) = (byteBits c).take j ++ [c.toNat.testBit j] := by
  rw [List.take_succ_eq_append_getElem (by rw [byteBits_length]; exact h)]
  simp [byteBits]
theorem testBit_mod (n j : Nat) : (n.testBit j).toNat = n / 2 ^ j % 2 := by
  rw [Nat.testBit_eq_decide_div_mod_eq]
  rcases Nat.mod_two_eq_zero_or_one (n / 2 ^ j) with h | h <;> simp [h]
set_option maxHeartbeats 400000 in
theorem refStep_any (r : BitVec 32) (l : List UInt8) (A : Option Addr) (c B : Nat) (w : World) (hr : Rd w B A (bcells l)) (hl : l.length ≤ 1099511627776) :
    Calls Tryz.prog 128 #[.int .u32 (r.toNat : Nat), .slice A l.length c] w fun e w' => e = .returned (.int .u32 ((crcList r l).toNat : Nat)) ∧ w = w' := by
  have HR := Lib.hid hr
  clear hr
  go_enter Tryz.func128, Tryz.ntmps128
  go_wp2
  go_loop [0, 5] (fun v0 v5 => ∃ (k : Nat) (s : BitVec 32), k ≤ l.length ∧ v5 = .int .i64 k ∧ v0 = .int .u32 (s.toNat : Nat) ∧ Hid (s = crcList r (l.take k))) (fun _ i => l.length - (intOf i).toNat)
  case atStart => exact ⟨0, r, by omega, rfl, rfl, rfl⟩
  case round =>
    obtain ⟨k, s, hk, rfl, rfl, hs⟩ := hrel
    by_cases hlt : k < l.length
    · obtain ⟨ab, ao, rfl, hab, hcell⟩ := HR.out.byte hlt
      have hb8 := l[k].toNat_lt
      go_wp2
      go_loop [0, 6, 7] (fun v0 v6 v7 => ∃ (j x : Nat) (s' : BitVec 32), j ≤ 8 ∧ v7 = .int .i64 j ∧ x < 256 ∧ v6 = .int .u8 x ∧ Hid (x = l[k].toNat / 2 ^ j) ∧ v0 = .int .u32 (s'.toNat : Nat) ∧ Hid (s' = crcBits s ((byteBits l[k]).take j))) (fun _ _ i => 8 - (intOf i).toNat)
      case atStart => exact ⟨0, _, s, by omega, rfl, hb8, rfl, by show _ = _; simp, rfl, rfl⟩
      case round =>
        obtain ⟨j, x, s', hj, rfl, hx, rfl, hxe, rfl, hs'⟩ := hrel
        have hs32 := s'.isLt
        by_cases hj8 : j < 8
        · have HN := Lib.hid (show crcBits s ((byteBits l[k]).take (j + 1)) = crcBit s' (l[k].toNat.testBit j) by rw [byteBits_snoc _ _ hj8, crcBits_append, ← hs'.out]; rfl)
          have HB := Lib.hid (show (l[k].toNat.testBit j).toNat = x % 2 by rw [testBit_mod, hxe.out])
          have HX := Lib.hid (show bits .xor .u32 ((s'.toNat : Int) / 2) 3988292384 = ((s'.toNat / 2 ^^^ 3988292384 : Nat) : Int) by
            rw [show ((s'.toNat : Int) / 2) = ((s'.toNat / 2 : Nat) : Int) by omega]
            exact u32_xor_nat _ 3988292384 (by omega) (by omega))
          have HQ := Lib.hid (crcBit_nat s' (l[k].toNat.testBit j))
          by_cases hq : x % 2 = s'.toNat % 2
          · have hq1 : (((x : Int) % 2) != ((s'.toNat : Int) % 2)) = false := by simp; omega
            go_wp2
            go_round
            case rel =>
              refine ⟨j + 1, x / 2, crcBit s' (l[k].toNat.testBit j), by omega, by go_num, by omega, by rfl, ?_, ?_, HN.out.symm⟩
              · show _ = _
                rw [hxe.out, Nat.div_div_eq_div_mul, Nat.pow_succ]
              · exact vint (by rw [HQ.out, if_pos (by rw [HB.out]; omega)]; rfl)
            case measure => simp [intOf]; omega
          · have hq1 : (((x : Int) % 2) != ((s'.toNat : Int) % 2)) = true := by simp; omega
            go_wp2
            go_round
            case rel =>
              refine ⟨j + 1, x / 2, crcBit s' (l[k].toNat.testBit j), by omega, by go_num, by omega, by rfl, ?_, ?_, HN.out.symm⟩
              · show _ = _
                rw [hxe.out, Nat.div_div_eq_div_mul, Nat.pow_succ]
              · exact vint (by rw [HQ.out, if_neg (by rw [HB.out]; omega)]; exact HX.out)
            case measure => simp [intOf]; omega
        · have hj' : j = 8 := by omega
          subst hj'
          go_wp2
          go_round
          case rel =>
            refine ⟨k + 1, s', by omega, by go_num, rfl, ?_⟩
            show _ = _
            rw [hs'.out, hs.out, List.take_of_length_le (l := byteBits l[k]) (by rw [byteBits_length]; omega), List.take_succ_eq_append_getElem hlt, crcList_append]
            rfl
          case measure => simp [intOf]; omega
    · have hkl : k = l.length := by omega
      subst hkl
      go_wp2
      go_ret
      exact ⟨rt1 (vint (by rw [hs.out, List.take_length])), rfl⟩
theorem refSum_any (l : List UInt8) (A : Option Addr) (c B : Nat) (w : World) (hr : Rd w B A (bcells l)) (hl : l.length ≤ 1099511627776) :
    Calls Tryz.prog 100 #[.slice A l.length c] w fun e w' => e = .returned (.int .u32 ((crcSum l).toNat : Nat)) ∧ w = w' := by
  have HR := Lib.hid hr
  clear hr
  have h32 := (crcList crcOnes l).isLt
  have HN := Lib.hid (crcSum_nat l)
  go_enter Tryz.func100, Tryz.ntmps100
  go_wp2_with fail
  refine (refStep_any crcOnes l A c B w HR.out hl).mono ?_
  rintro e w1 ⟨rfl, rfl⟩
  go_wp2
  go_ret
  exact ⟨rt1 (vint (by rw [HN.out]; omega)), rfl⟩
theorem frame_tail (s : BitVec 32) (w : World) :
    Calls Tryz.prog 82 #[.int .u32 (s.toNat : Nat)] w fun e w' => e = .returned (.slice (some ⟨w.heap.size, 0, none⟩) 4 4) ∧ w' = w.alloc (.cells (bcells (crcTail s)).toArray 5) := by
  have hs := s.isLt
  have HT : Hid ((bcells (crcTail s)).toArray = #[.int .u8 ((s.toNat : Int) % 256), .int .u8 ((s.toNat : Int) / 256 % 256), .int .u8 ((s.toNat : Int) / 65536 % 256), .int .u8 ((s.toNat : Int) / 16777216)]) := by
    show _ = _
    simp only [bcells, crcTail, List.map_cons, List.map_nil, bcell, UInt8.toNat_ofNat']
    rw [show ((s.toNat / 16777216 % 2 ^ 8 : Nat) : Int) = (s.toNat : Int) / 16777216 by omega]
    congr
  go_enter Tryz.func82, Tryz.ntmps82
  go_wp2
  go_ret
  rw [HT.out]
  exact ⟨rfl, rfl⟩
end Go.Proofs.YtplbcbamnjnhlaaGreatDoor
namespace Go.Proofs.YtplbcbamnjnhlaaGreatDoor
open Go.RowKit

def frameBody (kind : UInt8) (load : List UInt8) : List UInt8 := kind :: (vForm load.length ++ load)
def frameSeal (kind : UInt8) (load : List UInt8) : List UInt8 := frameBody kind load ++ crcTail (crcSum (frameBody kind load))
theorem frameBody_length (kind : UInt8) (load : List UInt8) : (frameBody kind load).length = 1 + (vForm load.length).length + load.length := by simp [frameBody]; omega
theorem frameSeal_length (kind : UInt8) (load : List UInt8) : (frameSeal kind load).length = 5 + (vForm load.length).length + load.length := by simp [frameSeal, crcTail, frameBody_length]; omega
theorem vForm_len_le (v : Nat) (h : v < 1180591620717411303424) : (vForm v).length ≤ 10 := vForm_length v 9 (by simpa using h)

theorem own_of_row {w : World} {base g n : Nat} {l : List UInt8} (h : w.heap[g]? = some (.cells (bcells l).toArray 5 (0, 0))) (hb : base ≤ g) (hn : n = l.length) (hl : l.length ≤ 1099511627776) :
    w.ownsRow base 5 1 (.slice (some ⟨g, 0, none⟩) n n) n (bcells l) := by
  subst hn
  refine ⟨by simp [bcells_length], .inr ⟨g, l.length, _, rfl, hb, h, Nat.le_refl _, by simp only [maxLen]; omega, by simp [bcells_length], ?_⟩⟩
  simp only [Nat.mul_one]
  rw [List.take_of_length_le (by simp [bcells_length])]
theorem rd_of_bytes {w : World} {g B : Nat} {l : List UInt8} {t : TypeId} {fr : Nat × Nat} (h : w.heap[g]? = some (.cells (bcells l).toArray t fr)) (hg : g < B) : Rd w B (some ⟨g, 0, none⟩) (bcells l) := by
  have := Rd.row h hg
  simpa using this
theorem rd_alloc {w : World} {B B' : Nat} {A : Option Addr} {xs : List Value} (h : Rd w B A xs) (hB : B ≤ w.heap.size) (hB' : B ≤ B') (o : Obj) : Rd (w.alloc o) B' A xs :=
  (h.below ((Below.refl _ _).mono hB |>.alloc hB o)).more hB'
theorem cell_new (w : World) (v : Value) (t : TypeId) : (w.alloc (.cells #[v] t)).cell? ⟨w.heap.size, 0, none⟩ = some v := by
  rw [cell_of_row _ _ _ _ _ _ (Go.heap_alloc_new w _)]; rfl
theorem cell_new2 (w : World) (o : Obj) (v : Value) (t : TypeId) : ((w.alloc o).alloc (.cells #[v] t)).cell? ⟨w.heap.size + 1, 0, none⟩ = some v := by
  have h := cell_new (w.alloc o) v t
  rwa [World.size_alloc] at h
set_option maxRecDepth 100000 in
set_option maxHeartbeats 1000000 in
theorem seal_any (kind : UInt8) (load : List UInt8) (A : Option Addr) (c B : Nat) (w : World) (hr : Rd w B A (bcells load)) (hB : B ≤ w.heap.size) (hl : load.length ≤ 1048576) :
    Calls Tryz.prog 56 #[.int .u8 (kind.toNat : Nat), .slice A load.length c] w fun e w' => ∃ v, e = .returned (.tuple #[v, .int .i64 0]) ∧ w'.ownsRow w.heap.size 5 1 v (frameSeal kind load).length (bcells (frameSeal kind load)) ∧ Below w.heap.size w w' := by
  have HR := Lib.hid hr
  clear hr
  have hvl := vForm_len_le load.length (by omega)
  have hbl : (frameBody kind load).length ≤ 1048600 := by rw [frameBody_length]; omega
  have hsl : (frameSeal kind load).length ≤ 1048600 := by rw [frameSeal_length]; omega
  have hk8 := kind.toNat_lt
  go_enter Tryz.func56, Tryz.ntmps56
  go_wp2_with fail
  refine (write_any w).mono ?_
  rintro e w1 ⟨rfl, hw1, hb1, hs1⟩
  clear hs1
  have W1 := Lib.hid hw1
  have B1 : Hid (Below w.heap.size w w1) := hb1
  clear hw1 hb1
  have HRd1 := Lib.hid (HR.out.below (B1.out.mono hB))
  go_wp2_with fail
  refine (num_any w.heap.size 1 kind.toNat [] w1 W1.out (by omega) (by omega) (by omega) (by simp)).mono ?_
  rintro e w2 ⟨rfl, hw2, hk2⟩
  rw [beBytes_one _ (by omega), List.nil_append, UInt8.ofNat_toNat] at hw2
  have W2 := Lib.hid hw2
  have B2 := Lib.hid (B1.out.trans hk2.below)
  clear hw2 hk2
  go_wp2_with fail
  refine (put_any w.heap.size load.length [kind] w2 W2.out (by simp) (by omega)).mono ?_
  rintro e w3 ⟨rfl, hw3, hk3⟩
  have W3 := Lib.hid hw3
  have B3 := Lib.hid (B2.out.trans hk3.below)
  clear hw3 hk3
  go_wp2_with fail
  have hs3 := B3.out.size
  refine (raw_any w.heap.size w3.heap.size 0 1 ([kind] ++ vForm load.length) load A c B _ (W3.out.later ((Below.refl _ _).alloc (Nat.le_refl _) _)) (by rw [cell_of_row _ _ _ _ _ _ (Go.heap_alloc_new w3 _)]; rfl) ((HR.out.below (B3.out.mono hB)).below ((Below.refl _ _).alloc (by omega) _)) (by simp; omega) (by simp; omega) (by omega)).mono ?_
  rintro e w4 ⟨rfl, hw4, hk4⟩
  rw [List.append_assoc] at hw4
  have W4 : Hid (WrR w4 w.heap.size (frameBody kind load)) := Lib.hid hw4
  have B4 := Lib.hid ((B3.out.alloc hs3 _).trans hk4.below)
  clear hw4 hk4
  have hs4 := B4.out.size
  go_wp2_with fail
  refine (bytes_any w.heap.size (frameBody kind load) w4 W4.out (by omega)).mono ?_
  rintro e w5 ⟨rfl, hr5, hb5, hs5⟩
  have R5 := Lib.hid hr5
  have W5 := Lib.hid (W4.out.later hb5)
  have B5 := Lib.hid (B4.out.trans (hb5.mono hs4))
  have S5 := Lib.hid hs5
  have hlt5 : w4.heap.size < w5.heap.size := by omega
  clear hr5 hb5 hs5
  go_wp2_with fail
  have hs5' : w.heap.size ≤ w5.heap.size := by omega
  refine (of_crc w5.heap.size 0 1 (frameBody kind load) (some ⟨w4.heap.size, 0, none⟩) (frameBody kind load).length (w5.heap.size + 1) _ (cell_new _ _ _) (by omega) (rd_alloc (rd_of_bytes (B := w5.heap.size) R5.out (by omega)) (Nat.le_refl _) (by omega) _) (by simp) (by omega)).mono ?_
  rintro e w6 ⟨rfl, hb6⟩
  have B6 := Lib.hid ((B5.out.alloc hs5' _).trans (hb6.mono (by simp; omega)))
  have W6 := Lib.hid ((W5.out.later ((Below.refl _ _).alloc (Nat.le_refl _) _)).later hb6)
  clear hb6
  have hs6 := B6.out.size
  go_wp2_with fail
  refine (frame_tail _ w6).mono ?_
  rintro e w7 ⟨rfl, rfl⟩
  go_wp2_with fail
  refine (raw_any w.heap.size (w6.heap.size + 1) 0 1 (frameBody kind load) (crcTail (crcSum (frameBody kind load))) (some ⟨w6.heap.size, 0, none⟩) 4 (w6.heap.size + 1) _ ((W6.out.later ((Below.refl _ _).alloc (Nat.le_refl _) _)).later ((Below.refl _ _).alloc (Nat.le_refl _) _)) (cell_new2 _ _ _ _) (rd_alloc (rd_of_bytes (B := w6.heap.size + 1) (Go.heap_alloc_new w6 _) (by omega)) (by simp) (Nat.le_refl _) _) (by simp) (by omega) (by simp [crcTail])).mono ?_
  rintro e w8 ⟨rfl, hw8, hk8'⟩
  have W8 : Hid (WrR w8 w.heap.size (frameSeal kind load)) := Lib.hid hw8
  have B8 := Lib.hid (((B6.out.alloc hs6 _).alloc (by simp; omega) _).trans hk8'.below)
  clear hw8 hk8'
  have hs8 := B8.out.size
  go_wp2_with fail
  refine (bytes_any w.heap.size (frameSeal kind load) w8 W8.out (by omega)).mono ?_
  rintro e w9 ⟨rfl, hr9, hb9, hs9⟩
  have R9 := Lib.hid hr9
  have B9 := Lib.hid (B8.out.trans (hb9.mono hs8))
  clear hr9 hb9 hs9
  go_wp2
  go_ret2
  exact ⟨_, rfl, own_of_row R9.out hs8 rfl (by omega), B9.out⟩

set_option maxRecDepth 100000 in
set_option maxHeartbeats 1000000 in
theorem refSeal_any (kind : UInt8) (load : List UInt8) (A : Option Addr) (c B : Nat) (w : World) (hr : Rd w B A (bcells load)) (hB : B ≤ w.heap.size) (hl : load.length ≤ 1048576) :
    Calls Tryz.prog 68 #[.int .u8 (kind.toNat : Nat), .slice A load.length c] w fun e w' => ∃ v, e = .returned v ∧ w'.ownsRow w.heap.size 5 1 v (frameSeal kind load).length (bcells (frameSeal kind load)) ∧ Below w.heap.size w w' := by
  have HR := Lib.hid hr
  clear hr
  have hvl := vForm_len_le load.length (by omega)
  have hbl : (frameBody kind load).length ≤ 1048600 := by rw [frameBody_length]; omega
  have hsl : (frameSeal kind load).length ≤ 1048600 := by rw [frameSeal_length]; omega
  have hk8 := kind.toNat_lt
  go_enter Tryz.func68, Tryz.ntmps68
  go_wp2_with fail
  have own0 : (w.alloc (.cells #[.int .u8 (kind.toNat : Nat)] 5)).ownsRow w.heap.size 5 1 (.slice (some ⟨w.heap.size, 0, none⟩) 1 1) 1 (bcells [kind]) := own_of_row (l := [kind]) (Go.heap_alloc_new w _) (Nat.le_refl _) rfl (by simp)
  have OWN0 := Lib.hid own0
  clear own0
  have hb0 : Below w.heap.size w (w.alloc (.cells #[.int .u8 (kind.toNat : Nat)] 5)) := (Below.refl _ _).alloc (Nat.le_refl _) _
  have HR0 := Lib.hid (HR.out.below (hb0.mono hB))
  have B0 := Lib.hid hb0
  clear hb0
  refine (form_any load.length _ (by omega)).mono ?_
  rintro e w1 ⟨u, rfl, hu, hb1⟩
  obtain ⟨A1, c1, rfl, _, _⟩ := own_form hu
  have HU := Lib.hid hu
  have OWN1 := Lib.hid (own_below OWN0.out hb1)
  have B1 := Lib.hid (B0.out.trans (hb1.mono (by simp)))
  have hs1 : w.heap.size + 1 ≤ w1.heap.size := by have := hb1.size; simp at this; omega
  clear hu hb1
  go_wp2_with (at_builtin; refine wpList_app u8_ty rfl rfl rfl rfl OWN1.out (Rd.of_own HU.out) (by rw [bcells_length, Nat.mul_one]) (bcells_one _) ?h63 ?hby ?hbase ?_)
  case h63 => simp only [maxLen]; omega
  case hby => omega
  case hbase => omega
  intro v2 w2 hown2 hg2 _ _
  have B2 := Lib.hid (grown_below B1.out hg2 OWN1.out (Nat.le_refl _) (by omega))
  rw [← bcells_append] at hown2
  have OWN2 := Lib.hid hown2
  clear hown2 hg2
  have hs2 := B2.out.size
  obtain ⟨A2, c2, rfl, _, _⟩ := own_form OWN2.out
  go_wp2_with (at_builtin; refine wpList_app u8_ty rfl rfl rfl rfl OWN2.out (HR.out.below (B2.out.mono hB)) (by rw [bcells_length, Nat.mul_one]) (bcells_one _) ?h63 ?hby ?hbase ?_)
  case h63 => simp only [maxLen]; omega
  case hby => omega
  case hbase => omega
  intro v3 w3 hown3 hg3 _ _
  have B3 := Lib.hid (grown_below B2.out hg3 OWN2.out (Nat.le_refl _) (by omega))
  rw [← bcells_append] at hown3
  have hl3 : 1 + (vForm load.length).length + load.length = (frameBody kind load).length := by rw [frameBody_length]
  rw [hl3] at hown3
  have OWN3 : Hid (w3.ownsRow w.heap.size 5 1 v3 (frameBody kind load).length (bcells (frameBody kind load))) := Lib.hid hown3
  clear hown3 hg3 hl3
  have hs3 := B3.out.size
  obtain ⟨A3, c3, rfl, _, _⟩ := own_form OWN3.out
  go_wp2_with fail
  refine (refSum_any (frameBody kind load) A3 c3 w3.heap.size w3 (Rd.of_own OWN3.out) (by omega)).mono ?_
  rintro e w4 ⟨rfl, rfl⟩
  have hcs := (crcSum (frameBody kind load)).isLt
  generalize hsum : crcSum (frameBody kind load) = sum at hcs
  have HSUM := Lib.hid hsum
  clear hsum
  have HT : Hid ([Value.int .u8 ((sum.toNat : Int) % 256), .int .u8 ((sum.toNat : Int) / 256 % 256), .int .u8 ((sum.toNat : Int) / 65536 % 256), .int .u8 ((sum.toNat : Int) / 16777216)] = bcells (crcTail sum)) := by
    show _ = _
    simp only [bcells, crcTail, List.map_cons, List.map_nil, bcell, UInt8.toNat_ofNat']
    rw [show ((sum.toNat / 16777216 % 2 ^ 8 : Nat) : Int) = (sum.toNat : Int) / 16777216 by omega]
    congr
  go_wp2_with (at_builtin; refine wpList_app u8_ty rfl rfl rfl rfl (OWN3.out.alloc _) (Rd.row (B := w3.heap.size + 1) (Go.heap_alloc_new w3 _) (by omega)) rfl (by simp [Value.oneCell']) ?h63 ?hby ?hbase ?_)
  case h63 => simp only [maxLen]; omega
  case hby => omega
  case hbase => simp; omega
  intro v5 w5 hown5 hg5 _ _
  have B5 := Lib.hid (grown_below (B3.out.alloc hs3 _) hg5 (OWN3.out.alloc _) (Nat.le_refl _) (by simp; omega))
  have HO5 := Lib.hid hown5
  clear hown5 hg5
  go_wp2
  go_ret
  refine ⟨v5, rfl, ?_, B5.out⟩
  have h5 := HO5.out
  rw [HT.out, ← bcells_append] at h5
  have e : frameBody kind load ++ crcTail sum = frameSeal kind load := by unfold frameSeal; rw [HSUM.out]
  have e2 : (frameBody kind load).length + 4 = (frameSeal kind load).length := by rw [← e]; simp [crcTail]
  rw [e, e2] at h5
  exact h5
end Go.Proofs.YtplbcbamnjnhlaaGreatDoor
namespace Go.Proofs.YtplbcbamnjnhlaaGreatDoor
open Go.RowKit

def assoc {α : Type} [DecidableEq α] (l : List (α × Value)) (k : α) : Option Value := (l.find? fun p => decide (p.1 = k)).map (·.2)
def assocSet {α : Type} [DecidableEq α] : List (α × Value) → α → Value → List (α × Value)
  | [], k, v => [(k, v)]
  | p :: r, k, v => if p.1 = k then (k, v) :: r else p :: assocSet r k v
def MapR {α : Type} (κ : α → Value) (w : World) (g : Nat) (l : List (α × Value)) : Prop :=
  ∃ (es : Array MapEntry) (clock : Nat), w.heap[g]? = some (.map es clock) ∧ es.toList.map (fun e => (e.key, e.val)) = l.map (fun p => (κ p.1, p.2))
structure KeyTy {α : Type} [DecidableEq α] (P : Program) (mt kt et : TypeId) (κ : α → Value) : Prop where
  und : P.underlying mt = some (.map kt et)
  check : ∀ (b : Bool) (a : α) (w : World), (Instr.checkKey b 10000 kt (κ a)).run P w = .ok () w
  find : ∀ (k : α) (l : List (α × Value)) (es : List MapEntry) (w : World), es.map (fun e => (e.key, e.val)) = l.map (fun p => (κ p.1, p.2)) →
    (Instr.findKey kt (κ k) es).run P w = .ok ((l.findIdx? fun p => decide (p.1 = k)).bind fun i => (l[i]?).map fun p => (i, p.2)) w
  stays : ∀ a : α, Instr.sameBits 10000 (κ a) (κ a) = true

section
variable {α : Type} {κ : α → Value} {w : World} {g : Nat} {l : List (α × Value)}
theorem MapR.made (w : World) : MapR κ (w.alloc (.map #[] 0)) w.heap.size [] := ⟨#[], 0, heap_alloc_new w _, rfl⟩
theorem MapR.lt (h : MapR κ w g l) : g < w.heap.size := by
  obtain ⟨es, c, hh, _⟩ := h
  exact (Array.getElem?_eq_some_iff.1 hh).1
theorem MapR.of_block {w' : World} (h : MapR κ w g l) (hb : w'.heap[g]? = w.heap[g]?) : MapR κ w' g l := by
  obtain ⟨es, c, hh, he⟩ := h
  exact ⟨es, c, hb.trans hh, he⟩
theorem MapR.below {B : Nat} {w' : World} (h : MapR κ w g l) (hb : Below B w w') (hg : g < B) : MapR κ w' g l := h.of_block (hb.block g hg)
theorem MapR.drew (h : MapR κ w g l) : MapR κ w.drew g l := h
theorem MapR.alloc (h : MapR κ w g l) (o : Obj) : MapR κ (w.alloc o) g l := h.of_block (Below.heap_alloc w o g h.lt)
theorem MapR.grown {row : Option Nat} {w' : World} (h : MapR κ w g l) (hg : w.grownBy w' row) (hne : some g ≠ row) : MapR κ w' g l := h.of_block (hg.block g h.lt hne)
theorem MapR.setCell {p : Addr} {v : Value} (h : MapR κ w g l) (hp : g ≠ p.block) : MapR κ (w.setCell p v) g l := h.of_block (Below.heap_setCell w p v g hp)

end
section
variable {α : Type} [DecidableEq α] {P : Program} {mt kt et : TypeId} {κ : α → Value} {w : World} {g : Nat} {l : List (α × Value)}
theorem assoc_idx : ∀ (l : List (α × Value)) (k : α), ((l.findIdx? fun p => decide (p.1 = k)).bind fun i => (l[i]?).map fun p => (i, p.2)).map (·.2) = assoc l k
  | [], k => rfl
  | p :: r, k => by
    have ih := assoc_idx r k
    unfold assoc at ih ⊢
    rw [List.findIdx?_cons, List.find?_cons]
    by_cases hp : p.1 = k
    · simp [hp]
    · simp only [hp, decide_false, Bool.false_eq_true, if_false]
      rw [← ih]
      cases hf : r.findIdx? fun p => decide (p.1 = k) with
      | none => simp
      | some i => simp [Option.map_map, Function.comp_def]

theorem MapR.lookup (K : KeyTy P mt kt et κ) (h : MapR κ w g l) {z : Value} (hz : ∀ w : World, (zeroValue et).run P w = .ok z w) (k : α) :
    (Instr.lookup mt (.map (some g)) (κ k) false).run P w = .ok ((assoc l k).getD z) w := by
  obtain ⟨es, c, hh, he⟩ := h
  have hf := K.find k l es.toList w he
  have ha := assoc_idx l k
  cases hx : ((l.findIdx? fun p => decide (p.1 = k)).bind fun i => (l[i]?).map fun p => (i, p.2)) with
  | none =>
    rw [hx] at hf ha
    rw [← ha]
    simp [Instr.lookup, run_underlying K.und, getObj, Sem.run, hh, K.check, hf, hz, Sem.run_bind, Result.andThen]
  | some r =>
    rw [hx] at hf ha
    rw [← ha]
    simp [Instr.lookup, run_underlying K.und, getObj, Sem.run, hh, K.check, hf, Sem.run_bind, Result.andThen]
theorem MapR.lookup_ok (K : KeyTy P mt kt et κ) (h : MapR κ w g l) {z : Value} (hz : ∀ w : World, (zeroValue et).run P w = .ok z w) (k : α) :
    (Instr.lookup mt (.map (some g)) (κ k) true).run P w = .ok (.tuple #[(assoc l k).getD z, .bool (assoc l k).isSome]) w := by
  obtain ⟨es, c, hh, he⟩ := h
  have hf := K.find k l es.toList w he
  have ha := assoc_idx l k
  cases hx : ((l.findIdx? fun p => decide (p.1 = k)).bind fun i => (l[i]?).map fun p => (i, p.2)) with
  | none =>
    rw [hx] at hf ha
    rw [← ha]
    simp [Instr.lookup, run_underlying K.und, getObj, Sem.run, hh, K.check, hf, hz, Sem.run_bind, Result.andThen]
  | some r =>
    rw [hx] at hf ha
    rw [← ha]
    simp [Instr.lookup, run_underlying K.und, getObj, Sem.run, hh, K.check, hf, Sem.run_bind, Result.andThen]

theorem assocSet_idx : ∀ (l : List (α × Value)) (k : α) (v : Value), assocSet l k v = match l.findIdx? fun p => decide (p.1 = k) with
    | some i => l.set i (k, v)
    | none => l ++ [(k, v)]
  | [], k, v => rfl
  | p :: r, k, v => by
    have ih := assocSet_idx r k v
    unfold assocSet
    rw [List.findIdx?_cons]
    by_cases hp : p.1 = k
    · simp [hp]
    · simp only [hp, decide_false, Bool.false_eq_true, if_false]
      rw [ih]
      cases hf : r.findIdx? fun p => decide (p.1 = k) with
      | none => simp
      | some i => simp
theorem MapR.update (K : KeyTy P mt kt et κ) (h : MapR κ w g l) (k : α) (v : Value) :
    ∃ w', (Instr.mapUpdate mt (.map (some g)) (κ k) v).run P w = .ok () w' ∧ MapR κ w' g (assocSet l k v) ∧ w.grownBy w' (some g) ∧ w'.heap.size = w.heap.size := by
  obtain ⟨es, c, hh, he⟩ := h
  have hf := K.find k l es.toList w he
  have hgrow : ∀ o : Obj, w.grownBy { w with heap := w.heap.setIfInBounds g o } (some g) := fun o => ⟨rfl, rfl, rfl, by simp, fun k' _ hne => by
    have : g ≠ k' := fun e => hne (by rw [e])
    simp [Array.getElem?_setIfInBounds_ne this]⟩
  have hlt : g < w.heap.size := (Array.getElem?_eq_some_iff.1 hh).1
  rw [assocSet_idx]
  cases hi : l.findIdx? fun p => decide (p.1 = k) with
  | none =>
    rw [hi] at hf
    simp only [Option.bind_none] at hf
    refine ⟨{ w with heap := w.heap.setIfInBounds g (.map (es.push { key := κ k, val := v, born := c }) (c + 1)) }, ?_, ⟨es.push { key := κ k, val := v, born := c }, c + 1, by simp [hlt], ?_⟩, hgrow _, by simp⟩
    · simp [Instr.mapUpdate, run_underlying K.und, getObj, Sem.run, hh, K.check, hf, setObj, Result.andThen]
    · simp [he]
  | some i =>
    have hil : i < l.length := by
      rw [List.findIdx?_eq_some_iff_getElem] at hi
      exact hi.1
    have hik : l[i].1 = k := by
      rw [List.findIdx?_eq_some_iff_getElem] at hi
      simpa using hi.2.1
    have hsz : es.size = l.length := by
      have := congrArg List.length he
      simpa using this
    have hie : i < es.size := by omega
    have hei : (es[i]).key = κ k := by
      have := congrArg (fun q => q[i]?) he
      simp [hil, hie] at this
      rw [this.1, hik]
    rw [hi] at hf
    simp only [Option.bind_some, List.getElem?_eq_getElem hil, Option.map_some] at hf
    refine ⟨{ w with heap := w.heap.setIfInBounds g (.map (es.modify i fun e => { e with key := κ k, val := v }) c) }, ?_, ⟨es.modify i fun e => { e with key := κ k, val := v }, c, by simp [hlt], ?_⟩, hgrow _, by simp⟩
    · simp [Instr.mapUpdate, run_underlying K.und, getObj, Sem.run, hh, K.check, hf, setObj, Result.andThen, Instr.keyThatStays, hei, hie, K.stays]
    · apply List.ext_getElem?
      intro j
      have hj := congrArg (fun q => q[j]?) he
      simp only [List.getElem?_map, Array.getElem?_toList] at hj ⊢
      rw [Array.getElem?_modify, List.getElem?_set]
      by_cases hji : i = j
      · subst hji
        simp [hil, hie]
      · rw [if_neg hji, if_neg hji]
        exact hj
end

theorem findNow_spec {α : Type} [DecidableEq α] {κ : α → Value} {d : TypeDesc} (hs : ∀ a b : α, Instr.sameNow d (κ a) (κ b) = some (decide (b = a))) (k : α) : ∀ (l : List (α × Value)) (es : List MapEntry) (n : Nat), es.map (fun e => (e.key, e.val)) = l.map (fun p => (κ p.1, p.2)) →
    Instr.findNow d (κ k) es n = some ((l.findIdx? fun p => decide (p.1 = k)).bind fun i => (l[i]?).map fun p => (n + i, p.2))
  | [], [], n, _ => rfl
  | [], e :: es, n, h => by simp at h
  | p :: r, [], n, h => by simp at h
  | p :: r, e :: es, n, h => by
    simp only [List.map_cons, List.cons.injEq, Prod.mk.injEq] at h
    unfold Instr.findNow
    rw [h.1.1, hs, List.findIdx?_cons]
    by_cases hp : p.1 = k
    · simp [hp, h.1.2]
    · simp only [hp, decide_false, Bool.false_eq_true, if_false]
      rw [findNow_spec hs k r es (n + 1) h.2]
      cases hf : r.findIdx? fun p => decide (p.1 = k) with
      | none => simp
      | some i => simp [Nat.add_assoc, Nat.add_comm 1 i]
theorem beq_swap {α : Type} [DecidableEq α] [BEq α] [LawfulBEq α] (a b : α) : (a == b) = decide (b = a) := by
  by_cases e : a = b
  · subst e; simp
  · rw [beq_eq_false_iff_ne.2 e, decide_eq_false fun h => e h.symm]
theorem bytes_beq (a b : ByteArray) : (a == b) = decide (b = a) := by
  obtain ⟨x⟩ := a
  obtain ⟨y⟩ := b
  have h : ((⟨x⟩ : ByteArray) == ⟨y⟩) = (x == y) := rfl
  rw [h]
  by_cases e : x = y
  · subst e; simp
  · rw [beq_eq_false_iff_ne.2 e, decide_eq_false fun h => e (by injection h with h; exact h.symm)]
theorem keyTy_int {P : Program} {mt kt et : TypeId} {q : IntKind} (h1 : P.underlying mt = some (.map kt et)) (h2 : P.underlying kt = some (.int q)) : KeyTy P mt kt et (Value.int q) where
  und := h1
  check := fun b a w => by
    show (Instr.checkKey b (9999 + 1) kt (.int q a)).run P w = _
    unfold Instr.checkKey
    simp only [Sem.run_bind, run_underlying h2, Result.andThen, Sem.run_pure]
  find := fun k l es w h => by
    unfold Instr.findKey
    have := findNow_spec (κ := Value.int q) (d := .int q) (fun a b : Int => (if_pos rfl).trans (congrArg some (beq_swap a b))) k l es 0 h
    simp only [Sem.run_bind, run_underlying h2, Result.andThen, this, Nat.zero_add, Sem.run_pure]
  stays := fun a => by
    rw [show (10000 : Nat) = 9999 + 1 from rfl]
    simp [Instr.sameBits]
end Go.Proofs.YtplbcbamnjnhlaaGreatDoor
