/- Texts of this proof joined: Varint2, CrcMath, Crc, Frame. -/
import Derived.Test.YtplbcbamnjnhlaaGreatDoorMT00
import Derived.Test.YtplbcbamnjnhlaaGreatDoorMT06
import Derived.WalkKit
import Derived.Test.YtplbcbamnjnhlaaGreatDoorChecked
import Derived.Test.YtplbcbamnjnhlaaGreatDoorMT04
import Derived.Laws.BitsAllLaws
import Derived.Outline
set_option maxRecDepth 100000
set_option maxHeartbeats 40000000
namespace Go.Proofs.YtplbcbamnjnhlaaGreatDoor
open Go.RowKit

theorem pow_any (i : Nat) (w : World) (hi : i ≤ 9) :
  Calls Tryz.prog 154 #[.int .i64 i] w fun e w' => e = .returned (.int .u64 (128 ^ i : Nat)) ∧ w = w' := by
 go_enter Tryz.func154, Tryz.ntmps154
 go_wp2_with fail
 go_loop [3, 4] (fun v3 v4 => ∃ j p : Nat, j ≤ i ∧ v4 = .int .i64 j ∧ v3 = .int .u64 p ∧ Hid (p = 128 ^ j)) (fun _ v4 => i - (intOf v4).toNat)
 case atStart => exact ⟨0, 1, by omega, rfl, rfl, rfl⟩
 case round =>
  obtain ⟨j, p, hj, rfl, rfl, hp⟩ := hrel
  by_cases hlt : j < i
  ·have hp2 : p * 128 ≤ 9223372036854775808 := by
    rw [hp.o, ← Nat.pow_succ]
    have : (128 : Nat) ^ (j + 1) ≤ 128 ^ 9 := Nat.pow_le_pow_right (by omega) (by omega)
    have e9 : (128 : Nat) ^ 9 = 9223372036854775808 := by decide
    show 128 ^ (j + 1) ≤ _
    omega
   go_wp2
   go_round
   case rel =>
    refine ⟨j + 1, p * 128, by omega, by go_num, by first | rfl | go_num, ?_⟩
    show _ = _
    rw [hp.o, Nat.pow_succ]
   case measure => simp [intOf]; omega
  ·have hji : j = i := by omega
   subst hji
   go_wp2
   go_ret
   exact ⟨rt1 (vint (by rw [hp.o]; simp)), rfl⟩
theorem wrap_var (V x k : Nat) (h : V + x % 128 * 128 ^ k < 18446744073709551616) : IntKind.u64.wrap ((V : Int) + IntKind.u64.wrap ((x : Int) % 128 * 128 ^ k)) = ((V + x % 128 * 128 ^ k : Nat) : Int) := by
 have e : ((x : Int) % 128 * 128 ^ k) = ((x % 128 * 128 ^ k : Nat) : Int) := by simp
 rw [e, IntKind.wrap_u64, IntKind.wrap_u64, Int.emod_eq_of_lt (b := 18446744073709551616) (by omega) (by omega), Int.emod_eq_of_lt (by omega) (by omega)]
 omega
def qft (r : Option (Nat × Nat)) : Value := match r with | some (v, k) => .tuple #[.int .u64 (v : Nat), .int .i64 (k : Nat)] | none => .tuple #[.int .u64 0, .int .i64 0]
theorem qhb (l : List UInt8) (A : Option Addr) (c B : Nat) (w : World) (hr : Rd w B A (ak l)) (hl : l.length ≤ 1099511627776) :
  Calls Tryz.prog 127 #[.slice A l.length c] w fun e w' => e = .returned (qft (gp l 0 0)) ∧ w = w' := by
 have HR := Lh hr
 clear hr
 go_enter Tryz.func127, Tryz.ntmps127
 go_wp2_with fail
 go_loop [4, 5] (fun v4 v5 => ∃ k V : Nat, k ≤ 10 ∧ k ≤ l.length ∧ v5 = .int .i64 k ∧ v4 = .int .u64 V ∧ Hid (V < 128 ^ k) ∧ Hid (gp (l.drop k) k V = gp l 0 0)) (fun _ v5 => 10 - (intOf v5).toNat)
 case atStart => exact ⟨0, 0, by omega, by omega, rfl, rfl, by show _ < _; simp, rfl⟩
 case round =>
  obtain ⟨k, V, hk, hkl, rfl, rfl, hV, HF⟩ := hrel
  by_cases hend : k = 10 ∨ k = l.length
  ·have HN := Lh (show gp l 0 0 = none by
    rw [← HF.o]
    rcases hend with h | h
    ·subst h; rw [qhj]
    ·rw [List.drop_eq_nil_of_le (by omega)]; rfl)
   rcases Nat.lt_or_ge k l.length with h1 | h1
   ·have h2 : ¬ k < 10 := by omega
    go_wp2
    go_ret2
    exact ⟨by rw [HN.o]; rfl, rfl⟩
   ·have h2 : ¬ k < l.length := by omega
    go_wp2
    go_ret2
    exact ⟨by rw [HN.o]; rfl, rfl⟩
  ·have hk9 : k ≤ 9 := by omega
   have hlt : k < l.length := by omega
   clear hend hk
   obtain ⟨ab, ao, rfl, hab, hcell⟩ := HR.o.byte hlt
   have HS := Lh (qea l k k V hlt)
   obtain ⟨x, hx⟩ : ∃ x, x = l[k].toNat := ⟨_, rfl⟩
   rw [← hx] at HS hcell
   have hx8 : x < 256 := by rw [hx]; exact l[k].toNat_lt
   clear hx
   by_cases hbad : (k = 9 ∧ 1 < x) ∨ (0 < k ∧ x = 0)
   ·have HN := Lh (show gp l 0 0 = none by rw [← HF.o, HS.o, if_neg (by omega), if_pos hbad])
    have HB := Lh hbad
    clear hbad
    rcases Bool.eq_false_or_eq_true (((k : Nat) : Int) == 9) with b9 | b9 <;> rcases Bool.eq_false_or_eq_true (decide ((1 : Int) < (x : Nat))) with c1 | c1 <;>
     rcases Bool.eq_false_or_eq_true (decide (0 < k)) with b0 | b0 <;> rcases Bool.eq_false_or_eq_true (((x : Nat) : Int) == 0) with c0 | c0
    all_goals try (exfalso; have hb := HB.o; clear HS HF HN HR hV hcell; simp only [beq_iff_eq, beq_eq_false_iff_ne, decide_eq_true_eq, decide_eq_false_iff_not, ne_eq] at b9 c1 b0 c0; omega)
    all_goals
     go_wp2
     go_ret2
     exact ⟨by rw [HN.o]; rfl, rfl⟩
   ·obtain ⟨_, hv1, hv2⟩ := or_var V x k hV.o hx8 hk9 hbad
    have HB := Lh hbad
    have HX := Lh (wrap_var V x k hv2)
    have HV1 := Lh hv1
    clear hbad hv1 hv2
    rcases Bool.eq_false_or_eq_true (decide ((x : Int) < 128)) with c2 | c2 <;> rcases Bool.eq_false_or_eq_true (((k : Nat) : Int) == 9) with b9 | b9 <;> rcases Bool.eq_false_or_eq_true (decide ((1 : Int) < (x : Nat))) with c1 | c1 <;>
     rcases Bool.eq_false_or_eq_true (decide (0 < k)) with b0 | b0 <;> rcases Bool.eq_false_or_eq_true (((x : Nat) : Int) == 0) with c0 | c0
    all_goals try (exfalso; have hb := HB.o; clear HS HF HR hV hcell HX HV1; simp only [beq_iff_eq, beq_eq_false_iff_ne, decide_eq_true_eq, decide_eq_false_iff_not, ne_eq] at b9 c1 b0 c0 c2; omega)
    all_goals
     go_wp2_with fail
     refine (pow_any k w hk9).mono ?_
     rintro e w1 ⟨rfl, rfl⟩
     go_wp2
     first
     |(go_ret2
       refine ⟨?_, rfl⟩
       have h1 : x < 128 := by have := of_decide_eq_true c2; omega
       have hN : gp l 0 0 = some (V + x % 128 * 128 ^ k, k + 1) := by rw [← HF.o, HS.o, if_neg (by omega), if_neg HB.o, if_pos h1, Nat.mod_eq_of_lt h1]
       rw [hN]
       exact rt2 (vint HX.o) (by go_num))
     |(go_round
       case rel =>
        have h1 : ¬ x < 128 := by have := of_decide_eq_false c2; omega
        have hk : k ≠ 9 := by have := beq_eq_false_iff_ne.1 b9; omega
        refine ⟨k + 1, V + x % 128 * 128 ^ k, by omega, by omega, by go_num, vint HX.o, HV1.o, ?_⟩
        show _ = _
        rw [← HF.o, HS.o, if_neg (by omega), if_neg HB.o, if_neg h1]
       case measure => simp [intOf]; omega)
end Go.Proofs.YtplbcbamnjnhlaaGreatDoor
namespace Go.Proofs.YtplbcbamnjnhlaaGreatDoor

def qrs : BitVec 32 := 0xedb88320#32
def crcL (r : BitVec 32) : BitVec 32 := (r >>> 1) ^^^ (if r.getLsbD 0 then qrs else 0#32)
def bv1 (b : Bool) : BitVec 32 := if b then 1#32 else 0#32
def zh (s : BitVec 32) (b : Bool) : BitVec 32 := crcL (s ^^^ bv1 b)
def nu (s : BitVec 32) (l : List Bool) : BitVec 32 := l.foldl zh s
def po : Nat → BitVec 32 → BitVec 32
 |0, r => r
 |n + 1, r => po n (crcL r)

theorem xor4 (a b c d : BitVec 32) : (a ^^^ b) ^^^ (c ^^^ d) = (a ^^^ c) ^^^ (b ^^^ d) := by
 rw [BitVec.xor_assoc, BitVec.xor_assoc]
 congr 1
 rw [← BitVec.xor_assoc, ← BitVec.xor_assoc, BitVec.xor_comm b c]
theorem qms (x y : BitVec 32) : crcL (x ^^^ y) = crcL x ^^^ crcL y := by
 unfold crcL
 rw [BitVec.getLsbD_xor, BitVec.ushiftRight_xor_distrib, xor4]
 congr 1
 cases x.getLsbD 0 <;> cases y.getLsbD 0 <;> simp
theorem qip : ∀ (n : Nat) (x y : BitVec 32), po n (x ^^^ y) = po n x ^^^ po n y
 |0, _, _ => rfl
 |n + 1, x, y => by rw [po, qms, qip n]; rfl
def bval : List Bool → Nat
 |[] => 0
 |b :: l => (if b then 1 else 0) + 2 * bval l
theorem qrt : ∀ l : List Bool, bval l < 2 ^ l.length
 |[] => by simp [bval]
 |b :: l => by
  have := qrt l
  rw [bval, List.length_cons, Nat.pow_succ]
  cases b <;> simp <;> omega
theorem bv_cons (b : Bool) (v : Nat) : BitVec.ofNat 32 ((if b then 1 else 0) + 2 * v) = bv1 b ^^^ (BitVec.ofNat 32 v <<< 1) := by
 apply BitVec.eq_of_getLsbD_eq
 intro i hi
 rw [BitVec.getLsbD_xor, BitVec.getLsbD_ofNat, BitVec.getLsbD_shiftLeft, BitVec.getLsbD_ofNat]
 have hb1 : (bv1 b).getLsbD i = (decide (i = 0) && b) := by
  unfold bv1
  cases b with
  |false => simp
  |true => simp [BitVec.getLsbD_one]
 rw [hb1]
 cases i with
 |zero =>
  have e : Nat.testBit ((if b then 1 else 0) + 2 * v) 0 = b := by
   rw [Nat.testBit_zero]
   cases b <;> simp <;> omega
  rw [e]
  simp
 |succ i =>
  have e : Nat.testBit ((if b then 1 else 0) + 2 * v) (i + 1) = Nat.testBit v i := by
   rw [Nat.testBit_succ]
   congr 1
   cases b <;> simp <;> omega
  rw [e]
  simp [hi, show i < 32 by omega]
theorem crcL_shl (v : Nat) (h : v < 2 ^ 31) : crcL (BitVec.ofNat 32 v <<< 1) = BitVec.ofNat 32 v := by
 unfold crcL
 rw [BitVec.getLsbD_shiftLeft]
 simp only [Nat.lt_add_one, decide_true, Bool.not_true, Bool.and_false, Bool.false_and, Bool.false_eq_true, if_false, BitVec.xor_zero]
 apply BitVec.eq_of_toNat_eq
 rw [BitVec.toNat_ushiftRight, BitVec.toNat_shiftLeft, BitVec.toNat_ofNat, Nat.shiftRight_eq_div_pow, Nat.shiftLeft_eq]
 omega
theorem qcv : ∀ (l : List Bool) (s : BitVec 32), l.length ≤ 32 → nu s l = po l.length (s ^^^ BitVec.ofNat 32 (bval l))
 |[], s, _ => by simp [nu, po, bval]
 |b :: l, s, h => by
  have hl : l.length ≤ 31 := by simpa using h
  have hv : bval l < 2 ^ 31 := Nat.lt_of_lt_of_le (qrt l) (Nat.pow_le_pow_right (by omega) hl)
  have ih := qcv l (zh s b) (by omega)
  rw [nu, List.foldl_cons]
  rw [nu] at ih
  rw [ih, List.length_cons, po, bval, bv_cons, ← BitVec.xor_assoc, qms, crcL_shl _ hv]
  rfl
theorem qgi (s : BitVec 32) (x y : List Bool) : nu s (x ++ y) = nu (nu s x) y := by simp [nu]
def mi (c : UInt8) : List Bool := (List.range 8).map fun i => c.toNat.testBit i
theorem mo (c : UInt8) : (mi c).length = 8 := by simp [mi]
theorem quk (c : UInt8) : bval (mi c) = c.toNat := by
 have h : ∀ k : Fin 256, bval ((List.range 8).map fun i => k.val.testBit i) = k.val := by decide +kernel
 exact h ⟨c.toNat, c.toNat_lt⟩
def qdt (s : BitVec 32) (c : UInt8) : BitVec 32 := nu s (mi c)
theorem qmt (s : BitVec 32) (c : UInt8) : qdt s c = po 8 (s ^^^ BitVec.ofNat 32 c.toNat) := by
 unfold qdt
 rw [qcv _ _ (by rw [mo]; omega), quk, mo]
def ko (s : BitVec 32) (l : List UInt8) : BitVec 32 := l.foldl qdt s
theorem wy (s : BitVec 32) (x y : List UInt8) : ko s (x ++ y) = ko (ko s x) y := by simp [ko]

def qrr : List Nat := [0x00000000, 0x1db71064, 0x3b6e20c8, 0x26d930ac, 0x76dc4190, 0x6b6b51f4, 0x4db26158, 0x5005713c,
 0xedb88320, 0xf00f9344, 0xd6d6a3e8, 0xcb61b38c, 0x9b64c2b0, 0x86d3d2d4, 0xa00ae278, 0xbdbdf21c]
def ur (k : Nat) : Nat := qrr.getD k 0
theorem xx {y : BitVec 32} (h : y.getLsbD 0 = false) : crcL y = y >>> 1 := by unfold crcL; rw [h]; simp
theorem qdd (r : BitVec 32) : po 4 ((r >>> 4) <<< 4) = r >>> 4 := by
 have e : ∀ k, k < 4 → ((r >>> 4) <<< 4).getLsbD k = false := by
  intro k hk
  rw [BitVec.getLsbD_shiftLeft]
  simp [hk]
 have e1 := e 1 (by omega)
 have e2 := e 2 (by omega)
 have e3 := e 3 (by omega)
 have f1 : ((r >>> 4) <<< 4 >>> 1).getLsbD 0 = false := by rw [BitVec.getLsbD_ushiftRight]; exact e1
 have f2 : ((r >>> 4) <<< 4 >>> 1 >>> 1).getLsbD 0 = false := by rw [BitVec.getLsbD_ushiftRight, BitVec.getLsbD_ushiftRight]; exact e2
 have f3 : ((r >>> 4) <<< 4 >>> 1 >>> 1 >>> 1).getLsbD 0 = false := by rw [BitVec.getLsbD_ushiftRight, BitVec.getLsbD_ushiftRight, BitVec.getLsbD_ushiftRight]; exact e3
 show crcL (crcL (crcL (crcL ((r >>> 4) <<< 4)))) = _
 rw [xx (e 0 (by omega)), xx f1, xx f2, xx f3]
 apply BitVec.eq_of_toNat_eq
 have := r.isLt
 simp only [BitVec.toNat_ushiftRight, BitVec.toNat_shiftLeft, Nat.shiftRight_eq_div_pow, Nat.shiftLeft_eq]
 omega
theorem quf (r : BitVec 32) : r = ((r >>> 4) <<< 4) ^^^ BitVec.ofNat 32 (r.toNat % 16) := by
 apply BitVec.eq_of_getLsbD_eq
 intro i hi
 rw [BitVec.getLsbD_xor, BitVec.getLsbD_shiftLeft, BitVec.getLsbD_ushiftRight, BitVec.getLsbD_ofNat, show r.toNat % 16 = r.toNat % 2 ^ 4 by rfl, Nat.testBit_mod_two_pow]
 by_cases h4 : i < 4
 ·simp [h4, hi, BitVec.getLsbD]
 ·simp [h4, hi, show 4 + (i - 4) = i by omega]
def qb (r : BitVec 32) : BitVec 32 := (r >>> 4) ^^^ BitVec.ofNat 32 (ur (r.toNat % 16))
theorem qgh (r : BitVec 32) : qb r = po 4 r := by
 have h : ∀ k : Fin 16, BitVec.ofNat 32 (ur k.val) = po 4 (BitVec.ofNat 32 k.val) := by decide +kernel
 have hk := h ⟨r.toNat % 16, by omega⟩
 unfold qb
 rw [hk, ← qdd r, ← qip, ← quf]
theorem qiq : ∀ (m n : Nat) (r : BitVec 32), po (m + n) r = po n (po m r)
 |0, n, r => by rw [Nat.zero_add]; rfl
 |m + 1, n, r => by rw [show m + 1 + n = (m + n) + 1 by omega, po, qiq m n]; rfl
theorem qjy (s : BitVec 32) (c : UInt8) : qdt s c = qb (qb (s ^^^ BitVec.ofNat 32 c.toNat)) := by
 rw [qmt, qgh, qgh, ← qiq 4 4]
theorem qug (k : Nat) : ur k < 4294967296 := by
 by_cases h : k < 16
 ·have : ∀ i : Fin 16, ur i.val < 4294967296 := by decide
  exact this ⟨k, h⟩
 ·unfold ur
  rw [List.getD_eq_getElem?_getD, List.getElem?_eq_none (by simp [qrr]; omega)]
  decide

def uu : BitVec 32 := 0xffffffff#32
def il (l : List UInt8) : BitVec 32 := ~~~ (ko uu l)
def eu (s : BitVec 32) : List UInt8 := [UInt8.ofNat s.toNat, UInt8.ofNat (s.toNat / 256), UInt8.ofNat (s.toNat / 65536), UInt8.ofNat (s.toNat / 16777216)]
end Go.Proofs.YtplbcbamnjnhlaaGreatDoor
namespace Go.Proofs.YtplbcbamnjnhlaaGreatDoor
open Go.RowKit

theorem crc_el (k : Nat) (h : k < 16) : ([.int .u32 0, .int .u32 498536548, .int .u32 997073096, .int .u32 651767980, .int .u32 1994146192, .int .u32 1802195444, .int .u32 1303535960, .int .u32 1342533948, .int .u32 3988292384, .int .u32 4027552580, .int .u32 3604390888, .int .u32 3412177804, .int .u32 2607071920, .int .u32 2262029012, .int .u32 2685067896, .int .u32 3183342108] : List Value)[k]'h = .int .u32 (ur k : Nat) := by
 have hall : ∀ j : Fin 16, ([.int .u32 0, .int .u32 498536548, .int .u32 997073096, .int .u32 651767980, .int .u32 1994146192, .int .u32 1802195444, .int .u32 1303535960, .int .u32 1342533948, .int .u32 3988292384, .int .u32 4027552580, .int .u32 3604390888, .int .u32 3412177804, .int .u32 2607071920, .int .u32 2262029012, .int .u32 2685067896, .int .u32 3183342108] : List Value)[j.val]'j.isLt = Value.int .u32 (ur j.val : Nat) := by
  intro j
  match j with
  |⟨0, _⟩ | ⟨1, _⟩ | ⟨2, _⟩ | ⟨3, _⟩ | ⟨4, _⟩ | ⟨5, _⟩ | ⟨6, _⟩ | ⟨7, _⟩ | ⟨8, _⟩ | ⟨9, _⟩ | ⟨10, _⟩ | ⟨11, _⟩ | ⟨12, _⟩ | ⟨13, _⟩ | ⟨14, _⟩ | ⟨15, _⟩ => rfl
  |⟨n + 16, h⟩ => omega
 exact hall ⟨k, h⟩
theorem and15 (n : Nat) : n &&& 15 = n % 16 := by
 rw [show (15 : Nat) = 2 ^ 4 - 1 by decide, Nat.and_two_pow_sub_one_eq_mod]
theorem qmo (r : BitVec 32) (w : World) :
  Calls Tryz.prog 141 #[.int .u32 (r.toNat : Nat)] w fun e w' => e = .returned (.int .u32 ((qb r).toNat : Nat)) ∧ Below w.heap.size w w' := by
 have hr := r.isLt
 have hand : bits .and .u32 (r.toNat : Int) 15 = ((r.toNat % 16 : Nat) : Int) := by
  rw [show (15 : Int) = ((15 : Nat) : Int) by rfl, u32_and_nat _ _ hr (by omega), and15]
 have hel := crc_el (r.toNat % 16)
 have hlt : r.toNat % 16 < 16 := by omega
 have HX : Hid (bits .xor .u32 ((r.toNat : Int) / 16) (ur (r.toNat % 16) : Nat) = ((qb r).toNat : Nat)) := by
  show _ = _
  have := qug (r.toNat % 16)
  rw [show ((r.toNat : Int) / 16) = ((r.toNat / 16 : Nat) : Int) by omega, u32_xor_nat _ _ (by omega) this]
  unfold qb
  rw [BitVec.toNat_xor, BitVec.toNat_ofNat, BitVec.toNat_ushiftRight, Nat.shiftRight_eq_div_pow, Nat.mod_eq_of_lt (a := ur _) this]
 go_enter Tryz.func141, Tryz.ntmps141
 go_wp2
 go_ret
 exact ⟨rt1 (vint HX.o), (br _ _).alloc (nr _) _⟩

theorem qun (w : World) : Calls Tryz.prog 111 #[] w fun e w' => e = .returned (.int .u32 (uu.toNat : Nat)) ∧ w = w' := by
 go_enter Tryz.func111, Tryz.ntmps111
 go_wp2
 go_ret
 exact ⟨rfl, rfl⟩
theorem end_crc (r : BitVec 32) (w : World) : Calls Tryz.prog 113 #[.int .u32 (r.toNat : Nat)] w fun e w' => e = .returned (.int .u32 ((~~~ r).toNat : Nat)) ∧ w = w' := by
 have hr := r.isLt
 go_enter Tryz.func113, Tryz.ntmps113
 go_wp2
 go_ret
 refine ⟨rt1 (vint ?_), rfl⟩
 rw [show IntKind.u32.max = ((4294967295 : Nat) : Int) by decide, u32_xor_nat _ _ (by omega) hr]
 have h : (BitVec.allOnes 32 ^^^ r) = ~~~ r := by rw [BitVec.allOnes_xor]
 have h2 := congrArg BitVec.toNat h
 rw [BitVec.toNat_xor] at h2
 rw [BitVec.toNat_not] at h2
 exact congrArg Nat.cast h2

theorem qjx (s : BitVec 32) (l : List UInt8) (k : Nat) (h : k < l.length) : ko s (l.take (k + 1)) = qb (qb (ko s (l.take k) ^^^ BitVec.ofNat 32 l[k].toNat)) := by
 rw [List.take_succ_eq_append_getElem h, wy, ← qjy]
 rfl
theorem xor_byte (s : BitVec 32) (c : UInt8) : bits .xor .u32 (s.toNat : Int) (c.toNat : Int) = ((s.toNat ^^^ c.toNat : Nat) : Int) := by
 have := c.toNat_lt
 rw [u32_xor_nat _ _ s.isLt (by omega)]
theorem xor_bv (s : BitVec 32) (c : UInt8) : s.toNat ^^^ c.toNat = (s ^^^ BitVec.ofNat 32 c.toNat).toNat := by
 have := c.toNat_lt
 rw [BitVec.toNat_xor, BitVec.toNat_ofNat, Nat.mod_eq_of_lt (by omega)]
theorem step_crc (r : BitVec 32) (l : List UInt8) (A : Option Addr) (c B : Nat) (w : World) (hr : Rd w B A (ak l)) (hB : B ≤ w.heap.size) (hl : l.length ≤ 1099511627776) :
  Calls Tryz.prog 112 #[.int .u32 (r.toNat : Nat), .slice A l.length c] w fun e w' => e = .returned (.int .u32 ((ko r l).toNat : Nat)) ∧ Below w.heap.size w w' := by
 have HR := Lh hr
 clear hr
 go_enter Tryz.func112, Tryz.ntmps112
 go_wp2
 go_loopw [0, 9] (fun v0 v9 wr => ∃ k : Nat, k ≤ l.length ∧ v9 = .int .i64 k ∧ v0 = .int .u32 ((ko r (l.take k)).toNat : Nat) ∧ Below w.heap.size w wr) (fun _ i _ => l.length - (intOf i).toNat)
 case atStart => exact ⟨0, by omega, rfl, rfl, br _ _⟩
 case round =>
  obtain ⟨k, hk, rfl, rfl, hbr⟩ := hrel
  by_cases hlt : k < l.length
  ·obtain ⟨ab, ao, rfl, hab, hcell⟩ := (HR.o.below (hbr.mono hB)).byte hlt
   have hs := Lh (qjx r l k hlt)
   have hx := xor_byte (ko r (l.take k)) l[k]
   have hb8 := l[k].toNat_lt
   go_wp2_with fail
   rw [xor_bv]
   refine (qmo _ _).mono ?_
   rintro e w1 ⟨rfl, h1⟩
   go_wp2_with fail
   refine (qmo _ _).mono ?_
   rintro e w2 ⟨rfl, h2⟩
   go_wp2
   go_roundw
   case rel => exact ⟨k + 1, by omega, by go_num, by rw [hs.o], (hbr.trans (h1.mono hbr.size)).trans (h2.mono (Nat.le_trans hbr.size h1.size))⟩
   case measure => simp [intOf]; omega
  ·have hkl : k = l.length := by omega
   subst hkl
   go_wp2
   go_ret
   exact ⟨rt1 (vint (by rw [List.take_length])), hbr⟩

theorem qgg (l : List UInt8) : (il l).toNat = 4294967295 - (ko uu l).toNat := by unfold il; rw [BitVec.toNat_not]
theorem of_crc (g o cap : Nat) (l : List UInt8) (A : Option Addr) (c B : Nat) (w : World) (hg : w.cell? ⟨g, o, none⟩ = some (.slice A l.length c)) (hgB : g < B) (hr : Rd w B A (ak l)) (hB : B ≤ w.heap.size) (hl : l.length ≤ 1099511627776) :
  Calls Tryz.prog 83 #[.slice (some ⟨g, o, none⟩) 1 cap] w fun e w' => e = .returned (.int .u32 ((il l).toNat : Nat)) ∧ Below w.heap.size w w' := by
 have HR := Lh hr
 have HG := Lh hg
 clear hr hg
 go_enter Tryz.func83, Tryz.ntmps83
 go_wp2_with fail
 refine (qun _).mono ?_
 rintro e w1 ⟨rfl, rfl⟩
 go_wp2_with fail
 go_loopw [3, 9] (fun v3 v9 wr => ∃ k : Nat, k ≤ 1 ∧ v9 = .int .i64 k ∧ v3 = .int .u32 ((ko uu (if k = 0 then [] else l)).toNat : Nat) ∧ Below w.heap.size w wr) (fun _ i _ => 1 - (intOf i).toNat)
 case atStart => exact ⟨0, by omega, rfl, rfl, br _ _⟩
 case round =>
  obtain ⟨k, hk, rfl, rfl, hbr⟩ := hrel
  by_cases hlt : k = 0
  ·subst hlt
   have hc : wr.cell? ⟨g, o, none⟩ = some (.slice A l.length c) := (hbr.cell (p := ⟨g, o, none⟩) (by show g < _; omega)).trans HG.o
   go_wp2_with fail
   refine (step_crc uu l A c B wr (HR.o.below (hbr.mono hB)) (Nat.le_trans hB hbr.size) hl).mono ?_
   rintro e w1 ⟨rfl, h1⟩
   go_wp2
   go_roundw
   case rel => exact ⟨1, by omega, rfl, rfl, hbr.trans (h1.mono hbr.size)⟩
   case measure => simp [intOf]
  ·have hkl : k = 1 := by omega
   subst hkl
   go_wp2_with fail
   refine (end_crc _ _).mono ?_
   rintro e w1 ⟨rfl, rfl⟩
   go_wp2
   go_ret
   exact ⟨rt1 (vint (by rw [qgg])), hbr⟩

theorem qpm (s : BitVec 32) (b : Bool) : (zh s b).toNat = if s.toNat % 2 = b.toNat then s.toNat / 2 else s.toNat / 2 ^^^ 3988292384 := by
 have h1 : (s ^^^ bv1 b) >>> 1 = s >>> 1 := by
  apply BitVec.eq_of_getLsbD_eq
  intro i hi
  rw [BitVec.getLsbD_ushiftRight, BitVec.getLsbD_ushiftRight, BitVec.getLsbD_xor]
  have : (bv1 b).getLsbD (1 + i) = false := by cases b <;> simp [bv1, BitVec.getLsbD_one]
  rw [this, Bool.xor_false]
 have h2 : (s ^^^ bv1 b).getLsbD 0 = (s.getLsbD 0 != b) := by
  rw [BitVec.getLsbD_xor]
  cases b <;> simp [bv1]
 have h3 : s.getLsbD 0 = decide (s.toNat % 2 = 1) := by simp [BitVec.getLsbD, Nat.testBit_zero]
 unfold zh crcL
 rw [h1, h2, h3, BitVec.toNat_xor, BitVec.toNat_ushiftRight, Nat.shiftRight_eq_div_pow]
 rcases Nat.mod_two_eq_zero_or_one s.toNat with h | h <;> rw [h] <;> cases b <;> simp [qrs]
theorem qhf (c : UInt8) (j : Nat) (h : j < 8) : (mi c).take (j + 1) = (mi c).take j ++ [c.toNat.testBit j] := by
 rw [List.take_succ_eq_append_getElem (by rw [mo]; exact h)]
 simp [mi]
theorem qks (n j : Nat) : (n.testBit j).toNat = n / 2 ^ j % 2 := by
 rw [Nat.testBit_eq_decide_div_mod_eq]
 rcases Nat.mod_two_eq_zero_or_one (n / 2 ^ j) with h | h <;> simp [h]
theorem qkz (r : BitVec 32) (l : List UInt8) (A : Option Addr) (c B : Nat) (w : World) (hr : Rd w B A (ak l)) (hl : l.length ≤ 1099511627776) :
  Calls Tryz.prog 128 #[.int .u32 (r.toNat : Nat), .slice A l.length c] w fun e w' => e = .returned (.int .u32 ((ko r l).toNat : Nat)) ∧ w = w' := by
 have HR := Lh hr
 clear hr
 go_enter Tryz.func128, Tryz.ntmps128
 go_wp2
 go_loop [0, 5] (fun v0 v5 => ∃ (k : Nat) (s : BitVec 32), k ≤ l.length ∧ v5 = .int .i64 k ∧ v0 = .int .u32 (s.toNat : Nat) ∧ Hid (s = ko r (l.take k))) (fun _ i => l.length - (intOf i).toNat)
 case atStart => exact ⟨0, r, by omega, rfl, rfl, rfl⟩
 case round =>
  obtain ⟨k, s, hk, rfl, rfl, hs⟩ := hrel
  by_cases hlt : k < l.length
  ·obtain ⟨ab, ao, rfl, hab, hcell⟩ := HR.o.byte hlt
   have hb8 := l[k].toNat_lt
   go_wp2
   go_loop [0, 6, 7] (fun v0 v6 v7 => ∃ (j x : Nat) (s' : BitVec 32), j ≤ 8 ∧ v7 = .int .i64 j ∧ x < 256 ∧ v6 = .int .u8 x ∧ Hid (x = l[k].toNat / 2 ^ j) ∧ v0 = .int .u32 (s'.toNat : Nat) ∧ Hid (s' = nu s ((mi l[k]).take j))) (fun _ _ i => 8 - (intOf i).toNat)
   case atStart => exact ⟨0, _, s, by omega, rfl, hb8, rfl, by show _ = _; simp, rfl, rfl⟩
   case round =>
    obtain ⟨j, x, s', hj, rfl, hx, rfl, hxe, rfl, hs'⟩ := hrel
    have hs32 := s'.isLt
    by_cases hj8 : j < 8
    ·have HN := Lh (show nu s ((mi l[k]).take (j + 1)) = zh s' (l[k].toNat.testBit j) by rw [qhf _ _ hj8, qgi, ← hs'.o]; rfl)
     have HB := Lh (show (l[k].toNat.testBit j).toNat = x % 2 by rw [qks, hxe.o])
     have HX := Lh (show bits .xor .u32 ((s'.toNat : Int) / 2) 3988292384 = ((s'.toNat / 2 ^^^ 3988292384 : Nat) : Int) by
      rw [show ((s'.toNat : Int) / 2) = ((s'.toNat / 2 : Nat) : Int) by omega]
      exact u32_xor_nat _ 3988292384 (by omega) (by omega))
     have HQ := Lh (qpm s' (l[k].toNat.testBit j))
     by_cases hq : x % 2 = s'.toNat % 2
     ·have hq1 : (((x : Int) % 2) != ((s'.toNat : Int) % 2)) = false := by simp; omega
      go_wp2
      go_round
      case rel =>
       refine ⟨j + 1, x / 2, zh s' (l[k].toNat.testBit j), by omega, by go_num, by omega, by rfl, ?_, ?_, HN.o.symm⟩
       ·show _ = _
        rw [hxe.o, Nat.div_div_eq_div_mul, Nat.pow_succ]
       ·exact vint (by rw [HQ.o, if_pos (by rw [HB.o]; omega)]; rfl)
      case measure => simp [intOf]; omega
     ·have hq1 : (((x : Int) % 2) != ((s'.toNat : Int) % 2)) = true := by simp; omega
      go_wp2
      go_round
      case rel =>
       refine ⟨j + 1, x / 2, zh s' (l[k].toNat.testBit j), by omega, by go_num, by omega, by rfl, ?_, ?_, HN.o.symm⟩
       ·show _ = _
        rw [hxe.o, Nat.div_div_eq_div_mul, Nat.pow_succ]
       ·exact vint (by rw [HQ.o, if_neg (by rw [HB.o]; omega)]; exact HX.o)
      case measure => simp [intOf]; omega
    ·have hj' : j = 8 := by omega
     subst hj'
     go_wp2
     go_round
     case rel =>
      refine ⟨k + 1, s', by omega, by go_num, rfl, ?_⟩
      show _ = _
      rw [hs'.o, hs.o, List.take_of_length_le (l := mi l[k]) (by rw [mo]; omega), List.take_succ_eq_append_getElem hlt, wy]
      rfl
     case measure => simp [intOf]; omega
  ·have hkl : k = l.length := by omega
   subst hkl
   go_wp2
   go_ret
   exact ⟨rt1 (vint (by rw [hs.o, List.take_length])), rfl⟩
theorem qep (l : List UInt8) (A : Option Addr) (c B : Nat) (w : World) (hr : Rd w B A (ak l)) (hl : l.length ≤ 1099511627776) :
  Calls Tryz.prog 100 #[.slice A l.length c] w fun e w' => e = .returned (.int .u32 ((il l).toNat : Nat)) ∧ w = w' := by
 have HR := Lh hr
 clear hr
 have h32 := (ko uu l).isLt
 have HN := Lh (qgg l)
 go_enter Tryz.func100, Tryz.ntmps100
 go_wp2_with fail
 refine (qkz uu l A c B w HR.o hl).mono ?_
 rintro e w1 ⟨rfl, rfl⟩
 go_wp2
 go_ret
 exact ⟨rt1 (vint (by rw [HN.o]; omega)), rfl⟩
theorem qfu (s : BitVec 32) (w : World) :
  Calls Tryz.prog 82 #[.int .u32 (s.toNat : Nat)] w fun e w' => e = .returned (.slice (some ⟨w.heap.size, 0, none⟩) 4 4) ∧ w' = w.alloc (.cells (ak (eu s)).toArray 5) := by
 have hs := s.isLt
 have HT : Hid ((ak (eu s)).toArray = #[.int .u8 ((s.toNat : Int) % 256), .int .u8 ((s.toNat : Int) / 256 % 256), .int .u8 ((s.toNat : Int) / 65536 % 256), .int .u8 ((s.toNat : Int) / 16777216)]) := by
  show _ = _
  simp only [ak, eu, List.map_cons, List.map_nil, ic, UInt8.toNat_ofNat']
  rw [show ((s.toNat / 16777216 % 2 ^ 8 : Nat) : Int) = (s.toNat : Int) / 16777216 by omega]
  congr
 go_enter Tryz.func82, Tryz.ntmps82
 go_wp2
 go_ret
 rw [HT.o]
 exact ⟨rfl, rfl⟩

def dm (kind : UInt8) (load : List UInt8) : List UInt8 := kind :: (gy load.length ++ load)
def cv (kind : UInt8) (load : List UInt8) : List UInt8 := dm kind load ++ eu (il (dm kind load))
theorem jx (kind : UInt8) (load : List UInt8) : (dm kind load).length = 1 + (gy load.length).length + load.length := by simp [dm]; omega
theorem iu (kind : UInt8) (load : List UInt8) : (cv kind load).length = 5 + (gy load.length).length + load.length := by simp [cv, eu, jx]; omega
theorem nh (v : Nat) (h : v < 1180591620717411303424) : (gy v).length ≤ 10 := tt v 9 (by simpa using h)

theorem qfb {w : World} {base g n : Nat} {l : List UInt8} (h : w.heap[g]? = some (.cells (ak l).toArray 5 (0, 0))) (hb : base ≤ g) (hn : n = l.length) (hl : l.length ≤ 1099511627776) :
  w.ownsRow base 5 1 (.slice (some ⟨g, 0, none⟩) n n) n (ak l) := by
 subst hn
 refine ⟨by simp [am], .inr ⟨g, l.length, _, rfl, hb, h, nr _, by simp only [maxLen]; omega, by simp [am], ?_⟩⟩
 simp only [Nat.mul_one]
 rw [List.take_of_length_le (by simp [am])]
theorem jh {w : World} {g B : Nat} {l : List UInt8} {t : TypeId} {fr : Nat × Nat} (h : w.heap[g]? = some (.cells (ak l).toArray t fr)) (hg : g < B) : Rd w B (some ⟨g, 0, none⟩) (ak l) := by
 have := Rd.row h hg
 simpa using this
theorem qlf {w : World} {B B' : Nat} {A : Option Addr} {xs : List Value} (h : Rd w B A xs) (hB : B ≤ w.heap.size) (hB' : B ≤ B') (o : Obj) : Rd (w.alloc o) B' A xs :=
 (h.below ((br _ _).mono hB |>.alloc hB o)).more hB'
theorem ri (w : World) (v : Value) (t : TypeId) : (w.alloc (.cells #[v] t)).cell? ⟨w.heap.size, 0, none⟩ = some v := by
 rw [cell_of_row _ _ _ _ _ _ (hzn w _)]; rfl
theorem quh (w : World) (o : Obj) (v : Value) (t : TypeId) : ((w.alloc o).alloc (.cells #[v] t)).cell? ⟨w.heap.size + 1, 0, none⟩ = some v := by
 have h := ri (w.alloc o) v t
 rwa [sz_] at h
theorem seal_any (kind : UInt8) (load : List UInt8) (A : Option Addr) (c B : Nat) (w : World) (hr : Rd w B A (ak load)) (hB : B ≤ w.heap.size) (hl : load.length ≤ 1048576) :
  Calls Tryz.prog 56 #[.int .u8 (kind.toNat : Nat), .slice A load.length c] w fun e w' => ∃ v, e = .returned (.tuple #[v, .int .i64 0]) ∧ w'.ownsRow w.heap.size 5 1 v (cv kind load).length (ak (cv kind load)) ∧ Below w.heap.size w w' := by
 have HR := Lh hr
 clear hr
 have hvl := nh load.length (by omega)
 have hbl : (dm kind load).length ≤ 1048600 := by rw [jx]; omega
 have hsl : (cv kind load).length ≤ 1048600 := by rw [iu]; omega
 have hk8 := kind.toNat_lt
 go_enter Tryz.func56, Tryz.ntmps56
 go_wp2_with fail
 refine (qhg w).mono ?_
 rintro e w1 ⟨rfl, hw1, hb1, hs1⟩
 clear hs1
 have W1 := Lh hw1
 have B1 : Hid (Below w.heap.size w w1) := hb1
 clear hw1 hb1
 have HRd1 := Lh (HR.o.below (B1.o.mono hB))
 go_wp2_with fail
 refine (py w.heap.size 1 kind.toNat [] w1 W1.o (by omega) (by omega) (by omega) (by simp)).mono ?_
 rintro e w2 ⟨rfl, hw2, hk2⟩
 rw [pi _ (by omega), List.nil_append, UInt8.ofNat_toNat] at hw2
 have W2 := Lh hw2
 have B2 := Lh (B1.o.trans hk2.below)
 clear hw2 hk2
 go_wp2_with fail
 refine (put_any w.heap.size load.length [kind] w2 W2.o (by simp) (by omega)).mono ?_
 rintro e w3 ⟨rfl, hw3, hk3⟩
 have W3 := Lh hw3
 have B3 := Lh (B2.o.trans hk3.below)
 clear hw3 hk3
 go_wp2_with fail
 have hs3 := B3.o.size
 refine (qaa w.heap.size w3.heap.size 0 1 ([kind] ++ gy load.length) load A c B _ (W3.o.later ((br _ _).alloc (nr _) _)) (by rw [cell_of_row _ _ _ _ _ _ (hzn w3 _)]; rfl) ((HR.o.below (B3.o.mono hB)).below ((br _ _).alloc (by omega) _)) (by simp; omega) (by simp; omega) (by omega)).mono ?_
 rintro e w4 ⟨rfl, hw4, hk4⟩
 rw [List.append_assoc] at hw4
 have W4 : Hid (WrR w4 w.heap.size (dm kind load)) := Lh hw4
 have B4 := Lh ((B3.o.alloc hs3 _).trans hk4.below)
 clear hw4 hk4
 have hs4 := B4.o.size
 go_wp2_with fail
 refine (ma w.heap.size (dm kind load) w4 W4.o (by omega)).mono ?_
 rintro e w5 ⟨rfl, hr5, hb5, hs5⟩
 have R5 := Lh hr5
 have W5 := Lh (W4.o.later hb5)
 have B5 := Lh (B4.o.trans (hb5.mono hs4))
 have S5 := Lh hs5
 have hlt5 : w4.heap.size < w5.heap.size := by omega
 clear hr5 hb5 hs5
 go_wp2_with fail
 have hs5' : w.heap.size ≤ w5.heap.size := by omega
 refine (of_crc w5.heap.size 0 1 (dm kind load) (some ⟨w4.heap.size, 0, none⟩) (dm kind load).length (w5.heap.size + 1) _ (ri _ _ _) (by omega) (qlf (jh (B := w5.heap.size) R5.o (by omega)) (nr _) (by omega) _) (by simp) (by omega)).mono ?_
 rintro e w6 ⟨rfl, hb6⟩
 have B6 := Lh ((B5.o.alloc hs5' _).trans (hb6.mono (by simp; omega)))
 have W6 := Lh ((W5.o.later ((br _ _).alloc (nr _) _)).later hb6)
 clear hb6
 have hs6 := B6.o.size
 go_wp2_with fail
 refine (qfu _ w6).mono ?_
 rintro e w7 ⟨rfl, rfl⟩
 go_wp2_with fail
 refine (qaa w.heap.size (w6.heap.size + 1) 0 1 (dm kind load) (eu (il (dm kind load))) (some ⟨w6.heap.size, 0, none⟩) 4 (w6.heap.size + 1) _ ((W6.o.later ((br _ _).alloc (nr _) _)).later ((br _ _).alloc (nr _) _)) (quh _ _ _ _) (qlf (jh (B := w6.heap.size + 1) (hzn w6 _) (by omega)) (by simp) (nr _) _) (by simp) (by omega) (by simp [eu])).mono ?_
 rintro e w8 ⟨rfl, hw8, hk8'⟩
 have W8 : Hid (WrR w8 w.heap.size (cv kind load)) := Lh hw8
 have B8 := Lh (((B6.o.alloc hs6 _).alloc (by simp; omega) _).trans hk8'.below)
 clear hw8 hk8'
 have hs8 := B8.o.size
 go_wp2_with fail
 refine (ma w.heap.size (cv kind load) w8 W8.o (by omega)).mono ?_
 rintro e w9 ⟨rfl, hr9, hb9, hs9⟩
 have R9 := Lh hr9
 have B9 := Lh (B8.o.trans (hb9.mono hs8))
 clear hr9 hb9 hs9
 go_wp2
 go_ret2
 exact ⟨_, rfl, qfb R9.o hs8 rfl (by omega), B9.o⟩

theorem vp (kind : UInt8) (load : List UInt8) (A : Option Addr) (c B : Nat) (w : World) (hr : Rd w B A (ak load)) (hB : B ≤ w.heap.size) (hl : load.length ≤ 1048576) :
  Calls Tryz.prog 68 #[.int .u8 (kind.toNat : Nat), .slice A load.length c] w fun e w' => ∃ v, e = .returned v ∧ w'.ownsRow w.heap.size 5 1 v (cv kind load).length (ak (cv kind load)) ∧ Below w.heap.size w w' := by
 have HR := Lh hr
 clear hr
 have hvl := nh load.length (by omega)
 have hbl : (dm kind load).length ≤ 1048600 := by rw [jx]; omega
 have hsl : (cv kind load).length ≤ 1048600 := by rw [iu]; omega
 have hk8 := kind.toNat_lt
 go_enter Tryz.func68, Tryz.ntmps68
 go_wp2_with fail
 have own0 : (w.alloc (.cells #[.int .u8 (kind.toNat : Nat)] 5)).ownsRow w.heap.size 5 1 (.slice (some ⟨w.heap.size, 0, none⟩) 1 1) 1 (ak [kind]) := qfb (l := [kind]) (hzn w _) (nr _) rfl (by simp)
 have OWN0 := Lh own0
 clear own0
 have hb0 : Below w.heap.size w (w.alloc (.cells #[.int .u8 (kind.toNat : Nat)] 5)) := (br _ _).alloc (nr _) _
 have HR0 := Lh (HR.o.below (hb0.mono hB))
 have B0 := Lh hb0
 clear hb0
 refine (form_any load.length _ (by omega)).mono ?_
 rintro e w1 ⟨u, rfl, hu, hb1⟩
 obtain ⟨A1, c1, rfl, _, _⟩ := ap hu
 have HU := Lh hu
 have OWN1 := Lh (bw OWN0.o hb1)
 have B1 := Lh (B0.o.trans (hb1.mono (by simp)))
 have hs1 : w.heap.size + 1 ≤ w1.heap.size := by have := hb1.size; simp at this; omega
 clear hu hb1
 go_wp2_with (at_builtin; refine ay im rfl rfl rfl rfl OWN1.o (Rd.of_own HU.o) (by rw [am, Nat.mul_one]) (ef _) ?h63 ?hby ?hbase ?_)
 case h63 => simp only [maxLen]; omega
 case hby => omega
 case hbase => omega
 intro v2 w2 hown2 hg2 _ _
 have B2 := Lh (ax B1.o hg2 OWN1.o (nr _) (by omega))
 rw [← bt] at hown2
 have OWN2 := Lh hown2
 clear hown2 hg2
 have hs2 := B2.o.size
 obtain ⟨A2, c2, rfl, _, _⟩ := ap OWN2.o
 go_wp2_with (at_builtin; refine ay im rfl rfl rfl rfl OWN2.o (HR.o.below (B2.o.mono hB)) (by rw [am, Nat.mul_one]) (ef _) ?h63 ?hby ?hbase ?_)
 case h63 => simp only [maxLen]; omega
 case hby => omega
 case hbase => omega
 intro v3 w3 hown3 hg3 _ _
 have B3 := Lh (ax B2.o hg3 OWN2.o (nr _) (by omega))
 rw [← bt] at hown3
 have hl3 : 1 + (gy load.length).length + load.length = (dm kind load).length := by rw [jx]
 rw [hl3] at hown3
 have OWN3 : Hid (w3.ownsRow w.heap.size 5 1 v3 (dm kind load).length (ak (dm kind load))) := Lh hown3
 clear hown3 hg3 hl3
 have hs3 := B3.o.size
 obtain ⟨A3, c3, rfl, _, _⟩ := ap OWN3.o
 go_wp2_with fail
 refine (qep (dm kind load) A3 c3 w3.heap.size w3 (Rd.of_own OWN3.o) (by omega)).mono ?_
 rintro e w4 ⟨rfl, rfl⟩
 have hcs := (il (dm kind load)).isLt
 generalize hsum : il (dm kind load) = sum at hcs
 have HSUM := Lh hsum
 clear hsum
 have HT : Hid ([Value.int .u8 ((sum.toNat : Int) % 256), .int .u8 ((sum.toNat : Int) / 256 % 256), .int .u8 ((sum.toNat : Int) / 65536 % 256), .int .u8 ((sum.toNat : Int) / 16777216)] = ak (eu sum)) := by
  show _ = _
  simp only [ak, eu, List.map_cons, List.map_nil, ic, UInt8.toNat_ofNat']
  rw [show ((sum.toNat / 16777216 % 2 ^ 8 : Nat) : Int) = (sum.toNat : Int) / 16777216 by omega]
  congr
 go_wp2_with (at_builtin; refine ay im rfl rfl rfl rfl (OWN3.o.alloc _) (Rd.row (B := w3.heap.size + 1) (hzn w3 _) (by omega)) rfl (by simp [Value.oneCell']) ?h63 ?hby ?hbase ?_)
 case h63 => simp only [maxLen]; omega
 case hby => omega
 case hbase => simp; omega
 intro v5 w5 hown5 hg5 _ _
 have B5 := Lh (ax (B3.o.alloc hs3 _) hg5 (OWN3.o.alloc _) (nr _) (by simp; omega))
 have HO5 := Lh hown5
 clear hown5 hg5
 go_wp2
 go_ret
 refine ⟨v5, rfl, ?_, B5.o⟩
 have h5 := HO5.o
 rw [HT.o, ← bt] at h5
 have e : dm kind load ++ eu sum = cv kind load := by unfold cv; rw [HSUM.o]
 have e2 : (dm kind load).length + 4 = (cv kind load).length := by rw [← e]; simp [eu]
 rw [e, e2] at h5
 exact h5
end Go.Proofs.YtplbcbamnjnhlaaGreatDoor
