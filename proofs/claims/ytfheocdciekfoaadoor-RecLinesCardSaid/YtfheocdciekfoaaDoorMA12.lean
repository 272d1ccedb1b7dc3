/- Texts of this proof joined: CrcMath, Crc. -/
import Derived.WalkKit
import Derived.Test.YtfheocdciekfoaaDoorChecked
import Derived.Test.YtfheocdciekfoaaDoorMA07
import Derived.Laws.BitsAllLaws
import Derived.Outline
/- Sums: bit by bit, by half bytes; a burst of at most 32 bits shows. Plain: no program is named here. -/
namespace Go.Proofs.YtfheocdciekfoaaDoor

def crcPoly : BitVec 32 := 0xedb88320#32
/-- a register, one bit on -/
def crcL (r : BitVec 32) : BitVec 32 := (r >>> 1) ^^^ (if r.getLsbD 0 then crcPoly else 0#32)
def bv1 (b : Bool) : BitVec 32 := if b then 1#32 else 0#32
def crcBit (s : BitVec 32) (b : Bool) : BitVec 32 := crcL (s ^^^ bv1 b)
def crcBits (s : BitVec 32) (l : List Bool) : BitVec 32 := l.foldl crcBit s
def crcLn : Nat → BitVec 32 → BitVec 32
  | 0, r => r
  | n + 1, r => crcLn n (crcL r)

theorem xor4 (a b c d : BitVec 32) : (a ^^^ b) ^^^ (c ^^^ d) = (a ^^^ c) ^^^ (b ^^^ d) := by
  rw [BitVec.xor_assoc, BitVec.xor_assoc]
  congr 1
  rw [← BitVec.xor_assoc, ← BitVec.xor_assoc, BitVec.xor_comm b c]
theorem crcL_xor (x y : BitVec 32) : crcL (x ^^^ y) = crcL x ^^^ crcL y := by
  unfold crcL
  rw [BitVec.getLsbD_xor, BitVec.ushiftRight_xor_distrib, xor4]
  congr 1
  cases x.getLsbD 0 <;> cases y.getLsbD 0 <;> simp
theorem crcL_zero : crcL 0#32 = 0#32 := by decide
theorem crcLn_xor : ∀ (n : Nat) (x y : BitVec 32), crcLn n (x ^^^ y) = crcLn n x ^^^ crcLn n y
  | 0, _, _ => rfl
  | n + 1, x, y => by rw [crcLn, crcL_xor, crcLn_xor n]; rfl
theorem crcLn_zero : ∀ n : Nat, crcLn n 0#32 = 0#32
  | 0 => rfl
  | n + 1 => by rw [crcLn, crcL_zero, crcLn_zero n]
theorem crcL_inj {x : BitVec 32} (h : crcL x = 0#32) : x = 0#32 := by
  unfold crcL at h
  cases hb : x.getLsbD 0 with
  | true =>
    exfalso
    rw [hb] at h
    have h2 := congrArg (fun v => v.getLsbD 31) h
    simp [crcPoly] at h2
  | false =>
    rw [hb] at h
    simp only [Bool.false_eq_true, if_false, BitVec.xor_zero] at h
    apply BitVec.eq_of_getLsbD_eq
    intro i hi
    cases i with
    | zero => rw [hb]; simp
    | succ i =>
      have h2 := congrArg (fun v => v.getLsbD i) h
      simp only [BitVec.getLsbD_ushiftRight] at h2
      rw [Nat.add_comm 1 i] at h2
      rw [h2]
      simp
theorem crcLn_inj : ∀ (n : Nat) {x : BitVec 32}, crcLn n x = 0#32 → x = 0#32
  | 0, _, h => h
  | n + 1, _, h => crcL_inj (crcLn_inj n h)

/-- the number of bits, the lowest first -/
def bval : List Bool → Nat
  | [] => 0
  | b :: l => (if b then 1 else 0) + 2 * bval l
theorem bval_lt : ∀ l : List Bool, bval l < 2 ^ l.length
  | [] => by simp [bval]
  | b :: l => by
    have := bval_lt l
    rw [bval, List.length_cons, Nat.pow_succ]
    cases b <;> simp <;> omega
theorem bval_zero : ∀ l : List Bool, bval l = 0 → ∀ b ∈ l, b = false
  | [], _, b, h => by cases h
  | c :: l, h, b, hb => by
    rw [bval] at h
    rcases List.mem_cons.1 hb with rfl | hb
    · cases b with
      | false => rfl
      | true => simp at h
    · exact bval_zero l (by omega) b hb
theorem bv_cons (b : Bool) (v : Nat) : BitVec.ofNat 32 ((if b then 1 else 0) + 2 * v) = bv1 b ^^^ (BitVec.ofNat 32 v <<< 1) := by
  apply BitVec.eq_of_getLsbD_eq
  intro i hi
  rw [BitVec.getLsbD_xor, BitVec.getLsbD_ofNat, BitVec.getLsbD_shiftLeft, BitVec.getLsbD_ofNat]
  have hb1 : (bv1 b).getLsbD i = (decide (i = 0) && b) := by
    unfold bv1
    cases b with
    | false => simp
    | true => simp [BitVec.getLsbD_one]
  rw [hb1]
  cases i with
  | zero =>
    have e : Nat.testBit ((if b then 1 else 0) + 2 * v) 0 = b := by
      rw [Nat.testBit_zero]
      cases b <;> simp <;> omega
    rw [e]
    simp
  | succ i =>
    have e : Nat.testBit ((if b then 1 else 0) + 2 * v) (i + 1) = Nat.testBit v i := by
      rw [Nat.testBit_succ]
      congr 1
      cases b <;> simp <;> omega
    rw [e]
    simp [hi, show i < 32 by omega]
theorem crcL_shl (v : Nat) (h : v < 2 ^ 31) : crcL (BitVec.ofNat 32 v <<< 1) = BitVec.ofNat 32 v := by
  unfold crcL
  rw [BitVec.getLsbD_shiftLeft]
  simp only [Nat.lt_add_one, decide_true, Bool.not_true, Bool.and_false, Bool.false_and, Bool.false_eq_true, if_false, BitVec.xor_zero]
  apply BitVec.eq_of_toNat_eq
  rw [BitVec.toNat_ushiftRight, BitVec.toNat_shiftLeft, BitVec.toNat_ofNat, Nat.shiftRight_eq_div_pow, Nat.shiftLeft_eq]
  omega
theorem crcBits_val : ∀ (l : List Bool) (s : BitVec 32), l.length ≤ 32 → crcBits s l = crcLn l.length (s ^^^ BitVec.ofNat 32 (bval l))
  | [], s, _ => by simp [crcBits, crcLn, bval]
  | b :: l, s, h => by
    have hl : l.length ≤ 31 := by simpa using h
    have hv : bval l < 2 ^ 31 := Nat.lt_of_lt_of_le (bval_lt l) (Nat.pow_le_pow_right (by omega) hl)
    have ih := crcBits_val l (crcBit s b) (by omega)
    rw [crcBits, List.foldl_cons]
    rw [crcBits] at ih
    rw [ih, List.length_cons, crcLn, bval, bv_cons, ← BitVec.xor_assoc, crcL_xor, crcL_shl _ hv]
    rfl
theorem crcBits_append (s : BitVec 32) (x y : List Bool) : crcBits s (x ++ y) = crcBits (crcBits s x) y := by simp [crcBits]
theorem crcBits_xor : ∀ (x y : List Bool) (s t : BitVec 32), x.length = y.length → crcBits s x ^^^ crcBits t y = crcBits (s ^^^ t) (List.zipWith (· != ·) x y)
  | [], [], s, t, _ => rfl
  | a :: x, b :: y, s, t, h => by
    have ih := crcBits_xor x y (crcBit s a) (crcBit t b) (by simpa using h)
    simp only [crcBits, List.foldl_cons, List.zipWith_cons_cons] at ih ⊢
    rw [ih]
    congr 1
    unfold crcBit
    rw [← crcL_xor]
    congr 1
    have : bv1 (a != b) = bv1 a ^^^ bv1 b := by cases a <;> cases b <;> decide
    rw [this, xor4]
  | [], _ :: _, _, _, h => by simp at h
  | _ :: _, [], _, _, h => by simp at h
theorem crcBits_zeros : ∀ (n : Nat) (s : BitVec 32), crcBits s (List.replicate n false) = crcLn n s
  | 0, s => rfl
  | n + 1, s => by
    have ih := crcBits_zeros n (crcBit s false)
    rw [List.replicate_succ, crcBits, List.foldl_cons]
    rw [crcBits] at ih
    rw [ih]
    simp [crcBit, bv1, crcLn]
/-- a difference within 32 bits in a row leaves a difference -/
theorem crc_burst (p q : Nat) (m : List Bool) (hm : m.length ≤ 32) (ht : true ∈ m) : crcBits 0#32 (List.replicate p false ++ m ++ List.replicate q false) ≠ 0#32 := by
  rw [crcBits_append, crcBits_append, crcBits_zeros, crcBits_zeros, crcLn_zero, crcBits_val m _ hm]
  intro h
  have h2 := crcLn_inj _ (crcLn_inj _ h)
  rw [BitVec.zero_xor] at h2
  have h3 := congrArg BitVec.toNat h2
  have hlt : bval m < 2 ^ 32 := Nat.lt_of_lt_of_le (bval_lt m) (Nat.pow_le_pow_right (by omega) hm)
  rw [BitVec.toNat_ofNat, Nat.mod_eq_of_lt hlt] at h3
  have := bval_zero m (by simpa using h3) true ht
  cases this

/-! bytes -/
def byteBits (c : UInt8) : List Bool := (List.range 8).map fun i => c.toNat.testBit i
def bitsOf (l : List UInt8) : List Bool := l.flatMap byteBits
theorem byteBits_length (c : UInt8) : (byteBits c).length = 8 := by simp [byteBits]
theorem bitsOf_length (l : List UInt8) : (bitsOf l).length = 8 * l.length := by
  induction l with
  | nil => rfl
  | cons c l ih => simp only [bitsOf, List.flatMap_cons, List.length_append, byteBits_length, List.length_cons] at *; omega
theorem bitsOf_append (x y : List UInt8) : bitsOf (x ++ y) = bitsOf x ++ bitsOf y := by simp [bitsOf]
theorem bval_byte (c : UInt8) : bval (byteBits c) = c.toNat := by
  have h : ∀ k : Fin 256, bval ((List.range 8).map fun i => k.val.testBit i) = k.val := by decide +kernel
  exact h ⟨c.toNat, c.toNat_lt⟩
def crcByte (s : BitVec 32) (c : UInt8) : BitVec 32 := crcBits s (byteBits c)
theorem crcByte_val (s : BitVec 32) (c : UInt8) : crcByte s c = crcLn 8 (s ^^^ BitVec.ofNat 32 c.toNat) := by
  unfold crcByte
  rw [crcBits_val _ _ (by rw [byteBits_length]; omega), bval_byte, byteBits_length]
def crcList (s : BitVec 32) (l : List UInt8) : BitVec 32 := l.foldl crcByte s
theorem crcList_bits : ∀ (l : List UInt8) (s : BitVec 32), crcList s l = crcBits s (bitsOf l)
  | [], _ => rfl
  | c :: l, s => by
    rw [crcList, List.foldl_cons, show bitsOf (c :: l) = byteBits c ++ bitsOf l from rfl, crcBits_append]
    exact crcList_bits l _
theorem crcList_append (s : BitVec 32) (x y : List UInt8) : crcList s (x ++ y) = crcList (crcList s x) y := by simp [crcList]

/-! by half bytes -/
def crcRows : List Nat := [0x00000000, 0x1db71064, 0x3b6e20c8, 0x26d930ac, 0x76dc4190, 0x6b6b51f4, 0x4db26158, 0x5005713c,
  0xedb88320, 0xf00f9344, 0xd6d6a3e8, 0xcb61b38c, 0x9b64c2b0, 0x86d3d2d4, 0xa00ae278, 0xbdbdf21c]
def crcRow (k : Nat) : Nat := crcRows.getD k 0
theorem crcL_even {y : BitVec 32} (h : y.getLsbD 0 = false) : crcL y = y >>> 1 := by unfold crcL; rw [h]; simp
theorem crcLn_four_even (r : BitVec 32) : crcLn 4 ((r >>> 4) <<< 4) = r >>> 4 := by
  have e : ∀ k, k < 4 → ((r >>> 4) <<< 4).getLsbD k = false := by
    intro k hk
    rw [BitVec.getLsbD_shiftLeft]
    simp [hk]
  have e1 := e 1 (by omega)
  have e2 := e 2 (by omega)
  have e3 := e 3 (by omega)
  have f1 : ((r >>> 4) <<< 4 >>> 1).getLsbD 0 = false := by rw [BitVec.getLsbD_ushiftRight]; exact e1
  have f2 : ((r >>> 4) <<< 4 >>> 1 >>> 1).getLsbD 0 = false := by rw [BitVec.getLsbD_ushiftRight, BitVec.getLsbD_ushiftRight]; exact e2
  have f3 : ((r >>> 4) <<< 4 >>> 1 >>> 1 >>> 1).getLsbD 0 = false := by rw [BitVec.getLsbD_ushiftRight, BitVec.getLsbD_ushiftRight, BitVec.getLsbD_ushiftRight]; exact e3
  show crcL (crcL (crcL (crcL ((r >>> 4) <<< 4)))) = _
  rw [crcL_even (e 0 (by omega)), crcL_even f1, crcL_even f2, crcL_even f3]
  apply BitVec.eq_of_toNat_eq
  have := r.isLt
  simp only [BitVec.toNat_ushiftRight, BitVec.toNat_shiftLeft, Nat.shiftRight_eq_div_pow, Nat.shiftLeft_eq]
  omega
theorem crc_split (r : BitVec 32) : r = ((r >>> 4) <<< 4) ^^^ BitVec.ofNat 32 (r.toNat % 16) := by
  apply BitVec.eq_of_getLsbD_eq
  intro i hi
  rw [BitVec.getLsbD_xor, BitVec.getLsbD_shiftLeft, BitVec.getLsbD_ushiftRight, BitVec.getLsbD_ofNat, show r.toNat % 16 = r.toNat % 2 ^ 4 by rfl, Nat.testBit_mod_two_pow]
  by_cases h4 : i < 4
  · simp [h4, hi, BitVec.getLsbD]
  · simp [h4, hi, show 4 + (i - 4) = i by omega]
def crcHalf (r : BitVec 32) : BitVec 32 := (r >>> 4) ^^^ BitVec.ofNat 32 (crcRow (r.toNat % 16))
theorem crcHalf_eq (r : BitVec 32) : crcHalf r = crcLn 4 r := by
  have h : ∀ k : Fin 16, BitVec.ofNat 32 (crcRow k.val) = crcLn 4 (BitVec.ofNat 32 k.val) := by decide +kernel
  have hk := h ⟨r.toNat % 16, by omega⟩
  unfold crcHalf
  rw [hk, ← crcLn_four_even r, ← crcLn_xor, ← crc_split]
theorem crcLn_add : ∀ (m n : Nat) (r : BitVec 32), crcLn (m + n) r = crcLn n (crcLn m r)
  | 0, n, r => by rw [Nat.zero_add]; rfl
  | m + 1, n, r => by rw [show m + 1 + n = (m + n) + 1 by omega, crcLn, crcLn_add m n]; rfl
theorem crcByte_half (s : BitVec 32) (c : UInt8) : crcByte s c = crcHalf (crcHalf (s ^^^ BitVec.ofNat 32 c.toNat)) := by
  rw [crcByte_val, crcHalf_eq, crcHalf_eq, ← crcLn_add 4 4]
theorem crcRow_lt (k : Nat) : crcRow k < 4294967296 := by
  by_cases h : k < 16
  · have : ∀ i : Fin 16, crcRow i.val < 4294967296 := by decide
    exact this ⟨k, h⟩
  · unfold crcRow
    rw [List.getD_eq_getElem?_getD, List.getElem?_eq_none (by simp [crcRows]; omega)]
    decide

/-! sums -/
def crcOnes : BitVec 32 := 0xffffffff#32
def crcSum (l : List UInt8) : BitVec 32 := ~~~ (crcList crcOnes l)
/-- a sum's bytes -/
def crcTail (s : BitVec 32) : List UInt8 := [UInt8.ofNat s.toNat, UInt8.ofNat (s.toNat / 256), UInt8.ofNat (s.toNat / 65536), UInt8.ofNat (s.toNat / 16777216)]
theorem bval_append : ∀ x y : List Bool, bval (x ++ y) = bval x + 2 ^ x.length * bval y
  | [], y => by simp [bval]
  | b :: x, y => by
    rw [List.cons_append, bval, bval_append x y, bval, List.length_cons, Nat.pow_succ, Nat.mul_add]
    rw [Nat.mul_comm (2 ^ x.length) 2, Nat.mul_assoc]
    omega
theorem bval_tail (s : BitVec 32) : bval (bitsOf (crcTail s)) = s.toNat := by
  have := s.isLt
  simp only [crcTail, bitsOf, List.flatMap_cons, List.flatMap_nil, List.append_nil, bval_append, byteBits_length, bval_byte, UInt8.toNat_ofNat']
  omega
/-- a frame whose sum is right leaves one and the same register -/
theorem crc_residue (l : List UInt8) : crcBits crcOnes (bitsOf (l ++ crcTail (crcSum l))) = crcLn 32 crcOnes := by
  rw [bitsOf_append, crcBits_append, ← crcList_bits l]
  have ht := crcBits_val (bitsOf (crcTail (crcSum l))) (crcList crcOnes l) (by rw [bitsOf_length]; simp [crcTail])
  rw [ht, bitsOf_length, bval_tail]
  have h : crcList crcOnes l ^^^ BitVec.ofNat 32 (crcSum l).toNat = crcOnes := by
    rw [BitVec.ofNat_toNat, BitVec.setWidth_eq]
    unfold crcSum
    apply BitVec.eq_of_getLsbD_eq
    intro i hi
    have h1 : crcOnes.getLsbD i = true := by
      have : ∀ k : Fin 32, crcOnes.getLsbD k.val = true := by decide
      exact this ⟨i, hi⟩
    rw [BitVec.getLsbD_xor, BitVec.getLsbD_not, h1]
    cases (crcList crcOnes l).getLsbD i <;> simp [hi]
  rw [h]
  rfl
/-- two frames with right sums don't differ within 32 bits in a row -/
theorem crc_two {x y : List UInt8} {p q : Nat} {m : List Bool} (hx : crcBits crcOnes (bitsOf x) = crcLn 32 crcOnes) (hy : crcBits crcOnes (bitsOf y) = crcLn 32 crcOnes) (hl : x.length = y.length)
    (hd : List.zipWith (· != ·) (bitsOf x) (bitsOf y) = List.replicate p false ++ m ++ List.replicate q false) (hm : m.length ≤ 32) (ht : true ∈ m) : False := by
  have h := crcBits_xor (bitsOf x) (bitsOf y) crcOnes crcOnes (by rw [bitsOf_length, bitsOf_length, hl])
  rw [hx, hy, BitVec.xor_self, BitVec.xor_self, hd] at h
  exact crc_burst p q m hm ht h.symm
end Go.Proofs.YtfheocdciekfoaaDoor
/- Contracts of crc.half, Step, Of, Begin, End, frame.tail, and of the reference's Step and Sum, for any bytes and every world. -/
namespace Go.Proofs.YtfheocdciekfoaaDoor
open Go.RowKit

theorem rd_two {w w' : World} {B : Nat} {A : Option Addr} {xs : List Value} (h : Rd w w.heap.size A xs) (hb : Below w.heap.size w w') (hB : B = w'.heap.size) : Rd w' B A xs := (h.below hb).more (by rw [hB]; exact hb.size)

theorem crc_el (k : Nat) (h : k < 16) : ([.int .u32 0, .int .u32 498536548, .int .u32 997073096, .int .u32 651767980, .int .u32 1994146192, .int .u32 1802195444, .int .u32 1303535960, .int .u32 1342533948, .int .u32 3988292384, .int .u32 4027552580, .int .u32 3604390888, .int .u32 3412177804, .int .u32 2607071920, .int .u32 2262029012, .int .u32 2685067896, .int .u32 3183342108] : List Value)[k]'h = .int .u32 (crcRow k : Nat) := by
  have hall : ∀ j : Fin 16, ([.int .u32 0, .int .u32 498536548, .int .u32 997073096, .int .u32 651767980, .int .u32 1994146192, .int .u32 1802195444, .int .u32 1303535960, .int .u32 1342533948, .int .u32 3988292384, .int .u32 4027552580, .int .u32 3604390888, .int .u32 3412177804, .int .u32 2607071920, .int .u32 2262029012, .int .u32 2685067896, .int .u32 3183342108] : List Value)[j.val]'j.isLt = Value.int .u32 (crcRow j.val : Nat) := by
    intro j
    match j with
    | ⟨0, _⟩ | ⟨1, _⟩ | ⟨2, _⟩ | ⟨3, _⟩ | ⟨4, _⟩ | ⟨5, _⟩ | ⟨6, _⟩ | ⟨7, _⟩ | ⟨8, _⟩ | ⟨9, _⟩ | ⟨10, _⟩ | ⟨11, _⟩ | ⟨12, _⟩ | ⟨13, _⟩ | ⟨14, _⟩ | ⟨15, _⟩ => rfl
    | ⟨n + 16, h⟩ => omega
  exact hall ⟨k, h⟩
theorem and15 (n : Nat) : n &&& 15 = n % 16 := by
  rw [show (15 : Nat) = 2 ^ 4 - 1 by decide, Nat.and_two_pow_sub_one_eq_mod]
set_option maxHeartbeats 400000 in
theorem half_any (r : BitVec 32) (w : World) :
    Calls Tryd.prog 115 #[.int .u32 (r.toNat : Nat)] w fun e w' => e = .returned (.int .u32 ((crcHalf r).toNat : Nat)) ∧ Below w.heap.size w w' := by
  have hr := r.isLt
  have hand : bits .and .u32 (r.toNat : Int) 15 = ((r.toNat % 16 : Nat) : Int) := by
    rw [show (15 : Int) = ((15 : Nat) : Int) by rfl, u32_and_nat _ _ hr (by omega), and15]
  have hel := crc_el (r.toNat % 16)
  have hlt : r.toNat % 16 < 16 := by omega
  have HX : Hid (bits .xor .u32 ((r.toNat : Int) / 16) (crcRow (r.toNat % 16) : Nat) = ((crcHalf r).toNat : Nat)) := by
    show _ = _
    have := crcRow_lt (r.toNat % 16)
    rw [show ((r.toNat : Int) / 16) = ((r.toNat / 16 : Nat) : Int) by omega, u32_xor_nat _ _ (by omega) this]
    unfold crcHalf
    rw [BitVec.toNat_xor, BitVec.toNat_ofNat, BitVec.toNat_ushiftRight, Nat.shiftRight_eq_div_pow, Nat.mod_eq_of_lt (a := crcRow _) this]
  go_enter Tryd.func115, Tryd.ntmps115
  go_wp2
  go_ret
  exact ⟨rt1 (vint HX.out), (Below.refl _ _).alloc (Nat.le_refl _) _⟩

theorem begin_crc (w : World) : Calls Tryd.prog 98 #[] w fun e w' => e = .returned (.int .u32 (crcOnes.toNat : Nat)) ∧ w = w' := by
  go_enter Tryd.func98, Tryd.ntmps98
  go_wp2
  go_ret
  exact ⟨rfl, rfl⟩
theorem end_crc (r : BitVec 32) (w : World) : Calls Tryd.prog 100 #[.int .u32 (r.toNat : Nat)] w fun e w' => e = .returned (.int .u32 ((~~~ r).toNat : Nat)) ∧ w = w' := by
  have hr := r.isLt
  go_enter Tryd.func100, Tryd.ntmps100
  go_wp2
  go_ret
  refine ⟨rt1 (vint ?_), rfl⟩
  rw [show IntKind.u32.max = ((4294967295 : Nat) : Int) by decide, u32_xor_nat _ _ (by omega) hr]
  have h : (BitVec.allOnes 32 ^^^ r) = ~~~ r := by rw [BitVec.allOnes_xor]
  have h2 := congrArg BitVec.toNat h
  rw [BitVec.toNat_xor] at h2
  rw [BitVec.toNat_not] at h2
  exact congrArg Nat.cast h2

theorem crcList_snoc (s : BitVec 32) (l : List UInt8) (k : Nat) (h : k < l.length) : crcList s (l.take (k + 1)) = crcHalf (crcHalf (crcList s (l.take k) ^^^ BitVec.ofNat 32 l[k].toNat)) := by
  rw [List.take_succ_eq_append_getElem h, crcList_append, ← crcByte_half]
  rfl
theorem xor_byte (s : BitVec 32) (c : UInt8) : bits .xor .u32 (s.toNat : Int) (c.toNat : Int) = ((s.toNat ^^^ c.toNat : Nat) : Int) := by
  have := c.toNat_lt
  rw [u32_xor_nat _ _ s.isLt (by omega)]
theorem xor_bv (s : BitVec 32) (c : UInt8) : s.toNat ^^^ c.toNat = (s ^^^ BitVec.ofNat 32 c.toNat).toNat := by
  have := c.toNat_lt
  rw [BitVec.toNat_xor, BitVec.toNat_ofNat, Nat.mod_eq_of_lt (by omega)]
set_option maxHeartbeats 400000 in
theorem step_crc (r : BitVec 32) (l : List UInt8) (A : Option Addr) (c B : Nat) (w : World) (hr : Rd w B A (bcells l)) (hB : B ≤ w.heap.size) (hl : l.length ≤ 1099511627776) :
    Calls Tryd.prog 99 #[.int .u32 (r.toNat : Nat), .slice A l.length c] w fun e w' => e = .returned (.int .u32 ((crcList r l).toNat : Nat)) ∧ Below w.heap.size w w' := by
  have HR := Lib.hid hr
  clear hr
  go_enter Tryd.func99, Tryd.ntmps99
  go_wp2
  go_loopw [0, 9] (fun v0 v9 wr => ∃ k : Nat, k ≤ l.length ∧ v9 = .int .i64 k ∧ v0 = .int .u32 ((crcList r (l.take k)).toNat : Nat) ∧ Below w.heap.size w wr) (fun _ i _ => l.length - (intOf i).toNat)
  case atStart => exact ⟨0, by omega, rfl, rfl, Below.refl _ _⟩
  case round =>
    obtain ⟨k, hk, rfl, rfl, hbr⟩ := hrel
    by_cases hlt : k < l.length
    · obtain ⟨ab, ao, rfl, hab, hcell⟩ := (HR.out.below (hbr.mono hB)).byte hlt
      have hs := Lib.hid (crcList_snoc r l k hlt)
      have hx := xor_byte (crcList r (l.take k)) l[k]
      have hb8 := l[k].toNat_lt
      go_wp2_with fail
      rw [xor_bv]
      refine (half_any _ _).mono ?_
      rintro e w1 ⟨rfl, h1⟩
      go_wp2_with fail
      refine (half_any _ _).mono ?_
      rintro e w2 ⟨rfl, h2⟩
      go_wp2
      go_roundw
      case rel => exact ⟨k + 1, by omega, by go_num, by rw [hs.out], (hbr.trans (h1.mono hbr.size)).trans (h2.mono (Nat.le_trans hbr.size h1.size))⟩
      case measure => simp [intOf]; omega
    · have hkl : k = l.length := by omega
      subst hkl
      go_wp2
      go_ret
      exact ⟨rt1 (vint (by rw [List.take_length])), hbr⟩

theorem crcSum_nat (l : List UInt8) : (crcSum l).toNat = 4294967295 - (crcList crcOnes l).toNat := by unfold crcSum; rw [BitVec.toNat_not]
theorem of_crc (g o cap : Nat) (l : List UInt8) (A : Option Addr) (c B : Nat) (w : World) (hg : w.cell? ⟨g, o, none⟩ = some (.slice A l.length c)) (hgB : g < B) (hr : Rd w B A (bcells l)) (hB : B ≤ w.heap.size) (hl : l.length ≤ 1099511627776) :
    Calls Tryd.prog 71 #[.slice (some ⟨g, o, none⟩) 1 cap] w fun e w' => e = .returned (.int .u32 ((crcSum l).toNat : Nat)) ∧ Below w.heap.size w w' := by
  have HR := Lib.hid hr
  have HG := Lib.hid hg
  clear hr hg
  go_enter Tryd.func71, Tryd.ntmps71
  go_wp2_with fail
  refine (begin_crc _).mono ?_
  rintro e w1 ⟨rfl, rfl⟩
  go_wp2_with fail
  go_loopw [3, 9] (fun v3 v9 wr => ∃ k : Nat, k ≤ 1 ∧ v9 = .int .i64 k ∧ v3 = .int .u32 ((crcList crcOnes (if k = 0 then [] else l)).toNat : Nat) ∧ Below w.heap.size w wr) (fun _ i _ => 1 - (intOf i).toNat)
  case atStart => exact ⟨0, by omega, rfl, rfl, Below.refl _ _⟩
  case round =>
    obtain ⟨k, hk, rfl, rfl, hbr⟩ := hrel
    by_cases hlt : k = 0
    · subst hlt
      have hc : wr.cell? ⟨g, o, none⟩ = some (.slice A l.length c) := (hbr.cell (p := ⟨g, o, none⟩) (by show g < _; omega)).trans HG.out
      go_wp2_with fail
      refine (step_crc crcOnes l A c B wr (HR.out.below (hbr.mono hB)) (Nat.le_trans hB hbr.size) hl).mono ?_
      rintro e w1 ⟨rfl, h1⟩
      go_wp2
      go_roundw
      case rel => exact ⟨1, by omega, rfl, rfl, hbr.trans (h1.mono hbr.size)⟩
      case measure => simp [intOf]
    · have hkl : k = 1 := by omega
      subst hkl
      go_wp2_with fail
      refine (end_crc _ _).mono ?_
      rintro e w1 ⟨rfl, rfl⟩
      go_wp2
      go_ret
      exact ⟨rt1 (vint (by rw [crcSum_nat])), hbr⟩

/-! the reference, bit by bit -/
theorem crcBit_nat (s : BitVec 32) (b : Bool) : (crcBit s b).toNat = if s.toNat % 2 = b.toNat then s.toNat / 2 else s.toNat / 2 ^^^ 3988292384 := by
  have h1 : (s ^^^ bv1 b) >>> 1 = s >>> 1 := by
    apply BitVec.eq_of_getLsbD_eq
    intro i hi
    rw [BitVec.getLsbD_ushiftRight, BitVec.getLsbD_ushiftRight, BitVec.getLsbD_xor]
    have : (bv1 b).getLsbD (1 + i) = false := by cases b <;> simp [bv1, BitVec.getLsbD_one]
    rw [this, Bool.xor_false]
  have h2 : (s ^^^ bv1 b).getLsbD 0 = (s.getLsbD 0 != b) := by
    rw [BitVec.getLsbD_xor]
    cases b <;> simp [bv1]
  have h3 : s.getLsbD 0 = decide (s.toNat % 2 = 1) := by simp [BitVec.getLsbD, Nat.testBit_zero]
  unfold crcBit crcL
  rw [h1, h2, h3, BitVec.toNat_xor, BitVec.toNat_ushiftRight, Nat.shiftRight_eq_div_pow]
  rcases Nat.mod_two_eq_zero_or_one s.toNat with h | h <;> rw [h] <;> cases b <;> simp [crcPoly]
theorem byteBits_snoc (c : UInt8) (j : Nat) (h : j < 8) : (byteBits c).take (j + 1) = (byteBits c).take j ++ [c.toNat.testBit j] := by
  rw [List.take_succ_eq_append_getElem (by rw [byteBits_length]; exact h)]
  simp [byteBits]
theorem testBit_mod (n j : Nat) : (n.testBit j).toNat = n / 2 ^ j % 2 := by
  rw [Nat.testBit_eq_decide_div_mod_eq]
  rcases Nat.mod_two_eq_zero_or_one (n / 2 ^ j) with h | h <;> simp [h]
set_option maxHeartbeats 400000 in
theorem refStep_any (r : BitVec 32) (l : List UInt8) (A : Option Addr) (c B : Nat) (w : World) (hr : Rd w B A (bcells l)) (hl : l.length ≤ 1099511627776) :
    Calls Tryd.prog 105 #[.int .u32 (r.toNat : Nat), .slice A l.length c] w fun e w' => e = .returned (.int .u32 ((crcList r l).toNat : Nat)) ∧ w = w' := by
  have HR := Lib.hid hr
  clear hr
  go_enter Tryd.func105, Tryd.ntmps105
  go_wp2
  go_loop [0, 5] (fun v0 v5 => ∃ (k : Nat) (s : BitVec 32), k ≤ l.length ∧ v5 = .int .i64 k ∧ v0 = .int .u32 (s.toNat : Nat) ∧ Hid (s = crcList r (l.take k))) (fun _ i => l.length - (intOf i).toNat)
  case atStart => exact ⟨0, r, by omega, rfl, rfl, rfl⟩
  case round =>
    obtain ⟨k, s, hk, rfl, rfl, hs⟩ := hrel
    by_cases hlt : k < l.length
    · obtain ⟨ab, ao, rfl, hab, hcell⟩ := HR.out.byte hlt
      have hb8 := l[k].toNat_lt
      go_wp2
      go_loop [0, 6, 7] (fun v0 v6 v7 => ∃ (j x : Nat) (s' : BitVec 32), j ≤ 8 ∧ v7 = .int .i64 j ∧ x < 256 ∧ v6 = .int .u8 x ∧ Hid (x = l[k].toNat / 2 ^ j) ∧ v0 = .int .u32 (s'.toNat : Nat) ∧ Hid (s' = crcBits s ((byteBits l[k]).take j))) (fun _ _ i => 8 - (intOf i).toNat)
      case atStart => exact ⟨0, _, s, by omega, rfl, hb8, rfl, by show _ = _; simp, rfl, rfl⟩
      case round =>
        obtain ⟨j, x, s', hj, rfl, hx, rfl, hxe, rfl, hs'⟩ := hrel
        have hs32 := s'.isLt
        by_cases hj8 : j < 8
        · have HN := Lib.hid (show crcBits s ((byteBits l[k]).take (j + 1)) = crcBit s' (l[k].toNat.testBit j) by rw [byteBits_snoc _ _ hj8, crcBits_append, ← hs'.out]; rfl)
          have HB := Lib.hid (show (l[k].toNat.testBit j).toNat = x % 2 by rw [testBit_mod, hxe.out])
          have HX := Lib.hid (show bits .xor .u32 ((s'.toNat : Int) / 2) 3988292384 = ((s'.toNat / 2 ^^^ 3988292384 : Nat) : Int) by
            rw [show ((s'.toNat : Int) / 2) = ((s'.toNat / 2 : Nat) : Int) by omega]
            exact u32_xor_nat _ 3988292384 (by omega) (by omega))
          have HQ := Lib.hid (crcBit_nat s' (l[k].toNat.testBit j))
          by_cases hq : x % 2 = s'.toNat % 2
          · have hq1 : (((x : Int) % 2) != ((s'.toNat : Int) % 2)) = false := by simp; omega
            go_wp2
            go_round
            case rel =>
              refine ⟨j + 1, x / 2, crcBit s' (l[k].toNat.testBit j), by omega, by go_num, by omega, by rfl, ?_, ?_, HN.out.symm⟩
              · show _ = _
                rw [hxe.out, Nat.div_div_eq_div_mul, Nat.pow_succ]
              · exact vint (by rw [HQ.out, if_pos (by rw [HB.out]; omega)]; rfl)
            case measure => simp [intOf]; omega
          · have hq1 : (((x : Int) % 2) != ((s'.toNat : Int) % 2)) = true := by simp; omega
            go_wp2
            go_round
            case rel =>
              refine ⟨j + 1, x / 2, crcBit s' (l[k].toNat.testBit j), by omega, by go_num, by omega, by rfl, ?_, ?_, HN.out.symm⟩
              · show _ = _
                rw [hxe.out, Nat.div_div_eq_div_mul, Nat.pow_succ]
              · exact vint (by rw [HQ.out, if_neg (by rw [HB.out]; omega)]; exact HX.out)
            case measure => simp [intOf]; omega
        · have hj' : j = 8 := by omega
          subst hj'
          go_wp2
          go_round
          case rel =>
            refine ⟨k + 1, s', by omega, by go_num, rfl, ?_⟩
            show _ = _
            rw [hs'.out, hs.out, List.take_of_length_le (l := byteBits l[k]) (by rw [byteBits_length]; omega), List.take_succ_eq_append_getElem hlt, crcList_append]
            rfl
          case measure => simp [intOf]; omega
    · have hkl : k = l.length := by omega
      subst hkl
      go_wp2
      go_ret
      exact ⟨rt1 (vint (by rw [hs.out, List.take_length])), rfl⟩
theorem refSum_any (l : List UInt8) (A : Option Addr) (c B : Nat) (w : World) (hr : Rd w B A (bcells l)) (hl : l.length ≤ 1099511627776) :
    Calls Tryd.prog 86 #[.slice A l.length c] w fun e w' => e = .returned (.int .u32 ((crcSum l).toNat : Nat)) ∧ w = w' := by
  have HR := Lib.hid hr
  clear hr
  have h32 := (crcList crcOnes l).isLt
  have HN := Lib.hid (crcSum_nat l)
  go_enter Tryd.func86, Tryd.ntmps86
  go_wp2_with fail
  refine (refStep_any crcOnes l A c B w HR.out hl).mono ?_
  rintro e w1 ⟨rfl, rfl⟩
  go_wp2
  go_ret
  exact ⟨rt1 (vint (by rw [HN.out]; omega)), rfl⟩
/-! a sum's bytes -/
theorem frame_tail (s : BitVec 32) (w : World) :
    Calls Tryd.prog 70 #[.int .u32 (s.toNat : Nat)] w fun e w' => e = .returned (.slice (some ⟨w.heap.size, 0, none⟩) 4 4) ∧ w' = w.alloc (.cells (bcells (crcTail s)).toArray 5) := by
  have hs := s.isLt
  have HT : Hid ((bcells (crcTail s)).toArray = #[.int .u8 ((s.toNat : Int) % 256), .int .u8 ((s.toNat : Int) / 256 % 256), .int .u8 ((s.toNat : Int) / 65536 % 256), .int .u8 ((s.toNat : Int) / 16777216)]) := by
    show _ = _
    simp only [bcells, crcTail, List.map_cons, List.map_nil, bcell, UInt8.toNat_ofNat']
    rw [show ((s.toNat / 16777216 % 2 ^ 8 : Nat) : Int) = (s.toNat : Int) / 16777216 by omega]
    congr
  go_enter Tryd.func70, Tryd.ntmps70
  go_wp2
  go_ret
  rw [HT.out]
  exact ⟨rfl, rfl⟩
end Go.Proofs.YtfheocdciekfoaaDoor
