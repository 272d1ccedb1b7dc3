/- Bytes in sevens: digits to a base, there and back. Plain: no program is named here. -/
import Derived.WalkKit
namespace Go.Proofs.YtfheocdciekfoaaDoor

/-- the lowest n digits of v to the base B -/
def digs (B : Nat) : Nat → Nat → List Nat
  | 0, _ => []
  | n + 1, v => v % B :: digs B n (v / B)
def ofDigs (B : Nat) : List Nat → Nat
  | [] => 0
  | d :: l => d + B * ofDigs B l
theorem digs_length (B : Nat) : ∀ n v, (digs B n v).length = n
  | 0, _ => rfl
  | n + 1, v => by rw [digs, List.length_cons, digs_length B n]
theorem digs_get (B : Nat) : ∀ (n v i : Nat) (h : i < (digs B n v).length), (digs B n v)[i] = v / B ^ i % B
  | 0, v, i, h => by simp [digs] at h
  | n + 1, v, 0, h => by simp [digs]
  | n + 1, v, i + 1, h => by
    have := digs_get B n (v / B) i (by simpa [digs] using h)
    simp only [digs, List.getElem_cons_succ]
    rw [this, Nat.div_div_eq_div_mul, Nat.pow_succ, Nat.mul_comm B]
theorem digs_snoc (B : Nat) : ∀ n v, digs B (n + 1) v = digs B n v ++ [v / B ^ n % B]
  | 0, v => by simp [digs]
  | n + 1, v => by
    rw [digs, digs_snoc B n, digs, List.cons_append, Nat.div_div_eq_div_mul, Nat.pow_succ, Nat.mul_comm B]
theorem digs_add_mul (B : Nat) (hB : 0 < B) : ∀ (n v m : Nat), digs B n (v + m * B ^ n) = digs B n v
  | 0, _, _ => rfl
  | n + 1, v, m => by
    have e : v + m * B ^ (n + 1) = v + B * (m * B ^ n) := by rw [Nat.pow_succ, ← Nat.mul_assoc, Nat.mul_comm B]
    rw [digs, digs, e, Nat.add_mul_mod_self_left, Nat.add_mul_div_left _ _ hB, digs_add_mul B hB n]
theorem ofDigs_digs (B : Nat) : ∀ n v, ofDigs B (digs B n v) = v % B ^ n
  | 0, v => by simp [digs, ofDigs, Nat.mod_one]
  | n + 1, v => by
    rw [digs, ofDigs, ofDigs_digs B n, Nat.pow_succ, Nat.mul_comm (B ^ n) B, Nat.mod_mul]
theorem digs_ofDigs (B : Nat) : ∀ l : List Nat, (∀ d ∈ l, d < B) → digs B l.length (ofDigs B l) = l
  | [], _ => rfl
  | d :: l, h => by
    have hd := h d (by simp)
    have hB : 0 < B := by omega
    rw [List.length_cons, digs, ofDigs, Nat.add_mul_mod_self_left, Nat.add_mul_div_left _ _ hB, Nat.mod_eq_of_lt hd, Nat.div_eq_of_lt hd, Nat.zero_add, digs_ofDigs B l fun x hx => h x (by simp [hx])]
theorem ofDigs_lt (B : Nat) : ∀ l : List Nat, (∀ d ∈ l, d < B) → ofDigs B l < B ^ l.length
  | [], _ => by simp [ofDigs]
  | d :: l, h => by
    have hd := h d (by simp)
    have := ofDigs_lt B l fun x hx => h x (by simp [hx])
    rw [ofDigs, List.length_cons, Nat.pow_succ, Nat.mul_comm (B ^ l.length) B]
    calc d + B * ofDigs B l < B + B * ofDigs B l := by omega
      _ = B * (ofDigs B l + 1) := by rw [Nat.mul_add, Nat.mul_one, Nat.add_comm]
      _ ≤ B * B ^ l.length := Nat.mul_le_mul_left _ this
theorem ofDigs_append (B : Nat) : ∀ x y : List Nat, ofDigs B (x ++ y) = ofDigs B x + B ^ x.length * ofDigs B y
  | [], y => by simp [ofDigs]
  | d :: x, y => by
    rw [List.cons_append, ofDigs, ofDigs_append B x y, ofDigs, List.length_cons, Nat.pow_succ, Nat.mul_add, Nat.mul_comm (B ^ x.length) B, Nat.mul_assoc]
    omega

/-- bytes as one number, the lowest first -/
def v256 (l : List UInt8) : Nat := ofDigs 256 (l.map (·.toNat))
/-- bytes as one number, seven bits each -/
def v128 (l : List UInt8) : Nat := ofDigs 128 (l.map (·.toNat % 128))
theorem v256_lt (l : List UInt8) : v256 l < 256 ^ l.length := by
  have := ofDigs_lt 256 (l.map (·.toNat)) (by intro d hd; obtain ⟨c, _, rfl⟩ := List.mem_map.1 hd; exact c.toNat_lt)
  simpa [v256] using this
theorem v128_lt (l : List UInt8) : v128 l < 128 ^ l.length := by
  have := ofDigs_lt 128 (l.map (·.toNat % 128)) (by intro d hd; obtain ⟨c, _, rfl⟩ := List.mem_map.1 hd; omega)
  simpa [v128] using this
theorem v256_snoc (l : List UInt8) (c : UInt8) : v256 (l ++ [c]) = v256 l + c.toNat * 256 ^ l.length := by
  simp only [v256, List.map_append, ofDigs_append, List.map_cons, List.map_nil, ofDigs, List.length_map, Nat.mul_zero, Nat.add_zero]
  rw [Nat.mul_comm]
theorem v128_snoc (l : List UInt8) (c : UInt8) : v128 (l ++ [c]) = v128 l + c.toNat % 128 * 128 ^ l.length := by
  simp only [v128, List.map_append, ofDigs_append, List.map_cons, List.map_nil, ofDigs, List.length_map, Nat.mul_zero, Nat.add_zero]
  rw [Nat.mul_comm]
/-- bytes in sevens: each packed byte has its highest bit -/
def sevOf (n v : Nat) : List UInt8 := (digs 128 n v).map fun d => UInt8.ofNat (128 + d)
def sevPack (l : List UInt8) : List UInt8 := sevOf ((8 * l.length + 6) / 7) (v256 l)
def bytesOfNat (n v : Nat) : List UInt8 := (digs 256 n v).map fun d => UInt8.ofNat d
def highB (l : List UInt8) : Bool := l.all fun c => decide (128 ≤ c.toNat)
def sevUnpack (b : List UInt8) : Option (List UInt8) :=
  let n := b.length * 7 / 8
  if highB b = true ∧ (8 * n + 6) / 7 = b.length ∧ v128 b < 256 ^ n then some (bytesOfNat n (v128 b)) else none
theorem sevOf_length (n v : Nat) : (sevOf n v).length = n := by simp [sevOf, digs_length]
theorem sevPack_length (l : List UInt8) : (sevPack l).length = (8 * l.length + 6) / 7 := sevOf_length _ _
theorem bytesOfNat_length (n v : Nat) : (bytesOfNat n v).length = n := by simp [bytesOfNat, digs_length]
theorem bytesOf_v256 (l : List UInt8) : bytesOfNat l.length (v256 l) = l := by
  unfold bytesOfNat v256
  have h := digs_ofDigs 256 (l.map (·.toNat)) (by intro d hd; obtain ⟨c, _, rfl⟩ := List.mem_map.1 hd; exact c.toNat_lt)
  rw [List.length_map] at h
  rw [h, List.map_map]
  conv => rhs; rw [← List.map_id l]
  apply List.map_congr_left
  intro c _
  simp
theorem digs_lt (B : Nat) (hB : 0 < B) : ∀ (n v : Nat), ∀ d ∈ digs B n v, d < B
  | 0, _, d, h => by simp [digs] at h
  | n + 1, v, d, h => by
    rcases List.mem_cons.1 h with rfl | h
    · exact Nat.mod_lt _ hB
    · exact digs_lt B hB n _ d h
theorem v256_bytesOf (n v : Nat) : v256 (bytesOfNat n v) = v % 256 ^ n := by
  unfold v256 bytesOfNat
  rw [List.map_map, ← ofDigs_digs 256 n v]
  congr 1
  conv => rhs; rw [← List.map_id (digs 256 n v)]
  apply List.map_congr_left
  intro d hd
  have := digs_lt 256 (by omega) n v d hd
  simp; omega
theorem v128_sevOf (n v : Nat) : v128 (sevOf n v) = v % 128 ^ n := by
  unfold v128 sevOf
  rw [List.map_map, ← ofDigs_digs 128 n v]
  congr 1
  conv => rhs; rw [← List.map_id (digs 128 n v)]
  apply List.map_congr_left
  intro d hd
  have := digs_lt 128 (by omega) n v d hd
  simp; omega
theorem highB_sevOf (n v : Nat) : highB (sevOf n v) = true := by
  unfold highB sevOf
  rw [List.all_eq_true]
  intro c hc
  obtain ⟨d, hd, rfl⟩ := List.mem_map.1 hc
  have := digs_lt 128 (by omega) n v d hd
  simp; omega
theorem sevOf_v128 (b : List UInt8) (h : highB b = true) : sevOf b.length (v128 b) = b := by
  unfold sevOf v128
  have hd := digs_ofDigs 128 (b.map (·.toNat % 128)) (by intro d hd; obtain ⟨c, _, rfl⟩ := List.mem_map.1 hd; omega)
  rw [List.length_map] at hd
  rw [hd, List.map_map]
  conv => rhs; rw [← List.map_id b]
  apply List.map_congr_left
  intro c hc
  have h1 : 128 ≤ c.toNat := by
    have := List.all_eq_true.1 h c hc
    simpa using this
  have h2 := c.toNat_lt
  show UInt8.ofNat (128 + c.toNat % 128) = c
  rw [show 128 + c.toNat % 128 = c.toNat by omega]
  simp
theorem pow_7_8 (a b : Nat) (h : 8 * a ≤ 7 * b) : 256 ^ a ≤ 128 ^ b := by
  rw [show (256 : Nat) = 2 ^ 8 by decide, show (128 : Nat) = 2 ^ 7 by decide, ← Nat.pow_mul, ← Nat.pow_mul]
  exact Nat.pow_le_pow_right (by omega) h
theorem sevUnpack_pack (l : List UInt8) : sevUnpack (sevPack l) = some l := by
  have hv := v256_lt l
  have hp := pow_7_8 l.length ((8 * l.length + 6) / 7) (by omega)
  have hv2 : v128 (sevPack l) = v256 l := by rw [sevPack, v128_sevOf, Nat.mod_eq_of_lt (by omega)]
  have hn : (8 * l.length + 6) / 7 * 7 / 8 = l.length := by omega
  unfold sevUnpack
  simp only [hv2, sevPack_length, hn]
  rw [if_pos ⟨highB_sevOf _ _, trivial, hv⟩, bytesOf_v256]
theorem sevPack_unpack {b l : List UInt8} (h : sevUnpack b = some l) : b = sevPack l := by
  unfold sevUnpack at h
  simp only at h
  split at h
  · rename_i hc
    obtain ⟨h1, h2, h3⟩ := hc
    injection h with h
    subst h
    rw [sevPack, bytesOfNat_length, v256_bytesOf, Nat.mod_eq_of_lt h3, h2, sevOf_v128 b h1]
  · cases h
end Go.Proofs.YtfheocdciekfoaaDoor
