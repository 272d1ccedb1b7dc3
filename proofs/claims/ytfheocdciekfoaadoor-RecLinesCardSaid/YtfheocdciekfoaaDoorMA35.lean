/- Texts of this proof joined: RefSeven, RefSeven2. -/
import Derived.Test.YtfheocdciekfoaaDoorMA34
/- Contracts of the reference's Bits and Pack (06), for any bytes, every world. -/
namespace Go.Proofs.YtfheocdciekfoaaDoor
open Go.RowKit

/-- the lowest n bits of v, each in a byte of its own -/
def bitsN (n v : Nat) : List UInt8 := (digs 2 n v).map fun d => UInt8.ofNat d
theorem bitsN_length (n v : Nat) : (bitsN n v).length = n := by simp [bitsN, digs_length]
theorem bitsN_snoc (n v : Nat) : bitsN (n + 1) v = bitsN n v ++ [UInt8.ofNat (v / 2 ^ n % 2)] := by simp [bitsN, digs_snoc]
theorem bitsN_get (n v k : Nat) (h : k < (bitsN n v).length) : (bitsN n v)[k].toNat = v / 2 ^ k % 2 := by
  have h2 : k < (digs 2 n v).length := by simpa [bitsN] using h
  simp only [bitsN, List.getElem_map, digs_get, UInt8.toNat_ofNat']
  omega
theorem ofDigs_get (B : Nat) (hB : 0 < B) : ∀ (l : List Nat), (∀ d ∈ l, d < B) → ∀ (i : Nat) (h : i < l.length), ofDigs B l / B ^ i % B = l[i]
  | [], _, i, h => by simp at h
  | d :: l, hl, 0, h => by
    have := hl d (by simp)
    simp [ofDigs, Nat.mod_eq_of_lt this]
  | d :: l, hl, i + 1, h => by
    have hd := hl d (by simp)
    have := ofDigs_get B hB l (fun x hx => hl x (by simp [hx])) i (by simpa using h)
    rw [ofDigs, Nat.pow_succ, Nat.mul_comm (B ^ i) B, ← Nat.div_div_eq_div_mul, Nat.add_mul_div_left _ _ hB, Nat.div_eq_of_lt hd, Nat.zero_add, this]
    simp
theorem v256_get (l : List UInt8) (i : Nat) (h : i < l.length) : v256 l / 256 ^ i % 256 = l[i].toNat := by
  have := ofDigs_get 256 (by omega) (l.map (·.toNat)) (by intro d hd; obtain ⟨c, _, rfl⟩ := List.mem_map.1 hd; exact c.toNat_lt) i (by simpa using h)
  simpa [v256] using this
theorem v128_get (l : List UInt8) (i : Nat) (h : i < l.length) : v128 l / 128 ^ i % 128 = l[i].toNat % 128 := by
  have := ofDigs_get 128 (by omega) (l.map (·.toNat % 128)) (by intro d hd; obtain ⟨c, _, rfl⟩ := List.mem_map.1 hd; omega) i (by simpa using h)
  simpa [v128] using this
theorem mod_bit (x m k : Nat) (hk : k < m) : x % 2 ^ m / 2 ^ k % 2 = x / 2 ^ k % 2 := by
  have e : 2 ^ m = 2 ^ k * 2 ^ (m - k) := by rw [← Nat.pow_add]; congr 1; omega
  rw [e, Nat.mod_mul_right_div_self, Nat.mod_mod_of_dvd]
  exact ⟨2 ^ (m - k - 1), by rw [← Nat.pow_succ']; congr 1; omega⟩
theorem bit_256 (l : List UInt8) (i k : Nat) (h : i < l.length) (hk : k < 8) : v256 l / 2 ^ (8 * i + k) % 2 = l[i].toNat / 2 ^ k % 2 := by
  rw [← v256_get l i h, pow_256, show (256 : Nat) = 2 ^ 8 by decide, mod_bit _ 8 k hk, Nat.div_div_eq_div_mul, ← Nat.pow_add]
theorem bit_128 (l : List UInt8) (i k : Nat) (h : i < l.length) (hk : k < 7) : v128 l / 2 ^ (7 * i + k) % 2 = l[i].toNat % 128 / 2 ^ k % 2 := by
  rw [← v128_get l i h, pow_128, show (128 : Nat) = 2 ^ 7 by decide, mod_bit _ 7 k hk, Nat.div_div_eq_div_mul, ← Nat.pow_add]
theorem bit_own {w : World} {base : Nat} {v : Value} {n m : Nat} {xs : List Value} (h : w.ownsRow base 5 1 v n (xs ++ [.int .u8 (m : Int)])) (hm : m < 256) :
    w.ownsRow base 5 1 v n (xs ++ bcells [UInt8.ofNat m]) := by
  have e : bcells [UInt8.ofNat m] = [.int .u8 (m : Int)] := by simp [bcells, bcell]; omega
  rw [e]
  exact h
set_option maxRecDepth 100000 in
set_option maxHeartbeats 1000000 in
theorem bits_any (l : List UInt8) (A : Option Addr) (c B : Nat) (w : World) (hr : Rd w B A (bcells l)) (hB : B ≤ w.heap.size) (hl : l.length ≤ 68719476736) :
    Calls Tryd.prog 84 #[.slice A l.length c] w fun e w' => ∃ v, e = .returned v ∧ w'.ownsRow w.heap.size 5 1 v (8 * l.length) (bcells (bitsN (8 * l.length) (v256 l))) ∧ Below w.heap.size w w' := by
  have HR := Lib.hid hr
  clear hr
  go_enter Tryd.func84, Tryd.ntmps84
  go_wp2_with fail
  go_loopw [3, 4] (fun v3 v4 wr => ∃ i : Nat, i ≤ l.length ∧ v4 = .int .i64 i ∧ wr.ownsRow w.heap.size 5 1 v3 (8 * i) (bcells (bitsN (8 * i) (v256 l))) ∧ Below w.heap.size w wr) (fun _ v4 _ => l.length - (intOf v4).toNat)
  case atStart => exact ⟨0, by omega, rfl, World.ownsRow_nil _ _ _ _, Below.refl _ _⟩
  case round =>
    obtain ⟨i, hi, rfl, hown, hbr⟩ := hrel
    have hsz := hbr.size
    by_cases hlt : i < l.length
    · obtain ⟨ab, ao, rfl, hab, hcell⟩ := (HR.out.below (hbr.mono hB)).byte hlt
      have hb8 := l[i].toNat_lt
      obtain ⟨wo, rfl⟩ : ∃ wo : World, wo = wr := ⟨_, rfl⟩
      go_wp2_with fail
      go_loopw [3, 5, 6] (fun v3 v5 v6 wr => ∃ k x : Nat, k ≤ 8 ∧ v6 = .int .i64 k ∧ v5 = .int .u8 x ∧ x < 256 ∧ Hid (x = l[i].toNat / 2 ^ k) ∧ wr.ownsRow w.heap.size 5 1 v3 (8 * i + k) (bcells (bitsN (8 * i + k) (v256 l))) ∧ Below w.heap.size w wr) (fun _ _ v6 _ => 8 - (intOf v6).toNat)
      case atStart => exact ⟨0, _, by omega, rfl, rfl, hb8, (by show _ = _; simp), hown, hbr⟩
      case round =>
        obtain ⟨k, x, hk, rfl, rfl, hx, hxe, hown', hbr'⟩ := hrel
        have hsz2 := hbr'.size
        by_cases hk8 : k < 8
        · have HB := Lib.hid (bit_256 l i k hlt hk8)
          go_wp2_with (at_builtin; refine wpList_app u8_ty rfl rfl rfl rfl (hown'.alloc _) (Rd.row (B := wr.heap.size + 1) (Go.heap_alloc_new wr _) (by omega)) rfl (by simp [Value.oneCell']) ?h63 ?hby ?hbase ?_)
          case h63 => simp only [maxLen]; omega
          case hby => omega
          case hbase => simp; omega
          intro v1 w3 hown3 hg3 _ _
          have HO := Lib.hid hown3
          have HG3 := Lib.hid hg3
          clear hown3 hg3
          go_wp2
          go_roundw
          case rel =>
            refine ⟨k + 1, x / 2, by omega, by go_num, by rfl, by omega, ?_, ?_, grown_below (hbr'.alloc hsz2 _) HG3.out (hown'.alloc _) (Nat.le_refl _) (by simp; omega)⟩
            · show _ = _
              rw [hxe.out, Nat.div_div_eq_div_mul, ← Nat.pow_succ]
            · rw [← Nat.add_assoc, bitsN_snoc, bcells_append, HB.out, ← hxe.out]
              exact bit_own (m := x % 2) (by simpa using HO.out) (by omega)
          case measure => simp [intOf]; omega
        · have hk' : k = 8 := by omega
          subst hk'
          go_wp2
          go_roundw
          case rel => exact ⟨i + 1, by omega, by go_num, by rw [Nat.mul_succ]; exact hown', hbr'⟩
          case measure => simp [intOf]; omega
    · have hil : i = l.length := by omega
      subst hil
      go_wp2
      go_ret
      exact ⟨_, rfl, hown, hbr⟩
def PackIn (l : List UInt8) (q : Nat) (wo : World) (v6 v7 v8 : Value) (wi : World) : Prop := ∃ t cc p : Nat, wi = wo ∧ t ≤ 7 ∧ v8 = .int .i64 (7 * (q : Int) + t) ∧ v6 = .int .i64 cc ∧ v7 = .int .i64 p ∧ cc ≤ 255 ∧ p ≤ 128 ∧ Hid (cc = 128 + v256 l / 2 ^ (7 * q) % 2 ^ t) ∧ Hid (p = 2 ^ t)
theorem mod_succ_bit (x t : Nat) : x % 2 ^ (t + 1) = x % 2 ^ t + x / 2 ^ t % 2 * 2 ^ t := by
  rw [Nat.pow_succ, Nat.mod_mul, Nat.mul_comm (2 ^ t) (x / 2 ^ t % 2)]
set_option maxRecDepth 100000 in
set_option maxHeartbeats 1000000 in
theorem refPack_any (l : List UInt8) (A : Option Addr) (c B : Nat) (w : World) (hr : Rd w B A (bcells l)) (hB : B ≤ w.heap.size) (hl : l.length ≤ 68719476736) :
    Calls Tryd.prog 47 #[.slice A l.length c] w fun e w' => ∃ v, e = .returned v ∧ w'.ownsRow w.heap.size 5 1 v (sevPack l).length (bcells (sevPack l)) ∧ Below w.heap.size w w' := by
  have HR := Lib.hid hr
  clear hr
  have HV := Lib.hid (v256_lt l)
  go_enter Tryd.func47, Tryd.ntmps47
  go_wp2_with fail
  refine (bits_any l A c B w HR.out hB hl).mono ?_
  rintro e w1 ⟨bv, rfl, hob, hb1⟩
  obtain ⟨N, hN⟩ : ∃ N, N = 8 * l.length := ⟨_, rfl⟩
  rw [← hN] at hob
  have hN2 : N ≤ 549755813888 := by omega
  have HN := Lib.hid hN
  clear hN
  have HOB := Lib.hid hob
  obtain ⟨A1, c1, rfl, hc1, hc2⟩ := own_form hob
  have HRB := Lib.hid (Rd.of_own hob)
  have B1 := Lib.hid hb1
  have hs1 := hb1.size
  clear hob hb1
  go_wp2_with fail
  go_loopw [4, 5] (fun v4 v5 wr => ∃ q : Nat, 7 * q ≤ N + 6 ∧ v5 = .int .i64 (7 * (q : Int)) ∧ wr.ownsRow w1.heap.size 5 1 v4 q (bcells (sevOf q (v256 l))) ∧ Below w1.heap.size w1 wr) (fun _ v5 _ => N + 7 - (intOf v5).toNat)
  case atStart => exact ⟨0, by omega, rfl, World.ownsRow_nil _ _ _ _, Below.refl _ _⟩
  case round =>
    obtain ⟨q, hq, rfl, hown, hbr⟩ := hrel
    have hsz := hbr.size
    by_cases hlt : 7 * q < N
    · have hlb : decide (7 * (q : Int) < (N : Int)) = true := by simp; omega
      go_wp2_with fail
      obtain ⟨wo, hwo⟩ : ∃ wo : World, wo = wr := ⟨_, rfl⟩
      subst hwo
      go_loopw [6, 7, 8] (fun v6 v7 v8 wi => PackIn l q wo v6 v7 v8 wi) (fun _ _ v8 _ => 7 * q + 7 - (intOf v8).toNat)
      case atStart => exact ⟨0, 128, 1, rfl, by omega, vint (by omega), rfl, rfl, by omega, by omega, (by show _ = _; simp [Nat.mod_one]), rfl⟩
      case round =>
        obtain ⟨t, cc, p, rfl, ht, rfl, rfl, rfl, hcc, hp, hce, hpe⟩ := hrel
        by_cases ht7 : t < 7
        · have HM := Lib.hid (mod_succ_bit (v256 l / 2 ^ (7 * q)) t)
          have HD := Lib.hid (show v256 l / 2 ^ (7 * q) / 2 ^ t = v256 l / 2 ^ (7 * q + t) by rw [Nat.div_div_eq_div_mul, ← Nat.pow_add])
          have hcb : 128 + v256 l / 2 ^ (7 * q) % 2 ^ (t + 1) ≤ 255 := by
            have h1 : v256 l / 2 ^ (7 * q) % 2 ^ (t + 1) < 2 ^ (t + 1) := Nat.mod_lt _ (Nat.pow_pos (by omega))
            have h2 : 2 ^ (t + 1) ≤ 2 ^ 7 := Nat.pow_le_pow_right (by omega) (by omega)
            omega
          have hpb : 2 ^ (t + 1) ≤ 128 := by
            have h2 : 2 ^ (t + 1) ≤ 2 ^ 7 := Nat.pow_le_pow_right (by omega) (by omega)
            omega
          have HCB := Lib.hid hcb
          have HPB := Lib.hid hpb
          clear hcb hpb
          by_cases hkN : 7 * q + t < N
          · obtain ⟨ab, ao, rfl, hab, hcell⟩ := (HRB.out.below hbr).byte (l := bitsN N (v256 l)) (by rw [bitsN_length]; exact hkN)
            rw [bitsN_get] at hcell
            rcases Nat.mod_two_eq_zero_or_one (v256 l / 2 ^ (7 * q + t)) with hb | hb
            all_goals
              rw [hb] at hcell
              have HB := Lib.hid hb
              clear hb
              go_wp2
              go_roundw
              case rel =>
                first
                | (refine ⟨t + 1, cc, p * 2, rfl, by omega, by go_num, rfl, by go_num, hcc, ?_, ?_, ?_⟩
                   · rw [hpe.out, ← Nat.pow_succ]; exact HPB.out
                   · show _ = _
                     rw [HM.out, HD.out, HB.out, hce.out]; omega
                   · show _ = _
                     rw [hpe.out, ← Nat.pow_succ])
                | (refine ⟨t + 1, cc + p, p * 2, rfl, by omega, by go_num, by go_num, by go_num, ?_, ?_, ?_, ?_⟩
                   · have h := HCB.out
                     rw [HM.out, HD.out, HB.out, ← hpe.out] at h
                     have h2 := hce.out
                     rw [← hpe.out] at h2
                     omega
                   · rw [hpe.out, ← Nat.pow_succ]; exact HPB.out
                   · show _ = _
                     rw [HM.out, HD.out, HB.out, hce.out, hpe.out]; omega
                   · show _ = _
                     rw [hpe.out, ← Nat.pow_succ])
              case measure => simp [intOf]; omega
          · have hz : v256 l / 2 ^ (7 * q + t) % 2 = 0 := by
              rw [Nat.div_eq_of_lt]
              have h1 := HV.out
              rw [pow_256, ← HN.out] at h1
              exact Nat.lt_of_lt_of_le h1 (Nat.pow_le_pow_right (by omega) (by omega))
            have HB := Lib.hid hz
            clear hz
            go_wp2
            go_roundw
            case rel =>
              refine ⟨t + 1, cc, p * 2, rfl, by omega, by go_num, rfl, by go_num, hcc, ?_, ?_, ?_⟩
              · rw [hpe.out, ← Nat.pow_succ]; exact HPB.out
              · show _ = _
                rw [HM.out, HD.out, HB.out, hce.out]; omega
              · show _ = _
                rw [hpe.out, ← Nat.pow_succ]
            case measure => simp [intOf]; omega
        · have ht' : t = 7 := by omega
          subst ht'
          go_wp2_with (at_builtin; refine wpList_app u8_ty rfl rfl rfl rfl (hown.alloc _) (Rd.row (B := wr.heap.size + 1) (Go.heap_alloc_new wr _) (by omega)) rfl (by simp [Value.oneCell']) ?h63 ?hby ?hbase ?_)
          case h63 => simp only [maxLen]; omega
          case hby => omega
          case hbase => simp; omega
          intro v1 w3 hown3 hg3 _ _
          have HO := Lib.hid hown3
          have HG3 := Lib.hid hg3
          clear hown3 hg3
          go_wp2
          go_roundw
          case rel =>
            refine ⟨q + 1, by omega, by go_num, ?_, grown_below (hbr.alloc hsz _) HG3.out (hown.alloc _) (Nat.le_refl _) (by simp; omega)⟩
            rw [sevOf_snoc, bcells_append, pow_128, show (128 : Nat) + v256 l / 2 ^ (7 * q) % 128 = cc by rw [hce.out]]
            refine bit_own (m := cc) ?_ (by omega)
            exact HO.out
          case measure => simp [intOf]; omega
    · have e : (8 * l.length + 6) / 7 = q := by have := HN.out; omega
      have E := Lib.hid e
      have h7 : ¬ 7 * (q : Int) < (N : Int) := by omega
      go_wp2
      go_ret
      refine ⟨_, rfl, ?_, B1.out.trans (hbr.mono hs1)⟩
      unfold sevPack
      rw [E.out, sevOf_length]
      exact own_more hown hs1
end Go.Proofs.YtfheocdciekfoaaDoor
/- Contract of the reference's Unpack (06), for any bytes, every world. -/
namespace Go.Proofs.YtfheocdciekfoaaDoor
open Go.RowKit

def BitsIn (l : List UInt8) (i : Nat) (w : World) (v5 v7 v8 : Value) (wr : World) : Prop :=
  ∃ k x : Nat, k ≤ 7 ∧ v8 = .int .i64 k ∧ v7 = .int .u8 x ∧ x < 128 ∧ Hid (∀ h : i < l.length, x = l[i].toNat % 128 / 2 ^ k) ∧ wr.ownsRow w.heap.size 5 1 v5 (7 * i + k) (bcells (bitsN (7 * i + k) (v128 l))) ∧ Below w.heap.size w wr
def ByteIn (W i : Nat) (wo : World) (v11 v12 : Value) (wi : World) : Prop :=
  ∃ j c : Nat, wi = wo ∧ j ≤ 8 ∧ v12 = .int .i64 ((j : Int) - 1) ∧ v11 = .int .i64 c ∧ c < 256 ∧ Hid (c = W / 2 ^ (8 * i + j) % 2 ^ (8 - j))
theorem byte_step (W i j : Nat) (h : j < 8) : W / 2 ^ (8 * i + j) % 2 ^ (8 - j) = 2 * (W / 2 ^ (8 * i + (j + 1)) % 2 ^ (8 - (j + 1))) + W / 2 ^ (8 * i + j) % 2 := by
  have e : 2 ^ (8 - j) = 2 * 2 ^ (8 - (j + 1)) := by rw [← Nat.pow_succ']; congr 1; omega
  rw [e, Nat.mod_mul, show 8 * i + (j + 1) = 8 * i + j + 1 by omega, Nat.pow_succ, ← Nat.div_div_eq_div_mul]
  omega
theorem tail_step (W a t : Nat) (h : W / 2 ^ a % 2 ^ t = 0) (hb : W / 2 ^ (a + t) % 2 = 0) : W / 2 ^ a % 2 ^ (t + 1) = 0 := by
  rw [mod_succ_bit, h, Nat.div_div_eq_div_mul, ← Nat.pow_add, hb, Nat.zero_mul]
theorem unpack_low (l : List UInt8) (i : Nat) (h : i < l.length) (hb : l[i].toNat < 128) : sevUnpack l = none := by
  unfold sevUnpack
  simp only
  rw [if_neg]
  rintro ⟨h1, _⟩
  rw [highB_low l i h hb] at h1
  cases h1
set_option maxRecDepth 100000 in
set_option maxHeartbeats 2000000 in
theorem refUnpack_any (l : List UInt8) (A : Option Addr) (c B : Nat) (w : World) (hr : Rd w B A (bcells l)) (hB : B ≤ w.heap.size) (hl : l.length ≤ 68719476736) :
    Calls Tryd.prog 50 #[.slice A l.length c] w (UnpackTo w (sevUnpack l)) := by
  have HR := Lib.hid hr
  clear hr
  obtain ⟨n, hn⟩ : ∃ n, n = l.length * 7 / 8 := ⟨_, rfl⟩
  have HN := Lib.hid hn
  have hnl : 8 * n ≤ 7 * l.length := by omega
  have hni : ((l.length : Int) * 7) / 8 = (n : Int) := by omega
  by_cases hle : (8 * n + 6) / 7 = l.length
  · have hle2 : ((8 * (n : Int) + 6) / 7 != (l.length : Int)) = false := by simp; omega
    have HLE := Lib.hid hle
    clear hn hle
    go_enter Tryd.func50, Tryd.ntmps50
    go_wp2_with fail
    rw [hni]
    go_loopw [5, 6] (fun v5 v6 wr => ∃ i : Nat, i ≤ l.length ∧ v6 = .int .i64 i ∧ Hid (highB (l.take i) = true) ∧ wr.ownsRow w.heap.size 5 1 v5 (7 * i) (bcells (bitsN (7 * i) (v128 l))) ∧ Below w.heap.size w wr) (fun _ v6 _ => l.length - (intOf v6).toNat)
    case atStart => exact ⟨0, by omega, rfl, rfl, World.ownsRow_nil _ _ _ _, Below.refl _ _⟩
    case round =>
      obtain ⟨i, hi, rfl, hh, hown, hbr⟩ := hrel
      have hsz := hbr.size
      by_cases hlt : i < l.length
      · obtain ⟨ab, ao, rfl, hab, hcell⟩ := (HR.out.below (hbr.mono hB)).byte hlt
        have hb8 := l[i].toNat_lt
        by_cases hb : l[i].toNat < 128
        · have HU := Lib.hid (unpack_low l i hlt hb)
          go_wp2
          go_ret2
          refine ⟨hbr, ?_⟩
          rw [HU.out]
          rfl
        · have HL := Lib.hid (show highB (l.take (i + 1)) = true by rw [highB_take l i hlt, hh.out]; simp; omega)
          obtain ⟨y, hy⟩ : ∃ y, y = l[i].toNat := ⟨_, rfl⟩
          rw [← hy] at hcell hb hb8
          have HY := Lib.hid hy
          clear hy
          have hlb : decide ((y : Int) < 128) = false := by simp; omega
          have hli : decide (i < l.length) = true := by simpa using hlt
          go_wp2_with fail
          go_loopw [5, 7, 8] (fun v5 v7 v8 wr => BitsIn l i w v5 v7 v8 wr) (fun _ _ v8 _ => 7 - (intOf v8).toNat)
          case atStart => exact ⟨0, y - 128, by omega, rfl, vint (by omega), by omega, (fun _ => by rw [← HY.out]; simp; omega), hown, hbr⟩
          case round =>
            obtain ⟨k, x, hk, rfl, rfl, hx, hxe, hown', hbr'⟩ := hrel
            have hsz2 := hbr'.size
            by_cases hk7 : k < 7
            · have HB := Lib.hid (bit_128 l i k hlt hk7)
              have HXE := Lib.hid (hxe.out hlt)
              clear hxe
              go_wp2_with (at_builtin; refine wpList_app u8_ty rfl rfl rfl rfl (hown'.alloc _) (Rd.row (B := wr.heap.size + 1) (Go.heap_alloc_new wr _) (by omega)) rfl (by simp [Value.oneCell']) ?h63 ?hby ?hbase ?_)
              case h63 => simp only [maxLen]; omega
              case hby => omega
              case hbase => simp; omega
              intro v1 w3 hown3 hg3 _ _
              have HO := Lib.hid hown3
              have HG3 := Lib.hid hg3
              clear hown3 hg3
              go_wp2
              go_roundw
              case rel =>
                refine ⟨k + 1, x / 2, by omega, by go_num, by rfl, by omega, (fun _ => ?_), ?_, grown_below (hbr'.alloc hsz2 _) HG3.out (hown'.alloc _) (Nat.le_refl _) (by simp; omega)⟩
                · rw [HXE.out, Nat.div_div_eq_div_mul, ← Nat.pow_succ]
                · rw [← Nat.add_assoc, bitsN_snoc, bcells_append, HB.out, ← HXE.out]
                  exact bit_own (m := x % 2) (by simpa using HO.out) (by omega)
              case measure => simp [intOf]; omega
            · have hk' : k = 7 := by omega
              subst hk'
              go_wp2
              go_roundw
              case rel => exact ⟨i + 1, by omega, by go_num, HL.out, by rw [Nat.mul_succ]; exact hown', hbr'⟩
              case measure => simp [intOf]; omega
      · have hil : i = l.length := by omega
        subst hil
        rw [List.take_length] at hh
        obtain ⟨M, hM⟩ : ∃ M, M = 7 * l.length := ⟨_, rfl⟩
        rw [← hM] at hown hnl
        have HM := Lib.hid hM
        have hM2 : M ≤ 481036337152 := by omega
        clear hM
        obtain ⟨wo, hwo⟩ : ∃ wo : World, wo = wr := ⟨_, rfl⟩
        subst hwo
        obtain ⟨A1, c1, rfl, hc1, hc2⟩ := own_form hown
        have HRB := Lib.hid (Rd.of_own hown)
        have B1 := Lib.hid hbr
        obtain ⟨V, hV⟩ : ∃ V, V = v128 l := ⟨_, rfl⟩
        rw [← hV] at HRB
        have HV := Lib.hid hV
        have HVL : Hid (V < 2 ^ M) := by
          have h := v128_lt l
          rw [pow_128, ← HM.out, ← hV] at h
          exact h
        clear hown hbr hV
        go_wp2_with fail
        go_loopw [9, 10] (fun v9 v10 wr => ∃ i : Nat, i ≤ n ∧ v10 = .int .i64 i ∧ wr.ownsRow wo.heap.size 5 1 v9 i (bcells (bytesOfNat i V)) ∧ Below wo.heap.size wo wr) (fun _ v10 _ => n - (intOf v10).toNat)
        case atStart => exact ⟨0, by omega, rfl, World.ownsRow_nil _ _ _ _, Below.refl _ _⟩
        case round =>
          obtain ⟨i, hi, rfl, hown, hbr⟩ := hrel
          have hsz2 := hbr.size
          by_cases hin : i < n
          · have hib : decide (i < n) = true := by simpa using hin
            obtain ⟨wi, hwi⟩ : ∃ wi : World, wi = wr := ⟨_, rfl⟩
            subst hwi
            go_wp2_with fail
            go_loopw [11, 12] (fun v11 v12 wx => ByteIn V i wi v11 v12 wx) (fun _ v12 _ => (intOf v12 + 1).toNat)
            case atStart => exact ⟨8, 0, rfl, by omega, rfl, rfl, by omega, (by show _ = _; simp [Nat.mod_one])⟩
            case round =>
              obtain ⟨j, cc, rfl, hj, h12, rfl, hcc, hce⟩ := hrel
              cases j with
              | zero =>
                have h12' := h12.trans (vint (show ((0 : Nat) : Int) - 1 = -1 by rfl))
                clear h12
                subst h12'
                go_wp2_with (at_builtin; refine wpList_app u8_ty rfl rfl rfl rfl (hown.alloc _) (Rd.row (B := wr.heap.size + 1) (Go.heap_alloc_new wr _) (by omega)) rfl (by simp [Value.oneCell']) ?h63 ?hby ?hbase ?_)
                case h63 => simp only [maxLen]; omega
                case hby => omega
                case hbase => simp; omega
                intro v1 w3 hown3 hg3 _ _
                have HO := Lib.hid hown3
                have HG3 := Lib.hid hg3
                clear hown3 hg3
                go_wp2
                go_roundw
                case rel =>
                  refine ⟨i + 1, by omega, by go_num, ?_, grown_below (hbr.alloc hsz2 _) HG3.out (hown.alloc _) (Nat.le_refl _) (by simp; omega)⟩
                  rw [bytesOfNat_snoc, bcells_append, pow_256, show V / 2 ^ (8 * i) % 256 = cc by have h := hce.out; simpa using h.symm]
                  exact bit_own (m := cc) HO.out hcc
                case measure => simp [intOf]; omega
              | succ j =>
                have h12' := h12.trans (vint (show ((j + 1 : Nat) : Int) - 1 = (j : Nat) by omega))
                clear h12
                subst h12'
                have HS := Lib.hid (byte_step V i j (by omega))
                have hbd : V / 2 ^ (8 * i + j) % 2 ^ (8 - j) < 256 := by
                  have h1 : V / 2 ^ (8 * i + j) % 2 ^ (8 - j) < 2 ^ (8 - j) := Nat.mod_lt _ (Nat.pow_pos (by omega))
                  have h2 : 2 ^ (8 - j) ≤ 2 ^ 8 := Nat.pow_le_pow_right (by omega) (by omega)
                  omega
                obtain ⟨ab, ao, rfl, hab, hcell⟩ := (HRB.out.below hbr).byte (l := bitsN M V) (k := 8 * i + j) (by rw [bitsN_length]; omega)
                rw [bitsN_get] at hcell
                obtain ⟨b, hb⟩ : ∃ b, b = V / 2 ^ (8 * i + j) % 2 := ⟨_, rfl⟩
                rw [← hb] at hcell
                have hb2 : b < 2 := by omega
                have HB := Lib.hid hb
                have HBD := Lib.hid hbd
                clear hb hbd
                go_wp2
                go_roundw
                case rel =>
                  refine ⟨j, 2 * cc + b, rfl, by omega, rfl, by go_num, ?_, ?_⟩
                  · have h := HBD.out
                    rw [HS.out, ← hce.out, ← HB.out] at h
                    exact h
                  · show _ = _
                    rw [HS.out, ← hce.out, ← HB.out]
                case measure => simp [intOf]
          · have hin' : i = n := by omega
            subst hin'
            obtain ⟨wi, hwi⟩ : ∃ wi : World, wi = wr := ⟨_, rfl⟩
            subst hwi
            go_wp2_with fail
            go_loopw [13] (fun v13 wx => ∃ t : Nat, wx = wi ∧ 8 * i + t ≤ M ∧ v13 = .int .i64 (8 * (i : Int) + t) ∧ Hid (V / 2 ^ (8 * i) % 2 ^ t = 0)) (fun v13 _ => M - (intOf v13).toNat)
            case atStart => exact ⟨0, rfl, by omega, vint (by omega), (by show _ = _; simp [Nat.mod_one])⟩
            case round =>
              obtain ⟨t, rfl, ht, rfl, hz⟩ := hrel
              by_cases htM : 8 * i + t < M
              · obtain ⟨ab, ao, rfl, hab, hcell⟩ := (HRB.out.below hbr).byte (l := bitsN M V) (k := 8 * i + t) (by rw [bitsN_length]; omega)
                rw [bitsN_get] at hcell
                rcases Nat.mod_two_eq_zero_or_one (V / 2 ^ (8 * i + t)) with hb | hb
                · rw [hb] at hcell
                  have HT := Lib.hid (tail_step V (8 * i) t hz.out hb)
                  clear hb
                  go_wp2
                  go_roundw
                  case rel => exact ⟨t + 1, (by first | rfl | exact trivial), by omega, by go_num, HT.out⟩
                  case measure => simp [intOf]; omega
                · rw [hb] at hcell
                  have HU := Lib.hid (show sevUnpack l = none by
                    unfold sevUnpack
                    simp only [← HN.out, ← HV.out]
                    rw [if_neg]
                    rintro ⟨_, _, h⟩
                    rw [pow_256] at h
                    have : V / 2 ^ (8 * i + t) = 0 := Nat.div_eq_of_lt (Nat.lt_of_lt_of_le h (Nat.pow_le_pow_right (by omega) (by omega)))
                    omega)
                  clear hb
                  go_wp2
                  go_ret2
                  refine ⟨B1.out.trans (hbr.mono hsz), ?_⟩
                  rw [HU.out]
                  rfl
              · have htM' : 8 * i + t = M := by omega
                have HU := Lib.hid (show sevUnpack l = some (bytesOfNat i V) by
                  have hlt' : V < 256 ^ i := by
                    rw [pow_256]
                    have h1 : V / 2 ^ (8 * i) < 2 ^ t := Nat.div_lt_of_lt_mul (by rw [← Nat.pow_add, htM']; exact HVL.out)
                    have h2 := hz.out
                    rw [Nat.mod_eq_of_lt h1] at h2
                    rcases Nat.lt_or_ge V (2 ^ (8 * i)) with h | h
                    · exact h
                    · have := Nat.div_pos h (Nat.pow_pos (by omega)); omega
                  unfold sevUnpack
                  simp only [← HN.out, ← HV.out]
                  rw [if_pos ⟨hh.out, HLE.out, hlt'⟩])
                clear htM'
                have hnot : ¬ 8 * (i : Int) + t < (M : Int) := by omega
                go_wp2
                go_ret2
                refine ⟨B1.out.trans (hbr.mono hsz), ?_⟩
                rw [HU.out]
                exact ⟨_, rfl, by rw [bytesOfNat_length]; exact own_more hown hsz⟩
  · have hle2 : ((8 * (n : Int) + 6) / 7 != (l.length : Int)) = true := by simp; omega
    have HU := Lib.hid (show sevUnpack l = none by
      unfold sevUnpack
      simp only [← HN.out]
      rw [if_neg]
      rintro ⟨_, h, _⟩
      exact hle h)
    clear hn hle
    go_enter Tryd.func50, Tryd.ntmps50
    go_wp2
    go_ret2
    refine ⟨Below.refl _ _, ?_⟩
    rw [HU.out]
    rfl
end Go.Proofs.YtfheocdciekfoaaDoor
