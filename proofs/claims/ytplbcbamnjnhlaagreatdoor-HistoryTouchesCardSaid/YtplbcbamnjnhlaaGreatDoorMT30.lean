/- Texts of this proof joined: RefSeven, RefSeven2, RecParse. -/
import Derived.Test.YtplbcbamnjnhlaaGreatDoorMT00
import Derived.Test.YtplbcbamnjnhlaaGreatDoorMT29
import Derived.Test.YtplbcbamnjnhlaaGreatDoorMT19
set_option maxRecDepth 100000
set_option maxHeartbeats 40000000
namespace Go.Proofs.YtplbcbamnjnhlaaGreatDoor
open Go.RowKit

def ph (n v : Nat) : List UInt8 := (digs 2 n v).map fun d => UInt8.ofNat d
theorem uv (n v : Nat) : (ph n v).length = n := by simp [ph, nc]
theorem qgl (n v : Nat) : ph (n + 1) v = ph n v ++ [UInt8.ofNat (v / 2 ^ n % 2)] := by simp [ph, xw]
theorem qbz (n v k : Nat) (h : k < (ph n v).length) : (ph n v)[k].toNat = v / 2 ^ k % 2 := by
 have h2 : k < (digs 2 n v).length := by simpa [ph] using h
 simp only [ph, List.getElem_map, qaw, UInt8.toNat_ofNat']
 omega
theorem yw (B : Nat) (hB : 0 < B) : ∀ (l : List Nat), (∀ d ∈ l, d < B) → ∀ (i : Nat) (h : i < l.length), gg B l / B ^ i % B = l[i]
 |[], _, i, h => by simp at h
 |d :: l, hl, 0, h => by
  have := hl d (by simp)
  simp [gg, Nat.mod_eq_of_lt this]
 |d :: l, hl, i + 1, h => by
  have hd := hl d (by simp)
  have := yw B hB l (fun x hx => hl x (by simp [hx])) i (by simpa using h)
  rw [gg, Nat.pow_succ, Nat.mul_comm (B ^ i) B, ← Nat.div_div_eq_div_mul, Nat.add_mul_div_left _ _ hB, Nat.div_eq_of_lt hd, Nat.zero_add, this]
  simp
theorem v256_get (l : List UInt8) (i : Nat) (h : i < l.length) : v256 l / 256 ^ i % 256 = l[i].toNat := by
 have := yw 256 (by omega) (l.map (·.toNat)) (by intro d hd; obtain ⟨c, _, rfl⟩ := List.mem_map.1 hd; exact c.toNat_lt) i (by simpa using h)
 simpa [v256] using this
theorem v128_get (l : List UInt8) (i : Nat) (h : i < l.length) : v128 l / 128 ^ i % 128 = l[i].toNat % 128 := by
 have := yw 128 (by omega) (l.map (·.toNat % 128)) (by intro d hd; obtain ⟨c, _, rfl⟩ := List.mem_map.1 hd; omega) i (by simpa using h)
 simpa [v128] using this
theorem qrf (x m k : Nat) (hk : k < m) : x % 2 ^ m / 2 ^ k % 2 = x / 2 ^ k % 2 := by
 have e : 2 ^ m = 2 ^ k * 2 ^ (m - k) := by rw [← Nat.pow_add]; congr 1; omega
 rw [e, Nat.mod_mul_right_div_self, Nat.mod_mod_of_dvd]
 exact ⟨2 ^ (m - k - 1), by rw [← Nat.pow_succ']; congr 1; omega⟩
theorem bit_256 (l : List UInt8) (i k : Nat) (h : i < l.length) (hk : k < 8) : v256 l / 2 ^ (8 * i + k) % 2 = l[i].toNat / 2 ^ k % 2 := by
 rw [← v256_get l i h, pw, show (256 : Nat) = 2 ^ 8 by decide, qrf _ 8 k hk, Nat.div_div_eq_div_mul, ← Nat.pow_add]
theorem bit_128 (l : List UInt8) (i k : Nat) (h : i < l.length) (hk : k < 7) : v128 l / 2 ^ (7 * i + k) % 2 = l[i].toNat % 128 / 2 ^ k % 2 := by
 rw [← v128_get l i h, ud, show (128 : Nat) = 2 ^ 7 by decide, qrf _ 7 k hk, Nat.div_div_eq_div_mul, ← Nat.pow_add]
theorem qdv {w : World} {base : Nat} {v : Value} {n m : Nat} {xs : List Value} (h : w.ownsRow base 5 1 v n (xs ++ [.int .u8 (m : Int)])) (hm : m < 256) :
  w.ownsRow base 5 1 v n (xs ++ ak [UInt8.ofNat m]) := by
 have e : ak [UInt8.ofNat m] = [.int .u8 (m : Int)] := by simp [ak, ic]; omega
 rw [e]
 exact h
theorem bits_any (l : List UInt8) (A : Option Addr) (c B : Nat) (w : World) (hr : Rd w B A (ak l)) (hB : B ≤ w.heap.size) (hl : l.length ≤ 68719476736) :
  Calls Tryz.prog 98 #[.slice A l.length c] w fun e w' => ∃ v, e = .returned v ∧ w'.ownsRow w.heap.size 5 1 v (8 * l.length) (ak (ph (8 * l.length) (v256 l))) ∧ Below w.heap.size w w' := by
 have HR := Lh hr
 clear hr
 go_enter Tryz.func98, Tryz.ntmps98
 go_wp2_with fail
 go_loopw [3, 4] (fun v3 v4 wr => ∃ i : Nat, i ≤ l.length ∧ v4 = .int .i64 i ∧ wr.ownsRow w.heap.size 5 1 v3 (8 * i) (ak (ph (8 * i) (v256 l))) ∧ Below w.heap.size w wr) (fun _ v4 _ => l.length - (intOf v4).toNat)
 case atStart => exact ⟨0, by omega, rfl, World.ownsRow_nil _ _ _ _, br _ _⟩
 case round =>
  obtain ⟨i, hi, rfl, hown, hbr⟩ := hrel
  have hsz := hbr.size
  by_cases hlt : i < l.length
  ·obtain ⟨ab, ao, rfl, hab, hcell⟩ := (HR.o.below (hbr.mono hB)).byte hlt
   have hb8 := l[i].toNat_lt
   obtain ⟨wo, rfl⟩ : ∃ wo : World, wo = wr := ⟨_, rfl⟩
   go_wp2_with fail
   go_loopw [3, 5, 6] (fun v3 v5 v6 wr => ∃ k x : Nat, k ≤ 8 ∧ v6 = .int .i64 k ∧ v5 = .int .u8 x ∧ x < 256 ∧ Hid (x = l[i].toNat / 2 ^ k) ∧ wr.ownsRow w.heap.size 5 1 v3 (8 * i + k) (ak (ph (8 * i + k) (v256 l))) ∧ Below w.heap.size w wr) (fun _ _ v6 _ => 8 - (intOf v6).toNat)
   case atStart => exact ⟨0, _, by omega, rfl, rfl, hb8, (by show _ = _; simp), hown, hbr⟩
   case round =>
    obtain ⟨k, x, hk, rfl, rfl, hx, hxe, hown', hbr'⟩ := hrel
    have hsz2 := hbr'.size
    by_cases hk8 : k < 8
    ·have HB := Lh (bit_256 l i k hlt hk8)
     go_wp2_with (at_builtin; refine ay im rfl rfl rfl rfl (hown'.alloc _) (Rd.row (B := wr.heap.size + 1) (hzn wr _) (by omega)) rfl (by simp [Value.oneCell']) ?h63 ?hby ?hbase ?_)
     case h63 => simp only [maxLen]; omega
     case hby => omega
     case hbase => simp; omega
     intro v1 w3 hown3 hg3 _ _
     have HO := Lh hown3
     have HG3 := Lh hg3
     clear hown3 hg3
     go_wp2
     go_roundw
     case rel =>
      refine ⟨k + 1, x / 2, by omega, by go_num, by rfl, by omega, ?_, ?_, ax (hbr'.alloc hsz2 _) HG3.o (hown'.alloc _) (nr _) (by simp; omega)⟩
      ·show _ = _
       rw [hxe.o, Nat.div_div_eq_div_mul, ← Nat.pow_succ]
      ·rw [← Nat.add_assoc, qgl, bt, HB.o, ← hxe.o]
       exact qdv (m := x % 2) (by simpa using HO.o) (by omega)
     case measure => simp [intOf]; omega
    ·have hk' : k = 8 := by omega
     subst hk'
     go_wp2
     go_roundw
     case rel => exact ⟨i + 1, by omega, by go_num, by rw [Nat.mul_succ]; exact hown', hbr'⟩
     case measure => simp [intOf]; omega
  ·have hil : i = l.length := by omega
   subst hil
   go_wp2
   go_ret
   exact ⟨_, rfl, hown, hbr⟩
def PackIn (l : List UInt8) (q : Nat) (wo : World) (v6 v7 v8 : Value) (wi : World) : Prop := ∃ t cc p : Nat, wi = wo ∧ t ≤ 7 ∧ v8 = .int .i64 (7 * (q : Int) + t) ∧ v6 = .int .i64 cc ∧ v7 = .int .i64 p ∧ cc ≤ 255 ∧ p ≤ 128 ∧ Hid (cc = 128 + v256 l / 2 ^ (7 * q) % 2 ^ t) ∧ Hid (p = 2 ^ t)
theorem qaf (x t : Nat) : x % 2 ^ (t + 1) = x % 2 ^ t + x / 2 ^ t % 2 * 2 ^ t := by
 rw [Nat.pow_succ, Nat.mod_mul, Nat.mul_comm (2 ^ t) (x / 2 ^ t % 2)]
theorem ru (l : List UInt8) (A : Option Addr) (c B : Nat) (w : World) (hr : Rd w B A (ak l)) (hB : B ≤ w.heap.size) (hl : l.length ≤ 68719476736) :
  Calls Tryz.prog 67 #[.slice A l.length c] w fun e w' => ∃ v, e = .returned v ∧ w'.ownsRow w.heap.size 5 1 v (eo l).length (ak (eo l)) ∧ Below w.heap.size w w' := by
 have HR := Lh hr
 clear hr
 have HV := Lh (qix l)
 go_enter Tryz.func67, Tryz.ntmps67
 go_wp2_with fail
 refine (bits_any l A c B w HR.o hB hl).mono ?_
 rintro e w1 ⟨bv, rfl, hob, hb1⟩
 obtain ⟨N, hN⟩ : ∃ N, N = 8 * l.length := ⟨_, rfl⟩
 rw [← hN] at hob
 have hN2 : N ≤ 549755813888 := by omega
 have HN := Lh hN
 clear hN
 have HOB := Lh hob
 obtain ⟨A1, c1, rfl, hc1, hc2⟩ := ap hob
 have HRB := Lh (Rd.of_own hob)
 have B1 := Lh hb1
 have hs1 := hb1.size
 clear hob hb1
 go_wp2_with fail
 go_loopw [4, 5] (fun v4 v5 wr => ∃ q : Nat, 7 * q ≤ N + 6 ∧ v5 = .int .i64 (7 * (q : Int)) ∧ wr.ownsRow w1.heap.size 5 1 v4 q (ak (mf q (v256 l))) ∧ Below w1.heap.size w1 wr) (fun _ v5 _ => N + 7 - (intOf v5).toNat)
 case atStart => exact ⟨0, by omega, rfl, World.ownsRow_nil _ _ _ _, br _ _⟩
 case round =>
  obtain ⟨q, hq, rfl, hown, hbr⟩ := hrel
  have hsz := hbr.size
  by_cases hlt : 7 * q < N
  ·have hlb : decide (7 * (q : Int) < (N : Int)) = true := by simp; omega
   go_wp2_with fail
   obtain ⟨wo, hwo⟩ : ∃ wo : World, wo = wr := ⟨_, rfl⟩
   subst hwo
   go_loopw [6, 7, 8] (fun v6 v7 v8 wi => PackIn l q wo v6 v7 v8 wi) (fun _ _ v8 _ => 7 * q + 7 - (intOf v8).toNat)
   case atStart => exact ⟨0, 128, 1, rfl, by omega, vint (by omega), rfl, rfl, by omega, by omega, (by show _ = _; simp [Nat.mod_one]), rfl⟩
   case round =>
    obtain ⟨t, cc, p, rfl, ht, rfl, rfl, rfl, hcc, hp, hce, hpe⟩ := hrel
    by_cases ht7 : t < 7
    ·have HM := Lh (qaf (v256 l / 2 ^ (7 * q)) t)
     have HD := Lh (show v256 l / 2 ^ (7 * q) / 2 ^ t = v256 l / 2 ^ (7 * q + t) by rw [Nat.div_div_eq_div_mul, ← Nat.pow_add])
     have hcb : 128 + v256 l / 2 ^ (7 * q) % 2 ^ (t + 1) ≤ 255 := by
      have h1 : v256 l / 2 ^ (7 * q) % 2 ^ (t + 1) < 2 ^ (t + 1) := Nat.mod_lt _ (Nat.pow_pos (by omega))
      have h2 : 2 ^ (t + 1) ≤ 2 ^ 7 := Nat.pow_le_pow_right (by omega) (by omega)
      omega
     have hpb : 2 ^ (t + 1) ≤ 128 := by
      have h2 : 2 ^ (t + 1) ≤ 2 ^ 7 := Nat.pow_le_pow_right (by omega) (by omega)
      omega
     have HCB := Lh hcb
     have HPB := Lh hpb
     clear hcb hpb
     by_cases hkN : 7 * q + t < N
     ·obtain ⟨ab, ao, rfl, hab, hcell⟩ := (HRB.o.below hbr).byte (l := ph N (v256 l)) (by rw [uv]; exact hkN)
      rw [qbz] at hcell
      rcases Nat.mod_two_eq_zero_or_one (v256 l / 2 ^ (7 * q + t)) with hb | hb
      all_goals
       rw [hb] at hcell
       have HB := Lh hb
       clear hb
       go_wp2
       go_roundw
       case rel =>
        first
        |(refine ⟨t + 1, cc, p * 2, rfl, by omega, by go_num, rfl, by go_num, hcc, ?_, ?_, ?_⟩
          ·rw [hpe.o, ← Nat.pow_succ]; exact HPB.o
          ·show _ = _
           rw [HM.o, HD.o, HB.o, hce.o]; omega
          ·show _ = _
           rw [hpe.o, ← Nat.pow_succ])
        |(refine ⟨t + 1, cc + p, p * 2, rfl, by omega, by go_num, by go_num, by go_num, ?_, ?_, ?_, ?_⟩
          ·have h := HCB.o
           rw [HM.o, HD.o, HB.o, ← hpe.o] at h
           have h2 := hce.o
           rw [← hpe.o] at h2
           omega
          ·rw [hpe.o, ← Nat.pow_succ]; exact HPB.o
          ·show _ = _
           rw [HM.o, HD.o, HB.o, hce.o, hpe.o]; omega
          ·show _ = _
           rw [hpe.o, ← Nat.pow_succ])
       case measure => simp [intOf]; omega
     ·have hz : v256 l / 2 ^ (7 * q + t) % 2 = 0 := by
       rw [Nat.div_eq_of_lt]
       have h1 := HV.o
       rw [pw, ← HN.o] at h1
       exact Nat.lt_of_lt_of_le h1 (Nat.pow_le_pow_right (by omega) (by omega))
      have HB := Lh hz
      clear hz
      go_wp2
      go_roundw
      case rel =>
       refine ⟨t + 1, cc, p * 2, rfl, by omega, by go_num, rfl, by go_num, hcc, ?_, ?_, ?_⟩
       ·rw [hpe.o, ← Nat.pow_succ]; exact HPB.o
       ·show _ = _
        rw [HM.o, HD.o, HB.o, hce.o]; omega
       ·show _ = _
        rw [hpe.o, ← Nat.pow_succ]
      case measure => simp [intOf]; omega
    ·have ht' : t = 7 := by omega
     subst ht'
     go_wp2_with (at_builtin; refine ay im rfl rfl rfl rfl (hown.alloc _) (Rd.row (B := wr.heap.size + 1) (hzn wr _) (by omega)) rfl (by simp [Value.oneCell']) ?h63 ?hby ?hbase ?_)
     case h63 => simp only [maxLen]; omega
     case hby => omega
     case hbase => simp; omega
     intro v1 w3 hown3 hg3 _ _
     have HO := Lh hown3
     have HG3 := Lh hg3
     clear hown3 hg3
     go_wp2
     go_roundw
     case rel =>
      refine ⟨q + 1, by omega, by go_num, ?_, ax (hbr.alloc hsz _) HG3.o (hown.alloc _) (nr _) (by simp; omega)⟩
      rw [ym, bt, ud, show (128 : Nat) + v256 l / 2 ^ (7 * q) % 128 = cc by rw [hce.o]]
      refine qdv (m := cc) ?_ (by omega)
      exact HO.o
     case measure => simp [intOf]; omega
  ·have e : (8 * l.length + 6) / 7 = q := by have := HN.o; omega
   have E := Lh e
   have h7 : ¬ 7 * (q : Int) < (N : Int) := by omega
   go_wp2
   go_ret
   refine ⟨_, rfl, ?_, B1.o.trans (hbr.mono hs1)⟩
   unfold eo
   rw [E.o, pv]
   exact fv hown hs1

def BitsIn (l : List UInt8) (i : Nat) (w : World) (v5 v7 v8 : Value) (wr : World) : Prop :=
 ∃ k x : Nat, k ≤ 7 ∧ v8 = .int .i64 k ∧ v7 = .int .u8 x ∧ x < 128 ∧ Hid (∀ h : i < l.length, x = l[i].toNat % 128 / 2 ^ k) ∧ wr.ownsRow w.heap.size 5 1 v5 (7 * i + k) (ak (ph (7 * i + k) (v128 l))) ∧ Below w.heap.size w wr
def ByteIn (W i : Nat) (wo : World) (v11 v12 : Value) (wi : World) : Prop :=
 ∃ j c : Nat, wi = wo ∧ j ≤ 8 ∧ v12 = .int .i64 ((j : Int) - 1) ∧ v11 = .int .i64 c ∧ c < 256 ∧ Hid (c = W / 2 ^ (8 * i + j) % 2 ^ (8 - j))
theorem quj (W i j : Nat) (h : j < 8) : W / 2 ^ (8 * i + j) % 2 ^ (8 - j) = 2 * (W / 2 ^ (8 * i + (j + 1)) % 2 ^ (8 - (j + 1))) + W / 2 ^ (8 * i + j) % 2 := by
 have e : 2 ^ (8 - j) = 2 * 2 ^ (8 - (j + 1)) := by rw [← Nat.pow_succ']; congr 1; omega
 rw [e, Nat.mod_mul, show 8 * i + (j + 1) = 8 * i + j + 1 by omega, Nat.pow_succ, ← Nat.div_div_eq_div_mul]
 omega
theorem qsq (W a t : Nat) (h : W / 2 ^ a % 2 ^ t = 0) (hb : W / 2 ^ (a + t) % 2 = 0) : W / 2 ^ a % 2 ^ (t + 1) = 0 := by
 rw [qaf, h, Nat.div_div_eq_div_mul, ← Nat.pow_add, hb, Nat.zero_mul]
theorem qnp (l : List UInt8) (i : Nat) (h : i < l.length) (hb : l[i].toNat < 128) : dn l = none := by
 unfold dn
 simp only
 rw [if_neg]
 rintro ⟨h1, _⟩
 rw [qii l i h hb] at h1
 cases h1
theorem qgz (l : List UInt8) (A : Option Addr) (c B : Nat) (w : World) (hr : Rd w B A (ak l)) (hB : B ≤ w.heap.size) (hl : l.length ≤ 68719476736) :
  Calls Tryz.prog 94 #[.slice A l.length c] w (qni w (dn l)) := by
 have HR := Lh hr
 clear hr
 obtain ⟨n, hn⟩ : ∃ n, n = l.length * 7 / 8 := ⟨_, rfl⟩
 have HN := Lh hn
 have hnl : 8 * n ≤ 7 * l.length := by omega
 have hni : ((l.length : Int) * 7) / 8 = (n : Int) := by omega
 by_cases hle : (8 * n + 6) / 7 = l.length
 ·have hle2 : ((8 * (n : Int) + 6) / 7 != (l.length : Int)) = false := by simp; omega
  have HLE := Lh hle
  clear hn hle
  go_enter Tryz.func94, Tryz.ntmps94
  go_wp2_with fail
  rw [hni]
  go_loopw [5, 6] (fun v5 v6 wr => ∃ i : Nat, i ≤ l.length ∧ v6 = .int .i64 i ∧ Hid (pm (l.take i) = true) ∧ wr.ownsRow w.heap.size 5 1 v5 (7 * i) (ak (ph (7 * i) (v128 l))) ∧ Below w.heap.size w wr) (fun _ v6 _ => l.length - (intOf v6).toNat)
  case atStart => exact ⟨0, by omega, rfl, rfl, World.ownsRow_nil _ _ _ _, br _ _⟩
  case round =>
   obtain ⟨i, hi, rfl, hh, hown, hbr⟩ := hrel
   have hsz := hbr.size
   by_cases hlt : i < l.length
   ·obtain ⟨ab, ao, rfl, hab, hcell⟩ := (HR.o.below (hbr.mono hB)).byte hlt
    have hb8 := l[i].toNat_lt
    by_cases hb : l[i].toNat < 128
    ·have HU := Lh (qnp l i hlt hb)
     go_wp2
     go_ret2
     refine ⟨hbr, ?_⟩
     rw [HU.o]
     rfl
    ·have HL := Lh (show pm (l.take (i + 1)) = true by rw [qfo l i hlt, hh.o]; simp; omega)
     obtain ⟨y, hy⟩ : ∃ y, y = l[i].toNat := ⟨_, rfl⟩
     rw [← hy] at hcell hb hb8
     have HY := Lh hy
     clear hy
     have hlb : decide ((y : Int) < 128) = false := by simp; omega
     have hli : decide (i < l.length) = true := by simpa using hlt
     go_wp2_with fail
     go_loopw [5, 7, 8] (fun v5 v7 v8 wr => BitsIn l i w v5 v7 v8 wr) (fun _ _ v8 _ => 7 - (intOf v8).toNat)
     case atStart => exact ⟨0, y - 128, by omega, rfl, vint (by omega), by omega, (fun _ => by rw [← HY.o]; simp; omega), hown, hbr⟩
     case round =>
      obtain ⟨k, x, hk, rfl, rfl, hx, hxe, hown', hbr'⟩ := hrel
      have hsz2 := hbr'.size
      by_cases hk7 : k < 7
      ·have HB := Lh (bit_128 l i k hlt hk7)
       have HXE := Lh (hxe.o hlt)
       clear hxe
       go_wp2_with (at_builtin; refine ay im rfl rfl rfl rfl (hown'.alloc _) (Rd.row (B := wr.heap.size + 1) (hzn wr _) (by omega)) rfl (by simp [Value.oneCell']) ?h63 ?hby ?hbase ?_)
       case h63 => simp only [maxLen]; omega
       case hby => omega
       case hbase => simp; omega
       intro v1 w3 hown3 hg3 _ _
       have HO := Lh hown3
       have HG3 := Lh hg3
       clear hown3 hg3
       go_wp2
       go_roundw
       case rel =>
        refine ⟨k + 1, x / 2, by omega, by go_num, by rfl, by omega, (fun _ => ?_), ?_, ax (hbr'.alloc hsz2 _) HG3.o (hown'.alloc _) (nr _) (by simp; omega)⟩
        ·rw [HXE.o, Nat.div_div_eq_div_mul, ← Nat.pow_succ]
        ·rw [← Nat.add_assoc, qgl, bt, HB.o, ← HXE.o]
         exact qdv (m := x % 2) (by simpa using HO.o) (by omega)
       case measure => simp [intOf]; omega
      ·have hk' : k = 7 := by omega
       subst hk'
       go_wp2
       go_roundw
       case rel => exact ⟨i + 1, by omega, by go_num, HL.o, by rw [Nat.mul_succ]; exact hown', hbr'⟩
       case measure => simp [intOf]; omega
   ·have hil : i = l.length := by omega
    subst hil
    rw [List.take_length] at hh
    obtain ⟨M, hM⟩ : ∃ M, M = 7 * l.length := ⟨_, rfl⟩
    rw [← hM] at hown hnl
    have HM := Lh hM
    have hM2 : M ≤ 481036337152 := by omega
    clear hM
    obtain ⟨wo, hwo⟩ : ∃ wo : World, wo = wr := ⟨_, rfl⟩
    subst hwo
    obtain ⟨A1, c1, rfl, hc1, hc2⟩ := ap hown
    have HRB := Lh (Rd.of_own hown)
    have B1 := Lh hbr
    obtain ⟨V, hV⟩ : ∃ V, V = v128 l := ⟨_, rfl⟩
    rw [← hV] at HRB
    have HV := Lh hV
    have HVL : Hid (V < 2 ^ M) := by
     have h := qql l
     rw [ud, ← HM.o, ← hV] at h
     exact h
    clear hown hbr hV
    go_wp2_with fail
    go_loopw [9, 10] (fun v9 v10 wr => ∃ i : Nat, i ≤ n ∧ v10 = .int .i64 i ∧ wr.ownsRow wo.heap.size 5 1 v9 i (ak (dw i V)) ∧ Below wo.heap.size wo wr) (fun _ v10 _ => n - (intOf v10).toNat)
    case atStart => exact ⟨0, by omega, rfl, World.ownsRow_nil _ _ _ _, br _ _⟩
    case round =>
     obtain ⟨i, hi, rfl, hown, hbr⟩ := hrel
     have hsz2 := hbr.size
     by_cases hin : i < n
     ·have hib : decide (i < n) = true := by simpa using hin
      obtain ⟨wi, hwi⟩ : ∃ wi : World, wi = wr := ⟨_, rfl⟩
      subst hwi
      go_wp2_with fail
      go_loopw [11, 12] (fun v11 v12 wx => ByteIn V i wi v11 v12 wx) (fun _ v12 _ => (intOf v12 + 1).toNat)
      case atStart => exact ⟨8, 0, rfl, by omega, rfl, rfl, by omega, (by show _ = _; simp [Nat.mod_one])⟩
      case round =>
       obtain ⟨j, cc, rfl, hj, h12, rfl, hcc, hce⟩ := hrel
       cases j with
       |zero =>
        have h12' := h12.trans (vint (show ((0 : Nat) : Int) - 1 = -1 by rfl))
        clear h12
        subst h12'
        go_wp2_with (at_builtin; refine ay im rfl rfl rfl rfl (hown.alloc _) (Rd.row (B := wr.heap.size + 1) (hzn wr _) (by omega)) rfl (by simp [Value.oneCell']) ?h63 ?hby ?hbase ?_)
        case h63 => simp only [maxLen]; omega
        case hby => omega
        case hbase => simp; omega
        intro v1 w3 hown3 hg3 _ _
        have HO := Lh hown3
        have HG3 := Lh hg3
        clear hown3 hg3
        go_wp2
        go_roundw
        case rel =>
         refine ⟨i + 1, by omega, by go_num, ?_, ax (hbr.alloc hsz2 _) HG3.o (hown.alloc _) (nr _) (by simp; omega)⟩
         rw [vg, bt, pw, show V / 2 ^ (8 * i) % 256 = cc by have h := hce.o; simpa using h.symm]
         exact qdv (m := cc) HO.o hcc
        case measure => simp [intOf]; omega
       |succ j =>
        have h12' := h12.trans (vint (show ((j + 1 : Nat) : Int) - 1 = (j : Nat) by omega))
        clear h12
        subst h12'
        have HS := Lh (quj V i j (by omega))
        have hbd : V / 2 ^ (8 * i + j) % 2 ^ (8 - j) < 256 := by
         have h1 : V / 2 ^ (8 * i + j) % 2 ^ (8 - j) < 2 ^ (8 - j) := Nat.mod_lt _ (Nat.pow_pos (by omega))
         have h2 : 2 ^ (8 - j) ≤ 2 ^ 8 := Nat.pow_le_pow_right (by omega) (by omega)
         omega
        obtain ⟨ab, ao, rfl, hab, hcell⟩ := (HRB.o.below hbr).byte (l := ph M V) (k := 8 * i + j) (by rw [uv]; omega)
        rw [qbz] at hcell
        obtain ⟨b, hb⟩ : ∃ b, b = V / 2 ^ (8 * i + j) % 2 := ⟨_, rfl⟩
        rw [← hb] at hcell
        have hb2 : b < 2 := by omega
        have HB := Lh hb
        have HBD := Lh hbd
        clear hb hbd
        go_wp2
        go_roundw
        case rel =>
         refine ⟨j, 2 * cc + b, rfl, by omega, rfl, by go_num, ?_, ?_⟩
         ·have h := HBD.o
          rw [HS.o, ← hce.o, ← HB.o] at h
          exact h
         ·show _ = _
          rw [HS.o, ← hce.o, ← HB.o]
        case measure => simp [intOf]
     ·have hin' : i = n := by omega
      subst hin'
      obtain ⟨wi, hwi⟩ : ∃ wi : World, wi = wr := ⟨_, rfl⟩
      subst hwi
      go_wp2_with fail
      go_loopw [13] (fun v13 wx => ∃ t : Nat, wx = wi ∧ 8 * i + t ≤ M ∧ v13 = .int .i64 (8 * (i : Int) + t) ∧ Hid (V / 2 ^ (8 * i) % 2 ^ t = 0)) (fun v13 _ => M - (intOf v13).toNat)
      case atStart => exact ⟨0, rfl, by omega, vint (by omega), (by show _ = _; simp [Nat.mod_one])⟩
      case round =>
       obtain ⟨t, rfl, ht, rfl, hz⟩ := hrel
       by_cases htM : 8 * i + t < M
       ·obtain ⟨ab, ao, rfl, hab, hcell⟩ := (HRB.o.below hbr).byte (l := ph M V) (k := 8 * i + t) (by rw [uv]; omega)
        rw [qbz] at hcell
        rcases Nat.mod_two_eq_zero_or_one (V / 2 ^ (8 * i + t)) with hb | hb
        ·rw [hb] at hcell
         have HT := Lh (qsq V (8 * i) t hz.o hb)
         clear hb
         go_wp2
         go_roundw
         case rel => exact ⟨t + 1, (by first | rfl | exact trivial), by omega, by go_num, HT.o⟩
         case measure => simp [intOf]; omega
        ·rw [hb] at hcell
         have HU := Lh (show dn l = none by
          unfold dn
          simp only [← HN.o, ← HV.o]
          rw [if_neg]
          rintro ⟨_, _, h⟩
          rw [pw] at h
          have : V / 2 ^ (8 * i + t) = 0 := Nat.div_eq_of_lt (Nat.lt_of_lt_of_le h (Nat.pow_le_pow_right (by omega) (by omega)))
          omega)
         clear hb
         go_wp2
         go_ret2
         refine ⟨B1.o.trans (hbr.mono hsz), ?_⟩
         rw [HU.o]
         rfl
       ·have htM' : 8 * i + t = M := by omega
        have HU := Lh (show dn l = some (dw i V) by
         have hlt' : V < 256 ^ i := by
          rw [pw]
          have h1 : V / 2 ^ (8 * i) < 2 ^ t := Nat.div_lt_of_lt_mul (by rw [← Nat.pow_add, htM']; exact HVL.o)
          have h2 := hz.o
          rw [Nat.mod_eq_of_lt h1] at h2
          rcases Nat.lt_or_ge V (2 ^ (8 * i)) with h | h
          ·exact h
          ·have := Nat.div_pos h (Nat.pow_pos (by omega)); omega
         unfold dn
         simp only [← HN.o, ← HV.o]
         rw [if_pos ⟨hh.o, HLE.o, hlt'⟩])
        clear htM'
        have hnot : ¬ 8 * (i : Int) + t < (M : Int) := by omega
        go_wp2
        go_ret2
        refine ⟨B1.o.trans (hbr.mono hsz), ?_⟩
        rw [HU.o]
        exact ⟨_, rfl, by rw [lj]; exact fv hown hsz⟩
 ·have hle2 : ((8 * (n : Int) + 6) / 7 != (l.length : Int)) = true := by simp; omega
  have HU := Lh (show dn l = none by
   unfold dn
   simp only [← HN.o]
   rw [if_neg]
   rintro ⟨_, h, _⟩
   exact hle h)
  clear hn hle
  go_enter Tryz.func94, Tryz.ntmps94
  go_wp2
  go_ret2
  refine ⟨br _ _, ?_⟩
  rw [HU.o]
  rfl

def qkh (l : List UInt8) (w : World) (e : Ending) (w' : World) : Prop :=
 Below w.heap.size w w' ∧ ((gc l = none ∧ e = .returned (.tuple #[rv dq (.slice none 0 0), .int .i64 3])) ∨ ∃ r v, gc l = some r ∧ e = .returned (.tuple #[rv r v, .int .i64 0]) ∧ er w' w.heap.size v r.keys)
theorem qt {l : List UInt8} {w w' : World} {e : Ending} (h : gc l = none) (he : e = .returned (.tuple #[rv dq (.slice none 0 0), .int .i64 3])) (hb : Below w.heap.size w w') : qkh l w e w' := ⟨hb, .inl ⟨h, he⟩⟩
theorem qlm {l : List UInt8} {w w' : World} {e : Ending} {r : RecD} {v : Value} (h : gc l = some r) (he : e = .returned (.tuple #[rv r v, .int .i64 0])) (hs : er w' w.heap.size v r.keys) (hb : Below w.heap.size w w') : qkh l w e w' := ⟨hb, .inr ⟨r, v, h, he, hs⟩⟩
theorem qcn {l : List UInt8} (h0 : 0 < l.length) (h : l[l.length - 1]'(by omega) = 10) : gc l = sj (l.take (l.length - 1)) := by
 unfold gc
 rw [if_pos ⟨h0, by rw [List.getD_eq_getElem?_getD, List.getElem?_eq_getElem (by omega), h]; rfl⟩]
theorem yd {l : List UInt8} (h0 : 0 < l.length) (h : l[l.length - 1]'(by omega) ≠ 10) : gc l = none := by
 unfold gc
 rw [if_neg]
 rintro ⟨_, h2⟩
 rw [List.getD_eq_getElem?_getD, List.getElem?_eq_getElem (by omega)] at h2
 exact h h2
theorem qfa : gc [] = none := by
 unfold gc
 rw [if_neg]
 rintro ⟨h, _⟩
 exact absurd h (by simp)
theorem qrv {x : List UInt8} (h : dn x = none) : sj x = none := by unfold sj; rw [h]
theorem qkd {x b : List UInt8} (h : dn x = some b) (h2 : el b = none) : sj x = none := by unfold sj; rw [h]; simp only; rw [h2]
theorem qru {x b load : List UInt8} {k : UInt8} (h : dn x = some b) (h2 : el b = some (k, load)) : sj x = if okT (k.toNat : Nat) load = true then some (decR (k.toNat : Nat) load) else none := by unfold sj; rw [h]; simp only; rw [h2]
theorem qln (l : List UInt8) (A : Option Addr) (c B : Nat) (w : World) (hr : Rd w B A (ak l)) (hB : B ≤ w.heap.size) (hl : l.length ≤ 68719476736) (hc : l.length ≤ c) :
  Calls Tryz.prog 60 #[.slice A l.length c] w (qkh l w) := by
 have HBW := Lh hB
 have HR := Lh hr
 clear hr
 go_enter Tryz.func60, Tryz.ntmps60
 go_wp2_with (refine ai (some 2) rfl ?_)
 refine Stop.go (av rfl 38 rfl gn rfl ?_)
 have hb1 : Below w.heap.size w (w.alloc (.cells (ag 0 0 z32 0 z32 0 (.slice none 0 0)).toArray 38)) := (br _ _).alloc (nr _) _
 have HG1 := Lh (hzn w (.cells (ag 0 0 z32 0 z32 0 (.slice none 0 0)).toArray 38))
 have HR1 := Lh (HR.o.below (hb1.mono hB))
 have HB1 := Lh hb1
 clear hb1 HR hB
 generalize w.alloc (.cells (ag 0 0 z32 0 z32 0 (.slice none 0 0)).toArray 38) = w1 at *
 by_cases h0 : l.length = 0
 ·have HN := Lh (show gc l = none by rw [List.length_eq_zero_iff.1 h0]; exact qfa)
  have hneg : ((l.length : Int) - 1) < 0 := by omega
  go_wp2_with (refine ai (some 23) rfl ?_)
  refine Stop.go (bl rfl 38 rfl (vs := #[]) (by rfl) (rk _) ?_)
  refine ac rfl 38 rfl rfl rfl (ce (bb ..) (bk _ _ _ _ _ _ _ rfl rfl) HG1.o (by rw [List.size_toArray, ah, ah]; rfl) (bd _ _ _ _ _ _ _ _ _)) ?_
  go_wp2_with fail
  refine ii rfl rfl rfl rfl rfl rfl (setRow_heap _ _ _ _ _ _ HG1.o) ?_
  exact qt HN.o rfl (below_setRow HB1.o (nr _) _)
 ·have h0' : 0 < l.length := by omega
  obtain ⟨n, hn⟩ : ∃ n, l.length = n + 1 := ⟨l.length - 1, by omega⟩
  have hnl : n < l.length := by omega
  obtain ⟨ab, ao, rfl, hab, hcell⟩ := HR1.o.byte hnl
  obtain ⟨d, hd⟩ : ∃ d, d = l[n].toNat := ⟨_, rfl⟩
  rw [← hd] at hcell
  have en : l.length - 1 = n := by omega
  by_cases hd10 : d = 10
  ·have HP := Lh (show gc l = sj (l.take n) by
    have := qcn h0' (by apply UInt8.toNat_inj.1; simp only [en]; rw [← hd, hd10]; rfl)
    rwa [en] at this)
   have HT := Lh (show (l.take n).length = n by rw [List.length_take]; omega)
   have hXL := HT.o
   have HRT := Lh (show Rd w1 B (some ⟨ab, ao, none⟩) (ak (l.take n)) by have := HR1.o.take_ n; rwa [show (ak l).take n = ak (l.take n) by simp [ak]] at this)
   subst hd10
   have hu := qdh (some ⟨ab, ao, none⟩) (n + 1) c n (by omega)
   clear hd en HR1 h0 h0'
   rw [hn] at hl hc hnl ⊢
   clear hn
   have hsub : ((n + 1 : Nat) : Int) - 1 = (n : Int) := by omega
   have HU := qnq (l.take n) (some ⟨ab, ao, none⟩) c B w1 HRT.o (Nat.le_trans HBW.o HB1.o.size) (by rw [HT.o]; omega)
   rw [HT.o] at HU
   have HUU := Lh HU
   obtain ⟨X, hX⟩ : ∃ X, X = l.take n := ⟨_, rfl⟩
   rw [← hX] at HP HUU hXL
   have HXL := Lh hXL
   clear HU HRT HT hX hXL
   go_wp2_with fail
   refine HUU.o.mono ?_
   rintro e w2 ⟨hb2, hcase⟩
   have HB2 := Lh (HB1.o.trans (hb2.mono HB1.o.size))
   have HG2 := Lh ((hb2.block _ (gl HG1.o)).trans HG1.o)
   cases hun : dn X with
   |none =>
    rw [hun] at hcase
    obtain rfl : e = _ := hcase
    have HN := Lh (HP.o.trans (qrv hun))
    clear hun hb2 HG1 HB1 HP HUU
    go_wp2_with (refine ai (some 33) rfl ?_)
    refine Stop.go (bl rfl 38 rfl (vs := #[]) (by rfl) (rk _) ?_)
    refine ac rfl 38 rfl rfl rfl (ce (bb ..) (bk _ _ _ _ _ _ _ rfl rfl) HG2.o (by rw [List.size_toArray, ah, ah]; rfl) (bd _ _ _ _ _ _ _ _ _)) ?_
    go_wp2_with fail
    refine ii rfl rfl rfl rfl rfl rfl (setRow_heap _ _ _ _ _ _ HG2.o) ?_
    exact qt HN.o rfl (below_setRow HB2.o (nr _) _)
   |some F =>
    rw [hun] at hcase
    obtain ⟨vF, rfl, hoF⟩ := hcase
    have HUN := Lh hun
    obtain ⟨AF, cF, rfl, hcF, _⟩ := ap hoF
    have HRF := Lh (Rd.of_own hoF)
    have hFl : F.length ≤ 68719476736 := by
     have := congrArg List.length (qp hun)
     have h3 := jv F
     have h4 : X.length ≤ 68719476736 := by rw [HXL.o]; omega
     omega
    clear hun hb2 HG1 HB1 HUU hoF
    go_wp2_with fail
    refine (open_any F AF cF w2.heap.size w2 HRF.o (nr _) hFl hcF).mono ?_
    rintro e w3 ⟨hb3, hcase⟩
    have HB3 := Lh (HB2.o.trans (hb3.mono HB2.o.size))
    have HG3 := Lh ((hb3.block _ (gl HG2.o)).trans HG2.o)
    cases hfo : el F with
    |none =>
     rw [hfo] at hcase
     obtain ⟨x, hx0, hx1, hx2, rfl⟩ := hcase
     have HN := Lh (HP.o.trans (qkd HUN.o hfo))
     have hxne : (x != 0) = true := by simpa using hx0
     clear hfo hb3 HG2 HB2 HP HUN HRF
     go_wp2_with (refine ai (some 42) rfl ?_)
     refine Stop.go (bl rfl 38 rfl (vs := #[]) (by rfl) (rk _) ?_)
     refine ac rfl 38 rfl rfl rfl (ce (bb ..) (bk _ _ _ _ _ _ _ rfl rfl) HG3.o (by rw [List.size_toArray, ah, ah]; rfl) (bd _ _ _ _ _ _ _ _ _)) ?_
     go_wp2_with fail
     refine ii rfl rfl rfl rfl rfl rfl (setRow_heap _ _ _ _ _ _ HG3.o) ?_
     exact qt HN.o rfl (below_setRow HB3.o (nr _) _)
    |some kl =>
     obtain ⟨k, load⟩ := kl
     rw [hfo] at hcase
     obtain ⟨AL, cL, rfl, hrL⟩ := hcase
     have hLl := (rh hfo).2
     have HN := Lh (HP.o.trans (qru HUN.o hfo))
     have HRL := Lh hrL
     obtain ⟨kn, hkn⟩ : ∃ kn : Nat, kn = k.toNat := ⟨_, rfl⟩
     have hk8 : kn < 256 := by rw [hkn]; exact UInt8.toNat_lt _
     rw [← hkn] at HN ⊢
     clear hfo hb3 HG2 HB2 HP HUN HRF hrL hkn
     go_wp2_with fail
     refine (take_any (kn : Int) load AL cL w3.heap.size w3 HRL.o (nr _) hLl).mono ?_
     rintro e w4 ⟨r, v, rfl, hhs, hks, hdec, hb4⟩
     have HHS := Lh hhs
     have HKS := Lh hks
     have HDEC := Lh hdec
     have HB4 := Lh (HB3.o.trans (hb4.mono HB3.o.size))
     have HG4 := Lh ((hb4.block _ (gl HG3.o)).trans HG3.o)
     have HLT := Lh (show w.heap.size + 1 ≤ w3.heap.size from (gl HG3.o))
     obtain ⟨A4, c4, rfl, _, _⟩ := ap hks.1
     clear hb4 HG3 HB3 hhs hks hdec HRL
     have hb5 : Below w4.heap.size w4 (w4.alloc (.cells (ag r.kind r.seq r.kh r.kk r.mh r.ms (.slice A4 r.keys.length c4)).toArray 38)) := (br _ _).alloc (nr _) _
     have HA5 := Lh (cu.new (t := 38) (kind := r.kind) (seq := r.seq) (kk := r.kk) (ms := r.ms) (v := .slice A4 r.keys.length c4) w4 HHS.o.1 HHS.o.2)
     have HG5 := Lh ((hb5.block _ (gl HG4.o)).trans HG4.o)
     have HB5 := Lh (HB4.o.trans (hb5.mono HB4.o.size))
     have HK5 := Lh (HKS.o.later hb5)
     have HE5 := Lh (show (w4.alloc (.cells (ag r.kind r.seq r.kh r.kk r.mh r.ms (.slice A4 r.keys.length c4)).toArray 38)).heap.size = w4.heap.size + 1 from Array.size_push _)
     cases hok : okT (kn : Int) load with
     |false =>
      rw [hok] at HN
      have HN2 := Lh (show gc l = none by rw [HN.o]; rfl)
      clear hb5 hok HN HDEC
      go_wp2_with (refine ai (some 10) rfl ?_)
      refine Stop.go (av rfl 38 rfl gn rfl ?_)
      refine ac rfl 38 rfl rfl rfl (ch (g := w4.heap.size) rfl (bb ..) (bk _ _ _ _ _ _ _ HHS.o.1 HHS.o.2) (by rw [List.size_toArray, ah, ah, HHS.o.1, HHS.o.2]; rfl) (bd _ _ _ _ _ _ _ _ _)) ?_
      generalize w4.alloc (.cells (ag r.kind r.seq r.kh r.kk r.mh r.ms (.slice A4 r.keys.length c4)).toArray 38) = w5 at *
      go_wp2_with (refine ai (some 52) rfl ?_)
      refine Stop.go (bl rfl 38 rfl (vs := #[]) (by rfl) (rk _) ?_)
      refine ac rfl 38 rfl rfl rfl (ce (bb ..) (bk _ _ _ _ _ _ _ rfl rfl) HG5.o (by rw [List.size_toArray, ah, ah]; rfl) (bd _ _ _ _ _ _ _ _ _)) ?_
      go_wp2_with fail
      refine ii rfl rfl rfl rfl rfl rfl (setRow_heap _ _ _ _ _ _ HG5.o) ?_
      exact qt HN2.o rfl (below_setRow HB5.o (nr _) _)
     |true =>
      rw [hok] at HN
      have HN2 := Lh (show gc l = some r by rw [HN.o, HDEC.o hok]; rfl)
      clear hb5 hok HN HDEC
      go_wp2_with (refine ai (some 10) rfl ?_)
      refine Stop.go (av rfl 38 rfl gn rfl ?_)
      refine ac rfl 38 rfl rfl rfl (ch (g := w4.heap.size) rfl (bb ..) (bk _ _ _ _ _ _ _ HHS.o.1 HHS.o.2) (by rw [List.size_toArray, ah, ah, HHS.o.1, HHS.o.2]; rfl) (bd _ _ _ _ _ _ _ _ _)) ?_
      generalize w4.alloc (.cells (ag r.kind r.seq r.kh r.kk r.mh r.ms (.slice A4 r.keys.length c4)).toArray 38) = w5 at *
      go_wp2_with (refine ai (some 53) rfl ?_)
      refine Stop.go (aa rfl 38 rfl rfl dr rfl (bk _ _ _ _ _ _ _ HHS.o.1 HHS.o.2) HA5.o.all_ ?_)
      refine ac rfl 38 rfl rfl rfl (ce (bb ..) (bk _ _ _ _ _ _ _ HHS.o.1 HHS.o.2) HG5.o (by rw [List.size_toArray, ah, ah, HHS.o.1, HHS.o.2]; rfl) (bd _ _ _ _ _ _ _ _ _)) ?_
      go_wp2_with fail
      refine ii rfl HHS.o.1 HHS.o.2 rfl rfl rfl (setRow_heap _ _ _ _ _ _ HG5.o) ?_
      have HKX := (HK5.o.more (show w.heap.size + 1 ≤ w3.heap.size + 1 by have := HLT.o; omega)).other (w' := w5.setRow w.heap.size (ag r.kind r.seq r.kh r.kk r.mh r.ms (.slice A4 r.keys.length c4)).toArray) (Nat.lt_succ_self _) fun k hk => setRow_other _ _ _ _ hk
      exact qlm HN2.o rfl (HKX.more (Nat.le_succ _)) (below_setRow HB5.o (nr _) _)
  ·have HN := Lh (show gc l = none from yd h0' (by
    intro he
    apply hd10
    rw [hd]
    simp only [en] at he
    rw [he]
    rfl))
   have hne : ((d : Int) != 10) = true := by simp; omega
   clear hd en h0 h0'
   rw [hn] at hl hc hnl ⊢
   clear hn
   have hsub : ((n + 1 : Nat) : Int) - 1 = (n : Int) := by omega
   go_wp2_with (refine ai (some 23) rfl ?_)
   refine Stop.go (bl rfl 38 rfl (vs := #[]) (by rfl) (rk _) ?_)
   refine ac rfl 38 rfl rfl rfl (ce (bb ..) (bk _ _ _ _ _ _ _ rfl rfl) HG1.o (by rw [List.size_toArray, ah, ah]; rfl) (bd _ _ _ _ _ _ _ _ _)) ?_
   go_wp2_with fail
   refine ii rfl rfl rfl rfl rfl rfl (setRow_heap _ _ _ _ _ _ HG1.o) ?_
   exact qt HN.o rfl (below_setRow HB1.o (nr _) _)
end Go.Proofs.YtplbcbamnjnhlaaGreatDoor
