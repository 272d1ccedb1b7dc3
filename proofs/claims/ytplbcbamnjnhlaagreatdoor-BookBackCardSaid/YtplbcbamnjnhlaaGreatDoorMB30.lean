/- Texts of this proof joined: RefSeven, RefLine. -/
import Derived.Test.YtplbcbamnjnhlaaGreatDoorMB29
import Derived.Test.YtplbcbamnjnhlaaGreatDoorMB19
import Derived.Test.YtplbcbamnjnhlaaGreatDoorMB24
import Derived.Test.YtplbcbamnjnhlaaGreatDoorMB17
namespace Go.Proofs.YtplbcbamnjnhlaaGreatDoor
open Go.RowKit

def bitsN (n v : Nat) : List UInt8 := (digs 2 n v).map fun d => UInt8.ofNat d
theorem bitsN_length (n v : Nat) : (bitsN n v).length = n := by simp [bitsN, digs_length]
theorem bitsN_snoc (n v : Nat) : bitsN (n + 1) v = bitsN n v ++ [UInt8.ofNat (v / 2 ^ n % 2)] := by simp [bitsN, digs_snoc]
theorem bitsN_get (n v k : Nat) (h : k < (bitsN n v).length) : (bitsN n v)[k].toNat = v / 2 ^ k % 2 := by
  have h2 : k < (digs 2 n v).length := by simpa [bitsN] using h
  simp only [bitsN, List.getElem_map, digs_get, UInt8.toNat_ofNat']
  omega
theorem ofDigs_get (B : Nat) (hB : 0 < B) : ∀ (l : List Nat), (∀ d ∈ l, d < B) → ∀ (i : Nat) (h : i < l.length), ofDigs B l / B ^ i % B = l[i]
  | [], _, i, h => by simp at h
  | d :: l, hl, 0, h => by
    have := hl d (by simp)
    simp [ofDigs, Nat.mod_eq_of_lt this]
  | d :: l, hl, i + 1, h => by
    have hd := hl d (by simp)
    have := ofDigs_get B hB l (fun x hx => hl x (by simp [hx])) i (by simpa using h)
    rw [ofDigs, Nat.pow_succ, Nat.mul_comm (B ^ i) B, ← Nat.div_div_eq_div_mul, Nat.add_mul_div_left _ _ hB, Nat.div_eq_of_lt hd, Nat.zero_add, this]
    simp
theorem v256_get (l : List UInt8) (i : Nat) (h : i < l.length) : v256 l / 256 ^ i % 256 = l[i].toNat := by
  have := ofDigs_get 256 (by omega) (l.map (·.toNat)) (by intro d hd; obtain ⟨c, _, rfl⟩ := List.mem_map.1 hd; exact c.toNat_lt) i (by simpa using h)
  simpa [v256] using this
theorem mod_bit (x m k : Nat) (hk : k < m) : x % 2 ^ m / 2 ^ k % 2 = x / 2 ^ k % 2 := by
  have e : 2 ^ m = 2 ^ k * 2 ^ (m - k) := by rw [← Nat.pow_add]; congr 1; omega
  rw [e, Nat.mod_mul_right_div_self, Nat.mod_mod_of_dvd]
  exact ⟨2 ^ (m - k - 1), by rw [← Nat.pow_succ']; congr 1; omega⟩
theorem bit_256 (l : List UInt8) (i k : Nat) (h : i < l.length) (hk : k < 8) : v256 l / 2 ^ (8 * i + k) % 2 = l[i].toNat / 2 ^ k % 2 := by
  rw [← v256_get l i h, pow_256, show (256 : Nat) = 2 ^ 8 by decide, mod_bit _ 8 k hk, Nat.div_div_eq_div_mul, ← Nat.pow_add]
theorem bit_own {w : World} {base : Nat} {v : Value} {n m : Nat} {xs : List Value} (h : w.ownsRow base 5 1 v n (xs ++ [.int .u8 (m : Int)])) (hm : m < 256) :
    w.ownsRow base 5 1 v n (xs ++ bcells [UInt8.ofNat m]) := by
  have e : bcells [UInt8.ofNat m] = [.int .u8 (m : Int)] := by simp [bcells, bcell]; omega
  rw [e]
  exact h
set_option maxRecDepth 100000 in
set_option maxHeartbeats 1000000 in
theorem bits_any (l : List UInt8) (A : Option Addr) (c B : Nat) (w : World) (hr : Rd w B A (bcells l)) (hB : B ≤ w.heap.size) (hl : l.length ≤ 68719476736) :
    Calls Tryz.prog 98 #[.slice A l.length c] w fun e w' => ∃ v, e = .returned v ∧ w'.ownsRow w.heap.size 5 1 v (8 * l.length) (bcells (bitsN (8 * l.length) (v256 l))) ∧ Below w.heap.size w w' := by
  have HR := Lib.hid hr
  clear hr
  go_enter Tryz.func98, Tryz.ntmps98
  go_wp2_with fail
  go_loopw [3, 4] (fun v3 v4 wr => ∃ i : Nat, i ≤ l.length ∧ v4 = .int .i64 i ∧ wr.ownsRow w.heap.size 5 1 v3 (8 * i) (bcells (bitsN (8 * i) (v256 l))) ∧ Below w.heap.size w wr) (fun _ v4 _ => l.length - (intOf v4).toNat)
  case atStart => exact ⟨0, by omega, rfl, World.ownsRow_nil _ _ _ _, Below.refl _ _⟩
  case round =>
    obtain ⟨i, hi, rfl, hown, hbr⟩ := hrel
    have hsz := hbr.size
    by_cases hlt : i < l.length
    · obtain ⟨ab, ao, rfl, hab, hcell⟩ := (HR.out.below (hbr.mono hB)).byte hlt
      have hb8 := l[i].toNat_lt
      obtain ⟨wo, rfl⟩ : ∃ wo : World, wo = wr := ⟨_, rfl⟩
      go_wp2_with fail
      go_loopw [3, 5, 6] (fun v3 v5 v6 wr => ∃ k x : Nat, k ≤ 8 ∧ v6 = .int .i64 k ∧ v5 = .int .u8 x ∧ x < 256 ∧ Hid (x = l[i].toNat / 2 ^ k) ∧ wr.ownsRow w.heap.size 5 1 v3 (8 * i + k) (bcells (bitsN (8 * i + k) (v256 l))) ∧ Below w.heap.size w wr) (fun _ _ v6 _ => 8 - (intOf v6).toNat)
      case atStart => exact ⟨0, _, by omega, rfl, rfl, hb8, (by show _ = _; simp), hown, hbr⟩
      case round =>
        obtain ⟨k, x, hk, rfl, rfl, hx, hxe, hown', hbr'⟩ := hrel
        have hsz2 := hbr'.size
        by_cases hk8 : k < 8
        · have HB := Lib.hid (bit_256 l i k hlt hk8)
          go_wp2_with (at_builtin; refine wpList_app u8_ty rfl rfl rfl rfl (hown'.alloc _) (Rd.row (B := wr.heap.size + 1) (Go.heap_alloc_new wr _) (by omega)) rfl (by simp [Value.oneCell']) ?h63 ?hby ?hbase ?_)
          case h63 => simp only [maxLen]; omega
          case hby => omega
          case hbase => simp; omega
          intro v1 w3 hown3 hg3 _ _
          have HO := Lib.hid hown3
          have HG3 := Lib.hid hg3
          clear hown3 hg3
          go_wp2
          go_roundw
          case rel =>
            refine ⟨k + 1, x / 2, by omega, by go_num, by rfl, by omega, ?_, ?_, grown_below (hbr'.alloc hsz2 _) HG3.out (hown'.alloc _) (Nat.le_refl _) (by simp; omega)⟩
            · show _ = _
              rw [hxe.out, Nat.div_div_eq_div_mul, ← Nat.pow_succ]
            · rw [← Nat.add_assoc, bitsN_snoc, bcells_append, HB.out, ← hxe.out]
              exact bit_own (m := x % 2) (by simpa using HO.out) (by omega)
          case measure => simp [intOf]; omega
        · have hk' : k = 8 := by omega
          subst hk'
          go_wp2
          go_roundw
          case rel => exact ⟨i + 1, by omega, by go_num, by rw [Nat.mul_succ]; exact hown', hbr'⟩
          case measure => simp [intOf]; omega
    · have hil : i = l.length := by omega
      subst hil
      go_wp2
      go_ret
      exact ⟨_, rfl, hown, hbr⟩
def PackIn (l : List UInt8) (q : Nat) (wo : World) (v6 v7 v8 : Value) (wi : World) : Prop := ∃ t cc p : Nat, wi = wo ∧ t ≤ 7 ∧ v8 = .int .i64 (7 * (q : Int) + t) ∧ v6 = .int .i64 cc ∧ v7 = .int .i64 p ∧ cc ≤ 255 ∧ p ≤ 128 ∧ Hid (cc = 128 + v256 l / 2 ^ (7 * q) % 2 ^ t) ∧ Hid (p = 2 ^ t)
theorem mod_succ_bit (x t : Nat) : x % 2 ^ (t + 1) = x % 2 ^ t + x / 2 ^ t % 2 * 2 ^ t := by
  rw [Nat.pow_succ, Nat.mod_mul, Nat.mul_comm (2 ^ t) (x / 2 ^ t % 2)]
set_option maxRecDepth 100000 in
set_option maxHeartbeats 1000000 in
theorem refPack_any (l : List UInt8) (A : Option Addr) (c B : Nat) (w : World) (hr : Rd w B A (bcells l)) (hB : B ≤ w.heap.size) (hl : l.length ≤ 68719476736) :
    Calls Tryz.prog 67 #[.slice A l.length c] w fun e w' => ∃ v, e = .returned v ∧ w'.ownsRow w.heap.size 5 1 v (sevPack l).length (bcells (sevPack l)) ∧ Below w.heap.size w w' := by
  have HR := Lib.hid hr
  clear hr
  have HV := Lib.hid (v256_lt l)
  go_enter Tryz.func67, Tryz.ntmps67
  go_wp2_with fail
  refine (bits_any l A c B w HR.out hB hl).mono ?_
  rintro e w1 ⟨bv, rfl, hob, hb1⟩
  obtain ⟨N, hN⟩ : ∃ N, N = 8 * l.length := ⟨_, rfl⟩
  rw [← hN] at hob
  have hN2 : N ≤ 549755813888 := by omega
  have HN := Lib.hid hN
  clear hN
  have HOB := Lib.hid hob
  obtain ⟨A1, c1, rfl, hc1, hc2⟩ := own_form hob
  have HRB := Lib.hid (Rd.of_own hob)
  have B1 := Lib.hid hb1
  have hs1 := hb1.size
  clear hob hb1
  go_wp2_with fail
  go_loopw [4, 5] (fun v4 v5 wr => ∃ q : Nat, 7 * q ≤ N + 6 ∧ v5 = .int .i64 (7 * (q : Int)) ∧ wr.ownsRow w1.heap.size 5 1 v4 q (bcells (sevOf q (v256 l))) ∧ Below w1.heap.size w1 wr) (fun _ v5 _ => N + 7 - (intOf v5).toNat)
  case atStart => exact ⟨0, by omega, rfl, World.ownsRow_nil _ _ _ _, Below.refl _ _⟩
  case round =>
    obtain ⟨q, hq, rfl, hown, hbr⟩ := hrel
    have hsz := hbr.size
    by_cases hlt : 7 * q < N
    · have hlb : decide (7 * (q : Int) < (N : Int)) = true := by simp; omega
      go_wp2_with fail
      obtain ⟨wo, hwo⟩ : ∃ wo : World, wo = wr := ⟨_, rfl⟩
      subst hwo
      go_loopw [6, 7, 8] (fun v6 v7 v8 wi => PackIn l q wo v6 v7 v8 wi) (fun _ _ v8 _ => 7 * q + 7 - (intOf v8).toNat)
      case atStart => exact ⟨0, 128, 1, rfl, by omega, vint (by omega), rfl, rfl, by omega, by omega, (by show _ = _; simp [Nat.mod_one]), rfl⟩
      case round =>
        obtain ⟨t, cc, p, rfl, ht, rfl, rfl, rfl, hcc, hp, hce, hpe⟩ := hrel
        by_cases ht7 : t < 7
        · have HM := Lib.hid (mod_succ_bit (v256 l / 2 ^ (7 * q)) t)
          have HD := Lib.hid (show v256 l / 2 ^ (7 * q) / 2 ^ t = v256 l / 2 ^ (7 * q + t) by rw [Nat.div_div_eq_div_mul, ← Nat.pow_add])
          have hcb : 128 + v256 l / 2 ^ (7 * q) % 2 ^ (t + 1) ≤ 255 := by
            have h1 : v256 l / 2 ^ (7 * q) % 2 ^ (t + 1) < 2 ^ (t + 1) := Nat.mod_lt _ (Nat.pow_pos (by omega))
            have h2 : 2 ^ (t + 1) ≤ 2 ^ 7 := Nat.pow_le_pow_right (by omega) (by omega)
            omega
          have hpb : 2 ^ (t + 1) ≤ 128 := by
            have h2 : 2 ^ (t + 1) ≤ 2 ^ 7 := Nat.pow_le_pow_right (by omega) (by omega)
            omega
          have HCB := Lib.hid hcb
          have HPB := Lib.hid hpb
          clear hcb hpb
          by_cases hkN : 7 * q + t < N
          · obtain ⟨ab, ao, rfl, hab, hcell⟩ := (HRB.out.below hbr).byte (l := bitsN N (v256 l)) (by rw [bitsN_length]; exact hkN)
            rw [bitsN_get] at hcell
            rcases Nat.mod_two_eq_zero_or_one (v256 l / 2 ^ (7 * q + t)) with hb | hb
            all_goals
              rw [hb] at hcell
              have HB := Lib.hid hb
              clear hb
              go_wp2
              go_roundw
              case rel =>
                first
                | (refine ⟨t + 1, cc, p * 2, rfl, by omega, by go_num, rfl, by go_num, hcc, ?_, ?_, ?_⟩
                   · rw [hpe.out, ← Nat.pow_succ]; exact HPB.out
                   · show _ = _
                     rw [HM.out, HD.out, HB.out, hce.out]; omega
                   · show _ = _
                     rw [hpe.out, ← Nat.pow_succ])
                | (refine ⟨t + 1, cc + p, p * 2, rfl, by omega, by go_num, by go_num, by go_num, ?_, ?_, ?_, ?_⟩
                   · have h := HCB.out
                     rw [HM.out, HD.out, HB.out, ← hpe.out] at h
                     have h2 := hce.out
                     rw [← hpe.out] at h2
                     omega
                   · rw [hpe.out, ← Nat.pow_succ]; exact HPB.out
                   · show _ = _
                     rw [HM.out, HD.out, HB.out, hce.out, hpe.out]; omega
                   · show _ = _
                     rw [hpe.out, ← Nat.pow_succ])
              case measure => simp [intOf]; omega
          · have hz : v256 l / 2 ^ (7 * q + t) % 2 = 0 := by
              rw [Nat.div_eq_of_lt]
              have h1 := HV.out
              rw [pow_256, ← HN.out] at h1
              exact Nat.lt_of_lt_of_le h1 (Nat.pow_le_pow_right (by omega) (by omega))
            have HB := Lib.hid hz
            clear hz
            go_wp2
            go_roundw
            case rel =>
              refine ⟨t + 1, cc, p * 2, rfl, by omega, by go_num, rfl, by go_num, hcc, ?_, ?_, ?_⟩
              · rw [hpe.out, ← Nat.pow_succ]; exact HPB.out
              · show _ = _
                rw [HM.out, HD.out, HB.out, hce.out]; omega
              · show _ = _
                rw [hpe.out, ← Nat.pow_succ]
            case measure => simp [intOf]; omega
        · have ht' : t = 7 := by omega
          subst ht'
          go_wp2_with (at_builtin; refine wpList_app u8_ty rfl rfl rfl rfl (hown.alloc _) (Rd.row (B := wr.heap.size + 1) (Go.heap_alloc_new wr _) (by omega)) rfl (by simp [Value.oneCell']) ?h63 ?hby ?hbase ?_)
          case h63 => simp only [maxLen]; omega
          case hby => omega
          case hbase => simp; omega
          intro v1 w3 hown3 hg3 _ _
          have HO := Lib.hid hown3
          have HG3 := Lib.hid hg3
          clear hown3 hg3
          go_wp2
          go_roundw
          case rel =>
            refine ⟨q + 1, by omega, by go_num, ?_, grown_below (hbr.alloc hsz _) HG3.out (hown.alloc _) (Nat.le_refl _) (by simp; omega)⟩
            rw [sevOf_snoc, bcells_append, pow_128, show (128 : Nat) + v256 l / 2 ^ (7 * q) % 128 = cc by rw [hce.out]]
            refine bit_own (m := cc) ?_ (by omega)
            exact HO.out
          case measure => simp [intOf]; omega
    · have e : (8 * l.length + 6) / 7 = q := by have := HN.out; omega
      have E := Lib.hid e
      have h7 : ¬ 7 * (q : Int) < (N : Int) := by omega
      go_wp2
      go_ret
      refine ⟨_, rfl, ?_, B1.out.trans (hbr.mono hs1)⟩
      unfold sevPack
      rw [E.out, sevOf_length]
      exact own_more hown hs1
end Go.Proofs.YtplbcbamnjnhlaaGreatDoor
namespace Go.Proofs.YtplbcbamnjnhlaaGreatDoor
open Go.RowKit

set_option maxRecDepth 100000 in
set_option maxHeartbeats 8000000 in
theorem line32_any (r : RecD) (A : Option Addr) (n c B : Nat) (w : World) (hr : Hs r) (h1 : SlR eKey w B (.slice A n c) r.keys) (hB : B ≤ w.heap.size) (hR : rightB r = true) (hks : ∀ x ∈ r.keys, x.1.length = 32) :
    Calls Tryz.prog 41 #[rv r (.slice A n c)] w fun e w' => ∃ v, e = .returned v ∧ w'.ownsRow w.heap.size 5 1 v (lineL r).length (bcells (lineL r)) ∧ Below w.heap.size w w' := by
  have HR := Lib.hid hr
  have HBW := Lib.hid hB
  have HRT := Lib.hid hR
  obtain ⟨K, hK⟩ : ∃ K : UInt8, r.kind = (K.toNat : Int) := ⟨UInt8.ofNat r.kind.toNat, by
    have := right_kind hR
    rw [UInt8.toNat_ofNat']
    omega⟩
  have HK := Lib.hid hK
  have hk8 := K.toNat_lt
  have HLL := Lib.hid (loadL_le r hr hks hR)
  have HLN := Lib.hid (show lineL r = sevPack (frameSeal K (loadL r)) ++ [10] by unfold lineL; rw [hK]; simp)
  have HB1 := Lib.hid ((Below.refl _ _).alloc (Nat.le_refl _) (.cells (recCells r.kind r.seq r.kh r.kk r.mh r.ms (.slice A n c)).toArray 42) : Below w.heap.size w _)
  have HG1 := Lib.hid (RecAt.new (t := 42) (kind := r.kind) (seq := r.seq) (kk := r.kk) (ms := r.ms) (v := .slice A n c) w hr.1 hr.2)
  have HK1 := Lib.hid (h1.fut HB1.out hB (Nat.le_refl B))
  clear hr h1 hB hks hK hR
  go_enter Tryz.func41, Tryz.ntmps41
  go_wp2_with (refine stop_at (some 1) rfl ?_)
  refine Stop.go (wpList_box rfl _ rfl rfl (recv_cells ..) ?_)
  generalize w.alloc (.cells (recCells r.kind r.seq r.kh r.kk r.mh r.ms (.slice A n c)).toArray 42) = w1 at *
  go_wp2_with fail
  refine wpF_float [4, 5, 6, 7, 8] [1, 3] [] (fun w' => Below w1.drew.heap.size w1.drew w') 7 _ (Below.refl _ _) (by kernel_rfl) rfl rfl (by kernel_rfl) ?_
  have HBD := Lib.hid (show Below w1.heap.size w1 w1.drew from (Below.refl _ _).drew)
  have HG2 := Lib.hid (HG1.out.later HBD.out)
  have HK2 := Lib.hid (HK1.out.below (HBD.out.mono (Nat.le_trans HBW.out HB1.out.size)))
  have HBN := Lib.hid (show B ≤ w1.drew.heap.size from Nat.le_trans (Nat.le_trans HBW.out HB1.out.size) HBD.out.size)
  generalize w1.drew = w2 at *
  have c0 : w2.cell? ⟨w.heap.size, 0, none⟩ = some (.int .i64 K.toNat) := by rw [← HK.out]; exact HG2.out.kind_
  have HC0 := Lib.hid (show ∀ w', Below w2.heap.size w2 w' → w'.cell? ⟨w.heap.size, 0, none⟩ = some (.int .i64 K.toNat) from fun w' hb => by rw [← HK.out]; exact (HG2.out.later hb).kind_)
  have HCA := Lib.hid (show ∀ w', Below w2.heap.size w2 w' → ∀ j u, (recCells r.kind r.seq r.kh r.kk r.mh r.ms (.slice A n c))[j]? = some u → w'.cell? ⟨w.heap.size, 0 + j, none⟩ = some u from fun w' hb => (HG2.out.later hb).all_)
  refine wpF_seg 3 (by decide) (fun Q0 hQ0 => ?_)
  simp only [List.take_succ_cons, List.take_zero]
  go_wp2_with fail
  try simp only [List.drop_succ_cons, List.drop_zero]
  refine wpF_seg 1 (by decide) (fun Q1 hQ1 => ?_)
  simp only [List.take_succ_cons, List.take_zero]
  refine wpList_load_agg rfl 42 rfl rfl rec32Ty_u rfl (rec32_size _ _ _ _ _ _ _ HR.out.1 HR.out.2) HG2.out.all_ ?_
  refine hQ1 _ _ ?_
  simp only [List.drop_succ_cons, List.drop_zero]
  generalize hac : Act.put _ _ _ = a9
  simp [Act.put] at hac
  subst hac
  obtain ⟨LL, hLL⟩ : ∃ L, L = loadL r := ⟨_, rfl⟩
  rw [← hLL] at HLL HLN
  obtain ⟨F, hF⟩ : ∃ F, F = frameSeal K LL := ⟨_, rfl⟩
  have HFL := Lib.hid (show F.length ≤ 10000 by rw [hF, frameSeal_length]; have := vForm_len_le LL.length (by have := HLL.out; omega); have := HLL.out; omega)
  rw [← hF] at HLN
  obtain ⟨S, hS⟩ : ∃ S, S = sevPack F := ⟨_, rfl⟩
  have hsl : S.length ≤ 20000 := by rw [hS, sevPack_length]; have := HFL.out; omega
  rw [← hS] at HLN
  have HEL := Lib.hid hLL
  have HEF := Lib.hid hF
  have HES := Lib.hid hS
  have HB2 := Lib.hid (Below.refl w2.heap.size w2)
  clear hLL hF hS
  refine wpF_one (by decide) rfl (fun Q1 hQ1 => ?_) (fun Q1 hQ1 => ?_)
  · have hbf : Below w2.heap.size w2 (w2.alloc (.cells #[.int .u8 10] 5)) := (Below.refl _ _).alloc (Nat.le_refl _) _
    have HF3 := Lib.hid (Go.heap_alloc_new w2 (.cells #[.int .u8 10] 5))
    have HB3 := Lib.hid (HB2.out.trans (hbf.mono HB2.out.size))
    clear hbf
    go_wp2_with fail
    generalize w2.alloc (.cells #[.int .u8 10] 5) = w3 at *
    refine ⟨HB3.out, ?_⟩
    refine wpX_one (by decide) (fun Q1 hQ1 => ?_)
    go_wp2_with fail
    refine (load32_any r A n c B _ HR.out (HK2.out.below (HB3.out.mono HBN.out)) (Nat.le_trans HBN.out HB3.out.size) HRT.out).mono ?_
    rintro e w4 ⟨v4, rfl, ho4, hb4⟩
    rw [← HEL.out] at ho4
    obtain ⟨A4, c4, rfl, _, _⟩ := own_form ho4
    have HB4 := Lib.hid (HB3.out.trans (hb4.mono HB3.out.size))
    have HF4 := Lib.hid (show w4.heap[w2.heap.size]? = some (.cells #[.int .u8 10] 5 (0, 0)) from (hb4.block _ (Array.getElem?_eq_some_iff.1 HF3.out).1).trans HF3.out)
    have HL4 := Lib.hid (Rd.of_own ho4)
    clear ho4 hb4
    go_wp2_with fail
    refine ⟨HB4.out, ?_⟩
    refine wpX_one (by decide) (fun Q1 hQ1 => ?_)
    go_wp2_with fail
    refine (refSeal_any K LL _ _ _ _ HL4.out (Nat.le_refl _) (by have := HLL.out; omega)).mono ?_
    rintro e w5 ⟨v5, rfl, ho5, hb5⟩
    rw [← HEF.out] at ho5
    obtain ⟨A5, c5, rfl, _, _⟩ := own_form ho5
    have HB5 := Lib.hid (HB4.out.trans (hb5.mono HB4.out.size))
    have HF5 := Lib.hid (show w5.heap[w2.heap.size]? = some (.cells #[.int .u8 10] 5 (0, 0)) from (hb5.block _ (Array.getElem?_eq_some_iff.1 HF4.out).1).trans HF4.out)
    have HL5 := Lib.hid (Rd.of_own ho5)
    clear ho5 hb5
    go_wp2_with fail
    refine ⟨HB5.out, ?_⟩
    refine wpX_one (by decide) (fun Q1 hQ1 => ?_)
    go_wp2_with fail
    refine (refPack_any F _ _ _ _ HL5.out (Nat.le_refl _) (by have := HFL.out; omega)).mono ?_
    rintro e w6 ⟨v6, rfl, ho6, hb6⟩
    rw [← HES.out] at ho6
    obtain ⟨A6, c6, rfl, _, _⟩ := own_form ho6
    have HB6 := Lib.hid (HB5.out.trans (hb6.mono HB5.out.size))
    have HF6 := Lib.hid (show w6.heap[w2.heap.size]? = some (.cells #[.int .u8 10] 5 (0, 0)) from (hb6.block _ (Array.getElem?_eq_some_iff.1 HF5.out).1).trans HF5.out)
    have HO6 := Lib.hid (own_more ho6 (show w2.heap.size ≤ w5.heap.size from HB5.out.size))
    clear ho6 hb6
    go_wp2_with fail
    refine ⟨HB6.out, ?_⟩
    refine wpX_skip ?_
    refine wpX_one (by decide) (fun Q1 hQ1 => ?_)
    refine wpList_app u8_ty rfl rfl rfl rfl HO6.out (Rd.row (B := w6.heap.size) HF6.out (Array.getElem?_eq_some_iff.1 HF6.out).1) (m := 1) rfl (by simp [Value.oneCell']) ?h63 ?hby ?hbase ?_
    case h63 => simp only [maxLen]; omega
    case hby => omega
    case hbase => exact HB6.out.size
    intro v7 w7 hown7 hg7 _ _
    have HB7 := Lib.hid (grown_below HB6.out hg7 HO6.out (Nat.le_refl _) HB6.out.size)
    have HO7 := Lib.hid hown7
    clear hown7 hg7
    refine wpList_nil (hQ1 _ _ ⟨HB7.out, ?_⟩)
    generalize hac : Act.put _ _ _ = a9
    simp [Act.put] at hac
    subst hac
    refine wpX_seg 1 (by decide) (fun Q2 hQ2 => ?_)
    simp only [List.take_succ_cons, List.take_zero]
    go_wp2_with fail
    try simp only [List.drop_succ_cons, List.drop_zero]
    refine wpX_end ⟨by rfl, ⟨(fun _ => ⟨_, fun w' hI => load_int Tryz.underlying3 (HC0.out w' hI)⟩), (fun _ => ⟨_, fun w' hI => load_agg rec32Ty_u rfl (rec32_size _ _ _ _ _ _ _ HR.out.1 HR.out.2) (HCA.out w' hI)⟩), trivial⟩, ?_⟩
    go_wp2_with fail
    go_ret
    refine ⟨v7, rfl, ?_, HB1.out.trans ((HBD.out.trans (HB7.out.mono HBD.out.size)).mono HB1.out.size)⟩
    have h7 := own_more HO7.out (show w.heap.size ≤ w2.heap.size from Nat.le_trans HB1.out.size HBD.out.size)
    rw [HLN.out, bcells_append, List.length_append]
    exact h7
  · go_wp2_with fail
    refine (load32_any r A n c B _ HR.out (HK2.out.below (HB2.out.mono HBN.out)) (Nat.le_trans HBN.out HB2.out.size) HRT.out).mono ?_
    rintro e w8 ⟨v8, rfl, ho8, hb8⟩
    rw [← HEL.out] at ho8
    obtain ⟨A8, c8, rfl, _, _⟩ := own_form ho8
    have HB8 := Lib.hid (HB2.out.trans (hb8.mono HB2.out.size))
    have HL8 := Lib.hid (Rd.of_own ho8)
    clear ho8 hb8
    go_wp2_with fail
    refine ⟨HB8.out, ?_⟩
    refine wpF_one (by decide) rfl (fun Q1 hQ1 => ?_) (fun Q1 hQ1 => ?_)
    · have hbf : Below w8.heap.size w8 (w8.alloc (.cells #[.int .u8 10] 5)) := (Below.refl _ _).alloc (Nat.le_refl _) _
      have HF9 := Lib.hid (Go.heap_alloc_new w8 (.cells #[.int .u8 10] 5))
      have HB9 := Lib.hid (HB8.out.trans (hbf.mono HB8.out.size))
      have HL9 := Lib.hid ((HL8.out.below hbf).more hbf.size)
      clear hbf
      go_wp2_with fail
      generalize w8.alloc (.cells #[.int .u8 10] 5) = w9 at *
      refine ⟨HB9.out, ?_⟩
      refine wpX_one (by decide) (fun Q1 hQ1 => ?_)
      go_wp2_with fail
      refine (refSeal_any K LL _ _ _ _ HL9.out (Nat.le_refl _) (by have := HLL.out; omega)).mono ?_
      rintro e w10 ⟨v10, rfl, ho10, hb10⟩
      rw [← HEF.out] at ho10
      obtain ⟨A10, c10, rfl, _, _⟩ := own_form ho10
      have HB10 := Lib.hid (HB9.out.trans (hb10.mono HB9.out.size))
      have HF10 := Lib.hid (show w10.heap[w8.heap.size]? = some (.cells #[.int .u8 10] 5 (0, 0)) from (hb10.block _ (Array.getElem?_eq_some_iff.1 HF9.out).1).trans HF9.out)
      have HL10 := Lib.hid (Rd.of_own ho10)
      clear ho10 hb10
      go_wp2_with fail
      refine ⟨HB10.out, ?_⟩
      refine wpX_one (by decide) (fun Q1 hQ1 => ?_)
      go_wp2_with fail
      refine (refPack_any F _ _ _ _ HL10.out (Nat.le_refl _) (by have := HFL.out; omega)).mono ?_
      rintro e w11 ⟨v11, rfl, ho11, hb11⟩
      rw [← HES.out] at ho11
      obtain ⟨A11, c11, rfl, _, _⟩ := own_form ho11
      have HB11 := Lib.hid (HB10.out.trans (hb11.mono HB10.out.size))
      have HF11 := Lib.hid (show w11.heap[w8.heap.size]? = some (.cells #[.int .u8 10] 5 (0, 0)) from (hb11.block _ (Array.getElem?_eq_some_iff.1 HF10.out).1).trans HF10.out)
      have HO11 := Lib.hid (own_more ho11 (show w2.heap.size ≤ w10.heap.size from HB10.out.size))
      clear ho11 hb11
      go_wp2_with fail
      refine ⟨HB11.out, ?_⟩
      refine wpX_skip ?_
      refine wpX_one (by decide) (fun Q1 hQ1 => ?_)
      refine wpList_app u8_ty rfl rfl rfl rfl HO11.out (Rd.row (B := w11.heap.size) HF11.out (Array.getElem?_eq_some_iff.1 HF11.out).1) (m := 1) rfl (by simp [Value.oneCell']) ?h63 ?hby ?hbase ?_
      case h63 => simp only [maxLen]; omega
      case hby => omega
      case hbase => exact HB11.out.size
      intro v12 w12 hown12 hg12 _ _
      have HB12 := Lib.hid (grown_below HB11.out hg12 HO11.out (Nat.le_refl _) HB11.out.size)
      have HO12 := Lib.hid hown12
      clear hown12 hg12
      refine wpList_nil (hQ1 _ _ ⟨HB12.out, ?_⟩)
      generalize hac : Act.put _ _ _ = a9
      simp [Act.put] at hac
      subst hac
      refine wpX_seg 1 (by decide) (fun Q2 hQ2 => ?_)
      simp only [List.take_succ_cons, List.take_zero]
      go_wp2_with fail
      try simp only [List.drop_succ_cons, List.drop_zero]
      refine wpX_end ⟨by rfl, ⟨(fun _ => ⟨_, fun w' hI => load_int Tryz.underlying3 (HC0.out w' hI)⟩), (fun _ => ⟨_, fun w' hI => load_agg rec32Ty_u rfl (rec32_size _ _ _ _ _ _ _ HR.out.1 HR.out.2) (HCA.out w' hI)⟩), trivial⟩, ?_⟩
      go_wp2_with fail
      go_ret
      refine ⟨v12, rfl, ?_, HB1.out.trans ((HBD.out.trans (HB12.out.mono HBD.out.size)).mono HB1.out.size)⟩
      have h7 := own_more HO12.out (show w.heap.size ≤ w2.heap.size from Nat.le_trans HB1.out.size HBD.out.size)
      rw [HLN.out, bcells_append, List.length_append]
      exact h7
    · go_wp2_with fail
      refine (refSeal_any K LL _ _ _ _ HL8.out (Nat.le_refl _) (by have := HLL.out; omega)).mono ?_
      rintro e w13 ⟨v13, rfl, ho13, hb13⟩
      rw [← HEF.out] at ho13
      obtain ⟨A13, c13, rfl, _, _⟩ := own_form ho13
      have HB13 := Lib.hid (HB8.out.trans (hb13.mono HB8.out.size))
      have HL13 := Lib.hid (Rd.of_own ho13)
      clear ho13 hb13
      go_wp2_with fail
      refine ⟨HB13.out, ?_⟩
      refine wpF_one (by decide) rfl (fun Q1 hQ1 => ?_) (fun Q1 hQ1 => ?_)
      · have hbf : Below w13.heap.size w13 (w13.alloc (.cells #[.int .u8 10] 5)) := (Below.refl _ _).alloc (Nat.le_refl _) _
        have HF14 := Lib.hid (Go.heap_alloc_new w13 (.cells #[.int .u8 10] 5))
        have HB14 := Lib.hid (HB13.out.trans (hbf.mono HB13.out.size))
        have HL14 := Lib.hid ((HL13.out.below hbf).more hbf.size)
        clear hbf
        go_wp2_with fail
        generalize w13.alloc (.cells #[.int .u8 10] 5) = w14 at *
        refine ⟨HB14.out, ?_⟩
        refine wpX_one (by decide) (fun Q1 hQ1 => ?_)
        go_wp2_with fail
        refine (refPack_any F _ _ _ _ HL14.out (Nat.le_refl _) (by have := HFL.out; omega)).mono ?_
        rintro e w15 ⟨v15, rfl, ho15, hb15⟩
        rw [← HES.out] at ho15
        obtain ⟨A15, c15, rfl, _, _⟩ := own_form ho15
        have HB15 := Lib.hid (HB14.out.trans (hb15.mono HB14.out.size))
        have HF15 := Lib.hid (show w15.heap[w13.heap.size]? = some (.cells #[.int .u8 10] 5 (0, 0)) from (hb15.block _ (Array.getElem?_eq_some_iff.1 HF14.out).1).trans HF14.out)
        have HO15 := Lib.hid (own_more ho15 (show w2.heap.size ≤ w14.heap.size from HB14.out.size))
        clear ho15 hb15
        go_wp2_with fail
        refine ⟨HB15.out, ?_⟩
        refine wpX_skip ?_
        refine wpX_one (by decide) (fun Q1 hQ1 => ?_)
        refine wpList_app u8_ty rfl rfl rfl rfl HO15.out (Rd.row (B := w15.heap.size) HF15.out (Array.getElem?_eq_some_iff.1 HF15.out).1) (m := 1) rfl (by simp [Value.oneCell']) ?h63 ?hby ?hbase ?_
        case h63 => simp only [maxLen]; omega
        case hby => omega
        case hbase => exact HB15.out.size
        intro v16 w16 hown16 hg16 _ _
        have HB16 := Lib.hid (grown_below HB15.out hg16 HO15.out (Nat.le_refl _) HB15.out.size)
        have HO16 := Lib.hid hown16
        clear hown16 hg16
        refine wpList_nil (hQ1 _ _ ⟨HB16.out, ?_⟩)
        generalize hac : Act.put _ _ _ = a9
        simp [Act.put] at hac
        subst hac
        refine wpX_seg 1 (by decide) (fun Q2 hQ2 => ?_)
        simp only [List.take_succ_cons, List.take_zero]
        go_wp2_with fail
        try simp only [List.drop_succ_cons, List.drop_zero]
        refine wpX_end ⟨by rfl, ⟨(fun _ => ⟨_, fun w' hI => load_int Tryz.underlying3 (HC0.out w' hI)⟩), (fun _ => ⟨_, fun w' hI => load_agg rec32Ty_u rfl (rec32_size _ _ _ _ _ _ _ HR.out.1 HR.out.2) (HCA.out w' hI)⟩), trivial⟩, ?_⟩
        go_wp2_with fail
        go_ret
        refine ⟨v16, rfl, ?_, HB1.out.trans ((HBD.out.trans (HB16.out.mono HBD.out.size)).mono HB1.out.size)⟩
        have h7 := own_more HO16.out (show w.heap.size ≤ w2.heap.size from Nat.le_trans HB1.out.size HBD.out.size)
        rw [HLN.out, bcells_append, List.length_append]
        exact h7
      · go_wp2_with fail
        refine (refPack_any F _ _ _ _ HL13.out (Nat.le_refl _) (by have := HFL.out; omega)).mono ?_
        rintro e w17 ⟨v17, rfl, ho17, hb17⟩
        rw [← HES.out] at ho17
        obtain ⟨A17, c17, rfl, _, _⟩ := own_form ho17
        have HB17 := Lib.hid (HB13.out.trans (hb17.mono HB13.out.size))
        have HO17 := Lib.hid (own_more ho17 (show w2.heap.size ≤ w13.heap.size from HB13.out.size))
        clear ho17 hb17
        go_wp2_with fail
        refine ⟨HB17.out, ?_⟩
        refine wpF_at ?_
        refine wpI_one (fun Q1 hQ1 => ?_)
        have hbf : Below w17.heap.size w17 (w17.alloc (.cells #[.int .u8 10] 5)) := (Below.refl _ _).alloc (Nat.le_refl _) _
        have HF18 := Lib.hid (Go.heap_alloc_new w17 (.cells #[.int .u8 10] 5))
        have HB18 := Lib.hid (HB17.out.trans (hbf.mono HB17.out.size))
        have HO18 := Lib.hid (own_below HO17.out hbf)
        clear hbf
        go_wp2_with fail
        generalize w17.alloc (.cells #[.int .u8 10] 5) = w18 at *
        refine ⟨HB18.out, ?_⟩
        refine wpI_one (fun Q1 hQ1 => ?_)
        refine wpList_app u8_ty rfl rfl rfl rfl HO18.out (Rd.row (B := w18.heap.size) HF18.out (Array.getElem?_eq_some_iff.1 HF18.out).1) (m := 1) rfl (by simp [Value.oneCell']) ?h63 ?hby ?hbase ?_
        case h63 => simp only [maxLen]; omega
        case hby => omega
        case hbase => exact HB18.out.size
        intro v19 w19 hown19 hg19 _ _
        have HB19 := Lib.hid (grown_below HB18.out hg19 HO18.out (Nat.le_refl _) HB18.out.size)
        have HO19 := Lib.hid hown19
        clear hown19 hg19
        refine wpList_nil (hQ1 _ _ ⟨HB19.out, ?_⟩)
        generalize hac : Act.put _ _ _ = a9
        simp [Act.put] at hac
        subst hac
        refine wpI_seg 1 (by decide) (fun Q2 hQ2 => ?_)
        simp only [List.take_succ_cons, List.take_zero]
        go_wp2_with fail
        try simp only [List.drop_succ_cons, List.drop_zero]
        refine wpI_end ⟨by rfl, ⟨(fun _ => ⟨_, fun w' hI => load_int Tryz.underlying3 (HC0.out w' hI)⟩), (fun _ => ⟨_, fun w' hI => load_agg rec32Ty_u rfl (rec32_size _ _ _ _ _ _ _ HR.out.1 HR.out.2) (HCA.out w' hI)⟩), trivial⟩, ?_⟩
        go_wp2_with fail
        go_ret
        refine ⟨v19, rfl, ?_, HB1.out.trans ((HBD.out.trans (HB19.out.mono HBD.out.size)).mono HB1.out.size)⟩
        have h7 := own_more HO19.out (show w.heap.size ≤ w2.heap.size from Nat.le_trans HB1.out.size HBD.out.size)
        rw [HLN.out, bcells_append, List.length_append]
        exact h7
end Go.Proofs.YtplbcbamnjnhlaaGreatDoor
