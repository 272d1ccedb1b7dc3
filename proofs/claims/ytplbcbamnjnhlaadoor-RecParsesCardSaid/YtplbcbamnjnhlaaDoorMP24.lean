/- Texts of this proof joined: Seven2, RecIndex, RefSeven, RefSeven2. -/
import Derived.Test.YtplbcbamnjnhlaaDoorMP20
/- Contracts of seven.Whole, Unpack, for any bytes, every world. -/
namespace Go.Proofs.YtplbcbamnjnhlaaDoor
open Go.RowKit

theorem highB_take (l : List UInt8) (k : Nat) (h : k < l.length) : highB (l.take (k + 1)) = (highB (l.take k) && decide (128 ≤ l[k].toNat)) := by
  unfold highB
  rw [List.take_succ_eq_append_getElem h, List.all_append]
  simp only [List.all_cons, List.all_nil, Bool.and_true]
theorem highB_low (l : List UInt8) (k : Nat) (h : k < l.length) (hb : l[k].toNat < 128) : highB l = false := by
  unfold highB
  rw [List.all_eq_false]
  exact ⟨l[k], List.getElem_mem h, by simp; omega⟩
set_option maxRecDepth 100000 in
theorem whole_any (l : List UInt8) (A : Option Addr) (c B : Nat) (w : World) (hr : Rd w B A (bcells l)) (hl : l.length ≤ 1099511627776) :
    Calls Tryd.prog 26 #[.slice A l.length c] w fun e w' => e = .returned (.bool (highB l)) ∧ w = w' := by
  have HR := Lib.hid hr
  clear hr
  go_enter Tryd.func26, Tryd.ntmps26
  go_wp2_with fail
  go_loop [6] (fun v6 => ∃ k : Nat, k ≤ l.length ∧ v6 = .int .i64 k ∧ Hid (highB (l.take k) = true)) (fun v6 => l.length - (intOf v6).toNat)
  case atStart => exact ⟨0, by omega, rfl, rfl⟩
  case round =>
    obtain ⟨k, hk, rfl, hh⟩ := hrel
    by_cases hlt : k < l.length
    · obtain ⟨ab, ao, rfl, hab, hcell⟩ := HR.out.byte hlt
      by_cases hb : l[k].toNat < 128
      · have HL := Lib.hid (highB_low l k hlt hb)
        go_wp2
        go_ret
        exact ⟨rt1 (vbool HL.out.symm), rfl⟩
      · have HL := Lib.hid (show highB (l.take (k + 1)) = true by rw [highB_take l k hlt, hh.out]; simp; omega)
        go_wp2
        go_round
        case rel => exact ⟨k + 1, by omega, by go_num, HL.out⟩
        case measure => simp [intOf]; omega
    · have hkl : k = l.length := by omega
      subst hkl
      rw [List.take_length] at hh
      go_wp2
      go_ret
      exact ⟨rt1 (vbool hh.out.symm), rfl⟩

theorem bytesOfNat_snoc (n v : Nat) : bytesOfNat (n + 1) v = bytesOfNat n v ++ [UInt8.ofNat (v / 256 ^ n % 256)] := by simp [bytesOfNat, digs_snoc]
/-- one packed byte more -/
theorem un_byte (l : List UInt8) (c : UInt8) (i k : Nat) (h : 8 * i + k = 7 * l.length) :
    v128 (l ++ [c]) / 256 ^ i = v128 l / 256 ^ i + c.toNat % 128 * 2 ^ k ∧ bytesOfNat i (v128 (l ++ [c])) = bytesOfNat i (v128 l) := by
  have e : 128 ^ l.length = 2 ^ k * 256 ^ i := by rw [pow_256, pow_128, ← Nat.pow_add]; congr 1; omega
  rw [v128_snoc, e, ← Nat.mul_assoc]
  refine ⟨?_, ?_⟩
  · rw [Nat.add_mul_div_right _ _ (Nat.pow_pos (by omega))]
  · unfold bytesOfNat
    rw [digs_add_mul 256 (by omega)]
theorem un_rest (l : List UInt8) (i k : Nat) (h : 8 * i + k = 7 * l.length) : v128 l / 256 ^ i < 2 ^ k := by
  have e : 128 ^ l.length = 2 ^ k * 256 ^ i := by rw [pow_256, pow_128, ← Nat.pow_add]; congr 1; omega
  have := v128_lt l
  rw [e] at this
  exact Nat.div_lt_of_lt_mul (by rw [Nat.mul_comm]; exact this)
theorem and_127b (c : Nat) (hc : c < 256) : bits .and .u8 (c : Int) 127 = ((c % 128 : Nat) : Int) := by
  rw [show (127 : Int) = ((127 : Nat) : Int) by rfl, u8_and_nat _ _ hc (by omega), show (127 : Nat) = 2 ^ 7 - 1 by decide, Nat.and_two_pow_sub_one_eq_mod]
def UnpackTo (w : World) (r : Option (List UInt8)) (e : Ending) (w' : World) : Prop :=
  Below w.heap.size w w' ∧ match r with
  | none => e = .returned (.tuple #[.slice none 0 0, .bool false])
  | some t => ∃ v, e = .returned (.tuple #[v, .bool true]) ∧ w'.ownsRow w.heap.size 5 1 v t.length (bcells t)
set_option maxRecDepth 100000 in
set_option maxHeartbeats 1000000 in
theorem unpack_any (l : List UInt8) (A : Option Addr) (c B : Nat) (w : World) (hr : Rd w B A (bcells l)) (hB : B ≤ w.heap.size) (hl : l.length ≤ 68719476736) :
    Calls Tryd.prog 12 #[.slice A l.length c] w (UnpackTo w (sevUnpack l)) := by
  have HR := Lib.hid hr
  clear hr
  obtain ⟨n, hn⟩ : ∃ n, n = l.length * 7 / 8 := ⟨_, rfl⟩
  have HN := Lib.hid hn
  have hnl : n ≤ l.length := by omega
  have hni : ((l.length : Int) * 7) / 8 = (n : Int) := by omega
  by_cases hh : highB l = true
  · by_cases hle : (8 * n + 6) / 7 = l.length
    · have hle2 : ((8 * (n : Int) + 6) / 7 != (l.length : Int)) = false := by simp; omega
      have HH := Lib.hid hh
      have HLE := Lib.hid hle
      clear hn hle
      go_enter Tryd.func12, Tryd.ntmps12
      go_wp2_with fail
      refine (whole_any l A c B w HR.out (by omega)).mono ?_
      rintro e w1 ⟨rfl, rfl⟩
      rw [HH.out]
      go_wp2_with fail
      go_loopw [5, 6, 7, 28] (fun v5 v6 v7 v28 wr => ∃ j i k r : Nat, j ≤ l.length ∧ v28 = .int .i64 j ∧ k < 8 ∧ 8 * i + k = 7 * j ∧ v7 = .int .i64 k ∧ v6 = .int .u64 r ∧ r < 256 ∧ Hid (r = v128 (l.take j) / 256 ^ i) ∧
        wr.ownsRow w.heap.size 5 1 v5 i (bcells (bytesOfNat i (v128 (l.take j)))) ∧ Below w.heap.size w wr) (fun _ _ _ v28 _ => l.length - (intOf v28).toNat)
      case atStart => exact ⟨0, 0, 0, 0, by omega, rfl, by omega, rfl, rfl, rfl, by omega, (by show _ = _; simp [v128, ofDigs]), World.ownsRow_nil _ _ _ _, Below.refl _ _⟩
      case round =>
        obtain ⟨j, i, k, r, hj, rfl, hk8, hik, rfl, rfl, hr256, hre, hown, hbr⟩ := hrel
        have hsz := hbr.size
        by_cases hlt : j < l.length
        · obtain ⟨ab, ao, rfl, hab, hcell⟩ := (HR.out.below (hbr.mono hB)).byte hlt
          have hb8 := l[j].toNat_lt
          have ha := and_127b l[j].toNat hb8
          have hlj : (l.take j).length = j := by rw [List.length_take]; omega
          have hrk : r < 2 ^ k := by rw [hre.out]; exact un_rest _ i k (by rw [hlj]; exact hik)
          have UB := Lib.hid (un_byte (l.take j) l[j] i k (by rw [hlj]; exact hik))
          have HT := Lib.hid (show l.take (j + 1) = l.take j ++ [l[j]] from List.take_succ_eq_append_getElem hlt)
          obtain ⟨d, hd⟩ : ∃ d, d = l[j].toNat % 128 := ⟨_, rfl⟩
          rw [← hd] at ha
          have hd128 : d < 128 := by omega
          have ho := or_shl r d k hrk (by omega) (by omega)
          have HD := Lib.hid hd
          clear hlj hrk hd
          have h1 : r + d * 2 ^ k = v128 (l.take (j + 1)) / 256 ^ i := by rw [HT.out, UB.out.1, ← hre.out, ← HD.out]
          have H1 := Lib.hid h1
          have h4 : r + d * 2 ^ k < 32768 := by
            rw [h1]
            have h2 := un_rest (l.take (j + 1)) i (k + 7) (by rw [List.length_take, Nat.min_eq_left (by omega)]; omega)
            have h3 : 2 ^ (k + 7) ≤ 2 ^ 15 := Nat.pow_le_pow_right (by omega) (by omega)
            omega
          clear h1
          have hs : ((r : Int) + (d : Int) * 2 ^ k) = ((r + d * 2 ^ k : Nat) : Int) := by simp
          obtain ⟨x, hx⟩ : ∃ x, x = r + d * 2 ^ k := ⟨_, rfl⟩
          rw [← hx] at hs h4 H1 ho
          have HX := Lib.hid hx
          have HS := Lib.hid hs
          clear hx hs
          by_cases hk1 : 8 ≤ k + 7
          · go_wp2_with (at_builtin; refine wpList_app u8_ty rfl rfl rfl rfl (hown.alloc _) (Rd.row (B := wr.heap.size + 1) (Go.heap_alloc_new wr _) (by omega)) rfl (by simp [Value.oneCell']) ?h63 ?hby ?hbase ?_)
            case h63 => simp only [maxLen]; omega
            case hby => omega
            case hbase => simp; omega
            intro v1 w3 hown3 hg3 _ _
            have HO := Lib.hid hown3
            have HG3 := Lib.hid hg3
            clear hown3 hg3
            go_wp2
            go_roundw
            case rel =>
              refine ⟨j + 1, i + 1, k - 1, x / 256, by omega, by go_num, by omega, by omega, vint (by omega), by rfl, by omega, ?_, ?_, grown_below (hbr.alloc hsz _) HG3.out (hown.alloc _) (Nat.le_refl _) (by simp; omega)⟩
              · show _ = _
                rw [H1.out, Nat.div_div_eq_div_mul, ← Nat.pow_succ]
              · have h := HO.out
                rw [bytesOfNat_snoc, HT.out, UB.out.2, ← HT.out, ← H1.out, bcells_append]
                have e : bcells [UInt8.ofNat (x % 256)] = [.int .u8 ((x : Int) % 256)] := by simp [bcells, bcell]
                rw [e]
                exact h
            case measure => simp [intOf]; omega
          · have hk0 : k = 0 := by omega
            subst hk0
            have HO0 := Lib.hid ho
            clear ho
            go_wp2
            go_roundw
            case rel =>
              have e0 : bits .or .u64 (r : Int) (d : Int) = (x : Int) := by
                have h := HO0.out
                rw [Int.pow_zero, Int.mul_one, IntKind.wrap_u64, Int.emod_eq_of_lt (by omega) (by omega)] at h
                exact h
              refine ⟨j + 1, i, 7, x, by omega, by go_num, by omega, by omega, rfl, vint e0, ?_, H1.out, ?_, hbr⟩
              · rw [H1.out]
                have h2 := un_rest (l.take (j + 1)) i 7 (by rw [List.length_take, Nat.min_eq_left (by omega)]; omega)
                omega
              · rw [HT.out, UB.out.2]; exact hown
            case measure => simp [intOf]; omega
        · have hjl : j = l.length := by omega
          subst hjl
          have hin : i = n := by have := HN.out; omega
          subst hin
          rw [List.take_length] at hre hown
          by_cases hr0 : r = 0
          · have HU := Lib.hid (show sevUnpack l = some (bytesOfNat i (v128 l)) by
              have hlt' : v128 l < 256 ^ i := by
                have h1 := hre.out
                rw [hr0] at h1
                rcases Nat.lt_or_ge (v128 l) (256 ^ i) with h | h
                · exact h
                · have := Nat.div_pos h (Nat.pow_pos (by omega)); omega
              unfold sevUnpack
              simp only [← HN.out]
              rw [if_pos ⟨HH.out, HLE.out, hlt'⟩])
            subst hr0
            go_wp2
            go_ret2
            refine ⟨hbr, ?_⟩
            rw [HU.out]
            exact ⟨_, rfl, by rw [bytesOfNat_length]; exact hown⟩
          · have HU := Lib.hid (show sevUnpack l = none by
              unfold sevUnpack
              simp only [← HN.out]
              rw [if_neg]
              rintro ⟨_, _, h⟩
              apply hr0
              rw [hre.out]
              exact Nat.div_eq_of_lt h)
            have hr1 : ((r : Int) != 0) = true := by simp; omega
            go_wp2
            go_ret2
            refine ⟨hbr, ?_⟩
            rw [HU.out]
            rfl
    · have hle2 : ((8 * (n : Int) + 6) / 7 != (l.length : Int)) = true := by simp; omega
      have HU := Lib.hid (show sevUnpack l = none by
        unfold sevUnpack
        simp only [← HN.out]
        rw [if_neg]
        rintro ⟨_, h, _⟩
        exact hle h)
      have HH := Lib.hid hh
      clear hn hle
      go_enter Tryd.func12, Tryd.ntmps12
      go_wp2_with fail
      refine (whole_any l A c B w HR.out (by omega)).mono ?_
      rintro e w1 ⟨rfl, rfl⟩
      rw [HH.out]
      go_wp2
      go_ret2
      refine ⟨Below.refl _ _, ?_⟩
      rw [HU.out]
      rfl
  · have hh2 : highB l = false := by simpa using hh
    have HU := Lib.hid (show sevUnpack l = none by
      unfold sevUnpack
      simp only
      rw [if_neg]
      rintro ⟨h, _, _⟩
      exact hh h)
    have HH := Lib.hid hh2
    clear hn hh hh2
    go_enter Tryd.func12, Tryd.ntmps12
    go_wp2_with fail
    refine (whole_any l A c B w HR.out (by omega)).mono ?_
    rintro e w1 ⟨rfl, rfl⟩
    rw [HH.out]
    go_wp2
    go_ret2
    refine ⟨Below.refl _ _, ?_⟩
    rw [HU.out]
    rfl
end Go.Proofs.YtplbcbamnjnhlaaDoor
/- Contract of slices.Index at bytes. -/
namespace Go.Proofs.YtplbcbamnjnhlaaDoor
open Go.RowKit

/-- where a byte stands first, or -1 -/
def IndexTo (l : List UInt8) (x : UInt8) (e : Ending) : Prop := (∃ n : Nat, e = .returned (.int .i64 n) ∧ l[n]? = some x ∧ ∀ j : Nat, j < n → l[j]? ≠ some x) ∨ (e = .returned (.int .i64 (-1)) ∧ ∀ j : Nat, l[j]? ≠ some x)
set_option maxRecDepth 100000 in
theorem index_any (l : List UInt8) (x : UInt8) (A : Option Addr) (c B : Nat) (w : World) (hr : Rd w B A (bcells l)) (hl : l.length ≤ 1099511627776) :
    Calls Tryd.prog 21 #[.slice A l.length c, .int .u8 (x.toNat : Nat)] w fun e w' => IndexTo l x e ∧ w = w' := by
  have HR := Lib.hid hr
  clear hr
  obtain ⟨xn, hx⟩ : ∃ xn, xn = x.toNat := ⟨_, rfl⟩
  rw [← hx]
  have HX := Lib.hid hx
  clear hx
  go_enter Tryd.func21, Tryd.ntmps21
  go_wp2_with fail
  go_loop [8] (fun v8 => ∃ k : Nat, k ≤ l.length ∧ v8 = .int .i64 k ∧ Hid (∀ j : Nat, j < k → l[j]? ≠ some x)) (fun v8 => l.length - (intOf v8).toNat)
  case atStart => exact ⟨0, by omega, rfl, fun j hj => absurd hj (by omega)⟩
  case round =>
    obtain ⟨k, hk, rfl, hh⟩ := hrel
    by_cases hlt : k < l.length
    · obtain ⟨ab, ao, rfl, hab, hcell⟩ := HR.out.byte hlt
      obtain ⟨d, hd⟩ : ∃ d, d = l[k].toNat := ⟨_, rfl⟩
      rw [← hd] at hcell
      by_cases hb : xn = d
      · have HL := Lib.hid (show l[k]? = some x by rw [List.getElem?_eq_getElem hlt]; congr 1; apply UInt8.toNat_inj.1; rw [← hd, ← hb, HX.out])
        subst hb
        clear hd
        go_wp2
        go_ret
        exact ⟨Or.inl ⟨k, rfl, HL.out, hh.out⟩, rfl⟩
      · have HL := Lib.hid (show ∀ j : Nat, j < k + 1 → l[j]? ≠ some x by
          intro j hj he
          by_cases hjk : j = k
          · subst hjk
            rw [List.getElem?_eq_getElem hlt] at he
            injection he with he
            exact hb (by rw [HX.out, hd, he])
          · exact hh.out j (by omega) he)
        have hne : ((xn : Int) == (d : Int)) = false := by simp; omega
        clear hd
        go_wp2
        go_round
        case rel => exact ⟨k + 1, by omega, by go_num, HL.out⟩
        case measure => simp [intOf]; omega
    · have HL := Lib.hid (show ∀ j : Nat, l[j]? ≠ some x by
        intro j he
        by_cases hj : j < k
        · exact hh.out j hj he
        · rw [List.getElem?_eq_none (by omega)] at he; cases he)
      go_wp2
      go_ret
      exact ⟨Or.inr ⟨rfl, HL.out⟩, rfl⟩
end Go.Proofs.YtplbcbamnjnhlaaDoor
/- Contracts of the reference's Bits and Pack (06), for any bytes, every world. -/
namespace Go.Proofs.YtplbcbamnjnhlaaDoor
open Go.RowKit

/-- the lowest n bits of v, each in a byte of its own -/
def bitsN (n v : Nat) : List UInt8 := (digs 2 n v).map fun d => UInt8.ofNat d
theorem bitsN_length (n v : Nat) : (bitsN n v).length = n := by simp [bitsN, digs_length]
theorem bitsN_snoc (n v : Nat) : bitsN (n + 1) v = bitsN n v ++ [UInt8.ofNat (v / 2 ^ n % 2)] := by simp [bitsN, digs_snoc]
theorem bitsN_get (n v k : Nat) (h : k < (bitsN n v).length) : (bitsN n v)[k].toNat = v / 2 ^ k % 2 := by
  have h2 : k < (digs 2 n v).length := by simpa [bitsN] using h
  simp only [bitsN, List.getElem_map, digs_get, UInt8.toNat_ofNat']
  omega
theorem ofDigs_get (B : Nat) (hB : 0 < B) : ∀ (l : List Nat), (∀ d ∈ l, d < B) → ∀ (i : Nat) (h : i < l.length), ofDigs B l / B ^ i % B = l[i]
  | [], _, i, h => by simp at h
  | d :: l, hl, 0, h => by
    have := hl d (by simp)
    simp [ofDigs, Nat.mod_eq_of_lt this]
  | d :: l, hl, i + 1, h => by
    have hd := hl d (by simp)
    have := ofDigs_get B hB l (fun x hx => hl x (by simp [hx])) i (by simpa using h)
    rw [ofDigs, Nat.pow_succ, Nat.mul_comm (B ^ i) B, ← Nat.div_div_eq_div_mul, Nat.add_mul_div_left _ _ hB, Nat.div_eq_of_lt hd, Nat.zero_add, this]
    simp
theorem v256_get (l : List UInt8) (i : Nat) (h : i < l.length) : v256 l / 256 ^ i % 256 = l[i].toNat := by
  have := ofDigs_get 256 (by omega) (l.map (·.toNat)) (by intro d hd; obtain ⟨c, _, rfl⟩ := List.mem_map.1 hd; exact c.toNat_lt) i (by simpa using h)
  simpa [v256] using this
theorem v128_get (l : List UInt8) (i : Nat) (h : i < l.length) : v128 l / 128 ^ i % 128 = l[i].toNat % 128 := by
  have := ofDigs_get 128 (by omega) (l.map (·.toNat % 128)) (by intro d hd; obtain ⟨c, _, rfl⟩ := List.mem_map.1 hd; omega) i (by simpa using h)
  simpa [v128] using this
theorem mod_bit (x m k : Nat) (hk : k < m) : x % 2 ^ m / 2 ^ k % 2 = x / 2 ^ k % 2 := by
  have e : 2 ^ m = 2 ^ k * 2 ^ (m - k) := by rw [← Nat.pow_add]; congr 1; omega
  rw [e, Nat.mod_mul_right_div_self, Nat.mod_mod_of_dvd]
  exact ⟨2 ^ (m - k - 1), by rw [← Nat.pow_succ']; congr 1; omega⟩
theorem bit_256 (l : List UInt8) (i k : Nat) (h : i < l.length) (hk : k < 8) : v256 l / 2 ^ (8 * i + k) % 2 = l[i].toNat / 2 ^ k % 2 := by
  rw [← v256_get l i h, pow_256, show (256 : Nat) = 2 ^ 8 by decide, mod_bit _ 8 k hk, Nat.div_div_eq_div_mul, ← Nat.pow_add]
theorem bit_128 (l : List UInt8) (i k : Nat) (h : i < l.length) (hk : k < 7) : v128 l / 2 ^ (7 * i + k) % 2 = l[i].toNat % 128 / 2 ^ k % 2 := by
  rw [← v128_get l i h, pow_128, show (128 : Nat) = 2 ^ 7 by decide, mod_bit _ 7 k hk, Nat.div_div_eq_div_mul, ← Nat.pow_add]
theorem bit_own {w : World} {base : Nat} {v : Value} {n m : Nat} {xs : List Value} (h : w.ownsRow base 5 1 v n (xs ++ [.int .u8 (m : Int)])) (hm : m < 256) :
    w.ownsRow base 5 1 v n (xs ++ bcells [UInt8.ofNat m]) := by
  have e : bcells [UInt8.ofNat m] = [.int .u8 (m : Int)] := by simp [bcells, bcell]; omega
  rw [e]
  exact h
def PackIn (l : List UInt8) (q : Nat) (wo : World) (v6 v7 v8 : Value) (wi : World) : Prop := ∃ t cc p : Nat, wi = wo ∧ t ≤ 7 ∧ v8 = .int .i64 (7 * (q : Int) + t) ∧ v6 = .int .i64 cc ∧ v7 = .int .i64 p ∧ cc ≤ 255 ∧ p ≤ 128 ∧ Hid (cc = 128 + v256 l / 2 ^ (7 * q) % 2 ^ t) ∧ Hid (p = 2 ^ t)
theorem mod_succ_bit (x t : Nat) : x % 2 ^ (t + 1) = x % 2 ^ t + x / 2 ^ t % 2 * 2 ^ t := by
  rw [Nat.pow_succ, Nat.mod_mul, Nat.mul_comm (2 ^ t) (x / 2 ^ t % 2)]
end Go.Proofs.YtplbcbamnjnhlaaDoor
/- Contract of the reference's Unpack (06), for any bytes, every world. -/
namespace Go.Proofs.YtplbcbamnjnhlaaDoor
open Go.RowKit

def BitsIn (l : List UInt8) (i : Nat) (w : World) (v5 v7 v8 : Value) (wr : World) : Prop :=
  ∃ k x : Nat, k ≤ 7 ∧ v8 = .int .i64 k ∧ v7 = .int .u8 x ∧ x < 128 ∧ Hid (∀ h : i < l.length, x = l[i].toNat % 128 / 2 ^ k) ∧ wr.ownsRow w.heap.size 5 1 v5 (7 * i + k) (bcells (bitsN (7 * i + k) (v128 l))) ∧ Below w.heap.size w wr
def ByteIn (W i : Nat) (wo : World) (v11 v12 : Value) (wi : World) : Prop :=
  ∃ j c : Nat, wi = wo ∧ j ≤ 8 ∧ v12 = .int .i64 ((j : Int) - 1) ∧ v11 = .int .i64 c ∧ c < 256 ∧ Hid (c = W / 2 ^ (8 * i + j) % 2 ^ (8 - j))
theorem byte_step (W i j : Nat) (h : j < 8) : W / 2 ^ (8 * i + j) % 2 ^ (8 - j) = 2 * (W / 2 ^ (8 * i + (j + 1)) % 2 ^ (8 - (j + 1))) + W / 2 ^ (8 * i + j) % 2 := by
  have e : 2 ^ (8 - j) = 2 * 2 ^ (8 - (j + 1)) := by rw [← Nat.pow_succ']; congr 1; omega
  rw [e, Nat.mod_mul, show 8 * i + (j + 1) = 8 * i + j + 1 by omega, Nat.pow_succ, ← Nat.div_div_eq_div_mul]
  omega
theorem tail_step (W a t : Nat) (h : W / 2 ^ a % 2 ^ t = 0) (hb : W / 2 ^ (a + t) % 2 = 0) : W / 2 ^ a % 2 ^ (t + 1) = 0 := by
  rw [mod_succ_bit, h, Nat.div_div_eq_div_mul, ← Nat.pow_add, hb, Nat.zero_mul]
theorem unpack_low (l : List UInt8) (i : Nat) (h : i < l.length) (hb : l[i].toNat < 128) : sevUnpack l = none := by
  unfold sevUnpack
  simp only
  rw [if_neg]
  rintro ⟨h1, _⟩
  rw [highB_low l i h hb] at h1
  cases h1
set_option maxRecDepth 100000 in
set_option maxHeartbeats 2000000 in
theorem refUnpack_any (l : List UInt8) (A : Option Addr) (c B : Nat) (w : World) (hr : Rd w B A (bcells l)) (hB : B ≤ w.heap.size) (hl : l.length ≤ 68719476736) :
    Calls Tryd.prog 15 #[.slice A l.length c] w (UnpackTo w (sevUnpack l)) := by
  have HR := Lib.hid hr
  clear hr
  obtain ⟨n, hn⟩ : ∃ n, n = l.length * 7 / 8 := ⟨_, rfl⟩
  have HN := Lib.hid hn
  have hnl : 8 * n ≤ 7 * l.length := by omega
  have hni : ((l.length : Int) * 7) / 8 = (n : Int) := by omega
  by_cases hle : (8 * n + 6) / 7 = l.length
  · have hle2 : ((8 * (n : Int) + 6) / 7 != (l.length : Int)) = false := by simp; omega
    have HLE := Lib.hid hle
    clear hn hle
    go_enter Tryd.func15, Tryd.ntmps15
    go_wp2_with fail
    rw [hni]
    go_loopw [5, 6] (fun v5 v6 wr => ∃ i : Nat, i ≤ l.length ∧ v6 = .int .i64 i ∧ Hid (highB (l.take i) = true) ∧ wr.ownsRow w.heap.size 5 1 v5 (7 * i) (bcells (bitsN (7 * i) (v128 l))) ∧ Below w.heap.size w wr) (fun _ v6 _ => l.length - (intOf v6).toNat)
    case atStart => exact ⟨0, by omega, rfl, rfl, World.ownsRow_nil _ _ _ _, Below.refl _ _⟩
    case round =>
      obtain ⟨i, hi, rfl, hh, hown, hbr⟩ := hrel
      have hsz := hbr.size
      by_cases hlt : i < l.length
      · obtain ⟨ab, ao, rfl, hab, hcell⟩ := (HR.out.below (hbr.mono hB)).byte hlt
        have hb8 := l[i].toNat_lt
        by_cases hb : l[i].toNat < 128
        · have HU := Lib.hid (unpack_low l i hlt hb)
          go_wp2
          go_ret2
          refine ⟨hbr, ?_⟩
          rw [HU.out]
          rfl
        · have HL := Lib.hid (show highB (l.take (i + 1)) = true by rw [highB_take l i hlt, hh.out]; simp; omega)
          obtain ⟨y, hy⟩ : ∃ y, y = l[i].toNat := ⟨_, rfl⟩
          rw [← hy] at hcell hb hb8
          have HY := Lib.hid hy
          clear hy
          have hlb : decide ((y : Int) < 128) = false := by simp; omega
          have hli : decide (i < l.length) = true := by simpa using hlt
          go_wp2_with fail
          go_loopw [5, 7, 8] (fun v5 v7 v8 wr => BitsIn l i w v5 v7 v8 wr) (fun _ _ v8 _ => 7 - (intOf v8).toNat)
          case atStart => exact ⟨0, y - 128, by omega, rfl, vint (by omega), by omega, (fun _ => by rw [← HY.out]; simp; omega), hown, hbr⟩
          case round =>
            obtain ⟨k, x, hk, rfl, rfl, hx, hxe, hown', hbr'⟩ := hrel
            have hsz2 := hbr'.size
            by_cases hk7 : k < 7
            · have HB := Lib.hid (bit_128 l i k hlt hk7)
              have HXE := Lib.hid (hxe.out hlt)
              clear hxe
              go_wp2_with (at_builtin; refine wpList_app u8_ty rfl rfl rfl rfl (hown'.alloc _) (Rd.row (B := wr.heap.size + 1) (Go.heap_alloc_new wr _) (by omega)) rfl (by simp [Value.oneCell']) ?h63 ?hby ?hbase ?_)
              case h63 => simp only [maxLen]; omega
              case hby => omega
              case hbase => simp; omega
              intro v1 w3 hown3 hg3 _ _
              have HO := Lib.hid hown3
              have HG3 := Lib.hid hg3
              clear hown3 hg3
              go_wp2
              go_roundw
              case rel =>
                refine ⟨k + 1, x / 2, by omega, by go_num, by rfl, by omega, (fun _ => ?_), ?_, grown_below (hbr'.alloc hsz2 _) HG3.out (hown'.alloc _) (Nat.le_refl _) (by simp; omega)⟩
                · rw [HXE.out, Nat.div_div_eq_div_mul, ← Nat.pow_succ]
                · rw [← Nat.add_assoc, bitsN_snoc, bcells_append, HB.out, ← HXE.out]
                  exact bit_own (m := x % 2) (by simpa using HO.out) (by omega)
              case measure => simp [intOf]; omega
            · have hk' : k = 7 := by omega
              subst hk'
              go_wp2
              go_roundw
              case rel => exact ⟨i + 1, by omega, by go_num, HL.out, by rw [Nat.mul_succ]; exact hown', hbr'⟩
              case measure => simp [intOf]; omega
      · have hil : i = l.length := by omega
        subst hil
        rw [List.take_length] at hh
        obtain ⟨M, hM⟩ : ∃ M, M = 7 * l.length := ⟨_, rfl⟩
        rw [← hM] at hown hnl
        have HM := Lib.hid hM
        have hM2 : M ≤ 481036337152 := by omega
        clear hM
        obtain ⟨wo, hwo⟩ : ∃ wo : World, wo = wr := ⟨_, rfl⟩
        subst hwo
        obtain ⟨A1, c1, rfl, hc1, hc2⟩ := own_form hown
        have HRB := Lib.hid (Rd.of_own hown)
        have B1 := Lib.hid hbr
        obtain ⟨V, hV⟩ : ∃ V, V = v128 l := ⟨_, rfl⟩
        rw [← hV] at HRB
        have HV := Lib.hid hV
        have HVL : Hid (V < 2 ^ M) := by
          have h := v128_lt l
          rw [pow_128, ← HM.out, ← hV] at h
          exact h
        clear hown hbr hV
        go_wp2_with fail
        go_loopw [9, 10] (fun v9 v10 wr => ∃ i : Nat, i ≤ n ∧ v10 = .int .i64 i ∧ wr.ownsRow wo.heap.size 5 1 v9 i (bcells (bytesOfNat i V)) ∧ Below wo.heap.size wo wr) (fun _ v10 _ => n - (intOf v10).toNat)
        case atStart => exact ⟨0, by omega, rfl, World.ownsRow_nil _ _ _ _, Below.refl _ _⟩
        case round =>
          obtain ⟨i, hi, rfl, hown, hbr⟩ := hrel
          have hsz2 := hbr.size
          by_cases hin : i < n
          · have hib : decide (i < n) = true := by simpa using hin
            obtain ⟨wi, hwi⟩ : ∃ wi : World, wi = wr := ⟨_, rfl⟩
            subst hwi
            go_wp2_with fail
            go_loopw [11, 12] (fun v11 v12 wx => ByteIn V i wi v11 v12 wx) (fun _ v12 _ => (intOf v12 + 1).toNat)
            case atStart => exact ⟨8, 0, rfl, by omega, rfl, rfl, by omega, (by show _ = _; simp [Nat.mod_one])⟩
            case round =>
              obtain ⟨j, cc, rfl, hj, h12, rfl, hcc, hce⟩ := hrel
              cases j with
              | zero =>
                have h12' := h12.trans (vint (show ((0 : Nat) : Int) - 1 = -1 by rfl))
                clear h12
                subst h12'
                go_wp2_with (at_builtin; refine wpList_app u8_ty rfl rfl rfl rfl (hown.alloc _) (Rd.row (B := wr.heap.size + 1) (Go.heap_alloc_new wr _) (by omega)) rfl (by simp [Value.oneCell']) ?h63 ?hby ?hbase ?_)
                case h63 => simp only [maxLen]; omega
                case hby => omega
                case hbase => simp; omega
                intro v1 w3 hown3 hg3 _ _
                have HO := Lib.hid hown3
                have HG3 := Lib.hid hg3
                clear hown3 hg3
                go_wp2
                go_roundw
                case rel =>
                  refine ⟨i + 1, by omega, by go_num, ?_, grown_below (hbr.alloc hsz2 _) HG3.out (hown.alloc _) (Nat.le_refl _) (by simp; omega)⟩
                  rw [bytesOfNat_snoc, bcells_append, pow_256, show V / 2 ^ (8 * i) % 256 = cc by have h := hce.out; simpa using h.symm]
                  exact bit_own (m := cc) HO.out hcc
                case measure => simp [intOf]; omega
              | succ j =>
                have h12' := h12.trans (vint (show ((j + 1 : Nat) : Int) - 1 = (j : Nat) by omega))
                clear h12
                subst h12'
                have HS := Lib.hid (byte_step V i j (by omega))
                have hbd : V / 2 ^ (8 * i + j) % 2 ^ (8 - j) < 256 := by
                  have h1 : V / 2 ^ (8 * i + j) % 2 ^ (8 - j) < 2 ^ (8 - j) := Nat.mod_lt _ (Nat.pow_pos (by omega))
                  have h2 : 2 ^ (8 - j) ≤ 2 ^ 8 := Nat.pow_le_pow_right (by omega) (by omega)
                  omega
                obtain ⟨ab, ao, rfl, hab, hcell⟩ := (HRB.out.below hbr).byte (l := bitsN M V) (k := 8 * i + j) (by rw [bitsN_length]; omega)
                rw [bitsN_get] at hcell
                obtain ⟨b, hb⟩ : ∃ b, b = V / 2 ^ (8 * i + j) % 2 := ⟨_, rfl⟩
                rw [← hb] at hcell
                have hb2 : b < 2 := by omega
                have HB := Lib.hid hb
                have HBD := Lib.hid hbd
                clear hb hbd
                go_wp2
                go_roundw
                case rel =>
                  refine ⟨j, 2 * cc + b, rfl, by omega, rfl, by go_num, ?_, ?_⟩
                  · have h := HBD.out
                    rw [HS.out, ← hce.out, ← HB.out] at h
                    exact h
                  · show _ = _
                    rw [HS.out, ← hce.out, ← HB.out]
                case measure => simp [intOf]
          · have hin' : i = n := by omega
            subst hin'
            obtain ⟨wi, hwi⟩ : ∃ wi : World, wi = wr := ⟨_, rfl⟩
            subst hwi
            go_wp2_with fail
            go_loopw [13] (fun v13 wx => ∃ t : Nat, wx = wi ∧ 8 * i + t ≤ M ∧ v13 = .int .i64 (8 * (i : Int) + t) ∧ Hid (V / 2 ^ (8 * i) % 2 ^ t = 0)) (fun v13 _ => M - (intOf v13).toNat)
            case atStart => exact ⟨0, rfl, by omega, vint (by omega), (by show _ = _; simp [Nat.mod_one])⟩
            case round =>
              obtain ⟨t, rfl, ht, rfl, hz⟩ := hrel
              by_cases htM : 8 * i + t < M
              · obtain ⟨ab, ao, rfl, hab, hcell⟩ := (HRB.out.below hbr).byte (l := bitsN M V) (k := 8 * i + t) (by rw [bitsN_length]; omega)
                rw [bitsN_get] at hcell
                rcases Nat.mod_two_eq_zero_or_one (V / 2 ^ (8 * i + t)) with hb | hb
                · rw [hb] at hcell
                  have HT := Lib.hid (tail_step V (8 * i) t hz.out hb)
                  clear hb
                  go_wp2
                  go_roundw
                  case rel => exact ⟨t + 1, (by first | rfl | exact trivial), by omega, by go_num, HT.out⟩
                  case measure => simp [intOf]; omega
                · rw [hb] at hcell
                  have HU := Lib.hid (show sevUnpack l = none by
                    unfold sevUnpack
                    simp only [← HN.out, ← HV.out]
                    rw [if_neg]
                    rintro ⟨_, _, h⟩
                    rw [pow_256] at h
                    have : V / 2 ^ (8 * i + t) = 0 := Nat.div_eq_of_lt (Nat.lt_of_lt_of_le h (Nat.pow_le_pow_right (by omega) (by omega)))
                    omega)
                  clear hb
                  go_wp2
                  go_ret2
                  refine ⟨B1.out.trans (hbr.mono hsz), ?_⟩
                  rw [HU.out]
                  rfl
              · have htM' : 8 * i + t = M := by omega
                have HU := Lib.hid (show sevUnpack l = some (bytesOfNat i V) by
                  have hlt' : V < 256 ^ i := by
                    rw [pow_256]
                    have h1 : V / 2 ^ (8 * i) < 2 ^ t := Nat.div_lt_of_lt_mul (by rw [← Nat.pow_add, htM']; exact HVL.out)
                    have h2 := hz.out
                    rw [Nat.mod_eq_of_lt h1] at h2
                    rcases Nat.lt_or_ge V (2 ^ (8 * i)) with h | h
                    · exact h
                    · have := Nat.div_pos h (Nat.pow_pos (by omega)); omega
                  unfold sevUnpack
                  simp only [← HN.out, ← HV.out]
                  rw [if_pos ⟨hh.out, HLE.out, hlt'⟩])
                clear htM'
                have hnot : ¬ 8 * (i : Int) + t < (M : Int) := by omega
                go_wp2
                go_ret2
                refine ⟨B1.out.trans (hbr.mono hsz), ?_⟩
                rw [HU.out]
                exact ⟨_, rfl, by rw [bytesOfNat_length]; exact own_more hown hsz⟩
  · have hle2 : ((8 * (n : Int) + 6) / 7 != (l.length : Int)) = true := by simp; omega
    have HU := Lib.hid (show sevUnpack l = none by
      unfold sevUnpack
      simp only [← HN.out]
      rw [if_neg]
      rintro ⟨_, h, _⟩
      exact hle h)
    clear hn hle
    go_enter Tryd.func15, Tryd.ntmps15
    go_wp2
    go_ret2
    refine ⟨Below.refl _ _, ?_⟩
    rw [HU.out]
    rfl
end Go.Proofs.YtplbcbamnjnhlaaDoor
