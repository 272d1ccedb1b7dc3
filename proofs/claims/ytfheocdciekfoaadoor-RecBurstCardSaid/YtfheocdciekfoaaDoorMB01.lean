/- Texts of this proof joined: Turned, BurstLaw. -/
import Derived.Test.YtfheocdciekfoaaDoorMA37
import Derived.Test.YtfheocdciekfoaaDoorMA35
/- Contract of the reference's Turned (03). -/
namespace Go.Proofs.YtfheocdciekfoaaDoor
open Go.RowKit

/-- a bit of bytes -/
def bitAt (b : List UInt8) (i : Nat) : Bool := (b.getD (i / 8) 0).toNat.testBit (i % 8)
/-- bits turned from a place on -/
def Turned (b : List UInt8) (at_ turn n : Nat) (m : List UInt8) : Prop := m.length = b.length ∧ ∀ i, bitAt m i = (bitAt b i ^^ (decide (at_ ≤ i ∧ i < at_ + n) && turn.testBit (i - at_)))
theorem turned_zero (b : List UInt8) (at_ turn : Nat) : Turned b at_ turn 0 b := ⟨rfl, fun i => by
  rw [decide_eq_false (by omega)]
  simp⟩
theorem turned_skip {b m : List UInt8} {at_ turn n : Nat} (h : Turned b at_ turn n m) (ht : turn / 2 ^ n % 2 = 0) : Turned b at_ turn (n + 1) m := by
  refine ⟨h.1, fun i => ?_⟩
  rw [h.2 i]
  by_cases hi : i = at_ + n
  · subst hi
    rw [decide_eq_false (by omega), decide_eq_true (by omega), show at_ + n - at_ = n by omega]
    have : turn.testBit n = false := by rw [Nat.testBit_eq_decide_div_mod_eq, ht]; rfl
    rw [this]
    rfl
  · congr 2
    rw [decide_eq_decide]
    omega
theorem turned_flip {b m : List UInt8} {at_ turn n : Nat} (h : Turned b at_ turn n m) (ht : turn / 2 ^ n % 2 = 1) (hl : at_ + n < 8 * b.length) {d : Nat} (hd : d = (m.getD ((at_ + n) / 8) 0).toNat) :
    Turned b at_ turn (n + 1) (m.set ((at_ + n) / 8) (UInt8.ofNat (d ^^^ 2 ^ ((at_ + n) % 8)))) := by
  refine ⟨by rw [List.length_set, h.1], fun i => ?_⟩
  have hlen := h.1
  have hbit : turn.testBit n = true := by rw [Nat.testBit_eq_decide_div_mod_eq, ht]; rfl
  have hx : d ^^^ 2 ^ ((at_ + n) % 8) < 2 ^ 8 := Nat.xor_lt_two_pow (by rw [hd]; exact UInt8.toNat_lt _) (Nat.pow_lt_pow_right (by omega) (Nat.mod_lt _ (by omega)))
  by_cases hb : i / 8 = (at_ + n) / 8
  · have e1 : bitAt (m.set ((at_ + n) / 8) (UInt8.ofNat (d ^^^ 2 ^ ((at_ + n) % 8)))) i = (bitAt m i ^^ decide ((at_ + n) % 8 = i % 8)) := by
      unfold bitAt
      rw [hb, List.getD_eq_getElem?_getD, List.getElem?_set_self (by omega), Option.getD_some, UInt8.toNat_ofNat', Nat.mod_eq_of_lt hx, Nat.testBit_xor, Nat.testBit_two_pow, hd]
    rw [e1, h.2 i]
    by_cases hi : i = at_ + n
    · subst hi
      rw [decide_eq_true rfl, decide_eq_false (by omega), decide_eq_true (by omega), show at_ + n - at_ = n by omega, hbit]
      simp
    · rw [decide_eq_false (by omega : ¬ (at_ + n) % 8 = i % 8), Bool.xor_false]
      congr 2
      rw [decide_eq_decide]
      omega
  · have e1 : bitAt (m.set ((at_ + n) / 8) (UInt8.ofNat (d ^^^ 2 ^ ((at_ + n) % 8)))) i = bitAt m i := by
      unfold bitAt
      rw [List.getD_eq_getElem?_getD, List.getElem?_set_ne (by omega), ← List.getD_eq_getElem?_getD]
    rw [e1, h.2 i]
    congr 2
    rw [decide_eq_decide]
    omega
theorem xor_one (d t : Nat) (hd : d < 256) (ht : t < 8) : bits .xor .u8 (d : Int) ((2 : Int) ^ t % 256) = ((d ^^^ 2 ^ t : Nat) : Int) := by
  have h1 : 2 ^ t < 2 ^ 8 := Nat.pow_lt_pow_right (by omega) ht
  have e : ((2 : Int) ^ t % 256) = ((2 ^ t : Nat) : Int) := by
    have : ((2 : Int) ^ t) = ((2 ^ t : Nat) : Int) := by simp
    rw [this]
    exact Int.emod_eq_of_lt (Int.natCast_nonneg _) (by omega)
  rw [e]
  exact u8_xor_nat _ _ hd h1
set_option maxRecDepth 100000 in
set_option maxHeartbeats 1000000 in
theorem turned_any (b : List UInt8) (A : Option Addr) (c B at_ turn : Nat) (w : World) (hr : Rd w B A (bcells b)) (hB : B ≤ w.heap.size) (hat : at_ + 32 ≤ 8 * b.length) (hl : b.length ≤ 1099511627776) (ht : turn < 4294967296) :
    Calls Tryd.prog 25 #[.slice A b.length c, .int .i64 at_, .int .u32 turn] w fun e w' => ∃ (g cc : Nat) (m : List UInt8), e = .returned (.slice (some ⟨g, 0, none⟩) b.length cc) ∧ b.length ≤ cc ∧ Turned b at_ turn 32 m ∧ Rd w' w'.heap.size (some ⟨g, 0, none⟩) (bcells m) ∧ Below w.heap.size w w' := by
  have HR := Lib.hid hr
  clear hr
  go_enter Tryd.func25, Tryd.ntmps25
  have hb1 : Below w.heap.size w (w.alloc (.cells #[] 5)) := (Below.refl _ _).alloc (Nat.le_refl _) _
  have hown0 : (w.alloc (.cells #[] 5)).ownsRow w.heap.size 5 1 (.slice (some ⟨w.heap.size, 0, none⟩) 0 0) 0 [] := World.ownsRow_lit w #[] 0 (Nat.le_refl _) (by simp [maxLen]) rfl
  go_wp2_with (at_builtin; refine wpList_app u8_ty rfl rfl rfl rfl hown0 (HR.out.below (hb1.mono hB)) (by rw [bcells_length]; omega) (bcells_one _) ?h63 ?hby ?hbase ?_)
  case h63 => simp only [maxLen]; omega
  case hby => omega
  case hbase => simp
  intro v1 w1 hown hg1 _ _
  have HB1 := Lib.hid (grown_below hb1 hg1 hown0 (Nat.le_refl _) (by simp))
  have hown' : w1.ownsRow w.heap.size 5 1 v1 b.length (bcells b) := hown
  obtain ⟨A1, c1, rfl, hc1, hc2⟩ := own_form hown'
  obtain ⟨g, rfl⟩ : ∃ g, A1 = some ⟨g, 0, none⟩ := by
    rcases hown'.2 with ⟨h1, h2⟩ | ⟨g, cap, cur, hv, _⟩
    · exfalso; omega
    · injection hv with h1; exact ⟨g, h1⟩
  have HO1 := Lib.hid hown'
  clear hown hown' hg1
  have hn0 : decide ((at_ : Int) < 0) = false := by simp
  have hn1 : decide (8 * (b.length : Int) - 32 < (at_ : Int)) = false := by simp; omega
  go_wp2_with fail
  go_loopw [2, 8] (fun v2 v8 wr => ∃ (i q : Nat) (m : List UInt8), i ≤ 32 ∧ v8 = .int .i64 i ∧ v2 = .int .u32 q ∧ Hid (q = turn / 2 ^ i) ∧ Hid (Turned b at_ turn i m) ∧ Hid (wr.ownsRow w.heap.size 5 1 (.slice (some ⟨g, 0, none⟩) b.length c1) b.length (bcells m)) ∧ Hid (Below w.heap.size w wr)) (fun _ v8 _ => 32 - (intOf v8).toNat)
  case atStart => exact ⟨0, turn, b, by omega, rfl, rfl, Lib.hid (by simp), Lib.hid (turned_zero b at_ turn), HO1, HB1⟩
  case round =>
    obtain ⟨i, q, m, hi, rfl, rfl, HQ, HT, HO, HW⟩ := hrel
    have hq : q < 4294967296 := by rw [HQ.out]; exact Nat.lt_of_le_of_lt (Nat.div_le_self _ _) ht
    by_cases hlt : i < 32
    · have HQ2 := Lib.hid (show q / 2 = turn / 2 ^ (i + 1) by rw [HQ.out, Nat.div_div_eq_div_mul, ← Nat.pow_succ])
      by_cases hq2 : q % 2 = 1
      · obtain ⟨p, hp⟩ : ∃ p, p = at_ + i := ⟨_, rfl⟩
        obtain ⟨j, hj⟩ : ∃ j, j = p / 8 := ⟨_, rfl⟩
        obtain ⟨t, htt⟩ : ∃ t, t = p % 8 := ⟨_, rfl⟩
        have hml := HT.out.1
        have hjm : j < m.length := by rw [hml]; omega
        have ht8 : t < 8 := by omega
        have hcell : wr.cell? ⟨g, j, none⟩ = some (.int .u8 (m[j].toNat : Nat)) := by
          rw [HO.out.cellAt j (by omega)]
          simp [bcells, bcell, List.getElem?_eq_getElem hjm]
        have hd8 := m[j].toNat_lt
        have HFL := Lib.hid (turned_flip HT.out (by rw [← HQ.out]; exact hq2) (by omega) rfl)
        rw [← hp, ← hj, ← htt, List.getD_eq_getElem?_getD, List.getElem?_eq_getElem hjm, Option.getD_some] at HFL
        obtain ⟨d, hd⟩ : ∃ d, d = m[j].toNat := ⟨_, rfl⟩
        rw [← hd] at hcell hd8 HFL
        have hx := xor_one d t hd8 ht8
        have hpi : (at_ : Int) + (i : Int) = (p : Int) := by omega
        have hpj : (p : Int) / 8 = (j : Int) := by omega
        have hpt : (p : Int) % 8 = (t : Int) := by omega
        have hjb : j < b.length := by omega
        have hjc : j < c1 := by omega
        have hpb : p ≤ 8796093022208 := by omega
        have hfz := HO.out.frozenAt j
        obtain ⟨x, hxd⟩ : ∃ x, x = d ^^^ 2 ^ t := ⟨_, rfl⟩
        rw [← hxd] at hx HFL
        have hx8 : x < 256 := by rw [hxd]; exact Nat.xor_lt_two_pow (n := 8) hd8 (Nat.pow_lt_pow_right (by omega) ht8)
        have HST := Lib.hid (HO.out.stored j (.int .u8 (x : Nat)))
        have HWB := Lib.hid (show w.heap.size ≤ g from (HO.out.lt g rfl).1)
        clear hp hj htt hd hml hxd
        go_wp2_with fail
        refine Text.wp_text [] (by kernel_rfl) (by kernel_rfl) (fun Q' hQ' => ?_)
        go_wp2_with fail
        refine ⟨by rfl, ?_⟩
        go_wp2_with fail
        have HO2 := Lib.hid (own_below HST.out.1 ((Below.refl _ _).drew))
        have HW2 := Lib.hid ((HW.out.setCell (p := ⟨g, j, none⟩) HWB.out (.int .u8 (x : Nat))).drew)
        refine ⟨⟨i + 1, q / 2, m.set j (UInt8.ofNat x), by omega, by go_num, by go_num, HQ2, HFL, ?_, HW2⟩, ?_⟩
        · show World.ownsRow _ _ _ _ _ _ _
          have e : bcells (m.set j (UInt8.ofNat x)) = (bcells m).set j (.int .u8 (x : Nat)) := by
            unfold bcells
            rw [List.map_set]
            congr 1
            unfold bcell
            rw [UInt8.toNat_ofNat', Nat.mod_eq_of_lt hx8]
          rw [e]
          exact HO2.out
        · simp [intOf]; omega
      · have HFL := Lib.hid (turned_skip HT.out (by rw [← HQ.out]; omega))
        go_wp2_with fail
        refine ⟨⟨i + 1, q / 2, m, by omega, by go_num, by go_num, HQ2, HFL, HO, HW⟩, ?_⟩
        simp [intOf]; omega
    · obtain rfl : i = 32 := by omega
      go_wp2_with fail
      go_ret
      exact ⟨g, c1, m, rfl, hc1, HT.out, Rd.of_own HO.out, HW.out⟩
end Go.Proofs.YtfheocdciekfoaaDoor
/- The plain law of lines in which bits are turned, within 32 in a row. -/
namespace Go.Proofs.YtfheocdciekfoaaDoor
open Go.RowKit

theorem testBit_cons (c v i : Nat) (n : Nat) (hc : c < 2 ^ n) : (c + 2 ^ n * v).testBit i = if i < n then c.testBit i else v.testBit (i - n) := by
  rw [Nat.add_comm, Nat.testBit_two_pow_mul_add _ hc]
theorem v256_bit : ∀ (l : List UInt8) (i : Nat), (v256 l).testBit i = (l.getD (i / 8) 0).toNat.testBit (i % 8)
  | [], i => by simp [v256, ofDigs]
  | c :: r, i => by
    have ih := v256_bit r (i - 8)
    have e : v256 (c :: r) = c.toNat + 2 ^ 8 * v256 r := by simp [v256, ofDigs]
    rw [e, testBit_cons _ _ _ 8 c.toNat_lt, ih]
    by_cases h : i < 8
    · rw [if_pos h, show i / 8 = 0 by omega, show i % 8 = i by omega]
      rfl
    · rw [if_neg h, show i / 8 = (i - 8) / 8 + 1 by omega, show (i - 8) % 8 = i % 8 by omega]
      rfl
theorem v128_bit : ∀ (l : List UInt8) (i : Nat), (v128 l).testBit i = (l.getD (i / 7) 0).toNat.testBit (i % 7)
  | [], i => by simp [v128, ofDigs]
  | c :: r, i => by
    have ih := v128_bit r (i - 7)
    have e : v128 (c :: r) = c.toNat % 2 ^ 7 + 2 ^ 7 * v128 r := by simp [v128, ofDigs]
    rw [e, testBit_cons _ _ _ 7 (Nat.mod_lt _ (by decide)), ih]
    by_cases h : i < 7
    · rw [if_pos h, show i / 7 = 0 by omega, show i % 7 = i by omega, Nat.testBit_mod_two_pow]
      simp [h]
    · rw [if_neg h, show i / 7 = (i - 7) / 7 + 1 by omega, show (i - 7) % 7 = i % 7 by omega]
      rfl
/-- the bits in which bytes differ stand within 32 in a row -/
def Near (b m : List UInt8) : Prop := ∀ i j, bitAt b i ≠ bitAt m i → bitAt b j ≠ bitAt m j → i < j + 32
theorem sev_bit (f : List UInt8) (i : Nat) : bitAt f i = bitAt (sevPack f) (8 * (i / 7) + i % 7) := by
  have hv : v128 (sevPack f) = v256 f := by
    have hp := pow_7_8 f.length ((8 * f.length + 6) / 7) (by omega)
    have := v256_lt f
    rw [sevPack, v128_sevOf, Nat.mod_eq_of_lt (by omega)]
  unfold bitAt
  rw [← v256_bit, ← hv, v128_bit, show (8 * (i / 7) + i % 7) / 8 = i / 7 by omega, show (8 * (i / 7) + i % 7) % 8 = i % 7 by omega]
theorem bitsOf_get : ∀ (l : List UInt8) (i : Nat) (h : i < (bitsOf l).length), (bitsOf l)[i] = bitAt l i
  | [], i, h => by simp [bitsOf] at h
  | c :: r, i, h => by
    have e : bitsOf (c :: r) = byteBits c ++ bitsOf r := rfl
    have hl : i < (byteBits c ++ bitsOf r).length := h
    have h1 : (bitsOf (c :: r))[i] = (byteBits c ++ bitsOf r)[i]'hl := rfl
    refine h1.trans ?_
    by_cases h8 : i < 8
    · rw [List.getElem_append_left (by rw [byteBits_length]; exact h8)]
      simp only [byteBits, List.getElem_map, List.getElem_range, bitAt]
      rw [show i / 8 = 0 by omega, show i % 8 = i by omega]
      rfl
    · have hr : i - 8 < (bitsOf r).length := by rw [List.length_append, byteBits_length] at hl; omega
      have := bitsOf_get r (i - 8) hr
      rw [List.getElem_append_right (by rw [byteBits_length]; omega)]
      simp only [byteBits_length]
      rw [this]
      unfold bitAt
      rw [show i / 8 = (i - 8) / 8 + 1 by omega, show (i - 8) % 8 = i % 8 by omega]
      rfl
theorem byte_ext {a b : UInt8} (h : ∀ k, k < 8 → a.toNat.testBit k = b.toNat.testBit k) : a = b := by
  apply UInt8.toNat_inj.1
  apply Nat.eq_of_testBit_eq
  intro i
  by_cases hi : i < 8
  · exact h i hi
  · rw [Nat.testBit_lt_two_pow (Nat.lt_of_lt_of_le a.toNat_lt (Nat.pow_le_pow_right (by decide) (by omega : 8 ≤ i))), Nat.testBit_lt_two_pow (Nat.lt_of_lt_of_le b.toNat_lt (Nat.pow_le_pow_right (by decide) (by omega : 8 ≤ i)))]
theorem byte_diff {a b : UInt8} (h : a ≠ b) : ∃ k, k < 8 ∧ a.toNat.testBit k ≠ b.toNat.testBit k := by
  apply Classical.byContradiction
  intro hn
  refine h (byte_ext fun k hk => ?_)
  apply Classical.byContradiction
  intro hne
  exact hn ⟨k, hk, hne⟩
theorem list_ext_bits {x y : List UInt8} (hl : x.length = y.length) (h : ∀ i, i < 8 * x.length → bitAt x i = bitAt y i) : x = y := by
  apply List.ext_getElem hl
  intro j h1 h2
  apply byte_ext
  intro k hk
  have := h (8 * j + k) (by omega)
  unfold bitAt at this
  rw [show (8 * j + k) / 8 = j by omega, show (8 * j + k) % 8 = k by omega, List.getD_eq_getElem?_getD, List.getD_eq_getElem?_getD, List.getElem?_eq_getElem h1, List.getElem?_eq_getElem h2] at this
  exact this
/-- bytes that differ stand near each other -/
theorem near_bytes {b m : List UInt8} (h : Near b m) {i j : Nat} (hi : b.getD i 0 ≠ m.getD i 0) (hj : b.getD j 0 ≠ m.getD j 0) : i ≤ j + 4 := by
  obtain ⟨k, hk, h1⟩ := byte_diff hi
  obtain ⟨k', hk', h2⟩ := byte_diff hj
  have := h (8 * i + k) (8 * j + k') (by unfold bitAt; rwa [show (8 * i + k) / 8 = i by omega, show (8 * i + k) % 8 = k by omega]) (by unfold bitAt; rwa [show (8 * j + k') / 8 = j by omega, show (8 * j + k') % 8 = k' by omega])
  omega
theorem zip_form {x y : List Bool} (hl : x.length = y.length) (hne : x ≠ y) (hw : ∀ i j (hi : i < x.length) (hj : j < x.length), x[i] ≠ y[i] → x[j] ≠ y[j] → i < j + 32) :
    ∃ p q m, List.zipWith (· != ·) x y = List.replicate p false ++ m ++ List.replicate q false ∧ m.length ≤ 32 ∧ true ∈ m := by
  obtain ⟨z, hz⟩ : ∃ z, z = List.zipWith (· != ·) x y := ⟨_, rfl⟩
  have hzl : z.length = x.length := by rw [hz, List.length_zipWith]; omega
  have hzg : ∀ i (h : i < z.length), z[i] = (x[i] != y[i]) := fun i h => by subst hz; rw [List.getElem_zipWith]
  have hex : ∃ b ∈ z, id b = true := by
    apply Classical.byContradiction
    intro hn
    refine hne (List.ext_getElem hl fun i h1 h2 => ?_)
    have h3 := hzg i (by omega)
    cases hb : z[i]'(by omega) with
    | true => exact absurd ⟨z[i]'(by omega), List.getElem_mem _, hb⟩ hn
    | false => rw [hb] at h3; simpa using h3.symm
  have hp := List.findIdx_lt_length.2 hex
  obtain ⟨p, hpd⟩ : ∃ p, p = z.findIdx id := ⟨_, rfl⟩
  rw [← hpd] at hp
  have hat : z[p] = true := by have := List.findIdx_getElem (p := id) (xs := z) (w := by rw [← hpd]; exact hp); simpa [hpd] using this
  refine ⟨p, (z.drop (p + 32)).length, (z.drop p).take 32, ?_, by rw [List.length_take]; omega, ?_⟩
  · rw [← hz]
    have h1 : z.take p = List.replicate p false := by
      rw [List.eq_replicate_iff]
      refine ⟨by rw [List.length_take]; omega, fun b hb => ?_⟩
      obtain ⟨i, hi, rfl⟩ := List.getElem_of_mem hb
      rw [List.length_take] at hi
      have h2 : i < z.findIdx id := by omega
      have := List.not_of_lt_findIdx h2
      rw [List.getElem_take]
      simpa using this
    have h2 : z.drop (p + 32) = List.replicate (z.drop (p + 32)).length false := by
      rw [List.eq_replicate_iff]
      refine ⟨rfl, fun b hb => ?_⟩
      obtain ⟨i, hi, rfl⟩ := List.getElem_of_mem hb
      rw [List.length_drop] at hi
      rw [List.getElem_drop]
      cases hc : z[p + 32 + i]'(by omega) with
      | false => rfl
      | true =>
        have h3 := hzg (p + 32 + i) (by omega)
        have h4 := hzg p hp
        rw [hc] at h3
        rw [hat] at h4
        have := hw (p + 32 + i) p (by omega) (by omega) (by simpa using h3.symm) (by simpa using h4.symm)
        omega
    conv => lhs; rw [← List.take_append_drop p z, h1, ← List.take_append_drop 32 (z.drop p), List.drop_drop, h2]
    rw [List.append_assoc]
  · rw [List.mem_iff_getElem]
    refine ⟨0, by rw [List.length_take, List.length_drop]; omega, ?_⟩
    rw [List.getElem_take, List.getElem_drop]
    simpa using hat
/-- two frames of one length with right sums whose packed bytes differ in near bits alone are the same -/
theorem frames_near {f f' : List UInt8} (hl : f.length = f'.length) (hx : crcBits crcOnes (bitsOf f) = crcLn 32 crcOnes) (hy : crcBits crcOnes (bitsOf f') = crcLn 32 crcOnes) (hn : Near (sevPack f) (sevPack f')) : f = f' := by
  apply Classical.byContradiction
  intro hne
  have hll : (bitsOf f).length = (bitsOf f').length := by rw [bitsOf_length, bitsOf_length, hl]
  have hb : bitsOf f ≠ bitsOf f' := by
    intro he
    refine hne (list_ext_bits hl fun i hi => ?_)
    have h1 : i < (bitsOf f).length := by rw [bitsOf_length]; exact hi
    rw [← bitsOf_get _ i h1, ← bitsOf_get _ i (by rw [← hll]; exact h1)]
    simp only [he]
  have hw : ∀ i j (hi : i < (bitsOf f).length) (hj : j < (bitsOf f).length), (bitsOf f)[i] ≠ (bitsOf f')[i] → (bitsOf f)[j] ≠ (bitsOf f')[j] → i < j + 32 := fun i j hi hj h1 h2 => by
    rw [bitsOf_get, bitsOf_get, sev_bit, sev_bit f'] at h1 h2
    have := hn _ _ h1 h2
    omega
  obtain ⟨p, q, m, h1, h2, h3⟩ := zip_form hll hb hw
  exact crc_two hx hy hl h1 h2 h3
theorem frame_near {k k' : UInt8} {a a' : List UInt8} (hl : (frameSeal k a).length = (frameSeal k' a').length) (hn : Near (sevPack (frameSeal k a)) (sevPack (frameSeal k' a'))) : frameSeal k a = frameSeal k' a' :=
  frames_near hl (crc_residue _) (crc_residue _) hn
theorem sev_take {f f' : List UInt8} {T j : Nat} (h : (sevPack f).take T = (sevPack f').take T) (hj : 8 * j ≤ 7 * T) (h1 : j ≤ f.length) (h2 : j ≤ f'.length) : f.take j = f'.take j := by
  have hl : (f.take j).length = (f'.take j).length := by rw [List.length_take, List.length_take]; omega
  refine list_ext_bits hl fun i hi => ?_
  rw [List.length_take] at hi
  have hg : ∀ (x : List UInt8) (n : Nat), n / 8 < T → bitAt (x.take T) n = bitAt x n := fun x n hn => by
    unfold bitAt
    rw [List.getD_eq_getElem?_getD, List.getElem?_take, if_pos hn, ← List.getD_eq_getElem?_getD]
  have hg2 : ∀ (x : List UInt8), bitAt (x.take j) i = bitAt x i := fun x => by
    unfold bitAt
    rw [List.getD_eq_getElem?_getD, List.getElem?_take, if_pos (by omega), ← List.getD_eq_getElem?_getD]
  rw [hg2, hg2, sev_bit f, sev_bit f', ← hg _ _ (by omega), h, hg _ _ (by omega)]
theorem frame_head {k k' : UInt8} {a a' : List UInt8} (ha : a.length ≤ 1048576) (ha' : a'.length ≤ 1048576) (h : (frameSeal k a).take (1 + (vForm a.length).length) = (frameSeal k' a').take (1 + (vForm a.length).length)) : a.length = a'.length := by
  have e : ∀ (k : UInt8) (a : List UInt8), frameSeal k a = k :: (vForm a.length ++ (a ++ crcTail (crcSum (frameBody k a)))) := fun k a => by simp [frameSeal, frameBody]
  have h1 := vFrom_form a.length (((frameSeal k' a').drop (1 + (vForm a.length).length))) 0 0 (by omega) (by simp; omega) (by omega)
  have h2 := vFrom_form a'.length (a' ++ crcTail (crcSum (frameBody k' a'))) 0 0 (by omega) (by simp; omega) (by omega)
  have e1 : (frameSeal k' a').tail = vForm a'.length ++ (a' ++ crcTail (crcSum (frameBody k' a'))) := by rw [e]; rfl
  have e2 : (frameSeal k' a').tail = vForm a.length ++ (frameSeal k' a').drop (1 + (vForm a.length).length) := by
    have h3 := congrArg List.tail h
    rw [e k a, Nat.add_comm 1, List.take_succ_cons, List.tail_cons, List.take_left] at h3
    rw [Nat.add_comm 1]
    conv => lhs; rw [← List.take_append_drop ((vForm a.length).length + 1) (frameSeal k' a')]
    rw [e k' a', List.take_succ_cons, List.cons_append, List.tail_cons]
    rw [e k' a', List.take_succ_cons, List.tail_cons] at h3
    rw [← h3]
  rw [← e2] at h1
  rw [← e1] at h2
  rw [h1] at h2
  injection h2 with h2
  injection h2 with h2 _
  omega
/-- frames of which the shorter one's packed bytes, all but the last four, begin the other's have one length -/
theorem frame_len {k k' : UInt8} {a a' : List UInt8} (ha : a.length ≤ 1048576) (ha' : a'.length ≤ 1048576) (hle : (sevPack (frameSeal k a)).length ≤ (sevPack (frameSeal k' a')).length)
    (h : (sevPack (frameSeal k a)).take ((sevPack (frameSeal k a)).length - 4) = (sevPack (frameSeal k' a')).take ((sevPack (frameSeal k a)).length - 4)) : (frameSeal k a).length = (frameSeal k' a').length := by
  have l1 := frameSeal_length k a
  have l2 := frameSeal_length k' a'
  have s1 := sevPack_length (frameSeal k a)
  have s2 := sevPack_length (frameSeal k' a')
  have h1 := sev_take (j := 1 + (vForm a.length).length) h (by omega) (by omega) (by omega)
  have := frame_head ha ha' h1
  rw [l1, l2, this]
/-- bytes in which near bits are turned, byte F being the first that differs -/
structure Burst (b m : List UInt8) (F : Nat) : Prop where
  len : m.length = b.length
  lt : F < b.length
  same : m.take F = b.take F
  diff : b.getD F 0 ≠ m.getD F 0
  near : Near b m
theorem getD_take {l : List UInt8} {n i : Nat} (h : i < n) : (l.take n).getD i 0 = l.getD i 0 := by rw [List.getD_eq_getElem?_getD, List.getElem?_take, if_pos h, ← List.getD_eq_getElem?_getD]
theorem getD_app {x y : List UInt8} {i : Nat} (h : i < x.length) : (x ++ y).getD i 0 = x.getD i 0 := by rw [List.getD_eq_getElem?_getD, List.getElem?_append_left h, ← List.getD_eq_getElem?_getD]
theorem burst_stuck {r : RecD} {c m : List UInt8} {F : Nat} (hr : GoodR r) (h : Burst (lineL r ++ c) m F) (hF : F < (lineL r).length) : Stuck m := by
  have hl := line_len r
  intro n hn
  cases hp : parseL (m.take (n + 1)) with
  | none => rfl
  | some r' =>
    exfalso
    obtain ⟨hr', he⟩ := parseL_some hp
    have hl' := line_len r'
    have hnl : n < m.length := by
      by_cases hlt : n < m.length
      · exact hlt
      · have := hn.1
        rw [List.getElem?_eq_none (by omega)] at this
        cases this
    have h5 := congrArg List.length he
    rw [List.length_take, Nat.min_eq_left (by omega)] at h5
    have hm : m = lineL r' ++ m.drop (n + 1) := by rw [← he, List.take_append_drop]
    have hX : ∀ i, i < (sevPack (frameR r)).length → (lineL r ++ c).getD i 0 = (sevPack (frameR r)).getD i 0 := fun i hi => by rw [lineL_eq, List.append_assoc, getD_app hi]
    have hX' : ∀ i, i < (sevPack (frameR r')).length → m.getD i 0 = (sevPack (frameR r')).getD i 0 := fun i hi => by rw [hm, lineL_eq, List.append_assoc, getD_app hi]
    have hL := loadL_le r hr.2.1 hr.2.2 hr.1
    have hL' := loadL_le r' hr'.2.1 hr'.2.2 hr'.1
    have hpre : ∀ i, i < F → (lineL r ++ c).getD i 0 = m.getD i 0 := fun i hi => by rw [← getD_take hi, ← h.same, getD_take hi]
    have f10 : (lineL r ++ c).getD (sevPack (frameR r)).length 0 = 10 := by
      rw [List.getD_eq_getElem?_getD, List.getElem?_append_left (by omega), List.getElem?_eq_getElem (by omega), line_last r (by omega)]
      rfl
    have f10' : m.getD (sevPack (frameR r')).length 0 = 10 := by
      rw [hm, List.getD_eq_getElem?_getD, List.getElem?_append_left (by omega), List.getElem?_eq_getElem (by omega), line_last r' (by omega)]
      rfl
    have hne10 : ∀ (x : List UInt8) (i : Nat), i < (sevPack x).length → (sevPack x).getD i 0 ≠ 10 := fun x i hi h0 => by
      rw [List.getD_eq_getElem?_getD, List.getElem?_eq_getElem hi] at h0
      have h1 := sev_high x _ (List.getElem_mem hi)
      have h2 : (sevPack x)[i] = 10 := h0
      rw [h2] at h1
      exact absurd h1 (by decide)
    have htake : ∀ T, T ≤ F → T ≤ (sevPack (frameR r)).length → T ≤ (sevPack (frameR r')).length → (sevPack (frameR r)).take T = (sevPack (frameR r')).take T := fun T h1 h2 h3 => by
      apply List.ext_getElem (by rw [List.length_take, List.length_take]; omega)
      intro i hi hi'
      rw [List.length_take] at hi hi'
      have h4 := hpre i (by omega)
      rw [hX i (by omega), hX' i (by omega)] at h4
      rw [List.getElem_take, List.getElem_take]
      rw [List.getD_eq_getElem?_getD, List.getD_eq_getElem?_getD, List.getElem?_eq_getElem (by omega), List.getElem?_eq_getElem (by omega)] at h4
      exact h4
    rcases Nat.lt_trichotomy (sevPack (frameR r')).length (sevPack (frameR r)).length with hlt | heq | hgt
    · -- a line feed was made
      have hd : (lineL r ++ c).getD (sevPack (frameR r')).length 0 ≠ m.getD (sevPack (frameR r')).length 0 := by
        rw [f10', hX _ hlt]
        exact hne10 _ _ hlt
      have hFn := near_bytes h.near hd h.diff
      have := frame_len (k := UInt8.ofNat r'.kind.toNat) (k' := UInt8.ofNat r.kind.toNat) (a := loadL r') (a' := loadL r) (by omega) (by omega) (Nat.le_of_lt hlt) (htake _ (by show (sevPack (frameR r')).length - 4 ≤ F; omega) (by show (sevPack (frameR r')).length - 4 ≤ _; omega) (Nat.sub_le _ _)).symm
      have s1 := sevPack_length (frameR r)
      have s2 := sevPack_length (frameR r')
      have e : (frameR r').length = (frameR r).length := this
      omega
    · -- the line feed stands where it stood
      have hFl : F < (sevPack (frameR r)).length := by
        by_cases hF2 : F = (sevPack (frameR r)).length
        · exfalso
          apply h.diff
          rw [hF2, f10, ← heq, f10']
        · omega
      have s1 := sevPack_length (frameR r)
      have s2 := sevPack_length (frameR r')
      have hfl : (frameR r).length = (frameR r').length := by omega
      have hnear : Near (sevPack (frameR r)) (sevPack (frameR r')) := by
        have hlow : ∀ i, bitAt (sevPack (frameR r)) i ≠ bitAt (sevPack (frameR r')) i → bitAt (lineL r ++ c) i ≠ bitAt m i := fun i hi => by
          by_cases hi8 : i / 8 < (sevPack (frameR r)).length
          · unfold bitAt at hi ⊢
            rwa [hX _ hi8, hX' _ (by omega)]
          · exfalso
            apply hi
            unfold bitAt
            rw [List.getD_eq_getElem?_getD, List.getD_eq_getElem?_getD, List.getElem?_eq_none (by omega), List.getElem?_eq_none (by omega)]
        exact fun i j hi hj => h.near i j (hlow i hi) (hlow j hj)
      have hfe : frameR r = frameR r' := frame_near hfl hnear
      apply h.diff
      rw [hX F hFl, hX' F (by omega), hfe]
    · -- the line feed was destroyed
      have hd : (lineL r ++ c).getD (sevPack (frameR r)).length 0 ≠ m.getD (sevPack (frameR r)).length 0 := by
        rw [f10, hX' _ hgt]
        exact fun h0 => hne10 _ _ hgt h0.symm
      have hFn := near_bytes h.near hd h.diff
      have := frame_len (k := UInt8.ofNat r.kind.toNat) (k' := UInt8.ofNat r'.kind.toNat) (a := loadL r) (a' := loadL r') (by omega) (by omega) (Nat.le_of_lt hgt) (htake _ (by show (sevPack (frameR r)).length - 4 ≤ F; omega) (Nat.sub_le _ _) (by show (sevPack (frameR r)).length - 4 ≤ _; omega))
      have s1 := sevPack_length (frameR r)
      have s2 := sevPack_length (frameR r')
      have e : (frameR r).length = (frameR r').length := this
      omega
theorem bitAt_drop (b : List UInt8) (n i : Nat) : bitAt (b.drop n) i = bitAt b (8 * n + i) := by
  unfold bitAt
  rw [show (8 * n + i) / 8 = n + i / 8 by omega, show (8 * n + i) % 8 = i % 8 by omega, List.getD_eq_getElem?_getD, List.getElem?_drop, ← List.getD_eq_getElem?_getD]
theorem burst_all : ∀ (rs : List RecD) (m : List UInt8) (F : Nat), (∀ r ∈ rs, GoodR r) → Burst (rs.flatMap lineL) m F → AllTo m (rs.take (wholeN rs F)) ((rs.take (wholeN rs F)).flatMap lineL).length
  | [], m, F, _, h => by
    have := h.lt
    simp at this
  | r :: rs, m, F, hg, h => by
    unfold wholeN
    by_cases hF : (lineL r).length ≤ F
    · rw [if_pos hF, Nat.add_comm 1, List.take_succ_cons, List.flatMap_cons, List.length_append]
      have hlen := h.len
      have hlt := h.lt
      rw [List.flatMap_cons, List.length_append] at hlen hlt
      have hbd : ((r :: rs).flatMap lineL).drop (lineL r).length = rs.flatMap lineL := by rw [List.flatMap_cons, List.drop_left]
      have e : m = lineL r ++ m.drop (lineL r).length := by
        have h1 : m.take (lineL r).length = lineL r := by
          have h2 := congrArg (List.take (lineL r).length) h.same
          rw [List.take_take, List.take_take, Nat.min_eq_left hF, List.flatMap_cons, List.take_left] at h2
          exact h2
        conv => lhs; rw [← List.take_append_drop (lineL r).length m, h1]
      have ih := burst_all rs (m.drop (lineL r).length) (F - (lineL r).length) (fun x hx => hg x (by simp [hx])) (by
        refine ⟨?_, ?_, ?_, ?_, ?_⟩
        · rw [List.length_drop]; omega
        · omega
        · have h2 := congrArg (List.drop (lineL r).length) h.same
          rw [List.drop_take, List.drop_take, hbd] at h2
          exact h2
        · have h3 := h.diff
          rw [← hbd, List.getD_eq_getElem?_getD, List.getD_eq_getElem?_getD, List.getElem?_drop, List.getElem?_drop, show (lineL r).length + (F - (lineL r).length) = F by omega]
          rwa [List.getD_eq_getElem?_getD, List.getD_eq_getElem?_getD] at h3
        · intro i j hi hj
          rw [← hbd, bitAt_drop, bitAt_drop] at hi hj
          have := h.near _ _ hi hj
          omega)
      have hc := ih.cons (hg r (by simp))
      rwa [← e] at hc
    · rw [if_neg hF, List.take_zero]
      exact AllTo.nil (burst_stuck (hg r (by simp)) (by rwa [List.flatMap_cons] at h) (by omega))
theorem turned_burst {b m : List UInt8} {at_ turn z : Nat} (h : Turned b at_ turn 32 m) (hat : at_ + 32 ≤ 8 * b.length) (hz : z < 32) (hz1 : turn.testBit z = true) (hz0 : ∀ i, i < z → turn.testBit i = false) : Burst b m ((at_ + z) / 8) := by
  obtain ⟨hl, hb⟩ := h
  have hwin : ∀ i, bitAt b i ≠ bitAt m i → at_ ≤ i ∧ i < at_ + 32 ∧ turn.testBit (i - at_) = true := fun i hi => by
    rw [hb i] at hi
    by_cases h1 : at_ ≤ i ∧ i < at_ + 32
    · rw [decide_eq_true h1] at hi
      refine ⟨h1.1, h1.2, ?_⟩
      cases ht : turn.testBit (i - at_)
      · rw [ht] at hi
        simp at hi
      · rfl
    · rw [decide_eq_false h1] at hi
      simp at hi
  have hlow : ∀ i, i < at_ + z → bitAt b i = bitAt m i := fun i hi => by
    apply Classical.byContradiction
    intro hne
    obtain ⟨h1, h2, h3⟩ := hwin i hne
    rw [hz0 (i - at_) (by omega)] at h3
    cases h3
  refine ⟨hl, by omega, ?_, ?_, ?_⟩
  · apply List.ext_getElem (by rw [List.length_take, List.length_take, hl])
    intro j h1 h2
    rw [List.length_take] at h1 h2
    rw [List.getElem_take, List.getElem_take]
    apply byte_ext
    intro k hk
    have := hlow (8 * j + k) (by omega)
    unfold bitAt at this
    rw [show (8 * j + k) / 8 = j by omega, show (8 * j + k) % 8 = k by omega, List.getD_eq_getElem?_getD, List.getD_eq_getElem?_getD, List.getElem?_eq_getElem (by omega), List.getElem?_eq_getElem (by omega)] at this
    exact this.symm
  · intro he
    have h1 := hb (at_ + z)
    have h2 : bitAt m (at_ + z) = bitAt b (at_ + z) := by unfold bitAt; rw [he]
    rw [h2, decide_eq_true ⟨by omega, by omega⟩, show at_ + z - at_ = z by omega, hz1] at h1
    cases hc : bitAt b (at_ + z) <;> rw [hc] at h1 <;> cases h1
  · intro i j hi hj
    have h1 := hwin i hi
    have h2 := hwin j hj
    omega
end Go.Proofs.YtfheocdciekfoaaDoor
