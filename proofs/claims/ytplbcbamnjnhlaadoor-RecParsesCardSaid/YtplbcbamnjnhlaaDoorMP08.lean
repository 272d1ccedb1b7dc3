/- Texts of this proof joined: Varint, Varint2, CrcMath. -/
import Derived.Test.YtplbcbamnjnhlaaDoorMP07
import Derived.WalkKit
/- Contracts of varint.Put, Take, and of the reference's Form, Front, for any number, any bytes, every world. -/
namespace Go.Proofs.YtplbcbamnjnhlaaDoor
open Go.RowKit

/-- a number's form -/
def vForm (v : Nat) : List UInt8 := if v < 128 then [UInt8.ofNat v] else UInt8.ofNat (v % 128 + 128) :: vForm (v / 128)
termination_by v
decreasing_by omega
theorem vForm_lt {v : Nat} (h : v < 128) : vForm v = [UInt8.ofNat v] := by rw [vForm, if_pos h]
theorem vForm_ge {v : Nat} (h : ¬ v < 128) : vForm v = UInt8.ofNat (v % 128 + 128) :: vForm (v / 128) := by rw [vForm, if_neg h]
theorem beBytes_one (x : Nat) (h : x < 256) : beBytes 1 x = [UInt8.ofNat x] := by simp [beBytes, bytesOfNat, digs, Nat.mod_eq_of_lt h]
theorem vForm_length (v : Nat) : ∀ k, v < 128 ^ (k + 1) → (vForm v).length ≤ k + 1 := by
  intro k
  induction k generalizing v with
  | zero => intro h; rw [vForm_lt (by simpa using h)]; simp
  | succ k ih =>
    intro h
    by_cases hv : v < 128
    · rw [vForm_lt hv]; simp
    · rw [vForm_ge hv, List.length_cons]
      have := ih (v / 128) (by rw [Nat.pow_succ] at h; omega)
      omega

set_option maxRecDepth 100000 in
theorem put_any (g v : Nat) (l : List UInt8) (w : World) (hw : WrR w g l) (hl : l.length ≤ 549755813888) (hv : v < 18446744073709551616) :
    Calls Tryd.prog 44 #[.pointer (some ⟨g, 0, none⟩), .int .u64 v] w fun e w' => e = .returned (.tuple #[]) ∧ WrR w' g (l ++ vForm v) ∧ Keep g w w' := by
  have HW := Lib.hid hw
  have hlf := vForm_length v 9 (by omega)
  clear hw
  go_enter Tryd.func44, Tryd.ntmps44
  go_wp2_with fail
  go_loopw [1] (fun v1 wr => ∃ (x : Nat) (t : List UInt8), v1 = .int .u64 x ∧ x < 18446744073709551616 ∧ Hid (t ++ vForm x = vForm v) ∧ t.length ≤ 10 ∧ WrR wr g (l ++ t) ∧ Keep g w wr) (fun v1 _ => (intOf v1).toNat)
  case atStart => exact ⟨v, [], rfl, hv, rfl, by simp, by simpa using HW.out, Keep.refl g w (Nat.le_of_lt HW.out.lt)⟩
  case round =>
    obtain ⟨x, t, rfl, hx64, ht, htl, hwr, hk⟩ := hrel
    have HR := Lib.hid hwr
    clear hwr
    have hlen : (l ++ t).length ≤ 1099511627776 := by rw [List.length_append]; omega
    by_cases hlt : x < 128
    · have HF := Lib.hid (vForm_lt hlt)
      go_wp2_with fail
      refine (num_any g 1 x (l ++ t) wr HR.out (by omega) (by omega) (by omega) hlen).mono ?_
      rintro e w2 ⟨rfl, h1, h2⟩
      have H1 := Lib.hid h1
      have H2 := Lib.hid h2
      clear h1 h2
      go_wp2
      go_end0
      refine ⟨rfl, ?_, hk.trans H2.out⟩
      have := H1.out
      rw [beBytes_one x (by omega), ← HF.out, List.append_assoc, ht.out] at this
      exact this
    · have HF := Lib.hid (vForm_ge hlt)
      have htl2 : t.length + 1 ≤ 10 := by
        have h1 := congrArg List.length ht.out
        rw [HF.out] at h1
        have h2 : 1 ≤ (vForm (x / 128)).length := by rw [vForm]; split <;> simp
        simp at h1
        omega
      go_wp2_with fail
      refine (num_any g 1 (x % 128 + 128) (l ++ t) wr HR.out (by omega) (by omega) (by omega) hlen).mono ?_
      rintro e w2 ⟨rfl, h1, h2⟩
      have H1 := Lib.hid h1
      have H2 := Lib.hid h2
      clear h1 h2
      go_wp2
      go_roundw
      case rel =>
        refine ⟨x / 128, t ++ [UInt8.ofNat (x % 128 + 128)], by rfl, by omega, ?_, by simp; omega, ?_, hk.trans H2.out⟩
        · show _ = _
          rw [← ht.out, HF.out]
          simp
        · have := H1.out
          rw [beBytes_one _ (by omega), List.append_assoc] at this
          exact this
      case measure => simp [intOf]; omega

/-- the number whose form begins with these bytes, i bytes of it read already, and how long the form is -/
def vFrom : List UInt8 → Nat → Nat → Option (Nat × Nat)
  | [], _, _ => none
  | c :: r, i, v => if 10 ≤ i then none else if (i = 9 ∧ 1 < c.toNat) ∨ (0 < i ∧ c.toNat = 0) then none
      else if c.toNat < 128 then some (v + c.toNat * 128 ^ i, i + 1) else vFrom r (i + 1) (v + c.toNat % 128 * 128 ^ i)
def VTo (g : Nat) (l : List UInt8) (a most : Nat) (w : World) (e : Ending) (w' : World) : Prop :=
  w.grownBy w' (some g) ∧ ((∃ v k, vFrom (l.drop a) 0 0 = some (v, k) ∧ v ≤ most ∧ e = .returned (.int .u64 (v : Nat)) ∧ RdrR w' g l (a + k) false) ∨
    ((∀ v k, vFrom (l.drop a) 0 0 = some (v, k) → most < v) ∧ e = .returned (.int .u64 0) ∧ ∃ a', RdrR w' g l a' true))
theorem num1_ok (g : Nat) (l : List UInt8) (a : Nat) (w : World) (h : RdrR w g l a false) (hn : a < l.length) :
    Calls Tryd.prog 29 #[.pointer (some ⟨g, 0, none⟩), .int .i64 1] w fun e w' => e = .returned (.int .u64 (l[a].toNat : Nat)) ∧ RdrR w' g l (a + 1) false ∧ w.grownBy w' (some g) := by
  refine (num_ok g l a 1 w h (by omega) (by omega) (by omega)).mono ?_
  rintro e w' ⟨rfl, h1, h2⟩
  refine ⟨rt1 (vint ?_), h1, h2⟩
  rw [List.drop_eq_getElem_cons hn, List.take_succ_cons]
  simp [beVal]
theorem vFrom_ten (l : List UInt8) (V : Nat) : vFrom l 10 V = none := by cases l <;> simp [vFrom]
theorem vFrom_step (l : List UInt8) (i k V : Nat) (h : i < l.length) : vFrom (l.drop i) k V = if 10 ≤ k then none else if (k = 9 ∧ 1 < l[i].toNat) ∨ (0 < k ∧ l[i].toNat = 0) then none
      else if l[i].toNat < 128 then some (V + l[i].toNat * 128 ^ k, k + 1) else vFrom (l.drop (i + 1)) (k + 1) (V + l[i].toNat % 128 * 128 ^ k) := by
  rw [List.drop_eq_getElem_cons h, vFrom]
theorem or_var (V x k : Nat) (hV : V < 128 ^ k) (hx : x < 256) (hk : k ≤ 9) (hbad : ¬ ((k = 9 ∧ 1 < x) ∨ (0 < k ∧ x = 0))) :
    bits .or .u64 (V : Int) (IntKind.u64.wrap ((x : Int) % 128 * 2 ^ (7 * k))) = ((V + x % 128 * 128 ^ k : Nat) : Int) ∧ V + x % 128 * 128 ^ k < 128 ^ (k + 1) ∧ V + x % 128 * 128 ^ k < 18446744073709551616 := by
  have hp : (128 : Nat) ^ k = 2 ^ (7 * k) := by rw [show (128 : Nat) = 2 ^ 7 by decide, ← Nat.pow_mul]
  have h1 : V + x % 128 * 128 ^ k < 128 ^ (k + 1) := by
    have : x % 128 * 128 ^ k ≤ 127 * 128 ^ k := Nat.mul_le_mul_right _ (by omega)
    rw [Nat.pow_succ]; omega
  have h2 : x % 128 * 128 ^ k < 9223372036854775809 ∧ V + x % 128 * 128 ^ k < 18446744073709551616 := by
    by_cases h9 : k = 9
    · subst h9
      have hx1 : x ≤ 1 := by omega
      have : x % 128 ≤ 1 := by omega
      have h3 : x % 128 * 128 ^ 9 ≤ 1 * 128 ^ 9 := Nat.mul_le_mul_right _ this
      have e9 : (128 : Nat) ^ 9 = 9223372036854775808 := by decide
      rw [e9] at h3 hV ⊢
      omega
    · have : (128 : Nat) ^ (k + 1) ≤ 128 ^ 9 := Nat.pow_le_pow_right (by omega) (by omega)
      have e9 : (128 : Nat) ^ 9 = 9223372036854775808 := by decide
      omega
  refine ⟨?_, h1, h2.2⟩
  have e : ((x : Int) % 128 * 2 ^ (7 * k)) = ((x % 128 * 128 ^ k : Nat) : Int) := by rw [hp]; simp
  rw [e, IntKind.wrap_u64, Int.emod_eq_of_lt (by omega) (by omega), u64_or_nat _ _ (by omega) (by omega)]
  congr 1
  have h3 := Nat.shiftLeft_add_eq_or_of_lt (a := x % 128) (b := V) (i := 7 * k) (by rw [← hp]; exact hV)
  rw [Nat.shiftLeft_eq, ← hp] at h3
  rw [Nat.or_comm, ← h3, Nat.add_comm]
set_option maxRecDepth 100000 in
set_option maxHeartbeats 1000000 in
theorem take_var (g : Nat) (l : List UInt8) (a most : Nat) (w : World) (h : RdrR w g l a false) (hm : most < 18446744073709551616) :
    Calls Tryd.prog 50 #[.pointer (some ⟨g, 0, none⟩), .int .u64 most] w (VTo g l a most w) := by
  have H := Lib.hid h
  have HM := Lib.hid hm
  clear h hm
  go_enter Tryd.func50, Tryd.ntmps50
  go_wp2_with fail
  go_step3
  go_wp2_with fail
  go_step3
  go_wp2_with fail
  go_loopw [5, 6, 9] (fun v5 v6 v9 wr => ∃ k V : Nat, k ≤ 10 ∧ v9 = .int .i64 k ∧ v5 = .int .u64 V ∧ v6 = .bool false ∧ Hid (V < 128 ^ k) ∧ Hid (RdrR wr g l (a + k) false) ∧ Hid (w.grownBy wr (some g)) ∧ Hid (vFrom (l.drop (a + k)) k V = vFrom (l.drop a) 0 0)) (fun _ _ v9 _ => 10 - (intOf v9).toNat)
  case atStart => exact ⟨0, 0, by omega, rfl, rfl, rfl, by show _ < _; simp, H.out, grown_refl _ _, rfl⟩
  case round =>
    obtain ⟨k, V, hk, rfl, rfl, rfl, hV, HR, HG, HF⟩ := hrel
    have ha : a + k ≤ l.length := by obtain ⟨_, _, _, _, _, _, h5⟩ := HR.out; exact h5
    by_cases h10 : k = 10
    · subst h10
      have HN := Lib.hid (show vFrom (l.drop a) 0 0 = none by rw [← HF.out, vFrom_ten])
      go_wp2_with fail
      refine (spend_any g l _ _ wr HR.out).mono ?_
      rintro e w3 ⟨rfl, h1, h2⟩
      have H3 := Lib.hid h1
      have H4 := Lib.hid (grown_trans HG.out h2)
      clear h1 h2
      go_wp2
      rw [Exit.noGoto_ret]
      go_ret
      exact ⟨H4.out, .inr ⟨(fun v k h => by rw [HN.out] at h; cases h), rfl, _, H3.out⟩⟩
    · by_cases hlt : a + k < l.length
      · go_wp2_with fail
        refine (num1_ok g l (a + k) wr HR.out hlt).mono ?_
        rintro e w2 ⟨rfl, h1, h2⟩
        have H1 := Lib.hid h1
        have H2 := Lib.hid (grown_trans HG.out h2)
        clear h1 h2
        go_wp2_with fail
        refine (spent_any g l (a + k + 1) false w2 H1.out).mono ?_
        rintro e w3 ⟨rfl, rfl⟩
        have HS := Lib.hid (vFrom_step l (a + k) k V hlt)
        obtain ⟨x, hx⟩ : ∃ x, x = l[a + k].toNat := ⟨_, rfl⟩
        rw [← hx] at HS ⊢
        have hx8 : x < 256 := by rw [hx]; exact l[a + k].toNat_lt
        clear hx
        have hk9 : k ≤ 9 := by omega
        clear hk h10
        by_cases hbad : (k = 9 ∧ 1 < x) ∨ (0 < k ∧ x = 0)
        · have HN := Lib.hid (show vFrom (l.drop a) 0 0 = none by rw [← HF.out, HS.out, if_neg (by omega), if_pos hbad])
          have HB := Lib.hid hbad
          clear hbad
          rcases Bool.eq_false_or_eq_true (((k : Nat) : Int) == 9) with b9 | b9 <;> rcases Bool.eq_false_or_eq_true (decide ((1 : Int) < (x : Nat))) with c1 | c1 <;>
            rcases Bool.eq_false_or_eq_true (decide (0 < k)) with b0 | b0 <;> rcases Bool.eq_false_or_eq_true (((x : Nat) : Int) == 0) with c0 | c0
          all_goals try (exfalso; have hb := HB.out; clear HS HF HN HR HG H HM hV; simp only [beq_iff_eq, beq_eq_false_iff_ne, decide_eq_true_eq, decide_eq_false_iff_not, ne_eq] at b9 c1 b0 c0; omega)
          all_goals
            go_wp2_with fail
            refine (spend_any g l _ _ w2 H1.out).mono ?_
            rintro e w3 ⟨rfl, h1, h2⟩
            have H3 := Lib.hid h1
            have H4 := Lib.hid (grown_trans H2.out h2)
            clear h1 h2
            go_wp2
            rw [Exit.noGoto_ret]
            go_ret
            exact ⟨H4.out, .inr ⟨(fun v k h => by rw [HN.out] at h; cases h), rfl, _, H3.out⟩⟩
        · obtain ⟨ho, hv1, hv2⟩ := or_var V x k hV.out hx8 hk9 hbad
          obtain ⟨V', hV'⟩ : ∃ V', V' = V + x % 128 * 128 ^ k := ⟨_, rfl⟩
          rw [← hV'] at ho hv1 hv2
          have HV' := Lib.hid hV'
          have HV1 := Lib.hid hv1
          have HB := Lib.hid hbad
          clear hV' hv1 hbad
          by_cases hx128 : x < 128
          · have HN := Lib.hid (show vFrom (l.drop a) 0 0 = some (V', k + 1) by rw [← HF.out, HS.out, if_neg (by omega), if_neg HB.out, if_pos hx128, HV'.out, Nat.mod_eq_of_lt hx128])
            have c2 : decide ((x : Int) < 128) = true := by simp; omega
            rcases Bool.eq_false_or_eq_true (((k : Nat) : Int) == 9) with b9 | b9 <;> rcases Bool.eq_false_or_eq_true (decide ((1 : Int) < (x : Nat))) with c1 | c1 <;>
              rcases Bool.eq_false_or_eq_true (decide (0 < k)) with b0 | b0 <;> rcases Bool.eq_false_or_eq_true (((x : Nat) : Int) == 0) with c0 | c0
            all_goals try (exfalso; have hb := HB.out; clear HS HF HN HR HG H HM hV ho HV' HV1 c2; simp only [beq_iff_eq, beq_eq_false_iff_ne, decide_eq_true_eq, decide_eq_false_iff_not, ne_eq] at b9 c1 b0 c0; omega)
            all_goals
              rcases Nat.lt_or_ge most V' with hmv | hmv
              · have hmb : decide (most < V') = true := by simpa using hmv
                go_wp2_with fail
                refine (spend_any g l _ _ w2 H1.out).mono ?_
                rintro e w3 ⟨rfl, h1, h2⟩
                have H3 := Lib.hid h1
                have H4 := Lib.hid (grown_trans H2.out h2)
                clear h1 h2
                go_wp2
                rw [Exit.noGoto_ret]
                go_ret
                exact ⟨H4.out, .inr ⟨(fun v k h => by rw [HN.out] at h; injection h with h; injection h with h; omega), rfl, _, H3.out⟩⟩
              · have hmb : decide (most < V') = false := by simpa using hmv
                go_wp2
                rw [Exit.noGoto_ret]
                go_ret
                exact ⟨H2.out, .inl ⟨V', k + 1, HN.out, hmv, rfl, H1.out⟩⟩
          · have HN := Lib.hid (show vFrom (l.drop (a + (k + 1))) (k + 1) V' = vFrom (l.drop a) 0 0 by rw [← HF.out, HS.out, if_neg (by omega), if_neg HB.out, if_neg hx128, HV'.out]; rfl)
            have c2 : decide ((x : Int) < 128) = false := by simp; omega
            have hkx : k ≠ 9 := by intro h; exact HB.out (.inl ⟨h, by omega⟩)
            have c1 : decide ((1 : Int) < (x : Nat)) = true := by simp; omega
            have b9 : (((k : Nat) : Int) == 9) = false := by rw [beq_eq_false_iff_ne]; omega
            have c0 : (((x : Nat) : Int) == 0) = false := by rw [beq_eq_false_iff_ne]; omega
            rcases Bool.eq_false_or_eq_true (decide (0 < k)) with b0 | b0
            all_goals
              go_wp2
              go_roundw
              case rel => exact ⟨k + 1, V', by omega, by go_num, rfl, rfl, HV1.out, H1.out, H2.out, HN.out⟩
              case measure => simp [intOf]; omega
      · go_wp2_with fail
        refine (num_no g l (a + k) false 1 wr HR.out (by omega) (by omega) (.inr (by omega))).mono ?_
        rintro e w2 ⟨rfl, h1, h2⟩
        have H1 := Lib.hid h1
        have H2 := Lib.hid (grown_trans HG.out h2)
        clear h1 h2
        go_wp2_with fail
        refine (spent_any g l (a + k) true w2 H1.out).mono ?_
        rintro e w3 ⟨rfl, rfl⟩
        have HN := Lib.hid (show vFrom (l.drop a) 0 0 = none by rw [← HF.out, List.drop_eq_nil_of_le (by omega)]; rfl)
        go_wp2
        rw [Exit.noGoto_ret]
        go_ret
        exact ⟨H2.out, .inr ⟨(fun v k h => by rw [HN.out] at h; cases h), rfl, _, H1.out⟩⟩
end Go.Proofs.YtplbcbamnjnhlaaDoor
/- Contracts of the reference's pow and Front (02), for any bytes, every world. -/
namespace Go.Proofs.YtplbcbamnjnhlaaDoor
open Go.RowKit

theorem pow_any (i : Nat) (w : World) (hi : i ≤ 9) :
    Calls Tryd.prog 54 #[.int .i64 i] w fun e w' => e = .returned (.int .u64 (128 ^ i : Nat)) ∧ w = w' := by
  go_enter Tryd.func54, Tryd.ntmps54
  go_wp2_with fail
  go_loop [3, 4] (fun v3 v4 => ∃ j p : Nat, j ≤ i ∧ v4 = .int .i64 j ∧ v3 = .int .u64 p ∧ Hid (p = 128 ^ j)) (fun _ v4 => i - (intOf v4).toNat)
  case atStart => exact ⟨0, 1, by omega, rfl, rfl, rfl⟩
  case round =>
    obtain ⟨j, p, hj, rfl, rfl, hp⟩ := hrel
    by_cases hlt : j < i
    · have hp2 : p * 128 ≤ 9223372036854775808 := by
        rw [hp.out, ← Nat.pow_succ]
        have : (128 : Nat) ^ (j + 1) ≤ 128 ^ 9 := Nat.pow_le_pow_right (by omega) (by omega)
        have e9 : (128 : Nat) ^ 9 = 9223372036854775808 := by decide
        show 128 ^ (j + 1) ≤ _
        omega
      go_wp2
      go_round
      case rel =>
        refine ⟨j + 1, p * 128, by omega, by go_num, by first | rfl | go_num, ?_⟩
        show _ = _
        rw [hp.out, Nat.pow_succ]
      case measure => simp [intOf]; omega
    · have hji : j = i := by omega
      subst hji
      go_wp2
      go_ret
      exact ⟨rt1 (vint (by rw [hp.out]; simp)), rfl⟩
theorem wrap_var (V x k : Nat) (h : V + x % 128 * 128 ^ k < 18446744073709551616) : IntKind.u64.wrap ((V : Int) + IntKind.u64.wrap ((x : Int) % 128 * 128 ^ k)) = ((V + x % 128 * 128 ^ k : Nat) : Int) := by
  have e : ((x : Int) % 128 * 128 ^ k) = ((x % 128 * 128 ^ k : Nat) : Int) := by simp
  rw [e, IntKind.wrap_u64, IntKind.wrap_u64, Int.emod_eq_of_lt (b := 18446744073709551616) (by omega) (by omega), Int.emod_eq_of_lt (by omega) (by omega)]
  omega
/-- a number's front, as the reference tells it -/
def frontVal (r : Option (Nat × Nat)) : Value := match r with | some (v, k) => .tuple #[.int .u64 (v : Nat), .int .i64 (k : Nat)] | none => .tuple #[.int .u64 0, .int .i64 0]
set_option maxRecDepth 100000 in
set_option maxHeartbeats 1000000 in
theorem refFront2_any (l : List UInt8) (A : Option Addr) (c B : Nat) (w : World) (hr : Rd w B A (bcells l)) (hl : l.length ≤ 1099511627776) :
    Calls Tryd.prog 34 #[.slice A l.length c] w fun e w' => e = .returned (frontVal (vFrom l 0 0)) ∧ w = w' := by
  have HR := Lib.hid hr
  clear hr
  go_enter Tryd.func34, Tryd.ntmps34
  go_wp2_with fail
  go_loop [4, 5] (fun v4 v5 => ∃ k V : Nat, k ≤ 10 ∧ k ≤ l.length ∧ v5 = .int .i64 k ∧ v4 = .int .u64 V ∧ Hid (V < 128 ^ k) ∧ Hid (vFrom (l.drop k) k V = vFrom l 0 0)) (fun _ v5 => 10 - (intOf v5).toNat)
  case atStart => exact ⟨0, 0, by omega, by omega, rfl, rfl, by show _ < _; simp, rfl⟩
  case round =>
    obtain ⟨k, V, hk, hkl, rfl, rfl, hV, HF⟩ := hrel
    by_cases hend : k = 10 ∨ k = l.length
    · have HN := Lib.hid (show vFrom l 0 0 = none by
        rw [← HF.out]
        rcases hend with h | h
        · subst h; rw [vFrom_ten]
        · rw [List.drop_eq_nil_of_le (by omega)]; rfl)
      rcases Nat.lt_or_ge k l.length with h1 | h1
      · have h2 : ¬ k < 10 := by omega
        go_wp2
        go_ret2
        exact ⟨by rw [HN.out]; rfl, rfl⟩
      · have h2 : ¬ k < l.length := by omega
        go_wp2
        go_ret2
        exact ⟨by rw [HN.out]; rfl, rfl⟩
    · have hk9 : k ≤ 9 := by omega
      have hlt : k < l.length := by omega
      clear hend hk
      obtain ⟨ab, ao, rfl, hab, hcell⟩ := HR.out.byte hlt
      have HS := Lib.hid (vFrom_step l k k V hlt)
      obtain ⟨x, hx⟩ : ∃ x, x = l[k].toNat := ⟨_, rfl⟩
      rw [← hx] at HS hcell
      have hx8 : x < 256 := by rw [hx]; exact l[k].toNat_lt
      clear hx
      by_cases hbad : (k = 9 ∧ 1 < x) ∨ (0 < k ∧ x = 0)
      · have HN := Lib.hid (show vFrom l 0 0 = none by rw [← HF.out, HS.out, if_neg (by omega), if_pos hbad])
        have HB := Lib.hid hbad
        clear hbad
        rcases Bool.eq_false_or_eq_true (((k : Nat) : Int) == 9) with b9 | b9 <;> rcases Bool.eq_false_or_eq_true (decide ((1 : Int) < (x : Nat))) with c1 | c1 <;>
          rcases Bool.eq_false_or_eq_true (decide (0 < k)) with b0 | b0 <;> rcases Bool.eq_false_or_eq_true (((x : Nat) : Int) == 0) with c0 | c0
        all_goals try (exfalso; have hb := HB.out; clear HS HF HN HR hV hcell; simp only [beq_iff_eq, beq_eq_false_iff_ne, decide_eq_true_eq, decide_eq_false_iff_not, ne_eq] at b9 c1 b0 c0; omega)
        all_goals
          go_wp2
          go_ret2
          exact ⟨by rw [HN.out]; rfl, rfl⟩
      · obtain ⟨_, hv1, hv2⟩ := or_var V x k hV.out hx8 hk9 hbad
        have HB := Lib.hid hbad
        have HX := Lib.hid (wrap_var V x k hv2)
        have HV1 := Lib.hid hv1
        clear hbad hv1 hv2
        rcases Bool.eq_false_or_eq_true (decide ((x : Int) < 128)) with c2 | c2 <;> rcases Bool.eq_false_or_eq_true (((k : Nat) : Int) == 9) with b9 | b9 <;> rcases Bool.eq_false_or_eq_true (decide ((1 : Int) < (x : Nat))) with c1 | c1 <;>
          rcases Bool.eq_false_or_eq_true (decide (0 < k)) with b0 | b0 <;> rcases Bool.eq_false_or_eq_true (((x : Nat) : Int) == 0) with c0 | c0
        all_goals try (exfalso; have hb := HB.out; clear HS HF HR hV hcell HX HV1; simp only [beq_iff_eq, beq_eq_false_iff_ne, decide_eq_true_eq, decide_eq_false_iff_not, ne_eq] at b9 c1 b0 c0 c2; omega)
        all_goals
          go_wp2_with fail
          refine (pow_any k w hk9).mono ?_
          rintro e w1 ⟨rfl, rfl⟩
          go_wp2
          first
          | (go_ret2
             refine ⟨?_, rfl⟩
             have h1 : x < 128 := by have := of_decide_eq_true c2; omega
             have hN : vFrom l 0 0 = some (V + x % 128 * 128 ^ k, k + 1) := by rw [← HF.out, HS.out, if_neg (by omega), if_neg HB.out, if_pos h1, Nat.mod_eq_of_lt h1]
             rw [hN]
             exact rt2 (vint HX.out) (by go_num))
          | (go_round
             case rel =>
               have h1 : ¬ x < 128 := by have := of_decide_eq_false c2; omega
               have hk : k ≠ 9 := by have := beq_eq_false_iff_ne.1 b9; omega
               refine ⟨k + 1, V + x % 128 * 128 ^ k, by omega, by omega, by go_num, vint HX.out, HV1.out, ?_⟩
               show _ = _
               rw [← HF.out, HS.out, if_neg (by omega), if_neg HB.out, if_neg h1]
             case measure => simp [intOf]; omega)
end Go.Proofs.YtplbcbamnjnhlaaDoor
/- Sums: bit by bit, by half bytes; a burst of at most 32 bits shows. Plain: no program is named here. -/
namespace Go.Proofs.YtplbcbamnjnhlaaDoor

def crcPoly : BitVec 32 := 0xedb88320#32
/-- a register, one bit on -/
def crcL (r : BitVec 32) : BitVec 32 := (r >>> 1) ^^^ (if r.getLsbD 0 then crcPoly else 0#32)
def bv1 (b : Bool) : BitVec 32 := if b then 1#32 else 0#32
def crcBit (s : BitVec 32) (b : Bool) : BitVec 32 := crcL (s ^^^ bv1 b)
def crcBits (s : BitVec 32) (l : List Bool) : BitVec 32 := l.foldl crcBit s
def crcLn : Nat → BitVec 32 → BitVec 32
  | 0, r => r
  | n + 1, r => crcLn n (crcL r)

theorem xor4 (a b c d : BitVec 32) : (a ^^^ b) ^^^ (c ^^^ d) = (a ^^^ c) ^^^ (b ^^^ d) := by
  rw [BitVec.xor_assoc, BitVec.xor_assoc]
  congr 1
  rw [← BitVec.xor_assoc, ← BitVec.xor_assoc, BitVec.xor_comm b c]
theorem crcL_xor (x y : BitVec 32) : crcL (x ^^^ y) = crcL x ^^^ crcL y := by
  unfold crcL
  rw [BitVec.getLsbD_xor, BitVec.ushiftRight_xor_distrib, xor4]
  congr 1
  cases x.getLsbD 0 <;> cases y.getLsbD 0 <;> simp
theorem crcL_zero : crcL 0#32 = 0#32 := by decide
theorem crcLn_xor : ∀ (n : Nat) (x y : BitVec 32), crcLn n (x ^^^ y) = crcLn n x ^^^ crcLn n y
  | 0, _, _ => rfl
  | n + 1, x, y => by rw [crcLn, crcL_xor, crcLn_xor n]; rfl
theorem crcLn_zero : ∀ n : Nat, crcLn n 0#32 = 0#32
  | 0 => rfl
  | n + 1 => by rw [crcLn, crcL_zero, crcLn_zero n]
theorem crcL_inj {x : BitVec 32} (h : crcL x = 0#32) : x = 0#32 := by
  unfold crcL at h
  cases hb : x.getLsbD 0 with
  | true =>
    exfalso
    rw [hb] at h
    have h2 := congrArg (fun v => v.getLsbD 31) h
    simp [crcPoly] at h2
  | false =>
    rw [hb] at h
    simp only [Bool.false_eq_true, if_false, BitVec.xor_zero] at h
    apply BitVec.eq_of_getLsbD_eq
    intro i hi
    cases i with
    | zero => rw [hb]; simp
    | succ i =>
      have h2 := congrArg (fun v => v.getLsbD i) h
      simp only [BitVec.getLsbD_ushiftRight] at h2
      rw [Nat.add_comm 1 i] at h2
      rw [h2]
      simp
theorem crcLn_inj : ∀ (n : Nat) {x : BitVec 32}, crcLn n x = 0#32 → x = 0#32
  | 0, _, h => h
  | n + 1, _, h => crcL_inj (crcLn_inj n h)

/-- the number of bits, the lowest first -/
def bval : List Bool → Nat
  | [] => 0
  | b :: l => (if b then 1 else 0) + 2 * bval l
theorem bval_lt : ∀ l : List Bool, bval l < 2 ^ l.length
  | [] => by simp [bval]
  | b :: l => by
    have := bval_lt l
    rw [bval, List.length_cons, Nat.pow_succ]
    cases b <;> simp <;> omega
theorem bval_zero : ∀ l : List Bool, bval l = 0 → ∀ b ∈ l, b = false
  | [], _, b, h => by cases h
  | c :: l, h, b, hb => by
    rw [bval] at h
    rcases List.mem_cons.1 hb with rfl | hb
    · cases b with
      | false => rfl
      | true => simp at h
    · exact bval_zero l (by omega) b hb
theorem bv_cons (b : Bool) (v : Nat) : BitVec.ofNat 32 ((if b then 1 else 0) + 2 * v) = bv1 b ^^^ (BitVec.ofNat 32 v <<< 1) := by
  apply BitVec.eq_of_getLsbD_eq
  intro i hi
  rw [BitVec.getLsbD_xor, BitVec.getLsbD_ofNat, BitVec.getLsbD_shiftLeft, BitVec.getLsbD_ofNat]
  have hb1 : (bv1 b).getLsbD i = (decide (i = 0) && b) := by
    unfold bv1
    cases b with
    | false => simp
    | true => simp [BitVec.getLsbD_one]
  rw [hb1]
  cases i with
  | zero =>
    have e : Nat.testBit ((if b then 1 else 0) + 2 * v) 0 = b := by
      rw [Nat.testBit_zero]
      cases b <;> simp <;> omega
    rw [e]
    simp
  | succ i =>
    have e : Nat.testBit ((if b then 1 else 0) + 2 * v) (i + 1) = Nat.testBit v i := by
      rw [Nat.testBit_succ]
      congr 1
      cases b <;> simp <;> omega
    rw [e]
    simp [hi, show i < 32 by omega]
theorem crcL_shl (v : Nat) (h : v < 2 ^ 31) : crcL (BitVec.ofNat 32 v <<< 1) = BitVec.ofNat 32 v := by
  unfold crcL
  rw [BitVec.getLsbD_shiftLeft]
  simp only [Nat.lt_add_one, decide_true, Bool.not_true, Bool.and_false, Bool.false_and, Bool.false_eq_true, if_false, BitVec.xor_zero]
  apply BitVec.eq_of_toNat_eq
  rw [BitVec.toNat_ushiftRight, BitVec.toNat_shiftLeft, BitVec.toNat_ofNat, Nat.shiftRight_eq_div_pow, Nat.shiftLeft_eq]
  omega
theorem crcBits_val : ∀ (l : List Bool) (s : BitVec 32), l.length ≤ 32 → crcBits s l = crcLn l.length (s ^^^ BitVec.ofNat 32 (bval l))
  | [], s, _ => by simp [crcBits, crcLn, bval]
  | b :: l, s, h => by
    have hl : l.length ≤ 31 := by simpa using h
    have hv : bval l < 2 ^ 31 := Nat.lt_of_lt_of_le (bval_lt l) (Nat.pow_le_pow_right (by omega) hl)
    have ih := crcBits_val l (crcBit s b) (by omega)
    rw [crcBits, List.foldl_cons]
    rw [crcBits] at ih
    rw [ih, List.length_cons, crcLn, bval, bv_cons, ← BitVec.xor_assoc, crcL_xor, crcL_shl _ hv]
    rfl
theorem crcBits_append (s : BitVec 32) (x y : List Bool) : crcBits s (x ++ y) = crcBits (crcBits s x) y := by simp [crcBits]
theorem crcBits_xor : ∀ (x y : List Bool) (s t : BitVec 32), x.length = y.length → crcBits s x ^^^ crcBits t y = crcBits (s ^^^ t) (List.zipWith (· != ·) x y)
  | [], [], s, t, _ => rfl
  | a :: x, b :: y, s, t, h => by
    have ih := crcBits_xor x y (crcBit s a) (crcBit t b) (by simpa using h)
    simp only [crcBits, List.foldl_cons, List.zipWith_cons_cons] at ih ⊢
    rw [ih]
    congr 1
    unfold crcBit
    rw [← crcL_xor]
    congr 1
    have : bv1 (a != b) = bv1 a ^^^ bv1 b := by cases a <;> cases b <;> decide
    rw [this, xor4]
  | [], _ :: _, _, _, h => by simp at h
  | _ :: _, [], _, _, h => by simp at h
theorem crcBits_zeros : ∀ (n : Nat) (s : BitVec 32), crcBits s (List.replicate n false) = crcLn n s
  | 0, s => rfl
  | n + 1, s => by
    have ih := crcBits_zeros n (crcBit s false)
    rw [List.replicate_succ, crcBits, List.foldl_cons]
    rw [crcBits] at ih
    rw [ih]
    simp [crcBit, bv1, crcLn]
/-- a difference within 32 bits in a row leaves a difference -/
theorem crc_burst (p q : Nat) (m : List Bool) (hm : m.length ≤ 32) (ht : true ∈ m) : crcBits 0#32 (List.replicate p false ++ m ++ List.replicate q false) ≠ 0#32 := by
  rw [crcBits_append, crcBits_append, crcBits_zeros, crcBits_zeros, crcLn_zero, crcBits_val m _ hm]
  intro h
  have h2 := crcLn_inj _ (crcLn_inj _ h)
  rw [BitVec.zero_xor] at h2
  have h3 := congrArg BitVec.toNat h2
  have hlt : bval m < 2 ^ 32 := Nat.lt_of_lt_of_le (bval_lt m) (Nat.pow_le_pow_right (by omega) hm)
  rw [BitVec.toNat_ofNat, Nat.mod_eq_of_lt hlt] at h3
  have := bval_zero m (by simpa using h3) true ht
  cases this

/-! bytes -/
def byteBits (c : UInt8) : List Bool := (List.range 8).map fun i => c.toNat.testBit i
def bitsOf (l : List UInt8) : List Bool := l.flatMap byteBits
theorem byteBits_length (c : UInt8) : (byteBits c).length = 8 := by simp [byteBits]
theorem bitsOf_length (l : List UInt8) : (bitsOf l).length = 8 * l.length := by
  induction l with
  | nil => rfl
  | cons c l ih => simp only [bitsOf, List.flatMap_cons, List.length_append, byteBits_length, List.length_cons] at *; omega
theorem bitsOf_append (x y : List UInt8) : bitsOf (x ++ y) = bitsOf x ++ bitsOf y := by simp [bitsOf]
theorem bval_byte (c : UInt8) : bval (byteBits c) = c.toNat := by
  have h : ∀ k : Fin 256, bval ((List.range 8).map fun i => k.val.testBit i) = k.val := by decide +kernel
  exact h ⟨c.toNat, c.toNat_lt⟩
def crcByte (s : BitVec 32) (c : UInt8) : BitVec 32 := crcBits s (byteBits c)
theorem crcByte_val (s : BitVec 32) (c : UInt8) : crcByte s c = crcLn 8 (s ^^^ BitVec.ofNat 32 c.toNat) := by
  unfold crcByte
  rw [crcBits_val _ _ (by rw [byteBits_length]; omega), bval_byte, byteBits_length]
def crcList (s : BitVec 32) (l : List UInt8) : BitVec 32 := l.foldl crcByte s
theorem crcList_bits : ∀ (l : List UInt8) (s : BitVec 32), crcList s l = crcBits s (bitsOf l)
  | [], _ => rfl
  | c :: l, s => by
    rw [crcList, List.foldl_cons, show bitsOf (c :: l) = byteBits c ++ bitsOf l from rfl, crcBits_append]
    exact crcList_bits l _
theorem crcList_append (s : BitVec 32) (x y : List UInt8) : crcList s (x ++ y) = crcList (crcList s x) y := by simp [crcList]

/-! by half bytes -/
def crcRows : List Nat := [0x00000000, 0x1db71064, 0x3b6e20c8, 0x26d930ac, 0x76dc4190, 0x6b6b51f4, 0x4db26158, 0x5005713c,
  0xedb88320, 0xf00f9344, 0xd6d6a3e8, 0xcb61b38c, 0x9b64c2b0, 0x86d3d2d4, 0xa00ae278, 0xbdbdf21c]
def crcRow (k : Nat) : Nat := crcRows.getD k 0
theorem crcL_even {y : BitVec 32} (h : y.getLsbD 0 = false) : crcL y = y >>> 1 := by unfold crcL; rw [h]; simp
theorem crcLn_four_even (r : BitVec 32) : crcLn 4 ((r >>> 4) <<< 4) = r >>> 4 := by
  have e : ∀ k, k < 4 → ((r >>> 4) <<< 4).getLsbD k = false := by
    intro k hk
    rw [BitVec.getLsbD_shiftLeft]
    simp [hk]
  have e1 := e 1 (by omega)
  have e2 := e 2 (by omega)
  have e3 := e 3 (by omega)
  have f1 : ((r >>> 4) <<< 4 >>> 1).getLsbD 0 = false := by rw [BitVec.getLsbD_ushiftRight]; exact e1
  have f2 : ((r >>> 4) <<< 4 >>> 1 >>> 1).getLsbD 0 = false := by rw [BitVec.getLsbD_ushiftRight, BitVec.getLsbD_ushiftRight]; exact e2
  have f3 : ((r >>> 4) <<< 4 >>> 1 >>> 1 >>> 1).getLsbD 0 = false := by rw [BitVec.getLsbD_ushiftRight, BitVec.getLsbD_ushiftRight, BitVec.getLsbD_ushiftRight]; exact e3
  show crcL (crcL (crcL (crcL ((r >>> 4) <<< 4)))) = _
  rw [crcL_even (e 0 (by omega)), crcL_even f1, crcL_even f2, crcL_even f3]
  apply BitVec.eq_of_toNat_eq
  have := r.isLt
  simp only [BitVec.toNat_ushiftRight, BitVec.toNat_shiftLeft, Nat.shiftRight_eq_div_pow, Nat.shiftLeft_eq]
  omega
theorem crc_split (r : BitVec 32) : r = ((r >>> 4) <<< 4) ^^^ BitVec.ofNat 32 (r.toNat % 16) := by
  apply BitVec.eq_of_getLsbD_eq
  intro i hi
  rw [BitVec.getLsbD_xor, BitVec.getLsbD_shiftLeft, BitVec.getLsbD_ushiftRight, BitVec.getLsbD_ofNat, show r.toNat % 16 = r.toNat % 2 ^ 4 by rfl, Nat.testBit_mod_two_pow]
  by_cases h4 : i < 4
  · simp [h4, hi, BitVec.getLsbD]
  · simp [h4, hi, show 4 + (i - 4) = i by omega]
def crcHalf (r : BitVec 32) : BitVec 32 := (r >>> 4) ^^^ BitVec.ofNat 32 (crcRow (r.toNat % 16))
theorem crcHalf_eq (r : BitVec 32) : crcHalf r = crcLn 4 r := by
  have h : ∀ k : Fin 16, BitVec.ofNat 32 (crcRow k.val) = crcLn 4 (BitVec.ofNat 32 k.val) := by decide +kernel
  have hk := h ⟨r.toNat % 16, by omega⟩
  unfold crcHalf
  rw [hk, ← crcLn_four_even r, ← crcLn_xor, ← crc_split]
theorem crcLn_add : ∀ (m n : Nat) (r : BitVec 32), crcLn (m + n) r = crcLn n (crcLn m r)
  | 0, n, r => by rw [Nat.zero_add]; rfl
  | m + 1, n, r => by rw [show m + 1 + n = (m + n) + 1 by omega, crcLn, crcLn_add m n]; rfl
theorem crcByte_half (s : BitVec 32) (c : UInt8) : crcByte s c = crcHalf (crcHalf (s ^^^ BitVec.ofNat 32 c.toNat)) := by
  rw [crcByte_val, crcHalf_eq, crcHalf_eq, ← crcLn_add 4 4]
theorem crcRow_lt (k : Nat) : crcRow k < 4294967296 := by
  by_cases h : k < 16
  · have : ∀ i : Fin 16, crcRow i.val < 4294967296 := by decide
    exact this ⟨k, h⟩
  · unfold crcRow
    rw [List.getD_eq_getElem?_getD, List.getElem?_eq_none (by simp [crcRows]; omega)]
    decide

/-! sums -/
def crcOnes : BitVec 32 := 0xffffffff#32
def crcSum (l : List UInt8) : BitVec 32 := ~~~ (crcList crcOnes l)
/-- a sum's bytes -/
def crcTail (s : BitVec 32) : List UInt8 := [UInt8.ofNat s.toNat, UInt8.ofNat (s.toNat / 256), UInt8.ofNat (s.toNat / 65536), UInt8.ofNat (s.toNat / 16777216)]
theorem bval_append : ∀ x y : List Bool, bval (x ++ y) = bval x + 2 ^ x.length * bval y
  | [], y => by simp [bval]
  | b :: x, y => by
    rw [List.cons_append, bval, bval_append x y, bval, List.length_cons, Nat.pow_succ, Nat.mul_add]
    rw [Nat.mul_comm (2 ^ x.length) 2, Nat.mul_assoc]
    omega
theorem bval_tail (s : BitVec 32) : bval (bitsOf (crcTail s)) = s.toNat := by
  have := s.isLt
  simp only [crcTail, bitsOf, List.flatMap_cons, List.flatMap_nil, List.append_nil, bval_append, byteBits_length, bval_byte, UInt8.toNat_ofNat']
  omega
/-- a frame whose sum is right leaves one and the same register -/
theorem crc_residue (l : List UInt8) : crcBits crcOnes (bitsOf (l ++ crcTail (crcSum l))) = crcLn 32 crcOnes := by
  rw [bitsOf_append, crcBits_append, ← crcList_bits l]
  have ht := crcBits_val (bitsOf (crcTail (crcSum l))) (crcList crcOnes l) (by rw [bitsOf_length]; simp [crcTail])
  rw [ht, bitsOf_length, bval_tail]
  have h : crcList crcOnes l ^^^ BitVec.ofNat 32 (crcSum l).toNat = crcOnes := by
    rw [BitVec.ofNat_toNat, BitVec.setWidth_eq]
    unfold crcSum
    apply BitVec.eq_of_getLsbD_eq
    intro i hi
    have h1 : crcOnes.getLsbD i = true := by
      have : ∀ k : Fin 32, crcOnes.getLsbD k.val = true := by decide
      exact this ⟨i, hi⟩
    rw [BitVec.getLsbD_xor, BitVec.getLsbD_not, h1]
    cases (crcList crcOnes l).getLsbD i <;> simp [hi]
  rw [h]
  rfl
/-- two frames with right sums don't differ within 32 bits in a row -/
theorem crc_two {x y : List UInt8} {p q : Nat} {m : List Bool} (hx : crcBits crcOnes (bitsOf x) = crcLn 32 crcOnes) (hy : crcBits crcOnes (bitsOf y) = crcLn 32 crcOnes) (hl : x.length = y.length)
    (hd : List.zipWith (· != ·) (bitsOf x) (bitsOf y) = List.replicate p false ++ m ++ List.replicate q false) (hm : m.length ≤ 32) (ht : true ∈ m) : False := by
  have h := crcBits_xor (bitsOf x) (bitsOf y) crcOnes crcOnes (by rw [bitsOf_length, bitsOf_length, hl])
  rw [hx, hy, BitVec.xor_self, BitVec.xor_self, hd] at h
  exact crc_burst p q m hm ht h.symm
end Go.Proofs.YtplbcbamnjnhlaaDoor
