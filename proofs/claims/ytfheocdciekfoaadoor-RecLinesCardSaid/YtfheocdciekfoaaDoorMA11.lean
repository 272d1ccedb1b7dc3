/- Texts of this proof joined: Varint, Varint2. -/
import Derived.Test.YtfheocdciekfoaaDoorMA10
/- Contracts of varint.Put, Take, and of the reference's Form, Front, for any number, any bytes, every world. -/
namespace Go.Proofs.YtfheocdciekfoaaDoor
open Go.RowKit

/-- a number's form -/
def vForm (v : Nat) : List UInt8 := if v < 128 then [UInt8.ofNat v] else UInt8.ofNat (v % 128 + 128) :: vForm (v / 128)
termination_by v
decreasing_by omega
theorem vForm_lt {v : Nat} (h : v < 128) : vForm v = [UInt8.ofNat v] := by rw [vForm, if_pos h]
theorem vForm_ge {v : Nat} (h : ¬ v < 128) : vForm v = UInt8.ofNat (v % 128 + 128) :: vForm (v / 128) := by rw [vForm, if_neg h]
theorem beBytes_one (x : Nat) (h : x < 256) : beBytes 1 x = [UInt8.ofNat x] := by simp [beBytes, bytesOfNat, digs, Nat.mod_eq_of_lt h]
theorem vForm_length (v : Nat) : ∀ k, v < 128 ^ (k + 1) → (vForm v).length ≤ k + 1 := by
  intro k
  induction k generalizing v with
  | zero => intro h; rw [vForm_lt (by simpa using h)]; simp
  | succ k ih =>
    intro h
    by_cases hv : v < 128
    · rw [vForm_lt hv]; simp
    · rw [vForm_ge hv, List.length_cons]
      have := ih (v / 128) (by rw [Nat.pow_succ] at h; omega)
      omega

set_option maxRecDepth 100000 in
theorem put_any (g v : Nat) (l : List UInt8) (w : World) (hw : WrR w g l) (hl : l.length ≤ 549755813888) (hv : v < 18446744073709551616) :
    Calls Tryd.prog 68 #[.pointer (some ⟨g, 0, none⟩), .int .u64 v] w fun e w' => e = .returned (.tuple #[]) ∧ WrR w' g (l ++ vForm v) ∧ Keep g w w' := by
  have HW := Lib.hid hw
  have hlf := vForm_length v 9 (by omega)
  clear hw
  go_enter Tryd.func68, Tryd.ntmps68
  go_wp2_with fail
  go_loopw [1] (fun v1 wr => ∃ (x : Nat) (t : List UInt8), v1 = .int .u64 x ∧ x < 18446744073709551616 ∧ Hid (t ++ vForm x = vForm v) ∧ t.length ≤ 10 ∧ WrR wr g (l ++ t) ∧ Keep g w wr) (fun v1 _ => (intOf v1).toNat)
  case atStart => exact ⟨v, [], rfl, hv, rfl, by simp, by simpa using HW.out, Keep.refl g w (Nat.le_of_lt HW.out.lt)⟩
  case round =>
    obtain ⟨x, t, rfl, hx64, ht, htl, hwr, hk⟩ := hrel
    have HR := Lib.hid hwr
    clear hwr
    have hlen : (l ++ t).length ≤ 1099511627776 := by rw [List.length_append]; omega
    by_cases hlt : x < 128
    · have HF := Lib.hid (vForm_lt hlt)
      go_wp2_with fail
      refine (num_any g 1 x (l ++ t) wr HR.out (by omega) (by omega) (by omega) hlen).mono ?_
      rintro e w2 ⟨rfl, h1, h2⟩
      have H1 := Lib.hid h1
      have H2 := Lib.hid h2
      clear h1 h2
      go_wp2
      go_end0
      refine ⟨rfl, ?_, hk.trans H2.out⟩
      have := H1.out
      rw [beBytes_one x (by omega), ← HF.out, List.append_assoc, ht.out] at this
      exact this
    · have HF := Lib.hid (vForm_ge hlt)
      have htl2 : t.length + 1 ≤ 10 := by
        have h1 := congrArg List.length ht.out
        rw [HF.out] at h1
        have h2 : 1 ≤ (vForm (x / 128)).length := by rw [vForm]; split <;> simp
        simp at h1
        omega
      go_wp2_with fail
      refine (num_any g 1 (x % 128 + 128) (l ++ t) wr HR.out (by omega) (by omega) (by omega) hlen).mono ?_
      rintro e w2 ⟨rfl, h1, h2⟩
      have H1 := Lib.hid h1
      have H2 := Lib.hid h2
      clear h1 h2
      go_wp2
      go_roundw
      case rel =>
        refine ⟨x / 128, t ++ [UInt8.ofNat (x % 128 + 128)], by rfl, by omega, ?_, by simp; omega, ?_, hk.trans H2.out⟩
        · show _ = _
          rw [← ht.out, HF.out]
          simp
        · have := H1.out
          rw [beBytes_one _ (by omega), List.append_assoc] at this
          exact this
      case measure => simp [intOf]; omega

set_option maxRecDepth 100000 in
theorem form_any (v : Nat) (w : World) (hv : v < 18446744073709551616) :
    Calls Tryd.prog 85 #[.int .u64 v] w fun e w' => ∃ u, e = .returned u ∧ w'.ownsRow w.heap.size 5 1 u (vForm v).length (bcells (vForm v)) ∧ Below w.heap.size w w' := by
  have hlf := vForm_length v 9 (by omega)
  go_enter Tryd.func85, Tryd.ntmps85
  go_wp2_with fail
  go_loopw [0, 3] (fun v0 v3 wr => ∃ (x : Nat) (t : List UInt8), v0 = .int .u64 x ∧ x < 18446744073709551616 ∧ Hid (t ++ vForm x = vForm v) ∧ t.length ≤ 10 ∧ wr.ownsRow w.heap.size 5 1 v3 t.length (bcells t) ∧ Below w.heap.size w wr) (fun v0 _ _ => (intOf v0).toNat)
  case atStart => exact ⟨v, [], rfl, hv, rfl, by simp, World.ownsRow_nil _ _ _ _, Below.refl _ _⟩
  case round =>
    obtain ⟨x, t, rfl, hx64, ht, htl, hown, hbr⟩ := hrel
    have hsz := hbr.size
    by_cases hlt : x < 128
    · have HF := Lib.hid (vForm_lt hlt)
      go_wp2_with (at_builtin; refine wpList_app u8_ty rfl rfl rfl rfl (hown.alloc _) (Rd.row (B := wr.heap.size + 1) (Go.heap_alloc_new wr _) (by omega)) rfl (by simp [Value.oneCell']) ?h63 ?hby ?hbase ?_)
      case h63 => simp only [maxLen]; omega
      case hby => omega
      case hbase => simp; omega
      intro v1 w3 hown3 hg3 _ _
      have HO := Lib.hid hown3
      have HG := Lib.hid hg3
      clear hown3 hg3
      go_wp2
      go_ret
      refine ⟨v1, rfl, ?_, grown_below (hbr.alloc hsz _) HG.out (hown.alloc _) (Nat.le_refl _) (by simp; omega)⟩
      have h1 := HO.out
      have h2 : [Value.int .u8 (x : Int)] = bcells [UInt8.ofNat x] := by simp [bcells, bcell]; omega
      rw [h2, ← bcells_append, ← HF.out, ht.out] at h1
      have h3 := congrArg List.length ht.out
      rw [HF.out] at h3
      simp at h3
      rw [h3] at h1
      exact h1
    · have HF := Lib.hid (vForm_ge hlt)
      have htl2 : t.length + 1 ≤ 10 := by
        have h1 := congrArg List.length ht.out
        rw [HF.out] at h1
        have h2 : 1 ≤ (vForm (x / 128)).length := by rw [vForm]; split <;> simp
        simp at h1
        omega
      go_wp2_with (at_builtin; refine wpList_app u8_ty rfl rfl rfl rfl (hown.alloc _) (Rd.row (B := wr.heap.size + 1) (Go.heap_alloc_new wr _) (by omega)) rfl (by simp [Value.oneCell']) ?h63 ?hby ?hbase ?_)
      case h63 => simp only [maxLen]; omega
      case hby => omega
      case hbase => simp; omega
      intro v1 w3 hown3 hg3 _ _
      have HO := Lib.hid hown3
      have HG := Lib.hid hg3
      clear hown3 hg3
      go_wp2
      go_roundw
      case rel =>
        refine ⟨x / 128, t ++ [UInt8.ofNat (x % 128 + 128)], by rfl, by omega, ?_, by simp; omega, ?_, grown_below (hbr.alloc hsz _) HG.out (hown.alloc _) (Nat.le_refl _) (by simp; omega)⟩
        · show _ = _
          rw [← ht.out, HF.out]
          simp
        · rw [bcells_append, List.length_append]
          have h1 := HO.out
          have h2 : [Value.int .u8 ((x : Int) % 128 + 128)] = bcells [UInt8.ofNat (x % 128 + 128)] := by simp [bcells, bcell]; omega
          rw [h2] at h1
          exact h1
      case measure => simp [intOf]; omega

/-- the number whose form begins with these bytes, i bytes of it read already, and how long the form is -/
def vFrom : List UInt8 → Nat → Nat → Option (Nat × Nat)
  | [], _, _ => none
  | c :: r, i, v => if 10 ≤ i then none else if (i = 9 ∧ 1 < c.toNat) ∨ (0 < i ∧ c.toNat = 0) then none
      else if c.toNat < 128 then some (v + c.toNat * 128 ^ i, i + 1) else vFrom r (i + 1) (v + c.toNat % 128 * 128 ^ i)
def VTo (g : Nat) (l : List UInt8) (a most : Nat) (w : World) (e : Ending) (w' : World) : Prop :=
  w.grownBy w' (some g) ∧ ((∃ v k, vFrom (l.drop a) 0 0 = some (v, k) ∧ v ≤ most ∧ e = .returned (.int .u64 (v : Nat)) ∧ RdrR w' g l (a + k) false) ∨
    ((∀ v k, vFrom (l.drop a) 0 0 = some (v, k) → most < v) ∧ e = .returned (.int .u64 0) ∧ ∃ a', RdrR w' g l a' true))
theorem num1_ok (g : Nat) (l : List UInt8) (a : Nat) (w : World) (h : RdrR w g l a false) (hn : a < l.length) :
    Calls Tryd.prog 79 #[.pointer (some ⟨g, 0, none⟩), .int .i64 1] w fun e w' => e = .returned (.int .u64 (l[a].toNat : Nat)) ∧ RdrR w' g l (a + 1) false ∧ w.grownBy w' (some g) := by
  refine (num_ok g l a 1 w h (by omega) (by omega) (by omega)).mono ?_
  rintro e w' ⟨rfl, h1, h2⟩
  refine ⟨rt1 (vint ?_), h1, h2⟩
  rw [List.drop_eq_getElem_cons hn, List.take_succ_cons]
  simp [beVal]
theorem vFrom_ten (l : List UInt8) (V : Nat) : vFrom l 10 V = none := by cases l <;> simp [vFrom]
theorem vFrom_step (l : List UInt8) (i k V : Nat) (h : i < l.length) : vFrom (l.drop i) k V = if 10 ≤ k then none else if (k = 9 ∧ 1 < l[i].toNat) ∨ (0 < k ∧ l[i].toNat = 0) then none
      else if l[i].toNat < 128 then some (V + l[i].toNat * 128 ^ k, k + 1) else vFrom (l.drop (i + 1)) (k + 1) (V + l[i].toNat % 128 * 128 ^ k) := by
  rw [List.drop_eq_getElem_cons h, vFrom]
theorem or_var (V x k : Nat) (hV : V < 128 ^ k) (hx : x < 256) (hk : k ≤ 9) (hbad : ¬ ((k = 9 ∧ 1 < x) ∨ (0 < k ∧ x = 0))) :
    bits .or .u64 (V : Int) (IntKind.u64.wrap ((x : Int) % 128 * 2 ^ (7 * k))) = ((V + x % 128 * 128 ^ k : Nat) : Int) ∧ V + x % 128 * 128 ^ k < 128 ^ (k + 1) ∧ V + x % 128 * 128 ^ k < 18446744073709551616 := by
  have hp : (128 : Nat) ^ k = 2 ^ (7 * k) := by rw [show (128 : Nat) = 2 ^ 7 by decide, ← Nat.pow_mul]
  have h1 : V + x % 128 * 128 ^ k < 128 ^ (k + 1) := by
    have : x % 128 * 128 ^ k ≤ 127 * 128 ^ k := Nat.mul_le_mul_right _ (by omega)
    rw [Nat.pow_succ]; omega
  have h2 : x % 128 * 128 ^ k < 9223372036854775809 ∧ V + x % 128 * 128 ^ k < 18446744073709551616 := by
    by_cases h9 : k = 9
    · subst h9
      have hx1 : x ≤ 1 := by omega
      have : x % 128 ≤ 1 := by omega
      have h3 : x % 128 * 128 ^ 9 ≤ 1 * 128 ^ 9 := Nat.mul_le_mul_right _ this
      have e9 : (128 : Nat) ^ 9 = 9223372036854775808 := by decide
      rw [e9] at h3 hV ⊢
      omega
    · have : (128 : Nat) ^ (k + 1) ≤ 128 ^ 9 := Nat.pow_le_pow_right (by omega) (by omega)
      have e9 : (128 : Nat) ^ 9 = 9223372036854775808 := by decide
      omega
  refine ⟨?_, h1, h2.2⟩
  have e : ((x : Int) % 128 * 2 ^ (7 * k)) = ((x % 128 * 128 ^ k : Nat) : Int) := by rw [hp]; simp
  rw [e, IntKind.wrap_u64, Int.emod_eq_of_lt (by omega) (by omega), u64_or_nat _ _ (by omega) (by omega)]
  congr 1
  have h3 := Nat.shiftLeft_add_eq_or_of_lt (a := x % 128) (b := V) (i := 7 * k) (by rw [← hp]; exact hV)
  rw [Nat.shiftLeft_eq, ← hp] at h3
  rw [Nat.or_comm, ← h3, Nat.add_comm]
set_option maxRecDepth 100000 in
set_option maxHeartbeats 1000000 in
theorem take_var (g : Nat) (l : List UInt8) (a most : Nat) (w : World) (h : RdrR w g l a false) (hm : most < 18446744073709551616) :
    Calls Tryd.prog 101 #[.pointer (some ⟨g, 0, none⟩), .int .u64 most] w (VTo g l a most w) := by
  have H := Lib.hid h
  have HM := Lib.hid hm
  clear h hm
  go_enter Tryd.func101, Tryd.ntmps101
  go_wp2_with fail
  go_step3
  go_wp2_with fail
  go_step3
  go_wp2_with fail
  go_loopw [5, 6, 9] (fun v5 v6 v9 wr => ∃ k V : Nat, k ≤ 10 ∧ v9 = .int .i64 k ∧ v5 = .int .u64 V ∧ v6 = .bool false ∧ Hid (V < 128 ^ k) ∧ Hid (RdrR wr g l (a + k) false) ∧ Hid (w.grownBy wr (some g)) ∧ Hid (vFrom (l.drop (a + k)) k V = vFrom (l.drop a) 0 0)) (fun _ _ v9 _ => 10 - (intOf v9).toNat)
  case atStart => exact ⟨0, 0, by omega, rfl, rfl, rfl, by show _ < _; simp, H.out, grown_refl _ _, rfl⟩
  case round =>
    obtain ⟨k, V, hk, rfl, rfl, rfl, hV, HR, HG, HF⟩ := hrel
    have ha : a + k ≤ l.length := by obtain ⟨_, _, _, _, _, _, h5⟩ := HR.out; exact h5
    by_cases h10 : k = 10
    · subst h10
      have HN := Lib.hid (show vFrom (l.drop a) 0 0 = none by rw [← HF.out, vFrom_ten])
      go_wp2_with fail
      refine (spend_any g l _ _ wr HR.out).mono ?_
      rintro e w3 ⟨rfl, h1, h2⟩
      have H3 := Lib.hid h1
      have H4 := Lib.hid (grown_trans HG.out h2)
      clear h1 h2
      go_wp2
      rw [Exit.noGoto_ret]
      go_ret
      exact ⟨H4.out, .inr ⟨(fun v k h => by rw [HN.out] at h; cases h), rfl, _, H3.out⟩⟩
    · by_cases hlt : a + k < l.length
      · go_wp2_with fail
        refine (num1_ok g l (a + k) wr HR.out hlt).mono ?_
        rintro e w2 ⟨rfl, h1, h2⟩
        have H1 := Lib.hid h1
        have H2 := Lib.hid (grown_trans HG.out h2)
        clear h1 h2
        go_wp2_with fail
        refine (spent_any g l (a + k + 1) false w2 H1.out).mono ?_
        rintro e w3 ⟨rfl, rfl⟩
        have HS := Lib.hid (vFrom_step l (a + k) k V hlt)
        obtain ⟨x, hx⟩ : ∃ x, x = l[a + k].toNat := ⟨_, rfl⟩
        rw [← hx] at HS ⊢
        have hx8 : x < 256 := by rw [hx]; exact l[a + k].toNat_lt
        clear hx
        have hk9 : k ≤ 9 := by omega
        clear hk h10
        by_cases hbad : (k = 9 ∧ 1 < x) ∨ (0 < k ∧ x = 0)
        · have HN := Lib.hid (show vFrom (l.drop a) 0 0 = none by rw [← HF.out, HS.out, if_neg (by omega), if_pos hbad])
          have HB := Lib.hid hbad
          clear hbad
          rcases Bool.eq_false_or_eq_true (((k : Nat) : Int) == 9) with b9 | b9 <;> rcases Bool.eq_false_or_eq_true (decide ((1 : Int) < (x : Nat))) with c1 | c1 <;>
            rcases Bool.eq_false_or_eq_true (decide (0 < k)) with b0 | b0 <;> rcases Bool.eq_false_or_eq_true (((x : Nat) : Int) == 0) with c0 | c0
          all_goals try (exfalso; have hb := HB.out; clear HS HF HN HR HG H HM hV; simp only [beq_iff_eq, beq_eq_false_iff_ne, decide_eq_true_eq, decide_eq_false_iff_not, ne_eq] at b9 c1 b0 c0; omega)
          all_goals
            go_wp2_with fail
            refine (spend_any g l _ _ w2 H1.out).mono ?_
            rintro e w3 ⟨rfl, h1, h2⟩
            have H3 := Lib.hid h1
            have H4 := Lib.hid (grown_trans H2.out h2)
            clear h1 h2
            go_wp2
            rw [Exit.noGoto_ret]
            go_ret
            exact ⟨H4.out, .inr ⟨(fun v k h => by rw [HN.out] at h; cases h), rfl, _, H3.out⟩⟩
        · obtain ⟨ho, hv1, hv2⟩ := or_var V x k hV.out hx8 hk9 hbad
          obtain ⟨V', hV'⟩ : ∃ V', V' = V + x % 128 * 128 ^ k := ⟨_, rfl⟩
          rw [← hV'] at ho hv1 hv2
          have HV' := Lib.hid hV'
          have HV1 := Lib.hid hv1
          have HB := Lib.hid hbad
          clear hV' hv1 hbad
          by_cases hx128 : x < 128
          · have HN := Lib.hid (show vFrom (l.drop a) 0 0 = some (V', k + 1) by rw [← HF.out, HS.out, if_neg (by omega), if_neg HB.out, if_pos hx128, HV'.out, Nat.mod_eq_of_lt hx128])
            have c2 : decide ((x : Int) < 128) = true := by simp; omega
            rcases Bool.eq_false_or_eq_true (((k : Nat) : Int) == 9) with b9 | b9 <;> rcases Bool.eq_false_or_eq_true (decide ((1 : Int) < (x : Nat))) with c1 | c1 <;>
              rcases Bool.eq_false_or_eq_true (decide (0 < k)) with b0 | b0 <;> rcases Bool.eq_false_or_eq_true (((x : Nat) : Int) == 0) with c0 | c0
            all_goals try (exfalso; have hb := HB.out; clear HS HF HN HR HG H HM hV ho HV' HV1 c2; simp only [beq_iff_eq, beq_eq_false_iff_ne, decide_eq_true_eq, decide_eq_false_iff_not, ne_eq] at b9 c1 b0 c0; omega)
            all_goals
              rcases Nat.lt_or_ge most V' with hmv | hmv
              · have hmb : decide (most < V') = true := by simpa using hmv
                go_wp2_with fail
                refine (spend_any g l _ _ w2 H1.out).mono ?_
                rintro e w3 ⟨rfl, h1, h2⟩
                have H3 := Lib.hid h1
                have H4 := Lib.hid (grown_trans H2.out h2)
                clear h1 h2
                go_wp2
                rw [Exit.noGoto_ret]
                go_ret
                exact ⟨H4.out, .inr ⟨(fun v k h => by rw [HN.out] at h; injection h with h; injection h with h; omega), rfl, _, H3.out⟩⟩
              · have hmb : decide (most < V') = false := by simpa using hmv
                go_wp2
                rw [Exit.noGoto_ret]
                go_ret
                exact ⟨H2.out, .inl ⟨V', k + 1, HN.out, hmv, rfl, H1.out⟩⟩
          · have HN := Lib.hid (show vFrom (l.drop (a + (k + 1))) (k + 1) V' = vFrom (l.drop a) 0 0 by rw [← HF.out, HS.out, if_neg (by omega), if_neg HB.out, if_neg hx128, HV'.out]; rfl)
            have c2 : decide ((x : Int) < 128) = false := by simp; omega
            have hkx : k ≠ 9 := by intro h; exact HB.out (.inl ⟨h, by omega⟩)
            have c1 : decide ((1 : Int) < (x : Nat)) = true := by simp; omega
            have b9 : (((k : Nat) : Int) == 9) = false := by rw [beq_eq_false_iff_ne]; omega
            have c0 : (((x : Nat) : Int) == 0) = false := by rw [beq_eq_false_iff_ne]; omega
            rcases Bool.eq_false_or_eq_true (decide (0 < k)) with b0 | b0
            all_goals
              go_wp2
              go_roundw
              case rel => exact ⟨k + 1, V', by omega, by go_num, rfl, rfl, HV1.out, H1.out, H2.out, HN.out⟩
              case measure => simp [intOf]; omega
      · go_wp2_with fail
        refine (num_no g l (a + k) false 1 wr HR.out (by omega) (by omega) (.inr (by omega))).mono ?_
        rintro e w2 ⟨rfl, h1, h2⟩
        have H1 := Lib.hid h1
        have H2 := Lib.hid (grown_trans HG.out h2)
        clear h1 h2
        go_wp2_with fail
        refine (spent_any g l (a + k) true w2 H1.out).mono ?_
        rintro e w3 ⟨rfl, rfl⟩
        have HN := Lib.hid (show vFrom (l.drop a) 0 0 = none by rw [← HF.out, List.drop_eq_nil_of_le (by omega)]; rfl)
        go_wp2
        rw [Exit.noGoto_ret]
        go_ret
        exact ⟨H2.out, .inr ⟨(fun v k h => by rw [HN.out] at h; cases h), rfl, _, H1.out⟩⟩
end Go.Proofs.YtfheocdciekfoaaDoor
/- Contracts of the reference's pow and Front (02), for any bytes, every world. -/
namespace Go.Proofs.YtfheocdciekfoaaDoor
open Go.RowKit

theorem pow_any (i : Nat) (w : World) (hi : i ≤ 9) :
    Calls Tryd.prog 106 #[.int .i64 i] w fun e w' => e = .returned (.int .u64 (128 ^ i : Nat)) ∧ w = w' := by
  go_enter Tryd.func106, Tryd.ntmps106
  go_wp2_with fail
  go_loop [3, 4] (fun v3 v4 => ∃ j p : Nat, j ≤ i ∧ v4 = .int .i64 j ∧ v3 = .int .u64 p ∧ Hid (p = 128 ^ j)) (fun _ v4 => i - (intOf v4).toNat)
  case atStart => exact ⟨0, 1, by omega, rfl, rfl, rfl⟩
  case round =>
    obtain ⟨j, p, hj, rfl, rfl, hp⟩ := hrel
    by_cases hlt : j < i
    · have hp2 : p * 128 ≤ 9223372036854775808 := by
        rw [hp.out, ← Nat.pow_succ]
        have : (128 : Nat) ^ (j + 1) ≤ 128 ^ 9 := Nat.pow_le_pow_right (by omega) (by omega)
        have e9 : (128 : Nat) ^ 9 = 9223372036854775808 := by decide
        show 128 ^ (j + 1) ≤ _
        omega
      go_wp2
      go_round
      case rel =>
        refine ⟨j + 1, p * 128, by omega, by go_num, by first | rfl | go_num, ?_⟩
        show _ = _
        rw [hp.out, Nat.pow_succ]
      case measure => simp [intOf]; omega
    · have hji : j = i := by omega
      subst hji
      go_wp2
      go_ret
      exact ⟨rt1 (vint (by rw [hp.out]; simp)), rfl⟩
theorem wrap_var (V x k : Nat) (h : V + x % 128 * 128 ^ k < 18446744073709551616) : IntKind.u64.wrap ((V : Int) + IntKind.u64.wrap ((x : Int) % 128 * 128 ^ k)) = ((V + x % 128 * 128 ^ k : Nat) : Int) := by
  have e : ((x : Int) % 128 * 128 ^ k) = ((x % 128 * 128 ^ k : Nat) : Int) := by simp
  rw [e, IntKind.wrap_u64, IntKind.wrap_u64, Int.emod_eq_of_lt (b := 18446744073709551616) (by omega) (by omega), Int.emod_eq_of_lt (by omega) (by omega)]
  omega
/-- a number's front, as the reference tells it -/
def frontVal (r : Option (Nat × Nat)) : Value := match r with | some (v, k) => .tuple #[.int .u64 (v : Nat), .int .i64 (k : Nat)] | none => .tuple #[.int .u64 0, .int .i64 0]
set_option maxRecDepth 100000 in
set_option maxHeartbeats 1000000 in
theorem refFront2_any (l : List UInt8) (A : Option Addr) (c B : Nat) (w : World) (hr : Rd w B A (bcells l)) (hl : l.length ≤ 1099511627776) :
    Calls Tryd.prog 89 #[.slice A l.length c] w fun e w' => e = .returned (frontVal (vFrom l 0 0)) ∧ w = w' := by
  have HR := Lib.hid hr
  clear hr
  go_enter Tryd.func89, Tryd.ntmps89
  go_wp2_with fail
  go_loop [4, 5] (fun v4 v5 => ∃ k V : Nat, k ≤ 10 ∧ k ≤ l.length ∧ v5 = .int .i64 k ∧ v4 = .int .u64 V ∧ Hid (V < 128 ^ k) ∧ Hid (vFrom (l.drop k) k V = vFrom l 0 0)) (fun _ v5 => 10 - (intOf v5).toNat)
  case atStart => exact ⟨0, 0, by omega, by omega, rfl, rfl, by show _ < _; simp, rfl⟩
  case round =>
    obtain ⟨k, V, hk, hkl, rfl, rfl, hV, HF⟩ := hrel
    by_cases hend : k = 10 ∨ k = l.length
    · have HN := Lib.hid (show vFrom l 0 0 = none by
        rw [← HF.out]
        rcases hend with h | h
        · subst h; rw [vFrom_ten]
        · rw [List.drop_eq_nil_of_le (by omega)]; rfl)
      rcases Nat.lt_or_ge k l.length with h1 | h1
      · have h2 : ¬ k < 10 := by omega
        go_wp2
        go_ret2
        exact ⟨by rw [HN.out]; rfl, rfl⟩
      · have h2 : ¬ k < l.length := by omega
        go_wp2
        go_ret2
        exact ⟨by rw [HN.out]; rfl, rfl⟩
    · have hk9 : k ≤ 9 := by omega
      have hlt : k < l.length := by omega
      clear hend hk
      obtain ⟨ab, ao, rfl, hab, hcell⟩ := HR.out.byte hlt
      have HS := Lib.hid (vFrom_step l k k V hlt)
      obtain ⟨x, hx⟩ : ∃ x, x = l[k].toNat := ⟨_, rfl⟩
      rw [← hx] at HS hcell
      have hx8 : x < 256 := by rw [hx]; exact l[k].toNat_lt
      clear hx
      by_cases hbad : (k = 9 ∧ 1 < x) ∨ (0 < k ∧ x = 0)
      · have HN := Lib.hid (show vFrom l 0 0 = none by rw [← HF.out, HS.out, if_neg (by omega), if_pos hbad])
        have HB := Lib.hid hbad
        clear hbad
        rcases Bool.eq_false_or_eq_true (((k : Nat) : Int) == 9) with b9 | b9 <;> rcases Bool.eq_false_or_eq_true (decide ((1 : Int) < (x : Nat))) with c1 | c1 <;>
          rcases Bool.eq_false_or_eq_true (decide (0 < k)) with b0 | b0 <;> rcases Bool.eq_false_or_eq_true (((x : Nat) : Int) == 0) with c0 | c0
        all_goals try (exfalso; have hb := HB.out; clear HS HF HN HR hV hcell; simp only [beq_iff_eq, beq_eq_false_iff_ne, decide_eq_true_eq, decide_eq_false_iff_not, ne_eq] at b9 c1 b0 c0; omega)
        all_goals
          go_wp2
          go_ret2
          exact ⟨by rw [HN.out]; rfl, rfl⟩
      · obtain ⟨_, hv1, hv2⟩ := or_var V x k hV.out hx8 hk9 hbad
        have HB := Lib.hid hbad
        have HX := Lib.hid (wrap_var V x k hv2)
        have HV1 := Lib.hid hv1
        clear hbad hv1 hv2
        rcases Bool.eq_false_or_eq_true (decide ((x : Int) < 128)) with c2 | c2 <;> rcases Bool.eq_false_or_eq_true (((k : Nat) : Int) == 9) with b9 | b9 <;> rcases Bool.eq_false_or_eq_true (decide ((1 : Int) < (x : Nat))) with c1 | c1 <;>
          rcases Bool.eq_false_or_eq_true (decide (0 < k)) with b0 | b0 <;> rcases Bool.eq_false_or_eq_true (((x : Nat) : Int) == 0) with c0 | c0
        all_goals try (exfalso; have hb := HB.out; clear HS HF HR hV hcell HX HV1; simp only [beq_iff_eq, beq_eq_false_iff_ne, decide_eq_true_eq, decide_eq_false_iff_not, ne_eq] at b9 c1 b0 c0 c2; omega)
        all_goals
          go_wp2_with fail
          refine (pow_any k w hk9).mono ?_
          rintro e w1 ⟨rfl, rfl⟩
          go_wp2
          first
          | (go_ret2
             refine ⟨?_, rfl⟩
             have h1 : x < 128 := by have := of_decide_eq_true c2; omega
             have hN : vFrom l 0 0 = some (V + x % 128 * 128 ^ k, k + 1) := by rw [← HF.out, HS.out, if_neg (by omega), if_neg HB.out, if_pos h1, Nat.mod_eq_of_lt h1]
             rw [hN]
             exact rt2 (vint HX.out) (by go_num))
          | (go_round
             case rel =>
               have h1 : ¬ x < 128 := by have := of_decide_eq_false c2; omega
               have hk : k ≠ 9 := by have := beq_eq_false_iff_ne.1 b9; omega
               refine ⟨k + 1, V + x % 128 * 128 ^ k, by omega, by omega, by go_num, vint HX.out, HV1.out, ?_⟩
               show _ = _
               rw [← HF.out, HS.out, if_neg (by omega), if_neg HB.out, if_neg h1]
             case measure => simp [intOf]; omega)
end Go.Proofs.YtfheocdciekfoaaDoor
