/- Contracts of frame.Open and of the reference's Front (07), for any bytes, every world. -/
import Derived.Test.YtfheocdciekfoaaDoorFront
namespace Go.Proofs.YtfheocdciekfoaaDoor
open Go.RowKit

/-- the load of a frame -/
def frameOpen (l : List UInt8) : Option (UInt8 × List UInt8) := match frameParse l with
  | some (k, load, n) => if n = l.length then some (k, load) else none
  | none => none
def OpenTo (w : World) (r : Option (UInt8 × List UInt8)) (e : Ending) (w' : World) : Prop :=
  Below w.heap.size w w' ∧ match r with
  | none => ∃ x : Int, x ≠ 0 ∧ 0 ≤ x ∧ x ≤ 100 ∧ e = .returned (.tuple #[.int .u8 0, .slice none 0 0, .int .i64 x])
  | some (k, load) => ∃ A c, e = .returned (.tuple #[.int .u8 (k.toNat : Nat), .slice A load.length c, .int .i64 0]) ∧ Rd w' w'.heap.size A (bcells load)
theorem frameParse_le {l : List UInt8} {k : UInt8} {load : List UInt8} {n : Nat} (h : frameParse l = some (k, load, n)) : n ≤ l.length := by
  cases l with
  | nil => cases h
  | cons a r =>
    rw [frameParse_cons] at h
    split at h
    · cases h
    · split at h
      · rename_i hc
        injection h with h
        injection h with h1 h2
        injection h2 with h2 h3
        omega
      · cases h
set_option maxRecDepth 100000 in
theorem open_any (l : List UInt8) (A : Option Addr) (c B : Nat) (w : World) (hr : Rd w B A (bcells l)) (hB : B ≤ w.heap.size) (hl : l.length ≤ 68719476736) (hc : l.length ≤ c) :
    Calls Tryd.prog 45 #[.slice A l.length c] w (OpenTo w (frameOpen l)) := by
  have HR := Lib.hid hr
  clear hr
  go_enter Tryd.func45, Tryd.ntmps45
  go_wp2_with fail
  refine (front_any l A c B w HR.out hB hl hc).mono ?_
  rintro e w1 ⟨hb, hm⟩
  have B1 := Lib.hid hb
  clear hb
  cases hf : frameParse l with
  | none =>
    rw [hf] at hm
    obtain ⟨x, h0, h1, h2, rfl⟩ := hm
    have HO := Lib.hid (show frameOpen l = none by unfold frameOpen; rw [hf])
    have hx : (x != 0) = true := by simpa using h0
    clear hf
    go_wp2
    go_ret3
    refine ⟨B1.out, ?_⟩
    rw [HO.out]
    exact ⟨x, h0, h1, h2, rfl⟩
  | some p =>
    obtain ⟨k, load, n⟩ := p
    have hle := frameParse_le hf
    rw [hf] at hm
    obtain ⟨A1, c1, rfl, hrd⟩ := hm
    have HRD := Lib.hid hrd
    have HF := Lib.hid hf
    clear hrd hf
    have hk8 := k.toNat_lt
    by_cases hn : n = l.length
    · have HO := Lib.hid (show frameOpen l = some (k, load) by unfold frameOpen; rw [HF.out]; simp only; rw [if_pos hn])
      have hnl : ¬ n < l.length := by omega
      clear hn
      go_wp2
      go_ret3
      refine ⟨B1.out, ?_⟩
      rw [HO.out]
      exact ⟨A1, c1, rfl, HRD.out⟩
    · have HO := Lib.hid (show frameOpen l = none by unfold frameOpen; rw [HF.out]; simp only; rw [if_neg hn])
      have hnl : n < l.length := by omega
      clear hn
      go_wp2
      go_ret3
      refine ⟨B1.out, ?_⟩
      rw [HO.out]
      exact ⟨5, by omega, by omega, by omega, rfl⟩
theorem four_eq (l : List UInt8) (E : Nat) (h : E + 4 ≤ l.length) (s : BitVec 32) : ((l.drop E).take 4 = crcTail s) ↔ (l[E].toNat = s.toNat % 256 ∧ l[E + 1].toNat = s.toNat / 256 % 256 ∧ l[E + 2].toNat = s.toNat / 65536 % 256 ∧ l[E + 3].toNat = s.toNat / 16777216 % 256) := by
  rw [List.drop_eq_getElem_cons (by omega), List.drop_eq_getElem_cons (i := E + 1) (by omega), List.drop_eq_getElem_cons (i := E + 1 + 1) (by omega), List.drop_eq_getElem_cons (i := E + 1 + 1 + 1) (by omega)]
  simp only [List.take_succ_cons, List.take_zero, crcTail, List.cons.injEq, and_true]
  simp only [← UInt8.toNat_inj, UInt8.toNat_ofNat']
set_option maxRecDepth 100000 in
set_option maxHeartbeats 2000000 in
theorem refFront_any (l : List UInt8) (A : Option Addr) (c B : Nat) (w : World) (hr : Rd w B A (bcells l)) (hB : B ≤ w.heap.size) (hl : l.length ≤ 68719476736) (hc : l.length ≤ c) :
    Calls Tryd.prog 51 #[.slice A l.length c] w (FrontTo w (frameParse l)) := by
  have HR := Lib.hid hr
  clear hr
  cases l with
  | nil =>
    go_enter Tryd.func51, Tryd.ntmps51
    go_wp2
    refine bodyPost_ret (results_tmp4 rfl _ _ _) rfl ?_
    exact FrontTo.no rfl (Below.refl _ _) 2 (by omega) (by omega) (by omega) rfl
  | cons kb r =>
    have HP := Lib.hid (frameParse_cons kb r)
    obtain ⟨l, hle⟩ : ∃ l, l = kb :: r := ⟨_, rfl⟩
    rw [← hle] at HR HP hl hc ⊢
    have h0 : 0 < l.length := by rw [hle]; simp
    have hkb : l[0] = kb := by subst hle; rfl
    have hdr : l.drop 1 = r := by subst hle; rfl
    have hlr : l.length - 1 = r.length := by subst hle; simp
    have HKB := Lib.hid hkb
    have HDR := Lib.hid hdr
    clear hle hkb hdr
    have hne : ((l.length : Int) == 0) = false := by rw [beq_eq_false_iff_ne]; omega
    have hu1 : ∀ w : World, (Instr.sliceAt 34 (.slice A l.length c) (some (.int .i64 1)) none none).run Tryd.prog w = .ok (.slice (cutA A c 1) r.length (c - 1)) w := fun w => by have := u8_from A l.length c 1 (by omega) w; rw [hlr] at this; exact this
    have HLR := Lib.hid hlr
    clear hlr
    go_enter Tryd.func51, Tryd.ntmps51
    go_wp2_with fail
    refine (refFront2_any r (cutA A c 1) (c - 1) B w (by have := HR.out.cut 1 c hc; rw [HDR.out] at this; exact this) (by have := HLR.out; omega)).mono ?_
    rintro e w1 ⟨rfl, rfl⟩
    cases hv : vFrom r 0 0 with
    | none =>
      have HN := Lib.hid (show frameParse l = none by rw [HP.out, hv])
      clear hv
      have hfv : frontVal none = .tuple #[.int .u64 0, .int .i64 0] := rfl
      rw [hfv]
      clear hfv
      go_wp2_with fail
      go_loop [8] (fun v8 => ∃ i : Nat, 1 ≤ i ∧ i ≤ l.length ∧ v8 = .int .i64 i) (fun v8 => l.length - (intOf v8).toNat)
      case atStart => exact ⟨1, by omega, by omega, rfl⟩
      case round =>
        obtain ⟨i, hi1, hi, rfl⟩ := hrel
        by_cases hlt : i < l.length
        · obtain ⟨ab, ao, rfl, hab, hcell⟩ := HR.out.byte hlt
          have hb8 := l[i].toNat_lt
          obtain ⟨y, hy⟩ : ∃ y, y = l[i].toNat := ⟨_, rfl⟩
          rw [← hy] at hcell hb8
          clear hy
          rcases Nat.lt_or_ge y 128 with hy | hy
          · go_wp2
            refine bodyPost_ret (results_tmp4 rfl _ _ _) rfl ?_
            exact FrontTo.no HN.out (Below.refl _ _) 3 (by omega) (by omega) (by omega) rfl
          · rcases Nat.lt_or_ge i 10 with h10 | h10
            · go_wp2
              go_round
              case rel => exact ⟨i + 1, by omega, by omega, by go_num⟩
              case measure => simp [intOf]; omega
            · go_wp2
              refine bodyPost_ret (results_tmp4 rfl _ _ _) rfl ?_
              exact FrontTo.no HN.out (Below.refl _ _) 3 (by omega) (by omega) (by omega) rfl
        · go_wp2
          refine bodyPost_ret (results_tmp4 rfl _ _ _) rfl ?_
          exact FrontTo.no HN.out (Below.refl _ _) 2 (by omega) (by omega) (by omega) rfl
    | some p =>
      obtain ⟨n, m⟩ := p
      have hml := vFrom_len r 0 0 n m hv
      have hm1 : 1 + m ≤ l.length := by have := HLR.out; omega
      have hm0 : ((m : Int) == 0) = false := by rw [beq_eq_false_iff_ne]; omega
      have HPM := Lib.hid (show frameParse l = if n ≤ 1048576 ∧ 1 + m + n + 4 ≤ l.length ∧ ((l.drop (1 + m + n)).take 4) = crcTail (crcSum (l.take (1 + m + n))) then some (kb, (l.drop (1 + m)).take n, 1 + m + n + 4) else none by rw [HP.out, hv])
      clear hv hml
      have hfv : frontVal (some (n, m)) = .tuple #[.int .u64 (n : Nat), .int .i64 (m : Nat)] := rfl
      rw [hfv]
      clear hfv
      rcases Nat.lt_or_ge 1048576 n with hbig | hsm
      · have HN := Lib.hid (show frameParse l = none by rw [HPM.out, if_neg (by omega)])
        go_wp2
        refine bodyPost_ret (results_tmp4 rfl _ _ _) rfl ?_
        exact FrontTo.no HN.out (Below.refl _ _) 3 (by omega) (by omega) (by omega) rfl
      · obtain ⟨E, hE⟩ : ∃ E, E = 1 + m + n := ⟨_, rfl⟩
        have hEi : (1 : Int) + m + n = (E : Int) := by omega
        rw [← hE] at HPM
        have HE := Lib.hid hE
        clear hE
        by_cases h4 : E + 4 ≤ l.length
        · have hu2 := u8_upto A l.length c E (by omega)
          have hnlt : ¬ ((l.length : Int) < (E : Int) + 4) := by omega
          have hlE : (l.take E).length = E := by rw [List.length_take]; omega
          have HLE := Lib.hid hlE
          clear hlE
          go_wp2_with fail
          rw [← HLE.out]
          refine (refSum_any (l.take E) A c B w (HR.out.upto E) (by rw [HLE.out]; omega)).mono ?_
          rintro e w1 ⟨rfl, rfl⟩
          rw [HLE.out]
          obtain ⟨b0, o0, rfl, hb0, hall⟩ := HR.out (by intro e; have := congrArg List.length e; rw [bcells_length, List.length_nil] at this; omega)
          have hcl : ∀ (j : Nat) (hj : j < l.length), w.cell? ⟨b0, o0 + j, none⟩ = some (.int .u8 (l[j].toNat : Nat)) := by
            intro j hj
            refine hall j _ ?_
            rw [List.getElem?_eq_getElem (by rw [bcells_length]; exact hj), bcells_get]
          have hF := four_eq l E h4 (crcSum (l.take E))
          have hs32 := (crcSum (l.take E)).isLt
          obtain ⟨sv, hsv⟩ : ∃ sv, sv = (crcSum (l.take E)).toNat := ⟨_, rfl⟩
          rw [← hsv] at hF hs32 ⊢
          have ce0 := hcl E (by omega)
          have ce1 := hcl (E + 1) (by omega)
          have ce2 := hcl (E + 2) (by omega)
          have ce3 := hcl (E + 3) (by omega)
          have cz := hcl 0 h0
          rw [HKB.out, Nat.add_zero] at cz
          have hk8 := kb.toNat_lt
          obtain ⟨y0, hy0⟩ : ∃ y, y = l[E].toNat := ⟨_, rfl⟩
          obtain ⟨y1, hy1⟩ : ∃ y, y = l[E + 1].toNat := ⟨_, rfl⟩
          obtain ⟨y2, hy2⟩ : ∃ y, y = l[E + 2].toNat := ⟨_, rfl⟩
          obtain ⟨y3, hy3⟩ : ∃ y, y = l[E + 3].toNat := ⟨_, rfl⟩
          rw [← hy0] at ce0 hF
          rw [← hy1] at ce1 hF
          rw [← hy2] at ce2 hF
          rw [← hy3] at ce3 hF
          have hy38 : y3 < 256 := by rw [hy3]; exact l[E + 3].toNat_lt
          clear hy0 hy1 hy2 hy3 hcl hall hsv
          have HF := Lib.hid hF
          clear hF
          have hu3 : ∀ w : World, (Instr.sliceAt 34 (.slice (some ⟨b0, o0, none⟩) l.length c) (some (.int .i64 (1 + (m : Int)))) (some (.int .i64 (E : Nat))) none).run Tryd.prog w = .ok (.slice (cutA (some ⟨b0, o0, none⟩) c (1 + m)) n (c - (1 + m))) w := fun w => by
            have h := u8_mid (some ⟨b0, o0, none⟩) l.length c (1 + m) E (by have := HE.out; omega) (by omega) w
            rw [show ((1 + m : Nat) : Int) = 1 + (m : Int) by omega, show E - (1 + m) = n by have := HE.out; omega] at h
            exact h
          rcases Bool.eq_false_or_eq_true (((y0 : Nat) : Int) != (sv : Int) % 256) with q0 | q0
          · have HN := Lib.hid (show frameParse l = none by
              rw [HPM.out, if_neg]; rintro ⟨_, _, h⟩; have := (HF.out.1 h).1; simp at q0; omega)
            go_wp2
            refine bodyPost_ret (results_tmp4 rfl _ _ _) rfl ?_
            exact FrontTo.no HN.out (Below.refl _ _) 6 (by omega) (by omega) (by omega) rfl
          rcases Bool.eq_false_or_eq_true (((y1 : Nat) : Int) != (sv : Int) / 256 % 256) with q1 | q1
          · have HN := Lib.hid (show frameParse l = none by
              rw [HPM.out, if_neg]; rintro ⟨_, _, h⟩; have := (HF.out.1 h).2.1; simp at q1; omega)
            go_wp2
            refine bodyPost_ret (results_tmp4 rfl _ _ _) rfl ?_
            exact FrontTo.no HN.out (Below.refl _ _) 6 (by omega) (by omega) (by omega) rfl
          rcases Bool.eq_false_or_eq_true (((y2 : Nat) : Int) != (sv : Int) / 65536 % 256) with q2 | q2
          · have HN := Lib.hid (show frameParse l = none by
              rw [HPM.out, if_neg]; rintro ⟨_, _, h⟩; have := (HF.out.1 h).2.2.1; simp at q2; omega)
            go_wp2
            refine bodyPost_ret (results_tmp4 rfl _ _ _) rfl ?_
            exact FrontTo.no HN.out (Below.refl _ _) 6 (by omega) (by omega) (by omega) rfl
          rcases Bool.eq_false_or_eq_true (((y3 : Nat) : Int) != (sv : Int) / 16777216) with q3 | q3
          · have HN := Lib.hid (show frameParse l = none by
              rw [HPM.out, if_neg]; rintro ⟨_, _, h⟩; have := (HF.out.1 h).2.2.2; simp at q3; omega)
            go_wp2
            refine bodyPost_ret (results_tmp4 rfl _ _ _) rfl ?_
            exact FrontTo.no HN.out (Below.refl _ _) 6 (by omega) (by omega) (by omega) rfl
          have HQ := Lib.hid (show frameParse l = some (kb, (l.drop (1 + m)).take n, E + 4) by
            have hf := HF.out.2 (by simp at q0 q1 q2 q3; omega)
            rw [HPM.out, if_pos ⟨hsm, h4, hf⟩])
          go_wp2_with fail
          refine Text.wp_text [] (by kernel_rfl) (by kernel_rfl) (fun Q' hQ' => ?_)
          go_wp2
          refine ⟨by rfl, ?_⟩
          go_wp2
          refine bodyPost_ret (results_tmp4 rfl _ _ _) rfl ?_
          refine ⟨(Below.refl _ _).drew, ?_⟩
          rw [HQ.out]
          have hll : ((l.drop (1 + m)).take n).length = n := by rw [List.length_take, List.length_drop]; have := HE.out; omega
          refine ⟨cutA (some ⟨b0, o0, none⟩) c (1 + m), c - (1 + m), ?_, ((((HR.out.cut (1 + m) c hc).upto n).below ((Below.refl _ _).drew)).more (by exact hB))⟩
          rw [hll]
          exact congrArg Ending.returned (congrArg (fun x => Value.tuple #[.int .u8 (kb.toNat : Nat), .slice (cutA (some ⟨b0, o0, none⟩) c (1 + m)) n (c - (1 + m)), x, .int .i64 0]) (by go_num))
        · have HN := Lib.hid (show frameParse l = none by rw [HPM.out, if_neg (by omega)])
          have hlt4 : (l.length : Int) < (E : Int) + 4 := by omega
          go_wp2
          refine bodyPost_ret (results_tmp4 rfl _ _ _) rfl ?_
          exact FrontTo.no HN.out (Below.refl _ _) 2 (by omega) (by omega) (by omega) rfl
end Go.Proofs.YtfheocdciekfoaaDoor
