/- Texts of this proof joined: Front2, Key. -/
import Derived.Test.YtfheocdciekfoaaDoorMA14
import Derived.Test.YtfheocdciekfoaaDoorMA08
/- Contracts of frame.Open and of the reference's Front (07), for any bytes, every world. -/
namespace Go.Proofs.YtfheocdciekfoaaDoor
open Go.RowKit

/-- the load of a frame -/
def frameOpen (l : List UInt8) : Option (UInt8 × List UInt8) := match frameParse l with
  | some (k, load, n) => if n = l.length then some (k, load) else none
  | none => none
def OpenTo (w : World) (r : Option (UInt8 × List UInt8)) (e : Ending) (w' : World) : Prop :=
  Below w.heap.size w w' ∧ match r with
  | none => ∃ x : Int, x ≠ 0 ∧ 0 ≤ x ∧ x ≤ 100 ∧ e = .returned (.tuple #[.int .u8 0, .slice none 0 0, .int .i64 x])
  | some (k, load) => ∃ A c, e = .returned (.tuple #[.int .u8 (k.toNat : Nat), .slice A load.length c, .int .i64 0]) ∧ Rd w' w'.heap.size A (bcells load)
theorem frameParse_le {l : List UInt8} {k : UInt8} {load : List UInt8} {n : Nat} (h : frameParse l = some (k, load, n)) : n ≤ l.length := by
  cases l with
  | nil => cases h
  | cons a r =>
    rw [frameParse_cons] at h
    split at h
    · cases h
    · split at h
      · rename_i hc
        injection h with h
        injection h with h1 h2
        injection h2 with h2 h3
        omega
      · cases h
set_option maxRecDepth 100000 in
theorem open_any (l : List UInt8) (A : Option Addr) (c B : Nat) (w : World) (hr : Rd w B A (bcells l)) (hB : B ≤ w.heap.size) (hl : l.length ≤ 68719476736) (hc : l.length ≤ c) :
    Calls Tryd.prog 45 #[.slice A l.length c] w (OpenTo w (frameOpen l)) := by
  have HR := Lib.hid hr
  clear hr
  go_enter Tryd.func45, Tryd.ntmps45
  go_wp2_with fail
  refine (front_any l A c B w HR.out hB hl hc).mono ?_
  rintro e w1 ⟨hb, hm⟩
  have B1 := Lib.hid hb
  clear hb
  cases hf : frameParse l with
  | none =>
    rw [hf] at hm
    obtain ⟨x, h0, h1, h2, rfl⟩ := hm
    have HO := Lib.hid (show frameOpen l = none by unfold frameOpen; rw [hf])
    have hx : (x != 0) = true := by simpa using h0
    clear hf
    go_wp2
    go_ret3
    refine ⟨B1.out, ?_⟩
    rw [HO.out]
    exact ⟨x, h0, h1, h2, rfl⟩
  | some p =>
    obtain ⟨k, load, n⟩ := p
    have hle := frameParse_le hf
    rw [hf] at hm
    obtain ⟨A1, c1, rfl, hrd⟩ := hm
    have HRD := Lib.hid hrd
    have HF := Lib.hid hf
    clear hrd hf
    have hk8 := k.toNat_lt
    by_cases hn : n = l.length
    · have HO := Lib.hid (show frameOpen l = some (k, load) by unfold frameOpen; rw [HF.out]; simp only; rw [if_pos hn])
      have hnl : ¬ n < l.length := by omega
      clear hn
      go_wp2
      go_ret3
      refine ⟨B1.out, ?_⟩
      rw [HO.out]
      exact ⟨A1, c1, rfl, HRD.out⟩
    · have HO := Lib.hid (show frameOpen l = none by unfold frameOpen; rw [HF.out]; simp only; rw [if_neg hn])
      have hnl : n < l.length := by omega
      clear hn
      go_wp2
      go_ret3
      refine ⟨B1.out, ?_⟩
      rw [HO.out]
      exact ⟨5, by omega, by omega, by omega, rfl⟩
theorem four_eq (l : List UInt8) (E : Nat) (h : E + 4 ≤ l.length) (s : BitVec 32) : ((l.drop E).take 4 = crcTail s) ↔ (l[E].toNat = s.toNat % 256 ∧ l[E + 1].toNat = s.toNat / 256 % 256 ∧ l[E + 2].toNat = s.toNat / 65536 % 256 ∧ l[E + 3].toNat = s.toNat / 16777216 % 256) := by
  rw [List.drop_eq_getElem_cons (by omega), List.drop_eq_getElem_cons (i := E + 1) (by omega), List.drop_eq_getElem_cons (i := E + 1 + 1) (by omega), List.drop_eq_getElem_cons (i := E + 1 + 1 + 1) (by omega)]
  simp only [List.take_succ_cons, List.take_zero, crcTail, List.cons.injEq, and_true]
  simp only [← UInt8.toNat_inj, UInt8.toNat_ofNat']
set_option maxRecDepth 100000 in
set_option maxHeartbeats 2000000 in
theorem refFront_any (l : List UInt8) (A : Option Addr) (c B : Nat) (w : World) (hr : Rd w B A (bcells l)) (hB : B ≤ w.heap.size) (hl : l.length ≤ 68719476736) (hc : l.length ≤ c) :
    Calls Tryd.prog 51 #[.slice A l.length c] w (FrontTo w (frameParse l)) := by
  have HR := Lib.hid hr
  clear hr
  cases l with
  | nil =>
    go_enter Tryd.func51, Tryd.ntmps51
    go_wp2
    refine bodyPost_ret (results_tmp4 rfl _ _ _) rfl ?_
    exact FrontTo.no rfl (Below.refl _ _) 2 (by omega) (by omega) (by omega) rfl
  | cons kb r =>
    have HP := Lib.hid (frameParse_cons kb r)
    obtain ⟨l, hle⟩ : ∃ l, l = kb :: r := ⟨_, rfl⟩
    rw [← hle] at HR HP hl hc ⊢
    have h0 : 0 < l.length := by rw [hle]; simp
    have hkb : l[0] = kb := by subst hle; rfl
    have hdr : l.drop 1 = r := by subst hle; rfl
    have hlr : l.length - 1 = r.length := by subst hle; simp
    have HKB := Lib.hid hkb
    have HDR := Lib.hid hdr
    clear hle hkb hdr
    have hne : ((l.length : Int) == 0) = false := by rw [beq_eq_false_iff_ne]; omega
    have hu1 : ∀ w : World, (Instr.sliceAt 34 (.slice A l.length c) (some (.int .i64 1)) none none).run Tryd.prog w = .ok (.slice (cutA A c 1) r.length (c - 1)) w := fun w => by have := u8_from A l.length c 1 (by omega) w; rw [hlr] at this; exact this
    have HLR := Lib.hid hlr
    clear hlr
    go_enter Tryd.func51, Tryd.ntmps51
    go_wp2_with fail
    refine (refFront2_any r (cutA A c 1) (c - 1) B w (by have := HR.out.cut 1 c hc; rw [HDR.out] at this; exact this) (by have := HLR.out; omega)).mono ?_
    rintro e w1 ⟨rfl, rfl⟩
    cases hv : vFrom r 0 0 with
    | none =>
      have HN := Lib.hid (show frameParse l = none by rw [HP.out, hv])
      clear hv
      have hfv : frontVal none = .tuple #[.int .u64 0, .int .i64 0] := rfl
      rw [hfv]
      clear hfv
      go_wp2_with fail
      go_loop [8] (fun v8 => ∃ i : Nat, 1 ≤ i ∧ i ≤ l.length ∧ v8 = .int .i64 i) (fun v8 => l.length - (intOf v8).toNat)
      case atStart => exact ⟨1, by omega, by omega, rfl⟩
      case round =>
        obtain ⟨i, hi1, hi, rfl⟩ := hrel
        by_cases hlt : i < l.length
        · obtain ⟨ab, ao, rfl, hab, hcell⟩ := HR.out.byte hlt
          have hb8 := l[i].toNat_lt
          obtain ⟨y, hy⟩ : ∃ y, y = l[i].toNat := ⟨_, rfl⟩
          rw [← hy] at hcell hb8
          clear hy
          rcases Nat.lt_or_ge y 128 with hy | hy
          · go_wp2
            refine bodyPost_ret (results_tmp4 rfl _ _ _) rfl ?_
            exact FrontTo.no HN.out (Below.refl _ _) 3 (by omega) (by omega) (by omega) rfl
          · rcases Nat.lt_or_ge i 10 with h10 | h10
            · go_wp2
              go_round
              case rel => exact ⟨i + 1, by omega, by omega, by go_num⟩
              case measure => simp [intOf]; omega
            · go_wp2
              refine bodyPost_ret (results_tmp4 rfl _ _ _) rfl ?_
              exact FrontTo.no HN.out (Below.refl _ _) 3 (by omega) (by omega) (by omega) rfl
        · go_wp2
          refine bodyPost_ret (results_tmp4 rfl _ _ _) rfl ?_
          exact FrontTo.no HN.out (Below.refl _ _) 2 (by omega) (by omega) (by omega) rfl
    | some p =>
      obtain ⟨n, m⟩ := p
      have hml := vFrom_len r 0 0 n m hv
      have hm1 : 1 + m ≤ l.length := by have := HLR.out; omega
      have hm0 : ((m : Int) == 0) = false := by rw [beq_eq_false_iff_ne]; omega
      have HPM := Lib.hid (show frameParse l = if n ≤ 1048576 ∧ 1 + m + n + 4 ≤ l.length ∧ ((l.drop (1 + m + n)).take 4) = crcTail (crcSum (l.take (1 + m + n))) then some (kb, (l.drop (1 + m)).take n, 1 + m + n + 4) else none by rw [HP.out, hv])
      clear hv hml
      have hfv : frontVal (some (n, m)) = .tuple #[.int .u64 (n : Nat), .int .i64 (m : Nat)] := rfl
      rw [hfv]
      clear hfv
      rcases Nat.lt_or_ge 1048576 n with hbig | hsm
      · have HN := Lib.hid (show frameParse l = none by rw [HPM.out, if_neg (by omega)])
        go_wp2
        refine bodyPost_ret (results_tmp4 rfl _ _ _) rfl ?_
        exact FrontTo.no HN.out (Below.refl _ _) 3 (by omega) (by omega) (by omega) rfl
      · obtain ⟨E, hE⟩ : ∃ E, E = 1 + m + n := ⟨_, rfl⟩
        have hEi : (1 : Int) + m + n = (E : Int) := by omega
        rw [← hE] at HPM
        have HE := Lib.hid hE
        clear hE
        by_cases h4 : E + 4 ≤ l.length
        · have hu2 := u8_upto A l.length c E (by omega)
          have hnlt : ¬ ((l.length : Int) < (E : Int) + 4) := by omega
          have hlE : (l.take E).length = E := by rw [List.length_take]; omega
          have HLE := Lib.hid hlE
          clear hlE
          go_wp2_with fail
          rw [← HLE.out]
          refine (refSum_any (l.take E) A c B w (HR.out.upto E) (by rw [HLE.out]; omega)).mono ?_
          rintro e w1 ⟨rfl, rfl⟩
          rw [HLE.out]
          obtain ⟨b0, o0, rfl, hb0, hall⟩ := HR.out (by intro e; have := congrArg List.length e; rw [bcells_length, List.length_nil] at this; omega)
          have hcl : ∀ (j : Nat) (hj : j < l.length), w.cell? ⟨b0, o0 + j, none⟩ = some (.int .u8 (l[j].toNat : Nat)) := by
            intro j hj
            refine hall j _ ?_
            rw [List.getElem?_eq_getElem (by rw [bcells_length]; exact hj), bcells_get]
          have hF := four_eq l E h4 (crcSum (l.take E))
          have hs32 := (crcSum (l.take E)).isLt
          obtain ⟨sv, hsv⟩ : ∃ sv, sv = (crcSum (l.take E)).toNat := ⟨_, rfl⟩
          rw [← hsv] at hF hs32 ⊢
          have ce0 := hcl E (by omega)
          have ce1 := hcl (E + 1) (by omega)
          have ce2 := hcl (E + 2) (by omega)
          have ce3 := hcl (E + 3) (by omega)
          have cz := hcl 0 h0
          rw [HKB.out, Nat.add_zero] at cz
          have hk8 := kb.toNat_lt
          obtain ⟨y0, hy0⟩ : ∃ y, y = l[E].toNat := ⟨_, rfl⟩
          obtain ⟨y1, hy1⟩ : ∃ y, y = l[E + 1].toNat := ⟨_, rfl⟩
          obtain ⟨y2, hy2⟩ : ∃ y, y = l[E + 2].toNat := ⟨_, rfl⟩
          obtain ⟨y3, hy3⟩ : ∃ y, y = l[E + 3].toNat := ⟨_, rfl⟩
          rw [← hy0] at ce0 hF
          rw [← hy1] at ce1 hF
          rw [← hy2] at ce2 hF
          rw [← hy3] at ce3 hF
          have hy38 : y3 < 256 := by rw [hy3]; exact l[E + 3].toNat_lt
          clear hy0 hy1 hy2 hy3 hcl hall hsv
          have HF := Lib.hid hF
          clear hF
          have hu3 : ∀ w : World, (Instr.sliceAt 34 (.slice (some ⟨b0, o0, none⟩) l.length c) (some (.int .i64 (1 + (m : Int)))) (some (.int .i64 (E : Nat))) none).run Tryd.prog w = .ok (.slice (cutA (some ⟨b0, o0, none⟩) c (1 + m)) n (c - (1 + m))) w := fun w => by
            have h := u8_mid (some ⟨b0, o0, none⟩) l.length c (1 + m) E (by have := HE.out; omega) (by omega) w
            rw [show ((1 + m : Nat) : Int) = 1 + (m : Int) by omega, show E - (1 + m) = n by have := HE.out; omega] at h
            exact h
          rcases Bool.eq_false_or_eq_true (((y0 : Nat) : Int) != (sv : Int) % 256) with q0 | q0
          · have HN := Lib.hid (show frameParse l = none by
              rw [HPM.out, if_neg]; rintro ⟨_, _, h⟩; have := (HF.out.1 h).1; simp at q0; omega)
            go_wp2
            refine bodyPost_ret (results_tmp4 rfl _ _ _) rfl ?_
            exact FrontTo.no HN.out (Below.refl _ _) 6 (by omega) (by omega) (by omega) rfl
          rcases Bool.eq_false_or_eq_true (((y1 : Nat) : Int) != (sv : Int) / 256 % 256) with q1 | q1
          · have HN := Lib.hid (show frameParse l = none by
              rw [HPM.out, if_neg]; rintro ⟨_, _, h⟩; have := (HF.out.1 h).2.1; simp at q1; omega)
            go_wp2
            refine bodyPost_ret (results_tmp4 rfl _ _ _) rfl ?_
            exact FrontTo.no HN.out (Below.refl _ _) 6 (by omega) (by omega) (by omega) rfl
          rcases Bool.eq_false_or_eq_true (((y2 : Nat) : Int) != (sv : Int) / 65536 % 256) with q2 | q2
          · have HN := Lib.hid (show frameParse l = none by
              rw [HPM.out, if_neg]; rintro ⟨_, _, h⟩; have := (HF.out.1 h).2.2.1; simp at q2; omega)
            go_wp2
            refine bodyPost_ret (results_tmp4 rfl _ _ _) rfl ?_
            exact FrontTo.no HN.out (Below.refl _ _) 6 (by omega) (by omega) (by omega) rfl
          rcases Bool.eq_false_or_eq_true (((y3 : Nat) : Int) != (sv : Int) / 16777216) with q3 | q3
          · have HN := Lib.hid (show frameParse l = none by
              rw [HPM.out, if_neg]; rintro ⟨_, _, h⟩; have := (HF.out.1 h).2.2.2; simp at q3; omega)
            go_wp2
            refine bodyPost_ret (results_tmp4 rfl _ _ _) rfl ?_
            exact FrontTo.no HN.out (Below.refl _ _) 6 (by omega) (by omega) (by omega) rfl
          have HQ := Lib.hid (show frameParse l = some (kb, (l.drop (1 + m)).take n, E + 4) by
            have hf := HF.out.2 (by simp at q0 q1 q2 q3; omega)
            rw [HPM.out, if_pos ⟨hsm, h4, hf⟩])
          go_wp2_with fail
          refine Text.wp_text [] (by kernel_rfl) (by kernel_rfl) (fun Q' hQ' => ?_)
          go_wp2
          refine ⟨by rfl, ?_⟩
          go_wp2
          refine bodyPost_ret (results_tmp4 rfl _ _ _) rfl ?_
          refine ⟨(Below.refl _ _).drew, ?_⟩
          rw [HQ.out]
          have hll : ((l.drop (1 + m)).take n).length = n := by rw [List.length_take, List.length_drop]; have := HE.out; omega
          refine ⟨cutA (some ⟨b0, o0, none⟩) c (1 + m), c - (1 + m), ?_, ((((HR.out.cut (1 + m) c hc).upto n).below ((Below.refl _ _).drew)).more (by exact hB))⟩
          rw [hll]
          exact congrArg Ending.returned (congrArg (fun x => Value.tuple #[.int .u8 (kb.toNat : Nat), .slice (cutA (some ⟨b0, o0, none⟩) c (1 + m)) n (c - (1 + m)), x, .int .i64 0]) (by go_num))
        · have HN := Lib.hid (show frameParse l = none by rw [HPM.out, if_neg (by omega)])
          have hlt4 : (l.length : Int) < (E : Int) + 4 := by omega
          go_wp2
          refine bodyPost_ret (results_tmp4 rfl _ _ _) rfl ?_
          exact FrontTo.no HN.out (Below.refl _ _) 2 (by omega) (by omega) (by omega) rfl
end Go.Proofs.YtfheocdciekfoaaDoor
/- Contracts of key.right, key.Text, and of the reference's may, Text (17), for any key, every world. -/
namespace Go.Proofs.YtfheocdciekfoaaDoor
open Go.RowKit

theorem hashTy : HashTy Tryd.prog 22 5 := ⟨by kernel_rfl, by kernel_rfl, fun _ => by kernel_rfl, fun _ => by kernel_rfl, by kernel_rfl⟩
noncomputable def fieldAt' (t i : Nat) : Field := (Tryd.prog.fieldsOf t).getD i { name := "", type := 0, offset := 0, embedded := false, tag := "", pkgPath := "", byteOffset := 0 }
theorem key_n0 : (fieldAt' 24 0).name = "Hash" := by kernel_rfl
theorem key_n1 : (fieldAt' 24 1).name = "K" := by kernel_rfl
theorem mark_n0 : (fieldAt' 26 0).name = "Hash" := by kernel_rfl
theorem mark_n1 : (fieldAt' 26 1).name = "Size" := by kernel_rfl
theorem keyTy : HkTy Tryd.prog 24 22 5 3 (fieldAt' 24 0) (fieldAt' 24 1) :=
  ⟨by kernel_rfl, by rw [key_n0]; decide, by rw [key_n1]; decide, by kernel_rfl, by kernel_rfl, by kernel_rfl, by kernel_rfl, by kernel_rfl, hashTy, by kernel_rfl, by kernel_rfl⟩
theorem markTy : HkTy Tryd.prog 26 22 5 3 (fieldAt' 26 0) (fieldAt' 26 1) :=
  ⟨by kernel_rfl, by rw [mark_n0]; decide, by rw [mark_n1]; decide, by kernel_rfl, by kernel_rfl, by kernel_rfl, by kernel_rfl, by kernel_rfl, hashTy, by kernel_rfl, by kernel_rfl⟩

/-- whether a number may be looked ahead -/
def kOk (k : Int) : Bool := decide (1 ≤ k ∧ k ≤ 4)
theorem right_any (k : Int) (w : World) : Calls Tryd.prog 57 #[.int .i64 k] w fun e w' => e = .returned (.bool (kOk k)) ∧ w = w' := by
  by_cases h1 : 1 ≤ k
  · by_cases h2 : k ≤ 4
    · have HK := Lib.hid (show kOk k = true by unfold kOk; simp; omega)
      go_enter Tryd.func57, Tryd.ntmps57
      go_wp2
      go_ret
      exact ⟨rt1 (vbool HK.out.symm), rfl⟩
    · have HK := Lib.hid (show kOk k = false by unfold kOk; simp; omega)
      go_enter Tryd.func57, Tryd.ntmps57
      go_wp2
      go_ret
      exact ⟨rt1 (vbool HK.out.symm), rfl⟩
  · have HK := Lib.hid (show kOk k = false by unfold kOk; simp; omega)
    go_enter Tryd.func57, Tryd.ntmps57
    go_wp2
    go_ret
    exact ⟨rt1 (vbool HK.out.symm), rfl⟩
theorem itoa_small (k : Int) (w : World) (hk : kOk k = true) : Calls Tryd.prog 60 #[.int .i64 k] w fun e w' => e = .returned (.string ⟨#[UInt8.ofNat (48 + k.toNat)]⟩) ∧ w = w' := by
  have h : k = 1 ∨ k = 2 ∨ k = 3 ∨ k = 4 := by unfold kOk at hk; simp at hk; omega
  clear hk
  rcases h with rfl | rfl | rfl | rfl
  all_goals
    go_enter Tryd.func60, Tryd.ntmps60
    go_wp2
    go_ret
    exact ⟨rt1 (vstr (by kernel_rfl)), rfl⟩
/-- a key's text -/
def keyText (h : List UInt8) (k : Int) : List UInt8 := if kOk k then hexOf h ++ [45, UInt8.ofNat (48 + k.toNat)] else []
theorem ba_append (x y : List UInt8) : (⟨x.toArray⟩ : ByteArray) ++ (⟨y.toArray⟩ : ByteArray) = ⟨(x ++ y).toArray⟩ := by
  apply ByteArray.ext
  simp
theorem below_drew {B : Nat} {w w' : World} (h : Below B w.drew w') : Below B w w' := ⟨h.os, h.tape, h.output, h.size, h.block⟩
theorem rd_hash {w : World} {B : Nat} {A : Option Addr} {h : List UInt8} {k : Int} (hr : Rd w B A (hkCells h k)) : Rd w B A (bcells h) := by
  have := hr.take_ h.length
  have e : (hkCells h k).take h.length = bcells h := by
    unfold hkCells
    rw [List.take_append_of_le_length (by rw [bcells_length]; omega), List.take_of_length_le (by rw [bcells_length]; omega)]
  rwa [e] at this
theorem hex_text32 (l : List UInt8) (A : Option Addr) (c : Nat) (w : World) (hr : Rd w w.heap.size A (bcells l)) (hl : l.length = 32) :
    Calls Tryd.prog 59 #[.slice A 32 c] w fun e w' => e = .returned (.string ⟨(hexOf l).toArray⟩) ∧ Below w.heap.size w w' := by
  have := hex_text l A c w hr (by omega)
  rwa [hl] at this
set_option maxRecDepth 100000 in
set_option maxHeartbeats 400000 in
theorem text_any (h : List UInt8) (k : Int) (w : World) (hh : h.length = 32) :
    Calls Tryd.prog 29 #[hkv h k] w fun e w' => e = .returned (.string ⟨(keyText h k).toArray⟩) ∧ Below w.heap.size w w' := by
  have hck : (w.alloc (.cells (hkCells h k).toArray 24)).cell? ⟨w.heap.size, 32, none⟩ = some (.int .i64 k) := by
    rw [cell_of_row _ _ _ _ _ _ (Go.heap_alloc_new w _), ← Array.getElem?_toList]
    exact hkCells_get h k hh
  have hgk : (hkCells h k)[32]? = some (.int .i64 k) := hkCells_get h k hh
  have hlk : (hkCells h k).length = 33 := by rw [hkCells_length, hh]
  have HH := Lib.hid hh
  clear hh
  rcases Bool.eq_false_or_eq_true (kOk k) with hb | hb
  · have HB := Lib.hid hb
    clear hb
    go_enter Tryd.func29, Tryd.ntmps29
    go_wp2_with fail
    refine (right_any k _).mono ?_
    rintro e w1 ⟨rfl, rfl⟩
    rw [HB.out]
    go_wp2_with fail
    refine Text.wp_grow [2, 6] [5] [] (by kernel_rfl) (by kernel_rfl) ?_
    refine Text.wpS_seg 2 _ _ _ _ (by decide) (fun Q' hQ' => ?_)
    simp only [List.take_succ_cons, List.take_zero]
    go_wp2_with fail
    simp only [Nat.zero_add, List.drop_succ_cons, List.drop_zero]
    refine Text.wpS_one (fun Q' hQ' => ?_)
    go_wp2_with fail
    have hrow : Rd (w.alloc (.cells (hkCells h k).toArray 24)) (w.heap.size + 1) (some ⟨w.heap.size, 0, none⟩) (hkCells h k) := by
      have := Rd.row (w := w.alloc (.cells (hkCells h k).toArray 24)) (B := w.heap.size + 1) (Go.heap_alloc_new w _) (by omega)
      simpa using this
    refine (hex_text32 h (some ⟨w.heap.size, 0, none⟩) 32 _ (by have := (rd_hash hrow).below (Below.refl _ _).drew; simpa using this) HH.out).mono ?_
    rintro e w2 ⟨rfl, hb2⟩
    have hb2' : Below w.heap.size w w2 := ((Below.refl _ _).alloc (Nat.le_refl _) _).trans ((below_drew hb2).mono (by simp))
    have hck2 : w2.cell? ⟨w.heap.size, 32, none⟩ = some (.int .i64 k) := (hb2.cell (p := ⟨w.heap.size, 32, none⟩) (by show w.heap.size < (w.alloc _).heap.size; simp)).trans hck
    have HB2 := Lib.hid hb2
    have HB2' := Lib.hid hb2'
    clear hb2 hb2' hrow
    obtain ⟨sh, hsh⟩ : ∃ sh : ByteArray, sh = ⟨(hexOf h).toArray⟩ := ⟨_, rfl⟩
    have hsz : sh.size ≤ 64 := by
      rw [hsh]
      show (hexOf h).toArray.size ≤ 64
      have := hexOf_length h
      have := HH.out
      simp; omega
    rw [← hsh]
    have HSH := Lib.hid hsh
    clear hsh
    go_wp2_with fail
    refine ⟨HB2.out, ?_⟩
    refine Text.wpS_seg 3 _ _ _ _ (by decide) (fun Q' hQ' => ?_)
    simp only [List.take_succ_cons, List.take_zero]
    go_wp2_with fail
    simp only [List.drop_succ_cons, List.drop_zero]
    refine Text.wpS_one (fun Q' hQ' => ?_)
    go_wp2_with fail
    refine (itoa_small k _ HB.out).mono ?_
    rintro e w3 ⟨rfl, rfl⟩
    go_wp2_with fail
    refine ⟨HB2.out, ?_⟩
    refine Text.wpS_seg 2 _ _ _ _ (by decide) (fun Q' hQ' => ?_)
    simp only [List.take_succ_cons, List.take_zero]
    go_wp2_with fail
    refine ⟨by rfl, ⟨fun _ => ⟨_, _, rfl, hck⟩, trivial⟩, ?_⟩
    go_wp2
    go_ret
    refine ⟨rt1 (vstr ?_), HB2'.out⟩
    unfold keyText
    rw [HB.out, if_pos rfl, HSH.out]
    apply ByteArray.ext
    simp
  · have HB := Lib.hid hb
    clear hb
    go_enter Tryd.func29, Tryd.ntmps29
    go_wp2_with fail
    refine (right_any k _).mono ?_
    rintro e w1 ⟨rfl, rfl⟩
    rw [HB.out]
    go_wp2
    go_ret
    refine ⟨rt1 (vstr ?_), (Below.refl _ _).alloc (Nat.le_refl _) _⟩
    unfold keyText
    rw [HB.out]
    rfl

theorem may_any (h : List UInt8) (k : Int) (w : World) (hh : h.length = 32) :
    Calls Tryd.prog 41 #[hkv h k] w fun e w' => e = .returned (.bool (kOk k)) ∧ Below w.heap.size w w' := by
  have hck : (w.alloc (.cells (hkCells h k).toArray 24)).cell? ⟨w.heap.size, 32, none⟩ = some (.int .i64 k) := by
    rw [cell_of_row _ _ _ _ _ _ (Go.heap_alloc_new w _), ← Array.getElem?_toList]
    exact hkCells_get h k hh
  have hgk : (hkCells h k)[32]? = some (.int .i64 k) := hkCells_get h k hh
  have hlk : (hkCells h k).length = 33 := by rw [hkCells_length, hh]
  by_cases h1 : 1 ≤ k
  · by_cases h2 : k ≤ 4
    · have HK := Lib.hid (show kOk k = true by unfold kOk; simp; omega)
      go_enter Tryd.func41, Tryd.ntmps41
      go_wp2
      go_ret
      exact ⟨rt1 (vbool HK.out.symm), (Below.refl _ _).alloc (Nat.le_refl _) _⟩
    · have HK := Lib.hid (show kOk k = false by unfold kOk; simp; omega)
      go_enter Tryd.func41, Tryd.ntmps41
      go_wp2
      go_ret
      exact ⟨rt1 (vbool HK.out.symm), (Below.refl _ _).alloc (Nat.le_refl _) _⟩
  · have HK := Lib.hid (show kOk k = false by unfold kOk; simp; omega)
    go_enter Tryd.func41, Tryd.ntmps41
    go_wp2
    go_ret
    exact ⟨rt1 (vbool HK.out.symm), (Below.refl _ _).alloc (Nat.le_refl _) _⟩
def digStr : ByteArray := ⟨#[48, 49, 50, 51, 52, 53, 54, 55, 56, 57, 97, 98, 99, 100, 101, 102]⟩
theorem digStr_at (x : Nat) (hx : x < 16) : digStr.extract x (x + 1) = ⟨#[(digAt x).toNat.toUInt8]⟩ := by
  have h : ∀ j : Fin 16, (digStr.extract j.val (j.val + 1)).data = #[(digAt j.val).toNat.toUInt8] := by decide +kernel
  apply ByteArray.ext
  exact h ⟨x, hx⟩
set_option maxRecDepth 100000 in
set_option maxHeartbeats 400000 in
theorem digits_any (l : List UInt8) (w : World) (hl : l.length = 32) :
    Calls Tryd.prog 65 #[hashv l] w fun e w' => e = .returned (.string ⟨(hexOf l).toArray⟩) ∧ Below w.heap.size w w' := by
  have hlb : (bcells l).length = 32 := by rw [bcells_length, hl]
  have HL := Lib.hid hl
  clear hl
  go_enter Tryd.func65, Tryd.ntmps65
  go_wp2_with fail
  obtain ⟨D, hD⟩ : ∃ D, D = digStr := ⟨_, rfl⟩
  have hDs : D.size = 16 := by rw [hD]; rfl
  have hD2 : ({ data := #[48, 49, 50, 51, 52, 53, 54, 55, 56, 57, 97, 98, 99, 100, 101, 102] } : ByteArray) = D := hD.symm
  rw [hD2]
  have HD := Lib.hid hD
  clear hD hD2
  go_loopw [4, 5] (fun v4 v5 wr => ∃ (i : Nat) (s : ByteArray), i ≤ 32 ∧ v5 = .int .i64 i ∧ v4 = .string s ∧ s.size ≤ 64 ∧ Hid (s = ⟨(hexOf (l.take i)).toArray⟩) ∧ Hid (Below (w.heap.size + 1) (w.alloc (.cells (bcells l).toArray 22)) wr)) (fun _ v5 _ => 32 - (intOf v5).toNat)
  case atStart => exact ⟨0, ⟨#[]⟩, by omega, rfl, rfl, by decide, rfl, (Below.refl _ _)⟩
  case round =>
    obtain ⟨i, s, hi, rfl, rfl, hs, hse, hbr⟩ := hrel
    by_cases hlt : i < 32
    · have hlt2 : i < l.length := by have := HL.out; omega
      have hcell : wr.cell? ⟨w.heap.size, i, none⟩ = some (.int .u8 (l[i].toNat : Nat)) := by
        refine (hbr.out.cell (p := ⟨w.heap.size, i, none⟩) (by show w.heap.size < _; omega)).trans ?_
        rw [cell_of_row _ _ _ _ _ _ (Go.heap_alloc_new w _), ← Array.getElem?_toList, List.getElem?_eq_getElem (by rw [bcells_length]; exact hlt2)]
        simp [bcells, bcell]
      have hsn := Lib.hid (hexOf_snoc l i hlt2)
      obtain ⟨y, hy⟩ : ∃ y, y = l[i].toNat := ⟨_, rfl⟩
      have hy8 : y < 256 := by rw [hy]; exact l[i].toNat_lt
      rw [← hy] at hcell
      have HY := Lib.hid hy
      clear hy
      have HE1 := Lib.hid (show D.extract (y / 16) (y / 16 + 1) = ⟨#[(digAt (y / 16)).toNat.toUInt8]⟩ by rw [HD.out]; exact digStr_at _ (by omega))
      have HE2 := Lib.hid (show D.extract (y % 16) (y % 16 + 1) = ⟨#[(digAt (y % 16)).toNat.toUInt8]⟩ by rw [HD.out]; exact digStr_at _ (by omega))
      go_wp2_with fail
      refine Text.wp_text [] (by kernel_rfl) (by kernel_rfl) (fun Q' hQ' => ?_)
      go_wp2
      refine ⟨by rfl, ?_⟩
      have HSN := Lib.hid (show s ++ D.extract (y / 16) (y / 16 + 1) ++ D.extract (y % 16) (y % 16 + 1) = ⟨(hexOf (l.take (i + 1))).toArray⟩ by
        rw [HE1.out, HE2.out, hse.out, hsn.out]
        apply ByteArray.ext
        simp [hex2, HY.out])
      go_wp2
      go_roundw
      case rel =>
        refine ⟨i + 1, _, by omega, by go_num, rfl, ?_, HSN.out, hbr.out.drew⟩
        rw [HSN.out]
        show (hexOf (l.take (i + 1))).toArray.size ≤ 64
        have := hexOf_length (l.take (i + 1))
        have h2 : (l.take (i + 1)).length ≤ i + 1 := List.length_take_le _ _
        simp; omega
      case measure => simp [intOf]; omega
    · have hi32 : i = 32 := by omega
      subst hi32
      have hlt2 : l.take 32 = l := List.take_of_length_le (by have := HL.out; omega)
      have HT := Lib.hid hlt2
      clear hlt2
      go_wp2
      go_ret
      refine ⟨rt1 (vstr ?_), ((Below.refl _ _).alloc (Nat.le_refl _) _).trans (hbr.out.mono (by omega))⟩
      rw [hse.out, HT.out]
end Go.Proofs.YtfheocdciekfoaaDoor
