/- Law 28's DriveParses. -/
import Derived.Test.YtkgmdoiadhafeaaLaw3
namespace Go.Proofs.Ytkgmdoiadhafeaa
open Go.RowKit

theorem stepD_stop {rs : List (Int × List Int)} {ms : List Mach} {s : ByteArray} {k : Nat} {x : St} (h : (stepD rs ms s k x).1 = false) : (stepD rs ms s k x).2.failed = false → (stepD rs ms s k x).2.at_ = s.size := by
  unfold stepD at h ⊢
  split at h
  · rename_i hf
    rw [if_pos hf]
    intro hn
    rw [hf] at hn
    cases hn
  rename_i hf
  rw [if_neg hf]
  split at h
  · split at h
    · rename_i ha
      rw [if_pos ha]
      intro _
      exact ha
    · cases h
  · split at h
    · split at h <;> cases h
    · split at h <;> cases h
set_option maxRecDepth 100000 in
set_option maxHeartbeats 8000000 in
theorem driveParses_any (v1 v2 v3 v4 : Value) (g : Gram) (k : Int) (ms : List Mach) (s : ByteArray) (w : World) (hs : s.size ≤ maxLen) (h1 : SlR eStr w w.heap.size v1 g.1) (h2 : SlR eStr w w.heap.size v2 g.2.1) (h3 : SlR eRule w w.heap.size v3 g.2.2) (h4 : SlR (eSl eState) w w.heap.size v4 ms) :
    Calls Try.prog 4 #[.agg #[v1, v2, v3], .int .i64 k, v4, .string s] w fun e w' => e = .returned (.bool true) ∧ Below w.heap.size w w' := by
  unfold maxLen at hs
  have HPA := Lib.hid (parse_any v1 v2 v3 v4 g k ms s)
  have HBG := Lib.hid (begin_any v1 v2 v3 v4 g k ms s)
  have HF14 := Lib.hid (few14_any v1 v2 v3 g.1 g.2.1 g.2.2)
  have HFE := Lib.hid (few_any v4 ms)
  obtain ⟨A1, c1, e1, _, _⟩ := h1.form
  obtain ⟨A2, c2, e2, _, _⟩ := h2.form
  obtain ⟨A3, c3, e3, _, _⟩ := h3.form
  obtain ⟨A4, c4, e4, _, _⟩ := h4.form
  rw [e1, e2, e3] at HF14
  rw [e4] at HFE
  rw [e1, e2, e3, e4] at HPA HBG ⊢
  rw [e1] at h1
  rw [e2] at h2
  rw [e3] at h3
  rw [e4] at h4
  clear e1 e2 e3 e4
  obtain ⟨W, hW⟩ : ∃ W, W = w.alloc (Obj.cells #[Value.slice A1 g.1.length c1, Value.slice A2 g.2.1.length c2, Value.slice A3 g.2.2.length c3] 29) := ⟨_, rfl⟩
  have hb0 : Below w.heap.size w W := hW ▸ (Below.refl _ _).alloc (Nat.le_refl _) _
  have hs0 : W.heap.size = w.heap.size + 1 := by rw [hW]; simp
  have k0 : W.cell? ⟨w.heap.size, 0, none⟩ = some (Value.slice A1 g.1.length c1) := by rw [hW]; simp
  have k1 : W.cell? ⟨w.heap.size, 1, none⟩ = some (Value.slice A2 g.2.1.length c2) := by rw [hW]; simp
  have k2 : W.cell? ⟨w.heap.size, 2, none⟩ = some (Value.slice A3 g.2.2.length c3) := by rw [hW]; simp
  have H1 := h1.fut hb0 (Nat.le_refl _) (B' := W.heap.size) (by omega)
  have H2 := h2.fut hb0 (Nat.le_refl _) (B' := W.heap.size) (by omega)
  have H3 := h3.fut hb0 (Nat.le_refl _) (B' := W.heap.size) (by omega)
  have H4 := h4.fut hb0 (Nat.le_refl _) (B' := W.heap.size) (by omega)
  clear h1 h2 h3 h4
  go_enter Try.func4, Try.ntmps4
  go_wp2_with fail
  rw [← hW]
  refine (HF14.out W H1 H2 H3).mono ?_
  rintro e w1 ⟨z, rfl, hz, hb1⟩
  have hs1 := hb1.size
  rcases hz with rfl | ⟨rfl, hn1, hn2⟩
  · go_wp2_with fail
    refine (awake_any w1).mono ?_
    rintro e w2 ⟨rfl, hb2⟩
    go_wp2
    go_ret
    exact ⟨rfl, (hb0.trans (hb1.mono (by omega))).trans (hb2.mono (by omega))⟩
  go_wp2_with fail
  refine (HFE.out w1 (H4.next hb1 hs1)).mono ?_
  rintro e w2 ⟨b, rfl, hb2⟩
  have hb12 : Below W.heap.size W w2 := hb1.trans (hb2.mono hs1)
  have hs2 := hb12.size
  have hfin : ∀ w3, Below w2.heap.size w2 w3 → Below w.heap.size w w3 := fun w3 h => (hb0.trans (hb12.mono (by omega))).trans (h.mono (by omega))
  cases b
  · go_wp2_with fail
    refine (awake_any w2).mono ?_
    rintro e w3 ⟨rfl, hb3⟩
    go_wp2
    go_ret
    exact ⟨rfl, hfin _ hb3⟩
  by_cases h20 : s.size ≤ 20
  case neg =>
    go_wp2_with fail
    refine (awake_any w2).mono ?_
    rintro e w3 ⟨rfl, hb3⟩
    go_wp2
    go_ret
    exact ⟨rfl, hfin _ hb3⟩
  have m0 := (hb12.cell (p := ⟨w.heap.size, 0, none⟩) (by simp only []; omega)).trans k0
  have m1 := (hb12.cell (p := ⟨w.heap.size, 1, none⟩) (by simp only []; omega)).trans k1
  have m2 := (hb12.cell (p := ⟨w.heap.size, 2, none⟩) (by simp only []; omega)).trans k2
  have hsz : g.1.length + g.2.1.length ≤ 4611686018427387904 := by omega
  go_wp2_with fail
  refine (HBG.out w2 hsz (H1.next hb12 hs2) (H2.next hb12 hs2) (H3.next hb12 hs2) (H4.next hb12 hs2)).mono ?_
  rintro e w3 ⟨hb3, ⟨hbt, p, r, vs, rfl, hrun⟩ | ⟨hbf, rfl⟩⟩
  case inr =>
    go_wp2_with fail
    refine (awake_any w3).mono ?_
    rintro e w4 ⟨rfl, hb4⟩
    go_wp2
    go_ret
    exact ⟨rfl, hfin _ (hb3.trans (hb4.mono hb3.size))⟩
  have hgm : gramB g = true ∧ mayB g ms = true ∧ 1 ≤ k ∧ k ≤ 4 := by
    unfold beginB at hbt
    simp only [Bool.and_eq_true, decide_eq_true_eq] at hbt
    exact ⟨hbt.1.2, hbt.2, hbt.1.1⟩
  obtain ⟨hg, hm, hk1, hk2⟩ := hgm
  have HF := Lib.hid (gram_fine hg hm H3)
  have HP : Hid (parseB g k ms s = parseD g.2.2 ms s k.toNat 100001 0 st0) := by
    show _ = _
    unfold parseB
    rw [hbt]
    rfl
  clear hg hm hbt
  obtain ⟨C, hC⟩ : ∃ C : Cfg, C = { base := w2.heap.size, p := p, r := r, s := s, v1 := .slice A1 g.1.length c1, v2 := .slice A2 g.2.1.length c2, v3 := .slice A3 g.2.2.length c3, v4 := .slice A4 ms.length c4, k := k.toNat } := ⟨_, rfl⟩
  have hCr : C.r = r := by rw [hC]
  have HCb : Hid (C.base = w2.heap.size) := by show _ = _; rw [hC]
  have HCs : Hid (C.s = s) := by show _ = _; rw [hC]
  have HCk : Hid (C.k = k.toNat) := by show _ = _; rw [hC]
  have HC3 : Hid (C.v3 = .slice A3 g.2.2.length c3) := by show _ = _; rw [hC]
  have HC4 : Hid (C.v4 = .slice A4 ms.length c4) := by show _ = _; rw [hC]
  rw [← hC] at hrun
  clear hC hW HBG HF14 HFE
  subst hCr
  have J3 := H3.next hb12 hs2
  have J4 := H4.next hb12 hs2
  go_wp2_with fail
  go_loopw [10] (fun v10 wr => ∃ (n : Nat) (x : St) (vs vr : Value), v10 = .int .i64 n ∧ n ≤ 60 ∧ RunR C wr vs vr x ∧ Hid (Inv s x) ∧ Hid (x.stack.length ≤ 1 + 64 * n) ∧ Hid (x.rules.length ≤ n) ∧ Hid (parseB g k ms s = parseD g.2.2 ms s k.toNat (100001 - n) n x) ∧ Below w2.heap.size w2 wr) (fun v10 _ => 60 - (intOf v10).toNat)
  case atStart =>
    refine ⟨0, st0, vs, .slice none 0 0, rfl, by omega, hrun, ⟨Nat.zero_le _, fun y hy => ?_, fun y hy => absurd hy (by simp [st0])⟩, ?_, ?_, HP.out, hb3⟩
    · simp [st0] at hy
      omega
    · show st0.stack.length ≤ _
      simp [st0]
    · show st0.rules.length ≤ _
      simp [st0]
  case round =>
    clear hrun hb3
    obtain ⟨n, x, vs, vr, rfl, hn, hrun, hinv, hls, hlr, hpd, hbr⟩ := hrel
    by_cases hlt : n < 60
    case neg =>
      go_wp2_with fail
      refine (awake_any wr).mono ?_
      rintro e w4 ⟨rfl, hb4⟩
      go_wp2
      go_ret
      exact ⟨rfl, hfin _ (hbr.trans (hb4.mono hbr.size))⟩
    have hls' := hls.out
    have hlr' := hlr.out
    have hrd : Ready C wr x g.2.2 ms := ⟨by rw [HCs.out]; omega, by rw [HCs.out]; exact hinv.out.hat, by rw [HCk.out]; omega, by rw [HC3.out, HCb.out]; exact J3.below hbr, by rw [HC4.out, HCb.out]; exact J4.below hbr, HF.out.right, by omega, by omega, hinv.out.bs, hinv.out.br⟩
    have hstep := Lib.hid (step_any C wr vs vr x g.2.2 ms hrun hrd HF.out.may)
    rw [HCs.out, HCk.out] at hstep
    have hsi := stepD_inv (k := k.toNat) HF.out hinv.out
    have hstop := Lib.hid (stepD_stop (rs := g.2.2) (ms := ms) (s := s) (k := k.toNat) (x := x))
    obtain ⟨y, hy⟩ : ∃ y, y = (stepD g.2.2 ms s k.toNat x).2 := ⟨_, rfl⟩
    have hfu : 100001 - n = (100000 - n) + 1 := by omega
    rw [hfu] at hpd
    have hpe : Hid (parseB g k ms s = if (stepD g.2.2 ms s k.toNat x).1 = true then if 100000 ≤ n ∨ 20000 < y.stack.length then ([], 0, 21) else parseD g.2.2 ms s k.toNat (100000 - n) (n + 1) y else if y.failed = true then ([], y.at_, 14) else (y.rules, y.at_, 0)) := by
      show _ = _
      rw [hpd.out, hy, parseD_succ]
    rw [← hy] at hstep hsi hstop
    obtain ⟨hyi, hyl, hyr⟩ := hsi
    have HYI := Lib.hid hyi
    have HYL : Hid (y.stack.length ≤ 1 + 64 * (n + 1)) := by show _ ≤ _; omega
    have HYR : Hid (y.rules.length ≤ n + 1) := by show _ ≤ _; omega
    have HLIM : Hid (¬ (100000 ≤ n ∨ 20000 < y.stack.length)) := by show ¬ _; omega
    clear hpd hrd hyi hy hfu hls' hlr' hyl hyr
    go_wp2_with fail
    refine hstep.out.mono ?_
    rintro e w4 ⟨rfl, ⟨vs', vr', hrun'⟩, hb4⟩
    have hbn : Below w2.heap.size w2 w4 := hbr.trans (HCb.out ▸ hb4)
    have hs4 := hbn.size
    clear hstep hrun
    rcases Bool.eq_false_or_eq_true (stepD g.2.2 ms s k.toNat x).1 with hb | hb
    · rw [hb]
      have hpe2 : Hid (parseB g k ms s = parseD g.2.2 ms s k.toNat (100001 - (n + 1)) (n + 1) y) := by
        show _ = _
        rw [hpe.out, hb, if_pos rfl, if_neg HLIM.out, show 100001 - (n + 1) = 100000 - n by omega]
      clear hb hpe
      go_wp2_with fail
      go_roundw
      case rel => exact ⟨n + 1, y, _, _, by go_num, by omega, hrun', HYI, HYL, HYR, hpe2, hbn⟩
      case measure => simp [intOf]; omega
    rw [hb]
    have hpe2 : Hid (parseB g k ms s = if y.failed = true then ([], y.at_, 14) else (y.rules, y.at_, 0)) := by
      show _ = _
      rw [hpe.out, hb, if_neg (by decide)]
    have HAT : Hid (y.failed = false → y.at_ = s.size) := hstop.out hb
    clear hb hpe hstop
    have l0 := (hbn.cell (p := ⟨w.heap.size, 0, none⟩) (by simp only []; omega)).trans m0
    have l1 := (hbn.cell (p := ⟨w.heap.size, 1, none⟩) (by simp only []; omega)).trans m1
    have l2 := (hbn.cell (p := ⟨w.heap.size, 2, none⟩) (by simp only []; omega)).trans m2
    have hb14 : Below W.heap.size W w4 := hb12.trans (hbn.mono hs2)
    have hs14 := hb14.size
    have HPW := Lib.hid (HPA.out w4 hsz (by omega) (H1.next hb14 hs14) (H2.next hb14 hs14) (H3.next hb14 hs14) (H4.next hb14 hs14))
    go_wp2_with fail
    refine HPW.out.mono ?_
    rintro e w5 ⟨v, rfl, hown, hb5, hnum⟩
    have hs5 := hb5.size
    have hrun5 := hrun'.keep hb5
    have hfin5 : ∀ w6, Below w5.heap.size w5 w6 → Below w.heap.size w w6 := fun w6 h => hfin _ ((hbn.trans (hb5.mono hs4)).trans (h.mono (by omega)))
    rcases Bool.eq_false_or_eq_true y.failed with hf | hf
    · rw [hpe2.out, if_pos hf] at hown ⊢
      obtain ⟨A5, c5, rfl, _, _⟩ := own_form hown
      have HFL := Lib.hid (failed_any C w5 vs' vr' y hrun5)
      rw [if_pos hf] at HFL
      go_wp2_with fail
      refine HFL.out.mono ?_
      rintro e w6 ⟨rfl, rfl⟩
      go_wp2_with fail
      refine (awake_any w5).mono ?_
      rintro e w6 ⟨rfl, hb6⟩
      go_wp2
      go_ret
      exact ⟨rfl, hfin5 _ hb6⟩
    · rw [hpe2.out, if_neg (by rw [hf]; decide)] at hown hnum ⊢
      have hat := HAT.out hf
      obtain ⟨A5, c5, rfl, _, _⟩ := own_form hown
      have HFL := Lib.hid (failed_any C w5 vs' vr' y hrun5)
      rw [if_neg (by rw [hf]; decide)] at HFL
      have HRU := Lib.hid (rules_any C w5 vs' vr' y hrun5 (by have := HYR.out; omega) HYI.out.br)
      simp only [hat]
      go_wp2_with fail
      refine HFL.out.mono ?_
      rintro e w6 ⟨rfl, rfl⟩
      go_wp2_with fail
      refine HRU.out.mono ?_
      rintro e w6 ⟨v', rfl, hown6, hb6⟩
      have hs6 := hb6.size
      go_wp2_with fail
      refine (same_any _ v' y.rules y.rules w6 (own_sl (own_below hown hb6) hnum) (own_sl hown6 HYI.out.br)).mono ?_
      rintro e w7 ⟨b, rfl, hbt, hb7⟩
      have hbt := hbt rfl
      subst hbt
      go_wp2_with fail
      refine (awake_any w7).mono ?_
      rintro e w8 ⟨rfl, hb8⟩
      go_wp2
      go_ret
      exact ⟨rfl, hfin5 _ ((hb6.trans (hb7.mono hs6)).trans (hb8.mono (by have := hb7.size; omega)))⟩
end Go.Proofs.Ytkgmdoiadhafeaa
