/- Texts of this proof joined: Says33, Awake33. -/
import Derived.Test.YtplbcbamnjnhlaaGreatDoorMB31
import Derived.Test.YtplbcbamnjnhlaaGreatDoorMB34
import Derived.Test.YtplbcbamnjnhlaaGreatDoorMB35
namespace Go.Proofs.YtplbcbamnjnhlaaGreatDoor
open Go.RowKit

def fewB (rs : List RecD) : Bool := decide (rs.length ≤ 30) && rs.all fun r => decide (r.keys.length ≤ 20)
set_option maxRecDepth 100000 in
set_option maxHeartbeats 4000000 in
theorem few33_any (rs : List RecD) (A : Option Addr) (n c B : Nat) (w : World) (h : SlR eRec w B (.slice A n c) rs) (hB : B ≤ w.heap.size) :
    Calls Tryz.prog 6 #[.slice A n c] w fun e w' => e = .returned (.bool (fewB rs)) ∧ w' = w := by
  have hn := h.n_eq
  subst hn
  have hcl := h.n_le
  have HS := Lib.hid h
  clear h
  go_enter Tryz.func6, Tryz.ntmps6
  by_cases h30 : rs.length ≤ 30
  rotate_left
  · have HF := Lib.hid (show fewB rs = false by unfold fewB; rw [decide_eq_false h30, Bool.false_and])
    have h31 : 30 < rs.length := by omega
    go_wp2_with fail
    go_ret
    exact ⟨rt1 (vbool HF.out.symm), rfl⟩
  have hn30 : ¬ 30 < rs.length := by omega
  go_wp2_with fail
  go_loopw [3] (fun v3 wr => ∃ i : Nat, i ≤ rs.length ∧ v3 = .int .i64 i ∧ Hid (∀ j r, j < i → rs[j]? = some r → r.keys.length ≤ 20) ∧ Hid (wr = w)) (fun v3 _ => rs.length - (intOf v3).toNat)
  case atStart => exact ⟨0, Nat.zero_le _, rfl, (fun j _ hj => by omega), rfl⟩
  case round =>
    obtain ⟨i, hi, rfl, HK, HW⟩ := hrel
    have hw := HW.out
    subst hw
    by_cases hlt : i < rs.length
    · obtain ⟨q, off, A4, c4, rfl, _, hq, hhs, hks, hcells⟩ := rec_at HS.out hlt
      have hcell := hcells 68 _ (rec_last hhs.1 hhs.2)
      have hkc := hks.n_le
      clear hcells hhs
      obtain ⟨m, hm⟩ : ∃ m, m = rs[i].keys.length := ⟨_, rfl⟩
      rw [← hm] at hcell
      rw [← hm] at hkc
      have HM := Lib.hid hm
      clear hks hq hm
      by_cases h20 : m ≤ 20
      · have hn20 : ¬ 20 < m := by omega
        go_wp2_with fail
        go_roundw
        case rel =>
          refine ⟨i + 1, by omega, by go_num, ?_, (by first | rfl | trivial | exact Lib.hid trivial)⟩
          intro j r hj hr
          by_cases hji : j = i
          · subst hji
            rw [List.getElem?_eq_getElem hlt] at hr
            injection hr with hr
            rw [← hr, ← HM.out]
            exact h20
          · exact HK.out j r (by omega) hr
        case measure => simp [intOf]; omega
      · have hn20 : 20 < m := by omega
        have HF := Lib.hid (show fewB rs = false by
          unfold fewB
          rw [Bool.and_eq_false_iff]
          right
          rw [List.all_eq_false]
          exact ⟨rs[i], List.getElem_mem _, by rw [← HM.out]; simpa using h20⟩)
        go_wp2_with fail
        go_ret
        exact ⟨rt1 (vbool HF.out.symm), rfl⟩
    · have hil : i = rs.length := by omega
      have HF := Lib.hid (show fewB rs = true by
        unfold fewB
        rw [decide_eq_true h30, Bool.true_and, List.all_eq_true]
        intro r hr
        obtain ⟨j, hj⟩ := List.mem_iff_getElem?.1 hr
        exact decide_eq_true (HK.out j r (by have := (List.getElem?_eq_some_iff.1 hj).1; omega) hj))
      go_wp2_with fail
      go_ret
      exact ⟨rt1 (vbool HF.out.symm), rfl⟩

structure SayM (w wc : World) (g : Nat) (b : BookD) (L P O v5 v6 : Value) : Prop where
  book : BookAt wc g b
  row : wc.heap[w.heap.size]? = some (.cells (refCells b L P O).toArray 30 (0, 0))
  live : SlR eItem wc w.heap.size L (liveI b.live)
  pins : SlR eK wc w.heap.size P b.pins
  ints : SlR eItem wc w.heap.size O b.ints
  k5 : SlR eK wc wc.heap.size v5 (b.live.map (·.1))
  k6 : SlR eK wc wc.heap.size v6 b.pins
  below : Below w.heap.size w wc
  size : w.heap.size + 1 ≤ wc.heap.size
  glt : g + 3 < w.heap.size
theorem SayM.later {w wc w' : World} {g : Nat} {b : BookD} {L P O v5 v6 : Value} (h : SayM w wc g b L P O v5 v6) (hb : Below wc.heap.size wc w') : SayM w w' g b L P O v5 v6 :=
  have hs := h.size
  have hg := h.glt
  ⟨h.book.below hb (by omega), (hb.block _ (by omega)).trans h.row, h.live.below (hb.mono (by omega)), h.pins.below (hb.mono (by omega)), h.ints.below (hb.mono (by omega)), h.k5.fut hb (Nat.le_refl _) hb.size, h.k6.fut hb (Nat.le_refl _) hb.size, h.below.trans (hb.mono (by omega)), Nat.le_trans hs hb.size, hg⟩
theorem SayM.row_lt {w wc : World} {g : Nat} {b : BookD} {L P O v5 v6 : Value} (h : SayM w wc g b L P O v5 v6) : w.heap.size < wc.heap.size := h.size
theorem SayM.drew {w wc : World} {g : Nat} {b : BookD} {L P O v5 v6 : Value} (h : SayM w wc g b L P O v5 v6) : SayM w wc.drew g b L P O v5 v6 := h.later (Below.refl _ _).drew
theorem ksl_at {w : World} {B : Nat} {A : Option Addr} {n c : Nat} {ks : List K32} (h : SlR eK w B (.slice A n c) ks) {i : Nat} (hi : i < ks.length) : ∃ q off, A = some ⟨q, off, none⟩ ∧ q < B ∧ ∀ j u, (encK ks[i])[j]? = some u → w.cell? ⟨q, off + i * 33 + j, none⟩ = some u := by
  obtain ⟨q, off, cs, rfl, _, hq, hrep, hc⟩ := h.get hi (by decide)
  have hrep : cs = encK ks[i] := hrep
  subst hrep
  exact ⟨q, off, rfl, hq, fun j u hu => by rw [Nat.add_assoc]; exact hc j u hu⟩
theorem isl_at {w : World} {B : Nat} {A : Option Addr} {n c : Nat} {l : List ItemD} (h : SlR eItem w B (.slice A n c) l) {i : Nat} (hi : i < l.length) : ∃ q off, A = some ⟨q, off, none⟩ ∧ q < B ∧ ∀ j u, (itemCells l[i])[j]? = some u → w.cell? ⟨q, off + i * 67 + j, none⟩ = some u := by
  obtain ⟨q, off, cs, rfl, _, hq, hrep, hc⟩ := h.get hi (by decide)
  have hrep : cs = itemCells l[i] := hrep
  subst hrep
  exact ⟨q, off, rfl, hq, fun j u hu => by rw [Nat.add_assoc]; exact hc j u hu⟩
theorem mark_of {b : BookD} (h : Good b) {i : Nat} (hi : i < b.live.length) : markAt b b.live[i].1 = some b.live[i].2 := by
  unfold markAt
  have hn := live_nodup h
  have : b.live.find? (fun p => decide (p.1 = b.live[i].1)) = some b.live[i] := by
    rw [List.find?_eq_some_iff_getElem]
    refine ⟨by simp, i, hi, rfl, fun j hj => ?_⟩
    have hne : b.live[j].1 ≠ b.live[i].1 := fun he => by
      have := (List.pairwise_iff_getElem.1 hn) j i (by simp; omega) (by simpa using hi) hj
      simp at this
      exact this he
    simpa using hne
  rw [this]
  rfl
set_option maxRecDepth 100000 in
set_option maxHeartbeats 16000000 in
theorem says33_any (g : Nat) (b : BookD) (bv : Value) (B : Nat) (w : World) (h : BookAt w g b) (hr : RB w B bv b) (hg : Good b) (hB : B ≤ w.heap.size) (hl : b.live.length ≤ 10000 ∧ b.pins.length ≤ 10000) :
    Calls Tryz.prog 17 #[bptr g, bv] w fun e w' => e = .returned (.int .i64 1) ∧ Below w.heap.size w w' := by
  obtain ⟨L, P, O, rfl, hL, hP, hO⟩ := hr
  have HGD := Lib.hid hg
  have HLL := Lib.hid hl
  have hglt := h.lt
  have hb1 : Below w.heap.size w (w.alloc (.cells (refCells b L P O).toArray 30)) := (Below.refl _ _).alloc (Nat.le_refl _) _
  have HG1 := Lib.hid (Go.heap_alloc_new w (.cells (refCells b L P O).toArray 30))
  have HS1 := Lib.hid (World.size_alloc w (.cells (refCells b L P O).toArray 30))
  have HB1 := Lib.hid hb1
  have HK1 := Lib.hid (h.below hb1 hglt)
  have HL := Lib.hid (hL.fut hb1 hB hB)
  have HP := Lib.hid (hP.fut hb1 hB hB)
  have HO := Lib.hid (hO.fut hb1 hB hB)
  have HBB := Lib.hid hB
  clear hg hl hL hP hO hB h hb1
  go_enter Tryz.func17, Tryz.ntmps17
  go_wp2_with (refine stop_at (some 3) rfl ?_)
  refine Stop.go (wpList_box rfl 30 rfl rfl (vs := refCells b L P O) rfl ?_)
  generalize w.alloc (.cells (refCells b L P O).toArray 30) = w1 at *
  generalize hac : Act.put _ _ _ = a9
  simp [Act.put] at hac
  subst hac
  go_wp2_with fail
  refine (live_any g b w1 HK1.out HGD.out (by have := HLL.out.1; omega)).mono ?_
  rintro e w2 ⟨v5, rfl, ho2, hb2⟩
  have HS5 := Lib.hid (show SlR eK w2 w2.heap.size v5 (b.live.map (·.1)) from sl_of_own (E := eK) (enc := encK) (fun _ _ => rfl) ho2)
  have HB2 := Lib.hid hb2
  obtain ⟨A5, c5, hv5, hc5, hm5⟩ := HS5.out.form
  subst hv5
  clear ho2 hb2
  go_wp2_with fail
  refine (pins_any g b w2 (HK1.out.below HB2.out (by rw [HS1.out]; omega)) HGD.out (by have := HLL.out.2; omega)).mono ?_
  rintro e w3 ⟨v6, rfl, ho3, hb3⟩
  have HS6 := Lib.hid (show SlR eK w3 w3.heap.size v6 b.pins from sl_of_own (E := eK) (enc := encK) (fun _ _ => rfl) ho3)
  obtain ⟨A6, c6, hv6, hc6, hm6⟩ := HS6.out.form
  subst hv6
  have HM := Lib.hid (show SayM w w3 g b L P O (.slice A5 (b.live.map (·.1)).length c5) (.slice A6 b.pins.length c6) from by
    have h1 := HS1.out
    have hs2 := HB2.out.size
    have hb13 := HB2.out.trans (hb3.mono hs2)
    exact ⟨HK1.out.below hb13 (by omega), (hb13.block _ (by omega)).trans HG1.out, HL.out.fut hb13 (by omega) (Nat.le_refl _), HP.out.fut hb13 (by omega) (Nat.le_refl _), HO.out.fut hb13 (by omega) (Nat.le_refl _), HS5.out.fut hb3 (Nat.le_refl _) hb3.size, HS6.out, HB1.out.trans (hb13.mono (by omega)), by have := hb13.size; omega, hglt⟩)
  clear ho3 hb3 HS5 HS6 HB1 HB2 HK1 HL HP HO HG1 HS1 HBB
  obtain ⟨AL, cL, hLe, hcL, hmL⟩ := HM.out.live.form
  subst hLe
  obtain ⟨AP, cP, hPe, hcP, hmP⟩ := HM.out.pins.form
  subst hPe
  obtain ⟨AO, cO, hOe, hcO, hmO⟩ := HM.out.ints.form
  subst hOe
  simp only [liveI_len, List.length_map] at HM hcL hc5 ⊢
  obtain ⟨nl, hnl⟩ : ∃ nl, nl = b.live.length := ⟨_, rfl⟩
  obtain ⟨np, hnp⟩ : ∃ np, np = b.pins.length := ⟨_, rfl⟩
  obtain ⟨no, hno⟩ : ∃ no, no = b.ints.length := ⟨_, rfl⟩
  obtain ⟨hd, hhd⟩ : ∃ hd, hd = b.head := ⟨_, rfl⟩
  obtain ⟨nx, hnx⟩ : ∃ nx, nx = b.next := ⟨_, rfl⟩
  rw [← hnl, ← hnp, ← hno] at HM
  rw [← hnl] at HLL hcL hc5 ⊢
  rw [← hnp] at HLL hcP hc6 ⊢
  have HH := Lib.hid (show Calls Tryz.prog 14 #[bptr g] w3.drew (fun e w' => e = .returned (.bool hd) ∧ w3.drew = w') by rw [hhd]; exact headed_any g b _ HM.out.drew.book)
  have HN := Lib.hid (show Calls Tryz.prog 16 #[bptr g] w3.drew (fun e w' => e = .returned (.int .i64 nx) ∧ w3.drew = w') by rw [hnx]; exact next_any g b _ HM.out.drew.book)
  have HI := Lib.hid (show Calls Tryz.prog 15 #[bptr g] w3.drew (fun e w' => e = .returned (.int .i64 no) ∧ w3.drew = w') by rw [hno]; exact intents_any g b _ HM.out.drew.book)
  have HC := Lib.hid (row_cell5 HM.out.row)
  rw [← hhd, ← hnx] at HC
  have HNL := Lib.hid hnl
  have HNP := Lib.hid hnp
  have HNO := Lib.hid hno
  clear hnl hnp hno hhd hnx hm5 hm6 hmL hmP hmO
  go_wp2_with fail
  have c0 := HC.out.1
  have c1 := HC.out.2.1
  have c2 := HC.out.2.2.1
  have c3 := HC.out.2.2.2.1
  have c4 := HC.out.2.2.2.2
  refine wpT_grow [16, 23, 30] [3, 10, 18, 25, 32] [] (by kernel_rfl) (by kernel_rfl) ?_
  refine wpT_seg 16 (by decide) (fun Q1 hQ1 => ?_)
  simp only [List.take_succ_cons, List.take_zero]
  go_wp2_with fail
  try simp only [List.drop_succ_cons, List.drop_zero]
  refine wpT_one (fun Q1 hQ1 => ?_)
  go_wp2_with fail
  refine HH.out.mono ?_
  rintro e w4 ⟨rfl, rfl⟩
  go_wp2_with fail
  refine ⟨Below.refl _ _, ?_⟩
  refine wpT_seg 6 (by decide) (fun Q1 hQ1 => ?_)
  simp only [List.take_succ_cons, List.take_zero]
  go_wp2_with fail
  try simp only [List.drop_succ_cons, List.drop_zero]
  refine wpT_one (fun Q1 hQ1 => ?_)
  go_wp2_with fail
  refine HN.out.mono ?_
  rintro e w4 ⟨rfl, rfl⟩
  go_wp2_with fail
  refine ⟨Below.refl _ _, ?_⟩
  refine wpT_seg 6 (by decide) (fun Q1 hQ1 => ?_)
  simp only [List.take_succ_cons, List.take_zero]
  go_wp2_with fail
  try simp only [List.drop_succ_cons, List.drop_zero]
  refine wpT_one (fun Q1 hQ1 => ?_)
  go_wp2_with fail
  refine HI.out.mono ?_
  rintro e w4 ⟨rfl, rfl⟩
  go_wp2_with fail
  refine ⟨Below.refl _ _, ?_⟩
  refine wpT_seg 5 (by decide) (fun Q1 hQ1 => ?_)
  simp only [List.take_succ_cons, List.take_zero]
  go_wp2_with fail
  try simp only [List.drop_succ_cons, List.drop_zero]
  refine wpT_end ⟨by rfl, ⟨fun _ => ⟨_, _, rfl, c1⟩, fun _ => ⟨_, _, rfl, c2⟩, fun _ => ⟨_, _, rfl, c0⟩, fun _ => ⟨_, _, rfl, c4⟩, fun _ => ⟨_, _, rfl, c3⟩, trivial⟩, ?_⟩
  have HMd := Lib.hid HM.out.drew
  clear c0 c1 c2 c3 c4 HC HM HH HN HI
  generalize w3.drew = w4 at *
  have HNO3 := Lib.hid hcO
  clear hcO
  go_wp2_with fail
  go_loopw [7] (fun v7 wr => ∃ i : Nat, i ≤ nl ∧ v7 = .int .i64 i ∧ Hid (SayM w wr g b (.slice AL nl cL) (.slice AP np cP) (.slice AO no cO) (.slice A5 nl c5) (.slice A6 np c6))) (fun v7 _ => nl - (intOf v7).toNat)
  case atStart => exact ⟨0, Nat.zero_le _, rfl, HMd.out⟩
  case round =>
    obtain ⟨i, hi, rfl, HM⟩ := hrel
    have hmL := HM.out.live.n_le
    have hm5 := HM.out.k5.n_le
    by_cases hlt : i < nl
    · have hil : i < b.live.length := by rw [← HNL.out]; exact hlt
      obtain ⟨p, hp⟩ : ∃ p, p = b.live[i] := ⟨_, rfl⟩
      obtain ⟨q5, f5, hA5, hq5, hc5'⟩ := ksl_at HM.out.k5 (i := i) (by rw [List.length_map]; exact hil)
      subst hA5
      rw [List.getElem_map, ← hp] at hc5'
      have HMK := Lib.hid (show markAt b p.1 = some p.2 by rw [hp]; exact mark_of HGD.out hil)
      have HC5 := Lib.hid hc5'
      have HQ5 := Lib.hid hq5
      have HPP := Lib.hid hp
      clear hc5' hq5 hp
      go_wp2_with (refine stop_at (some 62) rfl ?_)
      refine Stop.go (wpList_load_agg rfl 34 rfl rfl keyTy.ut rfl (cs := encK p.1) (key_size _ _ p.1.2) HC5.out ?_)
      generalize hac : Act.put _ _ _ = a9
      simp [Act.put] at hac
      subst hac
      go_wp2_with fail
      refine (get_any g b p.1 wr HM.out.book HGD.out).mono ?_
      rintro e w5 ⟨rfl, hb5⟩
      rw [HMK.out]
      have HM5 := Lib.hid (HM.out.later hb5)
      have HC5' := Lib.hid (show ∀ j u, (encK p.1)[j]? = some u → w5.cell? ⟨q5, f5 + i * 33 + j, none⟩ = some u from fun j u hu => (hb5.cell (p := ⟨q5, f5 + i * 33 + j, none⟩) HQ5.out).trans (HC5.out j u hu))
      have HQ5' := Lib.hid (Nat.lt_of_lt_of_le HQ5.out hb5.size)
      clear hb5 HM HC5 HQ5 HMK
      go_wp2_with (refine stop_at (some 8) rfl ?_)
      refine Stop.go (wpList_alloc rfl 36 rfl zero_mark (vs := hkCells z32 0) rfl ?_)
      refine wpList_store_agg rfl 36 rfl rfl rfl (store_new2 (vs := encK p.2) (g := w5.heap.size) rfl rfl (mark_size _ _ p.2.2) (by rw [List.size_toArray, encK_len, hkCells_length]; rfl) (hkCells_one _ _)) ?_
      have hb6 : Below w5.heap.size w5 (w5.alloc (.cells (encK p.2).toArray 36)) := (Below.refl _ _).alloc (Nat.le_refl _) _
      have HM6 := Lib.hid (HM5.out.later hb6)
      have HC6 := Lib.hid (show ∀ j u, (encK p.1)[j]? = some u → (w5.alloc (.cells (encK p.2).toArray 36)).cell? ⟨q5, f5 + i * 33 + j, none⟩ = some u from fun j u hu => (hb6.cell (p := ⟨q5, f5 + i * 33 + j, none⟩) HQ5'.out).trans (HC5'.out j u hu))
      have HMR := Lib.hid (row_cells (vs := encK p.2) (Go.heap_alloc_new w5 (.cells (encK p.2).toArray 36)))
      clear hb6 HM5 HC5' HQ5'
      generalize w5.alloc (.cells (encK p.2).toArray 36) = w6 at *
      generalize w5.heap.size = qm at *
      generalize hac : Act.put _ _ _ = a9
      simp [Act.put] at hac
      subst hac
      go_wp2_with fail
      refine Text.wp_text [13, 24] (by kernel_rfl) (by kernel_rfl) (fun Q' hQ' => ?_)
      have HM7 := Lib.hid HM6.out.drew
      have HC7 := Lib.hid (show ∀ j u, (encK p.1)[j]? = some u → w6.drew.cell? ⟨q5, f5 + i * 33 + j, none⟩ = some u from HC6.out)
      have HR7 := Lib.hid (show ∀ j u, (encK p.2)[j]? = some u → w6.drew.cell? ⟨qm, 0 + j, none⟩ = some u from HMR.out)
      clear HM6 HC6 HMR
      generalize w6.drew = w7 at *
      have cL7 := (row_cell5 HM7.out.row).2.1
      obtain ⟨qL, fL, hAL, _, hcL'⟩ := isl_at HM7.out.live (i := i) (by rw [liveI_len]; exact hil)
      subst hAL
      have HCL := Lib.hid (show ∀ j u, (itemCells ((0, p) : ItemD))[j]? = some u → w7.cell? ⟨qL, fL + i * 67 + j, none⟩ = some u by
        have e : (liveI b.live)[i]'(by rw [liveI_len]; exact hil) = ((0, p) : ItemD) := by rw [HPP.out]; simp [liveI]
        rw [e] at hcL'
        exact hcL')
      clear hcL'
      go_wp2_with (refine stop_at (some 72) rfl ?_)
      refine Stop.go (wpList_load_aggG (by rfl) 34 rfl rfl keyTy.ut rfl (cs := encK p.1) (key_size _ _ p.1.2) HC7.out ?_)
      generalize hac : Act.put _ _ _ = a9
      simp [Act.put] at hac
      subst hac
      refine wpList_seg 5 _ _ _ (fun Q2 hQ2 => ?_)
      simp only [List.take_succ_cons, List.take_zero]
      go_wp2_with fail
      try simp only [List.drop_succ_cons, List.drop_zero]
      refine Stop.go (wpList_load_aggG (by rfl) 34 rfl rfl keyTy.ut rfl (cs := encK p.1) (key_size _ _ p.1.2) (item_key (x := (0, p)) HCL.out) ?_)
      refine wpList_binG (by rfl) .neq 34 rfl rfl rfl (hkv_guard keyTy.gd ..) (hkv_neq keyTy p.1.2 p.1.2) ?_
      rw [show (!(decide (p.1.1.1 = p.1.1.1) && decide (p.1.1.2 = p.1.1.2))) = false by simp]
      generalize hac : Act.put _ _ _ = a9
      simp [Act.put] at hac
      subst hac
      refine wpList_seg 3 _ _ _ (fun Q2 hQ2 => ?_)
      simp only [List.take_succ_cons, List.take_zero]
      go_wp2_with fail
      try simp only [List.drop_succ_cons, List.drop_zero]
      refine Stop.go (wpList_load_aggG (by rfl) 32 rfl rfl hashTy.ua rfl (cs := bcells p.2.1.1) (hash_size _ p.2.2) (key_hash HR7.out) ?_)
      generalize hac : Act.put _ _ _ = a9
      simp [Act.put] at hac
      subst hac
      refine wpList_seg 5 _ _ _ (fun Q2 hQ2 => ?_)
      simp only [List.take_succ_cons, List.take_zero]
      go_wp2_with fail
      try simp only [List.drop_succ_cons, List.drop_zero]
      refine Stop.go (wpList_load_aggG (by rfl) 32 rfl rfl hashTy.ua rfl (cs := bcells p.2.1.1) (hash_size _ p.2.2) (key_hash (item_hash_at (x := (0, p)) HCL.out)) ?_)
      refine wpList_binG (by rfl) .neq 32 rfl rfl rfl (hashv_guard (by kernel_rfl) ..) (hashv_neq hashTy p.2.2 p.2.2) ?_
      rw [show (!(decide (p.2.1.1 = p.2.1.1))) = false by simp]
      generalize hac : Act.put _ _ _ = a9
      simp [Act.put] at hac
      subst hac
      have hn1 : w7.cell? ⟨qm, 32, none⟩ = some (.int .i64 p.2.1.2) := by have := key_num HR7.out; exact this
      have hn2 : w7.cell? ⟨qL, fL + i * 67 + 66, none⟩ = some (.int .i64 p.2.1.2) := key_num (off := fL + i * 67 + 34) (item_hash_at (x := (0, p)) HCL.out)
      go_wp2_with fail
      refine ⟨by rfl, ?_⟩
      go_wp2_with fail
      go_roundw
      case rel => exact ⟨i + 1, by omega, by go_num, HM7.out⟩
      case measure => simp [intOf]; omega
    · have HM0 := HM
      clear hmL hm5 HM
      go_wp2_with fail
      go_loopw [10] (fun v10 wr => ∃ i : Nat, i ≤ np ∧ v10 = .int .i64 i ∧ Hid (SayM w wr g b (.slice AL nl cL) (.slice AP np cP) (.slice AO no cO) (.slice A5 nl c5) (.slice A6 np c6))) (fun v10 _ => np - (intOf v10).toNat)
      case atStart => exact ⟨0, Nat.zero_le _, rfl, HM0.out⟩
      case round =>
        clear hlt hi HM0
        obtain ⟨i, hi, rfl, HM⟩ := hrel
        have hmP := HM.out.pins.n_le
        have hm6 := HM.out.k6.n_le
        by_cases hlt : i < np
        · have hil : i < b.pins.length := by rw [← HNP.out]; exact hlt
          go_wp2_with fail
          have HM7 := Lib.hid HM.out.drew
          obtain ⟨p, hp⟩ : ∃ p, p = b.pins[i] := ⟨_, rfl⟩
          obtain ⟨q6, f6, hA6, hq6, hc6'⟩ := ksl_at HM7.out.k6 (i := i) hil
          obtain ⟨qP, fP, hAP, hqP, hcP'⟩ := ksl_at HM7.out.pins (i := i) hil
          subst hA6 hAP
          rw [← hp] at hc6' hcP'
          have HC6 := Lib.hid hc6'
          have HCP := Lib.hid hcP'
          have HPM := Lib.hid (show decide (p ∈ b.pins) = true by rw [hp]; exact decide_eq_true (List.getElem_mem _))
          clear hc6' hcP' hq6 hqP hp HM
          refine wpT_grow [9, 16] [3, 5, 8, 15] [9] (by kernel_rfl) (by kernel_rfl) ?_
          generalize wr.drew = w7 at *
          have cP7 := (row_cell5 HM7.out.row).2.2.1
          refine wpT_seg 9 (by decide) (fun Q1 hQ1 => ?_)
          simp only [List.take_succ_cons, List.take_zero]
          go_wp2_with (refine stop_at (some 112) rfl ?_)
          refine Stop.go (wpList_load_aggG (by rfl) 34 rfl rfl keyTy.ut rfl (cs := encK p) (key_size _ _ p.2) HC6.out ?_)
          generalize hac : Act.put _ _ _ = a9
          simp [Act.put] at hac
          subst hac
          refine wpList_seg 4 _ _ _ (fun Q2 hQ2 => ?_)
          simp only [List.take_succ_cons, List.take_zero]
          go_wp2_with fail
          try simp only [List.drop_succ_cons, List.drop_zero]
          refine Stop.go (wpList_load_aggG (by rfl) 34 rfl rfl keyTy.ut rfl (cs := encK p) (key_size _ _ p.2) HCP.out ?_)
          refine hQ1 _ _ ?_
          simp only [List.drop_succ_cons, List.drop_zero]
          generalize hac : Act.put _ _ _ = a9
          simp [Act.put] at hac
          subst hac
          refine wpT_one (fun Q1 hQ1 => ?_)
          refine wpList_binG (by rfl) .neq 34 rfl rfl rfl (hkv_guard keyTy.gd ..) (hkv_neq keyTy p.2 p.2) ?_
          rw [show (!(decide (p.1.1 = p.1.1) && decide (p.1.2 = p.1.2))) = false by simp]
          refine hQ1 _ _ ⟨Below.refl _ _, ?_⟩
          generalize hac : Act.put _ _ _ = a9
          simp [Act.put] at hac
          subst hac
          refine wpT_seg 6 (by decide) (fun Q1 hQ1 => ?_)
          simp only [List.take_succ_cons, List.take_zero]
          go_wp2_with (refine stop_at (some 124) rfl ?_)
          refine Stop.go (wpList_load_aggG (by rfl) 34 rfl rfl keyTy.ut rfl (cs := encK p) (key_size _ _ p.2) HC6.out ?_)
          refine hQ1 _ _ ?_
          simp only [List.drop_succ_cons, List.drop_zero]
          generalize hac : Act.put _ _ _ = a9
          simp [Act.put] at hac
          subst hac
          refine wpT_one (fun Q1 hQ1 => ?_)
          go_wp2_with fail
          refine (pinned_any g b p w7 HM7.out.book HGD.out).mono ?_
          rintro e w8 ⟨rfl, hb8⟩
          rw [HPM.out]
          have HM8 := Lib.hid (HM7.out.later hb8)
          have HB8 := Lib.hid hb8
          clear hb8
          go_wp2_with fail
          refine ⟨HB8.out, ?_⟩
          refine wpT_seg 2 (by decide) (fun Q1 hQ1 => ?_)
          simp only [List.take_succ_cons, List.take_zero]
          go_wp2_with fail
          try simp only [List.drop_succ_cons, List.drop_zero]
          refine wpT_end ⟨by rfl, ⟨fun _ => ⟨_, _, rfl, HC6.out 0 _ (List.getElem?_eq_getElem (by rw [encK_len]; omega))⟩, fun _ => ⟨_, _, rfl, cP7⟩, fun _ => ⟨_, _, rfl, HCP.out 0 _ (List.getElem?_eq_getElem (by rw [encK_len]; omega))⟩, fun _ => ⟨_, _, rfl, HC6.out 0 _ (List.getElem?_eq_getElem (by rw [encK_len]; omega))⟩, trivial⟩, ?_⟩
          clear cP7 HC6 HCP HM7 HB8
          go_wp2_with fail
          go_roundw
          case rel => exact ⟨i + 1, by omega, by go_num, HM8.out⟩
          case measure => simp [intOf]; omega
        · go_wp2_with fail
          have HM8 := Lib.hid HM.out.drew
          refine wpU_start (fun w' => Below wr.drew.heap.size wr.drew w') [4] 7 (by kernel_rfl) rfl ?_
          clear HM
          generalize wr.drew = w8 at *
          have HRW := Lib.hid HM8.out.row_lt
          refine wpU_load (i := 3) (v := .agg (refCells b (.slice AL nl cL) (.slice AP np cP) (.slice AO no cO)).toArray) rfl (by kernel_rfl) (by kernel_rfl) (by kernel_rfl) (by kernel_rfl) (by kernel_rfl) (by kernel_rfl) rfl (fun wq hbq => exec_load rfl rfl (load_agg book33_u rfl (book33_sz ..) (fun j u hu => (hbq.cell (p := ⟨w.heap.size, 0 + j, none⟩) HRW.out).trans (row_cells (vs := refCells b (.slice AL nl cL) (.slice AP np cP) (.slice AO no cO)) HM8.out.row j u hu)))) (Below.refl _ _) ?_
          generalize hac : Act.put _ _ _ = a9
          simp [Act.put] at hac
          subst hac
          refine wpU_pure (i := 0) (v := bptr g) rfl (by kernel_rfl) (by kernel_rfl) (by kernel_rfl) (by kernel_rfl) (by kernel_rfl) rfl (fun wq => by go_simp) (Below.refl _ _) ?_
          generalize hac : Act.put _ _ _ = a9
          simp [Act.put] at hac
          subst hac
          refine wpU_one (i := 1) (by kernel_rfl) rfl (fun Q' hQ' => ?_)
          go_wp2_with fail
          refine (lines33_any g b w8 HM8.out.book HGD.out (by rw [← HNL.out]; exact HLL.out.1) (by rw [← HNP.out]; exact HLL.out.2)).mono ?_
          rintro e w9 ⟨v9, rfl, ho9, hb9⟩
          obtain ⟨A9, c9, hv9, _, _⟩ := own_form ho9
          subst hv9
          have HM9 := Lib.hid (HM8.out.later hb9)
          have HB9 := Lib.hid hb9
          obtain ⟨sa, hsa⟩ : ∃ sa : ByteArray, sa = ⟨(linesD b).toArray⟩ := ⟨_, rfl⟩
          have HCV := Lib.hid (show ∀ (wq w' : World) (A : Option Addr) (c base : Nat), wq.ownsRow base 5 1 (.slice A (linesD b).length c) (linesD b).length (bcells (linesD b)) → Below wq.heap.size wq w' → (convert 44 9 (.slice A (linesD b).length c)).run Tryz.prog w' = .ok (.string sa) w' from fun wq w' A c base ho hb => by
            rw [hsa]
            exact conv_bytes (P := Tryz.prog) (Rd.of_own (own_below ho hb)) Tryz.underlying44 Tryz.underlying5 Tryz.underlying9 _ rfl c)
          have HO9 := Lib.hid ho9
          clear hsa ho9 hb9
          obtain ⟨nL, hnL⟩ : ∃ nL, nL = (linesD b).length := ⟨_, rfl⟩
          rw [← hnL] at HCV HO9 ⊢
          have HNN := Lib.hid hnL.symm
          clear hnL
          go_wp2_with fail
          refine ⟨okU HB9.out, ?_⟩
          have HRL := Lib.hid (refLines33_any b (.agg (refCells b (.slice AL nl cL) (.slice AP np cP) (.slice AO no cO)).toArray) w.heap.size w9 ⟨_, _, _, rfl, HM9.out.live, HM9.out.pins, HM9.out.ints⟩ HGD.out (by have := HM9.out.size; omega) (by rw [← HNL.out, ← HNP.out]; exact HLL.out))
          refine wpU_two (i := 2) (j := 4) (by kernel_rfl) rfl rfl (fun Q' hQ' => ?_) (fun Q' hQ' => ?_)
          · have hcv := HCV.out w9 w9 A9 c9 _ HO9.out (Below.refl _ _)
            go_wp2_with fail
            refine ⟨okU HB9.out, ?_⟩
            clear hcv
            refine wpU_one (i := 4) (by kernel_rfl) rfl (fun Q' hQ' => ?_)
            go_wp2_with fail
            refine HRL.out.mono ?_
            rintro e w10 ⟨v10, rfl, ho10, hb10⟩
            rw [HNN.out] at ho10
            obtain ⟨A10, c10, hv10, _, _⟩ := own_form ho10
            subst hv10
            have HM10 := Lib.hid (HM9.out.later hb10)
            have HBT := Lib.hid hb10
            have HO10 := Lib.hid ho10
            clear ho10 hb10
            go_wp2_with fail
            refine ⟨okU_past (by kernel_rfl), ?_⟩
            refine wpU_one (i := 5) (by kernel_rfl) rfl (fun Q' hQ' => ?_)
            have hcv := HCV.out w10 w10 A10 c10 _ HO10.out (Below.refl _ _)
            go_wp2_with fail
            refine ⟨okU_past (by kernel_rfl), ?_⟩
            clear hcv
            refine wpU_one (i := 6) (by kernel_rfl) rfl (fun Q' hQ' => ?_)
            go_wp2_with fail
            refine ⟨okU_past (by kernel_rfl), ?_⟩
            refine wpU_end (by kernel_rfl) ?_ _
            go_wp2_with fail
            go_ret
            exact ⟨rfl, HM10.out.below⟩
          · go_wp2_with fail
            refine HRL.out.mono ?_
            rintro e w10 ⟨v10, rfl, ho10, hb10⟩
            rw [HNN.out] at ho10
            obtain ⟨A10, c10, hv10, _, _⟩ := own_form ho10
            subst hv10
            have HM10 := Lib.hid (HM9.out.later hb10)
            have HBT := Lib.hid hb10
            have HO10 := Lib.hid ho10
            clear ho10 hb10
            go_wp2_with fail
            refine ⟨okU_past (by kernel_rfl), ?_⟩
            refine wpU_two (i := 2) (j := 5) (by kernel_rfl) rfl rfl (fun Q' hQ' => ?_) (fun Q' hQ' => ?_)
            · have hcv := HCV.out w9 w10 A9 c9 _ HO9.out HBT.out
              go_wp2_with fail
              refine ⟨okU_past (by kernel_rfl), ?_⟩
              clear hcv
              refine wpU_one (i := 5) (by kernel_rfl) rfl (fun Q' hQ' => ?_)
              have hcv := HCV.out w10 w10 A10 c10 _ HO10.out (Below.refl _ _)
              go_wp2_with fail
              refine ⟨okU_past (by kernel_rfl), ?_⟩
              clear hcv
              refine wpU_one (i := 6) (by kernel_rfl) rfl (fun Q' hQ' => ?_)
              go_wp2_with fail
              refine ⟨okU_past (by kernel_rfl), ?_⟩
              refine wpU_end (by kernel_rfl) ?_ _
              go_wp2_with fail
              go_ret
              exact ⟨rfl, HM10.out.below⟩
            · have hcv := HCV.out w10 w10 A10 c10 _ HO10.out (Below.refl _ _)
              go_wp2_with fail
              refine ⟨okU_past (by kernel_rfl), ?_⟩
              clear hcv
              refine wpU_one (i := 2) (by kernel_rfl) rfl (fun Q' hQ' => ?_)
              have hcv := HCV.out w9 w10 A9 c9 _ HO9.out HBT.out
              go_wp2_with fail
              refine ⟨okU_past (by kernel_rfl), ?_⟩
              clear hcv
              refine wpU_one (i := 6) (by kernel_rfl) rfl (fun Q' hQ' => ?_)
              go_wp2_with fail
              refine ⟨okU_past (by kernel_rfl), ?_⟩
              refine wpU_end (by kernel_rfl) ?_ _
              go_wp2_with fail
              go_ret
              exact ⟨rfl, HM10.out.below⟩
end Go.Proofs.YtplbcbamnjnhlaaGreatDoor
namespace Go.Proofs.YtplbcbamnjnhlaaGreatDoor
open Go.RowKit

theorem wpList_build_oneG {P : Program} {ops : Array Oper} {Q : Exit → Act → World → Prop} {a : Act} {w : World} {rest : List Oper} {o : Oper} (hw : Region.wanted o (yielded ops a.tmps) = true) (t e : TypeId) {x : Operand} (ho : o.op = .buildSlice t 1 #[(0, x)]) {v : Value} (hx : a.eval x = v) {vs : List Value} (hu : P.underlying t = some (.slice e)) {z : Value} (hi : (P.info? e).map (fun i => (i.zero, i.size)) = some (some z, vs.length))
    (hv : v.cells = vs.toArray) (h0 : 0 < vs.length) (hb : vs.length ≤ 16777216) (h : wpList P ops Q rest (a.put o.dst (.slice (some ⟨w.heap.size, 0, none⟩) 1 1)) (w.alloc (.cells vs.toArray e))) : wpList P ops Q (o :: rest) a w := by
  refine wpList_want hw fun K hK => ?_
  have hr := run_build_one (P := P) (w := w) hu hi hv h0 hb
  have e1 : (#[(0, x)] : Array (Nat × Operand)).map (fun (i, x) => (i, a.eval x)) = #[(0, v)] := by simp [hx]
  unfold Oper.wp execOp
  simp only [ho, e1, Sem.run_bind, hr, Result.andThen_ok, Sem.run_pure]
  exact hK _ _ h
def ak1 : K32 := ⟨(z32, 1), z32_len⟩
def ak2 : K32 := ⟨(z32, 2), z32_len⟩
def ar2 : RecD := ⟨2, 0, z32, 1, z32, 0, []⟩
def ar3 : RecD := ⟨3, 0, z32, 0, z32, 0, []⟩
def ar4 : RecD := ⟨5, 0, z32, 2, z32, 0, []⟩
def ar5 : RecD := ⟨7, 0, z32, 0, z32, 0, [(z32, 1)]⟩
def ab1 : BookD := applyD book0 headR
def ab2 : BookD := applyD ab1 ar2
def ab3 : BookD := applyD ab2 ar3
def ab4 : BookD := applyD ab3 ar4
def ab5 : BookD := applyD ab4 ar5
theorem am1 : mayD book0 headR = true := by decide
theorem am2 : mayD ab1 ar2 = true := by decide +kernel
theorem am3 : mayD ab2 ar3 = true := by decide +kernel
theorem am4 : mayD ab3 ar4 = true := by decide +kernel
theorem am5 : mayD ab4 ar5 = true := by decide +kernel
theorem hs0 {k s : Int} {a b : Int} {ks : List KeyD} : Hs ⟨k, s, z32, a, z32, b, ks⟩ := ⟨z32_len, z32_len⟩
theorem ag1 : Good ab1 := applyD_good good0 hs0
theorem ag2 : Good ab2 := applyD_good ag1 hs0
theorem ag3 : Good ab3 := applyD_good ag2 hs0
theorem ag4 : Good ab4 := applyD_good ag3 hs0
theorem ag5 : Good ab5 := applyD_good ag4 hs0
theorem ad4 : (markAt ab4 ak1).isSome = true := by decide +kernel
theorem ad5 : ab5.live.length = 0 ∧ ab5.pins.length = 1 ∧ decide (ak2 ∈ ab5.pins) = true ∧ ab5.next = 1 ∧ ab5.ints.length = 0 := by decide +kernel
theorem build_kindB (k : Int) (w : World) : (Instr.build 38 #[(0, .int .i64 k)]).run Tryz.prog w = .ok (rv ⟨k, 0, z32, 0, z32, 0, []⟩ (.slice none 0 0)) w := by
  unfold Instr.build
  simp only [Sem.run_bind, zero_rec, Result.andThen_ok, recv_cells, run_underlying recTy_u, recTy, fields_rec]
  rfl
theorem build_keyB (k : Int) (x : K32) (w : World) : (Instr.build 38 #[(0, .int .i64 k), (2, kv x)]).run Tryz.prog w = .ok (rv ⟨k, 0, x.1.1, x.1.2, z32, 0, []⟩ (.slice none 0 0)) w := by
  unfold Instr.build
  simp only [Sem.run_bind, zero_rec, Result.andThen_ok, recv_cells, run_underlying recTy_u, recTy, fields_rec]
  have h0 := fill_at (place := rplace) (i := 0) (off := 0) (v := .int .i64 k) (vs := [.int .i64 k]) (rest := [(2, kv x)]) (cs := recCells 0 0 z32 0 z32 0 (.slice none 0 0)) (cs' := [.int .i64 k, .int .i64 0] ++ (hkCells z32 0 ++ (hkCells z32 0 ++ [.slice none 0 0]))) rfl rfl (by show 1 ≤ (recCells 0 0 z32 0 z32 0 (.slice none 0 0)).length; decide) rfl
  have h1 := fill_at (place := rplace) (i := 2) (off := 2) (v := kv x) (vs := encK x) (rest := []) (cs := [.int .i64 k, .int .i64 0] ++ (hkCells z32 0 ++ (hkCells z32 0 ++ [.slice none 0 0]))) (cs' := [.int .i64 k, .int .i64 0] ++ (encK x ++ (hkCells z32 0 ++ [.slice none 0 0]))) rfl (by rw [encK_len]; rfl) (by rw [encK_len]; simp [hkCells_length, z32_len]) (by rw [encK_len]; rfl)
  rw [h1] at h0
  rw [h0]
  rfl
theorem build_keysB (k : Int) (A : Option Addr) (n c : Nat) (w : World) : (Instr.build 38 #[(0, .int .i64 k), (4, .slice A n c)]).run Tryz.prog w = .ok (recv k 0 z32 0 z32 0 (.slice A n c)) w := by
  unfold Instr.build
  simp only [Sem.run_bind, zero_rec, Result.andThen_ok, recv_cells, run_underlying recTy_u, recTy, fields_rec]
  rfl
theorem keys_row {w : World} {q : Nat} {x : KeyD} (h : w.heap[q]? = some (.cells (hkCells x.1 x.2).toArray 34 (0, 0))) (h32 : x.1.length = 32) (h1 : -9223372036854775808 ≤ x.2) (h2 : x.2 ≤ 9223372036854775807) : SlR eKey w w.heap.size (.slice (some ⟨q, 0, none⟩) 1 1) [x] := by
  refine ⟨_, 1, [hkCells x.1 x.2], rfl, Nat.le_refl _, by simp [maxLen], rfl, ?_, ?_⟩
  · have := Rd.row (B := w.heap.size) h (Array.getElem?_eq_some_iff.1 h).1
    simpa using this
  · intro i cs y hc hy
    cases i with
    | zero =>
      injection hc with hc
      injection hy with hy
      subst hc hy
      exact eKey_of h32 h1 h2
    | succ i => simp at hc
structure AwM (w wc : World) (g : Nat) (b : BookD) : Prop where
  book : BookAt wc g b
  k1 : wc.heap[w.heap.size]? = some (.cells (encK ak1).toArray 34 (0, 0))
  k2 : wc.heap[w.heap.size + 1]? = some (.cells (encK ak2).toArray 34 (0, 0))
  below : Below w.heap.size w wc
  gle : w.heap.size + 2 ≤ g
theorem AwM.later {w wc w' : World} {g : Nat} {b : BookD} (h : AwM w wc g b) (hb : Below wc.heap.size wc w') : AwM w w' g b :=
  have hg := h.gle
  have hl := h.book.lt
  ⟨h.book.below hb (by omega), (hb.block _ (by omega)).trans h.k1, (hb.block _ (by omega)).trans h.k2, h.below.trans (hb.mono (by omega)), hg⟩
theorem AwM.write {w wc w' : World} {g : Nat} {b b' : BookD} (h : AwM w wc g b) (hb : BookAt w' g b') (hs : Beside g wc w') : AwM w w' g b' :=
  have hg := h.gle
  have hl := h.book.lt
  have hbl := hs.below (Nat.le_refl g) (by omega)
  ⟨hb, (hbl.block _ (by omega)).trans h.k1, (hbl.block _ (by omega)).trans h.k2, h.below.trans (hbl.mono (by omega)), hg⟩
set_option maxRecDepth 100000 in
set_option maxHeartbeats 16000000 in
theorem awake33_any (w : World) : Calls Tryz.prog 7 #[] w fun e w' => e = .returned (.bool true) ∧ Below w.heap.size w w' := by
  go_enter Tryz.func7, Tryz.ntmps7
  go_wp2_with (refine stop_at (some 7) rfl ?_)
  refine Stop.go (wpList_build rfl 34 rfl (vs := #[(1, .int .i64 1)]) (by rfl) (build_keyK 1 _) ?_)
  refine wpList_alloc rfl 34 rfl zero_key (vs := hkCells z32 0) rfl ?_
  refine wpList_store_agg rfl 34 rfl rfl rfl (store_new2 (vs := encK ak1) (g := w.heap.size) rfl rfl (key_size _ _ ak1.2) (by rw [List.size_toArray, encK_len, hkCells_length]; rfl) (hkCells_one _ _)) ?_
  have HB1 := Lib.hid ((Below.refl _ _).alloc (Nat.le_refl _) (.cells (encK ak1).toArray 34) : Below w.heap.size w _)
  have HS1 := Lib.hid (World.size_alloc w (.cells (encK ak1).toArray 34))
  have HG1 := Lib.hid (Go.heap_alloc_new w (.cells (encK ak1).toArray 34))
  generalize w.alloc (.cells (encK ak1).toArray 34) = w1 at *
  generalize hac : Act.put _ _ _ = a9
  simp [Act.put] at hac
  subst hac
  go_wp2_with (refine stop_at (some 8) rfl ?_)
  refine Stop.go (wpList_build rfl 34 rfl (vs := #[(1, .int .i64 2)]) (by rfl) (build_keyK 2 _) ?_)
  refine wpList_alloc rfl 34 rfl zero_key (vs := hkCells z32 0) rfl ?_
  refine wpList_store_agg rfl 34 rfl rfl rfl (store_new2 (vs := encK ak2) (g := w1.heap.size) rfl rfl (key_size _ _ ak2.2) (by rw [List.size_toArray, encK_len, hkCells_length]; rfl) (hkCells_one _ _)) ?_
  have HB2 := Lib.hid ((Below.refl _ _).alloc (Nat.le_refl _) (.cells (encK ak2).toArray 34) : Below w1.heap.size w1 _)
  have HS2 := Lib.hid (World.size_alloc w1 (.cells (encK ak2).toArray 34))
  have HG2 := Lib.hid (Go.heap_alloc_new w1 (.cells (encK ak2).toArray 34))
  rw [HS1.out] at HG2 HS2 ⊢
  generalize w1.alloc (.cells (encK ak2).toArray 34) = w2 at *
  generalize hac : Act.put _ _ _ = a9
  simp [Act.put] at hac
  subst hac
  go_wp2_with fail
  refine (new_any w2).mono ?_
  rintro e w3 ⟨rfl, hbk, hb3, hs3⟩
  have HM := Lib.hid (show AwM w w3 w2.heap.size book0 from by
    have h1 := HS1.out
    have h2 := HS2.out
    have hb2 := HB2.out
    have hb13 := hb2.trans (hb3.mono (by omega))
    exact ⟨hbk, (hb13.block _ (by omega)).trans HG1.out, (hb3.block _ (by omega)).trans HG2.out, HB1.out.trans (hb13.mono (by omega)), by omega⟩)
  clear hbk hb3 hs3 HB1 HB2 HS1 HS2 HG1 HG2
  generalize w2.heap.size = g at *
  go_wp2_with (refine stop_at (some 11) rfl ?_)
  refine Stop.go (wpList_buildG (by rfl) 38 rfl (vs := #[(0, .int .i64 1)]) (by rfl) (build_kindB 1 _) ?_)
  generalize hac : Act.put _ _ _ = a9
  simp [Act.put] at hac
  subst hac
  go_wp2_with fail
  refine (write33_any g book0 headR none 0 0 w3.heap.size w3 HM.out.book good0 hs0 SlR.nil_ (Nat.le_refl _)).mono ?_
  rintro e w4 ⟨rfl, hbk, hbs⟩
  rw [am1]
  replace HM := Lib.hid (show AwM w w4 g ab1 from HM.out.write hbk hbs)
  clear hbk hbs
  go_wp2_with (refine stop_at (some 15) rfl ?_)
  refine Stop.go (wpList_load_aggG (by rfl) 34 rfl rfl keyTy.ut rfl (cs := encK ak1) (key_size _ _ ak1.2) (row_cells (vs := encK ak1) HM.out.k1) ?_)
  refine wpList_buildG (by rfl) 38 rfl (vs := #[(0, .int .i64 2), (2, kv ak1)]) (by rfl) (build_keyB 2 ak1 _) ?_
  generalize hac : Act.put _ _ _ = a9
  simp [Act.put] at hac
  subst hac
  go_wp2_with fail
  refine (write33_any g ab1 ar2 none 0 0 w4.heap.size w4 HM.out.book ag1 hs0 SlR.nil_ (Nat.le_refl _)).mono ?_
  rintro e w5 ⟨rfl, hbk, hbs⟩
  rw [am2]
  replace HM := Lib.hid (show AwM w w5 g ab2 from HM.out.write hbk hbs)
  clear hbk hbs
  go_wp2_with (refine stop_at (some 21) rfl ?_)
  refine Stop.go (wpList_buildG (by rfl) 38 rfl (vs := #[(0, .int .i64 3)]) (by rfl) (build_kindB 3 _) ?_)
  generalize hac : Act.put _ _ _ = a9
  simp [Act.put] at hac
  subst hac
  go_wp2_with fail
  refine (write33_any g ab2 ar3 none 0 0 w5.heap.size w5 HM.out.book ag2 hs0 SlR.nil_ (Nat.le_refl _)).mono ?_
  rintro e w6 ⟨rfl, hbk, hbs⟩
  rw [am3]
  replace HM := Lib.hid (show AwM w w6 g ab3 from HM.out.write hbk hbs)
  clear hbk hbs
  go_wp2_with (refine stop_at (some 26) rfl ?_)
  refine Stop.go (wpList_load_aggG (by rfl) 34 rfl rfl keyTy.ut rfl (cs := encK ak2) (key_size _ _ ak2.2) (row_cells (vs := encK ak2) HM.out.k2) ?_)
  refine wpList_buildG (by rfl) 38 rfl (vs := #[(0, .int .i64 5), (2, kv ak2)]) (by rfl) (build_keyB 5 ak2 _) ?_
  generalize hac : Act.put _ _ _ = a9
  simp [Act.put] at hac
  subst hac
  go_wp2_with fail
  refine (write33_any g ab3 ar4 none 0 0 w6.heap.size w6 HM.out.book ag3 hs0 SlR.nil_ (Nat.le_refl _)).mono ?_
  rintro e w7 ⟨rfl, hbk, hbs⟩
  rw [am4]
  replace HM := Lib.hid (show AwM w w7 g ab4 from HM.out.write hbk hbs)
  clear hbk hbs
  obtain ⟨mk, hmk⟩ := Option.isSome_iff_exists.1 ad4
  have HMK := Lib.hid hmk
  clear hmk
  go_wp2_with (refine stop_at (some 32) rfl ?_)
  refine Stop.go (wpList_load_agg rfl 34 rfl rfl keyTy.ut rfl (cs := encK ak1) (key_size _ _ ak1.2) (row_cells (vs := encK ak1) HM.out.k1) ?_)
  generalize hac : Act.put _ _ _ = a9
  simp [Act.put] at hac
  subst hac
  go_wp2_with fail
  refine (get_any g ab4 ak1 w7 HM.out.book ag4).mono ?_
  rintro e w8 ⟨rfl, hb8⟩
  rw [HMK.out]
  replace HM := Lib.hid (HM.out.later hb8)
  clear hb8
  go_wp2_with (refine stop_at (some 5) rfl ?_)
  refine Stop.go (wpList_alloc rfl 36 rfl zero_mark (vs := hkCells z32 0) rfl ?_)
  refine wpList_store_agg rfl 36 rfl rfl rfl (store_new2 (vs := encK mk) (g := w8.heap.size) rfl rfl (mark_size _ _ mk.2) (by rw [List.size_toArray, encK_len, hkCells_length]; rfl) (hkCells_one _ _)) ?_
  replace HM := Lib.hid (HM.out.later ((Below.refl _ _).alloc (Nat.le_refl _) (.cells (encK mk).toArray 36)))
  generalize w8.alloc (.cells (encK mk).toArray 36) = w9 at *
  generalize hac : Act.put _ _ _ = a9
  simp [Act.put] at hac
  subst hac
  go_wp2_with (refine stop_at (some 42) rfl ?_)
  refine Stop.go (wpList_load_aggG (by rfl) 34 rfl rfl keyTy.ut rfl (cs := encK ak1) (key_size _ _ ak1.2) (row_cells (vs := encK ak1) HM.out.k1) ?_)
  refine wpList_build_oneG (by rfl) 28 34 rfl rfl (vs := encK ak1) Tryz.underlying28 (z := hkv z32 0) (key_infoB _ _ ak1.2) rfl (by rw [encK_len]; omega) (by rw [encK_len]; decide) ?_
  replace HM := Lib.hid (HM.out.later ((Below.refl _ _).alloc (Nat.le_refl _) (.cells (encK ak1).toArray 34)))
  have HKR := Lib.hid (keys_row (x := (z32, 1)) (Go.heap_alloc_new w9 (.cells (encK ak1).toArray 34)) z32_len (by decide) (by decide))
  generalize w9.alloc (.cells (encK ak1).toArray 34) = w10 at *
  generalize w9.heap.size = qk at *
  refine wpList_buildG (by rfl) 38 rfl (vs := #[(0, .int .i64 7), (4, .slice (some ⟨qk, 0, none⟩) 1 1)]) (by rfl) (build_keysB 7 _ _ _ _) ?_
  generalize hac : Act.put _ _ _ = a9
  simp [Act.put] at hac
  subst hac
  go_wp2_with fail
  refine (write33_any g ab4 ar5 (some ⟨qk, 0, none⟩) 1 1 w10.heap.size w10 HM.out.book ag4 hs0 HKR.out (Nat.le_refl _)).mono ?_
  rintro e w11 ⟨rfl, hbk, hbs⟩
  rw [am5]
  replace HM := Lib.hid (show AwM w w11 g ab5 from HM.out.write hbk hbs)
  clear hbk hbs HKR HMK
  go_wp2_with fail
  refine (live_any g ab5 w11 HM.out.book ag5 (by rw [ad5.1]; decide)).mono ?_
  rintro e w12 ⟨v12, rfl, ho12, hb12⟩
  obtain ⟨A12, c12, hv12, _, _⟩ := own_form ho12
  subst hv12
  rw [List.length_map, ad5.1]
  replace HM := Lib.hid (HM.out.later hb12)
  clear ho12 hb12
  go_wp2_with fail
  refine (pins_any g ab5 w12 HM.out.book ag5 (by rw [ad5.2.1]; decide)).mono ?_
  rintro e w13 ⟨v13, rfl, ho13, hb13⟩
  obtain ⟨A13, c13, hv13, _, _⟩ := own_form ho13
  subst hv13
  rw [ad5.2.1]
  replace HM := Lib.hid (HM.out.later hb13)
  clear ho13 hb13
  go_wp2_with (refine stop_at (some 62) rfl ?_)
  refine Stop.go (wpList_load_aggG (by rfl) 34 rfl rfl keyTy.ut rfl (cs := encK ak2) (key_size _ _ ak2.2) (row_cells (vs := encK ak2) HM.out.k2) ?_)
  generalize hac : Act.put _ _ _ = a9
  simp [Act.put] at hac
  subst hac
  go_wp2_with fail
  refine (pinned_any g ab5 ak2 w13 HM.out.book ag5).mono ?_
  rintro e w14 ⟨rfl, hb14⟩
  rw [ad5.2.2.1]
  replace HM := Lib.hid (HM.out.later hb14)
  clear hb14
  go_wp2_with fail
  refine (next_any g ab5 w14 HM.out.book).mono ?_
  rintro e w15 ⟨rfl, rfl⟩
  rw [ad5.2.2.2.1]
  go_wp2_with fail
  refine (intents_any g ab5 w14 HM.out.book).mono ?_
  rintro e w15 ⟨rfl, rfl⟩
  rw [ad5.2.2.2.2]
  go_wp2_with fail
  go_ret
  exact ⟨rfl, HM.out.below⟩
end Go.Proofs.YtplbcbamnjnhlaaGreatDoor
