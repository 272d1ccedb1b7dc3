/- Texts of this proof joined: Says33, Awake33. -/
import Derived.Test.YtplbcbamnjnhlaaGreatDoorMG00
import Derived.Test.YtplbcbamnjnhlaaGreatDoorMG42
import Derived.Test.YtplbcbamnjnhlaaGreatDoorMG35
import Derived.Test.YtplbcbamnjnhlaaGreatDoorMG34
set_option maxRecDepth 100000
set_option maxHeartbeats 40000000
namespace Go.Proofs.YtplbcbamnjnhlaaGreatDoor
open Go.RowKit

structure SayM (w wc : World) (g : Nat) (b : bd) (L P O v5 v6 : Value) : Prop where
 book : dv wc g b
 row : wc.heap[w.heap.size]? = some (.cells (aj b L P O).toArray 30 (0, 0))
 live : SlR f7 wc w.heap.size L (fh b.live)
 pins : SlR eK wc w.heap.size P b.pins
 ints : SlR f7 wc w.heap.size O b.ints
 k5 : SlR eK wc wc.heap.size v5 (b.live.map (·.1))
 k6 : SlR eK wc wc.heap.size v6 b.pins
 below : Below w.heap.size w wc
 size : w.heap.size + 1 ≤ wc.heap.size
 glt : g + 3 < w.heap.size
theorem SayM.later {w wc w' : World} {g : Nat} {b : bd} {L P O v5 v6 : Value} (h : SayM w wc g b L P O v5 v6) (hb : Below wc.heap.size wc w') : SayM w w' g b L P O v5 v6 :=
 have hs := h.size
 have hg := h.glt
 ⟨h.book.below hb (by omega), (hb.block _ (by omega)).trans h.row, h.live.below (hb.mono (by omega)), h.pins.below (hb.mono (by omega)), h.ints.below (hb.mono (by omega)), h.k5.fut hb (nr _) hb.size, h.k6.fut hb (nr _) hb.size, h.below.trans (hb.mono (by omega)), Nat.le_trans hs hb.size, hg⟩
theorem SayM.row_lt {w wc : World} {g : Nat} {b : bd} {L P O v5 v6 : Value} (h : SayM w wc g b L P O v5 v6) : w.heap.size < wc.heap.size := h.size
theorem SayM.drew {w wc : World} {g : Nat} {b : bd} {L P O v5 v6 : Value} (h : SayM w wc g b L P O v5 v6) : SayM w wc.drew g b L P O v5 v6 := h.later (br _ _).drew
theorem qhx {w : World} {B : Nat} {A : Option Addr} {n c : Nat} {ks : List K32} (h : SlR eK w B (.slice A n c) ks) {i : Nat} (hi : i < ks.length) : ∃ q off, A = some ⟨q, off, none⟩ ∧ q < B ∧ ∀ j u, (encK ks[i])[j]? = some u → w.cell? ⟨q, off + i * 33 + j, none⟩ = some u := by
 obtain ⟨q, off, cs, rfl, _, hq, hrep, hc⟩ := h.get hi (by decide)
 have hrep : cs = encK ks[i] := hrep
 subst hrep
 exact ⟨q, off, rfl, hq, fun j u hu => by rw [Nat.add_assoc]; exact hc j u hu⟩
theorem isl_at {w : World} {B : Nat} {A : Option Addr} {n c : Nat} {l : List cw} (h : SlR f7 w B (.slice A n c) l) {i : Nat} (hi : i < l.length) : ∃ q off, A = some ⟨q, off, none⟩ ∧ q < B ∧ ∀ j u, (an l[i])[j]? = some u → w.cell? ⟨q, off + i * 67 + j, none⟩ = some u := by
 obtain ⟨q, off, cs, rfl, _, hq, hrep, hc⟩ := h.get hi (by decide)
 have hrep : cs = an l[i] := hrep
 subst hrep
 exact ⟨q, off, rfl, hq, fun j u hu => by rw [Nat.add_assoc]; exact hc j u hu⟩
theorem mark_of {b : bd} (h : Good b) {i : Nat} (hi : i < b.live.length) : m8 b b.live[i].1 = some b.live[i].2 := by
 unfold m8
 have hn := l9 h
 have : b.live.find? (fun p => decide (p.1 = b.live[i].1)) = some b.live[i] := by
  rw [List.find?_eq_some_iff_getElem]
  refine ⟨by simp, i, hi, rfl, fun j hj => ?_⟩
  have hne : b.live[j].1 ≠ b.live[i].1 := fun he => by
   have := (List.pairwise_iff_getElem.1 hn) j i (by simp; omega) (by simpa using hi) hj
   simp at this
   exact this he
  simpa using hne
 rw [this]
 rfl
theorem qha (g : Nat) (b : bd) (bv : Value) (B : Nat) (w : World) (h : dv w g b) (hr : RB w B bv b) (hg : Good b) (hB : B ≤ w.heap.size) (hl : b.live.length ≤ 10000 ∧ b.pins.length ≤ 10000) :
  Calls Tryz.prog 17 #[bptr g, bv] w fun e w' => e = .returned (.int .i64 1) ∧ Below w.heap.size w w' := by
 obtain ⟨L, P, O, rfl, hL, hP, hO⟩ := hr
 have HGD := Lh hg
 have HLL := Lh hl
 have hglt := h.lt
 have hb1 : Below w.heap.size w (w.alloc (.cells (aj b L P O).toArray 30)) := (br _ _).alloc (nr _) _
 have HG1 := Lh (hzn w (.cells (aj b L P O).toArray 30))
 have HS1 := Lh (sz_ w (.cells (aj b L P O).toArray 30))
 have HB1 := Lh hb1
 have HK1 := Lh (h.below hb1 hglt)
 have HL := Lh (hL.fut hb1 hB hB)
 have HP := Lh (hP.fut hb1 hB hB)
 have HO := Lh (hO.fut hb1 hB hB)
 have HBB := Lh hB
 clear hg hl hL hP hO hB h hb1
 go_enter Tryz.func17, Tryz.ntmps17
 go_wp2_with (refine ai (some 3) rfl ?_)
 refine Stop.go (bx rfl 30 rfl rfl (vs := aj b L P O) rfl ?_)
 generalize w.alloc (.cells (aj b L P O).toArray 30) = w1 at *
 generalize ha : Act.put _ _ _ = z9; simp [Act.put] at ha; subst ha
 go_wp2_with fail
 refine (qbb g b w1 HK1.o HGD.o (by have := HLL.o.1; omega)).mono ?_
 rintro e w2 ⟨v5, rfl, ho2, hb2⟩
 have HS5 := Lh (show SlR eK w2 w2.heap.size v5 (b.live.map (·.1)) from ip (E := eK) (enc := encK) (fun _ _ => rfl) ho2)
 have HB2 := Lh hb2
 obtain ⟨A5, c5, hv5, hc5, hm5⟩ := HS5.o.form
 subst hv5
 clear ho2 hb2
 go_wp2_with fail
 refine (qa4 g b w2 (HK1.o.below HB2.o (by rw [HS1.o]; omega)) HGD.o (by have := HLL.o.2; omega)).mono ?_
 rintro e w3 ⟨v6, rfl, ho3, hb3⟩
 have HS6 := Lh (show SlR eK w3 w3.heap.size v6 b.pins from ip (E := eK) (enc := encK) (fun _ _ => rfl) ho3)
 obtain ⟨A6, c6, hv6, hc6, hm6⟩ := HS6.o.form
 subst hv6
 have HM := Lh (show SayM w w3 g b L P O (.slice A5 (b.live.map (·.1)).length c5) (.slice A6 b.pins.length c6) from by
  have h1 := HS1.o
  have hs2 := HB2.o.size
  have hb13 := HB2.o.trans (hb3.mono hs2)
  exact ⟨HK1.o.below hb13 (by omega), (hb13.block _ (by omega)).trans HG1.o, HL.o.fut hb13 (by omega) (nr _), HP.o.fut hb13 (by omega) (nr _), HO.o.fut hb13 (by omega) (nr _), HS5.o.fut hb3 (nr _) hb3.size, HS6.o, HB1.o.trans (hb13.mono (by omega)), by have := hb13.size; omega, hglt⟩)
 clear ho3 hb3 HS5 HS6 HB1 HB2 HK1 HL HP HO HG1 HS1 HBB
 obtain ⟨AL, cL, hLe, hcL, hmL⟩ := HM.o.live.form
 subst hLe
 obtain ⟨AP, cP, hPe, hcP, hmP⟩ := HM.o.pins.form
 subst hPe
 obtain ⟨AO, cO, hOe, hcO, hmO⟩ := HM.o.ints.form
 subst hOe
 simp only [j5, List.length_map] at HM hcL hc5 ⊢
 obtain ⟨nl, hnl⟩ : ∃ nl, nl = b.live.length := ⟨_, rfl⟩
 obtain ⟨np, hnp⟩ : ∃ np, np = b.pins.length := ⟨_, rfl⟩
 obtain ⟨no, hno⟩ : ∃ no, no = b.ints.length := ⟨_, rfl⟩
 obtain ⟨hd, hhd⟩ : ∃ hd, hd = b.head := ⟨_, rfl⟩
 obtain ⟨nx, hnx⟩ : ∃ nx, nx = b.next := ⟨_, rfl⟩
 rw [← hnl, ← hnp, ← hno] at HM
 rw [← hnl] at HLL hcL hc5 ⊢
 rw [← hnp] at HLL hcP hc6 ⊢
 have HH := Lh (show Calls Tryz.prog 14 #[bptr g] w3.drew (fun e w' => e = .returned (.bool hd) ∧ w3.drew = w') by rw [hhd]; exact qh7 g b _ HM.o.drew.book)
 have HN := Lh (show Calls Tryz.prog 16 #[bptr g] w3.drew (fun e w' => e = .returned (.int .i64 nx) ∧ w3.drew = w') by rw [hnx]; exact qa9 g b _ HM.o.drew.book)
 have HI := Lh (show Calls Tryz.prog 15 #[bptr g] w3.drew (fun e w' => e = .returned (.int .i64 no) ∧ w3.drew = w') by rw [hno]; exact qf9 g b _ HM.o.drew.book)
 have HC := Lh (fl HM.o.row)
 rw [← hhd, ← hnx] at HC
 have HNL := Lh hnl
 have HNP := Lh hnp
 have HNO := Lh hno
 clear hnl hnp hno hhd hnx hm5 hm6 hmL hmP hmO
 go_wp2_with fail
 have c0 := HC.o.1
 have c1 := HC.o.2.1
 have c2 := HC.o.2.2.1
 have c3 := HC.o.2.2.2.1
 have c4 := HC.o.2.2.2.2
 refine mi [16, 23, 30] [3, 10, 18, 25, 32] [] (by kernel_rfl) (by kernel_rfl) ?_
 refine bh 16 (by decide) (fun Q1 hQ1 => ?_)
 simp only [T1, T0]
 go_wp2_with fail
 try simp only [dr1, dr0]
 refine fy (fun Q1 hQ1 => ?_)
 go_wp2_with fail
 refine HH.o.mono ?_
 rintro e w4 ⟨rfl, rfl⟩
 go_wp2_with fail
 refine ⟨br _ _, ?_⟩
 refine bh 6 (by decide) (fun Q1 hQ1 => ?_)
 simp only [T1, T0]
 go_wp2_with fail
 try simp only [dr1, dr0]
 refine fy (fun Q1 hQ1 => ?_)
 go_wp2_with fail
 refine HN.o.mono ?_
 rintro e w4 ⟨rfl, rfl⟩
 go_wp2_with fail
 refine ⟨br _ _, ?_⟩
 refine bh 6 (by decide) (fun Q1 hQ1 => ?_)
 simp only [T1, T0]
 go_wp2_with fail
 try simp only [dr1, dr0]
 refine fy (fun Q1 hQ1 => ?_)
 go_wp2_with fail
 refine HI.o.mono ?_
 rintro e w4 ⟨rfl, rfl⟩
 go_wp2_with fail
 refine ⟨br _ _, ?_⟩
 refine bh 5 (by decide) (fun Q1 hQ1 => ?_)
 simp only [T1, T0]
 go_wp2_with fail
 try simp only [dr1, dr0]
 refine i4 ⟨by rfl, ⟨fun _ => ⟨_, _, rfl, c1⟩, fun _ => ⟨_, _, rfl, c2⟩, fun _ => ⟨_, _, rfl, c0⟩, fun _ => ⟨_, _, rfl, c4⟩, fun _ => ⟨_, _, rfl, c3⟩, trivial⟩, ?_⟩
 have HMd := Lh HM.o.drew
 clear c0 c1 c2 c3 c4 HC HM HH HN HI
 generalize w3.drew = w4 at *
 have HNO3 := Lh hcO
 clear hcO
 go_wp2_with fail
 go_loopw [7] (fun v7 wr => ∃ i : Nat, i ≤ nl ∧ v7 = .int .i64 i ∧ Hid (SayM w wr g b (.slice AL nl cL) (.slice AP np cP) (.slice AO no cO) (.slice A5 nl c5) (.slice A6 np c6))) (fun v7 _ => nl - (intOf v7).toNat)
 case atStart => exact ⟨0, Nat.zero_le _, rfl, HMd.o⟩
 case round =>
  obtain ⟨i, hi, rfl, HM⟩ := hrel
  have hmL := HM.o.live.n_le
  have hm5 := HM.o.k5.n_le
  by_cases hlt : i < nl
  ·have hil : i < b.live.length := by rw [← HNL.o]; exact hlt
   obtain ⟨p, hp⟩ : ∃ p, p = b.live[i] := ⟨_, rfl⟩
   obtain ⟨q5, f5, hA5, hq5, hc5'⟩ := qhx HM.o.k5 (i := i) (by rw [List.length_map]; exact hil)
   subst hA5
   rw [List.getElem_map, ← hp] at hc5'
   have HMK := Lh (show m8 b p.1 = some p.2 by rw [hp]; exact mark_of HGD.o hil)
   have HC5 := Lh hc5'
   have HQ5 := Lh hq5
   have HPP := Lh hp
   clear hc5' hq5 hp
   go_wp2_with (refine ai (some 62) rfl ?_)
   refine Stop.go (aa rfl 34 rfl rfl a8.ut rfl (cs := encK p.1) (am _ _ p.1.2) HC5.o ?_)
   generalize ha : Act.put _ _ _ = z9; simp [Act.put] at ha; subst ha
   go_wp2_with fail
   refine (qjv g b p.1 wr HM.o.book HGD.o).mono ?_
   rintro e w5 ⟨rfl, hb5⟩
   rw [HMK.o]
   have HM5 := Lh (HM.o.later hb5)
   have HC5' := Lh (show ∀ j u, (encK p.1)[j]? = some u → w5.cell? ⟨q5, f5 + i * 33 + j, none⟩ = some u from fun j u hu => (hb5.cell (p := ⟨q5, f5 + i * 33 + j, none⟩) HQ5.o).trans (HC5.o j u hu))
   have HQ5' := Lh (Nat.lt_of_lt_of_le HQ5.o hb5.size)
   clear hb5 HM HC5 HQ5 HMK
   go_wp2_with (refine ai (some 8) rfl ?_)
   refine Stop.go (ax rfl 36 rfl io (vs := ae z32 0) rfl ?_)
   refine ac rfl 36 rfl rfl rfl (cg (vs := encK p.2) (g := w5.heap.size) rfl rfl (dj _ _ p.2.2) (by rw [List.size_toArray, bg, af]; rfl) (ba _ _)) ?_
   have hb6 : Below w5.heap.size w5 (w5.alloc (.cells (encK p.2).toArray 36)) := (br _ _).alloc (nr _) _
   have HM6 := Lh (HM5.o.later hb6)
   have HC6 := Lh (show ∀ j u, (encK p.1)[j]? = some u → (w5.alloc (.cells (encK p.2).toArray 36)).cell? ⟨q5, f5 + i * 33 + j, none⟩ = some u from fun j u hu => (hb6.cell (p := ⟨q5, f5 + i * 33 + j, none⟩) HQ5'.o).trans (HC5'.o j u hu))
   have HMR := Lh (au (vs := encK p.2) (hzn w5 (.cells (encK p.2).toArray 36)))
   clear hb6 HM5 HC5' HQ5'
   generalize w5.alloc (.cells (encK p.2).toArray 36) = w6 at *
   generalize w5.heap.size = qm at *
   generalize ha : Act.put _ _ _ = z9; simp [Act.put] at ha; subst ha
   go_wp2_with fail
   refine Text.wp_text [13, 24] (by kernel_rfl) (by kernel_rfl) (fun Q' hQ' => ?_)
   have HM7 := Lh HM6.o.drew
   have HC7 := Lh (show ∀ j u, (encK p.1)[j]? = some u → w6.drew.cell? ⟨q5, f5 + i * 33 + j, none⟩ = some u from HC6.o)
   have HR7 := Lh (show ∀ j u, (encK p.2)[j]? = some u → w6.drew.cell? ⟨qm, 0 + j, none⟩ = some u from HMR.o)
   clear HM6 HC6 HMR
   generalize w6.drew = w7 at *
   have cL7 := (fl HM7.o.row).2.1
   obtain ⟨qL, fL, hAL, _, hcL'⟩ := isl_at HM7.o.live (i := i) (by rw [j5]; exact hil)
   subst hAL
   have HCL := Lh (show ∀ j u, (an ((0, p) : cw))[j]? = some u → w7.cell? ⟨qL, fL + i * 67 + j, none⟩ = some u by
    have e : (fh b.live)[i]'(by rw [j5]; exact hil) = ((0, p) : cw) := by rw [HPP.o]; simp [fh]
    rw [e] at hcL'
    exact hcL')
   clear hcL'
   go_wp2_with (refine ai (some 72) rfl ?_)
   refine Stop.go (ar (by rfl) 34 rfl rfl a8.ut rfl (cs := encK p.1) (am _ _ p.1.2) HC7.o ?_)
   generalize ha : Act.put _ _ _ = z9; simp [Act.put] at ha; subst ha
   refine aq 5 _ _ _ (fun Q2 hQ2 => ?_)
   simp only [T1, T0]
   go_wp2_with fail
   try simp only [dr1, dr0]
   refine Stop.go (ar (by rfl) 34 rfl rfl a8.ut rfl (cs := encK p.1) (am _ _ p.1.2) (nu (x := (0, p)) HCL.o) ?_)
   refine il (by rfl) .neq 34 rfl rfl rfl (ez a8.gd ..) (i5 a8 p.1.2 p.1.2) ?_
   rw [show (!(decide (p.1.1.1 = p.1.1.1) && decide (p.1.1.2 = p.1.1.2))) = false by simp]
   generalize ha : Act.put _ _ _ = z9; simp [Act.put] at ha; subst ha
   refine aq 3 _ _ _ (fun Q2 hQ2 => ?_)
   simp only [T1, T0]
   go_wp2_with fail
   try simp only [dr1, dr0]
   refine Stop.go (ar (by rfl) 32 rfl rfl fj.ua rfl (cs := ak p.2.1.1) (fp _ p.2.2) (tq HR7.o) ?_)
   generalize ha : Act.put _ _ _ = z9; simp [Act.put] at ha; subst ha
   refine aq 5 _ _ _ (fun Q2 hQ2 => ?_)
   simp only [T1, T0]
   go_wp2_with fail
   try simp only [dr1, dr0]
   refine Stop.go (ar (by rfl) 32 rfl rfl fj.ua rfl (cs := ak p.2.1.1) (fp _ p.2.2) (tq (oq (x := (0, p)) HCL.o)) ?_)
   refine il (by rfl) .neq 32 rfl rfl rfl (kp (by kernel_rfl) ..) (o3 fj p.2.2 p.2.2) ?_
   rw [show (!(decide (p.2.1.1 = p.2.1.1))) = false by simp]
   generalize ha : Act.put _ _ _ = z9; simp [Act.put] at ha; subst ha
   have hn1 : w7.cell? ⟨qm, 32, none⟩ = some (.int .i64 p.2.1.2) := by have := xt HR7.o; exact this
   have hn2 : w7.cell? ⟨qL, fL + i * 67 + 66, none⟩ = some (.int .i64 p.2.1.2) := xt (off := fL + i * 67 + 34) (oq (x := (0, p)) HCL.o)
   go_wp2_with fail
   refine ⟨by rfl, ?_⟩
   go_wp2_with fail
   go_roundw
   case rel => exact ⟨i + 1, by omega, by go_num, HM7.o⟩
   case measure => simp [intOf]; omega
  ·have HM0 := HM
   clear hmL hm5 HM
   go_wp2_with fail
   go_loopw [10] (fun v10 wr => ∃ i : Nat, i ≤ np ∧ v10 = .int .i64 i ∧ Hid (SayM w wr g b (.slice AL nl cL) (.slice AP np cP) (.slice AO no cO) (.slice A5 nl c5) (.slice A6 np c6))) (fun v10 _ => np - (intOf v10).toNat)
   case atStart => exact ⟨0, Nat.zero_le _, rfl, HM0.o⟩
   case round =>
    clear hlt hi HM0
    obtain ⟨i, hi, rfl, HM⟩ := hrel
    have hmP := HM.o.pins.n_le
    have hm6 := HM.o.k6.n_le
    by_cases hlt : i < np
    ·have hil : i < b.pins.length := by rw [← HNP.o]; exact hlt
     go_wp2_with fail
     have HM7 := Lh HM.o.drew
     obtain ⟨p, hp⟩ : ∃ p, p = b.pins[i] := ⟨_, rfl⟩
     obtain ⟨q6, f6, hA6, hq6, hc6'⟩ := qhx HM7.o.k6 (i := i) hil
     obtain ⟨qP, fP, hAP, hqP, hcP'⟩ := qhx HM7.o.pins (i := i) hil
     subst hA6 hAP
     rw [← hp] at hc6' hcP'
     have HC6 := Lh hc6'
     have HCP := Lh hcP'
     have HPM := Lh (show decide (p ∈ b.pins) = true by rw [hp]; exact decide_eq_true (List.getElem_mem _))
     clear hc6' hcP' hq6 hqP hp HM
     refine mi [9, 16] [3, 5, 8, 15] [9] (by kernel_rfl) (by kernel_rfl) ?_
     generalize wr.drew = w7 at *
     have cP7 := (fl HM7.o.row).2.2.1
     refine bh 9 (by decide) (fun Q1 hQ1 => ?_)
     simp only [T1, T0]
     go_wp2_with (refine ai (some 112) rfl ?_)
     refine Stop.go (ar (by rfl) 34 rfl rfl a8.ut rfl (cs := encK p) (am _ _ p.2) HC6.o ?_)
     generalize ha : Act.put _ _ _ = z9; simp [Act.put] at ha; subst ha
     refine aq 4 _ _ _ (fun Q2 hQ2 => ?_)
     simp only [T1, T0]
     go_wp2_with fail
     try simp only [dr1, dr0]
     refine Stop.go (ar (by rfl) 34 rfl rfl a8.ut rfl (cs := encK p) (am _ _ p.2) HCP.o ?_)
     refine hQ1 _ _ ?_
     simp only [dr1, dr0]
     generalize ha : Act.put _ _ _ = z9; simp [Act.put] at ha; subst ha
     refine fy (fun Q1 hQ1 => ?_)
     refine il (by rfl) .neq 34 rfl rfl rfl (ez a8.gd ..) (i5 a8 p.2 p.2) ?_
     rw [show (!(decide (p.1.1 = p.1.1) && decide (p.1.2 = p.1.2))) = false by simp]
     refine hQ1 _ _ ⟨br _ _, ?_⟩
     generalize ha : Act.put _ _ _ = z9; simp [Act.put] at ha; subst ha
     refine bh 6 (by decide) (fun Q1 hQ1 => ?_)
     simp only [T1, T0]
     go_wp2_with (refine ai (some 124) rfl ?_)
     refine Stop.go (ar (by rfl) 34 rfl rfl a8.ut rfl (cs := encK p) (am _ _ p.2) HC6.o ?_)
     refine hQ1 _ _ ?_
     simp only [dr1, dr0]
     generalize ha : Act.put _ _ _ = z9; simp [Act.put] at ha; subst ha
     refine fy (fun Q1 hQ1 => ?_)
     go_wp2_with fail
     refine (qhn g b p w7 HM7.o.book HGD.o).mono ?_
     rintro e w8 ⟨rfl, hb8⟩
     rw [HPM.o]
     have HM8 := Lh (HM7.o.later hb8)
     have HB8 := Lh hb8
     clear hb8
     go_wp2_with fail
     refine ⟨HB8.o, ?_⟩
     refine bh 2 (by decide) (fun Q1 hQ1 => ?_)
     simp only [T1, T0]
     go_wp2_with fail
     try simp only [dr1, dr0]
     refine i4 ⟨by rfl, ⟨fun _ => ⟨_, _, rfl, HC6.o 0 _ (List.getElem?_eq_getElem (by rw [bg]; omega))⟩, fun _ => ⟨_, _, rfl, cP7⟩, fun _ => ⟨_, _, rfl, HCP.o 0 _ (List.getElem?_eq_getElem (by rw [bg]; omega))⟩, fun _ => ⟨_, _, rfl, HC6.o 0 _ (List.getElem?_eq_getElem (by rw [bg]; omega))⟩, trivial⟩, ?_⟩
     clear cP7 HC6 HCP HM7 HB8
     go_wp2_with fail
     go_roundw
     case rel => exact ⟨i + 1, by omega, by go_num, HM8.o⟩
     case measure => simp [intOf]; omega
    ·go_wp2_with fail
     have HM8 := Lh HM.o.drew
     refine m4 (fun w' => Below wr.drew.heap.size wr.drew w') [4] 7 (by kernel_rfl) rfl ?_
     clear HM
     generalize wr.drew = w8 at *
     have HRW := Lh HM8.o.row_lt
     refine wq3 (i := 3) (v := .agg (aj b (.slice AL nl cL) (.slice AP np cP) (.slice AO no cO)).toArray) rfl (by kernel_rfl) rfl (fun wq hbq => ee rfl rfl (fx ft rfl (eh ..) (fun j u hu => (hbq.cell (p := ⟨w.heap.size, 0 + j, none⟩) HRW.o).trans (au (vs := aj b (.slice AL nl cL) (.slice AP np cP) (.slice AO no cO)) HM8.o.row j u hu)))) (br _ _) ?_
     generalize ha : Act.put _ _ _ = z9; simp [Act.put] at ha; subst ha
     refine wq1 (i := 0) (v := bptr g) rfl (by kernel_rfl) rfl (fun wq => by go_simp) (br _ _) ?_
     generalize ha : Act.put _ _ _ = z9; simp [Act.put] at ha; subst ha
     refine ch (i := 1) (by kernel_rfl) rfl (fun Q' hQ' => ?_)
     go_wp2_with fail
     refine (ns g b w8 HM8.o.book HGD.o (by rw [← HNL.o]; exact HLL.o.1) (by rw [← HNP.o]; exact HLL.o.2)).mono ?_
     rintro e w9 ⟨v9, rfl, ho9, hb9⟩
     obtain ⟨A9, c9, hv9, _, _⟩ := ap ho9
     subst hv9
     have HM9 := Lh (HM8.o.later hb9)
     have HB9 := Lh hb9
     obtain ⟨sa, hsa⟩ : ∃ sa : ByteArray, sa = ⟨(jn b).toArray⟩ := ⟨_, rfl⟩
     have HCV := Lh (show ∀ (wq w' : World) (A : Option Addr) (c base : Nat), wq.ownsRow base 5 1 (.slice A (jn b).length c) (jn b).length (ak (jn b)) → Below wq.heap.size wq w' → (convert 44 9 (.slice A (jn b).length c)).run Tryz.prog w' = .ok (.string sa) w' from fun wq w' A c base ho hb => by
      rw [hsa]
      exact kr (P := Tryz.prog) (Rd.of_own (bt ho hb)) Tryz.underlying44 Tryz.underlying5 Tryz.underlying9 _ rfl c)
     have HO9 := Lh ho9
     clear hsa ho9 hb9
     obtain ⟨nL, hnL⟩ : ∃ nL, nL = (jn b).length := ⟨_, rfl⟩
     rw [← hnL] at HCV HO9 ⊢
     have HNN := Lh hnL.symm
     clear hnL
     go_wp2_with fail
     refine ⟨okU HB9.o, ?_⟩
     have HRL := Lh (qaw b (.agg (aj b (.slice AL nl cL) (.slice AP np cP) (.slice AO no cO)).toArray) w.heap.size w9 ⟨_, _, _, rfl, HM9.o.live, HM9.o.pins, HM9.o.ints⟩ HGD.o (by have := HM9.o.size; omega) (by rw [← HNL.o, ← HNP.o]; exact HLL.o))
     refine pv (i := 2) (j := 4) (by kernel_rfl) rfl rfl (fun Q' hQ' => ?_) (fun Q' hQ' => ?_)
     ·have hcv := HCV.o w9 w9 A9 c9 _ HO9.o (br _ _)
      go_wp2_with fail
      refine ⟨okU HB9.o, ?_⟩
      clear hcv
      refine ch (i := 4) (by kernel_rfl) rfl (fun Q' hQ' => ?_)
      go_wp2_with fail
      refine HRL.o.mono ?_
      rintro e w10 ⟨v10, rfl, ho10, hb10⟩
      rw [HNN.o] at ho10
      obtain ⟨A10, c10, hv10, _, _⟩ := ap ho10
      subst hv10
      have HM10 := Lh (HM9.o.later hb10)
      have HBT := Lh hb10
      have HO10 := Lh ho10
      clear ho10 hb10
      go_wp2_with fail
      refine ⟨bu (by kernel_rfl), ?_⟩
      refine ch (i := 5) (by kernel_rfl) rfl (fun Q' hQ' => ?_)
      have hcv := HCV.o w10 w10 A10 c10 _ HO10.o (br _ _)
      go_wp2_with fail
      refine ⟨bu (by kernel_rfl), ?_⟩
      clear hcv
      refine ch (i := 6) (by kernel_rfl) rfl (fun Q' hQ' => ?_)
      go_wp2_with fail
      refine ⟨bu (by kernel_rfl), ?_⟩
      refine mg (by kernel_rfl) ?_ _
      go_wp2_with fail
      go_ret
      exact ⟨rfl, HM10.o.below⟩
     ·go_wp2_with fail
      refine HRL.o.mono ?_
      rintro e w10 ⟨v10, rfl, ho10, hb10⟩
      rw [HNN.o] at ho10
      obtain ⟨A10, c10, hv10, _, _⟩ := ap ho10
      subst hv10
      have HM10 := Lh (HM9.o.later hb10)
      have HBT := Lh hb10
      have HO10 := Lh ho10
      clear ho10 hb10
      go_wp2_with fail
      refine ⟨bu (by kernel_rfl), ?_⟩
      refine pv (i := 2) (j := 5) (by kernel_rfl) rfl rfl (fun Q' hQ' => ?_) (fun Q' hQ' => ?_)
      ·have hcv := HCV.o w9 w10 A9 c9 _ HO9.o HBT.o
       go_wp2_with fail
       refine ⟨bu (by kernel_rfl), ?_⟩
       clear hcv
       refine ch (i := 5) (by kernel_rfl) rfl (fun Q' hQ' => ?_)
       have hcv := HCV.o w10 w10 A10 c10 _ HO10.o (br _ _)
       go_wp2_with fail
       refine ⟨bu (by kernel_rfl), ?_⟩
       clear hcv
       refine ch (i := 6) (by kernel_rfl) rfl (fun Q' hQ' => ?_)
       go_wp2_with fail
       refine ⟨bu (by kernel_rfl), ?_⟩
       refine mg (by kernel_rfl) ?_ _
       go_wp2_with fail
       go_ret
       exact ⟨rfl, HM10.o.below⟩
      ·have hcv := HCV.o w10 w10 A10 c10 _ HO10.o (br _ _)
       go_wp2_with fail
       refine ⟨bu (by kernel_rfl), ?_⟩
       clear hcv
       refine ch (i := 2) (by kernel_rfl) rfl (fun Q' hQ' => ?_)
       have hcv := HCV.o w9 w10 A9 c9 _ HO9.o HBT.o
       go_wp2_with fail
       refine ⟨bu (by kernel_rfl), ?_⟩
       clear hcv
       refine ch (i := 6) (by kernel_rfl) rfl (fun Q' hQ' => ?_)
       go_wp2_with fail
       refine ⟨bu (by kernel_rfl), ?_⟩
       refine mg (by kernel_rfl) ?_ _
       go_wp2_with fail
       go_ret
       exact ⟨rfl, HM10.o.below⟩

def ak1 : K32 := ⟨(z32, 1), bf⟩
def ak2 : K32 := ⟨(z32, 2), bf⟩
theorem hs0 {k s : Int} {a b : Int} {ks : List KeyD} : Hs ⟨k, s, z32, a, z32, b, ks⟩ := ⟨bf, bf⟩
theorem qgk (k : Int) (w : World) : (Instr.build 38 #[(0, .int .i64 k)]).run Tryz.prog w = .ok (rv ⟨k, 0, z32, 0, z32, 0, []⟩ (.slice none 0 0)) w := by
 unfold Instr.build
 simp only [Sem.run_bind, ge, Result.andThen_ok, a7, run_underlying dm, zd, mb]
 rfl
theorem qij (k : Int) (x : K32) (w : World) : (Instr.build 38 #[(0, .int .i64 k), (2, kv x)]).run Tryz.prog w = .ok (rv ⟨k, 0, x.1.1, x.1.2, z32, 0, []⟩ (.slice none 0 0)) w := by
 unfold Instr.build
 simp only [Sem.run_bind, ge, Result.andThen_ok, a7, run_underlying dm, zd, mb]
 have h0 := ig (place := va) (i := 0) (off := 0) (v := .int .i64 k) (vs := [.int .i64 k]) (rest := [(2, kv x)]) (cs := ag 0 0 z32 0 z32 0 (.slice none 0 0)) (cs' := [.int .i64 k, .int .i64 0] ++ (ae z32 0 ++ (ae z32 0 ++ [.slice none 0 0]))) rfl rfl (by show 1 ≤ (ag 0 0 z32 0 z32 0 (.slice none 0 0)).length; decide) rfl
 have h1 := ig (place := va) (i := 2) (off := 2) (v := kv x) (vs := encK x) (rest := []) (cs := [.int .i64 k, .int .i64 0] ++ (ae z32 0 ++ (ae z32 0 ++ [.slice none 0 0]))) (cs' := [.int .i64 k, .int .i64 0] ++ (encK x ++ (ae z32 0 ++ [.slice none 0 0]))) rfl (by rw [bg]; rfl) (by rw [bg]; simp [af, bf]) (by rw [bg]; rfl)
 rw [h1] at h0
 rw [h0]
 rfl
structure AwM (w wc : World) (g : Nat) (b : bd) : Prop where
 book : dv wc g b
 k1 : wc.heap[w.heap.size]? = some (.cells (encK ak1).toArray 34 (0, 0))
 k2 : wc.heap[w.heap.size + 1]? = some (.cells (encK ak2).toArray 34 (0, 0))
 below : Below w.heap.size w wc
 gle : w.heap.size + 2 ≤ g
end Go.Proofs.YtplbcbamnjnhlaaGreatDoor
