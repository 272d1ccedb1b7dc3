/- Texts of this proof joined: Hist9, RefLines. -/
import Derived.Test.YtplbcbamnjnhlaaGreatDoorMG00
import Derived.Test.YtplbcbamnjnhlaaGreatDoorMG41
import Derived.Test.YtplbcbamnjnhlaaGreatDoorMG29
import Derived.Test.YtplbcbamnjnhlaaGreatDoorMG27
set_option maxRecDepth 100000
set_option maxHeartbeats 40000000
namespace Go.Proofs.YtplbcbamnjnhlaaGreatDoor
open Go.RowKit

def qcf (l : List UInt8) (w : World) (e : Ending) (w' : World) : Prop :=
 ∃ rs n0 us A1 q M v6 v7 v8 t L P O, js l rs n0 ∧ e = .returned (.tuple #[v6, v7, v8, .int .i64 (evAt rs (nEv ay rs) : Nat)]) ∧ EvS w w' q M rs us A1 (nEv ay rs) (nEv ay rs) (nEv ay rs) (bkAt ay rs (nEv ay rs)) v6 v7 v8 t L P O
theorem int_app : oe Tryz.prog 51 3 1 8 (.int .i64 0) := u1 (by kernel_rfl) (by kernel_rfl) rfl (by omega)
theorem book_app : oe Tryz.prog 52 30 5 88 (.agg (aj ay nilV nilV nilV).toArray) := u1 (by kernel_rfl) (by kernel_rfl) rfl (by omega)
theorem qgn (b : bd) (L P O : Value) : (Tryz.prog.info? 30).map (fun i => (i.zero, i.size)) = some (some (.agg (aj ay nilV nilV nilV).toArray), (aj b L P O).length) := by show _ = some (_, 5); kernel_rfl
theorem qic (l : List UInt8) (A : Option Addr) (c B : Nat) (w : World) (hr : Rd w B A (ak l)) (hB : B ≤ w.heap.size) (hl : l.length ≤ 10000) (hc : l.length ≤ c) :
  Calls Tryz.prog 19 #[.slice A l.length c] w (qcf l w) := by
 have HR := Lh hr
 have HBW := Lh hB
 clear hr hB
 go_enter Tryz.func19, Tryz.ntmps19
 go_wp2_with (refine ai (some 9) rfl ?_)
 refine Stop.go (ax rfl 30 rfl nj (vs := aj ay nilV nilV nilV) rfl ?_)
 have HB1 := Lh ((br _ _).alloc (nr _) (.cells (aj ay nilV nilV nilV).toArray 30) : Below w.heap.size w _)
 have HQ1 := Lh (hzn w (.cells (aj ay nilV nilV nilV).toArray 30))
 have HS1 := Lh (sz_ w (.cells (aj ay nilV nilV nilV).toArray 30))
 generalize w.alloc (.cells (aj ay nilV nilV nilV).toArray 30) = w1 at *
 generalize ha : Act.put _ _ _ = z9; simp [Act.put] at ha; subst ha
 go_wp2_with fail
 refine (qhg l A c B w1 (HR.o.below (HB1.o.mono HBW.o)) (Nat.le_trans HBW.o HB1.o.size) (by omega) hc).mono ?_
 rintro e w2 ⟨rs, n0, v, rfl, hat, ho, hb2⟩
 have HAT := Lh hat
 obtain ⟨A1, c1, rfl, hc1, _⟩ := ho.form
 obtain ⟨us, hus⟩ := qjh ho.sl
 have HSL := Lh ho.sl
 obtain ⟨q, hq⟩ : ∃ q, q = w.heap.size := ⟨_, rfl⟩
 obtain ⟨n, hn⟩ : ∃ n, n = rs.length := ⟨_, rfl⟩
 have hnl : n ≤ 10000 := by have := si hat.lines; omega
 have HM := Lh (show EvS w w2 q w2.heap.size rs us A1 0 0 0 ay nilV nilV nilV ⟨fun _ => nilV, fun _ => nilV, fun _ => nilV⟩ nilV nilV nilV from
  ⟨World.ownsRow_nil _ _ _ _, World.ownsRow_nil _ _ _ _, World.ownsRow_nil _ _ _ _, (fun j hj => nomatch hj), (hb2.block _ (by rw [HS1.o]; omega)).trans (by rw [hq]; exact HQ1.o), ⟨SlR.nil_, SlR.nil_, SlR.nil_, ou _ _, ou _ _, ou _ _⟩, hus, HB1.o.trans (hb2.mono HB1.o.size), by omega, by have := hb2.size; rw [HS1.o] at this; omega, nr _⟩)
 rw [← hn] at HSL hc1
 rw [← hn, ← hq]
 have HN := Lh hn
 have hc9 := (HSL.o.n_le).2
 clear hat ho hb2 hus hn hq HSL HB1 HQ1 HS1 HR HBW
 obtain ⟨M, hM⟩ : ∃ M, M = w2.heap.size := ⟨_, rfl⟩
 rw [← hM] at HM
 clear hM
 go_wp2_with fail
 go_loopw [6, 7, 8, 12, 13] (fun v6 v7 v8 v12 v13 wr => ∃ (i : Nat) (A6 A7 A8 : Option Addr) (c6 c7 c8 : Nat) (t : Bk3) (L P O : Value), i ≤ n ∧ v6 = .slice A6 i c6 ∧ v7 = .slice A7 i c7 ∧ v8 = .slice A8 i c8 ∧ v12 = .int .i64 (evAt rs i : Nat) ∧ v13 = .int .i64 i ∧
  Hid (i ≤ nEv ay rs) ∧ Hid (EvS w wr q M rs us A1 i i i (bkAt ay rs i) (.slice A6 i c6) (.slice A7 i c7) (.slice A8 i c8) t L P O)) (fun _ _ _ _ v13 _ => n - (intOf v13).toNat)
 case atStart => exact ⟨0, none, none, none, 0, 0, 0, _, _, _, _, Nat.zero_le _, rfl, rfl, rfl, rfl, rfl, Nat.zero_le _, by rw [j7]; exact HM.o⟩
 case round =>
  clear HM
  obtain ⟨i, A6, A7, A8, c6, c7, c8, t, L, P, O, hi, rfl, rfl, rfl, rfl, rfl, HEV, HM⟩ := hrel
  obtain ⟨k, hk⟩ : ∃ k, k = evAt rs i := ⟨_, rfl⟩
  have hkl : evAt rs i ≤ l.length := j2 HAT.o i
  rw [← hk] at hkl
  rw [← hk]
  have HKE := Lh hk
  clear hk
  obtain ⟨b, hb⟩ : ∃ b, b = bkAt ay rs i := ⟨_, rfl⟩
  rw [← hb] at HM
  have HBE := Lh hb
  have HLN := Lh (show b.live.length ≤ 10000 ∧ b.pins.length ≤ 10000 ∧ b.ints.length ≤ 10000 by rw [hb]; exact x7 HEV.o (by have := HN.o; omega))
  clear hb
  by_cases hlt : i < n
  ·have hlt2 : i < rs.length := by rw [← HN.o]; exact hlt
   obtain ⟨b1, o1, hA1, hb1g, hcell⟩ := HM.o.all.row i hlt2
   subst hA1
   obtain ⟨A2, c2, hu, hks⟩ := HM.o.all.keys i hlt2
   have hhs := HM.o.all.hs i hlt2
   rw [hu] at hcell
   obtain ⟨r, hr⟩ : ∃ r, r = rs[i] := ⟨_, rfl⟩
   rw [← hr] at hhs hks hcell hu
   have HUI := Lh hu
   have HHS := Lh hhs
   have HKS := Lh hks
   have HC := Lh hcell
   have HLT2 := Lh hlt2
   have HBG := Lh (show b1 < wr.heap.size by have := HM.o.qlt; omega)
   have HGR := Lh (show jj r from HAT.o.good r (by rw [hr]; exact List.getElem_mem _))
   have HRL := Lh (show ∀ h : i < rs.length, r = rs[i] from fun _ => hr)
   have HRD := Lh (show rs.getD i dw = r by rw [ra hlt2, hr])
   clear hr hhs hks hcell hu hlt2 hb1g
   go_wp2_with fail
   refine m4 (fun w' => Below wr.drew.heap.size wr.drew w') [10] 12 (by kernel_rfl) rfl ?_
   have HM3 := Lh HM.o.drew
   have HC3 := Lh (show ∀ (j : Nat) (u : Value), (ag r.kind r.seq r.kh r.kk r.mh r.ms (.slice A2 r.keys.length c2))[j]? = some u → wr.drew.cell? ⟨b1, o1 + i * 69 + j, none⟩ = some u from HC.o)
   have HKS3 := Lh (show SlR eKey wr.drew M (.slice A2 r.keys.length c2) r.keys from HKS.o.below (br M wr).drew)
   have HBG3 := Lh (show b1 < wr.drew.heap.size from HBG.o)
   clear HM HC HKS HBG
   generalize wr.drew = w3 at *
   have HQ3 := Lh (show q < w3.heap.size by have := HM3.o.qlt; omega)
   refine wq1 (i := 1) (v := .slice (some ⟨b1, o1, none⟩) n c1) rfl (by kernel_rfl) rfl (fun wq => by go_simp) (br _ _) ?_
   generalize ha : Act.put _ _ _ = z9; simp [Act.put] at ha; subst ha
   refine wq1 (i := 2) (v := .int .i64 i) rfl (by kernel_rfl) rfl (fun wq => by go_simp) (br _ _) ?_
   generalize ha : Act.put _ _ _ = z9; simp [Act.put] at ha; subst ha
   refine wq1 (i := 3) (v := .pointer (some ⟨b1, o1 + i * 69, none⟩)) rfl (by kernel_rfl) rfl (fun wq => by go_simp) (br _ _) ?_
   generalize ha : Act.put _ _ _ = z9; simp [Act.put] at ha; subst ha
   refine wq3 (i := 0) (v := .agg (aj b L P O).toArray) rfl (by kernel_rfl) rfl (fun wq hbq => ee rfl rfl (fx ft rfl (eh ..) (fun j u hu => (hbq.cell (p := ⟨q, 0 + j, none⟩) HQ3.o).trans (au (vs := aj b L P O) HM3.o.row j u hu)))) (br _ _) ?_
   generalize ha : Act.put _ _ _ = z9; simp [Act.put] at ha; subst ha
   refine wq3 (i := 4) (v := rv r (.slice A2 r.keys.length c2)) rfl (by kernel_rfl) rfl (fun wq hbq => ee rfl rfl (fx ef rfl (dc _ _ _ _ _ _ (.slice A2 r.keys.length c2) HHS.o.1 HHS.o.2) (fun j u hu => (hbq.cell (p := ⟨b1, o1 + i * 69 + j, none⟩) HBG3.o).trans (HC3.o j u hu)))) (br _ _) ?_
   generalize ha : Act.put _ _ _ = z9; simp [Act.put] at ha; subst ha
   have HLT3 := Lh (HM3.o.lt)
   refine pv (i := 5) (j := 9) (by kernel_rfl) rfl rfl (fun Q' hQ' => ?_) (fun Q' hQ' => ?_)
   focus
    go_wp2_with fail
    refine (uv (ownS (.slice A6 i c6) (.slice A7 i c7) (.slice A8 i c8)) b r (.agg (aj b L P O).toArray) A2 r.keys.length c2 w3.heap.size w3 ⟨L, P, O, rfl, HM3.o.now.1, HM3.o.now.2.1, HM3.o.now.2.2.1, HM3.o.now.2.2.2⟩ (fun p hp => (HLT3.o p hp).2) HHS.o (HKS3.o.more HM3.o.qlt.2.2) (nr _) HLN.o).mono ?_
    rintro e w4 ⟨v4, rfl, ⟨L2, P2, O2, rfl, h1, h2, h3, hf⟩, hb⟩
    have HB4 := Lh hb
    have HR4 := Lh (show RB3 (ownS (.slice A6 i c6) (.slice A7 i c7) (.slice A8 i c8)) w4 (gk b r) L2 P2 O2 from ⟨h1, h2, h3, hf⟩)
    clear h1 h2 h3 hf hb
    go_wp2_with fail
    refine ⟨okU HB4.o, ?_⟩
    refine wq1 (i := 6) (v := .tuple #[.agg (aj (gk b r) L2 P2 O2).toArray, .bool (mayD b r)]) rfl (by kernel_rfl) rfl (fun wq => by go_simp) HB4.o ?_
    generalize ha : Act.put _ _ _ = z9; simp [Act.put] at ha; subst ha
    refine wq1 (i := 7) (v := .agg (aj (gk b r) L2 P2 O2).toArray) rfl (by kernel_rfl) rfl (fun wq => by go_simp) HB4.o ?_
    generalize ha : Act.put _ _ _ = z9; simp [Act.put] at ha; subst ha
    refine wq1 (i := 8) (v := .bool (mayD b r)) rfl (by kernel_rfl) rfl (fun wq => by go_simp) HB4.o ?_
    generalize ha : Act.put _ _ _ = z9; simp [Act.put] at ha; subst ha
    refine ch (i := 9) (by kernel_rfl) rfl (fun Q' hQ' => ?_)
    refine ax rfl 30 rfl nj (vs := aj ay nilV nilV nilV) rfl ?_
    have hb5 : Below w4.heap.size w4 (w4.alloc (.cells (aj ay nilV nilV nilV).toArray 30)) := (br _ _).alloc (nr _) _
    have HR5 := Lh (HR4.o.below hb5)
    have HB5 := Lh (HB4.o.trans (hb5.mono HB4.o.size))
    have HG5 := Lh (hzn w4 (.cells (aj ay nilV nilV nilV).toArray 30))
    have HQ4 := Lh (show w3.heap.size ≤ w4.heap.size from HB4.o.size)
    clear hb5 HR4 HB4
    generalize w4.alloc (.cells (aj ay nilV nilV nilV).toArray 30) = w5 at *
    obtain ⟨q4, hq4⟩ : ∃ q4, q4 = w4.heap.size := ⟨_, rfl⟩
    rw [← hq4] at HG5 HQ4 ⊢
    clear hq4
    refine hQ' _ _ ⟨okU HB5.o, ?_⟩
    generalize ha : Act.put _ _ _ = z9; simp [Act.put] at ha; subst ha
   rotate_left
   focus
    refine ax rfl 30 rfl nj (vs := aj ay nilV nilV nilV) rfl ?_
    have hb4 : Below w3.heap.size w3 (w3.alloc (.cells (aj ay nilV nilV nilV).toArray 30)) := (br _ _).alloc (nr _) _
    have HB4 := Lh hb4
    have HM4 := Lh (HM3.o.later hb4)
    have HG4 := Lh (hzn w3 (.cells (aj ay nilV nilV nilV).toArray 30))
    clear hb4
    generalize w3.alloc (.cells (aj ay nilV nilV nilV).toArray 30) = w4 at *
    obtain ⟨q4, hq4⟩ : ∃ q4, q4 = w3.heap.size := ⟨_, rfl⟩
    rw [← hq4] at HG4 ⊢
    have HQ4 := Lh (Nat.le_of_eq hq4.symm)
    clear hq4
    refine hQ' _ _ ⟨okU HB4.o, ?_⟩
    generalize ha : Act.put _ _ _ = z9; simp [Act.put] at ha; subst ha
    refine ch (i := 5) (by kernel_rfl) rfl (fun Q' hQ' => ?_)
    go_wp2_with fail
    refine (uv (ownS (.slice A6 i c6) (.slice A7 i c7) (.slice A8 i c8)) b r (.agg (aj b L P O).toArray) A2 r.keys.length c2 w4.heap.size w4 ⟨L, P, O, rfl, HM4.o.now.1, HM4.o.now.2.1, HM4.o.now.2.2.1, HM4.o.now.2.2.2⟩ (fun p hp => by have := (HLT3.o p hp).2; have := HB4.o.size; omega) HHS.o ((HKS3.o.below (HB4.o.mono HM3.o.qlt.2.2)).more HM4.o.qlt.2.2) (nr _) HLN.o).mono ?_
    rintro e w5 ⟨v4, rfl, ⟨L2, P2, O2, rfl, h1, h2, h3, hf⟩, hb⟩
    have HB5 := Lh (HB4.o.trans (hb.mono HB4.o.size))
    have HR5 := Lh (show RB3 (ownS (.slice A6 i c6) (.slice A7 i c7) (.slice A8 i c8)) w5 (gk b r) L2 P2 O2 from ⟨h1, h2, h3, hf⟩)
    have HG5 := Lh ((hb.block q4 (gl HG4.o)).trans HG4.o)
    clear h1 h2 h3 hf hb HB4 HG4 HM4
    go_wp2_with fail
    refine ⟨okU HB5.o, ?_⟩
    refine wq1 (i := 6) (v := .tuple #[.agg (aj (gk b r) L2 P2 O2).toArray, .bool (mayD b r)]) rfl (by kernel_rfl) rfl (fun wq => by go_simp) HB5.o ?_
    generalize ha : Act.put _ _ _ = z9; simp [Act.put] at ha; subst ha
    refine wq1 (i := 7) (v := .agg (aj (gk b r) L2 P2 O2).toArray) rfl (by kernel_rfl) rfl (fun wq => by go_simp) HB5.o ?_
    generalize ha : Act.put _ _ _ = z9; simp [Act.put] at ha; subst ha
    refine wq1 (i := 8) (v := .bool (mayD b r)) rfl (by kernel_rfl) rfl (fun wq => by go_simp) HB5.o ?_
    generalize ha : Act.put _ _ _ = z9; simp [Act.put] at ha; subst ha
   rotate_left
   all_goals
    refine ch (i := 10) (by kernel_rfl) rfl (fun Q' hQ' => ?_)
    refine ac rfl 30 rfl rfl rfl (o8 HG5.o rfl (j3 HR5.o.1 HR5.o.2.1 HR5.o.2.2.1)) ?_
    have HM9 := Lh (HM3.o.later (below_setRow HB5.o HQ4.o (aj (gk b r) L2 P2 O2).toArray))
    have HR9 := Lh (HR5.o.five (cs2 := (aj (gk b r) L2 P2 O2).toArray) HG5.o rfl)
    have HQ9 := Lh (setRow_heap w5 q4 _ (aj (gk b r) L2 P2 O2).toArray _ _ HG5.o)
    clear HR5 HB5 HG5 HQ4 HM3 HC3 HKS3 HBG3 HQ3 HLT3
    generalize w5.setRow q4 (aj (gk b r) L2 P2 O2).toArray = w9 at *
    refine hQ' _ _ ⟨bu (by kernel_rfl), ?_⟩
    generalize ha : Act.put _ _ _ = z9; simp [Act.put] at ha; subst ha
    refine ch (i := 11) (by kernel_rfl) rfl (fun Q' hQ' => ?_)
    go_wp2_with fail
    refine ⟨bu (by kernel_rfl), ?_⟩
    refine mg (by kernel_rfl) ?_ _
    have HP9 := Lh (And.intro HM9.o.below HM9.o.qlt)
    obtain ⟨z, hz⟩ : ∃ z, z = mayD b r := ⟨_, rfl⟩
    rw [← hz]
    have HZ := Lh hz.symm
    clear hz
    cases z
    ·have HX := Lh (show qcf l w (.returned (.tuple #[.slice A6 i c6, .slice A7 i c7, .slice A8 i c8, .int .i64 k])) w9 from by
      have hn : i = nEv ay rs := xg rs ay i HLT2.o HEV.o (by rw [← HBE.o, ← HRL.o]; exact HZ.o)
      rw [HKE.o]
      have h9 := HM9.o
      rw [HBE.o] at h9
      rw [hn] at h9 ⊢
      exact ⟨rs, n0, us, _, q, M, _, _, _, t, L, P, O, HAT.o, rfl, h9⟩)
     go_wp2_with fail
     refine bodyPost_ret (dq rfl _ _ _) rfl ?_
     exact HX.o
    ·have hev := o4 rs ay i HLT2.o HEV.o (by rw [← HBE.o, ← HRL.o]; exact HZ.o)
     have hap : gk b r = bkAt ay rs (i + 1) := by unfold gk; rw [HZ.o, if_pos rfl, hev.2, ← HBE.o, ← HRL.o]
     rw [hap] at HR9 HQ9
     have HEV2 := Lh hev.1
     clear hev hap
     obtain ⟨b2, hb2⟩ : ∃ b2, b2 = bkAt ay rs (i + 1) := ⟨_, rfl⟩
     rw [← hb2] at HR9 HQ9
     have HB2E := Lh hb2
     clear hb2
     go_wp2_with (refine ai (some 42) rfl ?_)
     refine Stop.go (aa rfl 30 rfl rfl ft rfl (cs := aj b2 L2 P2 O2) (eh ..) (au (vs := aj b2 L2 P2 O2) HQ9.o) ?_)
     refine ac rfl 30 rfl rfl rfl (o8 HM9.o.row rfl (j3 HR9.o.1 HR9.o.2.1 HR9.o.2.2.1)) ?_
     have HMA := Lh (HM9.o.turn HR9.o)
     clear HM9 HR9 HQ9 HP9
     generalize w9.setRow q (aj b2 L2 P2 O2).toArray = wa at *
     generalize ha : Act.put _ _ _ = z9; simp [Act.put] at ha; subst ha
     obtain ⟨b1', o1', hAA, hb1a, hca⟩ := HMA.o.all.row i HLT2.o
     injection hAA with hAA
     injection hAA with e1 e2
     subst e1 e2
     rw [← HRL.o, HUI.o] at hca
     have HCA := Lh hca
     clear hca hb1a
     go_wp2_with (refine ai (some 47) rfl ?_)
     refine Stop.go (aa rfl 42 rfl rfl ef rfl (dc _ _ _ _ _ _ (.slice A2 r.keys.length c2) HHS.o.1 HHS.o.2) HCA.o ?_)
     refine cb rfl 50 42 rfl rfl Tryz.underlying50 (qay r.kind r.seq r.kh r.kk r.mh r.ms (.slice A2 r.keys.length c2) HHS.o.1 HHS.o.2) (a7 ..) (by rw [ah]; omega) (by rw [ah, HHS.o.1, HHS.o.2]; decide) ?_
     have hbb : Below wa.heap.size wa (wa.alloc (.cells (ag r.kind r.seq r.kh r.kk r.mh r.ms (.slice A2 r.keys.length c2)).toArray 42)) := (br _ _).alloc (nr _) _
     have HMB := Lh (HMA.o.later hbb)
     have HGB := Lh (hzn wa (.cells (ag r.kind r.seq r.kh r.kk r.mh r.ms (.slice A2 r.keys.length c2)).toArray 42))
     clear hbb HMA HCA
     generalize wa.alloc (.cells (ag r.kind r.seq r.kh r.kk r.mh r.ms (.slice A2 r.keys.length c2)).toArray 42) = wb at *
     have hbw := HMB.o.qlt.2.2
     refine az qc5 rfl rfl rfl rfl HMB.o.recs (Rd.row (B := wb.heap.size) HGB.o (gl HGB.o)) (m := 1) (by rw [show (ag r.kind r.seq r.kh r.kk r.mh r.ms (.slice A2 r.keys.length c2)).toArray.toList = ag r.kind r.seq r.kh r.kk r.mh r.ms (.slice A2 r.keys.length c2) from rfl, ah, HHS.o.1, HHS.o.2]) (bb _ _ _ _ _ _ _ _ _) ?_ ?_ hbw ?_
     ·simp only [maxLen]; omega
     ·omega
     intro v6 wc hown6 hg6 hor6 _
     obtain ⟨A6', c6', hv6, _, _⟩ := ap hown6
     subst hv6
     have HMC := Lh (HMB.o.app6 hg6 (by rw [qfh, HRD.o, HUI.o]; exact hown6) hor6)
     clear hown6 hg6 hor6 HMB HGB hbw
     generalize ha : Act.put _ _ _ = z9; simp [Act.put] at ha; subst ha
     have hbb : Below wc.heap.size wc (wc.alloc (.cells #[.int .i64 k] 3)) := (br _ _).alloc (nr _) _
     have HMD := Lh (HMC.o.later hbb)
     have HGD := Lh (hzn wc (.cells #[.int .i64 k] 3))
     clear hbb HMC
     go_wp2_with (refine ai (some 53) rfl ?_)
     generalize wc.alloc (.cells #[.int .i64 k] 3) = wd at *
     have hbw := HMD.o.qlt.2.2
     refine Stop.go (az int_app rfl rfl rfl rfl HMD.o.ats (Rd.row (B := wd.heap.size) HGD.o (gl HGD.o)) (m := 1) rfl (fun u hu => by simp at hu; subst hu; rfl) ?_ ?_ hbw ?_)
     ·simp only [maxLen]; omega
     ·omega
     intro v7 we hown7 hg7 hor7 _
     obtain ⟨A7', c7', hv7, _, _⟩ := ap hown7
     subst hv7
     have HME := Lh (HMD.o.app7 hg7 (by rw [qis, ← HKE.o]; exact hown7) hor7)
     clear hown7 hg7 hor7 HMD HGD hbw
     generalize ha : Act.put _ _ _ = z9; simp [Act.put] at ha; subst ha
     go_wp2_with (refine ai (some 55) rfl ?_)
     refine Stop.go (aa rfl 30 rfl rfl ft rfl (cs := aj b2 L2 P2 O2) (eh ..) (au (vs := aj b2 L2 P2 O2) HME.o.row) ?_)
     refine cb rfl 52 30 rfl rfl (vs := aj b2 L2 P2 O2) Tryz.underlying52 (qgn b2 L2 P2 O2) rfl (by show 0 < 5; omega) (by show 5 ≤ 16777216; decide) ?_
     have hbb : Below we.heap.size we (we.alloc (.cells (aj b2 L2 P2 O2).toArray 30)) := (br _ _).alloc (nr _) _
     have HMF := Lh (HME.o.later hbb)
     have HGF := Lh (hzn we (.cells (aj b2 L2 P2 O2).toArray 30))
     clear hbb HME
     generalize we.alloc (.cells (aj b2 L2 P2 O2).toArray 30) = wf at *
     have hbw := HMF.o.qlt.2.2
     refine az book_app rfl rfl rfl rfl HMF.o.books (Rd.row (B := wf.heap.size) HGF.o (gl HGF.o)) (m := 1) rfl (j3 HMF.o.now.1 HMF.o.now.2.1 HMF.o.now.2.2.1) ?_ ?_ hbw ?_
     ·simp only [maxLen]; omega
     ·omega
     intro v8 wg hown8 hg8 hor8 _
     obtain ⟨A8', c8', hv8, _, _⟩ := ap hown8
     subst hv8
     have HMG := Lh (HMF.o.app8 HB2E.o hg8 hown8 hor8)
     clear hown8 hg8 hor8 HMF HGF hbw
     generalize ha : Act.put _ _ _ = z9; simp [Act.put] at ha; subst ha
     obtain ⟨b1', o1', hAA, hb1a, hca⟩ := HMG.o.all.row i HLT2.o
     obtain ⟨A2', c2', hu2, hks2⟩ := HMG.o.all.keys i HLT2.o
     injection hAA with hAA
     injection hAA with e1 e2
     subst e1 e2
     rw [← HRL.o, HUI.o] at hca
     rw [HUI.o, ← HRL.o] at hu2
     injection hu2 with e3 _ e4
     subst e3 e4
     rw [← HRL.o] at hks2
     have HCA := Lh hca
     have HKG := Lh hks2
     clear hca hb1a hks2
     go_wp2_with (refine ai (some 62) rfl ?_)
     refine Stop.go (aa rfl 42 rfl rfl ef rfl (dc _ _ _ _ _ _ (.slice A2 r.keys.length c2) HHS.o.1 HHS.o.2) HCA.o ?_)
     generalize ha : Act.put _ _ _ = z9; simp [Act.put] at ha; subst ha
     go_wp2_with fail
     refine (r5 r A2 r.keys.length c2 M wg HHS.o HKG.o HMG.o.qlt.2.2 HGR.o.1 HGR.o.2.2).mono ?_
     rintro e wh ⟨vL, rfl, hoL, hbL⟩
     obtain ⟨AL, cL, hvL, _, _⟩ := ap hoL
     subst hvL
     have HMH := Lh (HMG.o.later hbL)
     have HTK := Lh (show evAt rs (i + 1) = k + (bm r).length by rw [qdl HLT2.o, ← HRL.o, HKE.o])
     have hkl2 : k + (bm r).length ≤ l.length := by
      have : evAt rs (i + 1) ≤ l.length := j2 HAT.o (i + 1)
      rw [HTK.o] at this
      exact this
     clear hoL hbL HMG HCA HKG
     go_wp2_with fail
     go_roundw
     case rel =>
      refine ⟨i + 1, A6', A7', A8', c6', c7', c8', t.snoc i L2 P2 O2, L2, P2, O2, by omega, rfl, rfl, rfl, ?_, by go_num, HEV2, ?_⟩
      ·rw [HTK.o]
       go_num
      ·rw [← HB2E.o]
       exact HMH
     case measure => simp [intOf]; omega
  ·have hin : i = n := by omega
   have HX := Lh (show qcf l w (.returned (.tuple #[.slice A6 i c6, .slice A7 i c7, .slice A8 i c8, .int .i64 k])) wr from by
    have hn : i = nEv ay rs := by
     have h1 := HEV.o
     have h2 := r3 rs ay
     have h3 := HN.o
     omega
    rw [HKE.o]
    have h9 := HM.o
    rw [HBE.o] at h9
    rw [hn] at h9 ⊢
    exact ⟨rs, n0, us, _, q, M, _, _, _, t, L, P, O, HAT.o, rfl, h9⟩)
   clear hi
   go_wp2_with fail
   refine bodyPost_ret (dq rfl _ _ _) rfl ?_
   exact HX.o

abbrev qt : Nat → Option (Nat × Nat) := fun i => (#[((0 : Nat), (1 : Nat)), (1, 1), (2, 33), (35, 32), (67, 1), (68, 1)] : Array (Nat × Nat))[i]?
theorem qeq (p : K32 × K32) (w : World) : (Instr.build 42 #[(0, .int .i64 4), (2, kv p.1), (3, gu p.2.1.1), (4, .int .i64 p.2.1.2)]).run Tryz.prog w = .ok (rv (im p) (.slice none 0 0)) w := by
 unfold Instr.build
 simp only [Sem.run_bind, iw, Result.andThen_ok, a7, run_underlying ef, rq, lf]
 have l1 := bg p.1
 have l2 : (ak p.2.1.1).length = 32 := by rw [al, p.2.2]
 have h0 := ig (place := qt) (i := 0) (off := 0) (v := .int .i64 4) (vs := [.int .i64 4]) (rest := [(2, kv p.1), (3, gu p.2.1.1), (4, .int .i64 p.2.1.2)]) (cs := ag 0 0 z32 0 z32 0 (.slice none 0 0)) (cs' := [.int .i64 4, .int .i64 0] ++ (ae z32 0 ++ (ae z32 0 ++ [.slice none 0 0]))) rfl rfl (by decide) rfl
 have h1 := ig (place := qt) (i := 2) (off := 2) (v := kv p.1) (vs := encK p.1) (rest := [(3, gu p.2.1.1), (4, .int .i64 p.2.1.2)]) (cs := [.int .i64 4, .int .i64 0] ++ (ae z32 0 ++ (ae z32 0 ++ [.slice none 0 0]))) (cs' := [.int .i64 4, .int .i64 0] ++ (encK p.1 ++ (ae z32 0 ++ [.slice none 0 0]))) rfl (by rw [l1]; rfl) (by rw [l1]; decide) (by rw [l1]; rfl)
 have h2 := ig (place := qt) (i := 3) (off := 35) (v := gu p.2.1.1) (vs := ak p.2.1.1) (rest := [(4, .int .i64 p.2.1.2)]) (cs := [.int .i64 4, .int .i64 0] ++ (encK p.1 ++ (ae z32 0 ++ [.slice none 0 0]))) (cs' := [.int .i64 4, .int .i64 0] ++ (encK p.1 ++ (ak p.2.1.1 ++ [.int .i64 0, .slice none 0 0]))) rfl (by rw [l2]; rfl) (by simp [l1, l2, af, bf]) (by
  rw [← List.append_assoc, List.take_append_of_le_length (by simp [l1]), List.take_of_length_le (by simp [l1]), l2, List.drop_append, List.drop_of_length_le (by simp [l1])]
  simp [l1]
  rfl)
 have h3 := ig (place := qt) (i := 4) (off := 67) (v := .int .i64 p.2.1.2) (vs := [.int .i64 p.2.1.2]) (rest := []) (cs := [.int .i64 4, .int .i64 0] ++ (encK p.1 ++ (ak p.2.1.1 ++ [.int .i64 0, .slice none 0 0]))) (cs' := [.int .i64 4, .int .i64 0] ++ (encK p.1 ++ (ak p.2.1.1 ++ [.int .i64 p.2.1.2, .slice none 0 0]))) rfl rfl (by simp [l1, l2]) (by
  rw [← List.append_assoc, ← List.append_assoc, List.take_append_of_le_length (by simp [l1, l2]), List.take_of_length_le (by simp [l1, l2]), List.drop_append, List.drop_of_length_le (by simp [l1, l2])]
  simp [l1, l2])
 rw [h1, h2, h3] at h0
 have e : [.int .i64 4, .int .i64 0] ++ (encK p.1 ++ (ak p.2.1.1 ++ [.int .i64 p.2.1.2, .slice none 0 0])) = ag 4 0 p.1.1.1 p.1.1.2 p.2.1.1 p.2.1.2 (.slice none 0 0) := by simp [ag, ae, encK]
 rw [h0, e]
 rfl
theorem qet (w : World) : (Instr.build 42 #[(0, .int .i64 1)]).run Tryz.prog w = .ok (rv ej (.slice none 0 0)) w := by
 unfold Instr.build
 simp only [Sem.run_bind, iw, Result.andThen_ok, a7, run_underlying ef, rq, lf]
 rfl
theorem qgj (k : K32) (w : World) : (Instr.build 42 #[(0, .int .i64 5), (2, kv k)]).run Tryz.prog w = .ok (rv (pinR k) (.slice none 0 0)) w := by
 unfold Instr.build
 simp only [Sem.run_bind, iw, Result.andThen_ok, a7, run_underlying ef, rq, lf]
 have h0 := ig (place := qt) (i := 0) (off := 0) (v := .int .i64 5) (vs := [.int .i64 5]) (rest := [(2, kv k)]) (cs := ag 0 0 z32 0 z32 0 (.slice none 0 0)) (cs' := [.int .i64 5, .int .i64 0] ++ (ae z32 0 ++ (ae z32 0 ++ [.slice none 0 0]))) rfl rfl (by decide) rfl
 have h1 := ig (place := qt) (i := 2) (off := 2) (v := kv k) (vs := encK k) (rest := []) (cs := [.int .i64 5, .int .i64 0] ++ (ae z32 0 ++ (ae z32 0 ++ [.slice none 0 0]))) (cs' := [.int .i64 5, .int .i64 0] ++ (encK k ++ (ae z32 0 ++ [.slice none 0 0]))) rfl (by rw [bg]; rfl) (by rw [bg]; decide) (by rw [bg]; rfl)
 rw [h1] at h0
 rw [h0]
 rfl
def ya (b : bd) (w : World) (e : Ending) (w' : World) : Prop := ∃ v, e = .returned v ∧ w'.ownsRow w.heap.size 5 1 v (jn b).length (ak (jn b)) ∧ Below w.heap.size w w'
def mu (b : bd) (i : Nat) : List UInt8 := (ej :: (b.live.take i).map im).flatMap bm
def ii (b : bd) (i : Nat) : List UInt8 := (ej :: (b.live.map im ++ (b.pins.take i).map pinR)).flatMap bm
theorem oq {w : World} {q off : Nat} {x : cw} (h : ∀ j u, (an x)[j]? = some u → w.cell? ⟨q, off + j, none⟩ = some u) : ∀ j u, (encK x.2.2)[j]? = some u → w.cell? ⟨q, off + 34 + j, none⟩ = some u := fun j u hu => by
 have := h (34 + j) u (by
  unfold an d9
  rw [show 34 + j = (33 + j) + 1 by omega, List.getElem?_cons_succ, List.getElem?_append_right (by rw [af, x.2.1.2]; omega), af, x.2.1.2, show 33 + j - (32 + 1) = j by omega]
  exact hu)
 rwa [← Nat.add_assoc] at this
theorem qh8 (b : bd) : mu b 0 = bm ej := by simp [mu]
theorem qbl (b : bd) {i : Nat} (h : i < b.live.length) : mu b (i + 1) = mu b i ++ bm (im b.live[i]) := by
 unfold mu
 rw [List.take_succ_eq_append_getElem h, List.map_append, ← List.cons_append, List.flatMap_append]
 simp
theorem x5 (b : bd) : ii b 0 = mu b b.live.length := by simp [ii, mu]
theorem x6 (b : bd) {i : Nat} (h : i < b.pins.length) : ii b (i + 1) = ii b i ++ bm (pinR b.pins[i]) := by
 unfold ii
 rw [List.take_succ_eq_append_getElem h, List.map_append, ← List.append_assoc, ← List.cons_append, List.flatMap_append]
 simp
theorem qgo (b : bd) : ii b b.pins.length = jn b := by simp [ii, jn, uw]
theorem headL_le {b : bd} (h : Good b) (i : Nat) : (mu b i).length ≤ 20000 * (b.live.length + 1) := by
 have := tm (ej :: (b.live.take i).map im) (fun r hr => pa h r (by
  rcases List.mem_cons.1 hr with rfl | hr
  ·simp [uw]
  ·obtain ⟨p, hp, rfl⟩ := List.mem_map.1 hr
   exact List.mem_cons_of_mem _ (List.mem_append_left _ (List.mem_map_of_mem (List.mem_of_mem_take hp)))))
 refine Nat.le_trans this (Nat.mul_le_mul_left _ ?_)
 simp
 omega
theorem qio {b : bd} (h : Good b) (i : Nat) : (ii b i).length ≤ 20000 * (b.live.length + b.pins.length + 1) := by
 have := tm (ej :: (b.live.map im ++ (b.pins.take i).map pinR)) (fun r hr => pa h r (by
  rcases List.mem_cons.1 hr with rfl | hr
  ·simp [uw]
  ·rcases List.mem_append.1 hr with hr | hr
   ·obtain ⟨p, hp, rfl⟩ := List.mem_map.1 hr
    exact List.mem_cons_of_mem _ (List.mem_append_left _ (List.mem_map_of_mem hp))
   ·obtain ⟨p, hp, rfl⟩ := List.mem_map.1 hr
    exact List.mem_cons_of_mem _ (List.mem_append_right _ (List.mem_map_of_mem (List.mem_of_mem_take hp)))))
 refine Nat.le_trans this (Nat.mul_le_mul_left _ ?_)
 simp
 omega
theorem qaw (b : bd) (bv : Value) (B : Nat) (w : World) (h : RB w B bv b) (hg : Good b) (hB : B ≤ w.heap.size) (hl : b.live.length ≤ 10000 ∧ b.pins.length ≤ 10000) :
  Calls Tryz.prog 38 #[bv] w (ya b w) := by
 obtain ⟨L, P, O, rfl, hL, hP, hO⟩ := h
 have HGD := Lh hg
 have HLL := Lh hl
 have HBB := Lh hB
 have HL := Lh hL
 have HP := Lh hP
 clear hg hl hL hP hO hB
 obtain ⟨AL, cL, hle, hcl1, hcl2⟩ := HL.o.form
 subst hle
 obtain ⟨AP, cP, hpe, hcp1, hcp2⟩ := HP.o.form
 subst hpe
 rw [j5] at *
 go_enter Tryz.func38, Tryz.ntmps38
 go_wp2_with (refine ai (some 1) rfl ?_)
 refine Stop.go (bx rfl 30 rfl rfl (vs := aj b (.slice AL b.live.length cL) (.slice AP b.pins.length cP) O) rfl ?_)
 have HG1 := Lh (hzn w (.cells (aj b (.slice AL b.live.length cL) (.slice AP b.pins.length cP) O).toArray 30))
 have HB1 := Lh ((br _ _).alloc (nr _) (.cells (aj b (.slice AL b.live.length cL) (.slice AP b.pins.length cP) O).toArray 30) : Below w.heap.size w _)
 have HS1 := Lh (sz_ w (.cells (aj b (.slice AL b.live.length cL) (.slice AP b.pins.length cP) O).toArray 30))
 generalize w.alloc (.cells (aj b (.slice AL b.live.length cL) (.slice AP b.pins.length cP) O).toArray 30) = w1 at *
 generalize ha : Act.put _ _ _ = z9; simp [Act.put] at ha; subst ha
 go_wp2_with (refine ai (some 6) rfl ?_)
 refine Stop.go (bj rfl 42 rfl (vs := #[(0, .int .i64 1)]) (by rfl) (qet _) ?_)
 generalize ha : Act.put _ _ _ = z9; simp [Act.put] at ha; subst ha
 go_wp2_with fail
 refine (r5 ej none 0 0 w1.heap.size w1 nb.2.1 SlR.nil_ (nr _) nb.1 (fun _ h => nomatch h)).mono ?_
 rintro e w2 ⟨v2, rfl, ho2, hb2⟩
 obtain ⟨A2, c2, hv2, _, _⟩ := ap ho2
 subst hv2
 have HO2 := Lh (fg ho2 (show w.heap.size + 1 ≤ w1.heap.size by rw [HS1.o]; omega))
 have HK := Lh (show ∀ wz, Below (w.heap.size + 1) w2 wz → wz.heap[w.heap.size]? = some (.cells (aj b (.slice AL b.live.length cL) (.slice AP b.pins.length cP) O).toArray 30 (0, 0)) ∧ SlR f7 wz w.heap.size (.slice AL b.live.length cL) (fh b.live) ∧ SlR eK wz w.heap.size (.slice AP b.pins.length cP) b.pins ∧ Below w.heap.size w wz from fun wz hb => by
  have hb3 := (hb2.mono (show w.heap.size + 1 ≤ w1.heap.size by rw [HS1.o]; omega)).trans hb
  have hb4 := HB1.o.trans (hb3.mono (by omega))
  exact ⟨(hb3.block _ (by omega)).trans HG1.o, HL.o.fut hb4 HBB.o HBB.o, HP.o.fut hb4 HBB.o HBB.o, hb4⟩)
 have HSZ := Lh (show w.heap.size + 1 ≤ w2.heap.size by have := hb2.size; rw [HS1.o] at this; exact this)
 rw [← qh8 b] at HO2 ⊢
 clear ho2 hb2 HG1 HB1 HS1 HL HP
 go_wp2_with fail
 go_loopw [3, 4] (fun v3 v4 wr => ∃ (i : Nat) (A3 : Option Addr) (c3 : Nat), i ≤ b.live.length ∧ v4 = .int .i64 i ∧ v3 = .slice A3 (mu b i).length c3 ∧ Hid (wr.ownsRow (w.heap.size + 1) 5 1 (.slice A3 (mu b i).length c3) (mu b i).length (ak (mu b i))) ∧ Hid (Below (w.heap.size + 1) w2 wr)) (fun _ v4 _ => b.live.length - (intOf v4).toNat)
 case atStart => exact ⟨0, A2, c2, Nat.zero_le _, rfl, rfl, HO2.o, br _ _⟩
 case round =>
  obtain ⟨i, A3, c3, hi, rfl, rfl, HO, HB⟩ := hrel
  have c1 := (fl (HK.o _ HB.o).1).2.1
  have hcl3 := hcl2
  simp only [maxLen] at hcl3
  by_cases hlt : i < b.live.length
  ·go_wp2_with fail
   refine Text.wp_text [] (by kernel_rfl) (by kernel_rfl) (fun Q' hQ' => ?_)
   have HBd := Lh HB.o.drew
   have HOd := Lh (show wr.drew.ownsRow (w.heap.size + 1) 5 1 (.slice A3 (mu b i).length c3) (mu b i).length (ak (mu b i)) from HO.o.drew)
   clear HO HB c1
   generalize wr.drew = w3 at *
   have c1 := (fl (HK.o _ HBd.o).1).2.1
   obtain ⟨q, off, cs, hAL, _, hqB, hrep, hcell⟩ := (HK.o _ HBd.o).2.1.get (k := i) (by rw [j5]; exact hlt) (by decide)
   subst hAL
   obtain ⟨p, hp⟩ : ∃ p, p = b.live[i] := ⟨_, rfl⟩
   have hrep : cs = an ((0, p) : cw) := by rw [hp]; have : cs = an ((fh b.live)[i]'(by rw [j5]; exact hlt)) := hrep; rw [this]; simp [fh]
   subst hrep
   have HC := Lh (show ∀ j u, (an ((0, p) : cw))[j]? = some u → w3.cell? ⟨q, off + i * 67 + j, none⟩ = some u from fun j u hu => by rw [Nat.add_assoc]; exact hcell j u hu)
   have HPR := Lh hp
   clear hcell hp hqB
   go_wp2_with (refine ai (some 21) rfl ?_)
   refine Stop.go (aa rfl 34 rfl rfl a8.ut rfl (cs := encK p.1) (am _ _ p.1.2) (nu (x := (0, p)) HC.o) ?_)
   generalize ha : Act.put _ _ _ = z9; simp [Act.put] at ha; subst ha
   refine aq 5 _ _ _ (fun Q2 hQ2 => ?_)
   simp only [T1, T0]
   go_wp2_with fail
   try simp only [dr1, dr0]
   refine Stop.go (aa rfl 32 rfl rfl fj.ua rfl (cs := ak p.2.1.1) (fp _ p.2.2) (tq (oq (x := (0, p)) HC.o)) ?_)
   generalize ha : Act.put _ _ _ = z9; simp [Act.put] at ha; subst ha
   have hnum : w3.cell? ⟨q, off + i * 67 + 66, none⟩ = some (.int .i64 p.2.1.2) := xt (off := off + i * 67 + 34) (oq (x := (0, p)) HC.o)
   refine aq 6 _ _ _ (fun Q3 hQ3 => ?_)
   simp only [T1, T0]
   go_wp2_with fail
   try simp only [dr1, dr0]
   clear hnum c1
   refine Stop.go (bj rfl 42 rfl (vs := #[(0, .int .i64 4), (2, kv p.1), (3, gu p.2.1.1), (4, .int .i64 p.2.1.2)]) (by rfl) (qeq p _) ?_)
   generalize ha : Act.put _ _ _ = z9; simp [Act.put] at ha; subst ha
   have HGR := Lh (vi (HGD.o.lok p (by rw [HPR.o]; exact List.getElem_mem _)))
   go_wp2_with fail
   refine (r5 (im p) none 0 0 w3.heap.size w3 HGR.o.2.1 SlR.nil_ (nr _) HGR.o.1 (fun _ h => nomatch h)).mono ?_
   rintro e w4 ⟨v4, rfl, ho4, hb4⟩
   obtain ⟨A5, c5, hv5, hc5, _⟩ := ap ho4
   subst hv5
   have HO4 := Lh ho4
   have HOE := Lh (bt HOd.o hb4)
   have HB4 := Lh (HBd.o.trans (hb4.mono (show w.heap.size + 1 ≤ w3.heap.size from Nat.le_trans HSZ.o HBd.o.size)))
   have hbw4 : w.heap.size + 1 ≤ w4.heap.size := Nat.le_trans HSZ.o HB4.o.size
   have hl1 := headL_le HGD.o i
   have hl2 := z3 HGR.o
   have hl3 := HLL.o
   clear ho4 hb4 HOd HBd
   go_wp2_with (refine ai (some 36) rfl ?_)
   refine Stop.go (az gy rfl rfl rfl rfl HOE.o (Rd.of_own HO4.o) (m := (bm (im p)).length) (by rw [al, Nat.mul_one]) (dy _) ?_ ?_ hbw4 ?_)
   ·simp only [maxLen]; omega
   ·omega
   intro v6 w6 hown6 hg6 _ _
   have hsl : (mu b i).length + (bm (im p)).length = (mu b (i + 1)).length := by rw [qbl b hlt, List.length_append, HPR.o]
   have hsb : ak (mu b i) ++ ak (bm (im p)) = ak (mu b (i + 1)) := by rw [qbl b hlt, bn, HPR.o]
   rw [hsl, hsb] at hown6
   obtain ⟨A6, c6, hv6, _, _⟩ := ap hown6
   subst hv6
   have HB6 := Lh (aw HB4.o hg6 HOE.o (nr _) hbw4)
   have HO6 := Lh hown6
   clear hown6 hg6 hl1 hl2 hl3 hsl hsb hbw4
   generalize ha : Act.put _ _ _ = z9; simp [Act.put] at ha; subst ha
   go_wp2_with fail
   refine ⟨by rfl, ?_⟩
   go_wp2_with fail
   go_roundw
   case rel => exact ⟨i + 1, A6, c6, by omega, by go_num, rfl, HO6.o, HB6.o⟩
   case measure => simp [intOf]; omega
  ·have hil : i = b.live.length := by omega
   subst hil
   have HOB := Lh (show wr.ownsRow (w.heap.size + 1) 5 1 (.slice A3 (ii b 0).length c3) (ii b 0).length (ak (ii b 0)) by rw [x5]; exact HO.o)
   rw [← x5]
   clear HO hi
   go_wp2_with fail
   go_loopw [3, 5] (fun v3 v5 wr => ∃ (i : Nat) (A3 : Option Addr) (c3 : Nat), i ≤ b.pins.length ∧ v5 = .int .i64 i ∧ v3 = .slice A3 (ii b i).length c3 ∧ Hid (wr.ownsRow (w.heap.size + 1) 5 1 (.slice A3 (ii b i).length c3) (ii b i).length (ak (ii b i))) ∧ Hid (Below (w.heap.size + 1) w2 wr)) (fun _ v5 _ => b.pins.length - (intOf v5).toNat)
   case atStart => exact ⟨0, A3, c3, Nat.zero_le _, rfl, rfl, HOB.o, HB.o⟩
   case round =>
    obtain ⟨i, A4, c4, hi, rfl, rfl, HO, HBz⟩ := hrel
    have c2 := (fl (HK.o _ HBz.o).1).2.2.1
    have hcp3 := hcp2
    simp only [maxLen] at hcp3
    by_cases hlt : i < b.pins.length
    ·have HBd := HBz
     have HOd := HO
     obtain ⟨q, off, cs, hAP, _, hqB, hrep, hcell⟩ := (HK.o _ HBd.o).2.2.1.get (k := i) hlt (by decide)
     subst hAP
     obtain ⟨p, hp⟩ : ∃ p, p = b.pins[i] := ⟨_, rfl⟩
     have hrep : cs = encK p := by rw [hp]; exact hrep
     subst hrep
     have HC := Lh (show ∀ j u, (encK p)[j]? = some u → wr.cell? ⟨q, off + i * 33 + j, none⟩ = some u from fun j u hu => by rw [Nat.add_assoc]; exact hcell j u hu)
     have HPR := Lh hp
     clear hcell hp hqB
     go_wp2_with (refine ai (some 49) rfl ?_)
     refine Stop.go (aa rfl 34 rfl rfl a8.ut rfl (cs := encK p) (am _ _ p.2) HC.o ?_)
     refine bj rfl 42 rfl (vs := #[(0, .int .i64 5), (2, kv p)]) (by rfl) (qgj p _) ?_
     generalize ha : Act.put _ _ _ = z9; simp [Act.put] at ha; subst ha
     clear c2
     have HGR := Lh (yp (HGD.o.pok p (by rw [HPR.o]; exact List.getElem_mem _)))
     generalize wr = w3 at *
     go_wp2_with fail
     refine (r5 (pinR p) none 0 0 w3.heap.size w3 HGR.o.2.1 SlR.nil_ (nr _) HGR.o.1 (fun _ h => nomatch h)).mono ?_
     rintro e w4 ⟨v4, rfl, ho4, hb4⟩
     obtain ⟨A5, c5, hv5, hc5, _⟩ := ap ho4
     subst hv5
     have HO4 := Lh ho4
     have HOE := Lh (bt HOd.o hb4)
     have HB4 := Lh (HBd.o.trans (hb4.mono (show w.heap.size + 1 ≤ w3.heap.size from Nat.le_trans HSZ.o HBd.o.size)))
     have hbw4 : w.heap.size + 1 ≤ w4.heap.size := Nat.le_trans HSZ.o HB4.o.size
     have hl1 := qio HGD.o i
     have hl2 := z3 HGR.o
     have hl3 := HLL.o
     clear ho4 hb4 HOd HBd
     go_wp2_with (refine ai (some 52) rfl ?_)
     refine Stop.go (az gy rfl rfl rfl rfl HOE.o (Rd.of_own HO4.o) (m := (bm (pinR p)).length) (by rw [al, Nat.mul_one]) (dy _) ?_ ?_ hbw4 ?_)
     ·simp only [maxLen]; omega
     ·omega
     intro v6 w6 hown6 hg6 _ _
     have hsl : (ii b i).length + (bm (pinR p)).length = (ii b (i + 1)).length := by rw [x6 b hlt, List.length_append, HPR.o]
     have hsb : ak (ii b i) ++ ak (bm (pinR p)) = ak (ii b (i + 1)) := by rw [x6 b hlt, bn, HPR.o]
     rw [hsl, hsb] at hown6
     obtain ⟨A6, c6, hv6, _, _⟩ := ap hown6
     subst hv6
     have HB6 := Lh (aw HB4.o hg6 HOE.o (nr _) hbw4)
     have HO6 := Lh hown6
     clear hown6 hg6 hl1 hl2 hl3 hsl hsb hbw4
     generalize ha : Act.put _ _ _ = z9; simp [Act.put] at ha; subst ha
     go_wp2_with fail
     go_roundw
     case rel => exact ⟨i + 1, A6, c6, by omega, by go_num, rfl, HO6.o, HB6.o⟩
     case measure => simp [intOf]; omega
    ·have hil : i = b.pins.length := by omega
     subst hil
     have HX := Lh (show ya b w (.returned (.slice A4 (ii b b.pins.length).length c4)) wr from ⟨_, rfl, by
      rw [← qgo]
      exact fg HO.o (Nat.le_succ _), (HK.o _ HBz.o).2.2.2⟩)
     go_wp2_with fail
     go_ret
     exact HX.o
end Go.Proofs.YtplbcbamnjnhlaaGreatDoor
