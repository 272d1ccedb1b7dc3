import Derived.Test.YtplbcbamnjnhlaaGreatDoorMT00
import Derived.Test.YtplbcbamnjnhlaaGreatDoorMT42
set_option maxRecDepth 100000
set_option maxHeartbeats 40000000
namespace Go.Proofs.YtplbcbamnjnhlaaGreatDoor
open Go.RowKit

def qgt (l : List UInt8) (w : World) (e : Ending) (w' : World) : Prop :=
 ∃ rs n0 us A1 q M v6 v7 v8 t L P O, jq l rs n0 ∧ e = .returned (.tuple #[v6, v7, v8, .int .i64 (evAt rs (nEv az rs) : Nat)]) ∧ EvS w w' q M rs us A1 (nEv az rs) (nEv az rs) (nEv az rs) (bkAt az rs (nEv az rs)) v6 v7 v8 t L P O
theorem int_app : pr Tryz.prog 51 3 1 8 (.int .i64 0) := yf (by kernel_rfl) (by kernel_rfl) rfl (by omega)
theorem book_app : pr Tryz.prog 52 30 5 88 (.agg (aj az nilV nilV nilV).toArray) := yf (by kernel_rfl) (by kernel_rfl) rfl (by omega)
theorem qmz (b : bj) (L P O : Value) : (Tryz.prog.info? 30).map (fun i => (i.zero, i.size)) = some (some (.agg (aj az nilV nilV nilV).toArray), (aj b L P O).length) := by show _ = some (_, 5); kernel_rfl
theorem qpj (l : List UInt8) (A : Option Addr) (c B : Nat) (w : World) (hr : Rd w B A (ak l)) (hB : B ≤ w.heap.size) (hl : l.length ≤ 10000) (hc : l.length ≤ c) :
  Calls Tryz.prog 19 #[.slice A l.length c] w (qgt l w) := by
 have HR := Lh hr
 have HBW := Lh hB
 clear hr hB
 go_enter Tryz.func19, Tryz.ntmps19
 go_wp2_with (refine ai (some 9) rfl ?_)
 refine Stop.go (av rfl 30 rfl rm (vs := aj az nilV nilV nilV) rfl ?_)
 have HB1 := Lh ((br _ _).alloc (nr _) (.cells (aj az nilV nilV nilV).toArray 30) : Below w.heap.size w _)
 have HQ1 := Lh (hzn w (.cells (aj az nilV nilV nilV).toArray 30))
 have HS1 := Lh (sz_ w (.cells (aj az nilV nilV nilV).toArray 30))
 generalize w.alloc (.cells (aj az nilV nilV nilV).toArray 30) = w1 at *
 generalize ha : Act.put _ _ _ = z9; simp [Act.put] at ha; subst ha
 go_wp2_with fail
 refine (qoc l A c B w1 (HR.o.below (HB1.o.mono HBW.o)) (Nat.le_trans HBW.o HB1.o.size) (by omega) hc).mono ?_
 rintro e w2 ⟨rs, n0, v, rfl, hat, ho, hb2⟩
 have HAT := Lh hat
 obtain ⟨A1, c1, rfl, hc1, _⟩ := ho.form
 obtain ⟨us, hus⟩ := qqw ho.sl
 have HSL := Lh ho.sl
 obtain ⟨q, hq⟩ : ∃ q, q = w.heap.size := ⟨_, rfl⟩
 obtain ⟨n, hn⟩ : ∃ n, n = rs.length := ⟨_, rfl⟩
 have hnl : n ≤ 10000 := by have := uy hat.lines; omega
 have HM := Lh (show EvS w w2 q w2.heap.size rs us A1 0 0 0 az nilV nilV nilV ⟨fun _ => nilV, fun _ => nilV, fun _ => nilV⟩ nilV nilV nilV from
  ⟨World.ownsRow_nil _ _ _ _, World.ownsRow_nil _ _ _ _, World.ownsRow_nil _ _ _ _, (fun j hj => nomatch hj), (hb2.block _ (by rw [HS1.o]; omega)).trans (by rw [hq]; exact HQ1.o), ⟨SlR.nil_, SlR.nil_, SlR.nil_, qjs _ _, qjs _ _, qjs _ _⟩, hus, HB1.o.trans (hb2.mono HB1.o.size), by omega, by have := hb2.size; rw [HS1.o] at this; omega, nr _⟩)
 rw [← hn] at HSL hc1
 rw [← hn, ← hq]
 have HN := Lh hn
 have hc9 := (HSL.o.n_le).2
 clear hat ho hb2 hus hn hq HSL HB1 HQ1 HS1 HR HBW
 obtain ⟨M, hM⟩ : ∃ M, M = w2.heap.size := ⟨_, rfl⟩
 rw [← hM] at HM
 clear hM
 go_wp2_with fail
 go_loopw [6, 7, 8, 12, 13] (fun v6 v7 v8 v12 v13 wr => ∃ (i : Nat) (A6 A7 A8 : Option Addr) (c6 c7 c8 : Nat) (t : Bk3) (L P O : Value), i ≤ n ∧ v6 = .slice A6 i c6 ∧ v7 = .slice A7 i c7 ∧ v8 = .slice A8 i c8 ∧ v12 = .int .i64 (evAt rs i : Nat) ∧ v13 = .int .i64 i ∧
  Hid (i ≤ nEv az rs) ∧ Hid (EvS w wr q M rs us A1 i i i (bkAt az rs i) (.slice A6 i c6) (.slice A7 i c7) (.slice A8 i c8) t L P O)) (fun _ _ _ _ v13 _ => n - (intOf v13).toNat)
 case atStart => exact ⟨0, none, none, none, 0, 0, 0, _, _, _, _, Nat.zero_le _, rfl, rfl, rfl, rfl, rfl, Nat.zero_le _, by rw [nd]; exact HM.o⟩
 case round =>
  clear HM
  obtain ⟨i, A6, A7, A8, c6, c7, c8, t, L, P, O, hi, rfl, rfl, rfl, rfl, rfl, HEV, HM⟩ := hrel
  obtain ⟨k, hk⟩ : ∃ k, k = evAt rs i := ⟨_, rfl⟩
  have hkl : evAt rs i ≤ l.length := ov HAT.o i
  rw [← hk] at hkl
  rw [← hk]
  have HKE := Lh hk
  clear hk
  obtain ⟨b, hb⟩ : ∃ b, b = bkAt az rs i := ⟨_, rfl⟩
  rw [← hb] at HM
  have HBE := Lh hb
  have HLN := Lh (show b.live.length ≤ 10000 ∧ b.pins.length ≤ 10000 ∧ b.ints.length ≤ 10000 by rw [hb]; exact qnc HEV.o (by have := HN.o; omega))
  clear hb
  by_cases hlt : i < n
  ·have hlt2 : i < rs.length := by rw [← HN.o]; exact hlt
   obtain ⟨b1, o1, hA1, hb1g, hcell⟩ := HM.o.all.row i hlt2
   subst hA1
   obtain ⟨A2, c2, hu, hks⟩ := HM.o.all.keys i hlt2
   have hhs := HM.o.all.hs i hlt2
   rw [hu] at hcell
   obtain ⟨r, hr⟩ : ∃ r, r = rs[i] := ⟨_, rfl⟩
   rw [← hr] at hhs hks hcell hu
   have HUI := Lh hu
   have HHS := Lh hhs
   have HKS := Lh hks
   have HC := Lh hcell
   have HLT2 := Lh hlt2
   have HBG := Lh (show b1 < wr.heap.size by have := HM.o.qlt; omega)
   have HGR := Lh (show ke r from HAT.o.good r (by rw [hr]; exact List.getElem_mem _))
   have HRL := Lh (show ∀ h : i < rs.length, r = rs[i] from fun _ => hr)
   have HRD := Lh (show rs.getD i dq = r by rw [rg hlt2, hr])
   clear hr hhs hks hcell hu hlt2 hb1g
   go_wp2_with fail
   refine qc (fun w' => Below wr.drew.heap.size wr.drew w') [10] 12 (by kernel_rfl) rfl ?_
   have HM3 := Lh HM.o.drew
   have HC3 := Lh (show ∀ (j : Nat) (u : Value), (ag r.kind r.seq r.kh r.kk r.mh r.ms (.slice A2 r.keys.length c2))[j]? = some u → wr.drew.cell? ⟨b1, o1 + i * 69 + j, none⟩ = some u from HC.o)
   have HKS3 := Lh (show SlR eKey wr.drew M (.slice A2 r.keys.length c2) r.keys from HKS.o.below (br M wr).drew)
   have HBG3 := Lh (show b1 < wr.drew.heap.size from HBG.o)
   clear HM HC HKS HBG
   generalize wr.drew = w3 at *
   have HQ3 := Lh (show q < w3.heap.size by have := HM3.o.qlt; omega)
   refine wq1 (i := 1) (v := .slice (some ⟨b1, o1, none⟩) n c1) rfl (by kernel_rfl) rfl (fun wq => by go_simp) (br _ _) ?_
   generalize ha : Act.put _ _ _ = z9; simp [Act.put] at ha; subst ha
   refine wq1 (i := 2) (v := .int .i64 i) rfl (by kernel_rfl) rfl (fun wq => by go_simp) (br _ _) ?_
   generalize ha : Act.put _ _ _ = z9; simp [Act.put] at ha; subst ha
   refine wq1 (i := 3) (v := .pointer (some ⟨b1, o1 + i * 69, none⟩)) rfl (by kernel_rfl) rfl (fun wq => by go_simp) (br _ _) ?_
   generalize ha : Act.put _ _ _ = z9; simp [Act.put] at ha; subst ha
   refine wq3 (i := 0) (v := .agg (aj b L P O).toArray) rfl (by kernel_rfl) rfl (fun wq hbq => du rfl rfl (fw gi rfl (fg ..) (fun j u hu => (hbq.cell (p := ⟨q, 0 + j, none⟩) HQ3.o).trans (aq (vs := aj b L P O) HM3.o.row j u hu)))) (br _ _) ?_
   generalize ha : Act.put _ _ _ = z9; simp [Act.put] at ha; subst ha
   refine wq3 (i := 4) (v := rv r (.slice A2 r.keys.length c2)) rfl (by kernel_rfl) rfl (fun wq hbq => du rfl rfl (fw fc rfl (cw _ _ _ _ _ _ (.slice A2 r.keys.length c2) HHS.o.1 HHS.o.2) (fun j u hu => (hbq.cell (p := ⟨b1, o1 + i * 69 + j, none⟩) HBG3.o).trans (HC3.o j u hu)))) (br _ _) ?_
   generalize ha : Act.put _ _ _ = z9; simp [Act.put] at ha; subst ha
   have HLT3 := Lh (HM3.o.lt)
   refine qdg (i := 5) (j := 9) (by kernel_rfl) rfl rfl (fun Q' hQ' => ?_) (fun Q' hQ' => ?_)
   focus
    go_wp2_with fail
    refine (yb (ownS (.slice A6 i c6) (.slice A7 i c7) (.slice A8 i c8)) b r (.agg (aj b L P O).toArray) A2 r.keys.length c2 w3.heap.size w3 ⟨L, P, O, rfl, HM3.o.now.1, HM3.o.now.2.1, HM3.o.now.2.2.1, HM3.o.now.2.2.2⟩ (fun p hp => (HLT3.o p hp).2) HHS.o (HKS3.o.more HM3.o.qlt.2.2) (nr _) HLN.o).mono ?_
    rintro e w4 ⟨v4, rfl, ⟨L2, P2, O2, rfl, h1, h2, h3, hf⟩, hb⟩
    have HB4 := Lh hb
    have HR4 := Lh (show RB3 (ownS (.slice A6 i c6) (.slice A7 i c7) (.slice A8 i c8)) w4 (io b r) L2 P2 O2 from ⟨h1, h2, h3, hf⟩)
    clear h1 h2 h3 hf hb
    go_wp2_with fail
    refine ⟨okU HB4.o, ?_⟩
    refine wq1 (i := 6) (v := .tuple #[.agg (aj (io b r) L2 P2 O2).toArray, .bool (mayD b r)]) rfl (by kernel_rfl) rfl (fun wq => by go_simp) HB4.o ?_
    generalize ha : Act.put _ _ _ = z9; simp [Act.put] at ha; subst ha
    refine wq1 (i := 7) (v := .agg (aj (io b r) L2 P2 O2).toArray) rfl (by kernel_rfl) rfl (fun wq => by go_simp) HB4.o ?_
    generalize ha : Act.put _ _ _ = z9; simp [Act.put] at ha; subst ha
    refine wq1 (i := 8) (v := .bool (mayD b r)) rfl (by kernel_rfl) rfl (fun wq => by go_simp) HB4.o ?_
    generalize ha : Act.put _ _ _ = z9; simp [Act.put] at ha; subst ha
    refine ea (i := 9) (by kernel_rfl) rfl (fun Q' hQ' => ?_)
    refine av rfl 30 rfl rm (vs := aj az nilV nilV nilV) rfl ?_
    have hb5 : Below w4.heap.size w4 (w4.alloc (.cells (aj az nilV nilV nilV).toArray 30)) := (br _ _).alloc (nr _) _
    have HR5 := Lh (HR4.o.below hb5)
    have HB5 := Lh (HB4.o.trans (hb5.mono HB4.o.size))
    have HG5 := Lh (hzn w4 (.cells (aj az nilV nilV nilV).toArray 30))
    have HQ4 := Lh (show w3.heap.size ≤ w4.heap.size from HB4.o.size)
    clear hb5 HR4 HB4
    generalize w4.alloc (.cells (aj az nilV nilV nilV).toArray 30) = w5 at *
    obtain ⟨q4, hq4⟩ : ∃ q4, q4 = w4.heap.size := ⟨_, rfl⟩
    rw [← hq4] at HG5 HQ4 ⊢
    clear hq4
    refine hQ' _ _ ⟨okU HB5.o, ?_⟩
    generalize ha : Act.put _ _ _ = z9; simp [Act.put] at ha; subst ha
   rotate_left
   focus
    refine av rfl 30 rfl rm (vs := aj az nilV nilV nilV) rfl ?_
    have hb4 : Below w3.heap.size w3 (w3.alloc (.cells (aj az nilV nilV nilV).toArray 30)) := (br _ _).alloc (nr _) _
    have HB4 := Lh hb4
    have HM4 := Lh (HM3.o.later hb4)
    have HG4 := Lh (hzn w3 (.cells (aj az nilV nilV nilV).toArray 30))
    clear hb4
    generalize w3.alloc (.cells (aj az nilV nilV nilV).toArray 30) = w4 at *
    obtain ⟨q4, hq4⟩ : ∃ q4, q4 = w3.heap.size := ⟨_, rfl⟩
    rw [← hq4] at HG4 ⊢
    have HQ4 := Lh (Nat.le_of_eq hq4.symm)
    clear hq4
    refine hQ' _ _ ⟨okU HB4.o, ?_⟩
    generalize ha : Act.put _ _ _ = z9; simp [Act.put] at ha; subst ha
    refine ea (i := 5) (by kernel_rfl) rfl (fun Q' hQ' => ?_)
    go_wp2_with fail
    refine (yb (ownS (.slice A6 i c6) (.slice A7 i c7) (.slice A8 i c8)) b r (.agg (aj b L P O).toArray) A2 r.keys.length c2 w4.heap.size w4 ⟨L, P, O, rfl, HM4.o.now.1, HM4.o.now.2.1, HM4.o.now.2.2.1, HM4.o.now.2.2.2⟩ (fun p hp => by have := (HLT3.o p hp).2; have := HB4.o.size; omega) HHS.o ((HKS3.o.below (HB4.o.mono HM3.o.qlt.2.2)).more HM4.o.qlt.2.2) (nr _) HLN.o).mono ?_
    rintro e w5 ⟨v4, rfl, ⟨L2, P2, O2, rfl, h1, h2, h3, hf⟩, hb⟩
    have HB5 := Lh (HB4.o.trans (hb.mono HB4.o.size))
    have HR5 := Lh (show RB3 (ownS (.slice A6 i c6) (.slice A7 i c7) (.slice A8 i c8)) w5 (io b r) L2 P2 O2 from ⟨h1, h2, h3, hf⟩)
    have HG5 := Lh ((hb.block q4 (gl HG4.o)).trans HG4.o)
    clear h1 h2 h3 hf hb HB4 HG4 HM4
    go_wp2_with fail
    refine ⟨okU HB5.o, ?_⟩
    refine wq1 (i := 6) (v := .tuple #[.agg (aj (io b r) L2 P2 O2).toArray, .bool (mayD b r)]) rfl (by kernel_rfl) rfl (fun wq => by go_simp) HB5.o ?_
    generalize ha : Act.put _ _ _ = z9; simp [Act.put] at ha; subst ha
    refine wq1 (i := 7) (v := .agg (aj (io b r) L2 P2 O2).toArray) rfl (by kernel_rfl) rfl (fun wq => by go_simp) HB5.o ?_
    generalize ha : Act.put _ _ _ = z9; simp [Act.put] at ha; subst ha
    refine wq1 (i := 8) (v := .bool (mayD b r)) rfl (by kernel_rfl) rfl (fun wq => by go_simp) HB5.o ?_
    generalize ha : Act.put _ _ _ = z9; simp [Act.put] at ha; subst ha
   rotate_left
   all_goals
    refine ea (i := 10) (by kernel_rfl) rfl (fun Q' hQ' => ?_)
    refine ac rfl 30 rfl rfl rfl (yj HG5.o rfl (oy HR5.o.1 HR5.o.2.1 HR5.o.2.2.1)) ?_
    have HM9 := Lh (HM3.o.later (below_setRow HB5.o HQ4.o (aj (io b r) L2 P2 O2).toArray))
    have HR9 := Lh (HR5.o.five (cs2 := (aj (io b r) L2 P2 O2).toArray) HG5.o rfl)
    have HQ9 := Lh (setRow_heap w5 q4 _ (aj (io b r) L2 P2 O2).toArray _ _ HG5.o)
    clear HR5 HB5 HG5 HQ4 HM3 HC3 HKS3 HBG3 HQ3 HLT3
    generalize w5.setRow q4 (aj (io b r) L2 P2 O2).toArray = w9 at *
    refine hQ' _ _ ⟨iy (by kernel_rfl), ?_⟩
    generalize ha : Act.put _ _ _ = z9; simp [Act.put] at ha; subst ha
    refine ea (i := 11) (by kernel_rfl) rfl (fun Q' hQ' => ?_)
    go_wp2_with fail
    refine ⟨iy (by kernel_rfl), ?_⟩
    refine rn (by kernel_rfl) ?_ _
    have HP9 := Lh (And.intro HM9.o.below HM9.o.qlt)
    obtain ⟨z, hz⟩ : ∃ z, z = mayD b r := ⟨_, rfl⟩
    rw [← hz]
    have HZ := Lh hz.symm
    clear hz
    cases z
    ·have HX := Lh (show qgt l w (.returned (.tuple #[.slice A6 i c6, .slice A7 i c7, .slice A8 i c8, .int .i64 k])) w9 from by
      have hn : i = nEv az rs := qae rs az i HLT2.o HEV.o (by rw [← HBE.o, ← HRL.o]; exact HZ.o)
      rw [HKE.o]
      have h9 := HM9.o
      rw [HBE.o] at h9
      rw [hn] at h9 ⊢
      exact ⟨rs, n0, us, _, q, M, _, _, _, t, L, P, O, HAT.o, rfl, h9⟩)
     go_wp2_with fail
     refine bodyPost_ret (dp rfl _ _ _) rfl ?_
     exact HX.o
    ·have hev := qg rs az i HLT2.o HEV.o (by rw [← HBE.o, ← HRL.o]; exact HZ.o)
     have hap : io b r = bkAt az rs (i + 1) := by unfold io; rw [HZ.o, if_pos rfl, hev.2, ← HBE.o, ← HRL.o]
     rw [hap] at HR9 HQ9
     have HEV2 := Lh hev.1
     clear hev hap
     obtain ⟨b2, hb2⟩ : ∃ b2, b2 = bkAt az rs (i + 1) := ⟨_, rfl⟩
     rw [← hb2] at HR9 HQ9
     have HB2E := Lh hb2
     clear hb2
     go_wp2_with (refine ai (some 42) rfl ?_)
     refine Stop.go (aa rfl 30 rfl rfl gi rfl (cs := aj b2 L2 P2 O2) (fg ..) (aq (vs := aj b2 L2 P2 O2) HQ9.o) ?_)
     refine ac rfl 30 rfl rfl rfl (yj HM9.o.row rfl (oy HR9.o.1 HR9.o.2.1 HR9.o.2.2.1)) ?_
     have HMA := Lh (HM9.o.turn HR9.o)
     clear HM9 HR9 HQ9 HP9
     generalize w9.setRow q (aj b2 L2 P2 O2).toArray = wa at *
     generalize ha : Act.put _ _ _ = z9; simp [Act.put] at ha; subst ha
     obtain ⟨b1', o1', hAA, hb1a, hca⟩ := HMA.o.all.row i HLT2.o
     injection hAA with hAA
     injection hAA with e1 e2
     subst e1 e2
     rw [← HRL.o, HUI.o] at hca
     have HCA := Lh hca
     clear hca hb1a
     go_wp2_with (refine ai (some 47) rfl ?_)
     refine Stop.go (aa rfl 42 rfl rfl fc rfl (cw _ _ _ _ _ _ (.slice A2 r.keys.length c2) HHS.o.1 HHS.o.2) HCA.o ?_)
     refine cd rfl 50 42 rfl rfl Tryz.underlying50 (qet r.kind r.seq r.kh r.kk r.mh r.ms (.slice A2 r.keys.length c2) HHS.o.1 HHS.o.2) (bb ..) (by rw [ah]; omega) (by rw [ah, HHS.o.1, HHS.o.2]; decide) ?_
     have hbb : Below wa.heap.size wa (wa.alloc (.cells (ag r.kind r.seq r.kh r.kk r.mh r.ms (.slice A2 r.keys.length c2)).toArray 42)) := (br _ _).alloc (nr _) _
     have HMB := Lh (HMA.o.later hbb)
     have HGB := Lh (hzn wa (.cells (ag r.kind r.seq r.kh r.kk r.mh r.ms (.slice A2 r.keys.length c2)).toArray 42))
     clear hbb HMA HCA
     generalize wa.alloc (.cells (ag r.kind r.seq r.kh r.kk r.mh r.ms (.slice A2 r.keys.length c2)).toArray 42) = wb at *
     have hbw := HMB.o.qlt.2.2
     refine ay qht rfl rfl rfl rfl HMB.o.recs (Rd.row (B := wb.heap.size) HGB.o (gl HGB.o)) (m := 1) (by rw [show (ag r.kind r.seq r.kh r.kk r.mh r.ms (.slice A2 r.keys.length c2)).toArray.toList = ag r.kind r.seq r.kh r.kk r.mh r.ms (.slice A2 r.keys.length c2) from rfl, ah, HHS.o.1, HHS.o.2]) (bd _ _ _ _ _ _ _ _ _) ?_ ?_ hbw ?_
     ·simp only [maxLen]; omega
     ·omega
     intro v6 wc hown6 hg6 hor6 _
     obtain ⟨A6', c6', hv6, _, _⟩ := ap hown6
     subst hv6
     have HMC := Lh (HMB.o.app6 hg6 (by rw [qla, HRD.o, HUI.o]; exact hown6) hor6)
     clear hown6 hg6 hor6 HMB HGB hbw
     generalize ha : Act.put _ _ _ = z9; simp [Act.put] at ha; subst ha
     have hbb : Below wc.heap.size wc (wc.alloc (.cells #[.int .i64 k] 3)) := (br _ _).alloc (nr _) _
     have HMD := Lh (HMC.o.later hbb)
     have HGD := Lh (hzn wc (.cells #[.int .i64 k] 3))
     clear hbb HMC
     go_wp2_with (refine ai (some 53) rfl ?_)
     generalize wc.alloc (.cells #[.int .i64 k] 3) = wd at *
     have hbw := HMD.o.qlt.2.2
     refine Stop.go (ay int_app rfl rfl rfl rfl HMD.o.ats (Rd.row (B := wd.heap.size) HGD.o (gl HGD.o)) (m := 1) rfl (fun u hu => by simp at hu; subst hu; rfl) ?_ ?_ hbw ?_)
     ·simp only [maxLen]; omega
     ·omega
     intro v7 we hown7 hg7 hor7 _
     obtain ⟨A7', c7', hv7, _, _⟩ := ap hown7
     subst hv7
     have HME := Lh (HMD.o.app7 hg7 (by rw [qpy, ← HKE.o]; exact hown7) hor7)
     clear hown7 hg7 hor7 HMD HGD hbw
     generalize ha : Act.put _ _ _ = z9; simp [Act.put] at ha; subst ha
     go_wp2_with (refine ai (some 55) rfl ?_)
     refine Stop.go (aa rfl 30 rfl rfl gi rfl (cs := aj b2 L2 P2 O2) (fg ..) (aq (vs := aj b2 L2 P2 O2) HME.o.row) ?_)
     refine cd rfl 52 30 rfl rfl (vs := aj b2 L2 P2 O2) Tryz.underlying52 (qmz b2 L2 P2 O2) rfl (by show 0 < 5; omega) (by show 5 ≤ 16777216; decide) ?_
     have hbb : Below we.heap.size we (we.alloc (.cells (aj b2 L2 P2 O2).toArray 30)) := (br _ _).alloc (nr _) _
     have HMF := Lh (HME.o.later hbb)
     have HGF := Lh (hzn we (.cells (aj b2 L2 P2 O2).toArray 30))
     clear hbb HME
     generalize we.alloc (.cells (aj b2 L2 P2 O2).toArray 30) = wf at *
     have hbw := HMF.o.qlt.2.2
     refine ay book_app rfl rfl rfl rfl HMF.o.books (Rd.row (B := wf.heap.size) HGF.o (gl HGF.o)) (m := 1) rfl (oy HMF.o.now.1 HMF.o.now.2.1 HMF.o.now.2.2.1) ?_ ?_ hbw ?_
     ·simp only [maxLen]; omega
     ·omega
     intro v8 wg hown8 hg8 hor8 _
     obtain ⟨A8', c8', hv8, _, _⟩ := ap hown8
     subst hv8
     have HMG := Lh (HMF.o.app8 HB2E.o hg8 hown8 hor8)
     clear hown8 hg8 hor8 HMF HGF hbw
     generalize ha : Act.put _ _ _ = z9; simp [Act.put] at ha; subst ha
     obtain ⟨b1', o1', hAA, hb1a, hca⟩ := HMG.o.all.row i HLT2.o
     obtain ⟨A2', c2', hu2, hks2⟩ := HMG.o.all.keys i HLT2.o
     injection hAA with hAA
     injection hAA with e1 e2
     subst e1 e2
     rw [← HRL.o, HUI.o] at hca
     rw [HUI.o, ← HRL.o] at hu2
     injection hu2 with e3 _ e4
     subst e3 e4
     rw [← HRL.o] at hks2
     have HCA := Lh hca
     have HKG := Lh hks2
     clear hca hb1a hks2
     go_wp2_with (refine ai (some 62) rfl ?_)
     refine Stop.go (aa rfl 42 rfl rfl fc rfl (cw _ _ _ _ _ _ (.slice A2 r.keys.length c2) HHS.o.1 HHS.o.2) HCA.o ?_)
     generalize ha : Act.put _ _ _ = z9; simp [Act.put] at ha; subst ha
     go_wp2_with fail
     refine (qou r A2 r.keys.length c2 M wg HHS.o HKG.o HMG.o.qlt.2.2 HGR.o.1 HGR.o.2.2).mono ?_
     rintro e wh ⟨vL, rfl, hoL, hbL⟩
     obtain ⟨AL, cL, hvL, _, _⟩ := ap hoL
     subst hvL
     have HMH := Lh (HMG.o.later hbL)
     have HTK := Lh (show evAt rs (i + 1) = k + (ca r).length by rw [qil HLT2.o, ← HRL.o, HKE.o])
     have hkl2 : k + (ca r).length ≤ l.length := by
      have : evAt rs (i + 1) ≤ l.length := ov HAT.o (i + 1)
      rw [HTK.o] at this
      exact this
     clear hoL hbL HMG HCA HKG
     go_wp2_with fail
     go_roundw
     case rel =>
      refine ⟨i + 1, A6', A7', A8', c6', c7', c8', t.snoc i L2 P2 O2, L2, P2, O2, by omega, rfl, rfl, rfl, ?_, by go_num, HEV2, ?_⟩
      ·rw [HTK.o]
       go_num
      ·rw [← HB2E.o]
       exact HMH
     case measure => simp [intOf]; omega
  ·have hin : i = n := by omega
   have HX := Lh (show qgt l w (.returned (.tuple #[.slice A6 i c6, .slice A7 i c7, .slice A8 i c8, .int .i64 k])) wr from by
    have hn : i = nEv az rs := by
     have h1 := HEV.o
     have h2 := sn rs az
     have h3 := HN.o
     omega
    rw [HKE.o]
    have h9 := HM.o
    rw [HBE.o] at h9
    rw [hn] at h9 ⊢
    exact ⟨rs, n0, us, _, q, M, _, _, _, t, L, P, O, HAT.o, rfl, h9⟩)
   clear hi
   go_wp2_with fail
   refine bodyPost_ret (dp rfl _ _ _) rfl ?_
   exact HX.o
end Go.Proofs.YtplbcbamnjnhlaaGreatDoor
