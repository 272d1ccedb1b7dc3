/- Texts of this proof joined: RefLine, RefLines, RefApply, Says33, Awake33, Touch1, TakeU2. -/
import Derived.Test.YtplbcbamnjnhlaaGreatDoorMT00
import Derived.Test.YtplbcbamnjnhlaaGreatDoorMT35
import Derived.Test.YtplbcbamnjnhlaaGreatDoorMT30
import Derived.Test.YtplbcbamnjnhlaaGreatDoorMT19
import Derived.Test.YtplbcbamnjnhlaaGreatDoorMT24
import Derived.Test.YtplbcbamnjnhlaaGreatDoorMT17
import Derived.Test.YtplbcbamnjnhlaaGreatDoorMT29
import Derived.Test.YtplbcbamnjnhlaaGreatDoorMT27
import Derived.Test.YtplbcbamnjnhlaaGreatDoorMT33
import Derived.Test.YtplbcbamnjnhlaaGreatDoorMT34
set_option maxRecDepth 100000
set_option maxHeartbeats 40000000
namespace Go.Proofs.YtplbcbamnjnhlaaGreatDoor
open Go.RowKit

theorem qou (r : RecD) (A : Option Addr) (n c B : Nat) (w : World) (hr : Hs r) (h1 : SlR eKey w B (.slice A n c) r.keys) (hB : B ≤ w.heap.size) (hR : au r = true) (hks : ∀ x ∈ r.keys, x.1.length = 32) :
  Calls Tryz.prog 41 #[rv r (.slice A n c)] w fun e w' => ∃ v, e = .returned v ∧ w'.ownsRow w.heap.size 5 1 v (ca r).length (ak (ca r)) ∧ Below w.heap.size w w' := by
 have HR := Lh hr
 have HBW := Lh hB
 have HRT := Lh hR
 obtain ⟨K, hK⟩ : ∃ K : UInt8, r.kind = (K.toNat : Int) := ⟨UInt8.ofNat r.kind.toNat, by
  have := lq hR
  rw [UInt8.toNat_ofNat']
  omega⟩
 have HK := Lh hK
 have hk8 := K.toNat_lt
 have HLL := Lh (qal r hr hks hR)
 have HLN := Lh (show ca r = eo (cv K (dx r)) ++ [10] by unfold ca; rw [hK]; simp)
 have HB1 := Lh ((br _ _).alloc (nr _) (.cells (ag r.kind r.seq r.kh r.kk r.mh r.ms (.slice A n c)).toArray 42) : Below w.heap.size w _)
 have HG1 := Lh (cu.new (t := 42) (kind := r.kind) (seq := r.seq) (kk := r.kk) (ms := r.ms) (v := .slice A n c) w hr.1 hr.2)
 have HK1 := Lh (h1.fut HB1.o hB (nr B))
 clear hr h1 hB hks hK hR
 go_enter Tryz.func41, Tryz.ntmps41
 go_wp2_with (refine ai (some 1) rfl ?_)
 refine Stop.go (bn rfl _ rfl rfl (bb ..) ?_)
 generalize w.alloc (.cells (ag r.kind r.seq r.kh r.kk r.mh r.ms (.slice A n c)).toArray 42) = w1 at *
 go_wp2_with fail
 refine xh [4, 5, 6, 7, 8] [1, 3] [] (fun w' => Below w1.drew.heap.size w1.drew w') 7 _ (br _ _) (by kernel_rfl) rfl rfl (by kernel_rfl) ?_
 have HBD := Lh (show Below w1.heap.size w1 w1.drew from (br _ _).drew)
 have HG2 := Lh (HG1.o.later HBD.o)
 have HK2 := Lh (HK1.o.below (HBD.o.mono (Nat.le_trans HBW.o HB1.o.size)))
 have HBN := Lh (show B ≤ w1.drew.heap.size from Nat.le_trans (Nat.le_trans HBW.o HB1.o.size) HBD.o.size)
 generalize w1.drew = w2 at *
 have c0 : w2.cell? ⟨w.heap.size, 0, none⟩ = some (.int .i64 K.toNat) := by rw [← HK.o]; exact HG2.o.kind_
 have HC0 := Lh (show ∀ w', Below w2.heap.size w2 w' → w'.cell? ⟨w.heap.size, 0, none⟩ = some (.int .i64 K.toNat) from fun w' hb => by rw [← HK.o]; exact (HG2.o.later hb).kind_)
 have HCA := Lh (show ∀ w', Below w2.heap.size w2 w' → ∀ j u, (ag r.kind r.seq r.kh r.kk r.mh r.ms (.slice A n c))[j]? = some u → w'.cell? ⟨w.heap.size, 0 + j, none⟩ = some u from fun w' hb => (HG2.o.later hb).all_)
 refine wpF_seg 3 (by decide) (fun Q0 hQ0 => ?_)
 simp only [T1, T0]
 go_wp2_with fail
 try simp only [dr1, dr0]
 refine wpF_seg 1 (by decide) (fun Q1 hQ1 => ?_)
 simp only [T1, T0]
 refine aa rfl 42 rfl rfl fc rfl (cw _ _ _ _ _ _ _ HR.o.1 HR.o.2) HG2.o.all_ ?_
 refine hQ1 _ _ ?_
 simp only [dr1, dr0]
 generalize ha : Act.put _ _ _ = z9; simp [Act.put] at ha; subst ha
 obtain ⟨LL, hLL⟩ : ∃ L, L = dx r := ⟨_, rfl⟩
 rw [← hLL] at HLL HLN
 obtain ⟨F, hF⟩ : ∃ F, F = cv K LL := ⟨_, rfl⟩
 have HFL := Lh (show F.length ≤ 10000 by rw [hF, iu]; have := nh LL.length (by have := HLL.o; omega); have := HLL.o; omega)
 rw [← hF] at HLN
 obtain ⟨S, hS⟩ : ∃ S, S = eo F := ⟨_, rfl⟩
 have hsl : S.length ≤ 20000 := by rw [hS, jv]; have := HFL.o; omega
 rw [← hS] at HLN
 have HEL := Lh hLL
 have HEF := Lh hF
 have HES := Lh hS
 have HB2 := Lh (br w2.heap.size w2)
 clear hLL hF hS
 refine xg (by decide) rfl (fun Q1 hQ1 => ?_) (fun Q1 hQ1 => ?_)
 ·have hbf : Below w2.heap.size w2 (w2.alloc (.cells #[.int .u8 10] 5)) := (br _ _).alloc (nr _) _
  have HF3 := Lh (hzn w2 (.cells #[.int .u8 10] 5))
  have HB3 := Lh (HB2.o.trans (hbf.mono HB2.o.size))
  clear hbf
  go_wp2_with fail
  generalize w2.alloc (.cells #[.int .u8 10] 5) = w3 at *
  refine ⟨HB3.o, ?_⟩
  refine mm (by decide) (fun Q1 hQ1 => ?_)
  go_wp2_with fail
  refine (yy r A n c B _ HR.o (HK2.o.below (HB3.o.mono HBN.o)) (Nat.le_trans HBN.o HB3.o.size) HRT.o).mono ?_
  rintro e w4 ⟨v4, rfl, ho4, hb4⟩
  rw [← HEL.o] at ho4
  obtain ⟨A4, c4, rfl, _, _⟩ := ap ho4
  have HB4 := Lh (HB3.o.trans (hb4.mono HB3.o.size))
  have HF4 := Lh (show w4.heap[w2.heap.size]? = some (.cells #[.int .u8 10] 5 (0, 0)) from (hb4.block _ (gl HF3.o)).trans HF3.o)
  have HL4 := Lh (Rd.of_own ho4)
  clear ho4 hb4
  go_wp2_with fail
  refine ⟨HB4.o, ?_⟩
  refine mm (by decide) (fun Q1 hQ1 => ?_)
  go_wp2_with fail
  refine (vp K LL _ _ _ _ HL4.o (nr _) (by have := HLL.o; omega)).mono ?_
  rintro e w5 ⟨v5, rfl, ho5, hb5⟩
  rw [← HEF.o] at ho5
  obtain ⟨A5, c5, rfl, _, _⟩ := ap ho5
  have HB5 := Lh (HB4.o.trans (hb5.mono HB4.o.size))
  have HF5 := Lh (show w5.heap[w2.heap.size]? = some (.cells #[.int .u8 10] 5 (0, 0)) from (hb5.block _ (gl HF4.o)).trans HF4.o)
  have HL5 := Lh (Rd.of_own ho5)
  clear ho5 hb5
  go_wp2_with fail
  refine ⟨HB5.o, ?_⟩
  refine mm (by decide) (fun Q1 hQ1 => ?_)
  go_wp2_with fail
  refine (ru F _ _ _ _ HL5.o (nr _) (by have := HFL.o; omega)).mono ?_
  rintro e w6 ⟨v6, rfl, ho6, hb6⟩
  rw [← HES.o] at ho6
  obtain ⟨A6, c6, rfl, _, _⟩ := ap ho6
  have HB6 := Lh (HB5.o.trans (hb6.mono HB5.o.size))
  have HF6 := Lh (show w6.heap[w2.heap.size]? = some (.cells #[.int .u8 10] 5 (0, 0)) from (hb6.block _ (gl HF5.o)).trans HF5.o)
  have HO6 := Lh (fv ho6 (show w2.heap.size ≤ w5.heap.size from HB5.o.size))
  clear ho6 hb6
  go_wp2_with fail
  refine ⟨HB6.o, ?_⟩
  refine sr ?_
  refine mm (by decide) (fun Q1 hQ1 => ?_)
  refine ay im rfl rfl rfl rfl HO6.o (Rd.row (B := w6.heap.size) HF6.o (gl HF6.o)) (m := 1) rfl (by simp [Value.oneCell']) ?h63 ?hby ?hbase ?_
  case h63 => simp only [maxLen]; omega
  case hby => omega
  case hbase => exact HB6.o.size
  intro v7 w7 hown7 hg7 _ _
  have HB7 := Lh (ax HB6.o hg7 HO6.o (nr _) HB6.o.size)
  have HO7 := Lh hown7
  clear hown7 hg7
  refine jm (hQ1 _ _ ⟨HB7.o, ?_⟩)
  generalize ha : Act.put _ _ _ = z9; simp [Act.put] at ha; subst ha
  refine ou 1 (by decide) (fun Q2 hQ2 => ?_)
  simp only [T1, T0]
  go_wp2_with fail
  try simp only [dr1, dr0]
  refine xe ⟨by rfl, ⟨(fun _ => ⟨_, fun w' hI => iz Tryz.underlying3 (HC0.o w' hI)⟩), (fun _ => ⟨_, fun w' hI => fw fc rfl (cw _ _ _ _ _ _ _ HR.o.1 HR.o.2) (HCA.o w' hI)⟩), trivial⟩, ?_⟩
  go_wp2_with fail
  go_ret
  refine ⟨v7, rfl, ?_, HB1.o.trans ((HBD.o.trans (HB7.o.mono HBD.o.size)).mono HB1.o.size)⟩
  have h7 := fv HO7.o (show w.heap.size ≤ w2.heap.size from Nat.le_trans HB1.o.size HBD.o.size)
  rw [HLN.o, bt, List.length_append]
  exact h7
 ·go_wp2_with fail
  refine (yy r A n c B _ HR.o (HK2.o.below (HB2.o.mono HBN.o)) (Nat.le_trans HBN.o HB2.o.size) HRT.o).mono ?_
  rintro e w8 ⟨v8, rfl, ho8, hb8⟩
  rw [← HEL.o] at ho8
  obtain ⟨A8, c8, rfl, _, _⟩ := ap ho8
  have HB8 := Lh (HB2.o.trans (hb8.mono HB2.o.size))
  have HL8 := Lh (Rd.of_own ho8)
  clear ho8 hb8
  go_wp2_with fail
  refine ⟨HB8.o, ?_⟩
  refine xg (by decide) rfl (fun Q1 hQ1 => ?_) (fun Q1 hQ1 => ?_)
  ·have hbf : Below w8.heap.size w8 (w8.alloc (.cells #[.int .u8 10] 5)) := (br _ _).alloc (nr _) _
   have HF9 := Lh (hzn w8 (.cells #[.int .u8 10] 5))
   have HB9 := Lh (HB8.o.trans (hbf.mono HB8.o.size))
   have HL9 := Lh ((HL8.o.below hbf).more hbf.size)
   clear hbf
   go_wp2_with fail
   generalize w8.alloc (.cells #[.int .u8 10] 5) = w9 at *
   refine ⟨HB9.o, ?_⟩
   refine mm (by decide) (fun Q1 hQ1 => ?_)
   go_wp2_with fail
   refine (vp K LL _ _ _ _ HL9.o (nr _) (by have := HLL.o; omega)).mono ?_
   rintro e w10 ⟨v10, rfl, ho10, hb10⟩
   rw [← HEF.o] at ho10
   obtain ⟨A10, c10, rfl, _, _⟩ := ap ho10
   have HB10 := Lh (HB9.o.trans (hb10.mono HB9.o.size))
   have HF10 := Lh (show w10.heap[w8.heap.size]? = some (.cells #[.int .u8 10] 5 (0, 0)) from (hb10.block _ (gl HF9.o)).trans HF9.o)
   have HL10 := Lh (Rd.of_own ho10)
   clear ho10 hb10
   go_wp2_with fail
   refine ⟨HB10.o, ?_⟩
   refine mm (by decide) (fun Q1 hQ1 => ?_)
   go_wp2_with fail
   refine (ru F _ _ _ _ HL10.o (nr _) (by have := HFL.o; omega)).mono ?_
   rintro e w11 ⟨v11, rfl, ho11, hb11⟩
   rw [← HES.o] at ho11
   obtain ⟨A11, c11, rfl, _, _⟩ := ap ho11
   have HB11 := Lh (HB10.o.trans (hb11.mono HB10.o.size))
   have HF11 := Lh (show w11.heap[w8.heap.size]? = some (.cells #[.int .u8 10] 5 (0, 0)) from (hb11.block _ (gl HF10.o)).trans HF10.o)
   have HO11 := Lh (fv ho11 (show w2.heap.size ≤ w10.heap.size from HB10.o.size))
   clear ho11 hb11
   go_wp2_with fail
   refine ⟨HB11.o, ?_⟩
   refine sr ?_
   refine mm (by decide) (fun Q1 hQ1 => ?_)
   refine ay im rfl rfl rfl rfl HO11.o (Rd.row (B := w11.heap.size) HF11.o (gl HF11.o)) (m := 1) rfl (by simp [Value.oneCell']) ?h63 ?hby ?hbase ?_
   case h63 => simp only [maxLen]; omega
   case hby => omega
   case hbase => exact HB11.o.size
   intro v12 w12 hown12 hg12 _ _
   have HB12 := Lh (ax HB11.o hg12 HO11.o (nr _) HB11.o.size)
   have HO12 := Lh hown12
   clear hown12 hg12
   refine jm (hQ1 _ _ ⟨HB12.o, ?_⟩)
   generalize ha : Act.put _ _ _ = z9; simp [Act.put] at ha; subst ha
   refine ou 1 (by decide) (fun Q2 hQ2 => ?_)
   simp only [T1, T0]
   go_wp2_with fail
   try simp only [dr1, dr0]
   refine xe ⟨by rfl, ⟨(fun _ => ⟨_, fun w' hI => iz Tryz.underlying3 (HC0.o w' hI)⟩), (fun _ => ⟨_, fun w' hI => fw fc rfl (cw _ _ _ _ _ _ _ HR.o.1 HR.o.2) (HCA.o w' hI)⟩), trivial⟩, ?_⟩
   go_wp2_with fail
   go_ret
   refine ⟨v12, rfl, ?_, HB1.o.trans ((HBD.o.trans (HB12.o.mono HBD.o.size)).mono HB1.o.size)⟩
   have h7 := fv HO12.o (show w.heap.size ≤ w2.heap.size from Nat.le_trans HB1.o.size HBD.o.size)
   rw [HLN.o, bt, List.length_append]
   exact h7
  ·go_wp2_with fail
   refine (vp K LL _ _ _ _ HL8.o (nr _) (by have := HLL.o; omega)).mono ?_
   rintro e w13 ⟨v13, rfl, ho13, hb13⟩
   rw [← HEF.o] at ho13
   obtain ⟨A13, c13, rfl, _, _⟩ := ap ho13
   have HB13 := Lh (HB8.o.trans (hb13.mono HB8.o.size))
   have HL13 := Lh (Rd.of_own ho13)
   clear ho13 hb13
   go_wp2_with fail
   refine ⟨HB13.o, ?_⟩
   refine xg (by decide) rfl (fun Q1 hQ1 => ?_) (fun Q1 hQ1 => ?_)
   ·have hbf : Below w13.heap.size w13 (w13.alloc (.cells #[.int .u8 10] 5)) := (br _ _).alloc (nr _) _
    have HF14 := Lh (hzn w13 (.cells #[.int .u8 10] 5))
    have HB14 := Lh (HB13.o.trans (hbf.mono HB13.o.size))
    have HL14 := Lh ((HL13.o.below hbf).more hbf.size)
    clear hbf
    go_wp2_with fail
    generalize w13.alloc (.cells #[.int .u8 10] 5) = w14 at *
    refine ⟨HB14.o, ?_⟩
    refine mm (by decide) (fun Q1 hQ1 => ?_)
    go_wp2_with fail
    refine (ru F _ _ _ _ HL14.o (nr _) (by have := HFL.o; omega)).mono ?_
    rintro e w15 ⟨v15, rfl, ho15, hb15⟩
    rw [← HES.o] at ho15
    obtain ⟨A15, c15, rfl, _, _⟩ := ap ho15
    have HB15 := Lh (HB14.o.trans (hb15.mono HB14.o.size))
    have HF15 := Lh (show w15.heap[w13.heap.size]? = some (.cells #[.int .u8 10] 5 (0, 0)) from (hb15.block _ (gl HF14.o)).trans HF14.o)
    have HO15 := Lh (fv ho15 (show w2.heap.size ≤ w14.heap.size from HB14.o.size))
    clear ho15 hb15
    go_wp2_with fail
    refine ⟨HB15.o, ?_⟩
    refine sr ?_
    refine mm (by decide) (fun Q1 hQ1 => ?_)
    refine ay im rfl rfl rfl rfl HO15.o (Rd.row (B := w15.heap.size) HF15.o (gl HF15.o)) (m := 1) rfl (by simp [Value.oneCell']) ?h63 ?hby ?hbase ?_
    case h63 => simp only [maxLen]; omega
    case hby => omega
    case hbase => exact HB15.o.size
    intro v16 w16 hown16 hg16 _ _
    have HB16 := Lh (ax HB15.o hg16 HO15.o (nr _) HB15.o.size)
    have HO16 := Lh hown16
    clear hown16 hg16
    refine jm (hQ1 _ _ ⟨HB16.o, ?_⟩)
    generalize ha : Act.put _ _ _ = z9; simp [Act.put] at ha; subst ha
    refine ou 1 (by decide) (fun Q2 hQ2 => ?_)
    simp only [T1, T0]
    go_wp2_with fail
    try simp only [dr1, dr0]
    refine xe ⟨by rfl, ⟨(fun _ => ⟨_, fun w' hI => iz Tryz.underlying3 (HC0.o w' hI)⟩), (fun _ => ⟨_, fun w' hI => fw fc rfl (cw _ _ _ _ _ _ _ HR.o.1 HR.o.2) (HCA.o w' hI)⟩), trivial⟩, ?_⟩
    go_wp2_with fail
    go_ret
    refine ⟨v16, rfl, ?_, HB1.o.trans ((HBD.o.trans (HB16.o.mono HBD.o.size)).mono HB1.o.size)⟩
    have h7 := fv HO16.o (show w.heap.size ≤ w2.heap.size from Nat.le_trans HB1.o.size HBD.o.size)
    rw [HLN.o, bt, List.length_append]
    exact h7
   ·go_wp2_with fail
    refine (ru F _ _ _ _ HL13.o (nr _) (by have := HFL.o; omega)).mono ?_
    rintro e w17 ⟨v17, rfl, ho17, hb17⟩
    rw [← HES.o] at ho17
    obtain ⟨A17, c17, rfl, _, _⟩ := ap ho17
    have HB17 := Lh (HB13.o.trans (hb17.mono HB13.o.size))
    have HO17 := Lh (fv ho17 (show w2.heap.size ≤ w13.heap.size from HB13.o.size))
    clear ho17 hb17
    go_wp2_with fail
    refine ⟨HB17.o, ?_⟩
    refine qiw ?_
    refine ig (fun Q1 hQ1 => ?_)
    have hbf : Below w17.heap.size w17 (w17.alloc (.cells #[.int .u8 10] 5)) := (br _ _).alloc (nr _) _
    have HF18 := Lh (hzn w17 (.cells #[.int .u8 10] 5))
    have HB18 := Lh (HB17.o.trans (hbf.mono HB17.o.size))
    have HO18 := Lh (bw HO17.o hbf)
    clear hbf
    go_wp2_with fail
    generalize w17.alloc (.cells #[.int .u8 10] 5) = w18 at *
    refine ⟨HB18.o, ?_⟩
    refine ig (fun Q1 hQ1 => ?_)
    refine ay im rfl rfl rfl rfl HO18.o (Rd.row (B := w18.heap.size) HF18.o (gl HF18.o)) (m := 1) rfl (by simp [Value.oneCell']) ?h63 ?hby ?hbase ?_
    case h63 => simp only [maxLen]; omega
    case hby => omega
    case hbase => exact HB18.o.size
    intro v19 w19 hown19 hg19 _ _
    have HB19 := Lh (ax HB18.o hg19 HO18.o (nr _) HB18.o.size)
    have HO19 := Lh hown19
    clear hown19 hg19
    refine jm (hQ1 _ _ ⟨HB19.o, ?_⟩)
    generalize ha : Act.put _ _ _ = z9; simp [Act.put] at ha; subst ha
    refine fx 1 (by decide) (fun Q2 hQ2 => ?_)
    simp only [T1, T0]
    go_wp2_with fail
    try simp only [dr1, dr0]
    refine lu ⟨by rfl, ⟨(fun _ => ⟨_, fun w' hI => iz Tryz.underlying3 (HC0.o w' hI)⟩), (fun _ => ⟨_, fun w' hI => fw fc rfl (cw _ _ _ _ _ _ _ HR.o.1 HR.o.2) (HCA.o w' hI)⟩), trivial⟩, ?_⟩
    go_wp2_with fail
    go_ret
    refine ⟨v19, rfl, ?_, HB1.o.trans ((HBD.o.trans (HB19.o.mono HBD.o.size)).mono HB1.o.size)⟩
    have h7 := fv HO19.o (show w.heap.size ≤ w2.heap.size from Nat.le_trans HB1.o.size HBD.o.size)
    rw [HLN.o, bt, List.length_append]
    exact h7


theorem yj {w : World} {q : Nat} {cs : Array Value} {t : TypeId} {b : bj} {L P O : Value} (h : w.heap[q]? = some (.cells cs t (0, 0))) (h5 : cs.size = 5) (h1 : ∀ u ∈ aj b L P O, u.oneCell' = true) :
  (Instr.storeAt 30 (.pointer (some ⟨q, 0, none⟩)) (.agg (aj b L P O).toArray)).run Tryz.prog w = .ok () (w.setRow q (aj b L P O).toArray) := by
 rw [jt (vs := aj b L P O) rfl (fg b L P O) h (by rw [h5]; exact nr 5) h1]
 have hz : cs.toList.drop 5 = [] := by rw [List.drop_eq_nil_iff]; simp [h5]
 rw [show 0 + (aj b L P O).length = 5 from rfl, hz, List.take_zero, List.nil_append, List.append_nil]
theorem qmx (s : Int) (k m : K32) (w : World) : (Instr.build 79 #[(0, .int .i64 s), (1, kv k), (2, jc m.1.1), (3, .int .i64 m.1.2)]).run Tryz.prog w = .ok (qaq (s, (k, m))) w := by
 unfold Instr.build
 simp only [Sem.run_bind, qbb, Result.andThen_ok, run_underlying tg, qcu]
 have l1 := bi k
 have l2 : (ak m.1.1).length = 32 := by rw [am, m.2]
 have h00 := lh (place := zc) (i := 0) (off := 0) (v := .int .i64 s) (vs := [.int .i64 s]) (rest := [(1, kv k), (2, jc m.1.1), (3, .int .i64 m.1.2)]) (cs := an (0, (zk32, zk32))) (cs' := an (s, (zk32, zk32))) rfl rfl (by rw [bq]; show 0 + 1 ≤ 67; omega) rfl
 have h0 := lh (place := zc) (i := 1) (off := 1) (v := kv k) (vs := encK k) (rest := [(2, jc m.1.1), (3, .int .i64 m.1.2)]) (cs := an (s, (zk32, zk32))) (cs' := [.int .i64 s] ++ (encK k ++ af z32 0)) rfl (by rw [l1]; rfl) (by rw [l1, bq]; omega) (by rw [l1]; rfl)
 have h1 := lh (place := zc) (i := 2) (off := 34) (v := jc m.1.1) (vs := ak m.1.1) (rest := [(3, .int .i64 m.1.2)]) (cs := [.int .i64 s] ++ (encK k ++ af z32 0)) (cs' := [.int .i64 s] ++ (encK k ++ (ak m.1.1 ++ [.int .i64 0]))) rfl (by rw [l2]; rfl) (by simp [l1, l2, ae, bg]) (by
  rw [← List.append_assoc, List.take_append_of_le_length (by simp [l1]), List.take_of_length_le (by simp [l1]), l2, List.drop_append, List.drop_of_length_le (by simp [l1])]
  simp [l1]
  rfl)
 have h2 := lh (place := zc) (i := 3) (off := 66) (v := .int .i64 m.1.2) (vs := [.int .i64 m.1.2]) (rest := []) (cs := [.int .i64 s] ++ (encK k ++ (ak m.1.1 ++ [.int .i64 0]))) (cs' := [.int .i64 s] ++ (encK k ++ (ak m.1.1 ++ [.int .i64 m.1.2]))) rfl rfl (by simp [l1, l2]) (by
  rw [← List.append_assoc, ← List.append_assoc, List.take_append_of_le_length (by simp [l1, l2]), List.take_of_length_le (by simp [l1, l2]), List.drop_of_length_le (by simp [l1, l2])]
  simp)
 rw [h0, h1, h2] at h00
 rw [show (qaq (0, (zk32, zk32))).cells = (an (0, (zk32, zk32))).toArray from rfl, h00]
 rfl
theorem qle {w : World} {B n c : Nat} {A : Option Addr} {l : List dg} (h : SlR gh w B (.slice A n c) l) : Rd w B A (dt l) := by
 obtain ⟨A', c', css, e, _, _, h3, h4, h5⟩ := h
 injection e with e1 e2 e3
 subst e1
 have : css = l.map an := List.ext_getElem? fun i => by
  rw [List.getElem?_map]
  cases hx : l[i]? with
  |none => rw [List.getElem?_eq_none (by rw [h3]; exact List.getElem?_eq_none_iff.1 hx)]; rfl
  |some x =>
   have hi : i < css.length := by rw [h3]; exact (List.getElem?_eq_some_iff.1 hx).1
   rw [List.getElem?_eq_getElem hi]
   exact congrArg some (h5 i _ x (List.getElem?_eq_getElem hi) hx)
 rw [this, ← List.flatMap_def] at h4
 exact h4
theorem re {l : List dg} : ∀ u ∈ dt l, u.oneCell' = true := by
 intro u hu
 simp only [dt, List.mem_flatMap] at hu
 obtain ⟨a, _, hu⟩ := hu
 exact ey _ u hu
theorem own_lt5 {w : World} {base : Nat} {t : TypeId} {s q : Nat} (h : w.ownsRow base t s (.slice (some ⟨q, 0, none⟩) 0 0) 0 []) : q < w.heap.size := (h.lt q rfl).2
theorem qtt {w : World} {B : Nat} {A : Option Addr} {n c : Nat} {ks : List KeyD} (h : SlR eKey w B (.slice A n c) ks) {i : Nat} (hi : i < ks.length) :
  ∃ q off, A = some ⟨q, off, none⟩ ∧ q < B ∧ (∀ j u, (encK (k32 ks[i]))[j]? = some u → w.cell? ⟨q, off + i * 33 + j, none⟩ = some u) ∧ ks[i].1.length = 32 := by
 obtain ⟨q, off, cs, rfl, _, hq, hrep, hc⟩ := h.get hi (by decide)
 obtain ⟨rfl, h32, _, _⟩ := tm hrep
 refine ⟨q, off, rfl, hq, fun j u hu => ?_, h32⟩
 rw [Nat.add_assoc]
 refine hc j u ?_
 unfold encK at hu
 rw [qap h32] at hu
 exact hu
section
variable {w wc : World} {b : bj} {L P O : Value} {kind seq : Int} {kx mx : K32} {v : Value} {keys : List KeyD}
theorem MidR.drew (h : MidR w wc b L P O kind seq kx mx v keys) : MidR w wc.drew b L P O kind seq kx mx v keys := h.later (br _ _).drew
theorem MidR.row_all (h : MidR w wc b L P O kind seq kx mx v keys) : ∀ j u, (aj b L P O)[j]? = some u → wc.cell? ⟨w.heap.size, 0 + j, none⟩ = some u := aq (vs := aj b L P O) h.row
theorem MidR.ones (h : MidR w wc b L P O kind seq kx mx v keys) : ∀ u ∈ aj b L P O, u.oneCell' = true := oy h.live h.pins h.ints
theorem MidR.end_ (h : MidR w wc b L P O kind seq kx mx v keys) : (Instr.storeAt 30 (.pointer (some ⟨w.heap.size + 2, 0, none⟩)) (.agg (aj b L P O).toArray)).run Tryz.prog wc = .ok () (wc.setRow (w.heap.size + 2) (aj b L P O).toArray) := yj h.o rfl h.ones
theorem midR_new (w : World) {B : Nat} (hB : B ≤ w.heap.size) (hL : SlR gh w B L (fm b.live)) (hP : SlR eK w B P b.pins) (hO : SlR gh w B O b.ints) (hk : SlR eKey w B v keys) :
  MidR w (((w.alloc (.cells (aj b L P O).toArray 30)).alloc (.cells (ag kind seq kx.1.1 kx.1.2 mx.1.1 mx.1.2 v).toArray 42)).alloc (.cells (aj az nilV nilV nilV).toArray 30)) b L P O kind seq kx mx v keys := by
 have hb1 : Below w.heap.size w (w.alloc (.cells (aj b L P O).toArray 30)) := (br _ _).alloc (nr _) _
 have hs1 : (w.alloc (.cells (aj b L P O).toArray 30)).heap.size = w.heap.size + 1 := sz_ _ _
 have hg1 := hzn w (.cells (aj b L P O).toArray 30)
 generalize w.alloc (.cells (aj b L P O).toArray 30) = w1 at *
 have hb2 : Below w1.heap.size w1 (w1.alloc (.cells (ag kind seq kx.1.1 kx.1.2 mx.1.1 mx.1.2 v).toArray 42)) := (br _ _).alloc (nr _) _
 have hs2 : (w1.alloc (.cells (ag kind seq kx.1.1 kx.1.2 mx.1.1 mx.1.2 v).toArray 42)).heap.size = w.heap.size + 2 := by rw [sz_, hs1]
 have hg2 : cu (w1.alloc (.cells (ag kind seq kx.1.1 kx.1.2 mx.1.1 mx.1.2 v).toArray 42)) w1.heap.size 42 kind seq kx.1.1 kx.1.2 mx.1.1 mx.1.2 v := cu.new w1 kx.2 mx.2
 rw [hs1] at hg2
 have hr1 := (hb2.block w.heap.size (by omega)).trans hg1
 generalize w1.alloc (.cells (ag kind seq kx.1.1 kx.1.2 mx.1.1 mx.1.2 v).toArray 42) = w2 at *
 have hb3 : Below w2.heap.size w2 (w2.alloc (.cells (aj az nilV nilV nilV).toArray 30)) := (br _ _).alloc (nr _) _
 have hs3 : (w2.alloc (.cells (aj az nilV nilV nilV).toArray 30)).heap.size = w.heap.size + 3 := by rw [sz_, hs2]
 have hg3 := hzn w2 (.cells (aj az nilV nilV nilV).toArray 30)
 rw [hs2] at hg3
 have hr2 := (hb3.block w.heap.size (by omega)).trans hr1
 have hq2 := hg2.later hb3
 have hbb : Below w.heap.size w (w2.alloc (.cells (aj az nilV nilV nilV).toArray 30)) := (hb1.trans (hb2.mono (by omega))).trans (hb3.mono (by omega))
 exact ⟨hr2, hq2, hg3, hL.fut hbb hB (by omega), hP.fut hbb hB (by omega), hO.fut hbb hB (by omega), hk.fut hbb hB hB, hbb⟩
end

structure SayM (w wc : World) (g : Nat) (b : bj) (L P O v5 v6 : Value) : Prop where
 book : eh wc g b
 row : wc.heap[w.heap.size]? = some (.cells (aj b L P O).toArray 30 (0, 0))
 live : SlR gh wc w.heap.size L (fm b.live)
 pins : SlR eK wc w.heap.size P b.pins
 ints : SlR gh wc w.heap.size O b.ints
 k5 : SlR eK wc wc.heap.size v5 (b.live.map (·.1))
 k6 : SlR eK wc wc.heap.size v6 b.pins
 below : Below w.heap.size w wc
 size : w.heap.size + 1 ≤ wc.heap.size
 glt : g + 3 < w.heap.size

def ak1 : K32 := ⟨(z32, 1), bg⟩
def ak2 : K32 := ⟨(z32, 2), bg⟩
theorem hs0 {k s : Int} {a b : Int} {ks : List KeyD} : Hs ⟨k, s, z32, a, z32, b, ks⟩ := ⟨bg, bg⟩
theorem qmw (k : Int) (w : World) : (Instr.build 38 #[(0, .int .i64 k)]).run Tryz.prog w = .ok (rv ⟨k, 0, z32, 0, z32, 0, []⟩ (.slice none 0 0)) w := by
 unfold Instr.build
 simp only [Sem.run_bind, gn, Result.andThen_ok, bb, run_underlying dr, qcj, mw]
 rfl
theorem qpq (k : Int) (x : K32) (w : World) : (Instr.build 38 #[(0, .int .i64 k), (2, kv x)]).run Tryz.prog w = .ok (rv ⟨k, 0, x.1.1, x.1.2, z32, 0, []⟩ (.slice none 0 0)) w := by
 unfold Instr.build
 simp only [Sem.run_bind, gn, Result.andThen_ok, bb, run_underlying dr, qcj, mw]
 have h0 := lh (place := yn) (i := 0) (off := 0) (v := .int .i64 k) (vs := [.int .i64 k]) (rest := [(2, kv x)]) (cs := ag 0 0 z32 0 z32 0 (.slice none 0 0)) (cs' := [.int .i64 k, .int .i64 0] ++ (af z32 0 ++ (af z32 0 ++ [.slice none 0 0]))) rfl rfl (by show 1 ≤ (ag 0 0 z32 0 z32 0 (.slice none 0 0)).length; decide) rfl
 have h1 := lh (place := yn) (i := 2) (off := 2) (v := kv x) (vs := encK x) (rest := []) (cs := [.int .i64 k, .int .i64 0] ++ (af z32 0 ++ (af z32 0 ++ [.slice none 0 0]))) (cs' := [.int .i64 k, .int .i64 0] ++ (encK x ++ (af z32 0 ++ [.slice none 0 0]))) rfl (by rw [bi]; rfl) (by rw [bi]; simp [ae, bg]) (by rw [bi]; rfl)
 rw [h1] at h0
 rw [h0]
 rfl
structure AwM (w wc : World) (g : Nat) (b : bj) : Prop where
 book : eh wc g b
 k1 : wc.heap[w.heap.size]? = some (.cells (encK ak1).toArray 34 (0, 0))
 k2 : wc.heap[w.heap.size + 1]? = some (.cells (encK ak2).toArray 34 (0, 0))
 below : Below w.heap.size w wc
 gle : w.heap.size + 2 ≤ g

def qu (b : bj) (k : K32) : Bool := (nq b k).isSome
def px (b : bj) (k : K32) : Bool := decide (k ∈ b.pins)
def two (x y : Bool) : List Value := [.bool x, .bool y]
noncomputable def twoD : TypeDesc := .array 2 4
theorem two_u : Tryz.prog.underlying 99 = some twoD := by kernel_rfl
theorem two_sz (x y : Bool) : (Tryz.prog.info? 99).map (·.size) = some (two x y).length := by show _ = some 2; kernel_rfl
theorem zero_two (w : World) : (zeroValue 99).run Tryz.prog w = .ok (.agg (two false false).toArray) w := by kernel_rfl
theorem qul (x y : Bool) (w : World) : (Instr.build 99 #[(0, .bool x), (1, .bool y)]).run Tryz.prog w = .ok (.agg (two x y).toArray) w := by
 cases x <;> cases y <;> kernel_rfl
theorem two_one (x y : Bool) : ∀ u ∈ two x y, u.oneCell' = true := by
 intro u hu
 simp only [two, List.mem_cons, List.not_mem_nil, or_false] at hu
 rcases hu with rfl | rfl <;> rfl
def qnj (b : bj) (k : K32) (w : World) (e : Ending) (w' : World) : Prop := e = .returned (.agg (two (qu b k) (px b k)).toArray) ∧ Below w.heap.size w w'
theorem qeg (g : Nat) (b : bj) (k : K32) (w : World) (h : eh w g b) (hg : Good b) : Calls Tryz.prog 49 #[bptr g, kv k] w (qnj b k w) := by
 have H := Lh h
 have HG := Lh hg
 clear h hg
 obtain ⟨z, hz⟩ : ∃ z, z = w.heap.size := ⟨_, rfl⟩
 unfold qnj
 rw [← hz]
 have HZ := Lh hz
 clear hz
 go_enter Tryz.func49, Tryz.ntmps49
 go_wp2_with (refine ai (some 3) rfl ?_)
 refine Stop.go (bn rfl 34 rfl rfl (vs := encK k) rfl ?_)
 have hb1 : Below w.heap.size w (w.alloc (.cells (encK k).toArray 34)) := (br _ _).alloc (nr _) _
 have hg1 := hzn w (.cells (encK k).toArray 34)
 have hs1 := sz_ w (.cells (encK k).toArray 34)
 rw [← HZ.o] at hg1 hs1 hb1 ⊢
 generalize w.alloc (.cells (encK k).toArray 34) = w1 at *
 refine av rfl 99 rfl zero_two (vs := two false false) rfl ?_
 have hb2 : Below w1.heap.size w1 (w1.alloc (.cells (two false false).toArray 99)) := (br _ _).alloc (nr _) _
 have hg2 := hzn w1 (.cells (two false false).toArray 99)
 have hs2 := sz_ w1 (.cells (two false false).toArray 99)
 rw [hs1] at hg2 hs2 hb2 ⊢
 generalize w1.alloc (.cells (two false false).toArray 99) = w2 at *
 have HK2 := Lh ((hb2.block z (by omega)).trans hg1)
 have HT2 := Lh hg2
 have HB2 := Lh (hb1.trans (hb2.mono (by omega)))
 have HS2 := Lh (show w2.heap.size = z + 2 from hs2)
 have HA2 := Lh (H.o.below HB2.o (by rw [HZ.o]; exact H.o.lt))
 clear hb1 hg1 hs1 hb2 hg2 hs2
 generalize ha : Act.put _ _ _ = z9; simp [Act.put] at ha; subst ha
 go_wp2_with (refine ai (some 9) rfl ?_)
 refine Stop.go (aa rfl 34 rfl rfl ba.ut rfl (cs := encK k) (al _ _ k.2) (aq (vs := encK k) HK2.o) ?_)
 generalize ha : Act.put _ _ _ = z9; simp [Act.put] at ha; subst ha
 go_wp2_with fail
 refine (qrn g b k w2 HA2.o HG.o).mono ?_
 rintro e w3 ⟨rfl, hb3⟩
 have HK3 := Lh ((hb3.block z (by rw [HS2.o]; omega)).trans HK2.o)
 have HT3 := Lh ((hb3.block (z + 1) (by rw [HS2.o]; omega)).trans HT2.o)
 have HB3 := Lh (HB2.o.trans (hb3.mono (by rw [HS2.o]; omega)))
 have HA3 := Lh (HA2.o.below hb3 HA2.o.lt)
 have HS3 := Lh (show z + 2 ≤ w3.heap.size by have := hb3.size; have := HS2.o; omega)
 obtain ⟨mk, hmk⟩ : ∃ mk : K32, mk = (nq b k).getD zk32 := ⟨_, rfl⟩
 rw [← hmk]
 clear hmk hb3
 obtain ⟨lv, hlv⟩ : ∃ lv, lv = qu b k := ⟨_, rfl⟩
 rw [show (nq b k).isSome = lv from hlv.symm]
 have HLV := Lh hlv
 clear hlv
 go_wp2_with (refine ai (some 5) rfl ?_)
 refine Stop.go (av rfl 36 rfl ip (vs := af z32 0) rfl ?_)
 refine ac rfl 36 rfl rfl rfl (ch (vs := encK mk) (g := w3.heap.size) rfl rfl (dj _ _ mk.2) (by rw [List.size_toArray, bi, ae]; rfl) (bc _ _)) ?_
 have hb4 : Below w3.heap.size w3 (w3.alloc (.cells (encK mk).toArray 36)) := (br _ _).alloc (nr _) _
 generalize w3.alloc (.cells (encK mk).toArray 36) = w4 at *
 have HK4 := Lh ((hb4.block z (by have := HS3.o; omega)).trans HK3.o)
 have HT4 := Lh ((hb4.block (z + 1) (by have := HS3.o; omega)).trans HT3.o)
 have HB4 := Lh (HB3.o.trans (hb4.mono (by have := HS3.o; omega)))
 have HA4 := Lh (HA3.o.below hb4 HA3.o.lt)
 have HS4 := Lh (show z + 2 ≤ w4.heap.size by have := hb4.size; have := HS3.o; omega)
 clear hb4
 generalize ha : Act.put _ _ _ = z9; simp [Act.put] at ha; subst ha
 go_wp2_with (refine ai (some 15) rfl ?_)
 refine Stop.go (aa rfl 34 rfl rfl ba.ut rfl (cs := encK k) (al _ _ k.2) (aq (vs := encK k) HK4.o) ?_)
 generalize ha : Act.put _ _ _ = z9; simp [Act.put] at ha; subst ha
 go_wp2_with fail
 refine (qoi g b k w4 HA4.o HG.o).mono ?_
 rintro e w5 ⟨rfl, hb5⟩
 have HT5 := Lh ((hb5.block (z + 1) (by have := HS4.o; omega)).trans HT4.o)
 have HB5 := Lh (HB4.o.trans (hb5.mono (by have := HS4.o; omega)))
 clear hb5
 obtain ⟨pn, hpn⟩ : ∃ pn, pn = px b k := ⟨_, rfl⟩
 rw [show decide (k ∈ b.pins) = pn from hpn.symm]
 have HPN := Lh hpn
 clear hpn
 go_wp2_with (refine ai (some 17) rfl ?_)
 refine Stop.go (bl rfl 99 rfl (vs := #[(0, .bool lv), (1, .bool pn)]) rfl (qul lv pn _) ?_)
 refine ac rfl 99 rfl rfl rfl (jt (vs := two lv pn) rfl (two_sz lv pn) HT5.o (by show 0 + 2 ≤ 2; omega) (two_one lv pn)) ?_
 rw [show (List.take 0 (two false false).toArray.toList ++ two lv pn ++ List.drop (0 + (two lv pn).length) (two false false).toArray.toList).toArray = (two lv pn).toArray from rfl]
 have hg6 := setRow_heap w5 (z + 1) _ (two lv pn).toArray _ _ HT5.o
 have hb6 := below_setRow HB5.o (show z ≤ z + 1 by omega) (two lv pn).toArray
 generalize ha : Act.put _ _ _ = z9; simp [Act.put] at ha; subst ha
 go_wp2_with fail
 exact bodyPost_ret (v := .agg (two lv pn).toArray) (results_cell_row rfl _ _ (z + 1) _ (two lv pn).toArray _ _ rfl hg6 two_u rfl (by kernel_rfl)) rfl ⟨by rw [HLV.o, HPN.o], hb6⟩
end Go.Proofs.YtplbcbamnjnhlaaGreatDoor
namespace Go.Proofs.YtplbcbamnjnhlaaGreatDoor
open Go Go.RowKit
variable {P : Program} {ops : Array Oper} {K : Act → World → Prop} {S : World → Prop} {us : List Nat} {listed : Array Bool} {fuel : Nat} {a : Act} {w : World}
end Go.Proofs.YtplbcbamnjnhlaaGreatDoor
