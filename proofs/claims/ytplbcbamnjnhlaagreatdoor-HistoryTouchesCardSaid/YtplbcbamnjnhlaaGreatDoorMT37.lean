/- Texts of this proof joined: Touch2, RefSame, Hist7, Touch3, Touch4. -/
import Derived.Test.YtplbcbamnjnhlaaGreatDoorMT00
import Derived.Test.YtplbcbamnjnhlaaGreatDoorMT36
import Derived.Test.YtplbcbamnjnhlaaGreatDoorMT11
import Derived.Test.YtplbcbamnjnhlaaGreatDoorMT34
import Derived.Test.YtplbcbamnjnhlaaGreatDoorMT35
set_option maxRecDepth 100000
set_option maxHeartbeats 40000000
namespace Go.Proofs.YtplbcbamnjnhlaaGreatDoor
open Go.RowKit

def stLv (x : K32) (rs : List RecD) (m : Nat) : Bool := qu (bkAt az rs (ni m (nEv az rs))) x
def stPn (x : K32) (rs : List RecD) (m : Nat) : Bool := px (bkAt az rs (ni m (nEv az rs))) x
def stEq (x : K32) (rs : List RecD) (j : Nat) : Bool := (stLv x rs j == stLv x rs (j + 1)) && (stPn x rs j == stPn x rs (j + 1))
structure pj (qn q2 q3 B : Nat) (l : List UInt8) (A : Option Addr) (c : Nat) (x : K32) (j : Nat) (w : World) : Prop where
 num : w.heap[qn]? = some (.cells #[.int .i64 j] 3 (0, 0))
 byt : w.heap[q2]? = some (.cells #[.slice A l.length c] 44 (0, 0))
 key : w.heap[q3]? = some (.cells (encK x).toArray 34 (0, 0))
 rd : Rd w B A (ak l)
 le : B ≤ qn ∧ q2 < qn ∧ q3 < qn ∧ B ≤ w.heap.size
theorem pj.below {qn q2 q3 B : Nat} {l : List UInt8} {A : Option Addr} {c : Nat} {x : K32} {j : Nat} {w w' : World} (h : pj qn q2 q3 B l A c x j w) (hb : Below w.heap.size w w') : pj qn q2 q3 B l A c x j w' :=
 ⟨(hb.block _ (gl h.num)).trans h.num, (hb.block _ (gl h.byt)).trans h.byt, (hb.block _ (gl h.key)).trans h.key, h.rd.below (hb.mono h.le.2.2.2), h.le.1, h.le.2.1, h.le.2.2.1, Nat.le_trans h.le.2.2.2 hb.size⟩
theorem pj.step {qn q2 q3 B : Nat} {l : List UInt8} {A : Option Addr} {c : Nat} {x : K32} {j : Nat} {w : World} (h : pj qn q2 q3 B l A c x j w) : pj qn q2 q3 B l A c x (j + 1) (w.setCell ⟨qn, 0, none⟩ (.int .i64 ((j + 1 : Nat) : Int))) :=
 have hb : Below qn w (w.setCell ⟨qn, 0, none⟩ (.int .i64 ((j + 1 : Nat) : Int))) := (br _ _).setCell (p := ⟨qn, 0, none⟩) (nr qn) _
 ⟨one_setCell h.num, (hb.block _ h.le.2.1).trans h.byt, (hb.block _ h.le.2.2.1).trans h.key, h.rd.below (hb.mono h.le.1), h.le.1, h.le.2.1, h.le.2.2.1, Nat.le_trans h.le.2.2.2 hb.size⟩
def qrw (qn q2 q3 B : Nat) (l : List UInt8) (A : Option Addr) (c : Nat) (x : K32) (j : Nat) (w : World) (e : Ending) (w' : World) : Prop :=
 ∃ rs n0, jq l rs n0 ∧ e = .returned (.bool (stEq x rs j)) ∧ pj qn q2 q3 B l A c x (j + 1) w' ∧ w.grownBy w' (some qn)
theorem qsi (qn q2 q3 B : Nat) (l : List UInt8) (A : Option Addr) (c : Nat) (x : K32) (j : Nat) (vs : List Value) (w : World) (h : pj qn q2 q3 B l A c x j w) (hl : l.length ≤ 1000000000) (hc : l.length ≤ c) (hj : j ≤ 1000000000) :
  Calls Tryz.prog 48 #[.agg vs.toArray, .pointer (some ⟨qn, 0, none⟩), .pointer (some ⟨q2, 0, none⟩), .pointer (some ⟨q3, 0, none⟩)] w (qrw qn q2 q3 B l A c x j w) := by
 have H := Lh h
 clear h
 go_enter Tryz.func48, Tryz.ntmps48
 go_wp2_with (refine ai (some 4) rfl ?_)
 refine Stop.go (bn rfl 60 rfl rfl (vs := vs) rfl ?_)
 have HB1 := Lh ((br _ _).alloc (nr _) (.cells vs.toArray 60) : Below w.heap.size w _)
 have HK1 := Lh (H.o.below HB1.o)
 generalize w.alloc (.cells vs.toArray 60) = w1 at *
 generalize ha : Act.put _ _ _ = z9; simp [Act.put] at ha; subst ha
 have cn := cell_of_one HK1.o.num
 have fn := free_of_one HK1.o.num
 go_wp2_with fail
 clear cn fn
 rw [show ((j : Int) + 1) = ((j + 1 : Nat) : Int) by omega]
 have HK2 := Lh HK1.o.step
 have HG2 := Lh (show w.grownBy (w1.setCell ⟨qn, 0, none⟩ (.int .i64 ((j + 1 : Nat) : Int))) (some qn) from
  ⟨HB1.o.os, HB1.o.tape, HB1.o.output, by simpa [World.setCell] using HB1.o.size, fun k hk hn => (Below.heap_setCell _ _ _ _ (fun e => hn (by rw [e]))).trans (HB1.o.block k hk)⟩)
 clear HB1 HK1
 generalize w1.setCell ⟨qn, 0, none⟩ (.int .i64 ((j + 1 : Nat) : Int)) = w2 at *
 refine qc (fun w' => Below w2.drew.heap.size w2.drew w') [12] 13 (by kernel_rfl) rfl ?_
 have HK3 := Lh (HK2.o.below (br _ _).drew)
 have HG3 := Lh (show w.grownBy w2.drew (some qn) from ⟨HG2.o.os, HG2.o.tape, HG2.o.output, HG2.o.size, HG2.o.block⟩)
 clear HK2 HG2
 generalize w2.drew = w3 at *
 have HL1 := Lh (gl HK3.o.num)
 have HL2 := Lh (gl HK3.o.byt)
 have HL3 := Lh (gl HK3.o.key)
 refine wq3 (i := 0) (v := .slice A l.length c) rfl (by kernel_rfl) rfl (fun wq hbq => du rfl rfl (jo Tryz.underlying44 ((hbq.cell (p := ⟨q2, 0, none⟩) HL2.o).trans (cell_of_one HK3.o.byt)))) (br _ _) ?_
 generalize ha : Act.put _ _ _ = z9; simp [Act.put] at ha; subst ha
 refine wq3 (i := 1) (v := .int .i64 ((j + 1 : Nat) : Int)) rfl (by kernel_rfl) rfl (fun wq hbq => du rfl rfl (iz (k := .i64) (by kernel_rfl) ((hbq.cell (p := ⟨qn, 0, none⟩) HL1.o).trans (cell_of_one HK3.o.num)))) (br _ _) ?_
 generalize ha : Act.put _ _ _ = z9; simp [Act.put] at ha; subst ha
 refine wq1 (i := 2) (v := .int .i64 j) rfl (by kernel_rfl) rfl (fun wq => by go_simp; first | (rw [show ((j + 1 : Nat) : Int) - 1 = (j : Int) by omega]; exact zq hj) | exact zq hj) (br _ _) ?_
 generalize ha : Act.put _ _ _ = z9; simp [Act.put] at ha; subst ha
 refine wq3 (i := 4) (v := kv x) rfl (by kernel_rfl) rfl (fun wq hbq => du rfl rfl (fw ba.ut rfl (al _ _ x.2) (fun j u hu => (hbq.cell (p := ⟨q3, 0 + j, none⟩) HL3.o).trans (aq (vs := encK x) HK3.o.key j u hu)))) (br _ _) ?_
 generalize ha : Act.put _ _ _ = z9; simp [Act.put] at ha; subst ha
 refine wq3 (i := 6) (v := .slice A l.length c) rfl (by kernel_rfl) rfl (fun wq hbq => du rfl rfl (jo Tryz.underlying44 ((hbq.cell (p := ⟨q2, 0, none⟩) HL2.o).trans (cell_of_one HK3.o.byt)))) (br _ _) ?_
 generalize ha : Act.put _ _ _ = z9; simp [Act.put] at ha; subst ha
 refine wq3 (i := 7) (v := .int .i64 ((j + 1 : Nat) : Int)) rfl (by kernel_rfl) rfl (fun wq hbq => du rfl rfl (iz (k := .i64) (by kernel_rfl) ((hbq.cell (p := ⟨qn, 0, none⟩) HL1.o).trans (cell_of_one HK3.o.num)))) (br _ _) ?_
 generalize ha : Act.put _ _ _ = z9; simp [Act.put] at ha; subst ha
 refine wq3 (i := 9) (v := kv x) rfl (by kernel_rfl) rfl (fun wq hbq => du rfl rfl (fw ba.ut rfl (al _ _ x.2) (fun j u hu => (hbq.cell (p := ⟨q3, 0 + j, none⟩) HL3.o).trans (aq (vs := encK x) HK3.o.key j u hu)))) (br _ _) ?_
 generalize ha : Act.put _ _ _ = z9; simp [Act.put] at ha; subst ha
 refine ea (i := 3) (by kernel_rfl) rfl (fun Q' hQ' => ?_)
 go_wp2_with fail
 refine (qkq l A c B (j : Int) w3 HK3.o.rd HK3.o.le.2.2.2 (by omega) hc (by omega) (by omega)).mono ?_
 rintro e w4 ⟨rs, n0, g1, hat, rfl, hbk, _, hb4⟩
 have HAT := Lh hat
 have HHR := Lh (show ∀ r ∈ rs, Hs r from fun r hr => (hat.good r hr).2.1)
 have HB4 := Lh hb4
 have HA4 := Lh (show eh w4 g1 (bkAt az rs (ni j (nEv az rs))) from hbk)
 clear hat hbk hb4
 go_wp2_with fail
 refine ⟨okU HB4.o, ?_⟩
 refine ea (i := 5) (by kernel_rfl) rfl (fun Q' hQ' => ?_)
 go_wp2_with fail
 refine (qeg g1 (bkAt az rs (ni j (nEv az rs))) x w4 HA4.o (tq HHR.o _ (by unfold ni; omega))).mono ?_
 rintro e w5 ⟨rfl, hb5⟩
 have HB5 := Lh (HB4.o.trans (hb5.mono HB4.o.size))
 clear hb5 HA4
 obtain ⟨a1, ha1⟩ : ∃ a1, a1 = stLv x rs j := ⟨_, rfl⟩
 obtain ⟨b1, hb1⟩ : ∃ b1, b1 = stPn x rs j := ⟨_, rfl⟩
 rw [show qu (bkAt az rs (ni j (nEv az rs))) x = a1 from ha1.symm, show px (bkAt az rs (ni j (nEv az rs))) x = b1 from hb1.symm]
 have HV1 := Lh (And.intro ha1 hb1)
 clear ha1 hb1
 go_wp2_with fail
 refine ⟨okU HB5.o, ?_⟩
 refine ea (i := 8) (by kernel_rfl) rfl (fun Q' hQ' => ?_)
 go_wp2_with fail
 refine (qkq l A c B ((j + 1 : Nat) : Int) w5 (HK3.o.rd.below (HB5.o.mono HK3.o.le.2.2.2)) (Nat.le_trans HK3.o.le.2.2.2 HB5.o.size) (by omega) hc (by omega) (by omega)).mono ?_
 rintro e w6 ⟨rs2, n2, g2, hat2, rfl, hbk2, _, hb6⟩
 obtain ⟨e2, _⟩ := qay hat2 HAT.o
 subst e2
 have HB6 := Lh (HB5.o.trans (hb6.mono HB5.o.size))
 have HA6 := Lh (show eh w6 g2 (bkAt az rs2 (ni ((j + 1 : Nat) : Int) (nEv az rs2))) from hbk2)
 clear hat2 hbk2 hb6
 go_wp2_with fail
 refine ⟨okU HB6.o, ?_⟩
 refine ea (i := 10) (by kernel_rfl) rfl (fun Q' hQ' => ?_)
 go_wp2_with fail
 refine (qeg g2 (bkAt az rs2 (ni ((j + 1 : Nat) : Int) (nEv az rs2))) x w6 HA6.o (tq HHR.o _ (by unfold ni; omega))).mono ?_
 rintro e w7 ⟨rfl, hb7⟩
 have HB7 := Lh (HB6.o.trans (hb7.mono HB6.o.size))
 clear hb7 HA6
 obtain ⟨a2, ha2⟩ : ∃ a2, a2 = stLv x rs2 (j + 1) := ⟨_, rfl⟩
 obtain ⟨b2, hb2⟩ : ∃ b2, b2 = stPn x rs2 (j + 1) := ⟨_, rfl⟩
 rw [show qu (bkAt az rs2 (ni ((j + 1 : Nat) : Int) (nEv az rs2))) x = a2 from ha2.symm, show px (bkAt az rs2 (ni ((j + 1 : Nat) : Int) (nEv az rs2))) x = b2 from hb2.symm]
 have HV2 := Lh (And.intro ha2 hb2)
 clear ha2 hb2
 go_wp2_with fail
 refine ⟨okU HB7.o, ?_⟩
 refine wq1 (i := 11) (v := .bool ((a1 == a2) && (b1 == b2))) rfl (by kernel_rfl) rfl (fun wq => by cases a1 <;> cases b1 <;> cases a2 <;> cases b2 <;> kernel_rfl) HB7.o ?_
 generalize ha : Act.put _ _ _ = z9; simp [Act.put] at ha; subst ha
 refine ea (i := 12) (by kernel_rfl) rfl (fun Q' hQ' => ?_)
 go_wp2_with fail
 refine ⟨iy (by kernel_rfl), ?_⟩
 refine rn (by kernel_rfl) ?_ _
 have HP := Lh (show qrw qn q2 q3 B l A c x j w (.returned (.bool ((a1 == a2) && (b1 == b2)))) w7 from
  ⟨rs2, n0, HAT.o, by rw [HV1.o.1, HV1.o.2, HV2.o.1, HV2.o.2]; rfl, HK3.o.below HB7.o, ⟨HB7.o.os.trans HG3.o.os, HB7.o.tape.trans HG3.o.tape, HB7.o.output.trans HG3.o.output, Nat.le_trans HG3.o.size HB7.o.size, fun k hk hn => (HB7.o.block k (Nat.lt_of_lt_of_le hk HG3.o.size)).trans (HG3.o.block k hk hn)⟩⟩)
 go_wp2_with fail
 go_ret
 exact HP.o

theorem qnz (a b : RecD) (A1 A2 : Option Addr) (n1 c1 n2 c2 B1 B2 : Nat) (w : World) (ha : Hs a) (hb : Hs b) (h1 : SlR eKey w B1 (.slice A1 n1 c1) a.keys) (h2 : SlR eKey w B2 (.slice A2 n2 c2) b.keys) (hB1 : B1 ≤ w.heap.size) (hB2 : B2 ≤ w.heap.size) :
  Calls Tryz.prog 45 #[rv a (.slice A1 n1 c1), rv b (.slice A2 n2 c2)] w fun e w' => e = .returned (.bool (gq a b)) ∧ Below w.heap.size w w' := by
 obtain ⟨a0, a1, a2, a3, a4, a5, a6⟩ := a
 obtain ⟨b0, b1, b2, b3, b4, b5, b6⟩ := b
 obtain ⟨ha1, ha2⟩ := ha
 obtain ⟨hb1, hb2⟩ := hb
 simp only at ha1 ha2 hb1 hb2 h1 h2
 have hbw : Below w.heap.size w ((w.alloc (.cells (ag a0 a1 a2 a3 a4 a5 (.slice A1 n1 c1)).toArray 42)).alloc (.cells (ag b0 b1 b2 b3 b4 b5 (.slice A2 n2 c2)).toArray 42)) :=
  ((br _ _).alloc (nr _) _).alloc (Nat.le_of_lt (by show _ < (Array.push _ _).size; rw [Array.size_push]; exact Nat.lt_succ_self _)) _
 have hr1 : cu ((w.alloc (.cells (ag a0 a1 a2 a3 a4 a5 (.slice A1 n1 c1)).toArray 42)).alloc (.cells (ag b0 b1 b2 b3 b4 b5 (.slice A2 n2 c2)).toArray 42)) w.heap.size 42 a0 a1 a2 a3 a4 a5 (.slice A1 n1 c1) :=
  (cu.new w ha1 ha2).later ((br _ _).alloc (nr _) _)
 have hr2 := cu.new (t := 42) (kind := b0) (seq := b1) (kk := b3) (ms := b5) (v := .slice A2 n2 c2) (w.alloc (.cells (ag a0 a1 a2 a3 a4 a5 (.slice A1 n1 c1)).toArray 42)) hb1 hb2
 have hn1 := h1.n_eq
 have hn2 := h2.n_eq
 have hc1 := h1.n_le
 have hc2 := h2.n_le
 have H1 := Lh (h1.fut hbw hB1 (nr B1))
 have H2 := Lh (h2.fut hbw hB2 (nr B2))
 have HBW := Lh hbw
 have N1 := Lh hn1
 have N2 := Lh hn2
 clear h1 h2 hbw hn1 hn2
 go_enter Tryz.func45, Tryz.ntmps45
 go_wp2_with (refine ai (some 2) rfl ?_)
 refine Stop.go (bn rfl _ rfl rfl rfl (bn rfl _ rfl rfl rfl ?_))
 rw [show (w.alloc (.cells (ag a0 a1 a2 a3 a4 a5 (.slice A1 n1 c1)).toArray 42)).heap.size = w.heap.size + 1 from Array.size_push _] at hr2 ⊢
 generalize (w.alloc (.cells (ag a0 a1 a2 a3 a4 a5 (.slice A1 n1 c1)).toArray 42)).alloc (.cells (ag b0 b1 b2 b3 b4 b5 (.slice A2 n2 c2)).toArray 42) = w1 at *
 have c2' := hr1.keys_
 have d2 := hr2.keys_
 have HR1 := Lh hr1
 have HR2 := Lh hr2
 clear hr1 hr2
 by_cases hl : n1 = n2
 ·subst hl
  go_wp2_with fail
  go_loopw [5] (fun v5 wr => ∃ i : Nat, i ≤ n1 ∧ v5 = .int .i64 i ∧ Hid (a6.take i = b6.take i ∧ ∀ p : Addr, wr.cell? p = w1.cell? p) ∧ Hid (Below w.heap.size w wr) ∧ Hid (Below w1.heap.size w1 wr)) (fun v5 _ => n1 - (intOf v5).toNat)
  case atStart => exact ⟨0, by omega, rfl, ⟨by simp, fun _ => rfl⟩, HBW, Lh (br _ _)⟩
  case round =>
   obtain ⟨i, hi, rfl, HR, HB, HB1⟩ := hrel
   obtain ⟨hpre, hcell⟩ := HR.o
   have c3 := (hcell _).trans c2'
   have d3 := (hcell _).trans d2
   have HC := Lh hcell
   have HP := Lh hpre
   clear hpre hcell HR
   by_cases hlt : i < n1
   ·have hlt1 : i < a6.length := by have := N1.o; omega
    have hlt2 : i < b6.length := by have := N2.o; omega
    obtain ⟨p1, o1, rfl, _, _, l1, e1⟩ := mn H1.o hlt1
    obtain ⟨p2, o2, rfl, _, _, l2, e2⟩ := mn H2.o hlt2
    have E1 := Lh e1
    have E2 := Lh e2
    clear e1 e2
    go_wp2_with fail
    refine Text.wp_text [10] (by kernel_rfl) (by kernel_rfl) (fun Q' hQ' => ?_)
    refine ar 4 _ _ _ (fun Q' hQ' => ?_)
    simp only [T1, T0]
    go_wp2_with fail
    try simp only [dr1, dr0]
    refine Stop.go (aa rfl 34 rfl rfl ba.ut rfl (al _ _ l1) (fun j u hu => (HC.o _).trans (E1.o j u hu)) ?_)
    refine ar 4 _ _ _ (fun Q' hQ' => ?_)
    simp only [T1, T0]
    go_wp2_with fail
    try simp only [dr1, dr0]
    refine Stop.go (aa rfl 34 rfl rfl ba.ut rfl (al _ _ l2) (fun j u hu => (HC.o _).trans (E2.o j u hu)) ?_)
    refine ei rfl .neq 34 rfl rfl rfl (ez ba.gd ..) (js ba l1 l2) ?_
    by_cases he : a6[i] = b6[i]
    ·rw [show (!(decide (a6[i].1 = b6[i].1) && decide (a6[i].2 = b6[i].2))) = false by rw [he]; simp]
     refine hQ' _ _ ⟨by rfl, ?_⟩
     go_wp2_with fail
     have HP2 := Lh (And.intro (zu HP.o hlt1 hlt2 he) (fun p => HC.o p : ∀ p : Addr, wr.drew.cell? p = w1.cell? p))
     refine ⟨⟨i + 1, by omega, by simp, HP2, Lh HB.o.drew, Lh HB1.o.drew⟩, ?_⟩
     simp [intOf]; omega
    ·rw [show (!(decide (a6[i].1 = b6[i].1) && decide (a6[i].2 = b6[i].2))) = true by
      have : ¬ (a6[i].1 = b6[i].1 ∧ a6[i].2 = b6[i].2) := fun h => he (Prod.ext h.1 h.2)
      by_cases h1 : a6[i].1 = b6[i].1 <;> simp_all]
     refine hQ' _ _ ⟨by rfl, ?_⟩
     have HF := Lh (show gq ⟨a0, a1, a2, a3, a4, a5, a6⟩ ⟨b0, b1, b2, b3, b4, b5, b6⟩ = false by
      unfold gq
      simp only
      rw [decide_eq_false (show ¬ a6 = b6 from fun h => he (by subst h; rfl)), Bool.and_false])
     go_wp2_with fail
     go_ret
     exact ⟨rt1 (bu HF.o.symm), HB.o.drew⟩
   ·obtain rfl : i = n1 := by omega
    have hkeq : a6 = b6 := by have := HP.o; rwa [List.take_of_length_le (by have := N1.o; omega), List.take_of_length_le (by have := N2.o; omega)] at this
    have R1 := Lh (HR1.o.later HB1.o)
    have R2 := Lh (HR2.o.later HB1.o)
    have c0 := R1.o.kind_
    have c1' := R1.o.seq_
    have c5' := R1.o.size_
    have d0 := R2.o.kind_
    have d1 := R2.o.seq_
    have d5 := R2.o.size_
    clear hi
    by_cases e0 : a0 = b0
    ·by_cases e1 : a1 = b1
     ·subst e0 e1
      go_wp2_with (refine ai (some 31) rfl ?_)
      refine Stop.go (ar 14 _ _ _ (fun Q' hQ' => ?_))
      simp only [T1, T0]
      go_wp2_with fail
      try simp only [dr1, dr0]
      refine Stop.go (aw (by rfl) 34 rfl rfl ba.ut rfl (al _ _ ha1) R1.o.key_ ?_)
      refine ar 1 _ _ _ (fun Q' hQ' => ?_)
      simp only [T1, T0]
      go_wp2_with fail
      try simp only [dr1, dr0]
      refine Stop.go (aw (by rfl) 34 rfl rfl ba.ut rfl (al _ _ hb1) R2.o.key_ ?_)
      refine ln (by rfl) .eql 34 rfl rfl rfl (ez ba.gd ..) (qar ba ha1 hb1) ?_
      cases ek : (decide (a2 = b2) && decide (a3 = b3))
      ·have HF := Lh (show gq ⟨a0, a1, a2, a3, a4, a5, a6⟩ ⟨a0, a1, b2, b3, b4, b5, b6⟩ = false by unfold gq; simp only [ek]; simp)
       go_wp2_with fail
       go_ret
       exact ⟨rt1 (bu HF.o.symm), HB.o⟩
      ·refine ar 3 _ _ _ (fun Q' hQ' => ?_)
       simp only [T1, T0]
       go_wp2_with fail
       try simp only [dr1, dr0]
       refine Stop.go (aw (by rfl) 32 rfl rfl fz.ua rfl (gk _ ha2) R1.o.hash_ ?_)
       refine ar 1 _ _ _ (fun Q' hQ' => ?_)
       simp only [T1, T0]
       go_wp2_with fail
       try simp only [dr1, dr0]
       refine Stop.go (aw (by rfl) 32 rfl rfl fz.ua rfl (gk _ hb2) R2.o.hash_ ?_)
       refine ln (by rfl) .eql 32 rfl rfl rfl (nb fz.gd ..) (qua fz ha2 hb2) ?_
       cases em : decide (a4 = b4)
       ·have HF := Lh (show gq ⟨a0, a1, a2, a3, a4, a5, a6⟩ ⟨a0, a1, b2, b3, b4, b5, b6⟩ = false by unfold gq; simp only [ek, em]; simp)
        go_wp2_with fail
        go_ret
        exact ⟨rt1 (bu HF.o.symm), HB.o⟩
       ·have HF := Lh (show gq ⟨a0, a1, a2, a3, a4, a5, a6⟩ ⟨a0, a1, b2, b3, b4, b5, b6⟩ = decide (a5 = b5) by unfold gq; simp only [ek, em, hkeq]; simp)
        have hE : (a5 == b5) = decide (a5 = b5) := by by_cases h : a5 = b5 <;> simp [h]
        go_wp2_with fail
        go_ret
        exact ⟨rt1 (bu (hE.trans HF.o.symm)), HB.o⟩
     ·have HF := Lh (show gq ⟨a0, a1, a2, a3, a4, a5, a6⟩ ⟨b0, b1, b2, b3, b4, b5, b6⟩ = false by unfold gq; simp [e1])
      have e1' : (a1 == b1) = false := by rw [beq_eq_false_iff_ne]; exact e1
      subst e0
      clear e1
      go_wp2_with fail
      go_ret
      exact ⟨rt1 (bu HF.o.symm), HB.o⟩
    ·have HF := Lh (show gq ⟨a0, a1, a2, a3, a4, a5, a6⟩ ⟨b0, b1, b2, b3, b4, b5, b6⟩ = false by unfold gq; simp [e0])
     have e0' : (a0 == b0) = false := by rw [beq_eq_false_iff_ne]; exact e0
     clear e0
     go_wp2_with fail
     go_ret
     exact ⟨rt1 (bu HF.o.symm), HB.o⟩
 ·have HF := Lh (show gq ⟨a0, a1, a2, a3, a4, a5, a6⟩ ⟨b0, b1, b2, b3, b4, b5, b6⟩ = false by
   unfold gq
   simp only
   rw [decide_eq_false (show ¬ a6 = b6 from fun h => hl (by rw [N1.o, N2.o, h])), Bool.and_false])
  have hne : ((n1 : Int) != (n2 : Int)) = true := by simp; omega
  go_wp2_with fail
  go_ret
  exact ⟨rt1 (bu HF.o.symm), HBW.o⟩

theorem qrq {at_ : Nat} {r : RecD} {u : Value} {lv pn : Nat} : ∀ j x, (ag r.kind r.seq r.kh r.kk r.mh r.ms u)[j]? = some x → (evc at_ r u lv pn)[1 + j]? = some x := by
 intro j x hx
 have hj := (List.getElem?_eq_some_iff.1 hx).1
 unfold evc
 rw [List.getElem?_append_right (by simp), List.getElem?_append_left (by simp only [List.length_singleton]; omega)]
 simpa using hx
theorem zg {at_ : Nat} {r : RecD} {u : Value} {lv pn : Nat} (h : Hs r) : (evc at_ r u lv pn)[70]? = some (.int .i64 lv) ∧ (evc at_ r u lv pn)[71]? = some (.int .i64 pn) := by
 unfold evc
 constructor <;> (rw [List.getElem?_append_right (by simp), List.getElem?_append_right (by rw [ej h]; simp), ej h]; rfl)
theorem qny (at_ : Nat) (r : RecD) (A1 A2 AL AP : Option Addr) (c1 c2 cL cP lv pn B : Nat) (b : bj) (O : Value) (w : World) (hs : Hs r) (h1 : SlR eKey w B (.slice A1 r.keys.length c1) r.keys) (h2 : SlR eKey w B (.slice A2 r.keys.length c2) r.keys) (hB : B ≤ w.heap.size) :
  Calls Tryz.prog 21 #[.agg (evc at_ r (.slice A1 r.keys.length c1) lv pn).toArray, rv r (.slice A2 r.keys.length c2), .int .i64 at_, .agg (aj b (.slice AL lv cL) (.slice AP pn cP) O).toArray] w fun e w' => e = .returned (.bool true) ∧ Below w.heap.size w w' := by
 obtain ⟨z, hz⟩ : ∃ z, z = w.heap.size := ⟨_, rfl⟩
 rw [← hz] at hB ⊢
 have HZ := Lh hz
 have HS := Lh hs
 have H1 := Lh h1
 have H2 := Lh h2
 have HBZ := Lh hB
 clear hz hs h1 h2 hB
 obtain ⟨nk, hnk⟩ : ∃ nk, nk = r.keys.length := ⟨_, rfl⟩
 rw [← hnk] at H1 H2 ⊢
 clear hnk
 go_enter Tryz.func21, Tryz.ntmps21
 go_wp2_with (refine ai (some 4) rfl ?_)
 refine Stop.go (bn rfl _ rfl rfl (vs := evc at_ r (.slice A1 nk c1) lv pn) rfl ?_)
 have hx1 : Below w.heap.size w (w.alloc (.cells (evc at_ r (.slice A1 nk c1) lv pn).toArray 60)) := (br _ _).alloc (nr _) _
 have hg1 := hzn w (.cells (evc at_ r (.slice A1 nk c1) lv pn).toArray 60)
 have hs1 := sz_ w (.cells (evc at_ r (.slice A1 nk c1) lv pn).toArray 60)
 generalize w.alloc (.cells (evc at_ r (.slice A1 nk c1) lv pn).toArray 60) = w1 at *
 refine bn rfl _ rfl rfl (vs := ag r.kind r.seq r.kh r.kk r.mh r.ms (.slice A2 nk c2)) rfl ?_
 have hx2 : Below w1.heap.size w1 (w1.alloc (.cells (ag r.kind r.seq r.kh r.kk r.mh r.ms (.slice A2 nk c2)).toArray 42)) := (br _ _).alloc (nr _) _
 have hg2 := hzn w1 (.cells (ag r.kind r.seq r.kh r.kk r.mh r.ms (.slice A2 nk c2)).toArray 42)
 have hs2 := sz_ w1 (.cells (ag r.kind r.seq r.kh r.kk r.mh r.ms (.slice A2 nk c2)).toArray 42)
 generalize w1.alloc (.cells (ag r.kind r.seq r.kh r.kk r.mh r.ms (.slice A2 nk c2)).toArray 42) = w2 at *
 refine bn rfl _ rfl rfl (vs := aj b (.slice AL lv cL) (.slice AP pn cP) O) rfl ?_
 have hx3 : Below w2.heap.size w2 (w2.alloc (.cells (aj b (.slice AL lv cL) (.slice AP pn cP) O).toArray 30)) := (br _ _).alloc (nr _) _
 have hg3 := hzn w2 (.cells (aj b (.slice AL lv cL) (.slice AP pn cP) O).toArray 30)
 have hs3 := sz_ w2 (.cells (aj b (.slice AL lv cL) (.slice AP pn cP) O).toArray 30)
 generalize w2.alloc (.cells (aj b (.slice AL lv cL) (.slice AP pn cP) O).toArray 30) = w3 at *
 rw [hs1] at hs2 hg2 ⊢
 rw [hs2] at hs3 hg3 ⊢
 rw [← HZ.o] at *
 have HE := Lh ((hx3.block z (by omega)).trans ((hx2.block z (by omega)).trans hg1))
 have HR := Lh ((hx3.block (z + 1) (by omega)).trans hg2)
 have HK := Lh hg3
 have HX := Lh (show Below z w w3 from (hx1.trans (hx2.mono (by omega))).trans (hx3.mono (by omega)))
 have HSZ := Lh (show w3.heap.size = z + 3 from hs3)
 clear hx1 hx2 hx3 hg1 hg2 hg3 hs1 hs2 hs3
 generalize ha : Act.put _ _ _ = z9; simp [Act.put] at ha; subst ha
 go_wp2_with fail
 refine qj [7, 9] [1, 6, 8, 13, 15, 21, 23] [] (by kernel_rfl) (by kernel_rfl) ?_
 have HE3 := Lh (show w3.drew.heap[z]? = some (.cells (evc at_ r (.slice A1 nk c1) lv pn).toArray 60 (0, 0)) from HE.o)
 have HR3 := Lh (show w3.drew.heap[z + 1]? = some (.cells (ag r.kind r.seq r.kh r.kk r.mh r.ms (.slice A2 nk c2)).toArray 42 (0, 0)) from HR.o)
 have HK3 := Lh (show w3.drew.heap[z + 1 + 1]? = some (.cells (aj b (.slice AL lv cL) (.slice AP pn cP) O).toArray 30 (0, 0)) from HK.o)
 have HX3 := Lh (HX.o.drew)
 have HSZ3 := Lh (show w3.drew.heap.size = z + 3 from HSZ.o)
 clear HE HR HK HX HSZ
 generalize w3.drew = w4 at *
 have ce0 : w4.cell? ⟨z, 0, none⟩ = some (.int .i64 at_) := by rw [cell_of_row _ _ _ _ _ _ HE3.o]; rfl
 refine bh 7 (by decide) (fun Q1 hQ1 => ?_)
 simp only [T1, T0]
 go_wp2_with (refine ai (some 15) rfl ?_)
 refine Stop.go (aw (by kernel_rfl) 38 rfl rfl dr rfl (bk _ _ _ _ _ _ (.slice A1 nk c1) HS.o.1 HS.o.2) (fun j u hu => aq (vs := evc at_ r (.slice A1 nk c1) lv pn) HE3.o (1 + j) u (qrq j u hu) |> fun h => by rwa [Nat.zero_add] at h) ?_)
 refine hQ1 _ _ ?_
 simp only [dr1, dr0]
 generalize ha : Act.put _ _ _ = z9; simp [Act.put] at ha; subst ha
 refine ie (fun Q1 hQ1 => ?_)
 go_wp2_with fail
 refine (qtd r.kind r.seq r.kh r.kk r.mh r.ms A1 nk c1 w4 HS.o.1 HS.o.2).mono ?_
 rintro e w5 ⟨rfl, hb5⟩
 have HB5 := Lh hb5
 clear hb5
 go_wp2_with fail
 refine ⟨HB5.o, ?_⟩
 refine bh 1 (by decide) (fun Q1 hQ1 => ?_)
 simp only [T1, T0]
 go_wp2_with (refine ai (some 17) rfl ?_)
 refine Stop.go (aw (by kernel_rfl) 42 rfl rfl fc rfl (cw _ _ _ _ _ _ (.slice A2 nk c2) HS.o.1 HS.o.2) (aq ((HB5.o.block (z + 1) (by rw [HSZ3.o]; omega)).trans HR3.o)) ?_)
 refine hQ1 _ _ ?_
 simp only [dr1, dr0]
 generalize ha : Act.put _ _ _ = z9; simp [Act.put] at ha; subst ha
 refine ie (fun Q1 hQ1 => ?_)
 go_wp2_with fail
 have hbb := HX3.o.trans (HB5.o.mono (by rw [HSZ3.o]; omega))
 have hz5 : z ≤ w5.heap.size := by have := HB5.o.size; have := HSZ3.o; omega
 refine (qnz r r A1 A2 nk c1 nk c2 B B w5 HS.o HS.o (H1.o.below (hbb.mono HBZ.o)) (H2.o.below (hbb.mono HBZ.o)) (Nat.le_trans HBZ.o hz5) (Nat.le_trans HBZ.o hz5)).mono ?_
 rintro e w6 ⟨rfl, hb6⟩
 rw [qnx]
 have HB6 := Lh (HB5.o.trans (hb6.mono HB5.o.size))
 clear hb6 hbb hz5 ce0
 go_wp2_with fail
 refine ⟨HB6.o, ?_⟩
 have hk6 := (HB6.o.block (z + 1 + 1) (by rw [HSZ3.o]; omega)).trans HK3.o
 have he6 := (HB6.o.block z (by rw [HSZ3.o]; omega)).trans HE3.o
 have ck1 := (gt hk6).2.1
 have ck2 := (gt hk6).2.2.1
 have ce1 : w6.cell? ⟨z, 70, none⟩ = some (.int .i64 lv) := by rw [cell_of_row _ _ _ _ _ _ he6, ← Array.getElem?_toList]; exact (zg HS.o).1
 have ce2 : w6.cell? ⟨z, 71, none⟩ = some (.int .i64 pn) := by rw [cell_of_row _ _ _ _ _ _ he6, ← Array.getElem?_toList]; exact (zg HS.o).2
 have HP := Lh (show Below z w w6 from HX3.o.trans (HB6.o.mono (by rw [HSZ3.o]; omega)))
 have HC8 := Lh (show w4.cell? ⟨z + 1, 0, none⟩ = some (.int .i64 r.kind) ∧ w4.cell? ⟨z, 0, none⟩ = some (.int .i64 at_) ∧ w4.cell? ⟨z, 1, none⟩ = some (.int .i64 r.kind) ∧ w4.cell? ⟨z, 70, none⟩ = some (.int .i64 lv) ∧ w4.cell? ⟨z, 71, none⟩ = some (.int .i64 pn) from
  ⟨by rw [cell_of_row _ _ _ _ _ _ HR3.o]; rfl, by rw [cell_of_row _ _ _ _ _ _ HE3.o]; rfl, by rw [cell_of_row _ _ _ _ _ _ HE3.o]; rfl, by rw [cell_of_row _ _ _ _ _ _ HE3.o, ← Array.getElem?_toList]; exact (zg HS.o).1, by rw [cell_of_row _ _ _ _ _ _ HE3.o, ← Array.getElem?_toList]; exact (zg HS.o).2⟩)
 have HC9 := Lh (gt HK3.o)
 clear hk6 he6 HB6 HB5 HE3 HK3 HR3 HX3
 refine bh 18 (by decide) (fun Q1 hQ1 => ?_)
 simp only [T1, T0]
 go_wp2_with fail
 try simp only [dr1, dr0]
 refine jr ⟨by kernel_rfl, ⟨fun _ => ⟨_, _, rfl, HC8.o.2.1⟩, fun _ => ⟨_, _, rfl, HC8.o.2.2.1⟩, fun _ => ⟨_, _, rfl, HC8.o.1⟩, fun _ => ⟨_, _, rfl, HC8.o.2.2.2.1⟩, fun _ => ⟨_, _, rfl, HC9.o.2.1⟩, fun _ => ⟨_, _, rfl, HC8.o.2.2.2.2⟩, fun _ => ⟨_, _, rfl, HC9.o.2.2.1⟩, trivial⟩, ?_⟩
 go_wp2_with fail
 go_ret
 exact ⟨rfl, HP.o⟩

theorem gb_refl (w : World) (r : Option Nat) : w.grownBy w r := ⟨rfl, rfl, rfl, nr _, fun _ _ _ => rfl⟩
theorem gb_trans {a b c : World} {r : Option Nat} (h : a.grownBy b r) (k : b.grownBy c r) : a.grownBy c r :=
 ⟨k.os.trans h.os, k.tape.trans h.tape, k.output.trans h.output, Nat.le_trans h.size k.size, fun i hi hn => (k.block i (Nat.lt_of_lt_of_le hi h.size) hn).trans (h.block i hi hn)⟩
theorem yv {w : World} {base : Nat} {e : TypeId} {s n c p : Nat} {xs : List Value} (h : w.ownsRow base e s (.slice (some ⟨p, 0, none⟩) n c) n xs) {i : Nat} (hi : i < n) {vs : List Value} (hv : (xs.drop (i * s)).take s = vs) :
  ∀ j u, vs[j]? = some u → w.cell? ⟨p, i * s + j, none⟩ = some u := fun j u hu => by
 have hl := h.1
 have hj : j < s := by
  have := (List.getElem?_eq_some_iff.1 hu).1
  rw [← hv, List.length_take] at this
  omega
 have hm : i * s + j < n * s := by
  have h2 := Nat.mul_le_mul_right s (show i + 1 ≤ n from hi)
  rw [Nat.succ_mul] at h2
  omega
 rw [h.cellAt _ hm]
 rw [← hv, List.getElem?_take_of_lt hj, List.getElem?_drop] at hu
 exact hu
def pc (xs : List Value) (i : Nat) : List Value := (xs.drop (i * 72)).take 72
def DelOk (F : Nat) (caps : List Value) (qn n : Nat) (f : Nat → List Value) (d : Nat → Bool) (K : Nat → World → Prop) : Prop :=
 ∀ (j : Nat) (w1 : World), j < n → K j w1 → Calls Tryz.prog F (.agg (f j).toArray :: caps).toArray w1 fun e w2 => e = .returned (.bool (d j)) ∧ K (j + 1) w2 ∧ w1.grownBy w2 (some qn)
def IndexTo9 (n qn : Nat) (d : Nat → Bool) (K : Nat → World → Prop) (w : World) (e : Ending) (w' : World) : Prop :=
 w.grownBy w' (some qn) ∧ ((∃ i, i < n ∧ d i = true ∧ (∀ j, j < i → d j = false) ∧ e = .returned (.int .i64 i) ∧ K (i + 1) w') ∨ ((∀ j, j < n → d j = false) ∧ e = .returned (.int .i64 (-1)) ∧ K n w'))
theorem xv {vs : List Value} (h : vs.length = 72) : (Tryz.prog.info? 60).map (·.size) = some vs.length := by rw [h]; kernel_rfl
theorem qml (F : Nat) (caps : List Value) (qn n M p c : Nat) (f : Nat → List Value) (xs : List Value) (d : Nat → Bool) (K : Nat → World → Prop) (w : World) (hF : ∀ (args : Array Value) (w' : World), (callFunc F args).run Tryz.prog w' = .ok (.enter F args) w')
  (hrow : w.ownsRow M 60 72 (.slice (some ⟨p, 0, none⟩) n c) n xs) (hf : ∀ j, j < n → pc xs j = f j ∧ (f j).length = 72) (hpq : p ≠ qn) (hK : K 0 w) (hd : DelOk F caps qn n f d K) :
  Calls Tryz.prog 70 #[.slice (some ⟨p, 0, none⟩) n c, .func (.func F) #[] caps.toArray] w (IndexTo9 n qn d K w) := by
 have HF := Lh hF
 have HR := Lh hrow
 have HX := Lh hf
 have HPQ := Lh hpq
 have HK := Lh hK
 have HD := Lh hd
 have hcm : n ≤ 9223372036854775807 := by
  obtain ⟨_, _, e, h1, h2⟩ := ap hrow
  simp only [maxLen] at h2
  omega
 clear hF hrow hf hpq hK hd
 go_enter Tryz.func70, Tryz.ntmps70
 go_wp2_with fail
 go_loopw [8] (fun v8 wr => ∃ j : Nat, j ≤ n ∧ v8 = .int .i64 j ∧ Hid (∀ m, m < j → d m = false) ∧ Hid (K j wr) ∧ Hid (w.grownBy wr (some qn))) (fun v8 _ => n - (intOf v8).toNat)
 case atStart => exact ⟨0, Nat.zero_le _, rfl, fun m hm => (by omega : False).elim, HK.o, gb_refl _ _⟩
 case round =>
  clear HK
  obtain ⟨j, hj, rfl, HN, HK, HG⟩ := hrel
  by_cases hlt : j < n
  ·have HRr := Lh (HR.o.kept HG.o (.inr (by simp only [Value.ownBlock]; intro e; injection e with e; exact HPQ.o e)))
   have HC := Lh (yv HRr.o hlt (HX.o j hlt).1)
   go_wp2_with (refine ai (some 15) rfl ?_)
   refine Stop.go (aa rfl 60 rfl rfl ev_u rfl (cs := f j) (xv (HX.o j hlt).2) HC.o ?_)
   generalize ha : Act.put _ _ _ = z9; simp [Act.put] at ha; subst ha
   go_wp2_with fail
   rw [HF.o]
   refine (HD.o j wr hlt HK.o).mono ?_
   rintro e w5 ⟨rfl, hk5, hg5⟩
   have HK5 := Lh hk5
   have HG5 := Lh (gb_trans HG.o hg5)
   clear hk5 hg5 HK HG HC HRr
   cases hdj : d j
   ·have HDJ := Lh hdj
    clear hdj
    go_wp2_with fail
    go_roundw
    case rel => exact ⟨j + 1, by omega, by go_num, Lh (fun m hm => by
     by_cases e : m = j
     ·rw [e]; exact HDJ.o
     ·exact HN.o m (by omega)), HK5, HG5⟩
    case measure => simp [intOf]; omega
   ·have HDJ := Lh hdj
    clear hdj
    go_wp2_with fail
    go_ret
    exact ⟨HG5.o, .inl ⟨j, hlt, HDJ.o, HN.o, rfl, HK5.o⟩⟩
  ·have hjn : j = n := by omega
   have HE := Lh hjn
   clear hjn
   go_wp2_with fail
   go_ret
   exact ⟨HG.o, .inr ⟨fun m hm => HN.o m (by have := HE.o; omega), rfl, by rw [← HE.o]; exact HK.o⟩⟩

def pl (xs vs : List Value) (a : Nat) : List Value := xs.take a ++ vs ++ xs.drop (a + vs.length)
theorem xo {xs vs : List Value} {a : Nat} (h : a + vs.length ≤ xs.length) : (pl xs vs a).length = xs.length := by
 unfold pl
 simp only [List.length_append, List.length_take, List.length_drop]
 omega
theorem qew {xs vs : List Value} {a N : Nat} (h : a + vs.length ≤ N) (hN : N ≤ xs.length) : (pl xs vs a).take N = pl (xs.take N) vs a := by
 unfold pl
 rw [List.take_append, List.take_append, List.take_of_length_le (i := N) (by rw [List.length_take]; omega), List.take_of_length_le (l := vs) (by rw [List.length_take]; omega), List.take_take, Nat.min_eq_left (show a ≤ N by omega), List.drop_take]
 congr 2
 simp only [List.length_append, List.length_take]
 omega
theorem qbl {xs vs : List Value} {a i : Nat} (h : a + vs.length ≤ xs.length) : (pl xs vs a)[i]? = if i < a then xs[i]? else if i < a + vs.length then vs[i - a]? else xs[i]? := by
 unfold pl
 by_cases h1 : i < a
 ·rw [if_pos h1, List.append_assoc, List.getElem?_append_left (by rw [List.length_take]; omega), List.getElem?_take_of_lt h1]
 rw [if_neg h1]
 by_cases h2 : i < a + vs.length
 ·rw [if_pos h2, List.append_assoc, List.getElem?_append_right (by rw [List.length_take]; omega), List.length_take, Nat.min_eq_left (by omega), List.getElem?_append_left (by omega)]
 ·rw [if_neg h2, List.getElem?_append_right (by rw [List.length_append, List.length_take]; omega), List.length_append, List.length_take, Nat.min_eq_left (by omega), List.getElem?_drop]
  congr 1
  omega
theorem qoj {xs : List Value} {t j : Nat} (hj : j < 72) : (pc xs t)[j]? = xs[t * 72 + j]? := by
 unfold pc
 rw [List.getElem?_take_of_lt hj, List.getElem?_drop]
theorem pc_ext {xs ys : List Value} {t u : Nat} (h : ∀ j, j < 72 → xs[t * 72 + j]? = ys[u * 72 + j]?) : pc xs t = pc ys u := by
 apply List.ext_getElem?
 intro j
 by_cases hj : j < 72
 ·rw [qoj hj, qoj hj]; exact h j hj
 ·rw [List.getElem?_eq_none (by unfold pc; rw [List.length_take]; omega), List.getElem?_eq_none (by unfold pc; rw [List.length_take]; omega)]
theorem qll {xs vs : List Value} {m : Nat} (hv : vs.length = 72) (h : m * 72 + 72 ≤ xs.length) : pc (pl xs vs (m * 72)) m = vs := by
 apply List.ext_getElem?
 intro j
 by_cases hj : j < 72
 ·rw [qoj hj, qbl (by omega), if_neg (by omega), if_pos (by omega)]
  congr 1
  omega
 ·rw [List.getElem?_eq_none (by unfold pc; rw [List.length_take]; omega), List.getElem?_eq_none (by omega)]
theorem qac {xs vs : List Value} {m t : Nat} (hv : vs.length = 72) (h : m * 72 + 72 ≤ xs.length) (ht : t ≠ m) : pc (pl xs vs (m * 72)) t = pc xs t :=
 pc_ext fun j hj => by
  rw [qbl (by omega)]
  by_cases h1 : t < m
  ·rw [if_pos (by omega)]
  ·rw [if_neg (by omega), if_neg (by omega)]
theorem qtf {w : World} {M n c p m : Nat} {xs vs : List Value} (h : w.ownsRow M 60 72 (.slice (some ⟨p, 0, none⟩) n c) n xs) (hv : vs.length = 72) (h1 : ∀ u ∈ vs, u.oneCell' = true) (hm : m < n) :
  ∃ cs, (Instr.storeAt 60 (.pointer (some ⟨p, m * 72, none⟩)) (.agg vs.toArray)).run Tryz.prog w = .ok () (w.setRow p cs) ∧ (w.setRow p cs).ownsRow M 60 72 (.slice (some ⟨p, 0, none⟩) n c) n (pl xs vs (m * 72)) := by
 have hl := h.1
 rcases h.2 with ⟨h0, _⟩ | ⟨p', cap, cur, hp, h2, h3, h4, h5, h6, h7⟩
 ·cases h0
 injection hp with e1 _ e3
 injection e1 with e1
 injection e1 with e1
 subst e1 e3
 have hb : m * 72 + 72 ≤ n * 72 := by omega
 have hc : n * 72 ≤ cur.size := by rw [h6]; exact Nat.mul_le_mul_right _ h4
 refine ⟨_, jt (vs := vs) rfl (xv hv) h3 (by rw [hv]; omega) h1, by rw [xo (by rw [hv, hl]; omega)]; exact hl, .inr ⟨p, c, _, rfl, h2, setRow_heap _ _ _ _ _ _ h3, h4, h5, ?_, ?_⟩⟩
 ·have := xo (xs := cur.toList) (vs := vs) (a := m * 72) (by rw [hv]; simp; omega)
  unfold pl at this
  simp only [List.size_toArray]
  rw [this, ← h6]
  simp
 ·have := qew (xs := cur.toList) (vs := vs) (a := m * 72) (N := n * 72) (by rw [hv]; omega) (by simpa using hc)
  unfold pl at this ⊢
  rw [h7] at this
  exact this
def zev : List Value := evc 0 dq (.slice none 0 0) 0 0
def zevs (k : Nat) : List Value := (Builtin.zeroCells zev.toArray k).toList
theorem qde : zev.length = 72 := km (by exact ⟨rfl, rfl⟩)
theorem qkk (k : Nat) : (zevs k).length = k * 72 := by
 unfold zevs Builtin.zeroCells
 simp [qde]
theorem zevs_one (k : Nat) : ∀ u ∈ zevs k, u.oneCell' = true := by
 intro u hu
 unfold zevs Builtin.zeroCells at hu
 simp only [Array.toList_map, List.mem_map] at hu
 obtain ⟨i, _, rfl⟩ := hu
 have hz : zev.toArray.size = 72 := qde
 rw [hz]
 have hi : i % 72 < zev.toArray.size := by rw [hz]; omega
 rw [getElem!_pos zev.toArray (i % 72) hi]
 exact qdp (at_ := 0) (r := dq) (A2 := none) (n := 0) (c := 0) (lv := 0) (pn := 0) _ (List.getElem_mem (l := zev) (n := i % 72) (by rw [qde]; omega))
theorem clear_ev {w : World} {M n c p m : Nat} {xs : List Value} (h : w.ownsRow M 60 72 (.slice (some ⟨p, 0, none⟩) n c) n xs) (hm : m < n) :
  ∃ cs, (∀ (ty : TypeId) (c9 : Nat), (Builtin.clear_ #[55] ty #[.slice (some ⟨p, m * 72, none⟩) (n - m) c9]).run Tryz.prog w = .ok (.tuple #[]) (w.setRow p cs)) ∧ (w.setRow p cs).ownsRow M 60 72 (.slice (some ⟨p, 0, none⟩) n c) n (pl xs (zevs (n - m)) (m * 72)) := by
 have hl := h.1
 rcases h.2 with ⟨h0, _⟩ | ⟨p', cap, cur, hp, h2, h3, h4, h5, h6, h7⟩
 ·cases h0
 injection hp with e1 _ e3
 injection e1 with e1
 injection e1 with e1
 subst e1 e3
 have hc : n * 72 ≤ cur.size := by rw [h6]; exact Nat.mul_le_mul_right _ h4
 have hb : m * 72 + (zevs (n - m)).length = n * 72 := by rw [qkk]; omega
 have hst := run_storeCells_at Tryz.prog p (m * 72) 60 (zevs (n - m)) 0 cur w h3 (by omega) (zevs_one _)
 rw [Nat.add_zero] at hst
 refine ⟨_, fun ty c9 => ?_, by rw [xo (by omega)]; exact hl, .inr ⟨p, c, _, rfl, h2, setRow_heap _ _ _ (pl cur.toList (zevs (n - m)) (m * 72)).toArray _ _ h3, h4, h5, ?_, ?_⟩⟩
 ·obtain ⟨k, hk⟩ : ∃ k, n - m = k + 1 := ⟨n - m - 1, by omega⟩
  unfold zevs at hst
  rw [hk] at hst ⊢
  simp only [Builtin.clear_, List.getElem?_toArray, List.getElem?_cons_zero, Sem.run_bind, run_underlying qrp, Result.andThen_ok, qdf]
  show ((storeCells ⟨p, m * 72, none⟩ (Builtin.zeroCells zev.toArray (k + 1)).toList).run Tryz.prog w).andThen _ = _
  rw [hst]
  rfl
 ·have := xo (xs := cur.toList) (vs := zevs (n - m)) (a := m * 72) (by simp only [Array.length_toList]; omega)
  rw [List.size_toArray, this, ← h6]
  simp
 ·have := qew (xs := cur.toList) (vs := zevs (n - m)) (a := m * 72) (N := n * 72) (by omega) (by simpa using hc)
  rw [h7] at this
  exact this
end Go.Proofs.YtplbcbamnjnhlaaGreatDoor
