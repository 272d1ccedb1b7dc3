/- Texts of this proof joined: RefApply, RefSame, Hist7, Hist4. -/
import Derived.Test.YtplbcbamnjnhlaaGreatDoorMG00
import Derived.Test.YtplbcbamnjnhlaaGreatDoorMG29
import Derived.Test.YtplbcbamnjnhlaaGreatDoorMG33
import Derived.Test.YtplbcbamnjnhlaaGreatDoorMG11
import Derived.Test.YtplbcbamnjnhlaaGreatDoorMG34
import Derived.Test.YtplbcbamnjnhlaaGreatDoorMG22
set_option maxRecDepth 100000
set_option maxHeartbeats 40000000
namespace Go.Proofs.YtplbcbamnjnhlaaGreatDoor
open Go.RowKit

theorem o8 {w : World} {q : Nat} {cs : Array Value} {t : TypeId} {b : bd} {L P O : Value} (h : w.heap[q]? = some (.cells cs t (0, 0))) (h5 : cs.size = 5) (h1 : ∀ u ∈ aj b L P O, u.oneCell' = true) :
  (Instr.storeAt 30 (.pointer (some ⟨q, 0, none⟩)) (.agg (aj b L P O).toArray)).run Tryz.prog w = .ok () (w.setRow q (aj b L P O).toArray) := by
 rw [k8 (vs := aj b L P O) rfl (eh b L P O) h (by rw [h5]; exact nr 5) h1]
 have hz : cs.toList.drop 5 = [] := by rw [List.drop_eq_nil_iff]; simp [h5]
 rw [show 0 + (aj b L P O).length = 5 from rfl, hz, List.take_zero, List.nil_append, List.append_nil]
theorem qgl (s : Int) (k m : K32) (w : World) : (Instr.build 79 #[(0, .int .i64 s), (1, kv k), (2, gu m.1.1), (3, .int .i64 m.1.2)]).run Tryz.prog w = .ok (xw (s, (k, m))) w := by
 unfold Instr.build
 simp only [Sem.run_bind, yb, Result.andThen_ok, run_underlying q9, zm]
 have l1 := bg k
 have l2 : (ak m.1.1).length = 32 := by rw [al, m.2]
 have h00 := ig (place := vn) (i := 0) (off := 0) (v := .int .i64 s) (vs := [.int .i64 s]) (rest := [(1, kv k), (2, gu m.1.1), (3, .int .i64 m.1.2)]) (cs := an (0, (zk32, zk32))) (cs' := an (s, (zk32, zk32))) rfl rfl (by rw [bq]; show 0 + 1 ≤ 67; omega) rfl
 have h0 := ig (place := vn) (i := 1) (off := 1) (v := kv k) (vs := encK k) (rest := [(2, gu m.1.1), (3, .int .i64 m.1.2)]) (cs := an (s, (zk32, zk32))) (cs' := [.int .i64 s] ++ (encK k ++ ae z32 0)) rfl (by rw [l1]; rfl) (by rw [l1, bq]; omega) (by rw [l1]; rfl)
 have h1 := ig (place := vn) (i := 2) (off := 34) (v := gu m.1.1) (vs := ak m.1.1) (rest := [(3, .int .i64 m.1.2)]) (cs := [.int .i64 s] ++ (encK k ++ ae z32 0)) (cs' := [.int .i64 s] ++ (encK k ++ (ak m.1.1 ++ [.int .i64 0]))) rfl (by rw [l2]; rfl) (by simp [l1, l2, af, bf]) (by
  rw [← List.append_assoc, List.take_append_of_le_length (by simp [l1]), List.take_of_length_le (by simp [l1]), l2, List.drop_append, List.drop_of_length_le (by simp [l1])]
  simp [l1]
  rfl)
 have h2 := ig (place := vn) (i := 3) (off := 66) (v := .int .i64 m.1.2) (vs := [.int .i64 m.1.2]) (rest := []) (cs := [.int .i64 s] ++ (encK k ++ (ak m.1.1 ++ [.int .i64 0]))) (cs' := [.int .i64 s] ++ (encK k ++ (ak m.1.1 ++ [.int .i64 m.1.2]))) rfl rfl (by simp [l1, l2]) (by
  rw [← List.append_assoc, ← List.append_assoc, List.take_append_of_le_length (by simp [l1, l2]), List.take_of_length_le (by simp [l1, l2]), List.drop_of_length_le (by simp [l1, l2])]
  simp)
 rw [h0, h1, h2] at h00
 rw [show (xw (0, (zk32, zk32))).cells = (an (0, (zk32, zk32))).toArray from rfl, h00]
 rfl
theorem qfl {w : World} {B n c : Nat} {A : Option Addr} {l : List cw} (h : SlR f7 w B (.slice A n c) l) : Rd w B A (dr l) := by
 obtain ⟨A', c', css, e, _, _, h3, h4, h5⟩ := h
 injection e with e1 e2 e3
 subst e1
 have : css = l.map an := List.ext_getElem? fun i => by
  rw [List.getElem?_map]
  cases hx : l[i]? with
  |none => rw [List.getElem?_eq_none (by rw [h3]; exact List.getElem?_eq_none_iff.1 hx)]; rfl
  |some x =>
   have hi : i < css.length := by rw [h3]; exact (List.getElem?_eq_some_iff.1 hx).1
   rw [List.getElem?_eq_getElem hi]
   exact congrArg some (h5 i _ x (List.getElem?_eq_getElem hi) hx)
 rw [this, ← List.flatMap_def] at h4
 exact h4
theorem pk {l : List cw} : ∀ u ∈ dr l, u.oneCell' = true := by
 intro u hu
 simp only [dr, List.mem_flatMap] at hu
 obtain ⟨a, _, hu⟩ := hu
 exact ey _ u hu
theorem own_lt5 {w : World} {base : Nat} {t : TypeId} {s q : Nat} (h : w.ownsRow base t s (.slice (some ⟨q, 0, none⟩) 0 0) 0 []) : q < w.heap.size := (h.lt q rfl).2
theorem qld {w : World} {B : Nat} {A : Option Addr} {n c : Nat} {ks : List KeyD} (h : SlR eKey w B (.slice A n c) ks) {i : Nat} (hi : i < ks.length) :
  ∃ q off, A = some ⟨q, off, none⟩ ∧ q < B ∧ (∀ j u, (encK (k32 ks[i]))[j]? = some u → w.cell? ⟨q, off + i * 33 + j, none⟩ = some u) ∧ ks[i].1.length = 32 := by
 obtain ⟨q, off, cs, rfl, _, hq, hrep, hc⟩ := h.get hi (by decide)
 obtain ⟨rfl, h32, _, _⟩ := tx hrep
 refine ⟨q, off, rfl, hq, fun j u hu => ?_, h32⟩
 rw [Nat.add_assoc]
 refine hc j u ?_
 unfold encK at hu
 rw [xv h32] at hu
 exact hu
section
variable {w wc : World} {b : bd} {L P O : Value} {kind seq : Int} {kx mx : K32} {v : Value} {keys : List KeyD}
theorem MidR.drew (h : MidR w wc b L P O kind seq kx mx v keys) : MidR w wc.drew b L P O kind seq kx mx v keys := h.later (br _ _).drew
theorem MidR.row_all (h : MidR w wc b L P O kind seq kx mx v keys) : ∀ j u, (aj b L P O)[j]? = some u → wc.cell? ⟨w.heap.size, 0 + j, none⟩ = some u := au (vs := aj b L P O) h.row
theorem MidR.ones (h : MidR w wc b L P O kind seq kx mx v keys) : ∀ u ∈ aj b L P O, u.oneCell' = true := j3 h.live h.pins h.ints
theorem MidR.end_ (h : MidR w wc b L P O kind seq kx mx v keys) : (Instr.storeAt 30 (.pointer (some ⟨w.heap.size + 2, 0, none⟩)) (.agg (aj b L P O).toArray)).run Tryz.prog wc = .ok () (wc.setRow (w.heap.size + 2) (aj b L P O).toArray) := o8 h.o rfl h.ones
theorem midR_new (w : World) {B : Nat} (hB : B ≤ w.heap.size) (hL : SlR f7 w B L (fh b.live)) (hP : SlR eK w B P b.pins) (hO : SlR f7 w B O b.ints) (hk : SlR eKey w B v keys) :
  MidR w (((w.alloc (.cells (aj b L P O).toArray 30)).alloc (.cells (ag kind seq kx.1.1 kx.1.2 mx.1.1 mx.1.2 v).toArray 42)).alloc (.cells (aj ay nilV nilV nilV).toArray 30)) b L P O kind seq kx mx v keys := by
 have hb1 : Below w.heap.size w (w.alloc (.cells (aj b L P O).toArray 30)) := (br _ _).alloc (nr _) _
 have hs1 : (w.alloc (.cells (aj b L P O).toArray 30)).heap.size = w.heap.size + 1 := sz_ _ _
 have hg1 := hzn w (.cells (aj b L P O).toArray 30)
 generalize w.alloc (.cells (aj b L P O).toArray 30) = w1 at *
 have hb2 : Below w1.heap.size w1 (w1.alloc (.cells (ag kind seq kx.1.1 kx.1.2 mx.1.1 mx.1.2 v).toArray 42)) := (br _ _).alloc (nr _) _
 have hs2 : (w1.alloc (.cells (ag kind seq kx.1.1 kx.1.2 mx.1.1 mx.1.2 v).toArray 42)).heap.size = w.heap.size + 2 := by rw [sz_, hs1]
 have hg2 : cu (w1.alloc (.cells (ag kind seq kx.1.1 kx.1.2 mx.1.1 mx.1.2 v).toArray 42)) w1.heap.size 42 kind seq kx.1.1 kx.1.2 mx.1.1 mx.1.2 v := cu.new w1 kx.2 mx.2
 rw [hs1] at hg2
 have hr1 := (hb2.block w.heap.size (by omega)).trans hg1
 generalize w1.alloc (.cells (ag kind seq kx.1.1 kx.1.2 mx.1.1 mx.1.2 v).toArray 42) = w2 at *
 have hb3 : Below w2.heap.size w2 (w2.alloc (.cells (aj ay nilV nilV nilV).toArray 30)) := (br _ _).alloc (nr _) _
 have hs3 : (w2.alloc (.cells (aj ay nilV nilV nilV).toArray 30)).heap.size = w.heap.size + 3 := by rw [sz_, hs2]
 have hg3 := hzn w2 (.cells (aj ay nilV nilV nilV).toArray 30)
 rw [hs2] at hg3
 have hr2 := (hb3.block w.heap.size (by omega)).trans hr1
 have hq2 := hg2.later hb3
 have hbb : Below w.heap.size w (w2.alloc (.cells (aj ay nilV nilV nilV).toArray 30)) := (hb1.trans (hb2.mono (by omega))).trans (hb3.mono (by omega))
 exact ⟨hr2, hq2, hg3, hL.fut hbb hB (by omega), hP.fut hbb hB (by omega), hO.fut hbb hB (by omega), hk.fut hbb hB hB, hbb⟩
end

theorem qhd (a b : RecD) (A1 A2 : Option Addr) (n1 c1 n2 c2 B1 B2 : Nat) (w : World) (ha : Hs a) (hb : Hs b) (h1 : SlR eKey w B1 (.slice A1 n1 c1) a.keys) (h2 : SlR eKey w B2 (.slice A2 n2 c2) b.keys) (hB1 : B1 ≤ w.heap.size) (hB2 : B2 ≤ w.heap.size) :
  Calls Tryz.prog 45 #[rv a (.slice A1 n1 c1), rv b (.slice A2 n2 c2)] w fun e w' => e = .returned (.bool (gn a b)) ∧ Below w.heap.size w w' := by
 obtain ⟨a0, a1, a2, a3, a4, a5, a6⟩ := a
 obtain ⟨b0, b1, b2, b3, b4, b5, b6⟩ := b
 obtain ⟨ha1, ha2⟩ := ha
 obtain ⟨hb1, hb2⟩ := hb
 simp only at ha1 ha2 hb1 hb2 h1 h2
 have hbw : Below w.heap.size w ((w.alloc (.cells (ag a0 a1 a2 a3 a4 a5 (.slice A1 n1 c1)).toArray 42)).alloc (.cells (ag b0 b1 b2 b3 b4 b5 (.slice A2 n2 c2)).toArray 42)) :=
  ((br _ _).alloc (nr _) _).alloc (Nat.le_of_lt (by show _ < (Array.push _ _).size; rw [Array.size_push]; exact Nat.lt_succ_self _)) _
 have hr1 : cu ((w.alloc (.cells (ag a0 a1 a2 a3 a4 a5 (.slice A1 n1 c1)).toArray 42)).alloc (.cells (ag b0 b1 b2 b3 b4 b5 (.slice A2 n2 c2)).toArray 42)) w.heap.size 42 a0 a1 a2 a3 a4 a5 (.slice A1 n1 c1) :=
  (cu.new w ha1 ha2).later ((br _ _).alloc (nr _) _)
 have hr2 := cu.new (t := 42) (kind := b0) (seq := b1) (kk := b3) (ms := b5) (v := .slice A2 n2 c2) (w.alloc (.cells (ag a0 a1 a2 a3 a4 a5 (.slice A1 n1 c1)).toArray 42)) hb1 hb2
 have hn1 := h1.n_eq
 have hn2 := h2.n_eq
 have hc1 := h1.n_le
 have hc2 := h2.n_le
 have H1 := Lh (h1.fut hbw hB1 (nr B1))
 have H2 := Lh (h2.fut hbw hB2 (nr B2))
 have HBW := Lh hbw
 have N1 := Lh hn1
 have N2 := Lh hn2
 clear h1 h2 hbw hn1 hn2
 go_enter Tryz.func45, Tryz.ntmps45
 go_wp2_with (refine ai (some 2) rfl ?_)
 refine Stop.go (bx rfl _ rfl rfl rfl (bx rfl _ rfl rfl rfl ?_))
 rw [show (w.alloc (.cells (ag a0 a1 a2 a3 a4 a5 (.slice A1 n1 c1)).toArray 42)).heap.size = w.heap.size + 1 from Array.size_push _] at hr2 ⊢
 generalize (w.alloc (.cells (ag a0 a1 a2 a3 a4 a5 (.slice A1 n1 c1)).toArray 42)).alloc (.cells (ag b0 b1 b2 b3 b4 b5 (.slice A2 n2 c2)).toArray 42) = w1 at *
 have c2' := hr1.keys_
 have d2 := hr2.keys_
 have HR1 := Lh hr1
 have HR2 := Lh hr2
 clear hr1 hr2
 by_cases hl : n1 = n2
 ·subst hl
  go_wp2_with fail
  go_loopw [5] (fun v5 wr => ∃ i : Nat, i ≤ n1 ∧ v5 = .int .i64 i ∧ Hid (a6.take i = b6.take i ∧ ∀ p : Addr, wr.cell? p = w1.cell? p) ∧ Hid (Below w.heap.size w wr) ∧ Hid (Below w1.heap.size w1 wr)) (fun v5 _ => n1 - (intOf v5).toNat)
  case atStart => exact ⟨0, by omega, rfl, ⟨by simp, fun _ => rfl⟩, HBW, Lh (br _ _)⟩
  case round =>
   obtain ⟨i, hi, rfl, HR, HB, HB1⟩ := hrel
   obtain ⟨hpre, hcell⟩ := HR.o
   have c3 := (hcell _).trans c2'
   have d3 := (hcell _).trans d2
   have HC := Lh hcell
   have HP := Lh hpre
   clear hpre hcell HR
   by_cases hlt : i < n1
   ·have hlt1 : i < a6.length := by have := N1.o; omega
    have hlt2 : i < b6.length := by have := N2.o; omega
    obtain ⟨p1, o1, rfl, _, _, l1, e1⟩ := ly H1.o hlt1
    obtain ⟨p2, o2, rfl, _, _, l2, e2⟩ := ly H2.o hlt2
    have E1 := Lh e1
    have E2 := Lh e2
    clear e1 e2
    go_wp2_with fail
    refine Text.wp_text [10] (by kernel_rfl) (by kernel_rfl) (fun Q' hQ' => ?_)
    refine aq 4 _ _ _ (fun Q' hQ' => ?_)
    simp only [T1, T0]
    go_wp2_with fail
    try simp only [dr1, dr0]
    refine Stop.go (aa rfl 34 rfl rfl a8.ut rfl (am _ _ l1) (fun j u hu => (HC.o _).trans (E1.o j u hu)) ?_)
    refine aq 4 _ _ _ (fun Q' hQ' => ?_)
    simp only [T1, T0]
    go_wp2_with fail
    try simp only [dr1, dr0]
    refine Stop.go (aa rfl 34 rfl rfl a8.ut rfl (am _ _ l2) (fun j u hu => (HC.o _).trans (E2.o j u hu)) ?_)
    refine fa rfl .neq 34 rfl rfl rfl (ez a8.gd ..) (i5 a8 l1 l2) ?_
    by_cases he : a6[i] = b6[i]
    ·rw [show (!(decide (a6[i].1 = b6[i].1) && decide (a6[i].2 = b6[i].2))) = false by rw [he]; simp]
     refine hQ' _ _ ⟨by rfl, ?_⟩
     go_wp2_with fail
     have HP2 := Lh (And.intro (wu HP.o hlt1 hlt2 he) (fun p => HC.o p : ∀ p : Addr, wr.drew.cell? p = w1.cell? p))
     refine ⟨⟨i + 1, by omega, by simp, HP2, Lh HB.o.drew, Lh HB1.o.drew⟩, ?_⟩
     simp [intOf]; omega
    ·rw [show (!(decide (a6[i].1 = b6[i].1) && decide (a6[i].2 = b6[i].2))) = true by
      have : ¬ (a6[i].1 = b6[i].1 ∧ a6[i].2 = b6[i].2) := fun h => he (Prod.ext h.1 h.2)
      by_cases h1 : a6[i].1 = b6[i].1 <;> simp_all]
     refine hQ' _ _ ⟨by rfl, ?_⟩
     have HF := Lh (show gn ⟨a0, a1, a2, a3, a4, a5, a6⟩ ⟨b0, b1, b2, b3, b4, b5, b6⟩ = false by
      unfold gn
      simp only
      rw [decide_eq_false (show ¬ a6 = b6 from fun h => he (by subst h; rfl)), Bool.and_false])
     go_wp2_with fail
     go_ret
     exact ⟨rt1 (bz HF.o.symm), HB.o.drew⟩
   ·obtain rfl : i = n1 := by omega
    have hkeq : a6 = b6 := by have := HP.o; rwa [List.take_of_length_le (by have := N1.o; omega), List.take_of_length_le (by have := N2.o; omega)] at this
    have R1 := Lh (HR1.o.later HB1.o)
    have R2 := Lh (HR2.o.later HB1.o)
    have c0 := R1.o.kind_
    have c1' := R1.o.seq_
    have c5' := R1.o.size_
    have d0 := R2.o.kind_
    have d1 := R2.o.seq_
    have d5 := R2.o.size_
    clear hi
    by_cases e0 : a0 = b0
    ·by_cases e1 : a1 = b1
     ·subst e0 e1
      go_wp2_with (refine ai (some 31) rfl ?_)
      refine Stop.go (aq 14 _ _ _ (fun Q' hQ' => ?_))
      simp only [T1, T0]
      go_wp2_with fail
      try simp only [dr1, dr0]
      refine Stop.go (ar (by rfl) 34 rfl rfl a8.ut rfl (am _ _ ha1) R1.o.key_ ?_)
      refine aq 1 _ _ _ (fun Q' hQ' => ?_)
      simp only [T1, T0]
      go_wp2_with fail
      try simp only [dr1, dr0]
      refine Stop.go (ar (by rfl) 34 rfl rfl a8.ut rfl (am _ _ hb1) R2.o.key_ ?_)
      refine il (by rfl) .eql 34 rfl rfl rfl (ez a8.gd ..) (qeh a8 ha1 hb1) ?_
      cases ek : (decide (a2 = b2) && decide (a3 = b3))
      ·have HF := Lh (show gn ⟨a0, a1, a2, a3, a4, a5, a6⟩ ⟨a0, a1, b2, b3, b4, b5, b6⟩ = false by unfold gn; simp only [ek]; simp)
       go_wp2_with fail
       go_ret
       exact ⟨rt1 (bz HF.o.symm), HB.o⟩
      ·refine aq 3 _ _ _ (fun Q' hQ' => ?_)
       simp only [T1, T0]
       go_wp2_with fail
       try simp only [dr1, dr0]
       refine Stop.go (ar (by rfl) 32 rfl rfl fj.ua rfl (fp _ ha2) R1.o.hash_ ?_)
       refine aq 1 _ _ _ (fun Q' hQ' => ?_)
       simp only [T1, T0]
       go_wp2_with fail
       try simp only [dr1, dr0]
       refine Stop.go (ar (by rfl) 32 rfl rfl fj.ua rfl (fp _ hb2) R2.o.hash_ ?_)
       refine il (by rfl) .eql 32 rfl rfl rfl (kp fj.gd ..) (qlk fj ha2 hb2) ?_
       cases em : decide (a4 = b4)
       ·have HF := Lh (show gn ⟨a0, a1, a2, a3, a4, a5, a6⟩ ⟨a0, a1, b2, b3, b4, b5, b6⟩ = false by unfold gn; simp only [ek, em]; simp)
        go_wp2_with fail
        go_ret
        exact ⟨rt1 (bz HF.o.symm), HB.o⟩
       ·have HF := Lh (show gn ⟨a0, a1, a2, a3, a4, a5, a6⟩ ⟨a0, a1, b2, b3, b4, b5, b6⟩ = decide (a5 = b5) by unfold gn; simp only [ek, em, hkeq]; simp)
        have hE : (a5 == b5) = decide (a5 = b5) := by by_cases h : a5 = b5 <;> simp [h]
        go_wp2_with fail
        go_ret
        exact ⟨rt1 (bz (hE.trans HF.o.symm)), HB.o⟩
     ·have HF := Lh (show gn ⟨a0, a1, a2, a3, a4, a5, a6⟩ ⟨b0, b1, b2, b3, b4, b5, b6⟩ = false by unfold gn; simp [e1])
      have e1' : (a1 == b1) = false := by rw [beq_eq_false_iff_ne]; exact e1
      subst e0
      clear e1
      go_wp2_with fail
      go_ret
      exact ⟨rt1 (bz HF.o.symm), HB.o⟩
    ·have HF := Lh (show gn ⟨a0, a1, a2, a3, a4, a5, a6⟩ ⟨b0, b1, b2, b3, b4, b5, b6⟩ = false by unfold gn; simp [e0])
     have e0' : (a0 == b0) = false := by rw [beq_eq_false_iff_ne]; exact e0
     clear e0
     go_wp2_with fail
     go_ret
     exact ⟨rt1 (bz HF.o.symm), HB.o⟩
 ·have HF := Lh (show gn ⟨a0, a1, a2, a3, a4, a5, a6⟩ ⟨b0, b1, b2, b3, b4, b5, b6⟩ = false by
   unfold gn
   simp only
   rw [decide_eq_false (show ¬ a6 = b6 from fun h => hl (by rw [N1.o, N2.o, h])), Bool.and_false])
  have hne : ((n1 : Int) != (n2 : Int)) = true := by simp; omega
  go_wp2_with fail
  go_ret
  exact ⟨rt1 (bz HF.o.symm), HBW.o⟩

theorem qjx {at_ : Nat} {r : RecD} {u : Value} {lv pn : Nat} : ∀ j x, (ag r.kind r.seq r.kh r.kk r.mh r.ms u)[j]? = some x → (evc at_ r u lv pn)[1 + j]? = some x := by
 intro j x hx
 have hj := (List.getElem?_eq_some_iff.1 hx).1
 unfold evc
 rw [List.getElem?_append_right (by simp), List.getElem?_append_left (by simp only [List.length_singleton]; omega)]
 simpa using hx
theorem vq {at_ : Nat} {r : RecD} {u : Value} {lv pn : Nat} (h : Hs r) : (evc at_ r u lv pn)[70]? = some (.int .i64 lv) ∧ (evc at_ r u lv pn)[71]? = some (.int .i64 pn) := by
 unfold evc
 constructor <;> (rw [List.getElem?_append_right (by simp), List.getElem?_append_right (by rw [ei h]; simp), ei h]; rfl)
theorem qhc (at_ : Nat) (r : RecD) (A1 A2 AL AP : Option Addr) (c1 c2 cL cP lv pn B : Nat) (b : bd) (O : Value) (w : World) (hs : Hs r) (h1 : SlR eKey w B (.slice A1 r.keys.length c1) r.keys) (h2 : SlR eKey w B (.slice A2 r.keys.length c2) r.keys) (hB : B ≤ w.heap.size) :
  Calls Tryz.prog 21 #[.agg (evc at_ r (.slice A1 r.keys.length c1) lv pn).toArray, rv r (.slice A2 r.keys.length c2), .int .i64 at_, .agg (aj b (.slice AL lv cL) (.slice AP pn cP) O).toArray] w fun e w' => e = .returned (.bool true) ∧ Below w.heap.size w w' := by
 obtain ⟨z, hz⟩ : ∃ z, z = w.heap.size := ⟨_, rfl⟩
 rw [← hz] at hB ⊢
 have HZ := Lh hz
 have HS := Lh hs
 have H1 := Lh h1
 have H2 := Lh h2
 have HBZ := Lh hB
 clear hz hs h1 h2 hB
 obtain ⟨nk, hnk⟩ : ∃ nk, nk = r.keys.length := ⟨_, rfl⟩
 rw [← hnk] at H1 H2 ⊢
 clear hnk
 go_enter Tryz.func21, Tryz.ntmps21
 go_wp2_with (refine ai (some 4) rfl ?_)
 refine Stop.go (bx rfl _ rfl rfl (vs := evc at_ r (.slice A1 nk c1) lv pn) rfl ?_)
 have hx1 : Below w.heap.size w (w.alloc (.cells (evc at_ r (.slice A1 nk c1) lv pn).toArray 60)) := (br _ _).alloc (nr _) _
 have hg1 := hzn w (.cells (evc at_ r (.slice A1 nk c1) lv pn).toArray 60)
 have hs1 := sz_ w (.cells (evc at_ r (.slice A1 nk c1) lv pn).toArray 60)
 generalize w.alloc (.cells (evc at_ r (.slice A1 nk c1) lv pn).toArray 60) = w1 at *
 refine bx rfl _ rfl rfl (vs := ag r.kind r.seq r.kh r.kk r.mh r.ms (.slice A2 nk c2)) rfl ?_
 have hx2 : Below w1.heap.size w1 (w1.alloc (.cells (ag r.kind r.seq r.kh r.kk r.mh r.ms (.slice A2 nk c2)).toArray 42)) := (br _ _).alloc (nr _) _
 have hg2 := hzn w1 (.cells (ag r.kind r.seq r.kh r.kk r.mh r.ms (.slice A2 nk c2)).toArray 42)
 have hs2 := sz_ w1 (.cells (ag r.kind r.seq r.kh r.kk r.mh r.ms (.slice A2 nk c2)).toArray 42)
 generalize w1.alloc (.cells (ag r.kind r.seq r.kh r.kk r.mh r.ms (.slice A2 nk c2)).toArray 42) = w2 at *
 refine bx rfl _ rfl rfl (vs := aj b (.slice AL lv cL) (.slice AP pn cP) O) rfl ?_
 have hx3 : Below w2.heap.size w2 (w2.alloc (.cells (aj b (.slice AL lv cL) (.slice AP pn cP) O).toArray 30)) := (br _ _).alloc (nr _) _
 have hg3 := hzn w2 (.cells (aj b (.slice AL lv cL) (.slice AP pn cP) O).toArray 30)
 have hs3 := sz_ w2 (.cells (aj b (.slice AL lv cL) (.slice AP pn cP) O).toArray 30)
 generalize w2.alloc (.cells (aj b (.slice AL lv cL) (.slice AP pn cP) O).toArray 30) = w3 at *
 rw [hs1] at hs2 hg2 ⊢
 rw [hs2] at hs3 hg3 ⊢
 rw [← HZ.o] at *
 have HE := Lh ((hx3.block z (by omega)).trans ((hx2.block z (by omega)).trans hg1))
 have HR := Lh ((hx3.block (z + 1) (by omega)).trans hg2)
 have HK := Lh hg3
 have HX := Lh (show Below z w w3 from (hx1.trans (hx2.mono (by omega))).trans (hx3.mono (by omega)))
 have HSZ := Lh (show w3.heap.size = z + 3 from hs3)
 clear hx1 hx2 hx3 hg1 hg2 hg3 hs1 hs2 hs3
 generalize ha : Act.put _ _ _ = z9; simp [Act.put] at ha; subst ha
 go_wp2_with fail
 refine mi [7, 9] [1, 6, 8, 13, 15, 21, 23] [] (by kernel_rfl) (by kernel_rfl) ?_
 have HE3 := Lh (show w3.drew.heap[z]? = some (.cells (evc at_ r (.slice A1 nk c1) lv pn).toArray 60 (0, 0)) from HE.o)
 have HR3 := Lh (show w3.drew.heap[z + 1]? = some (.cells (ag r.kind r.seq r.kh r.kk r.mh r.ms (.slice A2 nk c2)).toArray 42 (0, 0)) from HR.o)
 have HK3 := Lh (show w3.drew.heap[z + 1 + 1]? = some (.cells (aj b (.slice AL lv cL) (.slice AP pn cP) O).toArray 30 (0, 0)) from HK.o)
 have HX3 := Lh (HX.o.drew)
 have HSZ3 := Lh (show w3.drew.heap.size = z + 3 from HSZ.o)
 clear HE HR HK HX HSZ
 generalize w3.drew = w4 at *
 have ce0 : w4.cell? ⟨z, 0, none⟩ = some (.int .i64 at_) := by rw [cell_of_row _ _ _ _ _ _ HE3.o]; rfl
 refine bh 7 (by decide) (fun Q1 hQ1 => ?_)
 simp only [T1, T0]
 go_wp2_with (refine ai (some 15) rfl ?_)
 refine Stop.go (ar (by kernel_rfl) 38 rfl rfl dm rfl (bi _ _ _ _ _ _ (.slice A1 nk c1) HS.o.1 HS.o.2) (fun j u hu => au (vs := evc at_ r (.slice A1 nk c1) lv pn) HE3.o (1 + j) u (qjx j u hu) |> fun h => by rwa [Nat.zero_add] at h) ?_)
 refine hQ1 _ _ ?_
 simp only [dr1, dr0]
 generalize ha : Act.put _ _ _ = z9; simp [Act.put] at ha; subst ha
 refine fy (fun Q1 hQ1 => ?_)
 go_wp2_with fail
 refine (qk0 r.kind r.seq r.kh r.kk r.mh r.ms A1 nk c1 w4 HS.o.1 HS.o.2).mono ?_
 rintro e w5 ⟨rfl, hb5⟩
 have HB5 := Lh hb5
 clear hb5
 go_wp2_with fail
 refine ⟨HB5.o, ?_⟩
 refine bh 1 (by decide) (fun Q1 hQ1 => ?_)
 simp only [T1, T0]
 go_wp2_with (refine ai (some 17) rfl ?_)
 refine Stop.go (ar (by kernel_rfl) 42 rfl rfl ef rfl (dc _ _ _ _ _ _ (.slice A2 nk c2) HS.o.1 HS.o.2) (au ((HB5.o.block (z + 1) (by rw [HSZ3.o]; omega)).trans HR3.o)) ?_)
 refine hQ1 _ _ ?_
 simp only [dr1, dr0]
 generalize ha : Act.put _ _ _ = z9; simp [Act.put] at ha; subst ha
 refine fy (fun Q1 hQ1 => ?_)
 go_wp2_with fail
 have hbb := HX3.o.trans (HB5.o.mono (by rw [HSZ3.o]; omega))
 have hz5 : z ≤ w5.heap.size := by have := HB5.o.size; have := HSZ3.o; omega
 refine (qhd r r A1 A2 nk c1 nk c2 B B w5 HS.o HS.o (H1.o.below (hbb.mono HBZ.o)) (H2.o.below (hbb.mono HBZ.o)) (Nat.le_trans HBZ.o hz5) (Nat.le_trans HBZ.o hz5)).mono ?_
 rintro e w6 ⟨rfl, hb6⟩
 rw [qhb]
 have HB6 := Lh (HB5.o.trans (hb6.mono HB5.o.size))
 clear hb6 hbb hz5 ce0
 go_wp2_with fail
 refine ⟨HB6.o, ?_⟩
 have hk6 := (HB6.o.block (z + 1 + 1) (by rw [HSZ3.o]; omega)).trans HK3.o
 have he6 := (HB6.o.block z (by rw [HSZ3.o]; omega)).trans HE3.o
 have ck1 := (fl hk6).2.1
 have ck2 := (fl hk6).2.2.1
 have ce1 : w6.cell? ⟨z, 70, none⟩ = some (.int .i64 lv) := by rw [cell_of_row _ _ _ _ _ _ he6, ← Array.getElem?_toList]; exact (vq HS.o).1
 have ce2 : w6.cell? ⟨z, 71, none⟩ = some (.int .i64 pn) := by rw [cell_of_row _ _ _ _ _ _ he6, ← Array.getElem?_toList]; exact (vq HS.o).2
 have HP := Lh (show Below z w w6 from HX3.o.trans (HB6.o.mono (by rw [HSZ3.o]; omega)))
 have HC8 := Lh (show w4.cell? ⟨z + 1, 0, none⟩ = some (.int .i64 r.kind) ∧ w4.cell? ⟨z, 0, none⟩ = some (.int .i64 at_) ∧ w4.cell? ⟨z, 1, none⟩ = some (.int .i64 r.kind) ∧ w4.cell? ⟨z, 70, none⟩ = some (.int .i64 lv) ∧ w4.cell? ⟨z, 71, none⟩ = some (.int .i64 pn) from
  ⟨by rw [cell_of_row _ _ _ _ _ _ HR3.o]; rfl, by rw [cell_of_row _ _ _ _ _ _ HE3.o]; rfl, by rw [cell_of_row _ _ _ _ _ _ HE3.o]; rfl, by rw [cell_of_row _ _ _ _ _ _ HE3.o, ← Array.getElem?_toList]; exact (vq HS.o).1, by rw [cell_of_row _ _ _ _ _ _ HE3.o, ← Array.getElem?_toList]; exact (vq HS.o).2⟩)
 have HC9 := Lh (fl HK3.o)
 clear hk6 he6 HB6 HB5 HE3 HK3 HR3 HX3
 refine bh 18 (by decide) (fun Q1 hQ1 => ?_)
 simp only [T1, T0]
 go_wp2_with fail
 try simp only [dr1, dr0]
 refine i4 ⟨by kernel_rfl, ⟨fun _ => ⟨_, _, rfl, HC8.o.2.1⟩, fun _ => ⟨_, _, rfl, HC8.o.2.2.1⟩, fun _ => ⟨_, _, rfl, HC8.o.1⟩, fun _ => ⟨_, _, rfl, HC8.o.2.2.2.1⟩, fun _ => ⟨_, _, rfl, HC9.o.2.1⟩, fun _ => ⟨_, _, rfl, HC8.o.2.2.2.2⟩, fun _ => ⟨_, _, rfl, HC9.o.2.2.1⟩, trivial⟩, ?_⟩
 go_wp2_with fail
 go_ret
 exact ⟨rfl, HP.o⟩

theorem qe2 {k : Nat} (h : k ≤ 1000000000) : IntKind.i64.wrap (k : Int) = k := by simp [IntKind.wrap, IntKind.bits, IntKind.signed]; omega
theorem x7 {rs : List RecD} {i : Nat} (hi : i ≤ nEv ay rs) {n : Nat} (hn : rs.length ≤ n) : (bkAt ay rs i).live.length ≤ n ∧ (bkAt ay rs i).pins.length ≤ n ∧ (bkAt ay rs i).ints.length ≤ n := by
 have h1 := qgq i hi
 have h2 := r3 rs ay
 omega
structure EvM (q M : Nat) (w : World) (v : Value) (n : Nat) (xs : List Value) : Prop where
 cell : w.heap[q]? = some (.cells #[v] 55 (0, 0))
 row : w.ownsRow M 60 72 v n xs
theorem EvM.below {q M : Nat} {w w' : World} {v : Value} {n : Nat} {xs : List Value} (h : EvM q M w v n xs) (hb : Below w.heap.size w w') : EvM q M w' v n xs :=
 ⟨(hb.block _ (gl h.cell)).trans h.cell, bt h.row hb⟩
structure t5 (p : Option Nat) (w w' : World) : Prop where
 size : w.heap.size ≤ w'.heap.size
 block : ∀ k, k < w.heap.size → p ≠ some k → w'.heap[k]? = w.heap[k]?
theorem t5.refl (p : Option Nat) (w : World) : t5 p w w := ⟨nr _, fun _ _ _ => rfl⟩
theorem t5.below {p : Option Nat} {a w w' : World} (h : t5 p a w) (hb : Below w.heap.size w w') : t5 p a w' := ⟨Nat.le_trans h.size hb.size, fun k hk hn => (hb.block k (Nat.lt_of_lt_of_le hk h.size)).trans (h.block k hk hn)⟩
theorem t5.set {p : Nat} {a w : World} (h : t5 (some p) a w) (j : Nat) (u : Value) : t5 (some p) a (w.setCell ⟨p, j, none⟩ u) := ⟨by simpa [World.setCell] using h.size, fun k hk hn => (Below.heap_setCell _ _ _ _ (fun e => hn (by rw [e]))).trans (h.block k hk hn)⟩
theorem qfv (q g M i : Nat) (rs : List RecD) (us : Nat → Value) (b : bd) (v : Value) (w : World) (hr : ∀ r ∈ rs, Hs r) (hn : rs.length ≤ 1000000000) (hi : i ≤ nEv ay rs) (hb : b = bkAt ay rs i) (hg : Good b) (hk : dv w g b) (hM : g + 4 ≤ M) (hq : q < g) (hMw : M ≤ w.heap.size)
  (h : EvM q M w v i (qed rs us i)) :
  Calls Tryz.prog 42 #[bptr g, .pointer (some ⟨q, 0, none⟩)] w fun e w' => e = .returned (.tuple #[]) ∧ EvM q M w' v i (ln rs us i) ∧ Below M w w' ∧ t5 v.ownBlock w w' := by
 have HE := Lh h
 have HK := Lh hk
 have HGD := Lh hg
 have HBE := Lh hb
 have HI := Lh hi
 have HHR := Lh hr
 have HLB := Lh (show b.live.length ≤ 1000000000 ∧ b.pins.length ≤ 1000000000 by have := x7 hi hn; rw [hb]; exact ⟨this.1, this.2.1⟩)
 have HNR := Lh (r3 rs ay)
 have HMW := Lh hMw
 have HGM := Lh hM
 have HQG := Lh hq
 obtain ⟨A, c, rfl, hic, hcm⟩ := ap h.row
 have cq := cell_of_one h.cell
 clear h hk hg hb hi hr hM hq hMw
 have hi9 : i ≤ 1000000000 := Nat.le_trans (Nat.le_trans HI.o HNR.o) hn
 go_enter Tryz.func42, Tryz.ntmps42
 cases i with
 |zero =>
  go_wp2_with fail
  go_end0
  exact ⟨rfl, HE.o, br _ _, t5.refl _ _⟩
 |succ k =>
  obtain ⟨p, cp, hv⟩ := lb HE.o.row (by omega)
  injection hv with e1 e2 e3
  subst e1 e3
  clear e2
  go_wp2_with fail
  have HCL := Lh (show ((ln rs us k ++ evc (evAt rs k) (rs.getD k dw) (us k) 0 0).length = (k + 1) * 72) ∧ (ln rs us k).length = k * 72 by
   have h1 := qbn (us := us) HHR.o k (by have := HI.o; have := HNR.o; omega)
   have h2 := HE.o.row.1
   exact ⟨h2, h1⟩)
  have HHK := Lh (show Hs (rs.getD k dw) by
   rw [ra (by have := HI.o; have := HNR.o; omega)]
   exact HHR.o _ (List.getElem_mem _))
  clear cq
  refine m4 (fun w' => w'.heap[q]? = some (.cells #[.slice (some ⟨p, 0, none⟩) (k + 1) c] 55 (0, 0))) [17] 18 (by kernel_rfl) rfl ?_
  have HE0 := Lh (show EvM q M w.drew (.slice (some ⟨p, 0, none⟩) (k + 1) c) (k + 1) (qed rs us (k + 1)) from ⟨HE.o.cell, HE.o.row.drew⟩)
  have HK0 := Lh (show dv w.drew g b from HK.o.below (br _ _).drew HK.o.lt)
  have HD0 := Lh ((br M w).drew : Below M w w.drew)
  have HP0 := Lh ((t5.refl (some p) w).below (br _ _).drew)
  have HMW0 := Lh (show M ≤ w.drew.heap.size from HMW.o)
  clear HE HK HMW
  generalize w.drew = w0 at *
  refine wq3 (i := 0) (v := .slice (some ⟨p, 0, none⟩) (k + 1) c) rfl (by kernel_rfl) rfl (fun wq hbq => ee rfl rfl (ko evs_u (cell_of_one hbq))) HE0.o.cell ?_
  generalize ha : Act.put _ _ _ = z9; simp [Act.put] at ha; subst ha
  refine wq1 (i := 1) (v := .int .i64 ((k : Int) + 1)) rfl (by kernel_rfl) rfl (fun wq => by go_simp) HE0.o.cell ?_
  generalize ha : Act.put _ _ _ = z9; simp [Act.put] at ha; subst ha
  refine wq1 (i := 2) (v := .int .i64 k) rfl (by kernel_rfl) rfl (fun wq => by go_simp; exact qe2 (by omega)) HE0.o.cell ?_
  generalize ha : Act.put _ _ _ = z9; simp [Act.put] at ha; subst ha
  refine wq3 (i := 3) (v := .slice (some ⟨p, 0, none⟩) (k + 1) c) rfl (by kernel_rfl) rfl (fun wq hbq => ee rfl rfl (ko evs_u (cell_of_one hbq))) HE0.o.cell ?_
  generalize ha : Act.put _ _ _ = z9; simp [Act.put] at ha; subst ha
  refine wq1 (i := 4) (v := .int .i64 ((k : Int) + 1)) rfl (by kernel_rfl) rfl (fun wq => by go_simp) HE0.o.cell ?_
  generalize ha : Act.put _ _ _ = z9; simp [Act.put] at ha; subst ha
  refine wq1 (i := 5) (v := .int .i64 k) rfl (by kernel_rfl) rfl (fun wq => by go_simp; exact qe2 (by omega)) HE0.o.cell ?_
  generalize ha : Act.put _ _ _ = z9; simp [Act.put] at ha; subst ha
  refine wq1 (i := 6) (v := bptr g) rfl (by kernel_rfl) rfl (fun wq => by go_simp) HE0.o.cell ?_
  generalize ha : Act.put _ _ _ = z9; simp [Act.put] at ha; subst ha
  refine wq1 (i := 9) (v := bptr g) rfl (by kernel_rfl) rfl (fun wq => by go_simp) HE0.o.cell ?_
  generalize ha : Act.put _ _ _ = z9; simp [Act.put] at ha; subst ha
  refine ch (i := 7) (by kernel_rfl) rfl (fun Q' hQ' => ?_)
  go_wp2_with fail
  refine (qbb g b w0 HK0.o HGD.o HLB.o.1).mono ?_
  rintro e w1 ⟨v1, rfl, ho1, hb1⟩
  obtain ⟨A1, c1, hv1, hc1a, hc1b⟩ := ap ho1
  subst hv1
  rw [List.length_map]
  have HE1 := Lh (HE0.o.below hb1)
  have HK1 := Lh (HK0.o.below hb1 HK0.o.lt)
  have HP1 := Lh (HP0.o.below hb1)
  have HD1 := Lh (HD0.o.trans (hb1.mono HMW0.o))
  have HMW1 := Lh (Nat.le_trans HMW0.o hb1.size)
  clear HP0 ho1 hb1 hc1a hc1b HE0 HK0 HD0 HMW0
  obtain ⟨nl, hnl⟩ : ∃ nl, nl = b.live.length := ⟨_, rfl⟩
  rw [← hnl]
  have HNL := Lh hnl
  clear hnl
  go_wp2_with fail
  refine ⟨okU HE1.o.cell, ?_⟩
  refine wq1 (i := 8) (v := .int .i64 nl) rfl (by kernel_rfl) rfl (fun wq => by go_simp) HE1.o.cell ?_
  generalize ha : Act.put _ _ _ = z9; simp [Act.put] at ha; subst ha
  refine ch (i := 10) (by kernel_rfl) rfl (fun Q' hQ' => ?_)
  go_wp2_with fail
  refine (qa4 g b w1 HK1.o HGD.o HLB.o.2).mono ?_
  rintro e w2 ⟨v2, rfl, ho2, hb2⟩
  obtain ⟨A2, c2, hv2, hc2a, hc2b⟩ := ap ho2
  subst hv2
  have HE2 := Lh (HE1.o.below hb2)
  have HP2 := Lh (HP1.o.below hb2)
  have HD2 := Lh (HD1.o.trans (hb2.mono HMW1.o))
  clear HP1 ho2 hb2 hc2a hc2b HE1 HK1 HD1 HMW1
  obtain ⟨np, hnp⟩ : ∃ np, np = b.pins.length := ⟨_, rfl⟩
  rw [← hnp]
  have HNP := Lh hnp
  clear hnp
  go_wp2_with fail
  refine ⟨okU HE2.o.cell, ?_⟩
  refine wq1 (i := 11) (v := .int .i64 np) rfl (by kernel_rfl) rfl (fun wq => by go_simp) HE2.o.cell ?_
  generalize ha : Act.put _ _ _ = z9; simp [Act.put] at ha; subst ha
  refine wq1 (i := 12) (v := .pointer (some ⟨p, k * 72, none⟩)) rfl (by kernel_rfl) rfl (fun wq => by go_simp; intro h; omega) HE2.o.cell ?_
  generalize ha : Act.put _ _ _ = z9; simp [Act.put] at ha; subst ha
  refine wq1 (i := 13) (v := .pointer (some ⟨p, k * 72 + 70, none⟩)) rfl (by kernel_rfl) rfl (fun wq => by go_simp) HE2.o.cell ?_
  generalize ha : Act.put _ _ _ = z9; simp [Act.put] at ha; subst ha
  have HR2 := Lh (show w2.ownsRow M 60 72 (.slice (some ⟨p, 0, none⟩) (k + 1) c) (k + 1) (ln rs us k ++ evc (evAt rs k) (rs.getD k dw) (us k) 0 0) from HE2.o.row)
  have cl2 : w2.cell? ⟨p, k * 72 + 70, none⟩ = some (.int .i64 0) := by
   rw [HR2.o.cellAt _ (by omega), List.getElem?_append_right (by rw [HCL.o.2]; omega), HCL.o.2, show k * 72 + 70 - k * 72 = 70 by omega]
   unfold evc
   rw [List.getElem?_append_right (by simp), List.getElem?_append_right (by rw [ei HHK.o]; simp), ei HHK.o]
   rfl
  have fl2 : w2.frozen? ⟨p, k * 72 + 70, none⟩ = false := HR2.o.frozenAt _
  refine ch (i := 14) (by kernel_rfl) rfl (fun Q' hQ' => ?_)
  go_wp2_with fail
  have hnp2 : q ≠ p := by have := (rx HE2.o.row).1; have := HGM.o; have := HQG.o; omega
  have HE3 := Lh (show w2.setCell ⟨p, k * 72 + 70, none⟩ (.int .i64 nl) = w2.setCell ⟨p, k * 72 + 70, none⟩ (.int .i64 nl) ∧ (w2.setCell ⟨p, k * 72 + 70, none⟩ (.int .i64 nl)).heap[q]? = some (.cells #[.slice (some ⟨p, 0, none⟩) (k + 1) c] 55 (0, 0)) from ⟨rfl, (Below.heap_setCell _ _ _ _ hnp2).trans HE2.o.cell⟩)
  have HP3 := Lh (HP2.o.set (k * 72 + 70) (.int .i64 nl))
  have HD3 := Lh (HD2.o.setCell (p := ⟨p, k * 72 + 70, none⟩) (rx HE2.o.row).1 (.int .i64 nl))
  have HR3 := Lh (show (w2.setCell ⟨p, k * 72 + 70, none⟩ (.int .i64 nl)).ownsRow M 60 72 (.slice (some ⟨p, 0, none⟩) (k + 1) c) (k + 1) (ln rs us k ++ evc (evAt rs k) (rs.getD k dw) (us k) nl 0) from by
   have := qc9 HR2.o (k := k * 72 + 70) (by rw [HCL.o.1]; omega) (.int .i64 nl)
   rw [List.set_append_right _ _ (by rw [HCL.o.2]; omega), HCL.o.2, show k * 72 + 70 - k * 72 = 70 by omega, evc_live HHK.o] at this
   exact this)
  have HNP2 := Lh hnp2
  clear HP2 cl2 fl2 HR2 HE2 HD2 hnp2
  generalize w2.setCell ⟨p, k * 72 + 70, none⟩ (.int .i64 nl) = w3 at *
  refine ⟨okU HE3.o.2, ?_⟩
  refine wq1 (i := 15) (v := .pointer (some ⟨p, k * 72, none⟩)) rfl (by kernel_rfl) rfl (fun wq => by go_simp; intro h; omega) HE3.o.2 ?_
  generalize ha : Act.put _ _ _ = z9; simp [Act.put] at ha; subst ha
  refine wq1 (i := 16) (v := .pointer (some ⟨p, k * 72 + 71, none⟩)) rfl (by kernel_rfl) rfl (fun wq => by go_simp) HE3.o.2 ?_
  generalize ha : Act.put _ _ _ = z9; simp [Act.put] at ha; subst ha
  have cl3 : w3.cell? ⟨p, k * 72 + 71, none⟩ = some (.int .i64 0) := by
   rw [HR3.o.cellAt _ (by omega), List.getElem?_append_right (by rw [HCL.o.2]; omega), HCL.o.2, show k * 72 + 71 - k * 72 = 71 by omega]
   unfold evc
   rw [List.getElem?_append_right (by simp), List.getElem?_append_right (by rw [ei HHK.o]; simp), ei HHK.o]
   rfl
  have fl3 : w3.frozen? ⟨p, k * 72 + 71, none⟩ = false := HR3.o.frozenAt _
  refine ch (i := 17) (by kernel_rfl) rfl (fun Q' hQ' => ?_)
  go_wp2_with fail
  have HE4 := Lh ((Below.heap_setCell w3 ⟨p, k * 72 + 71, none⟩ (.int .i64 np) q HNP2.o).trans HE3.o.2)
  have HP4 := Lh (HP3.o.set (k * 72 + 71) (.int .i64 np))
  have HD4 := Lh (HD3.o.setCell (p := ⟨p, k * 72 + 71, none⟩) (rx HR3.o).1 (.int .i64 np))
  have HR4 := Lh (show (w3.setCell ⟨p, k * 72 + 71, none⟩ (.int .i64 np)).ownsRow M 60 72 (.slice (some ⟨p, 0, none⟩) (k + 1) c) (k + 1) (ln rs us (k + 1)) from by
   have := qc9 HR3.o (k := k * 72 + 71) (by rw [List.length_append, HCL.o.2, lg HHK.o]; omega) (.int .i64 np)
   rw [List.set_append_right _ _ (by rw [HCL.o.2]; omega), HCL.o.2, show k * 72 + 71 - k * 72 = 71 by omega, evc_pins HHK.o] at this
   rw [qg, ← HBE.o, ← HNL.o, ← HNP.o]
   exact this)
  clear HP3 cl3 fl3 HE3 HD3 HR3
  generalize w3.setCell ⟨p, k * 72 + 71, none⟩ (.int .i64 np) = w4 at *
  refine ⟨bu (by kernel_rfl), ?_⟩
  refine mg (by kernel_rfl) ?_ _
  go_end0
  exact ⟨rfl, ⟨HE4.o, HR4.o⟩, HD4.o, HP4.o⟩
end Go.Proofs.YtplbcbamnjnhlaaGreatDoor
