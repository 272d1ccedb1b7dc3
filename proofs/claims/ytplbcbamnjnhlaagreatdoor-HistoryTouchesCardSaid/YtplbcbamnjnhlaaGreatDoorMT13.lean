/- Texts of this proof joined: Right, Rising2. -/
import Derived.Test.YtplbcbamnjnhlaaGreatDoorMT00
import Derived.Test.YtplbcbamnjnhlaaGreatDoorMT12
import Derived.Test.YtplbcbamnjnhlaaGreatDoorMT11
set_option maxRecDepth 100000
set_option maxHeartbeats 40000000
namespace Go.Proofs.YtplbcbamnjnhlaaGreatDoor
open Go.RowKit

def mp (r : RecD) : Bool := gv r && gq (ed r) r
theorem onlyD_hs (r : RecD) (h : Hs r) : Hs (ed r) := by
 obtain ⟨h1, h2⟩ := h
 unfold ed
 repeat' split
 all_goals first | exact ⟨h1, h2⟩ | exact ⟨rfl, rfl⟩ | exact ⟨h1, rfl⟩
theorem qbj {r : RecD} {w : World} {g : Nat} {v : Value} {t : TypeId} (h : w.heap[g]? = some (.cells (ag r.kind r.seq r.kh r.kk r.mh r.ms v).toArray t (0, 0))) : ∀ j u, (ag r.kind r.seq r.kh r.kk r.mh r.ms v)[j]? = some u → w.cell? ⟨g, 0 + j, none⟩ = some u := aq h
theorem vo (r : RecD) (A : Option Addr) (n c B : Nat) (w : World) (hr : Hs r) (h1 : SlR eKey w B (.slice A n c) r.keys) (hB : B ≤ w.heap.size) :
  Calls Tryz.prog 52 #[rv r (.slice A n c)] w fun e w' => e = .returned (.bool (mp r)) ∧ Below w.heap.size w w' := by
 have HR := Lh hr
 have HBW := Lh hB
 have HB1 := Lh ((br _ _).alloc (nr _) (.cells (ag r.kind r.seq r.kh r.kk r.mh r.ms (.slice A n c)).toArray 38) : Below w.heap.size w _)
 have HG1 := Lh (hzn w (.cells (ag r.kind r.seq r.kh r.kk r.mh r.ms (.slice A n c)).toArray 38))
 have HK1 := Lh (h1.fut HB1.o hB (nr B))
 clear hr h1 hB
 go_enter Tryz.func52, Tryz.ntmps52
 go_wp2_with (refine ai (some 1) rfl ?_)
 refine Stop.go (bn rfl _ rfl rfl (bb ..) ?_)
 generalize w.alloc (.cells (ag r.kind r.seq r.kh r.kk r.mh r.ms (.slice A n c)).toArray 38) = w1 at *
 go_wp2_with (refine ai (some 6) rfl ?_)
 refine Stop.go (aa rfl 38 rfl rfl dr rfl (bk _ _ _ _ _ _ _ HR.o.1 HR.o.2) (qbj HG1.o) ?_)
 refine ar 4 _ _ _ (fun Q' hQ' => ?_)
 simp only [T1, T0]
 go_wp2_with (go_at_call 74; refine (only_any r A n c B _ HR.o HK1.o (Nat.le_trans HBW.o HB1.o.size)).mono ?_; rintro e w2 ⟨v, rfl, hk2, hb2⟩)
 try simp only [dr1, dr0]
 obtain ⟨A2, c2, rfl, hv1, hv2⟩ := hk2.form
 have HO := Lh (onlyD_hs r HR.o)
 refine Stop.go (av rfl 38 rfl gn rfl ?_)
 refine ac rfl 38 rfl rfl rfl (ch (g := w2.heap.size) rfl (bb ..) (bk _ _ _ _ _ _ _ HO.o.1 HO.o.2) (by rw [List.size_toArray, ah, ah, HO.o.1, HO.o.2]; rfl) (bd _ _ _ _ _ _ _ _ _)) ?_
 have hb3 := hb2.trans ((br _ _).alloc hb2.size (.cells (ag (ed r).kind (ed r).seq (ed r).kh (ed r).kk (ed r).mh (ed r).ms (.slice A2 (ed r).keys.length c2)).toArray 38))
 have HG3 := Lh (hzn w2 (.cells (ag (ed r).kind (ed r).seq (ed r).kh (ed r).kk (ed r).mh (ed r).ms (.slice A2 (ed r).keys.length c2)).toArray 38))
 have HK3 := Lh (hk2.below (((br _ _).alloc (nr _) (.cells (ag (ed r).kind (ed r).seq (ed r).kh (ed r).kk (ed r).mh (ed r).ms (.slice A2 (ed r).keys.length c2)).toArray 38)).mono (show B ≤ w2.heap.size from Nat.le_trans (Nat.le_trans HBW.o HB1.o.size) hb2.size)))
 have HG4 := Lh ((hb3.block _ (gl HG1.o)).trans HG1.o)
 have HK4 := Lh (HK1.o.below (hb3.mono (Nat.le_trans HBW.o HB1.o.size)))
 have HB3 := Lh (HB1.o.trans (hb3.mono HB1.o.size))
 clear hb2 hb3 hk2 hv1 hv2
 generalize w2.alloc (.cells (ag (ed r).kind (ed r).seq (ed r).kh (ed r).kk (ed r).mh (ed r).ms (.slice A2 (ed r).keys.length c2)).toArray 38) = w3 at *
 generalize w2.heap.size = m3 at *
 cases ho : gv r
 ·have HF := Lh (show mp r = false by unfold mp; rw [ho]; rfl)
  clear ho
  go_wp2_with fail
  go_ret
  exact ⟨rt1 (bu HF.o.symm), HB3.o⟩
 ·have HF := Lh (show mp r = gq (ed r) r by unfold mp; rw [ho]; rfl)
  clear ho
  go_wp2_with (refine ai (some 12) rfl ?_)
  refine Stop.go (aw (by rfl) 38 rfl rfl dr rfl (bk _ _ _ _ _ _ _ HO.o.1 HO.o.2) (qbj HG3.o) ?_)
  refine aw (by rfl) 38 rfl rfl dr rfl (bk _ _ _ _ _ _ _ HR.o.1 HR.o.2) (qbj HG4.o) ?_
  go_wp2_with (go_at_call 75; refine (same_any (ed r) r A2 A (ed r).keys.length c2 n c B B _ HO.o HR.o HK3.o HK4.o (Nat.le_trans HBW.o HB3.o.size) (Nat.le_trans HBW.o HB3.o.size)).mono ?_; rintro e w5 ⟨rfl, hb5⟩)
  go_ret
  exact ⟨rt1 (bu HF.o.symm), HB3.o.trans (hb5.mono HB3.o.size)⟩

theorem qha (A : Option Addr) (c B n : Nat) (xs : List KeyD) (w : World) (h1 : SlR eKey w B (.slice A n c) xs) (hB : B ≤ w.heap.size) :
  Calls Tryz.prog 54 #[.slice A n c] w fun e w' => e = .returned (.bool (fl xs)) ∧ Below w.heap.size w w' := by
 have N1 := Lh h1.n_eq
 have hc1 := h1.n_le
 have H1 := Lh h1
 have HBW := Lh hB
 clear h1 hB
 go_enter Tryz.func54, Tryz.ntmps54
 go_wp2_with fail
 go_loopw [3] (fun v3 wr => ∃ i : Nat, i ≤ n ∧ v3 = .int .i64 i ∧ Hid (lf xs i = true) ∧ Hid (Below w.heap.size w wr)) (fun v3 _ => n - (intOf v3).toNat)
 case atStart => exact ⟨0, by omega, rfl, rfl, br _ _⟩
 case round =>
  obtain ⟨i, hi, rfl, HP, HB⟩ := hrel
  by_cases hlt : i < n
  ·have hlt1 : i < xs.length := by have := N1.o; omega
   have HR := Lh (H1.o.below (HB.o.mono HBW.o))
   obtain ⟨b1, o1, rfl, _, hb1, l1, e1⟩ := mn HR.o hlt1
   obtain ⟨x1, x2, hx⟩ : ∃ x1 x2, xs[i] = (x1, x2) := ⟨_, _, rfl⟩
   rw [hx] at l1 e1
   simp only at l1 e1
   have HX := Lh hx
   have E1 := Lh e1
   have L1 := Lh l1
   have HLT := Lh (Nat.lt_of_lt_of_le hb1 (Nat.le_trans HBW.o HB.o.size))
   clear e1 hx l1
   go_wp2_with fail
   refine qj [4, 15, 20, 21] [3, 14, 19] [] (by kernel_rfl) (by kernel_rfl) ?_
   refine bh 3 (by decide) (fun Q0 hQ0 => ?_)
   simp only [T1, T0]
   go_wp2_with fail
   try simp only [dr1, dr0]
   refine bh 1 (by decide) (fun Q1 hQ1 => ?_)
   simp only [T1, T0]
   refine aa rfl 34 rfl rfl ba.ut rfl (al x1 x2 L1.o) E1.o ?_
   refine hQ1 _ _ ?_
   simp only [dr1, dr0]
   generalize ha : Act.put _ _ _ = z9; simp [Act.put] at ha; subst ha
   refine ie (fun Q1 hQ1 => ?_)
   go_wp2_with fail
   refine (jj x1 x2 _ L1.o).mono ?_
   rintro e w3 ⟨rfl, hb3⟩
   have HB3 := Lh hb3
   clear hb3
   cases hk : kOk x2
   ·have HF := Lh (show fl xs = false by unfold fl; rw [ub xs i xs.length hlt1 (by rw [lx xs i hlt1, HX.o]; simp [hk])]; rfl)
    clear hk
    go_wp2_with fail
    refine ⟨HB3.o, ?_⟩
    refine bh 1 (by decide) (fun Q2 hQ2 => ?_)
    simp only [T1, T0]
    refine bz rfl (v := .bool true) rfl ?_
    refine hQ2 _ _ ?_
    simp only [dr1, dr0]
    generalize ha : Act.put _ _ _ = z9; simp [Act.put] at ha; subst ha
    refine bh 1 (by decide) (fun Q2 hQ2 => ?_)
    simp only [T1, T0]
    refine bz rfl (v := .bool true) rfl ?_
    refine hQ2 _ _ ?_
    simp only [dr1, dr0]
    generalize ha : Act.put _ _ _ = z9; simp [Act.put] at ha; subst ha
    refine bh 1 (by decide) (fun Q2 hQ2 => ?_)
    simp only [T1, T0]
    refine wpList_skip rfl ?_
    refine hQ2 _ _ ?_
    simp only [dr1, dr0]
    generalize ha : Act.put _ _ _ = z9; simp [Act.put] at ha; subst ha
    refine bh 1 (by decide) (fun Q2 hQ2 => ?_)
    simp only [T1, T0]
    refine wpList_skip rfl ?_
    refine hQ2 _ _ ?_
    simp only [dr1, dr0]
    generalize ha : Act.put _ _ _ = z9; simp [Act.put] at ha; subst ha
    refine bh 1 (by decide) (fun Q2 hQ2 => ?_)
    simp only [T1, T0]
    refine wpList_skip rfl ?_
    refine hQ2 _ _ ?_
    simp only [dr1, dr0]
    generalize ha : Act.put _ _ _ = z9; simp [Act.put] at ha; subst ha
    refine bh 1 (by decide) (fun Q2 hQ2 => ?_)
    simp only [T1, T0]
    refine wpList_skip rfl ?_
    refine hQ2 _ _ ?_
    simp only [dr1, dr0]
    generalize ha : Act.put _ _ _ = z9; simp [Act.put] at ha; subst ha
    refine bh 1 (by decide) (fun Q2 hQ2 => ?_)
    simp only [T1, T0]
    refine wpList_skip rfl ?_
    refine hQ2 _ _ ?_
    simp only [dr1, dr0]
    generalize ha : Act.put _ _ _ = z9; simp [Act.put] at ha; subst ha
    refine bh 1 (by decide) (fun Q2 hQ2 => ?_)
    simp only [T1, T0]
    refine wpList_skip rfl ?_
    refine hQ2 _ _ ?_
    simp only [dr1, dr0]
    generalize ha : Act.put _ _ _ = z9; simp [Act.put] at ha; subst ha
    refine bh 1 (by decide) (fun Q2 hQ2 => ?_)
    simp only [T1, T0]
    refine wpList_skip rfl ?_
    refine hQ2 _ _ ?_
    simp only [dr1, dr0]
    generalize ha : Act.put _ _ _ = z9; simp [Act.put] at ha; subst ha
    refine bh 1 (by decide) (fun Q2 hQ2 => ?_)
    simp only [T1, T0]
    refine wpList_skip rfl ?_
    refine hQ2 _ _ ?_
    simp only [dr1, dr0]
    generalize ha : Act.put _ _ _ = z9; simp [Act.put] at ha; subst ha
    refine jg rfl ?_
    generalize ha : Act.put _ _ _ = z9; simp [Act.put] at ha; subst ha
    refine bh 1 (by decide) (fun Q2 hQ2 => ?_)
    simp only [T1, T0]
    refine wpList_skip rfl ?_
    refine hQ2 _ _ ?_
    simp only [dr1, dr0]
    generalize ha : Act.put _ _ _ = z9; simp [Act.put] at ha; subst ha
    refine bh 1 (by decide) (fun Q2 hQ2 => ?_)
    simp only [T1, T0]
    refine wpList_skip rfl ?_
    refine hQ2 _ _ ?_
    simp only [dr1, dr0]
    generalize ha : Act.put _ _ _ = z9; simp [Act.put] at ha; subst ha
    refine bh 1 (by decide) (fun Q2 hQ2 => ?_)
    simp only [T1, T0]
    refine wpList_skip rfl ?_
    refine hQ2 _ _ ?_
    simp only [dr1, dr0]
    generalize ha : Act.put _ _ _ = z9; simp [Act.put] at ha; subst ha
    refine bh 1 (by decide) (fun Q2 hQ2 => ?_)
    simp only [T1, T0]
    refine wpList_skip rfl ?_
    refine hQ2 _ _ ?_
    simp only [dr1, dr0]
    generalize ha : Act.put _ _ _ = z9; simp [Act.put] at ha; subst ha
    refine jg rfl ?_
    generalize ha : Act.put _ _ _ = z9; simp [Act.put] at ha; subst ha
    refine jg rfl ?_
    generalize ha : Act.put _ _ _ = z9; simp [Act.put] at ha; subst ha
    refine bh 1 (by decide) (fun Q2 hQ2 => ?_)
    simp only [T1, T0]
    refine wpList_skip rfl ?_
    refine hQ2 _ _ ?_
    simp only [dr1, dr0]
    generalize ha : Act.put _ _ _ = z9; simp [Act.put] at ha; subst ha
    refine bh 1 (by decide) (fun Q2 hQ2 => ?_)
    simp only [T1, T0]
    refine wpList_skip rfl ?_
    refine hQ2 _ _ ?_
    simp only [dr1, dr0]
    generalize ha : Act.put _ _ _ = z9; simp [Act.put] at ha; subst ha
    refine bh 1 (by decide) (fun Q2 hQ2 => ?_)
    simp only [T1, T0]
    refine bz rfl (v := .bool true) rfl ?_
    refine hQ2 _ _ ?_
    simp only [dr1, dr0]
    generalize ha : Act.put _ _ _ = z9; simp [Act.put] at ha; subst ha
    refine jr ⟨by rfl, ⟨(fun _ => ⟨_, _, rfl, E1.o 0 _ (List.getElem?_eq_getElem (by rw [ae]; omega))⟩), Text.no_want rfl, Text.no_want rfl, trivial⟩, ?_⟩
    go_wp2_with fail
    go_ret
    exact ⟨rt1 (bu HF.o.symm), HB.o.trans ((cg HB3.o).mono HB.o.size)⟩
   ·have HBT := Lh (HB.o.trans ((cg HB3.o).mono HB.o.size))
    by_cases hi0 : i = 0
    ·subst hi0
     have HS1 := Lh (show lf xs (0 + 1) = true by rw [pu, HP.o, lx xs 0 hlt1, HX.o]; simp [hk])
     clear hk
     go_wp2_with fail
     refine ⟨HB3.o, ?_⟩
     refine bh 1 (by decide) (fun Q2 hQ2 => ?_)
     simp only [T1, T0]
     refine bz rfl (v := .bool false) rfl ?_
     refine hQ2 _ _ ?_
     simp only [dr1, dr0]
     generalize ha : Act.put _ _ _ = z9; simp [Act.put] at ha; subst ha
     refine bh 1 (by decide) (fun Q2 hQ2 => ?_)
     simp only [T1, T0]
     refine bz rfl (v := .bool false) rfl ?_
     refine hQ2 _ _ ?_
     simp only [dr1, dr0]
     generalize ha : Act.put _ _ _ = z9; simp [Act.put] at ha; subst ha
     refine bh 1 (by decide) (fun Q2 hQ2 => ?_)
     simp only [T1, T0]
     refine rp rfl (v := .int .i64 0) rfl ?_
     refine hQ2 _ _ ?_
     simp only [dr1, dr0]
     generalize ha : Act.put _ _ _ = z9; simp [Act.put] at ha; subst ha
     refine bh 1 (by decide) (fun Q2 hQ2 => ?_)
     simp only [T1, T0]
     refine rp rfl (v := .bool false) rfl ?_
     refine hQ2 _ _ ?_
     simp only [dr1, dr0]
     generalize ha : Act.put _ _ _ = z9; simp [Act.put] at ha; subst ha
     refine bh 1 (by decide) (fun Q2 hQ2 => ?_)
     simp only [T1, T0]
     refine rp rfl (v := .bool false) rfl ?_
     refine hQ2 _ _ ?_
     simp only [dr1, dr0]
     generalize ha : Act.put _ _ _ = z9; simp [Act.put] at ha; subst ha
     refine bh 1 (by decide) (fun Q2 hQ2 => ?_)
     simp only [T1, T0]
     refine wpList_skip rfl ?_
     refine hQ2 _ _ ?_
     simp only [dr1, dr0]
     generalize ha : Act.put _ _ _ = z9; simp [Act.put] at ha; subst ha
     refine bh 1 (by decide) (fun Q2 hQ2 => ?_)
     simp only [T1, T0]
     refine wpList_skip rfl ?_
     refine hQ2 _ _ ?_
     simp only [dr1, dr0]
     generalize ha : Act.put _ _ _ = z9; simp [Act.put] at ha; subst ha
     refine bh 1 (by decide) (fun Q2 hQ2 => ?_)
     simp only [T1, T0]
     refine wpList_skip rfl ?_
     refine hQ2 _ _ ?_
     simp only [dr1, dr0]
     generalize ha : Act.put _ _ _ = z9; simp [Act.put] at ha; subst ha
     refine bh 1 (by decide) (fun Q2 hQ2 => ?_)
     simp only [T1, T0]
     refine wpList_skip rfl ?_
     refine hQ2 _ _ ?_
     simp only [dr1, dr0]
     generalize ha : Act.put _ _ _ = z9; simp [Act.put] at ha; subst ha
     refine bh 1 (by decide) (fun Q2 hQ2 => ?_)
     simp only [T1, T0]
     refine wpList_skip rfl ?_
     refine hQ2 _ _ ?_
     simp only [dr1, dr0]
     generalize ha : Act.put _ _ _ = z9; simp [Act.put] at ha; subst ha
     refine jg rfl ?_
     generalize ha : Act.put _ _ _ = z9; simp [Act.put] at ha; subst ha
     refine bh 1 (by decide) (fun Q2 hQ2 => ?_)
     simp only [T1, T0]
     refine wpList_skip rfl ?_
     refine hQ2 _ _ ?_
     simp only [dr1, dr0]
     generalize ha : Act.put _ _ _ = z9; simp [Act.put] at ha; subst ha
     refine bh 1 (by decide) (fun Q2 hQ2 => ?_)
     simp only [T1, T0]
     refine wpList_skip rfl ?_
     refine hQ2 _ _ ?_
     simp only [dr1, dr0]
     generalize ha : Act.put _ _ _ = z9; simp [Act.put] at ha; subst ha
     refine bh 1 (by decide) (fun Q2 hQ2 => ?_)
     simp only [T1, T0]
     refine wpList_skip rfl ?_
     refine hQ2 _ _ ?_
     simp only [dr1, dr0]
     generalize ha : Act.put _ _ _ = z9; simp [Act.put] at ha; subst ha
     refine bh 1 (by decide) (fun Q2 hQ2 => ?_)
     simp only [T1, T0]
     refine wpList_skip rfl ?_
     refine hQ2 _ _ ?_
     simp only [dr1, dr0]
     generalize ha : Act.put _ _ _ = z9; simp [Act.put] at ha; subst ha
     refine jg rfl ?_
     generalize ha : Act.put _ _ _ = z9; simp [Act.put] at ha; subst ha
     refine jg rfl ?_
     generalize ha : Act.put _ _ _ = z9; simp [Act.put] at ha; subst ha
     refine bh 1 (by decide) (fun Q2 hQ2 => ?_)
     simp only [T1, T0]
     refine wpList_skip rfl ?_
     refine hQ2 _ _ ?_
     simp only [dr1, dr0]
     generalize ha : Act.put _ _ _ = z9; simp [Act.put] at ha; subst ha
     refine bh 1 (by decide) (fun Q2 hQ2 => ?_)
     simp only [T1, T0]
     refine rp rfl (v := .bool false) rfl ?_
     refine hQ2 _ _ ?_
     simp only [dr1, dr0]
     generalize ha : Act.put _ _ _ = z9; simp [Act.put] at ha; subst ha
     refine bh 1 (by decide) (fun Q2 hQ2 => ?_)
     simp only [T1, T0]
     refine bz rfl (v := .bool false) rfl ?_
     refine hQ2 _ _ ?_
     simp only [dr1, dr0]
     generalize ha : Act.put _ _ _ = z9; simp [Act.put] at ha; subst ha
     refine jr ⟨by rfl, ⟨(fun _ => ⟨_, _, rfl, E1.o 0 _ (List.getElem?_eq_getElem (by rw [ae]; omega))⟩), Text.no_want rfl, Text.no_want rfl, trivial⟩, ?_⟩
     go_wp2_with fail
     refine ⟨⟨1, by omega, rfl, HS1, HBT⟩, ?_⟩
     simp [intOf]; omega
    ·obtain ⟨j, rfl⟩ : ∃ j, i = j + 1 := ⟨i - 1, by omega⟩
     have hj : j < xs.length := by omega
     obtain ⟨b2, o2, hA2, _, hb2, l2, e2⟩ := mn HR.o hj
     injection hA2 with hA2
     injection hA2 with hA2 hA3
     subst hA2 hA3
     obtain ⟨y1, y2, hy⟩ : ∃ y1 y2, xs[j] = (y1, y2) := ⟨_, _, rfl⟩
     rw [hy] at l2 e2
     simp only at l2 e2
     have HY := Lh hy
     have E2 := Lh e2
     have L2 := Lh l2
     have HST := Lh (show lf xs (j + 1 + 1) = ij y1 y2 x1 x2 by rw [pu, HP.o, lx xs (j + 1) hlt1, HX.o]; simp only [Nat.add_sub_cancel, HY.o, hk]; simp)
     have HNO := Lh (show ij y1 y2 x1 x2 = false → fl xs = false from fun hL => by unfold fl; rw [ub xs (j + 1) xs.length hlt1 (by rw [lx xs (j + 1) hlt1, HX.o]; simp only [Nat.add_sub_cancel, HY.o, hL]; simp)]; rfl)
     have E3 := Lh (fun (q : Nat) (u : Value) (hu : (af y1 y2)[q]? = some u) => ((cg HB3.o).cell (p := ⟨b1, o1 + j * 33 + q, none⟩) HLT.o).trans (e2 q u hu))
     clear hk e2 hy l2 hi0
     obtain ⟨Lb, hLb⟩ : ∃ Lb, Lb = ij y1 y2 x1 x2 := ⟨_, rfl⟩
     rw [← hLb] at HST HNO
     have HLB := Lh hLb
     clear hLb
     have HSZ := Lh (show (dc y1 y2).length ≤ 68719476736 from by cases hk : kOk y2; rw [(qx y1 y2).2 hk]; decide; rw [rz y1 y2 L2.o hk]; decide)
     have HUZ := Lh (show (dc x1 x2).length ≤ 68719476736 from by cases hk : kOk x2; rw [(qx x1 x2).2 hk]; decide; rw [rz x1 x2 L1.o hk]; decide)
     obtain ⟨S, hS⟩ : ∃ S : ByteArray, S = ⟨(dc y1 y2).toArray⟩ := ⟨_, rfl⟩
     obtain ⟨U, hU⟩ : ∃ U : ByteArray, U = ⟨(dc x1 x2).toArray⟩ := ⟨_, rfl⟩
     have HS := Lh hS
     have HU := Lh hU
     clear hS hU
     go_wp2_with fail
     refine ⟨HB3.o, ?_⟩
     refine bh 9 (by decide) (fun Q2 hQ2 => ?_)
     simp only [T1, T0]
     go_wp2_with fail
     try simp only [dr1, dr0]
     refine bh 1 (by decide) (fun Q2 hQ2 => ?_)
     simp only [T1, T0]
     refine aw (by rfl) 34 rfl rfl ba.ut rfl (al y1 y2 L2.o) E3.o ?_
     refine hQ2 _ _ ?_
     simp only [dr1, dr0]
     generalize ha : Act.put _ _ _ = z9; simp [Act.put] at ha; subst ha
     refine ie (fun Q3 hQ3 => ?_)
     go_wp2_with fail
     refine (rt y1 y2 _ L2.o).mono ?_
     rw [← HS.o]
     rintro e w4 ⟨rfl, hb4⟩
     have HB4 := Lh (HB3.o.trans (hb4.mono HB3.o.size))
     have E4 := Lh (fun (q : Nat) (u : Value) (hu : (af x1 x2)[q]? = some u) => ((cg HB4.o).cell (p := ⟨b1, o1 + (j + 1) * 33 + q, none⟩) HLT.o).trans (E1.o q u hu))
     clear hb4
     go_wp2_with fail
     refine ⟨HB4.o, ?_⟩
     refine bh 3 (by decide) (fun Q2 hQ2 => ?_)
     simp only [T1, T0]
     go_wp2_with fail
     try simp only [dr1, dr0]
     refine bh 1 (by decide) (fun Q2 hQ2 => ?_)
     simp only [T1, T0]
     refine aw (by rfl) 34 rfl rfl ba.ut rfl (al x1 x2 L1.o) E4.o ?_
     refine hQ2 _ _ ?_
     simp only [dr1, dr0]
     generalize ha : Act.put _ _ _ = z9; simp [Act.put] at ha; subst ha
     refine ie (fun Q3 hQ3 => ?_)
     go_wp2_with fail
     refine (rt x1 x2 _ L1.o).mono ?_
     rw [← HU.o]
     rintro e w5 ⟨rfl, hb5⟩
     have HB5 := Lh (HB4.o.trans (hb5.mono HB4.o.size))
     clear hb5
     go_wp2_with fail
     refine ⟨HB5.o, ?_⟩
     refine ie (fun Q3 hQ3 => ?_)
     go_wp2_with fail
     rw [HS.o, HU.o]
     refine (qfk (dc y1 y2) (dc x1 x2) _ HSZ.o HUZ.o).mono ?_
     rw [show Op.bytesLess (dc y1 y2) (dc x1 x2) = Lb from HLB.o.symm, ← HS.o, ← HU.o]
     rintro e w6 ⟨rfl, hb6⟩
     have HB6 := Lh (HB5.o.trans (hb6.mono HB5.o.size))
     clear hb6
     cases Lb
     ·have HF := Lh (HNO.o rfl)
      go_wp2_with fail
      refine ⟨HB6.o, ?_⟩
      refine bh 3 (by decide) (fun Q2 hQ2 => ?_)
      simp only [T1, T0]
      go_wp2_with fail
      try simp only [dr1, dr0]
      refine jr ⟨by rfl, ⟨(fun _ => ⟨_, _, rfl, E1.o 0 _ (List.getElem?_eq_getElem (by rw [ae]; omega))⟩), (fun _ => ⟨_, _, rfl, E2.o 0 _ (List.getElem?_eq_getElem (by rw [ae]; omega))⟩), (fun _ => ⟨_, _, rfl, E1.o 0 _ (List.getElem?_eq_getElem (by rw [ae]; omega))⟩), trivial⟩, ?_⟩
      go_wp2_with fail
      go_ret
      exact ⟨rt1 (bu HF.o.symm), HB.o.trans ((cg HB6.o).mono HB.o.size)⟩
     ·have HBT6 := Lh (HB.o.trans ((cg HB6.o).mono HB.o.size))
      go_wp2_with fail
      refine ⟨HB6.o, ?_⟩
      refine bh 3 (by decide) (fun Q2 hQ2 => ?_)
      simp only [T1, T0]
      go_wp2_with fail
      try simp only [dr1, dr0]
      refine jr ⟨by rfl, ⟨(fun _ => ⟨_, _, rfl, E1.o 0 _ (List.getElem?_eq_getElem (by rw [ae]; omega))⟩), (fun _ => ⟨_, _, rfl, E2.o 0 _ (List.getElem?_eq_getElem (by rw [ae]; omega))⟩), (fun _ => ⟨_, _, rfl, E1.o 0 _ (List.getElem?_eq_getElem (by rw [ae]; omega))⟩), trivial⟩, ?_⟩
      go_wp2_with fail
      refine ⟨⟨j + 1 + 1, by omega, by simp, HST, HBT6⟩, ?_⟩
      simp [intOf]; omega
  ·obtain rfl : i = n := by omega
   have HS := Lh (show lf xs xs.length = true by have := HP.o; rwa [N1.o] at this)
   have HZ := Lh (show fl xs = decide (1 ≤ i ∧ i ≤ 256) by unfold fl; rw [HS.o, N1.o]; simp)
   by_cases h1 : 1 ≤ i
   ·by_cases h2 : i ≤ 256
    ·have HF := Lh (show fl xs = true by rw [HZ.o]; exact decide_eq_true ⟨h1, h2⟩)
     go_wp2_with fail
     go_ret
     exact ⟨rt1 (bu (by rw [HF.o]; exact decide_eq_true (by omega))), HB.o⟩
    ·have HF := Lh (show fl xs = false by rw [HZ.o]; exact decide_eq_false (fun h => h2 h.2))
     go_wp2_with fail
     go_ret
     exact ⟨rt1 (bu (by rw [HF.o]; exact decide_eq_false (by omega))), HB.o⟩
   ·have HF := Lh (show fl xs = false by rw [HZ.o]; exact decide_eq_false (fun h => h1 h.1))
    go_wp2_with fail
    go_ret
    exact ⟨rt1 (bu HF.o.symm), HB.o⟩
end Go.Proofs.YtplbcbamnjnhlaaGreatDoor
