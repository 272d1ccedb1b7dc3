/- Texts of this proof joined: Rf16t, KeyG, Rf12. -/
import Derived.Test.YthojelhpipmkiaaGreatDoorKO12
import Derived.Test.YthojelhpipmkiaaGreatDoorKO07
import Derived.Deep.LoopGhost
import Derived.Test.YthojelhpipmkiaaGreatDoorKO13
import Derived.Test.YthojelhpipmkiaaGreatDoorKO14
import Derived.Test.YthojelhpipmkiaaGreatDoorKO19
import Derived.Test.YthojelhpipmkiaaGreatDoorKO05
namespace Go.Proofs.YthojelhpipmkiaaGreatDoor
open Go.RowKit

theorem toB_len (T : Wd) : (toB T).size = T.length := by simp [toB, ByteArray.size]
theorem toB_cat (T : Wd) (b : ByteArray) : toB T ++ b = toB (T ++ ofB b) := by
 have h : toB T ++ toB (ofB b) = toB (T ++ ofB b) := by
  unfold toB
  exact wv_app T (ofB b)
 rwa [toB_ofB] at h
theorem ofB_len (s : ByteArray) : (ofB s).length = s.size := by unfold ofB; rw [Array.length_toList]; rfl
theorem getD_map_ofB {l : List ByteArray} {i : Nat} (h : i < l.length) : (l.map ofB).getD i [] = ofB l[i] := by simp [List.getD_eq_getElem?_getD, h]
theorem symT_neg {ns ts : List ByteArray} {s : Int} {k : Nat} (h : s = -1 - (k : Int)) (hk : k < ts.length) : 32 :: symT (ns.map ofB) (ts.map ofB) s = [32, 39] ++ ofB ts[k] ++ [39] := by
 unfold symT
 rw [if_pos (by omega), show (-1 - s).toNat = k by omega, getD_map_ofB hk]
 rfl
theorem symT_pos {ns ts : List ByteArray} {s : Int} {k : Nat} (h : s = (k : Int)) (hk : k < ns.length) : 32 :: symT (ns.map ofB) (ts.map ofB) s = [32] ++ ofB ns[k] := by
 unfold symT
 rw [if_neg (by omega), show s.toNat = k by omega, getD_map_ofB hk]
 rfl
theorem textK_le (ns ts : List Wd) (rs : List RuleD) (i : Nat) : ∀ d, (textK ns ts rs i).length ≤ (textK ns ts rs (i + d)).length
 |0 => Nat.le_refl _
 |d + 1 => by
  refine Nat.le_trans (textK_le ns ts rs i d) ?_
  rw [← Nat.add_assoc, textK_succ, List.length_append]
  omega
theorem altsK_le (ns ts : List Wd) (rs : List RuleD) (i k : Nat) : ∀ d, k + d ≤ rs.length → (altsK ns ts rs i k).length ≤ (altsK ns ts rs i (k + d)).length
 |0, _ => Nat.le_refl _
 |d + 1, h => by
  refine Nat.le_trans (altsK_le ns ts rs i k d (by omega)) ?_
  rw [← Nat.add_assoc]
  by_cases hb : rs[k + d].1 = (i : Int)
  ·rw [(altsK_yes (ns := ns) (ts := ts) (by omega) hb).1, List.length_append, List.length_append]
   omega
  ·rw [(altsK_no (ns := ns) (ts := ts) (by omega) hb).1]
   exact Nat.le_refl _
theorem altT_le (ns ts : List Wd) (r : List Int) (j : Nat) : (altT ns ts (r.take j)).length ≤ (altT ns ts r).length := by
 conv => rhs; rw [← List.take_append_drop j r]
 unfold altT
 rw [List.flatMap_append, List.length_append]
 omega
theorem bound_line {ns ts : List Wd} {rs : List RuleD} {B : Nat} (hb : (gramT ns ts rs).length ≤ B) {i : Nat} (hi : i < ns.length) : (textK ns ts rs i).length + (ns.getD i []).length + 2 ≤ B ∧ ∀ k ≤ rs.length, (textK ns ts rs i ++ (ns.getD i [] ++ [32, 58]) ++ altsK ns ts rs i k).length + 3 ≤ B := by
 have h1 := textK_le ns ts rs (i + 1) (ns.length - (i + 1))
 rw [show i + 1 + (ns.length - (i + 1)) = ns.length by omega, textK_all, textK_succ, lineT_eq] at h1
 simp only [List.length_append] at h1 ⊢
 have h3 : ([32, 59, 10] : Wd).length = 3 := rfl
 have h2 : ([32, 58] : Wd).length = 2 := rfl
 rw [h2, h3] at h1
 rw [h2]
 refine ⟨by omega, fun k hk => ?_⟩
 have := altsK_le ns ts rs i k (rs.length - k) (by omega)
 rw [show k + (rs.length - k) = rs.length by omega] at this
 omega
def Text16To (g : Gram) (w : World) (e : Ending) (w' : World) : Prop := e = .returned (.string (toB (textG g))) ∧ Below w.heap.size w w'
set_option maxRecDepth 100000 in
set_option maxHeartbeats 16000000 in
theorem text16_any (v1 v2 v3 : Value) (ns ts : List ByteArray) (rs : List RuleD) (w : World) (hg : GoodC (ns, ts, rs)) (h1 : SlR eStr w w.heap.size v1 ns) (h2 : SlR eStr w w.heap.size v2 ts) (h3 : SlR eRule w w.heap.size v3 rs) (hb : (textG (ns, ts, rs)).length ≤ 140737488355328) :
  Calls Tryz.prog 16 #[.agg #[v1, v2, v3]] w (Text16To (ns, ts, rs) w) := by
 obtain ⟨A1, c1, rfl, ha1, ha2⟩ := h1.form
 obtain ⟨A2, c2, rfl, hb1, hb2⟩ := h2.form
 obtain ⟨A3, c3, rfl, hd1, hd2⟩ := h3.form
 unfold maxLen at ha2 hb2 hd2
 have HGD := Lib.hid hg
 have hnm : ns.length + ts.length ≤ 256 := hg.nm
 have hq4 : rs.length ≤ 4096 := hg.q
 obtain ⟨n, hnn⟩ : ∃ n, n = ns.length := ⟨_, rfl⟩
 obtain ⟨m, hmm⟩ : ∃ m, m = ts.length := ⟨_, rfl⟩
 obtain ⟨q, hqq⟩ : ∃ q, q = rs.length := ⟨_, rfl⟩
 rw [← hnn, ← hmm] at hnm
 rw [← hnn] at h1 ha1 ⊢
 rw [← hmm] at h2 hb1 ⊢
 rw [← hqq] at h3 hd1 hq4 ⊢
 have HNN := Lib.hid hnn
 have HMM := Lib.hid hmm
 have HQQ := Lib.hid hqq
 clear hg hnn hmm hqq
 obtain ⟨N, hN⟩ : ∃ N, N = ns.map ofB := ⟨_, rfl⟩
 obtain ⟨T, hT⟩ : ∃ T, T = ts.map ofB := ⟨_, rfl⟩
 have HTG := Lib.hid (show textG (ns, ts, rs) = gramT N T rs by rw [hN, hT]; rfl)
 rw [HTG.out] at hb
 have HBD := Lib.hid hb
 have HNL := Lib.hid (show N.length = n by rw [hN, List.length_map]; exact HNN.out.symm)
 have HN := Lib.hid hN
 have HT := Lib.hid hT
 clear hN hT hb
 obtain ⟨S, hS⟩ : ∃ S, S = w.heap.size := ⟨_, rfl⟩
 have hb0 : Below w.heap.size w (w.alloc (.cells #[.slice A1 n c1, .slice A2 m c2, .slice A3 q c3] 25)) := (Below.refl _ _).alloc (Nat.le_refl _) _
 have HG1 := Lib.hid (Go.heap_alloc_new w (.cells #[.slice A1 n c1, .slice A2 m c2, .slice A3 q c3] 25))
 have HB1 := Lib.hid hb0
 have H1 := Lib.hid (h1.below hb0)
 have H2 := Lib.hid (h2.below hb0)
 have H3 := Lib.hid (h3.below hb0)
 clear h1 h2 h3 hb0
 unfold Text16To
 rw [← hS] at HG1 HB1 H1 H2 H3 ⊢
 go_enter Tryz.func16, Tryz.ntmps16
 go_wp2_with fail
 rw [← hS]
 clear hS
 generalize w.alloc (.cells #[.slice A1 n c1, .slice A2 m c2, .slice A3 q c3] 25) = w1 at *
 have g0 : w1.cell? ⟨S, 0, none⟩ = some (.slice A1 n c1) := by rw [cell_of_row _ _ _ _ _ _ HG1.out]; rfl
 have g1 : w1.cell? ⟨S, 1, none⟩ = some (.slice A2 m c2) := by rw [cell_of_row _ _ _ _ _ _ HG1.out]; rfl
 have g2 : w1.cell? ⟨S, 2, none⟩ = some (.slice A3 q c3) := by rw [cell_of_row _ _ _ _ _ _ HG1.out]; rfl
 go_loopw [3, 4] (fun v3 v4 wr => ∃ i : Nat, i ≤ n ∧ v4 = .int .i64 i ∧ v3 = .string (toB (textK N T rs i)) ∧ wr = w1) (fun _ v4 _ => n - (intOf v4).toNat)
 case atStart => exact ⟨0, by omega, rfl, rfl, rfl⟩
 case round =>
  obtain ⟨i, hi, rfl, rfl, rfl⟩ := hrel
  by_cases hlt : i < n
  ·have hil : i < ns.length := by rw [← HNN.out]; exact hlt
   obtain ⟨b, off, cs, rfl, _, _, hrep, hcell⟩ := H1.out.get hil (by decide)
   obtain ⟨rfl, hx1⟩ := hrep
   have hcn := hcell 0 _ rfl
   clear hcell
   simp only [show eStr.size = 1 from rfl, Nat.mul_one, Nat.add_zero] at hcn
   have HNG := Lib.hid (show N.getD i [] = ofB ns[i] by rw [HN.out]; exact getD_map_ofB hil)
   have HBL := Lib.hid (bound_line HBD.out (i := i) (by rw [HNL.out]; exact hlt))
   rw [HNG.out] at HBL
   obtain ⟨nm, hnm2⟩ : ∃ nm, nm = ns[i] := ⟨_, rfl⟩
   rw [← hnm2] at hcn HNG HBL
   clear hnm2
   have hz1 : (toB (textK N T rs i)).size ≤ 140737488355328 := by have := HBL.out.1; rw [toB_len]; omega
   have hz2 : nm.size ≤ 140737488355328 := by have := HBL.out.1; rw [ofB_len] at this; omega
   have hz3 : (toB (textK N T rs i) ++ nm).size = (toB (textK N T rs i)).size + nm.size := ByteArray.size_append
   have HLT := Lib.hid (lineT_eq N T rs i)
   have HSU := Lib.hid (textK_succ N T rs i)
   go_wp2_with fail
   clear hz1 hz2 hz3 hcn
   obtain ⟨Ta, hTa⟩ : ∃ Ta, Ta = textK N T rs i ++ (ofB nm ++ [32, 58]) := ⟨_, rfl⟩
   have HTA := Lib.hid (show toB (textK N T rs i) ++ nm ++ ⟨#[32, 58]⟩ = toB Ta from by rw [toB_cat, toB_cat, hTa, List.append_assoc]; rfl)
   rw [← hTa] at HBL
   have HSU2 := Lib.hid (show textK N T rs (i + 1) = Ta ++ altsK N T rs i q ++ [32, 59, 10] from by rw [HSU.out, HLT.out, HNG.out, hTa, ← HQQ.out]; simp only [List.append_assoc])
   clear hTa HSU HLT
   go_loopw [3, 5, 6] (fun v3 v5 v6 wq => ∃ k : Nat, k ≤ q ∧ v6 = .int .i64 k ∧ v5 = .bool (ofLeft (rs.take k) i).isEmpty ∧ v3 = .string (toB (Ta ++ altsK N T rs i k)) ∧ wq = wr) (fun _ _ v6 _ => q - (intOf v6).toNat)
   case atStart => exact ⟨0, by omega, rfl, rfl, by rw [altsK_zero, List.append_nil, HTA.out], rfl⟩
   case round =>
    obtain ⟨k, hk, rfl, rfl, rfl, rfl⟩ := hrel
    by_cases hkq : k < q
    ·have hkl : k < rs.length := by rw [← HQQ.out]; exact hkq
     obtain ⟨b5, o5, cs, rfl, _, _, hrep, hcell⟩ := H3.out.get hkl (by decide)
     obtain ⟨vR, rfl, hsl, _, _⟩ := eRule_open hrep
     obtain ⟨A6, c6, rfl, hl5, hl6⟩ := hsl.form
     unfold maxLen at hl6
     have hr0 := hcell 0 _ rfl
     have hr1 := hcell 1 _ rfl
     simp only [show eRule.size = 2 from rfl, Nat.add_zero, ← Nat.add_assoc] at hr0 hr1
     have HFIT := Lib.hid (HGD.out.fit rs[k] (List.getElem_mem hkl)).2
     have HSL := Lib.hid hsl
     have HNO := Lib.hid (fun h : rs[k].1 ≠ (i : Int) => altsK_no (ns := N) (ts := T) hkl h)
     have HYES := Lib.hid (fun h : rs[k].1 = (i : Int) => altsK_yes (ns := N) (ts := T) hkl h)
     have HBK := Lib.hid (HBL.out.2 (k + 1) (by omega))
     have HBK0 := Lib.hid (HBL.out.2 k (by omega))
     clear hcell hrep hsl
     generalize rs[k] = r at *
     by_cases hri : r.1 = (i : Int)
     ·have d0 : (r.1 != (i : Int)) = false := by simp [hri]
      have HY := Lib.hid (HYES.out hri)
      clear HNO HYES hri
      obtain ⟨L, hL⟩ : ∃ L, L = r.2.length := ⟨_, rfl⟩
      rw [← hL] at hr1 HSL hl5
      have HLL := Lib.hid hL
      clear hL
      obtain ⟨fb, hfb⟩ : ∃ fb, fb = (ofLeft (rs.take k) i).isEmpty := ⟨_, rfl⟩
      rw [← hfb] at HY ⊢
      clear hfb
      have hz1 : (toB (Ta ++ altsK N T rs i k)).size ≤ 140737488355328 - 3 := by have := HBK0.out; rw [toB_len]; omega
      cases fb
      focus
       go_wp2_with fail
       obtain ⟨Tb, hTb⟩ : ∃ Tb, Tb = Ta ++ altsK N T rs i k ++ [32, 124] := ⟨_, rfl⟩
       have HTB := Lib.hid (show toB (Ta ++ altsK N T rs i k) ++ ⟨#[32, 124]⟩ = toB Tb from by rw [toB_cat, hTb]; rfl)
       have HTE := Lib.hid (show Tb ++ altT N T r.2 = Ta ++ altsK N T rs i (k + 1) from by rw [HY.out.1, hTb]; simp only [List.append_assoc]; rfl)
       rw [HTB.out]
       clear hTb HTB
      rotate_left
      focus
       go_wp2_with fail
       obtain ⟨Tb, hTb⟩ : ∃ Tb, Tb = Ta ++ altsK N T rs i k := ⟨_, rfl⟩
       have HTE := Lib.hid (show Tb ++ altT N T r.2 = Ta ++ altsK N T rs i (k + 1) from by rw [HY.out.1, hTb]; simp only [List.append_assoc]; rfl)
       rw [← hTb]
       clear hTb
      rotate_left
      all_goals
       clear hz1
       go_loopw [3, 7] (fun v3 v7 wq => ∃ j : Nat, j ≤ L ∧ v7 = .int .i64 j ∧ v3 = .string (toB (Tb ++ altT N T (r.2.take j))) ∧ wq = wr) (fun _ v7 _ => L - (intOf v7).toNat)
       case atStart => exact ⟨0, by omega, rfl, by rw [show altT N T (r.2.take 0) = [] from rfl, List.append_nil], rfl⟩
       case round =>
        obtain ⟨j, hj, rfl, rfl, rfl⟩ := hrel
        by_cases hjl : j < L
        ·have hjr : j < r.2.length := by rw [← HLL.out]; exact hjl
         obtain ⟨b7, o7, cs, rfl, _, _, hrep, hcell⟩ := HSL.out.get hjr (by decide)
         obtain ⟨rfl, hs1, hs2⟩ := hrep
         have hc7 := hcell 0 _ rfl
         simp only [show eInt.size = 1 from rfl, Nat.mul_one, Nat.add_zero] at hc7
         clear hcell
         have HSY := Lib.hid (HFIT.out.2 r.2[j] (List.getElem_mem hjr))
         have HTK := Lib.hid (altT_succ N T r.2 hjr)
         have HLE := Lib.hid (show (Tb ++ altT N T (r.2.take (j + 1))).length + 3 ≤ 140737488355328 from by
          have h1 := altT_le N T r.2 (j + 1)
          have h2 := HBK.out
          rw [← HTE.out] at h2
          rw [List.length_append] at h2 ⊢
          omega)
         rw [HTK.out] at HLE
         obtain ⟨s, hs⟩ : ∃ s, s = r.2[j] := ⟨_, rfl⟩
         rw [← hs] at hc7 HSY HTK HLE
         clear hs
         obtain ⟨X, hX⟩ : ∃ X, X = Tb ++ altT N T (r.2.take j) := ⟨_, rfl⟩
         rw [← List.append_assoc, ← hX] at HLE
         have HXN := Lib.hid (show Tb ++ altT N T (r.2.take (j + 1)) = X ++ (32 :: symT N T s) from by rw [HTK.out, hX, List.append_assoc])
         rw [← hX]
         clear hX HTK
         have hzx : (toB X).size ≤ 140737488355328 - 3 := by have := HLE.out; rw [List.length_append] at this; rw [toB_len]; omega
         by_cases hneg : s < 0
         ·obtain ⟨k', hk'⟩ : ∃ k' : Nat, s = -1 - (k' : Int) := ⟨(-1 - s).toNat, by omega⟩
          have hkm : k' < ts.length := by have h : -(ts.length : Int) ≤ s := HSY.out.1; omega
          obtain ⟨b8, o8, cs, rfl, _, _, hrep, hcell⟩ := H2.out.get hkm (by decide)
          obtain ⟨rfl, hx8⟩ := hrep
          have hc8 := hcell 0 _ rfl
          simp only [show eStr.size = 1 from rfl, Nat.mul_one, Nat.add_zero] at hc8
          clear hcell
          have HSM := Lib.hid (show 32 :: symT N T s = [32, 39] ++ ofB ts[k'] ++ [39] from by rw [HN.out, HT.out]; exact symT_neg hk' hkm)
          generalize ts[k'] = x at *
          have hkm2 : k' < m := by rw [HMM.out]; exact hkm
          have hxs : X.length + 2 + x.size + 1 ≤ 140737488355328 := by
           have := HLE.out
           rw [HSM.out] at this
           simp only [List.length_append, List.length_cons, List.length_nil, ofB_len] at this
           omega
          have hy1 : (toB X ++ (⟨#[32, 39]⟩ : ByteArray)).size = (toB X).size + 2 := ByteArray.size_append
          have hy2 : (toB X ++ (⟨#[32, 39]⟩ : ByteArray) ++ x).size = (toB X).size + 2 + x.size := by rw [ByteArray.size_append, hy1]
          have hy3 : (toB X).size + 2 + x.size + 1 ≤ 140737488355328 := by rw [toB_len]; exact hxs
          have HRES := Lib.hid (show toB X ++ (⟨#[32, 39]⟩ : ByteArray) ++ x ++ ⟨#[39]⟩ = toB (X ++ 32 :: symT N T s) from by
           rw [toB_cat, toB_cat, toB_cat, HSM.out]
           congr 1
           simp only [List.append_assoc]
           rfl)
          rw [← HXN.out] at HRES
          have e1 : -1 - s = (k' : Int) := by omega
          have d1 : decide (s < 0) = true := by simpa using hneg
          clear hneg hk' hkm hxs
          go_wp2_with fail
          go_roundw
          case rel => exact ⟨j + 1, by omega, by go_num, by rw [HRES.out], trivial⟩
          case measure => simp [intOf]; omega
         ·obtain ⟨k', hk'⟩ : ∃ k' : Nat, s = (k' : Int) := ⟨s.toNat, by omega⟩
          have hkm : k' < ns.length := by have h : s < (ns.length : Int) := HSY.out.2; omega
          obtain ⟨b8, o8, cs, hAB, _, _, hrep, hcell⟩ := H1.out.get hkm (by decide)
          obtain ⟨rfl, hx8⟩ := hrep
          have hc8 := hcell 0 _ rfl
          simp only [show eStr.size = 1 from rfl, Nat.mul_one, Nat.add_zero] at hc8
          clear hcell
          injection hAB with hAB
          injection hAB with hab1 hab2
          subst hab1 hab2
          have HSM := Lib.hid (show 32 :: symT N T s = [32] ++ ofB ns[k'] from by rw [HN.out, HT.out]; exact symT_pos hk' hkm)
          generalize ns[k'] = x at *
          have hkm2 : k' < n := by rw [HNN.out]; exact hkm
          have hxs : X.length + 1 + x.size ≤ 140737488355328 := by
           have := HLE.out
           rw [HSM.out] at this
           simp only [List.length_append, List.length_cons, List.length_nil, ofB_len] at this
           omega
          have hy1 : (toB X ++ (⟨#[32]⟩ : ByteArray)).size = (toB X).size + 1 := ByteArray.size_append
          have hy3 : (toB X).size + 1 + x.size ≤ 140737488355328 := by rw [toB_len]; exact hxs
          have HRES := Lib.hid (show toB X ++ (⟨#[32]⟩ : ByteArray) ++ x = toB (X ++ 32 :: symT N T s) from by
           rw [toB_cat, toB_cat, HSM.out]
           congr 1
           simp only [List.append_assoc]
           rfl)
          rw [← HXN.out] at HRES
          have d1 : decide (s < 0) = false := by simpa using hneg
          subst hk'
          clear hneg hkm hxs
          go_wp2_with fail
          go_roundw
          case rel => exact ⟨j + 1, by omega, by go_num, by rw [HRES.out], trivial⟩
          case measure => simp [intOf]; omega
        ·obtain rfl : j = L := by omega
         have HEQ := Lib.hid (show Tb ++ altT N T (r.2.take j) = Ta ++ altsK N T rs i (k + 1) from by rw [HLL.out, List.take_length, HTE.out])
         rw [HEQ.out]
         have hfe := HY.out.2
         go_wp2_with fail
         go_roundw
         case rel => exact ⟨k + 1, by omega, by go_num, by rw [hfe], rfl, trivial⟩
         case measure => simp [intOf]; omega
     ·have d0 : (r.1 != (i : Int)) = true := by simp [hri]
      have HY := Lib.hid (HNO.out hri)
      clear HNO HYES hri
      go_wp2_with fail
      go_roundw
      case rel => exact ⟨k + 1, by omega, by go_num, by rw [HY.out.2], by rw [HY.out.1], trivial⟩
      case measure => simp [intOf]; omega
    ·obtain rfl : k = q := by omega
     have hz1 : (toB (Ta ++ altsK N T rs i k)).size ≤ 140737488355328 - 3 := by have := HBL.out.2 k (Nat.le_of_eq HQQ.out); rw [toB_len]; omega
     have HRES := Lib.hid (show toB (Ta ++ altsK N T rs i k) ++ (⟨#[32, 59, 10]⟩ : ByteArray) = toB (textK N T rs (i + 1)) from by rw [toB_cat, HSU2.out]; rfl)
     go_wp2_with fail
     go_roundw
     case rel => exact ⟨i + 1, by omega, by go_num, by rw [HRES.out], trivial⟩
     case measure => simp [intOf]; omega
  ·obtain rfl : i = n := by omega
   go_wp2_with fail
   go_ret
   exact ⟨by rw [HTG.out, ← textK_all, HNL.out]; rfl, HB1.out⟩
end Go.Proofs.YthojelhpipmkiaaGreatDoor
namespace Go.Proofs.YthojelhpipmkiaaGreatDoor
open Go.RowKit

def keyG (g : Gram) (k : Int) : Option (List UInt8 × Int) := if gramB g = true ∧ kOk k = true then some (shaL (textC g), k) else none
theorem keyG_no {g : Gram} {k : Int} (h : gramB g = false ∨ kOk k = false) : keyG g k = none := by
 unfold keyG
 rw [if_neg]
 rintro ⟨h1, h2⟩
 rcases h with h | h
 ·rw [h1] at h; cases h
 ·rw [h2] at h; cases h
theorem keyG_yes {g : Gram} {k : Int} (h1 : gramB g = true) (h2 : kOk k = true) : keyG g k = some (shaL (textC g), k) := by
 unfold keyG
 rw [if_pos ⟨h1, h2⟩]
theorem shaL_len (b : List UInt8) : (shaL b).length = 32 := by unfold shaL; rw [bytesS_len]
theorem build_keyHK (h : List UInt8) (k : Int) (hh : h.length = 32) (w : World) : (Instr.build 30 #[(0, .agg (bcells h).toArray), (1, .int .i64 k)]).run Tryz.prog w = .ok (hkv h k) w := by
 have hz : (hkCells z32 0).length = 33 := rfl
 unfold Instr.build
 simp only [Sem.run_bind, zero_key, Result.andThen_ok, hkv_cells, run_underlying keyTy_u, keyTyD, fields_key]
 have h0 := fill_step (place := fun i => (#[((0 : Nat), (32 : Nat)), (32, 1)] : Array (Nat × Nat))[i]?) (i := 0) (v := .agg (bcells h).toArray) (vs := bcells h) (pre := []) (Z := hkCells z32 0) rfl (by simp [bcells_length, hh]) (by simp [hz, bcells_length, hh])
  (rest := [(1, .int .i64 k)])
 have hf : Instr.fill (fun i => (#[((0 : Nat), (32 : Nat)), (32, 1)] : Array (Nat × Nat))[i]?) (hkCells z32 0).toArray [(0, .agg (bcells h).toArray), (1, .int .i64 k)] = some (hkCells h k).toArray := by
  rw [List.nil_append] at h0
  rw [h0, fill_step (vs := [.int .i64 k]) rfl (by simp [bcells_length, hh]) (by simp [hz, bcells_length, hh])]
  rw [Instr.fill]
  congr 2
  rw [List.drop_eq_nil_of_le (by simp [hz, bcells_length, hh])]
  simp [hkCells]
 rw [hf]
 rfl
set_option maxRecDepth 100000 in
set_option maxHeartbeats 8000000 in
theorem keyOfG_any (v1 v2 v3 : Value) (g : Gram) (k : Int) (w : World) (hsz : g.1.length + g.2.1.length ≤ 4611686018427387904) (h1 : SlR eStr w w.heap.size v1 g.1) (h2 : SlR eStr w w.heap.size v2 g.2.1) (h3 : SlR eRule w w.heap.size v3 g.2.2) :
  Calls Tryz.prog 6 #[.agg #[v1, v2, v3], .int .i64 k] w (KeyTo w (keyG g k)) := by
 obtain ⟨A1, c1, rfl, _, _⟩ := h1.form
 obtain ⟨A2, c2, rfl, _, _⟩ := h2.form
 obtain ⟨A3, c3, rfl, _, _⟩ := h3.form
 obtain ⟨S, hS⟩ : ∃ S, S = w.heap.size := ⟨_, rfl⟩
 have H1 := Lib.hid h1
 have H2 := Lib.hid h2
 have H3 := Lib.hid h3
 have HSZ := Lib.hid hsz
 clear h1 h2 h3 hsz
 obtain ⟨n, hn⟩ : ∃ n, n = g.1.length := ⟨_, rfl⟩
 obtain ⟨m, hm⟩ : ∃ m, m = g.2.1.length := ⟨_, rfl⟩
 obtain ⟨q, hq⟩ : ∃ q, q = g.2.2.length := ⟨_, rfl⟩
 rw [← hn] at H1 ⊢
 rw [← hm] at H2 ⊢
 rw [← hq] at H3 ⊢
 clear hn hm hq
 have HBL := Lib.hid (show Below w.heap.size w ((w.alloc (.cells #[.slice A1 n c1, .slice A2 m c2, .slice A3 q c3] 25)).alloc (.cells (hkCells z32 0).toArray 30)) from ((Below.refl _ _).alloc (Nat.le_refl _) _).alloc (by rw [World.size_alloc]; omega) _)
 have HG1 := Lib.hid (Go.heap_alloc2_old w (.cells #[.slice A1 n c1, .slice A2 m c2, .slice A3 q c3] 25) (.cells (hkCells z32 0).toArray 30))
 have HK1 := Lib.hid (Go.heap_alloc2_new w (.cells #[.slice A1 n c1, .slice A2 m c2, .slice A3 q c3] 25) (.cells (hkCells z32 0).toArray 30))
 go_enter Tryz.func6, Tryz.ntmps6
 go_wp2_with (refine stop_at (some 2) rfl ?_)
 refine Stop.go (wpList_box rfl _ rfl rfl (vs := [.slice A1 n c1, .slice A2 m c2, .slice A3 q c3]) rfl ?_)
 refine wpList_alloc rfl 30 rfl zero_key (vs := hkCells z32 0) rfl ?_
 rw [show (w.alloc (.cells [.slice A1 n c1, .slice A2 m c2, .slice A3 q c3].toArray 25)).heap.size = w.heap.size + 1 from World.size_alloc _ _]
 change wpList _ _ _ _ _ ((w.alloc (.cells #[.slice A1 n c1, .slice A2 m c2, .slice A3 q c3] 25)).alloc (.cells (hkCells z32 0).toArray 30))
 generalize (w.alloc (.cells #[.slice A1 n c1, .slice A2 m c2, .slice A3 q c3] 25)).alloc (.cells (hkCells z32 0).toArray 30) = w1 at *
 generalize hac : Act.put _ _ _ = a9
 simp [Act.put] at hac
 subst hac
 rw [← hS] at HBL HG1 HK1 H1 H2 H3 ⊢
 have HSE := Lib.hid hS
 clear hS
 have HZ1 := Lib.hid (show S + 1 < w1.heap.size from (Array.getElem?_eq_some_iff.1 HK1.out).1)
 have HVAL := Lib.hid (gramValid_any (.slice A1 n c1) (.slice A2 m c2) (.slice A3 q c3) g.1 g.2.1 g.2.2 w1 HSZ.out (H1.out.fut HBL.out (Nat.le_refl _) (by have := HZ1.out; omega)) (H2.out.fut HBL.out (Nat.le_refl _) (by have := HZ1.out; omega)) (H3.out.fut HBL.out (Nat.le_refl _) (by have := HZ1.out; omega)))
 obtain ⟨p0, p1, p2⟩ := rowC_cells HG1.out
 go_wp2_with fail
 refine HVAL.out.mono ?_
 rintro e w2 ⟨rfl, hb2⟩
 have HB2 := Lib.hid (HBL.out.trans (hb2.mono (by have := HZ1.out; omega)))
 have HG2 := Lib.hid ((hb2.block S (by have := HZ1.out; omega)).trans HG1.out)
 have HK2 := Lib.hid ((hb2.block (S + 1) HZ1.out).trans HK1.out)
 have HZ2 := Lib.hid (Nat.lt_of_lt_of_le HZ1.out hb2.size)
 clear hb2 HBL HG1 HK1 HVAL p0 p1 p2
 rw [show (g.1, g.2.1, g.2.2) = g from rfl]
 cases hgb : gramB g with
 |false =>
  have HN := Lib.hid (keyG_no (k := k) (.inl hgb))
  clear hgb
  go_wp2_with (refine stop_at (some 14) rfl ?_)
  refine Stop.go (wpList_build rfl 30 rfl (vs := #[]) (by rfl) (build_key0 _) ?_)
  refine wpList_store_agg rfl 30 rfl rfl rfl (store_row (hkv_cells _ _) (key_size _ _ z32_len) HK2.out (by simp [hkCells_length]) (hkCells_one _ _)) ?_
  go_wp2_with fail
  refine ret_key rfl z32_len rfl rfl rfl (setRow_heap _ _ _ _ _ _ HK2.out) ?_
  exact KeyTo.no HN.out (by rw [← HSE.out]; exact below_setRow HB2.out (Nat.le_succ _) _)
 |true =>
  have HGD := Lib.hid ((goodC_iff g).1 hgb)
  have HGB := Lib.hid hgb
  clear hgb
  go_wp2_with fail
  refine (right_any k w2).mono ?_
  rintro e w3 ⟨rfl, rfl⟩
  cases hk : kOk k with
  |false =>
   have HN := Lib.hid (keyG_no (g := g) (.inr hk))
   clear hk
   go_wp2_with (refine stop_at (some 14) rfl ?_)
   refine Stop.go (wpList_build rfl 30 rfl (vs := #[]) (by rfl) (build_key0 _) ?_)
   refine wpList_store_agg rfl 30 rfl rfl rfl (store_row (hkv_cells _ _) (key_size _ _ z32_len) HK2.out (by simp [hkCells_length]) (hkCells_one _ _)) ?_
   go_wp2_with fail
   refine ret_key rfl z32_len rfl rfl rfl (setRow_heap _ _ _ _ _ _ HK2.out) ?_
   exact KeyTo.no HN.out (by rw [← HSE.out]; exact below_setRow HB2.out (Nat.le_succ _) _)
  |true =>
   have HN := Lib.hid (keyG_yes HGB.out hk)
   clear hk
   obtain ⟨p0, p1, p2⟩ := rowC_cells HG2.out
   have HTX := Lib.hid (canonText_any (.slice A1 n c1) (.slice A2 m c2) (.slice A3 q c3) g w2 HGD.out (H1.out.fut HB2.out (Nat.le_refl _) (by have := HZ2.out; omega)) (H2.out.fut HB2.out (Nat.le_refl _) (by have := HZ2.out; omega)) (H3.out.fut HB2.out (Nat.le_refl _) (by have := HZ2.out; omega)))
   have HTB := Lib.hid (show (textC g).length ≤ 4294967296 from by rw [textC_eq]; exact textG_bound (gramC_good HGD.out))
   have HHL := Lib.hid (shaL_len (textC g))
   go_wp2_with (refine stop_at (some 15) rfl ?_)
   refine Stop.go (wpList_seg 6 _ _ _ (fun Q' hQ' => ?_))
   simp only [List.take_succ_cons, List.take_zero]
   go_wp2_with fail
   refine HTX.out.mono ?_
   rintro e w4 ⟨rfl, hb4⟩
   have HB4 := Lib.hid (HB2.out.trans (hb4.mono (by have := HZ2.out; omega)))
   have HK4 := Lib.hid ((hb4.block (S + 1) HZ2.out).trans HK2.out)
   have HZ4 := Lib.hid (Nat.lt_of_lt_of_le HZ2.out hb4.size)
   clear hb4 HTX HB2 HG2 HK2 p0 p1 p2
   obtain ⟨w5, cw, hcv, hb5, hs5, hrd⟩ := conv_own (P := Tryz.prog) w4 9 45 5 (toB (textC g)) Tryz.underlying9 Tryz.underlying45 Tryz.underlying5
   rw [toB_len] at hcv
   rw [show (toB (textC g)).data.toList = textC g from rfl] at hrd
   obtain ⟨L, hL⟩ : ∃ L, L = (textC g).length := ⟨_, rfl⟩
   rw [← hL] at hcv HTB
   have HB6 := Lib.hid ((Below.refl w5.heap.size w5).alloc (Nat.le_refl _) (.cells #[.slice (some ⟨w4.heap.size, 0, none⟩) L cw] 45))
   have HN6 := Lib.hid (Go.heap_alloc_new w5 (.cells #[.slice (some ⟨w4.heap.size, 0, none⟩) L cw] 45))
   have HS6 := Lib.hid (World.size_alloc w5 (.cells #[.slice (some ⟨w4.heap.size, 0, none⟩) L cw] 45))
   have HS5 := Lib.hid hs5
   have HB5 := Lib.hid hb5
   have HSH := Lib.hid (of1_any (textC g) (some ⟨w4.heap.size, 0, none⟩) cw w5.heap.size 1 (w5.alloc (.cells #[.slice (some ⟨w4.heap.size, 0, none⟩) L cw] 45)) ((hrd.below (HB6.out.mono (by rw [HS5.out]; exact Nat.le_refl _))).more (by rw [HS6.out]; omega)) (by rw [← hL]; exact Nat.le_trans HTB.out (by decide)) (by rw [cell_of_row _ _ _ _ _ _ HN6.out, ← hL]; rfl) (by rw [HS6.out]; exact Nat.lt_succ_self _) (Nat.le_refl _))
   clear hrd hs5 hb5 hL
   go_wp2_with fail
   refine HSH.out.mono ?_
   rintro e w7 ⟨rfl, hb7⟩
   obtain ⟨h, hh⟩ : ∃ h, h = shaL (textC g) := ⟨_, rfl⟩
   have HB7 := Lib.hid (HB4.out.trans ((HB5.out.trans ((HB6.out.trans (hb7.mono HB6.out.size)).mono (by rw [HS5.out]; exact Nat.le_succ _))).mono (by have := HZ4.out; omega)))
   have HK7 := Lib.hid (((HB5.out.trans ((HB6.out.trans (hb7.mono HB6.out.size)).mono (by rw [HS5.out]; exact Nat.le_succ _))).block (S + 1) HZ4.out).trans HK4.out)
   rw [← hh] at HN HHL ⊢
   clear hb7 HSH HN6 HS6 HB6 HS5 HB5 hcv hh HB4 HK4
   go_wp2_with fail
   try simp only [List.drop_succ_cons, List.drop_zero]
   refine Stop.go (wpList_build rfl 30 rfl (vs := #[(0, .agg (bcells h).toArray), (1, .int .i64 k)]) (by rfl) (build_keyHK h k HHL.out _) ?_)
   refine wpList_store_agg rfl 30 rfl rfl rfl (store_row (hkv_cells _ _) (key_size _ _ HHL.out) HK7.out (by simp [hkCells_length, HHL.out, z32_len]) (hkCells_one _ _)) ?_
   go_wp2_with fail
   refine ret_key rfl HHL.out rfl rfl rfl (setRow_heap _ _ _ _ _ _ HK7.out) ?_
   exact KeyTo.yes HN.out HHL.out (by rw [← HSE.out]; exact below_setRow HB7.out (Nat.le_succ _) _)
end Go.Proofs.YthojelhpipmkiaaGreatDoor
namespace Go.Proofs.YthojelhpipmkiaaGreatDoor
open Go.RowKit

set_option maxHeartbeats 800000 in
theorem letter12_any (c : Int) (w : World) : Calls Tryz.prog 79 #[.int .u8 c] w fun e w' => e = .returned (.bool (letterB c)) ∧ w = w' := by
 have hc : c < 65 ∨ (65 ≤ c ∧ c ≤ 90) ∨ (90 < c ∧ c < 97) ∨ (97 ≤ c ∧ c ≤ 122) ∨ 122 < c := by omega
 rcases hc with h | h | h | h | h
 all_goals
  go_enter Tryz.func79, Tryz.ntmps79
  go_wp2
  all_goals first
   |(exfalso; omega)
   |(exfalso; simp at *; omega)
   |(go_ret; exact ⟨rt1 (vbool (by rw [Bool.eq_iff_iff]; simp [letterB] <;> omega)), rfl⟩)
set_option maxHeartbeats 800000 in
theorem more12_any (c : Int) (w : World) : Calls Tryz.prog 80 #[.int .u8 c] w fun e w' => e = .returned (.bool (goesB c)) ∧ w = w' := by
 rcases Bool.eq_false_or_eq_true (letterB c) with hl | hl
 ·have HL := Lib.hid hl
  go_enter Tryz.func80, Tryz.ntmps80
  go_wp2_with (go_call letter12_any c _ as e w1 ⟨rfl, rfl⟩)
  go_ret
  exact ⟨rt1 (vbool (by unfold goesB; rw [HL.out]; rfl)), rfl⟩
 ·have HL := Lib.hid hl
  have hc : c < 48 ∨ (48 ≤ c ∧ c ≤ 57) ∨ (57 < c ∧ c < 95) ∨ (95 ≤ c ∧ c ≤ 95) ∨ 95 < c := by omega
  rcases hc with h | h | h | h | h
  all_goals
   go_enter Tryz.func80, Tryz.ntmps80
   go_wp2_with (go_call letter12_any c _ as e w1 ⟨rfl, rfl⟩)
   all_goals first
    |(exfalso; omega)
    |(exfalso; simp at *; omega)
    |(go_ret; exact ⟨rt1 (vbool (by rw [Bool.eq_iff_iff]; simp [goesB, HL.out] <;> omega)), rfl⟩)
theorem all_take {p : UInt8 → Bool} {l : List UInt8} {i : Nat} (h : i < l.length) : (l.take (i + 1)).all p = ((l.take i).all p && p l[i]) := by
 rw [List.take_succ_eq_append_getElem h, List.all_append]
 simp
theorem all_bad {p : UInt8 → Bool} {l : List UInt8} {i : Nat} (h : i < l.length) (hp : p l[i] = false) : l.all p = false := by
 rw [List.all_eq_false]
 exact ⟨l[i], List.getElem_mem h, by simp [hp]⟩
set_option maxHeartbeats 1600000 in
theorem name12_any (s : ByteArray) (w : World) (hs : s.size ≤ maxLen) : Calls Tryz.prog 36 #[.string s] w fun e w' => e = .returned (.bool (isNameB s.data.toList)) ∧ w = w' := by
 unfold maxLen at hs
 have hbt := bat_get s
 have hlen : s.data.toList.length = s.size := by simp
 have HDEF : Hid (isNameB s.data.toList = (decide (1 ≤ s.size ∧ s.size ≤ 32) && letterB ((s.data.toList.headD 0).toNat : Int) && s.data.toList.all fun b => goesB (b.toNat : Int))) := by
  show _ = _; unfold isNameB; rw [hlen]
 have hc : s.size < 1 ∨ 32 < s.size ∨ (1 ≤ s.size ∧ s.size ≤ 32) := by omega
 rcases hc with h1 | h1 | h1
 ·have HF := Lib.hid (show isNameB s.data.toList = false by rw [HDEF.out, decide_eq_false (by omega)]; rfl)
  go_enter Tryz.func36, Tryz.ntmps36
  go_wp2_with fail
  go_ret
  exact ⟨rt1 (vbool HF.out.symm), rfl⟩
 ·have HF := Lib.hid (show isNameB s.data.toList = false by rw [HDEF.out, decide_eq_false (by omega)]; rfl)
  have h0 : ¬ s.size < 1 := by omega
  go_enter Tryz.func36, Tryz.ntmps36
  go_wp2_with fail
  go_ret
  exact ⟨rt1 (vbool HF.out.symm), rfl⟩
 ·have hpos : 0 < s.size := by omega
  have HH := Lib.hid (bat_head s h1.1)
  have HD := Lib.hid (show isNameB s.data.toList = (letterB (bat s 0) && s.data.toList.all fun b => goesB (b.toNat : Int)) by rw [HDEF.out, decide_eq_true h1, ← HH.out]; rfl)
  have h0 : decide ((s.size : Int) < 1) = false := by simpa using (show ¬ (s.size : Int) < 1 by omega)
  have h2 : decide ((32 : Int) < (s.size : Int)) = false := by simpa using (show ¬ (32 : Int) < s.size by omega)
  cases hb : letterB (bat s 0) with
  |false =>
   have HF := Lib.hid (show isNameB s.data.toList = false by rw [HD.out, hb]; rfl)
   have HB := Lib.hid hb
   clear hb
   go_enter Tryz.func36, Tryz.ntmps36
   go_wp2_with fail
   go_call letter12_any (bat s 0) _ as e w1 ⟨rfl, rfl⟩
   rw [HB.out]
   go_wp2_with fail
   go_ret
   exact ⟨rt1 (vbool HF.out.symm), rfl⟩
  |true =>
   have HF := Lib.hid (show isNameB s.data.toList = s.data.toList.all fun b => goesB (b.toNat : Int) by rw [HD.out, hb]; rfl)
   have HB := Lib.hid hb
   clear hb
   go_enter Tryz.func36, Tryz.ntmps36
   go_wp2_with fail
   go_call letter12_any (bat s 0) _ as e w1 ⟨rfl, rfl⟩
   rw [HB.out]
   go_wp2_with fail
   go_loopg [3] s.size (fun left v3 wr => ∃ i : Nat, i ≤ s.size ∧ s.size - i ≤ left ∧ v3 = .int .i64 i ∧ wr = w ∧ Hid ((s.data.toList.take i).all (fun b => goesB (b.toNat : Int)) = true))
   case atStart => exact ⟨0, by omega, by omega, rfl, rfl, rfl⟩
   case round =>
    obtain ⟨i, hi, hleft, rfl, rfl, HO⟩ := hrel
    by_cases hib : i < s.size
    ·have hil : i < s.data.toList.length := by rw [hlen]; exact hib
     have HT := Lib.hid (all_take (p := fun b => goesB (b.toNat : Int)) hil)
     have HBAD := Lib.hid (all_bad (p := fun b => goesB (b.toNat : Int)) hil)
     have HBL := Lib.hid (bat_list s i hil)
     rw [← HBL.out] at HT HBAD
     cases hm : goesB (bat s i) with
     |false =>
      have HM := Lib.hid hm
      have HX := Lib.hid (HF.out.trans (HBAD.out hm))
      clear hm
      go_wp2_with fail
      go_call more12_any (bat s i) _ as e w1 ⟨rfl, rfl⟩
      rw [HM.out]
      go_wp2_with fail
      go_ret
      exact ⟨rt1 (vbool HX.out.symm), rfl⟩
     |true =>
      have HM := Lib.hid hm
      clear hm
      go_wp2_with fail
      go_call more12_any (bat s i) _ as e w1 ⟨rfl, rfl⟩
      rw [HM.out]
      go_wp2_with fail
      go_roundg (gk - 1)
      case measure => omega
      case rel => exact ⟨i + 1, by omega, by omega, by go_num, rfl, by show _ = _; rw [HT.out, HO.out, HM.out]; rfl⟩
    ·have HX := Lib.hid (show isNameB s.data.toList = true by
      have := HO.out
      rw [List.take_of_length_le (by omega)] at this
      exact HF.out.trans this)
     go_wp2_with fail
     go_ret
     exact ⟨rt1 (vbool HX.out.symm), rfl⟩
set_option maxHeartbeats 1600000 in
theorem term12_any (s : ByteArray) (w : World) (hs : s.size ≤ maxLen) : Calls Tryz.prog 38 #[.string s] w fun e w' => e = .returned (.bool (isTermB s.data.toList)) ∧ w = w' := by
 unfold maxLen at hs
 have hbt := bat_get s
 have hlen : s.data.toList.length = s.size := by simp
 have HDEF : Hid (isTermB s.data.toList = (decide (1 ≤ s.size ∧ s.size ≤ 32) && s.data.toList.all fun b => spellsB (b.toNat : Int))) := by
  show _ = _; unfold isTermB; rw [hlen]
 have hc : s.size < 1 ∨ 32 < s.size ∨ (1 ≤ s.size ∧ s.size ≤ 32) := by omega
 rcases hc with h1 | h1 | h1
 ·have HF := Lib.hid (show isTermB s.data.toList = false by rw [HDEF.out, decide_eq_false (by omega)]; rfl)
  go_enter Tryz.func38, Tryz.ntmps38
  go_wp2_with fail
  go_ret
  exact ⟨rt1 (vbool HF.out.symm), rfl⟩
 ·have HF := Lib.hid (show isTermB s.data.toList = false by rw [HDEF.out, decide_eq_false (by omega)]; rfl)
  have h0 : ¬ s.size < 1 := by omega
  go_enter Tryz.func38, Tryz.ntmps38
  go_wp2_with fail
  go_ret
  exact ⟨rt1 (vbool HF.out.symm), rfl⟩
 ·have HF := Lib.hid (show isTermB s.data.toList = s.data.toList.all fun b => spellsB (b.toNat : Int) by rw [HDEF.out, decide_eq_true h1]; rfl)
  have h0 : decide ((s.size : Int) < 1) = false := by simpa using (show ¬ (s.size : Int) < 1 by omega)
  have h2 : decide ((32 : Int) < (s.size : Int)) = false := by simpa using (show ¬ (32 : Int) < s.size by omega)
  go_enter Tryz.func38, Tryz.ntmps38
  go_wp2_with fail
  go_loopg [3] s.size (fun left v3 wr => ∃ i : Nat, i ≤ s.size ∧ s.size - i ≤ left ∧ v3 = .int .i64 i ∧ wr = w ∧ Hid ((s.data.toList.take i).all (fun b => spellsB (b.toNat : Int)) = true))
  case atStart => exact ⟨0, by omega, by omega, rfl, rfl, rfl⟩
  case round =>
   obtain ⟨i, hi, hleft, rfl, rfl, HO⟩ := hrel
   by_cases hib : i < s.size
   ·have hil : i < s.data.toList.length := by rw [hlen]; exact hib
    have HT := Lib.hid (all_take (p := fun b => spellsB (b.toNat : Int)) hil)
    have HBAD := Lib.hid (all_bad (p := fun b => spellsB (b.toNat : Int)) hil)
    have HBL := Lib.hid (bat_list s i hil)
    rw [← HBL.out] at HT HBAD
    obtain ⟨x, hx⟩ : ∃ x, x = bat s i := ⟨_, rfl⟩
    rw [← hx] at HT HBAD
    have HXX := Lib.hid hx
    have hbx : bat s i = x := hx.symm
    have hcc : x < 32 ∨ (32 ≤ x ∧ x < 39) ∨ (39 ≤ x ∧ x ≤ 39) ∨ (39 < x ∧ x < 92) ∨ (92 ≤ x ∧ x ≤ 92) ∨ (92 < x ∧ x ≤ 126) ∨ 126 < x := by omega
    clear hx
    rcases hcc with h | h | h | h | h | h | h
    ·have hsp : spellsB x = false := by
      unfold spellsB
      simp
      omega
     have e1 : (x == 39) = false := by rw [beq_eq_false_iff_ne]; omega
     have e2 : (x == 92) = false := by rw [beq_eq_false_iff_ne]; omega
     have e3 : decide (x < 32) = true := by simp; omega
     have e4 : decide (126 < x) = false := by simp; omega
     have HX := Lib.hid (HF.out.trans (HBAD.out hsp))
     clear hsp h
     go_wp2_with fail
     go_ret
     exact ⟨rt1 (vbool HX.out.symm), rfl⟩
    ·have hsp : spellsB x = true := by
      unfold spellsB
      simp
      omega
     have e1 : (x == 39) = false := by rw [beq_eq_false_iff_ne]; omega
     have e2 : (x == 92) = false := by rw [beq_eq_false_iff_ne]; omega
     have e3 : decide (x < 32) = false := by simp; omega
     have e4 : decide (126 < x) = false := by simp; omega
     have HM := Lib.hid hsp
     clear hsp h
     go_wp2_with fail
     go_roundg (gk - 1)
     case measure => omega
     case rel => exact ⟨i + 1, by omega, by omega, by go_num, rfl, by show _ = _; rw [HT.out, HO.out, HM.out]; rfl⟩
    ·have hsp : spellsB x = false := by
      unfold spellsB
      simp
      omega
     have e1 : (x == 39) = true := by rw [beq_iff_eq]; omega
     have e2 : (x == 92) = false := by rw [beq_eq_false_iff_ne]; omega
     have e3 : decide (x < 32) = false := by simp; omega
     have e4 : decide (126 < x) = false := by simp; omega
     have HX := Lib.hid (HF.out.trans (HBAD.out hsp))
     clear hsp h
     go_wp2_with fail
     go_ret
     exact ⟨rt1 (vbool HX.out.symm), rfl⟩
    ·have hsp : spellsB x = true := by
      unfold spellsB
      simp
      omega
     have e1 : (x == 39) = false := by rw [beq_eq_false_iff_ne]; omega
     have e2 : (x == 92) = false := by rw [beq_eq_false_iff_ne]; omega
     have e3 : decide (x < 32) = false := by simp; omega
     have e4 : decide (126 < x) = false := by simp; omega
     have HM := Lib.hid hsp
     clear hsp h
     go_wp2_with fail
     go_roundg (gk - 1)
     case measure => omega
     case rel => exact ⟨i + 1, by omega, by omega, by go_num, rfl, by show _ = _; rw [HT.out, HO.out, HM.out]; rfl⟩
    ·have hsp : spellsB x = false := by
      unfold spellsB
      simp
      omega
     have e1 : (x == 39) = false := by rw [beq_eq_false_iff_ne]; omega
     have e2 : (x == 92) = true := by rw [beq_iff_eq]; omega
     have e3 : decide (x < 32) = false := by simp; omega
     have e4 : decide (126 < x) = false := by simp; omega
     have HX := Lib.hid (HF.out.trans (HBAD.out hsp))
     clear hsp h
     go_wp2_with fail
     go_ret
     exact ⟨rt1 (vbool HX.out.symm), rfl⟩
    ·have hsp : spellsB x = true := by
      unfold spellsB
      simp
      omega
     have e1 : (x == 39) = false := by rw [beq_eq_false_iff_ne]; omega
     have e2 : (x == 92) = false := by rw [beq_eq_false_iff_ne]; omega
     have e3 : decide (x < 32) = false := by simp; omega
     have e4 : decide (126 < x) = false := by simp; omega
     have HM := Lib.hid hsp
     clear hsp h
     go_wp2_with fail
     go_roundg (gk - 1)
     case measure => omega
     case rel => exact ⟨i + 1, by omega, by omega, by go_num, rfl, by show _ = _; rw [HT.out, HO.out, HM.out]; rfl⟩
    ·have hsp : spellsB x = false := by
      unfold spellsB
      simp
      omega
     have e1 : (x == 39) = false := by rw [beq_eq_false_iff_ne]; omega
     have e2 : (x == 92) = false := by rw [beq_eq_false_iff_ne]; omega
     have e3 : decide (x < 32) = false := by simp; omega
     have e4 : decide (126 < x) = true := by simp; omega
     have HX := Lib.hid (HF.out.trans (HBAD.out hsp))
     clear hsp h
     go_wp2_with fail
     go_ret
     exact ⟨rt1 (vbool HX.out.symm), rfl⟩
   ·have HX := Lib.hid (show isTermB s.data.toList = true by
     have := HO.out
     rw [List.take_of_length_le (by omega)] at this
     exact HF.out.trans this)
    go_wp2_with fail
    go_ret
    exact ⟨rt1 (vbool HX.out.symm), rfl⟩
end Go.Proofs.YthojelhpipmkiaaGreatDoor
