/- Texts of this proof joined: Rf16a, InsW, Less09, Rf16s. -/
import Derived.Test.YthojelhpipmkiaaGreatDoorKO12
import Derived.Test.YthojelhpipmkiaaGreatDoorKO05
import Derived.Test.YthojelhpipmkiaaGreatDoorKO09
import Derived.Test.YthojelhpipmkiaaGreatDoorKO08
import Derived.Test.YthojelhpipmkiaaGreatDoorKO04
import Derived.Deep.LoopGhost
import Derived.Test.YthojelhpipmkiaaGreatDoorKO01
import Derived.Test.YthojelhpipmkiaaGreatDoorKO07
import Derived.Deep.QuietTactic
import Derived.BigQuiet
import Derived.Test.YthojelhpipmkiaaGreatDoorKO03
namespace Go.Proofs.YthojelhpipmkiaaGreatDoor
open Go.RowKit

theorem rank16_any (s : Int) (w : World) (h1 : -1000 ≤ s) (h2 : s ≤ 1000000) : Calls Tryz.prog 86 #[.int .i64 s] w fun e w' => e = .returned (.int .i64 (rank s)) ∧ w = w' := by
 by_cases hs : s < 0
 ·have d0 : decide (s < 0) = true := by simpa using hs
  have HR := Lib.hid (show rank s = -1 - s by unfold rank; rw [if_pos hs])
  clear hs
  go_enter Tryz.func86, Tryz.ntmps86
  go_wp2_with fail
  go_ret
  exact ⟨rt1 (vint HR.out.symm), rfl⟩
 ·have d0 : decide (s < 0) = false := by simpa using hs
  have HR := Lib.hid (show rank s = 1000 + s by unfold rank; rw [if_neg hs])
  clear hs
  go_enter Tryz.func86, Tryz.ntmps86
  go_wp2_with fail
  go_ret
  exact ⟨rt1 (vint HR.out.symm), rfl⟩
theorem ruleLt_dec_ne {a b : RuleD} (h : a.1 ≠ b.1) : decide (ruleLt a b) = decide (a.1 < b.1) := by
 apply decide_eq_decide.2
 unfold ruleLt
 constructor
 ·rintro (h1 | ⟨h1, _⟩)
  ·exact h1
  ·exact absurd h1 h
 ·exact fun h1 => .inl h1
theorem ruleLt_dec_eq {a b : RuleD} (h : a.1 = b.1) {p : Prop} [Decidable p] (hp : rightLt a.2 b.2 ↔ p) : decide (ruleLt a b) = decide p := by
 apply decide_eq_decide.2
 unfold ruleLt
 rw [← hp]
 constructor
 ·rintro (h1 | ⟨_, h1⟩)
  ·omega
  ·exact h1
 ·exact fun h1 => .inr ⟨h, h1⟩
def SmallS (x : List Int) : Prop := ∀ s ∈ x, (-1000 : Int) ≤ s ∧ s ≤ 1000000
def Less16To (a b : RuleD) (w : World) (e : Ending) (w' : World) : Prop := e = .returned (.bool (decide (ruleLt a b))) ∧ Below w.heap.size w w'
set_option maxRecDepth 100000 in
set_option maxHeartbeats 8000000 in
theorem less16_any (v1 v2 : Value) (l1 l2 : Int) (x y : List Int) (w : World) (h1 : SlR eInt w w.heap.size v1 x) (h2 : SlR eInt w w.heap.size v2 y) (hx : SmallS x) (hy : SmallS y) :
  Calls Tryz.prog 44 #[.agg #[.int .i64 l1, v1], .agg #[.int .i64 l2, v2]] w (Less16To (l1, x) (l2, y) w) := by
 obtain ⟨A1, c1, rfl, ha1, ha2⟩ := h1.form
 obtain ⟨A2, c2, rfl, hb1, hb2⟩ := h2.form
 unfold maxLen at ha2 hb2
 have hB : Below w.heap.size w ((w.alloc (.cells #[.int .i64 l1, .slice A1 x.length c1] 36)).alloc (.cells #[.int .i64 l2, .slice A2 y.length c2] 36)) := ((Below.refl _ _).alloc (Nat.le_refl _) _).alloc (by rw [World.size_alloc]; omega) _
 have HG1 := Lib.hid (Go.heap_alloc2_old w (.cells #[.int .i64 l1, .slice A1 x.length c1] 36) (.cells #[.int .i64 l2, .slice A2 y.length c2] 36))
 have HG2 := Lib.hid (Go.heap_alloc2_new w (.cells #[.int .i64 l1, .slice A1 x.length c1] 36) (.cells #[.int .i64 l2, .slice A2 y.length c2] 36))
 have HB := Lib.hid hB
 have H1 := Lib.hid (h1.below hB)
 have H2 := Lib.hid (h2.below hB)
 clear h1 h2 hB
 have HX := Lib.hid hx
 have HY := Lib.hid hy
 clear hx hy
 unfold Less16To
 obtain ⟨n, hn⟩ : ∃ n, n = x.length := ⟨_, rfl⟩
 obtain ⟨m, hm⟩ : ∃ m, m = y.length := ⟨_, rfl⟩
 rw [← hn] at H1 HG1 HG2 HB H2 ha1 ⊢
 rw [← hm] at H2 HG1 HG2 HB H1 hb1 ⊢
 have HN := Lib.hid hn
 have HM := Lib.hid hm
 clear hn hm
 by_cases hl : l1 = l2
 ·have d0 : (l1 != l2) = false := by simp [hl]
  have HEQ := Lib.hid (fun (p : Prop) [Decidable p] (hp : rightLt x y ↔ p) => ruleLt_dec_eq (a := (l1, x)) (b := (l2, y)) hl hp)
  clear hl
  go_enter Tryz.func44, Tryz.ntmps44
  go_wp2_with fail
  generalize (w.alloc (.cells #[.int .i64 l1, .slice A1 n c1] 36)).alloc (.cells #[.int .i64 l2, .slice A2 m c2] 36) = w1 at *
  have HRL := Lib.hid (show rightLt x y ↔ rightLt (x.drop 0) (y.drop 0) from Iff.rfl)
  have HB0 := Lib.hid (Below.refl w1.heap.size w1)
  have HSZ := Lib.hid (show w.heap.size + 1 < w1.heap.size from (Array.getElem?_eq_some_iff.1 HG2.out).1)
  go_loopw [5] (fun v5 wr => ∃ k : Nat, k ≤ n ∧ k ≤ m ∧ v5 = .int .i64 k ∧ Hid (rightLt x y ↔ rightLt (x.drop k) (y.drop k)) ∧ Hid (Below w1.heap.size w1 wr)) (fun v5 _ => n - (intOf v5).toNat)
  case atStart => exact ⟨0, by omega, by omega, rfl, HRL.out, HB0.out⟩
  case round =>
   clear HRL HB0
   obtain ⟨k, hk1, hk2, rfl, HRL, HBW⟩ := hrel
   have HBT := Lib.hid (HB.out.trans (HBW.out.mono (by have := HSZ.out; omega)))
   have c11 : wr.cell? ⟨w.heap.size, 1, none⟩ = some (.slice A1 n c1) := by rw [cell_of_row _ _ _ _ _ _ ((HBW.out.block _ (by have := HSZ.out; omega)).trans HG1.out)]; rfl
   have c21 : wr.cell? ⟨w.heap.size + 1, 1, none⟩ = some (.slice A2 m c2) := by rw [cell_of_row _ _ _ _ _ _ ((HBW.out.block _ HSZ.out).trans HG2.out)]; rfl
   have H1R := Lib.hid (H1.out.below (HBW.out.mono (by have := HSZ.out; omega)))
   have H2R := Lib.hid (H2.out.below (HBW.out.mono (by have := HSZ.out; omega)))
   by_cases hkn : k < n
   ·by_cases hkm : k < m
    ·have hkx : k < x.length := by rw [← HN.out]; exact hkn
     have hky : k < y.length := by rw [← HM.out]; exact hkm
     obtain ⟨b1, o1, cs1, rfl, _, _, hrep1, hcell1⟩ := H1R.out.get hkx (by decide)
     obtain ⟨rfl, hx1, hx2⟩ := hrep1
     have hc1 := hcell1 0 _ rfl
     clear hcell1
     obtain ⟨b2, o2, cs2, rfl, _, _, hrep2, hcell2⟩ := H2R.out.get hky (by decide)
     obtain ⟨rfl, hy1, hy2⟩ := hrep2
     have hc2 := hcell2 0 _ rfl
     clear hcell2
     simp only [show eInt.size = 1 from rfl, Nat.mul_one, Nat.add_zero] at hc1 hc2
     have HSX := Lib.hid (HX.out x[k] (List.getElem_mem hkx))
     have HSY := Lib.hid (HY.out y[k] (List.getElem_mem hky))
     have HST := Lib.hid (fun h : x[k] = y[k] => HRL.out.trans (rightLt_step hkx hky h))
     have HDF := Lib.hid (fun h : x[k] ≠ y[k] => HRL.out.trans (rightLt_part hkx hky HSX.out.1 HSY.out.1 h))
     generalize x[k] = a at *
     generalize y[k] = b at *
     by_cases hab : a = b
     ·have dab : (a != b) = false := by simp [hab]
      have HNX := Lib.hid (HST.out hab)
      clear HST HDF hab
      have HBD := Lib.hid (HBW.out.drew)
      go_wp2_with fail
      refine Text.wp_text [] (by kernel_rfl) (by kernel_rfl) (fun Q' hQ' => ?_)
      go_wp2_with fail
      refine ⟨by rfl, ?_⟩
      go_wp2_with fail
      go_roundw
      case rel => exact ⟨k + 1, by omega, by omega, by go_num, HNX.out, HBD.out⟩
      case measure => simp [intOf]; omega
     ·have dab : (a != b) = true := by simp [hab]
      have HNX := Lib.hid (HEQ.out _ (HDF.out hab))
      clear HST HDF hab HEQ
      have HBD := Lib.hid (show Below w.heap.size w wr.drew from HBT.out.drew)
      go_wp2_with fail
      refine Text.wp_text [] (by kernel_rfl) (by kernel_rfl) (fun Q' hQ' => ?_)
      go_wp2_with fail
      refine ⟨by rfl, ?_⟩
      go_wp2_with fail
      have HC1 := Lib.hid (show wr.drew.drew.cell? ⟨w.heap.size, 1, none⟩ = some (.slice (some ⟨b1, o1, none⟩) n c1) from c11)
      have HC2 := Lib.hid (show wr.drew.drew.cell? ⟨w.heap.size + 1, 1, none⟩ = some (.slice (some ⟨b2, o2, none⟩) m c2) from c21)
      have HC3 := Lib.hid (show wr.drew.drew.cell? ⟨b1, o1 + k, none⟩ = some (.int .i64 a) from hc1)
      have HC4 := Lib.hid (show wr.drew.drew.cell? ⟨b2, o2 + k, none⟩ = some (.int .i64 b) from hc2)
      have HBE := Lib.hid (show Below w.heap.size w wr.drew.drew from HBT.out.drew.drew)
      clear c11 c21 hc1 hc2 HBD HBT
      refine Text.wp_grow [5, 11] [1, 4, 7, 10] [] (by kernel_rfl) (by kernel_rfl) ?_
      generalize wr.drew.drew = wd at *
      have c11 := HC1.out
      have c21 := HC2.out
      have hc1 := HC3.out
      have hc2 := HC4.out
      refine Text.wpS_seg 5 _ _ _ _ (by decide) (fun Q' hQ' => ?_)
      simp only [List.take_succ_cons, List.take_zero]
      go_wp2_with fail
      try simp only [List.drop_succ_cons, List.drop_zero]
      refine Text.wpS_one (fun Q1 hQ1 => ?_)
      go_wp2_with fail
      refine (rank16_any a wd HSX.out.1 HSX.out.2).mono ?_
      rintro e w3 ⟨rfl, rfl⟩
      go_wp2_with fail
      refine ⟨Below.refl _ _, ?_⟩
      refine Text.wpS_seg 5 _ _ _ _ (by decide) (fun Q' hQ' => ?_)
      simp only [List.take_succ_cons, List.take_zero]
      go_wp2_with fail
      try simp only [List.drop_succ_cons, List.drop_zero]
      refine Text.wpS_one (fun Q1 hQ1 => ?_)
      go_wp2_with fail
      refine (rank16_any b wd HSY.out.1 HSY.out.2).mono ?_
      rintro e w3 ⟨rfl, rfl⟩
      go_wp2_with fail
      refine ⟨Below.refl _ _, ?_⟩
      refine Text.wpS_seg 2 _ _ _ _ (by decide) (fun Q' hQ' => ?_)
      simp only [List.take_succ_cons, List.take_zero]
      go_wp2_with fail
      try simp only [List.drop_succ_cons, List.drop_zero]
      refine ⟨by rfl, ⟨fun _ => ⟨_, _, rfl, HC1.out⟩, fun _ => ⟨_, _, rfl, HC3.out⟩, fun _ => ⟨_, _, rfl, HC2.out⟩, fun _ => ⟨_, _, rfl, HC4.out⟩, trivial⟩, ?_⟩
      go_wp2_with fail
      go_ret
      exact ⟨rt1 (vbool HNX.out.symm), HBE.out⟩
    ·obtain rfl : k = m := by omega
     have HNX := Lib.hid (HEQ.out _ (HRL.out.trans (rightLt_end (x := x) (y := y) (k := k) (by rw [← HM.out]; omega) (by rw [← HN.out]; omega) (by rw [← HM.out]; exact Nat.le_refl _))))
     have HNY := Lib.hid (show decide (ruleLt (l1, x) (l2, y)) = decide (n < k) from by rw [HNX.out, ← HN.out, ← HM.out])
     clear HEQ HNX
     go_wp2_with fail
     go_ret
     exact ⟨rt1 (vbool HNY.out.symm), HBT.out⟩
   ·obtain rfl : k = n := by omega
    have HNX := Lib.hid (HEQ.out _ (HRL.out.trans (rightLt_end (x := x) (y := y) (k := k) (by rw [← HN.out]; omega) (by rw [← HN.out]; exact Nat.le_refl _) (by rw [← HM.out]; omega))))
    have HNY := Lib.hid (show decide (ruleLt (l1, x) (l2, y)) = decide (k < m) from by rw [HNX.out, ← HN.out, ← HM.out])
    clear HEQ HNX
    go_wp2_with fail
    go_ret
    exact ⟨rt1 (vbool HNY.out.symm), HBT.out⟩
 ·have d0 : (l1 != l2) = true := by simp [hl]
  have HO := Lib.hid (ruleLt_dec_ne (a := (l1, x)) (b := (l2, y)) hl)
  simp only at HO
  clear hl
  go_enter Tryz.func44, Tryz.ntmps44
  go_wp2_with fail
  go_ret
  exact ⟨rt1 (vbool HO.out.symm), HB.out⟩
end Go.Proofs.YthojelhpipmkiaaGreatDoor
namespace Go.Proofs.YthojelhpipmkiaaGreatDoor

structure InsTo (l : List Wd) (stay i : Nat) (out : List Wd) : Prop where
 perm : out.Perm (l.take i)
 head : out.take stay = l.take (min stay i)
 le : (out.drop stay).Pairwise (· ≤ ·)
theorem InsTo.zero (l : List Wd) (stay : Nat) : InsTo l stay 0 [] := ⟨by simp, by simp, by simp⟩
theorem InsTo.len {l out : List Wd} {stay i : Nat} (h : InsTo l stay i out) (hi : i ≤ l.length) : out.length = i := by
 rw [h.perm.length_eq, List.length_take]
 omega
def PlaceTo (out : List Wd) (stay : Nat) (x : Wd) (at_ : Nat) : Prop := at_ ≤ out.length ∧ (out.length ≤ stay → at_ = out.length) ∧ (stay ≤ out.length → stay ≤ at_) ∧ (∀ (j : Nat) (h : j < out.length), at_ ≤ j → x < out[j])
theorem InsTo.succ {l out : List Wd} {stay i k : Nat} (h : InsTo l stay i out) (hi : i < l.length) (hk : PlaceTo out stay l[i] k) (hd : k ≤ stay ∨ ∃ h : k - 1 < out.length, ¬ l[i] < out[k - 1]) : InsTo l stay (i + 1) (out.take k ++ l[i] :: out.drop k) := by
 have hl := h.len (Nat.le_of_lt hi)
 obtain ⟨k1, k2, k3, k4⟩ := hk
 refine ⟨?_, ?_, ?_⟩
 ·rw [List.take_succ_eq_append_getElem hi]
  exact (ins_perm out l[i] k).trans (h.perm.append_right [l[i]])
 ·by_cases hs : stay ≤ i
  ·have := k3 (by omega)
   rw [List.take_append_of_le_length (by rw [List.length_take]; omega), List.take_take, Nat.min_eq_left this, h.head, Nat.min_eq_left hs, Nat.min_eq_left (by omega)]
  ·have hki : k = i := by rw [k2 (by omega), hl]
   subst hki
   rw [List.take_of_length_le (l := out) (by omega), List.drop_of_length_le (by omega), List.take_of_length_le (by simp; omega), Nat.min_eq_right (by omega), List.take_succ_eq_append_getElem hi]
   have := h.head
   rw [List.take_of_length_le (by omega), Nat.min_eq_right (by omega)] at this
   rw [this]
 ·by_cases hs : stay ≤ i
  ·have hsk := k3 (by omega)
   have e : (out.take k ++ l[i] :: out.drop k).drop stay = (out.drop stay).take (k - stay) ++ l[i] :: (out.drop stay).drop (k - stay) := by
    rw [List.drop_append_of_le_length (by rw [List.length_take]; omega), List.drop_take, List.drop_drop, show stay + (k - stay) = k by omega]
   rw [e]
   refine ins_pairwise h.le (fun y hy => ?_) (fun y hy => ?_)
   ·by_cases h0 : k = stay
    ·subst h0
     simp at hy
    ·rcases hd with hd | ⟨hd1, hd⟩
     ·omega
     ·have hq : k - 1 - stay < (out.drop stay).length := by rw [List.length_drop]; omega
      have hle : (out.drop stay)[k - 1 - stay] ≤ l[i] := by
       rw [List.getElem_drop]
       have e2 : out[stay + (k - 1 - stay)]'(by omega) = out[k - 1] := by congr 1; omega
       rw [e2]
       exact List.not_lt.1 hd
      refine ins_before (le := fun a b : Wd => a ≤ b) (fun a b c => List.le_trans) hq h.le hle y ?_
      rwa [show k - 1 - stay + 1 = k - stay by omega]
   ·rw [List.drop_drop, show stay + (k - stay) = k by omega] at hy
    obtain ⟨j, hj, rfl⟩ := List.getElem_of_mem hy
    rw [List.length_drop] at hj
    rw [List.getElem_drop]
    exact List.le_of_lt (k4 (k + j) (by omega) (by omega))
  ·rw [List.drop_of_length_le]
   ·exact .nil
   ·simp only [List.length_append, List.length_take, List.length_cons, List.length_drop]
    omega
theorem InsTo.done {l out : List Wd} {stay : Nat} (h : InsTo l stay l.length out) : out = l.take stay ++ sortW (l.drop stay) := by
 have h1 := h.head
 have hp := h.perm
 rw [List.take_length] at hp
 rw [← List.take_append_drop stay out]
 have e : out.take stay = l.take stay := by
  rw [h1]
  by_cases hs : stay ≤ l.length
  ·rw [Nat.min_eq_left hs]
  ·rw [Nat.min_eq_right (by omega), List.take_length, List.take_of_length_le (by omega)]
 rw [e]
 congr 1
 refine sortW_unique ?_ h.le
 rw [← List.take_append_drop stay out, ← List.take_append_drop stay l, e] at hp
 have := (List.perm_append_left_iff _).1 hp
 simpa using this
theorem InsTo.names {l out : List Wd} (h : InsTo l 1 l.length out) : out = canN l := h.done
theorem InsTo.terms {l out : List Wd} (h : InsTo l 0 l.length out) : out = sortW l := by
 have := h.done
 simpa using this
structure InsR (l : List RuleD) (i : Nat) (out : List RuleD) : Prop where
 perm : out.Perm (l.take i)
 le : out.Pairwise fun a b => ¬ ruleLt b a
theorem InsR.zero (l : List RuleD) : InsR l 0 [] := ⟨by simp, by simp⟩
theorem InsR.len {l out : List RuleD} {i : Nat} (h : InsR l i out) (hi : i ≤ l.length) : out.length = i := by
 rw [h.perm.length_eq, List.length_take]
 omega
theorem ruleLt_asymm {a b : RuleD} (h : ruleLt a b) : ¬ ruleLt b a := fun k => ruleLt_irrefl a (ruleLt_trans h k)
theorem InsR.succ {l out : List RuleD} {i k : Nat} (h : InsR l i out) (hi : i < l.length) (hk : k ≤ out.length) (h4 : ∀ (j : Nat) (h : j < out.length), k ≤ j → ruleLt l[i] out[j]) (hd : k = 0 ∨ ∃ h : k - 1 < out.length, ¬ ruleLt l[i] out[k - 1]) : InsR l (i + 1) (out.take k ++ l[i] :: out.drop k) := by
 refine ⟨?_, ins_pairwise h.le (fun y hy => ?_) (fun y hy => ?_)⟩
 ·rw [List.take_succ_eq_append_getElem hi]
  exact (ins_perm out l[i] k).trans (h.perm.append_right [l[i]])
 ·rcases hd with rfl | ⟨hd1, hd⟩
  ·simp at hy
  ·by_cases h0 : k = 0
   ·subst h0
    simp at hy
   ·refine ins_before ruleLe_trans hd1 h.le hd y ?_
    rwa [show k - 1 + 1 = k by omega]
 ·obtain ⟨j, hj, rfl⟩ := List.getElem_of_mem hy
  rw [List.length_drop] at hj
  rw [List.getElem_drop]
  exact ruleLt_asymm (h4 (k + j) (by omega) (by omega))
theorem InsR.done {l out : List RuleD} (ho : ∀ r ∈ l, RuleOk r) (h : InsR l l.length out) : out = sortR l := by
 have hp := h.perm
 rw [List.take_length] at hp
 exact sortR_unique ho hp h.le
end Go.Proofs.YthojelhpipmkiaaGreatDoor
namespace Go.Proofs.YthojelhpipmkiaaGreatDoor
open Go.RowKit

theorem less_step (x y : List UInt8) (i : Nat) (h1 : i < x.length) (h2 : i < y.length) :
  Op.bytesLess (x.drop i) (y.drop i) = (decide (x[i].toNat < y[i].toNat) || (x[i] == y[i] && Op.bytesLess (x.drop (i + 1)) (y.drop (i + 1)))) := by
 rw [List.drop_eq_getElem_cons h1, List.drop_eq_getElem_cons h2, Op.bytesLess]
 rfl
theorem below_drewN' {B : Nat} {w w' : World} (h : Below B w w') (n : Nat) : Below B w (w'.drewN n) := ⟨h.os, h.tape, h.output, h.size, h.block⟩
set_option maxRecDepth 100000 in
set_option maxHeartbeats 400000 in
theorem less09_any (x y : List UInt8) (w : World) (hx : x.length ≤ maxLen) (hy : y.length ≤ maxLen) :
  Calls Tryz.prog 85 #[.string ⟨x.toArray⟩, .string ⟨y.toArray⟩] w fun e w' => e = .returned (.bool (Op.bytesLess x y)) ∧ Below w.heap.size w w' := by
 unfold maxLen at hx hy
 obtain ⟨X, hX⟩ : ∃ X : ByteArray, X = ⟨x.toArray⟩ := ⟨_, rfl⟩
 obtain ⟨Y, hY⟩ : ∃ Y : ByteArray, Y = ⟨y.toArray⟩ := ⟨_, rfl⟩
 have hXs : X.size = x.length := by rw [hX]; rfl
 have hYs : Y.size = y.length := by rw [hY]; rfl
 rw [← hX, ← hY]
 have HXX := Lib.hid hX
 have HYY := Lib.hid hY
 clear hX hY
 go_enter Tryz.func85, Tryz.ntmps85
 go_wp2_with fail
 go_loopw [5] (fun v5 wr => ∃ (i : Nat), i ≤ x.length ∧ i ≤ y.length ∧ v5 = .int .i64 i ∧ Hid (Op.bytesLess (x.drop i) (y.drop i) = Op.bytesLess x y) ∧ Hid (Below w.heap.size w wr)) (fun v5 _ => x.length - (intOf v5).toNat)
 case atStart => exact ⟨0, by omega, by omega, rfl, rfl, (Below.refl _ _)⟩
 case round =>
  obtain ⟨i, hi, hj, rfl, HB, HW⟩ := hrel
  by_cases h1 : i < x.length
  ·by_cases h2 : i < y.length
   ·have hXi : ∀ (h : i < X.size), X[i] = x[i] := fun h => by
     have := HXX.out
     subst this
     rfl
    have hYi : ∀ (h : i < Y.size), Y[i] = y[i] := fun h => by
     have := HYY.out
     subst this
     rfl
    have HXI := Lib.hid hXi
    have HYI := Lib.hid hYi
    clear hXi hYi
    have HS := Lib.hid (less_step x y i h1 h2)
    go_wp2_with fail
    go_quiet (fail)
    go_wp2_with (go_quiet (fail))
    ·rename_i _ hne
     go_ret
     refine ⟨rt1 (vbool ?_), below_drewN' (below_drewN' HW.out _) _⟩
     rw [← HB.out, HS.out]
     rw [HXI.out, HYI.out] at hne ⊢
     have : (x[i] == y[i]) = false := by
      rw [beq_eq_false_iff_ne]
      intro h
      rw [h] at hne
      simp at hne
     rw [this]
     simp
    ·rename_i hne
     rw [HXI.out, HYI.out] at hne
     have he : x[i] = y[i] := UInt8.toNat_inj.1 (Int.ofNat_inj.1 (bne_eq_false_iff_eq.1 hne))
     refine ⟨⟨i + 1, by omega, by omega, by simp, ?_, below_drewN' HW.out _⟩, ?_⟩
     ·show Op.bytesLess _ _ = _
      rw [← HB.out, HS.out, he]
      simp
     ·simp [intOf]; omega
   ·have HS := Lib.hid (show Op.bytesLess (x.drop i) (y.drop i) = decide (x.length < y.length) by
     have := HXX
     rw [List.drop_eq_nil_of_le (show y.length ≤ i by omega), List.drop_eq_getElem_cons h1]
     simp [Op.bytesLess]; omega)
    go_wp2_with fail
    go_ret
    exact ⟨rt1 (vbool (by rw [← HB.out, HS.out])), HW.out⟩
  ·have HS := Lib.hid (show Op.bytesLess (x.drop i) (y.drop i) = decide (x.length < y.length) by
    rw [List.drop_eq_nil_of_le (show x.length ≤ i by omega)]
    by_cases h2 : i < y.length
    ·rw [List.drop_eq_getElem_cons h2]
     simp [Op.bytesLess]; omega
    ·rw [List.drop_eq_nil_of_le (show y.length ≤ i by omega)]
     simp [Op.bytesLess]; omega)
   go_wp2_with fail
   go_ret
   exact ⟨rt1 (vbool (by rw [← HB.out, HS.out])), HW.out⟩
theorem bytesLess_lt : ∀ a b : Wd, Op.bytesLess a b = true ↔ a < b
 |[], [] => by simp [Op.bytesLess]
 |[], b :: lb => by simp [Op.bytesLess]
 |a :: la, [] => by simp [Op.bytesLess]
 |a :: la, b :: lb => by
  rw [List.cons_lt_cons_iff, Op.bytesLess]
  simp only [Bool.or_eq_true, Bool.and_eq_true, decide_eq_true_eq, beq_iff_eq, bytesLess_lt la lb, UInt8.lt_iff_toNat_lt]
end Go.Proofs.YthojelhpipmkiaaGreatDoor
namespace Go.Proofs.YthojelhpipmkiaaGreatDoor
open Go.RowKit

theorem str_app16 : AppTy Tryz.prog 22 9 1 16 (.string ⟨#[]⟩) := appTy (by kernel_rfl) (by kernel_rfl) rfl (by omega)
theorem wcells_app (a b : List Wd) : wcells (a ++ b) = wcells a ++ wcells b := List.map_append ..
theorem wcells_take (l : List Wd) (k : Nat) : wcells (l.take k) = (wcells l).take k := List.map_take ..
theorem wcells_drop (l : List Wd) (k : Nat) : wcells (l.drop k) = (wcells l).drop k := List.map_drop ..
def Sorted16To (l : List Wd) (stay : Nat) (w : World) (e : Ending) (w' : World) : Prop := ∃ v, e = .returned v ∧ w'.ownsRow w.heap.size 9 1 v l.length (wcells (l.take stay ++ sortW (l.drop stay))) ∧ Below w.heap.size w w'
structure DownTo (l out : List Wd) (stay i a : Nat) : Prop where
 le : a ≤ i
 st : stay ≤ i → stay ≤ a
 no : i ≤ stay → a = i
 gt : ∀ (j : Nat) (h : j < out.length) (h2 : i < l.length), a ≤ j → l[i] < out[j]
theorem DownTo.place {l out : List Wd} {stay i a : Nat} (h : DownTo l out stay i a) (hl : out.length = i) (hi : i < l.length) : PlaceTo out stay l[i] a :=
 ⟨by rw [hl]; exact h.le, fun hs => by rw [hl] at hs ⊢; exact h.no hs, fun hs => h.st (by rw [hl] at hs; exact hs), fun j hj ha => h.gt j hj hi ha⟩
theorem DownTo.next {l out : List Wd} {stay i a : Nat} (h : DownTo l out stay i a) (hl : out.length = i) (hi : i < l.length) (hs : stay < a) (ho : a - 1 < out.length) (hlt : l[i] < out[a - 1]) : DownTo l out stay i (a - 1) :=
 ⟨by have := h.le; omega, fun _ => by omega, fun h2 => by have := h.no h2; omega, fun j hj h2 ha => by
  by_cases e : j = a - 1
  ·subst e; exact hlt
  ·exact h.gt j hj h2 (by omega)⟩
set_option maxRecDepth 100000 in
set_option maxHeartbeats 16000000 in
theorem sorted16_any (v : Value) (l : List Wd) (stay : Nat) (w : World) (h : SlR eW w w.heap.size v l) (hn : l.length ≤ 1048576) (hst : stay ≤ 1) :
  Calls Tryz.prog 43 #[v, .int .i64 stay] w (Sorted16To l stay w) := by
 obtain ⟨A1, c1, rfl, ha1, ha2⟩ := h.form
 unfold maxLen at ha2
 have H := Lib.hid h
 have HF := Lib.hid h.fits
 clear h
 obtain ⟨n, hnn⟩ : ∃ n, n = l.length := ⟨_, rfl⟩
 rw [← hnn] at H ha1 hn
 have HN := Lib.hid hnn
 unfold Sorted16To
 rw [← hnn]
 clear hnn
 obtain ⟨S, hS⟩ : ∃ S, S = w.heap.size := ⟨_, rfl⟩
 rw [← hS] at H ⊢
 have HS := Lib.hid hS
 clear hS
 go_enter Tryz.func43, Tryz.ntmps43
 go_wp2_with fail
 have HI0 := Lib.hid (InsTo.zero l stay)
 have HB0 := Lib.hid (show Below S w w from Below.refl _ _)
 have HO0 := Lib.hid (show w.ownsRow S 9 1 (.slice none 0 0) ([] : List Wd).length (wcells []) from World.ownsRow_nil _ _ _ _)
 have HZ0 := Lib.hid (show S ≤ w.heap.size by rw [HS.out]; exact Nat.le_refl _)
 go_loopw [5, 6] (fun v5 v6 wr => ∃ (i : Nat) (out : List Wd), i ≤ n ∧ v6 = .int .i64 i ∧ Hid (InsTo l stay i out) ∧ Hid (wr.ownsRow S 9 1 v5 out.length (wcells out)) ∧ Hid (Below S w wr) ∧ Hid (S ≤ wr.heap.size)) (fun _ v6 _ => n - (intOf v6).toNat)
 case atStart => exact ⟨0, [], by omega, rfl, HI0.out, HO0.out, HB0.out, HZ0.out⟩
 case round =>
  clear HI0 HB0 HO0 HZ0
  obtain ⟨i, out, hi, rfl, HI, HO, HB, HZ⟩ := hrel
  by_cases hlt : i < n
  ·have hil : i < l.length := by rw [← HN.out]; exact hlt
   have hol : out.length = i := HI.out.len (Nat.le_of_lt hil)
   have HOL := Lib.hid hol
   obtain ⟨A5, c5, hv5, hc51, hc52⟩ := own_form HO.out
   rw [hol] at hv5 hc51 HO
   subst hv5
   unfold maxLen at hc52
   clear hol
   obtain ⟨b, off, rfl, _, hb, hcw⟩ := (H.out.below HB.out).wd hil
   have HFX := Lib.hid (HF.out l[i] (List.getElem_mem hil))
   have HDN := Lib.hid (show DownTo l out stay i i from ⟨Nat.le_refl _, fun h => h, fun _ => rfl, fun j hj _ ha => by have := HOL.out; omega⟩)
   have HSU := Lib.hid (fun (a : Nat) (hd : DownTo l out stay i a) (hx : a ≤ stay ∨ ∃ h : a - 1 < out.length, ¬ l[i] < out[a - 1]) => HI.out.succ hil (hd.place HOL.out hil) hx)
   have HNX := Lib.hid (fun (a : Nat) (hd : DownTo l out stay i a) (hs : stay < a) (ho : a - 1 < out.length) (hlt : l[i] < out[a - 1]) => hd.next HOL.out hil hs ho hlt)
   obtain ⟨x, hx⟩ : ∃ x, x = l[i] := ⟨_, rfl⟩
   rw [← hx] at hcw HFX HSU HNX
   clear hx
   go_wp2_with fail
   have HRD := Lib.hid (show Rd wr wr.heap.size A5 (wcells out) from Rd.of_own HO.out)
   generalize wr = wo at *
   have HBI := Lib.hid (Below.refl wo.heap.size wo)
   go_loopw [7] (fun v7 wr => ∃ a : Nat, v7 = .int .i64 a ∧ Hid (DownTo l out stay i a) ∧ a ≤ i ∧ Hid (Below wo.heap.size wo wr)) (fun v7 _ => (intOf v7).toNat)
   case atStart => exact ⟨i, rfl, HDN.out, Nat.le_refl _, HBI.out⟩
   case round =>
    clear HDN HBI
    obtain ⟨a, rfl, HDN, hai, HBI⟩ := hrel
    have hcwr : wr.cell? ⟨b, off + i, none⟩ = some (wv x) := by rw [HBI.out.cell (p := ⟨b, off + i, none⟩) (by show b < _; have := HZ.out; omega)]; exact hcw
    by_cases hsa : stay < a
    focus
     have hal : a - 1 < out.length := by have := HOL.out; omega
     obtain ⟨b2, o2, rfl, _, hc2⟩ := (HRD.out.below HBI.out).at_ (k := a - 1) (by rw [wcells_len]; exact hal)
     have hc2' : wr.cell? ⟨b2, o2 + (a - 1), none⟩ = some (wv out[a - 1]) := by rw [hc2]; simp [wcells]
     clear hc2
     have HNX2 := Lib.hid (fun h : x < out[a - 1] => HNX.out a HDN.out hsa hal h)
     have HSU2 := Lib.hid (fun h : ¬ x < out[a - 1] => HSU.out a HDN.out (.inr ⟨hal, h⟩))
     have HFY := Lib.hid (show out[a - 1].length ≤ maxLen from HF.out _ (List.mem_of_mem_take ((HI.out.perm.mem_iff).1 (List.getElem_mem hal))))
     generalize out[a - 1] = y at *
     have d0 : decide ((stay : Int) < (a : Int)) = true := by simp; omega
     have e1 : (a : Int) - 1 = ((a - 1 : Nat) : Int) := by omega
     have hak : a - 1 < i := by omega
     have HLS := Lib.hid (less09_any x y wr.drew HFX.out HFY.out)
     have HBD := Lib.hid (show Below wo.heap.size wo wr.drew from HBI.out.drew)
     by_cases hxy : x < y
     focus
      have HNX3 := Lib.hid (HNX2.out hxy)
      rw [(bytesLess_lt x y).2 hxy] at HLS
      clear HNX2 HSU2 hxy
      go_wp2_with fail
      refine Text.wp_text [] (by kernel_rfl) (by kernel_rfl) (fun Q' hQ' => ?_)
      go_wp2_with fail
      refine HLS.out.mono ?_
      rintro e w3 ⟨rfl, hb3⟩
      have HB3 := Lib.hid (HBD.out.trans (hb3.mono HBD.out.size))
      clear hb3
      go_wp2_with fail
      refine ⟨by rfl, ?_⟩
      go_wp2_with fail
      go_roundw
      case rel => exact ⟨a - 1, by go_num, HNX3.out, by omega, HB3.out⟩
      case measure => simp [intOf]; omega
     have HSU3 := Lib.hid (HSU2.out hxy)
     have hbl : Op.bytesLess x y = false := by
      cases hbl : Op.bytesLess x y with
      |false => rfl
      |true => exact absurd ((bytesLess_lt x y).1 hbl) hxy
     rw [hbl] at HLS
     clear HNX2 HSU2 hxy hbl
     go_wp2_with fail
     refine Text.wp_text [] (by kernel_rfl) (by kernel_rfl) (fun Q' hQ' => ?_)
     go_wp2_with fail
     refine HLS.out.mono ?_
     rintro e w3 ⟨rfl, hb3⟩
     have HB3 := Lib.hid (HBD.out.trans (hb3.mono HBD.out.size))
     clear hb3
     go_wp2_with fail
     refine ⟨by rfl, ?_⟩
     obtain ⟨A5, hA5⟩ : ∃ A5, A5 = (some ⟨b2, o2, none⟩ : Option Addr) := ⟨_, rfl⟩
     rw [← hA5] at HO HRD ⊢
     clear hA5 hc2' HBD HLS d0 e1 hak hal HDN hcwr HBI HFY
    rotate_left
    focus
     have HSU3 := Lib.hid (HSU.out a HDN.out (.inl (by omega)))
     have d0 : decide ((stay : Int) < (a : Int)) = false := by simp; omega
     have HB3 := Lib.hid (show Below wo.heap.size wo wr.drew from HBI.out.drew)
     go_wp2_with fail
     refine Text.wp_text [] (by kernel_rfl) (by kernel_rfl) (fun Q' hQ' => ?_)
     go_wp2_with fail
     refine ⟨by rfl, ?_⟩
     clear d0 HDN hcwr HBI
     generalize wr.drew = w3 at *
    rotate_left
    all_goals
     have HR3 := Lib.hid (HRD.out.below HB3.out)
     have HZ3 := Lib.hid HB3.out.size
     have hcx : w3.cell? ⟨b, off + i, none⟩ = some (wv x) := by rw [HB3.out.cell (p := ⟨b, off + i, none⟩) (by show b < _; have := HZ.out; omega)]; exact hcw
     have hac : a ≤ c5 := by omega
     have HB4 := Lib.hid ((Below.refl w3.heap.size w3).alloc (Nat.le_refl _) (.cells #[] 9))
     have HO4 := Lib.hid (show (w3.alloc (.cells #[] 9)).ownsRow w3.heap.size 9 1 (.slice (some ⟨w3.heap.size, 0, none⟩) 0 0) 0 [] from ⟨rfl, .inr ⟨w3.heap.size, 0, #[], rfl, Nat.le_refl _, Go.heap_alloc_new w3 _, Nat.le_refl _, by simp [maxLen], rfl, rfl⟩⟩)
     have HR4 := Lib.hid (HR3.out.below (HB4.out.mono HZ3.out))
     have HT4 := Lib.hid (show ((wcells out).take a).length = a * 1 from by rw [List.length_take, wcells_len]; have := HOL.out; omega)
     go_wp2_with (at_builtin; refine wpList_app (m := a) str_app16 rfl rfl rfl rfl HO4.out (HR4.out.take_ a) HT4.out (fun u hu => wcells_one _ u (List.mem_of_mem_take hu)) ?h63 ?hby ?hbase ?_)
     case h63 => simp only [maxLen]; omega
     case hby => omega
     case hbase => exact HB4.out.size
     intro v8 w5 hown5 hg5 _ _
     have HB5 := Lib.hid (grown_below HB4.out hg5 HO4.out (Nat.le_refl _) HB4.out.size)
     obtain ⟨A8, c8, hv8, _, _⟩ := own_form hown5
     subst hv8
     have HO5 := Lib.hid hown5
     clear hown5 hg5 HO4 HR4
     generalize w3.alloc (.cells #[] 9) = w4 at *
     have hcx5 : w5.cell? ⟨b, off + i, none⟩ = some (wv x) := by rw [HB5.out.cell (p := ⟨b, off + i, none⟩) (by show b < _; have := HZ.out; have := HZ3.out; omega)]; exact hcx
     have HB6 := Lib.hid ((Below.refl w5.heap.size w5).alloc (Nat.le_refl _) (.cells #[wv x] 9))
     have HNEW := Lib.hid (Go.heap_alloc_new w5 (.cells #[wv x] 9))
     have HZ5 := Lib.hid HB5.out.size
     have HO6 := Lib.hid (own_below HO5.out HB6.out)
     clear hcx
     go_wp2_with (at_builtin; refine wpList_app (m := 1) str_app16 rfl rfl rfl rfl HO6.out (Rd.row (B := w5.heap.size + 1) HNEW.out (Nat.lt_succ_self _)) rfl (by intro u hu; simp at hu; subst hu; rfl) ?h63 ?hby ?hbase ?_)
     case h63 => simp only [maxLen]; omega
     case hby => omega
     case hbase => have := HZ5.out; have := HB6.out.size; omega
     intro v9 w7 hown7 hg7 _ _
     have HB7 := Lib.hid (grown_below (HB5.out.trans (HB6.out.mono HZ5.out)) hg7 HO6.out (Nat.le_refl _) (by have := HZ5.out; have := HB6.out.size; omega))
     obtain ⟨A9, c9, hv9, _, _⟩ := own_form hown7
     subst hv9
     have HO7 := Lib.hid hown7
     clear hown7 hg7 HO6 hcx5
     generalize w5.alloc (.cells #[wv x] 9) = w6 at *
     have HR7 := Lib.hid ((HR3.out.below (HB7.out.mono HZ3.out)).drop_ a (cap := c5) (by rw [wcells_len]; have := HOL.out; omega))
     have HT7 := Lib.hid (show ((wcells out).drop a).length = (i - a) * 1 from by rw [List.length_drop, wcells_len]; have := HOL.out; omega)
     have HZ7 := Lib.hid HB7.out.size
     by_cases hcap : c5 = a
     ·skip
      have hai2 : i - a = 0 := by omega
      have hce : c5 - a = 0 := by omega
      have HD0 := Lib.hid (show (wcells out).drop a = [] from List.drop_eq_nil_of_le (by rw [wcells_len]; have := HOL.out; omega))
      rw [HD0.out] at HT7
      subst hcap
      go_wp2_with (at_builtin; go_loud (refine wpList_app (m := 0) (B := 0) (news := []) str_app16 rfl rfl rfl rfl HO7.out Rd.nil_ rfl (by simp) (by simp only [maxLen]; omega) (by omega) HZ7.out ?_))
      intro v10 w8 hown8 hg8 _ _
      have HB8 := Lib.hid (grown_below HB7.out hg8 HO7.out (Nat.le_refl _) HZ7.out)
      have HNO := Lib.hid (show w8.ownsRow S 9 1 v10 (out.take c5 ++ x :: out.drop c5).length (wcells (out.take c5 ++ x :: out.drop c5)) from by
       have e : wcells (out.take c5 ++ x :: out.drop c5) = (wcells out).take c5 ++ wv x :: (wcells out).drop c5 := by
        rw [wcells_app, wcells_take]
        congr 1
        show wv x :: wcells (out.drop c5) = _
        rw [wcells_drop]
       have el : (out.take c5 ++ x :: out.drop c5).length = i + 1 := by
        rw [List.length_append, List.length_cons, List.length_take, List.length_drop]
        have := HOL.out
        omega
       rw [e, el]
       rw [HD0.out, show i + 1 = c5 + 1 by omega]
       exact own_more hown8 (Nat.le_trans HZ.out HZ3.out))
      have HNB := Lib.hid (show Below S w w8 from HB.out.trans ((HB3.out.trans (HB8.out.mono HZ3.out)).mono HZ.out))
      have HNZ := Lib.hid (show S ≤ w8.heap.size from Nat.le_trans HZ.out (Nat.le_trans HZ3.out HB8.out.size))
      clear hown8 hg8
      go_wp2_with fail
      go_roundw
      case rel => exact ⟨i + 1, _, by omega, by go_num, HSU3.out, HNO.out, HNB.out, HNZ.out⟩
      case measure => simp [intOf]; omega
     ·skip
      have HRb := Lib.hid (show Rd w7 wo.heap.size (A5.map (·.add a)) ((wcells out).drop a) from by have := HR7.out; rwa [if_neg hcap] at this)
      go_wp2_with (at_builtin; go_loud (refine wpList_app (m := i - a) str_app16 rfl rfl rfl rfl HO7.out HRb.out HT7.out (fun u hu => wcells_one _ u (List.mem_of_mem_drop hu)) (by simp only [maxLen]; omega) (by omega) HZ7.out ?_))
      intro v10 w8 hown8 hg8 _ _
      have HB8 := Lib.hid (grown_below HB7.out hg8 HO7.out (Nat.le_refl _) HZ7.out)
      have HNO := Lib.hid (show w8.ownsRow S 9 1 v10 (out.take a ++ x :: out.drop a).length (wcells (out.take a ++ x :: out.drop a)) from by
       have e : wcells (out.take a ++ x :: out.drop a) = (wcells out).take a ++ wv x :: (wcells out).drop a := by
        rw [wcells_app, wcells_take]
        congr 1
        show wv x :: wcells (out.drop a) = _
        rw [wcells_drop]
       have el : (out.take a ++ x :: out.drop a).length = i + 1 := by
        rw [List.length_append, List.length_cons, List.length_take, List.length_drop]
        have := HOL.out
        omega
       rw [e, el]
       rw [show a + 1 + (i - a) = i + 1 by omega] at hown8
       exact own_more hown8 (Nat.le_trans HZ.out HZ3.out))
      have HNB := Lib.hid (show Below S w w8 from HB.out.trans ((HB3.out.trans (HB8.out.mono HZ3.out)).mono HZ.out))
      have HNZ := Lib.hid (show S ≤ w8.heap.size from Nat.le_trans HZ.out (Nat.le_trans HZ3.out HB8.out.size))
      clear hown8 hg8
      go_wp2_with fail
      go_roundw
      case rel => exact ⟨i + 1, _, by omega, by go_num, HSU3.out, HNO.out, HNB.out, HNZ.out⟩
      case measure => simp [intOf]; omega
  ·obtain rfl : i = n := by omega
   have HRES := Lib.hid (show wr.ownsRow S 9 1 u5 i (wcells (l.take stay ++ sortW (l.drop stay))) from by
    have h1 := HI.out
    rw [HN.out] at h1
    have h2 := HO.out
    rw [h1.len (Nat.le_refl _), h1.done] at h2
    rw [HN.out]
    exact h2)
   go_wp2_with fail
   go_ret
   exact ⟨_, rfl, HRES.out, HB.out⟩
end Go.Proofs.YthojelhpipmkiaaGreatDoor
