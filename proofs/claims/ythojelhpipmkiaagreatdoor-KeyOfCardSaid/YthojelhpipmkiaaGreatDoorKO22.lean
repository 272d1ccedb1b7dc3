import Derived.Test.YthojelhpipmkiaaGreatDoorKO21
import Derived.Test.YthojelhpipmkiaaGreatDoorKO06
import Derived.Deep.LoopGhost
import Derived.Deep.DeepCutAuto
namespace Go.Proofs.YthojelhpipmkiaaGreatDoor
open Go.RowKit

theorem any_take {α : Type} {p : α → Bool} {l : List α} {i : Nat} (h : i < l.length) : (l.take (i + 1)).any p = ((l.take i).any p || p l[i]) := by
 rw [List.take_succ_eq_append_getElem h, List.any_append]
 simp
set_option maxRecDepth 100000 in
set_option maxHeartbeats 16000000 in
theorem valid14_any {A1 A2 A3 : Option Addr} {n m q c1 c2 c3 : Nat} {g : Gram} (w : World) (h : GramR w w.heap.size A1 A2 A3 n m q c1 c2 c3 g) :
  Calls Tryz.prog 14 #[gramV A1 A2 A3 n m q c1 c2 c3] w fun e w' => e = .returned (.bool (gramB g)) ∧ Below w.heap.size w w' := by
 have hbx := (Below.refl w.heap.size w).alloc (Nat.le_refl _) (.cells #[.slice A1 n c1, .slice A2 m c2, .slice A3 q c3] 25)
 have HV := Lib.hid ((h.fut (B' := w.heap.size) hbx (Nat.le_refl _) (Nat.le_refl _)))
 have HK := Lib.hid (Go.heap_alloc_new w (.cells #[.slice A1 n c1, .slice A2 m c2, .slice A3 q c3] 25))
 have HZ := Lib.hid (World.size_alloc w (.cells #[.slice A1 n c1, .slice A2 m c2, .slice A3 q c3] 25))
 have HBX := Lib.hid hbx
 have HL := Lib.hid h.ln
 have hsm := h.small
 obtain ⟨ns, ts, rs⟩ := g
 have HIFF := Lib.hid (gramB_iff ns ts rs)
 have HCELL : Hid (∀ (w2 : World), w2.heap[w.heap.size]? = some (.cells #[.slice A1 n c1, .slice A2 m c2, .slice A3 q c3] 25 (0, 0)) → w2.cell? ⟨w.heap.size, 0, none⟩ = some (.slice A1 n c1) ∧ w2.cell? ⟨w.heap.size, 1, none⟩ = some (.slice A2 m c2) ∧ w2.cell? ⟨w.heap.size, 2, none⟩ = some (.slice A3 q c3)) := fun w2 hk => ⟨by rw [cell_of_row _ _ _ _ _ _ hk]; rfl, by rw [cell_of_row _ _ _ _ _ _ hk]; rfl, by rw [cell_of_row _ _ _ _ _ _ hk]; rfl⟩
 clear h hbx
 obtain ⟨G, hG⟩ : ∃ G, G = gramB (ns, ts, rs) := ⟨_, rfl⟩
 rw [← hG] at HIFF ⊢
 clear hG
 have HBAD := Lib.hid (show ¬ (ns.length ≠ 0 ∧ ns.length + ts.length ≤ 256 ∧ rs.length ≤ 4096 ∧ (∀ j, NameAt ns rs j) ∧ (∀ j, TermAt ts j) ∧ (∀ (j : Nat) (h : j < rs.length), fitsB ns.length ts.length rs[j] = true) ∧ rs.Nodup) → G = false from fun hn => by
  rw [← Bool.not_eq_true]
  exact fun h => hn (HIFF.out.1 h))
 have hcase : n < 1 ∨ (1 ≤ n ∧ 256 < n + m) ∨ (1 ≤ n ∧ n + m ≤ 256 ∧ 4096 < q) ∨ (1 ≤ n ∧ n + m ≤ 256 ∧ q ≤ 4096) := by omega
 rcases hcase with hc | ⟨hc1, hc2⟩ | ⟨hc1, hc2, hc3⟩ | ⟨hc1, hc2, hc3⟩
 ·have d1 : decide ((n : Int) < 1) = true := by simp; omega
  have HF := Lib.hid (HBAD.out fun h => by have := h.1; have := HL.out.1; simp only at *; omega)
  clear hc
  go_enter Tryz.func14, Tryz.ntmps14
  go_wp2_with fail
  go_ret
  exact ⟨rt1 (vbool HF.out.symm), HBX.out⟩
 ·have d1 : decide ((n : Int) < 1) = false := by simp; omega
  have d2 : decide ((256 : Int) < (n : Int) + (m : Int)) = true := by simp; omega
  have HF := Lib.hid (HBAD.out fun h => by have := h.2.1; have := HL.out.1; have := HL.out.2.1; simp only at *; omega)
  clear hc1 hc2
  go_enter Tryz.func14, Tryz.ntmps14
  go_wp2_with fail
  go_ret
  exact ⟨rt1 (vbool HF.out.symm), HBX.out⟩
 ·have d1 : decide ((n : Int) < 1) = false := by simp; omega
  have d2 : decide ((256 : Int) < (n : Int) + (m : Int)) = false := by simp; omega
  have d3 : decide ((4096 : Int) < (q : Int)) = true := by simp; omega
  have HF := Lib.hid (HBAD.out fun h => by have := h.2.2.1; have := HL.out.2.2; simp only at *; omega)
  clear hc1 hc2 hc3
  go_enter Tryz.func14, Tryz.ntmps14
  go_wp2_with fail
  go_ret
  exact ⟨rt1 (vbool HF.out.symm), HBX.out⟩
 ·have d1 : decide ((n : Int) < 1) = false := by simp; omega
  have d2 : decide ((256 : Int) < (n : Int) + (m : Int)) = false := by simp; omega
  have d3 : decide ((4096 : Int) < (q : Int)) = false := by simp; omega
  have HSZ := Lib.hid (show ns.length ≠ 0 ∧ ns.length + ts.length ≤ 256 ∧ rs.length ≤ 4096 from by have := HL.out.1; have := HL.out.2.1; have := HL.out.2.2; simp only at *; omega)
  clear hc1 hc2 hc3
  go_enter Tryz.func14, Tryz.ntmps14
  go_wp2_with fail
  generalize w.alloc (.cells #[.slice A1 n c1, .slice A2 m c2, .slice A3 q c3] 25) = w1 at *
  have HW1 := Lib.hid (show Below (w.heap.size + 1) w1 w1 from Below.refl _ _)
  go_loopg [3] n (fun left v3 wr => ∃ i : Nat, i ≤ n ∧ n - i ≤ left ∧ v3 = .int .i64 i ∧ Hid (Below (w.heap.size + 1) w1 wr) ∧ Hid (∀ j, j < i → NameAt ns rs j))
  case atStart => exact ⟨0, by omega, by omega, rfl, HW1.out, fun j hj => by omega⟩
  case round =>
   clear HW1
   obtain ⟨i, hi, hleft, rfl, HB, HPN⟩ := hrel
   obtain ⟨gas, hgas⟩ : ∃ gas, gas = gk := ⟨_, rfl⟩
   rw [← hgas] at hleft
   have HGK := Lib.hid hgas
   clear hgas
   generalize wr = wo at *
   have HKO := Lib.hid ((HB.out.block w.heap.size (by omega)).trans HK.out)
   obtain ⟨a0, a1, a2⟩ := HCELL.out wo HKO.out
   have hbs : w.heap.size + 1 ≤ wo.heap.size := by have := HB.out.size; have := HZ.out; omega
   by_cases hib : i < n
   ·have hil : i < ns.length := by have := HL.out.1; omega
    obtain ⟨b1, o1, cs, he1, -, hb1, hrep, hcell⟩ := (HV.out.names.below (HB.out.mono (Nat.le_succ _))).get (k := i) hil (by decide)
    obtain ⟨rfl, hx1⟩ := hrep
    have x0 := hcell 0 _ rfl
    simp only [show eStr.size = 1 from rfl, Nat.mul_one, Nat.add_zero] at x0
    subst he1
    have HSL := Lib.hid (HV.out.names.fut (B' := wo.heap.size) (HB.out.mono (Nat.le_succ _)) (Nat.le_refl _) (by omega))
    have HNM := Lib.hid (fun w' => name12_any ns[i] w' hx1)
    have HFD := Lib.hid (fun w' (hb : Below wo.heap.size wo w') => find14_any _ ns ns[i] w' (HSL.out.next hb hb.size))
    have HPI := Lib.hid (show NameAt ns rs i → _ from fun h => h hil)
    obtain ⟨fi, hfi⟩ : ∃ fi, fi = idxOf (fun x => decide (x = ns[i])) ns := ⟨_, rfl⟩
    obtain ⟨bn, hbn⟩ : ∃ bn, bn = isNameB ns[i].data.toList := ⟨_, rfl⟩
    have HIMP := Lib.hid (show NameAt ns rs i → bn = true ∧ fi = (i : Int) from fun h => by
     have := h hil
     rw [← hbn, ← hfi] at this
     exact ⟨this.1, this.2.1⟩)
    have HMAK := Lib.hid (show bn = true → fi = (i : Int) → (∃ r ∈ rs, r.1 = (i : Int)) → NameAt ns rs i from fun h1 h2 h3 h => by
     rw [← hbn, ← hfi]
     exact ⟨h1, h2, h3⟩)
    have HRUL := Lib.hid (show NameAt ns rs i → ∃ r ∈ rs, r.1 = (i : Int) from fun h => (h hil).2.2)
    rw [← hbn] at HNM
    rw [← hfi] at HFD
    obtain ⟨s, hs⟩ : ∃ s, s = ns[i] := ⟨_, rfl⟩
    rw [← hs] at x0 HNM HFD
    clear hs hfi hbn hcell hil hx1 HPI
    cases bn with
    |false =>
     have HF := Lib.hid (HBAD.out fun h => by have := (HIMP.out (h.2.2.2.1 i)).1; cases this)
     go_wp2_with fail
     refine Text.wp_grow [5, 15] [1, 4, 9, 11, 14] [] (by kernel_rfl) (by kernel_rfl) ?_
     refine Text.wpS_seg 5 _ _ _ _ (by decide) (fun Q' hQ' => ?_)
     simp only [List.take_succ_cons, List.take_zero]
     go_wp2_with fail
     try simp only [Nat.zero_add, List.drop_succ_cons, List.drop_zero]
     refine Text.wpS_one (fun Q' hQ' => ?_)
     go_wp2_with fail
     refine (HNM.out _).mono ?_
     rintro e w5 ⟨rfl, rfl⟩
     go_wp2_with fail
     refine ⟨Below.refl _ _, ?_⟩
     refine Text.wpS_seg 9 _ _ _ _ (by decide) (fun Q' hQ' => ?_)
     simp only [List.take_succ_cons, List.take_zero]
     go_wp2_with fail
     try simp only [List.drop_succ_cons, List.drop_zero]
     refine Text.wpS_one (fun Q' hQ' => ?_)
     go_wp2_with fail
     refine ⟨Below.refl _ _, ?_⟩
     refine Text.wpS_seg 3 _ _ _ _ (by decide) (fun Q' hQ' => ?_)
     simp only [List.take_succ_cons, List.take_zero]
     go_wp2_with fail
     refine ⟨by rfl, ?_, ?_⟩
     ·exact ⟨fun _ => ⟨_, _, rfl, a0⟩, fun _ => ⟨_, _, rfl, x0⟩, Text.no_want rfl, Text.no_want rfl, Text.no_want rfl, trivial⟩
     go_wp2_with fail
     go_ret
     exact ⟨rt1 (vbool HF.out.symm), HBX.out.trans (HB.out.drew.mono (Nat.le_succ _))⟩
    |true =>
     by_cases hfi : fi = (i : Int)
     ·have hq : (fi != (i : Int)) = false := by simp [hfi]
      go_wp2_with fail
      refine Text.wp_grow [5, 15] [1, 4, 9, 11, 14] [] (by kernel_rfl) (by kernel_rfl) ?_
      refine Text.wpS_seg 5 _ _ _ _ (by decide) (fun Q' hQ' => ?_)
      simp only [List.take_succ_cons, List.take_zero]
      go_wp2_with fail
      try simp only [Nat.zero_add, List.drop_succ_cons, List.drop_zero]
      refine Text.wpS_one (fun Q' hQ' => ?_)
      go_wp2_with fail
      refine (HNM.out _).mono ?_
      rintro e w5 ⟨rfl, rfl⟩
      go_wp2_with fail
      refine ⟨Below.refl _ _, ?_⟩
      refine Text.wpS_seg 9 _ _ _ _ (by decide) (fun Q' hQ' => ?_)
      simp only [List.take_succ_cons, List.take_zero]
      go_wp2_with fail
      try simp only [List.drop_succ_cons, List.drop_zero]
      refine Text.wpS_one (fun Q' hQ' => ?_)
      go_wp2_with fail
      refine (HFD.out _ below_drew1).mono ?_
      rintro e w5 ⟨rfl, rfl⟩
      go_wp2_with fail
      refine ⟨Below.refl _ _, ?_⟩
      refine Text.wpS_seg 3 _ _ _ _ (by decide) (fun Q' hQ' => ?_)
      simp only [List.take_succ_cons, List.take_zero]
      go_wp2_with fail
      refine ⟨by rfl, ?_, ?_⟩
      ·exact ⟨fun _ => ⟨_, _, rfl, a0⟩, fun _ => ⟨_, _, rfl, x0⟩, fun _ => ⟨_, _, rfl, a0⟩, fun _ => ⟨_, _, rfl, a0⟩, fun _ => ⟨_, _, rfl, x0⟩, trivial⟩
      have HB6 := Lib.hid (HB.out.drew)
      have HKW := Lib.hid (show wo.drew.heap[w.heap.size]? = _ from HKO.out)
      clear a0 a1 a2 x0 hq
      go_wp2_with fail
      generalize wo.drew = wp at *
      go_loopg [4, 5] q (fun lft2 v4 v5 wt => ∃ j : Nat, j ≤ q ∧ q - j ≤ lft2 ∧ v5 = .int .i64 j ∧ v4 = .bool ((rs.take j).any fun r => decide (r.1 = (i : Int))) ∧ wt = wp)
      case atStart => exact ⟨0, by omega, by omega, rfl, rfl, rfl⟩
      case round =>
       obtain ⟨j, hj, hlft2, rfl, rfl, rfl⟩ := hrel
       obtain ⟨a0, a1, a2⟩ := HCELL.out wr HKW.out
       by_cases hjq : j < q
       ·have hjl : j < rs.length := by have := HL.out.2.2; omega
        obtain ⟨b2, o2, cs2, he2, -, -, hrep2, hcell2⟩ := (HV.out.rules.below (HB6.out.mono (Nat.le_succ _))).get (k := j) hjl (by decide)
        obtain ⟨v2, rfl, -, -, -⟩ := eRule_open hrep2
        have y0 := hcell2 0 _ rfl
        simp only [show eRule.size = 2 from rfl, Nat.add_zero] at y0
        subst he2
        have HAT := Lib.hid (any_take (p := fun r : Int × List Int => decide (r.1 = (i : Int))) hjl)
        obtain ⟨lf, hlf⟩ : ∃ lf, lf = rs[j].1 := ⟨_, rfl⟩
        rw [← hlf] at y0 HAT
        obtain ⟨bb, hbb⟩ : ∃ bb, bb = (rs.take j).any fun r => decide (r.1 = (i : Int)) := ⟨_, rfl⟩
        rw [← hbb] at HAT ⊢
        clear hlf hbb hcell2 hrep2 hjl
        by_cases hll : lf = (i : Int)
        ·have hq : (lf == (i : Int)) = true := by simp [hll]
         have HX := Lib.hid (show ((rs.take (j + 1)).any fun r => decide (r.1 = (i : Int))) = true by rw [HAT.out]; simp [hll])
         clear hll
         go_wp2_with fail
         go_roundg (gk - 1)
         case measure => omega
         case rel => exact ⟨j + 1, by omega, by omega, by go_num, by rw [HX.out], rfl⟩
        ·have hq : (lf == (i : Int)) = false := by simp [hll]
         have HX := Lib.hid (show ((rs.take (j + 1)).any fun r => decide (r.1 = (i : Int))) = bb by rw [HAT.out]; simp [hll])
         clear hll
         go_wp2_with fail
         go_roundg (gk - 1)
         case measure => omega
         case rel => exact ⟨j + 1, by omega, by omega, by go_num, by rw [HX.out], rfl⟩
       ·have HALL := Lib.hid (show ((rs.take j).any fun r => decide (r.1 = (i : Int))) = rs.any fun r => decide (r.1 = (i : Int)) by
         rw [List.take_of_length_le (by have := HL.out.2.2; omega)])
        rw [HALL.out]
        obtain ⟨ba, hba⟩ : ∃ ba, ba = rs.any fun r => decide (r.1 = (i : Int)) := ⟨_, rfl⟩
        rw [← hba]
        have HBA := Lib.hid hba
        clear hba
        cases ba with
        |false =>
         have HF := Lib.hid (HBAD.out fun h => by
          obtain ⟨r, hr, he⟩ := HRUL.out (h.2.2.2.1 i)
          have := List.any_eq_false.1 HBA.out.symm r hr
          simp [he] at this)
         go_wp2_with fail
         go_ret
         exact ⟨rt1 (vbool HF.out.symm), HBX.out.trans (HB6.out.mono (Nat.le_succ _))⟩
        |true =>
         have HNX := Lib.hid (HMAK.out (by trivial) hfi (by
          obtain ⟨r, hr, he⟩ := List.any_eq_true.1 HBA.out.symm
          exact ⟨r, hr, by simpa using he⟩))
         clear hfi
         go_wp2_with fail
         go_roundg (gas - 1)
         case measure => have := HGK.out; omega
         case rel => exact ⟨i + 1, by omega, by omega, by go_num, HB6.out, fun j hj => by by_cases e : j = i; (subst e; exact HNX.out); exact HPN.out j (by omega)⟩
     ·have hq : (fi != (i : Int)) = true := by simp [hfi]
      have HF := Lib.hid (HBAD.out fun h => hfi (HIMP.out (h.2.2.2.1 i)).2)
      clear hfi
      go_wp2_with fail
      refine Text.wp_grow [5, 15] [1, 4, 9, 11, 14] [] (by kernel_rfl) (by kernel_rfl) ?_
      refine Text.wpS_seg 5 _ _ _ _ (by decide) (fun Q' hQ' => ?_)
      simp only [List.take_succ_cons, List.take_zero]
      go_wp2_with fail
      try simp only [Nat.zero_add, List.drop_succ_cons, List.drop_zero]
      refine Text.wpS_one (fun Q' hQ' => ?_)
      go_wp2_with fail
      refine (HNM.out _).mono ?_
      rintro e w5 ⟨rfl, rfl⟩
      go_wp2_with fail
      refine ⟨Below.refl _ _, ?_⟩
      refine Text.wpS_seg 9 _ _ _ _ (by decide) (fun Q' hQ' => ?_)
      simp only [List.take_succ_cons, List.take_zero]
      go_wp2_with fail
      try simp only [List.drop_succ_cons, List.drop_zero]
      refine Text.wpS_one (fun Q' hQ' => ?_)
      go_wp2_with fail
      refine (HFD.out _ below_drew1).mono ?_
      rintro e w5 ⟨rfl, rfl⟩
      go_wp2_with fail
      refine ⟨Below.refl _ _, ?_⟩
      refine Text.wpS_seg 3 _ _ _ _ (by decide) (fun Q' hQ' => ?_)
      simp only [List.take_succ_cons, List.take_zero]
      go_wp2_with fail
      refine ⟨by rfl, ?_, ?_⟩
      ·exact ⟨fun _ => ⟨_, _, rfl, a0⟩, fun _ => ⟨_, _, rfl, x0⟩, fun _ => ⟨_, _, rfl, a0⟩, fun _ => ⟨_, _, rfl, a0⟩, fun _ => ⟨_, _, rfl, x0⟩, trivial⟩
      go_wp2_with fail
      go_ret
      exact ⟨rt1 (vbool HF.out.symm), HBX.out.trans (HB.out.drew.mono (Nat.le_succ _))⟩
   ·have HALLN := Lib.hid (show ∀ j, NameAt ns rs j from fun j => by
     by_cases h : j < i
     ·exact HPN.out j h
     ·intro h2
      have := HL.out.1
      try simp only at this
      omega)
    have HW1 := Lib.hid HB.out
    clear HPN HB hbs hleft HGK
    go_wp2_with fail
    generalize wo = wq at *
    go_loopg [6] m (fun left v6 wr => ∃ i : Nat, i ≤ m ∧ m - i ≤ left ∧ v6 = .int .i64 i ∧ Hid (Below (w.heap.size + 1) w1 wr) ∧ Hid (∀ j, j < i → TermAt ts j))
    case atStart => exact ⟨0, by omega, by omega, rfl, HW1.out, fun j hj => by omega⟩
    case round =>
     clear HW1
     obtain ⟨i, hi, hleft, rfl, HB, HPT⟩ := hrel
     obtain ⟨gas, hgas⟩ : ∃ gas, gas = gk := ⟨_, rfl⟩
     rw [← hgas] at hleft
     have HGK := Lib.hid hgas
     clear hgas
     generalize wr = wo at *
     have HKO := Lib.hid ((HB.out.block w.heap.size (by omega)).trans HK.out)
     obtain ⟨a0, a1, a2⟩ := HCELL.out wo HKO.out
     have hbs : w.heap.size + 1 ≤ wo.heap.size := by have := HB.out.size; have := HZ.out; omega
     by_cases hib : i < m
     ·have hil : i < ts.length := by have := HL.out.2.1; omega
      obtain ⟨b1, o1, cs, he1, -, hb1, hrep, hcell⟩ := (HV.out.terms.below (HB.out.mono (Nat.le_succ _))).get (k := i) hil (by decide)
      obtain ⟨rfl, hx1⟩ := hrep
      have x0 := hcell 0 _ rfl
      simp only [show eStr.size = 1 from rfl, Nat.mul_one, Nat.add_zero] at x0
      subst he1
      have HSL := Lib.hid (HV.out.terms.fut (B' := wo.heap.size) (HB.out.mono (Nat.le_succ _)) (Nat.le_refl _) (by omega))
      have HNM := Lib.hid (fun w' => term12_any ts[i] w' hx1)
      have HFD := Lib.hid (fun w' (hb : Below wo.heap.size wo w') => find14_any _ ts ts[i] w' (HSL.out.next hb hb.size))
      have HPI := Lib.hid (show TermAt ts i → _ from fun h => h hil)
      obtain ⟨fi, hfi⟩ : ∃ fi, fi = idxOf (fun x => decide (x = ts[i])) ts := ⟨_, rfl⟩
      obtain ⟨bn, hbn⟩ : ∃ bn, bn = isTermB ts[i].data.toList := ⟨_, rfl⟩
      have HIMP := Lib.hid (show TermAt ts i → bn = true ∧ fi = (i : Int) from fun h => by
       have := h hil
       rw [← hbn, ← hfi] at this
       exact ⟨this.1, this.2⟩)
      have HMAK := Lib.hid (show bn = true → fi = (i : Int) → TermAt ts i from fun h1 h2 h => by
       rw [← hbn, ← hfi]
       exact ⟨h1, h2⟩)
      rw [← hbn] at HNM
      rw [← hfi] at HFD
      obtain ⟨s, hs⟩ : ∃ s, s = ts[i] := ⟨_, rfl⟩
      rw [← hs] at x0 HNM HFD
      clear hs hfi hbn hcell hil hx1 HPI
      cases bn with
      |false =>
       have HF := Lib.hid (HBAD.out fun h => by have := (HIMP.out (h.2.2.2.2.1 i)).1; cases this)
       go_wp2_with fail
       refine Text.wp_grow [5, 15] [1, 4, 9, 11, 14] [] (by kernel_rfl) (by kernel_rfl) ?_
       refine Text.wpS_seg 5 _ _ _ _ (by decide) (fun Q' hQ' => ?_)
       simp only [List.take_succ_cons, List.take_zero]
       go_wp2_with fail
       try simp only [Nat.zero_add, List.drop_succ_cons, List.drop_zero]
       refine Text.wpS_one (fun Q' hQ' => ?_)
       go_wp2_with fail
       refine (HNM.out _).mono ?_
       rintro e w5 ⟨rfl, rfl⟩
       go_wp2_with fail
       refine ⟨Below.refl _ _, ?_⟩
       refine Text.wpS_seg 9 _ _ _ _ (by decide) (fun Q' hQ' => ?_)
       simp only [List.take_succ_cons, List.take_zero]
       go_wp2_with fail
       try simp only [List.drop_succ_cons, List.drop_zero]
       refine Text.wpS_one (fun Q' hQ' => ?_)
       go_wp2_with fail
       refine ⟨Below.refl _ _, ?_⟩
       refine Text.wpS_seg 3 _ _ _ _ (by decide) (fun Q' hQ' => ?_)
       simp only [List.take_succ_cons, List.take_zero]
       go_wp2_with fail
       refine ⟨by rfl, ?_, ?_⟩
       ·exact ⟨fun _ => ⟨_, _, rfl, a1⟩, fun _ => ⟨_, _, rfl, x0⟩, Text.no_want rfl, Text.no_want rfl, Text.no_want rfl, trivial⟩
       go_wp2_with fail
       go_ret
       exact ⟨rt1 (vbool HF.out.symm), HBX.out.trans (HB.out.drew.mono (Nat.le_succ _))⟩
      |true =>
       by_cases hfi : fi = (i : Int)
       ·have hq : (fi != (i : Int)) = false := by simp [hfi]
        go_wp2_with fail
        refine Text.wp_grow [5, 15] [1, 4, 9, 11, 14] [] (by kernel_rfl) (by kernel_rfl) ?_
        refine Text.wpS_seg 5 _ _ _ _ (by decide) (fun Q' hQ' => ?_)
        simp only [List.take_succ_cons, List.take_zero]
        go_wp2_with fail
        try simp only [Nat.zero_add, List.drop_succ_cons, List.drop_zero]
        refine Text.wpS_one (fun Q' hQ' => ?_)
        go_wp2_with fail
        refine (HNM.out _).mono ?_
        rintro e w5 ⟨rfl, rfl⟩
        go_wp2_with fail
        refine ⟨Below.refl _ _, ?_⟩
        refine Text.wpS_seg 9 _ _ _ _ (by decide) (fun Q' hQ' => ?_)
        simp only [List.take_succ_cons, List.take_zero]
        go_wp2_with fail
        try simp only [List.drop_succ_cons, List.drop_zero]
        refine Text.wpS_one (fun Q' hQ' => ?_)
        go_wp2_with fail
        refine (HFD.out _ below_drew1).mono ?_
        rintro e w5 ⟨rfl, rfl⟩
        go_wp2_with fail
        refine ⟨Below.refl _ _, ?_⟩
        refine Text.wpS_seg 3 _ _ _ _ (by decide) (fun Q' hQ' => ?_)
        simp only [List.take_succ_cons, List.take_zero]
        go_wp2_with fail
        refine ⟨by rfl, ?_, ?_⟩
        ·exact ⟨fun _ => ⟨_, _, rfl, a1⟩, fun _ => ⟨_, _, rfl, x0⟩, fun _ => ⟨_, _, rfl, a1⟩, fun _ => ⟨_, _, rfl, a1⟩, fun _ => ⟨_, _, rfl, x0⟩, trivial⟩
        have HNX := Lib.hid (HMAK.out (by trivial) hfi)
        clear hfi
        go_wp2_with fail
        go_roundg (gas - 1)
        case measure => have := HGK.out; omega
        case rel => exact ⟨i + 1, by omega, by omega, by go_num, HB.out.drew, fun j hj => by by_cases e : j = i; (subst e; exact HNX.out); exact HPT.out j (by omega)⟩
       ·have hq : (fi != (i : Int)) = true := by simp [hfi]
        have HF := Lib.hid (HBAD.out fun h => hfi (HIMP.out (h.2.2.2.2.1 i)).2)
        clear hfi
        go_wp2_with fail
        refine Text.wp_grow [5, 15] [1, 4, 9, 11, 14] [] (by kernel_rfl) (by kernel_rfl) ?_
        refine Text.wpS_seg 5 _ _ _ _ (by decide) (fun Q' hQ' => ?_)
        simp only [List.take_succ_cons, List.take_zero]
        go_wp2_with fail
        try simp only [Nat.zero_add, List.drop_succ_cons, List.drop_zero]
        refine Text.wpS_one (fun Q' hQ' => ?_)
        go_wp2_with fail
        refine (HNM.out _).mono ?_
        rintro e w5 ⟨rfl, rfl⟩
        go_wp2_with fail
        refine ⟨Below.refl _ _, ?_⟩
        refine Text.wpS_seg 9 _ _ _ _ (by decide) (fun Q' hQ' => ?_)
        simp only [List.take_succ_cons, List.take_zero]
        go_wp2_with fail
        try simp only [List.drop_succ_cons, List.drop_zero]
        refine Text.wpS_one (fun Q' hQ' => ?_)
        go_wp2_with fail
        refine (HFD.out _ below_drew1).mono ?_
        rintro e w5 ⟨rfl, rfl⟩
        go_wp2_with fail
        refine ⟨Below.refl _ _, ?_⟩
        refine Text.wpS_seg 3 _ _ _ _ (by decide) (fun Q' hQ' => ?_)
        simp only [List.take_succ_cons, List.take_zero]
        go_wp2_with fail
        refine ⟨by rfl, ?_, ?_⟩
        ·exact ⟨fun _ => ⟨_, _, rfl, a1⟩, fun _ => ⟨_, _, rfl, x0⟩, fun _ => ⟨_, _, rfl, a1⟩, fun _ => ⟨_, _, rfl, a1⟩, fun _ => ⟨_, _, rfl, x0⟩, trivial⟩
        go_wp2_with fail
        go_ret
        exact ⟨rt1 (vbool HF.out.symm), HBX.out.trans (HB.out.drew.mono (Nat.le_succ _))⟩
     ·have HALLT := Lib.hid (show ∀ j, TermAt ts j from fun j => by
       by_cases h : j < i
       ·exact HPT.out j h
       ·intro h2
        have := HL.out.2.1
        try simp only at this
        omega)
      have HW1 := Lib.hid HB.out
      clear HPT HB HKO hbs
      clear hleft HGK
      go_wp2_with fail
      generalize wo = wz at *
      go_loopg [7] q (fun left v7 wr => ∃ i : Nat, i ≤ q ∧ q - i ≤ left ∧ v7 = .int .i64 i ∧ Hid (Below (w.heap.size + 1) w1 wr) ∧ Hid (∀ (j : Nat) (h : j < rs.length), j < i → fitsB ns.length ts.length rs[j] = true))
      case atStart => exact ⟨0, by omega, by omega, rfl, HW1.out, fun j h hj => by omega⟩
      case round =>
       clear HW1
       obtain ⟨i, hi, hleft, rfl, HB, HPF⟩ := hrel
       obtain ⟨gas, hgas⟩ : ∃ gas, gas = gk := ⟨_, rfl⟩
       rw [← hgas] at hleft
       have HGK := Lib.hid hgas
       clear hgas
       generalize wr = wo at *
       have HKO := Lib.hid ((HB.out.block w.heap.size (by omega)).trans HK.out)
       obtain ⟨a0, a1, a2⟩ := HCELL.out wo HKO.out
       have hbs : w.heap.size + 1 ≤ wo.heap.size := by have := HB.out.size; have := HZ.out; omega
       by_cases hib : i < q
       ·have hil : i < rs.length := by have := HL.out.2.2; omega
        obtain ⟨b1, o1, cs, he1, -, hb1, hrep, hcell⟩ := (HV.out.rules.below (HB.out.mono (Nat.le_succ _))).get (k := i) hil (by decide)
        obtain ⟨v1, rfl, hv1, -, -⟩ := eRule_open hrep
        have x0 := hcell 0 _ rfl
        have x1 := hcell 1 _ rfl
        simp only [show eRule.size = 2 from rfl, Nat.add_zero, ← Nat.add_assoc] at x0 x1
        subst he1
        have HFI := Lib.hid (show fitsB ns.length ts.length rs[i] = (decide (0 ≤ rs[i].1 ∧ rs[i].1 < (n : Int)) && decide (rs[i].2.length ≤ 64) && !rs[i].2.any (badSym n m)) by
         have e1 := HL.out.1
         have e2 := HL.out.2.1
         try simp only at e1 e2
         rw [← e1, ← e2]
         rfl)
        have HPI := Lib.hid (show (∀ (j : Nat) (h : j < rs.length), fitsB ns.length ts.length rs[j] = true) → fitsB ns.length ts.length rs[i] = true from fun h => h i hil)
        have HNXT := Lib.hid (show fitsB ns.length ts.length rs[i] = true → ∀ (j : Nat) (h : j < rs.length), j < i + 1 → fitsB ns.length ts.length rs[j] = true from fun h j hj hji => by
         by_cases e : j = i
         ·subst e; exact h
         ·exact HPF.out j hj (by omega))
        obtain ⟨fb, hfb⟩ : ∃ fb, fb = fitsB ns.length ts.length rs[i] := ⟨_, rfl⟩
        rw [← hfb] at HFI HPI HNXT
        obtain ⟨r, hr⟩ : ∃ r, r = rs[i] := ⟨_, rfl⟩
        rw [← hr] at x0 hv1 HFI
        obtain ⟨lf, r2⟩ := r
        simp only at x0 hv1 HFI
        obtain ⟨A5, c5, rfl, h51, h52⟩ := hv1.form
        obtain ⟨ql, hql⟩ : ∃ ql, ql = r2.length := ⟨_, rfl⟩
        rw [← hql] at x1 hv1 h51 HFI
        have HQL := Lib.hid hql
        have HV1 := Lib.hid hv1
        unfold maxLen at h52
        clear hfb hr hql hcell hrep hv1 hil HPF
        go_upto_region 25 with fail
        have hb5 := (Below.refl wo.heap.size wo).alloc (Nat.le_refl _) (.cells #[.int .i64 lf, .slice A5 ql c5] 36)
        have HB5 := Lib.hid (show Below (w.heap.size + 1) w1 _ from HB.out.trans (hb5.mono hbs))
        have HZ5 := Lib.hid (World.size_alloc wo (.cells #[.int .i64 lf, .slice A5 ql c5] 36))
        have HK5 := Lib.hid (Go.heap_alloc_new wo (.cells #[.int .i64 lf, .slice A5 ql c5] 36))
        have HX5 := Lib.hid (show SlR eInt (wo.alloc (.cells #[.int .i64 lf, .slice A5 ql c5] 36)) wo.heap.size (.slice A5 ql c5) r2 from HV1.out.fut hb5 (by omega) (by omega))
        have HKG := Lib.hid ((hb5.block w.heap.size (by omega)).trans HKO.out)
        generalize wo.alloc (.cells #[.int .i64 lf, .slice A5 ql c5] 36) = w5 at *
        have y0 : w5.cell? ⟨wo.heap.size, 0, none⟩ = some (.int .i64 lf) := by rw [cell_of_row _ _ _ _ _ _ HK5.out]; rfl
        have y1 : w5.cell? ⟨wo.heap.size, 1, none⟩ = some (.slice A5 ql c5) := by rw [cell_of_row _ _ _ _ _ _ HK5.out]; rfl
        clear a0 a1 a2 x0 x1 hb5
        obtain ⟨a0, a1, a2⟩ := HCELL.out w5 HKG.out
        have hcc : lf < 0 ∨ (0 ≤ lf ∧ (n : Int) ≤ lf) ∨ (0 ≤ lf ∧ lf < (n : Int) ∧ 64 < ql) ∨ (0 ≤ lf ∧ lf < (n : Int) ∧ ql ≤ 64) := by omega
        rcases hcc with h | ⟨h, h'⟩ | ⟨h, h', h''⟩ | ⟨h, h', h''⟩
        ·have e0 : decide (lf < 0) = true := by simp; omega
         have HF := Lib.hid (HBAD.out fun hh => by
          have := HFI.out.symm.trans (HPI.out hh.2.2.2.2.2.1)
          rw [decide_eq_false (by omega)] at this
          cases this)
         clear h
         go_wp2_with fail
         go_ret
         exact ⟨rt1 (vbool HF.out.symm), HBX.out.trans (HB5.out.mono (Nat.le_succ _))⟩
        ·have e0 : decide (lf < 0) = false := by simp; omega
         have e1 : decide ((n : Int) ≤ lf) = true := by simp; omega
         have HF := Lib.hid (HBAD.out fun hh => by
          have := HFI.out.symm.trans (HPI.out hh.2.2.2.2.2.1)
          rw [decide_eq_false (by omega)] at this
          cases this)
         clear h h'
         go_wp2_with fail
         go_ret
         exact ⟨rt1 (vbool HF.out.symm), HBX.out.trans (HB5.out.mono (Nat.le_succ _))⟩
        ·have e0 : decide (lf < 0) = false := by simp; omega
         have e1 : decide ((n : Int) ≤ lf) = false := by simp; omega
         have e2 : decide ((64 : Int) < (ql : Int)) = true := by simp; omega
         have HF := Lib.hid (HBAD.out fun hh => by
          have := HFI.out.symm.trans (HPI.out hh.2.2.2.2.2.1)
          rw [decide_eq_false (show ¬ ql ≤ 64 by omega), Bool.and_false] at this
          cases this)
         clear h h' h''
         go_wp2_with fail
         go_ret
         exact ⟨rt1 (vbool HF.out.symm), HBX.out.trans (HB5.out.mono (Nat.le_succ _))⟩
        ·have e0 : decide (lf < 0) = false := by simp; omega
         have e1 : decide ((n : Int) ≤ lf) = false := by simp; omega
         have e2 : decide ((64 : Int) < (ql : Int)) = false := by simp; omega
         have HFJ := Lib.hid (show fb = !r2.any (badSym n m) by
          rw [HFI.out, decide_eq_true (show 0 ≤ lf ∧ lf < (n : Int) by omega), decide_eq_true (show ql ≤ 64 by omega)]
          rfl)
         clear h h'
         go_wp2_with fail
         clear a0 a1 a2 y0 y1
         go_loopg [9] ql (fun lft2 v9 wt => ∃ j : Nat, j ≤ ql ∧ ql - j ≤ lft2 ∧ v9 = .int .i64 j ∧ Hid (Below w5.heap.size w5 wt) ∧ Hid ((r2.take j).any (badSym n m) = false))
         case atStart => exact ⟨0, by omega, by omega, rfl, Below.refl _ _, rfl⟩
         case round =>
          obtain ⟨j, hj, hlft2, rfl, HBT, HNO⟩ := hrel
          have HKT := Lib.hid ((HBT.out.block w.heap.size (by have := HZ5.out; omega)).trans HKG.out)
          have HRT := Lib.hid ((HBT.out.block wo.heap.size (by have := HZ5.out; omega)).trans HK5.out)
          obtain ⟨a0, a1, a2⟩ := HCELL.out wr HKT.out
          have y1 : wr.cell? ⟨wo.heap.size, 1, none⟩ = some (.slice A5 ql c5) := by rw [cell_of_row _ _ _ _ _ _ HRT.out]; rfl
          have HBALL := Lib.hid (HB5.out.trans (HBT.out.mono (by have := HZ5.out; omega)))
          by_cases hjq : j < ql
          ·have hjl : j < r2.length := by rw [← HQL.out]; exact hjq
           obtain ⟨b3, o3, cs3, he3, -, -, hrep3, hcell3⟩ := (HX5.out.below (HBT.out.mono (by have := HZ5.out; omega))).get (k := j) hjl (by decide)
           obtain ⟨rfl, hz1, hz2⟩ := hrep3
           have z0 := hcell3 0 _ rfl
           simp only [show eInt.size = 1 from rfl, Nat.mul_one, Nat.add_zero] at z0
           subst he3
           have HAT := Lib.hid (any_take (p := badSym n m) hjl)
           have HANY := Lib.hid (show badSym n m r2[j] = true → r2.any (badSym n m) = true from fun h => List.any_eq_true.2 ⟨_, List.getElem_mem hjl, h⟩)
           obtain ⟨s, hs⟩ : ∃ s, s = r2[j] := ⟨_, rfl⟩
           rw [← hs] at z0 hz1 hz2 HAT HANY
           clear hs hcell3 hjl
           by_cases hs1 : (n : Int) ≤ s
           ·have f1 : decide ((n : Int) ≤ s) = true := by simpa using hs1
            have HF := Lib.hid (HBAD.out fun hh => by
             have := HFJ.out.symm.trans (HPI.out hh.2.2.2.2.2.1)
             rw [HANY.out (by unfold badSym; rw [f1]; rfl)] at this
             cases this)
            clear hs1
            go_wp2_with fail
            refine Text.wp_text [] (by kernel_rfl) (by kernel_rfl) (fun Q' hQ' => ?_)
            go_wp2_with fail
            refine ⟨by rfl, ?_⟩
            go_wp2_with fail
            go_ret
            exact ⟨rt1 (vbool HF.out.symm), HBX.out.trans (HBALL.out.drew.mono (Nat.le_succ _))⟩
           ·have f1 : decide ((n : Int) ≤ s) = false := by simpa using hs1
            by_cases hs2 : s < -(m : Int)
            ·have f2 : decide (s < -(m : Int)) = true := by simpa using hs2
             have HF := Lib.hid (HBAD.out fun hh => by
              have := HFJ.out.symm.trans (HPI.out hh.2.2.2.2.2.1)
              rw [HANY.out (by unfold badSym; rw [f2, Bool.or_true])] at this
              cases this)
             clear hs1 hs2
             go_wp2_with fail
             refine Text.wp_text [] (by kernel_rfl) (by kernel_rfl) (fun Q' hQ' => ?_)
             go_wp2_with fail
             refine ⟨by rfl, ?_⟩
             go_wp2_with fail
             go_ret
             exact ⟨rt1 (vbool HF.out.symm), HBX.out.trans (HBALL.out.drew.mono (Nat.le_succ _))⟩
            ·have f2 : decide (s < -(m : Int)) = false := by simpa using hs2
             have HX := Lib.hid (show (r2.take (j + 1)).any (badSym n m) = false by
              rw [HAT.out, HNO.out]
              unfold badSym
              rw [f1, f2]
              rfl)
             clear hs1 hs2
             go_wp2_with fail
             refine Text.wp_text [] (by kernel_rfl) (by kernel_rfl) (fun Q' hQ' => ?_)
             go_wp2_with fail
             refine ⟨by rfl, ?_⟩
             go_wp2_with fail
             go_roundg (gk - 1)
             case measure => omega
             case rel => exact ⟨j + 1, by omega, by omega, by go_num, HBT.out.drew, HX.out⟩
          ·have HNX := Lib.hid (HNXT.out (by
            rw [HFJ.out]
            have := HNO.out
            rw [List.take_of_length_le (by rw [← HQL.out]; omega)] at this
            rw [this]
            rfl))
           go_wp2_with fail
           go_roundg (gas - 1)
           case measure => have := HGK.out; omega
           case rel => exact ⟨i + 1, by omega, by omega, by go_num, HBALL.out, HNX.out⟩
       ·have HALLF := Lib.hid (show ∀ (j : Nat) (h : j < rs.length), fitsB ns.length ts.length rs[j] = true from fun j h => HPF.out j h (by
         have := HL.out.2.2
         try simp only at this
         omega))
        have HRO := Lib.hid (HV.out.rules.fut (B' := wo.heap.size) (HB.out.mono (Nat.le_succ _)) (Nat.le_refl _) (by omega))
        clear hleft HGK
        go_wp2_with fail
        refine (twice14_any A3 q c3 rs wo HRO.out).mono ?_
        rintro e w9 ⟨rfl, hb9⟩
        have HB9 := Lib.hid (HBX.out.trans ((HB.out.trans (hb9.mono hbs)).mono (Nat.le_succ _)))
        clear hb9
        have HG := Lib.hid (show (!decide (¬ rs.Nodup)) = G by
         rw [Bool.eq_iff_iff, HIFF.out]
         simp only [Bool.not_eq_true', decide_eq_false_iff_not, Classical.not_not]
         exact ⟨fun h => ⟨HSZ.out.1, HSZ.out.2.1, HSZ.out.2.2, HALLN.out, HALLT.out, HALLF.out, h⟩, fun h => h.2.2.2.2.2.2⟩)
        obtain ⟨bd, hbd⟩ : ∃ bd, bd = decide (¬ rs.Nodup) := ⟨_, rfl⟩
        rw [← hbd] at HG ⊢
        clear hbd
        go_wp2_with fail
        go_ret
        exact ⟨rt1 (vbool HG.out), HB9.out⟩


end Go.Proofs.YthojelhpipmkiaaGreatDoor
