/- Texts of this proof joined: Tab4, Awk23, NamesP, Rf15b. -/
import Derived.Test.YtkedmiememnmjaaGreatTN26
import Derived.Test.YtkedmiememnmjaaGreatTN08
import Derived.Deep.DeepCutAuto
import Derived.Test.YtkedmiememnmjaaGreatTN28
import Derived.Test.YtkedmiememnmjaaGreatTN25
import Derived.Test.YtkedmiememnmjaaGreatTN10
namespace Go.Proofs.YtkedmiememnmjaaGreat
open Go.RowKit

def leftAt (g : Gram) (i : Int) : Int := (g.2.2.getD i.toNat (0, [])).1
def isRow (g : Gram) (k : Int) (x : Row) : Bool := !(decide (x.2.2 < 0) || decide ((g.2.2.length : Int) ≤ x.2.2) || decide (leftAt g x.2.2 ≠ x.1) || !wordOk g.2.1.length k x.2.1)
def aheadR (p : Option Row) (x : Row) : Bool := match p with
  | none => false
  | some y => decide (0 ≤ ordR y x)
def isFrom (g : Gram) (k : Int) : Option Row → List Row → Bool
  | _, [] => true
  | p, x :: l => !aheadR p x && isRow g k x && isFrom g k (some x) l
def isW (g : Gram) (k : Int) (rows : List Row) : Bool := gramB g && isFrom g k none rows
def prevAt (rows : List Row) : Nat → Option Row
  | 0 => none
  | i + 1 => rows[i]?
theorem isFrom_at {g : Gram} {k : Int} {rows : List Row} {i : Nat} (h : i < rows.length) : isFrom g k (prevAt rows i) (rows.drop i) = (!aheadR (prevAt rows i) rows[i] && isRow g k rows[i] && isFrom g k (prevAt rows (i + 1)) (rows.drop (i + 1))) := by
  rw [List.drop_eq_getElem_cons h]
  simp only [isFrom, prevAt, List.getElem?_eq_getElem h]
set_option maxRecDepth 100000 in
set_option maxHeartbeats 8000000 in
theorem isTab_any {A1 A2 A3 : Option Addr} {n m q c1 c2 c3 : Nat} {g : Gram} (A : Option Addr) (nr c : Nat) (k : Int) (rows : List Row) (w : World) (h : GramR w w.heap.size A1 A2 A3 n m q c1 c2 c3 g) (hv : SlR eRow w w.heap.size (.slice A nr c) rows) (hle : nr ≤ 1048576) :
    Calls Tryz.prog 11 #[gramV A1 A2 A3 n m q c1 c2 c3, .int .i64 k, .slice A nr c] w fun e w' => e = .returned (.bool (isW g k rows)) ∧ Below w.heap.size w w' := by
  have hbx := (Below.refl w.heap.size w).alloc (Nat.le_refl _) (.cells #[.slice A1 n c1, .slice A2 m c2, .slice A3 q c3] 25)
  have HV := Lib.hid ((h.fut (B' := w.heap.size + 1) hbx (Nat.le_refl _) (by omega)))
  have HR := Lib.hid (show SlR eRow _ (w.heap.size + 1) (.slice A nr c) rows from hv.fut hbx (Nat.le_refl _) (by omega))
  have HK := Lib.hid (Go.heap_alloc_new w (.cells #[.slice A1 n c1, .slice A2 m c2, .slice A3 q c3] 25))
  have HZ := Lib.hid (World.size_alloc w (.cells #[.slice A1 n c1, .slice A2 m c2, .slice A3 q c3] 25))
  have HBX := Lib.hid hbx
  have HL := Lib.hid h.ln
  have hsm := h.small
  have HNR := Lib.hid hv.n_eq
  have hnc := hv.n_le
  clear h hbx hv
  have HCELL : Hid (∀ (w2 : World), w2.heap[w.heap.size]? = some (.cells #[.slice A1 n c1, .slice A2 m c2, .slice A3 q c3] 25 (0, 0)) → w2.cell? ⟨w.heap.size, 0, none⟩ = some (.slice A1 n c1) ∧ w2.cell? ⟨w.heap.size, 1, none⟩ = some (.slice A2 m c2) ∧ w2.cell? ⟨w.heap.size, 2, none⟩ = some (.slice A3 q c3)) := fun w2 hk => ⟨by rw [cell_of_row _ _ _ _ _ _ hk]; rfl, by rw [cell_of_row _ _ _ _ _ _ hk]; rfl, by rw [cell_of_row _ _ _ _ _ _ hk]; rfl⟩
  go_enter Tryz.func11, Tryz.ntmps11
  go_wp2_with fail
  generalize w.alloc (.cells #[.slice A1 n c1, .slice A2 m c2, .slice A3 q c3] 25) = w1 at *
  refine (GramR.valid (w := w1) (by rw [HZ.out]; exact HV.out)).mono ?_
  rintro e w2 ⟨rfl, hb2⟩
  have HB2 := Lib.hid (show Below (w.heap.size + 1) w1 w2 from hb2.mono (Nat.le_of_eq HZ.out.symm))
  clear hb2
  cases hv : gramB g with
  | false =>
    have HC := Lib.hid (show isW g k rows = false by unfold isW; rw [hv]; rfl)
    clear hv
    go_wp2_with fail
    go_ret
    exact ⟨rt1 (vbool HC.out.symm), HBX.out.trans (HB2.out.mono (by omega))⟩
  | true =>
    have HC := Lib.hid (show isW g k rows = isFrom g k none rows by unfold isW; rw [hv]; rfl)
    clear hv
    go_wp2_with fail
    go_loopg [14] nr (fun left v14 wr => ∃ i : Nat, i ≤ nr ∧ nr - i ≤ left ∧ v14 = .int .i64 i ∧ Hid (isW g k rows = isFrom g k (prevAt rows i) (rows.drop i)) ∧ Hid (Below (w.heap.size + 1) w1 wr))
    case atStart => exact ⟨0, by omega, by omega, rfl, HC.out, HB2.out⟩
    case round =>
      clear HC HB2
      obtain ⟨i, hi, hleft, rfl, HI, HBR⟩ := hrel
      have HSR := Lib.hid (show w.heap.size + 1 ≤ wr.heap.size by have := HBR.out.size; have := HZ.out; omega)
      by_cases hib : i < nr
      · have hil : i < rows.length := by rw [← HNR.out]; exact hib
        obtain ⟨b1, o1, rfl, -, hb1, x0, x1, x2, hrep⟩ := (HR.out.below HBR.out).rowAt hil
        have hfit := (eRow_open hrep).2
        have HI2 := Lib.hid (HI.out.trans (isFrom_at hil))
        obtain ⟨x, hx⟩ : ∃ x, x = rows[i] := ⟨_, rfl⟩
        rw [← hx] at x0 x1 x2 hfit HI2
        have HX := Lib.hid hx
        clear hx hrep HI
        obtain ⟨xa, xs1, xi⟩ := x
        simp only at x0 x1 x2 hfit
        go_upto_region 6 with fail
        have hb3 := (Below.refl wr.heap.size wr).alloc (Nat.le_refl _) (.cells #[.int .i64 xa, wv xs1, .int .i64 xi] 54)
        have HB3 := Lib.hid (show Below (w.heap.size + 1) w1 _ from HBR.out.trans (hb3.mono HSR.out))
        have HZ3 := Lib.hid (World.size_alloc wr (.cells #[.int .i64 xa, wv xs1, .int .i64 xi] 54))
        have HK3 := Lib.hid (Go.heap_alloc_new wr (.cells #[.int .i64 xa, wv xs1, .int .i64 xi] 54))
        generalize wr.alloc (.cells #[.int .i64 xa, wv xs1, .int .i64 xi] 54) = w3 at *
        have y0 : w3.cell? ⟨wr.heap.size, 0, none⟩ = some (.int .i64 xa) := by rw [cell_of_row _ _ _ _ _ _ HK3.out]; rfl
        have y1 : w3.cell? ⟨wr.heap.size, 1, none⟩ = some (wv xs1) := by rw [cell_of_row _ _ _ _ _ _ HK3.out]; rfl
        have y2 : w3.cell? ⟨wr.heap.size, 2, none⟩ = some (.int .i64 xi) := by rw [cell_of_row _ _ _ _ _ _ HK3.out]; rfl
        clear x0 x1 x2 hb3
        obtain ⟨b6, hb6⟩ : ∃ b6, b6 = aheadR (prevAt rows i) (xa, xs1, xi) := ⟨_, rfl⟩
        rw [← hb6] at HI2
        have HB6 := Lib.hid hb6
        clear hb6
        go_cut [30] (fun v30 wx => v30 = .bool b6 ∧ Hid (Below w3.heap.size w3 wx))
        case first =>
          cases i with
          | zero =>
            have HE := Lib.hid (show b6 = false from HB6.out)
            refine Text.wp_grow [9] [7, 8] [] (by kernel_rfl) (by kernel_rfl) ?_
            refine Text.wpS_seg 9 _ _ _ _ (by decide) (fun Q' hQ' => ?_)
            simp only [List.take_succ_cons, List.take_zero]
            go_wp2_with fail
            simp only [Nat.zero_add, List.drop_succ_cons, List.drop_zero]
            refine Text.wpS_one (fun Q' hQ' => ?_)
            go_wp2_with fail
            refine ⟨Below.refl _ _, ?_⟩
            refine Text.wpS_seg 2 _ _ _ _ (by decide) (fun Q' hQ' => ?_)
            simp only [List.take_succ_cons, List.take_zero]
            go_wp2_with fail
            refine ⟨by rfl, ?_, ?_⟩
            · exact ⟨Text.no_want rfl, Text.no_want rfl, trivial⟩
            go_wp2_with fail
            go_meet
            case rel => exact ⟨by rw [HE.out], (Below.refl _ _).drew⟩
          | succ i' =>
            have hil : i' < rows.length := by rw [← HNR.out]; omega
            obtain ⟨b5, o5, he5, -, hb5, z0, z1, z2, -⟩ := (HR.out.below HB3.out).rowAt hil
            injection he5 with he5
            injection he5 with e1 e2
            subst e1 e2
            have HE := Lib.hid (show b6 = decide (0 ≤ ordR rows[i'] (xa, xs1, xi)) by rw [HB6.out]; simp only [prevAt, List.getElem?_eq_getElem hil, aheadR])
            obtain ⟨y, hy⟩ : ∃ y, y = rows[i'] := ⟨_, rfl⟩
            rw [← hy] at z0 z1 z2 HE
            clear hy hil
            obtain ⟨ya, ys1, yi⟩ := y
            simp only at z0 z1 z2
            have HO := Lib.hid (order_any (ya, ys1, yi) (xa, xs1, xi))
            obtain ⟨oo, hoo⟩ : ∃ oo, oo = ordR (ya, ys1, yi) (xa, xs1, xi) := ⟨_, rfl⟩
            rw [← hoo] at HE HO
            clear hoo
            have he7 : ((i' + 1 : Nat) : Int) - 1 = i' := by omega
            refine Text.wp_grow [9] [7, 8] [] (by kernel_rfl) (by kernel_rfl) ?_
            refine Text.wpS_seg 9 _ _ _ _ (by decide) (fun Q' hQ' => ?_)
            simp only [List.take_succ_cons, List.take_zero]
            go_wp2_with fail
            try simp only [Nat.zero_add, List.drop_succ_cons, List.drop_zero]
            refine Text.wpS_one (fun Q' hQ' => ?_)
            go_wp2_with fail
            refine (HO.out _).mono ?_
            rintro e w5 ⟨rfl, hb5', _⟩
            go_wp2_with fail
            refine ⟨hb5', ?_⟩
            refine Text.wpS_seg 2 _ _ _ _ (by decide) (fun Q' hQ' => ?_)
            simp only [List.take_succ_cons, List.take_zero]
            go_wp2_with fail
            refine ⟨by rfl, ?_, ?_⟩
            · exact ⟨fun _ => ⟨_, _, rfl, z0⟩, fun _ => ⟨_, _, rfl, y0⟩, trivial⟩
            go_wp2_with fail
            go_meet
            case rel => exact ⟨by rw [HE.out], (Below.refl _ _).drew.trans hb5'⟩
        case rest =>
          obtain ⟨rfl, HBX6⟩ := hcut
          generalize wc = wx at *
          have HB5 := Lib.hid (show Below (w.heap.size + 1) w1 wx from HB3.out.trans (HBX6.out.mono (by have := HZ3.out; have := HSR.out; omega)))
          have HK5 := Lib.hid ((HBX6.out.block wr.heap.size (by have := HZ3.out; omega)).trans HK3.out)
          have HKG := Lib.hid ((HB5.out.block w.heap.size (by omega)).trans HK.out)
          have HS5 := Lib.hid (show wr.heap.size + 1 ≤ wx.heap.size by have := HBX6.out.size; have := HZ3.out; omega)
          obtain ⟨a0, a1, a2⟩ := HCELL.out wx HKG.out
          clear y0 y1 y2 HK3 HB3 HZ3 HBX6 a0
          have y0 : wx.cell? ⟨wr.heap.size, 0, none⟩ = some (.int .i64 xa) := by rw [cell_of_row _ _ _ _ _ _ HK5.out]; rfl
          have y1 : wx.cell? ⟨wr.heap.size, 1, none⟩ = some (wv xs1) := by rw [cell_of_row _ _ _ _ _ _ HK5.out]; rfl
          have y2 : wx.cell? ⟨wr.heap.size, 2, none⟩ = some (.int .i64 xi) := by rw [cell_of_row _ _ _ _ _ _ HK5.out]; rfl
          cases b6 with
          | true =>
            have HF := Lib.hid (show isW g k rows = false by rw [HI2.out]; rfl)
            go_wp2_with fail
            go_ret
            exact ⟨rt1 (vbool HF.out.symm), HBX.out.trans (HB5.out.mono (by omega))⟩
          | false =>
          go_upto_region 8 with fail
          obtain ⟨b8, hb8⟩ : ∃ b8, b8 = isRow g k (xa, xs1, xi) := ⟨_, rfl⟩
          rw [← hb8] at HI2
          have HB8 := Lib.hid hb8
          clear hb8
          go_cut [63] (fun v63 wy => v63 = .bool (!b8) ∧ Hid (Below wx.heap.size wx wy))
          case first =>
           by_cases hx0 : xi < 0
           · have hd0 : decide (xi < 0) = true := by simpa using hx0
             have HE := Lib.hid (show (!b8) = true by rw [HB8.out]; unfold isRow; simp [hx0])
             clear hx0
             refine Text.wp_grow [30] [1, 5, 7, 13, 15, 18, 20, 25, 27] [] (by kernel_rfl) (by kernel_rfl) ?_
             refine Text.wpS_seg 30 _ _ _ _ (by decide) (fun Q' hQ' => ?_)
             simp only [List.take_succ_cons, List.take_zero]
             go_wp2_with fail
             try simp only [Nat.zero_add, List.drop_succ_cons, List.drop_zero]
             refine Text.wpS_one (fun Q' hQ' => ?_)
             go_wp2_with fail
             refine ⟨Below.refl _ _, ?_⟩
             refine Text.wpS_seg 2 _ _ _ _ (by decide) (fun Q' hQ' => ?_)
             simp only [List.take_succ_cons, List.take_zero]
             go_wp2_with fail
             refine ⟨by rfl, ?_, ?_⟩
             · exact ⟨fun _ => ⟨_, _, rfl, y2⟩, Text.no_want rfl, Text.no_want rfl, Text.no_want rfl, Text.no_want rfl, Text.no_want rfl, Text.no_want rfl, Text.no_want rfl, Text.no_want rfl, trivial⟩
             go_wp2_with fail
             go_meet
             case rel => exact ⟨by rw [HE.out], (Below.refl _ _).drew⟩
           · have hd0 : decide (xi < 0) = false := by simpa using hx0
             by_cases hxq : (q : Int) ≤ xi
             · have hd1 : decide ((q : Int) ≤ xi) = true := by simpa using hxq
               have HE := Lib.hid (show (!b8) = true by rw [HB8.out]; unfold isRow; rw [← HL.out.2.2]; simp [hxq])
               clear hx0 hxq
               refine Text.wp_grow [30] [1, 5, 7, 13, 15, 18, 20, 25, 27] [] (by kernel_rfl) (by kernel_rfl) ?_
               refine Text.wpS_seg 30 _ _ _ _ (by decide) (fun Q' hQ' => ?_)
               simp only [List.take_succ_cons, List.take_zero]
               go_wp2_with fail
               try simp only [Nat.zero_add, List.drop_succ_cons, List.drop_zero]
               refine Text.wpS_one (fun Q' hQ' => ?_)
               go_wp2_with fail
               refine ⟨Below.refl _ _, ?_⟩
               refine Text.wpS_seg 2 _ _ _ _ (by decide) (fun Q' hQ' => ?_)
               simp only [List.take_succ_cons, List.take_zero]
               go_wp2_with fail
               refine ⟨by rfl, ?_, ?_⟩
               · exact ⟨fun _ => ⟨_, _, rfl, y2⟩, fun _ => ⟨_, _, rfl, y2⟩, fun _ => ⟨_, _, rfl, a2⟩, Text.no_want rfl, Text.no_want rfl, Text.no_want rfl, Text.no_want rfl, Text.no_want rfl, Text.no_want rfl, trivial⟩
               go_wp2_with fail
               go_meet
               case rel => exact ⟨by rw [HE.out], (Below.refl _ _).drew⟩
             · have hd1 : decide ((q : Int) ≤ xi) = false := by simpa using hxq
               obtain ⟨j, rfl⟩ : ∃ j : Nat, xi = (j : Int) := ⟨xi.toNat, by omega⟩
               have hjq : j < q := by omega
               have hjl : j < g.2.2.length := by rw [← HL.out.2.2]; exact hjq
               have hd3 : decide (q ≤ j) = false := by simpa using hjq
               obtain ⟨b2, o2, cs, rfl, -, -, hrep, hcell⟩ := (HV.out.rules.below HB5.out).get (k := j) hjl (by decide)
               obtain ⟨v, rfl, -, -, -⟩ := eRule_open hrep
               have hc0 := hcell 0 _ rfl
               simp only [show eRule.size = 2 from rfl, Nat.add_zero] at hc0
               have HLF := Lib.hid (show leftAt g (j : Int) = g.2.2[j].1 by unfold leftAt; rw [Int.toNat_natCast, List.getD_eq_getElem?_getD, List.getElem?_eq_getElem hjl]; rfl)
               obtain ⟨lf, hlf⟩ : ∃ lf, lf = g.2.2[j].1 := ⟨_, rfl⟩
               rw [← hlf] at hc0 HLF
               have HIS := Lib.hid (show isRow g k (xa, xs1, (j : Int)) = !(decide (lf ≠ xa) || !wordOk m k xs1) by
                 unfold isRow
                 rw [← HL.out.2.2, ← HL.out.2.1, HLF.out, hd0, hd1]
                 rfl)
               clear hcell hrep hlf hjl hx0 hxq
               by_cases hll : lf = xa
               · have hd2 : (lf != xa) = false := by simpa using hll
                 have HWV := Lib.hid (fun w => wordValid_any xs1 (m : Int) k w hfit.2.1)
                 have HE := Lib.hid (show (!b8) = !wordOk m k xs1 by rw [HB8.out, HIS.out]; simp [hll])
                 obtain ⟨bw, hbw⟩ : ∃ bw, bw = wordOk m k xs1 := ⟨_, rfl⟩
                 rw [← hbw] at HWV HE
                 clear hbw hll
                 refine Text.wp_grow [30] [1, 5, 7, 13, 15, 18, 20, 25, 27] [] (by kernel_rfl) (by kernel_rfl) ?_
                 refine Text.wpS_seg 30 _ _ _ _ (by decide) (fun Q' hQ' => ?_)
                 simp only [List.take_succ_cons, List.take_zero]
                 go_wp2_with fail
                 try simp only [Nat.zero_add, List.drop_succ_cons, List.drop_zero]
                 refine Text.wpS_one (fun Q' hQ' => ?_)
                 go_wp2_with fail
                 refine (HWV.out _).mono ?_
                 rintro e w6 ⟨rfl, hb6'⟩
                 go_wp2_with fail
                 refine ⟨hb6', ?_⟩
                 refine Text.wpS_seg 2 _ _ _ _ (by decide) (fun Q' hQ' => ?_)
                 simp only [List.take_succ_cons, List.take_zero]
                 go_wp2_with fail
                 refine ⟨by rfl, ?_, ?_⟩
                 · exact ⟨fun _ => ⟨_, _, rfl, y2⟩, fun _ => ⟨_, _, rfl, y2⟩, fun _ => ⟨_, _, rfl, a2⟩, fun _ => ⟨_, _, rfl, a2⟩, fun _ => ⟨_, _, rfl, y2⟩, fun _ => ⟨_, _, rfl, hc0⟩, fun _ => ⟨_, _, rfl, y0⟩, fun _ => ⟨_, _, rfl, y1⟩, fun _ => ⟨_, _, rfl, a1⟩, trivial⟩
                 go_wp2_with fail
                 go_meet
                 case rel => exact ⟨by rw [HE.out], (Below.refl _ _).drew.trans hb6'⟩
               · have hd2 : (lf != xa) = true := by simpa using hll
                 have HE := Lib.hid (show (!b8) = true by rw [HB8.out, HIS.out]; simp [hll])
                 clear hll
                 refine Text.wp_grow [30] [1, 5, 7, 13, 15, 18, 20, 25, 27] [] (by kernel_rfl) (by kernel_rfl) ?_
                 refine Text.wpS_seg 30 _ _ _ _ (by decide) (fun Q' hQ' => ?_)
                 simp only [List.take_succ_cons, List.take_zero]
                 go_wp2_with fail
                 try simp only [Nat.zero_add, List.drop_succ_cons, List.drop_zero]
                 refine Text.wpS_one (fun Q' hQ' => ?_)
                 go_wp2_with fail
                 refine ⟨Below.refl _ _, ?_⟩
                 refine Text.wpS_seg 2 _ _ _ _ (by decide) (fun Q' hQ' => ?_)
                 simp only [List.take_succ_cons, List.take_zero]
                 go_wp2_with fail
                 refine ⟨by rfl, ?_, ?_⟩
                 · exact ⟨fun _ => ⟨_, _, rfl, y2⟩, fun _ => ⟨_, _, rfl, y2⟩, fun _ => ⟨_, _, rfl, a2⟩, fun _ => ⟨_, _, rfl, a2⟩, fun _ => ⟨_, _, rfl, y2⟩, fun _ => ⟨_, _, rfl, hc0⟩, fun _ => ⟨_, _, rfl, y0⟩, Text.no_want rfl, Text.no_want rfl, trivial⟩
                 go_wp2_with fail
                 go_meet
                 case rel => exact ⟨by rw [HE.out], (Below.refl _ _).drew⟩
          case rest =>
            obtain ⟨rfl, HB9⟩ := hcut
            generalize wc = wy at *
            have HB10 := Lib.hid (HB5.out.trans (HB9.out.mono (by have := HS5.out; have := HSR.out; omega)))
            cases b8 with
            | false =>
              have HF := Lib.hid (show isW g k rows = false by rw [HI2.out]; rfl)
              go_wp2_with fail
              go_ret
              exact ⟨rt1 (vbool HF.out.symm), HBX.out.trans (HB10.out.mono (by omega))⟩
            | true =>
              go_wp2_with fail
              go_roundg (gk - 1)
              case measure => omega
              case rel => exact ⟨i + 1, by omega, by omega, by go_num, by show _ = _; rw [HI2.out]; simp, HB10.out⟩
      · have HF := Lib.hid (show isW g k rows = true by
          rw [HI.out, List.drop_eq_nil_of_le (by rw [← HNR.out]; omega)]
          rfl)
        go_wp2_with fail
        go_ret
        exact ⟨rt1 (vbool HF.out.symm), HBX.out.trans (HBR.out.mono (by omega))⟩
end Go.Proofs.YtkedmiememnmjaaGreat
namespace Go.Proofs.YtkedmiememnmjaaGreat
open Go.RowKit

theorem perm_two {α : Type} {a b : α} {l : List α} (h : l.Perm [a, b]) : l = [a, b] ∨ l = [b, a] := by
  have hl := h.length_eq
  match l, hl with
  | [x, y], _ =>
    have ha : a ∈ [x, y] := h.mem_iff.2 (by simp)
    rw [List.mem_cons, List.mem_singleton] at ha
    rcases ha with e | e
    · subst e
      have := (List.Perm.cons_inv h).eq_singleton
      left
      rw [this]
    · subst e
      have := (List.Perm.cons_inv ((List.Perm.swap x a []).trans h)).eq_singleton
      right
      injection this with this
      rw [this]
def awRows : List Row := [(0, [], 0), (0, [0], 1)]
theorem aw_rows {rows : List Row} (hp : rows.Perm awRows) (hs : rows.Pairwise fun a b => ¬ rowLt b a) : rows = awRows := by
  rcases perm_two hp with h | h
  · exact h
  · rw [h] at hs
    have := (List.pairwise_cons.1 hs).1 (0, [], 0) (by simp)
    exact absurd (show rowLt ((0 : Int), ([] : Wd), (0 : Int)) (0, [0], 1) from .inr ⟨rfl, by decide⟩) this
theorem aw_check : checkN gA = 0 := by kernel_rfl
theorem aw_bad : ¬ BadK 1 gA := by
  unfold BadK
  rw [aw_check]
  simp
theorem aw_ahead : AheadO 1 gA (some [[[]], [[0]]]) := ⟨_, gA_first, _, gA_fol, gA_ahead.symm⟩
theorem aw_is : isW gA 1 awRows = true := by kernel_rfl
theorem aw_look1 {r : Int} {ok : Bool} (h : LookTo awRows 0 [0] r ok) : r = 1 ∧ ok = true := by
  cases ok with
  | true =>
    have := h.1 rfl
    simp [awRows] at this
    exact ⟨this, rfl⟩
  | false => exact absurd (show ((0 : Int), ([0] : Wd), (1 : Int)) ∈ awRows by simp [awRows]) ((h.2 rfl).2 1)
theorem aw_look2 {r : Int} {ok : Bool} (h : LookTo awRows 1 [] r ok) : r = 0 ∧ ok = false := by
  cases ok with
  | true =>
    have := h.1 rfl
    simp [awRows] at this
  | false => exact ⟨(h.2 rfl).1, rfl⟩
theorem aw_fit : FitR awRows := by
  intro x hx
  simp only [awRows, List.mem_cons, List.not_mem_nil, or_false] at hx
  rcases hx with rfl | rfl <;> exact ⟨by decide, by decide, by decide⟩
theorem aw_sorted : awRows.Pairwise fun a b => ¬ rowLt b a := by
  unfold awRows rowLt
  simp
set_option maxRecDepth 100000 in
set_option maxHeartbeats 4000000 in
theorem awake_any (w : World) : Calls Tryz.prog 7 #[] w fun e w' => e = .returned (.bool true) ∧ Below w.heap.size w w' := by
  obtain ⟨W, hW⟩ : ∃ W, W = (awObjs w.heap.size).foldl World.alloc w := ⟨_, rfl⟩
  obtain ⟨hs, hbW, hg⟩ := aw_data w W hW
  have hq4 : W.heap[w.heap.size + 4]? = some (.cells #[.slice (some ⟨w.heap.size, 0, none⟩) 1 1, .slice (some ⟨w.heap.size + 1, 0, none⟩) 1 1, .slice (some ⟨w.heap.size + 3, 0, none⟩) 2 2] 25 (0, 0)) := by rw [hW]; exact heap_many _ w 4 _ rfl
  have r0 := cell_of_row W _ 0 _ _ _ hq4
  have r1 := cell_of_row W _ 1 _ _ _ hq4
  have r2 := cell_of_row W _ 2 _ _ _ hq4
  simp only [List.getElem?_toArray, List.getElem?_cons_succ, List.getElem?_cons_zero] at r0 r1 r2
  have HG := Lib.hid hg
  have HS := Lib.hid hs
  have HBW := Lib.hid hbW
  have HW := Lib.hid hW
  clear hg hq4 hs hbW hW
  go_enter Tryz.func7, Tryz.ntmps7
  go_wp2_with fail
  change Calls _ _ _ ((awObjs w.heap.size).foldl World.alloc w) _
  rw [← HW.out]
  refine (make_any 1 W HG.out).mono ?_
  rintro e w1 ⟨hb1, _, hgood⟩
  obtain ⟨o, ho, hout⟩ := hgood aw_bad
  have hoe := ho.det aw_ahead
  subst hoe
  rcases hout with ⟨hne, _⟩ | ⟨_, v, rows, rfl, hp, hsd, hown⟩
  · exact absurd gA_clash hne
  · have hre := aw_rows (show rows.Perm awRows by have := hp; rwa [show gA.2.2 = gAr from rfl, gA_rows] at this) hsd
    subst hre
    clear hp hsd ho hgood
    obtain ⟨A5, c5, rfl, hc5, hc5'⟩ := own_form hown
    have HR := Lib.hid (slR_own aw_fit hown)
    have HB1 := Lib.hid hb1
    have R0 := Lib.hid r0
    have R1 := Lib.hid r1
    have R2 := Lib.hid r2
    rw [show awRows.length = 2 from rfl] at HR hc5 ⊢
    clear hown hb1 r0 r1 r2
    go_wp2_with fail
    refine (look_any A5 2 c5 awRows 0 [0] w1 HR.out aw_sorted (by omega)).mono ?_
    rintro e w2 ⟨r, ok, rfl, hlk, hb2⟩
    obtain ⟨rfl, rfl⟩ := aw_look1 hlk
    have HB2 := Lib.hid (HB1.out.trans (hb2.mono HB1.out.size))
    have HR2 := Lib.hid (HR.out.next hb2 hb2.size)
    clear hlk hb2
    go_wp2_with fail
    refine (look_any A5 2 c5 awRows 1 [] w2 HR2.out aw_sorted (by omega)).mono ?_
    rintro e w3 ⟨r, ok, rfl, hlk, hb3⟩
    obtain ⟨rfl, rfl⟩ := aw_look2 hlk
    have HB3 := Lib.hid (HB2.out.trans (hb3.mono HB2.out.size))
    have HR3 := Lib.hid (HR2.out.next hb3 hb3.size)
    have HG3 := Lib.hid (HG.out.fut HB3.out (Nat.le_refl _) HB3.out.size)
    have s0 := (HB3.out.cell (p := ⟨w.heap.size + 4, 0, none⟩) (by have := HS.out; simp only []; omega)).trans R0.out
    have s1 := (HB3.out.cell (p := ⟨w.heap.size + 4, 1, none⟩) (by have := HS.out; simp only []; omega)).trans R1.out
    have s2 := (HB3.out.cell (p := ⟨w.heap.size + 4, 2, none⟩) (by have := HS.out; simp only []; omega)).trans R2.out
    obtain ⟨b1, o1, rfl, -, hb1, x0, x1, x2, -⟩ := HR3.out.rowAt (k := 0) (by decide)
    have HIS := Lib.hid (isTab_any (some ⟨b1, o1, none⟩) 2 c5 1 awRows w3 HG3.out HR3.out (by omega))
    rw [aw_is] at HIS
    simp only [Nat.zero_mul, Nat.add_zero] at x0 x1 x2
    change w3.cell? _ = some (.int .i64 0) at x0
    change w3.cell? _ = some (.string ⟨#[]⟩) at x1
    change w3.cell? _ = some (.int .i64 0) at x2
    clear hlk hb3
    go_wp2_with fail
    refine HIS.out.mono ?_
    rintro e w4 ⟨rfl, hb4⟩
    go_wp2_with fail
    go_ret
    exact ⟨rfl, HBW.out.trans ((HB3.out.trans (hb4.mono HB3.out.size)).mono (by have := HS.out; omega))⟩
end Go.Proofs.YtkedmiememnmjaaGreat
namespace Go.Proofs.YtkedmiememnmjaaGreat

theorem okB_iff {g : Gram} {k : Nat} (words : List Wd) : okB g.2.2 k g.1.length words = true ↔ ∀ a, a < g.1.length → ∀ w ∈ words, (matchW g.2.2 (ahD g.2.2 k w) (a : Int)).length ≤ 1 := by
  unfold okB oneB
  simp only [List.all_eq_true, List.mem_range, decide_eq_true_eq]
  exact ⟨fun h a ha w hw => h w hw a ha, fun h w hw a ha => h a ha w hw⟩
section
variable {g : Gram} {k : Nat} {s : Sets} (h : LawG g k) (hM : MadeG g.2.2 g.1.length k s)
include h hM
theorem clash_ok : clashW g.2.2 g.1.length s = [] ↔ okB g.2.2 k g.1.length (wordsW g.2.1.length k) = true := by
  rw [okB_iff]
  exact clash_nil (by have := h.few; omega) h.wellT hM (fun w _ => ahD_ok g.2.2 k w)
theorem row_good {rows : List Row} (hp : rows.Perm (rowsFrom 0 g.2.2 s)) : ∀ x ∈ rows, isRow g k x = true ∧ 0 ≤ x.1 ∧ x.1 < 4096 ∧ x.2.1.length ≤ 4 ∧ 0 ≤ x.2.2 ∧ x.2.2 < 4096 := by
  intro x hx
  obtain ⟨i, hi, hw, hm⟩ := (row_iff (by have := h.few; omega) h.wellT hM (fun w _ => ahD_ok g.2.2 k w)).1 (hp.mem_iff.1 hx)
  obtain ⟨r, hr, hr1, _⟩ := mem_matchW.1 hm
  have hil : i < g.2.2.length := (List.getElem?_eq_some_iff.1 hr).1
  obtain ⟨w1, w2⟩ := (mem_wordsW (by have := h.few; omega) k x.2.1).1 hw
  have hq := (gramB_good h.b).q
  have hnm := (gramB_good h.b).nm
  have hb := gram_bounds h.b r (List.mem_of_getElem? hr)
  have hk4 := h.k4
  refine ⟨?_, by omega, by omega, by omega, by omega, by omega⟩
  unfold isRow
  have e1 : decide (x.2.2 < 0) = false := by rw [decide_eq_false_iff_not]; omega
  have e2 : decide ((g.2.2.length : Int) ≤ x.2.2) = false := by rw [decide_eq_false_iff_not]; omega
  have e3 : leftAt g x.2.2 = x.1 := by
    unfold leftAt
    rw [hi, Int.toNat_natCast, List.getD_eq_getElem?_getD, hr]
    exact hr1
  have e4 : wordOk g.2.1.length k x.2.1 = true := by
    unfold wordOk overB
    rw [Bool.and_eq_true, List.all_eq_true]
    exact ⟨fun c hc => by rw [decide_eq_true_eq]; have := w2 c hc; omega, by rw [decide_eq_true_eq]; omega⟩
  have e5 : decide (leftAt g x.2.2 ≠ x.1) = false := by simp [e3]
  rw [e1, e2, e4, e5]
  rfl
theorem is_made {rows : List Row} (hc : clashW g.2.2 g.1.length s = []) (hp : rows.Perm (rowsFrom 0 g.2.2 s)) (hs : rows.Pairwise fun a b => ¬ rowLt b a) : isW g k rows = true := by
  have hpw : rows.Pairwise rowLt := rows_sorted hp (keys_of_clash h.well hM hc) hs
  have hr := row_good h hM hp
  have hf : ∀ (l : List Row) (p : Option Row), (∀ x ∈ l, isRow g k x = true) → l.Pairwise rowLt → (∀ y, p = some y → ∀ x ∈ l, rowLt y x) → isFrom g k p l = true := by
    intro l
    induction l with
    | nil => intro p _ _ _; cases p <;> rfl
    | cons x l ih =>
      intro p h1 h2 h3
      rw [List.pairwise_cons] at h2
      have ha : aheadR p x = false := by
        cases p with
        | none => rfl
        | some y =>
          have := (ordR_lt y x).2 (h3 y rfl x (by simp))
          show decide (0 ≤ ordR y x) = false
          rw [decide_eq_false_iff_not]
          omega
      have e : isFrom g k p (x :: l) = (!aheadR p x && isRow g k x && isFrom g k (some x) l) := by cases p <;> rfl
      rw [e, ha, h1 x (by simp), ih (some x) (fun y hy => h1 y (by simp [hy])) h2.2 (fun y hy z hz => by injection hy with hy; subst hy; exact h2.1 z hz)]
      rfl
  unfold isW
  rw [h.b, hf rows none (fun x hx => (hr x hx).1) hpw (fun y hy => by cases hy)]
  rfl
theorem rows_fit {rows : List Row} (hp : rows.Perm (rowsFrom 0 g.2.2 s)) : FitR rows := fun x hx => by
  obtain ⟨_, h1, h2, h3, h4, h5⟩ := row_good h hM hp x hx
  exact ⟨by omega, by unfold maxLen; omega, by omega⟩
end
theorem hitsW_le (words : List Wd) (hit : Int → Wd → Bool) : ∀ n, hitsW words hit n ≤ n * words.length
  | 0 => by simp [hitsW]
  | n + 1 => by
    have := hitsW_le words hit n
    have h2 := List.countP_le_length (p := hit (n : Int)) (l := words)
    show hitsW words hit n + words.countP (hit (n : Int)) ≤ (n + 1) * words.length
    rw [Nat.add_mul, Nat.one_mul]
    omega
noncomputable def hitB (rs : RuleL) (k : Nat) (a : Int) (w : Wd) : Bool := decide (matchW rs (ahD rs k w) a ≠ [])
theorem lastL_some {l : List Nat} {r : Int} (h : l.getLast? = some r.toNat) (h0 : 0 ≤ r) : lastL l = r := by
  unfold lastL
  rw [h]
  simp only
  omega
theorem lastL_ge (l : List Nat) : decide (0 ≤ lastL l) = decide (l ≠ []) := by
  rw [decide_eq_decide]
  constructor
  · intro h e
    rw [(lastL_none l).2 e] at h
    omega
  · intro h
    have h1 := lastL_bd l
    have h2 : lastL l ≠ -1 := fun e => h ((lastL_none l).1 e)
    omega
end Go.Proofs.YtkedmiememnmjaaGreat
namespace Go.Proofs.YtkedmiememnmjaaGreat
open Go.RowKit

set_option maxRecDepth 100000 in
set_option maxHeartbeats 16000000 in
theorem reached15_any {A1 A2 A3 : Option Addr} {n m q c1 c2 c3 : Nat} {g : Gram} (w : World) (h : GramR w w.heap.size A1 A2 A3 n m q c1 c2 c3 g) (hv : gramB g = true) :
    Calls Tryz.prog 26 #[gramV A1 A2 A3 n m q c1 c2 c3] w (OwnBools w (reached g.2.2 n)) := by
  have hbx := (Below.refl w.heap.size w).alloc (Nat.le_refl _) (.cells #[.slice A1 n c1, .slice A2 m c2, .slice A3 q c3] 25)
  have HV := Lib.hid ((h.fut (B' := w.heap.size + 1) hbx (Nat.le_refl _) (by omega)).rules)
  have HK := Lib.hid (Go.heap_alloc_new w (.cells #[.slice A1 n c1, .slice A2 m c2, .slice A3 q c3] 25))
  have HZ := Lib.hid (World.size_alloc w (.cells #[.slice A1 n c1, .slice A2 m c2, .slice A3 q c3] 25))
  have HBX := Lib.hid hbx
  have HCELL : Hid (∀ (w2 : World), w2.heap[w.heap.size]? = some (.cells #[.slice A1 n c1, .slice A2 m c2, .slice A3 q c3] 25 (0, 0)) → w2.cell? ⟨w.heap.size, 0, none⟩ = some (.slice A1 n c1) ∧ w2.cell? ⟨w.heap.size, 2, none⟩ = some (.slice A3 q c3)) := fun w2 hk => ⟨by rw [cell_of_row _ _ _ _ _ _ hk]; rfl, by rw [cell_of_row _ _ _ _ _ _ hk]; rfl⟩
  have hn1 : 1 ≤ n := by have := (gramB_good hv).n1; have := h.ln.1; omega
  have hn2 : n ≤ 256 := by have := (gramB_good hv).nm; have := h.ln.1; omega
  have hq2 : q ≤ 4096 := by have := (gramB_good hv).q; have := h.ln.2.2; omega
  have HFIT := Lib.hid (show ∀ r ∈ g.2.2, 0 ≤ r.1 ∧ r.1 < n ∧ r.2.length ≤ 64 ∧ ∀ s ∈ r.2, s < (n : Int) from fun r hr => by
    obtain ⟨f1, f2, f3, f4⟩ := (gramB_good hv).fit r hr
    have := h.ln.1
    exact ⟨f1, by omega, f3, fun s hs => by have := (f4 s hs).1; omega⟩)
  have HQ := Lib.hid h.ln.2.2
  obtain ⟨ns, ts, rs⟩ := g
  simp only at HV HFIT HQ ⊢
  clear h hv hbx
  obtain ⟨tot, htot⟩ : ∃ tot, tot = reached rs n := ⟨_, rfl⟩
  rw [← htot]
  have HTOT := Lib.hid (show tot = roundsOf reachStep rs (n + 1) ((List.replicate n false).set 0 true) from htot)
  clear htot
  have hmk := bool_make n (by omega) (w.alloc (.cells #[.slice A1 n c1, .slice A2 m c2, .slice A3 q c3] 25))
  rw [World.size_alloc] at hmk
  have HK2 := Lib.hid (Go.heap_alloc_new (w.alloc (.cells #[.slice A1 n c1, .slice A2 m c2, .slice A3 q c3] 25)) (.cells (List.replicate n (Value.bool false)).toArray 4))
  rw [World.size_alloc] at HK2
  have HB2 := Lib.hid ((Below.refl (w.heap.size + 1) (w.alloc (.cells #[.slice A1 n c1, .slice A2 m c2, .slice A3 q c3] 25))).alloc (Nat.le_of_eq (World.size_alloc _ _).symm) (.cells (List.replicate n (Value.bool false)).toArray 4))
  have HZ2 := Lib.hid (World.size_alloc (w.alloc (.cells #[.slice A1 n c1, .slice A2 m c2, .slice A3 q c3] 25)) (.cells (List.replicate n (Value.bool false)).toArray 4))
  obtain ⟨w2, hw2⟩ : ∃ w2, w2 = (w.alloc (.cells #[.slice A1 n c1, .slice A2 m c2, .slice A3 q c3] 25)).alloc (.cells (List.replicate n (Value.bool false)).toArray 4) := ⟨_, rfl⟩
  rw [← hw2] at hmk HK2 HB2 HZ2
  clear hw2
  go_enter Tryz.func26, Tryz.ntmps26
  have HR2 := Lib.hid (show w2.heap[w.heap.size + 1]? = some (.cells (bcellsB (List.replicate n false)).toArray 4 (0, 0)) by rw [HK2.out]; simp [bcellsB])
  have c9 : w2.cell? ⟨w.heap.size + 1, 0, none⟩ = some (.bool false) := by
    rw [bool_row_get HR2.out (by rw [List.length_replicate]; exact hn1)]
    simp
  have f9 : w2.frozen? ⟨w.heap.size + 1, 0, none⟩ = false := by simp [World.frozen?, HR2.out]
  have HR3 := Lib.hid (bool_row_set HR2.out (k := 0) true)
  have HB3 := Lib.hid (Below.setCell (p := ⟨w.heap.size + 1, 0, none⟩) HB2.out (Nat.le_refl _) (.bool true))
  clear HR2 HK2 HB2
  go_wp2_with fail
  generalize w.alloc (.cells #[.slice A1 n c1, .slice A2 m c2, .slice A3 q c3] 25) = w1 at *
  clear hmk c9 f9
  go_loopg [4] (n + 1) (fun left v4 wr => ∃ (i : Nat) (S : List Bool), i ≤ n + 1 ∧ n + 1 - i ≤ left ∧ v4 = .int .i64 i ∧ Hid (tot = roundsOf reachStep rs (n + 1 - i) S) ∧ Hid (S.length = n) ∧ Hid (wr.heap[w.heap.size + 1]? = some (.cells (bcellsB S).toArray 4 (0, 0))) ∧ Hid (Below (w.heap.size + 1) w1 wr))
  case atStart => exact ⟨0, (List.replicate n false).set 0 true, by omega, by omega, rfl, HTOT.out, by show _ = _; rw [List.length_set, List.length_replicate], HR3.out, HB3.out⟩
  case round =>
    clear HR3 HB3
    obtain ⟨i, S, hi, hleft, rfl, HT, HSL, HR, HB⟩ := hrel
    obtain ⟨gas, hgas⟩ : ∃ gas, gas = gk := ⟨_, rfl⟩
    rw [← hgas] at hleft
    have HGK := Lib.hid hgas
    clear hgas
    generalize wr = wo at *
    obtain ⟨a0, a2⟩ := HCELL.out wo ((HB.out.block w.heap.size (by omega)).trans HK.out)
    by_cases hlt : i < n + 1
    · have HT2 := Lib.hid (show tot = roundsOf reachStep rs (n - i) (rs.foldl reachStep S) by rw [HT.out, show n + 1 - i = (n - i) + 1 by omega]; rfl)
      have hdi : decide ((i : Int) ≤ (n : Int)) = true := by rw [decide_eq_true_eq]; omega
      have hdn : decide (i ≤ n) = true := by rw [decide_eq_true_eq]; omega
      clear HT
      go_wp2_with fail
      go_loopg [5] q (fun lf2 v5 wt => ∃ (j : Nat) (T : List Bool), j ≤ q ∧ q - j ≤ lf2 ∧ v5 = .int .i64 j ∧ Hid (rs.foldl reachStep S = (rs.drop j).foldl reachStep T) ∧ Hid (T.length = n) ∧ Hid (wt.heap[w.heap.size + 1]? = some (.cells (bcellsB T).toArray 4 (0, 0))) ∧ Hid (Below (w.heap.size + 1) w1 wt))
      case atStart => exact ⟨0, S, by omega, by omega, rfl, rfl, HSL.out, HR.out, HB.out⟩
      case round =>
        clear HR HB HSL a0 a2
        obtain ⟨j, T, hj, hlf2, rfl, HF, HTL, HR, HB⟩ := hrel
        obtain ⟨gas2, hgas2⟩ : ∃ gas2, gas2 = gk := ⟨_, rfl⟩
        rw [← hgas2] at hlf2
        have HGK2 := Lib.hid hgas2
        clear hgas2
        generalize wr = wp at *
        obtain ⟨a0, a2⟩ := HCELL.out wp ((HB.out.block w.heap.size (by omega)).trans HK.out)
        by_cases hjq : j < q
        · have hjl : j < rs.length := by rw [← HQ.out]; exact hjq
          have HF2 := Lib.hid (show rs.foldl reachStep S = (rs.drop (j + 1)).foldl reachStep (rs[j].2.foldl (fun R s => reachSym R rs[j].1 s) T) by rw [HF.out, foldl_drop hjl]; rfl)
          obtain ⟨f1, f2, f3, f4⟩ := HFIT.out rs[j] (List.getElem_mem hjl)
          have HRE := Lib.hid (show ∀ w' : World, Below (w.heap.size + 1) w1 w' → ∃ (b off : Nat) (A5 : Option Addr) (c5 : Nat), A3 = some ⟨b, off, none⟩ ∧ w'.cell? ⟨b, off + j * 2, none⟩ = some (.int .i64 rs[j].1) ∧ w'.cell? ⟨b, off + j * 2 + 1, none⟩ = some (.slice A5 rs[j].2.length c5) ∧ rs[j].2.length ≤ c5 ∧ c5 ≤ maxLen ∧ SlR eInt w' (w.heap.size + 1) (.slice A5 rs[j].2.length c5) rs[j].2 from fun w' hb => by
            obtain ⟨b, off, cs, rfl, -, hbl, hrep, hcell⟩ := (HV.out.below hb).get (k := j) hjl (by decide)
            obtain ⟨v, rfl, hsl, hz1, hz2⟩ := eRule_open hrep
            obtain ⟨A5, c5, rfl, hl5, hl6⟩ := hsl.form
            have hc0 := hcell 0 _ rfl
            have hc1 := hcell 1 _ rfl
            simp only [show eRule.size = 2 from rfl, Nat.add_zero, ← Nat.add_assoc] at hc0 hc1
            exact ⟨b, off, A5, c5, rfl, hc0, hc1, hl5, hl6, hsl⟩)
          obtain ⟨r, hr⟩ : ∃ r, r = rs[j] := ⟨_, rfl⟩
          rw [← hr] at HF2 HRE f1 f2 f3 f4
          obtain ⟨a, right⟩ := r
          simp only at HF2 HRE f1 f2 f3 f4
          obtain ⟨at_, rfl⟩ : ∃ at_ : Nat, a = (at_ : Int) := ⟨a.toNat, by omega⟩
          have hatn : at_ < n := by omega
          obtain ⟨p, hp⟩ : ∃ p, p = right.length := ⟨_, rfl⟩
          rw [← hp] at HRE f3
          have HP := Lib.hid hp
          have HF4 := Lib.hid f4
          clear hr hp hjl HF f4 f1 f2
          go_wp2_with fail
          go_loopg [6] p (fun lf3 v6 wt => ∃ (k : Nat) (U : List Bool), k ≤ p ∧ p - k ≤ lf3 ∧ v6 = .int .i64 k ∧ Hid (right.foldl (fun R s => reachSym R at_ s) T = (right.drop k).foldl (fun R s => reachSym R at_ s) U) ∧ Hid (U.length = n) ∧ Hid (wt.heap[w.heap.size + 1]? = some (.cells (bcellsB U).toArray 4 (0, 0))) ∧ Hid (Below (w.heap.size + 1) w1 wt))
          case atStart => exact ⟨0, T, by omega, by omega, rfl, rfl, HTL.out, HR.out, HB.out⟩
          case round =>
            clear HR HB HTL a0 a2
            obtain ⟨k, U, hk, hlf3, rfl, HU, HUL, HR, HB⟩ := hrel
            obtain ⟨a0, a2⟩ := HCELL.out wr ((HB.out.block w.heap.size (by omega)).trans HK.out)
            obtain ⟨b, off, A5, c5, rfl, hc0, hc1, hl5, hl6, hsl⟩ := HRE.out wr HB.out
            by_cases hkp : k < p
            · have hkl : k < right.length := by rw [← HP.out]; exact hkp
              obtain ⟨b4, o4, cs4, rfl, -, -, hrep4, hcell4⟩ := hsl.get (k := k) hkl (by decide)
              obtain ⟨rfl, hx1, hx2⟩ := hrep4
              have hc4 := hcell4 0 _ rfl
              simp only [show eInt.size = 1 from rfl, Nat.mul_one, Nat.add_zero] at hc4
              have HU2 := Lib.hid (show right.foldl (fun R s => reachSym R at_ s) T = (right.drop (k + 1)).foldl (fun R s => reachSym R at_ s) (reachSym U at_ right[k]) by rw [HU.out, List.drop_eq_getElem_cons hkl, List.foldl_cons])
              have hsn := HF4.out _ (List.getElem_mem hkl)
              obtain ⟨s, hs⟩ : ∃ s, s = right[k] := ⟨_, rfl⟩
              rw [← hs] at hc4 HU2 hsn hx1 hx2
              have hatU : at_ < U.length := by rw [HUL.out]; exact hatn
              have cK := bool_row_get HR.out hatU
              have HKB := Lib.hid (show U.getD at_ false = U[at_] by rw [List.getD_eq_getElem?_getD, List.getElem?_eq_getElem hatU]; rfl)
              obtain ⟨bk, hbk⟩ : ∃ bk, bk = U[at_] := ⟨_, rfl⟩
              rw [← hbk] at cK HKB
              clear hcell4 hs hkl hsl hbk hatU
              by_cases hs0 : s < 0
              · have hd : decide (0 ≤ s) = false := by simpa using hs0
                have HE := Lib.hid (show reachSym U at_ s = U by unfold reachSym; rw [if_neg (by simp; omega)])
                rw [HE.out] at HU2
                go_wp2_with fail
                go_roundg (gk - 1)
                case measure => omega
                case rel => exact ⟨k + 1, U, by omega, by omega, by go_num, HU2.out, HUL.out, HR.out, HB.out⟩
              · have hd : decide (0 ≤ s) = true := by simp; omega
                obtain ⟨t, rfl⟩ : ∃ t : Nat, s = (t : Int) := ⟨s.toNat, by omega⟩
                have htn : t < n := by omega
                cases bk with
                | false =>
                  have HE := Lib.hid (show reachSym U at_ (t : Int) = U by unfold reachSym; rw [Int.toNat_natCast, HKB.out]; simp)
                  rw [HE.out] at HU2
                  go_wp2_with fail
                  go_roundg (gk - 1)
                  case measure => omega
                  case rel => exact ⟨k + 1, U, by omega, by omega, by go_num, HU2.out, HUL.out, HR.out, HB.out⟩
                | true =>
                  have HE := Lib.hid (show reachSym U at_ (t : Int) = U.set t true by unfold reachSym; rw [Int.toNat_natCast, HKB.out]; simp)
                  rw [HE.out] at HU2
                  have htU : t < U.length := by rw [HUL.out]; exact htn
                  have cT := bool_row_get HR.out htU
                  have fT : wr.frozen? ⟨w.heap.size + 1, t, none⟩ = false := by simp [World.frozen?, HR.out]
                  obtain ⟨bt, hbt⟩ : ∃ bt, bt = U[t] := ⟨_, rfl⟩
                  rw [← hbt] at cT
                  have HR3 := Lib.hid (bool_row_set HR.out (k := t) true)
                  have HB3 := Lib.hid (Below.setCell (p := ⟨w.heap.size + 1, t, none⟩) HB.out (Nat.le_refl _) (.bool true))
                  clear hbt htU
                  go_wp2_with fail
                  go_roundg (gk - 1)
                  case measure => omega
                  case rel => exact ⟨k + 1, U.set t true, by omega, by omega, by go_num, HU2.out, by show _ = _; rw [List.length_set]; exact HUL.out, HR3.out, HB3.out⟩
            · have HF3 := Lib.hid (show rs.foldl reachStep S = (rs.drop (j + 1)).foldl reachStep U by
                rw [HF2.out, HU.out, show right.drop k = [] from List.drop_eq_nil_of_le (by rw [← HP.out]; omega)]; rfl)
              clear hsl
              go_wp2_with fail
              go_roundg (gas2 - 1)
              case measure => have := HGK2.out; omega
              case rel => exact ⟨j + 1, U, by omega, by omega, by go_num, HF3.out, HUL.out, HR.out, HB.out⟩
        · have HT3 := Lib.hid (show tot = roundsOf reachStep rs (n + 1 - (i + 1)) T by
            rw [HT2.out, HF.out, List.drop_eq_nil_of_le (by rw [← HQ.out]; omega), show n + 1 - (i + 1) = n - i by omega]; rfl)
          go_wp2_with fail
          go_roundg (gas - 1)
          case measure => have := HGK.out; omega
          case rel => exact ⟨i + 1, T, by omega, by omega, by go_num, HT3.out, HTL.out, HR.out, HB.out⟩
    · have HE := Lib.hid (show tot = S by rw [HT.out, show n + 1 - i = 0 by omega]; rfl)
      have hdi : decide ((i : Int) ≤ (n : Int)) = false := by simp; omega
      go_wp2_with fail
      go_ret
      refine ⟨w.heap.size + 1, ?_, ?_, Nat.le_succ _, HBX.out.trans (HB.out.mono (Nat.le_succ _))⟩
      · rw [HE.out, HSL.out]; rfl
      · rw [HE.out]; exact HR.out
end Go.Proofs.YtkedmiememnmjaaGreat
