/- Texts of this proof joined: Tab4, Awk23, ClashLaw. -/
import Derived.Test.YtkedmiememnmjaaGreatTB22
import Derived.Test.YtkedmiememnmjaaGreatTB08
import Derived.Deep.DeepCutAuto
import Derived.Test.YtkedmiememnmjaaGreatTB24
namespace Go.Proofs.YtkedmiememnmjaaGreat
open Go.RowKit

def leftAt (g : Gram) (i : Int) : Int := (g.2.2.getD i.toNat (0, [])).1
def isRow (g : Gram) (k : Int) (x : Row) : Bool := !(decide (x.2.2 < 0) || decide ((g.2.2.length : Int) ≤ x.2.2) || decide (leftAt g x.2.2 ≠ x.1) || !wordOk g.2.1.length k x.2.1)
def aheadR (p : Option Row) (x : Row) : Bool := match p with
  | none => false
  | some y => decide (0 ≤ ordR y x)
def isFrom (g : Gram) (k : Int) : Option Row → List Row → Bool
  | _, [] => true
  | p, x :: l => !aheadR p x && isRow g k x && isFrom g k (some x) l
def isW (g : Gram) (k : Int) (rows : List Row) : Bool := gramB g && isFrom g k none rows
def prevAt (rows : List Row) : Nat → Option Row
  | 0 => none
  | i + 1 => rows[i]?
theorem isFrom_at {g : Gram} {k : Int} {rows : List Row} {i : Nat} (h : i < rows.length) : isFrom g k (prevAt rows i) (rows.drop i) = (!aheadR (prevAt rows i) rows[i] && isRow g k rows[i] && isFrom g k (prevAt rows (i + 1)) (rows.drop (i + 1))) := by
  rw [List.drop_eq_getElem_cons h]
  simp only [isFrom, prevAt, List.getElem?_eq_getElem h]
set_option maxRecDepth 100000 in
set_option maxHeartbeats 8000000 in
theorem isTab_any {A1 A2 A3 : Option Addr} {n m q c1 c2 c3 : Nat} {g : Gram} (A : Option Addr) (nr c : Nat) (k : Int) (rows : List Row) (w : World) (h : GramR w w.heap.size A1 A2 A3 n m q c1 c2 c3 g) (hv : SlR eRow w w.heap.size (.slice A nr c) rows) (hle : nr ≤ 1048576) :
    Calls Tryz.prog 11 #[gramV A1 A2 A3 n m q c1 c2 c3, .int .i64 k, .slice A nr c] w fun e w' => e = .returned (.bool (isW g k rows)) ∧ Below w.heap.size w w' := by
  have hbx := (Below.refl w.heap.size w).alloc (Nat.le_refl _) (.cells #[.slice A1 n c1, .slice A2 m c2, .slice A3 q c3] 25)
  have HV := Lib.hid ((h.fut (B' := w.heap.size + 1) hbx (Nat.le_refl _) (by omega)))
  have HR := Lib.hid (show SlR eRow _ (w.heap.size + 1) (.slice A nr c) rows from hv.fut hbx (Nat.le_refl _) (by omega))
  have HK := Lib.hid (Go.heap_alloc_new w (.cells #[.slice A1 n c1, .slice A2 m c2, .slice A3 q c3] 25))
  have HZ := Lib.hid (World.size_alloc w (.cells #[.slice A1 n c1, .slice A2 m c2, .slice A3 q c3] 25))
  have HBX := Lib.hid hbx
  have HL := Lib.hid h.ln
  have hsm := h.small
  have HNR := Lib.hid hv.n_eq
  have hnc := hv.n_le
  clear h hbx hv
  have HCELL : Hid (∀ (w2 : World), w2.heap[w.heap.size]? = some (.cells #[.slice A1 n c1, .slice A2 m c2, .slice A3 q c3] 25 (0, 0)) → w2.cell? ⟨w.heap.size, 0, none⟩ = some (.slice A1 n c1) ∧ w2.cell? ⟨w.heap.size, 1, none⟩ = some (.slice A2 m c2) ∧ w2.cell? ⟨w.heap.size, 2, none⟩ = some (.slice A3 q c3)) := fun w2 hk => ⟨by rw [cell_of_row _ _ _ _ _ _ hk]; rfl, by rw [cell_of_row _ _ _ _ _ _ hk]; rfl, by rw [cell_of_row _ _ _ _ _ _ hk]; rfl⟩
  go_enter Tryz.func11, Tryz.ntmps11
  go_wp2_with fail
  generalize w.alloc (.cells #[.slice A1 n c1, .slice A2 m c2, .slice A3 q c3] 25) = w1 at *
  refine (GramR.valid (w := w1) (by rw [HZ.out]; exact HV.out)).mono ?_
  rintro e w2 ⟨rfl, hb2⟩
  have HB2 := Lib.hid (show Below (w.heap.size + 1) w1 w2 from hb2.mono (Nat.le_of_eq HZ.out.symm))
  clear hb2
  cases hv : gramB g with
  | false =>
    have HC := Lib.hid (show isW g k rows = false by unfold isW; rw [hv]; rfl)
    clear hv
    go_wp2_with fail
    go_ret
    exact ⟨rt1 (vbool HC.out.symm), HBX.out.trans (HB2.out.mono (by omega))⟩
  | true =>
    have HC := Lib.hid (show isW g k rows = isFrom g k none rows by unfold isW; rw [hv]; rfl)
    clear hv
    go_wp2_with fail
    go_loopg [14] nr (fun left v14 wr => ∃ i : Nat, i ≤ nr ∧ nr - i ≤ left ∧ v14 = .int .i64 i ∧ Hid (isW g k rows = isFrom g k (prevAt rows i) (rows.drop i)) ∧ Hid (Below (w.heap.size + 1) w1 wr))
    case atStart => exact ⟨0, by omega, by omega, rfl, HC.out, HB2.out⟩
    case round =>
      clear HC HB2
      obtain ⟨i, hi, hleft, rfl, HI, HBR⟩ := hrel
      have HSR := Lib.hid (show w.heap.size + 1 ≤ wr.heap.size by have := HBR.out.size; have := HZ.out; omega)
      by_cases hib : i < nr
      · have hil : i < rows.length := by rw [← HNR.out]; exact hib
        obtain ⟨b1, o1, rfl, -, hb1, x0, x1, x2, hrep⟩ := (HR.out.below HBR.out).rowAt hil
        have hfit := (eRow_open hrep).2
        have HI2 := Lib.hid (HI.out.trans (isFrom_at hil))
        obtain ⟨x, hx⟩ : ∃ x, x = rows[i] := ⟨_, rfl⟩
        rw [← hx] at x0 x1 x2 hfit HI2
        have HX := Lib.hid hx
        clear hx hrep HI
        obtain ⟨xa, xs1, xi⟩ := x
        simp only at x0 x1 x2 hfit
        go_upto_region 6 with fail
        have hb3 := (Below.refl wr.heap.size wr).alloc (Nat.le_refl _) (.cells #[.int .i64 xa, wv xs1, .int .i64 xi] 54)
        have HB3 := Lib.hid (show Below (w.heap.size + 1) w1 _ from HBR.out.trans (hb3.mono HSR.out))
        have HZ3 := Lib.hid (World.size_alloc wr (.cells #[.int .i64 xa, wv xs1, .int .i64 xi] 54))
        have HK3 := Lib.hid (Go.heap_alloc_new wr (.cells #[.int .i64 xa, wv xs1, .int .i64 xi] 54))
        generalize wr.alloc (.cells #[.int .i64 xa, wv xs1, .int .i64 xi] 54) = w3 at *
        have y0 : w3.cell? ⟨wr.heap.size, 0, none⟩ = some (.int .i64 xa) := by rw [cell_of_row _ _ _ _ _ _ HK3.out]; rfl
        have y1 : w3.cell? ⟨wr.heap.size, 1, none⟩ = some (wv xs1) := by rw [cell_of_row _ _ _ _ _ _ HK3.out]; rfl
        have y2 : w3.cell? ⟨wr.heap.size, 2, none⟩ = some (.int .i64 xi) := by rw [cell_of_row _ _ _ _ _ _ HK3.out]; rfl
        clear x0 x1 x2 hb3
        obtain ⟨b6, hb6⟩ : ∃ b6, b6 = aheadR (prevAt rows i) (xa, xs1, xi) := ⟨_, rfl⟩
        rw [← hb6] at HI2
        have HB6 := Lib.hid hb6
        clear hb6
        go_cut [30] (fun v30 wx => v30 = .bool b6 ∧ Hid (Below w3.heap.size w3 wx))
        case first =>
          cases i with
          | zero =>
            have HE := Lib.hid (show b6 = false from HB6.out)
            refine Text.wp_grow [9] [7, 8] [] (by kernel_rfl) (by kernel_rfl) ?_
            refine Text.wpS_seg 9 _ _ _ _ (by decide) (fun Q' hQ' => ?_)
            simp only [List.take_succ_cons, List.take_zero]
            go_wp2_with fail
            simp only [Nat.zero_add, List.drop_succ_cons, List.drop_zero]
            refine Text.wpS_one (fun Q' hQ' => ?_)
            go_wp2_with fail
            refine ⟨Below.refl _ _, ?_⟩
            refine Text.wpS_seg 2 _ _ _ _ (by decide) (fun Q' hQ' => ?_)
            simp only [List.take_succ_cons, List.take_zero]
            go_wp2_with fail
            refine ⟨by rfl, ?_, ?_⟩
            · exact ⟨Text.no_want rfl, Text.no_want rfl, trivial⟩
            go_wp2_with fail
            go_meet
            case rel => exact ⟨by rw [HE.out], (Below.refl _ _).drew⟩
          | succ i' =>
            have hil : i' < rows.length := by rw [← HNR.out]; omega
            obtain ⟨b5, o5, he5, -, hb5, z0, z1, z2, -⟩ := (HR.out.below HB3.out).rowAt hil
            injection he5 with he5
            injection he5 with e1 e2
            subst e1 e2
            have HE := Lib.hid (show b6 = decide (0 ≤ ordR rows[i'] (xa, xs1, xi)) by rw [HB6.out]; simp only [prevAt, List.getElem?_eq_getElem hil, aheadR])
            obtain ⟨y, hy⟩ : ∃ y, y = rows[i'] := ⟨_, rfl⟩
            rw [← hy] at z0 z1 z2 HE
            clear hy hil
            obtain ⟨ya, ys1, yi⟩ := y
            simp only at z0 z1 z2
            have HO := Lib.hid (order_any (ya, ys1, yi) (xa, xs1, xi))
            obtain ⟨oo, hoo⟩ : ∃ oo, oo = ordR (ya, ys1, yi) (xa, xs1, xi) := ⟨_, rfl⟩
            rw [← hoo] at HE HO
            clear hoo
            have he7 : ((i' + 1 : Nat) : Int) - 1 = i' := by omega
            refine Text.wp_grow [9] [7, 8] [] (by kernel_rfl) (by kernel_rfl) ?_
            refine Text.wpS_seg 9 _ _ _ _ (by decide) (fun Q' hQ' => ?_)
            simp only [List.take_succ_cons, List.take_zero]
            go_wp2_with fail
            try simp only [Nat.zero_add, List.drop_succ_cons, List.drop_zero]
            refine Text.wpS_one (fun Q' hQ' => ?_)
            go_wp2_with fail
            refine (HO.out _).mono ?_
            rintro e w5 ⟨rfl, hb5', _⟩
            go_wp2_with fail
            refine ⟨hb5', ?_⟩
            refine Text.wpS_seg 2 _ _ _ _ (by decide) (fun Q' hQ' => ?_)
            simp only [List.take_succ_cons, List.take_zero]
            go_wp2_with fail
            refine ⟨by rfl, ?_, ?_⟩
            · exact ⟨fun _ => ⟨_, _, rfl, z0⟩, fun _ => ⟨_, _, rfl, y0⟩, trivial⟩
            go_wp2_with fail
            go_meet
            case rel => exact ⟨by rw [HE.out], (Below.refl _ _).drew.trans hb5'⟩
        case rest =>
          obtain ⟨rfl, HBX6⟩ := hcut
          generalize wc = wx at *
          have HB5 := Lib.hid (show Below (w.heap.size + 1) w1 wx from HB3.out.trans (HBX6.out.mono (by have := HZ3.out; have := HSR.out; omega)))
          have HK5 := Lib.hid ((HBX6.out.block wr.heap.size (by have := HZ3.out; omega)).trans HK3.out)
          have HKG := Lib.hid ((HB5.out.block w.heap.size (by omega)).trans HK.out)
          have HS5 := Lib.hid (show wr.heap.size + 1 ≤ wx.heap.size by have := HBX6.out.size; have := HZ3.out; omega)
          obtain ⟨a0, a1, a2⟩ := HCELL.out wx HKG.out
          clear y0 y1 y2 HK3 HB3 HZ3 HBX6 a0
          have y0 : wx.cell? ⟨wr.heap.size, 0, none⟩ = some (.int .i64 xa) := by rw [cell_of_row _ _ _ _ _ _ HK5.out]; rfl
          have y1 : wx.cell? ⟨wr.heap.size, 1, none⟩ = some (wv xs1) := by rw [cell_of_row _ _ _ _ _ _ HK5.out]; rfl
          have y2 : wx.cell? ⟨wr.heap.size, 2, none⟩ = some (.int .i64 xi) := by rw [cell_of_row _ _ _ _ _ _ HK5.out]; rfl
          cases b6 with
          | true =>
            have HF := Lib.hid (show isW g k rows = false by rw [HI2.out]; rfl)
            go_wp2_with fail
            go_ret
            exact ⟨rt1 (vbool HF.out.symm), HBX.out.trans (HB5.out.mono (by omega))⟩
          | false =>
          go_upto_region 8 with fail
          obtain ⟨b8, hb8⟩ : ∃ b8, b8 = isRow g k (xa, xs1, xi) := ⟨_, rfl⟩
          rw [← hb8] at HI2
          have HB8 := Lib.hid hb8
          clear hb8
          go_cut [63] (fun v63 wy => v63 = .bool (!b8) ∧ Hid (Below wx.heap.size wx wy))
          case first =>
           by_cases hx0 : xi < 0
           · have hd0 : decide (xi < 0) = true := by simpa using hx0
             have HE := Lib.hid (show (!b8) = true by rw [HB8.out]; unfold isRow; simp [hx0])
             clear hx0
             refine Text.wp_grow [30] [1, 5, 7, 13, 15, 18, 20, 25, 27] [] (by kernel_rfl) (by kernel_rfl) ?_
             refine Text.wpS_seg 30 _ _ _ _ (by decide) (fun Q' hQ' => ?_)
             simp only [List.take_succ_cons, List.take_zero]
             go_wp2_with fail
             try simp only [Nat.zero_add, List.drop_succ_cons, List.drop_zero]
             refine Text.wpS_one (fun Q' hQ' => ?_)
             go_wp2_with fail
             refine ⟨Below.refl _ _, ?_⟩
             refine Text.wpS_seg 2 _ _ _ _ (by decide) (fun Q' hQ' => ?_)
             simp only [List.take_succ_cons, List.take_zero]
             go_wp2_with fail
             refine ⟨by rfl, ?_, ?_⟩
             · exact ⟨fun _ => ⟨_, _, rfl, y2⟩, Text.no_want rfl, Text.no_want rfl, Text.no_want rfl, Text.no_want rfl, Text.no_want rfl, Text.no_want rfl, Text.no_want rfl, Text.no_want rfl, trivial⟩
             go_wp2_with fail
             go_meet
             case rel => exact ⟨by rw [HE.out], (Below.refl _ _).drew⟩
           · have hd0 : decide (xi < 0) = false := by simpa using hx0
             by_cases hxq : (q : Int) ≤ xi
             · have hd1 : decide ((q : Int) ≤ xi) = true := by simpa using hxq
               have HE := Lib.hid (show (!b8) = true by rw [HB8.out]; unfold isRow; rw [← HL.out.2.2]; simp [hxq])
               clear hx0 hxq
               refine Text.wp_grow [30] [1, 5, 7, 13, 15, 18, 20, 25, 27] [] (by kernel_rfl) (by kernel_rfl) ?_
               refine Text.wpS_seg 30 _ _ _ _ (by decide) (fun Q' hQ' => ?_)
               simp only [List.take_succ_cons, List.take_zero]
               go_wp2_with fail
               try simp only [Nat.zero_add, List.drop_succ_cons, List.drop_zero]
               refine Text.wpS_one (fun Q' hQ' => ?_)
               go_wp2_with fail
               refine ⟨Below.refl _ _, ?_⟩
               refine Text.wpS_seg 2 _ _ _ _ (by decide) (fun Q' hQ' => ?_)
               simp only [List.take_succ_cons, List.take_zero]
               go_wp2_with fail
               refine ⟨by rfl, ?_, ?_⟩
               · exact ⟨fun _ => ⟨_, _, rfl, y2⟩, fun _ => ⟨_, _, rfl, y2⟩, fun _ => ⟨_, _, rfl, a2⟩, Text.no_want rfl, Text.no_want rfl, Text.no_want rfl, Text.no_want rfl, Text.no_want rfl, Text.no_want rfl, trivial⟩
               go_wp2_with fail
               go_meet
               case rel => exact ⟨by rw [HE.out], (Below.refl _ _).drew⟩
             · have hd1 : decide ((q : Int) ≤ xi) = false := by simpa using hxq
               obtain ⟨j, rfl⟩ : ∃ j : Nat, xi = (j : Int) := ⟨xi.toNat, by omega⟩
               have hjq : j < q := by omega
               have hjl : j < g.2.2.length := by rw [← HL.out.2.2]; exact hjq
               have hd3 : decide (q ≤ j) = false := by simpa using hjq
               obtain ⟨b2, o2, cs, rfl, -, -, hrep, hcell⟩ := (HV.out.rules.below HB5.out).get (k := j) hjl (by decide)
               obtain ⟨v, rfl, -, -, -⟩ := eRule_open hrep
               have hc0 := hcell 0 _ rfl
               simp only [show eRule.size = 2 from rfl, Nat.add_zero] at hc0
               have HLF := Lib.hid (show leftAt g (j : Int) = g.2.2[j].1 by unfold leftAt; rw [Int.toNat_natCast, List.getD_eq_getElem?_getD, List.getElem?_eq_getElem hjl]; rfl)
               obtain ⟨lf, hlf⟩ : ∃ lf, lf = g.2.2[j].1 := ⟨_, rfl⟩
               rw [← hlf] at hc0 HLF
               have HIS := Lib.hid (show isRow g k (xa, xs1, (j : Int)) = !(decide (lf ≠ xa) || !wordOk m k xs1) by
                 unfold isRow
                 rw [← HL.out.2.2, ← HL.out.2.1, HLF.out, hd0, hd1]
                 rfl)
               clear hcell hrep hlf hjl hx0 hxq
               by_cases hll : lf = xa
               · have hd2 : (lf != xa) = false := by simpa using hll
                 have HWV := Lib.hid (fun w => wordValid_any xs1 (m : Int) k w hfit.2.1)
                 have HE := Lib.hid (show (!b8) = !wordOk m k xs1 by rw [HB8.out, HIS.out]; simp [hll])
                 obtain ⟨bw, hbw⟩ : ∃ bw, bw = wordOk m k xs1 := ⟨_, rfl⟩
                 rw [← hbw] at HWV HE
                 clear hbw hll
                 refine Text.wp_grow [30] [1, 5, 7, 13, 15, 18, 20, 25, 27] [] (by kernel_rfl) (by kernel_rfl) ?_
                 refine Text.wpS_seg 30 _ _ _ _ (by decide) (fun Q' hQ' => ?_)
                 simp only [List.take_succ_cons, List.take_zero]
                 go_wp2_with fail
                 try simp only [Nat.zero_add, List.drop_succ_cons, List.drop_zero]
                 refine Text.wpS_one (fun Q' hQ' => ?_)
                 go_wp2_with fail
                 refine (HWV.out _).mono ?_
                 rintro e w6 ⟨rfl, hb6'⟩
                 go_wp2_with fail
                 refine ⟨hb6', ?_⟩
                 refine Text.wpS_seg 2 _ _ _ _ (by decide) (fun Q' hQ' => ?_)
                 simp only [List.take_succ_cons, List.take_zero]
                 go_wp2_with fail
                 refine ⟨by rfl, ?_, ?_⟩
                 · exact ⟨fun _ => ⟨_, _, rfl, y2⟩, fun _ => ⟨_, _, rfl, y2⟩, fun _ => ⟨_, _, rfl, a2⟩, fun _ => ⟨_, _, rfl, a2⟩, fun _ => ⟨_, _, rfl, y2⟩, fun _ => ⟨_, _, rfl, hc0⟩, fun _ => ⟨_, _, rfl, y0⟩, fun _ => ⟨_, _, rfl, y1⟩, fun _ => ⟨_, _, rfl, a1⟩, trivial⟩
                 go_wp2_with fail
                 go_meet
                 case rel => exact ⟨by rw [HE.out], (Below.refl _ _).drew.trans hb6'⟩
               · have hd2 : (lf != xa) = true := by simpa using hll
                 have HE := Lib.hid (show (!b8) = true by rw [HB8.out, HIS.out]; simp [hll])
                 clear hll
                 refine Text.wp_grow [30] [1, 5, 7, 13, 15, 18, 20, 25, 27] [] (by kernel_rfl) (by kernel_rfl) ?_
                 refine Text.wpS_seg 30 _ _ _ _ (by decide) (fun Q' hQ' => ?_)
                 simp only [List.take_succ_cons, List.take_zero]
                 go_wp2_with fail
                 try simp only [Nat.zero_add, List.drop_succ_cons, List.drop_zero]
                 refine Text.wpS_one (fun Q' hQ' => ?_)
                 go_wp2_with fail
                 refine ⟨Below.refl _ _, ?_⟩
                 refine Text.wpS_seg 2 _ _ _ _ (by decide) (fun Q' hQ' => ?_)
                 simp only [List.take_succ_cons, List.take_zero]
                 go_wp2_with fail
                 refine ⟨by rfl, ?_, ?_⟩
                 · exact ⟨fun _ => ⟨_, _, rfl, y2⟩, fun _ => ⟨_, _, rfl, y2⟩, fun _ => ⟨_, _, rfl, a2⟩, fun _ => ⟨_, _, rfl, a2⟩, fun _ => ⟨_, _, rfl, y2⟩, fun _ => ⟨_, _, rfl, hc0⟩, fun _ => ⟨_, _, rfl, y0⟩, Text.no_want rfl, Text.no_want rfl, trivial⟩
                 go_wp2_with fail
                 go_meet
                 case rel => exact ⟨by rw [HE.out], (Below.refl _ _).drew⟩
          case rest =>
            obtain ⟨rfl, HB9⟩ := hcut
            generalize wc = wy at *
            have HB10 := Lib.hid (HB5.out.trans (HB9.out.mono (by have := HS5.out; have := HSR.out; omega)))
            cases b8 with
            | false =>
              have HF := Lib.hid (show isW g k rows = false by rw [HI2.out]; rfl)
              go_wp2_with fail
              go_ret
              exact ⟨rt1 (vbool HF.out.symm), HBX.out.trans (HB10.out.mono (by omega))⟩
            | true =>
              go_wp2_with fail
              go_roundg (gk - 1)
              case measure => omega
              case rel => exact ⟨i + 1, by omega, by omega, by go_num, by show _ = _; rw [HI2.out]; simp, HB10.out⟩
      · have HF := Lib.hid (show isW g k rows = true by
          rw [HI.out, List.drop_eq_nil_of_le (by rw [← HNR.out]; omega)]
          rfl)
        go_wp2_with fail
        go_ret
        exact ⟨rt1 (vbool HF.out.symm), HBX.out.trans (HBR.out.mono (by omega))⟩
end Go.Proofs.YtkedmiememnmjaaGreat
namespace Go.Proofs.YtkedmiememnmjaaGreat
open Go.RowKit

theorem perm_two {α : Type} {a b : α} {l : List α} (h : l.Perm [a, b]) : l = [a, b] ∨ l = [b, a] := by
  have hl := h.length_eq
  match l, hl with
  | [x, y], _ =>
    have ha : a ∈ [x, y] := h.mem_iff.2 (by simp)
    rw [List.mem_cons, List.mem_singleton] at ha
    rcases ha with e | e
    · subst e
      have := (List.Perm.cons_inv h).eq_singleton
      left
      rw [this]
    · subst e
      have := (List.Perm.cons_inv ((List.Perm.swap x a []).trans h)).eq_singleton
      right
      injection this with this
      rw [this]
def awRows : List Row := [(0, [], 0), (0, [0], 1)]
theorem aw_rows {rows : List Row} (hp : rows.Perm awRows) (hs : rows.Pairwise fun a b => ¬ rowLt b a) : rows = awRows := by
  rcases perm_two hp with h | h
  · exact h
  · rw [h] at hs
    have := (List.pairwise_cons.1 hs).1 (0, [], 0) (by simp)
    exact absurd (show rowLt ((0 : Int), ([] : Wd), (0 : Int)) (0, [0], 1) from .inr ⟨rfl, by decide⟩) this
theorem aw_check : checkN gA = 0 := by kernel_rfl
theorem aw_bad : ¬ BadK 1 gA := by
  unfold BadK
  rw [aw_check]
  simp
theorem aw_ahead : AheadO 1 gA (some [[[]], [[0]]]) := ⟨_, gA_first, _, gA_fol, gA_ahead.symm⟩
theorem aw_is : isW gA 1 awRows = true := by kernel_rfl
theorem aw_look1 {r : Int} {ok : Bool} (h : LookTo awRows 0 [0] r ok) : r = 1 ∧ ok = true := by
  cases ok with
  | true =>
    have := h.1 rfl
    simp [awRows] at this
    exact ⟨this, rfl⟩
  | false => exact absurd (show ((0 : Int), ([0] : Wd), (1 : Int)) ∈ awRows by simp [awRows]) ((h.2 rfl).2 1)
theorem aw_look2 {r : Int} {ok : Bool} (h : LookTo awRows 1 [] r ok) : r = 0 ∧ ok = false := by
  cases ok with
  | true =>
    have := h.1 rfl
    simp [awRows] at this
  | false => exact ⟨(h.2 rfl).1, rfl⟩
theorem aw_fit : FitR awRows := by
  intro x hx
  simp only [awRows, List.mem_cons, List.not_mem_nil, or_false] at hx
  rcases hx with rfl | rfl <;> exact ⟨by decide, by decide, by decide⟩
theorem aw_sorted : awRows.Pairwise fun a b => ¬ rowLt b a := by
  unfold awRows rowLt
  simp
set_option maxRecDepth 100000 in
set_option maxHeartbeats 4000000 in
theorem awake_any (w : World) : Calls Tryz.prog 7 #[] w fun e w' => e = .returned (.bool true) ∧ Below w.heap.size w w' := by
  obtain ⟨W, hW⟩ : ∃ W, W = (awObjs w.heap.size).foldl World.alloc w := ⟨_, rfl⟩
  obtain ⟨hs, hbW, hg⟩ := aw_data w W hW
  have hq4 : W.heap[w.heap.size + 4]? = some (.cells #[.slice (some ⟨w.heap.size, 0, none⟩) 1 1, .slice (some ⟨w.heap.size + 1, 0, none⟩) 1 1, .slice (some ⟨w.heap.size + 3, 0, none⟩) 2 2] 25 (0, 0)) := by rw [hW]; exact heap_many _ w 4 _ rfl
  have r0 := cell_of_row W _ 0 _ _ _ hq4
  have r1 := cell_of_row W _ 1 _ _ _ hq4
  have r2 := cell_of_row W _ 2 _ _ _ hq4
  simp only [List.getElem?_toArray, List.getElem?_cons_succ, List.getElem?_cons_zero] at r0 r1 r2
  have HG := Lib.hid hg
  have HS := Lib.hid hs
  have HBW := Lib.hid hbW
  have HW := Lib.hid hW
  clear hg hq4 hs hbW hW
  go_enter Tryz.func7, Tryz.ntmps7
  go_wp2_with fail
  change Calls _ _ _ ((awObjs w.heap.size).foldl World.alloc w) _
  rw [← HW.out]
  refine (make_any 1 W HG.out).mono ?_
  rintro e w1 ⟨hb1, _, hgood⟩
  obtain ⟨o, ho, hout⟩ := hgood aw_bad
  have hoe := ho.det aw_ahead
  subst hoe
  rcases hout with ⟨hne, _⟩ | ⟨_, v, rows, rfl, hp, hsd, hown⟩
  · exact absurd gA_clash hne
  · have hre := aw_rows (show rows.Perm awRows by have := hp; rwa [show gA.2.2 = gAr from rfl, gA_rows] at this) hsd
    subst hre
    clear hp hsd ho hgood
    obtain ⟨A5, c5, rfl, hc5, hc5'⟩ := own_form hown
    have HR := Lib.hid (slR_own aw_fit hown)
    have HB1 := Lib.hid hb1
    have R0 := Lib.hid r0
    have R1 := Lib.hid r1
    have R2 := Lib.hid r2
    rw [show awRows.length = 2 from rfl] at HR hc5 ⊢
    clear hown hb1 r0 r1 r2
    go_wp2_with fail
    refine (look_any A5 2 c5 awRows 0 [0] w1 HR.out aw_sorted (by omega)).mono ?_
    rintro e w2 ⟨r, ok, rfl, hlk, hb2⟩
    obtain ⟨rfl, rfl⟩ := aw_look1 hlk
    have HB2 := Lib.hid (HB1.out.trans (hb2.mono HB1.out.size))
    have HR2 := Lib.hid (HR.out.next hb2 hb2.size)
    clear hlk hb2
    go_wp2_with fail
    refine (look_any A5 2 c5 awRows 1 [] w2 HR2.out aw_sorted (by omega)).mono ?_
    rintro e w3 ⟨r, ok, rfl, hlk, hb3⟩
    obtain ⟨rfl, rfl⟩ := aw_look2 hlk
    have HB3 := Lib.hid (HB2.out.trans (hb3.mono HB2.out.size))
    have HR3 := Lib.hid (HR2.out.next hb3 hb3.size)
    have HG3 := Lib.hid (HG.out.fut HB3.out (Nat.le_refl _) HB3.out.size)
    have s0 := (HB3.out.cell (p := ⟨w.heap.size + 4, 0, none⟩) (by have := HS.out; simp only []; omega)).trans R0.out
    have s1 := (HB3.out.cell (p := ⟨w.heap.size + 4, 1, none⟩) (by have := HS.out; simp only []; omega)).trans R1.out
    have s2 := (HB3.out.cell (p := ⟨w.heap.size + 4, 2, none⟩) (by have := HS.out; simp only []; omega)).trans R2.out
    obtain ⟨b1, o1, rfl, -, hb1, x0, x1, x2, -⟩ := HR3.out.rowAt (k := 0) (by decide)
    have HIS := Lib.hid (isTab_any (some ⟨b1, o1, none⟩) 2 c5 1 awRows w3 HG3.out HR3.out (by omega))
    rw [aw_is] at HIS
    simp only [Nat.zero_mul, Nat.add_zero] at x0 x1 x2
    change w3.cell? _ = some (.int .i64 0) at x0
    change w3.cell? _ = some (.string ⟨#[]⟩) at x1
    change w3.cell? _ = some (.int .i64 0) at x2
    clear hlk hb3
    go_wp2_with fail
    refine HIS.out.mono ?_
    rintro e w4 ⟨rfl, hb4⟩
    go_wp2_with fail
    go_ret
    exact ⟨rfl, HBW.out.trans ((HB3.out.trans (hb4.mono HB3.out.size)).mono (by have := HS.out; omega))⟩
end Go.Proofs.YtkedmiememnmjaaGreat
namespace Go.Proofs.YtkedmiememnmjaaGreat
open Go.RowKit

theorem clash_at {w : World} {base n c : Nat} {t : TypeId} {A : Option Addr} {l : List Clash} (h : w.ownsRow base t 4 (.slice A n c) n (ccells l)) {i : Nat} (hi : i < l.length) : ∃ b, A = some ⟨b, 0, none⟩ ∧ l.length = n ∧ n ≤ c ∧ w.cell? ⟨b, i * 4, none⟩ = some (.int .i64 l[i].1) ∧ w.cell? ⟨b, i * 4 + 1, none⟩ = some (wv l[i].2.1) ∧ w.cell? ⟨b, i * 4 + 2, none⟩ = some (.int .i64 l[i].2.2.1) ∧ w.cell? ⟨b, i * 4 + 3, none⟩ = some (.int .i64 l[i].2.2.2) := by
  have hll : (ccells l).length = l.length * 4 := by
    unfold ccells
    clear h hi
    induction l with
    | nil => rfl
    | cons x l ih => 
      rw [List.map_cons, List.flatten_cons, List.length_append, ih]
      show 4 + l.length * 4 = (l.length + 1) * 4
      omega
  have hn : l.length = n := by have := h.1; omega
  have hfl : ∀ cs ∈ l.map clc, cs.length = 4 := fun cs hcs => by
    obtain ⟨x, _, rfl⟩ := List.mem_map.1 hcs
    rfl
  have hg : ∀ j u, (clc l[i])[j]? = some u → (ccells l)[i * 4 + j]? = some u := fun j u hu => flat_get 4 (l.map clc) hfl i j (clc l[i]) u (by simp [hi]) hu
  have e := h
  obtain ⟨A', c', e1, h1, _⟩ := own_form h
  injection e1 with e1 e2 e3
  subst e1 e3
  rcases h.2 with ⟨e, h0⟩ | ⟨g, cap, cur, e, _, _, _, _, _, _⟩
  · omega
  · injection e with e1 _ _
    subst e1
    have hc : ∀ j u, j < 4 → (clc l[i])[j]? = some u → w.cell? ⟨g, i * 4 + j, none⟩ = some u := fun j u hj hu => by
      have := h.cellAt (i * 4 + j) (by omega)
      rw [this, hg j u hu]
    exact ⟨g, rfl, hn, h1, hc 0 _ (by omega) rfl, hc 1 _ (by omega) rfl, hc 2 _ (by omega) rfl, hc 3 _ (by omega) rfl⟩
structure ClashF (g : Gram) (k : Nat) (s : Sets) (c : Clash) (lf a b : Nat) : Prop where
  e : c = ((lf : Int), c.2.1, (a : Int), (b : Int))
  ab : a < b
  bq : b < g.2.2.length
  la : g.2.2[a]?.map (·.1) = some (lf : Int)
  lb : g.2.2[b]?.map (·.1) = some (lf : Int)
  ma : c.2.1 ∈ s.getD a []
  mb : c.2.1 ∈ s.getD b []
  two : predL (matchW g.2.2 (ahD g.2.2 k c.2.1) (lf : Int)) = -2
  short : c.2.1.length ≤ 4
theorem clash_facts {g : Gram} {k : Nat} {s : Sets} (h : LawG g k) (hM : MadeG g.2.2 g.1.length k s) {c : Clash} (hc : c ∈ clashW g.2.2 g.1.length s) : ∃ lf a b, ClashF g k s c lf a b := by
  obtain ⟨a, b, ra, rb, w, h1, h2, h3, h4, h5, h6, h7, h8, h9⟩ := mem_clashW.1 hc
  have hw : c.2.1 = w := by rw [h9]
  obtain ⟨w1, w2⟩ := commonW_some h8
  have hla : a < g.2.2.length := (List.getElem?_eq_some_iff.1 h1).1
  have hlb : b < g.2.2.length := (List.getElem?_eq_some_iff.1 h2).1
  have hsa : a < s.length := by rw [hM.len]; exact hla
  have hsb : b < s.length := by rw [hM.len]; exact hlb
  have ga : s.getD a [] = s[a] := by rw [List.getD_eq_getElem?_getD, List.getElem?_eq_getElem hsa]; rfl
  have gb : s.getD b [] = s[b] := by rw [List.getD_eq_getElem?_getD, List.getElem?_eq_getElem hsb]; rfl
  have da := ((hM.mean a ra s[a] h1 (List.getElem?_eq_getElem hsa)).2 w).1 (ga ▸ w1)
  have db := ((hM.mean b rb s[b] h2 (List.getElem?_eq_getElem hsb)).2 w).1 (gb ▸ w2)
  have hlf : ((c.1.toNat : Nat) : Int) = c.1 := Int.toNat_of_nonneg h6
  refine ⟨c.1.toNat, a, b, ?_, h3, hlb, by rw [h1, hlf, ← h4]; rfl, by rw [h2, hlf, ← h5]; rfl, by rw [hw]; exact w1, by rw [hw]; exact w2, ?_, ?_⟩
  · rw [hlf, hw]; exact h9
  · refine predL_two (two_of_pair (mem_matchW.2 ⟨ra, h1, by rw [hlf]; exact h4, ?_⟩) (mem_matchW.2 ⟨rb, h2, by rw [hlf]; exact h5, ?_⟩) h3)
    · rw [hw]; exact (ahD_ok g.2.2 k w a ra h1).2 da
    · rw [hw]; exact (ahD_ok g.2.2 k w b rb h2).2 db
  · have := (ahead_over (m := g.2.1.length) (by have := h.few; omega) h.wellT (List.mem_of_getElem? h1) da).1
    rw [hw]
    have := h.k4
    omega
set_option maxRecDepth 100000 in
set_option maxHeartbeats 16000000 in
theorem tableClashes_any {A1 A2 A3 : Option Addr} {n m q c1 c2 c3 : Nat} {ns ts : List ByteArray} {rs : List (Int × List Int)} (k : Int) (w : World)
    (h1 : SlR eStr w w.heap.size (.slice A1 n c1) ns) (h2 : SlR eStr w w.heap.size (.slice A2 m c2) ts) (h3 : SlR eRule w w.heap.size (.slice A3 q c3) rs) :
    Calls Tryz.prog 4 #[gramV A1 A2 A3 n m q c1 c2 c3, .int .i64 k] w fun e w' => e = .returned (.bool true) ∧ Below w.heap.size w w' := by
  have hbx := (Below.refl w.heap.size w).alloc (Nat.le_refl _) (.cells #[.slice A1 n c1, .slice A2 m c2, .slice A3 q c3] 25)
  have HK := Lib.hid (Go.heap_alloc_new w (.cells #[.slice A1 n c1, .slice A2 m c2, .slice A3 q c3] 25))
  have HZ := Lib.hid (World.size_alloc w (.cells #[.slice A1 n c1, .slice A2 m c2, .slice A3 q c3] 25))
  have HBX := Lib.hid hbx
  have hl1 := h1.n_le
  have hl2 := h2.n_le
  have hl3 := h3.n_le
  have HN := Lib.hid (show n = ns.length ∧ m = ts.length ∧ q = rs.length from ⟨h1.n_eq, h2.n_eq, h3.n_eq⟩)
  have H1 := Lib.hid (h1.fut (B' := w.heap.size + 1) hbx (Nat.le_refl _) (by omega))
  have H2 := Lib.hid (h2.fut (B' := w.heap.size + 1) hbx (Nat.le_refl _) (by omega))
  have H3 := Lib.hid (h3.fut (B' := w.heap.size + 1) hbx (Nat.le_refl _) (by omega))
  have HCELL : Hid (∀ (w2 : World), w2.heap[w.heap.size]? = some (.cells #[.slice A1 n c1, .slice A2 m c2, .slice A3 q c3] 25 (0, 0)) → w2.cell? ⟨w.heap.size, 0, none⟩ = some (.slice A1 n c1) ∧ w2.cell? ⟨w.heap.size, 1, none⟩ = some (.slice A2 m c2) ∧ w2.cell? ⟨w.heap.size, 2, none⟩ = some (.slice A3 q c3)) := fun w2 hk => ⟨by rw [cell_of_row _ _ _ _ _ _ hk]; rfl, by rw [cell_of_row _ _ _ _ _ _ hk]; rfl, by rw [cell_of_row _ _ _ _ _ _ hk]; rfl⟩
  clear h1 h2 h3 hbx
  go_enter Tryz.func4, Tryz.ntmps4
  go_wp2_with fail
  generalize w.alloc (.cells #[.slice A1 n c1, .slice A2 m c2, .slice A3 q c3] 25) = w1 at *
  refine (few14_any _ _ _ ns ts rs w1 (by rw [HZ.out]; exact H1.out) (by rw [HZ.out]; exact H2.out) (by rw [HZ.out]; exact H3.out)).mono ?_
  rintro e w2 ⟨z, rfl, hz, hb2⟩
  have HB2 := Lib.hid (show Below (w.heap.size + 1) w1 w2 from hb2.mono (Nat.le_of_eq HZ.out.symm))
  have HS2 := Lib.hid (show w.heap.size + 1 ≤ w2.heap.size by have := hb2.size; have := HZ.out; omega)
  clear hb2
  have HK2 := Lib.hid ((HB2.out.block w.heap.size (by omega)).trans HK.out)
  obtain ⟨a0, a1, a2⟩ := HCELL.out w2 HK2.out
  rcases hz with rfl | ⟨rfl, hz1, hz2, hz3⟩
  · go_wp2_with fail
    refine (awake_any w2).mono ?_
    rintro e w3 ⟨rfl, hb3⟩
    go_wp2_with fail
    go_ret
    exact ⟨rfl, HBX.out.trans ((HB2.out.trans (hb3.mono HS2.out)).mono (Nat.le_succ _))⟩
  · by_cases hm3 : 3 < m
    · have d1 : decide ((3 : Int) < (m : Int)) = true := by simp; omega
      go_wp2_with fail
      refine (awake_any w2).mono ?_
      rintro e w3 ⟨rfl, hb3⟩
      go_wp2_with fail
      go_ret
      exact ⟨rfl, HBX.out.trans ((HB2.out.trans (hb3.mono HS2.out)).mono (Nat.le_succ _))⟩
    have d1 : decide ((3 : Int) < (m : Int)) = false := by simp; omega
    have hn12 : n ≤ 12 := by have := HN.out; omega
    have hm12 : m ≤ 12 := by have := HN.out; omega
    have hq40 : q ≤ 40 := by have := HN.out; omega
    have HGR := Lib.hid (show ∀ w' : World, Below (w.heap.size + 1) w1 w' → w.heap.size + 1 ≤ w'.heap.size → GramR w' w'.heap.size A1 A2 A3 n m q c1 c2 c3 (ns, ts, rs) from fun w' hb hs => ⟨H1.out.fut hb (Nat.le_refl _) hs, H2.out.fut hb (Nat.le_refl _) hs, H3.out.fut hb (Nat.le_refl _) hs, by omega⟩)
    have HMF := Lib.hid (show ((ns, ts, rs) : Gram).2.1.length ≤ 3 by have := HN.out; show ts.length ≤ 3; omega)
    clear hz1 hz2 hz3
    go_wp2_with fail
    refine (make_any k w2 (HGR.out w2 HB2.out HS2.out)).mono ?_
    rintro e w3 ⟨hb3, hbad, hgood⟩
    have HB3 := Lib.hid (HB2.out.trans (hb3.mono HS2.out))
    have HS3 := Lib.hid (Nat.le_trans HS2.out hb3.size)
    have HAW := Lib.hid (fun (w' : World) (h : Below (w.heap.size + 1) w1 w') (hs : w.heap.size + 1 ≤ w'.heap.size) => (awake_any w').mono (fun e w'' (hx : e = .returned (.bool true) ∧ Below w'.heap.size w' w'') => (⟨hx.1, h.trans (hx.2.mono hs)⟩ : e = .returned (.bool true) ∧ Below (w.heap.size + 1) w1 w'')))
    clear hb3 a0 a1 a2
    by_cases hk : BadK k (ns, ts, rs)
    · have he := hbad hk
      subst he
      clear hbad hgood hk
      go_wp2_with fail
      refine (HAW.out w3 HB3.out HS3.out).mono ?_
      rintro e w4 ⟨rfl, hb4⟩
      go_wp2_with fail
      go_ret
      exact ⟨rfl, HBX.out.trans (hb4.mono (Nat.le_succ _))⟩
    obtain ⟨o, ho, hout⟩ := hgood hk
    obtain ⟨kk, rfl, hlg⟩ := lawG_of hk HMF.out
    obtain ⟨s, rfl, hM⟩ := hlg.sets ho
    have HO := Lib.hid ho
    have HLG := Lib.hid hlg
    have HM := Lib.hid hM
    have HNK := Lib.hid hk
    clear hbad hgood ho hk
    rcases hout with ⟨hne, v, rfl, hown⟩ | ⟨hnil, v, rows, rfl, -, -, hown⟩
    case inr =>
      obtain ⟨A9, c9, rfl, -, -⟩ := own_form hown
      clear hown hnil
      go_wp2_with fail
      refine (HAW.out w3 HB3.out HS3.out).mono ?_
      rintro e w4 ⟨rfl, hb4⟩
      go_wp2_with fail
      go_ret
      exact ⟨rfl, HBX.out.trans (hb4.mono (Nat.le_succ _))⟩
    have HOWN := Lib.hid hown
    have HCF := Lib.hid (show ∀ c ∈ clashW rs n s, ∃ lf a b, ClashF (ns, ts, rs) kk s c lf a b from fun c hc => clash_facts hlg hM (by rw [HN.out.1] at hc; exact hc))
    have HSL := Lib.hid (show s.length = q by rw [hM.len]; exact HN.out.2.2.symm)
    obtain ⟨CL, hCL⟩ : ∃ CL, CL = clashW rs n s := ⟨_, rfl⟩
    have hown2 : w3.ownsRow w2.heap.size 46 4 v CL.length (ccells CL) := by rw [hCL]; exact hown
    have hne2 : CL ≠ [] := by rw [hCL]; exact hne
    rw [← hCL] at HCF
    obtain ⟨nc, hnc⟩ : ∃ nc, nc = CL.length := ⟨_, rfl⟩
    rw [← hnc] at hown2
    have hnc0 : 0 < nc := by rw [hnc]; exact List.length_pos_iff.2 hne2
    have HNC := Lib.hid hnc
    have dz1 : ((nc : Int) == 0) = false := by rw [beq_eq_false_iff_ne]; omega
    have dz2 : decide (nc = 0) = false := by rw [decide_eq_false_iff_not]; omega
    have dz3 : (nc == 0) = false := by rw [beq_eq_false_iff_ne]; omega
    obtain ⟨A9, c9, rfl, h91, h92⟩ := own_form hown2
    have h93 : c9 ≤ 9223372036854775807 := by simpa [maxLen] using h92
    have HOW := Lib.hid hown2
    clear hown hown2 hne hne2 hCL hnc HOWN hlg hM
    obtain ⟨a0, a1, a2⟩ := HCELL.out w3 ((HB3.out.block w.heap.size (by omega)).trans HK.out)
    go_wp2_with fail
    refine (aheadSets_any kk w3 (HGR.out w3 HB3.out HS3.out)).mono ?_
    rintro e w4 ⟨hb4, -, hgood⟩
    obtain ⟨o2, ho2, hout2⟩ := hgood HNK.out
    have hoo := AheadO.det HO.out ho2
    subst hoo
    obtain ⟨AS, cS, rfl, hsets⟩ := hout2
    have hcS := hsets.n_le
    rw [HSL.out] at hsets hcS ⊢
    have HSETS := Lib.hid hsets
    have HB4 := Lib.hid (HB3.out.trans (hb4.mono HS3.out))
    have HS4 := Lib.hid (Nat.le_trans HS3.out hb4.size)
    have HOW4 := Lib.hid (own_below HOW.out hb4)
    clear hb4 hgood ho2 hsets a0 a1 a2
    obtain ⟨a0, a1, a2⟩ := HCELL.out w4 ((HB4.out.block w.heap.size (by omega)).trans HK.out)
    go_wp2_with fail
    go_loopg [10] nc (fun lft v10 wr => ∃ i : Nat, i ≤ nc ∧ nc - i ≤ lft ∧ v10 = .int .i64 i ∧ Hid (Below w4.heap.size w4 wr))
    case atStart => exact ⟨0, by omega, by omega, rfl, Below.refl _ _⟩
    case round =>
      clear a0 a1 a2
      obtain ⟨i, hi, hlft, rfl, HBW⟩ := hrel
      have HB5 := Lib.hid (HB4.out.trans (HBW.out.mono HS4.out))
      have HS5 := Lib.hid (Nat.le_trans HS4.out HBW.out.size)
      by_cases hib : i < nc
      · have hil : i < CL.length := by rw [← HNC.out]; exact hib
        obtain ⟨bc, hA9, -, -, x0, x1, x2, x3⟩ := clash_at (own_below HOW4.out HBW.out) hil
        subst hA9
        obtain ⟨lf, a, b, hF⟩ := HCF.out CL[i] (List.getElem_mem hil)
        obtain ⟨c, hc⟩ : ∃ c, c = CL[i] := ⟨_, rfl⟩
        rw [← hc] at x0 x1 x2 x3 hF
        clear hc hil
        have HF := Lib.hid hF
        have e := hF.e
        obtain ⟨cl, cw, co, ct⟩ := c
        injection e with e1 e2
        injection e2 with _ e3
        injection e3 with e3 e4
        simp only at x0 x1 x2 x3
        subst e1 e3 e4
        have hab := hF.ab
        have hbq : b < q := by have := hF.bq; have := HN.out.2.2; simp only at *; omega
        have haq : a < q := by omega
        have hal : a < rs.length := by rw [← HN.out.2.2]; exact haq
        have hbl : b < rs.length := by rw [← HN.out.2.2]; exact hbq
        have hra : rs[a].1 = (lf : Int) := by
          have := hF.la
          simp only [List.getElem?_eq_getElem hal, Option.map_some] at this
          injection this
        have hrb : rs[b].1 = (lf : Int) := by
          have := hF.lb
          simp only [List.getElem?_eq_getElem hbl, Option.map_some] at this
          injection this
        have hsa : a < s.length := by rw [HSL.out]; exact haq
        have hsb : b < s.length := by rw [HSL.out]; exact hbq
        have hma : cw ∈ s[a] := by
          have := hF.ma
          rw [List.getD_eq_getElem?_getD, List.getElem?_eq_getElem hsa] at this
          exact this
        have hmb : cw ∈ s[b] := by
          have := hF.mb
          rw [List.getD_eq_getElem?_getD, List.getElem?_eq_getElem hsb] at this
          exact this
        have HTWO := Lib.hid hF.two
        have HSH := Lib.hid hF.short
        have da : decide ((a : Int) < 0) = false := by rw [decide_eq_false_iff_not]; omega
        have db : decide ((b : Int) ≤ (a : Int)) = false := by rw [decide_eq_false_iff_not]; omega
        have db' : decide (b ≤ a) = false := by rw [decide_eq_false_iff_not]; omega
        have dc : decide ((q : Int) ≤ (b : Int)) = false := by rw [decide_eq_false_iff_not]; omega
        have dc' : decide (q ≤ b) = false := by rw [decide_eq_false_iff_not]; omega
        clear hF HF
        go_upto_region 13 with fail
        have hb6 := (Below.refl wr.heap.size wr).alloc (Nat.le_refl _) (.cells #[.int .i64 lf, wv cw, .int .i64 a, .int .i64 b] 46)
        have HB6 := Lib.hid (HB5.out.trans (hb6.mono HS5.out))
        have HBW6 := Lib.hid (HBW.out.trans (hb6.mono HBW.out.size))
        have HZ6 := Lib.hid (World.size_alloc wr (.cells #[.int .i64 lf, wv cw, .int .i64 a, .int .i64 b] 46))
        have HK6 := Lib.hid (Go.heap_alloc_new wr (.cells #[.int .i64 lf, wv cw, .int .i64 a, .int .i64 b] 46))
        clear x0 x1 x2 x3 hb6
        generalize wr.alloc (.cells #[.int .i64 lf, wv cw, .int .i64 a, .int .i64 b] 46) = w5 at *
        have HS6 := Lib.hid (show w.heap.size + 1 ≤ w5.heap.size by have := HS5.out; have := HZ6.out; omega)
        obtain ⟨a0, a1, a2⟩ := HCELL.out w5 ((HB6.out.block w.heap.size (by omega)).trans HK.out)
        have y0 : w5.cell? ⟨wr.heap.size, 0, none⟩ = some (.int .i64 lf) := by rw [cell_of_row _ _ _ _ _ _ HK6.out]; rfl
        have y1 : w5.cell? ⟨wr.heap.size, 1, none⟩ = some (wv cw) := by rw [cell_of_row _ _ _ _ _ _ HK6.out]; rfl
        have y2 : w5.cell? ⟨wr.heap.size, 2, none⟩ = some (.int .i64 a) := by rw [cell_of_row _ _ _ _ _ _ HK6.out]; rfl
        have y3 : w5.cell? ⟨wr.heap.size, 3, none⟩ = some (.int .i64 b) := by rw [cell_of_row _ _ _ _ _ _ HK6.out]; rfl
        obtain ⟨b5, o5, cs, rfl, -, -, hrep, hcell⟩ := (H3.out.below HB6.out).get (k := a) hal (by decide)
        obtain ⟨v, rfl, -, -, -⟩ := eRule_open hrep
        have r0 := hcell 0 _ rfl
        obtain ⟨b7, o7, cs7, hA3, -, -, hrep7, hcell7⟩ := (H3.out.below HB6.out).get (k := b) hbl (by decide)
        injection hA3 with hA3
        injection hA3 with e5 e6
        subst e5 e6
        obtain ⟨v7, rfl, -, -, -⟩ := eRule_open hrep7
        have r1 := hcell7 0 _ rfl
        simp only [show eRule.size = 2 from rfl, Nat.add_zero] at r0 r1
        rw [hra] at r0
        rw [hrb] at r1
        obtain ⟨bs, os, Aa, ca, hAS, -, -, sa, hla, hlm, hssa⟩ := (HSETS.out.below HBW6.out).slAt hsa
        subst hAS
        obtain ⟨bs', os', Ab, cb, hAS, -, -, sb, hlb, hlm', hssb⟩ := (HSETS.out.below HBW6.out).slAt hsb
        injection hAS with hAS
        injection hAS with e5 e6
        subst e5 e6
        have hsz6 := HBW6.out.size
        have HHA := Lib.hid (fun w' (hb : Below w5.heap.size w5 w') => has19_any Aa s[a].length ca s[a] cw w' ((hssa.fut (Below.refl w5.heap.size w5) hsz6 hsz6).fut hb (Nat.le_refl _) hb.size))
        have HHB := Lib.hid (fun w' (hb : Below w5.heap.size w5 w') => has19_any Ab s[b].length cb s[b] cw w' ((hssb.fut (Below.refl w5.heap.size w5) hsz6 hsz6).fut hb (Nat.le_refl _) hb.size))
        rw [decide_eq_true hma] at HHA
        rw [decide_eq_true hmb] at HHB
        obtain ⟨la, hla2⟩ : ∃ la, la = s[a].length := ⟨_, rfl⟩
        obtain ⟨lb, hlb2⟩ : ∃ lb, lb = s[b].length := ⟨_, rfl⟩
        rw [← hla2] at sa HHA hla
        rw [← hlb2] at sb HHB hlb
        have HPR := Lib.hid (fun w' (hb : Below w5.heap.size w5 w') => predict_any kk (lf : Int) cw w' (HGR.out w' (HB6.out.trans (hb.mono HS6.out)) (Nat.le_trans HS6.out hb.size)) HLG.out (Nat.le_trans HSH.out (by omega)))
        simp only at HPR HTWO
        rw [HTWO.out] at HPR
        clear hcell hrep hcell7 hrep7 hssa hssb hla2 hlb2 hma hmb hra hrb hal hbl hsa hsb
        refine Text.wp_text [] (by kernel_rfl) (by kernel_rfl) (fun Q' hQ' => ?_)
        go_wp2_with fail
        refine ⟨by rfl, ?_⟩
        go_wp2_with fail
        refine Text.wp_grow [6, 16, 27] [0, 3, 5, 11, 13, 15, 22, 24, 26] [] (by kernel_rfl) (by kernel_rfl) ?_
        refine Text.wpS_seg 6 _ _ _ _ (by decide) (fun Q' hQ' => ?_)
        simp only [List.take_succ_cons, List.take_zero]
        go_wp2_with fail
        try simp only [List.drop_succ_cons, List.drop_zero]
        refine Text.wpS_one (fun Q' hQ' => ?_)
        go_wp2_with fail
        refine (HPR.out _ ((Below.refl w5.heap.size w5).drew.drew)).mono ?_
        rintro e w6 ⟨rfl, hb7⟩
        have hb7' : Below w5.heap.size w5 w6 := (Below.refl w5.heap.size w5).drew.drew.trans hb7
        have y1' := (hb7'.cell (World.block_lt_of_cell? w5 _ y1)).trans y1
        have y2' := (hb7'.cell (World.block_lt_of_cell? w5 _ y2)).trans y2
        have y3' := (hb7'.cell (World.block_lt_of_cell? w5 _ y3)).trans y3
        have sa' := (hb7'.cell (World.block_lt_of_cell? w5 _ sa)).trans sa
        have sb' := (hb7'.cell (World.block_lt_of_cell? w5 _ sb)).trans sb
        go_wp2_with fail
        refine ⟨hb7, ?_⟩
        refine Text.wpS_seg 9 _ _ _ _ (by decide) (fun Q' hQ' => ?_)
        simp only [List.take_succ_cons, List.take_zero]
        go_wp2_with fail
        try simp only [List.drop_succ_cons, List.drop_zero]
        refine Text.wpS_one (fun Q' hQ' => ?_)
        go_wp2_with fail
        refine (HHA.out _ hb7').mono ?_
        rintro e w8 ⟨rfl, rfl⟩
        go_wp2_with fail
        refine ⟨hb7, ?_⟩
        refine Text.wpS_seg 10 _ _ _ _ (by decide) (fun Q' hQ' => ?_)
        simp only [List.take_succ_cons, List.take_zero]
        go_wp2_with fail
        try simp only [List.drop_succ_cons, List.drop_zero]
        refine Text.wpS_one (fun Q' hQ' => ?_)
        go_wp2_with fail
        refine (HHB.out _ hb7').mono ?_
        rintro e w9 ⟨rfl, rfl⟩
        go_wp2_with fail
        refine ⟨hb7, ?_⟩
        refine Text.wpS_seg 2 _ _ _ _ (by decide) (fun Q' hQ' => ?_)
        simp only [List.take_succ_cons, List.take_zero]
        go_wp2_with fail
        refine ⟨by rfl, ?_, ?_⟩
        · exact ⟨fun _ => ⟨_, _, rfl, a0⟩, fun _ => ⟨_, _, rfl, y0⟩, fun _ => ⟨_, _, rfl, y1⟩, fun _ => ⟨_, _, rfl, y2⟩, fun _ => ⟨_, _, rfl, sa⟩, fun _ => ⟨_, _, rfl, y1⟩, fun _ => ⟨_, _, rfl, y3⟩, fun _ => ⟨_, _, rfl, sb⟩, fun _ => ⟨_, _, rfl, y1⟩, trivial⟩
        have HBW8 := Lib.hid (HBW6.out.trans (hb7'.mono hsz6))
        go_wp2_with fail
        go_roundg (gk - 1)
        case measure => omega
        case rel => exact ⟨i + 1, by omega, by omega, by go_num, HBW8.out⟩
      · go_wp2_with fail
        refine (HAW.out wr HB5.out HS5.out).mono ?_
        rintro e w5 ⟨rfl, hb5⟩
        go_wp2_with fail
        go_ret
        exact ⟨rfl, HBX.out.trans (hb5.mono (Nat.le_succ _))⟩
end Go.Proofs.YtkedmiememnmjaaGreat
