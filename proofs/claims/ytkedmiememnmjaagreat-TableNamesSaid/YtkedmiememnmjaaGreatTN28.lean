/- Texts of this proof joined: TabMake, TabLook. -/
import Derived.Test.YtkedmiememnmjaaGreatTN26
import Derived.Test.YtkedmiememnmjaaGreatTN27
import Derived.Test.YtkedmiememnmjaaGreatTN04
import Derived.Deep.DeepCutAuto
namespace Go.Proofs.YtkedmiememnmjaaGreat
open Go.RowKit

theorem ahead_size {k : Nat} (hk : k ≤ 4) {g : Gram} {s : Sets} (h : AheadO (k : Int) g (some s)) : s.length = g.2.2.length ∧ SetsB s := by
  obtain ⟨o1, _, h2⟩ := h
  cases o1 with
  | none => cases h2
  | some s1 =>
    obtain ⟨o2, _, h3⟩ := h2
    cases o2 with
    | none => cases h3
    | some f =>
      obtain ⟨c1, c2⟩ := aheadW_get g.2.2 s h3.symm
      refine ⟨c1, fun i x hx => ?_⟩
      have hi := (List.getElem?_eq_some_iff.1 hx).1
      obtain ⟨y, hy, hb⟩ := c2 i _ (List.getElem?_eq_getElem (by omega))
      rw [hx] at hy
      injection hy with hy
      subst hy
      exact behindW_b hk hb
def rowsAt (rs : RuleL) (ss : Sets) (i : Nat) : List Row := (ss.getD i []).map fun w => ((rs.getD i (0, [])).1, w, (i : Int))
def rowsTo (rs : RuleL) (ss : Sets) (i : Nat) : List Row := (List.range i).flatMap (rowsAt rs ss)
theorem rowsTo_succ (rs : RuleL) (ss : Sets) (i : Nat) : rowsTo rs ss (i + 1) = rowsTo rs ss i ++ rowsAt rs ss i := by
  unfold rowsTo
  rw [List.range_succ, List.flatMap_append]
  simp
theorem rowsFrom_eq : ∀ (i : Nat) (rs : RuleL) (ss : Sets), ss.length = rs.length → rowsFrom i rs ss = (List.range rs.length).flatMap fun j => (ss.getD j []).map fun w => ((rs.getD j (0, [])).1, w, ((i + j : Nat) : Int))
  | i, [], [], _ => rfl
  | i, r :: rs, s :: ss, h => by
    have ih := rowsFrom_eq (i + 1) rs ss (by simpa using h)
    rw [List.length_cons, List.range_succ_eq_map, List.flatMap_cons, List.flatMap_map]
    simp only [rowsFrom, ih]
    congr 1
    congr 1
    funext j
    simp only [List.getD_cons_succ]
    congr 1
    funext w
    congr 2
    omega
theorem rowsTo_all {rs : RuleL} {ss : Sets} (h : ss.length = rs.length) : rowsTo rs ss rs.length = rowsFrom 0 rs ss := by
  rw [rowsFrom_eq 0 rs ss h]
  unfold rowsTo rowsAt
  simp
theorem rowsAt_len {rs : RuleL} {ss : Sets} (hb : SetsB ss) (i : Nat) : (rowsAt rs ss i).length ≤ 4096 := by
  unfold rowsAt
  rw [List.length_map, List.getD_eq_getElem?_getD]
  cases h : ss[i]? with
  | none => simp
  | some x => exact (hb i x h).2
theorem rowsTo_len {rs : RuleL} {ss : Sets} (hb : SetsB ss) : ∀ i, (rowsTo rs ss i).length ≤ i * 4096
  | 0 => by simp [rowsTo]
  | i + 1 => by
    rw [rowsTo_succ, List.length_append]
    have := rowsTo_len (rs := rs) hb i
    have := rowsAt_len (rs := rs) hb i
    omega
def MakeOut (n : Nat) (g : Gram) (base : Nat) (w' : World) (o : Option Sets) (e : Ending) : Prop :=
  match o with
  | none => e = .returned (.tuple #[.slice none 0 0, .slice none 0 0, .int .i64 21])
  | some s => (clashW g.2.2 n s ≠ [] ∧ ∃ v, e = .returned (.tuple #[.slice none 0 0, v, .int .i64 20]) ∧ w'.ownsRow base 46 4 v (clashW g.2.2 n s).length (ccells (clashW g.2.2 n s))) ∨
    (clashW g.2.2 n s = [] ∧ ∃ v rows, e = .returned (.tuple #[v, .slice none 0 0, .int .i64 0]) ∧ rows.Perm (rowsFrom 0 g.2.2 s) ∧ rows.Pairwise (fun a b => ¬ rowLt b a) ∧ w'.ownsRow base 54 3 v rows.length (rcells rows))
def MakeRes (k : Int) (g : Gram) (n : Nat) (w : World) (e : Ending) (w' : World) : Prop :=
  Below w.heap.size w w' ∧ (BadK k g → e = .returned (.tuple #[.slice none 0 0, .slice none 0 0, .int .i64 1])) ∧ (¬ BadK k g → ∃ o, AheadO k g o ∧ MakeOut n g w.heap.size w' o e)
set_option maxRecDepth 100000 in
set_option maxHeartbeats 16000000 in
theorem make_any {A1 A2 A3 : Option Addr} {n m q c1 c2 c3 : Nat} {g : Gram} (k : Int) (w : World) (h : GramR w w.heap.size A1 A2 A3 n m q c1 c2 c3 g) :
    Calls Tryz.prog 8 #[gramV A1 A2 A3 n m q c1 c2 c3, .int .i64 k] w (MakeRes k g n w) := by
  have hbx := (Below.refl w.heap.size w).alloc (Nat.le_refl _) (.cells #[.slice A1 n c1, .slice A2 m c2, .slice A3 q c3] 25)
  have HV := Lib.hid (h.fut (B' := w.heap.size) hbx (Nat.le_refl _) (Nat.le_refl _))
  have HK := Lib.hid (Go.heap_alloc_new w (.cells #[.slice A1 n c1, .slice A2 m c2, .slice A3 q c3] 25))
  have HZ := Lib.hid (World.size_alloc w (.cells #[.slice A1 n c1, .slice A2 m c2, .slice A3 q c3] 25))
  have HBX := Lib.hid hbx
  have HL := Lib.hid h.ln
  have hsm := h.small
  have HCELL : Hid (∀ (w2 : World), w2.heap[w.heap.size]? = some (.cells #[.slice A1 n c1, .slice A2 m c2, .slice A3 q c3] 25 (0, 0)) → w2.cell? ⟨w.heap.size, 0, none⟩ = some (.slice A1 n c1) ∧ w2.cell? ⟨w.heap.size, 1, none⟩ = some (.slice A2 m c2) ∧ w2.cell? ⟨w.heap.size, 2, none⟩ = some (.slice A3 q c3)) := fun w2 hk => ⟨by rw [cell_of_row _ _ _ _ _ _ hk]; rfl, by rw [cell_of_row _ _ _ _ _ _ hk]; rfl, by rw [cell_of_row _ _ _ _ _ _ hk]; rfl⟩
  clear h hbx
  go_enter Tryz.func8, Tryz.ntmps8
  go_wp2_with fail
  generalize w.alloc (.cells #[.slice A1 n c1, .slice A2 m c2, .slice A3 q c3] 25) = w1 at *
  refine (aheadSets_any k w1 (HV.out.fut (N := w1.heap.size) (B' := w1.heap.size) (Below.refl _ _) (by rw [HZ.out]; omega) (by rw [HZ.out]; omega))).mono ?_
  rintro e w2 ⟨hb2, hbad, hgood⟩
  have HB2 := Lib.hid (HBX.out.trans (hb2.mono (by rw [HZ.out]; omega)))
  have HB12 := Lib.hid (show Below (w.heap.size + 1) w1 w2 from hb2.mono (Nat.le_of_eq HZ.out.symm))
  have HS2 := Lib.hid (show w.heap.size + 1 ≤ w2.heap.size by have := hb2.size; rw [HZ.out] at this; exact this)
  have HK2 := Lib.hid ((HB12.out.block w.heap.size (by omega)).trans HK.out)
  clear hb2
  by_cases hbk : BadK k g
  · have := hbad hbk
    subst this
    have HBAD := Lib.hid hbk
    clear hbad hgood hbk
    go_wp2_with fail
    go_ret3
    exact ⟨HB2.out, fun _ => rfl, fun h => absurd HBAD.out h⟩
  · obtain ⟨o, ho, hout⟩ := hgood hbk
    have HNB := Lib.hid hbk
    have HO := Lib.hid ho
    clear hbad hgood
    cases o with
    | none =>
      simp only [AheadOut] at hout
      subst hout
      clear hbk ho
      go_wp2_with fail
      go_ret3
      exact ⟨HB2.out, fun h => absurd h HNB.out, fun _ => ⟨none, HO.out, rfl⟩⟩
    | some s =>
      obtain ⟨A5, c5, rfl, hs⟩ := hout
      obtain ⟨kk, hkk, hk4, hk1⟩ : ∃ kk : Nat, k = (kk : Int) ∧ kk ≤ 4 ∧ 1 ≤ kk := ⟨k.toNat, by unfold BadK at hbk; omega, by unfold BadK at hbk; omega, by unfold BadK at hbk; omega⟩
      have hsz := ahead_size hk4 (g := g) (s := s) (by rw [← hkk]; exact ho)
      have hgood : GoodG g := (check0_good (Classical.byContradiction fun h => hbk (.inr (.inr h)))).2.1
      have HSB := Lib.hid hsz.2
      have hlen : s.length = q := by rw [hsz.1]; exact HL.out.2.2.symm
      have HLEN := Lib.hid hlen
      rw [hlen] at hs ⊢
      have HSS := Lib.hid hs
      have HQ := Lib.hid (show q ≤ 4096 by have := hgood.q; have := HL.out.2.2; omega)
      have HCL := Lib.hid (clashes_any w2 (HV.out.fut HB12.out (Nat.le_succ _) (by have := HS2.out; omega)) hgood hs (fun x hx => by
        obtain ⟨i, hi, rfl⟩ := List.getElem_of_mem hx
        have := (hsz.2 i _ (List.getElem?_eq_getElem hi)).2
        omega))
      clear hbk ho hsz hlen hs hgood hkk hk4 hk1
      obtain ⟨cl, hcl⟩ : ∃ cl, cl = clashW g.2.2 n s := ⟨_, rfl⟩
      rw [← hcl] at HCL
      have HC := Lib.hid hcl
      clear hcl
      obtain ⟨nc, hnc⟩ : ∃ nc, nc = cl.length := ⟨_, rfl⟩
      rw [← hnc] at HCL
      have HNC := Lib.hid hnc
      clear hnc
      obtain ⟨a0, a1, a2⟩ := HCELL.out w2 HK2.out
      go_wp2_with fail
      refine HCL.out.mono ?_
      rintro e w3 ⟨v, rfl, hown, hb3⟩
      obtain ⟨A6, c6, rfl, hc61, hc62⟩ := own_form hown
      have HB3 := Lib.hid (HB2.out.trans (hb3.mono HB2.out.size))
      have HS3 := Lib.hid (show w2.heap.size ≤ w3.heap.size from hb3.size)
      have HK3 := Lib.hid ((hb3.block w.heap.size (by have := HS2.out; omega)).trans HK2.out)
      have HSS3 := Lib.hid (HSS.out.fut hb3 (Nat.le_refl _) (Nat.le_refl _))
      have HV3 := Lib.hid (HV.out.rules.fut (B' := w.heap.size) ((HB12.out.mono (Nat.le_succ _)).trans (hb3.mono HB2.out.size)) (Nat.le_refl _) (Nat.le_refl _))
      have HOWN := Lib.hid (own_more hown HB2.out.size)
      clear hown hb3 a0 a1 a2 HCL
      by_cases hc0 : 0 < nc
      · have hd : decide ((nc : Int) > 0) = true := by simpa using hc0
        have hd2 : decide (0 < nc) = true := by simpa using hc0
        have HNE := Lib.hid (show cl ≠ [] from fun e => by have := HNC.out; rw [e] at this; simp at this; omega)
        clear hc0
        go_wp2_with fail
        go_ret3
        refine ⟨HB3.out, fun h => absurd h HNB.out, fun _ => ⟨some s, HO.out, .inl ⟨by rw [← HC.out]; exact HNE.out, _, rfl, ?_⟩⟩⟩
        rw [← HC.out, ← HNC.out]
        exact HOWN.out
      · have hd : decide ((nc : Int) > 0) = false := by simpa using hc0
        have hd2 : decide (0 < nc) = false := by simpa using hc0
        have HNE := Lib.hid (show cl = [] from List.eq_nil_of_length_eq_zero (by have := HNC.out; omega))
        clear hc0 HOWN hc61 hc62
        go_wp2_with fail
        go_loopg [10, 33] q (fun lft v10 v33 wr => ∃ i : Nat, i ≤ q ∧ q - i ≤ lft ∧ v33 = .int .i64 i ∧ Hid (Below w3.heap.size w3 wr) ∧ Hid (wr.ownsRow w3.heap.size 54 3 v10 (rowsTo g.2.2 s i).length (rcells (rowsTo g.2.2 s i))))
        case atStart => exact ⟨0, by omega, by omega, rfl, Below.refl _ _, World.ownsRow_nil _ _ _ _⟩
        case round =>
          obtain ⟨i, hi, hlft, rfl, HB, HO10⟩ := hrel
          obtain ⟨gas, hgas⟩ : ∃ gas, gas = gk := ⟨_, rfl⟩
          rw [← hgas] at hlft
          have HGK := Lib.hid hgas
          clear hgas
          generalize wr = wo at *
          by_cases hiq : i < q
          · have his : i < s.length := by rw [HLEN.out]; exact hiq
            have hir : i < g.2.2.length := by rw [← HL.out.2.2]; exact hiq
            have HW3 := Lib.hid (Nat.le_trans HB2.out.size HS3.out)
            obtain ⟨b1, o1, cs1, he1, -, hb1, hrep1, hcell1⟩ := (HSS3.out.below (HB.out.mono HS3.out)).get his (by decide)
            obtain ⟨v1, rfl, hv1⟩ := hrep1
            have x1 := hcell1 0 _ rfl
            simp only [show (eSl eW).size = 1 from rfl, Nat.mul_one, Nat.add_zero] at x1
            subst he1
            obtain ⟨b2, o2, cs2, he2, -, hb2, hrep2, hcell2⟩ := (HV3.out.below (HB.out.mono HW3.out)).get hir (by decide)
            obtain ⟨v2, rfl, -, -, -⟩ := eRule_open hrep2
            have y0 := hcell2 0 _ rfl
            simp only [show eRule.size = 2 from rfl, Nat.add_zero] at y0
            subst he2
            have HRA := Lib.hid (show rowsAt g.2.2 s i = s[i].map fun w => (g.2.2[i].1, w, (i : Int)) by
              unfold rowsAt
              simp only [List.getD_eq_getElem?_getD, List.getElem?_eq_getElem his, List.getElem?_eq_getElem hir, Option.getD_some])
            have HNX := Lib.hid (HSB.out i _ (List.getElem?_eq_getElem his)).2
            have HTL := Lib.hid (rowsTo_len (rs := g.2.2) HSB.out i)
            have HTS := Lib.hid (rowsTo_succ g.2.2 s i)
            obtain ⟨x, hx⟩ : ∃ x, x = s[i] := ⟨_, rfl⟩
            rw [← hx] at hv1 HRA HNX
            obtain ⟨lf, hlf⟩ : ∃ lf, lf = g.2.2[i].1 := ⟨_, rfl⟩
            rw [← hlf] at y0 HRA
            have HRX := Lib.hid (HB.out.block w.heap.size (by have := HS2.out; have := HS3.out; omega))
            obtain ⟨a0, a1, a2⟩ := HCELL.out wo (HRX.out.trans HK3.out)
            obtain ⟨A7, c7, rfl, hc71, hc72⟩ := hv1.form
            obtain ⟨nx, hnx⟩ : ∃ nx, nx = x.length := ⟨_, rfl⟩
            rw [← hnx] at hv1 HNX x1 hc71
            have HNL := Lib.hid hnx
            have HX := Lib.hid hv1
            have hnx2 := HNX.out
            have HWZ := Lib.hid (show w2.heap.size ≤ wo.heap.size from Nat.le_trans HS3.out HB.out.size)
            clear hx hlf hnx hv1 hcell1 hcell2 hrep2 his hir a0 a1
            go_wp2_with fail
            go_loopg [10, 40] nx (fun lft2 v10 v40 wt => ∃ j : Nat, j ≤ nx ∧ nx - j ≤ lft2 ∧ v40 = .int .i64 j ∧ Hid (Below w3.heap.size w3 wt) ∧ Hid (Below w3.heap.size wo wt) ∧ Hid (wt.ownsRow w3.heap.size 54 3 v10 ((rowsTo g.2.2 s i).length + j) (rcells (rowsTo g.2.2 s i) ++ rcells ((rowsAt g.2.2 s i).take j))))
            case atStart => exact ⟨0, by omega, by omega, rfl, HB.out, (Below.refl _ _).mono HB.out.size, by rw [List.take_zero, show rcells [] = [] from rfl, List.append_nil]; exact HO10.out⟩
            case round =>
              obtain ⟨j, hj, hlft2, rfl, HBT, HBRT, HOT⟩ := hrel
              have HB2W := Lib.hid (show b2 < w3.heap.size by have := HW3.out; omega)
              have z0 : wr.cell? ⟨b2, o2 + i * 2, none⟩ = some (.int .i64 lf) := (HBRT.out.cell (p := ⟨b2, o2 + i * 2, none⟩) HB2W.out).trans y0
              have z2 : wr.cell? ⟨w.heap.size, 2, none⟩ = some (.slice (some ⟨b2, o2, none⟩) q c3) := (HBRT.out.cell (p := ⟨w.heap.size, 2, none⟩) (show w.heap.size < w3.heap.size by have := HW3.out; have := HS2.out; have := HS3.out; omega)).trans a2
              by_cases hjx : j < nx
              · have hjl : j < x.length := by rw [← HNL.out]; exact hjx
                obtain ⟨b3, o3, rfl, -, hb3, cw⟩ := (HX.out.below (HBRT.out.mono HS3.out)).wd hjl
                have HT := Lib.hid (show rcells ((rowsAt g.2.2 s i).take (j + 1)) = rcells ((rowsAt g.2.2 s i).take j) ++ rowc (lf, x[j], (i : Int)) by
                  rw [HRA.out, List.take_succ_eq_append_getElem (by rw [List.length_map]; exact hjl), rcells_snoc, List.getElem_map])
                obtain ⟨wj, hwj⟩ : ∃ wj, wj = x[j] := ⟨_, rfl⟩
                rw [← hwj] at cw HT
                obtain ⟨pre, hpre⟩ : ∃ pre, pre = rcells (rowsTo g.2.2 s i) ++ rcells ((rowsAt g.2.2 s i).take j) := ⟨_, rfl⟩
                rw [← hpre] at HOT
                have HPRE := Lib.hid hpre
                obtain ⟨nr, hnr⟩ : ∃ nr, nr = (rowsTo g.2.2 s i).length := ⟨_, rfl⟩
                rw [← hnr] at HOT
                have HNR := Lib.hid hnr
                have hnr2 : nr ≤ 16777216 := by have := HTL.out; have := HQ.out; omega
                have HBS := Lib.hid HBT.out.size
                obtain ⟨A10, c10, rfl, hc101, hc102⟩ := own_form HOT.out
                clear hwj hpre hnr hjl y0 a2 x1
                go_wp2_with (at_builtin; refine wpList_app (m := 1) (n := nr + j) row_app rfl rfl rfl rfl (HOT.out.alloc _) (Rd.row (B := wr.heap.size + 1) (Go.heap_alloc_new wr _) (by omega)) rfl (by simp [Value.oneCell']) (by unfold maxLen; omega) (by omega) (by rw [World.size_alloc]; have := HBS.out; omega) ?_)
                intro v' w7 ho7 hg7 hv7 _
                have HB7 := Lib.hid (show Below w3.heap.size w3 w7 from grown_below (HBT.out.alloc HBS.out (.cells (rowc (lf, wj, (i : Int))).toArray 54)) hg7 (HOT.out.alloc _) (Nat.le_refl _) (by rw [World.size_alloc]; have := HBS.out; omega))
                have HBR7 := Lib.hid (show Below w3.heap.size wo w7 from grown_below (HBRT.out.alloc HBS.out (.cells (rowc (lf, wj, (i : Int))).toArray 54)) hg7 (HOT.out.alloc _) (Nat.le_refl _) (by rw [World.size_alloc]; have := HBS.out; omega))
                have HO7 := Lib.hid (show w7.ownsRow w3.heap.size 54 3 v' ((rowsTo g.2.2 s i).length + (j + 1)) (rcells (rowsTo g.2.2 s i) ++ rcells ((rowsAt g.2.2 s i).take (j + 1))) by
                  rw [HT.out, ← List.append_assoc, ← HPRE.out, ← HNR.out]
                  exact ho7)
                clear ho7 hg7 hv7
                go_wp2_with fail
                go_roundg (gk - 1)
                case measure => omega
                case rel => exact ⟨j + 1, by omega, by omega, by go_num, HB7.out, HBR7.out, HO7.out⟩
              · have HEND := Lib.hid (show wr.ownsRow w3.heap.size 54 3 u10 (rowsTo g.2.2 s (i + 1)).length (rcells (rowsTo g.2.2 s (i + 1))) by
                  have := HOT.out
                  have e : (rowsAt g.2.2 s i).take j = rowsAt g.2.2 s i := List.take_of_length_le (by rw [HRA.out, List.length_map, ← HNL.out]; omega)
                  have e2 : (rowsAt g.2.2 s i).length = j := by rw [HRA.out, List.length_map, ← HNL.out]; omega
                  rw [e] at this
                  rw [HTS.out, List.length_append, e2]
                  unfold rcells at *
                  rw [List.map_append, List.flatten_append]
                  exact this)
                go_wp2_with fail
                go_roundg (gas - 1)
                case measure => have := HGK.out; omega
                case rel => exact ⟨i + 1, by omega, by omega, by go_num, HBT.out, HEND.out⟩
          · have hiq2 : i = q := by omega
            subst hiq2
            have HALL := Lib.hid (show rowsTo g.2.2 s i = rowsFrom 0 g.2.2 s by rw [HL.out.2.2]; exact rowsTo_all (by rw [HLEN.out]; exact HL.out.2.2))
            have HTL := Lib.hid (rowsTo_len (rs := g.2.2) HSB.out i)
            obtain ⟨A10, c10, rfl, hc101, hc102⟩ := own_form HO10.out
            have HSRT := Lib.hid (sortRows_any w3.heap.size A10 c10 (rowsTo g.2.2 s i) wo HO10.out (by have := HTL.out; have := HQ.out; omega))
            go_wp2_with fail
            refine HSRT.out.mono ?_
            rintro e w9 ⟨rfl, rows, hp, hsd, ho9, hg9⟩
            have HP := Lib.hid hp
            have HSD := Lib.hid hsd
            have hln : rows.length = (rowsTo g.2.2 s i).length := hp.length_eq
            have HLN := Lib.hid hln
            have HO9 := Lib.hid (own_more ho9 (Nat.le_trans HB2.out.size HS3.out))
            have HB9 := Lib.hid (show Below w.heap.size w w9 from grown_below (HB3.out.trans (HB.out.mono (Nat.le_trans HB2.out.size HS3.out))) hg9 HO10.out (Nat.le_trans HB2.out.size HS3.out) (Nat.le_trans (Nat.le_trans HB2.out.size HS3.out) HB.out.size))
            clear hp hsd ho9 hg9 hln
            go_wp2_with fail
            go_ret3
            refine ⟨HB9.out, fun h => absurd h HNB.out, fun _ => ⟨some s, HO.out, .inr ⟨by rw [← HC.out]; exact HNE.out, _, rows, rfl, ?_, HSD.out, ?_⟩⟩⟩
            · rw [← HALL.out]; exact HP.out
            · exact HO9.out
end Go.Proofs.YtkedmiememnmjaaGreat
namespace Go.Proofs.YtkedmiememnmjaaGreat
open Go.RowKit

def FoundAt (xs : List Row) (t : Row) (i : Nat) (ok : Bool) : Prop :=
  i ≤ xs.length ∧ (∀ (j : Nat) (x : Row), xs[j]? = some x → j < i → ordR x t < 0) ∧ (∀ (j : Nat) (x : Row), xs[j]? = some x → i ≤ j → 0 ≤ ordR x t) ∧ (ok = true ↔ ∃ x, xs[i]? = some x ∧ ordR x t = 0)
theorem low_all {xs : List Row} (hs : xs.Pairwise fun a b => ¬ rowLt b a) {h : Nat} {x t : Row} (hx : xs[h]? = some x) (hl : rowLt x t) : ∀ (k : Nat) (y : Row), xs[k]? = some y → k < h + 1 → rowLt y t := by
  intro k y hy hk
  by_cases e : k = h
  · subst e
    rw [hx] at hy
    injection hy with hy
    rwa [← hy]
  · obtain ⟨l1, e1⟩ := List.getElem?_eq_some_iff.1 hy
    obtain ⟨l2, e2⟩ := List.getElem?_eq_some_iff.1 hx
    have h1 := List.pairwise_iff_getElem.1 hs k h l1 l2 (by omega)
    rw [e1, e2] at h1
    refine Classical.byContradiction fun hno => ?_
    have := swoR.ntrans x y t ((ltOf_ordF _ _).2 h1) ((ltOf_ordF _ _).2 hno)
    exact (ltOf_ordF _ _).1 this hl
theorem high_all {xs : List Row} (hs : xs.Pairwise fun a b => ¬ rowLt b a) {h : Nat} {x t : Row} (hx : xs[h]? = some x) (hl : ¬ rowLt x t) : ∀ (k : Nat) (y : Row), xs[k]? = some y → h ≤ k → ¬ rowLt y t := by
  intro k y hy hk
  by_cases e : k = h
  · subst e
    rw [hx] at hy
    injection hy with hy
    rwa [← hy]
  · obtain ⟨l1, e1⟩ := List.getElem?_eq_some_iff.1 hy
    obtain ⟨l2, e2⟩ := List.getElem?_eq_some_iff.1 hx
    have h1 := List.pairwise_iff_getElem.1 hs h k l2 l1 (by omega)
    rw [e1, e2] at h1
    exact (ltOf_ordF _ _).1 (swoR.ntrans y x t ((ltOf_ordF _ _).2 h1) ((ltOf_ordF _ _).2 hl))
def SearchTo (xs : List Row) (t : Row) (w : World) (e : Ending) (w' : World) : Prop := ∃ (i : Nat) (ok : Bool), e = .returned (.tuple #[.int .i64 i, .bool ok]) ∧ FoundAt xs t i ok ∧ Below w.heap.size w w'
set_option maxRecDepth 100000 in
set_option maxHeartbeats 4000000 in
theorem search_any (A : Option Addr) (n c : Nat) (xs : List Row) (t : Row) (w : World) (hv : SlR eRow w w.heap.size (.slice A n c) xs) (hs : xs.Pairwise fun a b => ¬ rowLt b a) (hn : n ≤ 1073741824) :
    Calls Tryz.prog 33 #[.slice A n c, rowv t, .func (.func 24) #[] #[]] w (SearchTo xs t w) := by
  have hbx := (Below.refl w.heap.size w).alloc (Nat.le_refl _) (.cells (rowc t).toArray 54)
  have HV := Lib.hid (show SlR eRow _ w.heap.size (.slice A n c) xs from hv.fut hbx (Nat.le_refl _) (Nat.le_refl _))
  have HK := Lib.hid (Go.heap_alloc_new w (.cells (rowc t).toArray 54))
  have HZ := Lib.hid (World.size_alloc w (.cells (rowc t).toArray 54))
  have HBX := Lib.hid hbx
  have HN := Lib.hid hv.n_eq
  have hnc := hv.n_le
  have HSO := Lib.hid hs
  clear hv hs hbx
  obtain ⟨ta, ts, ti⟩ := t
  go_enter Tryz.func33, Tryz.ntmps33
  go_wp2_with fail
  generalize w.alloc (.cells (rowc (ta, ts, ti)).toArray 54) = w1 at *
  go_loopg [9, 10] n (fun lft v9 v10 wr => ∃ i j : Nat, i ≤ j ∧ j ≤ n ∧ j - i ≤ lft ∧ v9 = .int .i64 i ∧ v10 = .int .i64 j ∧ Hid (∀ (k : Nat) (x : Row), xs[k]? = some x → k < i → ordR x (ta, ts, ti) < 0) ∧ Hid (∀ (k : Nat) (x : Row), xs[k]? = some x → j ≤ k → 0 ≤ ordR x (ta, ts, ti)) ∧ Hid (Below (w.heap.size + 1) w1 wr))
  case atStart => exact ⟨0, n, by omega, by omega, by omega, rfl, rfl, fun k x _ h => by omega, fun k x h1 h2 => by have := (List.getElem?_eq_some_iff.1 h1).1; have := HN.out; omega, Below.refl _ _⟩
  case round =>
    obtain ⟨i, j, hij, hjn, hlft, rfl, rfl, HL, HR, HB⟩ := hrel
    have HKR := Lib.hid ((HB.out.block w.heap.size (by omega)).trans HK.out)
    have HSZ := Lib.hid (show w.heap.size + 1 ≤ wr.heap.size by have := HB.out.size; have := HZ.out; omega)
    have y0 : wr.cell? ⟨w.heap.size, 0, none⟩ = some (.int .i64 ta) := by rw [cell_of_row _ _ _ _ _ _ HKR.out]; rfl
    have y1 : wr.cell? ⟨w.heap.size, 1, none⟩ = some (wv ts) := by rw [cell_of_row _ _ _ _ _ _ HKR.out]; rfl
    have y2 : wr.cell? ⟨w.heap.size, 2, none⟩ = some (.int .i64 ti) := by rw [cell_of_row _ _ _ _ _ _ HKR.out]; rfl
    by_cases hlt : i < j
    · obtain ⟨h, hh⟩ : ∃ h, h = (i + j) / 2 := ⟨_, rfl⟩
      have hhi : i ≤ h := by omega
      have hhj : h < j := by omega
      have hhl : h < xs.length := by rw [← HN.out]; omega
      obtain ⟨b1, o1, rfl, -, hb1, x0, x1, x2, -⟩ := (HV.out.below (HB.out.mono (Nat.le_succ _))).rowAt hhl
      go_upto_region 5 with fail
      have hhe : ((i : Int) + (j : Int)) / 2 = (h : Int) := by omega
      simp only [hhe]
      have HXE := Lib.hid (List.getElem?_eq_getElem hhl)
      obtain ⟨x, hx⟩ : ∃ x, x = xs[h] := ⟨_, rfl⟩
      rw [← hx] at x0 x1 x2 HXE
      clear hx hhe
      obtain ⟨xa, xs1, xi⟩ := x
      simp only at x0 x1 x2
      have HO := Lib.hid (order_any (xa, xs1, xi) (ta, ts, ti))
      have HOL := Lib.hid (ordR_lt (xa, xs1, xi) (ta, ts, ti))
      obtain ⟨oo, hoo⟩ : ∃ oo, oo = ordR (xa, xs1, xi) (ta, ts, ti) := ⟨_, rfl⟩
      rw [← hoo] at HO HOL
      have HOO := Lib.hid hoo
      have HH := Lib.hid hh
      clear hoo hhl hh
      refine Text.wp_grow [6] [4, 5] [] (by kernel_rfl) (by kernel_rfl) ?_
      refine Text.wpS_seg 6 _ _ _ _ (by decide) (fun Q' hQ' => ?_)
      simp only [List.take_succ_cons, List.take_zero]
      go_wp2_with fail
      try simp only [Nat.zero_add, List.drop_succ_cons, List.drop_zero]
      refine Text.wpS_one (fun Q' hQ' => ?_)
      go_wp2_with fail
      refine (HO.out _).mono ?_
      rintro e w5 ⟨rfl, hb5, _⟩
      have HB5 := Lib.hid hb5
      go_wp2_with fail
      refine ⟨hb5, ?_⟩
      refine Text.wpS_seg 1 _ _ _ _ (by decide) (fun Q' hQ' => ?_)
      simp only [List.take_succ_cons, List.take_zero]
      go_wp2_with fail
      refine ⟨by rfl, ?_, ?_⟩
      · exact ⟨fun _ => ⟨_, _, rfl, x0⟩, fun _ => ⟨_, _, rfl, y0⟩, trivial⟩
      have HBN := Lib.hid (HB.out.trans ((Below.refl wr.heap.size wr).drew.trans hb5 |>.mono HSZ.out))
      clear hb5
      by_cases hlo : oo < 0
      · have hd : decide (oo < 0) = true := by simpa using hlo
        have HLO := Lib.hid (low_all HSO.out HXE.out (HOL.out.1 hlo))
        go_wp2_with fail
        go_roundg (gk - 1)
        case measure => omega
        case rel => exact ⟨h + 1, j, by omega, by omega, by omega, by go_num, rfl, fun k x hx hk => (ordR_lt x _).2 (HLO.out k x hx hk), HR.out, HBN.out⟩
      · have hd : decide (oo < 0) = false := by simpa using hlo
        have HHI := Lib.hid (high_all HSO.out HXE.out (fun e => hlo (HOL.out.2 e)))
        go_wp2_with fail
        go_roundg (gk - 1)
        case measure => omega
        case rel => exact ⟨i, h, by omega, by omega, by omega, rfl, rfl, HL.out, fun k x hx hk => by have := HHI.out k x hx hk; rw [← ordR_lt] at this; omega, HBN.out⟩
    · have hij2 : i = j := by omega
      subst hij2
      by_cases hin : i < n
      · have hil : i < xs.length := by rw [← HN.out]; exact hin
        obtain ⟨b1, o1, rfl, -, hb1, x0, x1, x2, -⟩ := (HV.out.below (HB.out.mono (Nat.le_succ _))).rowAt hil
        have HXE := Lib.hid (List.getElem?_eq_getElem hil)
        obtain ⟨x, hx⟩ : ∃ x, x = xs[i] := ⟨_, rfl⟩
        rw [← hx] at x0 x1 x2 HXE
        clear hx
        obtain ⟨xa, xs1, xi⟩ := x
        simp only at x0 x1 x2
        have HO := Lib.hid (order_any (xa, xs1, xi) (ta, ts, ti))
        obtain ⟨oo, hoo⟩ : ∃ oo, oo = ordR (xa, xs1, xi) (ta, ts, ti) := ⟨_, rfl⟩
        rw [← hoo] at HO
        have HOO := Lib.hid hoo
        clear hoo hil
        go_upto_region 8 with fail
        refine Text.wp_grow [11] [9, 10] [] (by kernel_rfl) (by kernel_rfl) ?_
        refine Text.wpS_seg 11 _ _ _ _ (by decide) (fun Q' hQ' => ?_)
        simp only [List.take_succ_cons, List.take_zero]
        go_wp2_with fail
        try simp only [Nat.zero_add, List.drop_succ_cons, List.drop_zero]
        refine Text.wpS_one (fun Q' hQ' => ?_)
        go_wp2_with fail
        refine (HO.out _).mono ?_
        rintro e w5 ⟨rfl, hb5, _⟩
        go_wp2_with fail
        refine ⟨hb5, ?_⟩
        refine Text.wpS_seg 4 _ _ _ _ (by decide) (fun Q' hQ' => ?_)
        simp only [List.take_succ_cons, List.take_zero]
        go_wp2_with fail
        refine ⟨by rfl, ?_, ?_⟩
        · exact ⟨fun _ => ⟨_, _, rfl, x0⟩, fun _ => ⟨_, _, rfl, y0⟩, trivial⟩
        have HBN := Lib.hid (HBX.out.trans ((HB.out.trans ((Below.refl wr.heap.size wr).drew.trans hb5 |>.mono HSZ.out)).mono (Nat.le_succ _)))
        clear hb5
        go_wp2_with fail
        go_ret2
        refine ⟨i, _, rfl, ⟨by rw [← HN.out]; omega, HL.out, HR.out, ?_⟩, HBN.out⟩
        rw [HXE.out, beq_iff_eq, HOO.out]
        exact ⟨fun h => ⟨_, rfl, h⟩, fun ⟨x, hx, h⟩ => by injection hx with hx; rw [hx]; exact h⟩
      · have hin2 : i = n := by omega
        subst hin2
        go_upto_region 8 with fail
        refine Text.wp_grow [11] [9, 10] [] (by kernel_rfl) (by kernel_rfl) ?_
        refine Text.wpS_seg 11 _ _ _ _ (by decide) (fun Q' hQ' => ?_)
        simp only [List.take_succ_cons, List.take_zero]
        go_wp2_with fail
        try simp only [Nat.zero_add, List.drop_succ_cons, List.drop_zero]
        refine Text.wpS_one (fun Q' hQ' => ?_)
        go_wp2_with fail
        refine ⟨Below.refl _ _, ?_⟩
        refine Text.wpS_seg 4 _ _ _ _ (by decide) (fun Q' hQ' => ?_)
        simp only [List.take_succ_cons, List.take_zero]
        go_wp2_with fail
        refine ⟨by rfl, ?_, ?_⟩
        · exact ⟨Text.no_want rfl, Text.no_want rfl, trivial⟩
        have HBN := Lib.hid (HBX.out.trans ((HB.out.drew).mono (Nat.le_succ _)))
        go_wp2_with fail
        go_ret2
        refine ⟨i, false, rfl, ⟨by rw [← HN.out]; omega, HL.out, HR.out, ?_⟩, HBN.out⟩
        rw [List.getElem?_eq_none (by rw [← HN.out]; omega)]
        exact ⟨fun h => (by cases h), fun ⟨x, hx, _⟩ => (by cases hx)⟩
def LookOk (xs : List Row) (a : Int) (s : Wd) (w : World) (e : Ending) (w' : World) : Prop := ∃ (r : Int) (ok : Bool), e = .returned (.tuple #[.int .i64 r, .bool ok]) ∧ LookTo xs a s r ok ∧ Below w.heap.size w w'
theorem found_look {xs : List Row} (hs : xs.Pairwise fun a b => ¬ rowLt b a) {a : Int} {s : Wd} {z : Int} {i : Nat} {ok : Bool} (h : FoundAt xs (a, s, z) i ok) : (ok = true → ∃ x, xs[i]? = some x ∧ LookTo xs a s x.2.2 true) ∧ (ok = false → LookTo xs a s 0 false) := by
  obtain ⟨h1, h2, h3, h4⟩ := h
  constructor
  · intro ho
    obtain ⟨x, hx, he⟩ := h4.1 ho
    obtain ⟨e1, e2⟩ := (ordR_eq _ _).1 he
    simp only at e1 e2
    refine ⟨x, hx, fun _ => ?_, fun h => (by cases h)⟩
    rw [← e1, ← e2]
    exact List.mem_of_getElem? hx
  · intro ho
    refine ⟨fun h => (by cases h), fun _ => ⟨rfl, fun r' hm => ?_⟩⟩
    obtain ⟨j, hj, hje⟩ := List.getElem_of_mem hm
    have hj? : xs[j]? = some (a, s, r') := by rw [List.getElem?_eq_getElem hj, hje]
    have h0 : ordR (a, s, r') (a, s, z) = 0 := (ordR_eq _ _).2 ⟨rfl, rfl⟩
    by_cases hji : j < i
    · have := h2 j _ hj? hji
      omega
    · have hi : i < xs.length := by omega
      have h5 := h3 i _ (List.getElem?_eq_getElem hi) (Nat.le_refl _)
      have : ok = true := h4.2 ⟨_, List.getElem?_eq_getElem hi, ?_⟩
      · rw [ho] at this; cases this
      · rcases rowLt_tri xs[i] (a, s, z) with h6 | h6 | h6
        · have := (ordR_lt _ _).2 h6
          omega
        · injection h6 with h6 h7
          exact (ordR_eq _ _).2 ⟨h6, h7⟩
        · have h7 : rowLt xs[j] xs[i] := by rw [hje]; exact rowLt_key rfl h6
          by_cases hij : i = j
          · subst hij
            exact absurd rfl (rowLt_irrefl h7)
          · exact absurd h7 (List.pairwise_iff_getElem.1 hs i j hi hj (by omega))
set_option maxHeartbeats 1600000 in
theorem look_any (A : Option Addr) (n c : Nat) (xs : List Row) (a : Int) (s : Wd) (w : World) (hv : SlR eRow w w.heap.size (.slice A n c) xs) (hs : xs.Pairwise fun a b => ¬ rowLt b a) (hn : n ≤ 1073741824) :
    Calls Tryz.prog 13 #[.slice A n c, .int .i64 a, wv s] w (LookOk xs a s w) := by
  have HF := Lib.hid (search_any A n c xs (a, s, 0) w hv hs hn)
  have HV := Lib.hid hv
  have HS := Lib.hid hs
  have HN := Lib.hid hv.n_eq
  have hnc := hv.n_le
  clear hv hs
  go_enter Tryz.func13, Tryz.ntmps13
  go_wp2_with fail
  refine HF.out.mono ?_
  rintro e w1 ⟨i, ok, rfl, hfo, hb⟩
  obtain ⟨f1, f2⟩ := found_look HS.out hfo
  have HB := Lib.hid hb
  have HI := Lib.hid hfo.1
  cases ok with
  | false =>
    have H2 := Lib.hid (f2 rfl)
    clear f1 f2 hfo hb
    go_wp2_with fail
    go_ret2
    exact ⟨0, false, rfl, H2.out, HB.out⟩
  | true =>
    obtain ⟨x, hx, h1⟩ := f1 rfl
    have hil := (List.getElem?_eq_some_iff.1 hx).1
    have hin : i < n := by rw [HN.out]; exact hil
    obtain ⟨b1, o1, rfl, -, hb1, x0, x1, x2, -⟩ := (HV.out.below hb).rowAt hil
    rw [(List.getElem?_eq_some_iff.1 hx).2] at x0 x1 x2
    have H1 := Lib.hid h1
    clear f1 f2 hfo hb h1 hx hil
    go_wp2_with fail
    go_ret2
    exact ⟨_, true, rfl, H1.out, HB.out⟩
end Go.Proofs.YtkedmiememnmjaaGreat
