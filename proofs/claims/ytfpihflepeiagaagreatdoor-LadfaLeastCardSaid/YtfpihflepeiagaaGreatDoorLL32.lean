/- Texts of this proof joined: Awk26, Rf24a, Rf24b. -/
import Derived.Test.YtfpihflepeiagaaGreatDoorLL21
import Derived.Test.YtfpihflepeiagaaGreatDoorLL31
import Derived.Test.YtfpihflepeiagaaGreatDoorLL22
import Derived.Test.YtfpihflepeiagaaGreatDoorLL30
import Derived.Test.YtfpihflepeiagaaGreatDoorLL27
namespace Go.Proofs.YtfpihflepeiagaaGreatDoor
open Go.RowKit

theorem aw_machs : machsM awRows 1 = [machM awRows] := by
  unfold machsM
  rw [show List.range 1 = [0] from rfl, List.map_singleton, show ofRows ((0 : Nat) : Int) awRows = awRows from by kernel_rfl]
theorem aw_low : ∀ r ∈ awRows, 0 ≤ r.2.2 := by
  intro r hr
  simp only [awRows, List.mem_cons, List.not_mem_nil, or_false] at hr
  rcases hr with rfl | rfl <;> decide
theorem aw_rowsFit : RowsFit awRows := by
  refine ⟨by decide, fun r hr => ?_⟩
  simp only [awRows, List.mem_cons, List.not_mem_nil, or_false] at hr
  rcases hr with rfl | rfl <;> decide
theorem aw_sum : ((machsM awRows 1).map List.length).sum = 2 := by
  rw [aw_machs, List.map_singleton, List.sum_singleton]
  exact (awM_rows (r := awRows) rfl).1
theorem aw_pred1 : predictR (machsM awRows 1) 0 [0] = 1 := by rw [machs_predict aw_low]; decide
theorem aw_pred2 : predictR (machsM awRows 1) 0 [0, 0] = -1 := by rw [machs_predict aw_low]; decide
theorem aw_fits : ¬ BadK 1 gA → ∀ s rows, AheadO 1 gA (some s) → rows.Perm (rowsFrom 0 gA.2.2 s) → RowsFit rows ∧ FitR rows := by
  intro _ s rows ha hp
  have := ha.det aw_ahead
  injection this with this
  subst this
  rw [show gA.2.2 = gAr from rfl, gA_rows] at hp
  exact ⟨⟨by rw [hp.length_eq]; decide, fun r hr => aw_rowsFit.w r (hp.mem_iff.1 hr)⟩, fun r hr => aw_fit r (hp.mem_iff.1 hr)⟩
set_option maxRecDepth 100000 in
set_option maxHeartbeats 4000000 in
theorem awake26_any (w : World) (ht : TabP w) : Calls Tryz.prog 7 #[] w fun e w' => e = .returned (.bool true) ∧ Below w.heap.size w w' := by
  obtain ⟨W, hW⟩ : ∃ W, W = (awObjs w.heap.size).foldl World.alloc w := ⟨_, rfl⟩
  obtain ⟨hs, hbW, hg⟩ := aw_data w W hW
  have hq4 : W.heap[w.heap.size + 4]? = some (.cells #[.slice (some ⟨w.heap.size, 0, none⟩) 1 1, .slice (some ⟨w.heap.size + 1, 0, none⟩) 1 1, .slice (some ⟨w.heap.size + 3, 0, none⟩) 2 2] 25 (0, 0)) := by rw [hW]; exact heap_many _ w 4 _ rfl
  have r0 := cell_of_row W _ 0 _ _ _ hq4
  have r1 := cell_of_row W _ 1 _ _ _ hq4
  have r2 := cell_of_row W _ 2 _ _ _ hq4
  simp only [List.getElem?_toArray, List.getElem?_cons_succ, List.getElem?_cons_zero] at r0 r1 r2
  have HG := Lib.hid hg
  have HS := Lib.hid hs
  have HBW := Lib.hid hbW
  have HW := Lib.hid hW
  have HT := Lib.hid (ht.below hbW)
  clear hg hq4 hs hbW hW ht
  go_enter Tryz.func7, Tryz.ntmps7
  go_wp2_with fail
  change Calls _ _ _ ((awObjs w.heap.size).foldl World.alloc w) _
  rw [← HW.out]
  refine (make26_any 1 W HG.out (by decide) HT.out aw_fits).mono ?_
  rintro e w1 ⟨hb1, _, hgood⟩
  obtain ⟨o, ho, hout⟩ := hgood aw_bad
  have hoe := ho.det aw_ahead
  subst hoe
  rcases hout with ⟨hne, _⟩ | ⟨_, v, rows, rfl, hp, hsd, hown⟩
  · exact absurd gA_clash hne
  · have hre := aw_rows (show rows.Perm awRows by have := hp; rwa [show gA.2.2 = gAr from rfl, gA_rows] at this) hsd
    subst hre
    clear hp hsd ho hgood
    obtain ⟨A5, c5, rfl, hc5, hc5'⟩ := hown.form
    unfold maxLen at hc5'
    rw [machs_len] at hc5 hown ⊢
    have HR := Lib.hid hown
    have HB1 := Lib.hid hb1
    clear hown hb1 r0 r1 r2
    have HP1 := Lib.hid (fun (w' : World) (hb : Below w1.heap.size w1 w') => (show Calls Tryz.prog 12 #[.slice A5 1 c5, .int .i64 0, .string ⟨#[0]⟩] w' fun e w2 => e = .returned (.tuple #[.int .i64 1, .bool true]) ∧ Below w'.heap.size w' w2 from (predict_any _ _ 0 ⟨#[0]⟩ w' (HR.out.next hb hb.size) (by decide)).mono fun e w2 ⟨h1, h2⟩ => ⟨by rw [h1, show predictR (machsM awRows 1) 0 (⟨#[0]⟩ : ByteArray).data.toList = 1 from aw_pred1]; rfl, h2⟩))
    have HP2 := Lib.hid (fun (w' : World) (hb : Below w1.heap.size w1 w') => (show Calls Tryz.prog 12 #[.slice A5 1 c5, .int .i64 0, .string ⟨#[0, 0]⟩] w' fun e w2 => e = .returned (.tuple #[.int .i64 0, .bool false]) ∧ Below w'.heap.size w' w2 from (predict_any _ _ 0 ⟨#[0, 0]⟩ w' (HR.out.next hb hb.size) (by decide)).mono fun e w2 ⟨h1, h2⟩ => ⟨by rw [h1, show predictR (machsM awRows 1) 0 (⟨#[0, 0]⟩ : ByteArray).data.toList = -1 from aw_pred2]; rfl, h2⟩))
    go_wp2_with fail
    refine (HP1.out w1 (Below.refl _ _)).mono ?_
    rintro e w2 ⟨rfl, hb2⟩
    have HB2 := Lib.hid hb2
    clear hb2
    go_wp2_with fail
    refine (HP2.out w2 HB2.out).mono ?_
    rintro e w3 ⟨rfl, hb3⟩
    have HB3 := Lib.hid (HB2.out.trans (hb3.mono HB2.out.size))
    clear hb3
    have hR3 := HR.out.next HB3.out HB3.out.size
    have HST := Lib.hid (show Calls Tryz.prog 18 #[.slice A5 1 c5] w3 fun e w' => e = .returned (.int .i64 2) ∧ w' = w3 from (states26_any _ _ w3 hR3 (by rw [aw_sum]; decide)).mono fun e w2 ⟨h1, h2⟩ => ⟨by rw [h1, aw_sum]; rfl, h2⟩)
    rw [aw_machs] at hR3
    obtain ⟨b1, o1, cs, rfl, -, hb1, ⟨u, rfl, hu⟩, hcell⟩ := hR3.get (k := 0) (by decide) (by decide)
    obtain ⟨A4, e4, rfl, he1, he2⟩ := hu.form
    have d0 := hcell 0 _ rfl
    clear hcell hR3
    simp only [show (eSl eState).size = 1 from rfl, Nat.zero_mul, Nat.add_zero] at d0
    obtain ⟨hm1, hm2, hm3⟩ := awM_rows (r := awRows) rfl
    change w3.cell? _ = some (.slice A4 (machM awRows).length e4) at d0
    change SlR eState w3 _ (.slice A4 (machM awRows).length e4) (machM awRows) at hu
    change (machM awRows).length ≤ e4 at he1
    rw [hm1] at d0 hu he1
    obtain ⟨b2, o2, cs, rfl, -, hb2, hrep, hcell⟩ := hu.get (k := 0) (by omega) (by decide)
    obtain ⟨u0, rfl, -, -, -⟩ := eState_open hrep
    have f0 := hcell 0 _ rfl
    clear hcell hrep
    obtain ⟨b3, o3, cs, e3, -, hb3, hrep, hcell⟩ := hu.get (k := 1) (by omega) (by decide)
    obtain ⟨u1, rfl, -, -, -⟩ := eState_open hrep
    have f1 := hcell 0 _ rfl
    clear hcell hrep hu
    injection e3 with e3
    injection e3 with e31 e32 _
    subst e31 e32
    rw [outM_get (by omega)] at hm2 hm3
    rw [hm2] at f0
    rw [hm3] at f1
    simp only [show eState.size = 2 from rfl, Nat.zero_mul, Nat.one_mul, Nat.add_zero] at f0 f1
    clear hm1 hm2 hm3
    go_wp2_with fail
    refine HST.out.mono ?_
    rintro e w4 ⟨rfl, rfl⟩
    go_wp2_with fail
    go_ret
    exact ⟨rfl, HBW.out.trans ((HB1.out.trans (HB3.out.mono HB1.out.size)).mono (by have := HS.out; omega))⟩
end Go.Proofs.YtfpihflepeiagaaGreatDoor
namespace Go.Proofs.YtfpihflepeiagaaGreatDoor
open Go.RowKit

set_option maxHeartbeats 1600000 in
theorem out24_any (A : Option Addr) (c s : Nat) (m : Mach) (w : World) (hv : SlR eState w w.heap.size (.slice A m.length c) m) :
    Calls Tryz.prog 57 #[.slice A m.length c, .int .i64 s] w fun e w' => e = .returned (.int .i64 (outX m s)) ∧ w' = w := by
  have hc1 := hv.n_le
  have HV := Lib.hid hv
  clear hv
  obtain ⟨n, hn⟩ : ∃ n, n = m.length := ⟨_, rfl⟩
  have HN := Lib.hid hn
  rw [← hn] at hc1 HV ⊢
  clear hn
  by_cases hs : s < n
  · have hsm : s < m.length := by rw [← HN.out]; exact hs
    obtain ⟨b1, o1, cs, rfl, -, hb1, hrep, hcell⟩ := HV.out.get hsm (by decide)
    obtain ⟨u, rfl, hu, hz1, hz2⟩ := eState_open hrep
    have d0 := hcell 0 _ rfl
    clear hcell hrep hu
    simp only [show eState.size = 2 from rfl, Nat.add_zero] at d0
    have HO := Lib.hid (show outX m s = m[s].1 by unfold outX; rw [if_pos hsm, outM_get hsm])
    generalize m[s].1 = so at *
    have hd1 : decide ((s : Int) < 0) = false := by simp
    have hd2 : decide ((n : Int) ≤ (s : Int)) = false := by simp; omega
    clear hsm
    go_enter Tryz.func57, Tryz.ntmps57
    go_wp2_with fail
    all_goals first
      | (exfalso; omega)
      | (go_ret; exact ⟨rt1 (vint HO.out.symm), rfl⟩)
  · have HO := Lib.hid (show outX m s = -1 by unfold outX; rw [if_neg (by rw [← HN.out]; exact hs)])
    have hd2 : decide ((n : Int) ≤ (s : Int)) = true := by simp; omega
    go_enter Tryz.func57, Tryz.ntmps57
    go_wp2_with fail
    all_goals first
      | (exfalso; omega)
      | (go_ret; exact ⟨rt1 (vint HO.out.symm), rfl⟩)
def goR (m : Mch) (s t : Nat) : Int := if s < m.length then (match stepI m s t with | some j => ((j : Nat) : Int) | none => -1) else -1
theorem goR_none {m : Mch} {s t : Nat} (hs : s < m.length) (h : ∀ e ∈ edM m s, e.1 ≠ (t : Int)) : goR m s t = -1 := by
  unfold goR
  rw [if_pos hs]
  have : stepI m s t = none := by
    unfold stepI
    rw [List.find?_eq_none.2 fun e he => by simpa using h e he]
  rw [this]
theorem goR_some {m : Mch} (hg : GoodM m) {s t k : Nat} (hs : s < m.length) (hk : k < (edM m s).length) (h : (edM m s)[k].1 = (t : Int)) : goR m s t = (edM m s)[k].2 := by
  unfold goR
  rw [if_pos hs]
  have hto := hg.tos s hs _ (List.getElem_mem hk)
  have : stepI m s t = some (edM m s)[k].2.toNat := (step_edge hg hs (t : Int) _).2 (by
    rw [show (((edM m s)[k].2.toNat : Nat) : Int) = (edM m s)[k].2 by omega, ← h]
    exact List.getElem_mem hk)
  rw [this]
  simp only
  omega
set_option maxRecDepth 100000 in
set_option maxHeartbeats 4000000 in
theorem go24_any (A : Option Addr) (c s t : Nat) (m : Mach) (w : World) (hv : SlR eState w w.heap.size (.slice A m.length c) m) (hg : GoodM m) :
    Calls Tryz.prog 58 #[.slice A m.length c, .int .i64 s, .int .i64 t] w fun e w' => e = .returned (.int .i64 (goR m s t)) ∧ w' = w := by
  have hc1 := hv.n_le
  have HV := Lib.hid hv
  have HG := Lib.hid hg
  clear hv hg
  obtain ⟨n, hn⟩ : ∃ n, n = m.length := ⟨_, rfl⟩
  have HN := Lib.hid hn
  rw [← hn] at hc1 HV ⊢
  clear hn
  by_cases hs : s < n
  · have hsm : s < m.length := by rw [← HN.out]; exact hs
    obtain ⟨b1, o1, cs, rfl, -, hb1, hrep, hcell⟩ := HV.out.get hsm (by decide)
    obtain ⟨u, rfl, hu, hz1, hz2⟩ := eState_open hrep
    obtain ⟨A4, e4, rfl, he1, he2⟩ := hu.form
    unfold maxLen at he2
    have d1 := hcell 1 _ rfl
    clear hcell hrep
    simp only [show eState.size = 2 from rfl, ← Nat.add_assoc] at d1
    have HED := Lib.hid (edM_get hsm)
    have HTO := Lib.hid (HG.out.tos s hsm)
    have HU := Lib.hid hu
    obtain ⟨se, hse⟩ : ∃ se, se = m[s].2 := ⟨_, rfl⟩
    rw [← hse] at d1 HED HU he1
    clear hse hu hz1 hz2
    obtain ⟨q, hq⟩ : ∃ q, q = se.length := ⟨_, rfl⟩
    have HQ := Lib.hid hq
    rw [← hq] at d1 he1 HU
    clear hq
    have HSM := Lib.hid hsm
    clear hsm
    have hd2 : decide ((n : Int) ≤ (s : Int)) = false := by simp; omega
    go_enter Tryz.func58, Tryz.ntmps58
    go_wp2_with fail
    go_loopw [7] (fun v7 wr => ∃ k : Nat, k ≤ q ∧ v7 = .int .i64 k ∧ wr = w ∧ Hid (∀ e ∈ se.take k, e.1 ≠ (t : Int))) (fun v7 _ => q - (intOf v7).toNat)
    case atStart => exact ⟨0, by omega, rfl, rfl, fun e he => by simp at he⟩
    case round =>
      obtain ⟨k, hk, rfl, rfl, HNO⟩ := hrel
      by_cases hlt : k < q
      · have hkl : k < se.length := by rw [← HQ.out]; exact hlt
        obtain ⟨b2, o2, cs, rfl, -, hb2, hrep, hcell⟩ := HU.out.get hkl (by decide)
        obtain ⟨rfl, hy1, hy2, hy3, hy4⟩ := eEdge_open hrep
        have f0 := hcell 0 _ rfl
        have f1 := hcell 1 _ rfl
        clear hcell hrep
        simp only [show eEdge.size = 2 from rfl, Nat.add_zero, ← Nat.add_assoc] at f0 f1
        have hto := HTO.out se[k] (by rw [HED.out]; exact List.getElem_mem hkl)
        have hkm : k < (edM m s).length := by rw [HED.out]; exact hkl
        have hem : (edM m s)[k] = se[k] := by simp only [HED.out]
        have HSO := Lib.hid (fun h => goR_some HG.out HSM.out hkm (t := t) h)
        rw [hem] at HSO
        have HTK := Lib.hid (List.take_succ_eq_append_getElem hkl)
        rw [← HN.out] at hto
        obtain ⟨e, he⟩ : ∃ e, e = se[k] := ⟨_, rfl⟩
        rw [← he] at f0 f1 hy1 hy2 hy3 hy4 hto HSO HTK
        clear he hkm hem
        obtain ⟨et, en⟩ := e
        simp only at f0 f1 hy1 hy2 hy3 hy4 hto HSO
        obtain ⟨ht0, ht1, ht2⟩ := hto
        by_cases het : et = (t : Int)
        · have HR := Lib.hid (HSO.out het)
          subst het
          have hd3 : decide (0 ≤ en) = true := by simpa using ht1
          have hd4 : decide (en < (n : Int)) = true := by simpa using ht2
          go_wp2_with fail
          all_goals first
            | (exfalso; omega)
            | (go_ret; exact ⟨rt1 (vint HR.out.symm), rfl⟩)
        · have hd3 : (et == (t : Int)) = false := by simpa using het
          have HNE := Lib.hid het
          clear het
          go_wp2_with fail
          go_roundw
          case rel =>
            refine ⟨k + 1, by omega, by go_num, trivial, ?_⟩
            intro e he
            rw [HTK.out, List.mem_append, List.mem_singleton] at he
            rcases he with he | rfl
            · exact HNO.out e he
            · exact HNE.out
          case measure => simp [intOf]; omega
      · have hkq : k = q := by omega
        have HR := Lib.hid (goR_none (m := m) (t := t) HSM.out fun e he => HNO.out e (by
          rw [HED.out] at he
          rw [hkq, HQ.out, List.take_length]
          exact he))
        subst hkq
        go_wp2_with fail
        go_ret
        exact ⟨rt1 (vint HR.out.symm), rfl⟩
  · have HO := Lib.hid (show goR m s t = -1 by unfold goR; rw [if_neg (by rw [← HN.out]; exact hs)])
    have hd2 : decide ((n : Int) ≤ (s : Int)) = true := by simp; omega
    go_enter Tryz.func58, Tryz.ntmps58
    go_wp2_with fail
    all_goals first
      | (exfalso; omega)
      | (go_ret; exact ⟨rt1 (vint HO.out.symm), rfl⟩)
end Go.Proofs.YtfpihflepeiagaaGreatDoor
namespace Go.Proofs.YtfpihflepeiagaaGreatDoor
open Go.RowKit

def ReachTo (w : World) (n : Nat) (e : Ending) (w' : World) : Prop := ∃ x M, e = .returned (.slice (some ⟨x, 0, none⟩) n n) ∧ BoolsAt w' x M ∧ M.length = n ∧ (∀ k < n, atB M k = true) ∧ w.heap.size ≤ x ∧ Below w.heap.size w w'
def MetBy (m : Mch) (M : List Bool) (i : Nat) : Prop := ∀ k < m.length, (k = 0 ∨ ∃ p < i, ∃ t, (t, (k : Int)) ∈ edM m p) → atB M k = true
set_option maxRecDepth 100000 in
set_option maxHeartbeats 4000000 in
theorem reached24_any (A : Option Addr) (c : Nat) (m : Mach) (w : World) (hv : SlR eState w w.heap.size (.slice A m.length c) m) (hg : GoodM m) (hl : m.length ≤ 2199023255552) (hnew : ∀ k, 0 < k → k < m.length → ∃ p < k, ∃ t, (t, (k : Int)) ∈ edM m p) :
    Calls Tryz.prog 33 #[.slice A m.length c] w (ReachTo w m.length) := by
  have hc1 := hv.n_le
  have HV := Lib.hid hv
  have HG := Lib.hid hg
  have HNW := Lib.hid hnew
  clear hv hg hnew
  obtain ⟨n, hn⟩ : ∃ n, n = m.length := ⟨_, rfl⟩
  have HN := Lib.hid hn
  rw [← hn] at hc1 HV hl HNW ⊢
  clear hn
  have hpos : 0 < n := by rw [HN.out]; exact List.length_pos_iff.2 HG.out.some
  have hmk := bool_makeL n hl w
  have hz : ((n : Int) == 0) = false := by simp; omega
  have hx0 := Go.heap_alloc_new w (.cells ((List.replicate n false).map Value.bool).toArray 4)
  have HX0 := Lib.hid (show BoolsAt (w.alloc (.cells ((List.replicate n false).map Value.bool).toArray 4)) w.heap.size (List.replicate n false) from hx0)
  have HB0 := Lib.hid (show Below w.heap.size w (w.alloc (.cells ((List.replicate n false).map Value.bool).toArray 4)) from (Below.refl _ _).alloc (Nat.le_refl _) _)
  clear hx0
  obtain ⟨c0, cf⟩ := HX0.out.at_ (k := 0) (by simpa using hpos)
  go_enter Tryz.func33, Tryz.ntmps33
  generalize hw1 : w.alloc (.cells ((List.replicate n false).map Value.bool).toArray 4) = w1 at *
  go_wp2_with fail
  have HX1 := Lib.hid (HX0.out.set 0 true)
  have HB1 := Lib.hid (HB0.out.setCell (p := ⟨w.heap.size, 0, none⟩) (Nat.le_refl _) (.bool true))
  have HM1 := Lib.hid (show atB ((List.replicate n false).set 0 true) 0 = true by simp [atB, hpos])
  have HL1 := Lib.hid (show ((List.replicate n false).set 0 true).length = n by simp)
  generalize (List.replicate n false).set 0 true = M1 at *
  generalize w1.setCell ⟨w.heap.size, 0, none⟩ (.bool true) = w2 at *
  obtain ⟨x, hx⟩ : ∃ x, x = w.heap.size := ⟨_, rfl⟩
  have HXX := Lib.hid (show w.heap.size ≤ x by omega)
  rw [← hx] at HX1 ⊢
  clear hx c0 cf HX0 HB0 hw1 hmk
  go_loopw [4] (fun v4 wr => ∃ (r : Nat) (M : List Bool), r ≤ n ∧ v4 = .int .i64 r ∧ Hid (BoolsAt wr x M) ∧ M.length = n ∧ Hid (atB M 0 = true) ∧ Hid (0 < r → ∀ k < n, atB M k = true) ∧ Hid (Below w.heap.size w wr)) (fun v4 _ => n - (intOf v4).toNat)
  case atStart => exact ⟨0, M1, by omega, rfl, HX1.out, HL1.out, HM1.out, fun h => by omega, HB1.out⟩
  case round =>
    clear HX1 HB1 HM1 HL1
    obtain ⟨r, M, hr, rfl, HX, hML, HM0, HALL, HB⟩ := hrel
    have HML := Lib.hid hML
    clear hML
    by_cases hlt : r < n
    · go_wp2_with fail
      go_loopw [5] (fun v5 wt => ∃ (i : Nat) (M : List Bool), i ≤ n ∧ v5 = .int .i64 i ∧ Hid (BoolsAt wt x M) ∧ Hid (M.length = n) ∧ Hid (MetBy m M i) ∧ Hid (Below w.heap.size w wt)) (fun v5 _ => n - (intOf v5).toNat)
      case atStart => exact ⟨0, M, by omega, rfl, HX.out, HML.out, fun k hk h => by
        rcases h with rfl | ⟨p, hp, _⟩
        · exact HM0.out
        · omega, HB.out⟩
      case round =>
        clear HX HML HM0 HALL HB
        obtain ⟨i, M2, hi, rfl, HX, HML, HMB, HB⟩ := hrel
        by_cases hin : i < n
        · have him : i < m.length := by rw [← HN.out]; exact hin
          have HSET := Lib.hid (show ∀ M3 : List Bool, MetBy m M3 i → atB M3 i = true from fun M3 h3 => h3 i him (by
            rcases Nat.eq_zero_or_pos i with h | h
            · exact .inl h
            · obtain ⟨p, hp, t, ht⟩ := HNW.out i h hin
              exact .inr ⟨p, hp, t, ht⟩))
          have HED := Lib.hid (edM_get him)
          have HTO := Lib.hid (HG.out.tos i him)
          go_wp2_with fail
          go_loopw [6] (fun v6 wu => ∃ (k : Nat) (M : List Bool), k ≤ m[i].2.length ∧ v6 = .int .i64 k ∧ Hid (BoolsAt wu x M) ∧ Hid (M.length = n) ∧ Hid (MetBy m M i) ∧ Hid (∀ e ∈ (edM m i).take k, atB M e.2.toNat = true) ∧ Hid (Below w.heap.size w wu)) (fun v6 _ => m[i].2.length - (intOf v6).toNat)
          case atStart => exact ⟨0, M2, by omega, rfl, HX.out, HML.out, HMB.out, fun e he => by simp at he, HB.out⟩
          case round =>
            clear HX HML HMB HB
            obtain ⟨k, M3, hk, rfl, HX, HML, HMB, HES, HB⟩ := hrel
            obtain ⟨b1, o1, cs, rfl, -, hb1, hrep, hcell⟩ := (HV.out.below HB.out).get him (by decide)
            obtain ⟨u, rfl, hu, hz1, hz2⟩ := eState_open hrep
            obtain ⟨A4, e4, rfl, he1, he2⟩ := hu.form
            unfold maxLen at he2
            have d1 := hcell 1 _ rfl
            clear hcell hrep
            simp only [show eState.size = 2 from rfl, ← Nat.add_assoc] at d1
            have gi := (HX.out.at_ (k := i) (by rw [HML.out]; exact hin)).1
            rw [HSET.out M3 HMB.out] at gi
            have HU := Lib.hid hu
            clear hu hz1 hz2
            by_cases hlk : k < m[i].2.length
            · obtain ⟨b2, o2, cs, rfl, -, hb2, hrep, hcell⟩ := HU.out.get hlk (by decide)
              obtain ⟨rfl, hy1, hy2, hy3, hy4⟩ := eEdge_open hrep
              have f1 := hcell 1 _ rfl
              clear hcell hrep
              simp only [show eEdge.size = 2 from rfl, ← Nat.add_assoc] at f1
              have hto := HTO.out m[i].2[k] (by rw [HED.out]; exact List.getElem_mem hlk)
              have HTK := Lib.hid (show (edM m i).take (k + 1) = (edM m i).take k ++ [m[i].2[k]] by rw [HED.out]; exact List.take_succ_eq_append_getElem hlk)
              rw [← HN.out] at hto
              obtain ⟨e, he⟩ : ∃ e, e = m[i].2[k] := ⟨_, rfl⟩
              rw [← he] at f1 hy3 hy4 hto HTK
              clear he hy1 hy2
              obtain ⟨et, en0⟩ := e
              simp only at f1 hy3 hy4 hto
              obtain ⟨en, rfl⟩ : ∃ en : Nat, en0 = (en : Int) := ⟨en0.toNat, by omega⟩
              have hen : en < n := by omega
              obtain ⟨gn, gf⟩ := HX.out.at_ (k := en) (by rw [HML.out]; exact hen)
              have HX2 := Lib.hid (HX.out.set en true)
              have HB2 := Lib.hid (HB.out.setCell (p := ⟨x, en, none⟩) HXX.out (.bool true))
              have hd4 : decide ((en : Int) < (n : Int)) = true := by simpa using hen
              have hL : m[i].2.length ≤ 9223372036854775807 := by omega
              generalize m[i].2.length = q at *
              go_wp2_with fail
              all_goals first
                | (exfalso; omega)
                | (go_roundw
                   case rel =>
                     refine ⟨k + 1, M3.set en true, by omega, by go_num, HX2.out, by show _ = _; rw [List.length_set]; exact HML.out, fun j hj h => atB_set_mono (HMB.out j hj h), ?_, HB2.out⟩
                     intro e he
                     rw [HTK.out, List.mem_append, List.mem_singleton] at he
                     rcases he with he | rfl
                     · exact atB_set_mono (HES.out e he)
                     · show atB (M3.set en true) en = true
                       have hen2 : en < M3.length := by rw [HML.out]; exact hen
                       simp [atB, hen2]
                   case measure => simp [intOf]; omega)
            · have hkq : k = m[i].2.length := by omega
              have HMN := Lib.hid (show MetBy m M3 (i + 1) from fun j hj h => by
                by_cases h2 : j = 0 ∨ ∃ p < i, ∃ t, (t, (j : Int)) ∈ edM m p
                · exact HMB.out j hj h2
                · rcases h with h | ⟨p, hp, t, ht⟩
                  · exact absurd (.inl h) h2
                  · have hpi : p = i := by
                      rcases Nat.lt_or_ge p i with h3 | h3
                      · exact absurd (.inr ⟨p, h3, t, ht⟩) h2
                      · omega
                    subst hpi
                    have := HES.out (t, (j : Int)) (by rw [hkq, HED.out, List.take_length, ← HED.out]; exact ht)
                    simpa using this)
              generalize m[i].2.length = q at *
              subst hkq
              clear HES HMB
              go_wp2_with fail
              go_roundw
              case rel => exact ⟨i + 1, M3, by omega, by go_num, HX.out, HML.out, HMN.out, HB.out⟩
              case measure => simp [intOf]; omega
        · have hie : i = n := by omega
          subst hie
          have HA2 := Lib.hid (show ∀ k < i, atB M2 k = true from fun k hk => HMB.out k (by rw [← HN.out]; exact hk) (by
            rcases Nat.eq_zero_or_pos k with h | h
            · exact .inl h
            · obtain ⟨p, hp, t, ht⟩ := HNW.out k h hk
              exact .inr ⟨p, by omega, t, ht⟩))
          clear HMB
          go_wp2_with fail
          go_roundw
          case rel => exact ⟨r + 1, M2, by omega, by go_num, HX.out, HML.out, HA2.out 0 hpos, fun _ => HA2.out, HB.out⟩
          case measure => simp [intOf]; omega
    · have hrn : r = n := by omega
      subst hrn
      go_wp2_with fail
      go_ret
      exact ⟨x, M, rfl, HX.out, HML.out, HALL.out hpos, HXX.out, HB.out⟩
end Go.Proofs.YtfpihflepeiagaaGreatDoor
