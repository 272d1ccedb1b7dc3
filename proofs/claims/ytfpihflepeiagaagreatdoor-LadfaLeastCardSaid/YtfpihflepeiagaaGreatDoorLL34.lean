/- Texts of this proof joined: FewF, LadfaLeastLaw, TabOpen, Laid26. -/
import Derived.Test.YtfpihflepeiagaaGreatDoorLL06
import Derived.Test.YtfpihflepeiagaaGreatDoorLL31
import Derived.Test.YtfpihflepeiagaaGreatDoorLL32
import Derived.Test.YtfpihflepeiagaaGreatDoorLL33
import Derived.Test.YtfpihflepeiagaaGreatDoorRows
import Derived.Test.YtfpihflepeiagaaGreatDoorLL01
import Derived.Test.YtfpihflepeiagaaGreatDoorLL19
import Derived.Carry
import Derived.Test.YtfpihflepeiagaaGreatDoorCards
import Derived.Test.YtfpihflepeiagaaGreatDoorTie
import Derived.Test.YtfpihflepeiagaaGreatDoorLL28
import Derived.WalkKit
import Derived.ProofKit
import Derived.OpenShut
import Derived.Deep.DeepHandedRow
import Derived.Lib.LaidTab
import Derived.Stop.LaidErr
namespace Go.Proofs.YtfpihflepeiagaaGreatDoor
open Go.RowKit

def Few14To (ns ts : List ByteArray) (rs : List (Int × List Int)) (w : World) (e : Ending) (w' : World) : Prop := ∃ z : Int, e = .returned (.int .i64 z) ∧ (z = 0 ∨ (z = 1 ∧ ns.length ≤ 12 ∧ ts.length ≤ 12 ∧ rs.length ≤ 40)) ∧ Below w.heap.size w w'
set_option maxHeartbeats 2000000 in
theorem few14_any (v1 v2 v3 : Value) (ns ts : List ByteArray) (rs : List (Int × List Int)) (w : World) (h1 : SlR eStr w w.heap.size v1 ns) (h2 : SlR eStr w w.heap.size v2 ts) (h3 : SlR eRule w w.heap.size v3 rs) :
    Calls Tryz.prog 6 #[.agg #[v1, v2, v3]] w (Few14To ns ts rs w) := by
  obtain ⟨A1, c1, rfl, hc1, hc1'⟩ := h1.form
  obtain ⟨A2, c2, rfl, hc2, hc2'⟩ := h2.form
  obtain ⟨A3, c3, rfl, hc3, hc3'⟩ := h3.form
  unfold maxLen at hc1' hc2' hc3'
  by_cases hgood : ns.length ≤ 12 ∧ ts.length ≤ 12 ∧ rs.length ≤ 40
  case neg =>
    have hcase : 12 < ns.length ∨ (ns.length ≤ 12 ∧ 12 < ts.length) ∨ (ns.length ≤ 12 ∧ ts.length ≤ 12 ∧ 40 < rs.length) := by omega
    rcases hcase with h | ⟨h0, h⟩ | ⟨h0, h0', h⟩
    all_goals
      go_enter Tryz.func6, Tryz.ntmps6
      go_wp2_with fail
      all_goals first
        | (exfalso; omega)
        | (go_ret; exact ⟨0, rfl, .inl rfl, by go_grown⟩)
  obtain ⟨g1, g2, g3⟩ := hgood
  go_enter Tryz.func6, Tryz.ntmps6
  go_wp2_with fail
  all_goals first
    | (exfalso; omega)
    | skip
  have HW : Hid (Below w.heap.size w (w.alloc (Obj.cells #[Value.slice A1 ns.length c1, Value.slice A2 ts.length c2, Value.slice A3 rs.length c3] 25))) := (Below.refl _ _).alloc (Nat.le_refl _) _
  have HS : Hid ((w.alloc (Obj.cells #[Value.slice A1 ns.length c1, Value.slice A2 ts.length c2, Value.slice A3 rs.length c3] 25)).heap.size = w.heap.size + 1) := by show _ = _; simp
  have k0 : (w.alloc (Obj.cells #[Value.slice A1 ns.length c1, Value.slice A2 ts.length c2, Value.slice A3 rs.length c3] 25)).cell? ⟨w.heap.size, 0, none⟩ = some (Value.slice A1 ns.length c1) := by simp
  have k1 : (w.alloc (Obj.cells #[Value.slice A1 ns.length c1, Value.slice A2 ts.length c2, Value.slice A3 rs.length c3] 25)).cell? ⟨w.heap.size, 1, none⟩ = some (Value.slice A2 ts.length c2) := by simp
  have k2 : (w.alloc (Obj.cells #[Value.slice A1 ns.length c1, Value.slice A2 ts.length c2, Value.slice A3 rs.length c3] 25)).cell? ⟨w.heap.size, 2, none⟩ = some (Value.slice A3 rs.length c3) := by simp
  generalize w.alloc (Obj.cells #[Value.slice A1 ns.length c1, Value.slice A2 ts.length c2, Value.slice A3 rs.length c3] 25) = W at HW HS k0 k1 k2 ⊢
  have h1W := h1.below HW.out
  have h2W := h2.below HW.out
  have h3W := h3.below HW.out
  clear h1 h2 h3
  go_loop [3] (fun v => ∃ k : Nat, k ≤ rs.length ∧ v = .int .i64 k) (fun v => rs.length - (intOf v).toNat)
  case atStart => exact ⟨0, by omega, rfl⟩
  case round =>
    obtain ⟨k, hk, rfl⟩ := hrel
    by_cases hlt : k < rs.length
    · obtain ⟨ab, ao, cs, rfl, _, hab, hrep, hcell⟩ := h3W.get hlt (by decide)
      obtain ⟨u, rfl, hu, hz1, hz2⟩ := eRule_open hrep
      obtain ⟨A4, e4, rfl, hq1, hq2⟩ := hu.form
      unfold maxLen at hq2
      have hc1' := hcell 1 _ rfl
      clear hcell
      simp only [show eRule.size = 2 from rfl, ← Nat.add_assoc] at hc1'
      go_wp2_with fail
      · go_ret
        exact ⟨0, rfl, .inl rfl, HW.out⟩
      · go_round
        case rel => exact ⟨k + 1, by omega, by go_num⟩
        case measure => simp [intOf]; omega
    go_wp2_with fail
    go_loop [4] (fun v => ∃ j : Nat, j ≤ ns.length ∧ v = .int .i64 j) (fun v => ns.length - (intOf v).toNat)
    case atStart => exact ⟨0, by omega, rfl⟩
    case round =>
      obtain ⟨j, hj, rfl⟩ := hrel
      by_cases hlj : j < ns.length
      · obtain ⟨ab, ao, cs, rfl, _, hab, hrep, hcell⟩ := h1W.get hlj (by decide)
        obtain ⟨rfl, hx1⟩ := hrep
        unfold maxLen at hx1
        have hc0 := hcell 0 _ rfl
        clear hcell
        simp only [show eStr.size = 1 from rfl, Nat.mul_one, Nat.add_zero] at hc0
        go_wp2_with fail
        · go_ret
          exact ⟨0, rfl, .inl rfl, HW.out⟩
        · go_round
          case rel => exact ⟨j + 1, by omega, by go_num⟩
          case measure => simp [intOf]; omega
      go_wp2_with fail
      go_loop [5] (fun v => ∃ i : Nat, i ≤ ts.length ∧ v = .int .i64 i) (fun v => ts.length - (intOf v).toNat)
      case atStart => exact ⟨0, by omega, rfl⟩
      case round =>
        obtain ⟨i, hi, rfl⟩ := hrel
        by_cases hli : i < ts.length
        · obtain ⟨ab, ao, cs, rfl, _, hab, hrep, hcell⟩ := h2W.get hli (by decide)
          obtain ⟨rfl, hx1⟩ := hrep
          unfold maxLen at hx1
          have hc0 := hcell 0 _ rfl
          clear hcell
          simp only [show eStr.size = 1 from rfl, Nat.mul_one, Nat.add_zero] at hc0
          go_wp2_with fail
          · go_ret
            exact ⟨0, rfl, .inl rfl, HW.out⟩
          · go_round
            case rel => exact ⟨i + 1, by omega, by go_num⟩
            case measure => simp [intOf]; omega
        go_wp2_with fail
        go_ret
        exact ⟨1, rfl, .inr ⟨rfl, g1, g2, g3⟩, HW.out⟩
end Go.Proofs.YtfpihflepeiagaaGreatDoor
namespace Go.Proofs.YtfpihflepeiagaaGreatDoor
open Go.RowKit

theorem lens_snoc (ms : List Mch) {k : Nat} (h : k < ms.length) : ((ms.take (k + 1)).map List.length).sum = ((ms.take k).map List.length).sum + ms[k].length := by
  rw [List.take_succ_eq_append_getElem h, List.map_append, List.sum_append]
  simp
theorem lens_le (ms : List Mch) (B : Nat) (h : ∀ x ∈ ms, x.length ≤ B) : (ms.map List.length).sum ≤ ms.length * B := by
  induction ms with
  | nil => simp
  | cons x l ih =>
    have h1 := h x (List.mem_cons_self ..)
    have h2 := ih fun y hy => h y (List.mem_cons_of_mem _ hy)
    rw [List.map_cons, List.sum_cons, List.length_cons, Nat.succ_mul]
    omega
set_option maxRecDepth 100000 in
set_option maxHeartbeats 40000000 in
theorem ladfaLeast_any {A1 A2 A3 : Option Addr} {n m q c1 c2 c3 : Nat} {ns ts : List ByteArray} {rs : List (Int × List Int)} (k : Int) (w : World)
    (h1 : SlR eStr w w.heap.size (.slice A1 n c1) ns) (h2 : SlR eStr w w.heap.size (.slice A2 m c2) ts) (h3 : SlR eRule w w.heap.size (.slice A3 q c3) rs) (ht : TabP w) :
    Calls Tryz.prog 5 #[gramV A1 A2 A3 n m q c1 c2 c3, .int .i64 k] w fun e w' => e = .returned (.bool true) ∧ Below w.heap.size w w' := by
  have hbx := (Below.refl w.heap.size w).alloc (Nat.le_refl _) (.cells #[.slice A1 n c1, .slice A2 m c2, .slice A3 q c3] 25)
  have HK := Lib.hid (Go.heap_alloc_new w (.cells #[.slice A1 n c1, .slice A2 m c2, .slice A3 q c3] 25))
  have HZ := Lib.hid (World.size_alloc w (.cells #[.slice A1 n c1, .slice A2 m c2, .slice A3 q c3] 25))
  have HBX := Lib.hid hbx
  have hl1 := h1.n_le
  have hl2 := h2.n_le
  have hl3 := h3.n_le
  have HN := Lib.hid (show n = ns.length ∧ m = ts.length ∧ q = rs.length from ⟨h1.n_eq, h2.n_eq, h3.n_eq⟩)
  have H1 := Lib.hid (h1.fut (B' := w.heap.size + 1) hbx (Nat.le_refl _) (by omega))
  have H2 := Lib.hid (h2.fut (B' := w.heap.size + 1) hbx (Nat.le_refl _) (by omega))
  have H3 := Lib.hid (h3.fut (B' := w.heap.size + 1) hbx (Nat.le_refl _) (by omega))
  have HCELL : Hid (∀ (w2 : World), w2.heap[w.heap.size]? = some (.cells #[.slice A1 n c1, .slice A2 m c2, .slice A3 q c3] 25 (0, 0)) → w2.cell? ⟨w.heap.size, 0, none⟩ = some (.slice A1 n c1) ∧ w2.cell? ⟨w.heap.size, 1, none⟩ = some (.slice A2 m c2) ∧ w2.cell? ⟨w.heap.size, 2, none⟩ = some (.slice A3 q c3)) := fun w2 hk => ⟨by rw [cell_of_row _ _ _ _ _ _ hk]; rfl, by rw [cell_of_row _ _ _ _ _ _ hk]; rfl, by rw [cell_of_row _ _ _ _ _ _ hk]; rfl⟩
  have HT := Lib.hid (ht.below hbx)
  clear h1 h2 h3 hbx ht
  go_enter Tryz.func5, Tryz.ntmps5
  go_wp2_with fail
  generalize w.alloc (.cells #[.slice A1 n c1, .slice A2 m c2, .slice A3 q c3] 25) = w1 at *
  refine (few14_any _ _ _ ns ts rs w1 (by rw [HZ.out]; exact H1.out) (by rw [HZ.out]; exact H2.out) (by rw [HZ.out]; exact H3.out)).mono ?_
  rintro e w2 ⟨z, rfl, hz, hb2⟩
  have HB2 := Lib.hid (show Below (w.heap.size + 1) w1 w2 from hb2.mono (Nat.le_of_eq HZ.out.symm))
  have HS2 := Lib.hid (show w.heap.size + 1 ≤ w2.heap.size by have := hb2.size; have := HZ.out; omega)
  clear hb2
  have HK2 := Lib.hid ((HB2.out.block w.heap.size (by omega)).trans HK.out)
  obtain ⟨a0, a1, a2⟩ := HCELL.out w2 HK2.out
  have HAW := Lib.hid (fun (w' : World) (h : Below (w.heap.size + 1) w1 w') (hs : w.heap.size + 1 ≤ w'.heap.size) => (awake26_any w' (HT.out.below (h.mono (Nat.le_of_eq HZ.out)))).mono (fun e w'' (hx : e = .returned (.bool true) ∧ Below w'.heap.size w' w'') => (⟨hx.1, h.trans (hx.2.mono hs)⟩ : e = .returned (.bool true) ∧ Below (w.heap.size + 1) w1 w'')))
  rcases hz with rfl | ⟨rfl, hz1, hz2, hz3⟩
  · go_wp2_with fail
    refine (HAW.out w2 HB2.out HS2.out).mono ?_
    rintro e w3 ⟨rfl, hb3⟩
    go_wp2_with fail
    go_ret
    exact ⟨rfl, HBX.out.trans (hb3.mono (Nat.le_succ _))⟩
  by_cases hm3 : 3 < m
  · have d1 : decide ((3 : Int) < (m : Int)) = true := by simp; omega
    go_wp2_with fail
    refine (HAW.out w2 HB2.out HS2.out).mono ?_
    rintro e w3 ⟨rfl, hb3⟩
    go_wp2_with fail
    go_ret
    exact ⟨rfl, HBX.out.trans (hb3.mono (Nat.le_succ _))⟩
  have d1 : decide ((3 : Int) < (m : Int)) = false := by simp; omega
  have hn12 : n ≤ 12 := by have := HN.out; omega
  have hm12 : m ≤ 3 := by omega
  have hq40 : q ≤ 40 := by have := HN.out; omega
  have HGR := Lib.hid (show ∀ w' : World, Below (w.heap.size + 1) w1 w' → w.heap.size + 1 ≤ w'.heap.size → GramR w' w'.heap.size A1 A2 A3 n m q c1 c2 c3 (ns, ts, rs) from fun w' hb hs => ⟨H1.out.fut hb (Nat.le_refl _) hs, H2.out.fut hb (Nat.le_refl _) hs, H3.out.fut hb (Nat.le_refl _) hs, by omega⟩)
  have HMF := Lib.hid (show ((ns, ts, rs) : Gram).2.1.length ≤ 3 by have := HN.out; show ts.length ≤ 3; omega)
  clear hz1 hz2 hz3
  have HFIT := Lib.hid (show ∀ kk : Nat, LawG (ns, ts, rs) kk → ∀ s rows, AheadO (kk : Int) (ns, ts, rs) (some s) → rows.Perm (rowsFrom 0 rs s) → RowsFit rows ∧ FitR rows ∧ rows.length ≤ 163840 from fun kk hlg s rows ha hp => by
    obtain ⟨s', e, hM⟩ := hlg.sets ha
    injection e with e
    subst e
    have hsb := (ahead_size hlg.k4 ha).2
    have hq : rs.length ≤ 40 := by have := HN.out; omega
    refine ⟨made_fit hlg hM hsb hq hp, rows_fit hlg hM hp, ?_⟩
    rw [hp.length_eq]
    have h1 : (rowsFrom 0 rs s).length = (rowsTo rs s rs.length).length := by rw [rowsTo_all hM.len]
    have := rowsTo_len (rs := rs) hsb rs.length
    omega)
  go_wp2_with fail
  refine (make26_any k w2 (HGR.out w2 HB2.out HS2.out) (by omega) (HT.out.below (HB2.out.mono (Nat.le_of_eq HZ.out))) ?_).mono ?_
  · intro hk s rows ha hp
    obtain ⟨kk, rfl, hlg⟩ := lawG_of hk HMF.out
    obtain ⟨x1, x2, -⟩ := HFIT.out kk hlg s rows ha hp
    exact ⟨x1, x2⟩
  rintro e w3 ⟨hb3, hbad, hgood⟩
  have HB3 := Lib.hid (HB2.out.trans (hb3.mono HS2.out))
  have HS3 := Lib.hid (Nat.le_trans HS2.out hb3.size)
  clear hb3 a0 a1 a2
  obtain ⟨a0, a1, a2⟩ := HCELL.out w3 ((HB3.out.block w.heap.size (by omega)).trans HK.out)
  by_cases hk : BadK k (ns, ts, rs)
  · have he := hbad hk
    subst he
    clear hbad hgood hk
    go_wp2_with fail
    refine (HAW.out w3 HB3.out HS3.out).mono ?_
    rintro e w4 ⟨rfl, hb4⟩
    go_wp2_with fail
    go_ret
    exact ⟨rfl, HBX.out.trans (hb4.mono (Nat.le_succ _))⟩
  obtain ⟨o, ho, hout⟩ := hgood hk
  obtain ⟨kk, rfl, hlg⟩ := lawG_of hk HMF.out
  obtain ⟨s, rfl, hM⟩ := hlg.sets ho
  have HLG := Lib.hid hlg
  have HM := Lib.hid hM
  have HO := Lib.hid ho
  have HBK := Lib.hid hk
  clear hbad hgood ho hk hlg hM
  rcases hout with ⟨hne, A9, c9, rfl⟩ | ⟨hnil, v, rows, rfl, hperm, hsort, hms⟩
  · clear hne
    go_wp2_with fail
    refine (HAW.out w3 HB3.out HS3.out).mono ?_
    rintro e w4 ⟨rfl, hb4⟩
    go_wp2_with fail
    go_ret
    exact ⟨rfl, HBX.out.trans (hb4.mono (Nat.le_succ _))⟩
  obtain ⟨hrf, hrfit, hrl⟩ := HFIT.out kk HLG.out s rows HO.out hperm
  have HRF := Lib.hid hrf
  have hnil2 : clashW rs ns.length s = [] := by
    rw [← HN.out.1]
    exact hnil
  have HNIL := Lib.hid hnil2
  have HNILN := Lib.hid hnil
  have HLT := Lib.hid (made_lt HLG.out HM.out hnil2 hperm hsort)
  have HPERM := Lib.hid hperm
  have HLOW := Lib.hid (rows_low HLG.out HM.out hperm)
  have HTERM := Lib.hid (rows_term HLG.out HM.out hperm)
  have HBND := Lib.hid (show ∀ x ∈ machsM rows n, x.length ≤ 1000000 from fun x hx => by
    obtain ⟨a, ha, rfl⟩ := List.mem_map.1 hx
    have hro : ∀ r ∈ ofRows (a : Int) rows, r ∈ rows := fun r hr => (List.mem_filter.1 hr).1
    have hml := mach_len (ofRows_low HLOW.out (a : Int)) 4 (fun r hr => (row_good HLG.out HM.out HPERM.out r (hro r hr)).2.2.2.1)
    have hol : (ofRows (a : Int) rows).length ≤ rows.length := List.length_filter_le _ _
    omega)
  have HSUM := Lib.hid (lens_le (machsM rows n) 1000000 HBND.out)
  have HML := Lib.hid (machs_len rows n)
  obtain ⟨A5, c5, rfl, hc5, hc5'⟩ := hms.form
  unfold maxLen at hc5'
  rw [machs_len] at hc5 hms ⊢
  have HMS := Lib.hid hms
  have HLE := Lib.hid (show ∀ (a : Nat) (ha : a < n) (w' : World), Below w3.heap.size w3 w' → ∃ (A4 : Option Addr) (c4 b5 o5 : Nat), A5 = some ⟨b5, o5, none⟩ ∧ b5 < w3.heap.size ∧ w'.cell? ⟨b5, o5 + a, none⟩ = some (.slice A4 ((machsM rows n)[a]'(by rw [machs_len]; exact ha)).length c4) ∧ ((machsM rows n)[a]'(by rw [machs_len]; exact ha)).length ≤ 1000000 ∧ ∀ w'', Below w3.heap.size w3 w'' →
      Calls Tryz.prog 15 #[.slice A4 ((machsM rows n)[a]'(by rw [machs_len]; exact ha)).length c4, .int .i64 m] w'' (fun e w5 => e = .returned (.bool true) ∧ Below w''.heap.size w'' w5) ∧
      Calls Tryz.prog 14 #[.slice A4 ((machsM rows n)[a]'(by rw [machs_len]; exact ha)).length c4, .int .i64 m] w'' (fun e w5 => e = .returned (.bool true) ∧ Below w''.heap.size w'' w5) ∧
      Calls Tryz.prog 16 #[.slice A4 ((machsM rows n)[a]'(by rw [machs_len]; exact ha)).length c4] w'' (fun e w5 => e = .returned (.bool true) ∧ w5 = w'') from fun a ha w' hb => by
    have hal : a < (machsM rows n).length := by rw [machs_len]; exact ha
    obtain ⟨b5, o5, cs, e5, -, hbl, ⟨u, rfl, hu⟩, hcell⟩ := HMS.out.get hal (by decide)
    have hget : (machsM rows n)[a] = machM (ofRows (a : Int) rows) := (List.getElem?_eq_some_iff.1 (machs_get rows ha)).2
    have hro : ∀ r ∈ ofRows (a : Int) rows, r ∈ rows := fun r hr => (List.mem_filter.1 hr).1
    have hlow := ofRows_low HLOW.out (a : Int)
    obtain ⟨A4, c4, rfl, hc4, hc4'⟩ := hu.form
    have d0 := hcell 0 _ rfl
    simp only [show (eSl eState).size = 1 from rfl, Nat.mul_one, Nat.add_zero] at d0
    have hbd := HBND.out _ (List.getElem_mem hal)
    have hL : LeastM (treeM (ofRows (a : Int) rows)) (machsM rows n)[a] := by rw [hget]; exact mach_least hlow
    have htm : ∀ k < ((machsM rows n)[a]).length, ∀ e ∈ edM (machsM rows n)[a] k, e.1 < (m : Int) := by
      rw [hget]
      exact mach_term (n := m) hlow fun r hr => by rw [HN.out.2.1]; exact HTERM.out r (hro r hr)
    refine ⟨A4, c4, b5, o5, e5, hbl, (hb.cell hbl).trans d0, hbd, fun w'' hb2 => ?_⟩
    have hu2 := hu.fut hb2 (Nat.le_refl _) hb2.size
    exact ⟨valid24_any A4 c4 m _ w'' hu2 hL.good htm, least24_any A4 c4 m _ _ w'' hu2 hL (by omega) (by omega) htm, ordered24_any A4 c4 _ w'' hu2 hL.good hL.ord hL.ordl⟩)
  clear hperm hnil hnil2 hsort hms hrf hrfit hrl
  go_wp2_with fail
  go_loopg [9, 8] n (fun lft va vn wr => ∃ a : Nat, a ≤ n ∧ n - a ≤ lft ∧ va = .int .i64 a ∧ vn = .int .i64 ((((machsM rows n).take a).map List.length).sum : Nat) ∧ Hid (Below w3.heap.size w3 wr))
  case atStart => exact ⟨0, by omega, by omega, rfl, rfl, Below.refl _ _⟩
  case round =>
    obtain ⟨a, ha, hlft, rfl, rfl, HBW⟩ := hrel
    have HB8 := Lib.hid (HB3.out.trans (HBW.out.mono HS3.out))
    have HS8 := Lib.hid (Nat.le_trans HS3.out HBW.out.size)
    clear a0 a1 a2
    obtain ⟨a0, a1, a2⟩ := HCELL.out wr ((HB8.out.block w.heap.size (by omega)).trans HK.out)
    by_cases hab : a < n
    · obtain ⟨A4, c4, b5, o5, rfl, hb5, d0, hL4, hcall⟩ := HLE.out a hab wr HBW.out
      have HSN := Lib.hid (lens_snoc (machsM rows n) (k := a) (by rw [machs_len]; exact hab))
      have hsu : (((machsM rows n).take a).map List.length).sum ≤ 12000000 := by
        have h1 := lens_le ((machsM rows n).take a) 1000000 fun x hx => HBND.out x (List.mem_of_mem_take hx)
        rw [List.length_take] at h1
        have : min a (machsM rows n).length * 1000000 ≤ 12 * 1000000 := Nat.mul_le_mul (by omega) (Nat.le_refl _)
        omega
      generalize (((machsM rows n).take a).map List.length).sum = S at *
      generalize ((machsM rows n)[a]'(by rw [machs_len]; exact hab)).length = L at *
      have HC := Lib.hid hcall
      have HD0 := Lib.hid d0
      clear hcall
      go_wp2_with fail
      refine Text.wp_grow [7, 17, 25] [3, 5, 13, 15, 24] [] (by kernel_rfl) (by kernel_rfl) ?_
      refine Text.wpS_seg 7 _ _ _ _ (by decide) (fun Q' hQ' => ?_)
      simp only [List.take_succ_cons, List.take_zero]
      go_wp2_with fail
      try simp only [List.drop_succ_cons, List.drop_zero]
      refine Text.wpS_one (fun Q' hQ' => ?_)
      go_wp2_with fail
      refine ((HC.out _ HBW.out.drew).1).mono ?_
      rintro e w5 ⟨rfl, hb5a⟩
      have HBA := Lib.hid (HBW.out.drew.trans (hb5a.mono HBW.out.size))
      have d1a := (hb5a.cell (World.block_lt_of_cell? wr _ HD0.out)).trans HD0.out
      obtain ⟨g0, g1, g2⟩ := HCELL.out w5 (((HB3.out.trans (HBA.out.mono HS3.out)).block w.heap.size (by omega)).trans HK.out)
      have HD1 := Lib.hid d1a
      have HBB5 := Lib.hid hb5a
      go_wp2_with fail
      refine ⟨HBB5.out, ?_⟩
      refine Text.wpS_seg 9 _ _ _ _ (by decide) (fun Q' hQ' => ?_)
      simp only [List.take_succ_cons, List.take_zero]
      go_wp2_with fail
      try simp only [List.drop_succ_cons, List.drop_zero]
      refine Text.wpS_one (fun Q' hQ' => ?_)
      go_wp2_with fail
      refine ((HC.out w5 HBA.out).2.1).mono ?_
      rintro e w6 ⟨rfl, hb6a⟩
      have HBB := Lib.hid (HBA.out.trans (hb6a.mono HBA.out.size))
      have d2a := (hb6a.cell (World.block_lt_of_cell? w5 _ HD1.out)).trans HD1.out
      have HBB6 := Lib.hid (HBB5.out.trans (hb6a.mono HBB5.out.size))
      obtain ⟨f0, f1, f2⟩ := HCELL.out w6 (((HB3.out.trans (HBB.out.mono HS3.out)).block w.heap.size (by omega)).trans HK.out)
      go_wp2_with fail
      refine ⟨HBB6.out, ?_⟩
      refine Text.wpS_seg 7 _ _ _ _ (by decide) (fun Q' hQ' => ?_)
      simp only [List.take_succ_cons, List.take_zero]
      go_wp2_with fail
      try simp only [List.drop_succ_cons, List.drop_zero]
      refine Text.wpS_one (fun Q' hQ' => ?_)
      go_wp2_with fail
      refine ((HC.out w6 HBB.out).2.2).mono ?_
      rintro e w7 ⟨rfl, rfl⟩
      go_wp2_with fail
      refine ⟨HBB6.out, ?_⟩
      refine Text.wpS_seg 2 _ _ _ _ (by decide) (fun Q' hQ' => ?_)
      simp only [List.take_succ_cons, List.take_zero]
      go_wp2_with fail
      refine ⟨by rfl, ?_, ?_⟩
      · exact ⟨fun _ => ⟨_, _, rfl, d0⟩, fun _ => ⟨_, _, rfl, a1⟩, fun _ => ⟨_, _, rfl, d0⟩, fun _ => ⟨_, _, rfl, a1⟩, fun _ => ⟨_, _, rfl, d0⟩, trivial⟩
      go_wp2_with fail
      go_roundg (gk - 1)
      case measure => omega
      case rel => exact ⟨a + 1, by omega, by omega, by go_num, by rw [HSN.out]; go_num, HBB.out⟩
    · obtain rfl : n = a := by omega
      have HSF := Lib.hid (show (((machsM rows n).take n).map List.length).sum = ((machsM rows n).map List.length).sum by rw [List.take_of_length_le (by rw [machs_len]; exact Nat.le_refl _)])
      have hsu : ((machsM rows n).map List.length).sum ≤ 12000000 := by
        have h1 := HSUM.out
        rw [machs_len] at h1
        have : n * 1000000 ≤ 12 * 1000000 := Nat.mul_le_mul (by omega) (Nat.le_refl _)
        omega
      rw [HSF.out]
      go_wp2_with fail
      refine (make_any (kk : Int) wr (HGR.out wr HB8.out HS8.out)).mono ?_
      rintro e w5 ⟨hb5, -, hgood⟩
      obtain ⟨o, ho, hout⟩ := hgood HBK.out
      have hoe := ho.det HO.out
      subst hoe
      have HBA := Lib.hid (HBW.out.trans (hb5.mono HBW.out.size))
      have HB9 := Lib.hid (HB3.out.trans (HBA.out.mono HS3.out))
      have HS9 := Lib.hid (Nat.le_trans HS3.out HBA.out.size)
      clear hb5 hgood ho
      rcases hout with ⟨hne, _⟩ | ⟨hnil, v, rows2, rfl, hp2, hs2, hown⟩
      · exact absurd HNILN.out hne
      have hre : rows2 = rows := made_same HLG.out HM.out HM.out hp2 HPERM.out (made_lt HLG.out HM.out HNIL.out hp2 hs2) HLT.out
      subst hre
      obtain ⟨A6, c6, rfl, hc61, hc62⟩ := own_form hown
      unfold maxLen at hc62
      have HOW := Lib.hid (slR_own (rows_fit HLG.out HM.out HPERM.out) hown)
      clear hnil hp2 hs2 hown a0 a1 a2
      obtain ⟨a0, a1, a2⟩ := HCELL.out w5 ((HB9.out.block w.heap.size (by omega)).trans HK.out)
      have HMA := Lib.hid (HMS.out.fut HBA.out (Nat.le_refl _) HBA.out.size)
      have HST := Lib.hid (states26_any (.slice A5 n c5) (machsM rows2 n) w5 HMA.out (by omega))
      generalize ((machsM rows2 n).map List.length).sum = S at *
      go_wp2_with fail
      refine HST.out.mono ?_
      rintro e w6 ⟨rfl, rfl⟩
      go_wp2_with fail
      refine (of26_any (A1 := A1) (A2 := A2) (A3 := A3) (n := n) (m := m) (q := q) (c1 := c1) (c2 := c2) (c3 := c3) rows2 w6 HOW.out HRF.out (by omega) (HT.out.below (HB9.out.mono (Nat.le_of_eq HZ.out)))).mono ?_
      rintro e w7 ⟨v7, rfl, hms7, hb7⟩
      have HBC := Lib.hid (HBA.out.trans (hb7.mono HBA.out.size))
      have HB10 := Lib.hid (HB3.out.trans (HBC.out.mono HS3.out))
      have HS10 := Lib.hid (Nat.le_trans HS3.out HBC.out.size)
      have HM7 := Lib.hid hms7
      have HMB := Lib.hid (HMS.out.fut HBC.out (Nat.le_refl _) HBC.out.size)
      clear hms7 hb7
      go_wp2_with fail
      refine (ladfaSame_any (.slice A5 n c5) v7 (machsM rows2 n) (machsM rows2 n) w7 HMB.out HM7.out).mono ?_
      rintro e w8 ⟨rfl, hb8⟩
      have HB11 := Lib.hid (HB10.out.trans (hb8.mono HS10.out))
      have HS11 := Lib.hid (Nat.le_trans HS10.out hb8.size)
      rw [decide_eq_true (rfl : machsM rows2 n = machsM rows2 n)]
      clear hb8
      go_wp2_with fail
      refine (HAW.out w8 HB11.out HS11.out).mono ?_
      rintro e w9 ⟨rfl, hb9⟩
      go_wp2_with fail
      go_ret
      exact ⟨rfl, HBX.out.trans (hb9.mono (Nat.le_succ _))⟩
end Go.Proofs.YtfpihflepeiagaaGreatDoor
namespace Go.Proofs.YtfpihflepeiagaaGreatDoor
open Go.ChangeMaps (open_string)
open Go.ChangeShapes Go.WideShapes Go.ChangeAt Go.RowKit

theorem own : ownKnob Tryz.prog.godebug = none := by kernel_rfl
theorem laidOut : laidOutB Tryz.prog = true := by kernel_rfl
section
variable {H : Type} {enc : TypeId × Value → H}
theorem opens_strs : Opens enc Tryz.prog (eSl eStr) 22 := opens_sl (opens_str Tryz.underlying9) Tryz.underlying22 (by kernel_rfl) (by decide)
theorem opens_ints : Opens enc Tryz.prog (eSl eInt) 39 := opens_sl (opens_int Tryz.underlying3) Tryz.underlying39 (by kernel_rfl) (by decide)
theorem opens_rule : Opens enc Tryz.prog eRule 55 := opens_two Tryz.underlying55 (opens_int Tryz.underlying3) opens_ints (by kernel_rfl) (by kernel_rfl) rfl rfl (by kernel_rfl)
theorem opens_rules : Opens enc Tryz.prog (eSl eRule) 23 := opens_sl opens_rule Tryz.underlying23 (by kernel_rfl) (by decide)
def eGram : Elt Gram := eProd (eSl eStr) (eProd (eSl eStr) (eSl eRule))
theorem opens_gram : Opens enc Tryz.prog eGram 25 := opens_three Tryz.underlying25 opens_strs opens_strs opens_rules (by kernel_rfl) (by kernel_rfl) (by kernel_rfl) rfl rfl rfl (by kernel_rfl)
end
end Go.Proofs.YtfpihflepeiagaaGreatDoor
namespace Go.Proofs.YtfpihflepeiagaaGreatDoor
open Go.ChangeShapes Go.WideShapes Go.ChangeAt Go.RowKit

abbrev list26 : List (String × DataW Unit) := Rows.ladfaOfRow.laid
theorem gTab : Tryz.prog.globalNamed "internal/strconv.uint64pow10" = some 1 := by kernel_rfl
theorem gTabType : (Tryz.prog.globals[1]?).map (·.type) = some 201 := by kernel_rfl
theorem cellsTab : Tryz.prog.cellsOf 201 = 20 := by kernel_rfl
theorem cellsU64 : Tryz.prog.cellsOf 153 = 1 := by kernel_rfl
theorem tabP_of {W : World} (h : laidMetH Tryz.prog list26 W) : TabP W := by
  have h0 : laidMet Tryz.prog list26 W := h
  exact Lib.tabIs_of_head gTab gTabType Tryz.underlying201 Tryz.underlying153 cellsU64 cellsTab h0.tail.tail
def tab32 : Array Value := (#[0, 1, 28, 2, 29, 14, 24, 3, 30, 22, 20, 15, 25, 17, 4, 8, 31, 27, 13, 23, 21, 19, 16, 7, 26, 12, 18, 6, 11, 5, 10, 9] : Array Int).map fun z => .int .u8 z
def tab64 : Array Value := (#[0, 1, 56, 2, 57, 49, 28, 3, 61, 58, 42, 50, 38, 29, 17, 4, 62, 47, 59, 36, 45, 43, 51, 22, 53, 39, 33, 30, 24, 18, 12, 5, 63, 55, 48, 27, 60, 41, 37, 16, 46, 35, 44, 21, 52, 32, 23, 11, 54, 26, 40, 15, 34, 20, 31, 10, 25, 14, 19, 9, 13, 8, 7, 6] : Array Int).map fun z => .int .u8 z
def tabPow : Array Value := (#[1, 10, 100, 1000, 10000, 100000, 1000000, 10000000, 100000000, 1000000000, 10000000000, 100000000000, 1000000000000, 10000000000000, 100000000000000, 1000000000000000, 10000000000000000, 100000000000000000, 1000000000000000000, 10000000000000000000] : Array Int).map fun z => .int .u64 z
def putIn (cs : Array Value) : Obj → Obj
  | .cells _ t frozen => .cells cs t frozen
  | o => o
noncomputable def laidWorld (os : Os) : World :=
  let w0 := World.holding Tryz.prog os ⟨#[], #[], []⟩
  { w0 with heap := ((w0.heap.modify 2 (putIn tab32)).modify 3 (putIn tab64)).modify 1 (putIn tabPow) }
theorem laid26_met (os : Os) (args : Array Value) : laidMet Tryz.prog list26 ((laidWorld os).forCall (fun _ _ => 0) ⟨#[], args, []⟩).memory :=
  laidMet_of_run' 8 (by kernel_rfl) (by kernel_rfl)
end Go.Proofs.YtfpihflepeiagaaGreatDoor
