/- Walk of drive.may. -/
import Derived.Test.YtkgmdoiadhafeaaDrive1
namespace Go.Proofs.Ytkgmdoiadhafeaa
open Go.RowKit

/-- what a state of a nonterminal's machine tells may be -/
def outB (rs : List (Int × List Int)) (left : Nat) (out : Int) : Bool := decide (out < 0) || (decide (out < rs.length) && decide ((rs.getD out.toNat (0, [])).1 = left))
def machB (rs : List (Int × List Int)) (left : Nat) (m : Mach) : Bool := m.all fun s => outB rs left s.1
def mayB (g : Gram) (ms : List Mach) : Bool := (List.range ms.length).all (fun left => machB g.2.2 left (ms.getD left [])) && decide (ms.length = g.1.length)
set_option maxHeartbeats 2000000 in
theorem may_any (v1 v2 v3 v4 : Value) (ns ts : List ByteArray) (rs : List (Int × List Int)) (ms : List Mach) (w : World) (h1 : SlR eStr w w.heap.size v1 ns) (h2 : SlR eStr w w.heap.size v2 ts) (h3 : SlR eRule w w.heap.size v3 rs) (h4 : SlR (eSl eState) w w.heap.size v4 ms) :
    Calls Try.prog 17 #[.agg #[v1, v2, v3], v4] w fun e w' => e = .returned (.bool (mayB (ns, ts, rs) ms)) ∧ Below w.heap.size w w' := by
  obtain ⟨A1, c1, rfl, hc1, hc1'⟩ := h1.form
  obtain ⟨A2, c2, rfl, hc2, hc2'⟩ := h2.form
  obtain ⟨A3, c3, rfl, hc3, hc3'⟩ := h3.form
  obtain ⟨A4, c4, rfl, hc4, hc4'⟩ := h4.form
  unfold maxLen at hc1' hc2' hc3' hc4'
  go_enter Try.func17, Try.ntmps17
  go_wp2_with fail
  have HW : Hid (Below w.heap.size w (w.alloc (Obj.cells #[Value.slice A1 ns.length c1, Value.slice A2 ts.length c2, Value.slice A3 rs.length c3] 29))) := (Below.refl _ _).alloc (Nat.le_refl _) _
  have HS : Hid ((w.alloc (Obj.cells #[Value.slice A1 ns.length c1, Value.slice A2 ts.length c2, Value.slice A3 rs.length c3] 29)).heap.size = w.heap.size + 1) := by show _ = _; simp
  have k0 : (w.alloc (Obj.cells #[Value.slice A1 ns.length c1, Value.slice A2 ts.length c2, Value.slice A3 rs.length c3] 29)).cell? ⟨w.heap.size, 0, none⟩ = some (Value.slice A1 ns.length c1) := by simp
  have k2 : (w.alloc (Obj.cells #[Value.slice A1 ns.length c1, Value.slice A2 ts.length c2, Value.slice A3 rs.length c3] 29)).cell? ⟨w.heap.size, 2, none⟩ = some (Value.slice A3 rs.length c3) := by simp
  generalize w.alloc (Obj.cells #[Value.slice A1 ns.length c1, Value.slice A2 ts.length c2, Value.slice A3 rs.length c3] 29) = W at HW HS k0 k2 ⊢
  have hws := HS.out
  go_loopw [11] (fun v11 wr => ∃ k : Nat, k ≤ ms.length ∧ v11 = .int .i64 k ∧ Hid (∀ i : Nat, i < k → machB rs i (ms.getD i []) = true) ∧ Below (w.heap.size + 1) W wr) (fun v11 _ => ms.length - (intOf v11).toNat)
  case atStart => exact ⟨0, by omega, rfl, fun i hi => absurd hi (by omega), Below.refl _ _⟩
  case round =>
    obtain ⟨k, hk, rfl, hno, hbr⟩ := hrel
    have hbr0 := HW.out.trans (hbr.mono (Nat.le_succ _))
    have r0 := (hbr.cell (p := ⟨w.heap.size, 0, none⟩) (Nat.lt_succ_self _)).trans k0
    by_cases hlt : k < ms.length
    · obtain ⟨ab, ao, cs, rfl, _, hab, hrep, hcell⟩ := (h4.below HW.out).get hlt (by decide)
      obtain ⟨u, rfl, hu⟩ := hrep
      obtain ⟨A5, c5, rfl, hc5, hc5'⟩ := hu.form
      unfold maxLen at hc5'
      have hc0 := hcell 0 _ rfl
      clear hcell
      simp only [show (eSl eState).size = 1 from rfl, Nat.add_zero, Nat.mul_one] at hc0
      replace hc0 := (hbr.cell (p := ⟨ab, ao + k, none⟩) (Nat.lt_succ_of_lt hab)).trans hc0
      obtain ⟨m, hm⟩ : ∃ m, m = ms[k] := ⟨_, rfl⟩
      rw [← hm] at hu hc0 hc5
      have HM : Hid (ms.getD k [] = m) := by
        show _ = _
        rw [List.getD_eq_getElem?_getD, List.getElem?_eq_getElem hlt, hm]
        rfl
      clear hm r0
      go_wp2_with fail
      go_loopw [18] (fun v18 wt => ∃ j : Nat, j ≤ m.length ∧ v18 = .int .i64 j ∧ Hid (∀ (i : Nat) (h : i < m.length), i < j → outB rs k m[i].1 = true) ∧ Below (w.heap.size + 1) W wt) (fun v18 _ => m.length - (intOf v18).toNat)
      case atStart => exact ⟨0, by omega, rfl, fun i _ hi => absurd hi (by omega), hbr⟩
      case round =>
        clear hbr0 hc0
        clear hbr
        obtain ⟨j, hj, rfl, hnj, hbr⟩ := hrel
        have hbr0 := HW.out.trans (hbr.mono (Nat.le_succ _))
        have r0 := (hbr.cell (p := ⟨w.heap.size, 0, none⟩) (Nat.lt_succ_self _)).trans k0
        have r2 := (hbr.cell (p := ⟨w.heap.size, 2, none⟩) (Nat.lt_succ_self _)).trans k2
        have hsz1 := hbr.size
        have hg1 : w.heap.size < wr.heap.size := by omega
        by_cases hlj : j < m.length
        · have hum : SlR eState wr w.heap.size (Value.slice A5 m.length c5) m := hu.below (hbr.mono (Nat.le_succ _))
          obtain ⟨mb, mo, cs, rfl, _, hmb, hrep, hcell⟩ := hum.get hlj (by decide)
          obtain ⟨u, rfl, hu', hz1, hz2⟩ := eState_open hrep
          obtain ⟨A6, e6, rfl, _, _⟩ := hu'.form
          have hd0 := hcell 0 _ rfl
          have hd1 := hcell 1 _ rfl
          clear hcell hu'
          simp only [show eState.size = 2 from rfl, Nat.add_zero, ← Nat.add_assoc] at hd0 hd1
          obtain ⟨x, hx⟩ : ∃ x, x = m[j].1 := ⟨_, rfl⟩
          rw [← hx] at hd0 hz1 hz2
          have HX := Lib.hid hx
          clear hx
          have HPOS : outB rs k x = true → Hid (∀ (i : Nat) (h : i < m.length), i < j + 1 → outB rs k m[i].1 = true) := fun h i hi hij => by
            by_cases e : i = j
            · subst e; rw [← HX.out]; exact h
            · exact hnj.out i hi (by omega)
          have HNEG : outB rs k x = false → Hid (mayB (ns, ts, rs) ms = false) := fun h => by
            show _ = _
            have : (List.range ms.length).all (fun left => machB rs left (ms.getD left [])) = false := by
              rw [← Bool.not_eq_true, List.all_eq_true]
              intro hall
              have h2 := hall k (List.mem_range.2 hlt)
              rw [HM.out] at h2
              unfold machB at h2
              rw [List.all_eq_true] at h2
              have h3 := h2 _ (List.getElem_mem hlj)
              rw [← HX.out, h] at h3
              cases h3
            unfold mayB
            rw [this, Bool.false_and]
          rcases Int.lt_or_le x 0 with hx0 | hx0
          · have HR := HPOS (by unfold outB; rw [decide_eq_true hx0]; rfl)
            clear HPOS HNEG
            go_wp2_with fail
            all_goals first
              | (exfalso; omega)
              | skip
            go_roundw
            case rel => exact ⟨j + 1, by omega, by go_num, HR, hbr.alloc (by omega) _⟩
            case measure => simp [intOf]; omega
          · obtain ⟨o, rfl⟩ : ∃ o : Nat, x = o := ⟨x.toNat, by omega⟩
            by_cases ho : o < rs.length
            · obtain ⟨rb, ro, cs, rfl, _, hrb, hrep, hcell⟩ := (h3.below hbr0).get ho (by decide)
              obtain ⟨u, rfl, hu', hz3, hz4⟩ := eRule_open hrep
              have he0 := hcell 0 _ rfl
              clear hcell hu'
              have hrb' : rb < wr.heap.size := by omega
              simp only [show eRule.size = 2 from rfl, Nat.add_zero] at he0
              have HB : Hid (outB rs k o = decide (rs[o].1 = k)) := by
                show _ = _
                unfold outB
                rw [decide_eq_false (by omega), Bool.false_or, decide_eq_true (by omega), Bool.true_and, Int.toNat_natCast, List.getD_eq_getElem?_getD, List.getElem?_eq_getElem ho]
                rfl
              by_cases hq : rs[o].1 = k
              · have hqb : (rs[o].1 != (k : Int)) = false := by simp [hq]
                have HR := HPOS (by rw [HB.out]; simpa using hq)
                clear HPOS HNEG hq
                go_wp2_with fail
                all_goals first
                  | (exfalso; omega)
                  | skip
                go_roundw
                case rel => exact ⟨j + 1, by omega, by go_num, HR, hbr.alloc (by omega) _⟩
                case measure => simp [intOf]; omega
              · have hqb : (rs[o].1 != (k : Int)) = true := by simp [hq]
                have HR := HNEG (by rw [HB.out]; simpa using hq)
                clear HPOS HNEG hq
                go_wp2_with fail
                all_goals first
                  | (exfalso; omega)
                  | skip
                go_ret
                exact ⟨rt1 (vbool HR.out.symm), hbr0.alloc (by omega) _⟩
            · have HR := HNEG (by unfold outB; rw [decide_eq_false (by omega), Bool.false_or, decide_eq_false (by omega)]; rfl)
              clear HPOS HNEG
              go_wp2_with fail
              all_goals first
                | (exfalso; omega)
                | skip
              go_ret
              exact ⟨rt1 (vbool HR.out.symm), hbr0.alloc (by omega) _⟩
        · have HMA : Hid (machB rs k (ms.getD k []) = true) := by
            show _ = _
            rw [HM.out]
            unfold machB
            rw [List.all_eq_true]
            intro x hx
            obtain ⟨i, hi, rfl⟩ := List.getElem_of_mem hx
            exact hnj.out i hi (by omega)
          go_wp2
          go_roundw
          case rel => exact ⟨k + 1, by omega, by go_num, fun i hi => by by_cases e : i = k; (subst e; exact HMA.out); exact hno.out i (by omega), hbr⟩
          case measure => simp [intOf]; omega
    · go_wp2
      go_ret
      refine ⟨rt1 (vbool ?_), hbr0⟩
      have hall : (List.range ms.length).all (fun left => machB rs left (ms.getD left [])) = true := by
        rw [List.all_eq_true]
        intro i hi
        have := List.mem_range.1 hi
        exact hno.out i (by omega)
      unfold mayB
      rw [hall, Bool.true_and, Bool.eq_iff_iff]
      simp
      omega
end Go.Proofs.Ytkgmdoiadhafeaa
