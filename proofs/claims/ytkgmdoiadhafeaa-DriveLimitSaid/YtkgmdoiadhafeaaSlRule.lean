/- Written by a program (wip/bin/gen_slices.py): walks of slices.IndexFunc and slices.ContainsFunc at an element type. -/
import Derived.Test.YtkgmdoiadhafeaaChecked
import Derived.Test.YtkgmdoiadhafeaaRep
import Derived.Test.YtkgmdoiadhafeaaGrow2
import Derived.Test.YtkgmdoiadhafeaaSlInt
namespace Go.Proofs.Ytkgmdoiadhafeaa
open Go.RowKit
/-- a rule: its left, its right side -/
def eRule : Elt (Int × List Int) := eProd eInt (eSl eInt)

set_option maxHeartbeats 800000 in
theorem idxf_rule (F : FuncId) (cap : Array Value) (p : Int × List Int → Bool) (v : Value) (xs : List (Int × List Int)) (w : World) (hv : SlR eRule w w.heap.size v xs)
    (hF : ∀ (args : Array Value) (w : World), (callFunc F args).run Try.prog w = .ok (.enter F args) w)
    (hp : ∀ (cs : List Value) (x : Int × List Int) (w1 : World), x ∈ xs → Below w.heap.size w w1 → (eRule).rep w1 w.heap.size cs x → Calls Try.prog F (#[.agg cs.toArray] ++ cap) w1 fun e w2 => e = .returned (.bool (p x)) ∧ Below w1.heap.size w1 w2) :
    Calls Try.prog 44 #[v, .func (.func F) #[] cap] w fun e w' => e = .returned (.int .i64 (idxOf p xs)) ∧ Below w.heap.size w w' := by
  have HP := Lib.hid hp
  clear hp
  obtain ⟨A, c, rfl, hc1, hc2⟩ := hv.form
  unfold maxLen at hc2
  go_enter Try.func44, Try.ntmps44
  go_wp2_with fail
  go_loopw [8] (fun v8 wr => ∃ k : Nat, k ≤ xs.length ∧ v8 = .int .i64 k ∧ Hid (∀ (j : Nat) (h : j < xs.length), j < k → p xs[j] = false) ∧ Below w.heap.size w wr) (fun v8 _ => xs.length - (intOf v8).toNat)
  case atStart => exact ⟨0, by omega, rfl, fun j h hj => by omega, Below.refl _ _⟩
  case round =>
    obtain ⟨k, hk, rfl, hno, hbr⟩ := hrel
    by_cases hlt : k < xs.length
    · obtain ⟨ab, ao, cs, rfl, _, hab, hrep, hcell⟩ := (hv.below hbr).get hlt (by decide)
      obtain ⟨u0, u1, rfl⟩ : ∃ u0 u1, cs = [u0, u1] := by
        match cs, (eRule).len hrep with
        | [u0, u1], _ => exact ⟨u0, u1, rfl⟩
      have hc0 := hcell 0 _ rfl
      have hc1' := hcell 1 _ rfl
      have hrep := Lib.hid hrep
      clear hcell
      simp only [show (eRule).size = 2 from rfl, Nat.add_zero, ← Nat.add_assoc] at hc0 hc1'
      rcases Bool.eq_false_or_eq_true (p xs[k]) with hpk | hpk
      · have HB := Lib.hid hpk
        have HFIN := Lib.hid (idxOf_hit hlt hno.out hpk)
        clear hpk
        go_wp2_with fail
        refine (HP.out [u0, u1] xs[k] wr (List.getElem_mem hlt) hbr hrep.out).mono ?_
        rintro e w1 ⟨rfl, hb1⟩
        rw [HB.out]
        go_wp2
        go_ret
        exact ⟨rt1 (vint HFIN.out.symm), hbr.trans (hb1.mono hbr.size)⟩
      · have HB := Lib.hid hpk
        clear hpk
        go_wp2_with fail
        refine (HP.out [u0, u1] xs[k] wr (List.getElem_mem hlt) hbr hrep.out).mono ?_
        rintro e w1 ⟨rfl, hb1⟩
        rw [HB.out]
        go_wp2
        go_roundw
        case rel => exact ⟨k + 1, by omega, by go_num, fun j h hj => by by_cases e : j = k; (subst e; exact HB.out); exact hno.out j h (by omega), hbr.trans (hb1.mono hbr.size)⟩
        case measure => simp [intOf]; omega
    · have HFIN := Lib.hid (idxOf_miss fun j h => hno.out j h (by omega))
      go_wp2
      go_ret
      exact ⟨rt1 (vint HFIN.out.symm), hbr⟩
set_option maxHeartbeats 400000 in
theorem conf_rule (F : FuncId) (cap : Array Value) (p : Int × List Int → Bool) (v : Value) (xs : List (Int × List Int)) (w : World) (hv : SlR eRule w w.heap.size v xs)
    (hF : ∀ (args : Array Value) (w : World), (callFunc F args).run Try.prog w = .ok (.enter F args) w)
    (hp : ∀ (cs : List Value) (x : Int × List Int) (w1 : World), x ∈ xs → Below w.heap.size w w1 → (eRule).rep w1 w.heap.size cs x → Calls Try.prog F (#[.agg cs.toArray] ++ cap) w1 fun e w2 => e = .returned (.bool (p x)) ∧ Below w1.heap.size w1 w2) :
    Calls Try.prog 39 #[v, .func (.func F) #[] cap] w fun e w' => e = .returned (.bool (xs.any p)) ∧ Below w.heap.size w w' := by
  have HC := Lib.hid (idxf_rule F cap p v xs w hv hF hp)
  clear hp
  rcases idxOf_any p xs with ⟨h1, h2⟩ | ⟨h1, h2⟩
  all_goals
    have H2 := Lib.hid h2
    clear h2
    go_enter Try.func39, Try.ntmps39
    go_wp2_with fail
    refine HC.out.mono ?_
    rintro e w1 ⟨rfl, hb1⟩
    go_wp2
    go_ret
    exact ⟨rt1 (vbool (by first | exact H2.out.symm | (rw [H2.out]; simp; done) | (rw [H2.out]; simp; omega))), hb1⟩
end Go.Proofs.Ytkgmdoiadhafeaa
