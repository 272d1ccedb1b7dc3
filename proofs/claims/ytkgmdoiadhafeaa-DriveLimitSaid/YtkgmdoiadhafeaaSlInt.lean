/- Written by a program (wip/bin/gen_slices.py): walks of slices.IndexFunc and slices.ContainsFunc at an element type. -/
import Derived.Test.YtkgmdoiadhafeaaChecked
import Derived.Test.YtkgmdoiadhafeaaRep
import Derived.Test.YtkgmdoiadhafeaaGrow2
namespace Go.Proofs.Ytkgmdoiadhafeaa
open Go.RowKit
/-- where the first element stands of which p holds; -1 -/
def idxOf {α : Type} (p : α → Bool) (xs : List α) : Int := match xs.findIdx? p with | some i => i | none => -1
theorem idxOf_hit {α : Type} {p : α → Bool} {xs : List α} {k : Nat} (h : k < xs.length) (hno : ∀ (j : Nat) (h : j < xs.length), j < k → p xs[j] = false) (hp : p xs[k] = true) : idxOf p xs = k := by
  unfold idxOf
  rw [List.findIdx?_eq_some_iff_getElem.2 ⟨h, hp, fun j hj => by simp [hno j (by omega) hj]⟩]
theorem idxOf_miss {α : Type} {p : α → Bool} {xs : List α} (hno : ∀ (j : Nat) (h : j < xs.length), p xs[j] = false) : idxOf p xs = -1 := by
  unfold idxOf
  rw [List.findIdx?_eq_none_iff.2 fun x hx => by obtain ⟨j, hj, rfl⟩ := List.getElem_of_mem hx; exact hno j hj]
theorem idxOf_any {α : Type} (p : α → Bool) (xs : List α) : (0 ≤ idxOf p xs ∧ xs.any p = true) ∨ (idxOf p xs < 0 ∧ xs.any p = false) := by
  unfold idxOf
  cases h : xs.findIdx? p with
  | none => right; rw [List.findIdx?_eq_none_iff] at h; exact ⟨by simp, by simpa using h⟩
  | some i =>
    left
    rw [List.findIdx?_eq_some_iff_getElem] at h
    exact ⟨by simp, by rw [List.any_eq_true]; exact ⟨_, List.getElem_mem h.1, h.2.1⟩⟩

set_option maxHeartbeats 800000 in
theorem idxf_int (F : FuncId) (cap : Array Value) (p : Int → Bool) (v : Value) (xs : List (Int)) (w : World) (hv : SlR eInt w w.heap.size v xs)
    (hF : ∀ (args : Array Value) (w : World), (callFunc F args).run Try.prog w = .ok (.enter F args) w)
    (hp : ∀ (cs : List Value) (x : Int) (w1 : World), x ∈ xs → Below w.heap.size w w1 → (eInt).rep w1 w.heap.size cs x → Calls Try.prog F (#[.int .i64 x] ++ cap) w1 fun e w2 => e = .returned (.bool (p x)) ∧ Below w1.heap.size w1 w2) :
    Calls Try.prog 43 #[v, .func (.func F) #[] cap] w fun e w' => e = .returned (.int .i64 (idxOf p xs)) ∧ Below w.heap.size w w' := by
  have HP := Lib.hid hp
  clear hp
  obtain ⟨A, c, rfl, hc1, hc2⟩ := hv.form
  unfold maxLen at hc2
  go_enter Try.func43, Try.ntmps43
  go_wp2_with fail
  go_loopw [8] (fun v8 wr => ∃ k : Nat, k ≤ xs.length ∧ v8 = .int .i64 k ∧ Hid (∀ (j : Nat) (h : j < xs.length), j < k → p xs[j] = false) ∧ Below w.heap.size w wr) (fun v8 _ => xs.length - (intOf v8).toNat)
  case atStart => exact ⟨0, by omega, rfl, fun j h hj => by omega, Below.refl _ _⟩
  case round =>
    obtain ⟨k, hk, rfl, hno, hbr⟩ := hrel
    by_cases hlt : k < xs.length
    · obtain ⟨ab, ao, cs, rfl, _, hab, hrep, hcell⟩ := (hv.below hbr).get hlt (by decide)
      have hrep0 := Lib.hid hrep
      obtain ⟨rfl, hx1, hx2⟩ := hrep
      have hc0 := hcell 0 _ rfl
      clear hcell
      simp only [show eInt.size = 1 from rfl, Nat.mul_one, Nat.add_zero] at hc0
      rcases Bool.eq_false_or_eq_true (p xs[k]) with hpk | hpk
      · have HB := Lib.hid hpk
        have HFIN := Lib.hid (idxOf_hit hlt hno.out hpk)
        clear hpk
        go_wp2_with fail
        refine (HP.out [.int .i64 xs[k]] xs[k] wr (List.getElem_mem hlt) hbr hrep0.out).mono ?_
        rintro e w1 ⟨rfl, hb1⟩
        rw [HB.out]
        go_wp2
        go_ret
        exact ⟨rt1 (vint HFIN.out.symm), hbr.trans (hb1.mono hbr.size)⟩
      · have HB := Lib.hid hpk
        clear hpk
        go_wp2_with fail
        refine (HP.out [.int .i64 xs[k]] xs[k] wr (List.getElem_mem hlt) hbr hrep0.out).mono ?_
        rintro e w1 ⟨rfl, hb1⟩
        rw [HB.out]
        go_wp2
        go_roundw
        case rel => exact ⟨k + 1, by omega, by go_num, fun j h hj => by by_cases e : j = k; (subst e; exact HB.out); exact hno.out j h (by omega), hbr.trans (hb1.mono hbr.size)⟩
        case measure => simp [intOf]; omega
    · have HFIN := Lib.hid (idxOf_miss fun j h => hno.out j h (by omega))
      go_wp2
      go_ret
      exact ⟨rt1 (vint HFIN.out.symm), hbr⟩
set_option maxHeartbeats 400000 in
theorem conf_int (F : FuncId) (cap : Array Value) (p : Int → Bool) (v : Value) (xs : List (Int)) (w : World) (hv : SlR eInt w w.heap.size v xs)
    (hF : ∀ (args : Array Value) (w : World), (callFunc F args).run Try.prog w = .ok (.enter F args) w)
    (hp : ∀ (cs : List Value) (x : Int) (w1 : World), x ∈ xs → Below w.heap.size w w1 → (eInt).rep w1 w.heap.size cs x → Calls Try.prog F (#[.int .i64 x] ++ cap) w1 fun e w2 => e = .returned (.bool (p x)) ∧ Below w1.heap.size w1 w2) :
    Calls Try.prog 37 #[v, .func (.func F) #[] cap] w fun e w' => e = .returned (.bool (xs.any p)) ∧ Below w.heap.size w w' := by
  have HC := Lib.hid (idxf_int F cap p v xs w hv hF hp)
  clear hp
  rcases idxOf_any p xs with ⟨h1, h2⟩ | ⟨h1, h2⟩
  all_goals
    have H2 := Lib.hid h2
    clear h2
    go_enter Try.func37, Try.ntmps37
    go_wp2_with fail
    refine HC.out.mono ?_
    rintro e w1 ⟨rfl, hb1⟩
    go_wp2
    go_ret
    exact ⟨rt1 (vbool (by first | exact H2.out.symm | (rw [H2.out]; simp; done) | (rw [H2.out]; simp; omega))), hb1⟩
end Go.Proofs.Ytkgmdoiadhafeaa
