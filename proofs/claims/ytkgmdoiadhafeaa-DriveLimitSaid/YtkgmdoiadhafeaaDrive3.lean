/- A run, and walks of Place.Left, Run.fail, Run.Failed, Run.Rules. -/
import Derived.Test.YtkgmdoiadhafeaaDrive2
namespace Go.Proofs.Ytkgmdoiadhafeaa
open Go.RowKit

structure St where
  stack : List Int
  at_ : Nat
  rules : List Int
  failed : Bool
/-- what a run is about: where it lies, its word, grammar and machines -/
structure Cfg where
  base : Nat
  p : Nat
  r : Nat
  s : ByteArray
  v1 : Value
  v2 : Value
  v3 : Value
  v4 : Value
  k : Nat
/-- a run's memory -/
structure RunR (C : Cfg) (w : World) (vs vr : Value) (x : St) : Prop where
  bp : C.base ≤ C.p
  br : C.base ≤ C.r
  ne : C.p ≠ C.r
  run : w.heap[C.r]? = some (.cells #[.pointer (some ⟨C.p, 0, none⟩), C.v1, C.v2, C.v3, .int .i64 C.k, C.v4, vs, vr, .bool x.failed] 52 (0, 0))
  pl : w.heap[C.p]? = some (.cells #[.string C.s, .int .i64 x.at_] 54 (0, 0))
  st : w.ownsRow C.base 3 1 vs x.stack.length (icells x.stack)
  ru : w.ownsRow C.base 3 1 vr x.rules.length (icells x.rules)
  dis : ∀ g, vs.ownBlock = some g → vr.ownBlock ≠ some g
theorem RunR.cells {C : Cfg} {w : World} {vs vr : Value} {x : St} (h : RunR C w vs vr x) :
    w.cell? ⟨C.r, 0, none⟩ = some (.pointer (some ⟨C.p, 0, none⟩)) ∧ w.cell? ⟨C.r, 1, none⟩ = some C.v1 ∧ w.cell? ⟨C.r, 2, none⟩ = some C.v2 ∧ w.cell? ⟨C.r, 3, none⟩ = some C.v3 ∧ w.cell? ⟨C.r, 4, none⟩ = some (.int .i64 C.k) ∧ w.cell? ⟨C.r, 5, none⟩ = some C.v4 ∧
    w.cell? ⟨C.r, 6, none⟩ = some vs ∧ w.cell? ⟨C.r, 7, none⟩ = some vr ∧ w.cell? ⟨C.r, 8, none⟩ = some (.bool x.failed) ∧ w.cell? ⟨C.p, 0, none⟩ = some (.string C.s) ∧ w.cell? ⟨C.p, 1, none⟩ = some (.int .i64 x.at_) := by
  have h1 := h.run
  have h2 := h.pl
  refine ⟨?_, ?_, ?_, ?_, ?_, ?_, ?_, ?_, ?_, ?_, ?_⟩
  all_goals first
    | (rw [cell_of_row w _ _ _ _ _ h1]; rfl)
    | (rw [cell_of_row w _ _ _ _ _ h2]; rfl)
theorem RunR.free {C : Cfg} {w : World} {vs vr : Value} {x : St} (h : RunR C w vs vr x) (j : Nat) : w.frozen? ⟨C.r, j, none⟩ = false ∧ w.frozen? ⟨C.p, j, none⟩ = false := ⟨frozen_of_row _ _ _ _ _ h.run, frozen_of_row _ _ _ _ _ h.pl⟩

theorem left_any (p n : Nat) (s : ByteArray) (w : World) (h0 : w.cell? ⟨p, 0, none⟩ = some (.string s)) (h1 : w.cell? ⟨p, 1, none⟩ = some (.int .i64 n)) (hn : n ≤ s.size) (hs : s.size ≤ 1099511627776) :
    Calls Try.prog 18 #[.pointer (some ⟨p, 0, none⟩)] w fun e w' => e = .returned (.int .i64 ((s.size - n : Nat) : Int)) ∧ w' = w.drew := by
  go_enter Try.func18, Try.ntmps18
  go_wp2_with fail
  refine Text.wp_text [] (by kernel_rfl) (by kernel_rfl) (fun Q' hQ' => ?_)
  go_wp2
  refine ⟨by rfl, ?_⟩
  go_wp2
  go_ret
  exact ⟨rt1 (vint (by omega)), rfl⟩
theorem fail_any (r : Nat) (w : World) (b : Bool) (h0 : w.cell? ⟨r, 8, none⟩ = some (.bool b)) (h1 : w.frozen? ⟨r, 8, none⟩ = false) :
    Calls Try.prog 19 #[.pointer (some ⟨r, 0, none⟩)] w fun e w' => e = .returned (.bool true) ∧ w' = w.setCell ⟨r, 8, none⟩ (.bool true) := by
  go_enter Try.func19, Try.ntmps19
  go_wp2
  go_ret
  exact ⟨rfl, rfl⟩
set_option maxHeartbeats 800000 in
theorem failed_any (C : Cfg) (w : World) (vs vr : Value) (x : St) (h : RunR C w vs vr x) :
    Calls Try.prog 11 #[.pointer (some ⟨C.r, 0, none⟩)] w fun e w' => e = .returned (if x.failed then .tuple #[.int .i64 x.at_, .bool true] else .tuple #[.int .i64 0, .bool false]) ∧ w = w' := by
  obtain ⟨c0, _, _, _, _, _, _, _, c8, _, p1⟩ := h.cells
  rcases Bool.eq_false_or_eq_true x.failed with hf | hf
  all_goals
    rw [hf] at c8 ⊢
    clear hf
    go_enter Try.func11, Try.ntmps11
    go_wp2
    go_ret2
    exact ⟨rfl, rfl⟩
/-- an own row of numbers, read -/
theorem own_sl {w : World} {base : Nat} {v : Value} {xs : List Int} (h : w.ownsRow base 3 1 v xs.length (icells xs)) (hb : ∀ x ∈ xs, -9223372036854775808 ≤ x ∧ x ≤ 9223372036854775807) : SlR eInt w w.heap.size v xs := by
  obtain ⟨A, c, rfl, h1, h2⟩ := own_form h
  refine ⟨A, c, xs.map fun x => [.int .i64 x], rfl, h1, h2, by simp, ?_, fun i cs x hc hx => ?_⟩
  · have := Rd.of_own h
    have hf : (xs.map fun x => [Value.int .i64 x]).flatten = icells xs := by
      clear h h1 h2 hb this
      induction xs with
      | nil => rfl
      | cons x xs ih => rw [List.map_cons, List.flatten_cons, ih]; rfl
    rwa [hf]
  · rw [List.getElem?_map, hx] at hc
    cases hc
    exact ⟨rfl, hb x (List.mem_of_getElem? hx)⟩
set_option maxHeartbeats 800000 in
theorem rules_any (C : Cfg) (w : World) (vs vr : Value) (x : St) (h : RunR C w vs vr x) (hx : x.rules.length ≤ 1099511627776) (hb : ∀ y ∈ x.rules, -9223372036854775808 ≤ y ∧ y ≤ 9223372036854775807) :
    Calls Try.prog 13 #[.pointer (some ⟨C.r, 0, none⟩)] w fun e w' => ∃ v', e = .returned v' ∧ w'.ownsRow w.heap.size 3 1 v' x.rules.length (icells x.rules) ∧ Below w.heap.size w w' := by
  obtain ⟨c0, _, _, _, _, _, _, c7, c8, _, p1⟩ := h.cells
  have hsl := own_sl h.ru hb
  go_enter Try.func13, Try.ntmps13
  go_wp2_with fail
  refine (clone_int vr x.rules w hsl hx).mono ?_
  rintro e w1 ⟨v', rfl, hown, hb1⟩
  go_wp2
  go_ret
  exact ⟨_, rfl, hown, hb1⟩
end Go.Proofs.Ytkgmdoiadhafeaa
