/- Law 28's awake. -/
import Derived.Test.YtkgmdoiadhafeaaLaw2
namespace Go.Proofs.Ytkgmdoiadhafeaa
open Go.RowKit

set_option maxRecDepth 100000 in
set_option maxHeartbeats 4000000 in
theorem awake_any (w : World) : Calls Try.prog 5 #[] w fun e w' => e = .returned (.bool true) ∧ Below w.heap.size w w' := by
  obtain ⟨W, hW⟩ : ∃ W, W = (awObjs w.heap.size).foldl World.alloc w := ⟨_, rfl⟩
  obtain ⟨hs, hbW, h1, h2, h3, h4⟩ := aw_data w W hW
  have hq4 : W.heap[w.heap.size + 4]? = some (.cells #[.slice (some ⟨w.heap.size, 0, none⟩) 1 1, .slice (some ⟨w.heap.size + 1, 0, none⟩) 1 1, .slice (some ⟨w.heap.size + 3, 0, none⟩) 2 2] 29 (0, 0)) := by rw [hW]; exact heap_many _ w 4 _ rfl
  have r0 := cell_of_row W _ 0 _ _ _ hq4
  have r1 := cell_of_row W _ 1 _ _ _ hq4
  have r2 := cell_of_row W _ 2 _ _ _ hq4
  simp only [List.getElem?_toArray, List.getElem?_cons_succ, List.getElem?_cons_zero] at r0 r1 r2
  have P1 := Lib.hid (parse_any _ _ _ _ gA 1 msA ⟨#[0, 0]⟩ W (by decide) (by decide) h1 h2 h3 h4)
  rw [awake_1] at P1
  go_enter Try.func5, Try.ntmps5
  go_wp2_with fail
  change Calls _ _ _ ((awObjs w.heap.size).foldl World.alloc w) _
  rw [← hW]
  refine P1.out.mono ?_
  rintro e w1 ⟨v, rfl, hown, hb1, _⟩
  have s0 := (hb1.cell (p := ⟨w.heap.size + 4, 0, none⟩) (by simp only []; omega)).trans r0
  have s1 := (hb1.cell (p := ⟨w.heap.size + 4, 1, none⟩) (by simp only []; omega)).trans r1
  have s2 := (hb1.cell (p := ⟨w.heap.size + 4, 2, none⟩) (by simp only []; omega)).trans r2
  obtain ⟨A5, c5, rfl, hc5, hc5'⟩ := own_form hown
  have hs1 := hb1.size
  have P2 := Lib.hid (parse_any _ _ _ _ gA 1 msA ⟨#[0, 1]⟩ w1 (by decide) (by decide) (h1.next hb1 hs1) (h2.next hb1 hs1) (h3.next hb1 hs1) (h4.next hb1 hs1))
  rw [awake_2] at P2
  clear r0 r1 r2 P1
  go_wp2_with fail
  refine P2.out.mono ?_
  rintro e w2 ⟨v2, rfl, hown2, hb2, _⟩
  have hown' := own_below hown hb2
  have hrd := Rd.of_own hown'
  obtain ⟨b, off, rfl, hb, e0⟩ := hrd.at_ (k := 0) (by simp [icells])
  obtain ⟨b', off', he, _, e2⟩ := hrd.at_ (k := 2) (by simp [icells])
  injection he with he
  injection he with e5 e6
  subst e5 e6
  simp only [icells, List.map_cons, List.getElem_cons_zero, List.getElem_cons_succ, Nat.add_zero] at e0 e2
  obtain ⟨A6, c6, rfl, _, _⟩ := own_form hown2
  clear s0 s1 s2 P2
  go_wp2_with fail
  go_ret
  exact ⟨rfl, (hbW.trans (hb1.mono (by omega))).trans (hb2.mono (by omega))⟩
end Go.Proofs.Ytkgmdoiadhafeaa
