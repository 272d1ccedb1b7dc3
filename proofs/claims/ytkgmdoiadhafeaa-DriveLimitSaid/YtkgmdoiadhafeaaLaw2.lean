/- Law 28's few and awake. -/
import Derived.Test.YtkgmdoiadhafeaaLaw1
namespace Go.Proofs.Ytkgmdoiadhafeaa
open Go.RowKit

set_option maxHeartbeats 4000000 in
theorem few_any (v : Value) (ms : List Mach) (w : World) (hv : SlR (eSl eState) w w.heap.size v ms) :
    Calls Try.prog 8 #[v] w (ABool w) := by
  obtain ⟨A, c, rfl, hc, hc'⟩ := hv.form
  unfold maxLen at hc'
  by_cases h12 : ms.length ≤ 12
  case neg =>
    go_enter Try.func8, Try.ntmps8
    go_wp2_with fail
    go_ret
    exact ⟨false, rfl, Below.refl _ _⟩
  go_enter Try.func8, Try.ntmps8
  go_wp2_with fail
  go_loopw [3] (fun v wr => ∃ k : Nat, k ≤ ms.length ∧ v = .int .i64 k ∧ Below w.heap.size w wr) (fun v _ => ms.length - (intOf v).toNat)
  case atStart => exact ⟨0, by omega, rfl, Below.refl _ _⟩
  case round =>
    obtain ⟨k, hk, rfl, hbr⟩ := hrel
    by_cases hlt : k < ms.length
    case neg =>
      go_wp2_with fail
      go_ret
      exact ⟨true, rfl, hbr⟩
    have hsz := hbr.size
    obtain ⟨ab, ao, cs, rfl, _, hab, hrep, hcell⟩ := (hv.below hbr).get hlt (by decide)
    obtain ⟨u, rfl, hu⟩ := hrep
    obtain ⟨A4, e4, rfl, hq1, hq2⟩ := hu.form
    unfold maxLen at hq2
    have c0 := hcell 0 _ rfl
    clear hcell
    simp only [show (eSl eState).size = 1 from rfl, Nat.add_zero, Nat.mul_one] at c0
    obtain ⟨m, hm⟩ : ∃ m, m = ms[k] := ⟨_, rfl⟩
    rw [← hm] at hu c0 hq1
    clear hm
    go_wp2_with fail
    refine (few24_any _ m wr (hu.more hsz)).mono ?_
    rintro e w1 ⟨z, rfl, rfl⟩
    by_cases hz : z = 0
    · have hzb : (z == 0) = true := by simp [hz]
      clear hz
      go_wp2_with fail
      go_ret
      exact ⟨false, rfl, hbr⟩
    have hzb : (z == 0) = false := by simp [hz]
    clear hz
    by_cases h0 : m.length = 0
    · go_wp2_with fail
      all_goals first
        | (exfalso; omega)
        | skip
      go_roundw
      case rel => exact ⟨k + 1, by omega, by go_num, hbr⟩
      case measure => simp [intOf]; omega
    go_wp2_with fail
    all_goals first
      | (exfalso; omega)
      | skip
    refine (valid24_any _ m 256 wr (hu.more hsz)).mono ?_
    rintro e w1 ⟨b, rfl, hb1⟩
    cases b
    · go_wp2_with fail
      go_ret
      exact ⟨false, rfl, hbr.trans (hb1.mono hsz)⟩
    · go_wp2_with fail
      go_roundw
      case rel => exact ⟨k + 1, by omega, by go_num, hbr.trans (hb1.mono hsz)⟩
      case measure => simp [intOf]; omega

/-! awake: two words at a small grammar -/
def gA : Gram := ([⟨#[83]⟩], [⟨#[97]⟩], [(0, []), (0, [-1, 0])])
def msA : List Mach := [[(0, [(0, 1)]), (1, [])]]
theorem awake_1 : parseB gA 1 msA ⟨#[0, 0]⟩ = ([1, 1, 0], 2, 0) := by kernel_rfl
theorem awake_2 : parseB gA 1 msA ⟨#[0, 1]⟩ = ([], 1, 14) := by kernel_rfl

/-! what a call has built -/
theorem size_many : ∀ (l : List Obj) (w : World), (l.foldl World.alloc w).heap.size = w.heap.size + l.length
  | [], w => rfl
  | o :: l, w => by rw [List.foldl_cons, size_many l, World.size_alloc, List.length_cons]; omega
theorem old_many : ∀ (l : List Obj) (w : World) (k : Nat), k < w.heap.size → (l.foldl World.alloc w).heap[k]? = w.heap[k]?
  | [], w, k, _ => rfl
  | o :: l, w, k, h => by rw [List.foldl_cons, old_many l _ k (by simp; omega), Below.heap_alloc _ _ _ h]
theorem heap_many : ∀ (l : List Obj) (w : World) (j : Nat) (o : Obj), l[j]? = some o → (l.foldl World.alloc w).heap[w.heap.size + j]? = some o
  | [], w, j, o, h => by simp at h
  | p :: l, w, 0, o, h => by
    rw [List.foldl_cons, old_many l _ _ (by simp)]
    cases h
    exact heap_alloc_new w p
  | p :: l, w, j + 1, o, h => by
    rw [List.foldl_cons]
    have := heap_many l (w.alloc p) j o h
    rwa [World.size_alloc, show w.heap.size + 1 + j = w.heap.size + (j + 1) by omega] at this
theorem below_many {B : Nat} {w : World} : ∀ (l : List Obj) (w' : World), Below B w w' → B ≤ w'.heap.size → Below B w (l.foldl World.alloc w')
  | [], w', h, _ => h
  | o :: l, w', h, hB => below_many l _ (h.alloc hB o) (by simp; omega)
def All2 {α : Type} (E : Elt α) (w : World) (B : Nat) : List (List Value) → List α → Prop
  | [], [] => True
  | c :: cs, x :: xs => E.rep w B c x ∧ All2 E w B cs xs
  | _, _ => False
theorem All2.at_ {α : Type} {E : Elt α} {w : World} {B : Nat} : ∀ {css : List (List Value)} {xs : List α}, All2 E w B css xs → css.length = xs.length ∧ ∀ (i : Nat) (cs : List Value) (x : α), css[i]? = some cs → xs[i]? = some x → E.rep w B cs x
  | [], [], _ => ⟨rfl, fun i cs x h => by simp at h⟩
  | c :: cs, x :: xs, h => by
    obtain ⟨h1, h2⟩ := All2.at_ h.2
    refine ⟨by simp [h1], fun i => ?_⟩
    match i with
    | 0 => intro a b e1 e2; cases e1; cases e2; exact h.1
    | i + 1 => intro a b e1 e2; exact h2 i a b (by simpa using e1) (by simpa using e2)
  | [], _ :: _, h => h.elim
  | _ :: _, [], h => h.elim
/-- a row of the memory, read as a slice -/
theorem SlR.row {α : Type} {E : Elt α} {w : World} {B g c : Nat} {e : TypeId} {fr : Nat × Nat} {cs : Array Value} (css : List (List Value)) {xs : List α} (h : w.heap[g]? = some (.cells cs e fr)) (hg : g < B) (hcs : cs.toList = css.flatten) (hr : All2 E w B css xs) (h1 : xs.length ≤ c) (h2 : c ≤ maxLen) {n : Nat} (hn : n = xs.length) :
    SlR E w B (.slice (some ⟨g, 0, none⟩) n c) xs := by
  subst hn
  obtain ⟨a1, a2⟩ := hr.at_
  exact ⟨some ⟨g, 0, none⟩, c, css, rfl, h1, h2, a1, hcs ▸ Rd.row h hg, a2⟩
theorem eState_mk {w : World} {B : Nat} {v : Value} {r : Int × List (Int × Int)} (hs : SlR eEdge w B v r.2) (h1 : -9223372036854775808 ≤ r.1) (h2 : r.1 ≤ 9223372036854775807) : eState.rep w B [.int .i64 r.1, v] r :=
  ⟨_, _, rfl, ⟨rfl, h1, h2⟩, v, rfl, hs⟩
theorem eEdge_mk {w : World} {B : Nat} {r : Int × Int} (h1 : -9223372036854775808 ≤ r.1) (h2 : r.1 ≤ 9223372036854775807) (h3 : -9223372036854775808 ≤ r.2) (h4 : r.2 ≤ 9223372036854775807) : eEdge.rep w B [.int .i64 r.1, .int .i64 r.2] r :=
  ⟨_, _, rfl, ⟨rfl, h1, h2⟩, rfl, h3, h4⟩

def awObjs (n : Nat) : List Obj := [.cells #[.string ⟨#[83]⟩] 9, .cells #[.string ⟨#[97]⟩] 9, .cells #[.int .i64 (-1), .int .i64 0] 3,
  .cells #[.int .i64 0, .slice none 0 0, .int .i64 0, .slice (some ⟨n + 2, 0, none⟩) 2 2] 26,
  .cells #[.slice (some ⟨n, 0, none⟩) 1 1, .slice (some ⟨n + 1, 0, none⟩) 1 1, .slice (some ⟨n + 3, 0, none⟩) 2 2] 29,
  .cells #[.int .i64 0, .int .i64 1] 31,
  .cells #[.int .i64 0, .slice (some ⟨n + 5, 0, none⟩) 1 1, .int .i64 1, .slice none 0 0] 34,
  .cells #[.slice (some ⟨n + 6, 0, none⟩) 2 2] 35]
theorem aw_data (w W : World) (hW : W = (awObjs w.heap.size).foldl World.alloc w) : W.heap.size = w.heap.size + 8 ∧ Below w.heap.size w W ∧
    SlR eStr W W.heap.size (.slice (some ⟨w.heap.size, 0, none⟩) 1 1) gA.1 ∧ SlR eStr W W.heap.size (.slice (some ⟨w.heap.size + 1, 0, none⟩) 1 1) gA.2.1 ∧
    SlR eRule W W.heap.size (.slice (some ⟨w.heap.size + 3, 0, none⟩) 2 2) gA.2.2 ∧ SlR (eSl eState) W W.heap.size (.slice (some ⟨w.heap.size + 7, 0, none⟩) 1 1) msA := by
  have hs : W.heap.size = w.heap.size + 8 := by rw [hW, size_many]; rfl
  have hq : ∀ j o, (awObjs w.heap.size)[j]? = some o → W.heap[w.heap.size + j]? = some o := fun j o h => by rw [hW]; exact heap_many _ w j o h
  have q0 := hq 0 _ rfl
  have q1 := hq 1 _ rfl
  have q2 := hq 2 _ rfl
  have q3 := hq 3 _ rfl
  have q5 := hq 5 _ rfl
  have q6 := hq 6 _ rfl
  have q7 := hq 7 _ rfl
  refine ⟨hs, hW ▸ below_many _ w (Below.refl _ _) (Nat.le_refl _), ?_, ?_, ?_, ?_⟩
  · exact SlR.row (E := eStr) (B := W.heap.size) (xs := [⟨#[83]⟩]) [[.string ⟨#[83]⟩]] q0 (by omega) rfl ⟨⟨rfl, by decide⟩, trivial⟩ (Nat.le_refl _) (by decide) rfl
  · exact SlR.row (E := eStr) (B := W.heap.size) (xs := [⟨#[97]⟩]) [[.string ⟨#[97]⟩]] q1 (by omega) rfl ⟨⟨rfl, by decide⟩, trivial⟩ (Nat.le_refl _) (by decide) rfl
  · refine SlR.row (E := eRule) (B := W.heap.size) (xs := [(0, []), (0, [-1, 0])]) [[.int .i64 0, .slice none 0 0], [.int .i64 0, .slice (some ⟨w.heap.size + 2, 0, none⟩) 2 2]] q3 (by omega) rfl ⟨eRule_mk (r := (0, [])) SlR.nil_ (by decide) (by decide), eRule_mk (r := (0, [-1, 0])) ?_ (by decide) (by decide), trivial⟩ (Nat.le_refl _) (by decide) rfl
    exact SlR.row (E := eInt) (B := W.heap.size) (xs := [-1, 0]) [[.int .i64 (-1)], [.int .i64 0]] q2 (by omega) rfl ⟨⟨rfl, by decide, by decide⟩, ⟨rfl, by decide, by decide⟩, trivial⟩ (Nat.le_refl _) (by decide) rfl
  · refine SlR.row (E := eSl eState) (B := W.heap.size) (xs := msA) [[.slice (some ⟨w.heap.size + 6, 0, none⟩) 2 2]] q7 (by omega) rfl ⟨⟨_, rfl, ?_⟩, trivial⟩ (Nat.le_refl _) (by decide) rfl
    refine SlR.row (E := eState) (B := W.heap.size) (xs := [(0, [(0, 1)]), (1, [])]) [[.int .i64 0, .slice (some ⟨w.heap.size + 5, 0, none⟩) 1 1], [.int .i64 1, .slice none 0 0]] q6 (by omega) rfl ⟨eState_mk (r := (0, [(0, 1)])) ?_ (by decide) (by decide), eState_mk (r := (1, [])) SlR.nil_ (by decide) (by decide), trivial⟩ (Nat.le_refl _) (by decide) rfl
    exact SlR.row (E := eEdge) (B := W.heap.size) (xs := [(0, 1)]) [[.int .i64 0, .int .i64 1]] q5 (by omega) rfl ⟨eEdge_mk (r := (0, 1)) (by decide) (by decide) (by decide) (by decide), trivial⟩ (Nat.le_refl _) (by decide) rfl
end Go.Proofs.Ytkgmdoiadhafeaa
