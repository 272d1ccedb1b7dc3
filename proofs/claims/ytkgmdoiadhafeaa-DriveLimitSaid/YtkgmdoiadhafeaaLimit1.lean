/- Law 28's DriveLimit: what its runs come to, and its data in memory. -/
import Derived.Test.YtkgmdoiadhafeaaLaw3
namespace Go.Proofs.Ytkgmdoiadhafeaa
open Go.RowKit

def gL : Gram := ([⟨#[83]⟩], [⟨#[97]⟩], [(0, [0]), (0, [0, 0])])
def msL (o : Int) : List Mach := [[(o, [(0, 0)])]]
theorem stepL (o : Int) : stepM [(o, [(0, 0)])] 0 (((0 : UInt8).toNat : Nat) : Int) = some 0 := by
  unfold stepM
  simp
theorem runL (o : Int) : ∀ l : List UInt8, (∀ b ∈ l, b = 0) → runS [(o, [(0, 0)])] 0 l = some 0
  | [], _ => rfl
  | b :: r, h => by
    have hb := h b (by simp)
    subst hb
    unfold runS
    rw [stepL]
    exact runL o r fun b hb => h b (by simp [hb])
theorem predL (o : Int) (l : List UInt8) (h : ∀ b ∈ l, b = 0) : predictR (msL o) 0 l = o := by
  unfold predictR msL
  rw [if_pos ⟨by omega, by simp⟩]
  show runM [(o, [(0, 0)])] l = o
  unfold runM
  rw [if_neg (by simp), runL o l h]
  rfl
theorem mem_extract {s : ByteArray} {i j : Nat} {b : UInt8} (h : b ∈ (s.extract i j).data.toList) : b ∈ s.data.toList := by
  rw [ByteArray.data_extract, Array.toList_extract, List.extract_eq_take_drop] at h
  exact List.mem_of_mem_drop (List.mem_of_mem_take h)
theorem parseL (o : Int) (ho : o = 0 ∨ o = 1) (s : ByteArray) (hs : ∀ b ∈ s.data.toList, b = 0) (k : Nat) : ∀ (fuel n : Nat) (x : St), x.failed = false → x.stack.getLast? = some 0 → parseD gL.2.2 (msL o) s k fuel n x = ([], 0, 21)
  | 0, n, x, _, _ => rfl
  | fuel + 1, n, x, hf, hl => by
    have hp : predictR (msL o) 0 (cutB (s.extract x.at_ s.size) k).data.toList = o := predL o _ fun b hb => hs b (mem_extract (mem_extract hb))
    have hst : ∃ y : St, stepD gL.2.2 (msL o) s k x = (true, y) ∧ y.failed = false ∧ y.stack.getLast? = some 0 := by
      unfold stepD
      rw [if_neg (by rw [hf]; decide), hl]
      simp only []
      rw [if_neg (by decide), hp, if_neg (by omega)]
      refine ⟨_, rfl, hf, ?_⟩
      rcases ho with rfl | rfl
      · show (x.stack.dropLast ++ [0]).getLast? = some 0
        simp
      · show (x.stack.dropLast ++ [0, 0]).getLast? = some 0
        simp
    obtain ⟨y, hy, hyf, hyl⟩ := hst
    rw [parseD_succ, hy]
    simp only [if_true]
    split
    · rfl
    · exact parseL o ho s hs k fuel (n + 1) y hyf hyl
theorem beginL (o : Int) (ho : o = 0 ∨ o = 1) : beginB gL 1 (msL o) = true := by
  rcases ho with rfl | rfl
  · kernel_rfl
  · kernel_rfl
theorem parseBL (o : Int) (ho : o = 0 ∨ o = 1) (s : ByteArray) (hs : ∀ b ∈ s.data.toList, b = 0) : parseB gL 1 (msL o) s = ([], 0, 21) := by
  unfold parseB
  rw [if_pos (beginL o ho)]
  exact parseL o ho s hs _ _ _ st0 rfl rfl

def liObjs (n : Nat) : List Obj := [.cells #[.string ⟨#[83]⟩] 9, .cells #[.string ⟨#[97]⟩] 9, .cells #[.int .i64 0] 3, .cells #[.int .i64 0, .int .i64 0] 3,
  .cells #[.int .i64 0, .slice (some ⟨n + 2, 0, none⟩) 1 1, .int .i64 0, .slice (some ⟨n + 3, 0, none⟩) 2 2] 26,
  .cells #[.slice (some ⟨n, 0, none⟩) 1 1, .slice (some ⟨n + 1, 0, none⟩) 1 1, .slice (some ⟨n + 4, 0, none⟩) 2 2] 29,
  .cells #[.int .i64 0, .int .i64 0] 31, .cells #[.int .i64 0, .slice (some ⟨n + 6, 0, none⟩) 1 1] 34, .cells #[.slice (some ⟨n + 7, 0, none⟩) 1 1] 35]
def liMore (n : Nat) : List Obj := [.cells #[.int .i64 0, .int .i64 0] 31, .cells #[.int .i64 1, .slice (some ⟨n + 9, 0, none⟩) 1 1] 34, .cells #[.slice (some ⟨n + 10, 0, none⟩) 1 1] 35]
theorem li_gram (w W : World) (hb : w.heap.size + 9 ≤ W.heap.size) (hq : ∀ j o, (liObjs w.heap.size)[j]? = some o → W.heap[w.heap.size + j]? = some o) :
    SlR eStr W W.heap.size (.slice (some ⟨w.heap.size, 0, none⟩) 1 1) gL.1 ∧ SlR eStr W W.heap.size (.slice (some ⟨w.heap.size + 1, 0, none⟩) 1 1) gL.2.1 ∧
    SlR eRule W W.heap.size (.slice (some ⟨w.heap.size + 4, 0, none⟩) 2 2) gL.2.2 := by
  have q0 := hq 0 _ rfl
  have q1 := hq 1 _ rfl
  have q2 := hq 2 _ rfl
  have q3 := hq 3 _ rfl
  have q4 := hq 4 _ rfl
  refine ⟨?_, ?_, ?_⟩
  · exact SlR.row (E := eStr) (B := W.heap.size) (xs := [⟨#[83]⟩]) [[.string ⟨#[83]⟩]] q0 (by omega) rfl ⟨⟨rfl, by decide⟩, trivial⟩ (Nat.le_refl _) (by decide) rfl
  · exact SlR.row (E := eStr) (B := W.heap.size) (xs := [⟨#[97]⟩]) [[.string ⟨#[97]⟩]] q1 (by omega) rfl ⟨⟨rfl, by decide⟩, trivial⟩ (Nat.le_refl _) (by decide) rfl
  · refine SlR.row (E := eRule) (B := W.heap.size) (xs := [(0, [0]), (0, [0, 0])]) [[.int .i64 0, .slice (some ⟨w.heap.size + 2, 0, none⟩) 1 1], [.int .i64 0, .slice (some ⟨w.heap.size + 3, 0, none⟩) 2 2]] q4 (by omega) rfl ⟨eRule_mk (r := (0, [0])) ?_ (by decide) (by decide), eRule_mk (r := (0, [0, 0])) ?_ (by decide) (by decide), trivial⟩ (Nat.le_refl _) (by decide) rfl
    · exact SlR.row (E := eInt) (B := W.heap.size) (xs := [0]) [[.int .i64 0]] q2 (by omega) rfl ⟨⟨rfl, by decide, by decide⟩, trivial⟩ (Nat.le_refl _) (by decide) rfl
    · exact SlR.row (E := eInt) (B := W.heap.size) (xs := [0, 0]) [[.int .i64 0], [.int .i64 0]] q3 (by omega) rfl ⟨⟨rfl, by decide, by decide⟩, ⟨rfl, by decide, by decide⟩, trivial⟩ (Nat.le_refl _) (by decide) rfl
theorem li_mach (W : World) (a : Nat) (o : Int) (ho : o = 0 ∨ o = 1) (hb : a + 3 ≤ W.heap.size) (q0 : W.heap[a]? = some (.cells #[.int .i64 0, .int .i64 0] 31 (0, 0))) (q1 : W.heap[a + 1]? = some (.cells #[.int .i64 o, .slice (some ⟨a, 0, none⟩) 1 1] 34 (0, 0)))
    (q2 : W.heap[a + 2]? = some (.cells #[.slice (some ⟨a + 1, 0, none⟩) 1 1] 35 (0, 0))) : SlR (eSl eState) W W.heap.size (.slice (some ⟨a + 2, 0, none⟩) 1 1) (msL o) := by
  refine SlR.row (E := eSl eState) (B := W.heap.size) (xs := msL o) [[.slice (some ⟨a + 1, 0, none⟩) 1 1]] q2 (by omega) rfl ⟨⟨_, rfl, ?_⟩, trivial⟩ (Nat.le_refl _) (by show 1 ≤ maxLen; decide) rfl
  refine SlR.row (E := eState) (B := W.heap.size) (xs := [(o, [(0, 0)])]) [[.int .i64 o, .slice (some ⟨a, 0, none⟩) 1 1]] q1 (by omega) rfl ⟨eState_mk (r := (o, [(0, 0)])) ?_ (by show _ ≤ o; omega) (by show o ≤ _; omega), trivial⟩ (Nat.le_refl _) (by show 1 ≤ maxLen; decide) rfl
  exact SlR.row (E := eEdge) (B := W.heap.size) (xs := [(0, 0)]) [[.int .i64 0, .int .i64 0]] q0 (by omega) rfl ⟨eEdge_mk (r := (0, 0)) (by decide) (by decide) (by decide) (by decide), trivial⟩ (Nat.le_refl _) (by decide) rfl
end Go.Proofs.Ytkgmdoiadhafeaa
