/- []byte of a string: the new row. No program is named here. -/
import Derived.Test.YtkgmdoiadhafeaaRep
import Derived.Laws.IdiomStrings
namespace Go.Proofs.Ytkgmdoiadhafeaa
open Go.RowKit

theorem bytesRow_take (s : ByteArray) (c : Nat) : ∀ (j : Nat) (u : Value), (bcells s.data.toList)[j]? = some u → (bytesRow s c)[j]? = some u := by
  intro j u hu
  have hj : j < s.data.size := by
    have := (List.getElem?_eq_some_iff.1 hu).1
    rw [bcells_length] at this
    simpa using this
  rw [bytesRow_at s c j hj]
  unfold bcells at hu
  rw [List.getElem?_map, List.getElem?_eq_getElem (by simpa using hj)] at hu
  simpa [bcell] using hu
theorem conv_own {P : Program} (w : World) (src dst e : TypeId) (s : ByteArray) (hs : P.underlying src = some .string) (hd : P.underlying dst = some (.slice e)) (he : P.underlying e = some (.int .u8)) :
    ∃ w' c, (convert src dst (.string s)).run P w = .ok (.slice (some ⟨w.heap.size, 0, none⟩) s.size c) w' ∧ Below w.heap.size w w' ∧ w'.heap.size = w.heap.size + 1 ∧ Rd w' (w.heap.size + 1) (some ⟨w.heap.size, 0, none⟩) (bcells s.data.toList) := by
  refine ⟨_, _, run_bytes_of_string w src dst e s hs hd he, ((Below.refl _ _).drew).alloc (Nat.le_refl _) _, by simp, ?_⟩
  have hcell := Rd.row (w := w.drew.alloc (.cells (bytesRow s (grownCap w s.size 0 e)) e ((bytesRow s (grownCap w s.size 0 e)).size, (bytesRow s (grownCap w s.size 0 e)).size + 1))) (B := w.heap.size + 1) (g := w.heap.size) (heap_alloc_new w.drew _) (Nat.lt_succ_self _)
  intro hne
  obtain ⟨b, off, e1, hb, hc⟩ := hcell (by
    intro e1
    cases hl : bcells s.data.toList with
    | nil => exact hne hl
    | cons u r =>
      have := bytesRow_take s (grownCap w s.size 0 e) 0 u (by rw [hl]; rfl)
      rw [← Array.getElem?_toList, e1] at this
      cases this)
  refine ⟨b, off, e1, hb, fun j u hu => hc j u ?_⟩
  rw [Array.getElem?_toList]
  exact bytesRow_take s _ j u hu
theorem Rd.fut {w w' : World} {B B' N : Nat} {A : Option Addr} {xs : List Value} (h : Rd w B A xs) (hb : Below N w w') (h1 : B ≤ N) (h2 : B ≤ B') : Rd w' B' A xs := (h.below (hb.mono h1)).more h2
end Go.Proofs.Ytkgmdoiadhafeaa
