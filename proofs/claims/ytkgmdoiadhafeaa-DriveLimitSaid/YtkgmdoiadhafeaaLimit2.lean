/- Law 28's DriveLimit: its walk. -/
import Derived.Test.YtkgmdoiadhafeaaLimit1
namespace Go.Proofs.Ytkgmdoiadhafeaa
open Go.RowKit

theorem zeros_of_bat {s : ByteArray} (h : ∀ j : Nat, j < s.size → bat s j = 0) : ∀ b ∈ s.data.toList, b = 0 := by
  intro b hb
  obtain ⟨i, hi, rfl⟩ := List.getElem_of_mem hb
  have hi' : i < s.size := by simpa using hi
  have h1 := bat_list s i hi
  rw [h i hi'] at h1
  apply UInt8.toNat_inj.1
  show _ = 0
  omega
set_option maxRecDepth 100000 in
set_option maxHeartbeats 8000000 in
theorem driveLimit_any (b : Bool) (s : ByteArray) (w : World) (hs : s.size ≤ maxLen) :
    Calls Try.prog 3 #[.bool b, .string s] w fun e w' => e = .returned (.bool true) ∧ Below w.heap.size w w' := by
  unfold maxLen at hs
  have hbt := bat_get s
  obtain ⟨W, hW⟩ : ∃ W, W = (liObjs w.heap.size).foldl World.alloc w := ⟨_, rfl⟩
  have hsW : W.heap.size = w.heap.size + 9 := by rw [hW, size_many]; rfl
  have hbW : Below w.heap.size w W := hW ▸ below_many _ w (Below.refl _ _) (Nat.le_refl _)
  have hqW : ∀ j o, (liObjs w.heap.size)[j]? = some o → W.heap[w.heap.size + j]? = some o := fun j o h => by rw [hW]; exact heap_many _ w j o h
  by_cases h100 : s.size ≤ 100
  case neg =>
    go_enter Try.func3, Try.ntmps3
    go_wp2_with fail
    refine (awake_any w).mono ?_
    rintro e w1 ⟨rfl, hb1⟩
    go_wp2
    go_ret
    exact ⟨rfl, hb1⟩
  cases b
  · obtain ⟨g1, g2, g3⟩ := li_gram w W (by omega) hqW
    have g4 := li_mach W (w.heap.size + 6) 0 (.inl rfl) (by omega) (hqW 6 _ rfl) (hqW 7 _ rfl) (hqW 8 _ rfl)
    have HPA := Lib.hid (fun hz => parseBL 0 (.inl rfl) s hz)
    have HP := Lib.hid (parse_any _ _ _ _ gL 1 (msL 0) s W (by decide) (by omega) g1 g2 g3 g4)
    clear g1 g2 g3 g4
    go_enter Try.func3, Try.ntmps3
    go_wp2_with fail
    go_loop [7] (fun v => ∃ i : Nat, i ≤ s.size ∧ v = .int .i64 i ∧ Hid (∀ j : Nat, j < i → bat s j = 0)) (fun v => s.size - (intOf v).toNat)
    case atStart => exact ⟨0, by omega, rfl, fun j hj => absurd hj (by omega)⟩
    case round =>
      obtain ⟨i, hi, rfl, hz⟩ := hrel
      by_cases hlt : i < s.size
      · by_cases hq : bat s i = 0
        · have hqb : (bat s i != 0) = false := by simp [hq]
          have HQ := Lib.hid hq
          clear hq
          go_wp2_with fail
          go_round
          case rel => exact ⟨i + 1, by omega, by go_num, fun j hj => by by_cases e : j = i; (subst e; exact HQ.out); exact hz.out j (by omega)⟩
          case measure => simp [intOf]; omega
        · have hqb : (bat s i != 0) = true := by simp [hq]
          clear hq
          go_wp2_with fail
          refine (awake_any _).mono ?_
          rintro e w1 ⟨rfl, hb1⟩
          go_wp2
          go_ret
          exact ⟨rfl, Below.trans (by go_grown) (hb1.mono (by simp; omega))⟩
      have hall : Hid (parseB gL 1 (msL 0) s = ([], 0, 21)) := HPA.out (zeros_of_bat fun j hj => hz.out j (by omega))
      go_wp2_with fail
      change Calls _ _ _ ((liObjs w.heap.size).foldl World.alloc w) _
      rw [← hW]
      refine HP.out.mono ?_
      rintro e w1 ⟨v, rfl, hown, hb1, _⟩
      rw [hall.out] at hown ⊢
      obtain ⟨A5, c5, rfl, _, _⟩ := own_form hown
      have hs1 := hb1.size
      go_wp2_with fail
      refine (awake_any w1).mono ?_
      rintro e w2 ⟨rfl, hb2⟩
      go_wp2
      go_ret
      exact ⟨rfl, (hbW.trans (hb1.mono (by omega))).trans (hb2.mono (by omega))⟩
  · obtain ⟨V, hV⟩ : ∃ V, V = (liMore w.heap.size).foldl World.alloc W := ⟨_, rfl⟩
    have hsV : V.heap.size = w.heap.size + 12 := by rw [hV, size_many, hsW]; rfl
    have hbV : Below w.heap.size w V := hV ▸ below_many _ W hbW (by omega)
    have hqV : ∀ j o, (liObjs w.heap.size)[j]? = some o → V.heap[w.heap.size + j]? = some o := fun j o h => by
      have hj : j < 9 := (List.getElem?_eq_some_iff.1 h).1
      rw [hV, old_many _ W _ (by omega)]
      exact hqW j o h
    have hqM : ∀ j o, (liMore w.heap.size)[j]? = some o → V.heap[w.heap.size + 9 + j]? = some o := fun j o h => by rw [hV, ← hsW]; exact heap_many _ W j o h
    obtain ⟨g1, g2, g3⟩ := li_gram w V (by omega) hqV
    have g4 := li_mach V (w.heap.size + 9) 1 (.inr rfl) (by omega) (hqM 0 _ rfl) (hqM 1 _ rfl) (hqM 2 _ rfl)
    have HPA := Lib.hid (fun hz => parseBL 1 (.inr rfl) s hz)
    have HP := Lib.hid (parse_any _ _ _ _ gL 1 (msL 1) s V (by decide) (by omega) g1 g2 g3 g4)
    clear g1 g2 g3 g4
    go_enter Try.func3, Try.ntmps3
    go_wp2_with fail
    go_loop [7] (fun v => ∃ i : Nat, i ≤ s.size ∧ v = .int .i64 i ∧ Hid (∀ j : Nat, j < i → bat s j = 0)) (fun v => s.size - (intOf v).toNat)
    case atStart => exact ⟨0, by omega, rfl, fun j hj => absurd hj (by omega)⟩
    case round =>
      obtain ⟨i, hi, rfl, hz⟩ := hrel
      by_cases hlt : i < s.size
      · by_cases hq : bat s i = 0
        · have hqb : (bat s i != 0) = false := by simp [hq]
          have HQ := Lib.hid hq
          clear hq
          go_wp2_with fail
          go_round
          case rel => exact ⟨i + 1, by omega, by go_num, fun j hj => by by_cases e : j = i; (subst e; exact HQ.out); exact hz.out j (by omega)⟩
          case measure => simp [intOf]; omega
        · have hqb : (bat s i != 0) = true := by simp [hq]
          clear hq
          go_wp2_with fail
          refine (awake_any _).mono ?_
          rintro e w1 ⟨rfl, hb1⟩
          go_wp2
          go_ret
          exact ⟨rfl, Below.trans (by go_grown) (hb1.mono (by simp; omega))⟩
      have hall : Hid (parseB gL 1 (msL 1) s = ([], 0, 21)) := HPA.out (zeros_of_bat fun j hj => hz.out j (by omega))
      go_wp2_with fail
      change Calls _ _ _ ((liMore w.heap.size).foldl World.alloc ((liObjs w.heap.size).foldl World.alloc w)) _
      rw [← hW, ← hV]
      refine HP.out.mono ?_
      rintro e w1 ⟨v, rfl, hown, hb1, _⟩
      rw [hall.out] at hown ⊢
      obtain ⟨A5, c5, rfl, _, _⟩ := own_form hown
      have hs1 := hb1.size
      go_wp2_with fail
      refine (awake_any w1).mono ?_
      rintro e w2 ⟨rfl, hb2⟩
      go_wp2
      go_ret
      exact ⟨rfl, (hbV.trans (hb1.mono (by omega))).trans (hb2.mono (by omega))⟩
end Go.Proofs.Ytkgmdoiadhafeaa
