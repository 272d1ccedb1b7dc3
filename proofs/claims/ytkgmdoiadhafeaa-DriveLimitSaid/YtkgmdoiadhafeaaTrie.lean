/- Walks of trie.Step, trie.Run, ladfa.Predict, word.Cut. -/
import Derived.Test.YtkgmdoiadhafeaaSlEdge
import Derived.Test.YtkgmdoiadhafeaaConv
namespace Go.Proofs.Ytkgmdoiadhafeaa
open Go.RowKit

abbrev Mach := List (Int × List (Int × Int))
/-- a state: what it tells, its edges -/
def eState : Elt (Int × List (Int × Int)) := eProd eInt (eSl eEdge)
theorem eState_open {w : World} {B : Nat} {cs : List Value} {r : Int × List (Int × Int)} (h : eState.rep w B cs r) : ∃ v, cs = [.int .i64 r.1, v] ∧ SlR eEdge w B v r.2 ∧ -9223372036854775808 ≤ r.1 ∧ r.1 ≤ 9223372036854775807 := by
  obtain ⟨c1, c2, rfl, ⟨rfl, h1, h2⟩, v, rfl, hs⟩ := h
  exact ⟨v, rfl, hs, h1, h2⟩
theorem eEdge_open {w : World} {B : Nat} {cs : List Value} {r : Int × Int} (h : eEdge.rep w B cs r) : cs = [.int .i64 r.1, .int .i64 r.2] ∧ -9223372036854775808 ≤ r.1 ∧ r.1 ≤ 9223372036854775807 ∧ -9223372036854775808 ≤ r.2 ∧ r.2 ≤ 9223372036854775807 := by
  obtain ⟨c1, c2, rfl, ⟨rfl, h1, h2⟩, rfl, h3, h4⟩ := h
  exact ⟨rfl, h1, h2, h3, h4⟩
theorem idxOf_find {α : Type} (p : α → Bool) (xs : List α) : (idxOf p xs = -1 ∧ xs.find? p = none) ∨ ∃ (j : Nat) (h : j < xs.length), idxOf p xs = j ∧ xs.find? p = some xs[j] := by
  unfold idxOf
  cases h : xs.findIdx? p with
  | none =>
    left
    rw [List.findIdx?_eq_none_iff] at h
    exact ⟨rfl, List.find?_eq_none.2 fun x hx => by simp [h x hx]⟩
  | some i =>
    right
    rw [List.findIdx?_eq_some_iff_getElem] at h
    obtain ⟨h1, h2, h3⟩ := h
    refine ⟨i, h1, rfl, ?_⟩
    rw [List.find?_eq_some_iff_getElem]
    exact ⟨h2, i, h1, rfl, fun j hj => by simpa using h3 j hj⟩
/-- a step of a machine -/
def stepM (m : Mach) (k : Nat) (sym : Int) : Option Nat := match (m.getD k (0, [])).2.find? (fun e => decide (e.1 = sym)) with
  | some e => if 0 ≤ e.2 ∧ e.2 < m.length then some e.2.toNat else none
  | none => none
theorem stepM_lt {m : Mach} {k : Nat} {sym : Int} {j : Nat} (h : stepM m k sym = some j) : j < m.length := by
  unfold stepM at h
  split at h
  · split at h
    · cases h; omega
    · cases h
  · cases h
theorem step_clo (g : Nat) (cs : List Value) (x : Int × Int) (sym : Int) (B : Nat) (w : World) (hx : eEdge.rep w B cs x) (hc : w.cell? ⟨g, 0, none⟩ = some (.int .i64 sym)) :
    Calls Try.prog 47 #[.agg cs.toArray, .pointer (some ⟨g, 0, none⟩)] w fun e w' => e = .returned (.bool (decide (x.1 = sym))) ∧ Below w.heap.size w w' := by
  obtain ⟨rfl, h1, h2, h3, h4⟩ := eEdge_open hx
  have hg := World.block_lt_of_cell? w _ hc
  simp only at hg
  go_enter Try.func47, Try.ntmps47
  go_wp2
  go_ret
  exact ⟨rt1 (vbool (by rw [Bool.eq_iff_iff]; simp)), by go_grown⟩
def stepR (o : Option Nat) : Value := match o with | some j => .tuple #[.int .i64 j, .bool true] | none => .tuple #[.int .i64 0, .bool false]
set_option maxHeartbeats 1000000 in
theorem trie_step (v : Value) (m : Mach) (k : Nat) (sym : Int) (w : World) (hv : SlR eState w w.heap.size v m) (hk : k < m.length) :
    Calls Try.prog 42 #[v, .int .i64 k, .int .i64 sym] w fun e w' => e = .returned (stepR (stepM m k sym)) ∧ Below w.heap.size w w' := by
  obtain ⟨A, c, rfl, hc1, hc2⟩ := hv.form
  unfold maxLen at hc2
  obtain ⟨ab, ao, cs, rfl, _, hab, hrep, hcell⟩ := hv.get hk (by decide)
  obtain ⟨u, rfl, hu, hz1, hz2⟩ := eState_open hrep
  obtain ⟨A4, e4, rfl, he1, he2⟩ := hu.form
  unfold maxLen at he2
  have hc0 := hcell 0 _ rfl
  have hc1' := hcell 1 _ rfl
  clear hcell
  simp only [show eState.size = 2 from rfl, Nat.add_zero, ← Nat.add_assoc] at hc0 hc1'
  have HSP : Hid (stepM m k sym = match m[k].2.find? (fun e => decide (e.1 = sym)) with | some e => if 0 ≤ e.2 ∧ e.2 < m.length then some e.2.toNat else none | none => none) := by
    show _ = _
    unfold stepM
    rw [List.getD_eq_getElem?_getD, List.getElem?_eq_getElem hk]
    rfl
  go_enter Try.func42, Try.ntmps42
  go_wp2_with fail
  have hbw : Below w.heap.size w (w.alloc (Obj.cells #[Value.int IntKind.i64 sym] 3)) := (Below.refl _ _).alloc (Nat.le_refl _) _
  refine (idxf_edge 47 #[.pointer (some ⟨w.heap.size, 0, none⟩)] (fun e => decide (e.1 = sym)) _ m[k].2 _ (hu.next hbw (by simp)) (fun _ _ => by kernel_rfl) ?_).mono ?_
  · intro cs x w2 _ hb2 hx
    refine step_clo w.heap.size cs x sym _ w2 hx ?_
    rw [hb2.cell (p := ⟨w.heap.size, 0, none⟩) (by simp)]
    simp
  rintro e w1 ⟨rfl, hb1⟩
  have hb : Below w.heap.size w w1 := hbw.trans (hb1.mono (by simp))
  have hd0 := (hb.cell (p := ⟨ab, ao + k * 2 + 1, none⟩) hab).trans hc1'
  have hu1 := hu.below hb
  clear hc0 hc1' hu
  rcases idxOf_find (fun e : Int × Int => decide (e.1 = sym)) m[k].2 with ⟨h1, h2⟩ | ⟨j, hj, h1, h2⟩
  · have H2 := Lib.hid h2
    rw [h1]
    clear h1 h2
    go_wp2_with fail
    go_ret2
    exact ⟨by rw [HSP.out, H2.out]; rfl, hb⟩
  · have H2 := Lib.hid h2
    rw [h1]
    clear h1 h2
    obtain ⟨eb, eo, es, rfl, _, heb, hrep2, hcell⟩ := hu1.get hj (by decide)
    obtain ⟨rfl, q1, q2, q3, q4⟩ := eEdge_open hrep2
    have hd1 := hcell 1 _ rfl
    clear hcell
    simp only [show eEdge.size = 2 from rfl, ← Nat.add_assoc] at hd1
    have hcs : m[k].2[j].2 < 0 ∨ (0 ≤ m[k].2[j].2 ∧ (m.length : Int) ≤ m[k].2[j].2) ∨ (0 ≤ m[k].2[j].2 ∧ m[k].2[j].2 < m.length) := by omega
    rcases hcs with h | ⟨h, h'⟩ | ⟨h, h'⟩
    · have HN := Lib.hid (show ¬ (0 ≤ m[k].2[j].2 ∧ m[k].2[j].2 < m.length) by omega)
      go_wp2_with fail
      all_goals first
        | (exfalso; omega)
        | (go_ret2; exact ⟨by rw [HSP.out, H2.out]; show _ = Ending.returned (stepR (if _ then _ else _)); rw [if_neg HN.out]; rfl, hb⟩)
    · have HN := Lib.hid (show ¬ (0 ≤ m[k].2[j].2 ∧ m[k].2[j].2 < m.length) by omega)
      go_wp2_with fail
      all_goals first
        | (exfalso; omega)
        | (go_ret2; exact ⟨by rw [HSP.out, H2.out]; show _ = Ending.returned (stepR (if _ then _ else _)); rw [if_neg HN.out]; rfl, hb⟩)
    · have HN := Lib.hid (show (0 ≤ m[k].2[j].2 ∧ m[k].2[j].2 < m.length) from ⟨h, h'⟩)
      have HT := Lib.hid (show ((m[k].2[j].2.toNat : Nat) : Int) = m[k].2[j].2 by omega)
      go_wp2_with fail
      all_goals first
        | (exfalso; omega)
        | (go_ret2; exact ⟨by rw [HSP.out, H2.out]; show _ = Ending.returned (stepR (if _ then _ else _)); rw [if_pos HN.out]; show _ = Ending.returned (Value.tuple #[Value.int .i64 ((_ : Nat) : Int), _]); rw [HT.out]; rfl, hb⟩)

/-- the state behind a word -/
def runS (m : Mach) : Nat → List UInt8 → Option Nat
  | k, [] => some k
  | k, b :: r => match stepM m k (b.toNat : Int) with | some j => runS m j r | none => none
/-- what a machine tells of a word -/
def runM (m : Mach) (l : List UInt8) : Int := if m = [] then -1 else match runS m 0 l with | some k => (m.getD k (0, [])).1 | none => -1

theorem runS_lt {m : Mach} : ∀ {l : List UInt8} {k j : Nat}, k < m.length → runS m k l = some j → j < m.length
  | [], k, j, hk, h => by unfold runS at h; cases h; exact hk
  | b :: r, k, j, hk, h => by
    unfold runS at h
    split at h
    · rename_i i hi; exact runS_lt (stepM_lt hi) h
    · cases h
set_option maxHeartbeats 1000000 in
theorem trie_run (v : Value) (m : Mach) (s : ByteArray) (w : World) (hv : SlR eState w w.heap.size v m) (hs : s.size ≤ 1099511627776) :
    Calls Try.prog 31 #[v, .string s] w fun e w' => e = .returned (.int .i64 (runM m s.data.toList)) ∧ Below w.heap.size w w' := by
  obtain ⟨A, c, rfl, hc1, hc2⟩ := hv.form
  unfold maxLen at hc2
  by_cases h0 : m.length = 0
  · have hz : ((m.length : Int) == 0) = true := by simp only [h0]; rfl
    have HZ := Lib.hid (List.eq_nil_of_length_eq_zero h0)
    clear h0
    go_enter Try.func31, Try.ntmps31
    go_wp2_with fail
    go_ret
    exact ⟨rt1 (vint (by rw [HZ.out]; rfl)), Below.refl _ _⟩
  have hz : ((m.length : Int) == 0) = false := by rw [beq_eq_false_iff_ne]; omega
  have HNE := Lib.hid (show m ≠ [] by intro e; subst e; exact h0 rfl)
  obtain ⟨W, cw, hcv, hbW, hsW, hrd⟩ := conv_own (P := Try.prog) w 9 78 5 s Try.underlying9 Try.underlying78 Try.underlying5
  go_enter Try.func31, Try.ntmps31
  go_wp2_with fail
  have hlen : s.data.toList.length = s.size := by simp
  go_loopw [5, 15] (fun v5 v15 wr => ∃ k i : Nat, k < m.length ∧ i ≤ s.size ∧ v5 = .int .i64 k ∧ v15 = .int .i64 i ∧ Hid (runS m 0 s.data.toList = runS m k (s.data.toList.drop i)) ∧ Below (w.heap.size + 1) W wr) (fun _ v15 _ => s.size - (intOf v15).toNat)
  case atStart => exact ⟨0, 0, by omega, by omega, rfl, rfl, rfl, Below.refl _ _⟩
  case round =>
    obtain ⟨k, i, hk, hi, rfl, rfl, hrun, hbr⟩ := hrel
    have hbr0 := hbW.trans (hbr.mono (Nat.le_succ _))
    have hsz := hbr.size
    by_cases hlt : i < s.size
    · have hil : i < s.data.toList.length := by omega
      obtain ⟨bb, bo, hbe, hbb, hcb⟩ := (hrd.below hbr).byte hil
      injection hbe with hbe
      injection hbe with e1 e2
      subst e1 e2
      rw [Nat.zero_add] at hcb
      have HD : Hid (runS m k (s.data.toList.drop i) = match stepM m k (s.data.toList[i].toNat : Int) with | some j => runS m j (s.data.toList.drop (i + 1)) | none => none) := by
        show _ = _
        rw [List.drop_eq_getElem_cons hil]
        rfl
      have hx1 := s.data.toList[i].toNat_lt
      obtain ⟨x, hx, hx2, hx3⟩ : ∃ x : Int, ((s.data.toList[i].toNat : Nat) : Int) = x ∧ 0 ≤ x ∧ x < 256 := ⟨_, rfl, by omega, by omega⟩
      rw [hx] at hcb HD
      clear hx hx1
      go_wp2_with fail
      refine (trie_step _ m k x wr (hv.next hbr0 (by omega)) hk).mono ?_
      rintro e w1 ⟨rfl, hb1⟩
      cases hst : stepM m k x with
      | none =>
        have HS := Lib.hid hst
        clear hst
        simp only [stepR]
        go_wp2
        go_ret
        refine ⟨rt1 (vint ?_), hbr0.trans (hb1.mono (by omega))⟩
        unfold runM
        rw [if_neg HNE.out, hrun.out, HD.out, HS.out]
      | some j =>
        have HS := Lib.hid hst
        have hj := stepM_lt hst
        clear hst
        simp only [stepR]
        go_wp2
        go_roundw
        case rel => exact ⟨j, i + 1, hj, by omega, rfl, by go_num, by show _ = _; rw [hrun.out, HD.out, HS.out], hbr.trans (hb1.mono (by omega))⟩
        case measure => simp [intOf]; omega
    · obtain ⟨ab, ao, cs, rfl, _, hab, hrep, hcell⟩ := (hv.below hbr0).get hk (by decide)
      obtain ⟨u, rfl, hu, hz1, hz2⟩ := eState_open hrep
      have hc0 := hcell 0 _ rfl
      clear hcell
      simp only [show eState.size = 2 from rfl, Nat.add_zero] at hc0
      have HE : Hid (runS m 0 s.data.toList = some k) := by
        show _ = _
        rw [hrun.out, List.drop_eq_nil_of_le (by omega)]
        rfl
      have HG : Hid ((m.getD k (0, [])).1 = m[k].1) := by
        show _ = _
        rw [List.getD_eq_getElem?_getD, List.getElem?_eq_getElem hk]
        rfl
      go_wp2
      go_ret
      refine ⟨rt1 (vint ?_), hbr0⟩
      unfold runM
      rw [if_neg HNE.out, HE.out]
      exact HG.out.symm
end Go.Proofs.Ytkgmdoiadhafeaa
