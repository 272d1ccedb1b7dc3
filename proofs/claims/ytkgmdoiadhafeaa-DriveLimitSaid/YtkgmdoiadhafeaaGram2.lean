/- Walks of gram.fits, gram.Of, gram.distinct[string]. -/
import Derived.Test.YtkgmdoiadhafeaaGram1
import Derived.Test.YtkgmdoiadhafeaaLex
import Derived.Test.YtkgmdoiadhafeaaMap
import Derived.Carry
import Derived.Maps.Own
namespace Go.Proofs.Ytkgmdoiadhafeaa
open Go.RowKit

def badSym (n m : Nat) (s : Int) : Bool := decide ((n : Int) ≤ s) || decide (s < -(m : Int))
theorem fits_clo (g : Nat) (A1 A2 : Option Addr) (n m c d : Nat) (s : Int) (w : World) (h1 : w.cell? ⟨g, 0, none⟩ = some (.slice A1 n c)) (h2 : w.cell? ⟨g, 1, none⟩ = some (.slice A2 m d)) (hm : m ≤ 9223372036854775807) :
    Calls Try.prog 38 #[.int .i64 s, .pointer (some ⟨g, 0, none⟩)] w fun e w' => e = .returned (.bool (badSym n m s)) ∧ w = w' := by
  by_cases hb : (n : Int) ≤ s
  · have hd : decide ((n : Int) ≤ s) = true := by simpa using hb
    go_enter Try.func38, Try.ntmps38
    go_wp2
    go_ret
    exact ⟨rt1 (vbool (by unfold badSym; rw [hd]; rfl)), rfl⟩
  · have hd : decide ((n : Int) ≤ s) = false := by simpa using hb
    have HD := Lib.hid hd
    go_enter Try.func38, Try.ntmps38
    go_wp2
    all_goals
      go_ret
      exact ⟨rt1 (vbool (by rw [Bool.eq_iff_iff]; simp [badSym] <;> omega)), rfl⟩

def fitsB (n m : Nat) (r : Int × List Int) : Bool := decide (0 ≤ r.1 ∧ r.1 < n) && decide (r.2.length ≤ 64) && !r.2.any (badSym n m)
set_option maxHeartbeats 1000000 in
theorem fits_any (A1 A2 : Option Addr) (v3 v : Value) (n m c d : Nat) (l : Int) (r : List Int) (w : World) (hm : m ≤ 9223372036854775807) (hv : SlR eInt w w.heap.size v r) :
    Calls Try.prog 28 #[.agg #[.slice A1 n c, .slice A2 m d, v3], .agg #[.int .i64 l, v]] w fun e w' => e = .returned (.bool (fitsB n m (l, r))) ∧ Below w.heap.size w w' := by
  obtain ⟨B, e, rfl, he1, he2⟩ := hv.form
  unfold maxLen at he2
  by_cases h1 : 0 ≤ l ∧ l < n ∧ r.length ≤ 64
  · obtain ⟨g1, g2, g3⟩ := h1
    have HD : Hid (fitsB n m (l, r) = !r.any (badSym n m)) := by
      show _ = _
      unfold fitsB
      simp [g1, g2, g3]
    go_enter Try.func28, Try.ntmps28
    go_wp2_with fail
    have HW : Hid (∃ W : World, W = (w.alloc (Obj.cells #[Value.slice A1 n c, Value.slice A2 m d, v3] 29)).alloc (Obj.cells #[Value.int IntKind.i64 l, Value.slice B r.length e] 26)) := ⟨_, rfl⟩
    have hbw : Below w.heap.size w ((w.alloc (Obj.cells #[Value.slice A1 n c, Value.slice A2 m d, v3] 29)).alloc (Obj.cells #[Value.int IntKind.i64 l, Value.slice B r.length e] 26)) := by go_grown
    refine (conf_int 38 #[.pointer (some ⟨w.heap.size, 0, none⟩)] (badSym n m) _ r _ (hv.next hbw (by simp; omega)) (fun _ _ => by kernel_rfl) ?_).mono ?_
    · intro cs x w2 hx hb2 _
      refine (fits_clo w.heap.size A1 A2 n m c d x w2 ?_ ?_ hm).mono fun e w3 ⟨he, hw⟩ => ⟨he, hw ▸ Below.refl _ _⟩
      · rw [hb2.cell (p := ⟨w.heap.size, 0, none⟩) (by simp; omega)]; simp
      · rw [hb2.cell (p := ⟨w.heap.size, 1, none⟩) (by simp; omega)]; simp
    rintro e w1 ⟨rfl, hb1⟩
    go_wp2
    go_ret
    exact ⟨rt1 (vbool (by rw [HD.out])), hbw.trans (hb1.mono (by simp; omega))⟩
  · have HD : Hid (fitsB n m (l, r) = false) := by
      show _ = _
      unfold fitsB
      rw [Bool.eq_false_iff]
      intro h
      simp at h
      exact h1 ⟨h.1.1.1, h.1.1.2, h.1.2⟩
    have hc : l < 0 ∨ (0 ≤ l ∧ (n : Int) ≤ l) ∨ (0 ≤ l ∧ l < n ∧ 64 < r.length) := by omega
    rcases hc with h | ⟨h, h'⟩ | ⟨h, h', h''⟩
    all_goals
      go_enter Try.func28, Try.ntmps28
      go_wp2
      all_goals first
        | (exfalso; omega)
        | (exfalso; simp at *; omega)
        | (go_ret; exact ⟨rt1 (vbool (by rw [HD.out])), by go_grown⟩)

/-- the rules, of the first k, of a nonterminal -/
def ofTo (rs : List (Int × List Int)) (left : Int) (k : Nat) : List Int := ((List.range k).filter fun i : Nat => decide ((rs.getD i (0, [])).1 = left)).map fun i : Nat => Int.ofNat i
theorem ofTo_succ (rs : List (Int × List Int)) (left : Int) (k : Nat) (h : k < rs.length) : ofTo rs left (k + 1) = ofTo rs left k ++ if rs[k].1 = left then [(k : Int)] else [] := by
  unfold ofTo
  rw [List.range_succ, List.filter_append, List.map_append]
  simp [List.getD_eq_getElem?_getD, List.getElem?_eq_getElem h, List.filter_cons]
  split <;> simp
theorem ofTo_le (rs : List (Int × List Int)) (left : Int) (k : Nat) : (ofTo rs left k).length ≤ k := by
  unfold ofTo
  rw [List.length_map]
  exact Nat.le_trans (List.length_filter_le _ _) (by simp)
theorem int_app : AppTy Try.prog 24 3 1 8 (.int .i64 0) := appTy Try.underlying24 (by kernel_rfl) rfl (by omega)
def icells (l : List Int) : List Value := l.map (Value.int .i64)
set_option maxHeartbeats 1000000 in
theorem gram_of (A1 A2 : Option Addr) (v3 : Value) (n m c d : Nat) (left : Int) (rs : List (Int × List Int)) (w : World) (hv : SlR eRule w w.heap.size v3 rs) (hr : rs.length ≤ 1099511627776) :
    Calls Try.prog 29 #[.agg #[.slice A1 n c, .slice A2 m d, v3], .int .i64 left] w fun e w' => ∃ v, e = .returned v ∧
      w'.ownsRow w.heap.size 3 1 v (ofTo rs left rs.length).length (icells (ofTo rs left rs.length)) ∧ Below w.heap.size w w' := by
  obtain ⟨B, e, rfl, he1, he2⟩ := hv.form
  unfold maxLen at he2
  go_enter Try.func29, Try.ntmps29
  go_wp2_with fail
  go_loopw [5, 11] (fun v5 v11 wr => ∃ k : Nat, k ≤ rs.length ∧ v11 = .int .i64 k ∧ wr.ownsRow w.heap.size 3 1 v5 (ofTo rs left k).length (icells (ofTo rs left k)) ∧ Below w.heap.size w wr) (fun _ v11 _ => rs.length - (intOf v11).toNat)
  case atStart => exact ⟨0, by omega, rfl, by simpa [ofTo, icells] using World.ownsRow_nil _ _ _ _, by go_grown⟩
  case round =>
    obtain ⟨k, hk, rfl, hown, hbr⟩ := hrel
    by_cases hlt : k < rs.length
    · obtain ⟨ab, ao, cs, rfl, _, hab, hrep, hcell⟩ := (hv.below hbr).get hlt (by decide)
      obtain ⟨u, rfl, hu, hz1, hz2⟩ := eRule_open hrep
      obtain ⟨A3, e3, rfl, _, _⟩ := hu.form
      have hc0 := hcell 0 _ rfl
      have hc1' := hcell 1 _ rfl
      clear hcell
      simp only [show eRule.size = 2 from rfl, Nat.add_zero, ← Nat.add_assoc] at hc0 hc1'
      have hsn := Lib.hid (ofTo_succ rs left k hlt)
      have hle := ofTo_le rs left k
      have hbs := hbr.size
      by_cases hq : rs[k].1 = left
      · have hqb : (rs[k].1 == left) = true := by simp [hq]
        have HQ := Lib.hid hq
        clear hq
        go_wp2_with (at_builtin; refine wpList_app int_app rfl rfl rfl rfl ((hown.alloc _).alloc _) (Rd.row (B := wr.heap.size + 2) (heap_two wr _ _) (by omega)) rfl (by simp [Value.oneCell']) ?h63 ?hby ?hbase ?_)
        case h63 => simp only [maxLen]; omega
        case hby => omega
        case hbase => simp; omega
        intro v1 w3 hown3 hg3 _ _
        go_wp2
        go_roundw
        case rel =>
          refine ⟨k + 1, by omega, by go_num, ?_, ?_⟩
          · rw [hsn.out, if_pos HQ.out]
            simpa [icells] using hown3
          · exact grown_below ((hbr.alloc hbs _).alloc (by simp; omega) _) hg3 ((hown.alloc _).alloc _) (Nat.le_refl _) (by simp; omega)
        case measure => simp [intOf]; omega
      · have hqb : (rs[k].1 == left) = false := by simp [hq]
        have HQ := Lib.hid hq
        clear hq
        go_wp2
        go_roundw
        case rel => exact ⟨k + 1, by omega, by go_num, by rw [hsn.out, if_neg HQ.out, List.append_nil]; exact hown.alloc _, hbr.alloc hbs _⟩
        case measure => simp [intOf]; omega
    · have hkl : k = rs.length := by omega
      subst hkl
      go_wp2
      go_ret
      exact ⟨_, rfl, hown, hbr⟩

/-! distinct -/
def distinctB (may : List UInt8 → Bool) (ns : List ByteArray) : Bool := ns.all (fun s => may s.data.toList) && decide ns.Nodup
def onesOf (ns : List ByteArray) : List (ByteArray × Value) := ns.map fun n => (n, .int .i64 1)
theorem assoc_ones (ns : List ByteArray) (s : ByteArray) : assoc (onesOf ns) s = if ns.any (fun n => decide (n = s)) then some (Value.int .i64 1) else none := by
  unfold assoc onesOf
  induction ns with
  | nil => rfl
  | cons n ns ih =>
    rw [List.map_cons, List.find?_cons]
    by_cases h : n = s
    · subst h; simp
    · simp only [h, decide_false, List.any_cons, Bool.false_or]
      rw [ih]
theorem assocSet_ones (ns : List ByteArray) (s : ByteArray) (v : Value) (h : s ∉ ns) : assocSet (onesOf ns) s v = onesOf ns ++ [(s, v)] := by
  induction ns with
  | nil => rfl
  | cons n ns ih =>
    simp only [List.mem_cons, not_or] at h
    show assocSet ((n, Value.int .i64 1) :: onesOf ns) s v = _
    unfold assocSet
    rw [if_neg (Ne.symm h.1), ih h.2]
    rfl
theorem onesOf_snoc (ns : List ByteArray) (k : Nat) (h : k < ns.length) : onesOf (ns.take (k + 1)) = onesOf (ns.take k) ++ [(ns[k], .int .i64 1)] := by
  rw [List.take_succ_eq_append_getElem h]; unfold onesOf; rw [List.map_append]; rfl
theorem strInt_keys : KeyTy Try.prog 71 9 3 Value.string := keyTy_str Try.underlying71 Try.underlying9
theorem zero_int (w : World) : (zeroValue 3).run Try.prog w = .ok (.int .i64 0) w := by kernel_rfl
end Go.Proofs.Ytkgmdoiadhafeaa
