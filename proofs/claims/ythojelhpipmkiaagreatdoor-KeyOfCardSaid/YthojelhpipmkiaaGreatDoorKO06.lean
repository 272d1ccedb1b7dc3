/- Texts of this proof joined: Gram2, Gram3, Rf14c, CanonW2, Can1. -/
import Derived.Test.YthojelhpipmkiaaGreatDoorKO05
import Derived.Carry
import Derived.Maps.Own
import Derived.Test.YthojelhpipmkiaaGreatDoorKO01
import Derived.Test.YthojelhpipmkiaaGreatDoorShelf
import Derived.Deep.LoopGhost
namespace Go.Proofs.YthojelhpipmkiaaGreatDoor
open Go.RowKit

def badSym (n m : Nat) (s : Int) : Bool := decide ((n : Int) ≤ s) || decide (s < -(m : Int))
theorem fits_clo (g : Nat) (A1 A2 : Option Addr) (n m c d : Nat) (s : Int) (w : World) (h1 : w.cell? ⟨g, 0, none⟩ = some (.slice A1 n c)) (h2 : w.cell? ⟨g, 1, none⟩ = some (.slice A2 m d)) (hm : m ≤ 9223372036854775807) :
  Calls Tryz.prog 58 #[.int .i64 s, .pointer (some ⟨g, 0, none⟩)] w fun e w' => e = .returned (.bool (badSym n m s)) ∧ w = w' := by
 by_cases hb : (n : Int) ≤ s
 ·have hd : decide ((n : Int) ≤ s) = true := by simpa using hb
  go_enter Tryz.func58, Tryz.ntmps58
  go_wp2
  go_ret
  exact ⟨rt1 (vbool (by unfold badSym; rw [hd]; rfl)), rfl⟩
 ·have hd : decide ((n : Int) ≤ s) = false := by simpa using hb
  have HD := Lib.hid hd
  go_enter Tryz.func58, Tryz.ntmps58
  go_wp2
  all_goals
   go_ret
   exact ⟨rt1 (vbool (by rw [Bool.eq_iff_iff]; simp [badSym] <;> omega)), rfl⟩

def fitsB (n m : Nat) (r : Int × List Int) : Bool := decide (0 ≤ r.1 ∧ r.1 < n) && decide (r.2.length ≤ 64) && !r.2.any (badSym n m)
set_option maxHeartbeats 1000000 in
theorem fits_any (A1 A2 : Option Addr) (v3 v : Value) (n m c d : Nat) (l : Int) (r : List Int) (w : World) (hm : m ≤ 9223372036854775807) (hv : SlR eInt w w.heap.size v r) :
  Calls Tryz.prog 27 #[.agg #[.slice A1 n c, .slice A2 m d, v3], .agg #[.int .i64 l, v]] w fun e w' => e = .returned (.bool (fitsB n m (l, r))) ∧ Below w.heap.size w w' := by
 obtain ⟨B, e, rfl, he1, he2⟩ := hv.form
 unfold maxLen at he2
 by_cases h1 : 0 ≤ l ∧ l < n ∧ r.length ≤ 64
 ·obtain ⟨g1, g2, g3⟩ := h1
  have HD : Hid (fitsB n m (l, r) = !r.any (badSym n m)) := by
   show _ = _
   unfold fitsB
   simp [g1, g2, g3]
  go_enter Tryz.func27, Tryz.ntmps27
  go_wp2_with fail
  have HW : Hid (∃ W : World, W = (w.alloc (Obj.cells #[Value.slice A1 n c, Value.slice A2 m d, v3] 25)).alloc (Obj.cells #[Value.int IntKind.i64 l, Value.slice B r.length e] 36)) := ⟨_, rfl⟩
  have hbw : Below w.heap.size w ((w.alloc (Obj.cells #[Value.slice A1 n c, Value.slice A2 m d, v3] 25)).alloc (Obj.cells #[Value.int IntKind.i64 l, Value.slice B r.length e] 36)) := by go_grown
  refine (conf_int 58 #[.pointer (some ⟨w.heap.size, 0, none⟩)] (badSym n m) _ r _ (hv.next hbw (by simp; omega)) (fun _ _ => by kernel_rfl) ?_).mono ?_
  ·intro cs x w2 hx hb2 _
   refine (fits_clo w.heap.size A1 A2 n m c d x w2 ?_ ?_ hm).mono fun e w3 ⟨he, hw⟩ => ⟨he, hw ▸ Below.refl _ _⟩
   ·rw [hb2.cell (p := ⟨w.heap.size, 0, none⟩) (by simp; omega)]; simp
   ·rw [hb2.cell (p := ⟨w.heap.size, 1, none⟩) (by simp; omega)]; simp
  rintro e w1 ⟨rfl, hb1⟩
  go_wp2
  go_ret
  exact ⟨rt1 (vbool (by rw [HD.out])), hbw.trans (hb1.mono (by simp; omega))⟩
 ·have HD : Hid (fitsB n m (l, r) = false) := by
   show _ = _
   unfold fitsB
   rw [Bool.eq_false_iff]
   intro h
   simp at h
   exact h1 ⟨h.1.1.1, h.1.1.2, h.1.2⟩
  have hc : l < 0 ∨ (0 ≤ l ∧ (n : Int) ≤ l) ∨ (0 ≤ l ∧ l < n ∧ 64 < r.length) := by omega
  rcases hc with h | ⟨h, h'⟩ | ⟨h, h', h''⟩
  all_goals
   go_enter Tryz.func27, Tryz.ntmps27
   go_wp2
   all_goals first
    |(exfalso; omega)
    |(exfalso; simp at *; omega)
    |(go_ret; exact ⟨rt1 (vbool (by rw [HD.out])), by go_grown⟩)

def ofTo (rs : List (Int × List Int)) (left : Int) (k : Nat) : List Int := ((List.range k).filter fun i : Nat => decide ((rs.getD i (0, [])).1 = left)).map fun i : Nat => Int.ofNat i
theorem ofTo_succ (rs : List (Int × List Int)) (left : Int) (k : Nat) (h : k < rs.length) : ofTo rs left (k + 1) = ofTo rs left k ++ if rs[k].1 = left then [(k : Int)] else [] := by
 unfold ofTo
 rw [List.range_succ, List.filter_append, List.map_append]
 simp [List.getD_eq_getElem?_getD, List.getElem?_eq_getElem h, List.filter_cons]
 split <;> simp
theorem ofTo_le (rs : List (Int × List Int)) (left : Int) (k : Nat) : (ofTo rs left k).length ≤ k := by
 unfold ofTo
 rw [List.length_map]
 exact Nat.le_trans (List.length_filter_le _ _) (by simp)
theorem int_app : AppTy Tryz.prog 34 3 1 8 (.int .i64 0) := appTy Tryz.underlying34 (by kernel_rfl) rfl (by omega)
def icells (l : List Int) : List Value := l.map (Value.int .i64)
set_option maxHeartbeats 1000000 in
theorem gram_of (A1 A2 : Option Addr) (v3 : Value) (n m c d : Nat) (left : Int) (rs : List (Int × List Int)) (w : World) (hv : SlR eRule w w.heap.size v3 rs) (hr : rs.length ≤ 1099511627776) :
  Calls Tryz.prog 28 #[.agg #[.slice A1 n c, .slice A2 m d, v3], .int .i64 left] w fun e w' => ∃ v, e = .returned v ∧
   w'.ownsRow w.heap.size 3 1 v (ofTo rs left rs.length).length (icells (ofTo rs left rs.length)) ∧ Below w.heap.size w w' := by
 obtain ⟨B, e, rfl, he1, he2⟩ := hv.form
 unfold maxLen at he2
 go_enter Tryz.func28, Tryz.ntmps28
 go_wp2_with fail
 go_loopw [5, 11] (fun v5 v11 wr => ∃ k : Nat, k ≤ rs.length ∧ v11 = .int .i64 k ∧ wr.ownsRow w.heap.size 3 1 v5 (ofTo rs left k).length (icells (ofTo rs left k)) ∧ Below w.heap.size w wr) (fun _ v11 _ => rs.length - (intOf v11).toNat)
 case atStart => exact ⟨0, by omega, rfl, by simpa [ofTo, icells] using World.ownsRow_nil _ _ _ _, by go_grown⟩
 case round =>
  obtain ⟨k, hk, rfl, hown, hbr⟩ := hrel
  by_cases hlt : k < rs.length
  ·obtain ⟨ab, ao, cs, rfl, _, hab, hrep, hcell⟩ := (hv.below hbr).get hlt (by decide)
   obtain ⟨u, rfl, hu, hz1, hz2⟩ := eRule_open hrep
   obtain ⟨A3, e3, rfl, _, _⟩ := hu.form
   have hc0 := hcell 0 _ rfl
   have hc1' := hcell 1 _ rfl
   clear hcell
   simp only [show eRule.size = 2 from rfl, Nat.add_zero, ← Nat.add_assoc] at hc0 hc1'
   have hsn := Lib.hid (ofTo_succ rs left k hlt)
   have hle := ofTo_le rs left k
   have hbs := hbr.size
   by_cases hq : rs[k].1 = left
   ·have hqb : (rs[k].1 == left) = true := by simp [hq]
    have HQ := Lib.hid hq
    clear hq
    go_wp2_with (at_builtin; refine wpList_app int_app rfl rfl rfl rfl ((hown.alloc _).alloc _) (Rd.row (B := wr.heap.size + 2) (heap_two wr _ _) (by omega)) rfl (by simp [Value.oneCell']) ?h63 ?hby ?hbase ?_)
    case h63 => simp only [maxLen]; omega
    case hby => omega
    case hbase => simp; omega
    intro v1 w3 hown3 hg3 _ _
    go_wp2
    go_roundw
    case rel =>
     refine ⟨k + 1, by omega, by go_num, ?_, ?_⟩
     ·rw [hsn.out, if_pos HQ.out]
      simpa [icells] using hown3
     ·exact grown_below ((hbr.alloc hbs _).alloc (by simp; omega) _) hg3 ((hown.alloc _).alloc _) (Nat.le_refl _) (by simp; omega)
    case measure => simp [intOf]; omega
   ·have hqb : (rs[k].1 == left) = false := by simp [hq]
    have HQ := Lib.hid hq
    clear hq
    go_wp2
    go_roundw
    case rel => exact ⟨k + 1, by omega, by go_num, by rw [hsn.out, if_neg HQ.out, List.append_nil]; exact hown.alloc _, hbr.alloc hbs _⟩
    case measure => simp [intOf]; omega
  ·have hkl : k = rs.length := by omega
   subst hkl
   go_wp2
   go_ret
   exact ⟨_, rfl, hown, hbr⟩

def distinctB (may : List UInt8 → Bool) (ns : List ByteArray) : Bool := ns.all (fun s => may s.data.toList) && decide ns.Nodup
def onesOf (ns : List ByteArray) : List (ByteArray × Value) := ns.map fun n => (n, .int .i64 1)
theorem assoc_ones (ns : List ByteArray) (s : ByteArray) : assoc (onesOf ns) s = if ns.any (fun n => decide (n = s)) then some (Value.int .i64 1) else none := by
 unfold assoc onesOf
 induction ns with
 |nil => rfl
 |cons n ns ih =>
  rw [List.map_cons, List.find?_cons]
  by_cases h : n = s
  ·subst h; simp
  ·simp only [h, decide_false, List.any_cons, Bool.false_or]
   rw [ih]
theorem assocSet_ones (ns : List ByteArray) (s : ByteArray) (v : Value) (h : s ∉ ns) : assocSet (onesOf ns) s v = onesOf ns ++ [(s, v)] := by
 induction ns with
 |nil => rfl
 |cons n ns ih =>
  simp only [List.mem_cons, not_or] at h
  show assocSet ((n, Value.int .i64 1) :: onesOf ns) s v = _
  unfold assocSet
  rw [if_neg (Ne.symm h.1), ih h.2]
  rfl
theorem onesOf_snoc (ns : List ByteArray) (k : Nat) (h : k < ns.length) : onesOf (ns.take (k + 1)) = onesOf (ns.take k) ++ [(ns[k], .int .i64 1)] := by
 rw [List.take_succ_eq_append_getElem h]; unfold onesOf; rw [List.map_append]; rfl
theorem strInt_keys : KeyTy Tryz.prog 87 9 3 Value.string := keyTy_str Tryz.underlying87 Tryz.underlying9
theorem zero_int (w : World) : (zeroValue 3).run Tryz.prog w = .ok (.int .i64 0) w := by kernel_rfl
end Go.Proofs.YthojelhpipmkiaaGreatDoor
namespace Go.Proofs.YthojelhpipmkiaaGreatDoor
open Go.RowKit

theorem not_mem_any {ns : List ByteArray} {s : ByteArray} (h : (ns.any fun x => decide (x = s)) = false) : s ∉ ns := by
 intro hm
 rw [← Bool.not_eq_true, List.any_eq_true] at h
 exact h ⟨s, hm, by simp⟩
set_option maxHeartbeats 1000000 in
theorem distinct_any (F : FuncId) (may : List UInt8 → Bool) (v : Value) (ns : List ByteArray) (w : World) (hv : SlR eStr w w.heap.size v ns)
  (hF : ∀ (args : Array Value) (w : World), (callFunc F args).run Tryz.prog w = .ok (.enter F args) w)
  (hp : ∀ (s : ByteArray) (w : World), s.size ≤ maxLen → Calls Tryz.prog F #[.string s] w fun e w' => e = .returned (.bool (may s.data.toList)) ∧ w = w') :
  Calls Tryz.prog 24 #[v, .func (.func F) #[] #[]] w fun e w' => e = .returned (.bool (distinctB may ns)) ∧ Below w.heap.size w w' := by
 have hmm := @run_makeMap Tryz.prog
 have HP := Lib.hid hp
 clear hp
 obtain ⟨A, c, rfl, hc1, hc2⟩ := hv.form
 unfold maxLen at hc2
 go_enter Tryz.func24, Tryz.ntmps24
 go_wp2_with fail
 go_loopw [11] (fun v11 wr => ∃ k : Nat, k ≤ ns.length ∧ v11 = .int .i64 k ∧ Hid ((∀ s ∈ ns.take k, may s.data.toList = true) ∧ (ns.take k).Nodup) ∧ MapR Value.string wr w.heap.size (onesOf (ns.take k)) ∧ Below w.heap.size w wr) (fun v11 _ => ns.length - (intOf v11).toNat)
 case atStart => exact ⟨0, by omega, rfl, by simp [Hid], MapR.made w, by go_grown⟩
 case round =>
  obtain ⟨k, hk, rfl, hno, hmp, hbr⟩ := hrel
  by_cases hlt : k < ns.length
  ·obtain ⟨ab, ao, cs, rfl, _, hab, hrep, hcell⟩ := (hv.below hbr).get hlt (by decide)
   obtain ⟨rfl, hx1⟩ := hrep
   have hc0 := hcell 0 _ rfl
   clear hcell
   simp only [show eStr.size = 1 from rfl, Nat.mul_one, Nat.add_zero] at hc0
   have HX := Lib.hid hx1
   have hsn := Lib.hid (nodup_snoc ns k hlt)
   have hon := Lib.hid (onesOf_snoc ns k hlt)
   have hlk := hmp.lookup strInt_keys zero_int ns[k]
   rw [assoc_ones] at hlk
   rcases Bool.eq_false_or_eq_true (may ns[k].data.toList) with hm | hm
   ·have HM := Lib.hid hm
    clear hm
    rcases Bool.eq_false_or_eq_true ((ns.take k).any fun x => decide (x = ns[k])) with hany | hany
    ·rw [hany, if_pos rfl] at hlk
     have HA := Lib.hid hany
     clear hany
     simp only [Option.getD_some] at hlk
     go_wp2_with fail
     refine (HP.out ns[k] wr HX.out).mono ?_
     rintro e w1 ⟨rfl, rfl⟩
     rw [HM.out]
     go_wp2_with fail
     go_ret
     refine ⟨rt1 (vbool ?_), hbr⟩
     rw [eq_comm, distinctB, Bool.and_eq_false_iff]
     right
     rw [decide_eq_false_iff_not]
     intro hnd
     have h3 := hsn.out.1 (hnd.sublist (List.take_sublist _ _))
     rw [HA.out] at h3
     cases h3.2
    ·rw [hany, if_neg (by decide)] at hlk
     have HA := Lib.hid hany
     clear hany
     simp only [Option.getD_none] at hlk
     go_wp2_with fail
     refine (HP.out ns[k] wr HX.out).mono ?_
     rintro e w1 ⟨rfl, rfl⟩
     rw [HM.out]
     go_wp2_with (at_mapUpdate; refine wpList_update strInt_keys rfl rfl rfl rfl rfl hmp ?_; intro w2 hmp2 hg2 hs2)
     have hmp3 : MapR Value.string w2 w.heap.size (onesOf (ns.take (k + 1))) := by rw [hon.out, ← assocSet_ones _ _ _ (not_mem_any HA.out)]; exact hmp2
     go_wp2
     go_roundw
     case rel =>
      refine ⟨k + 1, by omega, by go_num, ⟨fun s hs => ?_, hsn.out.2 ⟨hno.out.2, HA.out⟩⟩, hmp3, hbr.grown hg2 hbr.size (fun j hj => by cases hj; exact Nat.le_refl _)⟩
      rw [List.take_succ_eq_append_getElem hlt, List.mem_append, List.mem_singleton] at hs
      rcases hs with hs | rfl
      ·exact hno.out.1 s hs
      ·exact HM.out
     case measure => simp [intOf]; omega
   ·have HM := Lib.hid hm
    clear hm
    go_wp2_with fail
    refine (HP.out ns[k] wr HX.out).mono ?_
    rintro e w1 ⟨rfl, rfl⟩
    rw [HM.out]
    go_wp2
    go_ret
    refine ⟨rt1 (vbool ?_), hbr⟩
    rw [eq_comm, distinctB, Bool.and_eq_false_iff]
    left
    rw [← Bool.not_eq_true, List.all_eq_true]
    intro h
    have := h _ (List.getElem_mem hlt)
    rw [HM.out] at this
    cases this
  ·go_wp2
   go_ret
   refine ⟨rt1 (vbool ?_), hbr⟩
   have h := hno.out
   rw [List.take_of_length_le (by omega)] at h
   rw [eq_comm, distinctB, Bool.and_eq_true, List.all_eq_true, decide_eq_true_eq]
   exact h

theorem isTermSym_any (s : Int) (w : World) : Calls Tryz.prog 73 #[.int .i64 s] w fun e w' => e = .returned (.bool (decide (s < 0))) ∧ w = w' := by
 go_enter Tryz.func73, Tryz.ntmps73
 go_wp2
 go_ret
 exact ⟨rfl, rfl⟩

abbrev Gram := List ByteArray × List ByteArray × List (Int × List Int)
def gramB (g : Gram) : Bool := decide (g.1.length ≠ 0) && decide (g.1.length + g.2.1.length ≤ 256) && decide (g.2.2.length ≤ 4096) && distinctB isNameB g.1 && distinctB isTermB g.2.1 &&
 g.2.2.all (fitsB g.1.length g.2.1.length) && (List.range g.1.length).all (fun i => decide ((ofTo g.2.2 i g.2.2.length).length ≠ 0)) && decide g.2.2.Nodup
set_option maxHeartbeats 2000000 in
theorem gramValid_any (v1 v2 v3 : Value) (ns ts : List ByteArray) (rs : List (Int × List Int)) (w : World) (hsz : ns.length + ts.length ≤ 4611686018427387904) (h1 : SlR eStr w w.heap.size v1 ns) (h2 : SlR eStr w w.heap.size v2 ts) (h3 : SlR eRule w w.heap.size v3 rs) :
  Calls Tryz.prog 10 #[.agg #[v1, v2, v3]] w fun e w' => e = .returned (.bool (gramB (ns, ts, rs))) ∧ Below w.heap.size w w' := by
 obtain ⟨A1, c1, rfl, hc1, hc1'⟩ := h1.form
 obtain ⟨A2, c2, rfl, hc2, hc2'⟩ := h2.form
 obtain ⟨A3, c3, rfl, hc3, hc3'⟩ := h3.form
 unfold maxLen at hc1' hc2' hc3'
 have hcase : ns.length = 0 ∨ (0 < ns.length ∧ 256 < ns.length + ts.length) ∨ (0 < ns.length ∧ ns.length + ts.length ≤ 256 ∧ 4096 < rs.length) ∨ (0 < ns.length ∧ ns.length + ts.length ≤ 256 ∧ rs.length ≤ 4096) := by omega
 by_cases hgood : 0 < ns.length ∧ ns.length + ts.length ≤ 256 ∧ rs.length ≤ 4096
 case neg =>
  have HF : Hid (gramB (ns, ts, rs) = false) := by
   show _ = _
   rw [← Bool.not_eq_true]
   intro h
   simp only [gramB, Bool.and_eq_true, decide_eq_true_eq] at h
   obtain ⟨⟨⟨⟨⟨⟨⟨a1, a2⟩, a3⟩, _⟩, _⟩, _⟩, _⟩, _⟩ := h
   exact hgood ⟨by omega, a2, a3⟩
  rcases hcase with h | ⟨h0, h⟩ | ⟨h0, h0', h⟩ | h
  case inr.inr.inr => exact absurd h hgood
  all_goals
   first
    |(have hz : ((ns.length : Int) == 0) = true := by simp; exact List.eq_nil_of_length_eq_zero h)
    |(have hz : ((ns.length : Int) == 0) = false := by simp; intro e; subst e; simp at h0)
   go_enter Tryz.func10, Tryz.ntmps10
   go_wp2_with fail
   all_goals first
    |(exfalso; omega)
    |(go_ret; exact ⟨rt1 (vbool HF.out.symm), by go_grown⟩)
    |(exfalso; simp at *; omega)
 clear hcase
 obtain ⟨g1, g2, g3⟩ := hgood
 have hz : ((ns.length : Int) == 0) = false := by simp; intro e; subst e; simp at g1
 have HDEF : Hid (gramB (ns, ts, rs) = (distinctB isNameB ns && distinctB isTermB ts && rs.all (fitsB ns.length ts.length) && (List.range ns.length).all (fun i => decide ((ofTo rs i rs.length).length ≠ 0)) && decide rs.Nodup)) := by
  show _ = _
  unfold gramB
  simp only [show decide (ns.length + ts.length ≤ 256) = true by simpa using g2, show decide (rs.length ≤ 4096) = true by simpa using g3, show decide (ns.length ≠ 0) = true from decide_eq_true (by omega), Bool.true_and]
 have hsum : ((ns.length : Int) + ts.length) ≤ 256 := by omega
 have hrl : ((rs.length : Int)) ≤ 4096 := by omega
 go_enter Tryz.func10, Tryz.ntmps10
 go_wp2_with fail
 have HW : Hid (Below w.heap.size w (w.alloc (Obj.cells #[Value.slice A1 ns.length c1, Value.slice A2 ts.length c2, Value.slice A3 rs.length c3] 25))) := (Below.refl _ _).alloc (Nat.le_refl _) _
 have HS : Hid ((w.alloc (Obj.cells #[Value.slice A1 ns.length c1, Value.slice A2 ts.length c2, Value.slice A3 rs.length c3] 25)).heap.size = w.heap.size + 1) := by show _ = _; simp
 have k0 : (w.alloc (Obj.cells #[Value.slice A1 ns.length c1, Value.slice A2 ts.length c2, Value.slice A3 rs.length c3] 25)).cell? ⟨w.heap.size, 0, none⟩ = some (Value.slice A1 ns.length c1) := by simp
 have k1 : (w.alloc (Obj.cells #[Value.slice A1 ns.length c1, Value.slice A2 ts.length c2, Value.slice A3 rs.length c3] 25)).cell? ⟨w.heap.size, 1, none⟩ = some (Value.slice A2 ts.length c2) := by simp
 have k2 : (w.alloc (Obj.cells #[Value.slice A1 ns.length c1, Value.slice A2 ts.length c2, Value.slice A3 rs.length c3] 25)).cell? ⟨w.heap.size, 2, none⟩ = some (Value.slice A3 rs.length c3) := by simp
 generalize w.alloc (Obj.cells #[Value.slice A1 ns.length c1, Value.slice A2 ts.length c2, Value.slice A3 rs.length c3] 25) = W at HW HS k0 k1 k2 ⊢
 have h1W := h1.next HW.out (B' := W.heap.size) (by rw [HS.out]; omega)
 refine (distinct_any 25 isNameB _ ns W h1W (fun _ _ => by kernel_rfl) (fun s w hs => isName_any s w hs)).mono ?_
 rintro e w1 ⟨rfl, hb1⟩
 have hws := HS.out
 have hW1 : Below (w.heap.size + 1) W w1 := hb1.mono (by omega)
 rcases Bool.eq_false_or_eq_true (distinctB isNameB ns) with hd1 | hd1
 case inr =>
  have HD := Lib.hid hd1
  rw [hd1]
  go_wp2
  go_ret
  exact ⟨rt1 (vbool (by rw [HDEF.out, HD.out]; rfl)), HW.out.trans (hb1.mono (by omega))⟩
 have HD1 := Lib.hid hd1
 rw [hd1]
 clear hd1
 have k1' := (hW1.cell (p := ⟨w.heap.size, 1, none⟩) (Nat.lt_succ_self _)).trans k1
 go_wp2_with fail
 have hs1 := hb1.size
 refine (distinct_any 26 isTermB _ ts w1 (h2.next (HW.out.trans (hb1.mono (by omega))) (by omega)) (fun _ _ => by kernel_rfl) (fun s w hs => isTerm_any s w hs)).mono ?_
 rintro e w2 ⟨rfl, hb2⟩
 have hW2 : Below (w.heap.size + 1) W w2 := hW1.trans (hb2.mono (by omega))
 rcases Bool.eq_false_or_eq_true (distinctB isTermB ts) with hd2 | hd2
 case inr =>
  have HD := Lib.hid hd2
  rw [hd2]
  go_wp2
  go_ret
  exact ⟨rt1 (vbool (by rw [HDEF.out, HD.out]; simp)), HW.out.trans (hW2.mono (by omega))⟩
 have HD2 := Lib.hid hd2
 rw [hd2]
 clear hd2
 have k2' := (hW2.cell (p := ⟨w.heap.size, 2, none⟩) (Nat.lt_succ_self _)).trans k2
 go_wp2_with fail
 go_loopw [39] (fun v39 wr => ∃ k : Nat, k ≤ rs.length ∧ v39 = .int .i64 k ∧ Hid ((rs.take k).all (fitsB ns.length ts.length) = true) ∧ Below (w.heap.size + 1) W wr) (fun v39 _ => rs.length - (intOf v39).toNat)
 case atStart => exact ⟨0, by omega, rfl, by simp [Hid], hW2⟩
 case round =>
  obtain ⟨k, hk, rfl, hno, hbr⟩ := hrel
  have hbr0 := HW.out.trans (hbr.mono (Nat.le_succ _))
  have r0 := (hbr.cell (p := ⟨w.heap.size, 0, none⟩) (Nat.lt_succ_self _)).trans k0
  have r1 := (hbr.cell (p := ⟨w.heap.size, 1, none⟩) (Nat.lt_succ_self _)).trans k1
  have r2 := (hbr.cell (p := ⟨w.heap.size, 2, none⟩) (Nat.lt_succ_self _)).trans k2
  by_cases hlt : k < rs.length
  ·obtain ⟨ab, ao, cs, rfl, _, hab, hrep, hcell⟩ := (h3.below hbr0).get hlt (by decide)
   obtain ⟨u, rfl, hu, hz1, hz2⟩ := eRule_open hrep
   obtain ⟨A4, e4, rfl, _, _⟩ := hu.form
   have hc0 := hcell 0 _ rfl
   have hc1' := hcell 1 _ rfl
   clear hcell
   simp only [show eRule.size = 2 from rfl, Nat.add_zero, ← Nat.add_assoc] at hc0 hc1'
   have hsz1 := hbr.size
   have hg1 : w.heap.size < wr.heap.size := by omega
   have HSN := Lib.hid (List.take_succ_eq_append_getElem hlt)
   rcases Bool.eq_false_or_eq_true (fitsB ns.length ts.length (rs[k].1, rs[k].2)) with hq | hq
   ·have HQ := Lib.hid hq
    clear hq
    go_wp2_with fail
    have hb3 : Below wr.heap.size wr (wr.alloc (Obj.cells #[Value.int IntKind.i64 rs[k].fst, Value.slice A4 rs[k].snd.length e4] 36)) := (Below.refl _ _).alloc (Nat.le_refl _) _
    refine (fits_any A1 A2 _ _ ns.length ts.length c1 c2 rs[k].1 rs[k].2 _ (by omega) (hu.fut hb3 (by omega) (by simp; omega))).mono ?_
    rintro e w3 ⟨rfl, hb4⟩
    rw [HQ.out]
    go_wp2
    go_roundw
    case rel => exact ⟨k + 1, by omega, by go_num, by show _ = _; rw [HSN.out, List.all_append, hno.out]; simpa using HQ.out, hbr.trans ((hb3.mono (by omega : w.heap.size + 1 ≤ wr.heap.size)).trans (hb4.mono (by simp; omega)))⟩
    case measure => simp [intOf]; omega
   ·have HQ := Lib.hid hq
    clear hq
    go_wp2_with fail
    have hb3 : Below wr.heap.size wr (wr.alloc (Obj.cells #[Value.int IntKind.i64 rs[k].fst, Value.slice A4 rs[k].snd.length e4] 36)) := (Below.refl _ _).alloc (Nat.le_refl _) _
    refine (fits_any A1 A2 _ _ ns.length ts.length c1 c2 rs[k].1 rs[k].2 _ (by omega) (hu.fut hb3 (by omega) (by simp; omega))).mono ?_
    rintro e w3 ⟨rfl, hb4⟩
    rw [HQ.out]
    go_wp2
    go_ret
    refine ⟨rt1 (vbool ?_), hbr0.trans ((hb3.mono (by omega)).trans (hb4.mono (by simp; omega)))⟩
    have hf : rs.all (fitsB ns.length ts.length) = false := by
     rw [← Bool.not_eq_true, List.all_eq_true]
     intro h
     have h' := HQ.out
     rw [h _ (List.getElem_mem hlt)] at h'
     cases h'
    rw [HDEF.out, hf]
    simp
  have HALL : Hid (rs.all (fitsB ns.length ts.length) = true) := by
   show _ = _
   have := hno.out
   rwa [List.take_of_length_le (by omega)] at this
  have hkr : k = rs.length := by omega
  subst hkr
  go_wp2_with fail
  go_loopw [51] (fun v51 wt => ∃ k : Nat, k ≤ ns.length ∧ v51 = .int .i64 k ∧ Hid (∀ i : Nat, i < k → (ofTo rs i rs.length).length ≠ 0) ∧ Below (w.heap.size + 1) W wt) (fun v51 _ => ns.length - (intOf v51).toNat)
  case atStart => exact ⟨0, by omega, rfl, fun i hi => absurd hi (by omega), hbr⟩
  case round =>
   clear hbr0 r0 r1 r2 hbr hno
   obtain ⟨k, hk', rfl, hno, hbr⟩ := hrel
   have hbr0 := HW.out.trans (hbr.mono (Nat.le_succ _))
   have r0 := (hbr.cell (p := ⟨w.heap.size, 0, none⟩) (Nat.lt_succ_self _)).trans k0
   have r1 := (hbr.cell (p := ⟨w.heap.size, 1, none⟩) (Nat.lt_succ_self _)).trans k1
   have r2 := (hbr.cell (p := ⟨w.heap.size, 2, none⟩) (Nat.lt_succ_self _)).trans k2
   have hsz1 := hbr.size
   by_cases hlt : k < ns.length
   ·by_cases hq : (ofTo rs k rs.length).length = 0
    ·have hqb : (((ofTo rs k rs.length).length : Int) == 0) = true := by simp only [hq]; rfl
     have HQ := Lib.hid hq
     clear hq
     go_wp2_with fail
     refine (gram_of A1 A2 _ ns.length ts.length c1 c2 k rs wr (h3.next hbr0 (by omega)) (by omega)).mono ?_
     rintro e w3 ⟨v, rfl, hown, hb4⟩
     obtain ⟨A5, c5, rfl, _, _⟩ := own_form hown
     go_wp2
     go_ret
     refine ⟨rt1 (vbool ?_), hbr0.trans (hb4.mono (by omega))⟩
     have hf : (List.range ns.length).all (fun i => decide ((ofTo rs i rs.length).length ≠ 0)) = false := by
      rw [← Bool.not_eq_true, List.all_eq_true]
      intro h
      exact absurd HQ.out (of_decide_eq_true (h k (List.mem_range.2 hlt)))
     rw [HDEF.out, hf]
     simp
    ·have hqb : (((ofTo rs k rs.length).length : Int) == 0) = false := by rw [beq_eq_false_iff_ne]; omega
     have HQ := Lib.hid hq
     clear hq
     go_wp2_with fail
     refine (gram_of A1 A2 _ ns.length ts.length c1 c2 k rs wr (h3.next hbr0 (by omega)) (by omega)).mono ?_
     rintro e w3 ⟨v, rfl, hown, hb4⟩
     obtain ⟨A5, c5, rfl, _, _⟩ := own_form hown
     go_wp2
     go_roundw
     case rel => exact ⟨k + 1, by omega, by go_num, fun i hi => by by_cases e : i = k; (subst e; exact HQ.out); exact hno.out i (by omega), hbr.trans (hb4.mono (by omega))⟩
     case measure => simp [intOf]; omega
   ·have hf : Hid ((List.range ns.length).all (fun i => decide ((ofTo rs i rs.length).length ≠ 0)) = true) := by
     show _ = _
     rw [List.all_eq_true]
     intro i hi
     have := List.mem_range.1 hi
     exact decide_eq_true (hno.out i (by omega))
    go_wp2_with fail
    refine (twice_any _ rs wr (h3.next hbr0 (by omega))).mono ?_
    rintro e w3 ⟨rfl, hb4⟩
    go_wp2
    go_ret
    refine ⟨rt1 (vbool ?_), hbr0.trans (hb4.mono (by omega))⟩
    rw [HDEF.out, HD1.out, HD2.out, HALL.out, hf.out]
    simp
end Go.Proofs.YthojelhpipmkiaaGreatDoor
namespace Go.Proofs.YthojelhpipmkiaaGreatDoor

theorem nodup_idx {α : Type} [DecidableEq α] (xs : List α) : xs.Nodup ↔ ∀ (j : Nat) (h : j < xs.length), idxOf (fun x => decide (x = xs[j])) xs = j := by
 constructor
 ·intro hn j h
  refine idxOf_hit h (fun l hl hlj => ?_) (by simp)
  rw [List.Nodup, List.pairwise_iff_getElem] at hn
  simpa using hn l j hl h hlj
 ·intro h
  rw [List.Nodup, List.pairwise_iff_getElem]
  intro i j hi hj hij he
  have h1 := h i hi
  have h2 := h j hj
  rw [he, h2] at h1
  omega
theorem ofTo_ne (rs : List (Int × List Int)) (left : Int) : (ofTo rs left rs.length).length ≠ 0 ↔ ∃ r ∈ rs, r.1 = left := by
 unfold ofTo
 rw [List.length_map]
 constructor
 ·intro h
  obtain ⟨i, hi⟩ := List.exists_mem_of_length_pos (Nat.pos_of_ne_zero h)
  rw [List.mem_filter, List.mem_range, decide_eq_true_eq] at hi
  refine ⟨rs[i]'hi.1, List.getElem_mem hi.1, ?_⟩
  have := hi.2
  rwa [List.getD_eq_getElem?_getD, List.getElem?_eq_getElem hi.1] at this
 ·rintro ⟨r, hr, he⟩ h0
  obtain ⟨i, hi, rfl⟩ := List.getElem_of_mem hr
  have := List.eq_nil_of_length_eq_zero h0
  rw [List.filter_eq_nil_iff] at this
  refine this i (List.mem_range.2 hi) ?_
  rw [decide_eq_true_eq, List.getD_eq_getElem?_getD, List.getElem?_eq_getElem hi]
  exact he
def NameAt (ns : List ByteArray) (rs : List (Int × List Int)) (j : Nat) : Prop := ∀ h : j < ns.length, isNameB ns[j].data.toList = true ∧ idxOf (fun x => decide (x = ns[j])) ns = j ∧ ∃ r ∈ rs, r.1 = (j : Int)
def TermAt (ts : List ByteArray) (j : Nat) : Prop := ∀ h : j < ts.length, isTermB ts[j].data.toList = true ∧ idxOf (fun x => decide (x = ts[j])) ts = j
theorem all_at {α : Type} (xs : List α) (p : α → Bool) : xs.all p = true ↔ ∀ (j : Nat) (h : j < xs.length), p xs[j] = true := by
 rw [List.all_eq_true]
 exact ⟨fun h j hj => h _ (List.getElem_mem hj), fun h x hx => by obtain ⟨j, hj, rfl⟩ := List.getElem_of_mem hx; exact h j hj⟩
theorem gramB_iff (ns ts : List ByteArray) (rs : List (Int × List Int)) : gramB (ns, ts, rs) = true ↔ ns.length ≠ 0 ∧ ns.length + ts.length ≤ 256 ∧ rs.length ≤ 4096 ∧ (∀ j, NameAt ns rs j) ∧ (∀ j, TermAt ts j) ∧ (∀ (j : Nat) (h : j < rs.length), fitsB ns.length ts.length rs[j] = true) ∧ rs.Nodup := by
 simp only [gramB, distinctB, Bool.and_eq_true, decide_eq_true_eq, all_at, List.getElem_range, List.length_range, ofTo_ne, nodup_idx ns, nodup_idx ts]
 constructor
 ·rintro ⟨⟨⟨⟨⟨⟨⟨h1, h2⟩, h3⟩, h4, h5⟩, h6, h7⟩, h8⟩, h9⟩, h10⟩
  exact ⟨h1, h2, h3, fun j h => ⟨h4 j h, h5 j h, h9 j h⟩, fun j h => ⟨h6 j h, h7 j h⟩, h8, h10⟩
 ·rintro ⟨h1, h2, h3, h4, h5, h6, h7⟩
  exact ⟨⟨⟨⟨⟨⟨⟨h1, h2⟩, h3⟩, fun j h => (h4 j h).1, fun j h => (h4 j h).2.1⟩, fun j h => (h5 j h).1, fun j h => (h5 j h).2⟩, h6⟩, fun j h => (h4 j h).2.2⟩, h7⟩
end Go.Proofs.YthojelhpipmkiaaGreatDoor
namespace Go.Proofs.YthojelhpipmkiaaGreatDoor

def toB (w : Wd) : ByteArray := ⟨w.toArray⟩
def ofB (b : ByteArray) : Wd := b.data.toList
theorem ofB_toB (w : Wd) : ofB (toB w) = w := rfl
theorem toB_ofB (b : ByteArray) : toB (ofB b) = b := by cases b; rfl
theorem ofB_inj {a b : ByteArray} (h : ofB a = ofB b) : a = b := by rw [← toB_ofB a, ← toB_ofB b, h]
theorem map_toB_ofB (l : List ByteArray) : (l.map ofB).map toB = l := by
 rw [List.map_map]
 exact (List.map_congr_left fun b _ => toB_ofB b).trans (List.map_id l)
theorem nodup_map {α β : Type} {f : α → β} (hf : ∀ a b, f a = f b → a = b) {l : List α} (h : l.Nodup) : (l.map f).Nodup :=
 List.pairwise_map.2 (h.imp fun {a b} hab e => hab (hf a b e))
def gramC (g : Gram) : Gram := ((canN (g.1.map ofB)).map toB, (sortW (g.2.1.map ofB)).map toB, canR (g.1.map ofB) (g.2.1.map ofB) g.2.2)
theorem canN_len (l : List Wd) : (canN l).length = l.length := (canN_perm l).length_eq
theorem sortW_len (l : List Wd) : (sortW l).length = l.length := (sortW_perm l).length_eq
theorem canR_len (ns ts : List Wd) (rs : List RuleD) : (canR ns ts rs).length = rs.length := by unfold canR; rw [(sortR_perm _).length_eq, List.length_map]
theorem gramC_len (g : Gram) : (gramC g).1.length = g.1.length ∧ (gramC g).2.1.length = g.2.1.length ∧ (gramC g).2.2.length = g.2.2.length := by
 unfold gramC
 simp only [List.length_map, canN_len, sortW_len, canR_len, and_self]
theorem fitsB_iff (n m : Nat) (r : Int × List Int) : fitsB n m r = true ↔ (0 ≤ r.1 ∧ r.1 < n) ∧ r.2.length ≤ 64 ∧ ∀ s ∈ r.2, SymIn n m s := by
 unfold fitsB
 simp only [Bool.and_eq_true, decide_eq_true_eq, Bool.not_eq_true', List.any_eq_false, badSym, Bool.or_eq_true, not_or, SymIn, and_assoc]
 constructor
 ·rintro ⟨h1, h2, h3, h4⟩
  exact ⟨h1, h2, h3, fun s hs => by have := h4 s hs; omega⟩
 ·rintro ⟨h1, h2, h3, h4⟩
  exact ⟨h1, h2, h3, fun s hs => by have := h4 s hs; omega⟩
structure GoodC (g : Gram) : Prop where
 n1 : 1 ≤ g.1.length
 nm : g.1.length + g.2.1.length ≤ 256
 q : g.2.2.length ≤ 4096
 names : ∀ s ∈ g.1, isNameB (ofB s) = true
 terms : ∀ s ∈ g.2.1, isTermB (ofB s) = true
 nn : g.1.Nodup
 tn : g.2.1.Nodup
 fit : ∀ r ∈ g.2.2, (0 ≤ r.1 ∧ r.1 < g.1.length) ∧ r.2.length ≤ 64 ∧ ∀ s ∈ r.2, SymIn g.1.length g.2.1.length s
 has : ∀ i < g.1.length, ∃ r ∈ g.2.2, r.1 = (i : Int)
 rn : g.2.2.Nodup
theorem goodC_iff (g : Gram) : gramB g = true ↔ GoodC g := by
 simp only [gramB, distinctB, Bool.and_eq_true, decide_eq_true_eq, List.all_eq_true, List.mem_range, ofTo_ne, fitsB_iff]
 constructor
 ·rintro ⟨⟨⟨⟨⟨⟨⟨h1, h2⟩, h3⟩, h4, h5⟩, h6, h7⟩, h8⟩, h9⟩, h10⟩
  exact ⟨by omega, h2, h3, h4, h6, h5, h7, h8, h9, h10⟩
 ·rintro ⟨h1, h2, h3, h4, h6, h5, h7, h8, h9, h10⟩
  exact ⟨⟨⟨⟨⟨⟨⟨by omega, h2⟩, h3⟩, h4, h5⟩, h6, h7⟩, h8⟩, h9⟩, h10⟩
theorem ruleM_inj {ns ts ns' ts' : List Wd} (hp : ns'.Perm ns) (hq : ts'.Perm ts) (hn : ns.Nodup) (hm : ts.Nodup) {a b : RuleD} (ha : SymIn ns.length ts.length a.1 ∧ ∀ s ∈ a.2, SymIn ns.length ts.length s) (hb : SymIn ns.length ts.length b.1 ∧ ∀ s ∈ b.2, SymIn ns.length ts.length s)
  (h : ruleM ns ts ns' ts' a = ruleM ns ts ns' ts' b) : a = b := by
 obtain ⟨a1, a2⟩ := a
 obtain ⟨b1, b2⟩ := b
 unfold ruleM at h
 injection h with h1 h2
 simp only at ha hb h2
 have e1 := symM_inj hp hq hn hm ha.1 hb.1 h1
 have hl : ∀ (x y : List Int), (∀ s ∈ x, SymIn ns.length ts.length s) → (∀ s ∈ y, SymIn ns.length ts.length s) → x.map (symM ns ts ns' ts') = y.map (symM ns ts ns' ts') → x = y := by
  intro x
  induction x with
  |nil => intro y _ _ e; cases y with | nil => rfl | cons _ _ => simp at e
  |cons s x ih =>
   intro y hx hy e
   cases y with
   |nil => simp at e
   |cons t y =>
    rw [List.map_cons, List.map_cons] at e
    injection e with e3 e4
    rw [symM_inj hp hq hn hm (hx s (by simp)) (hy t (by simp)) e3, ih y (fun s hs => hx s (by simp [hs])) (fun s hs => hy s (by simp [hs])) e4]
 rw [e1, hl a2 b2 ha.2 hb.2 h2]
theorem canR_mem {ns ts : List Wd} {rs : List RuleD} {r : RuleD} (h : r ∈ canR ns ts rs) : ∃ x ∈ rs, r = ruleM ns ts (canN ns) (sortW ts) x := by
 have := (sortR_perm _).mem_iff.1 h
 obtain ⟨x, hx, e⟩ := List.mem_map.1 this
 exact ⟨x, hx, e.symm⟩
theorem gramC_good {g : Gram} (h : GoodC g) : GoodC (gramC g) := by
 obtain ⟨l1, l2, l3⟩ := gramC_len g
 have hp := canN_perm (g.1.map ofB)
 have hq := sortW_perm (g.2.1.map ofB)
 have hn : (g.1.map ofB).Nodup := nodup_map (fun _ _ => ofB_inj) h.nn
 have hm : (g.2.1.map ofB).Nodup := nodup_map (fun _ _ => ofB_inj) h.tn
 have hN : (g.1.map ofB).length = g.1.length := List.length_map ..
 have hM : (g.2.1.map ofB).length = g.2.1.length := List.length_map ..
 have hin : ∀ r ∈ g.2.2, SymIn (g.1.map ofB).length (g.2.1.map ofB).length r.1 ∧ ∀ s ∈ r.2, SymIn (g.1.map ofB).length (g.2.1.map ofB).length s := fun r hr => by
  rw [hN, hM]
  obtain ⟨f1, _, f3⟩ := h.fit r hr
  exact ⟨⟨by omega, f1.2⟩, f3⟩
 refine ⟨by rw [l1]; exact h.n1, by rw [l1, l2]; exact h.nm, by rw [l3]; exact h.q, ?_, ?_, nodup_map (fun a b e => by rw [← ofB_toB a, ← ofB_toB b, e]) (hp.nodup_iff.2 hn), nodup_map (fun a b e => by rw [← ofB_toB a, ← ofB_toB b, e]) (hq.nodup_iff.2 hm), ?_, ?_, ?_⟩
 ·intro s hs
  obtain ⟨x, hx, rfl⟩ := List.mem_map.1 hs
  obtain ⟨y, hy, rfl⟩ := List.mem_map.1 (hp.mem_iff.1 hx)
  exact h.names y hy
 ·intro s hs
  obtain ⟨x, hx, rfl⟩ := List.mem_map.1 hs
  obtain ⟨y, hy, rfl⟩ := List.mem_map.1 (hq.mem_iff.1 hx)
  exact h.terms y hy
 ·intro r hr
  obtain ⟨x, hx, rfl⟩ := canR_mem hr
  obtain ⟨f1, f2, f3⟩ := h.fit x hx
  obtain ⟨i1, i2⟩ := hin x hx
  have j1 := symM_in hp hq i1
  have j2 := symM_sign (g.1.map ofB) (g.2.1.map ofB) (canN (g.1.map ofB)) (sortW (g.2.1.map ofB)) x.1
  rw [l1, l2]
  rw [hN, hM] at j1
  refine ⟨⟨?_, j1.2⟩, by show (x.2.map _).length ≤ 64; rw [List.length_map]; exact f2, fun s hs => ?_⟩
  ·show 0 ≤ symM _ _ _ _ x.1
   omega
  ·obtain ⟨t, ht, rfl⟩ := List.mem_map.1 hs
   have := symM_in hp hq (i2 t ht)
   rwa [hN, hM] at this
 ·intro j hj
  rw [l1] at hj
  obtain ⟨i, hi, e⟩ := idx_onto hp hn (j := j) (by rw [hN]; exact hj)
  rw [hN] at hi
  obtain ⟨r, hr, hri⟩ := h.has i hi
  refine ⟨ruleM _ _ _ _ r, (sortR_perm _).mem_iff.2 (List.mem_map_of_mem hr), ?_⟩
  show symM _ _ _ _ r.1 = _
  unfold symM
  rw [hri, if_neg (by omega), Int.toNat_natCast, e]
 ·show (sortR _).Nodup
  rw [(sortR_perm _).nodup_iff]
  refine List.pairwise_map.2 ((List.pairwise_iff_getElem.2 fun i j hi hj hij => ?_))
  intro e
  have := ruleM_inj hp hq hn hm (hin _ (List.getElem_mem hi)) (hin _ (List.getElem_mem hj)) e
  exact absurd this (List.pairwise_iff_getElem.1 h.rn i j hi hj hij)
def textC (g : Gram) : Wd := canT (g.1.map ofB) (g.2.1.map ofB) g.2.2
def textG (g : Gram) : Wd := gramT (g.1.map ofB) (g.2.1.map ofB) g.2.2
theorem textC_eq (g : Gram) : textC g = textG (gramC g) := by
 unfold textC canT textG gramC
 simp only [List.map_map]
 have e : ∀ l : List Wd, l.map (ofB ∘ toB) = l := fun l => (List.map_congr_left fun w _ => ofB_toB w).trans (List.map_id l)
 rw [e, e]
end Go.Proofs.YthojelhpipmkiaaGreatDoor
namespace Go.Proofs.YthojelhpipmkiaaGreatDoor
open Go.RowKit

def ordS (a b : Int) : Int := Lib.compareInt (rank a) (rank b)
theorem compareInt_shift (a b c d : Int) (h : a < b ↔ c < d) (k : b < a ↔ d < c) : Lib.compareInt a b = Lib.compareInt c d := by
 unfold Lib.compareInt
 by_cases h1 : a < b
 ·rw [if_pos h1, if_pos (h.1 h1)]
 ·rw [if_neg h1, if_neg (fun e => h1 (h.2 e))]
  by_cases h2 : b < a
  ·rw [if_pos h2, if_pos (k.1 h2)]
  ·rw [if_neg h2, if_neg (fun e => h2 (k.2 e))]
theorem ordS_tt {a b : Int} (ha : a < 0) (hb : b < 0) : ordS a b = Lib.compareInt b a := by
 unfold ordS rank
 rw [if_pos ha, if_pos hb]
 exact compareInt_shift _ _ _ _ (by omega) (by omega)
theorem ordS_tn {a b : Int} (ha : a < 0) (hb : ¬ b < 0) (h : -1000 ≤ a) : ordS a b = -1 := by
 unfold ordS rank Lib.compareInt
 rw [if_pos ha, if_neg hb, if_pos (by omega)]
theorem ordS_nt {a b : Int} (ha : ¬ a < 0) (hb : b < 0) (h : -1000 ≤ b) : ordS a b = 1 := by
 unfold ordS rank Lib.compareInt
 rw [if_neg ha, if_pos hb, if_neg (by omega), if_pos (by omega)]
theorem ordS_nn {a b : Int} (ha : ¬ a < 0) (hb : ¬ b < 0) : ordS a b = Lib.compareInt a b := by
 unfold ordS rank
 rw [if_neg ha, if_neg hb]
 exact compareInt_shift _ _ _ _ (by omega) (by omega)
theorem orderS_any (a b : Int) (w : World) (ha : -1000 ≤ a) (hb : -1000 ≤ b) : Calls Tryz.prog 78 #[.int .i64 a, .int .i64 b] w fun e w' => e = .returned (.int .i64 (ordS a b)) ∧ w = w' := by
 by_cases h1 : a < 0
 ·have d1 : decide (a < 0) = true := by simpa using h1
  by_cases h2 : b < 0
  ·have d2 : decide (b < 0) = true := by simpa using h2
   have HO := Lib.hid (ordS_tt h1 h2)
   clear h1 h2
   go_enter Tryz.func78, Tryz.ntmps78
   go_wp2_with fail
   refine (isTermSym_any _ _).mono ?_
   rintro e w' ⟨rfl, rfl⟩
   go_wp2_with fail
   refine (isTermSym_any _ _).mono ?_
   rintro e w' ⟨rfl, rfl⟩
   go_wp2_with fail
   refine (Tryz.cmp_Compare_int _ _ _).mono ?_
   rintro e w' ⟨rfl, rfl⟩
   go_wp2_with fail
   go_ret
   exact ⟨rt1 (vint HO.out.symm), rfl⟩
  ·have d2 : decide (b < 0) = false := by simpa using h2
   have HO := Lib.hid (ordS_tn h1 h2 ha)
   clear h1 h2
   go_enter Tryz.func78, Tryz.ntmps78
   go_wp2_with fail
   refine (isTermSym_any _ _).mono ?_
   rintro e w' ⟨rfl, rfl⟩
   go_wp2_with fail
   refine (isTermSym_any _ _).mono ?_
   rintro e w' ⟨rfl, rfl⟩
   go_wp2_with fail
   refine (isTermSym_any _ _).mono ?_
   rintro e w' ⟨rfl, rfl⟩
   go_wp2_with fail
   go_ret
   exact ⟨rt1 (vint HO.out.symm), rfl⟩
 ·have d1 : decide (a < 0) = false := by simpa using h1
  by_cases h2 : b < 0
  ·have d2 : decide (b < 0) = true := by simpa using h2
   have HO := Lib.hid (ordS_nt h1 h2 hb)
   clear h1 h2
   go_enter Tryz.func78, Tryz.ntmps78
   go_wp2_with fail
   refine (isTermSym_any _ _).mono ?_
   rintro e w' ⟨rfl, rfl⟩
   go_wp2_with fail
   refine (isTermSym_any _ _).mono ?_
   rintro e w' ⟨rfl, rfl⟩
   go_wp2_with fail
   refine (isTermSym_any _ _).mono ?_
   rintro e w' ⟨rfl, rfl⟩
   go_wp2_with fail
   go_ret
   exact ⟨rt1 (vint HO.out.symm), rfl⟩
  ·have d2 : decide (b < 0) = false := by simpa using h2
   have HO := Lib.hid (ordS_nn h1 h2)
   clear h1 h2
   go_enter Tryz.func78, Tryz.ntmps78
   go_wp2_with fail
   refine (isTermSym_any _ _).mono ?_
   rintro e w' ⟨rfl, rfl⟩
   go_wp2_with fail
   refine (isTermSym_any _ _).mono ?_
   rintro e w' ⟨rfl, rfl⟩
   go_wp2_with fail
   refine (isTermSym_any _ _).mono ?_
   rintro e w' ⟨rfl, rfl⟩
   go_wp2_with fail
   refine (Tryz.cmp_Compare_int _ _ _).mono ?_
   rintro e w' ⟨rfl, rfl⟩
   go_wp2_with fail
   go_ret
   exact ⟨rt1 (vint HO.out.symm), rfl⟩
def ordL : List Int → List Int → Int
 |[], [] => 0
 |[], _ :: _ => -1
 |_ :: _, [] => 1
 |a :: x, b :: y => if ordS a b = 0 then ordL x y else ordS a b
theorem ordS_zero (a b : Int) : ordS a b = 0 ↔ rank a = rank b := by
 unfold ordS Lib.compareInt
 split
 ·omega
 ·split <;> omega
theorem ordS_lt (a b : Int) : ordS a b < 0 ↔ rank a < rank b := by
 unfold ordS Lib.compareInt
 split
 ·omega
 ·split <;> omega
theorem ordL_lt : ∀ x y : List Int, ordL x y < 0 ↔ rightLt x y
 |[], [] => by simp [ordL, rightLt]
 |[], _ :: _ => by simp [ordL, rightLt]
 |_ :: _, [] => by simp [ordL, rightLt]
 |a :: x, b :: y => by
  unfold ordL rightLt
  rw [List.map_cons, List.map_cons, List.cons_lt_cons_iff]
  by_cases h : ordS a b = 0
  ·rw [if_pos h]
   have h2 := (ordS_zero a b).1 h
   rw [ordL_lt x y]
   unfold rightLt
   simp [h2]
  ·rw [if_neg h, ordS_lt]
   have : rank a ≠ rank b := fun e => h ((ordS_zero a b).2 e)
   simp [this]
def ordU (a b : RuleD) : Int := if a.1 = b.1 then ordL a.2 b.2 else Lib.compareInt a.1 b.1
theorem ordU_lt (a b : RuleD) : ordU a b < 0 ↔ ruleLt a b := by
 unfold ordU ruleLt
 by_cases h : a.1 = b.1
 ·rw [if_pos h, ordL_lt]
  constructor
  ·exact fun h2 => .inr ⟨h, h2⟩
  ·rintro (h2 | ⟨_, h2⟩)
   ·omega
   ·exact h2
 ·rw [if_neg h]
  unfold Lib.compareInt
  constructor
  ·intro h2
   split at h2
   ·exact .inl (by assumption)
   ·split at h2 <;> omega
  ·rintro (h2 | ⟨h2, _⟩)
   ·rw [if_pos h2]; omega
   ·exact absurd h2 h
end Go.Proofs.YthojelhpipmkiaaGreatDoor
