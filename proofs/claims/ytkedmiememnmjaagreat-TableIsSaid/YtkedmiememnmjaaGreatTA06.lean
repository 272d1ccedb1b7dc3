/- Texts of this proof joined: Map, Gram2, Gram3, Rf14a. -/
import Derived.Test.YtkedmiememnmjaaGreatTA01
import Derived.Test.YtkedmiememnmjaaGreatTA05
import Derived.Carry
import Derived.Maps.Own
import Derived.Test.YtkedmiememnmjaaGreatTA04
namespace Go.Proofs.YtkedmiememnmjaaGreat
open Go.RowKit

def assoc {α : Type} [DecidableEq α] (l : List (α × Value)) (k : α) : Option Value := (l.find? fun p => decide (p.1 = k)).map (·.2)
def assocSet {α : Type} [DecidableEq α] : List (α × Value) → α → Value → List (α × Value)
  | [], k, v => [(k, v)]
  | p :: r, k, v => if p.1 = k then (k, v) :: r else p :: assocSet r k v
def MapR {α : Type} (κ : α → Value) (w : World) (g : Nat) (l : List (α × Value)) : Prop :=
  ∃ (es : Array MapEntry) (clock : Nat), w.heap[g]? = some (.map es clock) ∧ es.toList.map (fun e => (e.key, e.val)) = l.map (fun p => (κ p.1, p.2))
structure KeyTy {α : Type} [DecidableEq α] (P : Program) (mt kt et : TypeId) (κ : α → Value) : Prop where
  und : P.underlying mt = some (.map kt et)
  check : ∀ (b : Bool) (a : α) (w : World), (Instr.checkKey b 10000 kt (κ a)).run P w = .ok () w
  find : ∀ (k : α) (l : List (α × Value)) (es : List MapEntry) (w : World), es.map (fun e => (e.key, e.val)) = l.map (fun p => (κ p.1, p.2)) →
    (Instr.findKey kt (κ k) es).run P w = .ok ((l.findIdx? fun p => decide (p.1 = k)).bind fun i => (l[i]?).map fun p => (i, p.2)) w
  stays : ∀ a : α, Instr.sameBits 10000 (κ a) (κ a) = true

section
variable {α : Type} {κ : α → Value} {w : World} {g : Nat} {l : List (α × Value)}
theorem MapR.made (w : World) : MapR κ (w.alloc (.map #[] 0)) w.heap.size [] := ⟨#[], 0, heap_alloc_new w _, rfl⟩
theorem MapR.lt (h : MapR κ w g l) : g < w.heap.size := by
  obtain ⟨es, c, hh, _⟩ := h
  exact (Array.getElem?_eq_some_iff.1 hh).1
theorem MapR.of_block {w' : World} (h : MapR κ w g l) (hb : w'.heap[g]? = w.heap[g]?) : MapR κ w' g l := by
  obtain ⟨es, c, hh, he⟩ := h
  exact ⟨es, c, hb.trans hh, he⟩
theorem MapR.below {B : Nat} {w' : World} (h : MapR κ w g l) (hb : Below B w w') (hg : g < B) : MapR κ w' g l := h.of_block (hb.block g hg)
theorem MapR.drew (h : MapR κ w g l) : MapR κ w.drew g l := h
theorem MapR.alloc (h : MapR κ w g l) (o : Obj) : MapR κ (w.alloc o) g l := h.of_block (Below.heap_alloc w o g h.lt)
theorem MapR.grown {row : Option Nat} {w' : World} (h : MapR κ w g l) (hg : w.grownBy w' row) (hne : some g ≠ row) : MapR κ w' g l := h.of_block (hg.block g h.lt hne)
theorem MapR.setCell {p : Addr} {v : Value} (h : MapR κ w g l) (hp : g ≠ p.block) : MapR κ (w.setCell p v) g l := h.of_block (Below.heap_setCell w p v g hp)

end
section
variable {α : Type} [DecidableEq α] {P : Program} {mt kt et : TypeId} {κ : α → Value} {w : World} {g : Nat} {l : List (α × Value)}
theorem assoc_idx : ∀ (l : List (α × Value)) (k : α), ((l.findIdx? fun p => decide (p.1 = k)).bind fun i => (l[i]?).map fun p => (i, p.2)).map (·.2) = assoc l k
  | [], k => rfl
  | p :: r, k => by
    have ih := assoc_idx r k
    unfold assoc at ih ⊢
    rw [List.findIdx?_cons, List.find?_cons]
    by_cases hp : p.1 = k
    · simp [hp]
    · simp only [hp, decide_false, Bool.false_eq_true, if_false]
      rw [← ih]
      cases hf : r.findIdx? fun p => decide (p.1 = k) with
      | none => simp
      | some i => simp [Option.map_map, Function.comp_def]

theorem MapR.lookup (K : KeyTy P mt kt et κ) (h : MapR κ w g l) {z : Value} (hz : ∀ w : World, (zeroValue et).run P w = .ok z w) (k : α) :
    (Instr.lookup mt (.map (some g)) (κ k) false).run P w = .ok ((assoc l k).getD z) w := by
  obtain ⟨es, c, hh, he⟩ := h
  have hf := K.find k l es.toList w he
  have ha := assoc_idx l k
  cases hx : ((l.findIdx? fun p => decide (p.1 = k)).bind fun i => (l[i]?).map fun p => (i, p.2)) with
  | none =>
    rw [hx] at hf ha
    rw [← ha]
    simp [Instr.lookup, run_underlying K.und, getObj, Sem.run, hh, K.check, hf, hz, Sem.run_bind, Result.andThen]
  | some r =>
    rw [hx] at hf ha
    rw [← ha]
    simp [Instr.lookup, run_underlying K.und, getObj, Sem.run, hh, K.check, hf, Sem.run_bind, Result.andThen]
theorem assocSet_idx : ∀ (l : List (α × Value)) (k : α) (v : Value), assocSet l k v = match l.findIdx? fun p => decide (p.1 = k) with
    | some i => l.set i (k, v)
    | none => l ++ [(k, v)]
  | [], k, v => rfl
  | p :: r, k, v => by
    have ih := assocSet_idx r k v
    unfold assocSet
    rw [List.findIdx?_cons]
    by_cases hp : p.1 = k
    · simp [hp]
    · simp only [hp, decide_false, Bool.false_eq_true, if_false]
      rw [ih]
      cases hf : r.findIdx? fun p => decide (p.1 = k) with
      | none => simp
      | some i => simp
theorem MapR.update (K : KeyTy P mt kt et κ) (h : MapR κ w g l) (k : α) (v : Value) :
    ∃ w', (Instr.mapUpdate mt (.map (some g)) (κ k) v).run P w = .ok () w' ∧ MapR κ w' g (assocSet l k v) ∧ w.grownBy w' (some g) ∧ w'.heap.size = w.heap.size := by
  obtain ⟨es, c, hh, he⟩ := h
  have hf := K.find k l es.toList w he
  have hgrow : ∀ o : Obj, w.grownBy { w with heap := w.heap.setIfInBounds g o } (some g) := fun o => ⟨rfl, rfl, rfl, by simp, fun k' _ hne => by
    have : g ≠ k' := fun e => hne (by rw [e])
    simp [Array.getElem?_setIfInBounds_ne this]⟩
  have hlt : g < w.heap.size := (Array.getElem?_eq_some_iff.1 hh).1
  rw [assocSet_idx]
  cases hi : l.findIdx? fun p => decide (p.1 = k) with
  | none =>
    rw [hi] at hf
    simp only [Option.bind_none] at hf
    refine ⟨{ w with heap := w.heap.setIfInBounds g (.map (es.push { key := κ k, val := v, born := c }) (c + 1)) }, ?_, ⟨es.push { key := κ k, val := v, born := c }, c + 1, by simp [hlt], ?_⟩, hgrow _, by simp⟩
    · simp [Instr.mapUpdate, run_underlying K.und, getObj, Sem.run, hh, K.check, hf, setObj, Result.andThen]
    · simp [he]
  | some i =>
    have hil : i < l.length := by
      rw [List.findIdx?_eq_some_iff_getElem] at hi
      exact hi.1
    have hik : l[i].1 = k := by
      rw [List.findIdx?_eq_some_iff_getElem] at hi
      simpa using hi.2.1
    have hsz : es.size = l.length := by
      have := congrArg List.length he
      simpa using this
    have hie : i < es.size := by omega
    have hei : (es[i]).key = κ k := by
      have := congrArg (fun q => q[i]?) he
      simp [hil, hie] at this
      rw [this.1, hik]
    rw [hi] at hf
    simp only [Option.bind_some, List.getElem?_eq_getElem hil, Option.map_some] at hf
    refine ⟨{ w with heap := w.heap.setIfInBounds g (.map (es.modify i fun e => { e with key := κ k, val := v }) c) }, ?_, ⟨es.modify i fun e => { e with key := κ k, val := v }, c, by simp [hlt], ?_⟩, hgrow _, by simp⟩
    · simp [Instr.mapUpdate, run_underlying K.und, getObj, Sem.run, hh, K.check, hf, setObj, Result.andThen, Instr.keyThatStays, hei, hie, K.stays]
    · apply List.ext_getElem?
      intro j
      have hj := congrArg (fun q => q[j]?) he
      simp only [List.getElem?_map, Array.getElem?_toList] at hj ⊢
      rw [Array.getElem?_modify, List.getElem?_set]
      by_cases hji : i = j
      · subst hji
        simp [hil, hie]
      · rw [if_neg hji, if_neg hji]
        exact hj
theorem wpList_update {ops : Array Oper} {rest : List Oper} {o : Oper} {a : Act} {Q : Exit → Act → World → Prop} {m x y : Operand} (K : KeyTy P mt kt et κ) (hgd : o.guard = none) (ho : o.op = .mapUpdate mt m x y)
    {k : α} {v : Value} (hm : a.eval m = .map (some g)) (hx : a.eval x = κ k) (hy : a.eval y = v) (h : MapR κ w g l)
    (hK : ∀ w', MapR κ w' g (assocSet l k v) → w.grownBy w' (some g) → w'.heap.size = w.heap.size → wpList P ops Q rest (a.put o.dst undef) w') : wpList P ops Q (o :: rest) a w := by
  refine wpList_plain hgd fun K' hK' => ?_
  obtain ⟨w', hrun, h1, h2, h3⟩ := h.update K k v
  unfold Oper.wp execOp
  simp only [ho, Sem.run_bind, Sem.run_pure, hm, hx, hy, hrun, Result.andThen]
  exact hK' _ _ (hK w' h1 h2 h3)
end

theorem findNow_spec {α : Type} [DecidableEq α] {κ : α → Value} {d : TypeDesc} (hs : ∀ a b : α, Instr.sameNow d (κ a) (κ b) = some (decide (b = a))) (k : α) : ∀ (l : List (α × Value)) (es : List MapEntry) (n : Nat), es.map (fun e => (e.key, e.val)) = l.map (fun p => (κ p.1, p.2)) →
    Instr.findNow d (κ k) es n = some ((l.findIdx? fun p => decide (p.1 = k)).bind fun i => (l[i]?).map fun p => (n + i, p.2))
  | [], [], n, _ => rfl
  | [], e :: es, n, h => by simp at h
  | p :: r, [], n, h => by simp at h
  | p :: r, e :: es, n, h => by
    simp only [List.map_cons, List.cons.injEq, Prod.mk.injEq] at h
    unfold Instr.findNow
    rw [h.1.1, hs, List.findIdx?_cons]
    by_cases hp : p.1 = k
    · simp [hp, h.1.2]
    · simp only [hp, decide_false, Bool.false_eq_true, if_false]
      rw [findNow_spec hs k r es (n + 1) h.2]
      cases hf : r.findIdx? fun p => decide (p.1 = k) with
      | none => simp
      | some i => simp [Nat.add_assoc, Nat.add_comm 1 i]
theorem bytes_beq (a b : ByteArray) : (a == b) = decide (b = a) := by
  obtain ⟨x⟩ := a
  obtain ⟨y⟩ := b
  have h : ((⟨x⟩ : ByteArray) == ⟨y⟩) = (x == y) := rfl
  rw [h]
  by_cases e : x = y
  · subst e; simp
  · rw [beq_eq_false_iff_ne.2 e, decide_eq_false fun h => e (by injection h with h; exact h.symm)]
theorem keyTy_str {P : Program} {mt kt et : TypeId} (h1 : P.underlying mt = some (.map kt et)) (h2 : P.underlying kt = some .string) : KeyTy P mt kt et Value.string where
  und := h1
  check := fun b a w => by
    show (Instr.checkKey b (9999 + 1) kt (.string a)).run P w = _
    unfold Instr.checkKey
    simp only [Sem.run_bind, run_underlying h2, Result.andThen, Sem.run_pure]
  find := fun k l es w h => by
    unfold Instr.findKey
    have := findNow_spec (κ := Value.string) (d := .string) (fun a b : ByteArray => (congrArg some (bytes_beq a b) : some (a == b) = some (decide (b = a)))) k l es 0 h
    simp only [Sem.run_bind, run_underlying h2, Result.andThen, this, Nat.zero_add, Sem.run_pure]
  stays := fun a => by
    rw [show (10000 : Nat) = 9999 + 1 from rfl]
    have := bytes_beq a a
    simp [Instr.sameBits, this]
end Go.Proofs.YtkedmiememnmjaaGreat
namespace Go.Proofs.YtkedmiememnmjaaGreat
open Go.RowKit

def badSym (n m : Nat) (s : Int) : Bool := decide ((n : Int) ≤ s) || decide (s < -(m : Int))
theorem fits_clo (g : Nat) (A1 A2 : Option Addr) (n m c d : Nat) (s : Int) (w : World) (h1 : w.cell? ⟨g, 0, none⟩ = some (.slice A1 n c)) (h2 : w.cell? ⟨g, 1, none⟩ = some (.slice A2 m d)) (hm : m ≤ 9223372036854775807) :
    Calls Tryz.prog 89 #[.int .i64 s, .pointer (some ⟨g, 0, none⟩)] w fun e w' => e = .returned (.bool (badSym n m s)) ∧ w = w' := by
  by_cases hb : (n : Int) ≤ s
  · have hd : decide ((n : Int) ≤ s) = true := by simpa using hb
    go_enter Tryz.func89, Tryz.ntmps89
    go_wp2
    go_ret
    exact ⟨rt1 (vbool (by unfold badSym; rw [hd]; rfl)), rfl⟩
  · have hd : decide ((n : Int) ≤ s) = false := by simpa using hb
    have HD := Lib.hid hd
    go_enter Tryz.func89, Tryz.ntmps89
    go_wp2
    all_goals
      go_ret
      exact ⟨rt1 (vbool (by rw [Bool.eq_iff_iff]; simp [badSym] <;> omega)), rfl⟩

def fitsB (n m : Nat) (r : Int × List Int) : Bool := decide (0 ≤ r.1 ∧ r.1 < n) && decide (r.2.length ≤ 64) && !r.2.any (badSym n m)
set_option maxHeartbeats 1000000 in
theorem fits_any (A1 A2 : Option Addr) (v3 v : Value) (n m c d : Nat) (l : Int) (r : List Int) (w : World) (hm : m ≤ 9223372036854775807) (hv : SlR eInt w w.heap.size v r) :
    Calls Tryz.prog 56 #[.agg #[.slice A1 n c, .slice A2 m d, v3], .agg #[.int .i64 l, v]] w fun e w' => e = .returned (.bool (fitsB n m (l, r))) ∧ Below w.heap.size w w' := by
  obtain ⟨B, e, rfl, he1, he2⟩ := hv.form
  unfold maxLen at he2
  by_cases h1 : 0 ≤ l ∧ l < n ∧ r.length ≤ 64
  · obtain ⟨g1, g2, g3⟩ := h1
    have HD : Hid (fitsB n m (l, r) = !r.any (badSym n m)) := by
      show _ = _
      unfold fitsB
      simp [g1, g2, g3]
    go_enter Tryz.func56, Tryz.ntmps56
    go_wp2_with fail
    have HW : Hid (∃ W : World, W = (w.alloc (Obj.cells #[Value.slice A1 n c, Value.slice A2 m d, v3] 25)).alloc (Obj.cells #[Value.int IntKind.i64 l, Value.slice B r.length e] 48)) := ⟨_, rfl⟩
    have hbw : Below w.heap.size w ((w.alloc (Obj.cells #[Value.slice A1 n c, Value.slice A2 m d, v3] 25)).alloc (Obj.cells #[Value.int IntKind.i64 l, Value.slice B r.length e] 48)) := by go_grown
    refine (conf_int 89 #[.pointer (some ⟨w.heap.size, 0, none⟩)] (badSym n m) _ r _ (hv.next hbw (by simp; omega)) (fun _ _ => by kernel_rfl) ?_).mono ?_
    · intro cs x w2 hx hb2 _
      refine (fits_clo w.heap.size A1 A2 n m c d x w2 ?_ ?_ hm).mono fun e w3 ⟨he, hw⟩ => ⟨he, hw ▸ Below.refl _ _⟩
      · rw [hb2.cell (p := ⟨w.heap.size, 0, none⟩) (by simp; omega)]; simp
      · rw [hb2.cell (p := ⟨w.heap.size, 1, none⟩) (by simp; omega)]; simp
    rintro e w1 ⟨rfl, hb1⟩
    go_wp2
    go_ret
    exact ⟨rt1 (vbool (by rw [HD.out])), hbw.trans (hb1.mono (by simp; omega))⟩
  · have HD : Hid (fitsB n m (l, r) = false) := by
      show _ = _
      unfold fitsB
      rw [Bool.eq_false_iff]
      intro h
      simp at h
      exact h1 ⟨h.1.1.1, h.1.1.2, h.1.2⟩
    have hc : l < 0 ∨ (0 ≤ l ∧ (n : Int) ≤ l) ∨ (0 ≤ l ∧ l < n ∧ 64 < r.length) := by omega
    rcases hc with h | ⟨h, h'⟩ | ⟨h, h', h''⟩
    all_goals
      go_enter Tryz.func56, Tryz.ntmps56
      go_wp2
      all_goals first
        | (exfalso; omega)
        | (exfalso; simp at *; omega)
        | (go_ret; exact ⟨rt1 (vbool (by rw [HD.out])), by go_grown⟩)

def ofTo (rs : List (Int × List Int)) (left : Int) (k : Nat) : List Int := ((List.range k).filter fun i : Nat => decide ((rs.getD i (0, [])).1 = left)).map fun i : Nat => Int.ofNat i
theorem ofTo_succ (rs : List (Int × List Int)) (left : Int) (k : Nat) (h : k < rs.length) : ofTo rs left (k + 1) = ofTo rs left k ++ if rs[k].1 = left then [(k : Int)] else [] := by
  unfold ofTo
  rw [List.range_succ, List.filter_append, List.map_append]
  simp [List.getD_eq_getElem?_getD, List.getElem?_eq_getElem h, List.filter_cons]
  split <;> simp
theorem ofTo_le (rs : List (Int × List Int)) (left : Int) (k : Nat) : (ofTo rs left k).length ≤ k := by
  unfold ofTo
  rw [List.length_map]
  exact Nat.le_trans (List.length_filter_le _ _) (by simp)
theorem int_app : AppTy Tryz.prog 40 3 1 8 (.int .i64 0) := appTy Tryz.underlying40 (by kernel_rfl) rfl (by omega)
def icells (l : List Int) : List Value := l.map (Value.int .i64)
set_option maxHeartbeats 1000000 in
theorem gram_of (A1 A2 : Option Addr) (v3 : Value) (n m c d : Nat) (left : Int) (rs : List (Int × List Int)) (w : World) (hv : SlR eRule w w.heap.size v3 rs) (hr : rs.length ≤ 1099511627776) :
    Calls Tryz.prog 57 #[.agg #[.slice A1 n c, .slice A2 m d, v3], .int .i64 left] w fun e w' => ∃ v, e = .returned v ∧
      w'.ownsRow w.heap.size 3 1 v (ofTo rs left rs.length).length (icells (ofTo rs left rs.length)) ∧ Below w.heap.size w w' := by
  obtain ⟨B, e, rfl, he1, he2⟩ := hv.form
  unfold maxLen at he2
  go_enter Tryz.func57, Tryz.ntmps57
  go_wp2_with fail
  go_loopw [5, 11] (fun v5 v11 wr => ∃ k : Nat, k ≤ rs.length ∧ v11 = .int .i64 k ∧ wr.ownsRow w.heap.size 3 1 v5 (ofTo rs left k).length (icells (ofTo rs left k)) ∧ Below w.heap.size w wr) (fun _ v11 _ => rs.length - (intOf v11).toNat)
  case atStart => exact ⟨0, by omega, rfl, by simpa [ofTo, icells] using World.ownsRow_nil _ _ _ _, by go_grown⟩
  case round =>
    obtain ⟨k, hk, rfl, hown, hbr⟩ := hrel
    by_cases hlt : k < rs.length
    · obtain ⟨ab, ao, cs, rfl, _, hab, hrep, hcell⟩ := (hv.below hbr).get hlt (by decide)
      obtain ⟨u, rfl, hu, hz1, hz2⟩ := eRule_open hrep
      obtain ⟨A3, e3, rfl, _, _⟩ := hu.form
      have hc0 := hcell 0 _ rfl
      have hc1' := hcell 1 _ rfl
      clear hcell
      simp only [show eRule.size = 2 from rfl, Nat.add_zero, ← Nat.add_assoc] at hc0 hc1'
      have hsn := Lib.hid (ofTo_succ rs left k hlt)
      have hle := ofTo_le rs left k
      have hbs := hbr.size
      by_cases hq : rs[k].1 = left
      · have hqb : (rs[k].1 == left) = true := by simp [hq]
        have HQ := Lib.hid hq
        clear hq
        go_wp2_with (at_builtin; refine wpList_app int_app rfl rfl rfl rfl ((hown.alloc _).alloc _) (Rd.row (B := wr.heap.size + 2) (heap_two wr _ _) (by omega)) rfl (by simp [Value.oneCell']) ?h63 ?hby ?hbase ?_)
        case h63 => simp only [maxLen]; omega
        case hby => omega
        case hbase => simp; omega
        intro v1 w3 hown3 hg3 _ _
        go_wp2
        go_roundw
        case rel =>
          refine ⟨k + 1, by omega, by go_num, ?_, ?_⟩
          · rw [hsn.out, if_pos HQ.out]
            simpa [icells] using hown3
          · exact grown_below ((hbr.alloc hbs _).alloc (by simp; omega) _) hg3 ((hown.alloc _).alloc _) (Nat.le_refl _) (by simp; omega)
        case measure => simp [intOf]; omega
      · have hqb : (rs[k].1 == left) = false := by simp [hq]
        have HQ := Lib.hid hq
        clear hq
        go_wp2
        go_roundw
        case rel => exact ⟨k + 1, by omega, by go_num, by rw [hsn.out, if_neg HQ.out, List.append_nil]; exact hown.alloc _, hbr.alloc hbs _⟩
        case measure => simp [intOf]; omega
    · have hkl : k = rs.length := by omega
      subst hkl
      go_wp2
      go_ret
      exact ⟨_, rfl, hown, hbr⟩

def distinctB (may : List UInt8 → Bool) (ns : List ByteArray) : Bool := ns.all (fun s => may s.data.toList) && decide ns.Nodup
def onesOf (ns : List ByteArray) : List (ByteArray × Value) := ns.map fun n => (n, .int .i64 1)
theorem assoc_ones (ns : List ByteArray) (s : ByteArray) : assoc (onesOf ns) s = if ns.any (fun n => decide (n = s)) then some (Value.int .i64 1) else none := by
  unfold assoc onesOf
  induction ns with
  | nil => rfl
  | cons n ns ih =>
    rw [List.map_cons, List.find?_cons]
    by_cases h : n = s
    · subst h; simp
    · simp only [h, decide_false, List.any_cons, Bool.false_or]
      rw [ih]
theorem assocSet_ones (ns : List ByteArray) (s : ByteArray) (v : Value) (h : s ∉ ns) : assocSet (onesOf ns) s v = onesOf ns ++ [(s, v)] := by
  induction ns with
  | nil => rfl
  | cons n ns ih =>
    simp only [List.mem_cons, not_or] at h
    show assocSet ((n, Value.int .i64 1) :: onesOf ns) s v = _
    unfold assocSet
    rw [if_neg (Ne.symm h.1), ih h.2]
    rfl
theorem onesOf_snoc (ns : List ByteArray) (k : Nat) (h : k < ns.length) : onesOf (ns.take (k + 1)) = onesOf (ns.take k) ++ [(ns[k], .int .i64 1)] := by
  rw [List.take_succ_eq_append_getElem h]; unfold onesOf; rw [List.map_append]; rfl
theorem strInt_keys : KeyTy Tryz.prog 117 9 3 Value.string := keyTy_str Tryz.underlying117 Tryz.underlying9
theorem zero_int (w : World) : (zeroValue 3).run Tryz.prog w = .ok (.int .i64 0) w := by kernel_rfl
end Go.Proofs.YtkedmiememnmjaaGreat
namespace Go.Proofs.YtkedmiememnmjaaGreat
open Go.RowKit

theorem not_mem_any {ns : List ByteArray} {s : ByteArray} (h : (ns.any fun x => decide (x = s)) = false) : s ∉ ns := by
  intro hm
  rw [← Bool.not_eq_true, List.any_eq_true] at h
  exact h ⟨s, hm, by simp⟩
set_option maxHeartbeats 1000000 in
theorem distinct_any (F : FuncId) (may : List UInt8 → Bool) (v : Value) (ns : List ByteArray) (w : World) (hv : SlR eStr w w.heap.size v ns)
    (hF : ∀ (args : Array Value) (w : World), (callFunc F args).run Tryz.prog w = .ok (.enter F args) w)
    (hp : ∀ (s : ByteArray) (w : World), s.size ≤ maxLen → Calls Tryz.prog F #[.string s] w fun e w' => e = .returned (.bool (may s.data.toList)) ∧ w = w') :
    Calls Tryz.prog 53 #[v, .func (.func F) #[] #[]] w fun e w' => e = .returned (.bool (distinctB may ns)) ∧ Below w.heap.size w w' := by
  have hmm := @run_makeMap Tryz.prog
  have HP := Lib.hid hp
  clear hp
  obtain ⟨A, c, rfl, hc1, hc2⟩ := hv.form
  unfold maxLen at hc2
  go_enter Tryz.func53, Tryz.ntmps53
  go_wp2_with fail
  go_loopw [11] (fun v11 wr => ∃ k : Nat, k ≤ ns.length ∧ v11 = .int .i64 k ∧ Hid ((∀ s ∈ ns.take k, may s.data.toList = true) ∧ (ns.take k).Nodup) ∧ MapR Value.string wr w.heap.size (onesOf (ns.take k)) ∧ Below w.heap.size w wr) (fun v11 _ => ns.length - (intOf v11).toNat)
  case atStart => exact ⟨0, by omega, rfl, by simp [Hid], MapR.made w, by go_grown⟩
  case round =>
    obtain ⟨k, hk, rfl, hno, hmp, hbr⟩ := hrel
    by_cases hlt : k < ns.length
    · obtain ⟨ab, ao, cs, rfl, _, hab, hrep, hcell⟩ := (hv.below hbr).get hlt (by decide)
      obtain ⟨rfl, hx1⟩ := hrep
      have hc0 := hcell 0 _ rfl
      clear hcell
      simp only [show eStr.size = 1 from rfl, Nat.mul_one, Nat.add_zero] at hc0
      have HX := Lib.hid hx1
      have hsn := Lib.hid (nodup_snoc ns k hlt)
      have hon := Lib.hid (onesOf_snoc ns k hlt)
      have hlk := hmp.lookup strInt_keys zero_int ns[k]
      rw [assoc_ones] at hlk
      rcases Bool.eq_false_or_eq_true (may ns[k].data.toList) with hm | hm
      · have HM := Lib.hid hm
        clear hm
        rcases Bool.eq_false_or_eq_true ((ns.take k).any fun x => decide (x = ns[k])) with hany | hany
        · rw [hany, if_pos rfl] at hlk
          have HA := Lib.hid hany
          clear hany
          simp only [Option.getD_some] at hlk
          go_wp2_with fail
          refine (HP.out ns[k] wr HX.out).mono ?_
          rintro e w1 ⟨rfl, rfl⟩
          rw [HM.out]
          go_wp2_with fail
          go_ret
          refine ⟨rt1 (vbool ?_), hbr⟩
          rw [eq_comm, distinctB, Bool.and_eq_false_iff]
          right
          rw [decide_eq_false_iff_not]
          intro hnd
          have h3 := hsn.out.1 (hnd.sublist (List.take_sublist _ _))
          rw [HA.out] at h3
          cases h3.2
        · rw [hany, if_neg (by decide)] at hlk
          have HA := Lib.hid hany
          clear hany
          simp only [Option.getD_none] at hlk
          go_wp2_with fail
          refine (HP.out ns[k] wr HX.out).mono ?_
          rintro e w1 ⟨rfl, rfl⟩
          rw [HM.out]
          go_wp2_with (at_mapUpdate; refine wpList_update strInt_keys rfl rfl rfl rfl rfl hmp ?_; intro w2 hmp2 hg2 hs2)
          have hmp3 : MapR Value.string w2 w.heap.size (onesOf (ns.take (k + 1))) := by rw [hon.out, ← assocSet_ones _ _ _ (not_mem_any HA.out)]; exact hmp2
          go_wp2
          go_roundw
          case rel =>
            refine ⟨k + 1, by omega, by go_num, ⟨fun s hs => ?_, hsn.out.2 ⟨hno.out.2, HA.out⟩⟩, hmp3, hbr.grown hg2 hbr.size (fun j hj => by cases hj; exact Nat.le_refl _)⟩
            rw [List.take_succ_eq_append_getElem hlt, List.mem_append, List.mem_singleton] at hs
            rcases hs with hs | rfl
            · exact hno.out.1 s hs
            · exact HM.out
          case measure => simp [intOf]; omega
      · have HM := Lib.hid hm
        clear hm
        go_wp2_with fail
        refine (HP.out ns[k] wr HX.out).mono ?_
        rintro e w1 ⟨rfl, rfl⟩
        rw [HM.out]
        go_wp2
        go_ret
        refine ⟨rt1 (vbool ?_), hbr⟩
        rw [eq_comm, distinctB, Bool.and_eq_false_iff]
        left
        rw [← Bool.not_eq_true, List.all_eq_true]
        intro h
        have := h _ (List.getElem_mem hlt)
        rw [HM.out] at this
        cases this
    · go_wp2
      go_ret
      refine ⟨rt1 (vbool ?_), hbr⟩
      have h := hno.out
      rw [List.take_of_length_le (by omega)] at h
      rw [eq_comm, distinctB, Bool.and_eq_true, List.all_eq_true, decide_eq_true_eq]
      exact h

theorem isTermSym_any (s : Int) (w : World) : Calls Tryz.prog 60 #[.int .i64 s] w fun e w' => e = .returned (.bool (decide (s < 0))) ∧ w = w' := by
  go_enter Tryz.func60, Tryz.ntmps60
  go_wp2
  go_ret
  exact ⟨rfl, rfl⟩

abbrev Gram := List ByteArray × List ByteArray × List (Int × List Int)
def gramB (g : Gram) : Bool := decide (g.1.length ≠ 0) && decide (g.1.length + g.2.1.length ≤ 256) && decide (g.2.2.length ≤ 4096) && distinctB isNameB g.1 && distinctB isTermB g.2.1 &&
  g.2.2.all (fitsB g.1.length g.2.1.length) && (List.range g.1.length).all (fun i => decide ((ofTo g.2.2 i g.2.2.length).length ≠ 0)) && decide g.2.2.Nodup
set_option maxHeartbeats 2000000 in
theorem gramValid_any (v1 v2 v3 : Value) (ns ts : List ByteArray) (rs : List (Int × List Int)) (w : World) (hsz : ns.length + ts.length ≤ 4611686018427387904) (h1 : SlR eStr w w.heap.size v1 ns) (h2 : SlR eStr w w.heap.size v2 ts) (h3 : SlR eRule w w.heap.size v3 rs) :
    Calls Tryz.prog 31 #[.agg #[v1, v2, v3]] w fun e w' => e = .returned (.bool (gramB (ns, ts, rs))) ∧ Below w.heap.size w w' := by
  obtain ⟨A1, c1, rfl, hc1, hc1'⟩ := h1.form
  obtain ⟨A2, c2, rfl, hc2, hc2'⟩ := h2.form
  obtain ⟨A3, c3, rfl, hc3, hc3'⟩ := h3.form
  unfold maxLen at hc1' hc2' hc3'
  have hcase : ns.length = 0 ∨ (0 < ns.length ∧ 256 < ns.length + ts.length) ∨ (0 < ns.length ∧ ns.length + ts.length ≤ 256 ∧ 4096 < rs.length) ∨ (0 < ns.length ∧ ns.length + ts.length ≤ 256 ∧ rs.length ≤ 4096) := by omega
  by_cases hgood : 0 < ns.length ∧ ns.length + ts.length ≤ 256 ∧ rs.length ≤ 4096
  case neg =>
    have HF : Hid (gramB (ns, ts, rs) = false) := by
      show _ = _
      rw [← Bool.not_eq_true]
      intro h
      simp only [gramB, Bool.and_eq_true, decide_eq_true_eq] at h
      obtain ⟨⟨⟨⟨⟨⟨⟨a1, a2⟩, a3⟩, _⟩, _⟩, _⟩, _⟩, _⟩ := h
      exact hgood ⟨by omega, a2, a3⟩
    rcases hcase with h | ⟨h0, h⟩ | ⟨h0, h0', h⟩ | h
    case inr.inr.inr => exact absurd h hgood
    all_goals
      first
        | (have hz : ((ns.length : Int) == 0) = true := by simp; exact List.eq_nil_of_length_eq_zero h)
        | (have hz : ((ns.length : Int) == 0) = false := by simp; intro e; subst e; simp at h0)
      go_enter Tryz.func31, Tryz.ntmps31
      go_wp2_with fail
      all_goals first
        | (exfalso; omega)
        | (go_ret; exact ⟨rt1 (vbool HF.out.symm), by go_grown⟩)
        | (exfalso; simp at *; omega)
  clear hcase
  obtain ⟨g1, g2, g3⟩ := hgood
  have hz : ((ns.length : Int) == 0) = false := by simp; intro e; subst e; simp at g1
  have HDEF : Hid (gramB (ns, ts, rs) = (distinctB isNameB ns && distinctB isTermB ts && rs.all (fitsB ns.length ts.length) && (List.range ns.length).all (fun i => decide ((ofTo rs i rs.length).length ≠ 0)) && decide rs.Nodup)) := by
    show _ = _
    unfold gramB
    simp only [show decide (ns.length + ts.length ≤ 256) = true by simpa using g2, show decide (rs.length ≤ 4096) = true by simpa using g3, show decide (ns.length ≠ 0) = true from decide_eq_true (by omega), Bool.true_and]
  have hsum : ((ns.length : Int) + ts.length) ≤ 256 := by omega
  have hrl : ((rs.length : Int)) ≤ 4096 := by omega
  go_enter Tryz.func31, Tryz.ntmps31
  go_wp2_with fail
  have HW : Hid (Below w.heap.size w (w.alloc (Obj.cells #[Value.slice A1 ns.length c1, Value.slice A2 ts.length c2, Value.slice A3 rs.length c3] 25))) := (Below.refl _ _).alloc (Nat.le_refl _) _
  have HS : Hid ((w.alloc (Obj.cells #[Value.slice A1 ns.length c1, Value.slice A2 ts.length c2, Value.slice A3 rs.length c3] 25)).heap.size = w.heap.size + 1) := by show _ = _; simp
  have k0 : (w.alloc (Obj.cells #[Value.slice A1 ns.length c1, Value.slice A2 ts.length c2, Value.slice A3 rs.length c3] 25)).cell? ⟨w.heap.size, 0, none⟩ = some (Value.slice A1 ns.length c1) := by simp
  have k1 : (w.alloc (Obj.cells #[Value.slice A1 ns.length c1, Value.slice A2 ts.length c2, Value.slice A3 rs.length c3] 25)).cell? ⟨w.heap.size, 1, none⟩ = some (Value.slice A2 ts.length c2) := by simp
  have k2 : (w.alloc (Obj.cells #[Value.slice A1 ns.length c1, Value.slice A2 ts.length c2, Value.slice A3 rs.length c3] 25)).cell? ⟨w.heap.size, 2, none⟩ = some (Value.slice A3 rs.length c3) := by simp
  generalize w.alloc (Obj.cells #[Value.slice A1 ns.length c1, Value.slice A2 ts.length c2, Value.slice A3 rs.length c3] 25) = W at HW HS k0 k1 k2 ⊢
  have h1W := h1.next HW.out (B' := W.heap.size) (by rw [HS.out]; omega)
  refine (distinct_any 54 isNameB _ ns W h1W (fun _ _ => by kernel_rfl) (fun s w hs => isName_any s w hs)).mono ?_
  rintro e w1 ⟨rfl, hb1⟩
  have hws := HS.out
  have hW1 : Below (w.heap.size + 1) W w1 := hb1.mono (by omega)
  rcases Bool.eq_false_or_eq_true (distinctB isNameB ns) with hd1 | hd1
  case inr =>
    have HD := Lib.hid hd1
    rw [hd1]
    go_wp2
    go_ret
    exact ⟨rt1 (vbool (by rw [HDEF.out, HD.out]; rfl)), HW.out.trans (hb1.mono (by omega))⟩
  have HD1 := Lib.hid hd1
  rw [hd1]
  clear hd1
  have k1' := (hW1.cell (p := ⟨w.heap.size, 1, none⟩) (Nat.lt_succ_self _)).trans k1
  go_wp2_with fail
  have hs1 := hb1.size
  refine (distinct_any 55 isTermB _ ts w1 (h2.next (HW.out.trans (hb1.mono (by omega))) (by omega)) (fun _ _ => by kernel_rfl) (fun s w hs => isTerm_any s w hs)).mono ?_
  rintro e w2 ⟨rfl, hb2⟩
  have hW2 : Below (w.heap.size + 1) W w2 := hW1.trans (hb2.mono (by omega))
  rcases Bool.eq_false_or_eq_true (distinctB isTermB ts) with hd2 | hd2
  case inr =>
    have HD := Lib.hid hd2
    rw [hd2]
    go_wp2
    go_ret
    exact ⟨rt1 (vbool (by rw [HDEF.out, HD.out]; simp)), HW.out.trans (hW2.mono (by omega))⟩
  have HD2 := Lib.hid hd2
  rw [hd2]
  clear hd2
  have k2' := (hW2.cell (p := ⟨w.heap.size, 2, none⟩) (Nat.lt_succ_self _)).trans k2
  go_wp2_with fail
  go_loopw [39] (fun v39 wr => ∃ k : Nat, k ≤ rs.length ∧ v39 = .int .i64 k ∧ Hid ((rs.take k).all (fitsB ns.length ts.length) = true) ∧ Below (w.heap.size + 1) W wr) (fun v39 _ => rs.length - (intOf v39).toNat)
  case atStart => exact ⟨0, by omega, rfl, by simp [Hid], hW2⟩
  case round =>
    obtain ⟨k, hk, rfl, hno, hbr⟩ := hrel
    have hbr0 := HW.out.trans (hbr.mono (Nat.le_succ _))
    have r0 := (hbr.cell (p := ⟨w.heap.size, 0, none⟩) (Nat.lt_succ_self _)).trans k0
    have r1 := (hbr.cell (p := ⟨w.heap.size, 1, none⟩) (Nat.lt_succ_self _)).trans k1
    have r2 := (hbr.cell (p := ⟨w.heap.size, 2, none⟩) (Nat.lt_succ_self _)).trans k2
    by_cases hlt : k < rs.length
    · obtain ⟨ab, ao, cs, rfl, _, hab, hrep, hcell⟩ := (h3.below hbr0).get hlt (by decide)
      obtain ⟨u, rfl, hu, hz1, hz2⟩ := eRule_open hrep
      obtain ⟨A4, e4, rfl, _, _⟩ := hu.form
      have hc0 := hcell 0 _ rfl
      have hc1' := hcell 1 _ rfl
      clear hcell
      simp only [show eRule.size = 2 from rfl, Nat.add_zero, ← Nat.add_assoc] at hc0 hc1'
      have hsz1 := hbr.size
      have hg1 : w.heap.size < wr.heap.size := by omega
      have HSN := Lib.hid (List.take_succ_eq_append_getElem hlt)
      rcases Bool.eq_false_or_eq_true (fitsB ns.length ts.length (rs[k].1, rs[k].2)) with hq | hq
      · have HQ := Lib.hid hq
        clear hq
        go_wp2_with fail
        have hb3 : Below wr.heap.size wr (wr.alloc (Obj.cells #[Value.int IntKind.i64 rs[k].fst, Value.slice A4 rs[k].snd.length e4] 48)) := (Below.refl _ _).alloc (Nat.le_refl _) _
        refine (fits_any A1 A2 _ _ ns.length ts.length c1 c2 rs[k].1 rs[k].2 _ (by omega) (hu.fut hb3 (by omega) (by simp; omega))).mono ?_
        rintro e w3 ⟨rfl, hb4⟩
        rw [HQ.out]
        go_wp2
        go_roundw
        case rel => exact ⟨k + 1, by omega, by go_num, by show _ = _; rw [HSN.out, List.all_append, hno.out]; simpa using HQ.out, hbr.trans ((hb3.mono (by omega : w.heap.size + 1 ≤ wr.heap.size)).trans (hb4.mono (by simp; omega)))⟩
        case measure => simp [intOf]; omega
      · have HQ := Lib.hid hq
        clear hq
        go_wp2_with fail
        have hb3 : Below wr.heap.size wr (wr.alloc (Obj.cells #[Value.int IntKind.i64 rs[k].fst, Value.slice A4 rs[k].snd.length e4] 48)) := (Below.refl _ _).alloc (Nat.le_refl _) _
        refine (fits_any A1 A2 _ _ ns.length ts.length c1 c2 rs[k].1 rs[k].2 _ (by omega) (hu.fut hb3 (by omega) (by simp; omega))).mono ?_
        rintro e w3 ⟨rfl, hb4⟩
        rw [HQ.out]
        go_wp2
        go_ret
        refine ⟨rt1 (vbool ?_), hbr0.trans ((hb3.mono (by omega)).trans (hb4.mono (by simp; omega)))⟩
        have hf : rs.all (fitsB ns.length ts.length) = false := by
          rw [← Bool.not_eq_true, List.all_eq_true]
          intro h
          have h' := HQ.out
          rw [h _ (List.getElem_mem hlt)] at h'
          cases h'
        rw [HDEF.out, hf]
        simp
    have HALL : Hid (rs.all (fitsB ns.length ts.length) = true) := by
      show _ = _
      have := hno.out
      rwa [List.take_of_length_le (by omega)] at this
    have hkr : k = rs.length := by omega
    subst hkr
    go_wp2_with fail
    go_loopw [51] (fun v51 wt => ∃ k : Nat, k ≤ ns.length ∧ v51 = .int .i64 k ∧ Hid (∀ i : Nat, i < k → (ofTo rs i rs.length).length ≠ 0) ∧ Below (w.heap.size + 1) W wt) (fun v51 _ => ns.length - (intOf v51).toNat)
    case atStart => exact ⟨0, by omega, rfl, fun i hi => absurd hi (by omega), hbr⟩
    case round =>
      clear hbr0 r0 r1 r2 hbr hno
      obtain ⟨k, hk', rfl, hno, hbr⟩ := hrel
      have hbr0 := HW.out.trans (hbr.mono (Nat.le_succ _))
      have r0 := (hbr.cell (p := ⟨w.heap.size, 0, none⟩) (Nat.lt_succ_self _)).trans k0
      have r1 := (hbr.cell (p := ⟨w.heap.size, 1, none⟩) (Nat.lt_succ_self _)).trans k1
      have r2 := (hbr.cell (p := ⟨w.heap.size, 2, none⟩) (Nat.lt_succ_self _)).trans k2
      have hsz1 := hbr.size
      by_cases hlt : k < ns.length
      · by_cases hq : (ofTo rs k rs.length).length = 0
        · have hqb : (((ofTo rs k rs.length).length : Int) == 0) = true := by simp only [hq]; rfl
          have HQ := Lib.hid hq
          clear hq
          go_wp2_with fail
          refine (gram_of A1 A2 _ ns.length ts.length c1 c2 k rs wr (h3.next hbr0 (by omega)) (by omega)).mono ?_
          rintro e w3 ⟨v, rfl, hown, hb4⟩
          obtain ⟨A5, c5, rfl, _, _⟩ := own_form hown
          go_wp2
          go_ret
          refine ⟨rt1 (vbool ?_), hbr0.trans (hb4.mono (by omega))⟩
          have hf : (List.range ns.length).all (fun i => decide ((ofTo rs i rs.length).length ≠ 0)) = false := by
            rw [← Bool.not_eq_true, List.all_eq_true]
            intro h
            exact absurd HQ.out (of_decide_eq_true (h k (List.mem_range.2 hlt)))
          rw [HDEF.out, hf]
          simp
        · have hqb : (((ofTo rs k rs.length).length : Int) == 0) = false := by rw [beq_eq_false_iff_ne]; omega
          have HQ := Lib.hid hq
          clear hq
          go_wp2_with fail
          refine (gram_of A1 A2 _ ns.length ts.length c1 c2 k rs wr (h3.next hbr0 (by omega)) (by omega)).mono ?_
          rintro e w3 ⟨v, rfl, hown, hb4⟩
          obtain ⟨A5, c5, rfl, _, _⟩ := own_form hown
          go_wp2
          go_roundw
          case rel => exact ⟨k + 1, by omega, by go_num, fun i hi => by by_cases e : i = k; (subst e; exact HQ.out); exact hno.out i (by omega), hbr.trans (hb4.mono (by omega))⟩
          case measure => simp [intOf]; omega
      · have hf : Hid ((List.range ns.length).all (fun i => decide ((ofTo rs i rs.length).length ≠ 0)) = true) := by
          show _ = _
          rw [List.all_eq_true]
          intro i hi
          have := List.mem_range.1 hi
          exact decide_eq_true (hno.out i (by omega))
        go_wp2_with fail
        refine (twice_any _ rs wr (h3.next hbr0 (by omega))).mono ?_
        rintro e w3 ⟨rfl, hb4⟩
        go_wp2
        go_ret
        refine ⟨rt1 (vbool ?_), hbr0.trans (hb4.mono (by omega))⟩
        rw [HDEF.out, HD1.out, HD2.out, HALL.out, hf.out]
        simp
end Go.Proofs.YtkedmiememnmjaaGreat
namespace Go.Proofs.YtkedmiememnmjaaGreat
open Go.RowKit

set_option maxHeartbeats 1600000 in
theorem find14_any (v : Value) (ns : List ByteArray) (s : ByteArray) (w : World) (hv : SlR eStr w w.heap.size v ns) :
    Calls Tryz.prog 38 #[v, .string s] w fun e w' => e = .returned (.int .i64 (idxOf (fun x => decide (x = s)) ns)) ∧ w = w' := by
  obtain ⟨A, c, rfl, hc1, hc2⟩ := hv.form
  unfold maxLen at hc2
  have HV := Lib.hid hv
  obtain ⟨n, hn⟩ : ∃ n, n = ns.length := ⟨_, rfl⟩
  rw [← hn] at HV hc1 ⊢
  have HN := Lib.hid hn
  clear hv hn
  go_enter Tryz.func38, Tryz.ntmps38
  go_wp2_with fail
  go_loopg [5] n (fun left v5 wr => ∃ i : Nat, i ≤ n ∧ n - i ≤ left ∧ v5 = .int .i64 i ∧ wr = w ∧ Hid (∀ (j : Nat) (h : j < ns.length), j < i → (fun x => decide (x = s)) ns[j] = false))
  case atStart => exact ⟨0, by omega, by omega, rfl, rfl, fun j h hj => by omega⟩
  case round =>
    obtain ⟨i, hi, hleft, rfl, rfl, HNO⟩ := hrel
    by_cases hib : i < n
    · have hil : i < ns.length := by rw [← HN.out]; exact hib
      obtain ⟨b, o, cs, rfl, -, -, hrep, hcell⟩ := HV.out.get hil (by decide)
      obtain ⟨rfl, hx1⟩ := hrep
      have hc0 := hcell 0 _ rfl
      simp only [show eStr.size = 1 from rfl, Nat.mul_one, Nat.add_zero] at hc0
      have HHIT := Lib.hid (idxOf_hit (p := fun x => decide (x = s)) hil HNO.out)
      by_cases he : ns[i] = s
      · have hb : (ns[i].toList == s.toList) = true := by rw [he]; exact beq_self_eq_true _
        have HX := Lib.hid (HHIT.out (by simpa using he))
        clear hcell he
        go_wp2_with fail
        go_ret
        exact ⟨rt1 (vint HX.out.symm), rfl⟩
      · have hb : (ns[i].toList == s.toList) = false := by rw [← beq_toListBytes, bytes_beq, decide_eq_false_iff_not]; exact fun e => he e.symm
        have HE := Lib.hid he
        clear hcell he
        go_wp2_with fail
        go_roundg (gk - 1)
        case measure => omega
        case rel => exact ⟨i + 1, by omega, by omega, by go_num, rfl, fun j h hj => by by_cases e : j = i; (subst e; simpa using HE.out); exact HNO.out j h (by omega)⟩
    · have HX := Lib.hid (idxOf_miss (p := fun x => decide (x = s)) (xs := ns) fun j h => HNO.out j h (by have := HN.out; omega))
      go_wp2_with fail
      go_ret
      exact ⟨rt1 (vint HX.out.symm), rfl⟩
set_option maxHeartbeats 1600000 in
theorem same14_any (a b : Value) (xs ys : List Int) (w : World) (ha : SlR eInt w w.heap.size a xs) (hb : SlR eInt w w.heap.size b ys) :
    Calls Tryz.prog 68 #[a, b] w fun e w' => e = .returned (.bool (decide (xs = ys))) ∧ Below w.heap.size w w' := by
  obtain ⟨A, c, rfl, hc1, hc2⟩ := ha.form
  obtain ⟨B, d, rfl, hd1, hd2⟩ := hb.form
  unfold maxLen at hc2 hd2
  by_cases hl : xs.length = ys.length
  · have hne : ((xs.length : Int) != (ys.length : Int)) = false := by simp; omega
    go_enter Tryz.func68, Tryz.ntmps68
    go_wp2
    go_loopw [5] (fun v8 wr => ∃ k : Nat, k ≤ xs.length ∧ v8 = .int .i64 k ∧ Hid (∀ (j : Nat) (h : j < xs.length) (h2 : j < ys.length), j < k → xs[j] = ys[j]) ∧ Below w.heap.size w wr) (fun v8 _ => xs.length - (intOf v8).toNat)
    case atStart => exact ⟨0, by omega, rfl, fun j h h2 hj => by omega, Below.refl _ _⟩
    case round =>
      obtain ⟨k, hk, rfl, hno, hbr⟩ := hrel
      by_cases hlt : k < xs.length
      · have hlt2 : k < ys.length := by omega
        obtain ⟨ab, ao, cs, rfl, _, hab, hrep, hcell⟩ := (ha.below hbr).get hlt (by decide)
        obtain ⟨rfl, hx1, hx2⟩ := hrep
        have hc0 := hcell 0 _ rfl
        obtain ⟨bb, bo, cs, rfl, _, hbb, hrep, hcell2⟩ := (hb.below hbr).get hlt2 (by decide)
        obtain ⟨rfl, hy1, hy2⟩ := hrep
        have hd0 := hcell2 0 _ rfl
        clear hcell hcell2
        simp only [show eInt.size = 1 from rfl, Nat.mul_one, Nat.add_zero] at hc0 hd0
        by_cases heq : xs[k] = ys[k]
        · have hq : (xs[k] != ys[k]) = false := by simp [heq]
          have HQ := Lib.hid heq
          clear heq
          go_wp2_with fail
          refine Text.wp_text [] (by kernel_rfl) (by kernel_rfl) (fun Q' hQ' => ?_)
          go_wp2
          refine ⟨by rfl, ?_⟩
          go_wp2
          go_roundw
          case rel => exact ⟨k + 1, by omega, by go_num, fun j h h2 hj => by by_cases e : j = k; (subst e; exact HQ.out); exact hno.out j h h2 (by omega), hbr.drew⟩
          case measure => simp [intOf]; omega
        · have hq : (xs[k] != ys[k]) = true := by simp [heq]
          have HQ := Lib.hid heq
          clear heq
          go_wp2_with fail
          refine Text.wp_text [] (by kernel_rfl) (by kernel_rfl) (fun Q' hQ' => ?_)
          go_wp2
          refine ⟨by rfl, ?_⟩
          go_wp2
          go_ret
          exact ⟨rt1 (vbool (by rw [eq_comm, decide_eq_false_iff_not]; intro h; subst h; exact HQ.out rfl)), hbr.drew⟩
      · have HEQ : Hid (xs = ys) := List.ext_getElem hl fun j h h2 => hno.out j h h2 (by omega)
        go_wp2
        go_ret
        exact ⟨rt1 (vbool (by rw [eq_comm, decide_eq_true_eq]; exact HEQ.out)), hbr⟩
  · have hne : ((xs.length : Int) != (ys.length : Int)) = true := by simp; omega
    go_enter Tryz.func68, Tryz.ntmps68
    go_wp2
    go_ret
    exact ⟨rt1 (vbool (by rw [eq_comm, decide_eq_false_iff_not]; intro h; subst h; exact hl rfl)), Below.refl _ _⟩
end Go.Proofs.YtkedmiememnmjaaGreat
