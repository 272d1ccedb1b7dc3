/- Texts of this proof joined: CanonW3, TextW, LinesW, Item, Lines, Wrt. -/
import Derived.Test.YthojelhpipmkiaaGreatDoorKO06
import Derived.Test.YthojelhpipmkiaaGreatDoorKO07
import Derived.Test.YthojelhpipmkiaaGreatDoorKO08
import Derived.Laws.CopyOwn
import Derived.Shelf.Strings.Builder1
import Derived.Test.YthojelhpipmkiaaGreatDoorProg
namespace Go.Proofs.YthojelhpipmkiaaGreatDoor

abbrev ItemD := Bool × ByteArray
abbrev LineD := ByteArray × List (List ItemD)
def itemG (ns ts : List ByteArray) (s : Int) : ItemD := if s < 0 then (true, ts.getD (-1 - s).toNat ⟨#[]⟩) else (false, ns.getD s.toNat ⟨#[]⟩)
def lineG (g : Gram) (i : Nat) : LineD := (g.1.getD i ⟨#[]⟩, (ofLeft g.2.2 i).map fun r => r.map (itemG g.1 g.2.1))
def linesG (g : Gram) : List LineD := (List.range g.1.length).map (lineG g)
def itemX (it : ItemD) : Wd := if it.1 then 32 :: 39 :: (ofB it.2 ++ [39]) else 32 :: ofB it.2
def altX (a : List ItemD) : Wd := a.flatMap itemX
def lineX (x : LineD) : Wd := ofB x.1 ++ [32, 58] ++ altsT (x.2.map altX) ++ [32, 59, 10]
def textX (l : List LineD) : Wd := l.flatMap lineX
theorem getD_ofB (l : List ByteArray) (i : Nat) : ofB (l.getD i ⟨#[]⟩) = (l.map ofB).getD i [] := by
 rw [List.getD_eq_getElem?_getD, List.getD_eq_getElem?_getD, List.getElem?_map]
 cases l[i]? <;> rfl
theorem itemX_G (ns ts : List ByteArray) (s : Int) : itemX (itemG ns ts s) = 32 :: symT (ns.map ofB) (ts.map ofB) s := by
 unfold itemX itemG symT
 by_cases h : s < 0
 ·rw [if_pos h, if_pos h, if_pos rfl, getD_ofB]
 ·rw [if_neg h, if_neg h, if_neg (by simp), getD_ofB]
theorem altX_G (ns ts : List ByteArray) (r : List Int) : altX (r.map (itemG ns ts)) = altT (ns.map ofB) (ts.map ofB) r := by
 unfold altX altT
 rw [List.flatMap_map]
 congr 1
 funext s
 exact itemX_G ns ts s
theorem textX_G (g : Gram) : textX (linesG g) = textG g := by
 unfold textX linesG textG gramT
 rw [List.flatMap_map, List.length_map]
 congr 1
 funext i
 unfold lineX lineG lineT
 rw [getD_ofB, List.map_map]
 congr 3
 apply List.map_congr_left
 intro r _
 exact altX_G g.1 g.2.1 r
end Go.Proofs.YthojelhpipmkiaaGreatDoor
namespace Go.Proofs.YthojelhpipmkiaaGreatDoor

theorem textX_succ (l : List LineD) {k : Nat} (h : k < l.length) : textX (l.take (k + 1)) = textX (l.take k) ++ lineX l[k] := by
 unfold textX
 rw [List.take_succ_eq_append_getElem h, List.flatMap_append]
 simp
theorem altX_succ (a : List ItemD) {k : Nat} (h : k < a.length) : altX (a.take (k + 1)) = altX (a.take k) ++ itemX a[k] := by
 unfold altX
 rw [List.take_succ_eq_append_getElem h, List.flatMap_append]
 simp
def altsX (l : List (List ItemD)) (k : Nat) : Wd := altsT ((l.take k).map altX)
theorem altsX_zero (l : List (List ItemD)) : altsX l 0 = [] := rfl
theorem altsX_all (l : List (List ItemD)) : altsX l l.length = altsT (l.map altX) := by unfold altsX; rw [List.take_length]
theorem altsX_one (l : List (List ItemD)) (h : 0 < l.length) : altsX l 1 = altX l[0] := by
 unfold altsX
 rw [show 1 = 0 + 1 from rfl, List.take_succ_eq_append_getElem h]
 simp [altsT]
theorem altsX_succ (l : List (List ItemD)) {k : Nat} (h : k < l.length) (h0 : 0 < k) : altsX l (k + 1) = altsX l k ++ [32, 124] ++ altX l[k] := by
 unfold altsX
 rw [List.take_succ_eq_append_getElem h, List.map_append, List.map_singleton, altsT_snoc, if_neg]
 ·simp
 ·intro e
  have := congrArg List.length e
  rw [List.length_map, List.length_take, List.length_nil] at this
  omega
theorem lineX_eq (x : LineD) : lineX x = ofB x.1 ++ [32, 58] ++ altsX x.2 x.2.length ++ [32, 59, 10] := by rw [altsX_all]; rfl
theorem rightLt_nil (y : List Int) : rightLt [] y ↔ y ≠ [] := by
 unfold rightLt
 cases y <;> simp
theorem rightLt_nil' (x : List Int) : ¬ rightLt x [] := by
 unfold rightLt
 simp
theorem rightLt_same {a : Int} {x y : List Int} : rightLt (a :: x) (a :: y) ↔ rightLt x y := by
 unfold rightLt
 rw [List.map_cons, List.map_cons, List.cons_lt_cons_iff]
 constructor
 ·rintro (h | ⟨_, h⟩)
  ·exact absurd h (Int.lt_irrefl _)
  ·exact h
 ·exact fun h => .inr ⟨rfl, h⟩
theorem rightLt_diff {a b : Int} {x y : List Int} (ha : -1000 ≤ a) (hb : -1000 ≤ b) (h : a ≠ b) : rightLt (a :: x) (b :: y) ↔ rank a < rank b := by
 unfold rightLt
 rw [List.map_cons, List.map_cons, List.cons_lt_cons_iff]
 constructor
 ·rintro (h1 | ⟨h1, _⟩)
  ·exact h1
  ·exact absurd (rank_inj ha hb h1) h
 ·exact fun h1 => .inl h1
theorem rightLt_step {x y : List Int} {k : Nat} (h1 : k < x.length) (h2 : k < y.length) (he : x[k] = y[k]) : rightLt (x.drop k) (y.drop k) ↔ rightLt (x.drop (k + 1)) (y.drop (k + 1)) := by
 rw [List.drop_eq_getElem_cons h1, List.drop_eq_getElem_cons h2, he]
 exact rightLt_same
theorem rightLt_part {x y : List Int} {k : Nat} (h1 : k < x.length) (h2 : k < y.length) (ha : -1000 ≤ x[k]) (hb : -1000 ≤ y[k]) (hn : x[k] ≠ y[k]) : rightLt (x.drop k) (y.drop k) ↔ rank x[k] < rank y[k] := by
 rw [List.drop_eq_getElem_cons h1, List.drop_eq_getElem_cons h2]
 exact rightLt_diff ha hb hn
theorem rightLt_end {x y : List Int} {k : Nat} (h : ¬ (k < x.length ∧ k < y.length)) (h1 : k ≤ x.length) (h2 : k ≤ y.length) : rightLt (x.drop k) (y.drop k) ↔ x.length < y.length := by
 by_cases hx : k < x.length
 ·have hy : y.drop k = [] := List.drop_of_length_le (by omega)
  rw [hy]
  constructor
  ·exact fun h => absurd h (rightLt_nil' _)
  ·intro h; omega
 ·have hx' : x.drop k = [] := List.drop_of_length_le (by omega)
  rw [hx', rightLt_nil]
  constructor
  ·intro h3
   rcases Nat.lt_or_ge k y.length with h4 | h4
   ·omega
   ·exact absurd (List.drop_of_length_le h4) h3
  ·intro h3 h4
   have := congrArg List.length h4
   rw [List.length_drop, List.length_nil] at this
   omega
end Go.Proofs.YthojelhpipmkiaaGreatDoor
namespace Go.Proofs.YthojelhpipmkiaaGreatDoor

theorem ofLeft_succ (rs : List RuleD) (i : Nat) {k : Nat} (h : k < rs.length) : ofLeft (rs.take (k + 1)) i = ofLeft (rs.take k) i ++ if rs[k].1 = (i : Int) then [rs[k].2] else [] := by
 unfold ofLeft
 rw [List.take_succ_eq_append_getElem h, List.filter_append, List.map_append]
 congr 1
 by_cases hb : rs[k].1 = (i : Int) <;> simp [hb]
theorem ofTo_left (rs : List RuleD) (i : Nat) : ∀ k ≤ rs.length, (ofTo rs (i : Int) k).map (fun j => (rs.getD j.toNat (0, [])).2) = ofLeft (rs.take k) i
 |0, _ => by simp [ofTo, ofLeft]
 |k + 1, hk => by
  rw [ofTo_succ rs i k (by omega), ofLeft_succ rs i (by omega), List.map_append, ofTo_left rs i k (by omega)]
  congr 1
  by_cases hb : rs[k].1 = (i : Int)
  ·rw [if_pos hb, if_pos hb]
   simp [show k < rs.length by omega]
  ·rw [if_neg hb, if_neg hb]
   rfl
theorem ofTo_mem {rs : List RuleD} {i k : Nat} {j : Int} (h : j ∈ ofTo rs (i : Int) k) : 0 ≤ j ∧ j < k := by
 unfold ofTo at h
 obtain ⟨x, hx, rfl⟩ := List.mem_map.1 h
 have := List.mem_range.1 (List.mem_filter.1 hx).1
 exact ⟨Int.natCast_nonneg x, Int.ofNat_lt.2 this⟩
def altsG (g : Gram) (i p : Nat) : List (List ItemD) := ((ofTo g.2.2 (i : Int) g.2.2.length).take p).map fun j => ((g.2.2.getD j.toNat (0, [])).2).map (itemG g.1 g.2.1)
theorem altsG_succ (g : Gram) (i : Nat) {p : Nat} (h : p < (ofTo g.2.2 (i : Int) g.2.2.length).length) : altsG g i (p + 1) = altsG g i p ++ [((g.2.2.getD ((ofTo g.2.2 (i : Int) g.2.2.length)[p]).toNat (0, [])).2).map (itemG g.1 g.2.1)] := by
 unfold altsG
 rw [List.take_succ_eq_append_getElem h, List.map_append, List.map_singleton]
theorem altsG_all (g : Gram) (i : Nat) : (g.1.getD i ⟨#[]⟩, altsG g i (ofTo g.2.2 (i : Int) g.2.2.length).length) = lineG g i := by
 unfold altsG lineG
 rw [List.take_length]
 congr 1
 have := ofTo_left g.2.2 i g.2.2.length (Nat.le_refl _)
 rw [List.take_length] at this
 rw [← this, List.map_map]
 rfl
theorem linesG_succ (g : Gram) {k : Nat} : (List.range (k + 1)).map (lineG g) = (List.range k).map (lineG g) ++ [lineG g k] := by
 rw [List.range_succ, List.map_append, List.map_singleton]
def textK (ns ts : List Wd) (rs : List RuleD) (i : Nat) : Wd := (List.range i).flatMap (lineT ns ts rs)
theorem textK_succ (ns ts : List Wd) (rs : List RuleD) (i : Nat) : textK ns ts rs (i + 1) = textK ns ts rs i ++ lineT ns ts rs i := by
 unfold textK
 rw [List.range_succ, List.flatMap_append]
 simp
theorem textK_all (ns ts : List Wd) (rs : List RuleD) : textK ns ts rs ns.length = gramT ns ts rs := rfl
def altsK (ns ts : List Wd) (rs : List RuleD) (i k : Nat) : Wd := altsT ((ofLeft (rs.take k) i).map (altT ns ts))
theorem altsK_zero (ns ts : List Wd) (rs : List RuleD) (i : Nat) : altsK ns ts rs i 0 = [] := by simp [altsK, ofLeft, altsT]
theorem altsK_no {ns ts : List Wd} {rs : List RuleD} {i k : Nat} (h : k < rs.length) (hb : rs[k].1 ≠ (i : Int)) : altsK ns ts rs i (k + 1) = altsK ns ts rs i k ∧ ofLeft (rs.take (k + 1)) i = ofLeft (rs.take k) i := by
 unfold altsK
 rw [ofLeft_succ rs i h, if_neg hb, List.append_nil]
 exact ⟨rfl, rfl⟩
theorem altsK_yes {ns ts : List Wd} {rs : List RuleD} {i k : Nat} (h : k < rs.length) (hb : rs[k].1 = (i : Int)) : altsK ns ts rs i (k + 1) = (altsK ns ts rs i k ++ if (ofLeft (rs.take k) i).isEmpty then [] else [32, 124]) ++ altT ns ts rs[k].2 ∧ (ofLeft (rs.take (k + 1)) i).isEmpty = false := by
 unfold altsK
 rw [ofLeft_succ rs i h, if_pos hb, List.map_append, List.map_singleton, altsT_snoc]
 refine ⟨?_, by simp⟩
 cases ofLeft (rs.take k) i with
 |nil => simp
 |cons x r => simp
theorem lineT_eq (ns ts : List Wd) (rs : List RuleD) (i : Nat) : lineT ns ts rs i = ns.getD i [] ++ [32, 58] ++ altsK ns ts rs i rs.length ++ [32, 59, 10] := by
 unfold lineT altsK
 rw [List.take_length]
theorem altT_succ (ns ts : List Wd) (r : List Int) {k : Nat} (h : k < r.length) : altT ns ts (r.take (k + 1)) = altT ns ts (r.take k) ++ 32 :: symT ns ts r[k] := by
 unfold altT
 rw [List.take_succ_eq_append_getElem h, List.flatMap_append]
 simp
end Go.Proofs.YthojelhpipmkiaaGreatDoor
namespace Go.Proofs.YthojelhpipmkiaaGreatDoor
open Go.RowKit

theorem store_rowI {P : Program} {w : World} {g : Nat} {ty : TypeId} {vs : List Value} {v : Value} (hv : v.cells = vs.toArray) (hi : (P.info? ty).map (·.size) = some vs.length) {cur : Array Value} {t : TypeId} (hg : w.heap[g]? = some (.cells cur t (0, 0)))
  (hl : vs.length = cur.size) (h1 : ∀ u ∈ vs, u.oneCell' = true) : (Instr.storeAt ty (.pointer (some ⟨g, 0, none⟩)) v).run P w = .ok () (w.setRow g vs.toArray) := by
 rw [store_agg hv hi hg (by omega) h1]
 congr 2
 simp [List.drop_eq_nil_of_le (show cur.toList.length ≤ vs.length by simp; omega)]
def itemV (it : ItemD) : Value := .agg #[.bool it.1, .string it.2]
theorem item_u : Tryz.prog.underlying 106 = some (.struct (Tryz.prog.fieldsOf 106)) := by kernel_rfl
theorem ret_item {fn : Func} {p : Tmp} {Q : Ending → World → Prop} (h : fn.results = #[.cell p 106]) {a : Act} {w : World} {g : Nat} {c0 c1 : Value} {t : TypeId} {fr : Nat × Nat} (hd : a.defers = []) (hp : a.tmps.getD p undef = .pointer (some ⟨g, 0, none⟩))
  (hg : w.heap[g]? = some (.cells #[c0, c1] t fr)) (hq : Q (.returned (.agg #[c0, c1])) w) : bodyPost Tryz.prog fn Q .ret a w :=
 bodyPost_ret (v := .agg #[c0, c1]) (results_cell_row h _ w g t _ fr _ hp hg item_u rfl (by kernel_rfl)) hd hq
theorem itemG_neg {ns ts : List ByteArray} {s : Int} {k : Nat} (h : s = -1 - (k : Int)) (hk : k < ts.length) : itemG ns ts s = (true, ts[k]) := by
 unfold itemG
 rw [if_pos (by omega), show (-1 - s).toNat = k by omega]
 simp [hk]
theorem itemG_pos {ns ts : List ByteArray} {s : Int} {k : Nat} (h : s = (k : Int)) (hk : k < ns.length) : itemG ns ts s = (false, ns[k]) := by
 unfold itemG
 rw [if_neg (by omega), show s.toNat = k by omega]
 simp [hk]
set_option maxRecDepth 100000 in
set_option maxHeartbeats 4000000 in
theorem item_any (A1 A2 A3 : Option Addr) (n m q c1 c2 c3 : Nat) (ns ts : List ByteArray) (s : Int) (M : Nat) (w : World) (h1 : SlR eStr w M (.slice A1 n c1) ns) (h2 : SlR eStr w M (.slice A2 m c2) ts) (hM : M ≤ w.heap.size) (hs : SymIn ns.length ts.length s) (hm : m ≤ 1048576) :
  Calls Tryz.prog 68 #[.agg #[.slice A1 n c1, .slice A2 m c2, .slice A3 q c3], .int .i64 s] w fun e w' => e = .returned (itemV (itemG ns ts s)) ∧ Below w.heap.size w w' := by
 have hn := h1.n_eq
 have hm' := h2.n_eq
 have HB := Lib.hid (((Below.refl w.heap.size w).alloc (Nat.le_refl _) (.cells #[.slice A1 n c1, .slice A2 m c2, .slice A3 q c3] 25)).alloc (by rw [World.size_alloc]; omega) (.cells #[.bool false, .string ⟨#[]⟩] 106))
 have HG := Lib.hid (Go.heap_alloc2_old w (.cells #[.slice A1 n c1, .slice A2 m c2, .slice A3 q c3] 25) (.cells #[.bool false, .string ⟨#[]⟩] 106))
 have HI := Lib.hid (Go.heap_alloc2_new w (.cells #[.slice A1 n c1, .slice A2 m c2, .slice A3 q c3] 25) (.cells #[.bool false, .string ⟨#[]⟩] 106))
 have H1 := Lib.hid (h1.below (HB.out.mono hM))
 have H2 := Lib.hid (h2.below (HB.out.mono hM))
 have H12 := Lib.hid (And.intro hn hm')
 clear h1 h2 hn hm'
 obtain ⟨hs1, hs2⟩ := hs
 by_cases hneg : s < 0
 ·obtain ⟨k, hk⟩ : ∃ k : Nat, s = -1 - (k : Int) := ⟨(-1 - s).toNat, by omega⟩
  have hkl : k < ts.length := by omega
  obtain ⟨b, off, cs, rfl, _, _, hrep, hcell⟩ := H2.out.get hkl (by decide)
  obtain ⟨rfl, hx1⟩ := hrep
  have hc := hcell 0 _ rfl
  clear hcell
  simp only [show eStr.size = 1 from rfl, Nat.mul_one, Nat.add_zero] at hc
  have HE := Lib.hid (itemG_neg (ns := ns) hk hkl)
  have hkm : k < m := by have := H12.out.2; omega
  rw [HE.out]
  generalize ts[k] = x at *
  have d0 : decide (s < 0) = true := by simpa using hneg
  have e1 : -1 - s = (k : Int) := by omega
  clear hneg hk hs1 hs2 hkl H12 H1
  go_enter Tryz.func68, Tryz.ntmps68
  go_wp2_with fail
  generalize (w.alloc (.cells #[.slice A1 n c1, .slice (some ⟨b, off, none⟩) m c2, .slice A3 q c3] 25)).alloc (.cells #[.bool false, .string ⟨#[]⟩] 106) = w1 at *
  refine (isTermSym_any _ _).mono ?_
  rintro e w2 ⟨rfl, rfl⟩
  have hc2 : w1.cell? ⟨w.heap.size, 1, none⟩ = some (.slice (some ⟨b, off, none⟩) m c2) := by rw [cell_of_row _ _ _ _ _ _ HG.out]; rfl
  go_wp2_with (refine stop_at none rfl ?_)
  refine Stop.go (wpList_store_agg rfl 106 rfl rfl rfl (store_rowI (vs := [.bool true, .string x]) rfl (by kernel_rfl) HI.out rfl (by intro u hu; simp at hu; rcases hu with rfl | rfl <;> rfl)) ?_)
  have HR := Lib.hid (setRow_heap _ _ _ _ _ _ HI.out : (w1.setRow (w.heap.size + 1) [.bool true, .string x].toArray).heap[w.heap.size + 1]? = _)
  have HBR := Lib.hid (below_setRow HB.out (Nat.le_succ _) [.bool true, .string x].toArray)
  generalize w1.setRow (w.heap.size + 1) [.bool true, .string x].toArray = w3 at *
  generalize hac : Act.put _ _ _ = a9
  simp [Act.put] at hac
  subst hac
  go_wp2_with fail
  exact ret_item rfl rfl rfl HR.out ⟨rfl, HBR.out⟩
 ·obtain ⟨k, hk⟩ : ∃ k : Nat, s = (k : Int) := ⟨s.toNat, by omega⟩
  have hkl : k < ns.length := by omega
  obtain ⟨b, off, cs, rfl, _, _, hrep, hcell⟩ := H1.out.get hkl (by decide)
  obtain ⟨rfl, hx1⟩ := hrep
  have hc := hcell 0 _ rfl
  clear hcell
  simp only [show eStr.size = 1 from rfl, Nat.mul_one, Nat.add_zero] at hc
  have HE := Lib.hid (itemG_pos (ts := ts) hk hkl)
  have hkm : k < n := by have := H12.out.1; omega
  rw [HE.out]
  generalize ns[k] = x at *
  have d0 : decide (s < 0) = false := by simpa using hneg
  subst hk
  clear hneg hs1 hs2 hkl H12 H2
  go_enter Tryz.func68, Tryz.ntmps68
  go_wp2_with fail
  generalize (w.alloc (.cells #[.slice (some ⟨b, off, none⟩) n c1, .slice A2 m c2, .slice A3 q c3] 25)).alloc (.cells #[.bool false, .string ⟨#[]⟩] 106) = w1 at *
  refine (isTermSym_any _ _).mono ?_
  rintro e w2 ⟨rfl, rfl⟩
  have hc2 : w1.cell? ⟨w.heap.size, 0, none⟩ = some (.slice (some ⟨b, off, none⟩) n c1) := by rw [cell_of_row _ _ _ _ _ _ HG.out]; rfl
  go_wp2_with (refine stop_at none rfl ?_)
  refine Stop.go (wpList_store_agg rfl 106 rfl rfl rfl (store_rowI (vs := [.bool false, .string x]) rfl (by kernel_rfl) HI.out rfl (by intro u hu; simp at hu; rcases hu with rfl | rfl <;> rfl)) ?_)
  have HR := Lib.hid (setRow_heap _ _ _ _ _ _ HI.out : (w1.setRow (w.heap.size + 1) [.bool false, .string x].toArray).heap[w.heap.size + 1]? = _)
  have HBR := Lib.hid (below_setRow HB.out (Nat.le_succ _) [.bool false, .string x].toArray)
  generalize w1.setRow (w.heap.size + 1) [.bool false, .string x].toArray = w3 at *
  generalize hac : Act.put _ _ _ = a9
  simp [Act.put] at hac
  subst hac
  go_wp2_with fail
  exact ret_item rfl rfl rfl HR.out ⟨rfl, HBR.out⟩
end Go.Proofs.YthojelhpipmkiaaGreatDoor
namespace Go.Proofs.YthojelhpipmkiaaGreatDoor
open Go.RowKit

structure BoxC {α : Type} (O : OElt α) (t Tb : TypeId) (w2 : World) (b : Nat) (c0 : Value) (l : List α) (v : Value) (wz : World) : Prop where
 row : wz.heap[b]? = some (.cells #[c0, v] Tb (0, 0))
 own : OwnT O t wz (b + 1) v l
 keep : Below b w2 wz
theorem heap_setC2 {w : World} {g k : Nat} {cs : Array Value} {T : TypeId} (h : w.heap[g]? = some (.cells cs T (0, 0))) (v : Value) : (w.setCell ⟨g, k, none⟩ v).heap[g]? = some (.cells (cs.setIfInBounds k v) T (0, 0)) := by
 simp only [World.setCell, Array.getElem?_modify, if_true, h, Option.map_some]
 rfl
theorem keepT_setC {ts : List TypeId} {w : World} {g k : Nat} {cs : Array Value} {T : TypeId} (h : w.heap[g]? = some (.cells cs T (0, 0))) (hT : T ∉ ts) (v : Value) : KeepT ts w (w.setCell ⟨g, k, none⟩ v) := by
 refine ⟨by simp [World.setCell], fun j cur t ht hj => ?_⟩
 rw [heap_setCell_other _ _ _ _ ?_]
 ·exact hj
 ·intro e
  subst e
  rw [h] at hj
  injection hj with hj
  injection hj with _ hj
  exact hT (hj ▸ ht)
section
variable {α : Type} {O : OElt α} {t Tb : TypeId} {w2 wz w3 w4 : World} {b : Nat} {c0 v v' : Value} {l : List α} {x : α} {css : List (List Value)} {cs : List Value}
theorem BoxC.later (h : BoxC O t Tb w2 b c0 l v wz) (hb : Below wz.heap.size wz w3) : BoxC O t Tb w2 b c0 l v w3 :=
 have hz := (Array.getElem?_eq_some_iff.1 h.row).1
 ⟨(hb.block b hz).trans h.row, h.own.below hb, h.keep.trans (hb.mono (Nat.le_of_lt hz))⟩
theorem BoxC.snoc (h : BoxC O t Tb w2 b c0 l v w3) (ht : t ∉ O.ts) (hT : Tb ∉ t :: O.ts) (h0 : w3.ownsRow (b + 1) t O.E.size v l.length css.flatten) (h2 : css.length = l.length)
  (h3 : ∀ (i : Nat) (cs : List Value) (x : α), css[i]? = some cs → l[i]? = some x → O.rep w3 (b + 1) cs x) (hx : O.rep w3 (b + 1) cs x) (ho : w4.ownsRow (b + 1) t O.E.size v' (l.length + 1) (css.flatten ++ cs)) (hg : w3.grownBy w4 v.ownBlock) :
  BoxC O t Tb w2 b c0 (l ++ [x]) v' (w4.setCell ⟨b, 1, none⟩ v') ∧ ∀ us : List TypeId, t ∉ us → Tb ∉ us → KeepT us w3 (w4.setCell ⟨b, 1, none⟩ v') := by
 have hz := (Array.getElem?_eq_some_iff.1 h.row).1
 have hr4 := grown_other h0 hg h.row (fun e => hT (e ▸ List.mem_cons_self ..))
 refine ⟨⟨heap_setC2 hr4 v', (OwnT.snoc ht h0 h2 h3 hx ho hg).keep (keepT_setC hr4 hT v'), ?_⟩, fun us h1 h2 => (KeepT.of_grown h0 hg h1).trans (keepT_setC hr4 h2 v')⟩
 exact (grown_below h.keep hg h0 (Nat.le_succ _) (Nat.le_of_lt hz)).setCell (p := ⟨b, 1, none⟩) (Nat.le_refl _) v'
end
def oItem : OElt ItemD := oProd oBool oStr
def oAlt : OElt (List ItemD) := oSl oItem 106
def oLine : OElt LineD := oProd oStr (oSl oAlt 104)
theorem oItem_ts : oItem.ts = [] := rfl
theorem item_app : AppTy Tryz.prog 104 106 2 24 (.agg #[.bool false, .string ⟨#[]⟩]) := appTy (by kernel_rfl) (by kernel_rfl) rfl (by omega)
theorem alts_app : AppTy Tryz.prog 101 104 1 24 (.slice none 0 0) := appTy (by kernel_rfl) (by kernel_rfl) rfl (by omega)
theorem line_app : AppTy Tryz.prog 70 103 2 40 (.agg #[.string ⟨#[]⟩, .slice none 0 0]) := appTy (by kernel_rfl) (by kernel_rfl) rfl (by omega)
theorem row3_cells {w : World} {g : Nat} {a b c : Value} {t : TypeId} {fr : Nat × Nat} (h : w.heap[g]? = some (.cells #[a, b, c] t fr)) : w.cell? ⟨g, 0, none⟩ = some a ∧ w.cell? ⟨g, 1, none⟩ = some b ∧ w.cell? ⟨g, 2, none⟩ = some c := by
 refine ⟨?_, ?_, ?_⟩ <;> (rw [cell_of_row _ _ _ _ _ _ h]; rfl)
theorem termB_len {l : List UInt8} (h : isTermB l = true) : l.length ≤ 32 := by
 unfold isTermB at h
 rw [Bool.and_eq_true, decide_eq_true_eq] at h
 exact h.1.2
theorem nameB_len {l : List UInt8} (h : isNameB l = true) : l.length ≤ 32 := by
 unfold isNameB at h
 rw [Bool.and_eq_true, Bool.and_eq_true, decide_eq_true_eq] at h
 exact h.1.1.2
theorem item_size {g : Gram} (h : GoodC g) {s : Int} (hs : SymIn g.1.length g.2.1.length s) : (itemG g.1 g.2.1 s).2.size ≤ maxLen := by
 have key : ∀ (may : List UInt8 → Bool) (b : ByteArray), (may (ofB b) = true → (ofB b).length ≤ 32) → may (ofB b) = true → b.size ≤ maxLen := fun may b h1 h2 => by
  have := h1 h2
  have e : b.size = (ofB b).length := by unfold ofB; rw [Array.length_toList]; rfl
  rw [e]
  unfold maxLen
  omega
 unfold SymIn at hs
 by_cases hn : s < 0
 ·rw [itemG_neg (k := (-1 - s).toNat) (by omega) (by omega)]
  exact key isTermB _ termB_len (h.terms _ (List.getElem_mem _))
 ·rw [itemG_pos (k := s.toNat) (by omega) (by omega)]
  exact key isNameB _ nameB_len (h.names _ (List.getElem_mem _))
def LinesTo (g : Gram) (w : World) (e : Ending) (w' : World) : Prop := ∃ v, e = .returned v ∧ OwnT oLine 103 w' w.heap.size v (linesG g) ∧ Below w.heap.size w w'
set_option maxRecDepth 100000 in
set_option maxHeartbeats 16000000 in
theorem lines_any (v1 v2 v3 : Value) (ns ts : List ByteArray) (rs : List RuleD) (w : World) (hg : GoodC (ns, ts, rs)) (h1 : SlR eStr w w.heap.size v1 ns) (h2 : SlR eStr w w.heap.size v2 ts) (h3 : SlR eRule w w.heap.size v3 rs) :
  Calls Tryz.prog 34 #[.agg #[v1, v2, v3]] w (LinesTo (ns, ts, rs) w) := by
 obtain ⟨A1, c1, rfl, ha1, ha2⟩ := h1.form
 obtain ⟨A2, c2, rfl, hb1, hb2⟩ := h2.form
 obtain ⟨A3, c3, rfl, hd1, hd2⟩ := h3.form
 unfold maxLen at ha2 hb2 hd2
 have HGD := Lib.hid hg
 have hnm : ns.length + ts.length ≤ 256 := hg.nm
 have hq4 : rs.length ≤ 4096 := hg.q
 obtain ⟨n, hnn⟩ : ∃ n, n = ns.length := ⟨_, rfl⟩
 obtain ⟨m, hmm⟩ : ∃ m, m = ts.length := ⟨_, rfl⟩
 obtain ⟨q, hqq⟩ : ∃ q, q = rs.length := ⟨_, rfl⟩
 rw [← hnn, ← hmm] at hnm
 rw [← hnn] at h1 ha1 ⊢
 rw [← hmm] at h2 hb1 ⊢
 rw [← hqq] at h3 hd1 hq4 ⊢
 have HNN := Lib.hid hnn
 have HMM := Lib.hid hmm
 have HQQ := Lib.hid hqq
 clear hg hnn hmm hqq
 obtain ⟨S, hS⟩ : ∃ S, S = w.heap.size := ⟨_, rfl⟩
 have hb0 : Below w.heap.size w (w.alloc (.cells #[.slice A1 n c1, .slice A2 m c2, .slice A3 q c3] 25)) := (Below.refl _ _).alloc (Nat.le_refl _) _
 have HG1 := Lib.hid (Go.heap_alloc_new w (.cells #[.slice A1 n c1, .slice A2 m c2, .slice A3 q c3] 25))
 have HZ1 := Lib.hid (World.size_alloc w (.cells #[.slice A1 n c1, .slice A2 m c2, .slice A3 q c3] 25))
 have HB1 := Lib.hid hb0
 have H1 := Lib.hid (h1.below hb0)
 have H2 := Lib.hid (h2.below hb0)
 have H3 := Lib.hid (h3.below hb0)
 clear h1 h2 h3 hb0
 rw [← hS] at HG1 HZ1 HB1 H1 H2 H3
 unfold LinesTo
 rw [← hS]
 go_enter Tryz.func34, Tryz.ntmps34
 go_wp2_with fail
 rw [← hS]
 have HSW := Lib.hid hS
 clear hS
 generalize w.alloc (.cells #[.slice A1 n c1, .slice A2 m c2, .slice A3 q c3] 25) = w1 at *
 refine (gramValid_any (.slice A1 n c1) (.slice A2 m c2) (.slice A3 q c3) ns ts rs w1 (by rw [← HNN.out, ← HMM.out]; omega) (H1.out.more (by rw [HZ1.out]; omega)) (H2.out.more (by rw [HZ1.out]; omega)) (H3.out.more (by rw [HZ1.out]; omega))).mono ?_
 rintro e w2 ⟨rfl, hb2⟩
 rw [(goodC_iff _).2 HGD.out]
 have HS1 := Lib.hid (show S < w1.heap.size by rw [HZ1.out]; omega)
 have HB2 := Lib.hid (HB1.out.trans (hb2.mono (Nat.le_of_lt HS1.out)))
 have HG2 := Lib.hid ((hb2.block S HS1.out).trans HG1.out)
 have H12 := Lib.hid (H1.out.below (hb2.mono (Nat.le_of_lt HS1.out)))
 have H22 := Lib.hid (H2.out.below (hb2.mono (Nat.le_of_lt HS1.out)))
 have H32 := Lib.hid (H3.out.below (hb2.mono (Nat.le_of_lt HS1.out)))
 have HS2 := Lib.hid (Nat.lt_of_lt_of_le HS1.out hb2.size)
 clear hb2 HB1 HG1 HZ1 H1 H2 H3 HS1
 have hc0 : w2.cell? ⟨S, 0, none⟩ = some (.slice A1 n c1) := by rw [cell_of_row _ _ _ _ _ _ HG2.out]; rfl
 go_wp2_with fail
 have HOWN := Lib.hid (OwnT.nil (O := oLine) (t := 103) w2 (S + 1))
 have HBR := Lib.hid (Below.refl (S + 1) w2)
 go_loopw [3, 18] (fun v3 v18 wr => ∃ i : Nat, i ≤ n ∧ v18 = .int .i64 i ∧ Hid (OwnT oLine 103 wr (S + 1) v3 ((List.range i).map (lineG (ns, ts, rs)))) ∧ Hid (Below (S + 1) w2 wr)) (fun _ v18 _ => n - (intOf v18).toNat)
 case atStart => exact ⟨0, by omega, rfl, HOWN.out, HBR.out⟩
 case round =>
  clear HOWN HBR hc0
  obtain ⟨i, hi, rfl, HOWN, HBR⟩ := hrel
  have HGR := Lib.hid ((HBR.out.block S (Nat.lt_succ_self S)).trans HG2.out)
  have HSR := Lib.hid (Nat.lt_of_lt_of_le HS2.out HBR.out.size)
  have H1R := Lib.hid (H12.out.below (HBR.out.mono (Nat.le_succ S)))
  have H2R := Lib.hid (H22.out.below (HBR.out.mono (Nat.le_succ S)))
  have H3R := Lib.hid (H32.out.below (HBR.out.mono (Nat.le_succ S)))
  by_cases hlt : i < n
  ·have hil : i < ns.length := by rw [← HNN.out]; exact hlt
   obtain ⟨b, off, cs, hA1, _, _, hrep, hcell⟩ := H1R.out.get hil (by decide)
   obtain ⟨rfl, hx1⟩ := hrep
   have hcn := hcell 0 _ rfl
   clear hcell
   simp only [show eStr.size = 1 from rfl, Nat.mul_one, Nat.add_zero] at hcn
   subst hA1
   have HNM := Lib.hid (show (ns, ts, rs).1.getD i ⟨#[]⟩ = ns[i] by simp [hil])
   have HXN := Lib.hid hx1
   clear hx1
   obtain ⟨nm, hnm2⟩ : ∃ nm, nm = ns[i] := ⟨_, rfl⟩
   rw [← hnm2] at hcn HNM HXN
   clear hnm2
   have HBX := Lib.hid ((Below.refl wr.heap.size wr).alloc (Nat.le_refl _) (.cells #[.string nm, .slice none 0 0] 103))
   have HGX := Lib.hid ((HBX.out.block S HSR.out).trans HGR.out)
   have HXX := Lib.hid (Go.heap_alloc_new wr (.cells #[.string nm, .slice none 0 0] 103))
   have HZX := Lib.hid (World.size_alloc wr (.cells #[.string nm, .slice none 0 0] 103))
   obtain ⟨g0, g1, g2⟩ := row3_cells HGX.out
   have H3X := Lib.hid (H3R.out.below (HBX.out.mono (Nat.le_of_lt HSR.out)))
   go_wp2_with fail
   clear g0 g1 g2
   generalize wr.alloc (.cells #[.string nm, .slice none 0 0] 103) = wx at *
   obtain ⟨bx, hbx⟩ : ∃ bx, bx = wr.heap.size := ⟨_, rfl⟩
   rw [← hbx] at HXX HBX HZX HSR ⊢
   have HBE := Lib.hid hbx
   clear hbx
   have HSZ := Lib.hid (show wx.heap.size = bx + 1 from HZX.out)
   refine (gram_of _ A2 (.slice A3 q c3) n m c1 c2 i rs wx (H3X.out.more (by have := HSZ.out; have := HSR.out; omega)) (by rw [← HQQ.out]; omega)).mono ?_
   rintro e w3 ⟨vk, rfl, hok, hb3⟩
   obtain ⟨A4, c4, rfl, hk1, hk2⟩ := own_form hok
   unfold maxLen at hk2
   have HMEM := Lib.hid (fun (j : Int) (hj : j ∈ ofTo rs (i : Int) rs.length) => ofTo_mem hj)
   have HKL : (ofTo rs (i : Int) rs.length).length ≤ q := by rw [HQQ.out]; exact ofTo_le rs (i : Int) rs.length
   have HALL := Lib.hid (altsG_all (ns, ts, rs) i)
   have HSUC := Lib.hid (fun (p : Nat) (h : p < (ofTo rs (i : Int) rs.length).length) => altsG_succ (ns, ts, rs) i h)
   have HOK := Lib.hid hok
   have HB3 := Lib.hid hb3
   have HAL := Lib.hid (fun (p : Nat) (h : p ≤ (ofTo rs (i : Int) rs.length).length) => show (altsG (ns, ts, rs) i p).length = p by unfold altsG; rw [List.length_map, List.length_take]; exact Nat.min_eq_left h)
   obtain ⟨KS, hKS⟩ : ∃ KS, KS = ofTo rs (i : Int) rs.length := ⟨_, rfl⟩
   rw [← hKS] at hk1 HMEM HKL HALL HSUC HAL HOK ⊢
   clear hKS hok hb3
   obtain ⟨K, hK⟩ : ∃ K, K = KS.length := ⟨_, rfl⟩
   rw [← hK] at hk1 HKL HALL HAL HOK ⊢
   have HKK := Lib.hid hK
   clear hK
   have HBOX := Lib.hid (show BoxC oAlt 104 103 wr bx (.string nm) (altsG (ns, ts, rs) i 0) (.slice none 0 0) w3 from ⟨(HB3.out.block bx (by have := HSZ.out; omega)).trans HXX.out, OwnT.nil _ _, HBX.out.trans (HB3.out.mono (by have := HSZ.out; omega))⟩)
   go_wp2_with fail
   generalize wr = wo at *
   go_loopw [29] (fun v29 wr => ∃ (p : Nat) (vA : Value), p ≤ K ∧ v29 = .int .i64 p ∧ Hid (BoxC oAlt 104 103 wo bx (.string nm) (altsG (ns, ts, rs) i p) vA wr) ∧ Hid (KeepT [3] w3 wr)) (fun v29 _ => K - (intOf v29).toNat)
   case atStart => exact ⟨0, _, by omega, rfl, HBOX.out, KeepT.refl _ _⟩
   case round =>
    clear HBOX
    obtain ⟨p, vA, hp, rfl, HBOX, HKT⟩ := hrel
    have HGM := Lib.hid ((HBOX.out.keep.block S HSR.out).trans HGR.out)
    have HBZ := Lib.hid (Array.getElem?_eq_some_iff.1 HBOX.out.row).1
    by_cases hpl : p < K
    ·have hpk : p < KS.length := by rw [← HKK.out]; exact hpl
     have HNU := Lib.hid (own_keepT HOK.out HKT.out (by simp))
     obtain ⟨b4, o4, rfl, _, hc4⟩ := (Rd.of_own HNU.out).at_ (k := p) (by rw [icells, List.length_map]; exact hpk)
     have hc4' : wr.cell? ⟨b4, o4 + p, none⟩ = some (.int .i64 KS[p]) := by rw [hc4]; simp [icells]
     clear hc4
     obtain ⟨hm1, hm2⟩ := HMEM.out KS[p] (List.getElem_mem hpk)
     have HSP := Lib.hid (HSUC.out p hpk)
     obtain ⟨kq, hkq⟩ : ∃ kq : Nat, KS[p] = (kq : Int) := ⟨KS[p].toNat, by omega⟩
     rw [hkq] at hc4' hm2 HSP
     have hkl : kq < rs.length := by omega
     have hkq2 : kq < q := by rw [HQQ.out]; exact hkl
     clear hkq hm1 hm2
     obtain ⟨b5, o5, cs, hA3, _, _, hrep, hcell⟩ := (H3R.out.below (HBOX.out.keep.mono (Nat.le_of_lt HSR.out))).get hkl (by decide)
     subst hA3
     obtain ⟨vR, rfl, hsl, _, _⟩ := eRule_open hrep
     obtain ⟨A6, c6, rfl, hl5, hl6⟩ := hsl.form
     unfold maxLen at hl6
     have hr1 := hcell 1 _ rfl
     simp only [show eRule.size = 2 from rfl, ← Nat.add_assoc] at hr1
     have HFIT := Lib.hid (HGD.out.fit rs[kq] (List.getElem_mem hkl)).2
     have HSL := Lib.hid hsl
     rw [show ((ns, ts, rs).2.2.getD (kq : Int).toNat (0, [])).2 = rs[kq].2 by simp [hkl]] at HSP
     clear hcell hrep hsl
     obtain ⟨r, hr⟩ : ∃ r, r = rs[kq].2 := ⟨_, rfl⟩
     rw [← hr] at hr1 HFIT HSL HSP hl5
     clear hr
     obtain ⟨L, hL⟩ : ∃ L, L = r.length := ⟨_, rfl⟩
     rw [← hL] at hr1 HFIT HSL hl5
     have HLL := Lib.hid hL
     clear hL
     obtain ⟨g0, g1, g2⟩ := row3_cells HGM.out
     go_wp2_with fail
     clear g0 g1 g2
     generalize wr = wm at *
     have HO9 := Lib.hid (OwnT.nil (O := oItem) (t := 106) wm wm.heap.size)
     have HBJ := Lib.hid (Below.refl wm.heap.size wm)
     go_loopw [9, 40] (fun v9 v40 wr => ∃ j : Nat, j ≤ L ∧ v40 = .int .i64 j ∧ Hid (OwnT oItem 106 wr wm.heap.size v9 ((r.take j).map (itemG ns ts))) ∧ Hid (Below wm.heap.size wm wr)) (fun _ v40 _ => L - (intOf v40).toNat)
     case atStart => exact ⟨0, by omega, rfl, HO9.out, HBJ.out⟩
     case round =>
      clear HO9 HBJ
      obtain ⟨j, hj, rfl, HO9, HBJ⟩ := hrel
      have HGJ := Lib.hid ((HBJ.out.block S (Nat.lt_trans HSR.out HBZ.out)).trans HGM.out)
      by_cases hjl : j < L
      ·have hjr : j < r.length := by rw [← HLL.out]; exact hjl
       obtain ⟨b7, o7, cs, rfl, _, _, hrep, hcell⟩ := (HSL.out.below (HBJ.out.mono (by have := HSR.out; have := HBZ.out; omega))).get hjr (by decide)
       obtain ⟨rfl, hs1, hs2⟩ := hrep
       have hc7 := hcell 0 _ rfl
       simp only [show eInt.size = 1 from rfl, Nat.mul_one, Nat.add_zero] at hc7
       clear hcell
       have HSY := Lib.hid (HFIT.out.2 r[j] (List.getElem_mem hjr))
       have HTK := Lib.hid (show (r.take (j + 1)).map (itemG ns ts) = (r.take j).map (itemG ns ts) ++ [itemG ns ts r[j]] by rw [List.take_succ_eq_append_getElem hjr, List.map_append, List.map_singleton])
       have HLN := Lib.hid (show ((r.take j).map (itemG ns ts)).length = j by rw [List.length_map, List.length_take]; omega)
       generalize r[j] = s at *
       obtain ⟨g0, g1, g2⟩ := row3_cells HGJ.out
       have HWB := Lib.hid (show S ≤ wr.heap.size by have := HSR.out; have := HBZ.out; have := HBJ.out.size; omega)
       have HIT := Lib.hid (item_any (some ⟨b, off, none⟩) A2 (some ⟨b5, o5, none⟩) n m q c1 c2 c3 ns ts s S wr (H1R.out.below ((HBOX.out.keep.mono (Nat.le_of_lt HSR.out)).trans (HBJ.out.mono (by have := HSR.out; have := HBZ.out; omega)))) (H2R.out.below ((HBOX.out.keep.mono (Nat.le_of_lt HSR.out)).trans (HBJ.out.mono (by have := HSR.out; have := HBZ.out; omega)))) HWB.out HSY.out (by omega))
       have HSZI := Lib.hid (item_size HGD.out HSY.out)
       simp only at HSZI
       go_wp2_with fail
       clear g0 g1 g2 hc7
       obtain ⟨it, hit⟩ : ∃ it, it = itemG ns ts s := ⟨_, rfl⟩
       rw [← hit] at HIT HTK HSZI
       clear hit
       obtain ⟨ib, is⟩ := it
       refine HIT.out.mono ?_
       rw [show itemV (ib, is) = .agg #[.bool ib, .string is] from rfl]
       rintro e w5 ⟨rfl, hb5⟩
       have hb6 : Below wr.heap.size wr (w5.alloc (.cells #[.bool ib, .string is] 106)) := hb5.trans (((Below.refl _ _).alloc (Nat.le_refl _) _).mono hb5.size)
       have HNEW := Lib.hid (Go.heap_alloc_new w5 (.cells #[.bool ib, .string is] 106))
       have HB6 := Lib.hid hb6
       have HZ6 := Lib.hid (World.size_alloc w5 (.cells #[.bool ib, .string is] 106))
       obtain ⟨css, h0, h2, h3⟩ := (HO9.out.below hb6).row
       rw [HLN.out] at h0 h2
       clear hb5 hb6
       have hL64 := HFIT.out.1
       go_wp2_with (at_builtin; refine wpList_app (m := 1) item_app rfl rfl rfl rfl h0 (Rd.row (B := w5.heap.size + 1) HNEW.out (Nat.lt_succ_self _)) rfl (by simp [Value.oneCell']) ?h63 ?hby ?hbase ?_)
       case h63 => simp only [maxLen]; omega
       case hby => omega
       case hbase => have := HB6.out.size; have := HBJ.out.size; omega
       intro v9' w7 hown7 hg7 _ _
       have HNO := Lib.hid (show OwnT oItem 106 w7 wm.heap.size v9' ((r.take (j + 1)).map (itemG ns ts)) from by
        rw [HTK.out]
        exact OwnT.snoc (O := oItem) (by simp [oItem_ts]) (by rw [HLN.out]; exact h0) (by rw [HLN.out]; exact h2) h3 ⟨[.bool ib], [.string is], rfl, rfl, rfl, HSZI.out⟩ (by rw [HLN.out]; exact hown7) hg7)
       have HNB := Lib.hid (grown_below (HBJ.out.trans (HB6.out.mono HBJ.out.size)) hg7 h0 (Nat.le_refl _) (Nat.le_trans HBJ.out.size HB6.out.size))
       clear h0 h2 h3 hown7 hg7 HB6 HNEW HZ6
       go_wp2_with fail
       go_roundw
       case rel => exact ⟨j + 1, by omega, by go_num, HNO.out, HNB.out⟩
       case measure => simp [intOf]; omega
      ·obtain rfl : j = L := by omega
       have HO9' := Lib.hid (show OwnT oItem 106 wr wm.heap.size u9 (r.map (itemG ns ts)) from by have := HO9.out; rwa [List.take_of_length_le (by rw [← HLL.out]; exact Nat.le_refl _)] at this)
       clear HO9
       have HBK := Lib.hid (HBOX.out.later HBJ.out)
       have HRL := Lib.hid (show (r.map (itemG ns ts)).length = j by rw [List.length_map, ← HLL.out])
       obtain ⟨A9, c9, hv9, hv91, hv92⟩ := HO9'.out.form
       rw [HRL.out] at hv9 hv91
       subst hv9
       have hk0 : wr.cell? ⟨bx, 1, none⟩ = some vA := by rw [cell_of_row _ _ _ _ _ _ HBK.out.row]; rfl
       have HB6 := Lib.hid ((Below.refl wr.heap.size wr).alloc (Nat.le_refl _) (.cells #[.slice A9 j c9] 104))
       have HNEW := Lib.hid (Go.heap_alloc_new wr (.cells #[.slice A9 j c9] 104))
       have HBK6 := Lib.hid (HBK.out.later HB6.out)
       obtain ⟨css, h0, h2, h3⟩ := HBK6.out.own.row
       have HPL := Lib.hid (HAL.out p hp)
       rw [HPL.out] at h0 h2
       go_wp2_with (at_builtin; refine wpList_app (m := 1) alts_app rfl rfl rfl rfl h0 (Rd.row (B := wr.heap.size + 1) HNEW.out (Nat.lt_succ_self _)) rfl (by simp [Value.oneCell']) ?h63 ?hby ?hbase ?_)
       case h63 => simp only [maxLen]; omega
       case hby => omega
       case hbase => have := HBJ.out.size; have := HBZ.out; have := HB6.out.size; omega
       intro v8 w7 hown7 hg7 _ _
       obtain ⟨A8, c8, hv8, _, _⟩ := own_form hown7
       subst hv8
       have HR7 := Lib.hid (grown_other h0 hg7 HBK6.out.row (by decide))
       have hcell : w7.cell? ⟨bx, 1, none⟩ = some vA := by rw [cell_of_row _ _ _ _ _ _ HR7.out]; rfl
       have hfr : w7.frozen? ⟨bx, 1, none⟩ = false := by simp [World.frozen?, HR7.out]
       obtain ⟨HN1, HN2⟩ := (BoxC.snoc (O := oAlt) (v' := .slice A8 (p + 1) c8) (x := r.map (itemG ns ts)) HBK6.out (by decide) (by decide) (by rw [HPL.out]; exact h0) (by rw [HPL.out]; exact h2) h3 ⟨_, rfl, by
        have := (HO9'.out.below HB6.out).more (N' := bx + 1) (by have := HBZ.out; omega)
        exact this⟩ (by rw [HPL.out]; exact hown7) hg7)
       have HNB := Lib.hid HN1
       have HNK := Lib.hid ((HKT.out.trans (.of_below (HBJ.out.mono (Nat.le_refl _)))).trans ((KeepT.of_below HB6.out).trans (HN2 [3] (by decide) (by decide))))
       clear HN1 HN2 h0 h2 h3 hown7 hg7
       go_wp2_with fail
       go_roundw
       case rel => exact ⟨p + 1, _, by omega, by go_num, by rw [HSP.out]; exact HNB.out, HNK.out⟩
       case measure => simp [intOf]; omega
    ·obtain rfl : p = K := by omega
     have HPL := Lib.hid (HAL.out p hp)
     obtain ⟨AA, cA, hvA, hva1, hva2⟩ := HBOX.out.own.form
     rw [HPL.out] at hvA hva1
     subst hvA
     have hk0 : wr.cell? ⟨bx, 0, none⟩ = some (.string nm) := by rw [cell_of_row _ _ _ _ _ _ HBOX.out.row]; rfl
     have hk1 : wr.cell? ⟨bx, 1, none⟩ = some (.slice AA p cA) := by rw [cell_of_row _ _ _ _ _ _ HBOX.out.row]; rfl
     have HB6 := Lib.hid ((Below.refl wr.heap.size wr).alloc (Nat.le_refl _) (.cells #[.string nm, .slice AA p cA] 103))
     have HNEW := Lib.hid (Go.heap_alloc_new wr (.cells #[.string nm, .slice AA p cA] 103))
     have HOW6 := Lib.hid ((HOWN.out.below (by rw [← HBE.out]; exact HBOX.out.keep)).below HB6.out)
     obtain ⟨css, h0, h2, h3⟩ := HOW6.out.row
     have HIL := Lib.hid (show ((List.range i).map (lineG (ns, ts, rs))).length = i by rw [List.length_map, List.length_range])
     rw [HIL.out] at h0 h2
     go_wp2_with (at_builtin; refine wpList_app (m := 1) line_app rfl rfl rfl rfl h0 (Rd.row (B := wr.heap.size + 1) HNEW.out (Nat.lt_succ_self _)) rfl (by simp [Value.oneCell']) ?h63 ?hby ?hbase ?_)
     case h63 => simp only [maxLen]; omega
     case hby => omega
     case hbase => have := HSR.out; have := HBZ.out; have := HB6.out.size; omega
     intro v3' w7 hown7 hg7 _ _
     have HNO := Lib.hid (show OwnT oLine 103 w7 (S + 1) v3' ((List.range (i + 1)).map (lineG (ns, ts, rs))) from by
      rw [linesG_succ]
      refine OwnT.snoc (O := oLine) (by decide) (by rw [HIL.out]; exact h0) (by rw [HIL.out]; exact h2) h3 (cs := [.string nm, .slice AA p cA]) ?_ (by rw [HIL.out]; exact hown7) hg7
      rw [← HALL.out, HNM.out]
      exact ⟨[.string nm], [.slice AA p cA], rfl, ⟨rfl, HXN.out⟩, _, rfl, ((HBOX.out.own.below HB6.out).more (by have := HSR.out; omega))⟩)
     have HNB := Lib.hid (grown_below ((HBR.out.trans (HBOX.out.keep.mono (by have := HSR.out; omega))).trans (HB6.out.mono (by have := HSR.out; have := HBZ.out; omega))) hg7 h0 (Nat.le_refl _) (by have := HSR.out; have := HBZ.out; have := HB6.out.size; omega))
     clear h0 h2 h3 hown7 hg7
     go_wp2_with fail
     go_roundw
     case rel => exact ⟨i + 1, by omega, by go_num, HNO.out, HNB.out⟩
     case measure => simp [intOf]; omega
  ·obtain rfl : i = n := by omega
   have HRES := Lib.hid (show OwnT oLine 103 wr S u3 (linesG (ns, ts, rs)) from by
    have := HOWN.out.more (N' := S) (Nat.le_succ S)
    rw [HNN.out] at this
    exact this)
   have HBL := Lib.hid (HB2.out.trans (HBR.out.mono (Nat.le_succ S)))
   go_wp2_with fail
   go_ret
   exact ⟨_, rfl, HRES.out, HBL.out⟩
end Go.Proofs.YthojelhpipmkiaaGreatDoor
namespace Go.Proofs.YthojelhpipmkiaaGreatDoor
open Go.Shelf
def laysW_ren : Go.Shelf.Ren := ⟨fun | 166 => 66 | 240 => 103 | 276 => 119 | n => n, fun | 37 => 45 | 70 => 98 | 72 => 100 | 75 => 54 | 80 => 107 | 164 => 157 | n => n, fun | n => n⟩
theorem laysW : Go.Proofs.Lays.n166 Tryz.prog laysW_ren := {
 mixed := by kernel_rfl
 f166 := Tryz.func66.trans (congrArg some (by kernel_rfl))
 f240 := Tryz.func103.trans (congrArg some (by kernel_rfl))
 f276 := Tryz.func119.trans (congrArg some (by kernel_rfl))
 t0 := by kernel_rfl
 a0 := fun _ => by kernel_rfl
 z0 := fun _ => by kernel_rfl
 v0 := fun _ => by kernel_rfl
 t3 := by kernel_rfl
 a3 := fun _ => by kernel_rfl
 z3 := fun _ => by kernel_rfl
 v3 := fun _ => by kernel_rfl
 t4 := by kernel_rfl
 a4 := fun _ => by kernel_rfl
 z4 := fun _ => by kernel_rfl
 v4 := fun _ => by kernel_rfl
 t9 := by kernel_rfl
 a9 := fun _ => by kernel_rfl
 z9 := fun _ => by kernel_rfl
 v9 := fun _ => by kernel_rfl
 t20 := by kernel_rfl
 a20 := fun _ => by kernel_rfl
 z20 := fun _ => by kernel_rfl
 v20 := fun _ => by kernel_rfl
 t37 := by kernel_rfl
 a37 := fun _ => by kernel_rfl
 z37 := fun _ => by kernel_rfl
 v37 := fun _ => by kernel_rfl
 t70 := by kernel_rfl
 a70 := fun _ => by kernel_rfl
 z70 := fun _ => by kernel_rfl
 v70 := fun _ => by kernel_rfl
 t72 := by kernel_rfl
 a72 := fun _ => by kernel_rfl
 z72 := fun _ => by kernel_rfl
 v72 := fun _ => by kernel_rfl
 t75 := by kernel_rfl
 a75 := fun _ => by kernel_rfl
 z75 := fun _ => by kernel_rfl
 v75 := fun _ => by kernel_rfl
 t164 := by kernel_rfl
 a164 := fun _ => by kernel_rfl
 z164 := fun _ => by kernel_rfl
 v164 := fun _ => by kernel_rfl }
theorem builderW : Builder.Extra Tryz.prog laysW_ren := {
 sizeBuilder := by kernel_rfl
 liesBuilder := by kernel_rfl
 t5 := Tryz.underlying5
 a5 := Tryz.isAgg5
 z5 := Tryz.sizeOf5
 v5 := Tryz.zeroValue5
 infoByte := by kernel_rfl
 cellsByte := by kernel_rfl
 sizeByte := by kernel_rfl
 neB5 := by decide }
end Go.Proofs.YthojelhpipmkiaaGreatDoor
