/- Texts of this proof joined: Book0, Sorted, BookGet. -/
import Derived.Test.YtplbcbamnjnhlaaGreatDoorMT00
import Derived.Test.YtplbcbamnjnhlaaGreatDoorMT21
import Derived.Test.YtplbcbamnjnhlaaGreatDoorMT17
import Derived.Test.YtplbcbamnjnhlaaGreatDoorMT09
import Derived.Test.YtplbcbamnjnhlaaGreatDoorSort
import Derived.Shelf.SlSortCmp.NoneTotal
import Derived.Sort.OwnSorted
import Derived.Test.YtplbcbamnjnhlaaGreatDoorMT10
set_option maxRecDepth 100000
set_option maxHeartbeats 40000000
namespace Go.Proofs.YtplbcbamnjnhlaaGreatDoor
open Go.RowKit

def ee (p : K32 × K32) : List Value := af p.1.1.1 p.1.1.2 ++ af p.2.1.1 p.2.1.2
def iv (p : K32 × K32) : Value := .agg (ee p).toArray
def qv (l : List (K32 × K32)) : List (K32 × Value) := l.map fun q => (q.1, kv q.2)
def sw (l : List K32) : List (K32 × Value) := l.map fun k => (k, .int .i64 1)
def rc (l : List (Int × (K32 × K32))) : List (Int × Value) := l.map fun i => (i.1, iv i.2)
def ff (b : bj) (g : Nat) : Array Value := #[.bool b.head, .map (some g), .map (some (g + 1)), .map (some (g + 2)), .int .i64 b.next]
structure ga (w : World) (g : Nat) (b : bj) (lm lp : List (K32 × Value)) (li : List (Int × Value)) : Prop where
 row : w.heap[g + 3]? = some (.cells (ff b g) 74 (0, 0))
 live : MapS kv w g lm
 pins : MapS kv w (g + 1) lp
 ints : MapS (Value.int .i64) w (g + 2) li
 lm_ : lm.Perm (qv b.live)
 lp_ : lp.Perm (sw b.pins)
 li_ : li.Perm (rc b.ints)
def eh (w : World) (g : Nat) (b : bj) : Prop := ∃ lm lp li, ga w g b lm lp li
abbrev bptr (g : Nat) : Value := .pointer (some ⟨g + 3, 0, none⟩)
theorem eh.lt {w : World} {g : Nat} {b : bj} (h : eh w g b) : g + 3 < w.heap.size := by
 obtain ⟨lm, lp, li, h⟩ := h
 exact (gl h.row)
theorem eh.below {w w' : World} {g N : Nat} {b : bj} (h : eh w g b) (hb : Below N w w') (hN : g + 3 < N) : eh w' g b := by
 obtain ⟨lm, lp, li, h⟩ := h
 exact ⟨lm, lp, li, (hb.block _ hN).trans h.row, h.live.below hb (by omega), h.pins.below hb (by omega), h.ints.below hb (by omega), h.lm_, h.lp_, h.li_⟩
structure fp (g : Nat) (w w' : World) : Prop where
 os : w'.os = w.os
 tape : w'.tape = w.tape
 output : w'.output = w.output
 size : w.heap.size ≤ w'.heap.size
 block : ∀ k, k < w.heap.size → (k < g ∨ g + 4 ≤ k) → w'.heap[k]? = w.heap[k]?
theorem fp.refl (g : Nat) (w : World) : fp g w w := ⟨rfl, rfl, rfl, nr _, fun _ _ _ => rfl⟩
theorem fp.trans {g : Nat} {a b c : World} (h : fp g a b) (k : fp g b c) : fp g a c :=
 ⟨k.os.trans h.os, k.tape.trans h.tape, k.output.trans h.output, Nat.le_trans h.size k.size, fun i hi ho => (k.block i (Nat.lt_of_lt_of_le hi h.size) ho).trans (h.block i hi ho)⟩
theorem fp.of_below {g : Nat} {w w' : World} (h : Below w.heap.size w w') : fp g w w' := ⟨h.os, h.tape, h.output, h.size, fun k hk _ => h.block k hk⟩
theorem fp.below {g N : Nat} {w w' : World} (h : fp g w w') (hN : N ≤ g) (hs : N ≤ w.heap.size) : Below N w w' := ⟨h.os, h.tape, h.output, h.size, fun k hk => h.block k (Nat.lt_of_lt_of_le hk hs) (Or.inl (Nat.lt_of_lt_of_le hk hN))⟩
theorem fp.grown {g : Nat} {w0 w w' : World} {row : Option Nat} (h : fp g w0 w) (hg : w.grownBy w' row) (hr : ∀ k, row = some k → g ≤ k ∧ k < g + 4 ∨ w0.heap.size ≤ k) : fp g w0 w' :=
 ⟨hg.os.trans h.os, hg.tape.trans h.tape, hg.output.trans h.output, Nat.le_trans h.size hg.size, fun k hk ho => (hg.block k (Nat.lt_of_lt_of_le hk h.size) (fun he => by
  rcases hr k he.symm with h1 | h1 <;> omega)).trans (h.block k hk ho)⟩

theorem qlu : Tryz.prog.underlying 70 = some (.map 34 36) := by kernel_rfl
theorem map_pins : Tryz.prog.underlying 71 = some (.map 34 3) := by kernel_rfl
theorem qah : Tryz.prog.underlying 72 = some (.map 3 76) := by kernel_rfl
theorem qfg : rl Tryz.prog 70 34 36 kv := qmf ba qlu
theorem qra : rl Tryz.prog 71 34 3 kv := qmf ba map_pins
theorem qcs : rl Tryz.prog 72 3 76 (Value.int .i64) := qtu qah (by kernel_rfl)
theorem qps (w : World) (g : Nat) : (Instr.build 74 #[(1, .map (some g)), (2, .map (some (g + 1))), (3, .map (some (g + 2)))]).run Tryz.prog w = .ok (.agg (ff az g)) w := by
 simp [Instr.build, go_sem]
 kernel_rfl
theorem qrd (w : World) : Calls Tryz.prog 8 #[] w fun e w' => e = .returned (bptr w.heap.size) ∧ eh w' w.heap.size az ∧ Below w.heap.size w w' ∧ w'.heap.size = w.heap.size + 4 := by
 go_enter Tryz.func8, Tryz.ntmps8
 go_wp2_with (refine ai (some 1) rfl ?_)
 refine Stop.go (ql 70 rfl rfl ?_)
 refine ql 71 rfl rfl ?_
 refine ql 72 rfl rfl ?_
 have s1 : (w.alloc (.map #[] 0)).heap.size = w.heap.size + 1 := Array.size_push _
 have s2 : ((w.alloc (.map #[] 0)).alloc (.map #[] 0)).heap.size = w.heap.size + 2 := by rw [sz_, s1]
 have s3 : (((w.alloc (.map #[] 0)).alloc (.map #[] 0)).alloc (.map #[] 0)).heap.size = w.heap.size + 3 := by rw [sz_, s2]
 have H1 := Lh (MapS.made (κ := kv) w)
 have H2 := Lh (MapS.made (κ := kv) (w.alloc (.map #[] 0)))
 have H3 := Lh (MapS.made (κ := Value.int .i64) ((w.alloc (.map #[] 0)).alloc (.map #[] 0)))
 have HB := Lh ((((br w.heap.size w).alloc (nr _) (.map #[] 0)).alloc (by rw [s1]; omega) (.map #[] 0)).alloc (by rw [s2]; omega) (.map #[] 0))
 have HM1 := Lh ((H1.o.alloc (.map #[] 0)).alloc (.map #[] 0))
 have HM2 := Lh (H2.o.alloc (.map #[] 0))
 rw [s1] at HM2
 rw [s1, s2]
 rw [s2] at H3
 have HS3 := Lh s3
 clear s1 s2 s3 H1 H2
 generalize (((w.alloc (.map #[] 0)).alloc (.map #[] 0)).alloc (.map #[] 0)) = w3 at *
 generalize ha : Act.put _ _ _ = z9; simp [Act.put] at ha; subst ha
 refine bl rfl 74 rfl (vs := #[(1, .map (some w.heap.size)), (2, .map (some (w.heap.size + 1))), (3, .map (some (w.heap.size + 2)))]) (by rfl) (qps _ _) ?_
 refine bn rfl 74 rfl rfl (vs := (ff az w.heap.size).toList) rfl ?_
 rw [HS3.o]
 generalize ha : Act.put _ _ _ = z9; simp [Act.put] at ha; subst ha
 have HR := Lh (hzn w3 (.cells (ff az w.heap.size) 74))
 rw [HS3.o] at HR
 go_wp2_with fail
 go_ret
 refine ⟨rfl, ⟨[], [], [], HR.o, HM1.o.alloc _, HM2.o.alloc _, H3.o.alloc _, List.Perm.refl _, List.Perm.refl _, List.Perm.refl _⟩, HB.o.alloc HB.o.size _, ?_⟩
 rw [sz_, HS3.o]

def cmpK (x y : K32) : Int := if eb x y then -1 else if eb y x then 1 else 0
theorem cmp_any (x y : K32) (w : World) : Calls Tryz.prog 72 #[kv x, kv y] w fun e w' => e = .returned (.int .i64 (cmpK x y)) ∧ ∃ q os', w' = Go.Sort.grow (w.drewN q) os' := by
 have H : Calls Tryz.prog 72 #[hkv x.1.1 x.1.2, hkv y.1.1 y.1.2] w fun e w' => e = .returned (.int .i64 (cmpK x y)) ∧ Below w.heap.size w w' ∧ w.drawn ≤ w'.drawn := by
  have hx := x.2
  have hy := y.2
  have HX := Lh hx
  have HY := Lh hy
  clear hx hy
  go_enter Tryz.func72, Tryz.ntmps72
  go_wp2_with (refine ai (some 6) rfl ?_)
  have HG1 := Lh (aq (Go.heap_alloc2_old w (.cells (af x.1.1 x.1.2).toArray 34) (.cells (af y.1.1 y.1.2).toArray 34)))
  have HG2 := Lh (aq (Go.heap_alloc2_new w (.cells (af x.1.1 x.1.2).toArray 34) (.cells (af y.1.1 y.1.2).toArray 34)))
  have HB := Lh (((br _ _).alloc (nr _) (.cells (af x.1.1 x.1.2).toArray 34)).alloc (by rw [sz_]; omega) (.cells (af y.1.1 y.1.2).toArray 34) : Below w.heap.size w _)
  have HSZ := Lh (show ((w.alloc (.cells (af x.1.1 x.1.2).toArray 34)).alloc (.cells (af y.1.1 y.1.2).toArray 34)).heap.size = w.heap.size + 2 by rw [sz_, sz_])
  have HD := Lh (show ((w.alloc (.cells (af x.1.1 x.1.2).toArray 34)).alloc (.cells (af y.1.1 y.1.2).toArray 34)).drawn = w.drawn from rfl)
  generalize ((w.alloc (.cells (af x.1.1 x.1.2).toArray 34)).alloc (.cells (af y.1.1 y.1.2).toArray 34)) = w1 at *
  refine Stop.go (aa rfl 34 rfl rfl ba.ut rfl (al _ _ HX.o) HG1.o ?_)
  refine aa rfl 34 rfl rfl ba.ut rfl (al _ _ HY.o) HG2.o ?_
  generalize ha : Act.put _ _ _ = z9; simp [Act.put] at ha; subst ha
  go_wp2_with fail
  refine (qao x.1.1 y.1.1 x.1.2 y.1.2 w1 HX.o HY.o).mono ?_
  rintro e w2 ⟨rfl, hb2, hd2⟩
  have HB2 := Lh (HB.o.trans (hb2.mono HB.o.size))
  have HD2 := Lh (show w.drawn ≤ w2.drawn by rw [← HD.o]; exact hd2)
  have HG12 := Lh (fun j u hu => (hb2.cell (p := ⟨w.heap.size, 0 + j, none⟩) (by rw [HSZ.o]; show w.heap.size < _; omega)).trans (HG1.o j u hu))
  have HG22 := Lh (fun j u hu => (hb2.cell (p := ⟨w.heap.size + 1, 0 + j, none⟩) (by rw [HSZ.o]; show w.heap.size + 1 < _; omega)).trans (HG2.o j u hu))
  clear hb2 hd2
  rcases Bool.eq_false_or_eq_true (ij x.1.1 x.1.2 y.1.1 y.1.2) with hl | hl
  ·have HC := Lh (show cmpK x y = -1 by unfold cmpK eb; rw [hl]; rfl)
   rw [hl]
   go_wp2_with fail
   go_ret
   exact ⟨rt1 (vint HC.o.symm), HB2.o, HD2.o⟩
  ·have HL := Lh hl
   rw [hl]
   go_wp2_with (refine ai (some 10) rfl ?_)
   refine Stop.go (aa rfl 34 rfl rfl ba.ut rfl (al _ _ HY.o) HG22.o ?_)
   refine aa rfl 34 rfl rfl ba.ut rfl (al _ _ HX.o) HG12.o ?_
   generalize ha : Act.put _ _ _ = z9; simp [Act.put] at ha; subst ha
   go_wp2_with fail
   refine (qao y.1.1 x.1.1 y.1.2 x.1.2 w2 HY.o HX.o).mono ?_
   rintro e w3 ⟨rfl, hb3, hd3⟩
   have HB3 := Lh (HB2.o.trans (hb3.mono HB2.o.size))
   have HD3 := Lh (Nat.le_trans HD2.o hd3)
   clear hb3 hd3
   rcases Bool.eq_false_or_eq_true (ij y.1.1 y.1.2 x.1.1 x.1.2) with hl2 | hl2
   ·have HC := Lh (show cmpK x y = 1 by unfold cmpK eb; rw [HL.o, hl2]; rfl)
    rw [hl2]
    go_wp2_with fail
    go_ret
    exact ⟨rt1 (vint HC.o.symm), HB3.o, HD3.o⟩
   ·have HC := Lh (show cmpK x y = 0 by unfold cmpK eb; rw [HL.o, hl2]; rfl)
    rw [hl2]
    go_wp2_with fail
    go_ret
    exact ⟨rt1 (vint HC.o.symm), HB3.o, HD3.o⟩
 exact H.mono fun e w' ⟨he, hb, hd⟩ => ⟨he, grown_of hb hd⟩
end Go.Proofs.YtplbcbamnjnhlaaGreatDoor
namespace Go.Proofs.YtplbcbamnjnhlaaGreatDoor
open Go.RowKit Go.Sort

def encK (k : K32) : List Value := af k.1.1 k.1.2
def df (ks : List K32) : List Value := ks.flatMap encK
theorem bi (k : K32) : (encK k).length = 33 := by unfold encK; rw [ae, k.2]
theorem ja (ks : List K32) : (df ks).length = ks.length * 33 := by
 induction ks with
 |nil => rfl
 |cons k r ih => unfold df at *; rw [List.flatMap_cons, List.length_append, ih, bi, List.length_cons, Nat.add_mul]; omega
theorem zb : ∀ (ks : List K32) (t : Nat), t < ks.length * 33 → (df ks)[t]? = some ((encK (ks.toArray[t / 33]!))[t % 33]!)
 |[], t, h => by simp at h
 |k :: r, t, h => by
  unfold df
  rw [List.flatMap_cons]
  by_cases ht : t < 33
  ·rw [List.getElem?_append_left (by rw [bi]; exact ht), Nat.div_eq_of_lt ht, Nat.mod_eq_of_lt ht]
   have hl : t < (encK k).length := by rw [bi]; exact ht
   simp [hl]
  ·rw [List.getElem?_append_right (by rw [bi]; omega), bi]
   have ih := zb r (t - 33) (by rw [List.length_cons, Nat.add_mul] at h; omega)
   unfold df at ih
   rw [ih]
   have e1 : t / 33 = (t - 33) / 33 + 1 := by omega
   have e2 : t % 33 = (t - 33) % 33 := by omega
   rw [e1, e2]
   have hlt : (t - 33) / 33 < r.length := by rw [List.length_cons, Nat.add_mul] at h; omega
   simp [hlt]
theorem qgb (ks : List K32) : (flatK encK 33 ks.toArray).toList = df ks := by
 apply List.ext_getElem?
 intro t
 by_cases h : t < ks.length * 33
 ·rw [zb ks t h, Array.getElem?_toList]
  have h' : t < ks.toArray.size * 33 := by simpa using h
  have hs : t < (flatK encK 33 ks.toArray).size := by rw [size_flatK]; exact h'
  have := get_flatK encK 33 ks.toArray t h'
  rw [getElem!_pos _ t hs] at this
  rw [Array.getElem?_eq_getElem hs, this]
 ·rw [List.getElem?_eq_none (by rw [Array.length_toList, size_flatK]; simpa using h), List.getElem?_eq_none (by rw [ja]; omega)]
theorem qaj (x y : K32) : ltOf cmpK x y = eb x y := by
 unfold ltOf cmpK
 cases eb x y
 ·simp only [Bool.false_eq_true, if_false]
  cases eb y x <;> rfl
 ·rfl
theorem swoK : SWO (ltOf cmpK) where
 irrefl := fun x => by rw [qaj]; exact um x
 trans := fun x y z h1 h2 => by rw [qaj] at *; exact wj h1 h2
 ntrans := fun x y z h1 h2 => by rw [qaj] at *; exact qjn h1 h2
theorem qpd {w : World} {g : Nat} {cur : Array Value} {e : TypeId} {ks : List K32} (hb : w.heap[g]? = some (.cells cur e (0, 0))) (ht : cur.toList.take (ks.length * 33) = df ks) : HoldsK encK 33 w g 0 ks.toArray := by
 intro j hj
 have hj' : j < ks.length * 33 := by simpa using hj
 refine ⟨?_, by simp [World.frozen?, hb]⟩
 have h1 : (cur.toList.take (ks.length * 33))[j]? = (flatK encK 33 ks.toArray).toList[j]? := by rw [ht, qgb]
 rw [List.getElem?_take_of_lt hj', Array.getElem?_toList, Array.getElem?_toList, Array.getElem?_eq_getElem hj] at h1
 rw [getElem!_pos _ j hj]
 simp only [World.cell?, hb, Nat.zero_add]
 simp only [Option.isSome_none, Bool.false_eq_true, if_false]
 rw [h1]
 rfl
theorem qjq {w : World} {g n : Nat} {os : Array Obj} {cur : Array Value} {e : TypeId} {fr : Nat × Nat} (F : Array Value) (hb : w.heap[g]? = some (.cells cur e fr)) :
  (Go.Sort.grow (putRow id (Sort.ahead w n) g 0 F) os).heap[g]? = some (.cells (putCells id 0 F cur) e fr) := by
 have hg : g < w.heap.size := (gl hb)
 rw [heap_grow_old _ _ (by simpa using hg)]
 simp [putRow, mapBlock, Sort.ahead, Array.getElem?_modify, hb, onCells]
theorem qdc {w : World} {g n : Nat} {os : Array Obj} (F : Array Value) : w.grownBy (Go.Sort.grow (putRow id (Sort.ahead w n) g 0 F) os) (some g) := by
 refine ⟨rfl, rfl, rfl, by simp, fun k hk hne => ?_⟩
 rw [heap_grow_old _ _ (by simpa using hk)]
 have : g ≠ k := fun e => hne (by rw [e])
 simp [putRow, mapBlock, Sort.ahead, Array.getElem?_modify, this]
theorem qed (cur F : Array Value) (h : F.size ≤ cur.size) : (putCells id 0 F cur).toList.take F.size = F.toList := by
 apply List.ext_getElem?
 intro j
 by_cases hj : j < F.size
 ·rw [List.getElem?_take_of_lt hj, Array.getElem?_toList]
  simp [putCells, hj, show j < cur.size by omega]
 ·rw [List.getElem?_take_eq_none (by omega), List.getElem?_eq_none (by simp; omega)]
theorem qtw (w : World) : (isAgg 34).run Tryz.prog w = .ok true w := by
 unfold isAgg
 rw [Sem.run_bind, run_underlying ba.ut w]
 rfl
theorem qnv (w : World) : (Go.sizeOf 34).run Tryz.prog w = .ok 33 w := by kernel_rfl
def qnk (base : Nat) (v : Value) (ks : List K32) (w : World) (e : Ending) (w' : World) : Prop :=
 ∃ ks', e = .returned v ∧ ks'.Perm ks ∧ ks'.Pairwise (fun a b => eb b a = false) ∧ w'.ownsRow base 34 33 v ks'.length (df ks') ∧ w.grownBy w' v.ownBlock
theorem qej (base : Nat) (v : Value) (ks : List K32) (w : World) (h : w.ownsRow base 34 33 v ks.length (df ks)) (hn : ks.length < 4611686018427387904) :
  Calls Tryz.prog 51 #[v] w (qnk base v ks w) := by
 obtain ⟨A, c, rfl, hc1, hc2⟩ := ap h
 have eg : ∀ args w, (callFunc 72 args).run Tryz.prog w = .ok (.enter 72 args) w := enters_of Tryz.func72 (by kernel_rfl) rfl
 have HH := Lh h
 have hcon : Calls Tryz.prog 71 #[.slice A ks.length c, .func (.func 72) #[] #[]] w fun e w' => e = .returned (.tuple #[]) ∧ qnk base (.slice A ks.length c) ks w (.returned (.slice A ks.length c)) w' := by
  rcases HH.o.2 with ⟨hnil, h0⟩ | ⟨g, cap, cur, hv, hbase, hb, h1, h2, h3, h4⟩
  ·injection hnil with e1 e2 e3
   subst e1
   rw [h0]
   refine (AnyF.slices_SortFunc_none { Tryz.sortLay with } none c _ w).mono fun e w' ⟨he, hw⟩ => ⟨he, ks, rfl, List.Perm.refl _, ?_, ?_, ?_⟩
   ·rw [List.eq_nil_of_length_eq_zero h0]; exact List.Pairwise.nil
   ·subst hw; have := HH.o; rw [h0] at this; rw [h0]; exact this
   ·subst hw; exact ⟨rfl, rfl, rfl, nr _, fun _ _ _ => rfl⟩
  ·injection hv with e1 e2 e3
   subst e1 e3
   have hH := qpd hb h4
   have hgl : g < w.heap.size := (gl hb)
   have := AnyQ.slices_SortFunc Tryz.sortLay 33 qtw qnv encK bi (fun k u hu => bc _ _ u hu) cmpK swoK 72 #[] g 0 c ks.toArray w eg (fun m os dk hdk x y => cmp_any x y _) hH hgl (by simpa using hn)
   simp only [List.size_toArray] at this
   refine Calls.mono this fun e w' ⟨he, d', n, os, hp, hs, hw⟩ => ⟨he, d'.toList, rfl, ?_, ?_, ?_, ?_⟩
   ·obtain ⟨p1, _, p3⟩ := hp
    have e1 : d'.extract 0 ks.length = d' := by
     apply Array.extract_eq_self_of_le; rw [p1]; simp
    have e2 : ks.toArray.extract 0 ks.length = ks.toArray := by
     apply Array.extract_eq_self_of_le; simp
    rw [e1, e2] at p3
    simpa using p3
   ·rw [List.pairwise_iff_getElem]
    intro i j hi hj hij
    have hsz : d'.size = ks.length := by rw [hp.1]; simp
    have := hs i j (Nat.zero_le _) hij (by rw [← hsz]; simpa using hj)
    rw [qaj] at this
    have hj' : j < d'.size := by simpa using hj
    have hi' : i < d'.size := by simpa using hi
    rw [getElem!_pos d' j hj', getElem!_pos d' i hi'] at this
    simpa using this
   ·have hsz : d'.toList.length = ks.length := by rw [Array.length_toList, hp.1]; simp
    subst hw
    have hF : (flatK encK 33 d') = (flatK encK 33 d'.toList.toArray) := by simp
    rw [hsz]
    refine ⟨by rw [ja, hsz], .inr ⟨g, c, _, rfl, hbase, qjq _ hb, h1, h2, by simp [putCells, h3], ?_⟩⟩
    have hfs : (flatK encK 33 d').size = ks.length * 33 := by rw [size_flatK, hp.1]; simp
    have := qed cur (flatK encK 33 d') (by rw [hfs, h3]; exact Nat.mul_le_mul_right 33 h1)
    rw [hfs] at this
    rw [this, hF, qgb]
   ·subst hw
    exact qdc _
 have HC := Lh hcon
 clear h hcon HH
 go_enter Tryz.func51, Tryz.ntmps51
 go_wp2_with fail
 refine HC.o.mono ?_
 rintro e w' ⟨rfl, hs⟩
 have HS := Lh hs
 clear hs
 go_wp2_with fail
 go_ret
 exact HS.o
end Go.Proofs.YtplbcbamnjnhlaaGreatDoor
namespace Go.Proofs.YtplbcbamnjnhlaaGreatDoor
open Go.RowKit

theorem ga.live_cell {w : World} {g : Nat} {b : bj} {lm lp : List (K32 × Value)} {li : List (Int × Value)} (h : ga w g b lm lp li) : w.cell? ⟨g + 3, 1, none⟩ = some (.map (some g)) := by rw [cell_of_row _ _ _ _ _ _ h.row]; rfl
theorem ga.pins_cell {w : World} {g : Nat} {b : bj} {lm lp : List (K32 × Value)} {li : List (Int × Value)} (h : ga w g b lm lp li) : w.cell? ⟨g + 3, 2, none⟩ = some (.map (some (g + 1))) := by rw [cell_of_row _ _ _ _ _ _ h.row]; rfl
theorem ga.ints_cell {w : World} {g : Nat} {b : bj} {lm lp : List (K32 × Value)} {li : List (Int × Value)} (h : ga w g b lm lp li) : w.cell? ⟨g + 3, 3, none⟩ = some (.map (some (g + 2))) := by rw [cell_of_row _ _ _ _ _ _ h.row]; rfl
theorem ga.head_cell {w : World} {g : Nat} {b : bj} {lm lp : List (K32 × Value)} {li : List (Int × Value)} (h : ga w g b lm lp li) : w.cell? ⟨g + 3, 0, none⟩ = some (.bool b.head) := by rw [cell_of_row _ _ _ _ _ _ h.row]; rfl
theorem ga.next_cell {w : World} {g : Nat} {b : bj} {lm lp : List (K32 × Value)} {li : List (Int × Value)} (h : ga w g b lm lp li) : w.cell? ⟨g + 3, 4, none⟩ = some (.int .i64 b.next) := by rw [cell_of_row _ _ _ _ _ _ h.row]; rfl
def vlen : Value → Nat
 |.slice _ n _ => n
 |_ => 0
theorem qd (h : List UInt8) (k : Int) (hh : h.length = 32) : (Tryz.prog.info? 34).map (fun i => (i.zero, i.size)) = some (some (hkv z32 0), (af h k).length) := by rw [ae, hh]; kernel_rfl
theorem qci {ks m : List K32} (hp : ks.Perm m) (h1 : m.Pairwise fun a b => eb a b = true) (h2 : ∀ k ∈ m, okK k) (h3 : ks.Pairwise fun a b => eb b a = false) : ks = m := by
 refine hp.eq_of_pairwise (le := fun a b => eb b a = false) ?_ h3 (h1.imp fun h => qlz h)
 intro a b ha hb hab hba
 exact qcq (h2 a (hp.mem_iff.1 ha)) (h2 b hb) hba hab
theorem qib {b : bj} (h : Good b) : (b.live.map (·.1)).Pairwise fun x y => eb x y = true := by rw [List.pairwise_map]; exact h.live
theorem live_ok {b : bj} (h : Good b) : ∀ k ∈ b.live.map (·.1), okK k := by
 intro k hk
 obtain ⟨p, hp, rfl⟩ := List.mem_map.1 hk
 exact (h.lok p hp).1
theorem ul (l : List (K32 × K32)) : (qv l).map (·.1) = l.map (·.1) := by simp [qv, Function.comp_def]
theorem qr (l : List K32) : (sw l).map (·.1) = l := by simp [sw, Function.comp_def]
def KeysTo (ks : List K32) (w : World) (e : Ending) (w' : World) : Prop := ∃ v, e = .returned v ∧ w'.ownsRow w.heap.size 34 33 v ks.length (df ks) ∧ Below w.heap.size w w'

theorem qlx (g : Nat) (b : bj) (w : World) (h : eh w g b) (hg : Good b) (hl : b.live.length ≤ 1000000000) :
  Calls Tryz.prog 26 #[bptr g] w (KeysTo (b.live.map (·.1)) w) := by
 have HGD := Lh hg
 have hglt := h.lt
 obtain ⟨lm, lp, li, h⟩ := h
 have hc := h.live_cell
 have HM := Lh h.live
 have HPM := Lh h.lm_
 have HLN := Lh (show lm.length ≤ 1000000000 by rw [h.lm_.length_eq]; simpa [qv] using hl)
 clear h hg hl
 generalize lm = l at *
 go_enter Tryz.func26, Tryz.ntmps26
 go_wp2_with (refine ai (some 11) rfl ?_)
 refine Stop.go (xy qfg rfl rfl rfl HM.o ?_)
 intro w1 hr1 hg1 hs1
 have HB1 := Lh ((br w.heap.size w).grown hg1 (nr _) (fun k hk => by cases hk))
 have HR1 := Lh hr1
 clear hr1 hg1 hs1
 generalize ha : Act.put _ _ _ = z9; simp [Act.put] at ha; subst ha
 go_wp2_with fail
 go_loopw [3] (fun v3 wr => ∃ (out : List (K32 × Value)) (A3 : Option Addr) (c3 : Nat), v3 = .slice A3 out.length c3 ∧ Hid (jl kv wr w.heap.size (g) l out) ∧
  Hid (wr.ownsRow w.heap.size 34 33 (.slice A3 out.length c3) out.length (df (out.map (·.1)))) ∧ Hid (Below w.heap.size w wr)) (fun v3 _ => l.length - vlen v3)
 case atStart => exact ⟨[], none, 0, rfl, HR1, World.ownsRow_nil _ _ _ _, HB1⟩
 case round =>
  obtain ⟨out, A3, c3, rfl, HR, HO, HB⟩ := hrel
  go_wp2_with (refine ai (some 12) rfl ?_)
  refine Stop.go (zr rfl rfl rfl HR.o (by omega) ?_ ?_)
  ·intro hperm
   have HPO := Lh hperm
   clear hperm
   generalize ha : Act.put _ _ _ = z9; simp [Act.put] at ha; subst ha
   go_wp2_with fail
   have hol : out.length < 4611686018427387904 := by have := HR.o.le; have := HLN.o; omega
   refine (qej w.heap.size (.slice A3 out.length c3) (out.map (·.1)) wr (by rw [List.length_map]; exact HO.o) (by rw [List.length_map]; exact hol)).mono ?_
   rintro e w5 ⟨ks', rfl, hp5, hs5, ho5, hg5⟩
   have HK := Lh (show ks' = (b.live.map (·.1)) from qci (m := (b.live.map (·.1))) (hp5.trans (by have := (HPO.o.trans HPM.o).map (·.1); rwa [ul] at this)) (qib HGD.o) (live_ok HGD.o) hs5)
   have HO5 := Lh ho5
   have HB5 := Lh (ax HB.o hg5 HO.o (nr _) HB.o.size)
   clear hp5 hs5 ho5 hg5
   go_wp2_with fail
   go_ret
   refine ⟨_, rfl, ?_, HB5.o⟩
   rw [← HK.o]
   exact HO5.o
  ·intro p w2 hr2 hg2 hs2 hen
   have HR2 := Lh hr2
   have hne : some w.heap.size ≠ (Value.slice A3 out.length c3).ownBlock := fun he => by
    obtain ⟨es, cl, seen, rest, hit, _⟩ := HR.o
    rcases HO.o.2 with ⟨hn, _⟩ | ⟨q, cap, cur, hv, _, hb, _⟩
    ·rw [hn] at he; simp [Value.ownBlock] at he
    ·rw [hv] at he
     have : w.heap.size = q := by simpa [Value.ownBlock] using he
     subst this
     rw [hit] at hb
     cases hb
   have HO2 := Lh (HO.o.kept hg2 (Or.inr hne.symm))
   have HB2 := Lh (HB.o.grown hg2 HB.o.size (fun k hk => by injection hk with hk; omega))
   have HOL := Lh (show out.length + 1 ≤ 1000000000 by have := HR2.o.le; rw [List.length_append, List.length_singleton] at this; have := HLN.o; omega)
   have HEN := Lh hen
   have HNE := Lh hne
   clear hr2 hg2 hs2 hne
   generalize ha : Act.put _ _ _ = z9; simp [Act.put] at ha; subst ha
   go_wp2_with (refine ai (some 4) rfl ?_)
   clear hen
   have hb3 : Below w2.heap.size w2 (w2.alloc (.cells (encK p.1).toArray 34)) := (br _ _).alloc (nr _) _
   have HO3 := Lh (bw HO2.o hb3)
   have HR3 := Lh (HR2.o.of_blocks (w' := w2.alloc (.cells (encK p.1).toArray 34)) (hb3.block _ HR2.o.lt) (hb3.block _ HR2.o.lt_map))
   have HB3 := Lh (HB2.o.trans (hb3.mono HB2.o.size))
   have HG3 := Lh (aq (vs := encK p.1) (hzn w2 (.cells (encK p.1).toArray 34)))
   clear hb3
   refine Stop.go (av rfl 34 rfl ge rfl ?_)
   refine ac rfl 34 rfl rfl rfl (ch (g := w2.heap.size) rfl (v := kv p.1) (vs := encK p.1) rfl (al _ _ p.1.2) (by rw [bi]; simp [ae, bg]) (bc _ _)) ?_
   generalize w2.alloc (.cells (encK p.1).toArray 34) = w3 at *
   generalize ha : Act.put _ _ _ = z9; simp [Act.put] at ha; subst ha
   go_wp2_with (refine ai (some 17) rfl ?_)
   refine Stop.go (aa rfl 34 rfl rfl ba.ut rfl (cs := encK p.1) (al _ _ p.1.2) HG3.o ?_)
   refine cd rfl 28 34 rfl rfl (vs := encK p.1) Tryz.underlying28 (z := hkv z32 0) (qd _ _ p.1.2) rfl (by rw [bi]; omega) (by rw [bi]; decide) ?_
   have hb4 : Below w3.heap.size w3 (w3.alloc (.cells (encK p.1).toArray 34)) := (br _ _).alloc (nr _) _
   have HO4 := Lh (bw HO3.o hb4)
   have HR4 := Lh (HR3.o.of_blocks (w' := w3.alloc (.cells (encK p.1).toArray 34)) (hb4.block _ HR3.o.lt) (hb4.block _ HR3.o.lt_map))
   have HB4 := Lh (HB3.o.trans (hb4.mono HB3.o.size))
   have HG4 := Lh (hzn w3 (.cells (encK p.1).toArray 34))
   have HS4 := Lh (show (w3.alloc (.cells (encK p.1).toArray 34)).heap.size = w3.heap.size + 1 from Array.size_push _)
   generalize w3.alloc (.cells (encK p.1).toArray 34) = w4 at *
   clear hb4
   have hbw4 := HB4.o.size
   have hol := HOL.o
   refine ay nt rfl rfl rfl rfl HO4.o (Rd.row (B := w4.heap.size) HG4.o (by rw [HS4.o]; omega)) (m := 1) (by rw [show (encK p.1).toArray.toList = encK p.1 from rfl, bi]) (by intro u hu; exact bc _ _ u hu) ?h63 ?hby ?hbase ?_
   case h63 => simp only [maxLen]; omega
   case hby => omega
   case hbase => exact hbw4
   intro v5 w5 hown5 hg5 hor5 _
   obtain ⟨A5, c5, rfl, _, _⟩ := ap hown5
   have HR5 := Lh (HR4.o.of_blocks (hg5.block _ HR4.o.lt HNE.o) (hg5.block _ HR4.o.lt_map (fun he => by have := (HO4.o.lt _ he.symm).1; omega)))
   have HB5 := Lh (ax HB4.o hg5 HO4.o (nr _) hbw4)
   have HO5 := Lh hown5
   clear hown5 hg5 hor5 hbw4
   generalize ha : Act.put _ _ _ = z9; simp [Act.put] at ha; subst ha
   go_wp2_with fail
   go_roundw
   case rel =>
    refine ⟨out ++ [p], A5, c5, by simp, HR5, ?_, HB5⟩
    have hlen : (out ++ [p]).length = out.length + 1 := by simp
    have hks : df ((out ++ [p]).map (·.1)) = df (out.map (·.1)) ++ (encK p.1).toArray.toList := by simp [df]
    rw [hlen, hks]
    exact HO5.o
   case measure =>
    have := HR5.o.le
    rw [List.length_append, List.length_singleton] at this
    simp only [vlen]
    omega

theorem qlk (g : Nat) (b : bj) (w : World) (h : eh w g b) (hg : Good b) (hl : b.pins.length ≤ 1000000000) :
  Calls Tryz.prog 27 #[bptr g] w (KeysTo b.pins w) := by
 have HGD := Lh hg
 have hglt := h.lt
 obtain ⟨lm, lp, li, h⟩ := h
 have hc := h.pins_cell
 have HM := Lh h.pins
 have HPM := Lh h.lp_
 have HLN := Lh (show lp.length ≤ 1000000000 by rw [h.lp_.length_eq]; simpa [sw] using hl)
 clear h hg hl
 generalize lp = l at *
 go_enter Tryz.func27, Tryz.ntmps27
 go_wp2_with (refine ai (some 11) rfl ?_)
 refine Stop.go (xy qra rfl rfl rfl HM.o ?_)
 intro w1 hr1 hg1 hs1
 have HB1 := Lh ((br w.heap.size w).grown hg1 (nr _) (fun k hk => by cases hk))
 have HR1 := Lh hr1
 clear hr1 hg1 hs1
 generalize ha : Act.put _ _ _ = z9; simp [Act.put] at ha; subst ha
 go_wp2_with fail
 go_loopw [3] (fun v3 wr => ∃ (out : List (K32 × Value)) (A3 : Option Addr) (c3 : Nat), v3 = .slice A3 out.length c3 ∧ Hid (jl kv wr w.heap.size (g + 1) l out) ∧
  Hid (wr.ownsRow w.heap.size 34 33 (.slice A3 out.length c3) out.length (df (out.map (·.1)))) ∧ Hid (Below w.heap.size w wr)) (fun v3 _ => l.length - vlen v3)
 case atStart => exact ⟨[], none, 0, rfl, HR1, World.ownsRow_nil _ _ _ _, HB1⟩
 case round =>
  obtain ⟨out, A3, c3, rfl, HR, HO, HB⟩ := hrel
  go_wp2_with (refine ai (some 12) rfl ?_)
  refine Stop.go (zr rfl rfl rfl HR.o (by omega) ?_ ?_)
  ·intro hperm
   have HPO := Lh hperm
   clear hperm
   generalize ha : Act.put _ _ _ = z9; simp [Act.put] at ha; subst ha
   go_wp2_with fail
   have hol : out.length < 4611686018427387904 := by have := HR.o.le; have := HLN.o; omega
   refine (qej w.heap.size (.slice A3 out.length c3) (out.map (·.1)) wr (by rw [List.length_map]; exact HO.o) (by rw [List.length_map]; exact hol)).mono ?_
   rintro e w5 ⟨ks', rfl, hp5, hs5, ho5, hg5⟩
   have HK := Lh (show ks' = b.pins from qci (m := b.pins) (hp5.trans (by have := (HPO.o.trans HPM.o).map (·.1); rwa [qr] at this)) HGD.o.pins HGD.o.pok hs5)
   have HO5 := Lh ho5
   have HB5 := Lh (ax HB.o hg5 HO.o (nr _) HB.o.size)
   clear hp5 hs5 ho5 hg5
   go_wp2_with fail
   go_ret
   refine ⟨_, rfl, ?_, HB5.o⟩
   rw [← HK.o]
   exact HO5.o
  ·intro p w2 hr2 hg2 hs2 hen
   have HR2 := Lh hr2
   have hne : some w.heap.size ≠ (Value.slice A3 out.length c3).ownBlock := fun he => by
    obtain ⟨es, cl, seen, rest, hit, _⟩ := HR.o
    rcases HO.o.2 with ⟨hn, _⟩ | ⟨q, cap, cur, hv, _, hb, _⟩
    ·rw [hn] at he; simp [Value.ownBlock] at he
    ·rw [hv] at he
     have : w.heap.size = q := by simpa [Value.ownBlock] using he
     subst this
     rw [hit] at hb
     cases hb
   have HO2 := Lh (HO.o.kept hg2 (Or.inr hne.symm))
   have HB2 := Lh (HB.o.grown hg2 HB.o.size (fun k hk => by injection hk with hk; omega))
   have HOL := Lh (show out.length + 1 ≤ 1000000000 by have := HR2.o.le; rw [List.length_append, List.length_singleton] at this; have := HLN.o; omega)
   have HEN := Lh hen
   have HNE := Lh hne
   clear hr2 hg2 hs2 hne
   generalize ha : Act.put _ _ _ = z9; simp [Act.put] at ha; subst ha
   go_wp2_with (refine ai (some 4) rfl ?_)
   clear hen
   have hb3 : Below w2.heap.size w2 (w2.alloc (.cells (encK p.1).toArray 34)) := (br _ _).alloc (nr _) _
   have HO3 := Lh (bw HO2.o hb3)
   have HR3 := Lh (HR2.o.of_blocks (w' := w2.alloc (.cells (encK p.1).toArray 34)) (hb3.block _ HR2.o.lt) (hb3.block _ HR2.o.lt_map))
   have HB3 := Lh (HB2.o.trans (hb3.mono HB2.o.size))
   have HG3 := Lh (aq (vs := encK p.1) (hzn w2 (.cells (encK p.1).toArray 34)))
   clear hb3
   refine Stop.go (av rfl 34 rfl ge rfl ?_)
   refine ac rfl 34 rfl rfl rfl (ch (g := w2.heap.size) rfl (v := kv p.1) (vs := encK p.1) rfl (al _ _ p.1.2) (by rw [bi]; simp [ae, bg]) (bc _ _)) ?_
   generalize w2.alloc (.cells (encK p.1).toArray 34) = w3 at *
   generalize ha : Act.put _ _ _ = z9; simp [Act.put] at ha; subst ha
   go_wp2_with (refine ai (some 17) rfl ?_)
   refine Stop.go (aa rfl 34 rfl rfl ba.ut rfl (cs := encK p.1) (al _ _ p.1.2) HG3.o ?_)
   refine cd rfl 28 34 rfl rfl (vs := encK p.1) Tryz.underlying28 (z := hkv z32 0) (qd _ _ p.1.2) rfl (by rw [bi]; omega) (by rw [bi]; decide) ?_
   have hb4 : Below w3.heap.size w3 (w3.alloc (.cells (encK p.1).toArray 34)) := (br _ _).alloc (nr _) _
   have HO4 := Lh (bw HO3.o hb4)
   have HR4 := Lh (HR3.o.of_blocks (w' := w3.alloc (.cells (encK p.1).toArray 34)) (hb4.block _ HR3.o.lt) (hb4.block _ HR3.o.lt_map))
   have HB4 := Lh (HB3.o.trans (hb4.mono HB3.o.size))
   have HG4 := Lh (hzn w3 (.cells (encK p.1).toArray 34))
   have HS4 := Lh (show (w3.alloc (.cells (encK p.1).toArray 34)).heap.size = w3.heap.size + 1 from Array.size_push _)
   generalize w3.alloc (.cells (encK p.1).toArray 34) = w4 at *
   clear hb4
   have hbw4 := HB4.o.size
   have hol := HOL.o
   refine ay nt rfl rfl rfl rfl HO4.o (Rd.row (B := w4.heap.size) HG4.o (by rw [HS4.o]; omega)) (m := 1) (by rw [show (encK p.1).toArray.toList = encK p.1 from rfl, bi]) (by intro u hu; exact bc _ _ u hu) ?h63 ?hby ?hbase ?_
   case h63 => simp only [maxLen]; omega
   case hby => omega
   case hbase => exact hbw4
   intro v5 w5 hown5 hg5 hor5 _
   obtain ⟨A5, c5, rfl, _, _⟩ := ap hown5
   have HR5 := Lh (HR4.o.of_blocks (hg5.block _ HR4.o.lt HNE.o) (hg5.block _ HR4.o.lt_map (fun he => by have := (HO4.o.lt _ he.symm).1; omega)))
   have HB5 := Lh (ax HB4.o hg5 HO4.o (nr _) hbw4)
   have HO5 := Lh hown5
   clear hown5 hg5 hor5 hbw4
   generalize ha : Act.put _ _ _ = z9; simp [Act.put] at ha; subst ha
   go_wp2_with fail
   go_roundw
   case rel =>
    refine ⟨out ++ [p], A5, c5, by simp, HR5, ?_, HB5⟩
    have hlen : (out ++ [p]).length = out.length + 1 := by simp
    have hks : df ((out ++ [p]).map (·.1)) = df (out.map (·.1)) ++ (encK p.1).toArray.toList := by simp [df]
    rw [hlen, hks]
    exact HO5.o
   case measure =>
    have := HR5.o.le
    rw [List.length_append, List.length_singleton] at this
    simp only [vlen]
    omega
end Go.Proofs.YtplbcbamnjnhlaaGreatDoor
