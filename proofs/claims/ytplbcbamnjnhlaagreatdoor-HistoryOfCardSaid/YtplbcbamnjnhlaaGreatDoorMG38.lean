/- Texts of this proof joined: RefPlain, Ref32b, RefLoad, KeyRef. -/
import Derived.Test.YtplbcbamnjnhlaaGreatDoorMG00
import Derived.Test.YtplbcbamnjnhlaaGreatDoorMG19
import Derived.Test.YtplbcbamnjnhlaaGreatDoorMG24
import Derived.Test.YtplbcbamnjnhlaaGreatDoorMG14
import Derived.Deep.RegionLaw
import Derived.Test.YtplbcbamnjnhlaaGreatDoorMG11
set_option maxRecDepth 100000
set_option maxHeartbeats 40000000
namespace Go.Proofs.YtplbcbamnjnhlaaGreatDoor
open Go.RowKit

def D1 (k : Nat) : RecD := ⟨k, 0, z32, 0, z32, 0, []⟩
def D2 (k : Nat) (l : List UInt8) : RecD := if k = 2 ∧ l.length = 74 then decR 2 l else D1 k
def D3 (k : Nat) (l : List UInt8) : RecD := if k = 3 ∧ l.length = 6 then decR 3 l else D2 k l
def D4 (k : Nat) (l : List UInt8) : RecD := if k = 4 ∧ l.length = 68 then decR 4 l else D3 k l
def D5 (k : Nat) (l : List UInt8) : RecD := if (k = 5 ∨ k = 6) ∧ l.length = 33 then decR (k : Nat) l else D4 k l
def D7 (k : Nat) (l : List UInt8) : RecD := if k = 7 then decR 7 l else D5 k l
theorem qh1 {l : List UInt8} {n : Nat} (h : n ≤ l.length / 33) : ∀ x ∈ (List.range n).map (fun i => fk l (33 * i)), x.1.length = 32 := by
 intro x hx
 obtain ⟨i, hi, rfl⟩ := List.mem_map.1 hx
 have := List.mem_range.1 hi
 exact j6 l _ (by omega)
theorem D5_good (k : Nat) (l : List UInt8) : Hs (D5 k l) ∧ (D5 k l).keys = [] ∧ (D5 k l).kind = k := by
 unfold D5
 split
 ·rename_i h
  obtain ⟨hk, hl⟩ := h
  rcases hk with rfl | rfl
  ·exact ⟨⟨j6 l 0 (by omega), rfl⟩, rfl, rfl⟩
  ·exact ⟨⟨j6 l 0 (by omega), rfl⟩, rfl, rfl⟩
 ·unfold D4
  split
  ·rename_i h
   obtain ⟨rfl, hl⟩ := h
   exact ⟨⟨j6 l 0 (by omega), by show ((l.drop 33).take 32).length = 32; rw [List.length_take, List.length_drop]; omega⟩, rfl, rfl⟩
  ·unfold D3
   split
   ·rename_i h
    obtain ⟨rfl, hl⟩ := h
    exact ⟨⟨rfl, rfl⟩, rfl, rfl⟩
   ·unfold D2
    split
    ·rename_i h
     obtain ⟨rfl, hl⟩ := h
     exact ⟨⟨j6 l 6 (by omega), by show ((l.drop 39).take 32).length = 32; rw [List.length_take, List.length_drop]; omega⟩, rfl, rfl⟩
    ·exact ⟨⟨rfl, rfl⟩, rfl, rfl⟩
theorem qj6 (k : Nat) (l : List UInt8) : Hs (D7 k l) ∧ (∀ x ∈ (D7 k l).keys, x.1.length = 32) ∧ (D7 k l).kind = k := by
 unfold D7
 split
 ·rename_i h
  subst h
  exact ⟨⟨rfl, rfl⟩, qh1 (nr _), rfl⟩
 ·obtain ⟨h1, h2, h3⟩ := D5_good k l
  refine ⟨h1, ?_, h3⟩
  rw [h2]
  exact fun x hx => absurd hx (List.not_mem_nil)
theorem D7_dec (k : Nat) (l : List UInt8) (h : okT (k : Nat) l = true) : D7 k l = decR (k : Nat) l := by
 obtain ⟨hg, _, hk⟩ := qb0 h
 have hkd := kj hg.1
 rw [hk] at hkd
 unfold okT at h
 rw [Bool.and_eq_true] at h
 have hL := h.1
 have hk7 : k = 1 ∨ k = 2 ∨ k = 3 ∨ k = 4 ∨ k = 5 ∨ k = 6 ∨ k = 7 := by omega
 clear h hkd hk hg
 rcases hk7 with rfl | rfl | rfl | rfl | rfl | rfl | rfl
 ·rfl
 ·have hl : l.length = 74 := by simpa [lenT] using hL
  unfold D7 D5 D4 D3 D2
  rw [if_neg (by omega), if_neg (by omega), if_neg (by omega), if_neg (by omega), if_pos ⟨rfl, hl⟩]
  rfl
 ·have hl : l.length = 6 := by simpa [lenT] using hL
  unfold D7 D5 D4 D3
  rw [if_neg (by omega), if_neg (by omega), if_neg (by omega), if_pos ⟨rfl, hl⟩]
  rfl
 ·have hl : l.length = 68 := by simpa [lenT] using hL
  unfold D7 D5 D4
  rw [if_neg (by omega), if_neg (by omega), if_pos ⟨rfl, hl⟩]
  rfl
 ·have hl : l.length = 33 := by simpa [lenT] using hL
  unfold D7 D5
  rw [if_neg (by omega), if_pos ⟨.inl rfl, hl⟩]
 ·have hl : l.length = 33 := by simpa [lenT] using hL
  unfold D7 D5
  rw [if_neg (by omega), if_pos ⟨.inr rfl, hl⟩]
 ·rfl
theorem D7_ok (k : Nat) (l : List UInt8) : (av (D7 k l) && decide (dx (D7 k l) = l)) = okT (k : Nat) l := by
 cases h : okT (k : Nat) l with
 |true =>
  obtain ⟨hg, hl, _⟩ := qb0 h
  rw [D7_dec k l h, hg.1, hl, decide_eq_true rfl]
  rfl
 |false =>
  cases hR : av (D7 k l) with
  |false => rfl
  |true =>
   rw [Bool.true_and, decide_eq_false_iff_not]
   intro hl
   obtain ⟨h1, h2, h3⟩ := qj6 k l
   have := (qfx (r := D7 k l) ⟨hR, h1, h2⟩).1
   rw [h3, hl, h] at this
   cases this

theorem qak {P : Program} {ops : Array Oper} {o : Oper} {a : Act} {w : World} {K : Act → World → Prop} {Q : Exit → Act → World → Prop} {E : Prop} {s x : Operand} {t e : TypeId} {size bytes : Nat} {z : Value} (T : oe P t e size bytes z)
  (hg : o.guard = none) (ho : o.op = .call { callee := .builtin .append, args := #[s, x], argTypes := #[t, t] })
  {v : Value} {A : Option Addr} {m c : Nat} (hs : a.eval s = v) (hx : a.eval x = .slice A m c)
  {base : Nat} {n : Nat} {xs : List Value} (hown : w.ownsRow base e size v n xs)
  {B : Nat} {news : List Value} (hr : Rd w B A news) (hl : news.length = m * size) (h1 : ∀ u ∈ news, u.oneCell' = true)
  (h63 : n + m ≤ maxLen) (hbytes : (n + m) * bytes ≤ 140737488355328) (hbase : base ≤ w.heap.size)
  (h : ∀ v' w', w'.ownsRow base e size v' (n + m) (xs ++ news) → w.grownBy w' v.ownBlock → (v'.ownBlock = v.ownBlock ∨ v'.ownBlock = some w.heap.size) → (v' = .slice none 0 0 ↔ v = .slice none 0 0 ∧ m = 0) → K (a.put o.dst v') w') :
  if Region.wanted o (yielded ops a.tmps) = true then Oper.wp P o a w K Q else E := by
 rw [if_pos (by simp [Region.wanted, hg])]
 exact wp_app T ho hs hx hown hr hl h1 h63 hbytes hbase h
theorem q7 (h : List UInt8) (k : Int) (w : World) (hh : h.length = 32) (hk : kOk k = true) :
  Calls Tryz.prog 102 #[hkv h k] w fun e w' => ∃ v, e = .returned v ∧ w'.ownsRow w.heap.size 5 1 v 33 (ak (keyB (h, k))) ∧ Below w.heap.size w w' := by
 have hkk : 1 ≤ k ∧ k ≤ 4 := by unfold kOk at hk; simpa using hk
 obtain ⟨x, rfl⟩ : ∃ x : Nat, k = x := ⟨k.toNat, by omega⟩
 have HH := Lh hh
 have HB1 := Lh ((br _ _).alloc (nr _) (.cells (ae h x).toArray 34) : Below w.heap.size w _)
 have HG1 := Lh (hzn w (.cells (ae h x).toArray 34))
 have HS1 := Lh (show (w.alloc (.cells (ae h x).toArray 34)).heap.size = w.heap.size + 1 from Array.size_push _)
 clear hh hk
 go_enter Tryz.func102, Tryz.ntmps102
 go_wp2_with (refine ai (some 1) rfl ?_)
 refine Stop.go (bx rfl _ rfl rfl (dl h x) ?_)
 generalize w.alloc (.cells (ae h x).toArray 34) = w1 at *
 go_wp2_with fail
 have HC := Lh (show ∀ w', Below w1.heap.size w1 w' → w'.cell? ⟨w.heap.size, 32, none⟩ = some (.int .i64 x) ∧ Rd w' w'.heap.size (some ⟨w.heap.size, 0, none⟩) (ak h) from fun w' hb => by
  have hg := (hb.block _ (gl HG1.o)).trans HG1.o
  refine ⟨?_, ?_⟩
  ·rw [cell_of_row _ _ _ _ _ _ hg, ← Array.getElem?_toList]
   exact ga h x HH.o
  ·have := Rd.row (B := w'.heap.size) hg (Nat.lt_of_lt_of_le (by rw [HS1.o]; omega) hb.size)
   exact z1 (k := (x : Int)) (by simpa using this))
 have c32 := (HC.o w1 (br _ _)).1
 obtain ⟨hk1, hk4⟩ := hkk
 have HE := Lh (show ∀ (w' : World) (g : Nat), w'.heap[g]? = some (.cells #[] 5 (0, 0)) → w1.heap.size ≤ g → w'.ownsRow w1.heap.size 5 1 (.slice (some ⟨g, 0, none⟩) 0 0) 0 [] from fun w' g hg hb =>
  ⟨rfl, .inr ⟨g, 0, #[], rfl, hb, hg, nr _, by simp [maxLen], rfl, rfl⟩⟩)
 have HA := Lh (show ∀ o, Below w1.heap.size w1 (w1.drew.alloc o) from fun o => (br _ _).drew.alloc (nr _) o)
 have HAA := Lh (show ∀ o o', Below w1.heap.size w1 ((w1.drew.alloc o).alloc o') from fun o o' => ((br _ _).drew.alloc (nr _) o).alloc (by show _ ≤ (Array.push _ _).size; rw [Array.size_push]; exact Nat.le_succ _) o')
 have HS2 := Lh (show ∀ o, (w1.drew.alloc o).heap.size = w1.heap.size + 1 from fun o => Array.size_push _)
 have HWR := Lh (show ak (keyB (h, (x : Int))) = ([] ++ ak h) ++ [.int .u8 (IntKind.u8.wrap (x : Int))] by
  unfold keyB
  rw [bn, IntKind.wrap_u8, Int.emod_eq_of_lt (by omega) (by omega)]
  simp [ak, ju, Nat.mod_eq_of_lt (show x < 256 by omega)])
 have HS3 := Lh (show ∀ o o', ((w1.drew.alloc o).alloc o').heap.size = w1.heap.size + 2 from fun o o' => by show (Array.push (Array.push _ _) _).size = _; rw [Array.size_push, Array.size_push]; rfl)
 have HNE := Lh (show w.heap.size < w1.heap.size by rw [HS1.o]; omega)
 have HGB := Lh (show ∀ (W w6 : World) (g : Nat), Below w1.heap.size w1 W → W.grownBy w6 (some g) → w1.heap.size ≤ g → Below w1.heap.size w1 w6 from fun W w6 g hb hg hge => hb.grown hg hb.size (fun k hk => by injection hk with hk; omega))
 have HRB := Lh (show ∀ (W w6 : World) (g q : Nat), W.heap[q]? = some (.cells #[.int .u8 (IntKind.u8.wrap (x : Int))] 5 (0, 0)) → W.grownBy w6 (some g) → q ≠ g → Rd w6 w6.heap.size (some ⟨q, 0, none⟩) [.int .u8 (IntKind.u8.wrap (x : Int))] from fun W w6 g q hq hg hne =>
  Rd.row (cs := #[.int .u8 (IntKind.u8.wrap (x : Int))]) ((hg.block q (gl hq) (by intro he; injection he with he; exact hne he)).trans hq) (Nat.lt_of_lt_of_le (gl hq) hg.size))
 have c32a : (w1.alloc (.cells #[] 5)).cell? ⟨w.heap.size, 32, none⟩ = some (.int .i64 x) := (HC.o _ ((br _ _).alloc (nr _) _)).1
 go_region_law (first
  |(refine qak (base := w1.heap.size) (xs := []) (news := ak h) (m := 32) gy rfl rfl rfl rfl (by first | exact HE.o _ _ (hzn _ _) (nr _) | exact HE.o _ _ (Go.heap_alloc2_old _ _ _) (nr _) | exact HE.o _ _ (Go.heap_alloc2_new _ _ _) (Nat.le_succ _)) (by first | exact (HC.o _ (HA.o _)).2 | exact (HC.o _ (HAA.o _ _)).2) (by rw [al, HH.o]) (dy _) (by simp [maxLen]) (by decide) (by first | exact (HA.o _).size | exact (HAA.o _ _).size) ?_; intro v6 w6 hown6 hg6 _ _;
    have hb6 : Below w1.heap.size w1 w6 := (by first | exact HGB.o _ _ _ (HA.o _) hg6 (nr _) | exact HGB.o _ _ _ (HAA.o _ _) hg6 (nr _) | exact HGB.o _ _ _ (HAA.o _ _) hg6 (Nat.le_succ _));
    have c32b := (HC.o w6 hb6).1)
  |(refine qak (base := w1.heap.size) (xs := [] ++ ak h) (n := 0 + 32) (m := 1) (news := [.int .u8 (IntKind.u8.wrap (x : Int))]) gy rfl rfl rfl rfl (by first | exact hown6 | exact hown6.alloc _) (by first | exact Rd.row (B := w6.heap.size + 1) (hzn w6 _) (Nat.lt_succ_self _) | exact HRB.o _ w6 (w1.heap.size + 1) w1.heap.size (by exact Go.heap_alloc2_old _ _ _) hg6 (by omega) | exact HRB.o _ w6 w1.heap.size (w1.heap.size + 1) (by exact Go.heap_alloc2_new _ _ _) hg6 (by omega)) rfl (by simp [Value.oneCell']) (by simp [maxLen]) (by decide) (by first | exact hb6.size | exact Nat.le_trans hb6.size (Nat.le_of_lt (by rw [sz_]; exact Nat.lt_succ_self _))) ?_; intro v8 w8 hown8 hg8 _ _))
 all_goals
  have hb8 : Below w1.heap.size w1 w8 := by
   first
    |exact aw hb6 hg8 hown6 (nr _) hb6.size
    |exact aw (hb6.alloc hb6.size _) hg8 (hown6.alloc _) (nr _) (Nat.le_trans hb6.size (Nat.le_of_lt (by rw [sz_]; exact Nat.lt_succ_self _)))
  have HB8 := Lh hb8
  have HO8 := Lh hown8
  clear hb8 hown8 hg8 hown6 hg6 hb6
  go_wp2_with fail
  go_ret
  refine ⟨v8, rfl, ?_, HB1.o.trans (HB8.o.mono HB1.o.size)⟩
  have h6 := fg HO8.o (show w.heap.size ≤ w1.heap.size from HB1.o.size)
  rw [HWR.o]
  exact h6

theorem cu.grown {w w' : World} {b : Nat} {t : TypeId} {kind seq : Int} {kh : List UInt8} {kk : Int} {mh : List UInt8} {ms : Int} {v : Value} (h : cu w b t kind seq kh kk mh ms v) {base n : Nat} {u : Value} {xs : List Value} {e : TypeId} {size : Nat} (ho : w.ownsRow base e size u n xs) (hg : w.grownBy w' u.ownBlock) (ht : t ≠ e) :
  cu w' b t kind seq kh kk mh ms v := ⟨jt ho hg h.blk ht, h.hk, h.hm⟩
def qgy (r : RecD) (w : World) (e : Ending) (w' : World) : Prop := ∃ v, e = .returned v ∧ w'.ownsRow w.heap.size 5 1 v (dx r).length (ak (dx r)) ∧ Below w.heap.size w w'
theorem jv {r : RecD} {w w' : World} {v : Value} {n : Nat} {l : List UInt8} (ho : w'.ownsRow w.heap.size 5 1 v n (ak l)) (hl : l = dx r) (hb : Below w.heap.size w w') : qgy r w (.returned v) w' := by
 subst hl
 have h1 := ho.1
 rw [al, Nat.mul_one] at h1
 subst h1
 exact ⟨v, rfl, ho, hb⟩
theorem vh (r : RecD) (A : Option Addr) (n c B : Nat) (w : World) (hr : Hs r) (h1 : SlR eKey w B (.slice A n c) r.keys) (hB : B ≤ w.heap.size) (hR : av r = true) :
  Calls Tryz.prog 69 #[rv r (.slice A n c)] w (qgy r w) := by
 have hkd := kj hR
 obtain ⟨kind, seq, kh, kk, mh, ms, keys⟩ := r
 obtain ⟨hk, hm⟩ := hr
 simp only at hk hm h1 hkd
 have HKH := Lh hk
 have HMH := Lh hm
 have N1 := Lh h1.n_eq
 have hc1 := h1.n_le
 have H1 := Lh h1
 have HBW := Lh hB
 have HB1 := Lh ((br _ _).alloc (nr _) (.cells (ag kind seq kh kk mh ms (.slice A n c)).toArray 42) : Below w.heap.size w _)
 have HG1 := Lh (cu.new (t := 42) (kind := kind) (seq := seq) (kk := kk) (ms := ms) (v := .slice A n c) w hk hm)
 have HLT := Lh (show w.heap.size < w.heap.size + 1 from Nat.lt_succ_self _)
 clear h1 hB hk hm
 go_enter Tryz.func69, Tryz.ntmps69
 go_wp2_with (refine ai (some 1) rfl ?_)
 refine Stop.go (bx rfl _ rfl rfl (a7 ..) ?_)
 generalize w.alloc (.cells (ag kind seq kh kk mh ms (.slice A n c)).toArray 42) = w1 at *
 have HO1 := Lh (World.ownsRow_nil w1 w.heap.size 5 1)
 rcases hkd with rfl | rfl | rfl | rfl | rfl | rfl | rfl
 ·obtain ⟨⟨rfl, rfl⟩, rfl⟩ := qjg hR
  obtain rfl : n = 0 := N1.o
  have HR := Lh hR
  clear hR
  have c0 := HG1.o.kind_
  have c1 := HG1.o.seq_
  have c67 := HG1.o.size_
  have c68 := HG1.o.keys_
  have hb2 : Below w1.heap.size w1 (w1.alloc (.cells #[.int .u8 1] 5)) := (br _ _).alloc (nr _) _
  have HO2 := Lh (World.ownsRow_lit (base := w.heap.size) (e := 5) (size := 1) w1 #[.int .u8 1] 1 HB1.o.size (by simp [maxLen]) rfl)
  go_wp2_with fail
  go_ret
  exact jv (l := [1]) HO2.o rfl (HB1.o.trans (hb2.mono HB1.o.size))
 ·obtain ⟨⟨hs0, hs1⟩, hkk, ⟨hm0, hm1⟩, rfl⟩ := qjf hR
  obtain ⟨x, rfl⟩ : ∃ x : Nat, seq = x := ⟨seq.toNat, by omega⟩
  obtain ⟨y, rfl⟩ : ∃ y : Nat, ms = y := ⟨ms.toNat, by omega⟩
  obtain rfl : n = 0 := N1.o
  have HR := Lh hR
  clear hR
  have c0 := HG1.o.kind_
  have c1 := HG1.o.seq_
  have c67 := HG1.o.size_
  have c68 := HG1.o.keys_
  go_wp2_with fail
  refine (uj 6 x _ (by decide) (by omega)).mono ?_
  rintro e w2 ⟨rfl, hh2, hb2⟩
  have HR2 := Lh (jb (B := w2.heap.size) hh2 (gl hh2))
  clear hh2
  have HO2 := Lh (bt HO1.o hb2)
  have HG2 := Lh (HG1.o.later hb2)
  have HB2 := Lh (HB1.o.trans (hb2.mono HB1.o.size))
  clear hb2 c0 c1 c67 c68
  have c0 := HG2.o.kind_
  have c1 := HG2.o.seq_
  have c67 := HG2.o.size_
  have c68 := HG2.o.keys_
  have hsz2 := HB2.o.size
  go_wp2_with (at_builtin; refine az gy rfl rfl rfl rfl HO2.o HR2.o (m := 6) (by rw [al, b7]) (dy _) ?h63 ?hby ?hbase ?_)
  case h63 => simp [maxLen]
  case hby => decide
  case hbase => exact hsz2
  intro v3 w3 hown3 hg3 _ _
  have HG3 := Lh (HG2.o.grown HO2.o hg3 (by decide))
  have HB3 := Lh (aw HB2.o hg3 HO2.o (nr _) hsz2)
  have HO3 := Lh (show w3.ownsRow w.heap.size 5 1 v3 6 (ak (ca 6 x)) by exact hown3)
  obtain ⟨A3, d3, rfl, _, _⟩ := ap HO3.o
  clear hown3 hg3 c0 c1 c67 c68 hsz2
  have c0 := HG3.o.kind_
  have c1 := HG3.o.seq_
  have c67 := HG3.o.size_
  have c68 := HG3.o.keys_
  go_wp2_with (refine ai (some 36) rfl ?_)
  refine Stop.go (aq 1 _ _ _ (fun Q' hQ' => ?_))
  simp only [T1, T0]
  go_wp2_with fail
  try simp only [dr1, dr0]
  refine Stop.go (aa rfl 34 rfl rfl a8.ut rfl (am _ _ HKH.o) HG3.o.key_ ?_)
  go_wp2_with fail
  refine (q7 kh kk _ HKH.o hkk).mono ?_
  rintro e w4 ⟨u4, rfl, ho4, hb4⟩
  obtain ⟨E4, e4, rfl, _, _⟩ := ap ho4
  have HR4 := Lh (Rd.of_own ho4)
  clear ho4
  have HO4 := Lh (bt HO3.o hb4)
  have HG4 := Lh (HG3.o.later hb4)
  have HB4 := Lh (HB3.o.trans (hb4.mono HB3.o.size))
  clear hb4 c0 c1 c67 c68
  have c0 := HG4.o.kind_
  have c1 := HG4.o.seq_
  have c67 := HG4.o.size_
  have c68 := HG4.o.keys_
  have hsz4 := HB4.o.size
  go_wp2_with (at_builtin; refine az gy rfl rfl rfl rfl HO4.o HR4.o (m := 33) (by rw [al, fi _ (show (kh, kk).1.length = 32 from HKH.o)]) (dy _) ?h63 ?hby ?hbase ?_)
  case h63 => simp [maxLen]
  case hby => decide
  case hbase => exact hsz4
  intro v5 w5 hown5 hg5 _ _
  have HG5 := Lh (HG4.o.grown HO4.o hg5 (by decide))
  have HB5 := Lh (aw HB4.o hg5 HO4.o (nr _) hsz4)
  have HO5 := Lh (show w5.ownsRow w.heap.size 5 1 v5 39 (ak (ca 6 x ++ keyB (kh, kk))) by rw [bn]; exact hown5)
  obtain ⟨A5, d5, rfl, _, _⟩ := ap HO5.o
  clear hown5 hg5 c0 c1 c67 c68 hsz4
  have c0 := HG5.o.kind_
  have c1 := HG5.o.seq_
  have c67 := HG5.o.size_
  have c68 := HG5.o.keys_
  have hsz5 := HB5.o.size
  go_wp2_with (at_builtin; refine az gy rfl rfl rfl rfl HO5.o (HG5.o.rd_mark HLT.o) (m := 32) (by rw [al, HMH.o]) (dy _) ?h63 ?hby ?hbase ?_)
  case h63 => simp [maxLen]
  case hby => decide
  case hbase => exact hsz5
  intro v6 w6 hown6 hg6 _ _
  have HG6 := Lh (HG5.o.grown HO5.o hg6 (by decide))
  have HB6 := Lh (aw HB5.o hg6 HO5.o (nr _) hsz5)
  have HO6 := Lh (show w6.ownsRow w.heap.size 5 1 v6 71 (ak ((ca 6 x ++ keyB (kh, kk)) ++ mh)) by rw [bn]; exact hown6)
  obtain ⟨A6, d6, rfl, _, _⟩ := ap HO6.o
  clear hown6 hg6 c0 c1 c67 c68 hsz5
  have c0 := HG6.o.kind_
  have c1 := HG6.o.seq_
  have c67 := HG6.o.size_
  have c68 := HG6.o.keys_
  go_wp2_with fail
  refine (uj 3 y _ (by decide) (by omega)).mono ?_
  rintro e w7 ⟨rfl, hh7, hb7⟩
  have HR7 := Lh (jb (B := w7.heap.size) hh7 (gl hh7))
  clear hh7
  have HO7 := Lh (bt HO6.o hb7)
  have HG7 := Lh (HG6.o.later hb7)
  have HB7 := Lh (HB6.o.trans (hb7.mono HB6.o.size))
  clear hb7 c0 c1 c67 c68
  have c0 := HG7.o.kind_
  have c1 := HG7.o.seq_
  have c67 := HG7.o.size_
  have c68 := HG7.o.keys_
  have hsz7 := HB7.o.size
  go_wp2_with (at_builtin; refine az gy rfl rfl rfl rfl HO7.o HR7.o (m := 3) (by rw [al, b7]) (dy _) ?h63 ?hby ?hbase ?_)
  case h63 => simp [maxLen]
  case hby => decide
  case hbase => exact hsz7
  intro v8 w8 hown8 hg8 _ _
  have HG8 := Lh (HG7.o.grown HO7.o hg8 (by decide))
  have HB8 := Lh (aw HB7.o hg8 HO7.o (nr _) hsz7)
  have HO8 := Lh (show w8.ownsRow w.heap.size 5 1 v8 74 (ak (((ca 6 x ++ keyB (kh, kk)) ++ mh) ++ ca 3 y)) by rw [bn]; exact hown8)
  obtain ⟨A8, d8, rfl, _, _⟩ := ap HO8.o
  clear hown8 hg8 c0 c1 c67 c68 hsz7
  have c0 := HG8.o.kind_
  have c1 := HG8.o.seq_
  have c67 := HG8.o.size_
  have c68 := HG8.o.keys_
  go_wp2_with fail
  go_loopw [3, 4] (fun v3 v4 wr => v3 = .slice A8 74 d8 ∧ v4 = .int .i64 0 ∧ wr = w8) (fun _ _ _ => 0)
  case atStart => exact ⟨rfl, rfl, rfl⟩
  case round =>
   obtain ⟨rfl, rfl, rfl⟩ := hrel
   go_wp2_with fail
   go_ret
   exact jv HO8.o (by simp [dx]) HB8.o
 ·obtain ⟨⟨hs0, hs1⟩, ⟨rfl, rfl⟩, rfl⟩ := qje hR
  obtain ⟨x, rfl⟩ : ∃ x : Nat, seq = x := ⟨seq.toNat, by omega⟩
  obtain rfl : n = 0 := N1.o
  have HR := Lh hR
  clear hR
  have c0 := HG1.o.kind_
  have c1 := HG1.o.seq_
  have c67 := HG1.o.size_
  have c68 := HG1.o.keys_
  go_wp2_with fail
  refine (uj 6 x _ (by decide) (by omega)).mono ?_
  rintro e w2 ⟨rfl, hh2, hb2⟩
  have HR2 := Lh (jb (B := w2.heap.size) hh2 (gl hh2))
  clear hh2
  have HO2 := Lh (bt HO1.o hb2)
  have HG2 := Lh (HG1.o.later hb2)
  have HB2 := Lh (HB1.o.trans (hb2.mono HB1.o.size))
  clear hb2 c0 c1 c67 c68
  have c0 := HG2.o.kind_
  have c1 := HG2.o.seq_
  have c67 := HG2.o.size_
  have c68 := HG2.o.keys_
  have hsz2 := HB2.o.size
  go_wp2_with (at_builtin; refine az gy rfl rfl rfl rfl HO2.o HR2.o (m := 6) (by rw [al, b7]) (dy _) ?h63 ?hby ?hbase ?_)
  case h63 => simp [maxLen]
  case hby => decide
  case hbase => exact hsz2
  intro v3 w3 hown3 hg3 _ _
  have HG3 := Lh (HG2.o.grown HO2.o hg3 (by decide))
  have HB3 := Lh (aw HB2.o hg3 HO2.o (nr _) hsz2)
  have HO3 := Lh (show w3.ownsRow w.heap.size 5 1 v3 6 (ak (ca 6 x)) by exact hown3)
  obtain ⟨A3, d3, rfl, _, _⟩ := ap HO3.o
  clear hown3 hg3 c0 c1 c67 c68 hsz2
  have c0 := HG3.o.kind_
  have c1 := HG3.o.seq_
  have c67 := HG3.o.size_
  have c68 := HG3.o.keys_
  go_wp2_with fail
  go_loopw [3, 4] (fun v3 v4 wr => v3 = .slice A3 6 d3 ∧ v4 = .int .i64 0 ∧ wr = w3) (fun _ _ _ => 0)
  case atStart => exact ⟨rfl, rfl, rfl⟩
  case round =>
   obtain ⟨rfl, rfl, rfl⟩ := hrel
   go_wp2_with fail
   go_ret
   exact jv HO3.o (by simp [dx]) HB3.o
 ·obtain ⟨hkk, ⟨hm0, hm1⟩, rfl⟩ := qjd hR
  obtain ⟨y, rfl⟩ : ∃ y : Nat, ms = y := ⟨ms.toNat, by omega⟩
  obtain rfl : n = 0 := N1.o
  have HR := Lh hR
  clear hR
  have c0 := HG1.o.kind_
  have c1 := HG1.o.seq_
  have c67 := HG1.o.size_
  have c68 := HG1.o.keys_
  go_wp2_with (refine ai (some 36) rfl ?_)
  refine Stop.go (aq 1 _ _ _ (fun Q' hQ' => ?_))
  simp only [T1, T0]
  go_wp2_with fail
  try simp only [dr1, dr0]
  refine Stop.go (aa rfl 34 rfl rfl a8.ut rfl (am _ _ HKH.o) HG1.o.key_ ?_)
  go_wp2_with fail
  refine (q7 kh kk _ HKH.o hkk).mono ?_
  rintro e w2 ⟨u2, rfl, ho2, hb2⟩
  obtain ⟨E2, e2, rfl, _, _⟩ := ap ho2
  have HR2 := Lh (Rd.of_own ho2)
  clear ho2
  have HO2 := Lh (bt HO1.o hb2)
  have HG2 := Lh (HG1.o.later hb2)
  have HB2 := Lh (HB1.o.trans (hb2.mono HB1.o.size))
  clear hb2 c0 c1 c67 c68
  have c0 := HG2.o.kind_
  have c1 := HG2.o.seq_
  have c67 := HG2.o.size_
  have c68 := HG2.o.keys_
  have hsz2 := HB2.o.size
  go_wp2_with (at_builtin; refine az gy rfl rfl rfl rfl HO2.o HR2.o (m := 33) (by rw [al, fi _ (show (kh, kk).1.length = 32 from HKH.o)]) (dy _) ?h63 ?hby ?hbase ?_)
  case h63 => simp [maxLen]
  case hby => decide
  case hbase => exact hsz2
  intro v3 w3 hown3 hg3 _ _
  have HG3 := Lh (HG2.o.grown HO2.o hg3 (by decide))
  have HB3 := Lh (aw HB2.o hg3 HO2.o (nr _) hsz2)
  have HO3 := Lh (show w3.ownsRow w.heap.size 5 1 v3 33 (ak (keyB (kh, kk))) by exact hown3)
  obtain ⟨A3, d3, rfl, _, _⟩ := ap HO3.o
  clear hown3 hg3 c0 c1 c67 c68 hsz2
  have c0 := HG3.o.kind_
  have c1 := HG3.o.seq_
  have c67 := HG3.o.size_
  have c68 := HG3.o.keys_
  have hsz3 := HB3.o.size
  go_wp2_with (at_builtin; refine az gy rfl rfl rfl rfl HO3.o (HG3.o.rd_mark HLT.o) (m := 32) (by rw [al, HMH.o]) (dy _) ?h63 ?hby ?hbase ?_)
  case h63 => simp [maxLen]
  case hby => decide
  case hbase => exact hsz3
  intro v4 w4 hown4 hg4 _ _
  have HG4 := Lh (HG3.o.grown HO3.o hg4 (by decide))
  have HB4 := Lh (aw HB3.o hg4 HO3.o (nr _) hsz3)
  have HO4 := Lh (show w4.ownsRow w.heap.size 5 1 v4 65 (ak (keyB (kh, kk) ++ mh)) by rw [bn]; exact hown4)
  obtain ⟨A4, d4, rfl, _, _⟩ := ap HO4.o
  clear hown4 hg4 c0 c1 c67 c68 hsz3
  have c0 := HG4.o.kind_
  have c1 := HG4.o.seq_
  have c67 := HG4.o.size_
  have c68 := HG4.o.keys_
  go_wp2_with fail
  refine (uj 3 y _ (by decide) (by omega)).mono ?_
  rintro e w5 ⟨rfl, hh5, hb5⟩
  have HR5 := Lh (jb (B := w5.heap.size) hh5 (gl hh5))
  clear hh5
  have HO5 := Lh (bt HO4.o hb5)
  have HG5 := Lh (HG4.o.later hb5)
  have HB5 := Lh (HB4.o.trans (hb5.mono HB4.o.size))
  clear hb5 c0 c1 c67 c68
  have c0 := HG5.o.kind_
  have c1 := HG5.o.seq_
  have c67 := HG5.o.size_
  have c68 := HG5.o.keys_
  have hsz5 := HB5.o.size
  go_wp2_with (at_builtin; refine az gy rfl rfl rfl rfl HO5.o HR5.o (m := 3) (by rw [al, b7]) (dy _) ?h63 ?hby ?hbase ?_)
  case h63 => simp [maxLen]
  case hby => decide
  case hbase => exact hsz5
  intro v6 w6 hown6 hg6 _ _
  have HG6 := Lh (HG5.o.grown HO5.o hg6 (by decide))
  have HB6 := Lh (aw HB5.o hg6 HO5.o (nr _) hsz5)
  have HO6 := Lh (show w6.ownsRow w.heap.size 5 1 v6 68 (ak ((keyB (kh, kk) ++ mh) ++ ca 3 y)) by rw [bn]; exact hown6)
  obtain ⟨A6, d6, rfl, _, _⟩ := ap HO6.o
  clear hown6 hg6 c0 c1 c67 c68 hsz5
  have c0 := HG6.o.kind_
  have c1 := HG6.o.seq_
  have c67 := HG6.o.size_
  have c68 := HG6.o.keys_
  go_wp2_with fail
  go_loopw [3, 4] (fun v3 v4 wr => v3 = .slice A6 68 d6 ∧ v4 = .int .i64 0 ∧ wr = w6) (fun _ _ _ => 0)
  case atStart => exact ⟨rfl, rfl, rfl⟩
  case round =>
   obtain ⟨rfl, rfl, rfl⟩ := hrel
   go_wp2_with fail
   go_ret
   exact jv HO6.o (by simp [dx]) HB6.o
 ·obtain ⟨hkk, rfl⟩ := qjc hR
  obtain rfl : n = 0 := N1.o
  have HR := Lh hR
  clear hR
  have c0 := HG1.o.kind_
  have c1 := HG1.o.seq_
  have c67 := HG1.o.size_
  have c68 := HG1.o.keys_
  go_wp2_with (refine ai (some 36) rfl ?_)
  refine Stop.go (aq 1 _ _ _ (fun Q' hQ' => ?_))
  simp only [T1, T0]
  go_wp2_with fail
  try simp only [dr1, dr0]
  refine Stop.go (aa rfl 34 rfl rfl a8.ut rfl (am _ _ HKH.o) HG1.o.key_ ?_)
  go_wp2_with fail
  refine (q7 kh kk _ HKH.o hkk).mono ?_
  rintro e w2 ⟨u2, rfl, ho2, hb2⟩
  obtain ⟨E2, e2, rfl, _, _⟩ := ap ho2
  have HR2 := Lh (Rd.of_own ho2)
  clear ho2
  have HO2 := Lh (bt HO1.o hb2)
  have HG2 := Lh (HG1.o.later hb2)
  have HB2 := Lh (HB1.o.trans (hb2.mono HB1.o.size))
  clear hb2 c0 c1 c67 c68
  have c0 := HG2.o.kind_
  have c1 := HG2.o.seq_
  have c67 := HG2.o.size_
  have c68 := HG2.o.keys_
  have hsz2 := HB2.o.size
  go_wp2_with (at_builtin; refine az gy rfl rfl rfl rfl HO2.o HR2.o (m := 33) (by rw [al, fi _ (show (kh, kk).1.length = 32 from HKH.o)]) (dy _) ?h63 ?hby ?hbase ?_)
  case h63 => simp [maxLen]
  case hby => decide
  case hbase => exact hsz2
  intro v3 w3 hown3 hg3 _ _
  have HG3 := Lh (HG2.o.grown HO2.o hg3 (by decide))
  have HB3 := Lh (aw HB2.o hg3 HO2.o (nr _) hsz2)
  have HO3 := Lh (show w3.ownsRow w.heap.size 5 1 v3 33 (ak (keyB (kh, kk))) by exact hown3)
  obtain ⟨A3, d3, rfl, _, _⟩ := ap HO3.o
  clear hown3 hg3 c0 c1 c67 c68 hsz2
  have c0 := HG3.o.kind_
  have c1 := HG3.o.seq_
  have c67 := HG3.o.size_
  have c68 := HG3.o.keys_
  go_wp2_with fail
  go_loopw [3, 4] (fun v3 v4 wr => v3 = .slice A3 33 d3 ∧ v4 = .int .i64 0 ∧ wr = w3) (fun _ _ _ => 0)
  case atStart => exact ⟨rfl, rfl, rfl⟩
  case round =>
   obtain ⟨rfl, rfl, rfl⟩ := hrel
   go_wp2_with fail
   go_ret
   exact jv HO3.o (by simp [dx]) HB3.o
 ·obtain ⟨hkk, rfl⟩ := qjb hR
  obtain rfl : n = 0 := N1.o
  have HR := Lh hR
  clear hR
  have c0 := HG1.o.kind_
  have c1 := HG1.o.seq_
  have c67 := HG1.o.size_
  have c68 := HG1.o.keys_
  go_wp2_with (refine ai (some 36) rfl ?_)
  refine Stop.go (aq 1 _ _ _ (fun Q' hQ' => ?_))
  simp only [T1, T0]
  go_wp2_with fail
  try simp only [dr1, dr0]
  refine Stop.go (aa rfl 34 rfl rfl a8.ut rfl (am _ _ HKH.o) HG1.o.key_ ?_)
  go_wp2_with fail
  refine (q7 kh kk _ HKH.o hkk).mono ?_
  rintro e w2 ⟨u2, rfl, ho2, hb2⟩
  obtain ⟨E2, e2, rfl, _, _⟩ := ap ho2
  have HR2 := Lh (Rd.of_own ho2)
  clear ho2
  have HO2 := Lh (bt HO1.o hb2)
  have HG2 := Lh (HG1.o.later hb2)
  have HB2 := Lh (HB1.o.trans (hb2.mono HB1.o.size))
  clear hb2 c0 c1 c67 c68
  have c0 := HG2.o.kind_
  have c1 := HG2.o.seq_
  have c67 := HG2.o.size_
  have c68 := HG2.o.keys_
  have hsz2 := HB2.o.size
  go_wp2_with (at_builtin; refine az gy rfl rfl rfl rfl HO2.o HR2.o (m := 33) (by rw [al, fi _ (show (kh, kk).1.length = 32 from HKH.o)]) (dy _) ?h63 ?hby ?hbase ?_)
  case h63 => simp [maxLen]
  case hby => decide
  case hbase => exact hsz2
  intro v3 w3 hown3 hg3 _ _
  have HG3 := Lh (HG2.o.grown HO2.o hg3 (by decide))
  have HB3 := Lh (aw HB2.o hg3 HO2.o (nr _) hsz2)
  have HO3 := Lh (show w3.ownsRow w.heap.size 5 1 v3 33 (ak (keyB (kh, kk))) by exact hown3)
  obtain ⟨A3, d3, rfl, _, _⟩ := ap HO3.o
  clear hown3 hg3 c0 c1 c67 c68 hsz2
  have c0 := HG3.o.kind_
  have c1 := HG3.o.seq_
  have c67 := HG3.o.size_
  have c68 := HG3.o.keys_
  go_wp2_with fail
  go_loopw [3, 4] (fun v3 v4 wr => v3 = .slice A3 33 d3 ∧ v4 = .int .i64 0 ∧ wr = w3) (fun _ _ _ => 0)
  case atStart => exact ⟨rfl, rfl, rfl⟩
  case round =>
   obtain ⟨rfl, rfl, rfl⟩ := hrel
   go_wp2_with fail
   go_ret
   exact jv HO3.o (by simp [dx]) HB3.o
 ·obtain ⟨⟨rfl, rfl⟩, hris⟩ := z0 hR
  have HR := Lh hR
  clear hR
  have c0 := HG1.o.kind_
  have c1 := HG1.o.seq_
  have c67 := HG1.o.size_
  have c68 := HG1.o.keys_
  have HRI := Lh (ud hris)
  clear hris
  have hn256 : n ≤ 256 := by rw [N1.o]; exact HRI.o.1
  go_wp2_with fail
  go_loopw [3, 4] (fun v3 v4 wr => ∃ (i : Nat) (A3 : Option Addr) (c3 : Nat), i ≤ n ∧ v4 = .int .i64 i ∧ v3 = .slice A3 (33 * i) c3 ∧ Hid (wr.ownsRow w.heap.size 5 1 (.slice A3 (33 * i) c3) (33 * i) (ak ((keys.take i).flatMap keyB))) ∧ Hid (cu wr w.heap.size 42 7 seq z32 0 mh ms (.slice A n c)) ∧ Hid (Below w.heap.size w wr)) (fun _ v4 _ => n - (intOf v4).toNat)
  case atStart => exact ⟨0, none, 0, by omega, rfl, rfl, HO1, HG1, HB1⟩
  case round =>
   clear c0 c1 c67 c68 HO1 HG1 HB1
   obtain ⟨i, A3, c3, hi, rfl, rfl, HO3, HG3, HB3⟩ := hrel
   have c68 := HG3.o.keys_
   by_cases hlt : i < n
   ·have hlt1 : i < keys.length := by have := N1.o; omega
    obtain ⟨b1, o1, rfl, _, _, l1, e1⟩ := ly (H1.o.below (HB3.o.mono HBW.o)) hlt1
    have HOK := Lh (HRI.o.2 i hlt1)
    have HFL := Lh (show (keys.take (i + 1)).flatMap keyB = (keys.take i).flatMap keyB ++ keyB keys[i] by rw [List.take_succ_eq_append_getElem hlt1, List.flatMap_append]; simp)
    obtain ⟨q, hq⟩ : ∃ q, q = keys[i] := ⟨_, rfl⟩
    rw [← hq] at l1 e1 HOK HFL
    obtain ⟨qh, qk⟩ := q
    simp only at l1 e1 HOK
    have HE1 := Lh e1
    have HL1 := Lh l1
    clear e1 l1 hq
    go_wp2_with (refine ai (some 65) rfl ?_)
    refine Stop.go (aq 4 _ _ _ (fun Q' hQ' => ?_))
    simp only [T1, T0]
    go_wp2_with fail
    try simp only [dr1, dr0]
    refine Stop.go (aa rfl 34 rfl rfl a8.ut rfl (am _ _ HL1.o) HE1.o ?_)
    go_wp2_with fail
    refine (q7 qh qk _ HL1.o HOK.o).mono ?_
    rintro e w4 ⟨u4, rfl, ho4, hb4⟩
    obtain ⟨E4, e4, rfl, _, _⟩ := ap ho4
    have HR4 := Lh (Rd.of_own ho4)
    have HO4 := Lh (bt HO3.o hb4)
    have HG4 := Lh (HG3.o.later hb4)
    have HB4 := Lh (HB3.o.trans (hb4.mono HB3.o.size))
    clear ho4 hb4 c68
    have hsz := HB4.o.size
    go_wp2_with (at_builtin; refine az gy rfl rfl rfl rfl HO4.o HR4.o (m := 33) (by rw [al, fi _ (show (qh, qk).1.length = 32 from HL1.o)]) (dy _) ?h63 ?hby ?hbase ?_)
    case h63 => simp only [maxLen]; omega
    case hby => omega
    case hbase => exact hsz
    intro v5 w5 hown5 hg5 _ _
    have HG5 := Lh (HG4.o.grown HO4.o hg5 (by decide))
    have HB5 := Lh (aw HB4.o hg5 HO4.o (nr _) hsz)
    have HO5 := Lh (show w5.ownsRow w.heap.size 5 1 v5 (33 * (i + 1)) (ak ((keys.take (i + 1)).flatMap keyB)) by rw [HFL.o, bn, Nat.mul_add]; exact hown5)
    obtain ⟨A5, c5, rfl, _, _⟩ := ap HO5.o
    clear hown5 hg5 hsz
    go_wp2_with fail
    refine ⟨⟨i + 1, A5, c5, by omega, by go_num, rfl, HO5, HG5, HB5⟩, ?_⟩
    simp [intOf]; omega
   ·obtain rfl : i = n := by omega
    have HF := Lh (show (keys.take i).flatMap keyB = dx ⟨7, seq, z32, 0, mh, ms, keys⟩ by rw [List.take_of_length_le (by rw [← N1.o]; exact nr _)]; simp [dx])
    go_wp2_with fail
    go_ret
    exact jv HO3.o HF.o HB3.o

theorem key_row (t : List UInt8) (i da db : Nat) (ht : t.length = i) (hi : i < 32) (hb : 16 * da + db < 256) :
  ((ae (t ++ List.replicate (32 - i) 0) 0).toArray.toList.take i ++ [Value.int .u8 (16 * (da : Int) + (db : Int))] ++ (ae (t ++ List.replicate (32 - i) 0) 0).toArray.toList.drop (i + 1)).toArray =
   (ae ((t ++ [UInt8.ofNat (16 * da + db)]) ++ List.replicate (32 - (i + 1)) 0) 0).toArray := by
 have e0 : List.replicate (32 - i) (0 : UInt8) = 0 :: List.replicate (32 - (i + 1)) 0 := by
  rw [show 32 - i = (32 - (i + 1)) + 1 by omega, List.replicate_succ]
 have e1 : ae (t ++ List.replicate (32 - i) 0) 0 = ak t ++ (ju 0 :: (ak (List.replicate (32 - (i + 1)) 0) ++ [.int .i64 0])) := by
  rw [e0]
  simp [ae, ak]
 have hl : (ak t).length = i := by rw [al, ht]
 simp only [e1]
 rw [List.take_append_of_le_length (by omega), List.take_of_length_le (by omega), List.drop_append, List.drop_eq_nil_of_le (by omega), hl, show i + 1 - i = 1 by omega]
 have e2 : Value.int .u8 (16 * (da : Int) + (db : Int)) = ju (UInt8.ofNat (16 * da + db)) := by
  unfold ju
  rw [UInt8.toNat_ofNat', Nat.mod_eq_of_lt (by omega)]
  push_cast
  rfl
 rw [e2]
 simp [ae, ak]
end Go.Proofs.YtplbcbamnjnhlaaGreatDoor
