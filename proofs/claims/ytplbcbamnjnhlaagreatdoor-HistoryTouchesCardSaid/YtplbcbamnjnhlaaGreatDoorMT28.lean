import Derived.Test.YtplbcbamnjnhlaaGreatDoorMT00
import Derived.Test.YtplbcbamnjnhlaaGreatDoorMT26
import Derived.Test.YtplbcbamnjnhlaaGreatDoorMT27
set_option maxRecDepth 100000
set_option maxHeartbeats 40000000
namespace Go.Proofs.YtplbcbamnjnhlaaGreatDoor
open Go.RowKit

def cutS (A : Option Addr) (c k s : Nat) : Option Addr := if c = k then A else A.map (·.add (k * s))
theorem Rd.cutS {w : World} {B : Nat} {A : Option Addr} {xs : List Value} (h : Rd w B A xs) {c k s : Nat} (hl : xs.length ≤ c * s) : Rd w B (cutS A c k s) (xs.drop (k * s)) := by
 unfold YtplbcbamnjnhlaaGreatDoor.cutS
 split
 ·rename_i hc
  subst hc
  rw [List.drop_of_length_le hl]
  exact Rd.nil_
 ·have := h.drop_ (k * s) (cap := k * s + 1) (fun _ => by omega)
  rwa [if_neg (by omega)] at this
theorem mg {P : Program} {a : Act} {o : Oper} {t : TypeId} {s : Nat} {x hi : Operand} {A : Option Addr} {n c m : Nat} {w : World} (hs : ∀ w, (sizeOf (P.elem t)).run P w = .ok s w) (ht : P.underlying t = some (.slice (P.elem t))) (ho : o.op = .slice t x none (some hi) none)
  (hx : a.eval x = .slice A n c) (hh : a.eval hi = .int .i64 m) (hm : m ≤ c) : (execOp a.eval o).run P w = .ok (.value (.slice (cutS A c 0 s) m c)) w := by
 unfold execOp
 simp only [ho, hx, hh, Option.map_none, Option.map_some, Sem.run_bind]
 rw [run_sliceAt_slice _ _ _ _ _ _ ht, run_slice_h _ _ _ _ _ ht .i64 _ (by omega) (by omega), hs]
 simp [sliced, cutS]
theorem ku {P : Program} {a : Act} {o : Oper} {t : TypeId} {s : Nat} {x lo : Operand} {A : Option Addr} {n c m : Nat} {w : World} (hs : ∀ w, (sizeOf (P.elem t)).run P w = .ok s w) (ht : P.underlying t = some (.slice (P.elem t))) (ho : o.op = .slice t x (some lo) none none)
  (hx : a.eval x = .slice A n c) (hh : a.eval lo = .int .i64 m) (hm : m ≤ n) : (execOp a.eval o).run P w = .ok (.value (.slice (cutS A c m s) (n - m) (c - m))) w := by
 unfold execOp
 simp only [ho, hx, hh, Option.map_none, Option.map_some, Sem.run_bind]
 rw [run_sliceAt_slice _ _ _ _ _ _ ht, run_slice_l _ _ _ _ _ ht .i64 _ (by omega) (by omega), hs]
 simp [sliced, cutS]
theorem ug {w : World} {base : Nat} {t : TypeId} (s : Nat) (hb : base ≤ w.heap.size) : (w.alloc (.cells #[] t)).ownsRow base t s (.slice (some ⟨w.heap.size, 0, none⟩) 0 0) 0 [] :=
 ⟨by simp, .inr ⟨w.heap.size, 0, #[], rfl, hb, hzn w _, nr _, Nat.zero_le _, by simp, by simp⟩⟩
theorem fy (l : List dg) : (dt l).length = l.length * 67 := by
 induction l with
 |nil => rfl
 |cons x r ih => unfold dt at *; rw [List.flatMap_cons, List.length_append, ih, bq, List.length_cons, Nat.add_mul]; omega
theorem sd (l : List dg) (k : Nat) : dt (l.take k) = (dt l).take (k * 67) := by
 induction l generalizing k with
 |nil => simp [dt]
 |cons x r ih =>
  cases k with
  |zero => simp [dt]
  |succ k =>
   have := ih k
   unfold dt at *
   rw [List.take_succ_cons, List.flatMap_cons, List.flatMap_cons, this, Nat.add_mul, Nat.one_mul, List.take_append, List.take_of_length_le (l := an x) (by rw [bq]; omega), bq]
   congr 2
theorem wl (l : List dg) (k : Nat) : dt (l.drop k) = (dt l).drop (k * 67) := by
 have h1 : dt l = dt (l.take k) ++ dt (l.drop k) := by unfold dt; rw [← List.flatMap_append, List.take_append_drop]
 have h2 : dt l = (dt l).take (k * 67) ++ (dt l).drop (k * 67) := (List.take_append_drop _ _).symm
 rw [sd] at h1
 exact (List.append_cancel_left (h2.symm.trans h1)).symm
theorem wk (l : List K32) (k : Nat) : df (l.take k) = (df l).take (k * 33) := by
 induction l generalizing k with
 |nil => simp [df]
 |cons x r ih =>
  cases k with
  |zero => simp [df]
  |succ k =>
   have := ih k
   unfold df at *
   rw [List.take_succ_cons, List.flatMap_cons, List.flatMap_cons, this, Nat.add_mul, Nat.one_mul, List.take_append, List.take_of_length_le (l := encK x) (by rw [bi]; omega), bi]
   congr 2
theorem qcr (l : List K32) (k : Nat) : df (l.drop k) = (df l).drop (k * 33) := by
 have h1 : df l = df (l.take k) ++ df (l.drop k) := by unfold df; rw [← List.flatMap_append, List.take_append_drop]
 have h2 : df l = (df l).take (k * 33) ++ (df l).drop (k * 33) := (List.take_append_drop _ _).symm
 rw [wk] at h1
 exact (List.append_cancel_left (h2.symm.trans h1)).symm
theorem xt {w : World} {q : Nat} {x : dg} (h : ∀ j u, (an x)[j]? = some u → w.cell? ⟨q, 0 + j, none⟩ = some u) : ∀ j u, (encK x.2.2)[j]? = some u → w.cell? ⟨q, 34 + j, none⟩ = some u := fun j u hu => by
 have := h (34 + j) u (by
  unfold an ee
  rw [show 34 + j = (33 + j) + 1 by omega, List.getElem?_cons_succ, List.getElem?_append_right (by rw [ae, x.2.1.2]; omega), ae, x.2.1.2, show 33 + j - (32 + 1) = j by omega]
  exact hu)
 rwa [Nat.zero_add] at this
theorem qme {w : World} {q off : Nat} {k : K32} (h : ∀ j u, (encK k)[j]? = some u → w.cell? ⟨q, off + j, none⟩ = some u) : ∀ j u, (ak k.1.1)[j]? = some u → w.cell? ⟨q, off + j, none⟩ = some u := fun j u hu => h j u (by
 unfold encK af
 rw [List.getElem?_append_left (List.getElem?_eq_some_iff.1 hu).1]
 exact hu)
theorem qrk {w : World} {q off : Nat} {k : K32} (h : ∀ j u, (encK k)[j]? = some u → w.cell? ⟨q, off + j, none⟩ = some u) : w.cell? ⟨q, off + 32, none⟩ = some (.int .i64 k.1.2) := h 32 _ (gb _ _ k.2)
theorem qcu (w : World) : ((Tryz.prog.fieldsOf 79).mapM fun (f : Field) => do pure (f.offset, ← sizeOf f.type)).run Tryz.prog w = .ok #[(0, 1), (1, 33), (34, 32), (66, 1)] w := by kernel_rfl
theorem qbb (w : World) : (zeroValue 79).run Tryz.prog w = .ok (qaq (0, (zk32, zk32))) w := by kernel_rfl
abbrev zc : Nat → Option (Nat × Nat) := fun i => (#[((0 : Nat), (1 : Nat)), (1, 33), (34, 32), (66, 1)] : Array (Nat × Nat))[i]?
theorem qcx (k m : K32) (w : World) : (Instr.build 79 #[(1, kv k), (2, jc m.1.1), (3, .int .i64 m.1.2)]).run Tryz.prog w = .ok (qaq (0, (k, m))) w := by
 unfold Instr.build
 simp only [Sem.run_bind, qbb, Result.andThen_ok, run_underlying tg, qcu]
 have l1 := bi k
 have l2 : (ak m.1.1).length = 32 := by rw [am, m.2]
 have h0 := lh (place := zc) (i := 1) (off := 1) (v := kv k) (vs := encK k) (rest := [(2, jc m.1.1), (3, .int .i64 m.1.2)]) (cs := an (0, (zk32, zk32))) (cs' := [.int .i64 0] ++ (encK k ++ af z32 0)) rfl (by rw [l1]; rfl) (by rw [l1, bq]; omega) (by rw [l1]; rfl)
 have h1 := lh (place := zc) (i := 2) (off := 34) (v := jc m.1.1) (vs := ak m.1.1) (rest := [(3, .int .i64 m.1.2)]) (cs := [.int .i64 0] ++ (encK k ++ af z32 0)) (cs' := [.int .i64 0] ++ (encK k ++ (ak m.1.1 ++ [.int .i64 0]))) rfl (by rw [l2]; rfl) (by simp [l1, l2, ae, bg]) (by
  rw [← List.append_assoc, List.take_append_of_le_length (by simp [l1]), List.take_of_length_le (by simp [l1]), l2, List.drop_append, List.drop_of_length_le (by simp [l1])]
  simp [l1]
  rfl)
 have h2 := lh (place := zc) (i := 3) (off := 66) (v := .int .i64 m.1.2) (vs := [.int .i64 m.1.2]) (rest := []) (cs := [.int .i64 0] ++ (encK k ++ (ak m.1.1 ++ [.int .i64 0]))) (cs' := [.int .i64 0] ++ (encK k ++ (ak m.1.1 ++ [.int .i64 m.1.2]))) rfl rfl (by simp [l1, l2]) (by
  rw [← List.append_assoc, ← List.append_assoc, List.take_append_of_le_length (by simp [l1, l2]), List.take_of_length_le (by simp [l1, l2]), List.drop_of_length_le (by simp [l1, l2])]
  simp)
 rw [h1, h2] at h0
 rw [show (qaq (0, (zk32, zk32))).cells = (an (0, (zk32, zk32))).toArray from rfl, h0]
 rfl

def withTo (l : List dg) (w : World) (e : Ending) (w' : World) : Prop := ∃ v, e = .returned v ∧ w'.ownsRow w.heap.size 79 67 v l.length (dt l) ∧ Below w.heap.size w w'
theorem qkp (l : List dg) (x : dg) (A : Option Addr) (n c B : Nat) (w : World) (h : SlR gh w B (.slice A n c) l) (hB : B ≤ w.heap.size) (hl : l.length ≤ 100000) :
  Calls Tryz.prog 31 #[.slice A n c, qaq x] w (withTo (ins (fun y => eb x.2.1 y.2.1) ((0, x.2) : dg) (l.filter fun y => decide (y.2.1 ≠ x.2.1))) w) := by
 have HS := Lh h
 have HBW := Lh hB
 have HLL := Lh hl
 clear h hB hl
 go_enter Tryz.func31, Tryz.ntmps31
 go_wp2_with (refine ai (some 3) rfl ?_)
 refine Stop.go (bn rfl 79 rfl rfl (vs := an x) rfl ?_)
 have HG1 := Lh (aq (vs := an x) (hzn w (.cells (an x).toArray 79)))
 have HB1 := Lh ((br _ _).alloc (nr _) (.cells (an x).toArray 79) : Below w.heap.size w _)
 have HS1 := Lh (sz_ w (.cells (an x).toArray 79))
 have HSL1 := Lh (HS.o.below (HB1.o.mono HBW.o))
 generalize w.alloc (.cells (an x).toArray 79) = w1 at *
 generalize ha : Act.put _ _ _ = z9; simp [Act.put] at ha; subst ha
 go_wp2_with (refine ai (some 9) rfl ?_)
 refine Stop.go (aa rfl 34 rfl rfl ba.ut rfl (cs := encK x.2.1) (al _ _ (x.2.1).2) (ra HG1.o) ?_)
 generalize ha : Act.put _ _ _ = z9; simp [Act.put] at ha; subst ha
 go_wp2_with fail
 refine (qcf l x.2.1 A n c B w1 HSL1.o (by rw [HS1.o]; have := HBW.o; omega) (by have := HLL.o; omega)).mono ?_
 rintro e w2 ⟨v2, rfl, ho2, hb2⟩
 obtain ⟨l', hl'⟩ : ∃ l', l' = l.filter fun y => decide (y.2.1 ≠ x.2.1) := ⟨_, rfl⟩
 rw [← hl'] at ho2
 have HLE := Lh (show l'.length ≤ 100000 by rw [hl']; exact Nat.le_trans (List.length_filter_le _ _) HLL.o)
 have HLD := Lh hl'
 obtain ⟨A2, c2, rfl, hc2, hcm⟩ := ap ho2
 have hle := HLE.o
 have HO2 := Lh ho2
 have HG2 := Lh (show ∀ j u, (an x)[j]? = some u → w2.cell? ⟨w.heap.size, 0 + j, none⟩ = some u from fun j u hu => (hb2.cell (p := ⟨w.heap.size, 0 + j, none⟩) (by rw [HS1.o]; show w.heap.size < _; omega)).trans (HG1.o j u hu))
 have HB2 := Lh (HB1.o.trans (hb2.mono HB1.o.size))
 have HS2 := Lh (show w.heap.size < w2.heap.size from Nat.lt_of_lt_of_le (by rw [HS1.o]; omega) hb2.size)
 clear ho2 hb2 hl' HG1 HB1 HS1 HSL1
 go_wp2_with fail
 go_loopw [5] (fun v5 wr => ∃ k : Nat, k ≤ l'.length ∧ v5 = .int .i64 k ∧ Hid (∀ i y, k ≤ i → l'[i]? = some y → eb x.2.1 y.2.1 = true) ∧ Hid (Below w2.heap.size w2 wr)) (fun v5 _ => (intOf v5).toNat)
 case atStart => exact ⟨l'.length, nr _, rfl, (fun i y hi hy => by rw [List.getElem?_eq_none hi] at hy; cases hy), br _ _⟩
 case round =>
  obtain ⟨k, hk, rfl, HF, HB⟩ := hrel
  have HEND : Hid (∀ wz : World, Below w2.heap.size w2 wz → (k = 0 ∨ ∃ y, l'[k - 1]? = some y ∧ eb x.2.1 y.2.1 = false) → ∀ v w', w'.ownsRow w.heap.size 79 67 v (l'.length + 1) (dt (l'.take k) ++ an ((0, x.2) : dg) ++ dt (l'.drop k)) → Below w.heap.size w w' →
    withTo (ins (fun y => eb x.2.1 y.2.1) ((0, x.2) : dg) (l.filter fun y => decide (y.2.1 ≠ x.2.1))) w (.returned v) w') := Lh (fun wz _ hend v w' ho hb => by
   have hins := qpc (fun y => eb x.2.1 y.2.1) ((0, x.2) : dg) l' k hk HF.o hend
   rw [← HLD.o, hins]
   refine ⟨v, rfl, ?_, hb⟩
   have e1 : (l'.take k ++ ((0, x.2) : dg) :: l'.drop k).length = l'.length + 1 := by simp; omega
   have e2 : dt (l'.take k ++ ((0, x.2) : dg) :: l'.drop k) = dt (l'.take k) ++ an ((0, x.2) : dg) ++ dt (l'.drop k) := by simp [dt]
   rw [e1, e2]
   exact ho)
  rcases Nat.eq_zero_or_pos k with hk0 | hkp
  ·subst hk0
   go_wp2_with fail
   refine Text.wp_text [] (by kernel_rfl) (by kernel_rfl) (fun Q' hQ' => ?_)
   have HBd := Lh HB.o.drew
   have HFIN := Lh (HEND.o wr.drew HBd.o (Or.inl (by simp)))
   clear HB HEND
   generalize wr.drew = w3 at *
   go_wp2_with fail
   refine ⟨by rfl, ?_⟩
   obtain ⟨k, hkz⟩ : ∃ k : Nat, k = 0 := ⟨0, rfl⟩
   have HKL : Hid (k ≤ l'.length) := Lh (by omega)
   rw [← hkz] at HFIN
   rw [show (0 : Int) = ((k : Nat) : Int) by rw [hkz]; rfl]
   clear hkz
   have HG5 := Lh (show ∀ j u, (an x)[j]? = some u → w3.cell? ⟨w.heap.size, 0 + j, none⟩ = some u from fun j u hu => (HBd.o.cell (p := ⟨w.heap.size, 0 + j, none⟩) HS2.o).trans (HG2.o j u hu))
   go_wp2_with (refine ai (some 31) rfl ?_)
   have hb5 : Below w3.heap.size w3 (w3.alloc (.cells #[] 79)) := (br _ _).alloc (nr _) _
   have hown5 : (w3.alloc (.cells #[] 79)).ownsRow w2.heap.size 79 67 (.slice (some ⟨w3.heap.size, 0, none⟩) 0 0) 0 [] := ug 67 HBd.o.size
   have HB5 := Lh (HBd.o.trans (hb5.mono HBd.o.size))
   have HO5 := Lh hown5
   have HG6 := Lh (show ∀ j u, (an x)[j]? = some u → (w3.alloc (.cells #[] 79)).cell? ⟨w.heap.size, 0 + j, none⟩ = some u from fun j u hu => (hb5.cell (p := ⟨w.heap.size, 0 + j, none⟩) (Nat.lt_of_lt_of_le HS2.o HBd.o.size)).trans (HG5.o j u hu))
   have hkl := HKL.o
   clear hb5 hown5 HG5
   refine Stop.go (bz rfl (mg (s := 67) (fun _ => by kernel_rfl) Tryz.underlying27 rfl rfl rfl (by omega)) ?_)
   generalize w3.alloc (.cells #[] 79) = w5 at *
   generalize w3.heap.size = q5 at *
   have hbw5 := HB5.o.size
   refine ay jb rfl rfl rfl rfl HO5.o (B := w2.heap.size) (news := dt (l'.take k)) (m := k) (by
    have hr := ((Rd.of_own HO2.o).below (HB5.o)).cutS (c := c2) (k := 0) (s := 67) (by rw [fy]; exact Nat.mul_le_mul_right _ hc2)
    rw [Nat.zero_mul, List.drop_zero] at hr
    rw [sd]
    exact hr.take_ _) (by rw [fy, List.length_take, Nat.min_eq_left hkl]) (by
    intro u hu
    simp only [dt, List.mem_flatMap] at hu
    obtain ⟨a, _, hu⟩ := hu
    exact ey _ u hu) ?_ ?_ ?_ ?_
   ·simp only [maxLen]; omega
   ·omega
   ·exact hbw5
   intro v6 w6 hown6 hg6 _ _
   rw [Nat.zero_add, List.nil_append] at hown6
   obtain ⟨A6, c6, rfl, _, _⟩ := ap hown6
   have HB6 := Lh (ax HB5.o hg6 HO5.o (nr _) hbw5)
   have HO6 := Lh hown6
   have HG7 := Lh (show ∀ j u, (an x)[j]? = some u → w6.cell? ⟨w.heap.size, 0 + j, none⟩ = some u from fun j u hu => (World.cell?_of_block (w := w5) (w' := w6) (a := ⟨w.heap.size, 0 + j, none⟩) (hg6.block w.heap.size (Nat.lt_of_lt_of_le HS2.o hbw5) (fun e => by have := (HO5.o.lt _ e.symm).1; have := HS2.o; omega))).trans (HG6.o j u hu))
   clear hown6 hg6 HO5 HG6 HB5 hbw5
   generalize ha : Act.put _ _ _ = z9; simp [Act.put] at ha; subst ha
   go_wp2_with (refine ai (some 35) rfl ?_)
   refine Stop.go (aa rfl 34 rfl rfl ba.ut rfl (cs := encK x.2.1) (al _ _ x.2.1.2) (ra HG7.o) ?_)
   generalize ha : Act.put _ _ _ = z9; simp [Act.put] at ha; subst ha
   refine ar 1 _ _ _ (fun Q2 hQ2 => ?_)
   simp only [T1, T0]
   go_wp2_with fail
   try simp only [dr1, dr0]
   refine Stop.go (aa rfl 32 rfl rfl fz.ua rfl (cs := ak x.2.2.1.1) (gk _ x.2.2.2) (qme (xt HG7.o)) ?_)
   generalize ha : Act.put _ _ _ = z9; simp [Act.put] at ha; subst ha
   have hnum : w6.cell? ⟨w.heap.size, 66, none⟩ = some (.int .i64 x.2.2.1.2) := qrk (xt HG7.o)
   refine ar 2 _ _ _ (fun Q3 hQ3 => ?_)
   simp only [T1, T0]
   go_wp2_with fail
   try simp only [dr1, dr0]
   clear hnum
   refine Stop.go (bl rfl 79 rfl (vs := #[(1, kv x.2.1), (2, jc x.2.2.1.1), (3, .int .i64 x.2.2.1.2)]) (by rfl) (qcx x.2.1 x.2.2 _) ?_)
   refine cd rfl 27 79 rfl rfl (vs := an ((0, x.2) : dg)) Tryz.underlying27 (qe _) rfl (by rw [bq]; omega) (by rw [bq]; decide) ?_
   have hb8 : Below w6.heap.size w6 (w6.alloc (.cells (an ((0, x.2) : dg)).toArray 79)) := (br _ _).alloc (nr _) _
   have HO8 := Lh (bw HO6.o hb8)
   have HB8 := Lh (HB6.o.trans (hb8.mono HB6.o.size))
   have HG8 := Lh (hzn w6 (.cells (an ((0, x.2) : dg)).toArray 79))
   have HS8 := Lh (sz_ w6 (.cells (an ((0, x.2) : dg)).toArray 79))
   clear hb8 HO6 HB6
   generalize w6.alloc (.cells (an ((0, x.2) : dg)).toArray 79) = w8 at *
   have hbw8 := HB8.o.size
   refine ay jb rfl rfl rfl rfl HO8.o (Rd.row (B := w8.heap.size) HG8.o (by rw [HS8.o]; omega)) (m := 1) (by rw [show (an ((0, x.2) : dg)).toArray.toList = an ((0, x.2) : dg) from rfl, bq]) (by intro u hu; exact ey _ u hu) ?_ ?_ ?_ ?_
   ·simp only [maxLen]; omega
   ·omega
   ·exact hbw8
   intro v9 w9 hown9 hg9 _ _
   obtain ⟨A9, c9, rfl, _, _⟩ := ap hown9
   have HB9 := Lh (ax HB8.o hg9 HO8.o (nr _) hbw8)
   have HO9 := Lh hown9
   clear hown9 hg9 HO8 HB8 hbw8 HG8 HS8
   generalize ha : Act.put _ _ _ = z9; simp [Act.put] at ha; subst ha
   go_wp2_with (refine ai (some 46) rfl ?_)
   refine Stop.go (bz rfl (ku (s := 67) (fun _ => by kernel_rfl) Tryz.underlying27 rfl rfl rfl (by omega)) ?_)
   have hbw9 := HB9.o.size
   refine ay jb rfl rfl rfl rfl HO9.o (B := w2.heap.size) (news := dt (l'.drop k)) (m := l'.length - k) (by
    have hr := ((Rd.of_own HO2.o).below (HB9.o)).cutS (c := c2) (k := k) (s := 67) (by rw [fy]; exact Nat.mul_le_mul_right _ hc2)
    rw [wl]
    exact hr) (by rw [fy, List.length_drop]) (by
    intro u hu
    simp only [dt, List.mem_flatMap] at hu
    obtain ⟨a, _, hu⟩ := hu
    exact ey _ u hu) ?_ ?_ ?_ ?_
   ·simp only [maxLen]; omega
   ·omega
   ·exact hbw9
   intro v10 w10 hown10 hg10 _ _
   obtain ⟨A10, c10, rfl, _, _⟩ := ap hown10
   have HB10 := Lh (HB2.o.trans ((ax HB9.o hg10 HO9.o (nr _) hbw9).mono HB2.o.size))
   have HP := Lh (HFIN.o _ w10 (by
    have e : k + 1 + (l'.length - k) = l'.length + 1 := by omega
    have := fv hown10 HB2.o.size
    rw [e] at this
    exact this) HB10.o)
   clear hown10 hg10
   generalize ha : Act.put _ _ _ = z9; simp [Act.put] at ha; subst ha
   go_wp2_with fail
   go_ret
   have e : k + 1 + (l'.length - k) = l'.length + 1 := by omega
   rw [e]
   have hp := HP.o
   simp only [ne_eq, decide_not] at hp ⊢
   exact hp
  ·go_wp2_with fail
   refine Text.wp_text [] (by kernel_rfl) (by kernel_rfl) (fun Q' hQ' => ?_)
   have HBd := Lh HB.o.drew
   have hcast : (k : Int) - 1 = ((k - 1 : Nat) : Int) := by omega
   have hk1 : k - 1 < l'.length := by omega
   obtain ⟨q, off, cs, rfl, _, hqB, hrep, hcell⟩ := (ju (E := gh) (enc := an) (fun _ _ => rfl) HO2.o).get hk1 (by decide)
   obtain ⟨y, hy⟩ : ∃ y, y = l'[k - 1] := ⟨_, rfl⟩
   rw [← hy] at hrep
   have hrep : cs = an y := hrep
   subst hrep
   have HC := Lh (show ∀ j u, (an y)[j]? = some u → wr.drew.cell? ⟨q, off + (k - 1) * 67 + j, none⟩ = some u from fun j u hu => by
    have := hcell j u hu
    rw [← Nat.add_assoc] at this
    exact (HBd.o.cell (p := ⟨q, off + (k - 1) * 67 + j, none⟩) hqB).trans this)
   have HYE := Lh (show l'[k - 1]? = some y by rw [hy]; exact List.getElem?_eq_getElem hk1)
   have HG3 := Lh (show ∀ j u, (an x)[j]? = some u → wr.drew.cell? ⟨w.heap.size, 0 + j, none⟩ = some u from fun j u hu => (HBd.o.cell (p := ⟨w.heap.size, 0 + j, none⟩) HS2.o).trans (HG2.o j u hu))
   clear hcell hy hqB HB
   generalize wr.drew = w3 at *
   go_wp2_with (refine ai (some 17) rfl ?_)
   refine Stop.go (aw rfl 34 rfl rfl ba.ut rfl (cs := encK x.2.1) (al _ _ (x.2.1).2) (ra HG3.o) ?_)
   generalize ha : Act.put _ _ _ = z9; simp [Act.put] at ha; subst ha
   refine ar 5 _ _ _ (fun Q2 hQ2 => ?_)
   simp only [T1, T0]
   go_wp2_with fail
   try simp only [dr1, dr0]
   refine Stop.go (aw rfl 34 rfl rfl ba.ut rfl (cs := encK y.2.1) (al _ _ (y.2.1).2) (ra HC.o) ?_)
   generalize ha : Act.put _ _ _ = z9; simp [Act.put] at ha; subst ha
   go_wp2_with fail
   refine (qfj x.2.1 y.2.1 w3).mono ?_
   rintro e w4 ⟨rfl, hb4⟩
   have HB4 := Lh (HBd.o.trans (hb4.mono HBd.o.size))
   clear hb4
   obtain ⟨z, hz⟩ : ∃ z, z = eb x.2.1 y.2.1 := ⟨_, rfl⟩
   rw [← hz]
   have HZ := Lh hz
   clear hz
   go_wp2_with fail
   refine ⟨by rfl, ?_⟩
   cases z
   ·have HFIN := Lh (HEND.o w4 HB4.o (Or.inr ⟨y, HYE.o, HZ.o.symm⟩))
    have HBd := HB4
    have HKL : Hid (k ≤ l'.length) := Lh hk
    clear HEND HC HYE HG3 HB4 HZ
    generalize w4 = w3 at *
    have HG5 := Lh (show ∀ j u, (an x)[j]? = some u → w3.cell? ⟨w.heap.size, 0 + j, none⟩ = some u from fun j u hu => (HBd.o.cell (p := ⟨w.heap.size, 0 + j, none⟩) HS2.o).trans (HG2.o j u hu))
    go_wp2_with (refine ai (some 31) rfl ?_)
    have hb5 : Below w3.heap.size w3 (w3.alloc (.cells #[] 79)) := (br _ _).alloc (nr _) _
    have hown5 : (w3.alloc (.cells #[] 79)).ownsRow w2.heap.size 79 67 (.slice (some ⟨w3.heap.size, 0, none⟩) 0 0) 0 [] := ug 67 HBd.o.size
    have HB5 := Lh (HBd.o.trans (hb5.mono HBd.o.size))
    have HO5 := Lh hown5
    have HG6 := Lh (show ∀ j u, (an x)[j]? = some u → (w3.alloc (.cells #[] 79)).cell? ⟨w.heap.size, 0 + j, none⟩ = some u from fun j u hu => (hb5.cell (p := ⟨w.heap.size, 0 + j, none⟩) (Nat.lt_of_lt_of_le HS2.o HBd.o.size)).trans (HG5.o j u hu))
    have hkl := HKL.o
    clear hb5 hown5 HG5
    refine Stop.go (bz rfl (mg (s := 67) (fun _ => by kernel_rfl) Tryz.underlying27 rfl rfl rfl (by omega)) ?_)
    generalize w3.alloc (.cells #[] 79) = w5 at *
    generalize w3.heap.size = q5 at *
    have hbw5 := HB5.o.size
    refine ay jb rfl rfl rfl rfl HO5.o (B := w2.heap.size) (news := dt (l'.take k)) (m := k) (by
     have hr := ((Rd.of_own HO2.o).below (HB5.o)).cutS (c := c2) (k := 0) (s := 67) (by rw [fy]; exact Nat.mul_le_mul_right _ hc2)
     rw [Nat.zero_mul, List.drop_zero] at hr
     rw [sd]
     exact hr.take_ _) (by rw [fy, List.length_take, Nat.min_eq_left hkl]) (by
     intro u hu
     simp only [dt, List.mem_flatMap] at hu
     obtain ⟨a, _, hu⟩ := hu
     exact ey _ u hu) ?_ ?_ ?_ ?_
    ·simp only [maxLen]; omega
    ·omega
    ·exact hbw5
    intro v6 w6 hown6 hg6 _ _
    rw [Nat.zero_add, List.nil_append] at hown6
    obtain ⟨A6, c6, rfl, _, _⟩ := ap hown6
    have HB6 := Lh (ax HB5.o hg6 HO5.o (nr _) hbw5)
    have HO6 := Lh hown6
    have HG7 := Lh (show ∀ j u, (an x)[j]? = some u → w6.cell? ⟨w.heap.size, 0 + j, none⟩ = some u from fun j u hu => (World.cell?_of_block (w := w5) (w' := w6) (a := ⟨w.heap.size, 0 + j, none⟩) (hg6.block w.heap.size (Nat.lt_of_lt_of_le HS2.o hbw5) (fun e => by have := (HO5.o.lt _ e.symm).1; have := HS2.o; omega))).trans (HG6.o j u hu))
    clear hown6 hg6 HO5 HG6 HB5 hbw5
    generalize ha : Act.put _ _ _ = z9; simp [Act.put] at ha; subst ha
    go_wp2_with (refine ai (some 35) rfl ?_)
    refine Stop.go (aa rfl 34 rfl rfl ba.ut rfl (cs := encK x.2.1) (al _ _ x.2.1.2) (ra HG7.o) ?_)
    generalize ha : Act.put _ _ _ = z9; simp [Act.put] at ha; subst ha
    refine ar 1 _ _ _ (fun Q2 hQ2 => ?_)
    simp only [T1, T0]
    go_wp2_with fail
    try simp only [dr1, dr0]
    refine Stop.go (aa rfl 32 rfl rfl fz.ua rfl (cs := ak x.2.2.1.1) (gk _ x.2.2.2) (qme (xt HG7.o)) ?_)
    generalize ha : Act.put _ _ _ = z9; simp [Act.put] at ha; subst ha
    have hnum : w6.cell? ⟨w.heap.size, 66, none⟩ = some (.int .i64 x.2.2.1.2) := qrk (xt HG7.o)
    refine ar 2 _ _ _ (fun Q3 hQ3 => ?_)
    simp only [T1, T0]
    go_wp2_with fail
    try simp only [dr1, dr0]
    clear hnum
    refine Stop.go (bl rfl 79 rfl (vs := #[(1, kv x.2.1), (2, jc x.2.2.1.1), (3, .int .i64 x.2.2.1.2)]) (by rfl) (qcx x.2.1 x.2.2 _) ?_)
    refine cd rfl 27 79 rfl rfl (vs := an ((0, x.2) : dg)) Tryz.underlying27 (qe _) rfl (by rw [bq]; omega) (by rw [bq]; decide) ?_
    have hb8 : Below w6.heap.size w6 (w6.alloc (.cells (an ((0, x.2) : dg)).toArray 79)) := (br _ _).alloc (nr _) _
    have HO8 := Lh (bw HO6.o hb8)
    have HB8 := Lh (HB6.o.trans (hb8.mono HB6.o.size))
    have HG8 := Lh (hzn w6 (.cells (an ((0, x.2) : dg)).toArray 79))
    have HS8 := Lh (sz_ w6 (.cells (an ((0, x.2) : dg)).toArray 79))
    clear hb8 HO6 HB6
    generalize w6.alloc (.cells (an ((0, x.2) : dg)).toArray 79) = w8 at *
    have hbw8 := HB8.o.size
    refine ay jb rfl rfl rfl rfl HO8.o (Rd.row (B := w8.heap.size) HG8.o (by rw [HS8.o]; omega)) (m := 1) (by rw [show (an ((0, x.2) : dg)).toArray.toList = an ((0, x.2) : dg) from rfl, bq]) (by intro u hu; exact ey _ u hu) ?_ ?_ ?_ ?_
    ·simp only [maxLen]; omega
    ·omega
    ·exact hbw8
    intro v9 w9 hown9 hg9 _ _
    obtain ⟨A9, c9, rfl, _, _⟩ := ap hown9
    have HB9 := Lh (ax HB8.o hg9 HO8.o (nr _) hbw8)
    have HO9 := Lh hown9
    clear hown9 hg9 HO8 HB8 hbw8 HG8 HS8
    generalize ha : Act.put _ _ _ = z9; simp [Act.put] at ha; subst ha
    go_wp2_with (refine ai (some 46) rfl ?_)
    refine Stop.go (bz rfl (ku (s := 67) (fun _ => by kernel_rfl) Tryz.underlying27 rfl rfl rfl (by omega)) ?_)
    have hbw9 := HB9.o.size
    refine ay jb rfl rfl rfl rfl HO9.o (B := w2.heap.size) (news := dt (l'.drop k)) (m := l'.length - k) (by
     have hr := ((Rd.of_own HO2.o).below (HB9.o)).cutS (c := c2) (k := k) (s := 67) (by rw [fy]; exact Nat.mul_le_mul_right _ hc2)
     rw [wl]
     exact hr) (by rw [fy, List.length_drop]) (by
     intro u hu
     simp only [dt, List.mem_flatMap] at hu
     obtain ⟨a, _, hu⟩ := hu
     exact ey _ u hu) ?_ ?_ ?_ ?_
    ·simp only [maxLen]; omega
    ·omega
    ·exact hbw9
    intro v10 w10 hown10 hg10 _ _
    obtain ⟨A10, c10, rfl, _, _⟩ := ap hown10
    have HB10 := Lh (HB2.o.trans ((ax HB9.o hg10 HO9.o (nr _) hbw9).mono HB2.o.size))
    have HP := Lh (HFIN.o _ w10 (by
     have e : k + 1 + (l'.length - k) = l'.length + 1 := by omega
     have := fv hown10 HB2.o.size
     rw [e] at this
     exact this) HB10.o)
    clear hown10 hg10
    generalize ha : Act.put _ _ _ = z9; simp [Act.put] at ha; subst ha
    go_wp2_with fail
    go_ret
    have e : k + 1 + (l'.length - k) = l'.length + 1 := by omega
    rw [e]
    have hp := HP.o
    simp only [ne_eq, decide_not] at hp ⊢
    exact hp
   ·go_wp2_with fail
    go_roundw
    case rel =>
     refine ⟨k - 1, by omega, by go_num, ?_, HB4.o⟩
     refine fun i u hi hu => ?_
     by_cases hik : i = k - 1
     ·subst hik
      rw [HYE.o] at hu
      injection hu with hu
      rw [← hu]
      exact HZ.o.symm
     ·exact HF.o i u (by omega) hu
    case measure => simp [intOf]; omega

def pinTo (l : List K32) (w : World) (e : Ending) (w' : World) : Prop := ∃ v, e = .returned v ∧ w'.ownsRow w.heap.size 34 33 v l.length (df l) ∧ Below w.heap.size w w'
theorem pin_any (l : List K32) (x : K32) (A : Option Addr) (n c B : Nat) (w : World) (h : SlR eK w B (.slice A n c) l) (hB : B ≤ w.heap.size) (hl : l.length ≤ 100000) :
  Calls Tryz.prog 32 #[.slice A n c, kv x] w (pinTo (ins (fun y => eb x y) x (l.filter fun y => decide (y ≠ x))) w) := by
 have HS := Lh h
 have HBW := Lh hB
 have HLL := Lh hl
 clear h hB hl
 go_enter Tryz.func32, Tryz.ntmps32
 go_wp2_with (refine ai (some 3) rfl ?_)
 refine Stop.go (bn rfl 34 rfl rfl (vs := encK x) rfl ?_)
 have HG1 := Lh (aq (vs := encK x) (hzn w (.cells (encK x).toArray 34)))
 have HB1 := Lh ((br _ _).alloc (nr _) (.cells (encK x).toArray 34) : Below w.heap.size w _)
 have HS1 := Lh (sz_ w (.cells (encK x).toArray 34))
 have HSL1 := Lh (HS.o.below (HB1.o.mono HBW.o))
 generalize w.alloc (.cells (encK x).toArray 34) = w1 at *
 generalize ha : Act.put _ _ _ = z9; simp [Act.put] at ha; subst ha
 go_wp2_with (refine ai (some 8) rfl ?_)
 refine Stop.go (aa rfl 34 rfl rfl ba.ut rfl (cs := encK x) (al _ _ (x).2) HG1.o ?_)
 generalize ha : Act.put _ _ _ = z9; simp [Act.put] at ha; subst ha
 go_wp2_with fail
 refine (qhk l x A n c B w1 HSL1.o (by rw [HS1.o]; have := HBW.o; omega) (by have := HLL.o; omega)).mono ?_
 rintro e w2 ⟨v2, rfl, ho2, hb2⟩
 obtain ⟨l', hl'⟩ : ∃ l', l' = l.filter fun y => decide (y ≠ x) := ⟨_, rfl⟩
 rw [← hl'] at ho2
 have HLE := Lh (show l'.length ≤ 100000 by rw [hl']; exact Nat.le_trans (List.length_filter_le _ _) HLL.o)
 have HLD := Lh hl'
 obtain ⟨A2, c2, rfl, hc2, hcm⟩ := ap ho2
 have hle := HLE.o
 have HO2 := Lh ho2
 have HG2 := Lh (show ∀ j u, (encK x)[j]? = some u → w2.cell? ⟨w.heap.size, 0 + j, none⟩ = some u from fun j u hu => (hb2.cell (p := ⟨w.heap.size, 0 + j, none⟩) (by rw [HS1.o]; show w.heap.size < _; omega)).trans (HG1.o j u hu))
 have HB2 := Lh (HB1.o.trans (hb2.mono HB1.o.size))
 have HS2 := Lh (show w.heap.size < w2.heap.size from Nat.lt_of_lt_of_le (by rw [HS1.o]; omega) hb2.size)
 clear ho2 hb2 hl' HG1 HB1 HS1 HSL1
 go_wp2_with fail
 go_loopw [5] (fun v5 wr => ∃ k : Nat, k ≤ l'.length ∧ v5 = .int .i64 k ∧ Hid (∀ i y, k ≤ i → l'[i]? = some y → eb x y = true) ∧ Hid (Below w2.heap.size w2 wr)) (fun v5 _ => (intOf v5).toNat)
 case atStart => exact ⟨l'.length, nr _, rfl, (fun i y hi hy => by rw [List.getElem?_eq_none hi] at hy; cases hy), br _ _⟩
 case round =>
  obtain ⟨k, hk, rfl, HF, HB⟩ := hrel
  have HEND : Hid (∀ wz : World, Below w2.heap.size w2 wz → (k = 0 ∨ ∃ y, l'[k - 1]? = some y ∧ eb x y = false) → ∀ v w', w'.ownsRow w.heap.size 34 33 v (l'.length + 1) (df (l'.take k) ++ encK x ++ df (l'.drop k)) → Below w.heap.size w w' →
    pinTo (ins (fun y => eb x y) x (l.filter fun y => decide (y ≠ x))) w (.returned v) w') := Lh (fun wz _ hend v w' ho hb => by
   have hins := qpc (fun y => eb x y) x l' k hk HF.o hend
   rw [← HLD.o, hins]
   refine ⟨v, rfl, ?_, hb⟩
   have e1 : (l'.take k ++ x :: l'.drop k).length = l'.length + 1 := by simp; omega
   have e2 : df (l'.take k ++ x :: l'.drop k) = df (l'.take k) ++ encK x ++ df (l'.drop k) := by simp [df]
   rw [e1, e2]
   exact ho)
  rcases Nat.eq_zero_or_pos k with hk0 | hkp
  ·subst hk0
   go_wp2_with fail
   refine Text.wp_text [] (by kernel_rfl) (by kernel_rfl) (fun Q' hQ' => ?_)
   have HBd := Lh HB.o.drew
   have HFIN := Lh (HEND.o wr.drew HBd.o (Or.inl (by simp)))
   clear HB HEND
   generalize wr.drew = w3 at *
   go_wp2_with fail
   refine ⟨by rfl, ?_⟩
   obtain ⟨k, hkz⟩ : ∃ k : Nat, k = 0 := ⟨0, rfl⟩
   have HKL : Hid (k ≤ l'.length) := Lh (by omega)
   rw [← hkz] at HFIN
   rw [show (0 : Int) = ((k : Nat) : Int) by rw [hkz]; rfl]
   clear hkz
   have HG5 := Lh (show ∀ j u, (encK x)[j]? = some u → w3.cell? ⟨w.heap.size, 0 + j, none⟩ = some u from fun j u hu => (HBd.o.cell (p := ⟨w.heap.size, 0 + j, none⟩) HS2.o).trans (HG2.o j u hu))
   go_wp2_with (refine ai (some 28) rfl ?_)
   have hb5 : Below w3.heap.size w3 (w3.alloc (.cells #[] 34)) := (br _ _).alloc (nr _) _
   have hown5 : (w3.alloc (.cells #[] 34)).ownsRow w2.heap.size 34 33 (.slice (some ⟨w3.heap.size, 0, none⟩) 0 0) 0 [] := ug 33 HBd.o.size
   have HB5 := Lh (HBd.o.trans (hb5.mono HBd.o.size))
   have HO5 := Lh hown5
   have HG6 := Lh (show ∀ j u, (encK x)[j]? = some u → (w3.alloc (.cells #[] 34)).cell? ⟨w.heap.size, 0 + j, none⟩ = some u from fun j u hu => (hb5.cell (p := ⟨w.heap.size, 0 + j, none⟩) (Nat.lt_of_lt_of_le HS2.o HBd.o.size)).trans (HG5.o j u hu))
   have hkl := HKL.o
   clear hb5 hown5 HG5
   refine Stop.go (bz rfl (mg (s := 33) (fun _ => by kernel_rfl) Tryz.underlying28 rfl rfl rfl (by omega)) ?_)
   generalize w3.alloc (.cells #[] 34) = w5 at *
   generalize w3.heap.size = q5 at *
   have hbw5 := HB5.o.size
   refine ay nt rfl rfl rfl rfl HO5.o (B := w2.heap.size) (news := df (l'.take k)) (m := k) (by
    have hr := ((Rd.of_own HO2.o).below (HB5.o)).cutS (c := c2) (k := 0) (s := 33) (by rw [ja]; exact Nat.mul_le_mul_right _ hc2)
    rw [Nat.zero_mul, List.drop_zero] at hr
    rw [wk]
    exact hr.take_ _) (by rw [ja, List.length_take, Nat.min_eq_left hkl]) (by
    intro u hu
    simp only [df, List.mem_flatMap] at hu
    obtain ⟨a, _, hu⟩ := hu
    exact bc _ _ u hu) ?_ ?_ ?_ ?_
   ·simp only [maxLen]; omega
   ·omega
   ·exact hbw5
   intro v6 w6 hown6 hg6 _ _
   rw [Nat.zero_add, List.nil_append] at hown6
   obtain ⟨A6, c6, rfl, _, _⟩ := ap hown6
   have HB6 := Lh (ax HB5.o hg6 HO5.o (nr _) hbw5)
   have HO6 := Lh hown6
   have HG7 := Lh (show ∀ j u, (encK x)[j]? = some u → w6.cell? ⟨w.heap.size, 0 + j, none⟩ = some u from fun j u hu => (World.cell?_of_block (w := w5) (w' := w6) (a := ⟨w.heap.size, 0 + j, none⟩) (hg6.block w.heap.size (Nat.lt_of_lt_of_le HS2.o hbw5) (fun e => by have := (HO5.o.lt _ e.symm).1; have := HS2.o; omega))).trans (HG6.o j u hu))
   clear hown6 hg6 HO5 HG6 HB5 hbw5
   generalize ha : Act.put _ _ _ = z9; simp [Act.put] at ha; subst ha
   go_wp2_with (refine ai (some 31) rfl ?_)
   refine Stop.go (aa rfl 34 rfl rfl ba.ut rfl (cs := encK x) (al _ _ x.2) HG7.o ?_)
   refine cd rfl 28 34 rfl rfl (vs := encK x) Tryz.underlying28 (z := hkv z32 0) (qd _ _ x.2) rfl (by rw [bi]; omega) (by rw [bi]; decide) ?_
   have hb8 : Below w6.heap.size w6 (w6.alloc (.cells (encK x).toArray 34)) := (br _ _).alloc (nr _) _
   have HO8 := Lh (bw HO6.o hb8)
   have HB8 := Lh (HB6.o.trans (hb8.mono HB6.o.size))
   have HG8 := Lh (hzn w6 (.cells (encK x).toArray 34))
   have HS8 := Lh (sz_ w6 (.cells (encK x).toArray 34))
   clear hb8 HO6 HB6
   generalize w6.alloc (.cells (encK x).toArray 34) = w8 at *
   have hbw8 := HB8.o.size
   refine ay nt rfl rfl rfl rfl HO8.o (Rd.row (B := w8.heap.size) HG8.o (by rw [HS8.o]; omega)) (m := 1) (by rw [show (encK x).toArray.toList = encK x from rfl, bi]) (by intro u hu; exact bc _ _ u hu) ?_ ?_ ?_ ?_
   ·simp only [maxLen]; omega
   ·omega
   ·exact hbw8
   intro v9 w9 hown9 hg9 _ _
   obtain ⟨A9, c9, rfl, _, _⟩ := ap hown9
   have HB9 := Lh (ax HB8.o hg9 HO8.o (nr _) hbw8)
   have HO9 := Lh hown9
   clear hown9 hg9 HO8 HB8 hbw8 HG8 HS8
   generalize ha : Act.put _ _ _ = z9; simp [Act.put] at ha; subst ha
   go_wp2_with (refine ai (some 37) rfl ?_)
   refine Stop.go (bz rfl (ku (s := 33) (fun _ => by kernel_rfl) Tryz.underlying28 rfl rfl rfl (by omega)) ?_)
   have hbw9 := HB9.o.size
   refine ay nt rfl rfl rfl rfl HO9.o (B := w2.heap.size) (news := df (l'.drop k)) (m := l'.length - k) (by
    have hr := ((Rd.of_own HO2.o).below (HB9.o)).cutS (c := c2) (k := k) (s := 33) (by rw [ja]; exact Nat.mul_le_mul_right _ hc2)
    rw [qcr]
    exact hr) (by rw [ja, List.length_drop]) (by
    intro u hu
    simp only [df, List.mem_flatMap] at hu
    obtain ⟨a, _, hu⟩ := hu
    exact bc _ _ u hu) ?_ ?_ ?_ ?_
   ·simp only [maxLen]; omega
   ·omega
   ·exact hbw9
   intro v10 w10 hown10 hg10 _ _
   obtain ⟨A10, c10, rfl, _, _⟩ := ap hown10
   have HB10 := Lh (HB2.o.trans ((ax HB9.o hg10 HO9.o (nr _) hbw9).mono HB2.o.size))
   have HP := Lh (HFIN.o _ w10 (by
    have e : k + 1 + (l'.length - k) = l'.length + 1 := by omega
    have := fv hown10 HB2.o.size
    rw [e] at this
    exact this) HB10.o)
   clear hown10 hg10
   generalize ha : Act.put _ _ _ = z9; simp [Act.put] at ha; subst ha
   go_wp2_with fail
   go_ret
   have e : k + 1 + (l'.length - k) = l'.length + 1 := by omega
   rw [e]
   have hp := HP.o
   simp only [ne_eq, decide_not] at hp ⊢
   exact hp
  ·go_wp2_with fail
   refine Text.wp_text [] (by kernel_rfl) (by kernel_rfl) (fun Q' hQ' => ?_)
   have HBd := Lh HB.o.drew
   have hcast : (k : Int) - 1 = ((k - 1 : Nat) : Int) := by omega
   have hk1 : k - 1 < l'.length := by omega
   obtain ⟨q, off, cs, rfl, _, hqB, hrep, hcell⟩ := (ju (E := eK) (enc := encK) (fun _ _ => rfl) HO2.o).get hk1 (by decide)
   obtain ⟨y, hy⟩ : ∃ y, y = l'[k - 1] := ⟨_, rfl⟩
   rw [← hy] at hrep
   have hrep : cs = encK y := hrep
   subst hrep
   have HC := Lh (show ∀ j u, (encK y)[j]? = some u → wr.drew.cell? ⟨q, off + (k - 1) * 33 + j, none⟩ = some u from fun j u hu => by
    have := hcell j u hu
    rw [← Nat.add_assoc] at this
    exact (HBd.o.cell (p := ⟨q, off + (k - 1) * 33 + j, none⟩) hqB).trans this)
   have HYE := Lh (show l'[k - 1]? = some y by rw [hy]; exact List.getElem?_eq_getElem hk1)
   have HG3 := Lh (show ∀ j u, (encK x)[j]? = some u → wr.drew.cell? ⟨w.heap.size, 0 + j, none⟩ = some u from fun j u hu => (HBd.o.cell (p := ⟨w.heap.size, 0 + j, none⟩) HS2.o).trans (HG2.o j u hu))
   clear hcell hy hqB HB
   generalize wr.drew = w3 at *
   go_wp2_with (refine ai (some 15) rfl ?_)
   refine Stop.go (aw rfl 34 rfl rfl ba.ut rfl (cs := encK x) (al _ _ (x).2) HG3.o ?_)
   generalize ha : Act.put _ _ _ = z9; simp [Act.put] at ha; subst ha
   refine ar 4 _ _ _ (fun Q2 hQ2 => ?_)
   simp only [T1, T0]
   go_wp2_with fail
   try simp only [dr1, dr0]
   refine Stop.go (aw rfl 34 rfl rfl ba.ut rfl (cs := encK y) (al _ _ (y).2) HC.o ?_)
   generalize ha : Act.put _ _ _ = z9; simp [Act.put] at ha; subst ha
   go_wp2_with fail
   refine (qfj x y w3).mono ?_
   rintro e w4 ⟨rfl, hb4⟩
   have HB4 := Lh (HBd.o.trans (hb4.mono HBd.o.size))
   clear hb4
   obtain ⟨z, hz⟩ : ∃ z, z = eb x y := ⟨_, rfl⟩
   rw [← hz]
   have HZ := Lh hz
   clear hz
   go_wp2_with fail
   refine ⟨by rfl, ?_⟩
   cases z
   ·have HFIN := Lh (HEND.o w4 HB4.o (Or.inr ⟨y, HYE.o, HZ.o.symm⟩))
    have HBd := HB4
    have HKL : Hid (k ≤ l'.length) := Lh hk
    clear HEND HC HYE HG3 HB4 HZ
    generalize w4 = w3 at *
    have HG5 := Lh (show ∀ j u, (encK x)[j]? = some u → w3.cell? ⟨w.heap.size, 0 + j, none⟩ = some u from fun j u hu => (HBd.o.cell (p := ⟨w.heap.size, 0 + j, none⟩) HS2.o).trans (HG2.o j u hu))
    go_wp2_with (refine ai (some 28) rfl ?_)
    have hb5 : Below w3.heap.size w3 (w3.alloc (.cells #[] 34)) := (br _ _).alloc (nr _) _
    have hown5 : (w3.alloc (.cells #[] 34)).ownsRow w2.heap.size 34 33 (.slice (some ⟨w3.heap.size, 0, none⟩) 0 0) 0 [] := ug 33 HBd.o.size
    have HB5 := Lh (HBd.o.trans (hb5.mono HBd.o.size))
    have HO5 := Lh hown5
    have HG6 := Lh (show ∀ j u, (encK x)[j]? = some u → (w3.alloc (.cells #[] 34)).cell? ⟨w.heap.size, 0 + j, none⟩ = some u from fun j u hu => (hb5.cell (p := ⟨w.heap.size, 0 + j, none⟩) (Nat.lt_of_lt_of_le HS2.o HBd.o.size)).trans (HG5.o j u hu))
    have hkl := HKL.o
    clear hb5 hown5 HG5
    refine Stop.go (bz rfl (mg (s := 33) (fun _ => by kernel_rfl) Tryz.underlying28 rfl rfl rfl (by omega)) ?_)
    generalize w3.alloc (.cells #[] 34) = w5 at *
    generalize w3.heap.size = q5 at *
    have hbw5 := HB5.o.size
    refine ay nt rfl rfl rfl rfl HO5.o (B := w2.heap.size) (news := df (l'.take k)) (m := k) (by
     have hr := ((Rd.of_own HO2.o).below (HB5.o)).cutS (c := c2) (k := 0) (s := 33) (by rw [ja]; exact Nat.mul_le_mul_right _ hc2)
     rw [Nat.zero_mul, List.drop_zero] at hr
     rw [wk]
     exact hr.take_ _) (by rw [ja, List.length_take, Nat.min_eq_left hkl]) (by
     intro u hu
     simp only [df, List.mem_flatMap] at hu
     obtain ⟨a, _, hu⟩ := hu
     exact bc _ _ u hu) ?_ ?_ ?_ ?_
    ·simp only [maxLen]; omega
    ·omega
    ·exact hbw5
    intro v6 w6 hown6 hg6 _ _
    rw [Nat.zero_add, List.nil_append] at hown6
    obtain ⟨A6, c6, rfl, _, _⟩ := ap hown6
    have HB6 := Lh (ax HB5.o hg6 HO5.o (nr _) hbw5)
    have HO6 := Lh hown6
    have HG7 := Lh (show ∀ j u, (encK x)[j]? = some u → w6.cell? ⟨w.heap.size, 0 + j, none⟩ = some u from fun j u hu => (World.cell?_of_block (w := w5) (w' := w6) (a := ⟨w.heap.size, 0 + j, none⟩) (hg6.block w.heap.size (Nat.lt_of_lt_of_le HS2.o hbw5) (fun e => by have := (HO5.o.lt _ e.symm).1; have := HS2.o; omega))).trans (HG6.o j u hu))
    clear hown6 hg6 HO5 HG6 HB5 hbw5
    generalize ha : Act.put _ _ _ = z9; simp [Act.put] at ha; subst ha
    go_wp2_with (refine ai (some 31) rfl ?_)
    refine Stop.go (aa rfl 34 rfl rfl ba.ut rfl (cs := encK x) (al _ _ x.2) HG7.o ?_)
    refine cd rfl 28 34 rfl rfl (vs := encK x) Tryz.underlying28 (z := hkv z32 0) (qd _ _ x.2) rfl (by rw [bi]; omega) (by rw [bi]; decide) ?_
    have hb8 : Below w6.heap.size w6 (w6.alloc (.cells (encK x).toArray 34)) := (br _ _).alloc (nr _) _
    have HO8 := Lh (bw HO6.o hb8)
    have HB8 := Lh (HB6.o.trans (hb8.mono HB6.o.size))
    have HG8 := Lh (hzn w6 (.cells (encK x).toArray 34))
    have HS8 := Lh (sz_ w6 (.cells (encK x).toArray 34))
    clear hb8 HO6 HB6
    generalize w6.alloc (.cells (encK x).toArray 34) = w8 at *
    have hbw8 := HB8.o.size
    refine ay nt rfl rfl rfl rfl HO8.o (Rd.row (B := w8.heap.size) HG8.o (by rw [HS8.o]; omega)) (m := 1) (by rw [show (encK x).toArray.toList = encK x from rfl, bi]) (by intro u hu; exact bc _ _ u hu) ?_ ?_ ?_ ?_
    ·simp only [maxLen]; omega
    ·omega
    ·exact hbw8
    intro v9 w9 hown9 hg9 _ _
    obtain ⟨A9, c9, rfl, _, _⟩ := ap hown9
    have HB9 := Lh (ax HB8.o hg9 HO8.o (nr _) hbw8)
    have HO9 := Lh hown9
    clear hown9 hg9 HO8 HB8 hbw8 HG8 HS8
    generalize ha : Act.put _ _ _ = z9; simp [Act.put] at ha; subst ha
    go_wp2_with (refine ai (some 37) rfl ?_)
    refine Stop.go (bz rfl (ku (s := 33) (fun _ => by kernel_rfl) Tryz.underlying28 rfl rfl rfl (by omega)) ?_)
    have hbw9 := HB9.o.size
    refine ay nt rfl rfl rfl rfl HO9.o (B := w2.heap.size) (news := df (l'.drop k)) (m := l'.length - k) (by
     have hr := ((Rd.of_own HO2.o).below (HB9.o)).cutS (c := c2) (k := k) (s := 33) (by rw [ja]; exact Nat.mul_le_mul_right _ hc2)
     rw [qcr]
     exact hr) (by rw [ja, List.length_drop]) (by
     intro u hu
     simp only [df, List.mem_flatMap] at hu
     obtain ⟨a, _, hu⟩ := hu
     exact bc _ _ u hu) ?_ ?_ ?_ ?_
    ·simp only [maxLen]; omega
    ·omega
    ·exact hbw9
    intro v10 w10 hown10 hg10 _ _
    obtain ⟨A10, c10, rfl, _, _⟩ := ap hown10
    have HB10 := Lh (HB2.o.trans ((ax HB9.o hg10 HO9.o (nr _) hbw9).mono HB2.o.size))
    have HP := Lh (HFIN.o _ w10 (by
     have e : k + 1 + (l'.length - k) = l'.length + 1 := by omega
     have := fv hown10 HB2.o.size
     rw [e] at this
     exact this) HB10.o)
    clear hown10 hg10
    generalize ha : Act.put _ _ _ = z9; simp [Act.put] at ha; subst ha
    go_wp2_with fail
    go_ret
    have e : k + 1 + (l'.length - k) = l'.length + 1 := by omega
    rw [e]
    have hp := HP.o
    simp only [ne_eq, decide_not] at hp ⊢
    exact hp
   ·go_wp2_with fail
    go_roundw
    case rel =>
     refine ⟨k - 1, by omega, by go_num, ?_, HB4.o⟩
     refine fun i u hi hu => ?_
     by_cases hik : i = k - 1
     ·subst hik
      rw [HYE.o] at hu
      injection hu with hu
      rw [← hu]
      exact HZ.o.symm
     ·exact HF.o i u (by omega) hu
    case measure => simp [intOf]; omega
end Go.Proofs.YtplbcbamnjnhlaaGreatDoor
