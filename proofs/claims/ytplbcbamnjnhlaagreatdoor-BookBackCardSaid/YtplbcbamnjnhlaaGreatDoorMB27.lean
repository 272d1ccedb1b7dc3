import Derived.Test.YtplbcbamnjnhlaaGreatDoorMB25
import Derived.Test.YtplbcbamnjnhlaaGreatDoorMB26
namespace Go.Proofs.YtplbcbamnjnhlaaGreatDoor
open Go.RowKit

def cutS (A : Option Addr) (c k s : Nat) : Option Addr := if c = k then A else A.map (·.add (k * s))
theorem Rd.cutS {w : World} {B : Nat} {A : Option Addr} {xs : List Value} (h : Rd w B A xs) {c k s : Nat} (hl : xs.length ≤ c * s) : Rd w B (cutS A c k s) (xs.drop (k * s)) := by
  unfold YtplbcbamnjnhlaaGreatDoor.cutS
  split
  · rename_i hc
    subst hc
    rw [List.drop_of_length_le hl]
    exact Rd.nil_
  · have := h.drop_ (k * s) (cap := k * s + 1) (fun _ => by omega)
    rwa [if_neg (by omega)] at this
theorem exec_slice_to {P : Program} {a : Act} {o : Oper} {t : TypeId} {s : Nat} {x hi : Operand} {A : Option Addr} {n c m : Nat} {w : World} (hs : ∀ w, (sizeOf (P.elem t)).run P w = .ok s w) (ht : P.underlying t = some (.slice (P.elem t))) (ho : o.op = .slice t x none (some hi) none)
    (hx : a.eval x = .slice A n c) (hh : a.eval hi = .int .i64 m) (hm : m ≤ c) : (execOp a.eval o).run P w = .ok (.value (.slice (cutS A c 0 s) m c)) w := by
  unfold execOp
  simp only [ho, hx, hh, Option.map_none, Option.map_some, Sem.run_bind]
  rw [run_sliceAt_slice _ _ _ _ _ _ ht, run_slice_h _ _ _ _ _ ht .i64 _ (by omega) (by omega), hs]
  simp [sliced, cutS]
theorem exec_slice_from {P : Program} {a : Act} {o : Oper} {t : TypeId} {s : Nat} {x lo : Operand} {A : Option Addr} {n c m : Nat} {w : World} (hs : ∀ w, (sizeOf (P.elem t)).run P w = .ok s w) (ht : P.underlying t = some (.slice (P.elem t))) (ho : o.op = .slice t x (some lo) none none)
    (hx : a.eval x = .slice A n c) (hh : a.eval lo = .int .i64 m) (hm : m ≤ n) : (execOp a.eval o).run P w = .ok (.value (.slice (cutS A c m s) (n - m) (c - m))) w := by
  unfold execOp
  simp only [ho, hx, hh, Option.map_none, Option.map_some, Sem.run_bind]
  rw [run_sliceAt_slice _ _ _ _ _ _ ht, run_slice_l _ _ _ _ _ ht .i64 _ (by omega) (by omega), hs]
  simp [sliced, cutS]
theorem own_lit {w : World} {base : Nat} {t : TypeId} (s : Nat) (hb : base ≤ w.heap.size) : (w.alloc (.cells #[] t)).ownsRow base t s (.slice (some ⟨w.heap.size, 0, none⟩) 0 0) 0 [] :=
  ⟨by simp, .inr ⟨w.heap.size, 0, #[], rfl, hb, Go.heap_alloc_new w _, Nat.le_refl _, Nat.zero_le _, by simp, by simp⟩⟩
theorem icells_len (l : List ItemD) : (icells l).length = l.length * 67 := by
  induction l with
  | nil => rfl
  | cons x r ih => unfold icells at *; rw [List.flatMap_cons, List.length_append, ih, itemCells_len, List.length_cons, Nat.add_mul]; omega
theorem icells_take (l : List ItemD) (k : Nat) : icells (l.take k) = (icells l).take (k * 67) := by
  induction l generalizing k with
  | nil => simp [icells]
  | cons x r ih =>
    cases k with
    | zero => simp [icells]
    | succ k =>
      have := ih k
      unfold icells at *
      rw [List.take_succ_cons, List.flatMap_cons, List.flatMap_cons, this, Nat.add_mul, Nat.one_mul, List.take_append, List.take_of_length_le (l := itemCells x) (by rw [itemCells_len]; omega), itemCells_len]
      congr 2
theorem icells_drop (l : List ItemD) (k : Nat) : icells (l.drop k) = (icells l).drop (k * 67) := by
  have h1 : icells l = icells (l.take k) ++ icells (l.drop k) := by unfold icells; rw [← List.flatMap_append, List.take_append_drop]
  have h2 : icells l = (icells l).take (k * 67) ++ (icells l).drop (k * 67) := (List.take_append_drop _ _).symm
  rw [icells_take] at h1
  exact (List.append_cancel_left (h2.symm.trans h1)).symm
theorem kcells_take (l : List K32) (k : Nat) : kcells (l.take k) = (kcells l).take (k * 33) := by
  induction l generalizing k with
  | nil => simp [kcells]
  | cons x r ih =>
    cases k with
    | zero => simp [kcells]
    | succ k =>
      have := ih k
      unfold kcells at *
      rw [List.take_succ_cons, List.flatMap_cons, List.flatMap_cons, this, Nat.add_mul, Nat.one_mul, List.take_append, List.take_of_length_le (l := encK x) (by rw [encK_len]; omega), encK_len]
      congr 2
theorem kcells_drop (l : List K32) (k : Nat) : kcells (l.drop k) = (kcells l).drop (k * 33) := by
  have h1 : kcells l = kcells (l.take k) ++ kcells (l.drop k) := by unfold kcells; rw [← List.flatMap_append, List.take_append_drop]
  have h2 : kcells l = (kcells l).take (k * 33) ++ (kcells l).drop (k * 33) := (List.take_append_drop _ _).symm
  rw [kcells_take] at h1
  exact (List.append_cancel_left (h2.symm.trans h1)).symm
theorem item_hash {w : World} {q : Nat} {x : ItemD} (h : ∀ j u, (itemCells x)[j]? = some u → w.cell? ⟨q, 0 + j, none⟩ = some u) : ∀ j u, (encK x.2.2)[j]? = some u → w.cell? ⟨q, 34 + j, none⟩ = some u := fun j u hu => by
  have := h (34 + j) u (by
    unfold itemCells ivCells
    rw [show 34 + j = (33 + j) + 1 by omega, List.getElem?_cons_succ, List.getElem?_append_right (by rw [hkCells_length, x.2.1.2]; omega), hkCells_length, x.2.1.2, show 33 + j - (32 + 1) = j by omega]
    exact hu)
  rwa [Nat.zero_add] at this
theorem key_hash {w : World} {q off : Nat} {k : K32} (h : ∀ j u, (encK k)[j]? = some u → w.cell? ⟨q, off + j, none⟩ = some u) : ∀ j u, (bcells k.1.1)[j]? = some u → w.cell? ⟨q, off + j, none⟩ = some u := fun j u hu => h j u (by
  unfold encK hkCells
  rw [List.getElem?_append_left (List.getElem?_eq_some_iff.1 hu).1]
  exact hu)
theorem key_num {w : World} {q off : Nat} {k : K32} (h : ∀ j u, (encK k)[j]? = some u → w.cell? ⟨q, off + j, none⟩ = some u) : w.cell? ⟨q, off + 32, none⟩ = some (.int .i64 k.1.2) := h 32 _ (hkCells_get _ _ k.2)
theorem fields_item (w : World) : ((Tryz.prog.fieldsOf 79).mapM fun (f : Field) => do pure (f.offset, ← sizeOf f.type)).run Tryz.prog w = .ok #[(0, 1), (1, 33), (34, 32), (66, 1)] w := by kernel_rfl
theorem zero_item (w : World) : (zeroValue 79).run Tryz.prog w = .ok (itemv (0, (zk32, zk32))) w := by kernel_rfl
abbrev iplace : Nat → Option (Nat × Nat) := fun i => (#[((0 : Nat), (1 : Nat)), (1, 33), (34, 32), (66, 1)] : Array (Nat × Nat))[i]?
theorem build_item3 (k m : K32) (w : World) : (Instr.build 79 #[(1, kv k), (2, hashv m.1.1), (3, .int .i64 m.1.2)]).run Tryz.prog w = .ok (itemv (0, (k, m))) w := by
  unfold Instr.build
  simp only [Sem.run_bind, zero_item, Result.andThen_ok, run_underlying itemTy_u, fields_item]
  have l1 := encK_len k
  have l2 : (bcells m.1.1).length = 32 := by rw [bcells_length, m.2]
  have h0 := fill_at (place := iplace) (i := 1) (off := 1) (v := kv k) (vs := encK k) (rest := [(2, hashv m.1.1), (3, .int .i64 m.1.2)]) (cs := itemCells (0, (zk32, zk32))) (cs' := [.int .i64 0] ++ (encK k ++ hkCells z32 0)) rfl (by rw [l1]; rfl) (by rw [l1, itemCells_len]; omega) (by rw [l1]; rfl)
  have h1 := fill_at (place := iplace) (i := 2) (off := 34) (v := hashv m.1.1) (vs := bcells m.1.1) (rest := [(3, .int .i64 m.1.2)]) (cs := [.int .i64 0] ++ (encK k ++ hkCells z32 0)) (cs' := [.int .i64 0] ++ (encK k ++ (bcells m.1.1 ++ [.int .i64 0]))) rfl (by rw [l2]; rfl) (by simp [l1, l2, hkCells_length, z32_len]) (by
    rw [← List.append_assoc, List.take_append_of_le_length (by simp [l1]), List.take_of_length_le (by simp [l1]), l2, List.drop_append, List.drop_of_length_le (by simp [l1])]
    simp [l1]
    rfl)
  have h2 := fill_at (place := iplace) (i := 3) (off := 66) (v := .int .i64 m.1.2) (vs := [.int .i64 m.1.2]) (rest := []) (cs := [.int .i64 0] ++ (encK k ++ (bcells m.1.1 ++ [.int .i64 0]))) (cs' := [.int .i64 0] ++ (encK k ++ (bcells m.1.1 ++ [.int .i64 m.1.2]))) rfl rfl (by simp [l1, l2]) (by
    rw [← List.append_assoc, ← List.append_assoc, List.take_append_of_le_length (by simp [l1, l2]), List.take_of_length_le (by simp [l1, l2]), List.drop_of_length_le (by simp [l1, l2])]
    simp)
  rw [h1, h2] at h0
  rw [show (itemv (0, (zk32, zk32))).cells = (itemCells (0, (zk32, zk32))).toArray from rfl, h0]
  rfl

def withTo (l : List ItemD) (w : World) (e : Ending) (w' : World) : Prop := ∃ v, e = .returned v ∧ w'.ownsRow w.heap.size 79 67 v l.length (icells l) ∧ Below w.heap.size w w'
set_option maxRecDepth 100000 in
set_option maxHeartbeats 8000000 in
theorem with_any (l : List ItemD) (x : ItemD) (A : Option Addr) (n c B : Nat) (w : World) (h : SlR eItem w B (.slice A n c) l) (hB : B ≤ w.heap.size) (hl : l.length ≤ 100000) :
    Calls Tryz.prog 31 #[.slice A n c, itemv x] w (withTo (ins (fun y => kless x.2.1 y.2.1) ((0, x.2) : ItemD) (l.filter fun y => decide (y.2.1 ≠ x.2.1))) w) := by
  have HS := Lib.hid h
  have HBW := Lib.hid hB
  have HLL := Lib.hid hl
  clear h hB hl
  go_enter Tryz.func31, Tryz.ntmps31
  go_wp2_with (refine stop_at (some 3) rfl ?_)
  refine Stop.go (wpList_box rfl 79 rfl rfl (vs := itemCells x) rfl ?_)
  have HG1 := Lib.hid (row_cells (vs := itemCells x) (Go.heap_alloc_new w (.cells (itemCells x).toArray 79)))
  have HB1 := Lib.hid ((Below.refl _ _).alloc (Nat.le_refl _) (.cells (itemCells x).toArray 79) : Below w.heap.size w _)
  have HS1 := Lib.hid (World.size_alloc w (.cells (itemCells x).toArray 79))
  have HSL1 := Lib.hid (HS.out.below (HB1.out.mono HBW.out))
  generalize w.alloc (.cells (itemCells x).toArray 79) = w1 at *
  generalize hac : Act.put _ _ _ = a9
  simp [Act.put] at hac
  subst hac
  go_wp2_with (refine stop_at (some 9) rfl ?_)
  refine Stop.go (wpList_load_agg rfl 34 rfl rfl keyTy.ut rfl (cs := encK x.2.1) (key_size _ _ (x.2.1).2) (item_key HG1.out) ?_)
  generalize hac : Act.put _ _ _ = a9
  simp [Act.put] at hac
  subst hac
  go_wp2_with fail
  refine (without_any l x.2.1 A n c B w1 HSL1.out (by rw [HS1.out]; have := HBW.out; omega) (by have := HLL.out; omega)).mono ?_
  rintro e w2 ⟨v2, rfl, ho2, hb2⟩
  obtain ⟨l', hl'⟩ : ∃ l', l' = l.filter fun y => decide (y.2.1 ≠ x.2.1) := ⟨_, rfl⟩
  rw [← hl'] at ho2
  have HLE := Lib.hid (show l'.length ≤ 100000 by rw [hl']; exact Nat.le_trans (List.length_filter_le _ _) HLL.out)
  have HLD := Lib.hid hl'
  obtain ⟨A2, c2, rfl, hc2, hcm⟩ := own_form ho2
  have hle := HLE.out
  have HO2 := Lib.hid ho2
  have HG2 := Lib.hid (show ∀ j u, (itemCells x)[j]? = some u → w2.cell? ⟨w.heap.size, 0 + j, none⟩ = some u from fun j u hu => (hb2.cell (p := ⟨w.heap.size, 0 + j, none⟩) (by rw [HS1.out]; show w.heap.size < _; omega)).trans (HG1.out j u hu))
  have HB2 := Lib.hid (HB1.out.trans (hb2.mono HB1.out.size))
  have HS2 := Lib.hid (show w.heap.size < w2.heap.size from Nat.lt_of_lt_of_le (by rw [HS1.out]; omega) hb2.size)
  clear ho2 hb2 hl' HG1 HB1 HS1 HSL1
  go_wp2_with fail
  go_loopw [5] (fun v5 wr => ∃ k : Nat, k ≤ l'.length ∧ v5 = .int .i64 k ∧ Hid (∀ i y, k ≤ i → l'[i]? = some y → kless x.2.1 y.2.1 = true) ∧ Hid (Below w2.heap.size w2 wr)) (fun v5 _ => (intOf v5).toNat)
  case atStart => exact ⟨l'.length, Nat.le_refl _, rfl, (fun i y hi hy => by rw [List.getElem?_eq_none hi] at hy; cases hy), Below.refl _ _⟩
  case round =>
    obtain ⟨k, hk, rfl, HF, HB⟩ := hrel
    have HEND : Hid (∀ wz : World, Below w2.heap.size w2 wz → (k = 0 ∨ ∃ y, l'[k - 1]? = some y ∧ kless x.2.1 y.2.1 = false) → ∀ v w', w'.ownsRow w.heap.size 79 67 v (l'.length + 1) (icells (l'.take k) ++ itemCells ((0, x.2) : ItemD) ++ icells (l'.drop k)) → Below w.heap.size w w' →
        withTo (ins (fun y => kless x.2.1 y.2.1) ((0, x.2) : ItemD) (l.filter fun y => decide (y.2.1 ≠ x.2.1))) w (.returned v) w') := Lib.hid (fun wz _ hend v w' ho hb => by
      have hins := ins_at (fun y => kless x.2.1 y.2.1) ((0, x.2) : ItemD) l' k hk HF.out hend
      rw [← HLD.out, hins]
      refine ⟨v, rfl, ?_, hb⟩
      have e1 : (l'.take k ++ ((0, x.2) : ItemD) :: l'.drop k).length = l'.length + 1 := by simp; omega
      have e2 : icells (l'.take k ++ ((0, x.2) : ItemD) :: l'.drop k) = icells (l'.take k) ++ itemCells ((0, x.2) : ItemD) ++ icells (l'.drop k) := by simp [icells]
      rw [e1, e2]
      exact ho)
    rcases Nat.eq_zero_or_pos k with hk0 | hkp
    · subst hk0
      go_wp2_with fail
      refine Text.wp_text [] (by kernel_rfl) (by kernel_rfl) (fun Q' hQ' => ?_)
      have HBd := Lib.hid HB.out.drew
      have HFIN := Lib.hid (HEND.out wr.drew HBd.out (Or.inl (by simp)))
      clear HB HEND
      generalize wr.drew = w3 at *
      go_wp2_with fail
      refine ⟨by rfl, ?_⟩
      obtain ⟨k, hkz⟩ : ∃ k : Nat, k = 0 := ⟨0, rfl⟩
      have HKL : Hid (k ≤ l'.length) := Lib.hid (by omega)
      rw [← hkz] at HFIN
      rw [show (0 : Int) = ((k : Nat) : Int) by rw [hkz]; rfl]
      clear hkz
      have HG5 := Lib.hid (show ∀ j u, (itemCells x)[j]? = some u → w3.cell? ⟨w.heap.size, 0 + j, none⟩ = some u from fun j u hu => (HBd.out.cell (p := ⟨w.heap.size, 0 + j, none⟩) HS2.out).trans (HG2.out j u hu))
      go_wp2_with (refine stop_at (some 31) rfl ?_)
      have hb5 : Below w3.heap.size w3 (w3.alloc (.cells #[] 79)) := (Below.refl _ _).alloc (Nat.le_refl _) _
      have hown5 : (w3.alloc (.cells #[] 79)).ownsRow w2.heap.size 79 67 (.slice (some ⟨w3.heap.size, 0, none⟩) 0 0) 0 [] := own_lit 67 HBd.out.size
      have HB5 := Lib.hid (HBd.out.trans (hb5.mono HBd.out.size))
      have HO5 := Lib.hid hown5
      have HG6 := Lib.hid (show ∀ j u, (itemCells x)[j]? = some u → (w3.alloc (.cells #[] 79)).cell? ⟨w.heap.size, 0 + j, none⟩ = some u from fun j u hu => (hb5.cell (p := ⟨w.heap.size, 0 + j, none⟩) (Nat.lt_of_lt_of_le HS2.out HBd.out.size)).trans (HG5.out j u hu))
      have hkl := HKL.out
      clear hb5 hown5 HG5
      refine Stop.go (wpList_val rfl (exec_slice_to (s := 67) (fun _ => by kernel_rfl) Tryz.underlying27 rfl rfl rfl (by omega)) ?_)
      generalize w3.alloc (.cells #[] 79) = w5 at *
      generalize w3.heap.size = q5 at *
      have hbw5 := HB5.out.size
      refine wpList_app item_app rfl rfl rfl rfl HO5.out (B := w2.heap.size) (news := icells (l'.take k)) (m := k) (by
        have hr := ((Rd.of_own HO2.out).below (HB5.out)).cutS (c := c2) (k := 0) (s := 67) (by rw [icells_len]; exact Nat.mul_le_mul_right _ hc2)
        rw [Nat.zero_mul, List.drop_zero] at hr
        rw [icells_take]
        exact hr.take_ _) (by rw [icells_len, List.length_take, Nat.min_eq_left hkl]) (by
        intro u hu
        simp only [icells, List.mem_flatMap] at hu
        obtain ⟨a, _, hu⟩ := hu
        exact itemCells_one _ u hu) ?_ ?_ ?_ ?_
      · simp only [maxLen]; omega
      · omega
      · exact hbw5
      intro v6 w6 hown6 hg6 _ _
      rw [Nat.zero_add, List.nil_append] at hown6
      obtain ⟨A6, c6, rfl, _, _⟩ := own_form hown6
      have HB6 := Lib.hid (grown_below HB5.out hg6 HO5.out (Nat.le_refl _) hbw5)
      have HO6 := Lib.hid hown6
      have HG7 := Lib.hid (show ∀ j u, (itemCells x)[j]? = some u → w6.cell? ⟨w.heap.size, 0 + j, none⟩ = some u from fun j u hu => (World.cell?_of_block (w := w5) (w' := w6) (a := ⟨w.heap.size, 0 + j, none⟩) (hg6.block w.heap.size (Nat.lt_of_lt_of_le HS2.out hbw5) (fun e => by have := (HO5.out.lt _ e.symm).1; have := HS2.out; omega))).trans (HG6.out j u hu))
      clear hown6 hg6 HO5 HG6 HB5 hbw5
      generalize hac : Act.put _ _ _ = a9
      simp [Act.put] at hac
      subst hac
      go_wp2_with (refine stop_at (some 35) rfl ?_)
      refine Stop.go (wpList_load_agg rfl 34 rfl rfl keyTy.ut rfl (cs := encK x.2.1) (key_size _ _ x.2.1.2) (item_key HG7.out) ?_)
      generalize hac : Act.put _ _ _ = a9
      simp [Act.put] at hac
      subst hac
      refine wpList_seg 1 _ _ _ (fun Q2 hQ2 => ?_)
      simp only [List.take_succ_cons, List.take_zero]
      go_wp2_with fail
      try simp only [List.drop_succ_cons, List.drop_zero]
      refine Stop.go (wpList_load_agg rfl 32 rfl rfl hashTy.ua rfl (cs := bcells x.2.2.1.1) (hash_size _ x.2.2.2) (key_hash (item_hash HG7.out)) ?_)
      generalize hac : Act.put _ _ _ = a9
      simp [Act.put] at hac
      subst hac
      have hnum : w6.cell? ⟨w.heap.size, 66, none⟩ = some (.int .i64 x.2.2.1.2) := key_num (item_hash HG7.out)
      refine wpList_seg 2 _ _ _ (fun Q3 hQ3 => ?_)
      simp only [List.take_succ_cons, List.take_zero]
      go_wp2_with fail
      try simp only [List.drop_succ_cons, List.drop_zero]
      clear hnum
      refine Stop.go (wpList_build rfl 79 rfl (vs := #[(1, kv x.2.1), (2, hashv x.2.2.1.1), (3, .int .i64 x.2.2.1.2)]) (by rfl) (build_item3 x.2.1 x.2.2 _) ?_)
      refine wpList_build_one rfl 27 79 rfl rfl (vs := itemCells ((0, x.2) : ItemD)) Tryz.underlying27 (item_info _) rfl (by rw [itemCells_len]; omega) (by rw [itemCells_len]; decide) ?_
      have hb8 : Below w6.heap.size w6 (w6.alloc (.cells (itemCells ((0, x.2) : ItemD)).toArray 79)) := (Below.refl _ _).alloc (Nat.le_refl _) _
      have HO8 := Lib.hid (own_below HO6.out hb8)
      have HB8 := Lib.hid (HB6.out.trans (hb8.mono HB6.out.size))
      have HG8 := Lib.hid (Go.heap_alloc_new w6 (.cells (itemCells ((0, x.2) : ItemD)).toArray 79))
      have HS8 := Lib.hid (World.size_alloc w6 (.cells (itemCells ((0, x.2) : ItemD)).toArray 79))
      clear hb8 HO6 HB6
      generalize w6.alloc (.cells (itemCells ((0, x.2) : ItemD)).toArray 79) = w8 at *
      have hbw8 := HB8.out.size
      refine wpList_app item_app rfl rfl rfl rfl HO8.out (Rd.row (B := w8.heap.size) HG8.out (by rw [HS8.out]; omega)) (m := 1) (by rw [show (itemCells ((0, x.2) : ItemD)).toArray.toList = itemCells ((0, x.2) : ItemD) from rfl, itemCells_len]) (by intro u hu; exact itemCells_one _ u hu) ?_ ?_ ?_ ?_
      · simp only [maxLen]; omega
      · omega
      · exact hbw8
      intro v9 w9 hown9 hg9 _ _
      obtain ⟨A9, c9, rfl, _, _⟩ := own_form hown9
      have HB9 := Lib.hid (grown_below HB8.out hg9 HO8.out (Nat.le_refl _) hbw8)
      have HO9 := Lib.hid hown9
      clear hown9 hg9 HO8 HB8 hbw8 HG8 HS8
      generalize hac : Act.put _ _ _ = a9
      simp [Act.put] at hac
      subst hac
      go_wp2_with (refine stop_at (some 46) rfl ?_)
      refine Stop.go (wpList_val rfl (exec_slice_from (s := 67) (fun _ => by kernel_rfl) Tryz.underlying27 rfl rfl rfl (by omega)) ?_)
      have hbw9 := HB9.out.size
      refine wpList_app item_app rfl rfl rfl rfl HO9.out (B := w2.heap.size) (news := icells (l'.drop k)) (m := l'.length - k) (by
        have hr := ((Rd.of_own HO2.out).below (HB9.out)).cutS (c := c2) (k := k) (s := 67) (by rw [icells_len]; exact Nat.mul_le_mul_right _ hc2)
        rw [icells_drop]
        exact hr) (by rw [icells_len, List.length_drop]) (by
        intro u hu
        simp only [icells, List.mem_flatMap] at hu
        obtain ⟨a, _, hu⟩ := hu
        exact itemCells_one _ u hu) ?_ ?_ ?_ ?_
      · simp only [maxLen]; omega
      · omega
      · exact hbw9
      intro v10 w10 hown10 hg10 _ _
      obtain ⟨A10, c10, rfl, _, _⟩ := own_form hown10
      have HB10 := Lib.hid (HB2.out.trans ((grown_below HB9.out hg10 HO9.out (Nat.le_refl _) hbw9).mono HB2.out.size))
      have HP := Lib.hid (HFIN.out _ w10 (by
        have e : k + 1 + (l'.length - k) = l'.length + 1 := by omega
        have := own_more hown10 HB2.out.size
        rw [e] at this
        exact this) HB10.out)
      clear hown10 hg10
      generalize hac : Act.put _ _ _ = a9
      simp [Act.put] at hac
      subst hac
      go_wp2_with fail
      go_ret
      have e : k + 1 + (l'.length - k) = l'.length + 1 := by omega
      rw [e]
      have hp := HP.out
      simp only [ne_eq, decide_not] at hp ⊢
      exact hp
    · go_wp2_with fail
      refine Text.wp_text [] (by kernel_rfl) (by kernel_rfl) (fun Q' hQ' => ?_)
      have HBd := Lib.hid HB.out.drew
      have hcast : (k : Int) - 1 = ((k - 1 : Nat) : Int) := by omega
      have hk1 : k - 1 < l'.length := by omega
      obtain ⟨q, off, cs, rfl, _, hqB, hrep, hcell⟩ := (sl_of_own (E := eItem) (enc := itemCells) (fun _ _ => rfl) HO2.out).get hk1 (by decide)
      obtain ⟨y, hy⟩ : ∃ y, y = l'[k - 1] := ⟨_, rfl⟩
      rw [← hy] at hrep
      have hrep : cs = itemCells y := hrep
      subst hrep
      have HC := Lib.hid (show ∀ j u, (itemCells y)[j]? = some u → wr.drew.cell? ⟨q, off + (k - 1) * 67 + j, none⟩ = some u from fun j u hu => by
        have := hcell j u hu
        rw [← Nat.add_assoc] at this
        exact (HBd.out.cell (p := ⟨q, off + (k - 1) * 67 + j, none⟩) hqB).trans this)
      have HYE := Lib.hid (show l'[k - 1]? = some y by rw [hy]; exact List.getElem?_eq_getElem hk1)
      have HG3 := Lib.hid (show ∀ j u, (itemCells x)[j]? = some u → wr.drew.cell? ⟨w.heap.size, 0 + j, none⟩ = some u from fun j u hu => (HBd.out.cell (p := ⟨w.heap.size, 0 + j, none⟩) HS2.out).trans (HG2.out j u hu))
      clear hcell hy hqB HB
      generalize wr.drew = w3 at *
      go_wp2_with (refine stop_at (some 17) rfl ?_)
      refine Stop.go (wpList_load_aggG rfl 34 rfl rfl keyTy.ut rfl (cs := encK x.2.1) (key_size _ _ (x.2.1).2) (item_key HG3.out) ?_)
      generalize hac : Act.put _ _ _ = a9
      simp [Act.put] at hac
      subst hac
      refine wpList_seg 5 _ _ _ (fun Q2 hQ2 => ?_)
      simp only [List.take_succ_cons, List.take_zero]
      go_wp2_with fail
      try simp only [List.drop_succ_cons, List.drop_zero]
      refine Stop.go (wpList_load_aggG rfl 34 rfl rfl keyTy.ut rfl (cs := encK y.2.1) (key_size _ _ (y.2.1).2) (item_key HC.out) ?_)
      generalize hac : Act.put _ _ _ = a9
      simp [Act.put] at hac
      subst hac
      go_wp2_with fail
      refine (less17_any x.2.1 y.2.1 w3).mono ?_
      rintro e w4 ⟨rfl, hb4⟩
      have HB4 := Lib.hid (HBd.out.trans (hb4.mono HBd.out.size))
      clear hb4
      obtain ⟨z, hz⟩ : ∃ z, z = kless x.2.1 y.2.1 := ⟨_, rfl⟩
      rw [← hz]
      have HZ := Lib.hid hz
      clear hz
      go_wp2_with fail
      refine ⟨by rfl, ?_⟩
      cases z
      · have HFIN := Lib.hid (HEND.out w4 HB4.out (Or.inr ⟨y, HYE.out, HZ.out.symm⟩))
        have HBd := HB4
        have HKL : Hid (k ≤ l'.length) := Lib.hid hk
        clear HEND HC HYE HG3 HB4 HZ
        generalize w4 = w3 at *
        have HG5 := Lib.hid (show ∀ j u, (itemCells x)[j]? = some u → w3.cell? ⟨w.heap.size, 0 + j, none⟩ = some u from fun j u hu => (HBd.out.cell (p := ⟨w.heap.size, 0 + j, none⟩) HS2.out).trans (HG2.out j u hu))
        go_wp2_with (refine stop_at (some 31) rfl ?_)
        have hb5 : Below w3.heap.size w3 (w3.alloc (.cells #[] 79)) := (Below.refl _ _).alloc (Nat.le_refl _) _
        have hown5 : (w3.alloc (.cells #[] 79)).ownsRow w2.heap.size 79 67 (.slice (some ⟨w3.heap.size, 0, none⟩) 0 0) 0 [] := own_lit 67 HBd.out.size
        have HB5 := Lib.hid (HBd.out.trans (hb5.mono HBd.out.size))
        have HO5 := Lib.hid hown5
        have HG6 := Lib.hid (show ∀ j u, (itemCells x)[j]? = some u → (w3.alloc (.cells #[] 79)).cell? ⟨w.heap.size, 0 + j, none⟩ = some u from fun j u hu => (hb5.cell (p := ⟨w.heap.size, 0 + j, none⟩) (Nat.lt_of_lt_of_le HS2.out HBd.out.size)).trans (HG5.out j u hu))
        have hkl := HKL.out
        clear hb5 hown5 HG5
        refine Stop.go (wpList_val rfl (exec_slice_to (s := 67) (fun _ => by kernel_rfl) Tryz.underlying27 rfl rfl rfl (by omega)) ?_)
        generalize w3.alloc (.cells #[] 79) = w5 at *
        generalize w3.heap.size = q5 at *
        have hbw5 := HB5.out.size
        refine wpList_app item_app rfl rfl rfl rfl HO5.out (B := w2.heap.size) (news := icells (l'.take k)) (m := k) (by
          have hr := ((Rd.of_own HO2.out).below (HB5.out)).cutS (c := c2) (k := 0) (s := 67) (by rw [icells_len]; exact Nat.mul_le_mul_right _ hc2)
          rw [Nat.zero_mul, List.drop_zero] at hr
          rw [icells_take]
          exact hr.take_ _) (by rw [icells_len, List.length_take, Nat.min_eq_left hkl]) (by
          intro u hu
          simp only [icells, List.mem_flatMap] at hu
          obtain ⟨a, _, hu⟩ := hu
          exact itemCells_one _ u hu) ?_ ?_ ?_ ?_
        · simp only [maxLen]; omega
        · omega
        · exact hbw5
        intro v6 w6 hown6 hg6 _ _
        rw [Nat.zero_add, List.nil_append] at hown6
        obtain ⟨A6, c6, rfl, _, _⟩ := own_form hown6
        have HB6 := Lib.hid (grown_below HB5.out hg6 HO5.out (Nat.le_refl _) hbw5)
        have HO6 := Lib.hid hown6
        have HG7 := Lib.hid (show ∀ j u, (itemCells x)[j]? = some u → w6.cell? ⟨w.heap.size, 0 + j, none⟩ = some u from fun j u hu => (World.cell?_of_block (w := w5) (w' := w6) (a := ⟨w.heap.size, 0 + j, none⟩) (hg6.block w.heap.size (Nat.lt_of_lt_of_le HS2.out hbw5) (fun e => by have := (HO5.out.lt _ e.symm).1; have := HS2.out; omega))).trans (HG6.out j u hu))
        clear hown6 hg6 HO5 HG6 HB5 hbw5
        generalize hac : Act.put _ _ _ = a9
        simp [Act.put] at hac
        subst hac
        go_wp2_with (refine stop_at (some 35) rfl ?_)
        refine Stop.go (wpList_load_agg rfl 34 rfl rfl keyTy.ut rfl (cs := encK x.2.1) (key_size _ _ x.2.1.2) (item_key HG7.out) ?_)
        generalize hac : Act.put _ _ _ = a9
        simp [Act.put] at hac
        subst hac
        refine wpList_seg 1 _ _ _ (fun Q2 hQ2 => ?_)
        simp only [List.take_succ_cons, List.take_zero]
        go_wp2_with fail
        try simp only [List.drop_succ_cons, List.drop_zero]
        refine Stop.go (wpList_load_agg rfl 32 rfl rfl hashTy.ua rfl (cs := bcells x.2.2.1.1) (hash_size _ x.2.2.2) (key_hash (item_hash HG7.out)) ?_)
        generalize hac : Act.put _ _ _ = a9
        simp [Act.put] at hac
        subst hac
        have hnum : w6.cell? ⟨w.heap.size, 66, none⟩ = some (.int .i64 x.2.2.1.2) := key_num (item_hash HG7.out)
        refine wpList_seg 2 _ _ _ (fun Q3 hQ3 => ?_)
        simp only [List.take_succ_cons, List.take_zero]
        go_wp2_with fail
        try simp only [List.drop_succ_cons, List.drop_zero]
        clear hnum
        refine Stop.go (wpList_build rfl 79 rfl (vs := #[(1, kv x.2.1), (2, hashv x.2.2.1.1), (3, .int .i64 x.2.2.1.2)]) (by rfl) (build_item3 x.2.1 x.2.2 _) ?_)
        refine wpList_build_one rfl 27 79 rfl rfl (vs := itemCells ((0, x.2) : ItemD)) Tryz.underlying27 (item_info _) rfl (by rw [itemCells_len]; omega) (by rw [itemCells_len]; decide) ?_
        have hb8 : Below w6.heap.size w6 (w6.alloc (.cells (itemCells ((0, x.2) : ItemD)).toArray 79)) := (Below.refl _ _).alloc (Nat.le_refl _) _
        have HO8 := Lib.hid (own_below HO6.out hb8)
        have HB8 := Lib.hid (HB6.out.trans (hb8.mono HB6.out.size))
        have HG8 := Lib.hid (Go.heap_alloc_new w6 (.cells (itemCells ((0, x.2) : ItemD)).toArray 79))
        have HS8 := Lib.hid (World.size_alloc w6 (.cells (itemCells ((0, x.2) : ItemD)).toArray 79))
        clear hb8 HO6 HB6
        generalize w6.alloc (.cells (itemCells ((0, x.2) : ItemD)).toArray 79) = w8 at *
        have hbw8 := HB8.out.size
        refine wpList_app item_app rfl rfl rfl rfl HO8.out (Rd.row (B := w8.heap.size) HG8.out (by rw [HS8.out]; omega)) (m := 1) (by rw [show (itemCells ((0, x.2) : ItemD)).toArray.toList = itemCells ((0, x.2) : ItemD) from rfl, itemCells_len]) (by intro u hu; exact itemCells_one _ u hu) ?_ ?_ ?_ ?_
        · simp only [maxLen]; omega
        · omega
        · exact hbw8
        intro v9 w9 hown9 hg9 _ _
        obtain ⟨A9, c9, rfl, _, _⟩ := own_form hown9
        have HB9 := Lib.hid (grown_below HB8.out hg9 HO8.out (Nat.le_refl _) hbw8)
        have HO9 := Lib.hid hown9
        clear hown9 hg9 HO8 HB8 hbw8 HG8 HS8
        generalize hac : Act.put _ _ _ = a9
        simp [Act.put] at hac
        subst hac
        go_wp2_with (refine stop_at (some 46) rfl ?_)
        refine Stop.go (wpList_val rfl (exec_slice_from (s := 67) (fun _ => by kernel_rfl) Tryz.underlying27 rfl rfl rfl (by omega)) ?_)
        have hbw9 := HB9.out.size
        refine wpList_app item_app rfl rfl rfl rfl HO9.out (B := w2.heap.size) (news := icells (l'.drop k)) (m := l'.length - k) (by
          have hr := ((Rd.of_own HO2.out).below (HB9.out)).cutS (c := c2) (k := k) (s := 67) (by rw [icells_len]; exact Nat.mul_le_mul_right _ hc2)
          rw [icells_drop]
          exact hr) (by rw [icells_len, List.length_drop]) (by
          intro u hu
          simp only [icells, List.mem_flatMap] at hu
          obtain ⟨a, _, hu⟩ := hu
          exact itemCells_one _ u hu) ?_ ?_ ?_ ?_
        · simp only [maxLen]; omega
        · omega
        · exact hbw9
        intro v10 w10 hown10 hg10 _ _
        obtain ⟨A10, c10, rfl, _, _⟩ := own_form hown10
        have HB10 := Lib.hid (HB2.out.trans ((grown_below HB9.out hg10 HO9.out (Nat.le_refl _) hbw9).mono HB2.out.size))
        have HP := Lib.hid (HFIN.out _ w10 (by
          have e : k + 1 + (l'.length - k) = l'.length + 1 := by omega
          have := own_more hown10 HB2.out.size
          rw [e] at this
          exact this) HB10.out)
        clear hown10 hg10
        generalize hac : Act.put _ _ _ = a9
        simp [Act.put] at hac
        subst hac
        go_wp2_with fail
        go_ret
        have e : k + 1 + (l'.length - k) = l'.length + 1 := by omega
        rw [e]
        have hp := HP.out
        simp only [ne_eq, decide_not] at hp ⊢
        exact hp
      · go_wp2_with fail
        go_roundw
        case rel =>
          refine ⟨k - 1, by omega, by go_num, ?_, HB4.out⟩
          refine fun i u hi hu => ?_
          by_cases hik : i = k - 1
          · subst hik
            rw [HYE.out] at hu
            injection hu with hu
            rw [← hu]
            exact HZ.out.symm
          · exact HF.out i u (by omega) hu
        case measure => simp [intOf]; omega

def pinTo (l : List K32) (w : World) (e : Ending) (w' : World) : Prop := ∃ v, e = .returned v ∧ w'.ownsRow w.heap.size 34 33 v l.length (kcells l) ∧ Below w.heap.size w w'
set_option maxRecDepth 100000 in
set_option maxHeartbeats 8000000 in
theorem pin_any (l : List K32) (x : K32) (A : Option Addr) (n c B : Nat) (w : World) (h : SlR eK w B (.slice A n c) l) (hB : B ≤ w.heap.size) (hl : l.length ≤ 100000) :
    Calls Tryz.prog 32 #[.slice A n c, kv x] w (pinTo (ins (fun y => kless x y) x (l.filter fun y => decide (y ≠ x))) w) := by
  have HS := Lib.hid h
  have HBW := Lib.hid hB
  have HLL := Lib.hid hl
  clear h hB hl
  go_enter Tryz.func32, Tryz.ntmps32
  go_wp2_with (refine stop_at (some 3) rfl ?_)
  refine Stop.go (wpList_box rfl 34 rfl rfl (vs := encK x) rfl ?_)
  have HG1 := Lib.hid (row_cells (vs := encK x) (Go.heap_alloc_new w (.cells (encK x).toArray 34)))
  have HB1 := Lib.hid ((Below.refl _ _).alloc (Nat.le_refl _) (.cells (encK x).toArray 34) : Below w.heap.size w _)
  have HS1 := Lib.hid (World.size_alloc w (.cells (encK x).toArray 34))
  have HSL1 := Lib.hid (HS.out.below (HB1.out.mono HBW.out))
  generalize w.alloc (.cells (encK x).toArray 34) = w1 at *
  generalize hac : Act.put _ _ _ = a9
  simp [Act.put] at hac
  subst hac
  go_wp2_with (refine stop_at (some 8) rfl ?_)
  refine Stop.go (wpList_load_agg rfl 34 rfl rfl keyTy.ut rfl (cs := encK x) (key_size _ _ (x).2) HG1.out ?_)
  generalize hac : Act.put _ _ _ = a9
  simp [Act.put] at hac
  subst hac
  go_wp2_with fail
  refine (unpin_any l x A n c B w1 HSL1.out (by rw [HS1.out]; have := HBW.out; omega) (by have := HLL.out; omega)).mono ?_
  rintro e w2 ⟨v2, rfl, ho2, hb2⟩
  obtain ⟨l', hl'⟩ : ∃ l', l' = l.filter fun y => decide (y ≠ x) := ⟨_, rfl⟩
  rw [← hl'] at ho2
  have HLE := Lib.hid (show l'.length ≤ 100000 by rw [hl']; exact Nat.le_trans (List.length_filter_le _ _) HLL.out)
  have HLD := Lib.hid hl'
  obtain ⟨A2, c2, rfl, hc2, hcm⟩ := own_form ho2
  have hle := HLE.out
  have HO2 := Lib.hid ho2
  have HG2 := Lib.hid (show ∀ j u, (encK x)[j]? = some u → w2.cell? ⟨w.heap.size, 0 + j, none⟩ = some u from fun j u hu => (hb2.cell (p := ⟨w.heap.size, 0 + j, none⟩) (by rw [HS1.out]; show w.heap.size < _; omega)).trans (HG1.out j u hu))
  have HB2 := Lib.hid (HB1.out.trans (hb2.mono HB1.out.size))
  have HS2 := Lib.hid (show w.heap.size < w2.heap.size from Nat.lt_of_lt_of_le (by rw [HS1.out]; omega) hb2.size)
  clear ho2 hb2 hl' HG1 HB1 HS1 HSL1
  go_wp2_with fail
  go_loopw [5] (fun v5 wr => ∃ k : Nat, k ≤ l'.length ∧ v5 = .int .i64 k ∧ Hid (∀ i y, k ≤ i → l'[i]? = some y → kless x y = true) ∧ Hid (Below w2.heap.size w2 wr)) (fun v5 _ => (intOf v5).toNat)
  case atStart => exact ⟨l'.length, Nat.le_refl _, rfl, (fun i y hi hy => by rw [List.getElem?_eq_none hi] at hy; cases hy), Below.refl _ _⟩
  case round =>
    obtain ⟨k, hk, rfl, HF, HB⟩ := hrel
    have HEND : Hid (∀ wz : World, Below w2.heap.size w2 wz → (k = 0 ∨ ∃ y, l'[k - 1]? = some y ∧ kless x y = false) → ∀ v w', w'.ownsRow w.heap.size 34 33 v (l'.length + 1) (kcells (l'.take k) ++ encK x ++ kcells (l'.drop k)) → Below w.heap.size w w' →
        pinTo (ins (fun y => kless x y) x (l.filter fun y => decide (y ≠ x))) w (.returned v) w') := Lib.hid (fun wz _ hend v w' ho hb => by
      have hins := ins_at (fun y => kless x y) x l' k hk HF.out hend
      rw [← HLD.out, hins]
      refine ⟨v, rfl, ?_, hb⟩
      have e1 : (l'.take k ++ x :: l'.drop k).length = l'.length + 1 := by simp; omega
      have e2 : kcells (l'.take k ++ x :: l'.drop k) = kcells (l'.take k) ++ encK x ++ kcells (l'.drop k) := by simp [kcells]
      rw [e1, e2]
      exact ho)
    rcases Nat.eq_zero_or_pos k with hk0 | hkp
    · subst hk0
      go_wp2_with fail
      refine Text.wp_text [] (by kernel_rfl) (by kernel_rfl) (fun Q' hQ' => ?_)
      have HBd := Lib.hid HB.out.drew
      have HFIN := Lib.hid (HEND.out wr.drew HBd.out (Or.inl (by simp)))
      clear HB HEND
      generalize wr.drew = w3 at *
      go_wp2_with fail
      refine ⟨by rfl, ?_⟩
      obtain ⟨k, hkz⟩ : ∃ k : Nat, k = 0 := ⟨0, rfl⟩
      have HKL : Hid (k ≤ l'.length) := Lib.hid (by omega)
      rw [← hkz] at HFIN
      rw [show (0 : Int) = ((k : Nat) : Int) by rw [hkz]; rfl]
      clear hkz
      have HG5 := Lib.hid (show ∀ j u, (encK x)[j]? = some u → w3.cell? ⟨w.heap.size, 0 + j, none⟩ = some u from fun j u hu => (HBd.out.cell (p := ⟨w.heap.size, 0 + j, none⟩) HS2.out).trans (HG2.out j u hu))
      go_wp2_with (refine stop_at (some 28) rfl ?_)
      have hb5 : Below w3.heap.size w3 (w3.alloc (.cells #[] 34)) := (Below.refl _ _).alloc (Nat.le_refl _) _
      have hown5 : (w3.alloc (.cells #[] 34)).ownsRow w2.heap.size 34 33 (.slice (some ⟨w3.heap.size, 0, none⟩) 0 0) 0 [] := own_lit 33 HBd.out.size
      have HB5 := Lib.hid (HBd.out.trans (hb5.mono HBd.out.size))
      have HO5 := Lib.hid hown5
      have HG6 := Lib.hid (show ∀ j u, (encK x)[j]? = some u → (w3.alloc (.cells #[] 34)).cell? ⟨w.heap.size, 0 + j, none⟩ = some u from fun j u hu => (hb5.cell (p := ⟨w.heap.size, 0 + j, none⟩) (Nat.lt_of_lt_of_le HS2.out HBd.out.size)).trans (HG5.out j u hu))
      have hkl := HKL.out
      clear hb5 hown5 HG5
      refine Stop.go (wpList_val rfl (exec_slice_to (s := 33) (fun _ => by kernel_rfl) Tryz.underlying28 rfl rfl rfl (by omega)) ?_)
      generalize w3.alloc (.cells #[] 34) = w5 at *
      generalize w3.heap.size = q5 at *
      have hbw5 := HB5.out.size
      refine wpList_app key_app rfl rfl rfl rfl HO5.out (B := w2.heap.size) (news := kcells (l'.take k)) (m := k) (by
        have hr := ((Rd.of_own HO2.out).below (HB5.out)).cutS (c := c2) (k := 0) (s := 33) (by rw [kcells_len]; exact Nat.mul_le_mul_right _ hc2)
        rw [Nat.zero_mul, List.drop_zero] at hr
        rw [kcells_take]
        exact hr.take_ _) (by rw [kcells_len, List.length_take, Nat.min_eq_left hkl]) (by
        intro u hu
        simp only [kcells, List.mem_flatMap] at hu
        obtain ⟨a, _, hu⟩ := hu
        exact hkCells_one _ _ u hu) ?_ ?_ ?_ ?_
      · simp only [maxLen]; omega
      · omega
      · exact hbw5
      intro v6 w6 hown6 hg6 _ _
      rw [Nat.zero_add, List.nil_append] at hown6
      obtain ⟨A6, c6, rfl, _, _⟩ := own_form hown6
      have HB6 := Lib.hid (grown_below HB5.out hg6 HO5.out (Nat.le_refl _) hbw5)
      have HO6 := Lib.hid hown6
      have HG7 := Lib.hid (show ∀ j u, (encK x)[j]? = some u → w6.cell? ⟨w.heap.size, 0 + j, none⟩ = some u from fun j u hu => (World.cell?_of_block (w := w5) (w' := w6) (a := ⟨w.heap.size, 0 + j, none⟩) (hg6.block w.heap.size (Nat.lt_of_lt_of_le HS2.out hbw5) (fun e => by have := (HO5.out.lt _ e.symm).1; have := HS2.out; omega))).trans (HG6.out j u hu))
      clear hown6 hg6 HO5 HG6 HB5 hbw5
      generalize hac : Act.put _ _ _ = a9
      simp [Act.put] at hac
      subst hac
      go_wp2_with (refine stop_at (some 31) rfl ?_)
      refine Stop.go (wpList_load_agg rfl 34 rfl rfl keyTy.ut rfl (cs := encK x) (key_size _ _ x.2) HG7.out ?_)
      refine wpList_build_one rfl 28 34 rfl rfl (vs := encK x) Tryz.underlying28 (z := hkv z32 0) (key_infoB _ _ x.2) rfl (by rw [encK_len]; omega) (by rw [encK_len]; decide) ?_
      have hb8 : Below w6.heap.size w6 (w6.alloc (.cells (encK x).toArray 34)) := (Below.refl _ _).alloc (Nat.le_refl _) _
      have HO8 := Lib.hid (own_below HO6.out hb8)
      have HB8 := Lib.hid (HB6.out.trans (hb8.mono HB6.out.size))
      have HG8 := Lib.hid (Go.heap_alloc_new w6 (.cells (encK x).toArray 34))
      have HS8 := Lib.hid (World.size_alloc w6 (.cells (encK x).toArray 34))
      clear hb8 HO6 HB6
      generalize w6.alloc (.cells (encK x).toArray 34) = w8 at *
      have hbw8 := HB8.out.size
      refine wpList_app key_app rfl rfl rfl rfl HO8.out (Rd.row (B := w8.heap.size) HG8.out (by rw [HS8.out]; omega)) (m := 1) (by rw [show (encK x).toArray.toList = encK x from rfl, encK_len]) (by intro u hu; exact hkCells_one _ _ u hu) ?_ ?_ ?_ ?_
      · simp only [maxLen]; omega
      · omega
      · exact hbw8
      intro v9 w9 hown9 hg9 _ _
      obtain ⟨A9, c9, rfl, _, _⟩ := own_form hown9
      have HB9 := Lib.hid (grown_below HB8.out hg9 HO8.out (Nat.le_refl _) hbw8)
      have HO9 := Lib.hid hown9
      clear hown9 hg9 HO8 HB8 hbw8 HG8 HS8
      generalize hac : Act.put _ _ _ = a9
      simp [Act.put] at hac
      subst hac
      go_wp2_with (refine stop_at (some 37) rfl ?_)
      refine Stop.go (wpList_val rfl (exec_slice_from (s := 33) (fun _ => by kernel_rfl) Tryz.underlying28 rfl rfl rfl (by omega)) ?_)
      have hbw9 := HB9.out.size
      refine wpList_app key_app rfl rfl rfl rfl HO9.out (B := w2.heap.size) (news := kcells (l'.drop k)) (m := l'.length - k) (by
        have hr := ((Rd.of_own HO2.out).below (HB9.out)).cutS (c := c2) (k := k) (s := 33) (by rw [kcells_len]; exact Nat.mul_le_mul_right _ hc2)
        rw [kcells_drop]
        exact hr) (by rw [kcells_len, List.length_drop]) (by
        intro u hu
        simp only [kcells, List.mem_flatMap] at hu
        obtain ⟨a, _, hu⟩ := hu
        exact hkCells_one _ _ u hu) ?_ ?_ ?_ ?_
      · simp only [maxLen]; omega
      · omega
      · exact hbw9
      intro v10 w10 hown10 hg10 _ _
      obtain ⟨A10, c10, rfl, _, _⟩ := own_form hown10
      have HB10 := Lib.hid (HB2.out.trans ((grown_below HB9.out hg10 HO9.out (Nat.le_refl _) hbw9).mono HB2.out.size))
      have HP := Lib.hid (HFIN.out _ w10 (by
        have e : k + 1 + (l'.length - k) = l'.length + 1 := by omega
        have := own_more hown10 HB2.out.size
        rw [e] at this
        exact this) HB10.out)
      clear hown10 hg10
      generalize hac : Act.put _ _ _ = a9
      simp [Act.put] at hac
      subst hac
      go_wp2_with fail
      go_ret
      have e : k + 1 + (l'.length - k) = l'.length + 1 := by omega
      rw [e]
      have hp := HP.out
      simp only [ne_eq, decide_not] at hp ⊢
      exact hp
    · go_wp2_with fail
      refine Text.wp_text [] (by kernel_rfl) (by kernel_rfl) (fun Q' hQ' => ?_)
      have HBd := Lib.hid HB.out.drew
      have hcast : (k : Int) - 1 = ((k - 1 : Nat) : Int) := by omega
      have hk1 : k - 1 < l'.length := by omega
      obtain ⟨q, off, cs, rfl, _, hqB, hrep, hcell⟩ := (sl_of_own (E := eK) (enc := encK) (fun _ _ => rfl) HO2.out).get hk1 (by decide)
      obtain ⟨y, hy⟩ : ∃ y, y = l'[k - 1] := ⟨_, rfl⟩
      rw [← hy] at hrep
      have hrep : cs = encK y := hrep
      subst hrep
      have HC := Lib.hid (show ∀ j u, (encK y)[j]? = some u → wr.drew.cell? ⟨q, off + (k - 1) * 33 + j, none⟩ = some u from fun j u hu => by
        have := hcell j u hu
        rw [← Nat.add_assoc] at this
        exact (HBd.out.cell (p := ⟨q, off + (k - 1) * 33 + j, none⟩) hqB).trans this)
      have HYE := Lib.hid (show l'[k - 1]? = some y by rw [hy]; exact List.getElem?_eq_getElem hk1)
      have HG3 := Lib.hid (show ∀ j u, (encK x)[j]? = some u → wr.drew.cell? ⟨w.heap.size, 0 + j, none⟩ = some u from fun j u hu => (HBd.out.cell (p := ⟨w.heap.size, 0 + j, none⟩) HS2.out).trans (HG2.out j u hu))
      clear hcell hy hqB HB
      generalize wr.drew = w3 at *
      go_wp2_with (refine stop_at (some 15) rfl ?_)
      refine Stop.go (wpList_load_aggG rfl 34 rfl rfl keyTy.ut rfl (cs := encK x) (key_size _ _ (x).2) HG3.out ?_)
      generalize hac : Act.put _ _ _ = a9
      simp [Act.put] at hac
      subst hac
      refine wpList_seg 4 _ _ _ (fun Q2 hQ2 => ?_)
      simp only [List.take_succ_cons, List.take_zero]
      go_wp2_with fail
      try simp only [List.drop_succ_cons, List.drop_zero]
      refine Stop.go (wpList_load_aggG rfl 34 rfl rfl keyTy.ut rfl (cs := encK y) (key_size _ _ (y).2) HC.out ?_)
      generalize hac : Act.put _ _ _ = a9
      simp [Act.put] at hac
      subst hac
      go_wp2_with fail
      refine (less17_any x y w3).mono ?_
      rintro e w4 ⟨rfl, hb4⟩
      have HB4 := Lib.hid (HBd.out.trans (hb4.mono HBd.out.size))
      clear hb4
      obtain ⟨z, hz⟩ : ∃ z, z = kless x y := ⟨_, rfl⟩
      rw [← hz]
      have HZ := Lib.hid hz
      clear hz
      go_wp2_with fail
      refine ⟨by rfl, ?_⟩
      cases z
      · have HFIN := Lib.hid (HEND.out w4 HB4.out (Or.inr ⟨y, HYE.out, HZ.out.symm⟩))
        have HBd := HB4
        have HKL : Hid (k ≤ l'.length) := Lib.hid hk
        clear HEND HC HYE HG3 HB4 HZ
        generalize w4 = w3 at *
        have HG5 := Lib.hid (show ∀ j u, (encK x)[j]? = some u → w3.cell? ⟨w.heap.size, 0 + j, none⟩ = some u from fun j u hu => (HBd.out.cell (p := ⟨w.heap.size, 0 + j, none⟩) HS2.out).trans (HG2.out j u hu))
        go_wp2_with (refine stop_at (some 28) rfl ?_)
        have hb5 : Below w3.heap.size w3 (w3.alloc (.cells #[] 34)) := (Below.refl _ _).alloc (Nat.le_refl _) _
        have hown5 : (w3.alloc (.cells #[] 34)).ownsRow w2.heap.size 34 33 (.slice (some ⟨w3.heap.size, 0, none⟩) 0 0) 0 [] := own_lit 33 HBd.out.size
        have HB5 := Lib.hid (HBd.out.trans (hb5.mono HBd.out.size))
        have HO5 := Lib.hid hown5
        have HG6 := Lib.hid (show ∀ j u, (encK x)[j]? = some u → (w3.alloc (.cells #[] 34)).cell? ⟨w.heap.size, 0 + j, none⟩ = some u from fun j u hu => (hb5.cell (p := ⟨w.heap.size, 0 + j, none⟩) (Nat.lt_of_lt_of_le HS2.out HBd.out.size)).trans (HG5.out j u hu))
        have hkl := HKL.out
        clear hb5 hown5 HG5
        refine Stop.go (wpList_val rfl (exec_slice_to (s := 33) (fun _ => by kernel_rfl) Tryz.underlying28 rfl rfl rfl (by omega)) ?_)
        generalize w3.alloc (.cells #[] 34) = w5 at *
        generalize w3.heap.size = q5 at *
        have hbw5 := HB5.out.size
        refine wpList_app key_app rfl rfl rfl rfl HO5.out (B := w2.heap.size) (news := kcells (l'.take k)) (m := k) (by
          have hr := ((Rd.of_own HO2.out).below (HB5.out)).cutS (c := c2) (k := 0) (s := 33) (by rw [kcells_len]; exact Nat.mul_le_mul_right _ hc2)
          rw [Nat.zero_mul, List.drop_zero] at hr
          rw [kcells_take]
          exact hr.take_ _) (by rw [kcells_len, List.length_take, Nat.min_eq_left hkl]) (by
          intro u hu
          simp only [kcells, List.mem_flatMap] at hu
          obtain ⟨a, _, hu⟩ := hu
          exact hkCells_one _ _ u hu) ?_ ?_ ?_ ?_
        · simp only [maxLen]; omega
        · omega
        · exact hbw5
        intro v6 w6 hown6 hg6 _ _
        rw [Nat.zero_add, List.nil_append] at hown6
        obtain ⟨A6, c6, rfl, _, _⟩ := own_form hown6
        have HB6 := Lib.hid (grown_below HB5.out hg6 HO5.out (Nat.le_refl _) hbw5)
        have HO6 := Lib.hid hown6
        have HG7 := Lib.hid (show ∀ j u, (encK x)[j]? = some u → w6.cell? ⟨w.heap.size, 0 + j, none⟩ = some u from fun j u hu => (World.cell?_of_block (w := w5) (w' := w6) (a := ⟨w.heap.size, 0 + j, none⟩) (hg6.block w.heap.size (Nat.lt_of_lt_of_le HS2.out hbw5) (fun e => by have := (HO5.out.lt _ e.symm).1; have := HS2.out; omega))).trans (HG6.out j u hu))
        clear hown6 hg6 HO5 HG6 HB5 hbw5
        generalize hac : Act.put _ _ _ = a9
        simp [Act.put] at hac
        subst hac
        go_wp2_with (refine stop_at (some 31) rfl ?_)
        refine Stop.go (wpList_load_agg rfl 34 rfl rfl keyTy.ut rfl (cs := encK x) (key_size _ _ x.2) HG7.out ?_)
        refine wpList_build_one rfl 28 34 rfl rfl (vs := encK x) Tryz.underlying28 (z := hkv z32 0) (key_infoB _ _ x.2) rfl (by rw [encK_len]; omega) (by rw [encK_len]; decide) ?_
        have hb8 : Below w6.heap.size w6 (w6.alloc (.cells (encK x).toArray 34)) := (Below.refl _ _).alloc (Nat.le_refl _) _
        have HO8 := Lib.hid (own_below HO6.out hb8)
        have HB8 := Lib.hid (HB6.out.trans (hb8.mono HB6.out.size))
        have HG8 := Lib.hid (Go.heap_alloc_new w6 (.cells (encK x).toArray 34))
        have HS8 := Lib.hid (World.size_alloc w6 (.cells (encK x).toArray 34))
        clear hb8 HO6 HB6
        generalize w6.alloc (.cells (encK x).toArray 34) = w8 at *
        have hbw8 := HB8.out.size
        refine wpList_app key_app rfl rfl rfl rfl HO8.out (Rd.row (B := w8.heap.size) HG8.out (by rw [HS8.out]; omega)) (m := 1) (by rw [show (encK x).toArray.toList = encK x from rfl, encK_len]) (by intro u hu; exact hkCells_one _ _ u hu) ?_ ?_ ?_ ?_
        · simp only [maxLen]; omega
        · omega
        · exact hbw8
        intro v9 w9 hown9 hg9 _ _
        obtain ⟨A9, c9, rfl, _, _⟩ := own_form hown9
        have HB9 := Lib.hid (grown_below HB8.out hg9 HO8.out (Nat.le_refl _) hbw8)
        have HO9 := Lib.hid hown9
        clear hown9 hg9 HO8 HB8 hbw8 HG8 HS8
        generalize hac : Act.put _ _ _ = a9
        simp [Act.put] at hac
        subst hac
        go_wp2_with (refine stop_at (some 37) rfl ?_)
        refine Stop.go (wpList_val rfl (exec_slice_from (s := 33) (fun _ => by kernel_rfl) Tryz.underlying28 rfl rfl rfl (by omega)) ?_)
        have hbw9 := HB9.out.size
        refine wpList_app key_app rfl rfl rfl rfl HO9.out (B := w2.heap.size) (news := kcells (l'.drop k)) (m := l'.length - k) (by
          have hr := ((Rd.of_own HO2.out).below (HB9.out)).cutS (c := c2) (k := k) (s := 33) (by rw [kcells_len]; exact Nat.mul_le_mul_right _ hc2)
          rw [kcells_drop]
          exact hr) (by rw [kcells_len, List.length_drop]) (by
          intro u hu
          simp only [kcells, List.mem_flatMap] at hu
          obtain ⟨a, _, hu⟩ := hu
          exact hkCells_one _ _ u hu) ?_ ?_ ?_ ?_
        · simp only [maxLen]; omega
        · omega
        · exact hbw9
        intro v10 w10 hown10 hg10 _ _
        obtain ⟨A10, c10, rfl, _, _⟩ := own_form hown10
        have HB10 := Lib.hid (HB2.out.trans ((grown_below HB9.out hg10 HO9.out (Nat.le_refl _) hbw9).mono HB2.out.size))
        have HP := Lib.hid (HFIN.out _ w10 (by
          have e : k + 1 + (l'.length - k) = l'.length + 1 := by omega
          have := own_more hown10 HB2.out.size
          rw [e] at this
          exact this) HB10.out)
        clear hown10 hg10
        generalize hac : Act.put _ _ _ = a9
        simp [Act.put] at hac
        subst hac
        go_wp2_with fail
        go_ret
        have e : k + 1 + (l'.length - k) = l'.length + 1 := by omega
        rw [e]
        have hp := HP.out
        simp only [ne_eq, decide_not] at hp ⊢
        exact hp
      · go_wp2_with fail
        go_roundw
        case rel =>
          refine ⟨k - 1, by omega, by go_num, ?_, HB4.out⟩
          refine fun i u hi hu => ?_
          by_cases hik : i = k - 1
          · subst hik
            rw [HYE.out] at hu
            injection hu with hu
            rw [← hu]
            exact HZ.out.symm
          · exact HF.out i u (by omega) hu
        case measure => simp [intOf]; omega
end Go.Proofs.YtplbcbamnjnhlaaGreatDoor
