import Derived.Test.YtplbcbamnjnhlaaGreatDoorMB28
import Derived.Test.YtplbcbamnjnhlaaGreatDoorMB33
namespace Go.Proofs.YtplbcbamnjnhlaaGreatDoor
open Go.RowKit

theorem store_all5 {w : World} {q : Nat} {cs : Array Value} {t : TypeId} {b : BookD} {L P O : Value} (h : w.heap[q]? = some (.cells cs t (0, 0))) (h5 : cs.size = 5) (h1 : ∀ u ∈ refCells b L P O, u.oneCell' = true) :
    (Instr.storeAt 30 (.pointer (some ⟨q, 0, none⟩)) (.agg (refCells b L P O).toArray)).run Tryz.prog w = .ok () (w.setRow q (refCells b L P O).toArray) := by
  rw [store_agg (vs := refCells b L P O) rfl (book33_sz b L P O) h (by rw [h5]; exact Nat.le_refl 5) h1]
  have hz : cs.toList.drop 5 = [] := by rw [List.drop_eq_nil_iff]; simp [h5]
  rw [show 0 + (refCells b L P O).length = 5 from rfl, hz, List.take_zero, List.nil_append, List.append_nil]
theorem build_item4 (s : Int) (k m : K32) (w : World) : (Instr.build 79 #[(0, .int .i64 s), (1, kv k), (2, hashv m.1.1), (3, .int .i64 m.1.2)]).run Tryz.prog w = .ok (itemv (s, (k, m))) w := by
  unfold Instr.build
  simp only [Sem.run_bind, zero_item, Result.andThen_ok, run_underlying itemTy_u, fields_item]
  have l1 := encK_len k
  have l2 : (bcells m.1.1).length = 32 := by rw [bcells_length, m.2]
  have h00 := fill_at (place := iplace) (i := 0) (off := 0) (v := .int .i64 s) (vs := [.int .i64 s]) (rest := [(1, kv k), (2, hashv m.1.1), (3, .int .i64 m.1.2)]) (cs := itemCells (0, (zk32, zk32))) (cs' := itemCells (s, (zk32, zk32))) rfl rfl (by rw [itemCells_len]; show 0 + 1 ≤ 67; omega) rfl
  have h0 := fill_at (place := iplace) (i := 1) (off := 1) (v := kv k) (vs := encK k) (rest := [(2, hashv m.1.1), (3, .int .i64 m.1.2)]) (cs := itemCells (s, (zk32, zk32))) (cs' := [.int .i64 s] ++ (encK k ++ hkCells z32 0)) rfl (by rw [l1]; rfl) (by rw [l1, itemCells_len]; omega) (by rw [l1]; rfl)
  have h1 := fill_at (place := iplace) (i := 2) (off := 34) (v := hashv m.1.1) (vs := bcells m.1.1) (rest := [(3, .int .i64 m.1.2)]) (cs := [.int .i64 s] ++ (encK k ++ hkCells z32 0)) (cs' := [.int .i64 s] ++ (encK k ++ (bcells m.1.1 ++ [.int .i64 0]))) rfl (by rw [l2]; rfl) (by simp [l1, l2, hkCells_length, z32_len]) (by
    rw [← List.append_assoc, List.take_append_of_le_length (by simp [l1]), List.take_of_length_le (by simp [l1]), l2, List.drop_append, List.drop_of_length_le (by simp [l1])]
    simp [l1]
    rfl)
  have h2 := fill_at (place := iplace) (i := 3) (off := 66) (v := .int .i64 m.1.2) (vs := [.int .i64 m.1.2]) (rest := []) (cs := [.int .i64 s] ++ (encK k ++ (bcells m.1.1 ++ [.int .i64 0]))) (cs' := [.int .i64 s] ++ (encK k ++ (bcells m.1.1 ++ [.int .i64 m.1.2]))) rfl rfl (by simp [l1, l2]) (by
    rw [← List.append_assoc, ← List.append_assoc, List.take_append_of_le_length (by simp [l1, l2]), List.take_of_length_le (by simp [l1, l2]), List.drop_of_length_le (by simp [l1, l2])]
    simp)
  rw [h0, h1, h2] at h00
  rw [show (itemv (0, (zk32, zk32))).cells = (itemCells (0, (zk32, zk32))).toArray from rfl, h00]
  rfl
theorem rd_of_sl {w : World} {B n c : Nat} {A : Option Addr} {l : List ItemD} (h : SlR eItem w B (.slice A n c) l) : Rd w B A (icells l) := by
  obtain ⟨A', c', css, e, _, _, h3, h4, h5⟩ := h
  injection e with e1 e2 e3
  subst e1
  have : css = l.map itemCells := List.ext_getElem? fun i => by
    rw [List.getElem?_map]
    cases hx : l[i]? with
    | none => rw [List.getElem?_eq_none (by rw [h3]; exact List.getElem?_eq_none_iff.1 hx)]; rfl
    | some x =>
      have hi : i < css.length := by rw [h3]; exact (List.getElem?_eq_some_iff.1 hx).1
      rw [List.getElem?_eq_getElem hi]
      exact congrArg some (h5 i _ x (List.getElem?_eq_getElem hi) hx)
  rw [this, ← List.flatMap_def] at h4
  exact h4
theorem icells_one {l : List ItemD} : ∀ u ∈ icells l, u.oneCell' = true := by
  intro u hu
  simp only [icells, List.mem_flatMap] at hu
  obtain ⟨a, _, hu⟩ := hu
  exact itemCells_one _ u hu
theorem own_lt5 {w : World} {base : Nat} {t : TypeId} {s q : Nat} (h : w.ownsRow base t s (.slice (some ⟨q, 0, none⟩) 0 0) 0 []) : q < w.heap.size := (h.lt q rfl).2
theorem key_cells {w : World} {B : Nat} {A : Option Addr} {n c : Nat} {ks : List KeyD} (h : SlR eKey w B (.slice A n c) ks) {i : Nat} (hi : i < ks.length) :
    ∃ q off, A = some ⟨q, off, none⟩ ∧ q < B ∧ (∀ j u, (encK (k32 ks[i]))[j]? = some u → w.cell? ⟨q, off + i * 33 + j, none⟩ = some u) ∧ ks[i].1.length = 32 := by
  obtain ⟨q, off, cs, rfl, _, hq, hrep, hc⟩ := h.get hi (by decide)
  obtain ⟨rfl, h32, _, _⟩ := eKey_rep hrep
  refine ⟨q, off, rfl, hq, fun j u hu => ?_, h32⟩
  rw [Nat.add_assoc]
  refine hc j u ?_
  unfold encK at hu
  rw [k32_val h32] at hu
  exact hu
section
variable {w wc : World} {b : BookD} {L P O : Value} {kind seq : Int} {kx mx : K32} {v : Value} {keys : List KeyD}
theorem MidR.drew (h : MidR w wc b L P O kind seq kx mx v keys) : MidR w wc.drew b L P O kind seq kx mx v keys := h.later (Below.refl _ _).drew
theorem MidR.row_all (h : MidR w wc b L P O kind seq kx mx v keys) : ∀ j u, (refCells b L P O)[j]? = some u → wc.cell? ⟨w.heap.size, 0 + j, none⟩ = some u := row_cells (vs := refCells b L P O) h.row
theorem MidR.ones (h : MidR w wc b L P O kind seq kx mx v keys) : ∀ u ∈ refCells b L P O, u.oneCell' = true := refCells_one' h.live h.pins h.ints
theorem MidR.end_ (h : MidR w wc b L P O kind seq kx mx v keys) : (Instr.storeAt 30 (.pointer (some ⟨w.heap.size + 2, 0, none⟩)) (.agg (refCells b L P O).toArray)).run Tryz.prog wc = .ok () (wc.setRow (w.heap.size + 2) (refCells b L P O).toArray) := store_all5 h.out rfl h.ones
theorem midR_new (w : World) {B : Nat} (hB : B ≤ w.heap.size) (hL : SlR eItem w B L (liveI b.live)) (hP : SlR eK w B P b.pins) (hO : SlR eItem w B O b.ints) (hk : SlR eKey w B v keys) :
    MidR w (((w.alloc (.cells (refCells b L P O).toArray 30)).alloc (.cells (recCells kind seq kx.1.1 kx.1.2 mx.1.1 mx.1.2 v).toArray 42)).alloc (.cells (refCells book0 nilV nilV nilV).toArray 30)) b L P O kind seq kx mx v keys := by
  have hb1 : Below w.heap.size w (w.alloc (.cells (refCells b L P O).toArray 30)) := (Below.refl _ _).alloc (Nat.le_refl _) _
  have hs1 : (w.alloc (.cells (refCells b L P O).toArray 30)).heap.size = w.heap.size + 1 := World.size_alloc _ _
  have hg1 := Go.heap_alloc_new w (.cells (refCells b L P O).toArray 30)
  generalize w.alloc (.cells (refCells b L P O).toArray 30) = w1 at *
  have hb2 : Below w1.heap.size w1 (w1.alloc (.cells (recCells kind seq kx.1.1 kx.1.2 mx.1.1 mx.1.2 v).toArray 42)) := (Below.refl _ _).alloc (Nat.le_refl _) _
  have hs2 : (w1.alloc (.cells (recCells kind seq kx.1.1 kx.1.2 mx.1.1 mx.1.2 v).toArray 42)).heap.size = w.heap.size + 2 := by rw [World.size_alloc, hs1]
  have hg2 : RecAt (w1.alloc (.cells (recCells kind seq kx.1.1 kx.1.2 mx.1.1 mx.1.2 v).toArray 42)) w1.heap.size 42 kind seq kx.1.1 kx.1.2 mx.1.1 mx.1.2 v := RecAt.new w1 kx.2 mx.2
  rw [hs1] at hg2
  have hr1 := (hb2.block w.heap.size (by omega)).trans hg1
  generalize w1.alloc (.cells (recCells kind seq kx.1.1 kx.1.2 mx.1.1 mx.1.2 v).toArray 42) = w2 at *
  have hb3 : Below w2.heap.size w2 (w2.alloc (.cells (refCells book0 nilV nilV nilV).toArray 30)) := (Below.refl _ _).alloc (Nat.le_refl _) _
  have hs3 : (w2.alloc (.cells (refCells book0 nilV nilV nilV).toArray 30)).heap.size = w.heap.size + 3 := by rw [World.size_alloc, hs2]
  have hg3 := Go.heap_alloc_new w2 (.cells (refCells book0 nilV nilV nilV).toArray 30)
  rw [hs2] at hg3
  have hr2 := (hb3.block w.heap.size (by omega)).trans hr1
  have hq2 := hg2.later hb3
  have hbb : Below w.heap.size w (w2.alloc (.cells (refCells book0 nilV nilV nilV).toArray 30)) := (hb1.trans (hb2.mono (by omega))).trans (hb3.mono (by omega))
  exact ⟨hr2, hq2, hg3, hL.fut hbb hB (by omega), hP.fut hbb hB (by omega), hO.fut hbb hB (by omega), hk.fut hbb hB hB, hbb⟩
end
set_option maxRecDepth 100000 in
set_option maxHeartbeats 40000000 in
theorem refApply_any (b : BookD) (r : RecD) (bv : Value) (A : Option Addr) (n c B : Nat) (w : World) (h : RB w B bv b) (hr : Hs r) (hk : SlR eKey w B (.slice A n c) r.keys) (hB : B ≤ w.heap.size) (hl : b.live.length ≤ 10000 ∧ b.pins.length ≤ 10000 ∧ b.ints.length ≤ 10000) :
    Calls Tryz.prog 10 #[bv, rv r (.slice A n c)] w (RefTo b r w) := by
  obtain ⟨L, P, O, rfl, hL, hP, hO⟩ := h
  obtain ⟨kx, hkx⟩ : ∃ kx, kx = rkey r := ⟨_, rfl⟩
  obtain ⟨mx, hmx⟩ : ∃ mx, mx = rmark r := ⟨_, rfl⟩
  have hk1 : kx.1 = (r.kh, r.kk) := by rw [hkx]; exact k32_val hr.1
  have hm1 : mx.1 = (r.mh, r.ms) := by rw [hmx]; exact k32_val hr.2
  obtain ⟨kind, hkd⟩ : ∃ kind, kind = r.kind := ⟨_, rfl⟩
  obtain ⟨seq, hsq⟩ : ∃ seq, seq = r.seq := ⟨_, rfl⟩
  have HRV : rv r (.slice A n c) = .agg (recCells kind seq kx.1.1 kx.1.2 mx.1.1 mx.1.2 (.slice A n c)).toArray := by rw [hk1, hm1, hkd, hsq]
  have HCL := Lib.hid (show ∀ (w' : World), SlR eKey w' w.heap.size (.slice A n c) r.keys → w.heap.size ≤ w'.heap.size → Calls Tryz.prog 30 #[.agg (recCells kind seq kx.1.1 kx.1.2 mx.1.1 mx.1.2 (.slice A n c)).toArray] w' (fun e w'' => e = .returned (.bool (rightB r)) ∧ Below w'.heap.size w' w'') from fun w' h1 h2 => by
    rw [← HRV]
    exact refRight_any r A n c w.heap.size w' hr h1 h2)
  rw [HRV]
  have HRK := Lib.hid (And.intro hkd.symm (And.intro hsq.symm (And.intro hkx hmx)))
  have HSR := Lib.hid hr
  clear HRV hk1 hm1 hkd hsq hkx hmx hr
  have HN := Lib.hid hk.n_eq
  have HLL := Lib.hid hl
  have HM0 := Lib.hid (midR_new (kind := kind) (seq := seq) (kx := kx) (mx := mx) w hB hL hP hO hk)
  clear hl hB hL hP hO hk
  go_enter Tryz.func10, Tryz.ntmps10
  go_wp2_with (refine stop_at (some 2) rfl ?_)
  refine Stop.go (wpList_box rfl 30 rfl rfl (vs := refCells b L P O) rfl ?_)
  refine wpList_box rfl 42 rfl rfl (vs := recCells kind seq kx.1.1 kx.1.2 mx.1.1 mx.1.2 (.slice A n c)) rfl ?_
  refine wpList_alloc rfl 30 rfl zero_book33 (vs := refCells book0 nilV nilV nilV) rfl ?_
  rw [show ((w.alloc (.cells (refCells b L P O).toArray 30)).alloc (.cells (recCells kind seq kx.1.1 kx.1.2 mx.1.1 mx.1.2 (.slice A n c)).toArray 42)).heap.size = w.heap.size + 2 by rw [World.size_alloc, World.size_alloc]]
  rw [show (w.alloc (.cells (refCells b L P O).toArray 30)).heap.size = w.heap.size + 1 from World.size_alloc _ _]
  generalize (((w.alloc (.cells (refCells b L P O).toArray 30)).alloc (.cells (recCells kind seq kx.1.1 kx.1.2 mx.1.1 mx.1.2 (.slice A n c)).toArray 42)).alloc (.cells (refCells book0 nilV nilV nilV).toArray 30)) = w1 at *
  generalize hac : Act.put _ _ _ = a9
  simp [Act.put] at hac
  subst hac
  go_wp2_with (refine stop_at (some 10) rfl ?_)
  refine Stop.go (wpList_load_agg rfl 42 rfl rfl rec32Ty_u rfl (rec32_size _ _ _ _ _ _ _ kx.2 mx.2) HM0.out.rec_.all_ ?_)
  generalize hac : Act.put _ _ _ = a9
  simp [Act.put] at hac
  subst hac
  go_wp2_with fail
  refine (HCL.out w1 HM0.out.keys_ (by have := HM0.out.lt; omega)).mono ?_
  rintro e w2 ⟨rfl, hb2⟩
  have HM := Lib.hid (HM0.out.later hb2)
  clear hb2 HM0 HCL
  obtain ⟨z, hz⟩ : ∃ z, z = rightB r := ⟨_, rfl⟩
  rw [← hz]
  have HRB := Lib.hid hz.symm
  clear hz
  have c0 := (row_cell5 HM.out.row).1
  have c1 := HM.out.rec_.kind_
  obtain ⟨hd, hhd⟩ : ∃ hd, hd = b.head := ⟨_, rfl⟩
  rw [← hhd] at c0
  have HHD := Lib.hid hhd
  clear hhd
  cases z
  · have HF := Lib.hid (show mayD b r = false by rw [may_parts, HRB.out]; rfl)
    go_wp2_with (refine stop_at (some 21) rfl ?_)
    refine Stop.go (wpList_load_agg rfl 30 rfl rfl book33_u rfl (cs := refCells b L P O) (book33_sz ..) HM.out.row_all ?_)
    refine wpList_store_agg rfl 30 rfl rfl rfl HM.out.end_ ?_
    have HX := Lib.hid HM.out.done
    generalize w2.setRow (w.heap.size + 2) (refCells b L P O).toArray = wz at *
    generalize hac : Act.put _ _ _ = a9
    simp [Act.put] at hac
    subst hac
    go_wp2_with fail
    refine ret_ref33 rfl rfl rfl rfl HX.out.2.2 ?_
    exact refTo_no HF.out HX.out.1 HX.out.2.1
  by_cases hq : hd = decide (kind = 1)
  · have HF := Lib.hid (show mayD b r = false by rw [may_parts, HRK.out.1, ← HHD.out, hq]; simp)
    have hq2 : (hd == (kind == 1)) = true := by rw [hq]; show (decide (kind = 1) == decide (kind = 1)) = true; exact beq_self_eq_true _
    clear hq
    go_wp2_with (refine stop_at (some 21) rfl ?_)
    refine Stop.go (wpList_load_agg rfl 30 rfl rfl book33_u rfl (cs := refCells b L P O) (book33_sz ..) HM.out.row_all ?_)
    refine wpList_store_agg rfl 30 rfl rfl rfl HM.out.end_ ?_
    have HX := Lib.hid HM.out.done
    generalize w2.setRow (w.heap.size + 2) (refCells b L P O).toArray = wz at *
    generalize hac : Act.put _ _ _ = a9
    simp [Act.put] at hac
    subst hac
    go_wp2_with fail
    refine ret_ref33 rfl rfl rfl rfl HX.out.2.2 ?_
    exact refTo_no HF.out HX.out.1 HX.out.2.1
  have hq2 : (hd == (kind == 1)) = false := by
    rw [beq_eq_false_iff_ne]
    intro he
    exact hq (by rw [he]; rfl)
  have HQ := Lib.hid hq
  clear hq
  have HPO := Lib.hid (show ∀ (b' : BookD) (v : Value) (w' : World), mayD b r = true → b' = writeD b r → RB w' w'.heap.size v b' → Below w.heap.size w w' → RefTo b r w (.returned (.tuple #[v, .bool true])) w' from fun b' v w' hm hb h hs => refTo_yes hm hb h hs)
  have HMY := Lib.hid (show (if r.kind = 2 then decide (b.next ≤ r.seq) else if r.kind = 3 then (findI b.ints r.seq).isSome else true) = true → mayD b r = true from fun h => by
    rw [may_parts, HRB.out, h, HRK.out.1, ← HHD.out]
    cases hd <;> cases hh : decide (kind = 1) <;> first | rfl | exact absurd hh.symm HQ.out)
  have HMN := Lib.hid (show (if r.kind = 2 then decide (b.next ≤ r.seq) else if r.kind = 3 then (findI b.ints r.seq).isSome else true) = false → mayD b r = false from fun h => by rw [may_parts, h, Bool.and_false])
  have HBND := Lib.hid (right_parts HRB.out)
  rcases Bool.eq_false_or_eq_true (kind == 1) with hk1 | hk1
  · have HK := Lib.hid hk1
    have hkk : r.kind = 1 := by rw [HRK.out.1]; simpa using HK.out
    have HF := Lib.hid (HMY.out (by rw [if_neg (by omega), if_neg (by omega)]))
    have HWR := Lib.hid (write_1 (b := b) hkk)
    clear hkk
    rw [hk1] at hq2
    have hd0 : hd = false := by simpa using hq2
    subst hd0
    go_wp2_with (refine stop_at none rfl ?_)
    have HST := Lib.hid (store5 (x := .bool true) (ty := 4) (i := 0) HM.out.row (by kernel_rfl) rfl rfl (by decide) (b' := { b with head := true }) (L' := L) (P' := P) (O' := O) rfl)
    refine Stop.go (wpList_store_agg rfl 4 rfl rfl rfl HST.out ?_)
    have HM3 := Lib.hid (HM.out.turn (b' := { b with head := true }) (L' := L) (P' := P) (O' := O) HM.out.live HM.out.pins HM.out.ints)
    clear HST
    generalize w2.setRow w.heap.size (refCells ({ b with head := true }) (L) (P) (O)).toArray = w3 at *
    generalize hac : Act.put _ _ _ = a9
    simp [Act.put] at hac
    subst hac
    go_wp2_with (refine stop_at (some 26) rfl ?_)
    refine Stop.go (wpList_load_agg rfl 30 rfl rfl book33_u rfl (cs := refCells { b with head := true } L P O) (book33_sz ..) HM3.out.row_all ?_)
    refine wpList_store_agg rfl 30 rfl rfl rfl HM3.out.end_ ?_
    have HX := Lib.hid HM3.out.done
    generalize w3.setRow (w.heap.size + 2) (refCells { b with head := true } L P O).toArray = wz at *
    generalize hac : Act.put _ _ _ = a9
    simp [Act.put] at hac
    subst hac
    go_wp2_with fail
    refine ret_ref33 rfl rfl rfl rfl HX.out.2.2 ?_
    exact HPO.out _ _ _ HF.out HWR.out HX.out.1 HX.out.2.1
  rw [hk1] at hq2
  have c2 := HM.out.rec_.seq_
  go_wp2_with (refine stop_at (some 30) rfl ?_)
  refine Stop.go (wpList_load_agg rfl 34 rfl rfl keyTy.ut rfl (cs := encK kx) (key_size _ _ kx.2) HM.out.rec_.key_ ?_)
  generalize hac : Act.put _ _ _ = a9
  simp [Act.put] at hac
  subst hac
  refine wpList_seg 1 _ _ _ (fun Q2 hQ2 => ?_)
  simp only [List.take_succ_cons, List.take_zero]
  go_wp2_with fail
  try simp only [List.drop_succ_cons, List.drop_zero]
  refine Stop.go (wpList_load_agg rfl 32 rfl rfl hashTy.ua rfl (cs := bcells mx.1.1) (hash_size _ mx.2) HM.out.rec_.hash_ ?_)
  generalize hac : Act.put _ _ _ = a9
  simp [Act.put] at hac
  subst hac
  have hnum := HM.out.rec_.size_
  refine wpList_seg 2 _ _ _ (fun Q3 hQ3 => ?_)
  simp only [List.take_succ_cons, List.take_zero]
  go_wp2_with fail
  try simp only [List.drop_succ_cons, List.drop_zero]
  clear hnum
  refine Stop.go (wpList_build rfl 79 rfl (vs := #[(0, .int .i64 seq), (1, kv kx), (2, hashv mx.1.1), (3, .int .i64 mx.1.2)]) (by rfl) (build_item4 seq kx mx _) ?_)
  refine wpList_alloc rfl 79 rfl zero_item (vs := itemCells (0, (zk32, zk32))) rfl ?_
  refine wpList_store_agg rfl 79 rfl rfl rfl (store_new2 (vs := itemCells (seq, (kx, mx))) (g := w2.heap.size) rfl rfl (item_size _) (by rw [List.size_toArray, itemCells_len, itemCells_len]) (itemCells_one _)) ?_
  have HM3 := Lib.hid (HM.out.later ((Below.refl _ _).alloc (Nat.le_refl _) (.cells (itemCells (seq, (kx, mx))).toArray 79)))
  have HIT := Lib.hid (row_cells (vs := itemCells (seq, (kx, mx))) (Go.heap_alloc_new w2 (.cells (itemCells (seq, (kx, mx))).toArray 79)))
  have HIQ := Lib.hid (World.size_alloc w2 (.cells (itemCells (seq, (kx, mx))).toArray 79))
  generalize w2.alloc (.cells (itemCells (seq, (kx, mx))).toArray 79) = w3 at *
  have HIL := Lib.hid (show w2.heap.size < w3.heap.size by rw [HIQ.out]; omega)
  have HIG := Lib.hid (show w.heap.size + 2 < w2.heap.size from HM.out.lt)
  generalize w2.heap.size = qi at *
  generalize hac : Act.put _ _ _ = a9
  simp [Act.put] at hac
  subst hac
  clear c0 c1 c2 HM
  have c1 := HM3.out.rec_.kind_
  rcases Bool.eq_false_or_eq_true (kind == 2) with hk2 | hk2
  · have HK := Lib.hid hk2
    have hkk : r.kind = 2 := by rw [HRK.out.1]; simpa using HK.out
    have cn := (row_cell5 HM3.out.row).2.2.2.2
    have cq := HM3.out.rec_.seq_
    by_cases hsn : seq < b.next
    · have HF := Lib.hid (HMN.out (by rw [if_pos hkk, HRK.out.2.1]; simpa using hsn))
      clear hkk
      go_wp2_with (refine stop_at (some 44) rfl ?_)
      refine Stop.go (wpList_load_agg rfl 30 rfl rfl book33_u rfl (cs := refCells b L P O) (book33_sz ..) HM3.out.row_all ?_)
      refine wpList_store_agg rfl 30 rfl rfl rfl HM3.out.end_ ?_
      have HX := Lib.hid HM3.out.done
      generalize w3.setRow (w.heap.size + 2) (refCells b L P O).toArray = wz at *
      generalize hac : Act.put _ _ _ = a9
      simp [Act.put] at hac
      subst hac
      go_wp2_with fail
      refine ret_ref33 rfl rfl rfl rfl HX.out.2.2 ?_
      exact refTo_no HF.out HX.out.1 HX.out.2.1
    have HF := Lib.hid (HMY.out (by rw [if_pos hkk, HRK.out.2.1]; simpa using hsn))
    have HWR := Lib.hid (write_2 (b := b) hkk)
    have HWP := Lib.hid (show IntKind.i64.wrap (seq + 1) = seq + 1 by
      have := HBND.out.1 (.inl hkk)
      rw [HRK.out.2.1] at this
      simp [IntKind.wrap, IntKind.bits, IntKind.signed]
      omega)
    rw [← HRK.out.2.2.1, ← HRK.out.2.2.2, HRK.out.2.1] at HWR
    clear hkk
    go_wp2_with fail
    obtain ⟨AO, cO, hoe, _, _⟩ := HM3.out.ints.form
    subst hoe
    have HM4 := Lib.hid HM3.out.drew
    have HI4 := Lib.hid (show ∀ j u, (itemCells (seq, (kx, mx)))[j]? = some u → w3.drew.cell? ⟨qi, 0 + j, none⟩ = some u from HIT.out)
    have HIL4 := Lib.hid (show qi < w3.drew.heap.size from HIL.out)
    clear cn cq
    refine wpU_start (fun w' => Below w3.drew.heap.size w3.drew w') [3, 5] 9 (by kernel_rfl) rfl ?_
    have HRO := Lib.hid (rd_of_sl HM4.out.ints)
    have HC3 := Lib.hid ((row_cell5 HM4.out.row).2.2.2.1)
    have HG3 := Lib.hid (show w.heap.size < w3.drew.heap.size by have := HM4.out.lt; omega)
    generalize w3.drew = w4 at *
    refine wpU_pure (i := 1) (v := .pointer (some ⟨w.heap.size, 3, none⟩)) rfl (by kernel_rfl) (by kernel_rfl) (by kernel_rfl) (by kernel_rfl) (by kernel_rfl) rfl (fun wq => by go_simp) (Below.refl _ _) ?_
    generalize hac : Act.put _ _ _ = a9
    simp [Act.put] at hac
    subst hac
    refine wpU_load (i := 2) (v := .slice AO b.ints.length cO) rfl (by kernel_rfl) (by kernel_rfl) (by kernel_rfl) (by kernel_rfl) (by kernel_rfl) (by kernel_rfl) rfl (fun wq hbq => exec_load rfl rfl (load_slice Tryz.underlying27 ((hbq.cell (p := ⟨w.heap.size, 3, none⟩) HG3.out).trans HC3.out))) (Below.refl _ _) ?_
    generalize hac : Act.put _ _ _ = a9
    simp [Act.put] at hac
    subst hac
    refine wpU_load (i := 4) (v := itemv (seq, (kx, mx))) rfl (by kernel_rfl) (by kernel_rfl) (by kernel_rfl) (by kernel_rfl) (by kernel_rfl) (by kernel_rfl) rfl (fun wq hbq => exec_load rfl rfl (load_agg itemTy_u rfl (item_size _) (fun j u hu => (hbq.cell (p := ⟨qi, 0 + j, none⟩) HIL4.out).trans (HI4.out j u hu)))) (Below.refl _ _) ?_
    generalize hac : Act.put _ _ _ = a9
    simp [Act.put] at hac
    subst hac
    have HBB := Lib.hid (Below.refl w4.heap.size w4)
    refine wpU_two (i := 0) (j := 5) (by kernel_rfl) rfl rfl (fun Q' hQ' => ?_) (fun Q' hQ' => ?_)
    · go_wp2_with fail
      have hb1 : Below w4.heap.size w4 (w4.alloc (.cells #[] 79)) := (Below.refl _ _).alloc (Nat.le_refl _) _
      have hsz1 := HBB.out.size
      have HE1 := Lib.hid (own_lit (t := 79) 67 hsz1)
      have HB1 := Lib.hid (HBB.out.trans (hb1.mono hsz1))
      clear hb1 hsz1
      generalize w4.alloc (.cells #[] 79) = v1 at *
      refine ⟨okU HB1.out, ?_⟩
      refine wpU_two (i := 3) (j := 5) (by kernel_rfl) rfl rfl (fun Q' hQ' => ?_) (fun Q' hQ' => ?_)
      · have hsz2 := HB1.out.size
        have hil2 := HLL.out.2.2
        refine wpList_app item_app rfl rfl rfl rfl HE1.out (B := w4.heap.size) (news := icells b.ints) (m := b.ints.length) (HRO.out.below HB1.out) (icells_len _) icells_one ?_ ?_ hsz2 ?_
        · simp only [maxLen]; omega
        · omega
        intro v2v v2 hown2 hg2 _ _
        rw [Nat.zero_add, List.nil_append] at hown2
        obtain ⟨A6, c6, hv6, _, _⟩ := own_form hown2
        subst hv6
        have HB2 := Lib.hid (grown_below HB1.out hg2 HE1.out (Nat.le_refl _) hsz2)
        have HT2 := Lib.hid hown2
        clear hown2 hg2 hsz2 hil2
        generalize hac : Act.put _ _ _ = a9
        simp [Act.put] at hac
        subst hac
        refine hQ' _ _ ⟨okU HB2.out, ?_⟩
        refine wpU_one (i := 5) (by kernel_rfl) rfl (fun Q' hQ' => ?_)
        refine wpList_build_one rfl 27 79 rfl rfl (vs := itemCells ((seq, (kx, mx)) : ItemD)) Tryz.underlying27 (item_info _) rfl (by rw [itemCells_len]; omega) (by rw [itemCells_len]; decide) ?_
        have hb3 : Below v2.heap.size v2 (v2.alloc (.cells (itemCells ((seq, (kx, mx)) : ItemD)).toArray 79)) := (Below.refl _ _).alloc (Nat.le_refl _) _
        have hsz3 := HB2.out.size
        have HB3 := Lib.hid (HB2.out.trans (hb3.mono hsz3))
        have HR3 := Lib.hid (Go.heap_alloc_new v2 (.cells (itemCells ((seq, (kx, mx)) : ItemD)).toArray 79))
        have HT3 := Lib.hid (own_below HT2.out hb3)
        clear hb3 hsz3
        generalize v2.alloc (.cells (itemCells ((seq, (kx, mx)) : ItemD)).toArray 79) = v3 at *
        generalize hac : Act.put _ _ _ = a9
        simp [Act.put] at hac
        subst hac
        refine hQ' _ _ ⟨okU HB3.out, ?_⟩
        refine wpU_one (i := 6) (by kernel_rfl) rfl (fun Q' hQ' => ?_)
        have hsz9 := HB3.out.size
        have hil9 := HLL.out.2.2
        refine wpList_app item_app rfl rfl rfl rfl HT3.out (Rd.row (B := v3.heap.size) HR3.out (Array.getElem?_eq_some_iff.1 HR3.out).1) (m := 1) (by rw [show (itemCells ((seq, (kx, mx)) : ItemD)).toArray.toList = itemCells ((seq, (kx, mx)) : ItemD) from rfl, itemCells_len]) (by intro u hu; exact itemCells_one _ u hu) ?_ ?_ hsz9 ?_
        · simp only [maxLen]; omega
        · omega
        intro v9v v9 hown9 hg9 _ _
        obtain ⟨A7, c7, hv7, _, _⟩ := own_form hown9
        subst hv7
        have HB9 := Lib.hid (grown_below HB3.out hg9 HT3.out (Nat.le_refl _) hsz9)
        have HM9 := Lib.hid (HM4.out.later HB9.out)
        have HS9 := Lib.hid (show SlR eItem v9 v9.heap.size (.slice A7 (b.ints.length + 1) c7) (b.ints ++ [((seq, (kx, mx)) : ItemD)]) from sl_of_own (E := eItem) (enc := itemCells) (fun _ _ => rfl) (by
          have ho := hown9
          rw [List.length_append, List.flatMap_append]
          show v9.ownsRow w4.heap.size 79 67 _ (b.ints.length + 1) _
          simpa [icells] using ho))
        clear hown9 hg9 hsz9 hil9
        generalize hac : Act.put _ _ _ = a9
        simp [Act.put] at hac
        subst hac
        refine hQ' _ _ ⟨okU_past (by kernel_rfl), ?_⟩
        refine wpU_one (i := 7) (by kernel_rfl) rfl (fun Q' hQ' => ?_)
        go_wp2_with fail
        refine ⟨okU_past (by kernel_rfl), ?_⟩
        refine wpU_one (i := 8) (by kernel_rfl) rfl (fun Q' hQ' => ?_)
        have HST := Lib.hid (store5 (x := .slice A7 (b.ints.length + 1) c7) (ty := 27) (i := 3) HM9.out.row (by kernel_rfl) rfl rfl (by decide) (b' := { b with ints := b.ints ++ [(seq, (kx, mx))] }) (L' := L) (P' := P) (O' := (.slice A7 (b.ints.length + 1) c7)) rfl)
        refine (wpList_store_agg rfl 27 rfl rfl rfl HST.out ?_)
        have HMA := Lib.hid (HM9.out.turn (b' := { b with ints := b.ints ++ [(seq, (kx, mx))] }) (L' := L) (P' := P) (O' := (.slice A7 (b.ints.length + 1) c7)) HM9.out.live HM9.out.pins HS9.out)
        clear HST
        generalize v9.setRow w.heap.size (refCells ({ b with ints := b.ints ++ [(seq, (kx, mx))] }) (L) (P) ((.slice A7 (b.ints.length + 1) c7))).toArray = wa at *
        generalize hac : Act.put _ _ _ = a9
        simp [Act.put] at hac
        subst hac
        refine hQ' _ _ ⟨okU_past (by kernel_rfl), ?_⟩
        refine wpU_end (by kernel_rfl) ?_ _
        have cs1 := HMA.out.rec_.seq_
        have hwr := HWP.out
        go_wp2_with (refine stop_at none rfl ?_)
        have HST := Lib.hid (store5 (x := .int .i64 (seq + 1)) (ty := 3) (i := 4) HMA.out.row (by kernel_rfl) rfl rfl (by decide) (b' := { b with ints := b.ints ++ [(seq, (kx, mx))], next := seq + 1 }) (L' := L) (P' := P) (O' := (.slice A7 (b.ints.length + 1) c7)) rfl)
        refine Stop.go (wpList_store_agg rfl 3 rfl rfl rfl HST.out ?_)
        have HMB := Lib.hid (HMA.out.turn (b' := { b with ints := b.ints ++ [(seq, (kx, mx))], next := seq + 1 }) (L' := L) (P' := P) (O' := (.slice A7 (b.ints.length + 1) c7)) HMA.out.live HMA.out.pins HMA.out.ints)
        clear HST
        generalize wa.setRow w.heap.size (refCells ({ b with ints := b.ints ++ [(seq, (kx, mx))], next := seq + 1 }) (L) (P) ((.slice A7 (b.ints.length + 1) c7))).toArray = wb at *
        generalize hac : Act.put _ _ _ = a9
        simp [Act.put] at hac
        subst hac
        clear cs1 hwr
        go_wp2_with (refine stop_at (some 57) rfl ?_)
        refine Stop.go (wpList_load_agg rfl 30 rfl rfl book33_u rfl (cs := refCells { b with ints := b.ints ++ [(seq, (kx, mx))], next := seq + 1 } L P (.slice A7 (b.ints.length + 1) c7)) (book33_sz ..) HMB.out.row_all ?_)
        refine wpList_store_agg rfl 30 rfl rfl rfl HMB.out.end_ ?_
        have HX := Lib.hid HMB.out.done
        generalize wb.setRow (w.heap.size + 2) (refCells { b with ints := b.ints ++ [(seq, (kx, mx))], next := seq + 1 } L P (.slice A7 (b.ints.length + 1) c7)).toArray = wz at *
        generalize hac : Act.put _ _ _ = a9
        simp [Act.put] at hac
        subst hac
        go_wp2_with fail
        refine ret_ref33 rfl rfl rfl rfl HX.out.2.2 ?_
        exact HPO.out _ _ _ HF.out HWR.out HX.out.1 HX.out.2.1
      · refine wpList_build_one rfl 27 79 rfl rfl (vs := itemCells ((seq, (kx, mx)) : ItemD)) Tryz.underlying27 (item_info _) rfl (by rw [itemCells_len]; omega) (by rw [itemCells_len]; decide) ?_
        have hb4 : Below v1.heap.size v1 (v1.alloc (.cells (itemCells ((seq, (kx, mx)) : ItemD)).toArray 79)) := (Below.refl _ _).alloc (Nat.le_refl _) _
        have hsz4 := HB1.out.size
        have HB4 := Lib.hid (HB1.out.trans (hb4.mono hsz4))
        have HR4 := Lib.hid (Go.heap_alloc_new v1 (.cells (itemCells ((seq, (kx, mx)) : ItemD)).toArray 79))
        have HE4 := Lib.hid (own_below HE1.out hb4)
        have HNE4 := Lib.hid (Nat.ne_of_lt (own_lt5 HE1.out))
        clear hb4 hsz4
        generalize v1.alloc (.cells (itemCells ((seq, (kx, mx)) : ItemD)).toArray 79) = v4 at *
        generalize hac : Act.put _ _ _ = a9
        simp [Act.put] at hac
        subst hac
        refine hQ' _ _ ⟨okU HB4.out, ?_⟩
        refine wpU_one (i := 3) (by kernel_rfl) rfl (fun Q' hQ' => ?_)
        have hsz5 := HB4.out.size
        have hil5 := HLL.out.2.2
        refine wpList_app item_app rfl rfl rfl rfl HE4.out (B := w4.heap.size) (news := icells b.ints) (m := b.ints.length) (HRO.out.below HB4.out) (icells_len _) icells_one ?_ ?_ hsz5 ?_
        · simp only [maxLen]; omega
        · omega
        intro v5v v5 hown5 hg5 _ _
        rw [Nat.zero_add, List.nil_append] at hown5
        obtain ⟨A6, c6, hv6, _, _⟩ := own_form hown5
        subst hv6
        have HB5 := Lib.hid (grown_below HB4.out hg5 HE4.out (Nat.le_refl _) hsz5)
        have HT5 := Lib.hid hown5
        have HR5 := Lib.hid ((hg5.block _ (Array.getElem?_eq_some_iff.1 HR4.out).1 (fun e => by injection e with e; exact HNE4.out e.symm)).trans HR4.out)
        clear hown5 hg5 hsz5 hil5
        generalize hac : Act.put _ _ _ = a9
        simp [Act.put] at hac
        subst hac
        refine hQ' _ _ ⟨okU HB5.out, ?_⟩
        refine wpU_one (i := 6) (by kernel_rfl) rfl (fun Q' hQ' => ?_)
        have hsz10 := HB5.out.size
        have hil10 := HLL.out.2.2
        refine wpList_app item_app rfl rfl rfl rfl HT5.out (Rd.row (B := v5.heap.size) HR5.out (Array.getElem?_eq_some_iff.1 HR5.out).1) (m := 1) (by rw [show (itemCells ((seq, (kx, mx)) : ItemD)).toArray.toList = itemCells ((seq, (kx, mx)) : ItemD) from rfl, itemCells_len]) (by intro u hu; exact itemCells_one _ u hu) ?_ ?_ hsz10 ?_
        · simp only [maxLen]; omega
        · omega
        intro v10v v10 hown10 hg10 _ _
        obtain ⟨A7, c7, hv7, _, _⟩ := own_form hown10
        subst hv7
        have HB10 := Lib.hid (grown_below HB5.out hg10 HT5.out (Nat.le_refl _) hsz10)
        have HM10 := Lib.hid (HM4.out.later HB10.out)
        have HS10 := Lib.hid (show SlR eItem v10 v10.heap.size (.slice A7 (b.ints.length + 1) c7) (b.ints ++ [((seq, (kx, mx)) : ItemD)]) from sl_of_own (E := eItem) (enc := itemCells) (fun _ _ => rfl) (by
          have ho := hown10
          rw [List.length_append, List.flatMap_append]
          show v10.ownsRow w4.heap.size 79 67 _ (b.ints.length + 1) _
          simpa [icells] using ho))
        clear hown10 hg10 hsz10 hil10
        generalize hac : Act.put _ _ _ = a9
        simp [Act.put] at hac
        subst hac
        refine hQ' _ _ ⟨okU_past (by kernel_rfl), ?_⟩
        refine wpU_one (i := 7) (by kernel_rfl) rfl (fun Q' hQ' => ?_)
        go_wp2_with fail
        refine ⟨okU_past (by kernel_rfl), ?_⟩
        refine wpU_one (i := 8) (by kernel_rfl) rfl (fun Q' hQ' => ?_)
        have HST := Lib.hid (store5 (x := .slice A7 (b.ints.length + 1) c7) (ty := 27) (i := 3) HM10.out.row (by kernel_rfl) rfl rfl (by decide) (b' := { b with ints := b.ints ++ [(seq, (kx, mx))] }) (L' := L) (P' := P) (O' := (.slice A7 (b.ints.length + 1) c7)) rfl)
        refine (wpList_store_agg rfl 27 rfl rfl rfl HST.out ?_)
        have HMA := Lib.hid (HM10.out.turn (b' := { b with ints := b.ints ++ [(seq, (kx, mx))] }) (L' := L) (P' := P) (O' := (.slice A7 (b.ints.length + 1) c7)) HM10.out.live HM10.out.pins HS10.out)
        clear HST
        generalize v10.setRow w.heap.size (refCells ({ b with ints := b.ints ++ [(seq, (kx, mx))] }) (L) (P) ((.slice A7 (b.ints.length + 1) c7))).toArray = wa at *
        generalize hac : Act.put _ _ _ = a9
        simp [Act.put] at hac
        subst hac
        refine hQ' _ _ ⟨okU_past (by kernel_rfl), ?_⟩
        refine wpU_end (by kernel_rfl) ?_ _
        have cs1 := HMA.out.rec_.seq_
        have hwr := HWP.out
        go_wp2_with (refine stop_at none rfl ?_)
        have HST := Lib.hid (store5 (x := .int .i64 (seq + 1)) (ty := 3) (i := 4) HMA.out.row (by kernel_rfl) rfl rfl (by decide) (b' := { b with ints := b.ints ++ [(seq, (kx, mx))], next := seq + 1 }) (L' := L) (P' := P) (O' := (.slice A7 (b.ints.length + 1) c7)) rfl)
        refine Stop.go (wpList_store_agg rfl 3 rfl rfl rfl HST.out ?_)
        have HMB := Lib.hid (HMA.out.turn (b' := { b with ints := b.ints ++ [(seq, (kx, mx))], next := seq + 1 }) (L' := L) (P' := P) (O' := (.slice A7 (b.ints.length + 1) c7)) HMA.out.live HMA.out.pins HMA.out.ints)
        clear HST
        generalize wa.setRow w.heap.size (refCells ({ b with ints := b.ints ++ [(seq, (kx, mx))], next := seq + 1 }) (L) (P) ((.slice A7 (b.ints.length + 1) c7))).toArray = wb at *
        generalize hac : Act.put _ _ _ = a9
        simp [Act.put] at hac
        subst hac
        clear cs1 hwr
        go_wp2_with (refine stop_at (some 57) rfl ?_)
        refine Stop.go (wpList_load_agg rfl 30 rfl rfl book33_u rfl (cs := refCells { b with ints := b.ints ++ [(seq, (kx, mx))], next := seq + 1 } L P (.slice A7 (b.ints.length + 1) c7)) (book33_sz ..) HMB.out.row_all ?_)
        refine wpList_store_agg rfl 30 rfl rfl rfl HMB.out.end_ ?_
        have HX := Lib.hid HMB.out.done
        generalize wb.setRow (w.heap.size + 2) (refCells { b with ints := b.ints ++ [(seq, (kx, mx))], next := seq + 1 } L P (.slice A7 (b.ints.length + 1) c7)).toArray = wz at *
        generalize hac : Act.put _ _ _ = a9
        simp [Act.put] at hac
        subst hac
        go_wp2_with fail
        refine ret_ref33 rfl rfl rfl rfl HX.out.2.2 ?_
        exact HPO.out _ _ _ HF.out HWR.out HX.out.1 HX.out.2.1
    · refine wpList_build_one rfl 27 79 rfl rfl (vs := itemCells ((seq, (kx, mx)) : ItemD)) Tryz.underlying27 (item_info _) rfl (by rw [itemCells_len]; omega) (by rw [itemCells_len]; decide) ?_
      have hb6 : Below w4.heap.size w4 (w4.alloc (.cells (itemCells ((seq, (kx, mx)) : ItemD)).toArray 79)) := (Below.refl _ _).alloc (Nat.le_refl _) _
      have hsz6 := HBB.out.size
      have HB6 := Lib.hid (HBB.out.trans (hb6.mono hsz6))
      have HR6 := Lib.hid (Go.heap_alloc_new w4 (.cells (itemCells ((seq, (kx, mx)) : ItemD)).toArray 79))
      clear hb6 hsz6
      generalize w4.alloc (.cells (itemCells ((seq, (kx, mx)) : ItemD)).toArray 79) = v6 at *
      generalize hac : Act.put _ _ _ = a9
      simp [Act.put] at hac
      subst hac
      refine hQ' _ _ ⟨okU HB6.out, ?_⟩
      refine wpU_one (i := 0) (by kernel_rfl) rfl (fun Q' hQ' => ?_)
      go_wp2_with fail
      have hb7 : Below v6.heap.size v6 (v6.alloc (.cells #[] 79)) := (Below.refl _ _).alloc (Nat.le_refl _) _
      have hsz7 := HB6.out.size
      have HE7 := Lib.hid (own_lit (t := 79) 67 hsz7)
      have HB7 := Lib.hid (HB6.out.trans (hb7.mono hsz7))
      have HR7 := Lib.hid ((hb7.block _ (Array.getElem?_eq_some_iff.1 HR6.out).1).trans HR6.out)
      have HNE7 := Lib.hid (show v6.heap.size ≠ w4.heap.size from Nat.ne_of_gt (Array.getElem?_eq_some_iff.1 HR6.out).1)
      clear hb7 hsz7
      generalize v6.alloc (.cells #[] 79) = v7 at *
      refine ⟨okU HB7.out, ?_⟩
      refine wpU_one (i := 3) (by kernel_rfl) rfl (fun Q' hQ' => ?_)
      have hsz8 := HB7.out.size
      have hil8 := HLL.out.2.2
      refine wpList_app item_app rfl rfl rfl rfl HE7.out (B := w4.heap.size) (news := icells b.ints) (m := b.ints.length) (HRO.out.below HB7.out) (icells_len _) icells_one ?_ ?_ hsz8 ?_
      · simp only [maxLen]; omega
      · omega
      intro v8v v8 hown8 hg8 _ _
      rw [Nat.zero_add, List.nil_append] at hown8
      obtain ⟨A6, c6, hv6, _, _⟩ := own_form hown8
      subst hv6
      have HB8 := Lib.hid (grown_below HB7.out hg8 HE7.out (Nat.le_refl _) hsz8)
      have HT8 := Lib.hid hown8
      have HR8 := Lib.hid ((hg8.block _ (Array.getElem?_eq_some_iff.1 HR7.out).1 (fun e => by injection e with e; exact HNE7.out e.symm)).trans HR7.out)
      clear hown8 hg8 hsz8 hil8
      generalize hac : Act.put _ _ _ = a9
      simp [Act.put] at hac
      subst hac
      refine hQ' _ _ ⟨okU HB8.out, ?_⟩
      refine wpU_one (i := 6) (by kernel_rfl) rfl (fun Q' hQ' => ?_)
      have hsz11 := HB8.out.size
      have hil11 := HLL.out.2.2
      refine wpList_app item_app rfl rfl rfl rfl HT8.out (Rd.row (B := v8.heap.size) HR8.out (Array.getElem?_eq_some_iff.1 HR8.out).1) (m := 1) (by rw [show (itemCells ((seq, (kx, mx)) : ItemD)).toArray.toList = itemCells ((seq, (kx, mx)) : ItemD) from rfl, itemCells_len]) (by intro u hu; exact itemCells_one _ u hu) ?_ ?_ hsz11 ?_
      · simp only [maxLen]; omega
      · omega
      intro v11v v11 hown11 hg11 _ _
      obtain ⟨A7, c7, hv7, _, _⟩ := own_form hown11
      subst hv7
      have HB11 := Lib.hid (grown_below HB8.out hg11 HT8.out (Nat.le_refl _) hsz11)
      have HM11 := Lib.hid (HM4.out.later HB11.out)
      have HS11 := Lib.hid (show SlR eItem v11 v11.heap.size (.slice A7 (b.ints.length + 1) c7) (b.ints ++ [((seq, (kx, mx)) : ItemD)]) from sl_of_own (E := eItem) (enc := itemCells) (fun _ _ => rfl) (by
        have ho := hown11
        rw [List.length_append, List.flatMap_append]
        show v11.ownsRow w4.heap.size 79 67 _ (b.ints.length + 1) _
        simpa [icells] using ho))
      clear hown11 hg11 hsz11 hil11
      generalize hac : Act.put _ _ _ = a9
      simp [Act.put] at hac
      subst hac
      refine hQ' _ _ ⟨okU_past (by kernel_rfl), ?_⟩
      refine wpU_one (i := 7) (by kernel_rfl) rfl (fun Q' hQ' => ?_)
      go_wp2_with fail
      refine ⟨okU_past (by kernel_rfl), ?_⟩
      refine wpU_one (i := 8) (by kernel_rfl) rfl (fun Q' hQ' => ?_)
      have HST := Lib.hid (store5 (x := .slice A7 (b.ints.length + 1) c7) (ty := 27) (i := 3) HM11.out.row (by kernel_rfl) rfl rfl (by decide) (b' := { b with ints := b.ints ++ [(seq, (kx, mx))] }) (L' := L) (P' := P) (O' := (.slice A7 (b.ints.length + 1) c7)) rfl)
      refine (wpList_store_agg rfl 27 rfl rfl rfl HST.out ?_)
      have HMA := Lib.hid (HM11.out.turn (b' := { b with ints := b.ints ++ [(seq, (kx, mx))] }) (L' := L) (P' := P) (O' := (.slice A7 (b.ints.length + 1) c7)) HM11.out.live HM11.out.pins HS11.out)
      clear HST
      generalize v11.setRow w.heap.size (refCells ({ b with ints := b.ints ++ [(seq, (kx, mx))] }) (L) (P) ((.slice A7 (b.ints.length + 1) c7))).toArray = wa at *
      generalize hac : Act.put _ _ _ = a9
      simp [Act.put] at hac
      subst hac
      refine hQ' _ _ ⟨okU_past (by kernel_rfl), ?_⟩
      refine wpU_end (by kernel_rfl) ?_ _
      have cs1 := HMA.out.rec_.seq_
      have hwr := HWP.out
      go_wp2_with (refine stop_at none rfl ?_)
      have HST := Lib.hid (store5 (x := .int .i64 (seq + 1)) (ty := 3) (i := 4) HMA.out.row (by kernel_rfl) rfl rfl (by decide) (b' := { b with ints := b.ints ++ [(seq, (kx, mx))], next := seq + 1 }) (L' := L) (P' := P) (O' := (.slice A7 (b.ints.length + 1) c7)) rfl)
      refine Stop.go (wpList_store_agg rfl 3 rfl rfl rfl HST.out ?_)
      have HMB := Lib.hid (HMA.out.turn (b' := { b with ints := b.ints ++ [(seq, (kx, mx))], next := seq + 1 }) (L' := L) (P' := P) (O' := (.slice A7 (b.ints.length + 1) c7)) HMA.out.live HMA.out.pins HMA.out.ints)
      clear HST
      generalize wa.setRow w.heap.size (refCells ({ b with ints := b.ints ++ [(seq, (kx, mx))], next := seq + 1 }) (L) (P) ((.slice A7 (b.ints.length + 1) c7))).toArray = wb at *
      generalize hac : Act.put _ _ _ = a9
      simp [Act.put] at hac
      subst hac
      clear cs1 hwr
      go_wp2_with (refine stop_at (some 57) rfl ?_)
      refine Stop.go (wpList_load_agg rfl 30 rfl rfl book33_u rfl (cs := refCells { b with ints := b.ints ++ [(seq, (kx, mx))], next := seq + 1 } L P (.slice A7 (b.ints.length + 1) c7)) (book33_sz ..) HMB.out.row_all ?_)
      refine wpList_store_agg rfl 30 rfl rfl rfl HMB.out.end_ ?_
      have HX := Lib.hid HMB.out.done
      generalize wb.setRow (w.heap.size + 2) (refCells { b with ints := b.ints ++ [(seq, (kx, mx))], next := seq + 1 } L P (.slice A7 (b.ints.length + 1) c7)).toArray = wz at *
      generalize hac : Act.put _ _ _ = a9
      simp [Act.put] at hac
      subst hac
      go_wp2_with fail
      refine ret_ref33 rfl rfl rfl rfl HX.out.2.2 ?_
      exact HPO.out _ _ _ HF.out HWR.out HX.out.1 HX.out.2.1
  rcases Bool.eq_false_or_eq_true (kind == 3) with hk3 | hk3
  · have HK := Lib.hid hk3
    have hkk : r.kind = 3 := by rw [HRK.out.1]; simpa using HK.out
    have HMI := Lib.hid (show ∀ z, (findI b.ints r.seq).isSome = z → mayD b r = z from fun z h => by
      cases z
      · exact HMN.out (by rw [if_neg (by omega), if_pos hkk]; exact h)
      · exact HMY.out (by rw [if_neg (by omega), if_pos hkk]; exact h))
    have HKK := Lib.hid hkk
    rw [HRK.out.2.1] at HMI
    clear hkk
    obtain ⟨AO, cO, hoe, hco, hcm⟩ := HM3.out.ints.form
    subst hoe
    have HIL3 := HLL.out.2.2
    go_wp2_with fail
    go_loopw [7] (fun v7 wr => ∃ i : Nat, i ≤ b.ints.length ∧ v7 = .int .i64 i ∧ Hid (∀ (j : Nat) (y : ItemD), j < i → b.ints[j]? = some y → y.1 ≠ seq) ∧ Hid (Below w3.heap.size w3 wr)) (fun v7 _ => b.ints.length - (intOf v7).toNat)
    case atStart => exact ⟨0, Nat.zero_le _, rfl, (fun j y hj _ => by omega), Below.refl _ _⟩
    case round =>
      obtain ⟨i, hi, rfl, HF, HB⟩ := hrel
      have HR := Lib.hid (HM3.out.later HB.out)
      have c3 := (row_cell5 HR.out.row).2.2.2.1
      by_cases hlt : i < b.ints.length
      · have cs := HR.out.rec_.seq_
        obtain ⟨q, off, cs', hAO, _, hqB, hrep, hcell⟩ := HR.out.ints.get hlt (by decide)
        subst hAO
        obtain ⟨x, hx⟩ : ∃ x, x = b.ints[i] := ⟨_, rfl⟩
        rw [← hx] at hrep
        have hrep : cs' = itemCells x := hrep
        subst hrep
        have HX := Lib.hid (show b.ints[i]? = some x by rw [hx]; exact List.getElem?_eq_getElem hlt)
        have HC := Lib.hid (show ∀ j u, (itemCells x)[j]? = some u → wr.cell? ⟨q, off + i * 67 + j, none⟩ = some u from fun j u hu => by rw [Nat.add_assoc]; exact hcell j u hu)
        have HQB := Lib.hid hqB
        have ci : wr.cell? ⟨q, off + i * 67, none⟩ = some (.int .i64 x.1) := HC.out 0 _ rfl
        have HBW := Lib.hid HB.out
        clear hcell hx hqB HB
        go_wp2_with fail
        refine Text.wp_text [] (by kernel_rfl) (by kernel_rfl) (fun Q' hQ' => ?_)
        have HRd := Lib.hid HR.out.drew
        have HCd := Lib.hid (show ∀ j u, (itemCells x)[j]? = some u → wr.drew.cell? ⟨q, off + i * 67 + j, none⟩ = some u from HC.out)
        have c3d : wr.drew.cell? ⟨w.heap.size, 3, none⟩ = _ := c3
        have csd : wr.drew.cell? ⟨w.heap.size + 1, 1, none⟩ = _ := cs
        have cid : wr.drew.cell? ⟨q, off + i * 67, none⟩ = _ := ci
        have HBd := Lib.hid (show Below w3.heap.size w3 wr.drew from HBW.out.drew)
        clear HR HC c3 cs ci HBW
        generalize wr.drew = w4 at *
        rcases Bool.eq_false_or_eq_true (x.1 == seq) with hxs | hxs
        · have HXS := Lib.hid (show x.1 = seq by simpa using hxs)
          go_wp2_with fail
          refine ⟨by rfl, ?_⟩
          go_wp2_with fail
          refine Text.wp_text [] (by kernel_rfl) (by kernel_rfl) (fun Q' hQ' => ?_)
          have HM4 := Lib.hid HRd.out.drew
          have HC4 := Lib.hid (show ∀ j u, (itemCells x)[j]? = some u → w4.drew.cell? ⟨q, off + i * 67 + j, none⟩ = some u from HCd.out)
          have c34 : w4.drew.cell? ⟨w.heap.size, 3, none⟩ = _ := c3d
          clear HRd HCd c3d csd cid HBd
          generalize w4.drew = w5 at *
          have c15 := (row_cell5 HM4.out.row).2.1
          obtain ⟨AL, cL, hle, _, _⟩ := HM4.out.live.form
          subst hle
          go_wp2_with (refine stop_at (some 83) rfl ?_)
          refine Stop.go (wpList_load_agg rfl 79 rfl rfl itemTy_u rfl (cs := itemCells x) (item_size x) HC4.out ?_)
          generalize hac : Act.put _ _ _ = a9
          simp [Act.put] at hac
          subst hac
          go_wp2_with fail
          refine (with_any (liveI b.live) x AL _ cL w5.heap.size w5 HM4.out.live (Nat.le_refl _) (by rw [liveI_len]; have := HLL.out.1; omega)).mono ?_
          rintro e w6 ⟨v6, rfl, ho6, hb6⟩
          have HM6 := Lib.hid (HM4.out.later hb6)
          have HS6 := Lib.hid (show SlR eItem w6 w6.heap.size v6 (liveI (putL x.2.1 x.2.2 b.live)) by
            have := sl_of_own (E := eItem) (enc := itemCells) (fun _ _ => rfl) ho6
            rw [← liveI_put]
            exact this)
          obtain ⟨A6, c6, hv6, _, _⟩ := HS6.out.form
          subst hv6
          clear ho6 hb6 HM4 HC4 c34 c15
          go_wp2_with (refine stop_at none rfl ?_)
          have HST := Lib.hid (store5 (x := .slice A6 (liveI (putL x.2.1 x.2.2 b.live)).length c6) (ty := 27) (i := 1) HM6.out.row (by kernel_rfl) rfl rfl (by decide) (b' := { b with live := putL x.2.1 x.2.2 b.live }) (L' := (.slice A6 (liveI (putL x.2.1 x.2.2 b.live)).length c6)) (P' := P) (O' := (.slice (some ⟨q, off, none⟩) b.ints.length cO)) rfl)
          refine Stop.go (wpList_store_agg rfl 27 rfl rfl rfl HST.out ?_)
          have HM7 := Lib.hid (HM6.out.turn (b' := { b with live := putL x.2.1 x.2.2 b.live }) (L' := (.slice A6 (liveI (putL x.2.1 x.2.2 b.live)).length c6)) (P' := P) (O' := (.slice (some ⟨q, off, none⟩) b.ints.length cO)) HS6.out HM6.out.pins HM6.out.ints)
          clear HST
          generalize w6.setRow w.heap.size (refCells ({ b with live := putL x.2.1 x.2.2 b.live }) ((.slice A6 (liveI (putL x.2.1 x.2.2 b.live)).length c6)) (P) ((.slice (some ⟨q, off, none⟩) b.ints.length cO))).toArray = w7 at *
          generalize hac : Act.put _ _ _ = a9
          simp [Act.put] at hac
          subst hac
          go_wp2_with fail
          refine ⟨by rfl, ?_⟩
          have c37 := (row_cell5 HM7.out.row).2.2.2.1
          have hil := HLL.out.2.2
          have hs7 := HM7.out.lt
          have c37a : (w7.alloc (.cells #[] 79)).cell? ⟨w.heap.size, 3, none⟩ = _ := (((Below.refl w7.heap.size w7).alloc (Nat.le_refl _) (.cells #[] 79)).cell (p := ⟨w.heap.size, 3, none⟩) (by show w.heap.size < _; omega)).trans c37
          go_wp2_with (refine stop_at (some 90) rfl ?_)
          clear c37a
          have hb8 : Below w7.heap.size w7 (w7.alloc (.cells #[] 79)) := (Below.refl _ _).alloc (Nat.le_refl _) _
          have HO8 := Lib.hid (own_lit (t := 79) 67 (Nat.le_refl w7.heap.size))
          have HB8 := Lib.hid hb8
          have HR7 := Lib.hid (rd_of_sl HM7.out.ints)
          refine Stop.go (wpList_val rfl (exec_slice_to (s := 67) (n := b.ints.length) (m := i) (fun _ => by kernel_rfl) Tryz.underlying27 rfl rfl rfl (by omega)) ?_)
          generalize w7.alloc (.cells #[] 79) = w8 at *
          have hbw8 := HB8.out.size
          refine wpList_app item_app rfl rfl rfl rfl HO8.out (B := w7.heap.size) (news := icells (b.ints.take i)) (m := i) (by
            have hr := (HR7.out.below HB8.out).cutS (c := cO) (k := 0) (s := 67) (by rw [icells_len]; exact Nat.mul_le_mul_right _ hco)
            rw [Nat.zero_mul, List.drop_zero] at hr
            rw [icells_take]
            exact hr.take_ _) (by rw [icells_len, List.length_take, Nat.min_eq_left (by omega)]) icells_one ?_ ?_ hbw8 ?_
          · simp only [maxLen]; omega
          · omega
          intro v9 w9 hown9 hg9 _ _
          rw [Nat.zero_add, List.nil_append] at hown9
          obtain ⟨A9, c9, hv9, _, _⟩ := own_form hown9
          subst hv9
          have HB9 := Lib.hid (grown_below HB8.out hg9 HO8.out (Nat.le_refl _) hbw8)
          have HO9 := Lib.hid hown9
          have c39 := (HB9.out.cell (p := ⟨w.heap.size, 3, none⟩) (by show w.heap.size < _; omega)).trans c37
          clear hown9 hg9 HO8 HB8 hb8 hbw8 c37
          generalize hac : Act.put _ _ _ = a9
          simp [Act.put] at hac
          subst hac
          have hwr : IntKind.i64.wrap ((i : Int) + 1) = ((i + 1 : Nat) : Int) := by simp [IntKind.wrap, IntKind.bits, IntKind.signed]; omega
          go_wp2_with (refine stop_at (some 97) rfl ?_)
          refine Stop.go (wpList_val rfl (exec_slice_from (s := 67) (n := b.ints.length) (m := i + 1) (fun _ => by kernel_rfl) Tryz.underlying27 rfl rfl (by first | rfl | exact congrArg (Value.int .i64) hwr | (simp [Act.eval]; done)) (by omega)) ?_)
          have hbw9 := HB9.out.size
          refine wpList_app item_app rfl rfl rfl rfl HO9.out (B := w7.heap.size) (news := icells (b.ints.drop (i + 1))) (m := b.ints.length - (i + 1)) (by
            have hr := (HR7.out.below HB9.out).cutS (c := cO) (k := i + 1) (s := 67) (by rw [icells_len]; exact Nat.mul_le_mul_right _ hco)
            rw [icells_drop]
            exact hr) (by rw [icells_len, List.length_drop]) icells_one ?_ ?_ hbw9 ?_
          · simp only [maxLen]; omega
          · omega
          intro v10 w10 hown10 hg10 _ _
          obtain ⟨A10, c10, hv10, _, _⟩ := own_form hown10
          subst hv10
          have HB10 := Lib.hid (grown_below HB9.out hg10 HO9.out (Nat.le_refl _) hbw9)
          have HM10 := Lib.hid (HM7.out.later HB10.out)
          have HFD := Lib.hid (find_at HF.out HX.out HXS.out)
          have hnl : i + (b.ints.length - (i + 1)) = (dropI b.ints seq).length := by rw [HFD.out.2, List.length_append, List.length_take, List.length_drop]; omega
          rw [hnl] at hown10 ⊢
          have HS10 := Lib.hid (show SlR eItem w10 w10.heap.size (.slice A10 (dropI b.ints seq).length c10) (dropI b.ints seq) from sl_of_own (E := eItem) (enc := itemCells) (fun _ _ => rfl) (by
            have ho := hown10
            show w10.ownsRow w7.heap.size _ 67 _ _ _
            have e : (dropI b.ints seq).flatMap itemCells = icells (b.ints.take i) ++ icells (b.ints.drop (i + 1)) := by rw [HFD.out.2, List.flatMap_append]; rfl
            rw [e]
            exact ho))
          clear hown10 hg10 HO9 HB9 HB10 hnl c39 hwr
          generalize hac : Act.put _ _ _ = a9
          simp [Act.put] at hac
          subst hac
          go_wp2_with (refine stop_at none rfl ?_)
          have HST := Lib.hid (store5 (x := .slice A10 (dropI b.ints seq).length c10) (ty := 27) (i := 3) HM10.out.row (by kernel_rfl) rfl rfl (by decide) (b' := { b with live := putL x.2.1 x.2.2 b.live, ints := dropI b.ints seq }) (L' := (.slice A6 (liveI (putL x.2.1 x.2.2 b.live)).length c6)) (P' := P) (O' := (.slice A10 (dropI b.ints seq).length c10)) rfl)
          refine Stop.go (wpList_store_agg rfl 27 rfl rfl rfl HST.out ?_)
          have HM11 := Lib.hid (HM10.out.turn (b' := { b with live := putL x.2.1 x.2.2 b.live, ints := dropI b.ints seq }) (L' := (.slice A6 (liveI (putL x.2.1 x.2.2 b.live)).length c6)) (P' := P) (O' := (.slice A10 (dropI b.ints seq).length c10)) HM10.out.live HM10.out.pins HS10.out)
          clear HST
          generalize w10.setRow w.heap.size (refCells ({ b with live := putL x.2.1 x.2.2 b.live, ints := dropI b.ints seq }) ((.slice A6 (liveI (putL x.2.1 x.2.2 b.live)).length c6)) (P) ((.slice A10 (dropI b.ints seq).length c10))).toArray = w11 at *
          generalize hac : Act.put _ _ _ = a9
          simp [Act.put] at hac
          subst hac
          go_wp2_with (refine stop_at (some 100) rfl ?_)
          refine Stop.go (wpList_load_agg rfl 30 rfl rfl book33_u rfl (cs := refCells { b with live := putL x.2.1 x.2.2 b.live, ints := dropI b.ints seq } (.slice A6 (liveI (putL x.2.1 x.2.2 b.live)).length c6) P (.slice A10 (dropI b.ints seq).length c10)) (book33_sz ..) HM11.out.row_all ?_)
          refine wpList_store_agg rfl 30 rfl rfl rfl HM11.out.end_ ?_
          have HX := Lib.hid HM11.out.done
          generalize w11.setRow (w.heap.size + 2) (refCells { b with live := putL x.2.1 x.2.2 b.live, ints := dropI b.ints seq } (.slice A6 (liveI (putL x.2.1 x.2.2 b.live)).length c6) P (.slice A10 (dropI b.ints seq).length c10)).toArray = wz at *
          generalize hac : Act.put _ _ _ = a9
          simp [Act.put] at hac
          subst hac
          go_wp2_with fail
          refine ret_ref33 rfl rfl rfl rfl HX.out.2.2 ?_
          have hwr3 := write_3 (b := b) (r := r) (i := x) HKK.out (by rw [HRK.out.2.1]; exact HFD.out.1)
          rw [HRK.out.2.1] at hwr3
          exact HPO.out _ _ _ (HMI.out _ (by rw [HFD.out.1]; rfl)) hwr3 HX.out.1 HX.out.2.1
        · have HXN := Lib.hid (show x.1 ≠ seq by simpa using hxs)
          go_wp2_with fail
          refine ⟨by rfl, ?_⟩
          go_wp2_with fail
          go_roundw
          case rel =>
            refine ⟨i + 1, by omega, by go_num, ?_, HBd.out⟩
            intro j y hj hy
            by_cases hji : j = i
            · subst hji
              rw [HX.out] at hy
              injection hy with hy
              rw [← hy]
              exact HXN.out
            · exact HF.out j y (by omega) hy
          case measure => simp [intOf]; omega
      · have HNF := Lib.hid (show mayD b r = false from HMI.out _ (by
          rw [find_none (fun j y hy => HF.out j y (by have := (List.getElem?_eq_some_iff.1 hy).1; omega) hy)]
          rfl))
        go_wp2_with (refine stop_at (some 101) rfl ?_)
        refine Stop.go (wpList_load_agg rfl 30 rfl rfl book33_u rfl (cs := refCells b L P (.slice AO b.ints.length cO)) (book33_sz ..) HR.out.row_all ?_)
        refine wpList_store_agg rfl 30 rfl rfl rfl HR.out.end_ ?_
        have HX := Lib.hid HR.out.done
        generalize wr.setRow (w.heap.size + 2) (refCells b L P (.slice AO b.ints.length cO)).toArray = wz at *
        generalize hac : Act.put _ _ _ = a9
        simp [Act.put] at hac
        subst hac
        go_wp2_with fail
        refine ret_ref33 rfl rfl rfl rfl HX.out.2.2 ?_
        exact refTo_no HNF.out HX.out.1 HX.out.2.1
  rcases Bool.eq_false_or_eq_true (kind == 4) with hk4 | hk4
  · have HK := Lib.hid hk4
    have hkk : r.kind = 4 := by rw [HRK.out.1]; simpa using HK.out
    have HF := Lib.hid (HMY.out (by rw [if_neg (by omega), if_neg (by omega)]))
    have HWR := Lib.hid (write_4 (b := b) hkk)
    have hn0 : n = 0 := by rw [HN.out, HBND.out.2.2.2.1 (by omega)]; rfl
    subst hn0
    have hkv : kind = 4 := by simpa using HK.out
    have hx5 : (kind == 5) = false := by rw [hkv]; rfl
    have hx6 : (kind == 6) = false := by rw [hkv]; rfl
    clear hkk hkv
    rw [← HRK.out.2.2.1, ← HRK.out.2.2.2] at HWR
    obtain ⟨AL, cL, hle, _, _⟩ := HM3.out.live.form
    subst hle
    have cf := (row_cell5 HM3.out.row).2.1
    go_wp2_with (refine stop_at (some 107) rfl ?_)
    refine Stop.go (wpList_load_agg rfl 79 rfl rfl itemTy_u rfl (cs := itemCells (seq, (kx, mx))) (item_size _) HIT.out ?_)
    generalize hac : Act.put _ _ _ = a9
    simp [Act.put] at hac
    subst hac
    go_wp2_with fail
    refine (with_any (liveI b.live) (seq, (kx, mx)) AL _ cL w3.heap.size w3 HM3.out.live (Nat.le_refl _) (by rw [liveI_len]; have := HLL.out.1; omega)).mono ?_
    rintro e w4 ⟨v4, rfl, ho4, hb4⟩
    have HM4 := Lib.hid (HM3.out.later hb4)
    have HS4 := Lib.hid (show SlR eItem w4 w4.heap.size v4 (liveI (putL kx mx b.live)) from by have := sl_of_own (E := eItem) (enc := itemCells) (fun _ _ => rfl) ho4; rw [liveI_put] at this; exact this)
    obtain ⟨A4, c4, hv4, _, _⟩ := HS4.out.form
    subst hv4
    clear ho4 hb4 cf
    go_wp2_with (refine stop_at none rfl ?_)
    have HST := Lib.hid (store5 (x := .slice A4 (liveI (putL kx mx b.live)).length c4) (ty := 27) (i := 1) HM4.out.row (by kernel_rfl) rfl rfl (by decide) (b' := { b with live := putL kx mx b.live }) (L' := (.slice A4 (liveI (putL kx mx b.live)).length c4)) (P' := P) (O' := O) rfl)
    refine Stop.go (wpList_store_agg rfl 27 rfl rfl rfl HST.out ?_)
    have HM5 := Lib.hid (HM4.out.turn (b' := { b with live := putL kx mx b.live }) (L' := (.slice A4 (liveI (putL kx mx b.live)).length c4)) (P' := P) (O' := O) HS4.out HM4.out.pins HM4.out.ints)
    clear HST
    generalize w4.setRow w.heap.size (refCells ({ b with live := putL kx mx b.live }) ((.slice A4 (liveI (putL kx mx b.live)).length c4)) (P) (O)).toArray = w5 at *
    generalize hac : Act.put _ _ _ = a9
    simp [Act.put] at hac
    subst hac
    have c1 := HM5.out.rec_.kind_
    have ck := HM5.out.rec_.keys_
    go_wp2_with fail
    go_loopw [9] (fun v9 wr => v9 = .int .i64 0 ∧ Hid (wr = w5)) (fun _ _ => 0)
    case atStart => exact ⟨rfl, rfl⟩
    case round =>
      obtain ⟨rfl, HW⟩ := hrel
      have hw := HW.out
      subst hw
      go_wp2_with (refine stop_at (some 144) rfl ?_)
      refine Stop.go (wpList_load_agg rfl 30 rfl rfl book33_u rfl (cs := refCells { b with live := putL kx mx b.live } (.slice A4 (liveI (putL kx mx b.live)).length c4) P O) (book33_sz ..) HM5.out.row_all ?_)
      refine wpList_store_agg rfl 30 rfl rfl rfl HM5.out.end_ ?_
      have HX := Lib.hid HM5.out.done
      generalize wr.setRow (w.heap.size + 2) (refCells { b with live := putL kx mx b.live } (.slice A4 (liveI (putL kx mx b.live)).length c4) P O).toArray = wz at *
      generalize hac : Act.put _ _ _ = a9
      simp [Act.put] at hac
      subst hac
      go_wp2_with fail
      refine ret_ref33 rfl rfl rfl rfl HX.out.2.2 ?_
      exact HPO.out _ _ _ HF.out HWR.out HX.out.1 HX.out.2.1
  rcases Bool.eq_false_or_eq_true (kind == 5) with hk5 | hk5
  · have HK := Lib.hid hk5
    have hkk : r.kind = 5 := by rw [HRK.out.1]; simpa using HK.out
    have HF := Lib.hid (HMY.out (by rw [if_neg (by omega), if_neg (by omega)]))
    have HWR := Lib.hid (write_5 (b := b) hkk)
    have hn0 : n = 0 := by rw [HN.out, HBND.out.2.2.2.1 (by omega)]; rfl
    subst hn0
    have hkv : kind = 5 := by simpa using HK.out
    have hx6 : (kind == 6) = false := by rw [hkv]; rfl
    clear hkk hkv
    rw [← HRK.out.2.2.1] at HWR
    obtain ⟨AL, cL, hle, _, _⟩ := HM3.out.pins.form
    subst hle
    have cf := (row_cell5 HM3.out.row).2.2.1
    go_wp2_with (refine stop_at (some 116) rfl ?_)
    refine Stop.go (wpList_load_agg rfl 34 rfl rfl keyTy.ut rfl (cs := encK kx) (key_size _ _ kx.2) HM3.out.rec_.key_ ?_)
    generalize hac : Act.put _ _ _ = a9
    simp [Act.put] at hac
    subst hac
    go_wp2_with fail
    refine (pin_any b.pins kx AL _ cL w3.heap.size w3 HM3.out.pins (Nat.le_refl _) (by have := HLL.out.2.1; omega)).mono ?_
    rintro e w4 ⟨v4, rfl, ho4, hb4⟩
    have HM4 := Lib.hid (HM3.out.later hb4)
    have HS4 := Lib.hid (show SlR eK w4 w4.heap.size v4 (pinL kx b.pins) from sl_of_own (E := eK) (enc := encK) (fun _ _ => rfl) ho4)
    obtain ⟨A4, c4, hv4, _, _⟩ := HS4.out.form
    subst hv4
    clear ho4 hb4 cf
    go_wp2_with (refine stop_at none rfl ?_)
    have HST := Lib.hid (store5 (x := .slice A4 (pinL kx b.pins).length c4) (ty := 28) (i := 2) HM4.out.row (by kernel_rfl) rfl rfl (by decide) (b' := { b with pins := pinL kx b.pins }) (L' := L) (P' := (.slice A4 (pinL kx b.pins).length c4)) (O' := O) rfl)
    refine Stop.go (wpList_store_agg rfl 28 rfl rfl rfl HST.out ?_)
    have HM5 := Lib.hid (HM4.out.turn (b' := { b with pins := pinL kx b.pins }) (L' := L) (P' := (.slice A4 (pinL kx b.pins).length c4)) (O' := O) HM4.out.live HS4.out HM4.out.ints)
    clear HST
    generalize w4.setRow w.heap.size (refCells ({ b with pins := pinL kx b.pins }) (L) ((.slice A4 (pinL kx b.pins).length c4)) (O)).toArray = w5 at *
    generalize hac : Act.put _ _ _ = a9
    simp [Act.put] at hac
    subst hac
    have c1 := HM5.out.rec_.kind_
    have ck := HM5.out.rec_.keys_
    go_wp2_with fail
    go_loopw [9] (fun v9 wr => v9 = .int .i64 0 ∧ Hid (wr = w5)) (fun _ _ => 0)
    case atStart => exact ⟨rfl, rfl⟩
    case round =>
      obtain ⟨rfl, HW⟩ := hrel
      have hw := HW.out
      subst hw
      go_wp2_with (refine stop_at (some 144) rfl ?_)
      refine Stop.go (wpList_load_agg rfl 30 rfl rfl book33_u rfl (cs := refCells { b with pins := pinL kx b.pins } L (.slice A4 (pinL kx b.pins).length c4) O) (book33_sz ..) HM5.out.row_all ?_)
      refine wpList_store_agg rfl 30 rfl rfl rfl HM5.out.end_ ?_
      have HX := Lib.hid HM5.out.done
      generalize wr.setRow (w.heap.size + 2) (refCells { b with pins := pinL kx b.pins } L (.slice A4 (pinL kx b.pins).length c4) O).toArray = wz at *
      generalize hac : Act.put _ _ _ = a9
      simp [Act.put] at hac
      subst hac
      go_wp2_with fail
      refine ret_ref33 rfl rfl rfl rfl HX.out.2.2 ?_
      exact HPO.out _ _ _ HF.out HWR.out HX.out.1 HX.out.2.1
  rcases Bool.eq_false_or_eq_true (kind == 6) with hk6 | hk6
  · have HK := Lib.hid hk6
    have hkk : r.kind = 6 := by rw [HRK.out.1]; simpa using HK.out
    have HF := Lib.hid (HMY.out (by rw [if_neg (by omega), if_neg (by omega)]))
    have HWR := Lib.hid (write_6 (b := b) hkk)
    have hn0 : n = 0 := by rw [HN.out, HBND.out.2.2.2.1 (by omega)]; rfl
    subst hn0
    have hkv : kind = 6 := by simpa using HK.out
    clear hkk hkv
    rw [← HRK.out.2.2.1] at HWR
    obtain ⟨AL, cL, hle, _, _⟩ := HM3.out.pins.form
    subst hle
    have cf := (row_cell5 HM3.out.row).2.2.1
    go_wp2_with (refine stop_at (some 125) rfl ?_)
    refine Stop.go (wpList_load_agg rfl 34 rfl rfl keyTy.ut rfl (cs := encK kx) (key_size _ _ kx.2) HM3.out.rec_.key_ ?_)
    generalize hac : Act.put _ _ _ = a9
    simp [Act.put] at hac
    subst hac
    go_wp2_with fail
    refine (unpin_any b.pins kx AL _ cL w3.heap.size w3 HM3.out.pins (Nat.le_refl _) (by have := HLL.out.2.1; omega)).mono ?_
    rintro e w4 ⟨v4, rfl, ho4, hb4⟩
    have HM4 := Lib.hid (HM3.out.later hb4)
    have HS4 := Lib.hid (show SlR eK w4 w4.heap.size v4 (unpinL b.pins kx) from sl_of_own (E := eK) (enc := encK) (fun _ _ => rfl) ho4)
    obtain ⟨A4, c4, hv4, _, _⟩ := HS4.out.form
    subst hv4
    clear ho4 hb4 cf
    go_wp2_with (refine stop_at none rfl ?_)
    have HST := Lib.hid (store5 (x := .slice A4 (unpinL b.pins kx).length c4) (ty := 28) (i := 2) HM4.out.row (by kernel_rfl) rfl rfl (by decide) (b' := { b with pins := unpinL b.pins kx }) (L' := L) (P' := (.slice A4 (unpinL b.pins kx).length c4)) (O' := O) rfl)
    refine Stop.go (wpList_store_agg rfl 28 rfl rfl rfl HST.out ?_)
    have HM5 := Lib.hid (HM4.out.turn (b' := { b with pins := unpinL b.pins kx }) (L' := L) (P' := (.slice A4 (unpinL b.pins kx).length c4)) (O' := O) HM4.out.live HS4.out HM4.out.ints)
    clear HST
    generalize w4.setRow w.heap.size (refCells ({ b with pins := unpinL b.pins kx }) (L) ((.slice A4 (unpinL b.pins kx).length c4)) (O)).toArray = w5 at *
    generalize hac : Act.put _ _ _ = a9
    simp [Act.put] at hac
    subst hac
    have c1 := HM5.out.rec_.kind_
    have ck := HM5.out.rec_.keys_
    go_wp2_with fail
    go_loopw [9] (fun v9 wr => v9 = .int .i64 0 ∧ Hid (wr = w5)) (fun _ _ => 0)
    case atStart => exact ⟨rfl, rfl⟩
    case round =>
      obtain ⟨rfl, HW⟩ := hrel
      have hw := HW.out
      subst hw
      go_wp2_with (refine stop_at (some 144) rfl ?_)
      refine Stop.go (wpList_load_agg rfl 30 rfl rfl book33_u rfl (cs := refCells { b with pins := unpinL b.pins kx } L (.slice A4 (unpinL b.pins kx).length c4) O) (book33_sz ..) HM5.out.row_all ?_)
      refine wpList_store_agg rfl 30 rfl rfl rfl HM5.out.end_ ?_
      have HX := Lib.hid HM5.out.done
      generalize wr.setRow (w.heap.size + 2) (refCells { b with pins := unpinL b.pins kx } L (.slice A4 (unpinL b.pins kx).length c4) O).toArray = wz at *
      generalize hac : Act.put _ _ _ = a9
      simp [Act.put] at hac
      subst hac
      go_wp2_with fail
      refine ret_ref33 rfl rfl rfl rfl HX.out.2.2 ?_
      exact HPO.out _ _ _ HF.out HWR.out HX.out.1 HX.out.2.1
  have HK := Lib.hid (show kind = 7 by
    have h := HBND.out.2.2.2.2
    rw [HRK.out.1] at h
    simp only [beq_eq_false_iff_ne, ne_eq] at hk1 hk2 hk3 hk4 hk5 hk6
    omega)
  have hkk : r.kind = 7 := by rw [HRK.out.1]; exact HK.out
  have HF := Lib.hid (HMY.out (by rw [if_neg (by omega), if_neg (by omega)]))
  have HWR := Lib.hid (write_7 (b := b) hkk)
  clear hkk
  have HKN := Lib.hid (keys_len32 HM3.out.keys_)
  go_wp2_with fail
  go_loopw [9] (fun v9 wr => ∃ (i : Nat) (l' : List (K32 × K32)) (L' : Value), i ≤ r.keys.length ∧ v9 = .int .i64 i ∧ Hid (l' = (r.keys.take i).foldl (fun l k => outL l (k32 k)) b.live) ∧ Hid (MidR w wr { b with live := l' } L' P O kind seq kx mx (.slice A n c) r.keys)) (fun v9 _ => r.keys.length - (intOf v9).toNat)
  case atStart => exact ⟨0, b.live, L, Nat.zero_le _, rfl, rfl, HM3.out⟩
  case round =>
    obtain ⟨i, l', L', hi, rfl, HLF, HR⟩ := hrel
    have ck := HR.out.rec_.keys_
    have hcl := HR.out.keys_.n_le
    by_cases hlt : i < r.keys.length
    · have hnl : i < n := by have := HN.out; omega
      go_wp2_with fail
      refine Text.wp_text [] (by kernel_rfl) (by kernel_rfl) (fun Q' hQ' => ?_)
      have HD := Lib.hid HR.out.drew
      clear HR ck
      generalize wr.drew = w4 at *
      obtain ⟨q, off, rfl, hq, hcell, hkl⟩ := key_cells HD.out.keys_ hlt
      have HC := Lib.hid hcell
      obtain ⟨AL, cL, hle, _, _⟩ := HD.out.live.form
      subst hle
      have HLB := Lib.hid (show l'.length ≤ 10000 by rw [HLF.out]; exact Nat.le_trans (foldOut_sub _ _).length_le HLL.out.1)
      have cf := (row_cell5 HD.out.row).2.1
      have ck := HD.out.rec_.keys_
      clear hq hcell
      obtain ⟨kz, hkz⟩ : ∃ kz : K32, kz = k32 r.keys[i] := ⟨_, rfl⟩
      rw [← hkz] at HC
      have HKZ := Lib.hid hkz
      clear hkz hkl
      go_wp2_with (refine stop_at (some 141) rfl ?_)
      refine Stop.go (wpList_load_agg rfl 34 rfl rfl keyTy.ut rfl (cs := encK kz) (key_size _ _ kz.2) HC.out ?_)
      generalize hac : Act.put _ _ _ = a9
      simp [Act.put] at hac
      subst hac
      go_wp2_with fail
      refine (without_any (liveI l') kz AL _ cL w4.heap.size w4 HD.out.live (Nat.le_refl _) (by rw [liveI_len]; have := HLB.out; omega)).mono ?_
      rintro e w5 ⟨v5, rfl, ho5, hb5⟩
      have HM5 := Lib.hid (HD.out.later hb5)
      rw [liveI_out] at ho5
      have HS5 := Lib.hid (show SlR eItem w5 w5.heap.size v5 (liveI (outL l' kz)) from sl_of_own (E := eItem) (enc := itemCells) (fun _ _ => rfl) ho5)
      obtain ⟨A5, c5, hv5, _, _⟩ := own_form ho5
      subst hv5
      clear ho5 hb5 cf ck HD
      go_wp2_with (refine stop_at none rfl ?_)
      have HST := Lib.hid (store5 (x := .slice A5 (liveI (outL l' kz)).length c5) (ty := 27) (i := 1) HM5.out.row (by kernel_rfl) rfl rfl (by decide) (b' := { b with live := outL l' kz }) (L' := (.slice A5 (liveI (outL l' kz)).length c5)) (P' := P) (O' := O) rfl)
      refine Stop.go (wpList_store_agg rfl 27 rfl rfl rfl HST.out ?_)
      have HM6 := Lib.hid (HM5.out.turn (b' := { b with live := outL l' kz }) (L' := (.slice A5 (liveI (outL l' kz)).length c5)) (P' := P) (O' := O) HS5.out HM5.out.pins HM5.out.ints)
      clear HST
      generalize w5.setRow w.heap.size (refCells ({ b with live := outL l' kz }) ((.slice A5 (liveI (outL l' kz)).length c5)) (P) (O)).toArray = w6 at *
      generalize hac : Act.put _ _ _ = a9
      simp [Act.put] at hac
      subst hac
      go_wp2_with fail
      refine ⟨by rfl, ?_⟩
      go_wp2_with fail
      go_roundw
      case rel =>
        refine ⟨i + 1, outL l' kz, _, by omega, by go_num, ?_, HM6.out⟩
        rw [List.take_succ_eq_append_getElem hlt, List.foldl_append, ← HLF.out, HKZ.out]
        rfl
      case measure => simp [intOf]; omega
    · have hil : i = r.keys.length := by omega
      have HLV := Lib.hid (show l' = r.keys.foldl (fun l k => outL l (k32 k)) b.live by
        have := HLF.out
        rwa [hil, List.take_length] at this)
      have hnl : ¬ i < n := by have := HN.out; omega
      go_wp2_with (refine stop_at (some 144) rfl ?_)
      refine Stop.go (wpList_load_agg rfl 30 rfl rfl book33_u rfl (cs := refCells { b with live := l' } L' P O) (book33_sz ..) HR.out.row_all ?_)
      refine wpList_store_agg rfl 30 rfl rfl rfl HR.out.end_ ?_
      have HX := Lib.hid HR.out.done
      generalize wr.setRow (w.heap.size + 2) (refCells { b with live := l' } L' P O).toArray = wz at *
      generalize hac : Act.put _ _ _ = a9
      simp [Act.put] at hac
      subst hac
      go_wp2_with fail
      refine ret_ref33 rfl rfl rfl rfl HX.out.2.2 ?_
      refine HPO.out _ _ _ HF.out ?_ HX.out.1 HX.out.2.1
      rw [← HWR.out, HLV.out]
end Go.Proofs.YtplbcbamnjnhlaaGreatDoor
