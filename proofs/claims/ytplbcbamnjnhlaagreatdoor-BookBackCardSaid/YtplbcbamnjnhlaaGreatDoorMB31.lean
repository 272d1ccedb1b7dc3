import Derived.Test.YtplbcbamnjnhlaaGreatDoorMB28
import Derived.Test.YtplbcbamnjnhlaaGreatDoorMB30
import Derived.Test.YtplbcbamnjnhlaaGreatDoorMB26
namespace Go.Proofs.YtplbcbamnjnhlaaGreatDoor
open Go.RowKit

abbrev rplace32 : Nat → Option (Nat × Nat) := fun i => (#[((0 : Nat), (1 : Nat)), (1, 1), (2, 33), (35, 32), (67, 1), (68, 1)] : Array (Nat × Nat))[i]?
theorem build_live32 (p : K32 × K32) (w : World) : (Instr.build 42 #[(0, .int .i64 4), (2, kv p.1), (3, hashv p.2.1.1), (4, .int .i64 p.2.1.2)]).run Tryz.prog w = .ok (rv (liveR p) (.slice none 0 0)) w := by
  unfold Instr.build
  simp only [Sem.run_bind, zero_rec32, Result.andThen_ok, recv_cells, run_underlying rec32Ty_u, rec32Ty, fields_rec32]
  have l1 := encK_len p.1
  have l2 : (bcells p.2.1.1).length = 32 := by rw [bcells_length, p.2.2]
  have h0 := fill_at (place := rplace32) (i := 0) (off := 0) (v := .int .i64 4) (vs := [.int .i64 4]) (rest := [(2, kv p.1), (3, hashv p.2.1.1), (4, .int .i64 p.2.1.2)]) (cs := recCells 0 0 z32 0 z32 0 (.slice none 0 0)) (cs' := [.int .i64 4, .int .i64 0] ++ (hkCells z32 0 ++ (hkCells z32 0 ++ [.slice none 0 0]))) rfl rfl (by decide) rfl
  have h1 := fill_at (place := rplace32) (i := 2) (off := 2) (v := kv p.1) (vs := encK p.1) (rest := [(3, hashv p.2.1.1), (4, .int .i64 p.2.1.2)]) (cs := [.int .i64 4, .int .i64 0] ++ (hkCells z32 0 ++ (hkCells z32 0 ++ [.slice none 0 0]))) (cs' := [.int .i64 4, .int .i64 0] ++ (encK p.1 ++ (hkCells z32 0 ++ [.slice none 0 0]))) rfl (by rw [l1]; rfl) (by rw [l1]; decide) (by rw [l1]; rfl)
  have h2 := fill_at (place := rplace32) (i := 3) (off := 35) (v := hashv p.2.1.1) (vs := bcells p.2.1.1) (rest := [(4, .int .i64 p.2.1.2)]) (cs := [.int .i64 4, .int .i64 0] ++ (encK p.1 ++ (hkCells z32 0 ++ [.slice none 0 0]))) (cs' := [.int .i64 4, .int .i64 0] ++ (encK p.1 ++ (bcells p.2.1.1 ++ [.int .i64 0, .slice none 0 0]))) rfl (by rw [l2]; rfl) (by simp [l1, l2, hkCells_length, z32_len]) (by
    rw [← List.append_assoc, List.take_append_of_le_length (by simp [l1]), List.take_of_length_le (by simp [l1]), l2, List.drop_append, List.drop_of_length_le (by simp [l1])]
    simp [l1]
    rfl)
  have h3 := fill_at (place := rplace32) (i := 4) (off := 67) (v := .int .i64 p.2.1.2) (vs := [.int .i64 p.2.1.2]) (rest := []) (cs := [.int .i64 4, .int .i64 0] ++ (encK p.1 ++ (bcells p.2.1.1 ++ [.int .i64 0, .slice none 0 0]))) (cs' := [.int .i64 4, .int .i64 0] ++ (encK p.1 ++ (bcells p.2.1.1 ++ [.int .i64 p.2.1.2, .slice none 0 0]))) rfl rfl (by simp [l1, l2]) (by
    rw [← List.append_assoc, ← List.append_assoc, List.take_append_of_le_length (by simp [l1, l2]), List.take_of_length_le (by simp [l1, l2]), List.drop_append, List.drop_of_length_le (by simp [l1, l2])]
    simp [l1, l2])
  rw [h1, h2, h3] at h0
  have e : [.int .i64 4, .int .i64 0] ++ (encK p.1 ++ (bcells p.2.1.1 ++ [.int .i64 p.2.1.2, .slice none 0 0])) = recCells 4 0 p.1.1.1 p.1.1.2 p.2.1.1 p.2.1.2 (.slice none 0 0) := by simp [recCells, hkCells, encK]
  rw [h0, e]
  rfl
theorem build_head32 (w : World) : (Instr.build 42 #[(0, .int .i64 1)]).run Tryz.prog w = .ok (rv headR (.slice none 0 0)) w := by
  unfold Instr.build
  simp only [Sem.run_bind, zero_rec32, Result.andThen_ok, recv_cells, run_underlying rec32Ty_u, rec32Ty, fields_rec32]
  rfl
theorem build_pin32 (k : K32) (w : World) : (Instr.build 42 #[(0, .int .i64 5), (2, kv k)]).run Tryz.prog w = .ok (rv (pinR k) (.slice none 0 0)) w := by
  unfold Instr.build
  simp only [Sem.run_bind, zero_rec32, Result.andThen_ok, recv_cells, run_underlying rec32Ty_u, rec32Ty, fields_rec32]
  have h0 := fill_at (place := rplace32) (i := 0) (off := 0) (v := .int .i64 5) (vs := [.int .i64 5]) (rest := [(2, kv k)]) (cs := recCells 0 0 z32 0 z32 0 (.slice none 0 0)) (cs' := [.int .i64 5, .int .i64 0] ++ (hkCells z32 0 ++ (hkCells z32 0 ++ [.slice none 0 0]))) rfl rfl (by decide) rfl
  have h1 := fill_at (place := rplace32) (i := 2) (off := 2) (v := kv k) (vs := encK k) (rest := []) (cs := [.int .i64 5, .int .i64 0] ++ (hkCells z32 0 ++ (hkCells z32 0 ++ [.slice none 0 0]))) (cs' := [.int .i64 5, .int .i64 0] ++ (encK k ++ (hkCells z32 0 ++ [.slice none 0 0]))) rfl (by rw [encK_len]; rfl) (by rw [encK_len]; decide) (by rw [encK_len]; rfl)
  rw [h1] at h0
  rw [h0]
  rfl
def RefLines33To (b : BookD) (w : World) (e : Ending) (w' : World) : Prop := ∃ v, e = .returned v ∧ w'.ownsRow w.heap.size 5 1 v (linesD b).length (bcells (linesD b)) ∧ Below w.heap.size w w'
def headL (b : BookD) (i : Nat) : List UInt8 := (headR :: (b.live.take i).map liveR).flatMap lineL
def bodyL33 (b : BookD) (i : Nat) : List UInt8 := (headR :: (b.live.map liveR ++ (b.pins.take i).map pinR)).flatMap lineL
theorem item_hash_at {w : World} {q off : Nat} {x : ItemD} (h : ∀ j u, (itemCells x)[j]? = some u → w.cell? ⟨q, off + j, none⟩ = some u) : ∀ j u, (encK x.2.2)[j]? = some u → w.cell? ⟨q, off + 34 + j, none⟩ = some u := fun j u hu => by
  have := h (34 + j) u (by
    unfold itemCells ivCells
    rw [show 34 + j = (33 + j) + 1 by omega, List.getElem?_cons_succ, List.getElem?_append_right (by rw [hkCells_length, x.2.1.2]; omega), hkCells_length, x.2.1.2, show 33 + j - (32 + 1) = j by omega]
    exact hu)
  rwa [← Nat.add_assoc] at this
theorem headL_zero (b : BookD) : headL b 0 = lineL headR := by simp [headL]
theorem headL_succ (b : BookD) {i : Nat} (h : i < b.live.length) : headL b (i + 1) = headL b i ++ lineL (liveR b.live[i]) := by
  unfold headL
  rw [List.take_succ_eq_append_getElem h, List.map_append, ← List.cons_append, List.flatMap_append]
  simp
theorem bodyL33_zero (b : BookD) : bodyL33 b 0 = headL b b.live.length := by simp [bodyL33, headL]
theorem bodyL33_succ (b : BookD) {i : Nat} (h : i < b.pins.length) : bodyL33 b (i + 1) = bodyL33 b i ++ lineL (pinR b.pins[i]) := by
  unfold bodyL33
  rw [List.take_succ_eq_append_getElem h, List.map_append, ← List.append_assoc, ← List.cons_append, List.flatMap_append]
  simp
theorem bodyL33_all (b : BookD) : bodyL33 b b.pins.length = linesD b := by simp [bodyL33, linesD, recsD]
theorem headL_le {b : BookD} (h : Good b) (i : Nat) : (headL b i).length ≤ 20000 * (b.live.length + 1) := by
  have := lines_le (headR :: (b.live.take i).map liveR) (fun r hr => recs_right h r (by
    rcases List.mem_cons.1 hr with rfl | hr
    · simp [recsD]
    · obtain ⟨p, hp, rfl⟩ := List.mem_map.1 hr
      exact List.mem_cons_of_mem _ (List.mem_append_left _ (List.mem_map_of_mem (List.mem_of_mem_take hp)))))
  refine Nat.le_trans this (Nat.mul_le_mul_left _ ?_)
  simp
  omega
theorem bodyL33_le {b : BookD} (h : Good b) (i : Nat) : (bodyL33 b i).length ≤ 20000 * (b.live.length + b.pins.length + 1) := by
  have := lines_le (headR :: (b.live.map liveR ++ (b.pins.take i).map pinR)) (fun r hr => recs_right h r (by
    rcases List.mem_cons.1 hr with rfl | hr
    · simp [recsD]
    · rcases List.mem_append.1 hr with hr | hr
      · obtain ⟨p, hp, rfl⟩ := List.mem_map.1 hr
        exact List.mem_cons_of_mem _ (List.mem_append_left _ (List.mem_map_of_mem hp))
      · obtain ⟨p, hp, rfl⟩ := List.mem_map.1 hr
        exact List.mem_cons_of_mem _ (List.mem_append_right _ (List.mem_map_of_mem (List.mem_of_mem_take hp)))))
  refine Nat.le_trans this (Nat.mul_le_mul_left _ ?_)
  simp
  omega
set_option maxRecDepth 100000 in
set_option maxHeartbeats 16000000 in
theorem refLines33_any (b : BookD) (bv : Value) (B : Nat) (w : World) (h : RB w B bv b) (hg : Good b) (hB : B ≤ w.heap.size) (hl : b.live.length ≤ 10000 ∧ b.pins.length ≤ 10000) :
    Calls Tryz.prog 38 #[bv] w (RefLines33To b w) := by
  obtain ⟨L, P, O, rfl, hL, hP, hO⟩ := h
  have HGD := Lib.hid hg
  have HLL := Lib.hid hl
  have HBB := Lib.hid hB
  have HL := Lib.hid hL
  have HP := Lib.hid hP
  clear hg hl hL hP hO hB
  obtain ⟨AL, cL, hle, hcl1, hcl2⟩ := HL.out.form
  subst hle
  obtain ⟨AP, cP, hpe, hcp1, hcp2⟩ := HP.out.form
  subst hpe
  rw [liveI_len] at *
  go_enter Tryz.func38, Tryz.ntmps38
  go_wp2_with (refine stop_at (some 1) rfl ?_)
  refine Stop.go (wpList_box rfl 30 rfl rfl (vs := refCells b (.slice AL b.live.length cL) (.slice AP b.pins.length cP) O) rfl ?_)
  have HG1 := Lib.hid (Go.heap_alloc_new w (.cells (refCells b (.slice AL b.live.length cL) (.slice AP b.pins.length cP) O).toArray 30))
  have HB1 := Lib.hid ((Below.refl _ _).alloc (Nat.le_refl _) (.cells (refCells b (.slice AL b.live.length cL) (.slice AP b.pins.length cP) O).toArray 30) : Below w.heap.size w _)
  have HS1 := Lib.hid (World.size_alloc w (.cells (refCells b (.slice AL b.live.length cL) (.slice AP b.pins.length cP) O).toArray 30))
  generalize w.alloc (.cells (refCells b (.slice AL b.live.length cL) (.slice AP b.pins.length cP) O).toArray 30) = w1 at *
  generalize hac : Act.put _ _ _ = a9
  simp [Act.put] at hac
  subst hac
  go_wp2_with (refine stop_at (some 6) rfl ?_)
  refine Stop.go (wpList_build rfl 42 rfl (vs := #[(0, .int .i64 1)]) (by rfl) (build_head32 _) ?_)
  generalize hac : Act.put _ _ _ = a9
  simp [Act.put] at hac
  subst hac
  go_wp2_with fail
  refine (line32_any headR none 0 0 w1.heap.size w1 head_right.2.1 SlR.nil_ (Nat.le_refl _) head_right.1 (fun _ h => nomatch h)).mono ?_
  rintro e w2 ⟨v2, rfl, ho2, hb2⟩
  obtain ⟨A2, c2, hv2, _, _⟩ := own_form ho2
  subst hv2
  have HO2 := Lib.hid (own_more ho2 (show w.heap.size + 1 ≤ w1.heap.size by rw [HS1.out]; omega))
  have HK := Lib.hid (show ∀ wz, Below (w.heap.size + 1) w2 wz → wz.heap[w.heap.size]? = some (.cells (refCells b (.slice AL b.live.length cL) (.slice AP b.pins.length cP) O).toArray 30 (0, 0)) ∧ SlR eItem wz w.heap.size (.slice AL b.live.length cL) (liveI b.live) ∧ SlR eK wz w.heap.size (.slice AP b.pins.length cP) b.pins ∧ Below w.heap.size w wz from fun wz hb => by
    have hb3 := (hb2.mono (show w.heap.size + 1 ≤ w1.heap.size by rw [HS1.out]; omega)).trans hb
    have hb4 := HB1.out.trans (hb3.mono (by omega))
    exact ⟨(hb3.block _ (by omega)).trans HG1.out, HL.out.fut hb4 HBB.out HBB.out, HP.out.fut hb4 HBB.out HBB.out, hb4⟩)
  have HSZ := Lib.hid (show w.heap.size + 1 ≤ w2.heap.size by have := hb2.size; rw [HS1.out] at this; exact this)
  rw [← headL_zero b] at HO2 ⊢
  clear ho2 hb2 HG1 HB1 HS1 HL HP
  go_wp2_with fail
  go_loopw [3, 4] (fun v3 v4 wr => ∃ (i : Nat) (A3 : Option Addr) (c3 : Nat), i ≤ b.live.length ∧ v4 = .int .i64 i ∧ v3 = .slice A3 (headL b i).length c3 ∧ Hid (wr.ownsRow (w.heap.size + 1) 5 1 (.slice A3 (headL b i).length c3) (headL b i).length (bcells (headL b i))) ∧ Hid (Below (w.heap.size + 1) w2 wr)) (fun _ v4 _ => b.live.length - (intOf v4).toNat)
  case atStart => exact ⟨0, A2, c2, Nat.zero_le _, rfl, rfl, HO2.out, Below.refl _ _⟩
  case round =>
    obtain ⟨i, A3, c3, hi, rfl, rfl, HO, HB⟩ := hrel
    have c1 := (row_cell5 (HK.out _ HB.out).1).2.1
    have hcl3 := hcl2
    simp only [maxLen] at hcl3
    by_cases hlt : i < b.live.length
    · go_wp2_with fail
      refine Text.wp_text [] (by kernel_rfl) (by kernel_rfl) (fun Q' hQ' => ?_)
      have HBd := Lib.hid HB.out.drew
      have HOd := Lib.hid (show wr.drew.ownsRow (w.heap.size + 1) 5 1 (.slice A3 (headL b i).length c3) (headL b i).length (bcells (headL b i)) from HO.out.drew)
      clear HO HB c1
      generalize wr.drew = w3 at *
      have c1 := (row_cell5 (HK.out _ HBd.out).1).2.1
      obtain ⟨q, off, cs, hAL, _, hqB, hrep, hcell⟩ := (HK.out _ HBd.out).2.1.get (k := i) (by rw [liveI_len]; exact hlt) (by decide)
      subst hAL
      obtain ⟨p, hp⟩ : ∃ p, p = b.live[i] := ⟨_, rfl⟩
      have hrep : cs = itemCells ((0, p) : ItemD) := by rw [hp]; have : cs = itemCells ((liveI b.live)[i]'(by rw [liveI_len]; exact hlt)) := hrep; rw [this]; simp [liveI]
      subst hrep
      have HC := Lib.hid (show ∀ j u, (itemCells ((0, p) : ItemD))[j]? = some u → w3.cell? ⟨q, off + i * 67 + j, none⟩ = some u from fun j u hu => by rw [Nat.add_assoc]; exact hcell j u hu)
      have HPR := Lib.hid hp
      clear hcell hp hqB
      go_wp2_with (refine stop_at (some 21) rfl ?_)
      refine Stop.go (wpList_load_agg rfl 34 rfl rfl keyTy.ut rfl (cs := encK p.1) (key_size _ _ p.1.2) (item_key (x := (0, p)) HC.out) ?_)
      generalize hac : Act.put _ _ _ = a9
      simp [Act.put] at hac
      subst hac
      refine wpList_seg 5 _ _ _ (fun Q2 hQ2 => ?_)
      simp only [List.take_succ_cons, List.take_zero]
      go_wp2_with fail
      try simp only [List.drop_succ_cons, List.drop_zero]
      refine Stop.go (wpList_load_agg rfl 32 rfl rfl hashTy.ua rfl (cs := bcells p.2.1.1) (hash_size _ p.2.2) (key_hash (item_hash_at (x := (0, p)) HC.out)) ?_)
      generalize hac : Act.put _ _ _ = a9
      simp [Act.put] at hac
      subst hac
      have hnum : w3.cell? ⟨q, off + i * 67 + 66, none⟩ = some (.int .i64 p.2.1.2) := key_num (off := off + i * 67 + 34) (item_hash_at (x := (0, p)) HC.out)
      refine wpList_seg 6 _ _ _ (fun Q3 hQ3 => ?_)
      simp only [List.take_succ_cons, List.take_zero]
      go_wp2_with fail
      try simp only [List.drop_succ_cons, List.drop_zero]
      clear hnum c1
      refine Stop.go (wpList_build rfl 42 rfl (vs := #[(0, .int .i64 4), (2, kv p.1), (3, hashv p.2.1.1), (4, .int .i64 p.2.1.2)]) (by rfl) (build_live32 p _) ?_)
      generalize hac : Act.put _ _ _ = a9
      simp [Act.put] at hac
      subst hac
      have HGR := Lib.hid (live_right (HGD.out.lok p (by rw [HPR.out]; exact List.getElem_mem _)))
      go_wp2_with fail
      refine (line32_any (liveR p) none 0 0 w3.heap.size w3 HGR.out.2.1 SlR.nil_ (Nat.le_refl _) HGR.out.1 (fun _ h => nomatch h)).mono ?_
      rintro e w4 ⟨v4, rfl, ho4, hb4⟩
      obtain ⟨A5, c5, hv5, hc5, _⟩ := own_form ho4
      subst hv5
      have HO4 := Lib.hid ho4
      have HOE := Lib.hid (own_below HOd.out hb4)
      have HB4 := Lib.hid (HBd.out.trans (hb4.mono (show w.heap.size + 1 ≤ w3.heap.size from Nat.le_trans HSZ.out HBd.out.size)))
      have hbw4 : w.heap.size + 1 ≤ w4.heap.size := Nat.le_trans HSZ.out HB4.out.size
      have hl1 := headL_le HGD.out i
      have hl2 := line_le HGR.out
      have hl3 := HLL.out
      clear ho4 hb4 HOd HBd
      go_wp2_with (refine stop_at (some 36) rfl ?_)
      refine Stop.go (wpList_app u8_ty rfl rfl rfl rfl HOE.out (Rd.of_own HO4.out) (m := (lineL (liveR p)).length) (by rw [bcells_length, Nat.mul_one]) (bcells_one _) ?_ ?_ hbw4 ?_)
      · simp only [maxLen]; omega
      · omega
      intro v6 w6 hown6 hg6 _ _
      have hsl : (headL b i).length + (lineL (liveR p)).length = (headL b (i + 1)).length := by rw [headL_succ b hlt, List.length_append, HPR.out]
      have hsb : bcells (headL b i) ++ bcells (lineL (liveR p)) = bcells (headL b (i + 1)) := by rw [headL_succ b hlt, bcells_append, HPR.out]
      rw [hsl, hsb] at hown6
      obtain ⟨A6, c6, hv6, _, _⟩ := own_form hown6
      subst hv6
      have HB6 := Lib.hid (grown_below HB4.out hg6 HOE.out (Nat.le_refl _) hbw4)
      have HO6 := Lib.hid hown6
      clear hown6 hg6 hl1 hl2 hl3 hsl hsb hbw4
      generalize hac : Act.put _ _ _ = a9
      simp [Act.put] at hac
      subst hac
      go_wp2_with fail
      refine ⟨by rfl, ?_⟩
      go_wp2_with fail
      go_roundw
      case rel => exact ⟨i + 1, A6, c6, by omega, by go_num, rfl, HO6.out, HB6.out⟩
      case measure => simp [intOf]; omega
    · have hil : i = b.live.length := by omega
      subst hil
      have HOB := Lib.hid (show wr.ownsRow (w.heap.size + 1) 5 1 (.slice A3 (bodyL33 b 0).length c3) (bodyL33 b 0).length (bcells (bodyL33 b 0)) by rw [bodyL33_zero]; exact HO.out)
      rw [← bodyL33_zero]
      clear HO hi
      go_wp2_with fail
      go_loopw [3, 5] (fun v3 v5 wr => ∃ (i : Nat) (A3 : Option Addr) (c3 : Nat), i ≤ b.pins.length ∧ v5 = .int .i64 i ∧ v3 = .slice A3 (bodyL33 b i).length c3 ∧ Hid (wr.ownsRow (w.heap.size + 1) 5 1 (.slice A3 (bodyL33 b i).length c3) (bodyL33 b i).length (bcells (bodyL33 b i))) ∧ Hid (Below (w.heap.size + 1) w2 wr)) (fun _ v5 _ => b.pins.length - (intOf v5).toNat)
      case atStart => exact ⟨0, A3, c3, Nat.zero_le _, rfl, rfl, HOB.out, HB.out⟩
      case round =>
        obtain ⟨i, A4, c4, hi, rfl, rfl, HO, HBz⟩ := hrel
        have c2 := (row_cell5 (HK.out _ HBz.out).1).2.2.1
        have hcp3 := hcp2
        simp only [maxLen] at hcp3
        by_cases hlt : i < b.pins.length
        · have HBd := HBz
          have HOd := HO
          obtain ⟨q, off, cs, hAP, _, hqB, hrep, hcell⟩ := (HK.out _ HBd.out).2.2.1.get (k := i) hlt (by decide)
          subst hAP
          obtain ⟨p, hp⟩ : ∃ p, p = b.pins[i] := ⟨_, rfl⟩
          have hrep : cs = encK p := by rw [hp]; exact hrep
          subst hrep
          have HC := Lib.hid (show ∀ j u, (encK p)[j]? = some u → wr.cell? ⟨q, off + i * 33 + j, none⟩ = some u from fun j u hu => by rw [Nat.add_assoc]; exact hcell j u hu)
          have HPR := Lib.hid hp
          clear hcell hp hqB
          go_wp2_with (refine stop_at (some 49) rfl ?_)
          refine Stop.go (wpList_load_agg rfl 34 rfl rfl keyTy.ut rfl (cs := encK p) (key_size _ _ p.2) HC.out ?_)
          refine wpList_build rfl 42 rfl (vs := #[(0, .int .i64 5), (2, kv p)]) (by rfl) (build_pin32 p _) ?_
          generalize hac : Act.put _ _ _ = a9
          simp [Act.put] at hac
          subst hac
          clear c2
          have HGR := Lib.hid (pin_right (HGD.out.pok p (by rw [HPR.out]; exact List.getElem_mem _)))
          generalize wr = w3 at *
          go_wp2_with fail
          refine (line32_any (pinR p) none 0 0 w3.heap.size w3 HGR.out.2.1 SlR.nil_ (Nat.le_refl _) HGR.out.1 (fun _ h => nomatch h)).mono ?_
          rintro e w4 ⟨v4, rfl, ho4, hb4⟩
          obtain ⟨A5, c5, hv5, hc5, _⟩ := own_form ho4
          subst hv5
          have HO4 := Lib.hid ho4
          have HOE := Lib.hid (own_below HOd.out hb4)
          have HB4 := Lib.hid (HBd.out.trans (hb4.mono (show w.heap.size + 1 ≤ w3.heap.size from Nat.le_trans HSZ.out HBd.out.size)))
          have hbw4 : w.heap.size + 1 ≤ w4.heap.size := Nat.le_trans HSZ.out HB4.out.size
          have hl1 := bodyL33_le HGD.out i
          have hl2 := line_le HGR.out
          have hl3 := HLL.out
          clear ho4 hb4 HOd HBd
          go_wp2_with (refine stop_at (some 52) rfl ?_)
          refine Stop.go (wpList_app u8_ty rfl rfl rfl rfl HOE.out (Rd.of_own HO4.out) (m := (lineL (pinR p)).length) (by rw [bcells_length, Nat.mul_one]) (bcells_one _) ?_ ?_ hbw4 ?_)
          · simp only [maxLen]; omega
          · omega
          intro v6 w6 hown6 hg6 _ _
          have hsl : (bodyL33 b i).length + (lineL (pinR p)).length = (bodyL33 b (i + 1)).length := by rw [bodyL33_succ b hlt, List.length_append, HPR.out]
          have hsb : bcells (bodyL33 b i) ++ bcells (lineL (pinR p)) = bcells (bodyL33 b (i + 1)) := by rw [bodyL33_succ b hlt, bcells_append, HPR.out]
          rw [hsl, hsb] at hown6
          obtain ⟨A6, c6, hv6, _, _⟩ := own_form hown6
          subst hv6
          have HB6 := Lib.hid (grown_below HB4.out hg6 HOE.out (Nat.le_refl _) hbw4)
          have HO6 := Lib.hid hown6
          clear hown6 hg6 hl1 hl2 hl3 hsl hsb hbw4
          generalize hac : Act.put _ _ _ = a9
          simp [Act.put] at hac
          subst hac
          go_wp2_with fail
          go_roundw
          case rel => exact ⟨i + 1, A6, c6, by omega, by go_num, rfl, HO6.out, HB6.out⟩
          case measure => simp [intOf]; omega
        · have hil : i = b.pins.length := by omega
          subst hil
          have HX := Lib.hid (show RefLines33To b w (.returned (.slice A4 (bodyL33 b b.pins.length).length c4)) wr from ⟨_, rfl, by
            rw [← bodyL33_all]
            exact own_more HO.out (Nat.le_succ _), (HK.out _ HBz.out).2.2.2⟩)
          go_wp2_with fail
          go_ret
          exact HX.out
end Go.Proofs.YtplbcbamnjnhlaaGreatDoor
