/- Texts of this proof joined: RefRight, PutKey. -/
import Derived.Test.YtplbcbamnjnhlaaGreatDoorMB13
namespace Go.Proofs.YtplbcbamnjnhlaaGreatDoor
open Go.RowKit

def rightB (r : RecD) : Bool :=
  decide (1 ≤ r.kind ∧ r.kind ≤ 7) && (if r.kind = 2 ∨ r.kind = 3 then seqOk r else decide (r.seq = 0)) && (if r.kind = 2 ∨ r.kind = 4 then kOk r.kk && markOk r else decide (r.mh = z32 ∧ r.ms = 0)) &&
    (if r.kind = 5 ∨ r.kind = 6 then kOk r.kk else if r.kind = 2 ∨ r.kind = 4 then true else decide (r.kh = z32 ∧ r.kk = 0)) && (if r.kind = 7 then risingB r.keys else decide (r.keys = []))
theorem rightP_eq (r : RecD) : rightP r = rightB r := by
  obtain ⟨kind, seq, kh, kk, mh, ms, keys⟩ := r
  rw [Bool.eq_iff_iff]
  by_cases k1 : kind = 1
  · subst k1
    simp [rightP, rightB, onlyOk, onlyD, sameD]
    grind
  by_cases k2 : kind = 2
  · subst k2
    simp [rightP, rightB, onlyOk, onlyD, sameD]
    grind
  by_cases k3 : kind = 3
  · subst k3
    simp [rightP, rightB, onlyOk, onlyD, sameD]
    grind
  by_cases k4 : kind = 4
  · subst k4
    simp [rightP, rightB, onlyOk, onlyD, sameD]
    grind
  by_cases k5 : kind = 5
  · subst k5
    simp [rightP, rightB, onlyOk, onlyD, sameD]
    grind
  by_cases k6 : kind = 6
  · subst k6
    simp [rightP, rightB, onlyOk, onlyD, sameD]
    grind
  by_cases k7 : kind = 7
  · subst k7
    simp [rightP, rightB, onlyOk, onlyD, sameD]
    grind
  have e1 : rightP ⟨kind, seq, kh, kk, mh, ms, keys⟩ = false := by simp [rightP, onlyOk, k1, k2, k3, k4, k5, k6, k7]
  have e2 : rightB ⟨kind, seq, kh, kk, mh, ms, keys⟩ = false := by
    have : ¬ (1 ≤ kind ∧ kind ≤ 7) := by omega
    simp [rightB, this]
  rw [e1, e2]
theorem zero_hash (w : World) : (zeroValue 32).run Tryz.prog w = .ok (hashv z32) w := by kernel_rfl
set_option maxRecDepth 100000 in
set_option maxHeartbeats 4000000 in
theorem refRight_any (r : RecD) (A : Option Addr) (n c B : Nat) (w : World) (hr : Hs r) (h1 : SlR eKey w B (.slice A n c) r.keys) (hB : B ≤ w.heap.size) :
    Calls Tryz.prog 30 #[rv r (.slice A n c)] w fun e w' => e = .returned (.bool (rightB r)) ∧ Below w.heap.size w w' := by
  obtain ⟨kind, seq, kh, kk, mh, ms, keys⟩ := r
  obtain ⟨hk, hm⟩ := hr
  simp only at hk hm h1
  have hb1 : Below w.heap.size w (((w.alloc (.cells (recCells kind seq kh kk mh ms (.slice A n c)).toArray 42)).alloc (.cells (hkCells z32 0).toArray 34)).alloc (.cells (bcells z32).toArray 32)) :=
    (((Below.refl _ _).alloc (Nat.le_refl _) _).alloc (by show _ ≤ (Array.push _ _).size; rw [Array.size_push]; omega) _).alloc (by show _ ≤ (Array.push (Array.push _ _) _).size; rw [Array.size_push, Array.size_push]; omega) _
  have hr1 : RecAt (((w.alloc (.cells (recCells kind seq kh kk mh ms (.slice A n c)).toArray 42)).alloc (.cells (hkCells z32 0).toArray 34)).alloc (.cells (bcells z32).toArray 32)) w.heap.size 42 kind seq kh kk mh ms (.slice A n c) :=
    ((RecAt.new w hk hm).later ((Below.refl _ _).alloc (Nat.le_refl _) _)).later ((Below.refl _ _).alloc (Nat.le_refl _) _)
  have hg1 := Go.heap_alloc2_old (w.alloc (.cells (recCells kind seq kh kk mh ms (.slice A n c)).toArray 42)) (.cells (hkCells z32 0).toArray 34) (.cells (bcells z32).toArray 32)
  have hg2 := Go.heap_alloc2_new (w.alloc (.cells (recCells kind seq kh kk mh ms (.slice A n c)).toArray 42)) (.cells (hkCells z32 0).toArray 34) (.cells (bcells z32).toArray 32)
  have hs1 : (w.alloc (.cells (recCells kind seq kh kk mh ms (.slice A n c)).toArray 42)).heap.size = w.heap.size + 1 := Array.size_push _
  have hs2 : ((w.alloc (.cells (recCells kind seq kh kk mh ms (.slice A n c)).toArray 42)).alloc (.cells (hkCells z32 0).toArray 34)).heap.size = w.heap.size + 2 := by
    show (Array.push (Array.push _ _) _).size = _
    rw [Array.size_push, Array.size_push]
  rw [hs1] at hg1 hg2
  have N1 := Lib.hid h1.n_eq
  have hc1 := h1.n_le
  have HK := Lib.hid (h1.fut hb1 hB (Nat.le_refl B))
  have HBW := Lib.hid hB
  have HB1 := Lib.hid hb1
  clear h1 hb1 hB
  go_enter Tryz.func30, Tryz.ntmps30
  go_wp2_with (refine stop_at (some 1) rfl ?_)
  refine Stop.go (wpList_box rfl _ rfl rfl rfl ?_)
  go_wp2_with (refine stop_at (some 3) rfl ?_)
  refine Stop.go (wpList_alloc rfl _ rfl zero_key rfl ?_)
  go_wp2_with (refine stop_at (some 4) rfl ?_)
  refine Stop.go (wpList_alloc rfl _ rfl zero_hash rfl ?_)
  try rw [hs1]
  try rw [hs2]
  have HG1 := Lib.hid hg1
  have HG2 := Lib.hid hg2
  clear hg1 hg2 hs1 hs2
  generalize ((w.alloc (.cells (recCells kind seq kh kk mh ms (.slice A n c)).toArray 42)).alloc (.cells (hkCells z32 0).toArray 34)).alloc (.cells (bcells z32).toArray 32) = w1 at *
  have c0 := hr1.kind_
  have c1 := hr1.seq_
  have c67 := hr1.size_
  have c68 := hr1.keys_
  have HR1 := Lib.hid hr1
  clear hr1
  by_cases k1 : kind = 1
  · subst k1
    by_cases hs : seq = 0
    · have hse : (seq != 0) = false := by simp [hs]
      go_wp2_with (refine stop_at (some 51) rfl ?_)
      refine Stop.go (wpList_seg 1 _ _ _ (fun Q' hQ' => ?_))
      simp only [List.take_succ_cons, List.take_zero]
      go_wp2_with fail
      try simp only [List.drop_succ_cons, List.drop_zero]
      refine Stop.go (wpList_load_agg rfl 32 rfl rfl hashTy.ua rfl (hash_size _ hm) HR1.out.hash_ ?_)
      refine wpList_load_agg rfl 32 rfl rfl hashTy.ua rfl (hash_size z32 rfl) (row_cells HG2.out) ?_
      refine wpList_bin rfl .neq 32 rfl rfl rfl (hashv_guard hashTy.gd ..) (hashv_neq hashTy hm rfl) ?_
      by_cases hmz : mh = z32
      · rw [show (!decide (mh = z32)) = false by simp [hmz]]
        by_cases hms : ms = 0
        · have hmse : (ms != 0) = false := by simp [hms]
          go_wp2_with (refine stop_at (some 71) rfl ?_)
          refine Stop.go (wpList_seg 7 _ _ _ (fun Q' hQ' => ?_))
          simp only [List.take_succ_cons, List.take_zero]
          go_wp2_with fail
          try simp only [List.drop_succ_cons, List.drop_zero]
          refine Stop.go (wpList_load_aggG (by rfl) 34 rfl rfl keyTy.ut rfl (key_size _ _ hk) HR1.out.key_ ?_)
          refine wpList_load_aggG (by rfl) 34 rfl rfl keyTy.ut rfl (key_size z32 0 rfl) (row_cells HG1.out) ?_
          refine wpList_binG (by rfl) .neq 34 rfl rfl rfl (hkv_guard keyTy.gd ..) (hkv_neq keyTy hk rfl) ?_
          by_cases hkz : kh = z32 ∧ kk = 0
          · rw [show (!(decide (kh = z32) && decide (kk = 0))) = false by simp [hkz.1, hkz.2]]
            by_cases hn : n = 0
            · have hke : keys = [] := List.eq_nil_of_length_eq_zero (by rw [← N1.out]; exact hn)
              have HF := Lib.hid (show rightB ⟨1, seq, kh, kk, mh, ms, keys⟩ = true from by unfold rightB; simp [hs, hmz, hms, hkz.1, hkz.2, hke])
              go_wp2_with fail
              go_ret
              exact ⟨rt1 (vbool HF.out.symm), HB1.out⟩
            · have hke : keys ≠ [] := fun h => hn (by rw [N1.out, h]; rfl)
              have hne : ((n : Int) == 0) = false := by rw [beq_eq_false_iff_ne]; omega
              have HF := Lib.hid (show rightB ⟨1, seq, kh, kk, mh, ms, keys⟩ = false from by unfold rightB; simp [hs, hmz, hms, hkz.1, hkz.2, hke])
              go_wp2_with fail
              go_ret
              exact ⟨rt1 (vbool HF.out.symm), HB1.out⟩
          · rw [show (!(decide (kh = z32) && decide (kk = 0))) = true by by_cases h1 : kh = z32 <;> by_cases h2 : kk = 0 <;> simp_all]
            have hkz' : ¬ (kh = z32 ∧ kk = 0) := hkz
            have HF := Lib.hid (show rightB ⟨1, seq, kh, kk, mh, ms, keys⟩ = false from by unfold rightB; simp [hs, hmz, hms, hkz'])
            go_wp2_with fail
            go_ret
            exact ⟨rt1 (vbool HF.out.symm), HB1.out⟩
        · have hmse : (ms != 0) = true := by simp [hms]
          have HF := Lib.hid (show rightB ⟨1, seq, kh, kk, mh, ms, keys⟩ = false from by unfold rightB; simp [hs, hms])
          go_wp2_with fail
          go_ret
          exact ⟨rt1 (vbool HF.out.symm), HB1.out⟩
      · rw [show (!decide (mh = z32)) = true by simp [hmz]]
        have HF := Lib.hid (show rightB ⟨1, seq, kh, kk, mh, ms, keys⟩ = false from by unfold rightB; simp [hs, hmz])
        go_wp2_with fail
        go_ret
        exact ⟨rt1 (vbool HF.out.symm), HB1.out⟩
    · have hse : (seq != 0) = true := by simp [hs]
      have HF := Lib.hid (show rightB ⟨1, seq, kh, kk, mh, ms, keys⟩ = false from by unfold rightB; simp [hs])
      go_wp2_with fail
      go_ret
      exact ⟨rt1 (vbool HF.out.symm), HB1.out⟩
  by_cases k2 : kind = 2
  · subst k2
    by_cases hs0 : 0 ≤ seq
    · by_cases hs1 : seq ≤ 1099511627776
      · have HSQ := Lib.hid (show ∀ a b c d ks, seqOk ⟨2, seq, a, b, c, d, ks⟩ = true from fun _ _ _ _ _ => decide_eq_true ⟨hs0, hs1⟩)
        have hsd : decide ((1099511627776 : Int) < seq) = false := by simp; omega
        clear hs1
        go_wp2_with (refine stop_at (some 37) rfl ?_)
        refine Stop.go (wpList_seg 1 _ _ _ (fun Q' hQ' => ?_))
        simp only [List.take_succ_cons, List.take_zero]
        go_wp2_with fail
        try simp only [List.drop_succ_cons, List.drop_zero]
        refine Stop.go (wpList_load_agg rfl 34 rfl rfl keyTy.ut rfl (key_size _ _ hk) HR1.out.key_ ?_)
        cases hok : kOk kk
        · have HOK := Lib.hid hok
          have HF := Lib.hid (show rightB ⟨2, seq, kh, kk, mh, ms, keys⟩ = false from by unfold rightB; simp [HSQ.out, hok])
          go_wp2_with (first | (go_at_call 53; refine (may_any kh kk _ hk).mono ?_; rintro e w2 ⟨rfl, hb2⟩; rw [HOK.out]; have d67 := (HR1.out.later hb2).size_; have d68 := (HR1.out.later hb2).keys_))
          go_ret
          exact ⟨rt1 (vbool HF.out.symm), HB1.out.trans (hb2.mono HB1.out.size)⟩
        · have HOK := Lib.hid hok
          by_cases hm0 : 0 ≤ ms
          · by_cases hm1 : ms ≤ 1048576
            · have HMK := Lib.hid (show ∀ s a b c ks, markOk ⟨2, s, a, b, c, ms, ks⟩ = true from fun _ _ _ _ _ => decide_eq_true ⟨hm0, hm1⟩)
              have hmd : decide ((1048576 : Int) < ms) = false := by simp; omega
              clear hm1
              by_cases hn : n = 0
              · have hke : keys = [] := List.eq_nil_of_length_eq_zero (by rw [← N1.out]; exact hn)
                have HF := Lib.hid (show rightB ⟨2, seq, kh, kk, mh, ms, keys⟩ = true from by unfold rightB; simp [HSQ.out, hok, HMK.out, hke])
                go_wp2_with (first | (go_at_call 53; refine (may_any kh kk _ hk).mono ?_; rintro e w2 ⟨rfl, hb2⟩; rw [HOK.out]; have d67 := (HR1.out.later hb2).size_; have d68 := (HR1.out.later hb2).keys_))
                go_ret
                exact ⟨rt1 (vbool HF.out.symm), HB1.out.trans (hb2.mono HB1.out.size)⟩
              · have hke : keys ≠ [] := fun h => hn (by rw [N1.out, h]; rfl)
                have hne : ((n : Int) == 0) = false := by rw [beq_eq_false_iff_ne]; omega
                have HF := Lib.hid (show rightB ⟨2, seq, kh, kk, mh, ms, keys⟩ = false from by unfold rightB; simp [HSQ.out, hok, HMK.out, hke])
                go_wp2_with (first | (go_at_call 53; refine (may_any kh kk _ hk).mono ?_; rintro e w2 ⟨rfl, hb2⟩; rw [HOK.out]; have d67 := (HR1.out.later hb2).size_; have d68 := (HR1.out.later hb2).keys_))
                go_ret
                exact ⟨rt1 (vbool HF.out.symm), HB1.out.trans (hb2.mono HB1.out.size)⟩
            · have HMK := Lib.hid (show ∀ s a b c ks, markOk ⟨2, s, a, b, c, ms, ks⟩ = false from fun _ _ _ _ _ => decide_eq_false (fun h => hm1 h.2))
              have hmd : decide ((1048576 : Int) < ms) = true := by simp; omega
              clear hm1
              have HF := Lib.hid (show rightB ⟨2, seq, kh, kk, mh, ms, keys⟩ = false from by unfold rightB; simp [HSQ.out, hok, HMK.out])
              go_wp2_with (first | (go_at_call 53; refine (may_any kh kk _ hk).mono ?_; rintro e w2 ⟨rfl, hb2⟩; rw [HOK.out]; have d67 := (HR1.out.later hb2).size_; have d68 := (HR1.out.later hb2).keys_))
              go_ret
              exact ⟨rt1 (vbool HF.out.symm), HB1.out.trans (hb2.mono HB1.out.size)⟩
          · have HMK := Lib.hid (show ∀ s a b c ks, markOk ⟨2, s, a, b, c, ms, ks⟩ = false from fun _ _ _ _ _ => decide_eq_false (fun h => hm0 h.1))
            have HF := Lib.hid (show rightB ⟨2, seq, kh, kk, mh, ms, keys⟩ = false from by unfold rightB; simp [HSQ.out, hok, HMK.out])
            go_wp2_with (first | (go_at_call 53; refine (may_any kh kk _ hk).mono ?_; rintro e w2 ⟨rfl, hb2⟩; rw [HOK.out]; have d67 := (HR1.out.later hb2).size_; have d68 := (HR1.out.later hb2).keys_))
            go_ret
            exact ⟨rt1 (vbool HF.out.symm), HB1.out.trans (hb2.mono HB1.out.size)⟩
      · have HSQ := Lib.hid (show ∀ a b c d ks, seqOk ⟨2, seq, a, b, c, d, ks⟩ = false from fun _ _ _ _ _ => decide_eq_false (fun h => hs1 h.2))
        have hsd : decide ((1099511627776 : Int) < seq) = true := by simp; omega
        clear hs1
        have HF := Lib.hid (show rightB ⟨2, seq, kh, kk, mh, ms, keys⟩ = false from by unfold rightB; simp [HSQ.out])
        go_wp2_with fail
        go_ret
        exact ⟨rt1 (vbool HF.out.symm), HB1.out⟩
    · have HSQ := Lib.hid (show ∀ a b c d ks, seqOk ⟨2, seq, a, b, c, d, ks⟩ = false from fun _ _ _ _ _ => decide_eq_false (fun h => hs0 h.1))
      have HF := Lib.hid (show rightB ⟨2, seq, kh, kk, mh, ms, keys⟩ = false from by unfold rightB; simp [HSQ.out])
      go_wp2_with fail
      go_ret
      exact ⟨rt1 (vbool HF.out.symm), HB1.out⟩
  by_cases k3 : kind = 3
  · subst k3
    by_cases hs0 : 0 ≤ seq
    · by_cases hs1 : seq ≤ 1099511627776
      · have HSQ := Lib.hid (show ∀ a b c d ks, seqOk ⟨3, seq, a, b, c, d, ks⟩ = true from fun _ _ _ _ _ => decide_eq_true ⟨hs0, hs1⟩)
        have hsd : decide ((1099511627776 : Int) < seq) = false := by simp; omega
        clear hs1
        go_wp2_with (refine stop_at (some 51) rfl ?_)
        refine Stop.go (wpList_seg 1 _ _ _ (fun Q' hQ' => ?_))
        simp only [List.take_succ_cons, List.take_zero]
        go_wp2_with fail
        try simp only [List.drop_succ_cons, List.drop_zero]
        refine Stop.go (wpList_load_agg rfl 32 rfl rfl hashTy.ua rfl (hash_size _ hm) HR1.out.hash_ ?_)
        refine wpList_load_agg rfl 32 rfl rfl hashTy.ua rfl (hash_size z32 rfl) (row_cells HG2.out) ?_
        refine wpList_bin rfl .neq 32 rfl rfl rfl (hashv_guard hashTy.gd ..) (hashv_neq hashTy hm rfl) ?_
        by_cases hmz : mh = z32
        · rw [show (!decide (mh = z32)) = false by simp [hmz]]
          by_cases hms : ms = 0
          · have hmse : (ms != 0) = false := by simp [hms]
            go_wp2_with (refine stop_at (some 71) rfl ?_)
            refine Stop.go (wpList_seg 7 _ _ _ (fun Q' hQ' => ?_))
            simp only [List.take_succ_cons, List.take_zero]
            go_wp2_with fail
            try simp only [List.drop_succ_cons, List.drop_zero]
            refine Stop.go (wpList_load_aggG (by rfl) 34 rfl rfl keyTy.ut rfl (key_size _ _ hk) HR1.out.key_ ?_)
            refine wpList_load_aggG (by rfl) 34 rfl rfl keyTy.ut rfl (key_size z32 0 rfl) (row_cells HG1.out) ?_
            refine wpList_binG (by rfl) .neq 34 rfl rfl rfl (hkv_guard keyTy.gd ..) (hkv_neq keyTy hk rfl) ?_
            by_cases hkz : kh = z32 ∧ kk = 0
            · rw [show (!(decide (kh = z32) && decide (kk = 0))) = false by simp [hkz.1, hkz.2]]
              by_cases hn : n = 0
              · have hke : keys = [] := List.eq_nil_of_length_eq_zero (by rw [← N1.out]; exact hn)
                have HF := Lib.hid (show rightB ⟨3, seq, kh, kk, mh, ms, keys⟩ = true from by unfold rightB; simp [HSQ.out, hmz, hms, hkz.1, hkz.2, hke])
                go_wp2_with fail
                go_ret
                exact ⟨rt1 (vbool HF.out.symm), HB1.out⟩
              · have hke : keys ≠ [] := fun h => hn (by rw [N1.out, h]; rfl)
                have hne : ((n : Int) == 0) = false := by rw [beq_eq_false_iff_ne]; omega
                have HF := Lib.hid (show rightB ⟨3, seq, kh, kk, mh, ms, keys⟩ = false from by unfold rightB; simp [HSQ.out, hmz, hms, hkz.1, hkz.2, hke])
                go_wp2_with fail
                go_ret
                exact ⟨rt1 (vbool HF.out.symm), HB1.out⟩
            · rw [show (!(decide (kh = z32) && decide (kk = 0))) = true by by_cases h1 : kh = z32 <;> by_cases h2 : kk = 0 <;> simp_all]
              have hkz' : ¬ (kh = z32 ∧ kk = 0) := hkz
              have HF := Lib.hid (show rightB ⟨3, seq, kh, kk, mh, ms, keys⟩ = false from by unfold rightB; simp [HSQ.out, hmz, hms, hkz'])
              go_wp2_with fail
              go_ret
              exact ⟨rt1 (vbool HF.out.symm), HB1.out⟩
          · have hmse : (ms != 0) = true := by simp [hms]
            have HF := Lib.hid (show rightB ⟨3, seq, kh, kk, mh, ms, keys⟩ = false from by unfold rightB; simp [HSQ.out, hms])
            go_wp2_with fail
            go_ret
            exact ⟨rt1 (vbool HF.out.symm), HB1.out⟩
        · rw [show (!decide (mh = z32)) = true by simp [hmz]]
          have HF := Lib.hid (show rightB ⟨3, seq, kh, kk, mh, ms, keys⟩ = false from by unfold rightB; simp [HSQ.out, hmz])
          go_wp2_with fail
          go_ret
          exact ⟨rt1 (vbool HF.out.symm), HB1.out⟩
      · have HSQ := Lib.hid (show ∀ a b c d ks, seqOk ⟨3, seq, a, b, c, d, ks⟩ = false from fun _ _ _ _ _ => decide_eq_false (fun h => hs1 h.2))
        have hsd : decide ((1099511627776 : Int) < seq) = true := by simp; omega
        clear hs1
        have HF := Lib.hid (show rightB ⟨3, seq, kh, kk, mh, ms, keys⟩ = false from by unfold rightB; simp [HSQ.out])
        go_wp2_with fail
        go_ret
        exact ⟨rt1 (vbool HF.out.symm), HB1.out⟩
    · have HSQ := Lib.hid (show ∀ a b c d ks, seqOk ⟨3, seq, a, b, c, d, ks⟩ = false from fun _ _ _ _ _ => decide_eq_false (fun h => hs0 h.1))
      have HF := Lib.hid (show rightB ⟨3, seq, kh, kk, mh, ms, keys⟩ = false from by unfold rightB; simp [HSQ.out])
      go_wp2_with fail
      go_ret
      exact ⟨rt1 (vbool HF.out.symm), HB1.out⟩
  by_cases k4 : kind = 4
  · subst k4
    by_cases hs : seq = 0
    · have hse : (seq != 0) = false := by simp [hs]
      go_wp2_with (refine stop_at (some 37) rfl ?_)
      refine Stop.go (wpList_seg 1 _ _ _ (fun Q' hQ' => ?_))
      simp only [List.take_succ_cons, List.take_zero]
      go_wp2_with fail
      try simp only [List.drop_succ_cons, List.drop_zero]
      refine Stop.go (wpList_load_agg rfl 34 rfl rfl keyTy.ut rfl (key_size _ _ hk) HR1.out.key_ ?_)
      cases hok : kOk kk
      · have HOK := Lib.hid hok
        have HF := Lib.hid (show rightB ⟨4, seq, kh, kk, mh, ms, keys⟩ = false from by unfold rightB; simp [hs, hok])
        go_wp2_with (first | (go_at_call 53; refine (may_any kh kk _ hk).mono ?_; rintro e w2 ⟨rfl, hb2⟩; rw [HOK.out]; have d67 := (HR1.out.later hb2).size_; have d68 := (HR1.out.later hb2).keys_))
        go_ret
        exact ⟨rt1 (vbool HF.out.symm), HB1.out.trans (hb2.mono HB1.out.size)⟩
      · have HOK := Lib.hid hok
        by_cases hm0 : 0 ≤ ms
        · by_cases hm1 : ms ≤ 1048576
          · have HMK := Lib.hid (show ∀ s a b c ks, markOk ⟨4, s, a, b, c, ms, ks⟩ = true from fun _ _ _ _ _ => decide_eq_true ⟨hm0, hm1⟩)
            have hmd : decide ((1048576 : Int) < ms) = false := by simp; omega
            clear hm1
            by_cases hn : n = 0
            · have hke : keys = [] := List.eq_nil_of_length_eq_zero (by rw [← N1.out]; exact hn)
              have HF := Lib.hid (show rightB ⟨4, seq, kh, kk, mh, ms, keys⟩ = true from by unfold rightB; simp [hs, hok, HMK.out, hke])
              go_wp2_with (first | (go_at_call 53; refine (may_any kh kk _ hk).mono ?_; rintro e w2 ⟨rfl, hb2⟩; rw [HOK.out]; have d67 := (HR1.out.later hb2).size_; have d68 := (HR1.out.later hb2).keys_))
              go_ret
              exact ⟨rt1 (vbool HF.out.symm), HB1.out.trans (hb2.mono HB1.out.size)⟩
            · have hke : keys ≠ [] := fun h => hn (by rw [N1.out, h]; rfl)
              have hne : ((n : Int) == 0) = false := by rw [beq_eq_false_iff_ne]; omega
              have HF := Lib.hid (show rightB ⟨4, seq, kh, kk, mh, ms, keys⟩ = false from by unfold rightB; simp [hs, hok, HMK.out, hke])
              go_wp2_with (first | (go_at_call 53; refine (may_any kh kk _ hk).mono ?_; rintro e w2 ⟨rfl, hb2⟩; rw [HOK.out]; have d67 := (HR1.out.later hb2).size_; have d68 := (HR1.out.later hb2).keys_))
              go_ret
              exact ⟨rt1 (vbool HF.out.symm), HB1.out.trans (hb2.mono HB1.out.size)⟩
          · have HMK := Lib.hid (show ∀ s a b c ks, markOk ⟨4, s, a, b, c, ms, ks⟩ = false from fun _ _ _ _ _ => decide_eq_false (fun h => hm1 h.2))
            have hmd : decide ((1048576 : Int) < ms) = true := by simp; omega
            clear hm1
            have HF := Lib.hid (show rightB ⟨4, seq, kh, kk, mh, ms, keys⟩ = false from by unfold rightB; simp [hs, hok, HMK.out])
            go_wp2_with (first | (go_at_call 53; refine (may_any kh kk _ hk).mono ?_; rintro e w2 ⟨rfl, hb2⟩; rw [HOK.out]; have d67 := (HR1.out.later hb2).size_; have d68 := (HR1.out.later hb2).keys_))
            go_ret
            exact ⟨rt1 (vbool HF.out.symm), HB1.out.trans (hb2.mono HB1.out.size)⟩
        · have HMK := Lib.hid (show ∀ s a b c ks, markOk ⟨4, s, a, b, c, ms, ks⟩ = false from fun _ _ _ _ _ => decide_eq_false (fun h => hm0 h.1))
          have HF := Lib.hid (show rightB ⟨4, seq, kh, kk, mh, ms, keys⟩ = false from by unfold rightB; simp [hs, hok, HMK.out])
          go_wp2_with (first | (go_at_call 53; refine (may_any kh kk _ hk).mono ?_; rintro e w2 ⟨rfl, hb2⟩; rw [HOK.out]; have d67 := (HR1.out.later hb2).size_; have d68 := (HR1.out.later hb2).keys_))
          go_ret
          exact ⟨rt1 (vbool HF.out.symm), HB1.out.trans (hb2.mono HB1.out.size)⟩
    · have hse : (seq != 0) = true := by simp [hs]
      have HF := Lib.hid (show rightB ⟨4, seq, kh, kk, mh, ms, keys⟩ = false from by unfold rightB; simp [hs])
      go_wp2_with fail
      go_ret
      exact ⟨rt1 (vbool HF.out.symm), HB1.out⟩
  by_cases k5 : kind = 5
  · subst k5
    by_cases hs : seq = 0
    · have hse : (seq != 0) = false := by simp [hs]
      go_wp2_with (refine stop_at (some 51) rfl ?_)
      refine Stop.go (wpList_seg 1 _ _ _ (fun Q' hQ' => ?_))
      simp only [List.take_succ_cons, List.take_zero]
      go_wp2_with fail
      try simp only [List.drop_succ_cons, List.drop_zero]
      refine Stop.go (wpList_load_agg rfl 32 rfl rfl hashTy.ua rfl (hash_size _ hm) HR1.out.hash_ ?_)
      refine wpList_load_agg rfl 32 rfl rfl hashTy.ua rfl (hash_size z32 rfl) (row_cells HG2.out) ?_
      refine wpList_bin rfl .neq 32 rfl rfl rfl (hashv_guard hashTy.gd ..) (hashv_neq hashTy hm rfl) ?_
      by_cases hmz : mh = z32
      · rw [show (!decide (mh = z32)) = false by simp [hmz]]
        by_cases hms : ms = 0
        · have hmse : (ms != 0) = false := by simp [hms]
          go_wp2_with (refine stop_at (some 66) rfl ?_)
          refine Stop.go (wpList_seg 1 _ _ _ (fun Q' hQ' => ?_))
          simp only [List.take_succ_cons, List.take_zero]
          go_wp2_with fail
          try simp only [List.drop_succ_cons, List.drop_zero]
          refine Stop.go (wpList_load_agg rfl 34 rfl rfl keyTy.ut rfl (key_size _ _ hk) HR1.out.key_ ?_)
          cases hok : kOk kk
          · have HOK := Lib.hid hok
            have HF := Lib.hid (show rightB ⟨5, seq, kh, kk, mh, ms, keys⟩ = false from by unfold rightB; simp [hs, hmz, hms, hok])
            go_wp2_with (first | (go_at_call 53; refine (may_any kh kk _ hk).mono ?_; rintro e w2 ⟨rfl, hb2⟩; rw [HOK.out]; have d67 := (HR1.out.later hb2).size_; have d68 := (HR1.out.later hb2).keys_))
            go_ret
            exact ⟨rt1 (vbool HF.out.symm), HB1.out.trans (hb2.mono HB1.out.size)⟩
          · have HOK := Lib.hid hok
            by_cases hn : n = 0
            · have hke : keys = [] := List.eq_nil_of_length_eq_zero (by rw [← N1.out]; exact hn)
              have HF := Lib.hid (show rightB ⟨5, seq, kh, kk, mh, ms, keys⟩ = true from by unfold rightB; simp [hs, hmz, hms, hok, hke])
              go_wp2_with (first | (go_at_call 53; refine (may_any kh kk _ hk).mono ?_; rintro e w2 ⟨rfl, hb2⟩; rw [HOK.out]; have d67 := (HR1.out.later hb2).size_; have d68 := (HR1.out.later hb2).keys_))
              go_ret
              exact ⟨rt1 (vbool HF.out.symm), HB1.out.trans (hb2.mono HB1.out.size)⟩
            · have hke : keys ≠ [] := fun h => hn (by rw [N1.out, h]; rfl)
              have hne : ((n : Int) == 0) = false := by rw [beq_eq_false_iff_ne]; omega
              have HF := Lib.hid (show rightB ⟨5, seq, kh, kk, mh, ms, keys⟩ = false from by unfold rightB; simp [hs, hmz, hms, hok, hke])
              go_wp2_with (first | (go_at_call 53; refine (may_any kh kk _ hk).mono ?_; rintro e w2 ⟨rfl, hb2⟩; rw [HOK.out]; have d67 := (HR1.out.later hb2).size_; have d68 := (HR1.out.later hb2).keys_))
              go_ret
              exact ⟨rt1 (vbool HF.out.symm), HB1.out.trans (hb2.mono HB1.out.size)⟩
        · have hmse : (ms != 0) = true := by simp [hms]
          have HF := Lib.hid (show rightB ⟨5, seq, kh, kk, mh, ms, keys⟩ = false from by unfold rightB; simp [hs, hms])
          go_wp2_with fail
          go_ret
          exact ⟨rt1 (vbool HF.out.symm), HB1.out⟩
      · rw [show (!decide (mh = z32)) = true by simp [hmz]]
        have HF := Lib.hid (show rightB ⟨5, seq, kh, kk, mh, ms, keys⟩ = false from by unfold rightB; simp [hs, hmz])
        go_wp2_with fail
        go_ret
        exact ⟨rt1 (vbool HF.out.symm), HB1.out⟩
    · have hse : (seq != 0) = true := by simp [hs]
      have HF := Lib.hid (show rightB ⟨5, seq, kh, kk, mh, ms, keys⟩ = false from by unfold rightB; simp [hs])
      go_wp2_with fail
      go_ret
      exact ⟨rt1 (vbool HF.out.symm), HB1.out⟩
  by_cases k6 : kind = 6
  · subst k6
    by_cases hs : seq = 0
    · have hse : (seq != 0) = false := by simp [hs]
      go_wp2_with (refine stop_at (some 51) rfl ?_)
      refine Stop.go (wpList_seg 1 _ _ _ (fun Q' hQ' => ?_))
      simp only [List.take_succ_cons, List.take_zero]
      go_wp2_with fail
      try simp only [List.drop_succ_cons, List.drop_zero]
      refine Stop.go (wpList_load_agg rfl 32 rfl rfl hashTy.ua rfl (hash_size _ hm) HR1.out.hash_ ?_)
      refine wpList_load_agg rfl 32 rfl rfl hashTy.ua rfl (hash_size z32 rfl) (row_cells HG2.out) ?_
      refine wpList_bin rfl .neq 32 rfl rfl rfl (hashv_guard hashTy.gd ..) (hashv_neq hashTy hm rfl) ?_
      by_cases hmz : mh = z32
      · rw [show (!decide (mh = z32)) = false by simp [hmz]]
        by_cases hms : ms = 0
        · have hmse : (ms != 0) = false := by simp [hms]
          go_wp2_with (refine stop_at (some 66) rfl ?_)
          refine Stop.go (wpList_seg 1 _ _ _ (fun Q' hQ' => ?_))
          simp only [List.take_succ_cons, List.take_zero]
          go_wp2_with fail
          try simp only [List.drop_succ_cons, List.drop_zero]
          refine Stop.go (wpList_load_agg rfl 34 rfl rfl keyTy.ut rfl (key_size _ _ hk) HR1.out.key_ ?_)
          cases hok : kOk kk
          · have HOK := Lib.hid hok
            have HF := Lib.hid (show rightB ⟨6, seq, kh, kk, mh, ms, keys⟩ = false from by unfold rightB; simp [hs, hmz, hms, hok])
            go_wp2_with (first | (go_at_call 53; refine (may_any kh kk _ hk).mono ?_; rintro e w2 ⟨rfl, hb2⟩; rw [HOK.out]; have d67 := (HR1.out.later hb2).size_; have d68 := (HR1.out.later hb2).keys_))
            go_ret
            exact ⟨rt1 (vbool HF.out.symm), HB1.out.trans (hb2.mono HB1.out.size)⟩
          · have HOK := Lib.hid hok
            by_cases hn : n = 0
            · have hke : keys = [] := List.eq_nil_of_length_eq_zero (by rw [← N1.out]; exact hn)
              have HF := Lib.hid (show rightB ⟨6, seq, kh, kk, mh, ms, keys⟩ = true from by unfold rightB; simp [hs, hmz, hms, hok, hke])
              go_wp2_with (first | (go_at_call 53; refine (may_any kh kk _ hk).mono ?_; rintro e w2 ⟨rfl, hb2⟩; rw [HOK.out]; have d67 := (HR1.out.later hb2).size_; have d68 := (HR1.out.later hb2).keys_))
              go_ret
              exact ⟨rt1 (vbool HF.out.symm), HB1.out.trans (hb2.mono HB1.out.size)⟩
            · have hke : keys ≠ [] := fun h => hn (by rw [N1.out, h]; rfl)
              have hne : ((n : Int) == 0) = false := by rw [beq_eq_false_iff_ne]; omega
              have HF := Lib.hid (show rightB ⟨6, seq, kh, kk, mh, ms, keys⟩ = false from by unfold rightB; simp [hs, hmz, hms, hok, hke])
              go_wp2_with (first | (go_at_call 53; refine (may_any kh kk _ hk).mono ?_; rintro e w2 ⟨rfl, hb2⟩; rw [HOK.out]; have d67 := (HR1.out.later hb2).size_; have d68 := (HR1.out.later hb2).keys_))
              go_ret
              exact ⟨rt1 (vbool HF.out.symm), HB1.out.trans (hb2.mono HB1.out.size)⟩
        · have hmse : (ms != 0) = true := by simp [hms]
          have HF := Lib.hid (show rightB ⟨6, seq, kh, kk, mh, ms, keys⟩ = false from by unfold rightB; simp [hs, hms])
          go_wp2_with fail
          go_ret
          exact ⟨rt1 (vbool HF.out.symm), HB1.out⟩
      · rw [show (!decide (mh = z32)) = true by simp [hmz]]
        have HF := Lib.hid (show rightB ⟨6, seq, kh, kk, mh, ms, keys⟩ = false from by unfold rightB; simp [hs, hmz])
        go_wp2_with fail
        go_ret
        exact ⟨rt1 (vbool HF.out.symm), HB1.out⟩
    · have hse : (seq != 0) = true := by simp [hs]
      have HF := Lib.hid (show rightB ⟨6, seq, kh, kk, mh, ms, keys⟩ = false from by unfold rightB; simp [hs])
      go_wp2_with fail
      go_ret
      exact ⟨rt1 (vbool HF.out.symm), HB1.out⟩
  by_cases k7 : kind = 7
  · subst k7
    by_cases hs : seq = 0
    · have hse : (seq != 0) = false := by simp [hs]
      go_wp2_with (refine stop_at (some 51) rfl ?_)
      refine Stop.go (wpList_seg 1 _ _ _ (fun Q' hQ' => ?_))
      simp only [List.take_succ_cons, List.take_zero]
      go_wp2_with fail
      try simp only [List.drop_succ_cons, List.drop_zero]
      refine Stop.go (wpList_load_agg rfl 32 rfl rfl hashTy.ua rfl (hash_size _ hm) HR1.out.hash_ ?_)
      refine wpList_load_agg rfl 32 rfl rfl hashTy.ua rfl (hash_size z32 rfl) (row_cells HG2.out) ?_
      refine wpList_bin rfl .neq 32 rfl rfl rfl (hashv_guard hashTy.gd ..) (hashv_neq hashTy hm rfl) ?_
      by_cases hmz : mh = z32
      · rw [show (!decide (mh = z32)) = false by simp [hmz]]
        by_cases hms : ms = 0
        · have hmse : (ms != 0) = false := by simp [hms]
          go_wp2_with (refine stop_at (some 71) rfl ?_)
          refine Stop.go (wpList_seg 7 _ _ _ (fun Q' hQ' => ?_))
          simp only [List.take_succ_cons, List.take_zero]
          go_wp2_with fail
          try simp only [List.drop_succ_cons, List.drop_zero]
          refine Stop.go (wpList_load_aggG (by rfl) 34 rfl rfl keyTy.ut rfl (key_size _ _ hk) HR1.out.key_ ?_)
          refine wpList_load_aggG (by rfl) 34 rfl rfl keyTy.ut rfl (key_size z32 0 rfl) (row_cells HG1.out) ?_
          refine wpList_binG (by rfl) .neq 34 rfl rfl rfl (hkv_guard keyTy.gd ..) (hkv_neq keyTy hk rfl) ?_
          by_cases hkz : kh = z32 ∧ kk = 0
          · rw [show (!(decide (kh = z32) && decide (kk = 0))) = false by simp [hkz.1, hkz.2]]
            have HF := Lib.hid (show rightB ⟨7, seq, kh, kk, mh, ms, keys⟩ = risingB keys from by unfold rightB; simp [hs, hmz, hms, hkz.1, hkz.2])
            go_wp2_with (first | (go_at_call 54; refine (refRising_any A c B n keys _ HK.out (Nat.le_trans HBW.out HB1.out.size)).mono ?_; rintro e w2 ⟨rfl, hb2⟩))
            go_ret
            exact ⟨rt1 (vbool HF.out.symm), HB1.out.trans (hb2.mono HB1.out.size)⟩
          · rw [show (!(decide (kh = z32) && decide (kk = 0))) = true by by_cases h1 : kh = z32 <;> by_cases h2 : kk = 0 <;> simp_all]
            have hkz' : ¬ (kh = z32 ∧ kk = 0) := hkz
            have HF := Lib.hid (show rightB ⟨7, seq, kh, kk, mh, ms, keys⟩ = false from by unfold rightB; simp [hs, hmz, hms, hkz'])
            go_wp2_with fail
            go_ret
            exact ⟨rt1 (vbool HF.out.symm), HB1.out⟩
        · have hmse : (ms != 0) = true := by simp [hms]
          have HF := Lib.hid (show rightB ⟨7, seq, kh, kk, mh, ms, keys⟩ = false from by unfold rightB; simp [hs, hms])
          go_wp2_with fail
          go_ret
          exact ⟨rt1 (vbool HF.out.symm), HB1.out⟩
      · rw [show (!decide (mh = z32)) = true by simp [hmz]]
        have HF := Lib.hid (show rightB ⟨7, seq, kh, kk, mh, ms, keys⟩ = false from by unfold rightB; simp [hs, hmz])
        go_wp2_with fail
        go_ret
        exact ⟨rt1 (vbool HF.out.symm), HB1.out⟩
    · have hse : (seq != 0) = true := by simp [hs]
      have HF := Lib.hid (show rightB ⟨7, seq, kh, kk, mh, ms, keys⟩ = false from by unfold rightB; simp [hs])
      go_wp2_with fail
      go_ret
      exact ⟨rt1 (vbool HF.out.symm), HB1.out⟩
  have HF := Lib.hid (show rightB ⟨kind, seq, kh, kk, mh, ms, keys⟩ = false from by
    have : ¬ (1 ≤ kind ∧ kind ≤ 7) := by omega
    unfold rightB
    simp [this])
  by_cases hl : kind < 1
  · go_wp2_with fail
    go_ret
    exact ⟨rt1 (vbool HF.out.symm), HB1.out⟩
  · have hg : 7 < kind := by omega
    go_wp2_with fail
    go_ret
    exact ⟨rt1 (vbool HF.out.symm), HB1.out⟩
end Go.Proofs.YtplbcbamnjnhlaaGreatDoor
namespace Go.Proofs.YtplbcbamnjnhlaaGreatDoor
open Go.RowKit

def keyB (k : KeyD) : List UInt8 := k.1 ++ [UInt8.ofNat k.2.toNat]
set_option maxRecDepth 100000 in
set_option maxHeartbeats 1000000 in
theorem putKey_any (g : Nat) (l h : List UInt8) (k : Int) (w : World) (hw : WrR w g l) (hh : h.length = 32) (hk : kOk k = true) (hl : l.length ≤ 1048576) :
    Calls Tryz.prog 85 #[.pointer (some ⟨g, 0, none⟩), hkv h k] w fun e w' => e = .returned (.tuple #[]) ∧ WrR w' g (l ++ keyB (h, k)) ∧ Keep g w w' := by
  have hkk : 1 ≤ k ∧ k ≤ 4 := by unfold kOk at hk; simpa using hk
  obtain ⟨x, rfl⟩ : ∃ x : Nat, k = x := ⟨k.toNat, by omega⟩
  have HH := Lib.hid hh
  have HB1 := Lib.hid ((Below.refl _ _).alloc (Nat.le_refl _) (.cells (hkCells h x).toArray 34) : Below w.heap.size w _)
  have HG1 := Lib.hid (Go.heap_alloc_new w (.cells (hkCells h x).toArray 34))
  have HW1 := Lib.hid (hw.later HB1.out)
  have HGW := Lib.hid hw.lt
  have hs1 : (w.alloc (.cells (hkCells h x).toArray 34)).heap.size = w.heap.size + 1 := Array.size_push _
  have HS1 := Lib.hid hs1
  clear hw hh hk hs1
  go_enter Tryz.func85, Tryz.ntmps85
  go_wp2_with (refine stop_at (some 3) rfl ?_)
  refine Stop.go (wpList_box rfl _ rfl rfl (hkv_cells h x) ?_)
  generalize w.alloc (.cells (hkCells h x).toArray 34) = w1 at *
  go_wp2_with fail
  have hb2 : Below w1.heap.size w1 (w1.alloc (.cells #[.slice (some ⟨w.heap.size, 0, none⟩) 32 32] 44)) := (Below.refl _ _).alloc (Nat.le_refl _) _
  have hrd : Rd w1 (w.heap.size + 1) (some ⟨w.heap.size, 0, none⟩) (bcells h) := by
    have := Rd.row (B := w.heap.size + 1) HG1.out (by omega)
    exact rd_hash (k := (x : Int)) (by simpa using this)
  refine (raw_any g w1.heap.size 0 1 l h (some ⟨w.heap.size, 0, none⟩) 32 (w.heap.size + 1) _ (HW1.out.later hb2) (by rw [HH.out]; exact cell_new w1 _ _) (hrd.below (hb2.mono (by rw [HS1.out]; exact Nat.le_refl _))) (by rw [← HS1.out]; exact hb2.size) (by omega) (by rw [HH.out]; decide)).mono ?_
  rintro e w3 ⟨rfl, hw3, hk3⟩
  have HG3 := Lib.hid (hk3.other w.heap.size _ _ _ (Nat.ne_of_gt HGW.out) (by decide) ((hb2.block _ (Array.getElem?_eq_some_iff.1 HG1.out).1).trans HG1.out))
  have HW3 := Lib.hid hw3
  have HK3 := Lib.hid (((Keep.of_below HB1.out (Nat.le_of_lt HGW.out)).trans (Keep.of_below hb2 (Nat.le_trans (Nat.le_of_lt HGW.out) HB1.out.size))).trans hk3)
  have c32 : w3.cell? ⟨w.heap.size, 32, none⟩ = some (.int .i64 x) := by
    rw [cell_of_row _ _ _ _ _ _ HG3.out, ← Array.getElem?_toList]
    exact hkCells_get h x HH.out
  clear hw3 hk3 hb2 hrd
  obtain ⟨h1, h4⟩ := hkk
  go_wp2_with fail
  refine (num_any g 1 x (l ++ h) _ HW3.out (by decide) (by decide) (by omega) (by rw [List.length_append, HH.out]; omega)).mono ?_
  rintro e w4 ⟨rfl, hw4, hk4⟩
  go_wp2_with fail
  go_end0
  refine ⟨rfl, ?_, HK3.out.trans hk4⟩
  rw [beBytes_one x (by omega), List.append_assoc] at hw4
  exact hw4
end Go.Proofs.YtplbcbamnjnhlaaGreatDoor
