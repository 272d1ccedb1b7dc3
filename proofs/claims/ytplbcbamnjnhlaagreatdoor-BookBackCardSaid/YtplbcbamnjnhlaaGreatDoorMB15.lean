/- Texts of this proof joined: Load, Seven. -/
import Derived.Test.YtplbcbamnjnhlaaGreatDoorMB14
import Derived.Test.YtplbcbamnjnhlaaGreatDoorMB05
namespace Go.Proofs.YtplbcbamnjnhlaaGreatDoor
open Go.RowKit

def loadL (r : RecD) : List UInt8 :=
  (if r.kind = 1 then [1] else []) ++ ((if r.kind = 2 ∨ r.kind = 3 then beBytes 6 r.seq.toNat else []) ++ ((if r.kind = 2 ∨ r.kind = 4 ∨ r.kind = 5 ∨ r.kind = 6 then keyB (r.kh, r.kk) else []) ++
    ((if r.kind = 2 ∨ r.kind = 4 then r.mh ++ beBytes 3 r.ms.toNat else []) ++ r.keys.flatMap keyB)))
theorem RecAt.kept {w w' : World} {g b : Nat} {t : TypeId} {kind seq : Int} {kh : List UInt8} {kk : Int} {mh : List UInt8} {ms : Int} {v : Value} (h : RecAt w b t kind seq kh kk mh ms v) (hk : Keep g w w') (hn : b ≠ g) (ht : t ≠ 5) :
    RecAt w' b t kind seq kh kk mh ms v := ⟨hk.other b _ _ _ hn ht h.blk, h.hk, h.hm⟩
theorem RecAt.rd_mark {w : World} {b B : Nat} {t : TypeId} {kind seq : Int} {kh : List UInt8} {kk : Int} {mh : List UInt8} {ms : Int} {v : Value} (h : RecAt w b t kind seq kh kk mh ms v) (hB : b < B) : Rd w B (some ⟨b, 35, none⟩) (bcells mh) :=
  fun _ => ⟨b, 35, rfl, hB, h.hash_⟩
theorem right_kind {r : RecD} (h : rightB r = true) : r.kind = 1 ∨ r.kind = 2 ∨ r.kind = 3 ∨ r.kind = 4 ∨ r.kind = 5 ∨ r.kind = 6 ∨ r.kind = 7 := by
  have : 1 ≤ r.kind ∧ r.kind ≤ 7 := by
    unfold rightB at h
    simp only [Bool.and_eq_true, decide_eq_true_eq] at h
    exact h.1.1.1.1
  omega
theorem rising_ok {xs : List KeyD} (h : risingB xs = true) : xs.length ≤ 256 ∧ ∀ i, (hi : i < xs.length) → kOk xs[i].2 = true := by
  unfold risingB at h
  simp only [Bool.and_eq_true, decide_eq_true_eq] at h
  refine ⟨h.2.2, fun i hi => ?_⟩
  have h1 := List.all_eq_true.1 h.1 i (List.mem_range.2 hi)
  rw [stepOk_at xs i hi] at h1
  simp only [Bool.and_eq_true] at h1
  exact h1.1
theorem keyB_length (k : KeyD) (h : k.1.length = 32) : (keyB k).length = 33 := by simp [keyB, h]
theorem kOk_ne {k : Int} (h : kOk k = true) : k ≠ 0 := by unfold kOk at h; simp at h; omega
theorem right_1 {seq : Int} {kh : List UInt8} {kk : Int} {mh : List UInt8} {ms : Int} {keys : List KeyD} (h : rightB ⟨1, seq, kh, kk, mh, ms, keys⟩ = true) : (kh = z32 ∧ kk = 0) ∧ keys = [] := by
  simp [rightB] at h
  grind
theorem right_2 {seq : Int} {kh : List UInt8} {kk : Int} {mh : List UInt8} {ms : Int} {keys : List KeyD} (h : rightB ⟨2, seq, kh, kk, mh, ms, keys⟩ = true) : (0 ≤ seq ∧ seq ≤ 1099511627776) ∧ kOk kk = true ∧ (0 ≤ ms ∧ ms ≤ 1048576) ∧ keys = [] := by
  simp [rightB, seqOk, markOk] at h
  grind
theorem right_3 {seq : Int} {kh : List UInt8} {kk : Int} {mh : List UInt8} {ms : Int} {keys : List KeyD} (h : rightB ⟨3, seq, kh, kk, mh, ms, keys⟩ = true) : (0 ≤ seq ∧ seq ≤ 1099511627776) ∧ (kh = z32 ∧ kk = 0) ∧ keys = [] := by
  simp [rightB, seqOk] at h
  grind
theorem right_4 {seq : Int} {kh : List UInt8} {kk : Int} {mh : List UInt8} {ms : Int} {keys : List KeyD} (h : rightB ⟨4, seq, kh, kk, mh, ms, keys⟩ = true) : kOk kk = true ∧ (0 ≤ ms ∧ ms ≤ 1048576) ∧ keys = [] := by
  simp [rightB, markOk] at h
  grind
theorem right_5 {seq : Int} {kh : List UInt8} {kk : Int} {mh : List UInt8} {ms : Int} {keys : List KeyD} (h : rightB ⟨5, seq, kh, kk, mh, ms, keys⟩ = true) : kOk kk = true ∧ keys = [] := by
  simp [rightB] at h
  grind
theorem right_6 {seq : Int} {kh : List UInt8} {kk : Int} {mh : List UInt8} {ms : Int} {keys : List KeyD} (h : rightB ⟨6, seq, kh, kk, mh, ms, keys⟩ = true) : kOk kk = true ∧ keys = [] := by
  simp [rightB] at h
  grind
theorem right_7 {seq : Int} {kh : List UInt8} {kk : Int} {mh : List UInt8} {ms : Int} {keys : List KeyD} (h : rightB ⟨7, seq, kh, kk, mh, ms, keys⟩ = true) : (kh = z32 ∧ kk = 0) ∧ risingB keys = true := by
  simp [rightB] at h
  grind
set_option maxRecDepth 100000 in
set_option maxHeartbeats 8000000 in
theorem load_any (r : RecD) (A : Option Addr) (n c B : Nat) (w : World) (hr : Hs r) (h1 : SlR eKey w B (.slice A n c) r.keys) (hB : B ≤ w.heap.size) (hR : rightB r = true) :
    Calls Tryz.prog 57 #[rv r (.slice A n c)] w fun e w' => ∃ g, e = .returned (.slice (some ⟨g, 0, none⟩) (loadL r).length (loadL r).length) ∧ w'.heap[g]? = some (.cells (bcells (loadL r)).toArray 5 (0, 0)) ∧ Below w.heap.size w w' ∧ w'.heap.size = g + 1 ∧ w.heap.size ≤ g := by
  have hkd := right_kind hR
  obtain ⟨kind, seq, kh, kk, mh, ms, keys⟩ := r
  obtain ⟨hk, hm⟩ := hr
  simp only at hk hm h1 hkd
  have HKH := Lib.hid hk
  have HMH := Lib.hid hm
  have N1 := Lib.hid h1.n_eq
  have hc1 := h1.n_le
  have H1 := Lib.hid h1
  have HBW := Lib.hid hB
  have HB1 := Lib.hid ((Below.refl _ _).alloc (Nat.le_refl _) (.cells (recCells kind seq kh kk mh ms (.slice A n c)).toArray 38) : Below w.heap.size w _)
  have HG1 := Lib.hid (RecAt.new (t := 38) (kind := kind) (seq := seq) (kk := kk) (ms := ms) (v := .slice A n c) w hk hm)
  have HS1 := Lib.hid (show (w.alloc (.cells (recCells kind seq kh kk mh ms (.slice A n c)).toArray 38)).heap.size = w.heap.size + 1 from Array.size_push _)
  clear h1 hB hk hm
  go_enter Tryz.func57, Tryz.ntmps57
  go_wp2_with (refine stop_at (some 1) rfl ?_)
  refine Stop.go (wpList_box rfl _ rfl rfl (recv_cells ..) ?_)
  generalize w.alloc (.cells (recCells kind seq kh kk mh ms (.slice A n c)).toArray 38) = w1 at *
  go_wp2_with fail
  refine (write_any _).mono ?_
  rintro e w2 ⟨rfl, hw2, hb2, hs2⟩
  have HW2 := Lib.hid hw2
  have HG2 := Lib.hid (HG1.out.later hb2)
  have HB2 := Lib.hid (HB1.out.trans (hb2.mono HB1.out.size))
  have HNE := Lib.hid (show w.heap.size ≠ w1.heap.size by rw [HS1.out]; omega)
  have HGE := Lib.hid (show w.heap.size ≤ w1.heap.size by rw [HS1.out]; omega)
  clear hw2 hb2 hs2 HB1 HG1 HS1
  generalize w1.heap.size = g at *
  rcases hkd with rfl | rfl | rfl | rfl | rfl | rfl | rfl
  · obtain ⟨⟨rfl, rfl⟩, rfl⟩ := right_1 hR
    obtain rfl : n = 0 := N1.out
    have HR := Lib.hid hR
    clear hR
    have c0 := HG2.out.kind_
    have c1 := HG2.out.seq_
    have c67 := HG2.out.size_
    have c68 := HG2.out.keys_
    go_wp2_with fail
    refine (num_any g 1 1 ([] : List UInt8) _ HW2.out (by decide) (by decide) (by decide) (Nat.zero_le _)).mono ?_
    rintro e w3 ⟨rfl, hw3, hk3⟩
    have HG3 := Lib.hid (HG2.out.kept hk3 HNE.out (by decide))
    have HB3 := Lib.hid (HB2.out.trans (hk3.below.mono HGE.out))
    obtain ⟨l3, hl3⟩ : ∃ l, l = ([] : List UInt8) ++ beBytes 1 1 := ⟨_, rfl⟩
    rw [← hl3] at hw3
    have HW3 := Lib.hid hw3
    have HL3 := Lib.hid hl3
    clear hw3 hk3 hl3 c0 c1 c67 c68
    have c0 := HG3.out.kind_
    have c1 := HG3.out.seq_
    have c67 := HG3.out.size_
    have c68 := HG3.out.keys_
    go_wp2_with (refine stop_at (some 25) rfl ?_)
    refine Stop.go (wpList_seg 1 _ _ _ (fun Q' hQ' => ?_))
    simp only [List.take_succ_cons, List.take_zero]
    go_wp2_with fail
    try simp only [List.drop_succ_cons, List.drop_zero]
    refine Stop.go (wpList_load_agg rfl 34 rfl rfl keyTy.ut rfl (key_size _ _ rfl) HG3.out.key_ ?_)
    refine wpList_build rfl 34 rfl (vs := #[]) (by rfl) (build_key0 _) ?_
    refine wpList_bin rfl .neq 34 rfl rfl rfl (hkv_guard keyTy.gd ..) (hkv_neq keyTy rfl rfl) ?_
    rw [show (!(decide (z32 = z32) && decide ((0 : Int) = 0))) = false by rfl]
    go_wp2_with fail
    go_loopw [56] (fun v56 wr => v56 = .int .i64 0 ∧ wr = w3) (fun _ _ => 0)
    case atStart => exact ⟨rfl, rfl⟩
    case round =>
      obtain ⟨rfl, rfl⟩ := hrel
      go_wp2_with fail
      refine (bytes_any g l3 _ HW3.out (by have := congrArg List.length HL3.out; simp [beBytes_length] at this; omega)).mono ?_
      rintro e w8 ⟨rfl, hr8, hb8, hs8⟩
      have HE := Lib.hid (show l3 = loadL ⟨1, seq, z32, 0, mh, ms, []⟩ by simp [loadL, beBytes_one, HL3.out])
      have HB8 := Lib.hid (HB3.out.trans (hb8.mono HB3.out.size))
      have HS8 := Lib.hid hs8
      have HR8 := Lib.hid hr8
      clear hb8 hs8 hr8
      go_wp2_with fail
      go_ret
      rw [← HE.out]
      exact ⟨_, rfl, HR8.out, HB8.out, HS8.out, HB3.out.size⟩
  · obtain ⟨⟨hs0, hs1⟩, hkk, ⟨hm0, hm1⟩, rfl⟩ := right_2 hR
    obtain ⟨x, rfl⟩ : ∃ x : Nat, seq = x := ⟨seq.toNat, by omega⟩
    obtain ⟨y, rfl⟩ : ∃ y : Nat, ms = y := ⟨ms.toNat, by omega⟩
    obtain rfl : n = 0 := N1.out
    have HR := Lib.hid hR
    clear hR
    have c0 := HG2.out.kind_
    have c1 := HG2.out.seq_
    have c67 := HG2.out.size_
    have c68 := HG2.out.keys_
    go_wp2_with fail
    refine (num_any g 6 x ([] : List UInt8) _ HW2.out (by decide) (by decide) (by omega) (Nat.zero_le _)).mono ?_
    rintro e w3 ⟨rfl, hw3, hk3⟩
    have HG3 := Lib.hid (HG2.out.kept hk3 HNE.out (by decide))
    have HB3 := Lib.hid (HB2.out.trans (hk3.below.mono HGE.out))
    obtain ⟨l3, hl3⟩ : ∃ l, l = ([] : List UInt8) ++ beBytes 6 x := ⟨_, rfl⟩
    rw [← hl3] at hw3
    have HW3 := Lib.hid hw3
    have HL3 := Lib.hid hl3
    clear hw3 hk3 hl3 c0 c1 c67 c68
    have c0 := HG3.out.kind_
    have c1 := HG3.out.seq_
    have c67 := HG3.out.size_
    have c68 := HG3.out.keys_
    go_wp2_with (refine stop_at (some 25) rfl ?_)
    refine Stop.go (wpList_seg 1 _ _ _ (fun Q' hQ' => ?_))
    simp only [List.take_succ_cons, List.take_zero]
    go_wp2_with fail
    try simp only [List.drop_succ_cons, List.drop_zero]
    refine Stop.go (wpList_load_agg rfl 34 rfl rfl keyTy.ut rfl (key_size _ _ HKH.out) HG3.out.key_ ?_)
    refine wpList_build rfl 34 rfl (vs := #[]) (by rfl) (build_key0 _) ?_
    refine wpList_bin rfl .neq 34 rfl rfl rfl (hkv_guard keyTy.gd ..) (hkv_neq keyTy HKH.out rfl) ?_
    rw [show (!(decide (kh = z32) && decide (kk = 0))) = true by simp [kOk_ne hkk]]
    have HKK := Lib.hid hkk
    clear hkk
    go_wp2_with (refine stop_at (some 31) rfl ?_)
    refine Stop.go (wpList_load_agg rfl 34 rfl rfl keyTy.ut rfl (key_size _ _ HKH.out) HG3.out.key_ ?_)
    go_wp2_with fail
    refine (putKey_any g l3 kh kk _ HW3.out HKH.out HKK.out (by have := congrArg List.length HL3.out; simp [beBytes_length] at this; omega)).mono ?_
    rintro e w4 ⟨rfl, hw4, hk4⟩
    have HG4 := Lib.hid (HG3.out.kept hk4 HNE.out (by decide))
    have HB4 := Lib.hid (HB3.out.trans (hk4.below.mono HGE.out))
    obtain ⟨l4, hl4⟩ : ∃ l, l = l3 ++ keyB (kh, kk) := ⟨_, rfl⟩
    rw [← hl4] at hw4
    have HW4 := Lib.hid hw4
    have HL4 := Lib.hid hl4
    clear hw4 hk4 hl4 c0 c1 c67 c68
    have c0 := HG4.out.kind_
    have c1 := HG4.out.seq_
    have c67 := HG4.out.size_
    have c68 := HG4.out.keys_
    go_wp2_with fail
    have hb9 : Below w4.heap.size w4 (w4.alloc (.cells #[.slice (some ⟨w.heap.size, 35, none⟩) 32 32] 44)) := (Below.refl _ _).alloc (Nat.le_refl _) _
    have hg9 := Nat.le_of_lt HW4.out.lt
    refine (raw_any g w4.heap.size 0 1 l4 mh (some ⟨w.heap.size, 35, none⟩) 32 w4.heap.size _ (HW4.out.later hb9) (by rw [HMH.out]; exact cell_new w4 _ _) ((HG4.out.rd_mark HG4.out.lt).below hb9) hb9.size (by have := congrArg List.length HL4.out; simp [HKH.out, beBytes_length, keyB, HL3.out] at this; omega) (by rw [HMH.out]; decide)).mono ?_
    rintro e w5 ⟨rfl, hw5, hk5⟩
    replace hk5 := (Keep.of_below hb9 hg9).trans hk5
    have HG5 := Lib.hid (HG4.out.kept hk5 HNE.out (by decide))
    have HB5 := Lib.hid (HB4.out.trans (hk5.below.mono HGE.out))
    obtain ⟨l5, hl5⟩ : ∃ l, l = l4 ++ mh := ⟨_, rfl⟩
    rw [← hl5] at hw5
    have HW5 := Lib.hid hw5
    have HL5 := Lib.hid hl5
    clear hw5 hk5 hl5 c0 c1 c67 c68
    have c0 := HG5.out.kind_
    have c1 := HG5.out.seq_
    have c67 := HG5.out.size_
    have c68 := HG5.out.keys_
    clear hb9 hg9
    go_wp2_with fail
    refine (num_any g 3 y l5 _ HW5.out (by decide) (by decide) (by omega) (by have := congrArg List.length HL5.out; simp [HKH.out, HMH.out, beBytes_length, keyB, HL3.out, HL4.out] at this; omega)).mono ?_
    rintro e w6 ⟨rfl, hw6, hk6⟩
    have HG6 := Lib.hid (HG5.out.kept hk6 HNE.out (by decide))
    have HB6 := Lib.hid (HB5.out.trans (hk6.below.mono HGE.out))
    obtain ⟨l6, hl6⟩ : ∃ l, l = l5 ++ beBytes 3 y := ⟨_, rfl⟩
    rw [← hl6] at hw6
    have HW6 := Lib.hid hw6
    have HL6 := Lib.hid hl6
    clear hw6 hk6 hl6 c0 c1 c67 c68
    have c0 := HG6.out.kind_
    have c1 := HG6.out.seq_
    have c67 := HG6.out.size_
    have c68 := HG6.out.keys_
    go_wp2_with fail
    go_loopw [56] (fun v56 wr => v56 = .int .i64 0 ∧ wr = w6) (fun _ _ => 0)
    case atStart => exact ⟨rfl, rfl⟩
    case round =>
      obtain ⟨rfl, rfl⟩ := hrel
      go_wp2_with fail
      refine (bytes_any g l6 _ HW6.out (by have := congrArg List.length HL6.out; simp [HKH.out, HMH.out, beBytes_length, keyB, HL3.out, HL4.out, HL5.out] at this; omega)).mono ?_
      rintro e w8 ⟨rfl, hr8, hb8, hs8⟩
      have HE := Lib.hid (show l6 = loadL ⟨2, (x : Int), kh, kk, mh, (y : Int), []⟩ by simp [loadL, HL3.out, HL4.out, HL5.out, HL6.out])
      have HB8 := Lib.hid (HB6.out.trans (hb8.mono HB6.out.size))
      have HS8 := Lib.hid hs8
      have HR8 := Lib.hid hr8
      clear hb8 hs8 hr8
      go_wp2_with fail
      go_ret
      rw [← HE.out]
      exact ⟨_, rfl, HR8.out, HB8.out, HS8.out, HB6.out.size⟩
  · obtain ⟨⟨hs0, hs1⟩, ⟨rfl, rfl⟩, rfl⟩ := right_3 hR
    obtain ⟨x, rfl⟩ : ∃ x : Nat, seq = x := ⟨seq.toNat, by omega⟩
    obtain rfl : n = 0 := N1.out
    have HR := Lib.hid hR
    clear hR
    have c0 := HG2.out.kind_
    have c1 := HG2.out.seq_
    have c67 := HG2.out.size_
    have c68 := HG2.out.keys_
    go_wp2_with fail
    refine (num_any g 6 x ([] : List UInt8) _ HW2.out (by decide) (by decide) (by omega) (Nat.zero_le _)).mono ?_
    rintro e w3 ⟨rfl, hw3, hk3⟩
    have HG3 := Lib.hid (HG2.out.kept hk3 HNE.out (by decide))
    have HB3 := Lib.hid (HB2.out.trans (hk3.below.mono HGE.out))
    obtain ⟨l3, hl3⟩ : ∃ l, l = ([] : List UInt8) ++ beBytes 6 x := ⟨_, rfl⟩
    rw [← hl3] at hw3
    have HW3 := Lib.hid hw3
    have HL3 := Lib.hid hl3
    clear hw3 hk3 hl3 c0 c1 c67 c68
    have c0 := HG3.out.kind_
    have c1 := HG3.out.seq_
    have c67 := HG3.out.size_
    have c68 := HG3.out.keys_
    go_wp2_with (refine stop_at (some 25) rfl ?_)
    refine Stop.go (wpList_seg 1 _ _ _ (fun Q' hQ' => ?_))
    simp only [List.take_succ_cons, List.take_zero]
    go_wp2_with fail
    try simp only [List.drop_succ_cons, List.drop_zero]
    refine Stop.go (wpList_load_agg rfl 34 rfl rfl keyTy.ut rfl (key_size _ _ rfl) HG3.out.key_ ?_)
    refine wpList_build rfl 34 rfl (vs := #[]) (by rfl) (build_key0 _) ?_
    refine wpList_bin rfl .neq 34 rfl rfl rfl (hkv_guard keyTy.gd ..) (hkv_neq keyTy rfl rfl) ?_
    rw [show (!(decide (z32 = z32) && decide ((0 : Int) = 0))) = false by rfl]
    go_wp2_with fail
    go_loopw [56] (fun v56 wr => v56 = .int .i64 0 ∧ wr = w3) (fun _ _ => 0)
    case atStart => exact ⟨rfl, rfl⟩
    case round =>
      obtain ⟨rfl, rfl⟩ := hrel
      go_wp2_with fail
      refine (bytes_any g l3 _ HW3.out (by have := congrArg List.length HL3.out; simp [beBytes_length] at this; omega)).mono ?_
      rintro e w8 ⟨rfl, hr8, hb8, hs8⟩
      have HE := Lib.hid (show l3 = loadL ⟨3, (x : Int), z32, 0, mh, ms, []⟩ by simp [loadL, HL3.out])
      have HB8 := Lib.hid (HB3.out.trans (hb8.mono HB3.out.size))
      have HS8 := Lib.hid hs8
      have HR8 := Lib.hid hr8
      clear hb8 hs8 hr8
      go_wp2_with fail
      go_ret
      rw [← HE.out]
      exact ⟨_, rfl, HR8.out, HB8.out, HS8.out, HB3.out.size⟩
  · obtain ⟨hkk, ⟨hm0, hm1⟩, rfl⟩ := right_4 hR
    obtain ⟨y, rfl⟩ : ∃ y : Nat, ms = y := ⟨ms.toNat, by omega⟩
    obtain rfl : n = 0 := N1.out
    have HR := Lib.hid hR
    clear hR
    have c0 := HG2.out.kind_
    have c1 := HG2.out.seq_
    have c67 := HG2.out.size_
    have c68 := HG2.out.keys_
    go_wp2_with (refine stop_at (some 25) rfl ?_)
    refine Stop.go (wpList_seg 1 _ _ _ (fun Q' hQ' => ?_))
    simp only [List.take_succ_cons, List.take_zero]
    go_wp2_with fail
    try simp only [List.drop_succ_cons, List.drop_zero]
    refine Stop.go (wpList_load_agg rfl 34 rfl rfl keyTy.ut rfl (key_size _ _ HKH.out) HG2.out.key_ ?_)
    refine wpList_build rfl 34 rfl (vs := #[]) (by rfl) (build_key0 _) ?_
    refine wpList_bin rfl .neq 34 rfl rfl rfl (hkv_guard keyTy.gd ..) (hkv_neq keyTy HKH.out rfl) ?_
    rw [show (!(decide (kh = z32) && decide (kk = 0))) = true by simp [kOk_ne hkk]]
    have HKK := Lib.hid hkk
    clear hkk
    go_wp2_with (refine stop_at (some 31) rfl ?_)
    refine Stop.go (wpList_load_agg rfl 34 rfl rfl keyTy.ut rfl (key_size _ _ HKH.out) HG2.out.key_ ?_)
    go_wp2_with fail
    refine (putKey_any g ([] : List UInt8) kh kk _ HW2.out HKH.out HKK.out (Nat.zero_le _)).mono ?_
    rintro e w3 ⟨rfl, hw3, hk3⟩
    have HG3 := Lib.hid (HG2.out.kept hk3 HNE.out (by decide))
    have HB3 := Lib.hid (HB2.out.trans (hk3.below.mono HGE.out))
    obtain ⟨l3, hl3⟩ : ∃ l, l = ([] : List UInt8) ++ keyB (kh, kk) := ⟨_, rfl⟩
    rw [← hl3] at hw3
    have HW3 := Lib.hid hw3
    have HL3 := Lib.hid hl3
    clear hw3 hk3 hl3 c0 c1 c67 c68
    have c0 := HG3.out.kind_
    have c1 := HG3.out.seq_
    have c67 := HG3.out.size_
    have c68 := HG3.out.keys_
    go_wp2_with fail
    have hb9 : Below w3.heap.size w3 (w3.alloc (.cells #[.slice (some ⟨w.heap.size, 35, none⟩) 32 32] 44)) := (Below.refl _ _).alloc (Nat.le_refl _) _
    have hg9 := Nat.le_of_lt HW3.out.lt
    refine (raw_any g w3.heap.size 0 1 l3 mh (some ⟨w.heap.size, 35, none⟩) 32 w3.heap.size _ (HW3.out.later hb9) (by rw [HMH.out]; exact cell_new w3 _ _) ((HG3.out.rd_mark HG3.out.lt).below hb9) hb9.size (by have := congrArg List.length HL3.out; simp [HKH.out, keyB] at this; omega) (by rw [HMH.out]; decide)).mono ?_
    rintro e w4 ⟨rfl, hw4, hk4⟩
    replace hk4 := (Keep.of_below hb9 hg9).trans hk4
    have HG4 := Lib.hid (HG3.out.kept hk4 HNE.out (by decide))
    have HB4 := Lib.hid (HB3.out.trans (hk4.below.mono HGE.out))
    obtain ⟨l4, hl4⟩ : ∃ l, l = l3 ++ mh := ⟨_, rfl⟩
    rw [← hl4] at hw4
    have HW4 := Lib.hid hw4
    have HL4 := Lib.hid hl4
    clear hw4 hk4 hl4 c0 c1 c67 c68
    have c0 := HG4.out.kind_
    have c1 := HG4.out.seq_
    have c67 := HG4.out.size_
    have c68 := HG4.out.keys_
    clear hb9 hg9
    go_wp2_with fail
    refine (num_any g 3 y l4 _ HW4.out (by decide) (by decide) (by omega) (by have := congrArg List.length HL4.out; simp [HKH.out, HMH.out, keyB, HL3.out] at this; omega)).mono ?_
    rintro e w5 ⟨rfl, hw5, hk5⟩
    have HG5 := Lib.hid (HG4.out.kept hk5 HNE.out (by decide))
    have HB5 := Lib.hid (HB4.out.trans (hk5.below.mono HGE.out))
    obtain ⟨l5, hl5⟩ : ∃ l, l = l4 ++ beBytes 3 y := ⟨_, rfl⟩
    rw [← hl5] at hw5
    have HW5 := Lib.hid hw5
    have HL5 := Lib.hid hl5
    clear hw5 hk5 hl5 c0 c1 c67 c68
    have c0 := HG5.out.kind_
    have c1 := HG5.out.seq_
    have c67 := HG5.out.size_
    have c68 := HG5.out.keys_
    go_wp2_with fail
    go_loopw [56] (fun v56 wr => v56 = .int .i64 0 ∧ wr = w5) (fun _ _ => 0)
    case atStart => exact ⟨rfl, rfl⟩
    case round =>
      obtain ⟨rfl, rfl⟩ := hrel
      go_wp2_with fail
      refine (bytes_any g l5 _ HW5.out (by have := congrArg List.length HL5.out; simp [HKH.out, HMH.out, beBytes_length, keyB, HL3.out, HL4.out] at this; omega)).mono ?_
      rintro e w8 ⟨rfl, hr8, hb8, hs8⟩
      have HE := Lib.hid (show l5 = loadL ⟨4, seq, kh, kk, mh, (y : Int), []⟩ by simp [loadL, HL3.out, HL4.out, HL5.out])
      have HB8 := Lib.hid (HB5.out.trans (hb8.mono HB5.out.size))
      have HS8 := Lib.hid hs8
      have HR8 := Lib.hid hr8
      clear hb8 hs8 hr8
      go_wp2_with fail
      go_ret
      rw [← HE.out]
      exact ⟨_, rfl, HR8.out, HB8.out, HS8.out, HB5.out.size⟩
  · obtain ⟨hkk, rfl⟩ := right_5 hR
    obtain rfl : n = 0 := N1.out
    have HR := Lib.hid hR
    clear hR
    have c0 := HG2.out.kind_
    have c1 := HG2.out.seq_
    have c67 := HG2.out.size_
    have c68 := HG2.out.keys_
    go_wp2_with (refine stop_at (some 25) rfl ?_)
    refine Stop.go (wpList_seg 1 _ _ _ (fun Q' hQ' => ?_))
    simp only [List.take_succ_cons, List.take_zero]
    go_wp2_with fail
    try simp only [List.drop_succ_cons, List.drop_zero]
    refine Stop.go (wpList_load_agg rfl 34 rfl rfl keyTy.ut rfl (key_size _ _ HKH.out) HG2.out.key_ ?_)
    refine wpList_build rfl 34 rfl (vs := #[]) (by rfl) (build_key0 _) ?_
    refine wpList_bin rfl .neq 34 rfl rfl rfl (hkv_guard keyTy.gd ..) (hkv_neq keyTy HKH.out rfl) ?_
    rw [show (!(decide (kh = z32) && decide (kk = 0))) = true by simp [kOk_ne hkk]]
    have HKK := Lib.hid hkk
    clear hkk
    go_wp2_with (refine stop_at (some 31) rfl ?_)
    refine Stop.go (wpList_load_agg rfl 34 rfl rfl keyTy.ut rfl (key_size _ _ HKH.out) HG2.out.key_ ?_)
    go_wp2_with fail
    refine (putKey_any g ([] : List UInt8) kh kk _ HW2.out HKH.out HKK.out (Nat.zero_le _)).mono ?_
    rintro e w3 ⟨rfl, hw3, hk3⟩
    have HG3 := Lib.hid (HG2.out.kept hk3 HNE.out (by decide))
    have HB3 := Lib.hid (HB2.out.trans (hk3.below.mono HGE.out))
    obtain ⟨l3, hl3⟩ : ∃ l, l = ([] : List UInt8) ++ keyB (kh, kk) := ⟨_, rfl⟩
    rw [← hl3] at hw3
    have HW3 := Lib.hid hw3
    have HL3 := Lib.hid hl3
    clear hw3 hk3 hl3 c0 c1 c67 c68
    have c0 := HG3.out.kind_
    have c1 := HG3.out.seq_
    have c67 := HG3.out.size_
    have c68 := HG3.out.keys_
    go_wp2_with fail
    go_loopw [56] (fun v56 wr => v56 = .int .i64 0 ∧ wr = w3) (fun _ _ => 0)
    case atStart => exact ⟨rfl, rfl⟩
    case round =>
      obtain ⟨rfl, rfl⟩ := hrel
      go_wp2_with fail
      refine (bytes_any g l3 _ HW3.out (by have := congrArg List.length HL3.out; simp [HKH.out, keyB] at this; omega)).mono ?_
      rintro e w8 ⟨rfl, hr8, hb8, hs8⟩
      have HE := Lib.hid (show l3 = loadL ⟨5, seq, kh, kk, mh, ms, []⟩ by simp [loadL, HL3.out])
      have HB8 := Lib.hid (HB3.out.trans (hb8.mono HB3.out.size))
      have HS8 := Lib.hid hs8
      have HR8 := Lib.hid hr8
      clear hb8 hs8 hr8
      go_wp2_with fail
      go_ret
      rw [← HE.out]
      exact ⟨_, rfl, HR8.out, HB8.out, HS8.out, HB3.out.size⟩
  · obtain ⟨hkk, rfl⟩ := right_6 hR
    obtain rfl : n = 0 := N1.out
    have HR := Lib.hid hR
    clear hR
    have c0 := HG2.out.kind_
    have c1 := HG2.out.seq_
    have c67 := HG2.out.size_
    have c68 := HG2.out.keys_
    go_wp2_with (refine stop_at (some 25) rfl ?_)
    refine Stop.go (wpList_seg 1 _ _ _ (fun Q' hQ' => ?_))
    simp only [List.take_succ_cons, List.take_zero]
    go_wp2_with fail
    try simp only [List.drop_succ_cons, List.drop_zero]
    refine Stop.go (wpList_load_agg rfl 34 rfl rfl keyTy.ut rfl (key_size _ _ HKH.out) HG2.out.key_ ?_)
    refine wpList_build rfl 34 rfl (vs := #[]) (by rfl) (build_key0 _) ?_
    refine wpList_bin rfl .neq 34 rfl rfl rfl (hkv_guard keyTy.gd ..) (hkv_neq keyTy HKH.out rfl) ?_
    rw [show (!(decide (kh = z32) && decide (kk = 0))) = true by simp [kOk_ne hkk]]
    have HKK := Lib.hid hkk
    clear hkk
    go_wp2_with (refine stop_at (some 31) rfl ?_)
    refine Stop.go (wpList_load_agg rfl 34 rfl rfl keyTy.ut rfl (key_size _ _ HKH.out) HG2.out.key_ ?_)
    go_wp2_with fail
    refine (putKey_any g ([] : List UInt8) kh kk _ HW2.out HKH.out HKK.out (Nat.zero_le _)).mono ?_
    rintro e w3 ⟨rfl, hw3, hk3⟩
    have HG3 := Lib.hid (HG2.out.kept hk3 HNE.out (by decide))
    have HB3 := Lib.hid (HB2.out.trans (hk3.below.mono HGE.out))
    obtain ⟨l3, hl3⟩ : ∃ l, l = ([] : List UInt8) ++ keyB (kh, kk) := ⟨_, rfl⟩
    rw [← hl3] at hw3
    have HW3 := Lib.hid hw3
    have HL3 := Lib.hid hl3
    clear hw3 hk3 hl3 c0 c1 c67 c68
    have c0 := HG3.out.kind_
    have c1 := HG3.out.seq_
    have c67 := HG3.out.size_
    have c68 := HG3.out.keys_
    go_wp2_with fail
    go_loopw [56] (fun v56 wr => v56 = .int .i64 0 ∧ wr = w3) (fun _ _ => 0)
    case atStart => exact ⟨rfl, rfl⟩
    case round =>
      obtain ⟨rfl, rfl⟩ := hrel
      go_wp2_with fail
      refine (bytes_any g l3 _ HW3.out (by have := congrArg List.length HL3.out; simp [HKH.out, keyB] at this; omega)).mono ?_
      rintro e w8 ⟨rfl, hr8, hb8, hs8⟩
      have HE := Lib.hid (show l3 = loadL ⟨6, seq, kh, kk, mh, ms, []⟩ by simp [loadL, HL3.out])
      have HB8 := Lib.hid (HB3.out.trans (hb8.mono HB3.out.size))
      have HS8 := Lib.hid hs8
      have HR8 := Lib.hid hr8
      clear hb8 hs8 hr8
      go_wp2_with fail
      go_ret
      rw [← HE.out]
      exact ⟨_, rfl, HR8.out, HB8.out, HS8.out, HB3.out.size⟩
  · obtain ⟨⟨rfl, rfl⟩, hris⟩ := right_7 hR
    have HR := Lib.hid hR
    clear hR
    have c0 := HG2.out.kind_
    have c1 := HG2.out.seq_
    have c67 := HG2.out.size_
    have c68 := HG2.out.keys_
    go_wp2_with (refine stop_at (some 25) rfl ?_)
    refine Stop.go (wpList_seg 1 _ _ _ (fun Q' hQ' => ?_))
    simp only [List.take_succ_cons, List.take_zero]
    go_wp2_with fail
    try simp only [List.drop_succ_cons, List.drop_zero]
    refine Stop.go (wpList_load_agg rfl 34 rfl rfl keyTy.ut rfl (key_size _ _ rfl) HG2.out.key_ ?_)
    refine wpList_build rfl 34 rfl (vs := #[]) (by rfl) (build_key0 _) ?_
    refine wpList_bin rfl .neq 34 rfl rfl rfl (hkv_guard keyTy.gd ..) (hkv_neq keyTy rfl rfl) ?_
    rw [show (!(decide (z32 = z32) && decide ((0 : Int) = 0))) = false by rfl]
    go_wp2_with fail
    obtain ⟨hlen, hok⟩ := rising_ok hris
    have HLEN := Lib.hid hlen
    have HOK := Lib.hid hok
    clear hlen hok hris
    clear c0 c1 c67 c68
    go_loopw [56] (fun v56 wr => ∃ i : Nat, i ≤ n ∧ v56 = .int .i64 i ∧ Hid (WrR wr g ((keys.take i).flatMap keyB) ∧ ((keys.take i).flatMap keyB).length = 33 * i) ∧ Hid (Below w.heap.size w wr)) (fun v56 _ => n - (intOf v56).toNat)
    case atStart => exact ⟨0, by omega, rfl, ⟨by simpa using HW2.out, by simp⟩, HB2.out⟩
    case round =>
      obtain ⟨i, hi, rfl, HW, HB⟩ := hrel
      by_cases hlt : i < n
      · have hlt1 : i < keys.length := by have := N1.out; omega
        have HRK := Lib.hid (H1.out.below (HB.out.mono HBW.out))
        obtain ⟨b1, o1, rfl, _, hb1, hl1, e1⟩ := keys_at HRK.out hlt1
        obtain ⟨x1, x2, hx⟩ : ∃ x1 x2, keys[i] = (x1, x2) := ⟨_, _, rfl⟩
        have hk2 := HOK.out i hlt1
        rw [hx] at hl1 e1 hk2
        simp only at hl1 e1 hk2
        have HX := Lib.hid hx
        have E1 := Lib.hid e1
        have L1 := Lib.hid hl1
        have K2 := Lib.hid hk2
        clear e1 hx hl1 hk2
        go_wp2_with (refine stop_at (some 58) rfl ?_)
        refine Stop.go (wpList_seg 1 _ _ _ (fun Q' hQ' => ?_))
        simp only [List.take_succ_cons, List.take_zero]
        go_wp2_with fail
        try simp only [List.drop_succ_cons, List.drop_zero]
        refine Stop.go (wpList_load_agg rfl 34 rfl rfl keyTy.ut rfl (key_size x1 x2 L1.out) E1.out ?_)
        refine wpList_alloc rfl 34 rfl zero_key rfl ?_
        refine wpList_store_agg rfl 34 rfl rfl rfl (store_new2 (g := wr.heap.size) rfl (hkv_cells _ _) (key_size _ _ L1.out) (by rw [List.size_toArray, hkCells_length, hkCells_length, L1.out]; rfl) (hkCells_one _ _)) ?_
        have hb2 : Below wr.heap.size wr (wr.alloc (.cells (hkCells x1 x2).toArray 34)) := (Below.refl _ _).alloc (Nat.le_refl _) _
        have HG := Lib.hid (Go.heap_alloc_new wr (.cells (hkCells x1 x2).toArray 34))
        have HB2 := Lib.hid (HB.out.trans (hb2.mono HB.out.size))
        have HW2 := Lib.hid (HW.out.1.later hb2)
        have HLN := Lib.hid HW.out.2
        have HTK := Lib.hid (show (keys.take (i + 1)).flatMap keyB = (keys.take i).flatMap keyB ++ keyB (x1, x2) by rw [List.take_succ_eq_append_getElem hlt1, HX.out]; simp)
        obtain ⟨la, hla⟩ : ∃ la, la = (keys.take i).flatMap keyB := ⟨_, rfl⟩
        rw [← hla] at HW2 HLN HTK
        clear hb2 E1 HRK hb1 HW hla
        generalize wr.alloc (.cells (hkCells x1 x2).toArray 34) = wa at *
        generalize wr.heap.size = m2 at *
        go_wp2_with (refine stop_at (some 61) rfl ?_)
        refine Stop.go (wpList_load_agg rfl 34 rfl rfl keyTy.ut rfl (key_size x1 x2 L1.out) (row_cells HG.out) ?_)
        go_wp2_with fail
        refine (putKey_any g la x1 x2 _ HW2.out L1.out K2.out (by have h3 := HLN.out; have h4 := HLEN.out; omega)).mono ?_
        rintro e wb ⟨rfl, hwb, hkb⟩
        rw [← HTK.out] at hwb
        have HWB := Lib.hid (And.intro hwb (show ((keys.take (i + 1)).flatMap keyB).length = 33 * (i + 1) by rw [HTK.out, List.length_append, HLN.out, keyB_length _ L1.out]; omega))
        have HBB := Lib.hid (HB2.out.trans (hkb.below.mono HGE.out))
        clear hwb hkb
        go_wp2_with fail
        refine ⟨⟨i + 1, by omega, by simp, HWB, HBB⟩, ?_⟩
        simp [intOf]; omega
      · obtain rfl : i = n := by omega
        have HWE := Lib.hid (show WrR wr g (keys.flatMap keyB) ∧ (keys.flatMap keyB).length ≤ 8448 by
          have h2 := HW.out
          rw [List.take_of_length_le (by have := N1.out; omega)] at h2
          exact ⟨h2.1, by have := h2.2; have := HLEN.out; have := N1.out; omega⟩)
        have HE := Lib.hid (show keys.flatMap keyB = loadL ⟨7, seq, z32, 0, mh, ms, keys⟩ by simp [loadL])
        rw [HE.out] at HWE
        obtain ⟨la, hla⟩ : ∃ la, la = loadL ⟨7, seq, z32, 0, mh, ms, keys⟩ := ⟨_, rfl⟩
        rw [← hla] at HWE
        have HLA := Lib.hid hla
        clear hla HE HW
        go_wp2_with fail
        refine (bytes_any g la _ HWE.out.1 (by have := HWE.out.2; omega)).mono ?_
        rintro e w8 ⟨rfl, hr8, hb8, hs8⟩
        have HB8 := Lib.hid (HB.out.trans (hb8.mono HB.out.size))
        have HS8 := Lib.hid hs8
        have HR8 := Lib.hid hr8
        clear hb8 hs8 hr8
        go_wp2_with fail
        go_ret
        rw [← HLA.out]
        exact ⟨_, rfl, HR8.out, HB8.out, HS8.out, HB.out.size⟩
end Go.Proofs.YtplbcbamnjnhlaaGreatDoor
namespace Go.Proofs.YtplbcbamnjnhlaaGreatDoor
open Go.RowKit

theorem sevOf_snoc (q v : Nat) : sevOf (q + 1) v = sevOf q v ++ [UInt8.ofNat (128 + v / 128 ^ q % 128)] := by simp [sevOf, digs_snoc]
theorem pow_128 (q : Nat) : (128 : Nat) ^ q = 2 ^ (7 * q) := by rw [show (128 : Nat) = 2 ^ 7 by decide, ← Nat.pow_mul]
theorem pow_256 (q : Nat) : (256 : Nat) ^ q = 2 ^ (8 * q) := by rw [show (256 : Nat) = 2 ^ 8 by decide, ← Nat.pow_mul]
theorem sev_byte (l : List UInt8) (c : UInt8) (q n : Nat) (h : 7 * q + n = 8 * l.length) :
    v256 (l ++ [c]) / 128 ^ q = v256 l / 128 ^ q + c.toNat * 2 ^ n ∧ sevOf q (v256 (l ++ [c])) = sevOf q (v256 l) := by
  have e : 256 ^ l.length = 2 ^ n * 128 ^ q := by rw [pow_256, pow_128, ← Nat.pow_add]; congr 1; omega
  rw [v256_snoc, e, ← Nat.mul_assoc]
  refine ⟨?_, ?_⟩
  · rw [Nat.add_mul_div_right _ _ (Nat.pow_pos (by omega))]
  · unfold sevOf
    rw [digs_add_mul 128 (by omega)]
theorem sev_rest (l : List UInt8) (q n : Nat) (h : 7 * q + n = 8 * l.length) : v256 l / 128 ^ q < 2 ^ n := by
  have e : 256 ^ l.length = 2 ^ n * 128 ^ q := by rw [pow_256, pow_128, ← Nat.pow_add]; congr 1; omega
  have := v256_lt l
  rw [e] at this
  exact Nat.div_lt_of_lt_mul (by rw [Nat.mul_comm]; exact this)
theorem or_shl (r c n : Nat) (hr : r < 2 ^ n) (hn : n ≤ 7) (hc : c < 256) : bits .or .u64 (r : Int) (IntKind.u64.wrap ((c : Int) * 2 ^ n)) = ((r + c * 2 ^ n : Nat) : Int) := by
  have h7 : 2 ^ n ≤ 2 ^ 7 := Nat.pow_le_pow_right (by omega) hn
  have h1 : c * 2 ^ n ≤ 255 * 2 ^ 7 := Nat.mul_le_mul (by omega) h7
  have e : ((c : Int) * 2 ^ n) = ((c * 2 ^ n : Nat) : Int) := by simp
  rw [e, IntKind.wrap_u64, Int.emod_eq_of_lt (by omega) (by omega), u64_or_nat _ _ (by omega) (by omega)]
  congr 1
  have h3 := Nat.shiftLeft_add_eq_or_of_lt (a := c) (b := r) (i := n) hr
  rw [Nat.shiftLeft_eq] at h3
  rw [Nat.or_comm, ← h3, Nat.add_comm]
theorem and_127 (r : Nat) (hr : r < 18446744073709551616) : bits .and .u64 (r : Int) 127 = ((r % 128 : Nat) : Int) := by
  rw [show (127 : Int) = ((127 : Nat) : Int) by rfl, u64_and_nat _ _ hr (by omega), show (127 : Nat) = 2 ^ 7 - 1 by decide, Nat.and_two_pow_sub_one_eq_mod]
theorem or_128 (r : Nat) (hr : r < 128) : bits .or .u8 (r : Int) 128 = ((128 + r : Nat) : Int) := by
  rw [show (128 : Int) = ((128 : Nat) : Int) by rfl, u8_or_nat _ _ (by omega) (by omega)]
  congr 1
  have h3 := Nat.shiftLeft_add_eq_or_of_lt (a := 1) (b := r) (i := 7) (by omega)
  rw [Nat.or_comm]
  simpa using h3.symm
theorem sev_own {w : World} {base : Nat} {v : Value} {n m : Nat} {xs : List Value} (h : w.ownsRow base 5 1 v n (xs ++ [.int .u8 (128 + (m : Int))])) (hm : m < 128) :
    w.ownsRow base 5 1 v n (xs ++ bcells [UInt8.ofNat (128 + m)]) := by
  have e : bcells [UInt8.ofNat (128 + m)] = [.int .u8 (128 + (m : Int))] := by simp [bcells, bcell]; omega
  rw [e]
  exact h
set_option maxRecDepth 100000 in
set_option maxHeartbeats 1000000 in
theorem pack_any (g o cap : Nat) (l : List UInt8) (A : Option Addr) (c B : Nat) (w : World) (hg : w.cell? ⟨g, o, none⟩ = some (.slice A l.length c)) (hgB : g < B) (hr : Rd w B A (bcells l)) (hB : B ≤ w.heap.size) (hl : l.length ≤ 68719476736) :
    Calls Tryz.prog 58 #[.slice (some ⟨g, o, none⟩) 1 cap] w fun e w' => ∃ v, e = .returned v ∧ w'.ownsRow w.heap.size 5 1 v (sevPack l).length (bcells (sevPack l)) ∧ Below w.heap.size w w' := by
  have HR := Lib.hid hr
  have HG := Lib.hid hg
  clear hr hg
  go_enter Tryz.func58, Tryz.ntmps58
  go_wp2_with fail
  go_loopw [3, 4, 5, 12] (fun v3 v4 v5 v12 wr => ∃ k q n r : Nat, k ≤ 1 ∧ v12 = .int .i64 k ∧ n < 7 ∧ 7 * q + n = 8 * (if k = 0 then 0 else l.length) ∧ v5 = .int .i64 n ∧ v4 = .int .u64 r ∧ r < 128 ∧ Hid (r = v256 (if k = 0 then [] else l) / 128 ^ q) ∧
    wr.ownsRow w.heap.size 5 1 v3 q (bcells (sevOf q (v256 (if k = 0 then [] else l)))) ∧ Below w.heap.size w wr) (fun _ _ _ v12 _ => 1 - (intOf v12).toNat)
  case atStart => exact ⟨0, 0, 0, 0, by omega, rfl, by omega, rfl, rfl, rfl, by omega, (by show _ = _; simp [v256, ofDigs]), World.ownsRow_nil _ _ _ _, Below.refl _ _⟩
  case round =>
    obtain ⟨k, q, n, r, hk, rfl, hn, hqn, rfl, rfl, hr128, hre, hown, hbr⟩ := hrel
    by_cases h0 : k = 0
    · subst h0
      have hq0 : q = 0 := by simp at hqn; omega
      have hn0 : n = 0 := by simp at hqn; omega
      have hr0 : r = 0 := by have := hre.out; simpa [v256, ofDigs] using this
      subst hq0 hn0 hr0
      clear hre hqn
      have hc : wr.cell? ⟨g, o, none⟩ = some (.slice A l.length c) := (hbr.cell (p := ⟨g, o, none⟩) (by show g < _; omega)).trans HG.out
      have hsz := hbr.size
      obtain ⟨wo, rfl⟩ : ∃ wo : World, wo = wr := ⟨_, rfl⟩
      go_wp2_with fail
      go_loopw [3, 4, 5, 18] (fun v3 v4 v5 v18 wr => ∃ j q n r : Nat, j ≤ l.length ∧ v18 = .int .i64 j ∧ n < 7 ∧ 7 * q + n = 8 * j ∧ v5 = .int .i64 n ∧ v4 = .int .u64 r ∧ r < 128 ∧ Hid (r = v256 (l.take j) / 128 ^ q) ∧
        wr.ownsRow w.heap.size 5 1 v3 q (bcells (sevOf q (v256 (l.take j)))) ∧ Below w.heap.size w wr) (fun _ _ _ v18 _ => l.length - (intOf v18).toNat)
      case atStart => exact ⟨0, 0, 0, 0, by omega, rfl, by omega, rfl, rfl, rfl, by omega, (by show _ = _; simp [v256, ofDigs]), hown, hbr⟩
      case round =>
        obtain ⟨j, q, n, r, hj, rfl, hn, hqn, rfl, rfl, hr128, hre, hown, hbr⟩ := hrel
        by_cases hlt : j < l.length
        · obtain ⟨ab, ao, e0, hab, hcell⟩ := (HR.out.below (hbr.mono hB)).byte hlt
          subst e0
          have hsz2 := hbr.size
          have hb8 := l[j].toNat_lt
          have hlj : (l.take j).length = j := by rw [List.length_take]; omega
          have hrn : r < 2 ^ n := by rw [hre.out]; exact sev_rest _ q n (by rw [hlj]; exact hqn)
          have ho := or_shl r l[j].toNat n hrn (by omega) hb8
          have SB := Lib.hid (sev_byte (l.take j) l[j] q n (by rw [hlj]; exact hqn))
          have HT := Lib.hid (show l.take (j + 1) = l.take j ++ [l[j]] from List.take_succ_eq_append_getElem hlt)
          clear hlj hrn
          obtain ⟨wm, rfl⟩ : ∃ wm : World, wm = wr := ⟨_, rfl⟩
          go_wp2_with fail
          go_loopw [3, 4, 5] (fun v3 v4 v5 wr => ∃ q' n' r' : Nat, n' ≤ 14 ∧ 7 * q' + n' = 8 * (j + 1) ∧ v5 = .int .i64 n' ∧ v4 = .int .u64 r' ∧ r' < 16384 ∧ Hid (r' = v256 (l.take (j + 1)) / 128 ^ q') ∧
            wr.ownsRow w.heap.size 5 1 v3 q' (bcells (sevOf q' (v256 (l.take (j + 1))))) ∧ Below w.heap.size w wr) (fun _ _ v5 _ => (intOf v5).toNat)
          case atStart =>
            have h1 : r + l[j].toNat * 2 ^ n = v256 (l.take (j + 1)) / 128 ^ q := by rw [HT.out, SB.out.1, ← hre.out]
            refine ⟨q, n + 8, r + l[j].toNat * 2 ^ n, by omega, by omega, by go_num, vint (by simp), ?_, h1, ?_, hbr⟩
            · rw [h1]
              have h2 := sev_rest (l.take (j + 1)) q (n + 8) (by rw [List.length_take, Nat.min_eq_left (by omega)]; omega)
              have h3 : 2 ^ (n + 8) ≤ 2 ^ 14 := Nat.pow_le_pow_right (by omega) (by omega)
              omega
            · rw [HT.out, SB.out.2]; exact hown
          case round =>
            clear ho hr128 hcell
            obtain ⟨q', n', r', hn', hqn', rfl, rfl, hr', hre', hown', hbr'⟩ := hrel
            have hsz3 := hbr'.size
            by_cases h7 : 7 ≤ n'
            · have ha := and_127 r' (by omega)
              have hor := or_128 (r' % 128) (by omega)
              obtain ⟨m, hm⟩ : ∃ m, m = r' % 128 := ⟨_, rfl⟩
              rw [← hm] at ha hor
              have hm128 : m < 128 := by omega
              have HM := Lib.hid hm
              clear hm
              go_wp2_with (at_builtin; refine wpList_app u8_ty rfl rfl rfl rfl (hown'.alloc _) (Rd.row (B := wr.heap.size + 1) (Go.heap_alloc_new wr _) (by omega)) rfl (by simp [Value.oneCell']) ?h63 ?hby ?hbase ?_)
              case h63 => simp only [maxLen]; omega
              case hby => omega
              case hbase => simp; omega
              intro v1 w3 hown3 hg3 _ _
              have HO := Lib.hid hown3
              have HG3 := Lib.hid hg3
              clear hown3 hg3
              go_wp2
              go_roundw
              case rel =>
                refine ⟨q' + 1, n' - 7, r' / 128, by omega, by omega, vint (by omega), by rfl, by omega, ?_, ?_, grown_below (hbr'.alloc hsz3 _) HG3.out (hown'.alloc _) (Nat.le_refl _) (by simp; omega)⟩
                · show _ = _
                  rw [hre'.out, Nat.div_div_eq_div_mul, ← Nat.pow_succ]
                · rw [sevOf_snoc, bcells_append, ← hre'.out, ← HM.out]
                  exact sev_own HO.out hm128
              case measure => simp [intOf]; omega
            · have h7' : n' < 7 := by omega
              have hr7 : r' < 128 := by
                have h2 := sev_rest (l.take (j + 1)) q' n' (by rw [List.length_take, Nat.min_eq_left (by omega)]; omega)
                have h3 : 2 ^ n' ≤ 2 ^ 7 := Nat.pow_le_pow_right (by omega) (by omega)
                rw [hre'.out]
                omega
              go_wp2
              go_roundw
              case rel => exact ⟨j + 1, q', n', r', by omega, by go_num, h7', hqn', rfl, rfl, hr7, hre', hown', hbr'⟩
              case measure => simp [intOf]; omega
        · have hjl : j = l.length := by omega
          subst hjl
          go_wp2
          go_roundw
          case rel =>
            rw [List.take_length] at hre hown
            exact ⟨1, q, n, r, by omega, rfl, hn, by simpa using hqn, rfl, rfl, hr128, by simpa using hre, by simpa using hown, hbr⟩
          case measure => simp [intOf]
    · obtain rfl : k = 1 := by omega
      simp only [Nat.one_ne_zero, if_false] at hqn hre hown
      have hsz := hbr.size
      clear hk
      by_cases hn0 : n = 0
      · subst hn0
        have e : sevOf q (v256 l) = sevPack l := by unfold sevPack; congr 1; omega
        have e2 : q = (sevPack l).length := by rw [← e, sevOf_length]
        rw [e] at hown
        go_wp2
        go_ret
        rw [← e2]
        exact ⟨_, rfl, hown, hbr⟩
      · have hor := or_128 r hr128
        have e : sevPack l = sevOf q (v256 l) ++ [UInt8.ofNat (128 + r)] := by
          unfold sevPack
          rw [show (8 * l.length + 6) / 7 = q + 1 by omega, sevOf_snoc, ← hre.out, Nat.mod_eq_of_lt hr128]
        have E := Lib.hid e
        clear e
        go_wp2_with (at_builtin; refine wpList_app u8_ty rfl rfl rfl rfl (hown.alloc _) (Rd.row (B := wr.heap.size + 1) (Go.heap_alloc_new wr _) (by omega)) rfl (by simp [Value.oneCell']) ?h63 ?hby ?hbase ?_)
        case h63 => simp only [maxLen]; omega
        case hby => omega
        case hbase => simp; omega
        intro v1 w3 hown3 hg3 _ _
        have HO := Lib.hid hown3
        have HG3 := Lib.hid hg3
        clear hown3 hg3
        go_wp2
        go_ret
        refine ⟨v1, rfl, ?_, grown_below (hbr.alloc hsz _) HG3.out (hown.alloc _) (Nat.le_refl _) (by simp; omega)⟩
        rw [E.out, List.length_append, sevOf_length, bcells_append]
        exact sev_own HO.out hr128
end Go.Proofs.YtplbcbamnjnhlaaGreatDoor
