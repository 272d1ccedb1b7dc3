/- Contract of rec.load. -/
import Derived.Test.YtplbcbamnjnhlaaDoorMP18
namespace Go.Proofs.YtplbcbamnjnhlaaDoor
open Go.RowKit

/-- a record's load -/
def loadL (r : RecD) : List UInt8 :=
  (if r.kind = 1 then [1] else []) ++ ((if r.kind = 2 ∨ r.kind = 3 then beBytes 6 r.seq.toNat else []) ++ ((if r.kind = 2 ∨ r.kind = 4 ∨ r.kind = 5 ∨ r.kind = 6 then keyB (r.kh, r.kk) else []) ++
    ((if r.kind = 2 ∨ r.kind = 4 then r.mh ++ beBytes 3 r.ms.toNat else []) ++ r.keys.flatMap keyB)))
theorem RecAt.kept {w w' : World} {g b : Nat} {t : TypeId} {kind seq : Int} {kh : List UInt8} {kk : Int} {mh : List UInt8} {ms : Int} {v : Value} (h : RecAt w b t kind seq kh kk mh ms v) (hk : Keep g w w') (hn : b ≠ g) (ht : t ≠ 5) :
    RecAt w' b t kind seq kh kk mh ms v := ⟨hk.other b _ _ _ hn ht h.blk, h.hk, h.hm⟩
theorem RecAt.rd_mark {w : World} {b B : Nat} {t : TypeId} {kind seq : Int} {kh : List UInt8} {kk : Int} {mh : List UInt8} {ms : Int} {v : Value} (h : RecAt w b t kind seq kh kk mh ms v) (hB : b < B) : Rd w B (some ⟨b, 35, none⟩) (bcells mh) :=
  fun _ => ⟨b, 35, rfl, hB, h.hash_⟩
theorem right_kind {r : RecD} (h : rightB r = true) : r.kind = 1 ∨ r.kind = 2 ∨ r.kind = 3 ∨ r.kind = 4 ∨ r.kind = 5 ∨ r.kind = 6 ∨ r.kind = 7 := by
  have : 1 ≤ r.kind ∧ r.kind ≤ 7 := by
    unfold rightB at h
    simp only [Bool.and_eq_true, decide_eq_true_eq] at h
    exact h.1.1.1.1
  omega
theorem rising_ok {xs : List KeyD} (h : risingB xs = true) : xs.length ≤ 256 ∧ ∀ i, (hi : i < xs.length) → kOk xs[i].2 = true := by
  unfold risingB at h
  simp only [Bool.and_eq_true, decide_eq_true_eq] at h
  refine ⟨h.2.2, fun i hi => ?_⟩
  have h1 := List.all_eq_true.1 h.1 i (List.mem_range.2 hi)
  rw [stepOk_at xs i hi] at h1
  simp only [Bool.and_eq_true] at h1
  exact h1.1
theorem keyB_length (k : KeyD) (h : k.1.length = 32) : (keyB k).length = 33 := by simp [keyB, h]
theorem kOk_ne {k : Int} (h : kOk k = true) : k ≠ 0 := by unfold kOk at h; simp at h; omega
theorem right_1 {seq : Int} {kh : List UInt8} {kk : Int} {mh : List UInt8} {ms : Int} {keys : List KeyD} (h : rightB ⟨1, seq, kh, kk, mh, ms, keys⟩ = true) : (kh = z32 ∧ kk = 0) ∧ keys = [] := by
  simp [rightB] at h
  grind
theorem right_2 {seq : Int} {kh : List UInt8} {kk : Int} {mh : List UInt8} {ms : Int} {keys : List KeyD} (h : rightB ⟨2, seq, kh, kk, mh, ms, keys⟩ = true) : (0 ≤ seq ∧ seq ≤ 1099511627776) ∧ kOk kk = true ∧ (0 ≤ ms ∧ ms ≤ 1048576) ∧ keys = [] := by
  simp [rightB, seqOk, markOk] at h
  grind
theorem right_3 {seq : Int} {kh : List UInt8} {kk : Int} {mh : List UInt8} {ms : Int} {keys : List KeyD} (h : rightB ⟨3, seq, kh, kk, mh, ms, keys⟩ = true) : (0 ≤ seq ∧ seq ≤ 1099511627776) ∧ (kh = z32 ∧ kk = 0) ∧ keys = [] := by
  simp [rightB, seqOk] at h
  grind
theorem right_4 {seq : Int} {kh : List UInt8} {kk : Int} {mh : List UInt8} {ms : Int} {keys : List KeyD} (h : rightB ⟨4, seq, kh, kk, mh, ms, keys⟩ = true) : kOk kk = true ∧ (0 ≤ ms ∧ ms ≤ 1048576) ∧ keys = [] := by
  simp [rightB, markOk] at h
  grind
theorem right_5 {seq : Int} {kh : List UInt8} {kk : Int} {mh : List UInt8} {ms : Int} {keys : List KeyD} (h : rightB ⟨5, seq, kh, kk, mh, ms, keys⟩ = true) : kOk kk = true ∧ keys = [] := by
  simp [rightB] at h
  grind
theorem right_6 {seq : Int} {kh : List UInt8} {kk : Int} {mh : List UInt8} {ms : Int} {keys : List KeyD} (h : rightB ⟨6, seq, kh, kk, mh, ms, keys⟩ = true) : kOk kk = true ∧ keys = [] := by
  simp [rightB] at h
  grind
theorem right_7 {seq : Int} {kh : List UInt8} {kk : Int} {mh : List UInt8} {ms : Int} {keys : List KeyD} (h : rightB ⟨7, seq, kh, kk, mh, ms, keys⟩ = true) : (kh = z32 ∧ kk = 0) ∧ risingB keys = true := by
  simp [rightB] at h
  grind
set_option maxRecDepth 100000 in
set_option maxHeartbeats 8000000 in
theorem load_any (r : RecD) (A : Option Addr) (n c B : Nat) (w : World) (hr : Hs r) (h1 : SlR eKey w B (.slice A n c) r.keys) (hB : B ≤ w.heap.size) (hR : rightB r = true) :
    Calls Tryd.prog 24 #[rv r (.slice A n c)] w fun e w' => ∃ g, e = .returned (.slice (some ⟨g, 0, none⟩) (loadL r).length (loadL r).length) ∧ w'.heap[g]? = some (.cells (bcells (loadL r)).toArray 5 (0, 0)) ∧ Below w.heap.size w w' ∧ w'.heap.size = g + 1 ∧ w.heap.size ≤ g := by
  have hkd := right_kind hR
  obtain ⟨kind, seq, kh, kk, mh, ms, keys⟩ := r
  obtain ⟨hk, hm⟩ := hr
  simp only at hk hm h1 hkd
  have HKH := Lib.hid hk
  have HMH := Lib.hid hm
  have N1 := Lib.hid h1.n_eq
  have hc1 := h1.n_le
  have H1 := Lib.hid h1
  have HBW := Lib.hid hB
  have HB1 := Lib.hid ((Below.refl _ _).alloc (Nat.le_refl _) (.cells (recCells kind seq kh kk mh ms (.slice A n c)).toArray 31) : Below w.heap.size w _)
  have HG1 := Lib.hid (RecAt.new (t := 31) (kind := kind) (seq := seq) (kk := kk) (ms := ms) (v := .slice A n c) w hk hm)
  have HS1 := Lib.hid (show (w.alloc (.cells (recCells kind seq kh kk mh ms (.slice A n c)).toArray 31)).heap.size = w.heap.size + 1 from Array.size_push _)
  clear h1 hB hk hm
  go_enter Tryd.func24, Tryd.ntmps24
  go_wp2_with (refine stop_at (some 1) rfl ?_)
  refine Stop.go (wpList_box rfl _ rfl rfl (recv_cells ..) ?_)
  generalize w.alloc (.cells (recCells kind seq kh kk mh ms (.slice A n c)).toArray 31) = w1 at *
  go_wp2_with fail
  refine (write_any _).mono ?_
  rintro e w2 ⟨rfl, hw2, hb2, hs2⟩
  have HW2 := Lib.hid hw2
  have HG2 := Lib.hid (HG1.out.later hb2)
  have HB2 := Lib.hid (HB1.out.trans (hb2.mono HB1.out.size))
  have HNE := Lib.hid (show w.heap.size ≠ w1.heap.size by rw [HS1.out]; omega)
  have HGE := Lib.hid (show w.heap.size ≤ w1.heap.size by rw [HS1.out]; omega)
  clear hw2 hb2 hs2 HB1 HG1 HS1
  generalize w1.heap.size = g at *
  rcases hkd with rfl | rfl | rfl | rfl | rfl | rfl | rfl
  · obtain ⟨⟨rfl, rfl⟩, rfl⟩ := right_1 hR
    obtain rfl : n = 0 := N1.out
    have HR := Lib.hid hR
    clear hR
    have c0 := HG2.out.kind_
    have c1 := HG2.out.seq_
    have c67 := HG2.out.size_
    have c68 := HG2.out.keys_
    go_wp2_with fail
    refine (num_any g 1 1 ([] : List UInt8) _ HW2.out (by decide) (by decide) (by decide) (Nat.zero_le _)).mono ?_
    rintro e w3 ⟨rfl, hw3, hk3⟩
    have HG3 := Lib.hid (HG2.out.kept hk3 HNE.out (by decide))
    have HB3 := Lib.hid (HB2.out.trans (hk3.below.mono HGE.out))
    obtain ⟨l3, hl3⟩ : ∃ l, l = ([] : List UInt8) ++ beBytes 1 1 := ⟨_, rfl⟩
    rw [← hl3] at hw3
    have HW3 := Lib.hid hw3
    have HL3 := Lib.hid hl3
    clear hw3 hk3 hl3 c0 c1 c67 c68
    have c0 := HG3.out.kind_
    have c1 := HG3.out.seq_
    have c67 := HG3.out.size_
    have c68 := HG3.out.keys_
    go_wp2_with (refine stop_at (some 25) rfl ?_)
    refine Stop.go (wpList_seg 1 _ _ _ (fun Q' hQ' => ?_))
    simp only [List.take_succ_cons, List.take_zero]
    go_wp2_with fail
    try simp only [List.drop_succ_cons, List.drop_zero]
    refine Stop.go (wpList_load_agg rfl 26 rfl rfl keyTy.ut rfl (key_size _ _ rfl) HG3.out.key_ ?_)
    refine wpList_build rfl 26 rfl (vs := #[]) (by rfl) (build_key0 _) ?_
    refine wpList_bin rfl .neq 26 rfl rfl rfl (hkv_guard keyTy.gd ..) (hkv_neq keyTy rfl rfl) ?_
    rw [show (!(decide (z32 = z32) && decide ((0 : Int) = 0))) = false by rfl]
    go_wp2_with fail
    go_loopw [56] (fun v56 wr => v56 = .int .i64 0 ∧ wr = w3) (fun _ _ => 0)
    case atStart => exact ⟨rfl, rfl⟩
    case round =>
      obtain ⟨rfl, rfl⟩ := hrel
      go_wp2_with fail
      refine (bytes_any g l3 _ HW3.out (by have := congrArg List.length HL3.out; simp [beBytes_length] at this; omega)).mono ?_
      rintro e w8 ⟨rfl, hr8, hb8, hs8⟩
      have HE := Lib.hid (show l3 = loadL ⟨1, seq, z32, 0, mh, ms, []⟩ by simp [loadL, beBytes_one, HL3.out])
      have HB8 := Lib.hid (HB3.out.trans (hb8.mono HB3.out.size))
      have HS8 := Lib.hid hs8
      have HR8 := Lib.hid hr8
      clear hb8 hs8 hr8
      go_wp2_with fail
      go_ret
      rw [← HE.out]
      exact ⟨_, rfl, HR8.out, HB8.out, HS8.out, HB3.out.size⟩
  · obtain ⟨⟨hs0, hs1⟩, hkk, ⟨hm0, hm1⟩, rfl⟩ := right_2 hR
    obtain ⟨x, rfl⟩ : ∃ x : Nat, seq = x := ⟨seq.toNat, by omega⟩
    obtain ⟨y, rfl⟩ : ∃ y : Nat, ms = y := ⟨ms.toNat, by omega⟩
    obtain rfl : n = 0 := N1.out
    have HR := Lib.hid hR
    clear hR
    have c0 := HG2.out.kind_
    have c1 := HG2.out.seq_
    have c67 := HG2.out.size_
    have c68 := HG2.out.keys_
    go_wp2_with fail
    refine (num_any g 6 x ([] : List UInt8) _ HW2.out (by decide) (by decide) (by omega) (Nat.zero_le _)).mono ?_
    rintro e w3 ⟨rfl, hw3, hk3⟩
    have HG3 := Lib.hid (HG2.out.kept hk3 HNE.out (by decide))
    have HB3 := Lib.hid (HB2.out.trans (hk3.below.mono HGE.out))
    obtain ⟨l3, hl3⟩ : ∃ l, l = ([] : List UInt8) ++ beBytes 6 x := ⟨_, rfl⟩
    rw [← hl3] at hw3
    have HW3 := Lib.hid hw3
    have HL3 := Lib.hid hl3
    clear hw3 hk3 hl3 c0 c1 c67 c68
    have c0 := HG3.out.kind_
    have c1 := HG3.out.seq_
    have c67 := HG3.out.size_
    have c68 := HG3.out.keys_
    go_wp2_with (refine stop_at (some 25) rfl ?_)
    refine Stop.go (wpList_seg 1 _ _ _ (fun Q' hQ' => ?_))
    simp only [List.take_succ_cons, List.take_zero]
    go_wp2_with fail
    try simp only [List.drop_succ_cons, List.drop_zero]
    refine Stop.go (wpList_load_agg rfl 26 rfl rfl keyTy.ut rfl (key_size _ _ HKH.out) HG3.out.key_ ?_)
    refine wpList_build rfl 26 rfl (vs := #[]) (by rfl) (build_key0 _) ?_
    refine wpList_bin rfl .neq 26 rfl rfl rfl (hkv_guard keyTy.gd ..) (hkv_neq keyTy HKH.out rfl) ?_
    rw [show (!(decide (kh = z32) && decide (kk = 0))) = true by simp [kOk_ne hkk]]
    have HKK := Lib.hid hkk
    clear hkk
    go_wp2_with (refine stop_at (some 31) rfl ?_)
    refine Stop.go (wpList_load_agg rfl 26 rfl rfl keyTy.ut rfl (key_size _ _ HKH.out) HG3.out.key_ ?_)
    go_wp2_with fail
    refine (putKey_any g l3 kh kk _ HW3.out HKH.out HKK.out (by have := congrArg List.length HL3.out; simp [beBytes_length] at this; omega)).mono ?_
    rintro e w4 ⟨rfl, hw4, hk4⟩
    have HG4 := Lib.hid (HG3.out.kept hk4 HNE.out (by decide))
    have HB4 := Lib.hid (HB3.out.trans (hk4.below.mono HGE.out))
    obtain ⟨l4, hl4⟩ : ∃ l, l = l3 ++ keyB (kh, kk) := ⟨_, rfl⟩
    rw [← hl4] at hw4
    have HW4 := Lib.hid hw4
    have HL4 := Lib.hid hl4
    clear hw4 hk4 hl4 c0 c1 c67 c68
    have c0 := HG4.out.kind_
    have c1 := HG4.out.seq_
    have c67 := HG4.out.size_
    have c68 := HG4.out.keys_
    go_wp2_with fail
    have hb9 : Below w4.heap.size w4 (w4.alloc (.cells #[.slice (some ⟨w.heap.size, 35, none⟩) 32 32] 22)) := (Below.refl _ _).alloc (Nat.le_refl _) _
    have hg9 := Nat.le_of_lt HW4.out.lt
    refine (raw_any g w4.heap.size 0 1 l4 mh (some ⟨w.heap.size, 35, none⟩) 32 w4.heap.size _ (HW4.out.later hb9) (by rw [HMH.out]; exact cell_new w4 _ _) ((HG4.out.rd_mark HG4.out.lt).below hb9) hb9.size (by have := congrArg List.length HL4.out; simp [HKH.out, beBytes_length, keyB, HL3.out] at this; omega) (by rw [HMH.out]; decide)).mono ?_
    rintro e w5 ⟨rfl, hw5, hk5⟩
    replace hk5 := (Keep.of_below hb9 hg9).trans hk5
    have HG5 := Lib.hid (HG4.out.kept hk5 HNE.out (by decide))
    have HB5 := Lib.hid (HB4.out.trans (hk5.below.mono HGE.out))
    obtain ⟨l5, hl5⟩ : ∃ l, l = l4 ++ mh := ⟨_, rfl⟩
    rw [← hl5] at hw5
    have HW5 := Lib.hid hw5
    have HL5 := Lib.hid hl5
    clear hw5 hk5 hl5 c0 c1 c67 c68
    have c0 := HG5.out.kind_
    have c1 := HG5.out.seq_
    have c67 := HG5.out.size_
    have c68 := HG5.out.keys_
    clear hb9 hg9
    go_wp2_with fail
    refine (num_any g 3 y l5 _ HW5.out (by decide) (by decide) (by omega) (by have := congrArg List.length HL5.out; simp [HKH.out, HMH.out, beBytes_length, keyB, HL3.out, HL4.out] at this; omega)).mono ?_
    rintro e w6 ⟨rfl, hw6, hk6⟩
    have HG6 := Lib.hid (HG5.out.kept hk6 HNE.out (by decide))
    have HB6 := Lib.hid (HB5.out.trans (hk6.below.mono HGE.out))
    obtain ⟨l6, hl6⟩ : ∃ l, l = l5 ++ beBytes 3 y := ⟨_, rfl⟩
    rw [← hl6] at hw6
    have HW6 := Lib.hid hw6
    have HL6 := Lib.hid hl6
    clear hw6 hk6 hl6 c0 c1 c67 c68
    have c0 := HG6.out.kind_
    have c1 := HG6.out.seq_
    have c67 := HG6.out.size_
    have c68 := HG6.out.keys_
    go_wp2_with fail
    go_loopw [56] (fun v56 wr => v56 = .int .i64 0 ∧ wr = w6) (fun _ _ => 0)
    case atStart => exact ⟨rfl, rfl⟩
    case round =>
      obtain ⟨rfl, rfl⟩ := hrel
      go_wp2_with fail
      refine (bytes_any g l6 _ HW6.out (by have := congrArg List.length HL6.out; simp [HKH.out, HMH.out, beBytes_length, keyB, HL3.out, HL4.out, HL5.out] at this; omega)).mono ?_
      rintro e w8 ⟨rfl, hr8, hb8, hs8⟩
      have HE := Lib.hid (show l6 = loadL ⟨2, (x : Int), kh, kk, mh, (y : Int), []⟩ by simp [loadL, HL3.out, HL4.out, HL5.out, HL6.out])
      have HB8 := Lib.hid (HB6.out.trans (hb8.mono HB6.out.size))
      have HS8 := Lib.hid hs8
      have HR8 := Lib.hid hr8
      clear hb8 hs8 hr8
      go_wp2_with fail
      go_ret
      rw [← HE.out]
      exact ⟨_, rfl, HR8.out, HB8.out, HS8.out, HB6.out.size⟩
  · obtain ⟨⟨hs0, hs1⟩, ⟨rfl, rfl⟩, rfl⟩ := right_3 hR
    obtain ⟨x, rfl⟩ : ∃ x : Nat, seq = x := ⟨seq.toNat, by omega⟩
    obtain rfl : n = 0 := N1.out
    have HR := Lib.hid hR
    clear hR
    have c0 := HG2.out.kind_
    have c1 := HG2.out.seq_
    have c67 := HG2.out.size_
    have c68 := HG2.out.keys_
    go_wp2_with fail
    refine (num_any g 6 x ([] : List UInt8) _ HW2.out (by decide) (by decide) (by omega) (Nat.zero_le _)).mono ?_
    rintro e w3 ⟨rfl, hw3, hk3⟩
    have HG3 := Lib.hid (HG2.out.kept hk3 HNE.out (by decide))
    have HB3 := Lib.hid (HB2.out.trans (hk3.below.mono HGE.out))
    obtain ⟨l3, hl3⟩ : ∃ l, l = ([] : List UInt8) ++ beBytes 6 x := ⟨_, rfl⟩
    rw [← hl3] at hw3
    have HW3 := Lib.hid hw3
    have HL3 := Lib.hid hl3
    clear hw3 hk3 hl3 c0 c1 c67 c68
    have c0 := HG3.out.kind_
    have c1 := HG3.out.seq_
    have c67 := HG3.out.size_
    have c68 := HG3.out.keys_
    go_wp2_with (refine stop_at (some 25) rfl ?_)
    refine Stop.go (wpList_seg 1 _ _ _ (fun Q' hQ' => ?_))
    simp only [List.take_succ_cons, List.take_zero]
    go_wp2_with fail
    try simp only [List.drop_succ_cons, List.drop_zero]
    refine Stop.go (wpList_load_agg rfl 26 rfl rfl keyTy.ut rfl (key_size _ _ rfl) HG3.out.key_ ?_)
    refine wpList_build rfl 26 rfl (vs := #[]) (by rfl) (build_key0 _) ?_
    refine wpList_bin rfl .neq 26 rfl rfl rfl (hkv_guard keyTy.gd ..) (hkv_neq keyTy rfl rfl) ?_
    rw [show (!(decide (z32 = z32) && decide ((0 : Int) = 0))) = false by rfl]
    go_wp2_with fail
    go_loopw [56] (fun v56 wr => v56 = .int .i64 0 ∧ wr = w3) (fun _ _ => 0)
    case atStart => exact ⟨rfl, rfl⟩
    case round =>
      obtain ⟨rfl, rfl⟩ := hrel
      go_wp2_with fail
      refine (bytes_any g l3 _ HW3.out (by have := congrArg List.length HL3.out; simp [beBytes_length] at this; omega)).mono ?_
      rintro e w8 ⟨rfl, hr8, hb8, hs8⟩
      have HE := Lib.hid (show l3 = loadL ⟨3, (x : Int), z32, 0, mh, ms, []⟩ by simp [loadL, HL3.out])
      have HB8 := Lib.hid (HB3.out.trans (hb8.mono HB3.out.size))
      have HS8 := Lib.hid hs8
      have HR8 := Lib.hid hr8
      clear hb8 hs8 hr8
      go_wp2_with fail
      go_ret
      rw [← HE.out]
      exact ⟨_, rfl, HR8.out, HB8.out, HS8.out, HB3.out.size⟩
  · obtain ⟨hkk, ⟨hm0, hm1⟩, rfl⟩ := right_4 hR
    obtain ⟨y, rfl⟩ : ∃ y : Nat, ms = y := ⟨ms.toNat, by omega⟩
    obtain rfl : n = 0 := N1.out
    have HR := Lib.hid hR
    clear hR
    have c0 := HG2.out.kind_
    have c1 := HG2.out.seq_
    have c67 := HG2.out.size_
    have c68 := HG2.out.keys_
    go_wp2_with (refine stop_at (some 25) rfl ?_)
    refine Stop.go (wpList_seg 1 _ _ _ (fun Q' hQ' => ?_))
    simp only [List.take_succ_cons, List.take_zero]
    go_wp2_with fail
    try simp only [List.drop_succ_cons, List.drop_zero]
    refine Stop.go (wpList_load_agg rfl 26 rfl rfl keyTy.ut rfl (key_size _ _ HKH.out) HG2.out.key_ ?_)
    refine wpList_build rfl 26 rfl (vs := #[]) (by rfl) (build_key0 _) ?_
    refine wpList_bin rfl .neq 26 rfl rfl rfl (hkv_guard keyTy.gd ..) (hkv_neq keyTy HKH.out rfl) ?_
    rw [show (!(decide (kh = z32) && decide (kk = 0))) = true by simp [kOk_ne hkk]]
    have HKK := Lib.hid hkk
    clear hkk
    go_wp2_with (refine stop_at (some 31) rfl ?_)
    refine Stop.go (wpList_load_agg rfl 26 rfl rfl keyTy.ut rfl (key_size _ _ HKH.out) HG2.out.key_ ?_)
    go_wp2_with fail
    refine (putKey_any g ([] : List UInt8) kh kk _ HW2.out HKH.out HKK.out (Nat.zero_le _)).mono ?_
    rintro e w3 ⟨rfl, hw3, hk3⟩
    have HG3 := Lib.hid (HG2.out.kept hk3 HNE.out (by decide))
    have HB3 := Lib.hid (HB2.out.trans (hk3.below.mono HGE.out))
    obtain ⟨l3, hl3⟩ : ∃ l, l = ([] : List UInt8) ++ keyB (kh, kk) := ⟨_, rfl⟩
    rw [← hl3] at hw3
    have HW3 := Lib.hid hw3
    have HL3 := Lib.hid hl3
    clear hw3 hk3 hl3 c0 c1 c67 c68
    have c0 := HG3.out.kind_
    have c1 := HG3.out.seq_
    have c67 := HG3.out.size_
    have c68 := HG3.out.keys_
    go_wp2_with fail
    have hb9 : Below w3.heap.size w3 (w3.alloc (.cells #[.slice (some ⟨w.heap.size, 35, none⟩) 32 32] 22)) := (Below.refl _ _).alloc (Nat.le_refl _) _
    have hg9 := Nat.le_of_lt HW3.out.lt
    refine (raw_any g w3.heap.size 0 1 l3 mh (some ⟨w.heap.size, 35, none⟩) 32 w3.heap.size _ (HW3.out.later hb9) (by rw [HMH.out]; exact cell_new w3 _ _) ((HG3.out.rd_mark HG3.out.lt).below hb9) hb9.size (by have := congrArg List.length HL3.out; simp [HKH.out, keyB] at this; omega) (by rw [HMH.out]; decide)).mono ?_
    rintro e w4 ⟨rfl, hw4, hk4⟩
    replace hk4 := (Keep.of_below hb9 hg9).trans hk4
    have HG4 := Lib.hid (HG3.out.kept hk4 HNE.out (by decide))
    have HB4 := Lib.hid (HB3.out.trans (hk4.below.mono HGE.out))
    obtain ⟨l4, hl4⟩ : ∃ l, l = l3 ++ mh := ⟨_, rfl⟩
    rw [← hl4] at hw4
    have HW4 := Lib.hid hw4
    have HL4 := Lib.hid hl4
    clear hw4 hk4 hl4 c0 c1 c67 c68
    have c0 := HG4.out.kind_
    have c1 := HG4.out.seq_
    have c67 := HG4.out.size_
    have c68 := HG4.out.keys_
    clear hb9 hg9
    go_wp2_with fail
    refine (num_any g 3 y l4 _ HW4.out (by decide) (by decide) (by omega) (by have := congrArg List.length HL4.out; simp [HKH.out, HMH.out, keyB, HL3.out] at this; omega)).mono ?_
    rintro e w5 ⟨rfl, hw5, hk5⟩
    have HG5 := Lib.hid (HG4.out.kept hk5 HNE.out (by decide))
    have HB5 := Lib.hid (HB4.out.trans (hk5.below.mono HGE.out))
    obtain ⟨l5, hl5⟩ : ∃ l, l = l4 ++ beBytes 3 y := ⟨_, rfl⟩
    rw [← hl5] at hw5
    have HW5 := Lib.hid hw5
    have HL5 := Lib.hid hl5
    clear hw5 hk5 hl5 c0 c1 c67 c68
    have c0 := HG5.out.kind_
    have c1 := HG5.out.seq_
    have c67 := HG5.out.size_
    have c68 := HG5.out.keys_
    go_wp2_with fail
    go_loopw [56] (fun v56 wr => v56 = .int .i64 0 ∧ wr = w5) (fun _ _ => 0)
    case atStart => exact ⟨rfl, rfl⟩
    case round =>
      obtain ⟨rfl, rfl⟩ := hrel
      go_wp2_with fail
      refine (bytes_any g l5 _ HW5.out (by have := congrArg List.length HL5.out; simp [HKH.out, HMH.out, beBytes_length, keyB, HL3.out, HL4.out] at this; omega)).mono ?_
      rintro e w8 ⟨rfl, hr8, hb8, hs8⟩
      have HE := Lib.hid (show l5 = loadL ⟨4, seq, kh, kk, mh, (y : Int), []⟩ by simp [loadL, HL3.out, HL4.out, HL5.out])
      have HB8 := Lib.hid (HB5.out.trans (hb8.mono HB5.out.size))
      have HS8 := Lib.hid hs8
      have HR8 := Lib.hid hr8
      clear hb8 hs8 hr8
      go_wp2_with fail
      go_ret
      rw [← HE.out]
      exact ⟨_, rfl, HR8.out, HB8.out, HS8.out, HB5.out.size⟩
  · obtain ⟨hkk, rfl⟩ := right_5 hR
    obtain rfl : n = 0 := N1.out
    have HR := Lib.hid hR
    clear hR
    have c0 := HG2.out.kind_
    have c1 := HG2.out.seq_
    have c67 := HG2.out.size_
    have c68 := HG2.out.keys_
    go_wp2_with (refine stop_at (some 25) rfl ?_)
    refine Stop.go (wpList_seg 1 _ _ _ (fun Q' hQ' => ?_))
    simp only [List.take_succ_cons, List.take_zero]
    go_wp2_with fail
    try simp only [List.drop_succ_cons, List.drop_zero]
    refine Stop.go (wpList_load_agg rfl 26 rfl rfl keyTy.ut rfl (key_size _ _ HKH.out) HG2.out.key_ ?_)
    refine wpList_build rfl 26 rfl (vs := #[]) (by rfl) (build_key0 _) ?_
    refine wpList_bin rfl .neq 26 rfl rfl rfl (hkv_guard keyTy.gd ..) (hkv_neq keyTy HKH.out rfl) ?_
    rw [show (!(decide (kh = z32) && decide (kk = 0))) = true by simp [kOk_ne hkk]]
    have HKK := Lib.hid hkk
    clear hkk
    go_wp2_with (refine stop_at (some 31) rfl ?_)
    refine Stop.go (wpList_load_agg rfl 26 rfl rfl keyTy.ut rfl (key_size _ _ HKH.out) HG2.out.key_ ?_)
    go_wp2_with fail
    refine (putKey_any g ([] : List UInt8) kh kk _ HW2.out HKH.out HKK.out (Nat.zero_le _)).mono ?_
    rintro e w3 ⟨rfl, hw3, hk3⟩
    have HG3 := Lib.hid (HG2.out.kept hk3 HNE.out (by decide))
    have HB3 := Lib.hid (HB2.out.trans (hk3.below.mono HGE.out))
    obtain ⟨l3, hl3⟩ : ∃ l, l = ([] : List UInt8) ++ keyB (kh, kk) := ⟨_, rfl⟩
    rw [← hl3] at hw3
    have HW3 := Lib.hid hw3
    have HL3 := Lib.hid hl3
    clear hw3 hk3 hl3 c0 c1 c67 c68
    have c0 := HG3.out.kind_
    have c1 := HG3.out.seq_
    have c67 := HG3.out.size_
    have c68 := HG3.out.keys_
    go_wp2_with fail
    go_loopw [56] (fun v56 wr => v56 = .int .i64 0 ∧ wr = w3) (fun _ _ => 0)
    case atStart => exact ⟨rfl, rfl⟩
    case round =>
      obtain ⟨rfl, rfl⟩ := hrel
      go_wp2_with fail
      refine (bytes_any g l3 _ HW3.out (by have := congrArg List.length HL3.out; simp [HKH.out, keyB] at this; omega)).mono ?_
      rintro e w8 ⟨rfl, hr8, hb8, hs8⟩
      have HE := Lib.hid (show l3 = loadL ⟨5, seq, kh, kk, mh, ms, []⟩ by simp [loadL, HL3.out])
      have HB8 := Lib.hid (HB3.out.trans (hb8.mono HB3.out.size))
      have HS8 := Lib.hid hs8
      have HR8 := Lib.hid hr8
      clear hb8 hs8 hr8
      go_wp2_with fail
      go_ret
      rw [← HE.out]
      exact ⟨_, rfl, HR8.out, HB8.out, HS8.out, HB3.out.size⟩
  · obtain ⟨hkk, rfl⟩ := right_6 hR
    obtain rfl : n = 0 := N1.out
    have HR := Lib.hid hR
    clear hR
    have c0 := HG2.out.kind_
    have c1 := HG2.out.seq_
    have c67 := HG2.out.size_
    have c68 := HG2.out.keys_
    go_wp2_with (refine stop_at (some 25) rfl ?_)
    refine Stop.go (wpList_seg 1 _ _ _ (fun Q' hQ' => ?_))
    simp only [List.take_succ_cons, List.take_zero]
    go_wp2_with fail
    try simp only [List.drop_succ_cons, List.drop_zero]
    refine Stop.go (wpList_load_agg rfl 26 rfl rfl keyTy.ut rfl (key_size _ _ HKH.out) HG2.out.key_ ?_)
    refine wpList_build rfl 26 rfl (vs := #[]) (by rfl) (build_key0 _) ?_
    refine wpList_bin rfl .neq 26 rfl rfl rfl (hkv_guard keyTy.gd ..) (hkv_neq keyTy HKH.out rfl) ?_
    rw [show (!(decide (kh = z32) && decide (kk = 0))) = true by simp [kOk_ne hkk]]
    have HKK := Lib.hid hkk
    clear hkk
    go_wp2_with (refine stop_at (some 31) rfl ?_)
    refine Stop.go (wpList_load_agg rfl 26 rfl rfl keyTy.ut rfl (key_size _ _ HKH.out) HG2.out.key_ ?_)
    go_wp2_with fail
    refine (putKey_any g ([] : List UInt8) kh kk _ HW2.out HKH.out HKK.out (Nat.zero_le _)).mono ?_
    rintro e w3 ⟨rfl, hw3, hk3⟩
    have HG3 := Lib.hid (HG2.out.kept hk3 HNE.out (by decide))
    have HB3 := Lib.hid (HB2.out.trans (hk3.below.mono HGE.out))
    obtain ⟨l3, hl3⟩ : ∃ l, l = ([] : List UInt8) ++ keyB (kh, kk) := ⟨_, rfl⟩
    rw [← hl3] at hw3
    have HW3 := Lib.hid hw3
    have HL3 := Lib.hid hl3
    clear hw3 hk3 hl3 c0 c1 c67 c68
    have c0 := HG3.out.kind_
    have c1 := HG3.out.seq_
    have c67 := HG3.out.size_
    have c68 := HG3.out.keys_
    go_wp2_with fail
    go_loopw [56] (fun v56 wr => v56 = .int .i64 0 ∧ wr = w3) (fun _ _ => 0)
    case atStart => exact ⟨rfl, rfl⟩
    case round =>
      obtain ⟨rfl, rfl⟩ := hrel
      go_wp2_with fail
      refine (bytes_any g l3 _ HW3.out (by have := congrArg List.length HL3.out; simp [HKH.out, keyB] at this; omega)).mono ?_
      rintro e w8 ⟨rfl, hr8, hb8, hs8⟩
      have HE := Lib.hid (show l3 = loadL ⟨6, seq, kh, kk, mh, ms, []⟩ by simp [loadL, HL3.out])
      have HB8 := Lib.hid (HB3.out.trans (hb8.mono HB3.out.size))
      have HS8 := Lib.hid hs8
      have HR8 := Lib.hid hr8
      clear hb8 hs8 hr8
      go_wp2_with fail
      go_ret
      rw [← HE.out]
      exact ⟨_, rfl, HR8.out, HB8.out, HS8.out, HB3.out.size⟩
  · obtain ⟨⟨rfl, rfl⟩, hris⟩ := right_7 hR
    have HR := Lib.hid hR
    clear hR
    have c0 := HG2.out.kind_
    have c1 := HG2.out.seq_
    have c67 := HG2.out.size_
    have c68 := HG2.out.keys_
    go_wp2_with (refine stop_at (some 25) rfl ?_)
    refine Stop.go (wpList_seg 1 _ _ _ (fun Q' hQ' => ?_))
    simp only [List.take_succ_cons, List.take_zero]
    go_wp2_with fail
    try simp only [List.drop_succ_cons, List.drop_zero]
    refine Stop.go (wpList_load_agg rfl 26 rfl rfl keyTy.ut rfl (key_size _ _ rfl) HG2.out.key_ ?_)
    refine wpList_build rfl 26 rfl (vs := #[]) (by rfl) (build_key0 _) ?_
    refine wpList_bin rfl .neq 26 rfl rfl rfl (hkv_guard keyTy.gd ..) (hkv_neq keyTy rfl rfl) ?_
    rw [show (!(decide (z32 = z32) && decide ((0 : Int) = 0))) = false by rfl]
    go_wp2_with fail
    obtain ⟨hlen, hok⟩ := rising_ok hris
    have HLEN := Lib.hid hlen
    have HOK := Lib.hid hok
    clear hlen hok hris
    clear c0 c1 c67 c68
    go_loopw [56] (fun v56 wr => ∃ i : Nat, i ≤ n ∧ v56 = .int .i64 i ∧ Hid (WrR wr g ((keys.take i).flatMap keyB) ∧ ((keys.take i).flatMap keyB).length = 33 * i) ∧ Hid (Below w.heap.size w wr)) (fun v56 _ => n - (intOf v56).toNat)
    case atStart => exact ⟨0, by omega, rfl, ⟨by simpa using HW2.out, by simp⟩, HB2.out⟩
    case round =>
      obtain ⟨i, hi, rfl, HW, HB⟩ := hrel
      by_cases hlt : i < n
      · have hlt1 : i < keys.length := by have := N1.out; omega
        have HRK := Lib.hid (H1.out.below (HB.out.mono HBW.out))
        obtain ⟨b1, o1, rfl, _, hb1, hl1, e1⟩ := keys_at HRK.out hlt1
        obtain ⟨x1, x2, hx⟩ : ∃ x1 x2, keys[i] = (x1, x2) := ⟨_, _, rfl⟩
        have hk2 := HOK.out i hlt1
        rw [hx] at hl1 e1 hk2
        simp only at hl1 e1 hk2
        have HX := Lib.hid hx
        have E1 := Lib.hid e1
        have L1 := Lib.hid hl1
        have K2 := Lib.hid hk2
        clear e1 hx hl1 hk2
        go_wp2_with (refine stop_at (some 58) rfl ?_)
        refine Stop.go (wpList_seg 1 _ _ _ (fun Q' hQ' => ?_))
        simp only [List.take_succ_cons, List.take_zero]
        go_wp2_with fail
        try simp only [List.drop_succ_cons, List.drop_zero]
        refine Stop.go (wpList_load_agg rfl 26 rfl rfl keyTy.ut rfl (key_size x1 x2 L1.out) E1.out ?_)
        refine wpList_alloc rfl 26 rfl zero_key rfl ?_
        refine wpList_store_agg rfl 26 rfl rfl rfl (store_new2 (g := wr.heap.size) rfl (hkv_cells _ _) (key_size _ _ L1.out) (by rw [List.size_toArray, hkCells_length, hkCells_length, L1.out]; rfl) (hkCells_one _ _)) ?_
        have hb2 : Below wr.heap.size wr (wr.alloc (.cells (hkCells x1 x2).toArray 26)) := (Below.refl _ _).alloc (Nat.le_refl _) _
        have HG := Lib.hid (Go.heap_alloc_new wr (.cells (hkCells x1 x2).toArray 26))
        have HB2 := Lib.hid (HB.out.trans (hb2.mono HB.out.size))
        have HW2 := Lib.hid (HW.out.1.later hb2)
        have HLN := Lib.hid HW.out.2
        have HTK := Lib.hid (show (keys.take (i + 1)).flatMap keyB = (keys.take i).flatMap keyB ++ keyB (x1, x2) by rw [List.take_succ_eq_append_getElem hlt1, HX.out]; simp)
        obtain ⟨la, hla⟩ : ∃ la, la = (keys.take i).flatMap keyB := ⟨_, rfl⟩
        rw [← hla] at HW2 HLN HTK
        clear hb2 E1 HRK hb1 HW hla
        generalize wr.alloc (.cells (hkCells x1 x2).toArray 26) = wa at *
        generalize wr.heap.size = m2 at *
        go_wp2_with (refine stop_at (some 61) rfl ?_)
        refine Stop.go (wpList_load_agg rfl 26 rfl rfl keyTy.ut rfl (key_size x1 x2 L1.out) (row_cells HG.out) ?_)
        go_wp2_with fail
        refine (putKey_any g la x1 x2 _ HW2.out L1.out K2.out (by have h3 := HLN.out; have h4 := HLEN.out; omega)).mono ?_
        rintro e wb ⟨rfl, hwb, hkb⟩
        rw [← HTK.out] at hwb
        have HWB := Lib.hid (And.intro hwb (show ((keys.take (i + 1)).flatMap keyB).length = 33 * (i + 1) by rw [HTK.out, List.length_append, HLN.out, keyB_length _ L1.out]; omega))
        have HBB := Lib.hid (HB2.out.trans (hkb.below.mono HGE.out))
        clear hwb hkb
        go_wp2_with fail
        refine ⟨⟨i + 1, by omega, by simp, HWB, HBB⟩, ?_⟩
        simp [intOf]; omega
      · obtain rfl : i = n := by omega
        have HWE := Lib.hid (show WrR wr g (keys.flatMap keyB) ∧ (keys.flatMap keyB).length ≤ 8448 by
          have h2 := HW.out
          rw [List.take_of_length_le (by have := N1.out; omega)] at h2
          exact ⟨h2.1, by have := h2.2; have := HLEN.out; have := N1.out; omega⟩)
        have HE := Lib.hid (show keys.flatMap keyB = loadL ⟨7, seq, z32, 0, mh, ms, keys⟩ by simp [loadL])
        rw [HE.out] at HWE
        obtain ⟨la, hla⟩ : ∃ la, la = loadL ⟨7, seq, z32, 0, mh, ms, keys⟩ := ⟨_, rfl⟩
        rw [← hla] at HWE
        have HLA := Lib.hid hla
        clear hla HE HW
        go_wp2_with fail
        refine (bytes_any g la _ HWE.out.1 (by have := HWE.out.2; omega)).mono ?_
        rintro e w8 ⟨rfl, hr8, hb8, hs8⟩
        have HB8 := Lib.hid (HB.out.trans (hb8.mono HB.out.size))
        have HS8 := Lib.hid hs8
        have HR8 := Lib.hid hr8
        clear hb8 hs8 hr8
        go_wp2_with fail
        go_ret
        rw [← HLA.out]
        exact ⟨_, rfl, HR8.out, HB8.out, HS8.out, HB.out.size⟩
end Go.Proofs.YtplbcbamnjnhlaaDoor
