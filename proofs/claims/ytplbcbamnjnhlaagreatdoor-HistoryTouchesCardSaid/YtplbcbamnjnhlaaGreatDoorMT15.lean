/- Texts of this proof joined: Load, Seven. -/
import Derived.Test.YtplbcbamnjnhlaaGreatDoorMT00
import Derived.Test.YtplbcbamnjnhlaaGreatDoorMT14
import Derived.Test.YtplbcbamnjnhlaaGreatDoorMT05
set_option maxRecDepth 100000
set_option maxHeartbeats 40000000
namespace Go.Proofs.YtplbcbamnjnhlaaGreatDoor
open Go.RowKit

def dx (r : RecD) : List UInt8 :=
 (if r.kind = 1 then [1] else []) ++ ((if r.kind = 2 ∨ r.kind = 3 then cb 6 r.seq.toNat else []) ++ ((if r.kind = 2 ∨ r.kind = 4 ∨ r.kind = 5 ∨ r.kind = 6 then keyB (r.kh, r.kk) else []) ++
  ((if r.kind = 2 ∨ r.kind = 4 then r.mh ++ cb 3 r.ms.toNat else []) ++ r.keys.flatMap keyB)))
theorem cu.kept {w w' : World} {g b : Nat} {t : TypeId} {kind seq : Int} {kh : List UInt8} {kk : Int} {mh : List UInt8} {ms : Int} {v : Value} (h : cu w b t kind seq kh kk mh ms v) (hk : Keep g w w') (hn : b ≠ g) (ht : t ≠ 5) :
  cu w' b t kind seq kh kk mh ms v := ⟨hk.other b _ _ _ hn ht h.blk, h.hk, h.hm⟩
theorem cu.rd_mark {w : World} {b B : Nat} {t : TypeId} {kind seq : Int} {kh : List UInt8} {kk : Int} {mh : List UInt8} {ms : Int} {v : Value} (h : cu w b t kind seq kh kk mh ms v) (hB : b < B) : Rd w B (some ⟨b, 35, none⟩) (ak mh) :=
 fun _ => ⟨b, 35, rfl, hB, h.hash_⟩
theorem lq {r : RecD} (h : au r = true) : r.kind = 1 ∨ r.kind = 2 ∨ r.kind = 3 ∨ r.kind = 4 ∨ r.kind = 5 ∨ r.kind = 6 ∨ r.kind = 7 := by
 have : 1 ≤ r.kind ∧ r.kind ≤ 7 := by
  unfold au at h
  simp only [Bool.and_eq_true, decide_eq_true_eq] at h
  exact h.1.1.1.1
 omega
theorem xk {xs : List KeyD} (h : fl xs = true) : xs.length ≤ 256 ∧ ∀ i, (hi : i < xs.length) → kOk xs[i].2 = true := by
 unfold fl at h
 simp only [Bool.and_eq_true, decide_eq_true_eq] at h
 refine ⟨h.2.2, fun i hi => ?_⟩
 have h1 := List.all_eq_true.1 h.1 i (List.mem_range.2 hi)
 rw [lx xs i hi] at h1
 simp only [Bool.and_eq_true] at h1
 exact h1.1
theorem fi (k : KeyD) (h : k.1.length = 32) : (keyB k).length = 33 := by simp [keyB, h]
theorem qjp {k : Int} (h : kOk k = true) : k ≠ 0 := by unfold kOk at h; simp at h; omega
theorem qqv {seq : Int} {kh : List UInt8} {kk : Int} {mh : List UInt8} {ms : Int} {keys : List KeyD} (h : au ⟨1, seq, kh, kk, mh, ms, keys⟩ = true) : (kh = z32 ∧ kk = 0) ∧ keys = [] := by
 simp [au] at h
 grind
theorem qqu {seq : Int} {kh : List UInt8} {kk : Int} {mh : List UInt8} {ms : Int} {keys : List KeyD} (h : au ⟨2, seq, kh, kk, mh, ms, keys⟩ = true) : (0 ≤ seq ∧ seq ≤ 1099511627776) ∧ kOk kk = true ∧ (0 ≤ ms ∧ ms ≤ 1048576) ∧ keys = [] := by
 simp [au, pk, lr] at h
 grind
theorem qqt {seq : Int} {kh : List UInt8} {kk : Int} {mh : List UInt8} {ms : Int} {keys : List KeyD} (h : au ⟨3, seq, kh, kk, mh, ms, keys⟩ = true) : (0 ≤ seq ∧ seq ≤ 1099511627776) ∧ (kh = z32 ∧ kk = 0) ∧ keys = [] := by
 simp [au, pk] at h
 grind
theorem qqs {seq : Int} {kh : List UInt8} {kk : Int} {mh : List UInt8} {ms : Int} {keys : List KeyD} (h : au ⟨4, seq, kh, kk, mh, ms, keys⟩ = true) : kOk kk = true ∧ (0 ≤ ms ∧ ms ≤ 1048576) ∧ keys = [] := by
 simp [au, lr] at h
 grind
theorem qqr {seq : Int} {kh : List UInt8} {kk : Int} {mh : List UInt8} {ms : Int} {keys : List KeyD} (h : au ⟨5, seq, kh, kk, mh, ms, keys⟩ = true) : kOk kk = true ∧ keys = [] := by
 simp [au] at h
 grind
theorem qqq {seq : Int} {kh : List UInt8} {kk : Int} {mh : List UInt8} {ms : Int} {keys : List KeyD} (h : au ⟨6, seq, kh, kk, mh, ms, keys⟩ = true) : kOk kk = true ∧ keys = [] := by
 simp [au] at h
 grind
theorem qdk {seq : Int} {kh : List UInt8} {kk : Int} {mh : List UInt8} {ms : Int} {keys : List KeyD} (h : au ⟨7, seq, kh, kk, mh, ms, keys⟩ = true) : (kh = z32 ∧ kk = 0) ∧ fl keys = true := by
 simp [au] at h
 grind
theorem load_any (r : RecD) (A : Option Addr) (n c B : Nat) (w : World) (hr : Hs r) (h1 : SlR eKey w B (.slice A n c) r.keys) (hB : B ≤ w.heap.size) (hR : au r = true) :
  Calls Tryz.prog 57 #[rv r (.slice A n c)] w fun e w' => ∃ g, e = .returned (.slice (some ⟨g, 0, none⟩) (dx r).length (dx r).length) ∧ w'.heap[g]? = some (.cells (ak (dx r)).toArray 5 (0, 0)) ∧ Below w.heap.size w w' ∧ w'.heap.size = g + 1 ∧ w.heap.size ≤ g := by
 have hkd := lq hR
 obtain ⟨kind, seq, kh, kk, mh, ms, keys⟩ := r
 obtain ⟨hk, hm⟩ := hr
 simp only at hk hm h1 hkd
 have HKH := Lh hk
 have HMH := Lh hm
 have N1 := Lh h1.n_eq
 have hc1 := h1.n_le
 have H1 := Lh h1
 have HBW := Lh hB
 have HB1 := Lh ((br _ _).alloc (nr _) (.cells (ag kind seq kh kk mh ms (.slice A n c)).toArray 38) : Below w.heap.size w _)
 have HG1 := Lh (cu.new (t := 38) (kind := kind) (seq := seq) (kk := kk) (ms := ms) (v := .slice A n c) w hk hm)
 have HS1 := Lh (show (w.alloc (.cells (ag kind seq kh kk mh ms (.slice A n c)).toArray 38)).heap.size = w.heap.size + 1 from Array.size_push _)
 clear h1 hB hk hm
 go_enter Tryz.func57, Tryz.ntmps57
 go_wp2_with (refine ai (some 1) rfl ?_)
 refine Stop.go (bn rfl _ rfl rfl (bb ..) ?_)
 generalize w.alloc (.cells (ag kind seq kh kk mh ms (.slice A n c)).toArray 38) = w1 at *
 go_wp2_with fail
 refine (qhg _).mono ?_
 rintro e w2 ⟨rfl, hw2, hb2, hs2⟩
 have HW2 := Lh hw2
 have HG2 := Lh (HG1.o.later hb2)
 have HB2 := Lh (HB1.o.trans (hb2.mono HB1.o.size))
 have HNE := Lh (show w.heap.size ≠ w1.heap.size by rw [HS1.o]; omega)
 have HGE := Lh (show w.heap.size ≤ w1.heap.size by rw [HS1.o]; omega)
 clear hw2 hb2 hs2 HB1 HG1 HS1
 generalize w1.heap.size = g at *
 rcases hkd with rfl | rfl | rfl | rfl | rfl | rfl | rfl
 ·obtain ⟨⟨rfl, rfl⟩, rfl⟩ := qqv hR
  obtain rfl : n = 0 := N1.o
  have HR := Lh hR
  clear hR
  have c0 := HG2.o.kind_
  have c1 := HG2.o.seq_
  have c67 := HG2.o.size_
  have c68 := HG2.o.keys_
  go_wp2_with fail
  refine (py g 1 1 ([] : List UInt8) _ HW2.o (by decide) (by decide) (by decide) (Nat.zero_le _)).mono ?_
  rintro e w3 ⟨rfl, hw3, hk3⟩
  have HG3 := Lh (HG2.o.kept hk3 HNE.o (by decide))
  have HB3 := Lh (HB2.o.trans (hk3.below.mono HGE.o))
  obtain ⟨l3, hl3⟩ : ∃ l, l = ([] : List UInt8) ++ cb 1 1 := ⟨_, rfl⟩
  rw [← hl3] at hw3
  have HW3 := Lh hw3
  have HL3 := Lh hl3
  clear hw3 hk3 hl3 c0 c1 c67 c68
  have c0 := HG3.o.kind_
  have c1 := HG3.o.seq_
  have c67 := HG3.o.size_
  have c68 := HG3.o.keys_
  go_wp2_with (refine ai (some 25) rfl ?_)
  refine Stop.go (ar 1 _ _ _ (fun Q' hQ' => ?_))
  simp only [T1, T0]
  go_wp2_with fail
  try simp only [dr1, dr0]
  refine Stop.go (aa rfl 34 rfl rfl ba.ut rfl (al _ _ rfl) HG3.o.key_ ?_)
  refine bl rfl 34 rfl (vs := #[]) (by rfl) (my _) ?_
  refine ei rfl .neq 34 rfl rfl rfl (ez ba.gd ..) (js ba rfl rfl) ?_
  rw [show (!(decide (z32 = z32) && decide ((0 : Int) = 0))) = false by rfl]
  go_wp2_with fail
  go_loopw [56] (fun v56 wr => v56 = .int .i64 0 ∧ wr = w3) (fun _ _ => 0)
  case atStart => exact ⟨rfl, rfl⟩
  case round =>
   obtain ⟨rfl, rfl⟩ := hrel
   go_wp2_with fail
   refine (ma g l3 _ HW3.o (by have := congrArg List.length HL3.o; simp [bx] at this; omega)).mono ?_
   rintro e w8 ⟨rfl, hr8, hb8, hs8⟩
   have HE := Lh (show l3 = dx ⟨1, seq, z32, 0, mh, ms, []⟩ by simp [dx, pi, HL3.o])
   have HB8 := Lh (HB3.o.trans (hb8.mono HB3.o.size))
   have HS8 := Lh hs8
   have HR8 := Lh hr8
   clear hb8 hs8 hr8
   go_wp2_with fail
   go_ret
   rw [← HE.o]
   exact ⟨_, rfl, HR8.o, HB8.o, HS8.o, HB3.o.size⟩
 ·obtain ⟨⟨hs0, hs1⟩, hkk, ⟨hm0, hm1⟩, rfl⟩ := qqu hR
  obtain ⟨x, rfl⟩ : ∃ x : Nat, seq = x := ⟨seq.toNat, by omega⟩
  obtain ⟨y, rfl⟩ : ∃ y : Nat, ms = y := ⟨ms.toNat, by omega⟩
  obtain rfl : n = 0 := N1.o
  have HR := Lh hR
  clear hR
  have c0 := HG2.o.kind_
  have c1 := HG2.o.seq_
  have c67 := HG2.o.size_
  have c68 := HG2.o.keys_
  go_wp2_with fail
  refine (py g 6 x ([] : List UInt8) _ HW2.o (by decide) (by decide) (by omega) (Nat.zero_le _)).mono ?_
  rintro e w3 ⟨rfl, hw3, hk3⟩
  have HG3 := Lh (HG2.o.kept hk3 HNE.o (by decide))
  have HB3 := Lh (HB2.o.trans (hk3.below.mono HGE.o))
  obtain ⟨l3, hl3⟩ : ∃ l, l = ([] : List UInt8) ++ cb 6 x := ⟨_, rfl⟩
  rw [← hl3] at hw3
  have HW3 := Lh hw3
  have HL3 := Lh hl3
  clear hw3 hk3 hl3 c0 c1 c67 c68
  have c0 := HG3.o.kind_
  have c1 := HG3.o.seq_
  have c67 := HG3.o.size_
  have c68 := HG3.o.keys_
  go_wp2_with (refine ai (some 25) rfl ?_)
  refine Stop.go (ar 1 _ _ _ (fun Q' hQ' => ?_))
  simp only [T1, T0]
  go_wp2_with fail
  try simp only [dr1, dr0]
  refine Stop.go (aa rfl 34 rfl rfl ba.ut rfl (al _ _ HKH.o) HG3.o.key_ ?_)
  refine bl rfl 34 rfl (vs := #[]) (by rfl) (my _) ?_
  refine ei rfl .neq 34 rfl rfl rfl (ez ba.gd ..) (js ba HKH.o rfl) ?_
  rw [show (!(decide (kh = z32) && decide (kk = 0))) = true by simp [qjp hkk]]
  have HKK := Lh hkk
  clear hkk
  go_wp2_with (refine ai (some 31) rfl ?_)
  refine Stop.go (aa rfl 34 rfl rfl ba.ut rfl (al _ _ HKH.o) HG3.o.key_ ?_)
  go_wp2_with fail
  refine (qq g l3 kh kk _ HW3.o HKH.o HKK.o (by have := congrArg List.length HL3.o; simp [bx] at this; omega)).mono ?_
  rintro e w4 ⟨rfl, hw4, hk4⟩
  have HG4 := Lh (HG3.o.kept hk4 HNE.o (by decide))
  have HB4 := Lh (HB3.o.trans (hk4.below.mono HGE.o))
  obtain ⟨l4, hl4⟩ : ∃ l, l = l3 ++ keyB (kh, kk) := ⟨_, rfl⟩
  rw [← hl4] at hw4
  have HW4 := Lh hw4
  have HL4 := Lh hl4
  clear hw4 hk4 hl4 c0 c1 c67 c68
  have c0 := HG4.o.kind_
  have c1 := HG4.o.seq_
  have c67 := HG4.o.size_
  have c68 := HG4.o.keys_
  go_wp2_with fail
  have hb9 : Below w4.heap.size w4 (w4.alloc (.cells #[.slice (some ⟨w.heap.size, 35, none⟩) 32 32] 44)) := (br _ _).alloc (nr _) _
  have hg9 := Nat.le_of_lt HW4.o.lt
  refine (qaa g w4.heap.size 0 1 l4 mh (some ⟨w.heap.size, 35, none⟩) 32 w4.heap.size _ (HW4.o.later hb9) (by rw [HMH.o]; exact ri w4 _ _) ((HG4.o.rd_mark HG4.o.lt).below hb9) hb9.size (by have := congrArg List.length HL4.o; simp [HKH.o, bx, keyB, HL3.o] at this; omega) (by rw [HMH.o]; decide)).mono ?_
  rintro e w5 ⟨rfl, hw5, hk5⟩
  replace hk5 := (Keep.of_below hb9 hg9).trans hk5
  have HG5 := Lh (HG4.o.kept hk5 HNE.o (by decide))
  have HB5 := Lh (HB4.o.trans (hk5.below.mono HGE.o))
  obtain ⟨l5, hl5⟩ : ∃ l, l = l4 ++ mh := ⟨_, rfl⟩
  rw [← hl5] at hw5
  have HW5 := Lh hw5
  have HL5 := Lh hl5
  clear hw5 hk5 hl5 c0 c1 c67 c68
  have c0 := HG5.o.kind_
  have c1 := HG5.o.seq_
  have c67 := HG5.o.size_
  have c68 := HG5.o.keys_
  clear hb9 hg9
  go_wp2_with fail
  refine (py g 3 y l5 _ HW5.o (by decide) (by decide) (by omega) (by have := congrArg List.length HL5.o; simp [HKH.o, HMH.o, bx, keyB, HL3.o, HL4.o] at this; omega)).mono ?_
  rintro e w6 ⟨rfl, hw6, hk6⟩
  have HG6 := Lh (HG5.o.kept hk6 HNE.o (by decide))
  have HB6 := Lh (HB5.o.trans (hk6.below.mono HGE.o))
  obtain ⟨l6, hl6⟩ : ∃ l, l = l5 ++ cb 3 y := ⟨_, rfl⟩
  rw [← hl6] at hw6
  have HW6 := Lh hw6
  have HL6 := Lh hl6
  clear hw6 hk6 hl6 c0 c1 c67 c68
  have c0 := HG6.o.kind_
  have c1 := HG6.o.seq_
  have c67 := HG6.o.size_
  have c68 := HG6.o.keys_
  go_wp2_with fail
  go_loopw [56] (fun v56 wr => v56 = .int .i64 0 ∧ wr = w6) (fun _ _ => 0)
  case atStart => exact ⟨rfl, rfl⟩
  case round =>
   obtain ⟨rfl, rfl⟩ := hrel
   go_wp2_with fail
   refine (ma g l6 _ HW6.o (by have := congrArg List.length HL6.o; simp [HKH.o, HMH.o, bx, keyB, HL3.o, HL4.o, HL5.o] at this; omega)).mono ?_
   rintro e w8 ⟨rfl, hr8, hb8, hs8⟩
   have HE := Lh (show l6 = dx ⟨2, (x : Int), kh, kk, mh, (y : Int), []⟩ by simp [dx, HL3.o, HL4.o, HL5.o, HL6.o])
   have HB8 := Lh (HB6.o.trans (hb8.mono HB6.o.size))
   have HS8 := Lh hs8
   have HR8 := Lh hr8
   clear hb8 hs8 hr8
   go_wp2_with fail
   go_ret
   rw [← HE.o]
   exact ⟨_, rfl, HR8.o, HB8.o, HS8.o, HB6.o.size⟩
 ·obtain ⟨⟨hs0, hs1⟩, ⟨rfl, rfl⟩, rfl⟩ := qqt hR
  obtain ⟨x, rfl⟩ : ∃ x : Nat, seq = x := ⟨seq.toNat, by omega⟩
  obtain rfl : n = 0 := N1.o
  have HR := Lh hR
  clear hR
  have c0 := HG2.o.kind_
  have c1 := HG2.o.seq_
  have c67 := HG2.o.size_
  have c68 := HG2.o.keys_
  go_wp2_with fail
  refine (py g 6 x ([] : List UInt8) _ HW2.o (by decide) (by decide) (by omega) (Nat.zero_le _)).mono ?_
  rintro e w3 ⟨rfl, hw3, hk3⟩
  have HG3 := Lh (HG2.o.kept hk3 HNE.o (by decide))
  have HB3 := Lh (HB2.o.trans (hk3.below.mono HGE.o))
  obtain ⟨l3, hl3⟩ : ∃ l, l = ([] : List UInt8) ++ cb 6 x := ⟨_, rfl⟩
  rw [← hl3] at hw3
  have HW3 := Lh hw3
  have HL3 := Lh hl3
  clear hw3 hk3 hl3 c0 c1 c67 c68
  have c0 := HG3.o.kind_
  have c1 := HG3.o.seq_
  have c67 := HG3.o.size_
  have c68 := HG3.o.keys_
  go_wp2_with (refine ai (some 25) rfl ?_)
  refine Stop.go (ar 1 _ _ _ (fun Q' hQ' => ?_))
  simp only [T1, T0]
  go_wp2_with fail
  try simp only [dr1, dr0]
  refine Stop.go (aa rfl 34 rfl rfl ba.ut rfl (al _ _ rfl) HG3.o.key_ ?_)
  refine bl rfl 34 rfl (vs := #[]) (by rfl) (my _) ?_
  refine ei rfl .neq 34 rfl rfl rfl (ez ba.gd ..) (js ba rfl rfl) ?_
  rw [show (!(decide (z32 = z32) && decide ((0 : Int) = 0))) = false by rfl]
  go_wp2_with fail
  go_loopw [56] (fun v56 wr => v56 = .int .i64 0 ∧ wr = w3) (fun _ _ => 0)
  case atStart => exact ⟨rfl, rfl⟩
  case round =>
   obtain ⟨rfl, rfl⟩ := hrel
   go_wp2_with fail
   refine (ma g l3 _ HW3.o (by have := congrArg List.length HL3.o; simp [bx] at this; omega)).mono ?_
   rintro e w8 ⟨rfl, hr8, hb8, hs8⟩
   have HE := Lh (show l3 = dx ⟨3, (x : Int), z32, 0, mh, ms, []⟩ by simp [dx, HL3.o])
   have HB8 := Lh (HB3.o.trans (hb8.mono HB3.o.size))
   have HS8 := Lh hs8
   have HR8 := Lh hr8
   clear hb8 hs8 hr8
   go_wp2_with fail
   go_ret
   rw [← HE.o]
   exact ⟨_, rfl, HR8.o, HB8.o, HS8.o, HB3.o.size⟩
 ·obtain ⟨hkk, ⟨hm0, hm1⟩, rfl⟩ := qqs hR
  obtain ⟨y, rfl⟩ : ∃ y : Nat, ms = y := ⟨ms.toNat, by omega⟩
  obtain rfl : n = 0 := N1.o
  have HR := Lh hR
  clear hR
  have c0 := HG2.o.kind_
  have c1 := HG2.o.seq_
  have c67 := HG2.o.size_
  have c68 := HG2.o.keys_
  go_wp2_with (refine ai (some 25) rfl ?_)
  refine Stop.go (ar 1 _ _ _ (fun Q' hQ' => ?_))
  simp only [T1, T0]
  go_wp2_with fail
  try simp only [dr1, dr0]
  refine Stop.go (aa rfl 34 rfl rfl ba.ut rfl (al _ _ HKH.o) HG2.o.key_ ?_)
  refine bl rfl 34 rfl (vs := #[]) (by rfl) (my _) ?_
  refine ei rfl .neq 34 rfl rfl rfl (ez ba.gd ..) (js ba HKH.o rfl) ?_
  rw [show (!(decide (kh = z32) && decide (kk = 0))) = true by simp [qjp hkk]]
  have HKK := Lh hkk
  clear hkk
  go_wp2_with (refine ai (some 31) rfl ?_)
  refine Stop.go (aa rfl 34 rfl rfl ba.ut rfl (al _ _ HKH.o) HG2.o.key_ ?_)
  go_wp2_with fail
  refine (qq g ([] : List UInt8) kh kk _ HW2.o HKH.o HKK.o (Nat.zero_le _)).mono ?_
  rintro e w3 ⟨rfl, hw3, hk3⟩
  have HG3 := Lh (HG2.o.kept hk3 HNE.o (by decide))
  have HB3 := Lh (HB2.o.trans (hk3.below.mono HGE.o))
  obtain ⟨l3, hl3⟩ : ∃ l, l = ([] : List UInt8) ++ keyB (kh, kk) := ⟨_, rfl⟩
  rw [← hl3] at hw3
  have HW3 := Lh hw3
  have HL3 := Lh hl3
  clear hw3 hk3 hl3 c0 c1 c67 c68
  have c0 := HG3.o.kind_
  have c1 := HG3.o.seq_
  have c67 := HG3.o.size_
  have c68 := HG3.o.keys_
  go_wp2_with fail
  have hb9 : Below w3.heap.size w3 (w3.alloc (.cells #[.slice (some ⟨w.heap.size, 35, none⟩) 32 32] 44)) := (br _ _).alloc (nr _) _
  have hg9 := Nat.le_of_lt HW3.o.lt
  refine (qaa g w3.heap.size 0 1 l3 mh (some ⟨w.heap.size, 35, none⟩) 32 w3.heap.size _ (HW3.o.later hb9) (by rw [HMH.o]; exact ri w3 _ _) ((HG3.o.rd_mark HG3.o.lt).below hb9) hb9.size (by have := congrArg List.length HL3.o; simp [HKH.o, keyB] at this; omega) (by rw [HMH.o]; decide)).mono ?_
  rintro e w4 ⟨rfl, hw4, hk4⟩
  replace hk4 := (Keep.of_below hb9 hg9).trans hk4
  have HG4 := Lh (HG3.o.kept hk4 HNE.o (by decide))
  have HB4 := Lh (HB3.o.trans (hk4.below.mono HGE.o))
  obtain ⟨l4, hl4⟩ : ∃ l, l = l3 ++ mh := ⟨_, rfl⟩
  rw [← hl4] at hw4
  have HW4 := Lh hw4
  have HL4 := Lh hl4
  clear hw4 hk4 hl4 c0 c1 c67 c68
  have c0 := HG4.o.kind_
  have c1 := HG4.o.seq_
  have c67 := HG4.o.size_
  have c68 := HG4.o.keys_
  clear hb9 hg9
  go_wp2_with fail
  refine (py g 3 y l4 _ HW4.o (by decide) (by decide) (by omega) (by have := congrArg List.length HL4.o; simp [HKH.o, HMH.o, keyB, HL3.o] at this; omega)).mono ?_
  rintro e w5 ⟨rfl, hw5, hk5⟩
  have HG5 := Lh (HG4.o.kept hk5 HNE.o (by decide))
  have HB5 := Lh (HB4.o.trans (hk5.below.mono HGE.o))
  obtain ⟨l5, hl5⟩ : ∃ l, l = l4 ++ cb 3 y := ⟨_, rfl⟩
  rw [← hl5] at hw5
  have HW5 := Lh hw5
  have HL5 := Lh hl5
  clear hw5 hk5 hl5 c0 c1 c67 c68
  have c0 := HG5.o.kind_
  have c1 := HG5.o.seq_
  have c67 := HG5.o.size_
  have c68 := HG5.o.keys_
  go_wp2_with fail
  go_loopw [56] (fun v56 wr => v56 = .int .i64 0 ∧ wr = w5) (fun _ _ => 0)
  case atStart => exact ⟨rfl, rfl⟩
  case round =>
   obtain ⟨rfl, rfl⟩ := hrel
   go_wp2_with fail
   refine (ma g l5 _ HW5.o (by have := congrArg List.length HL5.o; simp [HKH.o, HMH.o, bx, keyB, HL3.o, HL4.o] at this; omega)).mono ?_
   rintro e w8 ⟨rfl, hr8, hb8, hs8⟩
   have HE := Lh (show l5 = dx ⟨4, seq, kh, kk, mh, (y : Int), []⟩ by simp [dx, HL3.o, HL4.o, HL5.o])
   have HB8 := Lh (HB5.o.trans (hb8.mono HB5.o.size))
   have HS8 := Lh hs8
   have HR8 := Lh hr8
   clear hb8 hs8 hr8
   go_wp2_with fail
   go_ret
   rw [← HE.o]
   exact ⟨_, rfl, HR8.o, HB8.o, HS8.o, HB5.o.size⟩
 ·obtain ⟨hkk, rfl⟩ := qqr hR
  obtain rfl : n = 0 := N1.o
  have HR := Lh hR
  clear hR
  have c0 := HG2.o.kind_
  have c1 := HG2.o.seq_
  have c67 := HG2.o.size_
  have c68 := HG2.o.keys_
  go_wp2_with (refine ai (some 25) rfl ?_)
  refine Stop.go (ar 1 _ _ _ (fun Q' hQ' => ?_))
  simp only [T1, T0]
  go_wp2_with fail
  try simp only [dr1, dr0]
  refine Stop.go (aa rfl 34 rfl rfl ba.ut rfl (al _ _ HKH.o) HG2.o.key_ ?_)
  refine bl rfl 34 rfl (vs := #[]) (by rfl) (my _) ?_
  refine ei rfl .neq 34 rfl rfl rfl (ez ba.gd ..) (js ba HKH.o rfl) ?_
  rw [show (!(decide (kh = z32) && decide (kk = 0))) = true by simp [qjp hkk]]
  have HKK := Lh hkk
  clear hkk
  go_wp2_with (refine ai (some 31) rfl ?_)
  refine Stop.go (aa rfl 34 rfl rfl ba.ut rfl (al _ _ HKH.o) HG2.o.key_ ?_)
  go_wp2_with fail
  refine (qq g ([] : List UInt8) kh kk _ HW2.o HKH.o HKK.o (Nat.zero_le _)).mono ?_
  rintro e w3 ⟨rfl, hw3, hk3⟩
  have HG3 := Lh (HG2.o.kept hk3 HNE.o (by decide))
  have HB3 := Lh (HB2.o.trans (hk3.below.mono HGE.o))
  obtain ⟨l3, hl3⟩ : ∃ l, l = ([] : List UInt8) ++ keyB (kh, kk) := ⟨_, rfl⟩
  rw [← hl3] at hw3
  have HW3 := Lh hw3
  have HL3 := Lh hl3
  clear hw3 hk3 hl3 c0 c1 c67 c68
  have c0 := HG3.o.kind_
  have c1 := HG3.o.seq_
  have c67 := HG3.o.size_
  have c68 := HG3.o.keys_
  go_wp2_with fail
  go_loopw [56] (fun v56 wr => v56 = .int .i64 0 ∧ wr = w3) (fun _ _ => 0)
  case atStart => exact ⟨rfl, rfl⟩
  case round =>
   obtain ⟨rfl, rfl⟩ := hrel
   go_wp2_with fail
   refine (ma g l3 _ HW3.o (by have := congrArg List.length HL3.o; simp [HKH.o, keyB] at this; omega)).mono ?_
   rintro e w8 ⟨rfl, hr8, hb8, hs8⟩
   have HE := Lh (show l3 = dx ⟨5, seq, kh, kk, mh, ms, []⟩ by simp [dx, HL3.o])
   have HB8 := Lh (HB3.o.trans (hb8.mono HB3.o.size))
   have HS8 := Lh hs8
   have HR8 := Lh hr8
   clear hb8 hs8 hr8
   go_wp2_with fail
   go_ret
   rw [← HE.o]
   exact ⟨_, rfl, HR8.o, HB8.o, HS8.o, HB3.o.size⟩
 ·obtain ⟨hkk, rfl⟩ := qqq hR
  obtain rfl : n = 0 := N1.o
  have HR := Lh hR
  clear hR
  have c0 := HG2.o.kind_
  have c1 := HG2.o.seq_
  have c67 := HG2.o.size_
  have c68 := HG2.o.keys_
  go_wp2_with (refine ai (some 25) rfl ?_)
  refine Stop.go (ar 1 _ _ _ (fun Q' hQ' => ?_))
  simp only [T1, T0]
  go_wp2_with fail
  try simp only [dr1, dr0]
  refine Stop.go (aa rfl 34 rfl rfl ba.ut rfl (al _ _ HKH.o) HG2.o.key_ ?_)
  refine bl rfl 34 rfl (vs := #[]) (by rfl) (my _) ?_
  refine ei rfl .neq 34 rfl rfl rfl (ez ba.gd ..) (js ba HKH.o rfl) ?_
  rw [show (!(decide (kh = z32) && decide (kk = 0))) = true by simp [qjp hkk]]
  have HKK := Lh hkk
  clear hkk
  go_wp2_with (refine ai (some 31) rfl ?_)
  refine Stop.go (aa rfl 34 rfl rfl ba.ut rfl (al _ _ HKH.o) HG2.o.key_ ?_)
  go_wp2_with fail
  refine (qq g ([] : List UInt8) kh kk _ HW2.o HKH.o HKK.o (Nat.zero_le _)).mono ?_
  rintro e w3 ⟨rfl, hw3, hk3⟩
  have HG3 := Lh (HG2.o.kept hk3 HNE.o (by decide))
  have HB3 := Lh (HB2.o.trans (hk3.below.mono HGE.o))
  obtain ⟨l3, hl3⟩ : ∃ l, l = ([] : List UInt8) ++ keyB (kh, kk) := ⟨_, rfl⟩
  rw [← hl3] at hw3
  have HW3 := Lh hw3
  have HL3 := Lh hl3
  clear hw3 hk3 hl3 c0 c1 c67 c68
  have c0 := HG3.o.kind_
  have c1 := HG3.o.seq_
  have c67 := HG3.o.size_
  have c68 := HG3.o.keys_
  go_wp2_with fail
  go_loopw [56] (fun v56 wr => v56 = .int .i64 0 ∧ wr = w3) (fun _ _ => 0)
  case atStart => exact ⟨rfl, rfl⟩
  case round =>
   obtain ⟨rfl, rfl⟩ := hrel
   go_wp2_with fail
   refine (ma g l3 _ HW3.o (by have := congrArg List.length HL3.o; simp [HKH.o, keyB] at this; omega)).mono ?_
   rintro e w8 ⟨rfl, hr8, hb8, hs8⟩
   have HE := Lh (show l3 = dx ⟨6, seq, kh, kk, mh, ms, []⟩ by simp [dx, HL3.o])
   have HB8 := Lh (HB3.o.trans (hb8.mono HB3.o.size))
   have HS8 := Lh hs8
   have HR8 := Lh hr8
   clear hb8 hs8 hr8
   go_wp2_with fail
   go_ret
   rw [← HE.o]
   exact ⟨_, rfl, HR8.o, HB8.o, HS8.o, HB3.o.size⟩
 ·obtain ⟨⟨rfl, rfl⟩, hris⟩ := qdk hR
  have HR := Lh hR
  clear hR
  have c0 := HG2.o.kind_
  have c1 := HG2.o.seq_
  have c67 := HG2.o.size_
  have c68 := HG2.o.keys_
  go_wp2_with (refine ai (some 25) rfl ?_)
  refine Stop.go (ar 1 _ _ _ (fun Q' hQ' => ?_))
  simp only [T1, T0]
  go_wp2_with fail
  try simp only [dr1, dr0]
  refine Stop.go (aa rfl 34 rfl rfl ba.ut rfl (al _ _ rfl) HG2.o.key_ ?_)
  refine bl rfl 34 rfl (vs := #[]) (by rfl) (my _) ?_
  refine ei rfl .neq 34 rfl rfl rfl (ez ba.gd ..) (js ba rfl rfl) ?_
  rw [show (!(decide (z32 = z32) && decide ((0 : Int) = 0))) = false by rfl]
  go_wp2_with fail
  obtain ⟨hlen, hok⟩ := xk hris
  have HLEN := Lh hlen
  have HOK := Lh hok
  clear hlen hok hris
  clear c0 c1 c67 c68
  go_loopw [56] (fun v56 wr => ∃ i : Nat, i ≤ n ∧ v56 = .int .i64 i ∧ Hid (WrR wr g ((keys.take i).flatMap keyB) ∧ ((keys.take i).flatMap keyB).length = 33 * i) ∧ Hid (Below w.heap.size w wr)) (fun v56 _ => n - (intOf v56).toNat)
  case atStart => exact ⟨0, by omega, rfl, ⟨by simpa using HW2.o, by simp⟩, HB2.o⟩
  case round =>
   obtain ⟨i, hi, rfl, HW, HB⟩ := hrel
   by_cases hlt : i < n
   ·have hlt1 : i < keys.length := by have := N1.o; omega
    have HRK := Lh (H1.o.below (HB.o.mono HBW.o))
    obtain ⟨b1, o1, rfl, _, hb1, hl1, e1⟩ := mn HRK.o hlt1
    obtain ⟨x1, x2, hx⟩ : ∃ x1 x2, keys[i] = (x1, x2) := ⟨_, _, rfl⟩
    have hk2 := HOK.o i hlt1
    rw [hx] at hl1 e1 hk2
    simp only at hl1 e1 hk2
    have HX := Lh hx
    have E1 := Lh e1
    have L1 := Lh hl1
    have K2 := Lh hk2
    clear e1 hx hl1 hk2
    go_wp2_with (refine ai (some 58) rfl ?_)
    refine Stop.go (ar 1 _ _ _ (fun Q' hQ' => ?_))
    simp only [T1, T0]
    go_wp2_with fail
    try simp only [dr1, dr0]
    refine Stop.go (aa rfl 34 rfl rfl ba.ut rfl (al x1 x2 L1.o) E1.o ?_)
    refine av rfl 34 rfl ge rfl ?_
    refine ac rfl 34 rfl rfl rfl (ch (g := wr.heap.size) rfl (dl _ _) (al _ _ L1.o) (by rw [List.size_toArray, ae, ae, L1.o]; rfl) (bc _ _)) ?_
    have hb2 : Below wr.heap.size wr (wr.alloc (.cells (af x1 x2).toArray 34)) := (br _ _).alloc (nr _) _
    have HG := Lh (hzn wr (.cells (af x1 x2).toArray 34))
    have HB2 := Lh (HB.o.trans (hb2.mono HB.o.size))
    have HW2 := Lh (HW.o.1.later hb2)
    have HLN := Lh HW.o.2
    have HTK := Lh (show (keys.take (i + 1)).flatMap keyB = (keys.take i).flatMap keyB ++ keyB (x1, x2) by rw [List.take_succ_eq_append_getElem hlt1, HX.o]; simp)
    obtain ⟨la, hla⟩ : ∃ la, la = (keys.take i).flatMap keyB := ⟨_, rfl⟩
    rw [← hla] at HW2 HLN HTK
    clear hb2 E1 HRK hb1 HW hla
    generalize wr.alloc (.cells (af x1 x2).toArray 34) = wa at *
    generalize wr.heap.size = m2 at *
    go_wp2_with (refine ai (some 61) rfl ?_)
    refine Stop.go (aa rfl 34 rfl rfl ba.ut rfl (al x1 x2 L1.o) (aq HG.o) ?_)
    go_wp2_with fail
    refine (qq g la x1 x2 _ HW2.o L1.o K2.o (by have h3 := HLN.o; have h4 := HLEN.o; omega)).mono ?_
    rintro e wb ⟨rfl, hwb, hkb⟩
    rw [← HTK.o] at hwb
    have HWB := Lh (And.intro hwb (show ((keys.take (i + 1)).flatMap keyB).length = 33 * (i + 1) by rw [HTK.o, List.length_append, HLN.o, fi _ L1.o]; omega))
    have HBB := Lh (HB2.o.trans (hkb.below.mono HGE.o))
    clear hwb hkb
    go_wp2_with fail
    refine ⟨⟨i + 1, by omega, by simp, HWB, HBB⟩, ?_⟩
    simp [intOf]; omega
   ·obtain rfl : i = n := by omega
    have HWE := Lh (show WrR wr g (keys.flatMap keyB) ∧ (keys.flatMap keyB).length ≤ 8448 by
     have h2 := HW.o
     rw [List.take_of_length_le (by have := N1.o; omega)] at h2
     exact ⟨h2.1, by have := h2.2; have := HLEN.o; have := N1.o; omega⟩)
    have HE := Lh (show keys.flatMap keyB = dx ⟨7, seq, z32, 0, mh, ms, keys⟩ by simp [dx])
    rw [HE.o] at HWE
    obtain ⟨la, hla⟩ : ∃ la, la = dx ⟨7, seq, z32, 0, mh, ms, keys⟩ := ⟨_, rfl⟩
    rw [← hla] at HWE
    have HLA := Lh hla
    clear hla HE HW
    go_wp2_with fail
    refine (ma g la _ HWE.o.1 (by have := HWE.o.2; omega)).mono ?_
    rintro e w8 ⟨rfl, hr8, hb8, hs8⟩
    have HB8 := Lh (HB.o.trans (hb8.mono HB.o.size))
    have HS8 := Lh hs8
    have HR8 := Lh hr8
    clear hb8 hs8 hr8
    go_wp2_with fail
    go_ret
    rw [← HLA.o]
    exact ⟨_, rfl, HR8.o, HB8.o, HS8.o, HB.o.size⟩

theorem ym (q v : Nat) : mf (q + 1) v = mf q v ++ [UInt8.ofNat (128 + v / 128 ^ q % 128)] := by simp [mf, xw]
theorem ud (q : Nat) : (128 : Nat) ^ q = 2 ^ (7 * q) := by rw [show (128 : Nat) = 2 ^ 7 by decide, ← Nat.pow_mul]
theorem pw (q : Nat) : (256 : Nat) ^ q = 2 ^ (8 * q) := by rw [show (256 : Nat) = 2 ^ 8 by decide, ← Nat.pow_mul]
theorem sev_byte (l : List UInt8) (c : UInt8) (q n : Nat) (h : 7 * q + n = 8 * l.length) :
  v256 (l ++ [c]) / 128 ^ q = v256 l / 128 ^ q + c.toNat * 2 ^ n ∧ mf q (v256 (l ++ [c])) = mf q (v256 l) := by
 have e : 256 ^ l.length = 2 ^ n * 128 ^ q := by rw [pw, ud, ← Nat.pow_add]; congr 1; omega
 rw [qse, e, ← Nat.mul_assoc]
 refine ⟨?_, ?_⟩
 ·rw [Nat.add_mul_div_right _ _ (Nat.pow_pos (by omega))]
 ·unfold mf
  rw [up 128 (by omega)]
theorem qek (l : List UInt8) (q n : Nat) (h : 7 * q + n = 8 * l.length) : v256 l / 128 ^ q < 2 ^ n := by
 have e : 256 ^ l.length = 2 ^ n * 128 ^ q := by rw [pw, ud, ← Nat.pow_add]; congr 1; omega
 have := qix l
 rw [e] at this
 exact Nat.div_lt_of_lt_mul (by rw [Nat.mul_comm]; exact this)
theorem or_shl (r c n : Nat) (hr : r < 2 ^ n) (hn : n ≤ 7) (hc : c < 256) : bits .or .u64 (r : Int) (IntKind.u64.wrap ((c : Int) * 2 ^ n)) = ((r + c * 2 ^ n : Nat) : Int) := by
 have h7 : 2 ^ n ≤ 2 ^ 7 := Nat.pow_le_pow_right (by omega) hn
 have h1 : c * 2 ^ n ≤ 255 * 2 ^ 7 := Nat.mul_le_mul (by omega) h7
 have e : ((c : Int) * 2 ^ n) = ((c * 2 ^ n : Nat) : Int) := by simp
 rw [e, IntKind.wrap_u64, Int.emod_eq_of_lt (by omega) (by omega), u64_or_nat _ _ (by omega) (by omega)]
 congr 1
 have h3 := Nat.shiftLeft_add_eq_or_of_lt (a := c) (b := r) (i := n) hr
 rw [Nat.shiftLeft_eq] at h3
 rw [Nat.or_comm, ← h3, Nat.add_comm]
theorem and_127 (r : Nat) (hr : r < 18446744073709551616) : bits .and .u64 (r : Int) 127 = ((r % 128 : Nat) : Int) := by
 rw [show (127 : Int) = ((127 : Nat) : Int) by rfl, u64_and_nat _ _ hr (by omega), show (127 : Nat) = 2 ^ 7 - 1 by decide, Nat.and_two_pow_sub_one_eq_mod]
theorem or_128 (r : Nat) (hr : r < 128) : bits .or .u8 (r : Int) 128 = ((128 + r : Nat) : Int) := by
 rw [show (128 : Int) = ((128 : Nat) : Int) by rfl, u8_or_nat _ _ (by omega) (by omega)]
 congr 1
 have h3 := Nat.shiftLeft_add_eq_or_of_lt (a := 1) (b := r) (i := 7) (by omega)
 rw [Nat.or_comm]
 simpa using h3.symm
theorem qqn {w : World} {base : Nat} {v : Value} {n m : Nat} {xs : List Value} (h : w.ownsRow base 5 1 v n (xs ++ [.int .u8 (128 + (m : Int))])) (hm : m < 128) :
  w.ownsRow base 5 1 v n (xs ++ ak [UInt8.ofNat (128 + m)]) := by
 have e : ak [UInt8.ofNat (128 + m)] = [.int .u8 (128 + (m : Int))] := by simp [ak, ic]; omega
 rw [e]
 exact h
theorem pack_any (g o cap : Nat) (l : List UInt8) (A : Option Addr) (c B : Nat) (w : World) (hg : w.cell? ⟨g, o, none⟩ = some (.slice A l.length c)) (hgB : g < B) (hr : Rd w B A (ak l)) (hB : B ≤ w.heap.size) (hl : l.length ≤ 68719476736) :
  Calls Tryz.prog 58 #[.slice (some ⟨g, o, none⟩) 1 cap] w fun e w' => ∃ v, e = .returned v ∧ w'.ownsRow w.heap.size 5 1 v (eo l).length (ak (eo l)) ∧ Below w.heap.size w w' := by
 have HR := Lh hr
 have HG := Lh hg
 clear hr hg
 go_enter Tryz.func58, Tryz.ntmps58
 go_wp2_with fail
 go_loopw [3, 4, 5, 12] (fun v3 v4 v5 v12 wr => ∃ k q n r : Nat, k ≤ 1 ∧ v12 = .int .i64 k ∧ n < 7 ∧ 7 * q + n = 8 * (if k = 0 then 0 else l.length) ∧ v5 = .int .i64 n ∧ v4 = .int .u64 r ∧ r < 128 ∧ Hid (r = v256 (if k = 0 then [] else l) / 128 ^ q) ∧
  wr.ownsRow w.heap.size 5 1 v3 q (ak (mf q (v256 (if k = 0 then [] else l)))) ∧ Below w.heap.size w wr) (fun _ _ _ v12 _ => 1 - (intOf v12).toNat)
 case atStart => exact ⟨0, 0, 0, 0, by omega, rfl, by omega, rfl, rfl, rfl, by omega, (by show _ = _; simp [v256, gg]), World.ownsRow_nil _ _ _ _, br _ _⟩
 case round =>
  obtain ⟨k, q, n, r, hk, rfl, hn, hqn, rfl, rfl, hr128, hre, hown, hbr⟩ := hrel
  by_cases h0 : k = 0
  ·subst h0
   have hq0 : q = 0 := by simp at hqn; omega
   have hn0 : n = 0 := by simp at hqn; omega
   have hr0 : r = 0 := by have := hre.o; simpa [v256, gg] using this
   subst hq0 hn0 hr0
   clear hre hqn
   have hc : wr.cell? ⟨g, o, none⟩ = some (.slice A l.length c) := (hbr.cell (p := ⟨g, o, none⟩) (by show g < _; omega)).trans HG.o
   have hsz := hbr.size
   obtain ⟨wo, rfl⟩ : ∃ wo : World, wo = wr := ⟨_, rfl⟩
   go_wp2_with fail
   go_loopw [3, 4, 5, 18] (fun v3 v4 v5 v18 wr => ∃ j q n r : Nat, j ≤ l.length ∧ v18 = .int .i64 j ∧ n < 7 ∧ 7 * q + n = 8 * j ∧ v5 = .int .i64 n ∧ v4 = .int .u64 r ∧ r < 128 ∧ Hid (r = v256 (l.take j) / 128 ^ q) ∧
    wr.ownsRow w.heap.size 5 1 v3 q (ak (mf q (v256 (l.take j)))) ∧ Below w.heap.size w wr) (fun _ _ _ v18 _ => l.length - (intOf v18).toNat)
   case atStart => exact ⟨0, 0, 0, 0, by omega, rfl, by omega, rfl, rfl, rfl, by omega, (by show _ = _; simp [v256, gg]), hown, hbr⟩
   case round =>
    obtain ⟨j, q, n, r, hj, rfl, hn, hqn, rfl, rfl, hr128, hre, hown, hbr⟩ := hrel
    by_cases hlt : j < l.length
    ·obtain ⟨ab, ao, e0, hab, hcell⟩ := (HR.o.below (hbr.mono hB)).byte hlt
     subst e0
     have hsz2 := hbr.size
     have hb8 := l[j].toNat_lt
     have hlj : (l.take j).length = j := by rw [List.length_take]; omega
     have hrn : r < 2 ^ n := by rw [hre.o]; exact qek _ q n (by rw [hlj]; exact hqn)
     have ho := or_shl r l[j].toNat n hrn (by omega) hb8
     have SB := Lh (sev_byte (l.take j) l[j] q n (by rw [hlj]; exact hqn))
     have HT := Lh (show l.take (j + 1) = l.take j ++ [l[j]] from List.take_succ_eq_append_getElem hlt)
     clear hlj hrn
     obtain ⟨wm, rfl⟩ : ∃ wm : World, wm = wr := ⟨_, rfl⟩
     go_wp2_with fail
     go_loopw [3, 4, 5] (fun v3 v4 v5 wr => ∃ q' n' r' : Nat, n' ≤ 14 ∧ 7 * q' + n' = 8 * (j + 1) ∧ v5 = .int .i64 n' ∧ v4 = .int .u64 r' ∧ r' < 16384 ∧ Hid (r' = v256 (l.take (j + 1)) / 128 ^ q') ∧
      wr.ownsRow w.heap.size 5 1 v3 q' (ak (mf q' (v256 (l.take (j + 1))))) ∧ Below w.heap.size w wr) (fun _ _ v5 _ => (intOf v5).toNat)
     case atStart =>
      have h1 : r + l[j].toNat * 2 ^ n = v256 (l.take (j + 1)) / 128 ^ q := by rw [HT.o, SB.o.1, ← hre.o]
      refine ⟨q, n + 8, r + l[j].toNat * 2 ^ n, by omega, by omega, by go_num, vint (by simp), ?_, h1, ?_, hbr⟩
      ·rw [h1]
       have h2 := qek (l.take (j + 1)) q (n + 8) (by rw [List.length_take, Nat.min_eq_left (by omega)]; omega)
       have h3 : 2 ^ (n + 8) ≤ 2 ^ 14 := Nat.pow_le_pow_right (by omega) (by omega)
       omega
      ·rw [HT.o, SB.o.2]; exact hown
     case round =>
      clear ho hr128 hcell
      obtain ⟨q', n', r', hn', hqn', rfl, rfl, hr', hre', hown', hbr'⟩ := hrel
      have hsz3 := hbr'.size
      by_cases h7 : 7 ≤ n'
      ·have ha := and_127 r' (by omega)
       have hor := or_128 (r' % 128) (by omega)
       obtain ⟨m, hm⟩ : ∃ m, m = r' % 128 := ⟨_, rfl⟩
       rw [← hm] at ha hor
       have hm128 : m < 128 := by omega
       have HM := Lh hm
       clear hm
       go_wp2_with (at_builtin; refine ay im rfl rfl rfl rfl (hown'.alloc _) (Rd.row (B := wr.heap.size + 1) (hzn wr _) (by omega)) rfl (by simp [Value.oneCell']) ?h63 ?hby ?hbase ?_)
       case h63 => simp only [maxLen]; omega
       case hby => omega
       case hbase => simp; omega
       intro v1 w3 hown3 hg3 _ _
       have HO := Lh hown3
       have HG3 := Lh hg3
       clear hown3 hg3
       go_wp2
       go_roundw
       case rel =>
        refine ⟨q' + 1, n' - 7, r' / 128, by omega, by omega, vint (by omega), by rfl, by omega, ?_, ?_, ax (hbr'.alloc hsz3 _) HG3.o (hown'.alloc _) (nr _) (by simp; omega)⟩
        ·show _ = _
         rw [hre'.o, Nat.div_div_eq_div_mul, ← Nat.pow_succ]
        ·rw [ym, bt, ← hre'.o, ← HM.o]
         exact qqn HO.o hm128
       case measure => simp [intOf]; omega
      ·have h7' : n' < 7 := by omega
       have hr7 : r' < 128 := by
        have h2 := qek (l.take (j + 1)) q' n' (by rw [List.length_take, Nat.min_eq_left (by omega)]; omega)
        have h3 : 2 ^ n' ≤ 2 ^ 7 := Nat.pow_le_pow_right (by omega) (by omega)
        rw [hre'.o]
        omega
       go_wp2
       go_roundw
       case rel => exact ⟨j + 1, q', n', r', by omega, by go_num, h7', hqn', rfl, rfl, hr7, hre', hown', hbr'⟩
       case measure => simp [intOf]; omega
    ·have hjl : j = l.length := by omega
     subst hjl
     go_wp2
     go_roundw
     case rel =>
      rw [List.take_length] at hre hown
      exact ⟨1, q, n, r, by omega, rfl, hn, by simpa using hqn, rfl, rfl, hr128, by simpa using hre, by simpa using hown, hbr⟩
     case measure => simp [intOf]
  ·obtain rfl : k = 1 := by omega
   simp only [Nat.one_ne_zero, if_false] at hqn hre hown
   have hsz := hbr.size
   clear hk
   by_cases hn0 : n = 0
   ·subst hn0
    have e : mf q (v256 l) = eo l := by unfold eo; congr 1; omega
    have e2 : q = (eo l).length := by rw [← e, pv]
    rw [e] at hown
    go_wp2
    go_ret
    rw [← e2]
    exact ⟨_, rfl, hown, hbr⟩
   ·have hor := or_128 r hr128
    have e : eo l = mf q (v256 l) ++ [UInt8.ofNat (128 + r)] := by
     unfold eo
     rw [show (8 * l.length + 6) / 7 = q + 1 by omega, ym, ← hre.o, Nat.mod_eq_of_lt hr128]
    have E := Lh e
    clear e
    go_wp2_with (at_builtin; refine ay im rfl rfl rfl rfl (hown.alloc _) (Rd.row (B := wr.heap.size + 1) (hzn wr _) (by omega)) rfl (by simp [Value.oneCell']) ?h63 ?hby ?hbase ?_)
    case h63 => simp only [maxLen]; omega
    case hby => omega
    case hbase => simp; omega
    intro v1 w3 hown3 hg3 _ _
    have HO := Lh hown3
    have HG3 := Lh hg3
    clear hown3 hg3
    go_wp2
    go_ret
    refine ⟨v1, rfl, ?_, ax (hbr.alloc hsz _) HG3.o (hown.alloc _) (nr _) (by simp; omega)⟩
    rw [E.o, List.length_append, pv, bt]
    exact qqn HO.o hr128
end Go.Proofs.YtplbcbamnjnhlaaGreatDoor
