/- Texts of this proof joined: qcc, TakeAny, KeyApp, Seg3. -/
import Derived.Test.YtplbcbamnjnhlaaGreatDoorMT00
import Derived.Test.YtplbcbamnjnhlaaGreatDoorMT16
import Derived.Test.YtplbcbamnjnhlaaGreatDoorMT11
import Derived.Great.BuildSlice
set_option maxRecDepth 100000
set_option maxHeartbeats 40000000
namespace Go.Proofs.YtplbcbamnjnhlaaGreatDoor
open Go.RowKit

def qcc (g : Nat) (l : List UInt8) (w : World) (e : Ending) (w' : World) : Prop :=
 ∃ (h : List UInt8) (k : Int) (a : Nat), e = .returned (hkv h k) ∧ h.length = 32 ∧ (0 ≤ k ∧ k ≤ 16777215) ∧ RdrR w' g l a true ∧ w.grownBy w' (some g)
theorem qjc (g : Nat) (l : List UInt8) (a : Nat) (w : World) (h : RdrR w g l a false) (hn : a + 32 ≤ l.length) (hno : l.length < a + 33) :
  Calls Tryz.prog 118 #[.pointer (some ⟨g, 0, none⟩)] w (qcc g l w) := by
 have HGW := Lh h.lt
 have H := Lh h
 clear h
 go_enter Tryz.func118, Tryz.ntmps118
 go_wp2_with (refine ai (some 2) rfl ?_)
 refine Stop.go (av rfl 34 rfl ge rfl ?_)
 have hb1 : Below w.heap.size w (w.alloc (.cells (af z32 0).toArray 34)) := (br _ _).alloc (nr _) _
 have HG1 := Lh (hzn w (.cells (af z32 0).toArray 34))
 have HS1 := Lh (show (w.alloc (.cells (af z32 0).toArray 34)).heap.size = w.heap.size + 1 from Array.size_push _)
 have HR1 := Lh (H.o.later hb1)
 have HB1 := Lh hb1
 clear hb1
 generalize w.alloc (.cells (af z32 0).toArray 34) = w1 at *
 go_wp2_with (refine ai (some 3) rfl ?_)
 refine Stop.go (av rfl 34 rfl ge rfl ?_)
 have hb2 : Below w1.heap.size w1 (w1.alloc (.cells (af z32 0).toArray 34)) := (br _ _).alloc (nr _) _
 have HG2 := Lh (hzn w1 (.cells (af z32 0).toArray 34))
 have HG21 := Lh ((hb2.block _ (gl HG1.o)).trans HG1.o)
 have HR2 := Lh (HR1.o.later hb2)
 have HB2 := Lh (HB1.o.trans (hb2.mono HB1.o.size))
 clear hb2
 generalize w1.alloc (.cells (af z32 0).toArray 34) = w2 at *
 generalize w1.heap.size = m at *
 go_wp2_with fail
 refine pt [3] [] [] (fun _ => True) trivial (by kernel_rfl) (by kernel_rfl) ?_
 refine fx 3 (by decide) (fun Q0 hQ0 => ?_)
 simp only [T1, T0]
 go_wp2_with fail
 try simp only [dr1, dr0]
 refine ig (fun Q1 hQ1 => ?_)
 go_wp2_with fail
 refine (tv g l a 32 _ HR2.o.drew (by omega)).mono ?_
 rintro e w3 ⟨rfl, hr3, hrd3, hg3, hs3⟩
 have HGM := Lh (show m < w2.heap.size from (gl HG2.o))
 have HMG := Lh (show g < m by have := HGW.o; have := HS1.o; omega)
 have HG3 := Lh ((hg3.block m HGM.o (by intro e; injection e with e; have := HMG.o; omega)).trans HG2.o)
 have HG31 := Lh ((hg3.block w.heap.size (Nat.lt_trans (by rw [HS1.o]; omega) HGM.o) (by intro e; injection e with e; have := HGW.o; omega)).trans HG21.o)
 have HT3 := Lh (Rd.row (B := w3.heap.size) hr3 hs3)
 have HR3 := Lh hrd3
 have HS3 := Lh hs3
 have HW3 := Lh (show w.grownBy w3 (some g) from dy (kj HB2.o.drew) hg3)
 have HSM := Lh (show m < w3.heap.size from Nat.lt_trans HGM.o hs3)
 clear hr3 hrd3 hg3 hs3
 go_wp2_with fail
 refine ⟨trivial, ?_⟩
 refine fx 1 (by decide) (fun Q3 hQ3 => ?_)
 simp only [T1, T0]
 obtain ⟨hh, hhd⟩ : ∃ hh, hh = (l.drop a).take 32 := ⟨_, rfl⟩
 have HHL := Lh (show hh.length = 32 by rw [hhd, List.length_take, List.length_drop]; omega)
 rw [← hhd] at HT3
 refine ls rfl _ _ rfl rfl rfl rfl bg HHL.o HG3.o HT3.o (br m w3) (nr _) ?_
 intro w4 hg4 hb4 hs4
 refine hQ3 _ _ ?_
 simp only [dr1, dr0]
 refine lu ⟨by rfl, trivial, ?_⟩
 have HR4 := Lh (HR3.o.low hb4 HMG.o)
 have HG41 := Lh ((hb4.block w.heap.size (by rw [HS1.o]; omega)).trans HG31.o)
 have HW4 := Lh (gm HW3.o hb4 (by rw [HS1.o]; omega) (by rw [hs4]; exact HW3.o.size))
 clear hb4
 have HS4 := Lh hs4
 clear hs4
 go_wp2_with fail
 refine (qbq g l (a + 32) false 1 _ HR4.o (by decide) (by decide) (.inr (by omega))).mono ?_
 rintro e w5 ⟨rfl, hr5, hg5⟩
 have HS45 : Hid (w4.heap.size ≤ w5.heap.size) := hg5.size
 have HM4 := Lh (show m < w4.heap.size by rw [HS4.o]; exact HSM.o)
 have HG5 := Lh ((hg5.block m HM4.o (by intro e; injection e with e; have := HMG.o; omega)).trans hg4.o)
 have HG51 := Lh ((hg5.block w.heap.size (Nat.lt_trans (by rw [HS1.o]; omega) HM4.o) (by intro e; injection e with e; have := HGW.o; omega)).trans HG41.o)
 have HR5 := Lh hr5
 have HW5 := Lh (dy HW4.o hg5)
 clear hr5 hg5
 obtain ⟨w6, hst6, hg6, hot6, hbl6⟩ := bo (P := Tryz.prog) w5 (g := m) (off := 32) (vs := [.int .i64 0]) (v := .int .i64 0) (ty := 3) rfl (by kernel_rfl) HG5.o (by simp [ae, HHL.o]) (fun u hu => by rw [List.mem_singleton.1 hu]; rfl) (xj hh 0 0 HHL.o)
 have HR6 := Lh (HR5.o.low (hbl6 m w5 (br m w5) (nr _)) HMG.o)
 have HW6 := Lh (gm HW5.o (hbl6 m w5 (br m w5) (nr _)) (by rw [HS1.o]; omega) (Nat.le_trans HW5.o.size (hbl6 m w5 (br m w5) (nr _)).size))
 have HST6 := Lh hst6
 have HG6 := Lh hg6
 have HG61 := Lh ((hot6 w.heap.size (by rw [HS1.o]; omega)).trans HG51.o)
 clear hst6 hg6 hot6 hbl6
 go_wp2_with (refine ai none rfl ?_)
 refine Stop.go (ac rfl 3 rfl rfl rfl HST6.o ?_)
 go_wp2_with (refine ai (some 13) rfl ?_)
 refine Stop.go (aa rfl 34 rfl rfl ba.ut rfl (al hh _ HHL.o) (aq HG6.o) ?_)
 refine ac rfl 34 rfl rfl rfl (ce (dl _ _) (al _ _ HHL.o) HG61.o (by simp [ae, HHL.o, bg]) (bc _ _)) ?_
 go_wp2_with fail
 refine zy rfl HHL.o rfl rfl (setRow_heap _ _ _ _ _ _ HG61.o) ?_
 have hbz : Below w.heap.size w6 (w6.setRow w.heap.size (af hh 0).toArray) := below_setRow (br _ _) (nr _) _
 exact ⟨hh, 0, _, rfl, HHL.o, ⟨by decide, by decide⟩, HR6.o.low hbz HGW.o, gm HW6.o hbz (nr _) (Nat.le_trans HW6.o.size hbz.size)⟩
theorem qgv (g : Nat) (l : List UInt8) (a : Nat) (w : World) (h : RdrR w g l a false) (hn : a + 32 ≤ l.length) (hno : l.length < a + 35) :
  Calls Tryz.prog 119 #[.pointer (some ⟨g, 0, none⟩)] w (qcc g l w) := by
 have HGW := Lh h.lt
 have H := Lh h
 clear h
 go_enter Tryz.func119, Tryz.ntmps119
 go_wp2_with (refine ai (some 2) rfl ?_)
 refine Stop.go (av rfl 36 rfl ip rfl ?_)
 have hb1 : Below w.heap.size w (w.alloc (.cells (af z32 0).toArray 36)) := (br _ _).alloc (nr _) _
 have HG1 := Lh (hzn w (.cells (af z32 0).toArray 36))
 have HS1 := Lh (show (w.alloc (.cells (af z32 0).toArray 36)).heap.size = w.heap.size + 1 from Array.size_push _)
 have HR1 := Lh (H.o.later hb1)
 have HB1 := Lh hb1
 clear hb1
 generalize w.alloc (.cells (af z32 0).toArray 36) = w1 at *
 go_wp2_with (refine ai (some 3) rfl ?_)
 refine Stop.go (av rfl 36 rfl ip rfl ?_)
 have hb2 : Below w1.heap.size w1 (w1.alloc (.cells (af z32 0).toArray 36)) := (br _ _).alloc (nr _) _
 have HG2 := Lh (hzn w1 (.cells (af z32 0).toArray 36))
 have HG21 := Lh ((hb2.block _ (gl HG1.o)).trans HG1.o)
 have HR2 := Lh (HR1.o.later hb2)
 have HB2 := Lh (HB1.o.trans (hb2.mono HB1.o.size))
 clear hb2
 generalize w1.alloc (.cells (af z32 0).toArray 36) = w2 at *
 generalize w1.heap.size = m at *
 go_wp2_with fail
 refine pt [3] [] [] (fun _ => True) trivial (by kernel_rfl) (by kernel_rfl) ?_
 refine fx 3 (by decide) (fun Q0 hQ0 => ?_)
 simp only [T1, T0]
 go_wp2_with fail
 try simp only [dr1, dr0]
 refine ig (fun Q1 hQ1 => ?_)
 go_wp2_with fail
 refine (tv g l a 32 _ HR2.o.drew (by omega)).mono ?_
 rintro e w3 ⟨rfl, hr3, hrd3, hg3, hs3⟩
 have HGM := Lh (show m < w2.heap.size from (gl HG2.o))
 have HMG := Lh (show g < m by have := HGW.o; have := HS1.o; omega)
 have HG3 := Lh ((hg3.block m HGM.o (by intro e; injection e with e; have := HMG.o; omega)).trans HG2.o)
 have HG31 := Lh ((hg3.block w.heap.size (Nat.lt_trans (by rw [HS1.o]; omega) HGM.o) (by intro e; injection e with e; have := HGW.o; omega)).trans HG21.o)
 have HT3 := Lh (Rd.row (B := w3.heap.size) hr3 hs3)
 have HR3 := Lh hrd3
 have HS3 := Lh hs3
 have HW3 := Lh (show w.grownBy w3 (some g) from dy (kj HB2.o.drew) hg3)
 have HSM := Lh (show m < w3.heap.size from Nat.lt_trans HGM.o hs3)
 clear hr3 hrd3 hg3 hs3
 go_wp2_with fail
 refine ⟨trivial, ?_⟩
 refine fx 1 (by decide) (fun Q3 hQ3 => ?_)
 simp only [T1, T0]
 obtain ⟨hh, hhd⟩ : ∃ hh, hh = (l.drop a).take 32 := ⟨_, rfl⟩
 have HHL := Lh (show hh.length = 32 by rw [hhd, List.length_take, List.length_drop]; omega)
 rw [← hhd] at HT3
 refine ls rfl _ _ rfl rfl rfl rfl bg HHL.o HG3.o HT3.o (br m w3) (nr _) ?_
 intro w4 hg4 hb4 hs4
 refine hQ3 _ _ ?_
 simp only [dr1, dr0]
 refine lu ⟨by rfl, trivial, ?_⟩
 have HR4 := Lh (HR3.o.low hb4 HMG.o)
 have HG41 := Lh ((hb4.block w.heap.size (by rw [HS1.o]; omega)).trans HG31.o)
 have HW4 := Lh (gm HW3.o hb4 (by rw [HS1.o]; omega) (by rw [hs4]; exact HW3.o.size))
 clear hb4
 have HS4 := Lh hs4
 clear hs4
 go_wp2_with fail
 refine (qbq g l (a + 32) false 3 _ HR4.o (by decide) (by decide) (.inr (by omega))).mono ?_
 rintro e w5 ⟨rfl, hr5, hg5⟩
 have HS45 : Hid (w4.heap.size ≤ w5.heap.size) := hg5.size
 have HM4 := Lh (show m < w4.heap.size by rw [HS4.o]; exact HSM.o)
 have HG5 := Lh ((hg5.block m HM4.o (by intro e; injection e with e; have := HMG.o; omega)).trans hg4.o)
 have HG51 := Lh ((hg5.block w.heap.size (Nat.lt_trans (by rw [HS1.o]; omega) HM4.o) (by intro e; injection e with e; have := HGW.o; omega)).trans HG41.o)
 have HR5 := Lh hr5
 have HW5 := Lh (dy HW4.o hg5)
 clear hr5 hg5
 obtain ⟨w6, hst6, hg6, hot6, hbl6⟩ := bo (P := Tryz.prog) w5 (g := m) (off := 32) (vs := [.int .i64 0]) (v := .int .i64 0) (ty := 3) rfl (by kernel_rfl) HG5.o (by simp [ae, HHL.o]) (fun u hu => by rw [List.mem_singleton.1 hu]; rfl) (xj hh 0 0 HHL.o)
 have HR6 := Lh (HR5.o.low (hbl6 m w5 (br m w5) (nr _)) HMG.o)
 have HW6 := Lh (gm HW5.o (hbl6 m w5 (br m w5) (nr _)) (by rw [HS1.o]; omega) (Nat.le_trans HW5.o.size (hbl6 m w5 (br m w5) (nr _)).size))
 have HST6 := Lh hst6
 have HG6 := Lh hg6
 have HG61 := Lh ((hot6 w.heap.size (by rw [HS1.o]; omega)).trans HG51.o)
 clear hst6 hg6 hot6 hbl6
 go_wp2_with (refine ai none rfl ?_)
 refine Stop.go (ac rfl 3 rfl rfl rfl HST6.o ?_)
 go_wp2_with (refine ai (some 13) rfl ?_)
 refine Stop.go (aa rfl 36 rfl rfl jw.ut rfl (dj hh _ HHL.o) (aq HG6.o) ?_)
 refine ac rfl 36 rfl rfl rfl (ce (dl _ _) (dj _ _ HHL.o) HG61.o (by simp [ae, HHL.o, bg]) (bc _ _)) ?_
 go_wp2_with fail
 refine qbi rfl HHL.o rfl rfl (setRow_heap _ _ _ _ _ _ HG61.o) ?_
 have hbz : Below w.heap.size w6 (w6.setRow w.heap.size (af hh 0).toArray) := below_setRow (br _ _) (nr _) _
 exact ⟨hh, 0, _, rfl, HHL.o, ⟨by decide, by decide⟩, HR6.o.low hbz HGW.o, gm HW6.o hbz (nr _) (Nat.le_trans HW6.o.size hbz.size)⟩
theorem qjb (g : Nat) (l : List UInt8) (a : Nat) (w : World) (sp : Bool) (h : RdrR w g l a sp) (hno : sp = true ∨ l.length < a + 32) :
  Calls Tryz.prog 118 #[.pointer (some ⟨g, 0, none⟩)] w (qcc g l w) := by
 have HGW := Lh h.lt
 have hal : a ≤ l.length := by obtain ⟨_, _, _, _, _, _, h5⟩ := h; exact h5
 have HNO := Lh (show sp = true ∨ (32 : Int) < 0 ∨ ((l.length - a : Nat) : Int) < 32 by rcases hno with h | h; exact .inl h; exact .inr (.inr (by omega)))
 have H := Lh h
 clear h hno hal
 go_enter Tryz.func118, Tryz.ntmps118
 go_wp2_with (refine ai (some 2) rfl ?_)
 refine Stop.go (av rfl 34 rfl ge rfl ?_)
 have hb1 : Below w.heap.size w (w.alloc (.cells (af z32 0).toArray 34)) := (br _ _).alloc (nr _) _
 have HG1 := Lh (hzn w (.cells (af z32 0).toArray 34))
 have HS1 := Lh (show (w.alloc (.cells (af z32 0).toArray 34)).heap.size = w.heap.size + 1 from Array.size_push _)
 have HR1 := Lh (H.o.later hb1)
 have HB1 := Lh hb1
 clear hb1
 generalize w.alloc (.cells (af z32 0).toArray 34) = w1 at *
 go_wp2_with (refine ai (some 3) rfl ?_)
 refine Stop.go (av rfl 34 rfl ge rfl ?_)
 have hb2 : Below w1.heap.size w1 (w1.alloc (.cells (af z32 0).toArray 34)) := (br _ _).alloc (nr _) _
 have HG2 := Lh (hzn w1 (.cells (af z32 0).toArray 34))
 have HG21 := Lh ((hb2.block _ (gl HG1.o)).trans HG1.o)
 have HR2 := Lh (HR1.o.later hb2)
 have HB2 := Lh (HB1.o.trans (hb2.mono HB1.o.size))
 clear hb2
 generalize w1.alloc (.cells (af z32 0).toArray 34) = w2 at *
 generalize w1.heap.size = m at *
 go_wp2_with fail
 refine pt [3] [] [] (fun _ => True) trivial (by kernel_rfl) (by kernel_rfl) ?_
 refine fx 3 (by decide) (fun Q0 hQ0 => ?_)
 simp only [T1, T0]
 go_wp2_with fail
 try simp only [dr1, dr0]
 refine ig (fun Q1 hQ1 => ?_)
 go_wp2_with fail
 refine (tw g l a sp 32 _ HR2.o.drew HNO.o).mono ?_
 rintro e w3 ⟨rfl, hrd3, hg3⟩
 have HGM := Lh (show m < w2.heap.size from (gl HG2.o))
 have HMG := Lh (show g < m by have := HGW.o; have := HS1.o; omega)
 have HG3 := Lh ((hg3.block m HGM.o (by intro e; injection e with e; have := HMG.o; omega)).trans HG2.o)
 have HG31 := Lh ((hg3.block w.heap.size (Nat.lt_trans (by rw [HS1.o]; omega) HGM.o) (by intro e; injection e with e; have := HGW.o; omega)).trans HG21.o)
 have HR3 := Lh hrd3
 have HW3 := Lh (show w.grownBy w3 (some g) from dy (kj HB2.o.drew) hg3)
 have HSM := Lh (show m < w3.heap.size from Nat.lt_of_lt_of_le HGM.o hg3.size)
 clear hrd3 hg3
 go_wp2_with fail
 refine ⟨trivial, ?_⟩
 refine fx 1 (by decide) (fun Q3 hQ3 => ?_)
 simp only [T1, T0]
 refine wpList_copy_nothing rfl _ _ 44 44 rfl 5 Tryz.underlying44 (by kernel_rfl) _ _ _ _ _ _ rfl rfl (by simp) ?_
 refine hQ3 _ _ ?_
 simp only [dr1, dr0]
 refine lu ⟨by rfl, trivial, ?_⟩
 go_wp2_with fail
 refine (qbq g l a true 1 _ HR3.o (by decide) (by decide) (.inl rfl)).mono ?_
 rintro e w5 ⟨rfl, hr5, hg5⟩
 have HG5 := Lh ((hg5.block m HSM.o (by intro e; injection e with e; have := HMG.o; omega)).trans HG3.o)
 have HG51 := Lh ((hg5.block w.heap.size (Nat.lt_trans (by rw [HS1.o]; omega) HSM.o) (by intro e; injection e with e; have := HGW.o; omega)).trans HG31.o)
 have HR5 := Lh hr5
 have HW5 := Lh (dy HW3.o hg5)
 clear hr5 hg5
 obtain ⟨w6, hst6, hg6, hot6, hbl6⟩ := bo (P := Tryz.prog) w5 (g := m) (off := 32) (vs := [.int .i64 0]) (v := .int .i64 0) (ty := 3) rfl (by kernel_rfl) HG5.o (by simp [ae, bg]) (fun u hu => by rw [List.mem_singleton.1 hu]; rfl) (xj z32 0 0 bg)
 have HR6 := Lh (HR5.o.low (hbl6 m w5 (br m w5) (nr _)) HMG.o)
 have HW6 := Lh (gm HW5.o (hbl6 m w5 (br m w5) (nr _)) (by rw [HS1.o]; omega) (Nat.le_trans HW5.o.size (hbl6 m w5 (br m w5) (nr _)).size))
 have HST6 := Lh hst6
 have HG6 := Lh hg6
 have HG61 := Lh ((hot6 w.heap.size (by rw [HS1.o]; omega)).trans HG51.o)
 clear hst6 hg6 hot6 hbl6
 go_wp2_with (refine ai none rfl ?_)
 refine Stop.go (ac rfl 3 rfl rfl rfl HST6.o ?_)
 go_wp2_with (refine ai (some 13) rfl ?_)
 refine Stop.go (aa rfl 34 rfl rfl ba.ut rfl (al z32 _ bg) (aq HG6.o) ?_)
 refine ac rfl 34 rfl rfl rfl (ce (dl _ _) (al _ _ bg) HG61.o (by simp [ae, bg, bg]) (bc _ _)) ?_
 go_wp2_with fail
 refine zy rfl bg rfl rfl (setRow_heap _ _ _ _ _ _ HG61.o) ?_
 have hbz : Below w.heap.size w6 (w6.setRow w.heap.size (af z32 0).toArray) := below_setRow (br _ _) (nr _) _
 exact ⟨z32, 0, _, rfl, bg, ⟨by decide, by decide⟩, HR6.o.low hbz HGW.o, gm HW6.o hbz (nr _) (Nat.le_trans HW6.o.size hbz.size)⟩
theorem qgu (g : Nat) (l : List UInt8) (a : Nat) (w : World) (sp : Bool) (h : RdrR w g l a sp) (hno : sp = true ∨ l.length < a + 32) :
  Calls Tryz.prog 119 #[.pointer (some ⟨g, 0, none⟩)] w (qcc g l w) := by
 have HGW := Lh h.lt
 have hal : a ≤ l.length := by obtain ⟨_, _, _, _, _, _, h5⟩ := h; exact h5
 have HNO := Lh (show sp = true ∨ (32 : Int) < 0 ∨ ((l.length - a : Nat) : Int) < 32 by rcases hno with h | h; exact .inl h; exact .inr (.inr (by omega)))
 have H := Lh h
 clear h hno hal
 go_enter Tryz.func119, Tryz.ntmps119
 go_wp2_with (refine ai (some 2) rfl ?_)
 refine Stop.go (av rfl 36 rfl ip rfl ?_)
 have hb1 : Below w.heap.size w (w.alloc (.cells (af z32 0).toArray 36)) := (br _ _).alloc (nr _) _
 have HG1 := Lh (hzn w (.cells (af z32 0).toArray 36))
 have HS1 := Lh (show (w.alloc (.cells (af z32 0).toArray 36)).heap.size = w.heap.size + 1 from Array.size_push _)
 have HR1 := Lh (H.o.later hb1)
 have HB1 := Lh hb1
 clear hb1
 generalize w.alloc (.cells (af z32 0).toArray 36) = w1 at *
 go_wp2_with (refine ai (some 3) rfl ?_)
 refine Stop.go (av rfl 36 rfl ip rfl ?_)
 have hb2 : Below w1.heap.size w1 (w1.alloc (.cells (af z32 0).toArray 36)) := (br _ _).alloc (nr _) _
 have HG2 := Lh (hzn w1 (.cells (af z32 0).toArray 36))
 have HG21 := Lh ((hb2.block _ (gl HG1.o)).trans HG1.o)
 have HR2 := Lh (HR1.o.later hb2)
 have HB2 := Lh (HB1.o.trans (hb2.mono HB1.o.size))
 clear hb2
 generalize w1.alloc (.cells (af z32 0).toArray 36) = w2 at *
 generalize w1.heap.size = m at *
 go_wp2_with fail
 refine pt [3] [] [] (fun _ => True) trivial (by kernel_rfl) (by kernel_rfl) ?_
 refine fx 3 (by decide) (fun Q0 hQ0 => ?_)
 simp only [T1, T0]
 go_wp2_with fail
 try simp only [dr1, dr0]
 refine ig (fun Q1 hQ1 => ?_)
 go_wp2_with fail
 refine (tw g l a sp 32 _ HR2.o.drew HNO.o).mono ?_
 rintro e w3 ⟨rfl, hrd3, hg3⟩
 have HGM := Lh (show m < w2.heap.size from (gl HG2.o))
 have HMG := Lh (show g < m by have := HGW.o; have := HS1.o; omega)
 have HG3 := Lh ((hg3.block m HGM.o (by intro e; injection e with e; have := HMG.o; omega)).trans HG2.o)
 have HG31 := Lh ((hg3.block w.heap.size (Nat.lt_trans (by rw [HS1.o]; omega) HGM.o) (by intro e; injection e with e; have := HGW.o; omega)).trans HG21.o)
 have HR3 := Lh hrd3
 have HW3 := Lh (show w.grownBy w3 (some g) from dy (kj HB2.o.drew) hg3)
 have HSM := Lh (show m < w3.heap.size from Nat.lt_of_lt_of_le HGM.o hg3.size)
 clear hrd3 hg3
 go_wp2_with fail
 refine ⟨trivial, ?_⟩
 refine fx 1 (by decide) (fun Q3 hQ3 => ?_)
 simp only [T1, T0]
 refine wpList_copy_nothing rfl _ _ 44 44 rfl 5 Tryz.underlying44 (by kernel_rfl) _ _ _ _ _ _ rfl rfl (by simp) ?_
 refine hQ3 _ _ ?_
 simp only [dr1, dr0]
 refine lu ⟨by rfl, trivial, ?_⟩
 go_wp2_with fail
 refine (qbq g l a true 3 _ HR3.o (by decide) (by decide) (.inl rfl)).mono ?_
 rintro e w5 ⟨rfl, hr5, hg5⟩
 have HG5 := Lh ((hg5.block m HSM.o (by intro e; injection e with e; have := HMG.o; omega)).trans HG3.o)
 have HG51 := Lh ((hg5.block w.heap.size (Nat.lt_trans (by rw [HS1.o]; omega) HSM.o) (by intro e; injection e with e; have := HGW.o; omega)).trans HG31.o)
 have HR5 := Lh hr5
 have HW5 := Lh (dy HW3.o hg5)
 clear hr5 hg5
 obtain ⟨w6, hst6, hg6, hot6, hbl6⟩ := bo (P := Tryz.prog) w5 (g := m) (off := 32) (vs := [.int .i64 0]) (v := .int .i64 0) (ty := 3) rfl (by kernel_rfl) HG5.o (by simp [ae, bg]) (fun u hu => by rw [List.mem_singleton.1 hu]; rfl) (xj z32 0 0 bg)
 have HR6 := Lh (HR5.o.low (hbl6 m w5 (br m w5) (nr _)) HMG.o)
 have HW6 := Lh (gm HW5.o (hbl6 m w5 (br m w5) (nr _)) (by rw [HS1.o]; omega) (Nat.le_trans HW5.o.size (hbl6 m w5 (br m w5) (nr _)).size))
 have HST6 := Lh hst6
 have HG6 := Lh hg6
 have HG61 := Lh ((hot6 w.heap.size (by rw [HS1.o]; omega)).trans HG51.o)
 clear hst6 hg6 hot6 hbl6
 go_wp2_with (refine ai none rfl ?_)
 refine Stop.go (ac rfl 3 rfl rfl rfl HST6.o ?_)
 go_wp2_with (refine ai (some 13) rfl ?_)
 refine Stop.go (aa rfl 36 rfl rfl jw.ut rfl (dj z32 _ bg) (aq HG6.o) ?_)
 refine ac rfl 36 rfl rfl rfl (ce (dl _ _) (dj _ _ bg) HG61.o (by simp [ae, bg, bg]) (bc _ _)) ?_
 go_wp2_with fail
 refine qbi rfl bg rfl rfl (setRow_heap _ _ _ _ _ _ HG61.o) ?_
 have hbz : Below w.heap.size w6 (w6.setRow w.heap.size (af z32 0).toArray) := below_setRow (br _ _) (nr _) _
 exact ⟨z32, 0, _, rfl, bg, ⟨by decide, by decide⟩, HR6.o.low hbz HGW.o, gm HW6.o hbz (nr _) (Nat.le_trans HW6.o.size hbz.size)⟩

def je (l : List UInt8) (a : Nat) (sp : Bool) (n a' : Nat) (sp' : Bool) : Prop := sp' = (sp || decide (l.length < a + n)) ∧ (sp' = false → a' = a + n)
def NumAll (g : Nat) (l : List UInt8) (a : Nat) (sp : Bool) (n : Nat) (w : World) (e : Ending) (w' : World) : Prop :=
 ∃ (x a' : Nat) (sp' : Bool), e = .returned (.int .u64 (x : Int)) ∧ x < 256 ^ n ∧ je l a sp n a' sp' ∧ (sp' = false → x = co ((l.drop a).take n)) ∧ RdrR w' g l a' sp' ∧ w.grownBy w' (some g)
theorem qjl (g : Nat) (l : List UInt8) (a : Nat) (sp : Bool) (n : Nat) (w : World) (h : RdrR w g l a sp) (h1 : 1 ≤ n) (h8 : n ≤ 8) :
  Calls Tryz.prog 117 #[.pointer (some ⟨g, 0, none⟩), .int .i64 n] w (NumAll g l a sp n w) := by
 by_cases hc : sp = false ∧ a + n ≤ l.length
 ·obtain ⟨rfl, hn⟩ := hc
  refine (qjk g l a n w h h1 h8 hn).mono ?_
  rintro e w' ⟨he, hr, hg⟩
  refine ⟨_, a + n, false, he, ?_, ⟨by simp; omega, fun _ => rfl⟩, fun _ => rfl, hr, hg⟩
  refine Nat.lt_of_lt_of_le (tr _) ?_
  rw [List.length_take, List.length_drop, Nat.min_eq_left (by omega)]
  exact nr _
 ·have hn : sp = true ∨ l.length < a + n := by
   cases sp
   ·exact .inr (by simpa using hc)
   ·exact .inl rfl
  refine (qbq g l a sp n w h h1 h8 hn).mono ?_
  rintro e w' ⟨he, hr, hg⟩
  refine ⟨0, a, true, he, Nat.pow_pos (by decide), ⟨?_, fun h => nomatch h⟩, (fun h => nomatch h), hr, hg⟩
  rcases hn with rfl | h
  ·rfl
  ·simp [h]
theorem qne (l : List UInt8) (n : Nat) (h : n ≤ 3) : 0 ≤ ((co (l.take n) : Nat) : Int) ∧ ((co (l.take n) : Nat) : Int) ≤ 16777215 := by
 have h1 := tr (l.take n)
 have h2 : (256 : Nat) ^ (l.take n).length ≤ 256 ^ 3 := Nat.pow_le_pow_right (by omega) (by rw [List.length_take]; omega)
 omega
def qki (g : Nat) (l : List UInt8) (a : Nat) (sp : Bool) (m : Nat) (w : World) (e : Ending) (w' : World) : Prop :=
 ∃ (h : List UInt8) (k : Int) (a' : Nat) (sp' : Bool), e = .returned (hkv h k) ∧ h.length = 32 ∧ je l a sp m a' sp' ∧ (sp' = false → h = (l.drop a).take 32 ∧ k = co ((l.drop (a + 32)).take (m - 32))) ∧ RdrR w' g l a' sp' ∧ w.grownBy w' (some g) ∧ (0 ≤ k ∧ k ≤ 16777215)
theorem qdn {g : Nat} {l : List UInt8} {a : Nat} {sp : Bool} {m : Nat} {w : World} {e : Ending} {w' : World} (h : qcc g l w e w') (hn : sp = true ∨ l.length < a + m) : qki g l a sp m w e w' := by
 obtain ⟨hh, k, a', he, hl, hkb, hr, hg⟩ := h
 refine ⟨hh, k, a', true, he, hl, ⟨?_, fun h => nomatch h⟩, (fun h => nomatch h), hr, hg, hkb⟩
 rcases hn with rfl | h
 ·rfl
 ·simp [h]
theorem pa (g : Nat) (l : List UInt8) (a : Nat) (sp : Bool) (w : World) (h : RdrR w g l a sp) :
  Calls Tryz.prog 118 #[.pointer (some ⟨g, 0, none⟩)] w (qki g l a sp 33 w) := by
 by_cases h0 : sp = true ∨ l.length < a + 32
 ·exact (qjb g l a w sp h h0).mono fun e w' hh => qdn hh (by rcases h0 with h | h; exact .inl h; exact .inr (by omega))
 ·have hsp : sp = false := by cases sp <;> simp_all
  subst hsp
  by_cases h1 : l.length < a + 33
  ·exact (qjc g l a w h (by simpa using h0) h1).mono fun e w' hh => qdn hh (.inr h1)
  ·refine (qns g l a w h (by omega)).mono ?_
   rintro e w' ⟨he, hr, hg⟩
   exact ⟨_, _, a + 33, false, he, by rw [List.length_take, List.length_drop]; omega, ⟨by simp; omega, fun _ => rfl⟩, fun _ => ⟨rfl, rfl⟩, hr, hg, qne _ _ (by omega)⟩
theorem zv (g : Nat) (l : List UInt8) (a : Nat) (sp : Bool) (w : World) (h : RdrR w g l a sp) :
  Calls Tryz.prog 119 #[.pointer (some ⟨g, 0, none⟩)] w (qki g l a sp 35 w) := by
 by_cases h0 : sp = true ∨ l.length < a + 32
 ·exact (qgu g l a w sp h h0).mono fun e w' hh => qdn hh (by rcases h0 with h | h; exact .inl h; exact .inr (by omega))
 ·have hsp : sp = false := by cases sp <;> simp_all
  subst hsp
  by_cases h1 : l.length < a + 35
  ·exact (qgv g l a w h (by simpa using h0) h1).mono fun e w' hh => qdn hh (.inr h1)
  ·refine (qkt g l a w h (by omega)).mono ?_
   rintro e w' ⟨he, hr, hg⟩
   exact ⟨_, _, a + 35, false, he, by rw [List.length_take, List.length_drop]; omega, ⟨by simp; omega, fun _ => rfl⟩, fun _ => ⟨rfl, rfl⟩, hr, hg, qne _ _ (by omega)⟩
theorem left_all (g : Nat) (l : List UInt8) (a : Nat) (sp : Bool) (w : World) (h : RdrR w g l a sp) :
  Calls Tryz.prog 120 #[.pointer (some ⟨g, 0, none⟩)] w fun e w' => e = .returned (.int .i64 ((if sp then 0 else l.length - a : Nat) : Nat)) ∧ Below w.heap.size w w' ∧ w'.heap.size = w.heap.size := by
 cases sp
 ·exact (qam g l a w h).mono fun e w' hh => ⟨by simpa using hh.1, hh.2 ▸ (br _ _).drew, hh.2 ▸ rfl⟩
 ·exact (qri g l a w h).mono fun e w' hh => ⟨by simpa using hh.1, hh.2 ▸ br _ _, hh.2 ▸ rfl⟩
theorem all_all (g : Nat) (l : List UInt8) (a : Nat) (sp : Bool) (w : World) (h : RdrR w g l a sp) :
  Calls Tryz.prog 121 #[.pointer (some ⟨g, 0, none⟩)] w fun e w' => e = .returned (.bool (!sp && decide (a = l.length))) ∧ Below w.heap.size w w' ∧ w'.heap.size = w.heap.size := by
 cases sp
 ·exact (all_ok g l a w h).mono fun e w' hh => ⟨by simpa using hh.1, hh.2 ▸ (br _ _).drew, hh.2 ▸ rfl⟩
 ·exact (all_sp g l a w h).mono fun e w' hh => ⟨by simpa using hh.1, hh.2 ▸ br _ _, hh.2 ▸ rfl⟩

theorem nt : pr Tryz.prog 28 34 33 40 (hkv z32 0) := yf Tryz.underlying28 (by kernel_rfl) rfl (by omega)
def qof (n g : Nat) (w : World) : Nat := match w.cell? ⟨g, 1, none⟩, w.cell? ⟨g, 2, none⟩ with
 |some (.int _ z), some (.bool false) => n - z.toNat
 |_, _ => 0
theorem qhu {w : World} {g : Nat} {l : List UInt8} {a : Nat} {sp : Bool} (h : RdrR w g l a sp) : qof l.length g w = if sp then 0 else l.length - a := by
 obtain ⟨A, c, _, c1, c2, _⟩ := h.cells
 unfold qof
 rw [c1, c2]
 cases sp <;> simp

theorem fill_one {s : Nat} (hs : 0 < s) {v : Value} {vs : List Value} (hv : v.cells = vs.toArray) (hl : vs.length = s) (cells : Array Value) (hc : cells.size = s) :
  Instr.fill (fun i => some (i * s, s)) cells [(0, v)] = some vs.toArray := by
 obtain ⟨r, h1, h2, h3⟩ := Great.fill_dense hs [v] 0 cells (fun u hu => by rw [List.mem_singleton.1 hu, hv, List.size_toArray, hl]) (by simp [hc])
 have e : (([v].zipIdx 0).map fun x => (x.2, x.1)) = [(0, v)] := rfl
 rw [e] at h1
 rw [h1]
 congr 1
 apply Array.ext_getElem?
 intro k
 rw [h3 k]
 by_cases hk : k < s
 ·rw [if_pos (by simp; exact hk), Nat.div_eq_of_lt hk, Nat.mod_eq_of_lt hk, ← hv]
  rfl
 ·rw [if_neg (by simp; omega)]
  rw [Array.getElem?_eq_none (by omega), Array.getElem?_eq_none (by simp; omega)]
section
variable {P : Program} {ops : Array Oper} {Q : Exit → Act → World → Prop} {a : Act} {w : World} {rest : List Oper} {o : Oper}
theorem qgy {t e : TypeId} {v : Value} {vs : List Value} (hu : P.underlying t = some (.slice e)) {z : Value} (hi : (P.info? e).map (fun i => (i.zero, i.size)) = some (some z, vs.length)) (hv : v.cells = vs.toArray) (h0 : 0 < vs.length) (hb : vs.length ≤ 16777216) :
  (Instr.buildSlice t 1 #[(0, v)]).run P w = .ok (.slice (some ⟨w.heap.size, 0, none⟩) 1 1) (w.alloc (.cells vs.toArray e)) := by
 cases hq : P.info? e with
 |none => simp [hq] at hi
 |some i =>
  simp only [hq, Option.map_some, Option.some.injEq, Prod.mk.injEq] at hi
  obtain ⟨hz, hs⟩ := hi
  refine run_buildSlice w t e 1 #[(0, v)] vs.toArray i z hu hq hz (by omega) (by omega) ?_
  rw [hs]
  exact fill_one h0 hv rfl _ (by simp)
theorem jo {ty e : TypeId} {v : Value} {p : Addr} (hu : P.underlying ty = some (.slice e)) (hc : w.cell? p = some v) : (Instr.loadAt ty (.pointer (some p))).run P w = .ok v w := by
 have hagg : (isAgg ty).run P w = .ok false w := by
  unfold isAgg
  rw [Sem.run_bind, run_underlying hu w]
  rfl
 simp [Instr.loadAt, Instr.sureAddr, loadVar, Sem.run_bind, hagg, hc]
theorem cd (hgd : o.guard = none) (t e : TypeId) {x : Operand} (ho : o.op = .buildSlice t 1 #[(0, x)]) {v : Value} (hx : a.eval x = v) {vs : List Value} (hu : P.underlying t = some (.slice e)) {z : Value} (hi : (P.info? e).map (fun i => (i.zero, i.size)) = some (some z, vs.length))
  (hv : v.cells = vs.toArray) (h0 : 0 < vs.length) (hb : vs.length ≤ 16777216) (h : wpList P ops Q rest (a.put o.dst (.slice (some ⟨w.heap.size, 0, none⟩) 1 1)) (w.alloc (.cells vs.toArray e))) : wpList P ops Q (o :: rest) a w := by
 refine wpList_plain hgd fun K hK => ?_
 unfold Oper.wp execOp
 have hr := qgy (P := P) (w := w) hu hi hv h0 hb
 have e1 : (#[(0, x)] : Array (Nat × Operand)).map (fun (i, x) => (i, a.eval x)) = #[(0, v)] := by simp [hx]
 simp only [ho, e1, Sem.run_bind, hr, Result.andThen_ok, Sem.run_pure]
 exact hK _ _ h
end
end Go.Proofs.YtplbcbamnjnhlaaGreatDoor
