/- Texts of this proof joined: RefRight, PutKey. -/
import Derived.Test.YtplbcbamnjnhlaaGreatDoorMT00
import Derived.Test.YtplbcbamnjnhlaaGreatDoorMT13
set_option maxRecDepth 100000
set_option maxHeartbeats 40000000
namespace Go.Proofs.YtplbcbamnjnhlaaGreatDoor
open Go.RowKit

def au (r : RecD) : Bool :=
 decide (1 ≤ r.kind ∧ r.kind ≤ 7) && (if r.kind = 2 ∨ r.kind = 3 then pk r else decide (r.seq = 0)) && (if r.kind = 2 ∨ r.kind = 4 then kOk r.kk && lr r else decide (r.mh = z32 ∧ r.ms = 0)) &&
  (if r.kind = 5 ∨ r.kind = 6 then kOk r.kk else if r.kind = 2 ∨ r.kind = 4 then true else decide (r.kh = z32 ∧ r.kk = 0)) && (if r.kind = 7 then fl r.keys else decide (r.keys = []))
theorem qbh (r : RecD) : mp r = au r := by
 obtain ⟨kind, seq, kh, kk, mh, ms, keys⟩ := r
 rw [Bool.eq_iff_iff]
 by_cases k1 : kind = 1
 ·subst k1
  simp [mp, au, gv, ed, gq]
  grind
 by_cases k2 : kind = 2
 ·subst k2
  simp [mp, au, gv, ed, gq]
  grind
 by_cases k3 : kind = 3
 ·subst k3
  simp [mp, au, gv, ed, gq]
  grind
 by_cases k4 : kind = 4
 ·subst k4
  simp [mp, au, gv, ed, gq]
  grind
 by_cases k5 : kind = 5
 ·subst k5
  simp [mp, au, gv, ed, gq]
  grind
 by_cases k6 : kind = 6
 ·subst k6
  simp [mp, au, gv, ed, gq]
  grind
 by_cases k7 : kind = 7
 ·subst k7
  simp [mp, au, gv, ed, gq]
  grind
 have e1 : mp ⟨kind, seq, kh, kk, mh, ms, keys⟩ = false := by simp [mp, gv, k1, k2, k3, k4, k5, k6, k7]
 have e2 : au ⟨kind, seq, kh, kk, mh, ms, keys⟩ = false := by
  have : ¬ (1 ≤ kind ∧ kind ≤ 7) := by omega
  simp [au, this]
 rw [e1, e2]
theorem qsa (w : World) : (zeroValue 32).run Tryz.prog w = .ok (jc z32) w := by kernel_rfl
theorem zz (r : RecD) (A : Option Addr) (n c B : Nat) (w : World) (hr : Hs r) (h1 : SlR eKey w B (.slice A n c) r.keys) (hB : B ≤ w.heap.size) :
  Calls Tryz.prog 30 #[rv r (.slice A n c)] w fun e w' => e = .returned (.bool (au r)) ∧ Below w.heap.size w w' := by
 obtain ⟨kind, seq, kh, kk, mh, ms, keys⟩ := r
 obtain ⟨hk, hm⟩ := hr
 simp only at hk hm h1
 have hb1 : Below w.heap.size w (((w.alloc (.cells (ag kind seq kh kk mh ms (.slice A n c)).toArray 42)).alloc (.cells (af z32 0).toArray 34)).alloc (.cells (ak z32).toArray 32)) :=
  (((br _ _).alloc (nr _) _).alloc (by show _ ≤ (Array.push _ _).size; rw [Array.size_push]; omega) _).alloc (by show _ ≤ (Array.push (Array.push _ _) _).size; rw [Array.size_push, Array.size_push]; omega) _
 have hr1 : cu (((w.alloc (.cells (ag kind seq kh kk mh ms (.slice A n c)).toArray 42)).alloc (.cells (af z32 0).toArray 34)).alloc (.cells (ak z32).toArray 32)) w.heap.size 42 kind seq kh kk mh ms (.slice A n c) :=
  ((cu.new w hk hm).later ((br _ _).alloc (nr _) _)).later ((br _ _).alloc (nr _) _)
 have hg1 := Go.heap_alloc2_old (w.alloc (.cells (ag kind seq kh kk mh ms (.slice A n c)).toArray 42)) (.cells (af z32 0).toArray 34) (.cells (ak z32).toArray 32)
 have hg2 := Go.heap_alloc2_new (w.alloc (.cells (ag kind seq kh kk mh ms (.slice A n c)).toArray 42)) (.cells (af z32 0).toArray 34) (.cells (ak z32).toArray 32)
 have hs1 : (w.alloc (.cells (ag kind seq kh kk mh ms (.slice A n c)).toArray 42)).heap.size = w.heap.size + 1 := Array.size_push _
 have hs2 : ((w.alloc (.cells (ag kind seq kh kk mh ms (.slice A n c)).toArray 42)).alloc (.cells (af z32 0).toArray 34)).heap.size = w.heap.size + 2 := by
  show (Array.push (Array.push _ _) _).size = _
  rw [Array.size_push, Array.size_push]
 rw [hs1] at hg1 hg2
 have N1 := Lh h1.n_eq
 have hc1 := h1.n_le
 have HK := Lh (h1.fut hb1 hB (nr B))
 have HBW := Lh hB
 have HB1 := Lh hb1
 clear h1 hb1 hB
 go_enter Tryz.func30, Tryz.ntmps30
 go_wp2_with (refine ai (some 1) rfl ?_)
 refine Stop.go (bn rfl _ rfl rfl rfl ?_)
 go_wp2_with (refine ai (some 3) rfl ?_)
 refine Stop.go (av rfl _ rfl ge rfl ?_)
 go_wp2_with (refine ai (some 4) rfl ?_)
 refine Stop.go (av rfl _ rfl qsa rfl ?_)
 try rw [hs1]
 try rw [hs2]
 have HG1 := Lh hg1
 have HG2 := Lh hg2
 clear hg1 hg2 hs1 hs2
 generalize ((w.alloc (.cells (ag kind seq kh kk mh ms (.slice A n c)).toArray 42)).alloc (.cells (af z32 0).toArray 34)).alloc (.cells (ak z32).toArray 32) = w1 at *
 have c0 := hr1.kind_
 have c1 := hr1.seq_
 have c67 := hr1.size_
 have c68 := hr1.keys_
 have HR1 := Lh hr1
 clear hr1
 by_cases k1 : kind = 1
 ·subst k1
  by_cases hs : seq = 0
  ·have hse : (seq != 0) = false := by simp [hs]
   go_wp2_with (refine ai (some 51) rfl ?_)
   refine Stop.go (ar 1 _ _ _ (fun Q' hQ' => ?_))
   simp only [T1, T0]
   go_wp2_with fail
   try simp only [dr1, dr0]
   refine Stop.go (aa rfl 32 rfl rfl fz.ua rfl (gk _ hm) HR1.o.hash_ ?_)
   refine aa rfl 32 rfl rfl fz.ua rfl (gk z32 rfl) (aq HG2.o) ?_
   refine ei rfl .neq 32 rfl rfl rfl (nb fz.gd ..) (th fz hm rfl) ?_
   by_cases hmz : mh = z32
   ·rw [show (!decide (mh = z32)) = false by simp [hmz]]
    by_cases hms : ms = 0
    ·have hmse : (ms != 0) = false := by simp [hms]
     go_wp2_with (refine ai (some 71) rfl ?_)
     refine Stop.go (ar 7 _ _ _ (fun Q' hQ' => ?_))
     simp only [T1, T0]
     go_wp2_with fail
     try simp only [dr1, dr0]
     refine Stop.go (aw (by rfl) 34 rfl rfl ba.ut rfl (al _ _ hk) HR1.o.key_ ?_)
     refine aw (by rfl) 34 rfl rfl ba.ut rfl (al z32 0 rfl) (aq HG1.o) ?_
     refine ln (by rfl) .neq 34 rfl rfl rfl (ez ba.gd ..) (js ba hk rfl) ?_
     by_cases hkz : kh = z32 ∧ kk = 0
     ·rw [show (!(decide (kh = z32) && decide (kk = 0))) = false by simp [hkz.1, hkz.2]]
      by_cases hn : n = 0
      ·have hke : keys = [] := List.eq_nil_of_length_eq_zero (by rw [← N1.o]; exact hn)
       have HF := Lh (show au ⟨1, seq, kh, kk, mh, ms, keys⟩ = true from by unfold au; simp [hs, hmz, hms, hkz.1, hkz.2, hke])
       go_wp2_with fail
       go_ret
       exact ⟨rt1 (bu HF.o.symm), HB1.o⟩
      ·have hke : keys ≠ [] := fun h => hn (by rw [N1.o, h]; rfl)
       have hne : ((n : Int) == 0) = false := by rw [beq_eq_false_iff_ne]; omega
       have HF := Lh (show au ⟨1, seq, kh, kk, mh, ms, keys⟩ = false from by unfold au; simp [hs, hmz, hms, hkz.1, hkz.2, hke])
       go_wp2_with fail
       go_ret
       exact ⟨rt1 (bu HF.o.symm), HB1.o⟩
     ·rw [show (!(decide (kh = z32) && decide (kk = 0))) = true by by_cases h1 : kh = z32 <;> by_cases h2 : kk = 0 <;> simp_all]
      have hkz' : ¬ (kh = z32 ∧ kk = 0) := hkz
      have HF := Lh (show au ⟨1, seq, kh, kk, mh, ms, keys⟩ = false from by unfold au; simp [hs, hmz, hms, hkz'])
      go_wp2_with fail
      go_ret
      exact ⟨rt1 (bu HF.o.symm), HB1.o⟩
    ·have hmse : (ms != 0) = true := by simp [hms]
     have HF := Lh (show au ⟨1, seq, kh, kk, mh, ms, keys⟩ = false from by unfold au; simp [hs, hms])
     go_wp2_with fail
     go_ret
     exact ⟨rt1 (bu HF.o.symm), HB1.o⟩
   ·rw [show (!decide (mh = z32)) = true by simp [hmz]]
    have HF := Lh (show au ⟨1, seq, kh, kk, mh, ms, keys⟩ = false from by unfold au; simp [hs, hmz])
    go_wp2_with fail
    go_ret
    exact ⟨rt1 (bu HF.o.symm), HB1.o⟩
  ·have hse : (seq != 0) = true := by simp [hs]
   have HF := Lh (show au ⟨1, seq, kh, kk, mh, ms, keys⟩ = false from by unfold au; simp [hs])
   go_wp2_with fail
   go_ret
   exact ⟨rt1 (bu HF.o.symm), HB1.o⟩
 by_cases k2 : kind = 2
 ·subst k2
  by_cases hs0 : 0 ≤ seq
  ·by_cases hs1 : seq ≤ 1099511627776
   ·have HSQ := Lh (show ∀ a b c d ks, pk ⟨2, seq, a, b, c, d, ks⟩ = true from fun _ _ _ _ _ => decide_eq_true ⟨hs0, hs1⟩)
    have hsd : decide ((1099511627776 : Int) < seq) = false := by simp; omega
    clear hs1
    go_wp2_with (refine ai (some 37) rfl ?_)
    refine Stop.go (ar 1 _ _ _ (fun Q' hQ' => ?_))
    simp only [T1, T0]
    go_wp2_with fail
    try simp only [dr1, dr0]
    refine Stop.go (aa rfl 34 rfl rfl ba.ut rfl (al _ _ hk) HR1.o.key_ ?_)
    cases hok : kOk kk
    ·have HOK := Lh hok
     have HF := Lh (show au ⟨2, seq, kh, kk, mh, ms, keys⟩ = false from by unfold au; simp [HSQ.o, hok])
     go_wp2_with (first | (go_at_call 53; refine (jj kh kk _ hk).mono ?_; rintro e w2 ⟨rfl, hb2⟩; rw [HOK.o]; have d67 := (HR1.o.later hb2).size_; have d68 := (HR1.o.later hb2).keys_))
     go_ret
     exact ⟨rt1 (bu HF.o.symm), HB1.o.trans (hb2.mono HB1.o.size)⟩
    ·have HOK := Lh hok
     by_cases hm0 : 0 ≤ ms
     ·by_cases hm1 : ms ≤ 1048576
      ·have HMK := Lh (show ∀ s a b c ks, lr ⟨2, s, a, b, c, ms, ks⟩ = true from fun _ _ _ _ _ => decide_eq_true ⟨hm0, hm1⟩)
       have hmd : decide ((1048576 : Int) < ms) = false := by simp; omega
       clear hm1
       by_cases hn : n = 0
       ·have hke : keys = [] := List.eq_nil_of_length_eq_zero (by rw [← N1.o]; exact hn)
        have HF := Lh (show au ⟨2, seq, kh, kk, mh, ms, keys⟩ = true from by unfold au; simp [HSQ.o, hok, HMK.o, hke])
        go_wp2_with (first | (go_at_call 53; refine (jj kh kk _ hk).mono ?_; rintro e w2 ⟨rfl, hb2⟩; rw [HOK.o]; have d67 := (HR1.o.later hb2).size_; have d68 := (HR1.o.later hb2).keys_))
        go_ret
        exact ⟨rt1 (bu HF.o.symm), HB1.o.trans (hb2.mono HB1.o.size)⟩
       ·have hke : keys ≠ [] := fun h => hn (by rw [N1.o, h]; rfl)
        have hne : ((n : Int) == 0) = false := by rw [beq_eq_false_iff_ne]; omega
        have HF := Lh (show au ⟨2, seq, kh, kk, mh, ms, keys⟩ = false from by unfold au; simp [HSQ.o, hok, HMK.o, hke])
        go_wp2_with (first | (go_at_call 53; refine (jj kh kk _ hk).mono ?_; rintro e w2 ⟨rfl, hb2⟩; rw [HOK.o]; have d67 := (HR1.o.later hb2).size_; have d68 := (HR1.o.later hb2).keys_))
        go_ret
        exact ⟨rt1 (bu HF.o.symm), HB1.o.trans (hb2.mono HB1.o.size)⟩
      ·have HMK := Lh (show ∀ s a b c ks, lr ⟨2, s, a, b, c, ms, ks⟩ = false from fun _ _ _ _ _ => decide_eq_false (fun h => hm1 h.2))
       have hmd : decide ((1048576 : Int) < ms) = true := by simp; omega
       clear hm1
       have HF := Lh (show au ⟨2, seq, kh, kk, mh, ms, keys⟩ = false from by unfold au; simp [HSQ.o, hok, HMK.o])
       go_wp2_with (first | (go_at_call 53; refine (jj kh kk _ hk).mono ?_; rintro e w2 ⟨rfl, hb2⟩; rw [HOK.o]; have d67 := (HR1.o.later hb2).size_; have d68 := (HR1.o.later hb2).keys_))
       go_ret
       exact ⟨rt1 (bu HF.o.symm), HB1.o.trans (hb2.mono HB1.o.size)⟩
     ·have HMK := Lh (show ∀ s a b c ks, lr ⟨2, s, a, b, c, ms, ks⟩ = false from fun _ _ _ _ _ => decide_eq_false (fun h => hm0 h.1))
      have HF := Lh (show au ⟨2, seq, kh, kk, mh, ms, keys⟩ = false from by unfold au; simp [HSQ.o, hok, HMK.o])
      go_wp2_with (first | (go_at_call 53; refine (jj kh kk _ hk).mono ?_; rintro e w2 ⟨rfl, hb2⟩; rw [HOK.o]; have d67 := (HR1.o.later hb2).size_; have d68 := (HR1.o.later hb2).keys_))
      go_ret
      exact ⟨rt1 (bu HF.o.symm), HB1.o.trans (hb2.mono HB1.o.size)⟩
   ·have HSQ := Lh (show ∀ a b c d ks, pk ⟨2, seq, a, b, c, d, ks⟩ = false from fun _ _ _ _ _ => decide_eq_false (fun h => hs1 h.2))
    have hsd : decide ((1099511627776 : Int) < seq) = true := by simp; omega
    clear hs1
    have HF := Lh (show au ⟨2, seq, kh, kk, mh, ms, keys⟩ = false from by unfold au; simp [HSQ.o])
    go_wp2_with fail
    go_ret
    exact ⟨rt1 (bu HF.o.symm), HB1.o⟩
  ·have HSQ := Lh (show ∀ a b c d ks, pk ⟨2, seq, a, b, c, d, ks⟩ = false from fun _ _ _ _ _ => decide_eq_false (fun h => hs0 h.1))
   have HF := Lh (show au ⟨2, seq, kh, kk, mh, ms, keys⟩ = false from by unfold au; simp [HSQ.o])
   go_wp2_with fail
   go_ret
   exact ⟨rt1 (bu HF.o.symm), HB1.o⟩
 by_cases k3 : kind = 3
 ·subst k3
  by_cases hs0 : 0 ≤ seq
  ·by_cases hs1 : seq ≤ 1099511627776
   ·have HSQ := Lh (show ∀ a b c d ks, pk ⟨3, seq, a, b, c, d, ks⟩ = true from fun _ _ _ _ _ => decide_eq_true ⟨hs0, hs1⟩)
    have hsd : decide ((1099511627776 : Int) < seq) = false := by simp; omega
    clear hs1
    go_wp2_with (refine ai (some 51) rfl ?_)
    refine Stop.go (ar 1 _ _ _ (fun Q' hQ' => ?_))
    simp only [T1, T0]
    go_wp2_with fail
    try simp only [dr1, dr0]
    refine Stop.go (aa rfl 32 rfl rfl fz.ua rfl (gk _ hm) HR1.o.hash_ ?_)
    refine aa rfl 32 rfl rfl fz.ua rfl (gk z32 rfl) (aq HG2.o) ?_
    refine ei rfl .neq 32 rfl rfl rfl (nb fz.gd ..) (th fz hm rfl) ?_
    by_cases hmz : mh = z32
    ·rw [show (!decide (mh = z32)) = false by simp [hmz]]
     by_cases hms : ms = 0
     ·have hmse : (ms != 0) = false := by simp [hms]
      go_wp2_with (refine ai (some 71) rfl ?_)
      refine Stop.go (ar 7 _ _ _ (fun Q' hQ' => ?_))
      simp only [T1, T0]
      go_wp2_with fail
      try simp only [dr1, dr0]
      refine Stop.go (aw (by rfl) 34 rfl rfl ba.ut rfl (al _ _ hk) HR1.o.key_ ?_)
      refine aw (by rfl) 34 rfl rfl ba.ut rfl (al z32 0 rfl) (aq HG1.o) ?_
      refine ln (by rfl) .neq 34 rfl rfl rfl (ez ba.gd ..) (js ba hk rfl) ?_
      by_cases hkz : kh = z32 ∧ kk = 0
      ·rw [show (!(decide (kh = z32) && decide (kk = 0))) = false by simp [hkz.1, hkz.2]]
       by_cases hn : n = 0
       ·have hke : keys = [] := List.eq_nil_of_length_eq_zero (by rw [← N1.o]; exact hn)
        have HF := Lh (show au ⟨3, seq, kh, kk, mh, ms, keys⟩ = true from by unfold au; simp [HSQ.o, hmz, hms, hkz.1, hkz.2, hke])
        go_wp2_with fail
        go_ret
        exact ⟨rt1 (bu HF.o.symm), HB1.o⟩
       ·have hke : keys ≠ [] := fun h => hn (by rw [N1.o, h]; rfl)
        have hne : ((n : Int) == 0) = false := by rw [beq_eq_false_iff_ne]; omega
        have HF := Lh (show au ⟨3, seq, kh, kk, mh, ms, keys⟩ = false from by unfold au; simp [HSQ.o, hmz, hms, hkz.1, hkz.2, hke])
        go_wp2_with fail
        go_ret
        exact ⟨rt1 (bu HF.o.symm), HB1.o⟩
      ·rw [show (!(decide (kh = z32) && decide (kk = 0))) = true by by_cases h1 : kh = z32 <;> by_cases h2 : kk = 0 <;> simp_all]
       have hkz' : ¬ (kh = z32 ∧ kk = 0) := hkz
       have HF := Lh (show au ⟨3, seq, kh, kk, mh, ms, keys⟩ = false from by unfold au; simp [HSQ.o, hmz, hms, hkz'])
       go_wp2_with fail
       go_ret
       exact ⟨rt1 (bu HF.o.symm), HB1.o⟩
     ·have hmse : (ms != 0) = true := by simp [hms]
      have HF := Lh (show au ⟨3, seq, kh, kk, mh, ms, keys⟩ = false from by unfold au; simp [HSQ.o, hms])
      go_wp2_with fail
      go_ret
      exact ⟨rt1 (bu HF.o.symm), HB1.o⟩
    ·rw [show (!decide (mh = z32)) = true by simp [hmz]]
     have HF := Lh (show au ⟨3, seq, kh, kk, mh, ms, keys⟩ = false from by unfold au; simp [HSQ.o, hmz])
     go_wp2_with fail
     go_ret
     exact ⟨rt1 (bu HF.o.symm), HB1.o⟩
   ·have HSQ := Lh (show ∀ a b c d ks, pk ⟨3, seq, a, b, c, d, ks⟩ = false from fun _ _ _ _ _ => decide_eq_false (fun h => hs1 h.2))
    have hsd : decide ((1099511627776 : Int) < seq) = true := by simp; omega
    clear hs1
    have HF := Lh (show au ⟨3, seq, kh, kk, mh, ms, keys⟩ = false from by unfold au; simp [HSQ.o])
    go_wp2_with fail
    go_ret
    exact ⟨rt1 (bu HF.o.symm), HB1.o⟩
  ·have HSQ := Lh (show ∀ a b c d ks, pk ⟨3, seq, a, b, c, d, ks⟩ = false from fun _ _ _ _ _ => decide_eq_false (fun h => hs0 h.1))
   have HF := Lh (show au ⟨3, seq, kh, kk, mh, ms, keys⟩ = false from by unfold au; simp [HSQ.o])
   go_wp2_with fail
   go_ret
   exact ⟨rt1 (bu HF.o.symm), HB1.o⟩
 by_cases k4 : kind = 4
 ·subst k4
  by_cases hs : seq = 0
  ·have hse : (seq != 0) = false := by simp [hs]
   go_wp2_with (refine ai (some 37) rfl ?_)
   refine Stop.go (ar 1 _ _ _ (fun Q' hQ' => ?_))
   simp only [T1, T0]
   go_wp2_with fail
   try simp only [dr1, dr0]
   refine Stop.go (aa rfl 34 rfl rfl ba.ut rfl (al _ _ hk) HR1.o.key_ ?_)
   cases hok : kOk kk
   ·have HOK := Lh hok
    have HF := Lh (show au ⟨4, seq, kh, kk, mh, ms, keys⟩ = false from by unfold au; simp [hs, hok])
    go_wp2_with (first | (go_at_call 53; refine (jj kh kk _ hk).mono ?_; rintro e w2 ⟨rfl, hb2⟩; rw [HOK.o]; have d67 := (HR1.o.later hb2).size_; have d68 := (HR1.o.later hb2).keys_))
    go_ret
    exact ⟨rt1 (bu HF.o.symm), HB1.o.trans (hb2.mono HB1.o.size)⟩
   ·have HOK := Lh hok
    by_cases hm0 : 0 ≤ ms
    ·by_cases hm1 : ms ≤ 1048576
     ·have HMK := Lh (show ∀ s a b c ks, lr ⟨4, s, a, b, c, ms, ks⟩ = true from fun _ _ _ _ _ => decide_eq_true ⟨hm0, hm1⟩)
      have hmd : decide ((1048576 : Int) < ms) = false := by simp; omega
      clear hm1
      by_cases hn : n = 0
      ·have hke : keys = [] := List.eq_nil_of_length_eq_zero (by rw [← N1.o]; exact hn)
       have HF := Lh (show au ⟨4, seq, kh, kk, mh, ms, keys⟩ = true from by unfold au; simp [hs, hok, HMK.o, hke])
       go_wp2_with (first | (go_at_call 53; refine (jj kh kk _ hk).mono ?_; rintro e w2 ⟨rfl, hb2⟩; rw [HOK.o]; have d67 := (HR1.o.later hb2).size_; have d68 := (HR1.o.later hb2).keys_))
       go_ret
       exact ⟨rt1 (bu HF.o.symm), HB1.o.trans (hb2.mono HB1.o.size)⟩
      ·have hke : keys ≠ [] := fun h => hn (by rw [N1.o, h]; rfl)
       have hne : ((n : Int) == 0) = false := by rw [beq_eq_false_iff_ne]; omega
       have HF := Lh (show au ⟨4, seq, kh, kk, mh, ms, keys⟩ = false from by unfold au; simp [hs, hok, HMK.o, hke])
       go_wp2_with (first | (go_at_call 53; refine (jj kh kk _ hk).mono ?_; rintro e w2 ⟨rfl, hb2⟩; rw [HOK.o]; have d67 := (HR1.o.later hb2).size_; have d68 := (HR1.o.later hb2).keys_))
       go_ret
       exact ⟨rt1 (bu HF.o.symm), HB1.o.trans (hb2.mono HB1.o.size)⟩
     ·have HMK := Lh (show ∀ s a b c ks, lr ⟨4, s, a, b, c, ms, ks⟩ = false from fun _ _ _ _ _ => decide_eq_false (fun h => hm1 h.2))
      have hmd : decide ((1048576 : Int) < ms) = true := by simp; omega
      clear hm1
      have HF := Lh (show au ⟨4, seq, kh, kk, mh, ms, keys⟩ = false from by unfold au; simp [hs, hok, HMK.o])
      go_wp2_with (first | (go_at_call 53; refine (jj kh kk _ hk).mono ?_; rintro e w2 ⟨rfl, hb2⟩; rw [HOK.o]; have d67 := (HR1.o.later hb2).size_; have d68 := (HR1.o.later hb2).keys_))
      go_ret
      exact ⟨rt1 (bu HF.o.symm), HB1.o.trans (hb2.mono HB1.o.size)⟩
    ·have HMK := Lh (show ∀ s a b c ks, lr ⟨4, s, a, b, c, ms, ks⟩ = false from fun _ _ _ _ _ => decide_eq_false (fun h => hm0 h.1))
     have HF := Lh (show au ⟨4, seq, kh, kk, mh, ms, keys⟩ = false from by unfold au; simp [hs, hok, HMK.o])
     go_wp2_with (first | (go_at_call 53; refine (jj kh kk _ hk).mono ?_; rintro e w2 ⟨rfl, hb2⟩; rw [HOK.o]; have d67 := (HR1.o.later hb2).size_; have d68 := (HR1.o.later hb2).keys_))
     go_ret
     exact ⟨rt1 (bu HF.o.symm), HB1.o.trans (hb2.mono HB1.o.size)⟩
  ·have hse : (seq != 0) = true := by simp [hs]
   have HF := Lh (show au ⟨4, seq, kh, kk, mh, ms, keys⟩ = false from by unfold au; simp [hs])
   go_wp2_with fail
   go_ret
   exact ⟨rt1 (bu HF.o.symm), HB1.o⟩
 by_cases k5 : kind = 5
 ·subst k5
  by_cases hs : seq = 0
  ·have hse : (seq != 0) = false := by simp [hs]
   go_wp2_with (refine ai (some 51) rfl ?_)
   refine Stop.go (ar 1 _ _ _ (fun Q' hQ' => ?_))
   simp only [T1, T0]
   go_wp2_with fail
   try simp only [dr1, dr0]
   refine Stop.go (aa rfl 32 rfl rfl fz.ua rfl (gk _ hm) HR1.o.hash_ ?_)
   refine aa rfl 32 rfl rfl fz.ua rfl (gk z32 rfl) (aq HG2.o) ?_
   refine ei rfl .neq 32 rfl rfl rfl (nb fz.gd ..) (th fz hm rfl) ?_
   by_cases hmz : mh = z32
   ·rw [show (!decide (mh = z32)) = false by simp [hmz]]
    by_cases hms : ms = 0
    ·have hmse : (ms != 0) = false := by simp [hms]
     go_wp2_with (refine ai (some 66) rfl ?_)
     refine Stop.go (ar 1 _ _ _ (fun Q' hQ' => ?_))
     simp only [T1, T0]
     go_wp2_with fail
     try simp only [dr1, dr0]
     refine Stop.go (aa rfl 34 rfl rfl ba.ut rfl (al _ _ hk) HR1.o.key_ ?_)
     cases hok : kOk kk
     ·have HOK := Lh hok
      have HF := Lh (show au ⟨5, seq, kh, kk, mh, ms, keys⟩ = false from by unfold au; simp [hs, hmz, hms, hok])
      go_wp2_with (first | (go_at_call 53; refine (jj kh kk _ hk).mono ?_; rintro e w2 ⟨rfl, hb2⟩; rw [HOK.o]; have d67 := (HR1.o.later hb2).size_; have d68 := (HR1.o.later hb2).keys_))
      go_ret
      exact ⟨rt1 (bu HF.o.symm), HB1.o.trans (hb2.mono HB1.o.size)⟩
     ·have HOK := Lh hok
      by_cases hn : n = 0
      ·have hke : keys = [] := List.eq_nil_of_length_eq_zero (by rw [← N1.o]; exact hn)
       have HF := Lh (show au ⟨5, seq, kh, kk, mh, ms, keys⟩ = true from by unfold au; simp [hs, hmz, hms, hok, hke])
       go_wp2_with (first | (go_at_call 53; refine (jj kh kk _ hk).mono ?_; rintro e w2 ⟨rfl, hb2⟩; rw [HOK.o]; have d67 := (HR1.o.later hb2).size_; have d68 := (HR1.o.later hb2).keys_))
       go_ret
       exact ⟨rt1 (bu HF.o.symm), HB1.o.trans (hb2.mono HB1.o.size)⟩
      ·have hke : keys ≠ [] := fun h => hn (by rw [N1.o, h]; rfl)
       have hne : ((n : Int) == 0) = false := by rw [beq_eq_false_iff_ne]; omega
       have HF := Lh (show au ⟨5, seq, kh, kk, mh, ms, keys⟩ = false from by unfold au; simp [hs, hmz, hms, hok, hke])
       go_wp2_with (first | (go_at_call 53; refine (jj kh kk _ hk).mono ?_; rintro e w2 ⟨rfl, hb2⟩; rw [HOK.o]; have d67 := (HR1.o.later hb2).size_; have d68 := (HR1.o.later hb2).keys_))
       go_ret
       exact ⟨rt1 (bu HF.o.symm), HB1.o.trans (hb2.mono HB1.o.size)⟩
    ·have hmse : (ms != 0) = true := by simp [hms]
     have HF := Lh (show au ⟨5, seq, kh, kk, mh, ms, keys⟩ = false from by unfold au; simp [hs, hms])
     go_wp2_with fail
     go_ret
     exact ⟨rt1 (bu HF.o.symm), HB1.o⟩
   ·rw [show (!decide (mh = z32)) = true by simp [hmz]]
    have HF := Lh (show au ⟨5, seq, kh, kk, mh, ms, keys⟩ = false from by unfold au; simp [hs, hmz])
    go_wp2_with fail
    go_ret
    exact ⟨rt1 (bu HF.o.symm), HB1.o⟩
  ·have hse : (seq != 0) = true := by simp [hs]
   have HF := Lh (show au ⟨5, seq, kh, kk, mh, ms, keys⟩ = false from by unfold au; simp [hs])
   go_wp2_with fail
   go_ret
   exact ⟨rt1 (bu HF.o.symm), HB1.o⟩
 by_cases k6 : kind = 6
 ·subst k6
  by_cases hs : seq = 0
  ·have hse : (seq != 0) = false := by simp [hs]
   go_wp2_with (refine ai (some 51) rfl ?_)
   refine Stop.go (ar 1 _ _ _ (fun Q' hQ' => ?_))
   simp only [T1, T0]
   go_wp2_with fail
   try simp only [dr1, dr0]
   refine Stop.go (aa rfl 32 rfl rfl fz.ua rfl (gk _ hm) HR1.o.hash_ ?_)
   refine aa rfl 32 rfl rfl fz.ua rfl (gk z32 rfl) (aq HG2.o) ?_
   refine ei rfl .neq 32 rfl rfl rfl (nb fz.gd ..) (th fz hm rfl) ?_
   by_cases hmz : mh = z32
   ·rw [show (!decide (mh = z32)) = false by simp [hmz]]
    by_cases hms : ms = 0
    ·have hmse : (ms != 0) = false := by simp [hms]
     go_wp2_with (refine ai (some 66) rfl ?_)
     refine Stop.go (ar 1 _ _ _ (fun Q' hQ' => ?_))
     simp only [T1, T0]
     go_wp2_with fail
     try simp only [dr1, dr0]
     refine Stop.go (aa rfl 34 rfl rfl ba.ut rfl (al _ _ hk) HR1.o.key_ ?_)
     cases hok : kOk kk
     ·have HOK := Lh hok
      have HF := Lh (show au ⟨6, seq, kh, kk, mh, ms, keys⟩ = false from by unfold au; simp [hs, hmz, hms, hok])
      go_wp2_with (first | (go_at_call 53; refine (jj kh kk _ hk).mono ?_; rintro e w2 ⟨rfl, hb2⟩; rw [HOK.o]; have d67 := (HR1.o.later hb2).size_; have d68 := (HR1.o.later hb2).keys_))
      go_ret
      exact ⟨rt1 (bu HF.o.symm), HB1.o.trans (hb2.mono HB1.o.size)⟩
     ·have HOK := Lh hok
      by_cases hn : n = 0
      ·have hke : keys = [] := List.eq_nil_of_length_eq_zero (by rw [← N1.o]; exact hn)
       have HF := Lh (show au ⟨6, seq, kh, kk, mh, ms, keys⟩ = true from by unfold au; simp [hs, hmz, hms, hok, hke])
       go_wp2_with (first | (go_at_call 53; refine (jj kh kk _ hk).mono ?_; rintro e w2 ⟨rfl, hb2⟩; rw [HOK.o]; have d67 := (HR1.o.later hb2).size_; have d68 := (HR1.o.later hb2).keys_))
       go_ret
       exact ⟨rt1 (bu HF.o.symm), HB1.o.trans (hb2.mono HB1.o.size)⟩
      ·have hke : keys ≠ [] := fun h => hn (by rw [N1.o, h]; rfl)
       have hne : ((n : Int) == 0) = false := by rw [beq_eq_false_iff_ne]; omega
       have HF := Lh (show au ⟨6, seq, kh, kk, mh, ms, keys⟩ = false from by unfold au; simp [hs, hmz, hms, hok, hke])
       go_wp2_with (first | (go_at_call 53; refine (jj kh kk _ hk).mono ?_; rintro e w2 ⟨rfl, hb2⟩; rw [HOK.o]; have d67 := (HR1.o.later hb2).size_; have d68 := (HR1.o.later hb2).keys_))
       go_ret
       exact ⟨rt1 (bu HF.o.symm), HB1.o.trans (hb2.mono HB1.o.size)⟩
    ·have hmse : (ms != 0) = true := by simp [hms]
     have HF := Lh (show au ⟨6, seq, kh, kk, mh, ms, keys⟩ = false from by unfold au; simp [hs, hms])
     go_wp2_with fail
     go_ret
     exact ⟨rt1 (bu HF.o.symm), HB1.o⟩
   ·rw [show (!decide (mh = z32)) = true by simp [hmz]]
    have HF := Lh (show au ⟨6, seq, kh, kk, mh, ms, keys⟩ = false from by unfold au; simp [hs, hmz])
    go_wp2_with fail
    go_ret
    exact ⟨rt1 (bu HF.o.symm), HB1.o⟩
  ·have hse : (seq != 0) = true := by simp [hs]
   have HF := Lh (show au ⟨6, seq, kh, kk, mh, ms, keys⟩ = false from by unfold au; simp [hs])
   go_wp2_with fail
   go_ret
   exact ⟨rt1 (bu HF.o.symm), HB1.o⟩
 by_cases k7 : kind = 7
 ·subst k7
  by_cases hs : seq = 0
  ·have hse : (seq != 0) = false := by simp [hs]
   go_wp2_with (refine ai (some 51) rfl ?_)
   refine Stop.go (ar 1 _ _ _ (fun Q' hQ' => ?_))
   simp only [T1, T0]
   go_wp2_with fail
   try simp only [dr1, dr0]
   refine Stop.go (aa rfl 32 rfl rfl fz.ua rfl (gk _ hm) HR1.o.hash_ ?_)
   refine aa rfl 32 rfl rfl fz.ua rfl (gk z32 rfl) (aq HG2.o) ?_
   refine ei rfl .neq 32 rfl rfl rfl (nb fz.gd ..) (th fz hm rfl) ?_
   by_cases hmz : mh = z32
   ·rw [show (!decide (mh = z32)) = false by simp [hmz]]
    by_cases hms : ms = 0
    ·have hmse : (ms != 0) = false := by simp [hms]
     go_wp2_with (refine ai (some 71) rfl ?_)
     refine Stop.go (ar 7 _ _ _ (fun Q' hQ' => ?_))
     simp only [T1, T0]
     go_wp2_with fail
     try simp only [dr1, dr0]
     refine Stop.go (aw (by rfl) 34 rfl rfl ba.ut rfl (al _ _ hk) HR1.o.key_ ?_)
     refine aw (by rfl) 34 rfl rfl ba.ut rfl (al z32 0 rfl) (aq HG1.o) ?_
     refine ln (by rfl) .neq 34 rfl rfl rfl (ez ba.gd ..) (js ba hk rfl) ?_
     by_cases hkz : kh = z32 ∧ kk = 0
     ·rw [show (!(decide (kh = z32) && decide (kk = 0))) = false by simp [hkz.1, hkz.2]]
      have HF := Lh (show au ⟨7, seq, kh, kk, mh, ms, keys⟩ = fl keys from by unfold au; simp [hs, hmz, hms, hkz.1, hkz.2])
      go_wp2_with (first | (go_at_call 54; refine (qha A c B n keys _ HK.o (Nat.le_trans HBW.o HB1.o.size)).mono ?_; rintro e w2 ⟨rfl, hb2⟩))
      go_ret
      exact ⟨rt1 (bu HF.o.symm), HB1.o.trans (hb2.mono HB1.o.size)⟩
     ·rw [show (!(decide (kh = z32) && decide (kk = 0))) = true by by_cases h1 : kh = z32 <;> by_cases h2 : kk = 0 <;> simp_all]
      have hkz' : ¬ (kh = z32 ∧ kk = 0) := hkz
      have HF := Lh (show au ⟨7, seq, kh, kk, mh, ms, keys⟩ = false from by unfold au; simp [hs, hmz, hms, hkz'])
      go_wp2_with fail
      go_ret
      exact ⟨rt1 (bu HF.o.symm), HB1.o⟩
    ·have hmse : (ms != 0) = true := by simp [hms]
     have HF := Lh (show au ⟨7, seq, kh, kk, mh, ms, keys⟩ = false from by unfold au; simp [hs, hms])
     go_wp2_with fail
     go_ret
     exact ⟨rt1 (bu HF.o.symm), HB1.o⟩
   ·rw [show (!decide (mh = z32)) = true by simp [hmz]]
    have HF := Lh (show au ⟨7, seq, kh, kk, mh, ms, keys⟩ = false from by unfold au; simp [hs, hmz])
    go_wp2_with fail
    go_ret
    exact ⟨rt1 (bu HF.o.symm), HB1.o⟩
  ·have hse : (seq != 0) = true := by simp [hs]
   have HF := Lh (show au ⟨7, seq, kh, kk, mh, ms, keys⟩ = false from by unfold au; simp [hs])
   go_wp2_with fail
   go_ret
   exact ⟨rt1 (bu HF.o.symm), HB1.o⟩
 have HF := Lh (show au ⟨kind, seq, kh, kk, mh, ms, keys⟩ = false from by
  have : ¬ (1 ≤ kind ∧ kind ≤ 7) := by omega
  unfold au
  simp [this])
 by_cases hl : kind < 1
 ·go_wp2_with fail
  go_ret
  exact ⟨rt1 (bu HF.o.symm), HB1.o⟩
 ·have hg : 7 < kind := by omega
  go_wp2_with fail
  go_ret
  exact ⟨rt1 (bu HF.o.symm), HB1.o⟩

def keyB (k : KeyD) : List UInt8 := k.1 ++ [UInt8.ofNat k.2.toNat]
theorem qq (g : Nat) (l h : List UInt8) (k : Int) (w : World) (hw : WrR w g l) (hh : h.length = 32) (hk : kOk k = true) (hl : l.length ≤ 1048576) :
  Calls Tryz.prog 85 #[.pointer (some ⟨g, 0, none⟩), hkv h k] w fun e w' => e = .returned (.tuple #[]) ∧ WrR w' g (l ++ keyB (h, k)) ∧ Keep g w w' := by
 have hkk : 1 ≤ k ∧ k ≤ 4 := by unfold kOk at hk; simpa using hk
 obtain ⟨x, rfl⟩ : ∃ x : Nat, k = x := ⟨k.toNat, by omega⟩
 have HH := Lh hh
 have HB1 := Lh ((br _ _).alloc (nr _) (.cells (af h x).toArray 34) : Below w.heap.size w _)
 have HG1 := Lh (hzn w (.cells (af h x).toArray 34))
 have HW1 := Lh (hw.later HB1.o)
 have HGW := Lh hw.lt
 have hs1 : (w.alloc (.cells (af h x).toArray 34)).heap.size = w.heap.size + 1 := Array.size_push _
 have HS1 := Lh hs1
 clear hw hh hk hs1
 go_enter Tryz.func85, Tryz.ntmps85
 go_wp2_with (refine ai (some 3) rfl ?_)
 refine Stop.go (bn rfl _ rfl rfl (dl h x) ?_)
 generalize w.alloc (.cells (af h x).toArray 34) = w1 at *
 go_wp2_with fail
 have hb2 : Below w1.heap.size w1 (w1.alloc (.cells #[.slice (some ⟨w.heap.size, 0, none⟩) 32 32] 44)) := (br _ _).alloc (nr _) _
 have hrd : Rd w1 (w.heap.size + 1) (some ⟨w.heap.size, 0, none⟩) (ak h) := by
  have := Rd.row (B := w.heap.size + 1) HG1.o (by omega)
  exact qdm (k := (x : Int)) (by simpa using this)
 refine (qaa g w1.heap.size 0 1 l h (some ⟨w.heap.size, 0, none⟩) 32 (w.heap.size + 1) _ (HW1.o.later hb2) (by rw [HH.o]; exact ri w1 _ _) (hrd.below (hb2.mono (by rw [HS1.o]; exact nr _))) (by rw [← HS1.o]; exact hb2.size) (by omega) (by rw [HH.o]; decide)).mono ?_
 rintro e w3 ⟨rfl, hw3, hk3⟩
 have HG3 := Lh (hk3.other w.heap.size _ _ _ (Nat.ne_of_gt HGW.o) (by decide) ((hb2.block _ (gl HG1.o)).trans HG1.o))
 have HW3 := Lh hw3
 have HK3 := Lh (((Keep.of_below HB1.o (Nat.le_of_lt HGW.o)).trans (Keep.of_below hb2 (Nat.le_trans (Nat.le_of_lt HGW.o) HB1.o.size))).trans hk3)
 have c32 : w3.cell? ⟨w.heap.size, 32, none⟩ = some (.int .i64 x) := by
  rw [cell_of_row _ _ _ _ _ _ HG3.o, ← Array.getElem?_toList]
  exact gb h x HH.o
 clear hw3 hk3 hb2 hrd
 obtain ⟨h1, h4⟩ := hkk
 go_wp2_with fail
 refine (py g 1 x (l ++ h) _ HW3.o (by decide) (by decide) (by omega) (by rw [List.length_append, HH.o]; omega)).mono ?_
 rintro e w4 ⟨rfl, hw4, hk4⟩
 go_wp2_with fail
 go_end0
 refine ⟨rfl, ?_, HK3.o.trans hk4⟩
 rw [pi x (by omega), List.append_assoc] at hw4
 exact hw4
end Go.Proofs.YtplbcbamnjnhlaaGreatDoor
