/- Texts of this proof joined: Touch5, Touch6, Touch7, Touch8. -/
import Derived.Test.YtplbcbamnjnhlaaGreatDoorMT00
import Derived.Test.YtplbcbamnjnhlaaGreatDoorMT37
import Derived.Test.YtplbcbamnjnhlaaGreatDoorMT26
import Derived.Test.YtplbcbamnjnhlaaGreatDoorMT29
import Derived.Test.YtplbcbamnjnhlaaGreatDoorMT36
set_option maxRecDepth 100000
set_option maxHeartbeats 40000000
namespace Go.Proofs.YtplbcbamnjnhlaaGreatDoor
open Go.RowKit

def kl (d : Nat → Bool) (j : Nat) : List Nat := (List.range j).filter fun i => !d i
theorem pz (d : Nat → Bool) (j : Nat) : kl d (j + 1) = kl d j ++ if d j then [] else [j] := by
 unfold kl
 rw [List.range_succ, List.filter_append]
 congr 1
 cases h : d j <;> simp [h]
theorem qrj (d : Nat → Bool) (j : Nat) : (kl d j).length ≤ j := by
 unfold kl
 have := List.length_filter_le (fun i => !d i) (List.range j)
 simpa using this
theorem qow {d : Nat → Bool} : ∀ {j : Nat}, (∀ i, i < j → d i = false) → kl d j = List.range j
 |0, _ => rfl
 |j + 1, h => by
  rw [pz, qow fun i hi => h i (by omega), h j (by omega), List.range_succ]
  rfl
theorem kl_lt {d : Nat → Bool} {i j : Nat} (hi : d i = true) (hij : i < j) : (kl d j).length < j := by
 induction j with
 |zero => omega
 |succ j ih =>
  rw [pz, List.length_append]
  by_cases h : i = j
  ·subst h
   have := qrj d i
   rw [hi]
   simp
   omega
  ·have := ih (by omega)
   cases d j <;> simp <;> omega
structure Two (p q : Nat) (w w' : World) : Prop where
 os : w'.os = w.os
 tape : w'.tape = w.tape
 output : w'.output = w.output
 size : w.heap.size ≤ w'.heap.size
 block : ∀ k, k < w.heap.size → k ≠ p → k ≠ q → w'.heap[k]? = w.heap[k]?
theorem Two.of {p q : Nat} {w w' : World} (h : w.grownBy w' (some q)) : Two p q w w' := ⟨h.os, h.tape, h.output, h.size, fun k hk _ hn => h.block k hk (fun e => hn (by injection e))⟩
theorem Two.ofp {p q : Nat} {w w' : World} (h : w.grownBy w' (some p)) : Two p q w w' := ⟨h.os, h.tape, h.output, h.size, fun k hk hn _ => h.block k hk (fun e => hn (by injection e))⟩
theorem Two.trans {p q : Nat} {a b c : World} (h : Two p q a b) (k : Two p q b c) : Two p q a c :=
 ⟨k.os.trans h.os, k.tape.trans h.tape, k.output.trans h.output, Nat.le_trans h.size k.size, fun i hi h1 h2 => (k.block i (Nat.lt_of_lt_of_le hi h.size) h1 h2).trans (h.block i hi h1 h2)⟩
theorem Two.below {p q : Nat} {a w w' : World} (h : Two p q a w) (hb : Below w.heap.size w w') : Two p q a w' :=
 h.trans ⟨hb.os, hb.tape, hb.output, hb.size, fun k hk _ _ => hb.block k hk⟩
theorem qbx (w : World) (p : Nat) (cs : Array Value) : w.grownBy (w.setRow p cs) (some p) := ⟨rfl, rfl, rfl, by rw [setRow_size]; exact nr _, fun k _ hn => setRow_other _ _ _ _ (fun e => hn (by rw [e]))⟩
def DelTo (n M p q c : Nat) (f : Nat → List Value) (d : Nat → Bool) (w : World) (e : Ending) (w' : World) : Prop :=
 ∃ xs, e = .returned (.slice (some ⟨p, 0, none⟩) (kl d n).length c) ∧ w'.ownsRow M 60 72 (.slice (some ⟨p, 0, none⟩) n c) n xs ∧ (∀ t (h : t < (kl d n).length), pc xs t = f ((kl d n)[t])) ∧ Two p q w w'
theorem qjw (F : Nat) (caps : List Value) (qn n M p c : Nat) (f : Nat → List Value) (xs : List Value) (d : Nat → Bool) (K : Nat → World → Prop) (w : World) (hF : ∀ (args : Array Value) (w' : World), (callFunc F args).run Tryz.prog w' = .ok (.enter F args) w')
  (hrow : w.ownsRow M 60 72 (.slice (some ⟨p, 0, none⟩) n c) n xs) (hf : ∀ j, j < n → pc xs j = f j ∧ (f j).length = 72 ∧ ∀ u ∈ f j, u.oneCell' = true) (hpq : p ≠ qn) (hqs : qn < w.heap.size) (hK : K 0 w)
  (hKb : ∀ j w1 w2, K j w1 → Below w1.heap.size w1 w2 → K j w2) (hKp : ∀ j w1 w2, K j w1 → w1.grownBy w2 (some p) → K j w2) (hd : DelOk F caps qn n f d K) :
  Calls Tryz.prog 47 #[.slice (some ⟨p, 0, none⟩) n c, .func (.func F) #[] caps.toArray] w (DelTo n M p qn c f d w) := by
 have HF := Lh hF
 have HR := Lh hrow
 have HX := Lh hf
 have HPQ := Lh hpq
 have HQS := Lh hqs
 have HK := Lh hK
 have HKB := Lh hKb
 have HKP := Lh hKp
 have HD := Lh hd
 have hcm : n ≤ c ∧ c ≤ 9223372036854775807 := by
  obtain ⟨_, _, e, h1, h2⟩ := ap hrow
  injection e with _ _ e
  simp only [maxLen] at h2
  omega
 clear hF hrow hf hpq hqs hK hKb hKp hd
 go_enter Tryz.func47, Tryz.ntmps47
 go_wp2_with fail
 refine (qml F caps qn n M p c f xs d K w HF.o HR.o (fun j hj => ⟨(HX.o j hj).1, (HX.o j hj).2.1⟩) HPQ.o HK.o HD.o).mono ?_
 rintro e w1 ⟨hg1, ⟨i, hi, hdi, hall, rfl, hk1⟩ | ⟨hall, rfl, hk1⟩⟩
 rotate_left
 ·have HX1 := Lh (show DelTo n M p qn c f d w (.returned (.slice (some ⟨p, 0, none⟩) n c)) w1 from by
   have hkl := qow hall
   have hlen : (kl d n).length = n := by rw [hkl, List.length_range]
   refine ⟨xs, by rw [hlen], HR.o.kept hg1 (.inr (by simp only [Value.ownBlock]; intro e; injection e with e; exact HPQ.o e)), fun t ht => ?_, Two.of hg1⟩
   have ht2 : t < n := by omega
   rw [(HX.o t ht2).1]
   congr 1
   simp [hkl])
  clear hg1 hall hk1
  go_wp2_with fail
  go_ret
  exact HX1.o
 have HR1 := Lh (HR.o.kept hg1 (.inr (by simp only [Value.ownBlock]; intro e; injection e with e; exact HPQ.o e)))
 have HT1 := Lh (show Two p qn w w1 from Two.of hg1)
 have HDI := Lh hdi
 have HKI := Lh (show kl d (i + 1) = List.range i by rw [pz, hdi, qow hall]; simp)
 have HK1 := Lh hk1
 clear hg1 hdi hall hk1 HR HK
 have hne : ((i : Int) == -1) = false := by rw [beq_eq_false_iff_ne]; omega
 go_wp2_with fail
 go_loopw [5, 6] (fun v5 v6 wr => ∃ (j : Nat) (ys : List Value), i + 1 ≤ j ∧ j ≤ n ∧ v5 = .int .i64 (kl d j).length ∧ v6 = .int .i64 j ∧ Hid (K j wr) ∧ Hid (wr.ownsRow M 60 72 (.slice (some ⟨p, 0, none⟩) n c) n ys) ∧
  Hid (∀ t (h : t < (kl d j).length), pc ys t = f ((kl d j)[t])) ∧ Hid (∀ t, j ≤ t → t < n → pc ys t = f t) ∧ Hid (Two p qn w wr)) (fun _ v6 _ => n - (intOf v6).toNat)
 case atStart =>
  refine ⟨i + 1, xs, nr _, by omega, ?_, by go_num, HK1.o, HR1.o, fun t ht => ?_, fun t _ ht2 => (HX.o t ht2).1, HT1.o⟩
  ·rw [HKI.o, List.length_range]
  ·have ht2 : t < i := by rw [HKI.o, List.length_range] at ht; exact ht
   rw [(HX.o t (by omega)).1]
   congr 1
   simp [HKI.o]
 case round =>
  clear HR1 HT1 HK1
  obtain ⟨j, ys, hij, hj, rfl, rfl, HK, HR, HY, HZ, HT⟩ := hrel
  obtain ⟨m, hm⟩ : ∃ m, m = (kl d j).length := ⟨_, rfl⟩
  have hmj : m < j := by rw [hm]; exact kl_lt HDI.o (by omega)
  rw [← hm]
  have HM := Lh hm
  clear hm
  by_cases hlt : j < n
  ·have HF9 := Lh (HX.o j hlt)
   have HC := Lh (yv HR.o hlt (HZ.o j (nr _) hlt))
   go_wp2_with (refine ai (some 25) rfl ?_)
   refine Stop.go (aa rfl 60 rfl rfl ev_u rfl (cs := f j) (xv HF9.o.2.1) HC.o ?_)
   refine av rfl 60 rfl qdf (vs := zev) rfl ?_
   refine ac rfl 60 rfl rfl rfl (ch (vs := f j) (g := wr.heap.size) rfl rfl (xv HF9.o.2.1) (by rw [List.size_toArray, HF9.o.2.1]; exact qde.symm) HF9.o.2.2) ?_
   have hb4 : Below wr.heap.size wr (wr.alloc (.cells (f j).toArray 60)) := (br _ _).alloc (nr _) _
   have HG4 := Lh (hzn wr (.cells (f j).toArray 60))
   have HK4 := Lh (HKB.o j _ _ HK.o hb4)
   have HR4 := Lh (bw HR.o hb4)
   have HT4 := Lh (HT.o.below hb4)
   have HPL := Lh (show p < wr.heap.size ∧ qn < wr.heap.size from ⟨(HR.o.lt p rfl).2, Nat.lt_of_lt_of_le HQS.o HT.o.size⟩)
   clear hb4 HC HK HR HT
   generalize wr.alloc (.cells (f j).toArray 60) = w4 at *
   obtain ⟨e0, he0⟩ : ∃ e0, e0 = wr.heap.size := ⟨_, rfl⟩
   rw [← he0] at HG4 HPL ⊢
   clear he0
   generalize ha : Act.put _ _ _ = z9; simp [Act.put] at ha; subst ha
   go_wp2_with (refine ai (some 27) rfl ?_)
   refine Stop.go (aa rfl 60 rfl rfl ev_u rfl (cs := f j) (xv HF9.o.2.1) (aq (vs := f j) HG4.o) ?_)
   generalize ha : Act.put _ _ _ = z9; simp [Act.put] at ha; subst ha
   go_wp2_with fail
   rw [HF.o]
   refine (HD.o j w4 hlt HK4.o).mono ?_
   rintro e w5 ⟨rfl, hk5, hg5⟩
   have HR5 := Lh (HR4.o.kept hg5 (.inr (by simp only [Value.ownBlock]; intro e; injection e with e; exact HPQ.o e)))
   have HE5 := Lh ((hg5.block e0 (gl HG4.o) (fun e => by injection e with e; have := HPL.o.2; omega)).trans HG4.o)
   have HT5 := Lh (HT4.o.trans (Two.of hg5))
   have HK5 := Lh hk5
   clear hg5 hk5 HR4 HG4 HT4 HK4
   cases hdj : d j
   ·have HS := Lh (show kl d (j + 1) = kl d j ++ [j] by rw [pz, hdj]; rfl)
    have HDJ := Lh hdj
    clear hdj
    go_wp2_with (refine ai (some 32) rfl ?_)
    refine Stop.go (aa rfl 60 rfl rfl ev_u rfl (cs := f j) (xv HF9.o.2.1) (aq (vs := f j) HE5.o) ?_)
    generalize ha : Act.put _ _ _ = z9; simp [Act.put] at ha; subst ha
    have hmn : m < n := by omega
    go_wp2_with (refine ai none rfl ?_)
    obtain ⟨cs, hst, hown⟩ := qtf HR5.o HF9.o.2.1 HF9.o.2.2 hmn
    refine Stop.go (ac rfl 60 rfl rfl rfl hst ?_)
    have hl5 := HR5.o.1
    have hml : m * 72 + 72 ≤ ys.length := by rw [hl5]; omega
    have HK6 := Lh (HKP.o (j + 1) _ _ HK5.o (qbx w5 p cs))
    have HT6 := Lh (HT5.o.trans (Two.ofp (qbx w5 p cs)))
    have HR6 := Lh hown
    have HY6 := Lh (show ∀ t (h : t < (kl d (j + 1)).length), pc (pl ys (f j) (m * 72)) t = f ((kl d (j + 1))[t]) from fun t ht => by
     have hlen : (kl d (j + 1)).length = m + 1 := by rw [HS.o, List.length_append, ← HM.o]; rfl
     by_cases e : t = m
     ·subst e
      rw [qll HF9.o.2.1 hml]
      congr 1
      simp only [HS.o]
      rw [List.getElem_append_right (by rw [← HM.o]; exact nr _)]
      simp [← HM.o]
     ·have htm : t < (kl d j).length := by rw [← HM.o]; omega
      rw [qac HF9.o.2.1 hml e, HY.o t htm]
      congr 1
      simp only [HS.o]
      rw [List.getElem_append_left htm])
    have HZ6 := Lh (show ∀ t, j + 1 ≤ t → t < n → pc (pl ys (f j) (m * 72)) t = f t from fun t h1 h2 => by
     rw [qac HF9.o.2.1 hml (by omega)]
     exact HZ.o t (by omega) h2)
    clear hst hown hl5 hml HK5 HT5 HR5 HE5
    generalize w5.setRow p cs = w6 at *
    generalize ha : Act.put _ _ _ = z9; simp [Act.put] at ha; subst ha
    go_wp2_with fail
    go_roundw
    case rel =>
     refine ⟨j + 1, _, by omega, by omega, ?_, by go_num, HK6, HR6, HY6, HZ6, HT6⟩
     rw [HS.o, List.length_append, ← HM.o]
     go_num
    case measure => simp [intOf]; omega
   ·have HS := Lh (show kl d (j + 1) = kl d j by rw [pz, hdj]; simp)
    have HDJ := Lh hdj
    clear hdj
    go_wp2_with fail
    go_roundw
    case rel =>
     refine ⟨j + 1, ys, by omega, by omega, ?_, by go_num, HK5, HR5, ?_, Lh (fun t h1 h2 => HZ.o t (by omega) h2), HT5⟩
     ·rw [HS.o, ← HM.o]
     ·have := HY.o
      rw [← HS.o] at this
      exact this
    case measure => simp [intOf]; omega
  ·have hjn : j = n := by omega
   subst hjn
   obtain ⟨cs, hcl, hown⟩ := clear_ev HR.o hmj
   have hb1 : m ≤ c := by omega
   have HW := Lh (show DelTo j M p qn c f d w (.returned (.slice (some ⟨p, 0, none⟩) m c)) (wr.setRow p cs) from
    ⟨_, by rw [← HM.o], hown, fun t ht => by
     rw [← HY.o t ht]
     exact pc_ext fun a ha => by
      rw [qbl (by rw [qkk, HR.o.1]; omega), if_pos (by rw [← HM.o] at ht; omega)], HT.o.trans (Two.ofp (qbx wr p cs))⟩)
   clear hown
   go_wp2_with fail
   go_ret
   exact HW.o

theorem qmk (F : Nat) (caps : List Value) (A : Option Addr) (c : Nat) (w : World) :
  Calls Tryz.prog 70 #[.slice A 0 c, .func (.func F) #[] caps.toArray] w fun e w' => e = .returned (.int .i64 (-1)) ∧ w' = w := by
 go_enter Tryz.func70, Tryz.ntmps70
 go_wp2_with fail
 go_loopw [8] (fun v8 wr => v8 = .int .i64 0 ∧ wr = w) (fun _ _ => 0)
 case atStart => exact ⟨rfl, rfl⟩
 case round =>
  obtain ⟨rfl, rfl⟩ := hrel
  go_wp2_with fail
  go_ret
  exact ⟨rfl, rfl⟩
theorem qjv (F : Nat) (caps : List Value) (A : Option Addr) (c : Nat) (w : World) :
  Calls Tryz.prog 47 #[.slice A 0 c, .func (.func F) #[] caps.toArray] w fun e w' => e = .returned (.slice A 0 c) ∧ w' = w := by
 go_enter Tryz.func47, Tryz.ntmps47
 go_wp2_with fail
 refine (qmk F caps A c w).mono ?_
 rintro e w1 ⟨rfl, rfl⟩
 go_wp2_with fail
 go_ret
 exact ⟨rfl, rfl⟩
theorem pc_flat {f : Nat → List Value} {n i : Nat} (hf : ∀ j, j < n → (f j).length = 72) (hi : i < n) : pc ((List.range n).flatMap f) i = f i := by
 have hl : ∀ m, m ≤ n → ((List.range m).flatMap f).length = m * 72 := fun m => by
  induction m with
  |zero => intro _; simp
  |succ m ih =>
   intro hm
   rw [List.range_succ, List.flatMap_append, List.length_append, ih (by omega), Nat.succ_mul]
   simp [hf m (by omega)]
 have key : ∀ k, i < k → k ≤ n → ((List.range k).flatMap f).take (i * 72 + 72) = (List.range i).flatMap f ++ f i := fun k => by
  induction k with
  |zero => intro h; omega
  |succ k ih =>
   intro h1 h2
   rw [List.range_succ, List.flatMap_append]
   by_cases e : i = k
   ·subst e
    rw [List.take_of_length_le]
    ·simp
    ·rw [List.length_append, hl i (by omega)]
     simp [hf i hi]
   ·have : i * 72 + 72 ≤ ((List.range k).flatMap f).length := by rw [hl k (by omega)]; omega
    rw [List.take_append_of_le_length this]
    exact ih (by omega) (by omega)
 unfold pc
 have h1 := key n hi (nr _)
 have h2 : (((List.range n).flatMap f).drop (i * 72)).take 72 = (((List.range n).flatMap f).take (i * 72 + 72)).drop (i * 72) := by rw [List.drop_take]; congr 1; omega
 rw [h2, h1, List.drop_append_of_le_length (by rw [hl i (by omega)]; exact nr _), List.drop_of_length_le (by rw [hl i (by omega)]; exact nr _), List.nil_append]
def evF (rs : List RecD) (us : Nat → Value) (j : Nat) : List Value := evc (evAt rs j) (rs.getD j dq) (us j) (bkAt az rs (j + 1)).live.length (bkAt az rs (j + 1)).pins.length
def qcb (l : List UInt8) (x : K32) (w : World) (e : Ending) (w' : World) : Prop :=
 ∃ rs n0 us A2 M A9 c9, jq l rs n0 ∧ e = .returned (.slice A9 (kl (stEq x rs) (nEv az rs)).length c9) ∧ (kl (stEq x rs) (nEv az rs)).length ≤ c9 ∧ c9 ≤ maxLen ∧
  (∀ t (h : t < (kl (stEq x rs) (nEv az rs)).length), ∃ p, A9 = some ⟨p, 0, none⟩ ∧ ∀ j u, (evF rs us ((kl (stEq x rs) (nEv az rs))[t]))[j]? = some u → w'.cell? ⟨p, t * 72 + j, none⟩ = some u) ∧
  so w' M A2 us rs ∧ M ≤ w'.heap.size ∧ Below w.heap.size w w'
theorem pj.row {qn q2 q3 B : Nat} {l : List UInt8} {A : Option Addr} {c : Nat} {x : K32} {j p : Nat} {w w' : World} (h : pj qn q2 q3 B l A c x j w) (hg : w.grownBy w' (some p)) (h1 : p ≠ qn) (h2 : q2 < p ∧ q3 < p ∧ B ≤ p) : pj qn q2 q3 B l A c x j w' := by
 have ne : ∀ k, k ≠ p → some k ≠ some p := fun k hk e => hk (by injection e)
 have hb : Below B w w' := ⟨hg.os, hg.tape, hg.output, hg.size, fun k hk => hg.block k (by have := h.le; omega) (ne k (by omega))⟩
 exact ⟨(hg.block _ (gl h.num) (ne _ (Ne.symm h1))).trans h.num, (hg.block _ (gl h.byt) (ne _ (by omega))).trans h.byt, (hg.block _ (gl h.key) (ne _ (by omega))).trans h.key, h.rd.below hb, h.le.1, h.le.2.1, h.le.2.2.1, Nat.le_trans h.le.2.2.2 hg.size⟩
theorem qkr (l : List UInt8) (A : Option Addr) (c B : Nat) (x : K32) (w : World) (hr : Rd w B A (ak l)) (hB : B ≤ w.heap.size) (hl : l.length ≤ 1000000000) (hc : l.length ≤ c) :
  Calls Tryz.prog 23 #[.slice A l.length c, kv x] w (qcb l x w) := by
 have HR := Lh hr
 have HBW := Lh hB
 clear hr hB
 have hmf : ∀ (fn : Fn) (first cap : Array Value) (w : World), (Instr.makeFunc fn first cap).run Tryz.prog w = .ok (.func fn first cap) w := fun _ _ _ _ => rfl
 obtain ⟨q2, hq2⟩ : ∃ q2, q2 = w.heap.size := ⟨_, rfl⟩
 have hb1 : Below w.heap.size w (w.alloc (.cells #[.slice A l.length c] 44)) := (br _ _).alloc (nr _) _
 have hg1 := hzn w (.cells #[.slice A l.length c] 44)
 have hs1 := sz_ w (.cells #[.slice A l.length c] 44)
 have HX := Lh (And.intro hb1 (And.intro hg1 hs1))
 have HQ2 := Lh hq2
 clear hb1 hg1 hs1 hq2
 go_enter Tryz.func23, Tryz.ntmps23
 go_wp2_with (refine ai (some 3) rfl ?_)
 generalize w.alloc (.cells #[.slice A l.length c] 44) = w1 at *
 refine Stop.go (bn rfl 34 rfl rfl (vs := encK x) rfl ?_)
 have hb2 : Below w1.heap.size w1 (w1.alloc (.cells (encK x).toArray 34)) := (br _ _).alloc (nr _) _
 have HG2 := Lh (hzn w1 (.cells (encK x).toArray 34))
 have HS2 := Lh (sz_ w1 (.cells (encK x).toArray 34))
 generalize w1.alloc (.cells (encK x).toArray 34) = w2 at *
 rw [HX.o.2.2, ← HQ2.o] at HG2 HS2 ⊢
 rw [← HQ2.o] at HX
 have HC2 := Lh ((hb2.block q2 (by have := HX.o.2.2; omega)).trans HX.o.2.1)
 have HB2 := Lh (show Below q2 w w2 from HX.o.1.trans (hb2.mono (by have := HX.o.2.2; omega)))
 have HZ2 := Lh (show w2.heap.size = q2 + 2 from HS2.o)
 clear hb2 HX HS2
 have c2 := cell_of_one HC2.o
 generalize ha : Act.put _ _ _ = z9; simp [Act.put] at ha; subst ha
 go_wp2_with fail
 have hBq : B ≤ q2 := by rw [HQ2.o]; exact HBW.o
 refine (of_any l A c B w2 (HR.o.below (HB2.o.mono hBq)) (by have := HZ2.o; omega) hl hc).mono ?_
 rintro e w3 ⟨rs, n0, us, A2, M, v9, hat, rfl, hrow, hra, hM1, hM2, hb3⟩
 have HAT := Lh hat
 have HRW := Lh hrow
 have HRA := Lh hra
 have HMM := Lh (And.intro hM1 hM2)
 have HC3 := Lh ((hb3.block q2 (by have := HZ2.o; omega)).trans HC2.o)
 have HG3 := Lh ((hb3.block (q2 + 1) (by have := HZ2.o; omega)).trans HG2.o)
 have HB3 := Lh (HB2.o.trans (hb3.mono (by have := HZ2.o; omega)))
 have HZ3 := Lh (show q2 + 2 ≤ w3.heap.size by have := hb3.size; have := HZ2.o; omega)
 obtain ⟨A9, c9, hv9, _, _⟩ := ap hrow
 subst hv9
 clear hat hrow hra hM1 hM2 hb3 c2 HC2 HG2 HB2
 have HX4 := Lh (show Below w3.heap.size w3 (w3.alloc (.cells #[.int .i64 0] 3)) ∧ (w3.alloc (.cells #[.int .i64 0] 3)).heap[w3.heap.size]? = some (.cells #[.int .i64 0] 3 (0, 0)) ∧ (w3.alloc (.cells #[.int .i64 0] 3)).heap.size = w3.heap.size + 1 from
  ⟨(br _ _).alloc (nr _) _, hzn _ _, sz_ _ _⟩)
 go_wp2_with fail
 generalize w3.alloc (.cells #[.int .i64 0] 3) = w4 at *
 obtain ⟨k, hk⟩ : ∃ k, k = nEv az rs := ⟨_, rfl⟩
 rw [← hk] at HRW ⊢
 have HKE := Lh hk
 clear hk
 generalize evAt rs k = at_
 have HK9 := Lh (show k ≤ rs.length ∧ rs.length ≤ 1000000000 from ⟨by rw [HKE.o]; exact sn _ _, Nat.le_trans (uy HAT.o.lines) hl⟩)
 obtain ⟨qn, hqn⟩ : ∃ qn, qn = w3.heap.size := ⟨_, rfl⟩
 rw [← hqn] at HX4 ⊢
 have HQN := Lh hqn
 clear hqn
 have HRW4 := Lh (bw HRW.o (by rw [← HQN.o]; exact HX4.o.1))
 by_cases hk0 : k = 0
 ·have hk1 := hk0
  subst hk1
  refine (qjv 48 [.pointer (some ⟨qn, 0, none⟩), .pointer (some ⟨q2, 0, none⟩), .pointer (some ⟨q2 + 1, 0, none⟩)] A9 c9 w4).mono ?_
  rintro e w5 ⟨rfl, rfl⟩
  have HP := Lh (show qcb l x w (.returned (.slice A9 0 c9)) w5 from
   ⟨rs, n0, us, A2, M, A9, c9, HAT.o, by rw [← HKE.o]; rfl, by rw [← HKE.o]; exact Nat.zero_le _, by assumption, (fun t ht => by rw [← HKE.o] at ht; cases ht), HRA.o.stay (pq.of_below HX4.o.1 (by have := HMM.o; have := HQN.o; omega)), by have := HMM.o; have := HQN.o; have := HX4.o.2.2; omega, by rw [← HQ2.o]; exact HB3.o.trans (HX4.o.1.mono (by have := HZ3.o; have := HQN.o; omega))⟩)
  clear hk0
  go_wp2_with fail
  go_ret
  exact HP.o
 obtain ⟨p, c9', hv9⟩ := ob HRW4.o (by omega)
 injection hv9 with hv9 _ e9
 subst hv9 e9
 have hMp := (HRW.o.lt p rfl)
 have hs : ∀ j, j < k → Hs (rs.getD j dq) ∧ ∃ A3 n3 c3, us j = .slice A3 n3 c3 := fun j hj => by
  have hjl : j < rs.length := by have := HK9.o; omega
  obtain ⟨A3, c3, hu, _⟩ := HRA.o.keys j hjl
  exact ⟨by rw [rg hjl]; exact HRA.o.hs j hjl, A3, _, c3, hu⟩
 refine (qjw 48 [.pointer (some ⟨qn, 0, none⟩), .pointer (some ⟨q2, 0, none⟩), .pointer (some ⟨q2 + 1, 0, none⟩)] qn k M p c9 (evF rs us) (me rs us k) (stEq x rs) (pj qn q2 (q2 + 1) B l A c x) w4 (fun _ _ => by kernel_rfl) HRW4.o ?hf ?hpq ?hqs ?hK ?hKb ?hKp ?hd).mono ?_
 case hf =>
  intro j hj
  refine ⟨pc_flat (f := evF rs us) (fun i hi => km (hs i hi).1) hj, km (hs j hj).1, ?_⟩
  obtain ⟨_, A3, n3, c3, hu⟩ := hs j hj
  unfold evF
  rw [hu]
  exact qdp
 case hpq => have := HQN.o; omega
 case hqs => have := HX4.o.2.2; omega
 case hK =>
  refine ⟨HX4.o.2.1, (HX4.o.1.block q2 (by have := HZ3.o; have := HQN.o; omega)).trans HC3.o, (HX4.o.1.block (q2 + 1) (by have := HZ3.o; have := HQN.o; omega)).trans HG3.o, ?_, by have := HZ3.o; have := HQN.o; omega, by have := HZ3.o; have := HQN.o; omega, by have := HZ3.o; have := HQN.o; omega, by have := HZ3.o; have := HQN.o; have := HX4.o.2.2; omega⟩
  exact (HR.o.below (HB3.o.mono hBq)).below (HX4.o.1.mono (by have := HZ3.o; have := HQN.o; omega))
 case hKb => exact fun j w1 w2 h hb => h.below hb
 case hKp => exact fun j w1 w2 h hg => h.row hg (by have := HQN.o; omega) (by have := HMM.o; have := HZ2.o; omega)
 case hd =>
  intro j w1' hj hK
  refine (qsi qn q2 (q2 + 1) B l A c x j (evF rs us j) w1' hK hl hc (by have := HK9.o; omega)).mono ?_
  rintro e w2' ⟨rs', n', hat', he, hk', hg'⟩
  obtain ⟨e1, _⟩ := qay hat' HAT.o
  subst e1
  exact ⟨he, hk', hg'⟩
 rintro e w5 ⟨xs, rfl, hown, hpc, htw⟩
 have hkl := qrj (stEq x rs) k
 have HP := Lh (show qcb l x w (.returned (.slice (some ⟨p, 0, none⟩) (kl (stEq x rs) k).length c9)) w5 from by
  have h1 := HMM.o
  have h2 := HQN.o
  have h3 := HX4.o.2.2
  have h4 := HZ3.o
  have h5 := HZ2.o
  refine ⟨rs, n0, us, A2, M, some ⟨p, 0, none⟩, c9, HAT.o, by rw [← HKE.o], by have := HKE.o; rw [← HKE.o]; omega, by assumption, ?_, HRA.o.stay (fun i hi => .inl ?_), by have := htw.size; omega, ?_⟩
  ·rw [← HKE.o]
   exact fun t ht => ⟨p, rfl, yv hown (by omega) (hpc t ht)⟩
  ·exact (htw.block i (by omega) (by omega) (by omega)).trans (HX4.o.1.block i (by omega))
  ·rw [← HQ2.o]
   have hb := HB3.o.trans (HX4.o.1.mono (show q2 ≤ qn by omega))
   exact ⟨htw.os.trans hb.os, htw.tape.trans hb.tape, htw.output.trans hb.output, Nat.le_trans hb.size htw.size, fun i hi => (htw.block i (by omega) (by omega) (by omega)).trans (hb.block i hi)⟩)
 clear hown hpc htw
 go_wp2_with fail
 go_ret
 exact HP.o

theorem kv_eq (x k : K32) : (decide (x.1.1 = k.1.1) && decide (x.1.2 = k.1.2)) = decide (x = k) := by
 by_cases he : x = k
 ·simp [he]
 ·have : ¬ (x.1.1 = k.1.1 ∧ x.1.2 = k.1.2) := fun h => he (Subtype.ext (Prod.ext h.1 h.2))
  rw [decide_eq_false he, ← Bool.decide_and, decide_eq_false this]
theorem qji (l : List K32) (k : K32) (A : Option Addr) (n c B : Nat) (w : World) (h : SlR eK w B (.slice A n c) l) (hB : B ≤ w.heap.size) :
  Calls Tryz.prog 50 #[.slice A n c, kv k] w fun e w' => e = .returned (.bool (decide (k ∈ l))) ∧ Below w.heap.size w w' := by
 have hn := h.n_eq
 subst hn
 have hcl := h.n_le
 have HS := Lh h
 have HBW := Lh hB
 clear h hB
 go_enter Tryz.func50, Tryz.ntmps50
 go_wp2_with (refine ai (some 3) rfl ?_)
 refine Stop.go (bn rfl 34 rfl rfl (vs := encK k) rfl ?_)
 have HG1 := Lh (aq (vs := encK k) (hzn w (.cells (encK k).toArray 34)))
 have HB1 := Lh ((br _ _).alloc (nr _) (.cells (encK k).toArray 34) : Below w.heap.size w _)
 have HS1 := Lh (sz_ w (.cells (encK k).toArray 34))
 have HSL1 := Lh (HS.o.below (HB1.o.mono HBW.o))
 generalize w.alloc (.cells (encK k).toArray 34) = w1 at *
 generalize ha : Act.put _ _ _ = z9; simp [Act.put] at ha; subst ha
 go_wp2_with fail
 go_loopw [5] (fun v5 wr => ∃ (i : Nat), i ≤ l.length ∧ v5 = .int .i64 i ∧ Hid (k ∉ l.take i) ∧ Hid (Below w1.heap.size w1 wr)) (fun v5 _ => l.length - (intOf v5).toNat)
 case atStart => exact ⟨0, Nat.zero_le _, rfl, (by simp : k ∉ l.take 0), br _ _⟩
 case round =>
  obtain ⟨i, hi, rfl, HL, HB⟩ := hrel
  by_cases hlt : i < l.length
  ·obtain ⟨q, off, cs, rfl, _, hqB, hrep, hcell⟩ := (HSL1.o.below (HB.o.mono (by rw [HS1.o]; have := HBW.o; omega))).get hlt (by decide)
   obtain ⟨x, hx⟩ : ∃ x, x = l[i] := ⟨_, rfl⟩
   rw [← hx] at hrep
   have hrep : cs = encK x := hrep
   subst hrep
   have HC := Lh (show ∀ j u, (encK x)[j]? = some u → wr.cell? ⟨q, off + i * 33 + j, none⟩ = some u from fun j u hu => by rw [Nat.add_assoc]; exact hcell j u hu)
   have HX := Lh hx
   have HG2 := Lh (show ∀ j u, (encK k)[j]? = some u → wr.cell? ⟨w.heap.size, 0 + j, none⟩ = some u from fun j u hu => (HB.o.cell (p := ⟨w.heap.size, 0 + j, none⟩) (by rw [HS1.o]; show w.heap.size < _; omega)).trans (HG1.o j u hu))
   have HTK := Lh (show l.take (i + 1) = l.take i ++ [x] by rw [List.take_succ_eq_append_getElem hlt, hx])
   have HIN := Lh (show x ∈ l by rw [hx]; exact List.getElem_mem _)
   clear hcell hx hqB
   go_wp2_with fail
   refine Text.wp_text [5] (by kernel_rfl) (by kernel_rfl) (fun Q' hQ' => ?_)
   have HCd := Lh (show ∀ j u, (encK x)[j]? = some u → wr.drew.cell? ⟨q, off + i * 33 + j, none⟩ = some u from HC.o)
   have HGd := Lh (show ∀ j u, (encK k)[j]? = some u → wr.drew.cell? ⟨w.heap.size, 0 + j, none⟩ = some u from HG2.o)
   have HBd := Lh HB.o.drew
   clear HC HG2 HB
   generalize wr.drew = w2 at *
   go_wp2_with (refine ai (some 15) rfl ?_)
   refine Stop.go (aa rfl 34 rfl rfl ba.ut rfl (cs := encK x) (al _ _ x.2) HCd.o ?_)
   refine aa rfl 34 rfl rfl ba.ut rfl (cs := encK k) (al _ _ k.2) HGd.o ?_
   refine ei rfl .eql 34 rfl rfl rfl (ez ba.gd ..) (qar ba x.2 k.2) ?_
   rw [kv_eq]
   obtain ⟨d, hdd⟩ : ∃ d, d = decide (x = k) := ⟨_, rfl⟩
   rw [← hdd]
   have HDD := Lh hdd.symm
   clear hdd
   generalize ha : Act.put _ _ _ = z9; simp [Act.put] at ha; subst ha
   go_wp2_with fail
   refine ⟨by rfl, ?_⟩
   cases d
   ·go_wp2_with fail
    go_roundw
    case rel =>
     refine ⟨i + 1, by omega, by go_num, ?_, HBd⟩
     have h1 := of_decide_eq_false HDD.o
     show k ∉ l.take (i + 1)
     rw [HTK.o]
     intro hm
     rcases List.mem_append.1 hm with h | h
     ·exact HL.o h
     ·exact h1 (List.mem_singleton.1 h).symm
    case measure => simp [intOf]; omega
   ·have HR := Lh (show decide (k ∈ l) = true by
     have := of_decide_eq_true HDD.o
     rw [← this]
     exact decide_eq_true HIN.o)
    go_wp2_with fail
    go_ret
    exact ⟨by rw [HR.o]; rfl, HB1.o.trans (HBd.o.mono (by rw [HS1.o]; omega))⟩
  ·have hil : i = l.length := by omega
   have HR := Lh (show decide (k ∈ l) = false by
    have := HL.o
    rw [hil, List.take_length] at this
    exact decide_eq_false this)
   clear hil
   go_wp2_with fail
   go_ret
   exact ⟨by rw [HR.o]; rfl, HB1.o.trans (HB.o.mono (by rw [HS1.o]; omega))⟩

def anyK (l : List (K32 × K32)) (x : K32) : Bool := l.any fun p => decide (p.1 = x)
theorem qos (b : bj) (x : K32) : qu b x = anyK b.live x := by
 unfold qu nq anyK
 rw [Option.isSome_map]
 induction b.live with
 |nil => rfl
 |cons a l ih =>
  rw [List.find?_cons, List.any_cons]
  cases h : decide (a.1 = x) with
  |true => simp
  |false => simpa using ih
def stN (b : bj) (x : K32) : Nat := (if qu b x then 2 else 0) + (if px b x then 1 else 0)
theorem qjd (b : bj) (L P O : Value) (x : K32) (B : Nat) (w : World) (hL : SlR gh w B L (fm b.live)) (hP : SlR eK w B P b.pins) (hB : B ≤ w.heap.size) :
  Calls Tryz.prog 24 #[.agg (aj b L P O).toArray, kv x] w fun e w' => e = .returned (.int .i64 (stN b x)) ∧ Below w.heap.size w w' := by
 obtain ⟨AL, cL, hLe, hl1, hl2⟩ := hL.form
 obtain ⟨AP, cP, hPe, _, _⟩ := hP.form
 subst hLe hPe
 rw [oe] at hL hl1 ⊢
 have HL := Lh hL
 have HP := Lh hP
 have HBW := Lh hB
 have hlm : b.live.length ≤ 9223372036854775807 := by simp only [maxLen] at hl2; omega
 clear hL hP hB
 obtain ⟨z, hz⟩ : ∃ z, z = w.heap.size := ⟨_, rfl⟩
 rw [← hz] at HBW ⊢
 have HZ := Lh hz
 clear hz
 go_enter Tryz.func24, Tryz.ntmps24
 go_wp2_with (refine ai (some 2) rfl ?_)
 refine Stop.go (bn rfl _ rfl rfl (vs := aj b (.slice AL b.live.length cL) (.slice AP b.pins.length cP) O) rfl ?_)
 have hb1 : Below w.heap.size w (w.alloc (.cells (aj b (.slice AL b.live.length cL) (.slice AP b.pins.length cP) O).toArray 30)) := (br _ _).alloc (nr _) _
 have hg1 := hzn w (.cells (aj b (.slice AL b.live.length cL) (.slice AP b.pins.length cP) O).toArray 30)
 have hs1 := sz_ w (.cells (aj b (.slice AL b.live.length cL) (.slice AP b.pins.length cP) O).toArray 30)
 rw [← HZ.o] at hg1 hs1 hb1 ⊢
 generalize w.alloc (.cells (aj b (.slice AL b.live.length cL) (.slice AP b.pins.length cP) O).toArray 30) = w1 at *
 refine bn rfl 34 rfl rfl (vs := encK x) rfl ?_
 have hb2 : Below w1.heap.size w1 (w1.alloc (.cells (encK x).toArray 34)) := (br _ _).alloc (nr _) _
 have hg2 := hzn w1 (.cells (encK x).toArray 34)
 have hs2 := sz_ w1 (.cells (encK x).toArray 34)
 rw [hs1] at hg2 hs2 hb2 ⊢
 generalize w1.alloc (.cells (encK x).toArray 34) = w2 at *
 have HB2 := Lh ((hb2.block z (by omega)).trans hg1)
 have HK2 := Lh hg2
 have HW2 := Lh (hb1.trans (hb2.mono (by omega)))
 have HS2 := Lh (show w2.heap.size = z + 2 from hs2)
 have HL2 := Lh (HL.o.below (HW2.o.mono HBW.o))
 have HP2 := Lh (HP.o.below (HW2.o.mono HBW.o))
 clear hb1 hg1 hs1 hb2 hg2 hs2 HL HP
 generalize ha : Act.put _ _ _ = z9; simp [Act.put] at ha; subst ha
 go_wp2_with fail
 go_loopw [5, 6] (fun v5 v6 wr => ∃ (i s : Nat), i ≤ b.live.length ∧ v6 = .int .i64 i ∧ v5 = .int .i64 s ∧ Hid (s = if anyK (b.live.take i) x then 2 else 0) ∧ Hid (Below w2.heap.size w2 wr)) (fun _ v6 _ => b.live.length - (intOf v6).toNat)
 case atStart => exact ⟨0, 0, Nat.zero_le _, rfl, rfl, (by simp [anyK] : 0 = if anyK (b.live.take 0) x then 2 else 0), br _ _⟩
 case round =>
  obtain ⟨i, s, hi, rfl, rfl, HI, HB⟩ := hrel
  have HBr := Lh ((HB.o.block z (by rw [HS2.o]; omega)).trans HB2.o)
  have HKr := Lh ((HB.o.block (z + 1) (by rw [HS2.o]; omega)).trans HK2.o)
  have hs2 : s ≤ 2 := by have := HI.o; split at this <;> omega
  have c1 := (gt HBr.o).2.1
  have c2 := (gt HBr.o).2.2.1
  by_cases hlt : i < b.live.length
  ·obtain ⟨q, off, cs, hA, _, hqB, hrep, hcell⟩ := (HL2.o.below (HB.o.mono (by have := HBW.o; have := HS2.o; omega))).get (show i < (fm b.live).length by rw [oe]; exact hlt) (by decide)
   subst hA
   obtain ⟨y, hy⟩ : ∃ y, y = b.live[i] := ⟨_, rfl⟩
   have hrep : cs = an (0, y) := by
    have : (fm b.live)[i]'(by rw [oe]; exact hlt) = (0, y) := by simp [fm, hy]
    rw [this] at hrep
    exact hrep
   subst hrep
   have HC := Lh (show ∀ j u, (an (0, y))[j]? = some u → wr.cell? ⟨q, off + i * 67 + j, none⟩ = some u from fun j u hu => by rw [Nat.add_assoc]; exact hcell j u hu)
   have HTK := Lh (show anyK (b.live.take (i + 1)) x = (anyK (b.live.take i) x || decide (y.1 = x)) by
    unfold anyK
    rw [List.take_succ_eq_append_getElem hlt, List.any_append, hy]
    simp)
   clear hcell hqB hy
   go_wp2_with fail
   refine Text.wp_text [7] (by kernel_rfl) (by kernel_rfl) (fun Q' hQ' => ?_)
   have HCd := Lh (show ∀ j u, (an (0, y))[j]? = some u → wr.drew.cell? ⟨q, off + i * 67 + j, none⟩ = some u from HC.o)
   have HGd := Lh (show wr.drew.heap[z + 1]? = some (.cells (encK x).toArray 34 (0, 0)) from HKr.o)
   have HBd := Lh HB.o.drew
   have c1d : wr.drew.cell? ⟨z, 1, none⟩ = _ := c1
   clear HC HB HBr HKr c1 c2
   generalize wr.drew = w3 at *
   go_wp2_with (refine ai (some 19) rfl ?_)
   refine Stop.go (aa rfl 34 rfl rfl ba.ut rfl (cs := encK y.1) (al _ _ y.1.2) (ra HCd.o) ?_)
   refine aa rfl 34 rfl rfl ba.ut rfl (cs := encK x) (al _ _ x.2) (aq (vs := encK x) HGd.o) ?_
   refine ei rfl .eql 34 rfl rfl rfl (ez ba.gd ..) (qar ba y.1.2 x.2) ?_
   rw [kv_eq]
   obtain ⟨d, hdd⟩ : ∃ d, d = decide (y.1 = x) := ⟨_, rfl⟩
   rw [← hdd]
   have HDD := Lh hdd.symm
   clear hdd
   generalize ha : Act.put _ _ _ = z9; simp [Act.put] at ha; subst ha
   go_wp2_with fail
   refine ⟨by rfl, ?_⟩
   cases d
   ·go_wp2_with fail
    go_roundw
    case rel => exact ⟨i + 1, s, by omega, by go_num, rfl, Lh (by rw [HTK.o, HDD.o, Bool.or_false]; exact HI.o), HBd⟩
    case measure => simp [intOf]; omega
   ·go_wp2_with fail
    go_roundw
    case rel => exact ⟨i + 1, 2, by omega, by go_num, rfl, Lh (by rw [HTK.o, HDD.o, Bool.or_true]; rfl), HBd⟩
    case measure => simp [intOf]; omega
  ·have hil : i = b.live.length := by omega
   have HI2 := Lh (show s = if qu b x then 2 else 0 by
    have := HI.o
    rw [hil, List.take_length, ← qos] at this
    exact this)
   go_wp2_with (refine ai (some 24) rfl ?_)
   refine Stop.go (aa rfl 34 rfl rfl ba.ut rfl (cs := encK x) (al _ _ x.2) (aq (vs := encK x) HKr.o) ?_)
   generalize ha : Act.put _ _ _ = z9; simp [Act.put] at ha; subst ha
   go_wp2_with fail
   refine (qji b.pins x AP _ cP B wr (HP2.o.below (HB.o.mono (by have := HBW.o; have := HS2.o; omega))) (by have := HBW.o; have := HS2.o; have := HB.o.size; omega)).mono ?_
   rintro e w4 ⟨rfl, hb4⟩
   have HW4 := Lh (HW2.o.trans ((HB.o.trans (hb4.mono HB.o.size)).mono (by have := HS2.o; omega)))
   obtain ⟨pn, hpn⟩ : ∃ pn, pn = px b x := ⟨_, rfl⟩
   rw [show decide (x ∈ b.pins) = pn from hpn.symm]
   have HPN := Lh hpn.symm
   clear hpn hb4 c1 c2 hil
   cases pn
   ·have HV := Lh (show stN b x = s by unfold stN; rw [HPN.o, ← HI2.o]; simp)
    go_wp2_with fail
    go_ret
    exact ⟨by rw [HV.o]; rfl, HW4.o⟩
   ·have HV := Lh (show ((stN b x : Nat) : Int) = (s : Int) + 1 by unfold stN; rw [HPN.o, ← HI2.o]; simp)
    go_wp2_with fail
    go_ret
    exact ⟨by rw [HV.o]; rfl, HW4.o⟩
end Go.Proofs.YtplbcbamnjnhlaaGreatDoor
