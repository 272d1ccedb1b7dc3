import Derived.Test.YtplbcbamnjnhlaaGreatDoorMT00
import Derived.Test.YtplbcbamnjnhlaaGreatDoorMT36
set_option maxRecDepth 100000
set_option maxHeartbeats 40000000
namespace Go.Proofs.YtplbcbamnjnhlaaGreatDoor
open Go.RowKit

def Far (S : Nat → Prop) (w : World) (v : Value) : Prop := ∀ p, v.ownBlock = some p → ¬ S p ∧ p < w.heap.size
theorem qa {S : Nat → Prop} {T : Nat} (hS : ∀ p, S p → p < T) {w : World} {base : Nat} {e : TypeId} {size n : Nat} {v : Value} {xs : List Value} (h : w.ownsRow base e size v n xs) (hb : T ≤ base) : Far S w v := fun p hp => by
 have h1 := h.lt p hp
 exact ⟨fun hs => by have h2 := hS p hs; omega, h1.2⟩
theorem qjs (S : Nat → Prop) (w : World) : Far S w nilV := fun p hp => by simp [Value.ownBlock] at hp
theorem Far.more {S : Nat → Prop} {w w' : World} {v : Value} (h : Far S w v) (hs : w.heap.size ≤ w'.heap.size) : Far S w' v := fun p hp => ⟨(h p hp).1, Nat.lt_of_lt_of_le (h p hp).2 hs⟩
def RBF (S : Nat → Prop) (w : World) (B : Nat) (v : Value) (b : bj) : Prop := ∃ L P O, v = .agg (aj b L P O).toArray ∧ SlR gh w B L (fm b.live) ∧ SlR eK w B P b.pins ∧ SlR gh w B O b.ints ∧ (Far S w L ∧ Far S w P ∧ Far S w O)
def qkg (S : Nat → Prop) (b : bj) (r : RecD) (w : World) (e : Ending) (w' : World) : Prop := ∃ v, e = .returned (.tuple #[v, .bool (mayD b r)]) ∧ RBF S w' w'.heap.size v (io b r) ∧ Below w.heap.size w w'
theorem qob {S : Nat → Prop} {b b' : bj} {r : RecD} {w w' : World} {v : Value} (hm : mayD b r = true) (hb : b' = fa b r) (h : RBF S w' w'.heap.size v b') (hs : Below w.heap.size w w') : qkg S b r w (.returned (.tuple #[v, .bool true])) w' := by
 refine ⟨v, by rw [hm], ?_, hs⟩
 unfold io
 rw [if_pos hm, ← hb]
 exact h
theorem xm {S : Nat → Prop} {b : bj} {r : RecD} {w w' : World} {v : Value} (hm : mayD b r = false) (h : RBF S w' w'.heap.size v b) (hs : Below w.heap.size w w') : qkg S b r w (.returned (.tuple #[v, .bool false])) w' := by
 refine ⟨v, by rw [hm], ?_, hs⟩
 unfold io
 rw [hm, if_neg (by simp)]
 exact h
structure MidF (S : Nat → Prop) (w wc : World) (b : bj) (L P O : Value) (kind seq : Int) (kx mx : K32) (v : Value) (keys : List KeyD) : Prop extends MidR w wc b L P O kind seq kx mx v keys where
 far : Far S wc L ∧ Far S wc P ∧ Far S wc O
section
variable {S : Nat → Prop} {w wc w' : World} {b b' : bj} {L P O L' P' O' : Value} {kind seq : Int} {kx mx : K32} {v : Value} {keys : List KeyD}
theorem MidF.later (h : MidF S w wc b L P O kind seq kx mx v keys) (hb : Below wc.heap.size wc w') : MidF S w w' b L P O kind seq kx mx v keys := ⟨h.toMidR.later hb, h.far.1.more hb.size, h.far.2.1.more hb.size, h.far.2.2.more hb.size⟩
theorem MidF.drew (h : MidF S w wc b L P O kind seq kx mx v keys) : MidF S w wc.drew b L P O kind seq kx mx v keys := ⟨h.toMidR.drew, h.far⟩
theorem MidF.turn (h : MidF S w wc b L P O kind seq kx mx v keys) (hL : SlR gh wc wc.heap.size L' (fm b'.live)) (hP : SlR eK wc wc.heap.size P' b'.pins) (hO : SlR gh wc wc.heap.size O' b'.ints) (hf : Far S wc L' ∧ Far S wc P' ∧ Far S wc O') :
  MidF S w (wc.setRow w.heap.size (aj b' L' P' O').toArray) b' L' P' O' kind seq kx mx v keys := ⟨h.toMidR.turn hL hP hO, hf.1.more (by rw [setRow_size]; omega), hf.2.1.more (by rw [setRow_size]; omega), hf.2.2.more (by rw [setRow_size]; omega)⟩
theorem MidF.done (h : MidF S w wc b L P O kind seq kx mx v keys) : RBF S (wc.setRow (w.heap.size + 2) (aj b L P O).toArray) (wc.setRow (w.heap.size + 2) (aj b L P O).toArray).heap.size (.agg (aj b L P O).toArray) b ∧
  Below w.heap.size w (wc.setRow (w.heap.size + 2) (aj b L P O).toArray) ∧ (wc.setRow (w.heap.size + 2) (aj b L P O).toArray).heap[w.heap.size + 2]? = some (.cells (aj b L P O).toArray 30 (0, 0)) := by
 obtain ⟨⟨L2, P2, O2, e, h1, h2, h3⟩, hb, hr⟩ := h.toMidR.done
 have e2 := congrArg Value.cells e
 have e3 : aj b L P O = aj b L2 P2 O2 := by
  have e4 : (aj b L P O).toArray = (aj b L2 P2 O2).toArray := e2
  simpa using e4
 unfold aj at e3
 simp only [List.cons.injEq, and_true, true_and] at e3
 obtain ⟨rfl, rfl, rfl⟩ := e3
 exact ⟨⟨L, P, O, rfl, h1, h2, h3, h.far.1.more (by rw [setRow_size]; omega), h.far.2.1.more (by rw [setRow_size]; omega), h.far.2.2.more (by rw [setRow_size]; omega)⟩, hb, hr⟩
theorem midF_new (w : World) {B : Nat} (hB : B ≤ w.heap.size) (hL : SlR gh w B L (fm b.live)) (hP : SlR eK w B P b.pins) (hO : SlR gh w B O b.ints) (hk : SlR eKey w B v keys) (hf : Far S w L ∧ Far S w P ∧ Far S w O) :
  MidF S w (((w.alloc (.cells (aj b L P O).toArray 30)).alloc (.cells (ag kind seq kx.1.1 kx.1.2 mx.1.1 mx.1.2 v).toArray 42)).alloc (.cells (aj az nilV nilV nilV).toArray 30)) b L P O kind seq kx mx v keys :=
 have hm := midR_new (kind := kind) (seq := seq) (kx := kx) (mx := mx) w hB hL hP hO hk
 ⟨hm, hf.1.more hm.below.size, hf.2.1.more hm.below.size, hf.2.2.more hm.below.size⟩
end
theorem yb (S : Nat → Prop) (b : bj) (r : RecD) (bv : Value) (A : Option Addr) (n c B : Nat) (w : World) (h : RBF S w B bv b) (hS : ∀ p, S p → p < w.heap.size) (hr : Hs r) (hk : SlR eKey w B (.slice A n c) r.keys) (hB : B ≤ w.heap.size) (hl : b.live.length ≤ 10000 ∧ b.pins.length ≤ 10000 ∧ b.ints.length ≤ 10000) :
  Calls Tryz.prog 10 #[bv, rv r (.slice A n c)] w (qkg S b r w) := by
 obtain ⟨L, P, O, rfl, hL, hP, hO, hFF⟩ := h
 have HSB := Lh hS
 clear hS
 obtain ⟨kx, hkx⟩ : ∃ kx, kx = rkey r := ⟨_, rfl⟩
 obtain ⟨mx, hmx⟩ : ∃ mx, mx = ya r := ⟨_, rfl⟩
 have hk1 : kx.1 = (r.kh, r.kk) := by rw [hkx]; exact qap hr.1
 have hm1 : mx.1 = (r.mh, r.ms) := by rw [hmx]; exact qap hr.2
 obtain ⟨kind, hkd⟩ : ∃ kind, kind = r.kind := ⟨_, rfl⟩
 obtain ⟨seq, hsq⟩ : ∃ seq, seq = r.seq := ⟨_, rfl⟩
 have HRV : rv r (.slice A n c) = .agg (ag kind seq kx.1.1 kx.1.2 mx.1.1 mx.1.2 (.slice A n c)).toArray := by rw [hk1, hm1, hkd, hsq]
 have HCL := Lh (show ∀ (w' : World), SlR eKey w' w.heap.size (.slice A n c) r.keys → w.heap.size ≤ w'.heap.size → Calls Tryz.prog 30 #[.agg (ag kind seq kx.1.1 kx.1.2 mx.1.1 mx.1.2 (.slice A n c)).toArray] w' (fun e w'' => e = .returned (.bool (au r)) ∧ Below w'.heap.size w' w'') from fun w' h1 h2 => by
  rw [← HRV]
  exact zz r A n c w.heap.size w' hr h1 h2)
 rw [HRV]
 have HRK := Lh (And.intro hkd.symm (And.intro hsq.symm (And.intro hkx hmx)))
 have HSR := Lh hr
 clear HRV hk1 hm1 hkd hsq hkx hmx hr
 have HN := Lh hk.n_eq
 have HLL := Lh hl
 have HM0 := Lh (midF_new (S := S) (kind := kind) (seq := seq) (kx := kx) (mx := mx) w hB hL hP hO hk hFF)
 clear hl hB hL hP hO hk hFF
 go_enter Tryz.func10, Tryz.ntmps10
 go_wp2_with (refine ai (some 2) rfl ?_)
 refine Stop.go (bn rfl 30 rfl rfl (vs := aj b L P O) rfl ?_)
 refine bn rfl 42 rfl rfl (vs := ag kind seq kx.1.1 kx.1.2 mx.1.1 mx.1.2 (.slice A n c)) rfl ?_
 refine av rfl 30 rfl rm (vs := aj az nilV nilV nilV) rfl ?_
 rw [show ((w.alloc (.cells (aj b L P O).toArray 30)).alloc (.cells (ag kind seq kx.1.1 kx.1.2 mx.1.1 mx.1.2 (.slice A n c)).toArray 42)).heap.size = w.heap.size + 2 by rw [sz_, sz_]]
 rw [show (w.alloc (.cells (aj b L P O).toArray 30)).heap.size = w.heap.size + 1 from sz_ _ _]
 generalize (((w.alloc (.cells (aj b L P O).toArray 30)).alloc (.cells (ag kind seq kx.1.1 kx.1.2 mx.1.1 mx.1.2 (.slice A n c)).toArray 42)).alloc (.cells (aj az nilV nilV nilV).toArray 30)) = w1 at *
 generalize ha : Act.put _ _ _ = z9; simp [Act.put] at ha; subst ha
 go_wp2_with (refine ai (some 10) rfl ?_)
 refine Stop.go (aa rfl 42 rfl rfl fc rfl (cw _ _ _ _ _ _ _ kx.2 mx.2) HM0.o.rec_.all_ ?_)
 generalize ha : Act.put _ _ _ = z9; simp [Act.put] at ha; subst ha
 go_wp2_with fail
 refine (HCL.o w1 HM0.o.keys_ (by have := HM0.o.lt; omega)).mono ?_
 rintro e w2 ⟨rfl, hb2⟩
 have HM := Lh (HM0.o.later hb2)
 clear hb2 HM0 HCL
 obtain ⟨z, hz⟩ : ∃ z, z = au r := ⟨_, rfl⟩
 rw [← hz]
 have HRB := Lh hz.symm
 clear hz
 have c0 := (gt HM.o.row).1
 have c1 := HM.o.rec_.kind_
 obtain ⟨hd, hhd⟩ : ∃ hd, hd = b.head := ⟨_, rfl⟩
 rw [← hhd] at c0
 have HHD := Lh hhd
 clear hhd
 cases z
 ·have HF := Lh (show mayD b r = false by rw [xr, HRB.o]; rfl)
  go_wp2_with (refine ai (some 21) rfl ?_)
  refine Stop.go (aa rfl 30 rfl rfl gi rfl (cs := aj b L P O) (fg ..) HM.o.row_all ?_)
  refine ac rfl 30 rfl rfl rfl HM.o.end_ ?_
  have HX := Lh HM.o.done
  generalize w2.setRow (w.heap.size + 2) (aj b L P O).toArray = wz at *
  generalize ha : Act.put _ _ _ = z9; simp [Act.put] at ha; subst ha
  go_wp2_with fail
  refine iq rfl rfl rfl rfl HX.o.2.2 ?_
  exact xm HF.o HX.o.1 HX.o.2.1
 by_cases hq : hd = decide (kind = 1)
 ·have HF := Lh (show mayD b r = false by rw [xr, HRK.o.1, ← HHD.o, hq]; simp)
  have hq2 : (hd == (kind == 1)) = true := by rw [hq]; show (decide (kind = 1) == decide (kind = 1)) = true; exact beq_self_eq_true _
  clear hq
  go_wp2_with (refine ai (some 21) rfl ?_)
  refine Stop.go (aa rfl 30 rfl rfl gi rfl (cs := aj b L P O) (fg ..) HM.o.row_all ?_)
  refine ac rfl 30 rfl rfl rfl HM.o.end_ ?_
  have HX := Lh HM.o.done
  generalize w2.setRow (w.heap.size + 2) (aj b L P O).toArray = wz at *
  generalize ha : Act.put _ _ _ = z9; simp [Act.put] at ha; subst ha
  go_wp2_with fail
  refine iq rfl rfl rfl rfl HX.o.2.2 ?_
  exact xm HF.o HX.o.1 HX.o.2.1
 have hq2 : (hd == (kind == 1)) = false := by
  rw [beq_eq_false_iff_ne]
  intro he
  exact hq (by rw [he]; rfl)
 have HQ := Lh hq
 clear hq
 have HPO := Lh (show ∀ (b' : bj) (v : Value) (w' : World), mayD b r = true → b' = fa b r → RBF S w' w'.heap.size v b' → Below w.heap.size w w' → qkg S b r w (.returned (.tuple #[v, .bool true])) w' from fun b' v w' hm hb h hs => qob hm hb h hs)
 have HMY := Lh (show (if r.kind = 2 then decide (b.next ≤ r.seq) else if r.kind = 3 then (mc b.ints r.seq).isSome else true) = true → mayD b r = true from fun h => by
  rw [xr, HRB.o, h, HRK.o.1, ← HHD.o]
  cases hd <;> cases hh : decide (kind = 1) <;> first | rfl | exact absurd hh.symm HQ.o)
 have HMN := Lh (show (if r.kind = 2 then decide (b.next ≤ r.seq) else if r.kind = 3 then (mc b.ints r.seq).isSome else true) = false → mayD b r = false from fun h => by rw [xr, h, Bool.and_false])
 have HBND := Lh (vn HRB.o)
 rcases Bool.eq_false_or_eq_true (kind == 1) with hk1 | hk1
 ·have HK := Lh hk1
  have hkk : r.kind = 1 := by rw [HRK.o.1]; simpa using HK.o
  have HF := Lh (HMY.o (by rw [if_neg (by omega), if_neg (by omega)]))
  have HWR := Lh (qqj (b := b) hkk)
  clear hkk
  rw [hk1] at hq2
  have hd0 : hd = false := by simpa using hq2
  subst hd0
  go_wp2_with (refine ai none rfl ?_)
  have HST := Lh (oa (x := .bool true) (ty := 4) (i := 0) HM.o.row (by kernel_rfl) rfl rfl (by decide) (b' := { b with head := true }) (L' := L) (P' := P) (O' := O) rfl)
  refine Stop.go (ac rfl 4 rfl rfl rfl HST.o ?_)
  have HM3 := Lh (HM.o.turn (b' := { b with head := true }) (L' := L) (P' := P) (O' := O) HM.o.live HM.o.pins HM.o.ints ⟨HM.o.far.1, HM.o.far.2.1, HM.o.far.2.2⟩)
  clear HST
  generalize w2.setRow w.heap.size (aj ({ b with head := true }) (L) (P) (O)).toArray = w3 at *
  generalize ha : Act.put _ _ _ = z9; simp [Act.put] at ha; subst ha
  go_wp2_with (refine ai (some 26) rfl ?_)
  refine Stop.go (aa rfl 30 rfl rfl gi rfl (cs := aj { b with head := true } L P O) (fg ..) HM3.o.row_all ?_)
  refine ac rfl 30 rfl rfl rfl HM3.o.end_ ?_
  have HX := Lh HM3.o.done
  generalize w3.setRow (w.heap.size + 2) (aj { b with head := true } L P O).toArray = wz at *
  generalize ha : Act.put _ _ _ = z9; simp [Act.put] at ha; subst ha
  go_wp2_with fail
  refine iq rfl rfl rfl rfl HX.o.2.2 ?_
  exact HPO.o _ _ _ HF.o HWR.o HX.o.1 HX.o.2.1
 rw [hk1] at hq2
 have c2 := HM.o.rec_.seq_
 go_wp2_with (refine ai (some 30) rfl ?_)
 refine Stop.go (aa rfl 34 rfl rfl ba.ut rfl (cs := encK kx) (al _ _ kx.2) HM.o.rec_.key_ ?_)
 generalize ha : Act.put _ _ _ = z9; simp [Act.put] at ha; subst ha
 refine ar 1 _ _ _ (fun Q2 hQ2 => ?_)
 simp only [T1, T0]
 go_wp2_with fail
 try simp only [dr1, dr0]
 refine Stop.go (aa rfl 32 rfl rfl fz.ua rfl (cs := ak mx.1.1) (gk _ mx.2) HM.o.rec_.hash_ ?_)
 generalize ha : Act.put _ _ _ = z9; simp [Act.put] at ha; subst ha
 have hnum := HM.o.rec_.size_
 refine ar 2 _ _ _ (fun Q3 hQ3 => ?_)
 simp only [T1, T0]
 go_wp2_with fail
 try simp only [dr1, dr0]
 clear hnum
 refine Stop.go (bl rfl 79 rfl (vs := #[(0, .int .i64 seq), (1, kv kx), (2, jc mx.1.1), (3, .int .i64 mx.1.2)]) (by rfl) (qmx seq kx mx _) ?_)
 refine av rfl 79 rfl qbb (vs := an (0, (zk32, zk32))) rfl ?_
 refine ac rfl 79 rfl rfl rfl (ch (vs := an (seq, (kx, mx))) (g := w2.heap.size) rfl rfl (tf _) (by rw [List.size_toArray, bq, bq]) (ey _)) ?_
 have HM3 := Lh (HM.o.later ((br _ _).alloc (nr _) (.cells (an (seq, (kx, mx))).toArray 79)))
 have HIT := Lh (aq (vs := an (seq, (kx, mx))) (hzn w2 (.cells (an (seq, (kx, mx))).toArray 79)))
 have HIQ := Lh (sz_ w2 (.cells (an (seq, (kx, mx))).toArray 79))
 generalize w2.alloc (.cells (an (seq, (kx, mx))).toArray 79) = w3 at *
 have HIL := Lh (show w2.heap.size < w3.heap.size by rw [HIQ.o]; omega)
 have HIG := Lh (show w.heap.size + 2 < w2.heap.size from HM.o.lt)
 generalize w2.heap.size = qi at *
 generalize ha : Act.put _ _ _ = z9; simp [Act.put] at ha; subst ha
 clear c0 c1 c2 HM
 have c1 := HM3.o.rec_.kind_
 rcases Bool.eq_false_or_eq_true (kind == 2) with hk2 | hk2
 ·have HK := Lh hk2
  have hkk : r.kind = 2 := by rw [HRK.o.1]; simpa using HK.o
  have cn := (gt HM3.o.row).2.2.2.2
  have cq := HM3.o.rec_.seq_
  by_cases hsn : seq < b.next
  ·have HF := Lh (HMN.o (by rw [if_pos hkk, HRK.o.2.1]; simpa using hsn))
   clear hkk
   go_wp2_with (refine ai (some 44) rfl ?_)
   refine Stop.go (aa rfl 30 rfl rfl gi rfl (cs := aj b L P O) (fg ..) HM3.o.row_all ?_)
   refine ac rfl 30 rfl rfl rfl HM3.o.end_ ?_
   have HX := Lh HM3.o.done
   generalize w3.setRow (w.heap.size + 2) (aj b L P O).toArray = wz at *
   generalize ha : Act.put _ _ _ = z9; simp [Act.put] at ha; subst ha
   go_wp2_with fail
   refine iq rfl rfl rfl rfl HX.o.2.2 ?_
   exact xm HF.o HX.o.1 HX.o.2.1
  have HF := Lh (HMY.o (by rw [if_pos hkk, HRK.o.2.1]; simpa using hsn))
  have HWR := Lh (qqi (b := b) hkk)
  have HWP := Lh (show IntKind.i64.wrap (seq + 1) = seq + 1 by
   have := HBND.o.1 (.inl hkk)
   rw [HRK.o.2.1] at this
   simp [IntKind.wrap, IntKind.bits, IntKind.signed]
   omega)
  rw [← HRK.o.2.2.1, ← HRK.o.2.2.2, HRK.o.2.1] at HWR
  clear hkk
  go_wp2_with fail
  obtain ⟨AO, cO, hoe, _, _⟩ := HM3.o.ints.form
  subst hoe
  have HM4 := Lh HM3.o.drew
  have HI4 := Lh (show ∀ j u, (an (seq, (kx, mx)))[j]? = some u → w3.drew.cell? ⟨qi, 0 + j, none⟩ = some u from HIT.o)
  have HIL4 := Lh (show qi < w3.drew.heap.size from HIL.o)
  clear cn cq
  refine qc (fun w' => Below w3.drew.heap.size w3.drew w') [3, 5] 9 (by kernel_rfl) rfl ?_
  have HRO := Lh (qle HM4.o.ints)
  have HC3 := Lh ((gt HM4.o.row).2.2.2.1)
  have HG3 := Lh (show w.heap.size < w3.drew.heap.size by have := HM4.o.lt; omega)
  generalize w3.drew = w4 at *
  refine wq1 (i := 1) (v := .pointer (some ⟨w.heap.size, 3, none⟩)) rfl (by kernel_rfl) rfl (fun wq => by go_simp) (br _ _) ?_
  generalize ha : Act.put _ _ _ = z9; simp [Act.put] at ha; subst ha
  refine wq3 (i := 2) (v := .slice AO b.ints.length cO) rfl (by kernel_rfl) rfl (fun wq hbq => du rfl rfl (jo Tryz.underlying27 ((hbq.cell (p := ⟨w.heap.size, 3, none⟩) HG3.o).trans HC3.o))) (br _ _) ?_
  generalize ha : Act.put _ _ _ = z9; simp [Act.put] at ha; subst ha
  refine wq3 (i := 4) (v := qaq (seq, (kx, mx))) rfl (by kernel_rfl) rfl (fun wq hbq => du rfl rfl (fw tg rfl (tf _) (fun j u hu => (hbq.cell (p := ⟨qi, 0 + j, none⟩) HIL4.o).trans (HI4.o j u hu)))) (br _ _) ?_
  generalize ha : Act.put _ _ _ = z9; simp [Act.put] at ha; subst ha
  have HBB := Lh (br w4.heap.size w4)
  refine qdg (i := 0) (j := 5) (by kernel_rfl) rfl rfl (fun Q' hQ' => ?_) (fun Q' hQ' => ?_)
  ·go_wp2_with fail
   have hb1 : Below w4.heap.size w4 (w4.alloc (.cells #[] 79)) := (br _ _).alloc (nr _) _
   have hsz1 := HBB.o.size
   have HE1 := Lh (ug (t := 79) 67 hsz1)
   have HB1 := Lh (HBB.o.trans (hb1.mono hsz1))
   clear hb1 hsz1
   generalize w4.alloc (.cells #[] 79) = v1 at *
   refine ⟨okU HB1.o, ?_⟩
   refine qdg (i := 3) (j := 5) (by kernel_rfl) rfl rfl (fun Q' hQ' => ?_) (fun Q' hQ' => ?_)
   ·have hsz2 := HB1.o.size
    have hil2 := HLL.o.2.2
    refine ay jb rfl rfl rfl rfl HE1.o (B := w4.heap.size) (news := dt b.ints) (m := b.ints.length) (HRO.o.below HB1.o) (fy _) re ?_ ?_ hsz2 ?_
    ·simp only [maxLen]; omega
    ·omega
    intro v2v v2 hown2 hg2 _ _
    rw [Nat.zero_add, List.nil_append] at hown2
    obtain ⟨A6, c6, hv6, _, _⟩ := ap hown2
    subst hv6
    have HB2 := Lh (ax HB1.o hg2 HE1.o (nr _) hsz2)
    have HT2 := Lh hown2
    clear hown2 hg2 hsz2 hil2
    generalize ha : Act.put _ _ _ = z9; simp [Act.put] at ha; subst ha
    refine hQ' _ _ ⟨okU HB2.o, ?_⟩
    refine ea (i := 5) (by kernel_rfl) rfl (fun Q' hQ' => ?_)
    refine cd rfl 27 79 rfl rfl (vs := an ((seq, (kx, mx)) : dg)) Tryz.underlying27 (qe _) rfl (by rw [bq]; omega) (by rw [bq]; decide) ?_
    have hb3 : Below v2.heap.size v2 (v2.alloc (.cells (an ((seq, (kx, mx)) : dg)).toArray 79)) := (br _ _).alloc (nr _) _
    have hsz3 := HB2.o.size
    have HB3 := Lh (HB2.o.trans (hb3.mono hsz3))
    have HR3 := Lh (hzn v2 (.cells (an ((seq, (kx, mx)) : dg)).toArray 79))
    have HT3 := Lh (bw HT2.o hb3)
    clear hb3 hsz3
    generalize v2.alloc (.cells (an ((seq, (kx, mx)) : dg)).toArray 79) = v3 at *
    generalize ha : Act.put _ _ _ = z9; simp [Act.put] at ha; subst ha
    refine hQ' _ _ ⟨okU HB3.o, ?_⟩
    refine ea (i := 6) (by kernel_rfl) rfl (fun Q' hQ' => ?_)
    have hsz9 := HB3.o.size
    have hil9 := HLL.o.2.2
    refine ay jb rfl rfl rfl rfl HT3.o (Rd.row (B := v3.heap.size) HR3.o (gl HR3.o)) (m := 1) (by rw [show (an ((seq, (kx, mx)) : dg)).toArray.toList = an ((seq, (kx, mx)) : dg) from rfl, bq]) (by intro u hu; exact ey _ u hu) ?_ ?_ hsz9 ?_
    ·simp only [maxLen]; omega
    ·omega
    intro v9v v9 hown9 hg9 _ _
    obtain ⟨A7, c7, hv7, _, _⟩ := ap hown9
    subst hv7
    have HB9 := Lh (ax HB3.o hg9 HT3.o (nr _) hsz9)
    have HM9 := Lh (HM4.o.later HB9.o)
    have HF9 := Lh (qa HSB.o hown9 (by have := HG3.o; omega))
    have HS9 := Lh (show SlR gh v9 v9.heap.size (.slice A7 (b.ints.length + 1) c7) (b.ints ++ [((seq, (kx, mx)) : dg)]) from ju (E := gh) (enc := an) (fun _ _ => rfl) (by
     have ho := hown9
     rw [List.length_append, List.flatMap_append]
     show v9.ownsRow w4.heap.size 79 67 _ (b.ints.length + 1) _
     simpa [dt] using ho))
    clear hown9 hg9 hsz9 hil9
    generalize ha : Act.put _ _ _ = z9; simp [Act.put] at ha; subst ha
    refine hQ' _ _ ⟨iy (by kernel_rfl), ?_⟩
    refine ea (i := 7) (by kernel_rfl) rfl (fun Q' hQ' => ?_)
    go_wp2_with fail
    refine ⟨iy (by kernel_rfl), ?_⟩
    refine ea (i := 8) (by kernel_rfl) rfl (fun Q' hQ' => ?_)
    have HST := Lh (oa (x := .slice A7 (b.ints.length + 1) c7) (ty := 27) (i := 3) HM9.o.row (by kernel_rfl) rfl rfl (by decide) (b' := { b with ints := b.ints ++ [(seq, (kx, mx))] }) (L' := L) (P' := P) (O' := (.slice A7 (b.ints.length + 1) c7)) rfl)
    refine (ac rfl 27 rfl rfl rfl HST.o ?_)
    have HMA := Lh (HM9.o.turn (b' := { b with ints := b.ints ++ [(seq, (kx, mx))] }) (L' := L) (P' := P) (O' := (.slice A7 (b.ints.length + 1) c7)) HM9.o.live HM9.o.pins HS9.o ⟨HM9.o.far.1, HM9.o.far.2.1, HF9.o⟩)
    clear HST
    generalize v9.setRow w.heap.size (aj ({ b with ints := b.ints ++ [(seq, (kx, mx))] }) (L) (P) ((.slice A7 (b.ints.length + 1) c7))).toArray = wa at *
    generalize ha : Act.put _ _ _ = z9; simp [Act.put] at ha; subst ha
    refine hQ' _ _ ⟨iy (by kernel_rfl), ?_⟩
    refine rn (by kernel_rfl) ?_ _
    have cs1 := HMA.o.rec_.seq_
    have hwr := HWP.o
    go_wp2_with (refine ai none rfl ?_)
    have HST := Lh (oa (x := .int .i64 (seq + 1)) (ty := 3) (i := 4) HMA.o.row (by kernel_rfl) rfl rfl (by decide) (b' := { b with ints := b.ints ++ [(seq, (kx, mx))], next := seq + 1 }) (L' := L) (P' := P) (O' := (.slice A7 (b.ints.length + 1) c7)) rfl)
    refine Stop.go (ac rfl 3 rfl rfl rfl HST.o ?_)
    have HMB := Lh (HMA.o.turn (b' := { b with ints := b.ints ++ [(seq, (kx, mx))], next := seq + 1 }) (L' := L) (P' := P) (O' := (.slice A7 (b.ints.length + 1) c7)) HMA.o.live HMA.o.pins HMA.o.ints ⟨HMA.o.far.1, HMA.o.far.2.1, HMA.o.far.2.2⟩)
    clear HST
    generalize wa.setRow w.heap.size (aj ({ b with ints := b.ints ++ [(seq, (kx, mx))], next := seq + 1 }) (L) (P) ((.slice A7 (b.ints.length + 1) c7))).toArray = wb at *
    generalize ha : Act.put _ _ _ = z9; simp [Act.put] at ha; subst ha
    clear cs1 hwr
    go_wp2_with (refine ai (some 57) rfl ?_)
    refine Stop.go (aa rfl 30 rfl rfl gi rfl (cs := aj { b with ints := b.ints ++ [(seq, (kx, mx))], next := seq + 1 } L P (.slice A7 (b.ints.length + 1) c7)) (fg ..) HMB.o.row_all ?_)
    refine ac rfl 30 rfl rfl rfl HMB.o.end_ ?_
    have HX := Lh HMB.o.done
    generalize wb.setRow (w.heap.size + 2) (aj { b with ints := b.ints ++ [(seq, (kx, mx))], next := seq + 1 } L P (.slice A7 (b.ints.length + 1) c7)).toArray = wz at *
    generalize ha : Act.put _ _ _ = z9; simp [Act.put] at ha; subst ha
    go_wp2_with fail
    refine iq rfl rfl rfl rfl HX.o.2.2 ?_
    exact HPO.o _ _ _ HF.o HWR.o HX.o.1 HX.o.2.1
   ·refine cd rfl 27 79 rfl rfl (vs := an ((seq, (kx, mx)) : dg)) Tryz.underlying27 (qe _) rfl (by rw [bq]; omega) (by rw [bq]; decide) ?_
    have hb4 : Below v1.heap.size v1 (v1.alloc (.cells (an ((seq, (kx, mx)) : dg)).toArray 79)) := (br _ _).alloc (nr _) _
    have hsz4 := HB1.o.size
    have HB4 := Lh (HB1.o.trans (hb4.mono hsz4))
    have HR4 := Lh (hzn v1 (.cells (an ((seq, (kx, mx)) : dg)).toArray 79))
    have HE4 := Lh (bw HE1.o hb4)
    have HNE4 := Lh (Nat.ne_of_lt (own_lt5 HE1.o))
    clear hb4 hsz4
    generalize v1.alloc (.cells (an ((seq, (kx, mx)) : dg)).toArray 79) = v4 at *
    generalize ha : Act.put _ _ _ = z9; simp [Act.put] at ha; subst ha
    refine hQ' _ _ ⟨okU HB4.o, ?_⟩
    refine ea (i := 3) (by kernel_rfl) rfl (fun Q' hQ' => ?_)
    have hsz5 := HB4.o.size
    have hil5 := HLL.o.2.2
    refine ay jb rfl rfl rfl rfl HE4.o (B := w4.heap.size) (news := dt b.ints) (m := b.ints.length) (HRO.o.below HB4.o) (fy _) re ?_ ?_ hsz5 ?_
    ·simp only [maxLen]; omega
    ·omega
    intro v5v v5 hown5 hg5 _ _
    rw [Nat.zero_add, List.nil_append] at hown5
    obtain ⟨A6, c6, hv6, _, _⟩ := ap hown5
    subst hv6
    have HB5 := Lh (ax HB4.o hg5 HE4.o (nr _) hsz5)
    have HT5 := Lh hown5
    have HR5 := Lh ((hg5.block _ (gl HR4.o) (fun e => by injection e with e; exact HNE4.o e.symm)).trans HR4.o)
    clear hown5 hg5 hsz5 hil5
    generalize ha : Act.put _ _ _ = z9; simp [Act.put] at ha; subst ha
    refine hQ' _ _ ⟨okU HB5.o, ?_⟩
    refine ea (i := 6) (by kernel_rfl) rfl (fun Q' hQ' => ?_)
    have hsz10 := HB5.o.size
    have hil10 := HLL.o.2.2
    refine ay jb rfl rfl rfl rfl HT5.o (Rd.row (B := v5.heap.size) HR5.o (gl HR5.o)) (m := 1) (by rw [show (an ((seq, (kx, mx)) : dg)).toArray.toList = an ((seq, (kx, mx)) : dg) from rfl, bq]) (by intro u hu; exact ey _ u hu) ?_ ?_ hsz10 ?_
    ·simp only [maxLen]; omega
    ·omega
    intro v10v v10 hown10 hg10 _ _
    obtain ⟨A7, c7, hv7, _, _⟩ := ap hown10
    subst hv7
    have HB10 := Lh (ax HB5.o hg10 HT5.o (nr _) hsz10)
    have HM10 := Lh (HM4.o.later HB10.o)
    have HF10 := Lh (qa HSB.o hown10 (by have := HG3.o; omega))
    have HS10 := Lh (show SlR gh v10 v10.heap.size (.slice A7 (b.ints.length + 1) c7) (b.ints ++ [((seq, (kx, mx)) : dg)]) from ju (E := gh) (enc := an) (fun _ _ => rfl) (by
     have ho := hown10
     rw [List.length_append, List.flatMap_append]
     show v10.ownsRow w4.heap.size 79 67 _ (b.ints.length + 1) _
     simpa [dt] using ho))
    clear hown10 hg10 hsz10 hil10
    generalize ha : Act.put _ _ _ = z9; simp [Act.put] at ha; subst ha
    refine hQ' _ _ ⟨iy (by kernel_rfl), ?_⟩
    refine ea (i := 7) (by kernel_rfl) rfl (fun Q' hQ' => ?_)
    go_wp2_with fail
    refine ⟨iy (by kernel_rfl), ?_⟩
    refine ea (i := 8) (by kernel_rfl) rfl (fun Q' hQ' => ?_)
    have HST := Lh (oa (x := .slice A7 (b.ints.length + 1) c7) (ty := 27) (i := 3) HM10.o.row (by kernel_rfl) rfl rfl (by decide) (b' := { b with ints := b.ints ++ [(seq, (kx, mx))] }) (L' := L) (P' := P) (O' := (.slice A7 (b.ints.length + 1) c7)) rfl)
    refine (ac rfl 27 rfl rfl rfl HST.o ?_)
    have HMA := Lh (HM10.o.turn (b' := { b with ints := b.ints ++ [(seq, (kx, mx))] }) (L' := L) (P' := P) (O' := (.slice A7 (b.ints.length + 1) c7)) HM10.o.live HM10.o.pins HS10.o ⟨HM10.o.far.1, HM10.o.far.2.1, HF10.o⟩)
    clear HST
    generalize v10.setRow w.heap.size (aj ({ b with ints := b.ints ++ [(seq, (kx, mx))] }) (L) (P) ((.slice A7 (b.ints.length + 1) c7))).toArray = wa at *
    generalize ha : Act.put _ _ _ = z9; simp [Act.put] at ha; subst ha
    refine hQ' _ _ ⟨iy (by kernel_rfl), ?_⟩
    refine rn (by kernel_rfl) ?_ _
    have cs1 := HMA.o.rec_.seq_
    have hwr := HWP.o
    go_wp2_with (refine ai none rfl ?_)
    have HST := Lh (oa (x := .int .i64 (seq + 1)) (ty := 3) (i := 4) HMA.o.row (by kernel_rfl) rfl rfl (by decide) (b' := { b with ints := b.ints ++ [(seq, (kx, mx))], next := seq + 1 }) (L' := L) (P' := P) (O' := (.slice A7 (b.ints.length + 1) c7)) rfl)
    refine Stop.go (ac rfl 3 rfl rfl rfl HST.o ?_)
    have HMB := Lh (HMA.o.turn (b' := { b with ints := b.ints ++ [(seq, (kx, mx))], next := seq + 1 }) (L' := L) (P' := P) (O' := (.slice A7 (b.ints.length + 1) c7)) HMA.o.live HMA.o.pins HMA.o.ints ⟨HMA.o.far.1, HMA.o.far.2.1, HMA.o.far.2.2⟩)
    clear HST
    generalize wa.setRow w.heap.size (aj ({ b with ints := b.ints ++ [(seq, (kx, mx))], next := seq + 1 }) (L) (P) ((.slice A7 (b.ints.length + 1) c7))).toArray = wb at *
    generalize ha : Act.put _ _ _ = z9; simp [Act.put] at ha; subst ha
    clear cs1 hwr
    go_wp2_with (refine ai (some 57) rfl ?_)
    refine Stop.go (aa rfl 30 rfl rfl gi rfl (cs := aj { b with ints := b.ints ++ [(seq, (kx, mx))], next := seq + 1 } L P (.slice A7 (b.ints.length + 1) c7)) (fg ..) HMB.o.row_all ?_)
    refine ac rfl 30 rfl rfl rfl HMB.o.end_ ?_
    have HX := Lh HMB.o.done
    generalize wb.setRow (w.heap.size + 2) (aj { b with ints := b.ints ++ [(seq, (kx, mx))], next := seq + 1 } L P (.slice A7 (b.ints.length + 1) c7)).toArray = wz at *
    generalize ha : Act.put _ _ _ = z9; simp [Act.put] at ha; subst ha
    go_wp2_with fail
    refine iq rfl rfl rfl rfl HX.o.2.2 ?_
    exact HPO.o _ _ _ HF.o HWR.o HX.o.1 HX.o.2.1
  ·refine cd rfl 27 79 rfl rfl (vs := an ((seq, (kx, mx)) : dg)) Tryz.underlying27 (qe _) rfl (by rw [bq]; omega) (by rw [bq]; decide) ?_
   have hb6 : Below w4.heap.size w4 (w4.alloc (.cells (an ((seq, (kx, mx)) : dg)).toArray 79)) := (br _ _).alloc (nr _) _
   have hsz6 := HBB.o.size
   have HB6 := Lh (HBB.o.trans (hb6.mono hsz6))
   have HR6 := Lh (hzn w4 (.cells (an ((seq, (kx, mx)) : dg)).toArray 79))
   clear hb6 hsz6
   generalize w4.alloc (.cells (an ((seq, (kx, mx)) : dg)).toArray 79) = v6 at *
   generalize ha : Act.put _ _ _ = z9; simp [Act.put] at ha; subst ha
   refine hQ' _ _ ⟨okU HB6.o, ?_⟩
   refine ea (i := 0) (by kernel_rfl) rfl (fun Q' hQ' => ?_)
   go_wp2_with fail
   have hb7 : Below v6.heap.size v6 (v6.alloc (.cells #[] 79)) := (br _ _).alloc (nr _) _
   have hsz7 := HB6.o.size
   have HE7 := Lh (ug (t := 79) 67 hsz7)
   have HB7 := Lh (HB6.o.trans (hb7.mono hsz7))
   have HR7 := Lh ((hb7.block _ (gl HR6.o)).trans HR6.o)
   have HNE7 := Lh (show v6.heap.size ≠ w4.heap.size from Nat.ne_of_gt (gl HR6.o))
   clear hb7 hsz7
   generalize v6.alloc (.cells #[] 79) = v7 at *
   refine ⟨okU HB7.o, ?_⟩
   refine ea (i := 3) (by kernel_rfl) rfl (fun Q' hQ' => ?_)
   have hsz8 := HB7.o.size
   have hil8 := HLL.o.2.2
   refine ay jb rfl rfl rfl rfl HE7.o (B := w4.heap.size) (news := dt b.ints) (m := b.ints.length) (HRO.o.below HB7.o) (fy _) re ?_ ?_ hsz8 ?_
   ·simp only [maxLen]; omega
   ·omega
   intro v8v v8 hown8 hg8 _ _
   rw [Nat.zero_add, List.nil_append] at hown8
   obtain ⟨A6, c6, hv6, _, _⟩ := ap hown8
   subst hv6
   have HB8 := Lh (ax HB7.o hg8 HE7.o (nr _) hsz8)
   have HT8 := Lh hown8
   have HR8 := Lh ((hg8.block _ (gl HR7.o) (fun e => by injection e with e; exact HNE7.o e.symm)).trans HR7.o)
   clear hown8 hg8 hsz8 hil8
   generalize ha : Act.put _ _ _ = z9; simp [Act.put] at ha; subst ha
   refine hQ' _ _ ⟨okU HB8.o, ?_⟩
   refine ea (i := 6) (by kernel_rfl) rfl (fun Q' hQ' => ?_)
   have hsz11 := HB8.o.size
   have hil11 := HLL.o.2.2
   refine ay jb rfl rfl rfl rfl HT8.o (Rd.row (B := v8.heap.size) HR8.o (gl HR8.o)) (m := 1) (by rw [show (an ((seq, (kx, mx)) : dg)).toArray.toList = an ((seq, (kx, mx)) : dg) from rfl, bq]) (by intro u hu; exact ey _ u hu) ?_ ?_ hsz11 ?_
   ·simp only [maxLen]; omega
   ·omega
   intro v11v v11 hown11 hg11 _ _
   obtain ⟨A7, c7, hv7, _, _⟩ := ap hown11
   subst hv7
   have HB11 := Lh (ax HB8.o hg11 HT8.o (nr _) hsz11)
   have HM11 := Lh (HM4.o.later HB11.o)
   have HF11 := Lh (qa HSB.o hown11 (by have := HG3.o; omega))
   have HS11 := Lh (show SlR gh v11 v11.heap.size (.slice A7 (b.ints.length + 1) c7) (b.ints ++ [((seq, (kx, mx)) : dg)]) from ju (E := gh) (enc := an) (fun _ _ => rfl) (by
    have ho := hown11
    rw [List.length_append, List.flatMap_append]
    show v11.ownsRow w4.heap.size 79 67 _ (b.ints.length + 1) _
    simpa [dt] using ho))
   clear hown11 hg11 hsz11 hil11
   generalize ha : Act.put _ _ _ = z9; simp [Act.put] at ha; subst ha
   refine hQ' _ _ ⟨iy (by kernel_rfl), ?_⟩
   refine ea (i := 7) (by kernel_rfl) rfl (fun Q' hQ' => ?_)
   go_wp2_with fail
   refine ⟨iy (by kernel_rfl), ?_⟩
   refine ea (i := 8) (by kernel_rfl) rfl (fun Q' hQ' => ?_)
   have HST := Lh (oa (x := .slice A7 (b.ints.length + 1) c7) (ty := 27) (i := 3) HM11.o.row (by kernel_rfl) rfl rfl (by decide) (b' := { b with ints := b.ints ++ [(seq, (kx, mx))] }) (L' := L) (P' := P) (O' := (.slice A7 (b.ints.length + 1) c7)) rfl)
   refine (ac rfl 27 rfl rfl rfl HST.o ?_)
   have HMA := Lh (HM11.o.turn (b' := { b with ints := b.ints ++ [(seq, (kx, mx))] }) (L' := L) (P' := P) (O' := (.slice A7 (b.ints.length + 1) c7)) HM11.o.live HM11.o.pins HS11.o ⟨HM11.o.far.1, HM11.o.far.2.1, HF11.o⟩)
   clear HST
   generalize v11.setRow w.heap.size (aj ({ b with ints := b.ints ++ [(seq, (kx, mx))] }) (L) (P) ((.slice A7 (b.ints.length + 1) c7))).toArray = wa at *
   generalize ha : Act.put _ _ _ = z9; simp [Act.put] at ha; subst ha
   refine hQ' _ _ ⟨iy (by kernel_rfl), ?_⟩
   refine rn (by kernel_rfl) ?_ _
   have cs1 := HMA.o.rec_.seq_
   have hwr := HWP.o
   go_wp2_with (refine ai none rfl ?_)
   have HST := Lh (oa (x := .int .i64 (seq + 1)) (ty := 3) (i := 4) HMA.o.row (by kernel_rfl) rfl rfl (by decide) (b' := { b with ints := b.ints ++ [(seq, (kx, mx))], next := seq + 1 }) (L' := L) (P' := P) (O' := (.slice A7 (b.ints.length + 1) c7)) rfl)
   refine Stop.go (ac rfl 3 rfl rfl rfl HST.o ?_)
   have HMB := Lh (HMA.o.turn (b' := { b with ints := b.ints ++ [(seq, (kx, mx))], next := seq + 1 }) (L' := L) (P' := P) (O' := (.slice A7 (b.ints.length + 1) c7)) HMA.o.live HMA.o.pins HMA.o.ints ⟨HMA.o.far.1, HMA.o.far.2.1, HMA.o.far.2.2⟩)
   clear HST
   generalize wa.setRow w.heap.size (aj ({ b with ints := b.ints ++ [(seq, (kx, mx))], next := seq + 1 }) (L) (P) ((.slice A7 (b.ints.length + 1) c7))).toArray = wb at *
   generalize ha : Act.put _ _ _ = z9; simp [Act.put] at ha; subst ha
   clear cs1 hwr
   go_wp2_with (refine ai (some 57) rfl ?_)
   refine Stop.go (aa rfl 30 rfl rfl gi rfl (cs := aj { b with ints := b.ints ++ [(seq, (kx, mx))], next := seq + 1 } L P (.slice A7 (b.ints.length + 1) c7)) (fg ..) HMB.o.row_all ?_)
   refine ac rfl 30 rfl rfl rfl HMB.o.end_ ?_
   have HX := Lh HMB.o.done
   generalize wb.setRow (w.heap.size + 2) (aj { b with ints := b.ints ++ [(seq, (kx, mx))], next := seq + 1 } L P (.slice A7 (b.ints.length + 1) c7)).toArray = wz at *
   generalize ha : Act.put _ _ _ = z9; simp [Act.put] at ha; subst ha
   go_wp2_with fail
   refine iq rfl rfl rfl rfl HX.o.2.2 ?_
   exact HPO.o _ _ _ HF.o HWR.o HX.o.1 HX.o.2.1
 rcases Bool.eq_false_or_eq_true (kind == 3) with hk3 | hk3
 ·have HK := Lh hk3
  have hkk : r.kind = 3 := by rw [HRK.o.1]; simpa using HK.o
  have HMI := Lh (show ∀ z, (mc b.ints r.seq).isSome = z → mayD b r = z from fun z h => by
   cases z
   ·exact HMN.o (by rw [if_neg (by omega), if_pos hkk]; exact h)
   ·exact HMY.o (by rw [if_neg (by omega), if_pos hkk]; exact h))
  have HKK := Lh hkk
  rw [HRK.o.2.1] at HMI
  clear hkk
  obtain ⟨AO, cO, hoe, hco, hcm⟩ := HM3.o.ints.form
  subst hoe
  have HIL3 := HLL.o.2.2
  go_wp2_with fail
  go_loopw [7] (fun v7 wr => ∃ i : Nat, i ≤ b.ints.length ∧ v7 = .int .i64 i ∧ Hid (∀ (j : Nat) (y : dg), j < i → b.ints[j]? = some y → y.1 ≠ seq) ∧ Hid (Below w3.heap.size w3 wr)) (fun v7 _ => b.ints.length - (intOf v7).toNat)
  case atStart => exact ⟨0, Nat.zero_le _, rfl, (fun j y hj _ => by omega), br _ _⟩
  case round =>
   obtain ⟨i, hi, rfl, HF, HB⟩ := hrel
   have HR := Lh (HM3.o.later HB.o)
   have c3 := (gt HR.o.row).2.2.2.1
   by_cases hlt : i < b.ints.length
   ·have cs := HR.o.rec_.seq_
    obtain ⟨q, off, cs', hAO, _, hqB, hrep, hcell⟩ := HR.o.ints.get hlt (by decide)
    subst hAO
    obtain ⟨x, hx⟩ : ∃ x, x = b.ints[i] := ⟨_, rfl⟩
    rw [← hx] at hrep
    have hrep : cs' = an x := hrep
    subst hrep
    have HX := Lh (show b.ints[i]? = some x by rw [hx]; exact List.getElem?_eq_getElem hlt)
    have HC := Lh (show ∀ j u, (an x)[j]? = some u → wr.cell? ⟨q, off + i * 67 + j, none⟩ = some u from fun j u hu => by rw [Nat.add_assoc]; exact hcell j u hu)
    have HQB := Lh hqB
    have ci : wr.cell? ⟨q, off + i * 67, none⟩ = some (.int .i64 x.1) := HC.o 0 _ rfl
    have HBW := Lh HB.o
    clear hcell hx hqB HB
    go_wp2_with fail
    refine Text.wp_text [] (by kernel_rfl) (by kernel_rfl) (fun Q' hQ' => ?_)
    have HRd := Lh HR.o.drew
    have HCd := Lh (show ∀ j u, (an x)[j]? = some u → wr.drew.cell? ⟨q, off + i * 67 + j, none⟩ = some u from HC.o)
    have c3d : wr.drew.cell? ⟨w.heap.size, 3, none⟩ = _ := c3
    have csd : wr.drew.cell? ⟨w.heap.size + 1, 1, none⟩ = _ := cs
    have cid : wr.drew.cell? ⟨q, off + i * 67, none⟩ = _ := ci
    have HBd := Lh (show Below w3.heap.size w3 wr.drew from HBW.o.drew)
    clear HR HC c3 cs ci HBW
    generalize wr.drew = w4 at *
    rcases Bool.eq_false_or_eq_true (x.1 == seq) with hxs | hxs
    ·have HXS := Lh (show x.1 = seq by simpa using hxs)
     go_wp2_with fail
     refine ⟨by rfl, ?_⟩
     go_wp2_with fail
     refine Text.wp_text [] (by kernel_rfl) (by kernel_rfl) (fun Q' hQ' => ?_)
     have HM4 := Lh HRd.o.drew
     have HC4 := Lh (show ∀ j u, (an x)[j]? = some u → w4.drew.cell? ⟨q, off + i * 67 + j, none⟩ = some u from HCd.o)
     have c34 : w4.drew.cell? ⟨w.heap.size, 3, none⟩ = _ := c3d
     clear HRd HCd c3d csd cid HBd
     generalize w4.drew = w5 at *
     have c15 := (gt HM4.o.row).2.1
     obtain ⟨AL, cL, hle, _, _⟩ := HM4.o.live.form
     subst hle
     go_wp2_with (refine ai (some 83) rfl ?_)
     refine Stop.go (aa rfl 79 rfl rfl tg rfl (cs := an x) (tf x) HC4.o ?_)
     generalize ha : Act.put _ _ _ = z9; simp [Act.put] at ha; subst ha
     go_wp2_with fail
     refine (qkp (fm b.live) x AL _ cL w5.heap.size w5 HM4.o.live (nr _) (by rw [oe]; have := HLL.o.1; omega)).mono ?_
     rintro e w6 ⟨v6, rfl, ho6, hb6⟩
     have HM6 := Lh (HM4.o.later hb6)
     have HF6 := Lh (qa HSB.o ho6 (by have := HM4.o.lt; omega))
     have HS6 := Lh (show SlR gh w6 w6.heap.size v6 (fm (putL x.2.1 x.2.2 b.live)) by
      have := ju (E := gh) (enc := an) (fun _ _ => rfl) ho6
      rw [← qid]
      exact this)
     obtain ⟨A6, c6, hv6, _, _⟩ := HS6.o.form
     subst hv6
     clear ho6 hb6 HM4 HC4 c34 c15
     go_wp2_with (refine ai none rfl ?_)
     have HST := Lh (oa (x := .slice A6 (fm (putL x.2.1 x.2.2 b.live)).length c6) (ty := 27) (i := 1) HM6.o.row (by kernel_rfl) rfl rfl (by decide) (b' := { b with live := putL x.2.1 x.2.2 b.live }) (L' := (.slice A6 (fm (putL x.2.1 x.2.2 b.live)).length c6)) (P' := P) (O' := (.slice (some ⟨q, off, none⟩) b.ints.length cO)) rfl)
     refine Stop.go (ac rfl 27 rfl rfl rfl HST.o ?_)
     have HM7 := Lh (HM6.o.turn (b' := { b with live := putL x.2.1 x.2.2 b.live }) (L' := (.slice A6 (fm (putL x.2.1 x.2.2 b.live)).length c6)) (P' := P) (O' := (.slice (some ⟨q, off, none⟩) b.ints.length cO)) HS6.o HM6.o.pins HM6.o.ints ⟨HF6.o, HM6.o.far.2.1, HM6.o.far.2.2⟩)
     clear HST
     generalize w6.setRow w.heap.size (aj ({ b with live := putL x.2.1 x.2.2 b.live }) ((.slice A6 (fm (putL x.2.1 x.2.2 b.live)).length c6)) (P) ((.slice (some ⟨q, off, none⟩) b.ints.length cO))).toArray = w7 at *
     generalize ha : Act.put _ _ _ = z9; simp [Act.put] at ha; subst ha
     go_wp2_with fail
     refine ⟨by rfl, ?_⟩
     have c37 := (gt HM7.o.row).2.2.2.1
     have hil := HLL.o.2.2
     have hs7 := HM7.o.lt
     have c37a : (w7.alloc (.cells #[] 79)).cell? ⟨w.heap.size, 3, none⟩ = _ := (((br w7.heap.size w7).alloc (nr _) (.cells #[] 79)).cell (p := ⟨w.heap.size, 3, none⟩) (by show w.heap.size < _; omega)).trans c37
     go_wp2_with (refine ai (some 90) rfl ?_)
     clear c37a
     have hb8 : Below w7.heap.size w7 (w7.alloc (.cells #[] 79)) := (br _ _).alloc (nr _) _
     have HO8 := Lh (ug (t := 79) 67 (nr w7.heap.size))
     have HB8 := Lh hb8
     have HR7 := Lh (qle HM7.o.ints)
     refine Stop.go (bz rfl (mg (s := 67) (n := b.ints.length) (m := i) (fun _ => by kernel_rfl) Tryz.underlying27 rfl rfl rfl (by omega)) ?_)
     generalize w7.alloc (.cells #[] 79) = w8 at *
     have hbw8 := HB8.o.size
     refine ay jb rfl rfl rfl rfl HO8.o (B := w7.heap.size) (news := dt (b.ints.take i)) (m := i) (by
      have hr := (HR7.o.below HB8.o).cutS (c := cO) (k := 0) (s := 67) (by rw [fy]; exact Nat.mul_le_mul_right _ hco)
      rw [Nat.zero_mul, List.drop_zero] at hr
      rw [sd]
      exact hr.take_ _) (by rw [fy, List.length_take, Nat.min_eq_left (by omega)]) re ?_ ?_ hbw8 ?_
     ·simp only [maxLen]; omega
     ·omega
     intro v9 w9 hown9 hg9 _ _
     rw [Nat.zero_add, List.nil_append] at hown9
     obtain ⟨A9, c9, hv9, _, _⟩ := ap hown9
     subst hv9
     have HB9 := Lh (ax HB8.o hg9 HO8.o (nr _) hbw8)
     have HO9 := Lh hown9
     have c39 := (HB9.o.cell (p := ⟨w.heap.size, 3, none⟩) (by show w.heap.size < _; omega)).trans c37
     clear hown9 hg9 HO8 HB8 hb8 hbw8 c37
     generalize ha : Act.put _ _ _ = z9; simp [Act.put] at ha; subst ha
     have hwr : IntKind.i64.wrap ((i : Int) + 1) = ((i + 1 : Nat) : Int) := by simp [IntKind.wrap, IntKind.bits, IntKind.signed]; omega
     go_wp2_with (refine ai (some 97) rfl ?_)
     refine Stop.go (bz rfl (ku (s := 67) (n := b.ints.length) (m := i + 1) (fun _ => by kernel_rfl) Tryz.underlying27 rfl rfl (by first | rfl | exact congrArg (Value.int .i64) hwr | (simp [Act.eval]; done)) (by omega)) ?_)
     have hbw9 := HB9.o.size
     refine ay jb rfl rfl rfl rfl HO9.o (B := w7.heap.size) (news := dt (b.ints.drop (i + 1))) (m := b.ints.length - (i + 1)) (by
      have hr := (HR7.o.below HB9.o).cutS (c := cO) (k := i + 1) (s := 67) (by rw [fy]; exact Nat.mul_le_mul_right _ hco)
      rw [wl]
      exact hr) (by rw [fy, List.length_drop]) re ?_ ?_ hbw9 ?_
     ·simp only [maxLen]; omega
     ·omega
     intro v10 w10 hown10 hg10 _ _
     obtain ⟨A10, c10, hv10, _, _⟩ := ap hown10
     subst hv10
     have HB10 := Lh (ax HB9.o hg10 HO9.o (nr _) hbw9)
     have HM10 := Lh (HM7.o.later HB10.o)
     have HFD := Lh (find_at HF.o HX.o HXS.o)
     have hnl : i + (b.ints.length - (i + 1)) = (jz b.ints seq).length := by rw [HFD.o.2, List.length_append, List.length_take, List.length_drop]; omega
     rw [hnl] at hown10 ⊢
     have HF10 := Lh (qa HSB.o hown10 (by have := HM7.o.lt; omega))
     have HS10 := Lh (show SlR gh w10 w10.heap.size (.slice A10 (jz b.ints seq).length c10) (jz b.ints seq) from ju (E := gh) (enc := an) (fun _ _ => rfl) (by
      have ho := hown10
      show w10.ownsRow w7.heap.size _ 67 _ _ _
      have e : (jz b.ints seq).flatMap an = dt (b.ints.take i) ++ dt (b.ints.drop (i + 1)) := by rw [HFD.o.2, List.flatMap_append]; rfl
      rw [e]
      exact ho))
     clear hown10 hg10 HO9 HB9 HB10 hnl c39 hwr
     generalize ha : Act.put _ _ _ = z9; simp [Act.put] at ha; subst ha
     go_wp2_with (refine ai none rfl ?_)
     have HST := Lh (oa (x := .slice A10 (jz b.ints seq).length c10) (ty := 27) (i := 3) HM10.o.row (by kernel_rfl) rfl rfl (by decide) (b' := { b with live := putL x.2.1 x.2.2 b.live, ints := jz b.ints seq }) (L' := (.slice A6 (fm (putL x.2.1 x.2.2 b.live)).length c6)) (P' := P) (O' := (.slice A10 (jz b.ints seq).length c10)) rfl)
     refine Stop.go (ac rfl 27 rfl rfl rfl HST.o ?_)
     have HM11 := Lh (HM10.o.turn (b' := { b with live := putL x.2.1 x.2.2 b.live, ints := jz b.ints seq }) (L' := (.slice A6 (fm (putL x.2.1 x.2.2 b.live)).length c6)) (P' := P) (O' := (.slice A10 (jz b.ints seq).length c10)) HM10.o.live HM10.o.pins HS10.o ⟨HM10.o.far.1, HM10.o.far.2.1, HF10.o⟩)
     clear HST
     generalize w10.setRow w.heap.size (aj ({ b with live := putL x.2.1 x.2.2 b.live, ints := jz b.ints seq }) ((.slice A6 (fm (putL x.2.1 x.2.2 b.live)).length c6)) (P) ((.slice A10 (jz b.ints seq).length c10))).toArray = w11 at *
     generalize ha : Act.put _ _ _ = z9; simp [Act.put] at ha; subst ha
     go_wp2_with (refine ai (some 100) rfl ?_)
     refine Stop.go (aa rfl 30 rfl rfl gi rfl (cs := aj { b with live := putL x.2.1 x.2.2 b.live, ints := jz b.ints seq } (.slice A6 (fm (putL x.2.1 x.2.2 b.live)).length c6) P (.slice A10 (jz b.ints seq).length c10)) (fg ..) HM11.o.row_all ?_)
     refine ac rfl 30 rfl rfl rfl HM11.o.end_ ?_
     have HX := Lh HM11.o.done
     generalize w11.setRow (w.heap.size + 2) (aj { b with live := putL x.2.1 x.2.2 b.live, ints := jz b.ints seq } (.slice A6 (fm (putL x.2.1 x.2.2 b.live)).length c6) P (.slice A10 (jz b.ints seq).length c10)).toArray = wz at *
     generalize ha : Act.put _ _ _ = z9; simp [Act.put] at ha; subst ha
     go_wp2_with fail
     refine iq rfl rfl rfl rfl HX.o.2.2 ?_
     have hwr3 := qiv (b := b) (r := r) (i := x) HKK.o (by rw [HRK.o.2.1]; exact HFD.o.1)
     rw [HRK.o.2.1] at hwr3
     exact HPO.o _ _ _ (HMI.o _ (by rw [HFD.o.1]; rfl)) hwr3 HX.o.1 HX.o.2.1
    ·have HXN := Lh (show x.1 ≠ seq by simpa using hxs)
     go_wp2_with fail
     refine ⟨by rfl, ?_⟩
     go_wp2_with fail
     go_roundw
     case rel =>
      refine ⟨i + 1, by omega, by go_num, ?_, HBd.o⟩
      intro j y hj hy
      by_cases hji : j = i
      ·subst hji
       rw [HX.o] at hy
       injection hy with hy
       rw [← hy]
       exact HXN.o
      ·exact HF.o j y (by omega) hy
     case measure => simp [intOf]; omega
   ·have HNF := Lh (show mayD b r = false from HMI.o _ (by
     rw [qud (fun j y hy => HF.o j y (by have := (List.getElem?_eq_some_iff.1 hy).1; omega) hy)]
     rfl))
    go_wp2_with (refine ai (some 101) rfl ?_)
    refine Stop.go (aa rfl 30 rfl rfl gi rfl (cs := aj b L P (.slice AO b.ints.length cO)) (fg ..) HR.o.row_all ?_)
    refine ac rfl 30 rfl rfl rfl HR.o.end_ ?_
    have HX := Lh HR.o.done
    generalize wr.setRow (w.heap.size + 2) (aj b L P (.slice AO b.ints.length cO)).toArray = wz at *
    generalize ha : Act.put _ _ _ = z9; simp [Act.put] at ha; subst ha
    go_wp2_with fail
    refine iq rfl rfl rfl rfl HX.o.2.2 ?_
    exact xm HNF.o HX.o.1 HX.o.2.1
 rcases Bool.eq_false_or_eq_true (kind == 4) with hk4 | hk4
 ·have HK := Lh hk4
  have hkk : r.kind = 4 := by rw [HRK.o.1]; simpa using HK.o
  have HF := Lh (HMY.o (by rw [if_neg (by omega), if_neg (by omega)]))
  have HWR := Lh (qqh (b := b) hkk)
  have hn0 : n = 0 := by rw [HN.o, HBND.o.2.2.2.1 (by omega)]; rfl
  subst hn0
  have hkv : kind = 4 := by simpa using HK.o
  have hx5 : (kind == 5) = false := by rw [hkv]; rfl
  have hx6 : (kind == 6) = false := by rw [hkv]; rfl
  clear hkk hkv
  rw [← HRK.o.2.2.1, ← HRK.o.2.2.2] at HWR
  obtain ⟨AL, cL, hle, _, _⟩ := HM3.o.live.form
  subst hle
  have cf := (gt HM3.o.row).2.1
  go_wp2_with (refine ai (some 107) rfl ?_)
  refine Stop.go (aa rfl 79 rfl rfl tg rfl (cs := an (seq, (kx, mx))) (tf _) HIT.o ?_)
  generalize ha : Act.put _ _ _ = z9; simp [Act.put] at ha; subst ha
  go_wp2_with fail
  refine (qkp (fm b.live) (seq, (kx, mx)) AL _ cL w3.heap.size w3 HM3.o.live (nr _) (by rw [oe]; have := HLL.o.1; omega)).mono ?_
  rintro e w4 ⟨v4, rfl, ho4, hb4⟩
  have HM4 := Lh (HM3.o.later hb4)
  have HF4 := Lh (qa HSB.o ho4 (by have := HM3.o.lt; omega))
  have HS4 := Lh (show SlR gh w4 w4.heap.size v4 (fm (putL kx mx b.live)) from by have := ju (E := gh) (enc := an) (fun _ _ => rfl) ho4; rw [qid] at this; exact this)
  obtain ⟨A4, c4, hv4, _, _⟩ := HS4.o.form
  subst hv4
  clear ho4 hb4 cf
  go_wp2_with (refine ai none rfl ?_)
  have HST := Lh (oa (x := .slice A4 (fm (putL kx mx b.live)).length c4) (ty := 27) (i := 1) HM4.o.row (by kernel_rfl) rfl rfl (by decide) (b' := { b with live := putL kx mx b.live }) (L' := (.slice A4 (fm (putL kx mx b.live)).length c4)) (P' := P) (O' := O) rfl)
  refine Stop.go (ac rfl 27 rfl rfl rfl HST.o ?_)
  have HM5 := Lh (HM4.o.turn (b' := { b with live := putL kx mx b.live }) (L' := (.slice A4 (fm (putL kx mx b.live)).length c4)) (P' := P) (O' := O) HS4.o HM4.o.pins HM4.o.ints ⟨HF4.o, HM4.o.far.2.1, HM4.o.far.2.2⟩)
  clear HST
  generalize w4.setRow w.heap.size (aj ({ b with live := putL kx mx b.live }) ((.slice A4 (fm (putL kx mx b.live)).length c4)) (P) (O)).toArray = w5 at *
  generalize ha : Act.put _ _ _ = z9; simp [Act.put] at ha; subst ha
  have c1 := HM5.o.rec_.kind_
  have ck := HM5.o.rec_.keys_
  go_wp2_with fail
  go_loopw [9] (fun v9 wr => v9 = .int .i64 0 ∧ Hid (wr = w5)) (fun _ _ => 0)
  case atStart => exact ⟨rfl, rfl⟩
  case round =>
   obtain ⟨rfl, HW⟩ := hrel
   have hw := HW.o
   subst hw
   go_wp2_with (refine ai (some 144) rfl ?_)
   refine Stop.go (aa rfl 30 rfl rfl gi rfl (cs := aj { b with live := putL kx mx b.live } (.slice A4 (fm (putL kx mx b.live)).length c4) P O) (fg ..) HM5.o.row_all ?_)
   refine ac rfl 30 rfl rfl rfl HM5.o.end_ ?_
   have HX := Lh HM5.o.done
   generalize wr.setRow (w.heap.size + 2) (aj { b with live := putL kx mx b.live } (.slice A4 (fm (putL kx mx b.live)).length c4) P O).toArray = wz at *
   generalize ha : Act.put _ _ _ = z9; simp [Act.put] at ha; subst ha
   go_wp2_with fail
   refine iq rfl rfl rfl rfl HX.o.2.2 ?_
   exact HPO.o _ _ _ HF.o HWR.o HX.o.1 HX.o.2.1
 rcases Bool.eq_false_or_eq_true (kind == 5) with hk5 | hk5
 ·have HK := Lh hk5
  have hkk : r.kind = 5 := by rw [HRK.o.1]; simpa using HK.o
  have HF := Lh (HMY.o (by rw [if_neg (by omega), if_neg (by omega)]))
  have HWR := Lh (qqg (b := b) hkk)
  have hn0 : n = 0 := by rw [HN.o, HBND.o.2.2.2.1 (by omega)]; rfl
  subst hn0
  have hkv : kind = 5 := by simpa using HK.o
  have hx6 : (kind == 6) = false := by rw [hkv]; rfl
  clear hkk hkv
  rw [← HRK.o.2.2.1] at HWR
  obtain ⟨AL, cL, hle, _, _⟩ := HM3.o.pins.form
  subst hle
  have cf := (gt HM3.o.row).2.2.1
  go_wp2_with (refine ai (some 116) rfl ?_)
  refine Stop.go (aa rfl 34 rfl rfl ba.ut rfl (cs := encK kx) (al _ _ kx.2) HM3.o.rec_.key_ ?_)
  generalize ha : Act.put _ _ _ = z9; simp [Act.put] at ha; subst ha
  go_wp2_with fail
  refine (pin_any b.pins kx AL _ cL w3.heap.size w3 HM3.o.pins (nr _) (by have := HLL.o.2.1; omega)).mono ?_
  rintro e w4 ⟨v4, rfl, ho4, hb4⟩
  have HM4 := Lh (HM3.o.later hb4)
  have HF4 := Lh (qa HSB.o ho4 (by have := HM3.o.lt; omega))
  have HS4 := Lh (show SlR eK w4 w4.heap.size v4 (pinL kx b.pins) from ju (E := eK) (enc := encK) (fun _ _ => rfl) ho4)
  obtain ⟨A4, c4, hv4, _, _⟩ := HS4.o.form
  subst hv4
  clear ho4 hb4 cf
  go_wp2_with (refine ai none rfl ?_)
  have HST := Lh (oa (x := .slice A4 (pinL kx b.pins).length c4) (ty := 28) (i := 2) HM4.o.row (by kernel_rfl) rfl rfl (by decide) (b' := { b with pins := pinL kx b.pins }) (L' := L) (P' := (.slice A4 (pinL kx b.pins).length c4)) (O' := O) rfl)
  refine Stop.go (ac rfl 28 rfl rfl rfl HST.o ?_)
  have HM5 := Lh (HM4.o.turn (b' := { b with pins := pinL kx b.pins }) (L' := L) (P' := (.slice A4 (pinL kx b.pins).length c4)) (O' := O) HM4.o.live HS4.o HM4.o.ints ⟨HM4.o.far.1, HF4.o, HM4.o.far.2.2⟩)
  clear HST
  generalize w4.setRow w.heap.size (aj ({ b with pins := pinL kx b.pins }) (L) ((.slice A4 (pinL kx b.pins).length c4)) (O)).toArray = w5 at *
  generalize ha : Act.put _ _ _ = z9; simp [Act.put] at ha; subst ha
  have c1 := HM5.o.rec_.kind_
  have ck := HM5.o.rec_.keys_
  go_wp2_with fail
  go_loopw [9] (fun v9 wr => v9 = .int .i64 0 ∧ Hid (wr = w5)) (fun _ _ => 0)
  case atStart => exact ⟨rfl, rfl⟩
  case round =>
   obtain ⟨rfl, HW⟩ := hrel
   have hw := HW.o
   subst hw
   go_wp2_with (refine ai (some 144) rfl ?_)
   refine Stop.go (aa rfl 30 rfl rfl gi rfl (cs := aj { b with pins := pinL kx b.pins } L (.slice A4 (pinL kx b.pins).length c4) O) (fg ..) HM5.o.row_all ?_)
   refine ac rfl 30 rfl rfl rfl HM5.o.end_ ?_
   have HX := Lh HM5.o.done
   generalize wr.setRow (w.heap.size + 2) (aj { b with pins := pinL kx b.pins } L (.slice A4 (pinL kx b.pins).length c4) O).toArray = wz at *
   generalize ha : Act.put _ _ _ = z9; simp [Act.put] at ha; subst ha
   go_wp2_with fail
   refine iq rfl rfl rfl rfl HX.o.2.2 ?_
   exact HPO.o _ _ _ HF.o HWR.o HX.o.1 HX.o.2.1
 rcases Bool.eq_false_or_eq_true (kind == 6) with hk6 | hk6
 ·have HK := Lh hk6
  have hkk : r.kind = 6 := by rw [HRK.o.1]; simpa using HK.o
  have HF := Lh (HMY.o (by rw [if_neg (by omega), if_neg (by omega)]))
  have HWR := Lh (qqf (b := b) hkk)
  have hn0 : n = 0 := by rw [HN.o, HBND.o.2.2.2.1 (by omega)]; rfl
  subst hn0
  have hkv : kind = 6 := by simpa using HK.o
  clear hkk hkv
  rw [← HRK.o.2.2.1] at HWR
  obtain ⟨AL, cL, hle, _, _⟩ := HM3.o.pins.form
  subst hle
  have cf := (gt HM3.o.row).2.2.1
  go_wp2_with (refine ai (some 125) rfl ?_)
  refine Stop.go (aa rfl 34 rfl rfl ba.ut rfl (cs := encK kx) (al _ _ kx.2) HM3.o.rec_.key_ ?_)
  generalize ha : Act.put _ _ _ = z9; simp [Act.put] at ha; subst ha
  go_wp2_with fail
  refine (qhk b.pins kx AL _ cL w3.heap.size w3 HM3.o.pins (nr _) (by have := HLL.o.2.1; omega)).mono ?_
  rintro e w4 ⟨v4, rfl, ho4, hb4⟩
  have HM4 := Lh (HM3.o.later hb4)
  have HF4 := Lh (qa HSB.o ho4 (by have := HM3.o.lt; omega))
  have HS4 := Lh (show SlR eK w4 w4.heap.size v4 (iw b.pins kx) from ju (E := eK) (enc := encK) (fun _ _ => rfl) ho4)
  obtain ⟨A4, c4, hv4, _, _⟩ := HS4.o.form
  subst hv4
  clear ho4 hb4 cf
  go_wp2_with (refine ai none rfl ?_)
  have HST := Lh (oa (x := .slice A4 (iw b.pins kx).length c4) (ty := 28) (i := 2) HM4.o.row (by kernel_rfl) rfl rfl (by decide) (b' := { b with pins := iw b.pins kx }) (L' := L) (P' := (.slice A4 (iw b.pins kx).length c4)) (O' := O) rfl)
  refine Stop.go (ac rfl 28 rfl rfl rfl HST.o ?_)
  have HM5 := Lh (HM4.o.turn (b' := { b with pins := iw b.pins kx }) (L' := L) (P' := (.slice A4 (iw b.pins kx).length c4)) (O' := O) HM4.o.live HS4.o HM4.o.ints ⟨HM4.o.far.1, HF4.o, HM4.o.far.2.2⟩)
  clear HST
  generalize w4.setRow w.heap.size (aj ({ b with pins := iw b.pins kx }) (L) ((.slice A4 (iw b.pins kx).length c4)) (O)).toArray = w5 at *
  generalize ha : Act.put _ _ _ = z9; simp [Act.put] at ha; subst ha
  have c1 := HM5.o.rec_.kind_
  have ck := HM5.o.rec_.keys_
  go_wp2_with fail
  go_loopw [9] (fun v9 wr => v9 = .int .i64 0 ∧ Hid (wr = w5)) (fun _ _ => 0)
  case atStart => exact ⟨rfl, rfl⟩
  case round =>
   obtain ⟨rfl, HW⟩ := hrel
   have hw := HW.o
   subst hw
   go_wp2_with (refine ai (some 144) rfl ?_)
   refine Stop.go (aa rfl 30 rfl rfl gi rfl (cs := aj { b with pins := iw b.pins kx } L (.slice A4 (iw b.pins kx).length c4) O) (fg ..) HM5.o.row_all ?_)
   refine ac rfl 30 rfl rfl rfl HM5.o.end_ ?_
   have HX := Lh HM5.o.done
   generalize wr.setRow (w.heap.size + 2) (aj { b with pins := iw b.pins kx } L (.slice A4 (iw b.pins kx).length c4) O).toArray = wz at *
   generalize ha : Act.put _ _ _ = z9; simp [Act.put] at ha; subst ha
   go_wp2_with fail
   refine iq rfl rfl rfl rfl HX.o.2.2 ?_
   exact HPO.o _ _ _ HF.o HWR.o HX.o.1 HX.o.2.1
 have HK := Lh (show kind = 7 by
  have h := HBND.o.2.2.2.2
  rw [HRK.o.1] at h
  simp only [beq_eq_false_iff_ne, ne_eq] at hk1 hk2 hk3 hk4 hk5 hk6
  omega)
 have hkk : r.kind = 7 := by rw [HRK.o.1]; exact HK.o
 have HF := Lh (HMY.o (by rw [if_neg (by omega), if_neg (by omega)]))
 have HWR := Lh (qqe (b := b) hkk)
 clear hkk
 have HKN := Lh (qox HM3.o.keys_)
 go_wp2_with fail
 go_loopw [9] (fun v9 wr => ∃ (i : Nat) (l' : List (K32 × K32)) (L' : Value), i ≤ r.keys.length ∧ v9 = .int .i64 i ∧ Hid (l' = (r.keys.take i).foldl (fun l k => outL l (k32 k)) b.live) ∧ Hid (MidF S w wr { b with live := l' } L' P O kind seq kx mx (.slice A n c) r.keys)) (fun v9 _ => r.keys.length - (intOf v9).toNat)
 case atStart => exact ⟨0, b.live, L, Nat.zero_le _, rfl, rfl, HM3.o⟩
 case round =>
  obtain ⟨i, l', L', hi, rfl, HLF, HR⟩ := hrel
  have ck := HR.o.rec_.keys_
  have hcl := HR.o.keys_.n_le
  by_cases hlt : i < r.keys.length
  ·have hnl : i < n := by have := HN.o; omega
   go_wp2_with fail
   refine Text.wp_text [] (by kernel_rfl) (by kernel_rfl) (fun Q' hQ' => ?_)
   have HD := Lh HR.o.drew
   clear HR ck
   generalize wr.drew = w4 at *
   obtain ⟨q, off, rfl, hq, hcell, hkl⟩ := qtt HD.o.keys_ hlt
   have HC := Lh hcell
   obtain ⟨AL, cL, hle, _, _⟩ := HD.o.live.form
   subst hle
   have HLB := Lh (show l'.length ≤ 10000 by rw [HLF.o]; exact Nat.le_trans (pf _ _).length_le HLL.o.1)
   have cf := (gt HD.o.row).2.1
   have ck := HD.o.rec_.keys_
   clear hq hcell
   obtain ⟨kz, hkz⟩ : ∃ kz : K32, kz = k32 r.keys[i] := ⟨_, rfl⟩
   rw [← hkz] at HC
   have HKZ := Lh hkz
   clear hkz hkl
   go_wp2_with (refine ai (some 141) rfl ?_)
   refine Stop.go (aa rfl 34 rfl rfl ba.ut rfl (cs := encK kz) (al _ _ kz.2) HC.o ?_)
   generalize ha : Act.put _ _ _ = z9; simp [Act.put] at ha; subst ha
   go_wp2_with fail
   refine (qcf (fm l') kz AL _ cL w4.heap.size w4 HD.o.live (nr _) (by rw [oe]; have := HLB.o; omega)).mono ?_
   rintro e w5 ⟨v5, rfl, ho5, hb5⟩
   have HM5 := Lh (HD.o.later hb5)
   rw [qie] at ho5
   have HF5 := Lh (qa HSB.o ho5 (by have := HD.o.lt; omega))
   have HS5 := Lh (show SlR gh w5 w5.heap.size v5 (fm (outL l' kz)) from ju (E := gh) (enc := an) (fun _ _ => rfl) ho5)
   obtain ⟨A5, c5, hv5, _, _⟩ := ap ho5
   subst hv5
   clear ho5 hb5 cf ck HD
   go_wp2_with (refine ai none rfl ?_)
   have HST := Lh (oa (x := .slice A5 (fm (outL l' kz)).length c5) (ty := 27) (i := 1) HM5.o.row (by kernel_rfl) rfl rfl (by decide) (b' := { b with live := outL l' kz }) (L' := (.slice A5 (fm (outL l' kz)).length c5)) (P' := P) (O' := O) rfl)
   refine Stop.go (ac rfl 27 rfl rfl rfl HST.o ?_)
   have HM6 := Lh (HM5.o.turn (b' := { b with live := outL l' kz }) (L' := (.slice A5 (fm (outL l' kz)).length c5)) (P' := P) (O' := O) HS5.o HM5.o.pins HM5.o.ints ⟨HF5.o, HM5.o.far.2.1, HM5.o.far.2.2⟩)
   clear HST
   generalize w5.setRow w.heap.size (aj ({ b with live := outL l' kz }) ((.slice A5 (fm (outL l' kz)).length c5)) (P) (O)).toArray = w6 at *
   generalize ha : Act.put _ _ _ = z9; simp [Act.put] at ha; subst ha
   go_wp2_with fail
   refine ⟨by rfl, ?_⟩
   go_wp2_with fail
   go_roundw
   case rel =>
    refine ⟨i + 1, outL l' kz, _, by omega, by go_num, ?_, HM6.o⟩
    rw [List.take_succ_eq_append_getElem hlt, List.foldl_append, ← HLF.o, HKZ.o]
    rfl
   case measure => simp [intOf]; omega
  ·have hil : i = r.keys.length := by omega
   have HLV := Lh (show l' = r.keys.foldl (fun l k => outL l (k32 k)) b.live by
    have := HLF.o
    rwa [hil, List.take_length] at this)
   have hnl : ¬ i < n := by have := HN.o; omega
   go_wp2_with (refine ai (some 144) rfl ?_)
   refine Stop.go (aa rfl 30 rfl rfl gi rfl (cs := aj { b with live := l' } L' P O) (fg ..) HR.o.row_all ?_)
   refine ac rfl 30 rfl rfl rfl HR.o.end_ ?_
   have HX := Lh HR.o.done
   generalize wr.setRow (w.heap.size + 2) (aj { b with live := l' } L' P O).toArray = wz at *
   generalize ha : Act.put _ _ _ = z9; simp [Act.put] at ha; subst ha
   go_wp2_with fail
   refine iq rfl rfl rfl rfl HX.o.2.2 ?_
   refine HPO.o _ _ _ HF.o ?_ HX.o.1 HX.o.2.1
   rw [← HWR.o, HLV.o]
end Go.Proofs.YtplbcbamnjnhlaaGreatDoor
