/- Texts of this proof joined: Float2, BookGet2, Ref32a, cu. -/
import Derived.Test.YtplbcbamnjnhlaaGreatDoorMT00
import Derived.Test.YtplbcbamnjnhlaaGreatDoorMT23
import Derived.Test.YtplbcbamnjnhlaaGreatDoorMT11
import Derived.Test.YtplbcbamnjnhlaaGreatDoorMT16
import Derived.Test.YtplbcbamnjnhlaaGreatDoorMT22
import Derived.Test.YtplbcbamnjnhlaaGreatDoorMT10
import Derived.Test.YtplbcbamnjnhlaaGreatDoorMT06
import Derived.Test.YtplbcbamnjnhlaaGreatDoorMT19
set_option maxRecDepth 100000
set_option maxHeartbeats 40000000
namespace Go.Proofs.YtplbcbamnjnhlaaGreatDoor.TextI
open Go Go.RowKit Go.Proofs.YtplbcbamnjnhlaaGreatDoor.Text
variable {P : Program} {ops : Array Oper} {I : World → Prop}
theorem wpF_seg {G : List Nat} {f : Nat} {fo : Oper} {Q : Act → World → Prop} : ∀ (n k : Nat) (l : List Oper) (a : Act) (w : World), (List.range' k n).all (fun i => !G.contains i && i != f) = true →
  (∀ Q' : Exit → Act → World → Prop, (∀ a w, wpF P ops I G f fo Q (k + n) (l.drop n) a w → Q' .normal a w) → wpList P ops Q' (l.take n) a w) → wpF P ops I G f fo Q k l a w
 |0, k, l, a, w, _, h => by
  have := h (fun e a w => e = .normal ∧ wpF P ops I G f fo Q k l a w) (fun a w hh => ⟨rfl, by simpa using hh⟩)
  simpa [wpList] using this
 |n + 1, k, [], a, w, _, h => by
  have := h (fun e a w => e = .normal ∧ False) (fun a w hh => ⟨rfl, by simp [wpF] at hh⟩)
  simp [wpList] at this
 |n + 1, k, o :: r, a, w, hG, h => by
  rw [List.range'_succ, List.all_cons, Bool.and_eq_true] at hG
  have hkk : G.contains k = false ∧ ¬ k = f := by have := hG.1; simp only [Bool.and_eq_true, bne_iff_ne] at this; exact ⟨by simpa using this.1, this.2⟩
  have hk := hkk.1
  have h0 := h (fun e a w => e = .normal ∧ wpF P ops I G f fo Q (k + (n + 1)) ((o :: r).drop (n + 1)) a w) (fun a w hh => ⟨rfl, hh⟩)
  have hnl : ¬ LetsOut (fun e a w => e = Exit.normal ∧ wpF P ops I G f fo Q (k + (n + 1)) ((o :: r).drop (n + 1)) a w) := fun ⟨_, _, hh⟩ => by cases hh.1
  have hno : ∀ (e : Exit) (a : Act) (w : World), e ≠ .normal → ¬ (e = Exit.normal ∧ wpF P ops I G f fo Q (k + (n + 1)) ((o :: r).drop (n + 1)) a w) := fun _ _ _ hn hh => hn hh.1
  have ih : ∀ a w, wpList P ops (fun e a w => e = .normal ∧ wpF P ops I G f fo Q (k + (n + 1)) ((o :: r).drop (n + 1)) a w) (r.take n) a w → wpF P ops I G f fo Q (k + 1) r a w := fun a w hl =>
   wpF_seg n (k + 1) r a w hG.2 fun Q' hQ' => by
    refine wpList_mono' (fun e a w hh => ?_) _ _ _ hl
    obtain ⟨rfl, hh⟩ := hh
    exact hQ' _ _ (by simpa [Nat.add_assoc, Nat.add_comm 1 n] using hh)
  rw [List.take_succ_cons] at h0
  unfold wpList at h0
  unfold wpF
  rw [if_neg hkk.2]
  refine ⟨fun hh => (by rw [hk] at hh; cases hh), ?_⟩
  split at h0
  ·rename_i hw
   rw [if_pos hw]
   have h1 := h0.resolve_right fun hh => hnl hh.2
   have h2 := Oper.wp_mono (K' := fun a' w' => (G.contains k = true → I w') ∧ wpF P ops I G f fo Q (k + 1) r a' w') (fun a w hh => ⟨fun hk' => (by rw [hk] at hk'; cases hk'), ih a w hh⟩) h1
   exact wp_noQ hno hnl h2
  ·rename_i hw
   rw [if_neg hw]
   exact ih _ _ h0
theorem wpF_stay {G : List Nat} {f : Nat} {fo : Oper} {Q : Act → World → Prop} {k : Nat} {o : Oper} {r : List Oper} {a : Act} {w : World} (hkf : k ≠ f) (hnow : G.contains k = true → fo.wp P a w (fun a' w' => I w' ∧ wpSx P ops I G f Q k (o :: r) a' w') NoQ)
  (h : ∀ Q' : Exit → Act → World → Prop, (∀ a' w', I w' ∧ wpF P ops I G f fo Q (k + 1) r a' w' → Q' .normal a' w') → wpList P ops Q' [o] a w) : wpF P ops I G f fo Q k (o :: r) a w := by
 have h0 := h (fun e a w => e = .normal ∧ I w ∧ wpF P ops I G f fo Q (k + 1) r a w) (fun a w hh => ⟨rfl, hh⟩)
 have hnl : ¬ LetsOut (fun e a w => e = Exit.normal ∧ I w ∧ wpF P ops I G f fo Q (k + 1) r a w) := fun ⟨_, _, hh⟩ => by cases hh.1
 have hno : ∀ (e : Exit) (a : Act) (w : World), e ≠ .normal → ¬ (e = Exit.normal ∧ I w ∧ wpF P ops I G f fo Q (k + 1) r a w) := fun _ _ _ hn hh => hn hh.1
 unfold wpList at h0
 unfold wpF
 rw [if_neg hkf]
 refine ⟨hnow, ?_⟩
 split at h0
 ·rename_i hw
  rw [if_pos hw]
  have h1 := h0.resolve_right fun hh => hnl hh.2
  have h2 := Oper.wp_mono (K' := fun a' w' => (G.contains k = true → I w') ∧ wpF P ops I G f fo Q (k + 1) r a' w') (fun a w hh => by
   simp only [wpList] at hh
   exact ⟨fun _ => hh.2.1, hh.2.2⟩) h1
  exact wp_noQ hno hnl h2
 ·rename_i hw
  rw [if_neg hw]
  simp only [wpList] at h0
  exact h0.2.2
theorem now_of {fo : Oper} {a : Act} {w : World} {K : Act → World → Prop} (hg : fo.guard = none) (h : ∀ Q' : Exit → Act → World → Prop, (∀ a' w', K a' w' → Q' .normal a' w') → wpList P ops Q' [fo] a w) : fo.wp P a w K NoQ := by
 have h0 := h (fun e a w => e = .normal ∧ K a w) (fun a w hh => ⟨rfl, hh⟩)
 have hnl : ¬ LetsOut (fun e a w => e = Exit.normal ∧ K a w) := fun ⟨_, _, hh⟩ => by cases hh.1
 have hno : ∀ (e : Exit) (a : Act) (w : World), e ≠ .normal → ¬ (e = Exit.normal ∧ K a w) := fun _ _ _ hn hh => hn hh.1
 unfold wpList at h0
 rw [if_pos (by simp [Region.wanted, hg])] at h0
 have h1 := h0.resolve_right fun hh => hnl hh.2
 have h2 := Oper.wp_mono (K' := K) (fun a w hh => by
  simp only [wpList] at hh
  exact hh.2) h1
 exact wp_noQ hno hnl h2
end Go.Proofs.YtplbcbamnjnhlaaGreatDoor.TextI
namespace Go.Proofs.YtplbcbamnjnhlaaGreatDoor
open Go.RowKit
section
variable {P : Program} {ops : Array Oper} {I : World → Prop} {G : List Nat} {f : Nat} {fo : Oper}
theorem xh {id : Nat} {Q : Exit → Act → World → Prop} {a : Act} {w : World} {l : List Oper} (G LD ex : List Nat) (I : World → Prop) (f : Nat) (fo : Oper) (hI : I w.drew) (hm : P.follows .mixedOrders = true) (hfo : l[f]? = some fo) (hg : fo.guard = none) (hB : TextI.floatB P l.toArray G LD ex f fo = true)
  (h : Stop (TextI.wpF P l.toArray I G f fo (fun a' w' => Text.chk l.toArray ex a' = true ∧ TextI.oldAll P l.toArray I a' LD ∧ Q .normal a' w') 0 l a w.drew)) : (Code.region id l.toArray true).wp P Q a w :=
 TextI.wp_float G LD ex I f fo hI hm hfo hg hB h.o
theorem wpF_seg {Q : Act → World → Prop} (n : Nat) {k : Nat} {l : List Oper} {a : Act} {w : World} (hG : (List.range' k n).all (fun i => !G.contains i && i != f) = true)
  (h : ∀ Q' : Exit → Act → World → Prop, (∀ a w, Stop (TextI.wpF P ops I G f fo Q (k + n) (l.drop n) a w) → Q' .normal a w) → wpList P ops Q' (l.take n) a w) : Stop (TextI.wpF P ops I G f fo Q k l a w) :=
 ⟨TextI.wpF_seg n k l a w hG fun Q' hQ' => h Q' fun a w hh => hQ' a w hh.o⟩
theorem xg {Q : Act → World → Prop} {k : Nat} {o : Oper} {r : List Oper} {a : Act} {w : World} (hkf : k ≠ f) (hg : fo.guard = none)
  (hnow : ∀ Q' : Exit → Act → World → Prop, (∀ a' w', I w' ∧ Stop (TextI.wpSx P ops I G f Q k (o :: r) a' w') → Q' .normal a' w') → wpList P ops Q' [fo] a w)
  (h : ∀ Q' : Exit → Act → World → Prop, (∀ a' w', I w' ∧ Stop (TextI.wpF P ops I G f fo Q (k + 1) r a' w') → Q' .normal a' w') → wpList P ops Q' [o] a w) : Stop (TextI.wpF P ops I G f fo Q k (o :: r) a w) :=
 ⟨TextI.wpF_stay hkf (fun _ => TextI.now_of (ops := ops) hg fun Q' hQ' => hnow Q' fun a w hh => hQ' a w ⟨hh.1, hh.2.o⟩) fun Q' hQ' => h Q' fun a w hh => hQ' a w ⟨hh.1, hh.2.o⟩⟩
theorem qiw {Q : Act → World → Prop} {o : Oper} {r : List Oper} {a : Act} {w : World} (h : Stop (TextI.wpS P ops I G Q f (o :: r) a w)) : Stop (TextI.wpF P ops I G f fo Q f (o :: r) a w) := ⟨by
 unfold TextI.wpF
 rw [if_pos rfl]
 exact h.o⟩
theorem ou {Q : Act → World → Prop} (n : Nat) {k : Nat} {l : List Oper} {a : Act} {w : World} (hG : (List.range' k n).all (fun i => !G.contains i && i != f) = true)
  (h : ∀ Q' : Exit → Act → World → Prop, (∀ a w, Stop (TextI.wpSx P ops I G f Q (k + n) (l.drop n) a w) → Q' .normal a w) → wpList P ops Q' (l.take n) a w) : Stop (TextI.wpSx P ops I G f Q k l a w) :=
 ⟨TextI.wpSx_seg n k l a w hG fun Q' hQ' => h Q' fun a w hh => hQ' a w hh.o⟩
theorem mm {Q : Act → World → Prop} {k : Nat} {o : Oper} {r : List Oper} {a : Act} {w : World} (hkf : k ≠ f)
  (h : ∀ Q' : Exit → Act → World → Prop, (∀ a' w', I w' ∧ Stop (TextI.wpSx P ops I G f Q (k + 1) r a' w') → Q' .normal a' w') → wpList P ops Q' [o] a w) : Stop (TextI.wpSx P ops I G f Q k (o :: r) a w) :=
 ⟨TextI.wpSx_one hkf fun Q' hQ' => h Q' fun a w hh => hQ' a w ⟨hh.1, hh.2.o⟩⟩
theorem sr {Q : Act → World → Prop} {o : Oper} {r : List Oper} {a : Act} {w : World} (h : Stop (TextI.wpSx P ops I G f Q (f + 1) r a w)) : Stop (TextI.wpSx P ops I G f Q f (o :: r) a w) := ⟨by
 unfold TextI.wpSx
 rw [if_pos rfl]
 exact h.o⟩
theorem xe {Q : Act → World → Prop} {k : Nat} {a : Act} {w : World} (h : Q a w) : Stop (TextI.wpSx P ops I G f Q k [] a w) := ⟨h⟩
end

def zk32 : K32 := ⟨(z32, 0), rfl⟩
def nq (b : bj) (k : K32) : Option K32 := (b.live.find? fun p => decide (p.1 = k)).map (·.2)
theorem od {b : bj} (h : Good b) : (b.live.map (·.1)).Nodup := (qib h).imp fun {x y} hxy he => by rw [he, um] at hxy; cases hxy
theorem uf {b : bj} (h : Good b) : b.pins.Nodup := h.pins.imp fun {x y} hxy he => by rw [he, um] at hxy; cases hxy
theorem qnh (l : List (K32 × K32)) (k : K32) : ka (qv l) k = ((l.find? fun p => decide (p.1 = k)).map (·.2)).map kv := by
 unfold ka qv
 rw [List.find?_map]
 simp [Function.comp_def, Option.map_map]
theorem qqa {b : bj} (h : Good b) {lm : List (K32 × Value)} (hp : lm.Perm (qv b.live)) (k : K32) : ka lm k = (nq b k).map kv := by
 rw [zl hp (by rw [ul]; exact od h), qnh]
 rfl
theorem qpz {b : bj} (h : Good b) {lp : List (K32 × Value)} (hp : lp.Perm (sw b.pins)) (k : K32) : ka lp k = if k ∈ b.pins then some (.int .i64 1) else none := by
 rw [zl hp (by rw [qr]; exact uf h)]
 split
 ·rename_i hk
  rw [zk (by rw [qr]; exact uf h)]
  exact List.mem_map.2 ⟨k, hk, rfl⟩
 ·rename_i hk
  rw [qgq]
  intro p hp he
  obtain ⟨q, hq, rfl⟩ := List.mem_map.1 hp
  exact hk (by rw [← he]; exact hq)
theorem qky {fn : Func} {p u : Tmp} {x : Value} {Q : Ending → World → Prop} (h : fn.results = #[.cell p 36, .tmp u]) {a : Act} {w : World} {g : Nat} {m : K32} {fr : Nat × Nat} {t : TypeId} (hd : a.defers = [])
  (hp : a.tmps.getD p undef = .pointer (some ⟨g, 0, none⟩)) (hu : a.tmps.getD u undef = x) (hg : w.heap[g]? = some (.cells (encK m).toArray t fr)) (hq : Q (.returned (.tuple #[kv m, x])) w) : bodyPost Tryz.prog fn Q .ret a w := by
 refine bodyPost_ret (v := .tuple #[kv m, x]) ?_ hd hq
 rw [results_cell_tmp h, hp, hu]
 simp [asAddr, Result.andThen, run_loadVar_row w g t 36 (encK m).toArray fr _ hg jw.ut rfl (dj _ _ m.2)]
 rfl
def GetTo (b : bj) (k : K32) (w : World) (e : Ending) (w' : World) : Prop := e = .returned (.tuple #[kv ((nq b k).getD zk32), .bool (nq b k).isSome]) ∧ Below w.heap.size w w'
theorem qrn (g : Nat) (b : bj) (k : K32) (w : World) (h : eh w g b) (hg : Good b) :
  Calls Tryz.prog 25 #[bptr g, kv k] w (GetTo b k w) := by
 have HGD := Lh hg
 have hglt := h.lt
 have H := Lh h
 clear h hg
 go_enter Tryz.func25, Tryz.ntmps25
 go_wp2_with (refine ai (some 3) rfl ?_)
 refine Stop.go (bn rfl 34 rfl rfl (vs := encK k) rfl ?_)
 refine av rfl 36 rfl ip rfl ?_
 have HG1 := Lh (Go.heap_alloc2_old w (.cells (encK k).toArray 34) (.cells (af z32 0).toArray 36))
 have HG2 := Lh (Go.heap_alloc2_new w (.cells (encK k).toArray 34) (.cells (af z32 0).toArray 36))
 have HB := Lh (((br _ _).alloc (nr _) (.cells (encK k).toArray 34)).alloc (by rw [sz_]; omega) (.cells (af z32 0).toArray 36) : Below w.heap.size w _)
 have HSZ := Lh (show ((w.alloc (.cells (encK k).toArray 34)).alloc (.cells (af z32 0).toArray 36)).heap.size = w.heap.size + 2 by rw [sz_, sz_])
 rw [show (w.alloc (.cells (encK k).toArray 34)).heap.size = w.heap.size + 1 from sz_ _ _]
 generalize ((w.alloc (.cells (encK k).toArray 34)).alloc (.cells (af z32 0).toArray 36)) = w1 at *
 generalize ha : Act.put _ _ _ = z9; simp [Act.put] at ha; subst ha
 go_wp2_with fail
 refine xh [5, 9] [3, 4] [] (fun w' => Below w1.drew.heap.size w1.drew w') 9 _ (br _ _) (by kernel_rfl) rfl rfl (by kernel_rfl) ?_
 have HBD := Lh (show Below w1.heap.size w1 w1.drew from (br _ _).drew)
 have HSZ2 := Lh (show w1.drew.heap.size = w.heap.size + 2 from HSZ.o)
 have HG12 := Lh (show w1.drew.heap[w.heap.size]? = _ from HG1.o)
 have HG22 := Lh (show w1.drew.heap[w.heap.size + 1]? = _ from HG2.o)
 have HB2 := Lh (HB.o.trans (HBD.o.mono HB.o.size))
 have H2 := Lh (H.o.below HB2.o hglt)
 clear HBD HB HG1 HG2 HSZ H
 generalize w1.drew = w2 at *
 have HA := Lh (show ∀ w', Below w2.heap.size w2 w' → ∃ lm lp li, ga w' g b lm lp li ∧ (∀ j u, (encK k)[j]? = some u → w'.cell? ⟨w.heap.size, 0 + j, none⟩ = some u) from fun w' hb => by
  obtain ⟨lm, lp, li, hI⟩ := H2.o.below hb (by have := HSZ2.o; omega)
  exact ⟨lm, lp, li, hI, aq ((hb.block _ (by have := HSZ2.o; omega)).trans HG12.o)⟩)
 have HLD := Lh (show ∀ w', Below w2.heap.size w2 w' → (Instr.loadAt 70 (.pointer (some ⟨g + 3, 1, none⟩))).run Tryz.prog w' = .ok (.map (some g)) w' ∧ (Instr.loadAt 34 (.pointer (some ⟨w.heap.size, 0, none⟩))).run Tryz.prog w' = .ok (kv k) w' from fun w' hb => by
  obtain ⟨lm, lp, li, hI, hk⟩ := HA.o w' hb
  exact ⟨qak qlu hI.live_cell, fw ba.ut rfl (al _ _ k.2) hk⟩)
 obtain ⟨lm, lp, li, hI, hkc⟩ := HA.o w2 (br _ _)
 have hlc := hI.live_cell
 have HKC := Lh hkc
 have HM := Lh hI.live
 have HAS := Lh (qqa HGD.o hI.lm_ k)
 clear hI hkc HA
 refine wpF_seg 5 (by decide) (fun Q0 hQ0 => ?_)
 simp only [T1, T0]
 go_wp2_with (refine ai (some 16) rfl ?_)
 refine Stop.go (aa rfl 34 rfl rfl ba.ut rfl (cs := encK k) (al _ _ k.2) HKC.o ?_)
 refine hQ0 _ _ ?_
 simp only [dr1, dr0]
 generalize ha : Act.put _ _ _ = z9; simp [Act.put] at ha; subst ha
 obtain ⟨mv, hmv⟩ : ∃ mv : K32, mv = (nq b k).getD zk32 := ⟨_, rfl⟩
 obtain ⟨ok, hok⟩ : ∃ ok : Bool, ok = (nq b k).isSome := ⟨_, rfl⟩
 have HV := Lh (show (ka lm k).getD (hkv z32 0) = kv mv by rw [HAS.o, hmv]; cases nq b k <;> rfl)
 have HO := Lh (show (ka lm k).isSome = ok by rw [HAS.o, hok]; cases nq b k <;> rfl)
 have HP := Lh (show ∀ w', Below w.heap.size w w' → GetTo b k w (.returned (.tuple #[kv mv, .bool ok])) w' from fun w' hb => ⟨by rw [hmv, hok], hb⟩)
 clear hmv hok
 refine xg (by decide) rfl (fun Q1 hQ1 => ?_) (fun Q1 hQ1 => ?_)
 ·have hb3 : Below w2.heap.size w2 (w2.alloc (.cells (af z32 0).toArray 36)) := (br _ _).alloc (nr _) _
  have HM3 := Lh (HM.o.alloc (.cells (af z32 0).toArray 36))
  refine av rfl 36 rfl ip rfl ?_
  refine hQ1 _ _ ⟨hb3, ?_⟩
  have HB3 := Lh hb3
  clear hb3
  generalize ha : Act.put _ _ _ = z9; simp [Act.put] at ha; subst ha
  refine mm (by decide) (fun Q2 hQ2 => ?_)
  refine lc qfg rfl rfl rfl rfl HM3.o ip ?_
  rw [HV.o, HO.o]
  refine hQ2 _ _ ⟨HB3.o, ?_⟩
  generalize ha : Act.put _ _ _ = z9; simp [Act.put] at ha; subst ha
  refine ou 3 (by decide) (fun Q3 hQ3 => ?_)
  simp only [T1, T0]
  go_wp2_with fail
  simp only [dr1, dr0]
  refine sr ?_
  refine ou 1 (by decide) (fun Q4 hQ4 => ?_)
  simp only [T1, T0]
  refine ac rfl 36 rfl rfl rfl (ch (g := w2.heap.size) rfl (v := kv mv) (vs := encK mv) rfl (dj _ _ mv.2) (by rw [bi]; simp [ae, bg]) (bc _ _)) ?_
  refine hQ4 _ _ ?_
  simp only [dr1, dr0]
  generalize ha : Act.put _ _ _ = z9; simp [Act.put] at ha; subst ha
  refine ou 1 (by decide) (fun Q5 hQ5 => ?_)
  simp only [T1, T0]
  go_wp2_with fail
  simp only [dr1, dr0]
  refine xe ⟨by rfl, ⟨fun _ => ⟨_, fun w' hb => (HLD.o w' hb).1⟩, fun _ => ⟨_, fun w' hb => (HLD.o w' hb).2⟩, trivial⟩, ?_⟩
  have HG3 := Lh (hzn w2 (.cells (encK mv).toArray 36))
  have HG32 := Lh ((Below.heap_alloc w2 (.cells (encK mv).toArray 36) (w.heap.size + 1) (by rw [HSZ2.o]; omega)).trans HG22.o)
  have HB4 := Lh (HB2.o.alloc HB2.o.size (.cells (encK mv).toArray 36))
  generalize w2.alloc (.cells (encK mv).toArray 36) = w4 at *
  go_wp2_with (refine ai (some 20) rfl ?_)
  refine Stop.go (aa rfl 36 rfl rfl jw.ut rfl (cs := encK mv) (dj _ _ mv.2) (aq HG3.o) ?_)
  generalize ha : Act.put _ _ _ = z9; simp [Act.put] at ha; subst ha
  go_wp2_with (refine ai none rfl ?_)
  refine Stop.go (ac rfl 36 rfl rfl rfl (ce (v := kv mv) (vs := encK mv) rfl (dj _ _ mv.2) HG32.o (by rw [bi]; simp [ae, bg]) (bc _ _)) ?_)
  generalize ha : Act.put _ _ _ = z9; simp [Act.put] at ha; subst ha
  go_wp2_with fail
  refine qky rfl rfl rfl rfl (setRow_heap _ _ _ _ _ _ HG32.o) ?_
  exact HP.o _ (below_setRow HB4.o (by omega) _)
 ·refine lc qfg rfl rfl rfl rfl HM.o ip ?_
  rw [HV.o, HO.o]
  refine hQ1 _ _ ⟨br _ _, ?_⟩
  generalize ha : Act.put _ _ _ = z9; simp [Act.put] at ha; subst ha
  refine wpF_seg 3 (by decide) (fun Q3 hQ3 => ?_)
  simp only [T1, T0]
  go_wp2_with fail
  simp only [dr1, dr0]
  refine qiw ?_
  refine ig (fun Q3 hQ3 => ?_)
  refine av rfl 36 rfl ip rfl ?_
  refine hQ3 _ _ ⟨(br _ _).alloc (nr _) _, ?_⟩
  generalize ha : Act.put _ _ _ = z9; simp [Act.put] at ha; subst ha
  refine fx 1 (by decide) (fun Q4 hQ4 => ?_)
  simp only [T1, T0]
  refine ac rfl 36 rfl rfl rfl (ch (g := w2.heap.size) rfl (v := kv mv) (vs := encK mv) rfl (dj _ _ mv.2) (by rw [bi]; simp [ae, bg]) (bc _ _)) ?_
  refine hQ4 _ _ ?_
  simp only [dr1, dr0]
  generalize ha : Act.put _ _ _ = z9; simp [Act.put] at ha; subst ha
  refine fx 1 (by decide) (fun Q5 hQ5 => ?_)
  simp only [T1, T0]
  go_wp2_with fail
  simp only [dr1, dr0]
  refine lu ⟨by rfl, ⟨fun _ => ⟨_, fun w' hb => (HLD.o w' hb).1⟩, fun _ => ⟨_, fun w' hb => (HLD.o w' hb).2⟩, trivial⟩, ?_⟩
  have HG3 := Lh (hzn w2 (.cells (encK mv).toArray 36))
  have HG32 := Lh ((Below.heap_alloc w2 (.cells (encK mv).toArray 36) (w.heap.size + 1) (by rw [HSZ2.o]; omega)).trans HG22.o)
  have HB4 := Lh (HB2.o.alloc HB2.o.size (.cells (encK mv).toArray 36))
  generalize w2.alloc (.cells (encK mv).toArray 36) = w4 at *
  go_wp2_with (refine ai (some 20) rfl ?_)
  refine Stop.go (aa rfl 36 rfl rfl jw.ut rfl (cs := encK mv) (dj _ _ mv.2) (aq HG3.o) ?_)
  generalize ha : Act.put _ _ _ = z9; simp [Act.put] at ha; subst ha
  go_wp2_with (refine ai none rfl ?_)
  refine Stop.go (ac rfl 36 rfl rfl rfl (ce (v := kv mv) (vs := encK mv) rfl (dj _ _ mv.2) HG32.o (by rw [bi]; simp [ae, bg]) (bc _ _)) ?_)
  generalize ha : Act.put _ _ _ = z9; simp [Act.put] at ha; subst ha
  go_wp2_with fail
  refine qky rfl rfl rfl rfl (setRow_heap _ _ _ _ _ _ HG32.o) ?_
  exact HP.o _ (below_setRow HB4.o (by omega) _)
theorem zero_int (w : World) : (zeroValue 3).run Tryz.prog w = .ok (.int .i64 0) w := by kernel_rfl
theorem qoi (g : Nat) (b : bj) (k : K32) (w : World) (h : eh w g b) (hg : Good b) :
  Calls Tryz.prog 28 #[bptr g, kv k] w fun e w' => e = .returned (.bool (decide (k ∈ b.pins))) ∧ Below w.heap.size w w' := by
 have HGD := Lh hg
 have hglt := h.lt
 have H := Lh h
 clear h hg
 go_enter Tryz.func28, Tryz.ntmps28
 go_wp2_with (refine ai (some 3) rfl ?_)
 refine Stop.go (bn rfl 34 rfl rfl (vs := encK k) rfl ?_)
 have HG1 := Lh (aq (vs := encK k) (hzn w (.cells (encK k).toArray 34)))
 have HB := Lh ((br _ _).alloc (nr _) (.cells (encK k).toArray 34) : Below w.heap.size w _)
 obtain ⟨lm, lp, li, hI⟩ := H.o.below HB.o hglt
 have hpc := hI.pins_cell
 have HM := Lh hI.pins
 have HAS := Lh (qpz HGD.o hI.lp_ k)
 clear hI
 generalize (w.alloc (.cells (encK k).toArray 34)) = w1 at *
 generalize ha : Act.put _ _ _ = z9; simp [Act.put] at ha; subst ha
 go_wp2_with fail
 refine Text.wp_text [1] (by kernel_rfl) (by kernel_rfl) (fun Q' hQ' => ?_)
 have hpd : w1.drew.cell? ⟨g + 3, 2, none⟩ = some (.map (some (g + 1))) := hpc
 have HGD1 := Lh (show ∀ j u, (encK k)[j]? = some u → w1.drew.cell? ⟨w.heap.size, 0 + j, none⟩ = some u from HG1.o)
 have HMD := Lh (show MapS kv w1.drew (g + 1) lp from HM.o)
 have HBD := Lh (HB.o.drew)
 generalize w1.drew = w2 at *
 go_wp2_with (refine ai (some 12) rfl ?_)
 refine Stop.go (aw rfl 34 rfl rfl ba.ut rfl (cs := encK k) (al _ _ k.2) HGD1.o ?_)
 refine qm qra rfl rfl rfl rfl HMD.o zero_int ?_
 rw [HAS.o]
 generalize hac : Act.put _ _ _ = a9
 by_cases hk : k ∈ b.pins
 ·have HK := Lh (show decide (k ∈ b.pins) = true by simpa using hk)
  rw [if_pos hk] at hac
  clear hk
  simp [Act.put] at hac
  subst hac
  go_wp2_with fail
  refine ⟨by rfl, ?_⟩
  go_wp2_with fail
  go_ret
  exact ⟨rt1 (bu HK.o.symm), HBD.o⟩
 ·have HK := Lh (show decide (k ∈ b.pins) = false by simpa using hk)
  rw [if_neg hk] at hac
  clear hk
  simp [Act.put] at hac
  subst hac
  go_wp2_with fail
  refine ⟨by rfl, ?_⟩
  go_wp2_with fail
  go_ret
  exact ⟨rt1 (bu HK.o.symm), HBD.o⟩

theorem qpx (l : List UInt8) (a k : Nat) (h : a + k < l.length) : co ((l.drop a).take (k + 1)) = co ((l.drop a).take k) * 256 + l[a + k].toNat := by
 have hd : k < (l.drop a).length := by rw [List.length_drop]; omega
 rw [List.take_succ_eq_append_getElem hd, ux, List.getElem_drop]
theorem qnf (l : List UInt8) (a k : Nat) (h : a + k ≤ l.length) : co ((l.drop a).take k) < 256 ^ k := by
 have := tr ((l.drop a).take k)
 rwa [List.length_take, List.length_drop, Nat.min_eq_left (by omega)] at this
theorem rr (l : List UInt8) (A : Option Addr) (c B a n : Nat) (w : World) (hr : Rd w B A (ak l)) (hn : n ≤ 6) (hl : a + n ≤ l.length) (hl2 : l.length ≤ 1099511627776) :
  Calls Tryz.prog 96 #[.slice A l.length c, .int .i64 a, .int .i64 n] w fun e w' => e = .returned (.int .i64 (co ((l.drop a).take n) : Nat)) ∧ w = w' := by
 have HR := Lh hr
 clear hr
 go_enter Tryz.func96, Tryz.ntmps96
 go_wp2_with fail
 go_loop [7, 8] (fun v7 v8 => ∃ b v : Nat, a ≤ b ∧ b ≤ a + n ∧ v8 = .int .i64 b ∧ v7 = .int .i64 v ∧ Hid (v = co ((l.drop a).take (b - a)))) (fun _ v8 => a + n - (intOf v8).toNat)
 case atStart => exact ⟨a, 0, by omega, by omega, rfl, rfl, (by show _ = _; simp [co])⟩
 case round =>
  obtain ⟨b, v, hab1, hk, rfl, rfl, hh⟩ := hrel
  by_cases hlt : b < a + n
  ·have hin : b < l.length := by omega
   obtain ⟨ab, ao, rfl, hab, hcell⟩ := HR.o.byte hin
   have hv := qnf l a (b - a) (by omega)
   have hp : 256 ^ (b - a) ≤ 256 ^ 5 := Nat.pow_le_pow_right (by omega) (by omega)
   have hv5 : v < 1099511627776 := by rw [hh.o]; exact Nat.lt_of_lt_of_le hv hp
   have HL := Lh (show co ((l.drop a).take (b + 1 - a)) = v * 256 + l[b].toNat by
    have := qpx l a (b - a) (by omega)
    rw [hh.o, show b + 1 - a = b - a + 1 by omega, this]
    simp only [show a + (b - a) = b by omega])
   obtain ⟨d, hd⟩ : ∃ d, d = l[b].toNat := ⟨_, rfl⟩
   rw [← hd] at hcell HL
   have hd8 : d < 256 := by rw [hd]; exact UInt8.toNat_lt _
   clear hd hv hp
   go_wp2
   go_round
   case rel => exact ⟨b + 1, v * 256 + d, by omega, by omega, by go_num, vint (by simp), HL.o.symm⟩
   case measure => simp [intOf]; omega
  ·obtain rfl : b = a + n := by omega
   have HF := Lh (show v = co ((l.drop a).take n) by rw [hh.o]; congr 2; omega)
   go_wp2
   go_ret
   exact ⟨rt1 (vint (by rw [HF.o])), rfl⟩
theorem be_row (n x k : Nat) (h : k < n) : List.replicate k (0 : UInt8) ++ [UInt8.ofNat (x / 256 ^ (n - (k + 1)) % 256)] ++ (cb n x).drop (k + 1) = List.replicate k (0 : UInt8) ++ (cb n x).drop k := by
 have hl : k < (cb n x).length := by rw [bx]; exact h
 rw [List.drop_eq_getElem_cons hl]
 have : (cb n x)[k] = UInt8.ofNat (x / 256 ^ (n - (k + 1)) % 256) := by
  simp only [cb, List.getElem_reverse, dw, List.getElem_map, qaw, List.length_map, nc]
  rw [show n - 1 - k = n - (k + 1) by omega]
 rw [this]
 simp
theorem xq (n x : Nat) (w : World) (hn : n ≤ 8) (hx : x < 9223372036854775808) :
  Calls Tryz.prog 101 #[.int .i64 n, .int .i64 x] w fun e w' => e = .returned (.slice (some ⟨w.heap.size, 0, none⟩) n n) ∧ w'.heap[w.heap.size]? = some (.cells (ak (cb n x)).toArray 5 (0, 0)) ∧ Below w.heap.size w w' := by
 have hmk := qdi n (by omega)
 go_enter Tryz.func101, Tryz.ntmps101
 go_wp2_with fail
 have HG := Lh (hzn w (.cells (madeCells #[.int .u8 0] n) 5))
 have HB := Lh ((br _ _).alloc (nr _) (.cells (madeCells #[.int .u8 0] n) 5) : Below w.heap.size w _)
 go_loopw [1, 6] (fun v1 v6 wr => ∃ k : Nat, k ≤ n ∧ v6 = .int .i64 ((k : Int) - 1) ∧ v1 = .int .i64 (x / 256 ^ (n - k) : Nat) ∧ Hid (wr.heap[w.heap.size]? = some (.cells (ak (List.replicate k 0 ++ (cb n x).drop k)).toArray 5 (0, 0))) ∧ Hid (Below w.heap.size w wr)) (fun _ v6 _ => (intOf v6 + 1).toNat)
 case atStart =>
  refine ⟨n, by omega, rfl, by simp, ?_, HB.o⟩
  have e1 : (cb n x).drop n = [] := List.drop_eq_nil_of_le (by rw [bx]; omega)
  have e2 : (ak (List.replicate n 0 ++ (cb n x).drop n)).toArray = madeCells #[.int .u8 0] n := by
   apply Array.ext'
   rw [toList_madeCells_one, e1]
   simp [ak, ic]
  show _ = _
  rw [e2]
  exact HG.o
 case round =>
  obtain ⟨k, hk, rfl, rfl, hh, hb⟩ := hrel
  cases k with
  |zero =>
   go_wp2_with fail
   go_ret
   refine ⟨rfl, ?_, hb.o⟩
   have := hh.o
   simpa using this
  |succ k =>
   obtain ⟨q, hq⟩ : ∃ q, q = x / 256 ^ (n - (k + 1)) := ⟨_, rfl⟩
   have HQ := Lh (show q / 256 = x / 256 ^ (n - k) by rw [hq, Nat.div_div_eq_div_mul, ← Nat.pow_succ]; congr 2; omega)
   have hqx : q < 9223372036854775808 := by rw [hq]; exact Nat.lt_of_le_of_lt (Nat.div_le_self _ _) hx
   have HQ0 := Lh hq
   rw [← hq]
   clear hq
   have hks : (((k + 1 : Nat) : Int) - 1) = (k : Int) := by omega
   rw [hks]
   have hst : (Instr.storeAt 5 (.pointer (some ⟨w.heap.size, k, none⟩)) (.int .u8 ((q : Int) % 256))).run Tryz.prog wr = .ok () (wr.setRow w.heap.size (ak (List.replicate k 0 ++ (cb n x).drop k)).toArray) := by
    rw [jt (vs := [.int .u8 ((q : Int) % 256)]) rfl (by kernel_rfl) hh.o (by simp [am, bx]) (fun u hu => by rw [List.mem_singleton.1 hu]; rfl)]
    refine congrArg (fun r => Result.ok () (wr.setRow w.heap.size r)) ?_
    have e0 : (ak (List.replicate (k + 1) 0 ++ (cb n x).drop (k + 1))) = ak (List.replicate k 0) ++ ([ic 0] ++ ak ((cb n x).drop (k + 1))) := by
     rw [List.replicate_succ']
     simp [ak]
    have hl : (ak (List.replicate k (0 : UInt8))).length = k := by simp [am]
    have e1 := be_row n x k (by omega)
    rw [← HQ0.o] at e1
    have e2 : Value.int .u8 ((q : Int) % 256) = ic (UInt8.ofNat (q % 256)) := by
     unfold ic
     rw [UInt8.toNat_ofNat', Nat.mod_eq_of_lt (show q % 256 < 2 ^ 8 by omega)]
     rfl
    rw [← e1, e2]
    apply Array.ext'
    simp only [e0]
    rw [List.take_append_of_le_length (by omega), List.take_of_length_le (by omega), List.drop_append, List.drop_eq_nil_of_le (by simp only [List.length_cons, List.length_nil]; omega), hl]
    simp [ak]
   have HST := Lh hst
   clear hst
   go_wp2_with (refine ai (some 18) rfl ?_)
   refine Stop.go (ar 3 _ _ _ (fun Q' hQ' => ?_))
   simp only [T1, T0]
   go_wp2_with fail
   simp only [dr1, dr0]
   refine Stop.go (ac rfl 5 rfl rfl rfl HST.o ?_)
   have HG2 := Lh (setRow_heap wr w.heap.size _ (ak (List.replicate k 0 ++ (cb n x).drop k)).toArray _ _ hh.o)
   have HB2 := Lh (below_setRow hb.o (nr _) (ak (List.replicate k 0 ++ (cb n x).drop k)).toArray : Below w.heap.size w (wr.setRow w.heap.size _))
   generalize wr.setRow w.heap.size _ = w9 at HG2 HB2 ⊢
   go_wp2_with fail
   refine ⟨⟨k, by omega, rfl, vint ?_, HG2, HB2⟩, ?_⟩
   ·rw [← HQ.o]; rfl
   ·simp [intOf]

theorem qnx (a : RecD) : gq a a = true := by simp [gq]
theorem qrh {r : RecD} (h : ke r) : (ca r).length ≤ 20000 := by
 have h1 := qal r h.2.1 h.2.2 h.1
 have h2 := nh (dx r).length (by omega)
 have h3 := jv (om r)
 have h4 := qw r
 have h5 : (om r).length = 5 + (gy (dx r).length).length + (dx r).length := iu _ _
 omega
theorem qfh : ∀ (rs : List RecD), (∀ r ∈ rs, ke r) → (rs.flatMap ca).length ≤ 20000 * rs.length
 |[], _ => by simp
 |r :: rs, h => by
  have h1 := qrh (h r (by simp))
  have h2 := qfh rs fun x hx => h x (by simp [hx])
  rw [List.flatMap_cons, List.length_append, List.length_cons]
  omega
theorem rec_at {w : World} {B : Nat} {A : Option Addr} {n c : Nat} {rs : List RecD} (h : SlR eRec w B (.slice A n c) rs) {k : Nat} (hk : k < rs.length) :
  ∃ b off A2 c2, A = some ⟨b, off, none⟩ ∧ n ≤ c ∧ b < B ∧ Hs rs[k] ∧ SlR eKey w B (.slice A2 rs[k].keys.length c2) rs[k].keys ∧
   (∀ j u, (ag rs[k].kind rs[k].seq rs[k].kh rs[k].kk rs[k].mh rs[k].ms (.slice A2 rs[k].keys.length c2))[j]? = some u → w.cell? ⟨b, off + k * 69 + j, none⟩ = some u) := by
 obtain ⟨b, off, cs, h1, h2, h3, h4, h5⟩ := h.get hk (by decide)
 obtain ⟨v, rfl, l1, l2, hs⟩ := h4
 obtain ⟨A2, c2, rfl, _, _⟩ := hs.form
 exact ⟨b, off, A2, c2, h1, h2, h3, ⟨l1, l2⟩, hs, fun j u hu => by have := h5 j u hu; rwa [show eRec.size = 69 from rfl, ← Nat.add_assoc] at this⟩
theorem qox {w : World} {B : Nat} {v : Value} {xs : List KeyD} (h : SlR eKey w B v xs) : ∀ k ∈ xs, k.1.length = 32 := by
 intro k hk
 obtain ⟨i, hi, rfl⟩ := List.getElem_of_mem hk
 obtain ⟨A, c, rfl, _, _⟩ := h.form
 obtain ⟨_, _, _, _, _, h6, _⟩ := mn h hi
 exact h6
end Go.Proofs.YtplbcbamnjnhlaaGreatDoor
