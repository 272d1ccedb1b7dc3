/- Texts of this proof joined: BookMay, BookTurn, OwnL. -/
import Derived.Test.YtplbcbamnjnhlaaGreatDoorMT00
import Derived.Test.YtplbcbamnjnhlaaGreatDoorMT24
import Derived.Test.YtplbcbamnjnhlaaGreatDoorMT14
import Derived.Test.YtplbcbamnjnhlaaGreatDoorMT13
import Derived.Test.YtplbcbamnjnhlaaGreatDoorMT04
set_option maxRecDepth 100000
set_option maxHeartbeats 40000000
namespace Go.Proofs.YtplbcbamnjnhlaaGreatDoor
open Go.RowKit

theorem ia (p : K32 × K32) : (ee p).length = 66 := by unfold ee; rw [List.length_append, ae, ae, p.1.2, p.2.2]
theorem pd (p : K32 × K32) : ∀ u ∈ ee p, u.oneCell' = true := by
 intro u hu
 rcases List.mem_append.1 hu with h | h
 ·exact bc _ _ u h
 ·exact bc _ _ u h
theorem gx (w : World) : (zeroValue 76).run Tryz.prog w = .ok (iv (zk32, zk32)) w := by kernel_rfl
theorem sc (p : K32 × K32) : (Tryz.prog.info? 76).map (·.size) = some (ee p).length := by rw [ia]; kernel_rfl
theorem qgr {b : bj} (h : Good b) {li : List (Int × Value)} (hp : li.Perm (rc b.ints)) (s : Int) : ka li s = (mc b.ints s).map fun i => iv i.2 := by
 rw [zl hp (by simpa [rc, Function.comp_def] using h.ints)]
 unfold ka rc mc
 rw [List.find?_map]
 simp [Function.comp_def, Option.map_map]
theorem qor {b : bj} {r : RecD} (h : au r = false) : mayD b r = false := by simp [mayD, h]
theorem yx {b : bj} {r : RecD} (h : (b.head == (r.kind == 1)) = true) : mayD b r = false := by
 have : (b.head == decide (r.kind = 1)) = true := h
 simp [mayD, this]
theorem may_2 {b : bj} {r : RecD} (h1 : au r = true) (h2 : (b.head == (r.kind == 1)) = false) (h3 : (r.kind == 2) = true) : mayD b r = decide (r.seq ≥ b.next) := by
 have h2' : (b.head == decide (r.kind = 1)) = false := h2
 have h3' : r.kind = 2 := by simpa using h3
 unfold mayD
 rw [h1, h2']
 simp [h3']
theorem may_3 {b : bj} {r : RecD} (h1 : au r = true) (h2 : (b.head == (r.kind == 1)) = false) (h4 : (r.kind == 3) = true) : mayD b r = (mc b.ints r.seq).isSome := by
 have h2' : (b.head == decide (r.kind = 1)) = false := h2
 have h4' : r.kind = 3 := by simpa using h4
 unfold mayD
 rw [h1, h2']
 simp [h4']
theorem may_else {b : bj} {r : RecD} (h1 : au r = true) (h2 : (b.head == (r.kind == 1)) = false) (h3 : (r.kind == 2) = false) (h4 : (r.kind == 3) = false) : mayD b r = true := by
 have h2' : (b.head == decide (r.kind = 1)) = false := h2
 have h3' : ¬ r.kind = 2 := by simpa using h3
 have h4' : ¬ r.kind = 3 := by simpa using h4
 simp only [mayD, h1, h2', if_neg h3', if_neg h4']
 simp
def MayTo (b : bj) (r : RecD) (w : World) (e : Ending) (w' : World) : Prop := e = .returned (.bool (mayD b r)) ∧ Below w.heap.size w w'
theorem qhz (g : Nat) (b : bj) (r : RecD) (A : Option Addr) (n c B : Nat) (w : World) (h : eh w g b) (hg : Good b) (hr : Hs r) (h1 : SlR eKey w B (.slice A n c) r.keys) (hB : B ≤ w.heap.size) :
  Calls Tryz.prog 29 #[bptr g, rv r (.slice A n c)] w (MayTo b r w) := by
 have HGD := Lh hg
 have hglt := h.lt
 have HR := Lh hr
 have hb1 : Below w.heap.size w (w.alloc (.cells (ag r.kind r.seq r.kh r.kk r.mh r.ms (.slice A n c)).toArray 38)) := (br _ _).alloc (nr _) _
 have HB1 := Lh hb1
 have HS1 := Lh (show (w.alloc (.cells (ag r.kind r.seq r.kh r.kk r.mh r.ms (.slice A n c)).toArray 38)).heap.size = w.heap.size + 1 from Array.size_push _)
 have HG1 := Lh (cu.new (t := 38) (kind := r.kind) (seq := r.seq) (kk := r.kk) (ms := r.ms) (v := .slice A n c) w hr.1 hr.2)
 have HK1 := Lh (h1.fut hb1 hB hB)
 have H1 := Lh (h.below hb1 hglt)
 clear h hg hr h1 hb1 hB
 go_enter Tryz.func29, Tryz.ntmps29
 go_wp2_with (refine ai (some 3) rfl ?_)
 refine Stop.go (bn rfl _ rfl rfl (bb ..) ?_)
 generalize (w.alloc (.cells (ag r.kind r.seq r.kh r.kk r.mh r.ms (.slice A n c)).toArray 38)) = w1 at *
 generalize ha : Act.put _ _ _ = z9; simp [Act.put] at ha; subst ha
 go_wp2_with fail
 refine Text.wp_text [1] (by kernel_rfl) (by kernel_rfl) (fun Q' hQ' => ?_)
 have HGD1 := Lh (HG1.o.later (w' := w1.drew) (br _ _).drew)
 have HKD1 := Lh (HK1.o.below (w' := w1.drew) ((br _ _).drew))
 have HBD1 := Lh (HB1.o.drew)
 have HBK1 := Lh (H1.o.below (w' := w1.drew) (N := w1.heap.size) (br _ _).drew (by rw [HS1.o]; omega))
 have HSD1 := Lh (show w1.drew.heap.size = w.heap.size + 1 from HS1.o)
 clear HG1 HK1 HB1 H1 HS1
 generalize w1.drew = w2 at *
 go_wp2_with (refine ai (some 10) rfl ?_)
 refine Stop.go (aw rfl 38 rfl rfl dr rfl (bk _ _ _ _ _ _ _ HR.o.1 HR.o.2) HGD1.o.all_ ?_)
 generalize ha : Act.put _ _ _ = z9; simp [Act.put] at ha; subst ha
 go_wp2_with fail
 refine (vo r A n c w.heap.size w2 HR.o HKD1.o (by rw [HSD1.o]; omega)).mono ?_
 rintro e w3 ⟨rfl, hb3⟩
 rw [qbh]
 have HG3 := Lh (HGD1.o.later hb3)
 have HB3 := Lh (HBD1.o.trans (hb3.mono HBD1.o.size))
 have HBK3 := Lh (HBK1.o.below hb3 (by rw [HSD1.o]; omega))
 have HS3 := Lh (show w.heap.size + 1 ≤ w3.heap.size by rw [← HSD1.o]; exact hb3.size)
 clear hb3 HGD1 HKD1 HBD1 HBK1 HSD1
 rcases Bool.eq_false_or_eq_true (au r) with hR | hR
 rotate_left
 ·have HM := Lh (qor (b := b) hR)
  rw [hR]
  clear hR
  go_wp2_with fail
  refine ⟨by rfl, ?_⟩
  go_wp2_with fail
  go_ret
  exact ⟨rt1 (bu HM.o.symm), HB3.o⟩
 have HRT := Lh hR
 rw [hR]
 clear hR
 obtain ⟨lm, lp, li, hI⟩ := HBK3.o
 have hhc := hI.head_cell
 have hkc := HG3.o.kind_
 have hsc := HG3.o.seq_
 have hnc := hI.next_cell
 have hic := hI.ints_cell
 have HIN := Lh hI.ints
 have HAS := Lh (qgr HGD.o hI.li_ r.seq)
 clear hI
 have HF2 := Lh (@yx b r)
 have HM2 := Lh (@may_2 b r HRT.o)
 have HM3 := Lh (@may_3 b r HRT.o)
 have HME := Lh (@may_else b r HRT.o)
 obtain ⟨K, hK⟩ : ∃ K, K = r.kind := ⟨_, rfl⟩
 obtain ⟨S, hS⟩ : ∃ S, S = r.seq := ⟨_, rfl⟩
 obtain ⟨HD, hHD⟩ : ∃ HD, HD = b.head := ⟨_, rfl⟩
 obtain ⟨NX, hNX⟩ : ∃ NX, NX = b.next := ⟨_, rfl⟩
 rw [← hK] at hkc HF2 HM2 HM3 HME
 rw [← hS] at hsc HM2 HM3 HAS
 rw [← hHD] at hhc HF2 HM2 HM3 HME
 rw [← hNX] at hnc HM2
 have HKE := Lh hK
 have HSE := Lh hS
 clear hK hS hHD hNX
 rcases Bool.eq_false_or_eq_true (HD == (K == 1)) with hq | hq
 ·have HM := Lh (HF2.o hq)
  go_wp2_with fail
  refine ⟨by rfl, ?_⟩
  go_wp2_with fail
  go_ret
  exact ⟨rt1 (bu HM.o.symm), HB3.o⟩
 have HQ := Lh hq
 go_wp2_with fail
 refine ⟨by rfl, ?_⟩
 rcases Bool.eq_false_or_eq_true (K == 2) with hk2 | hk2
 ·have HM := Lh (HM2.o HQ.o hk2)
  go_wp2_with fail
  refine Text.wp_text [] (by kernel_rfl) (by kernel_rfl) (fun Q2 hQ2 => ?_)
  have d1 : w3.drew.cell? ⟨w.heap.size, 1, none⟩ = some (.int .i64 S) := hsc
  have d2 : w3.drew.cell? ⟨g + 3, 4, none⟩ = some (.int .i64 NX) := hnc
  have HB4 := Lh HB3.o.drew
  generalize w3.drew = w4 at *
  go_wp2_with fail
  refine ⟨by rfl, ?_⟩
  go_wp2_with fail
  go_ret
  exact ⟨rt1 (bu HM.o.symm), HB4.o⟩
 have HK2 := Lh hk2
 rcases Bool.eq_false_or_eq_true (K == 3) with hk3 | hk3
 rotate_left
 ·have HM := Lh (HME.o HQ.o hk2 hk3)
  go_wp2_with fail
  go_ret
  exact ⟨rt1 (bu HM.o.symm), HB3.o⟩
 have HM := Lh (HM3.o HQ.o hk3)
 go_wp2_with fail
 refine xh [6, 10] [3, 5] [] (fun w' => Below w3.drew.heap.size w3.drew w') 10 _ (br _ _) (by kernel_rfl) rfl rfl (by kernel_rfl) ?_
 have HB4 := Lh HB3.o.drew
 have HS4 := Lh (show w.heap.size + 1 ≤ w3.drew.heap.size from HS3.o)
 have hicd : w3.drew.cell? ⟨g + 3, 3, none⟩ = some (.map (some (g + 2))) := hic
 have hscd : w3.drew.cell? ⟨w.heap.size, 1, none⟩ = some (.int .i64 S) := hsc
 have HIND := Lh (show MapS (Value.int .i64) w3.drew (g + 2) li from HIN.o)
 generalize w3.drew = w4 at *
 have HLD := Lh (show ∀ w', Below w4.heap.size w4 w' → (Instr.loadAt 72 (.pointer (some ⟨g + 3, 3, none⟩))).run Tryz.prog w' = .ok (.map (some (g + 2))) w' ∧ (Instr.loadAt 3 (.pointer (some ⟨w.heap.size, 1, none⟩))).run Tryz.prog w' = .ok (.int .i64 S) w' from fun w' hb =>
  ⟨qak qah ((hb.cell (p := ⟨g + 3, 3, none⟩) (by show g + 3 < _; have := HS4.o; omega)).trans hicd), iz (k := .i64) (by kernel_rfl) ((hb.cell (p := ⟨w.heap.size, 1, none⟩) (by show w.heap.size < _; have := HS4.o; omega)).trans hscd)⟩)
 refine wpF_seg 6 (by decide) (fun Q0 hQ0 => ?_)
 simp only [T1, T0]
 go_wp2_with fail
 simp only [dr1, dr0]
 obtain ⟨mv, hmv⟩ : ∃ mv : K32 × K32, mv = ((mc b.ints S).map (·.2)).getD (zk32, zk32) := ⟨_, rfl⟩
 obtain ⟨ok, hok⟩ : ∃ ok : Bool, ok = (mc b.ints S).isSome := ⟨_, rfl⟩
 have HV := Lh (show (ka li S).getD (iv (zk32, zk32)) = iv mv by rw [HAS.o, hmv]; cases mc b.ints S <;> rfl)
 have HO := Lh (show (ka li S).isSome = ok by rw [HAS.o, hok]; cases mc b.ints S <;> rfl)
 have HP := Lh (show ∀ w', Below w.heap.size w w' → MayTo b r w (.returned (.bool ok)) w' from fun w' hb => ⟨by rw [HM.o, hok, HSE.o], hb⟩)
 clear hmv hok
 refine xg (by decide) rfl (fun Q1 hQ1 => ?_) (fun Q1 hQ1 => ?_)
 ·have hb3 : Below w4.heap.size w4 (w4.alloc (.cells (ee (zk32, zk32)).toArray 76)) := (br _ _).alloc (nr _) _
  have HM3 := Lh (HIND.o.alloc (.cells (ee (zk32, zk32)).toArray 76))
  refine av rfl 76 rfl gx (vs := ee (zk32, zk32)) rfl ?_
  refine hQ1 _ _ ⟨hb3, ?_⟩
  have HB3 := Lh hb3
  clear hb3
  generalize ha : Act.put _ _ _ = z9; simp [Act.put] at ha; subst ha
  refine mm (by decide) (fun Q2 hQ2 => ?_)
  refine lc qcs rfl rfl rfl rfl HM3.o gx ?_
  rw [HV.o, HO.o]
  refine hQ2 _ _ ⟨HB3.o, ?_⟩
  generalize ha : Act.put _ _ _ = z9; simp [Act.put] at ha; subst ha
  refine ou 3 (by decide) (fun Q3 hQ3 => ?_)
  simp only [T1, T0]
  go_wp2_with fail
  simp only [dr1, dr0]
  refine sr ?_
  refine ou 1 (by decide) (fun Q4 hQ4 => ?_)
  simp only [T1, T0]
  refine ac rfl 76 rfl rfl rfl (ch (g := w4.heap.size) rfl (v := iv mv) (vs := ee mv) rfl (sc mv) (by rw [ia, List.size_toArray, ia]) (pd _)) ?_
  refine hQ4 _ _ ?_
  simp only [dr1, dr0]
  generalize ha : Act.put _ _ _ = z9; simp [Act.put] at ha; subst ha
  refine ou 1 (by decide) (fun Q5 hQ5 => ?_)
  simp only [T1, T0]
  go_wp2_with fail
  simp only [dr1, dr0]
  refine xe ⟨by rfl, ⟨fun _ => ⟨_, fun w' hb => (HLD.o w' hb).1⟩, fun _ => ⟨_, fun w' hb => (HLD.o w' hb).2⟩, trivial⟩, ?_⟩
  go_wp2_with fail
  go_ret
  exact HP.o _ (HB4.o.alloc HB4.o.size _)
 ·refine lc qcs rfl rfl rfl rfl HIND.o gx ?_
  rw [HV.o, HO.o]
  refine hQ1 _ _ ⟨br _ _, ?_⟩
  generalize ha : Act.put _ _ _ = z9; simp [Act.put] at ha; subst ha
  refine wpF_seg 3 (by decide) (fun Q3 hQ3 => ?_)
  simp only [T1, T0]
  go_wp2_with fail
  simp only [dr1, dr0]
  refine qiw ?_
  refine ig (fun Q3 hQ3 => ?_)
  refine av rfl 76 rfl gx (vs := ee (zk32, zk32)) rfl ?_
  refine hQ3 _ _ ⟨(br _ _).alloc (nr _) _, ?_⟩
  generalize ha : Act.put _ _ _ = z9; simp [Act.put] at ha; subst ha
  refine fx 1 (by decide) (fun Q4 hQ4 => ?_)
  simp only [T1, T0]
  refine ac rfl 76 rfl rfl rfl (ch (g := w4.heap.size) rfl (v := iv mv) (vs := ee mv) rfl (sc mv) (by rw [ia, List.size_toArray, ia]) (pd _)) ?_
  refine hQ4 _ _ ?_
  simp only [dr1, dr0]
  generalize ha : Act.put _ _ _ = z9; simp [Act.put] at ha; subst ha
  refine fx 1 (by decide) (fun Q5 hQ5 => ?_)
  simp only [T1, T0]
  go_wp2_with fail
  simp only [dr1, dr0]
  refine lu ⟨by rfl, ⟨fun _ => ⟨_, fun w' hb => (HLD.o w' hb).1⟩, fun _ => ⟨_, fun w' hb => (HLD.o w' hb).2⟩, trivial⟩, ?_⟩
  go_wp2_with fail
  go_ret
  exact HP.o _ (HB4.o.alloc HB4.o.size _)

theorem ga.turn {w w' : World} {g : Nat} {b b' : bj} {lm lp : List (K32 × Value)} {li : List (Int × Value)} (h : ga w g b lm lp li) (hr : w'.heap[g + 3]? = some (.cells (ff b' g) 74 (0, 0)))
  (ho : ∀ k, k ≠ g + 3 → w'.heap[k]? = w.heap[k]?) (h1 : b'.live = b.live) (h2 : b'.pins = b.pins) (h3 : b'.ints = b.ints) : ga w' g b' lm lp li :=
 ⟨hr, h.live.of_block (ho _ (by omega)), h.pins.of_block (ho _ (by omega)), h.ints.of_block (ho _ (by omega)), by rw [h1]; exact h.lm_, by rw [h2]; exact h.lp_, by rw [h3]; exact h.li_⟩
theorem ga.row_lt {w : World} {g : Nat} {b : bj} {lm lp : List (K32 × Value)} {li : List (Int × Value)} (h : ga w g b lm lp li) : g + 3 < w.heap.size := (gl h.row)
theorem ga.turn_live {w w' : World} {g : Nat} {b : bj} {lm lp lm' : List (K32 × Value)} {li : List (Int × Value)} {l : List (K32 × K32)} (h : ga w g b lm lp li) (hm : MapS kv w' g lm') (hg : w.grownBy w' (some g)) (hp : lm'.Perm (qv l)) :
  ga w' g { b with live := l } lm' lp li :=
 have hl := h.row_lt
 ⟨(hg.block _ hl (by simp)).trans h.row, hm, h.pins.of_block (hg.block _ (by omega) (by simp)), h.ints.of_block (hg.block _ (by omega) (by simp)), hp, h.lp_, h.li_⟩
theorem ga.turn_pins {w w' : World} {g : Nat} {b : bj} {lm lp lp' : List (K32 × Value)} {li : List (Int × Value)} {l : List K32} (h : ga w g b lm lp li) (hm : MapS kv w' (g + 1) lp') (hg : w.grownBy w' (some (g + 1))) (hp : lp'.Perm (sw l)) :
  ga w' g { b with pins := l } lm lp' li :=
 have hl := h.row_lt
 ⟨(hg.block _ hl (by simp)).trans h.row, h.live.of_block (hg.block _ (by omega) (by simp)), hm, h.ints.of_block (hg.block _ (by omega) (by simp)), h.lm_, hp, h.li_⟩
theorem ga.turn_ints {w w' : World} {g : Nat} {b : bj} {lm lp : List (K32 × Value)} {li li' : List (Int × Value)} {l : List (Int × (K32 × K32))} (h : ga w g b lm lp li) (hm : MapS (Value.int .i64) w' (g + 2) li') (hg : w.grownBy w' (some (g + 2))) (hp : li'.Perm (rc l)) :
  ga w' g { b with ints := l } lm lp li' :=
 have hl := h.row_lt
 ⟨(hg.block _ hl (by simp)).trans h.row, h.live.of_block (hg.block _ (by omega) (by simp)), h.pins.of_block (hg.block _ (by omega) (by simp)), hm, h.lm_, h.lp_, hp⟩
theorem qic (l : List (K32 × K32)) (k : K32) : (qv l).filter (fun p => decide (p.1 ≠ k)) = qv (outL l k) := by
 unfold qv outL
 rw [List.filter_map]
 rfl
theorem qhw (l : List K32) (k : K32) : (sw l).filter (fun p => decide (p.1 ≠ k)) = sw (iw l k) := by
 unfold sw iw
 rw [List.filter_map]
 rfl
theorem qtx (l : List (Int × (K32 × K32))) (s : Int) : (rc l).filter (fun p => decide (p.1 ≠ s)) = rc (l.filter fun p => decide (p.1 ≠ s)) := by
 unfold rc
 rw [List.filter_map]
 rfl
theorem qs {α : Type} {l m : List (α × Value)} (h : l.Perm m) (hn : (m.map (·.1)).Nodup) : (l.map (·.1)).Nodup := (h.map _).nodup_iff.2 hn
theorem qev {lm : List (K32 × Value)} {l : List (K32 × K32)} (hp : lm.Perm (qv l)) (hn : (l.map (·.1)).Nodup) (k m : K32) : (mj lm k (kv m)).Perm (qv (putL k m l)) := by
 have hnl := qs hp (by rw [ul]; exact hn)
 refine (qem hnl k (kv m)).trans ?_
 refine (List.Perm.cons _ ((hp.filter _).trans (by rw [qic]))).trans ?_
 have := (pe (fun p : K32 × K32 => eb k p.1) (k, m) (outL l k)).map (fun q : K32 × K32 => (q.1, kv q.2))
 exact this.symm
theorem del_live {lm : List (K32 × Value)} {l : List (K32 × K32)} (hp : lm.Perm (qv l)) (hn : (l.map (·.1)).Nodup) (k : K32) : (ml lm k).Perm (qv (outL l k)) := by
 rw [uq (qs hp (by rw [ul]; exact hn)) k]
 exact (hp.filter _).trans (by rw [qic])
theorem put_pins {lp : List (K32 × Value)} {l : List K32} (hp : lp.Perm (sw l)) (hn : l.Nodup) (k : K32) : (mj lp k (.int .i64 1)).Perm (sw (pinL k l)) := by
 have hnl := qs hp (by rw [qr]; exact hn)
 refine (qem hnl k _).trans ?_
 refine (List.Perm.cons _ ((hp.filter _).trans (by rw [qhw]))).trans ?_
 have := (pe (fun p : K32 => eb k p) k (iw l k)).map (fun q : K32 => (q, Value.int .i64 1))
 exact this.symm
theorem del_pins {lp : List (K32 × Value)} {l : List K32} (hp : lp.Perm (sw l)) (hn : l.Nodup) (k : K32) : (ml lp k).Perm (sw (iw l k)) := by
 rw [uq (qs hp (by rw [qr]; exact hn)) k]
 exact (hp.filter _).trans (by rw [qhw])
theorem qpb (l : List (Int × (K32 × K32))) : (rc l).map (·.1) = l.map (·.1) := by simp [rc, Function.comp_def]
theorem qmr {li : List (Int × Value)} {l : List (Int × (K32 × K32))} (hp : li.Perm (rc l)) (hn : (l.map (·.1)).Nodup) (s : Int) : (ml li s).Perm (rc (jz l s)) := by
 rw [uq (qs hp (by rw [qpb]; exact hn)) s, qav hn]
 exact (hp.filter _).trans (by rw [qtx])
theorem ns {α : Type} {κ : α → Value} {w : World} {g : Nat} {l : List (α × Value)} (h : MapS κ w g l) (o : Nat) (x : Option (Addr × TypeId)) (p : Addr) (hp : p.block = g) (_ : x = none) (_ : o = 0) : w.cell? p = none := by
 obtain ⟨es, c, hh, _⟩ := h
 unfold World.cell?
 rw [hp, hh]
theorem qnd {g : Nat} {w w' : World} {b b' : bj} (hb : fp g w w') (h : eh w g b) (h' : eh w' g b') {p : Addr} (hp : p.block < w.heap.size) (hne : p.block ≠ g + 3) : w'.cell? p = w.cell? p := by
 obtain ⟨lm, lp, li, hi⟩ := h
 obtain ⟨lm', lp', li', hi'⟩ := h'
 by_cases h0 : p.block = g
 ·rw [ns hi.live 0 none p h0 rfl rfl, ns hi'.live 0 none p h0 rfl rfl]
 by_cases h1 : p.block = g + 1
 ·rw [ns hi.pins 0 none p h1 rfl rfl, ns hi'.pins 0 none p h1 rfl rfl]
 by_cases h2 : p.block = g + 2
 ·rw [ns hi.ints 0 none p h2 rfl rfl, ns hi'.ints 0 none p h2 rfl rfl]
 exact World.cell?_of_block (hb.block _ hp (by omega))
theorem row_not {g : Nat} {w : World} {b : bj} (h : eh w g b) {B : Nat} {A : Option Addr} {xs : List Value} (hr : Rd w B A xs) (hl : 6 ≤ xs.length) : ∃ q off, A = some ⟨q, off, none⟩ ∧ q < B ∧ q ≠ g + 3 ∧ ∀ j u, xs[j]? = some u → w.cell? ⟨q, off + j, none⟩ = some u := by
 obtain ⟨q, off, rfl, hq, hc⟩ := hr (by intro e; rw [e] at hl; simp at hl)
 refine ⟨q, off, rfl, hq, fun he => ?_, hc⟩
 obtain ⟨lm, lp, li, hi⟩ := h
 have := hc 5 _ (List.getElem?_eq_getElem (by omega))
 rw [he, cell_of_row _ _ _ _ _ _ hi.row] at this
 have hn : (ff b g)[off + 5]? = none := by
  rw [Array.getElem?_eq_none]
  simp [ff]
 rw [hn] at this
 cases this
theorem qsw {α : Type} {E : Elt α} {g : Nat} {w w' : World} {b b' : bj} (hb : fp g w w') (h : eh w g b) (h' : eh w' g b') {B : Nat} (hB : B ≤ w.heap.size) (hE : 6 ≤ E.size) (hrep : ∀ cs x, E.rep w B cs x → E.rep w' B cs x) {v : Value} {xs : List α} (hs : SlR E w B v xs) : SlR E w' B v xs := by
 obtain ⟨A, c, css, e, h1, h2, h3, h4, h5⟩ := hs
 refine ⟨A, c, css, e, h1, h2, h3, ?_, fun i cs x hc hx => hrep _ _ (h5 i cs x hc hx)⟩
 intro hne
 have hl : 6 ≤ css.flatten.length := by
  cases css with
  |nil => simp at hne
  |cons cs r =>
   have hx : 0 < xs.length := by rw [← h3]; simp
   have := E.len (h5 0 cs xs[0] rfl (List.getElem?_eq_getElem hx))
   rw [List.flatten_cons, List.length_append]
   omega
 obtain ⟨q, off, rfl, hq, hqn, hc⟩ := row_not h h4 hl
 exact ⟨q, off, rfl, hq, fun j u hu => (qnd hb h h' (p := ⟨q, off + j, none⟩) (Nat.lt_of_lt_of_le hq hB) hqn).trans (hc j u hu)⟩
theorem qmc {g : Nat} {w w' : World} {b b' : bj} (hb : fp g w w') (h : eh w g b) (h' : eh w' g b') {B : Nat} (hB : B ≤ w.heap.size) {v : Value} {xs : List KeyD} (hs : SlR eKey w B v xs) : SlR eKey w' B v xs :=
 qsw hb h h' hB (by rw [tk]; omega) (fun cs x hx => by
  obtain ⟨rfl, h1, h2, h3⟩ := tm hx
  exact qdq h1 h2 h3) hs

def Away (w w' : World) (B : Nat) (r : Option Nat) : Prop := ∀ p : Addr, p.block < B → some p.block ≠ r → w'.cell? p = w.cell? p
theorem Away.refl (w : World) (B : Nat) (r : Option Nat) : Away w w B r := fun _ _ _ => rfl
def OwnL {α : Type} (E : Elt α) (w : World) (base : Nat) (t : TypeId) (v : Value) (xs : List α) : Prop :=
 ∃ css : List (List Value), w.ownsRow base t E.size v xs.length css.flatten ∧ css.length = xs.length ∧ ∀ (i : Nat) (cs : List Value) (x : α), css[i]? = some cs → xs[i]? = some x → ∀ w', Away w w' w.heap.size v.ownBlock → E.rep w' w.heap.size cs x
section
variable {α : Type} {E : Elt α} {w w' w1 : World} {base : Nat} {t : TypeId} {v v1 : Value} {xs : List α}
theorem OwnL.nil (w : World) (base : Nat) (t : TypeId) : OwnL E w base t (.slice none 0 0) [] := ⟨[], World.ownsRow_nil _ _ _ _, rfl, fun i cs x h => by simp at h⟩
theorem OwnL.form (h : OwnL E w base t v xs) : ∃ A c, v = .slice A xs.length c ∧ xs.length ≤ c ∧ c ≤ maxLen := by
 obtain ⟨css, h1, _⟩ := h
 exact ap h1
theorem OwnL.sl (h : OwnL E w base t v xs) : SlR E w w.heap.size v xs := by
 obtain ⟨css, h1, h2, h3⟩ := h
 obtain ⟨A, c, rfl, ha, hb⟩ := ap h1
 exact ⟨A, c, css, rfl, ha, hb, h2, Rd.of_own h1, fun i cs x hc hx => h3 i cs x hc hx w (Away.refl _ _ _)⟩
theorem OwnL.later (h : OwnL E w base t v xs) (hb : Below w.heap.size w w1) : OwnL E w1 base t v xs := by
 obtain ⟨css, h1, h2, h3⟩ := h
 refine ⟨css, bw h1 hb, h2, fun i cs x hc hx w' ha => E.more (h3 i cs x hc hx w' fun p hp hn => ?_) hb.size⟩
 rw [ha p (Nat.lt_of_lt_of_le hp hb.size) hn, hb.cell hp]
theorem OwnL.snoc {css : List (List Value)} {cs : List Value} {x : α} (h2 : css.length = xs.length) (h3 : ∀ (i : Nat) (cs : List Value) (x : α), css[i]? = some cs → xs[i]? = some x → ∀ w', Away w w' w.heap.size v.ownBlock → E.rep w' w.heap.size cs x)
  (hx : ∀ w', Away w w' w.heap.size v.ownBlock → E.rep w' w.heap.size cs x) (ho : w1.ownsRow base t E.size v1 (xs.length + 1) (css.flatten ++ cs)) (hg : w.grownBy w1 v.ownBlock) (hv : v1.ownBlock = v.ownBlock ∨ v1.ownBlock = some w.heap.size) :
  OwnL E w1 base t v1 (xs ++ [x]) := by
 have key : ∀ w', Away w1 w' w1.heap.size v1.ownBlock → Away w w' w.heap.size v.ownBlock := fun w' ha p hp hn => by
  rw [ha p (Nat.lt_of_lt_of_le hp hg.size) ?_]
  ·have hb := hg.block p.block hp hn
   exact World.cell?_of_block (w := w) hb
  ·rcases hv with e | e
   ·rw [e]; exact hn
   ·rw [e]
    intro e2
    injection e2 with e2
    omega
 refine ⟨css ++ [cs], ?_, by simp [h2], fun i cs' x' hc hx' w' ha => ?_⟩
 ·rw [List.flatten_append, List.length_append]
  simpa using ho
 ·by_cases hi : i < xs.length
  ·rw [List.getElem?_append_left (by omega)] at hc hx'
   exact E.more (h3 i cs' x' hc hx' w' (key w' ha)) hg.size
  ·have hil : i = xs.length := by
    have h4 := (List.getElem?_eq_some_iff.1 hx').1
    rw [List.length_append, List.length_singleton] at h4
    omega
   subst hil
   rw [← h2, List.getElem?_append_right (nr _), Nat.sub_self] at hc
   rw [List.getElem?_append_right (nr _), Nat.sub_self] at hx'
   injection hc with hc
   injection hx' with hx'
   subst hc hx'
   exact E.more (hx w' (key w' ha)) hg.size
end
theorem oc {w w' : World} {base base2 : Nat} {e e2 : TypeId} {size size2 : Nat} {v v2 : Value} {n n2 : Nat} {xs ys : List Value} (h : w.ownsRow base e size v n xs) (h2 : w.ownsRow base2 e2 size2 v2 n2 ys) (hne : e ≠ e2) (hg : w.grownBy w' v2.ownBlock) : w'.ownsRow base e size v n xs := by
 refine ⟨h.1, ?_⟩
 rcases h.2 with h' | ⟨g, cap, cur, rfl, hb, hh, r⟩
 ·exact .inl h'
 ·exact .inr ⟨g, cap, cur, rfl, hb, kf h2 hg hh hne, r⟩
theorem pb {w : World} {base : Nat} {e e' : TypeId} {size n : Nat} {v : Value} {xs : List Value} {g : Nat} {cs : Array Value} {fr : Nat × Nat} (h : w.ownsRow base e size v n xs) (hg : w.heap[g]? = some (.cells cs e' fr)) (hne : e' ≠ e) : v.ownBlock ≠ some g := by
 rcases h.2 with ⟨rfl, _⟩ | ⟨g', cap, cur, rfl, _, hh, _⟩
 ·simp [Value.ownBlock]
 ·intro he
  have : g' = g := by simpa [Value.ownBlock] using he
  subst this
  rw [hg] at hh
  injection hh with hh
  injection hh with _ h2
  exact hne h2
theorem ob {w : World} {base : Nat} {e : TypeId} {size : Nat} {v : Value} {n : Nat} {xs : List Value} (h : w.ownsRow base e size v n xs) (hn : 0 < n) : ∃ g cap, v = .slice (some ⟨g, 0, none⟩) n cap := by
 rcases h.2 with ⟨_, h0⟩ | ⟨g, cap, cur, hv, _⟩
 ·omega
 ·exact ⟨g, cap, hv⟩
end Go.Proofs.YtplbcbamnjnhlaaGreatDoor
