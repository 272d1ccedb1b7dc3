/- Texts of this proof joined: Float2, BookGet2, Ref32a, RecAt, BookMay. -/
import Derived.Test.YtplbcbamnjnhlaaGreatDoorMB23
import Derived.Test.YtplbcbamnjnhlaaGreatDoorMB11
import Derived.Test.YtplbcbamnjnhlaaGreatDoorMB16
import Derived.Test.YtplbcbamnjnhlaaGreatDoorMB22
import Derived.Test.YtplbcbamnjnhlaaGreatDoorMB10
import Derived.Test.YtplbcbamnjnhlaaGreatDoorMB06
import Derived.Test.YtplbcbamnjnhlaaGreatDoorMB19
import Derived.Test.YtplbcbamnjnhlaaGreatDoorMB14
import Derived.Test.YtplbcbamnjnhlaaGreatDoorMB13
namespace Go.Proofs.YtplbcbamnjnhlaaGreatDoor.TextI
open Go Go.RowKit Go.Proofs.YtplbcbamnjnhlaaGreatDoor.Text
variable {P : Program} {ops : Array Oper} {I : World → Prop}
theorem wpF_seg {G : List Nat} {f : Nat} {fo : Oper} {Q : Act → World → Prop} : ∀ (n k : Nat) (l : List Oper) (a : Act) (w : World), (List.range' k n).all (fun i => !G.contains i && i != f) = true →
    (∀ Q' : Exit → Act → World → Prop, (∀ a w, wpF P ops I G f fo Q (k + n) (l.drop n) a w → Q' .normal a w) → wpList P ops Q' (l.take n) a w) → wpF P ops I G f fo Q k l a w
  | 0, k, l, a, w, _, h => by
    have := h (fun e a w => e = .normal ∧ wpF P ops I G f fo Q k l a w) (fun a w hh => ⟨rfl, by simpa using hh⟩)
    simpa [wpList] using this
  | n + 1, k, [], a, w, _, h => by
    have := h (fun e a w => e = .normal ∧ False) (fun a w hh => ⟨rfl, by simp [wpF] at hh⟩)
    simp [wpList] at this
  | n + 1, k, o :: r, a, w, hG, h => by
    rw [List.range'_succ, List.all_cons, Bool.and_eq_true] at hG
    have hkk : G.contains k = false ∧ ¬ k = f := by have := hG.1; simp only [Bool.and_eq_true, bne_iff_ne] at this; exact ⟨by simpa using this.1, this.2⟩
    have hk := hkk.1
    have h0 := h (fun e a w => e = .normal ∧ wpF P ops I G f fo Q (k + (n + 1)) ((o :: r).drop (n + 1)) a w) (fun a w hh => ⟨rfl, hh⟩)
    have hnl : ¬ LetsOut (fun e a w => e = Exit.normal ∧ wpF P ops I G f fo Q (k + (n + 1)) ((o :: r).drop (n + 1)) a w) := fun ⟨_, _, hh⟩ => by cases hh.1
    have hno : ∀ (e : Exit) (a : Act) (w : World), e ≠ .normal → ¬ (e = Exit.normal ∧ wpF P ops I G f fo Q (k + (n + 1)) ((o :: r).drop (n + 1)) a w) := fun _ _ _ hn hh => hn hh.1
    have ih : ∀ a w, wpList P ops (fun e a w => e = .normal ∧ wpF P ops I G f fo Q (k + (n + 1)) ((o :: r).drop (n + 1)) a w) (r.take n) a w → wpF P ops I G f fo Q (k + 1) r a w := fun a w hl =>
      wpF_seg n (k + 1) r a w hG.2 fun Q' hQ' => by
        refine wpList_mono' (fun e a w hh => ?_) _ _ _ hl
        obtain ⟨rfl, hh⟩ := hh
        exact hQ' _ _ (by simpa [Nat.add_assoc, Nat.add_comm 1 n] using hh)
    rw [List.take_succ_cons] at h0
    unfold wpList at h0
    unfold wpF
    rw [if_neg hkk.2]
    refine ⟨fun hh => (by rw [hk] at hh; cases hh), ?_⟩
    split at h0
    · rename_i hw
      rw [if_pos hw]
      have h1 := h0.resolve_right fun hh => hnl hh.2
      have h2 := Oper.wp_mono (K' := fun a' w' => (G.contains k = true → I w') ∧ wpF P ops I G f fo Q (k + 1) r a' w') (fun a w hh => ⟨fun hk' => (by rw [hk] at hk'; cases hk'), ih a w hh⟩) h1
      exact wp_noQ hno hnl h2
    · rename_i hw
      rw [if_neg hw]
      exact ih _ _ h0
theorem wpF_stay {G : List Nat} {f : Nat} {fo : Oper} {Q : Act → World → Prop} {k : Nat} {o : Oper} {r : List Oper} {a : Act} {w : World} (hkf : k ≠ f) (hnow : G.contains k = true → fo.wp P a w (fun a' w' => I w' ∧ wpSx P ops I G f Q k (o :: r) a' w') NoQ)
    (h : ∀ Q' : Exit → Act → World → Prop, (∀ a' w', I w' ∧ wpF P ops I G f fo Q (k + 1) r a' w' → Q' .normal a' w') → wpList P ops Q' [o] a w) : wpF P ops I G f fo Q k (o :: r) a w := by
  have h0 := h (fun e a w => e = .normal ∧ I w ∧ wpF P ops I G f fo Q (k + 1) r a w) (fun a w hh => ⟨rfl, hh⟩)
  have hnl : ¬ LetsOut (fun e a w => e = Exit.normal ∧ I w ∧ wpF P ops I G f fo Q (k + 1) r a w) := fun ⟨_, _, hh⟩ => by cases hh.1
  have hno : ∀ (e : Exit) (a : Act) (w : World), e ≠ .normal → ¬ (e = Exit.normal ∧ I w ∧ wpF P ops I G f fo Q (k + 1) r a w) := fun _ _ _ hn hh => hn hh.1
  unfold wpList at h0
  unfold wpF
  rw [if_neg hkf]
  refine ⟨hnow, ?_⟩
  split at h0
  · rename_i hw
    rw [if_pos hw]
    have h1 := h0.resolve_right fun hh => hnl hh.2
    have h2 := Oper.wp_mono (K' := fun a' w' => (G.contains k = true → I w') ∧ wpF P ops I G f fo Q (k + 1) r a' w') (fun a w hh => by
      simp only [wpList] at hh
      exact ⟨fun _ => hh.2.1, hh.2.2⟩) h1
    exact wp_noQ hno hnl h2
  · rename_i hw
    rw [if_neg hw]
    simp only [wpList] at h0
    exact h0.2.2
theorem now_of {fo : Oper} {a : Act} {w : World} {K : Act → World → Prop} (hg : fo.guard = none) (h : ∀ Q' : Exit → Act → World → Prop, (∀ a' w', K a' w' → Q' .normal a' w') → wpList P ops Q' [fo] a w) : fo.wp P a w K NoQ := by
  have h0 := h (fun e a w => e = .normal ∧ K a w) (fun a w hh => ⟨rfl, hh⟩)
  have hnl : ¬ LetsOut (fun e a w => e = Exit.normal ∧ K a w) := fun ⟨_, _, hh⟩ => by cases hh.1
  have hno : ∀ (e : Exit) (a : Act) (w : World), e ≠ .normal → ¬ (e = Exit.normal ∧ K a w) := fun _ _ _ hn hh => hn hh.1
  unfold wpList at h0
  rw [if_pos (by simp [Region.wanted, hg])] at h0
  have h1 := h0.resolve_right fun hh => hnl hh.2
  have h2 := Oper.wp_mono (K' := K) (fun a w hh => by
    simp only [wpList] at hh
    exact hh.2) h1
  exact wp_noQ hno hnl h2
end Go.Proofs.YtplbcbamnjnhlaaGreatDoor.TextI
namespace Go.Proofs.YtplbcbamnjnhlaaGreatDoor
open Go.RowKit
section
variable {P : Program} {ops : Array Oper} {I : World → Prop} {G : List Nat} {f : Nat} {fo : Oper}
theorem wpF_float {id : Nat} {Q : Exit → Act → World → Prop} {a : Act} {w : World} {l : List Oper} (G LD ex : List Nat) (I : World → Prop) (f : Nat) (fo : Oper) (hI : I w.drew) (hm : P.follows .mixedOrders = true) (hfo : l[f]? = some fo) (hg : fo.guard = none) (hB : TextI.floatB P l.toArray G LD ex f fo = true)
    (h : Stop (TextI.wpF P l.toArray I G f fo (fun a' w' => Text.chk l.toArray ex a' = true ∧ TextI.oldAll P l.toArray I a' LD ∧ Q .normal a' w') 0 l a w.drew)) : (Code.region id l.toArray true).wp P Q a w :=
  TextI.wp_float G LD ex I f fo hI hm hfo hg hB h.out
theorem wpF_seg {Q : Act → World → Prop} (n : Nat) {k : Nat} {l : List Oper} {a : Act} {w : World} (hG : (List.range' k n).all (fun i => !G.contains i && i != f) = true)
    (h : ∀ Q' : Exit → Act → World → Prop, (∀ a w, Stop (TextI.wpF P ops I G f fo Q (k + n) (l.drop n) a w) → Q' .normal a w) → wpList P ops Q' (l.take n) a w) : Stop (TextI.wpF P ops I G f fo Q k l a w) :=
  ⟨TextI.wpF_seg n k l a w hG fun Q' hQ' => h Q' fun a w hh => hQ' a w hh.out⟩
theorem wpF_one {Q : Act → World → Prop} {k : Nat} {o : Oper} {r : List Oper} {a : Act} {w : World} (hkf : k ≠ f) (hg : fo.guard = none)
    (hnow : ∀ Q' : Exit → Act → World → Prop, (∀ a' w', I w' ∧ Stop (TextI.wpSx P ops I G f Q k (o :: r) a' w') → Q' .normal a' w') → wpList P ops Q' [fo] a w)
    (h : ∀ Q' : Exit → Act → World → Prop, (∀ a' w', I w' ∧ Stop (TextI.wpF P ops I G f fo Q (k + 1) r a' w') → Q' .normal a' w') → wpList P ops Q' [o] a w) : Stop (TextI.wpF P ops I G f fo Q k (o :: r) a w) :=
  ⟨TextI.wpF_stay hkf (fun _ => TextI.now_of (ops := ops) hg fun Q' hQ' => hnow Q' fun a w hh => hQ' a w ⟨hh.1, hh.2.out⟩) fun Q' hQ' => h Q' fun a w hh => hQ' a w ⟨hh.1, hh.2.out⟩⟩
theorem wpF_at {Q : Act → World → Prop} {o : Oper} {r : List Oper} {a : Act} {w : World} (h : Stop (TextI.wpS P ops I G Q f (o :: r) a w)) : Stop (TextI.wpF P ops I G f fo Q f (o :: r) a w) := ⟨by
  unfold TextI.wpF
  rw [if_pos rfl]
  exact h.out⟩
theorem wpX_seg {Q : Act → World → Prop} (n : Nat) {k : Nat} {l : List Oper} {a : Act} {w : World} (hG : (List.range' k n).all (fun i => !G.contains i && i != f) = true)
    (h : ∀ Q' : Exit → Act → World → Prop, (∀ a w, Stop (TextI.wpSx P ops I G f Q (k + n) (l.drop n) a w) → Q' .normal a w) → wpList P ops Q' (l.take n) a w) : Stop (TextI.wpSx P ops I G f Q k l a w) :=
  ⟨TextI.wpSx_seg n k l a w hG fun Q' hQ' => h Q' fun a w hh => hQ' a w hh.out⟩
theorem wpX_one {Q : Act → World → Prop} {k : Nat} {o : Oper} {r : List Oper} {a : Act} {w : World} (hkf : k ≠ f)
    (h : ∀ Q' : Exit → Act → World → Prop, (∀ a' w', I w' ∧ Stop (TextI.wpSx P ops I G f Q (k + 1) r a' w') → Q' .normal a' w') → wpList P ops Q' [o] a w) : Stop (TextI.wpSx P ops I G f Q k (o :: r) a w) :=
  ⟨TextI.wpSx_one hkf fun Q' hQ' => h Q' fun a w hh => hQ' a w ⟨hh.1, hh.2.out⟩⟩
theorem wpX_skip {Q : Act → World → Prop} {o : Oper} {r : List Oper} {a : Act} {w : World} (h : Stop (TextI.wpSx P ops I G f Q (f + 1) r a w)) : Stop (TextI.wpSx P ops I G f Q f (o :: r) a w) := ⟨by
  unfold TextI.wpSx
  rw [if_pos rfl]
  exact h.out⟩
theorem wpX_end {Q : Act → World → Prop} {k : Nat} {a : Act} {w : World} (h : Q a w) : Stop (TextI.wpSx P ops I G f Q k [] a w) := ⟨h⟩
end
end Go.Proofs.YtplbcbamnjnhlaaGreatDoor
namespace Go.Proofs.YtplbcbamnjnhlaaGreatDoor
open Go.RowKit

def zk32 : K32 := ⟨(z32, 0), rfl⟩
def markAt (b : BookD) (k : K32) : Option K32 := (b.live.find? fun p => decide (p.1 = k)).map (·.2)
theorem live_nodup {b : BookD} (h : Good b) : (b.live.map (·.1)).Nodup := (live_pair h).imp fun {x y} hxy he => by rw [he, kless_self] at hxy; cases hxy
theorem pins_nodup {b : BookD} (h : Good b) : b.pins.Nodup := h.pins.imp fun {x y} hxy he => by rw [he, kless_self] at hxy; cases hxy
theorem assoc_liveP (l : List (K32 × K32)) (k : K32) : assoc (liveP l) k = ((l.find? fun p => decide (p.1 = k)).map (·.2)).map kv := by
  unfold assoc liveP
  rw [List.find?_map]
  simp [Function.comp_def, Option.map_map]
theorem assoc_live {b : BookD} (h : Good b) {lm : List (K32 × Value)} (hp : lm.Perm (liveP b.live)) (k : K32) : assoc lm k = (markAt b k).map kv := by
  rw [assoc_perm hp (by rw [liveP_keys]; exact live_nodup h), assoc_liveP]
  rfl
theorem assoc_pins {b : BookD} (h : Good b) {lp : List (K32 × Value)} (hp : lp.Perm (pinsP b.pins)) (k : K32) : assoc lp k = if k ∈ b.pins then some (.int .i64 1) else none := by
  rw [assoc_perm hp (by rw [pinsP_keys]; exact pins_nodup h)]
  split
  · rename_i hk
    rw [assoc_some (by rw [pinsP_keys]; exact pins_nodup h)]
    exact List.mem_map.2 ⟨k, hk, rfl⟩
  · rename_i hk
    rw [assoc_none]
    intro p hp he
    obtain ⟨q, hq, rfl⟩ := List.mem_map.1 hp
    exact hk (by rw [← he]; exact hq)
theorem ret_mark {fn : Func} {p u : Tmp} {x : Value} {Q : Ending → World → Prop} (h : fn.results = #[.cell p 36, .tmp u]) {a : Act} {w : World} {g : Nat} {m : K32} {fr : Nat × Nat} {t : TypeId} (hd : a.defers = [])
    (hp : a.tmps.getD p undef = .pointer (some ⟨g, 0, none⟩)) (hu : a.tmps.getD u undef = x) (hg : w.heap[g]? = some (.cells (encK m).toArray t fr)) (hq : Q (.returned (.tuple #[kv m, x])) w) : bodyPost Tryz.prog fn Q .ret a w := by
  refine bodyPost_ret (v := .tuple #[kv m, x]) ?_ hd hq
  rw [results_cell_tmp h, hp, hu]
  simp [asAddr, Result.andThen, run_loadVar_row w g t 36 (encK m).toArray fr _ hg markTy.ut rfl (mark_size _ _ m.2)]
  rfl
def GetTo (b : BookD) (k : K32) (w : World) (e : Ending) (w' : World) : Prop := e = .returned (.tuple #[kv ((markAt b k).getD zk32), .bool (markAt b k).isSome]) ∧ Below w.heap.size w w'
set_option maxRecDepth 100000 in
set_option maxHeartbeats 4000000 in
theorem get_any (g : Nat) (b : BookD) (k : K32) (w : World) (h : BookAt w g b) (hg : Good b) :
    Calls Tryz.prog 25 #[bptr g, kv k] w (GetTo b k w) := by
  have HGD := Lib.hid hg
  have hglt := h.lt
  have H := Lib.hid h
  clear h hg
  go_enter Tryz.func25, Tryz.ntmps25
  go_wp2_with (refine stop_at (some 3) rfl ?_)
  refine Stop.go (wpList_box rfl 34 rfl rfl (vs := encK k) rfl ?_)
  refine wpList_alloc rfl 36 rfl zero_mark rfl ?_
  have HG1 := Lib.hid (Go.heap_alloc2_old w (.cells (encK k).toArray 34) (.cells (hkCells z32 0).toArray 36))
  have HG2 := Lib.hid (Go.heap_alloc2_new w (.cells (encK k).toArray 34) (.cells (hkCells z32 0).toArray 36))
  have HB := Lib.hid (((Below.refl _ _).alloc (Nat.le_refl _) (.cells (encK k).toArray 34)).alloc (by rw [World.size_alloc]; omega) (.cells (hkCells z32 0).toArray 36) : Below w.heap.size w _)
  have HSZ := Lib.hid (show ((w.alloc (.cells (encK k).toArray 34)).alloc (.cells (hkCells z32 0).toArray 36)).heap.size = w.heap.size + 2 by rw [World.size_alloc, World.size_alloc])
  rw [show (w.alloc (.cells (encK k).toArray 34)).heap.size = w.heap.size + 1 from World.size_alloc _ _]
  generalize ((w.alloc (.cells (encK k).toArray 34)).alloc (.cells (hkCells z32 0).toArray 36)) = w1 at *
  generalize hac : Act.put _ _ _ = a9
  simp [Act.put] at hac
  subst hac
  go_wp2_with fail
  refine wpF_float [5, 9] [3, 4] [] (fun w' => Below w1.drew.heap.size w1.drew w') 9 _ (Below.refl _ _) (by kernel_rfl) rfl rfl (by kernel_rfl) ?_
  have HBD := Lib.hid (show Below w1.heap.size w1 w1.drew from (Below.refl _ _).drew)
  have HSZ2 := Lib.hid (show w1.drew.heap.size = w.heap.size + 2 from HSZ.out)
  have HG12 := Lib.hid (show w1.drew.heap[w.heap.size]? = _ from HG1.out)
  have HG22 := Lib.hid (show w1.drew.heap[w.heap.size + 1]? = _ from HG2.out)
  have HB2 := Lib.hid (HB.out.trans (HBD.out.mono HB.out.size))
  have H2 := Lib.hid (H.out.below HB2.out hglt)
  clear HBD HB HG1 HG2 HSZ H
  generalize w1.drew = w2 at *
  have HA := Lib.hid (show ∀ w', Below w2.heap.size w2 w' → ∃ lm lp li, BookIn w' g b lm lp li ∧ (∀ j u, (encK k)[j]? = some u → w'.cell? ⟨w.heap.size, 0 + j, none⟩ = some u) from fun w' hb => by
    obtain ⟨lm, lp, li, hI⟩ := H2.out.below hb (by have := HSZ2.out; omega)
    exact ⟨lm, lp, li, hI, row_cells ((hb.block _ (by have := HSZ2.out; omega)).trans HG12.out)⟩)
  have HLD := Lib.hid (show ∀ w', Below w2.heap.size w2 w' → (Instr.loadAt 70 (.pointer (some ⟨g + 3, 1, none⟩))).run Tryz.prog w' = .ok (.map (some g)) w' ∧ (Instr.loadAt 34 (.pointer (some ⟨w.heap.size, 0, none⟩))).run Tryz.prog w' = .ok (kv k) w' from fun w' hb => by
    obtain ⟨lm, lp, li, hI, hk⟩ := HA.out w' hb
    exact ⟨load_map map_live hI.live_cell, load_agg keyTy.ut rfl (key_size _ _ k.2) hk⟩)
  obtain ⟨lm, lp, li, hI, hkc⟩ := HA.out w2 (Below.refl _ _)
  have hlc := hI.live_cell
  have HKC := Lib.hid hkc
  have HM := Lib.hid hI.live
  have HAS := Lib.hid (assoc_live HGD.out hI.lm_ k)
  clear hI hkc HA
  refine wpF_seg 5 (by decide) (fun Q0 hQ0 => ?_)
  simp only [List.take_succ_cons, List.take_zero]
  go_wp2_with (refine stop_at (some 16) rfl ?_)
  refine Stop.go (wpList_load_agg rfl 34 rfl rfl keyTy.ut rfl (cs := encK k) (key_size _ _ k.2) HKC.out ?_)
  refine hQ0 _ _ ?_
  simp only [List.drop_succ_cons, List.drop_zero]
  generalize hac : Act.put _ _ _ = a9
  simp [Act.put] at hac
  subst hac
  obtain ⟨mv, hmv⟩ : ∃ mv : K32, mv = (markAt b k).getD zk32 := ⟨_, rfl⟩
  obtain ⟨ok, hok⟩ : ∃ ok : Bool, ok = (markAt b k).isSome := ⟨_, rfl⟩
  have HV := Lib.hid (show (assoc lm k).getD (hkv z32 0) = kv mv by rw [HAS.out, hmv]; cases markAt b k <;> rfl)
  have HO := Lib.hid (show (assoc lm k).isSome = ok by rw [HAS.out, hok]; cases markAt b k <;> rfl)
  have HP := Lib.hid (show ∀ w', Below w.heap.size w w' → GetTo b k w (.returned (.tuple #[kv mv, .bool ok])) w' from fun w' hb => ⟨by rw [hmv, hok], hb⟩)
  clear hmv hok
  refine wpF_one (by decide) rfl (fun Q1 hQ1 => ?_) (fun Q1 hQ1 => ?_)
  · have hb3 : Below w2.heap.size w2 (w2.alloc (.cells (hkCells z32 0).toArray 36)) := (Below.refl _ _).alloc (Nat.le_refl _) _
    have HM3 := Lib.hid (HM.out.alloc (.cells (hkCells z32 0).toArray 36))
    refine wpList_alloc rfl 36 rfl zero_mark rfl ?_
    refine hQ1 _ _ ⟨hb3, ?_⟩
    have HB3 := Lib.hid hb3
    clear hb3
    generalize hac : Act.put _ _ _ = a9
    simp [Act.put] at hac
    subst hac
    refine wpX_one (by decide) (fun Q2 hQ2 => ?_)
    refine wpList_lookup_okS liveK rfl rfl rfl rfl HM3.out zero_mark ?_
    rw [HV.out, HO.out]
    refine hQ2 _ _ ⟨HB3.out, ?_⟩
    generalize hac : Act.put _ _ _ = a9
    simp [Act.put] at hac
    subst hac
    refine wpX_seg 3 (by decide) (fun Q3 hQ3 => ?_)
    simp only [List.take_succ_cons, List.take_zero]
    go_wp2_with fail
    simp only [List.drop_succ_cons, List.drop_zero]
    refine wpX_skip ?_
    refine wpX_seg 1 (by decide) (fun Q4 hQ4 => ?_)
    simp only [List.take_succ_cons, List.take_zero]
    refine wpList_store_agg rfl 36 rfl rfl rfl (store_new2 (g := w2.heap.size) rfl (v := kv mv) (vs := encK mv) rfl (mark_size _ _ mv.2) (by rw [encK_len]; simp [hkCells_length, z32_len]) (hkCells_one _ _)) ?_
    refine hQ4 _ _ ?_
    simp only [List.drop_succ_cons, List.drop_zero]
    generalize hac : Act.put _ _ _ = a9
    simp [Act.put] at hac
    subst hac
    refine wpX_seg 1 (by decide) (fun Q5 hQ5 => ?_)
    simp only [List.take_succ_cons, List.take_zero]
    go_wp2_with fail
    simp only [List.drop_succ_cons, List.drop_zero]
    refine wpX_end ⟨by rfl, ⟨fun _ => ⟨_, fun w' hb => (HLD.out w' hb).1⟩, fun _ => ⟨_, fun w' hb => (HLD.out w' hb).2⟩, trivial⟩, ?_⟩
    have HG3 := Lib.hid (Go.heap_alloc_new w2 (.cells (encK mv).toArray 36))
    have HG32 := Lib.hid ((Below.heap_alloc w2 (.cells (encK mv).toArray 36) (w.heap.size + 1) (by rw [HSZ2.out]; omega)).trans HG22.out)
    have HB4 := Lib.hid (HB2.out.alloc HB2.out.size (.cells (encK mv).toArray 36))
    generalize w2.alloc (.cells (encK mv).toArray 36) = w4 at *
    go_wp2_with (refine stop_at (some 20) rfl ?_)
    refine Stop.go (wpList_load_agg rfl 36 rfl rfl markTy.ut rfl (cs := encK mv) (mark_size _ _ mv.2) (row_cells HG3.out) ?_)
    generalize hac : Act.put _ _ _ = a9
    simp [Act.put] at hac
    subst hac
    go_wp2_with (refine stop_at none rfl ?_)
    refine Stop.go (wpList_store_agg rfl 36 rfl rfl rfl (store_row (v := kv mv) (vs := encK mv) rfl (mark_size _ _ mv.2) HG32.out (by rw [encK_len]; simp [hkCells_length, z32_len]) (hkCells_one _ _)) ?_)
    generalize hac : Act.put _ _ _ = a9
    simp [Act.put] at hac
    subst hac
    go_wp2_with fail
    refine ret_mark rfl rfl rfl rfl (setRow_heap _ _ _ _ _ _ HG32.out) ?_
    exact HP.out _ (below_setRow HB4.out (by omega) _)
  · refine wpList_lookup_okS liveK rfl rfl rfl rfl HM.out zero_mark ?_
    rw [HV.out, HO.out]
    refine hQ1 _ _ ⟨Below.refl _ _, ?_⟩
    generalize hac : Act.put _ _ _ = a9
    simp [Act.put] at hac
    subst hac
    refine wpF_seg 3 (by decide) (fun Q3 hQ3 => ?_)
    simp only [List.take_succ_cons, List.take_zero]
    go_wp2_with fail
    simp only [List.drop_succ_cons, List.drop_zero]
    refine wpF_at ?_
    refine wpI_one (fun Q3 hQ3 => ?_)
    refine wpList_alloc rfl 36 rfl zero_mark rfl ?_
    refine hQ3 _ _ ⟨(Below.refl _ _).alloc (Nat.le_refl _) _, ?_⟩
    generalize hac : Act.put _ _ _ = a9
    simp [Act.put] at hac
    subst hac
    refine wpI_seg 1 (by decide) (fun Q4 hQ4 => ?_)
    simp only [List.take_succ_cons, List.take_zero]
    refine wpList_store_agg rfl 36 rfl rfl rfl (store_new2 (g := w2.heap.size) rfl (v := kv mv) (vs := encK mv) rfl (mark_size _ _ mv.2) (by rw [encK_len]; simp [hkCells_length, z32_len]) (hkCells_one _ _)) ?_
    refine hQ4 _ _ ?_
    simp only [List.drop_succ_cons, List.drop_zero]
    generalize hac : Act.put _ _ _ = a9
    simp [Act.put] at hac
    subst hac
    refine wpI_seg 1 (by decide) (fun Q5 hQ5 => ?_)
    simp only [List.take_succ_cons, List.take_zero]
    go_wp2_with fail
    simp only [List.drop_succ_cons, List.drop_zero]
    refine wpI_end ⟨by rfl, ⟨fun _ => ⟨_, fun w' hb => (HLD.out w' hb).1⟩, fun _ => ⟨_, fun w' hb => (HLD.out w' hb).2⟩, trivial⟩, ?_⟩
    have HG3 := Lib.hid (Go.heap_alloc_new w2 (.cells (encK mv).toArray 36))
    have HG32 := Lib.hid ((Below.heap_alloc w2 (.cells (encK mv).toArray 36) (w.heap.size + 1) (by rw [HSZ2.out]; omega)).trans HG22.out)
    have HB4 := Lib.hid (HB2.out.alloc HB2.out.size (.cells (encK mv).toArray 36))
    generalize w2.alloc (.cells (encK mv).toArray 36) = w4 at *
    go_wp2_with (refine stop_at (some 20) rfl ?_)
    refine Stop.go (wpList_load_agg rfl 36 rfl rfl markTy.ut rfl (cs := encK mv) (mark_size _ _ mv.2) (row_cells HG3.out) ?_)
    generalize hac : Act.put _ _ _ = a9
    simp [Act.put] at hac
    subst hac
    go_wp2_with (refine stop_at none rfl ?_)
    refine Stop.go (wpList_store_agg rfl 36 rfl rfl rfl (store_row (v := kv mv) (vs := encK mv) rfl (mark_size _ _ mv.2) HG32.out (by rw [encK_len]; simp [hkCells_length, z32_len]) (hkCells_one _ _)) ?_)
    generalize hac : Act.put _ _ _ = a9
    simp [Act.put] at hac
    subst hac
    go_wp2_with fail
    refine ret_mark rfl rfl rfl rfl (setRow_heap _ _ _ _ _ _ HG32.out) ?_
    exact HP.out _ (below_setRow HB4.out (by omega) _)
theorem zero_int (w : World) : (zeroValue 3).run Tryz.prog w = .ok (.int .i64 0) w := by kernel_rfl
set_option maxRecDepth 100000 in
set_option maxHeartbeats 4000000 in
theorem pinned_any (g : Nat) (b : BookD) (k : K32) (w : World) (h : BookAt w g b) (hg : Good b) :
    Calls Tryz.prog 28 #[bptr g, kv k] w fun e w' => e = .returned (.bool (decide (k ∈ b.pins))) ∧ Below w.heap.size w w' := by
  have HGD := Lib.hid hg
  have hglt := h.lt
  have H := Lib.hid h
  clear h hg
  go_enter Tryz.func28, Tryz.ntmps28
  go_wp2_with (refine stop_at (some 3) rfl ?_)
  refine Stop.go (wpList_box rfl 34 rfl rfl (vs := encK k) rfl ?_)
  have HG1 := Lib.hid (row_cells (vs := encK k) (Go.heap_alloc_new w (.cells (encK k).toArray 34)))
  have HB := Lib.hid ((Below.refl _ _).alloc (Nat.le_refl _) (.cells (encK k).toArray 34) : Below w.heap.size w _)
  obtain ⟨lm, lp, li, hI⟩ := H.out.below HB.out hglt
  have hpc := hI.pins_cell
  have HM := Lib.hid hI.pins
  have HAS := Lib.hid (assoc_pins HGD.out hI.lp_ k)
  clear hI
  generalize (w.alloc (.cells (encK k).toArray 34)) = w1 at *
  generalize hac : Act.put _ _ _ = a9
  simp [Act.put] at hac
  subst hac
  go_wp2_with fail
  refine Text.wp_text [1] (by kernel_rfl) (by kernel_rfl) (fun Q' hQ' => ?_)
  have hpd : w1.drew.cell? ⟨g + 3, 2, none⟩ = some (.map (some (g + 1))) := hpc
  have HGD1 := Lib.hid (show ∀ j u, (encK k)[j]? = some u → w1.drew.cell? ⟨w.heap.size, 0 + j, none⟩ = some u from HG1.out)
  have HMD := Lib.hid (show MapS kv w1.drew (g + 1) lp from HM.out)
  have HBD := Lib.hid (HB.out.drew)
  generalize w1.drew = w2 at *
  go_wp2_with (refine stop_at (some 12) rfl ?_)
  refine Stop.go (wpList_load_aggG rfl 34 rfl rfl keyTy.ut rfl (cs := encK k) (key_size _ _ k.2) HGD1.out ?_)
  refine wpList_lookupS pinsK rfl rfl rfl rfl HMD.out zero_int ?_
  rw [HAS.out]
  generalize hac : Act.put _ _ _ = a9
  by_cases hk : k ∈ b.pins
  · have HK := Lib.hid (show decide (k ∈ b.pins) = true by simpa using hk)
    rw [if_pos hk] at hac
    clear hk
    simp [Act.put] at hac
    subst hac
    go_wp2_with fail
    refine ⟨by rfl, ?_⟩
    go_wp2_with fail
    go_ret
    exact ⟨rt1 (vbool HK.out.symm), HBD.out⟩
  · have HK := Lib.hid (show decide (k ∈ b.pins) = false by simpa using hk)
    rw [if_neg hk] at hac
    clear hk
    simp [Act.put] at hac
    subst hac
    go_wp2_with fail
    refine ⟨by rfl, ?_⟩
    go_wp2_with fail
    go_ret
    exact ⟨rt1 (vbool HK.out.symm), HBD.out⟩
end Go.Proofs.YtplbcbamnjnhlaaGreatDoor
namespace Go.Proofs.YtplbcbamnjnhlaaGreatDoor
open Go.RowKit

theorem be_row (n x k : Nat) (h : k < n) : List.replicate k (0 : UInt8) ++ [UInt8.ofNat (x / 256 ^ (n - (k + 1)) % 256)] ++ (beBytes n x).drop (k + 1) = List.replicate k (0 : UInt8) ++ (beBytes n x).drop k := by
  have hl : k < (beBytes n x).length := by rw [beBytes_length]; exact h
  rw [List.drop_eq_getElem_cons hl]
  have : (beBytes n x)[k] = UInt8.ofNat (x / 256 ^ (n - (k + 1)) % 256) := by
    simp only [beBytes, List.getElem_reverse, bytesOfNat, List.getElem_map, digs_get, List.length_map, digs_length]
    rw [show n - 1 - k = n - (k + 1) by omega]
  rw [this]
  simp
set_option maxRecDepth 100000 in
theorem num32_any (n x : Nat) (w : World) (hn : n ≤ 8) (hx : x < 9223372036854775808) :
    Calls Tryz.prog 101 #[.int .i64 n, .int .i64 x] w fun e w' => e = .returned (.slice (some ⟨w.heap.size, 0, none⟩) n n) ∧ w'.heap[w.heap.size]? = some (.cells (bcells (beBytes n x)).toArray 5 (0, 0)) ∧ Below w.heap.size w w' := by
  have hmk := u8_make n (by omega)
  go_enter Tryz.func101, Tryz.ntmps101
  go_wp2_with fail
  have HG := Lib.hid (Go.heap_alloc_new w (.cells (madeCells #[.int .u8 0] n) 5))
  have HB := Lib.hid ((Below.refl _ _).alloc (Nat.le_refl _) (.cells (madeCells #[.int .u8 0] n) 5) : Below w.heap.size w _)
  go_loopw [1, 6] (fun v1 v6 wr => ∃ k : Nat, k ≤ n ∧ v6 = .int .i64 ((k : Int) - 1) ∧ v1 = .int .i64 (x / 256 ^ (n - k) : Nat) ∧ Hid (wr.heap[w.heap.size]? = some (.cells (bcells (List.replicate k 0 ++ (beBytes n x).drop k)).toArray 5 (0, 0))) ∧ Hid (Below w.heap.size w wr)) (fun _ v6 _ => (intOf v6 + 1).toNat)
  case atStart =>
    refine ⟨n, by omega, rfl, by simp, ?_, HB.out⟩
    have e1 : (beBytes n x).drop n = [] := List.drop_eq_nil_of_le (by rw [beBytes_length]; omega)
    have e2 : (bcells (List.replicate n 0 ++ (beBytes n x).drop n)).toArray = madeCells #[.int .u8 0] n := by
      apply Array.ext'
      rw [toList_madeCells_one, e1]
      simp [bcells, bcell]
    show _ = _
    rw [e2]
    exact HG.out
  case round =>
    obtain ⟨k, hk, rfl, rfl, hh, hb⟩ := hrel
    cases k with
    | zero =>
      go_wp2_with fail
      go_ret
      refine ⟨rfl, ?_, hb.out⟩
      have := hh.out
      simpa using this
    | succ k =>
      obtain ⟨q, hq⟩ : ∃ q, q = x / 256 ^ (n - (k + 1)) := ⟨_, rfl⟩
      have HQ := Lib.hid (show q / 256 = x / 256 ^ (n - k) by rw [hq, Nat.div_div_eq_div_mul, ← Nat.pow_succ]; congr 2; omega)
      have hqx : q < 9223372036854775808 := by rw [hq]; exact Nat.lt_of_le_of_lt (Nat.div_le_self _ _) hx
      have HQ0 := Lib.hid hq
      rw [← hq]
      clear hq
      have hks : (((k + 1 : Nat) : Int) - 1) = (k : Int) := by omega
      rw [hks]
      have hst : (Instr.storeAt 5 (.pointer (some ⟨w.heap.size, k, none⟩)) (.int .u8 ((q : Int) % 256))).run Tryz.prog wr = .ok () (wr.setRow w.heap.size (bcells (List.replicate k 0 ++ (beBytes n x).drop k)).toArray) := by
        rw [store_agg (vs := [.int .u8 ((q : Int) % 256)]) rfl (by kernel_rfl) hh.out (by simp [bcells_length, beBytes_length]) (fun u hu => by rw [List.mem_singleton.1 hu]; rfl)]
        refine congrArg (fun r => Result.ok () (wr.setRow w.heap.size r)) ?_
        have e0 : (bcells (List.replicate (k + 1) 0 ++ (beBytes n x).drop (k + 1))) = bcells (List.replicate k 0) ++ ([bcell 0] ++ bcells ((beBytes n x).drop (k + 1))) := by
          rw [List.replicate_succ']
          simp [bcells]
        have hl : (bcells (List.replicate k (0 : UInt8))).length = k := by simp [bcells_length]
        have e1 := be_row n x k (by omega)
        rw [← HQ0.out] at e1
        have e2 : Value.int .u8 ((q : Int) % 256) = bcell (UInt8.ofNat (q % 256)) := by
          unfold bcell
          rw [UInt8.toNat_ofNat', Nat.mod_eq_of_lt (show q % 256 < 2 ^ 8 by omega)]
          rfl
        rw [← e1, e2]
        apply Array.ext'
        simp only [e0]
        rw [List.take_append_of_le_length (by omega), List.take_of_length_le (by omega), List.drop_append, List.drop_eq_nil_of_le (by simp only [List.length_cons, List.length_nil]; omega), hl]
        simp [bcells]
      have HST := Lib.hid hst
      clear hst
      go_wp2_with (refine stop_at (some 18) rfl ?_)
      refine Stop.go (wpList_seg 3 _ _ _ (fun Q' hQ' => ?_))
      simp only [List.take_succ_cons, List.take_zero]
      go_wp2_with fail
      simp only [List.drop_succ_cons, List.drop_zero]
      refine Stop.go (wpList_store_agg rfl 5 rfl rfl rfl HST.out ?_)
      have HG2 := Lib.hid (setRow_heap wr w.heap.size _ (bcells (List.replicate k 0 ++ (beBytes n x).drop k)).toArray _ _ hh.out)
      have HB2 := Lib.hid (below_setRow hb.out (Nat.le_refl _) (bcells (List.replicate k 0 ++ (beBytes n x).drop k)).toArray : Below w.heap.size w (wr.setRow w.heap.size _))
      generalize wr.setRow w.heap.size _ = w9 at HG2 HB2 ⊢
      go_wp2_with fail
      refine ⟨⟨k, by omega, rfl, vint ?_, HG2, HB2⟩, ?_⟩
      · rw [← HQ.out]; rfl
      · simp [intOf]
end Go.Proofs.YtplbcbamnjnhlaaGreatDoor
namespace Go.Proofs.YtplbcbamnjnhlaaGreatDoor
open Go.RowKit

theorem line_le {r : RecD} (h : GoodR r) : (lineL r).length ≤ 20000 := by
  have h1 := loadL_le r h.2.1 h.2.2 h.1
  have h2 := vForm_len_le (loadL r).length (by omega)
  have h3 := sevPack_length (frameR r)
  have h4 := line_len r
  have h5 : (frameR r).length = 5 + (vForm (loadL r).length).length + (loadL r).length := frameSeal_length _ _
  omega
theorem lines_le : ∀ (rs : List RecD), (∀ r ∈ rs, GoodR r) → (rs.flatMap lineL).length ≤ 20000 * rs.length
  | [], _ => by simp
  | r :: rs, h => by
    have h1 := line_le (h r (by simp))
    have h2 := lines_le rs fun x hx => h x (by simp [hx])
    rw [List.flatMap_cons, List.length_append, List.length_cons]
    omega
theorem rec_at {w : World} {B : Nat} {A : Option Addr} {n c : Nat} {rs : List RecD} (h : SlR eRec w B (.slice A n c) rs) {k : Nat} (hk : k < rs.length) :
    ∃ b off A2 c2, A = some ⟨b, off, none⟩ ∧ n ≤ c ∧ b < B ∧ Hs rs[k] ∧ SlR eKey w B (.slice A2 rs[k].keys.length c2) rs[k].keys ∧
      (∀ j u, (recCells rs[k].kind rs[k].seq rs[k].kh rs[k].kk rs[k].mh rs[k].ms (.slice A2 rs[k].keys.length c2))[j]? = some u → w.cell? ⟨b, off + k * 69 + j, none⟩ = some u) := by
  obtain ⟨b, off, cs, h1, h2, h3, h4, h5⟩ := h.get hk (by decide)
  obtain ⟨v, rfl, l1, l2, hs⟩ := h4
  obtain ⟨A2, c2, rfl, _, _⟩ := hs.form
  exact ⟨b, off, A2, c2, h1, h2, h3, ⟨l1, l2⟩, hs, fun j u hu => by have := h5 j u hu; rwa [show eRec.size = 69 from rfl, ← Nat.add_assoc] at this⟩
theorem keys_len32 {w : World} {B : Nat} {v : Value} {xs : List KeyD} (h : SlR eKey w B v xs) : ∀ k ∈ xs, k.1.length = 32 := by
  intro k hk
  obtain ⟨i, hi, rfl⟩ := List.getElem_of_mem hk
  obtain ⟨A, c, rfl, _, _⟩ := h.form
  obtain ⟨_, _, _, _, _, h6, _⟩ := keys_at h hi
  exact h6
theorem rec_last {k s : Int} {kh : List UInt8} {kk : Int} {mh : List UInt8} {ms : Int} {v : Value} (h1 : kh.length = 32) (h2 : mh.length = 32) : (recCells k s kh kk mh ms v)[68]? = some v := by
  rw [rec_split4]
  rw [List.getElem?_append_right (by simp [hkCells_length, bcells_length, h1, h2])]
  simp [hkCells_length, bcells_length, h1, h2]
end Go.Proofs.YtplbcbamnjnhlaaGreatDoor
namespace Go.Proofs.YtplbcbamnjnhlaaGreatDoor
open Go.RowKit

theorem ivCells_len (p : K32 × K32) : (ivCells p).length = 66 := by unfold ivCells; rw [List.length_append, hkCells_length, hkCells_length, p.1.2, p.2.2]
theorem ivCells_one (p : K32 × K32) : ∀ u ∈ ivCells p, u.oneCell' = true := by
  intro u hu
  rcases List.mem_append.1 hu with h | h
  · exact hkCells_one _ _ u h
  · exact hkCells_one _ _ u h
theorem zero_intent (w : World) : (zeroValue 76).run Tryz.prog w = .ok (iv (zk32, zk32)) w := by kernel_rfl
theorem intent_size (p : K32 × K32) : (Tryz.prog.info? 76).map (·.size) = some (ivCells p).length := by rw [ivCells_len]; kernel_rfl
theorem assoc_ints {b : BookD} (h : Good b) {li : List (Int × Value)} (hp : li.Perm (intsP b.ints)) (s : Int) : assoc li s = (findI b.ints s).map fun i => iv i.2 := by
  rw [assoc_perm hp (by simpa [intsP, Function.comp_def] using h.ints)]
  unfold assoc intsP findI
  rw [List.find?_map]
  simp [Function.comp_def, Option.map_map]
theorem may_false1 {b : BookD} {r : RecD} (h : rightB r = false) : mayD b r = false := by simp [mayD, h]
theorem may_false2 {b : BookD} {r : RecD} (h : (b.head == (r.kind == 1)) = true) : mayD b r = false := by
  have : (b.head == decide (r.kind = 1)) = true := h
  simp [mayD, this]
theorem may_2 {b : BookD} {r : RecD} (h1 : rightB r = true) (h2 : (b.head == (r.kind == 1)) = false) (h3 : (r.kind == 2) = true) : mayD b r = decide (r.seq ≥ b.next) := by
  have h2' : (b.head == decide (r.kind = 1)) = false := h2
  have h3' : r.kind = 2 := by simpa using h3
  unfold mayD
  rw [h1, h2']
  simp [h3']
theorem may_3 {b : BookD} {r : RecD} (h1 : rightB r = true) (h2 : (b.head == (r.kind == 1)) = false) (h4 : (r.kind == 3) = true) : mayD b r = (findI b.ints r.seq).isSome := by
  have h2' : (b.head == decide (r.kind = 1)) = false := h2
  have h4' : r.kind = 3 := by simpa using h4
  unfold mayD
  rw [h1, h2']
  simp [h4']
theorem may_else {b : BookD} {r : RecD} (h1 : rightB r = true) (h2 : (b.head == (r.kind == 1)) = false) (h3 : (r.kind == 2) = false) (h4 : (r.kind == 3) = false) : mayD b r = true := by
  have h2' : (b.head == decide (r.kind = 1)) = false := h2
  have h3' : ¬ r.kind = 2 := by simpa using h3
  have h4' : ¬ r.kind = 3 := by simpa using h4
  simp only [mayD, h1, h2', if_neg h3', if_neg h4']
  simp
def MayTo (b : BookD) (r : RecD) (w : World) (e : Ending) (w' : World) : Prop := e = .returned (.bool (mayD b r)) ∧ Below w.heap.size w w'
set_option maxRecDepth 100000 in
set_option maxHeartbeats 8000000 in
theorem may33_any (g : Nat) (b : BookD) (r : RecD) (A : Option Addr) (n c B : Nat) (w : World) (h : BookAt w g b) (hg : Good b) (hr : Hs r) (h1 : SlR eKey w B (.slice A n c) r.keys) (hB : B ≤ w.heap.size) :
    Calls Tryz.prog 29 #[bptr g, rv r (.slice A n c)] w (MayTo b r w) := by
  have HGD := Lib.hid hg
  have hglt := h.lt
  have HR := Lib.hid hr
  have hb1 : Below w.heap.size w (w.alloc (.cells (recCells r.kind r.seq r.kh r.kk r.mh r.ms (.slice A n c)).toArray 38)) := (Below.refl _ _).alloc (Nat.le_refl _) _
  have HB1 := Lib.hid hb1
  have HS1 := Lib.hid (show (w.alloc (.cells (recCells r.kind r.seq r.kh r.kk r.mh r.ms (.slice A n c)).toArray 38)).heap.size = w.heap.size + 1 from Array.size_push _)
  have HG1 := Lib.hid (RecAt.new (t := 38) (kind := r.kind) (seq := r.seq) (kk := r.kk) (ms := r.ms) (v := .slice A n c) w hr.1 hr.2)
  have HK1 := Lib.hid (h1.fut hb1 hB hB)
  have H1 := Lib.hid (h.below hb1 hglt)
  clear h hg hr h1 hb1 hB
  go_enter Tryz.func29, Tryz.ntmps29
  go_wp2_with (refine stop_at (some 3) rfl ?_)
  refine Stop.go (wpList_box rfl _ rfl rfl (recv_cells ..) ?_)
  generalize (w.alloc (.cells (recCells r.kind r.seq r.kh r.kk r.mh r.ms (.slice A n c)).toArray 38)) = w1 at *
  generalize hac : Act.put _ _ _ = a9
  simp [Act.put] at hac
  subst hac
  go_wp2_with fail
  refine Text.wp_text [1] (by kernel_rfl) (by kernel_rfl) (fun Q' hQ' => ?_)
  have HGD1 := Lib.hid (HG1.out.later (w' := w1.drew) (Below.refl _ _).drew)
  have HKD1 := Lib.hid (HK1.out.below (w' := w1.drew) ((Below.refl _ _).drew))
  have HBD1 := Lib.hid (HB1.out.drew)
  have HBK1 := Lib.hid (H1.out.below (w' := w1.drew) (N := w1.heap.size) (Below.refl _ _).drew (by rw [HS1.out]; omega))
  have HSD1 := Lib.hid (show w1.drew.heap.size = w.heap.size + 1 from HS1.out)
  clear HG1 HK1 HB1 H1 HS1
  generalize w1.drew = w2 at *
  go_wp2_with (refine stop_at (some 10) rfl ?_)
  refine Stop.go (wpList_load_aggG rfl 38 rfl rfl recTy_u rfl (rec_size _ _ _ _ _ _ _ HR.out.1 HR.out.2) HGD1.out.all_ ?_)
  generalize hac : Act.put _ _ _ = a9
  simp [Act.put] at hac
  subst hac
  go_wp2_with fail
  refine (right32_any r A n c w.heap.size w2 HR.out HKD1.out (by rw [HSD1.out]; omega)).mono ?_
  rintro e w3 ⟨rfl, hb3⟩
  rw [rightP_eq]
  have HG3 := Lib.hid (HGD1.out.later hb3)
  have HB3 := Lib.hid (HBD1.out.trans (hb3.mono HBD1.out.size))
  have HBK3 := Lib.hid (HBK1.out.below hb3 (by rw [HSD1.out]; omega))
  have HS3 := Lib.hid (show w.heap.size + 1 ≤ w3.heap.size by rw [← HSD1.out]; exact hb3.size)
  clear hb3 HGD1 HKD1 HBD1 HBK1 HSD1
  rcases Bool.eq_false_or_eq_true (rightB r) with hR | hR
  rotate_left
  · have HM := Lib.hid (may_false1 (b := b) hR)
    rw [hR]
    clear hR
    go_wp2_with fail
    refine ⟨by rfl, ?_⟩
    go_wp2_with fail
    go_ret
    exact ⟨rt1 (vbool HM.out.symm), HB3.out⟩
  have HRT := Lib.hid hR
  rw [hR]
  clear hR
  obtain ⟨lm, lp, li, hI⟩ := HBK3.out
  have hhc := hI.head_cell
  have hkc := HG3.out.kind_
  have hsc := HG3.out.seq_
  have hnc := hI.next_cell
  have hic := hI.ints_cell
  have HIN := Lib.hid hI.ints
  have HAS := Lib.hid (assoc_ints HGD.out hI.li_ r.seq)
  clear hI
  have HF2 := Lib.hid (@may_false2 b r)
  have HM2 := Lib.hid (@may_2 b r HRT.out)
  have HM3 := Lib.hid (@may_3 b r HRT.out)
  have HME := Lib.hid (@may_else b r HRT.out)
  obtain ⟨K, hK⟩ : ∃ K, K = r.kind := ⟨_, rfl⟩
  obtain ⟨S, hS⟩ : ∃ S, S = r.seq := ⟨_, rfl⟩
  obtain ⟨HD, hHD⟩ : ∃ HD, HD = b.head := ⟨_, rfl⟩
  obtain ⟨NX, hNX⟩ : ∃ NX, NX = b.next := ⟨_, rfl⟩
  rw [← hK] at hkc HF2 HM2 HM3 HME
  rw [← hS] at hsc HM2 HM3 HAS
  rw [← hHD] at hhc HF2 HM2 HM3 HME
  rw [← hNX] at hnc HM2
  have HKE := Lib.hid hK
  have HSE := Lib.hid hS
  clear hK hS hHD hNX
  rcases Bool.eq_false_or_eq_true (HD == (K == 1)) with hq | hq
  · have HM := Lib.hid (HF2.out hq)
    go_wp2_with fail
    refine ⟨by rfl, ?_⟩
    go_wp2_with fail
    go_ret
    exact ⟨rt1 (vbool HM.out.symm), HB3.out⟩
  have HQ := Lib.hid hq
  go_wp2_with fail
  refine ⟨by rfl, ?_⟩
  rcases Bool.eq_false_or_eq_true (K == 2) with hk2 | hk2
  · have HM := Lib.hid (HM2.out HQ.out hk2)
    go_wp2_with fail
    refine Text.wp_text [] (by kernel_rfl) (by kernel_rfl) (fun Q2 hQ2 => ?_)
    have d1 : w3.drew.cell? ⟨w.heap.size, 1, none⟩ = some (.int .i64 S) := hsc
    have d2 : w3.drew.cell? ⟨g + 3, 4, none⟩ = some (.int .i64 NX) := hnc
    have HB4 := Lib.hid HB3.out.drew
    generalize w3.drew = w4 at *
    go_wp2_with fail
    refine ⟨by rfl, ?_⟩
    go_wp2_with fail
    go_ret
    exact ⟨rt1 (vbool HM.out.symm), HB4.out⟩
  have HK2 := Lib.hid hk2
  rcases Bool.eq_false_or_eq_true (K == 3) with hk3 | hk3
  rotate_left
  · have HM := Lib.hid (HME.out HQ.out hk2 hk3)
    go_wp2_with fail
    go_ret
    exact ⟨rt1 (vbool HM.out.symm), HB3.out⟩
  have HM := Lib.hid (HM3.out HQ.out hk3)
  go_wp2_with fail
  refine wpF_float [6, 10] [3, 5] [] (fun w' => Below w3.drew.heap.size w3.drew w') 10 _ (Below.refl _ _) (by kernel_rfl) rfl rfl (by kernel_rfl) ?_
  have HB4 := Lib.hid HB3.out.drew
  have HS4 := Lib.hid (show w.heap.size + 1 ≤ w3.drew.heap.size from HS3.out)
  have hicd : w3.drew.cell? ⟨g + 3, 3, none⟩ = some (.map (some (g + 2))) := hic
  have hscd : w3.drew.cell? ⟨w.heap.size, 1, none⟩ = some (.int .i64 S) := hsc
  have HIND := Lib.hid (show MapS (Value.int .i64) w3.drew (g + 2) li from HIN.out)
  generalize w3.drew = w4 at *
  have HLD := Lib.hid (show ∀ w', Below w4.heap.size w4 w' → (Instr.loadAt 72 (.pointer (some ⟨g + 3, 3, none⟩))).run Tryz.prog w' = .ok (.map (some (g + 2))) w' ∧ (Instr.loadAt 3 (.pointer (some ⟨w.heap.size, 1, none⟩))).run Tryz.prog w' = .ok (.int .i64 S) w' from fun w' hb =>
    ⟨load_map map_ints ((hb.cell (p := ⟨g + 3, 3, none⟩) (by show g + 3 < _; have := HS4.out; omega)).trans hicd), load_int (k := .i64) (by kernel_rfl) ((hb.cell (p := ⟨w.heap.size, 1, none⟩) (by show w.heap.size < _; have := HS4.out; omega)).trans hscd)⟩)
  refine wpF_seg 6 (by decide) (fun Q0 hQ0 => ?_)
  simp only [List.take_succ_cons, List.take_zero]
  go_wp2_with fail
  simp only [List.drop_succ_cons, List.drop_zero]
  obtain ⟨mv, hmv⟩ : ∃ mv : K32 × K32, mv = ((findI b.ints S).map (·.2)).getD (zk32, zk32) := ⟨_, rfl⟩
  obtain ⟨ok, hok⟩ : ∃ ok : Bool, ok = (findI b.ints S).isSome := ⟨_, rfl⟩
  have HV := Lib.hid (show (assoc li S).getD (iv (zk32, zk32)) = iv mv by rw [HAS.out, hmv]; cases findI b.ints S <;> rfl)
  have HO := Lib.hid (show (assoc li S).isSome = ok by rw [HAS.out, hok]; cases findI b.ints S <;> rfl)
  have HP := Lib.hid (show ∀ w', Below w.heap.size w w' → MayTo b r w (.returned (.bool ok)) w' from fun w' hb => ⟨by rw [HM.out, hok, HSE.out], hb⟩)
  clear hmv hok
  refine wpF_one (by decide) rfl (fun Q1 hQ1 => ?_) (fun Q1 hQ1 => ?_)
  · have hb3 : Below w4.heap.size w4 (w4.alloc (.cells (ivCells (zk32, zk32)).toArray 76)) := (Below.refl _ _).alloc (Nat.le_refl _) _
    have HM3 := Lib.hid (HIND.out.alloc (.cells (ivCells (zk32, zk32)).toArray 76))
    refine wpList_alloc rfl 76 rfl zero_intent (vs := ivCells (zk32, zk32)) rfl ?_
    refine hQ1 _ _ ⟨hb3, ?_⟩
    have HB3 := Lib.hid hb3
    clear hb3
    generalize hac : Act.put _ _ _ = a9
    simp [Act.put] at hac
    subst hac
    refine wpX_one (by decide) (fun Q2 hQ2 => ?_)
    refine wpList_lookup_okS intsK rfl rfl rfl rfl HM3.out zero_intent ?_
    rw [HV.out, HO.out]
    refine hQ2 _ _ ⟨HB3.out, ?_⟩
    generalize hac : Act.put _ _ _ = a9
    simp [Act.put] at hac
    subst hac
    refine wpX_seg 3 (by decide) (fun Q3 hQ3 => ?_)
    simp only [List.take_succ_cons, List.take_zero]
    go_wp2_with fail
    simp only [List.drop_succ_cons, List.drop_zero]
    refine wpX_skip ?_
    refine wpX_seg 1 (by decide) (fun Q4 hQ4 => ?_)
    simp only [List.take_succ_cons, List.take_zero]
    refine wpList_store_agg rfl 76 rfl rfl rfl (store_new2 (g := w4.heap.size) rfl (v := iv mv) (vs := ivCells mv) rfl (intent_size mv) (by rw [ivCells_len, List.size_toArray, ivCells_len]) (ivCells_one _)) ?_
    refine hQ4 _ _ ?_
    simp only [List.drop_succ_cons, List.drop_zero]
    generalize hac : Act.put _ _ _ = a9
    simp [Act.put] at hac
    subst hac
    refine wpX_seg 1 (by decide) (fun Q5 hQ5 => ?_)
    simp only [List.take_succ_cons, List.take_zero]
    go_wp2_with fail
    simp only [List.drop_succ_cons, List.drop_zero]
    refine wpX_end ⟨by rfl, ⟨fun _ => ⟨_, fun w' hb => (HLD.out w' hb).1⟩, fun _ => ⟨_, fun w' hb => (HLD.out w' hb).2⟩, trivial⟩, ?_⟩
    go_wp2_with fail
    go_ret
    exact HP.out _ (HB4.out.alloc HB4.out.size _)
  · refine wpList_lookup_okS intsK rfl rfl rfl rfl HIND.out zero_intent ?_
    rw [HV.out, HO.out]
    refine hQ1 _ _ ⟨Below.refl _ _, ?_⟩
    generalize hac : Act.put _ _ _ = a9
    simp [Act.put] at hac
    subst hac
    refine wpF_seg 3 (by decide) (fun Q3 hQ3 => ?_)
    simp only [List.take_succ_cons, List.take_zero]
    go_wp2_with fail
    simp only [List.drop_succ_cons, List.drop_zero]
    refine wpF_at ?_
    refine wpI_one (fun Q3 hQ3 => ?_)
    refine wpList_alloc rfl 76 rfl zero_intent (vs := ivCells (zk32, zk32)) rfl ?_
    refine hQ3 _ _ ⟨(Below.refl _ _).alloc (Nat.le_refl _) _, ?_⟩
    generalize hac : Act.put _ _ _ = a9
    simp [Act.put] at hac
    subst hac
    refine wpI_seg 1 (by decide) (fun Q4 hQ4 => ?_)
    simp only [List.take_succ_cons, List.take_zero]
    refine wpList_store_agg rfl 76 rfl rfl rfl (store_new2 (g := w4.heap.size) rfl (v := iv mv) (vs := ivCells mv) rfl (intent_size mv) (by rw [ivCells_len, List.size_toArray, ivCells_len]) (ivCells_one _)) ?_
    refine hQ4 _ _ ?_
    simp only [List.drop_succ_cons, List.drop_zero]
    generalize hac : Act.put _ _ _ = a9
    simp [Act.put] at hac
    subst hac
    refine wpI_seg 1 (by decide) (fun Q5 hQ5 => ?_)
    simp only [List.take_succ_cons, List.take_zero]
    go_wp2_with fail
    simp only [List.drop_succ_cons, List.drop_zero]
    refine wpI_end ⟨by rfl, ⟨fun _ => ⟨_, fun w' hb => (HLD.out w' hb).1⟩, fun _ => ⟨_, fun w' hb => (HLD.out w' hb).2⟩, trivial⟩, ?_⟩
    go_wp2_with fail
    go_ret
    exact HP.out _ (HB4.out.alloc HB4.out.size _)
end Go.Proofs.YtplbcbamnjnhlaaGreatDoor
