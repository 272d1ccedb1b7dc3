/- Texts of this proof joined: Float2, RefLine, RefSame. -/
import Derived.Test.YtfheocdciekfoaaDoorMC02
import Derived.Test.YtfheocdciekfoaaDoorMA21
import Derived.Test.YtfheocdciekfoaaDoorMA29
import Derived.Test.YtfheocdciekfoaaDoorMC01
import Derived.Test.YtfheocdciekfoaaDoorMA35
import Derived.Test.YtfheocdciekfoaaDoorMA34
import Derived.Test.YtfheocdciekfoaaDoorMA31
import Derived.Test.YtfheocdciekfoaaDoorMA19
/- The steps of a region with one floating allocation, behind 'Stop'. No program is named here. -/
namespace Go.Proofs.YtfheocdciekfoaaDoor.TextI
open Go Go.RowKit Go.Proofs.YtfheocdciekfoaaDoor.Text
variable {P : Program} {ops : Array Oper} {I : World → Prop}
theorem wpF_seg {G : List Nat} {f : Nat} {fo : Oper} {Q : Act → World → Prop} : ∀ (n k : Nat) (l : List Oper) (a : Act) (w : World), (List.range' k n).all (fun i => !G.contains i && i != f) = true →
    (∀ Q' : Exit → Act → World → Prop, (∀ a w, wpF P ops I G f fo Q (k + n) (l.drop n) a w → Q' .normal a w) → wpList P ops Q' (l.take n) a w) → wpF P ops I G f fo Q k l a w
  | 0, k, l, a, w, _, h => by
    have := h (fun e a w => e = .normal ∧ wpF P ops I G f fo Q k l a w) (fun a w hh => ⟨rfl, by simpa using hh⟩)
    simpa [wpList] using this
  | n + 1, k, [], a, w, _, h => by
    have := h (fun e a w => e = .normal ∧ False) (fun a w hh => ⟨rfl, by simp [wpF] at hh⟩)
    simp [wpList] at this
  | n + 1, k, o :: r, a, w, hG, h => by
    rw [List.range'_succ, List.all_cons, Bool.and_eq_true] at hG
    have hkk : G.contains k = false ∧ ¬ k = f := by have := hG.1; simp only [Bool.and_eq_true, bne_iff_ne] at this; exact ⟨by simpa using this.1, this.2⟩
    have hk := hkk.1
    have h0 := h (fun e a w => e = .normal ∧ wpF P ops I G f fo Q (k + (n + 1)) ((o :: r).drop (n + 1)) a w) (fun a w hh => ⟨rfl, hh⟩)
    have hnl : ¬ LetsOut (fun e a w => e = Exit.normal ∧ wpF P ops I G f fo Q (k + (n + 1)) ((o :: r).drop (n + 1)) a w) := fun ⟨_, _, hh⟩ => by cases hh.1
    have hno : ∀ (e : Exit) (a : Act) (w : World), e ≠ .normal → ¬ (e = Exit.normal ∧ wpF P ops I G f fo Q (k + (n + 1)) ((o :: r).drop (n + 1)) a w) := fun _ _ _ hn hh => hn hh.1
    have ih : ∀ a w, wpList P ops (fun e a w => e = .normal ∧ wpF P ops I G f fo Q (k + (n + 1)) ((o :: r).drop (n + 1)) a w) (r.take n) a w → wpF P ops I G f fo Q (k + 1) r a w := fun a w hl =>
      wpF_seg n (k + 1) r a w hG.2 fun Q' hQ' => by
        refine wpList_mono' (fun e a w hh => ?_) _ _ _ hl
        obtain ⟨rfl, hh⟩ := hh
        exact hQ' _ _ (by simpa [Nat.add_assoc, Nat.add_comm 1 n] using hh)
    rw [List.take_succ_cons] at h0
    unfold wpList at h0
    unfold wpF
    rw [if_neg hkk.2]
    refine ⟨fun hh => (by rw [hk] at hh; cases hh), ?_⟩
    split at h0
    · rename_i hw
      rw [if_pos hw]
      have h1 := h0.resolve_right fun hh => hnl hh.2
      have h2 := Oper.wp_mono (K' := fun a' w' => (G.contains k = true → I w') ∧ wpF P ops I G f fo Q (k + 1) r a' w') (fun a w hh => ⟨fun hk' => (by rw [hk] at hk'; cases hk'), ih a w hh⟩) h1
      exact wp_noQ hno hnl h2
    · rename_i hw
      rw [if_neg hw]
      exact ih _ _ h0
theorem wpF_stay {G : List Nat} {f : Nat} {fo : Oper} {Q : Act → World → Prop} {k : Nat} {o : Oper} {r : List Oper} {a : Act} {w : World} (hkf : k ≠ f) (hnow : G.contains k = true → fo.wp P a w (fun a' w' => I w' ∧ wpSx P ops I G f Q k (o :: r) a' w') NoQ)
    (h : ∀ Q' : Exit → Act → World → Prop, (∀ a' w', I w' ∧ wpF P ops I G f fo Q (k + 1) r a' w' → Q' .normal a' w') → wpList P ops Q' [o] a w) : wpF P ops I G f fo Q k (o :: r) a w := by
  have h0 := h (fun e a w => e = .normal ∧ I w ∧ wpF P ops I G f fo Q (k + 1) r a w) (fun a w hh => ⟨rfl, hh⟩)
  have hnl : ¬ LetsOut (fun e a w => e = Exit.normal ∧ I w ∧ wpF P ops I G f fo Q (k + 1) r a w) := fun ⟨_, _, hh⟩ => by cases hh.1
  have hno : ∀ (e : Exit) (a : Act) (w : World), e ≠ .normal → ¬ (e = Exit.normal ∧ I w ∧ wpF P ops I G f fo Q (k + 1) r a w) := fun _ _ _ hn hh => hn hh.1
  unfold wpList at h0
  unfold wpF
  rw [if_neg hkf]
  refine ⟨hnow, ?_⟩
  split at h0
  · rename_i hw
    rw [if_pos hw]
    have h1 := h0.resolve_right fun hh => hnl hh.2
    have h2 := Oper.wp_mono (K' := fun a' w' => (G.contains k = true → I w') ∧ wpF P ops I G f fo Q (k + 1) r a' w') (fun a w hh => by
      simp only [wpList] at hh
      exact ⟨fun _ => hh.2.1, hh.2.2⟩) h1
    exact wp_noQ hno hnl h2
  · rename_i hw
    rw [if_neg hw]
    simp only [wpList] at h0
    exact h0.2.2
/-- f runs now: told by the walk's words -/
theorem now_of {fo : Oper} {a : Act} {w : World} {K : Act → World → Prop} (hg : fo.guard = none) (h : ∀ Q' : Exit → Act → World → Prop, (∀ a' w', K a' w' → Q' .normal a' w') → wpList P ops Q' [fo] a w) : fo.wp P a w K NoQ := by
  have h0 := h (fun e a w => e = .normal ∧ K a w) (fun a w hh => ⟨rfl, hh⟩)
  have hnl : ¬ LetsOut (fun e a w => e = Exit.normal ∧ K a w) := fun ⟨_, _, hh⟩ => by cases hh.1
  have hno : ∀ (e : Exit) (a : Act) (w : World), e ≠ .normal → ¬ (e = Exit.normal ∧ K a w) := fun _ _ _ hn hh => hn hh.1
  unfold wpList at h0
  rw [if_pos (by simp [Region.wanted, hg])] at h0
  have h1 := h0.resolve_right fun hh => hnl hh.2
  have h2 := Oper.wp_mono (K' := K) (fun a w hh => by
    simp only [wpList] at hh
    exact hh.2) h1
  exact wp_noQ hno hnl h2
end Go.Proofs.YtfheocdciekfoaaDoor.TextI
namespace Go.Proofs.YtfheocdciekfoaaDoor
open Go.RowKit
section
variable {P : Program} {ops : Array Oper} {I : World → Prop} {G : List Nat} {f : Nat} {fo : Oper}
theorem wpF_float {id : Nat} {Q : Exit → Act → World → Prop} {a : Act} {w : World} {l : List Oper} (G LD ex : List Nat) (I : World → Prop) (f : Nat) (fo : Oper) (hI : I w.drew) (hm : P.follows .mixedOrders = true) (hfo : l[f]? = some fo) (hg : fo.guard = none) (hB : TextI.floatB P l.toArray G LD ex f fo = true)
    (h : Stop (TextI.wpF P l.toArray I G f fo (fun a' w' => Text.chk l.toArray ex a' = true ∧ TextI.oldAll P l.toArray I a' LD ∧ Q .normal a' w') 0 l a w.drew)) : (Code.region id l.toArray true).wp P Q a w :=
  TextI.wp_float G LD ex I f fo hI hm hfo hg hB h.out
theorem wpF_seg {Q : Act → World → Prop} (n : Nat) {k : Nat} {l : List Oper} {a : Act} {w : World} (hG : (List.range' k n).all (fun i => !G.contains i && i != f) = true)
    (h : ∀ Q' : Exit → Act → World → Prop, (∀ a w, Stop (TextI.wpF P ops I G f fo Q (k + n) (l.drop n) a w) → Q' .normal a w) → wpList P ops Q' (l.take n) a w) : Stop (TextI.wpF P ops I G f fo Q k l a w) :=
  ⟨TextI.wpF_seg n k l a w hG fun Q' hQ' => h Q' fun a w hh => hQ' a w hh.out⟩
theorem wpF_one {Q : Act → World → Prop} {k : Nat} {o : Oper} {r : List Oper} {a : Act} {w : World} (hkf : k ≠ f) (hg : fo.guard = none)
    (hnow : ∀ Q' : Exit → Act → World → Prop, (∀ a' w', I w' ∧ Stop (TextI.wpSx P ops I G f Q k (o :: r) a' w') → Q' .normal a' w') → wpList P ops Q' [fo] a w)
    (h : ∀ Q' : Exit → Act → World → Prop, (∀ a' w', I w' ∧ Stop (TextI.wpF P ops I G f fo Q (k + 1) r a' w') → Q' .normal a' w') → wpList P ops Q' [o] a w) : Stop (TextI.wpF P ops I G f fo Q k (o :: r) a w) :=
  ⟨TextI.wpF_stay hkf (fun _ => TextI.now_of (ops := ops) hg fun Q' hQ' => hnow Q' fun a w hh => hQ' a w ⟨hh.1, hh.2.out⟩) fun Q' hQ' => h Q' fun a w hh => hQ' a w ⟨hh.1, hh.2.out⟩⟩
theorem wpF_at {Q : Act → World → Prop} {o : Oper} {r : List Oper} {a : Act} {w : World} (h : Stop (TextI.wpS P ops I G Q f (o :: r) a w)) : Stop (TextI.wpF P ops I G f fo Q f (o :: r) a w) := ⟨by
  unfold TextI.wpF
  rw [if_pos rfl]
  exact h.out⟩
theorem wpX_seg {Q : Act → World → Prop} (n : Nat) {k : Nat} {l : List Oper} {a : Act} {w : World} (hG : (List.range' k n).all (fun i => !G.contains i && i != f) = true)
    (h : ∀ Q' : Exit → Act → World → Prop, (∀ a w, Stop (TextI.wpSx P ops I G f Q (k + n) (l.drop n) a w) → Q' .normal a w) → wpList P ops Q' (l.take n) a w) : Stop (TextI.wpSx P ops I G f Q k l a w) :=
  ⟨TextI.wpSx_seg n k l a w hG fun Q' hQ' => h Q' fun a w hh => hQ' a w hh.out⟩
theorem wpX_one {Q : Act → World → Prop} {k : Nat} {o : Oper} {r : List Oper} {a : Act} {w : World} (hkf : k ≠ f)
    (h : ∀ Q' : Exit → Act → World → Prop, (∀ a' w', I w' ∧ Stop (TextI.wpSx P ops I G f Q (k + 1) r a' w') → Q' .normal a' w') → wpList P ops Q' [o] a w) : Stop (TextI.wpSx P ops I G f Q k (o :: r) a w) :=
  ⟨TextI.wpSx_one hkf fun Q' hQ' => h Q' fun a w hh => hQ' a w ⟨hh.1, hh.2.out⟩⟩
theorem wpX_skip {Q : Act → World → Prop} {o : Oper} {r : List Oper} {a : Act} {w : World} (h : Stop (TextI.wpSx P ops I G f Q (f + 1) r a w)) : Stop (TextI.wpSx P ops I G f Q f (o :: r) a w) := ⟨by
  unfold TextI.wpSx
  rw [if_pos rfl]
  exact h.out⟩
theorem wpX_end {Q : Act → World → Prop} {k : Nat} {a : Act} {w : World} (h : Q a w) : Stop (TextI.wpSx P ops I G f Q k [] a w) := ⟨h⟩
end
end Go.Proofs.YtfheocdciekfoaaDoor
/- Contract of the reference's Line (32). -/
namespace Go.Proofs.YtfheocdciekfoaaDoor
open Go.RowKit

set_option maxRecDepth 100000 in
set_option maxHeartbeats 8000000 in
theorem line32_any (r : RecD) (A : Option Addr) (n c B : Nat) (w : World) (hr : Hs r) (h1 : SlR eKey w B (.slice A n c) r.keys) (hB : B ≤ w.heap.size) (hR : rightB r = true) (hks : ∀ x ∈ r.keys, x.1.length = 32) :
    Calls Tryd.prog 19 #[rv r (.slice A n c)] w fun e w' => ∃ v, e = .returned v ∧ w'.ownsRow w.heap.size 5 1 v (lineL r).length (bcells (lineL r)) ∧ Below w.heap.size w w' := by
  have HR := Lib.hid hr
  have HBW := Lib.hid hB
  have HRT := Lib.hid hR
  obtain ⟨K, hK⟩ : ∃ K : UInt8, r.kind = (K.toNat : Int) := ⟨UInt8.ofNat r.kind.toNat, by
    have := right_kind hR
    rw [UInt8.toNat_ofNat']
    omega⟩
  have HK := Lib.hid hK
  have hk8 := K.toNat_lt
  have HLL := Lib.hid (loadL_le r hr hks hR)
  have HLN := Lib.hid (show lineL r = sevPack (frameSeal K (loadL r)) ++ [10] by unfold lineL; rw [hK]; simp)
  have HB1 := Lib.hid ((Below.refl _ _).alloc (Nat.le_refl _) (.cells (recCells r.kind r.seq r.kh r.kk r.mh r.ms (.slice A n c)).toArray 32) : Below w.heap.size w _)
  have HG1 := Lib.hid (RecAt.new (t := 32) (kind := r.kind) (seq := r.seq) (kk := r.kk) (ms := r.ms) (v := .slice A n c) w hr.1 hr.2)
  have HK1 := Lib.hid (h1.fut HB1.out hB (Nat.le_refl B))
  clear hr h1 hB hks hK hR
  go_enter Tryd.func19, Tryd.ntmps19
  go_wp2_with (refine stop_at (some 1) rfl ?_)
  refine Stop.go (wpList_box rfl _ rfl rfl (recv_cells ..) ?_)
  generalize w.alloc (.cells (recCells r.kind r.seq r.kh r.kk r.mh r.ms (.slice A n c)).toArray 32) = w1 at *
  go_wp2_with fail
  refine wpF_float [4, 5, 6, 7, 8] [1, 3] [] (fun w' => Below w1.drew.heap.size w1.drew w') 7 _ (Below.refl _ _) (by kernel_rfl) rfl rfl (by kernel_rfl) ?_
  have HBD := Lib.hid (show Below w1.heap.size w1 w1.drew from (Below.refl _ _).drew)
  have HG2 := Lib.hid (HG1.out.later HBD.out)
  have HK2 := Lib.hid (HK1.out.below (HBD.out.mono (Nat.le_trans HBW.out HB1.out.size)))
  have HBN := Lib.hid (show B ≤ w1.drew.heap.size from Nat.le_trans (Nat.le_trans HBW.out HB1.out.size) HBD.out.size)
  generalize w1.drew = w2 at *
  have c0 : w2.cell? ⟨w.heap.size, 0, none⟩ = some (.int .i64 K.toNat) := by rw [← HK.out]; exact HG2.out.kind_
  have HC0 := Lib.hid (show ∀ w', Below w2.heap.size w2 w' → w'.cell? ⟨w.heap.size, 0, none⟩ = some (.int .i64 K.toNat) from fun w' hb => by rw [← HK.out]; exact (HG2.out.later hb).kind_)
  have HCA := Lib.hid (show ∀ w', Below w2.heap.size w2 w' → ∀ j u, (recCells r.kind r.seq r.kh r.kk r.mh r.ms (.slice A n c))[j]? = some u → w'.cell? ⟨w.heap.size, 0 + j, none⟩ = some u from fun w' hb => (HG2.out.later hb).all_)
  refine wpF_seg 3 (by decide) (fun Q0 hQ0 => ?_)
  simp only [List.take_succ_cons, List.take_zero]
  go_wp2_with fail
  try simp only [List.drop_succ_cons, List.drop_zero]
  refine wpF_seg 1 (by decide) (fun Q1 hQ1 => ?_)
  simp only [List.take_succ_cons, List.take_zero]
  refine wpList_load_agg rfl 32 rfl rfl rec32Ty_u rfl (rec32_size _ _ _ _ _ _ _ HR.out.1 HR.out.2) HG2.out.all_ ?_
  refine hQ1 _ _ ?_
  simp only [List.drop_succ_cons, List.drop_zero]
  generalize hac : Act.put _ _ _ = a9
  simp [Act.put] at hac
  subst hac
  obtain ⟨LL, hLL⟩ : ∃ L, L = loadL r := ⟨_, rfl⟩
  rw [← hLL] at HLL HLN
  obtain ⟨F, hF⟩ : ∃ F, F = frameSeal K LL := ⟨_, rfl⟩
  have HFL := Lib.hid (show F.length ≤ 10000 by rw [hF, frameSeal_length]; have := vForm_len_le LL.length (by have := HLL.out; omega); have := HLL.out; omega)
  rw [← hF] at HLN
  obtain ⟨S, hS⟩ : ∃ S, S = sevPack F := ⟨_, rfl⟩
  have hsl : S.length ≤ 20000 := by rw [hS, sevPack_length]; have := HFL.out; omega
  rw [← hS] at HLN
  have HEL := Lib.hid hLL
  have HEF := Lib.hid hF
  have HES := Lib.hid hS
  have HB2 := Lib.hid (Below.refl w2.heap.size w2)
  clear hLL hF hS
  refine wpF_one (by decide) rfl (fun Q1 hQ1 => ?_) (fun Q1 hQ1 => ?_)
  · have hbf : Below w2.heap.size w2 (w2.alloc (.cells #[.int .u8 10] 5)) := (Below.refl _ _).alloc (Nat.le_refl _) _
    have HF3 := Lib.hid (Go.heap_alloc_new w2 (.cells #[.int .u8 10] 5))
    have HB3 := Lib.hid (HB2.out.trans (hbf.mono HB2.out.size))
    clear hbf
    go_wp2_with fail
    generalize w2.alloc (.cells #[.int .u8 10] 5) = w3 at *
    refine ⟨HB3.out, ?_⟩
    refine wpX_one (by decide) (fun Q1 hQ1 => ?_)
    go_wp2_with fail
    refine (load32_any r A n c B _ HR.out (HK2.out.below (HB3.out.mono HBN.out)) (Nat.le_trans HBN.out HB3.out.size) HRT.out).mono ?_
    rintro e w4 ⟨v4, rfl, ho4, hb4⟩
    rw [← HEL.out] at ho4
    obtain ⟨A4, c4, rfl, _, _⟩ := own_form ho4
    have HB4 := Lib.hid (HB3.out.trans (hb4.mono HB3.out.size))
    have HF4 := Lib.hid (show w4.heap[w2.heap.size]? = some (.cells #[.int .u8 10] 5 (0, 0)) from (hb4.block _ (Array.getElem?_eq_some_iff.1 HF3.out).1).trans HF3.out)
    have HL4 := Lib.hid (Rd.of_own ho4)
    clear ho4 hb4
    go_wp2_with fail
    refine ⟨HB4.out, ?_⟩
    refine wpX_one (by decide) (fun Q1 hQ1 => ?_)
    go_wp2_with fail
    refine (refSeal_any K LL _ _ _ _ HL4.out (Nat.le_refl _) (by have := HLL.out; omega)).mono ?_
    rintro e w5 ⟨v5, rfl, ho5, hb5⟩
    rw [← HEF.out] at ho5
    obtain ⟨A5, c5, rfl, _, _⟩ := own_form ho5
    have HB5 := Lib.hid (HB4.out.trans (hb5.mono HB4.out.size))
    have HF5 := Lib.hid (show w5.heap[w2.heap.size]? = some (.cells #[.int .u8 10] 5 (0, 0)) from (hb5.block _ (Array.getElem?_eq_some_iff.1 HF4.out).1).trans HF4.out)
    have HL5 := Lib.hid (Rd.of_own ho5)
    clear ho5 hb5
    go_wp2_with fail
    refine ⟨HB5.out, ?_⟩
    refine wpX_one (by decide) (fun Q1 hQ1 => ?_)
    go_wp2_with fail
    refine (refPack_any F _ _ _ _ HL5.out (Nat.le_refl _) (by have := HFL.out; omega)).mono ?_
    rintro e w6 ⟨v6, rfl, ho6, hb6⟩
    rw [← HES.out] at ho6
    obtain ⟨A6, c6, rfl, _, _⟩ := own_form ho6
    have HB6 := Lib.hid (HB5.out.trans (hb6.mono HB5.out.size))
    have HF6 := Lib.hid (show w6.heap[w2.heap.size]? = some (.cells #[.int .u8 10] 5 (0, 0)) from (hb6.block _ (Array.getElem?_eq_some_iff.1 HF5.out).1).trans HF5.out)
    have HO6 := Lib.hid (own_more ho6 (show w2.heap.size ≤ w5.heap.size from HB5.out.size))
    clear ho6 hb6
    go_wp2_with fail
    refine ⟨HB6.out, ?_⟩
    refine wpX_skip ?_
    refine wpX_one (by decide) (fun Q1 hQ1 => ?_)
    refine wpList_app u8_ty rfl rfl rfl rfl HO6.out (Rd.row (B := w6.heap.size) HF6.out (Array.getElem?_eq_some_iff.1 HF6.out).1) (m := 1) rfl (by simp [Value.oneCell']) ?h63 ?hby ?hbase ?_
    case h63 => simp only [maxLen]; omega
    case hby => omega
    case hbase => exact HB6.out.size
    intro v7 w7 hown7 hg7 _ _
    have HB7 := Lib.hid (grown_below HB6.out hg7 HO6.out (Nat.le_refl _) HB6.out.size)
    have HO7 := Lib.hid hown7
    clear hown7 hg7
    refine wpList_nil (hQ1 _ _ ⟨HB7.out, ?_⟩)
    generalize hac : Act.put _ _ _ = a9
    simp [Act.put] at hac
    subst hac
    refine wpX_seg 1 (by decide) (fun Q2 hQ2 => ?_)
    simp only [List.take_succ_cons, List.take_zero]
    go_wp2_with fail
    try simp only [List.drop_succ_cons, List.drop_zero]
    refine wpX_end ⟨by rfl, ⟨(fun _ => ⟨_, fun w' hI => load_int Tryd.underlying3 (HC0.out w' hI)⟩), (fun _ => ⟨_, fun w' hI => load_agg rec32Ty_u rfl (rec32_size _ _ _ _ _ _ _ HR.out.1 HR.out.2) (HCA.out w' hI)⟩), trivial⟩, ?_⟩
    go_wp2_with fail
    go_ret
    refine ⟨v7, rfl, ?_, HB1.out.trans ((HBD.out.trans (HB7.out.mono HBD.out.size)).mono HB1.out.size)⟩
    have h7 := own_more HO7.out (show w.heap.size ≤ w2.heap.size from Nat.le_trans HB1.out.size HBD.out.size)
    rw [HLN.out, bcells_append, List.length_append]
    exact h7
  · go_wp2_with fail
    refine (load32_any r A n c B _ HR.out (HK2.out.below (HB2.out.mono HBN.out)) (Nat.le_trans HBN.out HB2.out.size) HRT.out).mono ?_
    rintro e w8 ⟨v8, rfl, ho8, hb8⟩
    rw [← HEL.out] at ho8
    obtain ⟨A8, c8, rfl, _, _⟩ := own_form ho8
    have HB8 := Lib.hid (HB2.out.trans (hb8.mono HB2.out.size))
    have HL8 := Lib.hid (Rd.of_own ho8)
    clear ho8 hb8
    go_wp2_with fail
    refine ⟨HB8.out, ?_⟩
    refine wpF_one (by decide) rfl (fun Q1 hQ1 => ?_) (fun Q1 hQ1 => ?_)
    · have hbf : Below w8.heap.size w8 (w8.alloc (.cells #[.int .u8 10] 5)) := (Below.refl _ _).alloc (Nat.le_refl _) _
      have HF9 := Lib.hid (Go.heap_alloc_new w8 (.cells #[.int .u8 10] 5))
      have HB9 := Lib.hid (HB8.out.trans (hbf.mono HB8.out.size))
      have HL9 := Lib.hid ((HL8.out.below hbf).more hbf.size)
      clear hbf
      go_wp2_with fail
      generalize w8.alloc (.cells #[.int .u8 10] 5) = w9 at *
      refine ⟨HB9.out, ?_⟩
      refine wpX_one (by decide) (fun Q1 hQ1 => ?_)
      go_wp2_with fail
      refine (refSeal_any K LL _ _ _ _ HL9.out (Nat.le_refl _) (by have := HLL.out; omega)).mono ?_
      rintro e w10 ⟨v10, rfl, ho10, hb10⟩
      rw [← HEF.out] at ho10
      obtain ⟨A10, c10, rfl, _, _⟩ := own_form ho10
      have HB10 := Lib.hid (HB9.out.trans (hb10.mono HB9.out.size))
      have HF10 := Lib.hid (show w10.heap[w8.heap.size]? = some (.cells #[.int .u8 10] 5 (0, 0)) from (hb10.block _ (Array.getElem?_eq_some_iff.1 HF9.out).1).trans HF9.out)
      have HL10 := Lib.hid (Rd.of_own ho10)
      clear ho10 hb10
      go_wp2_with fail
      refine ⟨HB10.out, ?_⟩
      refine wpX_one (by decide) (fun Q1 hQ1 => ?_)
      go_wp2_with fail
      refine (refPack_any F _ _ _ _ HL10.out (Nat.le_refl _) (by have := HFL.out; omega)).mono ?_
      rintro e w11 ⟨v11, rfl, ho11, hb11⟩
      rw [← HES.out] at ho11
      obtain ⟨A11, c11, rfl, _, _⟩ := own_form ho11
      have HB11 := Lib.hid (HB10.out.trans (hb11.mono HB10.out.size))
      have HF11 := Lib.hid (show w11.heap[w8.heap.size]? = some (.cells #[.int .u8 10] 5 (0, 0)) from (hb11.block _ (Array.getElem?_eq_some_iff.1 HF10.out).1).trans HF10.out)
      have HO11 := Lib.hid (own_more ho11 (show w2.heap.size ≤ w10.heap.size from HB10.out.size))
      clear ho11 hb11
      go_wp2_with fail
      refine ⟨HB11.out, ?_⟩
      refine wpX_skip ?_
      refine wpX_one (by decide) (fun Q1 hQ1 => ?_)
      refine wpList_app u8_ty rfl rfl rfl rfl HO11.out (Rd.row (B := w11.heap.size) HF11.out (Array.getElem?_eq_some_iff.1 HF11.out).1) (m := 1) rfl (by simp [Value.oneCell']) ?h63 ?hby ?hbase ?_
      case h63 => simp only [maxLen]; omega
      case hby => omega
      case hbase => exact HB11.out.size
      intro v12 w12 hown12 hg12 _ _
      have HB12 := Lib.hid (grown_below HB11.out hg12 HO11.out (Nat.le_refl _) HB11.out.size)
      have HO12 := Lib.hid hown12
      clear hown12 hg12
      refine wpList_nil (hQ1 _ _ ⟨HB12.out, ?_⟩)
      generalize hac : Act.put _ _ _ = a9
      simp [Act.put] at hac
      subst hac
      refine wpX_seg 1 (by decide) (fun Q2 hQ2 => ?_)
      simp only [List.take_succ_cons, List.take_zero]
      go_wp2_with fail
      try simp only [List.drop_succ_cons, List.drop_zero]
      refine wpX_end ⟨by rfl, ⟨(fun _ => ⟨_, fun w' hI => load_int Tryd.underlying3 (HC0.out w' hI)⟩), (fun _ => ⟨_, fun w' hI => load_agg rec32Ty_u rfl (rec32_size _ _ _ _ _ _ _ HR.out.1 HR.out.2) (HCA.out w' hI)⟩), trivial⟩, ?_⟩
      go_wp2_with fail
      go_ret
      refine ⟨v12, rfl, ?_, HB1.out.trans ((HBD.out.trans (HB12.out.mono HBD.out.size)).mono HB1.out.size)⟩
      have h7 := own_more HO12.out (show w.heap.size ≤ w2.heap.size from Nat.le_trans HB1.out.size HBD.out.size)
      rw [HLN.out, bcells_append, List.length_append]
      exact h7
    · go_wp2_with fail
      refine (refSeal_any K LL _ _ _ _ HL8.out (Nat.le_refl _) (by have := HLL.out; omega)).mono ?_
      rintro e w13 ⟨v13, rfl, ho13, hb13⟩
      rw [← HEF.out] at ho13
      obtain ⟨A13, c13, rfl, _, _⟩ := own_form ho13
      have HB13 := Lib.hid (HB8.out.trans (hb13.mono HB8.out.size))
      have HL13 := Lib.hid (Rd.of_own ho13)
      clear ho13 hb13
      go_wp2_with fail
      refine ⟨HB13.out, ?_⟩
      refine wpF_one (by decide) rfl (fun Q1 hQ1 => ?_) (fun Q1 hQ1 => ?_)
      · have hbf : Below w13.heap.size w13 (w13.alloc (.cells #[.int .u8 10] 5)) := (Below.refl _ _).alloc (Nat.le_refl _) _
        have HF14 := Lib.hid (Go.heap_alloc_new w13 (.cells #[.int .u8 10] 5))
        have HB14 := Lib.hid (HB13.out.trans (hbf.mono HB13.out.size))
        have HL14 := Lib.hid ((HL13.out.below hbf).more hbf.size)
        clear hbf
        go_wp2_with fail
        generalize w13.alloc (.cells #[.int .u8 10] 5) = w14 at *
        refine ⟨HB14.out, ?_⟩
        refine wpX_one (by decide) (fun Q1 hQ1 => ?_)
        go_wp2_with fail
        refine (refPack_any F _ _ _ _ HL14.out (Nat.le_refl _) (by have := HFL.out; omega)).mono ?_
        rintro e w15 ⟨v15, rfl, ho15, hb15⟩
        rw [← HES.out] at ho15
        obtain ⟨A15, c15, rfl, _, _⟩ := own_form ho15
        have HB15 := Lib.hid (HB14.out.trans (hb15.mono HB14.out.size))
        have HF15 := Lib.hid (show w15.heap[w13.heap.size]? = some (.cells #[.int .u8 10] 5 (0, 0)) from (hb15.block _ (Array.getElem?_eq_some_iff.1 HF14.out).1).trans HF14.out)
        have HO15 := Lib.hid (own_more ho15 (show w2.heap.size ≤ w14.heap.size from HB14.out.size))
        clear ho15 hb15
        go_wp2_with fail
        refine ⟨HB15.out, ?_⟩
        refine wpX_skip ?_
        refine wpX_one (by decide) (fun Q1 hQ1 => ?_)
        refine wpList_app u8_ty rfl rfl rfl rfl HO15.out (Rd.row (B := w15.heap.size) HF15.out (Array.getElem?_eq_some_iff.1 HF15.out).1) (m := 1) rfl (by simp [Value.oneCell']) ?h63 ?hby ?hbase ?_
        case h63 => simp only [maxLen]; omega
        case hby => omega
        case hbase => exact HB15.out.size
        intro v16 w16 hown16 hg16 _ _
        have HB16 := Lib.hid (grown_below HB15.out hg16 HO15.out (Nat.le_refl _) HB15.out.size)
        have HO16 := Lib.hid hown16
        clear hown16 hg16
        refine wpList_nil (hQ1 _ _ ⟨HB16.out, ?_⟩)
        generalize hac : Act.put _ _ _ = a9
        simp [Act.put] at hac
        subst hac
        refine wpX_seg 1 (by decide) (fun Q2 hQ2 => ?_)
        simp only [List.take_succ_cons, List.take_zero]
        go_wp2_with fail
        try simp only [List.drop_succ_cons, List.drop_zero]
        refine wpX_end ⟨by rfl, ⟨(fun _ => ⟨_, fun w' hI => load_int Tryd.underlying3 (HC0.out w' hI)⟩), (fun _ => ⟨_, fun w' hI => load_agg rec32Ty_u rfl (rec32_size _ _ _ _ _ _ _ HR.out.1 HR.out.2) (HCA.out w' hI)⟩), trivial⟩, ?_⟩
        go_wp2_with fail
        go_ret
        refine ⟨v16, rfl, ?_, HB1.out.trans ((HBD.out.trans (HB16.out.mono HBD.out.size)).mono HB1.out.size)⟩
        have h7 := own_more HO16.out (show w.heap.size ≤ w2.heap.size from Nat.le_trans HB1.out.size HBD.out.size)
        rw [HLN.out, bcells_append, List.length_append]
        exact h7
      · go_wp2_with fail
        refine (refPack_any F _ _ _ _ HL13.out (Nat.le_refl _) (by have := HFL.out; omega)).mono ?_
        rintro e w17 ⟨v17, rfl, ho17, hb17⟩
        rw [← HES.out] at ho17
        obtain ⟨A17, c17, rfl, _, _⟩ := own_form ho17
        have HB17 := Lib.hid (HB13.out.trans (hb17.mono HB13.out.size))
        have HO17 := Lib.hid (own_more ho17 (show w2.heap.size ≤ w13.heap.size from HB13.out.size))
        clear ho17 hb17
        go_wp2_with fail
        refine ⟨HB17.out, ?_⟩
        refine wpF_at ?_
        refine wpI_one (fun Q1 hQ1 => ?_)
        have hbf : Below w17.heap.size w17 (w17.alloc (.cells #[.int .u8 10] 5)) := (Below.refl _ _).alloc (Nat.le_refl _) _
        have HF18 := Lib.hid (Go.heap_alloc_new w17 (.cells #[.int .u8 10] 5))
        have HB18 := Lib.hid (HB17.out.trans (hbf.mono HB17.out.size))
        have HO18 := Lib.hid (own_below HO17.out hbf)
        clear hbf
        go_wp2_with fail
        generalize w17.alloc (.cells #[.int .u8 10] 5) = w18 at *
        refine ⟨HB18.out, ?_⟩
        refine wpI_one (fun Q1 hQ1 => ?_)
        refine wpList_app u8_ty rfl rfl rfl rfl HO18.out (Rd.row (B := w18.heap.size) HF18.out (Array.getElem?_eq_some_iff.1 HF18.out).1) (m := 1) rfl (by simp [Value.oneCell']) ?h63 ?hby ?hbase ?_
        case h63 => simp only [maxLen]; omega
        case hby => omega
        case hbase => exact HB18.out.size
        intro v19 w19 hown19 hg19 _ _
        have HB19 := Lib.hid (grown_below HB18.out hg19 HO18.out (Nat.le_refl _) HB18.out.size)
        have HO19 := Lib.hid hown19
        clear hown19 hg19
        refine wpList_nil (hQ1 _ _ ⟨HB19.out, ?_⟩)
        generalize hac : Act.put _ _ _ = a9
        simp [Act.put] at hac
        subst hac
        refine wpI_seg 1 (by decide) (fun Q2 hQ2 => ?_)
        simp only [List.take_succ_cons, List.take_zero]
        go_wp2_with fail
        try simp only [List.drop_succ_cons, List.drop_zero]
        refine wpI_end ⟨by rfl, ⟨(fun _ => ⟨_, fun w' hI => load_int Tryd.underlying3 (HC0.out w' hI)⟩), (fun _ => ⟨_, fun w' hI => load_agg rec32Ty_u rfl (rec32_size _ _ _ _ _ _ _ HR.out.1 HR.out.2) (HCA.out w' hI)⟩), trivial⟩, ?_⟩
        go_wp2_with fail
        go_ret
        refine ⟨v19, rfl, ?_, HB1.out.trans ((HBD.out.trans (HB19.out.mono HBD.out.size)).mono HB1.out.size)⟩
        have h7 := own_more HO19.out (show w.heap.size ≤ w2.heap.size from Nat.le_trans HB1.out.size HBD.out.size)
        rw [HLN.out, bcells_append, List.length_append]
        exact h7
end Go.Proofs.YtfheocdciekfoaaDoor
/- Contract of the reference's Same (32). -/
namespace Go.Proofs.YtfheocdciekfoaaDoor
open Go.RowKit

set_option maxRecDepth 100000 in
set_option maxHeartbeats 4000000 in
theorem same32_any (a b : RecD) (A1 A2 : Option Addr) (n1 c1 n2 c2 B1 B2 : Nat) (w : World) (ha : Hs a) (hb : Hs b) (h1 : SlR eKey w B1 (.slice A1 n1 c1) a.keys) (h2 : SlR eKey w B2 (.slice A2 n2 c2) b.keys) (hB1 : B1 ≤ w.heap.size) (hB2 : B2 ≤ w.heap.size) :
    Calls Tryd.prog 17 #[rv a (.slice A1 n1 c1), rv b (.slice A2 n2 c2)] w fun e w' => e = .returned (.bool (sameD a b)) ∧ Below w.heap.size w w' := by
  obtain ⟨a0, a1, a2, a3, a4, a5, a6⟩ := a
  obtain ⟨b0, b1, b2, b3, b4, b5, b6⟩ := b
  obtain ⟨ha1, ha2⟩ := ha
  obtain ⟨hb1, hb2⟩ := hb
  simp only at ha1 ha2 hb1 hb2 h1 h2
  have hbw : Below w.heap.size w ((w.alloc (.cells (recCells a0 a1 a2 a3 a4 a5 (.slice A1 n1 c1)).toArray 32)).alloc (.cells (recCells b0 b1 b2 b3 b4 b5 (.slice A2 n2 c2)).toArray 32)) :=
    ((Below.refl _ _).alloc (Nat.le_refl _) _).alloc (Nat.le_of_lt (by show _ < (Array.push _ _).size; rw [Array.size_push]; exact Nat.lt_succ_self _)) _
  have hr1 : RecAt ((w.alloc (.cells (recCells a0 a1 a2 a3 a4 a5 (.slice A1 n1 c1)).toArray 32)).alloc (.cells (recCells b0 b1 b2 b3 b4 b5 (.slice A2 n2 c2)).toArray 32)) w.heap.size 32 a0 a1 a2 a3 a4 a5 (.slice A1 n1 c1) :=
    (RecAt.new w ha1 ha2).later ((Below.refl _ _).alloc (Nat.le_refl _) _)
  have hr2 := RecAt.new (t := 32) (kind := b0) (seq := b1) (kk := b3) (ms := b5) (v := .slice A2 n2 c2) (w.alloc (.cells (recCells a0 a1 a2 a3 a4 a5 (.slice A1 n1 c1)).toArray 32)) hb1 hb2
  have hn1 := h1.n_eq
  have hn2 := h2.n_eq
  have hc1 := h1.n_le
  have hc2 := h2.n_le
  have H1 := Lib.hid (h1.fut hbw hB1 (Nat.le_refl B1))
  have H2 := Lib.hid (h2.fut hbw hB2 (Nat.le_refl B2))
  have HBW := Lib.hid hbw
  have N1 := Lib.hid hn1
  have N2 := Lib.hid hn2
  clear h1 h2 hbw hn1 hn2
  go_enter Tryd.func17, Tryd.ntmps17
  go_wp2_with (refine stop_at (some 2) rfl ?_)
  refine Stop.go (wpList_box rfl _ rfl rfl rfl (wpList_box rfl _ rfl rfl rfl ?_))
  rw [show (w.alloc (.cells (recCells a0 a1 a2 a3 a4 a5 (.slice A1 n1 c1)).toArray 32)).heap.size = w.heap.size + 1 from Array.size_push _] at hr2 ⊢
  generalize (w.alloc (.cells (recCells a0 a1 a2 a3 a4 a5 (.slice A1 n1 c1)).toArray 32)).alloc (.cells (recCells b0 b1 b2 b3 b4 b5 (.slice A2 n2 c2)).toArray 32) = w1 at *
  have c2' := hr1.keys_
  have d2 := hr2.keys_
  have HR1 := Lib.hid hr1
  have HR2 := Lib.hid hr2
  clear hr1 hr2
  by_cases hl : n1 = n2
  · subst hl
    go_wp2_with fail
    go_loopw [5] (fun v5 wr => ∃ i : Nat, i ≤ n1 ∧ v5 = .int .i64 i ∧ Hid (a6.take i = b6.take i ∧ ∀ p : Addr, wr.cell? p = w1.cell? p) ∧ Hid (Below w.heap.size w wr) ∧ Hid (Below w1.heap.size w1 wr)) (fun v5 _ => n1 - (intOf v5).toNat)
    case atStart => exact ⟨0, by omega, rfl, ⟨by simp, fun _ => rfl⟩, HBW, Lib.hid (Below.refl _ _)⟩
    case round =>
      obtain ⟨i, hi, rfl, HR, HB, HB1⟩ := hrel
      obtain ⟨hpre, hcell⟩ := HR.out
      have c3 := (hcell _).trans c2'
      have d3 := (hcell _).trans d2
      have HC := Lib.hid hcell
      have HP := Lib.hid hpre
      clear hpre hcell HR
      by_cases hlt : i < n1
      · have hlt1 : i < a6.length := by have := N1.out; omega
        have hlt2 : i < b6.length := by have := N2.out; omega
        obtain ⟨p1, o1, rfl, _, _, l1, e1⟩ := keys_at H1.out hlt1
        obtain ⟨p2, o2, rfl, _, _, l2, e2⟩ := keys_at H2.out hlt2
        have E1 := Lib.hid e1
        have E2 := Lib.hid e2
        clear e1 e2
        go_wp2_with fail
        refine Text.wp_text [10] (by kernel_rfl) (by kernel_rfl) (fun Q' hQ' => ?_)
        refine wpList_seg 4 _ _ _ (fun Q' hQ' => ?_)
        simp only [List.take_succ_cons, List.take_zero]
        go_wp2_with fail
        try simp only [List.drop_succ_cons, List.drop_zero]
        refine Stop.go (wpList_load_agg rfl 24 rfl rfl keyTy.ut rfl (key_size _ _ l1) (fun j u hu => (HC.out _).trans (E1.out j u hu)) ?_)
        refine wpList_seg 4 _ _ _ (fun Q' hQ' => ?_)
        simp only [List.take_succ_cons, List.take_zero]
        go_wp2_with fail
        try simp only [List.drop_succ_cons, List.drop_zero]
        refine Stop.go (wpList_load_agg rfl 24 rfl rfl keyTy.ut rfl (key_size _ _ l2) (fun j u hu => (HC.out _).trans (E2.out j u hu)) ?_)
        refine wpList_bin rfl .neq 24 rfl rfl rfl (hkv_guard keyTy.gd ..) (hkv_neq keyTy l1 l2) ?_
        by_cases he : a6[i] = b6[i]
        · rw [show (!(decide (a6[i].1 = b6[i].1) && decide (a6[i].2 = b6[i].2))) = false by rw [he]; simp]
          refine hQ' _ _ ⟨by rfl, ?_⟩
          go_wp2_with fail
          have HP2 := Lib.hid (And.intro (take_eq_succ HP.out hlt1 hlt2 he) (fun p => HC.out p : ∀ p : Addr, wr.drew.cell? p = w1.cell? p))
          refine ⟨⟨i + 1, by omega, by simp, HP2, Lib.hid HB.out.drew, Lib.hid HB1.out.drew⟩, ?_⟩
          simp [intOf]; omega
        · rw [show (!(decide (a6[i].1 = b6[i].1) && decide (a6[i].2 = b6[i].2))) = true by
            have : ¬ (a6[i].1 = b6[i].1 ∧ a6[i].2 = b6[i].2) := fun h => he (Prod.ext h.1 h.2)
            by_cases h1 : a6[i].1 = b6[i].1 <;> simp_all]
          refine hQ' _ _ ⟨by rfl, ?_⟩
          have HF := Lib.hid (show sameD ⟨a0, a1, a2, a3, a4, a5, a6⟩ ⟨b0, b1, b2, b3, b4, b5, b6⟩ = false by
            unfold sameD
            simp only
            rw [decide_eq_false (show ¬ a6 = b6 from fun h => he (by subst h; rfl)), Bool.and_false])
          go_wp2_with fail
          go_ret
          exact ⟨rt1 (vbool HF.out.symm), HB.out.drew⟩
      · obtain rfl : i = n1 := by omega
        have hkeq : a6 = b6 := by have := HP.out; rwa [List.take_of_length_le (by have := N1.out; omega), List.take_of_length_le (by have := N2.out; omega)] at this
        have R1 := Lib.hid (HR1.out.later HB1.out)
        have R2 := Lib.hid (HR2.out.later HB1.out)
        have c0 := R1.out.kind_
        have c1' := R1.out.seq_
        have c5' := R1.out.size_
        have d0 := R2.out.kind_
        have d1 := R2.out.seq_
        have d5 := R2.out.size_
        clear hi
        by_cases e0 : a0 = b0
        · by_cases e1 : a1 = b1
          · subst e0 e1
            go_wp2_with (refine stop_at (some 31) rfl ?_)
            refine Stop.go (wpList_seg 14 _ _ _ (fun Q' hQ' => ?_))
            simp only [List.take_succ_cons, List.take_zero]
            go_wp2_with fail
            try simp only [List.drop_succ_cons, List.drop_zero]
            refine Stop.go (wpList_load_aggG (by rfl) 24 rfl rfl keyTy.ut rfl (key_size _ _ ha1) R1.out.key_ ?_)
            refine wpList_seg 1 _ _ _ (fun Q' hQ' => ?_)
            simp only [List.take_succ_cons, List.take_zero]
            go_wp2_with fail
            try simp only [List.drop_succ_cons, List.drop_zero]
            refine Stop.go (wpList_load_aggG (by rfl) 24 rfl rfl keyTy.ut rfl (key_size _ _ hb1) R2.out.key_ ?_)
            refine wpList_binG (by rfl) .eql 24 rfl rfl rfl (hkv_guard keyTy.gd ..) (hkv_eql keyTy ha1 hb1) ?_
            cases ek : (decide (a2 = b2) && decide (a3 = b3))
            · have HF := Lib.hid (show sameD ⟨a0, a1, a2, a3, a4, a5, a6⟩ ⟨a0, a1, b2, b3, b4, b5, b6⟩ = false by unfold sameD; simp only [ek]; simp)
              go_wp2_with fail
              go_ret
              exact ⟨rt1 (vbool HF.out.symm), HB.out⟩
            · refine wpList_seg 3 _ _ _ (fun Q' hQ' => ?_)
              simp only [List.take_succ_cons, List.take_zero]
              go_wp2_with fail
              try simp only [List.drop_succ_cons, List.drop_zero]
              refine Stop.go (wpList_load_aggG (by rfl) 22 rfl rfl hashTy.ua rfl (hash_size _ ha2) R1.out.hash_ ?_)
              refine wpList_seg 1 _ _ _ (fun Q' hQ' => ?_)
              simp only [List.take_succ_cons, List.take_zero]
              go_wp2_with fail
              try simp only [List.drop_succ_cons, List.drop_zero]
              refine Stop.go (wpList_load_aggG (by rfl) 22 rfl rfl hashTy.ua rfl (hash_size _ hb2) R2.out.hash_ ?_)
              refine wpList_binG (by rfl) .eql 22 rfl rfl rfl (hashv_guard hashTy.gd ..) (hashv_eql hashTy ha2 hb2) ?_
              cases em : decide (a4 = b4)
              · have HF := Lib.hid (show sameD ⟨a0, a1, a2, a3, a4, a5, a6⟩ ⟨a0, a1, b2, b3, b4, b5, b6⟩ = false by unfold sameD; simp only [ek, em]; simp)
                go_wp2_with fail
                go_ret
                exact ⟨rt1 (vbool HF.out.symm), HB.out⟩
              · have HF := Lib.hid (show sameD ⟨a0, a1, a2, a3, a4, a5, a6⟩ ⟨a0, a1, b2, b3, b4, b5, b6⟩ = decide (a5 = b5) by unfold sameD; simp only [ek, em, hkeq]; simp)
                have hE : (a5 == b5) = decide (a5 = b5) := by by_cases h : a5 = b5 <;> simp [h]
                go_wp2_with fail
                go_ret
                exact ⟨rt1 (vbool (hE.trans HF.out.symm)), HB.out⟩
          · have HF := Lib.hid (show sameD ⟨a0, a1, a2, a3, a4, a5, a6⟩ ⟨b0, b1, b2, b3, b4, b5, b6⟩ = false by unfold sameD; simp [e1])
            have e1' : (a1 == b1) = false := by rw [beq_eq_false_iff_ne]; exact e1
            subst e0
            clear e1
            go_wp2_with fail
            go_ret
            exact ⟨rt1 (vbool HF.out.symm), HB.out⟩
        · have HF := Lib.hid (show sameD ⟨a0, a1, a2, a3, a4, a5, a6⟩ ⟨b0, b1, b2, b3, b4, b5, b6⟩ = false by unfold sameD; simp [e0])
          have e0' : (a0 == b0) = false := by rw [beq_eq_false_iff_ne]; exact e0
          clear e0
          go_wp2_with fail
          go_ret
          exact ⟨rt1 (vbool HF.out.symm), HB.out⟩
  · have HF := Lib.hid (show sameD ⟨a0, a1, a2, a3, a4, a5, a6⟩ ⟨b0, b1, b2, b3, b4, b5, b6⟩ = false by
      unfold sameD
      simp only
      rw [decide_eq_false (show ¬ a6 = b6 from fun h => hl (by rw [N1.out, N2.out, h])), Bool.and_false])
    have hne : ((n1 : Int) != (n2 : Int)) = true := by simp; omega
    go_wp2_with fail
    go_ret
    exact ⟨rt1 (vbool HF.out.symm), HBW.out⟩
end Go.Proofs.YtfheocdciekfoaaDoor
