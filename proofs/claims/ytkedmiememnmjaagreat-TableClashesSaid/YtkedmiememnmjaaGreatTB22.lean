/- Texts of this proof joined: LawW, Predict, Rf18, FewF, Awk, AwkW, Drawn, Tab1, Tab2, Tab3. -/
import Derived.Test.YtkedmiememnmjaaGreatTB16
import Derived.Test.YtkedmiememnmjaaGreatTB09
import Derived.Test.YtkedmiememnmjaaGreatTB21
import Derived.Test.YtkedmiememnmjaaGreatTB19
import Derived.Test.YtkedmiememnmjaaGreatTB15
import Derived.Test.YtkedmiememnmjaaGreatTB04
import Derived.Deep.LoopGhost
import Derived.Test.YtkedmiememnmjaaGreatTB06
import Derived.Test.YtkedmiememnmjaaGreatTB08
import Derived.Test.YtkedmiememnmjaaGreatTB07
import Derived.Test.YtkedmiememnmjaaGreatTB10
import Derived.Test.YtkedmiememnmjaaGreatTB01
import Derived.Deep.Draws
import Derived.Sort.Grow
import Derived.Test.YtkedmiememnmjaaGreatShelf
import Derived.Test.YtkedmiememnmjaaGreatTB05
namespace Go.Proofs.YtkedmiememnmjaaGreat

structure LawG (g : Gram) (k : Nat) : Prop where
  b : gramB g = true
  k1 : 1 ≤ k
  k4 : k ≤ 4
  few : g.2.1.length ≤ 3
  made : ∀ a, 0 ≤ a → a < (g.1.length : Int) → Makes g.2.2 a ∧ Stands g.2.2 a
theorem lawG_of {g : Gram} {k : Int} (h : ¬ BadK k g) (hm : g.2.1.length ≤ 3) : ∃ kk : Nat, k = (kk : Int) ∧ LawG g kk := by
  unfold BadK at h
  have h1 : ¬ k < 1 := fun e => h (.inl e)
  have h2 : ¬ 4 < k := fun e => h (.inr (.inl e))
  have h3 : checkN g = 0 := by
    rcases Decidable.em (checkN g = 0) with e | e
    · exact e
    · exact absurd (.inr (.inr e)) h
  have hb : gramB g = true := by
    unfold checkN at h3
    split at h3
    · assumption
    · cases h3
  have hw : wellE g.1.length g.2.1.length g.2.2 = 0 := by
    unfold checkN at h3
    rwa [if_pos hb] at h3
  exact ⟨k.toNat, by omega, hb, by omega, by omega, hm, wellE_ok (gramB_good hb).well hw⟩
section
variable {g : Gram} {k : Nat} (h : LawG g k)
include h
theorem LawG.well : WellG g.2.2 g.1.length := (gramB_good h.b).well
theorem LawG.wellT : WellT g.2.2 g.2.1.length := fun a r hr s hs => (((gramB_good h.b).fit (a, r) hr).2.2.2 s hs).2
theorem LawG.fewR : FewR g.2.2 := fun a r hr s hs => by
  have := h.wellT a r hr s hs
  have := h.few
  omega
theorem LawG.wellS : WellS g.2.2 := fun a r hr s hs => by
  have := h.fewR a r hr s hs
  omega
theorem LawG.n0 : 0 < g.1.length := (gramB_good h.b).n1
theorem LawG.sets {o : Option Sets} (ho : AheadO k g o) : ∃ s, o = some s ∧ MadeG g.2.2 g.1.length k s := by
  have hk4 : (k : Int) ≤ 4 := by have := h.k4; omega
  obtain ⟨o1, h1, h2⟩ := ho
  obtain ⟨s, rfl, hs1, hs2⟩ := h1.few hk4 h.well h.fewR
  obtain ⟨o2, h3, h4⟩ := h2
  obtain ⟨f, rfl, hf1, hf2⟩ := h3.few hk4 h.well h.fewR hs1 hs2
  obtain ⟨out, hout⟩ := aheadW_few hk4 hs1 hf1 g.2.2 (fun r hr => by
    have hw := h.well r.1 r.2 hr
    exact ⟨⟨hw.1, by rw [hf2]; exact hw.2.1⟩, fun x hx => ⟨h.fewR r.1 r.2 hr x hx, by rw [hs2]; exact hw.2.2 x hx⟩⟩)
  exact ⟨out, h4.trans hout, madeG h.n0 h.well h1 h3 hout⟩
end
noncomputable def ahD (rs : RuleL) (k : Nat) (w : Wd) (i : Nat) : Bool := @decide (∃ r, rs[i]? = some r ∧ AheadD rs k r w) (Classical.propDecidable _)
theorem ahD_ok (rs : RuleL) (k : Nat) (w : Wd) : AhOk rs k (ahD rs k) w := fun i r hr => by
  unfold ahD
  rw [@decide_eq_true_iff _ (Classical.propDecidable _)]
  constructor
  · rintro ⟨r', hr', h⟩
    rw [hr] at hr'
    injection hr' with e
    subst e
    exact h
  · exact fun h => ⟨r, hr, h⟩
theorem ahD_eq {g : Gram} {k : Nat} (h : LawG g k) {w : Wd} {T : TabD} {O : Nat → Nat → Bool} (hT : TabTo w g.2.2 g.1.length T) (hO : FolTo w T k g.2.2 g.1.length O) {i : Nat} (hi : i < g.2.2.length) : aheadB w T k O g.2.2[i] = ahD g.2.2 k w i := by
  rw [Bool.eq_iff_iff, aheadB_iff h.n0 h.well h.wellS h.made hT hO (List.getElem_mem hi)]
  exact (ahD_ok g.2.2 k w i _ (List.getElem?_eq_getElem hi)).symm
def predL : List Nat → Int
  | [] => -1
  | [i] => i
  | _ => -2
def matchTo (rs : RuleL) (ah : Nat → Bool) (a : Int) (i : Nat) : List Nat := (List.range i).filter fun i => decide ((rs.getD i (0, [])).1 = a) && ah i
theorem matchTo_all (rs : RuleL) (ah : Nat → Bool) (a : Int) : matchTo rs ah a rs.length = matchW rs ah a := rfl
theorem matchTo_succ (rs : RuleL) (ah : Nat → Bool) (a : Int) (i : Nat) : matchTo rs ah a (i + 1) = matchTo rs ah a i ++ if decide ((rs.getD i (0, [])).1 = a) && ah i then [i] else [] := by
  unfold matchTo
  rw [List.range_succ, List.filter_append]
  congr 1
  rw [List.filter_cons, List.filter_nil]
theorem matchTo_le {rs : RuleL} {ah : Nat → Bool} {a : Int} {i j : Nat} (h : i ≤ j) : (matchTo rs ah a i).length ≤ (matchTo rs ah a j).length := by
  have : ∀ d, (matchTo rs ah a i).length ≤ (matchTo rs ah a (i + d)).length := by
    intro d
    induction d with
    | zero => exact Nat.le_refl _
    | succ d ih =>
      rw [← Nat.add_assoc, matchTo_succ, List.length_append]
      omega
  have := this (j - i)
  rwa [show i + (j - i) = j by omega] at this
theorem predL_two {l : List Nat} (h : 2 ≤ l.length) : predL l = -2 := by
  match l, h with
  | _ :: _ :: _, _ => rfl
theorem predL_none {l : List Nat} (h : l.length ≤ 1) : predL l = -1 ↔ l = [] := by
  match l, h with
  | [], _ => simp [predL]
  | [i], _ => simp [predL]
theorem gram_bounds {g : Gram} (h : gramB g = true) : ∀ r ∈ g.2.2, 0 ≤ r.1 ∧ r.1 < (g.1.length : Int) ∧ ∀ s ∈ r.2, s < (g.1.length : Int) ∧ -256 ≤ s := fun r hr => by
  obtain ⟨f1, f2, f3, f4⟩ := (gramB_good h).fit r hr
  have := (gramB_good h).nm
  exact ⟨f1, f2, fun s hs => ⟨(f4 s hs).1, by have := (f4 s hs).2; omega⟩⟩
end Go.Proofs.YtkedmiememnmjaaGreat
namespace Go.Proofs.YtkedmiememnmjaaGreat
open Go.RowKit

set_option maxRecDepth 100000 in
set_option maxHeartbeats 16000000 in
theorem predict_any {A1 A2 A3 : Option Addr} {n m q c1 c2 c3 : Nat} {g : Gram} (k : Nat) (left : Int) (wd : Wd) (w : World) (h : GramR w w.heap.size A1 A2 A3 n m q c1 c2 c3 g) (hp : LawG g k) (hL : wd.length ≤ 4096) :
    Calls Tryz.prog 15 #[gramV A1 A2 A3 n m q c1 c2 c3, .int .i64 k, .int .i64 left, wv wd] w fun e w' => e = .returned (.int .i64 (predL (matchW g.2.2 (ahD g.2.2 k wd) left))) ∧ Below w.heap.size w w' := by
  have hbx := (Below.refl w.heap.size w).alloc (Nat.le_refl _) (.cells #[.slice A1 n c1, .slice A2 m c2, .slice A3 q c3] 25)
  have HV := Lib.hid ((h.fut (B' := w.heap.size + 1) hbx (Nat.le_refl _) (by omega)).rules)
  have HK := Lib.hid (Go.heap_alloc_new w (.cells #[.slice A1 n c1, .slice A2 m c2, .slice A3 q c3] 25))
  have HZ := Lib.hid (World.size_alloc w (.cells #[.slice A1 n c1, .slice A2 m c2, .slice A3 q c3] 25))
  have HBX := Lib.hid hbx
  have HCELL : Hid (∀ (w2 : World), w2.heap[w.heap.size]? = some (.cells #[.slice A1 n c1, .slice A2 m c2, .slice A3 q c3] 25 (0, 0)) → w2.cell? ⟨w.heap.size, 0, none⟩ = some (.slice A1 n c1) ∧ w2.cell? ⟨w.heap.size, 1, none⟩ = some (.slice A2 m c2) ∧ w2.cell? ⟨w.heap.size, 2, none⟩ = some (.slice A3 q c3)) := fun w2 hk => ⟨by rw [cell_of_row _ _ _ _ _ _ hk]; rfl, by rw [cell_of_row _ _ _ _ _ _ hk]; rfl, by rw [cell_of_row _ _ _ _ _ _ hk]; rfl⟩
  have HQ := Lib.hid h.ln.2.2
  have HN := Lib.hid h.ln.1
  have hn4 : n ≤ 4096 := by have := (gramB_good hp.b).nm; have := h.ln.1; omega
  have hn1 : 1 ≤ n := by have := hp.n0; have := h.ln.1; omega
  have hq4 := h.small.2.2
  have HW := Lib.hid (show ∀ r ∈ g.2.2, 0 ≤ r.1 ∧ r.1 < (n : Int) ∧ ∀ s ∈ r.2, s < (n : Int) ∧ -256 ≤ s by
    rw [h.ln.1]
    exact gram_bounds hp.b)
  have HP := Lib.hid hp
  obtain ⟨tot, htot⟩ : ∃ tot, tot = predL (matchW g.2.2 (ahD g.2.2 k wd) left) := ⟨_, rfl⟩
  rw [← htot]
  have HTOT := Lib.hid htot
  clear h hp hbx htot
  go_enter Tryz.func15, Tryz.ntmps15
  go_wp2_with fail
  generalize w.alloc (.cells #[.slice A1 n c1, .slice A2 m c2, .slice A3 q c3] 25) = w1 at *
  refine (makeTab_any (A1 := A1) (A2 := A2) (m := m) (c1 := c1) (c2 := c2) wd w1 (HV.out.fut (Below.refl (w.heap.size + 1) _) (Nat.le_refl _) (by rw [HZ.out]; exact Nat.le_refl _)) HW.out hL hn4 hq4).mono ?_
  rintro e w2 ⟨AE, AF, ce, cf, T, rfl, hT1, hT2, -, hb2⟩
  have HT1 := Lib.hid hT1
  have HB2 := Lib.hid (hb2.mono (Nat.le_of_eq HZ.out.symm))
  have HS2 := Lib.hid (show w.heap.size + 1 ≤ w2.heap.size by have := hb2.size; have := HZ.out; omega)
  have hb3 := (Below.refl w2.heap.size w2).alloc (Nat.le_refl _) (.cells #[.slice A1 n c1, .slice A2 m c2, .slice A3 q c3, wv wd, .slice AE n ce, .slice AF n cf] 68)
  have HT2 := Lib.hid (hT2.fut hb3 (Nat.le_refl _) hb3.size)
  have HB3 := Lib.hid (HB2.out.trans (hb3.mono HS2.out))
  have HK3 := Lib.hid (show _ = some (Obj.cells #[.slice A1 n c1, .slice A2 m c2, .slice A3 q c3, wv wd, .slice AE n ce, .slice AF n cf] 68 (0, 0)) from Go.heap_alloc_new w2 (.cells #[.slice A1 n c1, .slice A2 m c2, .slice A3 q c3, wv wd, .slice AE n ce, .slice AF n cf] 68))
  have HZ3 := Lib.hid (World.size_alloc w2 (.cells #[.slice A1 n c1, .slice A2 m c2, .slice A3 q c3, wv wd, .slice AE n ce, .slice AF n cf] 68))
  have HCT : Hid (∀ (w' : World), w'.heap[w2.heap.size]? = some (.cells #[.slice A1 n c1, .slice A2 m c2, .slice A3 q c3, wv wd, .slice AE n ce, .slice AF n cf] 68 (0, 0)) → w'.cell? ⟨w2.heap.size, 0, none⟩ = some (.slice A1 n c1) ∧ w'.cell? ⟨w2.heap.size, 1, none⟩ = some (.slice A2 m c2) ∧ w'.cell? ⟨w2.heap.size, 2, none⟩ = some (.slice A3 q c3) ∧ w'.cell? ⟨w2.heap.size, 3, none⟩ = some (wv wd) ∧ w'.cell? ⟨w2.heap.size, 4, none⟩ = some (.slice AE n ce) ∧ w'.cell? ⟨w2.heap.size, 5, none⟩ = some (.slice AF n cf)) := fun w' hk => ⟨by rw [cell_of_row _ _ _ _ _ _ hk]; rfl, by rw [cell_of_row _ _ _ _ _ _ hk]; rfl, by rw [cell_of_row _ _ _ _ _ _ hk]; rfl, by rw [cell_of_row _ _ _ _ _ _ hk]; rfl, by rw [cell_of_row _ _ _ _ _ _ hk]; rfl, by rw [cell_of_row _ _ _ _ _ _ hk]; rfl⟩
  clear hT1 hT2 hb2 hb3
  go_wp2_with fail
  generalize w2.alloc (.cells #[.slice A1 n c1, .slice A2 m c2, .slice A3 q c3, wv wd, .slice AE n ce, .slice AF n cf] 68) = w3 at *
  have HS3 := Lib.hid (show w.heap.size + 1 ≤ w3.heap.size by have := HS2.out; have := HZ3.out; omega)
  refine (follows20_any (A1 := A1) (A2 := A2) (m := m) (c1 := c1) (c2 := c2) wd k w3 (HV.out.fut HB3.out (Nat.le_refl _) HS3.out) HT2.out HW.out hL hn4 hn1 hq4).mono ?_
  rintro e w4 ⟨AO, co, O, rfl, hO1, hO2, -, hb4⟩
  have HAH := Lib.hid (show ∀ i (hi : i < g.2.2.length), aheadB wd T k O g.2.2[i] = ahD g.2.2 k wd i from fun i hi => ahD_eq HP.out (by rw [← HN.out]; exact HT1.out) (by rw [← HN.out]; exact hO1) hi)
  have HO2 := Lib.hid hO2
  have HB4 := Lib.hid (HB3.out.trans (hb4.mono HS3.out))
  have HS4 := Lib.hid (Nat.le_trans HS3.out hb4.size)
  have HT4 := Lib.hid (HT2.out.fut hb4 (Nat.le_refl _) hb4.size)
  have HK4 := Lib.hid ((hb4.block w2.heap.size (by have := HZ3.out; omega)).trans HK3.out)
  clear hO1 hO2 hb4
  go_wp2_with fail
  go_loopg [12, 11] q (fun lft v12 v11 wr => ∃ (i : Nat) (M : List Nat), i ≤ q ∧ q - i ≤ lft ∧ v12 = .int .i64 i ∧ v11 = .int .i64 (predL M) ∧ Hid (M = matchTo g.2.2 (ahD g.2.2 k wd) left i) ∧ Hid (M.length ≤ 1) ∧ Hid (Below w4.heap.size w4 wr))
  case atStart => exact ⟨0, [], by omega, by omega, rfl, rfl, rfl, Nat.zero_le _, Below.refl _ _⟩
  case round =>
    obtain ⟨i, M, hi, hlft, rfl, rfl, HM, HM1, HBW⟩ := hrel
    have HB5 := Lib.hid (HB4.out.trans (HBW.out.mono HS4.out))
    have HS5 := Lib.hid (Nat.le_trans HS4.out HBW.out.size)
    obtain ⟨a0, a1, a2⟩ := HCELL.out wr ((HB5.out.block w.heap.size (by omega)).trans HK.out)
    obtain ⟨t0, t1, t2, t3, t4, t5⟩ := HCT.out wr ((HBW.out.block w2.heap.size (Array.getElem?_eq_some_iff.1 HK4.out).1).trans HK4.out)
    by_cases hiq : i < q
    · have hil : i < g.2.2.length := by rw [← HQ.out]; exact hiq
      have HMS := Lib.hid (matchTo_succ g.2.2 (ahD g.2.2 k wd) left i)
      have hgd : g.2.2.getD i (0, []) = g.2.2[i] := by rw [List.getD_eq_getElem?_getD, List.getElem?_eq_getElem hil]; rfl
      rw [hgd] at HMS
      obtain ⟨b, off, cs, rfl, -, hbl, hrep, hcell⟩ := (HV.out.below HB5.out).get (k := i) hil (by decide)
      obtain ⟨v, rfl, -, -, -⟩ := eRule_open hrep
      have hc0 := hcell 0 _ rfl
      simp only [show eRule.size = 2 from rfl, Nat.add_zero] at hc0
      have hbl' : w4.heap.size ≤ wr.heap.size := HBW.out.size
      have hcall := ahead_any (A1 := A1) (A2 := A2) (A3 := some ⟨b, off, none⟩) (m := m) (q := q) (c1 := c1) (c2 := c2) (c3 := c3) wd k O i hil wr (HV.out.fut HB5.out (Nat.le_refl _) HS5.out) (HT4.out.fut HBW.out (Nat.le_refl _) hbl') (HO2.out.fut HBW.out (Nat.le_refl _) hbl') HW.out hL hn4
      rw [HAH.out i hil] at hcall
      obtain ⟨ba, hba⟩ : ∃ ba, ba = ahD g.2.2 k wd i := ⟨_, rfl⟩
      rw [← hba] at hcall HMS
      have HCALL := Lib.hid hcall
      obtain ⟨lf, hlf⟩ : ∃ lf, lf = g.2.2[i].1 := ⟨_, rfl⟩
      rw [← hlf] at hc0 HMS
      have HTW := Lib.hid (show matchTo g.2.2 (ahD g.2.2 k wd) left (i + 1) = M ++ [i] → M ≠ [] → tot = -2 from fun h1 h2 => by
        have h3 := matchTo_le (rs := g.2.2) (ah := ahD g.2.2 k wd) (a := left) (i := i + 1) (j := g.2.2.length) hil
        rw [matchTo_all, h1, List.length_append] at h3
        rw [HTOT.out]
        refine predL_two ?_
        have : 0 < M.length := List.length_pos_iff.2 h2
        simp at h3
        omega)
      clear hcell hrep hgd hcall hba hlf hil
      by_cases hll : lf = left
      · have hq1 : (lf != left) = false := by simpa using hll
        have HD := Lib.hid (show decide (lf = left) = true by simpa using hll)
        clear hll
        go_wp2_with fail
        refine HCALL.out.mono ?_
        rintro e w5 ⟨rfl, hb5⟩
        have HBW5 := Lib.hid (HBW.out.trans (hb5.mono hbl'))
        clear hb5
        cases ba with
        | false =>
          have HM2 := Lib.hid (show M = matchTo g.2.2 (ahD g.2.2 k wd) left (i + 1) by rw [HMS.out, ← HM.out]; simp)
          go_wp2_with fail
          go_roundg (gk - 1)
          case measure => omega
          case rel => exact ⟨i + 1, M, by omega, by omega, by go_num, rfl, HM2.out, HM1.out, HBW5.out⟩
        | true =>
          have HM2 := Lib.hid (show matchTo g.2.2 (ahD g.2.2 k wd) left (i + 1) = M ++ [i] by rw [HMS.out, ← HM.out, HD.out]; simp)
          by_cases hM : M = []
          · have hq2 : (predL M != -1) = false := by rw [(predL_none HM1.out).2 hM]; rfl
            have HM3 := Lib.hid (show [i] = matchTo g.2.2 (ahD g.2.2 k wd) left (i + 1) by rw [HM2.out, hM]; rfl)
            obtain ⟨pm, hpm⟩ : ∃ pm, pm = predL M := ⟨_, rfl⟩
            rw [← hpm] at hq2 ⊢
            clear hM hpm
            go_wp2_with fail
            go_roundg (gk - 1)
            case measure => omega
            case rel => exact ⟨i + 1, [i], by omega, by omega, by go_num, rfl, HM3.out, Nat.le_refl _, HBW5.out⟩
          · have hq2 : (predL M != -1) = true := by
              rw [bne_iff_ne]
              intro e
              exact hM ((predL_none HM1.out).1 e)
            have HE := Lib.hid (HTW.out HM2.out hM)
            obtain ⟨pm, hpm⟩ : ∃ pm, pm = predL M := ⟨_, rfl⟩
            rw [← hpm] at hq2 ⊢
            clear hM hpm
            go_wp2_with fail
            go_ret
            exact ⟨by rw [HE.out]; rfl, HBX.out.trans ((HB4.out.trans (HBW5.out.mono HS4.out)).mono (Nat.le_succ _))⟩
      · have hq1 : (lf != left) = true := by simpa using hll
        have HM2 := Lib.hid (show M = matchTo g.2.2 (ahD g.2.2 k wd) left (i + 1) by rw [HMS.out, ← HM.out, show decide (lf = left) = false by simpa using hll]; simp)
        clear hll
        go_wp2_with fail
        go_roundg (gk - 1)
        case measure => omega
        case rel => exact ⟨i + 1, M, by omega, by omega, by go_num, rfl, HM2.out, HM1.out, HBW.out⟩
    · have HE := Lib.hid (show tot = predL M by rw [HTOT.out, HM.out, ← matchTo_all, show i = g.2.2.length by rw [← HQ.out]; omega])
      go_wp2_with fail
      go_ret
      exact ⟨by rw [HE.out]; rfl, HBX.out.trans (HB5.out.mono (Nat.le_succ _))⟩
end Go.Proofs.YtkedmiememnmjaaGreat
namespace Go.Proofs.YtkedmiememnmjaaGreat
open Go.RowKit

set_option maxRecDepth 100000 in
set_option maxHeartbeats 4000000 in
theorem has19_any (A : Option Addr) (n c : Nat) (xs : List Wd) (x : Wd) (w : World) (hv : SlR eW w w.heap.size (.slice A n c) xs) :
    Calls Tryz.prog 16 #[.slice A n c, wv x] w fun e w' => e = .returned (.bool (decide (x ∈ xs))) ∧ w' = w := by
  have HV := Lib.hid hv
  have HN := Lib.hid hv.n_eq
  have hnc := hv.n_le
  clear hv
  go_enter Tryz.func16, Tryz.ntmps16
  go_wp2_with fail
  go_loopg [5] n (fun left v5 wr => ∃ i : Nat, i ≤ n ∧ n - i ≤ left ∧ v5 = .int .i64 i ∧ Hid (∀ (l : Nat) (h : l < xs.length), l < i → xs[l] ≠ x) ∧ wr = w)
  case atStart => exact ⟨0, by omega, by omega, rfl, fun l h hl => by omega, rfl⟩
  case round =>
    obtain ⟨i, hi, hleft, rfl, HNO, rfl⟩ := hrel
    by_cases hib : i < n
    · have hil : i < xs.length := by rw [← HN.out]; exact hib
      obtain ⟨b, off, rfl, -, -, hc⟩ := HV.out.wd hil
      have HMEM := Lib.hid (List.getElem_mem hil)
      by_cases hx : xs[i] = x
      · have hq : (xs[i] == x) = true := by rw [beq_iff_eq]; exact hx
        have HX := Lib.hid (show decide (x ∈ xs) = true by rw [decide_eq_true_eq, ← hx]; exact HMEM.out)
        obtain ⟨y, hy⟩ : ∃ y, y = xs[i] := ⟨_, rfl⟩
        rw [← hy] at hc hq
        clear hx hy
        go_wp2_with fail
        go_ret
        exact ⟨rt1 (vbool HX.out.symm), rfl⟩
      · have hq : (xs[i] == x) = false := by rw [beq_eq_false_iff_ne]; exact hx
        have HNO2 := Lib.hid (show ∀ (l : Nat) (h : l < xs.length), l < i + 1 → xs[l] ≠ x from fun l h hl => by
          by_cases e : l = i
          · subst e; exact hx
          · exact HNO.out l h (by omega))
        obtain ⟨y, hy⟩ : ∃ y, y = xs[i] := ⟨_, rfl⟩
        rw [← hy] at hc hq
        clear hx hy
        go_wp2_with fail
        go_roundg (gk - 1)
        case measure => omega
        case rel => exact ⟨i + 1, by omega, by omega, by go_num, HNO2.out, rfl⟩
    · have HX := Lib.hid (show decide (x ∈ xs) = false by
        rw [decide_eq_false_iff_not]
        intro h
        obtain ⟨l, hl, e⟩ := List.getElem_of_mem h
        exact HNO.out l hl (by have := HN.out; omega) e)
      go_wp2_with fail
      go_ret
      exact ⟨rt1 (vbool HX.out.symm), rfl⟩
end Go.Proofs.YtkedmiememnmjaaGreat
namespace Go.Proofs.YtkedmiememnmjaaGreat
open Go.RowKit

def Few14To (ns ts : List ByteArray) (rs : List (Int × List Int)) (w : World) (e : Ending) (w' : World) : Prop := ∃ z : Int, e = .returned (.int .i64 z) ∧ (z = 0 ∨ (z = 1 ∧ ns.length ≤ 12 ∧ ts.length ≤ 12 ∧ rs.length ≤ 40)) ∧ Below w.heap.size w w'
set_option maxHeartbeats 2000000 in
theorem few14_any (v1 v2 v3 : Value) (ns ts : List ByteArray) (rs : List (Int × List Int)) (w : World) (h1 : SlR eStr w w.heap.size v1 ns) (h2 : SlR eStr w w.heap.size v2 ts) (h3 : SlR eRule w w.heap.size v3 rs) :
    Calls Tryz.prog 6 #[.agg #[v1, v2, v3]] w (Few14To ns ts rs w) := by
  obtain ⟨A1, c1, rfl, hc1, hc1'⟩ := h1.form
  obtain ⟨A2, c2, rfl, hc2, hc2'⟩ := h2.form
  obtain ⟨A3, c3, rfl, hc3, hc3'⟩ := h3.form
  unfold maxLen at hc1' hc2' hc3'
  by_cases hgood : ns.length ≤ 12 ∧ ts.length ≤ 12 ∧ rs.length ≤ 40
  case neg =>
    have hcase : 12 < ns.length ∨ (ns.length ≤ 12 ∧ 12 < ts.length) ∨ (ns.length ≤ 12 ∧ ts.length ≤ 12 ∧ 40 < rs.length) := by omega
    rcases hcase with h | ⟨h0, h⟩ | ⟨h0, h0', h⟩
    all_goals
      go_enter Tryz.func6, Tryz.ntmps6
      go_wp2_with fail
      all_goals first
        | (exfalso; omega)
        | (go_ret; exact ⟨0, rfl, .inl rfl, by go_grown⟩)
  obtain ⟨g1, g2, g3⟩ := hgood
  go_enter Tryz.func6, Tryz.ntmps6
  go_wp2_with fail
  all_goals first
    | (exfalso; omega)
    | skip
  have HW : Hid (Below w.heap.size w (w.alloc (Obj.cells #[Value.slice A1 ns.length c1, Value.slice A2 ts.length c2, Value.slice A3 rs.length c3] 25))) := (Below.refl _ _).alloc (Nat.le_refl _) _
  have HS : Hid ((w.alloc (Obj.cells #[Value.slice A1 ns.length c1, Value.slice A2 ts.length c2, Value.slice A3 rs.length c3] 25)).heap.size = w.heap.size + 1) := by show _ = _; simp
  have k0 : (w.alloc (Obj.cells #[Value.slice A1 ns.length c1, Value.slice A2 ts.length c2, Value.slice A3 rs.length c3] 25)).cell? ⟨w.heap.size, 0, none⟩ = some (Value.slice A1 ns.length c1) := by simp
  have k1 : (w.alloc (Obj.cells #[Value.slice A1 ns.length c1, Value.slice A2 ts.length c2, Value.slice A3 rs.length c3] 25)).cell? ⟨w.heap.size, 1, none⟩ = some (Value.slice A2 ts.length c2) := by simp
  have k2 : (w.alloc (Obj.cells #[Value.slice A1 ns.length c1, Value.slice A2 ts.length c2, Value.slice A3 rs.length c3] 25)).cell? ⟨w.heap.size, 2, none⟩ = some (Value.slice A3 rs.length c3) := by simp
  generalize w.alloc (Obj.cells #[Value.slice A1 ns.length c1, Value.slice A2 ts.length c2, Value.slice A3 rs.length c3] 25) = W at HW HS k0 k1 k2 ⊢
  have h1W := h1.below HW.out
  have h2W := h2.below HW.out
  have h3W := h3.below HW.out
  clear h1 h2 h3
  go_loop [3] (fun v => ∃ k : Nat, k ≤ rs.length ∧ v = .int .i64 k) (fun v => rs.length - (intOf v).toNat)
  case atStart => exact ⟨0, by omega, rfl⟩
  case round =>
    obtain ⟨k, hk, rfl⟩ := hrel
    by_cases hlt : k < rs.length
    · obtain ⟨ab, ao, cs, rfl, _, hab, hrep, hcell⟩ := h3W.get hlt (by decide)
      obtain ⟨u, rfl, hu, hz1, hz2⟩ := eRule_open hrep
      obtain ⟨A4, e4, rfl, hq1, hq2⟩ := hu.form
      unfold maxLen at hq2
      have hc1' := hcell 1 _ rfl
      clear hcell
      simp only [show eRule.size = 2 from rfl, ← Nat.add_assoc] at hc1'
      go_wp2_with fail
      · go_ret
        exact ⟨0, rfl, .inl rfl, HW.out⟩
      · go_round
        case rel => exact ⟨k + 1, by omega, by go_num⟩
        case measure => simp [intOf]; omega
    go_wp2_with fail
    go_loop [4] (fun v => ∃ j : Nat, j ≤ ns.length ∧ v = .int .i64 j) (fun v => ns.length - (intOf v).toNat)
    case atStart => exact ⟨0, by omega, rfl⟩
    case round =>
      obtain ⟨j, hj, rfl⟩ := hrel
      by_cases hlj : j < ns.length
      · obtain ⟨ab, ao, cs, rfl, _, hab, hrep, hcell⟩ := h1W.get hlj (by decide)
        obtain ⟨rfl, hx1⟩ := hrep
        unfold maxLen at hx1
        have hc0 := hcell 0 _ rfl
        clear hcell
        simp only [show eStr.size = 1 from rfl, Nat.mul_one, Nat.add_zero] at hc0
        go_wp2_with fail
        · go_ret
          exact ⟨0, rfl, .inl rfl, HW.out⟩
        · go_round
          case rel => exact ⟨j + 1, by omega, by go_num⟩
          case measure => simp [intOf]; omega
      go_wp2_with fail
      go_loop [5] (fun v => ∃ i : Nat, i ≤ ts.length ∧ v = .int .i64 i) (fun v => ts.length - (intOf v).toNat)
      case atStart => exact ⟨0, by omega, rfl⟩
      case round =>
        obtain ⟨i, hi, rfl⟩ := hrel
        by_cases hli : i < ts.length
        · obtain ⟨ab, ao, cs, rfl, _, hab, hrep, hcell⟩ := h2W.get hli (by decide)
          obtain ⟨rfl, hx1⟩ := hrep
          unfold maxLen at hx1
          have hc0 := hcell 0 _ rfl
          clear hcell
          simp only [show eStr.size = 1 from rfl, Nat.mul_one, Nat.add_zero] at hc0
          go_wp2_with fail
          · go_ret
            exact ⟨0, rfl, .inl rfl, HW.out⟩
          · go_round
            case rel => exact ⟨i + 1, by omega, by go_num⟩
            case measure => simp [intOf]; omega
        go_wp2_with fail
        go_ret
        exact ⟨1, rfl, .inr ⟨rfl, g1, g2, g3⟩, HW.out⟩
end Go.Proofs.YtkedmiememnmjaaGreat
namespace Go.Proofs.YtkedmiememnmjaaGreat
open Go.RowKit

theorem size_many : ∀ (l : List Obj) (w : World), (l.foldl World.alloc w).heap.size = w.heap.size + l.length
  | [], w => rfl
  | o :: l, w => by rw [List.foldl_cons, size_many l, World.size_alloc, List.length_cons]; omega
theorem old_many : ∀ (l : List Obj) (w : World) (k : Nat), k < w.heap.size → (l.foldl World.alloc w).heap[k]? = w.heap[k]?
  | [], w, k, _ => rfl
  | o :: l, w, k, h => by rw [List.foldl_cons, old_many l _ k (by simp; omega), Below.heap_alloc _ _ _ h]
theorem heap_many : ∀ (l : List Obj) (w : World) (j : Nat) (o : Obj), l[j]? = some o → (l.foldl World.alloc w).heap[w.heap.size + j]? = some o
  | [], w, j, o, h => by simp at h
  | p :: l, w, 0, o, h => by
    rw [List.foldl_cons, old_many l _ _ (by simp)]
    cases h
    exact heap_alloc_new w p
  | p :: l, w, j + 1, o, h => by
    rw [List.foldl_cons]
    have := heap_many l (w.alloc p) j o h
    rwa [World.size_alloc, show w.heap.size + 1 + j = w.heap.size + (j + 1) by omega] at this
theorem below_many {B : Nat} {w : World} : ∀ (l : List Obj) (w' : World), Below B w w' → B ≤ w'.heap.size → Below B w (l.foldl World.alloc w')
  | [], w', h, _ => h
  | o :: l, w', h, hB => below_many l _ (h.alloc hB o) (by simp; omega)
def All2 {α : Type} (E : Elt α) (w : World) (B : Nat) : List (List Value) → List α → Prop
  | [], [] => True
  | c :: cs, x :: xs => E.rep w B c x ∧ All2 E w B cs xs
  | _, _ => False
theorem All2.at_ {α : Type} {E : Elt α} {w : World} {B : Nat} : ∀ {css : List (List Value)} {xs : List α}, All2 E w B css xs → css.length = xs.length ∧ ∀ (i : Nat) (cs : List Value) (x : α), css[i]? = some cs → xs[i]? = some x → E.rep w B cs x
  | [], [], _ => ⟨rfl, fun i cs x h => by simp at h⟩
  | c :: cs, x :: xs, h => by
    obtain ⟨h1, h2⟩ := All2.at_ h.2
    refine ⟨by simp [h1], fun i => ?_⟩
    match i with
    | 0 => intro a b e1 e2; cases e1; cases e2; exact h.1
    | i + 1 => intro a b e1 e2; exact h2 i a b (by simpa using e1) (by simpa using e2)
  | [], _ :: _, h => h.elim
  | _ :: _, [], h => h.elim
theorem SlR.row {α : Type} {E : Elt α} {w : World} {B g c : Nat} {e : TypeId} {fr : Nat × Nat} {cs : Array Value} (css : List (List Value)) {xs : List α} (h : w.heap[g]? = some (.cells cs e fr)) (hg : g < B) (hcs : cs.toList = css.flatten) (hr : All2 E w B css xs) (h1 : xs.length ≤ c) (h2 : c ≤ maxLen) {n : Nat} (hn : n = xs.length) :
    SlR E w B (.slice (some ⟨g, 0, none⟩) n c) xs := by
  subst hn
  obtain ⟨a1, a2⟩ := hr.at_
  exact ⟨some ⟨g, 0, none⟩, c, css, rfl, h1, h2, a1, hcs ▸ Rd.row h hg, a2⟩
def gA : Gram := ([⟨#[83]⟩], [⟨#[97]⟩], [(0, []), (0, [-1, 0])])
def awObjs (n : Nat) : List Obj := [.cells #[.string ⟨#[83]⟩] 9, .cells #[.string ⟨#[97]⟩] 9, .cells #[.int .i64 (-1), .int .i64 0] 3,
  .cells #[.int .i64 0, .slice none 0 0, .int .i64 0, .slice (some ⟨n + 2, 0, none⟩) 2 2] 48,
  .cells #[.slice (some ⟨n, 0, none⟩) 1 1, .slice (some ⟨n + 1, 0, none⟩) 1 1, .slice (some ⟨n + 3, 0, none⟩) 2 2] 25]
theorem aw_data (w W : World) (hW : W = (awObjs w.heap.size).foldl World.alloc w) : W.heap.size = w.heap.size + 5 ∧ Below w.heap.size w W ∧
    GramR W W.heap.size (some ⟨w.heap.size, 0, none⟩) (some ⟨w.heap.size + 1, 0, none⟩) (some ⟨w.heap.size + 3, 0, none⟩) 1 1 2 1 1 2 gA := by
  have hs : W.heap.size = w.heap.size + 5 := by rw [hW, size_many]; rfl
  have hq : ∀ j o, (awObjs w.heap.size)[j]? = some o → W.heap[w.heap.size + j]? = some o := fun j o h => by rw [hW]; exact heap_many _ w j o h
  have q0 := hq 0 _ rfl
  have q1 := hq 1 _ rfl
  have q2 := hq 2 _ rfl
  have q3 := hq 3 _ rfl
  refine ⟨hs, hW ▸ below_many _ w (Below.refl _ _) (Nat.le_refl _), ?_, ?_, ?_, by decide⟩
  · exact SlR.row (E := eStr) (B := W.heap.size) (xs := [⟨#[83]⟩]) [[.string ⟨#[83]⟩]] q0 (by omega) rfl ⟨⟨rfl, by decide⟩, trivial⟩ (Nat.le_refl _) (by decide) rfl
  · exact SlR.row (E := eStr) (B := W.heap.size) (xs := [⟨#[97]⟩]) [[.string ⟨#[97]⟩]] q1 (by omega) rfl ⟨⟨rfl, by decide⟩, trivial⟩ (Nat.le_refl _) (by decide) rfl
  · refine SlR.row (E := eRule) (B := W.heap.size) (xs := [(0, []), (0, [-1, 0])]) [[.int .i64 0, .slice none 0 0], [.int .i64 0, .slice (some ⟨w.heap.size + 2, 0, none⟩) 2 2]] q3 (by omega) rfl ⟨eRule_mk (r := (0, [])) SlR.nil_ (by decide) (by decide), eRule_mk (r := (0, [-1, 0])) ?_ (by decide) (by decide), trivial⟩ (Nat.le_refl _) (by decide) rfl
    exact SlR.row (E := eInt) (B := W.heap.size) (xs := [-1, 0]) [[.int .i64 (-1)], [.int .i64 0]] q2 (by omega) rfl ⟨⟨rfl, by decide, by decide⟩, ⟨rfl, by decide, by decide⟩, trivial⟩ (Nat.le_refl _) (by decide) rfl
end Go.Proofs.YtkedmiememnmjaaGreat
namespace Go.Proofs.YtkedmiememnmjaaGreat

def gAr : RuleL := [(0, []), (0, [-1, 0])]
theorem s1 : setOf [([] : Wd)] = [[]] := setOf_eq (by simp [Asc]) (by simp)
theorem s2 : setOf [([0] : Wd)] = [[0]] := setOf_eq (by simp [Asc]) (by simp)
theorem s3 : setOf [([] : Wd), [0]] = [[], [0]] := setOf_eq (by simp [Asc]) (by simp)
theorem s4 : setOf [([] : Wd), [0], []] = [[], [0]] := setOf_eq (by simp [Asc]) (by
  intro x
  simp only [List.mem_cons, List.not_mem_nil, or_false]
  constructor
  · rintro (h | h | h) <;> simp [h]
  · rintro (h | h) <;> simp [h])
theorem s5 : setOf [([] : Wd), [0], [0]] = [[], [0]] := setOf_eq (by simp [Asc]) (by simp)
theorem s6 : setOf [([0] : Wd), [0]] = [[0]] := setOf_eq (by simp [Asc]) (by simp)
theorem s7 : setOf [([] : Wd), []] = [[]] := setOf_eq (by simp [Asc]) (by simp)
theorem gA_first1 : firstRound 1 gAr [[]] = some ([[[], [0]]], true) := by
  simp [firstRound, roundW, growW, ofW, ofFrom, oneW, catW, prodW, unionW, tb, gAr, s1, s2, s3]
theorem gA_first2 : firstRound 1 gAr [[[], [0]]] = some ([[[], [0]]], false) := by
  simp [firstRound, roundW, growW, ofW, ofFrom, oneW, catW, prodW, unionW, tb, gAr, s2, s4, s5, s6]
theorem gA_first : FirstTo 1 gAr 1 (some [[[], [0]]]) := .more gA_first1 (.done gA_first2)
theorem gA_fol1 : folRound [[[], [0]]] 1 gAr [[[]]] = some ([[[]]], false) := by
  simp [folRound, spreadAll, spreadsW, spreadW, behindW, ofW, ofFrom, oneW, catW, prodW, unionW, gAr, s1, s3, s7]
theorem gA_fol : FollowTo [[[], [0]]] 1 gAr 1 (some [[[]]]) := .done gA_fol1
theorem gA_ahead : aheadW [[[], [0]]] [[[]]] 1 gAr = some [[[]], [[0]]] := by
  simp [aheadW, behindW, ofW, ofFrom, oneW, catW, prodW, tb, gAr, s1, s2, s6]
theorem gA_clash : clashW gAr 1 [[[]], [[0]]] = [] := by kernel_rfl
theorem gA_rows : rowsFrom 0 gAr [[[]], [[0]]] = [(0, [], 0), (0, [0], 1)] := by kernel_rfl
end Go.Proofs.YtkedmiememnmjaaGreat
namespace Go.Proofs.YtkedmiememnmjaaGreat
open Go.RowKit

theorem grown_of {w w' : World} (hb : Below w.heap.size w w') (hd : w.drawn ≤ w'.drawn) : ∃ q os', w' = Go.Sort.grow (w.drewN q) os' := by
  refine ⟨w'.drawn - w.drawn, w'.heap.extract w.heap.size w'.heap.size, ?_⟩
  refine world_eq ?_ hb.tape ?_ hb.os hb.output
  · show w'.heap = w.heap ++ w'.heap.extract w.heap.size w'.heap.size
    apply Array.ext_getElem?
    intro i
    by_cases hi : i < w.heap.size
    · rw [Array.getElem?_append_left hi]
      exact hb.block i hi
    · rw [Array.getElem?_append_right (by omega), Array.getElem?_extract]
      by_cases h2 : i < w'.heap.size
      · rw [if_pos (by omega)]
        congr 1
        omega
      · rw [if_neg (by omega), Array.getElem?_eq_none (by omega)]
  · show w'.drawn = w.drawn + (w'.drawn - w.drawn)
    omega
end Go.Proofs.YtkedmiememnmjaaGreat
namespace Go.Proofs.YtkedmiememnmjaaGreat
open Go.RowKit

def eRow : Elt Row := eProd eInt (eProd eW eInt)
abbrev rowc (x : Row) : List Value := [.int .i64 x.1, wv x.2.1, .int .i64 x.2.2]
abbrev rowv (x : Row) : Value := .agg #[.int .i64 x.1, wv x.2.1, .int .i64 x.2.2]
theorem eRow_open {w : World} {B : Nat} {cs : List Value} {x : Row} (h : eRow.rep w B cs x) : cs = rowc x ∧ (-9223372036854775808 ≤ x.1 ∧ x.1 ≤ 9223372036854775807) ∧ x.2.1.length ≤ maxLen ∧ (-9223372036854775808 ≤ x.2.2 ∧ x.2.2 ≤ 9223372036854775807) := by
  obtain ⟨c1, c2, rfl, ⟨rfl, h1, h2⟩, c3, c4, rfl, h3, ⟨rfl, h5, h6⟩⟩ := h
  obtain ⟨rfl, h4⟩ := eW_open h3
  exact ⟨rfl, ⟨h1, h2⟩, h4, h5, h6⟩
theorem eRow_mk {w : World} {B : Nat} {x : Row} (h1 : -9223372036854775808 ≤ x.1) (h2 : x.1 ≤ 9223372036854775807) (h3 : x.2.1.length ≤ maxLen) (h4 : -9223372036854775808 ≤ x.2.2) (h5 : x.2.2 ≤ 9223372036854775807) : eRow.rep w B (rowc x) x :=
  ⟨_, _, rfl, ⟨rfl, h1, h2⟩, _, _, rfl, eW_mk h3, ⟨rfl, h4, h5⟩⟩
theorem SlR.rowAt {w : World} {B : Nat} {A : Option Addr} {n c : Nat} {xs : List Row} (h : SlR eRow w B (.slice A n c) xs) {k : Nat} (hk : k < xs.length) : ∃ b off, A = some ⟨b, off, none⟩ ∧ n ≤ c ∧ b < B ∧
    w.cell? ⟨b, off + k * 3, none⟩ = some (.int .i64 xs[k].1) ∧ w.cell? ⟨b, off + k * 3 + 1, none⟩ = some (wv xs[k].2.1) ∧ w.cell? ⟨b, off + k * 3 + 2, none⟩ = some (.int .i64 xs[k].2.2) ∧ eRow.rep w B (rowc xs[k]) xs[k] := by
  obtain ⟨b, off, cs, e, h1, h2, h3, h4⟩ := h.get hk (by decide)
  have hr := h3
  obtain ⟨rfl, _⟩ := eRow_open h3
  have a0 := h4 0 _ rfl
  have a1 := h4 1 _ rfl
  have a2 := h4 2 _ rfl
  simp only [show eRow.size = 3 from rfl, Nat.add_zero, ← Nat.add_assoc] at a0 a1 a2
  exact ⟨b, off, e, h1, h2, a0, a1, a2, hr⟩
def ordR (x y : Row) : Int := if x.1 = y.1 then Lib.compareBytes x.2.1 y.2.1 else Lib.compareInt x.1 y.1
theorem compare_lt : ∀ a b : Wd, Lib.compareBytes a b < 0 ↔ a < b
  | [], [] => by simp [Lib.compareBytes]
  | [], b :: lb => by simp [Lib.compareBytes]
  | a :: la, [] => by simp [Lib.compareBytes]
  | a :: la, b :: lb => by
    rw [List.cons_lt_cons_iff]
    unfold Lib.compareBytes
    by_cases h : a < b
    · simp [h]
    · rw [if_neg h]
      by_cases h2 : b < a
      · rw [if_pos h2]
        have hne : a ≠ b := fun e => by subst e; exact h h2
        simp [h, hne]
      · rw [if_neg h2]
        have e : a = b := UInt8.le_antisymm (UInt8.not_lt.1 h2) (UInt8.not_lt.1 h)
        subst e
        rw [compare_lt la lb]
        simp [UInt8.lt_irrefl]
theorem compare_eq : ∀ a b : Wd, Lib.compareBytes a b = 0 ↔ a = b
  | [], [] => by simp [Lib.compareBytes]
  | [], b :: lb => by simp [Lib.compareBytes]
  | a :: la, [] => by simp [Lib.compareBytes]
  | a :: la, b :: lb => by
    unfold Lib.compareBytes
    by_cases h : a < b
    · rw [if_pos h]
      have hne : a ≠ b := fun e => by subst e; exact UInt8.lt_irrefl _ h
      simp [hne]
    · rw [if_neg h]
      by_cases h2 : b < a
      · rw [if_pos h2]
        have hne : a ≠ b := fun e => by subst e; exact h h2
        simp [hne]
      · rw [if_neg h2]
        have e : a = b := UInt8.le_antisymm (UInt8.not_lt.1 h2) (UInt8.not_lt.1 h)
        subst e
        rw [compare_eq la lb]
        simp
theorem ordR_lt (x y : Row) : ordR x y < 0 ↔ rowLt x y := by
  unfold ordR rowLt
  split
  · rename_i h
    rw [compare_lt]
    constructor
    · exact fun h2 => .inr ⟨h, h2⟩
    · rintro (h2 | ⟨_, h2⟩)
      · omega
      · exact h2
  · rename_i h
    unfold Lib.compareInt
    split
    · rename_i h1
      simp [h1]
    · rename_i h1
      split <;> omega
theorem ordR_eq (x y : Row) : ordR x y = 0 ↔ x.1 = y.1 ∧ x.2.1 = y.2.1 := by
  unfold ordR
  split
  · rename_i h
    rw [compare_eq]
    simp [h]
  · rename_i h
    unfold Lib.compareInt
    simp only [h, false_and, iff_false]
    split
    · simp
    · split
      · simp
      · omega
set_option maxHeartbeats 800000 in
theorem order_any (x y : Row) (w : World) : Calls Tryz.prog 24 #[rowv x, rowv y] w fun e w' => e = .returned (.int .i64 (ordR x y)) ∧ Below w.heap.size w w' ∧ w.drawn ≤ w'.drawn := by
  obtain ⟨a, s, i⟩ := x
  obtain ⟨b, t, j⟩ := y
  by_cases h : a = b
  · have hq : (a == b) = true := by simp [h]
    have HO := Lib.hid (show ordR (a, s, i) (b, t, j) = Lib.compareBytes s t by unfold ordR; rw [if_pos h])
    clear h
    go_enter Tryz.func24, Tryz.ntmps24
    go_wp2_with fail
    refine (Tryz.strings_Compare ⟨s.toArray⟩ ⟨t.toArray⟩ _).mono ?_
    rintro e w1 ⟨rfl, rfl⟩
    go_wp2_with fail
    go_ret
    exact ⟨rt1 (vint HO.out.symm), by go_grown, Nat.le_refl _⟩
  · have hq : (a == b) = false := by simp [h]
    have HO := Lib.hid (show ordR (a, s, i) (b, t, j) = Lib.compareInt a b by unfold ordR; rw [if_neg h])
    clear h
    go_enter Tryz.func24, Tryz.ntmps24
    go_wp2_with fail
    refine (Tryz.cmp_Compare_int a b _).mono ?_
    rintro e w1 ⟨rfl, rfl⟩
    go_wp2_with fail
    go_ret
    exact ⟨rt1 (vint HO.out.symm), by go_grown, Nat.le_refl _⟩
end Go.Proofs.YtkedmiememnmjaaGreat
namespace Go.Proofs.YtkedmiememnmjaaGreat
open Go.RowKit

def overB (n : Int) (s : Wd) : Bool := s.all fun c => decide ((c.toNat : Int) < n)
def wordOk (n k : Int) (s : Wd) : Bool := overB n s && decide ((s.length : Int) ≤ k)
theorem overB_take {n : Int} {s : Wd} {i : Nat} (h : i < s.length) : overB n (s.take (i + 1)) = (overB n (s.take i) && decide ((s[i].toNat : Int) < n)) := by
  unfold overB
  rw [List.take_succ_eq_append_getElem h, List.all_append]
  simp
theorem overB_bad {n : Int} {s : Wd} {i : Nat} (h : i < s.length) (hb : ¬ ((s[i].toNat : Int) < n)) : overB n s = false := by
  unfold overB
  rw [List.all_eq_false]
  exact ⟨s[i], List.getElem_mem h, by simpa using hb⟩
set_option maxHeartbeats 1600000 in
theorem wordValid_any (s : Wd) (n k : Int) (w : World) (hs : s.length ≤ maxLen) : Calls Tryz.prog 32 #[wv s, .int .i64 n, .int .i64 k] w fun e w' => e = .returned (.bool (wordOk n k s)) ∧ Below w.heap.size w w' := by
  obtain ⟨W, cw, hcv, hbW, hsW, hrd⟩ := conv_own (P := Tryz.prog) w 9 72 5 ⟨s.toArray⟩ Tryz.underlying9 Tryz.underlying72 Tryz.underlying5
  rw [wv_size] at hcv
  have HRD := Lib.hid (show Rd W (w.heap.size + 1) (some ⟨w.heap.size, 0, none⟩) (bcells s) from hrd)
  have HBW := Lib.hid hbW
  have HSW := Lib.hid hsW
  have hz := wv_size s
  obtain ⟨n0, hn0⟩ : ∃ n0, n0 = s.length := ⟨_, rfl⟩
  rw [← hn0] at hcv hz hs
  unfold maxLen at hs
  have HN := Lib.hid hn0
  have HLK := Lib.hid (show wordOk n k s = (overB n s && decide ((n0 : Int) ≤ k)) by unfold wordOk; rw [hn0])
  clear hrd hbW hsW hn0
  go_enter Tryz.func32, Tryz.ntmps32
  go_wp2_with fail
  go_loopg [12] n0 (fun left v12 wr => ∃ i : Nat, i ≤ n0 ∧ n0 - i ≤ left ∧ v12 = .int .i64 i ∧ wr = W ∧ Hid (overB n (s.take i) = true))
  case atStart => exact ⟨0, by omega, by omega, rfl, rfl, rfl⟩
  case round =>
    obtain ⟨i, hi, hleft, rfl, rfl, HO⟩ := hrel
    by_cases hib : i < n0
    · have hil : i < s.length := by rw [← HN.out]; exact hib
      obtain ⟨bb, bo, hbe, hbb, hcb⟩ := HRD.out.byte hil
      injection hbe with hbe
      injection hbe with e1 e2
      subst e1 e2
      rw [Nat.zero_add] at hcb
      have HT := Lib.hid (overB_take (n := n) hil)
      have HBAD := Lib.hid (overB_bad (n := n) hil)
      have hx1 := s[i].toNat_lt
      obtain ⟨x, hx, hx2, hx3⟩ : ∃ x : Int, ((s[i].toNat : Nat) : Int) = x ∧ 0 ≤ x ∧ x < 256 := ⟨_, rfl, by omega, by omega⟩
      rw [hx] at hcb HT HBAD
      clear hx hx1 hil
      by_cases hxn : x < n
      · have hd : decide (n ≤ x) = false := by simpa using hxn
        go_wp2_with fail
        go_roundg (gk - 1)
        case measure => omega
        case rel => exact ⟨i + 1, by omega, by omega, by go_num, rfl, by show _ = _; rw [HT.out, HO.out]; simpa using hxn⟩
      · have hd : decide (n ≤ x) = true := by simpa using hxn
        go_wp2_with fail
        go_ret
        exact ⟨rt1 (vbool (by rw [HLK.out, HBAD.out hxn]; rfl)), HBW.out⟩
    · have HF := Lib.hid (show overB n s = true by
        have := HO.out
        rwa [List.take_of_length_le (by rw [← HN.out]; omega)] at this)
      go_wp2_with fail
      go_ret
      exact ⟨rt1 (vbool (by rw [HLK.out, HF.out]; simp)), HBW.out⟩
end Go.Proofs.YtkedmiememnmjaaGreat
namespace Go.Proofs.YtkedmiememnmjaaGreat
open Go.RowKit

theorem row_app : AppTy Tryz.prog 28 54 3 32 (.agg #[.int .i64 0, .string ⟨#[]⟩, .int .i64 0]) := appTy (by kernel_rfl) (by kernel_rfl) rfl (by omega)
def rcells (xs : List Row) : List Value := (xs.map rowc).flatten
theorem rcells_snoc (xs : List Row) (x : Row) : rcells (xs ++ [x]) = rcells xs ++ rowc x := by simp [rcells]
theorem rcells_len (xs : List Row) : (rcells xs).length = xs.length * 3 := by
  induction xs with
  | nil => rfl
  | cons x l ih => unfold rcells at *; rw [List.map_cons, List.flatten_cons, List.length_append, ih, List.length_cons]; simp; omega
def FitR (xs : List Row) : Prop := ∀ x ∈ xs, (-9223372036854775808 ≤ x.1 ∧ x.1 ≤ 9223372036854775807) ∧ x.2.1.length ≤ maxLen ∧ (-9223372036854775808 ≤ x.2.2 ∧ x.2.2 ≤ 9223372036854775807)
theorem slR_own {w : World} {base : Nat} {t : TypeId} {v : Value} {xs : List Row} (hf : FitR xs) (h : w.ownsRow base t 3 v xs.length (rcells xs)) : SlR eRow w w.heap.size v xs := by
  obtain ⟨A, c, rfl, h1, h2⟩ := own_form h
  refine ⟨A, c, xs.map rowc, rfl, h1, h2, by simp, Rd.of_own h, fun i cs x hc hx => ?_⟩
  rw [List.getElem?_map, hx] at hc
  injection hc with hc
  subst hc
  obtain ⟨⟨a1, a2⟩, a3, a4, a5⟩ := hf x (List.mem_of_getElem? hx)
  exact eRow_mk a1 a2 a3 a4 a5
end Go.Proofs.YtkedmiememnmjaaGreat
